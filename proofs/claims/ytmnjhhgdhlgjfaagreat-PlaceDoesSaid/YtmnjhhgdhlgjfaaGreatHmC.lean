/- Memory, as rows of typed elements: what a slice holds, what stays, what is made; and 'append'. No condition. Memory, as rows of typed elements: rows of one's own, typed. No condition. Memory, as rows of typed elements: kinds of elements; a variable's block; steps. Comparing structs. No condition. -/
import Derived.Test.YtmnjhhgdhlgjfaaGreatShJ
import Derived.Laws.AppendOwn
import Derived.Laws.StructEq
namespace Go.Sh
open Go
set_option linter.unusedVariables false
set_option linter.unusedSimpArgs false
variable {P : Program}

/-! ### What stays -/
/-- a set of blocks stays -/
def SK (A : Nat → Prop) (h h' : H) : Prop := h.size ≤ h'.size ∧ ∀ b : Nat, A b → h'[b]? = h[b]?
/-- the blocks below -/
abbrev Bel (B : Nat) : Nat → Prop := fun k => k < B
/-- the blocks of a heap but one -/
abbrev But (h : H) (b : Option Addr) : Nat → Prop := fun k => k < h.size ∧ ∀ a, b = some a → a.block ≠ k
theorem SK.refl (A : Nat → Prop) (h : H) : SK A h h := ⟨Nat.le_refl _, fun _ _ => rfl⟩
theorem SK.trans {A : Nat → Prop} {a b c : H} (h : SK A a b) (k : SK A b c) : SK A a c := ⟨Nat.le_trans h.1 k.1, fun i hi => (k.2 i hi).trans (h.2 i hi)⟩
theorem SK.less {A A' : Nat → Prop} {a b : H} (h : SK A a b) (hb : ∀ k, A' k → A k) : SK A' a b := ⟨h.1, fun i hi => h.2 i (hb i hi)⟩
theorem SK.push (h : H) (o : Obj) : SK (Bel h.size) h (h.push o) := ⟨by simp, fun b hb => Array.getElem?_push_lt hb ▸ (Array.getElem?_eq_getElem hb).symm ▸ rfl⟩
theorem SK.ext {h h' : H} (k : SK (Bel h.size) h h') : ExtH h h' := ⟨k.1, fun b o e => by rw [k.2 b (Array.getElem?_eq_some_iff.1 e).1]; exact e⟩
/-- ... but for loops' records -/
def Keep (A : Nat → Prop) (h h' : H) : Prop := h.size ≤ h'.size ∧ ∀ b : Nat, A b → ∀ o, h[b]? = some o → loopish o = false → h'[b]? = some o
theorem SK.w {A : Nat → Prop} {h h' : H} (k : SK A h h') : Keep A h h' := ⟨k.1, fun b hb o e _ => by rw [k.2 b hb]; exact e⟩
theorem Keep.refl (A : Nat → Prop) (h : H) : Keep A h h := ⟨Nat.le_refl _, fun _ _ _ e _ => e⟩
theorem Keep.trans {A : Nat → Prop} {a b c : H} (h : Keep A a b) (k : Keep A b c) : Keep A a c := ⟨Nat.le_trans h.1 k.1, fun i hi o e hl => k.2 i hi o (h.2 i hi o e hl) hl⟩
theorem Keep.less {A A' : Nat → Prop} {a b : H} (h : Keep A a b) (hb : ∀ k, A' k → A k) : Keep A' a b := ⟨h.1, fun i hi => h.2 i (hb i hi)⟩
theorem Keep.cell {A : Nat → Prop} {h h' : H} {a : Addr} {v : Value} (k : Keep A h h') (ha : A a.block) (e : cell h a = some v) : cell h' a = some v := by
  unfold Sh.cell at *
  cases hb : h[a.block]? with
  | none => rw [hb] at e; cases e
  | some o =>
    rw [hb] at e
    cases o <;> first | (cases e; done) | skip
    rw [k.2 _ ha _ hb rfl]; exact e
theorem setc_size (h : H) (a : Addr) (v : Value) : (setc h a v).size = h.size := by simp [Sh.setc]
theorem SK.setc {A : Nat → Prop} {h : H} {a : Addr} {v : Value} (ha : ¬ A a.block) : SK A h (setc h a v) := by
  refine ⟨by simp [Sh.setc], fun b hb => ?_⟩
  unfold Sh.setc
  rw [Array.getElem?_modify]
  rw [if_neg (fun e : a.block = b => ha (by rw [e]; exact hb))]

theorem add_block (a : Addr) (n : Nat) : (a.add n).block = a.block := by unfold Addr.add; split <;> rfl
theorem add_zero' (a : Addr) : a.add 0 = a := rfl
theorem add_add (a : Addr) (m n : Nat) : (a.add m).add n = a.add (m + n) := by
  unfold Addr.add
  by_cases hm : m = 0
  · simp [hm]
  · by_cases hn : n = 0
    · simp [hm, hn]
    · have : m + n ≠ 0 := by omega
      simp [hm, hn, this]; omega

/-! ### Typed elements -/
/-- a kind of elements: how many cells, and what they hold -/
structure El (α : Type) where
  sz : Nat
  R : (Nat → Prop) → H → α → List Value → Prop
  len : ∀ B h x cs, R B h x cs → cs.length = sz
  one : ∀ B h x cs, R B h x cs → ∀ v ∈ cs, v.oneCell' = true
  keep : ∀ B B' h h' x cs, R B h x cs → Keep (fun k => B k ∧ k < h.size) h h' → (∀ k, B k → k < h.size → B' k) → R B' h' x cs
  pos : 0 < sz

variable {α : Type} {E : El α}

/-- an element lies at an address -/
def At (E : El α) (B : Nat → Prop) (h : H) (a : Addr) (x : α) : Prop :=
  B a.block ∧ ∃ cs, E.R B h x cs ∧ ∀ (j : Nat) v, cs[j]? = some v → cell h (a.add j) = some v
theorem cell_lt {h : H} {a : Addr} {v : Value} (e : cell h a = some v) : a.block < h.size := by
  unfold Sh.cell at e
  cases hb : h[a.block]? with
  | none => rw [hb] at e; cases e
  | some o => exact (Array.getElem?_eq_some_iff.1 hb).1
theorem At.lt {B : Nat → Prop} {h : H} {a : Addr} {x : α} (hA : At E B h a x) : a.block < h.size := by
  obtain ⟨h1, cs, h2, h3⟩ := hA
  have hl := E.len _ _ _ _ h2
  have hp := E.pos
  have := cell_lt (h3 0 _ (List.getElem?_eq_getElem (by omega)))
  rwa [add_block] at this
theorem At.keep {B B' : Nat → Prop} {h h' : H} {a : Addr} {x : α} (hA : At E B h a x) (k : Keep (fun k => B k ∧ k < h.size) h h') (hb : ∀ k, B k → k < h.size → B' k) : At E B' h' a x := by
  have hlt := hA.lt
  obtain ⟨h1, cs, h2, h3⟩ := hA
  exact ⟨hb _ h1 hlt, cs, E.keep _ _ _ _ _ _ h2 k hb, fun j v hv => k.cell (by rw [add_block]; exact ⟨h1, hlt⟩) (h3 j v hv)⟩
/-- all that is stays -/
abbrev KB (h h' : H) : Prop := SK (Bel h.size) h h'
theorem KB.refl (h : H) : KB h h := SK.refl _ _
theorem KB.trans {a b c : H} (h : KB a b) (k : KB b c) : KB a c := ⟨Nat.le_trans h.1 k.1, fun i hi => (k.2 i (Nat.lt_of_lt_of_le hi h.1)).trans (h.2 i hi)⟩
/-- ... but for loops' records -/
abbrev KW (h h' : H) : Prop := Keep (Bel h.size) h h'
theorem KW.refl (h : H) : KW h h := Keep.refl _ _
theorem KW.trans {a b c : H} (h : KW a b) (k : KW b c) : KW a c := ⟨Nat.le_trans h.1 k.1, fun i hi o e hl => k.2 i (Nat.lt_of_lt_of_le hi h.1) o (h.2 i hi o e hl) hl⟩
theorem KB.w {h h' : H} (k : KB h h') : KW h h' := SK.w k
theorem At.kw {B : Nat → Prop} {h h' : H} {a : Addr} {x : α} (hA : At E B h a x) (k : KW h h') : At E B h' a x := hA.keep (k.less fun _ h => h.2) fun _ h _ => h
theorem At.kb {B : Nat → Prop} {h h' : H} {a : Addr} {x : α} (hA : At E B h a x) (k : KB h h') : At E B h' a x := hA.kw (KB.w k)

/-- a slice's elements -/
structure Row (E : El α) (B : Nat → Prop) (h : H) (b : Option Addr) (n c : Nat) (l : List α) : Prop where
  len : l.length = n
  cap : n ≤ c
  max : c ≤ maxLen
  at' : ∀ (i : Nat) (x : α), l[i]? = some x → ∃ a, b = some a ∧ At E B h (a.add (i * E.sz)) x
theorem Row.keep {B B' : Nat → Prop} {h h' : H} {b : Option Addr} {n c : Nat} {l : List α} (r : Row E B h b n c l) (k : Keep (fun k => B k ∧ k < h.size) h h') (hb : ∀ k, B k → k < h.size → B' k) : Row E B' h' b n c l :=
  ⟨r.len, r.cap, r.max, fun i x hx => by obtain ⟨a, e, hA⟩ := r.at' i x hx; exact ⟨a, e, hA.keep k hb⟩⟩
theorem Row.kw {B : Nat → Prop} {h h' : H} {b : Option Addr} {n c : Nat} {l : List α} (r : Row E B h b n c l) (k : KW h h') : Row E B h' b n c l := r.keep (k.less fun _ h => h.2) fun _ h _ => h
theorem Row.kb {B : Nat → Prop} {h h' : H} {b : Option Addr} {n c : Nat} {l : List α} (r : Row E B h b n c l) (k : KB h h') : Row E B h' b n c l := r.kw (KB.w k)
theorem Row.any {B : Nat → Prop} {h : H} {b : Option Addr} {n c : Nat} {l : List α} (r : Row E B h b n c l) : Row E (fun _ => True) h b n c l := r.keep (Keep.refl _ _) fun _ _ _ => trivial
theorem Row.nil (B : Nat → Prop) (h : H) : Row E B h none 0 0 [] := ⟨rfl, Nat.le_refl _, Nat.zero_le _, fun i x hx => by simp at hx⟩

/-- a slice's element at a place -/
theorem Row.idx {B : Nat → Prop} {h : H} {b : Option Addr} {n c : Nat} {l : List α} {K : Addr → Prop} (r : Row E B h b n c l) {i : Int} (h0 : 0 ≤ i) (h1 : i < (l.length : Int)) {z : Nat} (hz : z = E.sz)
    (hk : ∀ (a : Addr) (hi : i.toNat < l.length), At E B h (a.add (i.toNat * z)) l[i.toNat] → K a) : (0 ≤ i ∧ i < (n : Int)) ∧ vSome b fun a => K a := by
  subst hz
  have hi : i.toNat < l.length := by omega
  obtain ⟨a, rfl, hA⟩ := r.at' i.toNat _ (List.getElem?_eq_getElem hi)
  exact ⟨⟨h0, by rw [← r.len]; exact h1⟩, hk a hi hA⟩

theorem Row.idxN {B : Nat → Prop} {h : H} {b : Option Addr} {n c : Nat} {l : List α} {K : Addr → Prop} (r : Row E B h b n c l) {i : Nat} (hi : i < l.length) {z : Nat} (hz : z = E.sz)
    (hk : ∀ a : Addr, At E B h (a.add (i * z)) l[i] → K a) : (0 ≤ (i : Int) ∧ (i : Int) < (n : Int)) ∧ vSome b fun a => K a :=
  r.idx (by omega) (by omega) hz fun a hi2 hA => hk a (by simpa using hA)

/-- a slice of a slice -/
theorem Row.sub {B : Nat → Prop} {h : H} {b : Option Addr} {n c : Nat} {l : List α} (r : Row E B h b n c l) {lo hi : Nat} (h1 : lo ≤ hi) (h2 : hi ≤ n) {z : Nat} (hz : z = E.sz) :
    Row E B h (if c = lo then b else Option.map (fun q => q.add (lo * z)) b) (hi - lo) (c - lo) ((l.take hi).drop lo) := by
  subst hz
  have hl := r.len
  have hc := r.cap
  have hm := r.max
  refine ⟨by simp [hl]; omega, by omega, by omega, fun i x hx => ?_⟩
  rw [List.getElem?_drop, List.getElem?_take] at hx
  split at hx
  · rename_i hlt
    obtain ⟨a, rfl, hA⟩ := r.at' _ x hx
    rw [if_neg (by omega)]
    exact ⟨_, rfl, by rw [add_add, ← Nat.add_mul]; exact hA⟩
  · cases hx

theorem Row.sub3 {B : Nat → Prop} {h : H} {b : Option Addr} {n c : Nat} {l : List α} (r : Row E B h b n c l) {lo hi m : Nat} (h1 : lo ≤ hi) (h2 : hi ≤ n) (h3 : hi ≤ m) (h4 : m ≤ c) {z : Nat} (hz : z = E.sz) :
    Row E B h (if m = lo then b else Option.map (fun q => q.add (lo * z)) b) (hi - lo) (m - lo) ((l.take hi).drop lo) := by
  subst hz
  have hl := r.len
  have hc := r.cap
  have hm := r.max
  refine ⟨by simp [hl]; omega, by omega, by omega, fun i x hx => ?_⟩
  rw [List.getElem?_drop, List.getElem?_take] at hx
  split at hx
  · rename_i hlt
    obtain ⟨a, rfl, hA⟩ := r.at' _ x hx
    rw [if_neg (by omega)]
    exact ⟨_, rfl, by rw [add_add, ← Nat.add_mul]; exact hA⟩
  · cases hx

/-! ### Rows that are one's own -/
/-- the cells of a row of one's own (or of no place at all) -/
structure Own (h : H) (base : Nat) (e sz : Nat) (b : Option Addr) (n c : Nat) (xs : List Value) : Prop where
  len : xs.length = n * sz
  cap : n ≤ c
  max : c ≤ maxLen
  is : (n = 0 ∧ c = 0) ∨ ∃ g cur, b = some ⟨g, 0, none⟩ ∧ base ≤ g ∧ h[g]? = some (.cells cur e (0, 0)) ∧ cur.size = c * sz ∧ cur.toList.take (n * sz) = xs

/-- the cells from an address on -/
def Cells (h : H) (b : Option Addr) (cs : List Value) : Prop := ∀ (j : Nat) v, cs[j]? = some v → ∃ a, b = some a ∧ cell h (a.add j) = some v

theorem cell_lit {h : H} {g j e : Nat} {cur : Array Value} {fz : Nat × Nat} (hg : h[g]? = some (.cells cur e fz)) : cell h ((⟨g, 0, none⟩ : Addr).add j) = cur[j]? := by
  have : ((⟨g, 0, none⟩ : Addr).add j) = ⟨g, j, none⟩ := by unfold Addr.add; split <;> simp_all
  rw [this]
  unfold Sh.cell
  simp only [hg]
  rfl
theorem Own.cells {h : H} {base e sz n c : Nat} {b : Option Addr} {xs : List Value} (o : Own h base e sz b n c xs) : Cells h b xs := by
  intro j v hv
  have hj : j < xs.length := (List.getElem?_eq_some_iff.1 hv).1
  rw [o.len] at hj
  rcases o.is with ⟨hn, _⟩ | ⟨g, cur, rfl, _, hg, _, ht⟩
  · subst hn; simp at hj
  · refine ⟨_, rfl, ?_⟩
    rw [cell_lit hg]
    rw [← ht, List.getElem?_take, if_pos hj] at hv
    simpa using hv
theorem Own.keep {h h' : H} {base e sz n c : Nat} {B : Nat → Prop} {b : Option Addr} {xs : List Value} (o : Own h base e sz b n c xs) (k : Keep B h h') (hb : ∀ g, b = some ⟨g, 0, none⟩ → base ≤ g → g < h.size → B g) : Own h' base e sz b n c xs := by
  refine ⟨o.len, o.cap, o.max, o.is.imp id ?_⟩
  rintro ⟨g, cur, e1, h1, hg, h2, h3⟩
  exact ⟨g, cur, e1, h1, k.2 g (hb g e1 h1 (Array.getElem?_eq_some_iff.1 hg).1) _ hg rfl, h2, h3⟩
theorem Own.lower {h : H} {base base' e sz n c : Nat} {b : Option Addr} {xs : List Value} (o : Own h base e sz b n c xs) (hb : base' ≤ base) : Own h base' e sz b n c xs :=
  ⟨o.len, o.cap, o.max, o.is.imp id fun ⟨g, cur, e1, h1, h2⟩ => ⟨g, cur, e1, by omega, h2⟩⟩
theorem Own.nil (h : H) (base e sz : Nat) (b : Option Addr) : Own h base e sz b 0 0 [] := ⟨by simp, Nat.le_refl _, Nat.zero_le _, .inl ⟨rfl, rfl⟩⟩
theorem Own.lt {h : H} {base e sz n c : Nat} {b : Option Addr} {xs : List Value} (o : Own h base e sz b n c xs) : (n = 0 ∧ c = 0) ∨ ∃ g, b = some ⟨g, 0, none⟩ ∧ base ≤ g ∧ g < h.size := by
  rcases o.is with h1 | ⟨g, cur, e1, h1, hg, _⟩
  · exact .inl h1
  · exact .inr ⟨g, e1, h1, (Array.getElem?_eq_some_iff.1 hg).1⟩

/-- all blocks but one stay -/
structure Grow (h h' : H) (b : Option Addr) : Prop where
  size : h.size ≤ h'.size
  old : ∀ k : Nat, k < h.size → (∀ a, b = some a → a.block ≠ k) → h'[k]? = h[k]?
theorem Grow.refl (h : H) (b : Option Addr) : Grow h h b := ⟨Nat.le_refl _, fun _ _ _ => rfl⟩
theorem Grow.keep {h h' : H} {b : Option Addr} (g : Grow h h' b) : SK (But h b) h h' := ⟨g.size, fun k hk => g.old k hk.1 hk.2⟩

/-! ### 'append' -/

/-- new memory: what stood, and the new ones -/
theorem append_new {t ty e : TypeId} {i : TypeInfo} {z : Value} (ht : P.underlying t = some (.slice e)) (hi : P.info? e = some i) (hz : i.zero = some z) (hzs : z.cells.size = i.size)
    {h : H} {sb rb : Option Addr} {n c m k : Nat} {xs news : List Value} (hx : xs.length = n * i.size) (hxs : Cells h sb xs) (hn : news.length = m * i.size) (hnews : Cells h rb news)
    (hpos : 0 < i.size) (hm : 0 < m) (hg : c < n + m) (h63 : n + m ≤ maxLen) (hb : (n + m) * i.bytes ≤ 140737488355328) (hrb : rb ≠ none) (hsb : sb = none → n = 0 ∧ c = 0) (w : World) (hw : w.heap = h) :
    ∃ cap w', (Builtin.append_ #[t, t] ty #[.slice sb n c, .slice rb m k]).run P w = .ok (.slice (some (Ad h.size)) (n + m) cap) w' ∧ Outer w w' ∧ n + m ≤ cap ∧ cap ≤ maxLen ∧
      w'.heap = h.push (.cells (xs.toArray ++ news.toArray ++ Builtin.zeroCells z.cells (cap - (n + m))) e) ∧ (xs.toArray ++ news.toArray ++ Builtin.zeroCells z.cells (cap - (n + m))).size = cap * i.size := by
  have hsize : ∀ cap, n + m ≤ cap → (xs.toArray ++ news.toArray ++ Builtin.zeroCells z.cells (cap - (n + m))).size = cap * i.size := by
    intro cap hc
    simp only [Array.size_append, List.size_toArray, size_zeroCells, hzs, hx, hn, ← Nat.add_mul]
    congr 1; omega
  cases hrb' : rb with
  | none => exact absurd hrb' hrb
  | some a =>
    subst hrb'
    have hnews' : ∀ (j : Nat) v, news[j]? = some v → w.cell? (a.add j) = some v := fun j v hv => by
      obtain ⟨a', e', hc⟩ := hnews j v hv
      cases e'
      rw [cell_eq, hw]; exact hc
    have h63' : ((n + m : Nat) : Int) ≤ 9223372036854775807 := by simp only [maxLen] at h63; omega
    subst hw
    cases hsb' : sb with
    | none =>
      obtain ⟨hn0, hc0⟩ := hsb hsb'
      subst hn0; subst hc0
      have hx0 : xs = [] := List.eq_nil_of_length_eq_zero (by simpa using hx)
      subst hx0
      have hr := run_append_nil (P := P) w t ty e i z ht hi hz a m k news hn hnews' hm (by omega) (by simp only [Nat.zero_add] at hb; omega)
      rw [Nat.zero_add]
      refine ⟨grownCap w m 0 e, _, hr, ⟨rfl, rfl, rfl⟩, grownCap_ge w m 0 e, grownCap_le_maxLen w m 0 e (by omega), ?_, by have := hsize (grownCap w m 0 e) (by have := grownCap_ge w m 0 e; omega); simpa using this⟩
      show w.heap.push _ = w.heap.push _
      simp
    | some sa =>
      subst hsb'
      have hxs' : ∀ (j : Nat) v, xs[j]? = some v → w.cell? (sa.add j) = some v := fun j v hv => by
        obtain ⟨a', e', hc⟩ := hxs j v hv
        cases e'
        exact hc
      have hr := run_append_grow (P := P) w t ty e i z ht hi hz sa n c xs hx hxs' a m k news hn hnews' hg h63' (growslice_fits hg hb)
      exact ⟨grownCap w (n + m) c e, _, hr, ⟨rfl, rfl, rfl⟩, grownCap_ge w (n + m) c e, grownCap_le_maxLen w (n + m) c e h63, rfl, hsize _ (grownCap_ge w (n + m) c e)⟩

/-- nothing is put behind -/
theorem append_none {t ty e : TypeId} {i : TypeInfo} (ht : P.underlying t = some (.slice e)) (hi : P.info? e = some i) {sb rb : Option Addr} {n c k : Nat} (hc : n ≤ c) (w : World) :
    (Builtin.append_ #[t, t] ty #[.slice sb n c, .slice rb 0 k]).run P w = .ok (.slice sb n c) w := by
  cases sb <;> cases rb <;> simp [Builtin.append_, run_underlying ht, sizeOf, typeInfo, hi, Builtin.lenOf, Builtin.firstCells, loadCells, loadCellsFrom, storeCells, hc]

theorem take_all {l k : List Value} {n : Nat} (h : l.length = n) (r : List Value) (e : k = l ++ r) : k.take n = l := by rw [e, ← h]; exact List.take_left

/-- behind a row of one's own -/
theorem append_own {t ty e : TypeId} {i : TypeInfo} {z : Value} (ht : P.underlying t = some (.slice e)) (hi : P.info? e = some i) (hz : i.zero = some z) (hzs : z.cells.size = i.size)
    {h : H} {sb rb : Option Addr} {n c m k base : Nat} {xs news : List Value} (o : Own h base e i.size sb n c xs) (hn : news.length = m * i.size) (hnews : Cells h rb news) (h1 : ∀ v ∈ news, v.oneCell' = true)
    (hpos : 0 < i.size) (h63 : n + m ≤ maxLen) (hb : (n + m) * i.bytes ≤ 140737488355328) (hbase : base ≤ h.size) {K : Value → H → Prop}
    (hK : ∀ b' c' h', Own h' base e i.size b' (n + m) c' (xs ++ news) → Grow h h' sb → (b' = sb ∨ b' = some (Ad h.size)) → (n + m = 0 → b' = sb ∧ c' = c) → K (.slice b' (n + m) c') h') :
    SemH P (Builtin.append_ #[t, t] ty ⟨[.slice sb n c, .slice rb m k]⟩) h K := by
  intro w hw
  have hlen : (xs ++ news).length = (n + m) * i.size := by rw [List.length_append, o.len, hn, Nat.add_mul]
  by_cases hm : m = 0
  · subst hm
    have hnn : news = [] := List.eq_nil_of_length_eq_zero (by simpa using hn)
    subst hnn
    refine ⟨_, w, append_none ht hi o.cap w, Outer.refl w, ?_⟩
    rw [hw]
    exact hK sb c h (by simpa using o) (Grow.refl h sb) (.inl rfl) (fun _ => ⟨rfl, rfl⟩)
  · have hrb : rb ≠ none := by
      intro e'
      have hp : 0 < news.length := by rw [hn]; exact Nat.mul_pos (by omega) hpos
      obtain ⟨a, ha, _⟩ := hnews 0 _ (List.getElem?_eq_getElem hp)
      rw [e'] at ha; cases ha
    by_cases hroom : n + m ≤ c
    · rcases o.is with ⟨_, hc0⟩ | ⟨g, cur, rfl, hbg, hg, hcs, htake⟩
      · omega
      · cases hr' : rb with
        | none => exact absurd hr' hrb
        | some a =>
          subst hr'
          subst hw
          have hfit : n * i.size + news.length ≤ cur.size := by rw [hn, hcs, ← Nat.add_mul]; exact Nat.mul_le_mul_right _ hroom
          have hr := run_append_room (P := P) w t ty e i ht hi g n c cur hg a m k news hn (fun j v hv => by
            obtain ⟨a', e', hc⟩ := hnews j v hv
            cases e'
            exact hc) h1 hroom hfit
          refine ⟨_, _, hr, ⟨rfl, rfl, rfl⟩, hK _ _ _ ⟨hlen, hroom, o.max, .inr ⟨g, _, rfl, hbg, setRow_heap w g cur _ e _ hg, ?_, ?_⟩⟩ ⟨by simp [World.setRow], fun k hk hne => ?_⟩ (.inl rfl) (by omega)⟩
          · simp only [List.size_toArray, List.length_append, List.length_take, List.length_drop, Array.length_toList]
            omega
          · refine take_all hlen (cur.toList.drop (n * i.size + news.length)) ?_
            rw [htake]
          · exact setRow_other w g k _ (fun e => hne _ rfl e.symm)
    · have hsb : sb = none → n = 0 ∧ c = 0 := by
        intro e'
        rcases o.is with h | ⟨g, cur, e2, _⟩
        · exact h
        · rw [e'] at e2; cases e2
      obtain ⟨cap, w', hr, ho, hc1, hc2, hh, hsz⟩ := append_new (P := P) (ty := ty) (k := k) ht hi hz hzs o.len o.cells hn hnews hpos (by omega) (by omega) h63 hb hrb hsb w hw
      refine ⟨_, w', hr, ho, ?_⟩
      rw [hh]
      refine hK _ _ _ ⟨hlen, hc1, hc2, .inr ⟨h.size, _, rfl, hbase, by simp, hsz, ?_⟩⟩ ⟨by simp, fun k hk _ => (SK.push h _).2 k hk⟩ (.inr rfl) (by omega)
      refine take_all hlen (Builtin.zeroCells z.cells (cap - (n + m))).toList ?_
      simp

/-- behind a row that has no room, or nothing: a row of one's own, or the same -/
theorem append_cut {t ty e : TypeId} {i : TypeInfo} {z : Value} (ht : P.underlying t = some (.slice e)) (hi : P.info? e = some i) (hz : i.zero = some z) (hzs : z.cells.size = i.size)
    {h : H} {sb rb : Option Addr} {n c m k : Nat} {xs news : List Value} (hx : xs.length = n * i.size) (hxs : Cells h sb xs) (hnc : n ≤ c) (hfull : m = 0 ∨ c < n + m) (hn : news.length = m * i.size) (hnews : Cells h rb news)
    (hpos : 0 < i.size) (h63 : n + m ≤ maxLen) (hb : (n + m) * i.bytes ≤ 140737488355328) (hsb : sb = none → n = 0 ∧ c = 0) {K : Value → H → Prop}
    (hsame : m = 0 → K (.slice sb n c) h)
    (hK : ∀ c' h', 0 < m → Own h' h.size e i.size (some (Ad h.size)) (n + m) c' (xs ++ news) → SK (Bel h.size) h h' → K (.slice (some (Ad h.size)) (n + m) c') h') :
    SemH P (Builtin.append_ #[t, t] ty ⟨[.slice sb n c, .slice rb m k]⟩) h K := by
  intro w hw
  by_cases hm : m = 0
  · subst hm
    exact ⟨_, w, append_none ht hi hnc w, Outer.refl w, by rw [hw]; exact hsame rfl⟩
  · have hrb : rb ≠ none := by
      intro e'
      have hp : 0 < news.length := by rw [hn]; exact Nat.mul_pos (by omega) hpos
      obtain ⟨a, ha, _⟩ := hnews 0 _ (List.getElem?_eq_getElem hp)
      rw [e'] at ha; cases ha
    have hlen : (xs ++ news).length = (n + m) * i.size := by rw [List.length_append, hx, hn, Nat.add_mul]
    obtain ⟨cap, w', hr, ho, hc1, hc2, hh, hsz⟩ := append_new (P := P) (ty := ty) (k := k) ht hi hz hzs hx hxs hn hnews hpos (by omega) (by omega) h63 hb hrb hsb w hw
    refine ⟨_, w', hr, ho, ?_⟩
    rw [hh]
    refine hK _ _ (by omega) ⟨hlen, hc1, hc2, .inr ⟨h.size, _, rfl, Nat.le_refl _, by simp, hsz, ?_⟩⟩ (SK.push h _)
    refine take_all hlen (Builtin.zeroCells z.cells (cap - (n + m))).toList ?_
    simp
end Go.Sh
namespace Go.Sh
open Go
set_option linter.unusedVariables false
set_option linter.unusedSimpArgs false
variable {P : Program} {α : Type} {E : El α}

/-- the cells of some elements -/
def Enc (E : El α) (A : Nat → Prop) (h : H) : List α → List Value → Prop
  | [], xs => xs = []
  | x :: l, xs => ∃ cs r, xs = cs ++ r ∧ E.R A h x cs ∧ Enc E A h l r
theorem Enc.len {A : Nat → Prop} {h : H} : ∀ {l : List α} {xs : List Value}, Enc E A h l xs → xs.length = l.length * E.sz
  | [], xs, e => by simp [Enc] at e; simp [e]
  | x :: l, xs, ⟨cs, r, e, h1, h2⟩ => by rw [e, List.length_append, E.len _ _ _ _ h1, Enc.len h2, List.length_cons, Nat.add_mul]; omega
theorem Enc.one {A : Nat → Prop} {h : H} : ∀ {l : List α} {xs : List Value}, Enc E A h l xs → ∀ v ∈ xs, v.oneCell' = true
  | [], xs, e, v, hv => by simp [Enc] at e; simp [e] at hv
  | x :: l, xs, ⟨cs, r, e, h1, h2⟩, v, hv => by
    rw [e] at hv
    rcases List.mem_append.1 hv with hv | hv
    · exact E.one _ _ _ _ h1 v hv
    · exact Enc.one h2 v hv
theorem Enc.append {A : Nat → Prop} {h : H} : ∀ {l l' : List α} {xs xs' : List Value}, Enc E A h l xs → Enc E A h l' xs' → Enc E A h (l ++ l') (xs ++ xs')
  | [], l', xs, xs', e, e' => by simp [Enc] at e; simpa [e] using e'
  | x :: l, l', xs, xs', ⟨cs, r, e, h1, h2⟩, e' => ⟨cs, r ++ xs', by rw [e, List.append_assoc], h1, h2.append e'⟩
theorem Enc.keep {A A' : Nat → Prop} {h h' : H} (k : Keep (fun k => A k ∧ k < h.size) h h') (hA : ∀ k, A k → k < h.size → A' k) : ∀ {l : List α} {xs : List Value}, Enc E A h l xs → Enc E A' h' l xs
  | [], xs, e => e
  | x :: l, xs, ⟨cs, r, e, h1, h2⟩ => ⟨cs, r, e, E.keep _ _ _ _ _ _ h1 k hA, h2.keep k hA⟩
theorem Enc.at {A : Nat → Prop} {h : H} : ∀ {l : List α} {xs : List Value} {i : Nat} {x : α}, Enc E A h l xs → l[i]? = some x → ∃ cs, E.R A h x cs ∧ ∀ (j : Nat) v, cs[j]? = some v → xs[i * E.sz + j]? = some v
  | [], xs, i, x, e, hx => by simp at hx
  | y :: l, xs, 0, x, ⟨cs, r, e, h1, h2⟩, hx => by
    simp at hx
    subst hx
    refine ⟨cs, h1, fun j v hv => ?_⟩
    have hj : j < cs.length := (List.getElem?_eq_some_iff.1 hv).1
    rw [e, Nat.zero_mul, Nat.zero_add, List.getElem?_append_left hj]; exact hv
  | y :: l, xs, i + 1, x, ⟨cs, r, e, h1, h2⟩, hx => by
    obtain ⟨cs2, h3, h4⟩ := Enc.at h2 (i := i) (by simpa using hx)
    refine ⟨cs2, h3, fun j v hv => ?_⟩
    have hl := E.len _ _ _ _ h1
    rw [e, Nat.add_mul, List.getElem?_append_right (by rw [hl]; omega), hl]
    rw [show (i * E.sz + 1 * E.sz + j) - E.sz = i * E.sz + j by omega]
    exact h4 j v hv
theorem Enc.take {A : Nat → Prop} {h : H} : ∀ {l : List α} {xs : List Value} (k : Nat), Enc E A h l xs → Enc E A h (l.take k) (xs.take (k * E.sz))
  | l, xs, 0, e => by simp [Enc]
  | [], xs, k + 1, e => by simp [Enc] at e; simp [Enc, e]
  | y :: l, xs, k + 1, ⟨cs, r, e, h1, h2⟩ => by
    refine ⟨cs, r.take (k * E.sz), ?_, h1, h2.take k⟩
    have hl := E.len _ _ _ _ h1
    rw [e, Nat.add_mul, List.take_append, hl]
    rw [List.take_of_length_le (by rw [hl]; omega)]
    congr 1; congr 1; omega

/-- a slice's elements lie somewhere -/
theorem Row.enc {A : Nat → Prop} {h : H} {b : Option Addr} {c : Nat} : ∀ {l : List α} {n : Nat}, Row E A h b n c l → ∃ xs, Enc E A h l xs ∧ Cells h b xs := by
  intro l n r
  have key : ∀ (l : List α) (k : Nat), (∀ (i : Nat) (x : α), l[i]? = some x → ∃ a, b = some a ∧ At E A h (a.add ((k + i) * E.sz)) x) →
      ∃ xs, Enc E A h l xs ∧ ∀ (j : Nat) v, xs[j]? = some v → ∃ a, b = some a ∧ cell h (a.add (k * E.sz + j)) = some v := by
    intro l
    induction l with
    | nil => intro k _; exact ⟨[], rfl, fun j v hv => by simp at hv⟩
    | cons x l ih =>
      intro k hk
      obtain ⟨a, rfl, _, cs, hR, hcs⟩ := hk 0 x rfl
      obtain ⟨xs, he, hxs⟩ := ih (k + 1) fun i y hy => by
        have := hk (i + 1) y (by simpa using hy)
        rwa [show k + (i + 1) = k + 1 + i by omega] at this
      refine ⟨cs ++ xs, ⟨cs, xs, rfl, hR, he⟩, fun j v hv => ⟨a, rfl, ?_⟩⟩
      have hl := E.len _ _ _ _ hR
      by_cases hj : j < cs.length
      · rw [List.getElem?_append_left hj] at hv
        have := hcs j v hv
        rwa [add_add, Nat.add_zero] at this
      · rw [List.getElem?_append_right (by omega)] at hv
        obtain ⟨a', e, hc⟩ := hxs _ v hv
        cases e
        rw [Nat.add_mul] at hc
        rwa [show k * E.sz + 1 * E.sz + (j - cs.length) = k * E.sz + j by omega] at hc
  obtain ⟨xs, he, hc⟩ := key l 0 fun i x hx => by rw [Nat.zero_add]; exact r.at' i x hx
  exact ⟨xs, he, fun j v hv => by have := hc j v hv; simpa using this⟩
/-- ... and what lies so is a slice's -/
theorem Row.of {A : Nat → Prop} {h : H} {b : Option Addr} {n c : Nat} {l : List α} {xs : List Value} (he : Enc E A h l xs) (hc : Cells h b xs) (hn : l.length = n) (hnc : n ≤ c) (hm : c ≤ maxLen)
    (hA : ∀ a, b = some a → A a.block) : Row E A h b n c l := by
  refine ⟨hn, hnc, hm, fun i x hx => ?_⟩
  obtain ⟨cs, hR, hcs⟩ := he.at hx
  have hl := E.len _ _ _ _ hR
  have hp := E.pos
  obtain ⟨v, hv⟩ : ∃ v, cs[0]? = some v := ⟨cs[0]'(by omega), List.getElem?_eq_getElem _⟩
  obtain ⟨a, e, _⟩ := hc _ v (hcs 0 v hv)
  refine ⟨a, e, by rw [add_block]; exact hA a e, cs, hR, fun j u hu => ?_⟩
  obtain ⟨a', e', hc'⟩ := hc _ u (hcs j u hu)
  rw [e] at e'; cases e'
  rw [add_add]; exact hc'

/-- a row of one's own, typed; what it points at lies in A -/
structure OwnT (E : El α) (A : Nat → Prop) (h : H) (base e : Nat) (b : Option Addr) (n c : Nat) (l : List α) : Prop where
  len : l.length = n
  own : ∃ xs, Own h base e E.sz b n c xs ∧ Enc E A h l xs
theorem OwnT.row {A A' : Nat → Prop} {h : H} {base e n c : Nat} {b : Option Addr} {l : List α} (o : OwnT E A h base e b n c l) (hA : ∀ k, A k → A' k) (hg : ∀ g : Nat, b = some ⟨g, 0, none⟩ → g < h.size → base ≤ g → A' g) : Row E A' h b n c l := by
  obtain ⟨xs, h1, h2⟩ := o.own
  by_cases hn : n = 0
  · have hl : l = [] := List.eq_nil_of_length_eq_zero (by rw [o.len, hn])
    subst hn; subst hl
    exact ⟨rfl, h1.cap, h1.max, fun i x hx => by simp at hx⟩
  · rcases h1.lt with ⟨h0, _⟩ | ⟨g, rfl, hb, hlt⟩
    · exact absurd h0 hn
    · exact Row.of (h2.keep (Keep.refl _ _) fun k hk _ => hA k hk) h1.cells o.len h1.cap h1.max fun a e => by cases e; exact hg g rfl hlt hb
theorem OwnT.nil (A : Nat → Prop) (h : H) (base e : Nat) (b : Option Addr) : OwnT E A h base e b 0 0 [] := ⟨rfl, [], Own.nil h base e E.sz b, rfl⟩
theorem OwnT.keep {A A' : Nat → Prop} {h h' : H} {base e n c : Nat} {b : Option Addr} {l : List α} (o : OwnT E A h base e b n c l) {B : Nat → Prop} (k : Keep B h h') (hA : ∀ k, A k → k < h.size → B k) (hA' : ∀ k, A k → k < h.size → A' k)
    (hg : ∀ g, b = some ⟨g, 0, none⟩ → base ≤ g → g < h.size → B g) : OwnT E A' h' base e b n c l := by
  obtain ⟨xs, h1, h2⟩ := o.own
  exact ⟨o.len, xs, h1.keep k hg, h2.keep (k.less fun k hk => hA k hk.1 hk.2) hA'⟩
theorem OwnT.kw {A : Nat → Prop} {h h' : H} {base e n c : Nat} {b : Option Addr} {l : List α} (o : OwnT E A h base e b n c l) (k : KW h h') : OwnT E A h' base e b n c l :=
  o.keep k (fun _ _ h => h) (fun _ h _ => h) fun _ _ _ h => h
theorem OwnT.kb {A : Nat → Prop} {h h' : H} {base e n c : Nat} {b : Option Addr} {l : List α} (o : OwnT E A h base e b n c l) (k : KB h h') : OwnT E A h' base e b n c l := o.kw (KB.w k)
theorem OwnT.lower {A : Nat → Prop} {h : H} {base base' e n c : Nat} {b : Option Addr} {l : List α} (o : OwnT E A h base e b n c l) (hb : base' ≤ base) : OwnT E A h base' e b n c l := by
  obtain ⟨xs, h1, h2⟩ := o.own
  exact ⟨o.len, xs, h1.lower hb, h2⟩
theorem OwnT.cap {A : Nat → Prop} {h : H} {base e n c : Nat} {b : Option Addr} {l : List α} (o : OwnT E A h base e b n c l) : n ≤ c ∧ c ≤ maxLen := by
  obtain ⟨xs, h1, h2⟩ := o.own
  exact ⟨h1.cap, h1.max⟩

/-- elements that point at nothing -/
def Flat (E : El α) : Prop := ∀ A A' h h' x cs, E.R A h x cs → E.R A' h' x cs
theorem Enc.flat (hf : Flat E) {A A' : Nat → Prop} {h h' : H} : ∀ {l : List α} {xs : List Value}, Enc E A h l xs → Enc E A' h' l xs
  | [], xs, e => e
  | x :: l, xs, ⟨cs, r, e, h1, h2⟩ => ⟨cs, r, e, hf _ _ _ _ _ _ h1, h2.flat hf⟩
theorem OwnT.flat (hf : Flat E) {A A' : Nat → Prop} {h : H} {base e n c : Nat} {b : Option Addr} {l : List α} (o : OwnT E A h base e b n c l) : OwnT E A' h base e b n c l := by
  obtain ⟨xs, h1, h2⟩ := o.own
  exact ⟨o.len, xs, h1, h2.flat hf⟩
/-- the types of an 'append', as the program knows them -/
structure Apd (P : Program) (E : El α) (t e by' : Nat) : Prop where
  is : ∃ (i : TypeInfo) (z : Value), P.underlying t = some (.slice e) ∧ P.info? e = some i ∧ i.zero = some z ∧ z.cells.size = i.size ∧ i.size = E.sz ∧ i.bytes = by'

/-- one's own row, and others behind it -/
theorem OwnT.append {t ty e by' : Nat} (ap : Apd P E t e by') {A : Nat → Prop} {h : H} {sb rb : Option Addr} {n c m k base : Nat} {l l2 : List α} (o : OwnT E A h base e sb n c l)
    (r : Row E A h rb m k l2) (h63 : n + m ≤ maxLen) (hb : (n + m) * by' ≤ 140737488355328) (hbase : base ≤ h.size)
    (hAb : ∀ k, A k → k < h.size → ∀ a, sb = some a → a.block ≠ k) {K : Value → H → Prop}
    (hK : ∀ b' c' h', OwnT E A h' base e b' (n + m) c' (l ++ l2) → Grow h h' sb → (b' = sb ∨ b' = some (Ad h.size)) → (n + m = 0 → b' = sb ∧ c' = c) → K (.slice b' (n + m) c') h') :
    SemH P (Builtin.append_ #[t, t] ty ⟨[.slice sb n c, .slice rb m k]⟩) h K := by
  obtain ⟨i, z, ht, hi, hz, hzs, hsz, hby⟩ := ap.is
  obtain ⟨xs, h1, h2⟩ := o.own
  obtain ⟨news, hen, hcn⟩ := r.enc
  have hlen : news.length = m * i.size := by rw [hen.len, r.len, hsz]
  refine append_own (xs := xs) (news := news) (base := base) ht hi hz hzs (by rw [hsz]; exact h1) hlen hcn hen.one (by rw [hsz]; exact E.pos) h63 (by rw [hby]; exact hb) hbase fun b' c' h' ho hg hb' h0 => ?_
  refine hK b' c' h' ⟨by rw [List.length_append, o.len, r.len], xs ++ news, by rw [← hsz]; exact ho, ?_⟩ hg hb' h0
  exact (h2.append hen).keep (hg.keep.w.less fun k hk => ⟨hk.2, hAb k hk.1 hk.2⟩) fun _ h _ => h

/-- a row that has no room, and others behind it -/
theorem Row.append {t ty e by' : Nat} (ap : Apd P E t e by') {A : Nat → Prop} {h : H} {sb rb : Option Addr} {n c m k : Nat} {l l2 : List α} (o : Row E A h sb n c l) (hfull : m = 0 ∨ c < n + m) (r : Row E A h rb m k l2)
    (hsb : sb = none → c = 0) (h63 : n + m ≤ maxLen) (hb : (n + m) * by' ≤ 140737488355328) {K : Value → H → Prop} (hsame : m = 0 → K (.slice sb n c) h)
    (hK : ∀ c' h', 0 < m → OwnT E A h' h.size e (some (Ad h.size)) (n + m) c' (l ++ l2) → KB h h' → K (.slice (some (Ad h.size)) (n + m) c') h') :
    SemH P (Builtin.append_ #[t, t] ty ⟨[.slice sb n c, .slice rb m k]⟩) h K := by
  obtain ⟨i, z, ht, hi, hz, hzs, hsz, hby⟩ := ap.is
  obtain ⟨xs, he, hc⟩ := o.enc
  obtain ⟨news, hen, hcn⟩ := r.enc
  refine append_cut (xs := xs) (news := news) ht hi hz hzs (by rw [he.len, o.len, hsz]) hc o.cap hfull (by rw [hen.len, r.len, hsz]) hcn (by rw [hsz]; exact E.pos) h63 (by rw [hby]; exact hb)
    (fun e => ⟨by have := o.cap; have := hsb e; omega, hsb e⟩) hsame fun c' h' hm ho hk => ?_
  exact hK c' h' hm ⟨by rw [List.length_append, o.len, r.len], xs ++ news, by rw [← hsz]; exact ho, (he.append hen).keep ((KB.w hk).less fun _ h => h.2) fun _ h _ => h⟩ hk

/-- a row that is written out: one element -/
theorem Row.one {A : Nat → Prop} {h : H} {x : α} {cs : List Value} {e : Nat} (hR : E.R A h x cs) : Row E (fun k => A k ∨ k = h.size) (h.push (.cells ⟨cs⟩ e)) (some (Ad h.size)) 1 1 [x] := by
  have hR' := E.keep _ (fun k => A k ∨ k = h.size) _ _ _ _ hR ((SK.push h (.cells ⟨cs⟩ e)).w.less fun _ h => h.2) fun _ h _ => .inl h
  refine ⟨rfl, Nat.le_refl _, by decide, fun i y hy => ?_⟩
  cases i with
  | zero =>
    simp at hy
    subst hy
    refine ⟨_, rfl, .inr (add_block _ _), cs, hR', fun j v hv => ?_⟩
    rw [Nat.zero_mul, add_zero', cell_lit (cur := ⟨cs⟩) (e := e) (fz := (0, 0)) (by simp)]
    simpa using hv
  | succ i => simp at hy
end Go.Sh
namespace Go.Sh
open Go
set_option linter.unusedVariables false
set_option linter.unusedSimpArgs false
variable {P : Program} {α β : Type}

/-! ### Kinds of elements -/
def elInt (k : IntKind) : El Int where
  sz := 1
  R := fun _ _ x cs => cs = [.int k x] ∧ Rng k x
  len := fun _ _ _ _ h => by rw [h.1]; rfl
  one := fun _ _ _ _ h v hv => by rw [h.1] at hv; simp at hv; subst hv; rfl
  keep := fun _ _ _ _ _ _ h _ _ => h
  pos := by decide
def elStr : El (List UInt8) where
  sz := 1
  R := fun _ _ x cs => cs = [S x] ∧ x.length ≤ maxLen
  len := fun _ _ _ _ h => by rw [h.1]; rfl
  one := fun _ _ _ _ h v hv => by rw [h.1] at hv; simp at hv; subst hv; rfl
  keep := fun _ _ _ _ _ _ h _ _ => h
  pos := by decide
def elBool : El Bool where
  sz := 1
  R := fun _ _ x cs => cs = [.bool x]
  len := fun _ _ _ _ h => by rw [h]; rfl
  one := fun _ _ _ _ h v hv => by rw [h] at hv; simp at hv; subst hv; rfl
  keep := fun _ _ _ _ _ _ h _ _ => h
  pos := by decide
def elSl (E : El α) : El (List α) where
  sz := 1
  R := fun A h l cs => ∃ b n c, cs = [.slice b n c] ∧ Row E A h b n c l ∧ (b = none → c = 0)
  len := fun _ _ _ _ ⟨_, _, _, e, _⟩ => by rw [e]; rfl
  one := fun _ _ _ _ ⟨_, _, _, e, _⟩ v hv => by rw [e] at hv; simp at hv; subst hv; rfl
  keep := fun _ _ _ _ _ _ ⟨b, n, c, e, r, hz⟩ k hb => ⟨b, n, c, e, r.keep k hb, hz⟩
  pos := by decide
def elPair (E : El α) (F : El β) : El (α × β) where
  sz := E.sz + F.sz
  R := fun A h x cs => ∃ c1 c2, cs = c1 ++ c2 ∧ E.R A h x.1 c1 ∧ F.R A h x.2 c2
  len := fun _ _ _ _ ⟨c1, c2, e, h1, h2⟩ => by rw [e, List.length_append, E.len _ _ _ _ h1, F.len _ _ _ _ h2]
  one := fun _ _ _ _ ⟨c1, c2, e, h1, h2⟩ v hv => by
    rw [e] at hv
    rcases List.mem_append.1 hv with hv | hv
    · exact E.one _ _ _ _ h1 v hv
    · exact F.one _ _ _ _ h2 v hv
  keep := fun _ _ _ _ _ _ ⟨c1, c2, e, h1, h2⟩ k hb => ⟨c1, c2, e, E.keep _ _ _ _ _ _ h1 k hb, F.keep _ _ _ _ _ _ h2 k hb⟩
  pos := Nat.lt_of_lt_of_le E.pos (Nat.le_add_right _ _)

section
variable {A : Nat → Prop} {h : H} {a : Addr}
theorem At.fst {E : El α} {F : El β} {x : α × β} (hA : At (elPair E F) A h a x) : At E A h a x.1 := by
  obtain ⟨h1, cs, ⟨c1, c2, e, h2, h3⟩, h4⟩ := hA
  refine ⟨h1, c1, h2, fun j v hv => h4 j v ?_⟩
  rw [e, List.getElem?_append_left (List.getElem?_eq_some_iff.1 hv).1]; exact hv
theorem At.snd {E : El α} {F : El β} {x : α × β} (hA : At (elPair E F) A h a x) : At F A h (a.add E.sz) x.2 := by
  obtain ⟨h1, cs, ⟨c1, c2, e, h2, h3⟩, h4⟩ := hA
  refine ⟨by rw [add_block]; exact h1, c2, h3, fun j v hv => ?_⟩
  rw [add_add]
  refine h4 _ v ?_
  have hl := E.len _ _ _ _ h2
  rw [e, List.getElem?_append_right (by omega), hl, show E.sz + j - E.sz = j by omega]; exact hv
/-- ... at a place within -/
theorem At.sndAt {E : El α} {F : El β} {x : α × β} {m k : Nat} (hA : At (elPair E F) A h (a.add m) x) (hk : k = m + E.sz) : At F A h (a.add k) x.2 := by
  subst hk; have := hA.snd; rwa [add_add] at this
theorem At.int {k : IntKind} {x : Int} (hA : At (elInt k) A h a x) : cell h a = some (.int k x) ∧ Rng k x := by
  obtain ⟨h1, cs, ⟨e, hr⟩, h4⟩ := hA
  subst e
  exact ⟨h4 0 _ rfl, hr⟩
theorem At.str {x : List UInt8} (hA : At elStr A h a x) : cell h a = some (S x) ∧ x.length ≤ maxLen := by
  obtain ⟨h1, cs, ⟨e, hr⟩, h4⟩ := hA
  subst e
  exact ⟨h4 0 _ rfl, hr⟩
theorem At.bool {x : Bool} (hA : At elBool A h a x) : cell h a = some (.bool x) := by
  obtain ⟨h1, cs, e, h4⟩ := hA
  cases e
  exact h4 0 _ rfl
theorem At.sl {E : El α} {l : List α} (hA : At (elSl E) A h a l) : ∃ b n c, cell h a = some (.slice b n c) ∧ Row E A h b n c l ∧ (b = none → c = 0) := by
  obtain ⟨h1, cs, ⟨b, n, c, e, r⟩, h4⟩ := hA
  cases e
  exact ⟨b, n, c, h4 0 _ rfl, r⟩

theorem ldI {k : IntKind} {x : Int} {K : Int → Prop} (hA : At (elInt k) A h a x) (hk : Rng k x → K x) : ∃ i, cell h a = some (.int k i) ∧ K i := ⟨x, hA.int.1, hk hA.int.2⟩
theorem ldS {x : List UInt8} {K : List UInt8 → Prop} (hA : At elStr A h a x) (hk : x.length ≤ maxLen → K x) : ∃ s, cell h a = some (S s) ∧ K s := ⟨x, hA.str.1, hk hA.str.2⟩
theorem ldB {x : Bool} {K : Bool → Prop} (hA : At elBool A h a x) (hk : K x) : ∃ s, cell h a = some (.bool s) ∧ K s := ⟨x, hA.bool, hk⟩
theorem ldSl {E : El α} {l : List α} {K : Option Addr → Nat → Nat → Prop} (hA : At (elSl E) A h a l) (hk : ∀ b n c, Row E A h b n c l → (b = none → c = 0) → K b n c) : ∃ b n c, cell h a = some (.slice b n c) ∧ K b n c := by
  obtain ⟨b, n, c, e, r, hz⟩ := hA.sl
  exact ⟨b, n, c, e, hk b n c r hz⟩

theorem splT {p : Prop} {X Y : Prop} (h : p) (x : X) : Spl p X Y := ⟨fun _ => x, fun n => absurd h n⟩
theorem splF {p : Prop} {X Y : Prop} (h : ¬ p) (y : Y) : Spl p X Y := ⟨fun n => absurd n h, fun _ => y⟩
theorem spl {p : Prop} {X Y : Prop} (x : p → X) (y : ¬ p → Y) : Spl p X Y := ⟨x, y⟩
end

/-! ### A variable's own block -/
structure Var (h : H) (a : Addr) (t : Nat) (cs : List Value) : Prop where
  is : a = Ad a.block
  cells : h[a.block]? = some (.cells ⟨cs⟩ t (0, 0))
section
variable {h : H} {a : Addr} {t : Nat} {cs : List Value}
theorem Var.lt (v : Var h a t cs) : a.block < h.size := (Array.getElem?_eq_some_iff.1 v.cells).1
theorem Var.cell (v : Var h a t cs) (i : Nat) {x : Value} (hx : cs[i]? = some x) : Sh.cell h (a.add i) = some x := by
  rw [v.is, cell_lit v.cells]; simpa using hx
theorem Var.cell0 (v : Var h a t cs) {x : Value} (hx : cs[0]? = some x) : Sh.cell h a = some x := v.cell 0 hx
theorem Var.kw {h' : H} (v : Var h a t cs) (k : KW h h') : Var h' a t cs := ⟨v.is, k.2 _ v.lt _ v.cells rfl⟩
theorem Var.kb {h' : H} (v : Var h a t cs) (k : KB h h') : Var h' a t cs := v.kw (KB.w k)
theorem Var.keep {h' : H} {A : Nat → Prop} (v : Var h a t cs) (k : Keep A h h') (hA : A a.block) : Var h' a t cs := ⟨v.is, k.2 _ hA _ v.cells rfl⟩
theorem Var.at {E : El α} {A : Nat → Prop} {x : α} (v : Var h a t cs) (hR : E.R A h x cs) (ha : A a.block) : At E A h a x := ⟨ha, cs, hR, fun j u hu => v.cell j hu⟩

theorem Var.row1 {E : El α} {A : Nat → Prop} {x : α} (v : Var h a t cs) (hR : E.R A h x cs) (ha : A a.block) : Row E A h (some a) 1 1 [x] := by
  refine ⟨rfl, Nat.le_refl _, by decide, fun i y hy => ?_⟩
  cases i with
  | zero =>
    simp at hy
    subst hy
    refine ⟨a, rfl, ?_⟩
    rw [Nat.zero_mul, add_zero']
    exact v.at hR ha
  | succ i => simp at hy
theorem newx_var {K : Addr → H → Prop} (hk : ∀ a h', Var h' a t cs → KB h h' → a.block = h.size → h'.size = h.size + 1 → K a h') : newx h ⟨cs⟩ t K :=
  hk _ _ ⟨rfl, by simp⟩ (SK.push h _) rfl (by simp)

/-- all but one block stays -/
abbrev KX (g : Nat) (h h' : H) : Prop := SK (fun k => k ≠ g) h h'
theorem KB.step {h0 h h' : H} {g : Nat} (k : KB h0 h) (x : KX g h h') (hg : h0.size ≤ g) : KB h0 h' := SK.trans k (x.less fun k hk => by intro e; have : k < h0.size := hk; omega)

theorem KW.step {h0 h h' : H} {g : Nat} (k : KW h0 h) (x : KX g h h') (hg : h0.size ≤ g) : KW h0 h' := Keep.trans k (x.w.less fun k hk => by intro e; have : k < h0.size := hk; omega)
theorem setc_var (v : Var h a t cs) (i : Nat) (x : Value) : setc h (a.add i) x = h.setIfInBounds a.block (.cells ⟨cs.set i x⟩ t (0, 0)) := by
  have e : (a.add i) = ⟨a.block, i, none⟩ := by rw [v.is]; unfold Addr.add; split <;> simp_all
  rw [e]
  unfold setc
  apply Array.ext_getElem?
  intro k
  rw [Array.getElem?_modify, Array.getElem?_setIfInBounds]
  by_cases hk : a.block = k
  · subst hk
    simp only [if_true]
    have hl := v.lt
    rw [v.cells]
    simp [hl]
  · simp [hk]
theorem Var.set (v : Var h a t cs) (i : Nat) (x : Value) : Var (setc h (a.add i) x) a t (cs.set i x) ∧ KX a.block h (setc h (a.add i) x) := by
  refine ⟨⟨v.is, ?_⟩, SK.setc (by rw [add_block]; exact fun e => e rfl)⟩
  rw [setc_var v]
  have hl := v.lt
  simp [hl]

def setAll : List Value → Nat → List Value → List Value
  | cs, _, [] => cs
  | cs, i, v :: l => setAll (cs.set i v) (i + 1) l
theorem stL_var {m : Nat} : ∀ {l : List Value} {i : Nat} {cs : List Value} {h : H} {K : H → Prop}, Var h a t cs → m + i + l.length ≤ cs.length →
    (∀ h', Var h' a t (setAll cs (m + i) l) → KX a.block h h' → h'.size = h.size → K h') → stL (a.add m) l i h K
  | [], i, cs, h, K, v, hl, hk => hk h v (SK.refl _ _) rfl
  | x :: l, i, cs, h, K, v, hl, hk => by
    have hlt : m + i < cs.length := by simp at hl; omega
    rw [stL, add_add]
    refine ⟨⟨cs[m + i], v.cell (m + i) (List.getElem?_eq_getElem hlt)⟩, ?_, ?_⟩
    · unfold iced
      rw [add_block, v.cells]
      simp
    · obtain ⟨v2, k2⟩ := v.set (m + i) x
      refine stL_var (i := i + 1) v2 (by simp at hl ⊢; omega) fun h' v3 k3 hs => ?_
      refine hk h' (by rw [show m + (i + 1) = m + i + 1 by omega] at v3; exact v3) (k2.trans k3) (by rw [hs, setc_size])
theorem stL_var0 {l : List Value} {K : H → Prop} (v : Var h a t cs) (hl : l.length ≤ cs.length) (hk : ∀ h', Var h' a t (setAll cs 0 l) → KX a.block h h' → h'.size = h.size → K h') : stL a l 0 h K :=
  stL_var (a := a) (m := 0) (i := 0) (cs := cs) v (by simpa using hl) hk
end

/-! ### Comparing structs -/
def scalD (d : Option TypeDesc) : Bool :=
  match d with
  | some (.int _) => true
  | some .bool => true
  | some .string => true
  | _ => false
def flatF (P : Program) : List Field → Nat → Bool
  | [], _ => true
  | f :: fs, i => !(f.name == "_") && Nat.beq f.offset i && scalD (P.underlying f.type) && flatF P fs (i + 1)
def flatEq (P : Program) (t : TypeId) : Bool :=
  match P.underlying t with
  | some (.struct fs) => !P.stoodInHeld t && !P.eqGuardType P.depth t && flatF P fs.toList 0
  | _ => false
def okD (d : Option TypeDesc) (x y : Value) : Bool :=
  match d, x, y with
  | some (.int k), .int k1 _, .int k2 _ => decide (k1 = k ∧ k2 = k)
  | some .bool, .bool _, .bool _ => true
  | some .string, .string _, .string _ => true
  | _, _, _ => false
def okF (P : Program) : List Field → List Value → List Value → Bool
  | [], [], [] => true
  | f :: fs, x :: xs, y :: ys => okD (P.underlying f.type) x y && okF P fs xs ys
  | _, _, _ => false
def okV (P : Program) (t : TypeId) (xs ys : List Value) : Bool :=
  match P.underlying t with
  | some (.struct fs) => okF P fs.toList xs ys
  | _ => false
def eqV (x y : Value) : Bool :=
  match x, y with
  | .int _ a, .int _ b => a == b
  | .bool a, .bool b => a == b
  | .string a, .string b => a.data.toList == b.data.toList
  | _, _ => false
def eqAll : List Value → List Value → Bool
  | x :: xs, y :: ys => eqV x y && eqAll xs ys
  | _, _ => true

theorem run_part_at {e : TypeId} (w : World) (hd : scalD (P.underlying e) = true) {xs : Array Value} {off : Nat} {v : Value} (hx : xs[off]? = some v) : (part e xs off).run P w = .ok v w := by
  cases hu : P.underlying e with
  | none => rw [hu] at hd; cases hd
  | some d => cases d <;> first | (rw [hu] at hd; cases hd; done) | simp [part, isAgg, run_underlying hu, hx]
theorem run_scal (w : World) (d : Nat) (t : TypeId) {x y : Value} (hd : scalD (P.underlying t) = true) (ho : okD (P.underlying t) x y = true) : (Op.equalIn (d + 1) t x y).run P w = .ok (eqV x y) w := by
  cases hu : P.underlying t with
  | none => rw [hu] at hd; cases hd
  | some td =>
    rw [hu] at hd ho
    cases td <;> first | (cases hd; done) | skip
    · cases x <;> first | (cases ho; done) | skip
      cases y <;> first | (cases ho; done) | skip
      exact run_equalIn_bool' w d t _ _ hu
    · rename_i k
      cases x <;> first | (cases ho; done) | skip
      cases y <;> first | (cases ho; done) | skip
      rename_i k1 a k2 b
      simp only [okD, decide_eq_true_eq] at ho
      obtain ⟨rfl, rfl⟩ := ho
      exact run_equalIn_int w d t _ _ a b hu
    · cases x <;> first | (cases ho; done) | skip
      cases y <;> first | (cases ho; done) | skip
      rw [run_equalIn_string w d t _ _ hu, ByteArray.toList_eq, ByteArray.toList_eq]
      rfl
theorem run_eqF (w : World) (d : Nat) : ∀ {fs : List Field} {i : Nat} {xs ys px py : List Value}, flatF P fs i = true → okF P fs xs ys = true → px.length = i → py.length = i →
    (Op.eqFields (d + 1) ⟨px ++ xs⟩ ⟨py ++ ys⟩ fs).run P w = .ok (eqAll xs ys) w
  | [], i, [], [], px, py, _, _, _, _ => rfl
  | f :: fs, i, x :: xs, y :: ys, px, py, hf, ho, hx, hy => by
    simp only [flatF, Bool.and_eq_true, Bool.not_eq_true'] at hf
    simp only [okF, Bool.and_eq_true] at ho
    obtain ⟨⟨⟨h1, h2⟩, h3⟩, h4⟩ := hf
    have hoff := Nat.eq_of_beq_eq_true h2
    have hn : f.name ≠ "_" := fun e => by rw [e] at h1; simp at h1
    unfold Op.eqFields
    rw [if_pos hn]
    have hpx : (⟨px ++ x :: xs⟩ : Array Value)[f.offset]? = some x := by simp [hoff, ← hx]
    have hpy : (⟨py ++ y :: ys⟩ : Array Value)[f.offset]? = some y := by simp [hoff, ← hy]
    simp only [Sem.run_bind, run_part_at w h3 hpx, run_part_at w h3 hpy, Result.andThen_ok, run_scal w d f.type h3 ho.1]
    cases he : eqV x y with
    | false => simp [eqAll, he]
    | true =>
      simp only [Bool.not_true, Bool.false_eq_true, if_false, eqAll, he, Bool.true_and]
      have := run_eqF w d (fs := fs) (i := i + 1) (xs := xs) (ys := ys) (px := px ++ [x]) (py := py ++ [y]) h4 ho.2 (by simp [hx]) (by simp [hy])
      simpa using this

theorem run_eqS {t : TypeId} {x y : Operand} {xs ys : List Value} (hf : flatEq P t = true) (ho : okV P t xs ys = true) (w : World) :
    (Op.equalIn 10000 t (.agg ⟨xs⟩) (.agg ⟨ys⟩)).run P w = .ok (eqAll xs ys) w ∧ ∀ op, (eqGuard op t x y (.agg ⟨xs⟩) (.agg ⟨ys⟩)).run P w = .ok () w := by
  unfold flatEq at hf
  unfold okV at ho
  cases hu : P.underlying t with
  | none => rw [hu] at hf; cases hf
  | some td =>
    rw [hu] at hf ho
    cases td <;> first | (cases hf; done) | skip
    rename_i fs
    simp only [Bool.and_eq_true, Bool.not_eq_true'] at hf
    have hfo : P.fieldsOf t = fs := by unfold Program.fieldsOf; rw [hu]
    refine ⟨?_, fun op => run_eqGuard_agg w op t x y _ _ hf.1.2⟩
    have := run_equalIn_struct (P := P) w 9999 t ⟨xs⟩ ⟨ys⟩ (by rw [hfo]; exact hu) hf.1.1
    rw [hfo] at this
    refine this.trans ?_
    have := run_eqF w 9998 (px := []) (py := []) hf.2 ho rfl rfl
    simpa using this

theorem semR_eql {t : TypeId} {x y : Operand} {xs ys : List Value} {h : H} {K : Value → Prop} (hf : flatEq P t = true) (ho : okV P t xs ys = true) (hk : K (.bool (eqAll xs ys))) :
    SemR P (binS .eql t x y (.agg ⟨xs⟩) (.agg ⟨ys⟩)) h K := by
  refine ⟨_, hk, fun w _ => ?_⟩
  obtain ⟨h1, h2⟩ := run_eqS (x := x) (y := y) hf ho w
  unfold binS
  rw [Sem.run_bind, h2, Result.andThen_ok, run_eql_struct, h1]
  rfl
theorem semR_neq {t : TypeId} {x y : Operand} {xs ys : List Value} {h : H} {K : Value → Prop} (hf : flatEq P t = true) (ho : okV P t xs ys = true) (hk : K (.bool (!eqAll xs ys))) :
    SemR P (binS .neq t x y (.agg ⟨xs⟩) (.agg ⟨ys⟩)) h K := by
  refine ⟨_, hk, fun w _ => ?_⟩
  obtain ⟨h1, h2⟩ := run_eqS (x := x) (y := y) hf ho w
  unfold binS
  rw [Sem.run_bind, h2, Result.andThen_ok, run_neq_struct, h1]
  rfl
/-- what yields a value in all heaps that go on from this one yields it here -/
theorem SemR.h {m : Sem Value} {h : H} {K : Value → H → Prop} (hs : SemR P m h fun v => K v h) : SemH P m h K := by
  obtain ⟨v, hk, hall⟩ := hs
  intro w hw
  exact ⟨v, w, hall w (by rw [hw]; exact ExtH.refl h), Outer.refl w, by rw [hw]; exact hk⟩
end Go.Sh
