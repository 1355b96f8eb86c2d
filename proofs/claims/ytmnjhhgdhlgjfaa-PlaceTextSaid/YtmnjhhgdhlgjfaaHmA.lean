/- Memory, as rows of typed elements: what a slice holds, what stays, what is made; and 'append'. No condition. -/
import Derived.Test.YtmnjhhgdhlgjfaaShJ
import Derived.Laws.AppendOwn
namespace Go.Sh
open Go
set_option linter.unusedVariables false
set_option linter.unusedSimpArgs false
variable {P : Program}

/-! ### What stays -/
/-- a set of blocks stays -/
def SK (A : Nat → Prop) (h h' : H) : Prop := h.size ≤ h'.size ∧ ∀ b : Nat, A b → h'[b]? = h[b]?
/-- the blocks below -/
abbrev Bel (B : Nat) : Nat → Prop := fun k => k < B
/-- the blocks of a heap but one -/
abbrev But (h : H) (b : Option Addr) : Nat → Prop := fun k => k < h.size ∧ ∀ a, b = some a → a.block ≠ k
theorem SK.refl (A : Nat → Prop) (h : H) : SK A h h := ⟨Nat.le_refl _, fun _ _ => rfl⟩
theorem SK.trans {A : Nat → Prop} {a b c : H} (h : SK A a b) (k : SK A b c) : SK A a c := ⟨Nat.le_trans h.1 k.1, fun i hi => (k.2 i hi).trans (h.2 i hi)⟩
theorem SK.less {A A' : Nat → Prop} {a b : H} (h : SK A a b) (hb : ∀ k, A' k → A k) : SK A' a b := ⟨h.1, fun i hi => h.2 i (hb i hi)⟩
theorem SK.push (h : H) (o : Obj) : SK (Bel h.size) h (h.push o) := ⟨by simp, fun b hb => Array.getElem?_push_lt hb ▸ (Array.getElem?_eq_getElem hb).symm ▸ rfl⟩
theorem SK.ext {h h' : H} (k : SK (Bel h.size) h h') : ExtH h h' := ⟨k.1, fun b o e => by rw [k.2 b (Array.getElem?_eq_some_iff.1 e).1]; exact e⟩
/-- ... but for loops' records -/
def Keep (A : Nat → Prop) (h h' : H) : Prop := h.size ≤ h'.size ∧ ∀ b : Nat, A b → ∀ o, h[b]? = some o → loopish o = false → h'[b]? = some o
theorem SK.w {A : Nat → Prop} {h h' : H} (k : SK A h h') : Keep A h h' := ⟨k.1, fun b hb o e _ => by rw [k.2 b hb]; exact e⟩
theorem Keep.refl (A : Nat → Prop) (h : H) : Keep A h h := ⟨Nat.le_refl _, fun _ _ _ e _ => e⟩
theorem Keep.trans {A : Nat → Prop} {a b c : H} (h : Keep A a b) (k : Keep A b c) : Keep A a c := ⟨Nat.le_trans h.1 k.1, fun i hi o e hl => k.2 i hi o (h.2 i hi o e hl) hl⟩
theorem Keep.less {A A' : Nat → Prop} {a b : H} (h : Keep A a b) (hb : ∀ k, A' k → A k) : Keep A' a b := ⟨h.1, fun i hi => h.2 i (hb i hi)⟩
theorem Keep.cell {A : Nat → Prop} {h h' : H} {a : Addr} {v : Value} (k : Keep A h h') (ha : A a.block) (e : cell h a = some v) : cell h' a = some v := by
  unfold Sh.cell at *
  cases hb : h[a.block]? with
  | none => rw [hb] at e; cases e
  | some o =>
    rw [hb] at e
    cases o <;> first | (cases e; done) | skip
    rw [k.2 _ ha _ hb rfl]; exact e
theorem setc_size (h : H) (a : Addr) (v : Value) : (setc h a v).size = h.size := by simp [Sh.setc]
theorem SK.setc {A : Nat → Prop} {h : H} {a : Addr} {v : Value} (ha : ¬ A a.block) : SK A h (setc h a v) := by
  refine ⟨by simp [Sh.setc], fun b hb => ?_⟩
  unfold Sh.setc
  rw [Array.getElem?_modify]
  rw [if_neg (fun e : a.block = b => ha (by rw [e]; exact hb))]

theorem add_block (a : Addr) (n : Nat) : (a.add n).block = a.block := by unfold Addr.add; split <;> rfl
theorem add_zero' (a : Addr) : a.add 0 = a := rfl
theorem add_add (a : Addr) (m n : Nat) : (a.add m).add n = a.add (m + n) := by
  unfold Addr.add
  by_cases hm : m = 0
  · simp [hm]
  · by_cases hn : n = 0
    · simp [hm, hn]
    · have : m + n ≠ 0 := by omega
      simp [hm, hn, this]; omega

/-! ### Typed elements -/
/-- a kind of elements: how many cells, and what they hold -/
structure El (α : Type) where
  sz : Nat
  R : (Nat → Prop) → H → α → List Value → Prop
  len : ∀ B h x cs, R B h x cs → cs.length = sz
  one : ∀ B h x cs, R B h x cs → ∀ v ∈ cs, v.oneCell' = true
  keep : ∀ B B' h h' x cs, R B h x cs → Keep (fun k => B k ∧ k < h.size) h h' → (∀ k, B k → k < h.size → B' k) → R B' h' x cs
  pos : 0 < sz

variable {α : Type} {E : El α}

/-- an element lies at an address -/
def At (E : El α) (B : Nat → Prop) (h : H) (a : Addr) (x : α) : Prop :=
  B a.block ∧ ∃ cs, E.R B h x cs ∧ ∀ (j : Nat) v, cs[j]? = some v → cell h (a.add j) = some v
theorem cell_lt {h : H} {a : Addr} {v : Value} (e : cell h a = some v) : a.block < h.size := by
  unfold Sh.cell at e
  cases hb : h[a.block]? with
  | none => rw [hb] at e; cases e
  | some o => exact (Array.getElem?_eq_some_iff.1 hb).1
theorem At.lt {B : Nat → Prop} {h : H} {a : Addr} {x : α} (hA : At E B h a x) : a.block < h.size := by
  obtain ⟨h1, cs, h2, h3⟩ := hA
  have hl := E.len _ _ _ _ h2
  have hp := E.pos
  have := cell_lt (h3 0 _ (List.getElem?_eq_getElem (by omega)))
  rwa [add_block] at this
theorem At.keep {B B' : Nat → Prop} {h h' : H} {a : Addr} {x : α} (hA : At E B h a x) (k : Keep (fun k => B k ∧ k < h.size) h h') (hb : ∀ k, B k → k < h.size → B' k) : At E B' h' a x := by
  have hlt := hA.lt
  obtain ⟨h1, cs, h2, h3⟩ := hA
  exact ⟨hb _ h1 hlt, cs, E.keep _ _ _ _ _ _ h2 k hb, fun j v hv => k.cell (by rw [add_block]; exact ⟨h1, hlt⟩) (h3 j v hv)⟩
/-- all that is stays -/
abbrev KB (h h' : H) : Prop := SK (Bel h.size) h h'
theorem KB.refl (h : H) : KB h h := SK.refl _ _
theorem KB.trans {a b c : H} (h : KB a b) (k : KB b c) : KB a c := ⟨Nat.le_trans h.1 k.1, fun i hi => (k.2 i (Nat.lt_of_lt_of_le hi h.1)).trans (h.2 i hi)⟩
/-- ... but for loops' records -/
abbrev KW (h h' : H) : Prop := Keep (Bel h.size) h h'
theorem KW.refl (h : H) : KW h h := Keep.refl _ _
theorem KW.trans {a b c : H} (h : KW a b) (k : KW b c) : KW a c := ⟨Nat.le_trans h.1 k.1, fun i hi o e hl => k.2 i (Nat.lt_of_lt_of_le hi h.1) o (h.2 i hi o e hl) hl⟩
theorem KB.w {h h' : H} (k : KB h h') : KW h h' := SK.w k
theorem At.kw {B : Nat → Prop} {h h' : H} {a : Addr} {x : α} (hA : At E B h a x) (k : KW h h') : At E B h' a x := hA.keep (k.less fun _ h => h.2) fun _ h _ => h
theorem At.kb {B : Nat → Prop} {h h' : H} {a : Addr} {x : α} (hA : At E B h a x) (k : KB h h') : At E B h' a x := hA.kw (KB.w k)

/-- a slice's elements -/
structure Row (E : El α) (B : Nat → Prop) (h : H) (b : Option Addr) (n c : Nat) (l : List α) : Prop where
  len : l.length = n
  cap : n ≤ c
  max : c ≤ maxLen
  at' : ∀ (i : Nat) (x : α), l[i]? = some x → ∃ a, b = some a ∧ At E B h (a.add (i * E.sz)) x
theorem Row.keep {B B' : Nat → Prop} {h h' : H} {b : Option Addr} {n c : Nat} {l : List α} (r : Row E B h b n c l) (k : Keep (fun k => B k ∧ k < h.size) h h') (hb : ∀ k, B k → k < h.size → B' k) : Row E B' h' b n c l :=
  ⟨r.len, r.cap, r.max, fun i x hx => by obtain ⟨a, e, hA⟩ := r.at' i x hx; exact ⟨a, e, hA.keep k hb⟩⟩
theorem Row.kw {B : Nat → Prop} {h h' : H} {b : Option Addr} {n c : Nat} {l : List α} (r : Row E B h b n c l) (k : KW h h') : Row E B h' b n c l := r.keep (k.less fun _ h => h.2) fun _ h _ => h
theorem Row.kb {B : Nat → Prop} {h h' : H} {b : Option Addr} {n c : Nat} {l : List α} (r : Row E B h b n c l) (k : KB h h') : Row E B h' b n c l := r.kw (KB.w k)
theorem Row.any {B : Nat → Prop} {h : H} {b : Option Addr} {n c : Nat} {l : List α} (r : Row E B h b n c l) : Row E (fun _ => True) h b n c l := r.keep (Keep.refl _ _) fun _ _ _ => trivial
theorem Row.nil (B : Nat → Prop) (h : H) : Row E B h none 0 0 [] := ⟨rfl, Nat.le_refl _, Nat.zero_le _, fun i x hx => by simp at hx⟩

/-- a slice's element at a place -/
theorem Row.idx {B : Nat → Prop} {h : H} {b : Option Addr} {n c : Nat} {l : List α} {K : Addr → Prop} (r : Row E B h b n c l) {i : Int} (h0 : 0 ≤ i) (h1 : i < (l.length : Int)) {z : Nat} (hz : z = E.sz)
    (hk : ∀ (a : Addr) (hi : i.toNat < l.length), At E B h (a.add (i.toNat * z)) l[i.toNat] → K a) : (0 ≤ i ∧ i < (n : Int)) ∧ vSome b fun a => K a := by
  subst hz
  have hi : i.toNat < l.length := by omega
  obtain ⟨a, rfl, hA⟩ := r.at' i.toNat _ (List.getElem?_eq_getElem hi)
  exact ⟨⟨h0, by rw [← r.len]; exact h1⟩, hk a hi hA⟩

theorem Row.idxN {B : Nat → Prop} {h : H} {b : Option Addr} {n c : Nat} {l : List α} {K : Addr → Prop} (r : Row E B h b n c l) {i : Nat} (hi : i < l.length) {z : Nat} (hz : z = E.sz)
    (hk : ∀ a : Addr, At E B h (a.add (i * z)) l[i] → K a) : (0 ≤ (i : Int) ∧ (i : Int) < (n : Int)) ∧ vSome b fun a => K a :=
  r.idx (by omega) (by omega) hz fun a hi2 hA => hk a (by simpa using hA)

/-- a slice of a slice -/
theorem Row.sub {B : Nat → Prop} {h : H} {b : Option Addr} {n c : Nat} {l : List α} (r : Row E B h b n c l) {lo hi : Nat} (h1 : lo ≤ hi) (h2 : hi ≤ n) {z : Nat} (hz : z = E.sz) :
    Row E B h (if c = lo then b else Option.map (fun q => q.add (lo * z)) b) (hi - lo) (c - lo) ((l.take hi).drop lo) := by
  subst hz
  have hl := r.len
  have hc := r.cap
  have hm := r.max
  refine ⟨by simp [hl]; omega, by omega, by omega, fun i x hx => ?_⟩
  rw [List.getElem?_drop, List.getElem?_take] at hx
  split at hx
  · rename_i hlt
    obtain ⟨a, rfl, hA⟩ := r.at' _ x hx
    rw [if_neg (by omega)]
    exact ⟨_, rfl, by rw [add_add, ← Nat.add_mul]; exact hA⟩
  · cases hx

theorem Row.sub3 {B : Nat → Prop} {h : H} {b : Option Addr} {n c : Nat} {l : List α} (r : Row E B h b n c l) {lo hi m : Nat} (h1 : lo ≤ hi) (h2 : hi ≤ n) (h3 : hi ≤ m) (h4 : m ≤ c) {z : Nat} (hz : z = E.sz) :
    Row E B h (if m = lo then b else Option.map (fun q => q.add (lo * z)) b) (hi - lo) (m - lo) ((l.take hi).drop lo) := by
  subst hz
  have hl := r.len
  have hc := r.cap
  have hm := r.max
  refine ⟨by simp [hl]; omega, by omega, by omega, fun i x hx => ?_⟩
  rw [List.getElem?_drop, List.getElem?_take] at hx
  split at hx
  · rename_i hlt
    obtain ⟨a, rfl, hA⟩ := r.at' _ x hx
    rw [if_neg (by omega)]
    exact ⟨_, rfl, by rw [add_add, ← Nat.add_mul]; exact hA⟩
  · cases hx

/-! ### Rows that are one's own -/
/-- the cells of a row of one's own (or of no place at all) -/
structure Own (h : H) (base : Nat) (e sz : Nat) (b : Option Addr) (n c : Nat) (xs : List Value) : Prop where
  len : xs.length = n * sz
  cap : n ≤ c
  max : c ≤ maxLen
  is : (n = 0 ∧ c = 0) ∨ ∃ g cur, b = some ⟨g, 0, none⟩ ∧ base ≤ g ∧ h[g]? = some (.cells cur e (0, 0)) ∧ cur.size = c * sz ∧ cur.toList.take (n * sz) = xs

/-- the cells from an address on -/
def Cells (h : H) (b : Option Addr) (cs : List Value) : Prop := ∀ (j : Nat) v, cs[j]? = some v → ∃ a, b = some a ∧ cell h (a.add j) = some v

theorem cell_lit {h : H} {g j e : Nat} {cur : Array Value} {fz : Nat × Nat} (hg : h[g]? = some (.cells cur e fz)) : cell h ((⟨g, 0, none⟩ : Addr).add j) = cur[j]? := by
  have : ((⟨g, 0, none⟩ : Addr).add j) = ⟨g, j, none⟩ := by unfold Addr.add; split <;> simp_all
  rw [this]
  unfold Sh.cell
  simp only [hg]
  rfl
theorem Own.cells {h : H} {base e sz n c : Nat} {b : Option Addr} {xs : List Value} (o : Own h base e sz b n c xs) : Cells h b xs := by
  intro j v hv
  have hj : j < xs.length := (List.getElem?_eq_some_iff.1 hv).1
  rw [o.len] at hj
  rcases o.is with ⟨hn, _⟩ | ⟨g, cur, rfl, _, hg, _, ht⟩
  · subst hn; simp at hj
  · refine ⟨_, rfl, ?_⟩
    rw [cell_lit hg]
    rw [← ht, List.getElem?_take, if_pos hj] at hv
    simpa using hv
theorem Own.keep {h h' : H} {base e sz n c : Nat} {B : Nat → Prop} {b : Option Addr} {xs : List Value} (o : Own h base e sz b n c xs) (k : Keep B h h') (hb : ∀ g, b = some ⟨g, 0, none⟩ → base ≤ g → g < h.size → B g) : Own h' base e sz b n c xs := by
  refine ⟨o.len, o.cap, o.max, o.is.imp id ?_⟩
  rintro ⟨g, cur, e1, h1, hg, h2, h3⟩
  exact ⟨g, cur, e1, h1, k.2 g (hb g e1 h1 (Array.getElem?_eq_some_iff.1 hg).1) _ hg rfl, h2, h3⟩
theorem Own.lower {h : H} {base base' e sz n c : Nat} {b : Option Addr} {xs : List Value} (o : Own h base e sz b n c xs) (hb : base' ≤ base) : Own h base' e sz b n c xs :=
  ⟨o.len, o.cap, o.max, o.is.imp id fun ⟨g, cur, e1, h1, h2⟩ => ⟨g, cur, e1, by omega, h2⟩⟩
theorem Own.nil (h : H) (base e sz : Nat) (b : Option Addr) : Own h base e sz b 0 0 [] := ⟨by simp, Nat.le_refl _, Nat.zero_le _, .inl ⟨rfl, rfl⟩⟩
theorem Own.lt {h : H} {base e sz n c : Nat} {b : Option Addr} {xs : List Value} (o : Own h base e sz b n c xs) : (n = 0 ∧ c = 0) ∨ ∃ g, b = some ⟨g, 0, none⟩ ∧ base ≤ g ∧ g < h.size := by
  rcases o.is with h1 | ⟨g, cur, e1, h1, hg, _⟩
  · exact .inl h1
  · exact .inr ⟨g, e1, h1, (Array.getElem?_eq_some_iff.1 hg).1⟩

/-- all blocks but one stay -/
structure Grow (h h' : H) (b : Option Addr) : Prop where
  size : h.size ≤ h'.size
  old : ∀ k : Nat, k < h.size → (∀ a, b = some a → a.block ≠ k) → h'[k]? = h[k]?
theorem Grow.refl (h : H) (b : Option Addr) : Grow h h b := ⟨Nat.le_refl _, fun _ _ _ => rfl⟩
theorem Grow.keep {h h' : H} {b : Option Addr} (g : Grow h h' b) : SK (But h b) h h' := ⟨g.size, fun k hk => g.old k hk.1 hk.2⟩

/-! ### 'append' -/

/-- new memory: what stood, and the new ones -/
theorem append_new {t ty e : TypeId} {i : TypeInfo} {z : Value} (ht : P.underlying t = some (.slice e)) (hi : P.info? e = some i) (hz : i.zero = some z) (hzs : z.cells.size = i.size)
    {h : H} {sb rb : Option Addr} {n c m k : Nat} {xs news : List Value} (hx : xs.length = n * i.size) (hxs : Cells h sb xs) (hn : news.length = m * i.size) (hnews : Cells h rb news)
    (hpos : 0 < i.size) (hm : 0 < m) (hg : c < n + m) (h63 : n + m ≤ maxLen) (hb : (n + m) * i.bytes ≤ 140737488355328) (hrb : rb ≠ none) (hsb : sb = none → n = 0 ∧ c = 0) (w : World) (hw : w.heap = h) :
    ∃ cap w', (Builtin.append_ #[t, t] ty #[.slice sb n c, .slice rb m k]).run P w = .ok (.slice (some (Ad h.size)) (n + m) cap) w' ∧ Outer w w' ∧ n + m ≤ cap ∧ cap ≤ maxLen ∧
      w'.heap = h.push (.cells (xs.toArray ++ news.toArray ++ Builtin.zeroCells z.cells (cap - (n + m))) e) ∧ (xs.toArray ++ news.toArray ++ Builtin.zeroCells z.cells (cap - (n + m))).size = cap * i.size := by
  have hsize : ∀ cap, n + m ≤ cap → (xs.toArray ++ news.toArray ++ Builtin.zeroCells z.cells (cap - (n + m))).size = cap * i.size := by
    intro cap hc
    simp only [Array.size_append, List.size_toArray, size_zeroCells, hzs, hx, hn, ← Nat.add_mul]
    congr 1; omega
  cases hrb' : rb with
  | none => exact absurd hrb' hrb
  | some a =>
    subst hrb'
    have hnews' : ∀ (j : Nat) v, news[j]? = some v → w.cell? (a.add j) = some v := fun j v hv => by
      obtain ⟨a', e', hc⟩ := hnews j v hv
      cases e'
      rw [cell_eq, hw]; exact hc
    have h63' : ((n + m : Nat) : Int) ≤ 9223372036854775807 := by simp only [maxLen] at h63; omega
    subst hw
    cases hsb' : sb with
    | none =>
      obtain ⟨hn0, hc0⟩ := hsb hsb'
      subst hn0; subst hc0
      have hx0 : xs = [] := List.eq_nil_of_length_eq_zero (by simpa using hx)
      subst hx0
      have hr := run_append_nil (P := P) w t ty e i z ht hi hz a m k news hn hnews' hm (by omega) (by simp only [Nat.zero_add] at hb; omega)
      rw [Nat.zero_add]
      refine ⟨grownCap w m 0 e, _, hr, ⟨rfl, rfl, rfl⟩, grownCap_ge w m 0 e, grownCap_le_maxLen w m 0 e (by omega), ?_, by have := hsize (grownCap w m 0 e) (by have := grownCap_ge w m 0 e; omega); simpa using this⟩
      show w.heap.push _ = w.heap.push _
      simp
    | some sa =>
      subst hsb'
      have hxs' : ∀ (j : Nat) v, xs[j]? = some v → w.cell? (sa.add j) = some v := fun j v hv => by
        obtain ⟨a', e', hc⟩ := hxs j v hv
        cases e'
        exact hc
      have hr := run_append_grow (P := P) w t ty e i z ht hi hz sa n c xs hx hxs' a m k news hn hnews' hg h63' (growslice_fits hg hb)
      exact ⟨grownCap w (n + m) c e, _, hr, ⟨rfl, rfl, rfl⟩, grownCap_ge w (n + m) c e, grownCap_le_maxLen w (n + m) c e h63, rfl, hsize _ (grownCap_ge w (n + m) c e)⟩

/-- nothing is put behind -/
theorem append_none {t ty e : TypeId} {i : TypeInfo} (ht : P.underlying t = some (.slice e)) (hi : P.info? e = some i) {sb rb : Option Addr} {n c k : Nat} (hc : n ≤ c) (w : World) :
    (Builtin.append_ #[t, t] ty #[.slice sb n c, .slice rb 0 k]).run P w = .ok (.slice sb n c) w := by
  cases sb <;> cases rb <;> simp [Builtin.append_, run_underlying ht, sizeOf, typeInfo, hi, Builtin.lenOf, Builtin.firstCells, loadCells, loadCellsFrom, storeCells, hc]

theorem take_all {l k : List Value} {n : Nat} (h : l.length = n) (r : List Value) (e : k = l ++ r) : k.take n = l := by rw [e, ← h]; exact List.take_left

/-- behind a row of one's own -/
theorem append_own {t ty e : TypeId} {i : TypeInfo} {z : Value} (ht : P.underlying t = some (.slice e)) (hi : P.info? e = some i) (hz : i.zero = some z) (hzs : z.cells.size = i.size)
    {h : H} {sb rb : Option Addr} {n c m k base : Nat} {xs news : List Value} (o : Own h base e i.size sb n c xs) (hn : news.length = m * i.size) (hnews : Cells h rb news) (h1 : ∀ v ∈ news, v.oneCell' = true)
    (hpos : 0 < i.size) (h63 : n + m ≤ maxLen) (hb : (n + m) * i.bytes ≤ 140737488355328) (hbase : base ≤ h.size) {K : Value → H → Prop}
    (hK : ∀ b' c' h', Own h' base e i.size b' (n + m) c' (xs ++ news) → Grow h h' sb → (b' = sb ∨ b' = some (Ad h.size)) → (n + m = 0 → b' = sb ∧ c' = c) → K (.slice b' (n + m) c') h') :
    SemH P (Builtin.append_ #[t, t] ty ⟨[.slice sb n c, .slice rb m k]⟩) h K := by
  intro w hw
  have hlen : (xs ++ news).length = (n + m) * i.size := by rw [List.length_append, o.len, hn, Nat.add_mul]
  by_cases hm : m = 0
  · subst hm
    have hnn : news = [] := List.eq_nil_of_length_eq_zero (by simpa using hn)
    subst hnn
    refine ⟨_, w, append_none ht hi o.cap w, Outer.refl w, ?_⟩
    rw [hw]
    exact hK sb c h (by simpa using o) (Grow.refl h sb) (.inl rfl) (fun _ => ⟨rfl, rfl⟩)
  · have hrb : rb ≠ none := by
      intro e'
      have hp : 0 < news.length := by rw [hn]; exact Nat.mul_pos (by omega) hpos
      obtain ⟨a, ha, _⟩ := hnews 0 _ (List.getElem?_eq_getElem hp)
      rw [e'] at ha; cases ha
    by_cases hroom : n + m ≤ c
    · rcases o.is with ⟨_, hc0⟩ | ⟨g, cur, rfl, hbg, hg, hcs, htake⟩
      · omega
      · cases hr' : rb with
        | none => exact absurd hr' hrb
        | some a =>
          subst hr'
          subst hw
          have hfit : n * i.size + news.length ≤ cur.size := by rw [hn, hcs, ← Nat.add_mul]; exact Nat.mul_le_mul_right _ hroom
          have hr := run_append_room (P := P) w t ty e i ht hi g n c cur hg a m k news hn (fun j v hv => by
            obtain ⟨a', e', hc⟩ := hnews j v hv
            cases e'
            exact hc) h1 hroom hfit
          refine ⟨_, _, hr, ⟨rfl, rfl, rfl⟩, hK _ _ _ ⟨hlen, hroom, o.max, .inr ⟨g, _, rfl, hbg, setRow_heap w g cur _ e _ hg, ?_, ?_⟩⟩ ⟨by simp [World.setRow], fun k hk hne => ?_⟩ (.inl rfl) (by omega)⟩
          · simp only [List.size_toArray, List.length_append, List.length_take, List.length_drop, Array.length_toList]
            omega
          · refine take_all hlen (cur.toList.drop (n * i.size + news.length)) ?_
            rw [htake]
          · exact setRow_other w g k _ (fun e => hne _ rfl e.symm)
    · have hsb : sb = none → n = 0 ∧ c = 0 := by
        intro e'
        rcases o.is with h | ⟨g, cur, e2, _⟩
        · exact h
        · rw [e'] at e2; cases e2
      obtain ⟨cap, w', hr, ho, hc1, hc2, hh, hsz⟩ := append_new (P := P) (ty := ty) (k := k) ht hi hz hzs o.len o.cells hn hnews hpos (by omega) (by omega) h63 hb hrb hsb w hw
      refine ⟨_, w', hr, ho, ?_⟩
      rw [hh]
      refine hK _ _ _ ⟨hlen, hc1, hc2, .inr ⟨h.size, _, rfl, hbase, by simp, hsz, ?_⟩⟩ ⟨by simp, fun k hk _ => (SK.push h _).2 k hk⟩ (.inr rfl) (by omega)
      refine take_all hlen (Builtin.zeroCells z.cells (cap - (n + m))).toList ?_
      simp

/-- behind a row that has no room, or nothing: a row of one's own, or the same -/
theorem append_cut {t ty e : TypeId} {i : TypeInfo} {z : Value} (ht : P.underlying t = some (.slice e)) (hi : P.info? e = some i) (hz : i.zero = some z) (hzs : z.cells.size = i.size)
    {h : H} {sb rb : Option Addr} {n c m k : Nat} {xs news : List Value} (hx : xs.length = n * i.size) (hxs : Cells h sb xs) (hnc : n ≤ c) (hfull : m = 0 ∨ c < n + m) (hn : news.length = m * i.size) (hnews : Cells h rb news)
    (hpos : 0 < i.size) (h63 : n + m ≤ maxLen) (hb : (n + m) * i.bytes ≤ 140737488355328) (hsb : sb = none → n = 0 ∧ c = 0) {K : Value → H → Prop}
    (hsame : m = 0 → K (.slice sb n c) h)
    (hK : ∀ c' h', 0 < m → Own h' h.size e i.size (some (Ad h.size)) (n + m) c' (xs ++ news) → SK (Bel h.size) h h' → K (.slice (some (Ad h.size)) (n + m) c') h') :
    SemH P (Builtin.append_ #[t, t] ty ⟨[.slice sb n c, .slice rb m k]⟩) h K := by
  intro w hw
  by_cases hm : m = 0
  · subst hm
    exact ⟨_, w, append_none ht hi hnc w, Outer.refl w, by rw [hw]; exact hsame rfl⟩
  · have hrb : rb ≠ none := by
      intro e'
      have hp : 0 < news.length := by rw [hn]; exact Nat.mul_pos (by omega) hpos
      obtain ⟨a, ha, _⟩ := hnews 0 _ (List.getElem?_eq_getElem hp)
      rw [e'] at ha; cases ha
    have hlen : (xs ++ news).length = (n + m) * i.size := by rw [List.length_append, hx, hn, Nat.add_mul]
    obtain ⟨cap, w', hr, ho, hc1, hc2, hh, hsz⟩ := append_new (P := P) (ty := ty) (k := k) ht hi hz hzs hx hxs hn hnews hpos (by omega) (by omega) h63 hb hrb hsb w hw
    refine ⟨_, w', hr, ho, ?_⟩
    rw [hh]
    refine hK _ _ (by omega) ⟨hlen, hc1, hc2, .inr ⟨h.size, _, rfl, Nat.le_refl _, by simp, hsz, ?_⟩⟩ (SK.push h _)
    refine take_all hlen (Builtin.zeroCells z.cells (cap - (n + m))).toList ?_
    simp
end Go.Sh
