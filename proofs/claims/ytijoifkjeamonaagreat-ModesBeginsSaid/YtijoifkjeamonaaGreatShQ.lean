import Derived.Test.YtijoifkjeamonaaGreatShJ
import Derived.Laws.AppendOwn
import Derived.Laws.StructEq
import Derived.Lib.SliceRun
import Derived.Below
import Derived.Laws.Pointers
namespace Go.Sh
open Go
set_option linter.unusedVariables false
set_option linter.unusedSimpArgs false
variable {P : Program}
def SK (A : Nat -> Prop) (h h' : H) : Prop := h.size <= h'.size /\ ∀ b : Nat, A b -> h'[b]? = h[b]?
abbrev Bel (B : Nat) : Nat -> Prop := fun k => k < B
abbrev But (h : H) (b : Option Addr) : Nat -> Prop := fun k => k < h.size /\ ∀ a, b = some a -> a.block ≠ k
theorem SK.refl (A : Nat -> Prop) (h : H) : SK A h h := ⟨Nat.le_refl _, fun _ _ => rfl⟩
theorem SK.trans {A : Nat -> Prop} {a b c : H} (h : SK A a b) (k : SK A b c) : SK A a c := ⟨Nat.le_trans h.1 k.1, fun i hi => (k.2 i hi).trans (h.2 i hi)⟩
theorem SK.less {A A' : Nat -> Prop} {a b : H} (h : SK A a b) (hb : ∀ k, A' k -> A k) : SK A' a b := ⟨h.1, fun i hi => h.2 i (hb i hi)⟩
theorem SK.push (h : H) (o : Obj) : SK (Bel h.size) h (h.push o) := ⟨by simp, fun b hb => Array.getElem?_push_lt hb ▸ (Array.getElem?_eq_getElem hb).symm ▸ rfl⟩
theorem SK.ext {h h' : H} (k : SK (Bel h.size) h h') : ExtH h h' := ⟨k.1, fun b o e => by rw [k.2 b (Array.getElem?_eq_some_iff.1 e).1]; exact e⟩
def Keep (A : Nat -> Prop) (h h' : H) : Prop := h.size <= h'.size /\ ∀ b : Nat, A b -> ∀ o, h[b]? = some o -> loopish o = false -> h'[b]? = some o
theorem SK.w {A : Nat -> Prop} {h h' : H} (k : SK A h h') : Keep A h h' := ⟨k.1, fun b hb o e _ => by rw [k.2 b hb]; exact e⟩
theorem Keep.refl (A : Nat -> Prop) (h : H) : Keep A h h := ⟨Nat.le_refl _, fun _ _ _ e _ => e⟩
theorem Keep.trans {A : Nat -> Prop} {a b c : H} (h : Keep A a b) (k : Keep A b c) : Keep A a c := ⟨Nat.le_trans h.1 k.1, fun i hi o e hl => k.2 i hi o (h.2 i hi o e hl) hl⟩
theorem Keep.less {A A' : Nat -> Prop} {a b : H} (h : Keep A a b) (hb : ∀ k, A' k -> A k) : Keep A' a b := ⟨h.1, fun i hi => h.2 i (hb i hi)⟩
theorem Keep.cell {A : Nat -> Prop} {h h' : H} {a : Addr} {v : Value} (k : Keep A h h') (ha : A a.block) (e : cell h a = some v) : cell h' a = some v := by
  unfold Sh.cell at *
  cases hb : h[a.block]? with
  | none => rw [hb] at e; cases e
  | some o =>
    rw [hb] at e
    cases o <;> first | (cases e; done) | skip
    rw [k.2 _ ha _ hb rfl]; exact e
theorem setc_size (h : H) (a : Addr) (v : Value) : (setc h a v).size = h.size := by simp [Sh.setc]
theorem SK.setc {A : Nat -> Prop} {h : H} {a : Addr} {v : Value} (ha : ¬ A a.block) : SK A h (setc h a v) := by
  refine ⟨by simp [Sh.setc], fun b hb => ?_⟩
  unfold Sh.setc
  rw [Array.getElem?_modify]
  rw [if_neg (fun e : a.block = b => ha (by rw [e]; exact hb))]
theorem add_block (a : Addr) (n : Nat) : (a.add n).block = a.block := by unfold Addr.add; split <;> rfl
theorem add_zero' (a : Addr) : a.add 0 = a := rfl
theorem add_add (a : Addr) (m n : Nat) : (a.add m).add n = a.add (m + n) := by
  unfold Addr.add
  by_cases hm : m = 0
  · simp [hm]
  · by_cases hn : n = 0
    · simp [hm, hn]
    · have : m + n ≠ 0 := by omega
      simp [hm, hn, this]; omega
structure El (α : Type) where
  sz : Nat
  R : (Nat -> Prop) -> H -> α -> List Value -> Prop
  len : ∀ B h x cs, R B h x cs -> cs.length = sz
  one : ∀ B h x cs, R B h x cs -> ∀ v ∈ cs, v.oneCell' = true
  keep : ∀ B B' h h' x cs, R B h x cs -> Keep (fun k => B k /\ k < h.size) h h' -> (∀ k, B k -> k < h.size -> B' k) -> R B' h' x cs
  pos : 0 < sz
variable {α : Type} {E : El α}
def At (E : El α) (B : Nat -> Prop) (h : H) (a : Addr) (x : α) : Prop :=
  B a.block /\ ∃ cs, E.R B h x cs /\ ∀ (j : Nat) v, cs[j]? = some v -> cell h (a.add j) = some v
theorem cell_lt {h : H} {a : Addr} {v : Value} (e : cell h a = some v) : a.block < h.size := by
  unfold Sh.cell at e
  cases hb : h[a.block]? with
  | none => rw [hb] at e; cases e
  | some o => exact (Array.getElem?_eq_some_iff.1 hb).1
theorem At.lt {B : Nat -> Prop} {h : H} {a : Addr} {x : α} (hA : At E B h a x) : a.block < h.size := by
  obtain ⟨h1, cs, h2, h3⟩ := hA
  have hl := E.len _ _ _ _ h2
  have hp := E.pos
  have := cell_lt (h3 0 _ (List.getElem?_eq_getElem (by omega)))
  rwa [add_block] at this
theorem At.keep {B B' : Nat -> Prop} {h h' : H} {a : Addr} {x : α} (hA : At E B h a x) (k : Keep (fun k => B k /\ k < h.size) h h') (hb : ∀ k, B k -> k < h.size -> B' k) : At E B' h' a x := by
  have hlt := hA.lt
  obtain ⟨h1, cs, h2, h3⟩ := hA
  exact ⟨hb _ h1 hlt, cs, E.keep _ _ _ _ _ _ h2 k hb, fun j v hv => k.cell (by rw [add_block]; exact ⟨h1, hlt⟩) (h3 j v hv)⟩
abbrev KB (h h' : H) : Prop := SK (Bel h.size) h h'
theorem KB.refl (h : H) : KB h h := SK.refl _ _
theorem KB.trans {a b c : H} (h : KB a b) (k : KB b c) : KB a c := ⟨Nat.le_trans h.1 k.1, fun i hi => (k.2 i (Nat.lt_of_lt_of_le hi h.1)).trans (h.2 i hi)⟩
abbrev KW (h h' : H) : Prop := Keep (Bel h.size) h h'
theorem KW.refl (h : H) : KW h h := Keep.refl _ _
theorem KW.trans {a b c : H} (h : KW a b) (k : KW b c) : KW a c := ⟨Nat.le_trans h.1 k.1, fun i hi o e hl => k.2 i (Nat.lt_of_lt_of_le hi h.1) o (h.2 i hi o e hl) hl⟩
theorem KB.w {h h' : H} (k : KB h h') : KW h h' := SK.w k
theorem At.kw {B : Nat -> Prop} {h h' : H} {a : Addr} {x : α} (hA : At E B h a x) (k : KW h h') : At E B h' a x := hA.keep (k.less fun _ h => h.2) fun _ h _ => h
theorem At.kb {B : Nat -> Prop} {h h' : H} {a : Addr} {x : α} (hA : At E B h a x) (k : KB h h') : At E B h' a x := hA.kw (KB.w k)
structure Row (E : El α) (B : Nat -> Prop) (h : H) (b : Option Addr) (n c : Nat) (l : List α) : Prop where
  len : l.length = n
  cap : n <= c
  max : c <= maxLen
  at' : ∀ (i : Nat) (x : α), l[i]? = some x -> ∃ a, b = some a /\ At E B h (a.add (i * E.sz)) x
theorem Row.keep {B B' : Nat -> Prop} {h h' : H} {b : Option Addr} {n c : Nat} {l : List α} (r : Row E B h b n c l) (k : Keep (fun k => B k /\ k < h.size) h h') (hb : ∀ k, B k -> k < h.size -> B' k) : Row E B' h' b n c l :=
  ⟨r.len, r.cap, r.max, fun i x hx => by obtain ⟨a, e, hA⟩ := r.at' i x hx; exact ⟨a, e, hA.keep k hb⟩⟩
theorem Row.kw {B : Nat -> Prop} {h h' : H} {b : Option Addr} {n c : Nat} {l : List α} (r : Row E B h b n c l) (k : KW h h') : Row E B h' b n c l := r.keep (k.less fun _ h => h.2) fun _ h _ => h
theorem Row.kb {B : Nat -> Prop} {h h' : H} {b : Option Addr} {n c : Nat} {l : List α} (r : Row E B h b n c l) (k : KB h h') : Row E B h' b n c l := r.kw (KB.w k)
theorem Row.any {B : Nat -> Prop} {h : H} {b : Option Addr} {n c : Nat} {l : List α} (r : Row E B h b n c l) : Row E (fun _ => True) h b n c l := r.keep (Keep.refl _ _) fun _ _ _ => trivial
theorem Row.nil (B : Nat -> Prop) (h : H) : Row E B h none 0 0 [] := ⟨rfl, Nat.le_refl _, Nat.zero_le _, fun i x hx => by simp at hx⟩
theorem Row.idx {B : Nat -> Prop} {h : H} {b : Option Addr} {n c : Nat} {l : List α} {K : Addr -> Prop} (r : Row E B h b n c l) {i : Int} (h0 : 0 <= i) (h1 : i < (l.length : Int)) {z : Nat} (hz : z = E.sz)
    (hk : ∀ (a : Addr) (hi : i.toNat < l.length), At E B h (a.add (i.toNat * z)) l[i.toNat] -> K a) : (0 <= i /\ i < (n : Int)) /\ vSome b fun a => K a := by
  subst hz
  have hi : i.toNat < l.length := by omega
  obtain ⟨a, rfl, hA⟩ := r.at' i.toNat _ (List.getElem?_eq_getElem hi)
  exact ⟨⟨h0, by rw [<- r.len]; exact h1⟩, hk a hi hA⟩
theorem Row.idxN {B : Nat -> Prop} {h : H} {b : Option Addr} {n c : Nat} {l : List α} {K : Addr -> Prop} (r : Row E B h b n c l) {i : Nat} (hi : i < l.length) {z : Nat} (hz : z = E.sz)
    (hk : ∀ a : Addr, At E B h (a.add (i * z)) l[i] -> K a) : (0 <= (i : Int) /\ (i : Int) < (n : Int)) /\ vSome b fun a => K a :=
  r.idx (by omega) (by omega) hz fun a hi2 hA => hk a (by simpa using hA)
theorem Row.sub {B : Nat -> Prop} {h : H} {b : Option Addr} {n c : Nat} {l : List α} (r : Row E B h b n c l) {lo hi : Nat} (h1 : lo <= hi) (h2 : hi <= n) {z : Nat} (hz : z = E.sz) :
    Row E B h (if c = lo then b else Option.map (fun q => q.add (lo * z)) b) (hi - lo) (c - lo) ((l.take hi).drop lo) := by
  subst hz
  have hl := r.len
  have hc := r.cap
  have hm := r.max
  refine ⟨by simp [hl]; omega, by omega, by omega, fun i x hx => ?_⟩
  rw [List.getElem?_drop, List.getElem?_take] at hx
  split at hx
  · rename_i hlt
    obtain ⟨a, rfl, hA⟩ := r.at' _ x hx
    rw [if_neg (by omega)]
    exact ⟨_, rfl, by rw [add_add, <- Nat.add_mul]; exact hA⟩
  · cases hx
structure Own (h : H) (base : Nat) (e sz : Nat) (b : Option Addr) (n c : Nat) (xs : List Value) : Prop where
  len : xs.length = n * sz
  cap : n <= c
  max : c <= maxLen
  is : (n = 0 /\ c = 0) ∨ ∃ g cur, b = some ⟨g, 0, none⟩ /\ base <= g /\ h[g]? = some (.cells cur e (0, 0)) /\ cur.size = c * sz /\ cur.toList.take (n * sz) = xs
def Cells (h : H) (b : Option Addr) (cs : List Value) : Prop := ∀ (j : Nat) v, cs[j]? = some v -> ∃ a, b = some a /\ cell h (a.add j) = some v
theorem cell_lit {h : H} {g j e : Nat} {cur : Array Value} {fz : Nat × Nat} (hg : h[g]? = some (.cells cur e fz)) : cell h ((⟨g, 0, none⟩ : Addr).add j) = cur[j]? := by
  have : ((⟨g, 0, none⟩ : Addr).add j) = ⟨g, j, none⟩ := by unfold Addr.add; split <;> simp_all
  rw [this]
  unfold Sh.cell
  simp only [hg]
  rfl
theorem Own.cells {h : H} {base e sz n c : Nat} {b : Option Addr} {xs : List Value} (o : Own h base e sz b n c xs) : Cells h b xs := by
  intro j v hv
  have hj : j < xs.length := (List.getElem?_eq_some_iff.1 hv).1
  rw [o.len] at hj
  rcases o.is with ⟨hn, _⟩ | ⟨g, cur, rfl, _, hg, _, ht⟩
  · subst hn; simp at hj
  · refine ⟨_, rfl, ?_⟩
    rw [cell_lit hg]
    rw [<- ht, List.getElem?_take, if_pos hj] at hv
    simpa using hv
theorem Own.keep {h h' : H} {base e sz n c : Nat} {B : Nat -> Prop} {b : Option Addr} {xs : List Value} (o : Own h base e sz b n c xs) (k : Keep B h h') (hb : ∀ g, b = some ⟨g, 0, none⟩ -> base <= g -> g < h.size -> B g) : Own h' base e sz b n c xs := by
  refine ⟨o.len, o.cap, o.max, o.is.imp id ?_⟩
  rintro ⟨g, cur, e1, h1, hg, h2, h3⟩
  exact ⟨g, cur, e1, h1, k.2 g (hb g e1 h1 (Array.getElem?_eq_some_iff.1 hg).1) _ hg rfl, h2, h3⟩
theorem Own.lower {h : H} {base base' e sz n c : Nat} {b : Option Addr} {xs : List Value} (o : Own h base e sz b n c xs) (hb : base' <= base) : Own h base' e sz b n c xs :=
  ⟨o.len, o.cap, o.max, o.is.imp id fun ⟨g, cur, e1, h1, h2⟩ => ⟨g, cur, e1, by omega, h2⟩⟩
theorem Own.nil (h : H) (base e sz : Nat) (b : Option Addr) : Own h base e sz b 0 0 [] := ⟨by simp, Nat.le_refl _, Nat.zero_le _, .inl ⟨rfl, rfl⟩⟩
theorem Own.lt {h : H} {base e sz n c : Nat} {b : Option Addr} {xs : List Value} (o : Own h base e sz b n c xs) : (n = 0 /\ c = 0) ∨ ∃ g, b = some ⟨g, 0, none⟩ /\ base <= g /\ g < h.size := by
  rcases o.is with h1 | ⟨g, cur, e1, h1, hg, _⟩
  · exact .inl h1
  · exact .inr ⟨g, e1, h1, (Array.getElem?_eq_some_iff.1 hg).1⟩
structure Grow (h h' : H) (b : Option Addr) : Prop where
  size : h.size <= h'.size
  old : ∀ k : Nat, k < h.size -> (∀ a, b = some a -> a.block ≠ k) -> h'[k]? = h[k]?
theorem Grow.refl (h : H) (b : Option Addr) : Grow h h b := ⟨Nat.le_refl _, fun _ _ _ => rfl⟩
theorem Grow.keep {h h' : H} {b : Option Addr} (g : Grow h h' b) : SK (But h b) h h' := ⟨g.size, fun k hk => g.old k hk.1 hk.2⟩
theorem append_new {t ty e : TypeId} {i : TypeInfo} {z : Value} (ht : P.underlying t = some (.slice e)) (hi : P.info? e = some i) (hz : i.zero = some z) (hzs : z.cells.size = i.size)
    {h : H} {sb rb : Option Addr} {n c m k : Nat} {xs news : List Value} (hx : xs.length = n * i.size) (hxs : Cells h sb xs) (hn : news.length = m * i.size) (hnews : Cells h rb news)
    (hpos : 0 < i.size) (hm : 0 < m) (hg : c < n + m) (h63 : n + m <= maxLen) (hb : (n + m) * i.bytes <= 140737488355328) (hrb : rb ≠ none) (hsb : sb = none -> n = 0 /\ c = 0) (w : World) (hw : w.heap = h) :
    ∃ cap w', (Builtin.append_ #[t, t] ty #[.slice sb n c, .slice rb m k]).run P w = .ok (.slice (some (Ad h.size)) (n + m) cap) w' /\ Outer w w' /\ n + m <= cap /\ cap <= maxLen /\
      w'.heap = h.push (.cells (xs.toArray ++ news.toArray ++ Builtin.zeroCells z.cells (cap - (n + m))) e) /\ (xs.toArray ++ news.toArray ++ Builtin.zeroCells z.cells (cap - (n + m))).size = cap * i.size := by
  have hsize : ∀ cap, n + m <= cap -> (xs.toArray ++ news.toArray ++ Builtin.zeroCells z.cells (cap - (n + m))).size = cap * i.size := by
    intro cap hc
    simp only [Array.size_append, List.size_toArray, size_zeroCells, hzs, hx, hn, <- Nat.add_mul]
    congr 1; omega
  cases hrb' : rb with
  | none => exact absurd hrb' hrb
  | some a =>
    subst hrb'
    have hnews' : ∀ (j : Nat) v, news[j]? = some v -> w.cell? (a.add j) = some v := fun j v hv => by
      obtain ⟨a', e', hc⟩ := hnews j v hv
      cases e'
      rw [cell_eq, hw]; exact hc
    have h63' : ((n + m : Nat) : Int) <= 9223372036854775807 := by simp only [maxLen] at h63; omega
    subst hw
    cases hsb' : sb with
    | none =>
      obtain ⟨hn0, hc0⟩ := hsb hsb'
      subst hn0; subst hc0
      have hx0 : xs = [] := List.eq_nil_of_length_eq_zero (by simpa using hx)
      subst hx0
      have hr := run_append_nil (P := P) w t ty e i z ht hi hz a m k news hn hnews' hm (by omega) (by simp only [Nat.zero_add] at hb; omega)
      rw [Nat.zero_add]
      refine ⟨grownCap w m 0 e, _, hr, ⟨rfl, rfl, rfl⟩, grownCap_ge w m 0 e, grownCap_le_maxLen w m 0 e (by omega), ?_, by have := hsize (grownCap w m 0 e) (by have := grownCap_ge w m 0 e; omega); simpa using this⟩
      show w.heap.push _ = w.heap.push _
      simp
    | some sa =>
      subst hsb'
      have hxs' : ∀ (j : Nat) v, xs[j]? = some v -> w.cell? (sa.add j) = some v := fun j v hv => by
        obtain ⟨a', e', hc⟩ := hxs j v hv
        cases e'
        exact hc
      have hr := run_append_grow (P := P) w t ty e i z ht hi hz sa n c xs hx hxs' a m k news hn hnews' hg h63' (growslice_fits hg hb)
      exact ⟨grownCap w (n + m) c e, _, hr, ⟨rfl, rfl, rfl⟩, grownCap_ge w (n + m) c e, grownCap_le_maxLen w (n + m) c e h63, rfl, hsize _ (grownCap_ge w (n + m) c e)⟩
theorem append_none {t ty e : TypeId} {i : TypeInfo} (ht : P.underlying t = some (.slice e)) (hi : P.info? e = some i) {sb rb : Option Addr} {n c k : Nat} (hc : n <= c) (w : World) :
    (Builtin.append_ #[t, t] ty #[.slice sb n c, .slice rb 0 k]).run P w = .ok (.slice sb n c) w := by
  cases sb <;> cases rb <;> simp [Builtin.append_, run_underlying ht, sizeOf, typeInfo, hi, Builtin.lenOf, Builtin.firstCells, loadCells, loadCellsFrom, storeCells, hc]
theorem take_all {l k : List Value} {n : Nat} (h : l.length = n) (r : List Value) (e : k = l ++ r) : k.take n = l := by rw [e, <- h]; exact List.take_left
theorem append_own {t ty e : TypeId} {i : TypeInfo} {z : Value} (ht : P.underlying t = some (.slice e)) (hi : P.info? e = some i) (hz : i.zero = some z) (hzs : z.cells.size = i.size)
    {h : H} {sb rb : Option Addr} {n c m k base : Nat} {xs news : List Value} (o : Own h base e i.size sb n c xs) (hn : news.length = m * i.size) (hnews : Cells h rb news) (h1 : ∀ v ∈ news, v.oneCell' = true)
    (hpos : 0 < i.size) (h63 : n + m <= maxLen) (hb : (n + m) * i.bytes <= 140737488355328) (hbase : base <= h.size) {K : Value -> H -> Prop}
    (hK : ∀ b' c' h', Own h' base e i.size b' (n + m) c' (xs ++ news) -> Grow h h' sb -> (b' = sb ∨ b' = some (Ad h.size)) -> (n + m = 0 -> b' = sb /\ c' = c) -> K (.slice b' (n + m) c') h') :
    SemH P (Builtin.append_ #[t, t] ty ⟨[.slice sb n c, .slice rb m k]⟩) h K := by
  intro w hw
  have hlen : (xs ++ news).length = (n + m) * i.size := by rw [List.length_append, o.len, hn, Nat.add_mul]
  by_cases hm : m = 0
  · subst hm
    have hnn : news = [] := List.eq_nil_of_length_eq_zero (by simpa using hn)
    subst hnn
    refine ⟨_, w, append_none ht hi o.cap w, Outer.refl w, ?_⟩
    rw [hw]
    exact hK sb c h (by simpa using o) (Grow.refl h sb) (.inl rfl) (fun _ => ⟨rfl, rfl⟩)
  · have hrb : rb ≠ none := by
      intro e'
      have hp : 0 < news.length := by rw [hn]; exact Nat.mul_pos (by omega) hpos
      obtain ⟨a, ha, _⟩ := hnews 0 _ (List.getElem?_eq_getElem hp)
      rw [e'] at ha; cases ha
    by_cases hroom : n + m <= c
    · rcases o.is with ⟨_, hc0⟩ | ⟨g, cur, rfl, hbg, hg, hcs, htake⟩
      · omega
      · cases hr' : rb with
        | none => exact absurd hr' hrb
        | some a =>
          subst hr'
          subst hw
          have hfit : n * i.size + news.length <= cur.size := by rw [hn, hcs, <- Nat.add_mul]; exact Nat.mul_le_mul_right _ hroom
          have hr := run_append_room (P := P) w t ty e i ht hi g n c cur hg a m k news hn (fun j v hv => by
            obtain ⟨a', e', hc⟩ := hnews j v hv
            cases e'
            exact hc) h1 hroom hfit
          refine ⟨_, _, hr, ⟨rfl, rfl, rfl⟩, hK _ _ _ ⟨hlen, hroom, o.max, .inr ⟨g, _, rfl, hbg, setRow_heap w g cur _ e _ hg, ?_, ?_⟩⟩ ⟨by simp [World.setRow], fun k hk hne => ?_⟩ (.inl rfl) (by omega)⟩
          · simp only [List.size_toArray, List.length_append, List.length_take, List.length_drop, Array.length_toList]
            omega
          · refine take_all hlen (cur.toList.drop (n * i.size + news.length)) ?_
            rw [htake]
          · exact setRow_other w g k _ (fun e => hne _ rfl e.symm)
    · have hsb : sb = none -> n = 0 /\ c = 0 := by
        intro e'
        rcases o.is with h | ⟨g, cur, e2, _⟩
        · exact h
        · rw [e'] at e2; cases e2
      obtain ⟨cap, w', hr, ho, hc1, hc2, hh, hsz⟩ := append_new (P := P) (ty := ty) (k := k) ht hi hz hzs o.len o.cells hn hnews hpos (by omega) (by omega) h63 hb hrb hsb w hw
      refine ⟨_, w', hr, ho, ?_⟩
      rw [hh]
      refine hK _ _ _ ⟨hlen, hc1, hc2, .inr ⟨h.size, _, rfl, hbase, by simp, hsz, ?_⟩⟩ ⟨by simp, fun k hk _ => (SK.push h _).2 k hk⟩ (.inr rfl) (by omega)
      refine take_all hlen (Builtin.zeroCells z.cells (cap - (n + m))).toList ?_
      simp
theorem append_cut {t ty e : TypeId} {i : TypeInfo} {z : Value} (ht : P.underlying t = some (.slice e)) (hi : P.info? e = some i) (hz : i.zero = some z) (hzs : z.cells.size = i.size)
    {h : H} {sb rb : Option Addr} {n c m k : Nat} {xs news : List Value} (hx : xs.length = n * i.size) (hxs : Cells h sb xs) (hnc : n <= c) (hfull : m = 0 ∨ c < n + m) (hn : news.length = m * i.size) (hnews : Cells h rb news)
    (hpos : 0 < i.size) (h63 : n + m <= maxLen) (hb : (n + m) * i.bytes <= 140737488355328) (hsb : sb = none -> n = 0 /\ c = 0) {K : Value -> H -> Prop}
    (hsame : m = 0 -> K (.slice sb n c) h)
    (hK : ∀ c' h', 0 < m -> Own h' h.size e i.size (some (Ad h.size)) (n + m) c' (xs ++ news) -> SK (Bel h.size) h h' -> K (.slice (some (Ad h.size)) (n + m) c') h') :
    SemH P (Builtin.append_ #[t, t] ty ⟨[.slice sb n c, .slice rb m k]⟩) h K := by
  intro w hw
  by_cases hm : m = 0
  · subst hm
    exact ⟨_, w, append_none ht hi hnc w, Outer.refl w, by rw [hw]; exact hsame rfl⟩
  · have hrb : rb ≠ none := by
      intro e'
      have hp : 0 < news.length := by rw [hn]; exact Nat.mul_pos (by omega) hpos
      obtain ⟨a, ha, _⟩ := hnews 0 _ (List.getElem?_eq_getElem hp)
      rw [e'] at ha; cases ha
    have hlen : (xs ++ news).length = (n + m) * i.size := by rw [List.length_append, hx, hn, Nat.add_mul]
    obtain ⟨cap, w', hr, ho, hc1, hc2, hh, hsz⟩ := append_new (P := P) (ty := ty) (k := k) ht hi hz hzs hx hxs hn hnews hpos (by omega) (by omega) h63 hb hrb hsb w hw
    refine ⟨_, w', hr, ho, ?_⟩
    rw [hh]
    refine hK _ _ (by omega) ⟨hlen, hc1, hc2, .inr ⟨h.size, _, rfl, Nat.le_refl _, by simp, hsz, ?_⟩⟩ (SK.push h _)
    refine take_all hlen (Builtin.zeroCells z.cells (cap - (n + m))).toList ?_
    simp
end Go.Sh
namespace Go.Sh
open Go
set_option linter.unusedVariables false
set_option linter.unusedSimpArgs false
variable {P : Program} {α : Type} {E : El α}
def Enc (E : El α) (A : Nat -> Prop) (h : H) : List α -> List Value -> Prop
  | [], xs => xs = []
  | x :: l, xs => ∃ cs r, xs = cs ++ r /\ E.R A h x cs /\ Enc E A h l r
theorem Enc.len {A : Nat -> Prop} {h : H} : ∀ {l : List α} {xs : List Value}, Enc E A h l xs -> xs.length = l.length * E.sz
  | [], xs, e => by simp [Enc] at e; simp [e]
  | x :: l, xs, ⟨cs, r, e, h1, h2⟩ => by rw [e, List.length_append, E.len _ _ _ _ h1, Enc.len h2, List.length_cons, Nat.add_mul]; omega
theorem Enc.one {A : Nat -> Prop} {h : H} : ∀ {l : List α} {xs : List Value}, Enc E A h l xs -> ∀ v ∈ xs, v.oneCell' = true
  | [], xs, e, v, hv => by simp [Enc] at e; simp [e] at hv
  | x :: l, xs, ⟨cs, r, e, h1, h2⟩, v, hv => by
    rw [e] at hv
    rcases List.mem_append.1 hv with hv | hv
    · exact E.one _ _ _ _ h1 v hv
    · exact Enc.one h2 v hv
theorem Enc.append {A : Nat -> Prop} {h : H} : ∀ {l l' : List α} {xs xs' : List Value}, Enc E A h l xs -> Enc E A h l' xs' -> Enc E A h (l ++ l') (xs ++ xs')
  | [], l', xs, xs', e, e' => by simp [Enc] at e; simpa [e] using e'
  | x :: l, l', xs, xs', ⟨cs, r, e, h1, h2⟩, e' => ⟨cs, r ++ xs', by rw [e, List.append_assoc], h1, h2.append e'⟩
theorem Enc.keep {A A' : Nat -> Prop} {h h' : H} (k : Keep (fun k => A k /\ k < h.size) h h') (hA : ∀ k, A k -> k < h.size -> A' k) : ∀ {l : List α} {xs : List Value}, Enc E A h l xs -> Enc E A' h' l xs
  | [], xs, e => e
  | x :: l, xs, ⟨cs, r, e, h1, h2⟩ => ⟨cs, r, e, E.keep _ _ _ _ _ _ h1 k hA, h2.keep k hA⟩
theorem Enc.at {A : Nat -> Prop} {h : H} : ∀ {l : List α} {xs : List Value} {i : Nat} {x : α}, Enc E A h l xs -> l[i]? = some x -> ∃ cs, E.R A h x cs /\ ∀ (j : Nat) v, cs[j]? = some v -> xs[i * E.sz + j]? = some v
  | [], xs, i, x, e, hx => by simp at hx
  | y :: l, xs, 0, x, ⟨cs, r, e, h1, h2⟩, hx => by
    simp at hx
    subst hx
    refine ⟨cs, h1, fun j v hv => ?_⟩
    have hj : j < cs.length := (List.getElem?_eq_some_iff.1 hv).1
    rw [e, Nat.zero_mul, Nat.zero_add, List.getElem?_append_left hj]; exact hv
  | y :: l, xs, i + 1, x, ⟨cs, r, e, h1, h2⟩, hx => by
    obtain ⟨cs2, h3, h4⟩ := Enc.at h2 (i := i) (by simpa using hx)
    refine ⟨cs2, h3, fun j v hv => ?_⟩
    have hl := E.len _ _ _ _ h1
    rw [e, Nat.add_mul, List.getElem?_append_right (by rw [hl]; omega), hl]
    rw [show (i * E.sz + 1 * E.sz + j) - E.sz = i * E.sz + j by omega]
    exact h4 j v hv
theorem Enc.take {A : Nat -> Prop} {h : H} : ∀ {l : List α} {xs : List Value} (k : Nat), Enc E A h l xs -> Enc E A h (l.take k) (xs.take (k * E.sz))
  | l, xs, 0, e => by simp [Enc]
  | [], xs, k + 1, e => by simp [Enc] at e; simp [Enc, e]
  | y :: l, xs, k + 1, ⟨cs, r, e, h1, h2⟩ => by
    refine ⟨cs, r.take (k * E.sz), ?_, h1, h2.take k⟩
    have hl := E.len _ _ _ _ h1
    rw [e, Nat.add_mul, List.take_append, hl]
    rw [List.take_of_length_le (by rw [hl]; omega)]
    congr 1; congr 1; omega
theorem Row.enc {A : Nat -> Prop} {h : H} {b : Option Addr} {c : Nat} : ∀ {l : List α} {n : Nat}, Row E A h b n c l -> ∃ xs, Enc E A h l xs /\ Cells h b xs := by
  intro l n r
  have key : ∀ (l : List α) (k : Nat), (∀ (i : Nat) (x : α), l[i]? = some x -> ∃ a, b = some a /\ At E A h (a.add ((k + i) * E.sz)) x) ->
      ∃ xs, Enc E A h l xs /\ ∀ (j : Nat) v, xs[j]? = some v -> ∃ a, b = some a /\ cell h (a.add (k * E.sz + j)) = some v := by
    intro l
    induction l with
    | nil => intro k _; exact ⟨[], rfl, fun j v hv => by simp at hv⟩
    | cons x l ih =>
      intro k hk
      obtain ⟨a, rfl, _, cs, hR, hcs⟩ := hk 0 x rfl
      obtain ⟨xs, he, hxs⟩ := ih (k + 1) fun i y hy => by
        have := hk (i + 1) y (by simpa using hy)
        rwa [show k + (i + 1) = k + 1 + i by omega] at this
      refine ⟨cs ++ xs, ⟨cs, xs, rfl, hR, he⟩, fun j v hv => ⟨a, rfl, ?_⟩⟩
      have hl := E.len _ _ _ _ hR
      by_cases hj : j < cs.length
      · rw [List.getElem?_append_left hj] at hv
        have := hcs j v hv
        rwa [add_add, Nat.add_zero] at this
      · rw [List.getElem?_append_right (by omega)] at hv
        obtain ⟨a', e, hc⟩ := hxs _ v hv
        cases e
        rw [Nat.add_mul] at hc
        rwa [show k * E.sz + 1 * E.sz + (j - cs.length) = k * E.sz + j by omega] at hc
  obtain ⟨xs, he, hc⟩ := key l 0 fun i x hx => by rw [Nat.zero_add]; exact r.at' i x hx
  exact ⟨xs, he, fun j v hv => by have := hc j v hv; simpa using this⟩
theorem Row.of {A : Nat -> Prop} {h : H} {b : Option Addr} {n c : Nat} {l : List α} {xs : List Value} (he : Enc E A h l xs) (hc : Cells h b xs) (hn : l.length = n) (hnc : n <= c) (hm : c <= maxLen)
    (hA : ∀ a, b = some a -> A a.block) : Row E A h b n c l := by
  refine ⟨hn, hnc, hm, fun i x hx => ?_⟩
  obtain ⟨cs, hR, hcs⟩ := he.at hx
  have hl := E.len _ _ _ _ hR
  have hp := E.pos
  obtain ⟨v, hv⟩ : ∃ v, cs[0]? = some v := ⟨cs[0]'(by omega), List.getElem?_eq_getElem _⟩
  obtain ⟨a, e, _⟩ := hc _ v (hcs 0 v hv)
  refine ⟨a, e, by rw [add_block]; exact hA a e, cs, hR, fun j u hu => ?_⟩
  obtain ⟨a', e', hc'⟩ := hc _ u (hcs j u hu)
  rw [e] at e'; cases e'
  rw [add_add]; exact hc'
structure OwnT (E : El α) (A : Nat -> Prop) (h : H) (base e : Nat) (b : Option Addr) (n c : Nat) (l : List α) : Prop where
  len : l.length = n
  own : ∃ xs, Own h base e E.sz b n c xs /\ Enc E A h l xs
theorem OwnT.row {A A' : Nat -> Prop} {h : H} {base e n c : Nat} {b : Option Addr} {l : List α} (o : OwnT E A h base e b n c l) (hA : ∀ k, A k -> A' k) (hg : ∀ g : Nat, b = some ⟨g, 0, none⟩ -> g < h.size -> base <= g -> A' g) : Row E A' h b n c l := by
  obtain ⟨xs, h1, h2⟩ := o.own
  by_cases hn : n = 0
  · have hl : l = [] := List.eq_nil_of_length_eq_zero (by rw [o.len, hn])
    subst hn; subst hl
    exact ⟨rfl, h1.cap, h1.max, fun i x hx => by simp at hx⟩
  · rcases h1.lt with ⟨h0, _⟩ | ⟨g, rfl, hb, hlt⟩
    · exact absurd h0 hn
    · exact Row.of (h2.keep (Keep.refl _ _) fun k hk _ => hA k hk) h1.cells o.len h1.cap h1.max fun a e => by cases e; exact hg g rfl hlt hb
theorem OwnT.nil (A : Nat -> Prop) (h : H) (base e : Nat) (b : Option Addr) : OwnT E A h base e b 0 0 [] := ⟨rfl, [], Own.nil h base e E.sz b, rfl⟩
theorem OwnT.keep {A A' : Nat -> Prop} {h h' : H} {base e n c : Nat} {b : Option Addr} {l : List α} (o : OwnT E A h base e b n c l) {B : Nat -> Prop} (k : Keep B h h') (hA : ∀ k, A k -> k < h.size -> B k) (hA' : ∀ k, A k -> k < h.size -> A' k)
    (hg : ∀ g, b = some ⟨g, 0, none⟩ -> base <= g -> g < h.size -> B g) : OwnT E A' h' base e b n c l := by
  obtain ⟨xs, h1, h2⟩ := o.own
  exact ⟨o.len, xs, h1.keep k hg, h2.keep (k.less fun k hk => hA k hk.1 hk.2) hA'⟩
theorem OwnT.kw {A : Nat -> Prop} {h h' : H} {base e n c : Nat} {b : Option Addr} {l : List α} (o : OwnT E A h base e b n c l) (k : KW h h') : OwnT E A h' base e b n c l :=
  o.keep k (fun _ _ h => h) (fun _ h _ => h) fun _ _ _ h => h
theorem OwnT.kb {A : Nat -> Prop} {h h' : H} {base e n c : Nat} {b : Option Addr} {l : List α} (o : OwnT E A h base e b n c l) (k : KB h h') : OwnT E A h' base e b n c l := o.kw (KB.w k)
theorem OwnT.lower {A : Nat -> Prop} {h : H} {base base' e n c : Nat} {b : Option Addr} {l : List α} (o : OwnT E A h base e b n c l) (hb : base' <= base) : OwnT E A h base' e b n c l := by
  obtain ⟨xs, h1, h2⟩ := o.own
  exact ⟨o.len, xs, h1.lower hb, h2⟩
theorem OwnT.cap {A : Nat -> Prop} {h : H} {base e n c : Nat} {b : Option Addr} {l : List α} (o : OwnT E A h base e b n c l) : n <= c /\ c <= maxLen := by
  obtain ⟨xs, h1, h2⟩ := o.own
  exact ⟨h1.cap, h1.max⟩
def Flat (E : El α) : Prop := ∀ A A' h h' x cs, E.R A h x cs -> E.R A' h' x cs
theorem Enc.flat (hf : Flat E) {A A' : Nat -> Prop} {h h' : H} : ∀ {l : List α} {xs : List Value}, Enc E A h l xs -> Enc E A' h' l xs
  | [], xs, e => e
  | x :: l, xs, ⟨cs, r, e, h1, h2⟩ => ⟨cs, r, e, hf _ _ _ _ _ _ h1, h2.flat hf⟩
theorem OwnT.flat (hf : Flat E) {A A' : Nat -> Prop} {h : H} {base e n c : Nat} {b : Option Addr} {l : List α} (o : OwnT E A h base e b n c l) : OwnT E A' h base e b n c l := by
  obtain ⟨xs, h1, h2⟩ := o.own
  exact ⟨o.len, xs, h1, h2.flat hf⟩
structure Apd (P : Program) (E : El α) (t e by' : Nat) : Prop where
  is : ∃ (i : TypeInfo) (z : Value), P.underlying t = some (.slice e) /\ P.info? e = some i /\ i.zero = some z /\ z.cells.size = i.size /\ i.size = E.sz /\ i.bytes = by'
theorem OwnT.append {t ty e by' : Nat} (ap : Apd P E t e by') {A : Nat -> Prop} {h : H} {sb rb : Option Addr} {n c m k base : Nat} {l l2 : List α} (o : OwnT E A h base e sb n c l)
    (r : Row E A h rb m k l2) (h63 : n + m <= maxLen) (hb : (n + m) * by' <= 140737488355328) (hbase : base <= h.size)
    (hAb : ∀ k, A k -> k < h.size -> ∀ a, sb = some a -> a.block ≠ k) {K : Value -> H -> Prop}
    (hK : ∀ b' c' h', OwnT E A h' base e b' (n + m) c' (l ++ l2) -> Grow h h' sb -> (b' = sb ∨ b' = some (Ad h.size)) -> (n + m = 0 -> b' = sb /\ c' = c) -> K (.slice b' (n + m) c') h') :
    SemH P (Builtin.append_ #[t, t] ty ⟨[.slice sb n c, .slice rb m k]⟩) h K := by
  obtain ⟨i, z, ht, hi, hz, hzs, hsz, hby⟩ := ap.is
  obtain ⟨xs, h1, h2⟩ := o.own
  obtain ⟨news, hen, hcn⟩ := r.enc
  have hlen : news.length = m * i.size := by rw [hen.len, r.len, hsz]
  refine append_own (xs := xs) (news := news) (base := base) ht hi hz hzs (by rw [hsz]; exact h1) hlen hcn hen.one (by rw [hsz]; exact E.pos) h63 (by rw [hby]; exact hb) hbase fun b' c' h' ho hg hb' h0 => ?_
  refine hK b' c' h' ⟨by rw [List.length_append, o.len, r.len], xs ++ news, by rw [<- hsz]; exact ho, ?_⟩ hg hb' h0
  exact (h2.append hen).keep (hg.keep.w.less fun k hk => ⟨hk.2, hAb k hk.1 hk.2⟩) fun _ h _ => h
theorem Row.append {t ty e by' : Nat} (ap : Apd P E t e by') {A : Nat -> Prop} {h : H} {sb rb : Option Addr} {n c m k : Nat} {l l2 : List α} (o : Row E A h sb n c l) (hfull : m = 0 ∨ c < n + m) (r : Row E A h rb m k l2)
    (hsb : sb = none -> c = 0) (h63 : n + m <= maxLen) (hb : (n + m) * by' <= 140737488355328) {K : Value -> H -> Prop} (hsame : m = 0 -> K (.slice sb n c) h)
    (hK : ∀ c' h', 0 < m -> OwnT E A h' h.size e (some (Ad h.size)) (n + m) c' (l ++ l2) -> KB h h' -> K (.slice (some (Ad h.size)) (n + m) c') h') :
    SemH P (Builtin.append_ #[t, t] ty ⟨[.slice sb n c, .slice rb m k]⟩) h K := by
  obtain ⟨i, z, ht, hi, hz, hzs, hsz, hby⟩ := ap.is
  obtain ⟨xs, he, hc⟩ := o.enc
  obtain ⟨news, hen, hcn⟩ := r.enc
  refine append_cut (xs := xs) (news := news) ht hi hz hzs (by rw [he.len, o.len, hsz]) hc o.cap hfull (by rw [hen.len, r.len, hsz]) hcn (by rw [hsz]; exact E.pos) h63 (by rw [hby]; exact hb)
    (fun e => ⟨by have := o.cap; have := hsb e; omega, hsb e⟩) hsame fun c' h' hm ho hk => ?_
  exact hK c' h' hm ⟨by rw [List.length_append, o.len, r.len], xs ++ news, by rw [<- hsz]; exact ho, (he.append hen).keep ((KB.w hk).less fun _ h => h.2) fun _ h _ => h⟩ hk
theorem Row.one {A : Nat -> Prop} {h : H} {x : α} {cs : List Value} {e : Nat} (hR : E.R A h x cs) : Row E (fun k => A k ∨ k = h.size) (h.push (.cells ⟨cs⟩ e)) (some (Ad h.size)) 1 1 [x] := by
  have hR' := E.keep _ (fun k => A k ∨ k = h.size) _ _ _ _ hR ((SK.push h (.cells ⟨cs⟩ e)).w.less fun _ h => h.2) fun _ h _ => .inl h
  refine ⟨rfl, Nat.le_refl _, by decide, fun i y hy => ?_⟩
  cases i with
  | zero =>
    simp at hy
    subst hy
    refine ⟨_, rfl, .inr (add_block _ _), cs, hR', fun j v hv => ?_⟩
    rw [Nat.zero_mul, add_zero', cell_lit (cur := ⟨cs⟩) (e := e) (fz := (0, 0)) (by simp)]
    simpa using hv
  | succ i => simp at hy
end Go.Sh
namespace Go.Sh
open Go
set_option linter.unusedVariables false
set_option linter.unusedSimpArgs false
variable {P : Program} {α β : Type}
def elInt (k : IntKind) : El Int where
  sz := 1
  R := fun _ _ x cs => cs = [.int k x] /\ Rng k x
  len := fun _ _ _ _ h => by rw [h.1]; rfl
  one := fun _ _ _ _ h v hv => by rw [h.1] at hv; simp at hv; subst hv; rfl
  keep := fun _ _ _ _ _ _ h _ _ => h
  pos := by decide
def elStr : El (List UInt8) where
  sz := 1
  R := fun _ _ x cs => cs = [S x] /\ x.length <= maxLen
  len := fun _ _ _ _ h => by rw [h.1]; rfl
  one := fun _ _ _ _ h v hv => by rw [h.1] at hv; simp at hv; subst hv; rfl
  keep := fun _ _ _ _ _ _ h _ _ => h
  pos := by decide
def elBool : El Bool where
  sz := 1
  R := fun _ _ x cs => cs = [.bool x]
  len := fun _ _ _ _ h => by rw [h]; rfl
  one := fun _ _ _ _ h v hv => by rw [h] at hv; simp at hv; subst hv; rfl
  keep := fun _ _ _ _ _ _ h _ _ => h
  pos := by decide
def elSl (E : El α) : El (List α) where
  sz := 1
  R := fun A h l cs => ∃ b n c, cs = [.slice b n c] /\ Row E A h b n c l /\ (b = none -> c = 0)
  len := fun _ _ _ _ ⟨_, _, _, e, _⟩ => by rw [e]; rfl
  one := fun _ _ _ _ ⟨_, _, _, e, _⟩ v hv => by rw [e] at hv; simp at hv; subst hv; rfl
  keep := fun _ _ _ _ _ _ ⟨b, n, c, e, r, hz⟩ k hb => ⟨b, n, c, e, r.keep k hb, hz⟩
  pos := by decide
def elPair (E : El α) (F : El β) : El (α × β) where
  sz := E.sz + F.sz
  R := fun A h x cs => ∃ c1 c2, cs = c1 ++ c2 /\ E.R A h x.1 c1 /\ F.R A h x.2 c2
  len := fun _ _ _ _ ⟨c1, c2, e, h1, h2⟩ => by rw [e, List.length_append, E.len _ _ _ _ h1, F.len _ _ _ _ h2]
  one := fun _ _ _ _ ⟨c1, c2, e, h1, h2⟩ v hv => by
    rw [e] at hv
    rcases List.mem_append.1 hv with hv | hv
    · exact E.one _ _ _ _ h1 v hv
    · exact F.one _ _ _ _ h2 v hv
  keep := fun _ _ _ _ _ _ ⟨c1, c2, e, h1, h2⟩ k hb => ⟨c1, c2, e, E.keep _ _ _ _ _ _ h1 k hb, F.keep _ _ _ _ _ _ h2 k hb⟩
  pos := Nat.lt_of_lt_of_le E.pos (Nat.le_add_right _ _)
section
variable {A : Nat -> Prop} {h : H} {a : Addr}
theorem At.fst {E : El α} {F : El β} {x : α × β} (hA : At (elPair E F) A h a x) : At E A h a x.1 := by
  obtain ⟨h1, cs, ⟨c1, c2, e, h2, h3⟩, h4⟩ := hA
  refine ⟨h1, c1, h2, fun j v hv => h4 j v ?_⟩
  rw [e, List.getElem?_append_left (List.getElem?_eq_some_iff.1 hv).1]; exact hv
theorem At.snd {E : El α} {F : El β} {x : α × β} (hA : At (elPair E F) A h a x) : At F A h (a.add E.sz) x.2 := by
  obtain ⟨h1, cs, ⟨c1, c2, e, h2, h3⟩, h4⟩ := hA
  refine ⟨by rw [add_block]; exact h1, c2, h3, fun j v hv => ?_⟩
  rw [add_add]
  refine h4 _ v ?_
  have hl := E.len _ _ _ _ h2
  rw [e, List.getElem?_append_right (by omega), hl, show E.sz + j - E.sz = j by omega]; exact hv
theorem At.sndAt {E : El α} {F : El β} {x : α × β} {m k : Nat} (hA : At (elPair E F) A h (a.add m) x) (hk : k = m + E.sz) : At F A h (a.add k) x.2 := by
  subst hk; have := hA.snd; rwa [add_add] at this
theorem At.int {k : IntKind} {x : Int} (hA : At (elInt k) A h a x) : cell h a = some (.int k x) /\ Rng k x := by
  obtain ⟨h1, cs, ⟨e, hr⟩, h4⟩ := hA
  subst e
  exact ⟨h4 0 _ rfl, hr⟩
theorem At.str {x : List UInt8} (hA : At elStr A h a x) : cell h a = some (S x) /\ x.length <= maxLen := by
  obtain ⟨h1, cs, ⟨e, hr⟩, h4⟩ := hA
  subst e
  exact ⟨h4 0 _ rfl, hr⟩
theorem At.bool {x : Bool} (hA : At elBool A h a x) : cell h a = some (.bool x) := by
  obtain ⟨h1, cs, e, h4⟩ := hA
  cases e
  exact h4 0 _ rfl
theorem At.sl {E : El α} {l : List α} (hA : At (elSl E) A h a l) : ∃ b n c, cell h a = some (.slice b n c) /\ Row E A h b n c l /\ (b = none -> c = 0) := by
  obtain ⟨h1, cs, ⟨b, n, c, e, r⟩, h4⟩ := hA
  cases e
  exact ⟨b, n, c, h4 0 _ rfl, r⟩
theorem ldI {k : IntKind} {x : Int} {K : Int -> Prop} (hA : At (elInt k) A h a x) (hk : Rng k x -> K x) : ∃ i, cell h a = some (.int k i) /\ K i := ⟨x, hA.int.1, hk hA.int.2⟩
theorem ldS {x : List UInt8} {K : List UInt8 -> Prop} (hA : At elStr A h a x) (hk : x.length <= maxLen -> K x) : ∃ s, cell h a = some (S s) /\ K s := ⟨x, hA.str.1, hk hA.str.2⟩
theorem ldSl {E : El α} {l : List α} {K : Option Addr -> Nat -> Nat -> Prop} (hA : At (elSl E) A h a l) (hk : ∀ b n c, Row E A h b n c l -> (b = none -> c = 0) -> K b n c) : ∃ b n c, cell h a = some (.slice b n c) /\ K b n c := by
  obtain ⟨b, n, c, e, r, hz⟩ := hA.sl
  exact ⟨b, n, c, e, hk b n c r hz⟩
theorem splT {p : Prop} {X Y : Prop} (h : p) (x : X) : Spl p X Y := ⟨fun _ => x, fun n => absurd h n⟩
theorem splF {p : Prop} {X Y : Prop} (h : ¬ p) (y : Y) : Spl p X Y := ⟨fun n => absurd n h, fun _ => y⟩
theorem spl {p : Prop} {X Y : Prop} (x : p -> X) (y : ¬ p -> Y) : Spl p X Y := ⟨x, y⟩
end
structure Var (h : H) (a : Addr) (t : Nat) (cs : List Value) : Prop where
  is : a = Ad a.block
  cells : h[a.block]? = some (.cells ⟨cs⟩ t (0, 0))
section
variable {h : H} {a : Addr} {t : Nat} {cs : List Value}
theorem Var.lt (v : Var h a t cs) : a.block < h.size := (Array.getElem?_eq_some_iff.1 v.cells).1
theorem Var.cell (v : Var h a t cs) (i : Nat) {x : Value} (hx : cs[i]? = some x) : Sh.cell h (a.add i) = some x := by
  rw [v.is, cell_lit v.cells]; simpa using hx
theorem Var.cell0 (v : Var h a t cs) {x : Value} (hx : cs[0]? = some x) : Sh.cell h a = some x := v.cell 0 hx
theorem Var.kw {h' : H} (v : Var h a t cs) (k : KW h h') : Var h' a t cs := ⟨v.is, k.2 _ v.lt _ v.cells rfl⟩
theorem Var.kb {h' : H} (v : Var h a t cs) (k : KB h h') : Var h' a t cs := v.kw (KB.w k)
theorem Var.keep {h' : H} {A : Nat -> Prop} (v : Var h a t cs) (k : Keep A h h') (hA : A a.block) : Var h' a t cs := ⟨v.is, k.2 _ hA _ v.cells rfl⟩
theorem Var.at {E : El α} {A : Nat -> Prop} {x : α} (v : Var h a t cs) (hR : E.R A h x cs) (ha : A a.block) : At E A h a x := ⟨ha, cs, hR, fun j u hu => v.cell j hu⟩
theorem Var.row1 {E : El α} {A : Nat -> Prop} {x : α} (v : Var h a t cs) (hR : E.R A h x cs) (ha : A a.block) : Row E A h (some a) 1 1 [x] := by
  refine ⟨rfl, Nat.le_refl _, by decide, fun i y hy => ?_⟩
  cases i with
  | zero =>
    simp at hy
    subst hy
    refine ⟨a, rfl, ?_⟩
    rw [Nat.zero_mul, add_zero']
    exact v.at hR ha
  | succ i => simp at hy
theorem newx_var {K : Addr -> H -> Prop} (hk : ∀ a h', Var h' a t cs -> KB h h' -> a.block = h.size -> h'.size = h.size + 1 -> K a h') : newx h ⟨cs⟩ t K :=
  hk _ _ ⟨rfl, by simp⟩ (SK.push h _) rfl (by simp)
abbrev KX (g : Nat) (h h' : H) : Prop := SK (fun k => k ≠ g) h h'
theorem KB.step {h0 h h' : H} {g : Nat} (k : KB h0 h) (x : KX g h h') (hg : h0.size <= g) : KB h0 h' := SK.trans k (x.less fun k hk => by intro e; have : k < h0.size := hk; omega)
theorem KW.step {h0 h h' : H} {g : Nat} (k : KW h0 h) (x : KX g h h') (hg : h0.size <= g) : KW h0 h' := Keep.trans k (x.w.less fun k hk => by intro e; have : k < h0.size := hk; omega)
theorem setc_var (v : Var h a t cs) (i : Nat) (x : Value) : setc h (a.add i) x = h.setIfInBounds a.block (.cells ⟨cs.set i x⟩ t (0, 0)) := by
  have e : (a.add i) = ⟨a.block, i, none⟩ := by rw [v.is]; unfold Addr.add; split <;> simp_all
  rw [e]
  unfold setc
  apply Array.ext_getElem?
  intro k
  rw [Array.getElem?_modify, Array.getElem?_setIfInBounds]
  by_cases hk : a.block = k
  · subst hk
    simp only [if_true]
    have hl := v.lt
    rw [v.cells]
    simp [hl]
  · simp [hk]
theorem Var.set (v : Var h a t cs) (i : Nat) (x : Value) : Var (setc h (a.add i) x) a t (cs.set i x) /\ KX a.block h (setc h (a.add i) x) := by
  refine ⟨⟨v.is, ?_⟩, SK.setc (by rw [add_block]; exact fun e => e rfl)⟩
  rw [setc_var v]
  have hl := v.lt
  simp [hl]
def setAll : List Value -> Nat -> List Value -> List Value
  | cs, _, [] => cs
  | cs, i, v :: l => setAll (cs.set i v) (i + 1) l
theorem stL_var {m : Nat} : ∀ {l : List Value} {i : Nat} {cs : List Value} {h : H} {K : H -> Prop}, Var h a t cs -> m + i + l.length <= cs.length ->
    (∀ h', Var h' a t (setAll cs (m + i) l) -> KX a.block h h' -> h'.size = h.size -> K h') -> stL (a.add m) l i h K
  | [], i, cs, h, K, v, hl, hk => hk h v (SK.refl _ _) rfl
  | x :: l, i, cs, h, K, v, hl, hk => by
    have hlt : m + i < cs.length := by simp at hl; omega
    rw [stL, add_add]
    refine ⟨⟨cs[m + i], v.cell (m + i) (List.getElem?_eq_getElem hlt)⟩, ?_, ?_⟩
    · unfold iced
      rw [add_block, v.cells]
      simp
    · obtain ⟨v2, k2⟩ := v.set (m + i) x
      refine stL_var (i := i + 1) v2 (by simp at hl ⊢; omega) fun h' v3 k3 hs => ?_
      refine hk h' (by rw [show m + (i + 1) = m + i + 1 by omega] at v3; exact v3) (k2.trans k3) (by rw [hs, setc_size])
theorem stL_var0 {l : List Value} {K : H -> Prop} (v : Var h a t cs) (hl : l.length <= cs.length) (hk : ∀ h', Var h' a t (setAll cs 0 l) -> KX a.block h h' -> h'.size = h.size -> K h') : stL a l 0 h K :=
  stL_var (a := a) (m := 0) (i := 0) (cs := cs) v (by simpa using hl) hk
end
def scalD (d : Option TypeDesc) : Bool :=
  match d with
  | some (.int _) => true
  | some .bool => true
  | some .string => true
  | _ => false
def flatF (P : Program) : List Field -> Nat -> Bool
  | [], _ => true
  | f :: fs, i => !(f.name == "_") && Nat.beq f.offset i && scalD (P.underlying f.type) && flatF P fs (i + 1)
def flatEq (P : Program) (t : TypeId) : Bool :=
  match P.underlying t with
  | some (.struct fs) => !P.stoodInHeld t && !P.eqGuardType P.depth t && flatF P fs.toList 0
  | _ => false
def okD (d : Option TypeDesc) (x y : Value) : Bool :=
  match d, x, y with
  | some (.int k), .int k1 _, .int k2 _ => decide (k1 = k /\ k2 = k)
  | some .bool, .bool _, .bool _ => true
  | some .string, .string _, .string _ => true
  | _, _, _ => false
def okF (P : Program) : List Field -> List Value -> List Value -> Bool
  | [], [], [] => true
  | f :: fs, x :: xs, y :: ys => okD (P.underlying f.type) x y && okF P fs xs ys
  | _, _, _ => false
def okV (P : Program) (t : TypeId) (xs ys : List Value) : Bool :=
  match P.underlying t with
  | some (.struct fs) => okF P fs.toList xs ys
  | _ => false
def eqV (x y : Value) : Bool :=
  match x, y with
  | .int _ a, .int _ b => a == b
  | .bool a, .bool b => a == b
  | .string a, .string b => a.data.toList == b.data.toList
  | _, _ => false
def eqAll : List Value -> List Value -> Bool
  | x :: xs, y :: ys => eqV x y && eqAll xs ys
  | _, _ => true
theorem run_part_at {e : TypeId} (w : World) (hd : scalD (P.underlying e) = true) {xs : Array Value} {off : Nat} {v : Value} (hx : xs[off]? = some v) : (part e xs off).run P w = .ok v w := by
  cases hu : P.underlying e with
  | none => rw [hu] at hd; cases hd
  | some d => cases d <;> first | (rw [hu] at hd; cases hd; done) | simp [part, isAgg, run_underlying hu, hx]
theorem run_scal (w : World) (d : Nat) (t : TypeId) {x y : Value} (hd : scalD (P.underlying t) = true) (ho : okD (P.underlying t) x y = true) : (Op.equalIn (d + 1) t x y).run P w = .ok (eqV x y) w := by
  cases hu : P.underlying t with
  | none => rw [hu] at hd; cases hd
  | some td =>
    rw [hu] at hd ho
    cases td <;> first | (cases hd; done) | skip
    · cases x <;> first | (cases ho; done) | skip
      cases y <;> first | (cases ho; done) | skip
      exact run_equalIn_bool' w d t _ _ hu
    · rename_i k
      cases x <;> first | (cases ho; done) | skip
      cases y <;> first | (cases ho; done) | skip
      rename_i k1 a k2 b
      simp only [okD, decide_eq_true_eq] at ho
      obtain ⟨rfl, rfl⟩ := ho
      exact run_equalIn_int w d t _ _ a b hu
    · cases x <;> first | (cases ho; done) | skip
      cases y <;> first | (cases ho; done) | skip
      rw [run_equalIn_string w d t _ _ hu, ByteArray.toList_eq, ByteArray.toList_eq]
      rfl
theorem run_eqF (w : World) (d : Nat) : ∀ {fs : List Field} {i : Nat} {xs ys px py : List Value}, flatF P fs i = true -> okF P fs xs ys = true -> px.length = i -> py.length = i ->
    (Op.eqFields (d + 1) ⟨px ++ xs⟩ ⟨py ++ ys⟩ fs).run P w = .ok (eqAll xs ys) w
  | [], i, [], [], px, py, _, _, _, _ => rfl
  | f :: fs, i, x :: xs, y :: ys, px, py, hf, ho, hx, hy => by
    simp only [flatF, Bool.and_eq_true, Bool.not_eq_true'] at hf
    simp only [okF, Bool.and_eq_true] at ho
    obtain ⟨⟨⟨h1, h2⟩, h3⟩, h4⟩ := hf
    have hoff := Nat.eq_of_beq_eq_true h2
    have hn : f.name ≠ "_" := fun e => by rw [e] at h1; simp at h1
    unfold Op.eqFields
    rw [if_pos hn]
    have hpx : (⟨px ++ x :: xs⟩ : Array Value)[f.offset]? = some x := by simp [hoff, <- hx]
    have hpy : (⟨py ++ y :: ys⟩ : Array Value)[f.offset]? = some y := by simp [hoff, <- hy]
    simp only [Sem.run_bind, run_part_at w h3 hpx, run_part_at w h3 hpy, Result.andThen_ok, run_scal w d f.type h3 ho.1]
    cases he : eqV x y with
    | false => simp [eqAll, he]
    | true =>
      simp only [Bool.not_true, Bool.false_eq_true, if_false, eqAll, he, Bool.true_and]
      have := run_eqF w d (fs := fs) (i := i + 1) (xs := xs) (ys := ys) (px := px ++ [x]) (py := py ++ [y]) h4 ho.2 (by simp [hx]) (by simp [hy])
      simpa using this
theorem run_eqS {t : TypeId} {x y : Operand} {xs ys : List Value} (hf : flatEq P t = true) (ho : okV P t xs ys = true) (w : World) :
    (Op.equalIn 10000 t (.agg ⟨xs⟩) (.agg ⟨ys⟩)).run P w = .ok (eqAll xs ys) w /\ ∀ op, (eqGuard op t x y (.agg ⟨xs⟩) (.agg ⟨ys⟩)).run P w = .ok () w := by
  unfold flatEq at hf
  unfold okV at ho
  cases hu : P.underlying t with
  | none => rw [hu] at hf; cases hf
  | some td =>
    rw [hu] at hf ho
    cases td <;> first | (cases hf; done) | skip
    rename_i fs
    simp only [Bool.and_eq_true, Bool.not_eq_true'] at hf
    have hfo : P.fieldsOf t = fs := by unfold Program.fieldsOf; rw [hu]
    refine ⟨?_, fun op => run_eqGuard_agg w op t x y _ _ hf.1.2⟩
    have := run_equalIn_struct (P := P) w 9999 t ⟨xs⟩ ⟨ys⟩ (by rw [hfo]; exact hu) hf.1.1
    rw [hfo] at this
    refine this.trans ?_
    have := run_eqF w 9998 (px := []) (py := []) hf.2 ho rfl rfl
    simpa using this
theorem semR_eql {t : TypeId} {x y : Operand} {xs ys : List Value} {h : H} {K : Value -> Prop} (hf : flatEq P t = true) (ho : okV P t xs ys = true) (hk : K (.bool (eqAll xs ys))) :
    SemR P (binS .eql t x y (.agg ⟨xs⟩) (.agg ⟨ys⟩)) h K := by
  refine ⟨_, hk, fun w _ => ?_⟩
  obtain ⟨h1, h2⟩ := run_eqS (x := x) (y := y) hf ho w
  unfold binS
  rw [Sem.run_bind, h2, Result.andThen_ok, run_eql_struct, h1]
  rfl
theorem SemR.h {m : Sem Value} {h : H} {K : Value -> H -> Prop} (hs : SemR P m h fun v => K v h) : SemH P m h K := by
  obtain ⟨v, hk, hall⟩ := hs
  intro w hw
  exact ⟨v, w, hall w (by rw [hw]; exact ExtH.refl h), Outer.refl w, by rw [hw]; exact hk⟩
end Go.Sh
namespace Go.Sh
open Go
set_option linter.unusedVariables false
variable {P : Program}
abbrev Non : Nat -> Prop := fun _ => False
theorem NzP.kw {L : Nat} {h h1 : H} (n : NzP Non L h h1) : KW h h1 := ⟨n.1, fun b _ o e hl => n.2 b o e (fun x => x) fun _ => hl⟩
theorem KB.nz {L : Nat} {h0 h h1 : H} (k : KB h0 h) (n : NzP Non L h h1) (hL : h0.size <= L) : KB h0 h1 :=
  ⟨Nat.le_trans k.1 n.1, fun b hb => by
    have e := k.2 b hb
    have hb' : b < h0.size := hb
    rw [Array.getElem?_eq_getElem hb'] at e ⊢
    exact n.2 b _ e (fun x => x) fun e2 => by omega⟩
theorem KpR.keep {Rd : Nat -> Prop} {h h1 : H} (k : KpR Rd h h1) : Keep Rd h h1 := ⟨k.1, fun b hb o e hl => k.2 b o e hb hl⟩
theorem KB.kp {Rd : Nat -> Prop} {h h1 : H} (k : KB h h1) : KpP Rd h h1 :=
  ⟨fun b o e _ => by rw [k.2 b (Array.getElem?_eq_some_iff.1 e).1]; exact e, k.1, fun b o e _ _ => by rw [k.2 b (Array.getElem?_eq_some_iff.1 e).1]; exact e⟩
theorem KX.kp {Rd : Nat -> Prop} {h h1 : H} {t : Nat} {a : Addr} {cs : List Value} (v : Var h a t cs) (k : KX a.block h h1) (hR : ¬ Rd a.block) : KpP Rd h h1 :=
  ⟨fun b o e hl => by
    have hne : b ≠ a.block := fun e2 => by rw [e2, v.cells] at e; cases e; cases hl
    rw [k.2 b hne]; exact e, k.1, fun b o e hr _ => by
    have hne : b ≠ a.block := fun e2 => hR (e2 ▸ hr)
    rw [k.2 b hne]; exact e⟩
theorem KpP.trans {Rd : Nat -> Prop} {a b c : H} (h : KpP Rd a b) (k : KpP Rd b c) : KpP Rd a c := ⟨fun i o e hl => k.1 i o (h.1 i o e hl) hl, h.2.trans k.2⟩
theorem KpP.refl (Rd : Nat -> Prop) (h : H) : KpP Rd h h := (KB.refl h).kp
theorem rounds_of {D : Nat} {Rd : Nat -> Prop} {rd : Round} {done : H -> Prop} (Inv : List (List Value) -> H -> Prop) (hz : ∀ xs h h1, Inv xs h -> NzP Non (D + 1) h h1 -> Inv xs h1)
    (hs : ∀ x xs h1 Kc, Inv (x :: xs) h1 -> (∀ hb h', KpP Rd hb h' -> Inv xs h' -> Kc hb h') ->
      rd x (fun he p => KpP Rd h1 he /\ ∀ h2, NzP Non (D + 1) he h2 -> p h2) Kc (fun hb h' p => KpP Rd hb h' /\ ∀ h4, NzP Non (D + 1) h' h4 -> dOpen D h4 -> p h4) h1)
    (hd : ∀ h1, Inv [] h1 -> dOpen D h1 -> done h1) : ∀ (xs : List (List Value)) (h : H), Inv xs h -> rounds D Non Rd rd done xs h
  | [], h, hi => fun h1 hn ho => hd h1 (hz _ _ _ hi hn) ho
  | x :: xs, h, hi => fun h1 hn => hs x xs h1 _ (hz _ _ _ hi hn) fun hb h' hk hi' => ⟨hk, rounds_of Inv hz hs hd xs h' hi'⟩
theorem KW.leave {h0 h : H} {D : Nat} (k : KW h0 h) (hd : dOpen D h) : KW h0 (h.setIfInBounds D (.deferred none)) :=
  ⟨by simpa using k.1, fun b hb o e hl => by
    have e2 := k.2 b hb o e hl
    have hne : D ≠ b := fun e3 => by
      subst e3
      have hd : h[D]? = _ := hd
      rw [hd] at e2; cases e2; cases hl
    rw [Array.getElem?_setIfInBounds_ne hne]; exact e2⟩
theorem Var.dOpen {h h' : H} {a : Addr} {t D : Nat} {cs : List Value} (v : Var h a t cs) (k : KX a.block h h') (hd : dOpen D h) : dOpen D h' := by
  have hne : D ≠ a.block := fun e => by
    have hd : h[D]? = _ := hd
    rw [e, v.cells] at hd; cases hd
  show h'[D]? = _
  rw [k.2 D hne]; exact hd
theorem KB.leave {h0 h : H} {D : Nat} (k : KB h0 h) (hD : h0.size <= D) : KB h0 (h.setIfInBounds D (.deferred none)) :=
  ⟨by simpa using k.1, fun b hb => by
    have hb' : b < h0.size := hb
    rw [Array.getElem?_setIfInBounds_ne (by omega)]; exact k.2 b hb⟩
theorem leave_int {h0 h : H} {D : Nat} {a : Addr} {t : Nat} {i : Int} {K : Value -> H -> Prop} (hd : dOpen D h) (k : KB h0 h) (hD : h0.size <= D) (v : Var h a t [.int .i64 i]) (hk : ∀ h', KB h0 h' -> K (.int .i64 i) h') :
    leaveX [markD D] h fun h => ∃ j, cell h a = some (.int .i64 j) /\ K (.int .i64 j) h := by
  have k2 := (KW.refl h).leave hd
  exact ⟨hd, i, (v.kw k2).cell0 rfl, hk _ (k.leave hD)⟩
end Go.Sh
namespace Go.Sh
open Go
set_option linter.unusedVariables false
variable {P : Program} {α : Type} {E : El α}
def apdB (P : Program) (sz t e by' : Nat) : Bool :=
  match P.underlying t with
  | some (.slice e') =>
    match P.info? e with
    | some i =>
      match i.zero with
      | some z => Nat.beq e' e && (Nat.beq z.cells.size i.size && (Nat.beq i.size sz && Nat.beq i.bytes by'))
      | none => false
    | none => false
  | _ => false
theorem apd_of {t e by' sz : Nat} (h : apdB P sz t e by' = true) (hs : sz = E.sz) : Apd P E t e by' := by
  subst hs
  unfold apdB at h
  split at h
  · rename_i e' he
    split at h
    · rename_i i hi
      split at h
      · rename_i z hz
        simp only [Bool.and_eq_true] at h
        obtain ⟨h1, h2, h3, h4⟩ := h
        have e1 := Nat.eq_of_beq_eq_true h1
        subst e1
        exact ⟨i, z, he, hi, hz, Nat.eq_of_beq_eq_true h2, Nat.eq_of_beq_eq_true h3, Nat.eq_of_beq_eq_true h4⟩
      · cases h
    · cases h
  · cases h
def isSlD (d : Option TypeDesc) : Bool :=
  match d with
  | some (.slice _) => true
  | _ => false
theorem run_eqNil {t : TypeId} {x y : Operand} {b : Option Addr} {n c : Nat} (ht : isSlD (P.underlying t) = true) (w : World) :
    (binS .eql t x y (.slice b n c) (.slice none 0 0)).run P w = .ok (.bool b.isNone) w /\ (binS .neq t x y (.slice b n c) (.slice none 0 0)).run P w = .ok (.bool (!b.isNone)) w := by
  unfold isSlD at ht
  split at ht
  · rename_i e he
    have h1 : (eqGuard .eql t x y (.slice b n c) (.slice none 0 0)).run P w = .ok () w := by simp [eqGuard]
    have h2 : (eqGuard .neq t x y (.slice b n c) (.slice none 0 0)).run P w = .ok () w := by simp [eqGuard]
    unfold binS
    rw [Sem.run_bind, h1, Sem.run_bind, h2, Result.andThen_ok, Result.andThen_ok]
    refine ⟨Lib.run_eql_slice_nil w t e b n c 0 0 he, ?_⟩
    simp only [binOp]
    simp [Op.equal, Op.maxDepth, Lib.run_equalIn_slice_nil w 9999 t e b n c 0 0 he]
  · cases ht
theorem semR_slnil {t : TypeId} {x y : Operand} {b : Option Addr} {n c : Nat} {h : H} {K : Value -> Prop} (ht : isSlD (P.underlying t) = true) (hk : K (.bool b.isNone)) :
    SemR P (binS .eql t x y (.slice b n c) (.slice none 0 0)) h K := ⟨_, hk, fun w _ => (run_eqNil ht w).1⟩
theorem Row.bel {A : Nat -> Prop} {h : H} {b : Option Addr} {n c : Nat} {l : List α} (r : Row E A h b n c l) : Row E (Bel h.size) h b n c l := r.keep (Keep.refl _ _) fun _ _ h => h
theorem Grow.kb0 {h0 h h' : H} {sb : Option Addr} (k : KB h0 h) (g : Grow h h' sb) (hge : ∀ a, sb = some a -> h0.size <= a.block) : KB h0 h' :=
  ⟨Nat.le_trans k.1 g.size, fun x hx => (g.old x (Nat.lt_of_lt_of_le hx k.1) fun a e => by have := hge a e; have hx : x < h0.size := hx; omega).trans (k.2 x hx)⟩
structure OwnF (E : El α) (h : H) (base e : Nat) (b : Option Addr) (n c : Nat) (l : List α) : Prop where
  own : OwnT E (But h b) h base e b n c l
  lo : ∀ a, b = some a -> base <= a.block
  hi : ∀ a, b = some a -> a.block < h.size
  nil : b = none -> c = 0
theorem OwnF.none (h : H) (base e : Nat) : OwnF E h base e none 0 0 [] := ⟨OwnT.nil _ _ _ _ _, (fun _ e => by cases e), (fun _ e => by cases e), fun _ => rfl⟩
theorem OwnF.kw {h h' : H} {base e n c : Nat} {b : Option Addr} {l : List α} (o : OwnF E h base e b n c l) (k : KW h h') : OwnF E h' base e b n c l :=
  ⟨o.own.keep (B := Bel h.size) k (fun _ _ h => h) (fun k' hk hks => ⟨Nat.lt_of_lt_of_le hks k.1, hk.2⟩) fun _ _ _ h => h, o.lo, fun a e => Nat.lt_of_lt_of_le (o.hi a e) k.1, o.nil⟩
theorem OwnF.kb {h h' : H} {base e n c : Nat} {b : Option Addr} {l : List α} (o : OwnF E h base e b n c l) (k : KB h h') : OwnF E h' base e b n c l := o.kw (KB.w k)
theorem OwnF.lower {h : H} {base base' e n c : Nat} {b : Option Addr} {l : List α} (o : OwnF E h base e b n c l) (hb : base' <= base) : OwnF E h base' e b n c l := ⟨o.own.lower hb, fun a e => Nat.le_trans hb (o.lo a e), o.hi, o.nil⟩
theorem OwnF.row {h : H} {base e n c : Nat} {b : Option Addr} {l : List α} (o : OwnF E h base e b n c l) : Row E (Bel h.size) h b n c l := o.own.row (fun _ h => h.1) fun _ _ h _ => h
theorem OwnF.cap {h : H} {base e n c : Nat} {b : Option Addr} {l : List α} (o : OwnF E h base e b n c l) : n <= c /\ c <= maxLen := o.own.cap
theorem OwnF.append {t ty e by' : Nat} (ap : Apd P E t e by') {h : H} {sb rb : Option Addr} {n c m k base : Nat} {l l2 : List α} (o : OwnF E h base e sb n c l) (r : Row E (But h sb) h rb m k l2)
    (h63 : n + m <= maxLen) (hb : (n + m) * by' <= 140737488355328) (hbase : base <= h.size) {K : Value -> H -> Prop}
    (hk : ∀ b' c' h', OwnF E h' base e b' (n + m) c' (l ++ l2) -> Grow h h' sb -> K (.slice b' (n + m) c') h') :
    SemH P (Builtin.append_ #[t, t] ty ⟨[.slice sb n c, .slice rb m k]⟩) h K := by
  refine OwnT.append ap o.own r h63 hb hbase (fun k hk _ => hk.2) fun b2 c2 h' o' hg hb h0 => hk b2 c2 h' ⟨?_, ?_, ?_, ?_⟩ hg
  · refine o'.keep (Keep.refl (fun _ => True) _) (fun _ _ _ => trivial) (fun k hk' hks => ⟨hks, fun x hx => ?_⟩) fun _ _ _ _ => trivial
    rcases hb with rfl | rfl
    · exact hk'.2 x hx
    · cases hx
      have := hk'.1
      show h.size ≠ k
      omega
  · intro x hx
    rcases hb with rfl | rfl
    · exact o.lo x hx
    · cases hx; exact hbase
  · intro x hx
    rcases hb with rfl | rfl
    · exact Nat.lt_of_lt_of_le (o.hi x hx) hg.size
    · obtain ⟨xs, ho, _⟩ := o'.own
      rcases ho.is with h1 | ⟨g, cur, e1, _, hgg, _⟩
      · have := h0 h1.1
        exact Nat.lt_of_lt_of_le (o.hi x (this.1 ▸ hx)) hg.size
      · rw [hx] at e1; cases e1; exact (Array.getElem?_eq_some_iff.1 hgg).1
  · intro hbn
    have := o'.cap
    obtain ⟨xs, ho, _⟩ := o'.own
    rcases ho.is with h1 | ⟨g, cur, e1, _⟩
    · exact h1.2
    · rw [hbn] at e1; cases e1
end Go.Sh
namespace Go.Sh
open Go Go.RowKit
set_option linter.unusedVariables false
theorem getD_get {α : Type} {l : List α} {i : Nat} {d : α} (hi : i < l.length) : l.getD i d = l[i] := by
  rw [List.getD_eq_getElem?_getD, List.getElem?_eq_getElem hi]; rfl
theorem rng64 {n : Int} (h1 : -9223372036854775808 <= n) (h2 : n <= 9223372036854775807) : Rng .i64 n := ⟨h1, h2⟩
theorem vBool_mk {b : Bool} {k : Bool -> Prop} (h : k b) : vBool (.bool b) k := h
theorem vIntMk {kd : IntKind} {i : Int} {k : Int -> Prop} (h : k i) : vInt kd (.int kd i) k := by
  show (if kd = kd then k i else False)
  rw [if_pos rfl]; exact h
theorem vSliceMk {b : Option Addr} {n c : Nat} {k : Option Addr -> Nat -> Nat -> Prop} (h : k b n c) : vSlice (.slice b n c) k := h
theorem vStrMk {s : List UInt8} {k : List UInt8 -> Prop} (h : k s) : vStr (S s) k := h
theorem condB {b : Bool} {X Y : Prop} (x : b = true -> X) (y : b = false -> Y) : cond b X Y := by cases b <;> first | exact x rfl | exact y rfl
theorem condT {X Y : Prop} (x : X) : cond true X Y := x
theorem condF {X Y : Prop} (y : Y) : cond false X Y := y
theorem condK {b : Bool} {K : Bool -> Prop} (h : K b) : cond b (K true) (K false) := by cases b <;> exact h
theorem splK {p : Prop} [Decidable p] {K : Bool -> Prop} (h : K (decide p)) : Spl p (K true) (K false) := by
  by_cases e : p
  · rw [decide_eq_true e] at h; exact splT e h
  · rw [decide_eq_false e] at h; exact splF e h
theorem tupII {ka kb : IntKind} {a c : Int} {k : Int -> Int -> Prop} (h : k a c) : vTup (.tuple ⟨[.int ka a, .int kb c]⟩) fun l => uncons l fun e l => vInt ka e fun s => uncons l fun e l => vInt kb e fun i => unnil l (k s i) :=
  show vInt ka (.int ka a) fun a => vInt kb (.int kb c) fun i => k a i from vIntMk (vIntMk h)
theorem hcalls_of {P : Program} {f : FuncId} {args : Array Value} {h : H} {v : Value} {K : Value -> H -> Prop} (hc : ∀ w : World, w.heap = h -> Calls P f args w fun e w' => e = .returned v /\ w' = w) (hk : K v h) : HCalls P f args h K :=
  fun w hw => (hc w hw).mono fun e w' ⟨he, hw'⟩ => ⟨v, he, by rw [hw']; exact Outer.refl w, by rw [hw', hw]; exact hk⟩
def ML (h : H) : Prop := ∃ m, cell h ⟨0, 0, none⟩ = some (.int .i64 m)
theorem ML.kb {h h' : H} (m : ML h) (k : KB h h') : ML h' := by
  obtain ⟨x, e⟩ := m
  exact ⟨x, (KB.w k).cell (cell_lt e) e⟩
theorem sub_zero (l : List UInt8) (i : Nat) : sub l 0 (i : Int) = l.take i := by
  unfold sub
  simp
end Go.Sh
namespace Go.Sh
open Go
set_option linter.unusedVariables false
variable {P : Program} {α : Type} {E : El α}
theorem eqGuard_ptr {op : BinOp} {t : TypeId} {x y : Operand} {p q : Option Addr} {w : World} : (eqGuard op t x y (.pointer p) (.pointer q)).run P w = .ok () w := by
  unfold eqGuard
  cases op <;> simp
theorem ptrEq_R {t : TypeId} {x y : Operand} {p : Option Addr} {h : H} {K : Value -> Prop} (ht : P.underlying t = some (.pointer (P.pointee t))) (hk : K (.bool p.isNone)) : SemR P (binS .eql t x y (.pointer p) (.pointer none)) h K :=
  ⟨_, hk, fun w _ => by unfold binS; rw [Sem.run_bind, eqGuard_ptr, Result.andThen_ok]; exact run_eql_pointer_nil w t p ht⟩
theorem ptrEq_k {t : TypeId} {x y : Operand} {p : Option Addr} {h : H} {K : Value -> H -> Prop} (ht : P.underlying t = some (.pointer (P.pointee t))) (hk : K (.bool p.isNone) h) : SemH P (binS .eql t x y (.pointer p) (.pointer none)) h K := (ptrEq_R ht (K := fun v => K v h) hk).h
theorem Enc.set {A : Nat -> Prop} {h : H} : ∀ {l : List α} {xs : List Value} {i f : Nat} {x x' : α} {v : Value}, Enc E A h l xs -> l[i]? = some x -> f < E.sz -> (∀ cs, E.R A h x cs -> E.R A h x' (cs.set f v)) -> Enc E A h (l.set i x') (xs.set (i * E.sz + f) v)
  | [], xs, i, f, x, x', v, e, hx, _, _ => by simp at hx
  | y :: l, xs, 0, f, x, x', v, ⟨cs, r, e, h1, h2⟩, hx, hf, hR => by
    simp at hx
    subst hx
    have hl := E.len _ _ _ _ h1
    refine ⟨cs.set f v, r, ?_, hR cs h1, h2⟩
    rw [e, Nat.zero_mul, Nat.zero_add, List.set_append_left _ _ (by omega)]
  | y :: l, xs, i + 1, f, x, x', v, ⟨cs, r, e, h1, h2⟩, hx, hf, hR => by
    have hl := E.len _ _ _ _ h1
    have ih := Enc.set (i := i) (f := f) (x' := x') (v := v) h2 (by simpa using hx) hf hR
    refine ⟨cs, r.set (i * E.sz + f) v, ?_, h1, ih⟩
    rw [e, Nat.add_mul, List.set_append_right _ _ (by omega), hl]
    congr 2
    omega
theorem set_take {β : Type} (l : List β) (n k : Nat) (v : β) : (l.set k v).take n = (l.take n).set k v := List.take_set
theorem OwnT.flatK {A A' : Nat -> Prop} {h h' : H} {base e n c : Nat} {b : Option Addr} {l : List α} {B : Nat -> Prop} (o : OwnT E A h base e b n c l) (k : Keep B h h') (hf : Flat E) (hg : ∀ g, b = some ⟨g, 0, none⟩ -> base <= g -> g < h.size -> B g) : OwnT E A' h' base e b n c l := by
  obtain ⟨xs, h1, h2⟩ := o.own
  exact ⟨o.len, xs, h1.keep k hg, h2.flat hf⟩
theorem OwnF.flatK {h h' : H} {base e n c : Nat} {b : Option Addr} {l : List α} {B : Nat -> Prop} (o : OwnF E h base e b n c l) (k : SK B h h') (hf : Flat E) (hg : ∀ g, base <= g -> B g) : OwnF E h' base e b n c l :=
  ⟨o.own.flatK k.w hf fun g _ hg1 _ => hg g hg1, o.lo, fun a ea => Nat.lt_of_lt_of_le (o.hi a ea) k.1, o.nil⟩
end Go.Sh
namespace Go.Sh
open Go
set_option linter.unusedVariables false
variable {P : Program} {α : Type} {E : El α}
theorem Enc.drop {A : Nat -> Prop} {h : H} : ∀ {l : List α} {xs : List Value} (k : Nat), Enc E A h l xs -> Enc E A h (l.drop k) (xs.drop (k * E.sz))
  | l, xs, 0, e => by rw [Nat.zero_mul, List.drop_zero, List.drop_zero]; exact e
  | [], xs, k + 1, e => by
    have e : xs = [] := e
    rw [e, List.drop_nil, List.drop_nil]; rfl
  | x :: l, xs, k + 1, ⟨cs, r, e, hR, hr⟩ => by
    have hl := E.len _ _ _ _ hR
    rw [List.drop_succ_cons]
    have : xs.drop ((k + 1) * E.sz) = r.drop (k * E.sz) := by
      rw [e, Nat.succ_mul, Nat.add_comm, <- hl, List.drop_append, List.drop_of_length_le (by omega)]
      simp
    rw [this]
    exact Enc.drop k hr
theorem Cells.drop {h : H} {b : Option Addr} {cs : List Value} {c lo z : Nat} (k : Cells h b cs) (hc : c = lo -> cs.drop (lo * z) = []) : Cells h (if c = lo then b else Option.map (fun q => q.add (lo * z)) b) (cs.drop (lo * z)) := fun j v hv => by
  by_cases e : c = lo
  · rw [hc e] at hv; simp at hv
  · rw [if_neg e]
    rw [List.getElem?_drop] at hv
    obtain ⟨a, ea, ec⟩ := k _ _ hv
    refine ⟨a.add (lo * z), by rw [ea]; rfl, ?_⟩
    rw [add_add]; exact ec
theorem Cells.take {h : H} {b : Option Addr} {cs : List Value} (k : Cells h b cs) (n : Nat) : Cells h b (cs.take n) := fun j v hv => by
  rw [List.getElem?_take] at hv
  split at hv
  · exact k j v hv
  · cases hv
theorem OwnT.appendE {t ty e by' : Nat} (ap : Apd P E t e by') {A : Nat -> Prop} {h : H} {sb rb : Option Addr} {n c m k base : Nat} {l l2 : List α} {news : List Value} (o : OwnT E A h base e sb n c l)
    (hl2 : l2.length = m) (hen : Enc E A h l2 news) (hcn : Cells h rb news) (h63 : n + m <= maxLen) (hb : (n + m) * by' <= 140737488355328) (hbase : base <= h.size)
    (hAb : ∀ k, A k -> k < h.size -> ∀ a, sb = some a -> a.block ≠ k) {K : Value -> H -> Prop}
    (hK : ∀ b' c' h', OwnT E A h' base e b' (n + m) c' (l ++ l2) -> Grow h h' sb -> (b' = sb ∨ b' = some (Ad h.size)) -> (n + m = 0 -> b' = sb /\ c' = c) -> K (.slice b' (n + m) c') h') :
    SemH P (Builtin.append_ #[t, t] ty ⟨[.slice sb n c, .slice rb m k]⟩) h K := by
  obtain ⟨i, z, ht, hi, hz, hzs, hsz, hby⟩ := ap.is
  obtain ⟨xs, h1, h2⟩ := o.own
  have hlen : news.length = m * i.size := by rw [hen.len, hl2, hsz]
  refine append_own (xs := xs) (news := news) (base := base) ht hi hz hzs (by rw [hsz]; exact h1) hlen hcn hen.one (by rw [hsz]; exact E.pos) h63 (by rw [hby]; exact hb) hbase fun b' c' h' ho hg hb' h0 => ?_
  refine hK b' c' h' ⟨by rw [List.length_append, o.len, hl2], xs ++ news, by rw [<- hsz]; exact ho, ?_⟩ hg hb' h0
  exact (h2.append hen).keep (hg.keep.w.less fun k hk => ⟨hk.2, hAb k hk.1 hk.2⟩) fun _ h _ => h
structure OwnA (E : El α) (A : Nat -> Prop) (h : H) (base e : Nat) (b : Option Addr) (n c : Nat) (l : List α) : Prop where
  own : OwnT E A h base e b n c l
  lo : ∀ a, b = some a -> base <= a.block
  hi : ∀ a, b = some a -> a.block < h.size
  nil : b = none -> c = 0
section
variable {A : Nat -> Prop} {h h' : H} {base e n c : Nat} {b : Option Addr} {l : List α}
theorem OwnA.none (A : Nat -> Prop) (h : H) (base e : Nat) : OwnA E A h base e none 0 0 [] := ⟨OwnT.nil _ _ _ _ _, (fun _ h => nomatch h), (fun _ h => nomatch h), fun _ => rfl⟩
theorem OwnA.kb (o : OwnA E A h base e b n c l) (k : KB h h') : OwnA E A h' base e b n c l := ⟨o.own.kb k, o.lo, fun a ea => Nat.lt_of_lt_of_le (o.hi a ea) k.1, o.nil⟩
theorem OwnA.lower {base' : Nat} (o : OwnA E A h base e b n c l) (hb : base' <= base) : OwnA E A h base' e b n c l := ⟨o.own.lower hb, fun a ea => Nat.le_trans hb (o.lo a ea), o.hi, o.nil⟩
theorem OwnA.len (o : OwnA E A h base e b n c l) : l.length = n := o.own.len
theorem OwnA.row (o : OwnA E A h base e b n c l) (hA : ∀ k, A k -> k < h.size) : Row E (Bel h.size) h b n c l := o.own.row hA fun g _ hs _ => hs
theorem OwnA.append {t ty by' : Nat} (ap : Apd P E t e by') {rb : Option Addr} {m k : Nat} {l2 : List α} {news : List Value} (o : OwnA E A h base e b n c l) (hA : ∀ k, A k -> k < base)
    (hl2 : l2.length = m) (hen : Enc E A h l2 news) (hcn : Cells h rb news) (h63 : n + m <= maxLen) (hb : (n + m) * by' <= 140737488355328) (hbase : base <= h.size) {K : Value -> H -> Prop}
    (hk : ∀ b' c' h', OwnA E A h' base e b' (n + m) c' (l ++ l2) -> Grow h h' b -> K (.slice b' (n + m) c') h') :
    SemH P (Builtin.append_ #[t, t] ty ⟨[.slice b n c, .slice rb m k]⟩) h K := by
  refine OwnT.appendE ap o.own hl2 hen hcn h63 hb hbase (fun k hk _ a ea => by have := o.lo a ea; have := hA k hk; omega) fun b2 c2 h2 o2 hg hb2 h0 => hk b2 c2 h2 ⟨o2, fun a ea => ?_, fun a ea => ?_, fun e => ?_⟩ hg
  · rcases hb2 with rfl | rfl
    · exact o.lo a ea
    · cases ea; exact hbase
  · rcases o2.own with ⟨xs, ow, _⟩
    rcases ow.lt with ⟨hn, hc⟩ | ⟨g, e1, _, hlt⟩
    · have := h0 hn
      rw [this.1] at ea
      exact Nat.lt_of_lt_of_le (o.hi a ea) hg.size
    · rw [ea] at e1; cases e1; exact hlt
  · subst e
    rcases o2.own with ⟨xs, ow, _⟩
    rcases ow.is with ⟨hn, hc⟩ | ⟨g, cur, e, _⟩
    · exact hc
    · cases e
theorem Var.one {a : Addr} {ty : Nat} {x : α} {cs : List Value} (v : Var h a ty cs) (hR : E.R A h x cs) : Enc E A h [x] cs /\ Cells h (some a) cs := ⟨⟨cs, [], by simp, hR, rfl⟩, fun j u hu => ⟨a, rfl, v.cell j hu⟩⟩
theorem OwnA.grow {h0 : H} {sb : Option Addr} (k : KB h0 h) (g : Grow h h' b) (o : OwnA E A h base e b n c l) (hb : h0.size <= base) : KB h0 h' := Grow.kb0 k g fun a ea => Nat.le_trans hb (o.lo a ea)
end
def zeroB (P : Program) (e : Nat) : Bool :=
  match P.info? e with
  | some i =>
    match i.zero with
    | some z => z.cells.toList.all fun v => v.oneCell'
    | none => false
  | none => false
theorem delRow_k {t e by' : Nat} (ap : Apd P E t e by') (hzb : zeroB P e = true) {A : Nat -> Prop} {h : H} {base n c i : Nat} {b : Option Addr} {l : List α} (o : OwnA E A h base e b n c l) (hA : ∀ k, A k -> k < base) (hi : i < n) {K : Option Addr -> Nat -> Nat -> H -> Prop}
    (hk : ∀ h', OwnA E A h' base e b (n - 1) c (l.eraseIdx i) -> Grow h h' b -> h'.size = h.size -> K b (n - 1) c h') {ty ty2 : TypeId} :
    SemH P (Builtin.append_ #[t, t] ty ⟨[.slice b i c, .slice (if c = i + 1 then b else Option.map (fun q => q.add ((i + 1) * E.sz)) b) (n - (i + 1)) (c - (i + 1))]⟩) h fun v h1 => vSlice v fun sb sn sc =>
      ((0 : Int) <= (sn : Int) /\ (sn : Int) <= (n : Int) /\ (n : Int) <= (sc : Int)) /\ SemH P (Builtin.clear_ #[t] ty2 ⟨[.slice (if sc = sn then sb else Option.map (fun q => q.add (sn * E.sz)) sb) (n - sn) (sc - sn)]⟩) h1 fun _ h2 => K sb sn sc h2 := by
  obtain ⟨ii, z, ht, hinf, hz, hzs, hsz, hby⟩ := ap.is
  have hz1 : ∀ v ∈ z.cells.toList, v.oneCell' = true := by
    unfold zeroB at hzb
    rw [hinf] at hzb
    simp only [hz] at hzb
    exact List.all_eq_true.1 hzb
  obtain ⟨xs, ow, en⟩ := o.own.own
  have hl := o.len
  rcases ow.is with ⟨h0, _⟩ | ⟨g, cur, rfl, hbg, hg, hcs, htk⟩
  · omega
  intro w hw
  subst hw
  have hcap := ow.cap
  have hpos := E.pos
  have hxl : xs.length = n * E.sz := ow.len
  have hcur : n * E.sz <= cur.size := by rw [hcs]; exact Nat.mul_le_mul_right _ hcap
  have hi1 : (i + 1) * E.sz <= n * E.sz := Nat.mul_le_mul_right _ hi
  have hi2 : (i + 1) * E.sz = i * E.sz + E.sz := Nat.succ_mul _ _
  have hn1 : n * E.sz = (n - 1) * E.sz + E.sz := by rw [<- Nat.succ_mul]; congr 1; omega
  have hcells := Cells.drop (c := c) (lo := i + 1) (z := E.sz) ow.cells (fun e => List.drop_of_length_le (by
    have : n = i + 1 := by omega
    rw [hxl, this]; exact Nat.le_refl _))
  have hnl : (xs.drop ((i + 1) * E.sz)).length = (n - (i + 1)) * ii.size := by
    rw [List.length_drop, hxl, hsz, <- Nat.sub_mul]
  obtain ⟨R, hR⟩ : ∃ R, (if c = i + 1 then some (⟨g, 0, Option.none⟩ : Addr) else Option.map (fun q => q.add ((i + 1) * E.sz)) (some (⟨g, 0, Option.none⟩ : Addr))) = some R := by
    split
    · exact ⟨_, rfl⟩
    · exact ⟨_, rfl⟩
  rw [hR] at hcells ⊢
  have h1n : ∀ u ∈ xs.drop ((i + 1) * E.sz), u.oneCell' = true := fun u hu => en.one u (List.mem_of_mem_drop hu)
  have hr := run_append_room (P := P) w t ty e ii ht hinf g i c cur hg R (n - (i + 1)) (c - (i + 1)) _ hnl (fun j u hu => by
    obtain ⟨a, ea, ec⟩ := hcells j u hu
    cases ea
    exact ec) h1n (by omega) (by rw [hnl, hsz, <- Nat.add_mul]; exact Nat.le_trans (Nat.mul_le_mul_right _ (by omega)) hcur)
  have en1 : i + (n - (i + 1)) = n - 1 := by omega
  rw [hsz] at hr
  refine ⟨_, _, hr, ⟨rfl, rfl, rfl⟩, ?_⟩
  rw [en1]
  refine ⟨⟨by omega, by omega, by omega⟩, ?_⟩
  intro w2 hw2
  have hcn : ¬ c = n - 1 := by omega
  rw [if_neg hcn]
  have hxd : (xs.drop ((i + 1) * E.sz)).length = n * E.sz - (i + 1) * E.sz := by rw [List.length_drop, hxl]
  obtain ⟨cur1, hcur1⟩ : ∃ cur1, cur1 = (cur.toList.take (i * E.sz) ++ xs.drop ((i + 1) * E.sz) ++ cur.toList.drop (i * E.sz + (xs.drop ((i + 1) * E.sz)).length)).toArray := ⟨_, rfl⟩
  have hg2 : w2.heap[g]? = some (.cells cur1 e (0, 0)) := by rw [hw2, hcur1]; exact setRow_heap w g cur _ e _ hg
  have hs1 : cur1.size = cur.size := by
    rw [hcur1]
    simp only [List.size_toArray, List.length_append, List.length_take, List.length_drop, Array.length_toList]
    omega
  have hzl : (Builtin.zeroCells z.cells 1).toList = z.cells.toList := by
    simp [Builtin.zeroCells]
    apply List.ext_getElem
    · simp
    · intro k h1 h2
      simp at h1 h2 ⊢
      have h3 : k % z.cells.size = k := Nat.mod_eq_of_lt h2
      rw [h3, getElem!_pos z.cells k h2]
  have hzlen : z.cells.toList.length = E.sz := by rw [Array.length_toList, hzs, hsz]
  have hst := run_storeCells_at P g ((n - 1) * E.sz) e z.cells.toList 0 cur1 w2 hg2 (by rw [hzlen, hs1]; omega) hz1
  have hz2 : ∀ w : World, (zeroValue e).run P w = .ok z w := fun w => by
    unfold zeroValue
    simp [typeInfo, hinf, hz]
  have ea : ((⟨g, 0, Option.none⟩ : Addr).add ((n - 1) * E.sz)) = ⟨g, (n - 1) * E.sz, Option.none⟩ := by unfold Addr.add; split <;> simp_all
  have hone : n - (n - 1) = 1 := by omega
  have hrun : (Builtin.clear_ #[t] ty2 ⟨[.slice (Option.map (fun q => q.add ((n - 1) * E.sz)) (some (⟨g, 0, Option.none⟩ : Addr))) (n - (n - 1)) (c - (n - 1))]⟩).run P w2 = .ok (.tuple #[]) (w2.setRow g (cur1.toList.take ((n - 1) * E.sz + 0) ++ z.cells.toList ++ cur1.toList.drop ((n - 1) * E.sz + 0 + z.cells.toList.length)).toArray) := by
    rw [hone]
    show (Builtin.clear_ #[t] ty2 #[.slice (some ((⟨g, 0, Option.none⟩ : Addr).add ((n - 1) * E.sz))) 1 (c - (n - 1))]).run P w2 = _
    rw [ea]
    simp [Builtin.clear_, run_underlying ht, hz2, hzl, hst]
  refine ⟨_, _, hrun, ⟨rfl, rfl, rfl⟩, ?_⟩
  have hsize : (w2.setRow g (cur1.toList.take ((n - 1) * E.sz + 0) ++ z.cells.toList ++ cur1.toList.drop ((n - 1) * E.sz + 0 + z.cells.toList.length)).toArray).heap.size = w.heap.size := by
    simp [World.setRow, hw2]
  have hold : ∀ k, k ≠ g -> (w2.setRow g (cur1.toList.take ((n - 1) * E.sz + 0) ++ z.cells.toList ++ cur1.toList.drop ((n - 1) * E.sz + 0 + z.cells.toList.length)).toArray).heap[k]? = w.heap[k]? := fun k hkg => by
    rw [setRow_other _ _ _ _ hkg, hw2, setRow_other _ _ _ _ hkg]
  have hnew := setRow_heap w2 g cur1 (cur1.toList.take ((n - 1) * E.sz + 0) ++ z.cells.toList ++ cur1.toList.drop ((n - 1) * E.sz + 0 + z.cells.toList.length)).toArray e _ hg2
  have hKp : Keep (fun k => k ≠ g) w.heap (w2.setRow g (cur1.toList.take ((n - 1) * E.sz + 0) ++ z.cells.toList ++ cur1.toList.drop ((n - 1) * E.sz + 0 + z.cells.toList.length)).toArray).heap :=
    ⟨by rw [hsize]; exact Nat.le_refl _, fun k hkg o ho _ => by rw [hold k hkg]; exact ho⟩
  have hgl : g < w.heap.size := (Array.getElem?_eq_some_iff.1 hg).1
  have hxe : xs.take (i * E.sz) ++ xs.drop ((i + 1) * E.sz) = (cur1.toList.take ((n - 1) * E.sz)) := by
    rw [hcur1]
    have h1 : (xs.take (i * E.sz) ++ xs.drop ((i + 1) * E.sz)).length = (n - 1) * E.sz := by
      rw [List.length_append, List.length_take, hxd, hxl]; omega
    have h2 : cur.toList.take (i * E.sz) = xs.take (i * E.sz) := by
      rw [<- htk, List.take_take, Nat.min_eq_left (by omega)]
    rw [List.toList_toArray, h2]
    exact (List.take_left' h1).symm
  refine hk _ ⟨⟨?_, xs.take (i * E.sz) ++ xs.drop ((i + 1) * E.sz), ⟨?_, by omega, ow.max, .inr ⟨g, _, rfl, hbg, hnew, ?_, ?_⟩⟩, ?_⟩, o.lo, fun a ea => by cases ea; rw [hsize]; exact hgl, o.nil⟩ ⟨by rw [hsize]; exact Nat.le_refl _, fun k hk hne => hold k fun e => hne _ rfl e.symm⟩ hsize
  · rw [List.length_eraseIdx, if_pos (by omega), hl]
  · rw [List.length_append, List.length_take, hxd, hxl]; omega
  · simp only [List.size_toArray, List.length_append, List.length_take, List.length_drop, Array.length_toList]
    rw [hzs, hsz, <- hcs, hs1]
    omega
  · rw [List.toList_toArray, Nat.add_zero, hxe]
    rw [List.append_assoc, List.take_append_of_le_length (by rw [List.length_take, Array.length_toList, hs1]; omega)]
    rw [List.take_take, Nat.min_self]
  · have e1 : l.eraseIdx i = l.take i ++ l.drop (i + 1) := List.eraseIdx_eq_take_drop_succ _ _
    rw [e1]
    exact ((en.take i).append (en.drop (i + 1))).keep (hKp.less fun k hk => fun e2 => by have := hA k hk.1; omega) fun _ h _ => h
end Go.Sh
namespace Go.Sh
open Go
set_option linter.unusedVariables false
inductive Kd where
  | i (k : IntKind)
  | b
  | s
  | l
  | p
  | m
  | a
  | r
inductive Sl where
  | o (i : Nat) (k : Kd)
  | g (i : Nat) (ks : List Kd)
@[reducible] def KT (R : Type) : Kd -> Type
  | .i _ => Int -> R
  | .b => Bool -> R
  | .s => List UInt8 -> R
  | .l => Option Addr -> Nat -> Nat -> R
  | .p => Option Addr -> R
  | .m => Option Nat -> R
  | .a => Addr -> R
  | .r => Value -> R
@[reducible] def KTs (R : Type) : List Kd -> Type
  | [] => R
  | k :: ks => KT (KTs R ks) k
@[reducible] def TK : List Sl -> Type
  | [] => H -> Prop
  | .o _ k :: l => KT (TK l) k
  | .g _ ks :: l => KTs (TK l) ks
def dK {R : Type} : (k : Kd) -> Value -> KT R k -> (R -> Prop) -> Prop
  | .i kd, v, K, c => vInt kd v fun x => c (K x)
  | .b, v, K, c => vBool v fun x => c (K x)
  | .s, v, K, c => vStr v fun x => c (K x)
  | .l, v, K, c => vSlice v fun b n m => c (K b n m)
  | .p, v, K, c => vPtr v fun x => c (K x)
  | .m, v, K, c => vMap v fun x => c (K x)
  | .a, v, K, c => vAddr v fun x => c (K x)
  | .r, v, K, c => c (K v)
def dKs {R : Type} : (ks : List Kd) -> List Value -> KTs R ks -> (R -> Prop) -> Prop
  | [], l, K, c => unnil l (c K)
  | k :: ks, l, K, c => uncons l fun e t => dK k e K fun K' => dKs ks t K' c
def dL (g : Env) (h : H) : (l : List Sl) -> TK l -> Prop
  | [], K => K h
  | .o i k :: l, K => dK k (g.v i) K fun K' => dL g h l K'
  | .g i ks :: l, K => vAgg (g.v i) fun t => dKs ks t K fun K' => dL g h l K'
def DK (l : List Sl) (K : TK l) (g : Env) (h : H) : Prop := nilDs g.ds (dL g h l K)
def eK {R : Type} : (k : Kd) -> KT R k -> (R -> Value -> Prop) -> Prop
  | .i kd, K, c => ∀ {x : Int}, c (K x) (.int kd x)
  | .b, K, c => ∀ {x : Bool}, c (K x) (.bool x)
  | .s, K, c => ∀ {x : List UInt8}, c (K x) (S x)
  | .l, K, c => ∀ {b : Option Addr} {n m : Nat}, c (K b n m) (.slice b n m)
  | .p, K, c => ∀ {x : Option Addr}, c (K x) (.pointer x)
  | .m, K, c => ∀ {x : Option Nat}, c (K x) (.map x)
  | .a, K, c => ∀ {x : Addr}, c (K x) (.pointer (some x))
  | .r, K, c => ∀ {x : Value}, c (K x) x
def eKs {R : Type} : (ks : List Kd) -> KTs R ks -> (R -> List Value -> Prop) -> Prop
  | [], K, c => c K []
  | k :: ks, K, c => eK k K fun K' v => eKs ks K' fun K'' vs => c K'' (v :: vs)
def EL (g : Env) (h : H) (p : Prop) : (l : List Sl) -> TK l -> HL -> Prop
  | [], K, acc => Held g acc -> K h -> p
  | .o i k :: l, K, acc => eK k K fun K' v => EL g h p l K' ((i, v) :: acc)
  | .g i ks :: l, K, acc => eKs ks K fun K' vs => EL g h p l K' ((i, .agg ⟨vs⟩) :: acc)
theorem dK_el {R : Type} {c : R -> Prop} {d : R -> Value -> Prop} : ∀ {k : Kd} {v : Value} {K : KT R k}, dK k v K c -> eK k K d -> ∃ K', c K' /\ d K' v
  | .i kd, v, K, hq, f => by obtain ⟨x, rfl, q⟩ := vInt_ok hq; exact ⟨_, q, f⟩
  | .b, v, K, hq, f => by obtain ⟨x, rfl, q⟩ := vBool_ok hq; exact ⟨_, q, f⟩
  | .s, v, K, hq, f => by
    have hq : vStr v fun x => c (K x) := hq
    obtain ⟨x, rfl, q⟩ := vStr_ok hq
    exact ⟨_, q, f⟩
  | .l, v, K, hq, f => by obtain ⟨b, n, m, rfl, q⟩ := vSlice_ok hq; exact ⟨_, q, f⟩
  | .p, v, K, hq, f => by obtain ⟨x, rfl, q⟩ := vPtr_ok hq; exact ⟨_, q, f⟩
  | .m, v, K, hq, f => by obtain ⟨x, rfl, q⟩ := vMap_ok hq; exact ⟨_, q, f⟩
  | .a, v, K, hq, f => by obtain ⟨x, rfl, q⟩ := vAddr_ok hq; exact ⟨_, q, f⟩
  | .r, v, K, hq, f => ⟨_, hq, f⟩
theorem dKs_el {R : Type} {c : R -> Prop} : ∀ {ks : List Kd} {d : R -> List Value -> Prop} {t : List Value} {K : KTs R ks}, dKs ks t K c -> eKs ks K d -> ∃ K', c K' /\ d K' t
  | [], d, t, K, hq, f => by obtain ⟨rfl, q⟩ := unnil_ok hq; exact ⟨K, q, f⟩
  | k :: ks, d, t, K, hq, f => by
    obtain ⟨e, t2, rfl, q⟩ := uncons_ok hq
    obtain ⟨K1, q1, f1⟩ := dK_el q f
    exact dKs_el (d := fun K'' vs => d K'' (e :: vs)) q1 f1
theorem dL_el {g : Env} {h : H} {p : Prop} : ∀ {l : List Sl} {K : TK l} {acc : HL}, dL g h l K -> Held g acc -> EL g h p l K acc -> p
  | [], K, acc, hq, ha, f => f ha hq
  | .o i k :: l, K, acc, hq, ha, f => by
    obtain ⟨K1, q, f1⟩ := dK_el hq f
    exact dL_el (acc := (i, g.v i) :: acc) q ⟨rfl, ha⟩ f1
  | .g i ks :: l, K, acc, hq, ha, f => by
    obtain ⟨t, e, q⟩ := vAgg_ok hq
    obtain ⟨K1, q1, f1⟩ := dKs_el q f
    exact dL_el (acc := (i, .agg ⟨t⟩) :: acc) q1 ⟨e, ha⟩ f1
theorem DK_el {l : List Sl} {K : TK l} {g : Env} {h : H} {p : Prop} (hq : DK l K g h) (f : EL g h p l K []) : p := dL_el (nilDs_ok hq).2 (nilDs_ok hq).1 f
theorem Held.snoc {g : Env} {i : Nat} {v : Value} : ∀ {l : HL}, Held g l -> g.v i = v -> Held g (l ++ [(i, v)])
  | [], h, e => ⟨e, h⟩
  | _ :: _, h, e => ⟨h.1, Held.snoc h.2 e⟩
@[reducible] def sqF (l : List Sl) (F : TK l -> Prop) (k : TK l) : Prop := F k
def KF : (l : List Sl) -> TK l
  | [] => fun _ => False
  | .o _ k :: l => kf k (KF l)
  | .g _ ks :: l => kfs ks (KF l)
where
  kf {R : Type} : (k : Kd) -> R -> KT R k
    | .i _, r => fun _ => r
    | .b, r => fun _ => r
    | .s, r => fun _ => r
    | .l, r => fun _ _ _ => r
    | .p, r => fun _ => r
    | .m, r => fun _ => r
    | .a, r => fun _ => r
    | .r, r => fun _ => r
  kfs {R : Type} : (ks : List Kd) -> R -> KTs R ks
    | [], r => r
    | k :: ks, r => kf k (kfs ks r)
theorem eK_kf {R : Type} {r : R} {d : R -> Value -> Prop} : ∀ {k : Kd}, (∀ v, d r v) -> eK k (KF.kf k r) d
  | .i _, f => f _
  | .b, f => f _
  | .s, f => f _
  | .l, f => f _
  | .p, f => f _
  | .m, f => f _
  | .a, f => f _
  | .r, f => f _
theorem eKs_kf {R : Type} {r : R} : ∀ {ks : List Kd} {d : R -> List Value -> Prop}, (∀ v, d r v) -> eKs ks (KF.kfs ks r) d
  | [], d, f => f _
  | k :: ks, d, f => eK_kf fun v => eKs_kf fun vs => f _
theorem EL_kf {g : Env} {h : H} {p : Prop} : ∀ {l : List Sl} {acc : HL}, EL g h p l (KF l) acc
  | [], acc => fun _ hf => hf.elim
  | .o i k :: l, acc => eK_kf fun v => EL_kf
  | .g i ks :: l, acc => eKs_kf fun v => EL_kf
def LP (l : List Sl) (B : TK l -> TK l) : Nat -> TK l
  | 0 => KF l
  | N + 1 => B (LP l B N)
@[reducible] def lpF (l : List Sl) (B : TK l -> TK l) (A : TK l -> Prop) : Prop := ∃ M, A (LP l B M)
section
variable {ro : Option Nat} {P : Program} {n : Nat} {Q : XPost} {g : Env} {h : H} {c : Code} {N R : Env -> H -> Prop} {X : Nat -> Env -> H -> Prop} {acc : HL} {l : List Sl}
theorem lf {A : Prop} (hg : Held g acc) (hS : A) (he : A = wpx ro P n c Q (setL ⟨g.v, []⟩ acc) h := by kernel_rfl) (hm : P.follows .mixedOrders = true := by kernel_rfl) (hd : drawOK P c = true := by kernel_rfl) : wpC ro P n c Q g h :=
  leafN hm hd hg hS he
theorem sq {F : TK l -> Prop} {k : TK l} (hg : Held g acc) (hS : sqF l F k) (next : ∀ {g : Env} {h : H}, EL g h (wpC ro P n (cSnd c) (QX N R X) g h) l k [])
    (hF : F = fun K => wpx ro P n (cFst c) (QX (DK l K) R X) (setL ⟨g.v, []⟩ acc) h := by kernel_rfl) (hc : c = .seq (cFst c) (cSnd c) := by kernel_rfl) (hm : P.follows .mixedOrders = true := by kernel_rfl) (hd : drawOK P (cFst c) = true := by kernel_rfl) :
    wpC ro P n c (QX N R X) g h :=
  seqN (N' := DK l k) hc (leafN hm hd hg hS (congrFun hF k)) fun hq => DK_el hq next
theorem sc {F : TK l -> Prop} {k : TK l} (hS : sqF l F k) (first : F k -> wpC ro P n (cFst c) (QX (DK l k) R X) g h) (next : ∀ {g : Env} {h : H}, EL g h (wpC ro P n (cSnd c) (QX N R X) g h) l k [])
    (hc : c = .seq (cFst c) (cSnd c) := by kernel_rfl) : wpC ro P n c (QX N R X) g h :=
  seqN (N' := DK l k) hc (first hS) fun hq => DK_el hq next
theorem bl {b : Nat} (hx : wpC ro P n (cFst c) (QX N R (exX b N X)) g h) (hc : c = .block b (cFst c) := by kernel_rfl) : wpC ro P n c (QX N R X) g h := blockN hc hx
theorem so (hx : wpC ro P n (cFst c) (QX N R X) g h) (hc : c = .scope (cFst c) := by kernel_rfl) : wpC ro P n c (QX N R X) g h := scopeN hc hx
theorem cn {i : Nat} {b : Bool} {A B : Prop} (hg : Held g acc) (hS : cond b A B) (hx : Held g (acc ++ [(i, .bool true)]) -> A -> wpC ro P n (cFst c) Q g h) (hy : Held g (acc ++ [(i, .bool false)]) -> B -> wpC ro P n (cSnd c) Q g h)
    (hv : (setL ⟨g.v, []⟩ acc).v i = .bool b := by kernel_rfl) (hi : Nat.blt i n = true := by kernel_rfl) (hc : c = .cond (.tmp i) (cFst c) (cSnd c) := by kernel_rfl) : wpC ro P n c Q g h := by
  rw [setL_eq hg] at hv
  exact condN hc hi hv hS (fun hA e => hx (hg.snoc (e ▸ hv)) hA) fun hB e => hy (hg.snoc (e ▸ hv)) hB
theorem lp {B : TK l -> TK l} {A : TK l -> Prop} (hg : Held g acc) (hS : lpF l B A) (body : ∀ {K : TK l} {g : Env} {h : H}, EL g h (wpC ro P n (cFst c) (QX (DK l K) R X) g h) l (B K) [])
    (hA : A = fun K => DK l K (setL ⟨g.v, []⟩ acc) h := by kernel_rfl) (hc : c = .loop (cFst c) := by kernel_rfl) : wpC ro P n c (QX N R X) g h := by
  subst hA
  obtain ⟨M, hS⟩ := hS
  rw [setL_eq hg] at hS
  exact loopN (I := fun N => DK l (LP l B N)) hc (fun hq => DK_el hq EL_kf) (fun hq => DK_el hq body) M hS
end
structure Tk where
  k : Int
  n : List UInt8
  b : Option Addr
  l : Nat
  c : Nat
  z : Bool
  t : List UInt8
@[reducible] def tkC (t : Tk) : List Value := [.int .u8 t.k, S t.n, .slice t.b t.l t.c, .bool t.z, S t.t]
def ldT (h : H) (a : Addr) (K : Tk -> Prop) : Prop := ∃ i, cell h (a.add 0) = some (.int .u8 i) /\ ∃ s, cell h (a.add 1) = some (S s) /\ ∃ b n c, cell h (a.add 2) = some (.slice b n c) /\ ∃ z, cell h (a.add 3) = some (.bool z) /\ ∃ t, cell h (a.add 4) = some (S t) /\ K ⟨i, s, b, n, c, z, t⟩
def ldO (h : H) (a : Addr) (K : Int -> Int -> List UInt8 -> Int -> Prop) : Prop := ∃ i, cell h (a.add 0) = some (.int .i64 i) /\ ∃ j, cell h (a.add 1) = some (.int .u8 j) /\ ∃ s, cell h (a.add 2) = some (S s) /\ ∃ p, cell h (a.add 3) = some (.int .u8 p) /\ K i j s p
def dT (v : Value) (K : Tk -> Prop) : Prop := vAgg v fun l => uncons l fun e l => vInt .u8 e fun i => uncons l fun e l => vStr e fun s => uncons l fun e l => vSlice e fun b n c => uncons l fun e l => vBool e fun z => uncons l fun e l => vStr e fun t => unnil l (K ⟨i, s, b, n, c, z, t⟩)
def dO (v : Value) (K : Int -> Int -> List UInt8 -> Int -> Prop) : Prop := vAgg v fun l => uncons l fun e l => vInt .i64 e fun i => uncons l fun e l => vInt .u8 e fun j => uncons l fun e l => vStr e fun s => uncons l fun e l => vInt .u8 e fun p => unnil l (K i j s p)
def sW (l : List (List UInt8)) : Array Value := ⟨l.map S⟩
def orF (s : List UInt8) : List (List UInt8) -> (Bool -> Prop) -> Prop
  | [], k => k false
  | w :: l, k => Spl (s = w) (k true) (orF s l k)
theorem orF_k {s : List UInt8} {l : List (List UInt8)} {k : Bool -> Prop} (ht : s ∈ l -> k true) (hf : s ∉ l -> k false) : orF s l k := by
  induction l with
  | nil => exact hf (by simp)
  | cons w l ih => exact ⟨fun e => ht (by rw [e]; exact List.mem_cons_self), fun e => ih (fun h => ht (List.mem_cons_of_mem _ h)) fun h => hf fun h2 => (List.mem_cons.1 h2).elim e h⟩
def idx : Nat -> List Value -> HL
  | _, [] => []
  | i, v :: l => (i, v) :: idx (i + 1) l
theorem held_idx {args : List Value} : ∀ {l : List Value} {i : Nat}, args.drop i = l -> Held (env0 args) (idx i l)
  | [], i, e => rfl
  | v :: l, i, e => by
    refine ⟨?_, held_idx (i := i + 1) ?_⟩
    · show args.getD i undef = v
      have h1 : args[i]? = some v := by
        have := congrArg (fun l => l[0]?) e
        simpa using this
      rw [List.getD_eq_getElem?_getD, h1]; rfl
    · have := congrArg (List.drop 1) e
      simpa [List.drop_drop, Nat.add_comm] using this
@[reducible] def cF (l : List Sl) (F : TK l -> Prop) (k : TK l) : Prop := F k
theorem rt {P : Program} {n : Nat} {g : Env} {h : H} {K : Value -> H -> Prop} {A : Prop} {acc : HL} {rs : List ResultVar} (hg : Held g acc) (hS : A) (he : A = retX P n rs K .normal (setL ⟨g.v, []⟩ acc) h := by kernel_rfl) : retX P n rs K .normal g h := retN hg hS he
theorem cl {P : Program} {f : FuncId} {fn : Func} {args : List Value} {h : H} {K : Value -> H -> Prop} {l : List Sl} {F : TK l -> Prop} {k : TK l} (hf : P.funcs[f]? = some fn) (hS : cF l F k)
    (hx : ∀ {g : Env}, Held g (idx 0 args) -> F k -> wpC none P fn.ntmps (bodyOf fn) (QX (DK l k) (DK l k) noX) g h) (hr : ∀ {g : Env} {h : H}, EL g h (retX P fn.ntmps fn.results.toList K .normal g h) l k [])
    (hb : fn.body = some (bodyOf fn) := by kernel_rfl) (hn : Nat.ble args.length fn.ntmps = true := by kernel_rfl) : HCalls P f ⟨args⟩ h K :=
  callsN hf hb hn (hx (held_idx rfl) hS) fun hq => DK_el hq hr
end Go.Sh
