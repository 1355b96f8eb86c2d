/- Memory, as rows of typed elements: rows of one's own, typed. No condition. -/
import Derived.Test.YtmnjhhgdhlgjfaaHmA
namespace Go.Sh
open Go
set_option linter.unusedVariables false
set_option linter.unusedSimpArgs false
variable {P : Program} {α : Type} {E : El α}

/-- the cells of some elements -/
def Enc (E : El α) (A : Nat → Prop) (h : H) : List α → List Value → Prop
  | [], xs => xs = []
  | x :: l, xs => ∃ cs r, xs = cs ++ r ∧ E.R A h x cs ∧ Enc E A h l r
theorem Enc.len {A : Nat → Prop} {h : H} : ∀ {l : List α} {xs : List Value}, Enc E A h l xs → xs.length = l.length * E.sz
  | [], xs, e => by simp [Enc] at e; simp [e]
  | x :: l, xs, ⟨cs, r, e, h1, h2⟩ => by rw [e, List.length_append, E.len _ _ _ _ h1, Enc.len h2, List.length_cons, Nat.add_mul]; omega
theorem Enc.one {A : Nat → Prop} {h : H} : ∀ {l : List α} {xs : List Value}, Enc E A h l xs → ∀ v ∈ xs, v.oneCell' = true
  | [], xs, e, v, hv => by simp [Enc] at e; simp [e] at hv
  | x :: l, xs, ⟨cs, r, e, h1, h2⟩, v, hv => by
    rw [e] at hv
    rcases List.mem_append.1 hv with hv | hv
    · exact E.one _ _ _ _ h1 v hv
    · exact Enc.one h2 v hv
theorem Enc.append {A : Nat → Prop} {h : H} : ∀ {l l' : List α} {xs xs' : List Value}, Enc E A h l xs → Enc E A h l' xs' → Enc E A h (l ++ l') (xs ++ xs')
  | [], l', xs, xs', e, e' => by simp [Enc] at e; simpa [e] using e'
  | x :: l, l', xs, xs', ⟨cs, r, e, h1, h2⟩, e' => ⟨cs, r ++ xs', by rw [e, List.append_assoc], h1, h2.append e'⟩
theorem Enc.keep {A A' : Nat → Prop} {h h' : H} (k : Keep (fun k => A k ∧ k < h.size) h h') (hA : ∀ k, A k → k < h.size → A' k) : ∀ {l : List α} {xs : List Value}, Enc E A h l xs → Enc E A' h' l xs
  | [], xs, e => e
  | x :: l, xs, ⟨cs, r, e, h1, h2⟩ => ⟨cs, r, e, E.keep _ _ _ _ _ _ h1 k hA, h2.keep k hA⟩
theorem Enc.at {A : Nat → Prop} {h : H} : ∀ {l : List α} {xs : List Value} {i : Nat} {x : α}, Enc E A h l xs → l[i]? = some x → ∃ cs, E.R A h x cs ∧ ∀ (j : Nat) v, cs[j]? = some v → xs[i * E.sz + j]? = some v
  | [], xs, i, x, e, hx => by simp at hx
  | y :: l, xs, 0, x, ⟨cs, r, e, h1, h2⟩, hx => by
    simp at hx
    subst hx
    refine ⟨cs, h1, fun j v hv => ?_⟩
    have hj : j < cs.length := (List.getElem?_eq_some_iff.1 hv).1
    rw [e, Nat.zero_mul, Nat.zero_add, List.getElem?_append_left hj]; exact hv
  | y :: l, xs, i + 1, x, ⟨cs, r, e, h1, h2⟩, hx => by
    obtain ⟨cs2, h3, h4⟩ := Enc.at h2 (i := i) (by simpa using hx)
    refine ⟨cs2, h3, fun j v hv => ?_⟩
    have hl := E.len _ _ _ _ h1
    rw [e, Nat.add_mul, List.getElem?_append_right (by rw [hl]; omega), hl]
    rw [show (i * E.sz + 1 * E.sz + j) - E.sz = i * E.sz + j by omega]
    exact h4 j v hv
theorem Enc.take {A : Nat → Prop} {h : H} : ∀ {l : List α} {xs : List Value} (k : Nat), Enc E A h l xs → Enc E A h (l.take k) (xs.take (k * E.sz))
  | l, xs, 0, e => by simp [Enc]
  | [], xs, k + 1, e => by simp [Enc] at e; simp [Enc, e]
  | y :: l, xs, k + 1, ⟨cs, r, e, h1, h2⟩ => by
    refine ⟨cs, r.take (k * E.sz), ?_, h1, h2.take k⟩
    have hl := E.len _ _ _ _ h1
    rw [e, Nat.add_mul, List.take_append, hl]
    rw [List.take_of_length_le (by rw [hl]; omega)]
    congr 1; congr 1; omega

/-- a slice's elements lie somewhere -/
theorem Row.enc {A : Nat → Prop} {h : H} {b : Option Addr} {c : Nat} : ∀ {l : List α} {n : Nat}, Row E A h b n c l → ∃ xs, Enc E A h l xs ∧ Cells h b xs := by
  intro l n r
  have key : ∀ (l : List α) (k : Nat), (∀ (i : Nat) (x : α), l[i]? = some x → ∃ a, b = some a ∧ At E A h (a.add ((k + i) * E.sz)) x) →
      ∃ xs, Enc E A h l xs ∧ ∀ (j : Nat) v, xs[j]? = some v → ∃ a, b = some a ∧ cell h (a.add (k * E.sz + j)) = some v := by
    intro l
    induction l with
    | nil => intro k _; exact ⟨[], rfl, fun j v hv => by simp at hv⟩
    | cons x l ih =>
      intro k hk
      obtain ⟨a, rfl, _, cs, hR, hcs⟩ := hk 0 x rfl
      obtain ⟨xs, he, hxs⟩ := ih (k + 1) fun i y hy => by
        have := hk (i + 1) y (by simpa using hy)
        rwa [show k + (i + 1) = k + 1 + i by omega] at this
      refine ⟨cs ++ xs, ⟨cs, xs, rfl, hR, he⟩, fun j v hv => ⟨a, rfl, ?_⟩⟩
      have hl := E.len _ _ _ _ hR
      by_cases hj : j < cs.length
      · rw [List.getElem?_append_left hj] at hv
        have := hcs j v hv
        rwa [add_add, Nat.add_zero] at this
      · rw [List.getElem?_append_right (by omega)] at hv
        obtain ⟨a', e, hc⟩ := hxs _ v hv
        cases e
        rw [Nat.add_mul] at hc
        rwa [show k * E.sz + 1 * E.sz + (j - cs.length) = k * E.sz + j by omega] at hc
  obtain ⟨xs, he, hc⟩ := key l 0 fun i x hx => by rw [Nat.zero_add]; exact r.at' i x hx
  exact ⟨xs, he, fun j v hv => by have := hc j v hv; simpa using this⟩
/-- ... and what lies so is a slice's -/
theorem Row.of {A : Nat → Prop} {h : H} {b : Option Addr} {n c : Nat} {l : List α} {xs : List Value} (he : Enc E A h l xs) (hc : Cells h b xs) (hn : l.length = n) (hnc : n ≤ c) (hm : c ≤ maxLen)
    (hA : ∀ a, b = some a → A a.block) : Row E A h b n c l := by
  refine ⟨hn, hnc, hm, fun i x hx => ?_⟩
  obtain ⟨cs, hR, hcs⟩ := he.at hx
  have hl := E.len _ _ _ _ hR
  have hp := E.pos
  obtain ⟨v, hv⟩ : ∃ v, cs[0]? = some v := ⟨cs[0]'(by omega), List.getElem?_eq_getElem _⟩
  obtain ⟨a, e, _⟩ := hc _ v (hcs 0 v hv)
  refine ⟨a, e, by rw [add_block]; exact hA a e, cs, hR, fun j u hu => ?_⟩
  obtain ⟨a', e', hc'⟩ := hc _ u (hcs j u hu)
  rw [e] at e'; cases e'
  rw [add_add]; exact hc'

/-- a row of one's own, typed; what it points at lies in A -/
structure OwnT (E : El α) (A : Nat → Prop) (h : H) (base e : Nat) (b : Option Addr) (n c : Nat) (l : List α) : Prop where
  len : l.length = n
  own : ∃ xs, Own h base e E.sz b n c xs ∧ Enc E A h l xs
theorem OwnT.row {A A' : Nat → Prop} {h : H} {base e n c : Nat} {b : Option Addr} {l : List α} (o : OwnT E A h base e b n c l) (hA : ∀ k, A k → A' k) (hg : ∀ g : Nat, b = some ⟨g, 0, none⟩ → g < h.size → base ≤ g → A' g) : Row E A' h b n c l := by
  obtain ⟨xs, h1, h2⟩ := o.own
  by_cases hn : n = 0
  · have hl : l = [] := List.eq_nil_of_length_eq_zero (by rw [o.len, hn])
    subst hn; subst hl
    exact ⟨rfl, h1.cap, h1.max, fun i x hx => by simp at hx⟩
  · rcases h1.lt with ⟨h0, _⟩ | ⟨g, rfl, hb, hlt⟩
    · exact absurd h0 hn
    · exact Row.of (h2.keep (Keep.refl _ _) fun k hk _ => hA k hk) h1.cells o.len h1.cap h1.max fun a e => by cases e; exact hg g rfl hlt hb
theorem OwnT.nil (A : Nat → Prop) (h : H) (base e : Nat) (b : Option Addr) : OwnT E A h base e b 0 0 [] := ⟨rfl, [], Own.nil h base e E.sz b, rfl⟩
theorem OwnT.keep {A A' : Nat → Prop} {h h' : H} {base e n c : Nat} {b : Option Addr} {l : List α} (o : OwnT E A h base e b n c l) {B : Nat → Prop} (k : Keep B h h') (hA : ∀ k, A k → k < h.size → B k) (hA' : ∀ k, A k → k < h.size → A' k)
    (hg : ∀ g, b = some ⟨g, 0, none⟩ → base ≤ g → g < h.size → B g) : OwnT E A' h' base e b n c l := by
  obtain ⟨xs, h1, h2⟩ := o.own
  exact ⟨o.len, xs, h1.keep k hg, h2.keep (k.less fun k hk => hA k hk.1 hk.2) hA'⟩
theorem OwnT.kw {A : Nat → Prop} {h h' : H} {base e n c : Nat} {b : Option Addr} {l : List α} (o : OwnT E A h base e b n c l) (k : KW h h') : OwnT E A h' base e b n c l :=
  o.keep k (fun _ _ h => h) (fun _ h _ => h) fun _ _ _ h => h
theorem OwnT.kb {A : Nat → Prop} {h h' : H} {base e n c : Nat} {b : Option Addr} {l : List α} (o : OwnT E A h base e b n c l) (k : KB h h') : OwnT E A h' base e b n c l := o.kw (KB.w k)
theorem OwnT.lower {A : Nat → Prop} {h : H} {base base' e n c : Nat} {b : Option Addr} {l : List α} (o : OwnT E A h base e b n c l) (hb : base' ≤ base) : OwnT E A h base' e b n c l := by
  obtain ⟨xs, h1, h2⟩ := o.own
  exact ⟨o.len, xs, h1.lower hb, h2⟩
theorem OwnT.cap {A : Nat → Prop} {h : H} {base e n c : Nat} {b : Option Addr} {l : List α} (o : OwnT E A h base e b n c l) : n ≤ c ∧ c ≤ maxLen := by
  obtain ⟨xs, h1, h2⟩ := o.own
  exact ⟨h1.cap, h1.max⟩

/-- elements that point at nothing -/
def Flat (E : El α) : Prop := ∀ A A' h h' x cs, E.R A h x cs → E.R A' h' x cs
theorem Enc.flat (hf : Flat E) {A A' : Nat → Prop} {h h' : H} : ∀ {l : List α} {xs : List Value}, Enc E A h l xs → Enc E A' h' l xs
  | [], xs, e => e
  | x :: l, xs, ⟨cs, r, e, h1, h2⟩ => ⟨cs, r, e, hf _ _ _ _ _ _ h1, h2.flat hf⟩
theorem OwnT.flat (hf : Flat E) {A A' : Nat → Prop} {h : H} {base e n c : Nat} {b : Option Addr} {l : List α} (o : OwnT E A h base e b n c l) : OwnT E A' h base e b n c l := by
  obtain ⟨xs, h1, h2⟩ := o.own
  exact ⟨o.len, xs, h1, h2.flat hf⟩
/-- the types of an 'append', as the program knows them -/
structure Apd (P : Program) (E : El α) (t e by' : Nat) : Prop where
  is : ∃ (i : TypeInfo) (z : Value), P.underlying t = some (.slice e) ∧ P.info? e = some i ∧ i.zero = some z ∧ z.cells.size = i.size ∧ i.size = E.sz ∧ i.bytes = by'

/-- one's own row, and others behind it -/
theorem OwnT.append {t ty e by' : Nat} (ap : Apd P E t e by') {A : Nat → Prop} {h : H} {sb rb : Option Addr} {n c m k base : Nat} {l l2 : List α} (o : OwnT E A h base e sb n c l)
    (r : Row E A h rb m k l2) (h63 : n + m ≤ maxLen) (hb : (n + m) * by' ≤ 140737488355328) (hbase : base ≤ h.size)
    (hAb : ∀ k, A k → k < h.size → ∀ a, sb = some a → a.block ≠ k) {K : Value → H → Prop}
    (hK : ∀ b' c' h', OwnT E A h' base e b' (n + m) c' (l ++ l2) → Grow h h' sb → (b' = sb ∨ b' = some (Ad h.size)) → (n + m = 0 → b' = sb ∧ c' = c) → K (.slice b' (n + m) c') h') :
    SemH P (Builtin.append_ #[t, t] ty ⟨[.slice sb n c, .slice rb m k]⟩) h K := by
  obtain ⟨i, z, ht, hi, hz, hzs, hsz, hby⟩ := ap.is
  obtain ⟨xs, h1, h2⟩ := o.own
  obtain ⟨news, hen, hcn⟩ := r.enc
  have hlen : news.length = m * i.size := by rw [hen.len, r.len, hsz]
  refine append_own (xs := xs) (news := news) (base := base) ht hi hz hzs (by rw [hsz]; exact h1) hlen hcn hen.one (by rw [hsz]; exact E.pos) h63 (by rw [hby]; exact hb) hbase fun b' c' h' ho hg hb' h0 => ?_
  refine hK b' c' h' ⟨by rw [List.length_append, o.len, r.len], xs ++ news, by rw [← hsz]; exact ho, ?_⟩ hg hb' h0
  exact (h2.append hen).keep (hg.keep.w.less fun k hk => ⟨hk.2, hAb k hk.1 hk.2⟩) fun _ h _ => h

/-- a row that has no room, and others behind it -/
theorem Row.append {t ty e by' : Nat} (ap : Apd P E t e by') {A : Nat → Prop} {h : H} {sb rb : Option Addr} {n c m k : Nat} {l l2 : List α} (o : Row E A h sb n c l) (hfull : m = 0 ∨ c < n + m) (r : Row E A h rb m k l2)
    (hsb : sb = none → c = 0) (h63 : n + m ≤ maxLen) (hb : (n + m) * by' ≤ 140737488355328) {K : Value → H → Prop} (hsame : m = 0 → K (.slice sb n c) h)
    (hK : ∀ c' h', 0 < m → OwnT E A h' h.size e (some (Ad h.size)) (n + m) c' (l ++ l2) → KB h h' → K (.slice (some (Ad h.size)) (n + m) c') h') :
    SemH P (Builtin.append_ #[t, t] ty ⟨[.slice sb n c, .slice rb m k]⟩) h K := by
  obtain ⟨i, z, ht, hi, hz, hzs, hsz, hby⟩ := ap.is
  obtain ⟨xs, he, hc⟩ := o.enc
  obtain ⟨news, hen, hcn⟩ := r.enc
  refine append_cut (xs := xs) (news := news) ht hi hz hzs (by rw [he.len, o.len, hsz]) hc o.cap hfull (by rw [hen.len, r.len, hsz]) hcn (by rw [hsz]; exact E.pos) h63 (by rw [hby]; exact hb)
    (fun e => ⟨by have := o.cap; have := hsb e; omega, hsb e⟩) hsame fun c' h' hm ho hk => ?_
  exact hK c' h' hm ⟨by rw [List.length_append, o.len, r.len], xs ++ news, by rw [← hsz]; exact ho, (he.append hen).keep ((KB.w hk).less fun _ h => h.2) fun _ h _ => h⟩ hk

/-- a row that is written out: one element -/
theorem Row.one {A : Nat → Prop} {h : H} {x : α} {cs : List Value} {e : Nat} (hR : E.R A h x cs) : Row E (fun k => A k ∨ k = h.size) (h.push (.cells ⟨cs⟩ e)) (some (Ad h.size)) 1 1 [x] := by
  have hR' := E.keep _ (fun k => A k ∨ k = h.size) _ _ _ _ hR ((SK.push h (.cells ⟨cs⟩ e)).w.less fun _ h => h.2) fun _ h _ => .inl h
  refine ⟨rfl, Nat.le_refl _, by decide, fun i y hy => ?_⟩
  cases i with
  | zero =>
    simp at hy
    subst hy
    refine ⟨_, rfl, .inr (add_block _ _), cs, hR', fun j v hv => ?_⟩
    rw [Nat.zero_mul, add_zero', cell_lit (cur := ⟨cs⟩) (e := e) (fz := (0, 0)) (by simp)]
    simpa using hv
  | succ i => simp at hy
end Go.Sh
