/- place: Worlds in memory: rows that are coloured, what acts leave. No condition. -/
import Derived.Test.YtmnjhhgdhlgjfaaGreatDoM
import Derived.Test.YtmnjhhgdhlgjfaaGreatHmI
import Derived.Test.YtmnjhhgdhlgjfaaGreatOpS
namespace Go.Proofs
open Go Go.Sh
set_option linter.unusedVariables false
set_option maxRecDepth 100000
abbrev MarkP := Int × Bs × List AttrP
abbrev elMark : El MarkP := elPair (elInt .i64) (elPair elStr (elSl elAttr))
/-! ### colours -/
def paint (col : Col) (g : Nat) (v : Nat × Nat) : Col := fun k => if k = g then some v else col k
theorem paint_at {col : Col} {g : Nat} {v : Nat × Nat} : paint col g v g = some v := if_pos rfl
theorem paint_ne {col : Col} {g k : Nat} {v : Nat × Nat} (h : k ≠ g) : paint col g v k = col k := if_neg h
abbrev Fresh (h : H) (col : Col) : Prop := ∀ k, h.size ≤ k → col k = none
theorem Fresh.kb {h h' : H} {col : Col} (f : Fresh h col) (k : KB h h') : Fresh h' col := fun g hg => f g (Nat.le_trans k.1 hg)
theorem Fresh.paint {h : H} {col : Col} (f : Fresh h col) {g : Nat} {v : Nat × Nat} (hg : g < h.size) : Fresh h (paint col g v) := fun k hk => by rw [paint_ne (by omega)]; exact f k hk
theorem Fresh.putB {h h' : H} {col : Col} (f : Fresh h col) (hs : h.size ≤ h'.size) {b : Option Addr} {v : Nat × Nat} (hb : ∀ q, b = some q → q.block < h'.size) : Fresh h' (putB col h b v) := fun k hk => by
  rw [putB_far hb hk]; exact f k (Nat.le_trans hs hk)
/-! ### what acts of some colours leave -/
structure ExtP (S : Nat → Prop) (h : H) (col : Col) (h' : H) (col' : Col) : Prop where
  sk : SK (fun k => k < h.size ∧ ∀ s p, S s → col k ≠ some (s, p)) h h'
  cl : ∀ k, k < h.size → col' k = col k
variable {S : Nat → Prop}
theorem ExtP.refl (S : Nat → Prop) (h : H) (col : Col) : ExtP S h col h col := ⟨SK.refl _ _, fun _ _ => rfl⟩
theorem ExtP.trans {a b c : H} {x y z : Col} (e : ExtP S a x b y) (f : ExtP S b y c z) : ExtP S a x c z :=
  ⟨e.sk.trans (f.sk.less fun k hk => ⟨Nat.lt_of_lt_of_le hk.1 e.sk.1, fun s p hs => by rw [e.cl k hk.1]; exact hk.2 s p hs⟩), fun k hk => by rw [f.cl k (Nat.lt_of_lt_of_le hk e.sk.1), e.cl k hk]⟩
theorem ExtP.kb {h h' : H} {col : Col} (k : KB h h') : ExtP S h col h' col := ⟨k.less fun _ hk => hk.1, fun _ _ => rfl⟩
theorem Ext.p {s : Nat} {h h' : H} {col col' : Col} (e : Ext s h col h' col') (hs : S s) : ExtP S h col h' col' := ⟨e.sk.less fun k hk => ⟨hk.1, fun p => hk.2 s p hs⟩, e.cl⟩
theorem ExtP.free {h h' : H} {col col' : Col} (e : ExtP S h col h' col') {k : Nat} (hk : Free col h k) : Free col' h' k := ⟨by rw [e.cl k hk.2]; exact hk.1, Nat.lt_of_lt_of_le hk.2 e.sk.1⟩
theorem ExtP.keepF {h h' : H} {col col' : Col} (e : ExtP S h col h' col') : Keep (Free col h) h h' := e.sk.w.less fun k hk => ⟨hk.2, fun s p _ e2 => by rw [hk.1] at e2; cases e2⟩
theorem ExtP.row {α : Type} {E : El α} {h h' : H} {col col' : Col} {b : Option Addr} {n c : Nat} {l : List α} (e : ExtP S h col h' col') (r : Row E (Free col h) h b n c l) : Row E (Free col' h') h' b n c l :=
  r.keep (e.keepF.less fun k hk => hk.1) fun k hk _ => e.free hk
theorem ExtP.at' {α : Type} {E : El α} {h h' : H} {col col' : Col} {a : Addr} {x : α} (e : ExtP S h col h' col') (r : At E (Free col h) h a x) : At E (Free col' h') h' a x :=
  r.keep (e.keepF.less fun k hk => hk.1) fun k hk _ => e.free hk
theorem Free.kb {h h' : H} {col : Col} (k : KB h h') {g : Nat} (hg : Free col h g) : Free col h' g := ⟨hg.1, Nat.lt_of_lt_of_le hg.2 k.1⟩
theorem TreeP.otherP {h h' : H} {col col' : Col} {s : Nat} {t : Addr} {ads : List Addr} {ns : List NodeM} (T : TreeP h col s t ads ns) (hs : ¬ S s) (e : ExtP S h col h' col') (hf : Fresh h' col') : TreeP h' col' s t ads ns :=
  T.keep e.sk.w e.cl hf fun k hk hc => ⟨hk, fun s' p hs' e2 => by
    rcases hc with hc | ⟨q, hc⟩
    · rw [hc] at e2; cases e2
    · rw [hc] at e2; cases e2; exact hs hs'⟩
/-- the library's variable -/
structure Lib0 (h : H) (col : Col) : Prop where
  ml : ML h
  free : col 0 = none
theorem Lib0.ext {h h' : H} {col col' : Col} (l : Lib0 h col) (e : ExtP S h col h' col') : Lib0 h' col' := by
  obtain ⟨m, hm⟩ := l.ml
  have hl : 0 < h.size := cell_lt hm
  exact ⟨⟨m, e.keepF.cell ⟨l.free, hl⟩ hm⟩, by rw [e.cl 0 hl]; exact l.free⟩
theorem Lib0.kb {h h' : H} {col : Col} (l : Lib0 h col) (k : KB h h') : Lib0 h' col := ⟨l.ml.kb k, l.free⟩
/-! ### a row of one's own that is coloured -/
structure OwnC {α : Type} (E : El α) (h : H) (col : Col) (v : Nat × Nat) (e : Nat) (b : Option Addr) (n c : Nat) (l : List α) : Prop where
  own : OwnT E (Free col h) h 0 e b n c l
  col : ∀ q, b = some q → col q.block = some v
  hi : ∀ q, b = some q → q.block < h.size
  nil : b = none → c = 0
section
variable {α : Type} {E : El α} {h h' : H} {col col' : Col} {v : Nat × Nat} {e n c : Nat} {b : Option Addr} {l : List α}
theorem OwnC.len (o : OwnC E h col v e b n c l) : l.length = n := o.own.len
theorem OwnC.none : OwnC E h col v e none 0 0 [] := ⟨OwnT.nil _ _ _ _ _, (fun _ h => nomatch h), (fun _ h => nomatch h), fun _ => rfl⟩
theorem OwnC.keep (o : OwnC E h col v e b n c l) {B : Nat → Prop} (k : Keep B h h') (hc : ∀ k, k < h.size → col' k = col k) (hB : ∀ k, k < h.size → (col k = Option.none ∨ col k = some v) → B k) : OwnC E h' col' v e b n c l :=
  ⟨o.own.keep k (fun g hg hs => hB g hs (.inl hg.1)) (fun g hg hs => ⟨by rw [hc g hs]; exact hg.1, Nat.lt_of_lt_of_le hs k.1⟩) fun g hg _ hs => hB g hs (.inr (o.col _ hg)),
    fun q hq => by rw [hc _ (o.hi q hq)]; exact o.col q hq, fun q hq => Nat.lt_of_lt_of_le (o.hi q hq) k.1, o.nil⟩
theorem OwnC.ext (o : OwnC E h col v e b n c l) (x : ExtP S h col h' col') (hv : ¬ S v.1) : OwnC E h' col' v e b n c l :=
  o.keep x.sk.w x.cl fun k hk hc => ⟨hk, fun s p hs e2 => by
    rcases hc with hc | hc
    · rw [hc] at e2; cases e2
    · rw [hc] at e2; cases e2; exact hv hs⟩
theorem OwnC.kb (o : OwnC E h col v e b n c l) (k : KB h h') : OwnC E h' col v e b n c l := o.keep k.w (fun _ _ => rfl) fun k hk _ => hk
theorem OwnC.row (o : OwnC E h col v e b n c l) : Row E (Bel h.size) h b n c l := o.own.row (fun k hk => hk.2) fun g hg hs _ => hs
/-- the row, and what it leads to -/
theorem OwnC.rowC (o : OwnC E h col v e b n c l) : Row E (fun k => Free col h k ∨ (col k = some v ∧ k < h.size)) h b n c l := o.own.row (fun k hk => .inl hk) fun g hg hs _ => .inr ⟨o.col _ hg, hs⟩
/-- others behind it -/
theorem OwnC.append {t by' : Nat} {P : Program} (ap : Apd P E t e by') {rb : Option Addr} {m k : Nat} {l2 : List α} (o : OwnC E h col v e b n c l) (r : Row E (Free col h) h rb m k l2)
    (h63 : n + m ≤ maxLen) (hb : (n + m) * by' ≤ 140737488355328) (hf : Fresh h col) {ty : TypeId} {K : Value → H → Prop}
    (hk : ∀ b' c' h', OwnC E h' (putB col h b' v) v e b' (n + m) c' (l ++ l2) → Grow h h' b → NewB h b b' → Fresh h' (putB col h b' v) → K (.slice b' (n + m) c') h') :
    SemH P (Builtin.append_ #[t, t] ty ⟨[.slice b n c, .slice rb m k]⟩) h K := by
  refine OwnT.append ap o.own r h63 hb (Nat.zero_le _) (fun k hk _ a ha => fun e2 => by have := o.col a ha; rw [e2, hk.1] at this; cases this) fun b2 c2 h2 o2 hg hb2 h0 => ?_
  have hb' : ∀ q, b2 = some q → q.block < h2.size := fun q e => by
    rcases o2.own with ⟨xs, ow, _⟩
    rcases ow.lt with ⟨hn, hc⟩ | ⟨g, e1, _, hlt⟩
    · have := h0 hn
      rw [this.1] at e
      exact Nat.lt_of_lt_of_le (o.hi q e) hg.size
    · rw [e] at e1; cases e1; exact hlt
  refine hk b2 c2 h2 ⟨?_, fun q e => ?_, hb', fun e => ?_⟩ hg (fun q e => ?_) (hf.putB hg.size hb')
  · refine o2.keep (Keep.refl (fun _ => True) _) (fun _ _ _ => trivial) (fun k hk' hks => ⟨by rw [putB_old hk'.2]; exact hk'.1, hks⟩) fun _ _ _ _ => trivial
  · refine putB_at e fun hlt => ?_
    rcases hb2 with rfl | rfl
    · exact o.col q e
    · cases e; exact absurd hlt (Nat.lt_irrefl _)
  · subst e
    rcases hb2 with rfl | h
    · rcases o2.own with ⟨xs, ow, _⟩
      rcases ow.is with ⟨hn, hc⟩ | ⟨g, cur, e, _⟩
      · exact hc
      · cases e
    · cases h
  · rcases hb2 with rfl | rfl
    · exact .inl e
    · cases e; exact .inr (Nat.le_refl _)
/-- the first ones of it -/
theorem OwnC.take (o : OwnC E h col v e b n c l) {m : Nat} (hm : m ≤ n) : OwnC E h col v e b m c (l.take m) := by
  obtain ⟨xs, ow, en⟩ := o.own.own
  refine ⟨⟨by rw [List.length_take, o.len]; omega, xs.take (m * E.sz), ⟨?_, by have := ow.cap; omega, ow.max, ?_⟩, en.take m⟩, o.col, o.hi, o.nil⟩
  · rw [List.length_take, ow.len]
    have : m * E.sz ≤ n * E.sz := Nat.mul_le_mul_right _ hm
    omega
  · rcases ow.is with ⟨hn, hc⟩ | ⟨g, cur, e, h1, h2, h3, h4⟩
    · exact .inl ⟨by omega, hc⟩
    · refine .inr ⟨g, cur, e, h1, h2, h3, ?_⟩
      rw [← h4, List.take_take, Nat.min_eq_left (Nat.mul_le_mul_right _ hm)]
/-- what was made behind a place is coloured now -/
theorem OwnC.of {h0 : H} (o : OwnF E h h0.size e b n c l) (hf : Flat E) (hc : Fresh h0 col) (hs : h0.size ≤ h.size) : OwnC E h (putB col h0 b v) v e b n c l :=
  ⟨(o.own.flat hf (A' := Free (putB col h0 b v) h)).lower (Nat.zero_le _), fun q e => putB_at e fun hlt => absurd (o.lo q e) (by omega), o.hi, o.nil⟩
/-- a row of one's own that leads to what is free -/
theorem _root_.Go.Sh.OwnA.toC {h0 : H} (o : OwnA E (Free col h0) h h0.size e b n c l) (k : h0.size ≤ h.size) : OwnC E h (putB col h0 b v) v e b n c l :=
  ⟨(o.own.keep (Keep.refl (fun _ => True) _) (fun _ _ _ => trivial) (fun g hg hs => ⟨by rw [putB_old hg.2]; exact hg.1, hs⟩) fun _ _ _ _ => trivial).lower (Nat.zero_le _), fun q e => putB_at e fun hlt => absurd (o.lo q e) (by omega), o.hi, o.nil⟩
/-- its cells -/
theorem OwnC.parts (o : OwnC E h col v e b n c l) : ∃ xs, Enc E (Free col h) h l xs ∧ Cells h b xs ∧ xs.length = n * E.sz := by
  obtain ⟨xs, ow, en⟩ := o.own.own
  exact ⟨xs, en, ow.cells, ow.len⟩
theorem OwnC.cap (o : OwnC E h col v e b n c l) : n ≤ c ∧ c ≤ maxLen := o.own.cap
end
end Go.Proofs
