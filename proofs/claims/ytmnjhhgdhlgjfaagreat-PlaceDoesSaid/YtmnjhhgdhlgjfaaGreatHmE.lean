/- Ranges over functions: how to show one, round by round. No condition. Memory: what 'append' asks of types, tested; slices and nil; taking apart. No condition. -/
import Derived.Test.YtmnjhhgdhlgjfaaGreatHmC
import Derived.Lib.SliceRun
namespace Go.Sh
open Go
set_option linter.unusedVariables false
variable {P : Program}

/-- nothing is an iterator's own -/
abbrev Non : Nat → Prop := fun _ => False
theorem NzP.kw {L : Nat} {h h1 : H} (n : NzP Non L h h1) : KW h h1 := ⟨n.1, fun b _ o e hl => n.2 b o e (fun x => x) fun _ => hl⟩
/-- what stood ahead of the loop stays, whatever happens beside -/
theorem KB.nz {L : Nat} {h0 h h1 : H} (k : KB h0 h) (n : NzP Non L h h1) (hL : h0.size ≤ L) : KB h0 h1 :=
  ⟨Nat.le_trans k.1 n.1, fun b hb => by
    have e := k.2 b hb
    have hb' : b < h0.size := hb
    rw [Array.getElem?_eq_getElem hb'] at e ⊢
    exact n.2 b _ e (fun x => x) fun e2 => by omega⟩
theorem KpR.keep {Rd : Nat → Prop} {h h1 : H} (k : KpR Rd h h1) : Keep Rd h h1 := ⟨k.1, fun b hb o e hl => k.2 b o e hb hl⟩
theorem KB.kp {Rd : Nat → Prop} {h h1 : H} (k : KB h h1) : KpP Rd h h1 :=
  ⟨fun b o e _ => by rw [k.2 b (Array.getElem?_eq_some_iff.1 e).1]; exact e, k.1, fun b o e _ _ => by rw [k.2 b (Array.getElem?_eq_some_iff.1 e).1]; exact e⟩
/-- a variable that the iterator does not read may be written -/
theorem KX.kp {Rd : Nat → Prop} {h h1 : H} {t : Nat} {a : Addr} {cs : List Value} (v : Var h a t cs) (k : KX a.block h h1) (hR : ¬ Rd a.block) : KpP Rd h h1 :=
  ⟨fun b o e hl => by
    have hne : b ≠ a.block := fun e2 => by rw [e2, v.cells] at e; cases e; cases hl
    rw [k.2 b hne]; exact e, k.1, fun b o e hr _ => by
    have hne : b ≠ a.block := fun e2 => hR (e2 ▸ hr)
    rw [k.2 b hne]; exact e⟩
theorem KpP.trans {Rd : Nat → Prop} {a b c : H} (h : KpP Rd a b) (k : KpP Rd b c) : KpP Rd a c := ⟨fun i o e hl => k.1 i o (h.1 i o e hl) hl, h.2.trans k.2⟩
theorem KpP.refl (Rd : Nat → Prop) (h : H) : KpP Rd h h := (KB.refl h).kp

/-- round by round -/
theorem rounds_of {D : Nat} {Rd : Nat → Prop} {rd : Round} {done : H → Prop} (Inv : List (List Value) → H → Prop) (hz : ∀ xs h h1, Inv xs h → NzP Non (D + 1) h h1 → Inv xs h1)
    (hs : ∀ x xs h1 Kc, Inv (x :: xs) h1 → (∀ hb h', KpP Rd hb h' → Inv xs h' → Kc hb h') →
      rd x (fun he p => KpP Rd h1 he ∧ ∀ h2, NzP Non (D + 1) he h2 → p h2) Kc (fun hb h' p => KpP Rd hb h' ∧ ∀ h4, NzP Non (D + 1) h' h4 → dOpen D h4 → p h4) h1)
    (hd : ∀ h1, Inv [] h1 → dOpen D h1 → done h1) : ∀ (xs : List (List Value)) (h : H), Inv xs h → rounds D Non Rd rd done xs h
  | [], h, hi => fun h1 hn ho => hd h1 (hz _ _ _ hi hn) ho
  | x :: xs, h, hi => fun h1 hn => hs x xs h1 _ (hz _ _ _ hi hn) fun hb h' hk hi' => ⟨hk, rounds_of Inv hz hs hd xs h' hi'⟩
/-- a loop's block is left -/
theorem KW.leave {h0 h : H} {D : Nat} (k : KW h0 h) (hd : dOpen D h) : KW h0 (h.setIfInBounds D (.deferred none)) :=
  ⟨by simpa using k.1, fun b hb o e hl => by
    have e2 := k.2 b hb o e hl
    have hne : D ≠ b := fun e3 => by
      subst e3
      have hd : h[D]? = _ := hd
      rw [hd] at e2; cases e2; cases hl
    rw [Array.getElem?_setIfInBounds_ne hne]; exact e2⟩
theorem Var.dOpen {h h' : H} {a : Addr} {t D : Nat} {cs : List Value} (v : Var h a t cs) (k : KX a.block h h') (hd : dOpen D h) : dOpen D h' := by
  have hne : D ≠ a.block := fun e => by
    have hd : h[D]? = _ := hd
    rw [e, v.cells] at hd; cases hd
  show h'[D]? = _
  rw [k.2 D hne]; exact hd
theorem KB.leave {h0 h : H} {D : Nat} (k : KB h0 h) (hD : h0.size ≤ D) : KB h0 (h.setIfInBounds D (.deferred none)) :=
  ⟨by simpa using k.1, fun b hb => by
    have hb' : b < h0.size := hb
    rw [Array.getElem?_setIfInBounds_ne (by omega)]; exact k.2 b hb⟩
/-- the end of a function with one such loop: its result stands in a variable -/
theorem leave_int {h0 h : H} {D : Nat} {a : Addr} {t : Nat} {i : Int} {K : Value → H → Prop} (hd : dOpen D h) (k : KB h0 h) (hD : h0.size ≤ D) (v : Var h a t [.int .i64 i]) (hk : ∀ h', KB h0 h' → K (.int .i64 i) h') :
    leaveX [markD D] h fun h => ∃ j, cell h a = some (.int .i64 j) ∧ K (.int .i64 j) h := by
  have k2 := (KW.refl h).leave hd
  exact ⟨hd, i, (v.kw k2).cell0 rfl, hk _ (k.leave hD)⟩
end Go.Sh
namespace Go.Sh
open Go
set_option linter.unusedVariables false
variable {P : Program} {α : Type} {E : El α}

def apdB (P : Program) (sz t e by' : Nat) : Bool :=
  match P.underlying t with
  | some (.slice e') =>
    match P.info? e with
    | some i =>
      match i.zero with
      | some z => Nat.beq e' e && (Nat.beq z.cells.size i.size && (Nat.beq i.size sz && Nat.beq i.bytes by'))
      | none => false
    | none => false
  | _ => false
theorem apd_of {t e by' sz : Nat} (h : apdB P sz t e by' = true) (hs : sz = E.sz) : Apd P E t e by' := by
  subst hs
  unfold apdB at h
  split at h
  · rename_i e' he
    split at h
    · rename_i i hi
      split at h
      · rename_i z hz
        simp only [Bool.and_eq_true] at h
        obtain ⟨h1, h2, h3, h4⟩ := h
        have e1 := Nat.eq_of_beq_eq_true h1
        subst e1
        exact ⟨i, z, he, hi, hz, Nat.eq_of_beq_eq_true h2, Nat.eq_of_beq_eq_true h3, Nat.eq_of_beq_eq_true h4⟩
      · cases h
    · cases h
  · cases h

def isSlD (d : Option TypeDesc) : Bool :=
  match d with
  | some (.slice _) => true
  | _ => false
theorem run_eqNil {t : TypeId} {x y : Operand} {b : Option Addr} {n c : Nat} (ht : isSlD (P.underlying t) = true) (w : World) :
    (binS .eql t x y (.slice b n c) (.slice none 0 0)).run P w = .ok (.bool b.isNone) w ∧ (binS .neq t x y (.slice b n c) (.slice none 0 0)).run P w = .ok (.bool (!b.isNone)) w := by
  unfold isSlD at ht
  split at ht
  · rename_i e he
    have h1 : (eqGuard .eql t x y (.slice b n c) (.slice none 0 0)).run P w = .ok () w := by simp [eqGuard]
    have h2 : (eqGuard .neq t x y (.slice b n c) (.slice none 0 0)).run P w = .ok () w := by simp [eqGuard]
    unfold binS
    rw [Sem.run_bind, h1, Sem.run_bind, h2, Result.andThen_ok, Result.andThen_ok]
    refine ⟨Lib.run_eql_slice_nil w t e b n c 0 0 he, ?_⟩
    simp only [binOp]
    simp [Op.equal, Op.maxDepth, Lib.run_equalIn_slice_nil w 9999 t e b n c 0 0 he]
  · cases ht
theorem semR_slnil {t : TypeId} {x y : Operand} {b : Option Addr} {n c : Nat} {h : H} {K : Value → Prop} (ht : isSlD (P.underlying t) = true) (hk : K (.bool b.isNone)) :
    SemR P (binS .eql t x y (.slice b n c) (.slice none 0 0)) h K := ⟨_, hk, fun w _ => (run_eqNil ht w).1⟩
theorem semR_slnotnil {t : TypeId} {x y : Operand} {b : Option Addr} {n c : Nat} {h : H} {K : Value → Prop} (ht : isSlD (P.underlying t) = true) (hk : K (.bool (!b.isNone))) :
    SemR P (binS .neq t x y (.slice b n c) (.slice none 0 0)) h K := ⟨_, hk, fun w _ => (run_eqNil ht w).2⟩

theorem Row.bel {A : Nat → Prop} {h : H} {b : Option Addr} {n c : Nat} {l : List α} (r : Row E A h b n c l) : Row E (Bel h.size) h b n c l := r.keep (Keep.refl _ _) fun _ _ h => h
theorem Grow.kb0 {h0 h h' : H} {sb : Option Addr} (k : KB h0 h) (g : Grow h h' sb) (hge : ∀ a, sb = some a → h0.size ≤ a.block) : KB h0 h' :=
  ⟨Nat.le_trans k.1 g.size, fun x hx => (g.old x (Nat.lt_of_lt_of_le hx k.1) fun a e => by have := hge a e; have hx : x < h0.size := hx; omega).trans (k.2 x hx)⟩
theorem Grow.kw0 {h0 h h' : H} {sb : Option Addr} (k : KW h0 h) (g : Grow h h' sb) (hge : ∀ a, sb = some a → h0.size ≤ a.block) : KW h0 h' :=
  ⟨Nat.le_trans k.1 g.size, fun x hx o e hl => by
    rw [g.old x (Nat.lt_of_lt_of_le hx k.1) fun a e => by have := hge a e; have hx : x < h0.size := hx; omega]
    exact k.2 x hx o e hl⟩

/-- a row of one's own that was made behind a place; it points at none of itself -/
structure OwnF (E : El α) (h : H) (base e : Nat) (b : Option Addr) (n c : Nat) (l : List α) : Prop where
  own : OwnT E (But h b) h base e b n c l
  lo : ∀ a, b = some a → base ≤ a.block
  hi : ∀ a, b = some a → a.block < h.size
  nil : b = none → c = 0
theorem OwnF.none (h : H) (base e : Nat) : OwnF E h base e none 0 0 [] := ⟨OwnT.nil _ _ _ _ _, (fun _ e => by cases e), (fun _ e => by cases e), fun _ => rfl⟩
theorem OwnF.kw {h h' : H} {base e n c : Nat} {b : Option Addr} {l : List α} (o : OwnF E h base e b n c l) (k : KW h h') : OwnF E h' base e b n c l :=
  ⟨o.own.keep (B := Bel h.size) k (fun _ _ h => h) (fun k' hk hks => ⟨Nat.lt_of_lt_of_le hks k.1, hk.2⟩) fun _ _ _ h => h, o.lo, fun a e => Nat.lt_of_lt_of_le (o.hi a e) k.1, o.nil⟩
theorem OwnF.kb {h h' : H} {base e n c : Nat} {b : Option Addr} {l : List α} (o : OwnF E h base e b n c l) (k : KB h h') : OwnF E h' base e b n c l := o.kw (KB.w k)
theorem OwnF.lower {h : H} {base base' e n c : Nat} {b : Option Addr} {l : List α} (o : OwnF E h base e b n c l) (hb : base' ≤ base) : OwnF E h base' e b n c l := ⟨o.own.lower hb, fun a e => Nat.le_trans hb (o.lo a e), o.hi, o.nil⟩
theorem OwnF.row {h : H} {base e n c : Nat} {b : Option Addr} {l : List α} (o : OwnF E h base e b n c l) : Row E (Bel h.size) h b n c l := o.own.row (fun _ h => h.1) fun _ _ h _ => h
theorem OwnF.cap {h : H} {base e n c : Nat} {b : Option Addr} {l : List α} (o : OwnF E h base e b n c l) : n ≤ c ∧ c ≤ maxLen := o.own.cap

theorem OwnF.append {t ty e by' : Nat} (ap : Apd P E t e by') {h : H} {sb rb : Option Addr} {n c m k base : Nat} {l l2 : List α} (o : OwnF E h base e sb n c l) (r : Row E (But h sb) h rb m k l2)
    (h63 : n + m ≤ maxLen) (hb : (n + m) * by' ≤ 140737488355328) (hbase : base ≤ h.size) {K : Value → H → Prop}
    (hk : ∀ b' c' h', OwnF E h' base e b' (n + m) c' (l ++ l2) → Grow h h' sb → K (.slice b' (n + m) c') h') :
    SemH P (Builtin.append_ #[t, t] ty ⟨[.slice sb n c, .slice rb m k]⟩) h K := by
  refine OwnT.append ap o.own r h63 hb hbase (fun k hk _ => hk.2) fun b2 c2 h' o' hg hb h0 => hk b2 c2 h' ⟨?_, ?_, ?_, ?_⟩ hg
  · refine o'.keep (Keep.refl (fun _ => True) _) (fun _ _ _ => trivial) (fun k hk' hks => ⟨hks, fun x hx => ?_⟩) fun _ _ _ _ => trivial
    rcases hb with rfl | rfl
    · exact hk'.2 x hx
    · cases hx
      have := hk'.1
      show h.size ≠ k
      omega
  · intro x hx
    rcases hb with rfl | rfl
    · exact o.lo x hx
    · cases hx; exact hbase
  · intro x hx
    rcases hb with rfl | rfl
    · exact Nat.lt_of_lt_of_le (o.hi x hx) hg.size
    · obtain ⟨xs, ho, _⟩ := o'.own
      rcases ho.is with h1 | ⟨g, cur, e1, _, hgg, _⟩
      · have := h0 h1.1
        exact Nat.lt_of_lt_of_le (o.hi x (this.1 ▸ hx)) hg.size
      · rw [hx] at e1; cases e1; exact (Array.getElem?_eq_some_iff.1 hgg).1
  · intro hbn
    have := o'.cap
    obtain ⟨xs, ho, _⟩ := o'.own
    rcases ho.is with h1 | ⟨g, cur, e1, _⟩
    · exact h1.2
    · rw [hbn] at e1; cases e1

/-- behind a row that has no room -/
theorem Row.appendF {t ty e by' : Nat} (ap : Apd P E t e by') {A B : Nat → Prop} {h : H} {sb rb : Option Addr} {n c m k : Nat} {l l2 : List α} (o : Row E A h sb n c l) (hfull : m = 0 ∨ c < n + m) (r : Row E B h rb m k l2)
    (hsb : sb = none → c = 0) (h63 : n + m ≤ maxLen) (hb : (n + m) * by' ≤ 140737488355328) {K : Value → H → Prop} (hsame : m = 0 → K (.slice sb n c) h)
    (hK : ∀ c' h', 0 < m → OwnF E h' h.size e (some (Ad h.size)) (n + m) c' (l ++ l2) → KB h h' → K (.slice (some (Ad h.size)) (n + m) c') h') :
    SemH P (Builtin.append_ #[t, t] ty ⟨[.slice sb n c, .slice rb m k]⟩) h K := by
  refine Row.append (A := Bel h.size) ap o.bel hfull r.bel hsb h63 hb hsame fun c' h' hm o' k' => hK c' h' hm ⟨?_, ?_, ?_, ?_⟩ k'
  · refine o'.keep (Keep.refl (fun _ => True) _) (fun _ _ _ => trivial) (fun k hk' hks => ⟨hks, fun x hx => ?_⟩) fun _ _ _ _ => trivial
    cases hx
    have hk' : k < h.size := hk'
    show h.size ≠ k
    omega
  · intro x hx; cases hx; exact Nat.le_refl _
  · intro x hx
    cases hx
    obtain ⟨xs, ho, _⟩ := o'.own
    rcases ho.is with h1 | ⟨g, cur, e1, _, hgg, _⟩
    · omega
    · cases e1; exact (Array.getElem?_eq_some_iff.1 hgg).1
  · intro e; cases e
end Go.Sh
