/- Memory, as rows of typed elements: kinds of elements; a variable's block; steps. Comparing structs. No condition. -/
import Derived.Test.YtmnjhhgdhlgjfaaHmB
import Derived.Laws.StructEq
namespace Go.Sh
open Go
set_option linter.unusedVariables false
set_option linter.unusedSimpArgs false
variable {P : Program} {α β : Type}

/-! ### Kinds of elements -/
def elInt (k : IntKind) : El Int where
  sz := 1
  R := fun _ _ x cs => cs = [.int k x] ∧ Rng k x
  len := fun _ _ _ _ h => by rw [h.1]; rfl
  one := fun _ _ _ _ h v hv => by rw [h.1] at hv; simp at hv; subst hv; rfl
  keep := fun _ _ _ _ _ _ h _ _ => h
  pos := by decide
def elStr : El (List UInt8) where
  sz := 1
  R := fun _ _ x cs => cs = [S x] ∧ x.length ≤ maxLen
  len := fun _ _ _ _ h => by rw [h.1]; rfl
  one := fun _ _ _ _ h v hv => by rw [h.1] at hv; simp at hv; subst hv; rfl
  keep := fun _ _ _ _ _ _ h _ _ => h
  pos := by decide
def elBool : El Bool where
  sz := 1
  R := fun _ _ x cs => cs = [.bool x]
  len := fun _ _ _ _ h => by rw [h]; rfl
  one := fun _ _ _ _ h v hv => by rw [h] at hv; simp at hv; subst hv; rfl
  keep := fun _ _ _ _ _ _ h _ _ => h
  pos := by decide
def elSl (E : El α) : El (List α) where
  sz := 1
  R := fun A h l cs => ∃ b n c, cs = [.slice b n c] ∧ Row E A h b n c l ∧ (b = none → c = 0)
  len := fun _ _ _ _ ⟨_, _, _, e, _⟩ => by rw [e]; rfl
  one := fun _ _ _ _ ⟨_, _, _, e, _⟩ v hv => by rw [e] at hv; simp at hv; subst hv; rfl
  keep := fun _ _ _ _ _ _ ⟨b, n, c, e, r, hz⟩ k hb => ⟨b, n, c, e, r.keep k hb, hz⟩
  pos := by decide
def elPair (E : El α) (F : El β) : El (α × β) where
  sz := E.sz + F.sz
  R := fun A h x cs => ∃ c1 c2, cs = c1 ++ c2 ∧ E.R A h x.1 c1 ∧ F.R A h x.2 c2
  len := fun _ _ _ _ ⟨c1, c2, e, h1, h2⟩ => by rw [e, List.length_append, E.len _ _ _ _ h1, F.len _ _ _ _ h2]
  one := fun _ _ _ _ ⟨c1, c2, e, h1, h2⟩ v hv => by
    rw [e] at hv
    rcases List.mem_append.1 hv with hv | hv
    · exact E.one _ _ _ _ h1 v hv
    · exact F.one _ _ _ _ h2 v hv
  keep := fun _ _ _ _ _ _ ⟨c1, c2, e, h1, h2⟩ k hb => ⟨c1, c2, e, E.keep _ _ _ _ _ _ h1 k hb, F.keep _ _ _ _ _ _ h2 k hb⟩
  pos := Nat.lt_of_lt_of_le E.pos (Nat.le_add_right _ _)

section
variable {A : Nat → Prop} {h : H} {a : Addr}
theorem At.fst {E : El α} {F : El β} {x : α × β} (hA : At (elPair E F) A h a x) : At E A h a x.1 := by
  obtain ⟨h1, cs, ⟨c1, c2, e, h2, h3⟩, h4⟩ := hA
  refine ⟨h1, c1, h2, fun j v hv => h4 j v ?_⟩
  rw [e, List.getElem?_append_left (List.getElem?_eq_some_iff.1 hv).1]; exact hv
theorem At.snd {E : El α} {F : El β} {x : α × β} (hA : At (elPair E F) A h a x) : At F A h (a.add E.sz) x.2 := by
  obtain ⟨h1, cs, ⟨c1, c2, e, h2, h3⟩, h4⟩ := hA
  refine ⟨by rw [add_block]; exact h1, c2, h3, fun j v hv => ?_⟩
  rw [add_add]
  refine h4 _ v ?_
  have hl := E.len _ _ _ _ h2
  rw [e, List.getElem?_append_right (by omega), hl, show E.sz + j - E.sz = j by omega]; exact hv
/-- ... at a place within -/
theorem At.sndAt {E : El α} {F : El β} {x : α × β} {m k : Nat} (hA : At (elPair E F) A h (a.add m) x) (hk : k = m + E.sz) : At F A h (a.add k) x.2 := by
  subst hk; have := hA.snd; rwa [add_add] at this
theorem At.int {k : IntKind} {x : Int} (hA : At (elInt k) A h a x) : cell h a = some (.int k x) ∧ Rng k x := by
  obtain ⟨h1, cs, ⟨e, hr⟩, h4⟩ := hA
  subst e
  exact ⟨h4 0 _ rfl, hr⟩
theorem At.str {x : List UInt8} (hA : At elStr A h a x) : cell h a = some (S x) ∧ x.length ≤ maxLen := by
  obtain ⟨h1, cs, ⟨e, hr⟩, h4⟩ := hA
  subst e
  exact ⟨h4 0 _ rfl, hr⟩
theorem At.bool {x : Bool} (hA : At elBool A h a x) : cell h a = some (.bool x) := by
  obtain ⟨h1, cs, e, h4⟩ := hA
  cases e
  exact h4 0 _ rfl
theorem At.sl {E : El α} {l : List α} (hA : At (elSl E) A h a l) : ∃ b n c, cell h a = some (.slice b n c) ∧ Row E A h b n c l ∧ (b = none → c = 0) := by
  obtain ⟨h1, cs, ⟨b, n, c, e, r⟩, h4⟩ := hA
  cases e
  exact ⟨b, n, c, h4 0 _ rfl, r⟩

theorem ldI {k : IntKind} {x : Int} {K : Int → Prop} (hA : At (elInt k) A h a x) (hk : Rng k x → K x) : ∃ i, cell h a = some (.int k i) ∧ K i := ⟨x, hA.int.1, hk hA.int.2⟩
theorem ldS {x : List UInt8} {K : List UInt8 → Prop} (hA : At elStr A h a x) (hk : x.length ≤ maxLen → K x) : ∃ s, cell h a = some (S s) ∧ K s := ⟨x, hA.str.1, hk hA.str.2⟩
theorem ldB {x : Bool} {K : Bool → Prop} (hA : At elBool A h a x) (hk : K x) : ∃ s, cell h a = some (.bool s) ∧ K s := ⟨x, hA.bool, hk⟩
theorem ldSl {E : El α} {l : List α} {K : Option Addr → Nat → Nat → Prop} (hA : At (elSl E) A h a l) (hk : ∀ b n c, Row E A h b n c l → (b = none → c = 0) → K b n c) : ∃ b n c, cell h a = some (.slice b n c) ∧ K b n c := by
  obtain ⟨b, n, c, e, r, hz⟩ := hA.sl
  exact ⟨b, n, c, e, hk b n c r hz⟩

theorem splT {p : Prop} {X Y : Prop} (h : p) (x : X) : Spl p X Y := ⟨fun _ => x, fun n => absurd h n⟩
theorem splF {p : Prop} {X Y : Prop} (h : ¬ p) (y : Y) : Spl p X Y := ⟨fun n => absurd n h, fun _ => y⟩
theorem spl {p : Prop} {X Y : Prop} (x : p → X) (y : ¬ p → Y) : Spl p X Y := ⟨x, y⟩
end

/-! ### A variable's own block -/
structure Var (h : H) (a : Addr) (t : Nat) (cs : List Value) : Prop where
  is : a = Ad a.block
  cells : h[a.block]? = some (.cells ⟨cs⟩ t (0, 0))
section
variable {h : H} {a : Addr} {t : Nat} {cs : List Value}
theorem Var.lt (v : Var h a t cs) : a.block < h.size := (Array.getElem?_eq_some_iff.1 v.cells).1
theorem Var.cell (v : Var h a t cs) (i : Nat) {x : Value} (hx : cs[i]? = some x) : Sh.cell h (a.add i) = some x := by
  rw [v.is, cell_lit v.cells]; simpa using hx
theorem Var.cell0 (v : Var h a t cs) {x : Value} (hx : cs[0]? = some x) : Sh.cell h a = some x := v.cell 0 hx
theorem Var.kw {h' : H} (v : Var h a t cs) (k : KW h h') : Var h' a t cs := ⟨v.is, k.2 _ v.lt _ v.cells rfl⟩
theorem Var.kb {h' : H} (v : Var h a t cs) (k : KB h h') : Var h' a t cs := v.kw (KB.w k)
theorem Var.keep {h' : H} {A : Nat → Prop} (v : Var h a t cs) (k : Keep A h h') (hA : A a.block) : Var h' a t cs := ⟨v.is, k.2 _ hA _ v.cells rfl⟩
theorem Var.at {E : El α} {A : Nat → Prop} {x : α} (v : Var h a t cs) (hR : E.R A h x cs) (ha : A a.block) : At E A h a x := ⟨ha, cs, hR, fun j u hu => v.cell j hu⟩

theorem Var.row1 {E : El α} {A : Nat → Prop} {x : α} (v : Var h a t cs) (hR : E.R A h x cs) (ha : A a.block) : Row E A h (some a) 1 1 [x] := by
  refine ⟨rfl, Nat.le_refl _, by decide, fun i y hy => ?_⟩
  cases i with
  | zero =>
    simp at hy
    subst hy
    refine ⟨a, rfl, ?_⟩
    rw [Nat.zero_mul, add_zero']
    exact v.at hR ha
  | succ i => simp at hy
theorem newx_var {K : Addr → H → Prop} (hk : ∀ a h', Var h' a t cs → KB h h' → a.block = h.size → h'.size = h.size + 1 → K a h') : newx h ⟨cs⟩ t K :=
  hk _ _ ⟨rfl, by simp⟩ (SK.push h _) rfl (by simp)

/-- all but one block stays -/
abbrev KX (g : Nat) (h h' : H) : Prop := SK (fun k => k ≠ g) h h'
theorem KB.step {h0 h h' : H} {g : Nat} (k : KB h0 h) (x : KX g h h') (hg : h0.size ≤ g) : KB h0 h' := SK.trans k (x.less fun k hk => by intro e; have : k < h0.size := hk; omega)

theorem KW.step {h0 h h' : H} {g : Nat} (k : KW h0 h) (x : KX g h h') (hg : h0.size ≤ g) : KW h0 h' := Keep.trans k (x.w.less fun k hk => by intro e; have : k < h0.size := hk; omega)
theorem setc_var (v : Var h a t cs) (i : Nat) (x : Value) : setc h (a.add i) x = h.setIfInBounds a.block (.cells ⟨cs.set i x⟩ t (0, 0)) := by
  have e : (a.add i) = ⟨a.block, i, none⟩ := by rw [v.is]; unfold Addr.add; split <;> simp_all
  rw [e]
  unfold setc
  apply Array.ext_getElem?
  intro k
  rw [Array.getElem?_modify, Array.getElem?_setIfInBounds]
  by_cases hk : a.block = k
  · subst hk
    simp only [if_true]
    have hl := v.lt
    rw [v.cells]
    simp [hl]
  · simp [hk]
theorem Var.set (v : Var h a t cs) (i : Nat) (x : Value) : Var (setc h (a.add i) x) a t (cs.set i x) ∧ KX a.block h (setc h (a.add i) x) := by
  refine ⟨⟨v.is, ?_⟩, SK.setc (by rw [add_block]; exact fun e => e rfl)⟩
  rw [setc_var v]
  have hl := v.lt
  simp [hl]

def setAll : List Value → Nat → List Value → List Value
  | cs, _, [] => cs
  | cs, i, v :: l => setAll (cs.set i v) (i + 1) l
theorem stL_var {m : Nat} : ∀ {l : List Value} {i : Nat} {cs : List Value} {h : H} {K : H → Prop}, Var h a t cs → m + i + l.length ≤ cs.length →
    (∀ h', Var h' a t (setAll cs (m + i) l) → KX a.block h h' → h'.size = h.size → K h') → stL (a.add m) l i h K
  | [], i, cs, h, K, v, hl, hk => hk h v (SK.refl _ _) rfl
  | x :: l, i, cs, h, K, v, hl, hk => by
    have hlt : m + i < cs.length := by simp at hl; omega
    rw [stL, add_add]
    refine ⟨⟨cs[m + i], v.cell (m + i) (List.getElem?_eq_getElem hlt)⟩, ?_, ?_⟩
    · unfold iced
      rw [add_block, v.cells]
      simp
    · obtain ⟨v2, k2⟩ := v.set (m + i) x
      refine stL_var (i := i + 1) v2 (by simp at hl ⊢; omega) fun h' v3 k3 hs => ?_
      refine hk h' (by rw [show m + (i + 1) = m + i + 1 by omega] at v3; exact v3) (k2.trans k3) (by rw [hs, setc_size])
theorem stL_var0 {l : List Value} {K : H → Prop} (v : Var h a t cs) (hl : l.length ≤ cs.length) (hk : ∀ h', Var h' a t (setAll cs 0 l) → KX a.block h h' → h'.size = h.size → K h') : stL a l 0 h K :=
  stL_var (a := a) (m := 0) (i := 0) (cs := cs) v (by simpa using hl) hk
end

/-! ### Comparing structs -/
def scalD (d : Option TypeDesc) : Bool :=
  match d with
  | some (.int _) => true
  | some .bool => true
  | some .string => true
  | _ => false
def flatF (P : Program) : List Field → Nat → Bool
  | [], _ => true
  | f :: fs, i => !(f.name == "_") && Nat.beq f.offset i && scalD (P.underlying f.type) && flatF P fs (i + 1)
def flatEq (P : Program) (t : TypeId) : Bool :=
  match P.underlying t with
  | some (.struct fs) => !P.stoodInHeld t && !P.eqGuardType P.depth t && flatF P fs.toList 0
  | _ => false
def okD (d : Option TypeDesc) (x y : Value) : Bool :=
  match d, x, y with
  | some (.int k), .int k1 _, .int k2 _ => decide (k1 = k ∧ k2 = k)
  | some .bool, .bool _, .bool _ => true
  | some .string, .string _, .string _ => true
  | _, _, _ => false
def okF (P : Program) : List Field → List Value → List Value → Bool
  | [], [], [] => true
  | f :: fs, x :: xs, y :: ys => okD (P.underlying f.type) x y && okF P fs xs ys
  | _, _, _ => false
def okV (P : Program) (t : TypeId) (xs ys : List Value) : Bool :=
  match P.underlying t with
  | some (.struct fs) => okF P fs.toList xs ys
  | _ => false
def eqV (x y : Value) : Bool :=
  match x, y with
  | .int _ a, .int _ b => a == b
  | .bool a, .bool b => a == b
  | .string a, .string b => a.data.toList == b.data.toList
  | _, _ => false
def eqAll : List Value → List Value → Bool
  | x :: xs, y :: ys => eqV x y && eqAll xs ys
  | _, _ => true

theorem run_part_at {e : TypeId} (w : World) (hd : scalD (P.underlying e) = true) {xs : Array Value} {off : Nat} {v : Value} (hx : xs[off]? = some v) : (part e xs off).run P w = .ok v w := by
  cases hu : P.underlying e with
  | none => rw [hu] at hd; cases hd
  | some d => cases d <;> first | (rw [hu] at hd; cases hd; done) | simp [part, isAgg, run_underlying hu, hx]
theorem run_scal (w : World) (d : Nat) (t : TypeId) {x y : Value} (hd : scalD (P.underlying t) = true) (ho : okD (P.underlying t) x y = true) : (Op.equalIn (d + 1) t x y).run P w = .ok (eqV x y) w := by
  cases hu : P.underlying t with
  | none => rw [hu] at hd; cases hd
  | some td =>
    rw [hu] at hd ho
    cases td <;> first | (cases hd; done) | skip
    · cases x <;> first | (cases ho; done) | skip
      cases y <;> first | (cases ho; done) | skip
      exact run_equalIn_bool' w d t _ _ hu
    · rename_i k
      cases x <;> first | (cases ho; done) | skip
      cases y <;> first | (cases ho; done) | skip
      rename_i k1 a k2 b
      simp only [okD, decide_eq_true_eq] at ho
      obtain ⟨rfl, rfl⟩ := ho
      exact run_equalIn_int w d t _ _ a b hu
    · cases x <;> first | (cases ho; done) | skip
      cases y <;> first | (cases ho; done) | skip
      rw [run_equalIn_string w d t _ _ hu, ByteArray.toList_eq, ByteArray.toList_eq]
      rfl
theorem run_eqF (w : World) (d : Nat) : ∀ {fs : List Field} {i : Nat} {xs ys px py : List Value}, flatF P fs i = true → okF P fs xs ys = true → px.length = i → py.length = i →
    (Op.eqFields (d + 1) ⟨px ++ xs⟩ ⟨py ++ ys⟩ fs).run P w = .ok (eqAll xs ys) w
  | [], i, [], [], px, py, _, _, _, _ => rfl
  | f :: fs, i, x :: xs, y :: ys, px, py, hf, ho, hx, hy => by
    simp only [flatF, Bool.and_eq_true, Bool.not_eq_true'] at hf
    simp only [okF, Bool.and_eq_true] at ho
    obtain ⟨⟨⟨h1, h2⟩, h3⟩, h4⟩ := hf
    have hoff := Nat.eq_of_beq_eq_true h2
    have hn : f.name ≠ "_" := fun e => by rw [e] at h1; simp at h1
    unfold Op.eqFields
    rw [if_pos hn]
    have hpx : (⟨px ++ x :: xs⟩ : Array Value)[f.offset]? = some x := by simp [hoff, ← hx]
    have hpy : (⟨py ++ y :: ys⟩ : Array Value)[f.offset]? = some y := by simp [hoff, ← hy]
    simp only [Sem.run_bind, run_part_at w h3 hpx, run_part_at w h3 hpy, Result.andThen_ok, run_scal w d f.type h3 ho.1]
    cases he : eqV x y with
    | false => simp [eqAll, he]
    | true =>
      simp only [Bool.not_true, Bool.false_eq_true, if_false, eqAll, he, Bool.true_and]
      have := run_eqF w d (fs := fs) (i := i + 1) (xs := xs) (ys := ys) (px := px ++ [x]) (py := py ++ [y]) h4 ho.2 (by simp [hx]) (by simp [hy])
      simpa using this

theorem run_eqS {t : TypeId} {x y : Operand} {xs ys : List Value} (hf : flatEq P t = true) (ho : okV P t xs ys = true) (w : World) :
    (Op.equalIn 10000 t (.agg ⟨xs⟩) (.agg ⟨ys⟩)).run P w = .ok (eqAll xs ys) w ∧ ∀ op, (eqGuard op t x y (.agg ⟨xs⟩) (.agg ⟨ys⟩)).run P w = .ok () w := by
  unfold flatEq at hf
  unfold okV at ho
  cases hu : P.underlying t with
  | none => rw [hu] at hf; cases hf
  | some td =>
    rw [hu] at hf ho
    cases td <;> first | (cases hf; done) | skip
    rename_i fs
    simp only [Bool.and_eq_true, Bool.not_eq_true'] at hf
    have hfo : P.fieldsOf t = fs := by unfold Program.fieldsOf; rw [hu]
    refine ⟨?_, fun op => run_eqGuard_agg w op t x y _ _ hf.1.2⟩
    have := run_equalIn_struct (P := P) w 9999 t ⟨xs⟩ ⟨ys⟩ (by rw [hfo]; exact hu) hf.1.1
    rw [hfo] at this
    refine this.trans ?_
    have := run_eqF w 9998 (px := []) (py := []) hf.2 ho rfl rfl
    simpa using this

theorem semR_eql {t : TypeId} {x y : Operand} {xs ys : List Value} {h : H} {K : Value → Prop} (hf : flatEq P t = true) (ho : okV P t xs ys = true) (hk : K (.bool (eqAll xs ys))) :
    SemR P (binS .eql t x y (.agg ⟨xs⟩) (.agg ⟨ys⟩)) h K := by
  refine ⟨_, hk, fun w _ => ?_⟩
  obtain ⟨h1, h2⟩ := run_eqS (x := x) (y := y) hf ho w
  unfold binS
  rw [Sem.run_bind, h2, Result.andThen_ok, run_eql_struct, h1]
  rfl
theorem semR_neq {t : TypeId} {x y : Operand} {xs ys : List Value} {h : H} {K : Value → Prop} (hf : flatEq P t = true) (ho : okV P t xs ys = true) (hk : K (.bool (!eqAll xs ys))) :
    SemR P (binS .neq t x y (.agg ⟨xs⟩) (.agg ⟨ys⟩)) h K := by
  refine ⟨_, hk, fun w _ => ?_⟩
  obtain ⟨h1, h2⟩ := run_eqS (x := x) (y := y) hf ho w
  unfold binS
  rw [Sem.run_bind, h2, Result.andThen_ok, run_neq_struct, h1]
  rfl
/-- what yields a value in all heaps that go on from this one yields it here -/
theorem SemR.h {m : Sem Value} {h : H} {K : Value → H → Prop} (hs : SemR P m h fun v => K v h) : SemH P m h K := by
  obtain ⟨v, hk, hall⟩ := hs
  intro w hw
  exact ⟨v, w, hall w (by rw [hw]; exact ExtH.refl h), Outer.refl w, by rw [hw]; exact hk⟩
end Go.Sh
