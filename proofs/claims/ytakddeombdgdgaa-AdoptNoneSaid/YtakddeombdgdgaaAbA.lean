import Derived.Test.YtakddeombdgdgaaShQ
import Derived.Deep.Slices
import Derived.Deep.Fields
import Derived.ChangeSame
import Derived.SizedLaws
import Derived.Carry
import Derived.OpenShut
import Derived.ProofKit
import Derived.Test.YtakddeombdgdgaaAaO
import Derived.Test.YtakddeombdgdgaaOtA
/- From what is read of an argument to rows of typed elements; what stays of arguments behind a call. No condition. -/
namespace Go.Sh
open Go Go.ChangeShapes Go.WideShapes Go.Deep
set_option linter.unusedVariables false

variable {P : Program} {α β : Type}
/-- cells of a type are read so -/
def Reads (P : Program) (E : El α) (S : α → Prop) (t : TypeId) : Prop :=
  ∀ {H : Type} {enc : TypeId × Value → H} {w : World} {base fuel : Nat} {spare : Nat → Bool} {held : Bool} {cs : List Value} {x : DataW H × List MemPlace},
    DataW.trod enc P w base spare held fuel t cs = some x → (∀ n ∈ x.1.weights P t, n ≤ reachBytes) → ∃ a, E.R (Bel w.heap.size) w.heap a cs ∧ S a
def TrodL {H : Type} (enc : TypeId × Value → H) (P : Program) (w : World) (base : Nat) (spare : Nat → Bool) (held : Bool) : List TypeId → List Value → List (DataW H × List MemPlace) → Prop
  | [], cs, ys => cs = [] ∧ ys = []
  | t :: ts, cs, ys => ∃ c1 c2 y ys', cs = c1 ++ c2 ∧ ys = y :: ys' ∧ (∃ fuel, DataW.trod enc P w base spare held fuel t c1 = some y) ∧ TrodL enc P w base spare held ts c2 ys'
/-- a struct's cells are read so -/
def ReadsF (P : Program) (E : El α) (S : α → Prop) (ts : List TypeId) : Prop :=
  ∀ {H : Type} {enc : TypeId × Value → H} {w : World} {base : Nat} {spare : Nat → Bool} {held : Bool} {vs : List Value} {ys : List (DataW H × List MemPlace)},
    TrodL enc P w base spare held ts vs ys → (∀ n ∈ DataW.weightsEach P ts (ys.map (·.1)), n ≤ reachBytes) → ∃ a, E.R (Bel w.heap.size) w.heap a vs ∧ S a

theorem readsInt {k : IntKind} {t : TypeId} (ht : P.underlying t = some (.int k)) : Reads P (elInt k) (fun _ => True) t := by
  intro H enc w base fuel spare held cs x h _
  obtain ⟨n, e, _, hw⟩ := DataW.trod_int ht h
  cases e
  refine ⟨n, ⟨rfl, ?_⟩, trivial⟩
  simp [Lit.wf] at hw
  exact hw
theorem readsStr {t : TypeId} (ht : P.underlying t = some .string) : Reads P elStr (fun s => s.length ≤ reachBytes) t := by
  intro H enc w base fuel spare held cs x h hz
  obtain ⟨s, e, hx, hw⟩ := DataW.trod_string ht h
  cases e
  subst hx
  exact ⟨s.data.toList, ⟨rfl, by simpa using hw⟩, hz _ (by simp [DataW.weights])⟩
theorem readsF_one {E : El α} {S : α → Prop} {t : TypeId} (h : Reads P E S t) : ReadsF P E S [t] := by
  intro H enc w base spare held vs ys ht hw
  obtain ⟨c1, c2, y, ys', rfl, rfl, ⟨fuel, hf⟩, rfl, rfl⟩ := ht
  rw [List.append_nil]
  exact h hf fun n hn => hw n (by simp [DataW.weightsEach, hn])
theorem readsF_cons {E : El α} {F : El β} {S : α → Prop} {T : β → Prop} {t : TypeId} {ts : List TypeId} (h : Reads P E S t) (k : ReadsF P F T ts) : ReadsF P (elPair E F) (fun x => S x.1 ∧ T x.2) (t :: ts) := by
  intro H enc w base spare held vs ys ht hw
  obtain ⟨c1, c2, y, ys', rfl, rfl, ⟨fuel, hf⟩, hr⟩ := ht
  obtain ⟨a, h1, h2⟩ := h hf fun n hn => hw n (by simp [DataW.weightsEach, hn])
  obtain ⟨b, h3, h4⟩ := k hr fun n hn => hw n (by simp only [List.map_cons, DataW.weightsEach, List.mem_append]; exact .inr hn)
  exact ⟨(a, b), ⟨c1, c2, rfl, h1, h3⟩, h2, h4⟩

/-- a struct's fields lie one behind the other -/
def offsB (P : Program) : List Field → Nat → Bool
  | [], _ => true
  | f :: fs, i => Nat.beq f.offset i && offsB P fs (i + P.cellsOf f.type)
def structB (P : Program) (t n : Nat) (ts : List TypeId) : Bool :=
  match P.underlying t with
  | some (.struct fs) => offsB P fs.toList 0 && decide (fs.toList.map (·.type) = ts) && Nat.beq (P.cellsOf t) n && Nat.beq ((ts.map P.cellsOf).foldr (· + ·) 0) n
  | _ => false

theorem trodL_of {H : Type} {enc : TypeId × Value → H} {w : World} {base : Nat} {spare : Nat → Bool} {held : Bool} {n : Nat} : ∀ {fl : List Field} {i : Nat} {cs : List Value} {ys : List (DataW H × List MemPlace)},
    offsB P fl i = true → cs.length = ((fl.map (·.type)).map P.cellsOf).foldr (· + ·) 0 → ys.length = fl.length →
    (∀ (j : Nat) (f : Field), fl[j]? = some f → DataW.trod enc P w base spare held n f.type ((cs.drop (f.offset - i)).take (P.cellsOf f.type)) = ys[j]?) → TrodL enc P w base spare held (fl.map (·.type)) cs ys
  | [], i, cs, ys, _, hc, hy, _ => ⟨List.eq_nil_of_length_eq_zero (by simpa using hc), List.eq_nil_of_length_eq_zero (by simpa using hy)⟩
  | f :: fl, i, cs, ys, ho, hc, hy, hall => by
    simp only [offsB, Bool.and_eq_true] at ho
    have e0 := Nat.eq_of_beq_eq_true ho.1
    cases ys with
    | nil => simp at hy
    | cons y ys =>
      have h0 := hall 0 f rfl
      rw [e0, Nat.sub_self, List.drop_zero] at h0
      refine ⟨cs.take (P.cellsOf f.type), cs.drop (P.cellsOf f.type), y, ys, (List.take_append_drop _ _).symm, rfl, ⟨n, h0⟩, trodL_of (i := i + P.cellsOf f.type) (n := n) ho.2 (by simp only [List.length_drop, hc, List.map_cons, List.foldr_cons]; omega) (by simpa using hy) fun j g hg => ?_⟩
      have := hall (j + 1) g (by simpa using hg)
      rw [List.drop_drop]
      have hoff : ∀ {l : List Field} {i j : Nat} {g : Field}, offsB P l i = true → l[j]? = some g → i ≤ g.offset := by
        intro l
        induction l with
        | nil => intro i j g _ hg; simp at hg
        | cons f l ih =>
          intro i j g ho hg
          simp only [offsB, Bool.and_eq_true] at ho
          cases j with
          | zero => simp at hg; subst hg; exact Nat.le_of_eq (Nat.eq_of_beq_eq_true ho.1).symm
          | succ j => have := ih ho.2 (by simpa using hg); omega
      have hge := hoff ho.2 hg
      rw [show P.cellsOf f.type + (g.offset - (i + P.cellsOf f.type)) = g.offset - i by omega]
      simpa using this

theorem readsStruct {E : El α} {S : α → Prop} {t : TypeId} {ts : List TypeId} (hb : structB P t E.sz ts = true) (hr : ReadsF P E S ts) : Reads P E S t := by
  intro H enc w base fuel spare held cs x h hw
  unfold structB at hb
  split at hb
  · rename_i fs hs
    simp only [Bool.and_eq_true, decide_eq_true_eq] at hb
    obtain ⟨⟨⟨h1, h2⟩, h3⟩, h4⟩ := hb
    obtain ⟨ys, n, _, rfl, hlen, hyl, hf⟩ := DataW.trod_struct hs h
    refine hr (enc := enc) (base := base) (spare := spare) (held := held) (ys := ys) ?_ fun n hn => hw n ?_
    · rw [← h2]
      exact trodL_of (i := 0) (n := n) h1 (by rw [h2, hlen, Nat.eq_of_beq_eq_true h3, Nat.eq_of_beq_eq_true h4]) (by simpa using hyl) fun j f hj => by
        rw [Nat.sub_zero]; exact hf j f (by simpa using hj)
    · simp only [DataW.weights, hs, h2]
      exact hn
  · cases hb

theorem weightsAll_mem {H : Type} {e : TypeId} {d : DataW H} : ∀ {l : List (DataW H)}, d ∈ l → ∀ n ∈ d.weights P e, n ∈ DataW.weightsAll P e l
  | x :: l, hd, n, hn => by
    simp only [DataW.weightsAll, List.mem_append]
    rcases List.mem_cons.1 hd with rfl | h
    · exact .inl hn
    · exact .inr (weightsAll_mem h n hn)

def sliceB (P : Program) (t e n by' : Nat) : Bool :=
  match P.underlying t with
  | some (.slice e') => Nat.beq e' e && (Nat.beq (P.cellsOf e) n && Nat.beq (P.bytesOf e) by')
  | _ => false
/-- the elements of a slice -/
theorem readsSl {E : El α} {S : α → Prop} {t e : TypeId} {by' : Nat} (hb : sliceB P t e E.sz by' = true) (hr : Reads P E S e) :
    Reads P (elSl E) (fun l => l.length * by' ≤ reachBytes ∧ ∀ x ∈ l, S x) t := by
  intro H enc w base fuel spare held cs x h hw
  unfold sliceB at hb
  split at hb
  · rename_i e' ht
    simp only [Bool.and_eq_true] at hb
    obtain ⟨h1, h2, h3⟩ := hb
    have h1 := Nat.eq_of_beq_eq_true h1
    have hC := Nat.eq_of_beq_eq_true h2
    have hby := Nat.eq_of_beq_eq_true h3
    subst h1
    rcases open_slice ht h with ⟨rfl, rfl⟩ | ⟨a, len, cap, m, n, D, Pl, rfl, hb, hl, hm, hmm, rfl, hi⟩
    · exact ⟨[], ⟨none, 0, 0, rfl, Row.nil _ _, fun _ => rfl⟩, by simp, fun x hx => by cases hx⟩
    · have hlm : len ≤ m := by rw [hmm]; split <;> omega
      simp only [DataW.weights, ht, List.mem_cons, List.mem_append] at hw
      have hlen : len * by' ≤ reachBytes := by
        have := hw _ (.inl rfl)
        simp only [List.length_map, List.length_range, hby] at this
        have h2 : len * by' ≤ (len + (m - len)) * by' := Nat.mul_le_mul_right _ (by omega)
        omega
      have each : ∀ i, i < len → ∃ x : α, S x ∧ ∃ vs, E.R (Bel w.heap.size) w.heap x vs ∧ ∀ (j : Nat) u, vs[j]? = some u → cell w.heap (a.add (i * E.sz + j)) = some u := by
        intro i hil
        obtain ⟨cs', hc, ht'⟩ := hi i (by omega)
        rw [hC] at hc
        obtain ⟨_, hcl, hat⟩ := World.cells?_some hc
        have hmem : D i ∈ (List.range len).map D := List.mem_map.2 ⟨i, List.mem_range.2 hil, rfl⟩
        obtain ⟨x, hx, hs⟩ := hr ht' fun n hn => hw n (.inr (.inl (weightsAll_mem hmem n hn)))
        refine ⟨x, hs, cs', hx, fun j u hu => ?_⟩
        have hj : j < cs'.length := (List.getElem?_eq_some_iff.1 hu).1
        have := hat j (by omega)
        rw [cell_eq, hu, Go.Sh.add_add] at this
        exact this
      have list : ∀ k, k ≤ len → ∃ l : List α, l.length = k ∧ (∀ x ∈ l, S x) ∧ ∀ i x, l[i]? = some x → ∃ vs, E.R (Bel w.heap.size) w.heap x vs ∧ ∀ (j : Nat) u, vs[j]? = some u → cell w.heap (a.add (i * E.sz + j)) = some u := by
        intro k
        induction k with
        | zero => exact fun _ => ⟨[], rfl, fun x hx => by (cases hx), fun i x hx => by simp at hx⟩
        | succ k ih =>
          intro hk
          obtain ⟨l, h1, h2, h3⟩ := ih (by omega)
          obtain ⟨x, hs, hx⟩ := each k (by omega)
          refine ⟨l ++ [x], by simp [h1], fun y hy => ?_, fun i y hy => ?_⟩
          · rcases List.mem_append.1 hy with hy | hy
            · exact h2 y hy
            · rw [List.mem_singleton] at hy; subst hy; exact hs
          · by_cases hi : i < l.length
            · rw [List.getElem?_append_left hi] at hy; exact h3 i y hy
            · rw [List.getElem?_append_right (by omega)] at hy
              cases hd : i - l.length with
              | zero =>
                rw [hd] at hy; simp at hy; subst hy
                have : i = k := by omega
                subst this; exact hx
              | succ d => rw [hd] at hy; simp at hy
      obtain ⟨l, h1, h2, h3⟩ := list len (Nat.le_refl _)
      refine ⟨l, ⟨some a, len, cap, rfl, ⟨h1, hl, hm, fun i x hx => ?_⟩, fun e => by cases e⟩, by rw [h1]; exact hlen, h2⟩
      obtain ⟨vs, h4, h5⟩ := h3 i x hx
      have hp := E.pos
      have hvl := E.len _ _ _ _ h4
      refine ⟨a, rfl, ?_, vs, h4, fun j u hu => by rw [Go.Sh.add_add]; exact h5 j u hu⟩
      have := cell_lt (h5 0 _ (List.getElem?_eq_getElem (by omega)))
      rw [add_block] at this ⊢
      exact this
  · cases hb

/-! ### Arguments -/
section
variable {H : Type} {enc : TypeId × Value → H} {w : World} {base b0 : Nat} {spare : Nat → Bool} {held : Bool} {r : Reach} {t : TypeId} {v : Value} {d : DataW H} {p : List MemPlace}
theorem argStr (ht : P.underlying t = some .string) (hv : Value.okWide P w r b0 t v) (h : DataW.Trod enc P w base spare held t v d p) (hw : ∀ n ∈ d.weights P t, n ≤ reachBytes) : ∃ s : List UInt8, v = S s ∧ s.length ≤ reachBytes := by
  obtain ⟨s, rfl⟩ := okWide_string ht hv
  obtain ⟨fuel, hf⟩ := h
  obtain ⟨a, ⟨e, _⟩, hs⟩ := readsStr ht hf hw
  exact ⟨a, by simpa [Value.cells] using e, hs⟩
theorem argSl {E : El α} {S : List α → Prop} {e : TypeId} (ht : P.underlying t = some (.slice e)) (hr : Reads P (elSl E) S t) (hv : Value.okWide P w r b0 t v) (h : DataW.Trod enc P w base spare held t v d p) (hw : ∀ n ∈ d.weights P t, n ≤ reachBytes) :
    ∃ (l : List α) (b : Option Addr) (n c : Nat), v = .slice b n c ∧ Row E (Bel w.heap.size) w.heap b n c l ∧ (b = none → c = 0) ∧ S l := by
  obtain ⟨b, n, c, rfl⟩ := okWide_slice ht hv
  obtain ⟨fuel, hf⟩ := h
  obtain ⟨l, ⟨b', n', c', e, hR, hz⟩, hs⟩ := hr hf hw
  simp [Value.cells] at e
  obtain ⟨rfl, rfl, rfl⟩ := e
  exact ⟨l, b, n, c, rfl, hR, hz, hs⟩
theorem Outer.below {W W' : World} (o : Outer W W') (k : KB W.heap W'.heap) : RowKit.Below W.heap.size W W' := ⟨o.os, o.tape, o.output, k.1, fun b hb => k.2 b hb⟩
def readB (P : Program) (ts : List TypeId) : Bool := ts.all fun t => P.readableRec t && decide (t < P.types.size)
theorem trodAll_below (hl : laidOutB P = true) {W W' : World} (hb : RowKit.Below W.heap.size W W') : ∀ {ts : List TypeId} {vs : List Value} {ds : List (DataW H)} {p : List MemPlace}, readB P ts = true →
    DataW.TrodAll enc P W 0 (fun _ => true) true ts vs ds p → (∀ x ∈ p, x.block < W.heap.size) → DataW.TrodAll enc P W' 0 (fun b => decide (b < W.heap.size)) true ts vs ds p
  | [], [], [], _, _, h, _ => h
  | [], _ :: _, _, _, _, h, _ => h.elim
  | [], [], _ :: _, _, _, h, _ => h.elim
  | _ :: _, [], _, _, _, h, _ => h.elim
  | _ :: _, _ :: _, [], _, _, h, _ => h.elim
  | t :: ts, v :: vs, d :: ds, _, hr, ⟨p, q, h1, h2, rfl⟩, hlt => by
    simp only [readB, List.all_cons, Bool.and_eq_true, decide_eq_true_eq] at hr
    exact ⟨p, q, Go.RowKit.Below.trod hl hr.1.1 hr.1.2 h1 hb fun x hx => hlt x (List.mem_append_left _ hx), trodAll_below hl hb (by simpa [readB] using hr.2) h2 fun x hx => hlt x (List.mem_append_right _ hx), rfl⟩
end
end Go.Sh
/- adopt: AdoptNone. No condition but that the library's variable holds a number. -/
namespace Go.Proofs
open Go Go.Sh
set_option linter.unusedVariables false
set_option maxRecDepth 100000
theorem runM_none {m : WM} {s : Bs} (hm : m.mks = []) : runM m s = if isN (curM m.op) s = true then (closeW m ((m.op.length : Int) - 1), true) else (m, false) := by
  have hf : ∀ id, findP m.mks id < 0 := fun id => by
    rw [hm]
    unfold findP
    split
    · decide
    · exact (by decide : (-1 : Int) < 0)
  have hl : lastP m.mks s < 0 := by rw [hm]; exact (by decide : (-1 : Int) < 0)
  unfold runM
  by_cases h : isN (curM m.op) s = true
  · rw [if_pos ⟨h, hf _⟩, if_pos h]
  · rw [if_neg (fun h' => h h'.1), if_neg h]
    unfold roundsM
    rw [if_pos hl]
theorem rngM3 {x : Int} (h : Rng .u8 x) : Rng .u8 (Int.tmod x 3) := by
  obtain ⟨h1, h2⟩ := h
  have h3 : (0 : Int) ≤ x := h1
  rw [Int.tmod_eq_emod_of_nonneg h3]
  exact ⟨by show (0 : Int) ≤ _; omega, by show _ ≤ (255 : Int); omega⟩
section
variable {A : Nat → Prop} {h : H} {K : Value → H → Prop} {col : Col} {b : Option Addr} {n c : Nat} {l : List OpA} {s : Bs}
theorem lawNone_calls (ml : ML h) (r : Row elOpA A h b n c l) (hk : ∀ h', KB h h' → K (.bool true) h') : HCalls Try.prog 3 ⟨[.slice b n c, S s]⟩ h K := by
  have kn : ∀ h1, KB h h1 → HCalls Try.prog 5 ⟨[]⟩ h1 fun v h69 => vBool v fun b70 => cond b70 (K (.bool true) h69) (K (.bool false) h69) := fun h1 k1 => known_calls (ml.kb k1) fun h2 k2 => vBool_mk (condT (hk h2 (k1.trans k2)))
  refine Sx.l14_AdoptNone.ok _ _ _ _ _ _ (heavyA_calls r fun h1 v k1 hv => vBool_mk (condB (fun e => ?_) fun e => ?_))
  · exact kn h1 k1
  have lg := hv e
  refine spl (fun hs => kn h1 k1) fun hs => ?_
  refine known_calls (ml.kb k1) fun h2 k2 => vBool_mk (condT ?_)
  have k02 := k1.trans k2
  refine placeNew_calls (col := fun _ => none) (fun _ _ => rfl) fun w h3 c3 p3 E3 => vPtrMk ?_
  have k03 := k02.trans E3.kb0
  have L3 : Lib0 h3 c3 := Lib0.ext ⟨ml.kb k02, rfl⟩ E3
  have hlen := r.len
  have hl8 := lg.1
  -- behind the calls
  have fin : ∀ h4 c4 m u, PW h4 c4 w m → ExtP PS h3 c3 h4 c4 → AI m u 0 0 → u ≤ 1000 → m.mks = [] → Sx.l14_AdoptNone.n5 s (some w) (fun y4 h => K (.bool y4) h) (fun y4 h => K (.bool y4) h) h4 := fun h4 c4 m u p4 E4 A4 hu hm => by
    have hlo := A4.D.lo
    have hne := A4.D.ne
    obtain ⟨t, ads, T, W⟩ := p4.ex
    obtain ⟨ob, oc, mb, mn, mc, v, o, om⟩ := W.ex
    refine vSomeMk ⟨_, _, _, v.cell 1 rfl, current_calls W A4.D.ne (by omega) fun h5 k5 => agOpen (x := curM m.op) (newx_var fun a8 h6 v6 k6 e6 s6 => stL_var0 v6 (by show 4 ≤ 4; omega) fun h7 v7 k7 s7 => ?_)⟩
    have k47 : KB h4 h7 := k5.trans (KB.step k6 k7 (by omega))
    have v7 : Var h7 a8 39 (cellsO (curM m.op)) := v7
    obtain ⟨D, hD⟩ := A4.D.G.deep
    have hd := hD D (Nat.le_refl _) 0
    refine vSomeMk ⟨_, (v.kb k47).cell 0 rfl, whole_calls A4.D.G D 0 (T.kb k47) hd fun h8 b8 n8 x8 k8 o8 => vSliceMk ?_⟩
    have k48 := k47.trans k8
    have p8 := p4.kb k48
    have r8 : Row (elNode D) (Free c4 h8) h8 b8 n8 x8 (wholeL D m.ns 0) := o8.row.keep (Keep.refl _ _) fun k hk _ => ⟨p4.fresh k (by have := k47.1; omega), hk.2⟩
    have v8 := v7.kb k8
    have ca8 : c4 a8.block = none := p4.fresh _ (by have := k5.1; omega)
    have L8 : Lib0 h8 c4 := (L3.ext E4).ext (.kb (S := PS) k48)
    refine run_calls (nm := s) L8 p8 A4 (by omega) (by decide) fun h9 c9 p9 E9 => vBool_mk ?_
    have r9 := E9.row r8
    have v9 := v8.keep E9.keepF ⟨ca8, v8.lt⟩
    have k09 : KB h h9 := k02.trans ((E3.pa.trans (E4.pa.trans ((ExtP.kb k48).trans E9))).kb0)
    have rest : ∀ (m' : WM) (is : Bool) (N : Nat), PW h9 c9 w m' → m'.ns = m.ns → m'.mks = [] → m'.op.length = N → GoodT m'.ns → Sx.l14_AdoptNone.n12 (some w) b8 n8 x8 is is (N : Int) (fun y4 h => K (.bool y4) h) (fun y4 h => K (.bool y4) h) h9 := fun m' is N p9 hns hmk hN hG => by
      obtain ⟨t9, ads9, T9, W9⟩ := p9.ex
      obtain ⟨ob9, oc9, mb9, mn9, mc9, vw, o9, om9⟩ := W9.ex
      have hm0 : mn9 = 0 := by have := om9.len; rw [hmk] at this; exact this.symm
      have last : Spl ((m'.op.length : Int) = (N : Int)) (vSome (some w) fun a3 => ∃ p4, cell h9 (a3.add 0) = some (.pointer p4) ∧ (HCalls Try.prog 9 ⟨[(.pointer p4), (.int .i64 (0 : Int))]⟩ h9 fun v5 h6 => vSlice v5 fun s7b s7n s7c => HCalls Try.prog 11 ⟨[(.slice s7b s7n s7c), (.slice b8 n8 x8)]⟩ h6 fun v8 h9 => vBool v8 fun b10 => cond b10 (vSome (some w) fun a11 => ∃ s12b s12n s12c, cell h9 (a11.add 2) = some (.slice s12b s12n s12c) ∧ (Spl ((s12n : Int) = (0 : Int)) (K (.bool true) h9) (K (.bool false) h9))) (K (.bool false) h9))) (K (.bool false) h9) := by
        refine splT (by rw [hN]) (vSomeMk ⟨_, vw.cell 0 rfl, whole_calls hG D 0 T9 (by rw [hns]; exact hd) fun h10 b10 n10 x10 k10 o10 => vSliceMk ?_⟩)
        rw [hns] at o10
        refine sameNodes_calls D o10.row (r9.kb k10) fun h11 k11 => vBool_mk ?_
        rw [sameN_true rfl]
        exact condT (vSomeMk ⟨_, _, _, (vw.kb (k10.trans k11)).cell 2 rfl, splT (by omega) (hk h11 (k09.trans (k10.trans k11)))⟩)
      cases is with
      | true => exact condT (condT (vSomeMk ⟨_, _, _, vw.cell 1 rfl, last⟩))
      | false => exact condF (condF (vSomeMk ⟨_, _, _, vw.cell 1 rfl, last⟩))
    have A9 := A4.run s
    rw [runM_none hm] at p9 A9 ⊢
    by_cases hi : isN (curM m.op) s = true
    · rw [if_pos hi] at p9 A9 ⊢
      have hi2 : (curM m.op).2.1 = 0 ∧ (curM m.op).2.2.1 = s := by unfold isN at hi; simpa only [Bool.and_eq_true, decide_eq_true_eq] using hi
      refine condT ⟨_, v9.cell 1 rfl, splT hi2.1 ⟨_, v9.cell 2 rfl, splT hi2.2 (condT ⟨rng64 (by omega) (by omega), ?_⟩)⟩⟩
      have e1 : (if (1 : Int) > ((m.op.length : Int) - (1 : Int)) then (1 : Int) else ((m.op.length : Int) - (1 : Int))) = ((max (m.op.length - 1) 1 : Nat) : Int) := by split <;> omega
      rw [e1]
      refine rest _ true _ p9 rfl hm ?_ A9.D.G
      show (closeO m.op ((m.op.length : Int) - 1)).length = _
      unfold closeO
      split
      · rw [List.length_take]; omega
      · omega
    · rw [if_neg hi] at p9 A9 ⊢
      have fin2 : Sx.l14_AdoptNone.n10 (some w) (m.op.length : Int) b8 n8 x8 false false (fun y4 h => K (.bool y4) h) (fun y4 h => K (.bool y4) h) h9 := condF (rest m false m.op.length p9 rfl hm rfl A9.D.G)
      refine condF ⟨_, v9.cell 1 rfl, spl (fun e1 => ⟨_, v9.cell 2 rfl, spl (fun e2 => ?_) fun e2 => fin2⟩) fun e1 => fin2⟩
      exact absurd (by unfold isN; rw [decide_eq_true e1, decide_eq_true e2]; rfl) hi
  refine ⟨n + 1, ?_⟩
  have key : ∀ N i h4 c4 m, i + N = n → PW h4 c4 w m → ExtP PS h3 c3 h4 c4 → AI m (i + 1) 0 0 → m.mks = [] →
      Sx.l14_AdoptNone.n15_L (fun z1 z5 h => Sx.l14_AdoptNone.n5 z1 z5 (fun y4 h => K (.bool y4) h) (fun y4 h => K (.bool y4) h) h) (fun z1 z5 h => Sx.l14_AdoptNone.n5 z1 z5 (fun y4 h => K (.bool y4) h) (fun y4 h => K (.bool y4) h) h) (fun y4 h => K (.bool y4) h) (N + 1) b n c s (some w) (i : Int) h4 := by
    intro N
    induction N with
    | zero =>
      intro i h4 c4 m hi p4 E4 A4 hm
      unfold Sx.l14_AdoptNone.n15_L LP Sx.l14_AdoptNone.n15_B
      exact splF (by omega) (fin h4 c4 m (i + 1) p4 E4 A4 (by omega) hm)
    | succ N ih =>
      intro i h4 c4 m hi p4 E4 A4 hm
      have hil : i < l.length := by omega
      have k04 : KB h h4 := k02.trans ((E3.trans E4).kb0)
      unfold Sx.l14_AdoptNone.n15_L LP Sx.l14_AdoptNone.n15_B
      refine splT (by omega) ((r.kb k04).idxN hil rfl fun a hA => ?_)
      obtain ⟨ab, an, ac, C⟩ := opAt hA
      refine ⟨_, C.c1, by decide, (r.kb k04).idxN hil rfl fun a2 hA2 => ?_⟩
      obtain ⟨ab, an, ac, C⟩ := opAt hA2
      have hw := lg.op (List.getElem_mem hil)
      have hlo := A4.D.lo
      have hln := A4.D.ln
      refine ⟨_, C.c2, ?_⟩
      have hr1 := C.r1
      refine insert_calls (L3.ext E4) p4 A4.D.G A4.D.ne (by omega) (by omega) row_nilF (fun _ => rfl) (by decide) attrsW_nil (rngM3 hr1) ⟨by decide, by decide⟩ (by omega) fun h5 c5 p5 E5 => vIntMk ⟨rng64 (by omega) (by omega), ?_⟩
      exact ih (i + 1) h5 c5 _ (by omega) p5 (E4.trans E5) (A4.insert _ hw.1 []) hm
  exact key n 0 h3 c3 wm0 (by omega) p3 (.refl _ _ _) AI.zero rfl
end
end Go.Proofs
