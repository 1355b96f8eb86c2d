/- dom: arguments that are nodes: what is read of them. No condition. dom: arguments that hold nodes. No condition. -/
import Derived.Test.YtgkaebhnamcfkaaDoL
import Derived.Test.YtgkaebhnamcfkaaHmF
namespace Go.Proofs
open Go Go.Sh Go.ChangeShapes Go.WideShapes Go.Deep
set_option linter.unusedVariables false
set_option maxRecDepth 100000
/-- cells of a type are read so, by no more than so many steps -/
def ReadsN (N : Nat) (P : Program) {α : Type} (E : El α) (t : TypeId) : Prop :=
  ∀ {H : Type} {enc : TypeId × Value → H} {w : World} {base fuel : Nat} {spare : Nat → Bool} {held : Bool} {cs : List Value} {x : DataW H × List MemPlace},
    fuel ≤ N → DataW.trod enc P w base spare held fuel t cs = some x → (∀ n ∈ x.1.weights P t, n ≤ reachBytes) → ∃ a, E.R (Bel w.heap.size) w.heap a cs
def TrodLn {H : Type} (enc : TypeId × Value → H) (P : Program) (w : World) (base : Nat) (spare : Nat → Bool) (held : Bool) (n : Nat) : List TypeId → List Value → List (DataW H × List MemPlace) → Prop
  | [], cs, ys => cs = [] ∧ ys = []
  | t :: ts, cs, ys => ∃ c1 c2 y ys', cs = c1 ++ c2 ∧ ys = y :: ys' ∧ DataW.trod enc P w base spare held n t c1 = some y ∧ TrodLn enc P w base spare held n ts c2 ys'
section
variable {P : Program} {α : Type}
theorem trodLn_of {H : Type} {enc : TypeId × Value → H} {w : World} {base : Nat} {spare : Nat → Bool} {held : Bool} {n : Nat} : ∀ {fl : List Field} {i : Nat} {cs : List Value} {ys : List (DataW H × List MemPlace)},
    offsB P fl i = true → cs.length = ((fl.map (·.type)).map P.cellsOf).foldr (· + ·) 0 → ys.length = fl.length →
    (∀ (j : Nat) (f : Field), fl[j]? = some f → DataW.trod enc P w base spare held n f.type ((cs.drop (f.offset - i)).take (P.cellsOf f.type)) = ys[j]?) → TrodLn enc P w base spare held n (fl.map (·.type)) cs ys
  | [], i, cs, ys, _, hc, hy, _ => ⟨List.eq_nil_of_length_eq_zero (by simpa using hc), List.eq_nil_of_length_eq_zero (by simpa using hy)⟩
  | f :: fl, i, cs, ys, ho, hc, hy, hall => by
    simp only [offsB, Bool.and_eq_true] at ho
    have e0 := Nat.eq_of_beq_eq_true ho.1
    cases ys with
    | nil => simp at hy
    | cons y ys =>
      have h0 := hall 0 f rfl
      rw [e0, Nat.sub_self, List.drop_zero] at h0
      refine ⟨cs.take (P.cellsOf f.type), cs.drop (P.cellsOf f.type), y, ys, (List.take_append_drop _ _).symm, rfl, h0, trodLn_of (i := i + P.cellsOf f.type) (n := n) ho.2 (by simp only [List.length_drop, hc, List.map_cons, List.foldr_cons]; omega) (by simpa using hy) fun j g hg => ?_⟩
      have := hall (j + 1) g (by simpa using hg)
      rw [List.drop_drop]
      have hoff : ∀ {l : List Field} {i j : Nat} {g : Field}, offsB P l i = true → l[j]? = some g → i ≤ g.offset := by
        intro l
        induction l with
        | nil => intro i j g _ hg; simp at hg
        | cons f l ih =>
          intro i j g ho hg
          simp only [offsB, Bool.and_eq_true] at ho
          cases j with
          | zero => simp at hg; subst hg; exact Nat.le_of_eq (Nat.eq_of_beq_eq_true ho.1).symm
          | succ j => have := ih ho.2 (by simpa using hg); omega
      have hge := hoff ho.2 hg
      rw [show P.cellsOf f.type + (g.offset - (i + P.cellsOf f.type)) = g.offset - i by omega]
      simpa using this
theorem readsSlN {E : El α} {t e : TypeId} {by' N : Nat} (hb : sliceB P t e E.sz by' = true) (hr : ReadsN N P E e) : ReadsN (N + 1) P (elSl E) t := by
  intro H enc w base fuel spare held cs x hfu h hw
  unfold sliceB at hb
  split at hb
  · rename_i e' ht
    simp only [Bool.and_eq_true] at hb
    obtain ⟨h1, h2, h3⟩ := hb
    have h1 := Nat.eq_of_beq_eq_true h1
    have hC := Nat.eq_of_beq_eq_true h2
    subst h1
    rcases DataW.trod_slice ht h with ⟨rfl, rfl⟩ | ⟨a, len, cap, elems, rest, n, hfn, rfl, rfl, hb, hl, hm, hlen, hel, hsp, hns⟩
    · exact ⟨[], none, 0, 0, rfl, Row.nil _ _, fun _ => rfl⟩
    · simp only [DataW.weights, ht, List.mem_cons, List.mem_append] at hw
      have each : ∀ i, i < len → ∃ x : α, ∃ vs, E.R (Bel w.heap.size) w.heap x vs ∧ ∀ (j : Nat) u, vs[j]? = some u → cell w.heap (a.add (i * E.sz + j)) = some u := by
        intro i hil
        have hi := hel i hil
        rw [List.getElem?_eq_getElem (by omega)] at hi
        obtain ⟨cs', hc, ht'⟩ := Option.bind_eq_some_iff.1 hi
        rw [hC] at hc
        obtain ⟨_, hcl, hat⟩ := World.cells?_some hc
        have hmem : (elems[i]'(by omega)).1 ∈ elems.map (·.1) := List.mem_map.2 ⟨_, List.getElem_mem (by omega), rfl⟩
        obtain ⟨x, hx⟩ := hr (by omega) ht' fun n hn => hw n (.inr (.inl (weightsAll_mem hmem n hn)))
        refine ⟨x, cs', hx, fun j u hu => ?_⟩
        have hj : j < cs'.length := (List.getElem?_eq_some_iff.1 hu).1
        have := hat j (by omega)
        rw [cell_eq, hu, Go.Sh.add_add] at this
        exact this
      have list : ∀ k, k ≤ len → ∃ l : List α, l.length = k ∧ ∀ i x, l[i]? = some x → ∃ vs, E.R (Bel w.heap.size) w.heap x vs ∧ ∀ (j : Nat) u, vs[j]? = some u → cell w.heap (a.add (i * E.sz + j)) = some u := by
        intro k
        induction k with
        | zero => exact fun _ => ⟨[], rfl, fun i x hx => by simp at hx⟩
        | succ k ih =>
          intro hk
          obtain ⟨l, h1, h3⟩ := ih (by omega)
          obtain ⟨x, hx⟩ := each k (by omega)
          refine ⟨l ++ [x], by simp [h1], fun i y hy => ?_⟩
          by_cases hi : i < l.length
          · rw [List.getElem?_append_left hi] at hy; exact h3 i y hy
          · rw [List.getElem?_append_right (by omega)] at hy
            cases hd : i - l.length with
            | zero =>
              rw [hd] at hy; simp at hy; subst hy
              have : i = k := by omega
              subst this; exact hx
            | succ d => rw [hd] at hy; simp at hy
      obtain ⟨l, h1, h3⟩ := list len (Nat.le_refl _)
      refine ⟨l, some a, len, cap, rfl, ⟨h1, hl, hm, fun i x hx => ?_⟩, fun e => by cases e⟩
      obtain ⟨vs, h4, h5⟩ := h3 i x hx
      have hp := E.pos
      have hvl := E.len _ _ _ _ h4
      refine ⟨a, rfl, ?_, vs, h4, fun j u hu => by rw [Go.Sh.add_add]; exact h5 j u hu⟩
      have := cell_lt (h5 0 _ (List.getElem?_eq_getElem (by omega)))
      rw [add_block] at this ⊢
      exact this
  · cases hb
theorem ReadsN.le {E : El α} {t : TypeId} {N M : Nat} (h : ReadsN N P E t) (hm : M ≤ N) : ReadsN M P E t := fun hf ht hw => h (Nat.le_trans hf hm) ht hw
end
theorem readsAttr : Reads Try.prog elAttr (fun x => x.1.length ≤ reachBytes ∧ x.2.length ≤ reachBytes) 59 := readsStruct (ts := [9, 9]) (by kernel_rfl) (readsF_cons (readsStr (by kernel_rfl)) (readsF_one (readsStr (by kernel_rfl))))
theorem readsAttrs : Reads Try.prog (elSl elAttr) (fun l => l.length * 32 ≤ reachBytes ∧ ∀ x ∈ l, x.1.length ≤ reachBytes ∧ x.2.length ≤ reachBytes) 28 := readsSl (e := 59) (by kernel_rfl) readsAttr
/-- a node is one, so deep as it is read -/
theorem readsNode : ∀ N, ReadsN N Try.prog (elNode N) 31 := by
  intro N
  induction N with
  | zero =>
    intro H enc w base fuel spare held cs x hfu h hw
    have : fuel = 0 := by omega
    subst this
    simp [DataW.trod] at h
  | succ N ih =>
    intro H enc w base fuel spare held cs x hfu h hw
    have hsb : structB Try.prog 31 6 [5, 5, 9, 28, 9, 29] = true := by kernel_rfl
    unfold structB at hsb
    split at hsb
    · rename_i fs hs
      simp only [Bool.and_eq_true, decide_eq_true_eq] at hsb
      obtain ⟨⟨⟨h1, h2⟩, h3⟩, h4⟩ := hsb
      obtain ⟨ys, n, hfn, rfl, hlen, hyl, hf⟩ := DataW.trod_struct hs h
      have hT : TrodLn enc Try.prog w base spare held n [5, 5, 9, 28, 9, 29] cs ys := by
        rw [← h2]
        exact trodLn_of (i := 0) (n := n) h1 (by rw [h2, hlen, Nat.eq_of_beq_eq_true h3, Nat.eq_of_beq_eq_true h4]) (by simpa using hyl) fun j f hj => by
          rw [Nat.sub_zero]; exact hf j f (by simpa using hj)
      simp only [DataW.weights, hs, h2] at hw
      obtain ⟨c1, d1, y1, z1, rfl, rfl, t1, c2, d2, y2, z2, rfl, rfl, t2, c3, d3, y3, z3, rfl, rfl, t3, c4, d4, y4, z4, rfl, rfl, t4, c5, d5, y5, z5, rfl, rfl, t5, c6, d6, y6, z6, rfl, rfl, t6, rfl, rfl⟩ := hT
      simp only [List.map_cons, DataW.weightsEach, List.mem_append] at hw
      obtain ⟨k, ⟨rfl, hk⟩, _⟩ := readsInt (k := .u8) (P := Try.prog) (t := 5) (by kernel_rfl) t1 fun n hn => hw n (.inl hn)
      obtain ⟨sp, ⟨rfl, hsp⟩, _⟩ := readsInt (k := .u8) (P := Try.prog) (t := 5) (by kernel_rfl) t2 fun n hn => hw n (.inr (.inl hn))
      obtain ⟨nm, ⟨rfl, hnm⟩, _⟩ := readsStr (P := Try.prog) (t := 9) (by kernel_rfl) t3 fun n hn => hw n (.inr (.inr (.inl hn)))
      obtain ⟨ats, ⟨ab, an, ac, rfl, ra, hz⟩, _⟩ := readsAttrs t4 fun n hn => hw n (.inr (.inr (.inr (.inl hn))))
      obtain ⟨tx, ⟨rfl, htx⟩, _⟩ := readsStr (P := Try.prog) (t := 9) (by kernel_rfl) t5 fun n hn => hw n (.inr (.inr (.inr (.inr (.inl hn)))))
      obtain ⟨ks, kb, kn, kc, rfl, rk, hz2⟩ := (readsSlN (by' := 88) (E := elNode N) (t := 29) (e := 31) (by kernel_rfl) ih) (by omega) t6 fun n hn => hw n (.inr (.inr (.inr (.inr (.inr (.inl hn))))))
      exact ⟨.mk k sp nm ats tx ks, nodeR_mk (x := .mk k sp nm ats tx ks) ra hz rk hz2 hk hsp hnm htx⟩
    · cases hsb
end Go.Proofs
namespace Go.Proofs
open Go Go.Sh Go.WideShapes
set_option linter.unusedVariables false
set_option maxRecDepth 100000
abbrev OpP := Int × NodeV × Int × Int × Int
def elOp (d : Nat) : El OpP := elPair (elInt .u8) (elPair (elNode d) (elPair (elInt .i64) (elPair (elInt .i64) (elInt .i64))))
theorem readsOp (N : Nat) : ReadsN (N + 1) Try.prog (elOp N) 33 := by
  intro H enc w base fuel spare held cs x hfu h hw
  have hsb : structB Try.prog 33 10 [5, 31, 3, 3, 3] = true := by kernel_rfl
  unfold structB at hsb
  split at hsb
  · rename_i fs hs
    simp only [Bool.and_eq_true, decide_eq_true_eq] at hsb
    obtain ⟨⟨⟨h1, h2⟩, h3⟩, h4⟩ := hsb
    obtain ⟨ys, n, hfn, rfl, hlen, hyl, hf⟩ := DataW.trod_struct hs h
    have hT : TrodLn enc Try.prog w base spare held n [5, 31, 3, 3, 3] cs ys := by
      rw [← h2]
      exact trodLn_of (i := 0) (n := n) h1 (by rw [h2, hlen, Nat.eq_of_beq_eq_true h3, Nat.eq_of_beq_eq_true h4]) (by simpa using hyl) fun j f hj => by
        rw [Nat.sub_zero]; exact hf j f (by simpa using hj)
    simp only [DataW.weights, hs, h2] at hw
    obtain ⟨c1, d1, y1, z1, rfl, rfl, t1, c2, d2, y2, z2, rfl, rfl, t2, c3, d3, y3, z3, rfl, rfl, t3, c4, d4, y4, z4, rfl, rfl, t4, c5, d5, y5, z5, rfl, rfl, t5, rfl, rfl⟩ := hT
    simp only [List.map_cons, DataW.weightsEach, List.mem_append] at hw
    obtain ⟨k, r1, _⟩ := readsInt (k := .u8) (P := Try.prog) (t := 5) (by kernel_rfl) t1 fun n hn => hw n (.inl hn)
    obtain ⟨nd, r2⟩ := readsNode N (by omega) t2 fun n hn => hw n (.inr (.inl hn))
    obtain ⟨i3, r3, _⟩ := readsInt (k := .i64) (P := Try.prog) (t := 3) (by kernel_rfl) t3 fun n hn => hw n (.inr (.inr (.inl hn)))
    obtain ⟨i4, r4, _⟩ := readsInt (k := .i64) (P := Try.prog) (t := 3) (by kernel_rfl) t4 fun n hn => hw n (.inr (.inr (.inr (.inl hn))))
    obtain ⟨i5, r5, _⟩ := readsInt (k := .i64) (P := Try.prog) (t := 3) (by kernel_rfl) t5 fun n hn => hw n (.inr (.inr (.inr (.inr (.inl hn)))))
    exact ⟨(k, nd, i3, i4, i5), c1, _, rfl, r1, c2, _, rfl, r2, c3, _, rfl, r3, c4, _, by rw [List.append_nil], r4, r5⟩
  · cases hsb
section
variable {P : Program} {H : Type} {enc : TypeId × Value → H} {w : World} {base b0 : Nat} {spare : Nat → Bool} {held : Bool} {r : Reach} {t : TypeId} {v : Value} {d : DataW H} {p : List MemPlace} {α : Type}
theorem argSlN {E : Nat → El α} {e : TypeId} (ht : P.underlying t = some (.slice e)) (hr : ∀ N, ∃ M, ReadsN N P (elSl (E M)) t) (hv : Value.okWide P w r b0 t v) (h : DataW.Trod enc P w base spare held t v d p) (hw : ∀ n ∈ d.weights P t, n ≤ reachBytes) :
    ∃ (M : Nat) (l : List α) (b : Option Addr) (n c : Nat), v = .slice b n c ∧ Row (E M) (Bel w.heap.size) w.heap b n c l ∧ (b = none → c = 0) := by
  obtain ⟨b, n, c, rfl⟩ := okWide_slice ht hv
  obtain ⟨fuel, hf⟩ := h
  obtain ⟨M, hr⟩ := hr fuel
  obtain ⟨l, b', n', c', e, hR, hz⟩ := hr (Nat.le_refl _) hf hw
  simp [Value.cells] at e
  obtain ⟨rfl, rfl, rfl⟩ := e
  exact ⟨M, l, b, n, c, rfl, hR, hz⟩
theorem argStructN {E : Nat → El α} {fs : Array Field} (ht : P.underlying t = some (.struct fs)) (hr : ∀ N, ∃ M, ReadsN N P (E M) t) (hv : Value.okWide P w r b0 t v) (h : DataW.Trod enc P w base spare held t v d p) (hw : ∀ n ∈ d.weights P t, n ≤ reachBytes) :
    ∃ (M : Nat) (x : α) (cs : List Value), v = .agg ⟨cs⟩ ∧ (E M).R (Bel w.heap.size) w.heap x cs := by
  obtain ⟨cs, rfl, _⟩ := okWide_struct ht hv
  obtain ⟨fuel, hf⟩ := h
  obtain ⟨M, hr⟩ := hr fuel
  obtain ⟨x, hR⟩ := hr (Nat.le_refl _) hf hw
  exact ⟨M, x, cs.toList, rfl, hR⟩
end
theorem readsNs (N : Nat) : ∃ M, ReadsN N Try.prog (elSl (elNode M)) 29 := ⟨N, ReadsN.le (N := N + 1) (readsSlN (by' := 88) (e := 31) (by kernel_rfl) (readsNode N)) (by omega)⟩
theorem readsOps (N : Nat) : ∃ M, ReadsN N Try.prog (elSl (elOp M)) 22 := ⟨N, ReadsN.le (N := N + 1 + 1) (readsSlN (by' := 120) (e := 33) (by kernel_rfl) (readsOp N)) (by omega)⟩
theorem readsN1 (N : Nat) : ∃ M, ReadsN N Try.prog (elNode M) 31 := ⟨N, readsNode N⟩
end Go.Proofs
