import Derived.Test.YtakddeombdgdgaaGreatHmI
import Derived.Deep.Slices
import Derived.Deep.Fields
import Derived.ChangeSame
import Derived.SizedLaws
import Derived.Carry
import Derived.OpenShut
import Derived.ProofKit
import Derived.Test.YtakddeombdgdgaaGreatAbK
namespace Go.Sh
open Go Go.ChangeShapes Go.WideShapes Go.Deep
set_option linter.unusedVariables false
variable {P : Program} {α β : Type}
def Reads (P : Program) (E : El α) (S : α -> Prop) (t : TypeId) : Prop :=
  ∀ {H : Type} {enc : TypeId × Value -> H} {w : World} {base fuel : Nat} {spare : Nat -> Bool} {held : Bool} {cs : List Value} {x : DataW H × List MemPlace},
    DataW.trod enc P w base spare held fuel t cs = some x -> (∀ n ∈ x.1.weights P t, n <= reachBytes) -> ∃ a, E.R (Bel w.heap.size) w.heap a cs /\ S a
def TrodL {H : Type} (enc : TypeId × Value -> H) (P : Program) (w : World) (base : Nat) (spare : Nat -> Bool) (held : Bool) : List TypeId -> List Value -> List (DataW H × List MemPlace) -> Prop
  | [], cs, ys => cs = [] /\ ys = []
  | t :: ts, cs, ys => ∃ c1 c2 y ys', cs = c1 ++ c2 /\ ys = y :: ys' /\ (∃ fuel, DataW.trod enc P w base spare held fuel t c1 = some y) /\ TrodL enc P w base spare held ts c2 ys'
def ReadsF (P : Program) (E : El α) (S : α -> Prop) (ts : List TypeId) : Prop :=
  ∀ {H : Type} {enc : TypeId × Value -> H} {w : World} {base : Nat} {spare : Nat -> Bool} {held : Bool} {vs : List Value} {ys : List (DataW H × List MemPlace)},
    TrodL enc P w base spare held ts vs ys -> (∀ n ∈ DataW.weightsEach P ts (ys.map (·.1)), n <= reachBytes) -> ∃ a, E.R (Bel w.heap.size) w.heap a vs /\ S a
theorem readsInt {k : IntKind} {t : TypeId} (ht : P.underlying t = some (.int k)) : Reads P (elInt k) (fun _ => True) t := by
  intro H enc w base fuel spare held cs x h _
  obtain ⟨n, e, _, hw⟩ := DataW.trod_int ht h
  cases e
  refine ⟨n, ⟨rfl, ?_⟩, trivial⟩
  simp [Lit.wf] at hw
  exact hw
theorem readsStr {t : TypeId} (ht : P.underlying t = some .string) : Reads P elStr (fun s => s.length <= reachBytes) t := by
  intro H enc w base fuel spare held cs x h hz
  obtain ⟨s, e, hx, hw⟩ := DataW.trod_string ht h
  cases e
  subst hx
  exact ⟨s.data.toList, ⟨rfl, by simpa using hw⟩, hz _ (by simp [DataW.weights])⟩
theorem readsF_one {E : El α} {S : α -> Prop} {t : TypeId} (h : Reads P E S t) : ReadsF P E S [t] := by
  intro H enc w base spare held vs ys ht hw
  obtain ⟨c1, c2, y, ys', rfl, rfl, ⟨fuel, hf⟩, rfl, rfl⟩ := ht
  rw [List.append_nil]
  exact h hf fun n hn => hw n (by simp [DataW.weightsEach, hn])
theorem readsF_cons {E : El α} {F : El β} {S : α -> Prop} {T : β -> Prop} {t : TypeId} {ts : List TypeId} (h : Reads P E S t) (k : ReadsF P F T ts) : ReadsF P (elPair E F) (fun x => S x.1 /\ T x.2) (t :: ts) := by
  intro H enc w base spare held vs ys ht hw
  obtain ⟨c1, c2, y, ys', rfl, rfl, ⟨fuel, hf⟩, hr⟩ := ht
  obtain ⟨a, h1, h2⟩ := h hf fun n hn => hw n (by simp [DataW.weightsEach, hn])
  obtain ⟨b, h3, h4⟩ := k hr fun n hn => hw n (by simp only [List.map_cons, DataW.weightsEach, List.mem_append]; exact .inr hn)
  exact ⟨(a, b), ⟨c1, c2, rfl, h1, h3⟩, h2, h4⟩
def offsB (P : Program) : List Field -> Nat -> Bool
  | [], _ => true
  | f :: fs, i => Nat.beq f.offset i && offsB P fs (i + P.cellsOf f.type)
def structB (P : Program) (t n : Nat) (ts : List TypeId) : Bool :=
  match P.underlying t with
  | some (.struct fs) => offsB P fs.toList 0 && decide (fs.toList.map (·.type) = ts) && Nat.beq (P.cellsOf t) n && Nat.beq ((ts.map P.cellsOf).foldr (· + ·) 0) n
  | _ => false
theorem trodL_of {H : Type} {enc : TypeId × Value -> H} {w : World} {base : Nat} {spare : Nat -> Bool} {held : Bool} {n : Nat} : ∀ {fl : List Field} {i : Nat} {cs : List Value} {ys : List (DataW H × List MemPlace)},
    offsB P fl i = true -> cs.length = ((fl.map (·.type)).map P.cellsOf).foldr (· + ·) 0 -> ys.length = fl.length ->
    (∀ (j : Nat) (f : Field), fl[j]? = some f -> DataW.trod enc P w base spare held n f.type ((cs.drop (f.offset - i)).take (P.cellsOf f.type)) = ys[j]?) -> TrodL enc P w base spare held (fl.map (·.type)) cs ys
  | [], i, cs, ys, _, hc, hy, _ => ⟨List.eq_nil_of_length_eq_zero (by simpa using hc), List.eq_nil_of_length_eq_zero (by simpa using hy)⟩
  | f :: fl, i, cs, ys, ho, hc, hy, hall => by
    simp only [offsB, Bool.and_eq_true] at ho
    have e0 := Nat.eq_of_beq_eq_true ho.1
    cases ys with
    | nil => simp at hy
    | cons y ys =>
      have h0 := hall 0 f rfl
      rw [e0, Nat.sub_self, List.drop_zero] at h0
      refine ⟨cs.take (P.cellsOf f.type), cs.drop (P.cellsOf f.type), y, ys, (List.take_append_drop _ _).symm, rfl, ⟨n, h0⟩, trodL_of (i := i + P.cellsOf f.type) (n := n) ho.2 (by simp only [List.length_drop, hc, List.map_cons, List.foldr_cons]; omega) (by simpa using hy) fun j g hg => ?_⟩
      have := hall (j + 1) g (by simpa using hg)
      rw [List.drop_drop]
      have hoff : ∀ {l : List Field} {i j : Nat} {g : Field}, offsB P l i = true -> l[j]? = some g -> i <= g.offset := by
        intro l
        induction l with
        | nil => intro i j g _ hg; simp at hg
        | cons f l ih =>
          intro i j g ho hg
          simp only [offsB, Bool.and_eq_true] at ho
          cases j with
          | zero => simp at hg; subst hg; exact Nat.le_of_eq (Nat.eq_of_beq_eq_true ho.1).symm
          | succ j => have := ih ho.2 (by simpa using hg); omega
      have hge := hoff ho.2 hg
      rw [show P.cellsOf f.type + (g.offset - (i + P.cellsOf f.type)) = g.offset - i by omega]
      simpa using this
theorem readsStruct {E : El α} {S : α -> Prop} {t : TypeId} {ts : List TypeId} (hb : structB P t E.sz ts = true) (hr : ReadsF P E S ts) : Reads P E S t := by
  intro H enc w base fuel spare held cs x h hw
  unfold structB at hb
  split at hb
  · rename_i fs hs
    simp only [Bool.and_eq_true, decide_eq_true_eq] at hb
    obtain ⟨⟨⟨h1, h2⟩, h3⟩, h4⟩ := hb
    obtain ⟨ys, n, _, rfl, hlen, hyl, hf⟩ := DataW.trod_struct hs h
    refine hr (enc := enc) (base := base) (spare := spare) (held := held) (ys := ys) ?_ fun n hn => hw n ?_
    · rw [<- h2]
      exact trodL_of (i := 0) (n := n) h1 (by rw [h2, hlen, Nat.eq_of_beq_eq_true h3, Nat.eq_of_beq_eq_true h4]) (by simpa using hyl) fun j f hj => by
        rw [Nat.sub_zero]; exact hf j f (by simpa using hj)
    · simp only [DataW.weights, hs, h2]
      exact hn
  · cases hb
theorem weightsAll_mem {H : Type} {e : TypeId} {d : DataW H} : ∀ {l : List (DataW H)}, d ∈ l -> ∀ n ∈ d.weights P e, n ∈ DataW.weightsAll P e l
  | x :: l, hd, n, hn => by
    simp only [DataW.weightsAll, List.mem_append]
    rcases List.mem_cons.1 hd with rfl | h
    · exact .inl hn
    · exact .inr (weightsAll_mem h n hn)
def sliceB (P : Program) (t e n by' : Nat) : Bool :=
  match P.underlying t with
  | some (.slice e') => Nat.beq e' e && (Nat.beq (P.cellsOf e) n && Nat.beq (P.bytesOf e) by')
  | _ => false
theorem readsSl {E : El α} {S : α -> Prop} {t e : TypeId} {by' : Nat} (hb : sliceB P t e E.sz by' = true) (hr : Reads P E S e) :
    Reads P (elSl E) (fun l => l.length * by' <= reachBytes /\ ∀ x ∈ l, S x) t := by
  intro H enc w base fuel spare held cs x h hw
  unfold sliceB at hb
  split at hb
  · rename_i e' ht
    simp only [Bool.and_eq_true] at hb
    obtain ⟨h1, h2, h3⟩ := hb
    have h1 := Nat.eq_of_beq_eq_true h1
    have hC := Nat.eq_of_beq_eq_true h2
    have hby := Nat.eq_of_beq_eq_true h3
    subst h1
    rcases open_slice ht h with ⟨rfl, rfl⟩ | ⟨a, len, cap, m, n, D, Pl, rfl, hb, hl, hm, hmm, rfl, hi⟩
    · exact ⟨[], ⟨none, 0, 0, rfl, Row.nil _ _, fun _ => rfl⟩, by simp, fun x hx => by cases hx⟩
    · have hlm : len <= m := by rw [hmm]; split <;> omega
      simp only [DataW.weights, ht, List.mem_cons, List.mem_append] at hw
      have hlen : len * by' <= reachBytes := by
        have := hw _ (.inl rfl)
        simp only [List.length_map, List.length_range, hby] at this
        have h2 : len * by' <= (len + (m - len)) * by' := Nat.mul_le_mul_right _ (by omega)
        omega
      have each : ∀ i, i < len -> ∃ x : α, S x /\ ∃ vs, E.R (Bel w.heap.size) w.heap x vs /\ ∀ (j : Nat) u, vs[j]? = some u -> cell w.heap (a.add (i * E.sz + j)) = some u := by
        intro i hil
        obtain ⟨cs', hc, ht'⟩ := hi i (by omega)
        rw [hC] at hc
        obtain ⟨_, hcl, hat⟩ := World.cells?_some hc
        have hmem : D i ∈ (List.range len).map D := List.mem_map.2 ⟨i, List.mem_range.2 hil, rfl⟩
        obtain ⟨x, hx, hs⟩ := hr ht' fun n hn => hw n (.inr (.inl (weightsAll_mem hmem n hn)))
        refine ⟨x, hs, cs', hx, fun j u hu => ?_⟩
        have hj : j < cs'.length := (List.getElem?_eq_some_iff.1 hu).1
        have := hat j (by omega)
        rw [cell_eq, hu, Go.Sh.add_add] at this
        exact this
      have list : ∀ k, k <= len -> ∃ l : List α, l.length = k /\ (∀ x ∈ l, S x) /\ ∀ i x, l[i]? = some x -> ∃ vs, E.R (Bel w.heap.size) w.heap x vs /\ ∀ (j : Nat) u, vs[j]? = some u -> cell w.heap (a.add (i * E.sz + j)) = some u := by
        intro k
        induction k with
        | zero => exact fun _ => ⟨[], rfl, fun x hx => by (cases hx), fun i x hx => by simp at hx⟩
        | succ k ih =>
          intro hk
          obtain ⟨l, h1, h2, h3⟩ := ih (by omega)
          obtain ⟨x, hs, hx⟩ := each k (by omega)
          refine ⟨l ++ [x], by simp [h1], fun y hy => ?_, fun i y hy => ?_⟩
          · rcases List.mem_append.1 hy with hy | hy
            · exact h2 y hy
            · rw [List.mem_singleton] at hy; subst hy; exact hs
          · by_cases hi : i < l.length
            · rw [List.getElem?_append_left hi] at hy; exact h3 i y hy
            · rw [List.getElem?_append_right (by omega)] at hy
              cases hd : i - l.length with
              | zero =>
                rw [hd] at hy; simp at hy; subst hy
                have : i = k := by omega
                subst this; exact hx
              | succ d => rw [hd] at hy; simp at hy
      obtain ⟨l, h1, h2, h3⟩ := list len (Nat.le_refl _)
      refine ⟨l, ⟨some a, len, cap, rfl, ⟨h1, hl, hm, fun i x hx => ?_⟩, fun e => by cases e⟩, by rw [h1]; exact hlen, h2⟩
      obtain ⟨vs, h4, h5⟩ := h3 i x hx
      have hp := E.pos
      have hvl := E.len _ _ _ _ h4
      refine ⟨a, rfl, ?_, vs, h4, fun j u hu => by rw [Go.Sh.add_add]; exact h5 j u hu⟩
      have := cell_lt (h5 0 _ (List.getElem?_eq_getElem (by omega)))
      rw [add_block] at this ⊢
      exact this
  · cases hb
section
variable {H : Type} {enc : TypeId × Value -> H} {w : World} {base b0 : Nat} {spare : Nat -> Bool} {held : Bool} {r : Reach} {t : TypeId} {v : Value} {d : DataW H} {p : List MemPlace}
theorem argSl {E : El α} {S : List α -> Prop} {e : TypeId} (ht : P.underlying t = some (.slice e)) (hr : Reads P (elSl E) S t) (hv : Value.okWide P w r b0 t v) (h : DataW.Trod enc P w base spare held t v d p) (hw : ∀ n ∈ d.weights P t, n <= reachBytes) :
    ∃ (l : List α) (b : Option Addr) (n c : Nat), v = .slice b n c /\ Row E (Bel w.heap.size) w.heap b n c l /\ (b = none -> c = 0) /\ S l := by
  obtain ⟨b, n, c, rfl⟩ := okWide_slice ht hv
  obtain ⟨fuel, hf⟩ := h
  obtain ⟨l, ⟨b', n', c', e, hR, hz⟩, hs⟩ := hr hf hw
  simp [Value.cells] at e
  obtain ⟨rfl, rfl, rfl⟩ := e
  exact ⟨l, b, n, c, rfl, hR, hz, hs⟩
theorem Outer.below {W W' : World} (o : Outer W W') (k : KB W.heap W'.heap) : RowKit.Below W.heap.size W W' := ⟨o.os, o.tape, o.output, k.1, fun b hb => k.2 b hb⟩
def readB (P : Program) (ts : List TypeId) : Bool := ts.all fun t => P.readableRec t && decide (t < P.types.size)
theorem trodAll_below (hl : laidOutB P = true) {W W' : World} (hb : RowKit.Below W.heap.size W W') : ∀ {ts : List TypeId} {vs : List Value} {ds : List (DataW H)} {p : List MemPlace}, readB P ts = true ->
    DataW.TrodAll enc P W 0 (fun _ => true) true ts vs ds p -> (∀ x ∈ p, x.block < W.heap.size) -> DataW.TrodAll enc P W' 0 (fun b => decide (b < W.heap.size)) true ts vs ds p
  | [], [], [], _, _, h, _ => h
  | [], _ :: _, _, _, _, h, _ => h.elim
  | [], [], _ :: _, _, _, h, _ => h.elim
  | _ :: _, [], _, _, _, h, _ => h.elim
  | _ :: _, _ :: _, [], _, _, h, _ => h.elim
  | t :: ts, v :: vs, d :: ds, _, hr, ⟨p, q, h1, h2, rfl⟩, hlt => by
    simp only [readB, List.all_cons, Bool.and_eq_true, decide_eq_true_eq] at hr
    exact ⟨p, q, Go.RowKit.Below.trod hl hr.1.1 hr.1.2 h1 hb fun x hx => hlt x (List.mem_append_left _ hx), trodAll_below hl hb (by simpa [readB] using hr.2) h2 fun x hx => hlt x (List.mem_append_right _ hx), rfl⟩
end
end Go.Sh
namespace Go.Proofs
open Go Go.Sh
set_option linter.unusedVariables false
set_option maxRecDepth 100000
section
variable {A : Nat -> Prop} {h : H} {K : Value -> H -> Prop} {col : Col} {w r : Addr} {m : WM} {u v x : Nat} {b : Option Addr} {n c : Nat} {i : Nat}
theorem doesOneA {l : List OpA} (D : PD h col w r m) (H : AI m u v x) (M : MW m) (L : Lib0 h col) (R : Row elOpA (Free col h) h b n c l) (hi : i < l.length) (hL : LightA l) (hu : u <= 50000) (hv : v <= 500) (hx : x <= 500000) (Kn Ke1 : T5A) (Ke0 : T4A) (Kr : T0A)
    (after : ∀ h' col' m', PD h' col' w r m' -> AI m' (u + 32 + v) (v + 1) (x + 4000) -> MW m' -> ExtP AA h col h' col' -> Kn b n c (some w) (some r) (i : Int) h') :
    Sx.l14_AdoptDoes.n14 b n c (some w) (some r) (i : Int) Kn Ke1 Ke0 Kr h := by
  obtain ⟨b1, b2, b3⟩ := hL.op (List.getElem_mem hi)
  refine R.idxN hi rfl fun q hA => ?_
  obtain ⟨ab, an, ac, C⟩ := opAt hA
  refine ⟨_, C.c0, _, C.c1, _, C.c2, _, _, _, C.c3, newx_var fun a h1 v1 k1 ea s1 => stL_var0 v1 (by show 4 <= 4; omega) fun h2 v2 k2 s2 => ?_⟩
  have v2' : Var h2 a 31 (cellsA l[i] ab an ac) := v2
  refine ⟨_, v2'.cell 2 rfl, _, _, _, v2'.cell 3 rfl, newx_var fun a7 h3 v3 k3 e3 s3 => stL_var0 v3 (by show 5 <= 5; omega) fun h4 v4 k4 s4 => ?_⟩
  have k12 : KB h h2 := KB.step k1 k2 (by omega)
  have k24 : KB h2 h4 := KB.step k3 k4 (by omega)
  have k14 := k12.trans k24
  have va : Var h4 a 31 (cellsA l[i] ab an ac) := v2'.kb k24
  have v7 : Var h4 a7 33 (cellsK l[i] ab an ac) := v4
  have hz1 := k12.1
  have CQ : CallA h4 col w r m u v x l[i] a 31 ab an ac :=
    ⟨D.kb k14, H, M, L.kb k14, va, D.P.fresh _ (by omega), (ExtP.kb (S := fun _ => False) k14).row C.row, C.nil, C.r0, C.r1, b1, b2, fun y hy => (b3 y hy).2, by omega, by omega, by omega⟩
  have c7 : col a7.block = none := D.P.fresh _ (by omega)
  have see : ∀ h' col' m', PD h' col' w r m' -> AI m' (u + 32 + v) (v + 1) (x + 4000) -> MW m' -> ExtP AA h4 col h' col' -> Sx.l14_AdoptDoes.n17 b n c (some w) (some r) (i : Int) Kn Ke1 Ke0 Kr h' := fun h' col' m' D' H' M' E' =>
    alikeA_calls D' H'.D fun h3 k3 => vBool_mk (condT (after h3 col' m' (D'.kb k3) H' M' (((ExtP.kb k14).trans E').trans (.kb k3))))
  have ins : ∀ sp, Rng .u8 sp -> Sx.l14_AdoptDoes.n24 b n c (some w) (some r) (i : Int) a a7 sp (fun z0b z0n z0c z3 z4 z5 h => Sx.l14_AdoptDoes.n17 z0b z0n z0c z3 z4 z5 Kn Ke1 Ke0 Kr h) (fun z0b z0n z0c z3 z4 z5 h => Sx.l14_AdoptDoes.n17 z0b z0n z0c z3 z4 z5 Kn Ke1 Ke0 Kr h) Ke1 Ke0 Kr h4 := fun sp hsp =>
    doesInsA CQ (by omega) v7 c7 hsp _ _ _ _ _ fun h' col' m' D' H' M' E' => see h' col' m' D' (H'.mono (by omega) (Nat.le_refl _) (by omega)) M' E'
  have tr : Sx.l14_AdoptDoes.n21 b n c (some w) (some r) (i : Int) a a7 (Int.tmod l[i].1 10) true (fun z0b z0n z0c z3 z4 z5 h => Sx.l14_AdoptDoes.n17 z0b z0n z0c z3 z4 z5 Kn Ke1 Ke0 Kr h) (fun z0b z0n z0c z3 z4 z5 h => Sx.l14_AdoptDoes.n17 z0b z0n z0c z3 z4 z5 Kn Ke1 Ke0 Kr h) Ke1 Ke0 Kr h4 :=
    condT ⟨_, va.cell 0 rfl, by decide, spl (fun _ => ⟨_, va.cell 1 rfl, by decide, ins _ (rngA3 C.r1)⟩) fun _ => ins 0 ⟨by decide, by decide⟩⟩
  have fl : Sx.l14_AdoptDoes.n21 b n c (some w) (some r) (i : Int) a a7 (Int.tmod l[i].1 10) false (fun z0b z0n z0c z3 z4 z5 h => Sx.l14_AdoptDoes.n17 z0b z0n z0c z3 z4 z5 Kn Ke1 Ke0 Kr h) (fun z0b z0n z0c z3 z4 z5 h => Sx.l14_AdoptDoes.n17 z0b z0n z0c z3 z4 z5 Kn Ke1 Ke0 Kr h) Ke1 Ke0 Kr h4 :=
    condF (doesRestA CQ (by omega) _ _ _ _ _ _ see)
  exact ⟨_, va.cell 0 rfl, by decide, spl (fun _ => condT tr) fun _ => condF (spl (fun _ => tr) fun _ => spl (fun _ => tr) fun _ => spl (fun _ => tr) fun _ => spl (fun _ => tr) fun _ => fl)⟩
theorem lawAdopt_calls {l : List OpA} (ml : ML h) (R : Row elOpA A h b n c l) (hk : ∀ h', KB h h' -> K (.bool true) h') :
    HCalls Tryz.prog 3 ⟨[.slice b n c]⟩ h K := by
  have kn : ∀ h1, KB h h1 -> HCalls Tryz.prog 5 ⟨[]⟩ h1 fun v h69 => vBool v fun b70 => cond b70 (K (.bool true) h69) (K (.bool false) h69) := fun h1 k1 => known_calls (ml.kb k1) fun h2 k2 => vBool_mk (condT (hk h2 (k1.trans k2)))
  refine Sx.l14_AdoptDoes.ok _ _ _ _ _ (heavyA_calls R fun h1 v k1 hv => vBool_mk (condB (fun ev => kn h1 k1) fun ev => ?_))
  have hL := hv ev
  refine known_calls (ml.kb k1) fun h2 k2 => vBool_mk (condT ?_)
  have k12 := k1.trans k2
  have r2 : Row elOpA (Free (fun _ => none) h2) h2 b n c l := (R.kb k12).bel.keep (Keep.refl (fun _ => True) _ |>.less fun _ _ => trivial) fun k hk _ => ⟨rfl, hk⟩
  have L2 : Lib0 h2 (fun _ => none) := ⟨ml.kb k12, rfl⟩
  refine placeNew_calls (col := fun _ => none) (fun _ _ => rfl) fun w h3 c3 p3 E3 => vPtrMk ?_
  refine refNew_calls p3.fresh fun r h4 c4 p4 E4 => vPtrMk ?_
  have D4 : PD h4 c4 w r wm0 := ⟨p3.otherR E4 p4.fresh, p4⟩
  have E24 : ExtP AS h2 (fun _ => none) h4 c4 := (E3.mono fun s hs => .inl hs).trans (E4.mono fun s hs => .inr hs)
  have hl := R.len
  have hln := hL.1
  refine ⟨n + 1, ?_⟩
  have key : ∀ N i (m : WM) h5 c5, i + N = n -> PD h5 c5 w r m -> AI m (1 + i * 112) i (i * 4000) -> MW m -> ExtP AA h2 (fun _ => none) h5 c5 ->
      Sx.l14_AdoptDoes.n9_L (fun h => Sx.l14_AdoptDoes.n6 (fun y2 h => K (.bool y2) h) (fun y2 h => K (.bool y2) h) h) (fun h => Sx.l14_AdoptDoes.n6 (fun y2 h => K (.bool y2) h) (fun y2 h => K (.bool y2) h) h) (fun y2 h => K (.bool y2) h) (N + 1) b n c (some w) (some r) (i : Int) h5 := by
    intro N
    induction N with
    | zero =>
      intro i m h5 c5 hi D5 H5 M5 E5
      unfold Sx.l14_AdoptDoes.n9_L LP Sx.l14_AdoptDoes.n9_B
      exact splF (by omega) (hk h5 (k12.trans E5.kb0))
    | succ N ih =>
      intro i m h5 c5 hi D5 H5 M5 E5
      unfold Sx.l14_AdoptDoes.n9_L LP Sx.l14_AdoptDoes.n9_B
      have hil : i < l.length := by omega
      refine splT (by omega) ?_
      refine doesOneA D5 H5 M5 (L2.ext E5) (E5.row r2) hil hL (by omega) (by omega) (by omega) _ _ _ _ fun h6 c6 m6 D6 H6 M6 E6 => ⟨rngW (by omega) (by omega), ?_⟩
      exact ih (i + 1) m6 h6 c6 (by omega) D6 (H6.mono (by omega) (Nat.le_refl _) (by omega)) M6 (E5.trans E6)
  exact key n 0 wm0 h4 c4 (by omega) D4 AI.zero MW.zero E24.aa
end
end Go.Proofs
