/- A region that draws its order and has no one order: two that act and do not wait for one another stand in either order; each is walked. No condition. -/
import Derived.Test.YtmnjhhgdhlgjfaaGreatShN
namespace Go.Sh
open Go
set_option linter.unusedVariables false
set_option linter.unusedSimpArgs false
variable {P : Program}

/-- 'o' waits for 'k' too -/
def depO (o : Oper) (k : Nat) : Oper := { o with after := o.after.push { on := k, ground := .data } }
/-- the operation 'j' waits for 'k' too -/
def depL (k j : Nat) : List Oper → Nat → List Oper
  | [], _ => []
  | o :: l, i => cond (Nat.beq i j) (depO o k :: l) (o :: depL k j l (i + 1))
theorem depL_len (k j : Nat) : ∀ (l : List Oper) (i : Nat), (depL k j l i).length = l.length
  | [], _ => rfl
  | o :: l, i => by
    unfold depL
    cases Nat.beq i j with
    | true => rfl
    | false => simp [depL_len k j l (i + 1)]
theorem depL_get (k j : Nat) : ∀ (l : List Oper) (i m : Nat), (depL k j l i)[m]? = (l[m]?).map fun o => if i + m = j then depO o k else o
  | [], _, m => by simp [depL]
  | o :: l, i, m => by
    unfold depL
    cases hb : Nat.beq i j with
    | true =>
      have e := Nat.eq_of_beq_eq_true hb
      cases m with
      | zero => simp [cond, e]
      | succ m =>
        simp only [cond, List.getElem?_cons_succ]
        have : ¬ i + (m + 1) = j := by omega
        simp only [if_neg this]
        cases l[m]? <;> rfl
    | false =>
      have e : i ≠ j := fun e => by rw [e, Nat.beq_refl] at hb; cases hb
      cases m with
      | zero => simp [cond, e]
      | succ m =>
        simp only [cond, List.getElem?_cons_succ]
        rw [depL_get k j l (i + 1) m]
        rw [show i + 1 + m = i + (m + 1) by omega]
def depA (k j : Nat) (ops : Array Oper) : Array Oper := ⟨depL k j ops.toList 0⟩
theorem depA_get {k j : Nat} {ops : Array Oper} (m : Nat) : (depA k j ops)[m]? = (ops[m]?).map fun o => if m = j then depO o k else o := by
  have := depL_get k j ops.toList 0 m
  rw [Nat.zero_add] at this
  rw [← Array.getElem?_toList, ← Array.getElem?_toList]
  exact this
theorem depA_size (k j : Nat) (ops : Array Oper) : (depA k j ops).size = ops.size := by
  have := depL_len k j ops.toList 0
  simpa [depA] using this

section
variable {ops : Array Oper} {Q : Exit → Act → World → Prop}
theorem yielded_dep {k j : Nat} (tm : Array Value) : yielded (depA k j ops) tm = yielded ops tm := by
  funext m
  unfold yielded
  rw [depA_get]
  cases ops[m]? with
  | none => rfl
  | some o =>
    have e : (if m = j then depO o k else o).dst = o.dst := by split <;> rfl
    simp only [Option.map_some, Option.bind_some, e]
theorem wpOps_dep {k j : Nat} : ∀ (l : List Nat) (a : Act) (w : World), wpOps P (depA k j ops) Q l a w → wpOps P ops Q l a w
  | [], a, w, h => h
  | i :: l, a, w, h => by
    unfold wpOps at h ⊢
    rw [depA_get, yielded_dep] at h
    cases ho : ops[i]? with
    | none => rw [ho] at h; exact wpOps_dep l a w h
    | some o =>
      rw [ho] at h
      simp only [Option.map_some] at h ⊢
      have hw : ∀ o' : Oper, (o' = o ∨ o' = depO o k) → (if Region.wanted o' (yielded ops a.tmps) = true then o'.wp P a w (wpOps P (depA k j ops) Q l) Q ∨ (o'.asks P a w ∧ LetsOut Q) else wpOps P (depA k j ops) Q l (a.put o'.dst undef) w) →
          (if Region.wanted o (yielded ops a.tmps) = true then o.wp P a w (wpOps P ops Q l) Q ∨ (o.asks P a w ∧ LetsOut Q) else wpOps P ops Q l (a.put o.dst undef) w) := by
        intro o' ho' hh
        have e1 : Region.wanted o' (yielded ops a.tmps) = Region.wanted o (yielded ops a.tmps) := by rcases ho' with rfl | rfl <;> rfl
        have e2 : o'.dst = o.dst := by rcases ho' with rfl | rfl <;> rfl
        have e3 : ∀ K, o'.wp P a w K Q = o.wp P a w K Q := fun K => by rcases ho' with rfl | rfl <;> rfl
        have e4 : o'.asks P a w = o.asks P a w := by rcases ho' with rfl | rfl <;> rfl
        rw [e1, e2, e3, e4] at hh
        by_cases hc : Region.wanted o (yielded ops a.tmps) = true
        · rw [if_pos hc] at hh ⊢
          exact hh.imp (fun x => Oper.wp_mono (fun a w => wpOps_dep l a w) x) id
        · rw [if_neg hc] at hh ⊢
          exact wpOps_dep l _ _ hh
      by_cases e : i = j
      · rw [if_pos e] at h; exact hw _ (.inr rfl) h
      · rw [if_neg e] at h; exact hw _ (.inl rfl) h

/-- an order that may be drawn -/
def ValO (ops : Array Oper) : Nat → Array Bool → List Nat → Prop
  | 0, _, l => l = []
  | _ + 1, listed, [] => Region.ready .any ops listed = []
  | f + 1, listed, i :: l => i ∈ Region.ready .any ops listed ∧ ValO ops f (listed.setIfInBounds i true) l
theorem valO_drawn : ∀ (fuel t : Nat) (listed : Array Bool), ValO ops fuel listed (Region.linearise.go .any ops fuel t listed []) := by
  intro fuel
  induction fuel with
  | zero => intro t listed; rfl
  | succ fuel ih =>
    intro t listed
    simp only [Region.linearise.go]
    change ValO ops (fuel + 1) listed (match (Region.ready .any ops listed)[t % (Region.ready .any ops listed).length]? with
      | some i => Region.linearise.go .any ops fuel (t / (Region.ready .any ops listed).length) (listed.setIfInBounds i true) [i]
      | none => [].reverse)
    cases hi : (Region.ready .any ops listed)[t % (Region.ready .any ops listed).length]? with
    | none =>
      show Region.ready .any ops listed = []
      cases hr : Region.ready .any ops listed with
      | nil => rfl
      | cons x xs =>
        rw [hr] at hi
        have hlt : t % (x :: xs).length < (x :: xs).length := Nat.mod_lt _ (by simp)
        simp at hi
        simp at hlt
        omega
    | some i =>
      simp only []
      rw [linearise_go_acc, List.reverse_singleton, List.singleton_append]
      exact ⟨List.mem_of_getElem? hi, ih _ _⟩
theorem wpOps_val : ∀ (fuel : Nat) (listed : Array Bool) (l : List Nat) (a : Act) (w : World), wpAny P .any ops Q fuel listed a w → ValO ops fuel listed l → wpOps P ops Q l a w
  | 0, listed, l, a, w, h, hv => by
    have hv : l = [] := hv
    subst hv; exact h.2
  | fuel + 1, listed, [], a, w, h, hv => h.1 hv
  | fuel + 1, listed, i :: l, a, w, h, hv => by
    rw [wpOps_cons]
    exact wpOp_mono (fun a w ha => wpOps_val fuel _ l a w ha hv.2) (h.2 i hv.1)
theorem ready_dep {k j i : Nat} {listed : Array Bool} (h : i ∈ Region.ready .any (depA k j ops) listed) : i ∈ Region.ready .any ops listed := by
  obtain ⟨h0, o, ho, hall⟩ := mem_ready.1 h
  rw [depA_get] at ho
  cases hi : ops[i]? with
  | none => rw [hi] at ho; cases ho
  | some o' =>
    rw [hi] at ho
    simp only [Option.map_some, Option.some.injEq] at ho
    refine mem_ready.2 ⟨h0, o', hi, fun e he hb => hall e ?_ hb⟩
    subst ho
    split
    · show e ∈ o'.after.push _
      exact Array.mem_push.2 (.inl he)
    · exact he
theorem valO_dep {k j : Nat} (hkj : k ≠ j) : ∀ (fuel : Nat) (listed : Array Bool) (l : List Nat), ValO ops fuel listed l → (∀ A B, l = A ++ j :: B → k ∈ A ∨ listed.getD k false = true) → ValO (depA k j ops) fuel listed l
  | 0, listed, l, hv, _ => hv
  | fuel + 1, listed, [], hv, _ => by
    show Region.ready .any (depA k j ops) listed = []
    have hv : Region.ready .any ops listed = [] := hv
    cases hr : Region.ready .any (depA k j ops) listed with
    | nil => rfl
    | cons x xs =>
      have := ready_dep (k := k) (j := j) (ops := ops) (i := x) (by rw [hr]; simp)
      rw [hv] at this; cases this
  | fuel + 1, listed, i :: l, hv, ho => by
    refine ⟨?_, valO_dep hkj fuel _ l hv.2 fun A B e => ?_⟩
    · obtain ⟨h0, o, hio, hall⟩ := mem_ready.1 hv.1
      refine mem_ready.2 ⟨h0, if i = j then depO o k else o, by rw [depA_get, hio]; rfl, fun e he hb => ?_⟩
      by_cases hij : i = j
      · rw [if_pos hij] at he
        have he : e ∈ o.after.push { on := k, ground := .data } := he
        rcases Array.mem_push.1 he with he | rfl
        · exact hall e he hb
        · rcases ho [] l (by rw [hij]; rfl) with h | h
          · cases h
          · exact h
      · rw [if_neg hij] at he
        exact hall e he hb
    · have := ho (i :: A) B (by rw [e]; rfl)
      rcases this with h | h
      · rcases List.mem_cons.1 h with rfl | h
        · right
          have hlt : k < listed.size := by
            obtain ⟨h0, _⟩ := mem_ready.1 hv.1
            simp only [Array.getD_eq_getD_getElem?] at h0
            cases hl : listed[k]? with
            | none => rw [hl] at h0; cases h0
            | some b => exact (Array.getElem?_eq_some_iff.1 hl).1
          simp [Array.getD_eq_getD_getElem?, hlt]
        · exact .inl h
      · exact .inr (getD_set_true h)
theorem first_of {k j : Nat} (hkj : k ≠ j) : ∀ l : List Nat, l.Nodup → (∀ A B, l = A ++ j :: B → k ∈ A) ∨ (∀ A B, l = A ++ k :: B → j ∈ A)
  | [], _ => .inl fun A B e => by simp at e
  | x :: l, hn => by
    have hn2 := List.nodup_cons.1 hn
    by_cases hk : x = k
    · left
      intro A B e
      cases A with
      | nil => simp at e; exact absurd (hk.symm.trans e.1) hkj
      | cons y A => simp at e; rw [← e.1, hk]; simp
    · by_cases hj : x = j
      · right
        intro A B e
        cases A with
        | nil => simp at e; exact absurd e.1 hk
        | cons y A => simp at e; rw [← e.1, hj]; simp
      · refine (first_of hkj l hn2.2).imp (fun h A B e => ?_) fun h A B e => ?_
        · cases A with
          | nil => simp at e; exact absurd e.1 hj
          | cons y A => simp at e; exact List.mem_cons_of_mem _ (h A B e.2)
        · cases A with
          | nil => simp at e; exact absurd e.1 hk
          | cons y A => simp at e; exact List.mem_cons_of_mem _ (h A B e.2)
theorem valO_nodup : ∀ (fuel : Nat) (listed : Array Bool) (l : List Nat), ValO ops fuel listed l → l.Nodup ∧ ∀ i ∈ l, listed.getD i true = false
  | 0, listed, l, hv => by
    have hv : l = [] := hv
    subst hv; exact ⟨List.nodup_nil, fun i hi => by cases hi⟩
  | fuel + 1, listed, [], hv => ⟨List.nodup_nil, fun i hi => by cases hi⟩
  | fuel + 1, listed, i :: l, hv => by
    obtain ⟨h1, h2⟩ := valO_nodup fuel _ l hv.2
    obtain ⟨h0, _⟩ := mem_ready.1 hv.1
    refine ⟨List.nodup_cons.2 ⟨fun hm => ?_, h1⟩, fun m hm => ?_⟩
    · have := h2 i hm
      have hlt : i < listed.size := by
        simp only [Array.getD_eq_getD_getElem?] at h0
        cases hl : listed[i]? with
        | none => rw [hl] at h0; cases h0
        | some b => exact (Array.getElem?_eq_some_iff.1 hl).1
      simp [Array.getD_eq_getD_getElem?, hlt] at this
    · rcases List.mem_cons.1 hm with rfl | hm
      · exact h0
      · have := h2 m hm
        by_cases e : i = m
        · subst e; exact h0
        · simpa [Array.getD_eq_getD_getElem?, Array.getElem?_setIfInBounds_ne e] using this
end

/-- what each waits for, where some wait for later ones -/
def plRound (ops : List Oper) (ms : List Nat) : List Nat := ops.map (plMask ms)
def plMasks2 (ops : List Oper) : List Nat := plRound ops (plRound ops (plMasks ops []))
/-- the first two that act and do not wait for one another -/
def pairJ (P : Program) (ms : List Nat) (s i : Nat) : List Oper → Nat → Option Nat
  | [], _ => none
  | o :: l, j => cond (isEff P o && !(plD ms s i j || plD ms s j i)) (some j) (pairJ P ms s i l (j + 1))
def pairI (P : Program) (ms : List Nat) (s : Nat) : List Oper → Nat → Option (Nat × Nat)
  | [], _ => none
  | o :: l, i => cond (isEff P o) (match pairJ P ms s i l (i + 1) with | some j => some (i, j) | none => pairI P ms s l (i + 1)) (pairI P ms s l (i + 1))
/-- the region's walks in each of the orders -/
def splitN (P : Program) (n : Nat) (next : Env → H → Prop) : Nat → List Oper → Env → H → Prop
  | 0, ops, g, h => drawN P n ops (plMasks2 ops) next g h
  | f + 1, ops, g, h =>
    cond (planNB P ops (plMasks2 ops)) (drawN P n ops (plMasks2 ops) next g h)
      (match pairI P (plMasks2 ops) ops.length ops 0 with
       | some (i, j) => splitN P n next f (depL i j ops 0) g h ∧ splitN P n next f (depL j i ops 0) g h
       | none => False)
def splitB (P : Program) : Nat → List Oper → Bool
  | 0, ops => planNB P ops (plMasks2 ops)
  | f + 1, ops =>
    cond (planNB P ops (plMasks2 ops)) true
      (match pairI P (plMasks2 ops) ops.length ops 0 with
       | some (i, j) => !Nat.beq i j && splitB P f (depL i j ops 0) && splitB P f (depL j i ops 0)
       | none => false)

theorem drawN_val {n : Nat} {ops : Array Oper} {Q : XPost} {g : Env} {h : H} (hp : planNB P ops.toList (plMasks2 ops.toList) = true) (hx : drawN P n ops.toList (plMasks2 ops.toList) (Q .normal) g h) (w0 w : World) (a : Act)
    (hw : w.heap = h) (ho : Outer w0 w) (ha : Agree n a g) (l : List Nat) (hv : ValO ops ops.size (Array.replicate ops.size false) l) : wpOps P ops (lift n w0 Q) l a w := by
  simp only [planNB, Bool.and_eq_true] at hp
  obtain ⟨h1, h2⟩ := planB_ok (fun i k hk => by have := plD_lt hk; simpa using this) hp.1
  exact wpOps_val _ _ _ _ _ (nsx_any (next := Q .normal) h1 (fun _ _ h => h) (by subst hw; exact hx) ha ho h2) hv
theorem splitN_val {n : Nat} {Q : XPost} (w0 w : World) (a : Act) (g : Env) (ho : Outer w0 w) (ha : Agree n a g) :
    ∀ (f : Nat) (ops : Array Oper), splitB P f ops.toList = true → splitN P n (Q .normal) f ops.toList g w.heap → ∀ l, ValO ops ops.size (Array.replicate ops.size false) l → wpOps P ops (lift n w0 Q) l a w
  | 0, ops, hb, hx, l, hv => drawN_val hb hx w0 w a rfl ho ha l hv
  | f + 1, ops, hb, hx, l, hv => by
    unfold splitB at hb
    unfold splitN at hx
    cases hpl : planNB P ops.toList (plMasks2 ops.toList) with
    | true =>
      rw [hpl] at hx
      exact drawN_val hpl hx w0 w a rfl ho ha l hv
    | false =>
      rw [hpl] at hx hb
      simp only [cond] at hx hb
      cases hpr : pairI P (plMasks2 ops.toList) ops.toList.length ops.toList 0 with
      | none => rw [hpr] at hx; exact hx.elim
      | some ij =>
        obtain ⟨i, j⟩ := ij
        rw [hpr] at hx hb
        simp only [Bool.and_eq_true, Bool.not_eq_true'] at hb
        have hij : i ≠ j := fun e => by have := hb.1.1; rw [e, Nat.beq_refl] at this; cases this
        have hnd := (valO_nodup _ _ _ hv).1
        rcases first_of hij l hnd with h1 | h1
        · have := splitN_val w0 w a g ho ha f (depA i j ops) hb.1.2 hx.1 l (by rw [depA_size]; exact valO_dep hij _ _ _ hv fun A B e => .inl (h1 A B e))
          exact wpOps_dep l a w this
        · have := splitN_val w0 w a g ho ha f (depA j i ops) hb.2 hx.2 l (by rw [depA_size]; exact valO_dep (Ne.symm hij) _ _ _ hv fun A B e => .inl (h1 A B e))
          exact wpOps_dep l a w this
theorem splitN_ok {ro : Option Nat} {n id f : Nat} {ops : Array Oper} {Q : XPost} {g : Env} {h : H} (hm : P.follows .mixedOrders = true) (hnd : noDefer ops.toList = true)
    (hp : splitB P f ops.toList = true) (hx : splitN P n (Q .normal) f ops.toList g h) (w0 w : World) (a : Act)
    (hw : w.heap = h) (ho : Outer w0 w) (ha : Agree n a g) : (Code.region id ops true).wpIn (Fr ro) 0 P (lift n w0 Q) a w := by
  refine wpIn_region_draw fun t => ?_
  refine opsIn_of_ops lift_noOut (noDefer_ok hnd) _ _ _ ?_
  simp only [Region.schedule, hm, Bool.true_or, if_true]
  exact splitN_val w0 { w with drawn := w.drawn + 1 } a g ⟨ho.tape, ho.os, ho.output⟩ ha f ops hp (by subst hw; exact hx) _ (valO_drawn ops.size t _)

/-! ### a read that an act need not wait for is walked on either side of it (wip/reads.txt) -/
def rdF (n id : Nat) : Bool := Nat.beq n 27 && Nat.beq id 1 || Nat.beq n 189 && Nat.beq id 20
def pairS (P : Program) (ms : List Nat) (s i : Nat) : List Oper → Nat → Option Nat
  | [], _ => none
  | o :: l, j => cond (isRd P o && !(plD ms s i j || plD ms s j i || Nat.beq i j)) (some j) (pairS P ms s i l (j + 1))
/-- the first that acts beside one that reads, where neither waits for the other -/
def pairR (P : Program) (ms : List Nat) (s : Nat) (all : List Oper) : List Oper → Nat → Option (Nat × Nat)
  | [], _ => none
  | o :: l, i => cond (isEff P o) (match pairS P ms s i all 0 with | some j => some (i, j) | none => pairR P ms s all l (i + 1)) (pairR P ms s all l (i + 1))
def readN (P : Program) (n : Nat) (next : Env → H → Prop) : Nat → List Oper → Env → H → Prop
  | 0, ops, g, h => drawN P n ops (plMasks2 ops) next g h
  | f + 1, ops, g, h =>
    match pairR P (plMasks2 ops) ops.length ops ops 0 with
    | some (i, j) => readN P n next f (depL i j ops 0) g h ∧ readN P n next f (depL j i ops 0) g h
    | none => drawN P n ops (plMasks2 ops) next g h
def rdPlanB (P : Program) : Nat → List Oper → Bool
  | 0, ops => planNB P ops (plMasks2 ops)
  | f + 1, ops =>
    match pairR P (plMasks2 ops) ops.length ops ops 0 with
    | some (i, j) => !Nat.beq i j && rdPlanB P f (depL i j ops 0) && rdPlanB P f (depL j i ops 0)
    | none => planNB P ops (plMasks2 ops)
theorem readN_val {n : Nat} {Q : XPost} (w0 w : World) (a : Act) (g : Env) (ho : Outer w0 w) (ha : Agree n a g) :
    ∀ (f : Nat) (ops : Array Oper), rdPlanB P f ops.toList = true → readN P n (Q .normal) f ops.toList g w.heap → ∀ l, ValO ops ops.size (Array.replicate ops.size false) l → wpOps P ops (lift n w0 Q) l a w
  | 0, ops, hb, hx, l, hv => drawN_val hb hx w0 w a rfl ho ha l hv
  | f + 1, ops, hb, hx, l, hv => by
    unfold rdPlanB at hb
    unfold readN at hx
    cases hpr : pairR P (plMasks2 ops.toList) ops.toList.length ops.toList ops.toList 0 with
    | none => rw [hpr] at hx hb; exact drawN_val hb hx w0 w a rfl ho ha l hv
    | some ij =>
      obtain ⟨i, j⟩ := ij
      rw [hpr] at hx hb
      simp only [Bool.and_eq_true, Bool.not_eq_true'] at hb
      have hij : i ≠ j := fun e => by have := hb.1.1; rw [e, Nat.beq_refl] at this; cases this
      have hnd := (valO_nodup _ _ _ hv).1
      rcases first_of hij l hnd with h1 | h1
      · have := readN_val w0 w a g ho ha f (depA i j ops) hb.1.2 hx.1 l (by rw [depA_size]; exact valO_dep hij _ _ _ hv fun A B e => .inl (h1 A B e))
        exact wpOps_dep l a w this
      · have := readN_val w0 w a g ho ha f (depA j i ops) hb.2 hx.2 l (by rw [depA_size]; exact valO_dep (Ne.symm hij) _ _ _ hv fun A B e => .inl (h1 A B e))
        exact wpOps_dep l a w this
theorem readN_ok {ro : Option Nat} {n id f : Nat} {ops : Array Oper} {Q : XPost} {g : Env} {h : H} (hm : P.follows .mixedOrders = true) (hnd : noDefer ops.toList = true)
    (hp : rdPlanB P f ops.toList = true) (hx : readN P n (Q .normal) f ops.toList g h) (w0 w : World) (a : Act)
    (hw : w.heap = h) (ho : Outer w0 w) (ha : Agree n a g) : (Code.region id ops true).wpIn (Fr ro) 0 P (lift n w0 Q) a w := by
  refine wpIn_region_draw fun t => ?_
  refine opsIn_of_ops lift_noOut (noDefer_ok hnd) _ _ _ ?_
  simp only [Region.schedule, hm, Bool.true_or, if_true]
  exact readN_val w0 { w with drawn := w.drawn + 1 } a g ⟨ho.tape, ho.os, ho.output⟩ ha f ops hp (by subst hw; exact hx) _ (valO_drawn ops.size t _)
end Go.Sh
