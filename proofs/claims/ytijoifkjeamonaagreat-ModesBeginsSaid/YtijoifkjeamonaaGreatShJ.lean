import Derived.Test.YtijoifkjeamonaaGreatShN
import Derived.RangeFuncRecord
import Derived.Below
namespace Go.Sh
open Go
set_option linter.unusedVariables false
set_option linter.unusedSimpArgs false
variable {P : Program}
def depO (o : Oper) (k : Nat) : Oper := { o with after := o.after.push { on := k, ground := .data } }
def depL (k j : Nat) : List Oper -> Nat -> List Oper
  | [], _ => []
  | o :: l, i => cond (Nat.beq i j) (depO o k :: l) (o :: depL k j l (i + 1))
theorem depL_len (k j : Nat) : ∀ (l : List Oper) (i : Nat), (depL k j l i).length = l.length
  | [], _ => rfl
  | o :: l, i => by
    unfold depL
    cases Nat.beq i j with
    | true => rfl
    | false => simp [depL_len k j l (i + 1)]
theorem depL_get (k j : Nat) : ∀ (l : List Oper) (i m : Nat), (depL k j l i)[m]? = (l[m]?).map fun o => if i + m = j then depO o k else o
  | [], _, m => by simp [depL]
  | o :: l, i, m => by
    unfold depL
    cases hb : Nat.beq i j with
    | true =>
      have e := Nat.eq_of_beq_eq_true hb
      cases m with
      | zero => simp [cond, e]
      | succ m =>
        simp only [cond, List.getElem?_cons_succ]
        have : ¬ i + (m + 1) = j := by omega
        simp only [if_neg this]
        cases l[m]? <;> rfl
    | false =>
      have e : i ≠ j := fun e => by rw [e, Nat.beq_refl] at hb; cases hb
      cases m with
      | zero => simp [cond, e]
      | succ m =>
        simp only [cond, List.getElem?_cons_succ]
        rw [depL_get k j l (i + 1) m]
        rw [show i + 1 + m = i + (m + 1) by omega]
def depA (k j : Nat) (ops : Array Oper) : Array Oper := ⟨depL k j ops.toList 0⟩
theorem depA_get {k j : Nat} {ops : Array Oper} (m : Nat) : (depA k j ops)[m]? = (ops[m]?).map fun o => if m = j then depO o k else o := by
  have := depL_get k j ops.toList 0 m
  rw [Nat.zero_add] at this
  rw [<- Array.getElem?_toList, <- Array.getElem?_toList]
  exact this
theorem depA_size (k j : Nat) (ops : Array Oper) : (depA k j ops).size = ops.size := by
  have := depL_len k j ops.toList 0
  simpa [depA] using this
section
variable {ops : Array Oper} {Q : Exit -> Act -> World -> Prop}
theorem yielded_dep {k j : Nat} (tm : Array Value) : yielded (depA k j ops) tm = yielded ops tm := by
  funext m
  unfold yielded
  rw [depA_get]
  cases ops[m]? with
  | none => rfl
  | some o =>
    have e : (if m = j then depO o k else o).dst = o.dst := by split <;> rfl
    simp only [Option.map_some, Option.bind_some, e]
theorem wpOps_dep {k j : Nat} : ∀ (l : List Nat) (a : Act) (w : World), wpOps P (depA k j ops) Q l a w -> wpOps P ops Q l a w
  | [], a, w, h => h
  | i :: l, a, w, h => by
    unfold wpOps at h ⊢
    rw [depA_get, yielded_dep] at h
    cases ho : ops[i]? with
    | none => rw [ho] at h; exact wpOps_dep l a w h
    | some o =>
      rw [ho] at h
      simp only [Option.map_some] at h ⊢
      have hw : ∀ o' : Oper, (o' = o ∨ o' = depO o k) -> (if Region.wanted o' (yielded ops a.tmps) = true then o'.wp P a w (wpOps P (depA k j ops) Q l) Q ∨ (o'.asks P a w /\ LetsOut Q) else wpOps P (depA k j ops) Q l (a.put o'.dst undef) w) ->
          (if Region.wanted o (yielded ops a.tmps) = true then o.wp P a w (wpOps P ops Q l) Q ∨ (o.asks P a w /\ LetsOut Q) else wpOps P ops Q l (a.put o.dst undef) w) := by
        intro o' ho' hh
        have e1 : Region.wanted o' (yielded ops a.tmps) = Region.wanted o (yielded ops a.tmps) := by rcases ho' with rfl | rfl <;> rfl
        have e2 : o'.dst = o.dst := by rcases ho' with rfl | rfl <;> rfl
        have e3 : ∀ K, o'.wp P a w K Q = o.wp P a w K Q := fun K => by rcases ho' with rfl | rfl <;> rfl
        have e4 : o'.asks P a w = o.asks P a w := by rcases ho' with rfl | rfl <;> rfl
        rw [e1, e2, e3, e4] at hh
        by_cases hc : Region.wanted o (yielded ops a.tmps) = true
        · rw [if_pos hc] at hh ⊢
          exact hh.imp (fun x => Oper.wp_mono (fun a w => wpOps_dep l a w) x) id
        · rw [if_neg hc] at hh ⊢
          exact wpOps_dep l _ _ hh
      by_cases e : i = j
      · rw [if_pos e] at h; exact hw _ (.inr rfl) h
      · rw [if_neg e] at h; exact hw _ (.inl rfl) h
def ValO (ops : Array Oper) : Nat -> Array Bool -> List Nat -> Prop
  | 0, _, l => l = []
  | _ + 1, listed, [] => Region.ready .any ops listed = []
  | f + 1, listed, i :: l => i ∈ Region.ready .any ops listed /\ ValO ops f (listed.setIfInBounds i true) l
theorem valO_drawn : ∀ (fuel t : Nat) (listed : Array Bool), ValO ops fuel listed (Region.linearise.go .any ops fuel t listed []) := by
  intro fuel
  induction fuel with
  | zero => intro t listed; rfl
  | succ fuel ih =>
    intro t listed
    simp only [Region.linearise.go]
    change ValO ops (fuel + 1) listed (match (Region.ready .any ops listed)[t % (Region.ready .any ops listed).length]? with
      | some i => Region.linearise.go .any ops fuel (t / (Region.ready .any ops listed).length) (listed.setIfInBounds i true) [i]
      | none => [].reverse)
    cases hi : (Region.ready .any ops listed)[t % (Region.ready .any ops listed).length]? with
    | none =>
      show Region.ready .any ops listed = []
      cases hr : Region.ready .any ops listed with
      | nil => rfl
      | cons x xs =>
        rw [hr] at hi
        have hlt : t % (x :: xs).length < (x :: xs).length := Nat.mod_lt _ (by simp)
        simp at hi
        simp at hlt
        omega
    | some i =>
      simp only []
      rw [linearise_go_acc, List.reverse_singleton, List.singleton_append]
      exact ⟨List.mem_of_getElem? hi, ih _ _⟩
theorem wpOps_val : ∀ (fuel : Nat) (listed : Array Bool) (l : List Nat) (a : Act) (w : World), wpAny P .any ops Q fuel listed a w -> ValO ops fuel listed l -> wpOps P ops Q l a w
  | 0, listed, l, a, w, h, hv => by
    have hv : l = [] := hv
    subst hv; exact h.2
  | fuel + 1, listed, [], a, w, h, hv => h.1 hv
  | fuel + 1, listed, i :: l, a, w, h, hv => by
    rw [wpOps_cons]
    exact wpOp_mono (fun a w ha => wpOps_val fuel _ l a w ha hv.2) (h.2 i hv.1)
theorem ready_dep {k j i : Nat} {listed : Array Bool} (h : i ∈ Region.ready .any (depA k j ops) listed) : i ∈ Region.ready .any ops listed := by
  obtain ⟨h0, o, ho, hall⟩ := mem_ready.1 h
  rw [depA_get] at ho
  cases hi : ops[i]? with
  | none => rw [hi] at ho; cases ho
  | some o' =>
    rw [hi] at ho
    simp only [Option.map_some, Option.some.injEq] at ho
    refine mem_ready.2 ⟨h0, o', hi, fun e he hb => hall e ?_ hb⟩
    subst ho
    split
    · show e ∈ o'.after.push _
      exact Array.mem_push.2 (.inl he)
    · exact he
theorem valO_dep {k j : Nat} (hkj : k ≠ j) : ∀ (fuel : Nat) (listed : Array Bool) (l : List Nat), ValO ops fuel listed l -> (∀ A B, l = A ++ j :: B -> k ∈ A ∨ listed.getD k false = true) -> ValO (depA k j ops) fuel listed l
  | 0, listed, l, hv, _ => hv
  | fuel + 1, listed, [], hv, _ => by
    show Region.ready .any (depA k j ops) listed = []
    have hv : Region.ready .any ops listed = [] := hv
    cases hr : Region.ready .any (depA k j ops) listed with
    | nil => rfl
    | cons x xs =>
      have := ready_dep (k := k) (j := j) (ops := ops) (i := x) (by rw [hr]; simp)
      rw [hv] at this; cases this
  | fuel + 1, listed, i :: l, hv, ho => by
    refine ⟨?_, valO_dep hkj fuel _ l hv.2 fun A B e => ?_⟩
    · obtain ⟨h0, o, hio, hall⟩ := mem_ready.1 hv.1
      refine mem_ready.2 ⟨h0, if i = j then depO o k else o, by rw [depA_get, hio]; rfl, fun e he hb => ?_⟩
      by_cases hij : i = j
      · rw [if_pos hij] at he
        have he : e ∈ o.after.push { on := k, ground := .data } := he
        rcases Array.mem_push.1 he with he | rfl
        · exact hall e he hb
        · rcases ho [] l (by rw [hij]; rfl) with h | h
          · cases h
          · exact h
      · rw [if_neg hij] at he
        exact hall e he hb
    · have := ho (i :: A) B (by rw [e]; rfl)
      rcases this with h | h
      · rcases List.mem_cons.1 h with rfl | h
        · right
          have hlt : k < listed.size := by
            obtain ⟨h0, _⟩ := mem_ready.1 hv.1
            simp only [Array.getD_eq_getD_getElem?] at h0
            cases hl : listed[k]? with
            | none => rw [hl] at h0; cases h0
            | some b => exact (Array.getElem?_eq_some_iff.1 hl).1
          simp [Array.getD_eq_getD_getElem?, hlt]
        · exact .inl h
      · exact .inr (getD_set_true h)
theorem first_of {k j : Nat} (hkj : k ≠ j) : ∀ l : List Nat, l.Nodup -> (∀ A B, l = A ++ j :: B -> k ∈ A) ∨ (∀ A B, l = A ++ k :: B -> j ∈ A)
  | [], _ => .inl fun A B e => by simp at e
  | x :: l, hn => by
    have hn2 := List.nodup_cons.1 hn
    by_cases hk : x = k
    · left
      intro A B e
      cases A with
      | nil => simp at e; exact absurd (hk.symm.trans e.1) hkj
      | cons y A => simp at e; rw [<- e.1, hk]; simp
    · by_cases hj : x = j
      · right
        intro A B e
        cases A with
        | nil => simp at e; exact absurd e.1 hk
        | cons y A => simp at e; rw [<- e.1, hj]; simp
      · refine (first_of hkj l hn2.2).imp (fun h A B e => ?_) fun h A B e => ?_
        · cases A with
          | nil => simp at e; exact absurd e.1 hj
          | cons y A => simp at e; exact List.mem_cons_of_mem _ (h A B e.2)
        · cases A with
          | nil => simp at e; exact absurd e.1 hk
          | cons y A => simp at e; exact List.mem_cons_of_mem _ (h A B e.2)
theorem valO_nodup : ∀ (fuel : Nat) (listed : Array Bool) (l : List Nat), ValO ops fuel listed l -> l.Nodup /\ ∀ i ∈ l, listed.getD i true = false
  | 0, listed, l, hv => by
    have hv : l = [] := hv
    subst hv; exact ⟨List.nodup_nil, fun i hi => by cases hi⟩
  | fuel + 1, listed, [], hv => ⟨List.nodup_nil, fun i hi => by cases hi⟩
  | fuel + 1, listed, i :: l, hv => by
    obtain ⟨h1, h2⟩ := valO_nodup fuel _ l hv.2
    obtain ⟨h0, _⟩ := mem_ready.1 hv.1
    refine ⟨List.nodup_cons.2 ⟨fun hm => ?_, h1⟩, fun m hm => ?_⟩
    · have := h2 i hm
      have hlt : i < listed.size := by
        simp only [Array.getD_eq_getD_getElem?] at h0
        cases hl : listed[i]? with
        | none => rw [hl] at h0; cases h0
        | some b => exact (Array.getElem?_eq_some_iff.1 hl).1
      simp [Array.getD_eq_getD_getElem?, hlt] at this
    · rcases List.mem_cons.1 hm with rfl | hm
      · exact h0
      · have := h2 m hm
        by_cases e : i = m
        · subst e; exact h0
        · simpa [Array.getD_eq_getD_getElem?, Array.getElem?_setIfInBounds_ne e] using this
end
def plRound (ops : List Oper) (ms : List Nat) : List Nat := ops.map (plMask ms)
def plMasks2 (ops : List Oper) : List Nat := plRound ops (plRound ops (plMasks ops []))
def pairJ (P : Program) (ms : List Nat) (s i : Nat) : List Oper -> Nat -> Option Nat
  | [], _ => none
  | o :: l, j => cond (isEff P o && !(plD ms s i j || plD ms s j i)) (some j) (pairJ P ms s i l (j + 1))
def pairI (P : Program) (ms : List Nat) (s : Nat) : List Oper -> Nat -> Option (Nat × Nat)
  | [], _ => none
  | o :: l, i => cond (isEff P o) (match pairJ P ms s i l (i + 1) with | some j => some (i, j) | none => pairI P ms s l (i + 1)) (pairI P ms s l (i + 1))
def splitN (P : Program) (n : Nat) (next : Env -> H -> Prop) : Nat -> List Oper -> Env -> H -> Prop
  | 0, ops, g, h => drawN P n ops (plMasks2 ops) next g h
  | f + 1, ops, g, h =>
    cond (planNB P ops (plMasks2 ops)) (drawN P n ops (plMasks2 ops) next g h)
      (match pairI P (plMasks2 ops) ops.length ops 0 with
       | some (i, j) => splitN P n next f (depL i j ops 0) g h /\ splitN P n next f (depL j i ops 0) g h
       | none => False)
def splitB (P : Program) : Nat -> List Oper -> Bool
  | 0, ops => planNB P ops (plMasks2 ops)
  | f + 1, ops =>
    cond (planNB P ops (plMasks2 ops)) true
      (match pairI P (plMasks2 ops) ops.length ops 0 with
       | some (i, j) => !Nat.beq i j && splitB P f (depL i j ops 0) && splitB P f (depL j i ops 0)
       | none => false)
theorem drawN_val {n : Nat} {ops : Array Oper} {Q : XPost} {g : Env} {h : H} (hp : planNB P ops.toList (plMasks2 ops.toList) = true) (hx : drawN P n ops.toList (plMasks2 ops.toList) (Q .normal) g h) (w0 w : World) (a : Act)
    (hw : w.heap = h) (ho : Outer w0 w) (ha : Agree n a g) (l : List Nat) (hv : ValO ops ops.size (Array.replicate ops.size false) l) : wpOps P ops (lift n w0 Q) l a w := by
  simp only [planNB, Bool.and_eq_true] at hp
  obtain ⟨h1, h2⟩ := planB_ok (fun i k hk => by have := plD_lt hk; simpa using this) hp.1
  exact wpOps_val _ _ _ _ _ (nsx_any (next := Q .normal) h1 (fun _ _ h => h) (by subst hw; exact hx) ha ho h2) hv
theorem splitN_val {n : Nat} {Q : XPost} (w0 w : World) (a : Act) (g : Env) (ho : Outer w0 w) (ha : Agree n a g) :
    ∀ (f : Nat) (ops : Array Oper), splitB P f ops.toList = true -> splitN P n (Q .normal) f ops.toList g w.heap -> ∀ l, ValO ops ops.size (Array.replicate ops.size false) l -> wpOps P ops (lift n w0 Q) l a w
  | 0, ops, hb, hx, l, hv => drawN_val hb hx w0 w a rfl ho ha l hv
  | f + 1, ops, hb, hx, l, hv => by
    unfold splitB at hb
    unfold splitN at hx
    cases hpl : planNB P ops.toList (plMasks2 ops.toList) with
    | true =>
      rw [hpl] at hx
      exact drawN_val hpl hx w0 w a rfl ho ha l hv
    | false =>
      rw [hpl] at hx hb
      simp only [cond] at hx hb
      cases hpr : pairI P (plMasks2 ops.toList) ops.toList.length ops.toList 0 with
      | none => rw [hpr] at hx; exact hx.elim
      | some ij =>
        obtain ⟨i, j⟩ := ij
        rw [hpr] at hx hb
        simp only [Bool.and_eq_true, Bool.not_eq_true'] at hb
        have hij : i ≠ j := fun e => by have := hb.1.1; rw [e, Nat.beq_refl] at this; cases this
        have hnd := (valO_nodup _ _ _ hv).1
        rcases first_of hij l hnd with h1 | h1
        · have := splitN_val w0 w a g ho ha f (depA i j ops) hb.1.2 hx.1 l (by rw [depA_size]; exact valO_dep hij _ _ _ hv fun A B e => .inl (h1 A B e))
          exact wpOps_dep l a w this
        · have := splitN_val w0 w a g ho ha f (depA j i ops) hb.2 hx.2 l (by rw [depA_size]; exact valO_dep (Ne.symm hij) _ _ _ hv fun A B e => .inl (h1 A B e))
          exact wpOps_dep l a w this
theorem splitN_ok {ro : Option Nat} {n id f : Nat} {ops : Array Oper} {Q : XPost} {g : Env} {h : H} (hm : P.follows .mixedOrders = true) (hnd : noDefer ops.toList = true)
    (hp : splitB P f ops.toList = true) (hx : splitN P n (Q .normal) f ops.toList g h) (w0 w : World) (a : Act)
    (hw : w.heap = h) (ho : Outer w0 w) (ha : Agree n a g) : (Code.region id ops true).wpIn (Fr ro) 0 P (lift n w0 Q) a w := by
  refine wpIn_region_draw fun t => ?_
  refine opsIn_of_ops lift_noOut (noDefer_ok hnd) _ _ _ ?_
  simp only [Region.schedule, hm, Bool.true_or, if_true]
  exact splitN_val w0 { w with drawn := w.drawn + 1 } a g ⟨ho.tape, ho.os, ho.output⟩ ha f ops hp (by subst hw; exact hx) _ (valO_drawn ops.size t _)
def rdF (n id : Nat) : Bool := Nat.beq n 27 && Nat.beq id 1 || Nat.beq n 34 && Nat.beq id 5 || Nat.beq n 40 && Nat.beq id 5 || Nat.beq n 90 && Nat.beq id 14
def pairS (P : Program) (ms : List Nat) (s i : Nat) : List Oper -> Nat -> Option Nat
  | [], _ => none
  | o :: l, j => cond (isRd P o && !(plD ms s i j || plD ms s j i || Nat.beq i j)) (some j) (pairS P ms s i l (j + 1))
def pairR (P : Program) (ms : List Nat) (s : Nat) (all : List Oper) : List Oper -> Nat -> Option (Nat × Nat)
  | [], _ => none
  | o :: l, i => cond (isEff P o) (match pairS P ms s i all 0 with | some j => some (i, j) | none => pairR P ms s all l (i + 1)) (pairR P ms s all l (i + 1))
def readN (P : Program) (n : Nat) (next : Env -> H -> Prop) : Nat -> List Oper -> Env -> H -> Prop
  | 0, ops, g, h => drawN P n ops (plMasks2 ops) next g h
  | f + 1, ops, g, h =>
    match pairR P (plMasks2 ops) ops.length ops ops 0 with
    | some (i, j) => readN P n next f (depL i j ops 0) g h /\ readN P n next f (depL j i ops 0) g h
    | none => drawN P n ops (plMasks2 ops) next g h
def rdPlanB (P : Program) : Nat -> List Oper -> Bool
  | 0, ops => planNB P ops (plMasks2 ops)
  | f + 1, ops =>
    match pairR P (plMasks2 ops) ops.length ops ops 0 with
    | some (i, j) => !Nat.beq i j && rdPlanB P f (depL i j ops 0) && rdPlanB P f (depL j i ops 0)
    | none => planNB P ops (plMasks2 ops)
theorem readN_val {n : Nat} {Q : XPost} (w0 w : World) (a : Act) (g : Env) (ho : Outer w0 w) (ha : Agree n a g) :
    ∀ (f : Nat) (ops : Array Oper), rdPlanB P f ops.toList = true -> readN P n (Q .normal) f ops.toList g w.heap -> ∀ l, ValO ops ops.size (Array.replicate ops.size false) l -> wpOps P ops (lift n w0 Q) l a w
  | 0, ops, hb, hx, l, hv => drawN_val hb hx w0 w a rfl ho ha l hv
  | f + 1, ops, hb, hx, l, hv => by
    unfold rdPlanB at hb
    unfold readN at hx
    cases hpr : pairR P (plMasks2 ops.toList) ops.toList.length ops.toList ops.toList 0 with
    | none => rw [hpr] at hx hb; exact drawN_val hb hx w0 w a rfl ho ha l hv
    | some ij =>
      obtain ⟨i, j⟩ := ij
      rw [hpr] at hx hb
      simp only [Bool.and_eq_true, Bool.not_eq_true'] at hb
      have hij : i ≠ j := fun e => by have := hb.1.1; rw [e, Nat.beq_refl] at this; cases this
      have hnd := (valO_nodup _ _ _ hv).1
      rcases first_of hij l hnd with h1 | h1
      · have := readN_val w0 w a g ho ha f (depA i j ops) hb.1.2 hx.1 l (by rw [depA_size]; exact valO_dep hij _ _ _ hv fun A B e => .inl (h1 A B e))
        exact wpOps_dep l a w this
      · have := readN_val w0 w a g ho ha f (depA j i ops) hb.2 hx.2 l (by rw [depA_size]; exact valO_dep (Ne.symm hij) _ _ _ hv fun A B e => .inl (h1 A B e))
        exact wpOps_dep l a w this
theorem readN_ok {ro : Option Nat} {n id f : Nat} {ops : Array Oper} {Q : XPost} {g : Env} {h : H} (hm : P.follows .mixedOrders = true) (hnd : noDefer ops.toList = true)
    (hp : rdPlanB P f ops.toList = true) (hx : readN P n (Q .normal) f ops.toList g h) (w0 w : World) (a : Act)
    (hw : w.heap = h) (ho : Outer w0 w) (ha : Agree n a g) : (Code.region id ops true).wpIn (Fr ro) 0 P (lift n w0 Q) a w := by
  refine wpIn_region_draw fun t => ?_
  refine opsIn_of_ops lift_noOut (noDefer_ok hnd) _ _ _ ?_
  simp only [Region.schedule, hm, Bool.true_or, if_true]
  exact readN_val w0 { w with drawn := w.drawn + 1 } a g ⟨ho.tape, ho.os, ho.output⟩ ha f ops hp (by subst hw; exact hx) _ (valO_drawn ops.size t _)
def pairOf (n id : Nat) : Option (Nat × Nat) := if Nat.beq n 25 && Nat.beq id 2 then some (7, 4) else if Nat.beq n 57 && Nat.beq id 5 then some (13, 3) else if Nat.beq n 143 && Nat.beq id 11 then some (21, 3) else if Nat.beq n 143 && Nat.beq id 7 then some (17, 3) else if Nat.beq n 35 && Nat.beq id 0 then some (15, 3) else none
def oneN (P : Program) (n : Nat) (next : Env -> H -> Prop) (ops : List Oper) (i j : Nat) (g : Env) (h : H) : Prop :=
  splitN P n next 3 (depL i j ops 0) g h /\ splitN P n next 3 (depL j i ops 0) g h
def oneB (P : Program) (ops : List Oper) (i j : Nat) : Bool := !Nat.beq i j && splitB P 3 (depL i j ops 0) && splitB P 3 (depL j i ops 0)
theorem oneN_ok {ro : Option Nat} {n id i j : Nat} {ops : Array Oper} {Q : XPost} {g : Env} {h : H} (hm : P.follows .mixedOrders = true) (hnd : noDefer ops.toList = true)
    (hp : oneB P ops.toList i j = true) (hx : oneN P n (Q .normal) ops.toList i j g h) (w0 w : World) (a : Act)
    (hw : w.heap = h) (ho : Outer w0 w) (ha : Agree n a g) : (Code.region id ops true).wpIn (Fr ro) 0 P (lift n w0 Q) a w := by
  refine wpIn_region_draw fun t => ?_
  refine opsIn_of_ops lift_noOut (noDefer_ok hnd) _ _ _ ?_
  simp only [Region.schedule, hm, Bool.true_or, if_true]
  unfold oneB at hp
  simp only [Bool.and_eq_true, Bool.not_eq_true'] at hp
  have hij : i ≠ j := fun e => by have := hp.1.1; rw [e, Nat.beq_refl] at this; cases this
  have hv := valO_drawn (ops := ops) ops.size t (Array.replicate ops.size false)
  have hnd2 := (valO_nodup _ _ _ hv).1
  rcases first_of hij _ hnd2 with h1 | h1
  · have := splitN_val w0 { w with drawn := w.drawn + 1 } a g ⟨ho.tape, ho.os, ho.output⟩ ha 3 (depA i j ops) hp.1.2 (by subst hw; exact hx.1) _ (by rw [depA_size]; exact valO_dep hij _ _ _ hv fun A B e => .inl (h1 A B e))
    exact wpOps_dep _ a _ this
  · have := splitN_val w0 { w with drawn := w.drawn + 1 } a g ⟨ho.tape, ho.os, ho.output⟩ ha 3 (depA j i ops) hp.2 (by subst hw; exact hx.2) _ (by rw [depA_size]; exact valO_dep (Ne.symm hij) _ _ _ hv fun A B e => .inl (h1 A B e))
    exact wpOps_dep _ a _ this
end Go.Sh
namespace Go.Sh
open Go
set_option linter.unusedVariables false
set_option linter.unusedSimpArgs false
variable {P : Program}
def wpx (ro : Option Nat) (P : Program) (n : Nat) : Code -> XPost -> Env -> H -> Prop
  | .skip, Q, g, h => Q .normal g h
  | .region id ops draw, Q, g, h =>
    cond draw (match pairOf n id with
      | some (i, j) => cond (oneB P ops.toList i j && noDefer ops.toList) (oneN P n (Q .normal) ops.toList i j g h) False
      | none => cond (rdF n id && (rdPlanB P 3 ops.toList && noDefer ops.toList)) (readN P n (Q .normal) 3 ops.toList g h) (cond (planNB P ops.toList (plMasks ops.toList [])) (drawN P n ops.toList (plMasks ops.toList []) (Q .normal) g h) (cond (splitB P 3 ops.toList && noDefer ops.toList) (splitN P n (Q .normal) 3 ops.toList g h) (qsx P n ops.toList (Q .normal) h ops.toList g)))) (opsx P n ops.toList (Q .normal) ops.toList g h)
  | .seq a b, Q, g, h => wpx ro P n a (thenX (wpx ro P n b Q) Q) g h
  | .cond c a b, Q, g, h => vBool (evalE n g c) fun t => cond t (wpx ro P n a Q g h) (wpx ro P n b Q g h)
  | .block id c, Q, g, h => wpx ro P n c (inBlockX id Q) g h
  | .exit id, Q, g, h => Q (.exit id) g h
  | .label _, Q, g, h => Q .normal g h
  | .goto l, Q, g, h => Q (.goto l) g h
  | .ret, Q, g, h => Q .ret g h
  | _, _, _, _ => False
def drawOK (P : Program) : Code -> Bool
  | .region _ ops draw => !draw || (planNB P ops.toList (plMasks ops.toList []) || ((splitB P 3 ops.toList && noDefer ops.toList) || (Region.lexB .any ops && noDefer ops.toList)))
  | .seq a b => drawOK P a && drawOK P b
  | .cond _ a b => drawOK P a && drawOK P b
  | .block _ c => drawOK P c
  | _ => true
theorem thenX_mono {A B : Env -> H -> Prop} {Q : XPost} (hab : ∀ g h, A g h -> B g h) : ∀ e g h, thenX A Q e g h -> thenX B Q e g h := by
  intro e g h hx
  cases e <;> first | exact hab _ _ hx | exact hx
theorem wpx_ok {ro : Option Nat} {n : Nat} (hm : P.follows .mixedOrders = true) : ∀ (c : Code) (Q : XPost) (g : Env) (h : H), drawOK P c = true -> wpx ro P n c Q g h -> wpC ro P n c Q g h := by
  intro c
  induction c with
  | skip => intro Q g h _ hx; exact wpC_skip hx
  | region id ops draw =>
    intro Q g h hd hx
    cases draw with
    | true =>
      simp only [drawOK, Bool.not_true, Bool.false_or, Bool.or_eq_true, Bool.and_eq_true] at hd
      simp only [wpx, cond] at hx
      cases hpo : pairOf n id with
      | some ij =>
        obtain ⟨i, j⟩ := ij
        rw [hpo] at hx
        simp only [] at hx
        split at hx
        · rename_i hc
          simp only [Bool.and_eq_true] at hc
          exact fun w0 w a hw ho ha => oneN_ok hm hc.2 hc.1 hx w0 w a hw ho ha
        · exact hx.elim
      | none =>
      rw [hpo] at hx
      simp only [] at hx
      cases hrd : rdF n id && (rdPlanB P 3 ops.toList && noDefer ops.toList) with
      | true =>
        rw [hrd] at hx
        simp only [Bool.and_eq_true] at hrd
        exact fun w0 w a hw ho ha => readN_ok hm hrd.2.2 hrd.2.1 hx w0 w a hw ho ha
      | false =>
      rw [hrd] at hx
      simp only [] at hx
      cases hpl : planNB P ops.toList (plMasks ops.toList []) with
      | true =>
        rw [hpl] at hx
        exact fun w0 w a hw ho ha => drawN_ok2 hm hpl hx w0 w a hw ho ha
      | false =>
        rw [hpl] at hx hd
        have hd := hd.resolve_left (by simp)
        simp only [] at hx
        cases hsp : splitB P 3 ops.toList && noDefer ops.toList with
        | true =>
          rw [hsp] at hx
          simp only [Bool.and_eq_true] at hsp
          exact fun w0 w a hw ho ha => splitN_ok hm hsp.2 hsp.1 hx w0 w a hw ho ha
        | false =>
          rw [hsp] at hx
          simp only [Bool.and_eq_false_iff] at hsp
          have hd := hd.resolve_left (fun hh => by rcases hsp with e | e <;> rw [e] at hh; (exact absurd hh.1 (by simp)); (exact absurd hh.2 (by simp)))
          exact fun w0 w a hw ho ha => drawx_ok hm hd.1 hd.2 hx w0 w a hw ho ha
    | false =>
      intro w0 w a hw ho ha
      refine wpIn_region ?_
      have := opsx_ok (ro := ro) (Q := Q) (fun _ _ hh => hh) w0 ops.toList 0 g h a w (fun j => by simp) hx hw ho ha
      rwa [Array.length_toList, <- List.range_eq_range'] at this
  | seq a b iha ihb =>
    intro Q g h hd hx
    simp only [drawOK, Bool.and_eq_true] at hd
    exact wpC_seq ((iha _ g h hd.1 hx).mono (thenX_mono fun g h => ihb Q g h hd.2))
  | cond c a b iha ihb =>
    intro Q g h hd hx
    simp only [drawOK, Bool.and_eq_true] at hd
    unfold wpx at hx
    unfold vBool at hx
    split at hx
    · rename_i t ht
      refine wpC_cond ht ?_
      cases t with
      | true => exact iha _ _ _ hd.1 hx
      | false => exact ihb _ _ _ hd.2 hx
    · exact hx.elim
  | block id c ih => intro Q g h hd hx; exact wpC_block (ih _ _ _ hd hx)
  | exit id => intro Q g h _ hx; exact wpC_exit hx
  | label l => intro Q g h _ hx; exact wpC_label hx
  | goto l => intro Q g h _ hx; exact wpC_goto hx
  | ret => intro Q g h _ hx; exact wpC_ret hx
  | loop c _ => intro Q g h _ hx; exact hx.elim
  | rangeFunc f ps a b _ _ => intro Q g h _ hx; exact hx.elim
  | scope c _ => intro Q g h _ hx; exact hx.elim
  | refuse s => intro Q g h _ hx; exact hx.elim
def resL (P : Program) (g : Env) (n : Nat) (h : H) : List ResultVar -> (List Value -> Prop) -> Prop
  | [], k => k []
  | .tmp t :: l, k => cond (Nat.blt t n) (resL P g n h l fun vs => k (g.v t :: vs)) False
  | .cell a t :: l, k => cond (Nat.blt a n) (vAddr (g.v a) fun a => ldx P t a h fun v => resL P g n h l fun vs => k (v :: vs)) False
def resV : List Value -> Value
  | [v] => v
  | l => .tuple ⟨l⟩
def leaveX : List Deferred -> H -> (H -> Prop) -> Prop
  | [], h, k => k h
  | d :: ds, h, k =>
    match d.target with
    | .collected r => h[r]? = some (.deferred (some [])) /\ leaveX ds (h.setIfInBounds r (.deferred none)) k
    | _ => False
def retX (P : Program) (n : Nat) (rs : List ResultVar) (K : Value -> H -> Prop) : XPost
  | .normal, g, h => leaveX g.ds h fun h => resL P g n h rs fun vs => K (resV vs) h
  | .ret, g, h => leaveX g.ds h fun h => resL P g n h rs fun vs => K (resV vs) h
  | _, _, _ => False
def resM (tmps : Array Value) (r : ResultVar) : Sem Value :=
  match r with
  | .tmp t => pure (tmps.getD t undef)
  | .cell a t => do loadVar t (<- Go.asAddr (tmps.getD a undef))
theorem resL_ok {g : Env} {n : Nat} {h : H} {a : Act} {w : World} (ha : Agree n a g) (hw : w.heap = h) : ∀ {rs : List ResultVar} {k : List Value -> Prop}, resL P g n h rs k ->
    ∃ vs, k vs /\ (rs.mapM (resM a.tmps)).run P w = .ok vs w
  | [], k, hx => ⟨[], hx, rfl⟩
  | .tmp t :: l, k, hx => by
    unfold resL at hx
    cases hb : Nat.blt t n with
    | false => rw [hb] at hx; exact hx.elim
    | true =>
      rw [hb] at hx
      obtain ⟨vs, hk, hr⟩ := resL_ok ha hw (k := fun vs => k (g.v t :: vs)) hx
      refine ⟨g.v t :: vs, hk, ?_⟩
      rw [List.mapM_cons]
      have e : resM a.tmps (.tmp t) = pure (g.v t) := by unfold resM; simp only [ha.tmp t (blt_yes hb)]
      simp only [e, Sem.run_bind, Sem.run_pure, Result.andThen_ok, hr]
  | .cell b t :: l, k, hx => by
    unfold resL at hx
    cases hb : Nat.blt b n with
    | false => rw [hb] at hx; exact hx.elim
    | true =>
      rw [hb] at hx
      obtain ⟨ad, he, hx⟩ := vAddr_ok (k := fun a => ldx P t a h fun v => resL P g n h l fun vs => k (v :: vs)) hx
      obtain ⟨v, hx, hv⟩ := ldx_ok hx
      obtain ⟨vs, hk, hr⟩ := resL_ok ha hw (k := fun vs => k (v :: vs)) hx
      refine ⟨v :: vs, hk, ?_⟩
      rw [List.mapM_cons]
      have e : a.tmps.getD b undef = .pointer (some ad) := (ha.tmp b (blt_yes hb)).trans he
      have e2 : (resM a.tmps (.cell b t)).run P w = .ok v w := by
        unfold resM
        simp only [e, Go.asAddr, Sem.run_bind, Sem.run_pure, Result.andThen_ok, hv w hw]
      simp only [Sem.run_bind, Sem.run_pure, Result.andThen_ok, hr, e2]
theorem results_run {fn : Func} {g : Env} {n : Nat} {h : H} {a : Act} {w : World} (ha : Agree n a g) (hw : w.heap = h) {k : List Value -> Prop} (hx : resL P g n h fn.results.toList k) :
    ∃ vs, k vs /\ (results fn a.tmps).run P w = .ok (resV vs) w := by
  obtain ⟨vs, hk, hr⟩ := resL_ok ha hw hx
  refine ⟨vs, hk, ?_⟩
  have hm : (fn.results.mapM (resM a.tmps)).run P w = .ok vs.toArray w := by
    rw [<- Array.toArray_toList (xs := fn.results), List.mapM_toArray]
    rw [Sem.run_map, hr]
    rfl
  have e : results fn a.tmps = (do let vs <- fn.results.mapM (resM a.tmps); pure (if h : vs.size = 1 then vs[0] else .tuple vs)) := rfl
  rw [e, Sem.run_bind, hm, Result.andThen_ok, Sem.run_pure]
  refine congrArg (fun v => Result.ok v w) ?_
  match vs with
  | [] => rfl
  | [v] => rfl
  | v :: u :: l => simp [resV]
def env0 (args : List Value) : Env := ⟨fun i => args.getD i undef, []⟩
theorem agree0 {n : Nat} {args : Array Value} (hn : args.size <= n) : Agree n { tmps := args ++ Array.replicate (n - args.size) undef, defers := [] } (env0 args.toList) := by
  refine ⟨rfl, by simp; omega, fun i hi => ?_⟩
  show (args ++ Array.replicate (n - args.size) undef).getD i undef = args.toList.getD i undef
  simp only [Array.getD_eq_getD_getElem?, List.getD_eq_getElem?_getD, Array.getElem?_toList]
  by_cases h : i < args.size
  · rw [Array.getElem?_append_left h]
  · rw [Array.getElem?_append_right (by omega), Array.getElem?_eq_none (xs := args) (by omega)]
    by_cases h2 : i - args.size < n - args.size
    · rw [Array.getElem?_replicate, if_pos h2]; rfl
    · rw [Array.getElem?_eq_none (by simp; omega)]
theorem leave_ok {fn : Func} {tmps : Array Value} {w0 : World} {K : Value -> H -> Prop} (k : H -> Prop) (hk : ∀ w, k w.heap -> ∃ v, (results fn tmps).run P w = .ok v w /\ K v w.heap) :
    ∀ (ds : List Deferred) (w : World), Outer w0 w -> leaveX ds w.heap k ->
      LeavesInM Fence.wide 0 P fn tmps (fun e w' => ∃ v, e = .returned v /\ Outer w0 w' /\ K v w'.heap) ds .returning w
  | [], w, ho, hx => by
    obtain ⟨v, hr, hv⟩ := hk w hx
    exact ⟨v, hr, v, rfl, ho, hv⟩
  | d :: ds, w, ho, hx => by
    unfold leaveX at hx
    split at hx
    · rename_i r ht
      obtain ⟨hr, hx⟩ := hx
      refine ⟨by simp, .inl ⟨r, { w with heap := w.heap.setIfInBounds r (.deferred none) }, ht, ?_, ?_⟩⟩
      · unfold Instr.takeDeferred
        have hg : (getObj r).run P w = .ok (.deferred (some [])) w := by
          simp [getObj, Sem.run, hr]
        have hs : (setObj r (.deferred none)).run P w = .ok () { w with heap := w.heap.setIfInBounds r (.deferred none) } := by
          simp [setObj, Sem.run, hr]
        rw [Sem.run_bind, hg, Result.andThen_ok]
        simp only [Sem.run_bind, hs, Result.andThen_ok, Sem.run_pure]
      · exact leave_ok k hk ds _ ⟨ho.tape, ho.os, ho.output⟩ hx
    · exact hx.elim
theorem calls_of_wpC {f : FuncId} {fn : Func} {c : Code} {args : Array Value} {h : H} {K : Value -> H -> Prop} (hf : P.funcs[f]? = some fn) (hb : fn.body = some c) (hn : args.size <= fn.ntmps)
    (hx : wpC none P fn.ntmps c (retX P fn.ntmps fn.results.toList K) (env0 args.toList) h) : HCalls P f args h K := by
  intro w hw
  refine (callsIn_wide (n := 0)).1 ?_
  refine callsIn_of_wp_marks (F := Fence.wide) hf hb trivial ?_
  refine wpIn_mono (hx w w _ hw (Outer.refl w) (agree0 hn)) fun e a' w' he => ?_
  have fin : ∀ g, Agree fn.ntmps a' g -> Outer w w' -> (leaveX g.ds w'.heap fun h => resL P g fn.ntmps h fn.results.toList fun vs => K (resV vs) h) ->
      LeavesInM Fence.wide 0 P fn a'.tmps (fun e w' => ∃ v, e = .returned v /\ Outer w w' /\ K v w'.heap) a'.defers .returning w' := by
    intro g ha ho hx
    rw [ha.ds]
    refine leave_ok _ (fun w2 hr => ?_) g.ds w' ho hx
    obtain ⟨vs, hk, hr⟩ := results_run ha rfl hr
    exact ⟨_, hr, hk⟩
  cases e with
  | normal => obtain ⟨g, ha, hr, ho⟩ := he; exact fin g ha ho hr
  | ret => obtain ⟨g, ha, hr, ho⟩ := he; exact fin g ha ho hr
  | exit id => obtain ⟨g, ha, hr, ho⟩ := he; exact hr.elim
  | goto l => obtain ⟨g, ha, hr, ho⟩ := he; exact hr.elim
  | panic ch => exact he.elim
  | outgrown => exact he.elim
end Go.Sh
namespace Go.Sh
open Go
set_option linter.unusedVariables false
def cFst : Code -> Code
  | .seq a _ => a
  | .cond _ a _ => a
  | .block _ c => c
  | .loop c => c
  | .scope c => c
  | .rangeFunc _ _ a _ => a
  | c => c
def cSnd : Code -> Code
  | .seq _ b => b
  | .cond _ _ b => b
  | .rangeFunc _ _ _ b => b
  | c => c
def bodyOf (f : Func) : Code := f.body.getD .skip
theorem upd_self {g : Env} {s : Nat} {x : Value} (h : g.v s = x) : g.upd (some s) x = g := by
  subst h
  unfold Env.upd
  have e : (fun j => cond (Nat.beq j s) (g.v s) (g.v j)) = g.v := by
    funext j
    cases hb : Nat.beq j s with
    | false => rfl
    | true => rw [Nat.eq_of_beq_eq_true hb]; rfl
  show (⟨fun j => cond (Nat.beq j s) (g.v s) (g.v j), g.ds⟩ : Env) = g
  rw [e]
theorem env_ds {g : Env} {d : List Deferred} (h : g.ds = d) : (⟨g.v, d⟩ : Env) = g := by subst h; rfl
def CallV (P : Program) (ty : TypeId) (f : Value) (args : Array Value) (h : H) (next : Value -> H -> Prop) : Prop := funx P f args (leafM P ty h next)
def nilDs (ds : List Deferred) (p : Prop) : Prop :=
  match ds with
  | [] => p
  | _ => False
theorem nilDs_ok {ds : List Deferred} {p : Prop} (h : nilDs ds p) : ds = [] /\ p := by
  unfold nilDs at h
  split at h
  · exact ⟨rfl, h⟩
  · exact h.elim
theorem vBool_ok {v : Value} {k : Bool -> Prop} (h : vBool v k) : ∃ x, v = .bool x /\ k x := by
  unfold vBool at h
  split at h
  · exact ⟨_, rfl, h⟩
  · exact h.elim
theorem vInt_ok {kd : IntKind} {v : Value} {k : Int -> Prop} (h : vInt kd v k) : ∃ x, v = .int kd x /\ k x := by
  unfold vInt at h
  split at h
  · split at h
    · rename_i e; subst e; exact ⟨_, rfl, h⟩
    · exact h.elim
  · exact h.elim
theorem vStr_ok {v : Value} {k : List UInt8 -> Prop} (h : vStr v k) : ∃ x, v = S x /\ k x := by
  unfold vStr at h
  split at h
  · exact ⟨_, rfl, h⟩
  · exact h.elim
theorem vSlice_ok {v : Value} {k : Option Addr -> Nat -> Nat -> Prop} (h : vSlice v k) : ∃ b n c, v = .slice b n c /\ k b n c := by
  unfold vSlice at h
  split at h
  · exact ⟨_, _, _, rfl, h⟩
  · exact h.elim
theorem vPtr_ok {v : Value} {k : Option Addr -> Prop} (h : vPtr v k) : ∃ x, v = .pointer x /\ k x := by
  unfold vPtr at h
  split at h
  · exact ⟨_, rfl, h⟩
  · exact h.elim
theorem vMap_ok {v : Value} {k : Option Nat -> Prop} (h : vMap v k) : ∃ x, v = .map x /\ k x := by
  unfold vMap at h
  split at h
  · exact ⟨_, rfl, h⟩
  · exact h.elim
theorem vAgg_ok {v : Value} {k : List Value -> Prop} (h : vAgg v k) : ∃ l, v = .agg ⟨l⟩ /\ k l := by
  unfold vAgg at h
  split at h
  · exact ⟨_, rfl, h⟩
  · exact h.elim
theorem uncons_ok {l : List Value} {k : Value -> List Value -> Prop} (h : uncons l k) : ∃ a t, l = a :: t /\ k a t := by
  unfold uncons at h
  split at h
  · exact ⟨_, _, rfl, h⟩
  · exact h.elim
theorem unnil_ok {l : List Value} {p : Prop} (h : unnil l p) : l = [] /\ p := by
  unfold unnil at h
  split at h
  · exact ⟨rfl, h⟩
  · exact h.elim
section
variable {ro : Option Nat} {P : Program} {n : Nat} {Q Q' : XPost} {g g' : Env} {h : H} {c : Code}
theorem wpC_of_wpx (hm : P.follows .mixedOrders = true) (hd : drawOK P c = true) (e : g' = g) (hx : wpx ro P n c Q g' h) : wpC ro P n c Q g h := by
  subst e; exact wpx_ok hm c Q _ h hd hx
theorem wpC_seq' {x y : Code} (hc : c = .seq x y) (hx : wpC ro P n x Q' g h) (hy : ∀ e g h, Q' e g h -> thenX (wpC ro P n y Q) Q e g h) : wpC ro P n c Q g h := by
  subst hc; exact wpC_seq (hx.mono hy)
theorem wpC_block' {id : Nat} {x : Code} (hc : c = .block id x) (hx : wpC ro P n x Q' g h) (hy : ∀ e g h, Q' e g h -> inBlockX id Q e g h) : wpC ro P n c Q g h := by
  subst hc; exact wpC_block (hx.mono hy)
theorem wpC_cond' {o : Operand} {x y : Code} {b : Bool} (hc : c = .cond o x y) (hb : evalE n g o = .bool b) (hx : b = true -> wpC ro P n x Q g h) (hy : b = false -> wpC ro P n y Q g h) : wpC ro P n c Q g h := by
  subst hc
  refine wpC_cond hb ?_
  cases b
  · exact hy rfl
  · exact hx rfl
theorem wpC_loop' {x : Code} (hc : c = .loop x) (R : Nat -> Env -> H -> Prop) (h0 : ∀ g h, ¬ R 0 g h) (hs : ∀ k g h, R (k + 1) g h -> wpC ro P n x (thenX (R k) Q) g h) (k : Nat) (hx : R k g h) : wpC ro P n c Q g h := by
  subst hc; exact wpC_loop R h0 hs k hx
end
abbrev HL := List (Nat × Value)
@[reducible] def Held (g : Env) : HL -> Prop
  | [] => g.ds = []
  | (i, v) :: l => g.v i = v /\ Held g l
def setL (g : Env) : HL -> Env
  | [] => g
  | (i, v) :: l => setL (g.upd (some i) v) l
theorem setL_eq {g : Env} {l : HL} (hg : Held g l) : setL ⟨g.v, []⟩ l = g := by
  have hd : g.ds = [] := by
    induction l with
    | nil => exact hg
    | cons p l ih => exact ih hg.2
  rw [env_ds hd]
  induction l with
  | nil => rfl
  | cons p l ih =>
    show setL (g.upd (some p.1) p.2) l = g
    rw [upd_self hg.1]
    exact ih hg.2
def QX (N R : Env -> H -> Prop) (X : Nat -> Env -> H -> Prop) : XPost
  | .normal, g, h => N g h
  | .ret, g, h => R g h
  | .exit i, g, h => X i g h
  | _, _, _ => False
def noX : Nat -> Env -> H -> Prop := fun _ _ _ => False
def exX (b : Nat) (N : Env -> H -> Prop) (X : Nat -> Env -> H -> Prop) : Nat -> Env -> H -> Prop := fun i g h => cond (Nat.beq i b) (N g h) (X i g h)
section
variable {ro : Option Nat} {P : Program} {n : Nat} {Q Q' : XPost} {g g' : Env} {h : H} {c x y : Code} {N N' R : Env -> H -> Prop} {X : Nat -> Env -> H -> Prop}
theorem leafN {A : Prop} {l : HL} (hm : P.follows .mixedOrders = true) (hd : drawOK P c = true) (hg : Held g l) (hS : A) (he : A = wpx ro P n c Q (setL ⟨g.v, []⟩ l) h) : wpC ro P n c Q g h := by
  subst he
  rw [setL_eq hg] at hS
  exact wpx_ok hm c Q _ h hd hS
theorem seqN (hc : c = .seq x y) (hx : wpC ro P n x (QX N' R X) g h) (hy : ∀ {g h}, N' g h -> wpC ro P n y (QX N R X) g h) : wpC ro P n c (QX N R X) g h := by
  refine wpC_seq' hc hx fun e g h hq => ?_
  cases e with
  | normal => exact hy hq
  | _ => exact hq
theorem blockN {b : Nat} (hc : c = .block b x) (hx : wpC ro P n x (QX N R (exX b N X)) g h) : wpC ro P n c (QX N R X) g h := by
  refine wpC_block' hc hx fun e g h hq => ?_
  cases e <;> exact hq
theorem condN {i : Nat} {b : Bool} {A B : Prop} (hc : c = .cond (.tmp i) x y) (hi : Nat.blt i n = true) (hv : g.v i = .bool b) (hS : cond b A B) (hx : A -> b = true -> wpC ro P n x Q g h) (hy : B -> b = false -> wpC ro P n y Q g h) : wpC ro P n c Q g h := by
  have e : evalE n g (.tmp i) = .bool b := by
    show cond (Nat.blt i n) (g.v i) undef = _
    rw [hi, hv]; rfl
  refine wpC_cond' hc e (fun hb => ?_) (fun hb => ?_)
  · subst hb; exact hx hS rfl
  · subst hb; exact hy hS rfl
theorem loopN {I : Nat -> Env -> H -> Prop} (hc : c = .loop x) (h0 : ∀ {g h}, I 0 g h -> False) (hs : ∀ {k g h}, I (k + 1) g h -> wpC ro P n x (QX (I k) R X) g h) (k : Nat) (hx : I k g h) : wpC ro P n c (QX N R X) g h := by
  refine wpC_loop' hc I (fun g h hi => h0 hi) (fun k g h hi => (hs hi).mono ?_) k hx
  intro e g h hq
  cases e <;> exact hq
end
section
variable {v : Value} {p : Prop}
end
section
variable {l : List Value}
end
section
variable {P : Program} {n : Nat} {g : Env} {h : H} {K : Value -> H -> Prop}
theorem retN {A : Prop} {l : HL} {rs : List ResultVar} (hg : Held g l) (hS : A) (he : A = retX P n rs K .normal (setL ⟨g.v, []⟩ l) h) : retX P n rs K .normal g h := by
  subst he
  rw [setL_eq hg] at hS
  exact hS
theorem callsN {f : FuncId} {fn : Func} {c : Code} {args : Array Value} {N : Env -> H -> Prop} (hf : P.funcs[f]? = some fn) (hb : fn.body = some c) (hn : Nat.ble args.size fn.ntmps = true)
    (hx : wpC none P fn.ntmps c (QX N N noX) (env0 args.toList) h) (hr : ∀ {g h}, N g h -> retX P fn.ntmps fn.results.toList K .normal g h) : HCalls P f args h K := by
  refine calls_of_wpC hf hb (Nat.le_of_ble_eq_true hn) (hx.mono ?_)
  intro e g h hq
  cases e with
  | normal => exact hr hq
  | ret => exact hr hq
  | _ => exact hq.elim
end
end Go.Sh
namespace Go.Sh
open Go
set_option linter.unusedVariables false
set_option linter.unusedSimpArgs false
variable {P : Program}
def loopish (o : Obj) : Bool :=
  match o with
  | .loop _ => true
  | .deferred _ => true
  | _ => false
def NzP (Pv : Nat -> Prop) (L : Nat) (h h1 : H) : Prop := h.size <= h1.size /\ ∀ (b : Nat) (o : Obj), h[b]? = some o -> ¬ Pv b -> (b = L -> loopish o = false) -> h1[b]? = some o
def KpR (Rd : Nat -> Prop) (h h1 : H) : Prop := h.size <= h1.size /\ ∀ (b : Nat) (o : Obj), h[b]? = some o -> Rd b -> loopish o = false -> h1[b]? = some o
def KpP (Rd : Nat -> Prop) (h h1 : H) : Prop := (∀ (b : Nat) (o : Obj), h[b]? = some o -> loopish o = true -> h1[b]? = some o) /\ KpR Rd h h1
def ItP (Pv : Nat -> Prop) (h h1 : H) : Prop := h.size <= h1.size /\ ∀ (b : Nat) (o : Obj), h[b]? = some o -> (Pv b -> loopish o = true) -> h1[b]? = some o
def dOpen (D : Nat) (h : H) : Prop := h[D]? = some (.deferred (some []))
theorem NzP.refl (Pv : Nat -> Prop) (L : Nat) (h : H) : NzP Pv L h h := ⟨Nat.le_refl _, fun _ _ e _ _ => e⟩
theorem NzP.trans {Pv : Nat -> Prop} {L : Nat} {a b c : H} (h : NzP Pv L a b) (k : NzP Pv L b c) : NzP Pv L a c := ⟨Nat.le_trans h.1 k.1, fun i o e hp hl => k.2 i o (h.2 i o e hp hl) hp hl⟩
theorem ItP.nz {Pv : Nat -> Prop} {a b : H} (L : Nat) (h : ItP Pv a b) : NzP Pv L a b := ⟨h.1, fun i o e hp hl => h.2 i o e fun x => absurd x hp⟩
theorem ItP.loop {Pv : Nat -> Prop} {a b : H} (h : ItP Pv a b) {i : Nat} {o : Obj} (e : a[i]? = some o) (hl : loopish o = true) : b[i]? = some o := h.2 i o e fun _ => hl
theorem NzP.push (Pv : Nat -> Prop) (L : Nat) (h : H) (o : Obj) : NzP Pv L h (h.push o) :=
  ⟨by simp, fun b o' e _ _ => by
    have hlt : b < h.size := (Array.getElem?_eq_some_iff.1 e).1
    rw [Array.getElem?_push_lt hlt, <- e, Array.getElem?_eq_getElem hlt]⟩
theorem NzP.set {Pv : Nat -> Prop} {h : H} {L : Nat} {o : Obj} (o' : Obj) (e : h[L]? = some o) (hl : loopish o = true) : NzP Pv L h (h.setIfInBounds L o') :=
  ⟨by simp, fun b ob hb _ hlb => by
    by_cases hbl : L = b
    · subst hbl
      have := hlb rfl
      rw [e] at hb; cases hb; rw [hl] at this; cases this
    · rw [Array.getElem?_setIfInBounds_ne hbl]; exact hb⟩
theorem KpR.refl (Rd : Nat -> Prop) (h : H) : KpR Rd h h := ⟨Nat.le_refl _, fun _ _ e _ _ => e⟩
theorem KpR.trans {Rd : Nat -> Prop} {a b c : H} (h : KpR Rd a b) (k : KpR Rd b c) : KpR Rd a c := ⟨Nat.le_trans h.1 k.1, fun i o e hr hl => k.2 i o (h.2 i o e hr hl) hr hl⟩
theorem KpR.set {Rd : Nat -> Prop} {h : H} {L : Nat} {o : Obj} (o' : Obj) (e : h[L]? = some o) (hl : loopish o = true) : KpR Rd h (h.setIfInBounds L o') :=
  ⟨by simp, fun b ob hb _ hlb => by
    by_cases hbl : L = b
    · subst hbl; rw [e] at hb; cases hb; rw [hl] at hlb; cases hlb
    · rw [Array.getElem?_setIfInBounds_ne hbl]; exact hb⟩
abbrev Round := List Value -> (H -> (H -> Prop) -> Prop) -> (H -> H -> Prop) -> (H -> H -> (H -> Prop) -> Prop) -> H -> Prop
def rounds (D : Nat) (Pv Rd : Nat -> Prop) (rd : Round) (done : H -> Prop) : List (List Value) -> H -> Prop
  | [], h => ∀ h1, NzP Pv (D + 1) h h1 -> dOpen D h1 -> done h1
  | x :: xs, h => ∀ h1, NzP Pv (D + 1) h h1 -> rd x (fun he p => KpP Rd h1 he /\ ∀ h2, NzP Pv (D + 1) he h2 -> p h2) (fun hb h' => KpP Rd hb h' /\ rounds D Pv Rd rd done xs h')
      (fun hb h' p => KpP Rd hb h' /\ ∀ h4, NzP Pv (D + 1) h' h4 -> dOpen D h4 -> p h4) h1
theorem rounds_nz {D : Nat} {Pv Rd : Nat -> Prop} {rd : Round} {done : H -> Prop} : ∀ {xs : List (List Value)} {h h1 : H}, rounds D Pv Rd rd done xs h -> NzP Pv (D + 1) h h1 -> rounds D Pv Rd rd done xs h1
  | [], _, _, hr, hn => fun h2 h2n => hr h2 (hn.trans h2n)
  | _ :: _, _, _, hr, hn => fun h2 h2n => hr h2 (hn.trans h2n)
def Emits (P : Program) (f : Value) (h : H) (xs : List (List Value)) (Pv Rd : Nat -> Prop) : Prop :=
  ∃ k first captured, f = .func (.func k) first captured /\ (∀ args w, (callFunc k args).run P w = .ok (.enter k args) w) /\
    ∀ (L : Nat) (J : List (List Value) -> H -> Prop) (Stop : H -> Prop) (h2 : H), NzP (fun _ => False) L h h2 ->
      (∀ r h' h'', J r h' -> ItP Pv h' h'' -> J r h'') -> (∀ h' h'', Stop h' -> ItP Pv h' h'' -> Stop h'') ->
      (∀ x rest h', J (x :: rest) h' -> YCalls P L ⟨x⟩ h' fun v h'' => (v = .bool true /\ J rest h'' /\ KpR Rd h' h'') ∨ (v = .bool false /\ Stop h'' /\ KpR Rd h' h'')) ->
      J xs h2 ->
      HCalls P k ⟨first.toList ++ [.func (.yield L) ⟨[]⟩ ⟨[]⟩] ++ captured.toList⟩ h2 fun _ h3 => J [] h3 ∨ Stop h3
def Ranges (P : Program) (f : Value) (m : Nat) (h : H) (rd : Round) (done : H -> Prop) : Prop :=
  ∃ xs Pv Rd, Emits P f h xs Pv Rd /\ (∀ x ∈ xs, x.length = m) /\ rounds h.size Pv Rd rd done xs h
def markD (D : Nat) : Deferred := { target := .collected D, args := #[] }
def setps (g : Env) : List Nat -> List Value -> Env
  | p :: ps, v :: vs => setps (g.upd (some p) v) ps vs
  | _, _ => ⟨g.v, []⟩
def rpost (Kc : H -> H -> Prop) (Fin : H -> H -> (H -> Prop) -> Prop) (Q : XPost) (gD : Env) (hb : H) : XPost
  | .normal, _, h' => Kc hb h'
  | .exit id, _, h' => Fin hb h' fun h4 => Q (.exit id) gD h4
  | .ret, _, h' => Fin hb h' fun h4 => Q .ret gD h4
  | _, _, _ => False
theorem agree_setps {n : Nat} {ds : List Deferred} : ∀ {ps : List Nat} {vs : List Value} {a : Act} {g : Env}, ps.length = vs.length -> Agree n a g ->
    Agree n { tmps := (ps.zip vs).foldl (fun tmps (t, v) => tmps.setIfInBounds t v) a.tmps, defers := [] } (setps g ps vs)
  | [], [], a, g, _, ha => ⟨rfl, ha.size, ha.tmp⟩
  | p :: ps, v :: vs, a, g, hl, ha => by
    have h2 := ha.put (some p) v
    have := agree_setps (ds := ds) (ps := ps) (vs := vs) (by simpa using hl) h2
    exact this
  | [], _ :: _, _, _, hl, _ => by simp at hl
  | _ :: _, [], _, _, hl, _ => by simp at hl
theorem alloc_old (w : World) (o : Obj) (b : Nat) (h : b < w.heap.size) : (w.alloc o).heap[b]? = w.heap[b]? := by
  show (w.heap.push o)[b]? = w.heap[b]?
  rw [Array.getElem?_push_lt h, Array.getElem?_eq_getElem h]
theorem wpC_range {n : Nat} {fo : Operand} {ps : Array Tmp} {assign body : Code} {Q : XPost} {g : Env} {h : H} {f : Value} {rd : Round} {done : H -> Prop}
    (hf : evalE n g fo = f) (hR : Ranges P f ps.toList.length h rd done)
    (hdone : ∀ h', done h' -> Q .normal ⟨g.v, markD h.size :: g.ds⟩ h')
    (hrd : ∀ L x Mid Kc Fin h1, (∀ he (p q : H -> Prop), (∀ h, p h -> q h) -> Mid he p -> Mid he q) -> rd x Mid Kc Fin h1 ->
      wpC (some L) P n assign (thenX (fun g1 he => Mid he fun hb => wpC (some L) P n body (rpost Kc Fin Q ⟨g.v, markD h.size :: g.ds⟩ hb) g1 hb) fun _ _ _ => False) (setps g ps.toList x) h1) :
    wpC none P n (.rangeFunc fo ps assign body) Q g h := by
  intro w0 w a hw ho ha
  obtain ⟨xs, Pv, Rd, ⟨k, first, captured, hfv, henter, hem⟩, hlen, hro⟩ := hR
  refine wpIn_rangeFunc fun fn _ => ?_
  subst hw
  obtain ⟨rec, hrec⟩ : ∃ rec : LoopState -> Option Code -> Loop, rec = fun st pe => { state := st, pending := pe, fn, tmps := a.tmps, params := ps, assign, body, defers := w.heap.size } := ⟨_, rfl⟩
  obtain ⟨W1, hW1⟩ : ∃ W1, (w.alloc (.deferred (some []))).alloc (.loop (rec .ready none)) = W1 := ⟨_, rfl⟩
  have hL1 : W1.heap[w.heap.size + 1]? = some (.loop (rec .ready none)) := by
    rw [<- hW1]; have := World.alloc_heap_new (w.alloc (.deferred (some []))) (.loop (rec .ready none)); rwa [World.size_alloc] at this
  have hD1 : dOpen w.heap.size W1.heap := by
    show W1.heap[w.heap.size]? = _
    rw [<- hW1]; exact (alloc_old _ _ _ (by simp)).trans (World.alloc_heap_new w _)
  have hO1 : Outer w W1 := by rw [<- hW1]; exact ⟨rfl, rfl, rfl⟩
  have hN1 : NzP Pv (w.heap.size + 1) w.heap W1.heap := by rw [<- hW1]; exact (NzP.push Pv _ _ _).trans (NzP.push Pv _ _ _)
  have hev : a.eval fo = .func (.func k) first captured := by rw [ha.eval, hf, hfv]
  refine ⟨w.heap.size + 1, [markD w.heap.size], W1, { target := .fn (.func k) captured, args := first ++ #[.func (.yield (w.heap.size + 1)) #[] #[]] }, W1, k,
    (first ++ #[.func (.yield (w.heap.size + 1)) #[] #[]]) ++ captured, W1, ?_, ?_, fun _ _ => trivial, ?_, (fun hd => by cases hd), ?_⟩
  · rw [<- hW1, hrec]; exact run_enterLoop_outer _ _ _ _ _
  · show (resolve a.eval (rangeCall fo (w.heap.size + 1)) 0).run P W1 = _
    show (Deferred.ofValue (a.eval fo) ((#[Operand.const (.func (.yield (w.heap.size + 1)) #[] #[])] : Array Operand).map a.eval)).run P W1 = _
    rw [hev]
    simp [Deferred.ofValue, Act.eval]
  · show (invoke (.fn (.func k) captured) _).run P W1 = _
    exact henter _ W1
  · refine calls_fr ?_
    have hargs : (first ++ #[.func (.yield (w.heap.size + 1)) #[] #[]]) ++ captured = (⟨first.toList ++ [.func (.yield (w.heap.size + 1)) ⟨[]⟩ ⟨[]⟩] ++ captured.toList⟩ : Array Value) := Array.ext' (by simp)
    rw [hargs]
    let J : List (List Value) -> H -> Prop := fun r h' => (∀ x ∈ r, x.length = ps.toList.length) /\ h'[w.heap.size + 1]? = some (.loop (rec .ready none)) /\ dOpen w.heap.size h' /\ rounds w.heap.size Pv Rd rd done r h'
    let Stop : H -> Prop := fun h' => ∃ c, h'[w.heap.size + 1]? = some (.loop (rec .done (some c))) /\ dOpen w.heap.size h' /\
      ((c = .ret /\ ∀ h4, NzP Pv (w.heap.size + 1) h' h4 -> dOpen w.heap.size h4 -> Q .ret ⟨g.v, markD w.heap.size :: g.ds⟩ h4) ∨
       ∃ id, c = .exit id /\ ∀ h4, NzP Pv (w.heap.size + 1) h' h4 -> dOpen w.heap.size h4 -> Q (.exit id) ⟨g.v, markD w.heap.size :: g.ds⟩ h4)
    have hJ : ∀ r h' h'', J r h' -> ItP Pv h' h'' -> J r h'' := fun r h' h'' ⟨h0, h1, h2, h3⟩ hi => ⟨h0, hi.loop h1 rfl, hi.loop h2 rfl, rounds_nz h3 (hi.nz _)⟩
    have hS : ∀ h' h'', Stop h' -> ItP Pv h' h'' -> Stop h'' := fun h' h'' ⟨c, h1, h2, h3⟩ hi => ⟨c, hi.loop h1 rfl, hi.loop h2 rfl, h3.imp
      (fun ⟨e, k⟩ => ⟨e, fun h4 hn => k h4 ((hi.nz _).trans hn)⟩) (fun ⟨id, e, k⟩ => ⟨id, e, fun h4 hn => k h4 ((hi.nz _).trans hn)⟩)⟩
    have agreeD : Agree n { a with defers := [markD w.heap.size] ++ a.defers } ⟨g.v, markD w.heap.size :: g.ds⟩ := ⟨by show [markD w.heap.size] ++ a.defers = _; rw [ha.ds]; rfl, ha.size, ha.tmp⟩
    have hY : ∀ x rest h', J (x :: rest) h' -> YCalls P (w.heap.size + 1) ⟨x⟩ h' fun v h'' => (v = .bool true /\ J rest h'' /\ KpR Rd h' h'') ∨ (v = .bool false /\ Stop h'' /\ KpR Rd h' h'') := by
      rintro x rest h' ⟨hlx, hl, hd, hr⟩ W hWh
      subst hWh
      have hxl : x.length = ps.toList.length := hlx x (by simp)
      have hy := run_yield (P := P) (args := ⟨x⟩) hl (by rw [hrec]; simp [hxl])
      rw [hrec] at hy
      refine ⟨fn, _, assign, body, hy, roundIn_of_wpIn (F := Fence.wide) trivial ?_⟩
      have hx := hr W.heap (NzP.refl _ _ _)
      have hwp := hrd (w.heap.size + 1) x _ _ _ W.heap (fun he p q hpq hm => ⟨hm.1, fun h2 hn => hpq _ (hm.2 h2 hn)⟩) hx
      have hag : Agree n { tmps := (ps.zip ⟨x⟩).foldl (fun tmps (t, v) => tmps.setIfInBounds t v) a.tmps, defers := [] } (setps g ps.toList x) := by
        have := agree_setps (ds := []) (ps := ps.toList) (vs := x) (by rw [hxl]) ha
        have e : (ps.zip ⟨x⟩).foldl (fun tmps (t, v) => tmps.setIfInBounds t v) a.tmps = (ps.toList.zip x).foldl (fun tmps (t, v) => tmps.setIfInBounds t v) a.tmps := by
          rw [<- Array.foldl_toList]; simp
        rw [e]; exact this
      refine wpIn_mono (hwp W W _ rfl (Outer.refl W) hag) fun e a1 w1 he => ?_
      cases e with
      | normal =>
        obtain ⟨g1, ha1, ⟨hk1, hbody⟩, ho1⟩ := he
        have hl1 := hk1.1 _ _ hl rfl
        have hd1 := hk1.1 _ _ hd rfl
        refine ⟨_, run_beginRound hl1 (by rw [hrec]), ?_⟩
        have hn2 : NzP Pv (w.heap.size + 1) w1.heap (w1.putObj (w.heap.size + 1) (.loop { rec .ready none with state := .busy })).heap := NzP.set _ hl1 rfl
        have hr2 : KpR Rd w1.heap (w1.putObj (w.heap.size + 1) (.loop { rec .ready none with state := .busy })).heap := KpR.set _ hl1 rfl
        have hb2 := hbody _ hn2
        have hlt : w.heap.size + 1 < w1.heap.size := (Array.getElem?_eq_some_iff.1 hl1).1
        have hl2 : (w1.putObj (w.heap.size + 1) (.loop { rec .ready none with state := .busy })).heap[w.heap.size + 1]? = some (.loop { rec .ready none with state := .busy }) := World.putObj_heap_same hlt
        have hd2 : dOpen w.heap.size (w1.putObj (w.heap.size + 1) (.loop { rec .ready none with state := .busy })).heap := (World.putObj_heap_other (by omega)).trans hd1
        have ho2 : Outer W (w1.putObj (w.heap.size + 1) (.loop { rec .ready none with state := .busy })) := ⟨ho1.tape, ho1.os, ho1.output⟩
        refine wpIn_mono (hb2 W _ a1 rfl ho2 ha1) fun e2 a3 W3 hp => ?_
        have fin : ∀ (jump : Option Code), KpP Rd (w1.putObj (w.heap.size + 1) (.loop { rec .ready none with state := .busy })).heap W3.heap ->
            (Instr.endRound (w.heap.size + 1) jump).run P W3 = .ok (.bool jump.isNone) (W3.putObj (w.heap.size + 1) (.loop (rec (if jump.isNone then .ready else .done) jump))) /\
            (W3.putObj (w.heap.size + 1) (.loop (rec (if jump.isNone then .ready else .done) jump))).heap[w.heap.size + 1]? = some (.loop (rec (if jump.isNone then .ready else .done) jump)) /\
            dOpen w.heap.size (W3.putObj (w.heap.size + 1) (.loop (rec (if jump.isNone then .ready else .done) jump))).heap /\
            NzP Pv (w.heap.size + 1) W3.heap (W3.putObj (w.heap.size + 1) (.loop (rec (if jump.isNone then .ready else .done) jump))).heap /\
            KpR Rd W.heap (W3.putObj (w.heap.size + 1) (.loop (rec (if jump.isNone then .ready else .done) jump))).heap := fun jump hk3 => by
          have hl3 := hk3.1 _ _ hl2 rfl
          have hd3 := hk3.1 _ _ hd2 rfl
          have := run_endRound (P := P) jump hl3
          rw [hrec] at this ⊢
          exact ⟨this, World.putObj_heap_same (Array.getElem?_eq_some_iff.1 hl3).1, (World.putObj_heap_other (by omega)).trans hd3, NzP.set _ hl3 rfl,
            ((KpR.trans hk1.2 hr2).trans hk3.2).trans (KpR.set _ hl3 rfl)⟩
        cases e2 with
        | normal =>
          obtain ⟨g3, ha3, ⟨hk3, hrs⟩, ho3⟩ := hp
          obtain ⟨hrun, hl4, hd4, hn4, hkr⟩ := fin none hk3
          exact ⟨_, _, hrun, _, rfl, ⟨ho3.tape, ho3.os, ho3.output⟩, .inl ⟨rfl, ⟨fun y hy => hlx y (by simp [hy]), hl4, hd4, rounds_nz hrs hn4⟩, hkr⟩⟩
        | ret =>
          obtain ⟨g3, ha3, ⟨hk3, hf3⟩, ho3⟩ := hp
          obtain ⟨hrun, hl4, hd4, hn4, hkr⟩ := fin (some .ret) hk3
          exact ⟨_, _, hrun, _, rfl, ⟨ho3.tape, ho3.os, ho3.output⟩, .inr ⟨rfl, ⟨.ret, hl4, hd4, .inl ⟨rfl, fun h4 hn hdo => hf3 h4 (hn4.trans hn) hdo⟩⟩, hkr⟩⟩
        | exit id =>
          obtain ⟨g3, ha3, ⟨hk3, hf3⟩, ho3⟩ := hp
          obtain ⟨hrun, hl4, hd4, hn4, hkr⟩ := fin (some (.exit id)) hk3
          exact ⟨_, _, hrun, _, rfl, ⟨ho3.tape, ho3.os, ho3.output⟩, .inr ⟨rfl, ⟨.exit id, hl4, hd4, .inr ⟨id, rfl, fun h4 hn hdo => hf3 h4 (hn4.trans hn) hdo⟩⟩, hkr⟩⟩
        | goto t => obtain ⟨g3, ha3, hx3, ho3⟩ := hp; exact hx3.elim
        | panic ch => exact hp.elim
        | outgrown => exact hp.elim
      | ret => obtain ⟨_, _, hx, _⟩ := he; exact hx.elim
      | exit id => obtain ⟨_, _, hx, _⟩ := he; exact hx.elim
      | goto t => obtain ⟨_, _, hx, _⟩ := he; exact hx.elim
      | panic ch => exact he.elim
      | outgrown => exact he.elim
    refine (hem (w.heap.size + 1) J Stop W1.heap (by rw [<- hW1]; exact (NzP.push _ _ _ _).trans (NzP.push _ _ _ _)) hJ hS hY ⟨hlen, hL1, hD1, rounds_nz hro hN1⟩ W1 rfl).mono ?_
    rintro e W2 ⟨v, rfl, ho2, hx⟩
    rcases hx with ⟨_, hl, hd, hr⟩ | ⟨c, hl, hd, hc⟩
    · have he := run_endLoop (P := P) hl (by rw [hrec]; simp)
      have hn : NzP Pv (w.heap.size + 1) W2.heap (W2.putObj (w.heap.size + 1) (.loop { rec .ready none with state := .exhausted })).heap := NzP.set _ hl rfl
      have hd2 : dOpen w.heap.size (W2.putObj (w.heap.size + 1) (.loop { rec .ready none with state := .exhausted })).heap := (World.putObj_heap_other (by omega)).trans hd
      have e2 : (rec .ready none).pending = none := by rw [hrec]
      have he := he.trans (congrArg (fun j => Result.ok j (W2.putObj (w.heap.size + 1) (.loop { rec .ready none with state := .exhausted }))) e2)
      refine ⟨none, _, he, _, agreeD, hdone _ (hr _ hn hd2), ?_⟩
      have := ho.trans (hO1.trans ho2)
      exact ⟨this.tape, this.os, this.output⟩
    · have he := run_endLoop (P := P) hl (by rw [hrec]; simp)
      have hn : NzP Pv (w.heap.size + 1) W2.heap (W2.putObj (w.heap.size + 1) (.loop { rec .done (some c) with state := .exhausted })).heap := NzP.set _ hl rfl
      have hd2 : dOpen w.heap.size (W2.putObj (w.heap.size + 1) (.loop { rec .done (some c) with state := .exhausted })).heap := (World.putObj_heap_other (by omega)).trans hd
      have hot := ho.trans (hO1.trans ho2)
      have e2 : (rec .done (some c)).pending = some c := by rw [hrec]
      have he := he.trans (congrArg (fun j => Result.ok j (W2.putObj (w.heap.size + 1) (.loop { rec .done (some c) with state := .exhausted }))) e2)
      refine ⟨some c, _, he, ?_⟩
      rcases hc with ⟨rfl, hc⟩ | ⟨id, rfl, hc⟩
      · exact wpIn_ret ⟨_, agreeD, hc _ hn hd2, ⟨hot.tape, hot.os, hot.output⟩⟩
      · exact wpIn_exit ⟨_, agreeD, hc _ hn hd2, ⟨hot.tape, hot.os, hot.output⟩⟩
end Go.Sh
namespace Go.Sh
open Go
set_option linter.unusedVariables false
set_option linter.unusedSimpArgs false
variable {P : Program}
theorem stepR_scope {b : Frame} {a : Act} {k : List Item} {cs : List Frame} {w : World} {c : Code} :
    step P (lone (b.atR a (.code (.scope c) :: k)) cs w) = .next (lone (b.atR a (.code c :: .inScope c :: k)) cs w) :=
  step_lone_go (by simp [stepG, stepG.exec, Frame.atR])
theorem stepR_inScope {b : Frame} {a : Act} {k : List Item} {cs : List Frame} {w : World} {c : Code} :
    step P (lone (b.atR a (.inScope c :: k)) cs w) = .next (lone (b.atR a k) cs w) :=
  step_lone_go (by simp [stepG, stepG.exec, Frame.atR])
def scopeX (R : Nat -> Env -> H -> Prop) (Q : XPost) : XPost
  | .goto l, g, h => R l g h
  | e, g, h => Q e g h
theorem wpC_scope {ro : Option Nat} {n : Nat} {c body : Code} {Q : XPost} {g : Env} {h : H} (hc : c = .scope body) (R : Nat -> Nat -> Env -> H -> Prop) (h0 : ∀ l g h, ¬ R 0 l g h)
    (hs : ∀ N l g h, R (N + 1) l g h -> ∃ rest, findLabel body l = some rest /\ wpC ro P n rest (scopeX (R N) Q) g h) (N : Nat) (hx : wpC ro P n body (scopeX (R N) Q) g h) :
    wpC ro P n c Q g h := by
  subst hc
  intro w0 w a hw ho ha b k cs hro hb hr
  have key : ∀ (N : Nat) (x : Code) (g : Env) (h : H) (w : World) (a : Act), wpC ro P n x (scopeX (R N) Q) g h -> w.heap = h -> Outer w0 w -> Agree n a g ->
      ∃ e a' w', lift n w0 Q e a' w' /\ ArrivesIn (Machine.fenced P (Fr ro)) P (lone (b.atR a (.code x :: .inScope body :: k)) cs w) b k cs e a' w' := by
    intro N
    induction N with
    | zero =>
      intro x g h w a hx hw ho ha
      obtain ⟨e, a₁, w₁, hq, harr⟩ := hx w0 w a hw ho ha b (.inScope body :: k) cs hro hb hr
      cases e with
      | normal => exact ⟨.normal, a₁, w₁, hq, StepsIn.trans harr (.one (fenced_calm hb hr rfl) stepR_inScope)⟩
      | exit id => exact ⟨.exit id, a₁, w₁, hq, fun k' hk => harr.1 k' (by simp [exitTo, hk]), fun hr' hk => harr.2 hr' (by simp [exitTo, hk])⟩
      | goto l => obtain ⟨g', _, hg, _⟩ := hq; exact absurd hg (h0 l g' _)
      | ret => exact ⟨.ret, a₁, w₁, hq, harr⟩
      | panic ch => exact hq.elim
      | outgrown => exact hq.elim
    | succ N ih =>
      intro x g h w a hx hw ho ha
      obtain ⟨e, a₁, w₁, hq, harr⟩ := hx w0 w a hw ho ha b (.inScope body :: k) cs hro hb hr
      cases e with
      | normal => exact ⟨.normal, a₁, w₁, hq, StepsIn.trans harr (.one (fenced_calm hb hr rfl) stepR_inScope)⟩
      | exit id => exact ⟨.exit id, a₁, w₁, hq, fun k' hk => harr.1 k' (by simp [exitTo, hk]), fun hr' hk => harr.2 hr' (by simp [exitTo, hk])⟩
      | goto l =>
        obtain ⟨g', ha', hg, ho'⟩ := hq
        obtain ⟨rest, hf, hw'⟩ := hs N l g' _ hg
        obtain ⟨e', a₂, w₂, hq₂, harr₂⟩ := ih rest g' _ w₁ a₁ hw' rfl ho' ha'
        exact ⟨e', a₂, w₂, hq₂, .of_steps (harr.1 (.code rest :: .inScope body :: k) (by simp [gotoIn, hf])) harr₂⟩
      | ret => exact ⟨.ret, a₁, w₁, hq, harr⟩
      | panic ch => exact hq.elim
      | outgrown => exact hq.elim
  obtain ⟨e, a₁, w₁, hq, harr⟩ := key N body g h w a hx hw ho ha
  exact ⟨e, a₁, w₁, hq, .of_steps (.one (fenced_calm hb hr rfl) stepR_scope) harr⟩
def unmark : List Deferred -> Option (List Nat)
  | [] => some []
  | d :: ds =>
    match d.target, d.args.toList, unmark ds with
    | .collected D, [], some l => some (D :: l)
    | _, _, _ => none
theorem scopeN {ro : Option Nat} {n : Nat} {c x : Code} {g : Env} {h : H} {N R : Env -> H -> Prop} {X : Nat -> Env -> H -> Prop} (hc : c = .scope x) (hx : wpC ro P n x (QX N R X) g h) : wpC ro P n c (QX N R X) g h := by
  refine wpC_scope hc (fun _ _ _ _ => False) (fun _ _ _ h => h) (fun _ _ _ _ h => h.elim) 0 (hx.mono ?_)
  intro e g h hq
  cases e <;> exact hq
end Go.Sh
