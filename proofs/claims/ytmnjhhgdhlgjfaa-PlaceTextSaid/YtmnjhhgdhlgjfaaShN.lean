/- A region that draws its order: the one order, and the test that it will do. No condition. -/
import Derived.Test.YtmnjhhgdhlgjfaaShM
namespace Go.Sh
open Go
set_option linter.unusedVariables false
set_option linter.unusedSimpArgs false
variable {P : Program}

/-- what an operation waits for, all told: one bit an operation -/
def plMask (ms : List Nat) (o : Oper) : Nat := o.after.toList.foldl (fun m e => cond (Region.binds .any e) (m ||| (1 <<< e.on) ||| ms.getD e.on 0) m) 0
def plMasks : List Oper → List Nat → List Nat
  | [], ms => ms
  | o :: l, ms => plMasks l (ms ++ [plMask ms o])
def plD (ms : List Nat) (s i k : Nat) : Bool := cond (Nat.blt k s) ((ms.getD i 0).testBit k) false
/-- the first that may be done: of those that read, else of all -/
def plNext (P : Program) (ops : List Oper) (ms : List Nat) (A : Nat) (eff : Bool) : List Nat → Option Nat
  | [] => none
  | i :: l =>
    match ops[i]? with
    | none => none
    | some o => cond (!A.testBit i && Nat.beq (ms.getD i 0 &&& A) (ms.getD i 0) && (eff || !isEff P o)) (some i) (plNext P ops ms A eff l)
def plOrd (P : Program) (ops : List Oper) (ms : List Nat) : Nat → Nat → List Nat
  | 0, _ => []
  | f + 1, A =>
    match plNext P ops ms A false (List.range ops.length) with
    | some i => i :: plOrd P ops ms f (A ||| (1 <<< i))
    | none =>
      match plNext P ops ms A true (List.range ops.length) with
      | some i => i :: plOrd P ops ms f (A ||| (1 <<< i))
      | none => []

def memB (i : Nat) (l : List Nat) : Bool := l.any fun j => Nat.beq j i
theorem memB_ok {i : Nat} {l : List Nat} (h : memB i l = true) : i ∈ l := by
  obtain ⟨j, hj, e⟩ := List.any_eq_true.1 h
  rw [← Nat.eq_of_beq_eq_true e]; exact hj
def nodupB : List Nat → Bool
  | [] => true
  | i :: l => !memB i l && nodupB l
theorem nodupB_ok : ∀ {l : List Nat}, nodupB l = true → l.Nodup
  | [], _ => List.nodup_nil
  | i :: l, h => by
    simp only [nodupB, Bool.and_eq_true, Bool.not_eq_true'] at h
    refine List.nodup_cons.2 ⟨fun hm => ?_, nodupB_ok h.2⟩
    have : memB i l = true := List.any_eq_true.2 ⟨i, hm, Nat.beq_refl i⟩
    rw [h.1] at this; cases this
/-- all pairs of operations, with their numbers -/
def allI (l : List Oper) (k : Nat) (p : Nat → Oper → Bool) : Bool :=
  match l with
  | [] => true
  | o :: l => p k o && allI l (k + 1) p
theorem allI_ok {p : Nat → Oper → Bool} : ∀ {l : List Oper} {k : Nat}, allI l k p = true → ∀ j o, l[j]? = some o → p (k + j) o = true
  | [], k, h, j, o, hj => by simp at hj
  | x :: l, k, h, j, o, hj => by
    simp only [allI, Bool.and_eq_true] at h
    cases j with
    | zero => simp at hj; subst hj; exact h.1
    | succ j =>
      have := allI_ok h.2 j o (by simpa using hj)
      rwa [show k + 1 + j = k + (j + 1) by omega] at this
/-- the order's own test: what each waits for stands before it, and it waits for all that acts there -/
def ordB (P : Program) (ops : List Oper) (D : Nat → Nat → Bool) : List Nat → List Nat → Bool
  | _, [] => true
  | A, i :: l =>
    allI ops 0 (fun k _ => !D i k || memB k A) &&
    A.all (fun k => match ops[k]? with | some o => !isEff P o || D i k | none => true) && ordB P ops D (i :: A) l
theorem ordB_ok {ops : List Oper} {D : Nat → Nat → Bool} : ∀ {l A0 : List Nat}, ordB P ops D A0 l = true → ∀ A i B, l = A ++ i :: B →
    (∀ k, k < ops.length → D i k = true → k ∈ A ∨ k ∈ A0) ∧ (∀ k, (k ∈ A ∨ k ∈ A0) → ∀ o, ops[k]? = some o → isEff P o = true → D i k = true)
  | [], A0, h, A, i, B, e => by simp at e
  | x :: l, A0, h, A, i, B, e => by
    simp only [ordB, Bool.and_eq_true] at h
    cases A with
    | nil =>
      simp at e
      obtain ⟨rfl, rfl⟩ := e
      refine ⟨fun k hk hD => .inr ?_, fun k hk o ho he => ?_⟩
      · have := allI_ok h.1.1 k ops[k] (List.getElem?_eq_getElem hk)
        simp only [Nat.zero_add, hD, Bool.not_true, Bool.false_or] at this
        exact memB_ok this
      · have := (List.all_eq_true.1 h.1.2) k (by simpa using hk)
        rw [ho] at this
        simpa [he] using this
    | cons y A =>
      simp at e
      obtain ⟨rfl, e⟩ := e
      obtain ⟨h1, h2⟩ := ordB_ok h.2 A i B e
      refine ⟨fun k hk hD => ?_, fun k hk => h2 k ?_⟩
      · rcases h1 k hk hD with h | h
        · exact .inl (by simp [h])
        · rcases List.mem_cons.1 h with rfl | h
          · exact .inl (by simp)
          · exact .inr h
      · rcases hk with h | h
        · rcases List.mem_cons.1 h with rfl | h
          · exact .inr (by simp)
          · exact .inl h
        · exact .inr (by simp [h])
def isSel (o : Oper) : Bool :=
  match o.op with
  | .select _ _ => true
  | _ => false
/-- does the order do? -/
def planB (P : Program) (ops : List Oper) (D : Nat → Nat → Bool) (ord : List Nat) : Bool :=
  nodupB ord && Nat.beq ord.length ops.length && ord.all (fun i => Nat.blt i ops.length) && allI ops 0 (fun i _ => memB i ord) &&
  ordB P ops D [] ord &&
  allI ops 0 (fun i o => !isSel o &&
    o.after.toList.all (fun e => !Region.binds .any e || (Nat.blt e.on ops.length && D i e.on)) &&
    allI ops 0 (fun k ok => !D i k || o.after.toList.any (fun e => Region.binds .any e && (Nat.beq e.on k || D e.on k))) &&
    (match o.dst with
     | none => true
     | some d => allI ops 0 (fun k ok => Nat.beq i k || ((match ok.dst with | some d' => !Nat.beq d' d | none => true) && (!memB d (ok.looksAt ops.toArray) || D k i || D i k)))))

theorem get_toList {ops : Array Oper} {i : Nat} {o : Oper} (h : ops[i]? = some o) : ops.toList[i]? = some o := by rw [Array.getElem?_toList]; exact h

theorem planB_ok {ops : Array Oper} {D : Nat → Nat → Bool} {ord : List Nat} (hD : ∀ i k, D i k = true → k < ops.size) (h : planB P ops.toList D ord = true) : PlanOK P ops D ord ∧ ord.length ≤ ops.size := by
  simp only [planB, Bool.and_eq_true] at h
  obtain ⟨⟨⟨⟨⟨h1, h2⟩, h3⟩, h4⟩, h5⟩, h6⟩ := h
  have hs : ∀ i (o : Oper), ops[i]? = some o → i < ops.size := fun i o h => (Array.getElem?_eq_some_iff.1 h).1
  have h6' := fun i o (ho : ops[i]? = some o) => allI_ok h6 i o (get_toList ho)
  refine ⟨⟨nodupB_ok h1, ?_, ?_, ?_, ?_, ?_, ?_, ?_, ?_⟩, ?_⟩
  · intro i hi
    have := allI_ok h4 i ops[i] (get_toList (Array.getElem?_eq_getElem hi))
    rw [Nat.zero_add] at this
    exact memB_ok this
  · intro i hi
    have := (List.all_eq_true.1 h3) i hi
    have := blt_yes this
    simpa using this
  · intro i o k ho hDk
    have hk := hD i k hDk
    have := h6' i o ho
    simp only [Bool.and_eq_true, Nat.zero_add] at this
    have := allI_ok this.1.2 k ops[k] (get_toList (Array.getElem?_eq_getElem hk))
    simp only [Nat.zero_add, hDk, Bool.not_true, Bool.false_or] at this
    obtain ⟨e, he, hb⟩ := List.any_eq_true.1 this
    simp only [Bool.and_eq_true, Bool.or_eq_true] at hb
    exact ⟨e, by simpa using he, hb.1, hb.2.imp Nat.eq_of_beq_eq_true id⟩
  · intro i o ho e he hb
    have := h6' i o ho
    simp only [Bool.and_eq_true, Nat.zero_add] at this
    have := (List.all_eq_true.1 this.1.1.2) e (by simpa using he)
    rw [hb] at this
    simp only [Bool.not_true, Bool.false_or, Bool.and_eq_true] at this
    exact this.2
  · intro A i B e k hk
    have := (ordB_ok h5 A i B e).1 k (by simpa using hD i k hk) hk
    simpa using this
  · intro A i B e k hk o ho he
    exact (ordB_ok h5 A i B e).2 k (.inl hk) o (get_toList ho) he
  · intro i k oi ok d hoi hok hne hd
    have := h6' i oi hoi
    simp only [Bool.and_eq_true, Nat.zero_add] at this
    have := this.2
    rw [hd] at this
    have := allI_ok this k ok (get_toList hok)
    have hb : Nat.beq i k = false := by
      cases hb : Nat.beq i k with
      | false => rfl
      | true => exact absurd (Nat.eq_of_beq_eq_true hb) hne
    simp only [Nat.zero_add, hb, Bool.false_or, Bool.and_eq_true] at this
    refine ⟨fun e => ?_, fun hm => ?_⟩
    · have h1 := this.1
      rw [e] at h1
      simp at h1
    · have h2 := this.2
      have hmb : memB d (ok.looksAt ops.toList.toArray) = true := List.any_eq_true.2 ⟨d, by simpa using hm, Nat.beq_refl d⟩
      rw [hmb] at h2
      simpa using h2
  · intro j o cs b ho e
    have := h6' j o ho
    simp only [Bool.and_eq_true, Nat.zero_add, Bool.not_eq_true'] at this
    have := this.1.1.1
    unfold isSel at this
    rw [e] at this
    cases this
  · have := Nat.eq_of_beq_eq_true h2
    simp at this
    omega

theorem plD_lt {ms : List Nat} {s i k : Nat} (h : plD ms s i k = true) : k < s := by
  unfold plD at h
  cases hb : Nat.blt k s with
  | true => exact blt_yes hb
  | false => rw [hb] at h; cases h

/-- the region's walk in the one order -/
def drawN (P : Program) (n : Nat) (ops : List Oper) (ms : List Nat) (next : Env → H → Prop) (g : Env) (h : H) : Prop :=
  nsx P n ops (plD ms ops.length) next (plOrd P ops ms ops.length 0) [] g h
def planNB (P : Program) (ops : List Oper) (ms : List Nat) : Bool := planB P ops (plD ms ops.length) (plOrd P ops ms ops.length 0) && noDefer ops

theorem drawN_ok2 {ro : Option Nat} {n id : Nat} {ops : Array Oper} {Q : XPost} {g : Env} {h : H} (hm : P.follows .mixedOrders = true)
    (hp : planNB P ops.toList (plMasks ops.toList []) = true) (hx : drawN P n ops.toList (plMasks ops.toList []) (Q .normal) g h) (w0 w : World) (a : Act)
    (hw : w.heap = h) (ho : Outer w0 w) (ha : Agree n a g) : (Code.region id ops true).wpIn (Fr ro) 0 P (lift n w0 Q) a w := by
  simp only [planNB, Bool.and_eq_true] at hp
  obtain ⟨h1, h2⟩ := planB_ok (fun i k hk => by have := plD_lt hk; simpa using this) hp.1
  exact drawN_ok hm h1 h2 hp.2 hx w0 w a hw ho ha
end Go.Sh
