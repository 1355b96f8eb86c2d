/- A region that draws its order, in the shallow form: what only reads is done as early as it may be; what acts stands in one row. No condition. -/
import Derived.Test.YtmnjhhgdhlgjfaaShG
namespace Go.Sh
open Go
set_option linter.unusedVariables false
set_option linter.unusedSimpArgs false
variable {P : Program}

/-- all that lay lies on -/
def ExtH (h h' : H) : Prop := h.size ≤ h'.size ∧ ∀ (b : Nat) (o : Obj), h[b]? = some o → h'[b]? = some o
theorem ExtH.refl (h : H) : ExtH h h := ⟨Nat.le_refl _, fun _ _ e => e⟩
theorem ExtH.trans {a b c : H} (h : ExtH a b) (k : ExtH b c) : ExtH a c := ⟨Nat.le_trans h.1 k.1, fun i o e => k.2 i o (h.2 i o e)⟩
theorem ExtH.push (h : H) (o : Obj) : ExtH h (h.push o) :=
  ⟨by simp, fun b o' e => by
    have hlt : b < h.size := (Array.getElem?_eq_some_iff.1 e).1
    rw [Array.getElem?_push_lt hlt, ← e, Array.getElem?_eq_getElem hlt]⟩
theorem ExtH.cell {h h' : H} {a : Addr} {v : Value} (e : ExtH h h') (hc : cell h a = some v) : cell h' a = some v := by
  unfold Sh.cell at *
  cases hb : h[a.block]? with
  | none => rw [hb] at hc; cases hc
  | some o => rw [hb] at hc; rw [e.2 _ _ hb]; exact hc

/-- a value that a run yields in all heaps that go on from this one -/
def SemR (P : Program) (m : Sem Value) (h : H) (K : Value → Prop) : Prop :=
  ∃ v, K v ∧ ∀ w : World, ExtH h w.heap → m.run P w = .ok v w

def isEff (P : Program) (o : Oper) : Bool :=
  match o.op with
  | .alloc _ => true
  | .box _ _ => true
  | .buildSlice _ _ _ => true
  | .store _ _ _ => true
  | .makeMap _ _ => true
  | .makeSlice _ _ _ => true
  | .mapUpdate _ _ _ _ => true
  | .insert _ _ _ _ => true
  | .range _ _ => true
  | .next _ _ => true
  | .ready _ => true
  | .waits _ => true
  | .convert s d _ => match P.underlying d, P.underlying s with
    | some (.int _), _ => false
    | some .string, some (.slice _) => false
    | _, _ => true
  | .call c => match c.callee with
    | .builtin .len => false
    | .builtin .cap => false
    | .builtin .min => false
    | .builtin .max => false
    | _ => true
  | _ => false
/-- may it look into memory? -/
def isRd (P : Program) (o : Oper) : Bool :=
  match o.op with
  | .convert _ d _ => match P.underlying d with
    | some .string => true
    | _ => false
  | .load _ _ => true
  | .binOp _ _ _ _ _ => true
  | .index _ _ _ => true
  | .lookup _ _ _ _ => true
  | _ => false

def leafP (P : Program) (ty : TypeId) (next : Value → Prop) (wr : Bool := false) : Kont where
  wr := wr
  val v := fin P ty v next
  load _ _ := False
  box _ _ := False
  sem _ := False
  semU _ := False
  call _ _ := False
  row _ _ _ := False
  yld _ _ := False
  store _ _ := False
def leafR (P : Program) (ty : TypeId) (h : H) (next : Value → Prop) (wr : Bool := false) : Kont where
  wr := wr
  val v := fin P ty v next
  load t a := ldx P t a h fun v => fin P ty v next
  box _ _ := False
  sem m := SemR P m h fun v => dec P ty v next
  semU _ := False
  call _ _ := False
  row _ _ _ := False
  yld _ _ := False
  store _ _ := False
/-- an operation that acts, within such a region (no round is called there) -/
def leafE (P : Program) (ty : TypeId) (h : H) (next : Value → H → Prop) (wr : Bool := false) : Kont where
  wr := wr
  val v := fin P ty v fun v => next v h
  load t a := ldx P t a h fun v => fin P ty v fun v => next v h
  box cs t := newx h cs t fun a h' => next (.pointer (some a)) h'
  sem m := SemH P m h fun v h' => dec P ty v fun v => next v h'
  semU m := SemU P m h fun h' => next undef h'
  call f args := HCalls P f args h fun v h' => dec P ty v fun v => next v h'
  row cs e n := newx h cs e fun a h' => next (.slice (some a) n n) h'
  yld _ _ := False
  store a l := stL a l 0 h fun h' => next undef h'

/-- the walk in the order 'ord'; rb: what has been read -/
def nsx (P : Program) (n : Nat) (ops : List Oper) (D : Nat → Nat → Bool) (next : Env → H → Prop) : List Nat → List Nat → Env → H → Prop
  | [], _, g, h => next g h
  | i :: rest, rb, g, h =>
    match ops[i]? with
    | none => False
    | some o =>
      cond (isEff P o)
        (cond (wantx n ops g o)
          (opl P (evalE n g) o (leafE P o.type h (fun v h' => reD P o v fun v => cond (rb.any fun r => !D i r) (ExtH h h' ∧ nsx P n ops D next rest rb (g.upd o.dst v) h') (nsx P n ops D next rest rb (g.upd o.dst v) h')) (wrapN n)))
          (nsx P n ops D next rest rb (g.upd o.dst undef) h))
        (cond (wantx n ops g o)
          (cond (isRd P o)
            (opl P (evalE n g) o (leafR P o.type h (fun v => nsx P n ops D next rest (i :: rb) (g.upd o.dst v) h) (wrapN n)))
            (opl P (evalE n g) o (leafP P o.type (fun v => nsx P n ops D next rest rb (g.upd o.dst v) h) (wrapN n))))
          (nsx P n ops D next rest (cond (isRd P o) (i :: rb) rb) (g.upd o.dst undef) h))

/-- what must hold of the order -/
structure PlanOK (P : Program) (ops : Array Oper) (D : Nat → Nat → Bool) (ord : List Nat) : Prop where
  nd : ord.Nodup
  mem : ∀ i, i < ops.size → i ∈ ord
  lt : ∀ i ∈ ord, i < ops.size
  clo : ∀ (i : Nat) (o : Oper) (k : Nat), ops[i]? = some o → D i k = true → ∃ e ∈ o.after, Region.binds .any e = true ∧ (e.on = k ∨ D e.on k = true)
  dir : ∀ (i : Nat) (o : Oper), ops[i]? = some o → ∀ e ∈ o.after, Region.binds .any e = true → D i e.on = true
  ear : ∀ A i B, ord = A ++ i :: B → ∀ k, D i k = true → k ∈ A
  eff : ∀ A i B, ord = A ++ i :: B → ∀ k ∈ A, ∀ o, ops[k]? = some o → isEff P o = true → D i k = true
  dst : ∀ (i k : Nat) (oi ok : Oper) (d : Nat), ops[i]? = some oi → ops[k]? = some ok → i ≠ k → oi.dst = some d → ok.dst ≠ some d ∧ (d ∈ ok.looksAt ops → D k i = true ∨ D i k = true)
  sel : ∀ (j : Nat) (o : Oper) cs b, ops[j]? = some o → o.op ≠ .select cs b

/-- two frames that look alike to an operation -/
theorem same_look {ops : Array Oper} {o : Oper} {a b : Act} (hs : ∀ cs c, o.op ≠ .select cs c) (h : ∀ t ∈ o.looksAt ops, a.tmps[t]? = b.tmps[t]?) :
    execOp a.eval o = execOp b.eval o ∧ Region.wanted o (yielded ops a.tmps) = Region.wanted o (yielded ops b.tmps) := by
  constructor
  · refine execOp_congr o hs fun x hx => ?_
    cases x with
    | tmp t =>
      have := h t (List.mem_append_left _ (List.mem_filterMap.2 ⟨.tmp t, by simpa using hx, rfl⟩))
      show a.tmps.getD t undef = b.tmps.getD t undef
      simp only [Array.getD_eq_getD_getElem?, this]
    | _ => rfl
  · unfold Region.wanted
    cases hg : o.guard with
    | none => rfl
    | some jw =>
      obtain ⟨j, w⟩ := jw
      simp only
      have e : yielded ops a.tmps j = yielded ops b.tmps j := by
        unfold yielded
        cases hj : (ops[j]?).bind (·.dst) with
        | none => rfl
        | some d =>
          simp only [Option.bind_some]
          rw [h d (List.mem_append_right _ (by rw [hg]; simp [hj]))]
      rw [e]

section
variable {ops : Array Oper} {D : Nat → Nat → Bool} {ord : List Nat} {n : Nat} {next : Env → H → Prop}

/-- an operation that only reads, done: its value, wherever it is met later -/
structure Pend (P : Program) (ops : Array Oper) (D : Nat → Nat → Bool) (a0 an : Act) (i : Nat) (h : H) : Prop where
  is : ∃ (o : Oper) (ai : Act) (v : Value), ops[i]? = some o ∧ isEff P o = false ∧
    (∀ t ∈ o.looksAt ops, ((∃ k ok, D i k = true ∧ ops[k]? = some ok ∧ ok.dst = some t) → ai.tmps[t]? = an.tmps[t]?) ∧ ((¬ ∃ k ok, D i k = true ∧ ops[k]? = some ok ∧ ok.dst = some t) → ai.tmps[t]? = a0.tmps[t]?)) ∧
    (Region.wanted o (yielded ops ai.tmps) = true → ∀ w : World, (isRd P o = true → ExtH h w.heap) → (execOp ai.eval o).run P w = .ok (.value v) w) ∧
    (Region.wanted o (yielded ops ai.tmps) = false → v = undef) ∧
    (∀ d, o.dst = some d → d < an.tmps.size → an.tmps[d]? = some v)

/-- the walk so far -/
structure Norm (P : Program) (n : Nat) (ops : Array Oper) (D : Nat → Nat → Bool) (ord : List Nat) (next : Env → H → Prop) (a0 : Act) (done rem rb : List Nat) (an : Act) (g : Env) (h : H) : Prop where
  split : ord = done ++ rem
  form : nsx P n ops.toList D next rem rb g h
  agree : Agree n an g
  size : an.tmps.size = a0.tmps.size
  defers : an.defers = a0.defers
  old : ∀ t, (∀ k ∈ done, ∀ ok, ops[k]? = some ok → ok.dst ≠ some t) → an.tmps[t]? = a0.tmps[t]?
  rbs : ∀ k ∈ done, ∀ ok, ops[k]? = some ok → isEff P ok = false → isRd P ok = true → k ∈ rb


theorem leafP_ok {ty : TypeId} {next : Value → Prop} {wr : Bool} {s : Sem Next} (hs : Ways P (leafP P ty next wr) s) : ∃ v, next v ∧ ∀ w, s.run P w = .ok (.value v) w := by
  rcases hs with ⟨v, hk, r⟩ | ⟨t, a, hk, r⟩ | ⟨cs, t, hk, r⟩ | ⟨m, hk, r⟩ | ⟨m, hk, r⟩ | ⟨f, args, hk, r⟩ | ⟨cs, e, n, hk, r⟩ | ⟨l, args, hk, r⟩ | ⟨a, l, hk, h1, r⟩
  · exact ⟨v, fin_ok hk, r⟩
  all_goals exact hk.elim

theorem lds_mono {d : Option TypeDesc} {h : H} {a : Addr} {k k' : Value → Prop} (hkk : ∀ v, k v → k' v) (hl : lds d h a k) : lds d h a k' := by
  unfold lds at *
  split at hl
  all_goals (first
    | (obtain ⟨x, hc', hq⟩ := hl; exact ⟨x, hc', hkk _ hq⟩)
    | (obtain ⟨x, y, z, hc', hq⟩ := hl; exact ⟨x, y, z, hc', hkk _ hq⟩))
theorem ldL_mono : ∀ {ds : List (Option TypeDesc)} {i : Nat} {h : H} {a : Addr} {k k' : List Value → Prop}, (∀ v, k v → k' v) → ldL h a ds i k → ldL h a ds i k' := by
  intro ds
  induction ds with
  | nil => intro i h a k k' hkk hl; exact hkk _ hl
  | cons d ds ih2 => intro i h a k k' hkk hl; exact lds_mono (fun v hv => ih2 (fun l hl => hkk _ hl) hv) hl
theorem lds_ext {d : Option TypeDesc} {a : Addr} {k : Value → Prop} {h h' : H} (e : ExtH h h') (hl : lds d h a k) : lds d h' a k := by
  unfold lds at *
  split at hl
  all_goals (first
    | (obtain ⟨x, hc, hk⟩ := hl; exact ⟨x, e.cell hc, hk⟩)
    | (obtain ⟨x, y, z, hc, hk⟩ := hl; exact ⟨x, y, z, e.cell hc, hk⟩))
/-- a cell's value is one -/
theorem lds_one {d : Option TypeDesc} {a : Addr} {k : Value → Prop} {h : H} (hl : lds d h a k) : ∃ v, k v ∧ lds d h a fun v' => v' = v := by
  unfold lds at *
  split at hl
  all_goals (first
    | (obtain ⟨x, hc', hk⟩ := hl; exact ⟨_, hk, x, hc', rfl⟩)
    | (obtain ⟨x, y, z, hc', hk⟩ := hl; exact ⟨_, hk, x, y, z, hc', rfl⟩))
theorem ldL_ext : ∀ {ds : List (Option TypeDesc)} {i : Nat} {k : List Value → Prop} {h : H} {a : Addr}, ldL h a ds i k → ∃ l, k l ∧ ∀ h', ExtH h h' → ldL h' a ds i fun l' => l' = l := by
  intro ds
  induction ds with
  | nil => intro i k h a hl; exact ⟨[], hl, fun _ _ => rfl⟩
  | cons d ds ih =>
    intro i k h a hl
    obtain ⟨v, hk, h1⟩ := lds_one hl
    obtain ⟨l, hkl, hall⟩ := ih hk
    refine ⟨v :: l, hkl, fun h2 e2 => ?_⟩
    exact lds_mono (fun v' hv' => ldL_mono (fun l' hl' => by rw [hv', hl']) (hall h2 e2)) (lds_ext e2 h1)

theorem ldx_ext {t : TypeId} {a : Addr} {h : H} {k : Value → Prop} (hh : ldx P t a h k) : ∃ v, k v ∧ ∀ w : World, ExtH h w.heap → (loadVar t a).run P w = .ok v w := by
  have mk : ∀ v, k v → (∀ h', ExtH h h' → ldx P t a h' fun v' => v' = v) → ∃ v, k v ∧ ∀ w : World, ExtH h w.heap → (loadVar t a).run P w = .ok v w := by
    intro v hk hx
    refine ⟨v, hk, fun w hw => ?_⟩
    obtain ⟨v', e, hr⟩ := ldx_ok (hx _ hw)
    subst e
    exact hr w rfl
  unfold ldx at hh
  split at hh
  · rename_i fs hd
    cases hb : Nat.beq (flatT P 9 t).length (P.cellsOf t) with
    | false => rw [hb] at hh; exact hh.elim
    | true =>
      rw [hb] at hh
      obtain ⟨l, hk, hall⟩ := ldL_ext hh
      refine mk _ hk fun h' e => ?_
      unfold ldx
      rw [hd]
      simp only [hb, cond]
      exact ldL_mono (fun l' e => by rw [e]) (hall h' e)
  · rename_i m e hd
    cases hb : Nat.beq (flatT P 9 t).length (P.cellsOf t) with
    | false => rw [hb] at hh; exact hh.elim
    | true =>
      rw [hb] at hh
      obtain ⟨l, hk, hall⟩ := ldL_ext hh
      refine mk _ hk fun h' e => ?_
      unfold ldx
      rw [hd]
      simp only [hb, cond]
      exact ldL_mono (fun l' e => by rw [e]) (hall h' e)
  · rename_i d hs ha hd
    obtain ⟨v, hk, h1⟩ := lds_one hh
    refine mk v hk fun h' e => ?_
    unfold ldx
    rw [hd]
    cases d
    case struct fs => exact absurd rfl (hs _)
    case array m e => exact absurd rfl (ha _ _)
    all_goals exact lds_ext e h1
  · exact hh.elim

theorem leafR_ok {ty : TypeId} {h : H} {next : Value → Prop} {wr : Bool} {s : Sem Next} (hs : Ways P (leafR P ty h next wr) s) : ∃ v, next v ∧ ∀ w : World, ExtH h w.heap → s.run P w = .ok (.value v) w := by
  rcases hs with ⟨v, hk, r⟩ | ⟨t, a, hk, r⟩ | ⟨cs, t, hk, r⟩ | ⟨m, hk, r⟩ | ⟨m, hk, r⟩ | ⟨f, args, hk, r⟩ | ⟨cs, e, n, hk, r⟩ | ⟨l, args, hk, r⟩ | ⟨a, l, hk, h1, r⟩
  · exact ⟨v, fin_ok hk, fun w _ => r w⟩
  · have hk : ldx P t a h (fun v => fin P ty v next) := hk
    obtain ⟨v, hk, hr⟩ := ldx_ext hk
    exact ⟨v, fin_ok hk, fun w hw => by rw [r, wrap_ok (hr w hw)]⟩
  · exact hk.elim
  · obtain ⟨v, hd, hall⟩ := hk
    exact ⟨v, dec_ok hd, fun w hw => by rw [r w]; exact wrap_ok (hall w hw)⟩
  all_goals exact hk.elim

theorem mem_toList {i : Nat} {o : Oper} (h : ops[i]? = some o) : ops.toList[i]? = some o := by rw [Array.getElem?_toList]; exact h

/-- one operation that only reads -/
theorem Norm.one (hp : PlanOK P ops D ord) {a0 an : Act} {done rem rb : List Nat} {i : Nat} {g : Env} {h : H} {o : Oper} (ho : ops[i]? = some o) (hne : isEff P o = false)
    (hN : Norm P n ops D ord next a0 done (i :: rem) rb an g h) :
    ∃ an' g' rb', Norm P n ops D ord next a0 (done ++ [i]) rem rb' an' g' h ∧ Pend P ops D a0 an' i h ∧ (∀ k ∈ done, Pend P ops D a0 an k h → Pend P ops D a0 an' k h) ∧
      (∀ t k ok, k ∈ done → ops[k]? = some ok → ok.dst = some t → an'.tmps[t]? = an.tmps[t]?) ∧ (∀ r ∈ rb', r ∈ rb ∨ r = i) := by
  have hidone : i ∉ done := by
    have := hp.nd
    rw [hN.split] at this
    exact fun hm => (List.nodup_append.1 this).2.2 i hm i (by simp) rfl
  have hf := hN.form
  unfold nsx at hf
  rw [mem_toList ho] at hf
  simp only [hne, cond] at hf
  -- its value, whichever way it is known
  have main : ∃ v rb', (nsx P n ops.toList D next rem rb' (g.upd o.dst v) h) ∧ (isRd P o = true → i ∈ rb') ∧ (∀ r ∈ rb, r ∈ rb') ∧ (∀ r ∈ rb', r ∈ rb ∨ r = i) ∧
      (Region.wanted o (yielded ops an.tmps) = true → ∀ w : World, (isRd P o = true → ExtH h w.heap) → (execOp an.eval o).run P w = .ok (.value v) w) ∧ (Region.wanted o (yielded ops an.tmps) = false → v = undef) := by
    rw [wantx_ok hN.agree]
    cases hw : wantx n ops.toList g o with
    | true =>
      rw [hw] at hf
      simp only at hf
      cases hr : isRd P o with
      | true =>
        rw [hr] at hf
        simp only at hf
        rw [← hN.agree.eval] at hf
        obtain ⟨v, hn, hrun⟩ := leafR_ok (opl_ok hf)
        exact ⟨v, i :: rb, hn, fun _ => by simp, fun r hr => by simp [hr], fun r hr => (by simp at hr; exact hr.symm), fun _ w hx => hrun w (hx rfl), (fun hx => by cases hx)⟩
      | false =>
        rw [hr] at hf
        simp only at hf
        rw [← hN.agree.eval] at hf
        obtain ⟨v, hn, hrun⟩ := leafP_ok (opl_ok hf)
        exact ⟨v, rb, hn, (fun hx => by cases hx), fun r hr => hr, fun r hr => .inl hr, fun _ w _ => hrun w, (fun hx => by cases hx)⟩
    | false =>
      rw [hw] at hf
      simp only at hf
      cases hr : isRd P o with
      | true =>
        rw [hr] at hf
        exact ⟨undef, i :: rb, hf, fun _ => by simp, fun r hr => by simp [hr], fun r hr => (by simp at hr; exact hr.symm), (fun hx => by cases hx), fun _ => rfl⟩
      | false =>
        rw [hr] at hf
        exact ⟨undef, rb, hf, (fun hx => by cases hx), fun r hr => hr, fun r hr => .inl hr, (fun hx => by cases hx), fun _ => rfl⟩
  obtain ⟨v, rb', hform, hrb1, hrb2, hrb3, hrun, hun⟩ := main
  have keep : ∀ t k ok, k ∈ done → ops[k]? = some ok → ok.dst = some t → (an.put o.dst v).tmps[t]? = an.tmps[t]? := by
    intro t k ok hk hok hd
    cases hod : o.dst with
    | none => rfl
    | some d =>
      have hne2 : i ≠ k := fun e => hidone (e ▸ hk)
      have := (hp.dst i k o ok d ho hok hne2 hod).1
      have hdt : d ≠ t := fun e => this (by rw [hd, e])
      show (an.tmps.setIfInBounds d v)[t]? = _
      rw [Array.getElem?_setIfInBounds_ne hdt]
  have hA : ord = done ++ i :: rem := hN.split
  refine ⟨an.put o.dst v, g.upd o.dst v, rb', ⟨?_, hform, hN.agree.put _ _, ?_, ?_, ?_, ?_⟩, ?_, ?_, keep, hrb3⟩
  · rw [hA]; simp
  · rw [← hN.size]; cases o.dst <;> simp [Act.put]
  · rw [← hN.defers]; cases o.dst <;> rfl
  · intro t ht
    have h1 : an.tmps[t]? = a0.tmps[t]? := hN.old t fun k hk => ht k (by simp [hk])
    rw [← h1]
    cases hod : o.dst with
    | none => rfl
    | some d =>
      have hdt : d ≠ t := fun e => ht i (by simp) o ho (by rw [hod, e])
      show (an.tmps.setIfInBounds d v)[t]? = _
      rw [Array.getElem?_setIfInBounds_ne hdt]
  · intro k hk ok hok he hr
    simp only [List.mem_append, List.mem_singleton] at hk
    rcases hk with hk | rfl
    · exact hrb2 _ (hN.rbs k hk ok hok he hr)
    · rw [ho] at hok; cases hok; exact hrb1 hr
  · refine ⟨o, an, v, ho, hne, fun t ht => ⟨fun ⟨k, ok, hD, hok, hd⟩ => ?_, fun hno => ?_⟩, hrun, hun, ?_⟩
    · exact (keep t k ok (hp.ear done i rem hA k hD) hok hd).symm
    · refine hN.old t fun k hk ok hok hd => ?_
      have hne2 : k ≠ i := fun e => hidone (e ▸ hk)
      rcases (hp.dst k i ok o t hok ho hne2 hd).2 ht with h1 | h1
      · exact hno ⟨k, ok, h1, hok, hd⟩
      · obtain ⟨A, B, hAB⟩ := List.append_of_mem hk
        have : i ∈ A := hp.ear A k (B ++ i :: rem) (by rw [hA, hAB]; simp) i h1
        exact hidone (by rw [hAB]; simp [this])
    · intro d hd hlt
      rw [hd]
      show (an.tmps.setIfInBounds d v)[d]? = some v
      have hlt2 : d < an.tmps.size := by rw [hd] at hlt; simpa [Act.put] using hlt
      simp [Array.getElem?_setIfInBounds, hlt2]
  · rintro k hk ⟨ok, ak, vk, hok, hek, hlk, hrk, huk, hvk⟩
    refine ⟨ok, ak, vk, hok, hek, fun t ht => ⟨fun ⟨j, oj, hD, hoj, hd⟩ => ?_, (hlk t ht).2⟩, hrk, huk, ?_⟩
    · rw [(hlk t ht).1 ⟨j, oj, hD, hoj, hd⟩]
      obtain ⟨A, B, hAB⟩ := List.append_of_mem hk
      have hjA : j ∈ A := hp.ear A k (B ++ i :: rem) (by rw [hA, hAB]; simp) j hD
      exact (keep t j oj (by rw [hAB]; simp [hjA]) hoj hd).symm
    · intro d hd hlt
      rw [keep d k ok hk hok hd]
      exact hvk d hd (by cases hod : o.dst <;> rw [hod] at hlt <;> simpa [Act.put] using hlt)
end
end Go.Sh
