/- A region that draws its order, whatever it does: any order comes to what the one order comes to. No condition. -/
import Derived.Test.YtmnjhhgdhlgjfaaShK
namespace Go.Sh
open Go
set_option linter.unusedVariables false
set_option linter.unusedSimpArgs false
variable {P : Program}

section
variable {ops : Array Oper} {D : Nat → Nat → Bool} {ord : List Nat} {n : Nat} {next : Env → H → Prop}

/-- what is told of what is done rests as the frame goes on -/
theorem Pend.put (hp : PlanOK P ops D ord) {a0 an : Act} {A B : List Nat} {i : Nat} {h h' : H} {o : Oper} {v : Value} (ho : ops[i]? = some o) (hA : ord = A ++ i :: B)
    {k : Nat} (hk : k ∈ A) (he : ∀ ok, ops[k]? = some ok → isRd P ok = true → ExtH h h') (hP : Pend P ops D a0 an k h) : Pend P ops D a0 (an.put o.dst v) k h' := by
  have hi : i ∉ A := by
    have := hp.nd
    rw [hA] at this
    exact fun hm => (List.nodup_append.1 this).2.2 i hm i (by simp) rfl
  have keep : ∀ t k ok, k ∈ A → ops[k]? = some ok → ok.dst = some t → (an.put o.dst v).tmps[t]? = an.tmps[t]? := by
    intro t k ok hk hok hd
    cases hod : o.dst with
    | none => rfl
    | some d =>
      have hne2 : i ≠ k := fun e => hi (e ▸ hk)
      have := (hp.dst i k o ok d ho hok hne2 hod).1
      have hdt : d ≠ t := fun e => this (by rw [hd, e])
      show (an.tmps.setIfInBounds d v)[t]? = _
      rw [Array.getElem?_setIfInBounds_ne hdt]
  obtain ⟨ok, ak, vk, hok, hek, hlk, hrk, huk, hvk⟩ := hP
  refine ⟨ok, ak, vk, hok, hek, fun t ht => ⟨fun ⟨j, oj, hD, hoj, hd⟩ => ?_, (hlk t ht).2⟩, fun hw w hx => hrk hw w fun hr => (he ok hok hr).trans (hx hr), huk, ?_⟩
  · rw [(hlk t ht).1 ⟨j, oj, hD, hoj, hd⟩]
    obtain ⟨A1, A2, hAB⟩ := List.append_of_mem hk
    have hjA : j ∈ A1 := hp.ear A1 k (A2 ++ i :: B) (by rw [hA, hAB]; simp) j hD
    exact (keep t j oj (by rw [hAB]; simp [hjA]) hoj hd).symm
  · intro d hd hlt
    rw [keep d k ok hk hok hd]
    exact hvk d hd (by cases hod : o.dst <;> rw [hod] at hlt <;> simpa [Act.put] using hlt)

/-- one operation that acts, its value known -/
theorem Norm.eff (hp : PlanOK P ops D ord) {a0 an : Act} {done rem rb rb2 : List Nat} {i : Nat} {g g2 : Env} {h h2 h' : H} {o : Oper} {v : Value} (ho : ops[i]? = some o) (he : isEff P o = true)
    (hN : Norm P n ops D ord next a0 done (i :: rem) rb an g h) (hf : nsx P n ops.toList D next rem rb (g.upd o.dst v) h') :
    Norm P n ops D ord next a0 (done ++ [i]) rem rb (an.put o.dst v) (g.upd o.dst v) h' := by
  have hA : ord = done ++ i :: rem := hN.split
  refine ⟨by rw [hA]; simp, hf, hN.agree.put _ _, ?_, ?_, ?_, ?_⟩
  · rw [← hN.size]; cases o.dst <;> simp [Act.put]
  · rw [← hN.defers]; cases o.dst <;> rfl
  · intro t ht
    have h1 : an.tmps[t]? = a0.tmps[t]? := hN.old t fun k hk => ht k (by simp [hk])
    rw [← h1]
    cases hod : o.dst with
    | none => rfl
    | some d =>
      have hdt : d ≠ t := fun e => ht i (by simp) o ho (by rw [hod, e])
      show (an.tmps.setIfInBounds d v)[t]? = _
      rw [Array.getElem?_setIfInBounds_ne hdt]
  · intro k hk ok hok hek hr
    simp only [List.mem_append, List.mem_singleton] at hk
    rcases hk with hk | rfl
    · exact hN.rbs k hk ok hok hek hr
    · rw [ho] at hok; cases hok; rw [he] at hek; cases hek

/-- all that may be read at once is read -/
theorem Norm.adv (hp : PlanOK P ops D ord) {a0 : Act} : ∀ {rem done rb : List Nat} {an : Act} {g : Env} {h : H}, Norm P n ops D ord next a0 done rem rb an g h →
    ∃ mid rem' rb' an' g', Norm P n ops D ord next a0 (done ++ mid) rem' rb' an' g' h ∧ (∀ i t, rem' = i :: t → ∃ o, ops[i]? = some o ∧ isEff P o = true) ∧
      (∀ k ∈ mid, ∃ o, ops[k]? = some o ∧ isEff P o = false) ∧ (∀ k ∈ mid, Pend P ops D a0 an' k h) ∧ (∀ k ∈ done, Pend P ops D a0 an k h → Pend P ops D a0 an' k h) ∧
      (∀ t k ok, k ∈ done → ops[k]? = some ok → ok.dst = some t → an'.tmps[t]? = an.tmps[t]?)
  | [], done, rb, an, g, h, hN => ⟨[], [], rb, an, g, by simpa using hN, (by intro i t e; cases e), by simp, by simp, fun _ _ hP => hP, fun _ _ _ _ _ _ => rfl⟩
  | i :: rem, done, rb, an, g, h, hN => by
    have hi : i ∈ ord := by rw [hN.split]; simp
    obtain ⟨o, ho⟩ : ∃ o, ops[i]? = some o := ⟨_, Array.getElem?_eq_getElem (hp.lt i hi)⟩
    cases he : isEff P o with
    | true => exact ⟨[], i :: rem, rb, an, g, by simpa using hN, (by intro i' t e; cases e; exact ⟨o, ho, he⟩), by simp, by simp, fun _ _ hP => hP, fun _ _ _ _ _ _ => rfl⟩
    | false =>
      obtain ⟨an1, g1, rb1, hN1, hP1, hK1, hT1, _⟩ := hN.one hp ho he
      obtain ⟨mid, rem', rb', an', g', hN', hh, hm, hPm, hK, hT⟩ := hN1.adv hp
      refine ⟨i :: mid, rem', rb', an', g', by simpa using hN', hh, ?_, ?_, ?_, ?_⟩
      · intro k hk
        rcases List.mem_cons.1 hk with rfl | hk
        · exact ⟨o, ho, he⟩
        · exact hm k hk
      · intro k hk
        rcases List.mem_cons.1 hk with rfl | hk
        · exact hK _ (by simp) hP1
        · exact hPm k hk
      · intro k hk hP
        exact hK k (by simp [hk]) (hK1 k hk hP)
      · intro t k ok hk hok hd
        rw [hT t k ok (by simp [hk]) hok hd, hT1 t k ok hk hok hd]

/-- where the drawn order stands beside the one order -/
structure Inv (P : Program) (n : Nat) (ops : Array Oper) (D : Nat → Nat → Bool) (ord : List Nat) (next : Env → H → Prop) (a0 : Act) (w0 : World) (listed : Array Bool) (a : Act) (w : World)
    (done rem rb : List Nat) (an : Act) (g : Env) : Prop where
  norm : Norm P n ops D ord next a0 done rem rb an g w.heap
  head : ∀ i t, rem = i :: t → ∃ o, ops[i]? = some o ∧ isEff P o = true
  outer : Outer w0 w
  lsize : listed.size = ops.size
  l1 : ∀ k, listed.getD k false = true → k ∈ done
  l2 : ∀ k ∈ done, ∀ o, ops[k]? = some o → isEff P o = true → listed.getD k false = true
  l3 : ∀ k j, listed.getD k false = true → D k j = true → listed.getD j false = true
  asize : a.tmps.size = a0.tmps.size
  adef : a.defers = a0.defers
  t2 : ∀ k o d, listed.getD k false = true → ops[k]? = some o → o.dst = some d → a.tmps[d]? = an.tmps[d]?
  t3 : ∀ t, (∀ k o, listed.getD k false = true → ops[k]? = some o → o.dst ≠ some t) → a.tmps[t]? = a0.tmps[t]?
  pend : ∀ k ∈ done, listed.getD k false = false → Pend P ops D a0 an k w.heap

theorem notboth {l1 l2 : List Nat} {i : Nat} (h : (l1 ++ l2).Nodup) (h1 : i ∈ l1) (h2 : i ∈ l2) : False := (List.nodup_append.1 h).2.2 i h1 i h2 rfl

theorem set_cases {listed : Array Bool} {i k : Nat} (hk : (listed.setIfInBounds i true).getD k false = true) : k = i ∨ listed.getD k false = true := by
  by_cases e : k = i
  · exact .inl e
  · rw [getD_set_ne false (Ne.symm e)] at hk; exact .inr hk
theorem set_false {listed : Array Bool} {i k : Nat} (hk : (listed.setIfInBounds i true).getD k false = false) : listed.getD k false = false := by
  cases h : listed.getD k false with
  | false => rfl
  | true => rw [getD_set_true h] at hk; cases hk
theorem getD_tf {listed : Array Bool} {i : Nat} (h : listed.getD i true = false) : listed.getD i false = false := by
  simp only [Array.getD_eq_getD_getElem?] at *
  cases hl : listed[i]? with
  | none => rfl
  | some b => rw [hl] at h; exact h

theorem put_other {a : Act} {o : Oper} {v : Value} {t : Nat} (h : o.dst ≠ some t) : (a.put o.dst v).tmps[t]? = a.tmps[t]? := by
  cases hod : o.dst with
  | none => rfl
  | some d =>
    have hdt : d ≠ t := fun e => h (by rw [hod, e])
    show (a.tmps.setIfInBounds d v)[t]? = _
    rw [Array.getElem?_setIfInBounds_ne hdt]
theorem put_own {a : Act} {o : Oper} {v : Value} {d : Nat} (h : o.dst = some d) (hlt : d < a.tmps.size) : (a.put o.dst v).tmps[d]? = some v := by
  rw [h]
  show (a.tmps.setIfInBounds d v)[d]? = some v
  simp [Array.getElem?_setIfInBounds, hlt]
theorem put_size {a : Act} {d : Option Nat} {v : Value} : (a.put d v).tmps.size = a.tmps.size := by cases d <;> simp [Act.put]
theorem put_def {a : Act} {d : Option Nat} {v : Value} : (a.put d v).defers = a.defers := by cases d <;> rfl

/-- an operation that acts -/
def OpEff (P : Program) (s : Sem Next) (w : World) (R : Value → World → Prop) : Prop :=
  match s.run P w with
  | .ok (.value v) w' => R v w'
  | .ok .skip w' => R undef w'
  | .ok (.enter f args) w' => Calls P f args w' fun e w'' => ∃ v, e = .returned v ∧ R v w''
  | _ => False
theorem leafE_ok {ty : TypeId} {h : H} {next : Value → H → Prop} {wr : Bool} {s : Sem Next} (hs : Ways P (leafE P ty h next wr) s) (w : World) (hw : w.heap = h) :
    OpEff P s w fun v w' => Outer w w' ∧ next v w'.heap := by
  unfold OpEff
  rcases hs with ⟨v, hk, r⟩ | ⟨t, a, hk, r⟩ | ⟨cs, t, hk, r⟩ | ⟨m, hk, r⟩ | ⟨m, hk, r⟩ | ⟨f, args, hk, r⟩ | ⟨cs, e, n, hk, r⟩ | ⟨l, args, hk, r⟩ | ⟨a, l, hk, h1, r⟩
  · rw [r w]
    exact ⟨Outer.refl w, by rw [hw]; exact fin_ok (k := fun v => next v h) hk⟩
  · have hk : ldx P t a h (fun v => fin P ty v fun v => next v h) := hk
    obtain ⟨v, hk, hr⟩ := ldx_ok hk
    rw [r, wrap_ok (hr w hw)]
    exact ⟨Outer.refl w, by rw [hw]; exact fin_ok (k := fun v => next v h) hk⟩
  · rw [r w]
    refine ⟨⟨rfl, rfl, rfl⟩, ?_⟩
    subst hw
    exact hk
  · obtain ⟨v, w', hr, ho, hd⟩ := hk w hw
    rw [r w]
    simp only [Sem.run_bind, hr, Result.andThen_ok, Sem.run_pure]
    exact ⟨ho, dec_ok hd⟩
  · obtain ⟨w', hr, ho, hd⟩ := hk w hw
    rw [r w]
    simp only [Sem.run_bind, hr, Result.andThen_ok, Sem.run_pure]
    exact ⟨ho, hd⟩
  · rw [r w]
    exact (hk w hw).mono fun e w'' ⟨v, he, ho, hd⟩ => ⟨v, he, ho, dec_ok hd⟩
  · rw [r w]
    refine ⟨⟨rfl, rfl, rfl⟩, ?_⟩
    subst hw
    exact hk
  · exact hk.elim
  · have hk : stL a l 0 h fun h' => next undef h' := hk
    obtain ⟨w', hr, ho, hd⟩ := stL_ok hk h1 w hw
    rw [r w, Sem.run_bind, hr, Result.andThen_ok, Sem.run_pure]
    exact ⟨ho, hd⟩
theorem wp_of_OpEff {o : Oper} {a : Act} {w : World} {R : Value → World → Prop} {K : Act → World → Prop} {Q : Exit → Act → World → Prop} (h : OpEff P (execOp a.eval o) w R)
    (hn : ∀ v w', R v w' → K (a.put o.dst v) w') : o.wp P a w K Q := by
  unfold Oper.wp
  unfold OpEff at h
  generalize (execOp a.eval o).run P w = r at h ⊢
  cases r with
  | halt x w' => exact h.elim
  | ok nx w' =>
    cases nx with
    | value v => exact hn _ _ h
    | skip => exact hn _ _ h
    | enter f args =>
      refine Calls.mono h fun e w'' ⟨v, he, hr⟩ => ?_
      subst he
      exact hn _ _ hr
    | _ => exact h.elim

end
end Go.Sh
