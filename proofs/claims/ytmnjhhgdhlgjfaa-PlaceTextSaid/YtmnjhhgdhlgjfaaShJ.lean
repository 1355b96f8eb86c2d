/- Scopes with jumps, in the shallow form. No condition. -/
import Derived.Test.YtmnjhhgdhlgjfaaShI
namespace Go.Sh
open Go
set_option linter.unusedVariables false
set_option linter.unusedSimpArgs false
variable {P : Program}

theorem stepR_scope {b : Frame} {a : Act} {k : List Item} {cs : List Frame} {w : World} {c : Code} :
    step P (lone (b.atR a (.code (.scope c) :: k)) cs w) = .next (lone (b.atR a (.code c :: .inScope c :: k)) cs w) :=
  step_lone_go (by simp [stepG, stepG.exec, Frame.atR])
theorem stepR_inScope {b : Frame} {a : Act} {k : List Item} {cs : List Frame} {w : World} {c : Code} :
    step P (lone (b.atR a (.inScope c :: k)) cs w) = .next (lone (b.atR a k) cs w) :=
  step_lone_go (by simp [stepG, stepG.exec, Frame.atR])

/-- the ways out of a scope; a jump leads to a label in it -/
def scopeX (R : Nat → Env → H → Prop) (Q : XPost) : XPost
  | .goto l, g, h => R l g h
  | e, g, h => Q e g h

theorem wpC_scope {ro : Option Nat} {n : Nat} {c body : Code} {Q : XPost} {g : Env} {h : H} (hc : c = .scope body) (R : Nat → Nat → Env → H → Prop) (h0 : ∀ l g h, ¬ R 0 l g h)
    (hs : ∀ N l g h, R (N + 1) l g h → ∃ rest, findLabel body l = some rest ∧ wpC ro P n rest (scopeX (R N) Q) g h) (N : Nat) (hx : wpC ro P n body (scopeX (R N) Q) g h) :
    wpC ro P n c Q g h := by
  subst hc
  intro w0 w a hw ho ha b k cs hro hb hr
  have key : ∀ (N : Nat) (x : Code) (g : Env) (h : H) (w : World) (a : Act), wpC ro P n x (scopeX (R N) Q) g h → w.heap = h → Outer w0 w → Agree n a g →
      ∃ e a' w', lift n w0 Q e a' w' ∧ ArrivesIn (Machine.fenced P (Fr ro)) P (lone (b.atR a (.code x :: .inScope body :: k)) cs w) b k cs e a' w' := by
    intro N
    induction N with
    | zero =>
      intro x g h w a hx hw ho ha
      obtain ⟨e, a₁, w₁, hq, harr⟩ := hx w0 w a hw ho ha b (.inScope body :: k) cs hro hb hr
      cases e with
      | normal => exact ⟨.normal, a₁, w₁, hq, StepsIn.trans harr (.one (fenced_calm hb hr rfl) stepR_inScope)⟩
      | exit id => exact ⟨.exit id, a₁, w₁, hq, fun k' hk => harr.1 k' (by simp [exitTo, hk]), fun hr' hk => harr.2 hr' (by simp [exitTo, hk])⟩
      | goto l => obtain ⟨g', _, hg, _⟩ := hq; exact absurd hg (h0 l g' _)
      | ret => exact ⟨.ret, a₁, w₁, hq, harr⟩
      | panic ch => exact hq.elim
      | outgrown => exact hq.elim
    | succ N ih =>
      intro x g h w a hx hw ho ha
      obtain ⟨e, a₁, w₁, hq, harr⟩ := hx w0 w a hw ho ha b (.inScope body :: k) cs hro hb hr
      cases e with
      | normal => exact ⟨.normal, a₁, w₁, hq, StepsIn.trans harr (.one (fenced_calm hb hr rfl) stepR_inScope)⟩
      | exit id => exact ⟨.exit id, a₁, w₁, hq, fun k' hk => harr.1 k' (by simp [exitTo, hk]), fun hr' hk => harr.2 hr' (by simp [exitTo, hk])⟩
      | goto l =>
        obtain ⟨g', ha', hg, ho'⟩ := hq
        obtain ⟨rest, hf, hw'⟩ := hs N l g' _ hg
        obtain ⟨e', a₂, w₂, hq₂, harr₂⟩ := ih rest g' _ w₁ a₁ hw' rfl ho' ha'
        exact ⟨e', a₂, w₂, hq₂, .of_steps (harr.1 (.code rest :: .inScope body :: k) (by simp [gotoIn, hf])) harr₂⟩
      | ret => exact ⟨.ret, a₁, w₁, hq, harr⟩
      | panic ch => exact hq.elim
      | outgrown => exact hq.elim
  obtain ⟨e, a₁, w₁, hq, harr⟩ := key N body g h w a hx hw ho ha
  exact ⟨e, a₁, w₁, hq, .of_steps (.one (fenced_calm hb hr rfl) stepR_scope) harr⟩

/-! ### functions that hold a range over a function: the marks among the deferred calls -/
def leaveL : List Nat → H → (H → Prop) → Prop
  | [], h, k => k h
  | D :: ds, h, k => dOpen D h ∧ leaveL ds (h.setIfInBounds D (.deferred none)) k
theorem leaveL_ok : ∀ {ds : List Nat} {h : H} {k : H → Prop}, leaveL ds h k → leaveX (ds.map markD) h k
  | [], _, _, hx => hx
  | D :: ds, _, _, hx => ⟨hx.1, leaveL_ok hx.2⟩
/-- the marks, as numbers -/
def unmark : List Deferred → Option (List Nat)
  | [] => some []
  | d :: ds =>
    match d.target, d.args.toList, unmark ds with
    | .collected D, [], some l => some (D :: l)
    | _, _, _ => none
def vDs (ds : List Deferred) (k : List Nat → Prop) : Prop :=
  match unmark ds with
  | some l => k l
  | none => False
theorem unmark_ok : ∀ {ds : List Deferred} {l : List Nat}, unmark ds = some l → ds = l.map markD
  | [], l, h => by simp [unmark] at h; subst h; rfl
  | d :: ds, l, h => by
    unfold unmark at h
    split at h
    · rename_i D l' ht ha hu
      simp only [Option.some.injEq] at h
      subst h
      obtain ⟨t, a⟩ := d
      simp only at ht ha
      subst ht
      have : a = #[] := Array.ext' ha
      subst this
      rw [unmark_ok hu]
      rfl
    · cases h
theorem vDs_ok {ds : List Deferred} {k : List Nat → Prop} (h : vDs ds k) : ∃ l, ds = l.map markD ∧ k l := by
  unfold vDs at h
  split at h
  · rename_i l hl; exact ⟨l, unmark_ok hl, h⟩
  · exact h.elim
end Go.Sh
