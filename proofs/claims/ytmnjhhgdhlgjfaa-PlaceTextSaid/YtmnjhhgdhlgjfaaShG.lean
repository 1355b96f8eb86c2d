/- The shallow form of code is sound: regions that draw their order; all code. No condition. -/
import Derived.Test.YtmnjhhgdhlgjfaaShF
import Derived.RangeFuncLeaves
namespace Go.Sh
open Go
set_option linter.unusedVariables false
set_option linter.unusedSimpArgs false
variable {P : Program}

/-- the worlds with this heap -/
def Cls (h : H) (w0 w : World) : Prop := w.heap = h ∧ Outer w0 w

theorem leafQ_ok {ty : TypeId} {h : H} {next : Value → Prop} {wr : Bool} {s : Sem Next} (hs : Ways P (leafQ P ty h next wr) s) (w0 : World) :
    ∃ v, next v ∧ ∀ w, Cls h w0 w → Oper.quietUpon P (Cls h w0) w v (s.run P w) := by
  rcases hs with ⟨v, hk, r⟩ | ⟨t, a, hk, r⟩ | ⟨cs, t, hk, r⟩ | ⟨m, hk, r⟩ | ⟨m, hk, r⟩ | ⟨f, args, hk, r⟩ | ⟨cs, e, n, hk, r⟩ | ⟨l, args, hk, r⟩ | ⟨a, l, hk, h1, r⟩
  · exact ⟨v, fin_ok hk, fun w hw => by rw [r w]; exact ⟨rfl, rfl⟩⟩
  · have hk : ldx P t a h (fun v => fin P ty v next) := hk
    obtain ⟨v, hk, hr⟩ := ldx_ok hk
    exact ⟨v, fin_ok hk, fun w hw => by rw [r, wrap_ok (hr w hw.1)]; exact ⟨rfl, rfl⟩⟩
  · exact hk.elim
  · obtain ⟨v, hd, hall⟩ := hk
    refine ⟨v, dec_ok hd, fun w hw => ?_⟩
    obtain ⟨w', hr, e⟩ := hall w hw.1
    subst e
    rw [r w']
    simp only [Sem.run_bind, hr, Result.andThen_ok, Sem.run_pure]
    exact ⟨rfl, rfl⟩
  · exact hk.elim
  · obtain ⟨v, hd, hc⟩ := hk
    refine ⟨v, dec_ok hd, fun w hw => ?_⟩
    rw [r w]
    refine ⟨rfl, (hc w hw.1).mono fun e w'' ⟨v', he, ho, hv, hh⟩ => ?_⟩
    subst hv
    exact ⟨he, hh, hw.2.trans ho⟩
  · exact hk.elim
  · exact hk.elim
  · exact hk.elim

theorem qsx_ok {n : Nat} {ops : Array Oper} {next : Env → H → Prop} {h : H} (w0 : World) {Qa : Act → Prop} (hQ : ∀ g a, Agree n a g → next g h → Qa a) :
    ∀ (l : List Oper) (g : Env) (a : Act), qsx P n ops.toList next h l g → Agree n a g → wpQuiet P ops (Cls h w0) Qa l a
  | [], g, a, hx, ha => hQ g a ha hx
  | o :: l, g, a, hx, ha => by
    unfold wpQuiet
    rw [wantx_ok ha]
    unfold qsx at hx
    cases hwx : wantx n ops.toList g o with
    | true =>
      rw [hwx] at hx
      simp only [if_true]
      have hx : opl P (evalE n g) o (leafQ P o.type h (fun v => reD P o v fun v => qsx P n ops.toList next h l (g.upd o.dst v)) (wrapN n)) := hx
      rw [← ha.eval] at hx
      obtain ⟨v, hn, hall⟩ := leafQ_ok (opl_ok hx) w0
      exact ⟨v, fun w hw => hall w hw, qsx_ok w0 hQ l _ _ (reD_ok hn) (ha.put o.dst v)⟩
    | false =>
      rw [hwx] at hx
      simp only [Bool.false_eq_true, if_false]
      exact qsx_ok w0 hQ l _ _ hx (ha.put o.dst undef)

/-- what holds of a region's operations outside a round holds within one -/
theorem opsIn_of_ops {ro : Option Nat} {ops : Array Oper} {Q : Exit → Act → World → Prop} (hq : ¬ LetsOut Q) (hnd : ∀ (i : Nat) (o : Oper) c, ops[i]? = some o → o.op ≠ .defer c) :
    ∀ (l : List Nat) (a : Act) (w : World), wpOps P ops Q l a w → wpOpsIn (Fr ro) 0 P ops Q l a w
  | [], a, w, h => h
  | i :: l, a, w, h => by
    simp only [wpOps] at h
    simp only [wpOpsIn]
    cases hi : ops[i]? with
    | none =>
      rw [hi] at h
      exact opsIn_of_ops hq hnd l a w h
    | some o =>
      rw [hi] at h
      simp only at h ⊢
      by_cases hw : Region.wanted o (yielded ops a.tmps) = true
      · simp only [hw, if_true] at h ⊢
        rcases h with h | ⟨_, h⟩
        · refine ⟨fun _ _ => trivial, ?_⟩
          rw [show (Fr ro).round = ro from rfl, Oper.semAt_eq ro a.eval o (fun c => hnd i o c hi)]
          unfold Oper.wp at h
          generalize (execOp a.eval o).run P w = r at h ⊢
          cases r with
          | halt x w' => cases x <;> first | exact h | exact h.elim
          | ok nx w' =>
            cases nx with
            | value v => exact opsIn_of_ops hq hnd l _ _ h
            | skip => exact opsIn_of_ops hq hnd l _ _ h
            | defer d => exact opsIn_of_ops hq hnd l _ _ h
            | enter f args =>
              refine ⟨(fun hd => by cases hd), calls_fr (Calls.mono h fun e w'' he => ?_)⟩
              cases e with
              | returned v => exact opsIn_of_ops hq hnd l _ _ he
              | panicked ch => exact he
              | outgrown => exact he
            | row row args =>
              refine ⟨(fun hd => by cases hd), fun c cs _ => ?_⟩
              obtain ⟨v, w'', hr, hs⟩ := h c cs
              exact ⟨v, w'', opsIn_of_ops hq hnd l _ _ hr, stepsIn_wide.2 hs⟩
            | _ => exact h.elim
        · exact absurd h hq
      · simp only [hw, Bool.false_eq_true, if_false] at h ⊢
        exact ⟨fun _ _ => trivial, opsIn_of_ops hq hnd l _ _ h⟩

def noDefer (l : List Oper) : Bool := l.all fun o => match o.op with | .defer _ => false | _ => true
theorem noDefer_ok {ops : Array Oper} (h : noDefer ops.toList = true) : ∀ (i : Nat) (o : Oper) c, ops[i]? = some o → o.op ≠ .defer c := by
  intro i o c hi e
  have hm : o ∈ ops.toList := by
    rw [← Array.getElem?_toList] at hi
    exact List.mem_of_getElem? hi
  have := (List.all_eq_true.1 h) o hm
  rw [e] at this
  cases this

theorem lift_noOut {n : Nat} {w0 : World} {Q : XPost} : ¬ LetsOut (lift n w0 Q) := fun ⟨_, _, h⟩ => h

/-- a region that draws its order and only reads -/
theorem drawx_ok {ro : Option Nat} {n id : Nat} {ops : Array Oper} {Q : XPost} {g : Env} {h : H} (hm : P.follows .mixedOrders = true)
    (hB : Region.lexB .any ops = true) (hnd : noDefer ops.toList = true) (hx : qsx P n ops.toList (Q .normal) h ops.toList g) (w0 w : World) (a : Act)
    (hw : w.heap = h) (ho : Outer w0 w) (ha : Agree n a g) : (Code.region id ops true).wpIn (Fr ro) 0 P (lift n w0 Q) a w := by
  refine wpIn_region_draw fun t => ?_
  refine opsIn_of_ops lift_noOut (noDefer_ok hnd) _ _ _ ?_
  simp only [Region.schedule, hm, Bool.true_or, if_true]
  refine wpAny_sound ops.size t _ a _ ?_
  simp only [Region.lexB, Bool.and_eq_true] at hB
  have hC : Cls h w0 { w with drawn := w.drawn + 1 } := ⟨hw, ho.tape, ho.os, ho.output⟩
  refine wpAny_of_quiet (C := Cls h w0) (Q := fun a' => ∀ w', Cls h w0 w' → lift n w0 Q .normal a' w') (fun _ w' hw' h => h w' hw') _ _ _ _ hC ?_
  have hq : wpQuiet P ops (Cls h w0) (fun a' => ∀ w', Cls h w0 w' → lift n w0 Q .normal a' w') ops.toList a :=
    qsx_ok w0 (fun g' a' ha' hn w' hw' => ⟨g', ha', by rw [hw'.1]; exact hn, hw'.2⟩) _ _ _ hx ha
  have := wpAnyQ_lex (C := Cls h w0) (md := .any) hB.1 ops.toList 0 (Array.replicate ops.size false) a (by simp) (by simpa using hB.2) hq
  simpa using this

/-- what is asked of code, whatever the world beside the heap -/
def wpC (ro : Option Nat) (P : Program) (n : Nat) (c : Code) (Q : XPost) (g : Env) (h : H) : Prop :=
  ∀ (w0 w : World) (a : Act), w.heap = h → Outer w0 w → Agree n a g → c.wpIn (Fr ro) 0 P (lift n w0 Q) a w

def thenX (next : Env → H → Prop) (Q : XPost) : XPost
  | .normal, g, h => next g h
  | e, g, h => Q e g h
def inBlockX (id : Nat) (Q : XPost) : XPost
  | .exit id', g, h => cond (Nat.beq id' id) (Q .normal g h) (Q (.exit id') g h)
  | e, g, h => Q e g h

theorem lift_mono {n : Nat} {w0 : World} {Q Q' : XPost} (hq : ∀ e g h, Q e g h → Q' e g h) : ∀ e a w, lift n w0 Q e a w → lift n w0 Q' e a w := by
  intro e a w h
  cases e <;> first | exact h | (obtain ⟨g, ha, hx, ho⟩ := h; exact ⟨g, ha, hq _ _ _ hx, ho⟩)
theorem wpC.mono {ro : Option Nat} {n : Nat} {c : Code} {Q Q' : XPost} {g : Env} {h : H} (hx : wpC ro P n c Q g h) (hq : ∀ e g h, Q e g h → Q' e g h) : wpC ro P n c Q' g h :=
  fun w0 w a hw ho ha => wpIn_mono (hx w0 w a hw ho ha) (lift_mono hq)

section rules
variable {ro : Option Nat} {n : Nat} {Q : XPost} {g : Env} {h : H}
theorem wpC_skip (hx : Q .normal g h) : wpC ro P n .skip Q g h := fun w0 w a hw ho ha => wpIn_skip ⟨g, ha, by rw [hw]; exact hx, ho⟩
theorem wpC_label {l : Nat} (hx : Q .normal g h) : wpC ro P n (.label l) Q g h := fun w0 w a hw ho ha => wpIn_label ⟨g, ha, by rw [hw]; exact hx, ho⟩
theorem wpC_exit {id : Nat} (hx : Q (.exit id) g h) : wpC ro P n (.exit id) Q g h := fun w0 w a hw ho ha => wpIn_exit ⟨g, ha, by rw [hw]; exact hx, ho⟩
theorem wpC_goto {l : Nat} (hx : Q (.goto l) g h) : wpC ro P n (.goto l) Q g h := fun w0 w a hw ho ha => wpIn_goto ⟨g, ha, by rw [hw]; exact hx, ho⟩
theorem wpC_ret (hx : Q .ret g h) : wpC ro P n .ret Q g h := fun w0 w a hw ho ha => wpIn_ret ⟨g, ha, by rw [hw]; exact hx, ho⟩
theorem wpC_seq {x y : Code} (hx : wpC ro P n x (thenX (wpC ro P n y Q) Q) g h) : wpC ro P n (.seq x y) Q g h := fun w0 w a hw ho ha =>
  wpIn_seq (wpIn_mono (hx w0 w a hw ho ha) fun e a' w' he => by
    cases e <;> first
      | exact he
      | (obtain ⟨g', ha', hx', ho'⟩ := he; exact hx' w0 w' a' rfl ho' ha'))
theorem wpC_cond {c : Operand} {x y : Code} {b : Bool} (hc : evalE n g c = .bool b) (hx : cond b (wpC ro P n x Q g h) (wpC ro P n y Q g h)) : wpC ro P n (.cond c x y) Q g h :=
  fun w0 w a hw ho ha => wpIn_cond (t := b) (by rw [ha.eval]; exact hc) (by cases b <;> exact hx w0 w a hw ho ha)
theorem wpC_block {id : Nat} {c : Code} (hx : wpC ro P n c (inBlockX id Q) g h) : wpC ro P n (.block id c) Q g h := fun w0 w a hw ho ha =>
  wpIn_block (wpIn_mono (hx w0 w a hw ho ha) fun e a' w' he => by
    cases e with
    | exit id' =>
      obtain ⟨g', ha', hx', ho'⟩ := he
      show (if id' = id then _ else _)
      have hx' : cond (Nat.beq id' id) (Q .normal g' w'.heap) (Q (.exit id') g' w'.heap) := hx'
      by_cases e : id' = id
      · rw [if_pos e]
        rw [e, Nat.beq_refl] at hx'
        exact ⟨g', ha', hx', ho'⟩
      · rw [if_neg e]
        have hb : Nat.beq id' id = false := by
          cases hb : Nat.beq id' id with
          | false => rfl
          | true => exact absurd (Nat.eq_of_beq_eq_true hb) e
        rw [hb] at hx'
        exact ⟨g', ha', hx', ho'⟩
    | _ => exact he)
/-- a loop, with fuel -/
theorem wpC_loop {c : Code} (R : Nat → Env → H → Prop) (h0 : ∀ g h, ¬ R 0 g h) (hs : ∀ k g h, R (k + 1) g h → wpC ro P n c (thenX (R k) Q) g h) (k : Nat) (hx : R k g h) :
    wpC ro P n (.loop c) Q g h := fun w0 w a hw ho ha => by
  refine wpIn_loop_rounds k ?_
  induction k generalizing g h w a with
  | zero => exact absurd hx (h0 _ _)
  | succ k ih =>
    refine wpIn_mono (hs k g h hx w0 w a hw ho ha) fun e a' w' he => ?_
    cases e <;> first
      | exact he
      | (obtain ⟨g', ha', hx', ho'⟩ := he; exact ih hx' w' a' rfl ho' ha')
end rules

end Go.Sh
