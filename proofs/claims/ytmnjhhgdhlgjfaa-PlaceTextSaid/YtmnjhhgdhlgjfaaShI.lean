/- Ranges over functions, in the shallow form; scopes without jumps. No condition. -/
import Derived.Test.YtmnjhhgdhlgjfaaShH
import Derived.RangeFuncRecord
import Derived.Below
namespace Go.Sh
open Go
set_option linter.unusedVariables false
set_option linter.unusedSimpArgs false
variable {P : Program}

/-- the records of loops over functions, and their blocks for deferred calls -/
def loopish (o : Obj) : Bool :=
  match o with
  | .loop _ => true
  | .deferred _ => true
  | _ => false
/-- what may happen beside the code that is looked at: blocks that are an iterator's own, and the loop's own record L, may turn; new blocks may come -/
def NzP (Pv : Nat → Prop) (L : Nat) (h h1 : H) : Prop := h.size ≤ h1.size ∧ ∀ (b : Nat) (o : Obj), h[b]? = some o → ¬ Pv b → (b = L → loopish o = false) → h1[b]? = some o
/-- what a round keeps: what the iterator reads, and loops' records -/
def KpR (Rd : Nat → Prop) (h h1 : H) : Prop := h.size ≤ h1.size ∧ ∀ (b : Nat) (o : Obj), h[b]? = some o → Rd b → loopish o = false → h1[b]? = some o
def KpP (Rd : Nat → Prop) (h h1 : H) : Prop := (∀ (b : Nat) (o : Obj), h[b]? = some o → loopish o = true → h1[b]? = some o) ∧ KpR Rd h h1
/-- an iterator's own step -/
def ItP (Pv : Nat → Prop) (h h1 : H) : Prop := h.size ≤ h1.size ∧ ∀ (b : Nat) (o : Obj), h[b]? = some o → (Pv b → loopish o = true) → h1[b]? = some o
def dOpen (D : Nat) (h : H) : Prop := h[D]? = some (.deferred (some []))

theorem NzP.refl (Pv : Nat → Prop) (L : Nat) (h : H) : NzP Pv L h h := ⟨Nat.le_refl _, fun _ _ e _ _ => e⟩
theorem NzP.trans {Pv : Nat → Prop} {L : Nat} {a b c : H} (h : NzP Pv L a b) (k : NzP Pv L b c) : NzP Pv L a c := ⟨Nat.le_trans h.1 k.1, fun i o e hp hl => k.2 i o (h.2 i o e hp hl) hp hl⟩
theorem ItP.nz {Pv : Nat → Prop} {a b : H} (L : Nat) (h : ItP Pv a b) : NzP Pv L a b := ⟨h.1, fun i o e hp hl => h.2 i o e fun x => absurd x hp⟩
theorem ItP.loop {Pv : Nat → Prop} {a b : H} (h : ItP Pv a b) {i : Nat} {o : Obj} (e : a[i]? = some o) (hl : loopish o = true) : b[i]? = some o := h.2 i o e fun _ => hl
theorem NzP.push (Pv : Nat → Prop) (L : Nat) (h : H) (o : Obj) : NzP Pv L h (h.push o) :=
  ⟨by simp, fun b o' e _ _ => by
    have hlt : b < h.size := (Array.getElem?_eq_some_iff.1 e).1
    rw [Array.getElem?_push_lt hlt, ← e, Array.getElem?_eq_getElem hlt]⟩
theorem NzP.set {Pv : Nat → Prop} {h : H} {L : Nat} {o : Obj} (o' : Obj) (e : h[L]? = some o) (hl : loopish o = true) : NzP Pv L h (h.setIfInBounds L o') :=
  ⟨by simp, fun b ob hb _ hlb => by
    by_cases hbl : L = b
    · subst hbl
      have := hlb rfl
      rw [e] at hb; cases hb; rw [hl] at this; cases this
    · rw [Array.getElem?_setIfInBounds_ne hbl]; exact hb⟩
theorem KpR.refl (Rd : Nat → Prop) (h : H) : KpR Rd h h := ⟨Nat.le_refl _, fun _ _ e _ _ => e⟩
theorem KpR.trans {Rd : Nat → Prop} {a b c : H} (h : KpR Rd a b) (k : KpR Rd b c) : KpR Rd a c := ⟨Nat.le_trans h.1 k.1, fun i o e hr hl => k.2 i o (h.2 i o e hr hl) hr hl⟩
theorem KpR.set {Rd : Nat → Prop} {h : H} {L : Nat} {o : Obj} (o' : Obj) (e : h[L]? = some o) (hl : loopish o = true) : KpR Rd h (h.setIfInBounds L o') :=
  ⟨by simp, fun b ob hb _ hlb => by
    by_cases hbl : L = b
    · subst hbl; rw [e] at hb; cases hb; rw [hl] at hlb; cases hlb
    · rw [Array.getElem?_setIfInBounds_ne hbl]; exact hb⟩

/-- one round's form: what yield hands over; the end of the assignments; the end of the body; a way out of it -/
abbrev Round := List Value → (H → (H → Prop) → Prop) → (H → H → Prop) → (H → H → (H → Prop) → Prop) → H → Prop

def rounds (D : Nat) (Pv Rd : Nat → Prop) (rd : Round) (done : H → Prop) : List (List Value) → H → Prop
  | [], h => ∀ h1, NzP Pv (D + 1) h h1 → dOpen D h1 → done h1
  | x :: xs, h => ∀ h1, NzP Pv (D + 1) h h1 → rd x (fun he p => KpP Rd h1 he ∧ ∀ h2, NzP Pv (D + 1) he h2 → p h2) (fun hb h' => KpP Rd hb h' ∧ rounds D Pv Rd rd done xs h')
      (fun hb h' p => KpP Rd hb h' ∧ ∀ h4, NzP Pv (D + 1) h' h4 → dOpen D h4 → p h4) h1

theorem rounds_nz {D : Nat} {Pv Rd : Nat → Prop} {rd : Round} {done : H → Prop} : ∀ {xs : List (List Value)} {h h1 : H}, rounds D Pv Rd rd done xs h → NzP Pv (D + 1) h h1 → rounds D Pv Rd rd done xs h1
  | [], _, _, hr, hn => fun h2 h2n => hr h2 (hn.trans h2n)
  | _ :: _, _, _, hr, hn => fun h2 h2n => hr h2 (hn.trans h2n)

/-- an iterator's contract: it hands xs over, one by one -/
def Emits (P : Program) (f : Value) (h : H) (xs : List (List Value)) (Pv Rd : Nat → Prop) : Prop :=
  ∃ k first captured, f = .func (.func k) first captured ∧ (∀ args w, (callFunc k args).run P w = .ok (.enter k args) w) ∧
    ∀ (L : Nat) (J : List (List Value) → H → Prop) (Stop : H → Prop) (h2 : H), NzP (fun _ => False) L h h2 →
      (∀ r h' h'', J r h' → ItP Pv h' h'' → J r h'') → (∀ h' h'', Stop h' → ItP Pv h' h'' → Stop h'') →
      (∀ x rest h', J (x :: rest) h' → YCalls P L ⟨x⟩ h' fun v h'' => (v = .bool true ∧ J rest h'' ∧ KpR Rd h' h'') ∨ (v = .bool false ∧ Stop h'' ∧ KpR Rd h' h'')) →
      J xs h2 →
      HCalls P k ⟨first.toList ++ [.func (.yield L) ⟨[]⟩ ⟨[]⟩] ++ captured.toList⟩ h2 fun _ h3 => J [] h3 ∨ Stop h3

def Ranges (P : Program) (f : Value) (m : Nat) (h : H) (rd : Round) (done : H → Prop) : Prop :=
  ∃ xs Pv Rd, Emits P f h xs Pv Rd ∧ (∀ x ∈ xs, x.length = m) ∧ rounds h.size Pv Rd rd done xs h

def markD (D : Nat) : Deferred := { target := .collected D, args := #[] }
def setps (g : Env) : List Nat → List Value → Env
  | p :: ps, v :: vs => setps (g.upd (some p) v) ps vs
  | _, _ => ⟨g.v, []⟩

/-- a round's post: the ways out lead on from the frame as it was ahead of the loop -/
def rpost (Kc : H → H → Prop) (Fin : H → H → (H → Prop) → Prop) (Q : XPost) (gD : Env) (hb : H) : XPost
  | .normal, _, h' => Kc hb h'
  | .exit id, _, h' => Fin hb h' fun h4 => Q (.exit id) gD h4
  | .ret, _, h' => Fin hb h' fun h4 => Q .ret gD h4
  | _, _, _ => False

theorem agree_setps {n : Nat} {ds : List Deferred} : ∀ {ps : List Nat} {vs : List Value} {a : Act} {g : Env}, ps.length = vs.length → Agree n a g →
    Agree n { tmps := (ps.zip vs).foldl (fun tmps (t, v) => tmps.setIfInBounds t v) a.tmps, defers := [] } (setps g ps vs)
  | [], [], a, g, _, ha => ⟨rfl, ha.size, ha.tmp⟩
  | p :: ps, v :: vs, a, g, hl, ha => by
    have h2 := ha.put (some p) v
    have := agree_setps (ds := ds) (ps := ps) (vs := vs) (by simpa using hl) h2
    exact this
  | [], _ :: _, _, _, hl, _ => by simp at hl
  | _ :: _, [], _, _, hl, _ => by simp at hl

theorem alloc_old (w : World) (o : Obj) (b : Nat) (h : b < w.heap.size) : (w.alloc o).heap[b]? = w.heap[b]? := by
  show (w.heap.push o)[b]? = w.heap[b]?
  rw [Array.getElem?_push_lt h, Array.getElem?_eq_getElem h]

theorem wpC_range {n : Nat} {fo : Operand} {ps : Array Tmp} {assign body : Code} {Q : XPost} {g : Env} {h : H} {f : Value} {rd : Round} {done : H → Prop}
    (hf : evalE n g fo = f) (hR : Ranges P f ps.toList.length h rd done)
    (hdone : ∀ h', done h' → Q .normal ⟨g.v, markD h.size :: g.ds⟩ h')
    (hrd : ∀ L x Mid Kc Fin h1, (∀ he (p q : H → Prop), (∀ h, p h → q h) → Mid he p → Mid he q) → rd x Mid Kc Fin h1 →
      wpC (some L) P n assign (thenX (fun g1 he => Mid he fun hb => wpC (some L) P n body (rpost Kc Fin Q ⟨g.v, markD h.size :: g.ds⟩ hb) g1 hb) fun _ _ _ => False) (setps g ps.toList x) h1) :
    wpC none P n (.rangeFunc fo ps assign body) Q g h := by
  intro w0 w a hw ho ha
  obtain ⟨xs, Pv, Rd, ⟨k, first, captured, hfv, henter, hem⟩, hlen, hro⟩ := hR
  refine wpIn_rangeFunc fun fn _ => ?_
  subst hw
  obtain ⟨rec, hrec⟩ : ∃ rec : LoopState → Option Code → Loop, rec = fun st pe => { state := st, pending := pe, fn, tmps := a.tmps, params := ps, assign, body, defers := w.heap.size } := ⟨_, rfl⟩
  obtain ⟨W1, hW1⟩ : ∃ W1, (w.alloc (.deferred (some []))).alloc (.loop (rec .ready none)) = W1 := ⟨_, rfl⟩
  have hL1 : W1.heap[w.heap.size + 1]? = some (.loop (rec .ready none)) := by
    rw [← hW1]; have := World.alloc_heap_new (w.alloc (.deferred (some []))) (.loop (rec .ready none)); rwa [World.size_alloc] at this
  have hD1 : dOpen w.heap.size W1.heap := by
    show W1.heap[w.heap.size]? = _
    rw [← hW1]; exact (alloc_old _ _ _ (by simp)).trans (World.alloc_heap_new w _)
  have hO1 : Outer w W1 := by rw [← hW1]; exact ⟨rfl, rfl, rfl⟩
  have hN1 : NzP Pv (w.heap.size + 1) w.heap W1.heap := by rw [← hW1]; exact (NzP.push Pv _ _ _).trans (NzP.push Pv _ _ _)
  have hev : a.eval fo = .func (.func k) first captured := by rw [ha.eval, hf, hfv]
  refine ⟨w.heap.size + 1, [markD w.heap.size], W1, { target := .fn (.func k) captured, args := first ++ #[.func (.yield (w.heap.size + 1)) #[] #[]] }, W1, k,
    (first ++ #[.func (.yield (w.heap.size + 1)) #[] #[]]) ++ captured, W1, ?_, ?_, fun _ _ => trivial, ?_, (fun hd => by cases hd), ?_⟩
  · rw [← hW1, hrec]; exact run_enterLoop_outer _ _ _ _ _
  · show (resolve a.eval (rangeCall fo (w.heap.size + 1)) 0).run P W1 = _
    show (Deferred.ofValue (a.eval fo) ((#[Operand.const (.func (.yield (w.heap.size + 1)) #[] #[])] : Array Operand).map a.eval)).run P W1 = _
    rw [hev]
    simp [Deferred.ofValue, Act.eval]
  · show (invoke (.fn (.func k) captured) _).run P W1 = _
    exact henter _ W1
  · refine calls_fr ?_
    have hargs : (first ++ #[.func (.yield (w.heap.size + 1)) #[] #[]]) ++ captured = (⟨first.toList ++ [.func (.yield (w.heap.size + 1)) ⟨[]⟩ ⟨[]⟩] ++ captured.toList⟩ : Array Value) := Array.ext' (by simp)
    rw [hargs]
    let J : List (List Value) → H → Prop := fun r h' => (∀ x ∈ r, x.length = ps.toList.length) ∧ h'[w.heap.size + 1]? = some (.loop (rec .ready none)) ∧ dOpen w.heap.size h' ∧ rounds w.heap.size Pv Rd rd done r h'
    let Stop : H → Prop := fun h' => ∃ c, h'[w.heap.size + 1]? = some (.loop (rec .done (some c))) ∧ dOpen w.heap.size h' ∧
      ((c = .ret ∧ ∀ h4, NzP Pv (w.heap.size + 1) h' h4 → dOpen w.heap.size h4 → Q .ret ⟨g.v, markD w.heap.size :: g.ds⟩ h4) ∨
       ∃ id, c = .exit id ∧ ∀ h4, NzP Pv (w.heap.size + 1) h' h4 → dOpen w.heap.size h4 → Q (.exit id) ⟨g.v, markD w.heap.size :: g.ds⟩ h4)
    have hJ : ∀ r h' h'', J r h' → ItP Pv h' h'' → J r h'' := fun r h' h'' ⟨h0, h1, h2, h3⟩ hi => ⟨h0, hi.loop h1 rfl, hi.loop h2 rfl, rounds_nz h3 (hi.nz _)⟩
    have hS : ∀ h' h'', Stop h' → ItP Pv h' h'' → Stop h'' := fun h' h'' ⟨c, h1, h2, h3⟩ hi => ⟨c, hi.loop h1 rfl, hi.loop h2 rfl, h3.imp
      (fun ⟨e, k⟩ => ⟨e, fun h4 hn => k h4 ((hi.nz _).trans hn)⟩) (fun ⟨id, e, k⟩ => ⟨id, e, fun h4 hn => k h4 ((hi.nz _).trans hn)⟩)⟩
    have agreeD : Agree n { a with defers := [markD w.heap.size] ++ a.defers } ⟨g.v, markD w.heap.size :: g.ds⟩ := ⟨by show [markD w.heap.size] ++ a.defers = _; rw [ha.ds]; rfl, ha.size, ha.tmp⟩
    have hY : ∀ x rest h', J (x :: rest) h' → YCalls P (w.heap.size + 1) ⟨x⟩ h' fun v h'' => (v = .bool true ∧ J rest h'' ∧ KpR Rd h' h'') ∨ (v = .bool false ∧ Stop h'' ∧ KpR Rd h' h'') := by
      rintro x rest h' ⟨hlx, hl, hd, hr⟩ W hWh
      subst hWh
      have hxl : x.length = ps.toList.length := hlx x (by simp)
      have hy := run_yield (P := P) (args := ⟨x⟩) hl (by rw [hrec]; simp [hxl])
      rw [hrec] at hy
      refine ⟨fn, _, assign, body, hy, roundIn_of_wpIn (F := Fence.wide) trivial ?_⟩
      have hx := hr W.heap (NzP.refl _ _ _)
      have hwp := hrd (w.heap.size + 1) x _ _ _ W.heap (fun he p q hpq hm => ⟨hm.1, fun h2 hn => hpq _ (hm.2 h2 hn)⟩) hx
      have hag : Agree n { tmps := (ps.zip ⟨x⟩).foldl (fun tmps (t, v) => tmps.setIfInBounds t v) a.tmps, defers := [] } (setps g ps.toList x) := by
        have := agree_setps (ds := []) (ps := ps.toList) (vs := x) (by rw [hxl]) ha
        have e : (ps.zip ⟨x⟩).foldl (fun tmps (t, v) => tmps.setIfInBounds t v) a.tmps = (ps.toList.zip x).foldl (fun tmps (t, v) => tmps.setIfInBounds t v) a.tmps := by
          rw [← Array.foldl_toList]; simp
        rw [e]; exact this
      refine wpIn_mono (hwp W W _ rfl (Outer.refl W) hag) fun e a1 w1 he => ?_
      cases e with
      | normal =>
        obtain ⟨g1, ha1, ⟨hk1, hbody⟩, ho1⟩ := he
        have hl1 := hk1.1 _ _ hl rfl
        have hd1 := hk1.1 _ _ hd rfl
        refine ⟨_, run_beginRound hl1 (by rw [hrec]), ?_⟩
        have hn2 : NzP Pv (w.heap.size + 1) w1.heap (w1.putObj (w.heap.size + 1) (.loop { rec .ready none with state := .busy })).heap := NzP.set _ hl1 rfl
        have hr2 : KpR Rd w1.heap (w1.putObj (w.heap.size + 1) (.loop { rec .ready none with state := .busy })).heap := KpR.set _ hl1 rfl
        have hb2 := hbody _ hn2
        have hlt : w.heap.size + 1 < w1.heap.size := (Array.getElem?_eq_some_iff.1 hl1).1
        have hl2 : (w1.putObj (w.heap.size + 1) (.loop { rec .ready none with state := .busy })).heap[w.heap.size + 1]? = some (.loop { rec .ready none with state := .busy }) := World.putObj_heap_same hlt
        have hd2 : dOpen w.heap.size (w1.putObj (w.heap.size + 1) (.loop { rec .ready none with state := .busy })).heap := (World.putObj_heap_other (by omega)).trans hd1
        have ho2 : Outer W (w1.putObj (w.heap.size + 1) (.loop { rec .ready none with state := .busy })) := ⟨ho1.tape, ho1.os, ho1.output⟩
        refine wpIn_mono (hb2 W _ a1 rfl ho2 ha1) fun e2 a3 W3 hp => ?_
        have fin : ∀ (jump : Option Code), KpP Rd (w1.putObj (w.heap.size + 1) (.loop { rec .ready none with state := .busy })).heap W3.heap →
            (Instr.endRound (w.heap.size + 1) jump).run P W3 = .ok (.bool jump.isNone) (W3.putObj (w.heap.size + 1) (.loop (rec (if jump.isNone then .ready else .done) jump))) ∧
            (W3.putObj (w.heap.size + 1) (.loop (rec (if jump.isNone then .ready else .done) jump))).heap[w.heap.size + 1]? = some (.loop (rec (if jump.isNone then .ready else .done) jump)) ∧
            dOpen w.heap.size (W3.putObj (w.heap.size + 1) (.loop (rec (if jump.isNone then .ready else .done) jump))).heap ∧
            NzP Pv (w.heap.size + 1) W3.heap (W3.putObj (w.heap.size + 1) (.loop (rec (if jump.isNone then .ready else .done) jump))).heap ∧
            KpR Rd W.heap (W3.putObj (w.heap.size + 1) (.loop (rec (if jump.isNone then .ready else .done) jump))).heap := fun jump hk3 => by
          have hl3 := hk3.1 _ _ hl2 rfl
          have hd3 := hk3.1 _ _ hd2 rfl
          have := run_endRound (P := P) jump hl3
          rw [hrec] at this ⊢
          exact ⟨this, World.putObj_heap_same (Array.getElem?_eq_some_iff.1 hl3).1, (World.putObj_heap_other (by omega)).trans hd3, NzP.set _ hl3 rfl,
            ((KpR.trans hk1.2 hr2).trans hk3.2).trans (KpR.set _ hl3 rfl)⟩
        cases e2 with
        | normal =>
          obtain ⟨g3, ha3, ⟨hk3, hrs⟩, ho3⟩ := hp
          obtain ⟨hrun, hl4, hd4, hn4, hkr⟩ := fin none hk3
          exact ⟨_, _, hrun, _, rfl, ⟨ho3.tape, ho3.os, ho3.output⟩, .inl ⟨rfl, ⟨fun y hy => hlx y (by simp [hy]), hl4, hd4, rounds_nz hrs hn4⟩, hkr⟩⟩
        | ret =>
          obtain ⟨g3, ha3, ⟨hk3, hf3⟩, ho3⟩ := hp
          obtain ⟨hrun, hl4, hd4, hn4, hkr⟩ := fin (some .ret) hk3
          exact ⟨_, _, hrun, _, rfl, ⟨ho3.tape, ho3.os, ho3.output⟩, .inr ⟨rfl, ⟨.ret, hl4, hd4, .inl ⟨rfl, fun h4 hn hdo => hf3 h4 (hn4.trans hn) hdo⟩⟩, hkr⟩⟩
        | exit id =>
          obtain ⟨g3, ha3, ⟨hk3, hf3⟩, ho3⟩ := hp
          obtain ⟨hrun, hl4, hd4, hn4, hkr⟩ := fin (some (.exit id)) hk3
          exact ⟨_, _, hrun, _, rfl, ⟨ho3.tape, ho3.os, ho3.output⟩, .inr ⟨rfl, ⟨.exit id, hl4, hd4, .inr ⟨id, rfl, fun h4 hn hdo => hf3 h4 (hn4.trans hn) hdo⟩⟩, hkr⟩⟩
        | goto t => obtain ⟨g3, ha3, hx3, ho3⟩ := hp; exact hx3.elim
        | panic ch => exact hp.elim
        | outgrown => exact hp.elim
      | ret => obtain ⟨_, _, hx, _⟩ := he; exact hx.elim
      | exit id => obtain ⟨_, _, hx, _⟩ := he; exact hx.elim
      | goto t => obtain ⟨_, _, hx, _⟩ := he; exact hx.elim
      | panic ch => exact he.elim
      | outgrown => exact he.elim
    refine (hem (w.heap.size + 1) J Stop W1.heap (by rw [← hW1]; exact (NzP.push _ _ _ _).trans (NzP.push _ _ _ _)) hJ hS hY ⟨hlen, hL1, hD1, rounds_nz hro hN1⟩ W1 rfl).mono ?_
    rintro e W2 ⟨v, rfl, ho2, hx⟩
    rcases hx with ⟨_, hl, hd, hr⟩ | ⟨c, hl, hd, hc⟩
    · have he := run_endLoop (P := P) hl (by rw [hrec]; simp)
      have hn : NzP Pv (w.heap.size + 1) W2.heap (W2.putObj (w.heap.size + 1) (.loop { rec .ready none with state := .exhausted })).heap := NzP.set _ hl rfl
      have hd2 : dOpen w.heap.size (W2.putObj (w.heap.size + 1) (.loop { rec .ready none with state := .exhausted })).heap := (World.putObj_heap_other (by omega)).trans hd
      have e2 : (rec .ready none).pending = none := by rw [hrec]
      have he := he.trans (congrArg (fun j => Result.ok j (W2.putObj (w.heap.size + 1) (.loop { rec .ready none with state := .exhausted }))) e2)
      refine ⟨none, _, he, _, agreeD, hdone _ (hr _ hn hd2), ?_⟩
      have := ho.trans (hO1.trans ho2)
      exact ⟨this.tape, this.os, this.output⟩
    · have he := run_endLoop (P := P) hl (by rw [hrec]; simp)
      have hn : NzP Pv (w.heap.size + 1) W2.heap (W2.putObj (w.heap.size + 1) (.loop { rec .done (some c) with state := .exhausted })).heap := NzP.set _ hl rfl
      have hd2 : dOpen w.heap.size (W2.putObj (w.heap.size + 1) (.loop { rec .done (some c) with state := .exhausted })).heap := (World.putObj_heap_other (by omega)).trans hd
      have hot := ho.trans (hO1.trans ho2)
      have e2 : (rec .done (some c)).pending = some c := by rw [hrec]
      have he := he.trans (congrArg (fun j => Result.ok j (W2.putObj (w.heap.size + 1) (.loop { rec .done (some c) with state := .exhausted }))) e2)
      refine ⟨some c, _, he, ?_⟩
      rcases hc with ⟨rfl, hc⟩ | ⟨id, rfl, hc⟩
      · exact wpIn_ret ⟨_, agreeD, hc _ hn hd2, ⟨hot.tape, hot.os, hot.output⟩⟩
      · exact wpIn_exit ⟨_, agreeD, hc _ hn hd2, ⟨hot.tape, hot.os, hot.output⟩⟩
end Go.Sh
