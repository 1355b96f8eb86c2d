/- open: slices.Backward of open elements; a scan from the current element on. No condition. -/
import Derived.Test.YtggejikikcffmaaOpC
import Derived.Test.YtggejikikcffmaaHmD
namespace Go.Proofs
open Go Go.Sh
set_option linter.unusedVariables false
set_option maxRecDepth 100000

def backsO (l : List OpenP) : Nat → List (List Value)
  | 0 => []
  | i + 1 => [.int .i64 i, .agg ⟨cellsO (l.getD i (0, 0, [], 0))⟩] :: backsO l i
theorem backsO_len (l : List OpenP) : ∀ {i : Nat}, ∀ x ∈ backsO l i, x.length = 2
  | 0, x, hx => by cases hx
  | i + 1, x, hx => by
    unfold backsO at hx
    rcases List.mem_cons.1 hx with rfl | hx
    · rfl
    · exact backsO_len l x hx
theorem callYield {L : Nat} {args : Array Value} {h : H} {next : Value → H → Prop} : CallV Try.prog 4 (.func (.yield L) ⟨[]⟩ ⟨[]⟩) args h next = YCalls Try.prog L ⟨args.toList⟩ h fun v h' => vBool v fun b => cond b (next (.bool true) h') (next (.bool false) h') := by kernel_rfl

section
variable {A : Nat → Prop} {h : H} {b : Option Addr} {n c : Nat} {l : List OpenP}

theorem backO_emits {a : Addr} (r : Row elOpen A h b n c l) (v : Var h a 22 [.slice b n c]) :
    Emits Try.prog (.func (.func 35) ⟨[]⟩ ⟨[.pointer (some a)]⟩) h (backsO l l.length) Non (fun k => A k ∨ k = a.block) := by
  have hl := r.len
  have hm : n ≤ maxLen := Nat.le_trans r.cap r.max
  simp only [maxLen] at hm
  refine ⟨35, _, _, rfl, fun args w => by kernel_rfl, fun L J Stop h2 hn hJ hS hY hj => ?_⟩
  refine Sx.slices_Backward_1_apiOpen1.ok (.func (.yield L) ⟨[]⟩ ⟨[]⟩) a _ _ ?_
  refine ⟨_, _, _, (v.kw hn.kw).cell0 rfl, rng64 (by omega) (by omega), l.length + 1, ?_⟩
  rw [← hl]
  have key : ∀ i, i ≤ l.length → ∀ h', Keep (fun k => (A k ∨ k = a.block) ∧ k < h.size) h h' → J (backsO l i) h' →
      Sx.slices_Backward_1_apiOpen1.n3_L (fun h3 => J [] h3 ∨ Stop h3) (fun h3 => J [] h3 ∨ Stop h3) (fun h3 => J [] h3 ∨ Stop h3) (i + 1) (.func (.yield L) ⟨[]⟩ ⟨[]⟩) a ((i : Int) - 1) h' := by
    intro i
    induction i with
    | zero => exact fun _ h' hk hJ => splF (by omega) (.inl hJ)
    | succ i ih =>
      intro hi h' hk hJ
      obtain ⟨ar, ear, hA⟩ := r.at' i _ (List.getElem?_eq_getElem (by omega))
      have hx : ((i + 1 : Nat) : Int) - 1 = (i : Int) := by omega
      rw [hx]
      have hA' : At elOpen (fun _ => True) h' (ar.add (i * elOpen.sz)) l[i] := hA.keep (hk.less fun k hk => ⟨.inl hk.1, hk.2⟩) fun _ _ _ => trivial
      have v' : Var h' a 22 [.slice b n c] := v.keep hk ⟨.inr rfl, v.lt⟩
      refine splT (by omega) ⟨_, _, _, v'.cell0 rfl, ⟨by omega, by omega⟩, ?_⟩
      rw [ear]
      refine ldOpen hA' fun _ => ?_
      rw [callYield]
      unfold backsO at hJ
      rw [getD_get (by omega)] at hJ
      refine fun w hw2 => ?_
      obtain ⟨fn, tmps, assign, body, hrun, hrd⟩ := hY _ _ _ hJ w hw2
      refine ⟨fn, tmps, assign, body, hrun, hrd.mono ?_⟩
      rintro e w' ⟨v, he, ho, hor⟩
      refine ⟨v, he, ho, ?_⟩
      rcases hor with ⟨rfl, hJ', hkr⟩ | ⟨rfl, hS, hkr⟩
      · exact ⟨rng64 (by omega) (by omega), ih (by omega) _ (Keep.trans (hw2 ▸ hk) (hkr.keep.less fun _ h => h.1)) hJ'⟩
      · exact .inr hS
  exact key l.length (Nat.le_refl _) h2 (hn.kw.less fun _ h => h.2) hj

theorem outwards_calls {K : Value → H → Prop} (hk : ∀ a h', Var h' a 22 [.slice b n c] → KB h h' → a.block = h.size → K (.func (.func 35) ⟨[]⟩ ⟨[.pointer (some a)]⟩) h') :
    HCalls Try.prog 25 ⟨[.slice b n c]⟩ h K :=
  Sx.open_outwards.ok _ _ _ _ _ (Sx.slices_Backward_apiOpen.ok _ _ _ _ _ (newx_var fun a1 h1 v1 k1 e1 _ => hk a1 h1 v1 k1 e1))

/-- what a round of such a loop may do at its end -/
abbrev MidO (D : Nat) (Rd : Nat → Prop) (h1 : H) : H → (H → Prop) → Prop := fun he p => KpP Rd h1 he ∧ ∀ h2, NzP Non (D + 1) he h2 → p h2
abbrev FinO (D : Nat) (Rd : Nat → Prop) : H → H → (H → Prop) → Prop := fun hb h' p => KpP Rd hb h' ∧ ∀ h4, NzP Non (D + 1) h' h4 → dOpen D h4 → p h4

/-- the end of a function with one such loop: its result stands in a variable -/
theorem leave_k {h0 h : H} {D t : Nat} {a : Addr} {cs : List Value} {Q : H → Prop} (hd : dOpen D h) (k : KB h0 h) (hD : h0.size ≤ D) (v : Var h a t cs) (hk : ∀ h', KB h0 h' → Var h' a t cs → Q h') : leaveX [markD D] h Q :=
  ⟨hd, hk _ (k.leave hD) (v.kw ((KW.refl h).leave hd))⟩

/-- the head of a round: the element in a variable of the round's own -/
theorem front_open {D : Nat} {Rd : Nat → Prop} {h h1 : H} {t : Nat} {x : OpenP} {Bd : Addr → H → Prop} (k1 : KB h h1) (hRd : ∀ k, Rd k → k < h.size) (hD : h.size ≤ D) (hk : ∀ a hb, KB h hb → Var hb a t (cellsO x) → Bd a hb) :
    newx h1 ⟨[(.int .i64 (0 : Int)), (.int .u8 (0 : Int)), (S ([] : List UInt8)), (.int .u8 (0 : Int))]⟩ t fun a h2 => stL a [.int .i64 x.1, .int .u8 x.2.1, S x.2.2.1, .int .u8 x.2.2.2] 0 h2 fun h3 => MidO D Rd h1 h3 (Bd a) := by
  have k1s := k1.1
  refine newx_var fun a4 h4 v4 k4 e4 _ => stL_var0 v4 (Nat.le_refl _) fun h5 v5 k5 s5 => ⟨(k4.kp).trans (KX.kp v4 k5 fun e => ?_), fun h6 n6 => ?_⟩
  · have := hRd _ e; omega
  · exact hk a4 h6 ((k1.trans (KB.step k4 k5 (by omega))).nz n6 (by omega)) (v5.kw n6.kw)

theorem scan_open {R : Type} {f : Nat → OpenP → Option R} {val : R → Value} {d res : R} {h0 : H} {a y : Addr} {ty : Nat} {z : Value} {rdd : Round} {PR : H → Prop}
    (k0 : KB h0 h) (r : Row elOpen A h b n c l) (hA : ∀ k, A k → k < h0.size) (va : Var h a 22 [.slice b n c]) (vy : Var h y ty [z]) (hy : h0.size ≤ y.block) (hne : y.block ≠ a.block)
    (hres : scan f d l = res)
    (hrd : ∀ (i : Nat) (hi : i < l.length) (h1 : H) (Kc : H → H → Prop), KB h h1 →
      (∀ hb h', KB h hb → KB hb h' → f i l[i] = none → Kc hb h') →
      (∀ hb h' q, KB h hb → KB hb h' → f i l[i] = some q → stL y [val q] 0 h' fun h'' => FinO h.size (fun k => A k ∨ k = a.block) hb h'' PR) →
      (∀ hb h', KB h hb → KB hb h' → f i l[i] = some d → FinO h.size (fun k => A k ∨ k = a.block) hb h' fun h4 => stL y [val d] 0 h4 PR) →
      rdd [.int .i64 i, .agg ⟨cellsO l[i]⟩] (MidO h.size (fun k => A k ∨ k = a.block) h1) Kc (FinO h.size (fun k => A k ∨ k = a.block)) h1)
    (hPR : ∀ h', KB h0 h' → dOpen h.size h' → Var h' y ty [val res] → PR h') :
    Ranges Try.prog (.func (.func 35) ⟨[]⟩ ⟨[.pointer (some a)]⟩) 2 h rdd fun h4 => stL y [val d] 0 h4 PR := by
  have k0s := k0.1
  have hne' : ¬ (A y.block ∨ y.block = a.block) := fun e => by
    rcases e with e | e
    · have := hA _ e; omega
    · exact hne e
  have vyl := vy.lt
  -- the default is stored
  have dflt : ∀ h4, KB h h4 → dOpen h.size h4 → res = d → stL y [val d] 0 h4 PR := fun h4 k4 hd e => by
    have vx := vy.kb k4
    refine stL_var0 vx (Nat.le_refl _) fun h7 v7 k7 s7 => ?_
    exact hPR h7 (KB.step (k0.trans k4) k7 hy) (vx.dOpen k7 hd) (by rw [e]; exact v7)
  refine ⟨_, Non, _, backO_emits r va, backsO_len l, rounds_of (fun xs h' => KB h h' ∧ ∃ i, i ≤ l.length ∧ xs = backsO l i ∧ scanTo f d l i = res) (fun xs h' h'' ⟨k, i, hi, hb, e⟩ n => ⟨k.nz n (Nat.le_succ _), i, hi, hb, e⟩) ?_ ?_ _ h ⟨KB.refl _, l.length, Nat.le_refl _, rfl, hres⟩⟩
  · rintro x xs h3 Kc ⟨k3, i, hi, e, hs⟩ hKc
    cases i with
    | zero => cases e
    | succ i =>
      have hil : i < l.length := by omega
      unfold backsO at e
      rw [getD_get hil] at e
      cases e
      unfold scanTo at hs
      rw [getD_get hil] at hs
      refine hrd i hil h3 Kc k3 (fun hb h' kb k' hf => ?_) (fun hb h' q kb k' hf => ?_) fun hb h' kb k' hf => ?_
      · rw [hf] at hs
        exact hKc hb h' k'.kp ⟨kb.trans k', i, by omega, rfl, hs⟩
      · rw [hf] at hs
        have hs : q = res := hs
        have kk := kb.trans k'
        have vx := vy.kb kk
        refine stL_var0 vx (Nat.le_refl _) fun h7 v7 k7 s7 => ⟨k'.kp.trans (KX.kp vx k7 hne'), fun h8 n8 hd => ?_⟩
        exact hPR h8 ((KB.step (k0.trans kk) k7 hy).nz n8 (by omega)) hd (by rw [← hs]; exact v7.kw n8.kw)
      · rw [hf] at hs
        exact ⟨k'.kp, fun h8 n8 hd => dflt h8 ((kb.trans k').nz n8 (Nat.le_succ _)) hd hs.symm⟩
  · rintro h3 ⟨k3, i, hi, e, hs⟩ hd
    cases i with
    | succ i => cases e
    | zero => exact dflt h3 k3 hd hs.symm
end
end Go.Proofs
