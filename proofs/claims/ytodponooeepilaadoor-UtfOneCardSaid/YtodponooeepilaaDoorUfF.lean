/- utf: Right. No condition. -/
import Derived.Test.YtodponooeepilaaDoorUfE
import Derived.Test.YtodponooeepilaaDoorUtR
namespace Go.Proofs
open Go Go.Sh
set_option linter.unusedVariables false
set_option maxRecDepth 100000
theorem dec_zero (t : Bs) : dec (0 :: t) = (0, 1) := by
  have := dec_enc (c := 0) (by unfold scal; omega) t
  rwa [encN_zero] at this
theorem dec_fffd (t : Bs) : dec ([239, 191, 189] ++ t) = (65533, 3) := by
  have := dec_enc (c := 65533) (by unfold scal; omega) t
  rwa [encN_err] at this
theorem right_bad {b : Bs} (hne : b ≠ []) (h : (dec b).1 = 0 ∨ ((dec b).1 = 65533 ∧ ([239, 191, 189] : Bs).isPrefixOf b = false)) : plainP b ≠ b := by
  intro e
  cases b with
  | nil => exact hne rfl
  | cons x t =>
    have hp : pieceP (x :: t) = [239, 191, 189] := by
      unfold pieceP
      rw [if_neg]
      rintro ⟨h1, h2⟩
      obtain ⟨w1, w2, w3, w4, w5⟩ := front_whole h1
      rcases h with h | ⟨h, hpre⟩
      · rw [h, encN_zero] at w2
        rw [h, encN_zero] at w4
        rw [w4] at w2
        have := (List.cons.inj w2).1
        subst this
        exact h2 rfl
      · rw [h, encN_err] at w2
        have : ([239, 191, 189] : Bs).isPrefixOf (x :: t) = true := List.isPrefixOf_iff_prefix.2 ⟨_, by rw [← w2]; exact List.take_append_drop _ _⟩
        rw [this] at hpre; cases hpre
    rw [plainP_cons, hp] at e
    rcases h with h | ⟨h, hpre⟩
    · have hd := dec_fffd (plainP ((x :: t).drop (frontP (x :: t)).1))
      rw [e, ] at hd
      rw [hd] at h; simp at h
    · have : ([239, 191, 189] : Bs).isPrefixOf (x :: t) = true := List.isPrefixOf_iff_prefix.2 ⟨_, e⟩
      rw [this] at hpre; cases hpre
theorem right_good {b : Bs} (hne : b ≠ []) (h0 : (dec b).1 ≠ 0) (h : (dec b).1 ≠ 65533 ∨ ([239, 191, 189] : Bs).isPrefixOf b = true) : (plainP b = b ↔ plainP (b.drop (dec b).2) = b.drop (dec b).2) := by
  cases b with
  | nil => exact absurd rfl hne
  | cons x t =>
    rcases front_dec x t with ⟨f1, f2, f3⟩ | ⟨f1, f2⟩
    · have hx : byteAt (x :: t) 0 ≠ 0 := fun e => by
        have : x = 0 := UInt8.toNat_inj.1 e
        subst this
        rw [dec_zero] at h0; exact h0 rfl
      have hp : pieceP (x :: t) = (x :: t).take (frontP (x :: t)).1 := by unfold pieceP; rw [if_pos ⟨f1, hx⟩]
      rw [f2, plainP_cons, hp]
      constructor
      · intro e
        have e2 := e.trans (List.take_append_drop (frontP (x :: t)).1 (x :: t)).symm
        exact List.append_cancel_left e2
      · intro e
        rw [e, List.take_append_drop]
    · rw [f2] at h
      rcases h with h | h
      · exact absurd rfl h
      · obtain ⟨u, e⟩ := List.isPrefixOf_iff_prefix.1 h
        have := dec_fffd u
        rw [e, f2] at this
        simp at this
theorem tup0B {b : Bool} {l : List Value} {k : Bool → Prop} (h : k b) : vTup (.tuple ⟨.bool b :: l⟩) fun l => vNth l 0 fun e => vBool e k := h
theorem tupNI {l : List Value} {n : Nat} {kd : IntKind} {i : Int} {k : Int → Prop} (hl : l[n]? = some (.int kd i)) (h : k i) : vTup (.tuple ⟨l⟩) fun l => vNth l n fun e => vInt kd e k := by
  show vNth l n fun e => vInt kd e k
  unfold vNth
  rw [hl]
  exact vIntMk h
section
variable {h : H} {s : Bs} {K : Value → H → Prop}
theorem prefix_calls {t : Bs} (hk : K (.bool (t.isPrefixOf s)) h) : HCalls Tryd.prog 26 ⟨[S s, S t]⟩ h K :=
  hcalls_of (v := .bool (t.isPrefixOf s)) (fun w _ => Tryd.strings_HasPrefix ⟨⟨s⟩⟩ ⟨⟨t⟩⟩ w) hk
theorem right2_calls (hs : s.length ≤ 1000000000000) (hk : ∀ h', KB h h' → K (.bool (decide (plainP s = s))) h') : HCalls Tryd.prog 14 ⟨[S s]⟩ h K := by
  refine Sx.utf_Right.ok _ _ _ (range_k Tryd.underlying9 fun a h1 i1 k1 ea => ⟨s.length + 1, ?_⟩)
  have key : ∀ N pos h2, s.length ≤ pos + N → It h2 a s pos → KB h h2 → (plainP s = s ↔ plainP (s.drop pos) = s.drop pos) →
      Sx.utf_Right.n6_L (fun h => Sx.utf_Right.n3 (fun y2 h => K (.bool y2) h) (fun y2 h => K (.bool y2) h) h) (fun h => Sx.utf_Right.n3 (fun y2 h => K (.bool y2) h) (fun y2 h => K (.bool y2) h) h) (fun y2 h => K (.bool y2) h) (N + 1) s a h2 := by
    intro N
    induction N with
    | zero =>
      intro pos h2 hp i k e
      unfold Sx.utf_Right.n6_L
      refine next_k i (fun h => absurd h (by omega)) fun hle => ?_
      refine tup0B ?_
      refine condF ?_
      rw [List.drop_of_length_le hle] at e
      have := hk h2 k
      rw [decide_eq_true (e.2 rfl)] at this
      exact this
    | succ N ih =>
      intro pos h2 hp i k e
      unfold Sx.utf_Right.n6_L
      refine next_k i (fun hlt h3 i3 k3 s3 => ?_) fun hle => ?_
      · refine tup0B ?_
        refine condT ?_
        have k03 : KB h h3 := KB.step k k3 (by omega)
        have hne : s.drop pos ≠ [] := fun e => by have := congrArg List.length e; rw [List.length_drop, List.length_nil] at this; omega
        have hw : 1 ≤ (dec (s.drop pos)).2 := by
          cases hd : s.drop pos with
          | nil => exact absurd hd hne
          | cons x t => exact (dec_bd x t).1
        have bad : plainP (s.drop pos) ≠ s.drop pos → K (.bool false) h3 := fun hb => by
          have := hk h3 k03
          rw [decide_eq_false (fun hh => hb (e.1 hh))] at this
          exact this
        have good : (plainP (s.drop pos) = s.drop pos ↔ plainP ((s.drop pos).drop (dec (s.drop pos)).2) = (s.drop pos).drop (dec (s.drop pos)).2) → _ := fun hg => ih (pos + (dec (s.drop pos)).2) h3 (by omega) i3 k03 (by rw [e, hg, List.drop_drop])
        refine condT ?_
        refine tupNI (n := 1) (kd := .i64) (i := (pos : Int)) ?_ ?_
        · rfl
        refine tupNI (n := 2) (kd := .i32) (i := ((dec (s.drop pos)).1 : Int)) ?_ ?_
        · rfl
        refine spl (fun e1 => bad (right_bad hne (.inl (by omega)))) fun e1 => spl (fun e2 => ⟨⟨by omega, by omega, by omega⟩, ?_⟩) fun e2 => good (right_good hne (by omega) (.inl (by omega)))
        rw [sub_full s pos (by omega)]
        exact prefix_calls (vBool_mk (condB (fun e3 => good (right_good hne (by omega) (.inr e3))) fun e3 => bad (right_bad hne (.inr ⟨by omega, e3⟩))))
      · refine tup0B ?_
        refine condF ?_
        rw [List.drop_of_length_le hle] at e
        have := hk h2 k
        rw [decide_eq_true (e.2 rfl)] at this
        exact this
  exact key s.length 0 h1 (by omega) i1 k1 (by rw [List.drop_zero])
end
end Go.Proofs
