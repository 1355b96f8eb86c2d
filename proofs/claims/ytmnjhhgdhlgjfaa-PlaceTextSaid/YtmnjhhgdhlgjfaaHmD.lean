/- Ranges over functions: how to show one, round by round. No condition. -/
import Derived.Test.YtmnjhhgdhlgjfaaHmC
namespace Go.Sh
open Go
set_option linter.unusedVariables false
variable {P : Program}

/-- nothing is an iterator's own -/
abbrev Non : Nat → Prop := fun _ => False
theorem NzP.kw {L : Nat} {h h1 : H} (n : NzP Non L h h1) : KW h h1 := ⟨n.1, fun b _ o e hl => n.2 b o e (fun x => x) fun _ => hl⟩
/-- what stood ahead of the loop stays, whatever happens beside -/
theorem KB.nz {L : Nat} {h0 h h1 : H} (k : KB h0 h) (n : NzP Non L h h1) (hL : h0.size ≤ L) : KB h0 h1 :=
  ⟨Nat.le_trans k.1 n.1, fun b hb => by
    have e := k.2 b hb
    have hb' : b < h0.size := hb
    rw [Array.getElem?_eq_getElem hb'] at e ⊢
    exact n.2 b _ e (fun x => x) fun e2 => by omega⟩
theorem KpR.keep {Rd : Nat → Prop} {h h1 : H} (k : KpR Rd h h1) : Keep Rd h h1 := ⟨k.1, fun b hb o e hl => k.2 b o e hb hl⟩
theorem KB.kp {Rd : Nat → Prop} {h h1 : H} (k : KB h h1) : KpP Rd h h1 :=
  ⟨fun b o e _ => by rw [k.2 b (Array.getElem?_eq_some_iff.1 e).1]; exact e, k.1, fun b o e _ _ => by rw [k.2 b (Array.getElem?_eq_some_iff.1 e).1]; exact e⟩
/-- a variable that the iterator does not read may be written -/
theorem KX.kp {Rd : Nat → Prop} {h h1 : H} {t : Nat} {a : Addr} {cs : List Value} (v : Var h a t cs) (k : KX a.block h h1) (hR : ¬ Rd a.block) : KpP Rd h h1 :=
  ⟨fun b o e hl => by
    have hne : b ≠ a.block := fun e2 => by rw [e2, v.cells] at e; cases e; cases hl
    rw [k.2 b hne]; exact e, k.1, fun b o e hr _ => by
    have hne : b ≠ a.block := fun e2 => hR (e2 ▸ hr)
    rw [k.2 b hne]; exact e⟩
theorem KpP.trans {Rd : Nat → Prop} {a b c : H} (h : KpP Rd a b) (k : KpP Rd b c) : KpP Rd a c := ⟨fun i o e hl => k.1 i o (h.1 i o e hl) hl, h.2.trans k.2⟩
theorem KpP.refl (Rd : Nat → Prop) (h : H) : KpP Rd h h := (KB.refl h).kp

/-- round by round -/
theorem rounds_of {D : Nat} {Rd : Nat → Prop} {rd : Round} {done : H → Prop} (Inv : List (List Value) → H → Prop) (hz : ∀ xs h h1, Inv xs h → NzP Non (D + 1) h h1 → Inv xs h1)
    (hs : ∀ x xs h1 Kc, Inv (x :: xs) h1 → (∀ hb h', KpP Rd hb h' → Inv xs h' → Kc hb h') →
      rd x (fun he p => KpP Rd h1 he ∧ ∀ h2, NzP Non (D + 1) he h2 → p h2) Kc (fun hb h' p => KpP Rd hb h' ∧ ∀ h4, NzP Non (D + 1) h' h4 → dOpen D h4 → p h4) h1)
    (hd : ∀ h1, Inv [] h1 → dOpen D h1 → done h1) : ∀ (xs : List (List Value)) (h : H), Inv xs h → rounds D Non Rd rd done xs h
  | [], h, hi => fun h1 hn ho => hd h1 (hz _ _ _ hi hn) ho
  | x :: xs, h, hi => fun h1 hn => hs x xs h1 _ (hz _ _ _ hi hn) fun hb h' hk hi' => ⟨hk, rounds_of Inv hz hs hd xs h' hi'⟩
/-- a loop's block is left -/
theorem KW.leave {h0 h : H} {D : Nat} (k : KW h0 h) (hd : dOpen D h) : KW h0 (h.setIfInBounds D (.deferred none)) :=
  ⟨by simpa using k.1, fun b hb o e hl => by
    have e2 := k.2 b hb o e hl
    have hne : D ≠ b := fun e3 => by
      subst e3
      have hd : h[D]? = _ := hd
      rw [hd] at e2; cases e2; cases hl
    rw [Array.getElem?_setIfInBounds_ne hne]; exact e2⟩
theorem Var.dOpen {h h' : H} {a : Addr} {t D : Nat} {cs : List Value} (v : Var h a t cs) (k : KX a.block h h') (hd : dOpen D h) : dOpen D h' := by
  have hne : D ≠ a.block := fun e => by
    have hd : h[D]? = _ := hd
    rw [e, v.cells] at hd; cases hd
  show h'[D]? = _
  rw [k.2 D hne]; exact hd
theorem KB.leave {h0 h : H} {D : Nat} (k : KB h0 h) (hD : h0.size ≤ D) : KB h0 (h.setIfInBounds D (.deferred none)) :=
  ⟨by simpa using k.1, fun b hb => by
    have hb' : b < h0.size := hb
    rw [Array.getElem?_setIfInBounds_ne (by omega)]; exact k.2 b hb⟩
/-- the end of a function with one such loop: its result stands in a variable -/
theorem leave_int {h0 h : H} {D : Nat} {a : Addr} {t : Nat} {i : Int} {K : Value → H → Prop} (hd : dOpen D h) (k : KB h0 h) (hD : h0.size ≤ D) (v : Var h a t [.int .i64 i]) (hk : ∀ h', KB h0 h' → K (.int .i64 i) h') :
    leaveX [markD D] h fun h => ∃ j, cell h a = some (.int .i64 j) ∧ K (.int .i64 j) h := by
  have k2 := (KW.refl h).leave hd
  exact ⟨hd, i, (v.kw k2).cell0 rfl, hk _ (k.leave hD)⟩
end Go.Sh
