/- Memory: a field of an element of one's own row is stored; pointers against nil. No condition. -/
import Derived.Test.YtmnjhhgdhlgjfaaHmG
import Derived.Laws.Pointers
namespace Go.Sh
open Go
set_option linter.unusedVariables false
variable {P : Program} {α : Type} {E : El α}

/-! ### pointers -/
theorem eqGuard_ptr {op : BinOp} {t : TypeId} {x y : Operand} {p q : Option Addr} {w : World} : (eqGuard op t x y (.pointer p) (.pointer q)).run P w = .ok () w := by
  unfold eqGuard
  cases op <;> simp
theorem ptrNe_R {t : TypeId} {x y : Operand} {p : Option Addr} {h : H} {K : Value → Prop} (ht : P.underlying t = some (.pointer (P.pointee t))) (hk : K (.bool (!p.isNone))) : SemR P (binS .neq t x y (.pointer p) (.pointer none)) h K :=
  ⟨_, hk, fun w _ => by unfold binS; rw [Sem.run_bind, eqGuard_ptr, Result.andThen_ok]; exact run_neq_pointer_nil w t p ht⟩
theorem ptrEq_R {t : TypeId} {x y : Operand} {p : Option Addr} {h : H} {K : Value → Prop} (ht : P.underlying t = some (.pointer (P.pointee t))) (hk : K (.bool p.isNone)) : SemR P (binS .eql t x y (.pointer p) (.pointer none)) h K :=
  ⟨_, hk, fun w _ => by unfold binS; rw [Sem.run_bind, eqGuard_ptr, Result.andThen_ok]; exact run_eql_pointer_nil w t p ht⟩
theorem ptrNe_k {t : TypeId} {x y : Operand} {p : Option Addr} {h : H} {K : Value → H → Prop} (ht : P.underlying t = some (.pointer (P.pointee t))) (hk : K (.bool (!p.isNone)) h) : SemH P (binS .neq t x y (.pointer p) (.pointer none)) h K := (ptrNe_R ht (K := fun v => K v h) hk).h
theorem ptrEq_k {t : TypeId} {x y : Operand} {p : Option Addr} {h : H} {K : Value → H → Prop} (ht : P.underlying t = some (.pointer (P.pointee t))) (hk : K (.bool p.isNone) h) : SemH P (binS .eql t x y (.pointer p) (.pointer none)) h K := (ptrEq_R ht (K := fun v => K v h) hk).h

/-! ### a field of an element -/
theorem Enc.set {A : Nat → Prop} {h : H} : ∀ {l : List α} {xs : List Value} {i f : Nat} {x x' : α} {v : Value}, Enc E A h l xs → l[i]? = some x → f < E.sz → (∀ cs, E.R A h x cs → E.R A h x' (cs.set f v)) → Enc E A h (l.set i x') (xs.set (i * E.sz + f) v)
  | [], xs, i, f, x, x', v, e, hx, _, _ => by simp at hx
  | y :: l, xs, 0, f, x, x', v, ⟨cs, r, e, h1, h2⟩, hx, hf, hR => by
    simp at hx
    subst hx
    have hl := E.len _ _ _ _ h1
    refine ⟨cs.set f v, r, ?_, hR cs h1, h2⟩
    rw [e, Nat.zero_mul, Nat.zero_add, List.set_append_left _ _ (by omega)]
  | y :: l, xs, i + 1, f, x, x', v, ⟨cs, r, e, h1, h2⟩, hx, hf, hR => by
    have hl := E.len _ _ _ _ h1
    have ih := Enc.set (i := i) (f := f) (x' := x') (v := v) h2 (by simpa using hx) hf hR
    refine ⟨cs, r.set (i * E.sz + f) v, ?_, h1, ih⟩
    rw [e, Nat.add_mul, List.set_append_right _ _ (by omega), hl]
    congr 2
    omega
theorem set_take {β : Type} (l : List β) (n k : Nat) (v : β) : (l.set k v).take n = (l.take n).set k v := List.take_set
/-- a store into one's own row of flat elements -/
theorem ownF_setF (hf : Flat E) {h : H} {base e n c i f : Nat} {b : Option Addr} {l : List α} {x x' : α} {v : Value} {z : Nat} {K : H → Prop} (o : OwnF E h base e b n c l) (hx : l[i]? = some x) (hz : z = E.sz) (hfs : f < E.sz) (hv : oneC v = true)
    (hR : ∀ A h cs, E.R A h x cs → E.R A h x' (cs.set f v))
    (hk : ∀ a h', b = some a → OwnF E h' base e b n c (l.set i x') → KX a.block h h' → h'.size = h.size → base ≤ a.block → K h') :
    (0 ≤ (i : Int) ∧ (i : Int) < (n : Int)) ∧ vSome b fun a => stL ((a.add (Int.toNat (i : Int) * z)).add f) [v] 0 h K := by
  subst hz
  obtain ⟨xs, h1, h2⟩ := o.own.own
  have hi : i < l.length := (List.getElem?_eq_some_iff.1 hx).1
  have hn := o.own.len
  refine ⟨⟨by omega, by omega⟩, ?_⟩
  rw [Int.toNat_natCast]
  rcases h1.is with ⟨hn0, _⟩ | ⟨g, cur, rfl, hbg, hg, hcs, htk⟩
  · omega
  · have hgl : g < h.size := (Array.getElem?_eq_some_iff.1 hg).1
    have hin : i * E.sz + f < n * E.sz := by
      have : (i + 1) * E.sz ≤ n * E.sz := Nat.mul_le_mul_right _ (by omega)
      rw [Nat.add_mul] at this; omega
    have hcap : n * E.sz ≤ c * E.sz := Nat.mul_le_mul_right _ h1.cap
    have ha : ((((⟨g, 0, Option.none⟩ : Addr).add (i * E.sz)).add f).add 0) = (⟨g, 0, Option.none⟩ : Addr).add (i * E.sz + f) := by rw [add_add, add_add]; rfl
    have hin2 : i * E.sz + f < cur.size := by omega
    show stL (((⟨g, 0, Option.none⟩ : Addr).add (i * E.sz)).add f) [v] 0 h K
    unfold stL
    rw [ha]
    refine ⟨⟨cur[i * E.sz + f], ?_⟩, ?_, ?_⟩
    · rw [cell_lit hg]; simp [hin2]
    · unfold iced
      rw [add_block, hg]
      simp
    · show K (setc h ((⟨g, 0, Option.none⟩ : Addr).add (i * E.sz + f)) v)
      have e1 : ((⟨g, 0, Option.none⟩ : Addr).add (i * E.sz + f)) = ⟨g, i * E.sz + f, Option.none⟩ := by unfold Addr.add; split <;> simp_all
      have hkx : KX g h (setc h ((⟨g, 0, Option.none⟩ : Addr).add (i * E.sz + f)) v) := SK.setc (by rw [add_block]; exact fun e => e rfl)
      refine hk _ _ rfl ⟨⟨by rw [List.length_set]; exact hn, xs.set (i * E.sz + f) v, ⟨by rw [List.length_set]; exact h1.len, h1.cap, h1.max, .inr ⟨g, cur.setIfInBounds (i * E.sz + f) v, rfl, hbg, ?_, by simpa using hcs, ?_⟩⟩, ?_⟩, o.lo, fun a ea => by rw [setc_size]; exact o.hi a ea, o.nil⟩ hkx (setc_size ..) hbg
      · rw [e1]
        unfold setc
        rw [Array.getElem?_modify, if_pos rfl, hg]
        simp
      · rw [Array.toList_setIfInBounds, set_take, htk]
      · exact (h2.flat hf).set hx hfs (hR _ _)
/-- flat elements, whatever they point at -/
theorem OwnT.flatK {A A' : Nat → Prop} {h h' : H} {base e n c : Nat} {b : Option Addr} {l : List α} {B : Nat → Prop} (o : OwnT E A h base e b n c l) (k : Keep B h h') (hf : Flat E) (hg : ∀ g, b = some ⟨g, 0, none⟩ → base ≤ g → g < h.size → B g) : OwnT E A' h' base e b n c l := by
  obtain ⟨xs, h1, h2⟩ := o.own
  exact ⟨o.len, xs, h1.keep k hg, h2.flat hf⟩
theorem OwnF.flatK {h h' : H} {base e n c : Nat} {b : Option Addr} {l : List α} {B : Nat → Prop} (o : OwnF E h base e b n c l) (k : SK B h h') (hf : Flat E) (hg : ∀ g, base ≤ g → B g) : OwnF E h' base e b n c l :=
  ⟨o.own.flatK k.w hf fun g _ hg1 _ => hg g hg1, o.lo, fun a ea => Nat.lt_of_lt_of_le (o.hi a ea) k.1, o.nil⟩
/-- one element behind one's own row; all blocks but the row's stay -/
theorem one_appG {t ty e by' : Nat} (ap : Apd P E t e by') {h : H} {base : Nat} {ob : Option Addr} {on oc : Nat} {out : List α} {x : α} {cs : List Value} {K : Value → H → Prop} (hR : ∀ A h, E.R A h x cs) (o : OwnF E h base e ob on oc out) (k0s : base ≤ h.size) (hm : on + 1 ≤ maxLen) (hl : (on + 1) * by' ≤ 140737488355328)
    (hk : ∀ b' c' h', OwnF E h' base e b' (on + 1) c' (out ++ [x]) → SK (But h ob) h h' → K (.slice b' (on + 1) c') h') :
    newx h ⟨cs⟩ e fun a h1 => SemH P (Builtin.append_ #[t, t] ty ⟨[(.slice ob on oc), (.slice (some a) 1 1)]⟩) h1 K := by
  refine newx_var (cs := cs) fun a h4 v4 k4 ea es => ?_
  have rv : Row E (fun k => k = a.block) h4 (some a) 1 1 [x] := v4.row1 (hR _ _) rfl
  have k4s := k4.1
  refine OwnF.append ap (o.kb k4) (rv.keep (Keep.refl _ _) fun k hk _ => by subst hk; exact ⟨v4.lt, fun x hx => by have := o.hi x hx; omega⟩) hm hl (by omega) fun b5 c5 h5 o5 g5 => hk b5 c5 h5 o5 ⟨Nat.le_trans k4.1 g5.size, fun k hk => ?_⟩
  obtain ⟨hk1, hk2⟩ := hk
  exact (g5.old k (by omega) hk2).trans (k4.2 k hk1)
/-- one element behind one's own row -/
theorem one_app {t ty e by' : Nat} (ap : Apd P E t e by') {h : H} {base : Nat} {ob : Option Addr} {on oc : Nat} {out : List α} {x : α} {cs : List Value} {K : Value → H → Prop} (hR : ∀ A h, E.R A h x cs) (o : OwnF E h base e ob on oc out) (k0s : base ≤ h.size) (hm : on + 1 ≤ maxLen) (hl : (on + 1) * by' ≤ 140737488355328)
    (hk : ∀ b' c' h', OwnF E h' base e b' (on + 1) c' (out ++ [x]) → SK (Bel base) h h' → K (.slice b' (on + 1) c') h') :
    newx h ⟨cs⟩ e fun a h1 => SemH P (Builtin.append_ #[t, t] ty ⟨[(.slice ob on oc), (.slice (some a) 1 1)]⟩) h1 K := by
  refine newx_var (cs := cs) fun a h4 v4 k4 ea es => ?_
  have rv : Row E (fun k => k = a.block) h4 (some a) 1 1 [x] := v4.row1 (hR _ _) rfl
  have k4s := k4.1
  refine OwnF.append ap (o.kb k4) (rv.keep (Keep.refl _ _) fun k hk _ => by subst hk; exact ⟨v4.lt, fun x hx => by have := o.hi x hx; omega⟩) hm hl (by omega) fun b5 c5 h5 o5 g5 => hk b5 c5 h5 o5 ⟨Nat.le_trans k4.1 g5.size, fun k hk => ?_⟩
  have hk : k < base := hk
  exact (g5.old k (by omega) fun x e => by have := o.lo x e; omega).trans (k4.2 k (show k < h.size by omega))
end Go.Sh
