/- class, in part: the walks. No condition but that the library's tables hold what they hold. -/
import Derived.Test.YtgpfanbjchieiaaDoorCpA
import Derived.Test.YtgpfanbjchieiaaDoorUtW
import Derived.Test.YtgpfanbjchieiaaDoorTxA
import Derived.Shelf.Unicode.DecodeLast
namespace Go.Proofs
open Go Go.Sh
set_option linter.unusedVariables false
set_option maxRecDepth 100000

theorem _root_.Go.Sh.hcalls_eq {P : Program} {f : FuncId} {args : Array Value} {h : H} {v : Value} {K : Value → H → Prop} (hc : ∀ w : World, w.heap = h → Calls P f args w fun e w' => e = .returned v ∧ w = w') (hk : K v h) : HCalls P f args h K :=
  hcalls_of (fun w hw => (hc w hw).mono fun e w' ⟨a, b⟩ => ⟨a, b.symm⟩) hk
/-- the library's two tables -/
def U8 (h : H) : Prop := (∀ c, c < 256 → cell h ⟨0, c, none⟩ = some (.int .u8 (Lib.firstT c))) ∧ ∀ i, i < 16 → cell h ⟨1, 2 * i, none⟩ = some (.int .u8 (Lib.accLo i)) ∧ cell h ⟨1, 2 * i + 1, none⟩ = some (.int .u8 (Lib.accHi i))
theorem U8.kb {h h' : H} (u : U8 h) (k : KB h h') : U8 h' :=
  ⟨fun c hc => (KB.w k).cell (cell_lt (u.1 c hc)) (u.1 c hc), fun i hi => ⟨(KB.w k).cell (cell_lt (u.2 i hi).1) (u.2 i hi).1, (KB.w k).cell (cell_lt (u.2 i hi).2) (u.2 i hi).2⟩⟩
theorem U8.tabs {h : H} (u : U8 h) {w : World} (hw : w.heap = h) : Lib.Utf8Tabs 0 1 w :=
  ⟨fun c hc => by rw [cell_eq, hw]; exact u.1 c hc, fun i hi => ⟨by rw [cell_eq, hw]; exact (u.2 i hi).1, by rw [cell_eq, hw]; exact (u.2 i hi).2⟩⟩
theorem apdI : Apd Tryd.prog (elInt .i32) 65 21 4 := apd_of (sz := 1) (by kernel_rfl) rfl

section
variable {A : Nat → Prop} {h : H} {s : Bs} {K : Value → H → Prop} {x : UInt8} {r : Int}
theorem blank_calls (hk : K (.bool (Tryd.blankI r)) h) : HCalls Tryd.prog 18 ⟨[.int .i32 r]⟩ h K := hcalls_eq (fun w _ => Tryd.blank_any _ w) hk
theorem rBlank_calls (hk : K (.bool (Tryd.blankI r)) h) : HCalls Tryd.prog 22 ⟨[.int .i32 r]⟩ h K := hcalls_eq (fun w _ => Tryd.blankRef_any _ w) hk
theorem punct_calls (hr : Rng .i32 r) (hk : ∀ h', KB h h' → K (.bool (Tryd.punctI r)) h') : HCalls Tryd.prog 19 ⟨[.int .i32 r]⟩ h K :=
  hcalls_below (fun w _ => Tryd.punct_any _ w hr.1 hr.2) hk
theorem rowI {h' : H} {a : Addr} {t : Nat} (l : List Int) {n : Nat} (hn : l.length = n) (hm : n ≤ maxLen) (hr : l.all (fun x => decide (-2147483648 ≤ x ∧ x ≤ 2147483647)) = true) (v : Var h' a t (l.map fun x => Value.int .i32 x)) : Row (elInt .i32) (fun k => k = a.block) h' (some a) n n l :=
  Row.of (encI l fun x hx => by have := List.all_eq_true.1 hr x hx; rw [decide_eq_true_eq] at this; exact this) (fun j u hu => ⟨a, rfl, v.cell j hu⟩) hn (Nat.le_refl _) hm fun x e => by cases e; rfl
theorem rPunct_calls (hk : ∀ h', KB h h' → K (.bool (anyPair r refL)) h') : HCalls Tryd.prog 23 ⟨[.int .i32 r]⟩ h K := by
  refine Sx.r02_Punct.ok _ _ _ (newx_var fun a1 h1 v1 k1 e1 s1 => newx_var fun a2 h2 v2 k2 e2 s2 => ?_)
  have r1 := (rowI (n := 26) [33, 47, 58, 64, 91, 96, 123, 126, 161, 169, 171, 172, 174, 177, 180, 180, 182, 184, 187, 187, 191, 191, 215, 215, 247, 247] rfl (by decide) (by decide) v1).kb k2
  have r2 := rowI (n := 20) [8208, 8231, 8240, 8286, 8352, 8384, 8592, 9215, 9472, 10175, 11776, 11869, 12289, 12291, 12296, 12320, 65040, 65049, 65072, 65131] rfl (by decide) (by decide) v2
  refine Row.appendF apdI r1 (.inr (by omega)) r2 (fun h => by cases h) (by decide) (by decide) (fun h => by cases h) fun c3 h3 _ o3 k3 => vSliceMk (newx_var fun a4 h4 v4 k4 e4 s4 => ?_)
  have r4 := rowI (n := 10) [65281, 65295, 65306, 65312, 65339, 65344, 65371, 65381, 127744, 129791] rfl (by decide) (by decide) v4
  have k3s := k3.1
  have k4s := k4.1
  refine OwnF.append apdI (o3.kb k4) (r4.less fun k hk _ => by subst hk; exact ⟨v4.lt, fun x hx => by have := o3.hi x hx; omega⟩) (by decide) (by decide) (by omega) fun b5 c5 h5 o5 g5 => vSliceMk ?_
  have k05 : KB h h5 := Grow.kb0 (((k1.trans k2).trans k3).trans k4) g5 (fun x hx => by have := o3.lo x hx; have := k1.1; have := k2.1; omega)
  have r5 := o5.row
  have hl := r5.len
  refine ⟨29, ?_⟩
  have key : ∀ k i, 2 * k + i = 56 → anyPair r (refL.drop i) = anyPair r refL → Sx.r02_Punct.n10_L (fun h => K (.bool false) h) (fun h => K (.bool false) h) (fun y2 h => K (.bool y2) h) (k + 1) r b5 (26 + 20 + 10) c5 (i : Int) h5 := by
    intro k
    induction k with
    | zero =>
      intro i hi he
      have hi2 : i = 56 := by omega
      subst hi2
      refine splF (by decide) ?_
      rw [show anyPair r (refL.drop 56) = false from rfl] at he
      rw [he]; exact hk h5 k05
    | succ k ih =>
      intro i hi he
      have i1 : i < refL.length := by show i < 56; omega
      have i2 : i + 1 < refL.length := by show i + 1 < 56; omega
      have hd : refL.drop i = refL[i] :: refL[i + 1] :: refL.drop (i + 2) := by rw [List.drop_eq_getElem_cons i1, List.drop_eq_getElem_cons i2]
      rw [hd] at he
      have he2 : ((decide (refL[i] ≤ r) && decide (r ≤ refL[i + 1])) || anyPair r (refL.drop (i + 2))) = anyPair r refL := he
      have next : (decide (refL[i] ≤ r) && decide (r ≤ refL[i + 1])) = false → Rng .i64 ((i : Int) + 2) ∧ Sx.r02_Punct.n10_L (fun h => K (.bool false) h) (fun h => K (.bool false) h) (fun y2 h => K (.bool y2) h) (k + 1) r b5 (26 + 20 + 10) c5 ((i : Int) + 2) h5 := fun e => by
        rw [e, Bool.false_or] at he2
        exact ⟨rng64 (by omega) (by omega), ih (i + 2) (by omega) he2⟩
      refine splT (by omega) (r5.idxN i1 rfl fun a hA => ldI hA fun _ => spl (fun e => ⟨rng64 (by omega) (by omega), r5.idxN (i := i + 1) i2 rfl fun a' hA' => ldI hA' fun _ => spl (fun e' => ?_) fun e' => next ?_⟩) fun e => next ?_)
      · have : anyPair r refL = true := by rw [← he2, decide_eq_true (show refL[i] ≤ r from e), decide_eq_true (show r ≤ refL[i + 1] from e')]; rfl
        rw [this] at hk; exact hk h5 k05
      · rw [decide_eq_false (show ¬ r ≤ refL[i + 1] from e'), Bool.and_false]
      · rw [decide_eq_false (show ¬ refL[i] ≤ r from fun h => e h)]; rfl
  exact key 28 0 (by omega) rfl

/-! ### around a place -/
theorem prev_calls {i : Int} (u : U8 h) (hs : s.length ≤ 1000000) (h10 : (i ≤ 0 ∨ i > s.length) → K (.int .i32 10) h) (hk : 0 < i → i ≤ s.length → ∀ h', KB h h' → K (.int .i32 ((Lib.decodeLastL (s.take i.toNat)).1 : Nat)) h') : HCalls Tryd.prog 15 ⟨[S s, .int .i64 i]⟩ h K := by
  refine Sx.class_Prev.ok _ _ _ _ (spl (fun e => h10 (.inl e)) fun e => spl (fun e2 => h10 (.inr e2)) fun e2 => ⟨⟨by omega, by omega, by omega⟩, ?_⟩)
  obtain ⟨n, rfl⟩ := Int.eq_ofNat_of_zero_le (show 0 ≤ i by omega)
  rw [sub_zero]
  exact hcalls_below (fun w hw => Tryd.utf8_DecodeLastRuneInString ⟨⟨s.take n⟩⟩ w (show (s.take n).length ≤ _ by simp; omega) (u.tabs hw)) fun h' k' => tupII (hk (by omega) (by omega) h' k')
theorem next_calls {i : Int} (u : U8 h) (hs : s.length ≤ 1000000) (hk : ∀ h', KB h h' → K (.int .i32 (nextP s i)) h') : HCalls Tryd.prog 16 ⟨[S s, .int .i64 i]⟩ h K := by
  have h10 : (i < 0 ∨ i ≥ s.length) → K (.int .i32 10) h := fun e => by
    have := hk h (KB.refl h)
    unfold nextP at this
    rw [if_pos e] at this; exact this
  refine Sx.class_Next.ok _ _ _ _ (spl (fun e => h10 (.inl e)) fun e => spl (fun e2 => h10 (.inr e2)) fun e2 => ⟨⟨by omega, by omega, by omega⟩, ?_⟩)
  obtain ⟨n, rfl⟩ := Int.eq_ofNat_of_zero_le (show 0 ≤ i by omega)
  rw [sub_full s n (by omega)]
  have hne : (⟨⟨s.drop n⟩⟩ : ByteArray).size ≠ 0 := show (s.drop n).length ≠ 0 by simp; omega
  refine hcalls_below (fun w hw => Tryd.utf8_DecodeRuneInString ⟨⟨s.drop n⟩⟩ w (u.tabs hw)) fun h' k' => tupII ?_
  have := hk h' k'
  unfold nextP at this
  rw [if_neg (by omega)] at this
  unfold Lib.decodeGo
  rw [if_neg hne, decode_dec]
  exact this
theorem rPrev_calls {i : Int} (hs : s.length ≤ 1000000) (hk : ∀ h', KB h h' → K (.int .i32 (prevP s i)) h') : HCalls Tryd.prog 20 ⟨[S s, .int .i64 i]⟩ h K := by
  have h10 : (i ≤ 0 ∨ i > s.length) → K (.int .i32 10) h := fun e => by
    have := hk h (KB.refl h)
    unfold prevP at this
    rw [if_pos e] at this; exact this
  refine Sx.r02_Prev.ok _ _ _ _ (spl (fun e => h10 (.inl e)) fun e => spl (fun e2 => h10 (.inr e2)) fun e2 => ⟨⟨by omega, by omega, by omega⟩, ?_⟩)
  obtain ⟨n, rfl⟩ := Int.eq_ofNat_of_zero_le (show 0 ≤ i by omega)
  rw [sub_zero]
  have hne : s.take n ≠ [] := by
    intro h
    have := congrArg List.length h
    rw [List.length_take, List.length_nil] at this
    omega
  have hl : 0 < (runesP (s.take n)).length := List.length_pos_iff.2 (runes_ne hne)
  refine runesOf_k Tryd.underlying9 Tryd.underlying65 Tryd.underlying21 (by simp; omega) fun b c h1 r1 _ k1 => vSliceMk ⟨rng64 (by omega) (by have := r1.cap; have := r1.max; simp only [maxLen] at this; omega), ?_⟩
  have e1 : (((runesP (s.take n)).length : Nat) : Int) - 1 = (((runesP (s.take n)).length - 1 : Nat) : Int) := by omega
  rw [e1]
  refine r1.idxN (i := (runesP (s.take n)).length - 1) (by simp; omega) rfl fun a hA => ldI hA fun _ => ?_
  have := hk h1 k1
  unfold prevP at this
  rw [if_neg (by omega)] at this
  rw [List.getElem_map]
  rw [List.getLastD_eq_getLast?, List.getLast?_eq_getElem?, Int.toNat_natCast, List.getElem?_eq_getElem (by omega)] at this
  exact this
theorem rNext_calls {i : Int} (hs : s.length ≤ 1000000) (hk : ∀ h', KB h h' → K (.int .i32 (nextP s i)) h') : HCalls Tryd.prog 21 ⟨[S s, .int .i64 i]⟩ h K := by
  have h10 : (i < 0 ∨ i ≥ s.length) → K (.int .i32 10) h := fun e => by
    have := hk h (KB.refl h)
    unfold nextP at this
    rw [if_pos e] at this; exact this
  refine Sx.r02_Next.ok _ _ _ _ (spl (fun e => h10 (.inl e)) fun e => spl (fun e2 => h10 (.inr e2)) fun e2 => ⟨⟨by omega, by omega, by omega⟩, ?_⟩)
  obtain ⟨n, rfl⟩ := Int.eq_ofNat_of_zero_le (show 0 ≤ i by omega)
  rw [sub_full s n (by omega)]
  have hne : s.drop n ≠ [] := by
    intro h
    have := congrArg List.length h
    rw [List.length_drop, List.length_nil] at this
    omega
  have hc := runesP_ne hne
  refine runesOf_k Tryd.underlying9 Tryd.underlying65 Tryd.underlying21 (by simp; omega) fun b c h1 r1 _ k1 => vSliceMk (r1.idx (by decide) (by rw [hc]; simp) rfl fun a hi hA => ldI hA fun _ => ?_)
  have := hk h1 k1
  unfold nextP at this
  rw [if_neg (by omega)] at this
  have e : ((runesP (s.drop n)).map fun (r : Nat) => (r : Int))[(0 : Int).toNat]'hi = ((dec (s.drop n)).1 : Int) := by simp [hc]
  rw [e]; exact this
end
end Go.Proofs
