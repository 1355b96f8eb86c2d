/- class, in part: the walks. No condition but that the library's tables hold what they hold. -/
import Derived.Test.YtpkicfcnhgnejaaDoorCpP
import Derived.Test.YtpkicfcnhgnejaaDoorWalkClassDS
import Derived.Test.YtpkicfcnhgnejaaDoorUtW
import Derived.Test.YtpkicfcnhgnejaaDoorTxA
import Derived.Shelf.Unicode.DecodeLast
namespace Go.Proofs
open Go Go.Sh
set_option linter.unusedVariables false
set_option maxRecDepth 100000

theorem _root_.Go.Sh.hcalls_eq {P : Program} {f : FuncId} {args : Array Value} {h : H} {v : Value} {K : Value → H → Prop} (hc : ∀ w : World, w.heap = h → Calls P f args w fun e w' => e = .returned v ∧ w = w') (hk : K v h) : HCalls P f args h K :=
  hcalls_of (fun w hw => (hc w hw).mono fun e w' ⟨a, b⟩ => ⟨a, b.symm⟩) hk
/-- the library's two tables -/
def U8 (h : H) : Prop := (∀ c, c < 256 → cell h ⟨0, c, none⟩ = some (.int .u8 (Lib.firstT c))) ∧ ∀ i, i < 16 → cell h ⟨1, 2 * i, none⟩ = some (.int .u8 (Lib.accLo i)) ∧ cell h ⟨1, 2 * i + 1, none⟩ = some (.int .u8 (Lib.accHi i))
theorem U8.kb {h h' : H} (u : U8 h) (k : KB h h') : U8 h' :=
  ⟨fun c hc => (KB.w k).cell (cell_lt (u.1 c hc)) (u.1 c hc), fun i hi => ⟨(KB.w k).cell (cell_lt (u.2 i hi).1) (u.2 i hi).1, (KB.w k).cell (cell_lt (u.2 i hi).2) (u.2 i hi).2⟩⟩
theorem U8.tabs {h : H} (u : U8 h) {w : World} (hw : w.heap = h) : Lib.Utf8Tabs 0 1 w :=
  ⟨fun c hc => by rw [cell_eq, hw]; exact u.1 c hc, fun i hi => ⟨by rw [cell_eq, hw]; exact (u.2 i hi).1, by rw [cell_eq, hw]; exact (u.2 i hi).2⟩⟩
theorem apdI : Apd Tryd.prog (elInt .i32) 45 21 4 := apd_of (sz := 1) (by kernel_rfl) rfl

section
variable {A : Nat → Prop} {h : H} {s : Bs} {K : Value → H → Prop} {x : UInt8} {r : Int}
theorem blank_calls (hk : K (.bool (Tryd.blankI r)) h) : HCalls Tryd.prog 18 ⟨[.int .i32 r]⟩ h K := hcalls_eq (fun w _ => Tryd.blank_any _ w) hk
theorem rBlank_calls (hk : K (.bool (Tryd.blankI r)) h) : HCalls Tryd.prog 12 ⟨[.int .i32 r]⟩ h K := hcalls_eq (fun w _ => Tryd.blankRef_any _ w) hk
/-! ### around a place -/
theorem prev_calls {i : Int} (u : U8 h) (hs : s.length ≤ 1000000) (h10 : (i ≤ 0 ∨ i > s.length) → K (.int .i32 10) h) (hk : 0 < i → i ≤ s.length → ∀ h', KB h h' → K (.int .i32 ((Lib.decodeLastL (s.take i.toNat)).1 : Nat)) h') : HCalls Tryd.prog 17 ⟨[S s, .int .i64 i]⟩ h K := by
  refine Sx.class_Prev.ok _ _ _ _ (spl (fun e => h10 (.inl e)) fun e => spl (fun e2 => h10 (.inr e2)) fun e2 => ⟨⟨by omega, by omega, by omega⟩, ?_⟩)
  obtain ⟨n, rfl⟩ := Int.eq_ofNat_of_zero_le (show 0 ≤ i by omega)
  rw [sub_zero]
  exact hcalls_below (fun w hw => Tryd.utf8_DecodeLastRuneInString ⟨⟨s.take n⟩⟩ w (show (s.take n).length ≤ _ by simp; omega) (u.tabs hw)) fun h' k' => tupII (hk (by omega) (by omega) h' k')
theorem rPrev_calls {i : Int} (hs : s.length ≤ 1000000) (hk : ∀ h', KB h h' → K (.int .i32 (prevP s i)) h') : HCalls Tryd.prog 11 ⟨[S s, .int .i64 i]⟩ h K := by
  have h10 : (i ≤ 0 ∨ i > s.length) → K (.int .i32 10) h := fun e => by
    have := hk h (KB.refl h)
    unfold prevP at this
    rw [if_pos e] at this; exact this
  refine Sx.r02_Prev.ok _ _ _ _ (spl (fun e => h10 (.inl e)) fun e => spl (fun e2 => h10 (.inr e2)) fun e2 => ⟨⟨by omega, by omega, by omega⟩, ?_⟩)
  obtain ⟨n, rfl⟩ := Int.eq_ofNat_of_zero_le (show 0 ≤ i by omega)
  rw [sub_zero]
  have hne : s.take n ≠ [] := by
    intro h
    have := congrArg List.length h
    rw [List.length_take, List.length_nil] at this
    omega
  have hl : 0 < (runesP (s.take n)).length := List.length_pos_iff.2 (runes_ne hne)
  refine runesOf_k Tryd.underlying9 Tryd.underlying45 Tryd.underlying21 (by simp; omega) fun b c h1 r1 _ k1 => vSliceMk ⟨rng64 (by omega) (by have := r1.cap; have := r1.max; simp only [maxLen] at this; omega), ?_⟩
  have e1 : (((runesP (s.take n)).length : Nat) : Int) - 1 = (((runesP (s.take n)).length - 1 : Nat) : Int) := by omega
  rw [e1]
  refine r1.idxN (i := (runesP (s.take n)).length - 1) (by simp; omega) rfl fun a hA => ldI hA fun _ => ?_
  have := hk h1 k1
  unfold prevP at this
  rw [if_neg (by omega)] at this
  rw [List.getElem_map]
  rw [List.getLastD_eq_getLast?, List.getLast?_eq_getElem?, Int.toNat_natCast, List.getElem?_eq_getElem (by omega)] at this
  exact this
theorem rNext_calls {i : Int} (hs : s.length ≤ 1000000) (hk : ∀ h', KB h h' → K (.int .i32 (nextP s i)) h') : HCalls Tryd.prog 25 ⟨[S s, .int .i64 i]⟩ h K := by
  have h10 : (i < 0 ∨ i ≥ s.length) → K (.int .i32 10) h := fun e => by
    have := hk h (KB.refl h)
    unfold nextP at this
    rw [if_pos e] at this; exact this
  refine Sx.r02_Next.ok _ _ _ _ (spl (fun e => h10 (.inl e)) fun e => spl (fun e2 => h10 (.inr e2)) fun e2 => ⟨⟨by omega, by omega, by omega⟩, ?_⟩)
  obtain ⟨n, rfl⟩ := Int.eq_ofNat_of_zero_le (show 0 ≤ i by omega)
  rw [sub_full s n (by omega)]
  have hne : s.drop n ≠ [] := by
    intro h
    have := congrArg List.length h
    rw [List.length_drop, List.length_nil] at this
    omega
  have hc := runesP_ne hne
  refine runesOf_k Tryd.underlying9 Tryd.underlying45 Tryd.underlying21 (by simp; omega) fun b c h1 r1 _ k1 => vSliceMk (r1.idx (by decide) (by rw [hc]; simp) rfl fun a hi hA => ldI hA fun _ => ?_)
  have := hk h1 k1
  unfold nextP at this
  rw [if_neg (by omega)] at this
  have e : ((runesP (s.drop n)).map fun (r : Nat) => (r : Int))[(0 : Int).toNat]'hi = ((dec (s.drop n)).1 : Int) := by simp [hc]
  rw [e]; exact this
end
end Go.Proofs
