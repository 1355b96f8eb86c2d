/- The contract of class.Fold (a Builder in a range over a text; turned from the kit's worked walk of that shape). -/
import Derived.Test.YtnnknbecgpdcgaaDoorBuilder
import Derived.Test.YtnnknbecgpdcgaaDoorWalkTurned
import Derived.Test.YtnnknbecgpdcgaaDoorPlainClass
import Derived.BigCall
namespace Go.Proofs
open Go.RowKit
set_option linter.unusedSimpArgs false
set_option linter.unusedVariables false

/-- what one character becomes -/
def Tryd.foldR (r : Nat) : List UInt8 := if r = 223 ∨ r = 7838 then [115, 115] else Lib.encodeRune (Tryd.turnedI (r : Int))
def Tryd.foldB (s : ByteArray) : List UInt8 := (Ty.runesOf s).flatMap Tryd.foldR

theorem Tryd.width_pos (s : ByteArray) (pos : Nat) (h : pos < s.size) : 1 ≤ (Utf8.decode s pos).2 := by
  by_cases ha : (s[pos]'h).toNat < 128
  · rw [decode_ascii s pos h ha]
    exact Nat.le_refl _
  · exact (decode_high s pos h (by omega)).2

theorem Tryd.turnedI_bound (r : Int) (h0 : 0 ≤ r) (h1 : r ≤ 2147483647) : 0 ≤ Tryd.turnedI r ∧ Tryd.turnedI r ≤ 2147483647 := by
  unfold Tryd.turnedI
  (repeat' split) <;> omega

theorem Tryd.ss_cells : Lib.strCells ⟨#[115, 115]⟩ = Lib.byteCells [115, 115] := by simp [Lib.strCells, Lib.byteCells]

set_option maxHeartbeats 4000000 in
set_option maxRecDepth 1000000 in
theorem Tryd.fold_any (s : ByteArray) (w : World) (hs : s.size ≤ 35184372088832) :
    Calls Tryd.prog 14 #[.string s] w fun e w' => e = .returned (.string ⟨(Tryd.foldB s).toArray⟩) ∧ Below w.heap.size w w' := by
  go_enter Tryd.func14, Tryd.ntmps14
  go_wp2
  go_loopw [] (fun wr => ∃ (pos fuel : Nat) (acc : List UInt8), Lib.IsBuilderF 40 5 w.heap.size w.heap.size (Lib.byteCells acc) wr ∧ wr.heap[w.heap.size + 1]? = some (.stringIter s pos) ∧ Below w.heap.size w wr ∧ acc ++ (Ty.runesFrom s fuel pos).flatMap Tryd.foldR = Tryd.foldB s ∧ s.size ≤ pos + fuel ∧ acc.length ≤ 4 * pos) (fun wr => s.size - wr.iterPos (w.heap.size + 1))
  case atStart =>
    refine ⟨0, s.size, [], (Lib.IsBuilderF.of (Lib.fresh_isBuilder 40 5 w)).alloc _, ?_, ((Below.refl _ w).alloc (Nat.le_refl _) _).alloc (by simp) _, rfl, by omega, by simp⟩
    have := World.iter_heap (w.alloc (.cells #[.pointer none, .slice none 0 0] 40)) s 0
    simpa using this
  case round =>
    obtain ⟨pos, fuel, acc, hI, hit, hbw, hacc, hfu, hal⟩ := hrel
    have hsz : w.heap.size + 1 < wr.heap.size := (Array.getElem?_eq_some_iff.1 hit).1
    by_cases hp : pos < s.size
    · have hnx : ∀ ty, (Instr.next (.pointer (some ⟨w.heap.size + 1, 0, none⟩)) true ty).run Tryd.prog wr = _ := fun ty => Lib.run_next_any_at wr (w.heap.size + 1) s pos ty hit hp
      have hwd := Tryd.width_pos s pos hp
      have hd1 := decode_le s pos
      have hI2 := hI.iterAt hit (pos + (Utf8.decode s pos).2)
      have hit2 := Lib.iterAt_heap wr (w.heap.size + 1) s pos (pos + (Utf8.decode s pos).2) hit
      have hbw2 := Lib.below_iterAt hbw (k := w.heap.size + 1) (by omega) s (pos + (Utf8.decode s pos).2)
      have hsz2 : w.heap.size ≤ (wr.iterAt (w.heap.size + 1) s (pos + (Utf8.decode s pos).2)).heap.size := by rw [Lib.iterAt_size]; omega
      obtain ⟨f, rfl⟩ : ∃ f, fuel = f + 1 := ⟨fuel - 1, by omega⟩
      have hst := Ty.runesFrom_step s f pos hp
      have HST := Lib.hid hst
      clear hst
      by_cases h32 : (Utf8.decode s pos).1 = 223 ∨ (Utf8.decode s pos).1 = 7838
      · have HF : Hid (Tryd.foldR (Utf8.decode s pos).1 = [115, 115]) := by
          have e : Tryd.foldR (Utf8.decode s pos).1 = [115, 115] := by unfold Tryd.foldR; rw [if_pos h32]
          exact e
        have hstep := Lib.hid (show (acc ++ [115, 115]) ++ (Ty.runesFrom s f (pos + (Utf8.decode s pos).2)).flatMap Tryd.foldR = Tryd.foldB s by
          rw [← hacc, HST.out, List.flatMap_cons, HF.out, List.append_assoc])
        clear hacc
        rcases h32 with h32 | h32
        all_goals
          go_wp2_with (go_at_call 33; refine (Tryd.WriteString_k w.heap.size w.heap.size _ ⟨#[115, 115]⟩ _ hI2 (by rw [Lib.byteCells_length]; show acc.length + 2 ≤ _; omega) hsz2).mono ?_)
          rintro e W1 ⟨rfl, h1, b1, k1⟩
          go_wp2
          go_roundw
          case rel =>
            refine ⟨pos + (Utf8.decode s pos).2, f, acc ++ [115, 115], ?_, k1.iter hit2 (by omega), hbw2.trans b1, hstep.out, by omega, ?_⟩
            · rw [Lib.byteCells_append, ← Tryd.ss_cells]; exact Or.inr h1
            · simp; omega
          case measure =>
            simp only [World.iterPos, k1.iter hit2 (by omega), hit]
            omega
      · have h1 : ¬ (Utf8.decode s pos).1 = 223 := fun e => h32 (Or.inl e)
        have h2 : ¬ (Utf8.decode s pos).1 = 7838 := fun e => h32 (Or.inr e)
        have g1 : (((Utf8.decode s pos).1 : Int) == 223) = false := by rw [beq_eq_false_iff_ne]; omega
        have g2 : (((Utf8.decode s pos).1 : Int) == 7838) = false := by rw [beq_eq_false_iff_ne]; omega
        have HF : Hid (Tryd.foldR (Utf8.decode s pos).1 = Lib.encodeRune (Tryd.turnedI ((Utf8.decode s pos).1 : Int))) := by
          have e : Tryd.foldR (Utf8.decode s pos).1 = Lib.encodeRune (Tryd.turnedI ((Utf8.decode s pos).1 : Int)) := by unfold Tryd.foldR; rw [if_neg h32]
          exact e
        have hstep := Lib.hid (show (acc ++ Lib.encodeRune (Tryd.turnedI ((Utf8.decode s pos).1 : Int))) ++ (Ty.runesFrom s f (pos + (Utf8.decode s pos).2)).flatMap Tryd.foldR = Tryd.foldB s by
          rw [← hacc, HST.out, List.flatMap_cons, HF.out, List.append_assoc])
        have ht := Tryd.turnedI_bound ((Utf8.decode s pos).1 : Int) (by omega) (by omega)
        obtain ⟨ht0, ht1⟩ := ht
        clear hacc h32 h1 h2
        go_wp2_with (go_at_call 35; refine (Tryd.turned_any _ _ (by omega) (by omega)).mono ?_; rintro e w' ⟨rfl, rfl⟩)
        refine (Tryd.WriteRune_k w.heap.size w.heap.size _ _ (by omega) (by omega) _ hI2 (by rw [Lib.byteCells_length]; omega) hsz2).mono ?_
        rintro e W1 ⟨rfl, h1, b1, k1⟩
        go_wp2
        go_roundw
        case rel =>
          have hl4 := Lib.runeCells_le (Tryd.turnedI ((Utf8.decode s pos).1 : Int))
          rw [Lib.runeCells_length] at hl4
          refine ⟨pos + (Utf8.decode s pos).2, f, acc ++ Lib.encodeRune (Tryd.turnedI ((Utf8.decode s pos).1 : Int)), ?_, k1.iter hit2 (by omega), hbw2.trans b1, hstep.out, by omega, by simp; omega⟩
          rw [Lib.byteCells_append, Lib.byteCells_encodeRune]; exact Or.inr h1
        case measure =>
          simp only [World.iterPos, k1.iter hit2 (by omega), hit]
          omega
    · have hnx : ∀ ty, (Instr.next (.pointer (some ⟨w.heap.size + 1, 0, none⟩)) true ty).run Tryd.prog wr = _ := fun ty => Lib.run_next_end_at wr (w.heap.size + 1) s pos ty hit hp
      go_wp2_with fail
      refine (Tryd.Builder_String_any_k w.heap.size w.heap.size acc _ hI (by omega)).mono ?_
      rintro e W1 ⟨rfl, _, b1, _⟩
      go_wp2
      go_ret
      rw [Ty.runesFrom_end s fuel pos hp, List.flatMap_nil, List.append_nil] at hacc
      subst hacc
      exact ⟨rfl, hbw.trans b1⟩
end Go.Proofs
