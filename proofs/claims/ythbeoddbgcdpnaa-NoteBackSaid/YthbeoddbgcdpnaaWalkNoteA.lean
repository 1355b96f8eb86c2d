/- Contracts of the text functions of 'note': upTo, comment, over the library's Cut, HasPrefix, CutSuffix. -/
import Derived.Test.YthbeoddbgcdpnaaWalkClassB
import Derived.Test.YthbeoddbgcdpnaaShelf
import Derived.Lib.CutLaws
import Derived.Deep.LoopGhost
namespace Go.Proofs
open Go.RowKit
set_option linter.unusedSimpArgs false
set_option linter.unusedVariables false

/-- what a function of a text and a number returns -/
def Try.RetSI (l : List UInt8) (k : Int) (e : Ending) : Prop := ∃ t : ByteArray, e = .returned (.tuple #[.string t, .int .i64 k]) ∧ t.data.toList = l

theorem Try.hasPrefix_is (s p : ByteArray) (b : Bool) (w : World) (h : Lib.hasPrefix s.data.toList p.data.toList = b) :
    Calls Try.prog 14 #[.string s, .string p] w fun e w' => e = .returned (.bool b) ∧ w = w' :=
  (Try.strings_HasPrefix s p w).mono fun e w' ⟨h1, h2⟩ => ⟨by rw [h1, h], h2.symm⟩

theorem Try.cutSuffix_is (s p : ByteArray) (b : Bool) (w : World) (hs : s.size ≤ 9223372036854775807) (h : Lib.hasSuffix s.data.toList p.data.toList = b) :
    Calls Try.prog 26 #[.string s, .string p] w fun e w' => (∃ t : ByteArray, e = .returned (.tuple #[.string t, .bool b]) ∧ t.data.toList = Lib.trimSuffix s.data.toList p.data.toList) ∧ w = w' :=
  (Try.strings_CutSuffix s p w hs).mono fun e w' ⟨h1, h2⟩ => ⟨⟨⟨(Lib.trimSuffix s.data.toList p.data.toList).toArray⟩, by rw [h1, h], by simp⟩, h2.symm⟩

theorem Try.cut_hit (s p : ByteArray) (m : Int) (w : World) (hs : s.size < 4294967281) (hm : w.cell? ⟨0, 0, none⟩ = some (.int .i64 m)) (i : Nat) (h : Lib.index s.data.toList p.data.toList = i) :
    Calls Try.prog 28 #[.string s, .string p] w fun e w' => e = .returned (.tuple #[.string (s.extract 0 i), .string (s.extract (i + p.size) s.size), .bool true]) ∧ Below w.heap.size w w' :=
  (Try.strings_Cut s p m w hs hm).mono fun e w' ⟨h1, n, h2⟩ => by
    obtain ⟨a, b, c⟩ := Lib.cutB_hit s p i h
    rw [a, b, c] at h1
    exact ⟨h1, h2 ▸ below_drewN (Below.refl _ _) n⟩

theorem Try.cut_miss (s p : ByteArray) (m : Int) (w : World) (hs : s.size < 4294967281) (hm : w.cell? ⟨0, 0, none⟩ = some (.int .i64 m)) (h : Lib.index s.data.toList p.data.toList = -1) :
    Calls Try.prog 28 #[.string s, .string p] w fun e w' => e = .returned (.tuple #[.string s, .string ByteArray.empty, .bool false]) ∧ Below w.heap.size w w' :=
  (Try.strings_Cut s p m w hs hm).mono fun e w' ⟨h1, n, h2⟩ => by
    obtain ⟨a, b, c⟩ := Lib.cutB_miss s p h
    rw [a, b, c] at h1
    exact ⟨h1, h2 ▸ below_drewN (Below.refl _ _) n⟩

set_option maxHeartbeats 400000 in
theorem Try.upTo_any (s p : ByteArray) (m : Int) (w : World) (hs : s.size < 4294967281) (hp : p.size ≤ 1000) (hm : w.cell? ⟨0, 0, none⟩ = some (.int .i64 m)) :
    Calls Try.prog 17 #[.string s, .string p] w fun e w' => Try.RetSI (Ty.upTo s.data.toList p.data.toList).1 ((Ty.upTo s.data.toList p.data.toList).2 : Int) e ∧ Below w.heap.size w w' := by
  rcases Lib.indexB_cases s p with h | ⟨i, h, hi⟩
  · have h' : Lib.index s.data.toList p.data.toList = -1 := h
    have e : Hid (Ty.upTo s.data.toList p.data.toList = (s.data.toList, s.size)) := by
      have e : Ty.upTo s.data.toList p.data.toList = (s.data.toList, s.size) := by unfold Ty.upTo; rw [h', if_neg (by omega), Lib.size_eq]
      exact e
    have c := Lib.hid (Try.cut_miss s p m w hs hm h')
    clear h h' hm
    go_enter Try.func17, Try.ntmps17
    go_wp2_with fail
    refine c.out.mono ?_
    rintro e w' ⟨rfl, hb⟩
    go_wp2
    go_ret2
    rw [e.out]
    exact ⟨⟨_, rfl, rfl⟩, hb⟩
  · have h' : Lib.index s.data.toList p.data.toList = i := h
    have e : Hid (Ty.upTo s.data.toList p.data.toList = (s.data.toList.take i, i + p.size)) := by
      have e : Ty.upTo s.data.toList p.data.toList = (s.data.toList.take i, i + p.size) := by unfold Ty.upTo; rw [h', if_pos (by omega), Int.toNat_natCast, Lib.size_eq p]
      exact e
    have c := Lib.hid (Try.cut_hit s p m w hs hm i h')
    have hz : (s.extract 0 i).size = i := by rw [ByteArray.size_extract]; omega
    clear h h' hm
    go_enter Try.func17, Try.ntmps17
    go_wp2_with fail
    refine c.out.mono ?_
    rintro e w' ⟨rfl, hb⟩
    go_wp2
    go_ret2
    rw [e.out]
    exact ⟨⟨_, rfl, by rw [Lib.extract_data]; simp⟩, hb⟩
end Go.Proofs
