/- Plain facts about 'class': what Fold computes, rune by rune. -/
import Derived.Lib.RuneBytes
import Derived.Lib.SpaceU
namespace Ty
open Go

/-- rune by rune, from place pos on, by at most so many runes -/
def runesFrom (s : ByteArray) : Nat → Nat → List Nat
  | 0, _ => []
  | f + 1, pos => if pos < s.size then (Utf8.decode s pos).1 :: runesFrom s f (pos + (Utf8.decode s pos).2) else []
def runesOf (s : ByteArray) : List Nat := runesFrom s s.size 0

theorem runesFrom_end (s : ByteArray) (f pos : Nat) (h : ¬ pos < s.size) : runesFrom s f pos = [] := by
  cases f with
  | zero => rfl
  | succ f => simp [runesFrom, h]
theorem runesFrom_step (s : ByteArray) (f pos : Nat) (h : pos < s.size) : runesFrom s (f + 1) pos = (Utf8.decode s pos).1 :: runesFrom s f (pos + (Utf8.decode s pos).2) := by
  simp [runesFrom, h]
end Ty
