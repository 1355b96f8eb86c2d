/- Contracts of class.Lower and of the document's Lower: the small letters, byte by byte; new memory alone is written. -/
import Derived.Test.YtnnknbecgpdcgaaDoorWalkClassA
import Derived.Laws.IdiomStrings
import Derived.Lib.Strings
namespace Go.Proofs
open Go.RowKit
set_option linter.unusedSimpArgs false
set_option linter.unusedVariables false
set_option linter.unnecessarySimpa false

/-- block b is the call's own and holds the bytes l (no cell of it is frozen) -/
def Tryd.OwnB (w : World) (b : Nat) (l : List UInt8) : Prop :=
  b < w.heap.size ∧ ∀ j (h : j < l.length), w.cell? ⟨b, j, none⟩ = some (.int .u8 (l[j].toNat : Int)) ∧ w.frozen? ⟨b, j, none⟩ = false

theorem Tryd.OwnB.setCell {w : World} {b : Nat} {l : List UInt8} (h : Tryd.OwnB w b l) {k : Nat} (hk : k < l.length) (c : UInt8) :
    Tryd.OwnB (w.setCell ⟨b, k, none⟩ (.int .u8 (c.toNat : Int))) b (l.set k c) := by
  refine ⟨by simpa [World.setCell] using h.1, fun j hj => ?_⟩
  rw [List.length_set] at hj
  have hj' := h.2 j hj
  rw [World.frozen?_setCell]
  refine ⟨?_, hj'.2⟩
  by_cases e : k = j
  · subst e
    rw [World.cell?_setCell_same _ _ _ (h.2 k hk).1]
    simp
  · rw [World.cell?_setCell_other _ _ _ _ (by simpa using e), hj'.1]
    simp [List.getElem_set, e]

theorem Tryd.OwnB.drew {w : World} {b : Nat} {l : List UInt8} (h : Tryd.OwnB w b l) : Tryd.OwnB w.drew b l := h

/-- what '[]byte(s)' lays -/
theorem Tryd.OwnB.made (w : World) (s : ByteArray) (cap : Nat) (t : TypeId) :
    Tryd.OwnB (w.alloc (.cells (bytesRow s cap) t ((bytesRow s cap).size, (bytesRow s cap).size + 1))) w.heap.size s.data.toList := by
  refine ⟨by simp, fun j hj => ?_⟩
  have hj2 : j < s.data.size := by simpa using hj
  rw [World.cell?_alloc_mark, World.frozen?_alloc_mark, bytesRow_at s cap j hj2]
  refine ⟨by simp, ?_⟩
  have : s.data.size ≤ (bytesRow s cap).size := by simp [bytesRow]
  simp
  omega

/-- 'string(b)' of all of it -/
theorem Tryd.OwnB.back {w : World} {b : Nat} {l : List UInt8} (h : Tryd.OwnB w b l) (cap : Nat) (src : TypeId) (hs : Tryd.prog.underlying src = some (.slice 5)) :
    (convert src 9 (.slice (some ⟨b, 0, none⟩) l.length cap)).run Tryd.prog w = .ok (.string ⟨l.toArray⟩) w :=
  run_convert_bytes_back w src 9 5 ⟨b, 0, none⟩ cap l hs Tryd.underlying5 Tryd.underlying9 (fun j hj => by
    have := (h.2 j hj).1
    rw [Addr.add_lit, Nat.zero_add]; exact this)

/-- after k rounds -/
def Tryd.lowTo (l : List UInt8) (k : Nat) : List UInt8 := (l.take k).map Ty.lowc ++ l.drop k
theorem Tryd.lowTo_length (l : List UInt8) (k : Nat) : (Tryd.lowTo l k).length = l.length := by
  simp [Tryd.lowTo]; omega
theorem Tryd.lowTo_at (l : List UInt8) (k : Nat) (h : k < l.length) : (Tryd.lowTo l k)[k]'(by rw [Tryd.lowTo_length]; exact h) = l[k] := by
  simp only [Tryd.lowTo]
  rw [List.getElem_append_right (by simp; omega)]
  simp [Nat.min_eq_left (Nat.le_of_lt h)]
theorem Tryd.lowTo_succ (l : List UInt8) (k : Nat) (h : k < l.length) : (Tryd.lowTo l k).set k (Ty.lowc l[k]) = Tryd.lowTo l (k + 1) := by
  simp only [Tryd.lowTo]
  have hl : ((l.take k).map Ty.lowc).length = k := by simp; omega
  rw [List.set_append, if_neg (by omega), hl, Nat.sub_self, List.drop_eq_getElem_cons h, List.set_cons_zero, List.take_succ_eq_append_getElem h, List.map_append]
  simp only [List.map_cons, List.map_nil, List.append_assoc, List.singleton_append]
theorem Tryd.lowTo_all (l : List UInt8) : Tryd.lowTo l l.length = Ty.lowB l := by simp [Tryd.lowTo, Ty.lowB]

set_option maxHeartbeats 400000 in
theorem Tryd.lower_any (s : ByteArray) (w : World) (hs : s.size ≤ 140737488351232) :
    Calls Tryd.prog 16 #[.string s] w fun e w' => (∃ t : ByteArray, e = .returned (.string t) ∧ t.data.toList = Ty.lowB s.data.toList) ∧ Below w.heap.size w w' := by
  have hcv := fun w => run_bytes_of_string (P := Tryd.prog) w 9 24 5 s Tryd.underlying9 Tryd.underlying24 Tryd.underlying5
  go_enter Tryd.func16, Tryd.ntmps16
  go_wp2
  generalize grownCap w s.size 0 5 = cap
  have hm0 := Tryd.OwnB.made w s cap 5
  have hl0 : s.data.toList.length = s.size := (Lib.size_eq s).symm
  have hb0 : Below w.heap.size w ((w.alloc (.cells (bytesRow s cap) 5 ((bytesRow s cap).size, (bytesRow s cap).size + 1))).drew) := ((Below.refl _ w).alloc (Nat.le_refl _) _).drew
  have HL := Lib.hid hl0
  clear hl0 hcv
  go_loopw [10] (fun i wr => ∃ k : Nat, k ≤ s.size ∧ i = .int .i64 k ∧ Tryd.OwnB wr w.heap.size (Tryd.lowTo s.data.toList k) ∧ Below w.heap.size w wr) (fun i _ => s.size - (intOf i).toNat)
  case atStart => exact ⟨0, Nat.zero_le _, rfl, by simpa [Tryd.lowTo] using hm0.drew, hb0⟩
  case round =>
    clear hm0 hb0
    obtain ⟨k, hk, rfl, ho, hb⟩ := hrel
    by_cases hlt : k < s.size
    · have hkl : k < s.data.toList.length := by rw [HL.out]; exact hlt
      have hkl2 : k < (Tryd.lowTo s.data.toList k).length := by rw [Tryd.lowTo_length]; exact hkl
      obtain ⟨hc, hf⟩ := ho.2 k hkl2
      rw [Tryd.lowTo_at _ _ hkl] at hc
      obtain ⟨c, hcc⟩ : ∃ c, c = s.data.toList[k] := ⟨_, rfl⟩
      rw [← hcc] at hc
      have hc0 := c.toNat_lt
      have ho2 : Hid (Tryd.OwnB (wr.setCell ⟨w.heap.size, k, none⟩ (.int .u8 (Tryd.lowI (c.toNat : Int)))) w.heap.size (Tryd.lowTo s.data.toList (k + 1))) := by
        have h3 := ho.setCell hkl2 (Ty.lowc c)
        have e3 : (Tryd.lowTo s.data.toList k).set k (Ty.lowc c) = Tryd.lowTo s.data.toList (k + 1) := by rw [hcc]; exact Tryd.lowTo_succ _ _ hkl
        rw [e3, ← Tryd.lowI_byte] at h3
        exact h3
      have HC := Lib.hid hcc
      have HO := Lib.hid ho
      clear hcc ho
      go_wp2_with (go_at_call 38; refine (Tryd.small_any _ (by omega) (by omega) _).mono ?_; rintro e w' ⟨rfl, rfl⟩)
      go_roundw
      case rel => exact ⟨k + 1, by omega, by go_num, ho2.out, hb.setCell (Nat.le_refl _) _⟩
      case measure => simp [intOf]; omega
    · obtain rfl : k = s.size := by omega
      have hbk := ho.back (cap := cap) 24 Tryd.underlying24
      rw [Tryd.lowTo_length, HL.out] at hbk
      have E : Hid (Tryd.lowTo s.data.toList s.size = Ty.lowB s.data.toList) := by
        have e := Tryd.lowTo_all s.data.toList
        rw [HL.out] at e
        exact e
      go_wp2
      go_ret
      exact ⟨⟨_, rfl, by simp [E.out]⟩, hb⟩
end Go.Proofs
