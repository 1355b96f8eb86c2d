/- The document's Lower: its contract (it appends byte by byte to a slice of its own). -/
import Derived.Test.YtnnknbecgpdcgaaDoorWalkClassB
import Derived.Lib.UnsafeStr
import Derived.Laws.BytesString
namespace Go.Proofs
open Go.RowKit
set_option linter.unusedSimpArgs false
set_option linter.unusedVariables false

theorem Tryd.info_u8 : (Tryd.prog.info? 5).map (fun i => (i.zero, i.size, i.bytes)) = some (some (.int .u8 0), 1, 1) := by kernel_rfl

/-- 'string(b)' of a slice that the call has appended to -/
theorem Tryd.row_back {w : World} {base : Nat} {v : Value} {l : List UInt8} (h : w.ownsRow base 5 1 v l.length (Lib.byteCells l)) :
    (convert 24 9 v).run Tryd.prog w = .ok (.string ⟨l.toArray⟩) w := by
  obtain ⟨hlen, ⟨rfl, h0⟩ | ⟨g, cap, cur, rfl, hb, hg, hn, hc, hz, htk⟩⟩ := h
  · have : l = [] := List.eq_nil_of_length_eq_zero h0
    subst this
    rw [run_convert_bytes_string w 24 9 5 none 0 0 Tryd.underlying24 Tryd.underlying5 Tryd.underlying9]
    simp [Conv.bytesToString]
    rfl
  · refine run_convert_bytes_back w 24 9 5 ⟨g, 0, none⟩ cap l Tryd.underlying24 Tryd.underlying5 Tryd.underlying9 (fun j hj => ?_)
    have hown : w.ownsRow base 5 1 (.slice (some ⟨g, 0, none⟩) l.length cap) l.length (Lib.byteCells l) := ⟨hlen, Or.inr ⟨g, cap, cur, rfl, hb, hg, hn, hc, hz, htk⟩⟩
    rw [Addr.add_lit, Nat.zero_add, hown.cellAt j (by omega)]
    simp [Lib.byteCells, hj]

theorem Tryd.row_back' {w : World} {base n : Nat} {v : Value} {l : List UInt8} (h : w.ownsRow base 5 1 v n (Lib.byteCells l)) (hn : n = l.length) :
    (convert 24 9 v).run Tryd.prog w = .ok (.string ⟨l.toArray⟩) w := by
  subst hn
  exact Tryd.row_back h

theorem Tryd.newCell (w : World) (v : Value) (T : TypeId) : ∀ j u, [v][j]? = some u → (w.alloc (.cells #[v] T)).cell? ((⟨w.heap.size, 0, none⟩ : Addr).add j) = some u := by
  intro j u hj
  match j, hj with
  | 0, hj => simp at hj; subst hj; simp [Addr.add]

theorem Tryd.oneCellU8 (n : Int) : ∀ u ∈ [Value.int .u8 n], u.oneCell' = true := by
  intro u hu; simp at hu; subst hu; rfl

/-- one byte more -/
theorem Tryd.byteCells_snoc (l : List UInt8) (c : UInt8) : Lib.byteCells l ++ [Value.int .u8 (c.toNat : Int)] = Lib.byteCells (l ++ [c]) := by simp [Lib.byteCells]

theorem Tryd.lowTake_succ (l : List UInt8) (k : Nat) (h : k < l.length) : Ty.lowB (l.take k) ++ [Ty.lowc l[k]] = Ty.lowB (l.take (k + 1)) := by
  rw [List.take_succ_eq_append_getElem h]; simp only [Ty.lowB, List.map_append, List.map_cons, List.map_nil]

set_option maxHeartbeats 800000 in
theorem Tryd.lowerRef_any (s : ByteArray) (w : World) (hs : s.size ≤ 1099511627776) :
    Calls Tryd.prog 17 #[.string s] w fun e w' => (∃ t : ByteArray, e = .returned (.string t) ∧ t.data.toList = Ty.lowB s.data.toList) ∧ Below w.heap.size w w' := by
  obtain ⟨i0, hi, hz0, hz1, hz2⟩ := info_parts Tryd.info_u8
  have HL := Lib.hid (Lib.size_eq s).symm
  go_enter Tryd.func17, Tryd.ntmps17
  go_wp2
  go_loopw [3, 4] (fun v i wr => ∃ k : Nat, k ≤ s.size ∧ i = .int .i64 k ∧ wr.ownsRow w.heap.size 5 1 v k (Lib.byteCells (Ty.lowB (s.data.toList.take k))) ∧ Below w.heap.size w wr) (fun _ i _ => s.size - (intOf i).toNat)
  case atStart => exact ⟨0, Nat.zero_le _, rfl, World.ownsRow_nil _ _ _ _, Below.refl _ _⟩
  case round =>
    obtain ⟨k, hk, rfl, hown, hb⟩ := hrel
    by_cases hlt : k < s.size
    · obtain ⟨c, hc⟩ : ∃ c, s[k] = c := ⟨_, rfl⟩
      have hc0 := c.toNat_lt
      have hkl : k < s.data.toList.length := by rw [HL.out]; exact hlt
      have HN : Hid (Lib.byteCells (Ty.lowB (s.data.toList.take k)) ++ [Value.int .u8 (Tryd.lowI (c.toNat : Int))] = Lib.byteCells (Ty.lowB (s.data.toList.take (k + 1)))) := by
        have e : Lib.byteCells (Ty.lowB (s.data.toList.take k)) ++ [Value.int .u8 (Tryd.lowI (c.toNat : Int))] = Lib.byteCells (Ty.lowB (s.data.toList.take (k + 1))) := by
          rw [Tryd.lowI_byte, Tryd.byteCells_snoc, ← hc, show s[k] = s.data.toList[k] from rfl, Tryd.lowTake_succ _ _ hkl]
        exact e
      have HO := Lib.hid hown
      have hbs := hb.size
      clear hown
      by_cases hup : 65 ≤ (c.toNat : Int) ∧ (c.toNat : Int) ≤ 90
      · obtain ⟨hu1, hu2⟩ := hup
        have HV : Hid (Tryd.lowI (c.toNat : Int) = (c.toNat : Int) + 32) := by
          have e : Tryd.lowI (c.toNat : Int) = (c.toNat : Int) + 32 := by unfold Tryd.lowI; rw [if_pos ⟨hu1, hu2⟩]
          exact e
        go_wp2_with (at_builtin; refine wpList_append_own _ rfl _ _ 24 rfl w.heap.size 5 i0 (.int .u8 0) 1 1 Tryd.underlying24 hi hz0 hz1 hz2 rfl (by decide) _ _ _ rfl (HO.out.alloc _) ⟨wr.heap.size, 0, none⟩ 1 1 [.int .u8 ((c.toNat : Int) + 32)] rfl rfl (Tryd.newCell _ _ _) (Tryd.oneCellU8 _) (by unfold maxLen; omega) (by omega) (by simp; omega) ?_; intro v' w1 hown' hgrow _)
        have hb' := hb.alloc (o := .cells #[.int .u8 ((c.toNat : Int) + 32)] 5) hbs
        have hlt' := (HO.out.alloc (.cells #[.int .u8 ((c.toNat : Int) + 32)] 5)).lt
        have HB' := Lib.hid (hb'.grown hgrow (by simp; omega) (fun g hg => (hlt' g hg).1))
        rw [← HV.out, HN.out] at hown'
        have HO' := Lib.hid hown'
        clear hown' hgrow hb' hlt'
        go_wp2
        go_roundw
        case rel => exact ⟨k + 1, by omega, by go_num, HO'.out, HB'.out⟩
        case measure => simp [intOf]; omega
      · have HV : Hid (Tryd.lowI (c.toNat : Int) = (c.toNat : Int)) := by
          have e : Tryd.lowI (c.toNat : Int) = (c.toNat : Int) := by unfold Tryd.lowI; rw [if_neg hup]
          exact e
        rcases (by omega : (c.toNat : Int) < 65 ∨ (65 ≤ (c.toNat : Int) ∧ 90 < (c.toNat : Int))) with hu | ⟨hu1, hu2⟩
        · clear hup
          go_wp2_with (at_builtin; refine wpList_append_own _ rfl _ _ 24 rfl w.heap.size 5 i0 (.int .u8 0) 1 1 Tryd.underlying24 hi hz0 hz1 hz2 rfl (by decide) _ _ _ rfl (HO.out.alloc _) ⟨wr.heap.size, 0, none⟩ 1 1 [.int .u8 ((c.toNat : Int))] rfl rfl (Tryd.newCell _ _ _) (Tryd.oneCellU8 _) (by unfold maxLen; omega) (by omega) (by simp; omega) ?_; intro v' w1 hown' hgrow _)
          have hb' := hb.alloc (o := .cells #[.int .u8 ((c.toNat : Int))] 5) hbs
          have hlt' := (HO.out.alloc (.cells #[.int .u8 ((c.toNat : Int))] 5)).lt
          have HB' := Lib.hid (hb'.grown hgrow (by simp; omega) (fun g hg => (hlt' g hg).1))
          rw [← HV.out, HN.out] at hown'
          have HO' := Lib.hid hown'
          clear hown' hgrow hb' hlt'
          go_wp2
          go_roundw
          case rel => exact ⟨k + 1, by omega, by go_num, HO'.out, HB'.out⟩
          case measure => simp [intOf]; omega
        · clear hup
          go_wp2_with (at_builtin; refine wpList_append_own _ rfl _ _ 24 rfl w.heap.size 5 i0 (.int .u8 0) 1 1 Tryd.underlying24 hi hz0 hz1 hz2 rfl (by decide) _ _ _ rfl (HO.out.alloc _) ⟨wr.heap.size, 0, none⟩ 1 1 [.int .u8 ((c.toNat : Int))] rfl rfl (Tryd.newCell _ _ _) (Tryd.oneCellU8 _) (by unfold maxLen; omega) (by omega) (by simp; omega) ?_; intro v' w1 hown' hgrow _)
          have hb' := hb.alloc (o := .cells #[.int .u8 ((c.toNat : Int))] 5) hbs
          have hlt' := (HO.out.alloc (.cells #[.int .u8 ((c.toNat : Int))] 5)).lt
          have HB' := Lib.hid (hb'.grown hgrow (by simp; omega) (fun g hg => (hlt' g hg).1))
          rw [← HV.out, HN.out] at hown'
          have HO' := Lib.hid hown'
          clear hown' hgrow hb' hlt'
          go_wp2
          go_roundw
          case rel => exact ⟨k + 1, by omega, by go_num, HO'.out, HB'.out⟩
          case measure => simp [intOf]; omega
    · obtain rfl : k = s.size := by omega
      have hall : s.data.toList.take s.size = s.data.toList := by rw [← HL.out, List.take_length]
      rw [hall] at hown
      have hbk := Tryd.row_back' hown (by rw [Ty.lowB, List.length_map, HL.out])
      clear hown hall
      go_wp2
      go_ret
      exact ⟨⟨_, rfl, by simp⟩, hb⟩
end Go.Proofs
