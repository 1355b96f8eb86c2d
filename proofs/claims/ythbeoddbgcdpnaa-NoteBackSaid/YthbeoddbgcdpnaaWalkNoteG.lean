/- The contract of note.Read, whole; the document's at, Begins, upTo. -/
import Derived.Test.YthbeoddbgcdpnaaWalkNoteE
import Derived.Test.YthbeoddbgcdpnaaWalkNoteF
namespace Go.Proofs
open Go.RowKit
set_option linter.unusedSimpArgs false
set_option linter.unusedVariables false

theorem Try.occ_drop0 (l p : List UInt8) (k : Nat) : Lib.hasPrefix (l.drop k) p = Lib.occAt l p k := rfl

theorem Try.prefix_len {l p : List UInt8} (h : Lib.hasPrefix l p = true) : p.length ≤ l.length := (List.isPrefixOf_iff_prefix.1 h).length_le

theorem Try.begins_room {l : List UInt8} {i : Int} (h : Ty.begins l i = true) : ∃ k : Nat, i = k ∧ k + 2 ≤ l.length := by
  unfold Ty.begins Ty.atB at h
  by_cases h0 : 0 ≤ i
  · obtain ⟨k, rfl⟩ := Int.eq_ofNat_of_zero_le h0
    refine ⟨k, rfl, ?_⟩
    rw [Int.toNat_natCast] at h
    simp only [Bool.or_eq_true, Bool.and_eq_true] at h
    rcases h with (h | h) | h
    · exact Ty.occAt_len h.2 (by simp)
    · exact Ty.occAt_len h.2 (by simp)
    · exact Ty.occAt_len h.1.2 (by simp)
  · simp [h0] at h

theorem Try.read_any (s : ByteArray) (i : Int) (cd : Bool) (m : Int) (w : World) (hs : s.size < 4294967281) (hi0 : -9223372036854775808 ≤ i) (hi1 : i ≤ 9223372036854775807)
    (hm : w.cell? ⟨0, 0, none⟩ = some (.int .i64 m)) :
    Calls Try.prog 7 #[.string s, .int .i64 i, .bool cd] w fun e w' => Try.RetTok (Ty.read s.data.toList i cd).1 (Ty.read s.data.toList i cd).2.1 (Ty.read s.data.toList i cd).2.2 e ∧ Below w.heap.size w w' := by
  cases h0 : Ty.begins s.data.toList i with
  | false =>
    have e : Ty.read s.data.toList i cd = (0, [], i) := by unfold Ty.read; rw [h0]; rfl
    rw [e]
    exact Try.read_r0 s i cd w hs hi0 hi1 h0
  | true =>
    obtain ⟨k, rfl, hk2⟩ := Try.begins_room h0
    rw [← Lib.size_eq] at hk2
    obtain ⟨r, hr⟩ : ∃ r, s.extract k s.size = r := ⟨_, rfl⟩
    have hrl : r.data.toList = s.data.toList.drop k := by rw [← hr]; exact Try.drop_list s k
    have hrz : r.size = s.size - k := by rw [← hr, ByteArray.size_extract]; omega
    have hrlen : r.data.toList.length = r.size := (Lib.size_eq r).symm
    have e : Ty.read s.data.toList k cd = ((Ty.read1 r.data.toList cd).1, (Ty.read1 r.data.toList cd).2.1, (k : Int) + (Ty.read1 r.data.toList cd).2.2) := by
      unfold Ty.read; rw [h0, if_pos rfl, Int.toNat_natCast, ← hrl]
    rw [e]
    cases a1 : Lib.hasPrefix r.data.toList Ty.sNote with
    | true =>
      have e1 : Ty.read1 r.data.toList cd = (4, (Ty.comment (r.data.toList.drop 4)).1, 4 + (Ty.comment (r.data.toList.drop 4)).2) := by unfold Ty.read1; rw [a1, if_pos rfl]
      rw [e1]
      have := Try.prefix_len a1
      exact Try.read_r1 s r k cd m w hs (by omega) hm h0 hr (by omega) (by rw [← hrlen]; exact this) a1
    | false =>
      by_cases hd : (decide (9 ≤ r.data.toList.length) && (Ty.lowB (r.data.toList.take 9) == Ty.sDoc)) = true
      · have e1 : Ty.read1 r.data.toList cd = (5, [], 9 + (Ty.upTo (r.data.toList.drop 9) Ty.sGt).2) := by unfold Ty.read1; rw [a1, if_neg (by decide), if_pos hd]
        rw [e1]
        simp only [Bool.and_eq_true, decide_eq_true_eq] at hd
        exact Try.read_doc s r k cd m w hs (by omega) hm h0 hr (by omega) (by omega) a1 (by omega) hd.2
      · have hd' : r.size < 9 ∨ (9 ≤ r.size ∧ (Ty.lowB (r.data.toList.take 9) == Ty.sDoc) = false) := by
          by_cases h9 : 9 ≤ r.size
          · right; refine ⟨h9, ?_⟩
            cases hq : (Ty.lowB (r.data.toList.take 9) == Ty.sDoc) with
            | false => rfl
            | true => exact absurd (by simp [hq]; omega) hd
          · left; omega
        by_cases hc : (cd && Lib.hasPrefix r.data.toList Ty.sCdata) = true
        · have e1 : Ty.read1 r.data.toList cd = (1, (Ty.upTo (r.data.toList.drop 9) Ty.sCdEnd).1, 9 + (Ty.upTo (r.data.toList.drop 9) Ty.sCdEnd).2) := by unfold Ty.read1; rw [a1, if_neg (by decide), if_neg hd, if_pos hc]
          rw [e1]
          simp only [Bool.and_eq_true] at hc
          obtain ⟨rfl, hc⟩ := hc
          have h9 := Try.prefix_len hc
          have h9' : 9 ≤ r.data.toList.length := h9
          rcases hd' with hd' | ⟨_, hd'⟩
          · omega
          · exact Try.read_cd s r k m w hs (by omega) hm h0 hr (by omega) (by omega) a1 (by omega) hd' hc
        · have hc' : cd = false ∨ (cd = true ∧ Lib.hasPrefix r.data.toList Ty.sCdata = false) := by
            cases cd with
            | false => exact Or.inl rfl
            | true => exact Or.inr ⟨rfl, by simpa using hc⟩
          cases a4 : Lib.hasPrefix r.data.toList Ty.sNone with
          | true =>
            have e1 : Ty.read1 r.data.toList cd = (0, [], 3) := by unfold Ty.read1; rw [a1, if_neg (by decide), if_neg hd, if_neg hc, a4, if_pos rfl]
            rw [e1]
            have h3 := Try.prefix_len a4
            have h3' : 3 ≤ r.data.toList.length := h3
            rcases hd' with hd' | ⟨hd9, hd'⟩ <;> rcases hc' with rfl | ⟨rfl, hc'⟩
            · exact Try.read_none_D0C0 s r k m w hs (by omega) hm h0 hr (by omega) (by omega) a1 hd' a4 (by omega)
            · exact Try.read_none_D0C1f s r k m w hs (by omega) hm h0 hr (by omega) (by omega) a1 hd' hc' a4 (by omega)
            · exact Try.read_none_D1fC0 s r k m w hs (by omega) hm h0 hr (by omega) (by omega) a1 hd9 hd' a4 (by omega)
            · exact Try.read_none_D1fC1f s r k m w hs (by omega) hm h0 hr (by omega) (by omega) a1 hd9 hd' hc' a4 (by omega)
          | false =>
            have h1r : 1 < r.size := by omega
            have hg : r.data.toList[1]? = some (r[(1 : Nat)]'h1r) := by rw [List.getElem?_eq_getElem (by omega)]; rfl
            cases a5 : (((r[(1 : Nat)]'h1r).toNat : Int) == 63) with
            | true =>
              have h63 : r[(1 : Nat)]'h1r = 63 := by
                apply UInt8.toNat_inj.1
                have := beq_iff_eq.1 a5
                simp; omega
              have e1 : Ty.read1 r.data.toList cd = (4, (Ty.upTo (r.data.toList.drop 1) Ty.sGt).1, 1 + (Ty.upTo (r.data.toList.drop 1) Ty.sGt).2) := by
                unfold Ty.read1; rw [a1, if_neg (by decide), if_neg hd, if_neg hc, a4, if_neg (by decide), hg, h63, if_pos (by decide)]
              rw [e1]
              rcases hd' with hd' | ⟨hd9, hd'⟩ <;> rcases hc' with rfl | ⟨rfl, hc'⟩
              · exact Try.read_q_D0C0 s r k m w hs (by omega) hm h0 hr (by omega) (by omega) a1 hd' a4 _ rfl a5
              · exact Try.read_q_D0C1f s r k m w hs (by omega) hm h0 hr (by omega) (by omega) a1 hd' hc' a4 _ rfl a5
              · exact Try.read_q_D1fC0 s r k m w hs (by omega) hm h0 hr (by omega) (by omega) a1 hd9 hd' a4 _ rfl a5
              · exact Try.read_q_D1fC1f s r k m w hs (by omega) hm h0 hr (by omega) (by omega) a1 hd9 hd' hc' a4 _ rfl a5
            | false =>
              have h63 : r[(1 : Nat)]'h1r ≠ 63 := by
                intro h
                rw [h] at a5
                exact absurd a5 (by decide)
              have e1 : Ty.read1 r.data.toList cd = (4, (Ty.upTo (r.data.toList.drop 2) Ty.sGt).1, 2 + (Ty.upTo (r.data.toList.drop 2) Ty.sGt).2) := by
                unfold Ty.read1; rw [a1, if_neg (by decide), if_neg hd, if_neg hc, a4, if_neg (by decide), hg, if_neg (by simpa using h63)]
              rw [e1]
              rcases hd' with hd' | ⟨hd9, hd'⟩ <;> rcases hc' with rfl | ⟨rfl, hc'⟩
              · exact Try.read_e_D0C0 s r k m w hs (by omega) hm h0 hr (by omega) (by omega) a1 hd' a4 _ rfl a5
              · exact Try.read_e_D0C1f s r k m w hs (by omega) hm h0 hr (by omega) (by omega) a1 hd' hc' a4 _ rfl a5
              · exact Try.read_e_D1fC0 s r k m w hs (by omega) hm h0 hr (by omega) (by omega) a1 hd9 hd' a4 _ rfl a5
              · exact Try.read_e_D1fC1f s r k m w hs (by omega) hm h0 hr (by omega) (by omega) a1 hd9 hd' hc' a4 _ rfl a5
end Go.Proofs
