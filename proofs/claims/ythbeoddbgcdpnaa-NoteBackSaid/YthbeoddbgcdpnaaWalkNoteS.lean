/- The contract of the document's Read, whole. -/
import Derived.Test.YthbeoddbgcdpnaaWalkNoteP
import Derived.Test.YthbeoddbgcdpnaaWalkNoteQ
import Derived.Test.YthbeoddbgcdpnaaWalkNoteR
import Derived.Test.YthbeoddbgcdpnaaWalkNoteG
namespace Go.Proofs
open Go.RowKit
set_option linter.unusedSimpArgs false
set_option linter.unusedVariables false

theorem Try.lowc_of (c : UInt8) (n : Nat) (hn : n < 65 ∨ (90 < n ∧ n < 97)) : (Ty.lowc c = UInt8.ofNat n) ↔ c = UInt8.ofNat n := by
  have h := Try.lowI_byte c
  have hc := c.toNat_lt
  have e : ∀ d : UInt8, d = UInt8.ofNat n ↔ (d.toNat : Int) = n := fun d => by
    have hd := d.toNat_lt
    constructor
    · rintro rfl; rw [UInt8.toNat_ofNat']; omega
    · intro h; apply UInt8.toNat_inj.1; rw [UInt8.toNat_ofNat']; omega
  rw [e, e, ← h]
  unfold Try.lowI
  split <;> omega

theorem Try.occ_pre {l p q : List UInt8} {k : Nat} (h : Lib.occAt l (p ++ q) k = true) : Lib.occAt l p k = true := by
  unfold Lib.occAt at *
  rw [List.isPrefixOf_iff_prefix] at *
  exact (List.prefix_append p q).trans h

theorem Try.occ_two {l : List UInt8} {k : Nat} {a b c : UInt8} (h1 : Lib.occAt l [a, b] k = true) (h2 : Lib.occAt l [a, c] k = true) : b = c := by
  have hl := Ty.occAt_len h1 (by simp)
  simp at hl
  rw [Try.occ2 _ _ _ _ (by omega)] at h1 h2
  simp only [Bool.and_eq_true, beq_iff_eq] at h1 h2
  exact h1.2.symm.trans h2.2

/-- the doctype's beginning, cut in two -/
theorem Try.doc_iff (r : List UInt8) : (decide (9 ≤ r.length) && (Ty.lowB (r.take 9) == Ty.sDoc)) = true ↔
    (Lib.hasPrefix r [60, 33] = true ∧ 9 ≤ r.length ∧ (Ty.lowB ((r.drop 2).take 7) == [100, 111, 99, 116, 121, 112, 101]) = true) := by
  simp only [Bool.and_eq_true, decide_eq_true_eq, beq_iff_eq]
  match r with
  | [] => simp
  | [a] => simp
  | a :: b :: t =>
    have h60 := Try.lowc_of a 60 (by omega)
    have h33 := Try.lowc_of b 33 (by omega)
    simp at h60 h33
    simp only [Ty.lowB, Ty.sDoc, List.take_succ_cons, List.map_cons, List.cons.injEq, List.drop_succ_cons, List.drop_zero, h60, h33, Lib.hasPrefix, List.isPrefixOf, Bool.and_true, Bool.and_eq_true, beq_iff_eq]
    constructor
    · rintro ⟨h, h1, h2, h3⟩; exact ⟨⟨h1.symm, h2.symm⟩, h, h3⟩
    · rintro ⟨⟨h1, h2⟩, h, h3⟩; exact ⟨h, h1.symm, h2.symm, h3⟩

theorem Try.upTo_skip (r sub : List UInt8) (n : Nat) (hn : n ≤ r.length) (h : ∀ j, j < n → Lib.occAt r sub j = false) : (Ty.upTo r sub).2 = n + (Ty.upTo (r.drop n) sub).2 := by
  have e := Lib.index_drop (s := r) (sub := sub) (i := n) h hn
  have hge := Lib.index_ge (r.drop n) sub
  unfold Ty.upTo
  by_cases h1 : Lib.index (r.drop n) sub = -1
  · rw [h1, if_pos (by decide)] at e
    rw [h1, e, if_neg (by decide), if_neg (by decide)]
    simp only [List.length_drop]
    omega
  · rw [if_neg (by simpa using h1)] at e
    rw [e, if_pos (by omega), if_pos (by omega)]
    simp only
    omega

theorem Try.doc_num (r : List UInt8) (h9 : 9 ≤ r.length) (h : Ty.lowB (r.take 9) = Ty.sDoc) : (Ty.upTo r Ty.sGt).2 = 9 + (Ty.upTo (r.drop 9) Ty.sGt).2 := by
  refine Try.upTo_skip r Ty.sGt 9 h9 (fun j hj => ?_)
  cases ho : Lib.occAt r Ty.sGt j with
  | false => rfl
  | true =>
    exfalso
    have hjl : j < r.length := by omega
    unfold Lib.occAt Ty.sGt at ho
    rw [List.drop_eq_getElem_cons hjl] at ho
    simp only [List.isPrefixOf, Bool.and_true, beq_iff_eq] at ho
    have hm : r[j] ∈ r.take 9 := by
      rw [List.mem_take_iff_getElem]
      exact ⟨j, by omega, rfl⟩
    have hm2 : Ty.lowc r[j] ∈ Ty.lowB (r.take 9) := List.mem_map_of_mem hm
    rw [h, ← ho] at hm2
    exact absurd hm2 (by decide)

theorem Try.readRef_any (s : ByteArray) (i : Int) (cd : Bool) (w : World) (hs : s.size < 4294967281) (hi0 : -9223372036854775808 ≤ i) (hi1 : i ≤ 9223372036854775807) :
    Calls Try.prog 8 #[.string s, .int .i64 i, .bool cd] w fun e w' => Try.RetTok (Ty.read s.data.toList i cd).1 (Ty.read s.data.toList i cd).2.1 (Ty.read s.data.toList i cd).2.2 e ∧ Below w.heap.size w w' := by
  cases h0 : Ty.begins s.data.toList i with
  | false =>
    have e : Ty.read s.data.toList i cd = (0, [], i) := by unfold Ty.read; rw [h0]; rfl
    rw [e]
    exact Try.readRef_r0 s i cd w hs hi0 hi1 h0
  | true =>
    obtain ⟨k, rfl, hk2⟩ := Try.begins_room h0
    rw [← Lib.size_eq] at hk2
    have hL : s.data.toList.length = s.size := (Lib.size_eq s).symm
    obtain ⟨l, hl⟩ : ∃ l, s.data.toList = l := ⟨_, rfl⟩
    obtain ⟨r, hr⟩ : ∃ r, l.drop k = r := ⟨_, rfl⟩
    have hrl : r.length = s.size - k := by rw [← hr, List.length_drop, ← hl, hL]
    have hocc : ∀ p, Lib.hasPrefix r p = Lib.occAt s.data.toList p k := fun p => by rw [← hr, ← hl]; rfl
    have hdrop : ∀ n, r.drop n = s.data.toList.drop (k + n) := fun n => by rw [← hr, ← hl, List.drop_drop]
    have e : Ty.read s.data.toList k cd = ((Ty.read1 r cd).1, (Ty.read1 r cd).2.1, (k : Int) + (Ty.read1 r cd).2.2) := by
      unfold Ty.read; rw [h0, if_pos rfl, Int.toNat_natCast, hl, hr]
    rw [e]
    have cast : ∀ a b : Nat, (k : Int) + ((a + b : Nat) : Int) = (k : Int) + a + (b : Nat) := fun a b => by omega
    cases a1 : Lib.hasPrefix r Ty.sNote with
    | true =>
      have e1 : Ty.read1 r cd = (4, (Ty.comment (r.drop 4)).1, 4 + (Ty.comment (r.drop 4)).2) := by unfold Ty.read1; rw [a1, if_pos rfl]
      have hlen := Try.prefix_len a1
      have hlen' : 4 ≤ r.length := hlen
      rw [e1, cast, hdrop]
      exact Try.readRef_note s k cd w hs hk2 h0 (by rw [← hocc]; exact a1) (by omega)
    | false =>
      have A1 : Lib.occAt s.data.toList [60, 33, 45, 45] k = false := by rw [← hocc]; exact a1
      by_cases hd : (decide (9 ≤ r.length) && (Ty.lowB (r.take 9) == Ty.sDoc)) = true
      · have e1 : Ty.read1 r cd = (5, [], 9 + (Ty.upTo (r.drop 9) Ty.sGt).2) := by unfold Ty.read1; rw [a1, if_neg (by decide), if_pos hd]
        obtain ⟨d1, d2, d3⟩ := (Try.doc_iff r).1 hd
        simp only [Bool.and_eq_true, decide_eq_true_eq, beq_iff_eq] at hd
        rw [e1, ← Try.doc_num r hd.1 hd.2]
        have e2 : r = s.data.toList.drop k := by rw [hl, hr]
        have hh := Try.readRef_doc s k cd w hs hk2 h0 A1 (by rw [← hocc]; exact d1) (by omega) (by rw [← hdrop]; exact d3)
        rw [← e2] at hh
        exact hh
      · have hv : Lib.occAt s.data.toList [60, 33] k = false ∨ (Lib.occAt s.data.toList [60, 33] k = true ∧ s.size < k + 9) ∨
            (Lib.occAt s.data.toList [60, 33] k = true ∧ k + 9 ≤ s.size ∧ (Ty.lowB ((s.data.toList.drop (k + 2)).take 7) == [100, 111, 99, 116, 121, 112, 101]) = false) := by
          cases b1 : Lib.occAt s.data.toList [60, 33] k with
          | false => exact Or.inl rfl
          | true =>
            right
            by_cases b2 : s.size < k + 9
            · exact Or.inl ⟨rfl, b2⟩
            · refine Or.inr ⟨rfl, by omega, ?_⟩
              cases b3 : (Ty.lowB ((s.data.toList.drop (k + 2)).take 7) == [100, 111, 99, 116, 121, 112, 101]) with
              | false => rfl
              | true => exact absurd ((Try.doc_iff r).2 ⟨by rw [hocc]; exact b1, by omega, by rw [hdrop]; exact b3⟩) hd
        by_cases hc : (cd && Lib.hasPrefix r Ty.sCdata) = true
        · have e1 : Ty.read1 r cd = (1, (Ty.upTo (r.drop 9) Ty.sCdEnd).1, 9 + (Ty.upTo (r.drop 9) Ty.sCdEnd).2) := by unfold Ty.read1; rw [a1, if_neg (by decide), if_neg hd, if_pos hc]
          simp only [Bool.and_eq_true] at hc
          obtain ⟨rfl, hc⟩ := hc
          have hlen := Try.prefix_len hc
          have hlen' : 9 ≤ r.length := hlen
          have hc' : Lib.occAt s.data.toList [60, 33, 91, 67, 68, 65, 84, 65, 91] k = true := by rw [← hocc]; exact hc
          have b1 : Lib.occAt s.data.toList [60, 33] k = true := Try.occ_pre (p := [60, 33]) (q := [91, 67, 68, 65, 84, 65, 91]) hc'
          rw [e1, cast, hdrop]
          rcases hv with hv | ⟨_, hv⟩ | ⟨_, h9, hv⟩
          · rw [b1] at hv; exact absurd hv (by decide)
          · omega
          · exact Try.readRef_cd s k w hs hk2 h0 A1 b1 h9 hv hc' h9
        · have hc' : cd = false ∨ (cd = true ∧ Lib.occAt s.data.toList [60, 33, 91, 67, 68, 65, 84, 65, 91] k = false) := by
            cases cd with
            | false => exact Or.inl rfl
            | true =>
              refine Or.inr ⟨rfl, ?_⟩
              rw [← hocc]
              have hc2 : Lib.hasPrefix r Ty.sCdata = false := by simpa using hc
              exact hc2
          cases a4 : Lib.hasPrefix r Ty.sNone with
          | true =>
            have e1 : Ty.read1 r cd = (0, [], 3) := by unfold Ty.read1; rw [a1, if_neg (by decide), if_neg hd, if_neg hc, a4, if_pos rfl]
            have A4 : Lib.occAt s.data.toList [60, 47, 62] k = true := by rw [← hocc]; exact a4
            have b1 : Lib.occAt s.data.toList [60, 33] k = false := by
              cases b1 : Lib.occAt s.data.toList [60, 33] k with
              | false => rfl
              | true => exact absurd (Try.occ_two b1 (Try.occ_pre (p := [60, 47]) (q := [62]) A4)) (by decide)
            rw [e1]
            rcases hc' with rfl | ⟨rfl, hc'⟩
            · exact Try.readRef_none_C0 s k w hs hk2 h0 A1 b1 A4
            · exact Try.readRef_none_C1f s k w hs hk2 h0 A1 b1 hc' A4
          | false =>
            have A4 : Lib.occAt s.data.toList [60, 47, 62] k = false := by rw [← hocc]; exact a4
            have h1k : k + 1 < s.size := by omega
            have hg : r[1]? = some (s[k + 1]'h1k) := by
              rw [← hr, ← hl, List.getElem?_drop, List.getElem?_eq_getElem (by omega)]; rfl
            cases a5 : (((s[k + 1]'h1k).toNat : Int) == 63) with
            | true =>
              have h63 : s[k + 1]'h1k = 63 := by
                apply UInt8.toNat_inj.1
                have := beq_iff_eq.1 a5
                simp; omega
              have e1 : Ty.read1 r cd = (4, (Ty.upTo (r.drop 1) Ty.sGt).1, 1 + (Ty.upTo (r.drop 1) Ty.sGt).2) := by
                unfold Ty.read1; rw [a1, if_neg (by decide), if_neg hd, if_neg hc, a4, if_neg (by decide), hg, h63, if_pos (by decide)]
              have b1 : Lib.occAt s.data.toList [60, 33] k = false := by
                rw [Try.occ2 _ _ _ _ (by omega), show s.data.toList[k + 1]'(by omega) = s[k + 1]'h1k from rfl, h63]
                simp
              rw [e1, cast, hdrop]
              rcases hc' with rfl | ⟨rfl, hc'⟩
              · exact Try.readRef_q_C0 s k w hs hk2 h0 A1 b1 A4 _ rfl a5
              · exact Try.readRef_q_C1f s k w hs hk2 h0 A1 b1 hc' A4 _ rfl a5
            | false =>
              have h63 : s[k + 1]'h1k ≠ 63 := by
                intro h
                rw [h] at a5
                exact absurd a5 (by decide)
              have e1 : Ty.read1 r cd = (4, (Ty.upTo (r.drop 2) Ty.sGt).1, 2 + (Ty.upTo (r.drop 2) Ty.sGt).2) := by
                unfold Ty.read1; rw [a1, if_neg (by decide), if_neg hd, if_neg hc, a4, if_neg (by decide), hg, if_neg (by simpa using h63)]
              rw [e1, cast, hdrop]
              rcases hv with b1 | ⟨b1, b2⟩ | ⟨b1, b2, b3⟩ <;> rcases hc' with rfl | ⟨rfl, hc'⟩
              · exact Try.readRef_e_AC0 s k w hs hk2 h0 A1 b1 A4 _ rfl a5
              · exact Try.readRef_e_AC1f s k w hs hk2 h0 A1 b1 hc' A4 _ rfl a5
              · exact Try.readRef_e_BC0 s k w hs hk2 h0 A1 b1 b2 A4 _ rfl a5
              · exact Try.readRef_e_BC1f s k w hs hk2 h0 A1 b1 b2 hc' A4 _ rfl a5
              · exact Try.readRef_e_CC0 s k w hs hk2 h0 A1 b1 b2 b3 A4 _ rfl a5
              · exact Try.readRef_e_CC1f s k w hs hk2 h0 A1 b1 b2 b3 hc' A4 _ rfl a5
end Go.Proofs
