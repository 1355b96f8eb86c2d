/- class: the laws. No condition but that the library's tables hold what they hold. -/
import Derived.Test.YtnnknbecgpdcgaaDoorCsC
namespace Go.Proofs
open Go Go.Sh
set_option linter.unusedVariables false
set_option maxRecDepth 100000

section
variable {A : Nat → Prop} {h : H} {s : Bs} {K : Value → H → Prop}

theorem lawRunes_calls {r : Int} (u : U8 h) (hr : Rng .i32 r) (hk : ∀ h', KB h h' → K (.bool true) h') : HCalls Tryd.prog 3 ⟨[.int .i32 r]⟩ h K := by
  refine Sx.l02_ClassRunes.ok _ _ _ (known_calls u fun h1 k1 => vBool_mk (condT (blank_calls (vBool_mk (condB (fun e => rBlank_calls (vBool_mk ?_)) fun e => rBlank_calls (vBool_mk ?_))))))
  all_goals rw [e]
  · refine condT (punct_calls hr fun h2 k2 => vBool_mk (condB (fun e2 => rPunct_calls fun h3 k3 => vBool_mk ?_) fun e2 => rPunct_calls fun h3 k3 => vBool_mk ?_))
    · rw [← punct_ref, e2]; exact condT (hk h3 ((k1.trans k2).trans k3))
    · rw [← punct_ref, e2]; exact condF (hk h3 ((k1.trans k2).trans k3))
  · refine condF (punct_calls hr fun h2 k2 => vBool_mk (condB (fun e2 => rPunct_calls fun h3 k3 => vBool_mk ?_) fun e2 => rPunct_calls fun h3 k3 => vBool_mk ?_))
    · rw [← punct_ref, e2]; exact condT (hk h3 ((k1.trans k2).trans k3))
    · rw [← punct_ref, e2]; exact condF (hk h3 ((k1.trans k2).trans k3))
theorem foldP_len {s : Bs} (hs : s.length ≤ 100000) : (foldP s).length ≤ 1000000 := by
  have h1 := runes_len s
  have : ∀ l : List Nat, (encs (l.flatMap foldN)).length ≤ 8 * l.length := by
    intro l
    induction l with
    | nil => simp [encs]
    | cons r l ih =>
      rw [List.flatMap_cons, encs_append, List.length_append, List.length_cons]
      have : (encs (foldN r)).length ≤ 8 := by
        unfold foldN
        split
        · decide
        · have := enc_len (turnN r)
          simp [encs]; omega
      omega
  have := this (runesP s)
  unfold foldP
  omega
theorem lawFolds_calls {b : Option Addr} {n c : Nat} {l : Bs} (u : U8 h) (r : Row elB A h b n c l) (hk : ∀ h', KB h h' → K (.bool true) h') : HCalls Tryd.prog 4 ⟨[.slice b n c]⟩ h K := by
  have hn := r.len
  refine Sx.l02_ClassFolds.ok _ _ _ _ _ (spl (fun _ => hk h (KB.refl h)) fun hle => text_calls r (by omega) fun h1 k1 => vStrMk ?_)
  have hl := textP_len l
  have ht := textP_text l
  generalize textP l = s at hl ht
  obtain ⟨f1, f2⟩ := foldP_text ht
  have f3 := foldP_len (s := s) (by omega)
  refine fold_calls (by omega) fun h2 k2 => vStrMk (known_calls (u.kb (k1.trans k2)) fun h3 k3 => vBool_mk (condT (rFold_calls (by omega) fun h4 k4 => vStrMk (splT rfl (fold_calls f3 fun h5 k5 => vStrMk (splT f2 (hk h5 ((((k1.trans k2).trans k3).trans k4).trans k5))))))))
theorem low_low (s : Bs) : Ty.lowB (Ty.lowB s) = Ty.lowB s := by
  unfold Ty.lowB
  rw [List.map_map]
  refine List.map_congr_left fun x _ => ?_
  show Ty.lowc (Ty.lowc x) = Ty.lowc x
  have : ∀ k : Fin 256, Ty.lowc (Ty.lowc (UInt8.ofNat k.val)) = Ty.lowc (UInt8.ofNat k.val) := by decide +kernel
  have := this ⟨x.toNat, u8_lt x⟩
  simpa using this
theorem lawLowers_calls (u : U8 h) (hk : ∀ h', KB h h' → K (.bool true) h') : HCalls Tryd.prog 5 ⟨[S s]⟩ h K := by
  refine Sx.l02_ClassLowers.ok _ _ _ (spl (fun _ => hk h (KB.refl h)) fun hle => lower_calls (by omega) fun h1 k1 => vStrMk (known_calls (u.kb k1) fun h2 k2 => vBool_mk (condT (rLower_calls (by omega) fun h3 k3 => vStrMk (splT rfl (splT (by simp [Ty.lowB]) (lower_calls (by simp [Ty.lowB]; omega) fun h4 k4 => vStrMk (splT (low_low s) (hk h4 (((k1.trans k2).trans k3).trans k4))))))))))
theorem lawAround_calls {b : Option Addr} {n c : Nat} {l : Bs} {i : Int} (u : U8 h) (r : Row elB A h b n c l) (hk : ∀ h', KB h h' → K (.bool true) h') : HCalls Tryd.prog 6 ⟨[.slice b n c, .int .i64 i]⟩ h K := by
  have hn := r.len
  refine Sx.l02_ClassAround.ok _ _ _ _ _ _ (spl (fun _ => hk h (KB.refl h)) fun hle => text_calls r (by omega) fun h1 k1 => vStrMk ?_)
  have hl := textP_len l
  generalize textP l = s at hl
  -- where it is asked
  have tail : ∀ h2, KB h h2 → (0 < i → i ≤ s.length → plainP (s.take i.toNat) = s.take i.toNat) → HCalls Tryd.prog 19 ⟨[S s, .int .i64 i]⟩ h2 fun v22 h23 => vInt .i32 v22 fun i24 => HCalls Tryd.prog 20 ⟨[S s, .int .i64 i]⟩ h23 fun v25 h26 => vInt .i32 v25 fun i27 => Spl (i24 = i27) (HCalls Tryd.prog 21 ⟨[S s, .int .i64 i]⟩ h26 fun v28 h29 => vInt .i32 v28 fun i30 => HCalls Tryd.prog 22 ⟨[S s, .int .i64 i]⟩ h29 fun v31 h32 => vInt .i32 v31 fun i33 => Spl (i30 = i33) (K (.bool true) h32) (K (.bool false) h32)) (K (.bool false) h26) := by
    intro h2 k2 hw
    have rest : ∀ p h3, KB h2 h3 → p = prevP s i → HCalls Tryd.prog 20 ⟨[S s, .int .i64 i]⟩ h3 fun v25 h26 => vInt .i32 v25 fun i27 => Spl (p = i27) (HCalls Tryd.prog 21 ⟨[S s, .int .i64 i]⟩ h26 fun v28 h29 => vInt .i32 v28 fun i30 => HCalls Tryd.prog 22 ⟨[S s, .int .i64 i]⟩ h29 fun v31 h32 => vInt .i32 v31 fun i33 => Spl (i30 = i33) (K (.bool true) h32) (K (.bool false) h32)) (K (.bool false) h26) := fun p h3 k3 hp =>
      rPrev_calls (by omega) fun h4 k4 => vIntMk (splT hp (next_calls (u.kb ((k2.trans k3).trans k4)) (by omega) fun h5 k5 => vIntMk (rNext_calls (by omega) fun h6 k6 => vIntMk (splT rfl (hk h6 ((((k2.trans k3).trans k4).trans k5).trans k6))))))
    refine prev_calls (u.kb k2) (by omega) (fun e => vIntMk (rest _ h2 (KB.refl _) ?_)) fun p0 p1 h3 k3 => vIntMk (rest _ h3 k3 ?_)
    · unfold prevP; rw [if_pos e]
    · unfold prevP
      rw [if_neg (by omega), prev_last (by omega) (by omega) (hw p0 p1)]
  refine spl (fun e0 => spl (fun e1 => whole_calls (by omega) e0 e1 fun h2 k2 => vBool_mk (condB (fun e => ?_) fun e => ?_)) fun e1 => ?_) fun e0 => ?_
  · exact known_calls (u.kb (k1.trans k2)) fun h3 k3 => vBool_mk (condT (tail h3 ((k1.trans k2).trans k3) fun _ _ => of_decide_eq_true e))
  · exact known_calls (u.kb (k1.trans k2)) fun h3 k3 => vBool_mk (condT (hk h3 ((k1.trans k2).trans k3)))
  · exact known_calls (u.kb k1) fun h3 k3 => vBool_mk (condT (tail h3 (k1.trans k3) fun _ h => absurd h e1))
  · exact known_calls (u.kb k1) fun h3 k3 => vBool_mk (condT (tail h3 (k1.trans k3) fun h _ => by omega))
theorem lawBytes_calls {x : UInt8} (u : U8 h) (hk : ∀ h', KB h h' → K (.bool true) h') : HCalls Tryd.prog 7 ⟨[.int .u8 (x.toNat : Int)]⟩ h K := by
  have hx := u8_lt x
  refine Sx.l02_ClassBytes.ok _ _ _ (known_calls u fun h1 k1 => vBool_mk (condT (space_calls (vBool_mk ?_))))
  refine condB (fun e1 => rSpace_calls (vBool_mk ?_)) fun e1 => rSpace_calls (vBool_mk ?_) <;> rw [e1]
  · refine condT (letter_calls (vBool_mk ?_))
    refine condB (fun e2 => rLetter_calls (vBool_mk ?_)) fun e2 => rLetter_calls (vBool_mk ?_) <;> rw [e2]
    · refine condT (digit_calls (vBool_mk ?_))
      refine condB (fun e3 => rDigit_calls (vBool_mk ?_)) fun e3 => rDigit_calls (vBool_mk ?_) <;> rw [e3]
      · exact condT (hex_calls (by omega) (by omega) (vIntMk (rHex_calls (by omega) (by omega) (vIntMk (splT rfl (hk h1 k1))))))
      · exact condF (hex_calls (by omega) (by omega) (vIntMk (rHex_calls (by omega) (by omega) (vIntMk (splT rfl (hk h1 k1))))))
    · refine condF (digit_calls (vBool_mk ?_))
      refine condB (fun e3 => rDigit_calls (vBool_mk ?_)) fun e3 => rDigit_calls (vBool_mk ?_) <;> rw [e3]
      · exact condT (hex_calls (by omega) (by omega) (vIntMk (rHex_calls (by omega) (by omega) (vIntMk (splT rfl (hk h1 k1))))))
      · exact condF (hex_calls (by omega) (by omega) (vIntMk (rHex_calls (by omega) (by omega) (vIntMk (splT rfl (hk h1 k1))))))
  · refine condF (letter_calls (vBool_mk ?_))
    refine condB (fun e2 => rLetter_calls (vBool_mk ?_)) fun e2 => rLetter_calls (vBool_mk ?_) <;> rw [e2]
    · refine condT (digit_calls (vBool_mk ?_))
      refine condB (fun e3 => rDigit_calls (vBool_mk ?_)) fun e3 => rDigit_calls (vBool_mk ?_) <;> rw [e3]
      · exact condT (hex_calls (by omega) (by omega) (vIntMk (rHex_calls (by omega) (by omega) (vIntMk (splT rfl (hk h1 k1))))))
      · exact condF (hex_calls (by omega) (by omega) (vIntMk (rHex_calls (by omega) (by omega) (vIntMk (splT rfl (hk h1 k1))))))
    · refine condF (digit_calls (vBool_mk ?_))
      refine condB (fun e3 => rDigit_calls (vBool_mk ?_)) fun e3 => rDigit_calls (vBool_mk ?_) <;> rw [e3]
      · exact condT (hex_calls (by omega) (by omega) (vIntMk (rHex_calls (by omega) (by omega) (vIntMk (splT rfl (hk h1 k1))))))
      · exact condF (hex_calls (by omega) (by omega) (vIntMk (rHex_calls (by omega) (by omega) (vIntMk (splT rfl (hk h1 k1))))))
end
end Go.Proofs
