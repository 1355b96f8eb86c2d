/- auto: where no full stop stands between two that may be a host's, there is no address. Plain. No condition. auto: the statements. No condition but that the library's tables hold what they hold. -/
import Derived.Test.YtpkicfcnhgnejaaDoorAuQ
import Derived.Test.YtpkicfcnhgnejaaDoorUtW
namespace Go.Proofs
open Go Go.Sh
set_option linter.unusedVariables false
set_option maxRecDepth 100000
/-- behind a full stop stands nothing that a host may have -/
def apartB (t : List UInt8) : Prop := ∀ j : Nat, t[j]? = some (46 : UInt8) → ∀ c : UInt8, t[j + 1]? = some c → hostB c = false
theorem apart_drop {t : Bs} (h : apartB t) (i : Nat) : apartB (t.drop i) := fun j hj c hc => by
  rw [List.getElem?_drop] at hj hc
  exact h (i + j) hj c (by rw [← hc]; congr 1)
theorem span_zero {p : UInt8 → Bool} {t : List UInt8} (h : ∀ c : UInt8, t[0]? = some c → p c = false) : spanP p t = 0 := by
  cases t with
  | nil => rfl
  | cons x t => unfold spanP; rw [if_neg (by rw [h x rfl]; decide)]
theorem apart_domain {t : Bs} (h : apartB t) : domainP t = 0 := by
  have : (domP t).1.length ≤ 1 := by
    by_cases h0 : spanP hostB t = 0
    · rw [domP_zero h0]; exact Nat.zero_le _
    · by_cases hd : (t.drop (spanP hostB t)).head? = some 46
      · have hn : spanP hostB (t.drop (spanP hostB t + 1)) = 0 := by
          refine span_zero fun c hc => ?_
          rw [List.getElem?_drop] at hc
          refine h (spanP hostB t) ?_ c (by rw [← hc])
          rw [List.head?_drop] at hd
          exact hd
        rw [domP_end h0 (fun hh => hh.2 hn)]; exact Nat.le_refl _
      · rw [domP_end h0 (fun hh => hd hh.1)]; exact Nat.le_refl _
  unfold domainP
  have hb : domOk (domP t).1 = false := by
    cases hc : domOk (domP t).1 with
    | false => rfl
    | true =>
      generalize (domP t).1 = l at *
      match l, this, hc with
      | [], _, hc => cases hc
      | [x], _, hc => cases hc
      | x :: y :: l, h, _ => simp at h
  rw [hb]; rfl
theorem apart_found {t : Bs} (h : apartB t) : foundN t = 0 := by
  have hp : pageN t = 0 := by
    unfold pageN
    split
    · rfl
    · rw [if_pos (apart_domain (apart_drop h _))]
  unfold foundN
  rw [if_pos hp]
  unfold mailN
  split
  · rfl
  · rw [if_pos (apart_domain (apart_drop h _))]
theorem apart_find {t : Bs} (h : apartB t) : findP t = [] := by
  have : ∀ M i, findGo M t i = [] := by
    intro M
    induction M with
    | zero => intro i; rfl
    | succ M ih =>
      intro i
      unfold findGo
      split
      · rfl
      · rw [if_neg (fun hh => hh.2 (apart_found (apart_drop h i)))]
        exact ih _
  exact this _ _
/-- a text without full stops, and one with blanks around them -/
def bareP (s : Bs) : Bs := s.filter fun c => decide (c ≠ 46)
def wideP (s : Bs) : Bs := s.flatMap fun c => if c = 46 then [32, 46, 32] else [c]
theorem bare_apart (s : Bs) : apartB (bareP s) := fun j hj => by
  have := List.mem_of_getElem? hj
  unfold bareP at this
  simp at this
theorem wide_apart : ∀ s : Bs, apartB (wideP s)
  | [] => fun j hj => by simp [wideP] at hj
  | x :: s => by
    have ih := wide_apart s
    have e : wideP (x :: s) = (if x = 46 then [32, 46, 32] else [x]) ++ wideP s := by unfold wideP; rw [List.flatMap_cons]
    rw [e]
    by_cases hx : x = 46
    · rw [if_pos hx]
      intro j hj c hc
      match j with
      | 0 => cases hj
      | 1 => simp at hc; subst hc; decide
      | 2 => cases hj
      | j + 3 => exact ih j (by simpa using hj) c (by simpa using hc)
    · rw [if_neg hx]
      intro j hj c hc
      match j with
      | 0 => simp at hj; exact absurd hj hx
      | j + 1 => exact ih j (by simpa using hj) c (by simpa using hc)
theorem enc_all {r : Nat} (hr : scal r) : (r < 128 ∧ encN r = [b8 r]) ∨ (128 ≤ r ∧ ∀ x ∈ encN r, 128 ≤ x.toNat) := by
  rcases enc_head hr with h | ⟨h1, h2⟩
  · exact .inl h
  · refine .inr ⟨h1, fun x hx => ?_⟩
    obtain ⟨j, hj, rfl⟩ := List.getElem_of_mem hx
    by_cases h0 : j = 0
    · subst h0
      rw [List.getD_eq_getElem?_getD, List.getElem?_eq_getElem hj] at h2
      have : 192 ≤ ((encN r)[0]).toNat := h2
      omega
    · have := enc_tail hr j (by omega) hj
      rw [List.getD_eq_getElem?_getD, List.getElem?_eq_getElem hj] at this
      exact this
theorem bare_app (a b : Bs) : bareP (a ++ b) = bareP a ++ bareP b := by unfold bareP; rw [List.filter_append]
theorem wide_app (a b : Bs) : wideP (a ++ b) = wideP a ++ wideP b := by unfold wideP; rw [List.flatMap_append]
theorem bare_enc {r : Nat} (hr : okR r) : IsText (bareP (encN r)) := by
  rcases enc_all hr.1 with ⟨h1, h2⟩ | ⟨h1, h2⟩
  · have hb : bareP (encN r) = if r = 46 then [] else encN r := by
      rw [h2]
      unfold bareP
      by_cases e : r = 46
      · subst e; rw [if_pos rfl]; decide
      · rw [if_neg e, List.filter_cons_of_pos (by
          refine decide_eq_true fun hh => e ?_
          have := congrArg UInt8.toNat hh
          rw [b8_nat (by omega)] at this
          exact this)]
        rfl
    rw [hb]
    split
    · exact isText_nil
    · exact isText_one hr
  · have hb : bareP (encN r) = encN r := by
      unfold bareP
      refine List.filter_eq_self.2 fun x hx => decide_eq_true fun hh => ?_
      have := h2 x hx
      subst hh
      revert this; decide
    rw [hb]; exact isText_one hr
theorem wide_enc {r : Nat} (hr : okR r) : IsText (wideP (encN r)) := by
  rcases enc_all hr.1 with ⟨h1, h2⟩ | ⟨h1, h2⟩
  · have hb : wideP (encN r) = if r = 46 then [32, 46, 32] else encN r := by
      rw [h2]
      unfold wideP
      by_cases e : r = 46
      · subst e; rw [if_pos rfl]; decide
      · rw [if_neg e, List.flatMap_cons, List.flatMap_nil, if_neg (fun hh => e (by
          have := congrArg UInt8.toNat hh
          rw [b8_nat (by omega)] at this
          exact this))]
        rfl
    rw [hb]
    split
    · exact (isText_iff _).2 (by decide)
    · exact isText_one hr
  · have hb : wideP (encN r) = encN r := by
      have : ∀ l : Bs, (∀ x ∈ l, 128 ≤ x.toNat) → wideP l = l := by
        intro l
        induction l with
        | nil => intro _; rfl
        | cons x l ih =>
          intro hl
          have e : wideP (x :: l) = (if x = 46 then [32, 46, 32] else [x]) ++ wideP l := by unfold wideP; rw [List.flatMap_cons]
          rw [e, if_neg (fun hh => by have := hl x (List.mem_cons_self ..); subst hh; revert this; decide), ih fun y hy => hl y (List.mem_cons_of_mem _ hy)]
          rfl
      exact this _ h2
    rw [hb]; exact isText_one hr
theorem bare_text {s : Bs} (h : IsText s) : IsText (bareP s) := by
  obtain ⟨rs, hrs, rfl⟩ := h
  induction rs with
  | nil => exact isText_nil
  | cons r rs ih =>
    rw [encs_cons, bare_app]
    exact isText_append (bare_enc (hrs r (List.mem_cons_self ..))) (ih fun x hx => hrs x (List.mem_cons_of_mem _ hx))
theorem wide_text {s : Bs} (h : IsText s) : IsText (wideP s) := by
  obtain ⟨rs, hrs, rfl⟩ := h
  induction rs with
  | nil => exact isText_nil
  | cons r rs ih =>
    rw [encs_cons, wide_app]
    exact isText_append (wide_enc (hrs r (List.mem_cons_self ..))) (ih fun x hx => hrs x (List.mem_cons_of_mem _ hx))
theorem bare_len (s : Bs) : (bareP s).length ≤ s.length := List.length_filter_le ..
theorem wide_len : ∀ s : Bs, (wideP s).length ≤ 3 * s.length
  | [] => Nat.le_refl _
  | x :: s => by
    have e : wideP (x :: s) = (if x = 46 then [32, 46, 32] else [x]) ++ wideP s := by unfold wideP; rw [List.flatMap_cons]
    have := wide_len s
    rw [e, List.length_append, List.length_cons]
    split <;> simp <;> omega
end Go.Proofs
namespace Go.Proofs
open Go Go.Sh
set_option linter.unusedVariables false
set_option maxRecDepth 100000
def fdCells (p : FoundP) : List Value := [.int .i64 p.1, .int .i64 p.2.1, S p.2.2]
theorem eqFd (x : FoundP) : eqAll (fdCells x) (fdCells x) = true := by
  obtain ⟨x1, x2, x3⟩ := x
  simp [fdCells, eqAll, eqV]
theorem fdNe {x : FoundP} {p q : Operand} {h : H} {K : Value → Prop} (hk : K (.bool false)) : SemR Tryd.prog (binS .neq 28 p q (.agg ⟨fdCells x⟩) (.agg ⟨fdCells x⟩)) h K :=
  semR_neq (by kernel_rfl) (by kernel_rfl) (by rw [eqFd]; exact hk)
def bs1 : Bs := [40, 119, 119, 119, 46, 97, 46, 98, 47, 99, 41, 44, 32, 120, 64, 121, 46, 122, 46]
def bs2 : Bs := [97, 119, 119, 119, 46, 97, 46, 98]
def bs3 : Bs := [104, 116, 116, 112, 58, 47, 47, 97, 95, 98, 46, 99]
theorem t_bs1 : IsText bs1 := (isText_iff _).2 (by decide +kernel)
theorem t_bs2 : IsText bs2 := (isText_iff _).2 (by decide +kernel)
theorem t_bs3 : IsText bs3 := (isText_iff _).2 (by decide +kernel)
theorem find_bs1 : findP bs1 = [(1, 10, [104, 116, 116, 112, 58, 47, 47, 119, 119, 119, 46, 97, 46, 98, 47, 99]), (13, 18, [109, 97, 105, 108, 116, 111, 58, 120, 64, 121, 46, 122])] := by decide +kernel
theorem find_bs2 : findP bs2 = [] := by decide +kernel
theorem find_bs3 : findP bs3 = [] := by decide +kernel
section
variable {h : H} {K : Value → H → Prop} {A : Nat → Prop} {b : Option Addr} {n c : Nat} {s : Bs}
theorem fdAt {l : List FoundP} (r : Row elFd A h b n c l) {i : Nat} (hi : i < l.length) {K : Addr → Prop} (hk : ∀ a, (∀ (j : Nat) v, (fdCells l[i])[j]? = some v → cell h ((a.add (Int.toNat (i : Int) * 3)).add j) = some v) → K a) : (0 ≤ (i : Int) ∧ (i : Int) < (n : Int)) ∧ vSome b K := by
  have hn := r.len
  refine ⟨⟨by omega, by omega⟩, ?_⟩
  obtain ⟨a, rfl, hA⟩ := r.at' i _ (List.getElem?_eq_getElem hi)
  rw [Int.toNat_natCast] at hk
  obtain ⟨_, cs, hR, h4⟩ := hA
  obtain ⟨c1, c2, rfl, ⟨rfl, h1⟩, c3, c4, rfl, ⟨rfl, h2⟩, ⟨rfl, h3⟩⟩ := hR
  exact hk a h4
theorem known_calls (u : U8 h) (hk : ∀ h', KB h h' → K (.bool true) h') : HCalls Tryd.prog 8 ⟨[]⟩ h K := by
  refine Sx.l28_known.ok _ _ (find_calls (s := bs1) u (by decide) t_bs1 fun h1 b1 n1 c1 k1 o1 => vSliceMk ?_)
  rw [find_bs1] at o1
  have hn : n1 = 2 := o1.own.len.symm
  subst hn
  refine splT rfl (fdAt (i := 0) o1.row (by decide) fun a1 e1 => ⟨_, e1 0 _ rfl, splT rfl ?_⟩)
  refine fdAt (i := 0) o1.row (by decide) fun a1 e1 => ⟨_, e1 1 _ rfl, splT rfl ?_⟩
  refine fdAt (i := 0) o1.row (by decide) fun a1 e1 => ⟨_, e1 2 _ rfl, splT rfl ?_⟩
  refine fdAt (i := 1) o1.row (by decide) fun a1 e1 => ⟨_, e1 0 _ rfl, splT rfl ?_⟩
  refine fdAt (i := 1) o1.row (by decide) fun a1 e1 => ⟨_, e1 1 _ rfl, splT rfl ?_⟩
  refine fdAt (i := 1) o1.row (by decide) fun a1 e1 => ⟨_, e1 2 _ rfl, splT rfl (condT ?_)⟩
  refine find_calls (s := bs2) (u.kb k1) (by decide) t_bs2 fun h2 b2 n2 c2 k2 o2 => vSliceMk ?_
  rw [find_bs2] at o2
  have hn2 : n2 = 0 := o2.own.len.symm
  refine splT (by omega) (find_calls (s := bs3) (u.kb (k1.trans k2)) (by decide) t_bs3 fun h3 b3 n3 c3 k3 o3 => vSliceMk ?_)
  rw [find_bs3] at o3
  have hn3 : n3 = 0 := o3.own.len.symm
  exact splT (by omega) (hk h3 ((k1.trans k2).trans k3))
theorem lawFinds_calls {l : Bs} (u : U8 h) (r : Row elB A h b n c l) (hk : ∀ h', KB h h' → K (.bool true) h') : HCalls Tryd.prog 3 ⟨[.slice b n c]⟩ h K := by
  have hln := r.len
  have htx := textP_text l
  have htl := textP_len l
  refine Sx.l28_AutoFinds.ok _ _ _ _ _ (spl (fun _ => hk h (KB.refl h)) fun hle => text_calls r (by omega) fun h1 k1 => vStrMk ?_)
  generalize textP l = s at *
  refine find_calls (u.kb k1) (by omega) htx fun h2 b2 n2 c2 k2 o2 => vSliceMk ?_
  refine findR_calls (by omega) htx fun h3 b3 n3 c3 k3 o3 => vSliceMk ?_
  have l2 := o2.own.len
  have l3 := o3.own.len
  have r2 := (o2.kb k3).row
  have r3 := o3.row
  generalize (findP s).map toF = fs at *
  refine splT (by omega) (known_calls (u.kb ((k1.trans k2).trans k3)) fun h4 k4 => vBool_mk (condT ?_))
  have r2 := r2.kb k4
  have r3 := r3.kb k4
  have kk := ((k1.trans k2).trans k3).trans k4
  have hcap := r2.cap
  have hmax := r2.max
  simp only [maxLen] at hmax
  have key : ∀ N i, fs.length ≤ i + N → i ≤ fs.length → Sx.l28_AutoFinds.n11_L (fun h => Sx.l28_AutoFinds.n8 (fun y2 h => K (.bool y2) h) (fun y2 h => K (.bool y2) h) h) (fun h => Sx.l28_AutoFinds.n8 (fun y2 h => K (.bool y2) h) (fun y2 h => K (.bool y2) h) h) (fun y2 h => K (.bool y2) h) (N + 1) b2 n2 c2 b3 n3 c3 (i : Int) h4 := by
    intro N
    induction N with
    | zero =>
      intro i hN hi
      unfold Sx.l28_AutoFinds.n11_L
      exact splF (by omega) (hk h4 kk)
    | succ N ih =>
      intro i hN hi
      unfold Sx.l28_AutoFinds.n11_L
      refine spl (fun hlt => ?_) fun hge => hk h4 kk
      have hil : i < fs.length := by omega
      refine fdAt r2 hil fun a1 e1 => ⟨_, e1 0 _ rfl, _, e1 1 _ rfl, _, e1 2 _ rfl, fdAt r3 hil fun a2 e2 => ⟨_, e2 0 _ rfl, _, e2 1 _ rfl, _, e2 2 _ rfl, fdNe (x := fs[i]) (vBool_mk (condF ⟨rng64 (by omega) (by omega), ih (i + 1) (by omega) (by omega)⟩))⟩⟩
  exact ⟨fs.length + 1, key fs.length 0 (by omega) (Nat.zero_le _)⟩
theorem lawNone_calls {l : Bs} (u : U8 h) (r : Row elB A h b n c l) (hk : ∀ h', KB h h' → K (.bool true) h') : HCalls Tryd.prog 4 ⟨[.slice b n c]⟩ h K := by
  have hln := r.len
  have htx := textP_text l
  have htl := textP_len l
  refine Sx.l28_AutoNone.ok _ _ _ _ _ (spl (fun _ => known_calls u fun h1 k1 => vBool_mk (condT (hk h1 k1))) fun hle => known_calls u fun h1 k1 => vBool_mk (condT (text_calls (r.kb k1) (by omega) fun h2 k2 => vStrMk ?_)))
  generalize textP l = s at *
  have k12 := k1.trans k2
  have hbl := bare_len s
  have hwl := wide_len s
  have key : ∀ N i, s.length ≤ i + N → i ≤ s.length → Sx.l28_AutoNone.n10_L (fun z4 z5 h => Sx.l28_AutoNone.n7 z4 z5 (fun y2 h => K (.bool y2) h) (fun y2 h => K (.bool y2) h) h) (fun z4 z5 h => Sx.l28_AutoNone.n7 z4 z5 (fun y2 h => K (.bool y2) h) (fun y2 h => K (.bool y2) h) h) (fun y2 h => K (.bool y2) h) (N + 1) s (bareP (s.take i)) (wideP (s.take i)) (i : Int) h2 := by
    intro N
    have fin : Sx.l28_AutoNone.n7 (bareP s) (wideP s) (fun y2 h => K (.bool y2) h) (fun y2 h => K (.bool y2) h) h2 := by
      refine find_calls (u.kb k12) (by omega) (bare_text htx) fun h3 b3 n3 c3 k3 o3 => vSliceMk ?_
      rw [apart_find (bare_apart s)] at o3
      have hn3 : n3 = 0 := o3.own.len.symm
      refine splT (by omega) (find_calls (u.kb (k12.trans k3)) (by omega) (wide_text htx) fun h4 b4 n4 c4 k4 o4 => vSliceMk ?_)
      rw [apart_find (wide_apart s)] at o4
      have hn4 : n4 = 0 := o4.own.len.symm
      exact splT (by omega) (hk h4 ((k12.trans k3).trans k4))
    induction N with
    | zero =>
      intro i hN hi
      unfold Sx.l28_AutoNone.n10_L
      rw [List.take_of_length_le (by omega)]
      exact splF (by omega) fin
    | succ N ih =>
      intro i hN hi
      unfold Sx.l28_AutoNone.n10_L
      refine spl (fun hlt => ⟨⟨by omega, by omega⟩, ?_⟩) fun hge => by rw [List.take_of_length_le (by omega)]; exact fin
      have hil : i < s.length := by omega
      have hb1 := bare_len (s.take i)
      have hw1 := wide_len (s.take i)
      have htk : (s.take i).length = i := by rw [List.length_take]; omega
      have e1 : s.take (i + 1) = s.take i ++ [s[i]] := by rw [List.take_add_one, List.getElem?_eq_getElem hil]; rfl
      have next := ih (i + 1) (by omega) (by omega)
      rw [e1, bare_app, wide_app] at next
      rw [Int.toNat_natCast, getDA s i hil]
      have es : sub s (i : Int) ((i : Int) + 1) = [s[i]] := by
        rw [show ((i : Int) + 1) = ((i + 1 : Nat) : Int) by omega, sub_nat, e1, List.drop_left' htk]
      refine spl (fun e => ?_) fun e => ?_
      · have hx : s[i] = 46 := UInt8.toNat_inj.1 (by show s[i].toNat = 46; omega)
        rw [hx] at next
        refine condF ⟨by simp; omega, rng64 (by omega) (by omega), ?_⟩
        have e2 : bareP [46] = [] := rfl
        have e3 : wideP [46] = [32, 46, 32] := rfl
        rw [e2, e3, List.append_nil] at next
        exact next
      · have hx : s[i] ≠ 46 := fun hh => e (by rw [hh]; rfl)
        have e2 : bareP [s[i]] = [s[i]] := by simp [bareP, hx]
        have e3 : wideP [s[i]] = [s[i]] := by unfold wideP; rw [List.flatMap_cons, if_neg hx]; rfl
        rw [e2, e3] at next
        refine condT ⟨rng64 (by omega) (by omega), ⟨by omega, by omega, by omega⟩, ?_, rng64 (by omega) (by omega), ⟨by omega, by omega, by omega⟩, ?_, rng64 (by omega) (by omega), ?_⟩
        · rw [es]; simp; omega
        · rw [es]; simp; omega
        · rw [es]; exact next
  exact ⟨s.length + 1, key s.length 0 (by omega) (Nat.zero_le _)⟩
end
end Go.Proofs
