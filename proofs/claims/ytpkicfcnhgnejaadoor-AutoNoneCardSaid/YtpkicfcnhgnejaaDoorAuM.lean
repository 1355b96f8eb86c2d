/- auto: IndexFunc with the program's closure; page of the program. No condition but that the library's tables hold what they hold. auto: a text rune by rune, by its bytes. Plain, no program. No condition. auto: page of the chapter. No condition. auto: page of the chapter, whole. No condition. -/
import Derived.Test.YtpkicfcnhgnejaaDoorAuH
import Derived.Test.YtpkicfcnhgnejaaDoorAuA
namespace Go.Proofs
open Go Go.Sh
set_option linter.unusedVariables false
set_option maxRecDepth 100000
theorem stop_text : ∀ rs : List Nat, (∀ r ∈ rs, okR r) → IsText ((encs rs).take (stopP (encs rs)))
  | [], _ => isText_nil
  | r :: rs, h => by
    have hr := h r (List.mem_cons_self ..)
    have hne : encs (r :: rs) ≠ [] := by rw [encs_cons]; simp [enc_ne r]
    have ih := stop_text rs fun x hx => h x (List.mem_cons_of_mem _ hx)
    have hd : dec (encs (r :: rs)) = (r, (encN r).length) := by rw [encs_cons]; exact dec_enc hr.1 _
    cases hs : stopR r with
    | true => rw [stop_yes hne (by rw [hd]; exact hs)]; exact isText_nil
    | false =>
      rw [stop_no hne (by rw [hd]; exact hs), hd, encs_cons, List.drop_left, List.take_length_add_append]
      exact text_cons hr ih
theorem stop_is {u : Bs} (h : IsText u) : IsText (u.take (stopP u)) := by obtain ⟨rs, hrs, rfl⟩ := h; exact stop_text rs hrs
theorem host_one {x : UInt8} (h : hostB x = true) : IsText [x] := by
  have hl := host_lt h
  have h0 : x.toNat ≠ 0 := fun e => by
    have : x = 0 := UInt8.toNat_inj.1 e
    subst this; revert h; decide
  have he : encN x.toNat = [x] := by
    unfold encN; rw [if_pos hl]
    exact congrArg (fun y => [y]) (b8_eq (x := x) rfl).symm
  have := isText_one (r := x.toNat) ⟨by unfold scal; omega, h0⟩
  rw [he] at this
  exact this
theorem host_cut {s : Bs} {e : Nat} (h : IsText s) (h0 : 0 < e) (he : e ≤ s.length) (hh : hostB (s.getD (e - 1) 0) = true) : IsText (s.take e) ∧ IsText (s.drop e) := by
  have c := text_cut h (k := e - 1) (by omega) fun _ => host_lt hh
  have hd : s.drop (e - 1) = s.getD (e - 1) 0 :: s.drop e := by
    rw [List.drop_eq_getElem_cons (show e - 1 < s.length by omega), getDA s (e - 1) (by omega), show e - 1 + 1 = e by omega]
  refine ⟨?_, ?_⟩
  · have : s.take e = s.take (e - 1) ++ [s.getD (e - 1) 0] := by
      conv => lhs; rw [show e = e - 1 + 1 by omega, List.take_add_one, List.getElem?_eq_getElem (show e - 1 < s.length by omega)]
      rw [getDA s (e - 1) (by omega)]; rfl
    rw [this]; exact isText_append c.1 (host_one hh)
  · have := c.2
    rw [hd] at this
    exact text_tail this (host_lt hh)
theorem domain_cut {s : Bs} {f : Nat} (h : IsText s) (hf : f ≤ s.length) (hn : domainP (s.drop f) ≠ 0) : IsText (s.take (f + domainP (s.drop f))) ∧ IsText (s.drop (f + domainP (s.drop f))) := by
  have hl := domain_le (s.drop f)
  rw [List.length_drop] at hl
  have hh := domain_host hn
  rw [getDdr, show f + (domainP (s.drop f) - 1) = f + domainP (s.drop f) - 1 by omega] at hh
  exact host_cut h (by omega) (by omega) hh
theorem tup0B {b : Bool} {l : List Value} {k : Bool → Prop} (h : k b) : vTup (.tuple ⟨.bool b :: l⟩) fun l => vNth l 0 fun e => vBool e k := h
theorem tupNI {l : List Value} {n : Nat} {kd : IntKind} {i : Int} {k : Int → Prop} (hl : l[n]? = some (.int kd i)) (h : k i) : vTup (.tuple ⟨l⟩) fun l => vNth l n fun e => vInt kd e k := by
  show vNth l n fun e => vInt kd e k
  unfold vNth
  rw [hl]
  exact vIntMk h
section
variable {h : H} {K : Value → H → Prop} {s : Bs} {c : UInt8}
abbrev pageV : Value := .func (.func 36) ⟨[]⟩ ⟨[]⟩
theorem pageV_calls {r : Nat} (hk : K (.bool (stopR r)) h) : CallV Tryd.prog 4 pageV ⟨[.int .i32 (r : Int)]⟩ h K := by
  refine callV_ok Tryd.func36 (by kernel_rfl) ?_
  unfold stopR at hk
  refine Sx.auto_page_1.ok _ _ _ (spl (fun e => decBool (by kernel_rfl) ?_) fun e => blank_calls (vBool_mk (condB (fun e2 => decBool (by kernel_rfl) ?_) fun e2 => decBool (by kernel_rfl) ?_)))
  · rw [decide_eq_true (show r = 60 by omega)] at hk; exact hk
  · rw [e2, Bool.or_true] at hk; exact hk
  · rw [e2, decide_eq_false (show ¬ r = 60 by omega)] at hk; exact hk
theorem index_calls (hs : s.length ≤ 1000000) (hk : ∀ h', KB h h' → K (.int .i64 (if stopP s = s.length then -1 else (stopP s : Int))) h') : HCalls Tryd.prog 35 ⟨[S s, pageV]⟩ h K := by
  refine Sx.strings_IndexFunc.ok _ _ _ _ (Sx.strings_indexFunc.ok _ _ _ _ _ (range_k Tryd.underlying9 fun a h1 i1 k1 ea => ⟨s.length + 1, ?_⟩))
  have key : ∀ N pos h2, s.length ≤ pos + N → pos ≤ s.length → It h2 a s pos → KB h h2 → pos + stopP (s.drop pos) = stopP s →
      Sx.strings_indexFunc.n6_L (fun h => Sx.strings_indexFunc.n3 (fun y6 h => vInt .i64 (.int .i64 y6) fun i11 => K (.int .i64 i11) h) (fun y6 h => vInt .i64 (.int .i64 y6) fun i11 => K (.int .i64 i11) h) h) (fun h => Sx.strings_indexFunc.n3 (fun y6 h => vInt .i64 (.int .i64 y6) fun i11 => K (.int .i64 i11) h) (fun y6 h => vInt .i64 (.int .i64 y6) fun i11 => K (.int .i64 i11) h) h) (fun y6 h => vInt .i64 (.int .i64 y6) fun i11 => K (.int .i64 i11) h) (N + 1) pageV true a h2 := by
    intro N
    have stop : ∀ pos h2, s.length ≤ pos → pos ≤ s.length → KB h h2 → pos + stopP (s.drop pos) = stopP s → K (.int .i64 (-1)) h2 := fun pos h2 h3 h4 k e => by
      rw [List.drop_of_length_le h3, stop_nil] at e
      have := hk h2 k
      rw [if_pos (by omega)] at this
      exact this
    induction N with
    | zero =>
      intro pos h2 hp hl i k e
      unfold Sx.strings_indexFunc.n6_L
      exact next_k i (fun h => absurd h (by omega)) fun hle => tup0B (condF (condF (vIntMk (stop pos h2 hle hl k e))))
    | succ N ih =>
      intro pos h2 hp hl i k e
      unfold Sx.strings_indexFunc.n6_L
      refine next_k i (fun hlt h3 i3 k3 s3 => ?_) fun hle => tup0B (condF (condF (vIntMk (stop pos h2 hle hl k e))))
      refine tup0B (condT (condT ?_))
      have k03 : KB h h3 := KB.step k k3 (by omega)
      have hne : s.drop pos ≠ [] := fun e => by have := congrArg List.length e; rw [List.length_drop, List.length_nil] at this; omega
      have hw : 1 ≤ (dec (s.drop pos)).2 ∧ (dec (s.drop pos)).2 ≤ s.length - pos := by
        rw [← List.length_drop]
        cases hd : s.drop pos with
        | nil => exact absurd hd hne
        | cons x t => exact dec_bd x t
      refine tupNI (n := 1) (kd := .i64) (i := (pos : Int)) rfl (tupNI (n := 2) (kd := .i32) (i := ((dec (s.drop pos)).1 : Int)) rfl (pageV_calls (vBool_mk (condB (fun er => condT (vIntMk ?_)) fun er => condT ?_))))
      · rw [stop_yes hne er] at e
        have := hk h3 k03
        rw [if_neg (by omega), ← e] at this
        exact this
      · refine ih (pos + (dec (s.drop pos)).2) h3 (by omega) (by omega) i3 k03 ?_
        rw [stop_no hne er, List.drop_drop] at e
        omega
  exact key s.length 0 h1 (by omega) (Nat.zero_le _) i1 k1 (by simp)
theorem page_tail {f x5 : Bs} (u : U8 h) (hs : s.length ≤ 1000000) (ht : IsText s) (hf : f = schemeP s) (h5 : x5 = if wwwP s = true then wHttp else []) (hno : ¬ (schemeP s = [] ∧ wwwP s = false)) (hk : ∀ h', KB h h' → K (.tuple ⟨[S (s.take (pageN s)), S (pageD s)]⟩) h') :
    Sx.auto_page.n6 s f x5 (fun y2 y3 h => K (.tuple ⟨[(S y2), (S y3)]⟩) h) (fun y2 y3 h => K (.tuple ⟨[(S y2), (S y3)]⟩) h) h := by
  have hfl := scheme_le s
  have hx5 : x5.length ≤ 7 := by rw [h5]; split; exact Nat.le_refl 7; exact Nat.zero_le _
  unfold pageD at hk
  rw [← h5] at hk
  have hpn : pageN s = if domainP (s.drop f.length) = 0 then 0 else (trimP (s.take (f.length + domainP (s.drop f.length) + stopP (s.drop (f.length + domainP (s.drop f.length))))) (f.length + domainP (s.drop f.length))).length := by
    unfold pageN
    rw [if_neg hno, ← hf]
  rw [← hf] at hfl
  refine ⟨⟨by omega, by omega, by omega⟩, ?_⟩
  rw [sub_full s f.length hfl]
  refine domain_calls (by rw [List.length_drop]; omega) fun h2 k2 => vIntMk ?_
  have hdl := domain_le (s.drop f.length)
  rw [List.length_drop] at hdl
  have hcut := domain_cut (f := f.length) ht hfl
  generalize domainP (s.drop f.length) = n at *
  refine spl (fun hn => ?_) fun hn => ⟨rng64 (by omega) (by omega), ⟨by omega, by omega, by omega⟩, ?_⟩
  · have := hk h2 k2
    rw [hpn, if_pos (by omega)] at this
    exact this
  have hn0 : n ≠ 0 := by omega
  rw [if_neg hn0] at hpn
  rw [show ((n : Int) + (f.length : Int)) = ((f.length + n : Nat) : Int) by omega, sub_full s (f.length + n) (by omega)]
  obtain ⟨tx1, tx2⟩ := hcut hn0
  have hse := stop_le _ (s.drop (f.length + n)) (Nat.le_refl _)
  have htx : IsText (s.take (f.length + n + stopP (s.drop (f.length + n)))) := by
    rw [List.take_add]; exact isText_append tx1 (stop_is tx2)
  generalize hE : f.length + n = e at *
  have hld : (s.drop e).length = s.length - e := List.length_drop
  refine index_calls (by omega) fun h3 k3 => vIntMk ?_
  generalize stopP (s.drop e) = m at *
  obtain ⟨p1, p2, p3⟩ := page_trim (t := s) (e := e) (m := m) (by omega) (by omega)
  have k23 := k2.trans k3
  have fin : Sx.auto_page.n11 x5 (e : Int) (s.take (e + m)) (fun y2 y3 h => K (.tuple ⟨[(S y2), (S y3)]⟩) h) (fun y2 y3 h => K (.tuple ⟨[(S y2), (S y3)]⟩) h) h3 := by
    refine trimmed_calls (u.kb k23) htx (by rw [List.length_take]; omega) fun h4 k4 => vStrMk ?_
    have := hk h4 (k23.trans k4)
    rw [hpn, if_neg (by omega), ← p1] at this
    exact ⟨by omega, this⟩
  by_cases hm : m = (s.drop e).length
  · rw [if_pos hm]
    refine splF (by omega) ?_
    rw [List.take_of_length_le (show s.length ≤ e + m by omega)] at fin
    exact fin
  · rw [if_neg hm]
    refine splT (by omega) ⟨rng64 (by omega) (by omega), ⟨by omega, by omega, by omega⟩, ?_⟩
    rw [show ((e : Int) + (m : Int)) = ((e + m : Nat) : Int) by omega, sub_zero]
    exact fin
theorem page_calls (u : U8 h) (hs : s.length ≤ 1000000) (ht : IsText s) (hk : ∀ h', KB h h' → K (.tuple ⟨[S (s.take (pageN s)), S (pageD s)]⟩) h') : HCalls Tryd.prog 20 ⟨[S s]⟩ h K := by
  refine Sx.auto_page.ok _ _ _ (newx_var fun a h1 v1 k1 e1 s1 => ⟨4, ?_⟩)
  have fin : ∀ x4, x4 = schemeP s → Sx.auto_page.n4 s x4 [] (fun y2 y3 h => K (.tuple ⟨[(S y2), (S y3)]⟩) h) (fun y2 y3 h => K (.tuple ⟨[(S y2), (S y3)]⟩) h) h1 := by
    intro x4 e
    have hfl := scheme_le s
    rw [← e] at hfl
    refine pre_calls (vBool_mk (condB (fun ew => ⟨?_, splF ?_ ?_⟩) fun ew => ⟨?_, spl (fun e0 => ?_) fun e0 => ?_⟩))
    · show ((x4.length + 7 : Nat) : Int) ≤ _; omega
    · simp
    · exact page_tail (u.kb k1) hs ht e (by rw [show wwwP s = true from ew]; rfl) (fun hh => by rw [show wwwP s = true from ew] at hh; cases hh.2) fun h' k' => hk h' (k1.trans k')
    · show ((x4.length + 0 : Nat) : Int) ≤ _; omega
    · have hz : pageN s = 0 := by unfold pageN; rw [if_pos ⟨by rw [← e]; simpa using e0, ew⟩]
      have := hk h1 k1
      unfold pageD at this
      rw [hz] at this
      exact this
    · exact page_tail (u.kb k1) hs ht e (by rw [show wwwP s = false from ew]; rfl) (fun hh => e0 (by rw [e, hh.1]; rfl)) fun h' k' => hk h' (k1.trans k')
  have t3 : ∀ x4, x4 = schemeP s → Sx.auto_page.n14_L (fun z0 z4 z5 h => Sx.auto_page.n4 z0 z4 z5 (fun y2 y3 h => K (.tuple ⟨[(S y2), (S y3)]⟩) h) (fun y2 y3 h => K (.tuple ⟨[(S y2), (S y3)]⟩) h) h) (fun z0 z4 z5 h => Sx.auto_page.n4 z0 z4 z5 (fun y2 y3 h => K (.tuple ⟨[(S y2), (S y3)]⟩) h) (fun y2 y3 h => K (.tuple ⟨[(S y2), (S y3)]⟩) h) h) (fun y2 y3 h => K (.tuple ⟨[(S y2), (S y3)]⟩) h) 1 s x4 [] (some a) 3 3 3 3 h1 := by
    intro x4 e
    unfold Sx.auto_page.n14_L
    exact splF (by decide) (fin x4 e)
  have t2 : ∀ x4, (if wFtp.isPrefixOf s = true then wFtp else x4) = schemeP s → Sx.auto_page.n14_L (fun z0 z4 z5 h => Sx.auto_page.n4 z0 z4 z5 (fun y2 y3 h => K (.tuple ⟨[(S y2), (S y3)]⟩) h) (fun y2 y3 h => K (.tuple ⟨[(S y2), (S y3)]⟩) h) h) (fun z0 z4 z5 h => Sx.auto_page.n4 z0 z4 z5 (fun y2 y3 h => K (.tuple ⟨[(S y2), (S y3)]⟩) h) (fun y2 y3 h => K (.tuple ⟨[(S y2), (S y3)]⟩) h) h) (fun y2 y3 h => K (.tuple ⟨[(S y2), (S y3)]⟩) h) 2 s x4 [] (some a) 3 3 3 2 h1 := by
    intro x4 e
    unfold Sx.auto_page.n14_L
    refine splT (by decide) ⟨by decide, _, v1.cell 2 rfl, pre_calls (vBool_mk (condB (fun eb => ⟨rng64 (by decide) (by decide), t3 _ (by rw [← e, if_pos eb])⟩) fun eb => ⟨rng64 (by decide) (by decide), t3 _ (by rw [← e, if_neg (by rw [eb]; decide)])⟩))⟩
  have t1 : ∀ x4, (if wFtp.isPrefixOf s = true then wFtp else if wHttps.isPrefixOf s = true then wHttps else x4) = schemeP s → Sx.auto_page.n14_L (fun z0 z4 z5 h => Sx.auto_page.n4 z0 z4 z5 (fun y2 y3 h => K (.tuple ⟨[(S y2), (S y3)]⟩) h) (fun y2 y3 h => K (.tuple ⟨[(S y2), (S y3)]⟩) h) h) (fun z0 z4 z5 h => Sx.auto_page.n4 z0 z4 z5 (fun y2 y3 h => K (.tuple ⟨[(S y2), (S y3)]⟩) h) (fun y2 y3 h => K (.tuple ⟨[(S y2), (S y3)]⟩) h) h) (fun y2 y3 h => K (.tuple ⟨[(S y2), (S y3)]⟩) h) 3 s x4 [] (some a) 3 3 3 1 h1 := by
    intro x4 e
    unfold Sx.auto_page.n14_L
    refine splT (by decide) ⟨by decide, _, v1.cell 1 rfl, pre_calls (vBool_mk (condB (fun eb => ⟨rng64 (by decide) (by decide), t2 _ (by rw [if_pos (show wHttps.isPrefixOf s = true from eb)] at e; exact e)⟩) fun eb => ⟨rng64 (by decide) (by decide), t2 _ (by rw [if_neg (show ¬ wHttps.isPrefixOf s = true by rw [show wHttps.isPrefixOf s = false from eb]; decide)] at e; exact e)⟩))⟩
  show Sx.auto_page.n14_L _ _ _ 4 s [] [] (some a) 3 3 3 0 h1
  unfold Sx.auto_page.n14_L
  refine splT (by decide) ⟨by decide, _, v1.cell 0 rfl, pre_calls (vBool_mk (condB (fun eb => ⟨rng64 (by decide) (by decide), t1 _ (by unfold schemeP; rw [if_pos (show wHttp.isPrefixOf s = true from eb)])⟩) fun eb => ⟨rng64 (by decide) (by decide), t1 _ (by unfold schemeP; rw [if_neg (show ¬ wHttp.isPrefixOf s = true by rw [show wHttp.isPrefixOf s = false from eb]; decide)])⟩))⟩
end
end Go.Proofs
namespace Go.Proofs
open Go
set_option linter.unusedVariables false
theorem enc_tail2 {r : Nat} (hr : scal r) (j : Nat) (h1 : 1 ≤ j) (h2 : j < (encN r).length) : ((encN r).getD j 0).toNat < 192 := by
  unfold encN at h2 ⊢
  split at h2 <;> rename_i c1
  · simp at h2; omega
  · split at h2 <;> rename_i c2
    · rw [if_neg c1, if_pos c2]
      match j, h1, h2 with
      | 1, _, _ => show (b8 _).toNat < 192; rw [b8_nat (by omega)]; omega
      | j + 2, _, h2 => simp at h2; omega
    · split at h2 <;> rename_i c3
      · rw [if_neg c1, if_neg c2, if_pos c3]
        match j, h1, h2 with
        | 1, _, _ => show (b8 _).toNat < 192; rw [b8_nat (by omega)]; omega
        | 2, _, _ => show (b8 _).toNat < 192; rw [b8_nat (by omega)]; omega
        | j + 3, _, h2 => simp at h2; omega
      · rw [if_neg c1, if_neg c2, if_neg c3]
        match j, h1, h2 with
        | 1, _, _ => show (b8 _).toNat < 192; rw [b8_nat (by omega)]; omega
        | 2, _, _ => show (b8 _).toNat < 192; rw [b8_nat (by omega)]; omega
        | 3, _, _ => show (b8 _).toNat < 192; rw [b8_nat (by omega)]; omega
        | j + 4, _, h2 => simp at h2; omega
theorem enc_head {r : Nat} (hr : scal r) : (r < 128 ∧ encN r = [b8 r]) ∨ (128 ≤ r ∧ 192 ≤ ((encN r).getD 0 0).toNat) := by
  unfold encN
  split <;> rename_i c1
  · exact .inl ⟨c1, rfl⟩
  · refine .inr ⟨by omega, ?_⟩
    split <;> rename_i c2
    · show 192 ≤ (b8 _).toNat; rw [b8_nat (by omega)]; omega
    · split <;> rename_i c3
      · show 192 ≤ (b8 _).toNat; rw [b8_nat (by omega)]; omega
      · show 192 ≤ (b8 _).toNat
        have := hr
        unfold scal at this
        rw [b8_nat (by omega)]; omega
/-- one rune of a text, by its bytes -/
theorem text_step {s : Bs} {k : Nat} (h : IsText (s.drop k)) (hk : k < s.length) : 1 ≤ (dec (s.drop k)).2 ∧ k + (dec (s.drop k)).2 ≤ s.length ∧
    (∀ j, k + 1 ≤ j → j < k + (dec (s.drop k)).2 → 128 ≤ (s.getD j 0).toNat ∧ (s.getD j 0).toNat < 192) ∧
    (k + (dec (s.drop k)).2 < s.length → (s.getD (k + (dec (s.drop k)).2) 0).toNat < 128 ∨ 192 ≤ (s.getD (k + (dec (s.drop k)).2) 0).toNat) ∧
    IsText (s.drop (k + (dec (s.drop k)).2)) ∧ ((s.getD k 0).toNat = 60 ↔ (dec (s.drop k)).1 = 60) := by
  obtain ⟨rs, hrs, e⟩ := h
  have gd : ∀ j, (s.drop k).getD j 0 = s.getD (k + j) 0 := fun j => by
    rw [List.getD_eq_getElem?_getD, List.getD_eq_getElem?_getD, List.getElem?_drop]
  have hl : (s.drop k).length = s.length - k := List.length_drop
  cases rs with
  | nil => rw [e] at hl; simp [encs] at hl; omega
  | cons r rs =>
    have hr := hrs r (List.mem_cons_self ..)
    have hd : dec (s.drop k) = (r, (encN r).length) := by rw [e, encs_cons]; exact dec_enc hr.1 _
    have hel := enc_len r
    have hlen : (encN r).length + (encs rs).length = s.length - k := by rw [← hl, e, encs_cons, List.length_append]
    have hin : ∀ j, j < (encN r).length → s.getD (k + j) 0 = (encN r).getD j 0 := fun j hj => by
      rw [← gd j, e, encs_cons, List.getD_eq_getElem?_getD, List.getElem?_append_left hj, ← List.getD_eq_getElem?_getD]
    rw [hd]
    refine ⟨by show 1 ≤ (encN r).length; omega, by show k + (encN r).length ≤ _; omega, fun j h1 h2 => ?_, fun hlt => ?_, ?_, ?_⟩
    · have h2 : j < k + (encN r).length := h2
      have := hin (j - k) (by omega)
      rw [show k + (j - k) = j by omega] at this
      rw [this]
      exact ⟨enc_tail hr.1 _ (by omega) (by omega), enc_tail2 hr.1 _ (by omega) (by omega)⟩
    · have hlt : k + (encN r).length < s.length := hlt
      show (s.getD (k + (encN r).length) 0).toNat < 128 ∨ 192 ≤ (s.getD (k + (encN r).length) 0).toNat
      rw [← gd (encN r).length, e, encs_cons, List.getD_eq_getElem?_getD, List.getElem?_append_right (Nat.le_refl _), Nat.sub_self, ← List.getD_eq_getElem?_getD]
      cases rs with
      | nil => simp [encs] at hlen; omega
      | cons q qs =>
        have hq := hrs q (by simp)
        have hql := enc_len q
        rw [encs_cons, List.getD_eq_getElem?_getD, List.getElem?_append_left (by omega), ← List.getD_eq_getElem?_getD]
        rcases enc_head hq.1 with ⟨hlt2, he⟩ | ⟨_, hge⟩
        · rw [he]; left; show (b8 q).toNat < 128; rw [b8_nat (by omega)]; exact hlt2
        · exact .inr hge
    · show IsText (s.drop (k + (encN r).length))
      rw [← List.drop_drop, e, encs_cons, List.drop_left]
      exact ⟨rs, fun x hx => hrs x (List.mem_cons_of_mem _ hx), rfl⟩
    · show (s.getD k 0).toNat = 60 ↔ r = 60
      have h0 := hin 0 (by omega)
      rw [Nat.add_zero] at h0
      rw [h0]
      rcases enc_head hr.1 with ⟨hlt2, he⟩ | ⟨hge1, hge⟩
      · rw [he]; show (b8 r).toNat = 60 ↔ _; rw [b8_nat (by omega)]
      · constructor
        · intro h; omega
        · intro h; omega
end Go.Proofs
namespace Go.Proofs
open Go Go.Sh
set_option linter.unusedVariables false
set_option maxRecDepth 100000
section
variable {h : H} {K : Value → H → Prop} {s : Bs} {c : UInt8}
theorem skip_page {i e : Int} {w : Bool} {q : Nat} {Kx K3 K2 : Sx.r28_page.T7} {Kr : Sx.r28_page.T0} (hs : s.length ≤ 1000000) (hq : q ≤ s.length) (hend : q < s.length → (s.getD q 0).toNat < 128 ∨ 192 ≤ (s.getD q 0).toNat) (hx : Kx s i w e (q : Int) h) :
    ∀ N p, q ≤ p + N → p ≤ q → (∀ j, p ≤ j → j < q → 128 ≤ (s.getD j 0).toNat ∧ (s.getD j 0).toNat < 192) → Sx.r28_page.n19_L Kx Kx K3 K2 Kr (N + 1) s i w e (p : Int) h := by
  intro N
  have stop : ∀ M, Sx.r28_page.n19_L Kx Kx K3 K2 Kr (M + 1) s i w e (q : Int) h := by
    intro M
    unfold Sx.r28_page.n19_L
    rw [Int.toNat_natCast]
    exact spl (fun hlt => ⟨⟨by omega, by omega⟩, spl (fun h1 => ⟨⟨by omega, by omega⟩, splF (by have := hend (by omega); omega) hx⟩) fun h1 => hx⟩) fun hge => hx
  induction N with
  | zero =>
    intro p hN hp hall
    have : p = q := by omega
    subst this
    exact stop 0
  | succ N ih =>
    intro p hN hp hall
    by_cases hpq : p = q
    · subst hpq; exact stop _
    · have := hall p (Nat.le_refl _) (by omega)
      unfold Sx.r28_page.n19_L
      rw [Int.toNat_natCast]
      exact splT (by omega) ⟨⟨by omega, by omega⟩, splT (by omega) ⟨⟨by omega, by omega⟩, splT (by omega) ⟨rng64 (by omega) (by omega), ih (p + 1) (by omega) (by omega) fun j h1 h2 => hall j (by omega) h2⟩⟩⟩
theorem stop_loop {i e : Int} {w : Bool} {E : Nat} {Kx : Sx.r28_page.T7} {Kr : Sx.r28_page.T0} (hs : s.length ≤ 1000000) (hx : ∀ h', KB h h' → Kx s i w e (E : Int) h') :
    ∀ N k h1, s.length ≤ k + N → k ≤ s.length → IsText (s.drop k) → KB h h1 → k + stopP (s.drop k) = E → Sx.r28_page.n14_L Kx Kx Kr (N + 1) s i w e (k : Int) h1 := by
  intro N
  induction N with
  | zero =>
    intro k h1 hN hk ht k1 eE
    unfold Sx.r28_page.n14_L
    rw [List.drop_of_length_le (by omega), stop_nil] at eE
    refine splF (by omega) ?_
    have := hx h1 k1
    rw [show E = k by omega] at this
    exact this
  | succ N ih =>
    intro k h1 hN hk ht k1 eE
    unfold Sx.r28_page.n14_L
    refine spl (fun hlt => ⟨⟨by omega, by omega⟩, ?_⟩) fun hge => ?_
    · rw [Int.toNat_natCast]
      obtain ⟨w1, w2, w3, w4, w5, w6⟩ := text_step ht (by omega)
      have hne : s.drop k ≠ [] := fun e => by have := congrArg List.length e; rw [List.length_drop, List.length_nil] at this; omega
      have here : stopR (dec (s.drop k)).1 = true → ∀ h2, KB h h2 → Kx s i w e (k : Int) h2 := fun hr h2 k2 => by
        rw [stop_yes hne hr] at eE
        have := hx h2 k2
        rw [show E = k by omega] at this
        exact this
      refine spl (fun e60 => here ?_ h1 k1) fun e60 => rNext_calls hs fun h2 k2 => ?_
      · unfold stopR; rw [decide_eq_true (w6.1 (by omega))]; rfl
      · have k12 := k1.trans k2
        unfold nextP
        rw [if_neg (by omega), Int.toNat_natCast]
        refine vIntMk (rBlank_calls (vBool_mk (condB (fun eb => here (by unfold stopR; rw [eb, Bool.or_true]) h2 k12) fun eb => ⟨rng64 (by omega) (by omega), ⟨s.length + 1, ?_⟩⟩)))
        have hr : stopR (dec (s.drop k)).1 = false := by
          unfold stopR; rw [eb, decide_eq_false (fun h => e60 (by have := w6.2 h; omega))]; rfl
        rw [stop_no hne hr, List.drop_drop] at eE
        rw [show ((k : Int) + 1) = ((k + 1 : Nat) : Int) by omega]
        exact skip_page (q := k + (dec (s.drop k)).2) hs w2 w4 (ih _ h2 (by omega) w2 w5 k12 (by omega)) s.length (k + 1) (by omega) (by omega) w3
    · rw [List.drop_of_length_le (by omega), stop_nil] at eE
      have := hx h1 k1
      rw [show E = k by omega] at this
      exact this
end
end Go.Proofs
namespace Go.Proofs
open Go Go.Sh
set_option linter.unusedVariables false
set_option maxRecDepth 100000
section
variable {h : H} {K : Value → H → Prop} {s : Bs} {c : UInt8}
theorem pageR_tail {i : Nat} {f : Bs} {w : Bool} (hs : s.length ≤ 1000000) (hi : i ≤ s.length) (ht : IsText (s.drop i)) (hf : f = schemeP (s.drop i)) (hw : w = wwwP (s.drop i)) (hno : ¬ (schemeP (s.drop i) = [] ∧ wwwP (s.drop i) = false))
    (hk : ∀ h', KB h h' → K (.tuple ⟨[S (pageD (s.drop i)), .int .i64 ((if pageN (s.drop i) = 0 then 0 else i + pageN (s.drop i) : Nat) : Int)]⟩) h') :
    Sx.r28_page.n8 s (i : Int) ((i + f.length : Nat) : Int) w (fun y4 y5 h => K (.tuple ⟨[(S y4), (.int .i64 y5)]⟩) h) (fun y4 y5 h => K (.tuple ⟨[(S y4), (.int .i64 y5)]⟩) h) h := by
  have hfl := scheme_le (s.drop i)
  have hlt : (s.drop i).length = s.length - i := List.length_drop
  unfold pageD at hk
  rw [← hw] at hk
  have hpn : pageN (s.drop i) = if domainP ((s.drop i).drop f.length) = 0 then 0 else (trimP ((s.drop i).take (f.length + domainP ((s.drop i).drop f.length) + stopP ((s.drop i).drop (f.length + domainP ((s.drop i).drop f.length))))) (f.length + domainP ((s.drop i).drop f.length))).length := by
    unfold pageN
    rw [if_neg hno, ← hf]
  rw [← hf] at hfl
  have hdd : (s.drop i).drop f.length = s.drop (i + f.length) := List.drop_drop
  refine domainR_calls hs (by omega) fun h2 k2 => tupIB ?_
  unfold domE
  rw [domE_eq _ _ (.inr trivial), ← hdd]
  have hdl := domain_le ((s.drop i).drop f.length)
  rw [List.length_drop] at hdl
  have hcut := domain_cut (f := f.length) ht hfl
  generalize domainP ((s.drop i).drop f.length) = n at *
  have main : Sx.r28_page.n9 s (i : Int) w ((if n = 0 then 0 else i + f.length + n : Nat) : Int) (fun y4 y5 h => K (.tuple ⟨[(S y4), (.int .i64 y5)]⟩) h) (fun y4 y5 h => K (.tuple ⟨[(S y4), (.int .i64 y5)]⟩) h) h2 := by
    by_cases hn : n = 0
    · rw [if_pos hn]
      refine splT rfl ?_
      have := hk h2 k2
      rw [hpn, if_pos hn] at this
      exact this
    · rw [if_neg hn]
      rw [if_neg hn] at hpn
      refine splF (by omega) ⟨s.length + 1, ?_⟩
      obtain ⟨_, tx2⟩ := hcut hn
      have hse := stop_le _ ((s.drop i).drop (f.length + n)) (Nat.le_refl _)
      have hde : (s.drop i).drop (f.length + n) = s.drop (i + f.length + n) := by rw [List.drop_drop]; congr 1; omega
      rw [hde] at tx2 hse hpn
      rw [List.length_drop] at hse
      refine stop_loop (E := i + f.length + n + stopP (s.drop (i + f.length + n))) hs (fun h3 k3 => ?_) s.length (i + f.length + n) h2 (by omega) (by omega) tx2 (KB.refl h2) rfl
      generalize hmm : stopP (s.drop (i + f.length + n)) = m at *
      have es : sub s (i : Int) ((i + f.length + n + m : Nat) : Int) = (s.drop i).take (f.length + n + m) := by
        rw [sub_nat, List.drop_take, show i + f.length + n + m - i = f.length + n + m by omega]
      refine ⟨⟨by omega, by omega, by omega⟩, ?_⟩
      rw [es, show (((i + f.length + n : Nat) : Int) - (i : Int)) = ((f.length + n : Nat) : Int) by omega]
      obtain ⟨p1, p2, p3⟩ := page_trim (t := s.drop i) (e := f.length + n) (m := m) (by omega) (by omega)
      refine ⟨rng64 (by omega) (by omega), cutR_calls (by rw [List.length_take]; omega) (vStrMk ?_)⟩
      have := hk h3 (k2.trans k3)
      have hne : ¬ (trimP ((s.drop i).take (f.length + n + m)) (f.length + n)).length = 0 := by omega
      rw [hpn, if_neg hne, if_neg hne, ← p1] at this
      generalize trimP ((s.drop i).take (f.length + n + m)) (f.length + n) = u at *
      rw [show ((i : Int) + (u.length : Int)) = ((i + u.length : Nat) : Int) by omega]
      refine condB (fun ew => ⟨?_, rng64 (by omega) (by omega), ?_⟩) fun ew => ⟨rng64 (by omega) (by omega), ?_⟩
      · show ((7 + u.length : Nat) : Int) ≤ _; omega
      · rw [ew] at this; exact this
      · rw [ew] at this; exact this
  exact condB (fun _ => main) fun _ => main
def fv (i : Nat) (u : Bs) : Int := if u = [] then -1 else ((i + u.length : Nat) : Int)
theorem pageR_calls {i : Nat} (hs : s.length ≤ 1000000) (hi : i ≤ s.length) (ht : IsText (s.drop i))
    (hk : ∀ h', KB h h' → K (.tuple ⟨[S (pageD (s.drop i)), .int .i64 ((if pageN (s.drop i) = 0 then 0 else i + pageN (s.drop i) : Nat) : Int)]⟩) h') :
    HCalls Tryd.prog 13 ⟨[S s, .int .i64 (i : Int)]⟩ h K := by
  refine Sx.r28_page.ok _ _ _ _ (newx_var fun a h1 v1 k1 e1 s1 => ⟨4, ?_⟩)
  have fin : ∀ x4, x4 = schemeP (s.drop i) → Sx.r28_page.n5 s (i : Int) (fv i x4) (fun y4 y5 h => K (.tuple ⟨[(S y4), (.int .i64 y5)]⟩) h) (fun y4 y5 h => K (.tuple ⟨[(S y4), (.int .i64 y5)]⟩) h) h1 := by
    intro x4 e
    refine at_calls hi hs (by decide) (vBool_mk (condB (fun ew => condT (splF (by omega) ?_)) fun ew => condF (spl (fun e0 => ?_) fun e0 => ?_)))
    · have hw : wwwP (s.drop i) = true := ew
      have := pageR_tail (K := K) (h := h1) (f := []) (w := true) hs hi ht (scheme_www hw).symm hw.symm (fun hh => by rw [hw] at hh; cases hh.2) fun h' k' => hk h' (k1.trans k')
      exact this
    · have hx : x4 = [] := by
        unfold fv at e0
        by_cases hx : x4 = []
        · exact hx
        · rw [if_neg hx] at e0; omega
      have hz : pageN (s.drop i) = 0 := by unfold pageN; rw [if_pos ⟨by rw [← e]; exact hx, ew⟩]
      have := hk h1 k1
      unfold pageD at this
      rw [hz] at this
      exact this
    · have hx : x4 ≠ [] := fun hx => e0 (by unfold fv; rw [if_pos hx]; decide)
      have := pageR_tail (K := K) (h := h1) (f := x4) (w := false) hs hi ht e (show wwwP (s.drop i) = false from ew).symm (fun hh => hx (by rw [e]; exact hh.1)) fun h' k' => hk h' (k1.trans k')
      unfold fv
      rw [if_neg hx]
      exact this
  have t3 : ∀ x4, x4 = schemeP (s.drop i) → Sx.r28_page.n22_L (fun z0 z1 z7 h => Sx.r28_page.n5 z0 z1 z7 (fun y4 y5 h => K (.tuple ⟨[(S y4), (.int .i64 y5)]⟩) h) (fun y4 y5 h => K (.tuple ⟨[(S y4), (.int .i64 y5)]⟩) h) h) (fun z0 z1 z7 h => Sx.r28_page.n5 z0 z1 z7 (fun y4 y5 h => K (.tuple ⟨[(S y4), (.int .i64 y5)]⟩) h) (fun y4 y5 h => K (.tuple ⟨[(S y4), (.int .i64 y5)]⟩) h) h) (fun y4 y5 h => K (.tuple ⟨[(S y4), (.int .i64 y5)]⟩) h) 1 s (i : Int) (some a) 3 3 (fv i x4) 3 h1 := by
    intro x4 e
    unfold Sx.r28_page.n22_L
    exact splF (by decide) (fin x4 e)
  have t2 : ∀ x4, (if wFtp.isPrefixOf (s.drop i) = true then wFtp else x4) = schemeP (s.drop i) → Sx.r28_page.n22_L (fun z0 z1 z7 h => Sx.r28_page.n5 z0 z1 z7 (fun y4 y5 h => K (.tuple ⟨[(S y4), (.int .i64 y5)]⟩) h) (fun y4 y5 h => K (.tuple ⟨[(S y4), (.int .i64 y5)]⟩) h) h) (fun z0 z1 z7 h => Sx.r28_page.n5 z0 z1 z7 (fun y4 y5 h => K (.tuple ⟨[(S y4), (.int .i64 y5)]⟩) h) (fun y4 y5 h => K (.tuple ⟨[(S y4), (.int .i64 y5)]⟩) h) h) (fun y4 y5 h => K (.tuple ⟨[(S y4), (.int .i64 y5)]⟩) h) 2 s (i : Int) (some a) 3 3 (fv i x4) 2 h1 := by
    intro x4 e
    unfold Sx.r28_page.n22_L
    refine splT (by decide) ⟨by decide, _, v1.cell 2 rfl, at_calls hi hs (by decide) (vBool_mk (condB (fun eb => ⟨by decide, _, v1.cell 2 rfl, rng64 (by simp; omega) (by simp; omega), rng64 (by decide) (by decide), t3 wFtp (by rw [← e, if_pos eb])⟩) fun eb => ⟨rng64 (by decide) (by decide), t3 _ (by rw [← e, if_neg (by rw [eb]; decide)])⟩))⟩
  have t1 : ∀ x4, (if wFtp.isPrefixOf (s.drop i) = true then wFtp else if wHttps.isPrefixOf (s.drop i) = true then wHttps else x4) = schemeP (s.drop i) → Sx.r28_page.n22_L (fun z0 z1 z7 h => Sx.r28_page.n5 z0 z1 z7 (fun y4 y5 h => K (.tuple ⟨[(S y4), (.int .i64 y5)]⟩) h) (fun y4 y5 h => K (.tuple ⟨[(S y4), (.int .i64 y5)]⟩) h) h) (fun z0 z1 z7 h => Sx.r28_page.n5 z0 z1 z7 (fun y4 y5 h => K (.tuple ⟨[(S y4), (.int .i64 y5)]⟩) h) (fun y4 y5 h => K (.tuple ⟨[(S y4), (.int .i64 y5)]⟩) h) h) (fun y4 y5 h => K (.tuple ⟨[(S y4), (.int .i64 y5)]⟩) h) 3 s (i : Int) (some a) 3 3 (fv i x4) 1 h1 := by
    intro x4 e
    unfold Sx.r28_page.n22_L
    refine splT (by decide) ⟨by decide, _, v1.cell 1 rfl, at_calls hi hs (by decide) (vBool_mk (condB (fun eb => ⟨by decide, _, v1.cell 1 rfl, rng64 (by simp; omega) (by simp; omega), rng64 (by decide) (by decide), t2 wHttps (by rw [if_pos (show wHttps.isPrefixOf (s.drop i) = true from eb)] at e; exact e)⟩) fun eb => ⟨rng64 (by decide) (by decide), t2 _ (by rw [if_neg (show ¬ wHttps.isPrefixOf (s.drop i) = true by rw [show wHttps.isPrefixOf (s.drop i) = false from eb]; decide)] at e; exact e)⟩))⟩
  show Sx.r28_page.n22_L _ _ _ 4 s (i : Int) (some a) 3 3 (fv i []) 0 h1
  unfold Sx.r28_page.n22_L
  refine splT (by decide) ⟨by decide, _, v1.cell 0 rfl, at_calls hi hs (by decide) (vBool_mk (condB (fun eb => ⟨by decide, _, v1.cell 0 rfl, rng64 (by simp; omega) (by simp; omega), rng64 (by decide) (by decide), t1 wHttp (by unfold schemeP; rw [if_pos (show wHttp.isPrefixOf (s.drop i) = true from eb)])⟩) fun eb => ⟨rng64 (by decide) (by decide), t1 _ (by unfold schemeP; rw [if_neg (show ¬ wHttp.isPrefixOf (s.drop i) = true by rw [show wHttp.isPrefixOf (s.drop i) = false from eb]; decide)])⟩))⟩
end
end Go.Proofs
