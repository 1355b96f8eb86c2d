/- auto: addresses, plain. No program. No condition. auto: the walks of the small functions. No condition. auto: domain of the program. No condition. auto: texts cut at plain bytes; what is trimmed. Plain, no program. No condition. auto: trimmed of the program: the walk. No condition but that the library's tables hold what they hold. auto: trimmed of the program, cut of the chapter. No condition but that the library's tables hold what they hold. -/
import Derived.Test.YtpkicfcnhgnejaaDoorUtD
import Derived.Test.YtpkicfcnhgnejaaDoorCpB
import Derived.Test.YtpkicfcnhgnejaaDoorTxB
import Derived.Test.YtpkicfcnhgnejaaDoorTxC
import Derived.Test.YtpkicfcnhgnejaaDoorWalkClassR
import Derived.Test.YtpkicfcnhgnejaaDoorHmH
import Derived.Test.YtpkicfcnhgnejaaDoorUtR
namespace Go.Proofs
open Go
set_option linter.unusedVariables false
/-! ### bytes -/
def wordB (c : UInt8) : Bool := (decide (97 ≤ c.toNat ∧ c.toNat ≤ 122) || decide (65 ≤ c.toNat ∧ c.toNat ≤ 90)) || decide (48 ≤ c.toNat ∧ c.toNat ≤ 57)
def hostB (c : UInt8) : Bool := wordB c || (decide (c = 45) || decide (c = 95))
def userB (c : UInt8) : Bool := wordB c || decide (c ∈ ([46, 43, 95, 45] : Bs))
theorem word_lt {c : UInt8} (h : wordB c = true) : c.toNat < 128 := by
  unfold wordB at h
  simp only [Bool.or_eq_true, decide_eq_true_eq] at h
  omega
theorem host_lt {c : UInt8} (h : hostB c = true) : c.toNat < 128 := by
  unfold hostB at h
  simp only [Bool.or_eq_true, decide_eq_true_eq] at h
  rcases h with h | h | h
  · exact word_lt h
  · subst h; decide
  · subst h; decide
theorem user_lt {c : UInt8} (h : userB c = true) : c.toNat < 128 := by
  unfold userB at h
  simp only [Bool.or_eq_true, decide_eq_true_eq] at h
  rcases h with h | h
  · exact word_lt h
  · simp only [List.mem_cons, List.not_mem_nil, or_false] at h
    rcases h with rfl | rfl | rfl | rfl <;> decide
/-- how far bytes go that may -/
def spanP (p : UInt8 → Bool) : Bs → Nat
  | [] => 0
  | x :: t => if p x = true then spanP p t + 1 else 0
theorem span_le (p : UInt8 → Bool) : ∀ l : Bs, spanP p l ≤ l.length
  | [] => Nat.le_refl _
  | x :: t => by unfold spanP; split <;> simp [span_le p t]
theorem span_all (p : UInt8 → Bool) : ∀ (l : Bs) (j : Nat), j < spanP p l → p (l.getD j 0) = true
  | [], j, h => by simp [spanP] at h
  | x :: t, j, h => by
    unfold spanP at h
    split at h
    · rename_i e
      cases j with
      | zero => simpa using e
      | succ j => have := span_all p t j (by omega); simpa using this
    · omega
theorem span_stop (p : UInt8 → Bool) : ∀ l : Bs, spanP p l < l.length → p (l.getD (spanP p l) 0) = false
  | [], h => by simp [spanP] at h
  | x :: t, h => by
    unfold spanP at h ⊢
    by_cases e : p x = true
    · rw [if_pos e] at h ⊢
      have := span_stop p t (by simpa using h)
      simpa using this
    · rw [if_neg e]; simpa using e
theorem span_eq (p : UInt8 → Bool) {l : Bs} {n : Nat} (h1 : n ≤ l.length) (h2 : ∀ j, j < n → p (l.getD j 0) = true) (h3 : n < l.length → p (l.getD n 0) = false) : spanP p l = n := by
  have ha := span_le p l
  rcases Nat.lt_trichotomy (spanP p l) n with h | h | h
  · have := span_stop p l (by omega)
    rw [h2 _ h] at this; cases this
  · exact h
  · have := span_all p l n h
    rw [h3 (by omega)] at this; cases this
/-! ### domains -/
def domGo : Nat → Bs → List Bs × Nat
  | 0, _ => ([], 0)
  | k + 1, t =>
    if spanP hostB t = 0 then ([], 0)
    else if (t.drop (spanP hostB t)).head? = some 46 ∧ spanP hostB (t.drop (spanP hostB t + 1)) ≠ 0 then
      (t.take (spanP hostB t) :: (domGo k (t.drop (spanP hostB t + 1))).1, spanP hostB t + 1 + (domGo k (t.drop (spanP hostB t + 1))).2)
    else ([t.take (spanP hostB t)], spanP hostB t)
def domP (t : Bs) : List Bs × Nat := domGo t.length t
theorem domGo_more : ∀ (k : Nat) (t : Bs), t.length ≤ k → domGo k t = domGo t.length t
  | 0, t, h => by rw [show t.length = 0 by omega]
  | k + 1, t, h => by
    by_cases e : t.length = k + 1
    · rw [e]
    · have hz : ∀ t : Bs, t.length = 0 → spanP hostB t = 0 := fun t h => by have := span_le hostB t; omega
      cases hl : t.length with
      | zero =>
        unfold domGo
        rw [if_pos (hz t hl)]
      | succ m =>
        have ih : ∀ r : Bs, r.length ≤ m → domGo k r = domGo m r := fun r hr => by rw [domGo_more k r (by omega), domGo_more m r (by omega)]
        unfold domGo
        rw [ih _ (by rw [List.length_drop]; omega)]
theorem domP_zero {t : Bs} (h : spanP hostB t = 0) : domP t = ([], 0) := by
  unfold domP
  cases t.length with
  | zero => rfl
  | succ k => unfold domGo; rw [if_pos h]
theorem domP_dot {t : Bs} (h : spanP hostB t ≠ 0) (hd : (t.drop (spanP hostB t)).head? = some 46) (hn : spanP hostB (t.drop (spanP hostB t + 1)) ≠ 0) :
    domP t = (t.take (spanP hostB t) :: (domP (t.drop (spanP hostB t + 1))).1, spanP hostB t + 1 + (domP (t.drop (spanP hostB t + 1))).2) := by
  unfold domP
  have hl := span_le hostB t
  obtain ⟨k, hk⟩ : ∃ k, t.length = k + 1 := ⟨t.length - 1, by omega⟩
  rw [hk]
  have e : domGo k (t.drop (spanP hostB t + 1)) = domGo (t.drop (spanP hostB t + 1)).length (t.drop (spanP hostB t + 1)) := domGo_more k _ (by rw [List.length_drop]; omega)
  conv => lhs; unfold domGo
  rw [if_neg h, if_pos ⟨hd, hn⟩, e]
theorem domP_end {t : Bs} (h : spanP hostB t ≠ 0) (hd : ¬ ((t.drop (spanP hostB t)).head? = some 46 ∧ spanP hostB (t.drop (spanP hostB t + 1)) ≠ 0)) : domP t = ([t.take (spanP hostB t)], spanP hostB t) := by
  unfold domP
  have hl := span_le hostB t
  obtain ⟨k, hk⟩ : ∃ k, t.length = k + 1 := ⟨t.length - 1, by omega⟩
  rw [hk]
  unfold domGo
  rw [if_neg h, if_neg hd]
/-- has a part a line below? -/
def lineB (u : Bs) : Bool := decide ((95 : UInt8) ∈ u)
/-- of the parts: may it be a domain? -/
def domOk (ps : List Bs) : Bool := decide (2 ≤ ps.length) && (!lineB (ps.getD (ps.length - 1) []) && !lineB (ps.getD (ps.length - 2) []))
def domainP (t : Bs) : Nat := if domOk (domP t).1 = true then (domP t).2 else 0
def anyP (t : Bs) : Bool := if domOk (domP t).1 = true then (domP t).1.any lineB else false
end Go.Proofs
namespace Go.Proofs
open Go Go.Sh
set_option linter.unusedVariables false
set_option maxRecDepth 100000
theorem wordB_eq (c : UInt8) : wordB c = (Tryd.letterI (c.toNat : Int) || Tryd.digitI (c.toNat : Int)) := by
  unfold wordB Tryd.letterI Tryd.digitI
  rw [Bool.eq_iff_iff]
  simp only [Bool.or_eq_true, decide_eq_true_eq]
  omega
theorem indexByte_ge (l : Bs) (c : UInt8) : -1 ≤ Lib.indexByte l c := by
  induction l with
  | nil => show (-1 : Int) ≤ -1; omega
  | cons y t ih =>
    unfold Lib.indexByte
    split
    · omega
    · split
      · omega
      · rename_i e2
        have : ¬ Lib.indexByte t c = -1 := by simpa using e2
        omega
theorem indexByte_mem (l : Bs) (c : UInt8) : decide (0 ≤ Lib.indexByte l c) = decide (c ∈ l) := by
  induction l with
  | nil => rfl
  | cons x t ih =>
    have hge := indexByte_ge t c
    unfold Lib.indexByte
    by_cases h : x = c
    · subst h; simp
    · have hne : ¬ c = x := fun e => h e.symm
      have hb : (x == c) = false := by simpa using h
      rw [Bool.eq_iff_iff] at ih ⊢
      simp only [decide_eq_true_eq] at ih ⊢
      rw [hb]
      simp only [List.mem_cons, hne, false_or, ← ih]
      by_cases e : Lib.indexByte t c = -1
      · rw [e]; decide
      · have eb : (Lib.indexByte t c == -1) = false := by simpa using e
        rw [eb]
        show (0 ≤ Lib.indexByte t c + 1) ↔ _
        omega
section
variable {h : H} {K : Value → H → Prop} {s : Bs} {c : UInt8}
theorem letterC (hk : K (.bool (Tryd.letterI (c.toNat : Int))) h) : HCalls Tryd.prog 64 ⟨[.int .u8 (c.toNat : Int)]⟩ h K := hcalls_eq (fun w _ => Tryd.letter_any _ (by omega) (by have := u8_lt c; omega) w) hk
theorem digitC (hk : K (.bool (Tryd.digitI (c.toNat : Int))) h) : HCalls Tryd.prog 65 ⟨[.int .u8 (c.toNat : Int)]⟩ h K := hcalls_eq (fun w _ => Tryd.digit_any _ (by omega) (by have := u8_lt c; omega) w) hk
theorem letterR (hk : K (.bool (Tryd.letterI (c.toNat : Int))) h) : HCalls Tryd.prog 44 ⟨[.int .u8 (c.toNat : Int)]⟩ h K := hcalls_eq (fun w _ => Tryd.letter_ref _ w) hk
theorem digitR (hk : K (.bool (Tryd.digitI (c.toNat : Int))) h) : HCalls Tryd.prog 45 ⟨[.int .u8 (c.toNat : Int)]⟩ h K := hcalls_eq (fun w _ => Tryd.digit_ref _ w) hk
theorem word_calls (hk : K (.bool (wordB c)) h) : HCalls Tryd.prog 55 ⟨[.int .u8 (c.toNat : Int)]⟩ h K := by
  rw [wordB_eq] at hk
  exact Sx.auto_word.ok _ _ _ (letterC (vBool_mk (condB (fun e => by rw [e] at hk; exact hk) fun e => digitC (vBool_mk (condK (K := fun b => K (.bool b) h) (by rw [e] at hk; exact hk))))))
theorem alnum_calls (hk : K (.bool (wordB c)) h) : HCalls Tryd.prog 27 ⟨[.int .u8 (c.toNat : Int)]⟩ h K := by
  rw [wordB_eq] at hk
  exact Sx.r28_alnum.ok _ _ _ (letterR (vBool_mk (condB (fun e => by rw [e] at hk; exact hk) fun e => digitR (vBool_mk (condK (K := fun b => K (.bool b) h) (by rw [e] at hk; exact hk))))))
theorem host_calls (hk : K (.bool (hostB c)) h) : HCalls Tryd.prog 49 ⟨[.int .u8 (c.toNat : Int)]⟩ h K := by
  unfold hostB at hk
  refine Sx.auto_host.ok _ _ _ (word_calls (vBool_mk (condB (fun e => by rw [e] at hk; exact hk) fun e => ?_)))
  rw [e] at hk
  refine spl (fun e1 => ?_) fun e1 => spl (fun e2 => ?_) fun e2 => ?_
  · rw [decide_eq_true (show c = 45 from UInt8.toNat_inj.1 (by show c.toNat = 45; omega))] at hk; exact hk
  · rw [decide_eq_true (show c = 95 from UInt8.toNat_inj.1 (by show c.toNat = 95; omega)), Bool.or_true] at hk; exact hk
  · rw [decide_eq_false (show ¬ c = 45 from fun hc => e1 (by rw [hc]; rfl)), decide_eq_false (show ¬ c = 95 from fun hc => e2 (by rw [hc]; rfl))] at hk; exact hk
theorem ixb_calls {l : Bs} (hk : ∀ i : Int, (i ≥ 0 ↔ c ∈ l) → K (.int .i64 i) h) : HCalls Tryd.prog 19 ⟨[S l, .int .u8 (c.toNat : Int)]⟩ h K := by
  refine hcalls_of (v := .int .i64 (Lib.indexByte l c)) (fun w _ => ?_) (hk _ ?_)
  · have := Tryd.strings_IndexByte ⟨⟨l⟩⟩ (c.toNat : Int) w
    have e : ((c.toNat : Int).toNat.toUInt8) = c := by rw [Int.toNat_natCast]; exact UInt8.ofNat_toNat
    rw [e] at this
    exact this
  · have := indexByte_mem l c
    rw [Bool.eq_iff_iff] at this
    simpa using this
theorem user_calls (hk : K (.bool (userB c)) h) : HCalls Tryd.prog 39 ⟨[.int .u8 (c.toNat : Int)]⟩ h K := by
  unfold userB at hk
  refine Sx.auto_user.ok _ _ _ (word_calls (vBool_mk (condB (fun e => by rw [e] at hk; exact hk) fun e => ixb_calls fun i hi => vIntMk ?_)))
  rw [e] at hk
  refine spl (fun e1 => ?_) fun e1 => ?_
  · rw [decide_eq_true (hi.1 e1)] at hk; exact hk
  · rw [decide_eq_false (fun hm => e1 (hi.2 hm))] at hk; exact hk
/-- a function's value that tells a byte's kind -/
def Tells (f : Value) (p : UInt8 → Bool) : Prop := ∀ (c : UInt8) (h : H) (K : Value → H → Prop), K (.bool (p c)) h → CallV Tryd.prog 4 f ⟨[.int .u8 (c.toNat : Int)]⟩ h K
theorem tells_host : Tells (.func (.func 49) ⟨[]⟩ ⟨[]⟩) hostB := fun c h K hk =>
  callV_ok Tryd.func49 (by kernel_rfl) (host_calls (decBool (by kernel_rfl) hk))
theorem tells_user : Tells (.func (.func 39) ⟨[]⟩ ⟨[]⟩) userB := fun c h K hk =>
  callV_ok Tryd.func39 (by kernel_rfl) (user_calls (decBool (by kernel_rfl) hk))
theorem run_calls {f : Value} {p : UInt8 → Bool} (hf : Tells f p) (hs : s.length ≤ 1000000000) (hk : K (.int .i64 (spanP p s : Int)) h) : HCalls Tryd.prog 38 ⟨[S s, f]⟩ h K := by
  have hle := span_le p s
  refine Sx.auto_run.ok _ _ _ _ ⟨s.length + 1, ?_⟩
  have key : ∀ N i, i + N = s.length → i ≤ spanP p s → Sx.auto_run.n6_L (fun z0 h => Sx.auto_run.n3 z0 (fun y4 h => K (.int .i64 y4) h) (fun y4 h => K (.int .i64 y4) h) h) (fun z0 h => Sx.auto_run.n3 z0 (fun y4 h => K (.int .i64 y4) h) (fun y4 h => K (.int .i64 y4) h) h) (fun y4 h => K (.int .i64 y4) h) (N + 1) s f (s.length : Int) (i : Int) h := by
    intro N
    induction N with
    | zero =>
      intro i hi hp
      unfold Sx.auto_run.n6_L
      refine splF (by omega) (condF ?_)
      show K (.int .i64 (s.length : Int)) h
      rw [show s.length = spanP p s by omega]; exact hk
    | succ N ih =>
      intro i hi hp
      unfold Sx.auto_run.n6_L
      refine splT (by omega) (condT ⟨⟨by omega, by omega⟩, hf _ _ _ (vBool_mk (condB (fun e => ⟨rng64 (by omega) (by omega), ih (i + 1) (by omega) ?_⟩) fun e => ?_))⟩)
      · rw [Int.toNat_natCast] at e
        by_cases hx : i < spanP p s
        · omega
        · have := span_stop p s (by omega)
          rw [show spanP p s = i by omega, e] at this; cases this
      · rw [Int.toNat_natCast] at e
        by_cases hx : i < spanP p s
        · have := span_all p s i hx
          rw [e] at this; cases this
        · show K (.int .i64 (i : Int)) h
          rw [show i = spanP p s by omega]; exact hk
  exact key s.length 0 (by omega) (by omega)
theorem in_calls {l : Bs} (hl : l.length ≤ 1000000) (hk : K (.bool (decide (c ∈ l))) h) : HCalls Tryd.prog 28 ⟨[.int .u8 (c.toNat : Int), S l]⟩ h K := by
  refine Sx.r28_in.ok _ _ _ _ ⟨l.length + 1, ?_⟩
  have key : ∀ N i, i + N = l.length → (∀ j, j < i → l.getD j 0 ≠ c) → Sx.r28_in.n6_L (fun h => Sx.r28_in.n3 (fun y4 h => K (.bool y4) h) (fun y4 h => K (.bool y4) h) h) (fun h => Sx.r28_in.n3 (fun y4 h => K (.bool y4) h) (fun y4 h => K (.bool y4) h) h) (fun y4 h => K (.bool y4) h) (N + 1) (c.toNat : Int) l (i : Int) h := by
    intro N
    induction N with
    | zero =>
      intro i hi hall
      unfold Sx.r28_in.n6_L
      refine splF (by omega) ?_
      rw [decide_eq_false (fun hm => ?_)] at hk
      · exact hk
      · obtain ⟨j, hj, e⟩ := List.getElem_of_mem hm
        exact hall j (by omega) (by rw [getD_get hj]; exact e)
    | succ N ih =>
      intro i hi hall
      have hil : i < l.length := by omega
      unfold Sx.r28_in.n6_L
      refine splT (by omega) ⟨⟨by omega, by omega⟩, ?_⟩
      rw [Int.toNat_natCast]
      refine spl (fun e => ?_) fun e => ⟨rng64 (by omega) (by omega), ih (i + 1) (by omega) fun j hj => ?_⟩
      · have e2 : l.getD i 0 = c := UInt8.toNat_inj.1 (by omega)
        rw [decide_eq_true (by rw [← e2, getD_get hil]; exact List.getElem_mem hil)] at hk
        exact hk
      · by_cases e3 : j = i
        · subst e3; exact fun e2 => e (by rw [e2])
        · exact hall j (by omega)
  exact key l.length 0 (by omega) fun j hj => absurd hj (Nat.not_lt_zero _)
theorem count_calls (hs : s.length ≤ 1000000) (hk : K (.int .i64 (s.countP (fun x => decide (x = c)) : Int)) h) : HCalls Tryd.prog 43 ⟨[S s, .int .u8 (c.toNat : Int)]⟩ h K := by
  refine Sx.r28_count.ok _ _ _ _ ⟨s.length + 1, ?_⟩
  have key : ∀ N i m, i + N = s.length → m = (s.take i).countP (fun x => decide (x = c)) → Sx.r28_count.n7_L (fun z5 h => Sx.r28_count.n4 z5 (fun y4 h => K (.int .i64 y4) h) (fun y4 h => K (.int .i64 y4) h) h) (fun z5 h => Sx.r28_count.n4 z5 (fun y4 h => K (.int .i64 y4) h) (fun y4 h => K (.int .i64 y4) h) h) (fun y4 h => K (.int .i64 y4) h) (N + 1) s (c.toNat : Int) (m : Int) (i : Int) h := by
    intro N
    induction N with
    | zero =>
      intro i m hi hm
      unfold Sx.r28_count.n7_L
      rw [List.take_of_length_le (by omega)] at hm
      subst hm
      exact splF (by omega) hk
    | succ N ih =>
      intro i m hi hm
      have hil : i < s.length := by omega
      have hml : m ≤ i := by rw [hm]; exact Nat.le_trans List.countP_le_length (by rw [List.length_take]; omega)
      have e1 : (s.take (i + 1)).countP (fun x => decide (x = c)) = m + if s.getD i 0 = c then 1 else 0 := by
        rw [List.take_add_one, List.getElem?_eq_getElem hil, List.countP_append, hm, getD_get hil]
        simp [List.countP_cons]
      unfold Sx.r28_count.n7_L
      refine splT (by omega) ⟨⟨by omega, by omega⟩, ?_⟩
      rw [Int.toNat_natCast]
      refine spl (fun e => ⟨rng64 (by omega) (by omega), rng64 (by omega) (by omega), ih (i + 1) (m + 1) (by omega) ?_⟩) fun e => ⟨rng64 (by omega) (by omega), ih (i + 1) m (by omega) ?_⟩
      · rw [e1, if_pos (UInt8.toNat_inj.1 (by omega))]
      · rw [e1, if_neg (fun e2 => e (by rw [e2]))]; rfl
  exact key s.length 0 0 (by omega) rfl
theorem at_calls {what : Bs} {i : Nat} (hi : i ≤ s.length) (hs : s.length ≤ 1000000) (hw : what.length ≤ 1000) (hk : K (.bool (what.isPrefixOf (s.drop i))) h) : HCalls Tryd.prog 23 ⟨[S s, .int .i64 (i : Int), S what]⟩ h K := by
  have hp : ∀ b : Bool, (b = true ↔ what <+: s.drop i) → K (.bool b) h := fun b hb => by
    have : what.isPrefixOf (s.drop i) = b := by rw [Bool.eq_iff_iff, List.isPrefixOf_iff_prefix, hb]
    rw [← this]; exact hk
  refine Sx.r28_at.ok _ _ _ _ _ ⟨rng64 (by omega) (by omega), spl (fun e => ⟨rng64 (by omega) (by omega), ⟨by omega, by omega, by omega⟩, ?_⟩) fun e => hp false ⟨fun h => (by cases h), fun hpre => ?_⟩⟩
  · have es : sub s (i : Int) ((i : Int) + (what.length : Int)) = (s.drop i).take what.length := by
      rw [show ((i : Int) + (what.length : Int)) = ((i + what.length : Nat) : Int) by omega, sub_nat, List.drop_take, Nat.add_sub_cancel_left]
    rw [es]
    refine spl (fun e2 => hp true ⟨fun _ => ?_, fun _ => rfl⟩) fun e2 => hp false ⟨fun h => (by cases h), fun hpre => absurd ?_ e2⟩
    · rw [← e2]; exact List.take_prefix _ _
    · exact (List.prefix_iff_eq_take.1 hpre).symm
  · have := hpre.length_le
    rw [List.length_drop] at this
    omega
end
end Go.Proofs
namespace Go.Proofs
open Go Go.Sh
set_option linter.unusedVariables false
set_option maxRecDepth 100000
theorem apdStr : Apd Tryd.prog elStr 46 9 16 := apd_of (sz := 1) (by kernel_rfl) rfl
theorem add_g (g k : Nat) : (⟨g, 0, none⟩ : Addr).add k = ⟨g, k, none⟩ := by
  unfold Addr.add
  by_cases h : k = 0
  · subst h; rfl
  · simp [h]
theorem flatStr : Flat elStr := fun _ _ _ _ _ _ h => h
section
variable {h : H} {K : Value → H → Prop} {s : Bs} {c : UInt8}
theorem pre_calls {t : Bs} (hk : K (.bool (t.isPrefixOf s)) h) : HCalls Tryd.prog 33 ⟨[S s, S t]⟩ h K :=
  hcalls_of (v := .bool (t.isPrefixOf s)) (fun w _ => Tryd.strings_HasPrefix ⟨⟨s⟩⟩ ⟨⟨t⟩⟩ w) hk
theorem contains_calls {l : Bs} (hk : K (.bool (decide (c ∈ l))) h) : HCalls Tryd.prog 40 ⟨[S l, S [c]]⟩ h K := by
  refine hcalls_of (v := .bool (decide (c ∈ l))) (fun w _ => ?_) hk
  have := Tryd.strings_Contains_one ⟨⟨l⟩⟩ c w
  rw [indexByte_mem] at this
  exact this
theorem join2_calls {base n cp : Nat} {b : Option Addr} {l : List Bs} (o : OwnF elStr h base 9 b (n + 2) cp l) (hl : ∀ x ∈ l, x.length ≤ 1000000) (hk : ∀ h', KB h h' → K (S (l.getD n [] ++ l.getD (n + 1) [])) h') :
    HCalls Tryd.prog 50 ⟨[.slice (if cp = n then b else Option.map (fun q => q.add (n * 1)) b) (n + 2 - n) (cp - n), S []]⟩ h K := by
  have r := o.row
  have hln := o.own.len
  have hcap := r.cap
  obtain ⟨xs, h1, h2⟩ := o.own.own
  rcases h1.lt with ⟨h0, _⟩ | ⟨g, rfl, hb, hlt⟩
  · omega
  rw [if_neg (show ¬ cp = n by omega)]
  have i1 : n < l.length := by omega
  have i2 : n + 1 < l.length := by omega
  rw [getD_get i1, getD_get i2] at hk
  obtain ⟨a1, e1, hA1⟩ := r.at' n _ (List.getElem?_eq_getElem i1)
  obtain ⟨a2, e2, hA2⟩ := r.at' (n + 1) _ (List.getElem?_eq_getElem i2)
  cases e1; cases e2
  obtain ⟨_, cs1, ⟨rfl, _⟩, hc1⟩ := hA1
  obtain ⟨_, cs2, ⟨rfl, _⟩, hc2⟩ := hA2
  have g1 := hc1 0 _ rfl
  have g2 := hc2 0 _ rfl
  rw [add_add, add_g] at g1 g2
  have z1 : n * elStr.sz + 0 = n + 0 := by show n * 1 + 0 = _; omega
  have z2 : (n + 1) * elStr.sz + 0 = n + 1 := by show (n + 1) * 1 + 0 = _; omega
  rw [z1] at g1
  rw [z2] at g2
  have l1 := hl _ (List.getElem_mem i1)
  have l2 := hl _ (List.getElem_mem i2)
  have en : n + 2 - n = 2 := by omega
  rw [en, Option.map_some, add_g, Nat.mul_one]
  generalize hu1 : l[n] = u1 at *
  generalize hu2 : l[n + 1] = u2 at *
  have e : Lib.join [u1, u2] [] = u1 ++ u2 := by simp [Lib.join]
  refine hcalls_below (v := S (u1 ++ u2)) (fun w hw => ?_) hk
  have t := Tryd.strings_Join g n (cp - n) [⟨⟨u1⟩⟩, ⟨⟨u2⟩⟩] ⟨⟨[]⟩⟩ w (fun j x hx => by
    rw [cell_eq, hw]
    match j, hx with
    | 0, hx => cases hx; exact g1
    | 1, hx => cases hx; exact g2) (by rw [hw]; exact hlt) (by show 2 ≤ 140737488355328; omega) (by show 2 ≤ _; omega) (by show (Lib.join [u1, u2] []).length ≤ _; rw [e, List.length_append]; omega)
  have e2 : (Lib.join (List.map (fun (x : ByteArray) => x.data.toList) [⟨⟨u1⟩⟩, ⟨⟨u2⟩⟩]) (⟨⟨[]⟩⟩ : ByteArray).data.toList) = u1 ++ u2 := e
  rw [e2] at t
  exact t
theorem dot_head (t : Bs) : ([46] : Bs).isPrefixOf t = decide (t.head? = some 46) := by
  cases t with
  | nil => rfl
  | cons x t =>
    rw [Bool.eq_iff_iff]
    simp [List.isPrefixOf]
    exact eq_comm
theorem mem_lastTwo {ps : List Bs} {n : Nat} (h : ps.length = n + 2) : domOk ps = !decide ((95 : UInt8) ∈ ps.getD n [] ++ ps.getD (n + 1) []) := by
  unfold domOk lineB
  rw [h, show n + 2 - 1 = n + 1 by omega, show n + 2 - 2 = n by omega, decide_eq_true (show 2 ≤ n + 2 by omega), Bool.true_and]
  rw [Bool.eq_iff_iff]
  simp only [Bool.and_eq_true, Bool.not_eq_true', decide_eq_false_iff_not, List.mem_append, not_or]
  exact and_comm
theorem domain_calls (hs : s.length ≤ 1000000) (hk : ∀ h', KB h h' → K (.int .i64 (domainP s : Int)) h') : HCalls Tryd.prog 34 ⟨[S s]⟩ h K := by
  refine Sx.auto_domain.ok _ _ _ ⟨s.length + 1, ?_⟩
  have fin : ∀ (n : Nat) h1 ob on oc (out : List Bs), KB h h1 → OwnF elStr h1 h.size 9 ob on oc out → domP s = (out, n) → (∀ x ∈ out, x.length ≤ 1000000) → Sx.auto_domain.n5 ob on oc (n : Int) (fun y2 h => K (.int .i64 y2) h) (fun y2 h => K (.int .i64 y2) h) h1 := by
    intro n h1 ob on oc out k1 o1 e hx
    have hol := o1.own.len
    have hcap := o1.row.cap
    have hmx := o1.row.max
    simp only [maxLen] at hmx
    unfold domainP at hk
    rw [e] at hk
    by_cases h2 : on < 2
    · refine splT (by omega) ?_
      have : domOk out = false := by unfold domOk; rw [decide_eq_false (by omega)]; rfl
      have hk2 := hk h1 k1
      rw [this] at hk2
      exact hk2
    · obtain ⟨m, rfl⟩ : ∃ m, on = m + 2 := ⟨on - 2, by omega⟩
      refine splF (by omega) ⟨rng64 (by omega) (by omega), ⟨by omega, by omega, by omega⟩, ?_⟩
      rw [show (((m + 2 : Nat) : Int) - 2) = (m : Int) by omega, Int.toNat_natCast, Int.toNat_natCast]
      refine join2_calls o1 hx fun h2 k2 => vStrMk (contains_calls (vBool_mk ?_))
      have hk2 := hk h2 (k1.trans k2)
      rw [mem_lastTwo hol] at hk2
      exact condB (fun e => by rw [e] at hk2; exact hk2) fun e => by rw [e] at hk2; exact hk2
  have key : ∀ N n h1 ob on oc (out : List Bs), s.length ≤ n + N → n ≤ s.length → KB h h1 → OwnF elStr h1 h.size 9 ob on oc out → domP s = (out ++ (domP (s.drop n)).1, n + (domP (s.drop n)).2) → out.length ≤ n → (∀ x ∈ out, x.length ≤ 1000000) →
      Sx.auto_domain.n7_L (fun z3b z3n z3c z4 h => Sx.auto_domain.n5 z3b z3n z3c z4 (fun y2 h => K (.int .i64 y2) h) (fun y2 h => K (.int .i64 y2) h) h) (fun z3b z3n z3c z4 h => Sx.auto_domain.n5 z3b z3n z3c z4 (fun y2 h => K (.int .i64 y2) h) (fun y2 h => K (.int .i64 y2) h) h) (fun y2 h => K (.int .i64 y2) h) (N + 1) s ob on oc (n : Int) h1 := by
    intro N
    induction N with
    | zero =>
      intro n h1 ob on oc out hN hn k1 o1 e hol hx
      unfold Sx.auto_domain.n7_L
      refine ⟨⟨by omega, by omega, by omega⟩, ?_⟩
      rw [sub_full s n (by omega)]
      have hz : spanP hostB (s.drop n) = 0 := by have := span_le hostB (s.drop n); rw [List.length_drop] at this; omega
      refine run_calls tells_host (by rw [List.length_drop]; omega) (vIntMk (splT (by omega) (fin n h1 ob on oc out k1 o1 ?_ hx)))
      rw [domP_zero (t := s.drop n) hz] at e
      exact e.trans (by simp)
    | succ N ih =>
      intro n h1 ob on oc out hN hn k1 o1 e hol hx
      have hl := span_le hostB (s.drop n)
      rw [List.length_drop] at hl
      unfold Sx.auto_domain.n7_L
      refine ⟨⟨by omega, by omega, by omega⟩, ?_⟩
      rw [sub_full s n (by omega)]
      refine run_calls tells_host (by rw [List.length_drop]; omega) (vIntMk (spl (fun hz => fin n h1 ob on oc out k1 o1 (by rw [domP_zero (t := s.drop n) (by omega)] at e; exact e.trans (by simp)) hx) fun hz => ?_))
      generalize hq : spanP hostB (s.drop n) = q at *
      have hon := o1.own.len
      refine ⟨rng64 (by omega) (by omega), ⟨by omega, by omega, by omega⟩, ?_⟩
      rw [show ((n : Int) + (q : Int)) = ((n + q : Nat) : Int) by omega]
      have es : sub s (n : Int) ((n + q : Nat) : Int) = (s.drop n).take q := by rw [sub_nat, List.drop_take, Nat.add_sub_cancel_left]
      rw [es, sub_full s (n + q) (by omega)]
      have hxl : ((s.drop n).take q).length ≤ 1000000 := by rw [List.length_take, List.length_drop]; omega
      refine one_app (cs := [S ((s.drop n).take q)]) apdStr (fun _ _ => ⟨rfl, by simp only [maxLen]; omega⟩) o1 k1.1 (by simp only [maxLen]; omega) (by omega) fun b2 c2 h2 o2 k2 => vSliceMk ⟨rng64 (by omega) (by omega), ⟨by omega, by omega, by omega⟩, ?_⟩
      have k12 : KB h h2 := SK.trans k1 k2
      have hx2 : ∀ x ∈ out ++ [(s.drop n).take q], x.length ≤ 1000000 := fun x hm => by
        rcases List.mem_append.1 hm with hm | hm
        · exact hx x hm
        · rw [List.mem_singleton.1 hm]; exact hxl
      have hdd : (s.drop n).drop q = s.drop (n + q) := List.drop_drop
      have hdd1 : (s.drop n).drop (q + 1) = s.drop (n + q + 1) := by rw [List.drop_drop]; rfl
      have stop : ¬ ((s.drop (n + q)).head? = some 46 ∧ spanP hostB (s.drop (n + q + 1)) ≠ 0) → Sx.auto_domain.n5 b2 (on + 1) c2 ((n + q : Nat) : Int) (fun y2 h => K (.int .i64 y2) h) (fun y2 h => K (.int .i64 y2) h) h2 := fun hd => by
        refine fin (n + q) h2 b2 (on + 1) c2 _ k12 o2 ?_ hx2
        rw [domP_end (t := s.drop n) (by omega) (by rw [hq, hdd, hdd1]; exact hd), hq] at e
        exact e
      refine pre_calls (vBool_mk ?_)
      rw [dot_head]
      refine condB (fun e1 => ?_) fun e1 => stop (fun hd => by rw [decide_eq_true hd.1] at e1; cases e1)
      have hhd := of_decide_eq_true e1
      have hlt : n + q < s.length := by
        rcases Nat.lt_or_ge (n + q) s.length with h | h
        · exact h
        · rw [List.drop_of_length_le h] at hhd; cases hhd
      refine ⟨rng64 (by omega) (by omega), ⟨by omega, by omega, by omega⟩, ?_⟩
      rw [show (((n + q : Nat) : Int) + 1) = ((n + q + 1 : Nat) : Int) by omega, sub_full s (n + q + 1) (by omega)]
      refine run_calls tells_host (by rw [List.length_drop]; omega) (vIntMk (spl (fun hz2 => stop fun hd => hd.2 (by omega)) fun hz2 => ⟨rng64 (by omega) (by omega), ih (n + q + 1) h2 b2 (on + 1) c2 (out ++ [(s.drop n).take q]) (by omega) (by omega) k12 o2 ?_ (by rw [List.length_append, List.length_singleton]; omega) hx2⟩))
      rw [domP_dot (t := s.drop n) (by omega) (by rw [hq, hdd]; exact hhd) (by rw [hq, hdd1]; omega), hq, hdd1] at e
      rw [e, List.append_assoc]
      exact Prod.ext rfl (by show n + (q + 1 + _) = n + q + 1 + _; omega)
  exact key s.length 0 h none 0 0 [] (by omega) (by omega) (KB.refl h) (OwnF.none _ _ _) (by simp) (by simp) (by simp)
end
end Go.Proofs
namespace Go.Proofs
open Go
set_option linter.unusedVariables false
theorem enc_tail {r : Nat} (hr : scal r) (j : Nat) (h1 : 1 ≤ j) (h2 : j < (encN r).length) : 128 ≤ ((encN r).getD j 0).toNat := by
  unfold encN at h2 ⊢
  split at h2 <;> rename_i c1
  · simp at h2; omega
  · split at h2 <;> rename_i c2
    · rw [if_neg c1, if_pos c2]
      match j, h1, h2 with
      | 1, _, _ => show 128 ≤ (b8 _).toNat; rw [b8_nat (by omega)]; omega
      | j + 2, _, h2 => simp at h2; omega
    · split at h2 <;> rename_i c3
      · rw [if_neg c1, if_neg c2, if_pos c3]
        match j, h1, h2 with
        | 1, _, _ => show 128 ≤ (b8 _).toNat; rw [b8_nat (by omega)]; omega
        | 2, _, _ => show 128 ≤ (b8 _).toNat; rw [b8_nat (by omega)]; omega
        | j + 3, _, h2 => simp at h2; omega
      · rw [if_neg c1, if_neg c2, if_neg c3]
        match j, h1, h2 with
        | 1, _, _ => show 128 ≤ (b8 _).toNat; rw [b8_nat (by omega)]; omega
        | 2, _, _ => show 128 ≤ (b8 _).toNat; rw [b8_nat (by omega)]; omega
        | 3, _, _ => show 128 ≤ (b8 _).toNat; rw [b8_nat (by omega)]; omega
        | j + 4, _, h2 => simp at h2; omega
theorem text_cons {r : Nat} {t : Bs} (hr : okR r) (ht : IsText t) : IsText (encN r ++ t) := isText_append (isText_one hr) ht
/-- a text may be cut ahead of any plain byte -/
theorem text_cut {s : Bs} (h : IsText s) {k : Nat} (hk : k ≤ s.length) (hb : k < s.length → (s.getD k 0).toNat < 128) : IsText (s.take k) ∧ IsText (s.drop k) := by
  obtain ⟨rs, hrs, rfl⟩ := h
  induction rs generalizing k with
  | nil => simpa [encs] using isText_nil
  | cons r rs ih =>
    rw [encs_cons] at hk hb ⊢
    have hr := hrs r (List.mem_cons_self ..)
    have hrest : IsText (encs rs) := ⟨rs, fun x hx => hrs x (List.mem_cons_of_mem _ hx), rfl⟩
    rw [List.length_append] at hk hb
    by_cases h0 : k = 0
    · subst h0; exact ⟨isText_nil, text_cons hr hrest⟩
    by_cases hlt : k < (encN r).length
    · have := hb (by omega)
      rw [List.getD_eq_getElem?_getD, List.getElem?_append_left hlt, ← List.getD_eq_getElem?_getD] at this
      have := enc_tail hr.1 k (by omega) hlt
      omega
    · have := ih (k := k - (encN r).length) (fun x hx => hrs x (List.mem_cons_of_mem _ hx)) (by omega) (fun hl => by
        have := hb (by omega)
        rwa [List.getD_eq_getElem?_getD, List.getElem?_append_right (by omega), ← List.getD_eq_getElem?_getD] at this)
      rw [List.take_append, List.drop_append, List.take_of_length_le (by omega), List.drop_of_length_le (l := encN r) (by omega), List.nil_append]
      exact ⟨text_cons hr this.1, this.2⟩
/-- and behind it -/
theorem text_tail {x : UInt8} {t : Bs} (h : IsText (x :: t)) (hx : x.toNat < 128) : IsText t := by
  obtain ⟨rs, hrs, e⟩ := h
  cases rs with
  | nil => simp [encs] at e
  | cons r rs =>
    rw [encs_cons] at e
    have hrest : IsText (encs rs) := ⟨rs, fun x hx => hrs x (List.mem_cons_of_mem _ hx), rfl⟩
    have hlen := enc_len r
    have hone : (encN r).length = 1 := by
      rcases Nat.lt_or_ge (encN r).length 2 with h | h
      · omega
      · exfalso
        have hr := (hrs r (List.mem_cons_self ..)).1
        have h0 : ((encN r).getD 0 0).toNat < 128 := by
          have : (encN r ++ encs rs).getD 0 0 = x := by rw [← e]; rfl
          rw [List.getD_eq_getElem?_getD, List.getElem?_append_left (by omega), ← List.getD_eq_getElem?_getD] at this
          rw [this]; exact hx
        unfold encN at h h0
        split at h <;> rename_i c1
        · simp at h
        · rw [if_neg c1] at h0
          split at h <;> rename_i c2
          · rw [if_pos c2] at h0
            have h0 : (b8 _).toNat < 128 := h0
            rw [b8_nat (by omega)] at h0; omega
          · rw [if_neg c2] at h0
            split at h <;> rename_i c3
            · rw [if_pos c3] at h0
              have h0 : (b8 _).toNat < 128 := h0
              rw [b8_nat (by omega)] at h0; omega
            · rw [if_neg c3] at h0
              have h0 : (b8 _).toNat < 128 := h0
              have := hr
              unfold scal at this
              rw [b8_nat (by omega)] at h0; omega
    obtain ⟨y, hy⟩ := List.length_eq_one_iff.1 hone
    rw [hy] at e
    have e2 : t = encs rs := (List.cons.inj e).2
    rw [e2]; exact hrest
/-- the last rune of a text -/
theorem text_last {s : Bs} (h : IsText s) (hne : s ≠ []) : ∃ a r, s = a ++ encN r ∧ scal r := by
  obtain ⟨rs, hrs, rfl⟩ := h
  have hne2 : rs ≠ [] := fun e => hne (by rw [e]; rfl)
  refine ⟨encs rs.dropLast, rs.getLast hne2, ?_, (hrs _ (List.getLast_mem hne2)).1⟩
  conv => lhs; rw [← List.dropLast_concat_getLast hne2, encs_append]
  simp [encs]
/-! ### trimming -/
/-- back over the bytes of words -/
def backP (s : Bs) : Nat → Nat
  | 0 => 0
  | k + 1 => if wordB (s.getD k 0) = true then backP s k else k + 1
theorem back_le (s : Bs) : ∀ k, backP s k ≤ k
  | 0 => Nat.le_refl _
  | k + 1 => by unfold backP; split; exact Nat.le_succ_of_le (back_le s k); exact Nat.le_refl _
theorem back_take (s : Bs) : ∀ {k m : Nat}, k ≤ m → backP (s.take m) k = backP s k
  | 0, m, h => rfl
  | k + 1, m, h => by
    unfold backP
    rw [show (s.take m).getD k 0 = s.getD k 0 by rw [List.getD_eq_getElem?_getD, List.getD_eq_getElem?_getD, List.getElem?_take, if_pos (by omega)], back_take s (by omega)]
def signB (c : UInt8) : Bool := decide (c ∈ ([63, 33, 46, 44, 58, 42, 95, 126, 39, 34] : Bs))
def moreP (s : Bs) : Bool := decide (s.countP (fun x => decide (x = 41)) > s.countP (fun x => decide (x = 40)))
def namedP (s : Bs) (n least : Nat) : Bool := decide (backP s n < n ∧ 0 < backP s n ∧ s.getD (backP s n - 1) 0 = 38 ∧ least ≤ backP s n - 1)
def trimGo : Nat → Bs → Nat → Bs
  | 0, s, _ => s
  | k + 1, s, least =>
    if s.length > least then
      if signB (s.getD (s.length - 1) 0) = true ∨ (s.getD (s.length - 1) 0 = 41 ∧ moreP s = true) then trimGo k (s.take (s.length - 1)) least
      else if s.getD (s.length - 1) 0 = 59 ∧ namedP s (s.length - 1) least = true then trimGo k (s.take (backP s (s.length - 1) - 1)) least
      else s
    else s
def trimP (s : Bs) (least : Nat) : Bs := trimGo s.length s least
end Go.Proofs
namespace Go.Proofs
open Go Go.Sh
set_option linter.unusedVariables false
set_option maxRecDepth 100000
theorem dec_ascii {x : UInt8} (t : Bs) (hx : x.toNat < 128) : dec (x :: t) = (x.toNat, 1) := by
  have hs : scal x.toNat := by unfold scal; omega
  have he : encN x.toNat = [x] := by
    unfold encN; rw [if_pos hx]
    exact congrArg (fun y => [y]) (b8_eq (x := x) rfl).symm
  have := dec_enc hs t
  rw [he] at this
  exact this
section
variable {h : H} {K : Value → H → Prop} {s : Bs} {c : UInt8}
theorem trimF_calls {r : Int} (h0 : 0 ≤ r) (hk : K (.bool (decide (r < 128) && wordB (b8 r.toNat))) h) : HCalls Tryd.prog 54 ⟨[.int .i32 r]⟩ h K := by
  refine Sx.auto_trimmed_1.ok _ _ _ (spl (fun e => ?_) fun e => ?_)
  · rw [decide_eq_true (show r < 128 from e), Bool.true_and] at hk
    have hw : IntKind.wrap .u8 r = ((b8 r.toNat).toNat : Int) := by
      rw [b8_nat (by omega), Int.toNat_of_nonneg h0]
      exact wrap_in ⟨by show (0 : Int) ≤ r; omega, by show r ≤ (255 : Int); omega⟩
    rw [hw]
    exact word_calls (vBool_mk (condB (fun e2 => by rw [e2] at hk; exact hk) fun e2 => by rw [e2] at hk; exact hk))
  · rw [decide_eq_false (show ¬ r < 128 from e), Bool.false_and] at hk
    exact hk
abbrev trimV : Value := .func (.func 54) ⟨[]⟩ ⟨[]⟩
theorem trimV_calls {r : Int} (h0 : 0 ≤ r) (hk : K (.bool (decide (r < 128) && wordB (b8 r.toNat))) h) : CallV Tryd.prog 4 trimV ⟨[.int .i32 r]⟩ h K :=
  callV_ok Tryd.func54 (by kernel_rfl) (trimF_calls h0 (decBool (by kernel_rfl) hk))
theorem lastIdx_calls (u : U8 h) (ht : IsText s) (hs : s.length ≤ 1000000)
    (hk : ∀ h' (i : Int), KB h h' → (backP s s.length = 0 ∧ i = -1) ∨ (∃ j : Nat, i = (j : Int) ∧ j < s.length ∧ j + (dec (s.drop j)).2 = backP s s.length) → K (.int .i64 i) h') :
    HCalls Tryd.prog 63 ⟨[S s, trimV, .bool false]⟩ h K := by
  refine Sx.strings_lastIndexFunc.ok _ _ _ _ _ ⟨s.length + 1, ?_⟩
  have key : ∀ N j h1, j ≤ N → j ≤ s.length → KB h h1 → backP s j = backP s s.length → (j < s.length → (s.getD j 0).toNat < 128) →
      Sx.strings_lastIndexFunc.n6_L (fun h => Sx.strings_lastIndexFunc.n3 (fun y6 h => K (.int .i64 y6) h) (fun y6 h => K (.int .i64 y6) h) h) (fun h => Sx.strings_lastIndexFunc.n3 (fun y6 h => K (.int .i64 y6) h) (fun y6 h => K (.int .i64 y6) h) h) (fun y6 h => K (.int .i64 y6) h) (N + 1) s trimV false (j : Int) h1 := by
    intro N
    induction N with
    | zero =>
      intro j h1 hN hj k1 hb _
      have : j = 0 := by omega
      subst this
      unfold Sx.strings_lastIndexFunc.n6_L
      exact splF (by omega) (hk h1 _ k1 (.inl ⟨hb.symm, rfl⟩))
    | succ N ih =>
      intro j h1 hN hj k1 hb hnx
      unfold Sx.strings_lastIndexFunc.n6_L
      refine spl (fun hpos => ⟨⟨by omega, by omega, by omega⟩, ?_⟩) fun hz => ?_
      · obtain ⟨m, rfl⟩ : ∃ m, j = m + 1 := ⟨j - 1, by omega⟩
        rw [sub_zero]
        have hl : (s.take (m + 1)).length = m + 1 := by rw [List.length_take]; omega
        have hgl : (s.take (m + 1)).getD ((s.take (m + 1)).length - 1) 0 = s.getD m 0 := by
          rw [hl, List.getD_eq_getElem?_getD, List.getD_eq_getElem?_getD, List.getElem?_take, if_pos (by omega), Nat.add_sub_cancel]
        have hne : s.take (m + 1) ≠ [] := fun e => by rw [e] at hl; simp at hl
        refine hcalls_below (fun w hw => Tryd.utf8_DecodeLastRuneInString ⟨⟨s.take (m + 1)⟩⟩ w (show (s.take (m + 1)).length ≤ _ by omega) ((u.kb k1).tabs hw)) fun h2 k2 => ?_
        show vTup (.tuple #[.int .i32 ((Lib.decodeLastL (s.take (m + 1))).1 : Nat), .int .i64 ((Lib.decodeLastL (s.take (m + 1))).2 : Nat)]) _
        have k12 := k1.trans k2
        have hd : s.drop m = s.getD m 0 :: s.drop (m + 1) := by
          rw [List.drop_eq_getElem_cons (by omega), getD_get (by omega)]
        by_cases ha : (s.getD m 0).toNat < 128
        · have e : Lib.decodeLastL (s.take (m + 1)) = ((s.getD m 0).toNat, 1) := by
            unfold Lib.decodeLastL
            rw [if_neg hne, hgl, if_pos ha]
          rw [e]
          refine tupII ⟨rng64 (by omega) (by omega), trimV_calls (by omega) (vBool_mk ?_)⟩
          rw [decide_eq_true (show (((s.getD m 0).toNat : Nat) : Int) < 128 by omega), Bool.true_and, Int.toNat_natCast, ← b8_eq rfl]
          rw [show (((m + 1 : Nat) : Int) - ((1 : Nat) : Int)) = (m : Int) by omega]
          refine condB (fun hw => condF (ih m h2 (by omega) (by omega) k12 ?_ fun _ => ha)) fun hw => condF (hk h2 _ k12 (.inr ⟨m, rfl, by omega, ?_⟩))
          · rw [← hb]; conv => rhs; unfold backP
            rw [if_pos hw]
          · rw [← hb]; unfold backP
            rw [if_neg (by rw [hw]; decide), hd, dec_ascii _ ha]
        · have htx := (text_cut ht (k := m + 1) hj hnx).1
          have htd := (text_cut ht (k := m + 1) hj hnx).2
          obtain ⟨a, r, e1, hr⟩ := text_last htx hne
          have hln := congrArg List.length e1
          rw [hl, List.length_append] at hln
          have hel := enc_len r
          have hr128 : 128 ≤ r := by
            rcases Nat.lt_or_ge r 128 with hlt | hge
            · exfalso
              apply ha
              have : encN r = [b8 r] := by unfold encN; rw [if_pos hlt]
              rw [← hgl, e1, this]
              simp [b8_nat (show r < 256 by omega)]
              omega
            · exact hge
          have e : Lib.decodeLastL (s.take (m + 1)) = (r, (encN r).length) := by rw [e1]; exact last_enc a hr
          rw [e]
          refine tupII ⟨rng64 (by omega) (by omega), trimV_calls (by omega) (vBool_mk ?_)⟩
          rw [decide_eq_false (show ¬ (r : Int) < 128 by omega), Bool.false_and]
          refine condF (condF (hk h2 _ k12 (.inr ⟨a.length, by omega, by omega, ?_⟩)))
          have hsd : s.drop a.length = encN r ++ s.drop (m + 1) := by
            conv => lhs; rw [← List.take_append_drop (m + 1) s, e1, List.append_assoc]
            rw [List.drop_left]
          rw [hsd, dec_enc hr, ← hb]
          unfold backP
          have : wordB (s.getD m 0) = false := by
            cases hw : wordB (s.getD m 0) with
            | false => rfl
            | true => exact absurd (word_lt hw) ha
          rw [if_neg (by rw [this]; decide)]
          omega
      · have : j = 0 := by omega
        subst this
        exact hk h1 _ k1 (.inl ⟨hb.symm, rfl⟩)
  exact key s.length s.length h (Nat.le_refl _) (Nat.le_refl _) (KB.refl h) rfl fun h => absurd h (by omega)
theorem trimRight_calls (u : U8 h) (ht : IsText s) (hs : s.length ≤ 1000000) (hk : ∀ h', KB h h' → K (S (s.take (backP s s.length))) h') : HCalls Tryd.prog 53 ⟨[S s, trimV]⟩ h K := by
  refine Sx.strings_TrimRightFunc.ok _ _ _ _ (lastIdx_calls u ht hs fun h1 i k1 hi => vIntMk ?_)
  have hbl := back_le s s.length
  rcases hi with ⟨e0, rfl⟩ | ⟨j, rfl, hj, e⟩
  · refine splF (by omega) (condF ⟨rng64 (by omega) (by omega), ⟨by omega, by omega, by omega⟩, ?_⟩)
    have := hk h1 k1
    rw [e0] at this
    rw [show ((-1 : Int) + 1) = ((0 : Nat) : Int) by omega, sub_zero]
    exact this
  · refine splT (by omega) (condT ⟨⟨by omega, by omega, by omega⟩, ?_⟩)
    rw [sub_full s j (by omega)]
    have hne : (⟨⟨s.drop j⟩⟩ : ByteArray).size ≠ 0 := show (s.drop j).length ≠ 0 by rw [List.length_drop]; omega
    refine hcalls_below (fun w hw => Tryd.utf8_DecodeRuneInString ⟨⟨s.drop j⟩⟩ w ((u.kb k1).tabs hw)) fun h2 k2 => ?_
    unfold Lib.decodeGo
    rw [if_neg hne, decode_dec]
    refine tupII ?_
    rw [show ((⟨⟨s.drop j⟩⟩ : ByteArray).data.toList.drop 0) = s.drop j from rfl]
    rw [show ((j : Int) + ((dec (s.drop j)).2 : Nat)) = ((backP s s.length : Nat) : Int) by omega]
    refine ⟨rng64 (by omega) (by omega), ⟨by omega, by omega, by omega⟩, ?_⟩
    rw [sub_zero]
    exact hk h2 (k1.trans k2)
end
end Go.Proofs
namespace Go.Proofs
open Go Go.Sh
set_option linter.unusedVariables false
set_option maxRecDepth 100000
theorem suf_one (c : UInt8) (u : Bs) : ([c] : Bs).isSuffixOf u = decide (0 < u.length ∧ u.getD (u.length - 1) 0 = c) := by
  rcases List.eq_nil_or_concat u with rfl | ⟨v, x, rfl⟩
  · rfl
  · rw [Bool.eq_iff_iff]
    simp [List.isSuffixOf, List.isPrefixOf]
    exact eq_comm
theorem count_eq (l : Bs) (c : UInt8) : l.countP (fun x => decide (x = c)) = Lib.countByte l c := by
  unfold Lib.countByte List.count
  exact List.countP_congr fun x _ => by simp
section
variable {h : H} {K : Value → H → Prop} {s : Bs} {c : UInt8}
theorem suf_calls {p : Bs} (hs : s.length ≤ 1000000) (hk : K (.bool (p.isSuffixOf s)) h) : HCalls Tryd.prog 41 ⟨[S s, S p]⟩ h K :=
  hcalls_of (v := .bool (p.isSuffixOf s)) (fun w _ => Tryd.strings_HasSuffix ⟨⟨s⟩⟩ ⟨⟨p⟩⟩ w (show s.length ≤ _ by omega)) hk
theorem cnt_calls (hk : K (.int .i64 (s.countP (fun x => decide (x = c)) : Int)) h) : HCalls Tryd.prog 52 ⟨[S s, S [c]]⟩ h K := by
  rw [count_eq] at hk
  exact hcalls_of (v := .int .i64 (Lib.countByte s c)) (fun w _ => Tryd.strings_Count_one ⟨⟨s⟩⟩ c w) hk
theorem b_of {c : UInt8} {n : Int} {d : UInt8} (e : (c.toNat : Int) = n) (hd : (d.toNat : Int) = n) : c = d := UInt8.toNat_inj.1 (by omega)
theorem not_b {c : UInt8} {n : Int} {d : UInt8} (e : ¬ (c.toNat : Int) = n) (hd : (d.toNat : Int) = n) : ¬ c = d := fun h => e (by rw [h]; exact hd)
theorem trimmed_calls {least : Nat} (u : U8 h) (ht : IsText s) (hs : s.length ≤ 1000000) (hk : ∀ h', KB h h' → K (S (trimP s least)) h') : HCalls Tryd.prog 37 ⟨[S s, .int .i64 (least : Int)]⟩ h K := by
  refine Sx.auto_trimmed.ok _ _ _ _ ⟨s.length + 1, ?_⟩
  have key : ∀ N t h1, t.length ≤ N → t.length ≤ 1000000 → IsText t → KB h h1 → trimGo N t least = trimP s least →
      Sx.auto_trimmed.n5_L (fun z0 h => Sx.auto_trimmed.n3 z0 (fun y4 h => K (S y4) h) (fun y4 h => K (S y4) h) h) (fun z0 h => Sx.auto_trimmed.n3 z0 (fun y4 h => K (S y4) h) (fun y4 h => K (S y4) h) h) (fun y4 h => K (S y4) h) (N + 1) t (least : Int) h1 := by
    intro N
    induction N with
    | zero =>
      intro t h1 hN hl htx k1 e
      unfold Sx.auto_trimmed.n5_L
      refine splF (by omega) ?_
      show K (S t) h1
      rw [show t = trimP s least from e]
      exact hk h1 k1
    | succ N ih =>
      intro t h1 hN hl htx k1 e
      unfold Sx.auto_trimmed.n5_L
      have same : ∀ h2, KB h h2 → trimP s least = t → K (S t) h2 := fun h2 k2 e2 => by rw [← e2]; exact hk h2 k2
      refine spl (fun hgt => ⟨rng64 (by omega) (by omega), ⟨by omega, by omega⟩, ?_⟩) fun hle => ?_
      · have e' := e
        unfold trimGo at e'
        rw [if_pos (show t.length > least by omega)] at e'
        obtain ⟨m, hm⟩ : ∃ m, t.length = m + 1 := ⟨t.length - 1, by omega⟩
        have hcast : ((t.length : Int) - 1) = (m : Int) := by omega
        have hm1 : t.length - 1 = m := by omega
        rw [hm1] at e'
        rw [hcast, Int.toNat_natCast]
        have drop1 : (signB (t.getD m 0) = true ∨ (t.getD m 0 = 41 ∧ moreP t = true)) → ∀ h2, KB h h2 → (t.getD m 0).toNat < 128 → (0 ≤ (0 : Int) ∧ (0 : Int) ≤ (m : Int) ∧ (m : Int) ≤ (t.length : Int)) ∧ Sx.auto_trimmed.n5_L (fun z0 h => Sx.auto_trimmed.n3 z0 (fun y4 h => K (S y4) h) (fun y4 h => K (S y4) h) h) (fun z0 h => Sx.auto_trimmed.n3 z0 (fun y4 h => K (S y4) h) (fun y4 h => K (S y4) h) h) (fun y4 h => K (S y4) h) (N + 1) (sub t 0 (m : Int)) (least : Int) h2 := fun hc h2 k2 ha => by
          refine ⟨⟨by omega, by omega, by omega⟩, ?_⟩
          rw [sub_zero]
          rw [if_pos hc] at e'
          exact ih (t.take m) h2 (by rw [List.length_take]; omega) (by rw [List.length_take]; omega) (text_cut htx (by omega) fun _ => ha).1 k2 e'
        have rest : ¬ (signB (t.getD m 0) = true ∨ (t.getD m 0 = 41 ∧ moreP t = true)) → (0 ≤ (m : Int) ∧ (m : Int) < (t.length : Int)) ∧ (Spl (((List.getD t (Int.toNat (m : Int)) 0).toNat : Int) = (59 : Int)) (Sx.auto_trimmed.n10 t (least : Int) (m : Int) (fun z0 z1 h => Sx.auto_trimmed.n5_L (fun z0 h => Sx.auto_trimmed.n3 z0 (fun y4 h => K (S y4) h) (fun y4 h => K (S y4) h) h) (fun z0 h => Sx.auto_trimmed.n3 z0 (fun y4 h => K (S y4) h) (fun y4 h => K (S y4) h) h) (fun y4 h => K (S y4) h) (N + 1) z0 z1 h) (fun z0 z1 h => Sx.auto_trimmed.n5_L (fun z0 h => Sx.auto_trimmed.n3 z0 (fun y4 h => K (S y4) h) (fun y4 h => K (S y4) h) h) (fun z0 h => Sx.auto_trimmed.n3 z0 (fun y4 h => K (S y4) h) (fun y4 h => K (S y4) h) h) (fun y4 h => K (S y4) h) (N + 1) z0 z1 h) (fun z0 h => Sx.auto_trimmed.n3 z0 (fun y4 h => K (S y4) h) (fun y4 h => K (S y4) h) h) (fun y4 h => K (S y4) h) h1) (K (S t) h1)) := fun hc => by
          rw [if_neg hc] at e'
          rw [Int.toNat_natCast]
          refine ⟨⟨by omega, by omega⟩, spl (fun e59 => ⟨⟨by omega, by omega, by omega⟩, ?_⟩) fun e59 => same h1 k1 (by rw [if_neg (fun hh => not_b (d := 59) e59 rfl hh.1)] at e'; exact e'.symm)⟩
          have c59 : t.getD m 0 = 59 := b_of e59 rfl
          have ha : (t.getD m 0).toNat < 128 := by rw [c59]; decide
          rw [sub_zero]
          have hlm : (t.take m).length = m := by rw [List.length_take]; omega
          refine trimRight_calls (u.kb k1) (text_cut htx (by omega) fun _ => ha).1 (by omega) fun h2 k2 => vStrMk ?_
          have k12 := k1.trans k2
          rw [hlm, back_take t (Nat.le_refl m), List.take_take, Nat.min_eq_left (back_le t m)]
          have hbl := back_le t m
          generalize hb : backP t m = b at *
          have hlb : (t.take b).length = b := by rw [List.length_take]; omega
          have hgb : 0 < b → (t.take b).getD (b - 1) 0 = t.getD (b - 1) 0 := fun h0 => by rw [List.getD_eq_getElem?_getD, List.getD_eq_getElem?_getD, List.getElem?_take, if_pos (by omega)]
          have hnn : namedP t m least = false → K (S t) h2 := fun hn => same h2 k12 (by rw [if_neg (fun hh => by rw [hn] at hh; exact absurd hh.2 (by decide))] at e'; exact e'.symm)
          rw [hlb]
          refine spl (fun hbm => hnn ?_) fun hbm => suf_calls (by rw [hlb]; omega) (vBool_mk ?_)
          · unfold namedP; rw [hb]; exact decide_eq_false fun hh => absurd hh.1 (by omega)
          · rw [suf_one, hlb]
            refine condB (fun hsuf => ?_) fun hsuf => hnn ?_
            · obtain ⟨h0, h38⟩ := of_decide_eq_true hsuf
              rw [hgb h0] at h38
              refine ⟨rng64 (by omega) (by omega), spl (fun hlt => hnn ?_) fun hlt => ⟨rng64 (by omega) (by omega), ⟨by omega, by omega, by omega⟩, ?_⟩⟩
              · unfold namedP; rw [hb]; exact decide_eq_false fun hh => absurd hh.2.2.2 (by omega)
              · have hn : namedP t m least = true := by unfold namedP; rw [hb]; exact decide_eq_true ⟨by omega, h0, h38, by omega⟩
                rw [if_pos ⟨c59, hn⟩] at e'
                rw [show ((b : Int) - 1) = ((b - 1 : Nat) : Int) by omega, sub_zero, List.take_take, Nat.min_eq_left (by omega)]
                exact ih (t.take (b - 1)) h2 (by rw [List.length_take]; omega) (by rw [List.length_take]; omega) (text_cut htx (by omega) fun _ => by rw [h38]; decide).1 k12 e'
            · unfold namedP; rw [hb]
              have := of_decide_eq_false hsuf
              exact decide_eq_false fun hh => this ⟨hh.2.1, by rw [hgb hh.2.1]; exact hh.2.2.1⟩
        refine ixb_calls fun i hi => vIntMk (spl (fun e1 => ?_) fun e1 => ⟨⟨by omega, by omega⟩, spl (fun e2 => cnt_calls (vIntMk (cnt_calls (vIntMk (spl (fun e3 => ?_) fun e3 => condF (rest ?_)))))) fun e2 => condF (rest ?_)⟩)
        · have hm2 := hi.1 e1
          have ha : (t.getD m 0).toNat < 128 := by
            simp only [List.mem_cons, List.not_mem_nil, or_false] at hm2
            rcases hm2 with e | e | e | e | e | e | e | e | e | e <;> rw [e] <;> decide
          exact condT (drop1 (.inl (decide_eq_true hm2)) h1 k1 ha)
        · have c41 : t.getD m 0 = 41 := b_of e2 rfl
          exact condT (drop1 (.inr ⟨c41, decide_eq_true (by omega)⟩) h1 k1 (by rw [c41]; decide))
        · rintro (hh | hh)
          · exact e1 (hi.2 (of_decide_eq_true hh))
          · have := of_decide_eq_true hh.2; omega
        · rintro (hh | hh)
          · exact e1 (hi.2 (of_decide_eq_true hh))
          · exact not_b (d := 41) e2 rfl hh.1
      · refine same h1 k1 ?_
        unfold trimGo at e
        rw [if_neg (by omega)] at e
        exact e.symm
  exact key s.length s h (Nat.le_refl _) hs ht (KB.refl h) rfl
end
end Go.Proofs
