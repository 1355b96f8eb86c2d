/- auto: texts stay texts behind an address; the list. Plain but for AuM's cuts. No condition. auto: behind a page's address a text is a text. No condition. auto: Find of the chapter. No condition. auto: Find of the chapter. No condition. auto: found of the program, an iterator. No condition. auto: Find of the program. No condition. -/
import Derived.Test.YtpkicfcnhgnejaaDoorAuM
import Derived.Test.YtpkicfcnhgnejaaDoorHmD
namespace Go.Proofs
open Go
set_option linter.unusedVariables false
theorem stop_drop : ∀ rs : List Nat, (∀ r ∈ rs, okR r) → IsText ((encs rs).drop (stopP (encs rs)))
  | [], _ => isText_nil
  | r :: rs, h => by
    have hr := h r (List.mem_cons_self ..)
    have hne : encs (r :: rs) ≠ [] := by rw [encs_cons]; simp [enc_ne r]
    have ih := stop_drop rs fun x hx => h x (List.mem_cons_of_mem _ hx)
    have hd : dec (encs (r :: rs)) = (r, (encN r).length) := by rw [encs_cons]; exact dec_enc hr.1 _
    cases hs : stopR r with
    | true => rw [stop_yes hne (by rw [hd]; exact hs)]; exact ⟨r :: rs, h, rfl⟩
    | false =>
      rw [stop_no hne (by rw [hd]; exact hs), hd, ← List.drop_drop, encs_cons, List.drop_left]
      exact ih
theorem stop_rest {u : Bs} (h : IsText u) : IsText (u.drop (stopP u)) := by obtain ⟨rs, hrs, rfl⟩ := h; exact stop_drop rs hrs
theorem mail_cut {t : Bs} (h : IsText t) (hn : mailN t ≠ 0) : IsText (t.drop (mailN t)) := by
  unfold mailN at hn ⊢
  split at hn
  · exact absurd rfl hn
  rename_i h1
  have h2 : (t.drop (spanP userB t)).head? = some 64 := by
    by_cases e : (t.drop (spanP userB t)).head? = some 64
    · exact e
    · exact absurd (.inr e) h1
  have hh := head_drop h2
  rw [if_neg h1]
  split at hn
  · exact absurd rfl hn
  rename_i h3
  rw [if_neg h3]
  split at hn
  · exact absurd rfl hn
  rename_i h4
  rw [if_neg h4]
  split at hn
  · exact absurd rfl hn
  rename_i h5
  rw [if_neg h5]
  split at hn
  · exact absurd rfl hn
  rename_i h6
  rw [if_neg h6]
  exact (domain_cut (f := spanP userB t + 1) h (by omega) h3).2
def mayP (s : Bs) (i : Nat) : Bool := Tryd.blankI (prevP s i) || decide (prevP s i ∈ ([42, 95, 126, 40] : List Int))
def foundN (t : Bs) : Nat := if pageN t = 0 then mailN t else pageN t
def foundD (t : Bs) : Bs := if pageN t = 0 then (if mailN t = 0 then [] else mailto ++ t.take (mailN t)) else pageD t
def findGo : Nat → Bs → Nat → List (Nat × Nat × Bs)
  | 0, _, _ => []
  | k + 1, s, i =>
    if s.length ≤ i then []
    else if mayP s i = true ∧ foundN (s.drop i) ≠ 0 then (i, i + foundN (s.drop i), foundD (s.drop i)) :: findGo k s (i + foundN (s.drop i))
    else findGo k s (i + (dec (s.drop i)).2)
def findP (s : Bs) : List (Nat × Nat × Bs) := findGo s.length s 0
end Go.Proofs
namespace Go.Proofs
open Go
set_option linter.unusedVariables false
theorem sign_lt {c : UInt8} (h : signB c = true) : c.toNat < 128 := by
  have := of_decide_eq_true h
  simp only [List.mem_cons, List.not_mem_nil, or_false] at this
  rcases this with e | e | e | e | e | e | e | e | e | e <;> rw [e] <;> decide
theorem getD_tk {s : Bs} {n m : Nat} (h : n < m) : (s.take m).getD n 0 = s.getD n 0 := by
  rw [List.getD_eq_getElem?_getD, List.getD_eq_getElem?_getD, List.getElem?_take, if_pos h]
theorem trim_at (least : Nat) : ∀ (k : Nat) (s : Bs), ∃ n, trimGo k s least = s.take n ∧ n ≤ s.length ∧ (n < s.length → (s.getD n 0).toNat < 128) := by
  intro k
  induction k with
  | zero => intro s; exact ⟨s.length, by rw [List.take_length]; rfl, Nat.le_refl _, fun h => absurd h (by omega)⟩
  | succ k ih =>
    intro s
    have self : ∃ n, s = s.take n ∧ n ≤ s.length ∧ (n < s.length → (s.getD n 0).toNat < 128) := ⟨s.length, by rw [List.take_length], Nat.le_refl _, fun h => absurd h (by omega)⟩
    have cut : ∀ m, m ≤ s.length → (s.getD m 0).toNat < 128 → ∃ n, trimGo k (s.take m) least = s.take n ∧ n ≤ s.length ∧ (n < s.length → (s.getD n 0).toNat < 128) := fun m h2 hb => by
      obtain ⟨n, e, h4, h5⟩ := ih (s.take m)
      rw [List.length_take] at h4 h5
      refine ⟨n, by rw [e, List.take_take, Nat.min_eq_left (by omega)], by omega, fun _ => ?_⟩
      by_cases hnm : n = m
      · rw [hnm]; exact hb
      · have := h5 (by omega)
        rw [getD_tk (by omega)] at this
        exact this
    unfold trimGo
    split
    · split
      · rename_i hc
        refine cut _ (by omega) ?_
        rcases hc with hc | hc
        · exact sign_lt hc
        · rw [hc.1]; decide
      · split
        · rename_i hn
          have := of_decide_eq_true hn.2
          have hb := back_le s (s.length - 1)
          exact cut _ (by omega) (by rw [this.2.2.1]; decide)
        · exact self
    · exact self
theorem page_cut {t : Bs} (h : IsText t) (hn : pageN t ≠ 0) : IsText (t.drop (pageN t)) := by
  unfold pageN at hn ⊢
  split at hn
  · exact absurd rfl hn
  rename_i h1
  rw [if_neg h1]
  split at hn
  · exact absurd rfl hn
  rename_i h2
  rw [if_neg h2]
  have hfl := scheme_le t
  have hdl := domain_le (t.drop (schemeP t).length)
  rw [List.length_drop] at hdl
  have hc := domain_cut h hfl h2
  generalize (schemeP t).length + domainP (t.drop (schemeP t).length) = e at *
  have hse := stop_le _ (t.drop e) (Nat.le_refl _)
  have hst := stop_rest hc.2
  rw [List.drop_drop] at hst
  generalize stopP (t.drop e) = m at *
  rw [List.length_drop] at hse
  obtain ⟨n, en, hl, hb⟩ := trim_at e (t.take (e + m)).length (t.take (e + m))
  have hE : (t.take (e + m)).length = min (e + m) t.length := List.length_take
  have hlen : (trimP (t.take (e + m)) e).length = n := by
    unfold trimP
    rw [en, List.length_take]; omega
  rw [hlen]
  rw [hE] at hl hb
  by_cases hq : n < min (e + m) t.length
  · have := hb hq
    rw [getD_tk (by omega)] at this
    exact (text_cut h (by omega) fun _ => this).2
  · by_cases hlt : e + m ≤ t.length
    · rw [show n = e + m by omega]; exact hst
    · rw [List.drop_of_length_le (by omega)]; exact isText_nil
theorem found_cut {t : Bs} (h : IsText t) (hn : foundN t ≠ 0) : IsText (t.drop (foundN t)) := by
  unfold foundN at hn ⊢
  split
  · rename_i e; rw [if_pos e] at hn; exact mail_cut h hn
  · rename_i e; exact page_cut h e
end Go.Proofs
namespace Go.Proofs
open Go Go.Sh
set_option linter.unusedVariables false
set_option maxRecDepth 100000
abbrev FoundP := Int × Int × Bs
def elFd : El FoundP := elPair (elInt .i64) (elPair (elInt .i64) elStr)
def toF (x : Nat × Nat × Bs) : FoundP := ((x.1 : Int), (x.2.1 : Int), x.2.2)
section
variable {h : H} {K : Value → H → Prop} {s : Bs} {c : UInt8}
theorem skip_find {b : Option Addr} {n cc : Nat} {q : Nat} {Kx K1 : Sx.r28_Find.T3} {K0 : Sx.r28_Find.T4} {Kr : Sx.r28_Find.T0} (hs : s.length ≤ 1000000) (hq : q ≤ s.length) (hend : q < s.length → (s.getD q 0).toNat < 128 ∨ 192 ≤ (s.getD q 0).toNat) (hx : Kx s b n cc (q : Int) h) :
    ∀ N p, q ≤ p + N → p ≤ q → (∀ j, p ≤ j → j < q → 128 ≤ (s.getD j 0).toNat ∧ (s.getD j 0).toNat < 192) → Sx.r28_Find.n15_L Kx Kx K1 K0 Kr (N + 1) s b n cc (p : Int) h := by
  intro N
  have stop : ∀ M, Sx.r28_Find.n15_L Kx Kx K1 K0 Kr (M + 1) s b n cc (q : Int) h := by
    intro M
    unfold Sx.r28_Find.n15_L
    rw [Int.toNat_natCast]
    exact spl (fun hlt => ⟨⟨by omega, by omega⟩, spl (fun h1 => ⟨⟨by omega, by omega⟩, splF (by have := hend (by omega); omega) hx⟩) fun h1 => hx⟩) fun hge => hx
  induction N with
  | zero =>
    intro p hN hp hall
    have : p = q := by omega
    subst this
    exact stop 0
  | succ N ih =>
    intro p hN hp hall
    by_cases hpq : p = q
    · subst hpq; exact stop _
    · have := hall p (Nat.le_refl _) (by omega)
      unfold Sx.r28_Find.n15_L
      rw [Int.toNat_natCast]
      exact splT (by omega) ⟨⟨by omega, by omega⟩, splT (by omega) ⟨⟨by omega, by omega⟩, splT (by omega) ⟨rng64 (by omega) (by omega), ih (p + 1) (by omega) (by omega) fun j h1 h2 => hall j (by omega) h2⟩⟩⟩
end
end Go.Proofs
namespace Go.Proofs
open Go Go.Sh
set_option linter.unusedVariables false
set_option maxRecDepth 100000
theorem prev_ten (s : Bs) : prevP s 0 = 10 := by unfold prevP; rw [if_pos (.inl (Int.le_refl 0))]
theorem may_zero (s : Bs) : mayP s 0 = true := by unfold mayP; rw [show ((0 : Nat) : Int) = 0 from rfl, prev_ten]; decide
theorem page_le (t : Bs) : pageN t ≤ t.length := by
  unfold pageN
  split
  · exact Nat.zero_le _
  · split
    · exact Nat.zero_le _
    · generalize (schemeP t).length + domainP (t.drop (schemeP t).length) = e
      generalize e + stopP (t.drop e) = m
      obtain ⟨n, en, hl, _⟩ := trim_at e (t.take m).length (t.take m)
      unfold trimP
      rw [en, List.length_take, List.length_take]; omega
theorem found_le (t : Bs) : foundN t ≤ t.length := by
  unfold foundN; split
  · exact mail_le t
  · exact page_le t
theorem foundD_le (t : Bs) : (foundD t).length ≤ 7 + t.length := by
  unfold foundD pageD
  split
  · split
    · exact Nat.zero_le _
    · rw [List.length_append, List.length_take, show mailto.length = 7 from rfl]; omega
  · rw [List.length_append, List.length_take]
    split
    · rw [show wHttp.length = 7 from rfl]; omega
    · rw [List.length_nil]; omega
theorem fdR {A : Nat → Prop} {h : H} {p : FoundP} (h1 : Rng .i64 p.1) (h2 : Rng .i64 p.2.1) (h3 : p.2.2.length ≤ maxLen) : elFd.R A h p [.int .i64 p.1, .int .i64 p.2.1, S p.2.2] :=
  ⟨[_], _, rfl, ⟨rfl, h1⟩, [_], [_], rfl, ⟨rfl, h2⟩, ⟨rfl, h3⟩⟩
theorem apdFd : Apd Tryd.prog elFd 24 28 32 := apd_of (sz := 3) (by kernel_rfl) rfl
section
variable {h : H} {K : Value → H → Prop} {s : Bs} {c : UInt8}
theorem findR_calls (hs : s.length ≤ 1000000) (ht : IsText s) (hk : ∀ h' b n c, KB h h' → OwnF elFd h' h.size 28 b n c ((findP s).map toF) → K (.slice b n c) h') : HCalls Tryd.prog 7 ⟨[S s]⟩ h K := by
  refine Sx.r28_Find.ok _ _ _ ⟨s.length + 1, ?_⟩
  have key : ∀ (A : Sx.r28_Find.T4) (C : Sx.r28_Find.T0), (∀ ob on oc h1, KB h h1 → OwnF elFd h1 h.size 28 ob on oc ((findP s).map toF) → A ob on oc h1) →
      ∀ N M i h1 ob on oc (out : List FoundP), s.length ≤ i + N → i ≤ s.length → IsText (s.drop i) → KB h h1 → OwnF elFd h1 h.size 28 ob on oc out → on ≤ i → s.length ≤ i + M → out ++ (findGo M s i).map toF = (findP s).map toF →
      Sx.r28_Find.n7_L A A C (N + 1) s ob on oc (i : Int) h1 := by
    intro A C hA N
    have fin : ∀ M i h1 ob on oc (out : List FoundP), s.length ≤ i → KB h h1 → OwnF elFd h1 h.size 28 ob on oc out → out ++ (findGo M s i).map toF = (findP s).map toF → A ob on oc h1 := by
      intro M i h1 ob on oc out hle k1 o1 e
      have : findGo M s i = [] := by cases M with
        | zero => rfl
        | succ M => unfold findGo; rw [if_pos hle]
      rw [this] at e
      simp at e
      exact hA ob on oc h1 k1 (by rw [← e]; exact o1)
    induction N with
    | zero =>
      intro M i h1 ob on oc out hN hi htx k1 o1 hol hM e
      unfold Sx.r28_Find.n7_L
      exact splF (by omega) (fin M i h1 ob on oc out (by omega) k1 o1 e)
    | succ N ih =>
      intro M i h1 ob on oc out hN hi htx k1 o1 hol hM e
      unfold Sx.r28_Find.n7_L
      refine spl (fun hlt => ?_) fun hge => fin M i h1 ob on oc out (by omega) k1 o1 e
      obtain ⟨M', rfl⟩ : ∃ M', M = M' + 1 := ⟨M - 1, by omega⟩
      obtain ⟨w1, w2, w3, w4, w5, w6⟩ := text_step htx (by omega)
      have hfl := found_le (s.drop i)
      have hdl := foundD_le (s.drop i)
      rw [List.length_drop] at hfl hdl
      have no : (¬ (mayP s i = true ∧ foundN (s.drop i) ≠ 0)) → ∀ h2, KB h1 h2 → Sx.r28_Find.n13 s ob on oc (i : Int) (fun z0 z3b z3n z3c z4 h => Sx.r28_Find.n7_L A A C (N + 1) z0 z3b z3n z3c z4 h) (fun z0 z3b z3n z3c z4 h => Sx.r28_Find.n7_L A A C (N + 1) z0 z3b z3n z3c z4 h) A C h2 := by
        intro hno h2 k2
        unfold findGo at e
        rw [if_neg (by omega), if_neg hno] at e
        refine ⟨rng64 (by omega) (by omega), s.length + 1, ?_⟩
        rw [show ((i : Int) + 1) = ((i + 1 : Nat) : Int) by omega]
        exact skip_find (q := i + (dec (s.drop i)).2) hs w2 w4 (ih M' _ h2 ob on oc out (by omega) w2 w5 (k1.trans k2) (o1.kb k2) (by omega) (by omega) e) s.length (i + 1) (by omega) (by omega) w3
      have app : mayP s i = true → ∀ d n, foundD (s.drop i) = d → foundN (s.drop i) = n → n ≠ 0 → ∀ h2, KB h1 h2 → Sx.r28_Find.n20 s ob on oc (i : Int) d ((i + n : Nat) : Int) (fun z0 z3b z3n z3c z4 h => Sx.r28_Find.n13 z0 z3b z3n z3c z4 (fun z0 z3b z3n z3c z4 h => Sx.r28_Find.n7_L A A C (N + 1) z0 z3b z3n z3c z4 h) (fun z0 z3b z3n z3c z4 h => Sx.r28_Find.n7_L A A C (N + 1) z0 z3b z3n z3c z4 h) A C h) (fun z0 z3b z3n z3c z4 h => Sx.r28_Find.n7_L A A C (N + 1) z0 z3b z3n z3c z4 h) A C h2 := by
        intro hm d n ed en hn h2 k2
        have hcut := found_cut htx (by omega)
        rw [List.drop_drop, en] at hcut
        rw [ed] at hdl
        unfold findGo at e
        rw [if_neg (by omega), if_pos ⟨hm, by omega⟩, ed, en] at e
        refine splT (by omega) (one_app (x := toF (i, i + n, d)) apdFd (fun A h => fdR (rng64 (n := (i : Int)) (by omega) (by omega)) (rng64 (n := ((i + n : Nat) : Int)) (by omega) (by omega)) (by simp only [maxLen, toF]; omega)) (o1.kb k2) (k1.trans k2).1 (by simp only [maxLen]; omega) (by omega) fun b3 c3 h3 o3 k3 => vSliceMk ?_)
        refine ih M' _ h3 b3 (on + 1) c3 (out ++ [toF (i, i + n, d)]) (by omega) (by omega) hcut ?_ o3 (by omega) (by omega) ?_
        · exact SK.trans (k1.trans k2) k3
        · rw [List.append_assoc]; exact e
      have yes : mayP s i = true → ∀ h2, KB h1 h2 → Sx.r28_Find.n18 s ob on oc (i : Int) (fun z0 z3b z3n z3c z4 h => Sx.r28_Find.n13 z0 z3b z3n z3c z4 (fun z0 z3b z3n z3c z4 h => Sx.r28_Find.n7_L A A C (N + 1) z0 z3b z3n z3c z4 h) (fun z0 z3b z3n z3c z4 h => Sx.r28_Find.n7_L A A C (N + 1) z0 z3b z3n z3c z4 h) A C h) (fun z0 z3b z3n z3c z4 h => Sx.r28_Find.n7_L A A C (N + 1) z0 z3b z3n z3c z4 h) A C h2 := by
        intro hm h2 k2
        refine pageR_calls hs hi htx fun h3 k3 => tupSI ?_
        by_cases hp : pageN (s.drop i) = 0
        · have e1 : foundN (s.drop i) = mailN (s.drop i) := by unfold foundN; rw [if_pos hp]
          have e2 : foundD (s.drop i) = (if mailN (s.drop i) = 0 then [] else mailto ++ (s.drop i).take (mailN (s.drop i))) := by unfold foundD; rw [if_pos hp]
          rw [if_pos hp]
          refine splT (by omega) (mailR_calls hs hi fun h4 k4 => tupSI ?_)
          by_cases hq : mailN (s.drop i) = 0
          · rw [if_pos hq, if_pos hq]
            exact splF (by omega) (no (fun hh => hh.2 (e1.trans hq)) h4 ((k2.trans k3).trans k4))
          · rw [if_neg hq] at e2
            rw [if_neg hq, if_neg hq]
            exact app hm _ _ e2 e1 hq h4 ((k2.trans k3).trans k4)
        · have e1 : foundN (s.drop i) = pageN (s.drop i) := by unfold foundN; rw [if_neg hp]
          have e2 : foundD (s.drop i) = pageD (s.drop i) := by unfold foundD; rw [if_neg hp]
          rw [if_neg hp]
          exact splF (by omega) (app hm _ _ e2 e1 hp h3 (k2.trans k3))
      refine rPrev_calls hs fun h2 k2 => vIntMk (spl (fun e0 => ?_) fun e0 => ?_)
      · have : i = 0 := by omega
        refine condT (condT (yes ?_ h2 k2))
        rw [this]; exact may_zero s
      · refine rBlank_calls (vBool_mk (condB (fun eb => ?_) fun eb => ?_))
        · exact condT (condT (yes (by unfold mayP; rw [eb]; rfl) h2 k2))
        · have hm : mayP s i = decide (prevP s i ∈ ([42, 95, 126, 40] : List Int)) := by unfold mayP; rw [eb]; rfl
          refine spl (fun e1 => condT (condT (yes (by rw [hm, e1]; decide) h2 k2))) fun e1 => spl (fun e2 => condT (condT (yes (by rw [hm, e2]; decide) h2 k2))) fun e2 => spl (fun e3 => condT (condT (yes (by rw [hm, e3]; decide) h2 k2))) fun e3 => spl (fun e4 => condT (condT (yes (by rw [hm, e4]; decide) h2 k2))) fun e4 => condF (condF (no ?_ h2 k2))
          rw [hm]
          simp [e1, e2, e3, e4]
  exact key _ _ (fun ob on oc h1 k o => hk h1 ob on oc k o) s.length s.length 0 h none 0 0 [] (by omega) (Nat.zero_le _) (by simpa using ht) (KB.refl h) (OwnF.none _ _ _) (Nat.zero_le _) (by omega) (by simp [findP])
end
end Go.Proofs
namespace Go.Proofs
open Go Go.Sh
set_option linter.unusedVariables false
set_option maxRecDepth 100000
theorem text_front {s : Bs} (h : IsText s) {k : Nat} (hk : k ≤ s.length) (hb : k < s.length → (s.getD k 0).toNat < 128 ∨ 192 ≤ (s.getD k 0).toNat) : IsText (s.take k) := by
  obtain ⟨rs, hrs, rfl⟩ := h
  induction rs generalizing k with
  | nil => simpa [encs] using isText_nil
  | cons r rs ih =>
    rw [encs_cons] at hk hb ⊢
    have hr := hrs r (List.mem_cons_self ..)
    rw [List.length_append] at hk hb
    by_cases h0 : k = 0
    · subst h0; exact isText_nil
    by_cases hlt : k < (encN r).length
    · have := hb (by omega)
      rw [List.getD_eq_getElem?_getD, List.getElem?_append_left hlt, ← List.getD_eq_getElem?_getD] at this
      have h1 := enc_tail hr.1 k (by omega) hlt
      have h2 := enc_tail2 hr.1 k (by omega) hlt
      omega
    · have := ih (k := k - (encN r).length) (fun x hx => hrs x (List.mem_cons_of_mem _ hx)) (by omega) (fun hl => by
        have := hb (by omega)
        rwa [List.getD_eq_getElem?_getD, List.getElem?_append_right (by omega), ← List.getD_eq_getElem?_getD] at this)
      rw [List.take_append, List.take_of_length_le (by omega)]
      exact text_cons hr this
theorem front_of {s : Bs} {k : Nat} (h : IsText s) (hd : IsText (s.drop k)) (hk : k ≤ s.length) : IsText (s.take k) := by
  refine text_front h hk fun hlt => ?_
  obtain ⟨rs, hrs, e⟩ := hd
  cases rs with
  | nil =>
    have := congrArg List.length e
    rw [List.length_drop] at this
    simp [encs] at this
    omega
  | cons r rs =>
    have hr := hrs r (List.mem_cons_self ..)
    have hlen := enc_len r
    have : s.getD k 0 = (encN r).getD 0 0 := by
      have e2 : (s.drop k).getD 0 0 = s.getD k 0 := by rw [List.getD_eq_getElem?_getD, List.getD_eq_getElem?_getD, List.getElem?_drop]; rfl
      rw [← e2, e, encs_cons, List.getD_eq_getElem?_getD, List.getElem?_append_left (by omega), ← List.getD_eq_getElem?_getD]
    rw [this]
    rcases enc_head hr.1 with ⟨hlt2, he⟩ | ⟨_, hge⟩
    · rw [he]; left; show (b8 r).toNat < 128; rw [b8_nat (by omega)]; exact hlt2
    · exact .inr hge
def toY (x : Nat × Nat × Bs) : List Value := [.agg ⟨[.int .i64 (x.1 : Int), .int .i64 (x.2.1 : Int), S x.2.2]⟩]
theorem prev_nn (s : Bs) (i : Int) : 0 ≤ prevP s i := by unfold prevP; split <;> omega
theorem U8.keep {B : Nat → Prop} {h h' : H} (u : U8 h) (k : Keep B h h') (h0 : B 0) (h1 : B 1) : U8 h' :=
  ⟨fun c hc => k.cell h0 (u.1 c hc), fun i hi => ⟨k.cell h1 (u.2 i hi).1, k.cell h1 (u.2 i hi).2⟩⟩
theorem KB.itp {h h' : H} (k : KB h h') : ItP Non h h' := ⟨k.1, fun b o e _ => by rw [k.2 b (Array.getElem?_eq_some_iff.1 e).1]; exact e⟩
theorem tupSS {a d : Bs} {k : Bs → Bs → Prop} (h : k a d) : vTup (.tuple ⟨[S a, S d]⟩) fun l => uncons l fun e l => vStr e fun s => uncons l fun e l => vStr e fun s2 => unnil l (k s s2) := h
theorem callYieldB {L : Nat} {args : Array Value} {h : H} {next : Value → H → Prop} : CallV Tryd.prog 4 (.func (.yield L) ⟨[]⟩ ⟨[]⟩) args h next = YCalls Tryd.prog L ⟨args.toList⟩ h fun v h' => vBool v fun b => cond b (next (.bool true) h') (next (.bool false) h') := by kernel_rfl
section
variable {h : H} {K : Value → H → Prop} {s : Bs} {c : UInt8}
theorem prevG {i : Nat} (u : U8 h) (hs : s.length ≤ 1000000) (ht : IsText s) (hd : IsText (s.drop i)) (hi : i ≤ s.length) (hk : ∀ h', KB h h' → K (.int .i32 (prevP s i)) h') : HCalls Tryd.prog 17 ⟨[S s, .int .i64 (i : Int)]⟩ h K :=
  prev_calls u hs (fun e => by have := hk h (KB.refl h); unfold prevP at this; rw [if_pos e] at this; exact this) fun h0 h1 h' k => by
    have := hk h' k
    unfold prevP at this
    rw [if_neg (by omega), Int.toNat_natCast] at this
    rw [Int.toNat_natCast, prev_last (by omega) hi ((isText_iff _).1 (front_of ht hd hi))]
    exact this
/-- may an address begin here -/
theorem may_walk {Y : Value} {a : Addr} {i : Nat} {x5 x6 : Bs} {Kn : Sx.auto_found_1.T5} {Ke1 : Sx.auto_found_1.T2} {Ke0 Kr : Sx.auto_found_1.T0} (hi : i ≠ 0 ∨ mayP s i = true)
    (hk : Sx.auto_found_1.n14 Y a (i : Int) x5 x6 (mayP s i) Kn Ke1 Ke0 Kr h) : Sx.auto_found_1.n13 Y a (i : Int) (prevP s i) x5 x6 Kn Ke1 Ke0 Kr h := by
  refine blank_calls (vBool_mk (condB (fun eb => ?_) fun eb => ?_))
  · have : mayP s i = true := by unfold mayP; rw [eb]; rfl
    rw [this] at hk; exact hk
  · have hm : mayP s i = decide (prevP s i ∈ ([42, 95, 126, 40] : List Int)) := by unfold mayP; rw [eb]; rfl
    have h0 := prev_nn s i
    rw [hm] at hk
    generalize prevP s i = p at *
    refine spl (fun hlt => ?_) fun hge => ?_
    · obtain ⟨n, rfl⟩ := Int.eq_ofNat_of_zero_le h0
      have ew : (IntKind.wrap .u8 (n : Int)) = ((UInt8.ofNat n).toNat : Int) := by
        have : (UInt8.ofNat n).toNat = n := by simp; omega
        rw [this]
        simp [IntKind.wrap, IntKind.bits, IntKind.signed]
        omega
      rw [ew]
      refine ixb_calls fun j hj => vIntMk ?_
      have em : ((UInt8.ofNat n) ∈ ([42, 95, 126, 40] : Bs)) ↔ (n : Int) ∈ ([42, 95, 126, 40] : List Int) := by
        have : (UInt8.ofNat n).toNat = n := by simp; omega
        simp only [List.mem_cons, List.not_mem_nil, or_false, ← UInt8.toNat_inj, this]
        simp only [show (42 : UInt8).toNat = 42 from rfl, show (95 : UInt8).toNat = 95 from rfl, show (126 : UInt8).toNat = 126 from rfl, show (40 : UInt8).toNat = 40 from rfl]
        omega
      refine spl (fun e => ?_) fun e => ?_
      · rw [decide_eq_true (em.1 (hj.1 e))] at hk; exact hk
      · rw [decide_eq_false (fun x => e (hj.2 (em.2 x)))] at hk; exact hk
    · rw [decide_eq_false (by simp only [List.mem_cons, List.not_mem_nil, or_false]; omega)] at hk
      exact hk
theorem found_emits {a : Addr} {t : Nat} (u : U8 h) (hs : s.length ≤ 1000000) (ht : IsText s) (v : Var h a t [S s]) :
    Emits Tryd.prog (.func (.func 16) ⟨[]⟩ ⟨[.pointer (some a)]⟩) h ((findP s).map toY) Non (fun k => (k = 0 ∨ k = 1) ∨ k = a.block) := by
  refine ⟨16, _, _, rfl, fun args w => by kernel_rfl, fun L J Stop h2 hn hJ hS hY hj => ?_⟩
  refine Sx.auto_found_1.ok (.func (.yield L) ⟨[]⟩ ⟨[]⟩) a _ _ ⟨s.length + 1, ?_⟩
  have hu0 : 0 < h.size := cell_lt (u.1 0 (by decide))
  have hu1 : 1 < h.size := cell_lt (u.2 0 (by decide)).1
  have mv : ∀ {h1 h2 : H}, Keep (fun k => ((k = 0 ∨ k = 1) ∨ k = a.block) ∧ k < h.size) h h1 → KB h1 h2 → Keep (fun k => ((k = 0 ∨ k = 1) ∨ k = a.block) ∧ k < h.size) h h2 := fun k1 k2 => Keep.trans k1 ((KB.w k2).less fun k hk => Nat.lt_of_lt_of_le hk.2 k1.1)
  have vv : ∀ {h1 : H}, Keep (fun k => ((k = 0 ∨ k = 1) ∨ k = a.block) ∧ k < h.size) h h1 → cell h1 a = some (S s) := fun k => (v.keep k ⟨.inr rfl, v.lt⟩).cell0 rfl
  have uu : ∀ {h1 : H}, Keep (fun k => ((k = 0 ∨ k = 1) ∨ k = a.block) ∧ k < h.size) h h1 → U8 h1 := fun k => u.keep k ⟨.inl (.inl rfl), hu0⟩ ⟨.inl (.inr rfl), hu1⟩
  have key : ∀ (E : Sx.auto_found_1.T0), (∀ h3, J [] h3 ∨ Stop h3 → E h3) → ∀ N M i h', s.length ≤ i + N → i ≤ s.length → IsText (s.drop i) → Keep (fun k => ((k = 0 ∨ k = 1) ∨ k = a.block) ∧ k < h.size) h h' → s.length ≤ i + M → J ((findGo M s i).map toY) h' →
      Sx.auto_found_1.n3_L E E E (N + 1) (.func (.yield L) ⟨[]⟩ ⟨[]⟩) a (i : Int) h' := by
    intro E hE N
    have fin : ∀ M i h', s.length ≤ i → J ((findGo M s i).map toY) h' → E h' := by
      intro M i h' hle hj'
      have : findGo M s i = [] := by cases M with
        | zero => rfl
        | succ M => unfold findGo; rw [if_pos hle]
      rw [this] at hj'
      exact hE _ (.inl hj')
    induction N with
    | zero =>
      intro M i h' hN hi htx hk hM hj'
      unfold Sx.auto_found_1.n3_L
      exact ⟨s, vv hk, splF (by omega) (fin M i h' (by omega) hj')⟩
    | succ N ih =>
      intro M i h' hN hi htx hk hM hj'
      unfold Sx.auto_found_1.n3_L
      refine ⟨s, vv hk, spl (fun hlt => ?_) fun hge => fin M i h' (by omega) hj'⟩
      obtain ⟨M', rfl⟩ : ∃ M', M = M' + 1 := ⟨M - 1, by omega⟩
      obtain ⟨w1, w2, w3, w4, w5, w6⟩ := text_step htx (by omega)
      have hfl := found_le (s.drop i)
      have hdl := foundD_le (s.drop i)
      rw [List.length_drop] at hfl hdl
      have no : ¬ (mayP s i = true ∧ foundN (s.drop i) ≠ 0) → ∀ x6 h1, KB h' h1 → Sx.auto_found_1.n9 (.func (.yield L) ⟨[]⟩ ⟨[]⟩) a (i : Int) [] x6 (Sx.auto_found_1.n3_L E E E (N + 1)) (Sx.auto_found_1.n3_L E E E (N + 1)) E E h1 := by
        intro hno x6 h1 k1
        unfold findGo at hj'
        rw [if_neg (by omega), if_neg hno] at hj'
        refine splT rfl (condT ⟨s, vv (mv hk k1), ⟨by omega, by omega, by omega⟩, ?_⟩)
        rw [sub_full s i (by omega)]
        have hne : (⟨⟨s.drop i⟩⟩ : ByteArray).size ≠ 0 := show (s.drop i).length ≠ 0 by simp; omega
        refine hcalls_below (fun w hw => Tryd.utf8_DecodeRuneInString ⟨⟨s.drop i⟩⟩ w ((uu (mv hk k1)).tabs hw)) fun h2 k2 => tupII ?_
        unfold Lib.decodeGo
        rw [if_neg hne, decode_dec]
        have := ih M' (i + (dec (s.drop i)).2) h2 (by omega) w2 w5 (mv hk (k1.trans k2)) (by omega) (hJ _ _ _ hj' (KB.itp (k1.trans k2)))
        rw [show (((i + (dec (s.drop i)).2 : Nat)) : Int) = (i : Int) + ((dec (s.drop i)).2 : Int) by omega] at this
        exact ⟨rng64 (n := (i : Int) + ((dec (s.drop i)).2 : Int)) (by omega) (by omega), this⟩
      have app : mayP s i = true → ∀ d n, foundD (s.drop i) = d → foundN (s.drop i) = n → n ≠ 0 → ∀ h1, KB h' h1 → Sx.auto_found_1.n9 (.func (.yield L) ⟨[]⟩ ⟨[]⟩) a (i : Int) ((s.drop i).take n) d (Sx.auto_found_1.n3_L E E E (N + 1)) (Sx.auto_found_1.n3_L E E E (N + 1)) E E h1 := by
        intro hm d n ed en hn h1 k1
        have hcut := found_cut htx (by omega)
        rw [List.drop_drop, en] at hcut
        unfold findGo at hj'
        rw [if_neg (by omega), if_pos ⟨hm, by omega⟩, ed, en] at hj'
        have hl : ((s.drop i).take n).length = n := by rw [List.length_take, List.length_drop]; omega
        have hne : (s.drop i).take n ≠ [] := fun e => by rw [e, List.length_nil] at hl; exact hn hl.symm
        refine splF hne (condF ⟨rng64 (by omega) (by omega), ?_⟩)
        rw [callYieldB, hl]
        have hj1 : J (toY (i, i + n, d) :: (findGo M' s (i + n)).map toY) h1 := hJ _ _ _ hj' (KB.itp k1)
        have ec : ((i : Int) + (n : Int)) = ((i + n : Nat) : Int) := by omega
        rw [ec]
        refine fun w hw2 => ?_
        obtain ⟨fn, tmps, assign, body, hrun, hrd⟩ := hY _ _ _ hj1 w hw2
        refine ⟨fn, tmps, assign, body, hrun, hrd.mono ?_⟩
        rintro e w' ⟨v, he, ho, hor⟩
        refine ⟨v, he, ho, ?_⟩
        rcases hor with ⟨rfl, hJ', hkr⟩ | ⟨rfl, hS, hkr⟩
        · exact ⟨rng64 (by omega) (by omega), ih M' (i + n) _ (by omega) (by omega) hcut (Keep.trans (mv hk k1) (Keep.less hkr.keep fun k (hk2 : ((k = 0 ∨ k = 1) ∨ k = a.block) ∧ k < h.size) => hk2.1)) (by omega) hJ'⟩
        · exact hE _ (.inr hS)
      refine ⟨s, vv hk, prevG (uu hk) hs ht htx hi fun h1 k1 => vIntMk (may_walk (by by_cases h0 : i = 0; (right; rw [h0]; exact may_zero s); (left; exact h0)) ?_)⟩
      cases hm : mayP s i with
      | false => exact no (fun hh => by rw [hm] at hh; cases hh.1) _ h1 k1
      | true =>
        refine ⟨s, vv (mv hk k1), ⟨by omega, by omega, by omega⟩, ?_⟩
        rw [sub_full s i (by omega)]
        refine page_calls (uu (mv hk k1)) (by rw [List.length_drop]; omega) htx fun h2 k2 => tupSS ?_
        have k12 := k1.trans k2
        by_cases hp : pageN (s.drop i) = 0
        · have e1 : foundN (s.drop i) = mailN (s.drop i) := by unfold foundN; rw [if_pos hp]
          have e2 : foundD (s.drop i) = (if mailN (s.drop i) = 0 then [] else mailto ++ (s.drop i).take (mailN (s.drop i))) := by unfold foundD; rw [if_pos hp]
          refine splT (by rw [hp]; rfl) ⟨s, vv (mv hk k12), ⟨by omega, by omega, by omega⟩, ?_⟩
          rw [sub_full s i (by omega)]
          refine mail_calls (by rw [List.length_drop]; omega) fun h3 k3 => tupSS ?_
          by_cases hq : mailN (s.drop i) = 0
          · rw [hq, if_pos rfl]
            exact no (fun hh => hh.2 (e1.trans hq)) _ h3 (k12.trans k3)
          · rw [if_neg hq] at e2
            rw [if_neg hq]
            exact app hm _ _ e2 e1 hq h3 (k12.trans k3)
        · have e1 : foundN (s.drop i) = pageN (s.drop i) := by unfold foundN; rw [if_neg hp]
          have e2 : foundD (s.drop i) = pageD (s.drop i) := by unfold foundD; rw [if_neg hp]
          have hl := page_le (s.drop i)
          have hne : (s.drop i).take (pageN (s.drop i)) ≠ [] := fun e => by
            have := congrArg List.length e
            rw [List.length_take, List.length_nil] at this; omega
          exact splF hne (app hm _ _ e2 e1 hp h2 k12)
  exact key _ (fun h3 hh => hh) s.length s.length 0 h2 (by omega) (Nat.zero_le _) (by simpa using ht) (hn.kw.less fun _ h => h.2) (by omega) hj
end
end Go.Proofs
namespace Go.Proofs
open Go Go.Sh
set_option linter.unusedVariables false
set_option maxRecDepth 100000
theorem flatIA (k : IntKind) : Flat (elInt k) := fun _ _ _ _ _ _ h => h
theorem flatPairA {α β : Type} {E : El α} {F : El β} (h1 : Flat E) (h2 : Flat F) : Flat (elPair E F) := fun A A' h h' x cs ⟨c1, c2, e, r1, r2⟩ => ⟨c1, c2, e, h1 _ _ _ _ _ _ r1, h2 _ _ _ _ _ _ r2⟩
theorem flatFd : Flat elFd := flatPairA (flatIA _) (flatPairA (flatIA _) flatStr)
theorem findGo_len : ∀ (M : Nat) (s : Bs) (i : Nat), (findGo M s i).length ≤ M
  | 0, s, i => Nat.le_refl _
  | M + 1, s, i => by
    unfold findGo
    split
    · exact Nat.zero_le _
    · split
      · have := findGo_len M s (i + foundN (s.drop i)); simp; omega
      · have := findGo_len M s (i + (dec (s.drop i)).2); omega
theorem findGo_in : ∀ (M : Nat) (s : Bs) (i : Nat), s.length ≤ 1000000 → ∀ x ∈ findGo M s i, x.1 ≤ 1000000 ∧ x.2.1 ≤ 1000000 ∧ x.2.2.length ≤ 1000007
  | 0, s, i, _, x, hx => by cases hx
  | M + 1, s, i, hs, x, hx => by
    unfold findGo at hx
    split at hx
    · cases hx
    · split at hx
      · rcases List.mem_cons.1 hx with rfl | hx
        · have h1 := found_le (s.drop i)
          have h2 := foundD_le (s.drop i)
          rw [List.length_drop] at h1 h2
          exact ⟨by show i ≤ _; omega, by show i + foundN (s.drop i) ≤ _; omega, by show (foundD (s.drop i)).length ≤ _; omega⟩
        · exact findGo_in M s _ hs x hx
      · exact findGo_in M s _ hs x hx
theorem unY {z : Nat × Nat × Bs} {k : Int → Int → Bs → Prop} (h : k z.1 z.2.1 z.2.2) : uncons (toY z) fun e41 l42 => vAgg e41 fun l43 => uncons l43 fun e44 l45 => vInt .i64 e44 fun i46 => uncons l45 fun e47 l48 => vInt .i64 e47 fun i49 => uncons l48 fun e50 l51 => vStr e50 fun s52 => unnil l51 (unnil l42 (k i46 i49 s52)) :=
  show vInt .i64 (.int .i64 (z.1 : Int)) fun i => vInt .i64 (.int .i64 (z.2.1 : Int)) fun j => k i j z.2.2 from vIntMk (vIntMk h)
section
variable {h : H} {K : Value → H → Prop} {s : Bs} {c : UInt8}
theorem find_calls (u : U8 h) (hs : s.length ≤ 1000000) (ht : IsText s) (hk : ∀ h' b n c, KB h h' → OwnF elFd h' h.size 28 b n c ((findP s).map toF) → K (.slice b n c) h') : HCalls Tryd.prog 6 ⟨[S s]⟩ h K := by
  refine Sx.auto_Find.ok _ _ _ (newx_var fun y h1 vy k1 ey _ => Sx.auto_found.ok _ _ _ (newx_var fun a h2 va k2 ea _ => ?_))
  have hu0 : 0 < h.size := cell_lt (u.1 0 (by decide))
  have hu1 : 1 < h.size := cell_lt (u.2 0 (by decide)).1
  have vy2 := vy.kb k2
  have k12 := k1.trans k2
  have s1 := k1.1
  have s2 := k2.1
  have vyl := vy.lt
  have val := va.lt
  have hlen : (findP s).length ≤ 1000000 := Nat.le_trans (findGo_len s.length s 0) hs
  have hin := findGo_in s.length s 0 hs
  refine ⟨(findP s).map toY, Non, _, found_emits (u.kb k12) hs ht va, (fun x hx => by obtain ⟨z, _, rfl⟩ := List.mem_map.1 hx; rfl),
    rounds_of (fun xs h' => KB h h' ∧ h2.size ≤ h'.size ∧ ∃ (out : List FoundP) (rest : List (Nat × Nat × Bs)) (ob : Option Addr) (on oc : Nat), Var h' y 24 [.slice ob on oc] ∧ OwnF elFd h' h2.size 28 ob on oc out ∧ (∀ a, ob = some a → 0 < on) ∧ (∀ z ∈ rest, z ∈ findP s) ∧ xs = rest.map toY ∧ out ++ rest.map toF = (findP s).map toF)
      ?_ ?_ ?_ _ _ ⟨k12, Nat.le_refl _, [], findP s, none, 0, 0, vy2, OwnF.none _ _ _, (fun a e => by cases e), (fun z hz => hz), rfl, rfl⟩⟩
  · rintro xs h3 h4 ⟨kb, hz, out, rest, ob, on, oc, v, o, hp, hr, e1, e2⟩ n
    exact ⟨kb.nz n (by omega), Nat.le_trans hz n.1, out, rest, ob, on, oc, v.kw n.kw, o.kw n.kw, hp, hr, e1, e2⟩
  · rintro x xs h3 Kc ⟨kb, hz, out, rest, ob, on, oc, v, o, hp, hr, e1, e2⟩ hKc
    cases rest with
    | nil => cases e1
    | cons z rest =>
      cases e1
      have hzl := hin z (hr z (List.mem_cons_self ..))
      have hol : on + 1 ≤ 1000000 := by
        have := congrArg List.length e2
        have h1 := o.own.len
        rw [List.length_append, List.length_map, List.length_map, List.length_cons] at this
        omega
      refine unY ?_
      unfold Sx.auto_Find.n7_rd
      refine newx_var fun a4 h4 v4 k4 e4 _ => stL_var0 v4 (Nat.le_refl _) fun h5 v5 k5 s5 => ⟨(k4.kp).trans (KX.kp v4 k5 fun e => ?_), fun h6 n6 => ?_⟩
      · rcases e with (e | e) | e <;> omega
      have k45 : KB h3 h5 := KB.step k4 k5 (by omega)
      have kw6 : KW h3 h6 := KW.trans (KB.w k45) n6.kw
      have kb6 : KB h h6 := KB.nz (kb.trans k45) n6 (by omega)
      have v6 := v5.kw n6.kw
      have vy6 := v.kw kw6
      have o6 := o.kw kw6
      have s6 : h2.size ≤ h6.size := Nat.le_trans hz kw6.1
      refine ⟨_, _, _, vy6.cell0 rfl, _, v6.cell 0 rfl, _, v6.cell 1 rfl, _, v6.cell 2 rfl, one_appG (x := toF z) apdFd (fun A h => fdR (rng64 (n := (z.1 : Int)) (by omega) (by omega)) (rng64 (n := (z.2.1 : Int)) (by omega) (by omega)) (by simp only [maxLen, toF]; omega)) o6 s6 (by simp only [maxLen]; omega) (by omega) fun b7 c7 h7 o7 k7 => vSliceMk ?_⟩
      have hob : ∀ aa, ob = some aa → h2.size ≤ aa.block := o6.lo
      have vy7 : Var h7 y 24 [.slice ob on oc] := vy6.keep (SK.w k7) ⟨vy6.lt, fun aa e => by have := hob aa e; omega⟩
      refine stL_var0 vy7 (Nat.le_refl _) fun h8 v8 k8 s8 => hKc _ _ ?_ ?_
      · refine KpP.trans ⟨fun b ob' e hl => ?_, k7.1, fun b ob' e hr hl => ?_⟩ (KX.kp vy7 k8 fun e => ?_)
        · rw [k7.2 b ⟨(Array.getElem?_eq_some_iff.1 e).1, fun aa ea => fun eb => ?_⟩]; exact e
          subst eb
          have hpos := hp aa ea
          have hlen1 := o6.own.len
          obtain ⟨cs, hc⟩ : ∃ cs, out[0]? = some cs := ⟨out[0]'(by omega), List.getElem?_eq_getElem _⟩
          obtain ⟨ar, ear, hA⟩ := o6.row.at' 0 _ hc
          rw [ea] at ear; cases ear
          have hc2 := (At.int hA.fst).1
          unfold Sh.cell at hc2
          rw [add_block, e] at hc2
          cases ob' <;> first | exact Bool.noConfusion hl | (simp at hc2; done)
        · rw [k7.2 b ⟨(Array.getElem?_eq_some_iff.1 e).1, fun aa ea => by have := hob aa ea; rcases hr with (hr | hr) | hr <;> omega⟩]; exact e
        · rcases e with (e | e) | e <;> omega
      · have sz7 := k7.1
        refine ⟨KB.step (SK.trans kb6 (k7.less fun k hk => ⟨Nat.lt_of_lt_of_le hk kb6.1, fun aa e => by have := hob aa e; have : k < h.size := hk; omega⟩)) k8 (by omega), by have := k8.1; omega, out ++ [toF z], rest, b7, on + 1, c7, v8, ?_, (fun _ _ => Nat.succ_pos _), (fun z' hz' => hr z' (List.mem_cons_of_mem _ hz')), rfl, by rw [← e2, List.append_assoc]; rfl⟩
        exact o7.flatK (B := fun k => k ≠ y.block) ⟨k8.1, fun b hb => k8.2 b hb⟩ flatFd fun g hg => by omega
  · rintro h3 ⟨kb, hz, out, rest, ob, on, oc, v, o, hp, hr, e1, e2⟩ hd
    cases rest with
    | cons z rest => cases e1
    | nil =>
      simp at e2
      exact ⟨_, _, _, v.cell0 rfl, hd, hk _ _ _ _ (kb.leave (by omega)) (by rw [← e2]; exact ((o.kw ((KW.refl h3).leave hd)).lower (by omega)))⟩
end
end Go.Proofs
