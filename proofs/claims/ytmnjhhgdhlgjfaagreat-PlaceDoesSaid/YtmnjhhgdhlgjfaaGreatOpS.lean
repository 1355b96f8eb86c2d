/- open: elements; what is special; one of some names; Until. No condition but that the library's variable holds a number. -/
import Derived.Test.YtmnjhhgdhlgjfaaGreatDoA
import Derived.Test.YtmnjhhgdhlgjfaaGreatTxA
import Derived.Test.YtmnjhhgdhlgjfaaGreatHmE
import Derived.Test.YtmnjhhgdhlgjfaaGreatOpA
import Derived.Test.YtmnjhhgdhlgjfaaGreatShelf
namespace Go.Proofs
open Go Go.Sh
set_option linter.unusedVariables false
set_option maxRecDepth 100000
abbrev elOpen : El OpenP := elPair (elInt .i64) (elPair (elInt .u8) (elPair elStr (elInt .u8)))
abbrev cellsO (x : OpenP) : List Value := [.int .i64 x.1, .int .u8 x.2.1, S x.2.2.1, .int .u8 x.2.2.2]
abbrev OpenR (A : Nat → Prop) (h : H) (m : OpenP) : Prop := elOpen.R A h m (cellsO m)
/-- its parts are in range -/
def OpenW (m : OpenP) : Prop := Rng .i64 m.1 ∧ Rng .u8 m.2.1 ∧ m.2.2.1.length ≤ maxLen ∧ Rng .u8 m.2.2.2
theorem OpenW.r {A : Nat → Prop} {h : H} {m : OpenP} (w : OpenW m) : OpenR A h m := ⟨[.int .i64 m.1], _, rfl, ⟨rfl, w.1⟩, [.int .u8 m.2.1], _, rfl, ⟨rfl, w.2.1⟩, [S m.2.2.1], _, rfl, ⟨rfl, w.2.2.1⟩, rfl, w.2.2.2⟩
theorem ldOpen {A : Nat → Prop} {h : H} {a : Addr} {m : OpenP} {K : Int → Int → Bs → Int → Prop} (hA : At elOpen A h a m) (hk : OpenW m → K m.1 m.2.1 m.2.2.1 m.2.2.2) :
    ∃ i, cell h (a.add 0) = some (.int .i64 i) ∧ ∃ j, cell h (a.add 1) = some (.int .u8 j) ∧ ∃ s, cell h (a.add 2) = some (S s) ∧ ∃ k, cell h (a.add 3) = some (.int .u8 k) ∧ K i j s k :=
  have h1 := hA.fst.int
  have h2 := hA.snd.fst.int
  have h3 := (hA.snd.sndAt (k := 2) rfl).fst.str
  have h4 := ((hA.snd.sndAt (k := 2) rfl).sndAt (k := 3) rfl).int
  ⟨_, h1.1, _, h2.1, _, h3.1, _, h4.1, hk ⟨h1.2, h2.2, h3.2, h4.2⟩⟩
theorem atOpen {A : Nat → Prop} {h : H} {a : Addr} {m : OpenP} (hA : At elOpen A h a m) : OpenW m :=
  ⟨hA.fst.int.2, hA.snd.fst.int.2, (hA.snd.sndAt (k := 2) rfl).fst.str.2, ((hA.snd.sndAt (k := 2) rfl).sndAt (k := 3) rfl).int.2⟩
/-- an element in a variable -/
theorem ldVar {h : H} {a : Addr} {t : Nat} {m : OpenP} {K : Int → Int → Bs → Int → Prop} (v : Var h a t (cellsO m)) (hk : K m.1 m.2.1 m.2.2.1 m.2.2.2) :
    ∃ i, cell h (a.add 0) = some (.int .i64 i) ∧ ∃ j, cell h (a.add 1) = some (.int .u8 j) ∧ ∃ s, cell h (a.add 2) = some (S s) ∧ ∃ k, cell h (a.add 3) = some (.int .u8 k) ∧ K i j s k :=
  ⟨_, v.cell 0 rfl, _, v.cell 1 rfl, _, v.cell 2 rfl, _, v.cell 3 rfl, hk⟩

theorem encStrL {A : Nat → Prop} {h : H} : ∀ {l : List Bs}, (∀ s ∈ l, s.length ≤ maxLen) → Enc elStr A h l (l.map S)
  | [], _ => rfl
  | s :: l, hs => ⟨[S s], l.map S, rfl, ⟨rfl, hs s (by simp)⟩, encStrL fun x hx => hs x (by simp [hx])⟩
def shortB (l : List Bs) : Bool := l.all fun s => Nat.ble s.length maxLen
/-- words that are written out -/
theorem rowLit {h : H} {a : Addr} {t : Nat} {ws : List Bs} (v : Var h a t (ws.map S)) (hs : shortB ws = true) (hl : Nat.ble ws.length maxLen = true) : Row elStr (fun _ => True) h (some a) ws.length ws.length ws :=
  Row.of (encStrL fun s h => Nat.le_of_ble_eq_true (List.all_eq_true.1 hs s h)) (fun j x hx => ⟨a, rfl, v.cell j hx⟩) rfl (Nat.le_refl _) (Nat.le_of_ble_eq_true hl) fun x e => trivial

theorem indexByte_mem (l : Bs) (c : UInt8) : 0 ≤ Lib.indexByte l c ↔ c ∈ l := by
  by_cases h : 0 ≤ Lib.indexByte l c
  · refine ⟨fun _ => ?_, fun _ => h⟩
    obtain ⟨o, ho⟩ := Int.eq_ofNat_of_zero_le h
    exact List.mem_of_getElem? (Lib.indexByte_some ho).1
  · refine ⟨fun h2 => absurd h2 h, fun hm => ?_⟩
    have e : Lib.indexByte l c = -1 := by have := Lib.indexByte_ge l c; omega
    obtain ⟨i, hi, he⟩ := List.mem_iff_getElem.1 hm
    exact absurd (by rw [List.getElem?_eq_getElem hi, he]) (Lib.indexByte_none e i)
section
variable {A B : Nat → Prop} {h : H} {b b2 : Option Addr} {n c n2 c2 : Nat} {ns : List Bs} {s row : Bs} {x : OpenP} {sc sp : Int}
theorem contains_calls (m : ML h) {t u : Bs} (ht : t.length < 4294967281) {K : Value → H → Prop} (hk : K (.bool (Lib.contains t u)) h) : HCalls Tryz.prog 91 ⟨[S t, S u]⟩ h K :=
  hcalls_of (v := .bool (Lib.contains t u)) (fun w hw => by
    obtain ⟨x, hx⟩ := m
    exact Tryz.strings_Contains ⟨⟨t⟩⟩ ⟨⟨u⟩⟩ x w (by rw [Lib.size_eq]; exact ht) (by rw [cell_eq, hw]; exact hx)) hk
theorem containsByte_calls {t : Bs} {u : UInt8} {K : Value → H → Prop} (hk : K (.bool (Lib.contains t [u])) h) : HCalls Tryz.prog 91 ⟨[S t, S [u]]⟩ h K :=
  hcalls_of (v := .bool (Lib.contains t [u])) (fun w hw => by
    have := Tryz.strings_Contains_one ⟨⟨t⟩⟩ u w
    have e : decide (0 ≤ Lib.indexByte t u) = Lib.contains t [u] := by
      rw [contains_one, Bool.eq_iff_iff, decide_eq_true_eq, decide_eq_true_eq]; exact indexByte_mem t u
    rw [← e]; exact this) hk

theorem has_calls (m : ML h) (hr : row.length < 4294967281) (hs : s.length ≤ 9000000000000000000) {K : Value → H → Prop} (hk : K (.bool (hasP row s)) h) : HCalls Tryz.prog 83 ⟨[S row, S s]⟩ h K := by
  refine Sx.open_has.ok _ _ _ _ (spl (fun e => ?_) fun e => containsByte_calls (vBool_mk (condB (fun e2 => ?_) fun e2 => ⟨by simp; omega, by simp; omega, contains_calls m hr (vBool_mk (condK (K := fun b => K (.bool b) h) ?_))⟩)))
  · have : hasP row s = false := by unfold hasP; rw [decide_eq_true e]; rfl
    rwa [this] at hk
  · have : hasP row s = false := by unfold hasP; rw [e2]; simp
    rwa [this] at hk
  · have : hasP row s = Lib.contains row ([32] ++ s ++ [32]) := by unfold hasP; rw [e2, decide_eq_false e]; simp
    rwa [this] at hk
theorem hasRow_calls (ws : List Bs) (hp : plainW ws = true) (hl : row = rowOf ws) (hr : row.length < 4294967281) (m : ML h) (hs : s.length ≤ 9000000000000000000) {K : Value → H → Prop} (hk : K (.bool (inNames ws s)) h) : HCalls Tryz.prog 83 ⟨[S row, S s]⟩ h K := by
  subst hl
  refine has_calls m hr hs ?_
  rw [has_row hp]; exact hk

theorem indexStr_calls (r : Row elStr A h b n c ns) {K : Value → H → Prop} (hk : ∀ i : Int, (0 ≤ i ↔ s ∈ ns) → K (.int .i64 i) h) : HCalls Tryz.prog 94 ⟨[.slice b n c, S s]⟩ h K := by
  refine Sx.slices_Index_string.ok _ _ _ _ _ _ ?_
  have hl := r.len
  have hm : n ≤ maxLen := Nat.le_trans r.cap r.max
  simp only [maxLen] at hm
  refine ⟨n + 1, ?_⟩
  have key : ∀ k i, i + k = n → (∀ j (h1 : j < ns.length), j < i → ns[j] ≠ s) →
      Sx.slices_Index_string.n6_L (fun h => K (.int .i64 (-1)) h) (fun h => K (.int .i64 (-1)) h) (fun y4 h => K (.int .i64 y4) h) (k + 1) b n c s (n : Int) (i : Int) h := by
    intro k
    induction k with
    | zero =>
      intro i hi hall
      refine splF (by omega) (hk (-1) ⟨fun h => absurd h (by decide), fun hm => ?_⟩)
      obtain ⟨j, hj, e⟩ := List.mem_iff_getElem.1 hm
      exact absurd e (hall j hj (by omega))
    | succ k ih =>
      intro i hi hall
      refine splT (by omega) (r.idxN (i := i) (by omega) rfl fun a hA => ldS hA fun _ => spl (fun e => hk i ⟨fun _ => by rw [e]; exact List.getElem_mem _, fun _ => by omega⟩) fun e => ⟨rng64 (by omega) (by omega), ih (i + 1) (by omega) fun j h1 hj => ?_⟩)
      by_cases e2 : j < i
      · exact hall j h1 e2
      · have : j = i := by omega
        subst this
        exact fun e3 => e e3.symm
  exact key n 0 (by omega) fun j _ hj => absurd hj (Nat.not_lt_zero _)
theorem containsStr_calls (r : Row elStr A h b n c ns) {K : Value → H → Prop} (hk : K (.bool (inNames ns s)) h) : HCalls Tryz.prog 88 ⟨[.slice b n c, S s]⟩ h K := by
  refine Sx.slices_Contains_string.ok _ _ _ _ _ _ (indexStr_calls r fun i hi => vIntMk (splK (K := fun b => K (.bool b) h) ?_))
  have : decide (i ≥ 0) = inNames ns s := by unfold inNames; rw [Bool.eq_iff_iff, decide_eq_true_eq, decide_eq_true_eq]; exact hi
  rwa [this]
theorem special_calls (m : ML h) (hs : s.length ≤ 9000000000000000000) {K : Value → H → Prop} (hk : K (.bool (specialP sp s)) h) : HCalls Tryz.prog 61 ⟨[.int .u8 sp, S s]⟩ h K := by
  refine Sx.open_Special.ok _ _ _ _ (spl (fun e => condT <| hasRow_calls wHTML wHTML_ok (by decide +kernel) (by decide +kernel) m hs (vBool_mk (condK (K := fun b => K (.bool b) h) ?_))) fun e => condF <| spl (fun e2 => hasRow_calls wMath wMath_ok (by decide +kernel) (by decide +kernel) m hs (vBool_mk (condK (K := fun b => K (.bool b) h) ?_))) fun e2 => spl (fun e3 => hasRow_calls wSVG wSVG_ok (by decide +kernel) (by decide +kernel) m hs (vBool_mk (condK (K := fun b => K (.bool b) h) ?_))) fun e3 => ?_)
  · unfold specialP at hk; rwa [if_pos e] at hk
  · unfold specialP at hk; rwa [if_neg e, if_pos e2] at hk
  · unfold specialP at hk; rwa [if_neg e, if_neg e2, if_pos e3] at hk
  · unfold specialP at hk; rwa [if_neg e, if_neg e2, if_neg e3] at hk
theorem of_calls (r : Row elStr A h b n c ns) {K : Value → H → Prop} (hk : ∀ h', KB h h' → K (.bool (oneP x ns)) h') : HCalls Tryz.prog 77 ⟨[.agg ⟨cellsO x⟩, .slice b n c]⟩ h K := by
  refine Sx.open_of.ok _ _ _ _ _ _ _ _ _ (newx_var fun a h1 v1 k1 _ _ => ⟨_, v1.cell 1 rfl, spl (fun e => ⟨_, v1.cell 2 rfl, containsStr_calls (r.kb k1) (vBool_mk (condK (K := fun b => K (.bool b) h1) ?_))⟩) fun e => ?_⟩)
  · have := hk h1 k1
    unfold oneP at this; rwa [decide_eq_true e, Bool.true_and] at this
  · have := hk h1 k1
    unfold oneP at this; rwa [decide_eq_false e, Bool.false_and] at this
theorem ofLit_calls (ws : List Bs) {k : Nat} (hn : ws.length = k) (hs : shortB ws = true) (hl : Nat.ble ws.length maxLen = true) {h' : H} {a : Addr} {t : Nat} (v : Var h' a t (ws.map S)) {K : Value → H → Prop} (hk : ∀ h2, KB h' h2 → K (.bool (oneP x ws)) h2) :
    HCalls Tryz.prog 77 ⟨[.agg ⟨cellsO x⟩, .slice (some a) k k]⟩ h' K := by
  subst hn
  exact of_calls (rowLit v hs hl) hk
end
def backsO (l : List OpenP) : Nat → List (List Value)
  | 0 => []
  | i + 1 => [.int .i64 i, .agg ⟨cellsO (l.getD i (0, 0, [], 0))⟩] :: backsO l i
theorem backsO_len (l : List OpenP) : ∀ {i : Nat}, ∀ x ∈ backsO l i, x.length = 2
  | 0, x, hx => by cases hx
  | i + 1, x, hx => by
    unfold backsO at hx
    rcases List.mem_cons.1 hx with rfl | hx
    · rfl
    · exact backsO_len l x hx
theorem callYield {L : Nat} {args : Array Value} {h : H} {next : Value → H → Prop} : CallV Tryz.prog 4 (.func (.yield L) ⟨[]⟩ ⟨[]⟩) args h next = YCalls Tryz.prog L ⟨args.toList⟩ h fun v h' => vBool v fun b => cond b (next (.bool true) h') (next (.bool false) h') := by kernel_rfl

section
variable {A : Nat → Prop} {h : H} {b : Option Addr} {n c : Nat} {l : List OpenP}

theorem backO_emits {a : Addr} (r : Row elOpen A h b n c l) (v : Var h a 43 [.slice b n c]) :
    Emits Tryz.prog (.func (.func 93) ⟨[]⟩ ⟨[.pointer (some a)]⟩) h (backsO l l.length) Non (fun k => A k ∨ k = a.block) := by
  have hl := r.len
  have hm : n ≤ maxLen := Nat.le_trans r.cap r.max
  simp only [maxLen] at hm
  refine ⟨93, _, _, rfl, fun args w => by kernel_rfl, fun L J Stop h2 hn hJ hS hY hj => ?_⟩
  refine Sx.slices_Backward_1_apiOpen1.ok (.func (.yield L) ⟨[]⟩ ⟨[]⟩) a _ _ ?_
  refine ⟨_, _, _, (v.kw hn.kw).cell0 rfl, rng64 (by omega) (by omega), l.length + 1, ?_⟩
  rw [← hl]
  have key : ∀ i, i ≤ l.length → ∀ h', Keep (fun k => (A k ∨ k = a.block) ∧ k < h.size) h h' → J (backsO l i) h' →
      Sx.slices_Backward_1_apiOpen1.n3_L (fun h3 => J [] h3 ∨ Stop h3) (fun h3 => J [] h3 ∨ Stop h3) (fun h3 => J [] h3 ∨ Stop h3) (i + 1) (.func (.yield L) ⟨[]⟩ ⟨[]⟩) a ((i : Int) - 1) h' := by
    intro i
    induction i with
    | zero => exact fun _ h' hk hJ => splF (by omega) (.inl hJ)
    | succ i ih =>
      intro hi h' hk hJ
      obtain ⟨ar, ear, hA⟩ := r.at' i _ (List.getElem?_eq_getElem (by omega))
      have hx : ((i + 1 : Nat) : Int) - 1 = (i : Int) := by omega
      rw [hx]
      have hA' : At elOpen (fun _ => True) h' (ar.add (i * elOpen.sz)) l[i] := hA.keep (hk.less fun k hk => ⟨.inl hk.1, hk.2⟩) fun _ _ _ => trivial
      have v' : Var h' a 43 [.slice b n c] := v.keep hk ⟨.inr rfl, v.lt⟩
      refine splT (by omega) ⟨_, _, _, v'.cell0 rfl, ⟨by omega, by omega⟩, ?_⟩
      rw [ear]
      refine ldOpen hA' fun _ => ?_
      rw [callYield]
      unfold backsO at hJ
      rw [getD_get (by omega)] at hJ
      refine fun w hw2 => ?_
      obtain ⟨fn, tmps, assign, body, hrun, hrd⟩ := hY _ _ _ hJ w hw2
      refine ⟨fn, tmps, assign, body, hrun, hrd.mono ?_⟩
      rintro e w' ⟨v, he, ho, hor⟩
      refine ⟨v, he, ho, ?_⟩
      rcases hor with ⟨rfl, hJ', hkr⟩ | ⟨rfl, hS, hkr⟩
      · exact ⟨rng64 (by omega) (by omega), ih (by omega) _ (Keep.trans (hw2 ▸ hk) (hkr.keep.less fun _ h => h.1)) hJ'⟩
      · exact .inr hS
  exact key l.length (Nat.le_refl _) h2 (hn.kw.less fun _ h => h.2) hj

theorem outwards_calls {K : Value → H → Prop} (hk : ∀ a h', Var h' a 43 [.slice b n c] → KB h h' → a.block = h.size → K (.func (.func 93) ⟨[]⟩ ⟨[.pointer (some a)]⟩) h') :
    HCalls Tryz.prog 76 ⟨[.slice b n c]⟩ h K :=
  Sx.open_outwards.ok _ _ _ _ _ (Sx.slices_Backward_apiOpen.ok _ _ _ _ _ (newx_var fun a1 h1 v1 k1 e1 _ => hk a1 h1 v1 k1 e1))

/-- what a round of such a loop may do at its end -/
abbrev MidO (D : Nat) (Rd : Nat → Prop) (h1 : H) : H → (H → Prop) → Prop := fun he p => KpP Rd h1 he ∧ ∀ h2, NzP Non (D + 1) he h2 → p h2
abbrev FinO (D : Nat) (Rd : Nat → Prop) : H → H → (H → Prop) → Prop := fun hb h' p => KpP Rd hb h' ∧ ∀ h4, NzP Non (D + 1) h' h4 → dOpen D h4 → p h4

/-- the end of a function with one such loop: its result stands in a variable -/
theorem leave_k {h0 h : H} {D t : Nat} {a : Addr} {cs : List Value} {Q : H → Prop} (hd : dOpen D h) (k : KB h0 h) (hD : h0.size ≤ D) (v : Var h a t cs) (hk : ∀ h', KB h0 h' → Var h' a t cs → Q h') : leaveX [markD D] h Q :=
  ⟨hd, hk _ (k.leave hD) (v.kw ((KW.refl h).leave hd))⟩

/-- the head of a round: the element in a variable of the round's own -/
theorem front_open {D : Nat} {Rd : Nat → Prop} {h h1 : H} {t : Nat} {x : OpenP} {Bd : Addr → H → Prop} (k1 : KB h h1) (hRd : ∀ k, Rd k → k < h.size) (hD : h.size ≤ D) (hk : ∀ a hb, KB h hb → Var hb a t (cellsO x) → Bd a hb) :
    newx h1 ⟨[(.int .i64 (0 : Int)), (.int .u8 (0 : Int)), (S ([] : List UInt8)), (.int .u8 (0 : Int))]⟩ t fun a h2 => stL a [.int .i64 x.1, .int .u8 x.2.1, S x.2.2.1, .int .u8 x.2.2.2] 0 h2 fun h3 => MidO D Rd h1 h3 (Bd a) := by
  have k1s := k1.1
  refine newx_var fun a4 h4 v4 k4 e4 _ => stL_var0 v4 (Nat.le_refl _) fun h5 v5 k5 s5 => ⟨(k4.kp).trans (KX.kp v4 k5 fun e => ?_), fun h6 n6 => ?_⟩
  · have := hRd _ e; omega
  · exact hk a4 h6 ((k1.trans (KB.step k4 k5 (by omega))).nz n6 (by omega)) (v5.kw n6.kw)

theorem scan_open {R : Type} {f : Nat → OpenP → Option R} {val : R → Value} {d res : R} {h0 : H} {a y : Addr} {ty : Nat} {z : Value} {rdd : Round} {PR : H → Prop}
    (k0 : KB h0 h) (r : Row elOpen A h b n c l) (hA : ∀ k, A k → k < h0.size) (va : Var h a 43 [.slice b n c]) (vy : Var h y ty [z]) (hy : h0.size ≤ y.block) (hne : y.block ≠ a.block)
    (hres : scan f d l = res)
    (hrd : ∀ (i : Nat) (hi : i < l.length) (h1 : H) (Kc : H → H → Prop), KB h h1 →
      (∀ hb h', KB h hb → KB hb h' → f i l[i] = none → Kc hb h') →
      (∀ hb h' q, KB h hb → KB hb h' → f i l[i] = some q → stL y [val q] 0 h' fun h'' => FinO h.size (fun k => A k ∨ k = a.block) hb h'' PR) →
      (∀ hb h', KB h hb → KB hb h' → f i l[i] = some d → FinO h.size (fun k => A k ∨ k = a.block) hb h' fun h4 => stL y [val d] 0 h4 PR) →
      rdd [.int .i64 i, .agg ⟨cellsO l[i]⟩] (MidO h.size (fun k => A k ∨ k = a.block) h1) Kc (FinO h.size (fun k => A k ∨ k = a.block)) h1)
    (hPR : ∀ h', KB h0 h' → dOpen h.size h' → Var h' y ty [val res] → PR h') :
    Ranges Tryz.prog (.func (.func 93) ⟨[]⟩ ⟨[.pointer (some a)]⟩) 2 h rdd fun h4 => stL y [val d] 0 h4 PR := by
  have k0s := k0.1
  have hne' : ¬ (A y.block ∨ y.block = a.block) := fun e => by
    rcases e with e | e
    · have := hA _ e; omega
    · exact hne e
  have vyl := vy.lt
  -- the default is stored
  have dflt : ∀ h4, KB h h4 → dOpen h.size h4 → res = d → stL y [val d] 0 h4 PR := fun h4 k4 hd e => by
    have vx := vy.kb k4
    refine stL_var0 vx (Nat.le_refl _) fun h7 v7 k7 s7 => ?_
    exact hPR h7 (KB.step (k0.trans k4) k7 hy) (vx.dOpen k7 hd) (by rw [e]; exact v7)
  refine ⟨_, Non, _, backO_emits r va, backsO_len l, rounds_of (fun xs h' => KB h h' ∧ ∃ i, i ≤ l.length ∧ xs = backsO l i ∧ scanTo f d l i = res) (fun xs h' h'' ⟨k, i, hi, hb, e⟩ n => ⟨k.nz n (Nat.le_succ _), i, hi, hb, e⟩) ?_ ?_ _ h ⟨KB.refl _, l.length, Nat.le_refl _, rfl, hres⟩⟩
  · rintro x xs h3 Kc ⟨k3, i, hi, e, hs⟩ hKc
    cases i with
    | zero => cases e
    | succ i =>
      have hil : i < l.length := by omega
      unfold backsO at e
      rw [getD_get hil] at e
      cases e
      unfold scanTo at hs
      rw [getD_get hil] at hs
      refine hrd i hil h3 Kc k3 (fun hb h' kb k' hf => ?_) (fun hb h' q kb k' hf => ?_) fun hb h' kb k' hf => ?_
      · rw [hf] at hs
        exact hKc hb h' k'.kp ⟨kb.trans k', i, by omega, rfl, hs⟩
      · rw [hf] at hs
        have hs : q = res := hs
        have kk := kb.trans k'
        have vx := vy.kb kk
        refine stL_var0 vx (Nat.le_refl _) fun h7 v7 k7 s7 => ⟨k'.kp.trans (KX.kp vx k7 hne'), fun h8 n8 hd => ?_⟩
        exact hPR h8 ((KB.step (k0.trans kk) k7 hy).nz n8 (by omega)) hd (by rw [← hs]; exact v7.kw n8.kw)
      · rw [hf] at hs
        exact ⟨k'.kp, fun h8 n8 hd => dflt h8 ((kb.trans k').nz n8 (Nat.le_succ _)) hd hs.symm⟩
  · rintro h3 ⟨k3, i, hi, e, hs⟩ hd
    cases i with
    | succ i => cases e
    | zero => exact dflt h3 k3 hd hs.symm
end
/-- a round's element, handed over -/
theorem rdOpen {i : Int} {x : OpenP} {K : Int → Int → Int → Bs → Int → Prop} (h : K i x.1 x.2.1 x.2.2.1 x.2.2.2) :
    uncons [.int .i64 i, .agg ⟨cellsO x⟩] fun e l => vInt .i64 e fun i => uncons l fun e l2 => vAgg e fun l3 => uncons l3 fun e l4 => vInt .i64 e fun j => uncons l4 fun e l5 => vInt .u8 e fun k => uncons l5 fun e l6 => vStr e fun s => uncons l6 fun e l7 => vInt .u8 e fun p => unnil l7 (unnil l2 (K i j k s p)) := h
section
variable {A B : Nat → Prop} {h : H} {b b2 : Option Addr} {n c n2 c2 : Nat} {l : List OpenP} {ns : List Bs} {s : Bs} {sc : Int}
theorem openUntil_calls (hA : ∀ k, A k → k < h.size) (r : Row elOpen A h b n c l) (rn : Row elStr B h b2 n2 c2 ns) {K : Value → H → Prop} (hk : ∀ h', KB h h' → K (.int .i64 (untilP l ns)) h') :
    HCalls Tryz.prog 54 ⟨[.slice b n c, .slice b2 n2 c2]⟩ h K := by
  refine Sx.open_Until.ok _ _ _ _ _ _ _ _ (newx_var fun x2 h2 v2 k2 e2 s2 => newx_var fun y h3 v3 k3 e3 s3 => outwards_calls fun a h4 va k4 ea => ?_)
  have k04 := (k2.trans k3).trans k4
  have r4 := r.kb k04
  refine scan_open (f := untilF ns) (val := .int .i64) (d := -1) (res := untilP l ns) k04 r4 hA va (v3.kb k4) (by omega) (by omega) rfl (fun i hi h5 Kc k5 hcont hstore hbreak => rdOpen (front_open k5 (fun k hk => ?_) (Nat.le_refl _) fun ax hb kb vb => ?_)) (fun h' k' hd v => leave_k hd k' k04.1 v fun h'' k'' v'' => ⟨_, v''.cell0 rfl, hk h'' k''⟩)
  · rcases hk with hk | hk
    · exact Nat.lt_of_lt_of_le (hA _ hk) k04.1
    · rw [hk]; exact va.lt
  · have w2 := ((v2.kb k3).kb k4).kb kb
    exact ldVar vb ⟨_, _, _, w2.cell0 rfl, of_calls ((rn.kb k04).kb kb) fun h6 k6 => vBool_mk (condB (fun ht => hstore hb h6 _ kb k6 (by unfold untilF; rw [if_pos ht])) fun hf => hcont hb h6 kb k6 (by unfold untilF; rw [if_neg (by rw [hf]; simp)]))⟩
end
theorem apdOpen : Apd Tryz.prog elOpen 43 36 40 := apd_of (sz := 4) (by kernel_rfl) rfl
theorem until_range (ns : List Bs) (l : List OpenP) : ∀ k : Nat, -1 ≤ scanTo (untilF ns) (-1) l k ∧ scanTo (untilF ns) (-1) l k < (k : Int)
  | 0 => by simp [scanTo]
  | k + 1 => by
    have := until_range ns l k
    unfold scanTo
    generalize l.getD k (0, 0, [], 0) = x at *
    unfold untilF
    by_cases h1 : oneP x ns = true
    · rw [if_pos h1]; simp; omega
    · rw [if_neg h1]; simp only; unfold untilF at this; omega
end Go.Proofs
