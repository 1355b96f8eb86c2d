/- open: elements; words; what is special; one of some names; what bounds a scope. No condition but that the library's variable holds a number. -/
import Derived.Test.YtggejikikcffmaaTxB
import Derived.Test.YtggejikikcffmaaTxC
import Derived.Test.YtggejikikcffmaaHmE
import Derived.Test.YtggejikikcffmaaOpA
import Derived.Test.YtggejikikcffmaaShelf
namespace Go.Proofs
open Go Go.Sh
set_option linter.unusedVariables false
set_option maxRecDepth 100000

theorem getD_get {α : Type} {l : List α} {i : Nat} {d : α} (hi : i < l.length) : l.getD i d = l[i] := by
  rw [List.getD_eq_getElem?_getD, List.getElem?_eq_getElem hi]; rfl
theorem rng64 {n : Int} (h1 : -9223372036854775808 ≤ n) (h2 : n ≤ 9223372036854775807) : Rng .i64 n := ⟨h1, h2⟩
theorem vBool_mk {b : Bool} {k : Bool → Prop} (h : k b) : vBool (.bool b) k := h
theorem condB {b : Bool} {X Y : Prop} (x : b = true → X) (y : b = false → Y) : cond b X Y := by cases b <;> first | exact x rfl | exact y rfl
theorem condT {X Y : Prop} (x : X) : cond true X Y := x
theorem condF {X Y : Prop} (y : Y) : cond false X Y := y
/-- a test's outcome is handed on -/
theorem condK {b : Bool} {K : Bool → Prop} (h : K b) : cond b (K true) (K false) := by cases b <;> exact h
theorem splK {p : Prop} [Decidable p] {K : Bool → Prop} (h : K (decide p)) : Spl p (K true) (K false) := by
  by_cases e : p
  · rw [decide_eq_true e] at h; exact splT e h
  · rw [decide_eq_false e] at h; exact splF e h

/-- a contract of the library's that leaves the world alone -/
theorem hcalls_of {P : Program} {f : FuncId} {args : Array Value} {h : H} {v : Value} {K : Value → H → Prop} (hc : ∀ w : World, w.heap = h → Calls P f args w fun e w' => e = .returned v ∧ w' = w) (hk : K v h) : HCalls P f args h K :=
  fun w hw => (hc w hw).mono fun e w' ⟨he, hw'⟩ => ⟨v, he, by rw [hw']; exact Outer.refl w, by rw [hw', hw]; exact hk⟩
/-- the library's variable -/
def ML (h : H) : Prop := ∃ m, cell h ⟨0, 0, none⟩ = some (.int .i64 m)
theorem ML.kb {h h' : H} (m : ML h) (k : KB h h') : ML h' := by
  obtain ⟨x, e⟩ := m
  exact ⟨x, (KB.w k).cell (cell_lt e) e⟩

abbrev elOpen : El OpenP := elPair (elInt .i64) (elPair (elInt .u8) (elPair elStr (elInt .u8)))
abbrev cellsO (x : OpenP) : List Value := [.int .i64 x.1, .int .u8 x.2.1, S x.2.2.1, .int .u8 x.2.2.2]
abbrev OpenR (A : Nat → Prop) (h : H) (m : OpenP) : Prop := elOpen.R A h m (cellsO m)
/-- its parts are in range -/
def OpenW (m : OpenP) : Prop := Rng .i64 m.1 ∧ Rng .u8 m.2.1 ∧ m.2.2.1.length ≤ maxLen ∧ Rng .u8 m.2.2.2
theorem OpenW.r {A : Nat → Prop} {h : H} {m : OpenP} (w : OpenW m) : OpenR A h m := ⟨[.int .i64 m.1], _, rfl, ⟨rfl, w.1⟩, [.int .u8 m.2.1], _, rfl, ⟨rfl, w.2.1⟩, [S m.2.2.1], _, rfl, ⟨rfl, w.2.2.1⟩, rfl, w.2.2.2⟩
theorem ldOpen {A : Nat → Prop} {h : H} {a : Addr} {m : OpenP} {K : Int → Int → Bs → Int → Prop} (hA : At elOpen A h a m) (hk : OpenW m → K m.1 m.2.1 m.2.2.1 m.2.2.2) :
    ∃ i, cell h (a.add 0) = some (.int .i64 i) ∧ ∃ j, cell h (a.add 1) = some (.int .u8 j) ∧ ∃ s, cell h (a.add 2) = some (S s) ∧ ∃ k, cell h (a.add 3) = some (.int .u8 k) ∧ K i j s k :=
  have h1 := hA.fst.int
  have h2 := hA.snd.fst.int
  have h3 := (hA.snd.sndAt (k := 2) rfl).fst.str
  have h4 := ((hA.snd.sndAt (k := 2) rfl).sndAt (k := 3) rfl).int
  ⟨_, h1.1, _, h2.1, _, h3.1, _, h4.1, hk ⟨h1.2, h2.2, h3.2, h4.2⟩⟩
theorem atOpen {A : Nat → Prop} {h : H} {a : Addr} {m : OpenP} (hA : At elOpen A h a m) : OpenW m :=
  ⟨hA.fst.int.2, hA.snd.fst.int.2, (hA.snd.sndAt (k := 2) rfl).fst.str.2, ((hA.snd.sndAt (k := 2) rfl).sndAt (k := 3) rfl).int.2⟩
/-- an element in a variable -/
theorem ldVar {h : H} {a : Addr} {t : Nat} {m : OpenP} {K : Int → Int → Bs → Int → Prop} (v : Var h a t (cellsO m)) (hk : K m.1 m.2.1 m.2.2.1 m.2.2.2) :
    ∃ i, cell h (a.add 0) = some (.int .i64 i) ∧ ∃ j, cell h (a.add 1) = some (.int .u8 j) ∧ ∃ s, cell h (a.add 2) = some (S s) ∧ ∃ k, cell h (a.add 3) = some (.int .u8 k) ∧ K i j s k :=
  ⟨_, v.cell 0 rfl, _, v.cell 1 rfl, _, v.cell 2 rfl, _, v.cell 3 rfl, hk⟩

theorem encStr {A : Nat → Prop} {h : H} : ∀ {l : List Bs}, (∀ s ∈ l, s.length ≤ maxLen) → Enc elStr A h l (l.map S)
  | [], _ => rfl
  | s :: l, hs => ⟨[S s], l.map S, rfl, ⟨rfl, hs s (by simp)⟩, encStr fun x hx => hs x (by simp [hx])⟩
def shortB (l : List Bs) : Bool := l.all fun s => Nat.ble s.length maxLen
/-- words that are written out -/
theorem rowLit {h : H} {a : Addr} {t : Nat} {ws : List Bs} (v : Var h a t (ws.map S)) (hs : shortB ws = true) (hl : Nat.ble ws.length maxLen = true) : Row elStr (fun _ => True) h (some a) ws.length ws.length ws :=
  Row.of (encStr fun s h => Nat.le_of_ble_eq_true (List.all_eq_true.1 hs s h)) (fun j x hx => ⟨a, rfl, v.cell j hx⟩) rfl (Nat.le_refl _) (Nat.le_of_ble_eq_true hl) fun x e => trivial

theorem indexByte_mem (l : Bs) (c : UInt8) : 0 ≤ Lib.indexByte l c ↔ c ∈ l := by
  by_cases h : 0 ≤ Lib.indexByte l c
  · refine ⟨fun _ => ?_, fun _ => h⟩
    obtain ⟨o, ho⟩ := Int.eq_ofNat_of_zero_le h
    exact List.mem_of_getElem? (Lib.indexByte_some ho).1
  · refine ⟨fun h2 => absurd h2 h, fun hm => ?_⟩
    have e : Lib.indexByte l c = -1 := by have := Lib.indexByte_ge l c; omega
    obtain ⟨i, hi, he⟩ := List.mem_iff_getElem.1 hm
    exact absurd (by rw [List.getElem?_eq_getElem hi, he]) (Lib.indexByte_none e i)

section
variable {A B : Nat → Prop} {h : H} {b b2 : Option Addr} {n c n2 c2 : Nat} {ns : List Bs} {s row : Bs} {x : OpenP} {sc sp : Int}

theorem contains_calls (m : ML h) {t u : Bs} (ht : t.length < 4294967281) {K : Value → H → Prop} (hk : K (.bool (Lib.contains t u)) h) : HCalls Try.prog 34 ⟨[S t, S u]⟩ h K :=
  hcalls_of (v := .bool (Lib.contains t u)) (fun w hw => by
    obtain ⟨x, hx⟩ := m
    exact Try.strings_Contains ⟨⟨t⟩⟩ ⟨⟨u⟩⟩ x w (by rw [Lib.size_eq]; exact ht) (by rw [cell_eq, hw]; exact hx)) hk
theorem containsByte_calls {t : Bs} {u : UInt8} {K : Value → H → Prop} (hk : K (.bool (Lib.contains t [u])) h) : HCalls Try.prog 34 ⟨[S t, S [u]]⟩ h K :=
  hcalls_of (v := .bool (Lib.contains t [u])) (fun w hw => by
    have := Try.strings_Contains_one ⟨⟨t⟩⟩ u w
    have e : decide (0 ≤ Lib.indexByte t u) = Lib.contains t [u] := by
      rw [contains_one, Bool.eq_iff_iff, decide_eq_true_eq, decide_eq_true_eq]; exact indexByte_mem t u
    rw [← e]; exact this) hk

/-! ### has -/
theorem has_calls (m : ML h) (hr : row.length < 4294967281) (hs : s.length ≤ 9000000000000000000) {K : Value → H → Prop} (hk : K (.bool (hasP row s)) h) : HCalls Try.prog 30 ⟨[S row, S s]⟩ h K := by
  refine Sx.open_has.ok _ _ _ _ (spl (fun e => ?_) fun e => containsByte_calls (vBool_mk (condB (fun e2 => ?_) fun e2 => ⟨by simp; omega, by simp; omega, contains_calls m hr (vBool_mk (condK (K := fun b => K (.bool b) h) ?_))⟩)))
  · have : hasP row s = false := by unfold hasP; rw [decide_eq_true e]; rfl
    rwa [this] at hk
  · have : hasP row s = false := by unfold hasP; rw [e2]; simp
    rwa [this] at hk
  · have : hasP row s = Lib.contains row ([32] ++ s ++ [32]) := by unfold hasP; rw [e2, decide_eq_false e]; simp
    rwa [this] at hk
theorem hasRow_calls (ws : List Bs) (hp : plainW ws = true) (hl : row = rowOf ws) (hr : row.length < 4294967281) (m : ML h) (hs : s.length ≤ 9000000000000000000) {K : Value → H → Prop} (hk : K (.bool (inNames ws s)) h) : HCalls Try.prog 30 ⟨[S row, S s]⟩ h K := by
  subst hl
  refine has_calls m hr hs ?_
  rw [has_row hp]; exact hk

/-! ### slices.Index, slices.Contains; in -/
theorem indexStr_calls (r : Row elStr A h b n c ns) {K : Value → H → Prop} (hk : ∀ i : Int, (0 ≤ i ↔ s ∈ ns) → K (.int .i64 i) h) : HCalls Try.prog 36 ⟨[.slice b n c, S s]⟩ h K := by
  refine Sx.slices_Index_string.ok _ _ _ _ _ _ ?_
  have hl := r.len
  have hm : n ≤ maxLen := Nat.le_trans r.cap r.max
  simp only [maxLen] at hm
  refine ⟨n + 1, ?_⟩
  have key : ∀ k i, i + k = n → (∀ j (h1 : j < ns.length), j < i → ns[j] ≠ s) →
      Sx.slices_Index_string.n6_L (fun h => K (.int .i64 (-1)) h) (fun h => K (.int .i64 (-1)) h) (fun y4 h => K (.int .i64 y4) h) (k + 1) b n c s (n : Int) (i : Int) h := by
    intro k
    induction k with
    | zero =>
      intro i hi hall
      refine splF (by omega) (hk (-1) ⟨fun h => absurd h (by decide), fun hm => ?_⟩)
      obtain ⟨j, hj, e⟩ := List.mem_iff_getElem.1 hm
      exact absurd e (hall j hj (by omega))
    | succ k ih =>
      intro i hi hall
      refine splT (by omega) (r.idxN (i := i) (by omega) rfl fun a hA => ldS hA fun _ => spl (fun e => hk i ⟨fun _ => by rw [e]; exact List.getElem_mem _, fun _ => by omega⟩) fun e => ⟨rng64 (by omega) (by omega), ih (i + 1) (by omega) fun j h1 hj => ?_⟩)
      by_cases e2 : j < i
      · exact hall j h1 e2
      · have : j = i := by omega
        subst this
        exact fun e3 => e e3.symm
  exact key n 0 (by omega) fun j _ hj => absurd hj (Nat.not_lt_zero _)
theorem vIntMk {kd : IntKind} {i : Int} {k : Int → Prop} (h : k i) : vInt kd (.int kd i) k := by
  show (if kd = kd then k i else False)
  rw [if_pos rfl]; exact h
theorem vSliceMk {b : Option Addr} {n c : Nat} {k : Option Addr → Nat → Nat → Prop} (h : k b n c) : vSlice (.slice b n c) k := h
theorem containsStr_calls (r : Row elStr A h b n c ns) {K : Value → H → Prop} (hk : K (.bool (inNames ns s)) h) : HCalls Try.prog 33 ⟨[.slice b n c, S s]⟩ h K := by
  refine Sx.slices_Contains_string.ok _ _ _ _ _ _ (indexStr_calls r fun i hi => vIntMk (splK (K := fun b => K (.bool b) h) ?_))
  have : decide (i ≥ 0) = inNames ns s := by unfold inNames; rw [Bool.eq_iff_iff, decide_eq_true_eq, decide_eq_true_eq]; exact hi
  rwa [this]
theorem refIn_calls (r : Row elStr A h b n c ns) {K : Value → H → Prop} (hk : K (.bool (inNames ns s)) h) : HCalls Try.prog 31 ⟨[.slice b n c, S s]⟩ h K := by
  refine Sx.r11_in.ok _ _ _ _ _ _ ?_
  have hl := r.len
  have hm : n ≤ maxLen := Nat.le_trans r.cap r.max
  simp only [maxLen] at hm
  refine ⟨n + 1, ?_⟩
  have key : ∀ k i, i + k = n → (∀ j (h1 : j < ns.length), j < i → ns[j] ≠ s) →
      Sx.r11_in.n6_L (fun h => K (.bool false) h) (fun h => K (.bool false) h) (fun y4 h => K (.bool y4) h) (k + 1) b n c s (i : Int) h := by
    intro k
    induction k with
    | zero =>
      intro i hi hall
      refine splF (by omega) ?_
      have : inNames ns s = false := decide_eq_false fun hm => by
        obtain ⟨j, hj, e⟩ := List.mem_iff_getElem.1 hm
        exact absurd e (hall j hj (by omega))
      rwa [this] at hk
    | succ k ih =>
      intro i hi hall
      refine splT (by omega) (r.idxN (i := i) (by omega) rfl fun a hA => ldS hA fun _ => spl (fun e => ?_) fun e => ⟨rng64 (by omega) (by omega), ih (i + 1) (by omega) fun j h1 hj => ?_⟩)
      · have : inNames ns s = true := decide_eq_true (by rw [← e]; exact List.getElem_mem _)
        rwa [this] at hk
      · by_cases e2 : j < i
        · exact hall j h1 e2
        · have : j = i := by omega
          subst this
          exact e
  exact key n 0 (by omega) fun j _ hj => absurd hj (Nat.not_lt_zero _)

/-! ### Special, Formatting -/
theorem special_calls (m : ML h) (hs : s.length ≤ 9000000000000000000) {K : Value → H → Prop} (hk : K (.bool (specialP sp s)) h) : HCalls Try.prog 12 ⟨[.int .u8 sp, S s]⟩ h K := by
  refine Sx.open_Special.ok _ _ _ _ (spl (fun e => condT <| hasRow_calls wHTML wHTML_ok (by decide +kernel) (by decide +kernel) m hs (vBool_mk (condK (K := fun b => K (.bool b) h) ?_))) fun e => condF <| spl (fun e2 => hasRow_calls wMath wMath_ok (by decide +kernel) (by decide +kernel) m hs (vBool_mk (condK (K := fun b => K (.bool b) h) ?_))) fun e2 => spl (fun e3 => hasRow_calls wSVG wSVG_ok (by decide +kernel) (by decide +kernel) m hs (vBool_mk (condK (K := fun b => K (.bool b) h) ?_))) fun e3 => ?_)
  · unfold specialP at hk; rwa [if_pos e] at hk
  · unfold specialP at hk; rwa [if_neg e, if_pos e2] at hk
  · unfold specialP at hk; rwa [if_neg e, if_neg e2, if_pos e3] at hk
  · unfold specialP at hk; rwa [if_neg e, if_neg e2, if_neg e3] at hk
theorem formatting_calls (m : ML h) (hs : s.length ≤ 9000000000000000000) {K : Value → H → Prop} (hk : K (.bool (formattingP s)) h) : HCalls Try.prog 14 ⟨[S s]⟩ h K :=
  Sx.open_Formatting.ok _ _ _ (hasRow_calls wFmt wFmt_ok (by decide +kernel) (by decide +kernel) m hs (vBool_mk (condK (K := fun b => K (.bool b) h) hk)))
theorem refInLit_calls (ws : List Bs) {k : Nat} (hn : ws.length = k) (hs : shortB ws = true) (hl : Nat.ble ws.length maxLen = true) {h' : H} {a : Addr} {t : Nat} (v : Var h' a t (ws.map S)) {K : Value → H → Prop} (hk : K (.bool (inNames ws s)) h') : HCalls Try.prog 31 ⟨[.slice (some a) k k, S s]⟩ h' K := by
  subst hn
  exact refIn_calls (rowLit v hs hl) hk
theorem refSpecial_calls {K : Value → H → Prop} (hk : ∀ h', KB h h' → K (.bool (specialP sp s)) h') : HCalls Try.prog 13 ⟨[.int .u8 sp, S s]⟩ h K := by
  refine Sx.r11_Special.ok _ _ _ _ (spl (fun e => condT ?_) fun e => condF <| spl (fun e2 => condT ?_) fun e2 => condF <| spl (fun e3 => ?_) fun e3 => ?_)
  · refine newx_var (cs := wHTML.map S) fun a h1 v1 k1 _ _ => refInLit_calls wHTML rfl (by decide +kernel) (by decide +kernel) v1 (vBool_mk (condK (K := fun b => K (.bool b) h1) ?_))
    have := hk h1 k1
    unfold specialP at this; rwa [if_pos e] at this
  · refine newx_var (cs := wMath.map S) fun a h1 v1 k1 _ _ => refInLit_calls wMath rfl (by decide +kernel) (by decide +kernel) v1 (vBool_mk (condK (K := fun b => K (.bool b) h1) ?_))
    have := hk h1 k1
    unfold specialP at this; rwa [if_neg e, if_pos e2] at this
  · refine newx_var (cs := wSVG.map S) fun a h1 v1 k1 _ _ => refInLit_calls wSVG rfl (by decide +kernel) (by decide +kernel) v1 (vBool_mk (condK (K := fun b => K (.bool b) h1) ?_))
    have := hk h1 k1
    unfold specialP at this; rwa [if_neg e, if_neg e2, if_pos e3] at this
  · have := hk h (KB.refl h)
    unfold specialP at this; rwa [if_neg e, if_neg e2, if_neg e3] at this
theorem refFormatting_calls {K : Value → H → Prop} (hk : ∀ h', KB h h' → K (.bool (formattingP s)) h') : HCalls Try.prog 15 ⟨[S s]⟩ h K :=
  Sx.r11_Formatting.ok _ _ _ (newx_var (cs := wFmt.map S) fun a h1 v1 k1 _ _ => refInLit_calls wFmt rfl (by decide +kernel) (by decide +kernel) v1 (vBool_mk (condK (K := fun b => K (.bool b) h1) (hk h1 k1))))

/-! ### of, one -/
theorem of_calls (r : Row elStr A h b n c ns) {K : Value → H → Prop} (hk : ∀ h', KB h h' → K (.bool (oneP x ns)) h') : HCalls Try.prog 26 ⟨[.agg ⟨cellsO x⟩, .slice b n c]⟩ h K := by
  refine Sx.open_of.ok _ _ _ _ _ _ _ _ _ (newx_var fun a h1 v1 k1 _ _ => ⟨_, v1.cell 1 rfl, spl (fun e => ⟨_, v1.cell 2 rfl, containsStr_calls (r.kb k1) (vBool_mk (condK (K := fun b => K (.bool b) h1) ?_))⟩) fun e => ?_⟩)
  · have := hk h1 k1
    unfold oneP at this; rwa [decide_eq_true e, Bool.true_and] at this
  · have := hk h1 k1
    unfold oneP at this; rwa [decide_eq_false e, Bool.false_and] at this
theorem refOne_calls (r : Row elStr A h b n c ns) {K : Value → H → Prop} (hk : ∀ h', KB h h' → K (.bool (oneP x ns)) h') : HCalls Try.prog 28 ⟨[.agg ⟨cellsO x⟩, .slice b n c]⟩ h K := by
  refine Sx.r11_one.ok _ _ _ _ _ _ _ _ _ (newx_var fun a h1 v1 k1 _ _ => ⟨_, v1.cell 1 rfl, spl (fun e => ⟨_, v1.cell 2 rfl, refIn_calls (r.kb k1) (vBool_mk (condK (K := fun b => K (.bool b) h1) ?_))⟩) fun e => ?_⟩)
  · have := hk h1 k1
    unfold oneP at this; rwa [decide_eq_true e, Bool.true_and] at this
  · have := hk h1 k1
    unfold oneP at this; rwa [decide_eq_false e, Bool.false_and] at this
theorem ofLit_calls (ws : List Bs) {k : Nat} (hn : ws.length = k) (hs : shortB ws = true) (hl : Nat.ble ws.length maxLen = true) {h' : H} {a : Addr} {t : Nat} (v : Var h' a t (ws.map S)) {K : Value → H → Prop} (hk : ∀ h2, KB h' h2 → K (.bool (oneP x ws)) h2) :
    HCalls Try.prog 26 ⟨[.agg ⟨cellsO x⟩, .slice (some a) k k]⟩ h' K := by
  subst hn
  exact of_calls (rowLit v hs hl) hk
theorem refOneLit_calls (ws : List Bs) {k : Nat} (hn : ws.length = k) (hs : shortB ws = true) (hl : Nat.ble ws.length maxLen = true) {h' : H} {a : Addr} {t : Nat} (v : Var h' a t (ws.map S)) {K : Value → H → Prop} (hk : ∀ h2, KB h' h2 → K (.bool (oneP x ws)) h2) :
    HCalls Try.prog 28 ⟨[.agg ⟨cellsO x⟩, .slice (some a) k k]⟩ h' K := by
  subst hn
  exact refOne_calls (rowLit v hs hl) hk
end
end Go.Proofs
