import Derived.Test.YtijoifkjeamonaaGreatDoE
import Derived.Test.YtijoifkjeamonaaGreatTxA
import Derived.Test.YtijoifkjeamonaaGreatShQ
import Derived.Test.YtijoifkjeamonaaGreatOpA
import Derived.Test.YtijoifkjeamonaaGreatShelf
import Derived.Laws.IdiomStrings
import Derived.Laws.Cover4
namespace Go.Proofs
open Go Go.Sh
set_option linter.unusedVariables false
set_option maxRecDepth 100000
abbrev elOpen : El OpenP := elPair (elInt .i64) (elPair (elInt .u8) (elPair elStr (elInt .u8)))
abbrev cellsO (x : OpenP) : List Value := [.int .i64 x.1, .int .u8 x.2.1, S x.2.2.1, .int .u8 x.2.2.2]
abbrev OpenR (A : Nat -> Prop) (h : H) (m : OpenP) : Prop := elOpen.R A h m (cellsO m)
def OpenW (m : OpenP) : Prop := Rng .i64 m.1 /\ Rng .u8 m.2.1 /\ m.2.2.1.length <= maxLen /\ Rng .u8 m.2.2.2
theorem OpenW.r {A : Nat -> Prop} {h : H} {m : OpenP} (w : OpenW m) : OpenR A h m := ⟨[.int .i64 m.1], _, rfl, ⟨rfl, w.1⟩, [.int .u8 m.2.1], _, rfl, ⟨rfl, w.2.1⟩, [S m.2.2.1], _, rfl, ⟨rfl, w.2.2.1⟩, rfl, w.2.2.2⟩
theorem ldOpen {A : Nat -> Prop} {h : H} {a : Addr} {m : OpenP} {K : Int -> Int -> Bs -> Int -> Prop} (hA : At elOpen A h a m) (hk : OpenW m -> K m.1 m.2.1 m.2.2.1 m.2.2.2) :
    ∃ i, cell h (a.add 0) = some (.int .i64 i) /\ ∃ j, cell h (a.add 1) = some (.int .u8 j) /\ ∃ s, cell h (a.add 2) = some (S s) /\ ∃ k, cell h (a.add 3) = some (.int .u8 k) /\ K i j s k :=
  have h1 := hA.fst.int
  have h2 := hA.snd.fst.int
  have h3 := (hA.snd.sndAt (k := 2) rfl).fst.str
  have h4 := ((hA.snd.sndAt (k := 2) rfl).sndAt (k := 3) rfl).int
  ⟨_, h1.1, _, h2.1, _, h3.1, _, h4.1, hk ⟨h1.2, h2.2, h3.2, h4.2⟩⟩
theorem atOpen {A : Nat -> Prop} {h : H} {a : Addr} {m : OpenP} (hA : At elOpen A h a m) : OpenW m :=
  ⟨hA.fst.int.2, hA.snd.fst.int.2, (hA.snd.sndAt (k := 2) rfl).fst.str.2, ((hA.snd.sndAt (k := 2) rfl).sndAt (k := 3) rfl).int.2⟩
theorem ldVar {h : H} {a : Addr} {t : Nat} {m : OpenP} {K : Int -> Int -> Bs -> Int -> Prop} (v : Var h a t (cellsO m)) (hk : K m.1 m.2.1 m.2.2.1 m.2.2.2) :
    ∃ i, cell h (a.add 0) = some (.int .i64 i) /\ ∃ j, cell h (a.add 1) = some (.int .u8 j) /\ ∃ s, cell h (a.add 2) = some (S s) /\ ∃ k, cell h (a.add 3) = some (.int .u8 k) /\ K i j s k :=
  ⟨_, v.cell 0 rfl, _, v.cell 1 rfl, _, v.cell 2 rfl, _, v.cell 3 rfl, hk⟩
theorem encStrL {A : Nat -> Prop} {h : H} : ∀ {l : List Bs}, (∀ s ∈ l, s.length <= maxLen) -> Enc elStr A h l (l.map S)
  | [], _ => rfl
  | s :: l, hs => ⟨[S s], l.map S, rfl, ⟨rfl, hs s (by simp)⟩, encStrL fun x hx => hs x (by simp [hx])⟩
def shortB (l : List Bs) : Bool := l.all fun s => Nat.ble s.length maxLen
theorem rowLit {h : H} {a : Addr} {t : Nat} {ws : List Bs} (v : Var h a t (ws.map S)) (hs : shortB ws = true) (hl : Nat.ble ws.length maxLen = true) : Row elStr (fun _ => True) h (some a) ws.length ws.length ws :=
  Row.of (encStrL fun s h => Nat.le_of_ble_eq_true (List.all_eq_true.1 hs s h)) (fun j x hx => ⟨a, rfl, v.cell j hx⟩) rfl (Nat.le_refl _) (Nat.le_of_ble_eq_true hl) fun x e => trivial
theorem indexByte_mem (l : Bs) (c : UInt8) : 0 <= Lib.indexByte l c ↔ c ∈ l := by
  by_cases h : 0 <= Lib.indexByte l c
  · refine ⟨fun _ => ?_, fun _ => h⟩
    obtain ⟨o, ho⟩ := Int.eq_ofNat_of_zero_le h
    exact List.mem_of_getElem? (Lib.indexByte_some ho).1
  · refine ⟨fun h2 => absurd h2 h, fun hm => ?_⟩
    have e : Lib.indexByte l c = -1 := by have := Lib.indexByte_ge l c; omega
    obtain ⟨i, hi, he⟩ := List.mem_iff_getElem.1 hm
    exact absurd (by rw [List.getElem?_eq_getElem hi, he]) (Lib.indexByte_none e i)
section
variable {A B : Nat -> Prop} {h : H} {b b2 : Option Addr} {n c n2 c2 : Nat} {ns : List Bs} {s row : Bs} {x : OpenP} {sc sp : Int}
theorem contains_calls (m : ML h) {t u : Bs} (ht : t.length < 4294967281) {K : Value -> H -> Prop} (hk : K (.bool (Lib.contains t u)) h) : HCalls Tryz.prog 199 ⟨[S t, S u]⟩ h K :=
  hcalls_of (v := .bool (Lib.contains t u)) (fun w hw => by
    obtain ⟨x, hx⟩ := m
    exact Tryz.strings_Contains ⟨⟨t⟩⟩ ⟨⟨u⟩⟩ x w (by rw [Lib.size_eq]; exact ht) (by rw [cell_eq, hw]; exact hx)) hk
theorem containsByte_calls {t : Bs} {u : UInt8} {K : Value -> H -> Prop} (hk : K (.bool (Lib.contains t [u])) h) : HCalls Tryz.prog 199 ⟨[S t, S [u]]⟩ h K :=
  hcalls_of (v := .bool (Lib.contains t [u])) (fun w hw => by
    have := Tryz.strings_Contains_one ⟨⟨t⟩⟩ u w
    have e : decide (0 <= Lib.indexByte t u) = Lib.contains t [u] := by
      rw [contains_one, Bool.eq_iff_iff, decide_eq_true_eq, decide_eq_true_eq]; exact indexByte_mem t u
    rw [<- e]; exact this) hk
theorem has_calls (m : ML h) (hr : row.length < 4294967281) (hs : s.length <= 9000000000000000000) {K : Value -> H -> Prop} (hk : K (.bool (hasP row s)) h) : HCalls Tryz.prog 157 ⟨[S row, S s]⟩ h K := by
  refine Sx.open_has.ok _ _ _ _ (spl (fun e => ?_) fun e => containsByte_calls (vBool_mk (condB (fun e2 => ?_) fun e2 => ⟨by simp; omega, by simp; omega, contains_calls m hr (vBool_mk (condK (K := fun b => K (.bool b) h) ?_))⟩)))
  · have : hasP row s = false := by unfold hasP; rw [decide_eq_true e]; rfl
    rwa [this] at hk
  · have : hasP row s = false := by unfold hasP; rw [e2]; simp
    rwa [this] at hk
  · have : hasP row s = Lib.contains row ([32] ++ s ++ [32]) := by unfold hasP; rw [e2, decide_eq_false e]; simp
    rwa [this] at hk
theorem hasRow_calls (ws : List Bs) (hp : plainW ws = true) (hl : row = rowOf ws) (hr : row.length < 4294967281) (m : ML h) (hs : s.length <= 9000000000000000000) {K : Value -> H -> Prop} (hk : K (.bool (inNames ws s)) h) : HCalls Tryz.prog 157 ⟨[S row, S s]⟩ h K := by
  subst hl
  refine has_calls m hr hs ?_
  rw [has_row hp]; exact hk
theorem indexStr_calls (r : Row elStr A h b n c ns) {K : Value -> H -> Prop} (hk : ∀ i : Int, (0 <= i ↔ s ∈ ns) -> K (.int .i64 i) h) : HCalls Tryz.prog 215 ⟨[.slice b n c, S s]⟩ h K := by
  refine Sx.slices_Index_string.ok _ _ _ _ _ _ ?_
  have hl := r.len
  have hm : n <= maxLen := Nat.le_trans r.cap r.max
  simp only [maxLen] at hm
  refine ⟨n + 1, ?_⟩
  have key : ∀ k i, i + k = n -> (∀ j (h1 : j < ns.length), j < i -> ns[j] ≠ s) ->
      Sx.slices_Index_string.n6_L (fun h => K (.int .i64 (-1)) h) (fun h => K (.int .i64 (-1)) h) (fun y4 h => K (.int .i64 y4) h) (k + 1) b n c s (n : Int) (i : Int) h := by
    intro k
    induction k with
    | zero =>
      intro i hi hall
      refine splF (by omega) (hk (-1) ⟨fun h => absurd h (by decide), fun hm => ?_⟩)
      obtain ⟨j, hj, e⟩ := List.mem_iff_getElem.1 hm
      exact absurd e (hall j hj (by omega))
    | succ k ih =>
      intro i hi hall
      refine splT (by omega) (r.idxN (i := i) (by omega) rfl fun a hA => ldS hA fun _ => spl (fun e => hk i ⟨fun _ => by rw [e]; exact List.getElem_mem _, fun _ => by omega⟩) fun e => ⟨rng64 (by omega) (by omega), ih (i + 1) (by omega) fun j h1 hj => ?_⟩)
      by_cases e2 : j < i
      · exact hall j h1 e2
      · have : j = i := by omega
        subst this
        exact fun e3 => e e3.symm
  exact key n 0 (by omega) fun j _ hj => absurd hj (Nat.not_lt_zero _)
theorem containsStr_calls (r : Row elStr A h b n c ns) {K : Value -> H -> Prop} (hk : K (.bool (inNames ns s)) h) : HCalls Tryz.prog 189 ⟨[.slice b n c, S s]⟩ h K := by
  refine Sx.slices_Contains_string.ok _ _ _ _ _ _ (indexStr_calls r fun i hi => vIntMk (splK (K := fun b => K (.bool b) h) ?_))
  have : decide (i ≥ 0) = inNames ns s := by unfold inNames; rw [Bool.eq_iff_iff, decide_eq_true_eq, decide_eq_true_eq]; exact hi
  rwa [this]
theorem special_calls (m : ML h) (hs : s.length <= 9000000000000000000) {K : Value -> H -> Prop} (hk : K (.bool (specialP sp s)) h) : HCalls Tryz.prog 162 ⟨[.int .u8 sp, S s]⟩ h K := by
  refine Sx.open_Special.ok _ _ _ _ (spl (fun e => condT <| hasRow_calls wHTML wHTML_ok (by decide +kernel) (by decide +kernel) m hs (vBool_mk (condK (K := fun b => K (.bool b) h) ?_))) fun e => condF <| spl (fun e2 => hasRow_calls wMath wMath_ok (by decide +kernel) (by decide +kernel) m hs (vBool_mk (condK (K := fun b => K (.bool b) h) ?_))) fun e2 => spl (fun e3 => hasRow_calls wSVG wSVG_ok (by decide +kernel) (by decide +kernel) m hs (vBool_mk (condK (K := fun b => K (.bool b) h) ?_))) fun e3 => ?_)
  · unfold specialP at hk; rwa [if_pos e] at hk
  · unfold specialP at hk; rwa [if_neg e, if_pos e2] at hk
  · unfold specialP at hk; rwa [if_neg e, if_neg e2, if_pos e3] at hk
  · unfold specialP at hk; rwa [if_neg e, if_neg e2, if_neg e3] at hk
theorem of_calls (r : Row elStr A h b n c ns) {K : Value -> H -> Prop} (hk : ∀ h', KB h h' -> K (.bool (oneP x ns)) h') : HCalls Tryz.prog 179 ⟨[.agg ⟨cellsO x⟩, .slice b n c]⟩ h K := by
  refine Sx.open_of.ok _ _ _ _ _ _ _ _ _ (newx_var fun a h1 v1 k1 _ _ => ⟨_, v1.cell 1 rfl, spl (fun e => ⟨_, v1.cell 2 rfl, containsStr_calls (r.kb k1) (vBool_mk (condK (K := fun b => K (.bool b) h1) ?_))⟩) fun e => ?_⟩)
  · have := hk h1 k1
    unfold oneP at this; rwa [decide_eq_true e, Bool.true_and] at this
  · have := hk h1 k1
    unfold oneP at this; rwa [decide_eq_false e, Bool.false_and] at this
theorem ofLit_calls (ws : List Bs) {k : Nat} (hn : ws.length = k) (hs : shortB ws = true) (hl : Nat.ble ws.length maxLen = true) {h' : H} {a : Addr} {t : Nat} (v : Var h' a t (ws.map S)) {K : Value -> H -> Prop} (hk : ∀ h2, KB h' h2 -> K (.bool (oneP x ws)) h2) :
    HCalls Tryz.prog 179 ⟨[.agg ⟨cellsO x⟩, .slice (some a) k k]⟩ h' K := by
  subst hn
  exact of_calls (rowLit v hs hl) hk
end
def backsO (l : List OpenP) : Nat -> List (List Value)
  | 0 => []
  | i + 1 => [.int .i64 i, .agg ⟨cellsO (l.getD i (0, 0, [], 0))⟩] :: backsO l i
theorem backsO_len (l : List OpenP) : ∀ {i : Nat}, ∀ x ∈ backsO l i, x.length = 2
  | 0, x, hx => by cases hx
  | i + 1, x, hx => by
    unfold backsO at hx
    rcases List.mem_cons.1 hx with rfl | hx
    · rfl
    · exact backsO_len l x hx
theorem callYield {L : Nat} {args : Array Value} {h : H} {next : Value -> H -> Prop} : CallV Tryz.prog 4 (.func (.yield L) ⟨[]⟩ ⟨[]⟩) args h next = YCalls Tryz.prog L ⟨args.toList⟩ h fun v h' => vBool v fun b => cond b (next (.bool true) h') (next (.bool false) h') := by kernel_rfl
section
variable {A : Nat -> Prop} {h : H} {b : Option Addr} {n c : Nat} {l : List OpenP}
theorem backO_emits {a : Addr} (r : Row elOpen A h b n c l) (v : Var h a 39 [.slice b n c]) :
    Emits Tryz.prog (.func (.func 203) ⟨[]⟩ ⟨[.pointer (some a)]⟩) h (backsO l l.length) Non (fun k => A k ∨ k = a.block) := by
  have hl := r.len
  have hm : n <= maxLen := Nat.le_trans r.cap r.max
  simp only [maxLen] at hm
  refine ⟨203, _, _, rfl, fun args w => by kernel_rfl, fun L J Stop h2 hn hJ hS hY hj => ?_⟩
  refine Sx.slices_Backward_1_apiOpen1.ok (.func (.yield L) ⟨[]⟩ ⟨[]⟩) a _ _ ?_
  refine ⟨_, _, _, (v.kw hn.kw).cell0 rfl, rng64 (by omega) (by omega), l.length + 1, ?_⟩
  rw [<- hl]
  have key : ∀ i, i <= l.length -> ∀ h', Keep (fun k => (A k ∨ k = a.block) /\ k < h.size) h h' -> J (backsO l i) h' ->
      Sx.slices_Backward_1_apiOpen1.n3_L (fun h3 => J [] h3 ∨ Stop h3) (fun h3 => J [] h3 ∨ Stop h3) (fun h3 => J [] h3 ∨ Stop h3) (i + 1) (.func (.yield L) ⟨[]⟩ ⟨[]⟩) a ((i : Int) - 1) h' := by
    intro i
    induction i with
    | zero => exact fun _ h' hk hJ => splF (by omega) (.inl hJ)
    | succ i ih =>
      intro hi h' hk hJ
      obtain ⟨ar, ear, hA⟩ := r.at' i _ (List.getElem?_eq_getElem (by omega))
      have hx : ((i + 1 : Nat) : Int) - 1 = (i : Int) := by omega
      rw [hx]
      have hA' : At elOpen (fun _ => True) h' (ar.add (i * elOpen.sz)) l[i] := hA.keep (hk.less fun k hk => ⟨.inl hk.1, hk.2⟩) fun _ _ _ => trivial
      have v' : Var h' a 39 [.slice b n c] := v.keep hk ⟨.inr rfl, v.lt⟩
      refine splT (by omega) ⟨_, _, _, v'.cell0 rfl, ⟨by omega, by omega⟩, ?_⟩
      rw [ear]
      refine ldOpen hA' fun _ => ?_
      rw [callYield]
      unfold backsO at hJ
      rw [getD_get (by omega)] at hJ
      refine fun w hw2 => ?_
      obtain ⟨fn, tmps, assign, body, hrun, hrd⟩ := hY _ _ _ hJ w hw2
      refine ⟨fn, tmps, assign, body, hrun, hrd.mono ?_⟩
      rintro e w' ⟨v, he, ho, hor⟩
      refine ⟨v, he, ho, ?_⟩
      rcases hor with ⟨rfl, hJ', hkr⟩ | ⟨rfl, hS, hkr⟩
      · exact ⟨rng64 (by omega) (by omega), ih (by omega) _ (Keep.trans (hw2 ▸ hk) (hkr.keep.less fun _ h => h.1)) hJ'⟩
      · exact .inr hS
  exact key l.length (Nat.le_refl _) h2 (hn.kw.less fun _ h => h.2) hj
theorem outwards_calls {K : Value -> H -> Prop} (hk : ∀ a h', Var h' a 39 [.slice b n c] -> KB h h' -> a.block = h.size -> K (.func (.func 203) ⟨[]⟩ ⟨[.pointer (some a)]⟩) h') :
    HCalls Tryz.prog 178 ⟨[.slice b n c]⟩ h K :=
  Sx.open_outwards.ok _ _ _ _ _ (Sx.slices_Backward_apiOpen.ok _ _ _ _ _ (newx_var fun a1 h1 v1 k1 e1 _ => hk a1 h1 v1 k1 e1))
abbrev MidO (D : Nat) (Rd : Nat -> Prop) (h1 : H) : H -> (H -> Prop) -> Prop := fun he p => KpP Rd h1 he /\ ∀ h2, NzP Non (D + 1) he h2 -> p h2
abbrev FinO (D : Nat) (Rd : Nat -> Prop) : H -> H -> (H -> Prop) -> Prop := fun hb h' p => KpP Rd hb h' /\ ∀ h4, NzP Non (D + 1) h' h4 -> dOpen D h4 -> p h4
theorem leave_k {h0 h : H} {D t : Nat} {a : Addr} {cs : List Value} {Q : H -> Prop} (hd : dOpen D h) (k : KB h0 h) (hD : h0.size <= D) (v : Var h a t cs) (hk : ∀ h', KB h0 h' -> Var h' a t cs -> Q h') : leaveX [markD D] h Q :=
  ⟨hd, hk _ (k.leave hD) (v.kw ((KW.refl h).leave hd))⟩
theorem front_open {D : Nat} {Rd : Nat -> Prop} {h h1 : H} {t : Nat} {x : OpenP} {Bd : Addr -> H -> Prop} (k1 : KB h h1) (hRd : ∀ k, Rd k -> k < h.size) (hD : h.size <= D) (hk : ∀ a hb, KB h hb -> Var hb a t (cellsO x) -> Bd a hb) :
    newx h1 ⟨[(.int .i64 (0 : Int)), (.int .u8 (0 : Int)), (S ([] : List UInt8)), (.int .u8 (0 : Int))]⟩ t fun a h2 => stL a [.int .i64 x.1, .int .u8 x.2.1, S x.2.2.1, .int .u8 x.2.2.2] 0 h2 fun h3 => MidO D Rd h1 h3 (Bd a) := by
  have k1s := k1.1
  refine newx_var fun a4 h4 v4 k4 e4 _ => stL_var0 v4 (Nat.le_refl _) fun h5 v5 k5 s5 => ⟨(k4.kp).trans (KX.kp v4 k5 fun e => ?_), fun h6 n6 => ?_⟩
  · have := hRd _ e; omega
  · exact hk a4 h6 ((k1.trans (KB.step k4 k5 (by omega))).nz n6 (by omega)) (v5.kw n6.kw)
theorem scan_open {R : Type} {f : Nat -> OpenP -> Option R} {val : R -> Value} {d res : R} {h0 : H} {a y : Addr} {ty : Nat} {z : Value} {rdd : Round} {PR : H -> Prop}
    (k0 : KB h0 h) (r : Row elOpen A h b n c l) (hA : ∀ k, A k -> k < h0.size) (va : Var h a 39 [.slice b n c]) (vy : Var h y ty [z]) (hy : h0.size <= y.block) (hne : y.block ≠ a.block)
    (hres : scan f d l = res)
    (hrd : ∀ (i : Nat) (hi : i < l.length) (h1 : H) (Kc : H -> H -> Prop), KB h h1 ->
      (∀ hb h', KB h hb -> KB hb h' -> f i l[i] = none -> Kc hb h') ->
      (∀ hb h' q, KB h hb -> KB hb h' -> f i l[i] = some q -> stL y [val q] 0 h' fun h'' => FinO h.size (fun k => A k ∨ k = a.block) hb h'' PR) ->
      (∀ hb h', KB h hb -> KB hb h' -> f i l[i] = some d -> FinO h.size (fun k => A k ∨ k = a.block) hb h' fun h4 => stL y [val d] 0 h4 PR) ->
      rdd [.int .i64 i, .agg ⟨cellsO l[i]⟩] (MidO h.size (fun k => A k ∨ k = a.block) h1) Kc (FinO h.size (fun k => A k ∨ k = a.block)) h1)
    (hPR : ∀ h', KB h0 h' -> dOpen h.size h' -> Var h' y ty [val res] -> PR h') :
    Ranges Tryz.prog (.func (.func 203) ⟨[]⟩ ⟨[.pointer (some a)]⟩) 2 h rdd fun h4 => stL y [val d] 0 h4 PR := by
  have k0s := k0.1
  have hne' : ¬ (A y.block ∨ y.block = a.block) := fun e => by
    rcases e with e | e
    · have := hA _ e; omega
    · exact hne e
  have vyl := vy.lt
  have dflt : ∀ h4, KB h h4 -> dOpen h.size h4 -> res = d -> stL y [val d] 0 h4 PR := fun h4 k4 hd e => by
    have vx := vy.kb k4
    refine stL_var0 vx (Nat.le_refl _) fun h7 v7 k7 s7 => ?_
    exact hPR h7 (KB.step (k0.trans k4) k7 hy) (vx.dOpen k7 hd) (by rw [e]; exact v7)
  refine ⟨_, Non, _, backO_emits r va, backsO_len l, rounds_of (fun xs h' => KB h h' /\ ∃ i, i <= l.length /\ xs = backsO l i /\ scanTo f d l i = res) (fun xs h' h'' ⟨k, i, hi, hb, e⟩ n => ⟨k.nz n (Nat.le_succ _), i, hi, hb, e⟩) ?_ ?_ _ h ⟨KB.refl _, l.length, Nat.le_refl _, rfl, hres⟩⟩
  · rintro x xs h3 Kc ⟨k3, i, hi, e, hs⟩ hKc
    cases i with
    | zero => cases e
    | succ i =>
      have hil : i < l.length := by omega
      unfold backsO at e
      rw [getD_get hil] at e
      cases e
      unfold scanTo at hs
      rw [getD_get hil] at hs
      refine hrd i hil h3 Kc k3 (fun hb h' kb k' hf => ?_) (fun hb h' q kb k' hf => ?_) fun hb h' kb k' hf => ?_
      · rw [hf] at hs
        exact hKc hb h' k'.kp ⟨kb.trans k', i, by omega, rfl, hs⟩
      · rw [hf] at hs
        have hs : q = res := hs
        have kk := kb.trans k'
        have vx := vy.kb kk
        refine stL_var0 vx (Nat.le_refl _) fun h7 v7 k7 s7 => ⟨k'.kp.trans (KX.kp vx k7 hne'), fun h8 n8 hd => ?_⟩
        exact hPR h8 ((KB.step (k0.trans kk) k7 hy).nz n8 (by omega)) hd (by rw [<- hs]; exact v7.kw n8.kw)
      · rw [hf] at hs
        exact ⟨k'.kp, fun h8 n8 hd => dflt h8 ((kb.trans k').nz n8 (Nat.le_succ _)) hd hs.symm⟩
  · rintro h3 ⟨k3, i, hi, e, hs⟩ hd
    cases i with
    | succ i => cases e
    | zero => exact dflt h3 k3 hd hs.symm
end
theorem rdOpen {i : Int} {x : OpenP} {K : Int -> Int -> Int -> Bs -> Int -> Prop} (h : K i x.1 x.2.1 x.2.2.1 x.2.2.2) :
    uncons [.int .i64 i, .agg ⟨cellsO x⟩] fun e l => vInt .i64 e fun i => uncons l fun e l2 => vAgg e fun l3 => uncons l3 fun e l4 => vInt .i64 e fun j => uncons l4 fun e l5 => vInt .u8 e fun k => uncons l5 fun e l6 => vStr e fun s => uncons l6 fun e l7 => vInt .u8 e fun p => unnil l7 (unnil l2 (K i j k s p)) := h
section
variable {A B : Nat -> Prop} {h : H} {b b2 : Option Addr} {n c n2 c2 : Nat} {l : List OpenP} {ns : List Bs} {s : Bs} {sc : Int}
theorem openUntil_calls (hA : ∀ k, A k -> k < h.size) (r : Row elOpen A h b n c l) (rn : Row elStr B h b2 n2 c2 ns) {K : Value -> H -> Prop} (hk : ∀ h', KB h h' -> K (.int .i64 (untilP l ns)) h') :
    HCalls Tryz.prog 128 ⟨[.slice b n c, .slice b2 n2 c2]⟩ h K := by
  refine Sx.open_Until.ok _ _ _ _ _ _ _ _ (newx_var fun x2 h2 v2 k2 e2 s2 => newx_var fun y h3 v3 k3 e3 s3 => outwards_calls fun a h4 va k4 ea => ?_)
  have k04 := (k2.trans k3).trans k4
  have r4 := r.kb k04
  refine scan_open (f := untilF ns) (val := .int .i64) (d := -1) (res := untilP l ns) k04 r4 hA va (v3.kb k4) (by omega) (by omega) rfl (fun i hi h5 Kc k5 hcont hstore hbreak => rdOpen (front_open k5 (fun k hk => ?_) (Nat.le_refl _) fun ax hb kb vb => ?_)) (fun h' k' hd v => leave_k hd k' k04.1 v fun h'' k'' v'' => ⟨_, v''.cell0 rfl, hk h'' k''⟩)
  · rcases hk with hk | hk
    · exact Nat.lt_of_lt_of_le (hA _ hk) k04.1
    · rw [hk]; exact va.lt
  · have w2 := ((v2.kb k3).kb k4).kb kb
    exact ldVar vb ⟨_, _, _, w2.cell0 rfl, of_calls ((rn.kb k04).kb kb) fun h6 k6 => vBool_mk (condB (fun ht => hstore hb h6 _ kb k6 (by unfold untilF; rw [if_pos ht])) fun hf => hcont hb h6 kb k6 (by unfold untilF; rw [if_neg (by rw [hf]; simp)]))⟩
end
theorem apdOpen : Apd Tryz.prog elOpen 39 77 40 := apd_of (sz := 4) (by kernel_rfl) rfl
theorem until_range (ns : List Bs) (l : List OpenP) : ∀ k : Nat, -1 <= scanTo (untilF ns) (-1) l k /\ scanTo (untilF ns) (-1) l k < (k : Int)
  | 0 => by simp [scanTo]
  | k + 1 => by
    have := until_range ns l k
    unfold scanTo
    generalize l.getD k (0, 0, [], 0) = x at *
    unfold untilF
    by_cases h1 : oneP x ns = true
    · rw [if_pos h1]; simp; omega
    · rw [if_neg h1]; simp only; unfold untilF at this; omega
end Go.Proofs
namespace Go.Proofs
open Go Go.Sh
set_option linter.unusedVariables false
set_option maxRecDepth 100000
abbrev MarkP := Int × Bs × List AttrP
abbrev elMark : El MarkP := elPair (elInt .i64) (elPair elStr (elSl elAttr))
def paint (col : Col) (g : Nat) (v : Nat × Nat) : Col := fun k => if k = g then some v else col k
theorem paint_at {col : Col} {g : Nat} {v : Nat × Nat} : paint col g v g = some v := if_pos rfl
theorem paint_ne {col : Col} {g k : Nat} {v : Nat × Nat} (h : k ≠ g) : paint col g v k = col k := if_neg h
abbrev Fresh (h : H) (col : Col) : Prop := ∀ k, h.size <= k -> col k = none
theorem Fresh.kb {h h' : H} {col : Col} (f : Fresh h col) (k : KB h h') : Fresh h' col := fun g hg => f g (Nat.le_trans k.1 hg)
theorem Fresh.paint {h : H} {col : Col} (f : Fresh h col) {g : Nat} {v : Nat × Nat} (hg : g < h.size) : Fresh h (paint col g v) := fun k hk => by rw [paint_ne (by omega)]; exact f k hk
theorem Fresh.putB {h h' : H} {col : Col} (f : Fresh h col) (hs : h.size <= h'.size) {b : Option Addr} {v : Nat × Nat} (hb : ∀ q, b = some q -> q.block < h'.size) : Fresh h' (putB col h b v) := fun k hk => by
  rw [putB_far hb hk]; exact f k (Nat.le_trans hs hk)
structure ExtP (S : Nat -> Prop) (h : H) (col : Col) (h' : H) (col' : Col) : Prop where
  sk : SK (fun k => k < h.size /\ ∀ s p, S s -> col k ≠ some (s, p)) h h'
  cl : ∀ k, k < h.size -> col' k = col k
variable {S : Nat -> Prop}
theorem ExtP.refl (S : Nat -> Prop) (h : H) (col : Col) : ExtP S h col h col := ⟨SK.refl _ _, fun _ _ => rfl⟩
theorem ExtP.trans {a b c : H} {x y z : Col} (e : ExtP S a x b y) (f : ExtP S b y c z) : ExtP S a x c z :=
  ⟨e.sk.trans (f.sk.less fun k hk => ⟨Nat.lt_of_lt_of_le hk.1 e.sk.1, fun s p hs => by rw [e.cl k hk.1]; exact hk.2 s p hs⟩), fun k hk => by rw [f.cl k (Nat.lt_of_lt_of_le hk e.sk.1), e.cl k hk]⟩
theorem ExtP.kb {h h' : H} {col : Col} (k : KB h h') : ExtP S h col h' col := ⟨k.less fun _ hk => hk.1, fun _ _ => rfl⟩
theorem Ext.p {s : Nat} {h h' : H} {col col' : Col} (e : Ext s h col h' col') (hs : S s) : ExtP S h col h' col' := ⟨e.sk.less fun k hk => ⟨hk.1, fun p => hk.2 s p hs⟩, e.cl⟩
theorem ExtP.free {h h' : H} {col col' : Col} (e : ExtP S h col h' col') {k : Nat} (hk : Free col h k) : Free col' h' k := ⟨by rw [e.cl k hk.2]; exact hk.1, Nat.lt_of_lt_of_le hk.2 e.sk.1⟩
theorem ExtP.keepF {h h' : H} {col col' : Col} (e : ExtP S h col h' col') : Keep (Free col h) h h' := e.sk.w.less fun k hk => ⟨hk.2, fun s p _ e2 => by rw [hk.1] at e2; cases e2⟩
theorem ExtP.row {α : Type} {E : El α} {h h' : H} {col col' : Col} {b : Option Addr} {n c : Nat} {l : List α} (e : ExtP S h col h' col') (r : Row E (Free col h) h b n c l) : Row E (Free col' h') h' b n c l :=
  r.keep (e.keepF.less fun k hk => hk.1) fun k hk _ => e.free hk
theorem ExtP.at' {α : Type} {E : El α} {h h' : H} {col col' : Col} {a : Addr} {x : α} (e : ExtP S h col h' col') (r : At E (Free col h) h a x) : At E (Free col' h') h' a x :=
  r.keep (e.keepF.less fun k hk => hk.1) fun k hk _ => e.free hk
theorem Free.kb {h h' : H} {col : Col} (k : KB h h') {g : Nat} (hg : Free col h g) : Free col h' g := ⟨hg.1, Nat.lt_of_lt_of_le hg.2 k.1⟩
theorem TreeP.otherP {h h' : H} {col col' : Col} {s : Nat} {t : Addr} {ads : List Addr} {ns : List NodeM} (T : TreeP h col s t ads ns) (hs : ¬ S s) (e : ExtP S h col h' col') (hf : Fresh h' col') : TreeP h' col' s t ads ns :=
  T.keep e.sk.w e.cl hf fun k hk hc => ⟨hk, fun s' p hs' e2 => by
    rcases hc with hc | ⟨q, hc⟩
    · rw [hc] at e2; cases e2
    · rw [hc] at e2; cases e2; exact hs hs'⟩
structure Lib0 (h : H) (col : Col) : Prop where
  ml : ML h
  free : col 0 = none
theorem Lib0.ext {h h' : H} {col col' : Col} (l : Lib0 h col) (e : ExtP S h col h' col') : Lib0 h' col' := by
  obtain ⟨m, hm⟩ := l.ml
  have hl : 0 < h.size := cell_lt hm
  exact ⟨⟨m, e.keepF.cell ⟨l.free, hl⟩ hm⟩, by rw [e.cl 0 hl]; exact l.free⟩
theorem Lib0.kb {h h' : H} {col : Col} (l : Lib0 h col) (k : KB h h') : Lib0 h' col := ⟨l.ml.kb k, l.free⟩
structure OwnC {α : Type} (E : El α) (h : H) (col : Col) (v : Nat × Nat) (e : Nat) (b : Option Addr) (n c : Nat) (l : List α) : Prop where
  own : OwnT E (Free col h) h 0 e b n c l
  col : ∀ q, b = some q -> col q.block = some v
  hi : ∀ q, b = some q -> q.block < h.size
  nil : b = none -> c = 0
section
variable {α : Type} {E : El α} {h h' : H} {col col' : Col} {v : Nat × Nat} {e n c : Nat} {b : Option Addr} {l : List α}
theorem OwnC.len (o : OwnC E h col v e b n c l) : l.length = n := o.own.len
theorem OwnC.none : OwnC E h col v e none 0 0 [] := ⟨OwnT.nil _ _ _ _ _, (fun _ h => nomatch h), (fun _ h => nomatch h), fun _ => rfl⟩
theorem OwnC.keep (o : OwnC E h col v e b n c l) {B : Nat -> Prop} (k : Keep B h h') (hc : ∀ k, k < h.size -> col' k = col k) (hB : ∀ k, k < h.size -> (col k = Option.none ∨ col k = some v) -> B k) : OwnC E h' col' v e b n c l :=
  ⟨o.own.keep k (fun g hg hs => hB g hs (.inl hg.1)) (fun g hg hs => ⟨by rw [hc g hs]; exact hg.1, Nat.lt_of_lt_of_le hs k.1⟩) fun g hg _ hs => hB g hs (.inr (o.col _ hg)),
    fun q hq => by rw [hc _ (o.hi q hq)]; exact o.col q hq, fun q hq => Nat.lt_of_lt_of_le (o.hi q hq) k.1, o.nil⟩
theorem OwnC.ext (o : OwnC E h col v e b n c l) (x : ExtP S h col h' col') (hv : ¬ S v.1) : OwnC E h' col' v e b n c l :=
  o.keep x.sk.w x.cl fun k hk hc => ⟨hk, fun s p hs e2 => by
    rcases hc with hc | hc
    · rw [hc] at e2; cases e2
    · rw [hc] at e2; cases e2; exact hv hs⟩
theorem OwnC.kb (o : OwnC E h col v e b n c l) (k : KB h h') : OwnC E h' col v e b n c l := o.keep k.w (fun _ _ => rfl) fun k hk _ => hk
theorem OwnC.row (o : OwnC E h col v e b n c l) : Row E (Bel h.size) h b n c l := o.own.row (fun k hk => hk.2) fun g hg hs _ => hs
theorem OwnC.rowC (o : OwnC E h col v e b n c l) : Row E (fun k => Free col h k ∨ (col k = some v /\ k < h.size)) h b n c l := o.own.row (fun k hk => .inl hk) fun g hg hs _ => .inr ⟨o.col _ hg, hs⟩
theorem OwnC.append {t by' : Nat} {P : Program} (ap : Apd P E t e by') {rb : Option Addr} {m k : Nat} {l2 : List α} (o : OwnC E h col v e b n c l) (r : Row E (Free col h) h rb m k l2)
    (h63 : n + m <= maxLen) (hb : (n + m) * by' <= 140737488355328) (hf : Fresh h col) {ty : TypeId} {K : Value -> H -> Prop}
    (hk : ∀ b' c' h', OwnC E h' (putB col h b' v) v e b' (n + m) c' (l ++ l2) -> Grow h h' b -> NewB h b b' -> Fresh h' (putB col h b' v) -> K (.slice b' (n + m) c') h') :
    SemH P (Builtin.append_ #[t, t] ty ⟨[.slice b n c, .slice rb m k]⟩) h K := by
  refine OwnT.append ap o.own r h63 hb (Nat.zero_le _) (fun k hk _ a ha => fun e2 => by have := o.col a ha; rw [e2, hk.1] at this; cases this) fun b2 c2 h2 o2 hg hb2 h0 => ?_
  have hb' : ∀ q, b2 = some q -> q.block < h2.size := fun q e => by
    rcases o2.own with ⟨xs, ow, _⟩
    rcases ow.lt with ⟨hn, hc⟩ | ⟨g, e1, _, hlt⟩
    · have := h0 hn
      rw [this.1] at e
      exact Nat.lt_of_lt_of_le (o.hi q e) hg.size
    · rw [e] at e1; cases e1; exact hlt
  refine hk b2 c2 h2 ⟨?_, fun q e => ?_, hb', fun e => ?_⟩ hg (fun q e => ?_) (hf.putB hg.size hb')
  · refine o2.keep (Keep.refl (fun _ => True) _) (fun _ _ _ => trivial) (fun k hk' hks => ⟨by rw [putB_old hk'.2]; exact hk'.1, hks⟩) fun _ _ _ _ => trivial
  · refine putB_at e fun hlt => ?_
    rcases hb2 with rfl | rfl
    · exact o.col q e
    · cases e; exact absurd hlt (Nat.lt_irrefl _)
  · subst e
    rcases hb2 with rfl | h
    · rcases o2.own with ⟨xs, ow, _⟩
      rcases ow.is with ⟨hn, hc⟩ | ⟨g, cur, e, _⟩
      · exact hc
      · cases e
    · cases h
  · rcases hb2 with rfl | rfl
    · exact .inl e
    · cases e; exact .inr (Nat.le_refl _)
theorem OwnC.take (o : OwnC E h col v e b n c l) {m : Nat} (hm : m <= n) : OwnC E h col v e b m c (l.take m) := by
  obtain ⟨xs, ow, en⟩ := o.own.own
  refine ⟨⟨by rw [List.length_take, o.len]; omega, xs.take (m * E.sz), ⟨?_, by have := ow.cap; omega, ow.max, ?_⟩, en.take m⟩, o.col, o.hi, o.nil⟩
  · rw [List.length_take, ow.len]
    have : m * E.sz <= n * E.sz := Nat.mul_le_mul_right _ hm
    omega
  · rcases ow.is with ⟨hn, hc⟩ | ⟨g, cur, e, h1, h2, h3, h4⟩
    · exact .inl ⟨by omega, hc⟩
    · refine .inr ⟨g, cur, e, h1, h2, h3, ?_⟩
      rw [<- h4, List.take_take, Nat.min_eq_left (Nat.mul_le_mul_right _ hm)]
theorem OwnC.of {h0 : H} (o : OwnF E h h0.size e b n c l) (hf : Flat E) (hc : Fresh h0 col) (hs : h0.size <= h.size) : OwnC E h (putB col h0 b v) v e b n c l :=
  ⟨(o.own.flat hf (A' := Free (putB col h0 b v) h)).lower (Nat.zero_le _), fun q e => putB_at e fun hlt => absurd (o.lo q e) (by omega), o.hi, o.nil⟩
theorem _root_.Go.Sh.OwnA.toC {h0 : H} (o : OwnA E (Free col h0) h h0.size e b n c l) (k : h0.size <= h.size) : OwnC E h (putB col h0 b v) v e b n c l :=
  ⟨(o.own.keep (Keep.refl (fun _ => True) _) (fun _ _ _ => trivial) (fun g hg hs => ⟨by rw [putB_old hg.2]; exact hg.1, hs⟩) fun _ _ _ _ => trivial).lower (Nat.zero_le _), fun q e => putB_at e fun hlt => absurd (o.lo q e) (by omega), o.hi, o.nil⟩
theorem OwnC.parts (o : OwnC E h col v e b n c l) : ∃ xs, Enc E (Free col h) h l xs /\ Cells h b xs /\ xs.length = n * E.sz := by
  obtain ⟨xs, ow, en⟩ := o.own.own
  exact ⟨xs, en, ow.cells, ow.len⟩
theorem OwnC.cap (o : OwnC E h col v e b n c l) : n <= c /\ c <= maxLen := o.own.cap
end
end Go.Proofs
namespace Go.Proofs
open Go Go.Sh
set_option linter.unusedVariables false
set_option maxRecDepth 100000
abbrev noOpen : OpenP := (0, 0, [], 0)
structure WM where
  ns : List NodeM
  op : List OpenP
  mks : List MarkP
  fo : Bool
  hi : Int
def wTab : List Bs := [[116, 97, 98, 108, 101]]
def wGrid : List Bs := [[116, 97, 98, 108, 101], [116, 98, 111, 100, 121], [116, 102, 111, 111, 116], [116, 104, 101, 97, 100], [116, 114]]
def gridB (x : OpenP) : Bool := inNames wGrid x.2.2.1 && decide (x.2.1 = 0)
def parentM (ns : List NodeM) (id : Int) : Int := if 0 <= id then ((ns[id.toNat]?).map (·.parent)).getD (-1) else -1
def whereM (ns : List NodeM) (op : List OpenP) (fo : Bool) (x : OpenP) : Int × Int :=
  if fo && gridB x then
    if untilP op wTab < 0 then (0, -1)
    else if 0 <= parentM ns (op.getD (untilP op wTab).toNat noOpen).1 then (parentM ns (op.getD (untilP op wTab).toNat noOpen).1, (op.getD (untilP op wTab).toNat noOpen).1)
    else ((op.getD ((untilP op wTab).toNat - 1) noOpen).1, -1)
  else (x.1, -1)
def curM (op : List OpenP) : OpenP := op.getD (op.length - 1) noOpen
structure WorldW (h : H) (col : Col) (s ty : Nat) (w t : Addr) (op : List OpenP) (mk : List MarkP) (fo : Bool) (hi : Int) : Prop where
  ex : ∃ ob oc mb mn mc, Var h w ty [.pointer (some t), .slice ob op.length oc, .slice mb mn mc, .bool fo, .int .i64 hi] /\ OwnC elOpen h col (s, 1) 77 ob op.length oc op /\ OwnC elMark h col (s, 2) 79 mb mn mc mk
  col : col w.block = some (s, 0)
  rh : Rng .i64 hi
variable {S : Nat -> Prop}
theorem ExtP.grow {h h' : H} {col : Col} {b b' : Option Addr} {s p : Nat} {v : Nat × Nat} (g : Grow h h' b) (hc : ∀ q, b = some q -> col q.block = some (s, p)) (hS : S s) : ExtP S h col h' (putB col h b' v) :=
  ⟨⟨g.size, fun k hk => g.old k hk.1 fun a ea e2 => hk.2 s p hS (by rw [<- e2]; exact hc a ea)⟩, fun k hk => putB_old hk⟩
theorem ExtP.kx {h h' : H} {col : Col} {g s p : Nat} (k : KX g h h') (hc : col g = some (s, p)) (hS : S s) : ExtP S h col h' col :=
  ⟨k.less fun q hq e => hq.2 s p hS (by rw [e]; exact hc), fun _ _ => rfl⟩
theorem ExtP.mono {S' : Nat -> Prop} {h h' : H} {col col' : Col} (e : ExtP S h col h' col') (hS : ∀ s, S s -> S' s) : ExtP S' h col h' col' :=
  ⟨e.sk.less fun k hk => ⟨hk.1, fun s p hs => hk.2 s p (hS s hs)⟩, e.cl⟩
section
variable {h h' : H} {col col' : Col} {s ty : Nat} {w t : Addr} {op : List OpenP} {mk : List MarkP} {fo : Bool} {hi : Int}
theorem WorldW.ext (W : WorldW h col s ty w t op mk fo hi) (e : ExtP S h col h' col') (hs : ¬ S s) : WorldW h' col' s ty w t op mk fo hi := by
  obtain ⟨ob, oc, mb, mn, mc, v, o, om⟩ := W.ex
  refine ⟨⟨ob, oc, mb, mn, mc, v.keep e.sk.w ⟨v.lt, fun s' p hs' e2 => ?_⟩, o.ext e hs, om.ext e hs⟩, by rw [e.cl _ v.lt]; exact W.col, W.rh⟩
  rw [W.col] at e2; cases e2; exact hs hs'
theorem WorldW.kb (W : WorldW h col s ty w t op mk fo hi) (k : KB h h') : WorldW h' col s ty w t op mk fo hi := W.ext (S := fun _ => False) (.kb k) id
theorem WorldW.openW (W : WorldW h col s ty w t op mk fo hi) : ∀ x ∈ op, OpenW x := fun x hx => by
  obtain ⟨ob, oc, mb, mn, mc, v, o, om⟩ := W.ex
  obtain ⟨i, hi, rfl⟩ := List.mem_iff_getElem.1 hx
  obtain ⟨a, _, hA⟩ := o.row.at' i op[i] (List.getElem?_eq_getElem hi)
  exact atOpen hA
end
section
variable {h : H} {K : Value -> H -> Prop} {col : Col} {s s0 : Nat} {w t : Addr} {ads : List Addr} {ns : List NodeM} {op : List OpenP} {mk : List MarkP} {fo : Bool} {hi : Int} {x : OpenP}
theorem parentM_calls (T : TreeP h col s t ads ns) {id : Int} (hk : K (.int .i64 (parentM ns id)) h) : HCalls Tryz.prog 129 ⟨[.pointer (some t), .int .i64 id]⟩ h K := by
  refine parent_calls T (fun hno => ?_) fun i x e hx => ?_
  · have : parentM ns id = -1 := by
      unfold parentM
      by_cases h0 : 0 <= id
      · rw [if_pos h0, List.getElem?_eq_none (by omega)]; rfl
      · rw [if_neg h0]
    rwa [this] at hk
  · have : parentM ns id = x.parent := by
      unfold parentM
      rw [if_pos (by omega), e, Int.toNat_natCast, hx]; rfl
    rwa [this] at hk
theorem current_calls (W : WorldW h col s 42 w t op mk fo hi) (hne : 0 < op.length) (hl : op.length <= 1000000) (hk : ∀ h', KB h h' -> K (.agg ⟨cellsO (curM op)⟩) h') :
    HCalls Tryz.prog 55 ⟨[.pointer (some w)]⟩ h K := by
  obtain ⟨ob, oc, mb, mn, mc, v, o, om⟩ := W.ex
  have e : ((op.length : Int) - 1) = ((op.length - 1 : Nat) : Int) := by omega
  refine Sx.place_World_Current.ok _ _ _ (newx_var fun a1 h1 v1 k1 e1 s1 => vSomeMk ⟨_, _, _, (v.kb k1).cell 1 rfl, vSomeMk ⟨_, _, _, (v.kb k1).cell 1 rfl, rng64 (by omega) (by omega), ?_⟩⟩)
  rw [e]
  have hx : op[op.length - 1]'(by omega) = curM op := (getD_get (by omega)).symm
  exact (o.kb k1).row.idxN (i := op.length - 1) (by omega) rfl fun q hA => ldOpen hA fun ow => stL_var0 v1 (by show 4 <= 4; omega) fun h2 v2 k2 s2 => ldVar (m := op[op.length - 1]'(by omega)) v2 (by rw [hx]; exact hk h2 (KB.step k1 k2 (by omega)))
theorem grid_calls (hk : ∀ h', KB h h' -> K (.bool (gridB x)) h') : HCalls Tryz.prog 127 ⟨[.agg ⟨cellsO x⟩]⟩ h K := by
  refine Sx.place_grid.ok _ _ _ _ _ _ (newx_var fun a h1 v1 k1 e1 s1 => ⟨_, v1.cell 2 rfl, ?_⟩)
  have Y : x.2.2.1 ∈ wGrid -> ∃ i62, cell h1 (a.add 1) = some (.int .u8 i62) /\ (Spl (i62 = (0 : Int)) (K (.bool true) h1) (K (.bool false) h1)) := fun hm => by
    refine ⟨_, v1.cell 1 rfl, splK (K := fun b => K (.bool b) h1) ?_⟩
    have := hk h1 k1
    unfold gridB inNames at this
    rwa [decide_eq_true hm, Bool.true_and] at this
  refine spl (fun e => condT (condT (Y (by rw [e]; decide)))) fun e1 => condF (spl (fun e => condT (Y (by rw [e]; decide))) fun e2 => spl (fun e => condT (Y (by rw [e]; decide))) fun e3 => spl (fun e => condT (Y (by rw [e]; decide))) fun e4 =>
    spl (fun e => condT (Y (by rw [e]; decide))) fun e5 => condF ?_)
  have hno : ¬ x.2.2.1 ∈ wGrid := fun hm => by
    simp only [wGrid, List.mem_cons, List.not_mem_nil, or_false] at hm
    rcases hm with h | h | h | h | h
    · exact e1 h
    · exact e2 h
    · exact e3 h
    · exact e4 h
    · exact e5 h
  have := hk h1 k1
  unfold gridB inNames at this
  rwa [decide_eq_false hno, Bool.false_and] at this
theorem tupIIMk {ka kb : IntKind} {a c : Int} {k : Int -> Int -> Prop} (h : k a c) : vTup (.tuple ⟨[.int ka a, .int kb c]⟩) fun l => uncons l fun e l => vInt ka e fun s => uncons l fun e l => vInt kb e fun i => unnil l (k s i) := tupII h
theorem where_calls (T : TreeP h col s0 t ads ns) (W : WorldW h col s 42 w t op mk fo hi) (hl : op.length <= 1000000) (hk : ∀ h', KB h h' -> K (.tuple ⟨[.int .i64 (whereM ns op fo x).1, .int .i64 (whereM ns op fo x).2]⟩) h') :
    HCalls Tryz.prog 54 ⟨[.pointer (some w), .agg ⟨cellsO x⟩]⟩ h K := by
  obtain ⟨ob, oc, mb, mn, mc, v, o, om⟩ := W.ex
  refine Sx.place_World_Where.ok _ _ _ _ _ _ _ (newx_var fun a1 h1 v1 k1 e1 s1 => vSomeMk ⟨_, (v.kb k1).cell 3 rfl, condB (fun ef => ?_) fun ef => ?_⟩)
  · refine ldVar (m := x) v1 (grid_calls fun h2 k2 => vBool_mk (condB (fun eg => ?_) fun eg => ?_))
    · have k12 := k1.trans k2
      refine vSomeMk ⟨_, _, _, (v.kb k12).cell 1 rfl, newx_var fun a3 h3 v3 k3 e3 s3 => ?_⟩
      have k13 := k12.trans k3
      have o3 := (o.kb k13).row
      refine openUntil_calls (fun k hk => hk) o3 (rowLit (ws := wTab) v3 (by decide) (by decide)) fun h4 k4 => vIntMk ?_
      have k14 := k13.trans k4
      have v4 := v.kb k14
      have o4 := (o.kb k14).row
      have hr := until_range wTab op op.length
      have hru : -1 <= untilP op wTab /\ untilP op wTab < (op.length : Int) := hr
      refine spl (fun hneg => ?_) fun hpos => ?_
      · have hw : whereM ns op fo x = (0, -1) := by unfold whereM; rw [ef, eg, if_pos (by rfl), if_pos hneg]
        have := hk h4 k14
        rwa [hw] at this
      · have hkn : (untilP op wTab).toNat < op.length := by omega
        refine vSomeMk ⟨_, _, _, v4.cell 1 rfl, o4.idx (i := untilP op wTab) (by omega) (by omega) rfl fun q hi hA => ⟨_, hA.fst.int.1, vSomeMk ⟨_, v4.cell 0 rfl, ?_⟩⟩⟩
        have hg : op[(untilP op wTab).toNat] = op.getD (untilP op wTab).toNat noOpen := (getD_get hkn).symm
        rw [hg]
        refine parentM_calls (T.kb k14) (vIntMk (spl (fun hp => ?_) fun hp => ?_))
        · have hw : whereM ns op fo x = (parentM ns (op.getD (untilP op wTab).toNat noOpen).1, (op.getD (untilP op wTab).toNat noOpen).1) := by unfold whereM; rw [ef, eg, if_pos (by rfl), if_neg hpos, if_pos hp]
          have := hk h4 k14
          rwa [hw] at this
        · have e : ((if (1 : Int) > untilP op wTab then (1 : Int) else untilP op wTab) - 1) = (((untilP op wTab).toNat - 1 : Nat) : Int) := by split <;> omega
          rw [e]
          refine vSomeMk ⟨_, _, _, v4.cell 1 rfl, rng64 (by omega) (by omega), o4.idxN (i := (untilP op wTab).toNat - 1) (by omega) rfl fun q hA => ⟨_, hA.fst.int.1, ?_⟩⟩
          have hw : whereM ns op fo x = ((op.getD ((untilP op wTab).toNat - 1) noOpen).1, -1) := by unfold whereM; rw [ef, eg, if_pos (by rfl), if_neg hpos, if_neg hp]
          have := hk h4 k14
          rw [hw, getD_get (by omega)] at this
          exact this
    · refine ⟨_, (v1.kb k2).cell 0 rfl, ?_⟩
      have hw : whereM ns op fo x = (x.1, -1) := by unfold whereM; rw [eg, Bool.and_false]; rfl
      have := hk h2 (k1.trans k2)
      rwa [hw] at this
  · refine ⟨_, v1.cell 0 rfl, ?_⟩
    have hw : whereM ns op fo x = (x.1, -1) := by unfold whereM; rw [ef, Bool.false_and]; rfl
    have := hk h1 k1
    rwa [hw] at this
def closeO (op : List OpenP) (n : Int) : List OpenP := if 1 <= n /\ n < op.length then op.take n.toNat else op
theorem closeK {ty : Nat} (W : WorldW h col s ty w t op mk fo hi) {n : Int} (hf : Fresh h col) (h1 : 1 <= n) (h2 : n < op.length) {ob : Option Addr} {oc : Nat} {mb : Option Addr} {mn mc : Nat} (v : Var h w ty [.pointer (some t), .slice ob op.length oc, .slice mb mn mc, .bool fo, .int .i64 hi]) {Q : H -> Prop}
    (hk : ∀ h', WorldW h' col s ty w t (closeO op n) mk fo hi -> ExtP (fun k => k = s) h col h' col -> Fresh h' col -> KX w.block h h' -> Q h') :
    stL (w.add 1) [(.slice (if oc = Int.toNat (0 : Int) then ob else Option.map (fun q => q.add (Int.toNat (0 : Int) * 4)) ob) (Int.toNat n - Int.toNat (0 : Int)) (oc - Int.toNat (0 : Int)))] 0 h Q := by
  obtain ⟨ob2, oc2, mb2, mn2, mc2, v2, o, om⟩ := W.ex
  have ec : some (Value.slice ob op.length oc) = some (.slice ob2 op.length oc2) := (v.cell 1 rfl).symm.trans (v2.cell 1 rfl)
  have em : some (Value.slice mb mn mc) = some (.slice mb2 mn2 mc2) := (v.cell 2 rfl).symm.trans (v2.cell 2 rfl)
  cases ec
  cases em
  refine stL_var (m := 1) (i := 0) v (by show 1 + 0 + 1 <= 5; omega) fun h3 v3 k3 s3 => ?_
  have E : ExtP (fun k => k = s) h col h3 col := ExtP.kx k3 W.col rfl
  have eb : (if oc = Int.toNat (0 : Int) then ob else Option.map (fun q => q.add (Int.toNat (0 : Int) * 4)) ob) = ob := by
    split
    · rfl
    · cases ob with
      | none => rfl
      | some q => rfl
  have hlen : (op.take n.toNat).length = n.toNat - Int.toNat (0 : Int) := by rw [List.length_take]; show _ = n.toNat - 0; omega
  refine hk h3 ?_ E (fun k hk => hf k (by omega)) k3
  have hc : closeO op n = op.take n.toNat := by unfold closeO; rw [if_pos ⟨h1, h2⟩]
  rw [hc]
  have hne : ∀ g p, col g = some (s, p) -> p ≠ 0 -> g ≠ w.block := fun g p e hp e2 => by rw [e2, W.col] at e; cases e; exact hp rfl
  have ok := (o.take (m := n.toNat) (by omega)).keep (h' := h3) (col' := col) k3.w (fun _ _ => rfl) fun k hk hc => by
    rcases hc with hc | hc
    · intro e; rw [e, W.col] at hc; cases hc
    · exact hne k 1 hc (by decide)
  have omk := om.keep (h' := h3) (col' := col) k3.w (fun _ _ => rfl) fun k hk hc => by
    rcases hc with hc | hc
    · intro e; rw [e, W.col] at hc; cases hc
    · exact hne k 2 hc (by decide)
  refine ⟨⟨ob, oc, mb, mn, mc, ?_, ?_, omk⟩, W.col, W.rh⟩
  · rw [hlen]
    have v3' := v3
    rw [eb] at v3'
    exact v3'
  · rw [hlen]; exact ok
theorem close_calls (W : WorldW h col s 42 w t op mk fo hi) {n : Int} (hf : Fresh h col)
    (hk : ∀ h', WorldW h' col s 42 w t (closeO op n) mk fo hi -> ExtP (fun k => k = s) h col h' col -> Fresh h' col -> K (.tuple ⟨[]⟩) h') :
    HCalls Tryz.prog 57 ⟨[.pointer (some w), .int .i64 n]⟩ h K := by
  obtain ⟨ob, oc, mb, mn, mc, v, o, om⟩ := W.ex
  have hno : ¬ (1 <= n /\ n < op.length) -> K (.tuple ⟨[]⟩) h := fun hn => hk h (by unfold closeO; rw [if_neg hn]; exact W) (.refl _ _ _) hf
  refine Sx.place_World_Close.ok _ _ _ _ (spl (fun h1 => vSomeMk ⟨_, _, _, v.cell 1 rfl, spl (fun h2 => ?_) fun h2 => condF (hno fun hn => h2 hn.2)⟩) fun h1 => condF (hno fun hn => h1 hn.1))
  have hcap := o.own.cap
  exact condT (vSomeMk ⟨_, _, _, v.cell 1 rfl, ⟨by omega, by omega, by omega⟩, vSomeMk (closeK W hf h1 h2 v fun h' a b c _ => hk h' a b c)⟩)
end
end Go.Proofs
namespace Go.Sh
open Go Go.Proofs
set_option linter.unusedVariables false
set_option linter.unusedSimpArgs false
variable {P : Program}
theorem push_at (h : H) (o : Obj) : (h.push o)[h.size]? = some o := by simp
def elB : El UInt8 where
  sz := 1
  R := fun _ _ x cs => cs = [.int .u8 (x.toNat : Int)]
  len := fun _ _ _ _ h => by rw [h]; rfl
  one := fun _ _ _ _ h v hv => by rw [h] at hv; simp at hv; subst hv; rfl
  keep := fun _ _ _ _ _ _ h _ _ => h
  pos := by decide
theorem At.byte {A : Nat -> Prop} {h : H} {a : Addr} {x : UInt8} (hA : At elB A h a x) : cell h a = some (.int .u8 (x.toNat : Int)) := by
  obtain ⟨h1, cs, e, h4⟩ := hA
  cases e
  exact h4 0 _ rfl
theorem encB {A : Nat -> Prop} {h : H} : ∀ (l : List UInt8), Enc elB A h l (l.map fun x => Value.int .u8 (x.toNat : Int))
  | [] => rfl
  | x :: l => ⟨[.int .u8 (x.toNat : Int)], _, rfl, rfl, encB l⟩
theorem Row.cellB {A : Nat -> Prop} {h : H} {b : Option Addr} {n c : Nat} {l : List UInt8} (r : Row elB A h b n c l) {j : Nat} (hj : j < l.length) : ∃ a, b = some a /\ cell h (a.add j) = some (.int .u8 (l[j].toNat : Int)) := by
  obtain ⟨a, e, hA⟩ := r.at' j _ (List.getElem?_eq_getElem hj)
  have := hA.byte
  rw [show j * elB.sz = j from Nat.mul_one j] at this
  exact ⟨a, e, this⟩
theorem strOf_R {src dst e : TypeId} (hs : P.underlying src = some (.slice e)) (he : P.underlying e = some (.int .u8)) (hd : P.underlying dst = some .string) {A : Nat -> Prop} {h : H} {b : Option Addr} {n c : Nat} {l : List UInt8}
    (r : Row elB A h b n c l) {K : Value -> Prop} (hk : K (S l)) : SemR P (convert src dst (.slice b n c)) h K := by
  have hn := r.len
  subst hn
  refine ⟨S l, hk, fun w hw => ?_⟩
  cases hb : b with
  | none =>
    have : l = [] := by
      cases l with
      | nil => rfl
      | cons x l => obtain ⟨a, e, _⟩ := r.cellB (j := 0) (by simp); rw [hb] at e; cases e
    subst this
    rw [run_convert_bytes_string w src dst e none _ c hs he hd]
    simp [Conv.bytesToString]
    rfl
  | some a =>
    exact run_convert_bytes_back w src dst e a c l hs he hd fun j hj => by
      obtain ⟨a', e1, e2⟩ := r.cellB hj
      rw [hb] at e1
      cases e1
      rw [cell_eq]; exact hw.cell e2
theorem strOf_k {src dst e : TypeId} (hs : P.underlying src = some (.slice e)) (he : P.underlying e = some (.int .u8)) (hd : P.underlying dst = some .string) {A : Nat -> Prop} {h : H} {b : Option Addr} {n c : Nat} {l : List UInt8}
    (r : Row elB A h b n c l) {K : Value -> H -> Prop} (hk : K (S l) h) : SemH P (convert src dst (.slice b n c)) h K := (strOf_R hs he hd r (K := fun v => K v h) hk).h
structure BufB (h : H) (g : Nat) (c : Nat) (s : Bs) : Prop where
  ex : ∃ (cur : Array Value) (e : Nat), h[g]? = some (.cells cur e (cur.size, cur.size + 1)) /\ cur.size = c /\ s.length <= c /\ c <= maxLen /\ ∀ (j : Nat) x, s[j]? = some x -> cur[j]? = some (.int .u8 (x.toNat : Int))
theorem bytesBuf_k {src dst e : TypeId} (hs : P.underlying src = some .string) (hd : P.underlying dst = some (.slice e)) (he : P.underlying e = some (.int .u8)) {h : H} {s : List UInt8} (hl : s.length <= maxLen)
    {K : Value -> H -> Prop} (hk : ∀ c h', BufB h' h.size c s -> KB h h' -> h'.size = h.size + 1 -> K (.slice (some ⟨h.size, 0, none⟩) s.length c) h') : SemH P (convert src dst (S s)) h K := by
  intro w hw
  have hsz : (⟨⟨s⟩⟩ : ByteArray).size = s.length := rfl
  refine ⟨_, _, run_bytes_of_string w src dst e ⟨⟨s⟩⟩ hs hd he, ⟨rfl, rfl, rfl⟩, ?_⟩
  rw [hsz]
  have hg1 := grownCap_ge w s.length 0 e
  have hg2 := grownCap_le_maxLen w s.length 0 e hl
  have hh : (w.drew.alloc (.cells (bytesRow ⟨⟨s⟩⟩ (grownCap w s.length 0 e)) e ((bytesRow ⟨⟨s⟩⟩ (grownCap w s.length 0 e)).size, (bytesRow ⟨⟨s⟩⟩ (grownCap w s.length 0 e)).size + 1))).heap = h.push (.cells (bytesRow ⟨⟨s⟩⟩ (grownCap w s.length 0 e)) e ((bytesRow ⟨⟨s⟩⟩ (grownCap w s.length 0 e)).size, (bytesRow ⟨⟨s⟩⟩ (grownCap w s.length 0 e)).size + 1)) := by rw [<- hw]; rfl
  rw [hh, hw]
  have hbs : (bytesRow ⟨⟨s⟩⟩ (grownCap w s.length 0 e)).size = grownCap w s.length 0 e := by
    unfold bytesRow
    simp
    exact Nat.add_sub_cancel' hg1
  refine hk _ _ ⟨_, _, push_at h _, hbs, hg1, hg2, fun j x hx => ?_⟩ (SK.push h _) (by simp)
  have hj := (List.getElem?_eq_some_iff.1 hx).1
  rw [bytesRow_at ⟨⟨s⟩⟩ _ j hj]
  rw [List.getElem?_eq_getElem hj] at hx
  cases hx
  rfl
theorem BufB.kb {h h' : H} {g c : Nat} {s : Bs} (b : BufB h g c s) (k : KB h h') : BufB h' g c s := by
  obtain ⟨cur, e, h1, r⟩ := b.ex
  have hlt : g < h.size := by
    rcases Nat.lt_or_ge g h.size with h2 | h2
    · exact h2
    · rw [Array.getElem?_eq_none h2] at h1; cases h1
  exact ⟨cur, e, by rw [k.2 g hlt]; exact h1, r⟩
theorem BufB.cell {h : H} {g c : Nat} {s : Bs} (b : BufB h g c s) {j : Nat} (hj : j < s.length) : Sh.cell h ((⟨g, 0, none⟩ : Addr).add j) = some (.int .u8 (s[j].toNat : Int)) := by
  obtain ⟨cur, e, h1, h2, h3, h4, h5⟩ := b.ex
  rw [cell_lit h1]
  exact h5 j _ (List.getElem?_eq_getElem hj)
theorem BufB.row {h : H} {g c : Nat} {s : Bs} (b : BufB h g c s) : Row elB (fun _ => True) h (some ⟨g, 0, none⟩) s.length c s := by
  obtain ⟨cur, e, h1, h2, h3, h4, h5⟩ := b.ex
  refine Row.of (encB s) (fun j v hv => ⟨_, rfl, ?_⟩) rfl h3 h4 fun _ _ => trivial
  have hj : j < s.length := by simpa using (List.getElem?_eq_some_iff.1 hv).1
  rw [b.cell hj]
  rw [List.getElem?_map, List.getElem?_eq_getElem hj] at hv
  exact hv
theorem BufB.st {h : H} {g c : Nat} {s : Bs} (b : BufB h g c s) {j : Nat} (hj : j < s.length) {y : UInt8} {K : H -> Prop} (hk : ∀ h', BufB h' g c (s.set j y) -> KX g h h' -> h'.size = h.size -> K h') :
    stL ((⟨g, 0, none⟩ : Addr).add j) [.int .u8 (y.toNat : Int)] 0 h K := by
  obtain ⟨cur, e, h1, h2, h3, h4, h5⟩ := b.ex
  have ea : ((⟨g, 0, none⟩ : Addr).add j).add 0 = ⟨g, j, none⟩ := by rw [add_zero', addG]
  refine ⟨⟨_, by rw [add_zero']; exact b.cell hj⟩, ?_, ?_⟩
  · rw [ea]
    unfold iced
    simp only [h1]
    rw [Bool.and_eq_false_iff]
    left
    exact decide_eq_false (by show ¬ cur.size <= j; omega)
  · rw [ea]
    have hst : setc h ⟨g, j, none⟩ (.int .u8 (y.toNat : Int)) = h.setIfInBounds g (.cells (cur.setIfInBounds j (.int .u8 (y.toNat : Int))) e (cur.size, cur.size + 1)) := by
      unfold setc
      apply Array.ext_getElem?
      intro k
      rw [Array.getElem?_modify, Array.getElem?_setIfInBounds]
      by_cases hk : g = k
      · subst hk
        rw [if_pos rfl, if_pos rfl, h1]
        have hlt : g < h.size := by
          rcases Nat.lt_or_ge g h.size with h2 | h2
          · exact h2
          · rw [Array.getElem?_eq_none h2] at h1; cases h1
        rw [if_pos hlt]
        rfl
      · rw [if_neg hk, if_neg hk]
    refine hk _ ⟨cur.setIfInBounds j (.int .u8 (y.toNat : Int)), e, ?_, by simp [h2], by simp [h3], h4, fun k x hx => ?_⟩ ⟨by rw [hst]; simp, fun k hk => ?_⟩ (by rw [hst]; simp)
    · rw [hst, Array.getElem?_setIfInBounds, if_pos rfl]
      have hlt : g < h.size := by
        rcases Nat.lt_or_ge g h.size with h2 | h2
        · exact h2
        · rw [Array.getElem?_eq_none h2] at h1; cases h1
      rw [if_pos hlt]
      simp
    · rw [Array.getElem?_setIfInBounds]
      rw [List.getElem?_set] at hx
      by_cases e2 : j = k
      · subst e2
        rw [if_pos rfl] at hx ⊢
        rw [if_pos hj] at hx
        rw [if_pos (by omega)]
        cases hx; rfl
      · rw [if_neg e2] at hx ⊢
        exact h5 k x hx
    · rw [hst, Array.getElem?_setIfInBounds, if_neg (fun e => hk e.symm)]
end Go.Sh
namespace Go.Proofs
open Go Go.Sh
set_option linter.unusedVariables false
def low8 (c : UInt8) : UInt8 := if 65 <= c.toNat /\ c.toNat <= 90 then c + 32 else c
def lowT (s : Bs) : Bs := s.map low8
theorem low8_bits : ∀ c : Fin 256, 65 <= c.val -> c.val <= 90 -> bits .or .u8 (c.val : Int) 32 = ((c.val + 32 : Nat) : Int) := by decide +kernel
theorem low8_nat (c : UInt8) : ((low8 c).toNat : Int) = if 65 <= c.toNat /\ c.toNat <= 90 then bits .or .u8 (c.toNat : Int) 32 else (c.toNat : Int) := by
  unfold low8
  split
  · rename_i hc
    have := low8_bits ⟨c.toNat, c.toNat_lt⟩ hc.1 hc.2
    rw [this]
    have h2 : (c + 32).toNat = c.toNat + 32 := by
      rw [UInt8.toNat_add]
      show (c.toNat + 32) % 256 = _
      exact Nat.mod_eq_of_lt (by omega)
    rw [h2]
  · rfl
section
variable {h : H} {K : Value -> H -> Prop}
theorem small_calls {c : UInt8} (hk : K (.int .u8 ((low8 c).toNat : Int)) h) : HCalls Tryz.prog 212 ⟨[.int .u8 (c.toNat : Int)]⟩ h K := by
  rw [low8_nat] at hk
  refine Sx.class_small.ok _ _ _ (spl (fun h1 => spl (fun h2 => ?_) fun h2 => ?_) fun h1 => ?_)
  · rw [if_pos (by omega)] at hk; exact hk
  · rw [if_neg (by omega)] at hk; exact hk
  · rw [if_neg (by omega)] at hk; exact hk
theorem lower_calls {s : Bs} (hs : s.length <= 100000000) (hk : ∀ h', KB h h' -> K (S (lowT s)) h') : HCalls Tryz.prog 184 ⟨[S s]⟩ h K := by
  refine Sx.class_Lower.ok _ _ _ (bytesBuf_k Tryz.underlying9 Tryz.underlying176 Tryz.underlying5 (by simp only [maxLen]; omega) fun c h1 B1 k1 s1 => vSliceMk ⟨s.length + 1, ?_⟩)
  have key : ∀ k i h2 s2, i + k = s.length -> s2 = (s.take i).map low8 ++ s.drop i -> BufB h2 h.size c s2 -> KB h h2 -> h2.size = h.size + 1 ->
      Sx.class_Lower.n7_L (fun z3b z3n z3c h => Sx.class_Lower.n4 z3b z3n z3c (fun y2 h => K (S y2) h) (fun y2 h => K (S y2) h) h) (fun z3b z3n z3c h => Sx.class_Lower.n4 z3b z3n z3c (fun y2 h => K (S y2) h) (fun y2 h => K (S y2) h) h) (fun y2 h => K (S y2) h) (k + 1) (some ⟨h.size, 0, none⟩) s.length c (some ⟨h.size, 0, none⟩) s.length c (s.length : Int) (i : Int) h2 := by
    intro k
    induction k with
    | zero =>
      intro i h2 s2 hi e2 B k2 z2
      have : s2 = lowT s := by rw [e2, List.take_of_length_le (by omega), List.drop_of_length_le (by omega), List.append_nil]; rfl
      subst this
      have hr := B.row
      refine splF (by omega) ?_
      show SemH _ _ _ _
      have e3 : (lowT s).length = s.length := List.length_map _
      rw [e3] at hr
      exact strOf_k Tryz.underlying176 Tryz.underlying5 Tryz.underlying9 hr (vStrMk (hk h2 k2))
    | succ k ih =>
      intro i h2 s2 hi e2 B k2 z2
      have hl2 : s2.length = s.length := by rw [e2, List.length_append, List.length_map, List.length_take, List.length_drop]; omega
      have hil : i < s2.length := by omega
      have hc := B.cell hil
      have hget : s2[i] = s[i]'(by omega) := by
        have hl3 : ((s.take i).map low8).length = i := by rw [List.length_map, List.length_take]; omega
        have h5 : s2[i]? = s[i]? := by
          rw [e2, List.getElem?_append_right (by omega), hl3, Nat.sub_self, List.getElem?_drop, Nat.add_zero]
        rw [List.getElem?_eq_getElem hil, List.getElem?_eq_getElem (by omega)] at h5
        exact Option.some.inj h5
      refine splT (by omega) ⟨⟨by omega, by omega⟩, vSomeMk ⟨_, ?_, small_calls (c := s2[i]) (vIntMk ⟨⟨by omega, by omega⟩, vSomeMk ?_⟩)⟩⟩
      · rw [Int.toNat_natCast, Nat.mul_one]; exact hc
      · rw [Int.toNat_natCast, Nat.mul_one]
        refine B.st hil fun h3 B3 k3 z3 => ⟨⟨by show (-9223372036854775808 : Int) <= _; omega, by show _ <= (9223372036854775807 : Int); omega⟩, ih (i + 1) h3 _ (by omega) ?_ B3 (KB.step k2 k3 (Nat.le_refl _)) (by omega)⟩
        have hl3 : ((s.take i).map low8).length = i := by rw [List.length_map, List.length_take]; omega
        rw [hget, e2, List.set_append_right _ _ (by omega), hl3, Nat.sub_self]
        have hd : s.drop i = s[i]'(by omega) :: s.drop (i + 1) := List.drop_eq_getElem_cons (by omega)
        have ht : s.take (i + 1) = s.take i ++ [s[i]'(by omega)] := by rw [List.take_add_one, List.getElem?_eq_getElem (by omega)]; rfl
        rw [hd, ht, List.map_append, List.append_assoc]
        rfl
  exact key s.length 0 h1 s (by omega) (by simp) B1 k1 s1
end
end Go.Proofs
namespace Go.Proofs
open Go Go.Sh
set_option linter.unusedVariables false
set_option maxRecDepth 100000
def wEnc : Bs := [101, 110, 99, 111, 100, 105, 110, 103]
def wTH : Bs := [116, 101, 120, 116, 47, 104, 116, 109, 108]
def wXH : Bs := [97, 112, 112, 108, 105, 99, 97, 116, 105, 111, 110, 47, 120, 104, 116, 109, 108, 43, 120, 109, 108]
def wAnn : Bs := [97, 110, 110, 111, 116, 97, 116, 105, 111, 110, 45, 120, 109, 108]
def encB1 (a : AttrP) : Bool := decide (a.1 = wEnc) && (decide (lowT a.2 = wTH) || decide (lowT a.2 = wXH))
def pointM (sp : Int) (nm : Bs) (attrs : List AttrP) : Int :=
  if sp = 1 /\ specialP 1 nm = true then 2
  else if ¬ (sp = 2 /\ specialP 2 nm = true) then 0
  else if nm ≠ wAnn then 1
  else if attrs.any encB1 = true then 2 else 0
theorem pointM_rng (sp : Int) (nm : Bs) (attrs : List AttrP) : Rng .u8 (pointM sp nm attrs) := by
  unfold pointM
  repeat' split
  all_goals exact ⟨by decide, by decide⟩
def AttrsW (l : List AttrP) : Prop := ∀ a ∈ l, a.2.length <= 100000000
section
variable {A : Nat -> Prop} {h : H} {K : Value -> H -> Prop} {b : Option Addr} {n c : Nat} {attrs : List AttrP} {sp tk : Int} {nm tx : Bs} {cl : Bool}
theorem point_calls (m : ML h) (r : Row elAttr A h b n c attrs) (hv : AttrsW attrs) (hnm : nm.length <= 1000000000) (hk : ∀ h', KB h h' -> K (.int .u8 (pointM sp nm attrs)) h') :
    HCalls Tryz.prog 139 ⟨[.int .u8 sp, .agg ⟨[.int .u8 tk, S nm, .slice b n c, .bool cl, S tx]⟩]⟩ h K := by
  have hnm2 : nm.length <= 9000000000000000000 := by omega
  refine Sx.place_point.ok _ _ _ _ _ _ _ _ _ _ (newx_var fun a h1 v1 k1 e1 s1 => ?_)
  have m1 := m.kb k1
  have r1 := r.kb k1
  have hl := r1.len
  have loop : (attrs.any encB1 = true -> ∀ h', KB h h' -> K (.int .u8 2) h') -> (attrs.any encB1 = false -> ∀ h', KB h h' -> K (.int .u8 0) h') ->
      Sx.place_point.n3 a (fun y4 h => K (.int .u8 y4) h) (fun y4 h => K (.int .u8 y4) h) h1 := by
    intro hy hn
    refine ⟨_, _, _, v1.cell 2 rfl, n + 1, ?_⟩
    have hmx : n <= maxLen := Nat.le_trans r.cap r.max
    simp only [maxLen] at hmx
    have key : ∀ k i h2, i + k = n -> (attrs.take i).any encB1 = false -> KB h1 h2 ->
        Sx.place_point.n7_L (fun h => Sx.place_point.n4 (fun y4 h => K (.int .u8 y4) h) (fun y4 h => K (.int .u8 y4) h) h) (fun h => Sx.place_point.n4 (fun y4 h => K (.int .u8 y4) h) (fun y4 h => K (.int .u8 y4) h) h) (fun y4 h => K (.int .u8 y4) h) (k + 1) b n c (n : Int) (i : Int) h2 := by
      intro k
      induction k with
      | zero =>
        intro i h2 hi hno k2
        refine splF (by omega) (hn ?_ h2 (k1.trans k2))
        rwa [List.take_of_length_le (by omega)] at hno
      | succ k ih =>
        intro i h2 hi hno k2
        have hil : i < attrs.length := by omega
        refine splT (by omega) ((r1.kb k2).idxN (i := i) hil rfl fun q hA => ?_)
        have h3 := hA.fst.str
        have h4 := hA.snd.str
        refine ⟨_, h3.1, _, h4.1, newx_var fun a3 h3 v3 k3 e3 s3 => stL_var0 v3 (by show 2 <= 2; omega) fun h4 v4 k4 s4 => ⟨_, v4.cell 1 rfl, ?_⟩⟩
        have k2s := k2.1
        have k14 : KB h1 h4 := KB.step (k2.trans k3) k4 (by omega)
        · refine lower_calls (hv _ (List.getElem_mem hil)) fun h5 k5 => vStrMk ⟨_, (v4.kb k5).cell0 rfl, ?_⟩
          have k15 := k14.trans k5
          have hst : (attrs.take (i + 1)).any encB1 = encB1 attrs[i] := by
            rw [List.take_add_one, List.getElem?_eq_getElem hil, List.any_append, hno]
            simp
          have next : encB1 attrs[i] = false -> Rng .i64 ((i : Int) + 1) /\ Sx.place_point.n7_L (fun h => Sx.place_point.n4 (fun y4 h => K (.int .u8 y4) h) (fun y4 h => K (.int .u8 y4) h) h) (fun h => Sx.place_point.n4 (fun y4 h => K (.int .u8 y4) h) (fun y4 h => K (.int .u8 y4) h) h) (fun y4 h => K (.int .u8 y4) h) (k + 1) b n c (n : Int) ((i : Int) + 1) h5 := fun he =>
            ⟨rng64 (by omega) (by omega), ih (i + 1) h5 (by omega) (by rw [hst]; exact he) k15⟩
          have yes : encB1 attrs[i] = true -> K (.int .u8 2) h5 := fun he => hy (List.any_eq_true.2 ⟨_, List.getElem_mem hil, he⟩) h5 (k1.trans k15)
          refine spl (fun e1 => spl (fun e2 => yes ?_) fun e2 => spl (fun e3 => yes ?_) fun e3 => next ?_) fun e1 => next ?_
          · unfold encB1
            rw [decide_eq_true (show attrs[i].1 = wEnc from e1), decide_eq_true (show lowT attrs[i].2 = wTH from e2)]; rfl
          · unfold encB1
            rw [decide_eq_true (show attrs[i].1 = wEnc from e1), decide_eq_true (show lowT attrs[i].2 = wXH from e3), Bool.or_true]; rfl
          · unfold encB1
            rw [decide_eq_false (show ¬ lowT attrs[i].2 = wTH from e2), decide_eq_false (show ¬ lowT attrs[i].2 = wXH from e3)]; simp
          · unfold encB1
            rw [decide_eq_false (show ¬ attrs[i].1 = wEnc from e1)]; rfl
    exact key n 0 h1 (by omega) rfl (KB.refl _)
  have T12 : ¬ (sp = 1 /\ specialP 1 nm = true) -> Sx.place_point.n12 sp a (fun z3 h => Sx.place_point.n3 z3 (fun y4 h => K (.int .u8 y4) h) (fun y4 h => K (.int .u8 y4) h) h) (fun z3 h => Sx.place_point.n3 z3 (fun y4 h => K (.int .u8 y4) h) (fun y4 h => K (.int .u8 y4) h) h) (fun y4 h => K (.int .u8 y4) h) h1 := by
    intro hno
    have hz : ¬ (sp = 2 /\ specialP 2 nm = true) -> K (.int .u8 0) h1 := fun h2 => by
      have := hk h1 k1
      unfold pointM at this
      rwa [if_neg hno, if_pos h2] at this
    refine spl (fun e2 => ⟨_, v1.cell 1 rfl, special_calls m1 hnm2 (vBool_mk (condB (fun eb => condF ?_) fun eb => condT (hz fun h2 => ?_)))⟩) fun e2 => condT (hz fun h2 => e2 h2.1)
    · refine ⟨_, v1.cell 1 rfl, spl (fun e3 => ?_) fun e3 => ?_⟩
      · refine loop (fun he h' k' => ?_) fun he h' k' => ?_
        · have := hk h' k'
          unfold pointM at this
          rw [if_neg hno, if_neg (fun h => h ⟨e2, by rw [<- e2]; exact eb⟩), if_neg (fun h => h e3), if_pos he] at this
          exact this
        · have := hk h' k'
          unfold pointM at this
          rw [if_neg hno, if_neg (fun h => h ⟨e2, by rw [<- e2]; exact eb⟩), if_neg (fun h => h e3), if_neg (by rw [he]; decide)] at this
          exact this
      · have := hk h1 k1
        unfold pointM at this
        rw [if_neg hno, if_neg (fun h => h ⟨e2, by rw [<- e2]; exact eb⟩), if_pos (show nm ≠ wAnn from e3)] at this
        exact this
    · rw [<- e2, eb] at h2; exact absurd h2.2 (by decide)
  refine spl (fun e2 => ⟨_, v1.cell 1 rfl, special_calls m1 hnm2 (vBool_mk (condB (fun eb => condT ?_) fun eb => condF (T12 fun h2 => ?_)))⟩) fun e2 => condF (T12 fun h2 => e2 h2.1)
  · have := hk h1 k1
    unfold pointM at this
    rw [if_pos ⟨e2, by rw [<- e2]; exact eb⟩] at this
    exact this
  · rw [<- e2, eb] at h2; exact absurd h2.2 (by decide)
end
end Go.Proofs
namespace Go.Proofs
open Go Go.Sh
set_option linter.unusedVariables false
set_option maxRecDepth 100000
def wHtml : Bs := [104, 116, 109, 108]
def wm0 : WM := ⟨[rootM], [(0, 0, wHtml, 0)], [], false, 1⟩
def whereC (m : WM) : Int × Int := whereM m.ns m.op m.fo (curM m.op)
noncomputable def insertM (m : WM) (sp : Int) (nm : Bs) (attrs : List AttrP) : WM :=
  { m with ns := (putM (addM m.ns (bareM 1 sp nm attrs [])).1 (whereC m).1 (whereC m).2 m.ns.length).1, op := m.op ++ [((m.ns.length : Int), sp, nm, pointM sp nm attrs)],
           hi := if ((m.op.length + 1 : Nat) : Int) > m.hi then ((m.op.length + 1 : Nat) : Int) else m.hi }
noncomputable def writeW (m : WM) (tx : Bs) : WM := { m with ns := (writeM m.ns (whereC m).1 (whereC m).2 tx).1 }
def closeW (m : WM) (n : Int) : WM := { m with op := closeO m.op n }
def PS (s : Nat) : Prop := s = 0 ∨ s = 2
structure PW (h : H) (col : Col) (w : Addr) (m : WM) : Prop where
  ex : ∃ t ads, TreeP h col 0 t ads m.ns /\ WorldW h col 2 42 w t m.op m.mks m.fo m.hi
section
variable {Z : Nat -> Prop} {h h' : H} {K : Value -> H -> Prop} {col col' : Col} {w : Addr} {m : WM}
theorem PW.fresh (p : PW h col w m) : Fresh h col := by obtain ⟨t, ads, T, W⟩ := p.ex; exact T.fresh
theorem PW.ext (p : PW h col w m) (e : ExtP Z h col h' col') (h0 : ¬ Z 0) (h2 : ¬ Z 2) (f : Fresh h' col') : PW h' col' w m := by
  obtain ⟨t, ads, T, W⟩ := p.ex
  exact ⟨t, ads, T.otherP h0 e f, W.ext e h2⟩
theorem PW.kb (p : PW h col w m) (k : KB h h') : PW h' col w m := p.ext (Z := fun _ => False) (.kb k) id id (p.fresh.kb k)
theorem PW.few (p : PW h col w m) : m.ns.length <= 1000000 := by obtain ⟨t, ads, T, W⟩ := p.ex; exact T.few
theorem flatOpen : Flat elOpen := fun A A' h h' x cs hR => by
  obtain ⟨c1, c2, e, r1, d1, d2, e2, r2, f1, f2, e3, r3, r4⟩ := hR
  exact ⟨c1, c2, e, r1, d1, d2, e2, r2, f1, f2, e3, r3, r4⟩
theorem placeNew_calls (f : Fresh h col) (hk : ∀ w h' col', PW h' col' w wm0 -> ExtP PS h col h' col' -> K (.pointer (some w)) h') : HCalls Tryz.prog 33 ⟨[]⟩ h K := by
  refine Sx.place_New.ok _ _ (new_calls (s := 0) f fun t h1 c1 ads T1 E1 => vPtrMk (newx_var fun a2 h2 v2 k2 e2 s2 => newx_var fun a3 h3 v3 k3 e3 s3 => ?_))
  have ow : OpenW (0, 0, wHtml, 0) := ⟨⟨by decide, by decide⟩, ⟨by decide, by decide⟩, by decide, ⟨by decide, by decide⟩⟩
  have o2 := v2.ownF1 (E := elOpen) (x := (0, 0, wHtml, 0)) fun A => ow.r
  have f1 : Fresh h1 c1 := T1.fresh
  have f3 := (f1.kb k2).kb k3
  have h3s : h3.size = h1.size + 2 := by omega
  have hc : ∀ k, k < h1.size -> paint (paint c1 a2.block (2, 1)) a3.block (2, 0) k = c1 k := fun k hk => by rw [paint_ne (by omega), paint_ne (by omega)]
  have ff : Fresh h3 (paint (paint c1 a2.block (2, 1)) a3.block (2, 0)) := (f3.paint (by omega)).paint (by omega)
  refine hk a3 h3 (paint (paint c1 a2.block (2, 1)) a3.block (2, 0)) ⟨t, ads, T1.keep (k2.trans k3).w hc ff fun k hk _ => hk, ⟨⟨some a2, 1, none, 0, 0, v3, ?_, OwnC.none⟩, paint_at, ⟨by decide, by decide⟩⟩⟩ ?_
  · refine ⟨((o2.kb k3).own.flat flatOpen).lower (Nat.le_refl _), fun q e => ?_, fun q e => ?_, fun e => by cases e⟩
    · cases e; rw [paint_ne (by omega)]; exact paint_at
    · cases e; omega
  · exact (E1.p (.inl rfl)).trans ⟨(k2.trans k3).less fun k hk => hk.1, hc⟩
theorem agOpen {x : OpenP} {k : Int -> Int -> Bs -> Int -> Prop} (h : k x.1 x.2.1 x.2.2.1 x.2.2.2) :
    vAgg (.agg ⟨cellsO x⟩) fun l => uncons l fun e l => vInt .i64 e fun i => uncons l fun e l => vInt .u8 e fun j => uncons l fun e l => vStr e fun s => uncons l fun e l => vInt .u8 e fun p => unnil l (k i j s p) := h
theorem apdOpenC : Apd Tryz.prog elOpen 39 77 40 := apdOpen
theorem pushOpen_k {s wt : Nat} {t : Addr} {op : List OpenP} {mk : List MarkP} {fo : Bool} {hi : Int} (W : WorldW h col s wt w t op mk fo hi) (hf : Fresh h col) (hl : op.length < 1000000) {x : OpenP} (hx : OpenW x)
    {ob : Option Addr} {on oc : Nat} {mb : Option Addr} {mn mc : Nat} (v : Var h w wt [.pointer (some t), .slice ob on oc, .slice mb mn mc, .bool fo, .int .i64 hi])
    {a : Addr} {ty : Nat} (va : Var h a ty (cellsO x)) (hca : col a.block = none) {Q : H -> Prop}
    (hk : ∀ h' col', WorldW h' col' s wt w t (op ++ [x]) mk fo (if ((op.length + 1 : Nat) : Int) > hi then ((op.length + 1 : Nat) : Int) else hi) -> ExtP (fun k => k = s) h col h' col' -> Fresh h' col' -> cell h' (w.add 2) = some (.slice mb mn mc) -> Q h') :
    SemH Tryz.prog (Builtin.append_ #[39, 39] 39 ⟨[.slice ob on oc, .slice (some a) 1 1]⟩) h fun v143 h144 => vSlice v143 fun s145b s145n s145c => vSome (some w) fun a146 => stL (a146.add 1) [(.slice s145b s145n s145c)] 0 h144 fun h147 => vSome (some w) fun a148 => ∃ i149, cell h147 (a148.add 4) = some (.int .i64 i149) /\ (vSome (some w) fun a150 => ∃ s151b s151n s151c, cell h147 (a150.add 1) = some (.slice s151b s151n s151c) /\ (vSome (some w) fun a152 => stL (a152.add 4) [(.int .i64 (if (s151n : Int) > i149 then (s151n : Int) else i149))] 0 h147 fun h153 => Q h153)) := by
  obtain ⟨ob2, oc2, mb2, mn2, mc2, v2, o, om⟩ := W.ex
  have ec : some (Value.slice ob on oc) = some (.slice ob2 op.length oc2) := (v.cell 1 rfl).symm.trans (v2.cell 1 rfl)
  have em : some (Value.slice mb mn mc) = some (.slice mb2 mn2 mc2) := (v.cell 2 rfl).symm.trans (v2.cell 2 rfl)
  cases ec
  cases em
  have r1 : Row elOpen (Free col h) h (some a) 1 1 [x] := va.row1 hx.r ⟨hca, va.lt⟩
  refine o.append apdOpenC r1 (by simp only [maxLen]; omega) (by omega) hf fun b' c' h1 o1 g1 nb f1 => vSliceMk ?_
  have hbw : ∀ q, ob = some q -> q.block ≠ w.block := fun q e e2 => by have := o.col q e; rw [e2, W.col] at this; cases this
  have vk : Var h1 w wt [.pointer (some t), .slice ob op.length oc, .slice mb mn mc, .bool fo, .int .i64 hi] := v.keep g1.keep.w ⟨v.lt, fun q e => hbw q e⟩
  have E1 : ExtP (fun k => k = s) h col h1 (putB col h b' (s, 1)) := ExtP.grow g1 o.col rfl
  have hcw : putB col h b' (s, 1) w.block = some (s, 0) := by rw [putB_old v.lt]; exact W.col
  refine vSomeMk (stL_var (m := 1) (i := 0) vk (by show 1 + 0 + 1 <= 5; omega) fun h2 v2 k2 s2 => vSomeMk ⟨_, v2.cell 4 rfl, vSomeMk ⟨_, _, _, v2.cell 1 rfl, vSomeMk (stL_var (m := 4) (i := 0) v2 (by show 4 + 0 + 1 <= 5; omega) fun h3 v3 k3 s3 => ?_)⟩⟩)
  have k23 : KX w.block h1 h3 := k2.trans k3
  have E3 : ExtP (fun k => k = s) h1 (putB col h b' (s, 1)) h3 (putB col h b' (s, 1)) := ExtP.kx k23 hcw rfl
  have hne : ∀ k, k < h1.size -> (putB col h b' (s, 1) k = none ∨ ∃ p, p ≠ 0 /\ putB col h b' (s, 1) k = some (s, p)) -> k ≠ w.block := fun k hk hc e => by
    subst e
    rcases hc with hc | ⟨p, hp, hc⟩
    · rw [hcw] at hc; cases hc
    · rw [hcw] at hc; cases hc; exact hp rfl
  have o3 := o1.keep (h' := h3) (col' := putB col h b' (s, 1)) k23.w (fun _ _ => rfl) fun k hk hc => hne k hk (hc.imp id fun h => ⟨1, by decide, h⟩)
  have om1 : OwnC elMark h1 (putB col h b' (s, 1)) (s, 2) 79 mb mn mc mk := om.keep g1.keep.w E1.cl fun k hk hc => ⟨hk, fun q e e2 => by
    have h5 := o.col q e
    rw [e2] at h5
    rcases hc with hc | hc
    · rw [h5] at hc; cases hc
    · rw [h5] at hc; cases hc⟩
  have om3 := om1.keep (h' := h3) (col' := putB col h b' (s, 1)) k23.w (fun _ _ => rfl) fun k hk hc => hne k hk (hc.imp id fun h => ⟨2, by decide, h⟩)
  have hrh := W.rh
  have hlen : (op ++ [x]).length = op.length + 1 := by simp
  refine hk h3 _ ⟨⟨b', c', mb, mn, mc, ?_, ?_, om3⟩, hcw, ?_⟩ (E1.trans E3) (fun k hk => f1 k (by rw [<- s2, <- s3]; exact hk)) (v3.cell 2 rfl)
  · rw [hlen]; exact v3
  · rw [hlen]; exact o3
  · split
    · exact rng64 (by omega) (by omega)
    · exact hrh
theorem insert_callsM (L : Lib0 h col) (p : PW h col w m) (G : GoodT m.ns) (hne : 0 < m.op.length) (hop : m.op.length < 1000000) (hns : m.ns.length < 1000000) {ab : Option Addr} {an ac : Nat} {attrs : List AttrP} {sp tk : Int} {nm tx : Bs} {cl : Bool}
    (r : Row elAttr (Free col h) h ab an ac attrs) (hz : ab = none -> ac = 0) (han : an <= 1000000) (hv : AttrsW attrs) (hsp : Rng .u8 sp) (htk : Rng .u8 tk) (hnm : nm.length <= 1000000000)
    (hk : ∀ h' col', PW h' col' w (insertM m sp nm attrs) -> ExtP PS h col h' col' -> (∀ v, cell h (w.add 2) = some v -> cell h' (w.add 2) = some v) -> K (.int .i64 m.ns.length) h') :
    HCalls Tryz.prog 64 ⟨[.pointer (some w), .int .u8 sp, .agg ⟨[.int .u8 tk, S nm, .slice ab an ac, .bool cl, S tx]⟩]⟩ h K := by
  obtain ⟨t, ads, T, W⟩ := p.ex
  have hxn : nm.length <= maxLen := by simp only [maxLen]; omega
  refine Sx.place_World_Insert.ok _ _ _ _ _ _ _ _ _ _ _ (newx_var fun a1 h1 v1 k1 e1 s1 => ?_)
  refine current_calls (W.kb k1) hne (by omega) fun h2 k2 => ?_
  refine agOpen (x := curM m.op) ?_
  refine where_calls (x := curM m.op) (T.kb (k1.trans k2)) (W.kb (k1.trans k2)) (by omega) fun h3 k3 => tupIIMk ?_
  have k13 := (k1.trans k2).trans k3
  obtain ⟨ob, oc, mb, mn, mc, vw, ow, omw⟩ := (W.kb k13).ex
  have v3 := v1.kb (k2.trans k3)
  refine vSomeMk ⟨_, vw.cell 0 rfl, _, v3.cell 1 rfl, _, _, _, v3.cell 2 rfl, ?_⟩
  refine make_calls (T.kb k13) (r.kb k13) hz han ⟨by decide, by decide⟩ hsp hxn (by decide) hns fun h4 c4 ads4 T4 E4 => vIntMk ?_
  have E4p : ExtP (fun s => s = 0) h3 col h4 c4 := E4.p rfl
  have W4 := (W.kb k13).ext E4p (by decide)
  obtain ⟨ob4, oc4, mb4, mn4, mc4, vw4, ow4, omw4⟩ := W4.ex
  have G4 : GoodT (addM m.ns (bareM 1 sp nm attrs [])).1 := G.addM _ _ _ _ _
  refine vSomeMk ⟨_, vw4.cell 0 rfl, ?_⟩
  refine put_calls T4 G4 fun h5 c5 T5 E5 => vBool_mk ?_
  have E5p : ExtP (fun s => s = 0) h4 c4 h5 c5 := E5.p rfl
  have E35 := E4p.trans E5p
  have W5 := W4.ext E5p (by decide)
  obtain ⟨ob5, oc5, mb5, mn5, mc5, vw5, ow5, omw5⟩ := W5.ex
  have f3 : Fresh h3 col := p.fresh.kb k13
  have hca : col a1.block = none := p.fresh _ (by omega)
  have v5 : Var h5 a1 45 [.int .u8 tk, S nm, .slice ab an ac, .bool cl, S tx] := v3.keep E35.keepF ⟨hca, v3.lt⟩
  have r5 : Row elAttr (Free c5 h5) h5 ab an ac attrs := E35.row ((r.kb k13).keep (Keep.refl (fun _ => True) _ |>.less fun _ _ => trivial) fun k hk _ => Free.kb k13 hk)
  have L5 : Lib0 h5 c5 := (L.kb k13).ext E35
  have hw : (whereM m.ns m.op m.fo (curM m.op)) = whereC m := rfl
  have e2 : (addM m.ns (bareM 1 sp nm attrs [])).2 = (m.ns.length : Int) := rfl
  have tail : Sx.place_World_Insert.n5 (some w) sp a1 (addM m.ns (bareM 1 sp nm attrs [])).2 (fun y6 h => K (.int .i64 y6) h) (fun y6 h => K (.int .i64 y6) h) h5 := by
    refine vSomeMk ⟨_, _, _, vw5.cell 1 rfl, _, v5.cell 1 rfl, _, v5.cell 0 rfl, _, v5.cell 1 rfl, _, _, _, v5.cell 2 rfl, _, v5.cell 3 rfl, _, v5.cell 4 rfl, ?_⟩
    refine point_calls L5.ml r5 hv hnm fun h6 k6 => vIntMk ⟨k6.ext, newx_var fun a7 h7 v7 k7 e7 s7 => ⟨k7.ext, ?_⟩⟩
    have k57 := k6.trans k7
    have hxo : OpenW ((m.ns.length : Int), sp, nm, pointM sp nm attrs) := ⟨rng64 (by omega) (by omega), hsp, hxn, pointM_rng _ _ _⟩
    have f5 : Fresh h5 c5 := T5.fresh
    refine pushOpen_k (x := ((m.ns.length : Int), sp, nm, pointM sp nm attrs)) (W5.kb k57) (f5.kb k57) hop hxo (vw5.kb k57) v7 (f5 _ (by have := k6.1; omega)) fun h8 c8 W8 E8 f8 m8 => ?_
    have E3 : ExtP PS h col h3 col := .kb k13
    refine hk h8 c8 ⟨t, ads4, (T5.kb k57).otherP (S := fun k => k = 2) (by decide) E8 f8, W8⟩ (((E3.trans (E35.mono fun s hs => .inl hs)).trans (.kb k57)).trans (E8.mono fun s hs => .inr hs)) fun v hv => ?_
    have hwl : w.block < h.size := by have := cell_lt hv; rwa [add_block] at this
    have h3v : cell h3 (w.add 2) = some v := (KB.w k13).cell (by rw [add_block]; exact hwl) hv
    have h5v : cell h5 (w.add 2) = some v := E35.sk.w.cell ⟨by rw [add_block]; exact Nat.lt_of_lt_of_le hwl k13.1, fun s p hs e2 => by
      rw [add_block, W.col] at e2
      cases e2
      exact absurd hs (by decide)⟩ h3v
    rw [vw5.cell 2 rfl] at h5v
    rw [m8]; exact h5v
  exact condK (K := fun _ => Sx.place_World_Insert.n5 (some w) sp a1 (addM m.ns (bareM 1 sp nm attrs [])).2 (fun y6 h => K (.int .i64 y6) h) (fun y6 h => K (.int .i64 y6) h) h5) tail
theorem insert_calls (L : Lib0 h col) (p : PW h col w m) (G : GoodT m.ns) (hne : 0 < m.op.length) (hop : m.op.length < 1000000) (hns : m.ns.length < 1000000) {ab : Option Addr} {an ac : Nat} {attrs : List AttrP} {sp tk : Int} {nm tx : Bs} {cl : Bool}
    (r : Row elAttr (Free col h) h ab an ac attrs) (hz : ab = none -> ac = 0) (han : an <= 1000000) (hv : AttrsW attrs) (hsp : Rng .u8 sp) (htk : Rng .u8 tk) (hnm : nm.length <= 1000000000)
    (hk : ∀ h' col', PW h' col' w (insertM m sp nm attrs) -> ExtP PS h col h' col' -> K (.int .i64 m.ns.length) h') :
    HCalls Tryz.prog 64 ⟨[.pointer (some w), .int .u8 sp, .agg ⟨[.int .u8 tk, S nm, .slice ab an ac, .bool cl, S tx]⟩]⟩ h K :=
  insert_callsM L p G hne hop hns r hz han hv hsp htk hnm fun h' col' p' E' _ => hk h' col' p' E'
theorem write_callsW (p : PW h col w m) (G : GoodT m.ns) (hne : 0 < m.op.length) (hop : m.op.length < 1000000) (hns : m.ns.length < 1000000) {tx : Bs} (hlen : ∀ (i : Nat) x, m.ns[i]? = some x -> x.text.length + tx.length <= 9223372036854775807) (htx : tx.length <= maxLen)
    (hk : ∀ h' col', PW h' col' w (writeW m tx) -> ExtP PS h col h' col' -> K (.tuple ⟨[]⟩) h') :
    HCalls Tryz.prog 36 ⟨[.pointer (some w), S tx]⟩ h K := by
  obtain ⟨t, ads, T, W⟩ := p.ex
  refine Sx.place_World_Write.ok _ _ _ _ ?_
  refine current_calls W hne (by omega) fun h2 k2 => ?_
  refine agOpen (x := curM m.op) ?_
  refine where_calls (x := curM m.op) (T.kb k2) (W.kb k2) (by omega) fun h3 k3 => tupIIMk ?_
  have k13 := k2.trans k3
  obtain ⟨ob, oc, mb, mn, mc, vw, ow, omw⟩ := (W.kb k13).ex
  refine vSomeMk ⟨_, vw.cell 0 rfl, ?_⟩
  refine write_calls (T.kb k13) G hlen htx hns fun h4 c4 ads4 T4 E4 => vBool_mk ?_
  have E4p : ExtP (fun s => s = 0) h3 col h4 c4 := E4.p rfl
  have W4 := (W.kb k13).ext E4p (by decide)
  have tail : K (.tuple ⟨[]⟩) h4 := hk h4 c4 ⟨t, ads4, T4, W4⟩ ((ExtP.kb k13).trans (E4p.mono fun s hs => .inl hs))
  exact condK (K := fun _ => K (.tuple ⟨[]⟩) h4) tail
theorem close_callsW (p : PW h col w m) {n : Int} (hk : ∀ h' col', PW h' col' w (closeW m n) -> ExtP PS h col h' col' -> K (.tuple ⟨[]⟩) h') : HCalls Tryz.prog 57 ⟨[.pointer (some w), .int .i64 n]⟩ h K := by
  obtain ⟨t, ads, T, W⟩ := p.ex
  exact close_calls W p.fresh fun h' W' E' f' => hk h' col ⟨t, ads, T.otherP (S := fun k => k = 2) (by decide) E' f', W'⟩ (E'.mono fun s hs => .inr hs)
end
end Go.Proofs
