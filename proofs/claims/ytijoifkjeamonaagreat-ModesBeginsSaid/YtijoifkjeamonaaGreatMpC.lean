import Derived.Test.YtijoifkjeamonaaGreatPdD
import Derived.Test.YtijoifkjeamonaaGreatTxG
namespace Go.Proofs
open Go Go.Sh
set_option linter.unusedVariables false
set_option maxRecDepth 100000
section
variable {A B : Nat -> Prop} {h : H} {b b2 : Option Addr} {n c n2 c2 : Nat} {ns : List Bs} {s row : Bs} {x : OpenP} {sc sp : Int}
end
section
variable {A B : Nat -> Prop} {h : H} {b b2 : Option Addr} {n c n2 c2 : Nat} {ns : List Bs} {s row : Bs} {x : OpenP} {sc sp : Int}
theorem boundsP_table (e : sc = 3) : boundsP x sc = oneP x wTable := by unfold boundsP; rw [if_pos e]
theorem boundsP_other (e : sc ≠ 3) (e2 : x.2.1 ≠ 0) : boundsP x sc = specialP x.2.1 x.2.2.1 := by unfold boundsP; rw [if_neg e, if_pos e2]
theorem boundsP_html (e : sc ≠ 3) (e2 : x.2.1 = 0) : boundsP x sc = (inNames wBnd x.2.2.1 || (decide (sc = 1) && inNames wList x.2.2.1) || (decide (sc = 2) && inNames wButton x.2.2.1)) := by unfold boundsP; rw [if_neg e, if_neg (fun h => h e2)]
theorem oneP_html (e2 : x.2.1 = 0) : oneP x ns = inNames ns x.2.2.1 := by unfold oneP; rw [decide_eq_true e2, Bool.true_and]
theorem bounds_calls (m : ML h) (hs : x.2.2.1.length <= 9000000000000000000) {K : Value -> H -> Prop} (hk : ∀ h', KB h h' -> K (.bool (boundsP x sc)) h') : HCalls Tryz.prog 216 ⟨[.agg ⟨cellsO x⟩, .int .u8 sc]⟩ h K := by
  refine Sx.open_bounds.ok _ _ _ _ _ _ _ (newx_var fun a h1 v1 k1 _ _ => ?_)
  have last : ∀ h2, KB h1 h2 -> sc ≠ 3 -> x.2.1 = 0 -> (decide (sc = 1) && inNames wList x.2.2.1) = false -> (decide (sc = 2) && inNames wButton x.2.2.1) = false ->
      Sx.open_bounds.n3 a (fun y4 h => K (.bool y4) h) (fun y4 h => K (.bool y4) h) h2 := fun h2 k2 e1 e2 e3 e4 => by
    refine ⟨_, (v1.kb k2).cell 2 rfl, hasRow_calls wBnd wBnd_ok (by decide +kernel) (by decide +kernel) ((m.kb k1).kb k2) hs (vBool_mk (condK (K := fun b => K (.bool b) h2) ?_))⟩
    have := hk h2 (k1.trans k2)
    rwa [boundsP_html e1 e2, e3, e4, Bool.or_false, Bool.or_false] at this
  have second : ∀ h2, KB h1 h2 -> sc ≠ 3 -> x.2.1 = 0 -> (decide (sc = 1) && inNames wList x.2.2.1) = false ->
      Sx.open_bounds.n14 sc a false (fun z2 z20 h => Sx.open_bounds.n12 z2 z20 (fun z2 h => Sx.open_bounds.n3 z2 (fun y4 h => K (.bool y4) h) (fun y4 h => K (.bool y4) h) h) (fun z2 h => Sx.open_bounds.n3 z2 (fun y4 h => K (.bool y4) h) (fun y4 h => K (.bool y4) h) h) (fun y4 h => K (.bool y4) h) h)
        (fun z2 h => Sx.open_bounds.n3 z2 (fun y4 h => K (.bool y4) h) (fun y4 h => K (.bool y4) h) h) (fun y4 h => K (.bool y4) h) h2 := fun h2 k2 e1 e2 e3 => by
    refine spl (fun e => ldVar (v1.kb k2) (newx_var (cs := wButton.map S) fun a3 h3 v3 k3 _ _ => ofLit_calls wButton rfl (by decide +kernel) (by decide +kernel) v3 fun h4 k4 => vBool_mk (condB (fun ht => ?_) fun ht => ?_))) fun e => last h2 k2 e1 e2 e3 (by rw [decide_eq_false e, Bool.false_and])
    · rw [oneP_html e2] at ht
      have := hk h4 (((k1.trans k2).trans k3).trans k4)
      rwa [boundsP_html e1 e2, ht, decide_eq_true e, Bool.and_self, Bool.or_true] at this
    · rw [oneP_html e2] at ht
      exact last h4 ((k2.trans k3).trans k4) e1 e2 e3 (by rw [ht, Bool.and_false])
  refine spl (fun e => ldVar v1 (newx_var (cs := wTable.map S) fun a3 h3 v3 k3 _ _ => ofLit_calls wTable rfl (by decide +kernel) (by decide +kernel) v3 fun h4 k4 => vBool_mk (condK (K := fun b => K (.bool b) h4) ?_))) fun e => ⟨_, v1.cell 1 rfl, spl (fun e2 => ?_) fun e2 => ?_⟩
  · have := hk h4 ((k1.trans k3).trans k4)
    rwa [boundsP_table e] at this
  · refine spl (fun e3 => ldVar v1 (newx_var (cs := wList.map S) fun a3 h3 v3 k3 _ _ => ofLit_calls wList rfl (by decide +kernel) (by decide +kernel) v3 fun h4 k4 => vBool_mk (condB (fun ht => ?_) fun ht => ?_))) fun e3 => second h1 (KB.refl h1) e e2 (by rw [decide_eq_false e3, Bool.false_and])
    · rw [oneP_html e2] at ht
      have := hk h4 ((k1.trans k3).trans k4)
      rwa [boundsP_html e e2, ht, decide_eq_true e3, Bool.and_self, Bool.or_true, Bool.true_or] at this
    · rw [oneP_html e2] at ht
      exact second h4 (k3.trans k4) e e2 (by rw [ht, Bool.and_false])
  · refine ⟨_, v1.cell 1 rfl, _, v1.cell 2 rfl, special_calls (m.kb k1) hs (vBool_mk (condK (K := fun b => K (.bool b) h1) ?_))⟩
    have := hk h1 k1
    rwa [boundsP_other e e2] at this
end
section
variable {A B : Nat -> Prop} {h : H} {b b2 : Option Addr} {n c n2 c2 : Nat} {l : List OpenP} {ns : List Bs} {s : Bs} {sc : Int}
theorem rdOpenV {i : Int} {x : OpenP} {K : Value -> Int -> Int -> Bs -> Int -> Prop} (h : K (.int .i64 i) x.1 x.2.1 x.2.2.1 x.2.2.2) :
    uncons [.int .i64 i, .agg ⟨cellsO x⟩] fun e l => uncons l fun e2 l2 => vAgg e2 fun l3 => uncons l3 fun e3 l4 => vInt .i64 e3 fun j => uncons l4 fun e4 l5 => vInt .u8 e4 fun k => uncons l5 fun e5 l6 => vStr e5 fun s => uncons l6 fun e6 l7 => vInt .u8 e6 fun p => unnil l7 (unnil l2 (K e j k s p)) := h
theorem openIn_calls (m : ML h) (hA : ∀ k, A k -> k < h.size) (r : Row elOpen A h b n c l) (hl : ∀ x ∈ l, x.2.2.1.length <= 9000000000000000000) (rn : Row elStr B h b2 n2 c2 ns) {K : Value -> H -> Prop} (hk : ∀ h', KB h h' -> K (.bool (inP l sc ns)) h') :
    HCalls Tryz.prog 191 ⟨[.slice b n c, .int .u8 sc, .slice b2 n2 c2]⟩ h K := by
  refine Sx.open_In.ok _ _ _ _ _ _ _ _ _ (newx_var fun x1 h1 v1 k1 e1 s1 => newx_var fun x2 h2 v2 k2 e2 s2 => newx_var fun y h3 v3 k3 e3 s3 => outwards_calls fun a h4 va k4 ea => ?_)
  have k03 := (k1.trans k2).trans k3
  have k04 := k03.trans k4
  have r4 := r.kb k04
  refine scan_open (f := inF sc ns) (val := .bool) (d := false) (res := inP l sc ns) k04 r4 hA va (v3.kb k4) (by omega) (by omega) rfl (fun i hi h5 Kc k5 hcont hstore hbreak => rdOpenV (front_open k5 (fun k hk => ?_) (Nat.le_refl _) fun ax hb kb vb => ?_)) (fun h' k' hd v => leave_k hd k' k04.1 v fun h'' k'' v'' => ⟨_, v''.cell0 rfl, hk h'' k''⟩)
  · rcases hk with hk | hk
    · exact Nat.lt_of_lt_of_le (hA _ hk) k04.1
    · rw [hk]; exact va.lt
  · have w2 := ((v2.kb k3).kb k4).kb kb
    have w1 := (((v1.kb k2).kb k3).kb k4).kb kb
    refine ldVar vb ⟨_, _, _, w2.cell0 rfl, of_calls ((rn.kb k04).kb kb) fun h6 k6 => vBool_mk (condB (fun ht => hstore hb h6 true kb k6 (by unfold inF; rw [if_pos ht])) fun hf => ldVar (vb.kb k6) ⟨_, (w1.kb k6).cell0 rfl, bounds_calls (((m.kb k04).kb kb).kb k6) (hl _ (List.getElem_mem _)) fun h7 k7 => vBool_mk (condB (fun ht => hbreak hb h7 kb (k6.trans k7) (by unfold inF; rw [if_neg (by rw [hf]; simp), if_pos ht])) fun hf2 => hcont hb h7 kb (k6.trans k7) (by unfold inF; rw [if_neg (by rw [hf]; simp), if_neg (by rw [hf2]; simp)]))⟩)⟩
end
end Go.Proofs
namespace Go.Proofs
open Go Go.Sh
set_option linter.unusedVariables false
set_option maxRecDepth 100000
section
variable {A B : Nat -> Prop} {h : H} {b b2 : Option Addr} {n c n2 c2 : Nat} {l : List MarkP}
theorem indexFuncMark_calls {f : Value} {p : MarkP -> Bool} (r : Row elMark A h b n c l)
    (hf : ∀ x h1 b' n' c' (next : Value -> H -> Prop), x ∈ l -> KB h h1 -> MarkR A h1 x b' n' c' -> (∀ h2, KB h1 h2 -> next (.bool (p x)) h2) -> CallV Tryz.prog 4 f ⟨[.agg ⟨[.int .i64 x.1, S x.2.1, .slice b' n' c']⟩]⟩ h1 next)
    {K : Value -> H -> Prop} (hk : ∀ h', KB h h' -> K (.int .i64 (idxQ l p)) h') :
    HCalls Tryz.prog 193 ⟨[.slice b n c, f]⟩ h K := by
  refine Sx.slices_IndexFunc_apiMark.ok _ _ _ _ _ _ ?_
  have hl := r.len
  have hm : n <= maxLen := Nat.le_trans r.cap r.max
  simp only [maxLen] at hm
  refine ⟨n + 1, ?_⟩
  have key : ∀ k i h1, i + k = n -> KB h h1 -> (∀ j (h1 : j < l.length), j < i -> p l[j] = false) ->
      Sx.slices_IndexFunc_apiMark.n6_L (fun h => K (.int .i64 (-1)) h) (fun h => K (.int .i64 (-1)) h) (fun y4 h => K (.int .i64 y4) h) (k + 1) b n c f (n : Int) (i : Int) h1 := by
    intro k
    induction k with
    | zero =>
      intro i h1 hi k1 hall
      have := hk h1 k1
      rw [idxQ_none fun j hj => hall j hj (by omega)] at this
      exact splF (by omega) this
    | succ k ih =>
      intro i h1 hi k1 hall
      have hil : i < l.length := by omega
      refine splT (by omega) ((r.kb k1).idxN hil rfl fun a hA => ldMark hA fun b' n' c' hR => hf _ h1 b' n' c' _ (List.getElem_mem _) k1 hR fun h2 k2 => ?_)
      refine condB (fun hd => ?_) fun hd => ⟨rng64 (by omega) (by omega), ih (i + 1) h2 (by omega) (k1.trans k2) fun j h1 hj => ?_⟩
      · have := hk h2 (k1.trans k2)
        rwa [idxQ_some hil hd hall] at this
      · by_cases e : j < i
        · exact hall j h1 e
        · have : j = i := by omega
          subst this
          exact hd
  exact key n 0 h (by omega) (KB.refl h) fun j _ hj => absurd hj (Nat.not_lt_zero _)
def findP (l : List MarkP) (id : Int) : Int := if id < 0 then -1 else idxQ l fun m => decide (m.1 = id)
theorem find_calls {id : Int} (r : Row elMark A h b n c l) {K : Value -> H -> Prop} (hk : ∀ h', KB h h' -> K (.int .i64 (findP l id)) h') : HCalls Tryz.prog 201 ⟨[.slice b n c, .int .i64 id]⟩ h K := by
  refine Sx.marks_Find.ok _ _ _ _ _ _ (newx_var fun a1 h1 v1 k1 e1 _ => ⟨id, v1.cell0 rfl, spl (fun hn => ?_) fun hn => ?_⟩)
  · have := hk h1 k1
    unfold findP at this
    rwa [if_pos hn] at this
  · refine indexFuncMark_calls (p := fun m => decide (m.1 = id)) (r.kb k1) (fun x h3 b' n' c' next hx k3 hR hnx => ?_) fun h' k' => ?_
    · have e : CallV Tryz.prog 4 (.func (.func 221) ⟨[]⟩ ⟨[.pointer (some a1)]⟩) ⟨[.agg ⟨[.int .i64 x.1, S x.2.1, .slice b' n' c']⟩]⟩ h3 next =
          HCalls Tryz.prog 221 ⟨[.agg ⟨[.int .i64 x.1, S x.2.1, .slice b' n' c']⟩, .pointer (some a1)]⟩ h3 fun v h' => vBool v fun b => cond b (next (.bool true) h') (next (.bool false) h') := by kernel_rfl
      rw [e]
      refine Sx.marks_Find_1.ok _ _ _ _ _ _ _ _ (newx_var fun a4 h4 v4 k4 e4 _ => ⟨_, v4.cell 0 rfl, _, ((v1.kb k3).kb k4).cell0 rfl, ?_⟩)
      have := hnx h4 k4
      refine spl (fun e => ?_) fun e => ?_
      · rw [decide_eq_true e] at this; exact this
      · rw [decide_eq_false e] at this; exact this
    · have := hk h' (k1.trans k')
      unfold findP at this
      rwa [if_neg hn] at this
def lastTo (l : List MarkP) (s : Bs) : Nat -> Int
  | 0 => -1
  | i + 1 => if (l.getD i (0, [], [])).1 < 0 then -1 else if (l.getD i (0, [], [])).2.1 = s then i else lastTo l s i
def lastP (l : List MarkP) (s : Bs) : Int := lastTo l s l.length
theorem last_calls {s : Bs} (hA : ∀ k, A k -> k < h.size) (r : Row elMark A h b n c l) {K : Value -> H -> Prop} (hk : ∀ h', KB h h' -> K (.int .i64 (lastP l s)) h') : HCalls Tryz.prog 152 ⟨[.slice b n c, S s]⟩ h K := by
  refine Sx.marks_Last.ok _ _ _ _ _ _ (newx_var fun xs0 h0 v0 k0 e0 _ => newx_var fun x2 h1 v1 k1 e1 _ => backward_calls ((r.kb k0).kb k1) fun a h2 v2 k2 e2 => ?_)
  have hm : n <= maxLen := Nat.le_trans r.cap r.max
  simp only [maxLen] at hm
  have hl := r.len
  obtain ⟨xs, hB, hE⟩ := backward_emits (((r.kb k0).kb k1).kb k2) v2
  have h01 := k0.1
  have hne : ¬ (A x2.block ∨ x2.block = a.block) := fun e => by
    have := v1.lt
    rcases e with e | e
    · have := hA _ e; omega
    · omega
  have v12 := v1.kb k2
  have v02 := (v0.kb k1).kb k2
  have k02 : KB h h2 := (k0.trans k1).trans k2
  have k02s := k02.1
  have fin : lastP l s = -1 -> ∀ h3, KB h2 h3 -> dOpen h2.size h3 -> Sx.marks_Last.n5 x2 [markD h2.size] (fun y4 ds h => leaveX ds h fun h => ∃ i93, cell h y4 = some (.int .i64 i93) /\ (K (.int .i64 i93) h)) (fun y4 ds h => leaveX ds h fun h => ∃ i93, cell h y4 = some (.int .i64 i93) /\ (K (.int .i64 i93) h)) h3 := by
    intro e h3 k3 hd
    have vx := v12.kb k3
    refine stL_var0 vx (Nat.le_refl _) fun h7 v7 k7 s7 => ?_
    refine leave_int (vx.dOpen k7 hd) (KB.step (k02.trans k3) k7 (by omega)) k02s v7 fun h' k' => ?_
    rw [e] at hk; exact hk h' k'
  refine ⟨xs, Non, _, hE, hB.len, rounds_of (fun xs h' => KB h2 h' /\ ∃ i, Backs A h' l i xs /\ lastTo l s i = lastP l s) (fun xs h' h'' ⟨k, i, hb, e⟩ n => ⟨k.nz n (Nat.le_succ _), i, hb.kw n.kw, e⟩) ?_ ?_ xs h2 ⟨KB.refl _, l.length, hB, rfl⟩⟩
  · rintro x xs h3 Kc ⟨k3, i, hb, e⟩ hKc
    cases i with
    | zero => simp [Backs] at hb
    | succ i =>
      obtain ⟨hi, b', n', c', rest, hm', e', hr⟩ := hb
      cases e'
      unfold lastTo at e
      rw [getD_get hi] at e
      refine rdMark (newx_var fun a4 h4 v4 k4 e4 _ => stL_var0 v4 (Nat.le_refl _) fun h5 v5 k5 s5 => ?_)
      have k35 : KB h3 h5 := KB.step k4 k5 (by omega)
      refine ⟨(k4.kp).trans (KX.kp v4 k5 fun e => ?_), fun h6 n6 => ?_⟩
      · have := k3.1; have h22 := k02.1
        rcases e with e | e
        · have := hA _ e; omega
        · have := v2.lt; omega
      have v6 := v5.kw n6.kw
      have k26 : KB h2 h6 := (k3.trans k35).nz n6 (Nat.le_succ _)
      have vx := v12.kb k26
      refine ⟨_, v6.cell 0 rfl, spl (fun hneg => ?_) fun hneg => ⟨_, v6.cell 1 rfl, _, (v02.kb k26).cell0 rfl, spl (fun hd => ?_) fun hd => ?_⟩⟩
      · rw [if_pos hneg] at e
        exact ⟨KpP.refl _ _, fun h4 n4 hd => fin e.symm h4 (k26.nz n4 (Nat.le_succ _)) hd⟩
      · rw [if_neg hneg, if_pos hd] at e
        refine stL_var0 vx (Nat.le_refl _) fun h7 v7 k7 s7 => ⟨KX.kp vx k7 hne, fun h8 n8 hd => ?_⟩
        refine leave_int hd ((KB.step (k02.trans k26) k7 (by omega)).nz n8 (by omega)) k02s (v7.kw n8.kw) fun h' k' => ?_
        rw [<- e] at hk; exact hk h' k'
      · rw [if_neg hneg, if_neg hd] at e
        exact hKc _ _ (KpP.refl _ _) ⟨k26, i, (hr.kw (KB.w k35)).kw n6.kw, e⟩
  · rintro h3 ⟨k3, i, hb, e⟩ hd
    cases i with
    | succ i => obtain ⟨_, _, _, _, _, _, e', _⟩ := hb; cases e'
    | zero => exact fin e.symm h3 k3 hd
end
end Go.Proofs
namespace Go.Proofs
open Go Go.Sh
set_option linter.unusedVariables false
set_option maxRecDepth 100000
def isN (x : OpenP) (s : Bs) : Bool := decide (x.2.1 = 0) && decide (x.2.2.1 = s)
abbrev specO (x : OpenP) : Bool := specialP x.2.1 x.2.2.1
def clTo (op : List OpenP) (s : Bs) : Nat -> Nat
  | 0 => 0
  | i + 1 => if i = 0 then 0 else if isN (op.getD i noOpen) s then i else if specO (op.getD i noOpen) then 0 else clTo op s i
def closeA (m : WM) (s : Bs) : WM := closeW m (clTo m.op s m.op.length : Nat)
abbrev atO (op : List OpenP) (id : Int) : Int := idxQ op fun x => decide (x.1 = id)
def wStar : List Bs := [[42]]
def freeO (x : OpenP) : Bool := inP [(0, 0, [42], 0), x] 0 wStar
def scopedP (l : List OpenP) : Bool := l.all freeO
def unmark (m : WM) (k : Nat) : WM := { m with mks := m.mks.eraseIdx k }
def unbook (b k : Nat) : Nat := if k < b then b - 1 else b
noncomputable def climbN (blk f : Int) : Nat -> Nat -> WM -> Int -> Nat -> WM × Int × Nat
  | 0, _, m, last, b => (m, last, b)
  | at' + 1, n, m, last, b =>
    let x := m.op.getD at' noOpen
    if x.1 = f then (m, last, b)
    else
      let k := findP m.mks x.1
      if 0 <= k /\ n < 3 then
        let c := (copyM m.ns x.1).2
        climbN blk f at' (n + 1)
          { m with ns := (putM (copyM m.ns x.1).1 c (-1) last).1, op := m.op.set at' (c, x.2), mks := m.mks.set k.toNat (c, (m.mks.getD k.toNat noMark).2) }
          c (if last = blk then k.toNat + 1 else b)
      else if 0 <= k then climbN blk f at' (n + 1) (dropW (unmark m k.toNat) x.1) last (unbook b k.toNat)
      else climbN blk f at' (n + 1) (dropW m x.1) last b
def insAt {α : Type} (l : List α) (i : Nat) (x : α) : List α := l.take i ++ x :: l.drop i
noncomputable def renewM (m : WM) (f blk : Int) (b : Nat) : WM :=
  let id := (copyM m.ns f).2
  let ns := (putM (moveM (copyM m.ns f).1 blk id).1 blk (-1) id).1
  let k := (findP m.mks f).toNat
  let op := dropO m.op f
  { m with ns := ns, mks := insAt (m.mks.eraseIdx k) (unbook b k) (id, (m.mks.getD k noMark).2), op := insAt op ((atO op blk) + 1).toNat (id, (m.op.getD (atO m.op f).toNat noOpen).2) }
noncomputable def overM (m : WM) (f : Int) (k at' n : Nat) : WM :=
  let blk := (m.op.getD n noOpen).1
  let r := climbN blk f n 0 m blk k
  let p := whereM r.1.ns r.1.op r.1.fo (m.op.getD (at' - 1) noOpen)
  renewM { r.1 with ns := (putM r.1.ns p.1 p.2 r.2.1).1 } f blk r.2.2
noncomputable def roundM (m : WM) (k : Nat) : WM × Bool :=
  let f := (m.mks.getD k noMark).1
  if atO m.op f < 0 then (unmark m k, false)
  else
    let at' := (atO m.op f).toNat
    if scopedP (m.op.drop (at' + 1)) = false then (m, false)
    else if idxQ (m.op.drop (at' + 1)) specO < 0 then (unmark (closeW m at') k, false)
    else (overM m f k at' ((idxQ (m.op.drop (at' + 1)) specO).toNat + (at' + 1)), true)
noncomputable def roundsM (s : Bs) : Nat -> WM -> WM × Bool
  | 0, m => (m, true)
  | r + 1, m =>
    if lastP m.mks s < 0 then (m, false)
    else if (roundM m (lastP m.mks s).toNat).2 then roundsM s r (roundM m (lastP m.mks s).toNat).1
    else ((roundM m (lastP m.mks s).toNat).1, true)
noncomputable def runM (m : WM) (s : Bs) : WM × Bool :=
  if isN (curM m.op) s = true /\ findP m.mks (curM m.op).1 < 0 then (closeW m ((m.op.length : Int) - 1), true)
  else roundsM s 8 m
end Go.Proofs
namespace Go.Proofs
open Go Go.Sh
set_option linter.unusedVariables false
set_option maxRecDepth 100000
def KeepK (ns ns' : List NodeM) : Prop := ∀ (j : Nat) z, ns[j]? = some z -> ∃ z', ns'[j]? = some z' /\ z'.kind = z.kind
theorem KeepK.like {ns ns' : List NodeM} (l : LikeT ns ns') (hl : ns'.length = ns.length) : KeepK ns ns' := fun j z hz => by
  have hj : j < ns.length := (List.getElem?_eq_some_iff.1 hz).1
  have h' : ns'[j]? = some (ns'[j]'(by omega)) := List.getElem?_eq_getElem (by omega)
  obtain ⟨y, hy, e, _⟩ := l j _ h'
  rw [hz] at hy; cases hy
  exact ⟨_, h', e⟩
theorem KeepK.trans {a b c : List NodeM} (h : KeepK a b) (k : KeepK b c) : KeepK a c := fun j z hz => by
  obtain ⟨y, hy, e⟩ := h j z hz
  obtain ⟨x, hx, e2⟩ := k j y hy
  exact ⟨x, hx, e2.trans e⟩
structure AI (m : WM) (u v x : Nat) : Prop where
  D : DI m u v x
  root : (m.op.getD 0 noOpen).1 = 0
  kind : ∀ y ∈ m.op, y.1 ≠ 0 -> ∃ z, m.ns[y.1.toNat]? = some z /\ z.kind = 1
  mid : ∀ y ∈ m.mks, y.1 ≠ 0
  nml : ∀ y ∈ m.op, y.2.2.1.length <= 4000
section
variable {m : WM} {u v x u' : Nat}
theorem AI.mono {v' x' : Nat} (A : AI m u v x) (h1 : u <= u') (h2 : v <= v') (h3 : x <= x') : AI m u' v' x' := ⟨A.D.mono h1 h2 h3, A.root, A.kind, A.mid, A.nml⟩
theorem AI.tree (A : AI m u v x) {ns' : List NodeM} (G : GoodT ns') (B : BareT ns') (T : TextB ns' x) (hu : ns'.length <= u') (huu : u <= u') (hl : m.ns.length <= ns'.length) (hk : KeepK m.ns ns') : AI { m with ns := ns' } u' v x :=
  ⟨⟨G, B, A.D.ne, fun y hy => by have := A.D.ids y hy; exact ⟨this.1, by show y.1 < (ns'.length : Int); omega⟩, A.D.nd, Nat.le_trans A.D.lo huu, hu, A.D.ml, A.D.mw, T⟩, A.root,
    fun y hy h0 => by obtain ⟨z, hz, e⟩ := A.kind y hy h0; obtain ⟨z', hz', e'⟩ := hk _ z hz; exact ⟨z', hz', e'.trans e⟩, A.mid, A.nml⟩
theorem AI.put (A : AI m u v x) (q b i : Int) : AI { m with ns := (putM m.ns q b i).1 } u v x := by
  have hl : (putM m.ns q b i).1.length = m.ns.length := put_len A.D.G q b i
  have hk := put_like A.D.G q b i
  exact A.tree (A.D.G.putM q b i) (A.D.B.like hk) (A.D.tx.like hk) (by rw [hl]; exact A.D.ln) (Nat.le_refl _) (Nat.le_of_eq hl.symm) (.like hk hl)
theorem AI.move (A : AI m u v x) (q b : Int) : AI { m with ns := (moveM m.ns q b).1 } u v x := by
  have hl : (moveM m.ns q b).1.length = m.ns.length := move_len q b
  have hk := move_like (ns := m.ns) q b
  exact A.tree (A.D.G.moveM q b) (A.D.B.like hk) (A.D.tx.like hk) (by rw [hl]; exact A.D.ln) (Nat.le_refl _) (Nat.le_of_eq hl.symm) (.like hk hl)
theorem copy_of {ns : List NodeM} {id : Int} {z : NodeM} (h0 : 0 <= id) (hz : ns[id.toNat]? = some z) (hk : z.kind = 1) : copyM ns id = (ns ++ [⟨1, z.space, z.name, z.attrs, [], -1, []⟩], (ns.length : Int)) := by
  have hlt : id.toNat < ns.length := (List.getElem?_eq_some_iff.1 hz).1
  unfold copyM
  rw [if_pos ⟨h0, by omega⟩, hz]
  show addM ns (bareM z.kind z.space z.name z.attrs z.text) = _
  unfold bareM
  rw [if_pos hk, hk]
  rfl
theorem AI.pos (A : AI m u v x) : 0 < m.ns.length := A.D.pos
theorem AI.copy (A : AI m u v x) {y : OpenP} (hy : y ∈ m.op) (h0 : y.1 ≠ 0) : AI { m with ns := (copyM m.ns y.1).1 } (u + 1) v x /\ (copyM m.ns y.1).2 = (m.ns.length : Int) /\ (copyM m.ns y.1).1.length = m.ns.length + 1 /\ ∃ z, (copyM m.ns y.1).1[m.ns.length]? = some z /\ z.kind = 1 := by
  obtain ⟨z, hz, hk⟩ := A.kind y hy h0
  have e := copy_of (A.D.ids y hy).1 hz hk
  have hl : (copyM m.ns y.1).1.length = m.ns.length + 1 := by rw [e]; simp
  have hln := A.D.ln
  refine ⟨A.tree (A.D.G.copyM _) (A.D.B.copyM A.pos _) (A.D.tx.copyM _) (by omega) (by omega) (by omega) fun j z hz => ⟨z, ?_, rfl⟩, by rw [e], hl, ?_⟩
  · rw [e]
    have hj : j < m.ns.length := (List.getElem?_eq_some_iff.1 hz).1
    show (m.ns ++ [_])[j]? = _
    rw [List.getElem?_append_left hj]; exact hz
  · rw [e]
    exact ⟨_, by show (m.ns ++ [_])[m.ns.length]? = _; rw [List.getElem?_append_right (Nat.le_refl _)]; simp; rfl, rfl⟩
theorem AI.ops (A : AI m u v x) {op : List OpenP} (hne : 0 < op.length) (hs : op.Sublist m.op) (hr : (op.getD 0 noOpen).1 = 0) : AI { m with op := op } u v x :=
  ⟨A.D.ops hne hs, hr, fun y hy => A.kind y (hs.subset hy), A.mid, fun y hy => A.nml y (hs.subset hy)⟩
theorem getD_take {α : Type} (l : List α) {n : Nat} (hn : 0 < n) (d : α) : (l.take n).getD 0 d = l.getD 0 d := by
  cases l with
  | nil => simp
  | cons a l => cases n with
    | zero => omega
    | succ n => rfl
theorem getD_erase {α : Type} (l : List α) {i j : Nat} (hij : j < i) (d : α) : (l.eraseIdx i).getD j d = l.getD j d := by
  rw [List.getD_eq_getElem?_getD, List.getD_eq_getElem?_getD, List.getElem?_eraseIdx, if_pos hij]
theorem AI.close (A : AI m u v x) (n : Int) : AI (closeW m n) u v x := by
  have hc := A.D.close n
  unfold closeW closeO at *
  split
  · rename_i h
    rw [if_pos h] at hc
    exact A.ops hc.ne (List.take_sublist _ _) (by rw [getD_take _ (by omega)]; exact A.root)
  · exact A
theorem AI.drop (A : AI m u v x) (id : Int) : AI (dropW m id) u v x := by
  have hc := A.D.drop id
  unfold dropW dropO at *
  split
  · rename_i h
    rw [if_pos h] at hc
    exact A.ops hc.ne (List.eraseIdx_sublist _ _) (by rw [getD_erase _ (by omega)]; exact A.root)
  · exact A
theorem AI.closeA (A : AI m u v x) (s : Bs) : AI (closeA m s) u v x := A.close _
theorem AI.marks (A : AI m u v x) {l : List MarkP} (hl : l.length <= v) (hw : MarksS l) (hm : ∀ y ∈ l, y.1 ≠ 0) : AI { m with mks := l } u v x :=
  ⟨⟨A.D.G, A.D.B, A.D.ne, A.D.ids, A.D.nd, A.D.lo, A.D.ln, hl, hw, A.D.tx⟩, A.root, A.kind, hm, A.nml⟩
theorem AI.unmark (A : AI m u v x) (k : Nat) : AI (unmark m k) u v x :=
  A.marks (Nat.le_trans (List.length_eraseIdx_le _ _) A.D.ml) (fun y hy => A.D.mw y (List.mem_of_mem_eraseIdx hy)) fun y hy => A.mid y (List.mem_of_mem_eraseIdx hy)
theorem idxQ_yes {α : Type} {l : List α} {p : α -> Bool} (h : 0 <= idxQ l p) : ∃ hi : (idxQ l p).toNat < l.length, p l[(idxQ l p).toNat] = true /\ ∀ j (hj : j < l.length), j < (idxQ l p).toNat -> p l[j] = false := by
  unfold idxQ at *
  cases hq : l.findIdx? p with
  | none => rw [hq] at h; exact absurd h (by decide)
  | some i =>
    obtain ⟨hi, h1, h2⟩ := List.findIdx?_eq_some_iff_getElem.1 hq
    exact ⟨hi, h1, fun j hj hji => by simpa using h2 j hji⟩
theorem AI.nd_eq (A : AI m u v x) {i j : Nat} (hi : i < m.op.length) (hj : j < m.op.length) (e : m.op[i].1 = m.op[j].1) : i = j := by
  have hn := A.D.nd
  have h1 : (m.op.map (·.1))[i]'(by simpa using hi) = (m.op.map (·.1))[j]'(by simpa using hj) := by simpa using e
  have hp := List.pairwise_iff_getElem.1 hn
  rcases Nat.lt_trichotomy i j with h | h | h
  · exact absurd h1 (hp i j (by simpa using hi) (by simpa using hj) h)
  · exact h
  · exact absurd h1.symm (hp j i (by simpa using hj) (by simpa using hi) h)
theorem AI.atO_of (A : AI m u v x) {i : Nat} (hi : i < m.op.length) : atO m.op m.op[i].1 = (i : Int) := by
  have h0 : 0 <= atO m.op m.op[i].1 := by
    refine idxQ_any.2 (List.any_eq_true.2 ⟨_, List.getElem_mem hi, by simp⟩)
  obtain ⟨hk, h1, h2⟩ := idxQ_yes h0
  have := A.nd_eq hk hi (by simpa using h1)
  show idxQ m.op _ = _
  have e : (idxQ m.op fun x => decide (x.1 = m.op[i].1)).toNat = i := this
  have h0 : 0 <= idxQ m.op fun x => decide (x.1 = m.op[i].1) := h0
  omega
theorem AI.ne0 (A : AI m u v x) {i : Nat} (hi : i < m.op.length) (h0 : 0 < i) : m.op[i].1 ≠ 0 := fun e => by
  have hr := A.root
  have hp := A.D.ne
  rw [getD_get hp] at hr
  have := A.nd_eq hi hp (e.trans hr.symm)
  omega
theorem AI.drop_of (A : AI m u v x) {i : Nat} (hi : i < m.op.length) (h0 : 0 < i) : dropO m.op m.op[i].1 = m.op.eraseIdx i := by
  have e := A.atO_of hi
  unfold dropO
  have e : (idxQ m.op fun x => decide (x.1 = m.op[i].1)) = (i : Int) := e
  rw [e, if_pos (by omega)]; rfl
theorem findP_yes {l : List MarkP} {id : Int} (h : 0 <= findP l id) : 0 <= id /\ ∃ hi : (findP l id).toNat < l.length, l[(findP l id).toNat].1 = id := by
  unfold findP at *
  split at h
  · exact absurd h (by decide)
  · rename_i hn
    obtain ⟨hi, h1, _⟩ := idxQ_yes h
    simp only [if_neg hn]
    exact ⟨by omega, hi, by simpa using h1⟩
theorem findP_mem {l : List MarkP} {id : Int} (h0 : 0 <= id) : 0 <= findP l id ↔ ∃ y ∈ l, y.1 = id := by
  unfold findP
  rw [if_neg (by omega), idxQ_any, List.any_eq_true]
  simp
structure CI (m : WM) (u v x : Nat) (f : Int) (j b q : Nat) : Prop where
  A : AI m u v x
  hj : j < q
  h0 : 0 < j
  hq : q <= m.op.length
  hf : (m.op.getD j noOpen).1 = f
  hm : ∃ y ∈ m.mks, y.1 = f
  hb : b <= m.mks.length
variable {f : Int} {j b q : Nat}
theorem CI.lt (C : CI m u v x f j b (q + 1)) (hne : (m.op.getD q noOpen).1 ≠ f) : j < q := by
  have := C.hj
  rcases Nat.lt_or_ge j q with h | h
  · exact h
  · have : q = j := by omega
    rw [this] at hne; exact absurd C.hf hne
theorem CI.pos (C : CI m u v x f j b (q + 1)) (hne : (m.op.getD q noOpen).1 ≠ f) : 0 < q := by have := C.lt hne; omega
theorem set_getD {α : Type} (l : List α) {i j : Nat} (hij : j ≠ i) (y d : α) : (l.set i y).getD j d = l.getD j d := by
  rw [List.getD_eq_getElem?_getD, List.getD_eq_getElem?_getD, List.getElem?_set_ne (fun e => hij e.symm)]
theorem nodup_set {β : Type} {l : List (Int × β)} (hn : (l.map (·.1)).Nodup) {i : Nat} {y : Int × β} (hy : ∀ z ∈ l, z.1 ≠ y.1) : ((l.set i y).map (·.1)).Nodup := by
  induction l generalizing i with
  | nil => exact hn
  | cons a l ih =>
    rw [List.map_cons, List.nodup_cons] at hn
    cases i with
    | zero =>
      rw [List.set_cons_zero, List.map_cons, List.nodup_cons]
      refine ⟨fun h => ?_, hn.2⟩
      obtain ⟨z, hz, e⟩ := List.mem_map.1 h
      exact hy z (by simp [hz]) e
    | succ i =>
      rw [List.set_cons_succ, List.map_cons, List.nodup_cons]
      refine ⟨fun h => ?_, ih hn.2 fun z hz => hy z (by simp [hz])⟩
      obtain ⟨z, hz, e⟩ := List.mem_map.1 h
      rcases List.mem_or_eq_of_mem_set hz with h2 | h2
      · exact hn.1 (List.mem_map.2 ⟨z, h2, e⟩)
      · subst h2; exact hy a (by simp) e.symm
theorem AI.copySet (A : AI m u v x) {i : Nat} (hi : i < m.op.length) (h0 : 0 < i) : AI { m with ns := (copyM m.ns m.op[i].1).1, op := m.op.set i ((copyM m.ns m.op[i].1).2, m.op[i].2) } (u + 1) v x := by
  obtain ⟨A1, e, hl, z, hz, hk⟩ := A.copy (List.getElem_mem hi) (A.ne0 hi h0)
  have hlo := A.D.lo
  refine ⟨⟨A1.D.G, A1.D.B, by show 0 < (m.op.set _ _).length; rw [List.length_set]; exact A.D.ne, fun y hy => ?_, ?_, by show (m.op.set _ _).length <= _; rw [List.length_set]; omega, A1.D.ln, A.D.ml, A.D.mw, A1.D.tx⟩, ?_, fun y hy hy0 => ?_, A.mid, fun y hy => ?_⟩
  · rcases List.mem_or_eq_of_mem_set hy with h | h
    · exact A1.D.ids y h
    · subst h
      rw [e]
      exact ⟨by show (0 : Int) <= (m.ns.length : Int); omega, by show (m.ns.length : Int) < ((copyM m.ns m.op[i].1).1.length : Int); omega⟩
  · refine nodup_set A.D.nd fun z hz => ?_
    have := (A.D.ids z hz).2
    rw [e]
    exact fun h => by have h : z.1 = (m.ns.length : Int) := h; omega
  · rw [set_getD _ (by omega)]; exact A.root
  · rcases List.mem_or_eq_of_mem_set hy with h | h
    · exact A1.kind y h hy0
    · subst h
      rw [e]
      exact ⟨z, by show (copyM m.ns m.op[i].1).1[(m.ns.length : Int).toNat]? = _; rw [Int.toNat_natCast]; exact hz, hk⟩
  · rcases List.mem_or_eq_of_mem_set hy with h | h
    · exact A.nml y h
    · subst h; exact A.nml m.op[i] (List.getElem_mem hi)
theorem CI.copy (C : CI m u v x f j b (q + 1)) (hne : (m.op.getD q noOpen).1 ≠ f) (hk : 0 <= findP m.mks (m.op.getD q noOpen).1) (last : Int) {b' : Nat} (hb' : b' = (findP m.mks (m.op.getD q noOpen).1).toNat + 1 ∨ b' = b) :
    CI { m with ns := (putM (copyM m.ns (m.op.getD q noOpen).1).1 (copyM m.ns (m.op.getD q noOpen).1).2 (-1) last).1, op := m.op.set q ((copyM m.ns (m.op.getD q noOpen).1).2, (m.op.getD q noOpen).2), mks := m.mks.set (findP m.mks (m.op.getD q noOpen).1).toNat ((copyM m.ns (m.op.getD q noOpen).1).2, (m.mks.getD (findP m.mks (m.op.getD q noOpen).1).toNat noMark).2) } (u + 1) v x f j b' q := by
  have hq : q < m.op.length := by have := C.hq; omega
  have hjq := C.lt hne
  have hp := C.pos hne
  have eg : m.op.getD q noOpen = m.op[q] := getD_get hq
  rw [eg] at hne hk hb' ⊢
  obtain ⟨_, hkl, hke⟩ := findP_yes hk
  obtain ⟨A1, e, hl, _⟩ := C.A.copy (List.getElem_mem hq) (C.A.ne0 hq hp)
  have A2 := C.A.copySet hq hp
  have hgm : m.mks.getD (findP m.mks m.op[q].1).toNat noMark = m.mks[(findP m.mks m.op[q].1).toNat] := getD_get hkl
  rw [hgm]
  have A3 : AI { m with ns := (copyM m.ns m.op[q].1).1, op := m.op.set q ((copyM m.ns m.op[q].1).2, m.op[q].2), mks := m.mks.set (findP m.mks m.op[q].1).toNat ((copyM m.ns m.op[q].1).2, m.mks[(findP m.mks m.op[q].1).toNat].2) } (u + 1) v x := by
    refine A2.marks (l := m.mks.set (findP m.mks m.op[q].1).toNat ((copyM m.ns m.op[q].1).2, m.mks[(findP m.mks m.op[q].1).toNat].2)) (by rw [List.length_set]; exact C.A.D.ml) (C.A.D.mw.set hkl _) fun y hy => ?_
    rcases List.mem_or_eq_of_mem_set hy with h | h
    · exact C.A.mid y h
    · subst h
      have := C.A.pos
      rw [e]
      exact fun h => by have h : (m.ns.length : Int) = 0 := h; omega
  refine ⟨A3.put (copyM m.ns m.op[q].1).2 (-1) last, hjq, C.h0, by show q <= (m.op.set _ _).length; rw [List.length_set]; omega, by show ((m.op.set _ _).getD j noOpen).1 = f; rw [set_getD _ (by omega)]; exact C.hf, ?_, by
    show b' <= (m.mks.set _ _).length
    rw [List.length_set]
    have := C.hb
    omega⟩
  obtain ⟨y, hy, ey⟩ := C.hm
  obtain ⟨i, hi, rfl⟩ := List.mem_iff_getElem.1 hy
  have hne2 : (findP m.mks m.op[q].1).toNat ≠ i := fun h => by
    subst h
    rw [hke] at ey; exact hne ey
  exact ⟨m.mks[i], by
    show m.mks[i] ∈ m.mks.set _ _
    rw [List.mem_iff_getElem]
    exact ⟨i, by rw [List.length_set]; exact hi, by rw [List.getElem_set_ne hne2]⟩, ey⟩
theorem CI.dropQ (C : CI m u v x f j b (q + 1)) (hne : (m.op.getD q noOpen).1 ≠ f) : CI (dropW m (m.op.getD q noOpen).1) u v x f j b q := by
  have hq : q < m.op.length := by have := C.hq; omega
  have hjq := C.lt hne
  have hp := C.pos hne
  have eg : m.op.getD q noOpen = m.op[q] := getD_get hq
  have hd : (dropW m (m.op.getD q noOpen).1).op = m.op.eraseIdx q := by rw [eg]; exact C.A.drop_of hq hp
  refine ⟨C.A.drop _, hjq, C.h0, ?_, ?_, C.hm, C.hb⟩
  · rw [hd, List.length_eraseIdx, if_pos hq]; omega
  · rw [hd, getD_erase _ hjq]; exact C.hf
theorem CI.unmark (C : CI m u v x f j b (q + 1)) (hne : (m.op.getD q noOpen).1 ≠ f) (hk : 0 <= findP m.mks (m.op.getD q noOpen).1) : CI (unmark m (findP m.mks (m.op.getD q noOpen).1).toNat) u v x f j (unbook b (findP m.mks (m.op.getD q noOpen).1).toNat) (q + 1) := by
  obtain ⟨_, hkl, hke⟩ := findP_yes hk
  have hb := C.hb
  refine ⟨C.A.unmark _, C.hj, C.h0, C.hq, C.hf, ?_, ?_⟩
  · obtain ⟨y, hy, ey⟩ := C.hm
    refine ⟨y, ?_, ey⟩
    refine List.mem_eraseIdx_iff_getElem.2 ?_
    obtain ⟨i, hi, rfl⟩ := List.mem_iff_getElem.1 hy
    exact ⟨i, hi, fun h => by subst h; rw [hke] at ey; exact hne ey, rfl⟩
  · show unbook b _ <= (m.mks.eraseIdx _).length
    rw [List.length_eraseIdx, if_pos hkl]
    unfold unbook
    split <;> omega
theorem climb_inv (blk : Int) : ∀ (q n : Nat) {m : WM} {u v x : Nat} {b : Nat} (last : Int), CI m u v x f j b q -> CI (climbN blk f q n m last b).1 (u + (3 - n)) v x f j (climbN blk f q n m last b).2.2 (j + 1)
  | 0, n, m, u, v, x, b, last, C => absurd C.hj (by omega)
  | q + 1, n, m, u, v, x, b, last, C => by
    unfold climbN
    simp only []
    by_cases hf : (m.op.getD q noOpen).1 = f
    · rw [if_pos hf]
      exact ⟨C.A.mono (by omega) (Nat.le_refl _) (Nat.le_refl _), by omega, C.h0, by have := C.hj; have := C.hq; show j + 1 <= m.op.length; omega, C.hf, C.hm, C.hb⟩
    · rw [if_neg hf]
      by_cases h1 : 0 <= findP m.mks (m.op.getD q noOpen).1 /\ n < 3
      · rw [if_pos h1]
        have C2 := C.copy hf h1.1 last (b' := if last = blk then (findP m.mks (m.op.getD q noOpen).1).toNat + 1 else b) (by split; exact .inl rfl; exact .inr rfl)
        have := climb_inv blk q (n + 1) (copyM m.ns (m.op.getD q noOpen).1).2 C2
        rw [show u + (3 - n) = u + 1 + (3 - (n + 1)) by omega]
        exact this
      · rw [if_neg h1]
        by_cases h2 : 0 <= findP m.mks (m.op.getD q noOpen).1
        · rw [if_pos h2]
          have C2 := (C.unmark hf h2).dropQ hf
          have := climb_inv blk q (n + 1) last C2
          exact ⟨this.A.mono (by omega) (Nat.le_refl _) (Nat.le_refl _), this.hj, this.h0, this.hq, this.hf, this.hm, this.hb⟩
        · rw [if_neg h2]
          have := climb_inv blk q (n + 1) last (C.dropQ hf)
          exact ⟨this.A.mono (by omega) (Nat.le_refl _) (Nat.le_refl _), this.hj, this.h0, this.hq, this.hf, this.hm, this.hb⟩
end
end Go.Proofs
namespace Go.Proofs
open Go Go.Sh
set_option linter.unusedVariables false
set_option maxRecDepth 100000
section
variable {m : WM} {u v x j b q : Nat} {f blk : Int}
def BI (m : WM) (blk : Int) (q : Nat) : Prop := ∃ i, q <= i /\ i < m.op.length /\ (m.op.getD i noOpen).1 = blk
theorem CI.drop_op (C : CI m u v x f j b (q + 1)) (hne : (m.op.getD q noOpen).1 ≠ f) : (dropW m (m.op.getD q noOpen).1).op = m.op.eraseIdx q := by
  have hq : q < m.op.length := by have := C.hq; omega
  rw [getD_get hq]
  exact C.A.drop_of hq (C.pos hne)
theorem BI.drop (B : BI m blk (q + 1)) {m' : WM} (hq : q < m.op.length) (ho : m'.op = m.op.eraseIdx q) : BI m' blk q := by
  obtain ⟨i, h1, h2, h3⟩ := B
  refine ⟨i - 1, by omega, by rw [ho, List.length_eraseIdx, if_pos hq]; omega, ?_⟩
  rw [ho, List.getD_eq_getElem?_getD, List.getElem?_eraseIdx, if_neg (by omega), show i - 1 + 1 = i by omega, <- List.getD_eq_getElem?_getD]
  exact h3
theorem climb_blk : ∀ (q n : Nat) {m : WM} {u v x b : Nat} (last : Int), CI m u v x f j b q -> BI m blk q -> BI (climbN blk f q n m last b).1 blk (j + 1)
  | 0, n, m, u, v, x, b, last, C, B => absurd C.hj (by omega)
  | q + 1, n, m, u, v, x, b, last, C, B => by
    have hq : q < m.op.length := by have := C.hq; omega
    unfold climbN
    simp only []
    by_cases hf : (m.op.getD q noOpen).1 = f
    · rw [if_pos hf]
      obtain ⟨i, h1, h2, h3⟩ := B
      exact ⟨i, by have := C.hj; omega, h2, h3⟩
    · rw [if_neg hf]
      by_cases h1 : 0 <= findP m.mks (m.op.getD q noOpen).1 /\ n < 3
      · rw [if_pos h1]
        have C2 := C.copy hf h1.1 last (b' := if last = blk then (findP m.mks (m.op.getD q noOpen).1).toNat + 1 else b) (by split; exact .inl rfl; exact .inr rfl)
        refine climb_blk q (n + 1) _ C2 ?_
        obtain ⟨i, h1, h2, h3⟩ := B
        exact ⟨i, by omega, by show i < (m.op.set _ _).length; rw [List.length_set]; exact h2, by show ((m.op.set _ _).getD i noOpen).1 = blk; rw [set_getD _ (by omega)]; exact h3⟩
      · rw [if_neg h1]
        by_cases h2 : 0 <= findP m.mks (m.op.getD q noOpen).1
        · rw [if_pos h2]
          have C1 := C.unmark hf h2
          exact climb_blk q (n + 1) last (C1.dropQ hf) (B.drop (m' := dropW (unmark m _) _) hq (C1.drop_op hf))
        · rw [if_neg h2]
          exact climb_blk q (n + 1) last (C.dropQ hf) (B.drop hq (C.drop_op hf))
theorem ins_get0 {α : Type} (l : List α) {i : Nat} (hi : 0 < i) (hl : 0 < l.length) (y d : α) : (insAt l i y).getD 0 d = l.getD 0 d := by
  unfold insAt
  cases l with
  | nil => simp at hl
  | cons a l => cases i with
    | zero => omega
    | succ i => rfl
theorem insA_mem {α : Type} {l : List α} {i : Nat} {y z : α} (h : z ∈ insAt l i y) : z ∈ l ∨ z = y := by
  unfold insAt at h
  rcases List.mem_append.1 h with h | h
  · exact .inl (List.mem_of_mem_take h)
  · rcases List.mem_cons.1 h with h | h
    · exact .inr h
    · exact .inl (List.mem_of_mem_drop h)
theorem ins_len {α : Type} (l : List α) (i : Nat) (y : α) : (insAt l i y).length = l.length + 1 := by
  unfold insAt
  rw [List.length_append, List.length_cons, List.length_take, List.length_drop]
  omega
theorem insA_nodup {β : Type} {l : List (Int × β)} (hn : (l.map (·.1)).Nodup) {i : Nat} {y : Int × β} (hy : ∀ z ∈ l, z.1 ≠ y.1) : ((insAt l i y).map (·.1)).Nodup := by
  unfold insAt
  rw [List.map_append, List.map_cons]
  have hp : (l.map (·.1)) = (l.take i).map (·.1) ++ (l.drop i).map (·.1) := by rw [<- List.map_append, List.take_append_drop]
  rw [hp] at hn
  obtain ⟨h1, h2, h3⟩ := List.nodup_append.1 hn
  refine List.nodup_append.2 ⟨h1, List.nodup_cons.2 ⟨fun h => ?_, h2⟩, fun p hp q hq => ?_⟩
  · obtain ⟨z, hz, e⟩ := List.mem_map.1 h
    exact hy z (List.mem_of_mem_drop hz) e
  · rcases List.mem_cons.1 hq with e | e
    · subst e
      intro e2
      obtain ⟨z, hz, e3⟩ := List.mem_map.1 hp
      exact hy z (List.mem_of_mem_take hz) (e3.trans e2)
    · exact h3 p hp q e
theorem CI.renew (C : CI m u v x f j b q) (B : BI m blk (j + 1)) : AI (renewM m f blk b) (u + 1) v x := by
  have hjl : j < m.op.length := Nat.lt_of_lt_of_le C.hj C.hq
  have eg : m.op.getD j noOpen = m.op[j] := getD_get hjl
  have hfj : m.op[j].1 = f := by have := C.hf; rwa [eg] at this
  have hf0 : 0 <= f := by rw [<- hfj]; exact (C.A.D.ids _ (List.getElem_mem hjl)).1
  have hat : atO m.op f = (j : Int) := by rw [<- hfj]; exact C.A.atO_of hjl
  obtain ⟨A1, ec, hcl, z, hz, hzk⟩ := C.A.copy (List.getElem_mem hjl) (C.A.ne0 hjl C.h0)
  rw [hfj] at A1 ec hcl hz
  have A2 := (A1.move blk (copyM m.ns f).2).put blk (-1) (copyM m.ns f).2
  have hdrop : dropO m.op f = m.op.eraseIdx j := by rw [<- hfj]; exact C.A.drop_of hjl C.h0
  have hfm : 0 <= findP m.mks f := (findP_mem hf0).2 C.hm
  obtain ⟨_, hkl, _⟩ := findP_yes hfm
  have hgm : m.mks.getD (findP m.mks f).toNat noMark = m.mks[(findP m.mks f).toNat] := getD_get hkl
  have hln := C.A.D.ln
  have hlo := C.A.D.lo
  have hml := C.A.D.ml
  obtain ⟨i, hi1, hi2, hi3⟩ := B
  have hel : (m.op.eraseIdx j).length = m.op.length - 1 := by rw [List.length_eraseIdx, if_pos hjl]
  have Ad := C.A.drop f
  have hin : 0 < ((atO (dropO m.op f) blk) + 1).toNat := by
    have hmem : ∃ y ∈ dropO m.op f, y.1 = blk := by
      rw [hdrop]
      refine ⟨m.op[i], List.mem_eraseIdx_iff_getElem.2 ⟨i, hi2, by omega, rfl⟩, ?_⟩
      rwa [getD_get hi2] at hi3
    have : 0 <= idxQ (dropO m.op f) (fun x => decide (x.1 = blk)) := by
      rw [idxQ_any, List.any_eq_true]
      obtain ⟨y, hy, e⟩ := hmem
      exact ⟨y, hy, by simpa using e⟩
    have : 0 <= atO (dropO m.op f) blk := this
    omega
  have hid : ∀ y ∈ dropO m.op f, y.1 ≠ (m.ns.length : Int) := fun y hy e => by
    have := (Ad.D.ids y hy).2
    have h2 : y.1 < (m.ns.length : Int) := this
    omega
  have hlen : (putM (moveM (copyM m.ns f).1 blk (copyM m.ns f).2).1 blk (-1) (copyM m.ns f).2).1.length = m.ns.length + 1 := by
    rw [put_len (A1.move blk (copyM m.ns f).2).D.G, move_len, hcl]
  have kk : KeepK (copyM m.ns f).1 (putM (moveM (copyM m.ns f).1 blk (copyM m.ns f).2).1 blk (-1) (copyM m.ns f).2).1 :=
    (KeepK.like (move_like _ _) (move_len _ _)).trans (.like (put_like (A1.move blk (copyM m.ns f).2).D.G _ _ _) (put_len (A1.move blk (copyM m.ns f).2).D.G _ _ _))
  unfold renewM
  simp only [hat, Int.toNat_natCast, eg, hgm, ec] at A2 hlen kk ⊢
  have hyy : ∀ y ∈ insAt (dropO m.op f) ((atO (dropO m.op f) blk) + 1).toNat ((m.ns.length : Int), m.op[j].2), y ∈ m.op ∨ y = ((m.ns.length : Int), m.op[j].2) := fun y hy => by
    rcases insA_mem hy with h | h
    · refine .inl ?_
      rw [hdrop] at h
      exact List.mem_of_mem_eraseIdx h
    · exact .inr h
  refine ⟨⟨A2.D.G, A2.D.B, ?_, fun y hy => ?_, ?_, ?_, A2.D.ln, ?_, fun y hy => ?_, A2.D.tx⟩, ?_, fun y hy hy0 => ?_, fun y hy => ?_, fun y hy => ?_⟩
  · show 0 < (insAt _ _ _).length
    rw [ins_len]; omega
  · rcases hyy y hy with h | h
    · exact A2.D.ids y h
    · subst h
      refine ⟨by show (0 : Int) <= (m.ns.length : Int); omega, ?_⟩
      show (m.ns.length : Int) < (((putM (moveM (copyM m.ns f).1 blk (m.ns.length : Int)).1 blk (-1) (m.ns.length : Int)).1.length : Nat) : Int)
      rw [hlen]; omega
  · exact insA_nodup Ad.D.nd hid
  · show (insAt _ _ _).length <= u + 1
    rw [ins_len, hdrop, hel]; omega
  · show (insAt _ _ _).length <= v
    rw [ins_len, List.length_eraseIdx, if_pos hkl]; omega
  · rcases insA_mem hy with h | h
    · exact C.A.D.mw y (List.mem_of_mem_eraseIdx h)
    · subst h
      exact C.A.D.mw m.mks[(findP m.mks f).toNat] (List.getElem_mem hkl)
  · show ((insAt _ _ _).getD 0 noOpen).1 = 0
    rw [ins_get0 _ hin (by rw [hdrop, hel]; omega), hdrop, getD_erase _ C.h0]
    exact C.A.root
  · rcases hyy y hy with h | h
    · exact A2.kind y h hy0
    · subst h
      obtain ⟨z', hz', e'⟩ := kk _ z hz
      exact ⟨z', by show _[((m.ns.length : Int)).toNat]? = _; rw [Int.toNat_natCast]; exact hz', e'.trans hzk⟩
  · rcases insA_mem hy with h | h
    · exact C.A.mid y (List.mem_of_mem_eraseIdx h)
    · subst h
      have := C.A.pos
      exact fun e => by have e : (m.ns.length : Int) = 0 := e; omega
  · rcases hyy y hy with h | h
    · exact C.A.nml y h
    · subst h
      exact C.A.nml m.op[j] (List.getElem_mem hjl)
theorem CI.put (C : CI m u v x f j b q) (p c i : Int) : CI { m with ns := (putM m.ns p c i).1 } u v x f j b q := ⟨C.A.put p c i, C.hj, C.h0, C.hq, C.hf, C.hm, C.hb⟩
theorem AI.begin (A : AI m u v x) {k : Nat} (hk : k < m.mks.length) (h0 : 0 <= (m.mks.getD k noMark).1) (hat : 0 <= atO m.op (m.mks.getD k noMark).1) {n : Nat} (hn : (atO m.op (m.mks.getD k noMark).1).toNat < n) (hn2 : n <= m.op.length) :
    CI m u v x (m.mks.getD k noMark).1 (atO m.op (m.mks.getD k noMark).1).toNat k n := by
  obtain ⟨hi, h1, _⟩ := idxQ_yes (l := m.op) (p := fun x => decide (x.1 = (m.mks.getD k noMark).1)) hat
  have hgm : m.mks.getD k noMark = m.mks[k] := getD_get hk
  have hi : (atO m.op (m.mks.getD k noMark).1).toNat < m.op.length := hi
  have e : (m.op.getD (atO m.op (m.mks.getD k noMark).1).toNat noOpen).1 = (m.mks.getD k noMark).1 := by rw [getD_get hi]; simpa using h1
  refine ⟨A, hn, ?_, hn2, e, ⟨m.mks[k], List.getElem_mem hk, by rw [hgm]⟩, by omega⟩
  rcases Nat.eq_zero_or_pos (atO m.op (m.mks.getD k noMark).1).toNat with h | h
  · exfalso
    rw [h, A.root] at e
    have hne := A.mid m.mks[k] (List.getElem_mem hk)
    rw [hgm] at e
    exact hne e.symm
  · exact h
theorem AI.over (A : AI m u v x) {k : Nat} (hk : k < m.mks.length) (h0 : 0 <= (m.mks.getD k noMark).1) (hat : 0 <= atO m.op (m.mks.getD k noMark).1) {n : Nat} (hn : (atO m.op (m.mks.getD k noMark).1).toNat < n) (hn2 : n < m.op.length) :
    AI (overM m (m.mks.getD k noMark).1 k (atO m.op (m.mks.getD k noMark).1).toNat n) (u + 4) v x := by
  have C := A.begin hk h0 hat hn (Nat.le_of_lt hn2)
  have C2 := climb_inv (m.op.getD n noOpen).1 n 0 (m.op.getD n noOpen).1 C
  have B2 := climb_blk (blk := (m.op.getD n noOpen).1) n 0 (m.op.getD n noOpen).1 C ⟨n, Nat.le_refl _, hn2, rfl⟩
  obtain ⟨R, hR⟩ : ∃ R, climbN (m.op.getD n noOpen).1 (m.mks.getD k noMark).1 n 0 m (m.op.getD n noOpen).1 k = R := ⟨_, rfl⟩
  rw [hR] at C2 B2
  unfold overM
  simp only [hR]
  exact (C2.put _ _ _).renew B2
theorem AI.round (A : AI m u v x) {k : Nat} (hk : k < m.mks.length) (h0 : 0 <= (m.mks.getD k noMark).1) : AI (roundM m k).1 (u + 4) v x := by
  unfold roundM
  simp only []
  split
  · exact (A.unmark k).mono (by omega) (Nat.le_refl _) (Nat.le_refl _)
  · rename_i hat
    split
    · exact A.mono (by omega) (Nat.le_refl _) (Nat.le_refl _)
    · split
      · exact ((A.close _).unmark k).mono (by omega) (Nat.le_refl _) (Nat.le_refl _)
      · rename_i hs
        obtain ⟨hi, _, _⟩ := idxQ_yes (l := m.op.drop ((atO m.op (m.mks.getD k noMark).1).toNat + 1)) (p := specO) (by omega)
        rw [List.length_drop] at hi
        exact A.over hk h0 (by omega) (by omega) (by omega)
theorem lastTo_of (l : List MarkP) (s : Bs) : ∀ i, i <= l.length -> 0 <= lastTo l s i -> ∃ k : Nat, lastTo l s i = (k : Int) /\ k < i /\ 0 <= (l.getD k noMark).1
  | 0, _, h => absurd (show (0 : Int) <= -1 from h) (by decide)
  | i + 1, hi, h => by
    unfold lastTo at h ⊢
    by_cases h1 : (l.getD i noMark).1 < 0
    · rw [if_pos h1] at h; exact absurd h (by decide)
    · rw [if_neg h1] at h ⊢
      by_cases h2 : (l.getD i noMark).2.1 = s
      · rw [if_pos h2]; exact ⟨i, rfl, by omega, by omega⟩
      · rw [if_neg h2] at h ⊢
        obtain ⟨k, e, hk, h3⟩ := lastTo_of l s i (by omega) h
        exact ⟨k, e, by omega, h3⟩
theorem lastP_of {l : List MarkP} {s : Bs} (h : 0 <= lastP l s) : ∃ k : Nat, lastP l s = (k : Int) /\ k < l.length /\ 0 <= (l.getD k noMark).1 := lastTo_of l s l.length (Nat.le_refl _) h
theorem AI.rounds (s : Bs) : ∀ (r : Nat) {m : WM} {u : Nat}, AI m u v x -> AI (roundsM s r m).1 (u + 4 * r) v x
  | 0, m, u, A => A
  | r + 1, m, u, A => by
    unfold roundsM
    split
    · exact A.mono (by omega) (Nat.le_refl _) (Nat.le_refl _)
    · rename_i hl
      obtain ⟨k, e, hk, h0⟩ := lastP_of (by omega : 0 <= lastP m.mks s)
      have hk2 : (lastP m.mks s).toNat = k := by rw [e]; rfl
      rw [hk2]
      have A2 := A.round hk h0
      split
      · have := AI.rounds s r A2
        rw [show u + 4 * (r + 1) = u + 4 + 4 * r by omega]
        exact this
      · exact A2.mono (by omega) (Nat.le_refl _) (Nat.le_refl _)
theorem AI.run (A : AI m u v x) (s : Bs) : AI (runM m s).1 (u + 32) v x := by
  unfold runM
  split
  · exact (A.close _).mono (by omega) (Nat.le_refl _) (Nat.le_refl _)
  · exact AI.rounds s 8 A
end
end Go.Proofs
namespace Go.Proofs
open Go Go.Sh
set_option linter.unusedVariables false
set_option maxRecDepth 100000
section
variable {ns ns' : List NodeM} {a b c x y : Int}
theorem parI_none {j : Nat} (h : ns[j]? = none) : parI ns (j : Int) = -1 := by unfold parI; rw [Int.toNat_natCast, h]; rfl
theorem chain_nn : ∀ {f : Nat} {a : Int}, b ∈ chainP ns f a -> 0 <= a /\ 0 <= b
  | 0, _, h => by cases h
  | f + 1, a, h => by
    unfold chainP at h
    split at h
    · rename_i h0
      rcases List.mem_cons.1 h with e | h
      · exact ⟨h0, by omega⟩
      · exact ⟨h0, (chain_nn h).2⟩
    · cases h
theorem inC_nn (h : InC ns a b) : 0 <= a /\ 0 <= b := by obtain ⟨f, h⟩ := h; exact chain_nn h
theorem inC_self (h : 0 <= a) : InC ns a a := by
  obtain ⟨j, rfl⟩ := Int.eq_ofNat_of_zero_le h
  exact inC_step.2 (.inl rfl)
theorem inC_ind {P : Int -> Prop} (h : InC ns a b) (h0 : P b) (hs : ∀ i : Nat, InC ns (parI ns i) b -> P (parI ns i) -> P i) : P a := by
  obtain ⟨f, h⟩ := h
  induction f generalizing a with
  | zero => cases h
  | succ f ih =>
    unfold chainP at h
    split at h
    · rename_i h1
      obtain ⟨i, rfl⟩ := Int.eq_ofNat_of_zero_le h1
      rcases List.mem_cons.1 h with e | h
      · rw [e] at h0; exact h0
      · exact hs i ⟨f, h⟩ (ih h)
    · cases h
theorem inC_up {i : Nat} (h : InC ns (parI ns i) b) : InC ns (i : Int) b := inC_step.2 (.inr h)
theorem inC_trans (h : InC ns a b) (k : InC ns b c) : InC ns a c := inC_ind (P := fun a => InC ns a c) h k fun i _ h => inC_up h
def Rep (ns ns' : List NodeM) (x y : Int) : Prop := ∀ j : Nat, parI ns' j = if (j : Int) = x then y else parI ns j
theorem inC_re (hp : ∀ j : Nat, (j : Int) ≠ x -> parI ns' j = parI ns j) (h : InC ns a b) : InC ns' a b ∨ (InC ns' a x /\ InC ns x b) := by
  have hb := (inC_nn h).2
  refine inC_ind (P := fun a => InC ns' a b ∨ (InC ns' a x /\ InC ns x b)) h (.inl (inC_self hb)) fun i h1 h2 => ?_
  by_cases e : (i : Int) = x
  · right
    rw [<- e]
    exact ⟨inC_self (by omega), inC_up h1⟩
  · rw [<- hp i e] at h2
    exact h2.imp inC_up fun h => ⟨inC_up h.1, h.2⟩
theorem inC_x (hp : ∀ j : Nat, (j : Int) ≠ x -> parI ns' j = parI ns j) (h : InC ns a x) : InC ns' a x := (inC_re hp h).elim id fun h => h.1
theorem inC_off (hp : ∀ j : Nat, (j : Int) ≠ x -> parI ns' j = parI ns j) (hn : ¬ InC ns a x) (h : InC ns a b) : InC ns' a b :=
  (inC_re hp h).elim id fun h => absurd (inC_x (fun j hj => (hp j hj).symm) h.1) hn
theorem Rep.off (r : Rep ns ns' x y) (j : Nat) (hj : (j : Int) ≠ x) : parI ns' j = parI ns j := by rw [r j, if_neg hj]
theorem Rep.on (r : Rep ns ns' x y) (hx : 0 <= x) (hy : 0 <= y) : InC ns' x y := by
  obtain ⟨i, rfl⟩ := Int.eq_ofNat_of_zero_le hx
  refine inC_up (b := y) ?_
  rw [r i, if_pos rfl]
  exact inC_self hy
theorem inC_congr (hp : ∀ j : Nat, parI ns' j = parI ns j) (h : InC ns a b) : InC ns' a b :=
  inC_ind (P := fun a => InC ns' a b) h (inC_self (inC_nn h).2) fun i _ h => inC_up (by rw [hp]; exact h)
theorem inC_range (G : GoodT ns) (h : InC ns a b) : a = b ∨ b < ns.length := by
  refine inC_ind (P := fun a => a = b ∨ b < ns.length) h (.inl rfl) fun i h1 h2 => .inr ?_
  rcases h2 with h2 | h2
  · cases hz : ns[i]? with
    | none => rw [parI_none hz] at h1; exact absurd h1 (inC_neg (by decide))
    | some z =>
      rw [parI_some hz] at h2
      have := G.par i z hz
      have := (inC_nn h1).2
      omega
  · exact h2
theorem inC_anti (G : GoodT ns) (h : InC ns a b) (k : InC ns b a) : a = b := by
  obtain ⟨rk, hr⟩ := G.rank
  have key : ∀ {a b : Int}, InC ns a b -> a = b ∨ rk b.toNat < rk a.toNat := fun {a b} h => by
    refine inC_ind (P := fun a => a = b ∨ rk b.toNat < rk a.toNat) h (.inl rfl) fun i h1 h2 => .inr ?_
    have hi : rk (parI ns i).toNat < rk i := by
      have hn := (inC_nn h1).1
      cases hz : ns[i]? with
      | none => rw [parI_none hz] at hn; exact absurd hn (by decide)
      | some z =>
        rw [parI_some hz] at hn ⊢
        obtain ⟨p, hp⟩ := Int.eq_ofNat_of_zero_le hn
        have hp : z.parent = (p : Int) := hp
        rw [hp, Int.toNat_natCast]
        exact hr i p z hz hp
    rw [Int.toNat_natCast]
    rcases h2 with h2 | h2
    · rw [<- h2]; exact hi
    · omega
  rcases key h with e | h1
  · exact e
  · rcases key k with e | h2
    · exact e.symm
    · omega
theorem add_parI {z : NodeM} (hz : z.parent = -1) (j : Nat) : parI (ns ++ [z]) j = parI ns j := by
  rcases Nat.lt_trichotomy j ns.length with h | h | h
  · unfold parI; rw [Int.toNat_natCast, List.getElem?_append_left h]
  · subst h
    rw [parI_none (ns := ns) (List.getElem?_eq_none_iff.2 (Nat.le_refl _)), parI_some (z := z) (by rw [List.getElem?_append_right (Nat.le_refl _)]; simp), hz]
  · have e : (ns ++ [z]).length = ns.length + 1 := by simp
    rw [parI_none (ns := ns ++ [z]) (List.getElem?_eq_none_iff.2 (by omega)), parI_none (ns := ns) (List.getElem?_eq_none_iff.2 (by omega))]
theorem bare_par {kd sp : Int} {nm tx : Bs} {at' : List AttrP} {z : NodeM} (h : bareM kd sp nm at' tx = some z) : z.parent = -1 := by
  unfold bareM at h
  split at h
  · cases h; rfl
  · split at h
    · cases h; rfl
    · cases h
theorem addM_parI (kd sp : Int) (nm tx : Bs) (at' : List AttrP) (j : Nat) : parI (addM ns (bareM kd sp nm at' tx)).1 j = parI ns j := by
  cases h : bareM kd sp nm at' tx with
  | none => rfl
  | some z => exact add_parI (bare_par h) j
theorem set_parI {i : Nat} {z w : NodeM} (hz : ns[i]? = some z) (hw : w.parent = z.parent) (j : Nat) : parI (ns.set i w) j = parI ns j := by
  have hi := getI hz
  by_cases e : i = j
  · subst e
    rw [parI_some hz, parI_some (z := w) (by rw [List.getElem?_set_self hi])]; exact hw
  · unfold parI; rw [Int.toNat_natCast, List.getElem?_set_ne e]
theorem cut_parI (G : GoodT ns) (id : Int) (j : Nat) (hj : (j : Int) ≠ id) : parI (cutM ns id).1 j = parI ns j := by
  cases hz : ns[j]? with
  | none =>
    rw [parI_none hz, parI_none (List.getElem?_eq_none_iff.2 (by rw [cutM_len ns G]; exact List.getElem?_eq_none_iff.1 hz))]
  | some z =>
    obtain ⟨z1, hz1, _, _, _, _, _, _, _, hp⟩ := cutM_get G (id := id) hz
    rw [parI_some hz1, parI_some hz]
    exact hp hj
theorem put_rep0 (G : GoodT ns) {parent before id : Int} (hh : holdB ns parent = true) (hid : 0 <= id /\ id < ns.length) (h0 : id ≠ 0) (hb : before ≠ id) (hpl : 0 <= plcP (((ns[parent.toNat]?).map (·.kids)).getD []) before) (hw : withinP ns parent id = false) :
    Rep ns (putM ns parent before id).1 id parent := by
  unfold putM
  rw [if_pos ⟨hh, hid, h0, hb, hpl, hw⟩]
  obtain ⟨p, y, ep, hy, _⟩ := holdB_nat hh
  obtain ⟨i, ei⟩ := Int.eq_ofNat_of_zero_le hid.1
  have ei : id = (i : Int) := ei
  have hil : i < ns.length := by omega
  have hx : ns[i]? = some ns[i] := List.getElem?_eq_getElem hil
  obtain ⟨y1, hy1, _, _, _, _, _, _, _, hyp⟩ := cutM_get G (id := id) hy
  obtain ⟨x1, hx1, _, _, _, _, _, _, hpar, _⟩ := cutM_get G (id := id) hx
  have hnw : ¬ InC ns parent id := fun hh => by
    unfold withinP at hw
    rw [@decide_eq_true (InC ns parent id) (Classical.propDecidable _) hh] at hw; cases hw
  have hne : i ≠ p := fun e => hnw (by rw [ep, ei, <- e]; exact inC_step.2 (.inl rfl))
  have e1 : parent.toNat = p := by rw [ep]; exact Int.toNat_natCast p
  have e2 : id.toNat = i := by rw [ei]; exact Int.toNat_natCast i
  intro j
  show parI (putAt (cutM ns id).1 parent.toNat before id.toNat) j = _
  rw [e1, e2]
  unfold putAt
  rw [hy1]
  dsimp only
  rw [List.getElem?_set_ne (Ne.symm hne), hx1]
  dsimp only
  have hcl := cutM_len ns G id
  by_cases e : i = j
  · subst e
    rw [if_pos ei.symm, parI_some (List.getElem?_set_self (by rw [List.length_set]; omega)), ep]
  · rw [if_neg (by omega), <- cut_parI G id j (by omega)]
    by_cases e3 : p = j
    · subst e3
      rw [parI_some hy1, parI_some (z := { y1 with kids := _ }) (by rw [List.getElem?_set_ne e, List.getElem?_set_self (getI hy1)])]
    · unfold parI; rw [Int.toNat_natCast, List.getElem?_set_ne e, List.getElem?_set_ne e3]
theorem put_or (G : GoodT ns) (parent before id : Int) : (putM ns parent before id).1 = ns ∨ Rep ns (putM ns parent before id).1 id parent := by
  by_cases hc : holdB ns parent = true /\ (0 <= id /\ id < ns.length) /\ id ≠ 0 /\ before ≠ id /\ 0 <= plcP (((ns[parent.toNat]?).map (·.kids)).getD []) before /\ withinP ns parent id = false
  · exact .inr (put_rep0 G hc.1 hc.2.1 hc.2.2.1 hc.2.2.2.1 hc.2.2.2.2.1 hc.2.2.2.2.2)
  · left; unfold putM; rw [if_neg hc]
theorem put_rep (G : GoodT ns) {parent id : Int} (hh : holdB ns parent = true) (hid : 0 < id /\ id < ns.length) (hn : ¬ InC ns parent id) : Rep ns (putM ns parent (-1) id).1 id parent :=
  put_rep0 G hh ⟨by omega, hid.2⟩ (by omega) (by omega) (by unfold plcP; rw [if_pos rfl]; omega) (by unfold withinP; exact @decide_eq_false _ (Classical.propDecidable _) hn)
theorem hold_of {id : Int} (h : 0 <= id /\ id < ns.length) (hk : id = 0 ∨ ∃ z, ns[id.toNat]? = some z /\ z.kind = 1) : holdB ns id = true := by
  unfold holdB
  rw [Bool.and_eq_true]
  refine ⟨decide_eq_true h, ?_⟩
  have hl : ns[id.toNat]? = some (ns[id.toNat]'(by omega)) := List.getElem?_eq_getElem (by omega)
  rw [hl]
  refine decide_eq_true ?_
  rcases hk with hk | ⟨z, hz, hk⟩
  · exact .inl hk
  · rw [hl] at hz; cases hz; exact .inr hk
def Gr (ns ns' : List NodeM) : Prop := ∀ a b, InC ns a b -> InC ns' a b
theorem Gr.refl (ns : List NodeM) : Gr ns ns := fun _ _ h => h
theorem Gr.trans {n1 n2 n3 : List NodeM} (h : Gr n1 n2) (k : Gr n2 n3) : Gr n1 n3 := fun a b i => k a b (h a b i)
theorem Gr.same (hp : ∀ j : Nat, parI ns' j = parI ns j) : Gr ns ns' := fun _ _ h => inC_congr hp h
theorem Gr.put (G : GoodT ns) (p b : Int) {i : Int} (hi : ∀ a b, InC ns a i -> InC ns a b -> a = b) : Gr ns (putM ns p b i).1 := fun a c h => by
  rcases put_or G p b i with e | r
  · rw [e]; exact h
  · by_cases ha : InC ns a i
    · rw [hi a c ha h]; exact inC_self (inC_nn h).2
    · exact inC_off r.off ha h
theorem Gr.fresh (G : GoodT ns) (G1 : GoodT ns') (hp : ∀ j : Nat, parI ns' j = parI ns j) (p b i : Int) (hi : i = (ns.length : Int) ∨ i < 0) : Gr ns (putM ns' p b i).1 := by
  refine (Gr.same hp).trans (Gr.put G1 p b fun a c ha hc => ?_)
  have ha := inC_congr (fun j => (hp j).symm) ha
  have hc := inC_congr (fun j => (hp j).symm) hc
  have hn := (inC_nn ha).2
  have hi : i = (ns.length : Int) := hi.resolve_right (by omega)
  have e : a = i := (inC_range G ha).resolve_right (by omega)
  rw [e, hi] at hc
  rcases inC_step.1 hc with e2 | h2
  · rw [e, hi]; exact e2.symm
  · rw [parI_none (List.getElem?_eq_none_iff.2 (Nat.le_refl _))] at h2
    exact absurd h2 (inC_neg (by decide))
def Wt (ns ns' : List NodeM) : Prop := ∀ (j : Nat) z, ns[j]? = some z -> ∃ z', ns'[j]? = some z' /\ z'.kind = z.kind /\ z.text.length <= z'.text.length
theorem Wt.refl (ns : List NodeM) : Wt ns ns := fun j z h => ⟨z, h, rfl, Nat.le_refl _⟩
theorem Wt.trans {n1 n2 n3 : List NodeM} (h : Wt n1 n2) (k : Wt n2 n3) : Wt n1 n3 := fun j z hz => by
  obtain ⟨y, hy, e, l⟩ := h j z hz
  obtain ⟨x, hx, e2, l2⟩ := k j y hy
  exact ⟨x, hx, e2.trans e, Nat.le_trans l l2⟩
theorem Wt.like (l : LikeT ns ns') (hl : ns'.length = ns.length) : Wt ns ns' := fun j z hz => by
  have hj : j < ns.length := (List.getElem?_eq_some_iff.1 hz).1
  have h' : ns'[j]? = some (ns'[j]'(by omega)) := List.getElem?_eq_getElem (by omega)
  obtain ⟨y, hy, e, _, _, _, e5⟩ := l j _ h'
  rw [hz] at hy; cases hy
  exact ⟨_, h', e, by rw [e5]; exact Nat.le_refl _⟩
theorem Wt.app (z : NodeM) : Wt ns (ns ++ [z]) := fun j y hy => ⟨y, by rw [List.getElem?_append_left (getI hy)]; exact hy, rfl, Nat.le_refl _⟩
theorem Wt.addM (o : Option NodeM) : Wt ns (addM ns o).1 := by
  cases o with
  | none => exact Wt.refl _
  | some z => exact Wt.app z
theorem Wt.put (G : GoodT ns) (p b i : Int) : Wt ns (putM ns p b i).1 := .like (put_like G p b i) (put_len G p b i)
theorem Wt.move (p b : Int) : Wt ns (moveM ns p b).1 := .like (move_like p b) (move_len p b)
theorem Wt.copy (id : Int) : Wt ns (copyM ns id).1 := by
  unfold copyM
  split
  · exact Wt.addM _
  · exact Wt.refl _
theorem Gr.renew (G : GoodT ns) {k : Int} {n2 : List NodeM} (hid : parI ns x = -1) (hx : 0 <= x) (hk : 0 <= k) (hkx : k ≠ x) (h1 : ∀ j : Nat, parI n2 j = if (j : Int) = x then k else if parI ns j = k then x else parI ns j) : Gr ns n2 /\ InC n2 x k /\ ∀ a, InC ns a k -> a ≠ k -> InC n2 a x := by
  have hon : InC n2 x k := by
    obtain ⟨i, rfl⟩ := Int.eq_ofNat_of_zero_le hx
    refine inC_up (b := k) ?_
    rw [h1 i, if_pos rfl]
    exact inC_self hk
  have hst : ∀ j : Nat, parI ns j = k -> InC n2 j x := fun j hj => by
    by_cases e : (j : Int) = x
    · rw [e] at hj; omega
    · refine inC_up (b := x) ?_
      rw [h1 j, if_neg e, if_pos hj]
      exact inC_self hx
  have hgr : Gr ns n2 := fun a b h => by
    refine inC_ind (P := fun a => InC n2 a b) h (inC_self (inC_nn h).2) fun j h2 h3 => ?_
    by_cases e : (j : Int) = x
    · rw [e] at h2 h3
      rw [hid] at h2
      exact absurd h2 (inC_neg (by decide))
    · by_cases e2 : parI ns j = k
      · rw [e2] at h3
        exact inC_trans (hst j e2) (inC_trans hon h3)
      · refine inC_up ?_
        rw [h1 j, if_neg e, if_neg e2]
        exact h3
  refine ⟨hgr, hon, fun a h hne => ?_⟩
  have key : a = k ∨ InC n2 a x := by
    refine inC_ind (P := fun a => a = k ∨ InC n2 a x) h (.inl rfl) fun j h2 h3 => .inr ?_
    by_cases e2 : parI ns j = k
    · exact hst j e2
    · have h3 := h3.resolve_left e2
      by_cases e : (j : Int) = x
      · rw [e]; exact inC_self hx
      · refine inC_up ?_
        rw [h1 j, if_neg e, if_neg e2]
        exact h3
  exact key.resolve_left hne
end
end Go.Proofs
namespace Go.Proofs
open Go Go.Sh
set_option linter.unusedVariables false
set_option maxRecDepth 100000
theorem KeepK.refl (ns : List NodeM) : KeepK ns ns := fun j z hz => ⟨z, hz, rfl⟩
theorem KeepK.app (ns : List NodeM) (l : List NodeM) : KeepK ns (ns ++ l) := fun j z hz => ⟨z, by rw [List.getElem?_append_left (getI hz)]; exact hz, rfl⟩
theorem KeepK.addM (ns : List NodeM) (x : Option NodeM) : KeepK ns (addM ns x).1 := by
  cases x with
  | none => exact .refl _
  | some x => exact .app _ _
theorem KeepK.writeM {ns : List NodeM} (G : GoodT ns) (p b : Int) (tx : Bs) : KeepK ns (writeM ns p b tx).1 := by
  rcases write_of (ns := ns) p b tx with h | ⟨j, z, hz, _, h⟩ | ⟨i, h⟩
  · rw [h]; exact .refl _
  · rw [h]
    intro k y hy
    by_cases e : k = j
    · subst e
      rw [hz] at hy; cases hy
      exact ⟨{ z with text := z.text ++ tx }, by rw [List.getElem?_set_self (getI hz)], rfl⟩
    · exact ⟨y, by rw [List.getElem?_set_ne (by omega)]; exact hy, rfl⟩
  · rw [h]
    exact (KeepK.addM _ _).trans (.like (put_like (G.addM _ _ _ _ _) _ _ _) (put_len (G.addM _ _ _ _ _) _ _ _))
section
variable {m : WM} {u v x : Nat}
theorem AI.zero : AI wm0 1 0 0 := ⟨DI.zero, rfl, fun y hy h0 => by
  have : y = (0, 0, wHtml, 0) := by simpa [wm0] using hy
  subst this
  exact absurd rfl h0, (fun y hy => nomatch hy), fun y hy => by
  have : y = (0, 0, wHtml, 0) := by simpa [wm0] using hy
  subst this
  decide⟩
theorem getD_app {α : Type} (l l2 : List α) (h : 0 < l.length) (d : α) : (l ++ l2).getD 0 d = l.getD 0 d := by
  rw [List.getD_eq_getElem?_getD, List.getElem?_append_left h, <- List.getD_eq_getElem?_getD]
theorem AI.insert (A : AI m u v x) (sp : Int) {nm : Bs} (hn : nm.length <= 4000) (at' : List AttrP) : AI (insertM m sp nm at') (u + 1) v x := by
  have k1 : KeepK m.ns (insertM m sp nm at').ns := (KeepK.addM _ _).trans (.like (put_like (A.D.G.addM _ _ _ _ _) _ _ _) (put_len (A.D.G.addM _ _ _ _ _) _ _ _))
  have k2 : KeepK (addM m.ns (bareM 1 sp nm at' [])).1 (insertM m sp nm at').ns := .like (put_like (A.D.G.addM _ _ _ _ _) _ _ _) (put_len (A.D.G.addM _ _ _ _ _) _ _ _)
  have hop : (insertM m sp nm at').op = m.op ++ [((m.ns.length : Int), sp, nm, pointM sp nm at')] := rfl
  refine ⟨A.D.insert _ _ _, by rw [hop, getD_app _ _ A.D.ne]; exact A.root, fun y hy h0 => ?_, A.mid, fun y hy => ?_⟩
  · rw [hop] at hy
    rcases List.mem_append.1 hy with h | h
    · obtain ⟨z, hz, e⟩ := A.kind y h h0
      obtain ⟨z', hz', e'⟩ := k1 _ z hz
      exact ⟨z', hz', e'.trans e⟩
    · rw [List.mem_singleton.1 h]
      obtain ⟨z', hz', e'⟩ := k2 m.ns.length ⟨1, sp, nm, at', [], -1, []⟩ (by
        show (m.ns ++ [_])[m.ns.length]? = _
        rw [List.getElem?_append_right (Nat.le_refl _), Nat.sub_self]; rfl)
      exact ⟨z', hz', e'⟩
  · rw [hop] at hy
    rcases List.mem_append.1 hy with h | h
    · exact A.nml y h
    · rw [List.mem_singleton.1 h]; exact hn
theorem AI.write (A : AI m u v x) {tx : Bs} (ht : tx.length <= 4000) : AI (writeW m tx) (u + 1) v (x + 4000) :=
  ⟨A.D.write ht, A.root, fun y hy h0 => by
    obtain ⟨z, hz, e⟩ := A.kind y hy h0
    obtain ⟨z', hz', e'⟩ := KeepK.writeM A.D.G (whereC m).1 (whereC m).2 tx _ z hz
    exact ⟨z', hz', e'.trans e⟩, A.mid, A.nml⟩
theorem AI.push (A : AI m u v x) {y : MarkP} (hy : y.2.1.length <= 4000 /\ y.2.2.length <= 500 /\ ∀ a ∈ y.2.2, a.2.length <= 4000) (h0 : y.1 ≠ 0) : AI { m with mks := pushP m.mks y } u (v + 1) x :=
  ⟨A.D.push hy, A.root, A.kind, fun z hz => by
    rcases push_mem hz with h | h
    · exact A.mid z h
    · rw [h]; exact h0, A.nml⟩
theorem AI.reb {v : Nat} : ∀ (k : Nat) {m : WM} {u x : Nat} (i : Nat), AI m u v x -> i + k <= m.mks.length -> AI (rebN k m i) (u + k) v x
  | 0, m, u, x, i, A, _ => A
  | k + 1, m, u, x, i, A, hik => by
    have hi : i < m.mks.length := by omega
    have hg : m.mks.getD i noMark = m.mks[i] := getD_get hi
    have hw := A.D.mw m.mks[i] (List.getElem_mem hi)
    have h1 := A.insert 0 (nm := (m.mks.getD i noMark).2.1) (by rw [hg]; exact hw.1) (m.mks.getD i noMark).2.2
    have h2 : AI { insertM m 0 (m.mks.getD i noMark).2.1 (m.mks.getD i noMark).2.2 with mks := m.mks.set i ((m.ns.length : Int), (m.mks.getD i noMark).2) } (u + 1) v x :=
      ⟨⟨h1.D.G, h1.D.B, h1.D.ne, h1.D.ids, h1.D.nd, h1.D.lo, h1.D.ln, by show (m.mks.set _ _).length <= v; rw [List.length_set]; exact A.D.ml, by rw [hg]; exact A.D.mw.set hi _, h1.D.tx⟩, h1.root, h1.kind, fun z hz => by
        rcases List.mem_or_eq_of_mem_set hz with h | h
        · exact A.mid z h
        · rw [h]
          have := A.pos
          exact fun e => by have e : (m.ns.length : Int) = 0 := e; omega, h1.nml⟩
    have := AI.reb k (i + 1) h2 (by show i + 1 + k <= (m.mks.set _ _).length; rw [List.length_set]; omega)
    rw [show u + (k + 1) = u + 1 + k by omega]
    exact this
theorem AI.rebuild (A : AI m u v x) : AI (rebuildW m) (u + v) v x := by
  have hr := lostTo_rng m.mks m.op m.mks.length
  have h1 : (lostP m.mks m.op).toNat <= m.mks.length := by have := hr.2; show (lostTo m.mks m.op m.mks.length).toNat <= _; omega
  have := AI.reb (m.mks.length - (lostP m.mks m.op).toNat) (lostP m.mks m.op).toNat A (by omega)
  exact this.mono (by have := A.D.ml; omega) (Nat.le_refl _) (Nat.le_refl _)
end
end Go.Proofs
namespace Go.Proofs
open Go Go.Sh
set_option linter.unusedVariables false
set_option maxRecDepth 100000
def Ch (ns : List NodeM) (op : List OpenP) : Prop := op.Pairwise fun p q => InC ns q.1 p.1
structure CH (m : WM) : Prop where
  fo : m.fo = false
  ch : Ch m.ns m.op
structure UP (m m' : WM) : Prop where
  c : CH m'
  at' : ∀ a, InC m.ns a 0 -> InC m'.ns a 0
  w : Wt m.ns m'.ns
section
variable {m m1 m2 : WM} {u v x : Nat}
theorem UP.refl (c : CH m) : UP m m := ⟨c, fun _ h => h, Wt.refl _⟩
theorem UP.trans (h : UP m m1) (k : UP m1 m2) : UP m m2 := ⟨k.c, fun a i => k.at' a (h.at' a i), h.w.trans k.w⟩
theorem UP.ops (c : CH m) {op : List OpenP} (hs : op.Sublist m.op) : UP m { m with op := op } := ⟨⟨c.fo, c.ch.sublist hs⟩, fun _ h => h, Wt.refl _⟩
theorem UP.mks (c : CH m) (l : List MarkP) : UP m { m with mks := l } := ⟨⟨c.fo, c.ch⟩, fun _ h => h, Wt.refl _⟩
theorem UP.close (c : CH m) (n : Int) : UP m (closeW m n) := UP.ops c (op := closeO m.op n) (by
  unfold closeO
  split
  · exact List.take_sublist _ _
  · exact List.Sublist.refl _)
theorem UP.drop (c : CH m) (id : Int) : UP m (dropW m id) := UP.ops c (op := dropO m.op id) (by
  unfold dropO
  split
  · exact List.eraseIdx_sublist _ _
  · exact List.Sublist.refl _)
theorem UP.unmark (c : CH m) (k : Nat) : UP m (unmark m k) := UP.mks c _
theorem CH.get (c : CH m) {i j : Nat} (hij : i < j) (hj : j < m.op.length) : InC m.ns m.op[j].1 m.op[i].1 := List.pairwise_iff_getElem.1 c.ch i j (by omega) hj hij
theorem AI.cur (A : AI m u v x) : curM m.op = m.op[m.op.length - 1]'(by have := A.D.ne; omega) := getD_get (by have := A.D.ne; omega)
theorem CH.cur (c : CH m) (A : AI m u v x) : ∀ p ∈ m.op, InC m.ns (curM m.op).1 p.1 := fun p hp => by
  have hne := A.D.ne
  obtain ⟨i, hi, rfl⟩ := List.mem_iff_getElem.1 hp
  rw [A.cur]
  by_cases e : i = m.op.length - 1
  · subst e
    exact inC_self (A.D.ids _ (List.getElem_mem hi)).1
  · exact c.get (by omega) (by omega)
theorem whereC_of (h : m.fo = false) : whereC m = ((curM m.op).1, -1) := by
  unfold whereC whereM
  rw [h]; rfl
theorem AI.hold (A : AI m u v x) {y : OpenP} (hy : y ∈ m.op) : holdB m.ns y.1 = true := hold_of (A.D.ids y hy) (by
  by_cases h : y.1 = 0
  · exact .inl h
  · exact .inr (A.kind y hy h))
theorem hold_app {ns : List NodeM} {z : NodeM} {id : Int} (h : holdB ns id = true) : holdB (ns ++ [z]) id = true := by
  obtain ⟨q, y, rfl, hy, hk⟩ := holdB_nat h
  have hq := getI hy
  refine hold_of ⟨by omega, by rw [List.length_append]; show (q : Int) < ((ns.length + 1 : Nat) : Int); omega⟩ ?_
  rcases hk with h | h
  · exact .inl (by omega)
  · exact .inr ⟨y, by rw [Int.toNat_natCast, List.getElem?_append_left hq]; exact hy, h⟩
theorem UP.add (c : CH m) (A : AI m u v x) (kd sp : Int) (nm tx : Bs) (at' : List AttrP) (p b i : Int) (hi : i = (m.ns.length : Int) ∨ i < 0) : Gr m.ns (putM (addM m.ns (bareM kd sp nm at' tx)).1 p b i).1 /\ Wt m.ns (putM (addM m.ns (bareM kd sp nm at' tx)).1 p b i).1 :=
  ⟨Gr.fresh A.D.G (A.D.G.addM _ _ _ _ _) (addM_parI _ _ _ _ _) p b i hi, (Wt.addM _).trans (Wt.put (A.D.G.addM _ _ _ _ _) p b i)⟩
theorem UP.gr (c : CH m) {ns' : List NodeM} (g : Gr m.ns ns') (w : Wt m.ns ns') : UP m { m with ns := ns' } := ⟨⟨c.fo, c.ch.imp fun h => g _ _ h⟩, fun a h => g a 0 h, w⟩
theorem UP.insert (c : CH m) (A : AI m u v x) (sp : Int) (nm : Bs) (at' : List AttrP) : UP m (insertM m sp nm at') := by
  obtain ⟨g, w⟩ := UP.add c A 1 sp nm [] at' (whereC m).1 (whereC m).2 (m.ns.length : Int) (.inl rfl)
  have hw := whereC_of c.fo
  have hne := A.D.ne
  have hcm : curM m.op ∈ m.op := by rw [A.cur]; exact List.getElem_mem _
  have hb : (addM m.ns (bareM 1 sp nm at' [])).1 = m.ns ++ [⟨1, sp, nm, at', [], -1, []⟩] := rfl
  have hpos := A.pos
  have hcr := A.D.ids _ hcm
  have new : InC (putM (addM m.ns (bareM 1 sp nm at' [])).1 (whereC m).1 (whereC m).2 (m.ns.length : Int)).1 (m.ns.length : Int) (curM m.op).1 := by
    rw [hw]
    refine (put_rep (A.D.G.addM 1 sp nm at' []) (by rw [hb]; exact hold_app (A.hold hcm)) ⟨by omega, by rw [hb, List.length_append]; show (m.ns.length : Int) < ((m.ns.length + 1 : Nat) : Int); omega⟩ fun h => ?_).on (by omega) hcr.1
    have h2 : InC m.ns (curM m.op).1 (m.ns.length : Int) := inC_congr (fun j => (addM_parI 1 sp nm [] at' j).symm) h
    rcases inC_range A.D.G h2 with e | e
    · omega
    · omega
  refine ⟨⟨c.fo, ?_⟩, fun a h => g a 0 h, w⟩
  show Ch _ (m.op ++ [_])
  refine List.pairwise_append.2 ⟨c.ch.imp fun h => g _ _ h, List.pairwise_singleton _ _, fun p hp q hq => ?_⟩
  rw [List.mem_singleton.1 hq]
  exact inC_trans new (g _ _ (c.cur A p hp))
theorem UP.note (c : CH m) (A : AI m u v x) (tx : Bs) : UP m (noteW m tx) := by
  obtain ⟨g, w⟩ := UP.add c A 3 0 [] tx [] (whereC m).1 (whereC m).2 (m.ns.length : Int) (.inl rfl)
  exact UP.gr c g w
theorem UP.write (c : CH m) (A : AI m u v x) (tx : Bs) : UP m (writeW m tx) := by
  unfold writeW
  refine UP.gr c (ns' := (writeM m.ns (whereC m).1 (whereC m).2 tx).1) ?_ ?_
  all_goals
    unfold writeM
    split
    · first | exact Gr.refl _ | exact Wt.refl _
    split
    · first | exact Gr.refl _ | exact Wt.refl _
    split
    · rename_i j z hm
      obtain ⟨k, hk, hb⟩ := Option.bind_eq_some_iff.1 hm
      split at hb
      · obtain ⟨z', hz', hb2⟩ := Option.bind_eq_some_iff.1 hb
        split at hb2
        · cases hb2
          first
          | exact Gr.same (set_parI hz' rfl)
          | exact fun i y hy => by
              by_cases e : k.toNat = i
              · subst e
                rw [hz'] at hy; cases hy
                exact ⟨_, List.getElem?_set_self (getI hz'), rfl, by simp only [List.length_append]; omega⟩
              · exact ⟨y, by rw [List.getElem?_set_ne e]; exact hy, rfl, Nat.le_refl _⟩
        · cases hb2
      · cases hb
    · first
      | exact (UP.add c A 2 0 [] tx [] _ _ (m.ns.length : Int) (.inl rfl)).1
      | exact (UP.add c A 2 0 [] tx [] _ _ (m.ns.length : Int) (.inl rfl)).2
theorem UP.reb {v : Nat} : ∀ (k : Nat) {m : WM} {u x : Nat} (i : Nat), CH m -> AI m u v x -> i + k <= m.mks.length -> UP m (rebN k m i)
  | 0, m, u, x, i, c, A, _ => UP.refl c
  | k + 1, m, u, x, i, c, A, hik => by
    have hi : i < m.mks.length := by omega
    have U1 := UP.insert c A 0 (m.mks.getD i noMark).2.1 (m.mks.getD i noMark).2.2
    have A1 := AI.reb 1 i A (by omega)
    have e1 : rebN 1 m i = { insertM m 0 (m.mks.getD i noMark).2.1 (m.mks.getD i noMark).2.2 with mks := m.mks.set i ((m.ns.length : Int), (m.mks.getD i noMark).2) } := rfl
    have U2 : UP m (rebN 1 m i) := by rw [e1]; exact U1.trans (UP.mks U1.c _)
    have := UP.reb k (i + 1) U2.c A1 (by rw [e1]; show i + 1 + k <= (m.mks.set _ _).length; rw [List.length_set]; omega)
    exact U2.trans this
theorem UP.rebuild (c : CH m) (A : AI m u v x) : UP m (rebuildW m) := by
  have hr := lostTo_rng m.mks m.op m.mks.length
  have h1 : (lostP m.mks m.op).toNat <= m.mks.length := by have := hr.2; show (lostTo m.mks m.op m.mks.length).toNat <= _; omega
  exact UP.reb _ _ c A (by omega)
end
end Go.Proofs
namespace Go.Proofs
open Go Go.Sh
set_option linter.unusedVariables false
set_option maxRecDepth 100000
structure KI (T : Int -> Prop) (n0 : List NodeM) (O : Nat -> OpenP) (m : WM) (q : Nat) (last : Int) : Prop where
  fo : m.fo = false
  hq : q < m.op.length
  hl : (m.op.getD q noOpen).1 = last
  pre : ∀ i k, i < k -> k < q -> InC m.ns (m.op.getD k noOpen).1 (m.op.getD i noOpen).1
  suf : ∀ i k, q <= i -> i < k -> k < m.op.length -> InC m.ns (m.op.getD k noOpen).1 (m.op.getD i noOpen).1
  sep : ∀ i, i < q -> ¬ InC m.ns (m.op.getD i noOpen).1 last
  at' : ∀ a, T a -> InC m.ns a 0 ∨ InC m.ns a last
  w : Wt n0 m.ns
  pk : ∀ i, i < q -> m.op.getD i noOpen = O i
section
variable {T : Int -> Prop} {n0 : List NodeM} {O : Nat -> OpenP} {m : WM} {u v x j b q : Nat} {f blk last : Int}
theorem CH.getD (c : CH m) {i k : Nat} (hik : i < k) (hk : k < m.op.length) : InC m.ns (m.op.getD k noOpen).1 (m.op.getD i noOpen).1 := by
  rw [getD_get hk, getD_get (show i < m.op.length by omega)]
  exact c.get hik hk
theorem AI.idD (A : AI m u v x) {i : Nat} (hi : i < m.op.length) : 0 <= (m.op.getD i noOpen).1 /\ (m.op.getD i noOpen).1 < m.ns.length := by
  rw [getD_get hi]; exact A.D.ids _ (List.getElem_mem hi)
theorem AI.eqD (A : AI m u v x) {i k : Nat} (hi : i < m.op.length) (hk : k < m.op.length) (e : (m.op.getD i noOpen).1 = (m.op.getD k noOpen).1) : i = k := by
  rw [getD_get hi, getD_get hk] at e
  exact A.nd_eq hi hk e
theorem KI.begin (c : CH m) (A : AI m u v x) {n : Nat} (hn : n < m.op.length) : KI (fun a => InC m.ns a 0) m.ns (fun i => m.op.getD i noOpen) m n (m.op.getD n noOpen).1 :=
  ⟨c.fo, hn, rfl, fun i k h1 h2 => c.getD h1 (by omega), fun i k _ h1 h2 => c.getD h1 h2, fun i hi h => by
    have e := inC_anti A.D.G h (c.getD hi hn)
    have := A.eqD (by omega) hn e
    omega, fun a h => .inl h, Wt.refl _, fun _ _ => rfl⟩
theorem getD_set_self {α : Type} (l : List α) {i : Nat} (hi : i < l.length) (y d : α) : (l.set i y).getD i d = y := by
  rw [List.getD_eq_getElem?_getD, List.getElem?_set_self hi]; rfl
theorem getD_erase2 {α : Type} (l : List α) {i q : Nat} (hq : q <= i) (d : α) : (l.eraseIdx q).getD i d = l.getD (i + 1) d := by
  rw [List.getD_eq_getElem?_getD, List.getD_eq_getElem?_getD, List.getElem?_eraseIdx, if_neg (by omega)]
theorem KI.re (K : KI T n0 O m q last) (A : AI m u v x) {ns' : List NodeM} {y : Int} (hp : ∀ j : Nat, (j : Int) ≠ last -> parI ns' j = parI m.ns j) (hy : InC ns' last y) :
    (∀ i k, i < k -> k < q -> InC ns' (m.op.getD k noOpen).1 (m.op.getD i noOpen).1) /\ (∀ i k, q <= i -> i < k -> k < m.op.length -> InC ns' (m.op.getD k noOpen).1 (m.op.getD i noOpen).1) /\ (∀ k, q <= k -> k < m.op.length -> InC ns' (m.op.getD k noOpen).1 y) /\ (∀ a, T a -> InC ns' a 0 ∨ InC ns' a y) := by
  have below : ∀ k, q <= k -> k < m.op.length -> InC m.ns (m.op.getD k noOpen).1 last := fun k h1 h2 => by
    rw [<- K.hl]
    by_cases e : q = k
    · subst e; exact inC_self (A.idD h2).1
    · exact K.suf q k (Nat.le_refl _) (by omega) h2
  refine ⟨fun i k h1 h2 => inC_off hp (K.sep k h2) (K.pre i k h1 h2), fun i k h0 h1 h2 => ?_, fun k h1 h2 => inC_trans (inC_x hp (below k h1 h2)) hy, fun a ha => ?_⟩
  · rcases inC_re hp (K.suf i k h0 h1 h2) with h | ⟨h, h3⟩
    · exact h
    · rw [inC_anti A.D.G (below i h0 (by omega)) h3]; exact h
  · by_cases h : InC m.ns a last
    · exact .inr (inC_trans (inC_x hp h) hy)
    · exact .inl (inC_off hp h ((K.at' a ha).resolve_right h))
theorem KI.copy (C : CI m u v x f j b (q + 1)) (hne : (m.op.getD q noOpen).1 ≠ f) (K : KI T n0 O m (q + 1) last) (l : List MarkP) :
    KI T n0 O { m with ns := (putM (copyM m.ns (m.op.getD q noOpen).1).1 (copyM m.ns (m.op.getD q noOpen).1).2 (-1) last).1, op := m.op.set q ((copyM m.ns (m.op.getD q noOpen).1).2, (m.op.getD q noOpen).2), mks := l } q (copyM m.ns (m.op.getD q noOpen).1).2 := by
  have A := C.A
  have hq1 := K.hq
  have hq : q < m.op.length := by omega
  have hp := C.pos hne
  have hmem : m.op.getD q noOpen ∈ m.op := by rw [getD_get hq]; exact List.getElem_mem hq
  have hn0 : (m.op.getD q noOpen).1 ≠ 0 := by rw [getD_get hq]; exact A.ne0 hq hp
  obtain ⟨z, hz, hk⟩ := A.kind _ hmem hn0
  have ec := copy_of (A.idD hq).1 hz hk
  have G1 := A.D.G.copyM (m.op.getD q noOpen).1
  rw [ec] at G1 ⊢
  have hpos := A.pos
  have hlast := A.idD hq1
  rw [K.hl] at hlast
  have hl0 : last ≠ 0 := by rw [<- K.hl, getD_get hq1]; exact A.ne0 hq1 (by omega)
  have hpar : ∀ i : Nat, parI (m.ns ++ [⟨1, z.space, z.name, z.attrs, [], -1, []⟩]) i = parI m.ns i := add_parI rfl
  have hlen : (m.ns ++ [(⟨1, z.space, z.name, z.attrs, [], -1, []⟩ : NodeM)]).length = m.ns.length + 1 := by simp
  have r := put_rep G1 (parent := (m.ns.length : Int)) (id := last) (hold_of ⟨by omega, by rw [hlen]; omega⟩ (.inr ⟨_, by rw [Int.toNat_natCast, List.getElem?_append_right (Nat.le_refl _), Nat.sub_self]; rfl, rfl⟩)) ⟨by omega, by rw [hlen]; omega⟩ fun h => by
    have h := inC_congr (fun i => (hpar i).symm) h
    rcases inC_step.1 h with e | h
    · omega
    · rw [parI_none (List.getElem?_eq_none_iff.2 (Nat.le_refl _))] at h
      exact inC_neg (by decide) h
  have hp' : ∀ i : Nat, (i : Int) ≠ last -> parI (putM (m.ns ++ [⟨1, z.space, z.name, z.attrs, [], -1, []⟩]) (m.ns.length : Int) (-1) last).1 i = parI m.ns i := fun i hi => by rw [r i, if_neg hi, hpar]
  have hon := r.on hlast.1 (by omega)
  obtain ⟨k1, k2, k3, k4⟩ := K.re A hp' hon
  refine ⟨K.fo, by show q < (m.op.set _ _).length; rw [List.length_set]; exact hq, by show ((m.op.set q _).getD q noOpen).1 = _; rw [getD_set_self _ hq], fun i k h1 h2 => ?_, fun i k h0 h1 h2 => ?_, fun i hi h => ?_, k4, K.w.trans ((Wt.app _).trans (Wt.put G1 _ _ _)), fun i hi => (set_getD _ (show i ≠ q by omega) _ _).trans (K.pk i (by omega))⟩
  · show InC _ ((m.op.set q _).getD k noOpen).1 ((m.op.set q _).getD i noOpen).1
    rw [set_getD _ (by omega), set_getD _ (by omega)]
    exact k1 i k h1 (by omega)
  · have h5 : k < (m.op.set q _).length := h2
    rw [List.length_set] at h5
    show InC _ ((m.op.set q _).getD k noOpen).1 ((m.op.set q _).getD i noOpen).1
    rw [set_getD _ (show k ≠ q by omega)]
    by_cases e : i = q
    · subst e
      rw [getD_set_self _ hq]
      exact k3 k (by omega) h5
    · rw [set_getD _ e]
      exact k2 i k (by omega) h1 h5
  · have h : InC (putM (m.ns ++ [⟨1, z.space, z.name, z.attrs, [], -1, []⟩]) (m.ns.length : Int) (-1) last).1 ((m.op.set q _).getD i noOpen).1 (m.ns.length : Int) := h
    rw [set_getD _ (show i ≠ q by omega)] at h
    have hid := A.idD (show i < m.op.length by omega)
    rcases inC_re (fun k hk => (hp' k hk).symm) h with h2 | ⟨h2, _⟩
    · rcases inC_range A.D.G h2 with e | e <;> omega
    · exact K.sep i (by omega) h2
theorem KI.drop (K : KI T n0 O m (q + 1) last) {m' : WM} (e1 : m'.ns = m.ns) (e2 : m'.fo = m.fo) (e3 : m'.op = m.op.eraseIdx q) : KI T n0 O m' q last := by
  have hq1 := K.hq
  have hl : m'.op.length = m.op.length - 1 := by rw [e3, List.length_eraseIdx, if_pos (by omega)]
  refine ⟨by rw [e2]; exact K.fo, by omega, by rw [e3, getD_erase2 _ (Nat.le_refl _)]; exact K.hl, fun i k h1 h2 => ?_, fun i k h0 h1 h2 => ?_, fun i hi => ?_, by rw [e1]; exact K.at', by rw [e1]; exact K.w, fun i hi => by rw [e3, getD_erase _ hi]; exact K.pk i (by omega)⟩
  · rw [e1, e3, getD_erase _ h2, getD_erase _ (show i < q by omega)]
    exact K.pre i k h1 (by omega)
  · rw [e1, e3, getD_erase2 _ h0, getD_erase2 _ (by omega)]
    exact K.suf _ _ (by omega) (by omega) (by omega)
  · rw [e1, e3, getD_erase _ hi]
    exact K.sep i (by omega)
theorem climb_ki (blk : Int) : ∀ (q n : Nat) {m : WM} {u v x : Nat} {b : Nat} (last : Int), CI m u v x f j b q -> KI T n0 O m q last -> KI T n0 O (climbN blk f q n m last b).1 (j + 1) (climbN blk f q n m last b).2.1
  | 0, n, m, u, v, x, b, last, C, K => absurd C.hj (by omega)
  | q + 1, n, m, u, v, x, b, last, C, K => by
    have hq1 := K.hq
    unfold climbN
    simp only []
    by_cases hf : (m.op.getD q noOpen).1 = f
    · rw [if_pos hf]
      have hj := C.hj
      have : q = j := C.A.eqD (by omega) (by omega) (hf.trans C.hf.symm)
      subst this
      exact K
    · rw [if_neg hf]
      by_cases h1 : 0 <= findP m.mks (m.op.getD q noOpen).1 /\ n < 3
      · rw [if_pos h1]
        have C2 := C.copy hf h1.1 last (b' := if last = blk then (findP m.mks (m.op.getD q noOpen).1).toNat + 1 else b) (by split; exact .inl rfl; exact .inr rfl)
        exact climb_ki blk q (n + 1) _ C2 (KI.copy C hf K _)
      · rw [if_neg h1]
        by_cases h2 : 0 <= findP m.mks (m.op.getD q noOpen).1
        · rw [if_pos h2]
          have C1 := C.unmark hf h2
          exact climb_ki blk q (n + 1) last (C1.dropQ hf) (K.drop (m' := dropW (unmark m _) _) rfl rfl (C1.drop_op hf))
        · rw [if_neg h2]
          exact climb_ki blk q (n + 1) last (C.dropQ hf) (K.drop (m' := dropW m _) rfl rfl (C.drop_op hf))
end
end Go.Proofs
