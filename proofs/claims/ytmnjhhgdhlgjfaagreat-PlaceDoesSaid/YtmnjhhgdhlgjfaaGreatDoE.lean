/- dom: what a node stands in: above, within. No condition. dom: Cut, Put. No condition but that the tree is one. -/
import Derived.Test.YtmnjhhgdhlgjfaaGreatDoC
import Derived.Test.YtmnjhhgdhlgjfaaGreatHmE
namespace Go.Proofs
open Go Go.Sh
set_option linter.unusedVariables false
set_option maxRecDepth 100000
/-! ### plain -/
def parI (ns : List NodeM) (i : Int) : Int := ((ns[i.toNat]?).map (·.parent)).getD (-1)
/-- a node and what it stands in -/
def chainP (ns : List NodeM) : Nat → Int → List Int
  | 0, _ => []
  | f + 1, i => if 0 ≤ i then i :: chainP ns f (parI ns i) else []
def endP (ns : List NodeM) : Nat → Int → Prop
  | 0, i => i < 0
  | f + 1, i => i < 0 ∨ endP ns f (parI ns i)
def InC (ns : List NodeM) (id of : Int) : Prop := ∃ f, of ∈ chainP ns f id
noncomputable def withinP (ns : List NodeM) (id of : Int) : Bool := @decide (InC ns id of) (Classical.propDecidable _)
theorem chain_neg {ns : List NodeM} {i : Int} (h : i < 0) : ∀ f, chainP ns f i = []
  | 0 => rfl
  | f + 1 => by unfold chainP; rw [if_neg (by omega)]
theorem chain_end {ns : List NodeM} : ∀ {N : Nat} {i : Int}, endP ns N i → ∀ f x, x ∈ chainP ns f i → x ∈ chainP ns N i
  | 0, i, h, f, x, hx => by rw [chain_neg h] at hx; exact hx
  | N + 1, i, h, 0, x, hx => by cases hx
  | N + 1, i, h, f + 1, x, hx => by
    unfold chainP at hx ⊢
    split at hx
    · rename_i h0
      rw [if_pos h0]
      rcases List.mem_cons.1 hx with rfl | hx
      · exact List.mem_cons_self ..
      · exact List.mem_cons_of_mem _ (chain_end (h.resolve_left (by omega)) f x hx)
    · cases hx
theorem inC_iff {ns : List NodeM} {N : Nat} {i x : Int} (h : endP ns N i) : InC ns i x ↔ x ∈ chainP ns N i := ⟨fun ⟨f, hf⟩ => chain_end h f x hf, fun h => ⟨N, h⟩⟩
structure GoodT (ns : List NodeM) : Prop where
  par : ∀ (i : Nat) x, ns[i]? = some x → x.parent = -1 ∨ (0 ≤ x.parent ∧ x.parent < ns.length)
  kid : ∀ (i : Nat) x (k : Int), ns[i]? = some x → (k ∈ x.kids ↔ ∃ (j : Nat) (y : NodeM), k = (j : Int) ∧ ns[j]? = some y ∧ y.parent = (i : Int))
  nodup : ∀ (i : Nat) x, ns[i]? = some x → x.kids.Nodup
  rank : ∃ rk : Nat → Nat, ∀ (i p : Nat) x, ns[i]? = some x → x.parent = (p : Int) → rk p < rk i
  root : ∃ x, ns[0]? = some x ∧ x.parent = -1
theorem GoodT.ends {ns : List NodeM} (G : GoodT ns) {rk : Nat → Nat} (hr : ∀ (i p : Nat) x, ns[i]? = some x → x.parent = (p : Int) → rk p < rk i) : ∀ (f : Nat) (i : Nat), rk i < f → endP ns f (i : Int)
  | 0, i, h => by omega
  | f + 1, i, h => by
    right
    unfold parI
    rw [Int.toNat_natCast]
    cases hx : ns[i]? with
    | none =>
      show endP ns f (-1)
      cases f with
      | zero => show (-1 : Int) < 0; omega
      | succ f => exact .inl (by omega)
    | some x =>
      show endP ns f x.parent
      rcases G.par i x hx with h1 | ⟨h1, h2⟩
      · rw [h1]
        cases f with
        | zero => show (-1 : Int) < 0; omega
        | succ f => exact .inl (by omega)
      · obtain ⟨p, hp⟩ := Int.eq_ofNat_of_zero_le h1
        have hp : x.parent = (p : Int) := hp
        rw [hp]
        exact G.ends hr f p (by have := hr i p x hx hp; omega)
theorem GoodT.end_ex {ns : List NodeM} (G : GoodT ns) (i : Int) : ∃ N, endP ns N i := by
  obtain ⟨rk, hr⟩ := G.rank
  rcases Int.lt_or_le i 0 with h | h
  · exact ⟨0, h⟩
  · obtain ⟨k, hk⟩ := Int.eq_ofNat_of_zero_le h
    exact ⟨rk k + 1, by rw [hk]; exact G.ends hr _ k (by omega)⟩

/-! ### memory -/
theorem _root_.Go.Sh.OwnF.rowAt {α : Type} {E : El α} (hf : Flat E) {h h' : H} {base e n c : Nat} {b : Option Addr} {l : List α} {B : Nat → Prop} (o : OwnF E h base e b n c l) (k : Keep B h h') (hb : ∀ q, b = some q → B q.block) : Row E (fun _ => True) h' b n c l := by
  obtain ⟨xs, h1, h2⟩ := o.own.own
  exact Row.of (Enc.flat hf h2) (h1.keep k fun g e _ _ => hb _ e).cells o.own.len h1.cap h1.max fun _ _ => trivial
theorem flatPtr : Flat elPtr := fun _ _ _ _ _ _ h => h
theorem rounds_ofP {D : Nat} {Pv Rd : Nat → Prop} {rd : Round} {done : H → Prop} (Inv : List (List Value) → H → Prop) (hz : ∀ xs h h1, Inv xs h → NzP Pv (D + 1) h h1 → Inv xs h1)
    (hs : ∀ x xs h1 Kc, Inv (x :: xs) h1 → (∀ hb h', KpP Rd hb h' → Inv xs h' → Kc hb h') →
      rd x (fun he p => KpP Rd h1 he ∧ ∀ h2, NzP Pv (D + 1) he h2 → p h2) Kc (fun hb h' p => KpP Rd hb h' ∧ ∀ h4, NzP Pv (D + 1) h' h4 → dOpen D h4 → p h4) h1)
    (hd : ∀ h1, Inv [] h1 → dOpen D h1 → done h1) : ∀ (xs : List (List Value)) (h : H), Inv xs h → rounds D Pv Rd rd done xs h
  | [], h, hi => fun h1 hn ho => hd h1 (hz _ _ _ hi hn) ho
  | x :: xs, h, hi => fun h1 hn => hs x xs h1 _ (hz _ _ _ hi hn) fun hb h' hk hi' => ⟨hk, rounds_ofP Inv hz hs hd xs h' hi'⟩
theorem callYieldB {L : Nat} {args : Array Value} {h : H} {next : Value → H → Prop} : CallV Tryz.prog 4 (.func (.yield L) ⟨[]⟩ ⟨[]⟩) args h next = YCalls Tryz.prog L ⟨args.toList⟩ h fun v h' => vBool v fun b => cond b (next (.bool true) h') (next (.bool false) h') := by kernel_rfl
section
variable {h : H} {K : Value → H → Prop} {col : Col} {s i : Nat} {t a1 a2 : Addr} {ads : List Addr} {ns : List NodeM} {x : NodeM}
abbrev TreeB (col : Col) (s : Nat) : Nat → Prop := fun k => ∃ p, col k = some (s, p)
/-- a node's parent, read wherever the tree's own blocks stay -/
theorem par_read (T : TreeP h col s t ads ns) {h' : H} {B : Nat → Prop} (k : Keep B h h') (hB : ∀ k, TreeB col s k → B k) {i : Nat} (hx : ns[i]? = some x) {Q : Int → Prop} (hq : Q x.parent) :
    ∃ b n c, cell h' (t.add 0) = some (.slice b n c) ∧ ((0 ≤ (i : Int) ∧ (i : Int) < (n : Int)) ∧ vSome b fun a18 => ∃ p19, cell h' (a18.add (Int.toNat (i : Int) * 1)) = some (.pointer p19) ∧ vSome p19 fun a20 => ∃ i21, cell h' (a20.add 6) = some (.int .i64 i21) ∧ Q i21) := by
  obtain ⟨lb, lc, v, o, hl⟩ := T.ex
  have hlt := (List.getElem?_eq_some_iff.1 hx).1
  have hlen := T.len
  have r := o.rowAt flatPtr k fun q e => hB _ ⟨_, hl q e⟩
  refine ⟨lb, _, lc, (v.keep k (hB _ ⟨_, T.colt⟩)).cell 0 rfl, r.idxN (i := i) (by omega) rfl fun a hA => ldPtr hA (vSomeMk ?_)⟩
  have N := T.nodes i x ads[i] hx (List.getElem?_eq_getElem (by omega))
  obtain ⟨ab, an, ac, kb, kn, kc, vn, _⟩ := N.ex
  exact ⟨_, (vn.keep k (hB _ ⟨_, N.col⟩)).cell 6 rfl, hq⟩
theorem above_emits (T : TreeP h col s t ads ns) {t1 t2 : Nat} {id : Int} {N : Nat} (hid : id < ns.length) (hin : ∀ j : Nat, ∀ y, ns[j]? = some y → y.parent < ns.length ∧ -1 ≤ y.parent) (hend : endP ns N id) (v1 : Var h a1 t1 [.int .i64 id]) (v2 : Var h a2 t2 [.pointer (some t)]) (hne : a1.block ≠ a2.block) (hc1 : col a1.block = none) :
    Emits Tryz.prog (.func (.func 89) ⟨[]⟩ ⟨[.pointer (some a1), .pointer (some a2)]⟩) h ((chainP ns N id).map fun i => [.int .i64 i]) (fun k => k = a1.block) (fun k => TreeB col s k ∨ k = a1.block ∨ k = a2.block) := by
  refine ⟨89, _, _, rfl, fun args w => by kernel_rfl, fun L J Stop h2 hn hJ hS hY hj => ?_⟩
  refine Sx.dom_Tree_above_1.ok (.func (.yield L) ⟨[]⟩ ⟨[]⟩) a1 a2 _ _ ⟨N + 1, ?_⟩
  have key : ∀ (E : Sx.dom_Tree_above_1.T0), (∀ h3, J [] h3 ∨ Stop h3 → E h3) → ∀ (N : Nat) (id : Int) h', id < ns.length → endP ns N id → Keep (fun k => TreeB col s k ∨ k = a2.block) h h' → Var h' a1 t1 [.int .i64 id] → J ((chainP ns N id).map fun i => [.int .i64 i]) h' →
      Sx.dom_Tree_above_1.n2_L E E E (N + 1) (.func (.yield L) ⟨[]⟩ ⟨[]⟩) a1 a2 h' := by
    intro E hE N
    induction N with
    | zero =>
      intro id h' hid hend hk hv hj
      unfold Sx.dom_Tree_above_1.n2_L
      exact ⟨_, hv.cell0 rfl, splF (by have : id < 0 := hend; omega) (hE _ (.inl hj))⟩
    | succ N ih =>
      intro id h' hid hend hk hv hj
      unfold Sx.dom_Tree_above_1.n2_L
      refine ⟨_, hv.cell0 rfl, spl (fun h0 => ⟨_, hv.cell0 rfl, ?_⟩) fun h0 => ?_⟩
      · obtain ⟨i, rfl⟩ := Int.eq_ofNat_of_zero_le (show 0 ≤ id by omega)
        have hlt : i < ns.length := by have := hid; simp at this; omega
        have hx : ns[i]? = some ns[i] := List.getElem?_eq_getElem hlt
        have hpar : parI ns (i : Int) = ns[i].parent := by unfold parI; rw [Int.toNat_natCast, hx]; rfl
        unfold chainP at hj
        rw [if_pos (by omega), List.map_cons, hpar] at hj
        have hend' : endP ns N ns[i].parent := by
          rcases hend with h1 | h1
          · have : (i : Int) < 0 := h1; omega
          · have h1 : endP ns N (parI ns (i : Int)) := h1
            rw [hpar] at h1; exact h1
        rw [callYieldB]
        refine fun w hw2 => ?_
        obtain ⟨fn, tmps, assign, body, hrun, hrd⟩ := hY _ _ _ hj w hw2
        refine ⟨fn, tmps, assign, body, hrun, hrd.mono ?_⟩
        rintro e w' ⟨v, he, ho, hor⟩
        refine ⟨v, he, ho, ?_⟩
        rcases hor with ⟨rfl, hJ', hkr⟩ | ⟨rfl, hS, hkr⟩
        · have kk : Keep (fun k => TreeB col s k ∨ k = a2.block) h w'.heap := Keep.trans hk (Keep.less hkr.keep fun k (hk : TreeB col s k ∨ k = a2.block) => by rcases hk with h | h; exact .inl h; exact .inr (.inr h))
          have hv' : Var w'.heap a1 t1 [.int .i64 (i : Int)] := hv.keep hkr.keep (.inr (.inl rfl))
          have v2' := v2.keep kk (.inr rfl)
          obtain ⟨b, n, c, e1, e2, e3⟩ := par_read (Q := fun q => stL a1 [.int .i64 q] 0 w'.heap fun h22 => Sx.dom_Tree_above_1.n2_L E E E (N + 1) (.func (.yield L) ⟨[]⟩ ⟨[]⟩) a1 a2 h22) T kk (fun k hk => .inl hk) hx (stL_var0 hv' (Nat.le_refl 1) fun h3 v3 k3 s3 => by
            refine ih ns[i].parent h3 (hin i _ hx).1 hend' (Keep.trans kk (k3.w.less fun k hk e => ?_)) v3 (hJ _ _ _ hJ' ⟨k3.1, fun b o e hp => ?_⟩)
            · rcases hk with ⟨p, hp⟩ | hk
              · rw [e, hc1] at hp; cases hp
              · exact hne (e.symm.trans hk)
            · by_cases hb : b = a1.block
              · have h1 := hp hb
                rw [hb, hv'.cells] at e; cases e; cases h1
              · rw [k3.2 b hb]; exact e)
          exact ⟨_, v2'.cell0 rfl, vSomeMk ⟨b, n, c, e1, _, hv'.cell0 rfl, e2, e3⟩⟩
        · exact hE _ (.inr hS)
      · rw [chain_neg (by omega)] at hj
        exact hE _ (.inl hj)
  exact key _ (fun h3 hh => hh) N id h2 hid hend ⟨hn.1, fun b hb o e hl => hn.2 b o e (fun x => x) fun _ => hl⟩ (v1.kw hn.kw) hj
theorem nz_var {L g : Nat} {h h1 : H} {a : Addr} {t : Nat} {cs : List Value} (v : Var h a t cs) (n : NzP (fun k => k = g) L h h1) (hg : a.block ≠ g) : Var h1 a t cs := ⟨v.is, n.2 _ _ v.cells hg fun _ => rfl⟩
theorem nz_kb {L g : Nat} {h0 h h1 : H} (k : KB h0 h) (n : NzP (fun k => k = g) L h h1) (hg : h0.size ≤ g) (hL : h0.size ≤ L) : KB h0 h1 :=
  ⟨Nat.le_trans k.1 n.1, fun b hb => by
    have e := k.2 b hb
    have hb' : b < h0.size := hb
    rw [Array.getElem?_eq_getElem hb'] at e ⊢
    exact n.2 b _ e (by omega) fun e2 => by omega⟩
theorem leave_kD {h0 h : H} {D t : Nat} {a : Addr} {cs : List Value} {Q : H → Prop} (hd : dOpen D h) (k : KB h0 h) (hD : h0.size ≤ D) (v : Var h a t cs) (hk : ∀ h', KB h0 h' → Var h' a t cs → Q h') : leaveX [markD D] h Q :=
  ⟨hd, hk _ (k.leave hD) (v.kw ((KW.refl h).leave hd))⟩
theorem unI {p : Int} {k : Int → Prop} (h : k p) : uncons ((fun i : Int => [Value.int .i64 i]) p) fun e l => vInt .i64 e fun i => unnil l (k i) := show vInt .i64 (.int .i64 p) fun i => k i from vIntMk h
theorem within_calls (T : TreeP h col s t ads ns) (G : GoodT ns) {id of : Int} (hid : id < ns.length) (hk : ∀ h', KB h h' → K (.bool (withinP ns id of)) h') : HCalls Tryz.prog 58 ⟨[.pointer (some t), .int .i64 id, .int .i64 of]⟩ h K := by
  obtain ⟨N, hend⟩ := G.end_ex id
  refine Sx.dom_Tree_within.ok _ _ _ _ _ (newx_var fun x5 h1 v1 k1 e1 s1 => newx_var fun x6 h2 v2 k2 e2 s2 => Sx.dom_Tree_above.ok _ _ _ _ (newx_var fun a2 h3 v3 k3 e3 s3 => newx_var fun a1 h4 v4 k4 e4 s4 => ?_))
  have k14 : KB h h4 := ((k1.trans k2).trans k3).trans k4
  have T4 := T.kb k14
  have hin : ∀ j : Nat, ∀ y, ns[j]? = some y → y.parent < ns.length ∧ -1 ≤ y.parent := fun j y hy => by
    rcases G.par j y hy with h | h <;> omega
  have v5 : Var h4 x5 3 [.int .i64 of] := ((v1.kb k2).kb k3).kb k4
  have v6 : Var h4 x6 4 [.bool false] := (v2.kb k3).kb k4
  have fin : ∀ h5 (b : Bool), KB h h5 → dOpen h4.size h5 → Var h5 x6 4 [.bool b] → b = withinP ns id of → leaveX [markD h4.size] h5 fun h => ∃ b62, cell h x6 = some (.bool b62) ∧ K (.bool b62) h := fun h5 b k5 hd v e =>
    leave_kD hd k5 (by omega) v fun h6 k6 v6 => ⟨b, v6.cell0 rfl, by rw [e]; exact hk h6 k6⟩
  refine ⟨(chainP ns N id).map fun i => [.int .i64 i], fun k => k = a1.block, _, above_emits T4 hid hin hend v4 (v3.kb k4) (by omega) (T.fresh _ (by omega)), (fun x hx => by obtain ⟨z, _, rfl⟩ := List.mem_map.1 hx; rfl),
    rounds_ofP (fun xs h' => KB h h' ∧ Var h' x5 3 [.int .i64 of] ∧ Var h' x6 4 [.bool false] ∧ ∃ l : List Int, xs = l.map (fun i => [.int .i64 i]) ∧ (InC ns id of ↔ of ∈ l) ∧ ∀ i ∈ l, Rng .i64 i)
      ?_ ?_ ?_ _ _ ⟨k14, v5, v6, chainP ns N id, rfl, inC_iff hend, ?_⟩⟩
  · rintro xs h5 h6 ⟨k5, w5, w6, l, e, hl, hr⟩ n
    exact ⟨nz_kb k5 n (by omega) (by omega), nz_var w5 n (by omega), nz_var w6 n (by omega), l, e, hl, hr⟩
  · rintro x xs h5 Kc ⟨k5, w5, w6, l, e, hl, hr⟩ hKc
    cases l with
    | nil => cases e
    | cons p l =>
      cases e
      refine unI ?_
      unfold Sx.dom_Tree_within.n6_rd
      refine ⟨KpP.refl _ _, fun h6 n6 => ?_⟩
      have k6 := nz_kb k5 n6 (by omega) (by omega)
      have w5' := nz_var w5 n6 (by omega)
      have w6' := nz_var w6 n6 (by omega)
      refine ⟨_, w5'.cell0 rfl, spl (fun ep => stL_var0 w6' (Nat.le_refl 1) fun h7 v7 k7 s7 => ⟨KX.kp w6' k7 fun e => ?_, fun h8 n8 hd => ?_⟩) fun ep => hKc h6 h6 (KpP.refl _ _) ⟨k6, w5', w6', l, rfl, ?_, fun i hi => hr i (List.mem_cons_of_mem _ hi)⟩⟩
      · rcases e with ⟨q, hq⟩ | e | e
        · rw [T.fresh _ (by omega)] at hq; cases hq
        · omega
        · omega
      · have k7' : KB h h7 := KB.step k6 k7 (by omega)
        refine fin h8 true (nz_kb k7' n8 (by omega) (by omega)) hd (nz_var v7 n8 (by omega)) ?_
        unfold withinP
        rw [@decide_eq_true (InC ns id of) (Classical.propDecidable _) (hl.2 (by rw [ep]; exact List.mem_cons_self ..))]
      · rw [hl, List.mem_cons]
        exact ⟨fun h => h.resolve_left (fun e => ep e.symm), .inr⟩
  · rintro h5 ⟨k5, w5, w6, l, e, hl, hr⟩ hd
    cases l with
    | cons p l => cases e
    | nil =>
      refine stL_var0 w6 (Nat.le_refl 1) fun h7 v7 k7 s7 => fin h7 false (KB.step k5 k7 (by omega)) (w6.dOpen k7 hd) v7 ?_
      unfold withinP
      rw [@decide_eq_false (InC ns id of) (Classical.propDecidable _) (fun h => by have := hl.1 h; cases this)]
  · have hf := T.few
    have : ∀ (N : Nat) (id : Int), id < ns.length → ∀ i ∈ chainP ns N id, Rng .i64 i := by
      intro N
      induction N with
      | zero => intro id _ i hi; cases hi
      | succ N ih =>
        intro id hid i hi
        unfold chainP at hi
        split at hi
        · rcases List.mem_cons.1 hi with rfl | hi
          · exact rngI (by omega) (by omega)
          · refine ih _ ?_ i hi
            unfold parI
            cases hx : ns[id.toNat]? with
            | none => show (-1 : Int) < _; omega
            | some y => exact (hin _ y hx).1
        · cases hi
    exact this N id hid
end
end Go.Proofs
namespace Go.Proofs
open Go Go.Sh
set_option linter.unusedVariables false
set_option maxRecDepth 100000
/-! ### plain -/
def cutAt (ns : List NodeM) (i : Nat) (x : NodeM) (p : Nat) (y : NodeM) : List NodeM :=
  (ns.set p { y with kids := y.kids.eraseIdx (idxN (i : Int) y.kids) }).set i { x with parent := -1 }
def cutM (ns : List NodeM) (id : Int) : List NodeM × Bool :=
  if 0 ≤ id ∧ id < ns.length then
    match ns[id.toNat]? with
    | none => (ns, false)
    | some x => if x.parent < 0 then (ns, false) else
      match ns[x.parent.toNat]? with
      | none => (ns, false)
      | some y => (cutAt ns id.toNat x x.parent.toNat y, true)
  else (ns, false)
def holdB (ns : List NodeM) (id : Int) : Bool := decide (0 ≤ id ∧ id < ns.length) && ((ns[id.toNat]?).map fun x => decide (id = 0 ∨ x.kind = 1)).getD false
def putAt (ns : List NodeM) (p : Nat) (before : Int) (i : Nat) : List NodeM :=
  match ns[p]? with
  | none => ns
  | some y =>
    match (ns.set p { y with kids := y.kids.take (plcP y.kids before).toNat ++ (i : Int) :: y.kids.drop (plcP y.kids before).toNat })[i]? with
    | none => ns
    | some x => (ns.set p { y with kids := y.kids.take (plcP y.kids before).toNat ++ (i : Int) :: y.kids.drop (plcP y.kids before).toNat }).set i { x with parent := (p : Int) }
noncomputable def putM (ns : List NodeM) (parent before id : Int) : List NodeM × Bool :=
  if holdB ns parent = true ∧ (0 ≤ id ∧ id < ns.length) ∧ id ≠ 0 ∧ before ≠ id ∧ 0 ≤ plcP (((ns[parent.toNat]?).map (·.kids)).getD []) before ∧ withinP ns parent id = false then
    (putAt (cutM ns id).1 parent.toNat before id.toNat, true)
  else (ns, false)
theorem getI {α : Type} {l : List α} {i : Nat} {x : α} (h : l[i]? = some x) : i < l.length := (List.getElem?_eq_some_iff.1 h).1
section
variable {h : H} {K : Value → H → Prop} {col : Col} {s i : Nat} {t a : Addr} {ads : List Addr} {ns : List NodeM} {x : NodeM}
/-! ### fields that are stored -/
theorem stPar (T : TreeP h col s t ads ns) (ha : ads[i]? = some a) (hx : ns[i]? = some x) {p : Int} (hp : Rng .i64 p) {Q : H → Prop}
    (hk : ∀ h', TreeP h' col s t ads (ns.set i { x with parent := p }) → Ext s h col h' col → KX a.block h h' → Q h') : stL (a.add 6) [.int .i64 p] 0 h Q := by
  have N := T.nodes i x a hx ha
  obtain ⟨ab, an, ac, kb, kn, kc, v, ra, hz, ok, hkc⟩ := N.ex
  refine stL_var (m := 6) (i := 0) v (by show 6 + 0 + 1 ≤ 8; omega) fun h1 v1 k1 s1 => ?_
  have v1 : Var h1 a 84 (nodeC { x with parent := p } ab an ac kb kn kc) := v1
  have hal := v.lt
  refine hk h1 (T.upd ha (k1.less fun k hk e => ?_) (fun _ _ => rfl) (fun k hk => T.fresh k (by omega)) ⟨⟨ab, an, ac, kb, kn, kc, v1, ra.keep (k1.w.less fun k hk e => ?_) (fun k hk hs => ⟨hk.1, by omega⟩), hz, ok.keep k1.w fun q e e2 => ?_, hkc⟩, N.col, N.rk, N.rs, hp, N.fa, N.fn, N.ft⟩) ⟨k1.less fun k hk e => ?_, fun _ _ => rfl⟩ k1
  · rw [e] at hk; exact (hk.2 _ N.col).1 rfl
  · rw [e] at hk; have := hk.1.1; rw [N.col] at this; cases this
  · have h1 := hkc q e; rw [e2, N.col] at h1; have := (Prod.mk.inj (Option.some.inj h1)).2; omega
  · rw [e] at hk; exact hk.2 _ N.col
theorem stText (T : TreeP h col s t ads ns) (ha : ads[i]? = some a) (hx : ns[i]? = some x) {tx : Bs} (htx : tx.length ≤ maxLen) {Q : H → Prop}
    (hk : ∀ h', TreeP h' col s t ads (ns.set i { x with text := tx }) → Ext s h col h' col → Q h') : stL ((a.add 0).add 4) [S tx] 0 h Q := by
  have N := T.nodes i x a hx ha
  obtain ⟨ab, an, ac, kb, kn, kc, v, ra, hz, ok, hkc⟩ := N.ex
  rw [add_zero']
  refine stL_var (m := 4) (i := 0) v (by show 4 + 0 + 1 ≤ 8; omega) fun h1 v1 k1 s1 => ?_
  have v1 : Var h1 a 84 (nodeC { x with text := tx } ab an ac kb kn kc) := v1
  have hal := v.lt
  refine hk h1 (T.upd ha (k1.less fun k hk e => ?_) (fun _ _ => rfl) (fun k hk => T.fresh k (by omega)) ⟨⟨ab, an, ac, kb, kn, kc, v1, ra.keep (k1.w.less fun k hk e => ?_) (fun k hk hs => ⟨hk.1, by omega⟩), hz, ok.keep k1.w fun q e e2 => ?_, hkc⟩, N.col, N.rk, N.rs, N.rp, N.fa, N.fn, htx⟩) ⟨k1.less fun k hk e => ?_, fun _ _ => rfl⟩
  · rw [e] at hk; exact (hk.2 _ N.col).1 rfl
  · rw [e] at hk; have := hk.1.1; rw [N.col] at this; cases this
  · have h1 := hkc q e; rw [e2, N.col] at h1; have := (Prod.mk.inj (Option.some.inj h1)).2; omega
  · rw [e] at hk; exact hk.2 _ N.col
/-- a node's kids' row has changed; now the node says so -/
theorem stKidsG (T : TreeP h col s t ads ns) (ha : ads[i]? = some a) (hx : ns[i]? = some x) {ab kb : Option Addr} {an ac kn kc : Nat} (v : Var h a 84 (nodeC x ab an ac kb kn kc)) (ra : Row elAttr (Free col h) h ab an ac x.attrs) (hz : ab = none → ac = 0) (hkc : ∀ q, kb = some q → col q.block = some (s, 2 * i + 3))
    {h1 : H} (g : Grow h h1 kb) {b' : Option Addr} {n' c' : Nat} {l' : List Int} (o : OwnI h1 b' n' c' l') (nb : NewB h kb b') {Q : H → Prop}
    (hk : ∀ h' col', TreeP h' col' s t ads (ns.set i { x with kids := l' }) → Ext s h col h' col' → Q h') : stL (a.add 7) [.slice b' n' c'] 0 h1 Q := by
  have N := T.nodes i x a hx ha
  have hal := v.lt
  have hsz := g.size
  have hka : ∀ q, kb = some q → q.block ≠ a.block := fun q e e2 => by have h1 := hkc q e; rw [e2, N.col] at h1; have := (Prod.mk.inj (Option.some.inj h1)).2; omega
  have v0 : Var h1 a 84 (nodeC x ab an ac kb kn kc) := v.keep g.keep.w ⟨hal, hka⟩
  refine stL_var (m := 7) (i := 0) v0 (by show 7 + 0 + 1 ≤ 8; omega) fun h2 v2 k2 s2 => ?_
  have v2 : Var h2 a 84 (nodeC { x with kids := l' } ab an ac b' n' c') := v2
  have hcol : ∀ k, k < h.size → putB col h b' (s, 2 * i + 3) k = col k := fun k hk => putB_old hk
  have hba : ∀ q, b' = some q → q.block ≠ a.block := fun q e e2 => by
    rcases nb q e with h1 | h1
    · exact hka q h1 e2
    · omega
  have kk : ∀ k, k < h.size → k ≠ a.block → (∀ q, kb = some q → q.block ≠ k) → h2[k]? = h[k]? := fun k h1 h2' h3 => (k2.2 k h2').trans (g.old k h1 h3)
  have hfar : ∀ k, h2.size ≤ k → putB col h b' (s, 2 * i + 3) k = none := fun k hk => by
    rw [putB_far (h' := h1) (fun q e => o.hi q e) (by omega)]; exact T.fresh k (by omega)
  refine hk h2 (putB col h b' (s, 2 * i + 3)) (T.upd ha ⟨by omega, fun k hk => ?_⟩ hcol hfar ⟨⟨ab, an, ac, b', n', c', v2, ?_, hz, o.keep k2.w fun q e => hba q e, fun q e => ?_⟩, ?_, N.rk, N.rs, N.rp, N.fa, N.fn, N.ft⟩) ⟨⟨by omega, fun k hk => ?_⟩, hcol⟩
  · exact kk k hk.1 (fun e => (hk.2 _ (by rw [e]; exact N.col)).1 rfl) fun q e e2 => (hk.2 _ (by rw [← e2]; exact hkc q e)).2 rfl
  · refine ra.keep ⟨by omega, fun k hk o e hl => ?_⟩ fun k hk hs => ⟨by rw [hcol k hs]; exact hk.1, by omega⟩
    have hk : col k = none ∧ k < h.size := hk.1
    rw [kk k hk.2 (fun e2 => by rw [e2, N.col] at hk; cases hk.1) (fun q e2 e3 => by have := hkc q e2; rw [e3, hk.1] at this; cases this)]; exact e
  · refine putB_at e fun hlt => ?_
    rcases nb q e with h1 | h1
    · exact hkc q h1
    · omega
  · rw [hcol _ hal]; exact N.col
  · exact kk k hk.1 (fun e => hk.2 _ (by rw [e]; exact N.col)) fun q e e2 => hk.2 _ (by rw [← e2]; exact hkc q e)
/-! ### Cut -/
theorem GoodT.ne_par (G : GoodT ns) {i p : Nat} {x : NodeM} (hx : ns[i]? = some x) (hp : x.parent = (p : Int)) : i ≠ p := fun e => by
  obtain ⟨rk, hr⟩ := G.rank
  have := hr i p x hx hp
  rw [e] at this; omega
theorem plc_kid {kids : List Int} {i : Nat} (h : (i : Int) ∈ kids) : plcP kids (i : Int) = (idxN (i : Int) kids : Int) := by
  unfold plcP idxP
  rw [if_neg (by omega), if_pos h]
theorem cut_calls (T : TreeP h col s t ads ns) (G : GoodT ns) {id : Int} (hk : ∀ h' col', TreeP h' col' s t ads (cutM ns id).1 → Ext s h col h' col' → K (.bool (cutM ns id).2) h') :
    HCalls Tryz.prog 59 ⟨[.pointer (some t), .int .i64 id]⟩ h K := by
  have hlen := T.len
  refine Sx.dom_Tree_Cut.ok _ _ _ _ (at_calls T (fun hn => vPtrMk (ptrEq_k (by kernel_rfl) (vBool_mk (condT ?_)))) fun i a x e hx ha => vPtrMk (ptrEq_k (by kernel_rfl) (vBool_mk (condF ?_))))
  · have : cutM ns id = (ns, false) := by unfold cutM; rw [if_neg hn]
    rw [this] at hk
    exact hk h col T (Ext.refl _ _ _)
  · subst e
    have hlt := getI hx
    have N := T.nodes i x a hx ha
    obtain ⟨ab, an, ac, kb, kn, kc, v, ra, hz, ok, hkc⟩ := N.ex
    have ec : cutM ns (i : Int) = if x.parent < 0 then (ns, false) else match ns[x.parent.toNat]? with | none => (ns, false) | some y => (cutAt ns i x x.parent.toNat y, true) := by
      unfold cutM
      rw [if_pos (by omega), Int.toNat_natCast, hx]
    refine vSomeMk ⟨_, v.cell 6 rfl, spl (fun e => ?_) fun e => ?_⟩
    · rw [ec, if_pos e] at hk
      exact hk h col T (Ext.refl _ _ _)
    · rcases G.par i x hx with h1 | ⟨h1, h2⟩
      · omega
      obtain ⟨p, hp⟩ := Int.eq_ofNat_of_zero_le h1
      have hp : x.parent = (p : Int) := hp
      have hpl : p < ns.length := by omega
      have hy : ns[p]? = some ns[p] := List.getElem?_eq_getElem hpl
      rw [ec, if_neg e, hp, Int.toNat_natCast, hy] at hk
      obtain ⟨lb, lc, vt, o, hl⟩ := T.ex
      have hne := G.ne_par hx hp
      have hmem : (i : Int) ∈ ns[p].kids := (G.kid p _ _ hy).2 ⟨i, x, rfl, hx, hp⟩
      have hil := idxN_lt hmem
      refine vSomeMk ⟨_, _, _, vt.cell 0 rfl, vSomeMk ⟨_, v.cell 6 rfl, ?_⟩⟩
      rw [hp]
      have hap : ads[p]? = some (ads[p]'(by omega)) := List.getElem?_eq_getElem (by omega)
      generalize ads[p]'(by omega) = ap at hap
      have Np := T.nodes p _ ap hy hap
      obtain ⟨ab2, an2, ac2, kb2, kn2, kc2, v2, ra2, hz2, ok2, hkc2⟩ := Np.ex
      have hkl := ok2.len
      refine o.row.idxN (i := p) (by omega) rfl fun q hA => ldPtr hA ?_
      have eap : ads[p]'(by omega) = ap := by rw [List.getElem?_eq_getElem (by omega)] at hap; exact Option.some.inj hap
      rw [eap]
      refine index_calls Np (vIntMk (vSomeMk ⟨_, _, _, v2.cell 7 rfl, ?_⟩))
      rw [plc_kid hmem]
      have ei : ((idxN (i : Int) ns[p].kids : Int) + 1) = ((idxN (i : Int) ns[p].kids + 1 : Nat) : Int) := by omega
      have hmx := ok2.own.max
      have hcp := ok2.own.cap
      simp only [maxLen] at hmx
      rw [ei]
      refine ⟨rngI (by omega) (by omega), delI_calls ok2 (by omega) fun h3 o3 g3 => vSliceMk (vSomeMk (stKidsG T hap hy v2 ra2 hz2 hkc2 g3 o3 (fun q e => .inl e) fun h4 col4 T4 E4 => vSomeMk ?_))⟩
      refine stPar T4 ha (by rw [List.getElem?_set_ne (Ne.symm hne)]; exact hx) ⟨by decide, by decide⟩ fun h5 T5 E5 _ => hk h5 col4 T5 (E4.trans E5)
end
end Go.Proofs
