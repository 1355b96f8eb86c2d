/- place: a World in memory; Current, grid, Where, Close. No condition but that the library's variable holds a number. -/
import Derived.Test.YtmnjhhgdhlgjfaaGreatPcA
import Derived.Test.YtmnjhhgdhlgjfaaGreatTxA
import Derived.Test.YtmnjhhgdhlgjfaaGreatHmI
namespace Go.Proofs
open Go Go.Sh
set_option linter.unusedVariables false
set_option maxRecDepth 100000
/-! ### plain -/
abbrev noOpen : OpenP := (0, 0, [], 0)
structure WM where
  ns : List NodeM
  op : List OpenP
  mks : List MarkP
  fo : Bool
  hi : Int
def wTab : List Bs := [[116, 97, 98, 108, 101]]
def wGrid : List Bs := [[116, 97, 98, 108, 101], [116, 98, 111, 100, 121], [116, 102, 111, 111, 116], [116, 104, 101, 97, 100], [116, 114]]
def gridB (x : OpenP) : Bool := inNames wGrid x.2.2.1 && decide (x.2.1 = 0)
def parentM (ns : List NodeM) (id : Int) : Int := if 0 ≤ id then ((ns[id.toNat]?).map (·.parent)).getD (-1) else -1
def whereM (ns : List NodeM) (op : List OpenP) (fo : Bool) (x : OpenP) : Int × Int :=
  if fo && gridB x then
    if untilP op wTab < 0 then (0, -1)
    else if 0 ≤ parentM ns (op.getD (untilP op wTab).toNat noOpen).1 then (parentM ns (op.getD (untilP op wTab).toNat noOpen).1, (op.getD (untilP op wTab).toNat noOpen).1)
    else ((op.getD ((untilP op wTab).toNat - 1) noOpen).1, -1)
  else (x.1, -1)
def curM (op : List OpenP) : OpenP := op.getD (op.length - 1) noOpen
/-! ### memory -/
structure WorldW (h : H) (col : Col) (s ty : Nat) (w t : Addr) (op : List OpenP) (mk : List MarkP) (fo : Bool) (hi : Int) : Prop where
  ex : ∃ ob oc mb mn mc, Var h w ty [.pointer (some t), .slice ob op.length oc, .slice mb mn mc, .bool fo, .int .i64 hi] ∧ OwnC elOpen h col (s, 1) 36 ob op.length oc op ∧ OwnC elMark h col (s, 2) 39 mb mn mc mk
  col : col w.block = some (s, 0)
  rh : Rng .i64 hi
variable {S : Nat → Prop}
theorem ExtP.grow {h h' : H} {col : Col} {b b' : Option Addr} {s p : Nat} {v : Nat × Nat} (g : Grow h h' b) (hc : ∀ q, b = some q → col q.block = some (s, p)) (hS : S s) : ExtP S h col h' (putB col h b' v) :=
  ⟨⟨g.size, fun k hk => g.old k hk.1 fun a ea e2 => hk.2 s p hS (by rw [← e2]; exact hc a ea)⟩, fun k hk => putB_old hk⟩
theorem ExtP.kx {h h' : H} {col : Col} {g s p : Nat} (k : KX g h h') (hc : col g = some (s, p)) (hS : S s) : ExtP S h col h' col :=
  ⟨k.less fun q hq e => hq.2 s p hS (by rw [e]; exact hc), fun _ _ => rfl⟩
theorem ExtP.mono {S' : Nat → Prop} {h h' : H} {col col' : Col} (e : ExtP S h col h' col') (hS : ∀ s, S s → S' s) : ExtP S' h col h' col' :=
  ⟨e.sk.less fun k hk => ⟨hk.1, fun s p hs => hk.2 s p (hS s hs)⟩, e.cl⟩
section
variable {h h' : H} {col col' : Col} {s ty : Nat} {w t : Addr} {op : List OpenP} {mk : List MarkP} {fo : Bool} {hi : Int}
theorem WorldW.ext (W : WorldW h col s ty w t op mk fo hi) (e : ExtP S h col h' col') (hs : ¬ S s) : WorldW h' col' s ty w t op mk fo hi := by
  obtain ⟨ob, oc, mb, mn, mc, v, o, om⟩ := W.ex
  refine ⟨⟨ob, oc, mb, mn, mc, v.keep e.sk.w ⟨v.lt, fun s' p hs' e2 => ?_⟩, o.ext e hs, om.ext e hs⟩, by rw [e.cl _ v.lt]; exact W.col, W.rh⟩
  rw [W.col] at e2; cases e2; exact hs hs'
theorem WorldW.kb (W : WorldW h col s ty w t op mk fo hi) (k : KB h h') : WorldW h' col s ty w t op mk fo hi := W.ext (S := fun _ => False) (.kb k) id
theorem WorldW.openW (W : WorldW h col s ty w t op mk fo hi) : ∀ x ∈ op, OpenW x := fun x hx => by
  obtain ⟨ob, oc, mb, mn, mc, v, o, om⟩ := W.ex
  obtain ⟨i, hi, rfl⟩ := List.mem_iff_getElem.1 hx
  obtain ⟨a, _, hA⟩ := o.row.at' i op[i] (List.getElem?_eq_getElem hi)
  exact atOpen hA
end
section
variable {h : H} {K : Value → H → Prop} {col : Col} {s s0 : Nat} {w t : Addr} {ads : List Addr} {ns : List NodeM} {op : List OpenP} {mk : List MarkP} {fo : Bool} {hi : Int} {x : OpenP}
theorem parentM_calls (T : TreeP h col s t ads ns) {id : Int} (hk : K (.int .i64 (parentM ns id)) h) : HCalls Tryz.prog 55 ⟨[.pointer (some t), .int .i64 id]⟩ h K := by
  refine parent_calls T (fun hno => ?_) fun i x e hx => ?_
  · have : parentM ns id = -1 := by
      unfold parentM
      by_cases h0 : 0 ≤ id
      · rw [if_pos h0, List.getElem?_eq_none (by omega)]; rfl
      · rw [if_neg h0]
    rwa [this] at hk
  · have : parentM ns id = x.parent := by
      unfold parentM
      rw [if_pos (by omega), e, Int.toNat_natCast, hx]; rfl
    rwa [this] at hk
theorem current_calls (W : WorldW h col s 48 w t op mk fo hi) (hne : 0 < op.length) (hl : op.length ≤ 1000000) (hk : ∀ h', KB h h' → K (.agg ⟨cellsO (curM op)⟩) h') :
    HCalls Tryz.prog 25 ⟨[.pointer (some w)]⟩ h K := by
  obtain ⟨ob, oc, mb, mn, mc, v, o, om⟩ := W.ex
  have e : ((op.length : Int) - 1) = ((op.length - 1 : Nat) : Int) := by omega
  refine Sx.place_World_Current.ok _ _ _ (newx_var fun a1 h1 v1 k1 e1 s1 => vSomeMk ⟨_, _, _, (v.kb k1).cell 1 rfl, vSomeMk ⟨_, _, _, (v.kb k1).cell 1 rfl, rng64 (by omega) (by omega), ?_⟩⟩)
  rw [e]
  have hx : op[op.length - 1]'(by omega) = curM op := (getD_get (by omega)).symm
  exact (o.kb k1).row.idxN (i := op.length - 1) (by omega) rfl fun q hA => ldOpen hA fun ow => stL_var0 v1 (by show 4 ≤ 4; omega) fun h2 v2 k2 s2 => ldVar (m := op[op.length - 1]'(by omega)) v2 (by rw [hx]; exact hk h2 (KB.step k1 k2 (by omega)))
theorem grid_calls (hk : ∀ h', KB h h' → K (.bool (gridB x)) h') : HCalls Tryz.prog 53 ⟨[.agg ⟨cellsO x⟩]⟩ h K := by
  refine Sx.place_grid.ok _ _ _ _ _ _ (newx_var fun a h1 v1 k1 e1 s1 => ⟨_, v1.cell 2 rfl, ?_⟩)
  have Y : x.2.2.1 ∈ wGrid → ∃ i62, cell h1 (a.add 1) = some (.int .u8 i62) ∧ (Spl (i62 = (0 : Int)) (K (.bool true) h1) (K (.bool false) h1)) := fun hm => by
    refine ⟨_, v1.cell 1 rfl, splK (K := fun b => K (.bool b) h1) ?_⟩
    have := hk h1 k1
    unfold gridB inNames at this
    rwa [decide_eq_true hm, Bool.true_and] at this
  refine spl (fun e => condT (condT (Y (by rw [e]; decide)))) fun e1 => condF (spl (fun e => condT (Y (by rw [e]; decide))) fun e2 => spl (fun e => condT (Y (by rw [e]; decide))) fun e3 => spl (fun e => condT (Y (by rw [e]; decide))) fun e4 =>
    spl (fun e => condT (Y (by rw [e]; decide))) fun e5 => condF ?_)
  have hno : ¬ x.2.2.1 ∈ wGrid := fun hm => by
    simp only [wGrid, List.mem_cons, List.not_mem_nil, or_false] at hm
    rcases hm with h | h | h | h | h
    · exact e1 h
    · exact e2 h
    · exact e3 h
    · exact e4 h
    · exact e5 h
  have := hk h1 k1
  unfold gridB inNames at this
  rwa [decide_eq_false hno, Bool.false_and] at this
theorem tupIIMk {ka kb : IntKind} {a c : Int} {k : Int → Int → Prop} (h : k a c) : vTup (.tuple ⟨[.int ka a, .int kb c]⟩) fun l => uncons l fun e l => vInt ka e fun s => uncons l fun e l => vInt kb e fun i => unnil l (k s i) := tupII h
theorem where_calls (T : TreeP h col s0 t ads ns) (W : WorldW h col s 48 w t op mk fo hi) (hl : op.length ≤ 1000000) (hk : ∀ h', KB h h' → K (.tuple ⟨[.int .i64 (whereM ns op fo x).1, .int .i64 (whereM ns op fo x).2]⟩) h') :
    HCalls Tryz.prog 28 ⟨[.pointer (some w), .agg ⟨cellsO x⟩]⟩ h K := by
  obtain ⟨ob, oc, mb, mn, mc, v, o, om⟩ := W.ex
  refine Sx.place_World_Where.ok _ _ _ _ _ _ _ (newx_var fun a1 h1 v1 k1 e1 s1 => vSomeMk ⟨_, (v.kb k1).cell 3 rfl, condB (fun ef => ?_) fun ef => ?_⟩)
  · refine ldVar (m := x) v1 (grid_calls fun h2 k2 => vBool_mk (condB (fun eg => ?_) fun eg => ?_))
    · have k12 := k1.trans k2
      refine vSomeMk ⟨_, _, _, (v.kb k12).cell 1 rfl, newx_var fun a3 h3 v3 k3 e3 s3 => ?_⟩
      have k13 := k12.trans k3
      have o3 := (o.kb k13).row
      refine openUntil_calls (fun k hk => hk) o3 (rowLit (ws := wTab) v3 (by decide) (by decide)) fun h4 k4 => vIntMk ?_
      have k14 := k13.trans k4
      have v4 := v.kb k14
      have o4 := (o.kb k14).row
      have hr := until_range wTab op op.length
      have hru : -1 ≤ untilP op wTab ∧ untilP op wTab < (op.length : Int) := hr
      refine spl (fun hneg => ?_) fun hpos => ?_
      · have hw : whereM ns op fo x = (0, -1) := by unfold whereM; rw [ef, eg, if_pos (by rfl), if_pos hneg]
        have := hk h4 k14
        rwa [hw] at this
      · have hkn : (untilP op wTab).toNat < op.length := by omega
        refine vSomeMk ⟨_, _, _, v4.cell 1 rfl, o4.idx (i := untilP op wTab) (by omega) (by omega) rfl fun q hi hA => ⟨_, hA.fst.int.1, vSomeMk ⟨_, v4.cell 0 rfl, ?_⟩⟩⟩
        have hg : op[(untilP op wTab).toNat] = op.getD (untilP op wTab).toNat noOpen := (getD_get hkn).symm
        rw [hg]
        refine parentM_calls (T.kb k14) (vIntMk (spl (fun hp => ?_) fun hp => ?_))
        · have hw : whereM ns op fo x = (parentM ns (op.getD (untilP op wTab).toNat noOpen).1, (op.getD (untilP op wTab).toNat noOpen).1) := by unfold whereM; rw [ef, eg, if_pos (by rfl), if_neg hpos, if_pos hp]
          have := hk h4 k14
          rwa [hw] at this
        · have e : ((if (1 : Int) > untilP op wTab then (1 : Int) else untilP op wTab) - 1) = (((untilP op wTab).toNat - 1 : Nat) : Int) := by split <;> omega
          rw [e]
          refine vSomeMk ⟨_, _, _, v4.cell 1 rfl, rng64 (by omega) (by omega), o4.idxN (i := (untilP op wTab).toNat - 1) (by omega) rfl fun q hA => ⟨_, hA.fst.int.1, ?_⟩⟩
          have hw : whereM ns op fo x = ((op.getD ((untilP op wTab).toNat - 1) noOpen).1, -1) := by unfold whereM; rw [ef, eg, if_pos (by rfl), if_neg hpos, if_neg hp]
          have := hk h4 k14
          rw [hw, getD_get (by omega)] at this
          exact this
    · refine ⟨_, (v1.kb k2).cell 0 rfl, ?_⟩
      have hw : whereM ns op fo x = (x.1, -1) := by unfold whereM; rw [eg, Bool.and_false]; rfl
      have := hk h2 (k1.trans k2)
      rwa [hw] at this
  · refine ⟨_, v1.cell 0 rfl, ?_⟩
    have hw : whereM ns op fo x = (x.1, -1) := by unfold whereM; rw [ef, Bool.false_and]; rfl
    have := hk h1 k1
    rwa [hw] at this
/-! ### Close -/
def closeO (op : List OpenP) (n : Int) : List OpenP := if 1 ≤ n ∧ n < op.length then op.take n.toNat else op
theorem closeK {ty : Nat} (W : WorldW h col s ty w t op mk fo hi) {n : Int} (hf : Fresh h col) (h1 : 1 ≤ n) (h2 : n < op.length) {ob : Option Addr} {oc : Nat} {mb : Option Addr} {mn mc : Nat} (v : Var h w ty [.pointer (some t), .slice ob op.length oc, .slice mb mn mc, .bool fo, .int .i64 hi]) {Q : H → Prop}
    (hk : ∀ h', WorldW h' col s ty w t (closeO op n) mk fo hi → ExtP (fun k => k = s) h col h' col → Fresh h' col → Q h') :
    stL (w.add 1) [(.slice (if oc = Int.toNat (0 : Int) then ob else Option.map (fun q => q.add (Int.toNat (0 : Int) * 4)) ob) (Int.toNat n - Int.toNat (0 : Int)) (oc - Int.toNat (0 : Int)))] 0 h Q := by
  obtain ⟨ob2, oc2, mb2, mn2, mc2, v2, o, om⟩ := W.ex
  have ec : some (Value.slice ob op.length oc) = some (.slice ob2 op.length oc2) := (v.cell 1 rfl).symm.trans (v2.cell 1 rfl)
  have em : some (Value.slice mb mn mc) = some (.slice mb2 mn2 mc2) := (v.cell 2 rfl).symm.trans (v2.cell 2 rfl)
  cases ec
  cases em
  refine stL_var (m := 1) (i := 0) v (by show 1 + 0 + 1 ≤ 5; omega) fun h3 v3 k3 s3 => ?_
  have E : ExtP (fun k => k = s) h col h3 col := ExtP.kx k3 W.col rfl
  have eb : (if oc = Int.toNat (0 : Int) then ob else Option.map (fun q => q.add (Int.toNat (0 : Int) * 4)) ob) = ob := by
    split
    · rfl
    · cases ob with
      | none => rfl
      | some q => rfl
  have hlen : (op.take n.toNat).length = n.toNat - Int.toNat (0 : Int) := by rw [List.length_take]; show _ = n.toNat - 0; omega
  refine hk h3 ?_ E (fun k hk => hf k (by omega))
  have hc : closeO op n = op.take n.toNat := by unfold closeO; rw [if_pos ⟨h1, h2⟩]
  rw [hc]
  have hne : ∀ g p, col g = some (s, p) → p ≠ 0 → g ≠ w.block := fun g p e hp e2 => by rw [e2, W.col] at e; cases e; exact hp rfl
  have ok := (o.take (m := n.toNat) (by omega)).keep (h' := h3) (col' := col) k3.w (fun _ _ => rfl) fun k hk hc => by
    rcases hc with hc | hc
    · intro e; rw [e, W.col] at hc; cases hc
    · exact hne k 1 hc (by decide)
  have omk := om.keep (h' := h3) (col' := col) k3.w (fun _ _ => rfl) fun k hk hc => by
    rcases hc with hc | hc
    · intro e; rw [e, W.col] at hc; cases hc
    · exact hne k 2 hc (by decide)
  refine ⟨⟨ob, oc, mb, mn, mc, ?_, ?_, omk⟩, W.col, W.rh⟩
  · rw [hlen]
    have v3' := v3
    rw [eb] at v3'
    exact v3'
  · rw [hlen]; exact ok
theorem close_calls (W : WorldW h col s 48 w t op mk fo hi) {n : Int} (hf : Fresh h col)
    (hk : ∀ h', WorldW h' col s 48 w t (closeO op n) mk fo hi → ExtP (fun k => k = s) h col h' col → Fresh h' col → K (.tuple ⟨[]⟩) h') :
    HCalls Tryz.prog 16 ⟨[.pointer (some w), .int .i64 n]⟩ h K := by
  obtain ⟨ob, oc, mb, mn, mc, v, o, om⟩ := W.ex
  have hno : ¬ (1 ≤ n ∧ n < op.length) → K (.tuple ⟨[]⟩) h := fun hn => hk h (by unfold closeO; rw [if_neg hn]; exact W) (.refl _ _ _) hf
  refine Sx.place_World_Close.ok _ _ _ _ (spl (fun h1 => vSomeMk ⟨_, _, _, v.cell 1 rfl, spl (fun h2 => ?_) fun h2 => condF (hno fun hn => h2 hn.2)⟩) fun h1 => condF (hno fun hn => h1 hn.1))
  have hcap := o.own.cap
  exact condT (vSomeMk ⟨_, _, _, v.cell 1 rfl, ⟨by omega, by omega, by omega⟩, vSomeMk (closeK W hf h1 h2 v hk)⟩)
end
end Go.Proofs
