/- place: New, Insert, Write. No condition but that the tree is one and the library's variable holds a number. -/
import Derived.Test.YtmnjhhgdhlgjfaaGreatPcC
namespace Go.Proofs
open Go Go.Sh
set_option linter.unusedVariables false
set_option maxRecDepth 100000
def wHtml : Bs := [104, 116, 109, 108]
def wm0 : WM := ⟨[rootM], [(0, 0, wHtml, 0)], [], false, 1⟩
def whereC (m : WM) : Int × Int := whereM m.ns m.op m.fo (curM m.op)
noncomputable def insertM (m : WM) (sp : Int) (nm : Bs) (attrs : List AttrP) : WM :=
  { m with ns := (putM (addM m.ns (bareM 1 sp nm attrs [])).1 (whereC m).1 (whereC m).2 m.ns.length).1, op := m.op ++ [((m.ns.length : Int), sp, nm, pointM sp nm attrs)],
           hi := if ((m.op.length + 1 : Nat) : Int) > m.hi then ((m.op.length + 1 : Nat) : Int) else m.hi }
noncomputable def writeW (m : WM) (tx : Bs) : WM := { m with ns := (writeM m.ns (whereC m).1 (whereC m).2 tx).1 }
def closeW (m : WM) (n : Int) : WM := { m with op := closeO m.op n }
/-- the colours of the program's World: its tree's, its own -/
def PS (s : Nat) : Prop := s = 0 ∨ s = 2
/-- a World of the program's -/
structure PW (h : H) (col : Col) (w : Addr) (m : WM) : Prop where
  ex : ∃ t ads, TreeP h col 0 t ads m.ns ∧ WorldW h col 2 48 w t m.op m.mks m.fo m.hi
section
variable {Z : Nat → Prop} {h h' : H} {K : Value → H → Prop} {col col' : Col} {w : Addr} {m : WM}
theorem PW.fresh (p : PW h col w m) : Fresh h col := by obtain ⟨t, ads, T, W⟩ := p.ex; exact T.fresh
theorem PW.ext (p : PW h col w m) (e : ExtP Z h col h' col') (h0 : ¬ Z 0) (h2 : ¬ Z 2) (f : Fresh h' col') : PW h' col' w m := by
  obtain ⟨t, ads, T, W⟩ := p.ex
  exact ⟨t, ads, T.otherP h0 e f, W.ext e h2⟩
theorem PW.kb (p : PW h col w m) (k : KB h h') : PW h' col w m := p.ext (Z := fun _ => False) (.kb k) id id (p.fresh.kb k)
theorem PW.few (p : PW h col w m) : m.ns.length ≤ 1000000 := by obtain ⟨t, ads, T, W⟩ := p.ex; exact T.few
theorem openR {A : Nat → Prop} {h : H} {x : OpenP} (w : OpenW x) : elOpen.R A h x (cellsO x) := w.r
theorem flatOpen : Flat elOpen := fun A A' h h' x cs hR => by
  obtain ⟨c1, c2, e, r1, d1, d2, e2, r2, f1, f2, e3, r3, r4⟩ := hR
  exact ⟨c1, c2, e, r1, d1, d2, e2, r2, f1, f2, e3, r3, r4⟩
theorem placeNew_calls (f : Fresh h col) (hk : ∀ w h' col', PW h' col' w wm0 → ExtP PS h col h' col' → K (.pointer (some w)) h') : HCalls Tryz.prog 6 ⟨[]⟩ h K := by
  refine Sx.place_New.ok _ _ (new_calls (s := 0) f fun t h1 c1 ads T1 E1 => vPtrMk (newx_var fun a2 h2 v2 k2 e2 s2 => newx_var fun a3 h3 v3 k3 e3 s3 => ?_))
  have ow : OpenW (0, 0, wHtml, 0) := ⟨⟨by decide, by decide⟩, ⟨by decide, by decide⟩, by decide, ⟨by decide, by decide⟩⟩
  have o2 := v2.ownF1 (E := elOpen) (x := (0, 0, wHtml, 0)) fun A => ow.r
  have f1 : Fresh h1 c1 := T1.fresh
  have f3 := (f1.kb k2).kb k3
  have h3s : h3.size = h1.size + 2 := by omega
  have hc : ∀ k, k < h1.size → paint (paint c1 a2.block (2, 1)) a3.block (2, 0) k = c1 k := fun k hk => by rw [paint_ne (by omega), paint_ne (by omega)]
  have ff : Fresh h3 (paint (paint c1 a2.block (2, 1)) a3.block (2, 0)) := (f3.paint (by omega)).paint (by omega)
  refine hk a3 h3 (paint (paint c1 a2.block (2, 1)) a3.block (2, 0)) ⟨t, ads, T1.keep (k2.trans k3).w hc ff fun k hk _ => hk, ⟨⟨some a2, 1, none, 0, 0, v3, ?_, OwnC.none⟩, paint_at, ⟨by decide, by decide⟩⟩⟩ ?_
  · refine ⟨((o2.kb k3).own.flat flatOpen).lower (Nat.le_refl _), fun q e => ?_, fun q e => ?_, fun e => by cases e⟩
    · cases e; rw [paint_ne (by omega)]; exact paint_at
    · cases e; omega
  · exact (E1.p (.inl rfl)).trans ⟨(k2.trans k3).less fun k hk => hk.1, hc⟩
/-- an element that is told, taken apart -/
theorem agOpen {x : OpenP} {k : Int → Int → Bs → Int → Prop} (h : k x.1 x.2.1 x.2.2.1 x.2.2.2) :
    vAgg (.agg ⟨cellsO x⟩) fun l => uncons l fun e l => vInt .i64 e fun i => uncons l fun e l => vInt .u8 e fun j => uncons l fun e l => vStr e fun s => uncons l fun e l => vInt .u8 e fun p => unnil l (k i j s p) := h
theorem apdOpenC : Apd Tryz.prog elOpen 43 36 40 := apdOpen
/-- an element is open now -/
theorem pushOpen_k {s wt : Nat} {t : Addr} {op : List OpenP} {mk : List MarkP} {fo : Bool} {hi : Int} (W : WorldW h col s wt w t op mk fo hi) (hf : Fresh h col) (hl : op.length < 1000000) {x : OpenP} (hx : OpenW x)
    {ob : Option Addr} {on oc : Nat} {mb : Option Addr} {mn mc : Nat} (v : Var h w wt [.pointer (some t), .slice ob on oc, .slice mb mn mc, .bool fo, .int .i64 hi])
    {a : Addr} {ty : Nat} (va : Var h a ty (cellsO x)) (hca : col a.block = none) {Q : H → Prop}
    (hk : ∀ h' col', WorldW h' col' s wt w t (op ++ [x]) mk fo (if ((op.length + 1 : Nat) : Int) > hi then ((op.length + 1 : Nat) : Int) else hi) → ExtP (fun k => k = s) h col h' col' → Fresh h' col' → cell h' (w.add 2) = some (.slice mb mn mc) → Q h') :
    SemH Tryz.prog (Builtin.append_ #[43, 43] 43 ⟨[.slice ob on oc, .slice (some a) 1 1]⟩) h fun v143 h144 => vSlice v143 fun s145b s145n s145c => vSome (some w) fun a146 => stL (a146.add 1) [(.slice s145b s145n s145c)] 0 h144 fun h147 => vSome (some w) fun a148 => ∃ i149, cell h147 (a148.add 4) = some (.int .i64 i149) ∧ (vSome (some w) fun a150 => ∃ s151b s151n s151c, cell h147 (a150.add 1) = some (.slice s151b s151n s151c) ∧ (vSome (some w) fun a152 => stL (a152.add 4) [(.int .i64 (if (s151n : Int) > i149 then (s151n : Int) else i149))] 0 h147 fun h153 => Q h153)) := by
  obtain ⟨ob2, oc2, mb2, mn2, mc2, v2, o, om⟩ := W.ex
  have ec : some (Value.slice ob on oc) = some (.slice ob2 op.length oc2) := (v.cell 1 rfl).symm.trans (v2.cell 1 rfl)
  have em : some (Value.slice mb mn mc) = some (.slice mb2 mn2 mc2) := (v.cell 2 rfl).symm.trans (v2.cell 2 rfl)
  cases ec
  cases em
  have r1 : Row elOpen (Free col h) h (some a) 1 1 [x] := va.row1 hx.r ⟨hca, va.lt⟩
  refine o.append apdOpenC r1 (by simp only [maxLen]; omega) (by omega) hf fun b' c' h1 o1 g1 nb f1 => vSliceMk ?_
  have hbw : ∀ q, ob = some q → q.block ≠ w.block := fun q e e2 => by have := o.col q e; rw [e2, W.col] at this; cases this
  have vk : Var h1 w wt [.pointer (some t), .slice ob op.length oc, .slice mb mn mc, .bool fo, .int .i64 hi] := v.keep g1.keep.w ⟨v.lt, fun q e => hbw q e⟩
  have E1 : ExtP (fun k => k = s) h col h1 (putB col h b' (s, 1)) := ExtP.grow g1 o.col rfl
  have hcw : putB col h b' (s, 1) w.block = some (s, 0) := by rw [putB_old v.lt]; exact W.col
  refine vSomeMk (stL_var (m := 1) (i := 0) vk (by show 1 + 0 + 1 ≤ 5; omega) fun h2 v2 k2 s2 => vSomeMk ⟨_, v2.cell 4 rfl, vSomeMk ⟨_, _, _, v2.cell 1 rfl, vSomeMk (stL_var (m := 4) (i := 0) v2 (by show 4 + 0 + 1 ≤ 5; omega) fun h3 v3 k3 s3 => ?_)⟩⟩)
  have k23 : KX w.block h1 h3 := k2.trans k3
  have E3 : ExtP (fun k => k = s) h1 (putB col h b' (s, 1)) h3 (putB col h b' (s, 1)) := ExtP.kx k23 hcw rfl
  have hne : ∀ k, k < h1.size → (putB col h b' (s, 1) k = none ∨ ∃ p, p ≠ 0 ∧ putB col h b' (s, 1) k = some (s, p)) → k ≠ w.block := fun k hk hc e => by
    subst e
    rcases hc with hc | ⟨p, hp, hc⟩
    · rw [hcw] at hc; cases hc
    · rw [hcw] at hc; cases hc; exact hp rfl
  have o3 := o1.keep (h' := h3) (col' := putB col h b' (s, 1)) k23.w (fun _ _ => rfl) fun k hk hc => hne k hk (hc.imp id fun h => ⟨1, by decide, h⟩)
  have om1 : OwnC elMark h1 (putB col h b' (s, 1)) (s, 2) 39 mb mn mc mk := om.keep g1.keep.w E1.cl fun k hk hc => ⟨hk, fun q e e2 => by
    have h5 := o.col q e
    rw [e2] at h5
    rcases hc with hc | hc
    · rw [h5] at hc; cases hc
    · rw [h5] at hc; cases hc⟩
  have om3 := om1.keep (h' := h3) (col' := putB col h b' (s, 1)) k23.w (fun _ _ => rfl) fun k hk hc => hne k hk (hc.imp id fun h => ⟨2, by decide, h⟩)
  have hrh := W.rh
  have hlen : (op ++ [x]).length = op.length + 1 := by simp
  refine hk h3 _ ⟨⟨b', c', mb, mn, mc, ?_, ?_, om3⟩, hcw, ?_⟩ (E1.trans E3) (fun k hk => f1 k (by rw [← s2, ← s3]; exact hk)) (v3.cell 2 rfl)
  · rw [hlen]; exact v3
  · rw [hlen]; exact o3
  · split
    · exact rng64 (by omega) (by omega)
    · exact hrh
theorem insert_callsM (L : Lib0 h col) (p : PW h col w m) (G : GoodT m.ns) (hne : 0 < m.op.length) (hop : m.op.length < 1000000) (hns : m.ns.length < 1000000) {ab : Option Addr} {an ac : Nat} {attrs : List AttrP} {sp tk : Int} {nm tx : Bs} {cl : Bool}
    (r : Row elAttr (Free col h) h ab an ac attrs) (hz : ab = none → ac = 0) (han : an ≤ 1000000) (hv : AttrsW attrs) (hsp : Rng .u8 sp) (htk : Rng .u8 tk) (hnm : nm.length ≤ 1000000000)
    (hk : ∀ h' col', PW h' col' w (insertM m sp nm attrs) → ExtP PS h col h' col' → (∀ v, cell h (w.add 2) = some v → cell h' (w.add 2) = some v) → K (.int .i64 m.ns.length) h') :
    HCalls Tryz.prog 8 ⟨[.pointer (some w), .int .u8 sp, .agg ⟨[.int .u8 tk, S nm, .slice ab an ac, .bool cl, S tx]⟩]⟩ h K := by
  obtain ⟨t, ads, T, W⟩ := p.ex
  have hxn : nm.length ≤ maxLen := by simp only [maxLen]; omega
  refine Sx.place_World_Insert.ok _ _ _ _ _ _ _ _ _ _ _ (newx_var fun a1 h1 v1 k1 e1 s1 => ?_)
  refine current_calls (W.kb k1) hne (by omega) fun h2 k2 => ?_
  refine agOpen (x := curM m.op) ?_
  refine where_calls (x := curM m.op) (T.kb (k1.trans k2)) (W.kb (k1.trans k2)) (by omega) fun h3 k3 => tupIIMk ?_
  have k13 := (k1.trans k2).trans k3
  obtain ⟨ob, oc, mb, mn, mc, vw, ow, omw⟩ := (W.kb k13).ex
  have v3 := v1.kb (k2.trans k3)
  refine vSomeMk ⟨_, vw.cell 0 rfl, _, v3.cell 1 rfl, _, _, _, v3.cell 2 rfl, ?_⟩
  refine make_calls (T.kb k13) (r.kb k13) hz han ⟨by decide, by decide⟩ hsp hxn (by decide) hns fun h4 c4 ads4 T4 E4 => vIntMk ?_
  have E4p : ExtP (fun s => s = 0) h3 col h4 c4 := E4.p rfl
  have W4 := (W.kb k13).ext E4p (by decide)
  obtain ⟨ob4, oc4, mb4, mn4, mc4, vw4, ow4, omw4⟩ := W4.ex
  have G4 : GoodT (addM m.ns (bareM 1 sp nm attrs [])).1 := G.addM _ _ _ _ _
  refine vSomeMk ⟨_, vw4.cell 0 rfl, ?_⟩
  refine put_calls T4 G4 fun h5 c5 T5 E5 => vBool_mk ?_
  have E5p : ExtP (fun s => s = 0) h4 c4 h5 c5 := E5.p rfl
  have E35 := E4p.trans E5p
  have W5 := W4.ext E5p (by decide)
  obtain ⟨ob5, oc5, mb5, mn5, mc5, vw5, ow5, omw5⟩ := W5.ex
  have f3 : Fresh h3 col := p.fresh.kb k13
  have hca : col a1.block = none := p.fresh _ (by omega)
  have v5 : Var h5 a1 31 [.int .u8 tk, S nm, .slice ab an ac, .bool cl, S tx] := v3.keep E35.keepF ⟨hca, v3.lt⟩
  have r5 : Row elAttr (Free c5 h5) h5 ab an ac attrs := E35.row ((r.kb k13).keep (Keep.refl (fun _ => True) _ |>.less fun _ _ => trivial) fun k hk _ => Free.kb k13 hk)
  have L5 : Lib0 h5 c5 := (L.kb k13).ext E35
  have hw : (whereM m.ns m.op m.fo (curM m.op)) = whereC m := rfl
  have e2 : (addM m.ns (bareM 1 sp nm attrs [])).2 = (m.ns.length : Int) := rfl
  have tail : Sx.place_World_Insert.n5 (some w) sp a1 (addM m.ns (bareM 1 sp nm attrs [])).2 (fun y6 h => K (.int .i64 y6) h) (fun y6 h => K (.int .i64 y6) h) h5 := by
    refine vSomeMk ⟨_, _, _, vw5.cell 1 rfl, _, v5.cell 1 rfl, _, v5.cell 0 rfl, _, v5.cell 1 rfl, _, _, _, v5.cell 2 rfl, _, v5.cell 3 rfl, _, v5.cell 4 rfl, ?_⟩
    refine point_calls L5.ml r5 hv hnm fun h6 k6 => vIntMk ⟨k6.ext, newx_var fun a7 h7 v7 k7 e7 s7 => ⟨k7.ext, ?_⟩⟩
    have k57 := k6.trans k7
    have hxo : OpenW ((m.ns.length : Int), sp, nm, pointM sp nm attrs) := ⟨rng64 (by omega) (by omega), hsp, hxn, pointM_rng _ _ _⟩
    have f5 : Fresh h5 c5 := T5.fresh
    refine pushOpen_k (x := ((m.ns.length : Int), sp, nm, pointM sp nm attrs)) (W5.kb k57) (f5.kb k57) hop hxo (vw5.kb k57) v7 (f5 _ (by have := k6.1; omega)) fun h8 c8 W8 E8 f8 m8 => ?_
    have E3 : ExtP PS h col h3 col := .kb k13
    refine hk h8 c8 ⟨t, ads4, (T5.kb k57).otherP (S := fun k => k = 2) (by decide) E8 f8, W8⟩ (((E3.trans (E35.mono fun s hs => .inl hs)).trans (.kb k57)).trans (E8.mono fun s hs => .inr hs)) fun v hv => ?_
    have hwl : w.block < h.size := by have := cell_lt hv; rwa [add_block] at this
    have h3v : cell h3 (w.add 2) = some v := (KB.w k13).cell (by rw [add_block]; exact hwl) hv
    have h5v : cell h5 (w.add 2) = some v := E35.sk.w.cell ⟨by rw [add_block]; exact Nat.lt_of_lt_of_le hwl k13.1, fun s p hs e2 => by
      rw [add_block, W.col] at e2
      cases e2
      exact absurd hs (by decide)⟩ h3v
    rw [vw5.cell 2 rfl] at h5v
    rw [m8]; exact h5v
  exact condK (K := fun _ => Sx.place_World_Insert.n5 (some w) sp a1 (addM m.ns (bareM 1 sp nm attrs [])).2 (fun y6 h => K (.int .i64 y6) h) (fun y6 h => K (.int .i64 y6) h) h5) tail
theorem insert_calls (L : Lib0 h col) (p : PW h col w m) (G : GoodT m.ns) (hne : 0 < m.op.length) (hop : m.op.length < 1000000) (hns : m.ns.length < 1000000) {ab : Option Addr} {an ac : Nat} {attrs : List AttrP} {sp tk : Int} {nm tx : Bs} {cl : Bool}
    (r : Row elAttr (Free col h) h ab an ac attrs) (hz : ab = none → ac = 0) (han : an ≤ 1000000) (hv : AttrsW attrs) (hsp : Rng .u8 sp) (htk : Rng .u8 tk) (hnm : nm.length ≤ 1000000000)
    (hk : ∀ h' col', PW h' col' w (insertM m sp nm attrs) → ExtP PS h col h' col' → K (.int .i64 m.ns.length) h') :
    HCalls Tryz.prog 8 ⟨[.pointer (some w), .int .u8 sp, .agg ⟨[.int .u8 tk, S nm, .slice ab an ac, .bool cl, S tx]⟩]⟩ h K :=
  insert_callsM L p G hne hop hns r hz han hv hsp htk hnm fun h' col' p' E' _ => hk h' col' p' E'
theorem write_callsW (p : PW h col w m) (G : GoodT m.ns) (hne : 0 < m.op.length) (hop : m.op.length < 1000000) (hns : m.ns.length < 1000000) {tx : Bs} (hlen : ∀ (i : Nat) x, m.ns[i]? = some x → x.text.length + tx.length ≤ 9223372036854775807) (htx : tx.length ≤ maxLen)
    (hk : ∀ h' col', PW h' col' w (writeW m tx) → ExtP PS h col h' col' → K (.tuple ⟨[]⟩) h') :
    HCalls Tryz.prog 12 ⟨[.pointer (some w), S tx]⟩ h K := by
  obtain ⟨t, ads, T, W⟩ := p.ex
  refine Sx.place_World_Write.ok _ _ _ _ ?_
  refine current_calls W hne (by omega) fun h2 k2 => ?_
  refine agOpen (x := curM m.op) ?_
  refine where_calls (x := curM m.op) (T.kb k2) (W.kb k2) (by omega) fun h3 k3 => tupIIMk ?_
  have k13 := k2.trans k3
  obtain ⟨ob, oc, mb, mn, mc, vw, ow, omw⟩ := (W.kb k13).ex
  refine vSomeMk ⟨_, vw.cell 0 rfl, ?_⟩
  refine write_calls (T.kb k13) G hlen htx hns fun h4 c4 ads4 T4 E4 => vBool_mk ?_
  have E4p : ExtP (fun s => s = 0) h3 col h4 c4 := E4.p rfl
  have W4 := (W.kb k13).ext E4p (by decide)
  have tail : K (.tuple ⟨[]⟩) h4 := hk h4 c4 ⟨t, ads4, T4, W4⟩ ((ExtP.kb k13).trans (E4p.mono fun s hs => .inl hs))
  exact condK (K := fun _ => K (.tuple ⟨[]⟩) h4) tail
theorem close_callsW (p : PW h col w m) {n : Int} (hk : ∀ h' col', PW h' col' w (closeW m n) → ExtP PS h col h' col' → K (.tuple ⟨[]⟩) h') : HCalls Tryz.prog 16 ⟨[.pointer (some w), .int .i64 n]⟩ h K := by
  obtain ⟨t, ads, T, W⟩ := p.ex
  exact close_calls W p.fresh fun h' W' E' f' => hk h' col ⟨t, ads, T.otherP (S := fun k => k = 2) (by decide) E' f', W'⟩ (E'.mono fun s hs => .inr hs)
end
end Go.Proofs
