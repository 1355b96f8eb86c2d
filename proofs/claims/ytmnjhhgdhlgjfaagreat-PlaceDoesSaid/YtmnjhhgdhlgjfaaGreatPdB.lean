/- place: the chapter's World: New, Insert, Write, Note, Close, Rebuild, Drop. No condition but that the tree is one. -/
import Derived.Test.YtmnjhhgdhlgjfaaGreatPdA
namespace Go.Proofs
open Go Go.Sh
set_option linter.unusedVariables false
set_option maxRecDepth 100000
theorem RefP.otherP {Z : Nat → Prop} {h h' : H} {col col' : Col} {s : Nat} {t : Addr} {ns : List NodeM} (T : RefP h col s t ns) (hs : ¬ Z s) (e : ExtP Z h col h' col') (hf : Fresh h' col') : RefP h' col' s t ns := by
  obtain ⟨lb, lc, rs, C, em⟩ := T
  exact ⟨lb, lc, rs, C.keep e.sk.w e.cl hf fun k hk hc => ⟨hk, fun s' p hs' e2 => by
    rcases hc with hc | ⟨q, hc⟩
    · rw [hc] at e2; cases e2
    · rw [hc] at e2; cases e2; exact hs hs'⟩, em⟩
/-- the colours of the chapter's World: its tree's, its own -/
def RS (s : Nat) : Prop := s = 1 ∨ s = 3
/-- a World of the chapter's -/
structure RW (h : H) (col : Col) (w : Addr) (m : WM) : Prop where
  ex : ∃ t, RefP h col 1 t m.ns ∧ WorldW h col 3 45 w t m.op m.mks m.fo m.hi
section
variable {Z : Nat → Prop} {h h' : H} {K : Value → H → Prop} {col col' : Col} {w : Addr} {m : WM}
theorem RW.fresh (p : RW h col w m) : Fresh h col := by obtain ⟨t, T, W⟩ := p.ex; exact T.fresh
theorem RW.ext (p : RW h col w m) (e : ExtP Z h col h' col') (h0 : ¬ Z 1) (h2 : ¬ Z 3) (f : Fresh h' col') : RW h' col' w m := by
  obtain ⟨t, T, W⟩ := p.ex
  exact ⟨t, T.otherP h0 e f, W.ext e h2⟩
theorem RW.kb (p : RW h col w m) (k : KB h h') : RW h' col w m := p.ext (Z := fun _ => False) (.kb k) id id (p.fresh.kb k)
theorem refNew_calls (f : Fresh h col) (hk : ∀ w h' col', RW h' col' w wm0 → ExtP RS h col h' col' → K (.pointer (some w)) h') : HCalls Tryz.prog 7 ⟨[]⟩ h K := by
  refine Sx.r13_New.ok _ _ (new_r (s := 1) f fun t h1 c1 T1 E1 => vPtrMk (newx_var fun a2 h2 v2 k2 e2 s2 => newx_var fun a3 h3 v3 k3 e3 s3 => ?_))
  have ow : OpenW (0, 0, wHtml, 0) := ⟨⟨by decide, by decide⟩, ⟨by decide, by decide⟩, by decide, ⟨by decide, by decide⟩⟩
  have o2 := v2.ownF1 (E := elOpen) (x := (0, 0, wHtml, 0)) fun A => ow.r
  have f1 : Fresh h1 c1 := T1.fresh
  have f3 := (f1.kb k2).kb k3
  have h3s : h3.size = h1.size + 2 := by omega
  have hc : ∀ k, k < h1.size → paint (paint c1 a2.block (3, 1)) a3.block (3, 0) k = c1 k := fun k hk => by rw [paint_ne (by omega), paint_ne (by omega)]
  have ff : Fresh h3 (paint (paint c1 a2.block (3, 1)) a3.block (3, 0)) := (f3.paint (by omega)).paint (by omega)
  have E3 : ExtP (fun _ => False) h1 c1 h3 (paint (paint c1 a2.block (3, 1)) a3.block (3, 0)) := ⟨(k2.trans k3).less fun k hk => hk.1, hc⟩
  refine hk a3 h3 (paint (paint c1 a2.block (3, 1)) a3.block (3, 0)) ⟨t, T1.otherP id E3 ff, ⟨⟨some a2, 1, none, 0, 0, v3, ?_, OwnC.none⟩, paint_at, ⟨by decide, by decide⟩⟩⟩ ?_
  · refine ⟨((o2.kb k3).own.flat flatOpen).lower (Nat.le_refl _), fun q e => ?_, fun q e => ?_, fun e => by cases e⟩
    · cases e; rw [paint_ne (by omega)]; exact paint_at
    · cases e; omega
  · exact (E1.p (.inl rfl)).trans (E3.mono fun s hs => hs.elim)
theorem refInsert_calls (p : RW h col w m) (G : GoodT m.ns) (hne : 0 < m.op.length) (hop : m.op.length < 1000000) (hns : m.ns.length < 1000000) {ab : Option Addr} {an ac : Nat} {attrs : List AttrP} {sp tk : Int} {nm tx : Bs} {cl : Bool}
    (r : Row elAttr (Free col h) h ab an ac attrs) (han : an ≤ 1000000) (hv : AttrsW attrs) (hsp : Rng .u8 sp) (htk : Rng .u8 tk) (hnm : nm.length ≤ 1000000000)
    (hk : ∀ h' col', RW h' col' w (insertM m sp nm attrs) → ExtP RS h col h' col' → K (.int .i64 m.ns.length) h') :
    HCalls Tryz.prog 9 ⟨[.pointer (some w), .int .u8 sp, .agg ⟨[.int .u8 tk, S nm, .slice ab an ac, .bool cl, S tx]⟩]⟩ h K := by
  obtain ⟨t, T, W⟩ := p.ex
  have hxn : nm.length ≤ maxLen := by simp only [maxLen]; omega
  refine Sx.r13_World_Insert.ok _ _ _ _ _ _ _ _ _ _ _ (newx_var fun a1 h1 v1 k1 e1 s1 => ?_)
  refine refCurrent_calls (W.kb k1) hne (by omega) fun h2 k2 => ?_
  refine agOpen (x := curM m.op) ?_
  refine refWhere_calls (x := curM m.op) (T.kb (k1.trans k2)) G (W.kb (k1.trans k2)) (by omega) fun h3 k3 => tupIIMk ?_
  have k13 := (k1.trans k2).trans k3
  obtain ⟨ob, oc, mb, mn, mc, vw, ow, omw⟩ := (W.kb k13).ex
  have v3 := v1.kb (k2.trans k3)
  refine vSomeMk ⟨_, vw.cell 0 rfl, _, v3.cell 1 rfl, _, _, _, v3.cell 2 rfl, ?_⟩
  refine make_r (T.kb k13) (r.kb k13) han ⟨by decide, by decide⟩ hsp hxn (by decide) hns fun h4 c4 T4 E4 => vIntMk ?_
  have E4p : ExtP (fun s => s = 1) h3 col h4 c4 := E4.p rfl
  have W4 := (W.kb k13).ext E4p (by decide)
  obtain ⟨ob4, oc4, mb4, mn4, mc4, vw4, ow4, omw4⟩ := W4.ex
  have G4 : GoodT (addM m.ns (bareM 1 sp nm attrs [])).1 := G.addM _ _ _ _ _
  refine vSomeMk ⟨_, vw4.cell 0 rfl, ?_⟩
  refine put_r T4 G4 fun h5 c5 T5 E5 => vBool_mk ?_
  have E5p : ExtP (fun s => s = 1) h4 c4 h5 c5 := E5.p rfl
  have E35 := E4p.trans E5p
  have W5 := W4.ext E5p (by decide)
  obtain ⟨ob5, oc5, mb5, mn5, mc5, vw5, ow5, omw5⟩ := W5.ex
  have f3 : Fresh h3 col := p.fresh.kb k13
  have hca : col a1.block = none := p.fresh _ (by omega)
  have v5 : Var h5 a1 31 [.int .u8 tk, S nm, .slice ab an ac, .bool cl, S tx] := v3.keep E35.keepF ⟨hca, v3.lt⟩
  have r5 : Row elAttr (Free c5 h5) h5 ab an ac attrs := E35.row ((r.kb k13).keep (Keep.refl (fun _ => True) _ |>.less fun _ _ => trivial) fun k hk _ => Free.kb k13 hk)
  have tail : Sx.r13_World_Insert.n5 (some w) sp a1 (addM m.ns (bareM 1 sp nm attrs [])).2 (fun y6 h => K (.int .i64 y6) h) (fun y6 h => K (.int .i64 y6) h) h5 := by
    refine vSomeMk ⟨_, _, _, vw5.cell 1 rfl, _, v5.cell 1 rfl, _, v5.cell 0 rfl, _, v5.cell 1 rfl, _, _, _, v5.cell 2 rfl, _, v5.cell 3 rfl, _, v5.cell 4 rfl, ?_⟩
    refine refPoint_calls r5 hv fun h6 k6 => vIntMk ⟨k6.ext, newx_var fun a7 h7 v7 k7 e7 s7 => ⟨k7.ext, ?_⟩⟩
    have k57 := k6.trans k7
    have hxo : OpenW ((m.ns.length : Int), sp, nm, pointM sp nm attrs) := ⟨rng64 (by omega) (by omega), hsp, hxn, pointM_rng _ _ _⟩
    have f5 : Fresh h5 c5 := T5.fresh
    refine pushOpen_k (x := ((m.ns.length : Int), sp, nm, pointM sp nm attrs)) (W5.kb k57) (f5.kb k57) hop hxo (vw5.kb k57) v7 (f5 _ (by have := k6.1; omega)) fun h8 c8 W8 E8 f8 m8 => ?_
    have E3 : ExtP RS h col h3 col := .kb k13
    exact hk h8 c8 ⟨t, (T5.kb k57).otherP (Z := fun k => k = 3) (by decide) E8 f8, W8⟩ (((E3.trans (E35.mono fun s hs => .inl hs)).trans (.kb k57)).trans (E8.mono fun s hs => .inr hs))
  exact condK (K := fun _ => Sx.r13_World_Insert.n5 (some w) sp a1 (addM m.ns (bareM 1 sp nm attrs [])).2 (fun y6 h => K (.int .i64 y6) h) (fun y6 h => K (.int .i64 y6) h) h5) tail
theorem refWrite_calls (p : RW h col w m) (G : GoodT m.ns) (hne : 0 < m.op.length) (hop : m.op.length < 1000000) (hns : m.ns.length < 1000000) {tx : Bs} (hlen : ∀ (i : Nat) x, m.ns[i]? = some x → x.text.length + tx.length ≤ 9223372036854775807) (htx : tx.length ≤ maxLen)
    (hk : ∀ h' col', RW h' col' w (writeW m tx) → ExtP RS h col h' col' → K (.tuple ⟨[]⟩) h') :
    HCalls Tryz.prog 13 ⟨[.pointer (some w), S tx]⟩ h K := by
  obtain ⟨t, T, W⟩ := p.ex
  refine Sx.r13_World_Write.ok _ _ _ _ ?_
  refine refCurrent_calls W hne (by omega) fun h2 k2 => ?_
  refine agOpen (x := curM m.op) ?_
  refine refWhere_calls (x := curM m.op) (T.kb k2) G (W.kb k2) (by omega) fun h3 k3 => tupIIMk ?_
  have k13 := k2.trans k3
  obtain ⟨ob, oc, mb, mn, mc, vw, ow, omw⟩ := (W.kb k13).ex
  refine vSomeMk ⟨_, vw.cell 0 rfl, ?_⟩
  refine write_r (T.kb k13) G hlen htx hns fun h4 c4 T4 E4 => vBool_mk ?_
  have E4p : ExtP (fun s => s = 1) h3 col h4 c4 := E4.p rfl
  have W4 := (W.kb k13).ext E4p (by decide)
  have tail : K (.tuple ⟨[]⟩) h4 := hk h4 c4 ⟨t, T4, W4⟩ ((ExtP.kb k13).trans (E4p.mono fun s hs => .inl hs))
  exact condK (K := fun _ => K (.tuple ⟨[]⟩) h4) tail
theorem refNote_calls (p : RW h col w m) (G : GoodT m.ns) (hne : 0 < m.op.length) (hop : m.op.length < 1000000) (hns : m.ns.length < 1000000) {tx : Bs} (htx : tx.length ≤ maxLen)
    (hk : ∀ h' col', RW h' col' w (noteW m tx) → ExtP RS h col h' col' → K (.tuple ⟨[]⟩) h') :
    HCalls Tryz.prog 15 ⟨[.pointer (some w), S tx]⟩ h K := by
  obtain ⟨t, T, W⟩ := p.ex
  refine Sx.r13_World_Note.ok _ _ _ _ ?_
  refine refCurrent_calls W hne (by omega) fun h2 k2 => ?_
  refine agOpen (x := curM m.op) ?_
  refine refWhere_calls (x := curM m.op) (T.kb k2) G (W.kb k2) (by omega) fun h3 k3 => tupIIMk ?_
  have k13 := k2.trans k3
  obtain ⟨ob, oc, mb, mn, mc, vw, ow, omw⟩ := (W.kb k13).ex
  have G4 : GoodT (addM m.ns (bareM 3 0 [] [] tx)).1 := G.addM _ _ _ _ _
  have tail : ∀ h4 c4, RefP h4 c4 1 t (addM m.ns (bareM 3 0 [] [] tx)).1 → Ext 1 h3 col h4 c4 → HCalls Tryz.prog 34 ⟨[.pointer (some t), .int .i64 (whereM m.ns m.op m.fo (curM m.op)).1, .int .i64 (whereM m.ns m.op m.fo (curM m.op)).2, .int .i64 (addM m.ns (bareM 3 0 [] [] tx)).2]⟩ h4 fun v40 h41 => vBool v40 fun b42 => cond b42 (K (.tuple ⟨[]⟩) h41) (K (.tuple ⟨[]⟩) h41) := fun h4 c4 T4 E4 => by
    refine put_r T4 G4 fun h5 c5 T5 E5 => vBool_mk ?_
    have E4p : ExtP (fun s => s = 1) h3 col h4 c4 := E4.p rfl
    have E5p : ExtP (fun s => s = 1) h4 c4 h5 c5 := E5.p rfl
    have W5 := ((W.kb k13).ext E4p (by decide)).ext E5p (by decide)
    have fin : K (.tuple ⟨[]⟩) h5 := hk h5 c5 ⟨t, T5, W5⟩ ((ExtP.kb k13).trans ((E4p.trans E5p).mono fun s hs => .inl hs))
    exact condK (K := fun _ => K (.tuple ⟨[]⟩) h5) fin
  refine ⟨vSomeMk (vSomeMk ⟨_, vw.cell 0 rfl, make_r (T.kb k13) (row_nilN (A := fun _ => True)) (by decide) ⟨by decide, by decide⟩ ⟨by decide, by decide⟩ (by decide) htx hns fun h4 c4 T4 E4 => vIntMk ?_⟩),
    vSomeMk ⟨_, vw.cell 0 rfl, vSomeMk ⟨_, vw.cell 0 rfl, make_r (T.kb k13) (row_nilN (A := fun _ => True)) (by decide) ⟨by decide, by decide⟩ ⟨by decide, by decide⟩ (by decide) htx hns fun h4 c4 T4 E4 => vIntMk (tail h4 c4 T4 E4)⟩⟩⟩
  obtain ⟨ob4, oc4, mb4, mn4, mc4, vw4, _, _⟩ := ((W.kb k13).ext (S := fun s => s = 1) (E4.p rfl) (by decide)).ex
  exact ⟨_, vw4.cell 0 rfl, tail h4 c4 T4 E4⟩
theorem refClose_calls (p : RW h col w m) {n : Int} (hk : ∀ h' col', RW h' col' w (closeW m n) → ExtP RS h col h' col' → K (.tuple ⟨[]⟩) h') : HCalls Tryz.prog 17 ⟨[.pointer (some w), .int .i64 n]⟩ h K := by
  obtain ⟨t, T, W⟩ := p.ex
  obtain ⟨ob, oc, mb, mn, mc, v, o, om⟩ := W.ex
  have hno : ¬ (1 ≤ n ∧ n < m.op.length) → K (.tuple ⟨[]⟩) h := fun hn => hk h col (by
    have e : closeW m n = m := by unfold closeW closeO; rw [if_neg hn]
    rw [e]; exact p) (.refl _ _ _)
  refine Sx.r13_World_Close.ok _ _ _ _ (spl (fun h1 => vSomeMk ⟨_, _, _, v.cell 1 rfl, spl (fun h2 => ?_) fun h2 => condF (hno fun hn => h2 hn.2)⟩) fun h1 => condF (hno fun hn => h1 hn.1))
  have hcap := o.cap
  refine condT (vSomeMk ⟨_, _, _, v.cell 1 rfl, ⟨by omega, by omega, by omega⟩, vSomeMk (closeK W p.fresh h1 h2 v fun h' W' E' f' => ?_)⟩)
  exact hk h' col ⟨t, T.otherP (Z := fun k => k = 3) (by decide) E' f', W'⟩ (E'.mono fun s hs => .inr hs)
theorem eraseIdx_take {α : Type} (l : List α) (i : Nat) : l.eraseIdx i = l.take i ++ l.drop (i + 1) := List.eraseIdx_eq_take_drop_succ _ _
end
end Go.Proofs
