import Derived.Test.YtijoifkjeamonaaGreatMoE
import Derived.Test.YtijoifkjeamonaaGreatPdD
import Derived.Test.YtijoifkjeamonaaGreatTxA
import Derived.Test.YtijoifkjeamonaaGreatTxO
import Derived.Test.YtijoifkjeamonaaGreatOpA
import Derived.Test.YtijoifkjeamonaaGreatPcD
namespace Go.Proofs
open Go Go.Sh
set_option linter.unusedVariables false
set_option maxRecDepth 100000
theorem item_range (ns : List Bs) (l : List OpenP) : ∀ k : Nat, -1 <= scanTo (itemF ns) (-1) l k /\ scanTo (itemF ns) (-1) l k < (k : Int)
  | 0 => ⟨Int.le_refl _, by show (-1 : Int) < 0; omega⟩
  | k + 1 => by
    have := item_range ns l k
    unfold scanTo
    split
    · rename_i r e
      unfold itemF at e
      split at e
      · cases e; omega
      · split at e
        · cases e; omega
        · cases e
    · omega
section
variable {B : Nat -> Prop} {h : H} {K : Value -> H -> Prop} {col : Col} {a w : Addr} {mm : MM} {u v x : Nat} {t : TokP} {b : Option Addr} {n c : Nat} {ns : List Bs} {s : Bs}
theorem pmPush (C : CP h col a w mm u v x) (hv : v <= 100000) : ∃ mb mn mc, cell h (w.add 2) = some (.slice mb mn mc) /\ ∀ h1 (y : MarkP) (ab : Option Addr) (an ac : Nat) (Q : H -> Prop), KB h h1 -> MarkR (Free col h1) h1 y ab an ac ->
    (∀ h' c', PW h' c' w { mm.w with mks := pushP mm.w.mks y } -> ExtP PX h col h' c' -> ExtP PA h col h' c' -> Q h') ->
    HCalls Tryz.prog 156 ⟨[.slice mb mn mc, .agg ⟨[.int .i64 y.1, S y.2.1, .slice ab an ac]⟩]⟩ h1 fun v h2 => vSlice v fun b n c => ExtH h1 h2 /\ stL (w.add 2) [.slice b n c] 0 h2 Q := by
  obtain ⟨t, ads, T, W⟩ := C.p.ex
  obtain ⟨ob, oc, mb, mn, mc, vw, o, om⟩ := W.ex
  have hml := C.s.A.D.ml
  have hl := om.len
  refine ⟨_, _, _, vw.cell 2 rfl, fun h1 y ab an ac Q k hR hk => ?_⟩
  obtain ⟨xs, he, hc, _⟩ := (om.kb k).parts
  refine push_calls (om.kb k).row he hc (fun k hk => hk.2) om.nil hR (by omega) fun b' n' c' h2 o2 k2 => vSliceMk ⟨k2.ext, setMarks_k (W.kb k) (C.f.kb k) k2 o2 fun h3 W3 E3 f3 _ => ?_⟩
  have E : ExtP PA h col h3 _ := (ExtP.kb k).trans (E3.mono fun s hs => .inl (.inr hs))
  exact hk h3 _ ⟨t, ads, (T.kb k).otherP (S := fun k => k = 2) (by decide) E3 f3, W3⟩ E.px E
theorem pmFormat (C : CP h col a w mm u v x) (hu : u <= 800000) (hv : v <= 10000) (T : TkW h col t b n c) (hk : Nxt h col a w K { mm with w := formatW mm.w t } (u + v + 1) (v + 1) x) : HCalls Tryz.prog 92 ⟨[.pointer (some a), .agg ⟨tkC (tkOf t b n c)⟩]⟩ h K := by
  refine Sx.modes_Machine_format.ok _ _ _ _ (T.new C.f fun a1 h1 l1 k1 _ => l1.ld (pmPlain (C.kbP k1) hu hv l1.T fun h2 c2 C2 E2 => ?_))
  obtain ⟨mb, mn, mc, e2, push⟩ := pmPush C2 (by omega)
  have l2 := l1.ext E2
  have hlo := C2.s.A.D.lo
  have hln := C.s.reb.A.D.ln
  obtain ⟨tr, ads, T2, W2⟩ := C2.p.ex
  refine vSomeMk ⟨_, C2.V.cell 0 rfl, vSomeMk ⟨_, C2.V.cell 0 rfl, vSomeMk ⟨_, _, _, e2, vSomeMk ⟨_, C2.V.cell 0 rfl, _, l2.nm, _, _, _, l2.V.cell 2 rfl, current_calls W2 C2.s.A.D.ne (by omega) fun h3 k3 => agOpen (x := curM _) ⟨k3.ext, ?_⟩⟩⟩⟩⟩
  have ec : (curM (insW (rebuildW mm.w) t).op).1 = ((rebuildW mm.w).ns.length : Int) := cur_ins _ t
  have l3 := l2.kb k3
  have hR : MarkR (Free c2 h3) h3 (((rebuildW mm.w).ns.length : Int), t.2.1, t.2.2.1) b n c := markR (m := (((rebuildW mm.w).ns.length : Int), t.2.1, t.2.2.1)) l3.T.r T.z (rng64 (by omega) (by omega)) (by have := T.s.1; show t.2.1.length <= _; simp only [maxLen]; omega)
  have := push h3 _ b n c _ k3 hR fun h4 c4 p4 E4 EA => hk h4 c4 (C2.pa p4 EA (C.s.format T.s)) ((ExtP.kb k1).trans (E2.trans E4))
  show HCalls _ _ ⟨[_, .agg ⟨[.int .i64 (curM (insW (rebuildW mm.w) t).op).1, _, _]⟩]⟩ _ _
  rw [ec]
  exact this
theorem pmObject (C : CP h col a w mm u v x) (hu : u <= 800000) (hv : v <= 10000) (T : TkW h col t b n c) (hk : Nxt h col a w K { mm with w := markerW (plainW' mm.w t) } (u + v + 1) (v + 1) x) : HCalls Tryz.prog 81 ⟨[.pointer (some a), .agg ⟨tkC (tkOf t b n c)⟩]⟩ h K := by
  refine Sx.modes_Machine_object.ok _ _ _ _ (T.new C.f fun a1 h1 l1 k1 _ => l1.ld (pmPlain (C.kbP k1) hu hv l1.T fun h2 c2 C2 E2 => ?_))
  obtain ⟨mb, mn, mc, e2, push⟩ := pmPush C2 (by omega)
  refine vSomeMk ⟨_, C2.V.cell 0 rfl, vSomeMk ⟨_, C2.V.cell 0 rfl, vSomeMk ⟨_, _, _, e2, ?_⟩⟩⟩
  exact push h2 (-1, [], []) none 0 0 _ (KB.refl _) (markR (m := (-1, [], [])) ⟨rfl, Nat.le_refl _, Nat.zero_le _, fun i x hx => by simp at hx⟩ (fun _ => rfl) (rng64 (by decide) (by decide)) (by decide)) fun h4 c4 p4 E4 EA => hk h4 c4 (C2.pa p4 EA (C.s.plain T.s).marker) ((ExtP.kb k1).trans (E2.trans E4))
theorem pmItem (C : CP h col a w mm u v x) (hu : u <= 890000) (rn : Row elStr B h b n c ns) (hk : Nxt h col a w K { mm with w := itemW mm.w ns } u v x) : HCalls Tryz.prog 148 ⟨[.pointer (some a), .slice b n c]⟩ h K := by
  obtain ⟨t, ads, T, W⟩ := C.p.ex
  obtain ⟨ob, oc, mb, mn, mc, vw, o, om⟩ := W.ex
  have hlo := C.s.A.D.lo
  unfold itemW at hk
  refine Sx.modes_Machine_item.ok _ _ _ _ _ _ (vSomeMk ⟨_, C.V.cell 0 rfl, vSomeMk ⟨_, _, _, vw.cell 1 rfl, openItem_calls C.L.ml (fun k hk => hk) o.row C.nm9 rn fun h1 k1 => vIntMk (spl (fun e => condT ?_) fun e => condF ?_)⟩⟩)
  · have e : 0 <= itemP mm.w.op ns := e
    obtain ⟨k, ek⟩ := Int.eq_ofNat_of_zero_le e
    have hr := item_range ns mm.w.op mm.w.op.length
    have hkl : k < mm.w.op.length := by have : itemP mm.w.op ns < (mm.w.op.length : Int) := hr.2; omega
    rw [if_pos e] at hk
    have en : itemN mm.w ns = mm.w.op[k].2.2.1 := by unfold itemN; rw [ek]; show (mm.w.op.getD k noOpen).2.2.1 = _; rw [getD_get hkl]
    rw [en] at hk
    rw [ek]
    refine vSomeMk ⟨_, (C.kbP k1).V.cell 0 rfl, vSomeMk ⟨_, _, _, (vw.kb k1).cell 1 rfl, (o.kb k1).row.idxN (i := k) hkl rfl fun q hA => ⟨_, (hA.snd.sndAt (k := 2) rfl).fst.str.1, ?_⟩⟩⟩
    exact pmOut1 (C.kbP k1) _ (C.s.A.nml _ (List.getElem_mem hkl)) fun h3 c3 C3 E3 => hk h3 c3 C3 ((ExtP.kb k1).trans E3)
  · rw [if_neg e] at hk
    exact hk h1 col (C.kbP k1) (.kb k1)
theorem pmLi (C : CP h col a w mm u v x) (hu : u <= 880000) (T : TkW h col t b n c) (hk : Nxt h col a w K { mm with w := blockW (itemW mm.w wS10) t } (u + 1) v x) : HCalls Tryz.prog 75 ⟨[.pointer (some a), .agg ⟨tkC (tkOf t b n c)⟩]⟩ h K :=
  Sx.modes_Machine_li.ok _ _ _ _ (T.new C.f fun a1 h1 l1 k1 _ => newOne (by decide) fun a2 h2 r2 k2 => pmItem ((C.kbP k1).kbP k2) (by omega) r2 fun h3 c3 C3 E3 => ((l1.kb k2).ext E3).ld (pmBlock C3 hu ((l1.kb k2).ext E3).T fun h4 c4 C4 E4 => hk h4 c4 C4 ((ExtP.kb (k1.trans k2)).trans (E3.trans E4))))
theorem pmDd (C : CP h col a w mm u v x) (hu : u <= 880000) (T : TkW h col t b n c) (hk : Nxt h col a w K { mm with w := blockW (itemW mm.w wS11) t } (u + 1) v x) : HCalls Tryz.prog 76 ⟨[.pointer (some a), .agg ⟨tkC (tkOf t b n c)⟩]⟩ h K :=
  Sx.modes_Machine_dd.ok _ _ _ _ (T.new C.f fun a1 h1 l1 k1 _ => newWords (ws := wS11) rfl (by decide) (by decide) fun a2 h2 r2 k2 => pmItem ((C.kbP k1).kbP k2) (by omega) r2 fun h3 c3 C3 E3 => ((l1.kb k2).ext E3).ld (pmBlock C3 hu ((l1.kb k2).ext E3).T fun h4 c4 C4 E4 => hk h4 c4 C4 ((ExtP.kb (k1.trans k2)).trans (E3.trans E4))))
theorem pmButton (C : CP h col a w mm u v x) (hu : u <= 800000) (hv : v <= 10000) (T : TkW h col t b n c) (hk : Nxt h col a w K { mm with w := plainW' (inOut mm.w 0 [] wButton) t } (u + v + 1) v x) : HCalls Tryz.prog 78 ⟨[.pointer (some a), .agg ⟨tkC (tkOf t b n c)⟩]⟩ h K := by
  refine Sx.modes_Machine_button.ok _ _ _ _ (T.new C.f fun a1 h1 l1 k1 _ => newOne (by decide) fun a2 h2 r2 k2 => ?_)
  have fin : ∀ h3 c3, CP h3 c3 a w { mm with w := inOut mm.w 0 [] wButton } u v x -> ExtP PX h2 col h3 c3 -> ldT h3 a1 fun t14 => HCalls Tryz.prog 93 ⟨[.pointer (some a), .agg ⟨tkC t14⟩]⟩ h3 fun v15 h16 => K (.tuple ⟨[]⟩) h16 := fun h3 c3 C3 E3 =>
    ((l1.kb k2).ext E3).ld (pmPlain C3 hu hv ((l1.kb k2).ext E3).T fun h4 c4 C4 E4 => hk h4 c4 C4 ((ExtP.kb (k1.trans k2)).trans (E3.trans E4)))
  exact pmInOut1 ((C.kbP k1).kbP k2) 0 [] (s := [98, 117, 116, 116, 111, 110]) (by decide) r2 (Q := fun h3 => ldT h3 a1 fun t14 => HCalls Tryz.prog 93 ⟨[.pointer (some a), .agg ⟨tkC t14⟩]⟩ h3 fun v15 h16 => K (.tuple ⟨[]⟩) h16) fin
theorem pmNobr (C : CP h col a w mm u v x) (hu : u <= 700000) (hv : v <= 10000) (T : TkW h col t b n c) (hk : Nxt h col a w K { mm with w := formatW (nobrW (rebuildW mm.w) t.2.1) t } (u + 2 * v + 33) (v + 1) x) : HCalls Tryz.prog 80 ⟨[.pointer (some a), .agg ⟨tkC (tkOf t b n c)⟩]⟩ h K := by
  unfold nobrW at hk
  refine Sx.modes_Machine_nobr.ok _ _ _ _ (T.new C.f fun a1 h1 l1 k1 _ => vSomeMk ⟨_, (C.kbP k1).V.cell 0 rfl, pmReb (C.kbP k1) (by omega) hv fun h2 c2 C2 E2 => ⟨_, (l1.ext E2).nm, newOne T.s.1 fun a3 h3 r3 k3 => pmIn (C2.kbP k3) r3 0 fun h4 k4 => ?_⟩⟩)
  have C4 := (C2.kbP k3).kbP k4
  have E4 : ExtP PX h1 col h4 c2 := E2.trans (.kb (k3.trans k4))
  have l4 := l1.ext E4
  have E04 := (ExtP.kb k1).trans E4
  refine vBool_mk (condB (fun e => ?_) fun e => ?_)
  · have e : inP (rebuildW mm.w).op 0 [t.2.1] = true := e
    rw [if_pos e] at hk
    exact l4.ld (pmLeave C4 (by omega) hv l4.T fun h5 c5 C5 E5 => (l4.ext E5).ld (pmFormat C5 (by omega) hv (l4.ext E5).T fun h6 c6 C6 E6 => hk h6 c6 (C6.mono (by omega)) (E04.trans (E5.trans E6))))
  · have e : inP (rebuildW mm.w).op 0 [t.2.1] = false := e
    rw [if_neg (by rw [e]; decide)] at hk
    exact l4.ld (pmFormat C4 (by omega) hv l4.T fun h6 c6 C6 E6 => hk h6 c6 (C6.mono (by omega)) (E04.trans E6))
theorem pmImage (C : CP h col a w mm u v x) (hu : u <= 800000) (hv : v <= 10000) (T : TkW h col t b n c) (hk : Nxt h col a w K { mm with w := emptyW (rebuildW mm.w) (tokImg t) } (u + v + 1) v x) : HCalls Tryz.prog 84 ⟨[.pointer (some a), .agg ⟨tkC (tkOf t b n c)⟩]⟩ h K := by
  refine Sx.modes_Machine_image.ok _ _ _ _ (T.new C.f fun a1 h1 l1 k1 g1 => stL_var (m := 1) (i := 0) l1.V (by show 1 + 0 + 1 <= 5; omega) fun h2 v2 k2 s2 => ?_)
  have k02 : KB h h2 := KB.step k1 k2 g1
  have l2 : LT h2 col a1 (tokImg t) b n c := ⟨v2, l1.O, ⟨(T.kb k02).r, T.z, T.k, (by decide : ([105, 109, 103] : Bs).length <= 4000), T.s.2⟩⟩
  exact l2.ld (pmAgain (C.kbP k02) hu hv l2.T fun h3 c3 C3 E3 => hk h3 c3 C3 ((ExtP.kb k02).trans E3))
theorem pmHr (C : CP h col a w mm u v x) (hu : u <= 880000) (T : TkW h col t b n c) (hk : Nxt h col a w K { mm with w := emptyW (pW mm.w) t } (u + 1) v x) : HCalls Tryz.prog 85 ⟨[.pointer (some a), .agg ⟨tkC (tkOf t b n c)⟩]⟩ h K :=
  Sx.modes_Machine_hr.ok _ _ _ _ (T.new C.f fun a1 h1 l1 k1 _ => pmCloseP (C.kbP k1) fun h2 c2 C2 E2 => (l1.ext E2).ld (pmEmpty C2 hu (l1.ext E2).T fun h3 c3 C3 E3 => hk h3 c3 C3 ((ExtP.kb k1).trans (E2.trans E3))))
theorem pmXmp (C : CP h col a w mm u v x) (hu : u <= 800000) (hv : v <= 10000) (T : TkW h col t b n c) (hk : Nxt h col a w K (mm.readsM (insW (rebuildW (pW mm.w)) t) t 2) (u + v + 1) v x) : HCalls Tryz.prog 87 ⟨[.pointer (some a), .agg ⟨tkC (tkOf t b n c)⟩]⟩ h K :=
  Sx.modes_Machine_xmp.ok _ _ _ _ (T.new C.f fun a1 h1 l1 k1 _ => pmCloseP (C.kbP k1) fun h2 c2 C2 E2 => vSomeMk ⟨_, C2.V.cell 0 rfl, pmReb C2 hu hv fun h3 c3 C3 E3 => ((l1.ext E2).ext E3).ld (pmRaw C3 (by omega) ((l1.ext E2).ext E3).T fun h4 c4 C4 E4 => hk h4 c4 C4 ((ExtP.kb k1).trans (E2.trans (E3.trans E4))))⟩)
theorem pmOption (C : CP h col a w mm u v x) (hu : u <= 800000) (hv : v <= 10000) (T : TkW h col t b n c) (hk : Nxt h col a w K { mm with w := plainW' (optW mm.w) t } (u + v + 1) v x) : HCalls Tryz.prog 88 ⟨[.pointer (some a), .agg ⟨tkC (tkOf t b n c)⟩]⟩ h K := by
  unfold optW at hk
  refine Sx.modes_Machine_option.ok _ _ _ _ (T.new C.f fun a1 h1 l1 k1 _ => newOne (by decide) fun a2 h2 r2 k2 => pmIs ((C.kbP k1).kbP k2) (by omega) r2 fun h3 k3 => ?_)
  have C3 := ((C.kbP k1).kbP k2).kbP k3
  have l3 := (l1.kb k2).kb k3
  have E03 : ExtP PX h col h3 col := .kb (k1.trans (k2.trans k3))
  refine vBool_mk (condB (fun e => ?_) fun e => ?_)
  · have e : isW mm.w [[111, 112, 116, 105, 111, 110]] = true := e
    rw [if_pos e] at hk
    exact pmPop C3 (by omega) fun h4 c4 C4 E4 => (l3.ext E4).ld (pmPlain C4 hu hv (l3.ext E4).T fun h5 c5 C5 E5 => hk h5 c5 C5 (E03.trans (E4.trans E5)))
  · have e : isW mm.w [[111, 112, 116, 105, 111, 110]] = false := e
    rw [if_neg (by rw [e]; decide)] at hk
    exact l3.ld (pmPlain C3 hu hv l3.T fun h5 c5 C5 E5 => hk h5 c5 C5 (E03.trans E5))
theorem pmRuby (C : CP h col a w mm u v x) (hu : u <= 880000) (T : TkW h col t b n c) (hk : Nxt h col a w K { mm with w := insW (rubyW mm.w t.2.1) t } (u + 1) v x) : HCalls Tryz.prog 89 ⟨[.pointer (some a), .agg ⟨tkC (tkOf t b n c)⟩]⟩ h K := by
  unfold rubyW at hk
  refine Sx.modes_Machine_ruby.ok _ _ _ _ (T.new C.f fun a1 h1 l1 k1 _ => ?_)
  obtain ⟨ex, hex⟩ : ∃ ex, exR t.2.1 = ex := ⟨_, rfl⟩
  rw [hex] at hk
  have rest : newx h1 #[S [114, 117, 98, 121]] 9 fun a1' h2 => HCalls Tryz.prog 149 ⟨[.pointer (some a), .int .u8 0, .slice (some a1') 1 1]⟩ h2 fun v3 h4 => vBool v3 fun b5 => cond b5 (HCalls Tryz.prog 150 ⟨[.pointer (some a), S ex]⟩ h4 fun v6 h7 => ldT h7 a1 fun t8 => HCalls Tryz.prog 143 ⟨[.pointer (some a), .agg ⟨tkC t8⟩]⟩ h7 fun v9 h10 => K (.tuple ⟨[]⟩) h10) (ldT h4 a1 fun t11 => HCalls Tryz.prog 143 ⟨[.pointer (some a), .agg ⟨tkC t11⟩]⟩ h4 fun v12 h13 => K (.tuple ⟨[]⟩) h13) := by
    refine newOne (by decide) fun a2 h2 r2 k2 => pmIn ((C.kbP k1).kbP k2) r2 0 fun h3 k3 => ?_
    have C3 := ((C.kbP k1).kbP k2).kbP k3
    have l3 := (l1.kb k2).kb k3
    have E03 : ExtP PX h col h3 col := .kb (k1.trans (k2.trans k3))
    refine vBool_mk (condB (fun e => ?_) fun e => ?_)
    · have e : inP mm.w.op 0 wRuby = true := e
      rw [if_pos e] at hk
      exact pmImplied C3 ex fun h4 c4 C4 E4 => (l3.ext E4).ld (pmInsert C4 (by omega) (l3.ext E4).T fun h5 c5 C5 E5 => hk h5 c5 C5 (E03.trans (E4.trans E5)))
    · have e : inP mm.w.op 0 wRuby = false := e
      rw [if_neg (by rw [e]; decide)] at hk
      exact l3.ld (pmInsert C3 (by omega) l3.T fun h5 c5 C5 E5 => hk h5 c5 C5 (E03.trans E5))
  refine ⟨_, l1.nm, spl (fun e => ?_) fun e => ⟨_, l1.nm, spl (fun e2 => ?_) fun e2 => ?_⟩⟩
  · rw [show ex = [114, 116, 99] by rw [<- hex]; unfold exR; rw [if_pos (.inl e)]] at rest; exact rest
  · rw [show ex = [114, 116, 99] by rw [<- hex]; unfold exR; rw [if_pos (.inr e2)]] at rest; exact rest
  · rw [show ex = [] by rw [<- hex]; unfold exR; rw [if_neg (fun h => h.elim e e2)]] at rest; exact rest
theorem pmAlien (C : CP h col a w mm u v x) (hu : u <= 800000) (hv : v <= 10000) (T : TkW h col t b n c) (hk : Nxt h col a w K { mm with w := alienW mm.w t } (u + v + 1) v x) : HCalls Tryz.prog 90 ⟨[.pointer (some a), .agg ⟨tkC (tkOf t b n c)⟩]⟩ h K := by
  unfold alienW at hk
  simp only [] at hk
  refine Sx.modes_Machine_alien.ok _ _ _ _ (T.new C.f fun a1 h1 l1 k1 _ => vSomeMk ⟨_, (C.kbP k1).V.cell 0 rfl, pmReb (C.kbP k1) hu hv fun h2 c2 C2 E2 => ?_⟩)
  have l2 := l1.ext E2
  have hlo := C2.s.A.D.lo
  have hln := C2.s.A.D.ln
  have hn := T.s.1
  obtain ⟨sp, hsp⟩ : ∃ sp, spaceA t.2.1 = sp := ⟨_, rfl⟩
  rw [hsp] at hk
  have hr : Rng .u8 sp := by rw [<- hsp]; unfold spaceA; split <;> exact ⟨by decide, by decide⟩
  have rest : vSome (some a) fun a1' => ∃ p2, cell h2 (a1'.add 0) = some (.pointer p2) /\ (ldT h2 a1 fun t3 => HCalls Tryz.prog 64 ⟨[.pointer p2, .int .u8 sp, .agg ⟨tkC t3⟩]⟩ h2 fun v4 h5 => vInt .i64 v4 fun i6 => ∃ b7, cell h5 (a1.add 3) = some (.bool b7) /\ (cond b7 (HCalls Tryz.prog 37 ⟨[.pointer (some a)]⟩ h5 fun v8 h9 => K (.tuple ⟨[]⟩) h9) (K (.tuple ⟨[]⟩) h5))) := by
    refine vSomeMk ⟨_, C2.V.cell 0 rfl, l2.ld (insert_calls C2.L C2.p C2.s.A.D.G C2.s.A.D.ne (by omega) (by omega) l2.T.r T.z T.few T.attrs hr T.k (by show t.2.1.length <= _; omega) fun h3 c3 p3 E3 => vIntMk ⟨_, (l2.ext E3).V.cell 3 rfl, ?_⟩)⟩
    have C3 := C2.pa p3 E3.pa (C2.s.insert sp hn t.2.2.1)
    have E03 := (ExtP.kb k1).trans (E2.trans E3.pa.px)
    refine condB (fun e => ?_) fun e => ?_
    · rw [if_pos e] at hk
      exact pmPop C3 (by omega) fun h4 c4 C4 E4 => hk h4 c4 C4 (E03.trans E4)
    · have e : t.2.2.2.1 = false := e
      rw [if_neg (by rw [e]; decide)] at hk
      exact hk h3 c3 C3 E03
  refine ⟨_, l2.nm, spl (fun e => ?_) fun e => ?_⟩
  · rw [show sp = 1 by rw [<- hsp]; unfold spaceA; rw [if_pos e]] at rest; exact rest
  · rw [show sp = 2 by rw [<- hsp]; unfold spaceA; rw [if_neg e]] at rest; exact rest
end
end Go.Proofs
namespace Go.Proofs
open Go Go.Sh
set_option linter.unusedVariables false
set_option maxRecDepth 100000
section
variable {B : Nat -> Prop} {h : H} {K : Value -> H -> Prop} {col : Col} {a w : Addr} {mm : MM} {u v x : Nat} {t : TokP} {b : Option Addr} {n c : Nat} {ns : List Bs} {s : Bs}
theorem unfind_eq (m : WM) (id : Int) (h0 : 0 <= id) : (unfindW m id).mks = if 0 <= idxQ m.mks (fun y => decide (y.1 = id)) then m.mks.eraseIdx (idxQ m.mks fun y => decide (y.1 = id)).toNat else m.mks := by
  have e : findP m.mks id = idxQ m.mks fun y => decide (y.1 = id) := by unfold findP; rw [if_neg (by omega)]
  unfold unfindW
  rw [e]
  split
  · rfl
  · rfl
theorem pmLink (C : CP h col a w mm u v x) (hu : u <= 700000) (hv : v <= 10000) (T : TkW h col t b n c) (hk : Nxt h col a w K { mm with w := formatW (unlinkW mm.w t.2.1) t } (u + v + 33) (v + 1) x) : HCalls Tryz.prog 79 ⟨[.pointer (some a), .agg ⟨tkC (tkOf t b n c)⟩]⟩ h K := by
  unfold unlinkW at hk
  refine Sx.modes_Machine_link.ok _ _ _ _ (T.new C.f fun a1 h1 l1 k1 _ => ?_)
  have C1 := C.kbP k1
  obtain ⟨tr, ads, T1, W1⟩ := C1.p.ex
  obtain ⟨ob, oc, mb, mn, mc, vw, o, om⟩ := W1.ex
  refine vSomeMk ⟨_, C1.V.cell 0 rfl, vSomeMk ⟨_, _, _, vw.cell 2 rfl, _, l1.nm, last_calls (fun k hk => hk) om.row fun h2 k2 => vIntMk (spl (fun e => condT ?_) fun e => condF ?_)⟩⟩
  · have e : 0 <= lastP mm.w.mks t.2.1 := e
    rw [if_pos e] at hk
    obtain ⟨k, ek, hkl, h0⟩ := lastP_of e
    have hgm : mm.w.mks.getD k noMark = mm.w.mks[k] := getD_get hkl
    have eid : linkN mm.w t.2.1 = mm.w.mks[k].1 := by unfold linkN; rw [ek, <- hgm]; rfl
    rw [eid] at hk
    rw [hgm] at h0
    rw [ek]
    obtain ⟨id, hid⟩ : ∃ id, mm.w.mks[k].1 = id := ⟨_, rfl⟩
    rw [hid] at hk h0
    have C2 := C1.kbP k2
    refine vSomeMk ⟨_, C2.V.cell 0 rfl, vSomeMk ⟨_, _, _, (vw.kb k2).cell 2 rfl, (om.kb k2).row.idxN (i := k) hkl rfl fun q hA => ⟨_, hA.fst.int.1, newx_var fun a3 h3 v3 k3 e3 s3 => stL_var0 v3 (by show 1 <= 1; omega) fun h4 v4 k4 s4 => ?_⟩⟩⟩
    have hir := hA.fst.int.2
    have v4 : Var h4 a3 3 [.int .i64 id] := by rw [<- hid]; exact v4
    have k24 : KB h2 h4 := KB.step k3 k4 (by omega)
    have k14 := k2.trans k24
    have C4 := C2.kbP k24
    have c3 : col a3.block = none := C2.f _ (by omega)
    refine (l1.kb k14).ld (pmLeave C4 (by omega) hv (l1.kb k14).T fun h5 c5 C5 E5 => ?_)
    have v5 := v4.keep E5.keepF ⟨c3, v4.lt⟩
    have c5' : c5 a3.block = none := by rw [E5.cl _ v4.lt]; exact c3
    have l5 := (l1.kb k14).ext E5
    have E05 : ExtP PX h col h5 c5 := (ExtP.kb (k1.trans k14)).trans E5
    obtain ⟨tr, ads, T5, W5⟩ := C5.p.ex
    obtain ⟨ob5, oc5, mb5, mn5, mc5, vw5, o5, om5⟩ := W5.ex
    have hml5 := C5.s.A.D.ml
    have hl5 := om5.len
    obtain ⟨xs, he, hc, _⟩ := om5.parts
    have hpw := C5.s.M.1
    have h1p : ∀ i j (hi : i < (leaveW mm.w t.2.1).mks.length) (hj : j < (leaveW mm.w t.2.1).mks.length), decide ((leaveW mm.w t.2.1).mks[i].1 = id) = true -> decide ((leaveW mm.w t.2.1).mks[j].1 = id) = true -> i = j := fun i j hi hj ei ej => by
      have ei := of_decide_eq_true ei
      have ej := of_decide_eq_true ej
      have hp := List.pairwise_iff_getElem.1 hpw
      rcases Nat.lt_trichotomy i j with hlt | hlt | hlt
      · exact absurd (ei.trans ej.symm) (hp i j hi hj hlt (by rw [ei]; exact h0))
      · exact hlt
      · exact absurd (ej.trans ei.symm) (hp j i hj hi hlt (by rw [ej]; exact h0))
    have hfn : ∀ {h6 : H} (v6 : Var h6 a3 3 [.int .i64 id]) (h0' : a3.block < h6.size), ∀ x h7 b' n' c' (next : Value -> H -> Prop), x ∈ (leaveW mm.w t.2.1).mks -> SK (fun k => k < h6.size) h6 h7 -> (∀ h8, KB h7 h8 -> next (.bool (decide (x.1 = id))) h8) -> CallV Tryz.prog 4 (.func (.func 154) ⟨[]⟩ ⟨[.pointer (some a3)]⟩) ⟨[.agg ⟨[.int .i64 x.1, S x.2.1, .slice b' n' c']⟩]⟩ h7 next := fun {h6} v6 h0' x h7 b' n' c' next hx k67 hn => by
      have e : CallV Tryz.prog 4 (.func (.func 154) ⟨[]⟩ ⟨[.pointer (some a3)]⟩) ⟨[.agg ⟨[.int .i64 x.1, S x.2.1, .slice b' n' c']⟩]⟩ h7 next =
          HCalls Tryz.prog 154 ⟨[.agg ⟨[.int .i64 x.1, S x.2.1, .slice b' n' c']⟩, .pointer (some a3)]⟩ h7 fun v h' => vBool v fun b => cond b (next (.bool true) h') (next (.bool false) h') := by kernel_rfl
      rw [e]
      refine Sx.modes_Machine_link_1.ok _ _ _ _ _ _ _ _ (newx_var fun a8 h8 v8 k8 e8 _ => ⟨_, v8.cell 0 rfl, _, ((v6.keep k67.w h0').kb k8).cell0 rfl, ?_⟩)
      have := hn h8 k8
      refine spl (fun e => ?_) fun e => ?_
      · rw [decide_eq_true e] at this; exact this
      · rw [decide_eq_false e] at this; exact this
    have row : ∀ {Q : Value -> H -> Prop}, (∀ b' n' c' h7, OwnA elMark (Free c5 h5) h7 h5.size 79 b' n' c' (unfindW (leaveW mm.w t.2.1) id).mks -> KB h5 h7 -> Q (.slice b' n' c') h7) -> HCalls Tryz.prog 63 ⟨[.slice mb5 mn5 mc5]⟩ h5 fun v14 h15 => vSlice v14 fun s16b s16n s16c => HCalls Tryz.prog 153 ⟨[.slice s16b s16n s16c, (.func (.func 154) ⟨[]⟩ ⟨[.pointer (some a3)]⟩)]⟩ h15 Q := fun {Q} hQ =>
      cloneM_calls (fun k hk => hk.2) he hc hl5 om5.cap.1 om5.nil (by omega) fun b6 c6 h6 o6 k6 => vSliceMk (deleteFunc_calls (p := fun y => decide (y.1 = id)) o6 (fun k hk => hk.2) k6.1 (by omega) h1p (fun x h7 b' n' c' next hx k7 hn => hfn (h6 := h5) v5 v5.lt x h7 b' n' c' next hx (SK.trans (k6.less fun q hq => hq) k7) hn) fun b' n' c' h7 o7 k7 => by
        have e := unfind_eq (leaveW mm.w t.2.1) id h0
        refine hQ b' n' c' h7 ?_ (SK.trans k6 k7)
        rw [e]; exact o7)
    have put : ∀ {Q : H -> Prop} b' n' c' h7, OwnA elMark (Free c5 h5) h7 h5.size 79 b' n' c' (unfindW (leaveW mm.w t.2.1) id).mks -> KB h5 h7 -> (∀ h8 c8, CP h8 c8 a w { mm with w := unfindW (leaveW mm.w t.2.1) id } (u + 32) v x -> ExtP PX h5 c5 h8 c8 -> Q h8) -> stL (w.add 2) [.slice b' n' c'] 0 h7 Q := fun {Q} b' n' c' h7 o7 k7 hQ =>
      setMarks_k W5 C5.f k7 o7 fun h8 W8 E8 f8 _ => by
        have E8a : ExtP PA h5 c5 h8 _ := E8.mono fun s hs => .inl (.inr hs)
        have hmk : ({ leaveW mm.w t.2.1 with mks := (unfindW (leaveW mm.w t.2.1) id).mks } : WM) = unfindW (leaveW mm.w t.2.1) id := by unfold unfindW; split <;> rfl
        have p8 : PW h8 (putB c5 h5 b' (2, 2)) w (unfindW (leaveW mm.w t.2.1) id) := by
          rw [<- hmk]; exact ⟨tr, ads, T5.otherP (S := fun k => k = 2) (by decide) E8 f8, W8⟩
        exact hQ h8 _ (C5.pa p8 E8a (C5.s.unfind id)) E8a.px
    have fin : ∀ h8 c8, CP h8 c8 a w { mm with w := unfindW (leaveW mm.w t.2.1) id } (u + 32) v x -> ExtP PX h5 c5 h8 c8 -> vSome (some a) fun a4 => ∃ p5, cell h8 (a4.add 0) = some (.pointer p5) /\ (∃ i6, cell h8 a3 = some (.int .i64 i6) /\ (HCalls Tryz.prog 155 ⟨[.pointer p5, .int .i64 i6]⟩ h8 fun v7 h9 => ldT h9 a1 fun t1 => HCalls Tryz.prog 92 ⟨[.pointer (some a), .agg ⟨tkC t1⟩]⟩ h9 fun v2 h3 => K (.tuple ⟨[]⟩) h3)) := fun h8 c8 C8 E8 => by
      have v8 := v5.keep E8.keepF ⟨c5', v5.lt⟩
      have hlo := C8.s.A.D.lo
      refine vSomeMk ⟨_, C8.V.cell 0 rfl, _, v8.cell0 rfl, drop_callsW C8.p (by omega) fun h9 c9 p9 E9 _ => ?_⟩
      have l9 := (l5.ext E8).ext E9
      have C9 := C8.pa p9 E9.pa (C8.s.drop id)
      exact l9.ld (pmFormat C9 (by omega) hv l9.T fun h10 c10 C10 E10 => hk h10 c10 (C10.mono (by omega)) (E05.trans (E8.trans (E9.pa.px.trans E10))))
    refine ⟨?_, ?_⟩
    · refine vSomeMk (vSomeMk ⟨_, C5.V.cell 0 rfl, vSomeMk ⟨_, _, _, vw5.cell 2 rfl, row fun b' n' c' h7 o7 k7 => vSliceMk ⟨_, (C5.V.kb k7).cell 0 rfl, vSomeMk (put b' n' c' h7 o7 k7 fin)⟩⟩⟩)
    · refine vSomeMk ⟨_, C5.V.cell 0 rfl, vSomeMk ⟨_, C5.V.cell 0 rfl, vSomeMk ⟨_, _, _, vw5.cell 2 rfl, ?_⟩⟩⟩
      exact cloneM_calls (fun k hk => hk.2) he hc hl5 om5.cap.1 om5.nil (by omega) fun b6 c6 h6 o6 k6 => vSliceMk ⟨k6.ext, deleteFunc_calls (p := fun y => decide (y.1 = id)) o6 (fun k hk => hk.2) k6.1 (by omega) h1p (fun x h7 b' n' c' next hx k7 hn => hfn (h6 := h5) v5 v5.lt x h7 b' n' c' next hx (SK.trans (k6.less fun q hq => hq) k7) hn) fun b' n' c' h7 o7 k7 => vSliceMk (vSomeMk (put b' n' c' h7 (by rw [unfind_eq _ id h0]; exact o7) (SK.trans k6 k7) fin))⟩
  · have e : ¬ 0 <= lastP mm.w.mks t.2.1 := e
    rw [if_neg e] at hk
    exact (l1.kb k2).ld (pmFormat (C1.kbP k2) (by omega) hv (l1.kb k2).T fun h3 c3 C3 E3 => hk h3 c3 (C3.mono (by omega)) ((ExtP.kb (k1.trans k2)).trans E3))
end
end Go.Proofs
namespace Go.Proofs
open Go Go.Sh
set_option linter.unusedVariables false
set_option maxRecDepth 100000
section
variable {B : Nat -> Prop} {h : H} {K : Value -> H -> Prop} {col : Col} {a w : Addr} {mm : MM} {u v x : Nat} {t : TokP} {b : Option Addr} {n c : Nat} {ns : List Bs} {s : Bs}
theorem pmFree (C : CP h col a w mm u v x) (hu : u <= 890000) {id : Int} (hk : ∀ h', KB h h' -> K (.bool (freeM mm.w id)) h') : HCalls Tryz.prog 158 ⟨[.pointer (some a), .int .i64 id]⟩ h K := by
  obtain ⟨t, ads, T, W⟩ := C.p.ex
  obtain ⟨ob, oc, mb, mn, mc, v, o, om⟩ := W.ex
  have hlo := C.s.A.D.lo
  refine Sx.modes_Machine_free.ok _ _ _ _ (newx_var fun a1 h1 v1 k1 e1 s1 => vSomeMk ⟨_, (C.kbP k1).V.cell 0 rfl, vSomeMk ⟨_, _, _, (v.kb k1).cell 1 rfl, ?_⟩⟩)
  refine indexFuncOpen_calls (p := fun x => decide (x.1 = id)) (o.kb k1).row (fun x h2 next hx k2 hR hn => ?_) fun h2 k2 => vIntMk ?_
  · have e : CallV Tryz.prog 4 (.func (.func 200) ⟨[]⟩ ⟨[.pointer (some a1)]⟩) ⟨[.agg ⟨[.int .i64 x.1, .int .u8 x.2.1, S x.2.2.1, .int .u8 x.2.2.2]⟩]⟩ h2 next =
        HCalls Tryz.prog 200 ⟨[.agg ⟨[.int .i64 x.1, .int .u8 x.2.1, S x.2.2.1, .int .u8 x.2.2.2]⟩, .pointer (some a1)]⟩ h2 fun v h' => vBool v fun b => cond b (next (.bool true) h') (next (.bool false) h') := by kernel_rfl
    rw [e]
    refine Sx.modes_Machine_free_1.ok _ _ _ _ _ _ _ (newx_var fun a8 h8 v8 k8 e8 _ => ⟨_, v8.cell 0 rfl, _, ((v1.kb k2).kb k8).cell0 rfl, ?_⟩)
    have := hn h8 k8
    refine spl (fun e => ?_) fun e => ?_
    · rw [decide_eq_true e] at this; exact this
    · rw [decide_eq_false e] at this; exact this
  · have k02 := k1.trans k2
    have hk : ∀ h', KB h2 h' -> K (.bool (freeM mm.w id)) h' := fun h' k' => hk h' (k02.trans k')
    have hq := idxQ_lt (l := mm.w.op) (p := fun x => decide (x.1 = id))
    unfold freeM at hk
    refine spl (fun e => ?_) fun e => ?_
    · have := hk h2 (KB.refl _)
      rwa [decide_eq_false (by show ¬ 0 <= idxQ _ _; omega), Bool.false_and] at this
    · have e0 : 0 <= atO mm.w.op id := by show 0 <= idxQ _ _; omega
      obtain ⟨i, ei⟩ := Int.eq_ofNat_of_zero_le e0
      have hi : i < mm.w.op.length := by have : atO mm.w.op id < (mm.w.op.length : Int) := hq.1; omega
      rw [decide_eq_true e0, Bool.true_and, ei] at hk
      rw [show (idxQ mm.w.op fun x => decide (x.1 = id)) = (i : Int) from ei]
      have o2 := o.kb k02
      have hcap := o2.cap
      have hmax := hcap.2
      simp only [maxLen] at hmax
      have e1 : ((i : Int) + (1 : Int)) = ((i + 1 : Nat) : Int) := rfl
      refine vSomeMk ⟨_, (C.kbP k02).V.cell 0 rfl, vSomeMk ⟨_, _, _, (v.kb k02).cell 1 rfl, rng64 (by omega) (by omega), ⟨by omega, by omega, by omega⟩, ?_⟩⟩
      rw [e1]
      have r0 : Row elOpen (Bel h2.size) h2 (if oc = i + 1 then ob else Option.map (fun q => q.add ((i + 1) * 4)) ob) (mm.w.op.length - (i + 1)) (oc - (i + 1)) ((mm.w.op.take mm.w.op.length).drop (i + 1)) := o2.row.sub (lo := i + 1) (hi := mm.w.op.length) (by omega) (Nat.le_refl _) rfl
      rw [List.take_length] at r0
      have e2 : Int.toNat (mm.w.op.length : Int) - Int.toNat ((i + 1 : Nat) : Int) = mm.w.op.length - (i + 1) := rfl
      have e3 : oc - Int.toNat ((i + 1 : Nat) : Int) = oc - (i + 1) := rfl
      have e4 : Int.toNat ((i + 1 : Nat) : Int) = i + 1 := rfl
      rw [e2, e3, e4]
      have hn2 := r0.len
      refine ⟨mm.w.op.length - (i + 1) + 1, ?_⟩
      have key : ∀ N j h3, j + N = mm.w.op.length - (i + 1) -> KB h2 h3 -> ((mm.w.op.drop (i + 1)).take j).all freeO = true ->
          Sx.modes_Machine_free.n8_L (fun h => K (.bool true) h) (fun h => K (.bool true) h) (fun y4 h => K (.bool y4) h) (N + 1) (if oc = i + 1 then ob else Option.map (fun q => q.add ((i + 1) * 4)) ob) (mm.w.op.length - (i + 1)) (oc - (i + 1)) ((mm.w.op.length - (i + 1) : Nat) : Int) (j : Int) h3 := by
        intro N
        induction N with
        | zero =>
          intro j h3 hj k3 hall
          unfold Sx.modes_Machine_free.n8_L LP Sx.modes_Machine_free.n8_B
          refine splF (by omega) ?_
          have := hk h3 k3
          rw [List.take_of_length_le (by omega)] at hall
          unfold scopedP at this
          rwa [show (i : Int).toNat = i from rfl, hall] at this
        | succ N ih =>
          intro j h3 hj k3 hall
          unfold Sx.modes_Machine_free.n8_L LP Sx.modes_Machine_free.n8_B
          have hjl : j < (mm.w.op.drop (i + 1)).length := by omega
          refine splT (by omega) ((r0.kb k3).idxN (i := j) hjl rfl fun q hA => ldOpen hA fun ow => newx_var fun a6 h7 v6 k6 e6 s6 => stL_var0 v6 (by show 4 <= 4; omega) fun h8 v8 k8 s8 => ldVar (m := (mm.w.op.drop (i + 1))[j]) v8 ?_)
          have k28 : KB h3 h8 := KB.step k6 k8 (by omega)
          refine newx_var fun a13 h14 v13 k13 e13 s13 => newx_var (cs := wStar.map S) fun a15 h16 v15 k15 e15 s15 => ?_
          have hx : (mm.w.op.drop (i + 1))[j] ∈ mm.w.op := List.mem_of_mem_drop (List.getElem_mem hjl)
          have ow0 : OpenW (0, 0, [42], 0) := ⟨⟨by decide, by decide⟩, ⟨by decide, by decide⟩, by decide, ⟨by decide, by decide⟩⟩
          have r2 : Row elOpen (Bel h16.size) h16 (some a13) 2 2 [(0, 0, [42], 0), (mm.w.op.drop (i + 1))[j]] :=
            Row.of (xs := cellsO (0, 0, [42], 0) ++ cellsO (mm.w.op.drop (i + 1))[j]) ⟨cellsO (0, 0, [42], 0), _, rfl, ow0.r, cellsO (mm.w.op.drop (i + 1))[j], [], by simp, ow.r, rfl⟩ (fun jj x hx => ⟨a13, rfl, (v13.kb k15).cell jj hx⟩) rfl (Nat.le_refl _) (by decide) fun x e => by cases e; exact (v13.kb k15).lt
          have k216 := (k28.trans k13).trans k15
          refine openIn_calls (sc := 0) (C.L.ml.kb (k02.trans (k3.trans k216))) (fun k hk => hk) r2 (fun x hx2 => ?_) (rowLit (ws := wStar) v15 (by decide) (by decide)) fun h18 k18 => vBool_mk (condB (fun hb => ⟨rng64 (by omega) (by omega), ih (j + 1) h18 (by omega) ((k3.trans k216).trans k18) ?_⟩) fun hb => ?_)
          · rcases List.mem_cons.1 hx2 with e | e
            · rw [e]; decide
            · rw [List.mem_singleton.1 e]; exact C.nm9 _ hx
          · rw [List.take_add_one, List.getElem?_eq_getElem hjl, List.all_append, hall]
            show (true && [_].all freeO) = true
            rw [List.all_cons, List.all_nil, Bool.and_true]
            exact hb
          · have := hk h18 ((k3.trans k216).trans k18)
            have hno : scopedP (mm.w.op.drop (i + 1)) = false := by
              unfold scopedP
              rw [Bool.eq_false_iff]
              intro hh
              have h2 := List.all_eq_true.1 hh _ (List.getElem_mem hjl)
              have hb : freeO (mm.w.op.drop (i + 1))[j] = false := hb
              rw [hb] at h2; cases h2
            rwa [show (i : Int).toNat = i from rfl, hno] at this
      exact key (mm.w.op.length - (i + 1)) 0 h2 (by omega) (KB.refl _) rfl
theorem pmEndForm (C : CP h col a w mm u v x) (hu : u <= 880000) (hk : Nxt h col a w K { mm with w := endFormW mm.w mm.fm, fm := -1 } u v x) : HCalls Tryz.prog 95 ⟨[.pointer (some a)]⟩ h K := by
  unfold endFormW at hk
  refine Sx.modes_Machine_endForm.ok _ _ _ (vSomeMk ⟨_, C.V.cell 3 rfl, vSomeMk (C.stP (mm2 := { mm with fm := -1 }) rfl rfl (by decide) fun h1 C1 E1 => ?_)⟩)
  refine spl (fun e => pmFree C1 (by omega) fun h2 k2 => vBool_mk (condB (fun e2 => condT ?_) fun e2 => condF ?_)) fun e => condF ?_
  · have e2 : freeM mm.w mm.fm = true := e2
    rw [if_pos ⟨e, e2⟩] at hk
    refine pmImplied (C1.kbP k2) [] fun h3 c3 C3 E3 => vSomeMk ⟨_, C3.V.cell 0 rfl, ?_⟩
    have hlo := C3.s.A.D.lo
    exact drop_callsW C3.p (by omega) fun h4 c4 p4 E4 _ => hk h4 c4 (C3.pa p4 E4.pa (C3.s.drop _)) (E1.trans ((ExtP.kb k2).trans (E3.trans E4.pa.px)))
  · have e2 : freeM mm.w mm.fm = false := e2
    rw [if_neg (by rw [e2]; exact fun h => by cases h.2)] at hk
    exact hk h2 col (C1.kbP k2) (E1.trans (.kb k2))
  · rw [if_neg (fun h => e h.1)] at hk
    exact hk h1 col C1 E1
theorem pmEndBlock (C : CP h col a w mm u v x) (T : TkW h col t b n c) (hk : Nxt h col a w K { mm with w := inOut mm.w 0 [] [t.2.1] } u v x) : HCalls Tryz.prog 94 ⟨[.pointer (some a), .agg ⟨tkC (tkOf t b n c)⟩]⟩ h K := by
  unfold inOut at hk
  refine Sx.modes_Machine_endBlock.ok _ _ _ _ (T.new C.f fun a1 h1 l1 k1 _ => ⟨_, l1.nm, newOne T.s.1 fun a2 h2 r2 k2 => pmIn ((C.kbP k1).kbP k2) r2 0 fun h3 k3 => ?_⟩)
  have C3 := ((C.kbP k1).kbP k2).kbP k3
  have l3 := (l1.kb k2).kb k3
  have E03 : ExtP PX h col h3 col := .kb (k1.trans (k2.trans k3))
  refine vBool_mk (condB (fun e => ?_) fun e => ?_)
  · have e : inP mm.w.op 0 [t.2.1] = true := e
    rw [if_pos e] at hk
    exact pmImplied C3 [] fun h4 c4 C4 E4 => ⟨_, (l3.ext E4).nm, newOne T.s.1 fun a5 h5 r5 k5 => pmUp (C4.kbP k5) r5 fun h6 c6 C6 E6 => hk h6 c6 C6 (E03.trans (E4.trans ((ExtP.kb k5).trans E6)))⟩
  · have e : inP mm.w.op 0 [t.2.1] = false := e
    rw [if_neg (by rw [e]; decide)] at hk
    exact hk h3 col C3 E03
theorem pmEndP (C : CP h col a w mm u v x) (hu : u <= 880000) (hk : Nxt h col a w K { mm with w := endPW mm.w } (u + 1) v x) : HCalls Tryz.prog 96 ⟨[.pointer (some a)]⟩ h K := by
  unfold endPW at hk
  refine Sx.modes_Machine_endP.ok _ _ _ (newOne (by decide) fun a1 h1 r1 k1 => pmIn (C.kbP k1) r1 2 fun h2 k2 => vBool_mk (condB (fun e => ?_) fun e => ?_))
  · have e : inP mm.w.op 2 wP = true := e
    rw [if_pos e] at hk
    exact pmCloseP ((C.kbP k1).kbP k2) fun h3 c3 C3 E3 => hk h3 c3 (C3.mono (Nat.le_succ _)) ((ExtP.kb (k1.trans k2)).trans E3)
  · have e : inP mm.w.op 2 wP = false := e
    rw [if_neg (by rw [e]; decide)] at hk
    exact pmInsert ((C.kbP k1).kbP k2) (by omega) (TkW.nil h2 col rngU0 (nm := [112]) (by decide)) fun h3 c3 C3 E3 => pmCloseP C3 fun h4 c4 C4 E4 => hk h4 c4 C4 ((ExtP.kb (k1.trans k2)).trans (E3.trans E4))
theorem pmEndItem (C : CP h col a w mm u v x) (T : TkW h col t b n c) (hk : Nxt h col a w K { mm with w := inOut mm.w (if t.2.1 = [108, 105] then 1 else 0) t.2.1 [t.2.1] } u v x) : HCalls Tryz.prog 97 ⟨[.pointer (some a), .agg ⟨tkC (tkOf t b n c)⟩]⟩ h K := by
  obtain ⟨sc, hsc⟩ : ∃ sc : Int, (if t.2.1 = [108, 105] then 1 else 0) = sc := ⟨_, rfl⟩
  rw [hsc] at hk
  unfold inOut at hk
  refine Sx.modes_Machine_endItem.ok _ _ _ _ (T.new C.f fun a1 h1 l1 k1 _ => ?_)
  have rest : ∃ s1, cell h1 (a1.add 1) = some (S s1) /\ (newx h1 #[S s1] 9 fun a2 h3 => HCalls Tryz.prog 149 ⟨[.pointer (some a), .int .u8 sc, .slice (some a2) 1 1]⟩ h3 fun v4 h5 => vBool v4 fun b6 => cond b6 (∃ s7, cell h5 (a1.add 1) = some (S s7) /\ (HCalls Tryz.prog 150 ⟨[.pointer (some a), S s7]⟩ h5 fun v8 h9 => ∃ s10, cell h9 (a1.add 1) = some (S s10) /\ (newx h9 #[S s10] 9 fun a11 h12 => HCalls Tryz.prog 151 ⟨[.pointer (some a), .slice (some a11) 1 1]⟩ h12 fun v13 h14 => K (.tuple ⟨[]⟩) h14))) (K (.tuple ⟨[]⟩) h5)) := by
    refine ⟨_, l1.nm, newOne T.s.1 fun a2 h2 r2 k2 => pmIn ((C.kbP k1).kbP k2) r2 sc fun h3 k3 => ?_⟩
    have C3 := ((C.kbP k1).kbP k2).kbP k3
    have l3 := (l1.kb k2).kb k3
    have E03 : ExtP PX h col h3 col := .kb (k1.trans (k2.trans k3))
    refine vBool_mk (condB (fun e => ?_) fun e => ?_)
    · have e : inP mm.w.op sc [t.2.1] = true := e
      rw [if_pos e] at hk
      exact ⟨_, l3.nm, pmImplied C3 t.2.1 fun h4 c4 C4 E4 => ⟨_, (l3.ext E4).nm, newOne T.s.1 fun a5 h5 r5 k5 => pmUp (C4.kbP k5) r5 fun h6 c6 C6 E6 => hk h6 c6 C6 (E03.trans (E4.trans ((ExtP.kb k5).trans E6)))⟩⟩
    · have e : inP mm.w.op sc [t.2.1] = false := e
      rw [if_neg (by rw [e]; decide)] at hk
      exact hk h3 col C3 E03
  refine ⟨_, l1.nm, spl (fun e => ?_) fun e => ?_⟩
  · rw [show sc = 1 by rw [<- hsc, if_pos e]] at rest; exact rest
  · rw [show sc = 0 by rw [<- hsc, if_neg e]] at rest; exact rest
theorem pmEndHead (C : CP h col a w mm u v x) (hk : Nxt h col a w K { mm with w := inOut mm.w 0 [] wS7 } u v x) : HCalls Tryz.prog 98 ⟨[.pointer (some a)]⟩ h K := by
  unfold inOut at hk
  refine Sx.modes_Machine_endHead.ok _ _ _ (pmHeads fun a2 h2 r2 k2 => vSliceMk (pmIn (C.kbP k2) r2 0 fun h3 k3 => ?_))
  have C3 := (C.kbP k2).kbP k3
  have E03 : ExtP PX h col h3 col := .kb (k2.trans k3)
  refine vBool_mk (condB (fun e => ?_) fun e => ?_)
  · have e : inP mm.w.op 0 wS7 = true := e
    rw [if_pos e] at hk
    exact pmImplied C3 [] fun h4 c4 C4 E4 => pmHeads fun a5 h5 r5 k5 => vSliceMk (pmUp (C4.kbP k5) r5 fun h6 c6 C6 E6 => hk h6 c6 C6 (E03.trans (E4.trans ((ExtP.kb k5).trans E6))))
  · have e : inP mm.w.op 0 wS7 = false := e
    rw [if_neg (by rw [e]; decide)] at hk
    exact hk h3 col C3 E03
theorem pmEndObject (C : CP h col a w mm u v x) (hv : v <= 10000) (T : TkW h col t b n c) (hk : Nxt h col a w K { mm with w := endObjW mm.w t.2.1 } u v x) : HCalls Tryz.prog 99 ⟨[.pointer (some a), .agg ⟨tkC (tkOf t b n c)⟩]⟩ h K := by
  unfold endObjW at hk
  refine Sx.modes_Machine_endObject.ok _ _ _ _ (T.new C.f fun a1 h1 l1 k1 _ => ⟨_, l1.nm, newOne T.s.1 fun a2 h2 r2 k2 => pmIn ((C.kbP k1).kbP k2) r2 0 fun h3 k3 => ?_⟩)
  have C3 := ((C.kbP k1).kbP k2).kbP k3
  have l3 := (l1.kb k2).kb k3
  have E03 : ExtP PX h col h3 col := .kb (k1.trans (k2.trans k3))
  refine vBool_mk (condB (fun e => condT ?_) fun e => condF ?_)
  · have e : inP mm.w.op 0 [t.2.1] = true := e
    rw [if_pos e] at hk
    refine l3.ld (pmEndBlock C3 l3.T fun h4 c4 C4 E4 => ?_)
    have ei : inOut mm.w 0 [] [t.2.1] = outW mm.w [] [t.2.1] := by unfold inOut; rw [if_pos e]
    obtain ⟨tr, ads, T4, W4⟩ := C4.p.ex
    obtain ⟨ob, oc, mb, mn, mc, vw, o, om⟩ := W4.ex
    have hml := C4.s.A.D.ml
    have hl := om.len
    obtain ⟨xs, he, hc, _⟩ := om.parts
    refine vSomeMk ⟨_, C4.V.cell 0 rfl, vSomeMk ⟨_, C4.V.cell 0 rfl, vSomeMk ⟨_, _, _, vw.cell 2 rfl, clear_calls (fun k hk => hk.2) om.row (fun k hk => hk) he hc om.nil (by omega) fun b5 n5 c5 h5 o5 k5 => vSliceMk ⟨k5.ext, vSomeMk (setMarks_k W4 C4.f k5 o5 fun h6 W6 E6 f6 _ => ?_)⟩⟩⟩⟩
    have E6a : ExtP PA h4 c4 h6 _ := E6.mono fun s hs => .inl (.inr hs)
    have s6 := C4.s.clear
    have p6 : PW h6 (putB c4 h4 b5 (2, 2)) w { inOut mm.w 0 [] [t.2.1] with mks := clearP (inOut mm.w 0 [] [t.2.1]).mks } := ⟨tr, ads, T4.otherP (S := fun k => k = 2) (by decide) E6 f6, W6⟩
    have C6 := C4.pa p6 E6a s6
    have em : (outW mm.w [] [t.2.1]).mks = mm.w.mks := by
      unfold outW upW implW closeW; rfl
    rw [ei, em] at C6
    exact hk h6 _ C6 (E03.trans (E4.trans E6a.px))
  · have e : inP mm.w.op 0 [t.2.1] = false := e
    rw [if_neg (by rw [e]; decide)] at hk
    exact hk h3 col C3 E03
end
end Go.Proofs
namespace Go.Proofs
open Go Go.Sh
set_option linter.unusedVariables false
set_option maxRecDepth 100000
section
variable {h : H} {K : Value -> H -> Prop} {col : Col} {w : Addr} {m : WM}
theorem note_callsW (p : PW h col w m) (G : GoodT m.ns) (hne : 0 < m.op.length) (hop : m.op.length < 1000000) (hns : m.ns.length < 1000000) {tx : Bs} (htx : tx.length <= maxLen)
    (hk : ∀ h' col', PW h' col' w (noteW m tx) -> ExtP PS h col h' col' -> K (.tuple ⟨[]⟩) h') :
    HCalls Tryz.prog 41 ⟨[.pointer (some w), S tx]⟩ h K := by
  obtain ⟨t, ads, T, W⟩ := p.ex
  refine Sx.place_World_Note.ok _ _ _ _ ?_
  refine current_calls W hne (by omega) fun h2 k2 => ?_
  refine agOpen (x := curM m.op) ?_
  refine where_calls (x := curM m.op) (T.kb k2) (W.kb k2) (by omega) fun h3 k3 => tupIIMk ?_
  have k13 := k2.trans k3
  obtain ⟨ob, oc, mb, mn, mc, vw, ow, omw⟩ := (W.kb k13).ex
  have G4 : GoodT (addM m.ns (bareM 3 0 [] [] tx)).1 := G.addM _ _ _ _ _
  have tail : ∀ h4 c4 ads4, TreeP h4 c4 0 t ads4 (addM m.ns (bareM 3 0 [] [] tx)).1 -> Ext 0 h3 col h4 c4 -> HCalls Tryz.prog 65 ⟨[.pointer (some t), .int .i64 (whereM m.ns m.op m.fo (curM m.op)).1, .int .i64 (whereM m.ns m.op m.fo (curM m.op)).2, .int .i64 (addM m.ns (bareM 3 0 [] [] tx)).2]⟩ h4 fun v40 h41 => vBool v40 fun b42 => cond b42 (K (.tuple ⟨[]⟩) h41) (K (.tuple ⟨[]⟩) h41) := fun h4 c4 ads4 T4 E4 => by
    refine put_calls T4 G4 fun h5 c5 T5 E5 => vBool_mk ?_
    have E4p : ExtP (fun s => s = 0) h3 col h4 c4 := E4.p rfl
    have E5p : ExtP (fun s => s = 0) h4 c4 h5 c5 := E5.p rfl
    have W5 := ((W.kb k13).ext E4p (by decide)).ext E5p (by decide)
    have fin : K (.tuple ⟨[]⟩) h5 := hk h5 c5 ⟨t, ads4, T5, W5⟩ ((ExtP.kb k13).trans ((E4p.trans E5p).mono fun s hs => .inl hs))
    exact condK (K := fun _ => K (.tuple ⟨[]⟩) h5) fin
  refine ⟨vSomeMk (vSomeMk ⟨_, vw.cell 0 rfl, make_calls (T.kb k13) (row_nilN (A := fun _ => True)) (fun _ => rfl) (by decide) ⟨by decide, by decide⟩ ⟨by decide, by decide⟩ (by decide) htx hns fun h4 c4 ads4 T4 E4 => vIntMk ?_⟩),
    vSomeMk ⟨_, vw.cell 0 rfl, vSomeMk ⟨_, vw.cell 0 rfl, make_calls (T.kb k13) (row_nilN (A := fun _ => True)) (fun _ => rfl) (by decide) ⟨by decide, by decide⟩ ⟨by decide, by decide⟩ (by decide) htx hns fun h4 c4 ads4 T4 E4 => vIntMk (tail h4 c4 ads4 T4 E4)⟩⟩⟩
  obtain ⟨ob4, oc4, mb4, mn4, mc4, vw4, _, _⟩ := ((W.kb k13).ext (S := fun s => s = 0) (E4.p rfl) (by decide)).ex
  exact ⟨_, vw4.cell 0 rfl, tail h4 c4 ads4 T4 E4⟩
end
end Go.Proofs
namespace Go.Proofs
open Go Go.Sh
set_option linter.unusedVariables false
set_option maxRecDepth 100000
theorem notOne {s w : Bs} (h : ¬ s = w) : s ∉ [w] := fun hm => h (List.mem_singleton.1 hm)
section
variable {B : Nat -> Prop} {h : H} {K : Value -> H -> Prop} {col : Col} {a w : Addr} {mm : MM} {u v x : Nat} {t : TokP} {b : Option Addr} {n c : Nat} {ns : List Bs} {s : Bs}
theorem pmStart (C : CP h col a w mm u v x) (hu : u <= 700000) (hv : v <= 10000) (T : TkW h col t b n c) (hk : Nxt h col a w K (startM mm t) (u + 2 * v + 40) (v + 1) x) : HCalls Tryz.prog 42 ⟨[.pointer (some a), .agg ⟨tkC (tkOf t b n c)⟩]⟩ h K := by
  refine Sx.modes_Machine_start.ok _ _ _ _ (T.new C.f fun a1 h1 l1 k1 _ => ⟨_, l1.nm, ?_⟩)
  have C1 := C.kbP k1
  have fin : ∀ {k : Nat} (ek : actS t.2.1 = k) {mm2 : MM} {u2 v2 : Nat} h2 c2, startN mm t k = mm2 -> CP h2 c2 a w mm2 u2 v2 x -> u2 <= u + 2 * v + 40 -> v2 <= v + 1 -> ExtP PX h1 col h2 c2 -> K (.tuple ⟨[]⟩) h2 := fun {k} ek {mm2 u2 v2} h2 c2 em C2 h1 h2' E2 => by
    unfold startM at hk
    rw [ek, em] at hk
    exact hk h2 c2 (C2.mono2 h1 h2') ((ExtP.kb k1).trans E2)
  refine orF_k (fun hm => condT (fin (actS_yes 0 (by decide) hm) h1 col rfl C1 (by omega) (by omega) (.refl _ _ _))) fun n1 => condF ?_
  refine orF_k (fun hm => condT (l1.ld (pmEmpty C1 (by omega) l1.T fun h2 c2 C2 E2 => fin (actS_yes 1 (by decide) hm) h2 c2 rfl C2 (by omega) (by omega) E2))) fun n2 => condF ?_
  refine spl (fun e => condT (l1.ld (pmRefs C1 (by omega) l1.T fun h2 c2 C2 E2 => fin (actS_yes 2 (by decide) (by rw [e]; decide)) h2 c2 rfl C2 (by omega) (by omega) E2))) fun n3 => condF ?_
  refine orF_k (fun hm => condT (l1.ld (pmRaw C1 (by omega) l1.T fun h2 c2 C2 E2 => fin (actS_yes 3 (by decide) hm) h2 c2 rfl C2 (by omega) (by omega) E2))) fun n4 => condF ?_
  refine spl (fun e => condT (l1.ld (pmScript C1 (by omega) l1.T fun h2 c2 C2 E2 => fin (actS_yes 4 (by decide) (by rw [e]; decide)) h2 c2 rfl C2 (by omega) (by omega) E2))) fun n5 => condF ?_
  refine orF_k (fun hm => condT (l1.ld (pmBlock C1 (by omega) l1.T fun h2 c2 C2 E2 => fin (actS_yes 5 (by decide) hm) h2 c2 rfl C2 (by omega) (by omega) E2))) fun n6 => condF ?_
  refine orF_k (fun hm => condT (l1.ld (pmHead C1 (by omega) l1.T fun h2 c2 C2 E2 => fin (actS_yes 6 (by decide) hm) h2 c2 rfl C2 (by omega) (by omega) E2))) fun n7 => condF ?_
  refine orF_k (fun hm => condT (l1.ld (pmPre C1 (by omega) l1.T fun h2 c2 C2 E2 => fin (actS_yes 7 (by decide) hm) h2 c2 rfl C2 (by omega) (by omega) E2))) fun n8 => condF ?_
  refine spl (fun e => condT (l1.ld (pmForm C1 (by omega) l1.T fun h2 c2 C2 E2 => fin (actS_yes 8 (by decide) (by rw [e]; decide)) h2 c2 rfl C2 (by omega) (by omega) E2))) fun n9 => condF ?_
  refine spl (fun e => condT (l1.ld (pmLi C1 (by omega) l1.T fun h2 c2 C2 E2 => fin (actS_yes 9 (by decide) (by rw [e]; decide)) h2 c2 rfl C2 (by omega) (by omega) E2))) fun n10 => condF ?_
  refine orF_k (fun hm => condT (l1.ld (pmDd C1 (by omega) l1.T fun h2 c2 C2 E2 => fin (actS_yes 10 (by decide) hm) h2 c2 rfl C2 (by omega) (by omega) E2))) fun n11 => condF ?_
  refine spl (fun e => condT (l1.ld (pmPlaintext C1 (by omega) l1.T fun h2 c2 C2 E2 => fin (actS_yes 11 (by decide) (by rw [e]; decide)) h2 c2 rfl C2 (by omega) (by omega) E2))) fun n12 => condF ?_
  refine spl (fun e => condT (l1.ld (pmButton C1 (by omega) hv l1.T fun h2 c2 C2 E2 => fin (actS_yes 12 (by decide) (by rw [e]; decide)) h2 c2 rfl C2 (by omega) (by omega) E2))) fun n13 => condF ?_
  refine spl (fun e => condT (l1.ld (pmLink C1 hu hv l1.T fun h2 c2 C2 E2 => fin (actS_yes 13 (by decide) (by rw [e]; decide)) h2 c2 rfl C2 (by omega) (by omega) E2))) fun n14 => condF ?_
  refine spl (fun e => condT (l1.ld (pmNobr C1 hu hv l1.T fun h2 c2 C2 E2 => fin (actS_yes 14 (by decide) (by rw [e]; decide)) h2 c2 rfl C2 (by omega) (by omega) E2))) fun n15 => condF ?_
  refine orF_k (fun hm => condT (l1.ld (pmObject C1 (by omega) hv l1.T fun h2 c2 C2 E2 => fin (actS_yes 15 (by decide) hm) h2 c2 rfl C2 (by omega) (by omega) E2))) fun n16 => condF ?_
  refine spl (fun e => condT (l1.ld (pmTable C1 (by omega) l1.T fun h2 c2 C2 E2 => fin (actS_yes 16 (by decide) (by rw [e]; decide)) h2 c2 rfl C2 (by omega) (by omega) E2))) fun n17 => condF ?_
  refine orF_k (fun hm => condT (l1.ld (pmAgain C1 (by omega) hv l1.T fun h2 c2 C2 E2 => fin (actS_yes 17 (by decide) hm) h2 c2 rfl C2 (by omega) (by omega) E2))) fun n18 => condF ?_
  refine spl (fun e => condT (l1.ld (pmImage C1 (by omega) hv l1.T fun h2 c2 C2 E2 => fin (actS_yes 18 (by decide) (by rw [e]; decide)) h2 c2 rfl C2 (by omega) (by omega) E2))) fun n19 => condF ?_
  refine spl (fun e => condT (l1.ld (pmHr C1 (by omega) l1.T fun h2 c2 C2 E2 => fin (actS_yes 19 (by decide) (by rw [e]; decide)) h2 c2 rfl C2 (by omega) (by omega) E2))) fun n20 => condF ?_
  refine spl (fun e => condT (l1.ld (pmTextarea C1 (by omega) l1.T fun h2 c2 C2 E2 => fin (actS_yes 20 (by decide) (by rw [e]; decide)) h2 c2 rfl C2 (by omega) (by omega) E2))) fun n21 => condF ?_
  refine spl (fun e => condT (l1.ld (pmXmp C1 (by omega) hv l1.T fun h2 c2 C2 E2 => fin (actS_yes 21 (by decide) (by rw [e]; decide)) h2 c2 rfl C2 (by omega) (by omega) E2))) fun n22 => condF ?_
  refine orF_k (fun hm => condT (l1.ld (pmOption C1 (by omega) hv l1.T fun h2 c2 C2 E2 => fin (actS_yes 22 (by decide) hm) h2 c2 rfl C2 (by omega) (by omega) E2))) fun n23 => condF ?_
  refine orF_k (fun hm => condT (l1.ld (pmRuby C1 (by omega) l1.T fun h2 c2 C2 E2 => fin (actS_yes 23 (by decide) hm) h2 c2 rfl C2 (by omega) (by omega) E2))) fun n24 => condF ?_
  refine orF_k (fun hm => condT (l1.ld (pmAlien C1 (by omega) hv l1.T fun h2 c2 C2 E2 => fin (actS_yes 24 (by decide) hm) h2 c2 rfl C2 (by omega) (by omega) E2))) fun n25 => condF ?_
  have ea : actS t.2.1 = 0 := actS_no n1 n2 (notOne n3) n4 (notOne n5) n6 n7 n8 (notOne n9) (notOne n10) n11 (notOne n12) (notOne n13) (notOne n14) (notOne n15) n16 (notOne n17) n18 (notOne n19) (notOne n20) (notOne n21) (notOne n22) n23 n24 n25
  refine ⟨_, l1.nm, formatting_calls C1.L.ml (by have := T.s.1; omega) (vBool_mk (condB (fun e => ?_) fun e => ?_))⟩
  · exact l1.ld (pmFormat C1 (by omega) hv l1.T fun h2 c2 C2 E2 => fin ea h2 c2 (by show plainS mm t = _; unfold plainS; rw [if_pos e]) C2 (by omega) (by omega) E2)
  · exact l1.ld (pmPlain C1 (by omega) hv l1.T fun h2 c2 C2 E2 => fin ea h2 c2 (by show plainS mm t = _; unfold plainS; rw [if_neg (by rw [e]; decide)]) C2 (by omega) (by omega) E2)
theorem pmEnd (C : CP h col a w mm u v x) (hu : u <= 700000) (hv : v <= 10000) (T : TkW h col t b n c) (hk : Nxt h col a w K (endM mm t.2.1) (u + 2 * v + 40) (v + 1) x) : HCalls Tryz.prog 43 ⟨[.pointer (some a), .agg ⟨tkC (tkOf t b n c)⟩]⟩ h K := by
  refine Sx.modes_Machine_end.ok _ _ _ _ (T.new C.f fun a1 h1 l1 k1 _ => ⟨_, l1.nm, ?_⟩)
  have C1 := C.kbP k1
  have T1 := TkW.nil h1 col rngU0 (nm := [98, 114]) (by decide)
  have fin : ∀ {k : Nat} (ek : actE t.2.1 = k) {w2 : WM} {f2 : Int} {u2 v2 : Nat} h2 c2, endN mm.w t.2.1 mm.fm k = w2 -> (if k = 3 then -1 else mm.fm) = f2 -> CP h2 c2 a w { mm with w := w2, fm := f2 } u2 v2 x -> u2 <= u + 2 * v + 40 -> v2 <= v + 1 -> ExtP PX h1 col h2 c2 -> K (.tuple ⟨[]⟩) h2 := fun {k} ek {w2 f2 u2 v2} h2 c2 em ef C2 h1 h2' E2 => by
    unfold endM at hk
    rw [ek, em, ef] at hk
    exact hk h2 c2 (C2.mono2 h1 h2') ((ExtP.kb k1).trans E2)
  refine orF_k (fun hm => condT (fin (actE_yes 0 (by decide) hm) h1 col rfl (if_neg (by decide)) C1 (by omega) (by omega) (.refl _ _ _))) fun n1 => condF ?_
  refine orF_k (fun hm => condT (l1.ld (pmEndBlock C1 l1.T fun h2 c2 C2 E2 => fin (actE_yes 1 (by decide) hm) h2 c2 rfl (if_neg (by decide)) C2 (by omega) (by omega) E2))) fun n2 => condF ?_
  refine spl (fun e => condT (pmEndForm C1 (by omega) fun h2 c2 C2 E2 => fin (actE_yes 2 (by decide) (by rw [e]; decide)) h2 c2 rfl (if_pos (by decide)) C2 (by omega) (by omega) E2)) fun n3 => condF ?_
  refine spl (fun e => condT (pmEndP C1 (by omega) fun h2 c2 C2 E2 => fin (actE_yes 3 (by decide) (by rw [e]; decide)) h2 c2 rfl (if_neg (by decide)) C2 (by omega) (by omega) E2)) fun n4 => condF ?_
  refine orF_k (fun hm => condT (l1.ld (pmEndItem C1 l1.T fun h2 c2 C2 E2 => fin (actE_yes 4 (by decide) hm) h2 c2 rfl (if_neg (by decide)) C2 (by omega) (by omega) E2))) fun n5 => condF ?_
  refine orF_k (fun hm => condT (pmEndHead C1 fun h2 c2 C2 E2 => fin (actE_yes 5 (by decide) hm) h2 c2 rfl (if_neg (by decide)) C2 (by omega) (by omega) E2)) fun n6 => condF ?_
  refine orF_k (fun hm => condT (l1.ld (pmEndObject C1 hv l1.T fun h2 c2 C2 E2 => fin (actE_yes 6 (by decide) hm) h2 c2 rfl (if_neg (by decide)) C2 (by omega) (by omega) E2))) fun n7 => condF ?_
  refine spl (fun e => condT (pmAgain (t := tokNm 0 [98, 114]) (b := none) (n := 0) (c := 0) C1 (by omega) hv T1 fun h2 c2 C2 E2 => fin (actE_yes 7 (by decide) (by rw [e]; decide)) h2 c2 rfl (if_neg (by decide)) C2 (by omega) (by omega) E2)) fun n8 => condF ?_
  have ea : actE t.2.1 = 0 := actE_no n1 n2 (notOne n3) (notOne n4) n5 n6 n7 (notOne n8)
  refine ⟨_, l1.nm, formatting_calls C1.L.ml (by have := T.s.1; omega) (vBool_mk (condB (fun e => ?_) fun e => ?_))⟩
  · exact l1.ld (pmLeave C1 (by omega) hv l1.T fun h2 c2 C2 E2 => fin ea h2 c2 (by show (if formattingP t.2.1 = true then leaveW mm.w t.2.1 else closeA mm.w t.2.1) = _; rw [if_pos e]) (if_neg (by decide)) C2 (by omega) (by omega) E2)
  · have hlo := C1.s.A.D.lo
    exact vSomeMk ⟨_, C1.V.cell 0 rfl, _, l1.nm, adClose_calls C1.L C1.p (by omega) (fun y hy => by have := C1.s.A.nml y hy; omega) fun h3 c3 p3 E3 => fin ea h3 c3 (by show (if formattingP t.2.1 = true then leaveW mm.w t.2.1 else closeA mm.w t.2.1) = _; rw [if_neg (by rw [e]; decide)]) (if_neg (by decide)) (C1.pa p3 E3.pa (C1.s.close _)) (by omega) (by omega) E3.pa.px⟩
theorem CG.few {Wp : H -> Col -> Addr -> WM -> Prop} {ty z : Nat} (C : CG Wp ty z h col a w mm u v x) (hx : x <= 100000000) {tx : Bs} (ht : tx.length <= 4000) : ∀ (i : Nat) y, mm.w.ns[i]? = some y -> y.text.length + tx.length <= 9223372036854775807 := fun i y hy => by
  have := C.s.A.D.tx i y hy
  omega
theorem pmWrite (C : CP h col a w mm u v x) (hu : u <= 890000) (hx : x <= 100000000) (hs : s.length <= 4000) (hk : Nxt h col a w K { mm with w := writeW mm.w s } (u + 1) v (x + 4000)) : HCalls Tryz.prog 36 ⟨[.pointer (some w), S s]⟩ h K := by
  have hlo := C.s.A.D.lo
  have hln := C.s.A.D.ln
  exact write_callsW C.p C.s.A.D.G C.s.A.D.ne (by omega) (by omega) (C.few hx hs) (by simp only [maxLen]; omega) fun h2 c2 p2 E2 => hk h2 c2 (C.pa p2 E2.pa (C.s.write hs)) E2.pa.px
theorem pmBody (C : CP h col a w mm u v x) (hu : u <= 700000) (hv : v <= 10000) (hx : x <= 100000000) (T : TkW h col t b n c) (hk : Nxt h col a w K (bodyM mm t) (u + 2 * v + 40) (v + 1) (x + 4000)) : HCalls Tryz.prog 21 ⟨[.pointer (some a), .agg ⟨tkC (tkOf t b n c)⟩]⟩ h K := by
  unfold bodyM at hk
  refine Sx.modes_Body.ok _ _ _ _ (T.new C.f fun a1 h1 l1 k1 _ => ⟨_, l1.V.cell 0 rfl, ?_⟩)
  have C1 := C.kbP k1
  refine spl (fun e => condT ?_) fun e => condF (spl (fun e2 => condT ?_) fun e2 => condF (spl (fun e3 => ?_) fun e3 => spl (fun e4 => ?_) fun e4 => ?_))
  · have e : t.1 = 1 := e
    rw [if_pos e] at hk
    exact vSomeMk ⟨_, C1.V.cell 0 rfl, pmReb C1 (by omega) hv fun h2 c2 C2 E2 => vSomeMk ⟨_, C2.V.cell 0 rfl, _, (l1.ext E2).V.cell 4 rfl, pmWrite C2 (by omega) hx T.s.2.2.2 fun h3 c3 C3 E3 => hk h3 c3 (C3.mono2 (by omega) (by omega)) ((ExtP.kb k1).trans (E2.trans E3))⟩⟩
  · have e : ¬ t.1 = 1 := e
    have e2 : t.1 = 4 := e2
    rw [if_neg e, if_pos e2] at hk
    have hlo := C1.s.A.D.lo
    have hln := C1.s.A.D.ln
    have ht := T.s.2.2.2
    exact vSomeMk ⟨_, C1.V.cell 0 rfl, _, l1.V.cell 4 rfl, note_callsW C1.p C1.s.A.D.G C1.s.A.D.ne (by omega) (by omega) (by show t.2.2.2.2.length <= _; simp only [maxLen]; omega) fun h2 c2 p2 E2 => hk h2 c2 ((C1.pa p2 E2.pa (C1.s.note ht)).mono2 (by omega) (by omega)) ((ExtP.kb k1).trans E2.pa.px)⟩
  · have e : ¬ t.1 = 1 := e
    have e2 : ¬ t.1 = 4 := e2
    have e3 : t.1 = 2 := e3
    rw [if_neg e, if_neg e2, if_pos e3] at hk
    exact l1.ld (pmStart C1 hu hv l1.T fun h2 c2 C2 E2 => hk h2 c2 (C2.mono3 (Nat.le_refl _) (Nat.le_refl _) (by omega)) ((ExtP.kb k1).trans E2))
  · have e : ¬ t.1 = 1 := e
    have e2 : ¬ t.1 = 4 := e2
    have e3 : ¬ t.1 = 2 := e3
    have e4 : t.1 = 3 := e4
    rw [if_neg e, if_neg e2, if_neg e3, if_pos e4] at hk
    exact l1.ld (pmEnd C1 hu hv l1.T fun h2 c2 C2 E2 => hk h2 c2 (C2.mono3 (Nat.le_refl _) (Nat.le_refl _) (by omega)) ((ExtP.kb k1).trans E2))
  · have e : ¬ t.1 = 1 := e
    have e2 : ¬ t.1 = 4 := e2
    have e3 : ¬ t.1 = 2 := e3
    have e4 : ¬ t.1 = 3 := e4
    rw [if_neg e, if_neg e2, if_neg e3, if_neg e4] at hk
    exact hk h1 col (C1.mono3 (by omega) (by omega) (by omega)) (.kb k1)
theorem pmText (C : CP h col a w mm u v x) (hu : u <= 800000) (hx : x <= 100000000) (T : TkW h col t b n c) (hk : Nxt h col a w K (textM mm t) (u + 1) v (x + 4000)) : HCalls Tryz.prog 19 ⟨[.pointer (some a), .agg ⟨tkC (tkOf t b n c)⟩]⟩ h K := by
  unfold textM at hk
  refine Sx.modes_Text.ok _ _ _ _ (T.new C.f fun a1 h1 l1 k1 _ => ⟨_, l1.V.cell 0 rfl, ?_⟩)
  have C1 := C.kbP k1
  refine spl (fun e => ?_) fun e => ?_
  · have e : t.1 = 1 := e
    rw [if_pos e] at hk
    exact vSomeMk ⟨_, C1.V.cell 0 rfl, _, l1.V.cell 4 rfl, pmWrite C1 (by omega) hx T.s.2.2.2 fun h3 c3 C3 E3 => hk h3 c3 C3 ((ExtP.kb k1).trans E3)⟩
  · have e : ¬ t.1 = 1 := e
    rw [if_neg e] at hk
    exact pmPop C1 (by omega) fun h2 c2 C2 E2 => vSomeMk ⟨_, C2.V.cell 2 rfl, vSomeMk (C2.stP (mm2 := { mm with w := popW mm.w, mode := mm.back }) rfl rfl (by decide) fun h3 C3 E3 => vSomeMk (C3.stP (mm2 := { mm with w := popW mm.w, mode := mm.back, read := 0 }) rfl rfl (by decide) fun h4 C4 E4 => vSomeMk (C4.stP (mm2 := { mm with w := popW mm.w, mode := mm.back, read := 0, nm := [] }) rfl rfl (by decide) fun h5 C5 E5 => hk h5 _ (C5.mono3 (by omega) (Nat.le_refl _) (by omega)) ((ExtP.kb k1).trans (E2.trans (E3.trans (E4.trans E5)))))))⟩
theorem pmNew {h : H} {col : Col} {K : Value -> H -> Prop} (f : Fresh h col) (L : Lib0 h col) (hk : ∀ a w h' c', CP h' c' a w mm0 1 0 0 -> ExtP PX h col h' c' -> K (.pointer (some a)) h') : HCalls Tryz.prog 14 ⟨[]⟩ h K := by
  refine Sx.modes_New.ok _ _ (placeNew_calls f fun w h1 c1 p1 E1 => vPtrMk (newx_var fun a2 h2 v2 k2 e2 s2 => ?_))
  have hsz : h1.size <= a2.block := by omega
  have E2 : ExtP PX h1 c1 h2 (paint c1 a2.block (6, 0)) := ⟨k2.less fun k hk => hk.1, fun k hk => paint_ne (by omega)⟩
  have f2 : Fresh h2 (paint c1 a2.block (6, 0)) := (p1.fresh.kb k2).paint v2.lt
  have p2 : PW h2 (paint c1 a2.block (6, 0)) w wm0 := p1.ext (Z := fun _ => False) ⟨k2.less fun k hk => hk.1, fun k hk => paint_ne (by omega)⟩ id id f2
  exact hk a2 w h2 _ ⟨v2, paint_at, p2, f2, L.ext (E1.pa.px.trans E2), ⟨AI.zero, MW.zero⟩⟩ (E1.pa.px.trans E2)
end
end Go.Proofs
namespace Go.Proofs
open Go Go.Sh
set_option linter.unusedVariables false
set_option maxRecDepth 100000
theorem sub_one (s : Bs) : sub s (1 : Int) (s.length : Int) = s.drop 1 := by
  unfold sub
  rw [show Int.toNat (1 : Int) = 1 from rfl, Int.toNat_natCast]
  exact List.take_of_length_le (by rw [List.length_drop]; exact Nat.le_refl _)
abbrev tokDrop (t : TokP) : TokP := (t.1, t.2.1, t.2.2.1, t.2.2.2.1, t.2.2.2.2.drop 1)
theorem ldT_v {h : H} {a : Addr} {ty : Nat} {t : Tk} {K : Tk -> Prop} (v : Var h a ty (tkC t)) (hk : K t) : ldT h a K := ⟨_, v.cell 0 rfl, _, v.cell 1 rfl, _, _, _, v.cell 2 rfl, _, v.cell 3 rfl, _, v.cell 4 rfl, hk⟩
def Two (g3 g4 : Nat) (h h' : H) : Prop := SK (fun k => k ≠ g3 /\ k ≠ g4) h h' /\ h'.size = h.size
section
variable {h h' : H} {t : TokP} {b : Option Addr} {n c : Nat} {x3 x4 : Addr} {cs : List Value}
theorem nl_tail (v3 : Var h x3 45 (tkC (tkOf t b n c))) (v4 : Var h x4 45 cs) (hcs : cs.length = 5) (hne : x3.block ≠ x4.block) (hh : t.2.2.2.2.head? = some 10) {Kr : Addr -> Bool -> H -> Prop}
    (hk : ∀ h5, Var h5 x4 45 (tkC (tkOf (tokDrop t) b n c)) -> Two x3.block x4.block h h5 -> Kr x4 (!decide (t.2.2.2.2.drop 1 = [])) h5) :
    ∃ s3, cell h (x3.add 4) = some (S s3) /\ ((0 <= (1 : Int) /\ (1 : Int) <= (s3.length : Int) /\ (s3.length : Int) <= (s3.length : Int)) /\ (stL (x3.add 4) [(S (sub s3 (1 : Int) (s3.length : Int)))] 0 h fun h4 => (ldT h4 x3 fun t5 => stL x4 [.int .u8 t5.k, S t5.n, .slice t5.b t5.l t5.c, .bool t5.z, S t5.t] 0 h4 fun h6 => ∃ s7, cell h6 (x3.add 4) = some (S s7) /\ (Spl (s7 = ([] : List UInt8)) (Kr x4 false h6) (Kr x4 true h6))) /\ ((ldT h4 x3 fun t8 => ∃ s9, cell h4 (x3.add 4) = some (S s9) /\ (stL x4 [.int .u8 t8.k, S t8.n, .slice t8.b t8.l t8.c, .bool t8.z, S t8.t] 0 h4 fun h10 => Spl (s9 = ([] : List UInt8)) (Kr x4 false h10) (Kr x4 true h10))) /\ (ldT h4 x3 fun t11 => ∃ s12, cell h4 (x3.add 4) = some (S s12) /\ (Spl (s12 = ([] : List UInt8)) (stL x4 [.int .u8 t11.k, S t11.n, .slice t11.b t11.l t11.c, .bool t11.z, S t11.t] 0 h4 fun h13 => Kr x4 false h13) (stL x4 [.int .u8 t11.k, S t11.n, .slice t11.b t11.l t11.c, .bool t11.z, S t11.t] 0 h4 fun h14 => Kr x4 true h14)))))) := by
  have hl : 1 <= t.2.2.2.2.length := by
    cases hq : t.2.2.2.2 with
    | nil => rw [hq] at hh; cases hh
    | cons a l => simp
  refine ⟨t.2.2.2.2, v3.cell 4 rfl, ⟨⟨by omega, by omega, by omega⟩, stL_var (m := 4) (i := 0) v3 (by show 4 + 0 + 1 <= 5; omega) fun h4 v34 k4 s4 => ?_⟩⟩
  have w3 : Var h4 x3 45 (tkC (tkOf (tokDrop t) b n c)) := by rw [sub_one] at v34; exact v34
  have w4 : Var h4 x4 45 cs := v4.keep k4.w fun e => hne e.symm
  have put : ∀ {Q : H -> Prop}, (∀ h5, Var h5 x4 45 (tkC (tkOf (tokDrop t) b n c)) -> Var h5 x3 45 (tkC (tkOf (tokDrop t) b n c)) -> Two x3.block x4.block h h5 -> Q h5) -> stL x4 (tkC (tkOf (tokDrop t) b n c)) 0 h4 Q := fun {Q} hQ =>
    stL_var0 w4 (by rw [hcs]; exact Nat.le_refl _) fun h5 v5 k5 s5 => hQ h5 (by
      match cs, hcs, v5 with
      | [_, _, _, _, _], _, v5 => exact v5) (w3.keep k5.w fun e => hne e) ⟨SK.trans (k4.less fun k hk => hk.1) (k5.less fun k hk => hk.2), by rw [s5, s4]⟩
  have yes : ∀ h5, Var h5 x4 45 (tkC (tkOf (tokDrop t) b n c)) -> Two x3.block x4.block h h5 -> t.2.2.2.2.drop 1 = [] -> Kr x4 false h5 := fun h5 v5 k5 e => by
    have := hk h5 v5 k5
    rwa [decide_eq_true e] at this
  have no : ∀ h5, Var h5 x4 45 (tkC (tkOf (tokDrop t) b n c)) -> Two x3.block x4.block h h5 -> ¬ t.2.2.2.2.drop 1 = [] -> Kr x4 true h5 := fun h5 v5 k5 e => by
    have := hk h5 v5 k5
    rwa [decide_eq_false e] at this
  refine ⟨ldT_v w3 (put fun h5 v5 v53 k5 => ⟨_, v53.cell 4 rfl, spl (fun e => yes h5 v5 k5 e) fun e => no h5 v5 k5 e⟩), ldT_v w3 ⟨_, w3.cell 4 rfl, put fun h5 v5 v53 k5 => spl (fun e => yes h5 v5 k5 e) fun e => no h5 v5 k5 e⟩, ldT_v w3 ⟨_, w3.cell 4 rfl, spl (fun e => put fun h5 v5 v53 k5 => yes h5 v5 k5 e) fun e => put fun h5 v5 v53 k5 => no h5 v5 k5 e⟩⟩
end
section
variable {h h3 h4 : H} {K : Value -> H -> Prop} {col : Col} {a w : Addr} {mm mmo : MM} {u v x : Nat} {t : TokP} {b : Option Addr} {n c : Nat} {s : Bs} {Wp : H -> Col -> Addr -> WM -> Prop} {ty z g3 g4 : Nat}
theorem CG.two (C0 : CG Wp ty z h col a w mmo u v x) (hW : ∀ h', ExtP (fun s => s = z) h col h' col -> Fresh h' col -> Wp h' col w mm.w) (C : CG Wp ty z h3 col a w mm u v x) (E : ExtP (fun s => s = z) h col h3 col) (k : Two g3 g4 h3 h4) (h1 : h.size <= g3) (h2 : h.size <= g4) : CG Wp ty z h4 col a w mm u v x /\ ExtP (fun s => s = z) h col h4 col := by
  have E4 : ExtP (fun s => s = z) h col h4 col := ⟨SK.trans E.sk (k.1.less fun q hq => ⟨by have := hq.1; omega, by have := hq.1; omega⟩), fun _ _ => rfl⟩
  have f4 : Fresh h4 col := fun q hq => C.f q (by rw [<- k.2]; exact hq)
  have hl := C0.V.lt
  exact ⟨⟨C.V.keep k.1.w ⟨by omega, by omega⟩, C.O, hW h4 E4 f4, f4, C0.L.ext E4, C.s⟩, E4⟩
theorem pre_calls {p : Bs} (hk : K (.bool (p.isPrefixOf s)) h) : HCalls Tryz.prog 35 ⟨[S s, S p]⟩ h K :=
  hcalls_of (v := .bool (p.isPrefixOf s)) (fun w _ => Tryz.strings_HasPrefix ⟨⟨s⟩⟩ ⟨⟨p⟩⟩ w) hk
theorem pre_head (s : Bs) : ([10] : Bs).isPrefixOf s = decide (s.head? = some 10) := by
  cases s with
  | nil => rfl
  | cons a l =>
    show ((10 == a) && ([] : Bs).isPrefixOf l) = decide (some a = some 10)
    rw [show ([] : Bs).isPrefixOf l = true from rfl, Bool.and_true]
    by_cases h : a = 10
    · subst h; rfl
    · rw [decide_eq_false (fun e => h (Option.some.inj e))]
      exact beq_eq_false_iff_ne.2 fun e => h e.symm
theorem pmNewline (C : CP h col a w mm u v x) (T : TkW h col t b n c) (hk : ∀ h' c', CP h' c' a w (nlM mm) u v x -> ExtP PX h col h' c' -> K (.tuple ⟨[.agg ⟨tkC (tkOf (nlT mm t) b n c)⟩, .bool (nlL mm t)]⟩) h') :
    HCalls Tryz.prog 16 ⟨[.pointer (some a), .agg ⟨tkC (tkOf t b n c)⟩]⟩ h K := by
  refine Sx.modes_Newline.ok _ _ _ _ (T.new C.f fun a1 h1 l1 k1 g1 => newx_var fun a2 h2 v2 k2 e2 s2 => ?_)
  have C2 := (C.kbP k1).kbP k2
  have z1 := k1.1
  have hl1 := l1.V.lt
  have hne : a1.block ≠ a2.block := by omega
  have E2 : ExtP (fun s => s = 6) h col h2 col := .kb (k1.trans k2)
  have ca1 : col a1.block = none := l1.O
  have ca2 : col a2.block = none := C.f _ (by omega)
  have hW : ∀ h', ExtP (fun s => s = 6) h col h' col -> Fresh h' col -> PW h' col w mm.w := fun h' E f => C.p.ext E (by decide) (by decide) f
  obtain ⟨KR, hKR⟩ : ∃ KR : Sx.modes_Newline.T0, KR = fun y4 y5 h => ldT h y4 fun t28 => K (.tuple ⟨[.agg ⟨tkC t28⟩, .bool y5]⟩) h := ⟨_, rfl⟩
  have main : ∀ sk : Bool, mm.skip = sk -> ∀ h3, CP h3 col a w (nlM mm) u v x -> ExtP (fun s => s = 6) h2 col h3 col -> Sx.modes_Newline.n4 a1 a2 sk KR KR h3 := fun sk hsk h3 C3 E3 => by
    have w1 : Var h3 a1 45 (tkC (tkOf t b n c)) := (l1.V.kb k2).keep E3.keepF ⟨ca1, (l1.V.kb k2).lt⟩
    have w2 := v2.keep E3.keepF ⟨ca2, v2.lt⟩
    have E03 := E2.trans E3
    have fin : ∀ h5 (t' : TokP) (lf : Bool), Two a1.block a2.block h3 h5 -> nlT mm t = t' -> nlL mm t = lf -> Var h5 a2 45 (tkC (tkOf t' b n c)) -> KR a2 lf h5 := fun h5 t' lf k5 et el v5 => by
      subst et; subst el
      obtain ⟨C5, E5⟩ := CG.two (mm := nlM mm) (mmo := mm) C hW C3 E03 k5 g1 (by omega)
      rw [hKR]
      exact ldT_v v5 (hk h5 col C5 (E5.mono fun s hs => .inr hs))
    have no : nlB mm t = false -> Sx.modes_Newline.n5 a1 a2 KR KR h3 := fun e => ldT_v w1 (stL_var0 w2 (by show 5 <= 5; omega) fun h5 v5 k5 s5 => fin h5 t true ⟨k5.less fun k hk => hk.2, s5⟩ (by unfold nlT; rw [if_neg (by rw [e]; decide)]) (by unfold nlL; rw [if_neg (by rw [e]; decide)]) v5)
    have eB : nlB mm t = (sk && (decide (t.1 = 1) && decide (t.2.2.2.2.head? = some 10))) := by rw [<- hsk]; rfl
    refine condB (fun es => ⟨_, w1.cell 0 rfl, spl (fun e1 => ⟨_, w1.cell 4 rfl, pre_calls (vBool_mk (condB (fun e2 => condT ?_) fun e2 => condF (no ?_)))⟩) fun e1 => condF (no ?_)⟩) fun es => condF (no ?_)
    · have e2 : t.2.2.2.2.head? = some 10 := by rw [pre_head] at e2; exact of_decide_eq_true e2
      have e1 : t.1 = 1 := e1
      have e : nlB mm t = true := by rw [eB, es, decide_eq_true e1, decide_eq_true e2]; rfl
      exact nl_tail w1 w2 rfl hne e2 fun h5 v5 k5 => fin h5 (tokDrop t) _ k5 (by unfold nlT; rw [if_pos e]) (by unfold nlL; rw [if_pos e]) v5
    · rw [pre_head] at e2
      rw [eB, show decide (t.2.2.2.2.head? = some 10) = false from e2, Bool.and_false, Bool.and_false]
    · have e1 : ¬ t.1 = 1 := e1
      rw [eB, decide_eq_false e1, Bool.false_and, Bool.and_false]
    · rw [eB, es, Bool.false_and]
  refine vSomeMk ⟨_, C2.V.cell 4 rfl, condB (fun e => ?_) fun e => ?_⟩
  all_goals
    refine vSomeMk (C2.st (mm2 := nlM mm) (fun h' E f => C2.p.ext E (by decide) (by decide) f) rfl rfl (by decide) fun h3 C3 E3 => ?_)
    have := main _ e h3 C3 E3
    rw [hKR] at this
    exact this
end
end Go.Proofs
namespace Go.Proofs
open Go Go.Sh
set_option linter.unusedVariables false
set_option maxRecDepth 100000
def ToksS (l : List TokP) : Prop := l.length <= 200 /\ ∀ t ∈ l, TokS t
theorem ExtP.kbz {Z : Nat -> Prop} {h h' : H} {col' : Col} (e : ExtP Z h (fun _ => none) h' col') : KB h h' := e.sk.less fun k hk => ⟨hk, fun s p _ e2 => by cases e2⟩
theorem tupTB {t : Tk} {z : Bool} {k : Tk -> Bool -> Prop} (h : k t z) : vTup (.tuple ⟨[.agg ⟨tkC t⟩, .bool z]⟩) fun l => uncons l fun e l => dT e fun t => uncons l fun e l => vBool e fun z => unnil l (k t z) := h
section
variable {A : Nat -> Prop} {h h' : H} {K : Value -> H -> Prop} {col : Col} {a w : Addr} {mm : MM} {u v x : Nat} {t : TokP} {b : Option Addr} {n c : Nat} {l : List TokP}
theorem ldTok (R : Row elTok (Free col h) h b n c l) (f : Fresh h col) (hl : ToksS l) {i : Nat} (hi : i < l.length) {zs : List Value} (hz : zs.length = 5) {Q : Addr -> H -> Prop} (hk : ∀ a h' b' n' c', LT h' col a l[i] b' n' c' -> KB h h' -> Q a h') :
    (0 <= (i : Int) /\ (i : Int) < (n : Int)) /\ (vSome b fun a32 => ldT h (a32.add (Int.toNat (i : Int) * 5)) fun t33 => newx h ⟨zs⟩ 45 fun a34 h35 => stL a34 [.int .u8 t33.k, S t33.n, .slice t33.b t33.l t33.c, .bool t33.z, S t33.t] 0 h35 fun h36 => Q a34 h36) := by
  refine R.idxN hi rfl fun q hA => ?_
  obtain ⟨b', n', c', C⟩ := tokAt hA
  refine ⟨_, C.c0, _, C.c1, _, _, _, C.c2, _, C.c3, _, C.c4, newx_var fun a1 h1 v1 k1 e1 s1 => stL_var0 v1 (by rw [hz]; exact Nat.le_refl _) fun h2 v2 k2 s2 => ?_⟩
  have k02 : KB h h2 := KB.step k1 k2 (by omega)
  refine hk a1 h2 b' n' c' ⟨?_, f _ (by omega), ⟨(ExtP.kb (S := fun _ => False) k02).row C.row, C.nil, C.rk, hl.2 _ (List.getElem_mem hi)⟩⟩ k02
  match zs, hz, v2 with
  | [_, _, _, _, _], _, v2 => exact v2
theorem LT.copy (T : TkW h col t b n c) (f : Fresh h col) {zs : List Value} (hz : zs.length = 5) {Q : Addr -> H -> Prop} (hk : ∀ a h', LT h' col a t b n c -> KB h h' -> Q a h') :
    newx h ⟨zs⟩ 45 fun a26 h27 => stL a26 (tkC (tkOf t b n c)) 0 h27 fun h28 => Q a26 h28 := by
  refine newx_var fun a1 h1 v1 k1 e1 s1 => stL_var0 v1 (by rw [hz]; exact Nat.le_refl _) fun h2 v2 k2 s2 => ?_
  have k02 : KB h h2 := KB.step k1 k2 (by omega)
  refine hk a1 h2 ⟨?_, f _ (by omega), T.kb k02⟩ k02
  match zs, hz, v2 with
  | [_, _, _, _, _], _, v2 => exact v2
theorem nlT_w (T : TkW h col t b n c) : TkW h col (nlT mm t) b n c := by
  have s := nlT_s (mm := mm) T.s
  unfold nlT at *
  split
  · rename_i e
    rw [if_pos e] at s
    exact ⟨T.r, T.z, T.k, s⟩
  · exact T
theorem pmPlay (L : Lib0 h (fun _ => none)) (f : Fresh h (fun _ => none)) (R : Row elTok (Free (fun _ => none) h) h b n c l) (hl : ToksS l) (D : Nat) (hD : Deep D (playM l).w.ns 0)
    (hk : ∀ h' base b n c, h.size <= base -> KB h h' -> OwnR (elNode D) h' base 70 b n c (wholeL D (playM l).w.ns 0) -> K (.slice b n c) h') : HCalls Tryz.prog 8 ⟨[.slice b n c]⟩ h K := by
  have hlen := R.len
  have hl200 := hl.1
  refine Sx.modes_Play.ok _ _ _ _ _ (pmNew f L fun a w h1 c1 C1 E1 => vPtrMk ?_)
  refine ⟨n + 1, ?_⟩
  have key : ∀ N i (mm : MM) h2 c2, i + N = n -> CP h2 c2 a w mm (1 + i * 440) i (i * 4000) -> ExtP PX h (fun _ => none) h2 c2 -> (l.drop i).foldl stepM mm = playM l ->
      Sx.modes_Play.n7_L (fun x3 h => Sx.modes_Play.n4 x3 (fun y2b y2n y2c h => K (.slice y2b y2n y2c) h) (fun y2b y2n y2c h => K (.slice y2b y2n y2c) h) h) (fun x3 h => Sx.modes_Play.n4 x3 (fun y2b y2n y2c h => K (.slice y2b y2n y2c) h) (fun y2b y2n y2c h => K (.slice y2b y2n y2c) h) h) (fun y2b y2n y2c h => K (.slice y2b y2n y2c) h) (N + 1) (some a) b n c (n : Int) (i : Int) h2 := by
    intro N
    induction N with
    | zero =>
      intro i mm h2 c2 hi C2 E2 hf
      unfold Sx.modes_Play.n7_L LP Sx.modes_Play.n7_B
      refine splF (by omega) (vBool_mk (condF ?_))
      rw [List.drop_of_length_le (by omega)] at hf
      have hf : mm = playM l := hf
      subst hf
      obtain ⟨tr, ads, T2, W2⟩ := C2.p.ex
      obtain ⟨ob, oc, mb, mn, mc, vw, o, om⟩ := W2.ex
      exact vSomeMk ⟨_, C2.V.cell 0 rfl, vSomeMk ⟨_, vw.cell 0 rfl, whole_calls C2.s.A.D.G D 0 T2 hD fun h3 b3 n3 c3 k3 o3 => vSliceMk (hk h3 h2.size b3 n3 c3 E2.sk.1 (E2.kbz.trans k3) o3)⟩⟩
    | succ N ih =>
      intro i mm h2 c2 hi C2 E2 hf
      unfold Sx.modes_Play.n7_L LP Sx.modes_Play.n7_B
      have hil : i < l.length := by omega
      rw [List.drop_eq_getElem_cons hil] at hf
      have hf : (l.drop (i + 1)).foldl stepM (stepM mm l[i]) = playM l := hf
      refine splT (by omega) (vBool_mk (condT (ldTok (E2.row R) C2.f hl hil rfl fun a5 h5 b5 n5 c5 l5 k5 => l5.ld (pmNewline (C2.kbP k5) l5.T fun h6 c6 C6 E6 => ?_))))
      have E06 := E2.trans ((ExtP.kb k5).trans E6)
      have T6 := nlT_w (mm := mm) (l5.T.ext E6)
      have ss : stepM mm l[i] = if nlL mm l[i] = true then (if mm.mode = 1 then textM (nlM mm) (nlT mm l[i]) else bodyM (nlM mm) (nlT mm l[i])) else nlM mm := rfl
      have go : ∀ h8 c8 (m8 : MM) {u2 v2 x2 : Nat}, CP h8 c8 a w m8 u2 v2 x2 -> u2 <= 1 + i * 440 + 2 * i + 40 -> v2 <= i + 1 -> x2 <= i * 4000 + 4000 -> ExtP PX h (fun _ => none) h8 c8 -> m8 = stepM mm l[i] -> Rng .i64 ((i : Int) + (1 : Int)) /\ Sx.modes_Play.n7_L (fun x3 h => Sx.modes_Play.n4 x3 (fun y2b y2n y2c h => K (.slice y2b y2n y2c) h) (fun y2b y2n y2c h => K (.slice y2b y2n y2c) h) h) (fun x3 h => Sx.modes_Play.n4 x3 (fun y2b y2n y2c h => K (.slice y2b y2n y2c) h) (fun y2b y2n y2c h => K (.slice y2b y2n y2c) h) h) (fun y2b y2n y2c h => K (.slice y2b y2n y2c) h) (N + 1) (some a) b n c (n : Int) ((i : Int) + (1 : Int)) h8 := fun h8 c8 m8 {u2 v2 x2} C8 h1 h2 h3 E8 e8 => by
        subst e8
        exact ⟨rng64 (by omega) (by omega), ih (i + 1) _ h8 c8 (by omega) (C8.mono3 (by omega) h2 (by omega)) E8 hf⟩
      refine tupTB (condB (fun e => ?_) fun e => ?_)
      · rw [if_pos e] at ss
        refine LT.copy T6 C6.f rfl fun a7 h7 l7 k7 => condT (vSomeMk ⟨_, (C6.kbP k7).V.cell 1 rfl, spl (fun em => ?_) fun em => ?_⟩)
        · have em : mm.mode = 1 := em
          rw [if_pos em] at ss
          exact l7.ld (pmText (C6.kbP k7) (by omega) (by omega) l7.T fun h8 c8 C8 E8 => go h8 c8 _ C8 (by omega) (by omega) (by omega) (E06.trans ((ExtP.kb k7).trans E8)) ss.symm)
        · have em : ¬ mm.mode = 1 := em
          rw [if_neg em] at ss
          exact l7.ld (pmBody (C6.kbP k7) (by omega) (by omega) (by omega) l7.T fun h8 c8 C8 E8 => go h8 c8 _ C8 (by omega) (by omega) (by omega) (E06.trans ((ExtP.kb k7).trans E8)) ss.symm)
      · rw [if_neg (by rw [e]; decide)] at ss
        exact LT.copy T6 C6.f rfl fun a7 h7 l7 k7 => condF (go h7 c6 _ (C6.kbP k7) (by omega) (by omega) (by omega) (E06.trans (.kb k7)) ss.symm)
  exact key n 0 mm0 h1 c1 (by omega) C1 E1 rfl
end
end Go.Proofs
namespace Go.Proofs
open Go Go.Sh
set_option linter.unusedVariables false
set_option maxRecDepth 100000
def kd : Value -> Nat
  | .int .u8 _ => 1
  | .string _ => 2
  | .slice _ _ _ => 3
  | _ => 0
theorem kd_int {v : Value} (h : kd v = 1) : ∃ i, v = .int .u8 i := by
  unfold kd at h
  split at h
  · exact ⟨_, rfl⟩
  · cases h
  · cases h
  · cases h
theorem kd_str {v : Value} (h : kd v = 2) : ∃ s, v = S s := by
  unfold kd at h
  split at h
  · cases h
  · rename_i t; exact ⟨t.data.toList, rfl⟩
  · cases h
  · cases h
theorem cell_inv {h : H} {a : Addr} {u : Value} (e : cell h a = some u) : ∃ c t fz, h[a.block]? = some (.cells c t fz) /\ a.spot = none /\ c[a.off]? = some u := by
  unfold Sh.cell at e
  split at e
  · rename_i c t fz hg
    split at e
    · cases e
    · rename_i hs
      exact ⟨c, t, fz, hg, by simpa using hs, e⟩
  · cases e
theorem cell_of {h : H} {a : Addr} {c : Array Value} {t : Nat} {fz : Nat × Nat} (hg : h[a.block]? = some (.cells c t fz)) (hs : a.spot = none) : cell h a = c[a.off]? := by
  unfold Sh.cell
  rw [hg]
  simp [hs]
theorem setc_obj {h : H} {a : Addr} {v : Value} {c : Array Value} {t : Nat} {fz : Nat × Nat} (hg : h[a.block]? = some (.cells c t fz)) (hs : a.spot = none) : (setc h a v)[a.block]? = some (.cells (c.setIfInBounds a.off v) t fz) := by
  unfold Sh.setc
  rw [Array.getElem?_modify, if_pos rfl, hg]
  simp [hs]
theorem setc_far {h : H} {a : Addr} {v : Value} {g : Nat} (hn : a.block ≠ g) : (setc h a v)[g]? = h[g]? := by
  unfold Sh.setc
  rw [Array.getElem?_modify, if_neg hn]
theorem cell_setc {h : H} {a b : Addr} {u v w : Value} (ha : cell h a = some u) (hb : cell h b = some w) : (b = a /\ cell (setc h a v) b = some v) ∨ cell (setc h a v) b = some w := by
  obtain ⟨c, t, fz, hg, hs, hc⟩ := cell_inv ha
  obtain ⟨c2, t2, fz2, hg2, hs2, hc2⟩ := cell_inv hb
  by_cases hbl : a.block = b.block
  · rw [<- hbl, hg] at hg2
    cases hg2
    have hg3 := setc_obj (v := v) hg hs
    rw [hbl] at hg3
    rw [cell_of hg3 hs2]
    by_cases ho : a.off = b.off
    · left
      refine ⟨?_, ?_⟩
      · cases a; cases b; simp only at *; subst hbl; subst ho; subst hs; subst hs2; rfl
      · rw [<- ho, Array.getElem?_setIfInBounds_self]
        have := (Array.getElem?_eq_some_iff.1 hc).1
        simp [this]
    · right
      rw [Array.getElem?_setIfInBounds_ne ho]
      exact hc2
  · right
    rw [cell_of (by rw [setc_far hbl]; exact hg2) hs2]
    exact hc2
structure Soft (A : Nat -> Prop) (h h' : H) : Prop where
  sk : SK (fun k => ¬ A k) h h'
  obj : ∀ (g : Nat) c e fz, h[g]? = some (.cells c e fz) -> ∃ c', h'[g]? = some (.cells c' e fz)
  cl : ∀ a v, cell h a = some v -> ∃ v', cell h' a = some v' /\ (v' = v ∨ (kd v' = kd v /\ (kd v = 3 -> v' = .slice none 0 0)))
theorem Soft.refl (A : Nat -> Prop) (h : H) : Soft A h h := ⟨SK.refl _ _, fun g c e fz hg => ⟨c, hg⟩, fun a v hv => ⟨v, hv, Or.inl rfl⟩⟩
theorem Soft.trans {A : Nat -> Prop} {a b c : H} (s : Soft A a b) (r : Soft A b c) : Soft A a c :=
  ⟨s.sk.trans r.sk, fun g x e fz hg => by obtain ⟨x', hg'⟩ := s.obj g x e fz hg; exact r.obj g x' e fz hg', fun q v hv => by
    obtain ⟨v1, h1, e1⟩ := s.cl q v hv
    obtain ⟨v2, h2, e2⟩ := r.cl q v1 h1
    refine ⟨v2, h2, ?_⟩
    rcases e1 with rfl | ⟨k1, n1⟩
    · exact e2
    · rcases e2 with rfl | ⟨k2, n2⟩
      · exact Or.inr ⟨k1, n1⟩
      · exact Or.inr ⟨k2.trans k1, fun h3 => n2 (k1.trans h3)⟩⟩
theorem Soft.setc {A : Nat -> Prop} {h : H} {a : Addr} {u v : Value} (hA : A a.block) (hu : cell h a = some u) (hk : kd v = kd u) (hn : kd u = 3 -> v = .slice none 0 0) : Soft A h (setc h a v) := by
  obtain ⟨c, t, fz, hg, hs, hc⟩ := cell_inv hu
  refine ⟨SK.setc fun hna => hna hA, fun g c2 e fz2 hg2 => ?_, fun b w hw => ?_⟩
  · by_cases hb : a.block = g
    · subst hb
      rw [hg] at hg2
      cases hg2
      exact ⟨_, setc_obj hg hs⟩
    · exact ⟨c2, by rw [setc_far hb]; exact hg2⟩
  · rcases cell_setc (v := v) hu hw with ⟨e, h1⟩ | h1
    · subst e
      rw [hu] at hw
      cases hw
      exact ⟨v, h1, Or.inr ⟨hk, hn⟩⟩
    · exact ⟨w, h1, Or.inl rfl⟩
def thawK (h : H) (g : Nat) : Prop := ∃ c e, h[g]? = some (.cells c e (0, 0))
def shAttr (A : Nat -> Prop) (h : H) (b : Option Addr) (n : Nat) : Prop :=
  n <= maxLen /\ ∀ i, i < n -> ∃ a, b = some a /\ A a.block /\ thawK h a.block /\ (∃ s, cell h ((a.add (i * 2)).add 0) = some (S s)) /\ ∃ s, cell h ((a.add (i * 2)).add 1) = some (S s)
theorem Soft.str {A : Nat -> Prop} {h h' : H} {a : Addr} {s : Bs} (f : Soft A h h') (e : cell h a = some (S s)) : ∃ s, cell h' a = some (S s) := by
  obtain ⟨v, hv, h1⟩ := f.cl a _ e
  rcases h1 with rfl | ⟨h1, _⟩
  · exact ⟨s, hv⟩
  · obtain ⟨s', rfl⟩ := kd_str h1
    exact ⟨s', hv⟩
theorem Soft.int {A : Nat -> Prop} {h h' : H} {a : Addr} {i : Int} (f : Soft A h h') (e : cell h a = some (.int .u8 i)) : ∃ i, cell h' a = some (.int .u8 i) := by
  obtain ⟨v, hv, h1⟩ := f.cl a _ e
  rcases h1 with rfl | ⟨h1, _⟩
  · exact ⟨i, hv⟩
  · obtain ⟨s', rfl⟩ := kd_int h1
    exact ⟨s', hv⟩
theorem Soft.sl {A : Nat -> Prop} {h h' : H} {a : Addr} {b : Option Addr} {n c : Nat} (f : Soft A h h') (e : cell h a = some (.slice b n c)) : cell h' a = some (.slice b n c) ∨ cell h' a = some (.slice none 0 0) := by
  obtain ⟨v, hv, h1⟩ := f.cl a _ e
  rcases h1 with rfl | ⟨_, h2⟩
  · exact Or.inl hv
  · rw [h2 rfl] at hv; exact Or.inr hv
theorem shAttr.nil (A : Nat -> Prop) (h : H) : shAttr A h none 0 := ⟨Nat.zero_le _, fun i hi => absurd hi (by omega)⟩
end Go.Proofs
namespace Go.Proofs
open Go Go.Sh
set_option linter.unusedVariables false
set_option maxRecDepth 100000
section
variable {A B : Nat -> Prop} {h : H} {K : Value -> H -> Prop} {b : Option Addr} {n c : Nat} {l : List TokP}
theorem heavy15_calls (R : Row elTok A h b n c l) (hk : ∀ v, (v = false -> ToksS l) -> K (.bool v) h) : HCalls Tryz.prog 6 ⟨[.slice b n c]⟩ h K := by
  have hl := R.len
  refine Sx.l15_heavy.ok _ _ _ _ _ (spl (fun _ => hk true fun e => by cases e) fun e1 => tokens_calls (lim := 400) R (by decide) fun v v0 v1 v2 v3 => vIntMk (spl (fun _ => hk true fun e => by cases e) fun e2 => hk false fun _ => ⟨by omega, fun t ht => ?_⟩))
  have e3 := v3 (by omega)
  have e4 : tokW t <= toksW l := by
    clear e3 v3 v2 v1 hl R e1 hk
    induction l with
    | nil => cases ht
    | cons y l ih =>
      have e : toksW (y :: l) = tokW y + toksW l := rfl
      rcases List.mem_cons.1 ht with rfl | ht
      · omega
      · have := ih ht; omega
  obtain ⟨h1, h2, h3, h4⟩ := tokW_small (x := t) (m := 400) (by omega)
  exact ⟨by omega, by omega, fun a ha => by have := h4 a ha; omega, by omega⟩
end
def shTok (A : Nat -> Prop) (h : H) (q : Addr) : Prop := A q.block /\ thawK h q.block /\ ∃ i s ab an ac z tx, cell h (q.add 0) = some (.int .u8 i) /\ cell h (q.add 1) = some (S s) /\ cell h (q.add 2) = some (.slice ab an ac) /\ (cell h (q.add 3) = some z /\ kd z = 0) /\ cell h (q.add 4) = some (S tx) /\ shAttr A h ab an
end Go.Proofs
namespace Go.Proofs
open Go Go.Sh
set_option linter.unusedVariables false
set_option maxRecDepth 100000
def endB (ns : List NodeM) : Nat -> Int -> Bool
  | 0, i => decide (i < 0)
  | f + 1, i => decide (i < 0) || endB ns f (parI ns i)
theorem endB_ok {ns : List NodeM} : ∀ {f : Nat} {i : Int}, endB ns f i = true -> endP ns f i
  | 0, i, h => (show i < 0 from of_decide_eq_true (p := i < 0) h)
  | f + 1, i, h => by
    unfold endB at h
    rw [Bool.or_eq_true] at h
    exact h.imp (of_decide_eq_true (p := i < 0)) endB_ok
theorem within_dec {ns : List NodeM} {i x : Int} (N : Nat) (h : endB ns N i = true) : withinP ns i x = decide (x ∈ chainP ns N i) := by
  have hi := inC_iff (x := x) (endB_ok h)
  unfold withinP
  by_cases hx : x ∈ chainP ns N i
  · rw [decide_eq_true hx]; exact @decide_eq_true (InC ns i x) (Classical.propDecidable _) (hi.2 hx)
  · rw [decide_eq_false hx]; exact @decide_eq_false (InC ns i x) (Classical.propDecidable _) (fun h => hx (hi.1 h))
def putC (N : Nat) (ns : List NodeM) (parent before id : Int) : List NodeM × Bool :=
  if holdB ns parent = true /\ (0 <= id /\ id < ns.length) /\ id ≠ 0 /\ before ≠ id /\ 0 <= plcP (((ns[parent.toNat]?).map (·.kids)).getD []) before /\ decide (id ∈ chainP ns N parent) = false then
    (putAt (cutM ns id).1 parent.toNat before id.toNat, true)
  else (ns, false)
theorem putM_C {ns : List NodeM} {p b i : Int} (N : Nat) (h : endB ns N p = true) : putM ns p b i = putC N ns p b i := by
  unfold putM putC; rw [within_dec N h]
abbrev nd (k : Int) (nm tx : Bs) (p : Int) (ks : List Int) : NodeM := ⟨k, 0, nm, [], tx, p, ks⟩
abbrev oHt : OpenP := (0, 0, wHtml, 0)
def deepB : Nat -> List NodeM -> Int -> Bool
  | 0, _, _ => false
  | d + 1, ns, id => (kidsI ns id).all fun k => deepB d ns k
theorem deepB_ok : ∀ {d : Nat} {ns : List NodeM} {id : Int}, deepB d ns id = true -> Deep d ns id
  | 0, _, _, h => by cases h
  | d + 1, _, _, h => fun k hk => deepB_ok (List.all_eq_true.1 h k hk)
section
variable {d : Nat} {A : Nat -> Prop} {h : H} {a : Addr} {x : NodeV}
theorem nodeParts (hA : At (elNode (d + 1)) A h a x) : ∃ kb kn kc, cell h (a.add 2) = some (S x.name) /\ cell h (a.add 5) = some (.slice kb kn kc) /\ Row (elNode d) A h kb kn kc x.kids := by
  obtain ⟨_, cs, hR, hc⟩ := hA
  obtain ⟨ab, an, ac, kb, kn, kc, rfl, ra, hz, rk, hz2, r1, r2, r3, r4⟩ := nodeR_inv hR
  exact ⟨kb, kn, kc, hc 2 _ rfl, hc 5 _ rfl, rk⟩
end
end Go.Proofs
