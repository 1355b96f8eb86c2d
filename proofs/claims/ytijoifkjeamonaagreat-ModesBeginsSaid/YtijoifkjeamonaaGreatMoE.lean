import Derived.Test.YtijoifkjeamonaaGreatAaC
import Derived.Test.YtijoifkjeamonaaGreatMpC
import Derived.Test.YtijoifkjeamonaaGreatTxJ
import Derived.Test.YtijoifkjeamonaaGreatPdD
import Derived.Test.YtijoifkjeamonaaGreatMpF
import Derived.Test.YtijoifkjeamonaaGreatTxI
namespace Go.Proofs
open Go Go.Sh
set_option linter.unusedVariables false
set_option maxRecDepth 100000
section
variable {h h' : H} {K : Value -> H -> Prop} {col col' : Col} {s ty : Nat} {a w t : Addr} {op : List OpenP} {mk : List MarkP} {fo : Bool} {hi : Int} {m : WM} {nm : Bs} {ns : List NodeM} {ads : List Addr}
theorem setOpenId_k (W : WorldW h col s ty w t op mk fo hi) (f : Fresh h col) {a : Addr} {n c : Nat} (hc : cell h (w.add 1) = some (.slice (some a) n c)) {i : Nat} (hi1 : i < op.length) {id : Int} (hid : Rng .i64 id) {Q : H -> Prop}
    (hk : ∀ h', WorldW h' col s ty w t (op.set i (id, op[i].2)) mk fo hi -> ExtP (fun k => k = s) h col h' col -> Fresh h' col -> (∀ k, col k ≠ some (s, 1) -> h'[k]? = h[k]?) -> Q h') : stL ((a.add (i * 4)).add 0) [.int .i64 id] 0 h Q := by
  obtain ⟨ob, oc, mb, mn, mc, v, o, om⟩ := W.ex
  have e1 : some (Value.slice (some a) n c) = some (.slice ob op.length oc) := hc.symm.trans (v.cell 1 rfl)
  cases e1
  obtain ⟨xs, ow, en⟩ := o.own.own
  rcases ow.is with ⟨h0, _⟩ | ⟨g, cur, ea, hbg, hg, hcs, htk⟩
  · omega
  cases ea
  have hgl : g < h.size := (Array.getElem?_eq_some_iff.1 hg).1
  have hxl : xs.length = op.length * 4 := ow.len
  have hcs : cur.size = c * 4 := hcs
  have htk : cur.toList.take (op.length * 4) = xs := htk
  have hcap := ow.cap
  have ha : ((((⟨g, 0, none⟩ : Addr).add (i * 4)).add 0).add 0) = ⟨g, i * 4, none⟩ := by rw [add_zero', add_zero', addG]
  have hin2 : i * 4 < cur.size := by omega
  unfold stL
  rw [ha]
  refine ⟨⟨cur[i * 4], by unfold cell; simp only [hg]; simp [hin2]⟩, by unfold iced; simp only [hg]; simp, ?_⟩
  show Q (setc h ⟨g, i * 4, none⟩ (.int .i64 id))
  have hst : setc h ⟨g, i * 4, none⟩ (.int .i64 id) = h.setIfInBounds g (.cells (cur.setIfInBounds (i * 4) (.int .i64 id)) 77 (0, 0)) := by
    unfold setc
    apply Array.ext_getElem?
    intro k
    rw [Array.getElem?_modify, Array.getElem?_setIfInBounds]
    by_cases hk : g = k
    · subst hk
      rw [if_pos rfl, if_pos rfl, if_pos hgl, hg]; rfl
    · rw [if_neg hk, if_neg hk]
  have hcg := o.col _ rfl
  have hcg : col g = some (s, 1) := hcg
  have hold : ∀ k, k ≠ g -> (setc h ⟨g, i * 4, none⟩ (.int .i64 id))[k]? = h[k]? := fun k hk => by rw [hst, Array.getElem?_setIfInBounds, if_neg (fun e => hk e.symm)]
  have kx : KX g h (setc h ⟨g, i * 4, none⟩ (.int .i64 id)) := ⟨by rw [hst]; simp, hold⟩
  have hs : (setc h ⟨g, i * 4, none⟩ (.int .i64 id)).size = h.size := by rw [hst]; simp
  have hwg : w.block ≠ g := fun e => by have := W.col; rw [e, hcg] at this; cases this
  have v' : Var (setc h ⟨g, i * 4, none⟩ (.int .i64 id)) w ty [.pointer (some t), .slice (some ⟨g, 0, none⟩) op.length c, .slice mb mn mc, .bool fo, .int .i64 hi] := v.keep kx.w hwg
  have om' := om.keep (h' := setc h ⟨g, i * 4, none⟩ (.int .i64 id)) (col' := col) kx.w (fun _ _ => rfl) fun k hk h2 e => by
    subst e
    rcases h2 with h2 | h2
    · rw [hcg] at h2; cases h2
    · rw [hcg] at h2; cases h2
  have hx : op[i]? = some op[i] := List.getElem?_eq_getElem hi1
  have en2 : Enc elOpen (Free col h) h (op.set i (id, op[i].2)) (xs.set (i * 4 + 0) (.int .i64 id)) := Enc.set en hx (by decide) fun cs hR => by
    obtain ⟨c1, c2, e, h1, h2⟩ := hR
    rw [h1.1] at e
    subst e
    exact ⟨[.int .i64 id], c2, rfl, ⟨rfl, hid⟩, h2⟩
  have hl : (op.set i (id, op[i].2)).length = op.length := List.length_set ..
  refine hk _ ⟨⟨some ⟨g, 0, none⟩, c, mb, mn, mc, by rw [hl]; exact v', ⟨⟨by rw [hl], xs.set (i * 4 + 0) (.int .i64 id), ⟨by rw [List.length_set, hl]; exact ow.len, by rw [hl]; exact ow.cap, ow.max, .inr ⟨g, cur.setIfInBounds (i * 4) (.int .i64 id), rfl, hbg, ?_, ?_, ?_⟩⟩, Enc.flat flatOpen en2⟩, o.col, fun q e => by rw [hs]; exact o.hi q e, o.nil⟩, om'⟩, W.col, W.rh⟩
    (ExtP.kx kx hcg rfl) (fun k hk => f k (by rw [<- hs]; exact hk)) fun k hk => hold k fun e => hk (by rw [e]; exact hcg)
  · rw [hst, Array.getElem?_setIfInBounds, if_pos rfl, if_pos hgl]
  · rw [Array.size_setIfInBounds]; exact hcs
  · show (cur.setIfInBounds (i * 4) (.int .i64 id)).toList.take ((op.set i (id, op[i].2)).length * 4) = _
    rw [hl, Array.toList_setIfInBounds, set_take, htk]; rfl
theorem WorldW.kw (W : WorldW h col s ty w t op mk fo hi) (k : KW h h') : WorldW h' col s ty w t op mk fo hi := by
  obtain ⟨ob, oc, mb, mn, mc, v, o, om⟩ := W.ex
  exact ⟨⟨ob, oc, mb, mn, mc, v.kw k, o.keep k (fun _ _ => rfl) fun k hk _ => hk, om.keep k (fun _ _ => rfl) fun k hk _ => hk⟩, W.col, W.rh⟩
theorem PW.kw (p : PW h col w m) (k : KW h h') (f : Fresh h' col) : PW h' col w m := by
  obtain ⟨t, ads, T, W⟩ := p.ex
  exact ⟨t, ads, T.keep k (fun _ _ => rfl) f fun k hk _ => hk, W.kw k⟩
theorem copyT_k (T : TreeP h col 0 t ads ns) (W : WorldW h col 2 ty w t op mk fo hi) (hfew : ns.length < 1000000) {id : Int} (hk : ∀ h' col' ads', TreeP h' col' 0 t ads' (copyM ns id).1 -> WorldW h' col' 2 ty w t op mk fo hi -> ExtP PS h col h' col' -> K (.int .i64 (copyM ns id).2) h') :
    HCalls Tryz.prog 238 ⟨[.pointer (some t), .int .i64 id]⟩ h K :=
  copy_calls T hfew fun h' c' ads' T' E' => hk h' c' ads' T' (W.ext (S := fun s => s = 0) (E'.p rfl) (by decide)) (E'.p (.inl rfl))
theorem putT_k (T : TreeP h col 0 t ads ns) (W : WorldW h col 2 ty w t op mk fo hi) (G : GoodT ns) {q b i : Int} (hk : ∀ h' col', TreeP h' col' 0 t ads (putM ns q b i).1 -> WorldW h' col' 2 ty w t op mk fo hi -> ExtP PS h col h' col' -> K (.bool (putM ns q b i).2) h') :
    HCalls Tryz.prog 65 ⟨[.pointer (some t), .int .i64 q, .int .i64 b, .int .i64 i]⟩ h K :=
  put_calls T G fun h' c' T' E' => hk h' c' T' (W.ext (S := fun s => s = 0) (E'.p rfl) (by decide)) (E'.p (.inl rfl))
theorem moveT_k (T : TreeP h col 0 t ads ns) (W : WorldW h col 2 ty w t op mk fo hi) (G : GoodT ns) {f d : Int} (hk : ∀ h' col', TreeP h' col' 0 t ads (moveM ns f d).1 -> WorldW h' col' 2 ty w t op mk fo hi -> ExtP PS h col h' col' -> K (.bool (moveM ns f d).2) h') :
    HCalls Tryz.prog 239 ⟨[.pointer (some t), .int .i64 f, .int .i64 d]⟩ h K :=
  move_calls T G fun h' c' T' E' => hk h' c' T' (W.ext (S := fun s => s = 0) (E'.p rfl) (by decide)) (E'.p (.inl rfl))
theorem ExtP.leave {S : Nat -> Prop} {D : Nat} (e : ExtP S h col h' col') (hD : h.size <= D) : ExtP S h col (h'.setIfInBounds D (.deferred none)) col' :=
  ⟨e.sk.trans ⟨by simp, fun k hk => by have : k < h.size := hk.1; rw [Array.getElem?_setIfInBounds_ne (by omega)]⟩, e.cl⟩
theorem adClose_calls (L : Lib0 h col) (p : PW h col w m) (hop : m.op.length <= 1000000) (hnm : ∀ x ∈ m.op, x.2.2.1.length <= 1000000000) (hk : ∀ h' col', PW h' col' w (closeA m nm) -> ExtP PS h col h' col' -> K (.tuple ⟨[]⟩) h') :
    HCalls Tryz.prog 101 ⟨[.pointer (some w), S nm]⟩ h K := by
  obtain ⟨t, ads, T, W⟩ := p.ex
  obtain ⟨ob, oc, mb, mn, mc, v, o, om⟩ := W.ex
  refine Sx.adopt_Close.ok _ _ _ _ (newx_var fun a1 h1 v1 k1 e1 s1 => newx_var fun a2 h2 v2 k2 e2 s2 => ⟨_, (v1.kb k2).cell0 rfl, vSomeMk ⟨_, _, _, (v.kb (k1.trans k2)).cell 1 rfl, ?_⟩⟩)
  refine Sx.slices_Backward_apiOpen.ok _ _ _ _ _ (newx_var fun a h4 va k4 e4 s4 => ?_)
  have k04 := (k1.trans k2).trans k4
  have v14 := (v1.kb k2).kb k4
  have v24 := v2.kb k4
  have o4 := o.kb k04
  have p4 := p.kb k04
  have r4 := o4.rowC
  have hD : h.size <= h4.size := k04.1
  obtain ⟨res, hres⟩ : ∃ r, clTo m.op nm m.op.length = r := ⟨_, rfl⟩
  have fin : ∀ h' col', PW h' col' w (closeA m nm) -> ExtP PS h col h' col' -> dOpen h4.size h' -> leaveX [markD h4.size] h' fun h => K (.tuple ⟨[]⟩) h := fun h' col' p' E' hd => by
    refine ⟨hd, hk _ _ (p'.kw ((KW.refl h').leave hd) fun k hk => p'.fresh k (by simpa using hk)) (E'.leave hD)⟩
  have fin0 : res = 0 -> ∀ h', KB h4 h' -> dOpen h4.size h' -> leaveX [markD h4.size] h' fun h => K (.tuple ⟨[]⟩) h := fun e h' k' hd => by
    have e2 : closeA m nm = m := by unfold closeA closeW closeO; rw [hres, e, if_neg (by omega)]
    exact fin h' col (by rw [e2]; exact p4.kb k') (.kb (k04.trans k')) hd
  have hRd : ∀ k, ((Free col h4 k ∨ (col k = some (2, 1) /\ k < h4.size)) /\ k ≠ a.block /\ k ≠ a1.block /\ k ≠ a2.block) -> k < h4.size := fun k hk => by
    rcases hk.1 with h | h
    · exact h.2
    · exact h.2
  refine ⟨_, Non, _, backO_emits r4 va, backsO_len m.op, rounds_of (fun xs h' => KB h4 h' /\ ∃ i, i <= m.op.length /\ xs = backsO m.op i /\ clTo m.op nm i = res) (fun xs h' h'' ⟨k, i, hi, hb, e⟩ n => ⟨k.nz n (Nat.le_succ _), i, hi, hb, e⟩) ?_ ?_ _ h4 ⟨KB.refl _, m.op.length, Nat.le_refl _, rfl, hres⟩⟩
  · rintro x xs h3 Kc ⟨k3, i, hi, e, hs⟩ hKc
    cases i with
    | zero => cases e
    | succ i =>
      have hil : i < m.op.length := by omega
      unfold backsO at e
      rw [getD_get hil] at e
      cases e
      unfold clTo at hs
      have hgd : m.op.getD i noOpen = m.op[i] := getD_get hil
      rw [hgd] at hs
      have hlt : ∀ k, (Free col h4 k ∨ (col k = some (2, 1) /\ k < h4.size)) ∨ k = a.block -> k < h4.size := fun k hk => by
        rcases hk with (h | h) | h
        · exact h.2
        · exact h.2
        · rw [h]; exact va.lt
      refine rdOpen (front_open k3 hlt (Nat.le_refl _) fun ax hb kb vb => ?_)
      have stop : res = 0 -> ∀ h', KB hb h' -> (fun hb h' p => KpP (fun k => (Free col h4 k ∨ (col k = some (2, 1) /\ k < h4.size)) ∨ k = a.block) hb h' /\ ∀ h4', NzP Non (h4.size + 1) h' h4' -> dOpen h4.size h4' -> p h4') hb h' fun h29 => leaveX [markD h4.size] h29 fun h => K (.tuple ⟨[]⟩) h := fun e h' k' =>
        ⟨k'.kp, fun h8 n8 hd => fin0 e h8 ((kb.trans k').nz n8 (Nat.le_succ _)) hd⟩
      refine spl (fun e0 => stop ?_ hb (KB.refl _)) fun e0 => ⟨_, vb.cell 1 rfl, ?_⟩
      · have e0 : i = 0 := by omega
        rw [if_pos e0] at hs; exact hs.symm
      rw [if_neg (by omega)] at hs
      have spec : isN m.op[i] nm = false -> ∃ i43, cell hb (ax.add 1) = some (.int .u8 i43) /\ (∃ s44, cell hb (ax.add 2) = some (S s44) /\ (HCalls Tryz.prog 162 ⟨[(.int .u8 i43), (S s44)]⟩ hb fun v45 h46 => vBool v45 fun b47 => cond b47 ((fun hb h' p => KpP (fun k => (Free col h4 k ∨ (col k = some (2, 1) /\ k < h4.size)) ∨ k = a.block) hb h' /\ ∀ h4', NzP Non (h4.size + 1) h' h4' -> dOpen h4.size h4' -> p h4') hb h46 fun h48 => leaveX [markD h4.size] h48 fun h => K (.tuple ⟨[]⟩) h) (Kc hb h46))) := fun en => by
        rw [en] at hs
        refine ⟨_, vb.cell 1 rfl, _, vb.cell 2 rfl, special_calls (L.ml.kb (k04.trans kb)) (by have := hnm _ (List.getElem_mem hil); omega) (vBool_mk (condB (fun eb => stop ?_ hb (KB.refl _)) fun eb => ?_))⟩
        · have eb : specO m.op[i] = true := eb
          rw [if_neg (by simp), if_pos eb] at hs; exact hs.symm
        · have eb : specO m.op[i] = false := eb
          rw [if_neg (by simp), if_neg (by rw [eb]; simp)] at hs
          exact hKc hb hb (KB.refl hb).kp ⟨kb, i, by omega, rfl, hs⟩
      have hmy : ∀ b : Bool, isN m.op[i] nm = b -> (decide (m.op[i].2.1 = 0) && decide (m.op[i].2.2.1 = nm)) = b := fun b h => h
      refine spl (fun ez => ⟨_, vb.cell 2 rfl, _, (v24.kb kb).cell0 rfl, spl (fun en => ?_) fun en => spec ?_⟩) fun ez => spec ?_
      · -- found
        have hN : isN m.op[i] nm = true := by unfold isN; rw [decide_eq_true ez, decide_eq_true en]; rfl
        rw [hN, if_pos rfl] at hs
        have hcl : closeA m nm = closeW m (i : Int) := by unfold closeA; rw [hres, <- hs]
        have pb := p4.kb kb
        obtain ⟨tb, adsb, Tb, Wb⟩ := pb.ex
        obtain ⟨ob2, oc2, mb2, mn2, mc2, vb2, o2, om2⟩ := Wb.ex
        have hcap := o2.own.cap
        refine ⟨_, (v14.kb kb).cell0 rfl, Sx.place_World_Close.ok _ _ _ _ (spl (fun q1 => vSomeMk ⟨_, _, _, vb2.cell 1 rfl, spl (fun q2 => condT (vSomeMk ⟨_, _, _, vb2.cell 1 rfl, ⟨by omega, by omega, by omega⟩, vSomeMk (closeK Wb pb.fresh q1 q2 vb2 fun h5 W5 E5 f5 k5 => ?_)⟩)) fun q2 => absurd (by omega) q2⟩) fun q1 => absurd (by omega) q1)⟩
        have hnr : ¬ ((Free col h4 w.block ∨ (col w.block = some (2, 1) /\ w.block < h4.size)) ∨ w.block = a.block) := fun hh => by
          have hwc := W.col
          rcases hh with (hh | hh) | hh
          · rw [hh.1] at hwc; cases hwc
          · rw [hh.1] at hwc; cases hwc
          · have := v.lt; have := k1.1; have := k2.1; have : a.block = h2.size := e4; omega
        have kp5 : KpP (fun k => (Free col h4 k ∨ (col k = some (2, 1) /\ k < h4.size)) ∨ k = a.block) hb h5 := KX.kp vb2 k5 hnr
        refine ⟨kp5, fun h8 n8 hd => ?_⟩
        have p5 : PW h5 col w (closeW m (i : Int)) := ⟨tb, adsb, Tb.otherP (S := fun k => k = 2) (by decide) E5 f5, W5⟩
        have E05 : ExtP PS h col h5 col := (ExtP.kb (k04.trans kb)).trans (E5.mono fun s hs => .inr hs)
        refine fin h8 col ?_ ⟨?_, fun _ _ => rfl⟩ hd
        · rw [hcl]; exact p5.kw n8.kw fun k hk => f5 k (Nat.le_trans n8.1 hk)
        · refine ⟨Nat.le_trans E05.sk.1 n8.1, fun k hk => ?_⟩
          have hks : k < h.size := hk.1
          have h5k := E05.sk.2 k hk
          cases hq : h5[k]? with
          | none => have := Array.getElem?_eq_none_iff.1 hq; have := E05.sk.1; omega
          | some ob5 =>
            rw [<- h5k, hq]
            exact n8.2 k ob5 hq (fun x => x) fun e => by omega
      · unfold isN; rw [decide_eq_true ez, decide_eq_false en]; rfl
      · unfold isN; rw [decide_eq_false ez]; rfl
  · rintro h3 ⟨k3, i, hi, e, hs⟩ hd
    cases i with
    | succ i => cases e
    | zero => exact fin0 hs.symm h3 k3 hd
end
end Go.Proofs
namespace Go.Proofs
open Go Go.Sh
set_option linter.unusedVariables false
set_option maxRecDepth 100000
theorem cellAA {h : H} {a : Addr} {t : Nat} {cs : List Value} (v : Var h a t cs) (i j : Nat) {x : Value} (hx : cs[i + j]? = some x) : cell h ((a.add i).add j) = some x := by rw [add_add]; exact v.cell (i + j) hx
section
variable {h h' : H} {K : Value -> H -> Prop} {col col' : Col} {a w : Addr} {m : WM} {nm : Bs} {f : Int} {bl : OpenP} {u v x j b : Nat} {last : Int}
theorem AgW.free (g : AgW h col a w nm f bl b) {k : Nat} (hk : col k = none) : k ≠ a.block := fun e => by have := g.c; rw [<- e, hk] at this; cases this
theorem row_some {α : Type} {E : El α} {A : Nat -> Prop} {b : Option Addr} {n c : Nat} {l : List α} (r : Row E A h b n c l) {i : Nat} (hi : i < l.length) : ∃ q, b = some q := by
  obtain ⟨q, e, _⟩ := r.at' i _ (List.getElem?_eq_getElem hi)
  exact ⟨q, e⟩
theorem climb_loop {KE : Sx.adopt_agency_climb.T3} {Kr : Sx.adopt_agency_climb.T0} {R : WM × Int × Nat} {h0 : H} {col0 : Col} (L : Lib0 h0 col0)
    (hE : ∀ h' col', PW h' col' w R.1 -> AgW h' col' a w nm f bl (R.2.2 : Nat) -> ExtP PA h0 col0 h' col' -> KE R.2.1 h') : ∀ (q n : Nat) {m : WM} {u v x b : Nat} {last : Int} {h : H} {col : Col}, AgW h col a w nm f bl (b : Nat) -> PW h col w m -> CI m u v x f j b q ->
      u + (3 - n) <= 900000 -> v <= 900000 -> n + q <= 1000000 -> climbN bl.1 f q n m last b = R -> ExtP PA h0 col0 h col -> Sx.adopt_agency_climb.n8_L KE KE Kr q (some a) (q : Int) last (n : Int) h
  | 0, n, m, u, v, x, b, last, h, col, g, p, C, hu, hv, hn, hR, E0 => absurd C.hj (by omega)
  | q + 1, n, m, u, v, x, b, last, h, col, g, p, C, hu, hv, hn, hR, E0 => by
    obtain ⟨t, ads, T, W⟩ := p.ex
    obtain ⟨ob, oc, mb, mn, mc, vw, o, om⟩ := W.ex
    have hq : q < m.op.length := by have := C.hq; omega
    have hlo := C.A.D.lo
    have hln := C.A.D.ln
    have hml := C.A.D.ml
    have hb := C.hb
    have hx1 : (((q + 1 : Nat) : Int)) - 1 = (q : Int) := by omega
    have eg : m.op.getD q noOpen = m.op[q] := getD_get hq
    unfold climbN at hR
    simp only [] at hR
    rw [eg] at hR
    unfold Sx.adopt_agency_climb.n8_L LP Sx.adopt_agency_climb.n8_B
    refine ⟨rng64 (by omega) (by omega), ?_⟩
    show Sx.adopt_agency_climb.n11 (some a) (((q + 1 : Nat) : Int) - (1 : Int)) last (n : Int) _ _ _ _ h
    rw [hx1]
    refine ⟨rng64 (by omega) (by omega), ?_⟩
    refine vSomeMk ⟨_, g.v.cell 0 rfl, vSomeMk ⟨_, _, _, vw.cell 1 rfl, o.row.idxN (i := q) hq rfl fun qa hA => ldOpen hA fun ow => newx_var fun ax h1 vx1 k1 e1 s1 => stL_var0 vx1 (by show 4 <= 4; omega) fun h2 vx k2 s2 => ?_⟩⟩
    have k02 : KB h h2 := KB.step k1 k2 (by omega)
    have cax : col ax.block = none := p.fresh _ (by omega)
    have vx : Var h2 ax 77 (cellsO m.op[q]) := vx
    have p2 := p.kb k02
    have g2 := g.kb k02
    refine ⟨_, vx.cell 0 rfl, vSomeMk ⟨_, g2.v.cell 2 rfl, spl (fun ef => ?_) fun ef => ?_⟩⟩
    · rw [if_pos ef] at hR
      subst hR
      exact hE h2 col p2 g2 (E0.trans (.kb k02))
    rw [if_neg ef] at hR
    have efg : (m.op.getD q noOpen).1 ≠ f := by rw [eg]; exact ef
    have v2 := vw.kb k02
    refine vSomeMk ⟨_, g2.v.cell 0 rfl, vSomeMk ⟨_, _, _, v2.cell 2 rfl, _, vx.cell 0 rfl, find_calls (om.kb k02).row fun h3 k3 => vIntMk ?_⟩⟩
    have k03 := k02.trans k3
    have p3 := p.kb k03
    have g3 := g.kb k03
    have vx3 := vx.kb k3
    have E03 : ExtP PA h0 col0 h3 col := E0.trans (.kb k03)
    have drops : ∀ (m2 : WM) (b2 : Nat) h4 col4 i, i < 0 -> PW h4 col4 w m2 -> AgW h4 col4 a w nm f bl (b2 : Nat) -> ExtP PA h3 col h4 col4 -> CI m2 u v x f j b2 (q + 1) -> m2.op = m.op -> climbN bl.1 f q (n + 1) (dropW m2 m.op[q].1) last b2 = R ->
        Sx.adopt_agency_climb.n16 (some a) (q : Int) last ((n : Int) + 1) ax i (Sx.adopt_agency_climb.n8_L KE KE Kr q) (Sx.adopt_agency_climb.n8_L KE KE Kr q) KE Kr h4 := fun m2 b2 h4 col4 i hi p4 g4 E4 C2 ho hR2 => by
      have vx4 : Var h4 ax 77 (cellsO m.op[q]) := vx3.keep E4.keepF ⟨cax, vx3.lt⟩
      have hlo2 := C2.A.D.lo
      refine splT hi (vSomeMk ⟨_, g4.v.cell 0 rfl, _, vx4.cell 0 rfl, drop_callsW p4 (by omega) fun h5 col5 p5 E5 _ => ?_⟩)
      have eg2 : m2.op.getD q noOpen = m.op[q] := by rw [ho]; exact eg
      have C3 := C2.dropQ (by rw [eg2]; exact ef)
      rw [eg2] at C3
      exact climb_loop L hE q (n + 1) (g4.ps E5) p5 C3 (by omega) hv (by omega) hR2 ((E03.trans E4).trans E5.pa)
    by_cases hk : 0 <= findP m.mks m.op[q].1
    · obtain ⟨_, hkl, hke⟩ := findP_yes hk
      obtain ⟨k, ek⟩ := Int.eq_ofNat_of_zero_le hk
      have ekn : (findP m.mks m.op[q].1).toNat = k := by rw [ek]; rfl
      rw [ekn] at hkl hR
      rw [ek]
      have hkg : 0 <= findP m.mks (m.op.getD q noOpen).1 := by rw [eg]; exact hk
      by_cases hn3 : n < 3
      · -- it is copied
        rw [if_pos ⟨hk, hn3⟩] at hR
        refine splT (by omega) (splF (by omega) (splF (by omega) ?_))
        obtain ⟨t3, ads3, T3, W3⟩ := p3.ex
        obtain ⟨ob3, oc3, mb3, mn3, mc3, vw3, o3, om3⟩ := W3.ex
        refine vSomeMk ⟨_, g3.v.cell 0 rfl, vSomeMk ⟨_, vw3.cell 0 rfl, _, vx3.cell 0 rfl, copyT_k T3 W3 (by omega) fun h4 col4 ads4 T4 W4 E4 => vIntMk ?_⟩⟩
        obtain ⟨A1, ec, hcl, _⟩ := C.A.copy (List.getElem_mem hq) (C.A.ne0 hq (C.pos efg))
        obtain ⟨c, hc⟩ : ∃ c, (copyM m.ns m.op[q].1).2 = c := ⟨_, rfl⟩
        rw [hc] at ec hR ⊢
        have hcr : Rng .i64 c := by rw [ec]; exact rng64 (by omega) (by omega)
        have g4 := g3.ps E4
        have f4 : Fresh h4 col4 := T4.fresh
        obtain ⟨ob4, oc4, mb4, mn4, mc4, vw4, o4, om4⟩ := W4.ex
        obtain ⟨qo, rfl⟩ := row_some o4.row hq
        obtain ⟨qm, rfl⟩ := row_some om4.row hkl
        have hml4 := om4.len
        refine vSomeMk ⟨_, g4.v.cell 0 rfl, vSomeMk ⟨_, _, _, vw4.cell 1 rfl, vSomeMk ⟨_, g4.v.cell 0 rfl, vSomeMk ⟨_, _, _, vw4.cell 2 rfl, ⟨by omega, by omega⟩, vSomeMk ?_⟩⟩⟩⟩
        refine setOpenId_k W4 f4 (vw4.cell 1 rfl) (i := q) hq hcr fun h5 W5 E5 f5 keep5 => ⟨⟨by omega, by omega⟩, vSomeMk ?_⟩
        have c5 : cell h5 (w.add 2) = some (.slice (some qm) mn4 mc4) := by
          have hw : h5[w.block]? = h4[w.block]? := keep5 _ (by rw [W4.col]; intro e; cases e)
          have := vw4.cell 2 (x := .slice (some qm) mn4 mc4) rfl
          unfold cell at this ⊢
          rw [add_block] at this ⊢
          rw [hw]; exact this
        rw [show Int.toNat (k : Int) = k from rfl]
        refine setMarkId_k W5 f5 c5 (i := k) hkl hcr fun h6 W6 E6 f6 c6 => ?_
        have E46 : ExtP PS h4 col4 h6 col4 := (E5.mono fun s hs => .inr hs).trans (E6.mono fun s hs => .inr hs)
        have T6 := (T4.otherP (S := fun k => k = 2) (by decide) E5 f5).otherP (S := fun k => k = 2) (by decide) E6 f6
        have g6 := g4.ps E46
        have p6 : PW h6 col4 w { m with ns := (copyM m.ns m.op[q].1).1, op := m.op.set q (c, m.op[q].2), mks := m.mks.set k (c, m.mks[k].2) } := ⟨t3, ads4, T6, W6⟩
        have E06 : ExtP PA h0 col0 h6 col4 := (E03.trans E4.pa).trans E46.pa
        have hgm : m.mks.getD k noMark = m.mks[k] := getD_get hkl
        have puts : ∀ (b2 : Nat) h7, AgW h7 col4 a w nm f bl (b2 : Nat) -> PW h7 col4 w { m with ns := (copyM m.ns m.op[q].1).1, op := m.op.set q (c, m.op[q].2), mks := m.mks.set k (c, m.mks[k].2) } -> ExtP PA h6 col4 h7 col4 -> b2 = (if last = bl.1 then k + 1 else b) ->
            Sx.adopt_agency_climb.n20 (some a) (q : Int) last ((n : Int) + 1) c (Sx.adopt_agency_climb.n8_L KE KE Kr q) (Sx.adopt_agency_climb.n8_L KE KE Kr q) KE Kr h7 := fun b2 h7 g7 p7 E7 hb2 => by
          obtain ⟨t7, ads7, T7, W7⟩ := p7.ex
          obtain ⟨_, _, _, _, _, vw7, _, _⟩ := W7.ex
          refine vSomeMk ⟨_, g7.v.cell 0 rfl, vSomeMk ⟨_, vw7.cell 0 rfl, putT_k T7 W7 A1.D.G fun h8 col8 T8 W8 E8 => vBool_mk ?_⟩⟩
          have C2 := C.copy efg hkg last (b' := b2) (by rw [eg, ekn, hb2]; split; exact .inl rfl; exact .inr rfl)
          simp only [eg, ekn, hc, hgm] at C2
          simp only [hgm] at hR
          have := climb_loop (Kr := Kr) L hE q (n + 1) (g7.ps E8) (m := { m with ns := (putM (copyM m.ns m.op[q].1).1 c (-1) last).1, op := m.op.set q (c, m.op[q].2), mks := m.mks.set k (c, m.mks[k].2) }) (last := c) ⟨t7, ads7, T8, W8⟩ C2 (by omega) hv (by omega) (by rw [hb2]; exact hR) ((E06.trans E7).trans E8.pa)
          exact condK (K := fun _ => Sx.adopt_agency_climb.n8_L KE KE Kr q (some a) (q : Int) c ((n + 1 : Nat) : Int) h8) this
        refine vSomeMk ⟨_, cellAA g6.v 3 0 rfl, spl (fun el => ⟨rng64 (by omega) (by omega), vSomeMk ?_⟩) fun el => puts b h6 g6 p6 (.refl _ _ _) (by rw [if_neg el])⟩
        refine agSt g6 p6 (i := 7) (by show 7 + 1 <= 8; omega) fun h7 v7 c7 p7 E7 _ => puts (k + 1) h7 ⟨v7, c7⟩ p7 E7 (by rw [if_pos el])
      · -- it is no more
        rw [if_neg (fun h => hn3 h.2), if_pos hk] at hR
        refine splT (by omega) (splT (by omega) ?_)
        refine unmark_calls g3 p3 rfl (by omega) hkl (by omega) fun h4 col4 p4 g4 E4 _ => ?_
        have C2 := C.unmark efg hkg
        rw [eg, ekn] at C2
        exact drops (unmark m k) (unbook b k) h4 col4 (-1) (by decide) p4 g4 E4 C2 rfl hR
    · rw [if_neg (fun h => hk h.1), if_neg hk] at hR
      exact splF (by omega) (drops m b h3 col _ (by omega) p3 g3 (.refl _ _ _) C rfl hR)
theorem climb_calls (L : Lib0 h col) (g : AgW h col a w nm f bl (b : Nat)) (p : PW h col w m) {n : Nat} (C : CI m u v x f j b n) (hu : u + 3 <= 900000) (hv : v <= 900000)
    (hk : ∀ h' col', PW h' col' w (climbN bl.1 f n 0 m bl.1 b).1 -> AgW h' col' a w nm f bl ((climbN bl.1 f n 0 m bl.1 b).2.2 : Nat) -> ExtP PA h col h' col' -> K (.int .i64 (climbN bl.1 f n 0 m bl.1 b).2.1) h') :
    HCalls Tryz.prog 226 ⟨[.pointer (some a), .int .i64 (n : Int)]⟩ h K := by
  have hq := C.hq
  have hlo := C.A.D.lo
  refine Sx.adopt_agency_climb.ok _ _ _ _ (vSomeMk ⟨_, cellAA g.v 3 0 rfl, n, ?_⟩)
  exact climb_loop L (fun h' col' p' g' E' => hk h' col' p' g' E') n 0 g p C hu hv (by omega) rfl (.refl _ _ _)
end
end Go.Proofs
namespace Go.Proofs
open Go Go.Sh
set_option linter.unusedVariables false
set_option maxRecDepth 100000
def RA (s : Nat) : Prop := RS s ∨ s = 5
structure LocO (h : H) (col : Col) (a : Addr) (y : OpenP) : Prop where
  v : Var h a 77 (cellsO y)
  c : col a.block = some (5, 0)
section
variable {Z : Nat -> Prop} {h h' : H} {K : Value -> H -> Prop} {col col' : Col} {w x6 x7 x10 : Addr} {m : WM} {f : Int} {bl y : OpenP} {u v x j b q : Nat}
theorem LocO.ext (g : LocO h col x10 y) (e : ExtP Z h col h' col') (hz : ¬ Z 5) : LocO h' col' x10 y :=
  ⟨g.v.keep e.sk.w ⟨g.v.lt, fun s p hs e2 => by rw [g.c] at e2; cases e2; exact hz hs⟩, by rw [e.cl _ g.v.lt]; exact g.c⟩
theorem LocO.rs (g : LocO h col x10 y) (e : ExtP RS h col h' col') : LocO h' col' x10 y := g.ext e (by unfold RS; omega)
theorem LocO.kb (g : LocO h col x10 y) (k : KB h h') : LocO h' col x10 y := g.ext (Z := fun _ => False) (.kb k) id
theorem ExtP.ra (e : ExtP RS h col h' col') : ExtP RA h col h' col' := e.mono fun s hs => .inl hs
end
end Go.Proofs
namespace Go.Proofs
open Go Go.Sh
set_option linter.unusedVariables false
set_option maxRecDepth 100000
abbrev mmCells (w : Addr) (mm : MM) : List Value := [.pointer (some w), .int .u8 mm.mode, .int .u8 mm.back, .int .i64 mm.fm, .bool mm.skip, .int .u8 mm.read, S mm.nm, S []]
structure CG (Wp : H -> Col -> Addr -> WM -> Prop) (ty z : Nat) (h : H) (col : Col) (a w : Addr) (mm : MM) (u v x : Nat) : Prop where
  V : Var h a ty (mmCells w mm)
  O : col a.block = some (z, 0)
  p : Wp h col w mm.w
  f : Fresh h col
  L : Lib0 h col
  s : MS mm.w u v x
def PX (s : Nat) : Prop := PA s ∨ s = 6
abbrev CP := CG PW 37 6
abbrev CR := CG RW 52 7
theorem ExtP.px {h h' : H} {col col' : Col} (e : ExtP PA h col h' col') : ExtP PX h col h' col' := e.mono fun s hs => .inl hs
abbrev Nxt (h : H) (col : Col) (a w : Addr) (K : Value -> H -> Prop) (mm : MM) (u v x : Nat) : Prop := ∀ h' c', CP h' c' a w mm u v x -> ExtP PX h col h' c' -> K (.tuple ⟨[]⟩) h'
section
variable {Z : Nat -> Prop} {h h' h1 : H} {col col' c1 : Col} {a w : Addr} {mm : MM} {m1 : WM} {u v x u1 v1 x1 : Nat}
theorem CG.act {Wp : H -> Col -> Addr -> WM -> Prop} {ty z : Nat} (C : CG Wp ty z h col a w mm u v x) (p1 : Wp h1 c1 w m1) (f1 : Fresh h1 c1) (E : ExtP Z h col h1 c1) (hz : ¬ Z z) (s1 : MS m1 u1 v1 x1) : CG Wp ty z h1 c1 a w { mm with w := m1 } u1 v1 x1 :=
  ⟨C.V.keep E.sk.w ⟨C.V.lt, fun s p hs e2 => by rw [C.O] at e2; cases e2; exact hz hs⟩, by rw [E.cl _ C.V.lt]; exact C.O, p1, f1, C.L.ext E, s1⟩
theorem CG.pa (C : CP h col a w mm u v x) (p1 : PW h1 c1 w m1) (E : ExtP PA h col h1 c1) (s1 : MS m1 u1 v1 x1) : CP h1 c1 a w { mm with w := m1 } u1 v1 x1 := C.act p1 p1.fresh E (by unfold PA PS; omega) s1
theorem CG.ra (C : CR h col a w mm u v x) (p1 : RW h1 c1 w m1) (E : ExtP RA h col h1 c1) (s1 : MS m1 u1 v1 x1) : CR h1 c1 a w { mm with w := m1 } u1 v1 x1 := C.act p1 p1.fresh E (by unfold RA RS; omega) s1
theorem CG.kbP (C : CP h col a w mm u v x) (k : KB h h') : CP h' col a w mm u v x := C.act (Z := fun _ => False) (C.p.kb k) (C.f.kb k) (.kb k) id C.s
theorem CG.mono {Wp : H -> Col -> Addr -> WM -> Prop} {ty z : Nat} (C : CG Wp ty z h col a w mm u v x) (h1 : u <= u1) : CG Wp ty z h col a w mm u1 v x := ⟨C.V, C.O, C.p, C.f, C.L, C.s.mono h1 (Nat.le_refl _) (Nat.le_refl _)⟩
theorem CG.mono3 {Wp : H -> Col -> Addr -> WM -> Prop} {ty z : Nat} (C : CG Wp ty z h col a w mm u v x) (h1 : u <= u1) (h2 : v <= v1) (h3 : x <= x1) : CG Wp ty z h col a w mm u1 v1 x1 := ⟨C.V, C.O, C.p, C.f, C.L, C.s.mono h1 h2 h3⟩
theorem CG.mono2 {Wp : H -> Col -> Addr -> WM -> Prop} {ty z : Nat} (C : CG Wp ty z h col a w mm u v x) (h1 : u <= u1) (h2 : v <= v1) : CG Wp ty z h col a w mm u1 v1 x := C.mono3 h1 h2 (Nat.le_refl _)
theorem CG.st {Wp : H -> Col -> Addr -> WM -> Prop} {ty z : Nat} (C : CG Wp ty z h col a w mm u v x) (hW : ∀ h', ExtP (fun s => s = z) h col h' col -> Fresh h' col -> Wp h' col w mm.w) {i : Nat} {v1 : Value} {mm2 : MM} (e : setAll (mmCells w mm) i [v1] = mmCells w mm2) (ew : mm2.w = mm.w) (hi : i < 8) {Q : H -> Prop}
    (hk : ∀ h', CG Wp ty z h' col a w mm2 u v x -> ExtP (fun s => s = z) h col h' col -> Q h') : stL (a.add i) [v1] 0 h Q := by
  refine stL_var (m := i) (i := 0) C.V (by show i + 0 + 1 <= 8; omega) fun h3 v3 k3 s3 => ?_
  have E : ExtP (fun s => s = z) h col h3 col := ExtP.kx k3 C.O rfl
  have f3 : Fresh h3 col := fun k hk => C.f k (by omega)
  rw [Nat.add_zero, e] at v3
  exact hk h3 ⟨v3, C.O, by rw [ew]; exact hW h3 E f3, f3, C.L.ext E, by rw [ew]; exact C.s⟩ E
theorem CG.stP (C : CP h col a w mm u v x) {i : Nat} {v1 : Value} {mm2 : MM} (e : setAll (mmCells w mm) i [v1] = mmCells w mm2) (ew : mm2.w = mm.w) (hi : i < 8) {Q : H -> Prop}
    (hk : ∀ h', CP h' col a w mm2 u v x -> ExtP PX h col h' col -> Q h') : stL (a.add i) [v1] 0 h Q :=
  C.st (fun h' E f => C.p.ext E (by decide) (by decide) f) e ew hi fun h' C' E => hk h' C' (E.mono fun s hs => .inr hs)
end
theorem rngU0 : Rng .u8 (0 : Int) := ⟨by decide, by decide⟩
@[reducible] def tkOf (x : TokP) (b : Option Addr) (n c : Nat) : Tk := ⟨x.1, x.2.1, b, n, c, x.2.2.2.1, x.2.2.2.2⟩
structure TkW (h : H) (col : Col) (t : TokP) (b : Option Addr) (n c : Nat) : Prop where
  r : Row elAttr (Free col h) h b n c t.2.2.1
  z : b = none -> c = 0
  k : Rng .u8 t.1
  s : TokS t
structure LT (h : H) (col : Col) (a : Addr) (t : TokP) (b : Option Addr) (n c : Nat) : Prop where
  V : Var h a 45 (tkC (tkOf t b n c))
  O : col a.block = none
  T : TkW h col t b n c
section
variable {Z : Nat -> Prop} {h h' : H} {col col' : Col} {a : Addr} {t : TokP} {b : Option Addr} {n c : Nat}
theorem TkW.ext (T : TkW h col t b n c) (e : ExtP Z h col h' col') : TkW h' col' t b n c := ⟨e.row T.r, T.z, T.k, T.s⟩
theorem TkW.kb (T : TkW h col t b n c) (k : KB h h') : TkW h' col t b n c := T.ext (Z := fun _ => False) (.kb k)
theorem LT.ext (l : LT h col a t b n c) (e : ExtP Z h col h' col') : LT h' col' a t b n c := ⟨l.V.keep e.keepF ⟨l.O, l.V.lt⟩, by rw [e.cl _ l.V.lt]; exact l.O, l.T.ext e⟩
theorem LT.kb (l : LT h col a t b n c) (k : KB h h') : LT h' col a t b n c := l.ext (Z := fun _ => False) (.kb k)
theorem LT.ld (l : LT h col a t b n c) {K : Tk -> Prop} (hk : K (tkOf t b n c)) : ldT h a K := ⟨_, l.V.cell 0 rfl, _, l.V.cell 1 rfl, _, _, _, l.V.cell 2 rfl, _, l.V.cell 3 rfl, _, l.V.cell 4 rfl, hk⟩
theorem LT.nm (l : LT h col a t b n c) : cell h (a.add 1) = some (S t.2.1) := l.V.cell 1 rfl
theorem TkW.new (T : TkW h col t b n c) (f : Fresh h col) {Q : Addr -> H -> Prop} (hk : ∀ a h', LT h' col a t b n c -> KB h h' -> h.size <= a.block -> Q a h') : newx h ⟨tkC (tkOf t b n c)⟩ 45 Q :=
  newx_var fun a h1 v1 k1 e1 s1 => hk a h1 ⟨v1, f _ (by omega), T.kb k1⟩ k1 (by omega)
theorem TkW.nil (h : H) (col : Col) {k : Int} (hk : Rng .u8 k) {nm : Bs} (hn : nm.length <= 4000) : TkW h col (tokNm k nm) none 0 0 := ⟨⟨rfl, Nat.le_refl _, Nat.zero_le _, fun i x hx => by simp at hx⟩, fun _ => rfl, hk, ⟨hn, (by decide : ([] : List AttrP).length <= 500), (fun a ha => nomatch ha), (by decide : ([] : Bs).length <= 4000)⟩⟩
theorem TkW.attrs (T : TkW h col t b n c) : AttrsW t.2.2.1 := fun y hy => by have := (T.s.2.2.1 y hy).2; omega
theorem TkW.few (T : TkW h col t b n c) : n <= 1000000 := by have := T.r.len; have := T.s.2.1; omega
theorem newOne {s : Bs} (hs : s.length <= 4000) {Q : Addr -> H -> Prop} (hk : ∀ a h', Row elStr (fun _ => True) h' (some a) 1 1 [s] -> KB h h' -> Q a h') : newx h #[S s] 9 Q :=
  newx_var (cs := [S s]) fun a h1 v1 k1 e1 s1 => hk a h1 (v1.row1 (E := elStr) (A := fun _ => True) (x := s) ⟨rfl, by simp only [maxLen]; omega⟩ trivial) k1
theorem newWords {ws : List Bs} {k : Nat} (hn : ws.length = k) (hs : shortB ws = true) (hl : Nat.ble ws.length maxLen = true) {Q : Addr -> H -> Prop} (hk : ∀ a h', Row elStr (fun _ => True) h' (some a) k k ws -> KB h h' -> Q a h') : newx h (sW ws) 9 Q :=
  newx_var (cs := ws.map S) fun a h1 v1 k1 e1 s1 => hk a h1 (hn ▸ (rowLit (ws := ws) v1 hs hl)) k1
end
end Go.Proofs
namespace Go.Proofs
open Go Go.Sh
set_option linter.unusedVariables false
set_option maxRecDepth 100000
section
variable {h h2 : H} {col col2 : Col} {s ty : Nat} {w t : Addr} {op op' : List OpenP} {mk mk' : List MarkP} {fo : Bool} {hi : Int} {b b' : Option Addr} {n c n' c' : Nat} {Q : H -> Prop}
theorem setMarksC_k (W : WorldW h col s ty w t op mk fo hi) (hc : cell h (w.add 2) = some (.slice b n c)) (g : Grow h h2 b) (hcol : ∀ k, k < h.size -> col2 k = col k) (f2 : Fresh h2 col2) (o2 : OwnC elMark h2 col2 (s, 2) 79 b' n' c' mk')
    (hk : ∀ h3, WorldW h3 col2 s ty w t op mk' fo hi -> ExtP (fun k => k = s) h col h3 col2 -> Fresh h3 col2 -> Q h3) : stL (w.add 2) [.slice b' n' c'] 0 h2 Q := by
  obtain ⟨ob, oc, mb, mn, mc, v, o, om⟩ := W.ex
  have e1 : some (Value.slice b n c) = some (.slice mb mn mc) := hc.symm.trans (v.cell 2 rfl)
  cases e1
  have hbw : ∀ q, b = some q -> q.block ≠ w.block := fun q e e2 => by have := om.col q e; rw [e2, W.col] at this; cases this
  have v2 := v.keep g.keep.w ⟨v.lt, fun q e => hbw q e⟩
  have hcw : col2 w.block = some (s, 0) := by rw [hcol _ v.lt]; exact W.col
  have oo : OwnC elOpen h2 col2 (s, 1) 77 ob op.length oc op := o.keep g.keep.w hcol fun k hk hc => ⟨hk, fun q e e2 => by
    have h5 := om.col q e
    rw [e2] at h5
    rcases hc with hc | hc
    · rw [h5] at hc; cases hc
    · rw [h5] at hc; cases hc⟩
  refine stL_var (m := 2) (i := 0) v2 (by show 2 + 0 + 1 <= 5; omega) fun h3 v3 k3 s3 => ?_
  have hne : ∀ k, (col2 k = none ∨ ∃ p, p ≠ 0 /\ col2 k = some (s, p)) -> k ≠ w.block := fun k hc e => by
    subst e
    rcases hc with hc | ⟨p, hp, hc⟩
    · rw [hcw] at hc; cases hc
    · rw [hcw] at hc; cases hc; exact hp rfl
  have o3 := oo.keep (h' := h3) (col' := col2) k3.w (fun _ _ => rfl) fun k hk hc => hne k (hc.imp id fun h => ⟨1, by decide, h⟩)
  have om3 := o2.keep (h' := h3) (col' := col2) k3.w (fun _ _ => rfl) fun k hk hc => hne k (hc.imp id fun h => ⟨2, by decide, h⟩)
  have E1 : ExtP (fun k => k = s) h col h2 col2 := ⟨⟨g.size, fun k hk => g.old k hk.1 fun a ea e2 => hk.2 s 2 rfl (by rw [<- e2]; exact om.col a ea)⟩, hcol⟩
  exact hk h3 ⟨⟨ob, oc, b', n', c', v3, o3, om3⟩, hcw, W.rh⟩ (E1.trans (ExtP.kx k3 hcw rfl)) fun k hk => f2 k (by rw [<- s3]; exact hk)
theorem setOpenC_k (W : WorldW h col s ty w t op mk fo hi) (hc : cell h (w.add 1) = some (.slice b n c)) (g : Grow h h2 b) (hcol : ∀ k, k < h.size -> col2 k = col k) (f2 : Fresh h2 col2) (o2 : OwnC elOpen h2 col2 (s, 1) 77 b' n' c' op')
    (hk : ∀ h3, WorldW h3 col2 s ty w t op' mk fo hi -> ExtP (fun k => k = s) h col h3 col2 -> Fresh h3 col2 -> Q h3) : stL (w.add 1) [.slice b' n' c'] 0 h2 Q := by
  obtain ⟨ob, oc, mb, mn, mc, v, o, om⟩ := W.ex
  have e1 : some (Value.slice b n c) = some (.slice ob op.length oc) := hc.symm.trans (v.cell 1 rfl)
  cases e1
  have hbw : ∀ q, b = some q -> q.block ≠ w.block := fun q e e2 => by have := o.col q e; rw [e2, W.col] at this; cases this
  have v2 := v.keep g.keep.w ⟨v.lt, fun q e => hbw q e⟩
  have hcw : col2 w.block = some (s, 0) := by rw [hcol _ v.lt]; exact W.col
  have oo : OwnC elMark h2 col2 (s, 2) 79 mb mn mc mk := om.keep g.keep.w hcol fun k hk hc => ⟨hk, fun q e e2 => by
    have h5 := o.col q e
    rw [e2] at h5
    rcases hc with hc | hc
    · rw [h5] at hc; cases hc
    · rw [h5] at hc; cases hc⟩
  have hl := o2.len
  subst hl
  refine stL_var (m := 1) (i := 0) v2 (by show 1 + 0 + 1 <= 5; omega) fun h3 v3 k3 s3 => ?_
  have hne : ∀ k, (col2 k = none ∨ ∃ p, p ≠ 0 /\ col2 k = some (s, p)) -> k ≠ w.block := fun k hc e => by
    subst e
    rcases hc with hc | ⟨p, hp, hc⟩
    · rw [hcw] at hc; cases hc
    · rw [hcw] at hc; cases hc; exact hp rfl
  have o3 := o2.keep (h' := h3) (col' := col2) k3.w (fun _ _ => rfl) fun k hk hc => hne k (hc.imp id fun h => ⟨1, by decide, h⟩)
  have om3 := oo.keep (h' := h3) (col' := col2) k3.w (fun _ _ => rfl) fun k hk hc => hne k (hc.imp id fun h => ⟨2, by decide, h⟩)
  have E1 : ExtP (fun k => k = s) h col h2 col2 := ⟨⟨g.size, fun k hk => g.old k hk.1 fun a ea e2 => hk.2 s 1 rfl (by rw [<- e2]; exact o.col a ea)⟩, hcol⟩
  exact hk h3 ⟨⟨b', c', mb, mn, mc, v3, o3, om3⟩, hcw, W.rh⟩ (E1.trans (ExtP.kx k3 hcw rfl)) fun k hk => f2 k (by rw [<- s3]; exact hk)
end
section
variable {Z : Nat -> Prop} {h h' : H} {K : Value -> H -> Prop} {col col' : Col} {a w : Addr} {m : WM} {nm : Bs} {f : Int} {bl : OpenP} {u v x j b q : Nat}
theorem ExtP.markR (E : ExtP Z h col h' col') {y : MarkP} {ab : Option Addr} {an ac : Nat} (hR : MarkR (Free col h) h y ab an ac) : MarkR (Free col' h') h' y ab an ac := by
  have hi := hR.inv
  exact Go.Proofs.markR (E.row hi.1) hi.2.1 hi.2.2.1 hi.2.2.2
theorem insMark_k (g : AgW h col a w nm f bl (b : Nat)) (p : PW h col w m) (hml : m.mks.length <= 900000) (hb : b <= m.mks.length) (hc : ∃ q c, cell h (w.add 2) = some (.slice q m.mks.length c) /\ m.mks.length + 1 <= c) {y : MarkP} {x4 : Addr} {yb : Option Addr} {yn yc : Nat}
    (vx : Var h x4 79 [.int .i64 y.1, S y.2.1, .slice yb yn yc]) (hR : MarkR (Free col h) h y yb yn yc) {id : Int} {Kn : Sx.adopt_agency_renew.T0}
    (hk : ∀ h' col', PW h' col' w { m with mks := insAt m.mks b y } -> ExtP PS h col h' col' -> Sx.adopt_agency_renew.n9 (some a) id Kn Kn h') : Sx.adopt_agency_renew.n8 (some a) id x4 Kn Kn h := by
  obtain ⟨t, ads, T, W⟩ := p.ex
  obtain ⟨ob, oc, mb, mn, mc, vw, o, om⟩ := W.ex
  obtain ⟨q, c, hcell, hroom⟩ := hc
  have e1 : some (Value.slice q m.mks.length c) = some (.slice mb mn mc) := hcell.symm.trans (vw.cell 2 rfl)
  cases e1
  have ins : ∀ {Q : Option Addr -> Nat -> Nat -> H -> Prop}, (∀ b' c' h2 col2, OwnC elMark h2 col2 (2, 2) 79 b' (m.mks.length + 1) c' (insAt m.mks b y) -> Grow h h2 mb -> (∀ k, k < h.size -> col2 k = col k) -> Fresh h2 col2 -> Q b' (m.mks.length + 1) c' h2) ->
      newx h #[(.int .i64 y.1), (S y.2.1), (.slice yb yn yc)] 79 fun a140 h141 => ExtH h h141 /\ (HCalls Tryz.prog 240 ⟨[(.slice mb m.mks.length mc), (.int .i64 (b : Int)), (.slice (some a140) 1 1)]⟩ h141 fun v142 h143 => vSlice v142 fun s144b s144n s144c => Q s144b s144n s144c h143) := fun {Q} hQ => by
    refine newx_var fun a1 h1 v1 k1 e1 s1 => ⟨k1.ext, ?_⟩
    have E1 : ExtP (fun _ => False) h col h1 col := .kb k1
    refine insertM_calls (om.kb k1) (p.fresh.kb k1) hb hroom (E1.markR hR) v1 (p.fresh _ (by omega)) (by omega) fun b' c' h2 col2 o2 g2 hc2 f2 => vSliceMk ?_
    refine hQ b' c' h2 col2 o2 ⟨Nat.le_trans k1.1 g2.size, fun k hk hne => ?_⟩ (fun k hk => hc2 k (Nat.lt_of_lt_of_le hk k1.1)) f2
    exact (g2.old k (Nat.lt_of_lt_of_le hk k1.1) hne).trans (k1.2 k hk)
  have fin : ∀ b' c' h2 col2, OwnC elMark h2 col2 (2, 2) 79 b' (m.mks.length + 1) c' (insAt m.mks b y) -> Grow h h2 mb -> (∀ k, k < h.size -> col2 k = col k) -> Fresh h2 col2 -> stL (w.add 2) [.slice b' (m.mks.length + 1) c'] 0 h2 fun h3 => Sx.adopt_agency_renew.n9 (some a) id Kn Kn h3 := fun b' c' h2 col2 o2 g2 hc2 f2 =>
    setMarksC_k W (vw.cell 2 rfl) g2 hc2 f2 o2 fun h3 W3 E3 f3 => hk h3 col2 ⟨t, ads, T.otherP (S := fun k => k = 2) (by decide) E3 f3, W3⟩ (E3.mono fun s hs => .inr hs)
  have hne : ∀ q, mb = some q -> q.block ≠ a.block := fun q e e2 => by have := om.col q e; rw [e2, g.c] at this; cases this
  refine ⟨?_, ?_⟩
  · refine vSomeMk (vSomeMk ⟨_, g.v.cell 0 rfl, vSomeMk ⟨_, _, _, vw.cell 2 rfl, vSomeMk ⟨_, g.v.cell 7 rfl, _, vx.cell 0 rfl, _, vx.cell 1 rfl, _, _, _, vx.cell 2 rfl, ins fun b' c' h2 col2 o2 g2 hc2 f2 => ?_⟩⟩⟩)
    have va2 := g.v.keep g2.keep.w ⟨g.v.lt, fun q e => hne q e⟩
    exact ⟨_, va2.cell 0 rfl, vSomeMk (fin b' c' h2 col2 o2 g2 hc2 f2)⟩
  · exact vSomeMk ⟨_, g.v.cell 0 rfl, vSomeMk ⟨_, g.v.cell 0 rfl, vSomeMk ⟨_, _, _, vw.cell 2 rfl, vSomeMk ⟨_, g.v.cell 7 rfl, _, vx.cell 0 rfl, _, vx.cell 1 rfl, _, _, _, vx.cell 2 rfl, ins fun b' c' h2 col2 o2 g2 hc2 f2 => vSomeMk (fin b' c' h2 col2 o2 g2 hc2 f2)⟩⟩⟩⟩
theorem insOpen_k {h0 : H} (g0 : AgW h0 col a w nm f bl (b : Nat)) (p0 : PW h0 col w m) (hop : m.op.length <= 900000) (hf : 0 < atO m.op f) {y : OpenP} (hy : OpenW y) {x5 : Addr} (k0 : KB h0 h) (vx : Var h x5 77 (cellsO y)) (hx5 : h0.size <= x5.block) {id : Int} (hid : Rng .i64 id) {Kn : Sx.adopt_agency_renew.T0}
    (hk : ∀ h' col', PW h' col' w { m with op := insAt (dropO m.op f) ((atO (dropO m.op f) bl.1) + 1).toNat (id, y.2) } -> ExtP PS h0 col h' col' -> Kn h') : Sx.adopt_agency_renew.n10 (some a) id x5 Kn Kn h := by
  refine stL_var (m := 0) (i := 0) vx (by show 0 + 0 + 1 <= 4; omega) fun h1 vx1 kx1 s1 => ?_
  have k01 : KB h0 h1 := KB.step k0 kx1 hx5
  have p1 := p0.kb k01
  have g1 := g0.kb k01
  have vx1 : Var h1 x5 77 (cellsO (id, y.2)) := vx1
  have cx : col x5.block = none := p0.fresh _ hx5
  have hy2 : OpenW (id, y.2) := ⟨hid, hy.2⟩
  refine vSomeMk ⟨_, g1.v.cell 0 rfl, vSomeMk ⟨_, g1.v.cell 2 rfl, drop_callsW p1 (by omega) fun h2 col2 p2 E2 hcap => ?_⟩⟩
  obtain ⟨qb, qc, hcell, hroom⟩ := hcap hf
  have g2 := g1.ps E2
  have vx2 : Var h2 x5 77 (cellsO (id, y.2)) := vx1.keep E2.keepF ⟨cx, vx1.lt⟩
  have hdl : (dropO m.op f).length <= m.op.length := by
    unfold dropO
    by_cases hq : 0 < idxQ m.op (fun x => decide (x.1 = f))
    · rw [if_pos hq, List.length_eraseIdx]; split <;> omega
    · rw [if_neg hq]; exact Nat.le_refl _
  obtain ⟨t, ads, T, W⟩ := p2.ex
  obtain ⟨ob, oc, mb, mn, mc, vw, o, om⟩ := W.ex
  have e1 : some (Value.slice qb (dropO m.op f).length qc) = some (.slice ob (dropO m.op f).length oc) := hcell.symm.trans (vw.cell 1 rfl)
  cases e1
  have hat := idxQ_lt (l := dropO m.op f) (p := fun x => decide (x.1 = bl.1))
  obtain ⟨i, hi⟩ : ∃ i : Nat, atO (dropO m.op f) bl.1 + 1 = (i : Int) := ⟨(atO (dropO m.op f) bl.1 + 1).toNat, by
    have h1 := hat.2
    show idxQ (dropO m.op f) (fun x => decide (x.1 = bl.1)) + 1 = ((idxQ (dropO m.op f) (fun x => decide (x.1 = bl.1)) + 1).toNat : Int)
    omega⟩
  have hiw : atO (dropW m f).op bl.1 + 1 = (i : Int) := hi
  have hil : i <= (dropO m.op f).length := by have := hat.1; have h2 : idxQ (dropO m.op f) (fun x => decide (x.1 = bl.1)) + 1 = (i : Int) := hi; omega
  have hin : (atO (dropO m.op f) bl.1 + 1).toNat = i := by rw [hi]; rfl
  rw [hin] at hk
  have hne : ∀ q, qb = some q -> q.block ≠ a.block := fun q e e2 => by have := o.col q e; rw [e2, g2.c] at this; cases this
  have fin : ∀ b' c' h3 col3, OwnC elOpen h3 col3 (2, 1) 77 b' ((dropO m.op f).length + 1) c' (insAt (dropO m.op f) i (id, y.2)) -> Grow h2 h3 qb -> (∀ k, k < h2.size -> col3 k = col2 k) -> Fresh h3 col3 -> stL (w.add 1) [.slice b' ((dropO m.op f).length + 1) c'] 0 h3 fun h4 => Kn h4 := fun b' c' h3 col3 o3 g3 hc3 f3 =>
    setOpenC_k W (vw.cell 1 rfl) g3 hc3 f3 o3 fun h4 W4 E4 f4 => hk h4 col3 ⟨t, ads, T.otherP (S := fun k => k = 2) (by decide) E4 f4, W4⟩ (((ExtP.kb k01).trans E2).trans (E4.mono fun s hs => .inr hs))
  have call : ∀ {Q : Option Addr -> Nat -> Nat -> H -> Prop} {h5 : H} {a22 : Addr}, KB h2 h5 -> Var h5 a22 77 (cellsO (id, y.2)) -> col2 a22.block = none -> (∀ b' c' h3 col3, OwnC elOpen h3 col3 (2, 1) 77 b' ((dropO m.op f).length + 1) c' (insAt (dropO m.op f) i (id, y.2)) -> Grow h2 h3 qb -> (∀ k, k < h2.size -> col3 k = col2 k) -> Fresh h3 col3 -> Q b' ((dropO m.op f).length + 1) c' h3) ->
      HCalls Tryz.prog 241 ⟨[(.slice qb (dropO m.op f).length qc), (.int .i64 (i : Int)), (.slice (some a22) 1 1)]⟩ h5 fun v24 h25 => vSlice v24 fun s26b s26n s26c => Q s26b s26n s26c h25 := fun {Q h5 a22} k5 v5 c5 hQ =>
    insertO_calls (o.kb k5) (p2.fresh.kb k5) hil hroom hy2.r v5 c5 (by omega) fun b' c' h3 col3 o3 g3 hc3 f3 => vSliceMk (hQ b' c' h3 col3 o3 ⟨Nat.le_trans k5.1 g3.size, fun k hk hne => (g3.old k (Nat.lt_of_lt_of_le hk k5.1) hne).trans (k5.2 k hk)⟩ (fun k hk => hc3 k (Nat.lt_of_lt_of_le hk k5.1)) f3)
  have va2 : ∀ {h3 : H} {col3 : Col}, Grow h2 h3 qb -> Var h3 a 168 (agCells w nm f bl b) := fun g3 => g2.v.keep g3.keep.w ⟨g2.v.lt, fun q e => hne q e⟩
  refine ⟨⟨?_, ?_⟩, ?_, ?_⟩
  · refine vSomeMk (vSomeMk ⟨_, g2.v.cell 0 rfl, vSomeMk ⟨_, _, _, vw.cell 1 rfl, vSomeMk ⟨_, cellAA g2.v 3 0 rfl, ldVar (m := (id, y.2)) vx2 (agAt_calls g2 p2 fun h3 k3 => vIntMk ⟨k3.ext, ?_⟩)⟩⟩⟩)
    rw [hiw]
    exact ⟨rng64 (by omega) (by omega), newx_var fun a22 h4 v4 k4 e4 s4 => ⟨k4.ext, call (k3.trans k4) v4 (p2.fresh _ (by have := k3.1; omega)) fun b' c' h5 col5 o5 g5 hc5 f5 => ⟨_, (va2 (col3 := col5) g5).cell 0 rfl, vSomeMk (fin b' c' h5 col5 o5 g5 hc5 f5)⟩⟩⟩
  · refine vSomeMk (vSomeMk ⟨_, g2.v.cell 0 rfl, vSomeMk ⟨_, _, _, vw.cell 1 rfl, vSomeMk ⟨_, cellAA g2.v 3 0 rfl, ldVar (m := (id, y.2)) vx2 (newx_var fun a22 h4 v4 k4 e4 s4 => ⟨k4.ext, agAt_calls (g2.kb k4) (p2.kb k4) fun h3 k3 => vIntMk ⟨k3.ext, ?_⟩⟩)⟩⟩⟩)
    rw [hiw]
    exact ⟨rng64 (by omega) (by omega), call (k4.trans k3) (v4.kb k3) (p2.fresh _ (by omega)) fun b' c' h5 col5 o5 g5 hc5 f5 => ⟨_, (va2 (col3 := col5) g5).cell 0 rfl, vSomeMk (fin b' c' h5 col5 o5 g5 hc5 f5)⟩⟩
  · refine vSomeMk ⟨_, g2.v.cell 0 rfl, vSomeMk ⟨_, g2.v.cell 0 rfl, vSomeMk ⟨_, _, _, vw.cell 1 rfl, vSomeMk ⟨_, cellAA g2.v 3 0 rfl, ldVar (m := (id, y.2)) vx2 (agAt_calls g2 p2 fun h3 k3 => vIntMk ⟨k3.ext, ?_⟩)⟩⟩⟩⟩
    rw [hiw]
    exact ⟨rng64 (by omega) (by omega), newx_var fun a22 h4 v4 k4 e4 s4 => ⟨k4.ext, call (k3.trans k4) v4 (p2.fresh _ (by have := k3.1; omega)) fun b' c' h5 col5 o5 g5 hc5 f5 => vSomeMk (fin b' c' h5 col5 o5 g5 hc5 f5)⟩⟩
  · refine vSomeMk ⟨_, g2.v.cell 0 rfl, vSomeMk ⟨_, g2.v.cell 0 rfl, vSomeMk ⟨_, _, _, vw.cell 1 rfl, vSomeMk ⟨_, cellAA g2.v 3 0 rfl, ldVar (m := (id, y.2)) vx2 (newx_var fun a22 h4 v4 k4 e4 s4 => ⟨k4.ext, agAt_calls (g2.kb k4) (p2.kb k4) fun h3 k3 => vIntMk ⟨k3.ext, ?_⟩⟩)⟩⟩⟩⟩
    rw [hiw]
    exact ⟨rng64 (by omega) (by omega), call (k4.trans k3) (v4.kb k3) (p2.fresh _ (by omega)) fun b' c' h5 col5 o5 g5 hc5 f5 => vSomeMk (fin b' c' h5 col5 o5 g5 hc5 f5)⟩
theorem renew_calls (g : AgW h col a w nm f bl (b : Nat)) (p : PW h col w m) (C : CI m u v x f j b q) (hu : u + 1 <= 900000) (hv : v <= 900000)
    (hk : ∀ h' col', PW h' col' w (renewM m f bl.1 b) -> AgW h' col' a w nm f bl (unbook b (findP m.mks f).toNat : Nat) -> ExtP PA h col h' col' -> K (.tuple ⟨[]⟩) h') :
    HCalls Tryz.prog 227 ⟨[.pointer (some a)]⟩ h K := by
  obtain ⟨t, ads, T, W⟩ := p.ex
  obtain ⟨_, _, _, _, _, vw, _, _⟩ := W.ex
  have hlo := C.A.D.lo
  have hln := C.A.D.ln
  have hml := C.A.D.ml
  have hjl : j < m.op.length := Nat.lt_of_lt_of_le C.hj C.hq
  have eg : m.op.getD j noOpen = m.op[j] := getD_get hjl
  have hfj : m.op[j].1 = f := by have := C.hf; rwa [eg] at this
  have hf0 : 0 <= f := by rw [<- hfj]; exact (C.A.D.ids _ (List.getElem_mem hjl)).1
  have hat : atO m.op f = (j : Int) := by rw [<- hfj]; exact C.A.atO_of hjl
  refine Sx.adopt_agency_renew.ok _ _ _ (vSomeMk ⟨_, g.v.cell 0 rfl, vSomeMk ⟨_, vw.cell 0 rfl, vSomeMk ⟨_, g.v.cell 2 rfl, copyT_k T W (by omega) fun h1 c1 ads1 T1 W1 E1 => vIntMk ?_⟩⟩⟩)
  obtain ⟨A1, ec, hcl, _⟩ := C.A.copy (List.getElem_mem hjl) (C.A.ne0 hjl C.h0)
  rw [hfj] at A1 ec hcl
  have ht1 : ∀ {h' : H} {col' : Col} {ns' : List NodeM}, WorldW h' col' 2 42 w t m.op m.mks m.fo m.hi -> cell h' (w.add 0) = some (.pointer (some t)) := fun W => by obtain ⟨_, _, _, _, _, v, _, _⟩ := W.ex; exact v.cell 0 rfl
  obtain ⟨id, hid⟩ : ∃ id, (copyM m.ns f).2 = id := ⟨_, rfl⟩
  rw [hid] at ec ⊢
  have hidr : Rng .i64 id := by rw [ec]; exact rng64 (by omega) (by omega)
  have g1 := g.ps E1
  refine vSomeMk ⟨_, g1.v.cell 0 rfl, vSomeMk ⟨_, ht1 (ns' := []) W1, vSomeMk ⟨_, cellAA g1.v 3 0 rfl, moveT_k T1 W1 A1.D.G fun h2 c2 T2 W2 E2 => vBool_mk ?_⟩⟩⟩
  have A2 := A1.move bl.1 id
  have g2 := g1.ps E2
  refine condK (K := fun _ => Sx.adopt_agency_renew.n3 (some a) id (fun h => K (.tuple ⟨[]⟩) h) (fun h => K (.tuple ⟨[]⟩) h) h2) ?_
  refine vSomeMk ⟨_, g2.v.cell 0 rfl, vSomeMk ⟨_, ht1 (ns' := []) W2, vSomeMk ⟨_, cellAA g2.v 3 0 rfl, putT_k T2 W2 A2.D.G fun h3 c3 T3 W3 E3 => vBool_mk ?_⟩⟩⟩
  have g3 := g2.ps E3
  refine condK (K := fun _ => Sx.adopt_agency_renew.n4 (some a) id (fun h => K (.tuple ⟨[]⟩) h) (fun h => K (.tuple ⟨[]⟩) h) h3) ?_
  have E03 := (E1.trans E2).trans E3
  have p3 : PW h3 c3 w { m with ns := (putM (moveM (copyM m.ns f).1 bl.1 id).1 bl.1 (-1) id).1 } := ⟨t, ads1, T3, W3⟩
  obtain ⟨ob3, oc3, mb3, mn3, mc3, vw3, o3, om3⟩ := W3.ex
  have hfm : 0 <= findP m.mks f := (findP_mem hf0).2 C.hm
  obtain ⟨_, hkl, _⟩ := findP_yes hfm
  obtain ⟨k, ek⟩ := Int.eq_ofNat_of_zero_le hfm
  have ekn : (findP m.mks f).toNat = k := by rw [ek]; rfl
  rw [ekn] at hkl
  have hml3 := om3.len
  refine vSomeMk ⟨_, g3.v.cell 0 rfl, vSomeMk ⟨_, _, _, vw3.cell 2 rfl, vSomeMk ⟨_, g3.v.cell 2 rfl, find_calls om3.row fun h4 k4 => vIntMk ?_⟩⟩⟩
  rw [ek]
  obtain ⟨xs, he, hcc, _⟩ := (om3.kb k4).parts
  obtain ⟨am, yb, yn, yc, eb, m0, m1, m2, mR⟩ := markPart he hcc hkl
  subst eb
  have g4 := g3.kb k4
  refine vSomeMk ⟨_, g4.v.cell 0 rfl, vSomeMk ⟨_, _, _, (vw3.kb k4).cell 2 rfl, ⟨by omega, by omega⟩, vSomeMk ?_⟩⟩
  rw [Int.toNat_natCast]
  refine ⟨_, m0, _, m1, _, _, _, m2, newx_var fun x4 h5 v5 k5 e5 s5 => stL_var0 v5 (by show 3 <= 3; omega) fun h6 v6 k6 s6 => stL_var (m := 0) (i := 0) v6 (by show 0 + 0 + 1 <= 3; omega) fun h7 v7 k7 s7 => ?_⟩
  have k47 : KB h4 h7 := KB.step (KB.step k5 k6 (by omega)) k7 (by omega)
  have k37 := k4.trans k47
  have v7 : Var h7 x4 79 [.int .i64 id, S m.mks[k].2.1, .slice yb yn yc] := v7
  have cx4 : c3 x4.block = none := p3.fresh _ (by have := k4.1; omega)
  have mR7 : MarkR (Free c3 h7) h7 m.mks[k] yb yn yc := (ExtP.kb (S := fun _ => False) k47).markR mR
  have mR7 : MarkR (Free c3 h7) h7 (id, m.mks[k].2) yb yn yc := by
    have hi := mR7.inv
    exact Go.Proofs.markR (m := (id, m.mks[k].2)) hi.1 hi.2.1 hidr hi.2.2.2
  refine unmark_calls (g3.kb k37) (p3.kb k37) rfl (by have := C.hb; omega) hkl (by show m.mks.length <= _; omega) fun h8 c8 p8 g8 E8 hc8 => ?_
  have hel : (m.mks.eraseIdx k).length = m.mks.length - 1 := by rw [List.length_eraseIdx, if_pos hkl]
  obtain ⟨q8, qc8, hc8, hr8⟩ := hc8
  have hr8 : m.mks.length <= qc8 := hr8
  have hub : unbook b k <= m.mks.length - 1 := by have := C.hb; unfold unbook; split <;> omega
  refine insMark_k (y := (id, m.mks[k].2)) g8 p8 (by show (m.mks.eraseIdx k).length <= _; omega) (by show unbook b k <= (m.mks.eraseIdx k).length; omega) ⟨q8, qc8, by show cell h8 (w.add 2) = some (.slice q8 (m.mks.eraseIdx k).length qc8); rw [hel]; exact hc8, by show (m.mks.eraseIdx k).length + 1 <= qc8; omega⟩ (v7.keep E8.keepF ⟨cx4, v7.lt⟩) (E8.markR mR7) fun h9 c9 p9 E9 => ?_
  have g9 := g8.ps E9
  have E09 : ExtP PA h col h9 c9 := ((E03.pa.trans (.kb k37)).trans E8).trans E9.pa
  have hgm : m.mks.getD k noMark = m.mks[k] := getD_get hkl
  have hres : ∀ h' col', PW h' col' w { m with ns := (putM (moveM (copyM m.ns f).1 bl.1 id).1 bl.1 (-1) id).1, mks := insAt (m.mks.eraseIdx k) (unbook b k) (id, m.mks[k].2), op := insAt (dropO m.op f) ((atO (dropO m.op f) bl.1) + 1).toNat (id, m.op[j].2) } -> ExtP PS h9 c9 h' col' -> K (.tuple ⟨[]⟩) h' := fun h' col' p' E' => hk h' col' (by
    unfold renewM
    simp only [hid, ekn, hgm, hat, Int.toNat_natCast, eg]
    exact p') (by rw [ekn]; exact g9.ps E') (E09.trans E'.pa)
  obtain ⟨t9, ads9, T9, W9⟩ := p9.ex
  obtain ⟨ob9, oc9, mb9, mn9, mc9, vw9, o9, om9⟩ := W9.ex
  have hoj : OpenW m.op[j] := W9.openW _ (List.getElem_mem hjl)
  refine ⟨?_, ?_⟩
  · refine vSomeMk ⟨_, g9.v.cell 0 rfl, vSomeMk ⟨_, _, _, vw9.cell 1 rfl, vSomeMk ⟨_, g9.v.cell 2 rfl, agAt_calls g9 p9 fun h10 k10 => vIntMk ⟨k10.ext, ?_⟩⟩⟩⟩
    dsimp only [unmark]
    rw [hat]
    refine (o9.kb k10).row.idxN (i := j) hjl rfl fun qa hA => ldOpen hA fun ow => newx_var fun x5 h11 v11 k11 e11 s11 => ⟨k11.ext, stL_var0 v11 (by show 4 <= 4; omega) fun h12 v12 k12 s12 => ?_⟩
    have k912 : KB h9 h12 := KB.step (k10.trans k11) k12 (by have := k10.1; omega)
    exact insOpen_k (y := m.op[j]) g9 p9 (by show m.op.length <= _; omega) (by show 0 < atO m.op f; rw [hat]; have := C.h0; omega) hoj k912 v12 (by have := k10.1; omega) hidr hres
  · refine vSomeMk ⟨_, g9.v.cell 0 rfl, vSomeMk ⟨_, _, _, vw9.cell 1 rfl, vSomeMk ⟨_, g9.v.cell 2 rfl, newx_var fun x5 h11 v11 k11 e11 s11 => ⟨k11.ext, agAt_calls (g9.kb k11) (p9.kb k11) fun h10 k10 => vIntMk ⟨k10.ext, ?_⟩⟩⟩⟩⟩
    dsimp only [unmark]
    rw [hat]
    refine ((o9.kb k11).kb k10).row.idxN (i := j) hjl rfl fun qa hA => ldOpen hA fun ow => stL_var0 (v11.kb k10) (by show 4 <= 4; omega) fun h12 v12 k12 s12 => ?_
    have k912 : KB h9 h12 := KB.step (k11.trans k10) k12 (by omega)
    exact insOpen_k (y := m.op[j]) g9 p9 (by show m.op.length <= _; omega) (by show 0 < atO m.op f; rw [hat]; have := C.h0; omega) hoj k912 v12 (by omega) hidr hres
end
end Go.Proofs
namespace Go.Proofs
open Go Go.Sh
set_option linter.unusedVariables false
set_option maxRecDepth 100000
section
variable {h h' : H} {K : Value -> H -> Prop} {col col' : Col} {a w : Addr} {m : WM} {nm : Bs} {f bk : Int} {bl : OpenP} {u v x : Nat}
theorem AI.names (A : AI m u v x) : ∀ y ∈ m.op, y.2.2.1.length <= 1000000000 := fun y hy => by have := A.nml y hy; omega
theorem round_calls (L : Lib0 h col) (g : AgW h col a w nm f bl bk) (p : PW h col w m) (A : AI m u v x) (hu : u + 4 <= 900000) (hv : v <= 900000) {k : Nat} (hkl : k < m.mks.length) (h0 : 0 <= (m.mks.getD k noMark).1)
    (hk : ∀ h' col' f' bl' bk', PW h' col' w (roundM m k).1 -> AgW h' col' a w nm f' bl' bk' -> ExtP PA h col h' col' -> K (.bool (roundM m k).2) h') :
    HCalls Tryz.prog 202 ⟨[.pointer (some a), .int .i64 (k : Int)]⟩ h K := by
  have hlo := A.D.lo
  have hln := A.D.ln
  have hml := A.D.ml
  obtain ⟨t, ads, T, W⟩ := p.ex
  obtain ⟨ob, oc, mb, mn, mc, vw, o, om⟩ := W.ex
  have hmn := om.len
  have hgm : m.mks.getD k noMark = m.mks[k] := getD_get hkl
  obtain ⟨xs, he, hcc, _⟩ := om.parts
  obtain ⟨am, yb, yn, yc, eb, m0, m1, m2, mR⟩ := markPart he hcc hkl
  subst eb
  obtain ⟨F, hF⟩ : ∃ F, (m.mks.getD k noMark).1 = F := ⟨_, rfl⟩
  have hFk : m.mks[k].1 = F := by rw [<- hgm]; exact hF
  rw [hFk] at m0
  refine Sx.adopt_agency_round.ok _ _ _ _ (vSomeMk ⟨_, g.v.cell 0 rfl, vSomeMk ⟨_, _, _, vw.cell 2 rfl, ⟨by omega, by omega⟩, vSomeMk ?_⟩⟩)
  rw [Int.toNat_natCast]
  refine ⟨_, m0, vSomeMk (agSt g p (i := 2) (by show 2 + 1 <= 8; omega) fun h1 v1 c1 p1 E1 _ => vSomeMk ?_)⟩
  have g1 : AgW h1 col a w nm F bl bk := ⟨v1, c1⟩
  refine agSt g1 p1 (i := 7) (by show 7 + 1 <= 8; omega) fun h2 v2 c2 p2 E2 _ => vSomeMk ?_
  have g2 : AgW h2 col a w nm F bl (k : Nat) := ⟨v2, c2⟩
  have E02 := E1.trans E2
  refine ⟨_, g2.v.cell 2 rfl, agAt_calls g2 p2 fun h3 k3 => vIntMk ?_⟩
  have p3 := p2.kb k3
  have g3 := g2.kb k3
  have E03 := E02.trans (.kb k3)
  unfold roundM at hk
  simp only [] at hk
  rw [hF] at hk h0
  refine spl (fun hneg => ?_) fun hneg => ?_
  · rw [if_pos hneg] at hk
    exact unmark_calls g3 p3 rfl (by omega) hkl (by omega) fun h4 c4 p4 g4 E4 _ => hk h4 c4 _ _ _ p4 g4 (E03.trans E4)
  rw [if_neg hneg] at hk
  obtain ⟨i, ei⟩ := Int.eq_ofNat_of_zero_le (by omega : 0 <= atO m.op F)
  have ein : (atO m.op F).toNat = i := by rw [ei]; rfl
  rw [ein] at hk
  rw [ei]
  have hil : i < m.op.length := by have := (idxQ_lt (l := m.op) (p := fun x => decide (x.1 = F))).1; have h2 : (idxQ m.op fun x => decide (x.1 = F)) = (i : Int) := ei; omega
  refine scoped_calls (L.ext E03) g3 p3 (by omega) A.names hil fun h4 k4 => vBool_mk (condB (fun hs => ?_) fun hs => ?_)
  rotate_left
  · rw [hs, if_pos rfl] at hk
    exact hk h4 col _ _ _ (p3.kb k4) (g3.kb k4) (E03.trans (.kb k4))
  rw [hs, if_neg (by simp)] at hk
  have p4 := p3.kb k4
  have g4 := g3.kb k4
  have E04 := E03.trans (.kb k4)
  obtain ⟨t4, ads4, T4, W4⟩ := p4.ex
  obtain ⟨ob4, oc4, mb4, mn4, mc4, vw4, o4, om4⟩ := W4.ex
  have hcap := o4.cap
  have hmax := hcap.2
  simp only [maxLen] at hmax
  have e1 : ((i : Int) + (1 : Int)) = ((i + 1 : Nat) : Int) := rfl
  refine vSomeMk ⟨_, g4.v.cell 0 rfl, vSomeMk ⟨_, _, _, vw4.cell 1 rfl, rng64 (by omega) (by omega), ⟨by omega, by omega, by omega⟩, ?_⟩⟩
  rw [e1]
  have r0 : Row elOpen (Bel h4.size) h4 (if oc4 = i + 1 then ob4 else Option.map (fun q => q.add ((i + 1) * 4)) ob4) (m.op.length - (i + 1)) (oc4 - (i + 1)) ((m.op.take m.op.length).drop (i + 1)) := o4.row.sub (lo := i + 1) (hi := m.op.length) (by omega) (Nat.le_refl _) rfl
  rw [List.take_length] at r0
  refine indexFuncOpen_calls (p := specO) r0 (fun y h5 next hy k5 hR hn => ?_) fun h5 k5 => vIntMk ?_
  · have e : CallV Tryz.prog 4 (.func (.func 225) ⟨[]⟩ ⟨[]⟩) ⟨[.agg ⟨[.int .i64 y.1, .int .u8 y.2.1, S y.2.2.1, .int .u8 y.2.2.2]⟩]⟩ h5 next =
        HCalls Tryz.prog 225 ⟨[.agg ⟨[.int .i64 y.1, .int .u8 y.2.1, S y.2.2.1, .int .u8 y.2.2.2]⟩]⟩ h5 fun v h' => vBool v fun b => cond b (next (.bool true) h') (next (.bool false) h') := by kernel_rfl
    rw [e]
    have hym : y ∈ m.op := List.mem_of_mem_drop hy
    refine Sx.adopt_agency_round_1.ok _ _ _ _ _ _ (newx_var fun a8 h8 v8 k8 e8 _ => ⟨_, v8.cell 1 rfl, _, v8.cell 2 rfl, special_calls ((L.ext (E04.trans (.kb k5))).ml.kb k8) (by have := A.names y hym; omega) (vBool_mk ?_)⟩)
    have := hn h8 k8
    exact condB (fun eb => by have eb : specO y = true := eb; rw [eb] at this; exact this) fun eb => by have eb : specO y = false := eb; rw [eb] at this; exact this
  have p5 := p4.kb k5
  have g5 := g4.kb k5
  have E05 := E04.trans (.kb k5)
  have vw5 := vw4.kb k5
  refine spl (fun hsn => ?_) fun hsn => ?_
  · rw [if_pos hsn] at hk
    refine vSomeMk ⟨_, g5.v.cell 0 rfl, close_callsW p5 fun h6 c6 p6 E6 => ?_⟩
    have hml6 : (closeW m (i : Int)).mks = m.mks := rfl
    exact unmark_calls (g5.ps E6) p6 rfl (by omega) (by rw [hml6]; exact hkl) (by rw [hml6]; omega) fun h7 c7 p7 g7 E7 _ => hk h7 c7 _ _ _ p7 g7 ((E05.trans E6.pa).trans E7)
  rw [if_neg hsn] at hk
  obtain ⟨hjl, hjs, _⟩ := idxQ_yes (l := m.op.drop (i + 1)) (p := specO) (by omega)
  rw [List.length_drop] at hjl
  obtain ⟨j, ej⟩ := Int.eq_ofNat_of_zero_le (by omega : 0 <= idxQ (m.op.drop (i + 1)) specO)
  have ejn : (idxQ (m.op.drop (i + 1)) specO).toNat = j := by rw [ej]; rfl
  rw [ejn] at hjl hk
  rw [ej]
  have e2 : ((j : Int) + ((i : Int) + (1 : Int))) = ((j + (i + 1) : Nat) : Int) := rfl
  obtain ⟨n, hn⟩ : ∃ n, j + (i + 1) = n := ⟨_, rfl⟩
  have hnl : n < m.op.length := by omega
  have hin : i < n := by omega
  have C : CI m u v x F i k n := by
    have := A.begin (n := n) hkl (by rw [hF]; exact h0) (by rw [hF]; omega) (by rw [hF, ein]; exact hin) (by omega)
    rw [hF, ein] at this
    exact this
  rw [hn] at hk
  refine ⟨rng64 (by omega) (by omega), ?_⟩
  rw [e2, hn]
  have hi0 := C.h0
  refine ⟨rng64 (by omega) (by omega), vSomeMk ⟨_, g5.v.cell 0 rfl, vSomeMk ⟨_, _, _, vw5.cell 1 rfl, (o4.kb k5).row.idxN (i := n) hnl rfl fun qa hA => ldOpen hA fun ow => vSomeMk ?_⟩⟩⟩
  refine agSt g5 p5 (i := 3) (by show 3 + 4 <= 8; omega) fun h6 v6 c6 p6 E6 _ => ?_
  have g6 : AgW h6 col a w nm F m.op[n] (k : Nat) := ⟨v6, c6⟩
  have E06 := E05.trans E6
  obtain ⟨t6, ads6, T6, W6⟩ := p6.ex
  obtain ⟨ob6, oc6, mb6, mn6, mc6, vw6, o6, om6⟩ := W6.ex
  have e3 : ((i : Int) - (1 : Int)) = ((i - 1 : Nat) : Int) := by omega
  refine vSomeMk ⟨_, g6.v.cell 0 rfl, vSomeMk ⟨_, _, _, vw6.cell 1 rfl, rng64 (by omega) (by omega), ?_⟩⟩
  rw [e3]
  have hi1 : i - 1 < m.op.length := by omega
  refine o6.row.idxN (i := i - 1) hi1 rfl fun qa hA => ldOpen hA fun ow2 => newx_var fun x21 h7 v7 k7 e7 s7 => stL_var0 v7 (by show 4 <= 4; omega) fun h8 v8 k8 s8 => ?_
  have k68 : KB h6 h8 := KB.step k7 k8 (by omega)
  have v8 : Var h8 x21 77 (cellsO m.op[i - 1]) := v8
  have cx : col x21.block = none := p6.fresh _ (by omega)
  refine climb_calls (L.ext (E06.trans (.kb k68))) (g6.kb k68) (p6.kb k68) C (by omega) hv fun h9 c9 p9 g9 E9 => vIntMk ?_
  have C9 := climb_inv m.op[n].1 n 0 m.op[n].1 C
  have egn : m.op.getD n noOpen = m.op[n] := getD_get hnl
  have egi : m.op.getD (i - 1) noOpen = m.op[i - 1] := getD_get hi1
  unfold overM at hk
  simp only [egn, egi] at hk
  obtain ⟨R, hR⟩ : ∃ R, climbN m.op[n].1 F n 0 m m.op[n].1 k = R := ⟨_, rfl⟩
  rw [hR] at C9 p9 g9 ⊢
  rw [hR] at hk
  have v9 := v8.keep E9.keepF ⟨cx, v8.lt⟩
  have E09 := (E06.trans (.kb k68)).trans E9
  obtain ⟨t9, ads9, T9, W9⟩ := p9.ex
  have hlo9 := C9.A.D.lo
  have hln9 := C9.A.D.ln
  refine vSomeMk ⟨_, g9.v.cell 0 rfl, ldVar (m := m.op[i - 1]) v9 (where_calls (x := m.op[i - 1]) T9 W9 (by omega) fun h10 k10 => tupIIMk ?_)⟩
  have g10 := g9.kb k10
  have W10 := W9.kb k10
  have T10 := T9.kb k10
  obtain ⟨_, _, _, _, _, vw10, _, _⟩ := W10.ex
  refine vSomeMk ⟨_, g10.v.cell 0 rfl, vSomeMk ⟨_, vw10.cell 0 rfl, putT_k T10 W10 C9.A.D.G fun h11 c11 T11 W11 E11 => vBool_mk ?_⟩⟩
  have g11 := g10.ps E11
  have E011 := (E09.trans (.kb k10)).trans E11.pa
  have C11 := C9.put (whereM R.1.ns R.1.op R.1.fo m.op[i - 1]).1 (whereM R.1.ns R.1.op R.1.fo m.op[i - 1]).2 R.2.1
  have p11 : PW h11 c11 w { R.1 with ns := (putM R.1.ns (whereM R.1.ns R.1.op R.1.fo m.op[i - 1]).1 (whereM R.1.ns R.1.op R.1.fo m.op[i - 1]).2 R.2.1).1 } := ⟨t9, ads9, T11, W11⟩
  refine condK (K := fun _ => HCalls Tryz.prog 227 ⟨[.pointer (some a)]⟩ h11 fun v49 h50 => K (.bool true) h50) ?_
  exact renew_calls g11 p11 C11 (by omega) hv fun h12 c12 p12 g12 E12 => hk h12 c12 _ _ _ p12 g12 (E011.trans E12)
end
end Go.Proofs
namespace Go.Proofs
open Go Go.Sh
set_option linter.unusedVariables false
set_option maxRecDepth 100000
section
variable {h h' : H} {K : Value -> H -> Prop} {col col' : Col} {a w : Addr} {m : WM} {nm : Bs} {f bk : Int} {bl : OpenP} {u v x : Nat}
theorem run_loop {KE : Sx.adopt_Run.T3} {Kr : Sx.adopt_Run.T0} {R : WM × Bool} {h0 : H} {col0 : Col} (L : Lib0 h0 col0) (hE : ∀ h' col', PW h' col' w R.1 -> ExtP PA h0 col0 h' col' -> R.2 = true -> KE h')
    (hF : ∀ h' col', PW h' col' w R.1 -> ExtP PA h0 col0 h' col' -> R.2 = false -> Kr false h') : ∀ (r i : Nat) {m : WM} {u : Nat} {h : H} {col : Col} {f : Int} {bl : OpenP} {bk : Int}, AgW h col a w nm f bl bk -> PW h col w m -> AI m u v x ->
      u + 4 * r <= 900000 -> v <= 900000 -> r + i = 8 -> roundsM nm r m = R -> ExtP PA h0 col0 h col -> Sx.adopt_Run.n8_L KE KE Kr (r + 1) (some w) nm (some a) (i : Int) h
  | 0, i, m, u, h, col, f, bl, bk, g, p, A, hu, hv, hi, hR, E0 => by
    unfold Sx.adopt_Run.n8_L LP Sx.adopt_Run.n8_B
    refine splF (by omega) (condF ?_)
    subst hR
    exact hE h col p E0 rfl
  | r + 1, i, m, u, h, col, f, bl, bk, g, p, A, hu, hv, hi, hR, E0 => by
    unfold Sx.adopt_Run.n8_L LP Sx.adopt_Run.n8_B
    refine splT (by omega) (condT ?_)
    obtain ⟨t, ads, T, W⟩ := p.ex
    obtain ⟨ob, oc, mb, mn, mc, vw, o, om⟩ := W.ex
    have hlo := A.D.lo
    have hml := A.D.ml
    unfold roundsM at hR
    refine vSomeMk ⟨_, _, _, vw.cell 2 rfl, last_calls (fun k hk => hk) om.row fun h1 k1 => vIntMk ?_⟩
    have E1 := E0.trans (.kb k1)
    refine spl (fun hn => ?_) fun hn => ?_
    · rw [if_pos hn] at hR
      subst hR
      exact hF h1 col (p.kb k1) E1 rfl
    rw [if_neg hn] at hR
    obtain ⟨k, ek, hk, hk0⟩ := lastP_of (by omega : 0 <= lastP m.mks nm)
    have ekn : (lastP m.mks nm).toNat = k := by rw [ek]; rfl
    rw [ekn] at hR
    rw [ek]
    refine round_calls (L.ext E1) (g.kb k1) (p.kb k1) A (by omega) hv hk hk0 fun h2 c2 f2 bl2 bk2 p2 g2 E2 => vBool_mk ?_
    have A2 := A.round hk hk0
    have E02 := E1.trans E2
    refine condB (fun hb => ?_) fun hb => ?_
    · rw [hb, if_pos rfl] at hR
      refine ⟨rng64 (by omega) (by omega), ?_⟩
      have e1 : ((i : Int) + (1 : Int)) = ((i + 1 : Nat) : Int) := rfl
      rw [e1]
      exact run_loop L hE hF r (i + 1) g2 p2 A2 (by omega) hv (by omega) hR E02
    · rw [hb, if_neg (by simp)] at hR
      subst hR
      exact hE h2 c2 p2 E02 rfl
theorem run_calls (L : Lib0 h col) (p : PW h col w m) (A : AI m u v x) (hu : u + 32 <= 900000) (hv : v <= 900000) (hk : ∀ h' col', PW h' col' w (runM m nm).1 -> ExtP PA h col h' col' -> K (.bool (runM m nm).2) h') :
    HCalls Tryz.prog 160 ⟨[.pointer (some w), S nm]⟩ h K := by
  obtain ⟨t, ads, T, W⟩ := p.ex
  have hlo := A.D.lo
  have hln := A.D.ln
  have hml := A.D.ml
  obtain ⟨R, hR⟩ : ∃ R, runM m nm = R := ⟨_, rfl⟩
  rw [hR] at hk
  refine Sx.adopt_Run.ok _ _ _ _ (current_calls W A.D.ne (by omega) fun h1 k1 => agOpen (x := curM m.op) <| newx_var fun a2 h2 v2 k2 e2 s2 => stL_var0 v2 (by show 4 <= 4; omega) fun h3 v3 k3 s3 => ?_)
  have k03 : KB h h3 := k1.trans (KB.step k2 k3 (by omega))
  have p3 := p.kb k03
  have v3 : Var h3 a2 77 (cellsO (curM m.op)) := v3
  have rest : ∀ h4, KB h h4 -> roundsM nm 8 m = R -> Sx.adopt_Run.n3 (some w) nm (fun y h => K (.bool y) h) (fun y h => K (.bool y) h) h4 := fun h4 k4 hr => by
    refine newx_var fun a9 h9 v9 k9 e9 s9 => ?_
    have k09 := k4.trans k9
    have hsz : h.size <= a9.block := by have := k4.1; omega
    have E9 : ExtP PA h col h9 (paint col a9.block (4, 0)) := ⟨k09.less fun k hk => hk.1, fun k hk => paint_ne (by omega)⟩
    have f9 : Fresh h9 (paint col a9.block (4, 0)) := (p.fresh.kb k09).paint v9.lt
    have p9 : PW h9 (paint col a9.block (4, 0)) w m := p.ext (Z := fun _ => False) ⟨k09.less fun k hk => hk.1, fun k hk => paint_ne (by omega)⟩ id id f9
    have g9 : AgW h9 (paint col a9.block (4, 0)) a9 w nm 0 (0, 0, [], 0) 0 := ⟨v9, paint_at⟩
    refine ⟨9, ?_⟩
    exact run_loop L (fun h' c' p' E' e => by have := hk h' c' p' E'; rw [e] at this; exact this) (fun h' c' p' E' e => by have := hk h' c' p' E'; rw [e] at this; exact this) 8 0 g9 p9 A (by omega) hv rfl hr E9
  obtain ⟨ob, oc, mb, mn, mc, vw, o, om⟩ := (W.kb k03).ex
  unfold runM at hR
  have no : (isN (curM m.op) nm = true -> 0 <= findP m.mks (curM m.op).1) -> roundsM nm 8 m = R := fun hc => by
    rw [if_neg (fun ⟨h1, h2⟩ => by have := hc h1; omega)] at hR
    exact hR
  have nn : ¬ (isN (curM m.op) nm = true) -> roundsM nm 8 m = R := fun hc => no fun h => absurd h hc
  refine ⟨_, v3.cell 1 rfl, spl (fun e1 => ⟨_, v3.cell 2 rfl, spl (fun e2 => vSomeMk ⟨_, _, _, vw.cell 2 rfl, _, v3.cell 0 rfl, find_calls om.row fun h4 k4 => vIntMk (spl (fun e3 => ?_) fun e3 => condF ?_)⟩) fun e2 => condF ?_⟩) fun e1 => condF ?_⟩
  · have hi : isN (curM m.op) nm = true := by unfold isN; rw [decide_eq_true e1, decide_eq_true e2]; rfl
    rw [if_pos ⟨hi, e3⟩] at hR
    have k04 := k03.trans k4
    have e5 : ((m.op.length : Int) - (1 : Int)) = (m.op.length : Int) - 1 := rfl
    refine condT (vSomeMk ⟨_, _, _, (vw.kb k4).cell 1 rfl, rng64 (by omega) (by omega), ?_⟩)
    subst hR
    exact close_callsW (p.kb k04) fun h5 c5 p5 E5 => hk h5 c5 p5 ((ExtP.kb k04).trans E5.pa)
  · exact rest h4 (k03.trans k4) (no fun _ => by omega)
  · exact rest h3 k03 (nn fun h => e2 (by unfold isN at h; simp only [Bool.and_eq_true, decide_eq_true_eq] at h; exact h.2))
  · exact rest h3 k03 (nn fun h => e1 (by unfold isN at h; simp only [Bool.and_eq_true, decide_eq_true_eq] at h; exact h.1))
end
end Go.Proofs
namespace Go.Proofs
open Go Go.Sh
set_option linter.unusedVariables false
set_option maxRecDepth 100000
section
variable {B : Nat -> Prop} {h : H} {K : Value -> H -> Prop} {col : Col} {a w : Addr} {mm : MM} {u v x : Nat} {t : TokP} {b : Option Addr} {n c : Nat} {ns : List Bs} {s : Bs}
theorem CG.nm9 {Wp : H -> Col -> Addr -> WM -> Prop} {ty z : Nat} (C : CG Wp ty z h col a w mm u v x) : ∀ y ∈ mm.w.op, y.2.2.1.length <= 9000000000000000000 := fun y hy => by have := C.s.A.nml y hy; omega
theorem pmIn (C : CP h col a w mm u v x) (rn : Row elStr B h b n c ns) (sc : Int) (hk : ∀ h', KB h h' -> K (.bool (inP mm.w.op sc ns)) h') : HCalls Tryz.prog 149 ⟨[.pointer (some a), .int .u8 sc, .slice b n c]⟩ h K := by
  obtain ⟨t, ads, T, W⟩ := C.p.ex
  obtain ⟨ob, oc, mb, mn, mc, vw, o, om⟩ := W.ex
  exact Sx.modes_Machine_in.ok _ _ _ _ _ _ _ (vSomeMk ⟨_, C.V.cell 0 rfl, vSomeMk ⟨_, _, _, vw.cell 1 rfl, openIn_calls C.L.ml (fun k hk => hk) o.row C.nm9 rn fun h1 k1 => vBool_mk (condK (K := fun b => K (.bool b) h1) (hk h1 k1))⟩⟩)
theorem pmInsert (C : CP h col a w mm u v x) (hu : u <= 890000) (T : TkW h col t b n c) (hk : Nxt h col a w K { mm with w := insW mm.w t } (u + 1) v x) : HCalls Tryz.prog 143 ⟨[.pointer (some a), .agg ⟨tkC (tkOf t b n c)⟩]⟩ h K := by
  have hlo := C.s.A.D.lo
  have hln := C.s.A.D.ln
  have hn := T.s.1
  refine Sx.modes_Machine_insert.ok _ _ _ _ (T.new C.f fun a1 h1 l1 k1 _ => vSomeMk ⟨_, (C.kbP k1).V.cell 0 rfl, l1.ld (insert_calls (C.L.kb k1) (C.p.kb k1) C.s.A.D.G C.s.A.D.ne (by omega) (by omega) l1.T.r T.z T.few T.attrs rngU0 T.k (by show t.2.1.length <= _; omega) fun h2 c2 p2 E2 => vIntMk ?_)⟩)
  exact hk h2 c2 ((C.kbP k1).pa p2 E2.pa (C.s.ins T.s)) ((ExtP.kb k1).trans E2.pa.px)
theorem pmClose (C : CP h col a w mm u v x) (i : Int) (hk : Nxt h col a w K { mm with w := closeW mm.w i } u v x) : HCalls Tryz.prog 57 ⟨[.pointer (some w), .int .i64 i]⟩ h K :=
  close_callsW C.p fun h2 c2 p2 E2 => hk h2 c2 (C.pa p2 E2.pa (C.s.close i)) E2.pa.px
theorem pmPop (C : CP h col a w mm u v x) (hu : u <= 890000) (hk : Nxt h col a w K { mm with w := popW mm.w } u v x) : HCalls Tryz.prog 37 ⟨[.pointer (some a)]⟩ h K := by
  obtain ⟨t, ads, T, W⟩ := C.p.ex
  obtain ⟨ob, oc, mb, mn, mc, vw, o, om⟩ := W.ex
  have hlo := C.s.A.D.lo
  exact Sx.modes_Machine_pop.ok _ _ _ (vSomeMk ⟨_, C.V.cell 0 rfl, vSomeMk ⟨_, C.V.cell 0 rfl, vSomeMk ⟨_, _, _, vw.cell 1 rfl, rng64 (by omega) (by omega), pmClose C _ hk⟩⟩⟩)
theorem pmEmpty (C : CP h col a w mm u v x) (hu : u <= 880000) (T : TkW h col t b n c) (hk : Nxt h col a w K { mm with w := emptyW mm.w t } (u + 1) v x) : HCalls Tryz.prog 67 ⟨[.pointer (some a), .agg ⟨tkC (tkOf t b n c)⟩]⟩ h K :=
  Sx.modes_Machine_empty.ok _ _ _ _ (T.new C.f fun a1 h1 l1 k1 _ => l1.ld (pmInsert (C.kbP k1) (by omega) l1.T fun h2 c2 C2 E2 => pmPop C2 (by omega) fun h3 c3 C3 E3 => hk h3 c3 C3 ((ExtP.kb k1).trans (E2.trans E3))))
theorem pmReb (C : CP h col a w mm u v x) (hu : u <= 800000) (hv : v <= 10000) (hk : Nxt h col a w K { mm with w := rebuildW mm.w } (u + v) v x) : HCalls Tryz.prog 40 ⟨[.pointer (some w)]⟩ h K := by
  have hlo := C.s.A.D.lo
  have hln := C.s.A.D.ln
  have hml := C.s.A.D.ml
  exact rebuild_callsW C.L C.p C.s.A.D.G C.s.A.D.ne (by omega) (by omega) C.s.A.D.mw.w fun h2 c2 p2 E2 => hk h2 c2 (C.pa p2 E2.pa C.s.reb) E2.pa.px
theorem pmAgain (C : CP h col a w mm u v x) (hu : u <= 800000) (hv : v <= 10000) (T : TkW h col t b n c) (hk : Nxt h col a w K { mm with w := emptyW (rebuildW mm.w) t } (u + v + 1) v x) : HCalls Tryz.prog 83 ⟨[.pointer (some a), .agg ⟨tkC (tkOf t b n c)⟩]⟩ h K :=
  Sx.modes_Machine_again.ok _ _ _ _ (T.new C.f fun a1 h1 l1 k1 _ => vSomeMk ⟨_, (C.kbP k1).V.cell 0 rfl, pmReb (C.kbP k1) hu hv fun h2 c2 C2 E2 => (l1.ext E2).ld (pmEmpty C2 (by omega) (l1.ext E2).T fun h3 c3 C3 E3 => hk h3 c3 C3 ((ExtP.kb k1).trans (E2.trans E3)))⟩)
theorem pmImplied (C : CP h col a w mm u v x) (ex : Bs) (hk : Nxt h col a w K { mm with w := implW mm.w ex } u v x) : HCalls Tryz.prog 150 ⟨[.pointer (some a), S ex]⟩ h K := by
  obtain ⟨t, ads, T, W⟩ := C.p.ex
  obtain ⟨ob, oc, mb, mn, mc, vw, o, om⟩ := W.ex
  exact Sx.modes_Machine_implied.ok _ _ _ _ (vSomeMk ⟨_, C.V.cell 0 rfl, vSomeMk ⟨_, C.V.cell 0 rfl, vSomeMk ⟨_, _, _, vw.cell 1 rfl, openImplied_calls C.L.ml (fun k hk => hk) o.row C.nm9 fun h1 k1 => vIntMk ⟨k1.ext, pmClose (C.kbP k1) _ fun h2 c2 C2 E2 => hk h2 c2 C2 ((ExtP.kb k1).trans E2)⟩⟩⟩⟩)
theorem pmUp (C : CP h col a w mm u v x) (rn : Row elStr B h b n c ns) (hk : Nxt h col a w K { mm with w := upW mm.w ns } u v x) : HCalls Tryz.prog 151 ⟨[.pointer (some a), .slice b n c]⟩ h K := by
  obtain ⟨t, ads, T, W⟩ := C.p.ex
  obtain ⟨ob, oc, mb, mn, mc, vw, o, om⟩ := W.ex
  exact Sx.modes_Machine_up.ok _ _ _ _ _ _ (vSomeMk ⟨_, C.V.cell 0 rfl, vSomeMk ⟨_, C.V.cell 0 rfl, vSomeMk ⟨_, _, _, vw.cell 1 rfl, openUntil_calls (fun k hk => hk) o.row rn fun h1 k1 => vIntMk ⟨k1.ext, pmClose (C.kbP k1) _ fun h2 c2 C2 E2 => hk h2 c2 C2 ((ExtP.kb k1).trans E2)⟩⟩⟩⟩)
theorem pmOut1 (C : CP h col a w mm u v x) (ex : Bs) (hs : s.length <= 4000) {Q : H -> Prop} (hk : ∀ h' c', CP h' c' a w { mm with w := outW mm.w ex [s] } u v x -> ExtP PX h col h' c' -> Q h') :
    HCalls Tryz.prog 150 ⟨[.pointer (some a), S ex]⟩ h fun _ h7 => newx h7 #[S s] 9 fun a8 h9 => HCalls Tryz.prog 151 ⟨[.pointer (some a), .slice (some a8) 1 1]⟩ h9 fun _ h11 => Q h11 :=
  pmImplied C ex fun h1 c1 C1 E1 => newOne hs fun a2 h2 r2 k2 => pmUp (C1.kbP k2) r2 fun h3 c3 C3 E3 => hk h3 c3 C3 (E1.trans ((ExtP.kb k2).trans E3))
theorem pmCloseP (C : CP h col a w mm u v x) (hk : Nxt h col a w K { mm with w := pW mm.w } u v x) : HCalls Tryz.prog 145 ⟨[.pointer (some a)]⟩ h K := by
  unfold pW at hk
  refine Sx.modes_Machine_closeP.ok _ _ _ (newOne (by decide) fun a1 h1 r1 k1 => pmIn (C.kbP k1) r1 2 fun h2 k2 => vBool_mk (condB (fun e => ?_) fun e => ?_))
  · have e : inP mm.w.op 2 wP = true := e
    rw [if_pos e] at hk
    exact pmOut1 ((C.kbP k1).kbP k2) [112] (s := [112]) (by decide) fun h3 c3 C3 E3 => hk h3 c3 C3 ((ExtP.kb (k1.trans k2)).trans E3)
  · have e : inP mm.w.op 2 wP = false := e
    rw [if_neg (by rw [e]; decide)] at hk
    exact hk h2 col ((C.kbP k1).kbP k2) (.kb (k1.trans k2))
theorem pmBlock (C : CP h col a w mm u v x) (hu : u <= 880000) (T : TkW h col t b n c) (hk : Nxt h col a w K { mm with w := blockW mm.w t } (u + 1) v x) : HCalls Tryz.prog 71 ⟨[.pointer (some a), .agg ⟨tkC (tkOf t b n c)⟩]⟩ h K :=
  Sx.modes_Machine_block.ok _ _ _ _ (T.new C.f fun a1 h1 l1 k1 _ => pmCloseP (C.kbP k1) fun h2 c2 C2 E2 => (l1.ext E2).ld (pmInsert C2 (by omega) (l1.ext E2).T fun h3 c3 C3 E3 => hk h3 c3 C3 ((ExtP.kb k1).trans (E2.trans E3))))
theorem pmPlain (C : CP h col a w mm u v x) (hu : u <= 800000) (hv : v <= 10000) (T : TkW h col t b n c) (hk : Nxt h col a w K { mm with w := plainW' mm.w t } (u + v + 1) v x) : HCalls Tryz.prog 93 ⟨[.pointer (some a), .agg ⟨tkC (tkOf t b n c)⟩]⟩ h K :=
  Sx.modes_Machine_plain.ok _ _ _ _ (T.new C.f fun a1 h1 l1 k1 _ => vSomeMk ⟨_, (C.kbP k1).V.cell 0 rfl, pmReb (C.kbP k1) hu hv fun h2 c2 C2 E2 => (l1.ext E2).ld (pmInsert C2 (by omega) (l1.ext E2).T fun h3 c3 C3 E3 => hk h3 c3 C3 ((ExtP.kb k1).trans (E2.trans E3)))⟩)
theorem pmReads (C : CP h col a w mm u v x) (T : TkW h col t b n c) (rd : Int) (hk : Nxt h col a w K (mm.readsM mm.w t rd) u v x) : HCalls Tryz.prog 144 ⟨[.pointer (some a), .agg ⟨tkC (tkOf t b n c)⟩, .int .u8 rd]⟩ h K := by
  refine Sx.modes_Machine_reads.ok _ _ _ _ _ (T.new C.f fun a1 h1 l1 k1 _ => vSomeMk ⟨_, (C.kbP k1).V.cell 1 rfl, vSomeMk ((C.kbP k1).stP (mm2 := { mm with back := mm.mode }) rfl rfl (by decide) fun h2 C2 E2 => vSomeMk (C2.stP (mm2 := { mm with back := mm.mode, mode := 1 }) rfl rfl (by decide) fun h3 C3 E3 => ⟨vSomeMk (C3.stP (mm2 := { mm with back := mm.mode, mode := 1, read := rd }) rfl rfl (by decide) fun h4 C4 E4 => ⟨_, (((l1.ext E2).ext E3).ext E4).nm, vSomeMk (C4.stP (mm2 := mm.readsM mm.w t rd) rfl rfl (by decide) fun h5 C5 E5 => hk h5 _ C5 ((ExtP.kb k1).trans (E2.trans (E3.trans (E4.trans E5)))))⟩), _, ((l1.ext E2).ext E3).nm, vSomeMk (C3.stP (mm2 := { mm with back := mm.mode, mode := 1, read := rd }) rfl rfl (by decide) fun h4 C4 E4 => vSomeMk (C4.stP (mm2 := mm.readsM mm.w t rd) rfl rfl (by decide) fun h5 C5 E5 => hk h5 _ C5 ((ExtP.kb k1).trans (E2.trans (E3.trans (E4.trans E5))))))⟩))⟩)
theorem pmRefs (C : CP h col a w mm u v x) (hu : u <= 880000) (T : TkW h col t b n c) (hk : Nxt h col a w K (mm.readsM (insW mm.w t) t 1) (u + 1) v x) : HCalls Tryz.prog 68 ⟨[.pointer (some a), .agg ⟨tkC (tkOf t b n c)⟩]⟩ h K :=
  Sx.modes_Machine_refs.ok _ _ _ _ (T.new C.f fun a1 h1 l1 k1 _ => l1.ld (pmInsert (C.kbP k1) (by omega) l1.T fun h2 c2 C2 E2 => (l1.ext E2).ld (pmReads C2 (l1.ext E2).T 1 fun h3 c3 C3 E3 => hk h3 c3 C3 ((ExtP.kb k1).trans (E2.trans E3)))))
theorem pmRaw (C : CP h col a w mm u v x) (hu : u <= 880000) (T : TkW h col t b n c) (hk : Nxt h col a w K (mm.readsM (insW mm.w t) t 2) (u + 1) v x) : HCalls Tryz.prog 69 ⟨[.pointer (some a), .agg ⟨tkC (tkOf t b n c)⟩]⟩ h K :=
  Sx.modes_Machine_raw.ok _ _ _ _ (T.new C.f fun a1 h1 l1 k1 _ => l1.ld (pmInsert (C.kbP k1) (by omega) l1.T fun h2 c2 C2 E2 => (l1.ext E2).ld (pmReads C2 (l1.ext E2).T 2 fun h3 c3 C3 E3 => hk h3 c3 C3 ((ExtP.kb k1).trans (E2.trans E3)))))
theorem pmScript (C : CP h col a w mm u v x) (hu : u <= 880000) (T : TkW h col t b n c) (hk : Nxt h col a w K (mm.readsM (insW mm.w t) t 3) (u + 1) v x) : HCalls Tryz.prog 70 ⟨[.pointer (some a), .agg ⟨tkC (tkOf t b n c)⟩]⟩ h K :=
  Sx.modes_Machine_script.ok _ _ _ _ (T.new C.f fun a1 h1 l1 k1 _ => l1.ld (pmInsert (C.kbP k1) (by omega) l1.T fun h2 c2 C2 E2 => (l1.ext E2).ld (pmReads C2 (l1.ext E2).T 3 fun h3 c3 C3 E3 => hk h3 c3 C3 ((ExtP.kb k1).trans (E2.trans E3)))))
end
end Go.Proofs
namespace Go.Proofs
open Go Go.Sh
set_option linter.unusedVariables false
set_option maxRecDepth 100000
abbrev OpA := Int × Int × Bs × List AttrP
abbrev tokO (o : OpA) : TokP := (0, [], o.2.2.2, false, [])
def opW (o : OpA) : Nat := o.2.2.1.length / 8 + tokW (tokO o)
def LightA (l : List OpA) : Prop := l.length <= 80 /\ ∀ o ∈ l, opW o <= 300
section
variable {A : Nat -> Prop} {h : H} {K : Value -> H -> Prop} {b : Option Addr} {n c : Nat} {l : List OpA}
theorem LightA.op (L : LightA l) {o : OpA} (ho : o ∈ l) : o.2.2.1.length <= 4000 /\ o.2.2.2.length <= 500 /\ ∀ a ∈ o.2.2.2, a.1.length <= 4000 /\ a.2.length <= 4000 := by
  have h := L.2 o ho
  unfold opW at h
  obtain ⟨_, _, h3, h4⟩ := tokW_small (x := tokO o) (m := 300) (by omega)
  exact ⟨by omega, Nat.le_trans h3 (by decide), fun a ha => by have := h4 a ha; omega⟩
end
end Go.Proofs
namespace Go.Proofs
open Go Go.Sh
set_option linter.unusedVariables false
set_option maxRecDepth 100000
section
variable {B : Nat -> Prop} {h : H} {K : Value -> H -> Prop} {col : Col} {a w : Addr} {mm : MM} {u v x : Nat} {t : TokP} {b : Option Addr} {n c : Nat} {ns : List Bs} {s : Bs}
theorem pmInOut1 (C : CP h col a w mm u v x) (sc : Int) (ex : Bs) (hs : s.length <= 4000) (rn : Row elStr B h b n c [s]) {Q : H -> Prop} (hk : ∀ h' c', CP h' c' a w { mm with w := inOut mm.w sc ex [s] } u v x -> ExtP PX h col h' c' -> Q h') :
    HCalls Tryz.prog 149 ⟨[.pointer (some a), .int .u8 sc, .slice b n c]⟩ h fun v3 h4 => vBool v3 fun b5 => cond b5 (HCalls Tryz.prog 150 ⟨[.pointer (some a), S ex]⟩ h4 fun _ h7 => newx h7 #[S s] 9 fun a8 h9 => HCalls Tryz.prog 151 ⟨[.pointer (some a), .slice (some a8) 1 1]⟩ h9 fun _ h11 => Q h11) (Q h4) := by
  unfold inOut at hk
  refine pmIn C rn sc fun h2 k2 => vBool_mk (condB (fun e => ?_) fun e => ?_)
  · rw [if_pos e] at hk
    exact pmOut1 (C.kbP k2) ex hs fun h3 c3 C3 E3 => hk h3 c3 C3 ((ExtP.kb k2).trans E3)
  · rw [if_neg (by rw [e]; decide)] at hk
    exact hk h2 col (C.kbP k2) (.kb k2)
theorem pmLeave (C : CP h col a w mm u v x) (hu : u <= 800000) (hv : v <= 10000) (T : TkW h col t b n c) (hk : Nxt h col a w K { mm with w := leaveW mm.w t.2.1 } (u + 32) v x) : HCalls Tryz.prog 100 ⟨[.pointer (some a), .agg ⟨tkC (tkOf t b n c)⟩]⟩ h K := by
  refine Sx.modes_Machine_leave.ok _ _ _ _ (T.new C.f fun a1 h1 l1 k1 _ => vSomeMk ⟨_, (C.kbP k1).V.cell 0 rfl, _, l1.nm, run_calls (C.L.kb k1) (C.kbP k1).p C.s.A (by omega) (by omega) fun h2 c2 p2 E2 => ?_⟩)
  have C2 := (C.kbP k1).pa p2 E2 (C.s.run t.2.1)
  have E02 := (ExtP.kb k1).trans E2.px
  unfold leaveW at hk
  refine vBool_mk (condB (fun e => ?_) fun e => ?_)
  · rw [if_pos e] at hk
    exact hk h2 c2 C2 E02
  · rw [if_neg (by rw [e]; decide)] at hk
    have hlo := C2.s.A.D.lo
    exact vSomeMk ⟨_, C2.V.cell 0 rfl, _, (l1.ext E2).nm, adClose_calls C2.L C2.p (by omega) (fun y hy => by have := C2.s.A.nml y hy; omega) fun h3 c3 p3 E3 => hk h3 c3 (C2.pa p3 E3.pa (C2.s.close _)) (E02.trans E3.pa.px)⟩
theorem pmIs (C : CP h col a w mm u v x) (hu : u <= 890000) (rn : Row elStr B h b n c ns) (hk : ∀ h', KB h h' -> K (.bool (isW mm.w ns)) h') : HCalls Tryz.prog 146 ⟨[.pointer (some a), .slice b n c]⟩ h K := by
  obtain ⟨t, ads, T, W⟩ := C.p.ex
  have hlo := C.s.A.D.lo
  refine Sx.modes_Machine_is.ok _ _ _ _ _ _ (vSomeMk ⟨_, C.V.cell 0 rfl, current_calls W C.s.A.D.ne (by omega) fun h1 k1 => agOpen (x := curM mm.w.op) <| newx_var fun a2 h2 v2 k2 e2 s2 => stL_var0 v2 (by show 4 <= 4; omega) fun h3 v3 k3 s3 => ?_⟩)
  have k03 : KB h h3 := k1.trans (KB.step k2 k3 (by omega))
  have v3 : Var h3 a2 77 (cellsO (curM mm.w.op)) := v3
  refine ⟨_, v3.cell 1 rfl, spl (fun e => ⟨_, v3.cell 2 rfl, containsStr_calls (rn.kb k03) (vBool_mk (condK (K := fun b => K (.bool b) h3) ?_))⟩) fun e => ?_⟩
  · have := hk h3 k03
    unfold isW at this; rwa [decide_eq_true e, Bool.true_and] at this
  · have := hk h3 k03
    unfold isW at this; rwa [decide_eq_false e, Bool.false_and] at this
theorem pmHeads {Q : Value -> H -> Prop} (hk : ∀ a h', Row elStr (fun _ => True) h' (some a) 6 6 wS7 -> KB h h' -> Q (.slice (some a) 6 6) h') : HCalls Tryz.prog 147 ⟨[]⟩ h Q :=
  Sx.modes_heads.ok _ _ (newWords (ws := wS7) rfl (by decide) (by decide) fun a1 h1 r1 k1 => hk a1 h1 r1 k1)
theorem pmHead (C : CP h col a w mm u v x) (hu : u <= 880000) (T : TkW h col t b n c) (hk : Nxt h col a w K { mm with w := insW (headW mm.w) t } (u + 1) v x) : HCalls Tryz.prog 72 ⟨[.pointer (some a), .agg ⟨tkC (tkOf t b n c)⟩]⟩ h K := by
  unfold headW at hk
  refine Sx.modes_Machine_head.ok _ _ _ _ (T.new C.f fun a1 h1 l1 k1 _ => pmCloseP (C.kbP k1) fun h2 c2 C2 E2 => pmHeads fun a3 h3 r3 k3 => vSliceMk (pmIs (C2.kbP k3) (by omega) r3 fun h4 k4 => ?_))
  have C4 := (C2.kbP k3).kbP k4
  have E4 : ExtP PX h1 col h4 c2 := E2.trans (.kb (k3.trans k4))
  have E04 := (ExtP.kb k1).trans E4
  refine vBool_mk (condB (fun e => ?_) fun e => ?_)
  · have e : isW (pW mm.w) wS7 = true := e
    rw [if_pos e] at hk
    exact pmPop C4 (by omega) fun h5 c5 C5 E5 => ((l1.ext E4).ext E5).ld (pmInsert C5 (by omega) ((l1.ext E4).ext E5).T fun h6 c6 C6 E6 => hk h6 c6 C6 (E04.trans (E5.trans E6)))
  · have e : isW (pW mm.w) wS7 = false := e
    rw [if_neg (by rw [e]; decide)] at hk
    exact (l1.ext E4).ld (pmInsert C4 (by omega) (l1.ext E4).T fun h6 c6 C6 E6 => hk h6 c6 C6 (E04.trans E6))
theorem pmPre (C : CP h col a w mm u v x) (hu : u <= 880000) (T : TkW h col t b n c) (hk : Nxt h col a w K { mm with w := blockW mm.w t, skip := true } (u + 1) v x) : HCalls Tryz.prog 73 ⟨[.pointer (some a), .agg ⟨tkC (tkOf t b n c)⟩]⟩ h K :=
  Sx.modes_Machine_pre.ok _ _ _ _ (T.new C.f fun a1 h1 l1 k1 _ => l1.ld (pmBlock (C.kbP k1) hu l1.T fun h2 c2 C2 E2 => vSomeMk (C2.stP (mm2 := { mm with w := blockW mm.w t, skip := true }) rfl rfl (by decide) fun h3 C3 E3 => hk h3 _ C3 ((ExtP.kb k1).trans (E2.trans E3)))))
theorem pmPlaintext (C : CP h col a w mm u v x) (hu : u <= 880000) (T : TkW h col t b n c) (hk : Nxt h col a w K { mm with w := blockW mm.w t, read := 4 } (u + 1) v x) : HCalls Tryz.prog 77 ⟨[.pointer (some a), .agg ⟨tkC (tkOf t b n c)⟩]⟩ h K :=
  Sx.modes_Machine_plaintext.ok _ _ _ _ (T.new C.f fun a1 h1 l1 k1 _ => l1.ld (pmBlock (C.kbP k1) hu l1.T fun h2 c2 C2 E2 => vSomeMk (C2.stP (mm2 := { mm with w := blockW mm.w t, read := 4 }) rfl rfl (by decide) fun h3 C3 E3 => hk h3 _ C3 ((ExtP.kb k1).trans (E2.trans E3)))))
theorem pmTable (C : CP h col a w mm u v x) (hu : u <= 880000) (T : TkW h col t b n c) (hk : Nxt h col a w K { mm with w := blockW mm.w t, mode := 2 } (u + 1) v x) : HCalls Tryz.prog 82 ⟨[.pointer (some a), .agg ⟨tkC (tkOf t b n c)⟩]⟩ h K :=
  Sx.modes_Machine_table.ok _ _ _ _ (T.new C.f fun a1 h1 l1 k1 _ => l1.ld (pmBlock (C.kbP k1) hu l1.T fun h2 c2 C2 E2 => vSomeMk (C2.stP (mm2 := { mm with w := blockW mm.w t, mode := 2 }) rfl rfl (by decide) fun h3 C3 E3 => hk h3 _ C3 ((ExtP.kb k1).trans (E2.trans E3)))))
theorem pmTextarea (C : CP h col a w mm u v x) (hu : u <= 880000) (T : TkW h col t b n c) (hk : Nxt h col a w K { mm.readsM (insW mm.w t) t 1 with skip := true } (u + 1) v x) : HCalls Tryz.prog 86 ⟨[.pointer (some a), .agg ⟨tkC (tkOf t b n c)⟩]⟩ h K :=
  Sx.modes_Machine_textarea.ok _ _ _ _ (T.new C.f fun a1 h1 l1 k1 _ => l1.ld (pmRefs (C.kbP k1) hu l1.T fun h2 c2 C2 E2 => vSomeMk (C2.stP (mm2 := { mm.readsM (insW mm.w t) t 1 with skip := true }) rfl rfl (by decide) fun h3 C3 E3 => hk h3 _ C3 ((ExtP.kb k1).trans (E2.trans E3)))))
theorem cur_ins (m : WM) (t : TokP) : (curM (insW m t).op).1 = (m.ns.length : Int) := by
  have e : (insW m t).op = m.op ++ [((m.ns.length : Int), 0, t.2.1, pointM 0 t.2.1 t.2.2.1)] := rfl
  unfold curM
  rw [e, List.length_append, List.length_singleton, Nat.add_sub_cancel, List.getD_eq_getElem?_getD, List.getElem?_append_right (Nat.le_refl _), Nat.sub_self]
  rfl
theorem pW_ns (m : WM) : (pW m).ns = m.ns := by
  unfold pW; split
  · rfl
  · rfl
theorem pmForm (C : CP h col a w mm u v x) (hu : u <= 880000) (T : TkW h col t b n c) (hk : Nxt h col a w K (formM mm t) (u + 1) v x) : HCalls Tryz.prog 74 ⟨[.pointer (some a), .agg ⟨tkC (tkOf t b n c)⟩]⟩ h K := by
  unfold formM at hk
  refine Sx.modes_Machine_form.ok _ _ _ _ (T.new C.f fun a1 h1 l1 k1 _ => vSomeMk ⟨_, (C.kbP k1).V.cell 3 rfl, spl (fun e => condT (l1.ld (pmBlock (C.kbP k1) hu l1.T fun h2 c2 C2 E2 => vSomeMk ⟨_, C2.V.cell 0 rfl, ?_⟩))) fun e => condF ?_⟩)
  · rw [if_pos e] at hk
    obtain ⟨tr, ads, T2, W2⟩ := C2.p.ex
    have hlo := C2.s.A.D.lo
    refine current_calls W2 C2.s.A.D.ne (by omega) fun h3 k3 => agOpen (x := curM _) (vSomeMk ((C2.kbP k3).stP (mm2 := { mm with w := blockW mm.w t, fm := (mm.w.ns.length : Int) }) ?_ rfl (by decide) fun h4 C4 E4 => hk h4 _ C4 ((ExtP.kb k1).trans (E2.trans ((ExtP.kb k3).trans E4)))))
    have ec := cur_ins (pW mm.w) t
    rw [pW_ns] at ec
    show setAll _ 3 [.int .i64 (curM (insW (pW mm.w) t).op).1] = _
    rw [ec]
    rfl
  · rw [if_neg e] at hk
    exact hk h1 col ((C.kbP k1).mono (Nat.le_succ _)) (.kb k1)
end
end Go.Proofs
