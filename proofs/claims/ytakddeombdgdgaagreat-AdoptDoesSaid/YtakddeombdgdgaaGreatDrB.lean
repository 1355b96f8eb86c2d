import Derived.Test.YtakddeombdgdgaaGreatAaG
import Derived.Test.YtakddeombdgdgaaGreatDoE
import Derived.Test.YtakddeombdgdgaaGreatTxI
import Derived.Test.YtakddeombdgdgaaGreatMsK
import Derived.Test.YtakddeombdgdgaaGreatTxH
import Derived.Test.YtakddeombdgdgaaGreatDrF
import Derived.Test.YtakddeombdgdgaaGreatTxG
namespace Go.Proofs
open Go Go.Sh
set_option linter.unusedVariables false
set_option maxRecDepth 100000
section
variable {h h2 : H} {col col2 : Col} {s ty : Nat} {w t : Addr} {op op' : List OpenP} {mk mk' : List MarkP} {fo : Bool} {hi : Int} {b b' : Option Addr} {n c n' c' : Nat} {Q : H -> Prop}
theorem setMarksC_k (W : WorldW h col s ty w t op mk fo hi) (hc : cell h (w.add 2) = some (.slice b n c)) (g : Grow h h2 b) (hcol : ∀ k, k < h.size -> col2 k = col k) (f2 : Fresh h2 col2) (o2 : OwnC elMark h2 col2 (s, 2) 36 b' n' c' mk')
    (hk : ∀ h3, WorldW h3 col2 s ty w t op mk' fo hi -> ExtP (fun k => k = s) h col h3 col2 -> Fresh h3 col2 -> Q h3) : stL (w.add 2) [.slice b' n' c'] 0 h2 Q := by
  obtain ⟨ob, oc, mb, mn, mc, v, o, om⟩ := W.ex
  have e1 : some (Value.slice b n c) = some (.slice mb mn mc) := hc.symm.trans (v.cell 2 rfl)
  cases e1
  have hbw : ∀ q, b = some q -> q.block ≠ w.block := fun q e e2 => by have := om.col q e; rw [e2, W.col] at this; cases this
  have v2 := v.keep g.keep.w ⟨v.lt, fun q e => hbw q e⟩
  have hcw : col2 w.block = some (s, 0) := by rw [hcol _ v.lt]; exact W.col
  have oo : OwnC elOpen h2 col2 (s, 1) 60 ob op.length oc op := o.keep g.keep.w hcol fun k hk hc => ⟨hk, fun q e e2 => by
    have h5 := om.col q e
    rw [e2] at h5
    rcases hc with hc | hc
    · rw [h5] at hc; cases hc
    · rw [h5] at hc; cases hc⟩
  refine stL_var (m := 2) (i := 0) v2 (by show 2 + 0 + 1 <= 5; omega) fun h3 v3 k3 s3 => ?_
  have hne : ∀ k, (col2 k = none ∨ ∃ p, p ≠ 0 /\ col2 k = some (s, p)) -> k ≠ w.block := fun k hc e => by
    subst e
    rcases hc with hc | ⟨p, hp, hc⟩
    · rw [hcw] at hc; cases hc
    · rw [hcw] at hc; cases hc; exact hp rfl
  have o3 := oo.keep (h' := h3) (col' := col2) k3.w (fun _ _ => rfl) fun k hk hc => hne k (hc.imp id fun h => ⟨1, by decide, h⟩)
  have om3 := o2.keep (h' := h3) (col' := col2) k3.w (fun _ _ => rfl) fun k hk hc => hne k (hc.imp id fun h => ⟨2, by decide, h⟩)
  have E1 : ExtP (fun k => k = s) h col h2 col2 := ⟨⟨g.size, fun k hk => g.old k hk.1 fun a ea e2 => hk.2 s 2 rfl (by rw [<- e2]; exact om.col a ea)⟩, hcol⟩
  exact hk h3 ⟨⟨ob, oc, b', n', c', v3, o3, om3⟩, hcw, W.rh⟩ (E1.trans (ExtP.kx k3 hcw rfl)) fun k hk => f2 k (by rw [<- s3]; exact hk)
theorem setOpenC_k (W : WorldW h col s ty w t op mk fo hi) (hc : cell h (w.add 1) = some (.slice b n c)) (g : Grow h h2 b) (hcol : ∀ k, k < h.size -> col2 k = col k) (f2 : Fresh h2 col2) (o2 : OwnC elOpen h2 col2 (s, 1) 60 b' n' c' op')
    (hk : ∀ h3, WorldW h3 col2 s ty w t op' mk fo hi -> ExtP (fun k => k = s) h col h3 col2 -> Fresh h3 col2 -> Q h3) : stL (w.add 1) [.slice b' n' c'] 0 h2 Q := by
  obtain ⟨ob, oc, mb, mn, mc, v, o, om⟩ := W.ex
  have e1 : some (Value.slice b n c) = some (.slice ob op.length oc) := hc.symm.trans (v.cell 1 rfl)
  cases e1
  have hbw : ∀ q, b = some q -> q.block ≠ w.block := fun q e e2 => by have := o.col q e; rw [e2, W.col] at this; cases this
  have v2 := v.keep g.keep.w ⟨v.lt, fun q e => hbw q e⟩
  have hcw : col2 w.block = some (s, 0) := by rw [hcol _ v.lt]; exact W.col
  have oo : OwnC elMark h2 col2 (s, 2) 36 mb mn mc mk := om.keep g.keep.w hcol fun k hk hc => ⟨hk, fun q e e2 => by
    have h5 := o.col q e
    rw [e2] at h5
    rcases hc with hc | hc
    · rw [h5] at hc; cases hc
    · rw [h5] at hc; cases hc⟩
  have hl := o2.len
  subst hl
  refine stL_var (m := 1) (i := 0) v2 (by show 1 + 0 + 1 <= 5; omega) fun h3 v3 k3 s3 => ?_
  have hne : ∀ k, (col2 k = none ∨ ∃ p, p ≠ 0 /\ col2 k = some (s, p)) -> k ≠ w.block := fun k hc e => by
    subst e
    rcases hc with hc | ⟨p, hp, hc⟩
    · rw [hcw] at hc; cases hc
    · rw [hcw] at hc; cases hc; exact hp rfl
  have o3 := o2.keep (h' := h3) (col' := col2) k3.w (fun _ _ => rfl) fun k hk hc => hne k (hc.imp id fun h => ⟨1, by decide, h⟩)
  have om3 := oo.keep (h' := h3) (col' := col2) k3.w (fun _ _ => rfl) fun k hk hc => hne k (hc.imp id fun h => ⟨2, by decide, h⟩)
  have E1 : ExtP (fun k => k = s) h col h2 col2 := ⟨⟨g.size, fun k hk => g.old k hk.1 fun a ea e2 => hk.2 s 1 rfl (by rw [<- e2]; exact o.col a ea)⟩, hcol⟩
  exact hk h3 ⟨⟨b', c', mb, mn, mc, v3, o3, om3⟩, hcw, W.rh⟩ (E1.trans (ExtP.kx k3 hcw rfl)) fun k hk => f2 k (by rw [<- s3]; exact hk)
end
section
variable {Z : Nat -> Prop} {h h' : H} {K : Value -> H -> Prop} {col col' : Col} {a w : Addr} {m : WM} {nm : Bs} {f : Int} {bl : OpenP} {u v x j b q : Nat}
theorem ExtP.markR (E : ExtP Z h col h' col') {y : MarkP} {ab : Option Addr} {an ac : Nat} (hR : MarkR (Free col h) h y ab an ac) : MarkR (Free col' h') h' y ab an ac := by
  have hi := hR.inv
  exact Go.Proofs.markR (E.row hi.1) hi.2.1 hi.2.2.1 hi.2.2.2
theorem insMark_k (g : AgW h col a w nm f bl (b : Nat)) (p : PW h col w m) (hml : m.mks.length <= 900000) (hb : b <= m.mks.length) (hc : ∃ q c, cell h (w.add 2) = some (.slice q m.mks.length c) /\ m.mks.length + 1 <= c) {y : MarkP} {x4 : Addr} {yb : Option Addr} {yn yc : Nat}
    (vx : Var h x4 36 [.int .i64 y.1, S y.2.1, .slice yb yn yc]) (hR : MarkR (Free col h) h y yb yn yc) {id : Int} {Kn : Sx.adopt_agency_renew.T0}
    (hk : ∀ h' col', PW h' col' w { m with mks := insAt m.mks b y } -> ExtP PS h col h' col' -> Sx.adopt_agency_renew.n9 (some a) id Kn Kn h') : Sx.adopt_agency_renew.n8 (some a) id x4 Kn Kn h := by
  obtain ⟨t, ads, T, W⟩ := p.ex
  obtain ⟨ob, oc, mb, mn, mc, vw, o, om⟩ := W.ex
  obtain ⟨q, c, hcell, hroom⟩ := hc
  have e1 : some (Value.slice q m.mks.length c) = some (.slice mb mn mc) := hcell.symm.trans (vw.cell 2 rfl)
  cases e1
  have ins : ∀ {Q : Option Addr -> Nat -> Nat -> H -> Prop}, (∀ b' c' h2 col2, OwnC elMark h2 col2 (2, 2) 36 b' (m.mks.length + 1) c' (insAt m.mks b y) -> Grow h h2 mb -> (∀ k, k < h.size -> col2 k = col k) -> Fresh h2 col2 -> Q b' (m.mks.length + 1) c' h2) ->
      newx h #[(.int .i64 y.1), (S y.2.1), (.slice yb yn yc)] 36 fun a140 h141 => ExtH h h141 /\ (HCalls Tryz.prog 117 ⟨[(.slice mb m.mks.length mc), (.int .i64 (b : Int)), (.slice (some a140) 1 1)]⟩ h141 fun v142 h143 => vSlice v142 fun s144b s144n s144c => Q s144b s144n s144c h143) := fun {Q} hQ => by
    refine newx_var fun a1 h1 v1 k1 e1 s1 => ⟨k1.ext, ?_⟩
    have E1 : ExtP (fun _ => False) h col h1 col := .kb k1
    refine insertM_calls (om.kb k1) (p.fresh.kb k1) hb hroom (E1.markR hR) v1 (p.fresh _ (by omega)) (by omega) fun b' c' h2 col2 o2 g2 hc2 f2 => vSliceMk ?_
    refine hQ b' c' h2 col2 o2 ⟨Nat.le_trans k1.1 g2.size, fun k hk hne => ?_⟩ (fun k hk => hc2 k (Nat.lt_of_lt_of_le hk k1.1)) f2
    exact (g2.old k (Nat.lt_of_lt_of_le hk k1.1) hne).trans (k1.2 k hk)
  have fin : ∀ b' c' h2 col2, OwnC elMark h2 col2 (2, 2) 36 b' (m.mks.length + 1) c' (insAt m.mks b y) -> Grow h h2 mb -> (∀ k, k < h.size -> col2 k = col k) -> Fresh h2 col2 -> stL (w.add 2) [.slice b' (m.mks.length + 1) c'] 0 h2 fun h3 => Sx.adopt_agency_renew.n9 (some a) id Kn Kn h3 := fun b' c' h2 col2 o2 g2 hc2 f2 =>
    setMarksC_k W (vw.cell 2 rfl) g2 hc2 f2 o2 fun h3 W3 E3 f3 => hk h3 col2 ⟨t, ads, T.otherP (S := fun k => k = 2) (by decide) E3 f3, W3⟩ (E3.mono fun s hs => .inr hs)
  have hne : ∀ q, mb = some q -> q.block ≠ a.block := fun q e e2 => by have := om.col q e; rw [e2, g.c] at this; cases this
  refine ⟨?_, ?_⟩
  · refine vSomeMk (vSomeMk ⟨_, g.v.cell 0 rfl, vSomeMk ⟨_, _, _, vw.cell 2 rfl, vSomeMk ⟨_, g.v.cell 7 rfl, _, vx.cell 0 rfl, _, vx.cell 1 rfl, _, _, _, vx.cell 2 rfl, ins fun b' c' h2 col2 o2 g2 hc2 f2 => ?_⟩⟩⟩)
    have va2 := g.v.keep g2.keep.w ⟨g.v.lt, fun q e => hne q e⟩
    exact ⟨_, va2.cell 0 rfl, vSomeMk (fin b' c' h2 col2 o2 g2 hc2 f2)⟩
  · exact vSomeMk ⟨_, g.v.cell 0 rfl, vSomeMk ⟨_, g.v.cell 0 rfl, vSomeMk ⟨_, _, _, vw.cell 2 rfl, vSomeMk ⟨_, g.v.cell 7 rfl, _, vx.cell 0 rfl, _, vx.cell 1 rfl, _, _, _, vx.cell 2 rfl, ins fun b' c' h2 col2 o2 g2 hc2 f2 => vSomeMk (fin b' c' h2 col2 o2 g2 hc2 f2)⟩⟩⟩⟩
theorem insOpen_k {h0 : H} (g0 : AgW h0 col a w nm f bl (b : Nat)) (p0 : PW h0 col w m) (hop : m.op.length <= 900000) (hf : 0 < atO m.op f) {y : OpenP} (hy : OpenW y) {x5 : Addr} (k0 : KB h0 h) (vx : Var h x5 60 (cellsO y)) (hx5 : h0.size <= x5.block) {id : Int} (hid : Rng .i64 id) {Kn : Sx.adopt_agency_renew.T0}
    (hk : ∀ h' col', PW h' col' w { m with op := insAt (dropO m.op f) ((atO (dropO m.op f) bl.1) + 1).toNat (id, y.2) } -> ExtP PS h0 col h' col' -> Kn h') : Sx.adopt_agency_renew.n10 (some a) id x5 Kn Kn h := by
  refine stL_var (m := 0) (i := 0) vx (by show 0 + 0 + 1 <= 4; omega) fun h1 vx1 kx1 s1 => ?_
  have k01 : KB h0 h1 := KB.step k0 kx1 hx5
  have p1 := p0.kb k01
  have g1 := g0.kb k01
  have vx1 : Var h1 x5 60 (cellsO (id, y.2)) := vx1
  have cx : col x5.block = none := p0.fresh _ hx5
  have hy2 : OpenW (id, y.2) := ⟨hid, hy.2⟩
  refine vSomeMk ⟨_, g1.v.cell 0 rfl, vSomeMk ⟨_, g1.v.cell 2 rfl, drop_callsW p1 (by omega) fun h2 col2 p2 E2 hcap => ?_⟩⟩
  obtain ⟨qb, qc, hcell, hroom⟩ := hcap hf
  have g2 := g1.ps E2
  have vx2 : Var h2 x5 60 (cellsO (id, y.2)) := vx1.keep E2.keepF ⟨cx, vx1.lt⟩
  have hdl : (dropO m.op f).length <= m.op.length := by
    unfold dropO
    by_cases hq : 0 < idxQ m.op (fun x => decide (x.1 = f))
    · rw [if_pos hq, List.length_eraseIdx]; split <;> omega
    · rw [if_neg hq]; exact Nat.le_refl _
  obtain ⟨t, ads, T, W⟩ := p2.ex
  obtain ⟨ob, oc, mb, mn, mc, vw, o, om⟩ := W.ex
  have e1 : some (Value.slice qb (dropO m.op f).length qc) = some (.slice ob (dropO m.op f).length oc) := hcell.symm.trans (vw.cell 1 rfl)
  cases e1
  have hat := idxQ_lt (l := dropO m.op f) (p := fun x => decide (x.1 = bl.1))
  obtain ⟨i, hi⟩ : ∃ i : Nat, atO (dropO m.op f) bl.1 + 1 = (i : Int) := ⟨(atO (dropO m.op f) bl.1 + 1).toNat, by
    have h1 := hat.2
    show idxQ (dropO m.op f) (fun x => decide (x.1 = bl.1)) + 1 = ((idxQ (dropO m.op f) (fun x => decide (x.1 = bl.1)) + 1).toNat : Int)
    omega⟩
  have hiw : atO (dropW m f).op bl.1 + 1 = (i : Int) := hi
  have hil : i <= (dropO m.op f).length := by have := hat.1; have h2 : idxQ (dropO m.op f) (fun x => decide (x.1 = bl.1)) + 1 = (i : Int) := hi; omega
  have hin : (atO (dropO m.op f) bl.1 + 1).toNat = i := by rw [hi]; rfl
  rw [hin] at hk
  have hne : ∀ q, qb = some q -> q.block ≠ a.block := fun q e e2 => by have := o.col q e; rw [e2, g2.c] at this; cases this
  have fin : ∀ b' c' h3 col3, OwnC elOpen h3 col3 (2, 1) 60 b' ((dropO m.op f).length + 1) c' (insAt (dropO m.op f) i (id, y.2)) -> Grow h2 h3 qb -> (∀ k, k < h2.size -> col3 k = col2 k) -> Fresh h3 col3 -> stL (w.add 1) [.slice b' ((dropO m.op f).length + 1) c'] 0 h3 fun h4 => Kn h4 := fun b' c' h3 col3 o3 g3 hc3 f3 =>
    setOpenC_k W (vw.cell 1 rfl) g3 hc3 f3 o3 fun h4 W4 E4 f4 => hk h4 col3 ⟨t, ads, T.otherP (S := fun k => k = 2) (by decide) E4 f4, W4⟩ (((ExtP.kb k01).trans E2).trans (E4.mono fun s hs => .inr hs))
  have call : ∀ {Q : Option Addr -> Nat -> Nat -> H -> Prop} {h5 : H} {a22 : Addr}, KB h2 h5 -> Var h5 a22 60 (cellsO (id, y.2)) -> col2 a22.block = none -> (∀ b' c' h3 col3, OwnC elOpen h3 col3 (2, 1) 60 b' ((dropO m.op f).length + 1) c' (insAt (dropO m.op f) i (id, y.2)) -> Grow h2 h3 qb -> (∀ k, k < h2.size -> col3 k = col2 k) -> Fresh h3 col3 -> Q b' ((dropO m.op f).length + 1) c' h3) ->
      HCalls Tryz.prog 118 ⟨[(.slice qb (dropO m.op f).length qc), (.int .i64 (i : Int)), (.slice (some a22) 1 1)]⟩ h5 fun v24 h25 => vSlice v24 fun s26b s26n s26c => Q s26b s26n s26c h25 := fun {Q h5 a22} k5 v5 c5 hQ =>
    insertO_calls (o.kb k5) (p2.fresh.kb k5) hil hroom hy2.r v5 c5 (by omega) fun b' c' h3 col3 o3 g3 hc3 f3 => vSliceMk (hQ b' c' h3 col3 o3 ⟨Nat.le_trans k5.1 g3.size, fun k hk hne => (g3.old k (Nat.lt_of_lt_of_le hk k5.1) hne).trans (k5.2 k hk)⟩ (fun k hk => hc3 k (Nat.lt_of_lt_of_le hk k5.1)) f3)
  have va2 : ∀ {h3 : H} {col3 : Col}, Grow h2 h3 qb -> Var h3 a 78 (agCells w nm f bl b) := fun g3 => g2.v.keep g3.keep.w ⟨g2.v.lt, fun q e => hne q e⟩
  refine ⟨⟨?_, ?_⟩, ?_, ?_⟩
  · refine vSomeMk (vSomeMk ⟨_, g2.v.cell 0 rfl, vSomeMk ⟨_, _, _, vw.cell 1 rfl, vSomeMk ⟨_, cellAA g2.v 3 0 rfl, ldVar (m := (id, y.2)) vx2 (agAt_calls g2 p2 fun h3 k3 => vIntMk ⟨k3.ext, ?_⟩)⟩⟩⟩)
    rw [hiw]
    exact ⟨rng64 (by omega) (by omega), newx_var fun a22 h4 v4 k4 e4 s4 => ⟨k4.ext, call (k3.trans k4) v4 (p2.fresh _ (by have := k3.1; omega)) fun b' c' h5 col5 o5 g5 hc5 f5 => ⟨_, (va2 (col3 := col5) g5).cell 0 rfl, vSomeMk (fin b' c' h5 col5 o5 g5 hc5 f5)⟩⟩⟩
  · refine vSomeMk (vSomeMk ⟨_, g2.v.cell 0 rfl, vSomeMk ⟨_, _, _, vw.cell 1 rfl, vSomeMk ⟨_, cellAA g2.v 3 0 rfl, ldVar (m := (id, y.2)) vx2 (newx_var fun a22 h4 v4 k4 e4 s4 => ⟨k4.ext, agAt_calls (g2.kb k4) (p2.kb k4) fun h3 k3 => vIntMk ⟨k3.ext, ?_⟩⟩)⟩⟩⟩)
    rw [hiw]
    exact ⟨rng64 (by omega) (by omega), call (k4.trans k3) (v4.kb k3) (p2.fresh _ (by omega)) fun b' c' h5 col5 o5 g5 hc5 f5 => ⟨_, (va2 (col3 := col5) g5).cell 0 rfl, vSomeMk (fin b' c' h5 col5 o5 g5 hc5 f5)⟩⟩
  · refine vSomeMk ⟨_, g2.v.cell 0 rfl, vSomeMk ⟨_, g2.v.cell 0 rfl, vSomeMk ⟨_, _, _, vw.cell 1 rfl, vSomeMk ⟨_, cellAA g2.v 3 0 rfl, ldVar (m := (id, y.2)) vx2 (agAt_calls g2 p2 fun h3 k3 => vIntMk ⟨k3.ext, ?_⟩)⟩⟩⟩⟩
    rw [hiw]
    exact ⟨rng64 (by omega) (by omega), newx_var fun a22 h4 v4 k4 e4 s4 => ⟨k4.ext, call (k3.trans k4) v4 (p2.fresh _ (by have := k3.1; omega)) fun b' c' h5 col5 o5 g5 hc5 f5 => vSomeMk (fin b' c' h5 col5 o5 g5 hc5 f5)⟩⟩
  · refine vSomeMk ⟨_, g2.v.cell 0 rfl, vSomeMk ⟨_, g2.v.cell 0 rfl, vSomeMk ⟨_, _, _, vw.cell 1 rfl, vSomeMk ⟨_, cellAA g2.v 3 0 rfl, ldVar (m := (id, y.2)) vx2 (newx_var fun a22 h4 v4 k4 e4 s4 => ⟨k4.ext, agAt_calls (g2.kb k4) (p2.kb k4) fun h3 k3 => vIntMk ⟨k3.ext, ?_⟩⟩)⟩⟩⟩⟩
    rw [hiw]
    exact ⟨rng64 (by omega) (by omega), call (k4.trans k3) (v4.kb k3) (p2.fresh _ (by omega)) fun b' c' h5 col5 o5 g5 hc5 f5 => vSomeMk (fin b' c' h5 col5 o5 g5 hc5 f5)⟩
theorem renew_calls (g : AgW h col a w nm f bl (b : Nat)) (p : PW h col w m) (C : CI m u v x f j b q) (hu : u + 1 <= 900000) (hv : v <= 900000)
    (hk : ∀ h' col', PW h' col' w (renewM m f bl.1 b) -> AgW h' col' a w nm f bl (unbook b (findP m.mks f).toNat : Nat) -> ExtP PA h col h' col' -> K (.tuple ⟨[]⟩) h') :
    HCalls Tryz.prog 91 ⟨[.pointer (some a)]⟩ h K := by
  obtain ⟨t, ads, T, W⟩ := p.ex
  obtain ⟨_, _, _, _, _, vw, _, _⟩ := W.ex
  have hlo := C.A.D.lo
  have hln := C.A.D.ln
  have hml := C.A.D.ml
  have hjl : j < m.op.length := Nat.lt_of_lt_of_le C.hj C.hq
  have eg : m.op.getD j noOpen = m.op[j] := getD_get hjl
  have hfj : m.op[j].1 = f := by have := C.hf; rwa [eg] at this
  have hf0 : 0 <= f := by rw [<- hfj]; exact (C.A.D.ids _ (List.getElem_mem hjl)).1
  have hat : atO m.op f = (j : Int) := by rw [<- hfj]; exact C.A.atO_of hjl
  refine Sx.adopt_agency_renew.ok _ _ _ (vSomeMk ⟨_, g.v.cell 0 rfl, vSomeMk ⟨_, vw.cell 0 rfl, vSomeMk ⟨_, g.v.cell 2 rfl, copyT_k T W (by omega) fun h1 c1 ads1 T1 W1 E1 => vIntMk ?_⟩⟩⟩)
  obtain ⟨A1, ec, hcl, _⟩ := C.A.copy (List.getElem_mem hjl) (C.A.ne0 hjl C.h0)
  rw [hfj] at A1 ec hcl
  have ht1 : ∀ {h' : H} {col' : Col} {ns' : List NodeM}, WorldW h' col' 2 45 w t m.op m.mks m.fo m.hi -> cell h' (w.add 0) = some (.pointer (some t)) := fun W => by obtain ⟨_, _, _, _, _, v, _, _⟩ := W.ex; exact v.cell 0 rfl
  obtain ⟨id, hid⟩ : ∃ id, (copyM m.ns f).2 = id := ⟨_, rfl⟩
  rw [hid] at ec ⊢
  have hidr : Rng .i64 id := by rw [ec]; exact rng64 (by omega) (by omega)
  have g1 := g.ps E1
  refine vSomeMk ⟨_, g1.v.cell 0 rfl, vSomeMk ⟨_, ht1 (ns' := []) W1, vSomeMk ⟨_, cellAA g1.v 3 0 rfl, moveT_k T1 W1 A1.D.G fun h2 c2 T2 W2 E2 => vBool_mk ?_⟩⟩⟩
  have A2 := A1.move bl.1 id
  have g2 := g1.ps E2
  refine condK (K := fun _ => Sx.adopt_agency_renew.n3 (some a) id (fun h => K (.tuple ⟨[]⟩) h) (fun h => K (.tuple ⟨[]⟩) h) h2) ?_
  refine vSomeMk ⟨_, g2.v.cell 0 rfl, vSomeMk ⟨_, ht1 (ns' := []) W2, vSomeMk ⟨_, cellAA g2.v 3 0 rfl, putT_k T2 W2 A2.D.G fun h3 c3 T3 W3 E3 => vBool_mk ?_⟩⟩⟩
  have g3 := g2.ps E3
  refine condK (K := fun _ => Sx.adopt_agency_renew.n4 (some a) id (fun h => K (.tuple ⟨[]⟩) h) (fun h => K (.tuple ⟨[]⟩) h) h3) ?_
  have E03 := (E1.trans E2).trans E3
  have p3 : PW h3 c3 w { m with ns := (putM (moveM (copyM m.ns f).1 bl.1 id).1 bl.1 (-1) id).1 } := ⟨t, ads1, T3, W3⟩
  obtain ⟨ob3, oc3, mb3, mn3, mc3, vw3, o3, om3⟩ := W3.ex
  have hfm : 0 <= findP m.mks f := (findP_mem hf0).2 C.hm
  obtain ⟨_, hkl, _⟩ := findP_yes hfm
  obtain ⟨k, ek⟩ := Int.eq_ofNat_of_zero_le hfm
  have ekn : (findP m.mks f).toNat = k := by rw [ek]; rfl
  rw [ekn] at hkl
  have hml3 := om3.len
  refine vSomeMk ⟨_, g3.v.cell 0 rfl, vSomeMk ⟨_, _, _, vw3.cell 2 rfl, vSomeMk ⟨_, g3.v.cell 2 rfl, find_calls om3.row fun h4 k4 => vIntMk ?_⟩⟩⟩
  rw [ek]
  obtain ⟨xs, he, hcc, _⟩ := (om3.kb k4).parts
  obtain ⟨am, yb, yn, yc, eb, m0, m1, m2, mR⟩ := markPart he hcc hkl
  subst eb
  have g4 := g3.kb k4
  refine vSomeMk ⟨_, g4.v.cell 0 rfl, vSomeMk ⟨_, _, _, (vw3.kb k4).cell 2 rfl, ⟨by omega, by omega⟩, vSomeMk ?_⟩⟩
  rw [Int.toNat_natCast]
  refine ⟨_, m0, _, m1, _, _, _, m2, newx_var fun x4 h5 v5 k5 e5 s5 => stL_var0 v5 (by show 3 <= 3; omega) fun h6 v6 k6 s6 => stL_var (m := 0) (i := 0) v6 (by show 0 + 0 + 1 <= 3; omega) fun h7 v7 k7 s7 => ?_⟩
  have k47 : KB h4 h7 := KB.step (KB.step k5 k6 (by omega)) k7 (by omega)
  have k37 := k4.trans k47
  have v7 : Var h7 x4 36 [.int .i64 id, S m.mks[k].2.1, .slice yb yn yc] := v7
  have cx4 : c3 x4.block = none := p3.fresh _ (by have := k4.1; omega)
  have mR7 : MarkR (Free c3 h7) h7 m.mks[k] yb yn yc := (ExtP.kb (S := fun _ => False) k47).markR mR
  have mR7 : MarkR (Free c3 h7) h7 (id, m.mks[k].2) yb yn yc := by
    have hi := mR7.inv
    exact Go.Proofs.markR (m := (id, m.mks[k].2)) hi.1 hi.2.1 hidr hi.2.2.2
  refine unmark_calls (g3.kb k37) (p3.kb k37) rfl (by have := C.hb; omega) hkl (by show m.mks.length <= _; omega) fun h8 c8 p8 g8 E8 hc8 => ?_
  have hel : (m.mks.eraseIdx k).length = m.mks.length - 1 := by rw [List.length_eraseIdx, if_pos hkl]
  obtain ⟨q8, qc8, hc8, hr8⟩ := hc8
  have hr8 : m.mks.length <= qc8 := hr8
  have hub : unbook b k <= m.mks.length - 1 := by have := C.hb; unfold unbook; split <;> omega
  refine insMark_k (y := (id, m.mks[k].2)) g8 p8 (by show (m.mks.eraseIdx k).length <= _; omega) (by show unbook b k <= (m.mks.eraseIdx k).length; omega) ⟨q8, qc8, by show cell h8 (w.add 2) = some (.slice q8 (m.mks.eraseIdx k).length qc8); rw [hel]; exact hc8, by show (m.mks.eraseIdx k).length + 1 <= qc8; omega⟩ (v7.keep E8.keepF ⟨cx4, v7.lt⟩) (E8.markR mR7) fun h9 c9 p9 E9 => ?_
  have g9 := g8.ps E9
  have E09 : ExtP PA h col h9 c9 := ((E03.pa.trans (.kb k37)).trans E8).trans E9.pa
  have hgm : m.mks.getD k noMark = m.mks[k] := getD_get hkl
  have hres : ∀ h' col', PW h' col' w { m with ns := (putM (moveM (copyM m.ns f).1 bl.1 id).1 bl.1 (-1) id).1, mks := insAt (m.mks.eraseIdx k) (unbook b k) (id, m.mks[k].2), op := insAt (dropO m.op f) ((atO (dropO m.op f) bl.1) + 1).toNat (id, m.op[j].2) } -> ExtP PS h9 c9 h' col' -> K (.tuple ⟨[]⟩) h' := fun h' col' p' E' => hk h' col' (by
    unfold renewM
    simp only [hid, ekn, hgm, hat, Int.toNat_natCast, eg]
    exact p') (by rw [ekn]; exact g9.ps E') (E09.trans E'.pa)
  obtain ⟨t9, ads9, T9, W9⟩ := p9.ex
  obtain ⟨ob9, oc9, mb9, mn9, mc9, vw9, o9, om9⟩ := W9.ex
  have hoj : OpenW m.op[j] := W9.openW _ (List.getElem_mem hjl)
  refine ⟨?_, ?_⟩
  · refine vSomeMk ⟨_, g9.v.cell 0 rfl, vSomeMk ⟨_, _, _, vw9.cell 1 rfl, vSomeMk ⟨_, g9.v.cell 2 rfl, agAt_calls g9 p9 fun h10 k10 => vIntMk ⟨k10.ext, ?_⟩⟩⟩⟩
    dsimp only [unmark]
    rw [hat]
    refine (o9.kb k10).row.idxN (i := j) hjl rfl fun qa hA => ldOpen hA fun ow => newx_var fun x5 h11 v11 k11 e11 s11 => ⟨k11.ext, stL_var0 v11 (by show 4 <= 4; omega) fun h12 v12 k12 s12 => ?_⟩
    have k912 : KB h9 h12 := KB.step (k10.trans k11) k12 (by have := k10.1; omega)
    exact insOpen_k (y := m.op[j]) g9 p9 (by show m.op.length <= _; omega) (by show 0 < atO m.op f; rw [hat]; have := C.h0; omega) hoj k912 v12 (by have := k10.1; omega) hidr hres
  · refine vSomeMk ⟨_, g9.v.cell 0 rfl, vSomeMk ⟨_, _, _, vw9.cell 1 rfl, vSomeMk ⟨_, g9.v.cell 2 rfl, newx_var fun x5 h11 v11 k11 e11 s11 => ⟨k11.ext, agAt_calls (g9.kb k11) (p9.kb k11) fun h10 k10 => vIntMk ⟨k10.ext, ?_⟩⟩⟩⟩⟩
    dsimp only [unmark]
    rw [hat]
    refine ((o9.kb k11).kb k10).row.idxN (i := j) hjl rfl fun qa hA => ldOpen hA fun ow => stL_var0 (v11.kb k10) (by show 4 <= 4; omega) fun h12 v12 k12 s12 => ?_
    have k912 : KB h9 h12 := KB.step (k11.trans k10) k12 (by omega)
    exact insOpen_k (y := m.op[j]) g9 p9 (by show m.op.length <= _; omega) (by show 0 < atO m.op f; rw [hat]; have := C.h0; omega) hoj k912 v12 (by omega) hidr hres
end
end Go.Proofs
namespace Go.Proofs
open Go Go.Sh
set_option linter.unusedVariables false
set_option maxRecDepth 100000
section
variable {m : WM} {u v x j b q : Nat} {f blk : Int}
def BI (m : WM) (blk : Int) (q : Nat) : Prop := ∃ i, q <= i /\ i < m.op.length /\ (m.op.getD i noOpen).1 = blk
theorem CI.drop_op (C : CI m u v x f j b (q + 1)) (hne : (m.op.getD q noOpen).1 ≠ f) : (dropW m (m.op.getD q noOpen).1).op = m.op.eraseIdx q := by
  have hq : q < m.op.length := by have := C.hq; omega
  rw [getD_get hq]
  exact C.A.drop_of hq (C.pos hne)
theorem BI.drop (B : BI m blk (q + 1)) {m' : WM} (hq : q < m.op.length) (ho : m'.op = m.op.eraseIdx q) : BI m' blk q := by
  obtain ⟨i, h1, h2, h3⟩ := B
  refine ⟨i - 1, by omega, by rw [ho, List.length_eraseIdx, if_pos hq]; omega, ?_⟩
  rw [ho, List.getD_eq_getElem?_getD, List.getElem?_eraseIdx, if_neg (by omega), show i - 1 + 1 = i by omega, <- List.getD_eq_getElem?_getD]
  exact h3
theorem climb_blk : ∀ (q n : Nat) {m : WM} {u v x b : Nat} (last : Int), CI m u v x f j b q -> BI m blk q -> BI (climbN blk f q n m last b).1 blk (j + 1)
  | 0, n, m, u, v, x, b, last, C, B => absurd C.hj (by omega)
  | q + 1, n, m, u, v, x, b, last, C, B => by
    have hq : q < m.op.length := by have := C.hq; omega
    unfold climbN
    simp only []
    by_cases hf : (m.op.getD q noOpen).1 = f
    · rw [if_pos hf]
      obtain ⟨i, h1, h2, h3⟩ := B
      exact ⟨i, by have := C.hj; omega, h2, h3⟩
    · rw [if_neg hf]
      by_cases h1 : 0 <= findP m.mks (m.op.getD q noOpen).1 /\ n < 3
      · rw [if_pos h1]
        have C2 := C.copy hf h1.1 last (b' := if last = blk then (findP m.mks (m.op.getD q noOpen).1).toNat + 1 else b) (by split; exact .inl rfl; exact .inr rfl)
        refine climb_blk q (n + 1) _ C2 ?_
        obtain ⟨i, h1, h2, h3⟩ := B
        exact ⟨i, by omega, by show i < (m.op.set _ _).length; rw [List.length_set]; exact h2, by show ((m.op.set _ _).getD i noOpen).1 = blk; rw [set_getD _ (by omega)]; exact h3⟩
      · rw [if_neg h1]
        by_cases h2 : 0 <= findP m.mks (m.op.getD q noOpen).1
        · rw [if_pos h2]
          have C1 := C.unmark hf h2
          exact climb_blk q (n + 1) last (C1.dropQ hf) (B.drop (m' := dropW (unmark m _) _) hq (C1.drop_op hf))
        · rw [if_neg h2]
          exact climb_blk q (n + 1) last (C.dropQ hf) (B.drop hq (C.drop_op hf))
theorem ins_get0 {α : Type} (l : List α) {i : Nat} (hi : 0 < i) (hl : 0 < l.length) (y d : α) : (insAt l i y).getD 0 d = l.getD 0 d := by
  unfold insAt
  cases l with
  | nil => simp at hl
  | cons a l => cases i with
    | zero => omega
    | succ i => rfl
theorem insA_mem {α : Type} {l : List α} {i : Nat} {y z : α} (h : z ∈ insAt l i y) : z ∈ l ∨ z = y := by
  unfold insAt at h
  rcases List.mem_append.1 h with h | h
  · exact .inl (List.mem_of_mem_take h)
  · rcases List.mem_cons.1 h with h | h
    · exact .inr h
    · exact .inl (List.mem_of_mem_drop h)
theorem ins_len {α : Type} (l : List α) (i : Nat) (y : α) : (insAt l i y).length = l.length + 1 := by
  unfold insAt
  rw [List.length_append, List.length_cons, List.length_take, List.length_drop]
  omega
theorem insA_nodup {β : Type} {l : List (Int × β)} (hn : (l.map (·.1)).Nodup) {i : Nat} {y : Int × β} (hy : ∀ z ∈ l, z.1 ≠ y.1) : ((insAt l i y).map (·.1)).Nodup := by
  unfold insAt
  rw [List.map_append, List.map_cons]
  have hp : (l.map (·.1)) = (l.take i).map (·.1) ++ (l.drop i).map (·.1) := by rw [<- List.map_append, List.take_append_drop]
  rw [hp] at hn
  obtain ⟨h1, h2, h3⟩ := List.nodup_append.1 hn
  refine List.nodup_append.2 ⟨h1, List.nodup_cons.2 ⟨fun h => ?_, h2⟩, fun p hp q hq => ?_⟩
  · obtain ⟨z, hz, e⟩ := List.mem_map.1 h
    exact hy z (List.mem_of_mem_drop hz) e
  · rcases List.mem_cons.1 hq with e | e
    · subst e
      intro e2
      obtain ⟨z, hz, e3⟩ := List.mem_map.1 hp
      exact hy z (List.mem_of_mem_take hz) (e3.trans e2)
    · exact h3 p hp q e
theorem CI.renew (C : CI m u v x f j b q) (B : BI m blk (j + 1)) : AI (renewM m f blk b) (u + 1) v x := by
  have hjl : j < m.op.length := Nat.lt_of_lt_of_le C.hj C.hq
  have eg : m.op.getD j noOpen = m.op[j] := getD_get hjl
  have hfj : m.op[j].1 = f := by have := C.hf; rwa [eg] at this
  have hf0 : 0 <= f := by rw [<- hfj]; exact (C.A.D.ids _ (List.getElem_mem hjl)).1
  have hat : atO m.op f = (j : Int) := by rw [<- hfj]; exact C.A.atO_of hjl
  obtain ⟨A1, ec, hcl, z, hz, hzk⟩ := C.A.copy (List.getElem_mem hjl) (C.A.ne0 hjl C.h0)
  rw [hfj] at A1 ec hcl hz
  have A2 := (A1.move blk (copyM m.ns f).2).put blk (-1) (copyM m.ns f).2
  have hdrop : dropO m.op f = m.op.eraseIdx j := by rw [<- hfj]; exact C.A.drop_of hjl C.h0
  have hfm : 0 <= findP m.mks f := (findP_mem hf0).2 C.hm
  obtain ⟨_, hkl, _⟩ := findP_yes hfm
  have hgm : m.mks.getD (findP m.mks f).toNat noMark = m.mks[(findP m.mks f).toNat] := getD_get hkl
  have hln := C.A.D.ln
  have hlo := C.A.D.lo
  have hml := C.A.D.ml
  obtain ⟨i, hi1, hi2, hi3⟩ := B
  have hel : (m.op.eraseIdx j).length = m.op.length - 1 := by rw [List.length_eraseIdx, if_pos hjl]
  have Ad := C.A.drop f
  have hin : 0 < ((atO (dropO m.op f) blk) + 1).toNat := by
    have hmem : ∃ y ∈ dropO m.op f, y.1 = blk := by
      rw [hdrop]
      refine ⟨m.op[i], List.mem_eraseIdx_iff_getElem.2 ⟨i, hi2, by omega, rfl⟩, ?_⟩
      rwa [getD_get hi2] at hi3
    have : 0 <= idxQ (dropO m.op f) (fun x => decide (x.1 = blk)) := by
      rw [idxQ_any, List.any_eq_true]
      obtain ⟨y, hy, e⟩ := hmem
      exact ⟨y, hy, by simpa using e⟩
    have : 0 <= atO (dropO m.op f) blk := this
    omega
  have hid : ∀ y ∈ dropO m.op f, y.1 ≠ (m.ns.length : Int) := fun y hy e => by
    have := (Ad.D.ids y hy).2
    have h2 : y.1 < (m.ns.length : Int) := this
    omega
  have hlen : (putM (moveM (copyM m.ns f).1 blk (copyM m.ns f).2).1 blk (-1) (copyM m.ns f).2).1.length = m.ns.length + 1 := by
    rw [put_len (A1.move blk (copyM m.ns f).2).D.G, move_len, hcl]
  have kk : KeepK (copyM m.ns f).1 (putM (moveM (copyM m.ns f).1 blk (copyM m.ns f).2).1 blk (-1) (copyM m.ns f).2).1 :=
    (KeepK.like (move_like _ _) (move_len _ _)).trans (.like (put_like (A1.move blk (copyM m.ns f).2).D.G _ _ _) (put_len (A1.move blk (copyM m.ns f).2).D.G _ _ _))
  unfold renewM
  simp only [hat, Int.toNat_natCast, eg, hgm, ec] at A2 hlen kk ⊢
  have hyy : ∀ y ∈ insAt (dropO m.op f) ((atO (dropO m.op f) blk) + 1).toNat ((m.ns.length : Int), m.op[j].2), y ∈ m.op ∨ y = ((m.ns.length : Int), m.op[j].2) := fun y hy => by
    rcases insA_mem hy with h | h
    · refine .inl ?_
      rw [hdrop] at h
      exact List.mem_of_mem_eraseIdx h
    · exact .inr h
  refine ⟨⟨A2.D.G, A2.D.B, ?_, fun y hy => ?_, ?_, ?_, A2.D.ln, ?_, fun y hy => ?_, A2.D.tx⟩, ?_, fun y hy hy0 => ?_, fun y hy => ?_, fun y hy => ?_⟩
  · show 0 < (insAt _ _ _).length
    rw [ins_len]; omega
  · rcases hyy y hy with h | h
    · exact A2.D.ids y h
    · subst h
      refine ⟨by show (0 : Int) <= (m.ns.length : Int); omega, ?_⟩
      show (m.ns.length : Int) < (((putM (moveM (copyM m.ns f).1 blk (m.ns.length : Int)).1 blk (-1) (m.ns.length : Int)).1.length : Nat) : Int)
      rw [hlen]; omega
  · exact insA_nodup Ad.D.nd hid
  · show (insAt _ _ _).length <= u + 1
    rw [ins_len, hdrop, hel]; omega
  · show (insAt _ _ _).length <= v
    rw [ins_len, List.length_eraseIdx, if_pos hkl]; omega
  · rcases insA_mem hy with h | h
    · exact C.A.D.mw y (List.mem_of_mem_eraseIdx h)
    · subst h
      exact C.A.D.mw m.mks[(findP m.mks f).toNat] (List.getElem_mem hkl)
  · show ((insAt _ _ _).getD 0 noOpen).1 = 0
    rw [ins_get0 _ hin (by rw [hdrop, hel]; omega), hdrop, getD_erase _ C.h0]
    exact C.A.root
  · rcases hyy y hy with h | h
    · exact A2.kind y h hy0
    · subst h
      obtain ⟨z', hz', e'⟩ := kk _ z hz
      exact ⟨z', by show _[((m.ns.length : Int)).toNat]? = _; rw [Int.toNat_natCast]; exact hz', e'.trans hzk⟩
  · rcases insA_mem hy with h | h
    · exact C.A.mid y (List.mem_of_mem_eraseIdx h)
    · subst h
      have := C.A.pos
      exact fun e => by have e : (m.ns.length : Int) = 0 := e; omega
  · rcases hyy y hy with h | h
    · exact C.A.nml y h
    · subst h
      exact C.A.nml m.op[j] (List.getElem_mem hjl)
theorem CI.put (C : CI m u v x f j b q) (p c i : Int) : CI { m with ns := (putM m.ns p c i).1 } u v x f j b q := ⟨C.A.put p c i, C.hj, C.h0, C.hq, C.hf, C.hm, C.hb⟩
theorem AI.begin (A : AI m u v x) {k : Nat} (hk : k < m.mks.length) (h0 : 0 <= (m.mks.getD k noMark).1) (hat : 0 <= atO m.op (m.mks.getD k noMark).1) {n : Nat} (hn : (atO m.op (m.mks.getD k noMark).1).toNat < n) (hn2 : n <= m.op.length) :
    CI m u v x (m.mks.getD k noMark).1 (atO m.op (m.mks.getD k noMark).1).toNat k n := by
  obtain ⟨hi, h1, _⟩ := idxQ_yes (l := m.op) (p := fun x => decide (x.1 = (m.mks.getD k noMark).1)) hat
  have hgm : m.mks.getD k noMark = m.mks[k] := getD_get hk
  have hi : (atO m.op (m.mks.getD k noMark).1).toNat < m.op.length := hi
  have e : (m.op.getD (atO m.op (m.mks.getD k noMark).1).toNat noOpen).1 = (m.mks.getD k noMark).1 := by rw [getD_get hi]; simpa using h1
  refine ⟨A, hn, ?_, hn2, e, ⟨m.mks[k], List.getElem_mem hk, by rw [hgm]⟩, by omega⟩
  rcases Nat.eq_zero_or_pos (atO m.op (m.mks.getD k noMark).1).toNat with h | h
  · exfalso
    rw [h, A.root] at e
    have hne := A.mid m.mks[k] (List.getElem_mem hk)
    rw [hgm] at e
    exact hne e.symm
  · exact h
theorem AI.over (A : AI m u v x) {k : Nat} (hk : k < m.mks.length) (h0 : 0 <= (m.mks.getD k noMark).1) (hat : 0 <= atO m.op (m.mks.getD k noMark).1) {n : Nat} (hn : (atO m.op (m.mks.getD k noMark).1).toNat < n) (hn2 : n < m.op.length) :
    AI (overM m (m.mks.getD k noMark).1 k (atO m.op (m.mks.getD k noMark).1).toNat n) (u + 4) v x := by
  have C := A.begin hk h0 hat hn (Nat.le_of_lt hn2)
  have C2 := climb_inv (m.op.getD n noOpen).1 n 0 (m.op.getD n noOpen).1 C
  have B2 := climb_blk (blk := (m.op.getD n noOpen).1) n 0 (m.op.getD n noOpen).1 C ⟨n, Nat.le_refl _, hn2, rfl⟩
  obtain ⟨R, hR⟩ : ∃ R, climbN (m.op.getD n noOpen).1 (m.mks.getD k noMark).1 n 0 m (m.op.getD n noOpen).1 k = R := ⟨_, rfl⟩
  rw [hR] at C2 B2
  unfold overM
  simp only [hR]
  exact (C2.put _ _ _).renew B2
theorem AI.round (A : AI m u v x) {k : Nat} (hk : k < m.mks.length) (h0 : 0 <= (m.mks.getD k noMark).1) : AI (roundM m k).1 (u + 4) v x := by
  unfold roundM
  simp only []
  split
  · exact (A.unmark k).mono (by omega) (Nat.le_refl _) (Nat.le_refl _)
  · rename_i hat
    split
    · exact A.mono (by omega) (Nat.le_refl _) (Nat.le_refl _)
    · split
      · exact ((A.close _).unmark k).mono (by omega) (Nat.le_refl _) (Nat.le_refl _)
      · rename_i hs
        obtain ⟨hi, _, _⟩ := idxQ_yes (l := m.op.drop ((atO m.op (m.mks.getD k noMark).1).toNat + 1)) (p := specO) (by omega)
        rw [List.length_drop] at hi
        exact A.over hk h0 (by omega) (by omega) (by omega)
theorem lastTo_of (l : List MarkP) (s : Bs) : ∀ i, i <= l.length -> 0 <= lastTo l s i -> ∃ k : Nat, lastTo l s i = (k : Int) /\ k < i /\ 0 <= (l.getD k noMark).1
  | 0, _, h => absurd (show (0 : Int) <= -1 from h) (by decide)
  | i + 1, hi, h => by
    unfold lastTo at h ⊢
    by_cases h1 : (l.getD i noMark).1 < 0
    · rw [if_pos h1] at h; exact absurd h (by decide)
    · rw [if_neg h1] at h ⊢
      by_cases h2 : (l.getD i noMark).2.1 = s
      · rw [if_pos h2]; exact ⟨i, rfl, by omega, by omega⟩
      · rw [if_neg h2] at h ⊢
        obtain ⟨k, e, hk, h3⟩ := lastTo_of l s i (by omega) h
        exact ⟨k, e, by omega, h3⟩
theorem lastP_of {l : List MarkP} {s : Bs} (h : 0 <= lastP l s) : ∃ k : Nat, lastP l s = (k : Int) /\ k < l.length /\ 0 <= (l.getD k noMark).1 := lastTo_of l s l.length (Nat.le_refl _) h
theorem AI.rounds (s : Bs) : ∀ (r : Nat) {m : WM} {u : Nat}, AI m u v x -> AI (roundsM s r m).1 (u + 4 * r) v x
  | 0, m, u, A => A
  | r + 1, m, u, A => by
    unfold roundsM
    split
    · exact A.mono (by omega) (Nat.le_refl _) (Nat.le_refl _)
    · rename_i hl
      obtain ⟨k, e, hk, h0⟩ := lastP_of (by omega : 0 <= lastP m.mks s)
      have hk2 : (lastP m.mks s).toNat = k := by rw [e]; rfl
      rw [hk2]
      have A2 := A.round hk h0
      split
      · have := AI.rounds s r A2
        rw [show u + 4 * (r + 1) = u + 4 + 4 * r by omega]
        exact this
      · exact A2.mono (by omega) (Nat.le_refl _) (Nat.le_refl _)
theorem AI.run (A : AI m u v x) (s : Bs) : AI (runM m s).1 (u + 32) v x := by
  unfold runM
  split
  · exact (A.close _).mono (by omega) (Nat.le_refl _) (Nat.le_refl _)
  · exact AI.rounds s 8 A
end
end Go.Proofs
namespace Go.Proofs
open Go Go.Sh
set_option linter.unusedVariables false
set_option maxRecDepth 100000
section
variable {h h' : H} {K : Value -> H -> Prop} {col col' : Col} {a w : Addr} {m : WM} {nm : Bs} {f bk : Int} {bl : OpenP} {u v x : Nat}
theorem AI.names (A : AI m u v x) : ∀ y ∈ m.op, y.2.2.1.length <= 1000000000 := fun y hy => by have := A.nml y hy; omega
theorem round_calls (L : Lib0 h col) (g : AgW h col a w nm f bl bk) (p : PW h col w m) (A : AI m u v x) (hu : u + 4 <= 900000) (hv : v <= 900000) {k : Nat} (hkl : k < m.mks.length) (h0 : 0 <= (m.mks.getD k noMark).1)
    (hk : ∀ h' col' f' bl' bk', PW h' col' w (roundM m k).1 -> AgW h' col' a w nm f' bl' bk' -> ExtP PA h col h' col' -> K (.bool (roundM m k).2) h') :
    HCalls Tryz.prog 44 ⟨[.pointer (some a), .int .i64 (k : Int)]⟩ h K := by
  have hlo := A.D.lo
  have hln := A.D.ln
  have hml := A.D.ml
  obtain ⟨t, ads, T, W⟩ := p.ex
  obtain ⟨ob, oc, mb, mn, mc, vw, o, om⟩ := W.ex
  have hmn := om.len
  have hgm : m.mks.getD k noMark = m.mks[k] := getD_get hkl
  obtain ⟨xs, he, hcc, _⟩ := om.parts
  obtain ⟨am, yb, yn, yc, eb, m0, m1, m2, mR⟩ := markPart he hcc hkl
  subst eb
  obtain ⟨F, hF⟩ : ∃ F, (m.mks.getD k noMark).1 = F := ⟨_, rfl⟩
  have hFk : m.mks[k].1 = F := by rw [<- hgm]; exact hF
  rw [hFk] at m0
  refine Sx.adopt_agency_round.ok _ _ _ _ (vSomeMk ⟨_, g.v.cell 0 rfl, vSomeMk ⟨_, _, _, vw.cell 2 rfl, ⟨by omega, by omega⟩, vSomeMk ?_⟩⟩)
  rw [Int.toNat_natCast]
  refine ⟨_, m0, vSomeMk (agSt g p (i := 2) (by show 2 + 1 <= 8; omega) fun h1 v1 c1 p1 E1 _ => vSomeMk ?_)⟩
  have g1 : AgW h1 col a w nm F bl bk := ⟨v1, c1⟩
  refine agSt g1 p1 (i := 7) (by show 7 + 1 <= 8; omega) fun h2 v2 c2 p2 E2 _ => vSomeMk ?_
  have g2 : AgW h2 col a w nm F bl (k : Nat) := ⟨v2, c2⟩
  have E02 := E1.trans E2
  refine ⟨_, g2.v.cell 2 rfl, agAt_calls g2 p2 fun h3 k3 => vIntMk ?_⟩
  have p3 := p2.kb k3
  have g3 := g2.kb k3
  have E03 := E02.trans (.kb k3)
  unfold roundM at hk
  simp only [] at hk
  rw [hF] at hk h0
  refine spl (fun hneg => ?_) fun hneg => ?_
  · rw [if_pos hneg] at hk
    exact unmark_calls g3 p3 rfl (by omega) hkl (by omega) fun h4 c4 p4 g4 E4 _ => hk h4 c4 _ _ _ p4 g4 (E03.trans E4)
  rw [if_neg hneg] at hk
  obtain ⟨i, ei⟩ := Int.eq_ofNat_of_zero_le (by omega : 0 <= atO m.op F)
  have ein : (atO m.op F).toNat = i := by rw [ei]; rfl
  rw [ein] at hk
  rw [ei]
  have hil : i < m.op.length := by have := (idxQ_lt (l := m.op) (p := fun x => decide (x.1 = F))).1; have h2 : (idxQ m.op fun x => decide (x.1 = F)) = (i : Int) := ei; omega
  refine scoped_calls (L.ext E03) g3 p3 (by omega) A.names hil fun h4 k4 => vBool_mk (condB (fun hs => ?_) fun hs => ?_)
  rotate_left
  · rw [hs, if_pos rfl] at hk
    exact hk h4 col _ _ _ (p3.kb k4) (g3.kb k4) (E03.trans (.kb k4))
  rw [hs, if_neg (by simp)] at hk
  have p4 := p3.kb k4
  have g4 := g3.kb k4
  have E04 := E03.trans (.kb k4)
  obtain ⟨t4, ads4, T4, W4⟩ := p4.ex
  obtain ⟨ob4, oc4, mb4, mn4, mc4, vw4, o4, om4⟩ := W4.ex
  have hcap := o4.cap
  have hmax := hcap.2
  simp only [maxLen] at hmax
  have e1 : ((i : Int) + (1 : Int)) = ((i + 1 : Nat) : Int) := rfl
  refine vSomeMk ⟨_, g4.v.cell 0 rfl, vSomeMk ⟨_, _, _, vw4.cell 1 rfl, rng64 (by omega) (by omega), ⟨by omega, by omega, by omega⟩, ?_⟩⟩
  rw [e1]
  have r0 : Row elOpen (Bel h4.size) h4 (if oc4 = i + 1 then ob4 else Option.map (fun q => q.add ((i + 1) * 4)) ob4) (m.op.length - (i + 1)) (oc4 - (i + 1)) ((m.op.take m.op.length).drop (i + 1)) := o4.row.sub (lo := i + 1) (hi := m.op.length) (by omega) (Nat.le_refl _) rfl
  rw [List.take_length] at r0
  refine indexFuncOpen_calls (p := specO) r0 (fun y h5 next hy k5 hR hn => ?_) fun h5 k5 => vIntMk ?_
  · have e : CallV Tryz.prog 4 (.func (.func 89) ⟨[]⟩ ⟨[]⟩) ⟨[.agg ⟨[.int .i64 y.1, .int .u8 y.2.1, S y.2.2.1, .int .u8 y.2.2.2]⟩]⟩ h5 next =
        HCalls Tryz.prog 89 ⟨[.agg ⟨[.int .i64 y.1, .int .u8 y.2.1, S y.2.2.1, .int .u8 y.2.2.2]⟩]⟩ h5 fun v h' => vBool v fun b => cond b (next (.bool true) h') (next (.bool false) h') := by kernel_rfl
    rw [e]
    have hym : y ∈ m.op := List.mem_of_mem_drop hy
    refine Sx.adopt_agency_round_1.ok _ _ _ _ _ _ (newx_var fun a8 h8 v8 k8 e8 _ => ⟨_, v8.cell 1 rfl, _, v8.cell 2 rfl, special_calls ((L.ext (E04.trans (.kb k5))).ml.kb k8) (by have := A.names y hym; omega) (vBool_mk ?_)⟩)
    have := hn h8 k8
    exact condB (fun eb => by have eb : specO y = true := eb; rw [eb] at this; exact this) fun eb => by have eb : specO y = false := eb; rw [eb] at this; exact this
  have p5 := p4.kb k5
  have g5 := g4.kb k5
  have E05 := E04.trans (.kb k5)
  have vw5 := vw4.kb k5
  refine spl (fun hsn => ?_) fun hsn => ?_
  · rw [if_pos hsn] at hk
    refine vSomeMk ⟨_, g5.v.cell 0 rfl, close_callsW p5 fun h6 c6 p6 E6 => ?_⟩
    have hml6 : (closeW m (i : Int)).mks = m.mks := rfl
    exact unmark_calls (g5.ps E6) p6 rfl (by omega) (by rw [hml6]; exact hkl) (by rw [hml6]; omega) fun h7 c7 p7 g7 E7 _ => hk h7 c7 _ _ _ p7 g7 ((E05.trans E6.pa).trans E7)
  rw [if_neg hsn] at hk
  obtain ⟨hjl, hjs, _⟩ := idxQ_yes (l := m.op.drop (i + 1)) (p := specO) (by omega)
  rw [List.length_drop] at hjl
  obtain ⟨j, ej⟩ := Int.eq_ofNat_of_zero_le (by omega : 0 <= idxQ (m.op.drop (i + 1)) specO)
  have ejn : (idxQ (m.op.drop (i + 1)) specO).toNat = j := by rw [ej]; rfl
  rw [ejn] at hjl hk
  rw [ej]
  have e2 : ((j : Int) + ((i : Int) + (1 : Int))) = ((j + (i + 1) : Nat) : Int) := rfl
  obtain ⟨n, hn⟩ : ∃ n, j + (i + 1) = n := ⟨_, rfl⟩
  have hnl : n < m.op.length := by omega
  have hin : i < n := by omega
  have C : CI m u v x F i k n := by
    have := A.begin (n := n) hkl (by rw [hF]; exact h0) (by rw [hF]; omega) (by rw [hF, ein]; exact hin) (by omega)
    rw [hF, ein] at this
    exact this
  rw [hn] at hk
  refine ⟨rng64 (by omega) (by omega), ?_⟩
  rw [e2, hn]
  have hi0 := C.h0
  refine ⟨rng64 (by omega) (by omega), vSomeMk ⟨_, g5.v.cell 0 rfl, vSomeMk ⟨_, _, _, vw5.cell 1 rfl, (o4.kb k5).row.idxN (i := n) hnl rfl fun qa hA => ldOpen hA fun ow => vSomeMk ?_⟩⟩⟩
  refine agSt g5 p5 (i := 3) (by show 3 + 4 <= 8; omega) fun h6 v6 c6 p6 E6 _ => ?_
  have g6 : AgW h6 col a w nm F m.op[n] (k : Nat) := ⟨v6, c6⟩
  have E06 := E05.trans E6
  obtain ⟨t6, ads6, T6, W6⟩ := p6.ex
  obtain ⟨ob6, oc6, mb6, mn6, mc6, vw6, o6, om6⟩ := W6.ex
  have e3 : ((i : Int) - (1 : Int)) = ((i - 1 : Nat) : Int) := by omega
  refine vSomeMk ⟨_, g6.v.cell 0 rfl, vSomeMk ⟨_, _, _, vw6.cell 1 rfl, rng64 (by omega) (by omega), ?_⟩⟩
  rw [e3]
  have hi1 : i - 1 < m.op.length := by omega
  refine o6.row.idxN (i := i - 1) hi1 rfl fun qa hA => ldOpen hA fun ow2 => newx_var fun x21 h7 v7 k7 e7 s7 => stL_var0 v7 (by show 4 <= 4; omega) fun h8 v8 k8 s8 => ?_
  have k68 : KB h6 h8 := KB.step k7 k8 (by omega)
  have v8 : Var h8 x21 60 (cellsO m.op[i - 1]) := v8
  have cx : col x21.block = none := p6.fresh _ (by omega)
  refine climb_calls (L.ext (E06.trans (.kb k68))) (g6.kb k68) (p6.kb k68) C (by omega) hv fun h9 c9 p9 g9 E9 => vIntMk ?_
  have C9 := climb_inv m.op[n].1 n 0 m.op[n].1 C
  have egn : m.op.getD n noOpen = m.op[n] := getD_get hnl
  have egi : m.op.getD (i - 1) noOpen = m.op[i - 1] := getD_get hi1
  unfold overM at hk
  simp only [egn, egi] at hk
  obtain ⟨R, hR⟩ : ∃ R, climbN m.op[n].1 F n 0 m m.op[n].1 k = R := ⟨_, rfl⟩
  rw [hR] at C9 p9 g9 ⊢
  rw [hR] at hk
  have v9 := v8.keep E9.keepF ⟨cx, v8.lt⟩
  have E09 := (E06.trans (.kb k68)).trans E9
  obtain ⟨t9, ads9, T9, W9⟩ := p9.ex
  have hlo9 := C9.A.D.lo
  have hln9 := C9.A.D.ln
  refine vSomeMk ⟨_, g9.v.cell 0 rfl, ldVar (m := m.op[i - 1]) v9 (where_calls (x := m.op[i - 1]) T9 W9 (by omega) fun h10 k10 => tupIIMk ?_)⟩
  have g10 := g9.kb k10
  have W10 := W9.kb k10
  have T10 := T9.kb k10
  obtain ⟨_, _, _, _, _, vw10, _, _⟩ := W10.ex
  refine vSomeMk ⟨_, g10.v.cell 0 rfl, vSomeMk ⟨_, vw10.cell 0 rfl, putT_k T10 W10 C9.A.D.G fun h11 c11 T11 W11 E11 => vBool_mk ?_⟩⟩
  have g11 := g10.ps E11
  have E011 := (E09.trans (.kb k10)).trans E11.pa
  have C11 := C9.put (whereM R.1.ns R.1.op R.1.fo m.op[i - 1]).1 (whereM R.1.ns R.1.op R.1.fo m.op[i - 1]).2 R.2.1
  have p11 : PW h11 c11 w { R.1 with ns := (putM R.1.ns (whereM R.1.ns R.1.op R.1.fo m.op[i - 1]).1 (whereM R.1.ns R.1.op R.1.fo m.op[i - 1]).2 R.2.1).1 } := ⟨t9, ads9, T11, W11⟩
  refine condK (K := fun _ => HCalls Tryz.prog 91 ⟨[.pointer (some a)]⟩ h11 fun v49 h50 => K (.bool true) h50) ?_
  exact renew_calls g11 p11 C11 (by omega) hv fun h12 c12 p12 g12 E12 => hk h12 c12 _ _ _ p12 g12 (E011.trans E12)
end
end Go.Proofs
namespace Go.Proofs
open Go Go.Sh
set_option linter.unusedVariables false
set_option maxRecDepth 100000
section
variable {h h' : H} {K : Value -> H -> Prop} {col col' : Col} {a w : Addr} {m : WM} {nm : Bs} {f bk : Int} {bl : OpenP} {u v x : Nat}
theorem run_loop {KE : Sx.adopt_Run.T3} {Kr : Sx.adopt_Run.T0} {R : WM × Bool} {h0 : H} {col0 : Col} (L : Lib0 h0 col0) (hE : ∀ h' col', PW h' col' w R.1 -> ExtP PA h0 col0 h' col' -> R.2 = true -> KE h')
    (hF : ∀ h' col', PW h' col' w R.1 -> ExtP PA h0 col0 h' col' -> R.2 = false -> Kr false h') : ∀ (r i : Nat) {m : WM} {u : Nat} {h : H} {col : Col} {f : Int} {bl : OpenP} {bk : Int}, AgW h col a w nm f bl bk -> PW h col w m -> AI m u v x ->
      u + 4 * r <= 900000 -> v <= 900000 -> r + i = 8 -> roundsM nm r m = R -> ExtP PA h0 col0 h col -> Sx.adopt_Run.n8_L KE KE Kr (r + 1) (some w) nm (some a) (i : Int) h
  | 0, i, m, u, h, col, f, bl, bk, g, p, A, hu, hv, hi, hR, E0 => by
    unfold Sx.adopt_Run.n8_L LP Sx.adopt_Run.n8_B
    refine splF (by omega) (condF ?_)
    subst hR
    exact hE h col p E0 rfl
  | r + 1, i, m, u, h, col, f, bl, bk, g, p, A, hu, hv, hi, hR, E0 => by
    unfold Sx.adopt_Run.n8_L LP Sx.adopt_Run.n8_B
    refine splT (by omega) (condT ?_)
    obtain ⟨t, ads, T, W⟩ := p.ex
    obtain ⟨ob, oc, mb, mn, mc, vw, o, om⟩ := W.ex
    have hlo := A.D.lo
    have hml := A.D.ml
    unfold roundsM at hR
    refine vSomeMk ⟨_, _, _, vw.cell 2 rfl, last_calls (fun k hk => hk) om.row fun h1 k1 => vIntMk ?_⟩
    have E1 := E0.trans (.kb k1)
    refine spl (fun hn => ?_) fun hn => ?_
    · rw [if_pos hn] at hR
      subst hR
      exact hF h1 col (p.kb k1) E1 rfl
    rw [if_neg hn] at hR
    obtain ⟨k, ek, hk, hk0⟩ := lastP_of (by omega : 0 <= lastP m.mks nm)
    have ekn : (lastP m.mks nm).toNat = k := by rw [ek]; rfl
    rw [ekn] at hR
    rw [ek]
    refine round_calls (L.ext E1) (g.kb k1) (p.kb k1) A (by omega) hv hk hk0 fun h2 c2 f2 bl2 bk2 p2 g2 E2 => vBool_mk ?_
    have A2 := A.round hk hk0
    have E02 := E1.trans E2
    refine condB (fun hb => ?_) fun hb => ?_
    · rw [hb, if_pos rfl] at hR
      refine ⟨rng64 (by omega) (by omega), ?_⟩
      have e1 : ((i : Int) + (1 : Int)) = ((i + 1 : Nat) : Int) := rfl
      rw [e1]
      exact run_loop L hE hF r (i + 1) g2 p2 A2 (by omega) hv (by omega) hR E02
    · rw [hb, if_neg (by simp)] at hR
      subst hR
      exact hE h2 c2 p2 E02 rfl
theorem run_calls (L : Lib0 h col) (p : PW h col w m) (A : AI m u v x) (hu : u + 32 <= 900000) (hv : v <= 900000) (hk : ∀ h' col', PW h' col' w (runM m nm).1 -> ExtP PA h col h' col' -> K (.bool (runM m nm).2) h') :
    HCalls Tryz.prog 15 ⟨[.pointer (some w), S nm]⟩ h K := by
  obtain ⟨t, ads, T, W⟩ := p.ex
  have hlo := A.D.lo
  have hln := A.D.ln
  have hml := A.D.ml
  obtain ⟨R, hR⟩ : ∃ R, runM m nm = R := ⟨_, rfl⟩
  rw [hR] at hk
  refine Sx.adopt_Run.ok _ _ _ _ (current_calls W A.D.ne (by omega) fun h1 k1 => agOpen (x := curM m.op) <| newx_var fun a2 h2 v2 k2 e2 s2 => stL_var0 v2 (by show 4 <= 4; omega) fun h3 v3 k3 s3 => ?_)
  have k03 : KB h h3 := k1.trans (KB.step k2 k3 (by omega))
  have p3 := p.kb k03
  have v3 : Var h3 a2 60 (cellsO (curM m.op)) := v3
  have rest : ∀ h4, KB h h4 -> roundsM nm 8 m = R -> Sx.adopt_Run.n3 (some w) nm (fun y h => K (.bool y) h) (fun y h => K (.bool y) h) h4 := fun h4 k4 hr => by
    refine newx_var fun a9 h9 v9 k9 e9 s9 => ?_
    have k09 := k4.trans k9
    have hsz : h.size <= a9.block := by have := k4.1; omega
    have E9 : ExtP PA h col h9 (paint col a9.block (4, 0)) := ⟨k09.less fun k hk => hk.1, fun k hk => paint_ne (by omega)⟩
    have f9 : Fresh h9 (paint col a9.block (4, 0)) := (p.fresh.kb k09).paint v9.lt
    have p9 : PW h9 (paint col a9.block (4, 0)) w m := p.ext (Z := fun _ => False) ⟨k09.less fun k hk => hk.1, fun k hk => paint_ne (by omega)⟩ id id f9
    have g9 : AgW h9 (paint col a9.block (4, 0)) a9 w nm 0 (0, 0, [], 0) 0 := ⟨v9, paint_at⟩
    refine ⟨9, ?_⟩
    exact run_loop L (fun h' c' p' E' e => by have := hk h' c' p' E'; rw [e] at this; exact this) (fun h' c' p' E' e => by have := hk h' c' p' E'; rw [e] at this; exact this) 8 0 g9 p9 A (by omega) hv rfl hr E9
  obtain ⟨ob, oc, mb, mn, mc, vw, o, om⟩ := (W.kb k03).ex
  unfold runM at hR
  have no : (isN (curM m.op) nm = true -> 0 <= findP m.mks (curM m.op).1) -> roundsM nm 8 m = R := fun hc => by
    rw [if_neg (fun ⟨h1, h2⟩ => by have := hc h1; omega)] at hR
    exact hR
  have nn : ¬ (isN (curM m.op) nm = true) -> roundsM nm 8 m = R := fun hc => no fun h => absurd h hc
  refine ⟨_, v3.cell 1 rfl, spl (fun e1 => ⟨_, v3.cell 2 rfl, spl (fun e2 => vSomeMk ⟨_, _, _, vw.cell 2 rfl, _, v3.cell 0 rfl, find_calls om.row fun h4 k4 => vIntMk (spl (fun e3 => ?_) fun e3 => condF ?_)⟩) fun e2 => condF ?_⟩) fun e1 => condF ?_⟩
  · have hi : isN (curM m.op) nm = true := by unfold isN; rw [decide_eq_true e1, decide_eq_true e2]; rfl
    rw [if_pos ⟨hi, e3⟩] at hR
    have k04 := k03.trans k4
    have e5 : ((m.op.length : Int) - (1 : Int)) = (m.op.length : Int) - 1 := rfl
    refine condT (vSomeMk ⟨_, _, _, (vw.kb k4).cell 1 rfl, rng64 (by omega) (by omega), ?_⟩)
    subst hR
    exact close_callsW (p.kb k04) fun h5 c5 p5 E5 => hk h5 c5 p5 ((ExtP.kb k04).trans E5.pa)
  · exact rest h4 (k03.trans k4) (no fun _ => by omega)
  · exact rest h3 k03 (nn fun h => e2 (by unfold isN at h; simp only [Bool.and_eq_true, decide_eq_true_eq] at h; exact h.2))
  · exact rest h3 k03 (nn fun h => e1 (by unfold isN at h; simp only [Bool.and_eq_true, decide_eq_true_eq] at h; exact h.1))
end
end Go.Proofs
namespace Go.Proofs
open Go Go.Sh
set_option linter.unusedVariables false
set_option maxRecDepth 100000
theorem KeepK.refl (ns : List NodeM) : KeepK ns ns := fun j z hz => ⟨z, hz, rfl⟩
theorem KeepK.app (ns : List NodeM) (l : List NodeM) : KeepK ns (ns ++ l) := fun j z hz => ⟨z, by rw [List.getElem?_append_left (getI hz)]; exact hz, rfl⟩
theorem KeepK.addM (ns : List NodeM) (x : Option NodeM) : KeepK ns (addM ns x).1 := by
  cases x with
  | none => exact .refl _
  | some x => exact .app _ _
theorem KeepK.writeM {ns : List NodeM} (G : GoodT ns) (p b : Int) (tx : Bs) : KeepK ns (writeM ns p b tx).1 := by
  rcases write_of (ns := ns) p b tx with h | ⟨j, z, hz, _, h⟩ | ⟨i, h⟩
  · rw [h]; exact .refl _
  · rw [h]
    intro k y hy
    by_cases e : k = j
    · subst e
      rw [hz] at hy; cases hy
      exact ⟨{ z with text := z.text ++ tx }, by rw [List.getElem?_set_self (getI hz)], rfl⟩
    · exact ⟨y, by rw [List.getElem?_set_ne (by omega)]; exact hy, rfl⟩
  · rw [h]
    exact (KeepK.addM _ _).trans (.like (put_like (G.addM _ _ _ _ _) _ _ _) (put_len (G.addM _ _ _ _ _) _ _ _))
section
variable {m : WM} {u v x : Nat}
theorem AI.zero : AI wm0 1 0 0 := ⟨DI.zero, rfl, fun y hy h0 => by
  have : y = (0, 0, wHtml, 0) := by simpa [wm0] using hy
  subst this
  exact absurd rfl h0, (fun y hy => nomatch hy), fun y hy => by
  have : y = (0, 0, wHtml, 0) := by simpa [wm0] using hy
  subst this
  decide⟩
theorem getD_app {α : Type} (l l2 : List α) (h : 0 < l.length) (d : α) : (l ++ l2).getD 0 d = l.getD 0 d := by
  rw [List.getD_eq_getElem?_getD, List.getElem?_append_left h, <- List.getD_eq_getElem?_getD]
theorem AI.insert (A : AI m u v x) (sp : Int) {nm : Bs} (hn : nm.length <= 4000) (at' : List AttrP) : AI (insertM m sp nm at') (u + 1) v x := by
  have k1 : KeepK m.ns (insertM m sp nm at').ns := (KeepK.addM _ _).trans (.like (put_like (A.D.G.addM _ _ _ _ _) _ _ _) (put_len (A.D.G.addM _ _ _ _ _) _ _ _))
  have k2 : KeepK (addM m.ns (bareM 1 sp nm at' [])).1 (insertM m sp nm at').ns := .like (put_like (A.D.G.addM _ _ _ _ _) _ _ _) (put_len (A.D.G.addM _ _ _ _ _) _ _ _)
  have hop : (insertM m sp nm at').op = m.op ++ [((m.ns.length : Int), sp, nm, pointM sp nm at')] := rfl
  refine ⟨A.D.insert _ _ _, by rw [hop, getD_app _ _ A.D.ne]; exact A.root, fun y hy h0 => ?_, A.mid, fun y hy => ?_⟩
  · rw [hop] at hy
    rcases List.mem_append.1 hy with h | h
    · obtain ⟨z, hz, e⟩ := A.kind y h h0
      obtain ⟨z', hz', e'⟩ := k1 _ z hz
      exact ⟨z', hz', e'.trans e⟩
    · rw [List.mem_singleton.1 h]
      obtain ⟨z', hz', e'⟩ := k2 m.ns.length ⟨1, sp, nm, at', [], -1, []⟩ (by
        show (m.ns ++ [_])[m.ns.length]? = _
        rw [List.getElem?_append_right (Nat.le_refl _), Nat.sub_self]; rfl)
      exact ⟨z', hz', e'⟩
  · rw [hop] at hy
    rcases List.mem_append.1 hy with h | h
    · exact A.nml y h
    · rw [List.mem_singleton.1 h]; exact hn
theorem AI.write (A : AI m u v x) {tx : Bs} (ht : tx.length <= 4000) : AI (writeW m tx) (u + 1) v (x + 4000) :=
  ⟨A.D.write ht, A.root, fun y hy h0 => by
    obtain ⟨z, hz, e⟩ := A.kind y hy h0
    obtain ⟨z', hz', e'⟩ := KeepK.writeM A.D.G (whereC m).1 (whereC m).2 tx _ z hz
    exact ⟨z', hz', e'.trans e⟩, A.mid, A.nml⟩
theorem AI.push (A : AI m u v x) {y : MarkP} (hy : y.2.1.length <= 4000 /\ y.2.2.length <= 500 /\ ∀ a ∈ y.2.2, a.2.length <= 4000) (h0 : y.1 ≠ 0) : AI { m with mks := pushP m.mks y } u (v + 1) x :=
  ⟨A.D.push hy, A.root, A.kind, fun z hz => by
    rcases push_mem hz with h | h
    · exact A.mid z h
    · rw [h]; exact h0, A.nml⟩
theorem AI.reb {v : Nat} : ∀ (k : Nat) {m : WM} {u x : Nat} (i : Nat), AI m u v x -> i + k <= m.mks.length -> AI (rebN k m i) (u + k) v x
  | 0, m, u, x, i, A, _ => A
  | k + 1, m, u, x, i, A, hik => by
    have hi : i < m.mks.length := by omega
    have hg : m.mks.getD i noMark = m.mks[i] := getD_get hi
    have hw := A.D.mw m.mks[i] (List.getElem_mem hi)
    have h1 := A.insert 0 (nm := (m.mks.getD i noMark).2.1) (by rw [hg]; exact hw.1) (m.mks.getD i noMark).2.2
    have h2 : AI { insertM m 0 (m.mks.getD i noMark).2.1 (m.mks.getD i noMark).2.2 with mks := m.mks.set i ((m.ns.length : Int), (m.mks.getD i noMark).2) } (u + 1) v x :=
      ⟨⟨h1.D.G, h1.D.B, h1.D.ne, h1.D.ids, h1.D.nd, h1.D.lo, h1.D.ln, by show (m.mks.set _ _).length <= v; rw [List.length_set]; exact A.D.ml, by rw [hg]; exact A.D.mw.set hi _, h1.D.tx⟩, h1.root, h1.kind, fun z hz => by
        rcases List.mem_or_eq_of_mem_set hz with h | h
        · exact A.mid z h
        · rw [h]
          have := A.pos
          exact fun e => by have e : (m.ns.length : Int) = 0 := e; omega, h1.nml⟩
    have := AI.reb k (i + 1) h2 (by show i + 1 + k <= (m.mks.set _ _).length; rw [List.length_set]; omega)
    rw [show u + (k + 1) = u + 1 + k by omega]
    exact this
theorem AI.rebuild (A : AI m u v x) : AI (rebuildW m) (u + v) v x := by
  have hr := lostTo_rng m.mks m.op m.mks.length
  have h1 : (lostP m.mks m.op).toNat <= m.mks.length := by have := hr.2; show (lostTo m.mks m.op m.mks.length).toNat <= _; omega
  have := AI.reb (m.mks.length - (lostP m.mks m.op).toNat) (lostP m.mks m.op).toNat A (by omega)
  exact this.mono (by have := A.D.ml; omega) (Nat.le_refl _) (Nat.le_refl _)
end
end Go.Proofs
namespace Go.Proofs
open Go Go.Sh
set_option linter.unusedVariables false
set_option maxRecDepth 100000
abbrev OpA := Int × Int × Bs × List AttrP
abbrev elOpA : El OpA := elPair (elInt .u8) (elPair (elInt .u8) (elPair elStr (elSl elAttr)))
structure OpC (A : Nat -> Prop) (h : H) (a : Addr) (x : OpA) (b : Option Addr) (n c : Nat) : Prop where
  c0 : cell h (a.add 0) = some (.int .u8 x.1)
  c1 : cell h (a.add 1) = some (.int .u8 x.2.1)
  c2 : cell h (a.add 2) = some (S x.2.2.1)
  c3 : cell h (a.add 3) = some (.slice b n c)
  row : Row elAttr A h b n c x.2.2.2
  nil : b = none -> c = 0
  r0 : Rng .u8 x.1
  r1 : Rng .u8 x.2.1
  rn : x.2.2.1.length <= maxLen
theorem opAt {A : Nat -> Prop} {h : H} {a : Addr} {x : OpA} (hA : At elOpA A h a x) : ∃ b n c, OpC A h a x b n c := by
  have h2 := hA.snd.sndAt (k := 2) rfl
  have h3 := h2.sndAt (k := 3) rfl
  obtain ⟨b, n, c, e, r, hz⟩ := h3.sl
  exact ⟨b, n, c, hA.fst.int.1, hA.snd.fst.int.1, h2.fst.str.1, e, r, hz, hA.fst.int.2, hA.snd.fst.int.2, h2.fst.str.2⟩
theorem rU80 : Rng .u8 (0 : Int) := ⟨by decide, by decide⟩
theorem rL0 : ([] : Bs).length <= maxLen := by decide
abbrev tokO (o : OpA) : TokP := (0, [], o.2.2.2, false, [])
def opW (o : OpA) : Nat := o.2.2.1.length / 8 + tokW (tokO o)
def LightA (l : List OpA) : Prop := l.length <= 80 /\ ∀ o ∈ l, opW o <= 300
section
variable {A : Nat -> Prop} {h : H} {K : Value -> H -> Prop} {b : Option Addr} {n c : Nat} {l : List OpA}
theorem LightA.op (L : LightA l) {o : OpA} (ho : o ∈ l) : o.2.2.1.length <= 4000 /\ o.2.2.2.length <= 500 /\ ∀ a ∈ o.2.2.2, a.1.length <= 4000 /\ a.2.length <= 4000 := by
  have h := L.2 o ho
  unfold opW at h
  obtain ⟨_, _, h3, h4⟩ := tokW_small (x := tokO o) (m := 300) (by omega)
  exact ⟨by omega, Nat.le_trans h3 (by decide), fun a ha => by have := h4 a ha; omega⟩
theorem heavyA_calls (R : Row elOpA A h b n c l) (hk : ∀ h' v, KB h h' -> (v = false -> LightA l) -> K (.bool v) h') : HCalls Tryz.prog 4 ⟨[.slice b n c]⟩ h K := by
  have hl := R.len
  have hm : n <= maxLen := Nat.le_trans R.cap R.max
  simp only [maxLen] at hm
  refine Sx.l14_heavy.ok _ _ _ _ _ ⟨n + 1, ?_⟩
  have fin : ∀ h1 (w : Int), KB h h1 -> (w <= 300 -> ∀ o ∈ l, opW o <= 300) -> Sx.l14_heavy.n4 b n c w (fun y2 h => K (.bool y2) h) (fun y2 h => K (.bool y2) h) h1 := fun h1 w k1 hw =>
    spl (fun _ => hk h1 true k1 fun e => by cases e) fun e => spl (fun _ => hk h1 true k1 fun e => by cases e) fun e2 => hk h1 false k1 fun _ => ⟨by omega, hw (by omega)⟩
  have key : ∀ N i (w : Int) h1, i + N = n -> KB h h1 -> (n : Int) <= w -> (w <= 300 -> ∀ o ∈ l.take i, opW o <= 300) ->
      Sx.l14_heavy.n7_L (fun z0b z0n z0c z3 h => Sx.l14_heavy.n4 z0b z0n z0c z3 (fun y2 h => K (.bool y2) h) (fun y2 h => K (.bool y2) h) h) (fun z0b z0n z0c z3 h => Sx.l14_heavy.n4 z0b z0n z0c z3 (fun y2 h => K (.bool y2) h) (fun y2 h => K (.bool y2) h) h) (fun y2 h => K (.bool y2) h) (N + 1) b n c w (i : Int) h1 := by
    intro N
    induction N with
    | zero =>
      intro i w h1 hi k1 w0 hw
      unfold Sx.l14_heavy.n7_L LP Sx.l14_heavy.n7_B
      refine splF (by omega) (fin h1 w k1 fun hle => ?_)
      have := hw hle
      rwa [List.take_of_length_le (by omega)] at this
    | succ N ih =>
      intro i w h1 hi k1 w0 hw
      unfold Sx.l14_heavy.n7_L LP Sx.l14_heavy.n7_B
      refine splT (by omega) (spl (fun hle => ?_) fun hgt => fin h1 w k1 fun hle => absurd hle hgt)
      have hil : i < l.length := by omega
      have hw := hw hle
      refine (R.kb k1).idxN hil rfl fun a hA => ?_
      obtain ⟨ab, an, ac, C⟩ := opAt hA
      have hrn := C.rn
      simp only [maxLen] at hrn
      have ed : Int.tdiv ((l[i].2.2.1.length : Int)) (8 : Int) = ((l[i].2.2.1.length / 8 : Nat) : Int) := rfl
      refine ⟨_, C.c2, by decide, rngW (by rw [ed]; omega) (by rw [ed]; omega), (R.kb k1).idxN hil rfl fun a2 hA2 => ?_⟩
      obtain ⟨ab, an, ac, C⟩ := opAt hA2
      refine ⟨_, _, _, C.c3, newx_var fun a3 h3 v3 k3 e3 s3 => ⟨k3.ext, ?_⟩⟩
      have r3 : Row elTok (fun _ => True) h3 (some a3) 1 1 [tokO l[i]] := v3.row1 (tokR (A := fun _ => True) ((C.row.kb k3).any) C.nil rU80 rL0 rL0) trivial
      refine tokens_calls (lim := 300) r3 (by decide) fun v v0 v1 v2 v3 => vIntMk ⟨(KB.refl _).ext, ?_⟩
      have v2 := v2 (by decide)
      rw [ed]
      refine ⟨rngW (by omega) (by omega), rngW (by omega) (by omega), rngW (by omega) (by omega), ih (i + 1) _ h3 (by omega) (k1.trans k3) (by omega) fun hle2 o ho => ?_⟩
      rw [List.take_add_one, List.getElem?_eq_getElem hil] at ho
      rcases List.mem_append.1 ho with ho | ho
      · exact hw o ho
      · have eo : o = l[i] := by simpa using ho
        subst eo
        have e3 := v3 (by show v <= 300; omega)
        have e4 : toksW [tokO l[i]] = tokW (tokO l[i]) := by unfold toksW; simp
        rw [e4] at e3
        unfold opW
        omega
  exact key n 0 (n : Int) h (by omega) (KB.refl h) (by omega) fun _ o ho => by simp at ho
end
end Go.Proofs
namespace Go.Proofs
open Go Go.Sh
set_option linter.unusedVariables false
set_option maxRecDepth 100000
def endB (ns : List NodeM) : Nat -> Int -> Bool
  | 0, i => decide (i < 0)
  | f + 1, i => decide (i < 0) || endB ns f (parI ns i)
theorem endB_ok {ns : List NodeM} : ∀ {f : Nat} {i : Int}, endB ns f i = true -> endP ns f i
  | 0, i, h => (show i < 0 from of_decide_eq_true (p := i < 0) h)
  | f + 1, i, h => by
    unfold endB at h
    rw [Bool.or_eq_true] at h
    exact h.imp (of_decide_eq_true (p := i < 0)) endB_ok
theorem within_dec {ns : List NodeM} {i x : Int} (N : Nat) (h : endB ns N i = true) : withinP ns i x = decide (x ∈ chainP ns N i) := by
  have hi := inC_iff (x := x) (endB_ok h)
  unfold withinP
  by_cases hx : x ∈ chainP ns N i
  · rw [decide_eq_true hx]; exact @decide_eq_true (InC ns i x) (Classical.propDecidable _) (hi.2 hx)
  · rw [decide_eq_false hx]; exact @decide_eq_false (InC ns i x) (Classical.propDecidable _) (fun h => hx (hi.1 h))
def putC (N : Nat) (ns : List NodeM) (parent before id : Int) : List NodeM × Bool :=
  if holdB ns parent = true /\ (0 <= id /\ id < ns.length) /\ id ≠ 0 /\ before ≠ id /\ 0 <= plcP (((ns[parent.toNat]?).map (·.kids)).getD []) before /\ decide (id ∈ chainP ns N parent) = false then
    (putAt (cutM ns id).1 parent.toNat before id.toNat, true)
  else (ns, false)
theorem putM_C {ns : List NodeM} {p b i : Int} (N : Nat) (h : endB ns N p = true) : putM ns p b i = putC N ns p b i := by
  unfold putM putC; rw [within_dec N h]
def moveC (N : Nat) (ns : List NodeM) (f d : Int) : List NodeM × Bool :=
  if (0 <= f /\ f < ns.length) /\ holdB ns d = true /\ (((ns[f.toNat]?).map (·.kids)).getD []) ≠ [] /\ decide (f ∈ chainP ns N d) = false then
    (moveAt ns f.toNat d.toNat (((ns[f.toNat]?).map (·.kids)).getD []) (((ns[d.toNat]?).map (·.kids)).getD []), true)
  else (ns, false)
theorem moveM_C {ns : List NodeM} {f d : Int} (N : Nat) (h : endB ns N d = true) : moveM ns f d = moveC N ns f d := by
  unfold moveM moveC; rw [within_dec N h]
abbrev nd (k : Int) (nm tx : Bs) (p : Int) (ks : List Int) : NodeM := ⟨k, 0, nm, [], tx, p, ks⟩
abbrev oHt : OpenP := (0, 0, wHtml, 0)
def q1 : WM := ⟨[nd 0 [] [] (-1) [1], nd 1 [98] [] 0 []], [oHt, (1, 0, [98], 0)], [], false, 2⟩
def q2 : WM := { q1 with mks := [(1, [98], [])] }
def q3 : WM := ⟨[nd 0 [] [] (-1) [1], nd 1 [98] [] 0 [2], nd 2 [] [49] 1 []], [oHt, (1, 0, [98], 0)], [(1, [98], [])], false, 2⟩
def q4 : WM := ⟨[nd 0 [] [] (-1) [1], nd 1 [98] [] 0 [2, 3], nd 2 [] [49] 1 [], nd 1 [112] [] 1 []], [oHt, (1, 0, [98], 0), (3, 0, [112], 0)], [(1, [98], [])], false, 3⟩
def q5 : WM := ⟨[nd 0 [] [] (-1) [1], nd 1 [98] [] 0 [2, 3], nd 2 [] [49] 1 [], nd 1 [112] [] 1 [4], nd 2 [] [50] 3 []], [oHt, (1, 0, [98], 0), (3, 0, [112], 0)], [(1, [98], [])], false, 3⟩
def q6 : WM := ⟨[nd 0 [] [] (-1) [1, 3], nd 1 [98] [] 0 [2], nd 2 [] [49] 1 [], nd 1 [112] [] 0 [4], nd 2 [] [50] 3 []], [oHt, (1, 0, [98], 0), (3, 0, [112], 0)], [(1, [98], [])], false, 3⟩
def q7 : WM := ⟨[nd 0 [] [] (-1) [1, 3], nd 1 [98] [] 0 [2], nd 2 [] [49] 1 [], nd 1 [112] [] 0 [5], nd 2 [] [50] 5 [], nd 1 [98] [] 3 [4]], [oHt, (3, 0, [112], 0), (5, 0, [98], 0)], [(5, [98], [])], false, 3⟩
def q8 : WM := { q7 with op := [oHt, (3, 0, [112], 0)], mks := [] }
theorem kq1 : insertM wm0 0 [98] [] = q1 := by
  unfold insertM
  rw [putM_C 3 (by decide +kernel)]
  rfl
theorem kq3 : writeW q2 [49] = q3 := by
  unfold writeW
  have e : putM (addM q2.ns (bareM 2 0 [] [] [49])).1 1 (-1) (addM q2.ns (bareM 2 0 [] [] [49])).2 = (q3.ns, true) := by
    rw [putM_C 4 (by decide +kernel)]; rfl
  have hw : whereC q2 = (1, -1) := by decide +kernel
  rw [hw]
  unfold writeM
  rw [if_neg (fun h => h ⟨by decide +kernel, by decide +kernel⟩), if_neg (by decide)]
  have : (putM (addM q2.ns (bareM 2 0 [] [] [49])).1 1 (-1) (addM q2.ns (bareM 2 0 [] [] [49])).2).1 = q3.ns := by rw [e]
  show (⟨_, _, _, _, _⟩ : WM) = _
  unfold q3
  congr 1
theorem kq4 : insertM q3 0 [112] [] = q4 := by
  unfold insertM
  rw [putM_C 5 (by decide +kernel)]
  rfl
theorem kq5 : writeW q4 [50] = q5 := by
  unfold writeW
  have e : putM (addM q4.ns (bareM 2 0 [] [] [50])).1 3 (-1) (addM q4.ns (bareM 2 0 [] [] [50])).2 = (q5.ns, true) := by
    rw [putM_C 6 (by decide +kernel)]; rfl
  have hw : whereC q4 = (3, -1) := by decide +kernel
  rw [hw]
  unfold writeM
  rw [if_neg (fun h => h ⟨by decide +kernel, by decide +kernel⟩), if_neg (by decide)]
  have : (putM (addM q4.ns (bareM 2 0 [] [] [50])).1 3 (-1) (addM q4.ns (bareM 2 0 [] [] [50])).2).1 = q5.ns := by rw [e]
  show (⟨_, _, _, _, _⟩ : WM) = _
  unfold q5
  congr 1
theorem kq6 : overM q5 1 0 1 2 = q7 := by
  have ec : climbN 3 1 2 0 q5 3 0 = (q5, 3, 0) := by unfold climbN; rfl
  have ep : putM q5.ns 0 (-1) 3 = (q6.ns, true) := by rw [putM_C 6 (by decide +kernel)]; rfl
  have em : moveM (copyM q6.ns 1).1 3 5 = ((moveC 6 (copyM q6.ns 1).1 3 5).1, true) := by rw [moveM_C 6 (by decide +kernel)]; rfl
  have e2 : putM (moveC 6 (copyM q6.ns 1).1 3 5).1 3 (-1) 5 = (q7.ns, true) := by rw [putM_C 6 (by decide +kernel)]; rfl
  have er : renewM q6 1 3 0 = q7 := by
    have hid : (copyM q6.ns 1).2 = 5 := rfl
    unfold renewM
    simp only [hid, em, e2]
    rfl
  have hb : (q5.op.getD 2 noOpen).1 = 3 := rfl
  have hw : whereM q5.ns q5.op q5.fo (q5.op.getD 0 noOpen) = (0, -1) := by decide +kernel
  unfold overM
  simp only [hb, ec, hw, ep]
  exact er
theorem kq_round1 : roundM q5 0 = (q7, true) := by
  have h1 : (q5.mks.getD 0 noMark).1 = 1 := rfl
  have h2 : atO q5.op 1 = 1 := by decide +kernel
  have h3 : scopedP (q5.op.drop 2) = true := by decide +kernel
  have h4 : idxQ (q5.op.drop 2) specO = 0 := by decide +kernel
  unfold roundM
  simp only [h1, h2]
  rw [if_neg (by decide), if_neg (by show ¬ scopedP (q5.op.drop 2) = false; rw [h3]; decide), if_neg (by show ¬ idxQ (q5.op.drop 2) specO < 0; rw [h4]; decide)]
  show (overM q5 1 0 1 ((idxQ (q5.op.drop 2) specO).toNat + 2), true) = _
  rw [h4]
  show (overM q5 1 0 1 2, true) = _
  rw [kq6]
theorem kq_round2 : roundM q7 0 = (q8, false) := by
  have h1 : (q7.mks.getD 0 noMark).1 = 5 := rfl
  have h2 : atO q7.op 5 = 2 := by decide +kernel
  have h3 : scopedP (q7.op.drop 3) = true := by decide +kernel
  have h4 : idxQ (q7.op.drop 3) specO = -1 := by decide +kernel
  unfold roundM
  simp only [h1, h2]
  rw [if_neg (by decide), if_neg (by show ¬ scopedP (q7.op.drop 3) = false; rw [h3]; decide), if_pos (by show idxQ (q7.op.drop 3) specO < 0; rw [h4]; decide)]
  rfl
theorem kq_run1 : runM q5 [98] = (q8, true) := by
  unfold runM
  rw [if_neg (by decide +kernel)]
  unfold roundsM
  have l1 : lastP q5.mks [98] = 0 := by decide +kernel
  rw [l1, if_neg (by decide)]
  show (if (roundM q5 0).2 = true then roundsM [98] 7 (roundM q5 0).1 else ((roundM q5 0).1, true)) = _
  rw [kq_round1, if_pos rfl]
  unfold roundsM
  have l2 : lastP q7.mks [98] = 0 := by decide +kernel
  show (if lastP q7.mks [98] < 0 then (q7, false) else if (roundM q7 (lastP q7.mks [98]).toNat).2 = true then roundsM [98] 6 (roundM q7 (lastP q7.mks [98]).toNat).1 else ((roundM q7 (lastP q7.mks [98]).toNat).1, true)) = _
  rw [l2, if_neg (by decide)]
  show (if (roundM q7 0).2 = true then roundsM [98] 6 (roundM q7 0).1 else ((roundM q7 0).1, true)) = _
  rw [kq_round2]
  rfl
theorem kq_run2 : runM q8 [105] = (q8, false) := by
  unfold runM
  rw [if_neg (by decide +kernel)]
  unfold roundsM
  rw [if_pos (by decide +kernel)]
theorem kq_close : closeA q8 [120] = q8 := by
  have : clTo q8.op [120] 2 = 0 := by decide +kernel
  unfold closeA
  show closeW q8 (clTo q8.op [120] 2 : Nat) = q8
  rw [this]
  rfl
theorem kq_whole : wholeL 4 q8.ns 0 = [.mk 1 0 [98] [] [] [.mk 2 0 [] [] [49] []], .mk 1 0 [112] [] [] [.mk 1 0 [98] [] [] [.mk 2 0 [] [] [50] []]]] := rfl
end Go.Proofs
namespace Go.Proofs
open Go Go.Sh
set_option linter.unusedVariables false
set_option maxRecDepth 100000
section
variable {d : Nat} {A : Nat -> Prop} {h : H} {a : Addr} {x : NodeV}
theorem nodeParts (hA : At (elNode (d + 1)) A h a x) : ∃ kb kn kc, cell h (a.add 2) = some (S x.name) /\ cell h (a.add 5) = some (.slice kb kn kc) /\ Row (elNode d) A h kb kn kc x.kids := by
  obtain ⟨_, cs, hR, hc⟩ := hA
  obtain ⟨ab, an, ac, kb, kn, kc, rfl, ra, hz, rk, hz2, r1, r2, r3, r4⟩ := nodeR_inv hR
  exact ⟨kb, kn, kc, hc 2 _ rfl, hc 5 _ rfl, rk⟩
theorem _root_.Go.Sh.Var.ownA1 {α : Type} {E : El α} {A : Nat -> Prop} {h : H} {a : Addr} {t base : Nat} {cs : List Value} {x : α} (v : Var h a t cs) (hR : E.R A h x cs) (hb : base <= a.block) : OwnA E A h base t (some a) 1 1 [x] := by
  have hl := E.len _ _ _ _ hR
  refine ⟨⟨rfl, cs, ⟨by rw [hl]; simp, Nat.le_refl _, by decide, .inr ⟨a.block, ⟨cs⟩, congrArg some v.is, hb, v.cells, by simp [hl], by rw [Nat.one_mul, <- hl]; exact List.take_length⟩⟩, ⟨cs, [], by simp, hR, rfl⟩⟩, fun q e => by cases e; exact hb, fun q e => by cases e; exact v.lt, fun e => by cases e⟩
end
section
variable {h : H} {K : Value -> H -> Prop} {col : Col} {w : Addr} {m : WM}
theorem ExtP.kb0 {Z : Nat -> Prop} {h h' : H} {col' : Col} (e : ExtP Z h (fun _ => none) h' col') : KB h h' := e.sk.less fun k hk => ⟨hk, fun s p _ e2 => by cases e2⟩
theorem row_nilF {A : Nat -> Prop} {h : H} : Row elAttr A h none 0 0 [] := ⟨rfl, Nat.le_refl _, Nat.zero_le _, fun i x hx => by simp at hx⟩
theorem attrsW_nil : AttrsW [] := fun a h => by cases h
theorem TextB.all {ns : List NodeM} {x n : Nat} (T : TextB ns x) (h : x + n <= 1000000000) : ∀ (i : Nat) z, ns[i]? = some z -> z.text.length + n <= 9223372036854775807 := fun i z hz => by
  have := T i z hz
  omega
theorem known_calls (ml : ML h) (hk : ∀ h', KB h h' -> K (.bool true) h') : HCalls Tryz.prog 5 ⟨[]⟩ h K := by
  have L : Lib0 h (fun _ => none) := ⟨ml, rfl⟩
  refine Sx.l14_known.ok _ _ (placeNew_calls (col := fun _ => none) (fun _ _ => rfl) fun w h1 c1 p1 E1 => vPtrMk (ptrEq_k (by kernel_rfl) (vBool_mk (condF (vSomeMk ?_)))))
  have A1 := AI.zero
  obtain ⟨t, ads, T, W⟩ := p1.ex
  obtain ⟨ob, oc, mb, mn, mc, v, o, om⟩ := W.ex
  refine ⟨_, v.cell 0 rfl, ptrEq_k (by kernel_rfl) (vBool_mk (condF ?_))⟩
  have L1 := L.ext E1
  refine insert_calls L1 p1 A1.D.G (by decide) (by decide) (by decide) row_nilF (fun _ => rfl) (by decide) attrsW_nil ⟨by decide, by decide⟩ ⟨by decide, by decide⟩ (by decide) fun h2 c2 p2 E2 => vIntMk ?_
  have A2 := A1.insert 0 (nm := [98]) (by decide) []
  rw [kq1] at A2
  have e1 : insertM wm0 0 [98] [] = q1 := kq1
  rw [e1] at p2
  refine newx_var fun a31 h3 v3 k3 e3 s3 => vSomeMk ?_
  obtain ⟨t2, ads2, T2, W2⟩ := p2.ex
  have hR3 : MarkR (Free c2 h2) h3 (1, [98], []) none 0 0 := markR row_nilF (fun _ => rfl) ⟨by decide, by decide⟩ (by decide)
  have o3 := v3.ownA1 (E := elMark) (base := h2.size) hR3 (by omega)
  refine setMarks_k W2 p2.fresh k3 o3 fun h4 W4 E4 f4 _ => ?_
  have p4 : PW h4 (putB c2 h2 (some a31) (2, 2)) w q2 := ⟨t2, ads2, T2.otherP (S := fun k => k = 2) (by decide) E4 f4, W4⟩
  have A4 : AI q2 2 1 0 := A2.mono (v' := 1) (by decide) (by decide) (Nat.le_refl _) |>.marks (l := [(1, [98], [])]) (by decide) (fun y hy => by rw [List.mem_singleton.1 hy]; exact ⟨by decide, by decide, fun a h => nomatch h⟩) (fun y hy => by rw [List.mem_singleton.1 hy]; decide)
  have E24 := E1.trans (E2.trans (E4.mono (S' := PS) fun s hs => .inr hs))
  refine write_callsW p4 A4.D.G (by decide) (by decide) (by decide) (A4.D.tx.all (by decide)) (by decide) fun h5 c5 p5 E5 => ?_
  have A5 := A4.write (tx := [49]) (by decide)
  rw [kq3] at p5 A5
  have L5 := ((L.ext E24).ext E5)
  refine insert_calls L5 p5 A5.D.G (by decide) (by decide) (by decide) row_nilF (fun _ => rfl) (by decide) attrsW_nil ⟨by decide, by decide⟩ ⟨by decide, by decide⟩ (by decide) fun h7 c7 p7 E7 => vIntMk ?_
  have A7 := A5.insert 0 (nm := [112]) (by decide) []
  rw [kq4] at p7 A7
  refine write_callsW p7 A7.D.G (by decide) (by decide) (by decide) (A7.D.tx.all (by decide)) (by decide) fun h8 c8 p8 E8 => ?_
  have A8 := A7.write (tx := [50]) (by decide)
  rw [kq5] at p8 A8
  have E08 := (((E24.trans E5).trans E7).trans E8)
  have L8 := L.ext E08
  refine run_calls L8 p8 A8 (by decide) (by decide) fun h9 c9 p9 E9 => vBool_mk ?_
  have A9 := A8.run [98]
  rw [kq_run1] at p9 A9 ⊢
  refine condT ?_
  refine run_calls (L8.ext E9) p9 A9 (by decide) (by decide) fun h10 c10 p10 E10 => vBool_mk ?_
  have A10 := A9.run [105]
  rw [kq_run2] at p10 A10 ⊢
  refine condF ?_
  refine adClose_calls (L8.ext (E9.trans E10)) p10 (by decide) (fun y hy => by have := A10.nml y hy; omega) fun h11 c11 p11 E11 => ?_
  rw [kq_close] at p11
  have E := ((E08.pa.trans E9).trans E10).trans E11.pa
  obtain ⟨t8, ads8, T8, W8⟩ := p11.ex
  obtain ⟨ob8, oc8, mb8, mn8, mc8, v8, o8, om8⟩ := W8.ex
  have hd : Deep 4 q8.ns 0 := by
    have e : ∀ id k, k ∈ kidsI q8.ns id -> id = 0 /\ (k = 1 ∨ k = 3) ∨ id = 1 /\ k = 2 ∨ id = 3 /\ k = 5 ∨ id = 5 /\ k = 4 := by
      intro id k hk
      unfold kidsI at hk
      by_cases h0 : 0 <= id
      · rw [if_pos h0] at hk
        obtain ⟨j, rfl⟩ := Int.eq_ofNat_of_zero_le h0
        rw [Int.toNat_natCast] at hk
        match j, hk with
        | 0, hk => have hk : k ∈ ([1, 3] : List Int) := hk; simp at hk; left; exact ⟨rfl, hk⟩
        | 1, hk => have hk : k ∈ ([2] : List Int) := hk; simp at hk; right; left; exact ⟨rfl, hk⟩
        | 2, hk => have hk : k ∈ ([] : List Int) := hk; cases hk
        | 3, hk => have hk : k ∈ ([5] : List Int) := hk; simp at hk; right; right; left; exact ⟨rfl, hk⟩
        | 4, hk => have hk : k ∈ ([] : List Int) := hk; cases hk
        | 5, hk => have hk : k ∈ ([4] : List Int) := hk; simp at hk; right; right; right; exact ⟨rfl, hk⟩
        | j + 6, hk => have hk : k ∈ ([] : List Int) := hk; cases hk
      · rw [if_neg h0] at hk; cases hk
    intro k1 h1 k2 h2 k3 h3 k4 h4
    have a1 := e _ _ h1
    have a2 := e _ _ h2
    have a3 := e _ _ h3
    have a4 := e _ _ h4
    exfalso
    omega
  refine vSomeMk ⟨_, v8.cell 0 rfl, whole_calls A10.D.G 4 0 T8 hd fun h12 b12 n12 c12 k12 o12 => vSliceMk ?_⟩
  rw [kq_whole] at o12
  have r9 := o12.row
  have hl9 := r9.len
  have hn9 : n12 = 2 := by simpa using hl9.symm
  have v9 := v8.kb k12
  refine condT (condF (splT (by omega) (r9.idxN (i := 1) (by decide) rfl fun q1' A1 => ?_)))
  obtain ⟨kb1, kn1, kc1, t1, s1, rk1⟩ := nodeParts A1
  have hk1 : kn1 = 1 := by have := rk1.len; simpa [NodeV.kids] using this.symm
  refine ⟨_, t1, splT rfl (r9.idxN (i := 1) (by decide) rfl fun q2' A2 => ?_)⟩
  obtain ⟨kb2, kn2, kc2, _, s2, rk2⟩ := nodeParts A2
  have hk2 : kn2 = 1 := by have := rk2.len; simpa [NodeV.kids] using this.symm
  refine ⟨_, _, _, s2, splT (by omega) (r9.idxN (i := 1) (by decide) rfl fun q3' A3 => ?_)⟩
  obtain ⟨kb3, kn3, kc3, _, s3, rk3⟩ := nodeParts A3
  refine ⟨_, _, _, s3, rk3.idxN (i := 0) (by decide) rfl fun q4' A4 => ?_⟩
  obtain ⟨kb4, kn4, kc4, t4, _, _⟩ := nodeParts A4
  refine ⟨_, t4, splT rfl (vSomeMk ⟨_, _, _, v9.cell 1 rfl, splT rfl ?_⟩)⟩
  exact hk h12 (E.kb0.trans k12)
end
end Go.Proofs
namespace Go.Proofs
open Go Go.Sh
set_option linter.unusedVariables false
set_option maxRecDepth 100000
theorem scan2 (f : Nat -> OpenP -> Option Bool) (a x : OpenP) : scan f false [a, x] = match f 1 x with | some r => r | none => match f 0 a with | some r => r | none => false := by
  unfold scan
  simp only [List.length_cons, List.length_nil, scanTo]
  rw [show ([a, x].getD 1 (0, 0, [], 0)) = x from rfl, show ([a, x].getD 0 (0, 0, [], 0)) = a from rfl]
  cases f 1 x with
  | none => cases f 0 a <;> rfl
  | some r => rfl
theorem inP_two {a x : OpenP} {ns : List Bs} (ha : oneP a ns = true) (hb : oneP x ns = true -> boundsP x 0 = false) : inP [a, x] 0 ns = !boundsP x 0 := by
  unfold inP
  rw [scan2]
  unfold inF
  by_cases h : oneP x ns = true
  · rw [if_pos h, hb h]; rfl
  · rw [if_neg h]
    by_cases h2 : boundsP x 0 = true
    · rw [if_pos h2, h2]; rfl
    · rw [if_neg h2, ha]
      have h3 : boundsP x 0 = false := by simpa using h2
      rw [h3]; rfl
theorem bounds_one {x : OpenP} {w : Bs} (hw : inNames wBnd w = false) (h : oneP x [w] = true) : boundsP x 0 = false := by
  unfold oneP at h
  rw [Bool.and_eq_true] at h
  have h1 : x.2.1 = 0 := of_decide_eq_true h.1
  have h2 : x.2.2.1 = w := by have := of_decide_eq_true h.2; simpa using this
  rw [boundsP_html (by decide) h1, h2, hw]
  rfl
def wP : List Bs := [[112]]
theorem freeO_eq (x : OpenP) : freeO x = !boundsP x 0 := inP_two (by decide) (bounds_one (by decide))
theorem freeP_eq (x : OpenP) : inP [(0, 0, [112], 0), x] 0 wP = !boundsP x 0 := inP_two (by decide) (bounds_one (by decide))
section
variable {A : Nat -> Prop} {h h' : H} {K : Value -> H -> Prop} {col col' : Col} {w : Addr} {m : WM} {nm : Bs} {f bk : Int} {u v x : Nat} {b : Option Addr} {n c : Nat}
theorem refPlace_calls (p : RW h col w m) (hl : m.op.length <= 1000000) {id : Int} (hk : K (.int .i64 (atO m.op id)) h) : HCalls Tryz.prog 48 ⟨[.pointer (some w), .int .i64 id]⟩ h K := by
  obtain ⟨t, T, W⟩ := p.ex
  obtain ⟨ob, oc, mb, mn, mc, v, o, om⟩ := W.ex
  refine Sx.r14_place.ok _ _ _ _ ⟨m.op.length + 1, ?_⟩
  have key : ∀ N i, i + N = m.op.length -> (∀ j (h1 : j < m.op.length), j < i -> decide (m.op[j].1 = id) = false) ->
      Sx.r14_place.n6_L (fun h => K (.int .i64 (-1)) h) (fun h => K (.int .i64 (-1)) h) (fun y4 h => K (.int .i64 y4) h) (N + 1) (some w) id (i : Int) h := by
    intro N
    induction N with
    | zero =>
      intro i hi hall
      unfold Sx.r14_place.n6_L LP Sx.r14_place.n6_B
      refine vSomeMk ⟨_, _, _, v.cell 1 rfl, splF (by omega) ?_⟩
      have e : atO m.op id = -1 := idxQ_none fun j hj => hall j hj (by omega)
      rwa [e] at hk
    | succ N ih =>
      intro i hi hall
      have hil : i < m.op.length := by omega
      unfold Sx.r14_place.n6_L LP Sx.r14_place.n6_B
      refine vSomeMk ⟨_, _, _, v.cell 1 rfl, splT (by omega) (vSomeMk ⟨_, _, _, v.cell 1 rfl, o.row.idxN hil rfl fun q hA => ⟨_, hA.fst.int.1, spl (fun e => ?_) fun e => ⟨rng64 (by omega) (by omega), ih (i + 1) (by omega) fun j h1 hj => ?_⟩⟩⟩)⟩
      · have e2 : atO m.op id = (i : Int) := idxQ_some hil (decide_eq_true e) hall
        rwa [e2] at hk
      · by_cases e2 : j < i
        · exact hall j h1 e2
        · have : j = i := by omega
          subst this
          exact decide_eq_false e
  exact key m.op.length 0 (by omega) fun j _ hj => absurd hj (Nat.not_lt_zero _)
theorem refAdClose_calls (p : RW h col w m) (hop : m.op.length <= 1000000) (hk : ∀ h' col', RW h' col' w (closeA m nm) -> ExtP RS h col h' col' -> K (.tuple ⟨[]⟩) h') :
    HCalls Tryz.prog 18 ⟨[.pointer (some w), S nm]⟩ h K := by
  obtain ⟨t, T, W⟩ := p.ex
  obtain ⟨ob, oc, mb, mn, mc, v, o, om⟩ := W.ex
  refine Sx.r14_Close.ok _ _ _ _ (vSomeMk ⟨_, _, _, v.cell 1 rfl, rng64 (by omega) (by omega), m.op.length + 1, ?_⟩)
  obtain ⟨res, hres⟩ : ∃ r, clTo m.op nm m.op.length = r := ⟨_, rfl⟩
  have fin0 : res = 0 -> ∀ h', KB h h' -> K (.tuple ⟨[]⟩) h' := fun e h' k' => by
    have e2 : closeA m nm = m := by unfold closeA closeW closeO; rw [hres, e, if_neg (by omega)]
    exact hk h' col (by rw [e2]; exact p.kb k') (.kb k')
  have key : ∀ i h2, i <= m.op.length -> KB h h2 -> clTo m.op nm i = res ->
      Sx.r14_Close.n3_L (fun h => K (.tuple ⟨[]⟩) h) (fun h => K (.tuple ⟨[]⟩) h) (fun h => K (.tuple ⟨[]⟩) h) (i + 1) (some w) nm ((i : Int) - 1) h2 := by
    intro i
    induction i with
    | zero =>
      intro h2 hi k2 e
      unfold Sx.r14_Close.n3_L LP Sx.r14_Close.n3_B
      exact splF (by omega) (fin0 e.symm h2 k2)
    | succ i ih =>
      intro h2 hi k2 e
      unfold Sx.r14_Close.n3_L LP Sx.r14_Close.n3_B
      have e0 : (((i + 1 : Nat) : Int) - 1) = (i : Int) := by omega
      rw [e0]
      have hil : i < m.op.length := by omega
      unfold clTo at e
      refine spl (fun h0 => ?_) fun h0 => ?_
      rotate_left
      · rw [if_pos (by omega)] at e
        exact fin0 e.symm h2 k2
      rw [if_neg (by omega), getD_get hil] at e
      refine vSomeMk ⟨_, _, _, (v.kb k2).cell 1 rfl, (o.kb k2).row.idxN hil rfl fun q hA => ldOpen hA fun ow => newx_var fun a5 h3 v3 k3 e3 s3 => stL_var0 v3 (by show 4 <= 4; omega) fun h4 v4 k4 s4 => ?_⟩
      have k24 : KB h2 h4 := KB.step k3 k4 (by omega)
      have k04 := k2.trans k24
      have v4 : Var h4 a5 60 (cellsO m.op[i]) := v4
      have spec : isN m.op[i] nm = false -> Sx.r14_Close.n10 (some w) nm (i : Int) a5 (fun z0 z1 z4 h => Sx.r14_Close.n6 z0 z1 z4 (Sx.r14_Close.n3_L (fun h => K (.tuple ⟨[]⟩) h) (fun h => K (.tuple ⟨[]⟩) h) (fun h => K (.tuple ⟨[]⟩) h) (i + 1)) (fun h => K (.tuple ⟨[]⟩) h) (fun h => K (.tuple ⟨[]⟩) h) h) (fun z0 z1 z4 h => Sx.r14_Close.n6 z0 z1 z4 (Sx.r14_Close.n3_L (fun h => K (.tuple ⟨[]⟩) h) (fun h => K (.tuple ⟨[]⟩) h) (fun h => K (.tuple ⟨[]⟩) h) (i + 1)) (fun h => K (.tuple ⟨[]⟩) h) (fun h => K (.tuple ⟨[]⟩) h) h) (fun h => K (.tuple ⟨[]⟩) h) (fun h => K (.tuple ⟨[]⟩) h) h4 := fun hno => by
        rw [if_neg (by rw [hno]; decide)] at e
        refine ⟨_, v4.cell 1 rfl, _, v4.cell 2 rfl, refSpecial_calls fun h5 k5 => vBool_mk (condB (fun eb => ?_) fun eb => ⟨rng64 (by omega) (by omega), ?_⟩)⟩
        · have eb : specO m.op[i] = true := eb
          rw [if_pos eb] at e
          exact fin0 e.symm h5 (k04.trans k5)
        · have eb : specO m.op[i] = false := eb
          rw [if_neg (by rw [eb]; decide)] at e
          exact ih h5 (by omega) (k04.trans k5) e
      have hmy : ∀ b : Bool, isN m.op[i] nm = b -> (decide (m.op[i].2.1 = 0) && decide (m.op[i].2.2.1 = nm)) = b := fun b h => h
      refine ⟨_, v4.cell 1 rfl, spl (fun ez => ⟨_, v4.cell 2 rfl, spl (fun en => condT ?_) fun en => condF (spec ?_)⟩) fun ez => condF (spec ?_)⟩
      · have hyes : isN m.op[i] nm = true := by unfold isN; rw [decide_eq_true ez, decide_eq_true en]; rfl
        rw [if_pos hyes] at e
        have o4 := o.kb k04
        refine vSomeMk ⟨_, _, _, (v.kb k04).cell 1 rfl, refImplied_calls o4.row fun h5 k5 => vIntMk ⟨rng64 (by omega) (by omega), ?_⟩⟩
        refine refClose_calls (p.kb (k04.trans k5)) fun h6 c6 p6 E6 => refClose_calls p6 fun h7 c7 p7 E7 => ?_
        refine hk h7 c7 ?_ ((ExtP.kb (k04.trans k5)).trans (E6.trans E7))
        have e2 : closeW (closeW m (if ((i : Int) + (1 : Int)) > impliedP m.op nm then ((i : Int) + (1 : Int)) else impliedP m.op nm)) (i : Int) = closeA m nm := by
          unfold closeA closeW
          rw [hres, <- e]
          obtain ⟨j, hj⟩ : ∃ j, (if ((i : Int) + (1 : Int)) > impliedP m.op nm then ((i : Int) + (1 : Int)) else impliedP m.op nm) = j := ⟨_, rfl⟩
          have hji : (i : Int) + 1 <= j := by rw [<- hj]; split <;> omega
          rw [hj]
          have : closeO (closeO m.op j) (i : Int) = closeO m.op (i : Int) := by
            unfold closeO
            by_cases hc : 1 <= j /\ j < (m.op.length : Int)
            · rw [if_pos hc]
              have hl : (m.op.take j.toNat).length = j.toNat := by rw [List.length_take]; omega
              rw [hl, if_pos (by omega), if_pos (by omega), List.take_take, Int.toNat_natCast, Nat.min_eq_left (by omega)]
            · rw [if_neg hc]
          rw [this]
        rw [e2] at p7
        exact p7
      · unfold isN; rw [decide_eq_false en, Bool.and_false]
      · unfold isN; rw [decide_eq_false ez, Bool.false_and]
  have e1 : ((m.op.length : Int) - (1 : Int)) = (m.op.length : Int) - 1 := rfl
  exact key m.op.length h (Nat.le_refl _) (KB.refl h) hres
theorem refScoped_calls (p : RW h col w m) (hop : m.op.length <= 1000000) (hnm : ∀ x ∈ m.op, x.2.2.1.length <= 1000000000) {i0 : Nat} (hi0 : i0 < m.op.length) (hk : ∀ h', KB h h' -> K (.bool (scopedP (m.op.drop (i0 + 1)))) h') :
    HCalls Tryz.prog 50 ⟨[.pointer (some w), .int .i64 (i0 : Int)]⟩ h K := by
  obtain ⟨t, T, W⟩ := p.ex
  obtain ⟨ob, oc, mb, mn, mc, v, o, om⟩ := W.ex
  have hcap := o.cap
  refine Sx.r14_scoped.ok _ _ _ _ (vSomeMk ⟨_, _, _, v.cell 1 rfl, rng64 (by omega) (by omega), m.op.length - 1 - i0 + 1, ?_⟩)
  have key : ∀ j h2, i0 + j < m.op.length -> KB h h2 -> (m.op.drop (i0 + j + 1)).all freeO = true ->
      Sx.r14_scoped.n6_L (fun h => K (.bool true) h) (fun h => K (.bool true) h) (fun y4 h => K (.bool y4) h) (j + 1) (some w) (i0 : Int) ((i0 + j : Nat) : Int) h2 := by
    intro j
    induction j with
    | zero =>
      intro h2 hj k2 hall
      unfold Sx.r14_scoped.n6_L LP Sx.r14_scoped.n6_B
      refine splF (by omega) ?_
      have := hk h2 k2
      unfold scopedP at this
      rw [Nat.add_zero] at hall
      rwa [hall] at this
    | succ j ih =>
      intro h2 hj k2 hall
      unfold Sx.r14_scoped.n6_L LP Sx.r14_scoped.n6_B
      obtain ⟨i, hi⟩ : ∃ i, i0 + (j + 1) = i := ⟨_, rfl⟩
      rw [hi] at hj hall ⊢
      have e0 : ((i : Int) - (1 : Int)) = ((i0 + j : Nat) : Int) := by omega
      have o2 := o.kb k2
      have hcap2 := o2.cap
      have hmax := hcap2.2
      simp only [maxLen] at hmax
      have hx : m.op[i] ∈ m.op := List.getElem_mem hj
      have hdr : m.op.drop i = m.op[i] :: m.op.drop (i + 1) := List.drop_eq_getElem_cons hj
      refine splT (by omega) (vSomeMk ⟨_, _, _, (v.kb k2).cell 1 rfl, o2.row.idxN hj rfl fun q hA => ldOpen hA fun ow => newx_var fun a6 h3 v3 k3 e3 s3 => stL_var0 v3 (by show 4 <= 4; omega) fun h4 v4 k4 s4 => ?_⟩)
      have k24 : KB h2 h4 := KB.step k3 k4 (by omega)
      have k04 := k2.trans k24
      have v4 : Var h4 a6 60 (cellsO m.op[i]) := v4
      refine vSomeMk ⟨_, _, _, (v.kb k04).cell 1 rfl, rng64 (by omega) (by omega), ⟨by omega, by omega, by omega⟩, ?_⟩
      have o4 := o.kb k04
      have r0 : Row elOpen (Bel h4.size) h4 (if oc = i then ob else Option.map (fun q => q.add (i * 4)) ob) (i + 1 - i) (oc - i) ((m.op.take (i + 1)).drop i) := o4.row.sub (lo := i) (hi := i + 1) (by omega) (by omega) rfl
      have e1 : (m.op.take (i + 1)).drop i = [m.op[i]] := by
        rw [List.take_succ_eq_append_getElem hj, List.drop_append_of_le_length (by rw [List.length_take]; omega), List.drop_of_length_le (by rw [List.length_take]; omega), List.nil_append]
      have e2 : i + 1 - i = 1 := by omega
      rw [e1, e2] at r0
      have e3 : Int.toNat ((i : Int) + 1) - Int.toNat (i : Int) = 1 := by omega
      have e4 : Int.toNat (i : Int) = i := rfl
      rw [e3, e4]
      refine r0.idxN (i := 0) (Nat.succ_pos 0) rfl fun q hA => ldOpen hA fun ow => newx_var fun a8 h8 v8 k8 e8 s8 => newx_var (cs := wP.map S) fun a10 h10 v10 k10 e10 s10 => ?_
      have ow0 : OpenW (0, 0, [112], 0) := ⟨⟨by decide, by decide⟩, ⟨by decide, by decide⟩, by decide, ⟨by decide, by decide⟩⟩
      have r2 : Row elOpen (Bel h10.size) h10 (some a8) 2 2 [(0, 0, [112], 0), m.op[i]] :=
        Row.of (xs := cellsO (0, 0, [112], 0) ++ cellsO m.op[i]) ⟨cellsO (0, 0, [112], 0), _, rfl, ow0.r, cellsO m.op[i], [], by simp, ow.r, rfl⟩ (fun jj x hx => ⟨a8, rfl, (v8.kb k10).cell jj hx⟩) rfl (Nat.le_refl _) (by decide) fun x e => by cases e; exact (v8.kb k10).lt
      refine refIn_calls' (sc := 0) r2 (fun x hx2 => ?_) (rowLit (ws := wP) v10 (by decide) (by decide)) fun h12 k12 => vBool_mk ?_
      · rcases List.mem_cons.1 hx2 with e | e
        · rw [e]; decide
        · rw [List.mem_singleton.1 e]; have := hnm _ hx; omega
      have k0c : KB h h12 := k04.trans ((k8.trans k10).trans k12)
      have v12 := v4.kb ((k8.trans k10).trans k12)
      rw [freeP_eq]
      have hfr := freeO_eq m.op[i]
      refine condB (fun eb => condF ⟨rng64 (by omega) (by omega), ?_⟩) fun eb => condT ?_
      · rw [e0]
        refine ih h12 (by omega) k0c ?_
        rw [show i0 + j + 1 = i by omega, hdr, List.all_cons, hfr, eb, hall]
        rfl
      · have hbd : boundsP m.op[i] 0 = true := by simpa using eb
        have hno : scopedP (m.op.drop (i0 + 1)) = false := by
          unfold scopedP
          have hin : m.op[i] ∈ m.op.drop (i0 + 1) := List.mem_drop_iff_getElem.2 ⟨i - (i0 + 1), by omega, by congr 1; omega⟩
          refine Bool.eq_false_iff.2 fun h => ?_
          have := List.all_eq_true.1 h _ hin
          rw [hfr, hbd] at this
          cases this
        have no : K (.bool false) h12 := by have := hk h12 k0c; rwa [hno] at this
        refine ⟨_, v12.cell 1 rfl, spl (fun ez => ⟨_, v12.cell 2 rfl, spl (fun en => ?_) fun en => no⟩) fun ez => no⟩
        exfalso
        have : boundsP m.op[i] 0 = false := bounds_one (w := [112]) (by decide) (by unfold oneP inNames; rw [decide_eq_true ez, decide_eq_true (by rw [en]; exact List.mem_singleton.2 rfl)]; rfl)
        rw [this] at hbd
        cases hbd
  have ek : ((m.op.length : Int) - (1 : Int)) = ((i0 + (m.op.length - 1 - i0) : Nat) : Int) := by omega
  rw [ek]
  exact key _ h (by omega) (KB.refl h) (by rw [List.drop_of_length_le (by omega)]; rfl)
end
end Go.Proofs
namespace Go.Proofs
open Go Go.Sh
set_option linter.unusedVariables false
set_option maxRecDepth 100000
section
variable {h h' : H} {K : Value -> H -> Prop} {col col' : Col} {s i p : Nat} {t a : Addr} {ns : List NodeM} {x y : NodeM} {lb : Option Addr} {lc : Nat} {rs : List RawN} {r : RawN}
def copyR (ns : List NodeM) (id : Int) : List NodeM × Int := if id = 0 then (ns, -1) else copyM ns id
theorem copy_r (T : RefP h col s t ns) {id : Int} (hfew : ns.length < 1000000) (hk : ∀ h' col', RefP h' col' s t (copyR ns id).1 -> Ext s h col h' col' -> K (.int .i64 (copyR ns id).2) h') :
    HCalls Tryz.prog 95 ⟨[.pointer (some t), .int .i64 id]⟩ h K := by
  refine Sx.r10_Tree_Copy.ok _ _ _ _ (there_r T (vBool_mk (condB (fun e => spl (fun e0 => ?_) fun e0 => ?_) fun e => ?_)))
  · have : copyR ns id = (ns, -1) := by unfold copyR; rw [if_pos e0]
    rw [this] at hk
    exact hk h col T (Ext.refl _ _ _)
  · have e := of_decide_eq_true e
    obtain ⟨i, rfl⟩ := Int.eq_ofNat_of_zero_le e.1
    have hk : ∀ h' col', RefP h' col' s t (copyR ns (i : Int)).1 -> Ext s h col h' col' -> K (.int .i64 (copyR ns (i : Int)).2) h' := hk
    have hx : ns[i]? = some (ns[i]'(by omega)) := List.getElem?_eq_getElem (by omega)
    generalize ns[i]'(by omega) = x at hx
    have ec : copyR ns (i : Int) = addM ns (bareM x.kind x.space x.name x.attrs x.text) := by
      unfold copyR copyM
      rw [if_neg e0, if_pos e, Int.toNat_natCast, hx]; rfl
    rw [ec] at hk
    have T' := T
    obtain ⟨lb, lc, rs, C, em⟩ := T
    obtain ⟨r, hr, rfl⟩ := map_get em hx
    have N := C.nodes i r hr
    have hra := N.ra.len
    have hfa := N.fa
    exact rf_rd C hr fun a hc => ⟨_, hcZ hc 0 rfl, _, hcZ hc 1 rfl, _, hcZ hc 2 rfl, _, _, _, hcZ hc 3 rfl, _, hcZ hc 4 rfl, _, _, _, hcZ hc 5 rfl, make_r T' N.ra (by omega) N.rk N.rs N.fn N.ft hfew fun h' col' T' e' => vIntMk (hk h' col' T' e')⟩
  · have e := of_decide_eq_false e
    have : copyR ns id = (ns, -1) := by unfold copyR copyM; rw [if_neg e]; split <;> rfl
    rw [this] at hk
    exact hk h col T (Ext.refl _ _ _)
end
end Go.Proofs
