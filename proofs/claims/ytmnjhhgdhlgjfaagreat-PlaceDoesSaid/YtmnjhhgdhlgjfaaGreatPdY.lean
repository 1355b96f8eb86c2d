/- place: PlaceDoes. No condition but that the library's variable holds a number. -/
import Derived.Test.YtmnjhhgdhlgjfaaGreatPdX
namespace Go.Proofs
open Go Go.Sh
set_option linter.unusedVariables false
set_option maxRecDepth 100000
section
variable {h h' : H} {K : Value → H → Prop} {col col' : Col} {w r : Addr} {m : WM} {u v x : Nat}
theorem refFoster_k (p : RW h col w m) (b : Bool) {Q : H → Prop} (hk : ∀ h', RW h' col w { m with fo := b } → ExtP RS h col h' col → Q h') : stL (w.add 3) [.bool b] 0 h Q := by
  obtain ⟨t, T, W⟩ := p.ex
  obtain ⟨ob, oc, mb, mn, mc, v, o, om⟩ := W.ex
  refine stL_var (m := 3) (i := 0) v (by show 3 + 0 + 1 ≤ 5; omega) fun h3 v3 k3 s3 => ?_
  have E : ExtP (fun k => k = 3) h col h3 col := ExtP.kx k3 W.col rfl
  have f3 : Fresh h3 col := fun k hk => p.fresh k (by omega)
  have hne : ∀ g q, col g = some (3, q) → q ≠ 0 → g ≠ w.block := fun g q e hq e2 => by rw [e2, W.col] at e; cases e; exact hq rfl
  have ok := o.keep (h' := h3) (col' := col) k3.w (fun _ _ => rfl) fun k hk hc => by
    rcases hc with hc | hc
    · intro e; rw [e, W.col] at hc; cases hc
    · exact hne k 1 hc (by decide)
  have omk := om.keep (h' := h3) (col' := col) k3.w (fun _ _ => rfl) fun k hk hc => by
    rcases hc with hc | hc
    · intro e; rw [e, W.col] at hc; cases hc
    · exact hne k 2 hc (by decide)
  exact hk h3 ⟨t, T.otherP (Z := fun k => k = 3) (by decide) E f3, ⟨⟨ob, oc, mb, mn, mc, v3, ok, omk⟩, W.col, W.rh⟩⟩ (E.mono fun s hs => .inr hs)
/-- Push of the chapter's marks, for the program's World -/
theorem pushW_k (D : PD h col w r m) (hm : m.mks.length ≤ 1000000) {y : MarkP} {ab : Option Addr} {an ac : Nat} (hR : MarkR (Free col h) h y ab an ac) {Q : H → Prop}
    (hk : ∀ h' col', PW h' col' w { m with mks := pushP m.mks y } → RW h' col' r m → ExtP AS h col h' col' → Q h') :
    ∃ b n c, cell h (r.add 2) = some (.slice b n c) ∧ (HCalls Tryz.prog 11 ⟨[.slice b n c, .agg ⟨[.int .i64 y.1, S y.2.1, .slice ab an ac]⟩]⟩ h fun v h1 => vSlice v fun b n c => vSome (some w) fun a => stL (a.add 2) [.slice b n c] 0 h1 Q) := by
  obtain ⟨t2, T2, W2⟩ := D.R.ex
  obtain ⟨ob2, oc2, mb2, mn2, mc2, vr, o2, om2⟩ := W2.ex
  obtain ⟨xs, he, hc, _⟩ := om2.parts
  obtain ⟨t, ads, T, W⟩ := D.P.ex
  have hl := om2.len
  refine ⟨_, _, _, vr.cell 2 rfl, refPush_calls om2.row he hc (fun k hk => hk.2) hR (by omega) fun b' n' c' h1 o1 k1 => vSliceMk (vSomeMk ?_)⟩
  refine setMarks_k W D.P.fresh k1 o1 fun h2 W2' E2 f2 _ => ?_
  exact hk h2 _ ⟨t, ads, T.otherP (S := fun k => k = 2) (by decide) E2 f2, W2'⟩ (D.R.ext (Z := fun k => k = 2) E2 (by decide) (by decide) f2) (E2.mono fun s hs => .inl (.inr hs))
/-- ... for its own -/
theorem pushR_k (R : RW h col r m) (hm : m.mks.length ≤ 1000000) {y : MarkP} {ab : Option Addr} {an ac : Nat} (hR : MarkR (Free col h) h y ab an ac) {Q : H → Prop}
    (hk : ∀ h' col', RW h' col' r { m with mks := pushP m.mks y } → ExtP RS h col h' col' → Q h') :
    ∃ b n c, cell h (r.add 2) = some (.slice b n c) ∧ (HCalls Tryz.prog 11 ⟨[.slice b n c, .agg ⟨[.int .i64 y.1, S y.2.1, .slice ab an ac]⟩]⟩ h fun v h1 => vSlice v fun b n c => vSome (some r) fun a => stL (a.add 2) [.slice b n c] 0 h1 Q) := by
  obtain ⟨t2, T2, W2⟩ := R.ex
  obtain ⟨ob2, oc2, mb2, mn2, mc2, vr, o2, om2⟩ := W2.ex
  obtain ⟨xs, he, hc, _⟩ := om2.parts
  have hl := om2.len
  refine ⟨_, _, _, vr.cell 2 rfl, refPush_calls om2.row he hc (fun k hk => hk.2) hR (by omega) fun b' n' c' h1 o1 k1 => vSliceMk (vSomeMk ?_)⟩
  refine setMarks_k W2 R.fresh k1 o1 fun h2 W2' E2 f2 _ => ?_
  exact hk h2 _ ⟨t2, T2.otherP (Z := fun k => k = 3) (by decide) E2 f2, W2'⟩ (E2.mono fun s hs => .inr hs)
theorem ExtP.mark {Z : Nat → Prop} (E : ExtP Z h col h' col') {y : MarkP} {ab : Option Addr} {an ac : Nat} (hR : MarkR (Free col h) h y ab an ac) : MarkR (Free col' h') h' y ab an ac := by
  have hi := hR.inv
  exact markR (E.row hi.1) hi.2.1 hi.2.2.1 hi.2.2.2
/-- a mark is pushed in both -/
theorem pushBoth_k (D : PD h col w r m) (hm : m.mks.length ≤ 1000000) {y : MarkP} {ab : Option Addr} {an ac : Nat} (hR : MarkR (Free col h) h y ab an ac) {a : Addr} {ty : Nat} (va : Var h a ty [.int .i64 y.1, S y.2.1, .slice ab an ac]) (ha : col a.block = none) {Q : H → Prop}
    (hk : ∀ h' col', PD h' col' w r { m with mks := pushP m.mks y } → ExtP AS h col h' col' → Q h') :
    vSome (some r) fun a196 => ∃ s197b s197n s197c, cell h (a196.add 2) = some (.slice s197b s197n s197c) ∧ (∃ i198, cell h ((a).add 0) = some (.int .i64 i198) ∧ (∃ s199, cell h ((a).add 1) = some (S s199) ∧ (∃ s200b s200n s200c, cell h ((a).add 2) = some (.slice s200b s200n s200c) ∧ (HCalls Tryz.prog 11 ⟨[(.slice s197b s197n s197c), (.agg ⟨[(.int .i64 i198), (S s199), (.slice s200b s200n s200c)]⟩)]⟩ h fun v201 h202 => vSlice v201 fun s203b s203n s203c => vSome (some w) fun a204 => stL (a204.add 2) [(.slice s203b s203n s203c)] 0 h202 fun h205 => vSome (some r) fun a206 => ∃ s207b s207n s207c, cell h205 (a206.add 2) = some (.slice s207b s207n s207c) ∧ (∃ i208, cell h205 ((a).add 0) = some (.int .i64 i208) ∧ (∃ s209, cell h205 ((a).add 1) = some (S s209) ∧ (∃ s210b s210n s210c, cell h205 ((a).add 2) = some (.slice s210b s210n s210c) ∧ (HCalls Tryz.prog 11 ⟨[(.slice s207b s207n s207c), (.agg ⟨[(.int .i64 i208), (S s209), (.slice s210b s210n s210c)]⟩)]⟩ h205 fun v211 h212 => vSlice v211 fun s213b s213n s213c => vSome (some r) fun a214 => stL (a214.add 2) [(.slice s213b s213n s213c)] 0 h212 Q)))))))) := by
  obtain ⟨b, n, c, e, H1⟩ := pushW_k (Q := fun h205 => vSome (some r) fun a206 => ∃ s207b s207n s207c, cell h205 (a206.add 2) = some (.slice s207b s207n s207c) ∧ (∃ i208, cell h205 ((a).add 0) = some (.int .i64 i208) ∧ (∃ s209, cell h205 ((a).add 1) = some (S s209) ∧ (∃ s210b s210n s210c, cell h205 ((a).add 2) = some (.slice s210b s210n s210c) ∧ (HCalls Tryz.prog 11 ⟨[(.slice s207b s207n s207c), (.agg ⟨[(.int .i64 i208), (S s209), (.slice s210b s210n s210c)]⟩)]⟩ h205 fun v211 h212 => vSlice v211 fun s213b s213n s213c => vSome (some r) fun a214 => stL (a214.add 2) [(.slice s213b s213n s213c)] 0 h212 Q))))) D hm hR fun h2 c2 P2 R2 E2 => by
    have va2 := va.keep E2.keepF ⟨ha, va.lt⟩
    obtain ⟨b, n, c, e, H2⟩ := pushR_k (Q := Q) R2 hm (E2.mark hR) fun h3 c3 R3 E3 => hk h3 c3 ⟨P2.otherR E3 R3.fresh, R3⟩ (E2.trans (E3.mono fun s hs => .inr hs))
    exact ⟨_, _, _, e, _, va2.cell 0 rfl, _, va2.cell 1 rfl, _, _, _, va2.cell 2 rfl, H2⟩
  exact ⟨_, _, _, e, _, va.cell 0 rfl, _, va.cell 1 rfl, _, _, _, va.cell 2 rfl, H1⟩
end
/-! ### a call -/
abbrev opCells (o : OpQ) (ab : Option Addr) (an ac : Nat) : List Value := [.int .u8 o.1, .int .u8 o.2.1, .int .u8 o.2.2.1.1, S o.2.2.1.2.1, .slice ab an ac, .bool o.2.2.1.2.2.2.1, S o.2.2.1.2.2.2.2, .int .i64 o.2.2.2.1, .bool o.2.2.2.2]
theorem _root_.Go.Sh.Var.cell2 {h : H} {a : Addr} {t : Nat} {cs : List Value} (v : Var h a t cs) (i j : Nat) {x : Value} (hx : cs[i + j]? = some x) : cell h ((a.add i).add j) = some x := by rw [add_add]; exact v.cell (i + j) hx
section
variable {h : H} {K : Value → H → Prop} {col : Col} {w r : Addr} {m : WM} {u v x : Nat} {b : Option Addr} {n c : Nat} {i : Int} {o : OpQ} {a : Addr} {ab : Option Addr} {an ac ty : Nat}
/-- what is known ahead of a call: both Worlds, and the call's parts -/
structure CallQ (h : H) (col : Col) (w r : Addr) (m : WM) (u v x : Nat) (o : OpQ) (a : Addr) (ty : Nat) (ab : Option Addr) (an ac : Nat) : Prop where
  D : PD h col w r m
  I : DI m u v x
  L : Lib0 h col
  va : Var h a ty (opCells o ab an ac)
  ca : col a.block = none
  row : Row elAttr (Free col h) h ab an ac o.2.2.1.2.2.1
  nil : ab = none → ac = 0
  r0 : Rng .u8 o.1
  r1 : Rng .u8 o.2.1
  rk : Rng .u8 o.2.2.1.1
  rn : o.2.2.1.2.1.length ≤ 4000
  rt : o.2.2.1.2.2.2.2.length ≤ 4000
  rl : o.2.2.1.2.2.1.length ≤ 500
  rv : ∀ y ∈ o.2.2.1.2.2.1, y.2.length ≤ 4000
  hu : u ≤ 100000
  hv : v ≤ 1000
  hx : x ≤ 1000000
/-- ... behind an act -/
theorem CallQ.step (C : CallQ h col w r m u v x o a ty ab an ac) {h1 : H} {c1 : Col} {m1 : WM} {u1 v1 x1 : Nat} (D : PD h1 c1 w r m1) (H : DI m1 u1 v1 x1) (E : ExtP AS h col h1 c1) (hu : u1 ≤ 100000) (hv : v1 ≤ 1000) (hx : x1 ≤ 1000000) : CallQ h1 c1 w r m1 u1 v1 x1 o a ty ab an ac :=
  ⟨D, H, C.L.ext E, C.va.keep E.keepF ⟨C.ca, C.va.lt⟩, by rw [E.cl _ C.va.lt]; exact C.ca, E.row C.row, C.nil, C.r0, C.r1, C.rk, C.rn, C.rt, C.rl, C.rv, hu, hv, hx⟩
theorem CallQ.attrs (C : CallQ h col w r m u v x o a ty ab an ac) : AttrsW o.2.2.1.2.2.1 := fun y hy => by have := C.rv y hy; omega
abbrev T5D := Sx.l13_PlaceDoes.T5
theorem curR (H : DI m u v x) : Rng .i64 (curM m.op).1 ∨ True := .inr trivial
/-- a mark of the current element is pushed, if the call says so -/
theorem doesMark (C : CallQ h col w r m u v x o a ty ab an ac) (Kn Ke2 Ke1 : T5D) (Ke0 : Sx.l13_PlaceDoes.T4) (Kr : Sx.l13_PlaceDoes.T0)
    (after : ∀ h' col' m', PD h' col' w r m' → DI m' u (v + 1) x → ExtP AS h col h' col' → Kn b n c (some w) (some r) i h') :
    Sx.l13_PlaceDoes.n23 b n c (some w) (some r) i a Kn Ke2 Ke1 Ke0 Kr h := by
  have hlo := C.I.lo
  have hu := C.hu
  have hv := C.hv
  have hml := C.I.ml
  refine ⟨_, C.va.cell 0 rfl, by decide, spl (fun e => condT ?_) fun e => condF (after h col m C.D (C.I.mono (Nat.le_refl _) (by omega) (Nat.le_refl _)) (.refl _ _ _))⟩
  obtain ⟨t2, T2, W2⟩ := C.D.R.ex
  have hcur : curM m.op ∈ m.op := by
    unfold curM
    have := C.I.ne
    rw [getD_get (by omega)]
    exact List.getElem_mem _
  have hid := (W2.openW _ hcur).1
  have hal := C.row.len
  have hy : o.2.2.1.2.1.length ≤ 4000 ∧ o.2.2.1.2.2.1.length ≤ 500 ∧ ∀ y ∈ o.2.2.1.2.2.1, y.2.length ≤ 4000 := ⟨C.rn, C.rl, C.rv⟩
  have fin : ∀ (h1 : H) (a1 : Addr) (t1 : Nat), KB h h1 → Var h1 a1 t1 [.int .i64 (curM m.op).1, S o.2.2.1.2.1, .slice ab an ac] → col a1.block = none → (vSome (some r) fun a196 => ∃ s197b s197n s197c, cell h1 (a196.add 2) = some (.slice s197b s197n s197c) ∧ (∃ i198, cell h1 ((a1).add 0) = some (.int .i64 i198) ∧ (∃ s199, cell h1 ((a1).add 1) = some (S s199) ∧ (∃ s200b s200n s200c, cell h1 ((a1).add 2) = some (.slice s200b s200n s200c) ∧ (HCalls Tryz.prog 11 ⟨[(.slice s197b s197n s197c), (.agg ⟨[(.int .i64 i198), (S s199), (.slice s200b s200n s200c)]⟩)]⟩ h1 fun v201 h202 => vSlice v201 fun s203b s203n s203c => vSome (some w) fun a204 => stL (a204.add 2) [(.slice s203b s203n s203c)] 0 h202 fun h205 => vSome (some r) fun a206 => ∃ s207b s207n s207c, cell h205 (a206.add 2) = some (.slice s207b s207n s207c) ∧ (∃ i208, cell h205 ((a1).add 0) = some (.int .i64 i208) ∧ (∃ s209, cell h205 ((a1).add 1) = some (S s209) ∧ (∃ s210b s210n s210c, cell h205 ((a1).add 2) = some (.slice s210b s210n s210c) ∧ (HCalls Tryz.prog 11 ⟨[(.slice s207b s207n s207c), (.agg ⟨[(.int .i64 i208), (S s209), (.slice s210b s210n s210c)]⟩)]⟩ h205 fun v211 h212 => vSlice v211 fun s213b s213n s213c => vSome (some r) fun a214 => stL (a214.add 2) [(.slice s213b s213n s213c)] 0 h212 fun h215 => Kn b n c (some w) (some r) i h215))))))))) := fun h1 a1 t1 k1 v1 ca1 => by
    have R1 : Row elAttr (Free col h1) h1 ab an ac o.2.2.1.2.2.1 := (ExtP.kb (S := fun _ => False) k1).row C.row
    have hR : MarkR (Free col h1) h1 ((curM m.op).1, o.2.2.1.2.1, o.2.2.1.2.2.1) ab an ac := markR (m := ((curM m.op).1, o.2.2.1.2.1, o.2.2.1.2.2.1)) R1 C.nil hid (by show o.2.2.1.2.1.length ≤ maxLen; have := C.rn; simp only [maxLen]; omega)
    exact pushBoth_k (y := ((curM m.op).1, o.2.2.1.2.1, o.2.2.1.2.2.1)) (C.D.kb k1) (by omega) hR v1 ca1 fun h2 c2 D2 E2 => after h2 c2 _ D2 (C.I.push hy) ((ExtP.kb k1).trans E2)
  have fr := C.D.P.fresh
  refine ⟨⟨_, C.va.cell2 2 1 rfl, _, _, _, C.va.cell2 2 2 rfl, refCurrent_calls W2 C.I.ne (by omega) fun h1 k1 => agOpen (x := curM m.op) ⟨k1.ext, newx_var fun a2 h2 v2 k2 e2 s2 => ⟨k2.ext, stL_var0 v2 (by show 3 ≤ 3; omega) fun h3 v3 k3 s3 => ?_⟩⟩⟩,
    ⟨_, C.va.cell2 2 1 rfl, _, _, _, C.va.cell2 2 2 rfl, newx_var fun a2 h2 v2 k2 e2 s2 => ⟨k2.ext, refCurrent_calls (W2.kb k2) C.I.ne (by omega) fun h1 k1 => agOpen (x := curM m.op) ⟨k1.ext, stL_var0 (v2.kb k1) (by show 3 ≤ 3; omega) fun h3 v3 k3 s3 => ?_⟩⟩⟩⟩
  · exact fin h3 a2 _ (KB.step (k1.trans k2) k3 (by have := k1.1; omega)) v3 (fr _ (by have := k1.1; omega))
  · exact fin h3 a2 _ (KB.step (k2.trans k1) k3 (by omega)) v3 (fr _ (by omega))
/-- an element -/
theorem doesIns (C : CallQ h col w r m u v x o a ty ab an ac) (hu2 : u ≤ 90000) {sp : Int} (hsp : Rng .u8 sp) (Kn Ke2 Ke1 : T5D) (Ke0 : Sx.l13_PlaceDoes.T4) (Kr : Sx.l13_PlaceDoes.T0)
    (after : ∀ h' col' m', PD h' col' w r m' → DI m' (u + 1) (v + 1) x → ExtP AS h col h' col' → Kn b n c (some w) (some r) i h') :
    Sx.l13_PlaceDoes.n22 b n c (some w) (some r) i a sp Kn Ke2 Ke1 Ke0 Kr h := by
  have hlo := C.I.lo
  have hln := C.I.ln
  have hu := C.hu
  have hv := C.hv
  have hal := C.row.len
  have hrl := C.rl
  have hrn := C.rn
  have second : ∀ h1 c1, PW h1 c1 w (insertM m sp o.2.2.1.2.1 o.2.2.1.2.2.1) → ExtP PS h col h1 c1 →
      HCalls Tryz.prog 9 ⟨[(.pointer (some r)), (.int .u8 sp), (.agg ⟨[(.int .u8 o.2.2.1.1), (S o.2.2.1.2.1), (.slice ab an ac), (.bool o.2.2.1.2.2.2.1), (S o.2.2.1.2.2.2.2)]⟩)]⟩ h1 fun v270 h271 => vInt .i64 v270 fun i272 => Spl ((m.ns.length : Int) = i272) (Sx.l13_PlaceDoes.n23 b n c (some w) (some r) i a Kn Ke2 Ke1 Ke0 Kr h271) (Kr false h271) := fun h1 c1 P1 E1 => by
    have R1 := C.D.R.otherP E1 P1.fresh
    refine refInsert_calls R1 C.I.G C.I.ne (by omega) (by omega) (E1.row C.row) (by omega) C.attrs hsp C.rk (by omega) fun h2 c2 R2 E2 => vIntMk (splT rfl ?_)
    obtain ⟨D2, EA⟩ := C.D.act P1 E1 R2 E2
    exact doesMark (C.step D2 (C.I.insert sp o.2.2.1.2.1 o.2.2.1.2.2.1) EA (by omega) C.hv C.hx) Kn Ke2 Ke1 Ke0 Kr fun h3 c3 m3 D3 H3 E3 => after h3 c3 m3 D3 H3 (EA.trans E3)
  refine ⟨⟨_, C.va.cell2 2 0 rfl, _, C.va.cell2 2 1 rfl, _, _, _, C.va.cell2 2 2 rfl, _, C.va.cell2 2 3 rfl, _, C.va.cell2 2 4 rfl, ?_⟩,
    ⟨_, C.va.cell2 2 0 rfl, _, C.va.cell2 2 1 rfl, _, _, _, C.va.cell2 2 2 rfl, _, C.va.cell2 2 3 rfl, _, C.va.cell2 2 4 rfl, _, C.va.cell2 2 0 rfl, _, C.va.cell2 2 1 rfl, _, _, _, C.va.cell2 2 2 rfl, _, C.va.cell2 2 3 rfl, _, C.va.cell2 2 4 rfl, ?_⟩⟩
  · refine insert_calls C.L C.D.P C.I.G C.I.ne (by omega) (by omega) C.row C.nil (by omega) C.attrs hsp C.rk (by omega) fun h1 c1 P1 E1 => vIntMk ?_
    have va1 := C.va.keep E1.keepF ⟨C.ca, C.va.lt⟩
    exact ⟨_, va1.cell2 2 0 rfl, _, va1.cell2 2 1 rfl, _, _, _, va1.cell2 2 2 rfl, _, va1.cell2 2 3 rfl, _, va1.cell2 2 4 rfl, second h1 c1 P1 E1⟩
  · exact insert_calls C.L C.D.P C.I.G C.I.ne (by omega) (by omega) C.row C.nil (by omega) C.attrs hsp C.rk (by omega) fun h1 c1 P1 E1 => vIntMk (second h1 c1 P1 E1)
/-- all other calls -/
theorem doesRest (C : CallQ h col w r m u v x o a ty ab an ac) (hN : Rng .i64 o.2.2.2.1) (k : Int) (Kn Ke2 Ke1 : T5D) (Ke0 : Sx.l13_PlaceDoes.T4) (Kr : Sx.l13_PlaceDoes.T0)
    (after : ∀ h' col' m', PD h' col' w r m' → DI m' (u + 1 + v) (v + 1) (x + 4000) → ExtP AS h col h' col' → Kn b n c (some w) (some r) i h') :
    Sx.l13_PlaceDoes.n25 b n c (some w) (some r) i a k Kn Ke2 Ke1 Ke0 Kr h := by
  have hlo := C.I.lo
  have hln := C.I.ln
  have hu := C.hu
  have hv := C.hv
  have hx := C.hx
  have hml := C.I.ml
  have hrt := C.rt
  have mk : ∀ {m' : WM} {u' v' x' : Nat}, DI m' u' v' x' → u' ≤ u + 1 + v → v' ≤ v + 1 → x' ≤ x + 4000 → DI m' (u + 1 + v) (v + 1) (x + 4000) := fun H h1 h2 h3 => H.mono h1 h2 h3
  refine spl (fun e4 => condT ?_) fun e4 => condF (spl (fun e5 => condT ?_) fun e5 => condF (spl (fun e6 => condT ?_) fun e6 => condF (spl (fun e7 => condT ?_) fun e7 => condF (spl (fun e8 => condT ?_) fun e8 => condF ?_))))
  · -- Write
    have hlen : ∀ (i : Nat) z, m.ns[i]? = some z → z.text.length + o.2.2.1.2.2.2.2.length ≤ 9223372036854775807 := fun i z hz => by have := C.I.tx i z hz; omega
    refine ⟨_, C.va.cell2 2 4 rfl, write_callsW C.D.P C.I.G C.I.ne (by omega) (by omega) hlen (by simp only [maxLen]; omega) fun h1 c1 P1 E1 => ?_⟩
    have va1 := C.va.keep E1.keepF ⟨C.ca, C.va.lt⟩
    refine ⟨_, va1.cell2 2 4 rfl, refWrite_calls (C.D.R.otherP E1 P1.fresh) C.I.G C.I.ne (by omega) (by omega) hlen (by simp only [maxLen]; omega) fun h2 c2 R2 E2 => ?_⟩
    obtain ⟨D2, EA⟩ := C.D.act P1 E1 R2 E2
    exact after h2 c2 _ D2 (mk (C.I.write C.rt) (by omega) (by omega) (by omega)) EA
  · -- Note
    refine ⟨_, C.va.cell2 2 4 rfl, note_callsW C.D.P C.I.G C.I.ne (by omega) (by omega) (by simp only [maxLen]; omega) fun h1 c1 P1 E1 => ?_⟩
    have va1 := C.va.keep E1.keepF ⟨C.ca, C.va.lt⟩
    refine ⟨_, va1.cell2 2 4 rfl, refNote_calls (C.D.R.otherP E1 P1.fresh) C.I.G C.I.ne (by omega) (by omega) (by simp only [maxLen]; omega) fun h2 c2 R2 E2 => ?_⟩
    obtain ⟨D2, EA⟩ := C.D.act P1 E1 R2 E2
    exact after h2 c2 _ D2 (mk (C.I.note C.rt) (by omega) (by omega) (by omega)) EA
  · -- Close
    refine ⟨_, C.va.cell 7 rfl, close_callsW C.D.P fun h1 c1 P1 E1 => ?_⟩
    have va1 := C.va.keep E1.keepF ⟨C.ca, C.va.lt⟩
    refine ⟨_, va1.cell 7 rfl, refClose_calls (C.D.R.otherP E1 P1.fresh) fun h2 c2 R2 E2 => ?_⟩
    obtain ⟨D2, EA⟩ := C.D.act P1 E1 R2 E2
    exact after h2 c2 _ D2 (mk (C.I.close _) (by omega) (by omega) (by omega)) EA
  · -- Rebuild
    refine rebuild_callsW C.L C.D.P C.I.G C.I.ne (by omega) (by omega) C.I.mw.w fun h1 c1 P1 E1 => ?_
    refine refRebuild_calls (C.D.R.otherP E1 P1.fresh) C.I.G C.I.ne (by omega) (by omega) C.I.mw.w fun h2 c2 R2 E2 => ?_
    obtain ⟨D2, EA⟩ := C.D.act P1 E1 R2 E2
    exact after h2 c2 _ D2 (mk C.I.rebuild (by omega) (by omega) (by omega)) EA
  · -- Drop
    obtain ⟨t2, T2, W2⟩ := C.D.R.ex
    obtain ⟨ob2, oc2, mb2, mn2, mc2, vr, o2, om2⟩ := W2.ex
    have hne := C.I.ne
    have hq0 : 0 ≤ (if (0 : Int) > o.2.2.2.1 then (0 : Int) else o.2.2.2.1) := by split <;> omega
    have hq1 := Int.tmod_nonneg (m.op.length : Int) hq0
    have hq2 : Int.tmod (if (0 : Int) > o.2.2.2.1 then (0 : Int) else o.2.2.2.1) (m.op.length : Int) < (m.op.length : Int) := Int.tmod_lt_of_pos _ (by omega)
    refine vSomeMk ⟨_, _, _, vr.cell 1 rfl, _, C.va.cell 7 rfl, vSomeMk ⟨_, _, _, vr.cell 1 rfl, by omega, ?_⟩⟩
    refine o2.row.idx hq1 hq2 rfl fun q hi hA => ⟨_, hA.fst.int.1, ?_⟩
    refine drop_callsW C.D.P (by omega) fun h1 c1 P1 E1 => ?_
    refine refDrop_calls (C.D.R.otherP E1 P1.fresh) (by omega) C.I.nd fun h2 c2 R2 E2 => ?_
    obtain ⟨D2, EA⟩ := C.D.act P1 E1 R2 E2
    exact after h2 c2 _ D2 (mk (C.I.drop _) (by omega) (by omega) (by omega)) EA
  · -- Foster, or a marker
    refine ⟨_, C.va.cell 8 rfl, ?_⟩
    have tog : Sx.l13_PlaceDoes.n41 b n c (some w) (some r) i true Kn Ke2 Ke1 Ke0 Kr h := by
      obtain ⟨t, ads, T, W⟩ := C.D.P.ex
      obtain ⟨ob, oc, mb, mn, mc, vw, ow, om⟩ := W.ex
      have two : ∀ f : Bool, m.fo = !f → stL (w.add 3) [(.bool f)] 0 h fun h489 => vSome (some r) fun a490 => ∃ b491, cell h489 (a490.add 3) = some (.bool b491) ∧ (cond b491 (vSome (some r) fun a492 => stL (a492.add 3) [(.bool false)] 0 h489 fun h493 => Kn b n c (some w) (some r) i h493) (vSome (some r) fun a494 => stL (a494.add 3) [(.bool true)] 0 h489 fun h495 => Kn b n c (some w) (some r) i h495)) := fun f hf => by
        refine foster_k C.D.P f fun h1 P1 E1 => vSomeMk ?_
        have R1 := C.D.R.otherP E1 P1.fresh
        obtain ⟨t2, T2, W2⟩ := R1.ex
        obtain ⟨ob2, oc2, mb2, mn2, mc2, vr, o2, om2⟩ := W2.ex
        refine ⟨_, vr.cell 3 rfl, ?_⟩
        have fin : ∀ g : Bool, g = f → stL (r.add 3) [(.bool g)] 0 h1 fun h493 => Kn b n c (some w) (some r) i h493 := fun g hg => by
          subst hg
          refine refFoster_k R1 g fun h2 R2 E2 => ?_
          obtain ⟨D2, EA⟩ := C.D.act P1 E1 R2 E2
          exact after h2 _ _ D2 (mk (C.I.foster g) (by omega) (by omega) (by omega)) EA
        refine condB (fun e => vSomeMk (fin false ?_)) fun e => vSomeMk (fin true ?_)
        · rw [hf] at e; cases f <;> simp_all
        · rw [hf] at e; cases f <;> simp_all
      refine condT (vSomeMk ⟨_, vw.cell 3 rfl, condB (fun e => vSomeMk (two false (by rw [e]; rfl))) fun e => vSomeMk (two true (by rw [e]; rfl))⟩)
    have mrk : Sx.l13_PlaceDoes.n41 b n c (some w) (some r) i false Kn Ke2 Ke1 Ke0 Kr h := by
      have hR : MarkR (Free col h) h (-1, [], []) none 0 0 := markR (m := (-1, [], [])) ⟨rfl, Nat.le_refl _, Nat.zero_le _, fun i x hx => by simp at hx⟩ (fun _ => rfl) ⟨by decide, by decide⟩ (by decide)
      have hy : ((-1 : Int), ([] : Bs), ([] : List AttrP)).2.1.length ≤ 4000 ∧ ((-1 : Int), ([] : Bs), ([] : List AttrP)).2.2.length ≤ 500 ∧ ∀ a ∈ ((-1 : Int), ([] : Bs), ([] : List AttrP)).2.2, a.2.length ≤ 4000 := ⟨by decide, by decide, fun a ha => by cases ha⟩
      refine condF (vSomeMk ?_)
      refine pushW_k (y := (-1, [], [])) C.D (by omega) hR fun h2 c2 P2 R2 E2 => vSomeMk ?_
      refine pushR_k (y := (-1, [], [])) R2 (by omega) (E2.mark hR) fun h3 c3 R3 E3 => ?_
      exact after h3 c3 _ ⟨P2.otherR E3 R3.fresh, R3⟩ (mk (C.I.push hy) (by omega) (by omega) (by omega)) (E2.trans (E3.mono fun s hs => .inr hs))
    exact condB (fun _ => tog) fun _ => mrk
end
end Go.Proofs
