/- utf: Lines of both. No condition but that the library's variable holds a number. -/
import Derived.Test.YtodponooeepilaaDoorUfR
namespace Go.Proofs
open Go Go.Sh
set_option linter.unusedVariables false
set_option maxRecDepth 100000
/-- a contract of the library's that draws alone -/
theorem _root_.Go.Sh.hcalls_drew {P : Program} {f : FuncId} {args : Array Value} {h : H} {v : Value} {K : Value → H → Prop} (hc : ∀ w : World, w.heap = h → Calls P f args w fun e w' => e = .returned v ∧ ∃ n, w' = w.drewN n) (hk : K v h) : HCalls P f args h K :=
  fun w hw => (hc w hw).mono fun e w' ⟨he, n, hw'⟩ => ⟨v, he, by rw [hw']; exact ⟨rfl, rfl, rfl⟩, by rw [hw', World.heap_drewN, hw]; exact hk⟩
theorem _root_.Go.Sh.decSB {P : Program} {t t1 t2 : TypeId} {a : Bs} {b : Bool} {k : Value → Prop} (h : P.underlying t = some (.tuple #[t1, t2])) (h1 : P.underlying t1 = some .string) (h2 : P.underlying t2 = some .bool) (hk : k (.tuple ⟨[S a, .bool b]⟩)) : Sh.dec P t (.tuple ⟨[S a, .bool b]⟩) k := by
  unfold Sh.dec
  rw [h]
  show decV P t1 (S a) fun v => decV P t2 (.bool b) fun v2 => k (.tuple ⟨[v, v2]⟩)
  unfold decV
  rw [h1, h2]
  exact hk
theorem tupSSB {a d : Bs} {b : Bool} {k : Bs → Bs → Bool → Prop} (h : k a d b) : vTup (.tuple ⟨[S a, S d, .bool b]⟩) fun l => uncons l fun e l => vStr e fun s => uncons l fun e l => vStr e fun s2 => uncons l fun e l => vBool e fun i => unnil l (k s s2 i) := h
theorem flatS : Flat elStr := fun _ _ _ _ _ _ h => h
theorem _root_.Go.Sh.OwnT.flatK {α : Type} {E : El α} {A A' : Nat → Prop} {h h' : H} {base e n c : Nat} {b : Option Addr} {l : List α} {B : Nat → Prop} (o : OwnT E A h base e b n c l) (k : Keep B h h') (hf : Flat E) (hg : ∀ g, b = some ⟨g, 0, none⟩ → base ≤ g → g < h.size → B g) : OwnT E A' h' base e b n c l := by
  obtain ⟨xs, h1, h2⟩ := o.own
  exact ⟨o.len, xs, h1.keep k hg, h2.flat hf⟩
section
variable {h : H} {s : Bs} {K : Value → H → Prop}
theorem cut_calls {sep : Bs} (m : ML2 h) (hs : s.length ≤ 1000000000) (hk : K (.tuple ⟨[S (Lib.cut s sep).1, S (Lib.cut s sep).2.1, .bool (Lib.cut s sep).2.2]⟩) h) : HCalls Tryd.prog 29 ⟨[S s, S sep]⟩ h K := by
  obtain ⟨x, hx⟩ := m
  have hlt : (⟨⟨s⟩⟩ : ByteArray).size < 4294967281 := Nat.lt_of_le_of_lt (show s.length ≤ 1000000000 from hs) (by decide)
  have hc : ∀ w : World, w.heap = h → Calls Tryd.prog 29 #[.string ⟨⟨s⟩⟩, .string ⟨⟨sep⟩⟩] w fun e w' => e = .returned (.tuple ⟨[S (Lib.cut s sep).1, S (Lib.cut s sep).2.1, .bool (Lib.cut s sep).2.2]⟩) ∧ ∃ n, w' = w.drewN n :=
    fun w hw => Tryd.strings_Cut ⟨⟨s⟩⟩ ⟨⟨sep⟩⟩ x w hlt (by rw [cell_eq, hw]; exact hx)
  exact hcalls_drew hc hk
abbrev lnF (a4 a1 : Addr) : Value := .func (.func 28) ⟨[]⟩ ⟨[.pointer (some a4), .pointer (some a1)]⟩
/-- one call of the closure -/
theorem round_calls {q : Bs} {a1 a4 : Addr} {p : Nat} {Kx : Value → H → Prop} (m : ML2 h) (hq : q.length ≤ 100000000) (va : Var h a1 9 [S q]) (vb : Var h a4 3 [.int .i64 (p : Int)]) (hne : a1.block ≠ a4.block) (hp : p ≤ q.length + 1)
    (hend : q.length ≤ p → Kx (.tuple ⟨[S [], .bool false]⟩) h)
    (hgo : ∀ h7, p < q.length → KX a4.block h h7 → h7.size = h.size → Var h7 a1 9 [S q] → Var h7 a4 3 [.int .i64 ((p + ((Lib.cut (q.drop p) [10]).1.length + 1) : Nat) : Int)] → Kx (.tuple ⟨[S (Lib.cut (q.drop p) [10]).1, .bool true]⟩) h7) :
    CallV Tryd.prog 50 (lnF a4 a1) ⟨[]⟩ h Kx := by
  refine callV_ok Tryd.func28 (by kernel_rfl) ?_
  refine Sx.utf_Lines_1.ok _ _ _ _ ⟨_, vb.cell0 rfl, _, va.cell0 rfl, spl (fun e => decSB (t1 := 9) (t2 := 4) (by kernel_rfl) (by kernel_rfl) (by kernel_rfl) (hend (by omega))) fun e => ⟨_, va.cell0 rfl, _, vb.cell0 rfl, ⟨by omega, by omega, by omega⟩, ?_⟩⟩
  rw [sub_full q p (by omega)]
  have hl := (lines_cut (s := q.drop p) (fun e => by have := congrArg List.length e; rw [List.length_drop, List.length_nil] at this; omega)).2
  rw [List.length_drop] at hl
  generalize hcu : Lib.cut (q.drop p) [10] = cu at *
  have fin : ∃ i, cell h a4 = some (.int .i64 i) ∧ Rng .i64 ((cu.1.length : Int) + 1) ∧ Rng .i64 (i + ((cu.1.length : Int) + 1)) ∧ stL a4 [.int .i64 (i + ((cu.1.length : Int) + 1))] 0 h fun h34 => Sh.dec Tryd.prog 50 (.tuple ⟨[S cu.1, .bool true]⟩) fun v => Kx v h34 := by
    refine ⟨_, vb.cell0 rfl, rng64 (by omega) (by omega), rng64 (by omega) (by omega), stL_var0 vb (Nat.le_refl 1) fun h7 v7 x7 z7 => decSB (t1 := 9) (t2 := 4) (by kernel_rfl) (by kernel_rfl) (by kernel_rfl) (hgo h7 (by omega) x7 z7 (va.keep x7.w hne) ?_)⟩
    have e : ((p : Int) + ((cu.1.length : Int) + 1)) = ((p + (cu.1.length + 1) : Nat) : Int) := by omega
    rw [← e]; exact v7
  refine cut_calls m (by rw [List.length_drop]; omega) ?_
  rw [hcu]
  exact tupSSB (condB (fun _ => fin) fun _ => fin)
abbrev lnL (K : Value → H → Prop) (N : Nat) (f : Value) (ob : Option Addr) (on oc : Nat) (s : Bs) (b : Bool) (h : H) : Prop :=
  Sx.utf_Lines.n10_L (fun z5b z5n z5c h => K (.slice z5b z5n z5c) h) (fun z5b z5n z5c h => K (.slice z5b z5n z5c) h) (fun y2b y2n y2c h => K (.slice y2b y2n y2c) h) N f ob on oc s b h
theorem lines_loop {q : Bs} {a1 a4 : Addr} {h5 : H} (m : ML2 h) (hq : q.length ≤ 100000000) (hne : a1.block ≠ a4.block) (hb4 : h.size ≤ a4.block) (hz1 : a1.block < h5.size) (hz4 : a4.block < h5.size) (k5s : h.size ≤ h5.size)
    (hk : ∀ h' b n c, KB h h' → OwnF elStr h' h.size 9 b n c (linesP q) → K (.slice b n c) h') :
    ∀ N p h6 ob on oc (out : List Bs) (line : Bs), q.length ≤ p + N → p ≤ q.length + 1 → KB h h6 → h5.size ≤ h6.size → Var h6 a1 9 [S q] → Var h6 a4 3 [.int .i64 (p : Int)] → OwnF elStr h6 h5.size 9 ob on oc out → out ++ line :: linesP (q.drop p) = linesP q → out.length ≤ p → line.length ≤ q.length →
      lnL K (N + 2) (lnF a4 a1) ob on oc line true h6 := by
  intro N
  have stop : ∀ p h6 ob on oc (out : List Bs) (line s : Bs) M, q.length ≤ p → KB h h6 → OwnF elStr h6 h5.size 9 ob on oc (out ++ [line]) → out ++ line :: linesP (q.drop p) = linesP q → lnL K (M + 1) (lnF a4 a1) ob on oc s false h6 := by
    intro p h6 ob on oc out line s M hle k6 o6 e
    rw [List.drop_of_length_le hle, show linesP [] = [] from rfl] at e
    show K (.slice ob on oc) h6
    exact hk h6 ob on oc k6 (by rw [← e]; exact o6.lower k5s)
  induction N with
  | zero =>
    intro p h6 ob on oc out line hN hp k6 z6 va vb o6 e ho hlen
    unfold lnL Sx.utf_Lines.n10_L
    refine condT (str_app o6 (by omega) (by omega) (by simp only [maxLen]; omega) fun b8 c8 h8 o8 k8 => vSliceMk ?_)
    have k08 : KB h h8 := SK.trans k6 (k8.less fun k hk => Nat.lt_of_lt_of_le (show k < h.size from hk) k5s)
    exact round_calls (m.kb k08) hq (va.keep k8.w hz1) (vb.keep k8.w hz4) hne hp (fun hle => tupSB (condF (stop p h8 b8 _ c8 out line [] 0 hle k08 o8 e))) fun h7 hlt => absurd hlt (by omega)
  | succ N ih =>
    intro p h6 ob on oc out line hN hp k6 z6 va vb o6 e ho hlen
    unfold lnL Sx.utf_Lines.n10_L
    refine condT (str_app o6 (by omega) (by omega) (by simp only [maxLen]; omega) fun b8 c8 h8 o8 k8 => vSliceMk ?_)
    have k08 : KB h h8 := SK.trans k6 (k8.less fun k hk => Nat.lt_of_lt_of_le (show k < h.size from hk) k5s)
    have k8s := k8.1
    refine round_calls (m.kb k08) hq (va.keep k8.w hz1) (vb.keep k8.w hz4) hne hp (fun hle => tupSB (condF (stop p h8 b8 _ c8 out line [] (N + 1) hle k08 o8 e))) fun h7 hlt x7 z7 va7 vb7 => tupSB (condT ?_)
    have hne2 : q.drop p ≠ [] := fun e => by have := congrArg List.length e; rw [List.length_drop, List.length_nil] at this; omega
    obtain ⟨l1, l2⟩ := lines_cut hne2
    rw [List.length_drop] at l2
    rw [l1, List.drop_drop] at e
    generalize Lib.cut (q.drop p) [10] = cu at *
    have k07 : KB h h7 := KB.step k08 x7 hb4
    have o7 : OwnF elStr h7 h5.size 9 b8 (on + 1) c8 (out ++ [line]) := by
      refine ⟨o8.own.flatK x7.w flatS fun g eg hg1 hg2 => ?_, o8.lo, fun a ea => by rw [z7]; exact o8.hi a ea, o8.nil⟩
      show g ≠ a4.block; omega
    exact ih (p + (cu.1.length + 1)) h7 b8 _ c8 (out ++ [line]) cu.1 (by omega) (by omega) k07 (by omega) va7 vb7 o7 (by rw [List.append_assoc]; exact e) (by simp; omega) (by omega)
theorem lines2_calls (m : ML2 h) (hs : s.length ≤ 100000000) (hk : ∀ h' b n c, KB h h' → OwnF elStr h' h.size 9 b n c (linesP (newP s)) → K (.slice b n c) h') : HCalls Tryd.prog 19 ⟨[S s]⟩ h K := by
  have hnl := newP_len s
  refine Sx.utf_Lines.ok _ _ _ (newx_var fun a1 h1 v1 k1 e1 z1 => ⟨_, v1.cell0 rfl, newlines_calls (m.kb k1) hs fun h2 k2 => vStrMk (stL_var0 (v1.kb k2) (Nat.le_refl 1) fun h3 v3 x3 z3 => newx_var fun a4 h4 v4 k4 e4 z4 => stL_var0 v4 (Nat.le_refl 1) fun h5 v5 x5 z5 => ?_)⟩)
  have k03 : KB h h3 := KB.step (k1.trans k2) x3 (by omega)
  have hk03 := k03.1
  have k05 : KB h h5 := KB.step (k03.trans k4) x5 (by omega)
  have hne : a1.block ≠ a4.block := by have := v3.lt; omega
  have v35 : Var h5 a1 9 [S (newP s)] := (v3.kb k4).keep x5.w hne
  have v5 : Var h5 a4 3 [.int .i64 ((0 : Nat) : Int)] := v5
  have lp := fun N => lines_loop m (by omega) hne (by omega) v35.lt v5.lt k05.1 hk N
  generalize newP s = q at *
  refine round_calls (m.kb k05) (by omega) v35 v5 hne (by omega) (fun hle => tupSB (condF ⟨1, ?_⟩)) fun h7 hlt x7 z7 va7 vb7 => tupSB (condT ⟨q.length + 2, ?_⟩)
  · have hq : q = [] := List.eq_nil_of_length_eq_zero (by omega)
    subst hq
    exact hk h5 none 0 0 k05 (OwnF.none _ _ _)
  · obtain ⟨l1, l2⟩ := lines_cut (s := q) (fun e => by rw [e] at hlt; exact absurd hlt (Nat.lt_irrefl _))
    rw [List.drop_zero] at vb7 ⊢
    generalize Lib.cut q [10] = cu at *
    rw [Nat.zero_add] at vb7
    exact lp q.length (cu.1.length + 1) h7 none 0 0 [] cu.1 (by omega) (by omega) (KB.step k05 x7 (by omega)) (by omega) va7 vb7 (OwnF.none _ _ _) l1.symm (by simp) l2
end
end Go.Proofs
