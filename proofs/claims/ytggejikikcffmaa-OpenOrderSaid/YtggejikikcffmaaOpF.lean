/- open: how much is looked at; rows of elements; the chapter's example; OpenIn, OpenKinds, OpenCounts. No condition but that the library's variable holds a number. -/
import Derived.Test.YtggejikikcffmaaOpE
import Derived.Test.YtggejikikcffmaaTxA
namespace Go.Proofs
open Go Go.Sh
set_option linter.unusedVariables false
set_option maxRecDepth 100000

theorem tdiv16 (n : Nat) : Int.tdiv (n : Int) (16 : Int) = ((n / 16 : Nat) : Int) := rfl
theorem u80 : Rng .u8 0 := ⟨by decide, by decide⟩
theorem apdOpen : Apd Try.prog elOpen 22 37 40 := apd_of (sz := 4) (by kernel_rfl) rfl

section
variable {A B C : Nat → Prop} {h : H} {b b2 b3 : Option Addr} {n c n2 c2 n3 c3 : Nat} {l : List OpenP} {ns : List Bs} {s : Bs} {sc sp : Int}

theorem much_calls (r : Row elOpen A h b n c l) (rn : Row elStr B h b2 n2 c2 ns) {K : Value → H → Prop} (hk : ∀ w : Bool, (w = false → n ≤ 3000 ∧ n2 ≤ 100) → K (.bool w) h) : HCalls Try.prog 8 ⟨[.slice b n c, .slice b2 n2 c2]⟩ h K := by
  refine Sx.l11_much.ok _ _ _ _ _ _ _ _ ?_
  have hl := r.len
  have hl2 := rn.len
  have hm : n ≤ maxLen := Nat.le_trans r.cap r.max
  have hm2 : n2 ≤ maxLen := Nat.le_trans rn.cap rn.max
  simp only [maxLen] at hm hm2
  obtain ⟨w0, hw0, hn0⟩ : ∃ w0 : Nat, (if (3001 : Int) < (n : Int) then (3001 : Int) else (n : Int)) + (if (3001 : Int) < (n2 : Int) then (3001 : Int) else (n2 : Int)) = (w0 : Int) ∧ (w0 ≤ 6002 ∧ (w0 ≤ 3000 → n ≤ 3000)) := by
    refine ⟨(if 3001 < n then 3001 else n) + (if 3001 < n2 then 3001 else n2), ?_, ?_⟩
    · split <;> split <;> split <;> split <;> omega
    · split <;> split <;> omega
  refine ⟨?_, n + 1, ?_⟩
  · exact hw0 ▸ rng64 (by omega) (by omega)
  have hw0' : (if (3001 : Int) < (n : Int) then (3001 : Int) else (n : Int)) + (if (3001 : Int) < (n2 : Int) then (3001 : Int) else (n2 : Int)) = (w0 : Int) := hw0
  rw [hw0']
  -- the end
  have fin : ∀ w : Nat, w0 ≤ w → Sx.l11_much.n5 b2 n2 c2 (w : Int) (fun y4 h => K (.bool y4) h) (fun y4 h => K (.bool y4) h) h := fun w hw =>
    spl (fun _ => hk true fun e => by cases e) fun h1 => spl (fun _ => hk true fun e => by cases e) fun h2 => hk false fun _ => ⟨by have := hn0.2 (by omega); omega, by omega⟩
  have second : ∀ k i w : Nat, i + k = n2 → w0 ≤ w → w ≤ 3000000000000000000 →
      Sx.l11_much.n8_L (fun z1b z1n z1c z5 h => Sx.l11_much.n5 z1b z1n z1c z5 (fun y4 h => K (.bool y4) h) (fun y4 h => K (.bool y4) h) h) (fun z1b z1n z1c z5 h => Sx.l11_much.n5 z1b z1n z1c z5 (fun y4 h => K (.bool y4) h) (fun y4 h => K (.bool y4) h) h) (fun y4 h => K (.bool y4) h) (k + 1) b2 n2 c2 (w : Int) (i : Int) h := by
    intro k
    induction k with
    | zero => intro i w hi hw hw2; exact splF (by omega) (fin w hw)
    | succ k ih =>
      intro i w hi hw hw2
      refine splT (by omega) (spl (fun hle => rn.idxN (i := i) (by omega) rfl fun a hA => ldS hA fun hs => ⟨by decide, ?_⟩) fun hle => fin w hw)
      simp only [tdiv16]
      simp only [maxLen] at hs
      have d : (ns[i]'(by omega)).length / 16 ≤ 576460752303423488 := by omega
      exact ⟨rng64 (by omega) (by omega), rng64 (by omega) (by omega), rng64 (by omega) (by omega), ih (i + 1) (w + (ns[i]'(by omega)).length / 16) (by omega) (by omega) (by omega)⟩
  have key : ∀ k i w : Nat, i + k = n → w0 ≤ w → w ≤ 3000000000000000000 →
      Sx.l11_much.n11_L (fun z1b z1n z1c z5 h => Sx.l11_much.n4 z1b z1n z1c z5 (fun y4 h => K (.bool y4) h) (fun y4 h => K (.bool y4) h) h) (fun z1b z1n z1c z5 h => Sx.l11_much.n4 z1b z1n z1c z5 (fun y4 h => K (.bool y4) h) (fun y4 h => K (.bool y4) h) h) (fun y4 h => K (.bool y4) h) (k + 1) b n c b2 n2 c2 (w : Int) (i : Int) h := by
    intro k
    induction k with
    | zero => intro i w hi hw hw2; exact splF (by omega) ⟨n2 + 1, second n2 0 w (by omega) hw hw2⟩
    | succ k ih =>
      intro i w hi hw hw2
      refine splT (by omega) (spl (fun hle => r.idxN (i := i) (by omega) rfl fun a hA => ⟨_, (hA.snd.sndAt (k := 2) rfl).fst.str.1, by decide, ?_⟩) fun hle => ⟨n2 + 1, second n2 0 w (by omega) hw hw2⟩)
      have hs := (hA.snd.sndAt (k := 2) rfl).fst.str.2
      simp only [tdiv16]
      simp only [maxLen] at hs
      have d : (l[i]'(by omega)).2.2.1.length / 16 ≤ 576460752303423488 := by omega
      exact ⟨rng64 (by omega) (by omega), rng64 (by omega) (by omega), rng64 (by omega) (by omega), ih (i + 1) (w + (l[i]'(by omega)).2.2.1.length / 16) (by omega) (by omega) (by omega)⟩
  exact key n 0 w0 (by omega) (Nat.le_refl _) (by omega)

/-! ### rows of elements -/
def rowTo (ns : List Bs) : Nat → List OpenP
  | 0 => []
  | i + 1 => rowTo ns i ++ [((i : Int), 0, ns.getD i [], 0)]
theorem rowTo_len (ns : List Bs) : ∀ i, (rowTo ns i).length = i
  | 0 => rfl
  | i + 1 => by unfold rowTo; rw [List.length_append, rowTo_len ns i]; rfl
theorem row_calls (rn : Row elStr A h b n c ns) (hn : n ≤ 1000000) {K : Value → H → Prop} (hk : ∀ b' n' c' h', OwnF elOpen h' h.size 37 b' n' c' (rowTo ns n) → KB h h' → K (.slice b' n' c') h') : HCalls Try.prog 24 ⟨[.slice b n c]⟩ h K := by
  refine Sx.l11_row.ok _ _ _ _ _ ⟨n + 1, ?_⟩
  have hl := rn.len
  have key : ∀ k i h1 b3 n3 c3, i + k = n → KB h h1 → OwnF elOpen h1 h.size 37 b3 n3 c3 (rowTo ns i) →
      Sx.l11_row.n7_L (fun z3b z3n z3c h => Sx.l11_row.n4 z3b z3n z3c (fun y2b y2n y2c h => K (.slice y2b y2n y2c) h) (fun y2b y2n y2c h => K (.slice y2b y2n y2c) h) h) (fun z3b z3n z3c h => Sx.l11_row.n4 z3b z3n z3c (fun y2b y2n y2c h => K (.slice y2b y2n y2c) h) (fun y2b y2n y2c h => K (.slice y2b y2n y2c) h) h) (fun y2b y2n y2c h => K (.slice y2b y2n y2c) h)
        (k + 1) b n c b3 n3 c3 (i : Int) h1 := by
    intro k
    induction k with
    | zero =>
      intro i h1 b3 n3 c3 hi k1 o
      have e : i = n := by omega
      subst e
      exact splF (by omega) (hk b3 n3 c3 h1 o k1)
    | succ k ih =>
      intro i h1 b3 n3 c3 hi k1 o
      have hil : i < ns.length := by omega
      have hol := o.own.len
      rw [rowTo_len] at hol
      refine splT (by omega) ((rn.kb k1).idxN hil rfl fun a hA => ldS hA fun hs => newx_var fun a2 h2 v2 k2 e2 _ => ?_)
      have k12 := k1.trans k2
      have k1s := k12.1
      have k2s := k2.1
      refine OwnF.append apdOpen (o.kb k2) (v2.row1 (x := ((i : Int), 0, ns[i], 0)) (OpenW.r ⟨rng64 (by omega) (by omega), u80, hs, u80⟩) ⟨v2.lt, fun x hx => by have := o.hi x hx; omega⟩) (by simp only [maxLen]; omega) (by omega) k1s fun b4 c4 h4 o4 g4 => vSliceMk ⟨rng64 (by omega) (by omega), ih (i + 1) h4 b4 _ c4 (by omega) (Grow.kb0 k12 g4 o.lo) ?_⟩
      unfold rowTo
      rw [getD_get hil]; exact o4
  exact key n 0 h none 0 0 (by omega) (KB.refl h) (OwnF.none _ _ _)

/-! ### the chapter's example -/
def kA : List Bs := [[104, 116, 109, 108], [100, 105, 118], [112], [98]]
def kB : List Bs := [[104, 116, 109, 108], [112], [98, 117, 116, 116, 111, 110], [98]]
def kC : List Bs := [[104, 116, 109, 108], [117, 108], [108, 105], [112]]
def kD : List Bs := [[104, 116, 109, 108], [117, 108], [108, 105], [100, 105, 118], [98]]
theorem short_of {l : List OpenP} (hb : l.all (fun x => Nat.ble x.2.2.1.length 100) = true) : ∀ x ∈ l, x.2.2.1.length ≤ 9000000000000000000 := fun x hx => by
  have := Nat.le_of_ble_eq_true (List.all_eq_true.1 hb x hx); omega
theorem rowCall (ws : List Bs) {k : Nat} (hn : ws.length = k) (hk0 : k ≤ 1000000) (hs : shortB ws = true) (hl : Nat.ble ws.length maxLen = true) {h' : H} {a : Addr} {t : Nat} (v : Var h' a t (ws.map S)) {K : Value → H → Prop} (hk : ∀ b n c h2, OwnF elOpen h2 h'.size 37 b n c (rowTo ws k) → KB h' h2 → K (.slice b n c) h2) :
    HCalls Try.prog 24 ⟨[.slice (some a) k k]⟩ h' K := by
  subst hn
  exact row_calls (rowLit v hs hl) hk0 hk

theorem known_calls (m : ML h) {K : Value → H → Prop} (hk : ∀ h', KB h h' → K (.bool true) h') : HCalls Try.prog 9 ⟨[]⟩ h K := by
  refine Sx.l11_known.ok _ _ (newx_var (cs := kA.map S) fun a1 h1 v1 k1 _ _ => rowCall kA rfl (by decide) (by decide +kernel) (by decide +kernel) v1 fun b2 n2 c2 h2 o2 k2 => vSliceMk ?_)
  refine newx_var (cs := kB.map S) fun a3 h3 v3 k3 _ _ => rowCall kB rfl (by decide) (by decide +kernel) (by decide +kernel) v3 fun b4 n4 c4 h4 o4 k4 => vSliceMk ?_
  refine newx_var (cs := kC.map S) fun a5 h5 v5 k5 _ _ => rowCall kC rfl (by decide) (by decide +kernel) (by decide +kernel) v5 fun b6 n6 c6 h6 o6 k6 => vSliceMk ?_
  refine newx_var (cs := kD.map S) fun a7 h7 v7 k7 _ _ => rowCall kD rfl (by decide) (by decide +kernel) (by decide +kernel) v7 fun b8 n8 c8 h8 o8 k8 => vSliceMk ?_
  have k28 := (((((k3.trans k4).trans k5).trans k6).trans k7).trans k8)
  have k48 := (((k5.trans k6).trans k7).trans k8)
  have k68 := k7.trans k8
  have k08 := (k1.trans k2).trans k28
  have A8 := (o2.kb k28).row
  have B8 := (o4.kb k48).row
  have C8 := (o6.kb k68).row
  have D8 := o8.row
  refine newx_var (cs := [[112]].map S) fun a9 h9 v9 k9 _ _ => openIn_calls (ns := [[112]]) (m.kb (k08.trans k9)) (A := Bel h8.size) (fun k hk => Nat.lt_of_lt_of_le hk k9.1) (A8.kb k9) (short_of (by decide +kernel)) (rowLit v9 (by decide +kernel) (by decide +kernel)) fun h10 k10 => vBool_mk (condB (fun _ => ?_) fun e => absurd e (by decide +kernel))
  have k810 := k9.trans k10
  refine newx_var (cs := [[112]].map S) fun a11 h11 v11 k11 _ _ => openIn_calls (ns := [[112]]) (m.kb ((k08.trans k810).trans k11)) (A := Bel h8.size) (fun k hk => Nat.lt_of_lt_of_le hk (k810.trans k11).1) (B8.kb (k810.trans k11)) (short_of (by decide +kernel)) (rowLit v11 (by decide +kernel) (by decide +kernel)) fun h12 k12 => vBool_mk (condB (fun e => absurd e (by decide +kernel)) fun _ => ?_)
  have k812 := (k810.trans k11).trans k12
  refine newx_var (cs := [[120], [112]].map S) fun a13 h13 v13 k13 _ _ => openIn_calls (ns := [[120], [112]]) (m.kb ((k08.trans k812).trans k13)) (A := Bel h8.size) (fun k hk => Nat.lt_of_lt_of_le hk (k812.trans k13).1) (B8.kb (k812.trans k13)) (short_of (by decide +kernel)) (rowLit v13 (by decide +kernel) (by decide +kernel)) fun h14 k14 => vBool_mk (condB (fun _ => ?_) fun e => absurd e (by decide +kernel))
  have k814 := (k812.trans k13).trans k14
  refine condT (openImplied_calls (m.kb (k08.trans k814)) (A := Bel h8.size) (fun k hk => Nat.lt_of_lt_of_le hk k814.1) (C8.kb k814) (short_of (by decide +kernel)) fun h15 k15 => vIntMk (spl (fun _ => ?_) fun e => absurd (by decide +kernel) e))
  have k815 := k814.trans k15
  refine openImplied_calls (m.kb (k08.trans k815)) (A := Bel h8.size) (fun k hk => Nat.lt_of_lt_of_le hk k815.1) (C8.kb k815) (short_of (by decide +kernel)) fun h16 k16 => vIntMk (spl (fun _ => ?_) fun e => absurd (by decide +kernel) e)
  have k816 := k815.trans k16
  refine newx_var (cs := [[100, 105, 118]].map S) fun a17 h17 v17 k17 _ _ => openUntil_calls (ns := [[100, 105, 118]]) (A := Bel h8.size) (fun k hk => Nat.lt_of_lt_of_le hk (k816.trans k17).1) (A8.kb (k816.trans k17)) (rowLit v17 (by decide +kernel) (by decide +kernel)) fun h18 k18 => vIntMk (spl (fun _ => ?_) fun e => absurd (by decide +kernel) e)
  have k818 := (k816.trans k17).trans k18
  refine newx_var (cs := [[108, 105]].map S) fun a19 h19 v19 k19 _ _ => openItem_calls (ns := [[108, 105]]) (m.kb ((k08.trans k818).trans k19)) (A := Bel h8.size) (fun k hk => Nat.lt_of_lt_of_le hk (k818.trans k19).1) (D8.kb (k818.trans k19)) (short_of (by decide +kernel)) (rowLit v19 (by decide +kernel) (by decide +kernel)) fun h20 k20 => vIntMk (spl (fun _ => ?_) fun e => absurd (by decide +kernel) e)
  have k820 := (k818.trans k19).trans k20
  refine newx_var (cs := [[117, 108]].map S) fun a21 h21 v21 k21 _ _ => openClear_calls (ns := [[117, 108]]) (A := Bel h8.size) (fun k hk => Nat.lt_of_lt_of_le hk (k820.trans k21).1) (C8.kb (k820.trans k21)) (rowLit v21 (by decide +kernel) (by decide +kernel)) fun h22 k22 => vIntMk (spl (fun _ => ?_) fun e => absurd (by decide +kernel) e)
  have k022 := k08.trans ((k820.trans k21).trans k22)
  exact special_calls (m.kb k022) (by decide) (vBool_mk (condB (fun _ => formatting_calls (m.kb k022) (by decide) (vBool_mk (condB (fun _ => hk h22 k022) fun e => absurd e (by decide +kernel)))) fun e => absurd e (by decide +kernel)))

/-! ### the laws -/
theorem eqB {b : Bool} {X Y : Prop} (x : X) : cond b (cond b X Y) (cond b Y X) := by cases b <;> exact x

theorem lawIn_calls (m : ML h) (hA : ∀ k, A k → k < h.size) (r : Row elOpen A h b n c l) (hl : ∀ x ∈ l, x.2.2.1.length ≤ 9000000000000000000) (rn : Row elStr B h b2 n2 c2 ns) {K : Value → H → Prop} (hk : ∀ h', KB h h' → K (.bool true) h') :
    HCalls Try.prog 3 ⟨[.slice b n c, .int .u8 sc, .slice b2 n2 c2]⟩ h K := by
  refine Sx.l11_OpenIn.ok _ _ _ _ _ _ _ _ _ (much_calls r rn fun w hw => condB (fun _ => hk h (KB.refl h)) fun e => known_calls m fun h1 k1 => vBool_mk (condT ?_))
  refine openIn_calls (m.kb k1) (A := A) (fun k hk => Nat.lt_of_lt_of_le (hA k hk) k1.1) (r.kb k1) hl (rn.kb k1) fun h2 k2 => vBool_mk ?_
  have k12 := k1.trans k2
  cases hin : inP l sc ns
  · refine condF (refIn_calls' (r.kb k12) hl (rn.kb k12) fun h3 k3 => vBool_mk ?_)
    rw [hin]
    exact condF (hk h3 (k12.trans k3))
  · refine condT (refIn_calls' (r.kb k12) hl (rn.kb k12) fun h3 k3 => vBool_mk ?_)
    rw [hin]
    exact condT (hk h3 (k12.trans k3))

theorem lawKinds_calls (m : ML h) (hs : s.length ≤ 9000000000000000000) {K : Value → H → Prop} (hk : ∀ h', KB h h' → K (.bool true) h') :
    HCalls Try.prog 4 ⟨[.int .u8 sp, S s]⟩ h K := by
  refine Sx.l11_OpenKinds.ok _ _ _ _ (spl (fun _ => hk h (KB.refl h)) fun _ => known_calls m fun h1 k1 => vBool_mk (condT ?_))
  refine special_calls (m.kb k1) hs (vBool_mk ?_)
  cases hp : specialP sp s
  all_goals
    first | refine condF ?_ | refine condT ?_
    refine refSpecial_calls fun h2 k2 => vBool_mk ?_
    rw [hp]
    first | refine condF ?_ | refine condT ?_
    refine formatting_calls ((m.kb k1).kb k2) hs (vBool_mk ?_)
    cases hf : formattingP s
    all_goals
      first | refine condF ?_ | refine condT ?_
      refine refFormatting_calls fun h3 k3 => vBool_mk ?_
      rw [hf]
      exact hk h3 ((k1.trans k2).trans k3)

theorem lawCounts_calls (m : ML h) (hA : ∀ k, A k → k < h.size) (r : Row elOpen A h b n c l) (hl : ∀ x ∈ l, x.2.2.1.length ≤ 9000000000000000000) (rn : Row elStr B h b2 n2 c2 ns) {K : Value → H → Prop} (hk : ∀ h', KB h h' → K (.bool true) h') :
    HCalls Try.prog 5 ⟨[.slice b n c, S s, .slice b2 n2 c2]⟩ h K := by
  refine Sx.l11_OpenCounts.ok _ _ _ _ _ _ _ _ _ (much_calls r rn fun w hw => condB (fun _ => hk h (KB.refl h)) fun e => spl (fun _ => hk h (KB.refl h)) fun _ => ?_)
  refine openImplied_calls m hA r hl fun h1 k1 => vIntMk (refImplied_calls (r.kb k1) fun h2 k2 => vIntMk (splT rfl ?_))
  have k02 := k1.trans k2
  refine openUntil_calls (A := A) (fun k hk => Nat.lt_of_lt_of_le (hA k hk) k02.1) (r.kb k02) (rn.kb k02) fun h3 k3 => vIntMk (refUntil_calls ((r.kb k02).kb k3) ((rn.kb k02).kb k3) fun h4 k4 => vIntMk (splT rfl ?_))
  have k04 := (k02.trans k3).trans k4
  refine known_calls (m.kb k04) fun h5 k5 => vBool_mk (condT (condT ?_))
  have k05 := k04.trans k5
  refine openClear_calls (A := A) (fun k hk => Nat.lt_of_lt_of_le (hA k hk) k05.1) (r.kb k05) (rn.kb k05) fun h6 k6 => vIntMk (refClear_calls ((r.kb k05).kb k6) ((rn.kb k05).kb k6) fun h7 k7 => vIntMk (splT rfl ?_))
  have k07 := (k05.trans k6).trans k7
  refine openItem_calls (m.kb k07) (A := A) (fun k hk => Nat.lt_of_lt_of_le (hA k hk) k07.1) (r.kb k07) hl (rn.kb k07) fun h8 k8 => vIntMk (refItem_calls ((r.kb k07).kb k8) ((rn.kb k07).kb k8) fun h9 k9 => vIntMk (splT rfl ?_))
  exact hk h9 ((k07.trans k8).trans k9)
end
end Go.Proofs
