/- place: the chapter's Lower, point, Until, Where. No condition. -/
import Derived.Test.YtmnjhhgdhlgjfaaGreatPcR
import Derived.Test.YtmnjhhgdhlgjfaaGreatTxF
import Derived.Test.YtmnjhhgdhlgjfaaGreatDrF
namespace Go.Proofs
open Go Go.Sh
set_option linter.unusedVariables false
set_option maxRecDepth 100000
section
variable {A B : Nat → Prop} {h : H} {b b2 : Option Addr} {n c n2 c2 : Nat} {ns : List Bs} {s row : Bs} {x : OpenP}
theorem refIn_calls (r : Row elStr A h b n c ns) {K : Value → H → Prop} (hk : K (.bool (inNames ns s)) h) : HCalls Tryz.prog 92 ⟨[.slice b n c, S s]⟩ h K := by
  refine Sx.r11_in.ok _ _ _ _ _ _ ?_
  have hl := r.len
  have hm : n ≤ maxLen := Nat.le_trans r.cap r.max
  simp only [maxLen] at hm
  refine ⟨n + 1, ?_⟩
  have key : ∀ k i, i + k = n → (∀ j (h1 : j < ns.length), j < i → ns[j] ≠ s) →
      Sx.r11_in.n6_L (fun h => K (.bool false) h) (fun h => K (.bool false) h) (fun y4 h => K (.bool y4) h) (k + 1) b n c s (i : Int) h := by
    intro k
    induction k with
    | zero =>
      intro i hi hall
      refine splF (by omega) ?_
      have : inNames ns s = false := decide_eq_false fun hm => by
        obtain ⟨j, hj, e⟩ := List.mem_iff_getElem.1 hm
        exact absurd e (hall j hj (by omega))
      rwa [this] at hk
    | succ k ih =>
      intro i hi hall
      refine splT (by omega) (r.idxN (i := i) (by omega) rfl fun a hA => ldS hA fun _ => spl (fun e => ?_) fun e => ⟨rng64 (by omega) (by omega), ih (i + 1) (by omega) fun j h1 hj => ?_⟩)
      · have : inNames ns s = true := decide_eq_true (by rw [← e]; exact List.getElem_mem _)
        rwa [this] at hk
      · by_cases e2 : j < i
        · exact hall j h1 e2
        · have : j = i := by omega
          subst this
          exact e
  exact key n 0 (by omega) fun j _ hj => absurd hj (Nat.not_lt_zero _)

theorem refOne_calls (r : Row elStr A h b n c ns) {K : Value → H → Prop} (hk : ∀ h', KB h h' → K (.bool (oneP x ns)) h') : HCalls Tryz.prog 85 ⟨[.agg ⟨cellsO x⟩, .slice b n c]⟩ h K := by
  refine Sx.r11_one.ok _ _ _ _ _ _ _ _ _ (newx_var fun a h1 v1 k1 _ _ => ⟨_, v1.cell 1 rfl, spl (fun e => ⟨_, v1.cell 2 rfl, refIn_calls (r.kb k1) (vBool_mk (condK (K := fun b => K (.bool b) h1) ?_))⟩) fun e => ?_⟩)
  · have := hk h1 k1
    unfold oneP at this; rwa [decide_eq_true e, Bool.true_and] at this
  · have := hk h1 k1
    unfold oneP at this; rwa [decide_eq_false e, Bool.false_and] at this
end
section
variable {A B : Nat → Prop} {h : H} {b b2 : Option Addr} {n c n2 c2 : Nat} {l : List OpenP} {ns : List Bs} {s : Bs} {sc : Int}
theorem refUntil_calls (r : Row elOpen A h b n c l) (rn : Row elStr B h b2 n2 c2 ns) {K : Value → H → Prop} (hk : ∀ h', KB h h' → K (.int .i64 (untilP l ns)) h') :
    HCalls Tryz.prog 63 ⟨[.slice b n c, .slice b2 n2 c2]⟩ h K := by
  refine Sx.r11_Until.ok _ _ _ _ _ _ _ _ ?_
  have hln := r.len
  have hm : n ≤ maxLen := Nat.le_trans r.cap r.max
  simp only [maxLen] at hm
  refine ⟨rng64 (by omega) (by omega), n + 1, ?_⟩
  have key : ∀ i h5, i ≤ n → KB h h5 → scanTo (untilF ns) (-1) l i = untilP l ns →
      Sx.r11_Until.n6_L (fun h => K (.int .i64 (-1)) h) (fun h => K (.int .i64 (-1)) h) (fun y6 h => K (.int .i64 y6) h) (i + 1) b n c b2 n2 c2 ((i : Int) - 1) h5 := by
    intro i
    induction i with
    | zero =>
      intro h5 _ k5 e
      refine splF (by omega) ?_
      have := hk h5 k5
      rw [← e] at this; exact this
    | succ i ih =>
      intro h5 hi k5 e
      have hil : i < l.length := by omega
      have hx : ((i + 1 : Nat) : Int) - 1 = (i : Int) := by omega
      rw [hx]
      unfold scanTo at e
      rw [getD_get hil] at e
      have r5 := r.kb k5
      refine splT (by omega) (r5.idxN hil rfl fun a hA => ldOpen hA fun _ => refOne_calls (rn.kb k5) fun h6 k6 => vBool_mk (condB (fun ht => ?_) fun hf => ⟨rng64 (by omega) (by omega), ih h6 (by omega) (k5.trans k6) ?_⟩))
      · rw [show untilF ns i l[i] = some (i : Int) by unfold untilF; rw [if_pos ht]] at e
        have := hk h6 (k5.trans k6)
        rw [← e] at this; exact this
      · rw [show untilF ns i l[i] = none by unfold untilF; rw [if_neg (by rw [hf]; simp)]] at e
        exact e
  exact key n h (Nat.le_refl _) (KB.refl h) (by rw [← hln]; rfl)
end
/-! ### Lower -/
theorem apdByte : Apd Tryz.prog elB 122 5 1 := apd_of (sz := 1) (by kernel_rfl) rfl
theorem flatByte : Flat elB := fun _ _ _ _ _ _ h => h
theorem low8_wrap : ∀ c : Fin 256, 65 ≤ c.val → c.val ≤ 90 → IntKind.wrap .u8 ((c.val : Int) + 32) = ((c.val + 32 : Nat) : Int) := by decide +kernel
theorem low8_up {c : UInt8} (h1 : 65 ≤ c.toNat) (h2 : c.toNat ≤ 90) : IntKind.wrap .u8 ((c.toNat : Int) + 32) = ((low8 c).toNat : Int) := by
  have := low8_wrap ⟨c.toNat, c.toNat_lt⟩ h1 h2
  rw [this]
  unfold low8
  rw [if_pos ⟨h1, h2⟩]
  have h3 : (c + 32).toNat = c.toNat + 32 := by
    rw [UInt8.toNat_add]
    show (c.toNat + 32) % 256 = _
    exact Nat.mod_eq_of_lt (by omega)
  rw [h3]
theorem low8_same {c : UInt8} (h : ¬ (65 ≤ c.toNat ∧ c.toNat ≤ 90)) : low8 c = c := if_neg h
section
variable {h : H} {K : Value → H → Prop}
theorem refLower_calls {s : Bs} (hs : s.length ≤ 100000000) (hk : ∀ h', KB h h' → K (S (lowT s)) h') : HCalls Tryz.prog 71 ⟨[S s]⟩ h K := by
  refine Sx.r02_Lower.ok _ _ _ ⟨s.length + 1, ?_⟩
  have key : ∀ k i h2 ob oc, i + k = s.length → OwnF elB h2 h.size 5 ob i oc (lowT (s.take i)) → KB h h2 →
      Sx.r02_Lower.n7_L (fun z3b z3n z3c h => Sx.r02_Lower.n4 z3b z3n z3c (fun y2 h => K (S y2) h) (fun y2 h => K (S y2) h) h) (fun z3b z3n z3c h => Sx.r02_Lower.n4 z3b z3n z3c (fun y2 h => K (S y2) h) (fun y2 h => K (S y2) h) h) (fun y2 h => K (S y2) h) (k + 1) s ob i oc (i : Int) h2 := by
    intro k
    induction k with
    | zero =>
      intro i h2 ob oc hi o k2
      refine splF (by omega) ?_
      rw [List.take_of_length_le (by omega)] at o
      exact strOf_k Tryz.underlying122 Tryz.underlying5 Tryz.underlying9 o.row (vStrMk (hk h2 k2))
    | succ k ih =>
      intro i h2 ob oc hi o k2
      have hil : i < s.length := by omega
      have hg : (List.getD s (Int.toNat (i : Int)) 0) = s[i] := by rw [Int.toNat_natCast]; exact getD_get hil
      have hst : lowT (s.take (i + 1)) = lowT (s.take i) ++ [low8 s[i]] := by
        unfold lowT
        rw [List.take_add_one, List.getElem?_eq_getElem hil, List.map_append]; rfl
      have one : ∀ v : Int, v = ((low8 s[i]).toNat : Int) → newx h2 #[(.int .u8 v)] 5 fun a36 h37 => SemH Tryz.prog (Builtin.append_ #[122, 122] 122 ⟨[(.slice ob i oc), (.slice (some a36) 1 1)]⟩) h37 fun v38 h39 => vSlice v38 fun s40b s40n s40c => Rng .i64 ((i : Int) + 1) ∧ Sx.r02_Lower.n7_L (fun z3b z3n z3c h => Sx.r02_Lower.n4 z3b z3n z3c (fun y2 h => K (S y2) h) (fun y2 h => K (S y2) h) h) (fun z3b z3n z3c h => Sx.r02_Lower.n4 z3b z3n z3c (fun y2 h => K (S y2) h) (fun y2 h => K (S y2) h) h) (fun y2 h => K (S y2) h) (k + 1) s s40b s40n s40c ((i : Int) + 1) h39 := by
        intro v hv
        subst hv
        refine one_appG apdByte (x := low8 s[i]) (cs := [.int .u8 ((low8 s[i]).toNat : Int)]) (fun A h => rfl) o k2.1 (by simp only [maxLen]; omega) (by omega) fun b' c' h' o' k' => vSliceMk ⟨rng64 (by omega) (by omega), ?_⟩
        exact ih (i + 1) h' b' c' (by omega) (by rw [hst]; exact o') (SK.trans k2 (k'.less fun q hq => ⟨Nat.lt_of_lt_of_le hq k2.1, fun a ea e2 => by have := o.lo a ea; have hq : q < h.size := hq; omega⟩))
      refine splT (by omega) ⟨⟨by omega, by omega⟩, ?_⟩
      rw [hg]
      refine spl (fun e1 => spl (fun e2 => one _ (low8_up (by omega) (by omega))) fun e2 => one _ ?_) fun e1 => one _ ?_
      · rw [low8_same (by omega)]
      · rw [low8_same (by omega)]
  exact key s.length 0 h none 0 (by omega) (OwnF.none _ _ _) (KB.refl h)
end
/-! ### point -/
section
variable {A : Nat → Prop} {h : H} {K : Value → H → Prop} {b : Option Addr} {n c : Nat} {attrs : List AttrP} {sp tk : Int} {nm tx : Bs} {cl : Bool}
theorem refPoint_calls (r : Row elAttr A h b n c attrs) (hv : AttrsW attrs) (hk : ∀ h', KB h h' → K (.int .u8 (pointM sp nm attrs)) h') :
    HCalls Tryz.prog 35 ⟨[.int .u8 sp, .agg ⟨[.int .u8 tk, S nm, .slice b n c, .bool cl, S tx]⟩]⟩ h K := by
  refine Sx.r13_point.ok _ _ _ _ _ _ _ _ _ _ (newx_var fun a h1 v1 k1 e1 s1 => ⟨_, v1.cell 1 rfl, ?_⟩)
  have r1 := r.kb k1
  have hl := r1.len
  have hmx : n ≤ maxLen := Nat.le_trans r.cap r.max
  simp only [maxLen] at hmx
  have res : ∀ v h', KB h h' → pointM sp nm attrs = v → K (.int .u8 v) h' := fun v h' k' e => by rw [← e]; exact hk h' k'
  refine spl (fun e1 => condT ?_) fun e1 => condF (spl (fun e2 => condT ?_) fun e2 => condF ?_)
  · have yes : nm ∈ wSVG → K (.int .u8 2) h1 := fun hm => res 2 h1 k1 (by
      unfold pointM
      rw [if_pos ⟨e1, by unfold specialP inNames; rw [if_neg (by decide), if_neg (by decide), if_pos rfl]; exact decide_eq_true hm⟩])
    refine spl (fun e => yes (by rw [e]; decide)) fun e3 => spl (fun e => yes (by rw [e]; decide)) fun e4 => spl (fun e => yes (by rw [e]; decide)) fun e5 => res 0 h1 k1 ?_
    have hno : ¬ (sp = 1 ∧ specialP 1 nm = true) := fun h => by
      have h2 := h.2
      unfold specialP inNames at h2
      rw [if_neg (by decide), if_neg (by decide), if_pos rfl] at h2
      have hm := of_decide_eq_true h2
      simp only [wSVG, List.mem_cons, List.not_mem_nil, or_false] at hm
      rcases hm with h | h | h
      · exact e3 h
      · exact e4 h
      · exact e5 h
    unfold pointM
    rw [if_neg hno, if_pos (fun h => by omega)]
  · have hno : ¬ (sp = 1 ∧ specialP 1 nm = true) := fun h => by omega
    have spec : specialP 2 nm = inNames wMath nm := rfl
    have yes : nm ∈ wMath → nm ≠ wAnn → K (.int .u8 1) h1 := fun hm hne => res 1 h1 k1 (by
      unfold pointM
      rw [if_neg hno, if_neg (fun h => h ⟨e2, by rw [spec]; exact decide_eq_true hm⟩), if_pos hne])
    refine spl (fun e => yes (by rw [e]; decide) (by rw [e]; decide)) fun e3 => spl (fun e => yes (by rw [e]; decide) (by rw [e]; decide)) fun e4 => spl (fun e => yes (by rw [e]; decide) (by rw [e]; decide)) fun e5 => spl (fun e => yes (by rw [e]; decide) (by rw [e]; decide)) fun e6 => spl (fun e => yes (by rw [e]; decide) (by rw [e]; decide)) fun e7 => ?_
    have only : nm ∈ wMath → nm = wAnn := fun hm => by
      simp only [wMath, List.mem_cons, List.not_mem_nil, or_false] at hm
      rcases hm with h | h | h | h | h | h
      · exact h
      · exact absurd h e3
      · exact absurd h e4
      · exact absurd h e5
      · exact absurd h e6
      · exact absurd h e7
    have zero : (nm = wAnn → attrs.any encB1 = false) → pointM sp nm attrs = 0 := fun hz => by
      unfold pointM
      rw [if_neg hno]
      by_cases hm : nm ∈ wMath
      · have e := only hm
        rw [if_neg (fun h => h ⟨e2, by rw [spec]; exact decide_eq_true hm⟩), if_neg (fun h => h e), if_neg (by rw [hz e]; decide)]
      · rw [if_pos (fun h => by have := h.2; rw [spec] at this; exact hm (of_decide_eq_true this))]
    refine ⟨n + 1, ?_⟩
    have key : ∀ k i h2, i + k = n → (nm = wAnn → (attrs.take i).any encB1 = false) → KB h1 h2 →
        Sx.r13_point.n15_L (fun h => Sx.r13_point.n4 (fun y4 h => K (.int .u8 y4) h) (fun y4 h => K (.int .u8 y4) h) h) (fun h => Sx.r13_point.n4 (fun y4 h => K (.int .u8 y4) h) (fun y4 h => K (.int .u8 y4) h) h) (fun h => Sx.r13_point.n4 (fun y4 h => K (.int .u8 y4) h) (fun y4 h => K (.int .u8 y4) h) h) (fun y4 h => K (.int .u8 y4) h) (k + 1) a nm (i : Int) h2 := by
      intro k
      induction k with
      | zero =>
        intro i h2 hi hno2 k2
        refine ⟨_, _, _, (v1.kb k2).cell 2 rfl, splF (by omega) (res 0 h2 (k1.trans k2) (zero fun e => ?_))⟩
        have := hno2 e
        rwa [List.take_of_length_le (by omega)] at this
      | succ k ih =>
        intro i h2 hi hno2 k2
        have hil : i < attrs.length := by omega
        refine ⟨_, _, _, (v1.kb k2).cell 2 rfl, splT (by omega) (spl (fun ea => ?_) fun ea => res 0 h2 (k1.trans k2) (zero fun e => absurd e ea))⟩
        have ea : nm = wAnn := ea
        refine ⟨_, _, _, (v1.kb k2).cell 2 rfl, (r1.kb k2).idxN (i := i) hil rfl fun q hA => ⟨_, hA.snd.str.1, refLower_calls (hv _ (List.getElem_mem hil)) fun h3 k3 => vStrMk ?_⟩⟩
        have k23 := k2.trans k3
        refine ⟨_, _, _, (v1.kb k23).cell 2 rfl, (r1.kb k23).idxN (i := i) hil rfl fun q2 hA2 => ⟨_, hA2.fst.str.1, ?_⟩⟩
        have hst : (attrs.take (i + 1)).any encB1 = encB1 attrs[i] := by
          rw [List.take_add_one, List.getElem?_eq_getElem hil, List.any_append, hno2 ea]
          simp
        have next : encB1 attrs[i] = false → Rng .i64 ((i : Int) + 1) ∧ Sx.r13_point.n15_L (fun h => Sx.r13_point.n4 (fun y4 h => K (.int .u8 y4) h) (fun y4 h => K (.int .u8 y4) h) h) (fun h => Sx.r13_point.n4 (fun y4 h => K (.int .u8 y4) h) (fun y4 h => K (.int .u8 y4) h) h) (fun h => Sx.r13_point.n4 (fun y4 h => K (.int .u8 y4) h) (fun y4 h => K (.int .u8 y4) h) h) (fun y4 h => K (.int .u8 y4) h) (k + 1) a nm ((i : Int) + 1) h3 := fun he =>
          ⟨rng64 (by omega) (by omega), ih (i + 1) h3 (by omega) (fun _ => by rw [hst]; exact he) k23⟩
        have yes2 : encB1 attrs[i] = true → K (.int .u8 2) h3 := fun he => res 2 h3 (k1.trans k23) (by
          unfold pointM
          rw [if_neg hno, if_neg (fun h => h ⟨e2, by rw [spec, ea]; decide⟩), if_neg (fun h => h ea), if_pos (List.any_eq_true.2 ⟨_, List.getElem_mem hil, he⟩)])
        refine spl (fun e1 => spl (fun e2 => yes2 ?_) fun e2 => spl (fun e3 => yes2 ?_) fun e3 => next ?_) fun e1 => next ?_
        · unfold encB1
          rw [decide_eq_true (show attrs[i].1 = wEnc from e1), decide_eq_true (show lowT attrs[i].2 = wTH from e2)]; rfl
        · unfold encB1
          rw [decide_eq_true (show attrs[i].1 = wEnc from e1), decide_eq_true (show lowT attrs[i].2 = wXH from e3), Bool.or_true]; rfl
        · unfold encB1
          rw [decide_eq_false (show ¬ lowT attrs[i].2 = wTH from e2), decide_eq_false (show ¬ lowT attrs[i].2 = wXH from e3)]; simp
        · unfold encB1
          rw [decide_eq_false (show ¬ attrs[i].1 = wEnc from e1)]; rfl
    exact key n 0 h1 (by omega) (fun _ => rfl) (KB.refl _)
  · refine res 0 h1 k1 ?_
    unfold pointM
    rw [if_neg (fun h => e1 h.1), if_pos (fun h => e2 h.1)]
end
/-! ### Current, Where -/
section
variable {h : H} {K : Value → H → Prop} {col : Col} {s s0 : Nat} {w t : Addr} {ns : List NodeM} {op : List OpenP} {mk : List MarkP} {fo : Bool} {hi : Int} {x : OpenP}
theorem refParentM_calls (T : RefP h col s t ns) (G : GoodT ns) {id : Int} (hk : K (.int .i64 (parentM ns id)) h) : HCalls Tryz.prog 64 ⟨[.pointer (some t), .int .i64 id]⟩ h K := by
  have hneg : id < 0 → parI ns id = -1 := fun h => by
    obtain ⟨r, hr, e⟩ := G.root
    unfold parI
    rw [Int.toNat_of_nonpos (by omega), hr]
    exact e
  have e : parentM ns id = parI ns id := by
    unfold parentM
    by_cases h0 : 0 ≤ id
    · rw [if_pos h0]; rfl
    · rw [if_neg h0, hneg (by omega)]
  rw [e] at hk
  exact parent_r T hk hneg
theorem refCurrent_calls (W : WorldW h col s 45 w t op mk fo hi) (hne : 0 < op.length) (hl : op.length ≤ 1000000) (hk : ∀ h', KB h h' → K (.agg ⟨cellsO (curM op)⟩) h') :
    HCalls Tryz.prog 10 ⟨[.pointer (some w)]⟩ h K := by
  obtain ⟨ob, oc, mb, mn, mc, v, o, om⟩ := W.ex
  have e : ((op.length : Int) - 1) = ((op.length - 1 : Nat) : Int) := by omega
  refine Sx.r13_World_Current.ok _ _ _ (newx_var fun a1 h1 v1 k1 e1 s1 => vSomeMk ⟨_, _, _, (v.kb k1).cell 1 rfl, vSomeMk ⟨_, _, _, (v.kb k1).cell 1 rfl, rng64 (by omega) (by omega), ?_⟩⟩)
  rw [e]
  have hx : op[op.length - 1]'(by omega) = curM op := (getD_get (by omega)).symm
  exact (o.kb k1).row.idxN (i := op.length - 1) (by omega) rfl fun q hA => ldOpen hA fun ow => stL_var0 v1 (by show 4 ≤ 4; omega) fun h2 v2 k2 s2 => ldVar (m := op[op.length - 1]'(by omega)) v2 (by rw [hx]; exact hk h2 (KB.step k1 k2 (by omega)))
theorem refWhere_calls (T : RefP h col s0 t ns) (G : GoodT ns) (W : WorldW h col s 45 w t op mk fo hi) (hl : op.length ≤ 1000000) (hk : ∀ h', KB h h' → K (.tuple ⟨[.int .i64 (whereM ns op fo x).1, .int .i64 (whereM ns op fo x).2]⟩) h') :
    HCalls Tryz.prog 32 ⟨[.pointer (some w), .agg ⟨cellsO x⟩]⟩ h K := by
  obtain ⟨ob, oc, mb, mn, mc, v, o, om⟩ := W.ex
  refine Sx.r13_World_Where.ok _ _ _ _ _ _ _ (newx_var fun a1 h1 v1 k1 e1 s1 => ?_)
  have res : ∀ p h', KB h h' → whereM ns op fo x = p → K (.tuple ⟨[.int .i64 p.1, .int .i64 p.2]⟩) h' := fun p h' k' e => by rw [← e]; exact hk h' k'
  have k3 : ∀ g : Bool, g = inNames wGrid x.2.2.1 → Sx.r13_World_Where.n3 (some w) a1 g (fun y4 y5 h => K (.tuple ⟨[(.int .i64 y4), (.int .i64 y5)]⟩) h) (fun y4 y5 h => K (.tuple ⟨[(.int .i64 y4), (.int .i64 y5)]⟩) h) h1 := by
    intro g hg
    have no : (fo && gridB x) = false → ∃ i, cell h1 (a1.add 0) = some (.int .i64 i) ∧ K (.tuple ⟨[(.int .i64 i), (.int .i64 (-1))]⟩) h1 := fun e => ⟨_, v1.cell 0 rfl, res (x.1, -1) h1 k1 (by unfold whereM; rw [e]; rfl)⟩
    refine vSomeMk ⟨_, (v.kb k1).cell 3 rfl, condB (fun ef => ⟨_, v1.cell 1 rfl, spl (fun esp => condB (fun eg => ?_) fun eg => no ?_) fun esp => no ?_⟩) fun ef => no (by rw [ef]; rfl)⟩
    · -- in the table
      have hgr : (fo && gridB x) = true := by unfold gridB; rw [ef, ← hg, eg, decide_eq_true (show x.2.1 = 0 from esp)]; rfl
      refine vSomeMk ⟨_, _, _, (v.kb k1).cell 1 rfl, newx_var fun a3 h3 v3 k3 e3 s3 => ?_⟩
      have k13 := k1.trans k3
      refine refUntil_calls (o.kb k13).row (rowLit (ws := wTab) v3 (by decide) (by decide)) fun h4 k4 => vIntMk ?_
      have k14 := k13.trans k4
      have v4 := v.kb k14
      have o4 := (o.kb k14).row
      have hru : -1 ≤ untilP op wTab ∧ untilP op wTab < (op.length : Int) := until_range wTab op op.length
      refine spl (fun hneg => res (0, -1) h4 k14 (by unfold whereM; rw [if_pos hgr, if_pos hneg])) fun hpos => ?_
      have hkn : (untilP op wTab).toNat < op.length := by omega
      have hg2 : op[(untilP op wTab).toNat] = op.getD (untilP op wTab).toNat noOpen := (getD_get hkn).symm
      refine vSomeMk ⟨_, v4.cell 0 rfl, vSomeMk ⟨_, _, _, v4.cell 1 rfl, o4.idx (i := untilP op wTab) (by omega) (by omega) rfl fun q hi hA => ⟨_, hA.fst.int.1, ?_⟩⟩⟩
      rw [hg2]
      refine refParentM_calls (T.kb k14) G (vIntMk (spl (fun hp => ?_) fun hp => ?_))
      · refine vSomeMk ⟨_, _, _, v4.cell 1 rfl, o4.idx (i := untilP op wTab) (by omega) (by omega) rfl fun q hi hA => ⟨_, hA.fst.int.1, ?_⟩⟩
        rw [hg2]
        exact res (parentM ns (op.getD (untilP op wTab).toNat noOpen).1, (op.getD (untilP op wTab).toNat noOpen).1) h4 k14 (by unfold whereM; rw [if_pos hgr, if_neg hpos, if_pos hp])
      · have e : (if (0 : Int) > (untilP op wTab - 1) then (0 : Int) else (untilP op wTab - 1)) = (((untilP op wTab).toNat - 1 : Nat) : Int) := by split <;> omega
        refine vSomeMk ⟨_, _, _, v4.cell 1 rfl, rng64 (by omega) (by omega), ?_⟩
        rw [e]
        refine o4.idxN (i := (untilP op wTab).toNat - 1) (by omega) rfl fun q hA => ⟨_, hA.fst.int.1, ?_⟩
        have hg3 : op[(untilP op wTab).toNat - 1]'(by omega) = op.getD ((untilP op wTab).toNat - 1) noOpen := (getD_get (by omega)).symm
        rw [hg3]
        exact res ((op.getD ((untilP op wTab).toNat - 1) noOpen).1, -1) h4 k14 (by unfold whereM; rw [if_pos hgr, if_neg hpos, if_neg hp])
    · unfold gridB; rw [← hg, eg]; simp
    · unfold gridB; rw [decide_eq_false (show ¬ x.2.1 = 0 from esp)]; simp
  have yes : x.2.2.1 ∈ wGrid → true = inNames wGrid x.2.2.1 := fun hm => (decide_eq_true hm).symm
  refine ⟨_, v1.cell 2 rfl, spl (fun e => k3 _ (yes (by rw [e]; decide))) fun e1 => ⟨_, v1.cell 2 rfl, spl (fun e => k3 _ (yes (by rw [e]; decide))) fun e2 => ⟨_, v1.cell 2 rfl, spl (fun e => k3 _ (yes (by rw [e]; decide))) fun e3 => ⟨_, v1.cell 2 rfl, spl (fun e => k3 _ (yes (by rw [e]; decide))) fun e4 => ⟨_, v1.cell 2 rfl, spl (fun e => k3 _ (yes (by rw [e]; decide))) fun e5 => k3 _ ?_⟩⟩⟩⟩⟩
  refine (decide_eq_false fun hm => ?_).symm
  simp only [wGrid, List.mem_cons, List.not_mem_nil, or_false] at hm
  rcases hm with h | h | h | h | h
  · exact e1 h
  · exact e2 h
  · exact e3 h
  · exact e4 h
  · exact e5 h
end
end Go.Proofs
