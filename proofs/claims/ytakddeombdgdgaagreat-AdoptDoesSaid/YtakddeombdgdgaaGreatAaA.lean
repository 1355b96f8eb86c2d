import Derived.Test.YtakddeombdgdgaaGreatDrF
import Derived.Test.YtakddeombdgdgaaGreatTxF
import Derived.Test.YtakddeombdgdgaaGreatTxG
import Derived.Test.YtakddeombdgdgaaGreatMsK
namespace Go.Proofs
open Go Go.Sh
set_option linter.unusedVariables false
set_option maxRecDepth 100000
section
variable {A B : Nat -> Prop} {h : H} {b b2 : Option Addr} {n c n2 c2 : Nat} {ns : List Bs} {s row : Bs} {x : OpenP}
theorem refIn_calls (r : Row elStr A h b n c ns) {K : Value -> H -> Prop} (hk : K (.bool (inNames ns s)) h) : HCalls Tryz.prog 93 ⟨[.slice b n c, S s]⟩ h K := by
  refine Sx.r11_in.ok _ _ _ _ _ _ ?_
  have hl := r.len
  have hm : n <= maxLen := Nat.le_trans r.cap r.max
  simp only [maxLen] at hm
  refine ⟨n + 1, ?_⟩
  have key : ∀ k i, i + k = n -> (∀ j (h1 : j < ns.length), j < i -> ns[j] ≠ s) ->
      Sx.r11_in.n6_L (fun h => K (.bool false) h) (fun h => K (.bool false) h) (fun y4 h => K (.bool y4) h) (k + 1) b n c s (i : Int) h := by
    intro k
    induction k with
    | zero =>
      intro i hi hall
      refine splF (by omega) ?_
      have : inNames ns s = false := decide_eq_false fun hm => by
        obtain ⟨j, hj, e⟩ := List.mem_iff_getElem.1 hm
        exact absurd e (hall j hj (by omega))
      rwa [this] at hk
    | succ k ih =>
      intro i hi hall
      refine splT (by omega) (r.idxN (i := i) (by omega) rfl fun a hA => ldS hA fun _ => spl (fun e => ?_) fun e => ⟨rng64 (by omega) (by omega), ih (i + 1) (by omega) fun j h1 hj => ?_⟩)
      · have : inNames ns s = true := decide_eq_true (by rw [<- e]; exact List.getElem_mem _)
        rwa [this] at hk
      · by_cases e2 : j < i
        · exact hall j h1 e2
        · have : j = i := by omega
          subst this
          exact e
  exact key n 0 (by omega) fun j _ hj => absurd hj (Nat.not_lt_zero _)
theorem refOne_calls (r : Row elStr A h b n c ns) {K : Value -> H -> Prop} (hk : ∀ h', KB h h' -> K (.bool (oneP x ns)) h') : HCalls Tryz.prog 100 ⟨[.agg ⟨cellsO x⟩, .slice b n c]⟩ h K := by
  refine Sx.r11_one.ok _ _ _ _ _ _ _ _ _ (newx_var fun a h1 v1 k1 _ _ => ⟨_, v1.cell 1 rfl, spl (fun e => ⟨_, v1.cell 2 rfl, refIn_calls (r.kb k1) (vBool_mk (condK (K := fun b => K (.bool b) h1) ?_))⟩) fun e => ?_⟩)
  · have := hk h1 k1
    unfold oneP at this; rwa [decide_eq_true e, Bool.true_and] at this
  · have := hk h1 k1
    unfold oneP at this; rwa [decide_eq_false e, Bool.false_and] at this
end
section
variable {A B : Nat -> Prop} {h : H} {b b2 : Option Addr} {n c n2 c2 : Nat} {l : List OpenP} {ns : List Bs} {s : Bs} {sc : Int}
theorem refUntil_calls (r : Row elOpen A h b n c l) (rn : Row elStr B h b2 n2 c2 ns) {K : Value -> H -> Prop} (hk : ∀ h', KB h h' -> K (.int .i64 (untilP l ns)) h') :
    HCalls Tryz.prog 71 ⟨[.slice b n c, .slice b2 n2 c2]⟩ h K := by
  refine Sx.r11_Until.ok _ _ _ _ _ _ _ _ ?_
  have hln := r.len
  have hm : n <= maxLen := Nat.le_trans r.cap r.max
  simp only [maxLen] at hm
  refine ⟨rng64 (by omega) (by omega), n + 1, ?_⟩
  have key : ∀ i h5, i <= n -> KB h h5 -> scanTo (untilF ns) (-1) l i = untilP l ns ->
      Sx.r11_Until.n6_L (fun h => K (.int .i64 (-1)) h) (fun h => K (.int .i64 (-1)) h) (fun y6 h => K (.int .i64 y6) h) (i + 1) b n c b2 n2 c2 ((i : Int) - 1) h5 := by
    intro i
    induction i with
    | zero =>
      intro h5 _ k5 e
      refine splF (by omega) ?_
      have := hk h5 k5
      rw [<- e] at this; exact this
    | succ i ih =>
      intro h5 hi k5 e
      have hil : i < l.length := by omega
      have hx : ((i + 1 : Nat) : Int) - 1 = (i : Int) := by omega
      rw [hx]
      unfold scanTo at e
      rw [getD_get hil] at e
      have r5 := r.kb k5
      refine splT (by omega) (r5.idxN hil rfl fun a hA => ldOpen hA fun _ => refOne_calls (rn.kb k5) fun h6 k6 => vBool_mk (condB (fun ht => ?_) fun hf => ⟨rng64 (by omega) (by omega), ih h6 (by omega) (k5.trans k6) ?_⟩))
      · rw [show untilF ns i l[i] = some (i : Int) by unfold untilF; rw [if_pos ht]] at e
        have := hk h6 (k5.trans k6)
        rw [<- e] at this; exact this
      · rw [show untilF ns i l[i] = none by unfold untilF; rw [if_neg (by rw [hf]; simp)]] at e
        exact e
  exact key n h (Nat.le_refl _) (KB.refl h) (by rw [<- hln]; rfl)
end
theorem apdByte : Apd Tryz.prog elB 141 5 1 := apd_of (sz := 1) (by kernel_rfl) rfl
theorem low8_wrap : ∀ c : Fin 256, 65 <= c.val -> c.val <= 90 -> IntKind.wrap .u8 ((c.val : Int) + 32) = ((c.val + 32 : Nat) : Int) := by decide +kernel
theorem low8_up {c : UInt8} (h1 : 65 <= c.toNat) (h2 : c.toNat <= 90) : IntKind.wrap .u8 ((c.toNat : Int) + 32) = ((low8 c).toNat : Int) := by
  have := low8_wrap ⟨c.toNat, c.toNat_lt⟩ h1 h2
  rw [this]
  unfold low8
  rw [if_pos ⟨h1, h2⟩]
  have h3 : (c + 32).toNat = c.toNat + 32 := by
    rw [UInt8.toNat_add]
    show (c.toNat + 32) % 256 = _
    exact Nat.mod_eq_of_lt (by omega)
  rw [h3]
theorem low8_same {c : UInt8} (h : ¬ (65 <= c.toNat /\ c.toNat <= 90)) : low8 c = c := if_neg h
section
variable {h : H} {K : Value -> H -> Prop}
theorem refLower_calls {s : Bs} (hs : s.length <= 100000000) (hk : ∀ h', KB h h' -> K (S (lowT s)) h') : HCalls Tryz.prog 79 ⟨[S s]⟩ h K := by
  refine Sx.r02_Lower.ok _ _ _ ⟨s.length + 1, ?_⟩
  have key : ∀ k i h2 ob oc, i + k = s.length -> OwnF elB h2 h.size 5 ob i oc (lowT (s.take i)) -> KB h h2 ->
      Sx.r02_Lower.n7_L (fun z3b z3n z3c h => Sx.r02_Lower.n4 z3b z3n z3c (fun y2 h => K (S y2) h) (fun y2 h => K (S y2) h) h) (fun z3b z3n z3c h => Sx.r02_Lower.n4 z3b z3n z3c (fun y2 h => K (S y2) h) (fun y2 h => K (S y2) h) h) (fun y2 h => K (S y2) h) (k + 1) s ob i oc (i : Int) h2 := by
    intro k
    induction k with
    | zero =>
      intro i h2 ob oc hi o k2
      refine splF (by omega) ?_
      rw [List.take_of_length_le (by omega)] at o
      exact strOf_k Tryz.underlying141 Tryz.underlying5 Tryz.underlying9 o.row (vStrMk (hk h2 k2))
    | succ k ih =>
      intro i h2 ob oc hi o k2
      have hil : i < s.length := by omega
      have hg : (List.getD s (Int.toNat (i : Int)) 0) = s[i] := by rw [Int.toNat_natCast]; exact getD_get hil
      have hst : lowT (s.take (i + 1)) = lowT (s.take i) ++ [low8 s[i]] := by
        unfold lowT
        rw [List.take_add_one, List.getElem?_eq_getElem hil, List.map_append]; rfl
      have one : ∀ v : Int, v = ((low8 s[i]).toNat : Int) -> newx h2 #[(.int .u8 v)] 5 fun a36 h37 => SemH Tryz.prog (Builtin.append_ #[141, 141] 141 ⟨[(.slice ob i oc), (.slice (some a36) 1 1)]⟩) h37 fun v38 h39 => vSlice v38 fun s40b s40n s40c => Rng .i64 ((i : Int) + 1) /\ Sx.r02_Lower.n7_L (fun z3b z3n z3c h => Sx.r02_Lower.n4 z3b z3n z3c (fun y2 h => K (S y2) h) (fun y2 h => K (S y2) h) h) (fun z3b z3n z3c h => Sx.r02_Lower.n4 z3b z3n z3c (fun y2 h => K (S y2) h) (fun y2 h => K (S y2) h) h) (fun y2 h => K (S y2) h) (k + 1) s s40b s40n s40c ((i : Int) + 1) h39 := by
        intro v hv
        subst hv
        refine one_appG apdByte (x := low8 s[i]) (cs := [.int .u8 ((low8 s[i]).toNat : Int)]) (fun A h => rfl) o k2.1 (by simp only [maxLen]; omega) (by omega) fun b' c' h' o' k' => vSliceMk ⟨rng64 (by omega) (by omega), ?_⟩
        exact ih (i + 1) h' b' c' (by omega) (by rw [hst]; exact o') (SK.trans k2 (k'.less fun q hq => ⟨Nat.lt_of_lt_of_le hq k2.1, fun a ea e2 => by have := o.lo a ea; have hq : q < h.size := hq; omega⟩))
      refine splT (by omega) ⟨⟨by omega, by omega⟩, ?_⟩
      rw [hg]
      refine spl (fun e1 => spl (fun e2 => one _ (low8_up (by omega) (by omega))) fun e2 => one _ ?_) fun e1 => one _ ?_
      · rw [low8_same (by omega)]
      · rw [low8_same (by omega)]
  exact key s.length 0 h none 0 (by omega) (OwnF.none _ _ _) (KB.refl h)
end
section
variable {A : Nat -> Prop} {h : H} {K : Value -> H -> Prop} {b : Option Addr} {n c : Nat} {attrs : List AttrP} {sp tk : Int} {nm tx : Bs} {cl : Bool}
theorem refPoint_calls (r : Row elAttr A h b n c attrs) (hv : AttrsW attrs) (hk : ∀ h', KB h h' -> K (.int .u8 (pointM sp nm attrs)) h') :
    HCalls Tryz.prog 33 ⟨[.int .u8 sp, .agg ⟨[.int .u8 tk, S nm, .slice b n c, .bool cl, S tx]⟩]⟩ h K := by
  refine Sx.r13_point.ok _ _ _ _ _ _ _ _ _ _ (newx_var fun a h1 v1 k1 e1 s1 => ⟨_, v1.cell 1 rfl, ?_⟩)
  have r1 := r.kb k1
  have hl := r1.len
  have hmx : n <= maxLen := Nat.le_trans r.cap r.max
  simp only [maxLen] at hmx
  have res : ∀ v h', KB h h' -> pointM sp nm attrs = v -> K (.int .u8 v) h' := fun v h' k' e => by rw [<- e]; exact hk h' k'
  refine spl (fun e1 => condT ?_) fun e1 => condF (spl (fun e2 => condT ?_) fun e2 => condF ?_)
  · have yes : nm ∈ wSVG -> K (.int .u8 2) h1 := fun hm => res 2 h1 k1 (by
      unfold pointM
      rw [if_pos ⟨e1, by unfold specialP inNames; rw [if_neg (by decide), if_neg (by decide), if_pos rfl]; exact decide_eq_true hm⟩])
    refine spl (fun e => yes (by rw [e]; decide)) fun e3 => spl (fun e => yes (by rw [e]; decide)) fun e4 => spl (fun e => yes (by rw [e]; decide)) fun e5 => res 0 h1 k1 ?_
    have hno : ¬ (sp = 1 /\ specialP 1 nm = true) := fun h => by
      have h2 := h.2
      unfold specialP inNames at h2
      rw [if_neg (by decide), if_neg (by decide), if_pos rfl] at h2
      have hm := of_decide_eq_true h2
      simp only [wSVG, List.mem_cons, List.not_mem_nil, or_false] at hm
      rcases hm with h | h | h
      · exact e3 h
      · exact e4 h
      · exact e5 h
    unfold pointM
    rw [if_neg hno, if_pos (fun h => by omega)]
  · have hno : ¬ (sp = 1 /\ specialP 1 nm = true) := fun h => by omega
    have spec : specialP 2 nm = inNames wMath nm := rfl
    have yes : nm ∈ wMath -> nm ≠ wAnn -> K (.int .u8 1) h1 := fun hm hne => res 1 h1 k1 (by
      unfold pointM
      rw [if_neg hno, if_neg (fun h => h ⟨e2, by rw [spec]; exact decide_eq_true hm⟩), if_pos hne])
    refine spl (fun e => yes (by rw [e]; decide) (by rw [e]; decide)) fun e3 => spl (fun e => yes (by rw [e]; decide) (by rw [e]; decide)) fun e4 => spl (fun e => yes (by rw [e]; decide) (by rw [e]; decide)) fun e5 => spl (fun e => yes (by rw [e]; decide) (by rw [e]; decide)) fun e6 => spl (fun e => yes (by rw [e]; decide) (by rw [e]; decide)) fun e7 => ?_
    have only : nm ∈ wMath -> nm = wAnn := fun hm => by
      simp only [wMath, List.mem_cons, List.not_mem_nil, or_false] at hm
      rcases hm with h | h | h | h | h | h
      · exact h
      · exact absurd h e3
      · exact absurd h e4
      · exact absurd h e5
      · exact absurd h e6
      · exact absurd h e7
    have zero : (nm = wAnn -> attrs.any encB1 = false) -> pointM sp nm attrs = 0 := fun hz => by
      unfold pointM
      rw [if_neg hno]
      by_cases hm : nm ∈ wMath
      · have e := only hm
        rw [if_neg (fun h => h ⟨e2, by rw [spec]; exact decide_eq_true hm⟩), if_neg (fun h => h e), if_neg (by rw [hz e]; decide)]
      · rw [if_pos (fun h => by have := h.2; rw [spec] at this; exact hm (of_decide_eq_true this))]
    refine ⟨n + 1, ?_⟩
    have key : ∀ k i h2, i + k = n -> (nm = wAnn -> (attrs.take i).any encB1 = false) -> KB h1 h2 ->
        Sx.r13_point.n15_L (fun h => Sx.r13_point.n4 (fun y4 h => K (.int .u8 y4) h) (fun y4 h => K (.int .u8 y4) h) h) (fun h => Sx.r13_point.n4 (fun y4 h => K (.int .u8 y4) h) (fun y4 h => K (.int .u8 y4) h) h) (fun h => Sx.r13_point.n4 (fun y4 h => K (.int .u8 y4) h) (fun y4 h => K (.int .u8 y4) h) h) (fun y4 h => K (.int .u8 y4) h) (k + 1) a nm (i : Int) h2 := by
      intro k
      induction k with
      | zero =>
        intro i h2 hi hno2 k2
        refine ⟨_, _, _, (v1.kb k2).cell 2 rfl, splF (by omega) (res 0 h2 (k1.trans k2) (zero fun e => ?_))⟩
        have := hno2 e
        rwa [List.take_of_length_le (by omega)] at this
      | succ k ih =>
        intro i h2 hi hno2 k2
        have hil : i < attrs.length := by omega
        refine ⟨_, _, _, (v1.kb k2).cell 2 rfl, splT (by omega) (spl (fun ea => ?_) fun ea => res 0 h2 (k1.trans k2) (zero fun e => absurd e ea))⟩
        have ea : nm = wAnn := ea
        refine ⟨_, _, _, (v1.kb k2).cell 2 rfl, (r1.kb k2).idxN (i := i) hil rfl fun q hA => ⟨_, hA.snd.str.1, refLower_calls (hv _ (List.getElem_mem hil)) fun h3 k3 => vStrMk ?_⟩⟩
        have k23 := k2.trans k3
        refine ⟨_, _, _, (v1.kb k23).cell 2 rfl, (r1.kb k23).idxN (i := i) hil rfl fun q2 hA2 => ⟨_, hA2.fst.str.1, ?_⟩⟩
        have hst : (attrs.take (i + 1)).any encB1 = encB1 attrs[i] := by
          rw [List.take_add_one, List.getElem?_eq_getElem hil, List.any_append, hno2 ea]
          simp
        have next : encB1 attrs[i] = false -> Rng .i64 ((i : Int) + 1) /\ Sx.r13_point.n15_L (fun h => Sx.r13_point.n4 (fun y4 h => K (.int .u8 y4) h) (fun y4 h => K (.int .u8 y4) h) h) (fun h => Sx.r13_point.n4 (fun y4 h => K (.int .u8 y4) h) (fun y4 h => K (.int .u8 y4) h) h) (fun h => Sx.r13_point.n4 (fun y4 h => K (.int .u8 y4) h) (fun y4 h => K (.int .u8 y4) h) h) (fun y4 h => K (.int .u8 y4) h) (k + 1) a nm ((i : Int) + 1) h3 := fun he =>
          ⟨rng64 (by omega) (by omega), ih (i + 1) h3 (by omega) (fun _ => by rw [hst]; exact he) k23⟩
        have yes2 : encB1 attrs[i] = true -> K (.int .u8 2) h3 := fun he => res 2 h3 (k1.trans k23) (by
          unfold pointM
          rw [if_neg hno, if_neg (fun h => h ⟨e2, by rw [spec, ea]; decide⟩), if_neg (fun h => h ea), if_pos (List.any_eq_true.2 ⟨_, List.getElem_mem hil, he⟩)])
        refine spl (fun e1 => spl (fun e2 => yes2 ?_) fun e2 => spl (fun e3 => yes2 ?_) fun e3 => next ?_) fun e1 => next ?_
        · unfold encB1
          rw [decide_eq_true (show attrs[i].1 = wEnc from e1), decide_eq_true (show lowT attrs[i].2 = wTH from e2)]; rfl
        · unfold encB1
          rw [decide_eq_true (show attrs[i].1 = wEnc from e1), decide_eq_true (show lowT attrs[i].2 = wXH from e3), Bool.or_true]; rfl
        · unfold encB1
          rw [decide_eq_false (show ¬ lowT attrs[i].2 = wTH from e2), decide_eq_false (show ¬ lowT attrs[i].2 = wXH from e3)]; simp
        · unfold encB1
          rw [decide_eq_false (show ¬ attrs[i].1 = wEnc from e1)]; rfl
    exact key n 0 h1 (by omega) (fun _ => rfl) (KB.refl _)
  · refine res 0 h1 k1 ?_
    unfold pointM
    rw [if_neg (fun h => e1 h.1), if_pos (fun h => e2 h.1)]
end
section
variable {h : H} {K : Value -> H -> Prop} {col : Col} {s s0 : Nat} {w t : Addr} {ns : List NodeM} {op : List OpenP} {mk : List MarkP} {fo : Bool} {hi : Int} {x : OpenP}
theorem refParentM_calls (T : RefP h col s t ns) (G : GoodT ns) {id : Int} (hk : K (.int .i64 (parentM ns id)) h) : HCalls Tryz.prog 72 ⟨[.pointer (some t), .int .i64 id]⟩ h K := by
  have hneg : id < 0 -> parI ns id = -1 := fun h => by
    obtain ⟨r, hr, e⟩ := G.root
    unfold parI
    rw [Int.toNat_of_nonpos (by omega), hr]
    exact e
  have e : parentM ns id = parI ns id := by
    unfold parentM
    by_cases h0 : 0 <= id
    · rw [if_pos h0]; rfl
    · rw [if_neg h0, hneg (by omega)]
  rw [e] at hk
  exact parent_r T hk hneg
theorem refCurrent_calls (W : WorldW h col s 42 w t op mk fo hi) (hne : 0 < op.length) (hl : op.length <= 1000000) (hk : ∀ h', KB h h' -> K (.agg ⟨cellsO (curM op)⟩) h') :
    HCalls Tryz.prog 30 ⟨[.pointer (some w)]⟩ h K := by
  obtain ⟨ob, oc, mb, mn, mc, v, o, om⟩ := W.ex
  have e : ((op.length : Int) - 1) = ((op.length - 1 : Nat) : Int) := by omega
  refine Sx.r13_World_Current.ok _ _ _ (newx_var fun a1 h1 v1 k1 e1 s1 => vSomeMk ⟨_, _, _, (v.kb k1).cell 1 rfl, vSomeMk ⟨_, _, _, (v.kb k1).cell 1 rfl, rng64 (by omega) (by omega), ?_⟩⟩)
  rw [e]
  have hx : op[op.length - 1]'(by omega) = curM op := (getD_get (by omega)).symm
  exact (o.kb k1).row.idxN (i := op.length - 1) (by omega) rfl fun q hA => ldOpen hA fun ow => stL_var0 v1 (by show 4 <= 4; omega) fun h2 v2 k2 s2 => ldVar (m := op[op.length - 1]'(by omega)) v2 (by rw [hx]; exact hk h2 (KB.step k1 k2 (by omega)))
theorem refWhere_calls (T : RefP h col s0 t ns) (G : GoodT ns) (W : WorldW h col s 42 w t op mk fo hi) (hl : op.length <= 1000000) (hk : ∀ h', KB h h' -> K (.tuple ⟨[.int .i64 (whereM ns op fo x).1, .int .i64 (whereM ns op fo x).2]⟩) h') :
    HCalls Tryz.prog 29 ⟨[.pointer (some w), .agg ⟨cellsO x⟩]⟩ h K := by
  obtain ⟨ob, oc, mb, mn, mc, v, o, om⟩ := W.ex
  refine Sx.r13_World_Where.ok _ _ _ _ _ _ _ (newx_var fun a1 h1 v1 k1 e1 s1 => ?_)
  have res : ∀ p h', KB h h' -> whereM ns op fo x = p -> K (.tuple ⟨[.int .i64 p.1, .int .i64 p.2]⟩) h' := fun p h' k' e => by rw [<- e]; exact hk h' k'
  have k3 : ∀ g : Bool, g = inNames wGrid x.2.2.1 -> Sx.r13_World_Where.n3 (some w) a1 g (fun y4 y5 h => K (.tuple ⟨[(.int .i64 y4), (.int .i64 y5)]⟩) h) (fun y4 y5 h => K (.tuple ⟨[(.int .i64 y4), (.int .i64 y5)]⟩) h) h1 := by
    intro g hg
    have no : (fo && gridB x) = false -> ∃ i, cell h1 (a1.add 0) = some (.int .i64 i) /\ K (.tuple ⟨[(.int .i64 i), (.int .i64 (-1))]⟩) h1 := fun e => ⟨_, v1.cell 0 rfl, res (x.1, -1) h1 k1 (by unfold whereM; rw [e]; rfl)⟩
    refine vSomeMk ⟨_, (v.kb k1).cell 3 rfl, condB (fun ef => ⟨_, v1.cell 1 rfl, spl (fun esp => condB (fun eg => ?_) fun eg => no ?_) fun esp => no ?_⟩) fun ef => no (by rw [ef]; rfl)⟩
    · -- in the table
      have hgr : (fo && gridB x) = true := by unfold gridB; rw [ef, <- hg, eg, decide_eq_true (show x.2.1 = 0 from esp)]; rfl
      refine vSomeMk ⟨_, _, _, (v.kb k1).cell 1 rfl, newx_var fun a3 h3 v3 k3 e3 s3 => ?_⟩
      have k13 := k1.trans k3
      refine refUntil_calls (o.kb k13).row (rowLit (ws := wTab) v3 (by decide) (by decide)) fun h4 k4 => vIntMk ?_
      have k14 := k13.trans k4
      have v4 := v.kb k14
      have o4 := (o.kb k14).row
      have hru : -1 <= untilP op wTab /\ untilP op wTab < (op.length : Int) := until_range wTab op op.length
      refine spl (fun hneg => res (0, -1) h4 k14 (by unfold whereM; rw [if_pos hgr, if_pos hneg])) fun hpos => ?_
      have hkn : (untilP op wTab).toNat < op.length := by omega
      have hg2 : op[(untilP op wTab).toNat] = op.getD (untilP op wTab).toNat noOpen := (getD_get hkn).symm
      refine vSomeMk ⟨_, v4.cell 0 rfl, vSomeMk ⟨_, _, _, v4.cell 1 rfl, o4.idx (i := untilP op wTab) (by omega) (by omega) rfl fun q hi hA => ⟨_, hA.fst.int.1, ?_⟩⟩⟩
      rw [hg2]
      refine refParentM_calls (T.kb k14) G (vIntMk (spl (fun hp => ?_) fun hp => ?_))
      · refine vSomeMk ⟨_, _, _, v4.cell 1 rfl, o4.idx (i := untilP op wTab) (by omega) (by omega) rfl fun q hi hA => ⟨_, hA.fst.int.1, ?_⟩⟩
        rw [hg2]
        exact res (parentM ns (op.getD (untilP op wTab).toNat noOpen).1, (op.getD (untilP op wTab).toNat noOpen).1) h4 k14 (by unfold whereM; rw [if_pos hgr, if_neg hpos, if_pos hp])
      · have e : (if (0 : Int) > (untilP op wTab - 1) then (0 : Int) else (untilP op wTab - 1)) = (((untilP op wTab).toNat - 1 : Nat) : Int) := by split <;> omega
        refine vSomeMk ⟨_, _, _, v4.cell 1 rfl, rng64 (by omega) (by omega), ?_⟩
        rw [e]
        refine o4.idxN (i := (untilP op wTab).toNat - 1) (by omega) rfl fun q hA => ⟨_, hA.fst.int.1, ?_⟩
        have hg3 : op[(untilP op wTab).toNat - 1]'(by omega) = op.getD ((untilP op wTab).toNat - 1) noOpen := (getD_get (by omega)).symm
        rw [hg3]
        exact res ((op.getD ((untilP op wTab).toNat - 1) noOpen).1, -1) h4 k14 (by unfold whereM; rw [if_pos hgr, if_neg hpos, if_neg hp])
    · unfold gridB; rw [<- hg, eg]; simp
    · unfold gridB; rw [decide_eq_false (show ¬ x.2.1 = 0 from esp)]; simp
  have yes : x.2.2.1 ∈ wGrid -> true = inNames wGrid x.2.2.1 := fun hm => (decide_eq_true hm).symm
  refine ⟨_, v1.cell 2 rfl, spl (fun e => k3 _ (yes (by rw [e]; decide))) fun e1 => ⟨_, v1.cell 2 rfl, spl (fun e => k3 _ (yes (by rw [e]; decide))) fun e2 => ⟨_, v1.cell 2 rfl, spl (fun e => k3 _ (yes (by rw [e]; decide))) fun e3 => ⟨_, v1.cell 2 rfl, spl (fun e => k3 _ (yes (by rw [e]; decide))) fun e4 => ⟨_, v1.cell 2 rfl, spl (fun e => k3 _ (yes (by rw [e]; decide))) fun e5 => k3 _ ?_⟩⟩⟩⟩⟩
  refine (decide_eq_false fun hm => ?_).symm
  simp only [wGrid, List.mem_cons, List.not_mem_nil, or_false] at hm
  rcases hm with h | h | h | h | h
  · exact e1 h
  · exact e2 h
  · exact e3 h
  · exact e4 h
  · exact e5 h
end
end Go.Proofs
namespace Go.Proofs
open Go Go.Sh
set_option linter.unusedVariables false
set_option maxRecDepth 100000
theorem RefP.otherP {Z : Nat -> Prop} {h h' : H} {col col' : Col} {s : Nat} {t : Addr} {ns : List NodeM} (T : RefP h col s t ns) (hs : ¬ Z s) (e : ExtP Z h col h' col') (hf : Fresh h' col') : RefP h' col' s t ns := by
  obtain ⟨lb, lc, rs, C, em⟩ := T
  exact ⟨lb, lc, rs, C.keep e.sk.w e.cl hf fun k hk hc => ⟨hk, fun s' p hs' e2 => by
    rcases hc with hc | ⟨q, hc⟩
    · rw [hc] at e2; cases e2
    · rw [hc] at e2; cases e2; exact hs hs'⟩, em⟩
def RS (s : Nat) : Prop := s = 1 ∨ s = 3
structure RW (h : H) (col : Col) (w : Addr) (m : WM) : Prop where
  ex : ∃ t, RefP h col 1 t m.ns /\ WorldW h col 3 42 w t m.op m.mks m.fo m.hi
section
variable {Z : Nat -> Prop} {h h' : H} {K : Value -> H -> Prop} {col col' : Col} {w : Addr} {m : WM}
theorem RW.fresh (p : RW h col w m) : Fresh h col := by obtain ⟨t, T, W⟩ := p.ex; exact T.fresh
theorem RW.ext (p : RW h col w m) (e : ExtP Z h col h' col') (h0 : ¬ Z 1) (h2 : ¬ Z 3) (f : Fresh h' col') : RW h' col' w m := by
  obtain ⟨t, T, W⟩ := p.ex
  exact ⟨t, T.otherP h0 e f, W.ext e h2⟩
theorem RW.kb (p : RW h col w m) (k : KB h h') : RW h' col w m := p.ext (Z := fun _ => False) (.kb k) id id (p.fresh.kb k)
theorem refNew_calls (f : Fresh h col) (hk : ∀ w h' col', RW h' col' w wm0 -> ExtP RS h col h' col' -> K (.pointer (some w)) h') : HCalls Tryz.prog 7 ⟨[]⟩ h K := by
  refine Sx.r13_New.ok _ _ (new_r (s := 1) f fun t h1 c1 T1 E1 => vPtrMk (newx_var fun a2 h2 v2 k2 e2 s2 => newx_var fun a3 h3 v3 k3 e3 s3 => ?_))
  have ow : OpenW (0, 0, wHtml, 0) := ⟨⟨by decide, by decide⟩, ⟨by decide, by decide⟩, by decide, ⟨by decide, by decide⟩⟩
  have o2 := v2.ownF1 (E := elOpen) (x := (0, 0, wHtml, 0)) fun A => ow.r
  have f1 : Fresh h1 c1 := T1.fresh
  have f3 := (f1.kb k2).kb k3
  have h3s : h3.size = h1.size + 2 := by omega
  have hc : ∀ k, k < h1.size -> paint (paint c1 a2.block (3, 1)) a3.block (3, 0) k = c1 k := fun k hk => by rw [paint_ne (by omega), paint_ne (by omega)]
  have ff : Fresh h3 (paint (paint c1 a2.block (3, 1)) a3.block (3, 0)) := (f3.paint (by omega)).paint (by omega)
  have E3 : ExtP (fun _ => False) h1 c1 h3 (paint (paint c1 a2.block (3, 1)) a3.block (3, 0)) := ⟨(k2.trans k3).less fun k hk => hk.1, hc⟩
  refine hk a3 h3 (paint (paint c1 a2.block (3, 1)) a3.block (3, 0)) ⟨t, T1.otherP id E3 ff, ⟨⟨some a2, 1, none, 0, 0, v3, ?_, OwnC.none⟩, paint_at, ⟨by decide, by decide⟩⟩⟩ ?_
  · refine ⟨((o2.kb k3).own.flat flatOpen).lower (Nat.le_refl _), fun q e => ?_, fun q e => ?_, fun e => by cases e⟩
    · cases e; rw [paint_ne (by omega)]; exact paint_at
    · cases e; omega
  · exact (E1.p (.inl rfl)).trans (E3.mono fun s hs => hs.elim)
theorem refInsert_calls (p : RW h col w m) (G : GoodT m.ns) (hne : 0 < m.op.length) (hop : m.op.length < 1000000) (hns : m.ns.length < 1000000) {ab : Option Addr} {an ac : Nat} {attrs : List AttrP} {sp tk : Int} {nm tx : Bs} {cl : Bool}
    (r : Row elAttr (Free col h) h ab an ac attrs) (han : an <= 1000000) (hv : AttrsW attrs) (hsp : Rng .u8 sp) (htk : Rng .u8 tk) (hnm : nm.length <= 1000000000)
    (hk : ∀ h' col', RW h' col' w (insertM m sp nm attrs) -> ExtP RS h col h' col' -> K (.int .i64 m.ns.length) h') :
    HCalls Tryz.prog 9 ⟨[.pointer (some w), .int .u8 sp, .agg ⟨[.int .u8 tk, S nm, .slice ab an ac, .bool cl, S tx]⟩]⟩ h K := by
  obtain ⟨t, T, W⟩ := p.ex
  have hxn : nm.length <= maxLen := by simp only [maxLen]; omega
  refine Sx.r13_World_Insert.ok _ _ _ _ _ _ _ _ _ _ _ (newx_var fun a1 h1 v1 k1 e1 s1 => ?_)
  refine refCurrent_calls (W.kb k1) hne (by omega) fun h2 k2 => ?_
  refine agOpen (x := curM m.op) ?_
  refine refWhere_calls (x := curM m.op) (T.kb (k1.trans k2)) G (W.kb (k1.trans k2)) (by omega) fun h3 k3 => tupIIMk ?_
  have k13 := (k1.trans k2).trans k3
  obtain ⟨ob, oc, mb, mn, mc, vw, ow, omw⟩ := (W.kb k13).ex
  have v3 := v1.kb (k2.trans k3)
  refine vSomeMk ⟨_, vw.cell 0 rfl, _, v3.cell 1 rfl, _, _, _, v3.cell 2 rfl, ?_⟩
  refine make_r (T.kb k13) (r.kb k13) han ⟨by decide, by decide⟩ hsp hxn (by decide) hns fun h4 c4 T4 E4 => vIntMk ?_
  have E4p : ExtP (fun s => s = 1) h3 col h4 c4 := E4.p rfl
  have W4 := (W.kb k13).ext E4p (by decide)
  obtain ⟨ob4, oc4, mb4, mn4, mc4, vw4, ow4, omw4⟩ := W4.ex
  have G4 : GoodT (addM m.ns (bareM 1 sp nm attrs [])).1 := G.addM _ _ _ _ _
  refine vSomeMk ⟨_, vw4.cell 0 rfl, ?_⟩
  refine put_r T4 G4 fun h5 c5 T5 E5 => vBool_mk ?_
  have E5p : ExtP (fun s => s = 1) h4 c4 h5 c5 := E5.p rfl
  have E35 := E4p.trans E5p
  have W5 := W4.ext E5p (by decide)
  obtain ⟨ob5, oc5, mb5, mn5, mc5, vw5, ow5, omw5⟩ := W5.ex
  have f3 : Fresh h3 col := p.fresh.kb k13
  have hca : col a1.block = none := p.fresh _ (by omega)
  have v5 : Var h5 a1 33 [.int .u8 tk, S nm, .slice ab an ac, .bool cl, S tx] := v3.keep E35.keepF ⟨hca, v3.lt⟩
  have r5 : Row elAttr (Free c5 h5) h5 ab an ac attrs := E35.row ((r.kb k13).keep (Keep.refl (fun _ => True) _ |>.less fun _ _ => trivial) fun k hk _ => Free.kb k13 hk)
  have tail : Sx.r13_World_Insert.n5 (some w) sp a1 (addM m.ns (bareM 1 sp nm attrs [])).2 (fun y6 h => K (.int .i64 y6) h) (fun y6 h => K (.int .i64 y6) h) h5 := by
    refine vSomeMk ⟨_, _, _, vw5.cell 1 rfl, _, v5.cell 1 rfl, _, v5.cell 0 rfl, _, v5.cell 1 rfl, _, _, _, v5.cell 2 rfl, _, v5.cell 3 rfl, _, v5.cell 4 rfl, ?_⟩
    refine refPoint_calls r5 hv fun h6 k6 => vIntMk ⟨k6.ext, newx_var fun a7 h7 v7 k7 e7 s7 => ⟨k7.ext, ?_⟩⟩
    have k57 := k6.trans k7
    have hxo : OpenW ((m.ns.length : Int), sp, nm, pointM sp nm attrs) := ⟨rng64 (by omega) (by omega), hsp, hxn, pointM_rng _ _ _⟩
    have f5 : Fresh h5 c5 := T5.fresh
    refine pushOpen_k (x := ((m.ns.length : Int), sp, nm, pointM sp nm attrs)) (W5.kb k57) (f5.kb k57) hop hxo (vw5.kb k57) v7 (f5 _ (by have := k6.1; omega)) fun h8 c8 W8 E8 f8 m8 => ?_
    have E3 : ExtP RS h col h3 col := .kb k13
    exact hk h8 c8 ⟨t, (T5.kb k57).otherP (Z := fun k => k = 3) (by decide) E8 f8, W8⟩ (((E3.trans (E35.mono fun s hs => .inl hs)).trans (.kb k57)).trans (E8.mono fun s hs => .inr hs))
  exact condK (K := fun _ => Sx.r13_World_Insert.n5 (some w) sp a1 (addM m.ns (bareM 1 sp nm attrs [])).2 (fun y6 h => K (.int .i64 y6) h) (fun y6 h => K (.int .i64 y6) h) h5) tail
theorem refWrite_calls (p : RW h col w m) (G : GoodT m.ns) (hne : 0 < m.op.length) (hop : m.op.length < 1000000) (hns : m.ns.length < 1000000) {tx : Bs} (hlen : ∀ (i : Nat) x, m.ns[i]? = some x -> x.text.length + tx.length <= 9223372036854775807) (htx : tx.length <= maxLen)
    (hk : ∀ h' col', RW h' col' w (writeW m tx) -> ExtP RS h col h' col' -> K (.tuple ⟨[]⟩) h') :
    HCalls Tryz.prog 12 ⟨[.pointer (some w), S tx]⟩ h K := by
  obtain ⟨t, T, W⟩ := p.ex
  refine Sx.r13_World_Write.ok _ _ _ _ ?_
  refine refCurrent_calls W hne (by omega) fun h2 k2 => ?_
  refine agOpen (x := curM m.op) ?_
  refine refWhere_calls (x := curM m.op) (T.kb k2) G (W.kb k2) (by omega) fun h3 k3 => tupIIMk ?_
  have k13 := k2.trans k3
  obtain ⟨ob, oc, mb, mn, mc, vw, ow, omw⟩ := (W.kb k13).ex
  refine vSomeMk ⟨_, vw.cell 0 rfl, ?_⟩
  refine write_r (T.kb k13) G hlen htx hns fun h4 c4 T4 E4 => vBool_mk ?_
  have E4p : ExtP (fun s => s = 1) h3 col h4 c4 := E4.p rfl
  have W4 := (W.kb k13).ext E4p (by decide)
  have tail : K (.tuple ⟨[]⟩) h4 := hk h4 c4 ⟨t, T4, W4⟩ ((ExtP.kb k13).trans (E4p.mono fun s hs => .inl hs))
  exact condK (K := fun _ => K (.tuple ⟨[]⟩) h4) tail
theorem refClose_calls (p : RW h col w m) {n : Int} (hk : ∀ h' col', RW h' col' w (closeW m n) -> ExtP RS h col h' col' -> K (.tuple ⟨[]⟩) h') : HCalls Tryz.prog 46 ⟨[.pointer (some w), .int .i64 n]⟩ h K := by
  obtain ⟨t, T, W⟩ := p.ex
  obtain ⟨ob, oc, mb, mn, mc, v, o, om⟩ := W.ex
  have hno : ¬ (1 <= n /\ n < m.op.length) -> K (.tuple ⟨[]⟩) h := fun hn => hk h col (by
    have e : closeW m n = m := by unfold closeW closeO; rw [if_neg hn]
    rw [e]; exact p) (.refl _ _ _)
  refine Sx.r13_World_Close.ok _ _ _ _ (spl (fun h1 => vSomeMk ⟨_, _, _, v.cell 1 rfl, spl (fun h2 => ?_) fun h2 => condF (hno fun hn => h2 hn.2)⟩) fun h1 => condF (hno fun hn => h1 hn.1))
  have hcap := o.cap
  refine condT (vSomeMk ⟨_, _, _, v.cell 1 rfl, ⟨by omega, by omega, by omega⟩, vSomeMk (closeK W p.fresh h1 h2 v fun h' W' E' f' _ => ?_)⟩)
  exact hk h' col ⟨t, T.otherP (Z := fun k => k = 3) (by decide) E' f', W'⟩ (E'.mono fun s hs => .inr hs)
end
end Go.Proofs
namespace Go.Proofs
open Go Go.Sh
set_option linter.unusedVariables false
set_option maxRecDepth 100000
section
variable {h : H} {K : Value -> H -> Prop} {col : Col} {s ty : Nat} {w t : Addr} {op : List OpenP} {mk : List MarkP} {fo : Bool} {hi : Int} {m : WM}
theorem base0 {b : Option Addr} {c k : Nat} : (if c = Int.toNat (0 : Int) then b else Option.map (fun q => q.add (Int.toNat (0 : Int) * k)) b) = b := by
  split
  · rfl
  · cases b with
    | none => rfl
    | some q =>
      show some (q.add (0 * k)) = some q
      rw [Nat.zero_mul, add_zero']
theorem ExtP.step {Z : Nat -> Prop} {a b c : H} {x y : Col} {g : Nat} (E : ExtP Z a x b y) (k : KX g b c) (hg : a.size <= g) : ExtP Z a x c y :=
  ⟨E.sk.trans (k.less fun q hq e => by have := hq.1; omega), E.cl⟩
theorem setMark_k (W : WorldW h col s ty w t op mk fo hi) (f : Fresh h col) {i : Nat} (hi1 : i < mk.length) (hn : mk.length <= 1000000) {x : MarkP} {a21 : Addr} {tv : Nat} {ab : Option Addr} {an ac : Nat} (v21 : Var h a21 tv [.int .i64 x.1, S x.2.1, .slice ab an ac]) (hR : MarkR (Free col h) h x ab an ac) {Q : H -> Prop}
    (hk : ∀ h' col', WorldW h' col' s ty w t op (mk.set i x) fo hi -> ExtP (fun k => k = s) h col h' col' -> Fresh h' col' -> Q h') :
    ∃ s31b s31n s31c, cell h (w.add 2) = some (.slice s31b s31n s31c) /\ ((0 <= (0 : Int) /\ (0 : Int) <= (i : Int) /\ (i : Int) <= (s31c : Int)) /\ (SemH Tryz.prog (Builtin.append_ #[37, 37] 37 ⟨[(.slice none 0 0), (.slice (if s31c = Int.toNat (0 : Int) then s31b else Option.map (fun q => q.add (Int.toNat (0 : Int) * 3)) s31b) (Int.toNat (i : Int) - Int.toNat (0 : Int)) (s31c - Int.toNat (0 : Int)))]⟩) h fun v32 h33 => vSlice v32 fun s34b s34n s34c => ∃ i35, cell h33 ((a21).add 0) = some (.int .i64 i35) /\ (∃ s36, cell h33 ((a21).add 1) = some (S s36) /\ (∃ s37b s37n s37c, cell h33 ((a21).add 2) = some (.slice s37b s37n s37c) /\ (newx h33 #[(.int .i64 i35), (S s36), (.slice s37b s37n s37c)] 36 fun a38 h39 => SemH Tryz.prog (Builtin.append_ #[37, 37] 37 ⟨[(.slice s34b s34n s34c), (.slice (some a38) 1 1)]⟩) h39 fun v40 h41 => vSlice v40 fun s42b s42n s42c => vSome (some w) fun a43 => ∃ s44b s44n s44c, cell h41 (a43.add 2) = some (.slice s44b s44n s44c) /\ (Rng .i64 ((i : Int) + (1 : Int)) /\ ((0 <= ((i : Int) + (1 : Int)) /\ ((i : Int) + (1 : Int)) <= (s44n : Int) /\ (s44n : Int) <= (s44c : Int)) /\ (SemH Tryz.prog (Builtin.append_ #[37, 37] 37 ⟨[(.slice s42b s42n s42c), (.slice (if s44c = Int.toNat ((i : Int) + (1 : Int)) then s44b else Option.map (fun q => q.add (Int.toNat ((i : Int) + (1 : Int)) * 3)) s44b) (Int.toNat (s44n : Int) - Int.toNat ((i : Int) + (1 : Int))) (s44c - Int.toNat ((i : Int) + (1 : Int))))]⟩) h41 fun v45 h46 => vSlice v45 fun s47b s47n s47c => vSome (some w) fun a48 => stL (a48.add 2) [(.slice s47b s47n s47c)] 0 h46 fun h49 => Q h49)))))))) := by
  obtain ⟨ob, oc, mb, mn, mc, v, o, om⟩ := W.ex
  obtain ⟨xs, he, hc, hxl⟩ := om.parts
  have hml := om.len
  have hcap := om.cap
  have hA : ∀ k, Free col h k -> k < h.size := fun k hk => hk.2
  refine ⟨_, _, _, v.cell 2 rfl, ⟨by omega, by omega, by omega⟩, ?_⟩
  rw [base0]
  have e1 : Int.toNat (i : Int) - Int.toNat (0 : Int) = i := by rw [Int.toNat_natCast]; rfl
  rw [e1]
  refine OwnA.append apdMark (OwnA.none (Free col h) h h.size 36) hA (l2 := mk.take i) (by rw [List.length_take]; omega) (he.take i) (hc.take _) (by simp only [maxLen]; omega) (by omega) (Nat.le_refl _) fun b1 c1 h1 o1 g1 => vSliceMk ?_
  rw [Nat.zero_add] at o1 ⊢
  have k1 : KB h h1 := g1.kb0 (KB.refl h) fun q e => by cases e
  refine ⟨_, (v21.kb k1).cell 0 rfl, _, (v21.kb k1).cell 1 rfl, _, _, _, (v21.kb k1).cell 2 rfl, newx_var fun a38 h2 v2 k2 e2 s2 => ?_⟩
  have k12 := k1.trans k2
  refine OwnA.append1 apdMark (o1.kb k2) hA v2 (hR.kb k12) (by simp only [maxLen]; omega) (by omega) k12.1 fun b3 c3 h3 o3 g3 => vSliceMk ?_
  have k13 : KB h h3 := g3.kb0 k12 o1.lo
  have e3 : ((i : Int) + (1 : Int)) = ((i + 1 : Nat) : Int) := rfl
  refine vSomeMk ⟨_, _, _, (v.kb k13).cell 2 rfl, rng64 (by omega) (by omega), ⟨by omega, by omega, by omega⟩, ?_⟩
  rw [e3, Int.toNat_natCast, Int.toNat_natCast]
  have hcd := Cells.drop (c := mc) (lo := i + 1) (z := 3) hc (fun e => List.drop_of_length_le (by
    have h1 : xs.length = mn * 3 := hxl
    have h2 : mn = i + 1 := by omega
    rw [h1, h2]; exact Nat.le_refl _))
  have hed := he.drop (i + 1)
  refine OwnA.append apdMark o3 hA (l2 := mk.drop (i + 1)) (by rw [List.length_drop, hml]) (hed.keep ((KB.w k13).less fun k hk => hk.2) fun _ h _ => h) (fun j u hu => by
    obtain ⟨q, e, ec⟩ := hcd j u hu
    exact ⟨q, e, (KB.w k13).cell (cell_lt ec) ec⟩) (by simp only [maxLen]; omega) (by omega) k13.1 fun b4 c4 h4 o4 g4 => vSliceMk (vSomeMk ?_)
  have k14 : KB h h4 := g4.kb0 k13 o3.lo
  have el : [] ++ mk.take i ++ [x] ++ mk.drop (i + 1) = mk.set i x := by
    rw [List.nil_append, List.set_eq_take_append_cons_drop, if_pos hi1, List.append_assoc]; rfl
  rw [el] at o4
  exact setMarks_k W f k14 o4 fun h5 W5 E5 f5 _ => hk h5 _ W5 E5 f5
theorem refRebuild_calls (p : RW h col w m) (G : GoodT m.ns) (hne : 0 < m.op.length) (hop : m.op.length + m.mks.length < 1000000) (hns : m.ns.length + m.mks.length < 1000000) (hm : MarksW m.mks)
    (hk : ∀ h' col', RW h' col' w (rebuildW m) -> ExtP RS h col h' col' -> K (.tuple ⟨[]⟩) h') :
    HCalls Tryz.prog 14 ⟨[.pointer (some w)]⟩ h K := by
  obtain ⟨t, T, W⟩ := p.ex
  obtain ⟨ob, oc, mb, mn, mc, v, o, om⟩ := W.ex
  have hrng := lostTo_rng m.mks m.op m.mks.length
  have hl0 : 0 <= lostP m.mks m.op := hrng.1
  have hl1 : lostP m.mks m.op <= (m.mks.length : Int) := hrng.2
  obtain ⟨f, hf⟩ := Int.eq_ofNat_of_zero_le hl0
  have hft : (lostP m.mks m.op).toNat = f := by rw [hf]; rfl
  refine Sx.r13_World_Rebuild.ok _ _ _ (vSomeMk ⟨_, _, _, v.cell 2 rfl, vSomeMk ⟨_, _, _, v.cell 1 rfl, refLost_calls om.row o.row (vIntMk ?_)⟩⟩)
  rw [hf]
  have hrw : rebN (m.mks.length - f) m f = rebuildW m := by unfold rebuildW; rw [hft]
  refine ⟨m.mks.length - f + 1, ?_⟩
  have key : ∀ k j (mj : WM) hj cj, j + k = m.mks.length - f -> RW hj cj w mj -> GoodT mj.ns -> mj.op.length = m.op.length + j -> mj.ns.length = m.ns.length + j -> mj.mks.length = m.mks.length -> MarksW mj.mks -> rebN k mj (f + j) = rebuildW m -> ExtP RS h col hj cj ->
      Sx.r13_World_Rebuild.n3_L (fun h => K (.tuple ⟨[]⟩) h) (fun h => K (.tuple ⟨[]⟩) h) (fun h => K (.tuple ⟨[]⟩) h) (k + 1) (some w) ((f + j : Nat) : Int) hj := by
    intro k
    induction k with
    | zero =>
      intro j mj hj cj hjk pj Gj lo ln lm hmj hr Ej
      obtain ⟨tj, Tj, Wj⟩ := pj.ex
      obtain ⟨obj, ocj, mbj, mnj, mcj, vj, oj, omj⟩ := Wj.ex
      have hmlj := omj.len
      have hr : mj = rebuildW m := hr
      unfold Sx.r13_World_Rebuild.n3_L LP Sx.r13_World_Rebuild.n3_B
      exact vSomeMk ⟨_, _, _, vj.cell 2 rfl, splF (by omega) (hk hj cj (by rw [<- hr]; exact ⟨tj, Tj, Wj⟩) Ej)⟩
    | succ k ih =>
      intro j mj hj cj hjk pj Gj lo ln lm hmj hr Ej
      have hfj : f + j < mj.mks.length := by omega
      obtain ⟨tj, Tj, Wj⟩ := pj.ex
      obtain ⟨obj, ocj, mbj, mnj, mcj, vj, oj, omj⟩ := Wj.ex
      have hmlj := omj.len
      obtain ⟨xsj, hej, hccj, _⟩ := omj.parts
      obtain ⟨a, b2, n2, c2, eb, m0, m1, m2, mR⟩ := markPart hej hccj hfj
      subst eb
      have hw := hmj mj.mks[f + j] (List.getElem_mem hfj)
      have hi2 := mR.inv
      have hn2 := hi2.1.len
      unfold Sx.r13_World_Rebuild.n3_L LP Sx.r13_World_Rebuild.n3_B
      refine vSomeMk ⟨_, _, _, vj.cell 2 rfl, splT (by omega) (vSomeMk ⟨_, _, _, vj.cell 2 rfl, ⟨by omega, by omega⟩, vSomeMk ?_⟩)⟩
      rw [Int.toNat_natCast]
      refine ⟨_, m0, _, m1, _, _, _, m2, newx_var fun a21 h2 v2 k2 e2 s2 => stL_var0 v2 (by show 3 <= 3; omega) fun h3 v3 k3 s3 => ?_⟩
      have k23 : KB hj h3 := KB.step k2 k3 (by omega)
      have v3' : Var h3 a21 36 [.int .i64 mj.mks[f + j].1, S mj.mks[f + j].2.1, .slice b2 n2 c2] := v3
      have E3 : ∀ Z : Nat -> Prop, ExtP Z hj cj h3 (paint cj a21.block (8, 0)) := fun Z => ⟨k23.less fun k hk => hk.1, fun k hk => paint_ne (by omega)⟩
      have f3 : Fresh h3 (paint cj a21.block (8, 0)) := (pj.fresh.kb k23).paint v3'.lt
      have p3 : RW h3 (paint cj a21.block (8, 0)) w mj := pj.ext (Z := fun _ => False) (E3 _) id id f3
      have rA : Row elAttr (Free (paint cj a21.block (8, 0)) h3) h3 b2 n2 c2 mj.mks[f + j].2.2 := (E3 fun _ => False).row hi2.1
      refine ⟨_, v3'.cell 1 rfl, _, _, _, v3'.cell 2 rfl, ?_⟩
      refine refInsert_calls p3 Gj (by omega) (by omega) (by omega) rA (by omega) hw.2.2 ⟨by decide, by decide⟩ ⟨by decide, by decide⟩ hw.1 fun h5 c5 p5 E5 => vIntMk ?_
      have v5 : Var h5 a21 36 [.int .i64 mj.mks[f + j].1, S mj.mks[f + j].2.1, .slice b2 n2 c2] := v3'.keep E5.sk.w ⟨v3'.lt, fun s p hs e => by
        rw [paint_at] at e
        cases e
        rcases hs with h | h <;> exact absurd h (by decide)⟩
      refine stL_var0 v5 (by show 1 <= 3; omega) fun h6 v6 k6 s6 => vSomeMk ?_
      have v6' : Var h6 a21 36 [.int .i64 (mj.ns.length : Int), S mj.mks[f + j].2.1, .slice b2 n2 c2] := v6
      have hc5 : c5 a21.block = some (8, 0) := by rw [E5.cl _ v3'.lt]; exact paint_at
      have E6 : ExtP (fun k => k = 8) h5 c5 h6 c5 := ExtP.kx k6 hc5 rfl
      have f6 : Fresh h6 c5 := fun q hq => p5.fresh q (by rw [<- s6]; exact hq)
      have p6 : RW h6 c5 w (insertM mj 0 mj.mks[f + j].2.1 mj.mks[f + j].2.2) := p5.ext (Z := fun k => k = 8) E6 (by decide) (by decide) f6
      have r6 := E6.row (E5.row rA)
      have Ej6 : ExtP RS hj cj h6 c5 := ((E3 RS).trans E5).step k6 (by show hj.size <= a21.block; omega)
      obtain ⟨t6, T6, W6⟩ := p6.ex
      have hR6 : MarkR (Free c5 h6) h6 ((mj.ns.length : Int), mj.mks[f + j].2) b2 n2 c2 := markR (m := ((mj.ns.length : Int), mj.mks[f + j].2)) r6 hi2.2.1 (rng64 (by show _ <= (mj.ns.length : Int); omega) (by show (mj.ns.length : Int) <= _; omega)) hi2.2.2.2
      refine setMark_k W6 f6 (i := f + j) hfj (by show mj.mks.length <= _; omega) (x := ((mj.ns.length : Int), mj.mks[f + j].2)) v6' hR6 fun h7 c7 W7 E7 f7 => ⟨rng64 (by omega) (by omega), ?_⟩
      have hg : mj.mks.getD (f + j) noMark = mj.mks[f + j] := getD_get hfj
      have hr : rebN k { insertM mj 0 (mj.mks.getD (f + j) noMark).2.1 (mj.mks.getD (f + j) noMark).2.2 with mks := mj.mks.set (f + j) ((mj.ns.length : Int), (mj.mks.getD (f + j) noMark).2) } (f + j + 1) = rebuildW m := hr
      rw [hg] at hr
      have := ih (j + 1) { insertM mj 0 mj.mks[f + j].2.1 mj.mks[f + j].2.2 with mks := mj.mks.set (f + j) ((mj.ns.length : Int), mj.mks[f + j].2) } h7 c7 (by omega) ⟨t6, T6.otherP (Z := fun k => k = 3) (by decide) E7 f7, W7⟩
        (goodInsertR Gj) (by show (mj.op ++ [_]).length = _; rw [List.length_append]; show mj.op.length + 1 = _; omega) (by rw [insert_lenR Gj]; omega) (by show (mj.mks.set _ _).length = _; rw [List.length_set]; exact lm) (hmj.set hfj _) hr ((Ej.trans Ej6).trans (E7.mono fun s hs => .inr hs))
      exact this
  have := key (m.mks.length - f) 0 m h col (by omega) p G rfl rfl rfl hm hrw (.refl _ _ _)
  exact this
def dropTo (op : List OpenP) (id : Int) : Nat -> List OpenP
  | 0 => []
  | i + 1 => if i = 0 ∨ (op.getD i noOpen).1 ≠ id then dropTo op id i ++ [op.getD i noOpen] else dropTo op id i
theorem dropTo_len (op : List OpenP) (id : Int) : ∀ i, (dropTo op id i).length <= i
  | 0 => Nat.le_refl _
  | i + 1 => by
    unfold dropTo
    have := dropTo_len op id i
    split
    · rw [List.length_append]; show _ + 1 <= _; omega
    · omega
theorem dropTo_all {op : List OpenP} {id : Int} : ∀ i, i <= op.length -> (∀ j (hj : j < op.length), 0 < j -> j < i -> op[j].1 ≠ id) -> dropTo op id i = op.take i
  | 0, _, _ => rfl
  | i + 1, hi, hno => by
    have hil : i < op.length := by omega
    unfold dropTo
    rw [getD_get hil, dropTo_all i (by omega) fun j hj h0 hji => hno j hj h0 (by omega)]
    have hc : i = 0 ∨ op[i].1 ≠ id := by
      rcases Nat.eq_zero_or_pos i with h | h
      · exact .inl h
      · exact .inr (hno i hil h (by omega))
    rw [if_pos hc, List.take_add_one, List.getElem?_eq_getElem hil]; rfl
theorem dropTo_one {op : List OpenP} {id : Int} {k : Nat} (hk0 : 0 < k) (hk : k < op.length) (he : op[k].1 = id) (hno : ∀ j (hj : j < op.length), j ≠ k -> op[j].1 ≠ id) : ∀ i, i <= op.length -> dropTo op id i = if k < i then (op.take i).eraseIdx k else op.take i
  | 0, _ => rfl
  | i + 1, hi => by
    have hil : i < op.length := by omega
    unfold dropTo
    rw [getD_get hil, dropTo_one hk0 hk he hno i (by omega)]
    have hst : op.take (i + 1) = op.take i ++ [op[i]] := by rw [List.take_add_one, List.getElem?_eq_getElem hil]; rfl
    by_cases hik : i = k
    · subst hik
      rw [if_neg (fun h => by rcases h with h | h; omega; exact h he), if_neg (by omega), if_pos (by omega), hst]
      have hlen : (op.take i).length = i := by rw [List.length_take]; omega
      rw [List.eraseIdx_append_of_length_le (by omega), hlen, Nat.sub_self]
      simp
    · rw [if_pos (.inr (hno i hil hik)), hst]
      by_cases h2 : k < i
      · rw [if_pos h2, if_pos (by omega), List.eraseIdx_append_of_lt_length (by rw [List.length_take]; omega)]
      · rw [if_neg h2, if_neg (by omega)]
theorem dropTo_eq {op : List OpenP} {id : Int} (hnd : (op.map (·.1)).Nodup) : dropTo op id op.length = dropO op id := by
  have uniq : ∀ i j (hi : i < op.length) (hj : j < op.length), op[i].1 = op[j].1 -> i = j := fun i j hi hj e =>
    by
      have hp := List.pairwise_iff_getElem.1 hnd
      rcases Nat.lt_trichotomy i j with h | h | h
      · exact absurd (by rw [List.getElem_map, List.getElem_map]; exact e) (hp i j (by simpa using hi) (by simpa using hj) h)
      · exact h
      · exact absurd (by rw [List.getElem_map, List.getElem_map]; exact e.symm) (hp j i (by simpa using hj) (by simpa using hi) h)
  unfold dropO
  have hq := idxQ_lt (l := op) (p := fun x => decide (x.1 = id))
  by_cases hex : ∃ k, ∃ hk : k < op.length, op[k].1 = id
  · obtain ⟨k, hk, e⟩ := hex
    have hno : ∀ j (hj : j < op.length), j ≠ k -> op[j].1 ≠ id := fun j hj hne e2 => hne (uniq j k hj hk (e2.trans e.symm))
    have hi : idxQ op (fun x => decide (x.1 = id)) = (k : Int) := idxQ_some hk (decide_eq_true e) fun j hj hjk => decide_eq_false (hno j hj (by omega))
    rw [hi, Int.toNat_natCast]
    rcases Nat.eq_zero_or_pos k with h0 | h0
    · rw [if_neg (by omega), dropTo_all _ (Nat.le_refl _) fun j hj h1 _ => hno j hj (by omega), List.take_length]
    · rw [if_pos (by omega), dropTo_one h0 hk e hno _ (Nat.le_refl _), if_pos hk, List.take_length]
  · have hno : ∀ j (hj : j < op.length), op[j].1 ≠ id := fun j hj e => hex ⟨j, hj, e⟩
    have hi : idxQ op (fun x => decide (x.1 = id)) = -1 := idxQ_none fun j hj => decide_eq_false (hno j hj)
    rw [hi, if_neg (by decide), dropTo_all _ (Nat.le_refl _) fun j hj _ _ => hno j hj, List.take_length]
theorem refDrop_calls (p : RW h col w m) {id : Int} (hl : m.op.length < 1000000) (hnd : (m.op.map (·.1)).Nodup) (hk : ∀ h' col', RW h' col' w (dropW m id) -> ExtP RS h col h' col' -> K (.tuple ⟨[]⟩) h') :
    HCalls Tryz.prog 94 ⟨[.pointer (some w), .int .i64 id]⟩ h K := by
  obtain ⟨t, T, W⟩ := p.ex
  obtain ⟨ob, oc, mb, mn, mc, v, o, om⟩ := W.ex
  refine Sx.r13_World_Drop.ok _ _ _ _ ⟨m.op.length + 1, ?_⟩
  have key : ∀ k i h2 lb lc, i + k = m.op.length -> OwnF elOpen h2 h.size 60 lb (dropTo m.op id i).length lc (dropTo m.op id i) -> KB h h2 ->
      Sx.r13_World_Drop.n6_L (fun z0 z4b z4n z4c h => Sx.r13_World_Drop.n3 z0 z4b z4n z4c (fun h => K (.tuple ⟨[]⟩) h) (fun h => K (.tuple ⟨[]⟩) h) h) (fun z0 z4b z4n z4c h => Sx.r13_World_Drop.n3 z0 z4b z4n z4c (fun h => K (.tuple ⟨[]⟩) h) (fun h => K (.tuple ⟨[]⟩) h) h) (fun h => K (.tuple ⟨[]⟩) h) (k + 1) (some w) id lb (dropTo m.op id i).length lc (i : Int) h2 := by
    intro k
    induction k with
    | zero =>
      intro i h2 lb lc hi o2 k2
      unfold Sx.r13_World_Drop.n6_L LP Sx.r13_World_Drop.n6_B
      refine vSomeMk ⟨_, _, _, (v.kb k2).cell 1 rfl, splF (by omega) (vSomeMk ?_)⟩
      have ei : i = m.op.length := by omega
      subst ei
      have o2' : OwnA elOpen Non h2 h.size 60 lb (dropTo m.op id m.op.length).length lc (dropTo m.op id m.op.length) := ⟨o2.own.flat flatOpen, o2.lo, o2.hi, o2.nil⟩
      refine setOpen_k W p.fresh k2 o2' fun h5 W5 E5 f5 _ => hk h5 _ ⟨t, T.otherP (Z := fun k => k = 3) (by decide) E5 f5, ?_⟩ (E5.mono fun s hs => .inr hs)
      rw [dropTo_eq hnd] at W5
      exact W5
    | succ k ih =>
      intro i h2 lb lc hi o2 k2
      have hil : i < m.op.length := by omega
      have hlen := dropTo_len m.op id i
      unfold Sx.r13_World_Drop.n6_L LP Sx.r13_World_Drop.n6_B
      refine vSomeMk ⟨_, _, _, (v.kb k2).cell 1 rfl, splT (by omega) ?_⟩
      have yes : (i = 0 ∨ m.op[i].1 ≠ id) -> ∀ (Kn Ke1 : Sx.r13_World_Drop.T4) (Ke0 : Sx.r13_World_Drop.T3) (Kr : Sx.r13_World_Drop.T0), (∀ b' c' h', OwnF elOpen h' h.size 60 b' (dropTo m.op id (i + 1)).length c' (dropTo m.op id (i + 1)) -> KB h h' -> Kn (some w) id b' (dropTo m.op id (i + 1)).length c' (i : Int) h') ->
          Sx.r13_World_Drop.n12 (some w) id lb (dropTo m.op id i).length lc (i : Int) true Kn Ke1 Ke0 Kr h2 := by
        intro hy Kn Ke1 Ke0 Kr hKn
        have hst : dropTo m.op id (i + 1) = dropTo m.op id i ++ [m.op[i]] := by
          conv => lhs; unfold dropTo
          rw [getD_get hil, if_pos hy]
        rw [hst, List.length_append] at hKn
        refine condT (vSomeMk ⟨_, _, _, (v.kb k2).cell 1 rfl, (o.kb k2).row.idxN hil rfl fun q hA => ldOpen hA fun ow => ?_⟩)
        refine one_appG apdOpen (x := m.op[i]) (cs := cellsO m.op[i]) (fun A h => ow.r) o2 k2.1 (by simp only [maxLen]; omega) (by omega) fun b' c' h' o' k' => vSliceMk (hKn b' c' h' o' (SK.trans k2 (k'.less fun q hq => ⟨Nat.lt_of_lt_of_le hq k2.1, fun a ea e2 => by have := o2.lo a ea; have hq : q < h.size := hq; omega⟩)))
      have go : ∀ b' c' h', OwnF elOpen h' h.size 60 b' (dropTo m.op id (i + 1)).length c' (dropTo m.op id (i + 1)) -> KB h h' ->
          Rng .i64 ((i : Int) + 1) /\ Sx.r13_World_Drop.n6_L (fun z0 z4b z4n z4c h => Sx.r13_World_Drop.n3 z0 z4b z4n z4c (fun h => K (.tuple ⟨[]⟩) h) (fun h => K (.tuple ⟨[]⟩) h) h) (fun z0 z4b z4n z4c h => Sx.r13_World_Drop.n3 z0 z4b z4n z4c (fun h => K (.tuple ⟨[]⟩) h) (fun h => K (.tuple ⟨[]⟩) h) h) (fun h => K (.tuple ⟨[]⟩) h) (k + 1) (some w) id b' (dropTo m.op id (i + 1)).length c' ((i : Int) + 1) h' := fun b' c' h' o' k' =>
        ⟨rng64 (by omega) (by omega), ih (i + 1) h' b' c' (by omega) o' k'⟩
      refine spl (fun e0 => yes (.inl (by omega)) _ _ _ _ go) fun e0 => vSomeMk ⟨_, _, _, (v.kb k2).cell 1 rfl, (o.kb k2).row.idxN hil rfl fun q hA => ⟨_, hA.fst.int.1, spl (fun e1 => condF ?_) fun e1 => yes (.inr e1) _ _ _ _ go⟩⟩
      have hst : dropTo m.op id (i + 1) = dropTo m.op id i := by
        conv => lhs; unfold dropTo
        rw [getD_get hil, if_neg (fun h => by rcases h with h | h; omega; exact h e1)]
      have := go lb lc h2 (by rw [hst]; exact o2) k2
      rw [hst] at this
      exact this
  exact key m.op.length 0 h none 0 (by omega) (OwnF.none _ _ _) (KB.refl h)
end
end Go.Proofs
namespace Go.Proofs
open Go Go.Sh
set_option linter.unusedVariables false
set_option maxRecDepth 100000
def MarksS (l : List MarkP) : Prop := ∀ x ∈ l, x.2.1.length <= 4000 /\ x.2.2.length <= 500 /\ ∀ a ∈ x.2.2, a.2.length <= 4000
structure DI (m : WM) (u v x : Nat) : Prop where
  G : GoodT m.ns
  B : BareT m.ns
  ne : 0 < m.op.length
  ids : ∀ y ∈ m.op, 0 <= y.1 /\ y.1 < m.ns.length
  nd : (m.op.map (·.1)).Nodup
  lo : m.op.length <= u
  ln : m.ns.length <= u
  ml : m.mks.length <= v
  mw : MarksS m.mks
  tx : TextB m.ns x
theorem MarksS.w {l : List MarkP} (h : MarksS l) : MarksW l := fun x hx => ⟨by have := (h x hx).1; omega, by have := (h x hx).2.1; omega, fun a ha => by have := (h x hx).2.2 a ha; omega⟩
theorem DI.zero : DI wm0 1 0 0 :=
  ⟨good_root, BareT.root1, by decide, fun y hy => by
    have : y = (0, 0, wHtml, 0) := by simpa [wm0] using hy
    subst this; exact ⟨by decide, by decide⟩, by decide, by decide, by decide, by decide, (fun y hy => nomatch hy), TextB.root1⟩
theorem DI.mono {m : WM} {u v x u' v' x' : Nat} (H : DI m u v x) (h1 : u <= u') (h2 : v <= v') (h3 : x <= x') : DI m u' v' x' :=
  ⟨H.G, H.B, H.ne, H.ids, H.nd, Nat.le_trans H.lo h1, Nat.le_trans H.ln h1, Nat.le_trans H.ml h2, H.mw, H.tx.mono h3⟩
section
variable {m : WM} {u v x : Nat}
theorem DI.pos (H : DI m u v x) : 0 < m.ns.length := by obtain ⟨r, hr, _⟩ := H.G.root; exact getI hr
theorem DI.insert (H : DI m u v x) (sp : Int) (nm : Bs) (at' : List AttrP) : DI (insertM m sp nm at') (u + 1) v x := by
  have hl : (insertM m sp nm at').ns.length = m.ns.length + 1 := insert_lenR H.G
  have hop : (insertM m sp nm at').op = m.op ++ [((m.ns.length : Int), sp, nm, pointM sp nm at')] := rfl
  have hlo : (insertM m sp nm at').op.length = m.op.length + 1 := by rw [hop, List.length_append]; rfl
  have h1 := H.lo
  have h2 := H.ln
  refine ⟨goodInsertR H.G, ?_, by omega, fun y hy => ?_, ?_, by omega, by omega, H.ml, H.mw, ?_⟩
  · exact (H.B.addM H.pos 1 sp nm at' []).like (put_like (H.G.addM _ _ _ _ _) _ _ _)
  · rw [hop] at hy
    rw [hl]
    rcases List.mem_append.1 hy with h | h
    · have := H.ids y h; exact ⟨this.1, by omega⟩
    · rw [List.mem_singleton.1 h]; exact ⟨by show (0 : Int) <= (m.ns.length : Int); omega, by show (m.ns.length : Int) < _; omega⟩
  · rw [hop, List.map_append]
    refine List.nodup_append.2 ⟨H.nd, by simp, fun a ha b hb => ?_⟩
    obtain ⟨y, hy, rfl⟩ := List.mem_map.1 ha
    have hb : b = (m.ns.length : Int) := by simpa using hb
    have := (H.ids y hy).2
    omega
  · have h1 : TextB (addM m.ns (bareM 1 sp nm at' [])).1 x := H.tx.addM (by simp)
    exact h1.like (put_like (H.G.addM _ _ _ _ _) _ _ _)
theorem write_lenL {ns : List NodeM} (G : GoodT ns) (p b : Int) (tx : Bs) : ns.length <= (writeM ns p b tx).1.length := by
  rcases write_of (ns := ns) p b tx with h | ⟨j, z, _, _, h⟩ | ⟨i, h⟩
  · rw [h]; exact Nat.le_refl _
  · rw [h, List.length_set]; exact Nat.le_refl _
  · rw [h, put_len (G.addM _ _ _ _ _)]
    show _ <= (ns ++ [_]).length
    simp
theorem DI.write (H : DI m u v x) {tx : Bs} (ht : tx.length <= 4000) : DI (writeW m tx) (u + 1) v (x + 4000) := by
  have h1 := H.lo
  have h2 := H.ln
  have hg := write_lenL H.G (whereC m).1 (whereC m).2 tx
  have hl := write_len H.G (whereC m).1 (whereC m).2 tx
  refine ⟨H.G.writeM _ _ _, H.B.writeM H.G H.pos _ _ _, H.ne, fun y hy => ?_, H.nd, by show m.op.length <= _; omega, by show (writeM _ _ _ _).1.length <= _; omega, H.ml, H.mw, H.tx.writeM H.G _ _ ht⟩
  have := H.ids y hy
  exact ⟨this.1, by show y.1 < ((writeM _ _ _ _).1.length : Int); omega⟩
theorem DI.ops (H : DI m u v x) {op : List OpenP} (hne : 0 < op.length) (hs : op.Sublist m.op) : DI { m with op := op } u v x :=
  ⟨H.G, H.B, hne, fun y hy => H.ids y (hs.subset hy), H.nd.sublist (hs.map _), Nat.le_trans hs.length_le H.lo, H.ln, H.ml, H.mw, H.tx⟩
theorem DI.close (H : DI m u v x) (n : Int) : DI (closeW m n) u v x := by
  unfold closeW closeO
  have := H.ne
  split
  · exact H.ops (by rw [List.length_take]; omega) (List.take_sublist _ _)
  · exact H
theorem DI.drop (H : DI m u v x) (id : Int) : DI (dropW m id) u v x := by
  unfold dropW dropO
  have hq := idxQ_lt (l := m.op) (p := fun x => decide (x.1 = id))
  split
  · refine H.ops ?_ (List.eraseIdx_sublist _ _)
    rw [List.length_eraseIdx, if_pos (by omega)]
    omega
  · exact H
theorem push_mem {l : List MarkP} {y z : MarkP} (h : z ∈ pushP l y) : z ∈ l ∨ z = y := by
  unfold pushP at h
  split at h
  · rcases List.mem_append.1 h with h | h
    · exact .inl h
    · exact .inr (List.mem_singleton.1 h)
  · rcases List.mem_append.1 h with h | h
    · exact .inl (List.mem_of_mem_eraseIdx h)
    · exact .inr (List.mem_singleton.1 h)
theorem push_length (l : List MarkP) (y : MarkP) : (pushP l y).length <= l.length + 1 := by
  unfold pushP
  split
  · rw [List.length_append]; exact Nat.le_refl _
  · rw [List.length_append]
    have := List.length_eraseIdx_le l ((pushS l y).headD 0)
    show _ + 1 <= _
    omega
theorem DI.push (H : DI m u v x) {y : MarkP} (hy : y.2.1.length <= 4000 /\ y.2.2.length <= 500 /\ ∀ a ∈ y.2.2, a.2.length <= 4000) : DI { m with mks := pushP m.mks y } u (v + 1) x :=
  ⟨H.G, H.B, H.ne, H.ids, H.nd, H.lo, H.ln, by have := push_length m.mks y; have := H.ml; show (pushP _ _).length <= _; omega, fun z hz => by
    rcases push_mem hz with h | h
    · exact H.mw z h
    · rw [h]; exact hy, H.tx⟩
theorem MarksS.set {l : List MarkP} (w : MarksS l) {i : Nat} (hi : i < l.length) (id : Int) : MarksS (l.set i (id, l[i].2)) := fun x hx => by
  rcases List.mem_or_eq_of_mem_set hx with h | h
  · exact w x h
  · rw [h]; exact w l[i] (List.getElem_mem hi)
theorem DI.reb {v : Nat} : ∀ (k : Nat) {m : WM} {u x : Nat} (i : Nat), DI m u v x -> i + k <= m.mks.length -> DI (rebN k m i) (u + k) v x
  | 0, m, u, x, i, H, _ => H
  | k + 1, m, u, x, i, H, hik => by
    have hi : i < m.mks.length := by omega
    have h1 := H.insert 0 (m.mks.getD i noMark).2.1 (m.mks.getD i noMark).2.2
    have hg : m.mks.getD i noMark = m.mks[i] := getD_get hi
    have h2 : DI { insertM m 0 (m.mks.getD i noMark).2.1 (m.mks.getD i noMark).2.2 with mks := m.mks.set i ((m.ns.length : Int), (m.mks.getD i noMark).2) } (u + 1) v x :=
      ⟨h1.G, h1.B, h1.ne, h1.ids, h1.nd, h1.lo, h1.ln, by show (m.mks.set _ _).length <= v; rw [List.length_set]; exact H.ml, by rw [hg]; exact H.mw.set hi _, h1.tx⟩
    have := DI.reb k (i + 1) h2 (by show i + 1 + k <= (m.mks.set _ _).length; rw [List.length_set]; omega)
    rw [show u + (k + 1) = u + 1 + k by omega]
    exact this
theorem DI.rebuild (H : DI m u v x) : DI (rebuildW m) (u + v) v x := by
  have hr := lostTo_rng m.mks m.op m.mks.length
  have h1 : (lostP m.mks m.op).toNat <= m.mks.length := by have := hr.2; show (lostTo m.mks m.op m.mks.length).toNat <= _; omega
  have := DI.reb (m.mks.length - (lostP m.mks m.op).toNat) (lostP m.mks m.op).toNat H (by omega)
  exact this.mono (by have := H.ml; omega) (Nat.le_refl _) (Nat.le_refl _)
end
def AS (s : Nat) : Prop := PS s ∨ RS s
structure PD (h : H) (col : Col) (w r : Addr) (m : WM) : Prop where
  P : PW h col w m
  R : RW h col r m
section
variable {h h' : H} {K : Value -> H -> Prop} {col col' : Col} {w r : Addr} {m m' : WM} {u v x : Nat}
theorem PD.kb (D : PD h col w r m) (k : KB h h') : PD h' col w r m := ⟨D.P.kb k, D.R.kb k⟩
theorem PW.otherR {h1 : H} {c1 : Col} (P : PW h col w m) (E : ExtP RS h col h1 c1) (f : Fresh h1 c1) : PW h1 c1 w m := P.ext E (by unfold RS; omega) (by unfold RS; omega) f
theorem RW.otherP {h1 : H} {c1 : Col} (R : RW h col r m) (E : ExtP PS h col h1 c1) (f : Fresh h1 c1) : RW h1 c1 r m := R.ext E (by unfold PS; omega) (by unfold PS; omega) f
theorem PD.act {h1 h2 : H} {c1 c2 : Col} (D : PD h col w r m) (P1 : PW h1 c1 w m') (E1 : ExtP PS h col h1 c1) (R2 : RW h2 c2 r m') (E2 : ExtP RS h1 c1 h2 c2) : PD h2 c2 w r m' /\ ExtP AS h col h2 c2 :=
  ⟨⟨P1.otherR E2 R2.fresh, R2⟩, (E1.mono fun s hs => .inl hs).trans (E2.mono fun s hs => .inr hs)⟩
end
end Go.Proofs
namespace Go.Proofs
open Go Go.Sh
set_option linter.unusedVariables false
set_option maxRecDepth 100000
section
variable {A B : Nat -> Prop} {h : H} {b b2 : Option Addr} {n c n2 c2 : Nat} {ns : List Bs} {s row : Bs} {x : OpenP} {sc sp : Int}
theorem refInLit_calls (ws : List Bs) {k : Nat} (hn : ws.length = k) (hs : shortB ws = true) (hl : Nat.ble ws.length maxLen = true) {h' : H} {a : Addr} {t : Nat} (v : Var h' a t (ws.map S)) {K : Value -> H -> Prop} (hk : K (.bool (inNames ws s)) h') : HCalls Tryz.prog 93 ⟨[.slice (some a) k k, S s]⟩ h' K := by
  subst hn
  exact refIn_calls (rowLit v hs hl) hk
theorem refSpecial_calls {K : Value -> H -> Prop} (hk : ∀ h', KB h h' -> K (.bool (specialP sp s)) h') : HCalls Tryz.prog 51 ⟨[.int .u8 sp, S s]⟩ h K := by
  refine Sx.r11_Special.ok _ _ _ _ (spl (fun e => condT ?_) fun e => condF <| spl (fun e2 => condT ?_) fun e2 => condF <| spl (fun e3 => ?_) fun e3 => ?_)
  · refine newx_var (cs := wHTML.map S) fun a h1 v1 k1 _ _ => refInLit_calls wHTML rfl (by decide +kernel) (by decide +kernel) v1 (vBool_mk (condK (K := fun b => K (.bool b) h1) ?_))
    have := hk h1 k1
    unfold specialP at this; rwa [if_pos e] at this
  · refine newx_var (cs := wMath.map S) fun a h1 v1 k1 _ _ => refInLit_calls wMath rfl (by decide +kernel) (by decide +kernel) v1 (vBool_mk (condK (K := fun b => K (.bool b) h1) ?_))
    have := hk h1 k1
    unfold specialP at this; rwa [if_neg e, if_pos e2] at this
  · refine newx_var (cs := wSVG.map S) fun a h1 v1 k1 _ _ => refInLit_calls wSVG rfl (by decide +kernel) (by decide +kernel) v1 (vBool_mk (condK (K := fun b => K (.bool b) h1) ?_))
    have := hk h1 k1
    unfold specialP at this; rwa [if_neg e, if_neg e2, if_pos e3] at this
  · have := hk h (KB.refl h)
    unfold specialP at this; rwa [if_neg e, if_neg e2, if_neg e3] at this
theorem refOneLit_calls (ws : List Bs) {k : Nat} (hn : ws.length = k) (hs : shortB ws = true) (hl : Nat.ble ws.length maxLen = true) {h' : H} {a : Addr} {t : Nat} (v : Var h' a t (ws.map S)) {K : Value -> H -> Prop} (hk : ∀ h2, KB h' h2 -> K (.bool (oneP x ws)) h2) :
    HCalls Tryz.prog 100 ⟨[.agg ⟨cellsO x⟩, .slice (some a) k k]⟩ h' K := by
  subst hn
  exact refOne_calls (rowLit v hs hl) hk
end
theorem apdStr : Apd Tryz.prog elStr 116 9 16 := apd_of (sz := 1) (by kernel_rfl) rfl
section
variable {A B : Nat -> Prop} {h : H} {b b2 : Option Addr} {n c n2 c2 : Nat} {ns : List Bs} {s row : Bs} {x : OpenP} {sc sp : Int}
theorem boundsP_table (e : sc = 3) : boundsP x sc = oneP x wTable := by unfold boundsP; rw [if_pos e]
theorem boundsP_other (e : sc ≠ 3) (e2 : x.2.1 ≠ 0) : boundsP x sc = specialP x.2.1 x.2.2.1 := by unfold boundsP; rw [if_neg e, if_pos e2]
theorem boundsP_html (e : sc ≠ 3) (e2 : x.2.1 = 0) : boundsP x sc = (inNames wBnd x.2.2.1 || (decide (sc = 1) && inNames wList x.2.2.1) || (decide (sc = 2) && inNames wButton x.2.2.1)) := by unfold boundsP; rw [if_neg e, if_neg (fun h => h e2)]
theorem oneP_html (e2 : x.2.1 = 0) : oneP x ns = inNames ns x.2.2.1 := by unfold oneP; rw [decide_eq_true e2, Bool.true_and]
theorem bounds_calls (m : ML h) (hs : x.2.2.1.length <= 9000000000000000000) {K : Value -> H -> Prop} (hk : ∀ h', KB h h' -> K (.bool (boundsP x sc)) h') : HCalls Tryz.prog 124 ⟨[.agg ⟨cellsO x⟩, .int .u8 sc]⟩ h K := by
  refine Sx.open_bounds.ok _ _ _ _ _ _ _ (newx_var fun a h1 v1 k1 _ _ => ?_)
  have last : ∀ h2, KB h1 h2 -> sc ≠ 3 -> x.2.1 = 0 -> (decide (sc = 1) && inNames wList x.2.2.1) = false -> (decide (sc = 2) && inNames wButton x.2.2.1) = false ->
      Sx.open_bounds.n3 a (fun y4 h => K (.bool y4) h) (fun y4 h => K (.bool y4) h) h2 := fun h2 k2 e1 e2 e3 e4 => by
    refine ⟨_, (v1.kb k2).cell 2 rfl, hasRow_calls wBnd wBnd_ok (by decide +kernel) (by decide +kernel) ((m.kb k1).kb k2) hs (vBool_mk (condK (K := fun b => K (.bool b) h2) ?_))⟩
    have := hk h2 (k1.trans k2)
    rwa [boundsP_html e1 e2, e3, e4, Bool.or_false, Bool.or_false] at this
  have second : ∀ h2, KB h1 h2 -> sc ≠ 3 -> x.2.1 = 0 -> (decide (sc = 1) && inNames wList x.2.2.1) = false ->
      Sx.open_bounds.n14 sc a false (fun z2 z20 h => Sx.open_bounds.n12 z2 z20 (fun z2 h => Sx.open_bounds.n3 z2 (fun y4 h => K (.bool y4) h) (fun y4 h => K (.bool y4) h) h) (fun z2 h => Sx.open_bounds.n3 z2 (fun y4 h => K (.bool y4) h) (fun y4 h => K (.bool y4) h) h) (fun y4 h => K (.bool y4) h) h)
        (fun z2 h => Sx.open_bounds.n3 z2 (fun y4 h => K (.bool y4) h) (fun y4 h => K (.bool y4) h) h) (fun y4 h => K (.bool y4) h) h2 := fun h2 k2 e1 e2 e3 => by
    refine spl (fun e => ldVar (v1.kb k2) (newx_var (cs := wButton.map S) fun a3 h3 v3 k3 _ _ => ofLit_calls wButton rfl (by decide +kernel) (by decide +kernel) v3 fun h4 k4 => vBool_mk (condB (fun ht => ?_) fun ht => ?_))) fun e => last h2 k2 e1 e2 e3 (by rw [decide_eq_false e, Bool.false_and])
    · rw [oneP_html e2] at ht
      have := hk h4 (((k1.trans k2).trans k3).trans k4)
      rwa [boundsP_html e1 e2, ht, decide_eq_true e, Bool.and_self, Bool.or_true] at this
    · rw [oneP_html e2] at ht
      exact last h4 ((k2.trans k3).trans k4) e1 e2 e3 (by rw [ht, Bool.and_false])
  refine spl (fun e => ldVar v1 (newx_var (cs := wTable.map S) fun a3 h3 v3 k3 _ _ => ofLit_calls wTable rfl (by decide +kernel) (by decide +kernel) v3 fun h4 k4 => vBool_mk (condK (K := fun b => K (.bool b) h4) ?_))) fun e => ⟨_, v1.cell 1 rfl, spl (fun e2 => ?_) fun e2 => ?_⟩
  · have := hk h4 ((k1.trans k3).trans k4)
    rwa [boundsP_table e] at this
  · refine spl (fun e3 => ldVar v1 (newx_var (cs := wList.map S) fun a3 h3 v3 k3 _ _ => ofLit_calls wList rfl (by decide +kernel) (by decide +kernel) v3 fun h4 k4 => vBool_mk (condB (fun ht => ?_) fun ht => ?_))) fun e3 => second h1 (KB.refl h1) e e2 (by rw [decide_eq_false e3, Bool.false_and])
    · rw [oneP_html e2] at ht
      have := hk h4 ((k1.trans k3).trans k4)
      rwa [boundsP_html e e2, ht, decide_eq_true e3, Bool.and_self, Bool.or_true, Bool.true_or] at this
    · rw [oneP_html e2] at ht
      exact second h4 (k3.trans k4) e e2 (by rw [ht, Bool.and_false])
  · refine ⟨_, v1.cell 1 rfl, _, v1.cell 2 rfl, special_calls (m.kb k1) hs (vBool_mk (condK (K := fun b => K (.bool b) h1) ?_))⟩
    have := hk h1 k1
    rwa [boundsP_other e e2] at this
theorem refBounds_calls (hs : x.2.2.1.length <= 9000000000000000000) {K : Value -> H -> Prop} (hk : ∀ h', KB h h' -> K (.bool (boundsP x sc)) h') : HCalls Tryz.prog 119 ⟨[.agg ⟨cellsO x⟩, .int .u8 sc]⟩ h K := by
  refine Sx.r11_bounds.ok _ _ _ _ _ _ _ (newx_var fun a h1 v1 k1 _ _ => ?_)
  refine spl (fun e => ldVar v1 (newx_var (cs := wTable.map S) fun a3 h3 v3 k3 _ _ => refOneLit_calls wTable rfl (by decide +kernel) (by decide +kernel) v3 fun h4 k4 => vBool_mk (condK (K := fun b => K (.bool b) h4) ?_))) fun e => ⟨_, v1.cell 1 rfl, spl (fun e2 => ?_) fun e2 => ⟨_, v1.cell 1 rfl, _, v1.cell 2 rfl, refSpecial_calls fun h2 k2 => vBool_mk (condK (K := fun b => K (.bool b) h2) ?_)⟩⟩
  · have := hk h4 ((k1.trans k3).trans k4)
    rwa [boundsP_table e] at this
  · refine newx_var (cs := wBnd.map S) fun a2 h2 v2 k2 _ _ => ?_
    have r2 : Row elStr (fun _ => True) h2 (some a2) 9 9 wBnd := rowLit v2 (by decide +kernel) (by decide +kernel)
    have k12 := k1.trans k2
    refine spl (fun e3 => newx_var (cs := wList.map S) fun a3 h3 v3 k3 _ _ => ?_) fun e3 => spl (fun e4 => newx_var (cs := wButton.map S) fun a3 h3 v3 k3 _ _ => ?_) fun e4 => ⟨_, (v1.kb k2).cell 2 rfl, refIn_calls r2 (vBool_mk (condK (K := fun b => K (.bool b) h2) ?_))⟩
    · have r3 : Row elStr (fun _ => True) h3 (some a3) 2 2 wList := rowLit v3 (by decide +kernel) (by decide +kernel)
      refine Row.appendF apdStr (r2.kb k3) (.inr (by omega)) r3 (fun h => by cases h) (by decide) (by decide) (fun h => by cases h) fun c4 h4 _ o4 k4 => vSliceMk (splF (by omega) ⟨_, ((v1.kb k2).kb (k3.trans k4)).cell 2 rfl, refIn_calls o4.row (vBool_mk (condK (K := fun b => K (.bool b) h4) ?_))⟩)
      have := hk h4 ((k12.trans k3).trans k4)
      rw [boundsP_html e e2, decide_eq_true e3, decide_eq_false (by omega : ¬ sc = 2)] at this
      have e5 : inNames (wBnd ++ wList) x.2.2.1 = (inNames wBnd x.2.2.1 || (true && inNames wList x.2.2.1) || (false && inNames wButton x.2.2.1)) := by
        unfold inNames; simp
      rwa [e5]
    · have r3 : Row elStr (fun _ => True) h3 (some a3) 1 1 wButton := rowLit v3 (by decide +kernel) (by decide +kernel)
      refine Row.appendF apdStr (r2.kb k3) (.inr (by omega)) r3 (fun h => by cases h) (by decide) (by decide) (fun h => by cases h) fun c4 h4 _ o4 k4 => vSliceMk ⟨_, ((v1.kb k2).kb (k3.trans k4)).cell 2 rfl, refIn_calls o4.row (vBool_mk (condK (K := fun b => K (.bool b) h4) ?_))⟩
      have := hk h4 ((k12.trans k3).trans k4)
      rw [boundsP_html e e2, decide_eq_false e3, decide_eq_true e4] at this
      have e5 : inNames (wBnd ++ wButton) x.2.2.1 = (inNames wBnd x.2.2.1 || (false && inNames wList x.2.2.1) || (true && inNames wButton x.2.2.1)) := by
        unfold inNames; simp
      rwa [e5]
    · have := hk h2 k12
      rwa [boundsP_html e e2, decide_eq_false e3, decide_eq_false e4, Bool.false_and, Bool.false_and, Bool.or_false, Bool.or_false] at this
  · have := hk h2 (k1.trans k2)
    rwa [boundsP_other e e2] at this
end
section
variable {A B : Nat -> Prop} {h : H} {b b2 : Option Addr} {n c n2 c2 : Nat} {l : List OpenP} {ns : List Bs} {s : Bs} {sc : Int}
theorem rdOpenV {i : Int} {x : OpenP} {K : Value -> Int -> Int -> Bs -> Int -> Prop} (h : K (.int .i64 i) x.1 x.2.1 x.2.2.1 x.2.2.2) :
    uncons [.int .i64 i, .agg ⟨cellsO x⟩] fun e l => uncons l fun e2 l2 => vAgg e2 fun l3 => uncons l3 fun e3 l4 => vInt .i64 e3 fun j => uncons l4 fun e4 l5 => vInt .u8 e4 fun k => uncons l5 fun e5 l6 => vStr e5 fun s => uncons l6 fun e6 l7 => vInt .u8 e6 fun p => unnil l7 (unnil l2 (K e j k s p)) := h
theorem openIn_calls (m : ML h) (hA : ∀ k, A k -> k < h.size) (r : Row elOpen A h b n c l) (hl : ∀ x ∈ l, x.2.2.1.length <= 9000000000000000000) (rn : Row elStr B h b2 n2 c2 ns) {K : Value -> H -> Prop} (hk : ∀ h', KB h h' -> K (.bool (inP l sc ns)) h') :
    HCalls Tryz.prog 113 ⟨[.slice b n c, .int .u8 sc, .slice b2 n2 c2]⟩ h K := by
  refine Sx.open_In.ok _ _ _ _ _ _ _ _ _ (newx_var fun x1 h1 v1 k1 e1 s1 => newx_var fun x2 h2 v2 k2 e2 s2 => newx_var fun y h3 v3 k3 e3 s3 => outwards_calls fun a h4 va k4 ea => ?_)
  have k03 := (k1.trans k2).trans k3
  have k04 := k03.trans k4
  have r4 := r.kb k04
  refine scan_open (f := inF sc ns) (val := .bool) (d := false) (res := inP l sc ns) k04 r4 hA va (v3.kb k4) (by omega) (by omega) rfl (fun i hi h5 Kc k5 hcont hstore hbreak => rdOpenV (front_open k5 (fun k hk => ?_) (Nat.le_refl _) fun ax hb kb vb => ?_)) (fun h' k' hd v => leave_k hd k' k04.1 v fun h'' k'' v'' => ⟨_, v''.cell0 rfl, hk h'' k''⟩)
  · rcases hk with hk | hk
    · exact Nat.lt_of_lt_of_le (hA _ hk) k04.1
    · rw [hk]; exact va.lt
  · have w2 := ((v2.kb k3).kb k4).kb kb
    have w1 := (((v1.kb k2).kb k3).kb k4).kb kb
    refine ldVar vb ⟨_, _, _, w2.cell0 rfl, of_calls ((rn.kb k04).kb kb) fun h6 k6 => vBool_mk (condB (fun ht => hstore hb h6 true kb k6 (by unfold inF; rw [if_pos ht])) fun hf => ldVar (vb.kb k6) ⟨_, (w1.kb k6).cell0 rfl, bounds_calls (((m.kb k04).kb kb).kb k6) (hl _ (List.getElem_mem _)) fun h7 k7 => vBool_mk (condB (fun ht => hbreak hb h7 kb (k6.trans k7) (by unfold inF; rw [if_neg (by rw [hf]; simp), if_pos ht])) fun hf2 => hcont hb h7 kb (k6.trans k7) (by unfold inF; rw [if_neg (by rw [hf]; simp), if_neg (by rw [hf2]; simp)]))⟩)⟩
theorem refIn_calls' (r : Row elOpen A h b n c l) (hl : ∀ x ∈ l, x.2.2.1.length <= 9000000000000000000) (rn : Row elStr B h b2 n2 c2 ns) {K : Value -> H -> Prop} (hk : ∀ h', KB h h' -> K (.bool (inP l sc ns)) h') :
    HCalls Tryz.prog 92 ⟨[.slice b n c, .int .u8 sc, .slice b2 n2 c2]⟩ h K := by
  refine Sx.r11_In.ok _ _ _ _ _ _ _ _ _ ?_
  have hln := r.len
  have hm : n <= maxLen := Nat.le_trans r.cap r.max
  simp only [maxLen] at hm
  refine ⟨rng64 (by omega) (by omega), n + 1, ?_⟩
  have key : ∀ i h5, i <= n -> KB h h5 -> scanTo (inF sc ns) false l i = inP l sc ns ->
      Sx.r11_In.n6_L (fun h => K (.bool false) h) (fun h => K (.bool false) h) (fun y6 h => K (.bool y6) h) (i + 1) b n c sc b2 n2 c2 ((i : Int) - 1) h5 := by
    intro i
    induction i with
    | zero =>
      intro h5 _ k5 e
      refine splF (by omega) ?_
      have := hk h5 k5
      rw [<- e] at this; exact this
    | succ i ih =>
      intro h5 hi k5 e
      have hil : i < l.length := by omega
      have hx : ((i + 1 : Nat) : Int) - 1 = (i : Int) := by omega
      rw [hx]
      unfold scanTo at e
      rw [getD_get hil] at e
      have r5 := r.kb k5
      refine splT (by omega) (r5.idxN hil rfl fun a hA => ldOpen hA fun _ => refOne_calls (rn.kb k5) fun h6 k6 => vBool_mk (condB (fun ht => ?_) fun hf => (r5.kb k6).idxN hil rfl fun a hA => ldOpen hA fun _ => refBounds_calls (hl _ (List.getElem_mem _)) fun h7 k7 => vBool_mk (condB (fun hb => ?_) fun hb => ⟨rng64 (by omega) (by omega), ih h7 (by omega) ((k5.trans k6).trans k7) ?_⟩)))
      · rw [show inF sc ns i l[i] = some true by unfold inF; rw [if_pos ht]] at e
        have := hk h6 (k5.trans k6)
        rw [<- e] at this; exact this
      · rw [show inF sc ns i l[i] = some false by unfold inF; rw [if_neg (by rw [hf]; simp), if_pos hb]] at e
        have := hk h7 ((k5.trans k6).trans k7)
        rw [<- e] at this; exact this
      · rw [show inF sc ns i l[i] = none by unfold inF; rw [if_neg (by rw [hf]; simp), if_neg (by rw [hb]; simp)]] at e
        exact e
  exact key n h (Nat.le_refl _) (KB.refl h) (by rw [<- hln]; rfl)
theorem refImplied_calls (r : Row elOpen A h b n c l) {K : Value -> H -> Prop} (hk : ∀ h', KB h h' -> K (.int .i64 (impliedP l s)) h') :
    HCalls Tryz.prog 55 ⟨[.slice b n c, S s]⟩ h K := by
  refine Sx.r11_Implied.ok _ _ _ _ _ _ ?_
  have hln := r.len
  have hm : n <= maxLen := Nat.le_trans r.cap r.max
  simp only [maxLen] at hm
  refine ⟨n + 1, ?_⟩
  have key : ∀ i h5, i <= n -> KB h h5 -> scanTo (impliedF s) 0 l i = impliedP l s ->
      Sx.r11_Implied.n6_L (fun z5 h => Sx.r11_Implied.n4 z5 (fun y4 h => K (.int .i64 y4) h) (fun y4 h => K (.int .i64 y4) h) h) (fun z5 h => Sx.r11_Implied.n4 z5 (fun y4 h => K (.int .i64 y4) h) (fun y4 h => K (.int .i64 y4) h) h) (fun y4 h => K (.int .i64 y4) h) (i + 1) b n c s (i : Int) h5 := by
    intro i
    induction i with
    | zero =>
      intro h5 _ k5 e
      refine splF (by omega) ?_
      have := hk h5 k5
      rw [<- e] at this; exact this
    | succ i ih =>
      intro h5 hi k5 e
      have hil : i < l.length := by omega
      have hx : ((i + 1 : Nat) : Int) - 1 = (i : Int) := by omega
      unfold scanTo at e
      rw [getD_get hil] at e
      have r5 := r.kb k5
      have stop : ∀ h8, KB h5 h8 -> impliedF s i l[i] = some ((i : Int) + 1) -> K (.int .i64 ((i + 1 : Nat) : Int)) h8 := fun h8 k8 hn => by
        rw [hn] at e
        have := hk h8 (k5.trans k8)
        rw [<- e] at this
        rw [show ((i + 1 : Nat) : Int) = (i : Int) + 1 by omega]
        exact this
      refine splT (by omega) ?_
      simp only [hx]
      refine ⟨rng64 (by omega) (by omega), r5.idxN hil rfl fun a hA => ⟨_, (hA.snd.sndAt (k := 2) rfl).fst.str.1, spl (fun e2 => stop h5 (KB.refl _) (by unfold impliedF; rw [if_pos (.inr (.inl e2))])) fun e2 => ⟨rng64 (by omega) (by omega), r5.idxN hil rfl fun a hA => ldOpen hA fun _ => newx_var (cs := wImp.map S) fun a8 h8 v8 k8 _ _ => refOneLit_calls wImp rfl (by decide +kernel) (by decide +kernel) v8 fun h9 k9 => vBool_mk (condB (fun ht => ⟨rng64 (by omega) (by omega), ih h9 (by omega) ((k5.trans k8).trans k9) ?_⟩) fun hf => stop h9 (k8.trans k9) ?_)⟩⟩⟩
      · have h1 : l[i].2.1 = 0 /\ inNames wImp l[i].2.2.1 = true := by unfold oneP at ht; simpa using ht
        rw [show impliedF s i l[i] = none by
          unfold impliedF
          rw [if_neg]
          rintro (h | h | h)
          · exact h h1.1
          · exact e2 h
          · rw [h1.2] at h; cases h] at e
        exact e
      · unfold impliedF
        rw [if_pos]
        by_cases h0 : l[i].2.1 = 0
        · exact .inr (.inr (by unfold oneP at hf; rw [decide_eq_true h0, Bool.true_and] at hf; exact hf))
        · exact .inl h0
  exact key n h (Nat.le_refl _) (KB.refl h) (by rw [<- hln]; rfl)
end
end Go.Proofs
namespace Go.Proofs
open Go Go.Sh
set_option linter.unusedVariables false
set_option maxRecDepth 100000
section
variable {A B : Nat -> Prop} {h : H} {b b2 : Option Addr} {n c n2 c2 : Nat} {l : List MarkP}
theorem indexFuncMark_calls {f : Value} {p : MarkP -> Bool} (r : Row elMark A h b n c l)
    (hf : ∀ x h1 b' n' c' (next : Value -> H -> Prop), x ∈ l -> KB h h1 -> MarkR A h1 x b' n' c' -> (∀ h2, KB h1 h2 -> next (.bool (p x)) h2) -> CallV Tryz.prog 4 f ⟨[.agg ⟨[.int .i64 x.1, S x.2.1, .slice b' n' c']⟩]⟩ h1 next)
    {K : Value -> H -> Prop} (hk : ∀ h', KB h h' -> K (.int .i64 (idxQ l p)) h') :
    HCalls Tryz.prog 83 ⟨[.slice b n c, f]⟩ h K := by
  refine Sx.slices_IndexFunc_apiMark.ok _ _ _ _ _ _ ?_
  have hl := r.len
  have hm : n <= maxLen := Nat.le_trans r.cap r.max
  simp only [maxLen] at hm
  refine ⟨n + 1, ?_⟩
  have key : ∀ k i h1, i + k = n -> KB h h1 -> (∀ j (h1 : j < l.length), j < i -> p l[j] = false) ->
      Sx.slices_IndexFunc_apiMark.n6_L (fun h => K (.int .i64 (-1)) h) (fun h => K (.int .i64 (-1)) h) (fun y4 h => K (.int .i64 y4) h) (k + 1) b n c f (n : Int) (i : Int) h1 := by
    intro k
    induction k with
    | zero =>
      intro i h1 hi k1 hall
      have := hk h1 k1
      rw [idxQ_none fun j hj => hall j hj (by omega)] at this
      exact splF (by omega) this
    | succ k ih =>
      intro i h1 hi k1 hall
      have hil : i < l.length := by omega
      refine splT (by omega) ((r.kb k1).idxN hil rfl fun a hA => ldMark hA fun b' n' c' hR => hf _ h1 b' n' c' _ (List.getElem_mem _) k1 hR fun h2 k2 => ?_)
      refine condB (fun hd => ?_) fun hd => ⟨rng64 (by omega) (by omega), ih (i + 1) h2 (by omega) (k1.trans k2) fun j h1 hj => ?_⟩
      · have := hk h2 (k1.trans k2)
        rwa [idxQ_some hil hd hall] at this
      · by_cases e : j < i
        · exact hall j h1 e
        · have : j = i := by omega
          subst this
          exact hd
  exact key n 0 h (by omega) (KB.refl h) fun j _ hj => absurd hj (Nat.not_lt_zero _)
def findP (l : List MarkP) (id : Int) : Int := if id < 0 then -1 else idxQ l fun m => decide (m.1 = id)
theorem find_calls {id : Int} (r : Row elMark A h b n c l) {K : Value -> H -> Prop} (hk : ∀ h', KB h h' -> K (.int .i64 (findP l id)) h') : HCalls Tryz.prog 41 ⟨[.slice b n c, .int .i64 id]⟩ h K := by
  refine Sx.marks_Find.ok _ _ _ _ _ _ (newx_var fun a1 h1 v1 k1 e1 _ => ⟨id, v1.cell0 rfl, spl (fun hn => ?_) fun hn => ?_⟩)
  · have := hk h1 k1
    unfold findP at this
    rwa [if_pos hn] at this
  · refine indexFuncMark_calls (p := fun m => decide (m.1 = id)) (r.kb k1) (fun x h3 b' n' c' next hx k3 hR hnx => ?_) fun h' k' => ?_
    · have e : CallV Tryz.prog 4 (.func (.func 84) ⟨[]⟩ ⟨[.pointer (some a1)]⟩) ⟨[.agg ⟨[.int .i64 x.1, S x.2.1, .slice b' n' c']⟩]⟩ h3 next =
          HCalls Tryz.prog 84 ⟨[.agg ⟨[.int .i64 x.1, S x.2.1, .slice b' n' c']⟩, .pointer (some a1)]⟩ h3 fun v h' => vBool v fun b => cond b (next (.bool true) h') (next (.bool false) h') := by kernel_rfl
      rw [e]
      refine Sx.marks_Find_1.ok _ _ _ _ _ _ _ _ (newx_var fun a4 h4 v4 k4 e4 _ => ⟨_, v4.cell 0 rfl, _, ((v1.kb k3).kb k4).cell0 rfl, ?_⟩)
      have := hnx h4 k4
      refine spl (fun e => ?_) fun e => ?_
      · rw [decide_eq_true e] at this; exact this
      · rw [decide_eq_false e] at this; exact this
    · have := hk h' (k1.trans k')
      unfold findP at this
      rwa [if_neg hn] at this
theorem refFind_calls {id : Int} (r : Row elMark A h b n c l) {K : Value -> H -> Prop} (hk : K (.int .i64 (findP l id)) h) : HCalls Tryz.prog 45 ⟨[.slice b n c, .int .i64 id]⟩ h K := by
  refine Sx.r12_Find.ok _ _ _ _ _ _ ?_
  have hl := r.len
  have hm : n <= maxLen := Nat.le_trans r.cap r.max
  simp only [maxLen] at hm
  refine ⟨n + 1, ?_⟩
  have key : ∀ k i, i + k = n -> (∀ j (h1 : j < l.length), j < i -> decide (l[j].1 = id) = false) ->
      Sx.r12_Find.n6_L (fun h => K (.int .i64 (-1)) h) (fun h => K (.int .i64 (-1)) h) (fun y4 h => K (.int .i64 y4) h) (k + 1) b n c id (i : Int) h := by
    intro k
    induction k with
    | zero =>
      intro i hi hall
      refine splF (by omega) ?_
      have e : findP l id = -1 := by
        unfold findP
        rw [idxQ_none fun j hj => hall j hj (by omega)]
        split <;> rfl
      rwa [e] at hk
    | succ k ih =>
      intro i hi hall
      have hil : i < l.length := by omega
      refine splT (by omega) (spl (fun hid => r.idxN hil rfl fun a hA => ldI hA.fst fun _ => spl (fun hd => ?_) fun hd => ⟨rng64 (by omega) (by omega), ih (i + 1) (by omega) fun j h1 hj => ?_⟩) fun hid => ?_)
      · have e : findP l id = i := by
          unfold findP
          rw [if_neg (by omega), idxQ_some hil (decide_eq_true hd) hall]
        rwa [e] at hk
      · by_cases e : j < i
        · exact hall j h1 e
        · have : j = i := by omega
          subst this
          exact decide_eq_false hd
      · have e : findP l id = -1 := by
          unfold findP
          rw [if_pos (by omega)]
        rwa [e] at hk
  exact key n 0 (by omega) fun j _ hj => absurd hj (Nat.not_lt_zero _)
def lastTo (l : List MarkP) (s : Bs) : Nat -> Int
  | 0 => -1
  | i + 1 => if (l.getD i (0, [], [])).1 < 0 then -1 else if (l.getD i (0, [], [])).2.1 = s then i else lastTo l s i
def lastP (l : List MarkP) (s : Bs) : Int := lastTo l s l.length
theorem refLast_calls {s : Bs} (r : Row elMark A h b n c l) {K : Value -> H -> Prop} (hk : K (.int .i64 (lastP l s)) h) : HCalls Tryz.prog 47 ⟨[.slice b n c, S s]⟩ h K := by
  refine Sx.r12_Last.ok _ _ _ _ _ _ ?_
  have hl := r.len
  have hm : n <= maxLen := Nat.le_trans r.cap r.max
  simp only [maxLen] at hm
  refine ⟨rng64 (by omega) (by omega), n + 1, ?_⟩
  have key : ∀ i, i <= n -> lastTo l s i = lastP l s -> behindTo l i = behind l ->
      Sx.r12_Last.n6_L (fun h => K (.int .i64 (-1)) h) (fun h => K (.int .i64 (-1)) h) (fun y4 h => K (.int .i64 y4) h) (i + 1) b n c s ((i : Int) - 1) h := by
    intro i
    induction i with
    | zero =>
      intro _ e _
      unfold Sx.r12_Last.n6_L LP Sx.r12_Last.n6_B
      refine behind_calls r (vIntMk <| splF (by have := Int.natCast_nonneg (behind l); omega) ?_)
      rw [<- e] at hk; exact hk
    | succ i ih =>
      intro hi e e2
      have hx : ((i + 1 : Nat) : Int) - 1 = (i : Int) := by omega
      have hil : i < l.length := by omega
      unfold lastTo at e
      unfold behindTo at e2
      rw [getD_get hil] at e e2
      rw [hx]
      unfold Sx.r12_Last.n6_L LP Sx.r12_Last.n6_B
      by_cases hneg : l[i].1 < 0
      · rw [if_pos hneg] at e e2
        refine behind_calls r (vIntMk <| splF (by omega) ?_)
        rw [<- e] at hk; exact hk
      · rw [if_neg hneg] at e e2
        have hle := behindTo_le l i
        refine behind_calls r (vIntMk <| splT (by omega) (r.idxN hil rfl fun a hA => ldS hA.snd.fst fun _ => spl (fun hd => ?_) fun hd => ⟨rng64 (by omega) (by omega), ?_⟩))
        · rw [if_pos hd] at e
          rw [<- e] at hk; exact hk
        · rw [if_neg hd] at e
          exact ih (by omega) e e2
  exact key n (Nat.le_refl _) (by rw [<- hl]; rfl) (by rw [<- hl]; rfl)
theorem last_calls {s : Bs} (hA : ∀ k, A k -> k < h.size) (r : Row elMark A h b n c l) {K : Value -> H -> Prop} (hk : ∀ h', KB h h' -> K (.int .i64 (lastP l s)) h') : HCalls Tryz.prog 43 ⟨[.slice b n c, S s]⟩ h K := by
  refine Sx.marks_Last.ok _ _ _ _ _ _ (newx_var fun xs0 h0 v0 k0 e0 _ => newx_var fun x2 h1 v1 k1 e1 _ => backward_calls ((r.kb k0).kb k1) fun a h2 v2 k2 e2 => ?_)
  have hm : n <= maxLen := Nat.le_trans r.cap r.max
  simp only [maxLen] at hm
  have hl := r.len
  obtain ⟨xs, hB, hE⟩ := backward_emits (((r.kb k0).kb k1).kb k2) v2
  have h01 := k0.1
  have hne : ¬ (A x2.block ∨ x2.block = a.block) := fun e => by
    have := v1.lt
    rcases e with e | e
    · have := hA _ e; omega
    · omega
  have v12 := v1.kb k2
  have v02 := (v0.kb k1).kb k2
  have k02 : KB h h2 := (k0.trans k1).trans k2
  have k02s := k02.1
  have fin : lastP l s = -1 -> ∀ h3, KB h2 h3 -> dOpen h2.size h3 -> Sx.marks_Last.n5 x2 [markD h2.size] (fun y4 ds h => leaveX ds h fun h => ∃ i93, cell h y4 = some (.int .i64 i93) /\ (K (.int .i64 i93) h)) (fun y4 ds h => leaveX ds h fun h => ∃ i93, cell h y4 = some (.int .i64 i93) /\ (K (.int .i64 i93) h)) h3 := by
    intro e h3 k3 hd
    have vx := v12.kb k3
    refine stL_var0 vx (Nat.le_refl _) fun h7 v7 k7 s7 => ?_
    refine leave_int (vx.dOpen k7 hd) (KB.step (k02.trans k3) k7 (by omega)) k02s v7 fun h' k' => ?_
    rw [e] at hk; exact hk h' k'
  refine ⟨xs, Non, _, hE, hB.len, rounds_of (fun xs h' => KB h2 h' /\ ∃ i, Backs A h' l i xs /\ lastTo l s i = lastP l s) (fun xs h' h'' ⟨k, i, hb, e⟩ n => ⟨k.nz n (Nat.le_succ _), i, hb.kw n.kw, e⟩) ?_ ?_ xs h2 ⟨KB.refl _, l.length, hB, rfl⟩⟩
  · rintro x xs h3 Kc ⟨k3, i, hb, e⟩ hKc
    cases i with
    | zero => simp [Backs] at hb
    | succ i =>
      obtain ⟨hi, b', n', c', rest, hm', e', hr⟩ := hb
      cases e'
      unfold lastTo at e
      rw [getD_get hi] at e
      refine rdMark (newx_var fun a4 h4 v4 k4 e4 _ => stL_var0 v4 (Nat.le_refl _) fun h5 v5 k5 s5 => ?_)
      have k35 : KB h3 h5 := KB.step k4 k5 (by omega)
      refine ⟨(k4.kp).trans (KX.kp v4 k5 fun e => ?_), fun h6 n6 => ?_⟩
      · have := k3.1; have h22 := k02.1
        rcases e with e | e
        · have := hA _ e; omega
        · have := v2.lt; omega
      have v6 := v5.kw n6.kw
      have k26 : KB h2 h6 := (k3.trans k35).nz n6 (Nat.le_succ _)
      have vx := v12.kb k26
      refine ⟨_, v6.cell 0 rfl, spl (fun hneg => ?_) fun hneg => ⟨_, v6.cell 1 rfl, _, (v02.kb k26).cell0 rfl, spl (fun hd => ?_) fun hd => ?_⟩⟩
      · rw [if_pos hneg] at e
        exact ⟨KpP.refl _ _, fun h4 n4 hd => fin e.symm h4 (k26.nz n4 (Nat.le_succ _)) hd⟩
      · rw [if_neg hneg, if_pos hd] at e
        refine stL_var0 vx (Nat.le_refl _) fun h7 v7 k7 s7 => ⟨KX.kp vx k7 hne, fun h8 n8 hd => ?_⟩
        refine leave_int hd ((KB.step (k02.trans k26) k7 (by omega)).nz n8 (by omega)) k02s (v7.kw n8.kw) fun h' k' => ?_
        rw [<- e] at hk; exact hk h' k'
      · rw [if_neg hneg, if_neg hd] at e
        exact hKc _ _ (KpP.refl _ _) ⟨k26, i, (hr.kw (KB.w k35)).kw n6.kw, e⟩
  · rintro h3 ⟨k3, i, hb, e⟩ hd
    cases i with
    | succ i => obtain ⟨_, _, _, _, _, _, e', _⟩ := hb; cases e'
    | zero => exact fin e.symm h3 k3 hd
end
end Go.Proofs
namespace Go.Proofs
open Go Go.Sh
set_option linter.unusedVariables false
set_option maxRecDepth 100000
def isN (x : OpenP) (s : Bs) : Bool := decide (x.2.1 = 0) && decide (x.2.2.1 = s)
abbrev specO (x : OpenP) : Bool := specialP x.2.1 x.2.2.1
def clTo (op : List OpenP) (s : Bs) : Nat -> Nat
  | 0 => 0
  | i + 1 => if i = 0 then 0 else if isN (op.getD i noOpen) s then i else if specO (op.getD i noOpen) then 0 else clTo op s i
def closeA (m : WM) (s : Bs) : WM := closeW m (clTo m.op s m.op.length : Nat)
abbrev atO (op : List OpenP) (id : Int) : Int := idxQ op fun x => decide (x.1 = id)
def wStar : List Bs := [[42]]
def freeO (x : OpenP) : Bool := inP [(0, 0, [42], 0), x] 0 wStar
def scopedP (l : List OpenP) : Bool := l.all freeO
def unmark (m : WM) (k : Nat) : WM := { m with mks := m.mks.eraseIdx k }
def unbook (b k : Nat) : Nat := if k < b then b - 1 else b
noncomputable def climbN (blk f : Int) : Nat -> Nat -> WM -> Int -> Nat -> WM × Int × Nat
  | 0, _, m, last, b => (m, last, b)
  | at' + 1, n, m, last, b =>
    let x := m.op.getD at' noOpen
    if x.1 = f then (m, last, b)
    else
      let k := findP m.mks x.1
      if 0 <= k /\ n < 3 then
        let c := (copyM m.ns x.1).2
        climbN blk f at' (n + 1)
          { m with ns := (putM (copyM m.ns x.1).1 c (-1) last).1, op := m.op.set at' (c, x.2), mks := m.mks.set k.toNat (c, (m.mks.getD k.toNat noMark).2) }
          c (if last = blk then k.toNat + 1 else b)
      else if 0 <= k then climbN blk f at' (n + 1) (dropW (unmark m k.toNat) x.1) last (unbook b k.toNat)
      else climbN blk f at' (n + 1) (dropW m x.1) last b
def insAt {α : Type} (l : List α) (i : Nat) (x : α) : List α := l.take i ++ x :: l.drop i
noncomputable def renewM (m : WM) (f blk : Int) (b : Nat) : WM :=
  let id := (copyM m.ns f).2
  let ns := (putM (moveM (copyM m.ns f).1 blk id).1 blk (-1) id).1
  let k := (findP m.mks f).toNat
  let op := dropO m.op f
  { m with ns := ns, mks := insAt (m.mks.eraseIdx k) (unbook b k) (id, (m.mks.getD k noMark).2), op := insAt op ((atO op blk) + 1).toNat (id, (m.op.getD (atO m.op f).toNat noOpen).2) }
noncomputable def overM (m : WM) (f : Int) (k at' n : Nat) : WM :=
  let blk := (m.op.getD n noOpen).1
  let r := climbN blk f n 0 m blk k
  let p := whereM r.1.ns r.1.op r.1.fo (m.op.getD (at' - 1) noOpen)
  renewM { r.1 with ns := (putM r.1.ns p.1 p.2 r.2.1).1 } f blk r.2.2
noncomputable def roundM (m : WM) (k : Nat) : WM × Bool :=
  let f := (m.mks.getD k noMark).1
  if atO m.op f < 0 then (unmark m k, false)
  else
    let at' := (atO m.op f).toNat
    if scopedP (m.op.drop (at' + 1)) = false then (m, false)
    else if idxQ (m.op.drop (at' + 1)) specO < 0 then (unmark (closeW m at') k, false)
    else (overM m f k at' ((idxQ (m.op.drop (at' + 1)) specO).toNat + (at' + 1)), true)
noncomputable def roundsM (s : Bs) : Nat -> WM -> WM × Bool
  | 0, m => (m, true)
  | r + 1, m =>
    if lastP m.mks s < 0 then (m, false)
    else if (roundM m (lastP m.mks s).toNat).2 then roundsM s r (roundM m (lastP m.mks s).toNat).1
    else ((roundM m (lastP m.mks s).toNat).1, true)
noncomputable def runM (m : WM) (s : Bs) : WM × Bool :=
  if isN (curM m.op) s = true /\ findP m.mks (curM m.op).1 < 0 then (closeW m ((m.op.length : Int) - 1), true)
  else roundsM s 8 m
end Go.Proofs
