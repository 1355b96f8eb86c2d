/- open: In, Implied, Until, Clear, Item. No condition but that the library's variable holds a number. -/
import Derived.Test.YtggejikikcffmaaOpD
namespace Go.Proofs
open Go Go.Sh
set_option linter.unusedVariables false
set_option maxRecDepth 100000

/-- a round's element, handed over -/
theorem rdOpen {i : Int} {x : OpenP} {K : Int → Int → Int → Bs → Int → Prop} (h : K i x.1 x.2.1 x.2.2.1 x.2.2.2) :
    uncons [.int .i64 i, .agg ⟨cellsO x⟩] fun e l => vInt .i64 e fun i => uncons l fun e l2 => vAgg e fun l3 => uncons l3 fun e l4 => vInt .i64 e fun j => uncons l4 fun e l5 => vInt .u8 e fun k => uncons l5 fun e l6 => vStr e fun s => uncons l6 fun e l7 => vInt .u8 e fun p => unnil l7 (unnil l2 (K i j k s p)) := h
theorem rdOpenV {i : Int} {x : OpenP} {K : Value → Int → Int → Bs → Int → Prop} (h : K (.int .i64 i) x.1 x.2.1 x.2.2.1 x.2.2.2) :
    uncons [.int .i64 i, .agg ⟨cellsO x⟩] fun e l => uncons l fun e2 l2 => vAgg e2 fun l3 => uncons l3 fun e3 l4 => vInt .i64 e3 fun j => uncons l4 fun e4 l5 => vInt .u8 e4 fun k => uncons l5 fun e5 l6 => vStr e5 fun s => uncons l6 fun e6 l7 => vInt .u8 e6 fun p => unnil l7 (unnil l2 (K e j k s p)) := h

section
variable {A B : Nat → Prop} {h : H} {b b2 : Option Addr} {n c n2 c2 : Nat} {l : List OpenP} {ns : List Bs} {s : Bs} {sc : Int}

theorem openIn_calls (m : ML h) (hA : ∀ k, A k → k < h.size) (r : Row elOpen A h b n c l) (hl : ∀ x ∈ l, x.2.2.1.length ≤ 9000000000000000000) (rn : Row elStr B h b2 n2 c2 ns) {K : Value → H → Prop} (hk : ∀ h', KB h h' → K (.bool (inP l sc ns)) h') :
    HCalls Try.prog 10 ⟨[.slice b n c, .int .u8 sc, .slice b2 n2 c2]⟩ h K := by
  refine Sx.open_In.ok _ _ _ _ _ _ _ _ _ (newx_var fun x1 h1 v1 k1 e1 s1 => newx_var fun x2 h2 v2 k2 e2 s2 => newx_var fun y h3 v3 k3 e3 s3 => outwards_calls fun a h4 va k4 ea => ?_)
  have k03 := (k1.trans k2).trans k3
  have k04 := k03.trans k4
  have r4 := r.kb k04
  refine scan_open (f := inF sc ns) (val := .bool) (d := false) (res := inP l sc ns) k04 r4 hA va (v3.kb k4) (by omega) (by omega) rfl (fun i hi h5 Kc k5 hcont hstore hbreak => rdOpenV (front_open k5 (fun k hk => ?_) (Nat.le_refl _) fun ax hb kb vb => ?_)) (fun h' k' hd v => leave_k hd k' k04.1 v fun h'' k'' v'' => ⟨_, v''.cell0 rfl, hk h'' k''⟩)
  · rcases hk with hk | hk
    · exact Nat.lt_of_lt_of_le (hA _ hk) k04.1
    · rw [hk]; exact va.lt
  · have w2 := ((v2.kb k3).kb k4).kb kb
    have w1 := (((v1.kb k2).kb k3).kb k4).kb kb
    refine ldVar vb ⟨_, _, _, w2.cell0 rfl, of_calls ((rn.kb k04).kb kb) fun h6 k6 => vBool_mk (condB (fun ht => hstore hb h6 true kb k6 (by unfold inF; rw [if_pos ht])) fun hf => ldVar (vb.kb k6) ⟨_, (w1.kb k6).cell0 rfl, bounds_calls (((m.kb k04).kb kb).kb k6) (hl _ (List.getElem_mem _)) fun h7 k7 => vBool_mk (condB (fun ht => hbreak hb h7 kb (k6.trans k7) (by unfold inF; rw [if_neg (by rw [hf]; simp), if_pos ht])) fun hf2 => hcont hb h7 kb (k6.trans k7) (by unfold inF; rw [if_neg (by rw [hf]; simp), if_neg (by rw [hf2]; simp)]))⟩)⟩

theorem openUntil_calls (hA : ∀ k, A k → k < h.size) (r : Row elOpen A h b n c l) (rn : Row elStr B h b2 n2 c2 ns) {K : Value → H → Prop} (hk : ∀ h', KB h h' → K (.int .i64 (untilP l ns)) h') :
    HCalls Try.prog 18 ⟨[.slice b n c, .slice b2 n2 c2]⟩ h K := by
  refine Sx.open_Until.ok _ _ _ _ _ _ _ _ (newx_var fun x2 h2 v2 k2 e2 s2 => newx_var fun y h3 v3 k3 e3 s3 => outwards_calls fun a h4 va k4 ea => ?_)
  have k04 := (k2.trans k3).trans k4
  have r4 := r.kb k04
  refine scan_open (f := untilF ns) (val := .int .i64) (d := -1) (res := untilP l ns) k04 r4 hA va (v3.kb k4) (by omega) (by omega) rfl (fun i hi h5 Kc k5 hcont hstore hbreak => rdOpen (front_open k5 (fun k hk => ?_) (Nat.le_refl _) fun ax hb kb vb => ?_)) (fun h' k' hd v => leave_k hd k' k04.1 v fun h'' k'' v'' => ⟨_, v''.cell0 rfl, hk h'' k''⟩)
  · rcases hk with hk | hk
    · exact Nat.lt_of_lt_of_le (hA _ hk) k04.1
    · rw [hk]; exact va.lt
  · have w2 := ((v2.kb k3).kb k4).kb kb
    exact ldVar vb ⟨_, _, _, w2.cell0 rfl, of_calls ((rn.kb k04).kb kb) fun h6 k6 => vBool_mk (condB (fun ht => hstore hb h6 _ kb k6 (by unfold untilF; rw [if_pos ht])) fun hf => hcont hb h6 kb k6 (by unfold untilF; rw [if_neg (by rw [hf]; simp)]))⟩

theorem openClear_calls (hA : ∀ k, A k → k < h.size) (r : Row elOpen A h b n c l) (rn : Row elStr B h b2 n2 c2 ns) {K : Value → H → Prop} (hk : ∀ h', KB h h' → K (.int .i64 (clearO l ns)) h') :
    HCalls Try.prog 20 ⟨[.slice b n c, .slice b2 n2 c2]⟩ h K := by
  have hm : n ≤ maxLen := Nat.le_trans r.cap r.max
  have hln := r.len
  simp only [maxLen] at hm
  refine Sx.open_Clear.ok _ _ _ _ _ _ _ _ (newx_var fun x2 h2 v2 k2 e2 s2 => newx_var fun y h3 v3 k3 e3 s3 => outwards_calls fun a h4 va k4 ea => ?_)
  have k04 := (k2.trans k3).trans k4
  have r4 := r.kb k04
  refine scan_open (f := clearF ns) (val := .int .i64) (d := 0) (res := clearO l ns) k04 r4 hA va (v3.kb k4) (by omega) (by omega) rfl (fun i hi h5 Kc k5 hcont hstore hbreak => rdOpen (front_open k5 (fun k hk => ?_) (Nat.le_refl _) fun ax hb kb vb => ?_)) (fun h' k' hd v => leave_k hd k' k04.1 v fun h'' k'' v'' => ⟨_, v''.cell0 rfl, hk h'' k''⟩)
  · rcases hk with hk | hk
    · exact Nat.lt_of_lt_of_le (hA _ hk) k04.1
    · rw [hk]; exact va.lt
  · have w2 := ((v2.kb k3).kb k4).kb kb
    refine ldVar vb ⟨_, _, _, w2.cell0 rfl, of_calls ((rn.kb k04).kb kb) fun h6 k6 => vBool_mk (condB (fun ht => ⟨rng64 (by omega) (by omega), hstore hb h6 _ kb k6 (by unfold clearF; rw [if_pos (by rw [ht]; rfl)])⟩) fun hf => ldVar (vb.kb k6) (newx_var (cs := wClear.map S) fun a7 h7 v7 k7 _ _ => ofLit_calls wClear rfl (by decide +kernel) (by decide +kernel) v7 fun h8 k8 => vBool_mk (condB (fun ht => ⟨rng64 (by omega) (by omega), hstore hb h8 _ kb ((k6.trans k7).trans k8) (by unfold clearF; rw [if_pos (by rw [ht, Bool.or_true])])⟩) fun hf2 => hcont hb h8 kb ((k6.trans k7).trans k8) (by unfold clearF; rw [if_neg (by rw [hf, hf2]; simp)]))))⟩

theorem openImplied_calls (m : ML h) (hA : ∀ k, A k → k < h.size) (r : Row elOpen A h b n c l) (hl : ∀ x ∈ l, x.2.2.1.length ≤ 9000000000000000000) {K : Value → H → Prop} (hk : ∀ h', KB h h' → K (.int .i64 (impliedP l s)) h') :
    HCalls Try.prog 16 ⟨[.slice b n c, S s]⟩ h K := by
  have hm : n ≤ maxLen := Nat.le_trans r.cap r.max
  have hln := r.len
  simp only [maxLen] at hm
  refine Sx.open_Implied.ok _ _ _ _ _ _ (newx_var fun x2 h2 v2 k2 e2 s2 => newx_var fun y h3 v3 k3 e3 s3 => outwards_calls fun a h4 va k4 ea => ?_)
  have k04 := (k2.trans k3).trans k4
  have r4 := r.kb k04
  refine scan_open (f := impliedF s) (val := .int .i64) (d := 0) (res := impliedP l s) k04 r4 hA va (v3.kb k4) (by omega) (by omega) rfl (fun i hi h5 Kc k5 hcont hstore hbreak => rdOpen (front_open k5 (fun k hk => ?_) (Nat.le_refl _) fun ax hb kb vb => ?_)) (fun h' k' hd v => leave_k hd k' k04.1 v fun h'' k'' v'' => ⟨_, v''.cell0 rfl, hk h'' k''⟩)
  · rcases hk with hk | hk
    · exact Nat.lt_of_lt_of_le (hA _ hk) k04.1
    · rw [hk]; exact va.lt
  · have w2 := ((v2.kb k3).kb k4).kb kb
    refine ⟨_, vb.cell 1 rfl, spl (fun e => ⟨_, vb.cell 2 rfl, _, w2.cell0 rfl, spl (fun e2 => ⟨rng64 (by omega) (by omega), hstore hb hb _ kb (KB.refl _) (by unfold impliedF; rw [if_pos (.inr (.inl e2))])⟩) fun e2 => ⟨_, vb.cell 2 rfl, hasRow_calls wImp wImp_ok (by decide +kernel) (by decide +kernel) ((m.kb k04).kb kb) (hl _ (List.getElem_mem _)) (vBool_mk (condB (fun ht => hcont hb hb kb (KB.refl _) ?_) fun hf => ⟨rng64 (by omega) (by omega), hstore hb hb _ kb (KB.refl _) (by unfold impliedF; rw [if_pos (.inr (.inr hf))])⟩))⟩⟩) fun e => ⟨rng64 (by omega) (by omega), hstore hb hb _ kb (KB.refl _) (by unfold impliedF; rw [if_pos (.inl e)])⟩⟩
    unfold impliedF
    rw [if_neg]
    rintro (h | h | h)
    · exact h e
    · exact e2 h
    · rw [ht] at h; cases h

theorem openItem_calls (m : ML h) (hA : ∀ k, A k → k < h.size) (r : Row elOpen A h b n c l) (hl : ∀ x ∈ l, x.2.2.1.length ≤ 9000000000000000000) (rn : Row elStr B h b2 n2 c2 ns) {K : Value → H → Prop} (hk : ∀ h', KB h h' → K (.int .i64 (itemP l ns)) h') :
    HCalls Try.prog 22 ⟨[.slice b n c, .slice b2 n2 c2]⟩ h K := by
  refine Sx.open_Item.ok _ _ _ _ _ _ _ _ (newx_var fun x2 h2 v2 k2 e2 s2 => newx_var fun y h3 v3 k3 e3 s3 => outwards_calls fun a h4 va k4 ea => ?_)
  have k04 := (k2.trans k3).trans k4
  have r4 := r.kb k04
  refine scan_open (f := itemF ns) (val := .int .i64) (d := -1) (res := itemP l ns) k04 r4 hA va (v3.kb k4) (by omega) (by omega) rfl (fun i hi h5 Kc k5 hcont hstore hbreak => rdOpen (front_open k5 (fun k hk => ?_) (Nat.le_refl _) fun ax hb kb vb => ?_)) (fun h' k' hd v => leave_k hd k' k04.1 v fun h'' k'' v'' => ⟨_, v''.cell0 rfl, hk h'' k''⟩)
  · rcases hk with hk | hk
    · exact Nat.lt_of_lt_of_le (hA _ hk) k04.1
    · rw [hk]; exact va.lt
  · have w2 := ((v2.kb k3).kb k4).kb kb
    refine ldVar vb ⟨_, _, _, w2.cell0 rfl, of_calls ((rn.kb k04).kb kb) fun h6 k6 => vBool_mk (condB (fun ht => hstore hb h6 _ kb k6 (by unfold itemF; rw [if_pos ht])) fun hf => ?_)⟩
    have vb6 := vb.kb k6
    refine ⟨_, vb6.cell 1 rfl, _, vb6.cell 2 rfl, special_calls (((m.kb k04).kb kb).kb k6) (hl _ (List.getElem_mem _)) (vBool_mk (condB (fun hs => ldVar vb6 (newx_var (cs := wStop.map S) fun a7 h7 v7 k7 _ _ => ofLit_calls wStop rfl (by decide +kernel) (by decide +kernel) v7 fun h8 k8 => vBool_mk (condB (fun ht => ?_) fun hf2 => ?_))) fun hs => ?_))⟩
    · exact hcont hb h8 kb ((k6.trans k7).trans k8) (by unfold itemF; rw [if_neg (by rw [hf]; simp), if_neg (by rw [ht]; simp)])
    · exact hstore hb h8 _ kb ((k6.trans k7).trans k8) (by unfold itemF; rw [if_neg (by rw [hf]; simp), if_pos (by rw [hs, hf2]; rfl)])
    · exact hcont hb h6 kb k6 (by unfold itemF; rw [if_neg (by rw [hf]; simp), if_neg (by rw [hs]; simp)])

/-! ### The document's -/
theorem refIn_calls' (r : Row elOpen A h b n c l) (hl : ∀ x ∈ l, x.2.2.1.length ≤ 9000000000000000000) (rn : Row elStr B h b2 n2 c2 ns) {K : Value → H → Prop} (hk : ∀ h', KB h h' → K (.bool (inP l sc ns)) h') :
    HCalls Try.prog 11 ⟨[.slice b n c, .int .u8 sc, .slice b2 n2 c2]⟩ h K := by
  refine Sx.r11_In.ok _ _ _ _ _ _ _ _ _ ?_
  have hln := r.len
  have hm : n ≤ maxLen := Nat.le_trans r.cap r.max
  simp only [maxLen] at hm
  refine ⟨rng64 (by omega) (by omega), n + 1, ?_⟩
  have key : ∀ i h5, i ≤ n → KB h h5 → scanTo (inF sc ns) false l i = inP l sc ns →
      Sx.r11_In.n6_L (fun h => K (.bool false) h) (fun h => K (.bool false) h) (fun y6 h => K (.bool y6) h) (i + 1) b n c sc b2 n2 c2 ((i : Int) - 1) h5 := by
    intro i
    induction i with
    | zero =>
      intro h5 _ k5 e
      refine splF (by omega) ?_
      have := hk h5 k5
      rw [← e] at this; exact this
    | succ i ih =>
      intro h5 hi k5 e
      have hil : i < l.length := by omega
      have hx : ((i + 1 : Nat) : Int) - 1 = (i : Int) := by omega
      rw [hx]
      unfold scanTo at e
      rw [getD_get hil] at e
      have r5 := r.kb k5
      refine splT (by omega) (r5.idxN hil rfl fun a hA => ldOpen hA fun _ => refOne_calls (rn.kb k5) fun h6 k6 => vBool_mk (condB (fun ht => ?_) fun hf => (r5.kb k6).idxN hil rfl fun a hA => ldOpen hA fun _ => refBounds_calls (hl _ (List.getElem_mem _)) fun h7 k7 => vBool_mk (condB (fun hb => ?_) fun hb => ⟨rng64 (by omega) (by omega), ih h7 (by omega) ((k5.trans k6).trans k7) ?_⟩)))
      · rw [show inF sc ns i l[i] = some true by unfold inF; rw [if_pos ht]] at e
        have := hk h6 (k5.trans k6)
        rw [← e] at this; exact this
      · rw [show inF sc ns i l[i] = some false by unfold inF; rw [if_neg (by rw [hf]; simp), if_pos hb]] at e
        have := hk h7 ((k5.trans k6).trans k7)
        rw [← e] at this; exact this
      · rw [show inF sc ns i l[i] = none by unfold inF; rw [if_neg (by rw [hf]; simp), if_neg (by rw [hb]; simp)]] at e
        exact e
  exact key n h (Nat.le_refl _) (KB.refl h) (by rw [← hln]; rfl)
theorem refUntil_calls (r : Row elOpen A h b n c l) (rn : Row elStr B h b2 n2 c2 ns) {K : Value → H → Prop} (hk : ∀ h', KB h h' → K (.int .i64 (untilP l ns)) h') :
    HCalls Try.prog 19 ⟨[.slice b n c, .slice b2 n2 c2]⟩ h K := by
  refine Sx.r11_Until.ok _ _ _ _ _ _ _ _ ?_
  have hln := r.len
  have hm : n ≤ maxLen := Nat.le_trans r.cap r.max
  simp only [maxLen] at hm
  refine ⟨rng64 (by omega) (by omega), n + 1, ?_⟩
  have key : ∀ i h5, i ≤ n → KB h h5 → scanTo (untilF ns) (-1) l i = untilP l ns →
      Sx.r11_Until.n6_L (fun h => K (.int .i64 (-1)) h) (fun h => K (.int .i64 (-1)) h) (fun y6 h => K (.int .i64 y6) h) (i + 1) b n c b2 n2 c2 ((i : Int) - 1) h5 := by
    intro i
    induction i with
    | zero =>
      intro h5 _ k5 e
      refine splF (by omega) ?_
      have := hk h5 k5
      rw [← e] at this; exact this
    | succ i ih =>
      intro h5 hi k5 e
      have hil : i < l.length := by omega
      have hx : ((i + 1 : Nat) : Int) - 1 = (i : Int) := by omega
      rw [hx]
      unfold scanTo at e
      rw [getD_get hil] at e
      have r5 := r.kb k5
      refine splT (by omega) (r5.idxN hil rfl fun a hA => ldOpen hA fun _ => refOne_calls (rn.kb k5) fun h6 k6 => vBool_mk (condB (fun ht => ?_) fun hf => ⟨rng64 (by omega) (by omega), ih h6 (by omega) (k5.trans k6) ?_⟩))
      · rw [show untilF ns i l[i] = some (i : Int) by unfold untilF; rw [if_pos ht]] at e
        have := hk h6 (k5.trans k6)
        rw [← e] at this; exact this
      · rw [show untilF ns i l[i] = none by unfold untilF; rw [if_neg (by rw [hf]; simp)]] at e
        exact e
  exact key n h (Nat.le_refl _) (KB.refl h) (by rw [← hln]; rfl)
theorem refItem_calls (r : Row elOpen A h b n c l) (rn : Row elStr B h b2 n2 c2 ns) {K : Value → H → Prop} (hk : ∀ h', KB h h' → K (.int .i64 (itemP l ns)) h') :
    HCalls Try.prog 23 ⟨[.slice b n c, .slice b2 n2 c2]⟩ h K := by
  refine Sx.r11_Item.ok _ _ _ _ _ _ _ _ ?_
  have hln := r.len
  have hm : n ≤ maxLen := Nat.le_trans r.cap r.max
  simp only [maxLen] at hm
  refine ⟨rng64 (by omega) (by omega), n + 1, ?_⟩
  have key : ∀ i h5, i ≤ n → KB h h5 → scanTo (itemF ns) (-1) l i = itemP l ns →
      Sx.r11_Item.n6_L (fun h => K (.int .i64 (-1)) h) (fun h => K (.int .i64 (-1)) h) (fun y6 h => K (.int .i64 y6) h) (i + 1) b n c b2 n2 c2 ((i : Int) - 1) h5 := by
    intro i
    induction i with
    | zero =>
      intro h5 _ k5 e
      refine splF (by omega) ?_
      have := hk h5 k5
      rw [← e] at this; exact this
    | succ i ih =>
      intro h5 hi k5 e
      have hil : i < l.length := by omega
      have hx : ((i + 1 : Nat) : Int) - 1 = (i : Int) := by omega
      rw [hx]
      unfold scanTo at e
      rw [getD_get hil] at e
      have r5 := r.kb k5
      have go : ∀ h8, KB h5 h8 → itemF ns i l[i] = none → Rng .i64 ((i : Int) - 1) ∧ Sx.r11_Item.n6_L (fun h => K (.int .i64 (-1)) h) (fun h => K (.int .i64 (-1)) h) (fun y6 h => K (.int .i64 y6) h) (i + 1) b n c b2 n2 c2 ((i : Int) - 1) h8 := fun h8 k8 hn => by
        rw [hn] at e
        exact ⟨rng64 (by omega) (by omega), ih h8 (by omega) (k5.trans k8) e⟩
      refine splT (by omega) (r5.idxN hil rfl fun a hA => ldOpen hA fun _ => refOne_calls (rn.kb k5) fun h6 k6 => vBool_mk (condB (fun ht => ?_) fun hf => (r5.kb k6).idxN hil rfl fun a hA => ⟨_, hA.snd.fst.int.1, (r5.kb k6).idxN hil rfl fun a hA => ⟨_, (hA.snd.sndAt (k := 2) rfl).fst.str.1, refSpecial_calls fun h7 k7 => vBool_mk (condB (fun hs => ((r5.kb k6).kb k7).idxN hil rfl fun a hA => ldOpen hA fun _ => newx_var (cs := wStop.map S) fun a8 h8 v8 k8 _ _ => ⟨k8.ext, refOneLit_calls wStop rfl (by decide +kernel) (by decide +kernel) v8 fun h9 k9 => vBool_mk (condB (fun ht => ?_) fun hf2 => ?_)⟩) fun hs => ?_)⟩⟩))
      · rw [show itemF ns i l[i] = some (i : Int) by unfold itemF; rw [if_pos ht]] at e
        have := hk h6 (k5.trans k6)
        rw [← e] at this; exact this
      · exact go h9 (((k6.trans k7).trans k8).trans k9) (by unfold itemF; rw [if_neg (by rw [hf]; simp), if_neg (by rw [ht]; simp)])
      · rw [show itemF ns i l[i] = some (-1) by unfold itemF; rw [if_neg (by rw [hf]; simp), if_pos (by rw [hs, hf2]; rfl)]] at e
        have := hk h9 ((((k5.trans k6).trans k7).trans k8).trans k9)
        rw [← e] at this; exact this
      · exact go h7 (k6.trans k7) (by unfold itemF; rw [if_neg (by rw [hf]; simp), if_neg (by rw [hs]; simp)])
  exact key n h (Nat.le_refl _) (KB.refl h) (by rw [← hln]; rfl)
theorem refImplied_calls (r : Row elOpen A h b n c l) {K : Value → H → Prop} (hk : ∀ h', KB h h' → K (.int .i64 (impliedP l s)) h') :
    HCalls Try.prog 17 ⟨[.slice b n c, S s]⟩ h K := by
  refine Sx.r11_Implied.ok _ _ _ _ _ _ ?_
  have hln := r.len
  have hm : n ≤ maxLen := Nat.le_trans r.cap r.max
  simp only [maxLen] at hm
  refine ⟨n + 1, ?_⟩
  have key : ∀ i h5, i ≤ n → KB h h5 → scanTo (impliedF s) 0 l i = impliedP l s →
      Sx.r11_Implied.n6_L (fun z5 h => Sx.r11_Implied.n4 z5 (fun y4 h => K (.int .i64 y4) h) (fun y4 h => K (.int .i64 y4) h) h) (fun z5 h => Sx.r11_Implied.n4 z5 (fun y4 h => K (.int .i64 y4) h) (fun y4 h => K (.int .i64 y4) h) h) (fun y4 h => K (.int .i64 y4) h) (i + 1) b n c s (i : Int) h5 := by
    intro i
    induction i with
    | zero =>
      intro h5 _ k5 e
      refine splF (by omega) ?_
      have := hk h5 k5
      rw [← e] at this; exact this
    | succ i ih =>
      intro h5 hi k5 e
      have hil : i < l.length := by omega
      have hx : ((i + 1 : Nat) : Int) - 1 = (i : Int) := by omega
      unfold scanTo at e
      rw [getD_get hil] at e
      have r5 := r.kb k5
      have stop : ∀ h8, KB h5 h8 → impliedF s i l[i] = some ((i : Int) + 1) → K (.int .i64 ((i + 1 : Nat) : Int)) h8 := fun h8 k8 hn => by
        rw [hn] at e
        have := hk h8 (k5.trans k8)
        rw [← e] at this
        rw [show ((i + 1 : Nat) : Int) = (i : Int) + 1 by omega]
        exact this
      refine splT (by omega) ?_
      simp only [hx]
      refine ⟨rng64 (by omega) (by omega), r5.idxN hil rfl fun a hA => ⟨_, (hA.snd.sndAt (k := 2) rfl).fst.str.1, spl (fun e2 => stop h5 (KB.refl _) (by unfold impliedF; rw [if_pos (.inr (.inl e2))])) fun e2 => ⟨rng64 (by omega) (by omega), r5.idxN hil rfl fun a hA => ldOpen hA fun _ => newx_var (cs := wImp.map S) fun a8 h8 v8 k8 _ _ => refOneLit_calls wImp rfl (by decide +kernel) (by decide +kernel) v8 fun h9 k9 => vBool_mk (condB (fun ht => ⟨rng64 (by omega) (by omega), ih h9 (by omega) ((k5.trans k8).trans k9) ?_⟩) fun hf => stop h9 (k8.trans k9) ?_)⟩⟩⟩
      · have h1 : l[i].2.1 = 0 ∧ inNames wImp l[i].2.2.1 = true := by unfold oneP at ht; simpa using ht
        rw [show impliedF s i l[i] = none by
          unfold impliedF
          rw [if_neg]
          rintro (h | h | h)
          · exact h h1.1
          · exact e2 h
          · rw [h1.2] at h; cases h] at e
        exact e
      · unfold impliedF
        rw [if_pos]
        by_cases h0 : l[i].2.1 = 0
        · exact .inr (.inr (by unfold oneP at hf; rw [decide_eq_true h0, Bool.true_and] at hf; exact hf))
        · exact .inl h0
  exact key n h (Nat.le_refl _) (KB.refl h) (by rw [← hln]; rfl)
theorem refClear_calls (r : Row elOpen A h b n c l) (rn : Row elStr B h b2 n2 c2 ns) {K : Value → H → Prop} (hk : ∀ h', KB h h' → K (.int .i64 (clearO l ns)) h') :
    HCalls Try.prog 21 ⟨[.slice b n c, .slice b2 n2 c2]⟩ h K := by
  refine Sx.r11_Clear.ok _ _ _ _ _ _ _ _ ?_
  have hln := r.len
  have hm : n ≤ maxLen := Nat.le_trans r.cap r.max
  simp only [maxLen] at hm
  refine ⟨n + 1, ?_⟩
  have key : ∀ i h5, i ≤ n → KB h h5 → scanTo (clearF ns) 0 l i = clearO l ns →
      Sx.r11_Clear.n6_L (fun z5 h => Sx.r11_Clear.n4 z5 (fun y4 h => K (.int .i64 y4) h) (fun y4 h => K (.int .i64 y4) h) h) (fun z5 h => Sx.r11_Clear.n4 z5 (fun y4 h => K (.int .i64 y4) h) (fun y4 h => K (.int .i64 y4) h) h) (fun y4 h => K (.int .i64 y4) h) (i + 1) b n c b2 n2 c2 (i : Int) h5 := by
    intro i
    induction i with
    | zero =>
      intro h5 _ k5 e
      refine splF (by omega) ?_
      have := hk h5 k5
      rw [← e] at this; exact this
    | succ i ih =>
      intro h5 hi k5 e
      have hil : i < l.length := by omega
      have hx : ((i + 1 : Nat) : Int) - 1 = (i : Int) := by omega
      unfold scanTo at e
      rw [getD_get hil] at e
      have r5 := r.kb k5
      have stop : ∀ h8, KB h5 h8 → clearF ns i l[i] = some ((i : Int) + 1) → K (.int .i64 ((i + 1 : Nat) : Int)) h8 := fun h8 k8 hn => by
        rw [hn] at e
        have := hk h8 (k5.trans k8)
        rw [← e] at this
        rw [show ((i + 1 : Nat) : Int) = (i : Int) + 1 by omega]
        exact this
      refine splT (by omega) ?_
      simp only [hx]
      refine ⟨rng64 (by omega) (by omega), r5.idxN hil rfl fun a hA => ldOpen hA fun _ => refOne_calls (rn.kb k5) fun h6 k6 => vBool_mk (condB (fun ht => stop h6 k6 (by unfold clearF; rw [if_pos (by rw [ht]; rfl)])) fun hf => ⟨rng64 (by omega) (by omega), (r5.kb k6).idxN hil rfl fun a hA => ldOpen hA fun _ => newx_var (cs := wClear.map S) fun a8 h8 v8 k8 _ _ => refOneLit_calls wClear rfl (by decide +kernel) (by decide +kernel) v8 fun h9 k9 => vBool_mk (condB (fun ht => stop h9 ((k6.trans k8).trans k9) (by unfold clearF; rw [if_pos (by rw [ht, Bool.or_true])])) fun hf2 => ⟨rng64 (by omega) (by omega), ih h9 (by omega) (((k5.trans k6).trans k8).trans k9) ?_⟩)⟩)⟩
      rw [show clearF ns i l[i] = none by unfold clearF; rw [if_neg (by rw [hf, hf2]; simp)]] at e
      exact e
  exact key n h (Nat.le_refl _) (KB.refl h) (by rw [← hln]; rfl)
end
end Go.Proofs
