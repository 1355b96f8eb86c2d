/- utf: the laws UtfStays, UtfLong, UtfOne. No condition but what the library's variables hold. -/
import Derived.Test.YtodponooeepilaaDoorUfT
import Derived.Lib.SlBytesConst
namespace Go.Proofs
open Go Go.Sh
set_option linter.unusedVariables false
set_option maxRecDepth 100000
theorem bomP_ne {x : UInt8} {t : Bs} (h : x.toNat ≠ 239) : bomP (x :: t) = false := by
  unfold bomP byteAt
  rw [List.getD_cons_zero, decide_eq_false (p := x.toNat = 239) h]; simp
theorem textP_ne {x : UInt8} {t : Bs} (h : x.toNat ≠ 239) : textP (x :: t) = plainP (x :: t) := by
  unfold textP
  rw [if_neg (by rw [bomP_ne h]; decide)]
theorem enc97 : encN 97 = [97] := by decide
theorem enc98 : encN 98 = [98] := by decide
theorem okR97 : okR 97 := ⟨.inl (by omega), by omega⟩
theorem text97 {s : Bs} (h : IsText s) : IsText (97 :: s) := by
  have := isText_append (isText_one okR97) h
  rwa [enc97] at this
/-- how many characters begin -/
def begs (s : Bs) : Nat := s.countP fun x => decide (x.toNat < 128) || decide (192 ≤ x.toNat)
theorem begs_append (a b : Bs) : begs (a ++ b) = begs a + begs b := by unfold begs; exact List.countP_append
theorem begs_enc {r : Nat} (h : scal r) : begs (encN r) = 1 := by
  have hr : r ≤ 1114111 := by rcases h with h | h <;> omega
  unfold encN begs
  repeat' split
  all_goals simp only [List.countP_cons, List.countP_nil]
  all_goals repeat rw [b8_nat (by omega)]
  · rw [decide_eq_true (show r < 128 by omega)]; rfl
  · rw [decide_eq_false (show ¬ 128 + r % 64 < 128 by omega), decide_eq_false (show ¬ 192 ≤ 128 + r % 64 by omega), decide_eq_true (show 192 ≤ 192 + r / 64 by omega)]; simp
  · rw [decide_eq_false (show ¬ 128 + r % 64 < 128 by omega), decide_eq_false (show ¬ 192 ≤ 128 + r % 64 by omega), decide_eq_true (show 192 ≤ 224 + r / 4096 by omega), decide_eq_false (show ¬ 128 + r / 64 % 64 < 128 by omega), decide_eq_false (show ¬ 192 ≤ 128 + r / 64 % 64 by omega)]; simp
  · rw [decide_eq_false (show ¬ 128 + r % 64 < 128 by omega), decide_eq_false (show ¬ 192 ≤ 128 + r % 64 by omega), decide_eq_true (show 192 ≤ 240 + r / 262144 by omega), decide_eq_false (show ¬ 128 + r / 64 % 64 < 128 by omega), decide_eq_false (show ¬ 192 ≤ 128 + r / 64 % 64 by omega), decide_eq_false (show ¬ 128 + r / 4096 % 64 < 128 by omega), decide_eq_false (show ¬ 192 ≤ 128 + r / 4096 % 64 by omega)]; simp
theorem begs_plain : ∀ (n : Nat) (b : Bs), b.length ≤ n → b.length ≤ 4 * begs (plainP b) ∧ begs (plainP b) ≤ b.length
  | n, [], _ => by rw [plainP_nil]; exact ⟨Nat.zero_le _, Nat.le_refl _⟩
  | 0, x :: t, h => by simp at h
  | n + 1, x :: t, h => by
    obtain ⟨r, hr, e⟩ := piece_text (b := x :: t) (by simp)
    obtain ⟨h1, h2, h3⟩ := front_bd (b := x :: t) (by simp)
    have ih := begs_plain n ((x :: t).drop (frontP (x :: t)).1) (by rw [List.length_drop]; simp only [List.length_cons] at *; omega)
    rw [plainP_cons, begs_append, e, begs_enc hr.1]
    rw [List.length_drop] at ih
    omega
theorem enc_bom {c : Nat} (hc : c ≤ 1114111) (h : bomP (encN c) = true) : c = 65279 := by
  unfold bomP byteAt at h
  simp only [Bool.and_eq_true, decide_eq_true_eq] at h
  obtain ⟨h0, h1, h2, h3⟩ := h
  unfold encN at h0 h1 h2 h3
  split at h0
  · simp at h0
  split at h0
  · simp at h0
  rename_i c1 c2
  split at h0
  · rename_i c3
    rw [if_neg c1, if_neg c2, if_pos c3] at h1 h2 h3
    simp only [List.getD_cons_zero, List.getD_cons_succ] at h1 h2 h3
    rw [b8_nat (by omega)] at h1 h2 h3
    omega
  · rename_i c3
    rw [if_neg c1, if_neg c2, if_neg c3] at h1
    simp only [List.getD_cons_zero] at h1
    rw [b8_nat (by omega)] at h1
    omega
theorem textP_enc {c : Nat} (h : okR c) (hb : c ≠ 65279) : textP (encN c) = encN c := by
  have hc : c ≤ 1114111 := by rcases h.1 with h | h <;> omega
  unfold textP
  rw [if_neg (fun e => hb (enc_bom hc e))]
  exact plain_of_text (isText_one h)
section
variable {P : Program}
/-- a text's bytes, as a row of one's own -/
theorem _root_.Go.Sh.appStr_k {t u ty e : TypeId} (ap : Apd P elB t e 1) (hu : P.underlying u = some .string) {h : H} {s : Bs} (h0 : s ≠ []) (hl : s.length ≤ 1000000000000) {K : Value → H → Prop}
    (hk : ∀ c h', OwnF elB h' h.size e (some (Ad h.size)) s.length c s → KB h h' → K (.slice (some (Ad h.size)) s.length c) h') : SemH P (Builtin.append_ #[t, u] ty ⟨[.slice none 0 0, S s]⟩) h K := by
  obtain ⟨i, z, ht, hi, hz, hzs, hsz, hby⟩ := ap.is
  intro w hw
  have hpos : 0 < s.length := List.length_pos_iff.2 h0
  have hss : (⟨⟨s⟩⟩ : ByteArray).size = s.length := rfl
  have hr := run_append_nil_string (P := P) w t u ty e i z ht hu hi hz ⟨⟨s⟩⟩ hpos (by rw [hss]; omega) (by rw [hss, hby]; omega)
  rw [hss] at hr
  have hc1 := grownCap_ge w s.length 0 e
  have hc2 := grownCap_le_maxLen w s.length 0 e (by simp only [maxLen]; omega)
  refine ⟨_, _, hr, ⟨rfl, rfl, rfl⟩, ?_⟩
  have eh : (w.drew.alloc (.cells (Array.map (fun b : UInt8 => Value.int .u8 (b.toNat : Int)) ⟨s⟩ ++ Builtin.zeroCells z.cells (grownCap w s.length 0 e - s.length)) e)).heap = h.push (.cells (Array.map (fun b : UInt8 => Value.int .u8 (b.toNat : Int)) ⟨s⟩ ++ Builtin.zeroCells z.cells (grownCap w s.length 0 e - s.length)) e) := by rw [← hw]; rfl
  rw [eh, hw]
  refine hk _ _ ⟨⟨rfl, s.map fun x => Value.int .u8 (x.toNat : Int), ⟨by simp [elB], hc1, hc2, .inr ⟨h.size, _, rfl, Nat.le_refl _, by simp; rfl, ?_, ?_⟩⟩, encB _⟩, fun a e => by cases e; exact Nat.le_refl _, fun a e => by cases e; simp, fun e => by cases e⟩ (SK.push h _)
  · simp only [Array.size_append, List.size_toArray, List.length_map, size_zeroCells, hzs, hsz]; show _ + _ * 1 = _ * 1; omega
  · refine take_all (by simp [elB]) (Builtin.zeroCells z.cells (grownCap w s.length 0 e - s.length)).toList ?_
    simp
/-- behind a row that has no room, whatever becomes of it -/
theorem _root_.Go.Sh.Row.appendR {α : Type} {E : El α} {t ty e by' : Nat} (ap : Apd P E t e by') {A B : Nat → Prop} {h : H} {sb rb : Option Addr} {n c m k : Nat} {l l2 : List α} (o : Row E A h sb n c l) (hfull : m = 0 ∨ c < n + m) (r : Row E B h rb m k l2)
    (hsb : sb = none → c = 0) (h63 : n + m ≤ maxLen) (hb : (n + m) * by' ≤ 140737488355328) {K : Value → H → Prop}
    (hK : ∀ b' c' h', Row E (Bel h'.size) h' b' (n + m) c' (l ++ l2) → KB h h' → K (.slice b' (n + m) c') h') :
    SemH P (Builtin.append_ #[t, t] ty ⟨[.slice sb n c, .slice rb m k]⟩) h K := by
  refine Row.appendF ap o hfull r hsb h63 hb (fun e => ?_) fun c' h' _ o' k' => hK _ _ _ o'.row k'
  subst e
  have hl2 : l2 = [] := List.eq_nil_of_length_eq_zero r.len
  subst hl2
  exact hK sb c h (by rw [List.append_nil]; exact o.bel) (KB.refl h)
/-- '[]byte("..")' of a constant: a marked row -/
theorem _root_.Go.Sh.bytesLit_k {t e : TypeId} (ht : P.underlying t = some (.slice e)) (he : P.underlying e = some (.int .u8)) {h : H} {cs : Bs} {n : Nat} {K : Value → H → Prop} (hn : cs.length = n) (hm : n ≤ maxLen)
    (hk : ∀ a h', Row elB (fun k => k = a.block) h' (some a) n n cs → KB h h' → a.block = h.size → K (.slice (some a) n n) h') :
    newx h ⟨cs.map fun x => Value.int .u8 (x.toNat : Int)⟩ e fun a h1 => SemH P (convert t t (.slice (some a) n n)) h1 K := by
  intro w hw
  have hr := Lib.run_convert_bytes_const (P := P) { w with heap := h } t e ⟨cs.map fun x => Value.int .u8 (x.toNat : Int)⟩ n n ht he
  have ew : (World.alloc { w with heap := h } (.cells ⟨cs.map fun x => Value.int .u8 (x.toNat : Int)⟩ e)) = w := by
    show ({ w with heap := h.push _ } : World) = w
    rw [← hw]
  rw [ew] at hr
  refine ⟨_, _, hr, ⟨rfl, rfl, rfl⟩, ?_⟩
  show K _ (h.push _)
  have hc : (h.push (.cells ⟨cs.map fun x => Value.int .u8 (x.toNat : Int)⟩ e ((⟨cs.map fun x => Value.int .u8 (x.toNat : Int)⟩ : Array Value).size, (⟨cs.map fun x => Value.int .u8 (x.toNat : Int)⟩ : Array Value).size + 1)))[h.size]? = some (.cells ⟨cs.map fun x => Value.int .u8 (x.toNat : Int)⟩ e ((⟨cs.map fun x => Value.int .u8 (x.toNat : Int)⟩ : Array Value).size, (⟨cs.map fun x => Value.int .u8 (x.toNat : Int)⟩ : Array Value).size + 1)) := by simp
  refine hk ⟨h.size, 0, none⟩ _ (Row.of (encB _) (fun j v hv => ⟨_, rfl, ?_⟩) hn (Nat.le_refl _) hm fun x e => by cases e; rfl) (SK.push h _) rfl
  rw [cell_lit hc]
  simpa using hv
end
section
variable {h : H} {s : Bs} {K : Value → H → Prop} {A B : Nat → Prop} {b b2 : Option Addr} {n c n2 c2 : Nat} {l l2 : Bs}
theorem lawStays_calls (u : U8 h) (m : ML2 h) (r : Row elB A h b n c l) (r2 : Row elB B h b2 n2 c2 l2) (hk : ∀ h', KB h h' → K (.bool true) h') : HCalls Tryd.prog 6 ⟨[.slice b n c, .slice b2 n2 c2]⟩ h K := by
  have hn := r.len
  have hn2 := r2.len
  have htx := textP_text l
  have htl := textP_len l
  refine Sx.l01_UtfStays.ok _ _ _ _ _ _ _ _ (spl (fun _ => known_calls u m fun h1 k1 => vBool_mk (condT (hk h1 k1))) fun hle => spl (fun _ => known_calls u m fun h1 k1 => vBool_mk (condT (hk h1 k1))) fun hle2 => known_calls u m fun h1 k1 => vBool_mk (condT (text2_calls (u.kb k1) (r.kb k1) (by omega) fun h2 k2 => vStrMk ?_)))
  generalize textP l = s at *
  have k02 := k1.trans k2
  have l97 : ([97] : Bs).length = 1 := rfl
  have l98 : ([98] : Bs).length = 1 := rfl
  have la : (([97] : Bs) ++ s).length = s.length + 1 := by simp
  refine ⟨by omega, bytesOf_k Tryd.underlying9 Tryd.underlying22 Tryd.underlying5 (by simp only [maxLen]; omega) fun b3 c3 h3 r3 _ k3 => vSliceMk (text2_calls (u.kb (k02.trans k3)) r3 (by omega) fun h4 k4 => vStrMk ⟨by omega, by omega, ?_⟩)⟩
  have k04 := (k02.trans k3).trans k4
  refine appStr_k apdB Tryd.underlying9 (by simp) (by simp only [List.length_append, l97, l98]; omega) fun c5 h5 o5 k5 => vSliceMk ?_
  have k05 := k04.trans k5
  have k05s := k05.1
  have k04s := k04.1
  refine OwnF.append apdB o5 ((r2.bel.kb k05).less fun k hk hks => ⟨hks, fun x hx => by cases hx; have hk : k < h.size := hk; show h4.size ≠ k; omega⟩) (by simp only [List.length_append, l97, l98, maxLen]; omega) (by simp only [List.length_append, l97, l98]; omega) k5.1 fun b6 c6 h6 o6 g6 => vSliceMk ?_
  have k06 : KB h h6 := Grow.kb0 k05 g6 fun a e => by cases e; exact k04s
  refine bytesLit_k (cs := [98]) Tryd.underlying22 Tryd.underlying5 rfl (by decide) fun a7 h7 rv k7 e7 => vSliceMk ?_
  have k07 := k06.trans k7
  have x97 : (97 : UInt8).toNat ≠ 239 := by decide
  have x98 : (98 : UInt8).toNat ≠ 239 := by decide
  refine Row.appendR apdB rv (by omega) (r2.kb k07) (fun e => by cases e) (by simp only [maxLen]; omega) (by omega) fun b8 c8 h8 r8 k78 => vSliceMk ?_
  have k68 := k7.trans k78
  have k08 := k06.trans k68
  refine text2_calls (u.kb k08) r8 (by omega) fun h9 k9 => vStrMk (right2_calls (by omega) fun h10 k10 => vBool_mk (condB (fun _ => ⟨by omega, splT ?_ (text2_calls (u.kb ((k08.trans k9).trans k10)) ((o6.kb ((k68.trans k9).trans k10)).row) (by simp only [List.length_append, l97, l98]; omega) fun h11 k11 => vStrMk ⟨by omega, ?_, splT ?_ (hk h11 (((k08.trans k9).trans k10).trans k11))⟩)⟩) fun e => absurd (plain_of_text htx) (of_decide_eq_false e)))
  · show textP (97 :: s) = _
    rw [textP_ne x97]
    exact plain_of_text (text97 htx)
  · have := textP_len (([98] : Bs) ++ l2)
    rw [List.length_append, l98] at this
    omega
  · rw [List.append_assoc (([97] : Bs) ++ s)]
    show textP (97 :: (s ++ ([98] ++ l2))) = 97 :: s ++ textP (98 :: l2)
    rw [textP_ne x97, textP_ne x98]
    exact plain_text_append (text97 htx) (98 :: l2)
theorem lawLong_calls (u : U8 h) (m : ML2 h) (r : Row elB A h b n c l) (hk : ∀ h', KB h h' → K (.bool true) h') : HCalls Tryd.prog 8 ⟨[.slice b n c]⟩ h K := by
  have hn := r.len
  have htl := textP_len l
  have hbg : (l.length ≤ 4 * begs (textP l) + (if bomP l = true then 3 else 0)) ∧ begs (textP l) ≤ l.length := by
    unfold textP
    split
    · have := begs_plain _ (l.drop 3) (Nat.le_refl _)
      rw [List.length_drop] at this
      omega
    · have := begs_plain _ l (Nat.le_refl _)
      omega
  refine Sx.l01_UtfLong.ok _ _ _ _ _ (spl (fun _ => known_calls u m fun h1 k1 => vBool_mk (condT (hk h1 k1))) fun hle => known_calls u m fun h1 k1 => vBool_mk (condT (text2_calls (u.kb k1) (r.kb k1) (by omega) fun h2 k2 => vStrMk ?_)))
  have k02 := k1.trans k2
  have r2 := r.kb k02
  have hk2 := hk h2 k02
  generalize textP l = s at *
  have last : ∀ f : Bool, f = bomP l → Sx.l01_UtfLong.n7 b n c s (begs s : Int) f (fun y2 h => K (.bool y2) h) (fun y2 h => K (.bool y2) h) h2 := by
    intro f hf
    have tail : ∀ z : Int, (z ≤ (4 * begs s : Nat)) → Sx.l01_UtfLong.n9 b n c s (begs s : Int) z (fun y2 h => K (.bool y2) h) (fun y2 h => K (.bool y2) h) h2 := fun z hz =>
      ⟨rng64 (by omega) (by omega), splT (by omega) ⟨rng64 (by omega) (by omega), splT (by omega) (splT (by omega) hk2)⟩⟩
    subst hf
    refine condB (fun e => ⟨rng64 (by omega) (by omega), tail _ ?_⟩) fun e => tail _ ?_
    · rw [if_pos e] at hbg; omega
    · rw [if_neg (by rw [e]; decide)] at hbg; omega
  have test : Sx.l01_UtfLong.n6 b n c s (begs s : Int) (fun y2 h => K (.bool y2) h) (fun y2 h => K (.bool y2) h) h2 := by
    refine spl (fun e => ?_) fun e => last false ?_
    · have g0 := byteAt_get (l := l) (i := 0) (by omega)
      have g1 := byteAt_get (l := l) (i := 1) (by omega)
      have g2 := byteAt_get (l := l) (i := 2) (by omega)
      refine r2.idx (by decide) (by omega) rfl fun a0 i0 A0 => ldU A0 (spl (fun e0 => r2.idx (by decide) (by omega) rfl fun a1 i1 A1 => ldU A1 (spl (fun e1 => r2.idx (by decide) (by omega) rfl fun a2 i2 A2 => ldU A2 (spl (fun e2 => last true ?_) fun e2 => last false ?_)) fun e1 => last false ?_)) fun e0 => last false ?_)
      · have x0 : (l[(0 : Int).toNat]'i0).toNat = l[0].toNat := rfl
        have x1 : (l[(1 : Int).toNat]'i1).toNat = l[1].toNat := rfl
        have x2 : (l[(2 : Int).toNat]'i2).toNat = l[2].toNat := rfl
        unfold bomP
        rw [decide_eq_true (by omega), decide_eq_true (show byteAt l 0 = 239 by omega), decide_eq_true (show byteAt l 1 = 187 by omega), decide_eq_true (show byteAt l 2 = 191 by omega)]; rfl
      · have x2 : (l[(2 : Int).toNat]'i2).toNat = l[2].toNat := rfl
        unfold bomP; rw [decide_eq_false (show ¬ byteAt l 2 = 191 by omega)]; simp
      · have x1 : (l[(1 : Int).toNat]'i1).toNat = l[1].toNat := rfl
        unfold bomP; rw [decide_eq_false (show ¬ byteAt l 1 = 187 by omega)]; simp
      · have x0 : (l[(0 : Int).toNat]'i0).toNat = l[0].toNat := rfl
        unfold bomP; rw [decide_eq_false (show ¬ byteAt l 0 = 239 by omega)]; simp
    · unfold bomP; rw [decide_eq_false (by omega)]; rfl
  have key : ∀ N i m, s.length = i + N → m = begs (s.take i) → Sx.l01_UtfLong.n12_L (fun z0b z0n z0c z3 z4 h => Sx.l01_UtfLong.n6 z0b z0n z0c z3 z4 (fun y2 h => K (.bool y2) h) (fun y2 h => K (.bool y2) h) h) (fun z0b z0n z0c z3 z4 h => Sx.l01_UtfLong.n6 z0b z0n z0c z3 z4 (fun y2 h => K (.bool y2) h) (fun y2 h => K (.bool y2) h) h) (fun y2 h => K (.bool y2) h) (N + 1) b n c s (m : Int) (i : Int) h2 := by
    intro N
    induction N with
    | zero =>
      intro i m hi hm
      rw [List.take_of_length_le (by omega)] at hm
      subst hm
      exact splF (by omega) test
    | succ N ih =>
      intro i m hi hm
      have hi' : i < s.length := by omega
      have hml : m ≤ i := by
        rw [hm]; exact Nat.le_trans List.countP_le_length (by rw [List.length_take]; omega)
      have hb1 : begs (s.take (i + 1)) = m + begs [s[i]] := by
        rw [List.take_add_one, List.getElem?_eq_getElem hi', begs_append, hm]; rfl
      have yes : (s[i].toNat < 128 ∨ 192 ≤ s[i].toNat) → Rng .i64 ((m : Int) + 1) ∧ Rng .i64 ((i : Int) + 1) ∧ _ := fun hx => ⟨rng64 (by omega) (by omega), rng64 (by omega) (by omega), ih (i + 1) (m + 1) (by omega) (by
        rw [hb1]
        unfold begs
        simp only [List.countP_cons, List.countP_nil]
        rcases hx with hx | hx
        · rw [decide_eq_true hx]; rfl
        · rw [decide_eq_true hx]; simp)⟩
      refine splT (by omega) ⟨⟨by omega, by omega⟩, ?_⟩
      rw [getDN hi']
      refine spl (fun e => yes (.inl (by omega))) fun e => ⟨⟨by omega, by omega⟩, spl (fun e2 => yes (.inr (by omega))) fun e2 => ⟨rng64 (by omega) (by omega), ih (i + 1) m (by omega) ?_⟩⟩
      rw [hb1]
      unfold begs
      simp only [List.countP_cons, List.countP_nil]
      rw [decide_eq_false (show ¬ s[i].toNat < 128 by omega), decide_eq_false (show ¬ 192 ≤ s[i].toNat by omega)]; rfl
  exact ⟨s.length + 1, key s.length 0 0 (by omega) rfl⟩
theorem lawOne_calls {x : Int} (hx : Rng .i32 x) (u : U8 h) (m : ML2 h) (r : Row elB A h b n c l) (hk : ∀ h', KB h h' → K (.bool true) h') : HCalls Tryd.prog 9 ⟨[.int .i32 x, .slice b n c]⟩ h K := by
  have hn := r.len
  refine Sx.l01_UtfOne.ok _ _ _ _ _ _ (spl (fun _ => known_calls u m fun h1 k1 => vBool_mk (condT (hk h1 k1))) fun hle => known_calls u m fun h1 k1 => vBool_mk (condT (newx_var (cs := [.int .i32 x]) fun a2 h2 v2 k2 e2 z2 => ?_)))
  have rv : Row (elInt .i32) (fun k => k = a2.block) h2 (some a2) 1 1 [x] := v2.row1 ⟨rfl, hx⟩ rfl
  refine strOfRunes_k Tryd.underlying32 Tryd.underlying21 Tryd.underlying9 rv (vStrMk ?_)
  have es : ([x].flatMap fun z => encN (runeOf z)) = encN (runeOf x) := by simp
  rw [es]
  have k02 := k1.trans k2
  have hel := enc_len (runeOf x)
  have hsc := runeOf_scal x
  have l97 : ([97] : Bs).length = 1 := rfl
  have x97 : (97 : UInt8).toNat ≠ 239 := by decide
  have odd : Sx.l01_UtfOne.n7 b n c (encN (runeOf x)) true (fun z1b z1n z1c z5 h => Sx.l01_UtfOne.n5 z1b z1n z1c z5 (fun y4 h => K (.bool y4) h) (fun y4 h => K (.bool y4) h) h) (fun y4 h => K (.bool y4) h) h2 := by
    generalize encN (runeOf x) = s at *
    refine condT ⟨by omega, bytesOf_k Tryd.underlying9 Tryd.underlying22 Tryd.underlying5 (by simp only [List.length_append, l97, maxLen]; omega) fun b3 c3 h3 r3 _ k3 => vSliceMk (text2_calls (u.kb (k02.trans k3)) r3 (by simp only [List.length_append, l97]; omega) fun h4 k4 => vStrMk ⟨by omega, bytesOf_k Tryd.underlying9 Tryd.underlying22 Tryd.underlying5 (by simp only [List.length_append, l97, maxLen]; omega) fun b5 c5 h5 r5 _ k5 => vSliceMk (text_calls r5 (by simp only [List.length_append, l97]; omega) fun h6 k6 => vStrMk ?_)⟩)⟩
    have et : textP (([97] : Bs) ++ s) = 97 :: plainP s := by
      show textP (97 :: s) = _
      rw [textP_ne x97]
      have := plain_text_append (isText_one okR97) s
      rwa [enc97] at this
    rw [et]
    have hpl := text_len _ s (Nat.le_refl _)
    have es : sub (97 :: plainP s) (1 : Int) ((97 :: plainP s).length : Int) = plainP s := sub_full (97 :: plainP s) 1 (by simp)
    rw [es]
    exact ⟨⟨by decide, by simp only [List.length_cons]; omega, by omega⟩, by omega, splT rfl (hk h6 ((((k02.trans k3).trans k4).trans k5).trans k6))⟩
  refine spl (fun _ => odd) fun h0 => spl (fun _ => odd) fun hb => condF ?_
  have hok : okR (runeOf x) := ⟨hsc, fun e => by
    unfold runeOf at e
    split at e
    · rename_i hv
      simp [Utf8.valid] at hv
      omega
    · omega⟩
  have hnb : runeOf x ≠ 65279 := fun e => by
    unfold runeOf at e
    split at e
    · omega
    · omega
  have etx := textP_enc hok hnb
  have ht := isText_one hok
  generalize encN (runeOf x) = s at *
  have r2 := r.kb k02
  refine ⟨by omega, strOf_k Tryd.underlying22 Tryd.underlying5 Tryd.underlying9 r2 (vStrMk ⟨by simp only [List.length_append, l97]; omega, right2_calls (by omega) fun h3 k3 => vBool_mk (condB (fun _ => ?_) fun e => absurd (plain_of_text ht) (of_decide_eq_false e))⟩)⟩
  refine bytesOf_k Tryd.underlying9 Tryd.underlying22 Tryd.underlying5 (by simp only [maxLen]; omega) fun b4 c4 h4 r4 _ k4 => vSliceMk (text2_calls (u.kb ((k02.trans k3).trans k4)) r4 (by omega) fun h5 k5 => vStrMk (splT etx ?_))
  have k05 := ((k02.trans k3).trans k4).trans k5
  refine strOf_R Tryd.underlying22 Tryd.underlying5 Tryd.underlying9 (r.kb k05) (vStrMk (right2_calls (by simp only [List.length_append, l97]; omega) fun h6 k6 => vBool_mk ?_))
  have eq : (plainP (([97] : Bs) ++ s ++ l) = ([97] : Bs) ++ s ++ l) ↔ plainP l = l := by
    have := plain_text_append (text97 ht) l
    show plainP (97 :: s ++ l) = 97 :: s ++ l ↔ _
    rw [this]
    exact ⟨fun e => List.append_cancel_left e, fun e => by rw [e]⟩
  refine condB (fun e => ⟨k6.ext, right2_calls (by omega) fun h7 k7 => vBool_mk (condB (fun _ => hk h7 ((k05.trans k6).trans k7)) fun e2 => absurd (eq.1 (of_decide_eq_true e)) (of_decide_eq_false e2))⟩) fun e => ⟨k6.ext, right2_calls (by omega) fun h7 k7 => vBool_mk (condB (fun e2 => absurd (eq.2 (of_decide_eq_true e2)) (of_decide_eq_false e)) fun _ => hk h7 ((k05.trans k6).trans k7))⟩
end
end Go.Proofs
