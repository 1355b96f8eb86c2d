/- Lower: a text with small letters for A to Z. No condition but its length. -/
import Derived.Test.YtmnjhhgdhlgjfaaGreatDoC
import Derived.Test.YtmnjhhgdhlgjfaaGreatTxA
import Derived.Laws.IdiomStrings
import Derived.Laws.Cover4
namespace Go.Sh
open Go Go.Proofs
set_option linter.unusedVariables false
set_option linter.unusedSimpArgs false
variable {P : Program}
theorem push_at (h : H) (o : Obj) : (h.push o)[h.size]? = some o := by simp
/-- bytes as elements -/
def elB : El UInt8 where
  sz := 1
  R := fun _ _ x cs => cs = [.int .u8 (x.toNat : Int)]
  len := fun _ _ _ _ h => by rw [h]; rfl
  one := fun _ _ _ _ h v hv => by rw [h] at hv; simp at hv; subst hv; rfl
  keep := fun _ _ _ _ _ _ h _ _ => h
  pos := by decide
theorem At.byte {A : Nat → Prop} {h : H} {a : Addr} {x : UInt8} (hA : At elB A h a x) : cell h a = some (.int .u8 (x.toNat : Int)) := by
  obtain ⟨h1, cs, e, h4⟩ := hA
  cases e
  exact h4 0 _ rfl
theorem ldU {A : Nat → Prop} {h : H} {a : Addr} {x : UInt8} {K : Int → Prop} (hA : At elB A h a x) (hk : K (x.toNat : Int)) : ∃ i, cell h a = some (.int .u8 i) ∧ K i := ⟨_, hA.byte, hk⟩
theorem encB {A : Nat → Prop} {h : H} : ∀ (l : List UInt8), Enc elB A h l (l.map fun x => Value.int .u8 (x.toNat : Int))
  | [] => rfl
  | x :: l => ⟨[.int .u8 (x.toNat : Int)], _, rfl, rfl, encB l⟩
theorem Row.cellB {A : Nat → Prop} {h : H} {b : Option Addr} {n c : Nat} {l : List UInt8} (r : Row elB A h b n c l) {j : Nat} (hj : j < l.length) : ∃ a, b = some a ∧ cell h (a.add j) = some (.int .u8 (l[j].toNat : Int)) := by
  obtain ⟨a, e, hA⟩ := r.at' j _ (List.getElem?_eq_getElem hj)
  have := hA.byte
  rw [show j * elB.sz = j from Nat.mul_one j] at this
  exact ⟨a, e, this⟩
/-- 'string(b)' of bytes -/
theorem strOf_R {src dst e : TypeId} (hs : P.underlying src = some (.slice e)) (he : P.underlying e = some (.int .u8)) (hd : P.underlying dst = some .string) {A : Nat → Prop} {h : H} {b : Option Addr} {n c : Nat} {l : List UInt8}
    (r : Row elB A h b n c l) {K : Value → Prop} (hk : K (S l)) : SemR P (convert src dst (.slice b n c)) h K := by
  have hn := r.len
  subst hn
  refine ⟨S l, hk, fun w hw => ?_⟩
  cases hb : b with
  | none =>
    have : l = [] := by
      cases l with
      | nil => rfl
      | cons x l => obtain ⟨a, e, _⟩ := r.cellB (j := 0) (by simp); rw [hb] at e; cases e
    subst this
    rw [run_convert_bytes_string w src dst e none _ c hs he hd]
    simp [Conv.bytesToString]
    rfl
  | some a =>
    exact run_convert_bytes_back w src dst e a c l hs he hd fun j hj => by
      obtain ⟨a', e1, e2⟩ := r.cellB hj
      rw [hb] at e1
      cases e1
      rw [cell_eq]; exact hw.cell e2
theorem strOf_k {src dst e : TypeId} (hs : P.underlying src = some (.slice e)) (he : P.underlying e = some (.int .u8)) (hd : P.underlying dst = some .string) {A : Nat → Prop} {h : H} {b : Option Addr} {n c : Nat} {l : List UInt8}
    (r : Row elB A h b n c l) {K : Value → H → Prop} (hk : K (S l) h) : SemH P (convert src dst (.slice b n c)) h K := (strOf_R hs he hd r (K := fun v => K v h) hk).h

/-- a text's bytes in a block of one's own, as '[]byte(s)' makes it -/
structure BufB (h : H) (g : Nat) (c : Nat) (s : Bs) : Prop where
  ex : ∃ (cur : Array Value) (e : Nat), h[g]? = some (.cells cur e (cur.size, cur.size + 1)) ∧ cur.size = c ∧ s.length ≤ c ∧ c ≤ maxLen ∧ ∀ (j : Nat) x, s[j]? = some x → cur[j]? = some (.int .u8 (x.toNat : Int))
theorem bytesBuf_k {src dst e : TypeId} (hs : P.underlying src = some .string) (hd : P.underlying dst = some (.slice e)) (he : P.underlying e = some (.int .u8)) {h : H} {s : List UInt8} (hl : s.length ≤ maxLen)
    {K : Value → H → Prop} (hk : ∀ c h', BufB h' h.size c s → KB h h' → h'.size = h.size + 1 → K (.slice (some ⟨h.size, 0, none⟩) s.length c) h') : SemH P (convert src dst (S s)) h K := by
  intro w hw
  have hsz : (⟨⟨s⟩⟩ : ByteArray).size = s.length := rfl
  refine ⟨_, _, run_bytes_of_string w src dst e ⟨⟨s⟩⟩ hs hd he, ⟨rfl, rfl, rfl⟩, ?_⟩
  rw [hsz]
  have hg1 := grownCap_ge w s.length 0 e
  have hg2 := grownCap_le_maxLen w s.length 0 e hl
  have hh : (w.drew.alloc (.cells (bytesRow ⟨⟨s⟩⟩ (grownCap w s.length 0 e)) e ((bytesRow ⟨⟨s⟩⟩ (grownCap w s.length 0 e)).size, (bytesRow ⟨⟨s⟩⟩ (grownCap w s.length 0 e)).size + 1))).heap = h.push (.cells (bytesRow ⟨⟨s⟩⟩ (grownCap w s.length 0 e)) e ((bytesRow ⟨⟨s⟩⟩ (grownCap w s.length 0 e)).size, (bytesRow ⟨⟨s⟩⟩ (grownCap w s.length 0 e)).size + 1)) := by rw [← hw]; rfl
  rw [hh, hw]
  have hbs : (bytesRow ⟨⟨s⟩⟩ (grownCap w s.length 0 e)).size = grownCap w s.length 0 e := by
    unfold bytesRow
    simp
    exact Nat.add_sub_cancel' hg1
  refine hk _ _ ⟨_, _, push_at h _, hbs, hg1, hg2, fun j x hx => ?_⟩ (SK.push h _) (by simp)
  have hj := (List.getElem?_eq_some_iff.1 hx).1
  rw [bytesRow_at ⟨⟨s⟩⟩ _ j hj]
  rw [List.getElem?_eq_getElem hj] at hx
  cases hx
  rfl
theorem BufB.kb {h h' : H} {g c : Nat} {s : Bs} (b : BufB h g c s) (k : KB h h') : BufB h' g c s := by
  obtain ⟨cur, e, h1, r⟩ := b.ex
  have hlt : g < h.size := by
    rcases Nat.lt_or_ge g h.size with h2 | h2
    · exact h2
    · rw [Array.getElem?_eq_none h2] at h1; cases h1
  exact ⟨cur, e, by rw [k.2 g hlt]; exact h1, r⟩
theorem BufB.cell {h : H} {g c : Nat} {s : Bs} (b : BufB h g c s) {j : Nat} (hj : j < s.length) : Sh.cell h ((⟨g, 0, none⟩ : Addr).add j) = some (.int .u8 (s[j].toNat : Int)) := by
  obtain ⟨cur, e, h1, h2, h3, h4, h5⟩ := b.ex
  rw [cell_lit h1]
  exact h5 j _ (List.getElem?_eq_getElem hj)
theorem BufB.row {h : H} {g c : Nat} {s : Bs} (b : BufB h g c s) : Row elB (fun _ => True) h (some ⟨g, 0, none⟩) s.length c s := by
  obtain ⟨cur, e, h1, h2, h3, h4, h5⟩ := b.ex
  refine Row.of (encB s) (fun j v hv => ⟨_, rfl, ?_⟩) rfl h3 h4 fun _ _ => trivial
  have hj : j < s.length := by simpa using (List.getElem?_eq_some_iff.1 hv).1
  rw [b.cell hj]
  rw [List.getElem?_map, List.getElem?_eq_getElem hj] at hv
  exact hv
/-- one of its bytes is stored -/
theorem BufB.st {h : H} {g c : Nat} {s : Bs} (b : BufB h g c s) {j : Nat} (hj : j < s.length) {y : UInt8} {K : H → Prop} (hk : ∀ h', BufB h' g c (s.set j y) → KX g h h' → h'.size = h.size → K h') :
    stL ((⟨g, 0, none⟩ : Addr).add j) [.int .u8 (y.toNat : Int)] 0 h K := by
  obtain ⟨cur, e, h1, h2, h3, h4, h5⟩ := b.ex
  have ea : ((⟨g, 0, none⟩ : Addr).add j).add 0 = ⟨g, j, none⟩ := by rw [add_zero', addG]
  refine ⟨⟨_, by rw [add_zero']; exact b.cell hj⟩, ?_, ?_⟩
  · rw [ea]
    unfold iced
    simp only [h1]
    rw [Bool.and_eq_false_iff]
    left
    exact decide_eq_false (by show ¬ cur.size ≤ j; omega)
  · rw [ea]
    have hst : setc h ⟨g, j, none⟩ (.int .u8 (y.toNat : Int)) = h.setIfInBounds g (.cells (cur.setIfInBounds j (.int .u8 (y.toNat : Int))) e (cur.size, cur.size + 1)) := by
      unfold setc
      apply Array.ext_getElem?
      intro k
      rw [Array.getElem?_modify, Array.getElem?_setIfInBounds]
      by_cases hk : g = k
      · subst hk
        rw [if_pos rfl, if_pos rfl, h1]
        have hlt : g < h.size := by
          rcases Nat.lt_or_ge g h.size with h2 | h2
          · exact h2
          · rw [Array.getElem?_eq_none h2] at h1; cases h1
        rw [if_pos hlt]
        rfl
      · rw [if_neg hk, if_neg hk]
    refine hk _ ⟨cur.setIfInBounds j (.int .u8 (y.toNat : Int)), e, ?_, by simp [h2], by simp [h3], h4, fun k x hx => ?_⟩ ⟨by rw [hst]; simp, fun k hk => ?_⟩ (by rw [hst]; simp)
    · rw [hst, Array.getElem?_setIfInBounds, if_pos rfl]
      have hlt : g < h.size := by
        rcases Nat.lt_or_ge g h.size with h2 | h2
        · exact h2
        · rw [Array.getElem?_eq_none h2] at h1; cases h1
      rw [if_pos hlt]
      simp
    · rw [Array.getElem?_setIfInBounds]
      rw [List.getElem?_set] at hx
      by_cases e2 : j = k
      · subst e2
        rw [if_pos rfl] at hx ⊢
        rw [if_pos hj] at hx
        rw [if_pos (by omega)]
        cases hx; rfl
      · rw [if_neg e2] at hx ⊢
        exact h5 k x hx
    · rw [hst, Array.getElem?_setIfInBounds, if_neg (fun e => hk e.symm)]
end Go.Sh
namespace Go.Proofs
open Go Go.Sh
set_option linter.unusedVariables false
def low8 (c : UInt8) : UInt8 := if 65 ≤ c.toNat ∧ c.toNat ≤ 90 then c + 32 else c
def lowT (s : Bs) : Bs := s.map low8
theorem low8_bits : ∀ c : Fin 256, 65 ≤ c.val → c.val ≤ 90 → bits .or .u8 (c.val : Int) 32 = ((c.val + 32 : Nat) : Int) := by decide +kernel
theorem low8_nat (c : UInt8) : ((low8 c).toNat : Int) = if 65 ≤ c.toNat ∧ c.toNat ≤ 90 then bits .or .u8 (c.toNat : Int) 32 else (c.toNat : Int) := by
  unfold low8
  split
  · rename_i hc
    have := low8_bits ⟨c.toNat, c.toNat_lt⟩ hc.1 hc.2
    rw [this]
    have h2 : (c + 32).toNat = c.toNat + 32 := by
      rw [UInt8.toNat_add]
      show (c.toNat + 32) % 256 = _
      exact Nat.mod_eq_of_lt (by omega)
    rw [h2]
  · rfl
section
variable {h : H} {K : Value → H → Prop}
theorem small_calls {c : UInt8} (hk : K (.int .u8 ((low8 c).toNat : Int)) h) : HCalls Tryz.prog 84 ⟨[.int .u8 (c.toNat : Int)]⟩ h K := by
  rw [low8_nat] at hk
  refine Sx.class_small.ok _ _ _ (spl (fun h1 => spl (fun h2 => ?_) fun h2 => ?_) fun h1 => ?_)
  · rw [if_pos (by omega)] at hk; exact hk
  · rw [if_neg (by omega)] at hk; exact hk
  · rw [if_neg (by omega)] at hk; exact hk
theorem lower_calls {s : Bs} (hs : s.length ≤ 100000000) (hk : ∀ h', KB h h' → K (S (lowT s)) h') : HCalls Tryz.prog 62 ⟨[S s]⟩ h K := by
  refine Sx.class_Lower.ok _ _ _ (bytesBuf_k Tryz.underlying9 Tryz.underlying122 Tryz.underlying5 (by simp only [maxLen]; omega) fun c h1 B1 k1 s1 => vSliceMk ⟨s.length + 1, ?_⟩)
  have key : ∀ k i h2 s2, i + k = s.length → s2 = (s.take i).map low8 ++ s.drop i → BufB h2 h.size c s2 → KB h h2 → h2.size = h.size + 1 →
      Sx.class_Lower.n7_L (fun z3b z3n z3c h => Sx.class_Lower.n4 z3b z3n z3c (fun y2 h => K (S y2) h) (fun y2 h => K (S y2) h) h) (fun z3b z3n z3c h => Sx.class_Lower.n4 z3b z3n z3c (fun y2 h => K (S y2) h) (fun y2 h => K (S y2) h) h) (fun y2 h => K (S y2) h) (k + 1) (some ⟨h.size, 0, none⟩) s.length c (some ⟨h.size, 0, none⟩) s.length c (s.length : Int) (i : Int) h2 := by
    intro k
    induction k with
    | zero =>
      intro i h2 s2 hi e2 B k2 z2
      have : s2 = lowT s := by rw [e2, List.take_of_length_le (by omega), List.drop_of_length_le (by omega), List.append_nil]; rfl
      subst this
      have hr := B.row
      refine splF (by omega) ?_
      show SemH _ _ _ _
      have e3 : (lowT s).length = s.length := List.length_map _
      rw [e3] at hr
      exact strOf_k Tryz.underlying122 Tryz.underlying5 Tryz.underlying9 hr (vStrMk (hk h2 k2))
    | succ k ih =>
      intro i h2 s2 hi e2 B k2 z2
      have hl2 : s2.length = s.length := by rw [e2, List.length_append, List.length_map, List.length_take, List.length_drop]; omega
      have hil : i < s2.length := by omega
      have hc := B.cell hil
      have hget : s2[i] = s[i]'(by omega) := by
        have hl3 : ((s.take i).map low8).length = i := by rw [List.length_map, List.length_take]; omega
        have h5 : s2[i]? = s[i]? := by
          rw [e2, List.getElem?_append_right (by omega), hl3, Nat.sub_self, List.getElem?_drop, Nat.add_zero]
        rw [List.getElem?_eq_getElem hil, List.getElem?_eq_getElem (by omega)] at h5
        exact Option.some.inj h5
      refine splT (by omega) ⟨⟨by omega, by omega⟩, vSomeMk ⟨_, ?_, small_calls (c := s2[i]) (vIntMk ⟨⟨by omega, by omega⟩, vSomeMk ?_⟩)⟩⟩
      · rw [Int.toNat_natCast, Nat.mul_one]; exact hc
      · rw [Int.toNat_natCast, Nat.mul_one]
        refine B.st hil fun h3 B3 k3 z3 => ⟨⟨by show (-9223372036854775808 : Int) ≤ _; omega, by show _ ≤ (9223372036854775807 : Int); omega⟩, ih (i + 1) h3 _ (by omega) ?_ B3 (KB.step k2 k3 (Nat.le_refl _)) (by omega)⟩
        have hl3 : ((s.take i).map low8).length = i := by rw [List.length_map, List.length_take]; omega
        rw [hget, e2, List.set_append_right _ _ (by omega), hl3, Nat.sub_self]
        have hd : s.drop i = s[i]'(by omega) :: s.drop (i + 1) := List.drop_eq_getElem_cons (by omega)
        have ht : s.take (i + 1) = s.take i ++ [s[i]'(by omega)] := by rw [List.take_add_one, List.getElem?_eq_getElem (by omega)]; rfl
        rw [hd, ht, List.map_append, List.append_assoc]
        rfl
  exact key s.length 0 h1 s (by omega) (by simp) B1 k1 s1
end
end Go.Proofs
