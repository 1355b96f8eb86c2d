/- stars: matching, plain; pairs lie in one another, or apart. No program. No condition. -/
import Derived.Test.YtgpfanbjchieiaaDoorShA
namespace Go.Proofs
open Go Go.Sh
set_option linter.unusedVariables false
/-- Char, At, Many, Open, Close -/
abbrev RunP := Int × Int × Int × Bool × Bool
/-- At, To, Many -/
abbrev PairP := Int × Int × Int
abbrev RunP.ch (r : RunP) : Int := r.1
abbrev RunP.pl (r : RunP) : Int := r.2.1
abbrev RunP.mn (r : RunP) : Int := r.2.2.1
abbrev RunP.op (r : RunP) : Bool := r.2.2.2.1
abbrev RunP.cl (r : RunP) : Bool := r.2.2.2.2
/-- a run in the chain: how many are used up at its front, how many left over -/
structure Nd where
  r : RunP
  fr : Int
  ov : Int
def suitsP (o c : RunP) : Bool := decide (o.ch = c.ch) && (o.op && (!(c.op || o.cl) || (decide (c.mn.tmod 3 = 0) || !decide ((o.mn + c.mn).tmod 3 = 0))))
/-- the nearest that suits, and what stands ahead of it -/
def splitO (c : RunP) : List Nd → Option (Nd × List Nd)
  | [] => none
  | o :: l => if suitsP o.r c = true then some (o, l) else splitO c l
def nOf (o c : Nd) : Int := if 2 ≤ o.ov ∧ 2 ≤ c.ov then 2 else 1
abbrev W64 (x : Int) : Int := IntKind.wrap .i64 x
def pairOf (o c : Nd) : PairP := (W64 (o.r.pl + o.fr + (o.ov - nOf o c)), W64 (c.r.pl + (c.fr + nOf o c)), nOf o c)
def leftO (o c : Nd) (rest : List Nd) : List Nd := if o.ov - nOf o c = 0 then rest else ⟨o.r, o.fr, o.ov - nOf o c⟩ :: rest
def nextC (o c : Nd) : Nd := ⟨c.r, c.fr + nOf o c, c.ov - nOf o c⟩
/-- one that closes -/
def closeGo : Nat → List Nd → Nd → List PairP → List Nd × List PairP
  | 0, left, _, out => (left, out)
  | k + 1, left, c, out =>
    match splitO c.r left with
    | none => (if c.r.op = true then c :: left else left, out)
    | some (o, rest) => if c.ov - nOf o c = 0 then (leftO o c rest, out ++ [pairOf o c]) else closeGo k (leftO o c rest) (nextC o c) (out ++ [pairOf o c])
def nd0 (r : RunP) : Nd := ⟨r, 0, r.mn⟩
def closeP (left : List Nd) (r : RunP) (out : List PairP) : List Nd × List PairP := closeGo r.mn.toNat left (nd0 r) out
/-- one run more -/
def stepP (st : List Nd × List PairP) (r : RunP) : List Nd × List PairP := if r.mn ≤ 0 then st else if r.cl = true then closeP st.1 r st.2 else (nd0 r :: st.1, st.2)
def matchP (l : List RunP) : List PairP := (l.foldl stepP ([], [])).2

theorem nOf_bd {o c : Nd} (h1 : 1 ≤ o.ov) (h2 : 1 ≤ c.ov) : 1 ≤ nOf o c ∧ nOf o c ≤ 2 ∧ nOf o c ≤ o.ov ∧ nOf o c ≤ c.ov := by
  unfold nOf
  split <;> omega
theorem closeGo_more : ∀ (k : Nat) (left : List Nd) (c : Nd) (out : List PairP), (∀ x ∈ left, 1 ≤ x.ov) → 1 ≤ c.ov → c.ov ≤ k → ∀ j, k ≤ j → closeGo j left c out = closeGo k left c out := by
  intro k
  induction k with
  | zero => intro left c out hl h1 h2; omega
  | succ k ih =>
    intro left c out hl h1 h2 j hj
    obtain ⟨j, rfl⟩ : ∃ j', j = j' + 1 := ⟨j - 1, by omega⟩
    unfold closeGo
    cases hs : splitO c.r left with
    | none => rfl
    | some x =>
      obtain ⟨o, rest⟩ := x
      have hm : o ∈ left ∧ ∀ x ∈ rest, x ∈ left := by
        clear ih hj h1 h2
        induction left with
        | nil => cases hs
        | cons y l ih2 =>
          unfold splitO at hs
          split at hs
          · cases hs; exact ⟨by simp, fun x hx => by simp [hx]⟩
          · obtain ⟨h3, h4⟩ := ih2 (fun x hx => hl x (by simp [hx])) hs
            exact ⟨by simp [h3], fun x hx => by simp [h4 x hx]⟩
      have hn := nOf_bd (hl o hm.1) h1
      simp only
      split
      · rfl
      · rename_i hne
        refine ih _ _ _ ?_ ?_ ?_ j (by omega)
        · intro x hx
          unfold leftO at hx
          split at hx
          · exact hl x (hm.2 x hx)
          · rcases List.mem_cons.1 hx with rfl | hx
            · show 1 ≤ o.ov - nOf o c; omega
            · exact hl x (hm.2 x hx)
        · show 1 ≤ c.ov - nOf o c; omega
        · show c.ov - nOf o c ≤ k; omega

/-! ### Nesting -/
/-- a live run's signs stand in the text -/
structure NdOK (s : List UInt8) (x : Nd) : Prop where
  ov : 1 ≤ x.ov
  lo : 0 ≤ x.r.pl + x.fr
  hi : x.r.pl + x.fr + x.ov ≤ (s.length : Int)
  ch : x.r.ch = 42 ∨ x.r.ch = 95
  at' : ∀ j : Nat, x.r.pl + x.fr ≤ (j : Int) → (j : Int) < x.r.pl + x.fr + x.ov → ((s.getD j 0).toNat : Int) = x.r.ch
abbrev Nd.lo (x : Nd) : Int := x.r.pl + x.fr
abbrev Nd.hi (x : Nd) : Int := x.r.pl + x.fr + x.ov
/-- a pair's own -/
structure PairOK (s : List UInt8) (p : PairP) : Prop where
  mn : p.2.2 = 1 ∨ p.2.2 = 2
  lo : 0 ≤ p.1
  hi : p.2.1 ≤ (s.length : Int)
  md : p.1 + 2 * p.2.2 ≤ p.2.1
  at' : ∀ k : Nat, (k : Int) < p.2.2 → ∃ c : Int, (c = 42 ∨ c = 95) ∧ ((s.getD (p.1 + k).toNat 0).toNat : Int) = c ∧ ((s.getD (p.2.1 - 1 - k).toNat 0).toNat : Int) = c
/-- an earlier pair lies in a later one, or apart -/
def Nested (a p : PairP) : Prop := (a.1 ≥ p.1 + p.2.2 ∧ a.2.1 ≤ p.2.1 - p.2.2) ∨ (a.2.1 ≤ p.1 ∨ a.1 ≥ p.2.1)
def Off (a : PairP) (x : Nd) : Prop := a.1 ≥ x.hi ∨ a.2.1 ≤ x.lo
/-- the pairs so far -/
structure OutOK (s : List UInt8) (out : List PairP) : Prop where
  all : ∀ p ∈ out, PairOK s p
  nest : out.Pairwise Nested
/-- the live runs: the nearest first; all end ahead of a place -/
structure LeftOK (s : List UInt8) (left : List Nd) (e : Int) (out : List PairP) : Prop where
  ok : ∀ x ∈ left, NdOK s x
  ord : left.Pairwise fun a b => b.hi ≤ a.lo
  end' : ∀ x ∈ left, x.hi ≤ e
  off : ∀ x ∈ left, ∀ a ∈ out, Off a x
theorem split_some {c : RunP} : ∀ {left : List Nd} {o : Nd} {rest : List Nd}, splitO c left = some (o, rest) → suitsP o.r c = true ∧ ∃ mid, left = mid ++ o :: rest
  | [], o, rest, h => by cases h
  | x :: l, o, rest, h => by
    unfold splitO at h
    split at h
    · cases h; rename_i h; exact ⟨h, [], rfl⟩
    · obtain ⟨h1, mid, e⟩ := split_some h
      exact ⟨h1, x :: mid, by rw [e]; rfl⟩
theorem wrap_small {x : Int} (h1 : -9223372036854775808 ≤ x) (h2 : x ≤ 9223372036854775807) : W64 x = x := by
  unfold W64
  simp [IntKind.wrap, IntKind.bits, IntKind.signed]
  omega
theorem LeftOK.sub {s : List UInt8} {mid rest : List Nd} {o : Nd} {e : Int} {out : List PairP} (h : LeftOK s (mid ++ o :: rest) e out) : LeftOK s (o :: rest) e out :=
  ⟨fun x hx => h.ok x (List.mem_append_right _ hx), (List.pairwise_append.1 h.ord).2.1, fun x hx => h.end' x (List.mem_append_right _ hx), fun x hx => h.off x (List.mem_append_right _ hx)⟩
theorem close_ok {s : List UInt8} (hs : s.length ≤ 1000000) : ∀ (k : Nat) (left : List Nd) (c : Nd) (out : List PairP), LeftOK s left c.lo out → NdOK s c → (∀ a ∈ out, Off a c) → (∀ a ∈ out, a.2.1 ≤ c.hi) → OutOK s out → c.ov ≤ k →
    LeftOK s (closeGo k left c out).1 c.hi (closeGo k left c out).2 ∧ OutOK s (closeGo k left c out).2 ∧ ∀ a ∈ (closeGo k left c out).2, a.2.1 ≤ c.hi := by
  intro k
  induction k with
  | zero => intro left c out hL hc; have := hc.ov; omega
  | succ k ih =>
    intro left c out hL hc hoff hto hO hk
    have hov := hc.ov
    have hle : c.lo ≤ c.hi := by show c.r.pl + c.fr ≤ c.r.pl + c.fr + c.ov; omega
    unfold closeGo
    cases hsp : splitO c.r left with
    | none =>
      simp only
      refine ⟨?_, hO, hto⟩
      split
      · refine ⟨fun x hx => ?_, List.pairwise_cons.2 ⟨fun x hx => hL.end' x hx, hL.ord⟩, fun x hx => ?_, fun x hx => ?_⟩
        · rcases List.mem_cons.1 hx with rfl | hx
          · exact hc
          · exact hL.ok x hx
        · rcases List.mem_cons.1 hx with rfl | hx
          · exact Int.le_refl _
          · exact Int.le_trans (hL.end' x hx) hle
        · rcases List.mem_cons.1 hx with rfl | hx
          · exact hoff
          · exact hL.off x hx
      · exact ⟨hL.ok, hL.ord, fun x hx => Int.le_trans (hL.end' x hx) hle, hL.off⟩
    | some x =>
      obtain ⟨o, rest⟩ := x
      simp only
      obtain ⟨hsu, mid, rfl⟩ := split_some hsp
      have hR := hL.sub
      have ho := hR.ok o (by simp)
      have hoe := hR.end' o (by simp)
      have hn := nOf_bd ho.ov hc.ov
      have h12 : nOf o c = 1 ∨ nOf o c = 2 := by unfold nOf; split <;> simp
      have hch : o.r.ch = c.r.ch := by
        unfold suitsP at hsu
        simp only [Bool.and_eq_true, decide_eq_true_eq] at hsu
        exact hsu.1
      have ho1 := ho.lo
      have ho2 := ho.hi
      have hc1 := hc.lo
      have hc2 := hc.hi
      have hov2 := ho.ov
      have hoe' : o.r.pl + o.fr + o.ov ≤ c.r.pl + c.fr := hoe
      have ep : pairOf o c = (o.r.pl + o.fr + (o.ov - nOf o c), c.r.pl + (c.fr + nOf o c), nOf o c) := by
        unfold pairOf
        rw [wrap_small (by omega) (by omega), wrap_small (by omega) (by omega)]
      rw [show leftO o c rest = (if o.ov - nOf o c = 0 then rest else ⟨o.r, o.fr, o.ov - nOf o c⟩ :: rest) from rfl, show nextC o c = ⟨c.r, c.fr + nOf o c, c.ov - nOf o c⟩ from rfl]
      generalize hp : pairOf o c = p at *
      generalize nOf o c = n at *
      have p1 : p.1 = o.r.pl + o.fr + (o.ov - n) := by rw [ep]
      have p2 : p.2.1 = c.r.pl + (c.fr + n) := by rw [ep]
      have p3 : p.2.2 = n := by rw [ep]
      have hpok : PairOK s p := by
        refine ⟨by rw [p3]; exact h12, by omega, by omega, by omega, fun k hk => ⟨o.r.ch, ho.ch, ?_, ?_⟩⟩
        · refine ho.at' _ ?_ ?_ <;> omega
        · rw [hch]; refine hc.at' _ ?_ ?_ <;> omega
      have hO' : OutOK s (out ++ [p]) := by
        refine ⟨fun a ha => ?_, List.pairwise_append.2 ⟨hO.nest, List.pairwise_singleton _ _, fun a ha b hb => ?_⟩⟩
        · rcases List.mem_append.1 ha with ha | ha
          · exact hO.all a ha
          · rw [List.mem_singleton] at ha; subst ha; exact hpok
        · rw [List.mem_singleton] at hb; subst hb
          have h1 : Off a o := hR.off o (by simp) a ha
          have h2 : Off a c := hoff a ha
          unfold Off Nd.hi Nd.lo at h1 h2
          unfold Nested
          omega
      have hto' : ∀ a ∈ out ++ [p], a.2.1 ≤ c.hi := fun a ha => by
        rcases List.mem_append.1 ha with ha | ha
        · exact hto a ha
        · rw [List.mem_singleton] at ha; subst ha
          show a.2.1 ≤ c.r.pl + c.fr + c.ov
          omega
      have hoffr : ∀ x ∈ rest, ∀ a ∈ out ++ [p], Off a x := fun x hx a ha => by
        rcases List.mem_append.1 ha with ha | ha
        · exact hR.off x (by simp [hx]) a ha
        · rw [List.mem_singleton] at ha; subst ha
          have : x.r.pl + x.fr + x.ov ≤ o.r.pl + o.fr := (List.pairwise_cons.1 hR.ord).1 x hx
          unfold Off Nd.hi Nd.lo
          omega
      have hL' : ∀ e, c.lo ≤ e → LeftOK s (if o.ov - n = 0 then rest else ⟨o.r, o.fr, o.ov - n⟩ :: rest) e (out ++ [p]) := by
        intro e he
        have he' : c.r.pl + c.fr ≤ e := he
        split
        · exact ⟨fun x hx => hR.ok x (by simp [hx]), (List.pairwise_cons.1 hR.ord).2, fun x hx => Int.le_trans (hR.end' x (by simp [hx])) he, hoffr⟩
        · rename_i hne
          refine ⟨fun x hx => ?_, List.pairwise_cons.2 ⟨(List.pairwise_cons.1 hR.ord).1, (List.pairwise_cons.1 hR.ord).2⟩, fun x hx => ?_, fun x hx => ?_⟩
          · rcases List.mem_cons.1 hx with rfl | hx
            · refine ⟨show 1 ≤ o.ov - n by omega, ho1, show o.r.pl + o.fr + (o.ov - n) ≤ _ by omega, ho.ch, fun j h1 h2 => ho.at' j h1 ?_⟩
              have : (j : Int) < o.r.pl + o.fr + (o.ov - n) := h2
              omega
            · exact hR.ok x (by simp [hx])
          · rcases List.mem_cons.1 hx with rfl | hx
            · show o.r.pl + o.fr + (o.ov - n) ≤ e; omega
            · exact Int.le_trans (hR.end' x (by simp [hx])) he
          · rcases List.mem_cons.1 hx with rfl | hx
            · intro a ha
              rcases List.mem_append.1 ha with ha | ha
              · have h1 : Off a o := hR.off o (by simp) a ha
                unfold Off Nd.hi Nd.lo at *
                show a.1 ≥ o.r.pl + o.fr + (o.ov - n) ∨ a.2.1 ≤ o.r.pl + o.fr
                omega
              · rw [List.mem_singleton] at ha; subst ha
                show a.1 ≥ o.r.pl + o.fr + (o.ov - n) ∨ a.2.1 ≤ o.r.pl + o.fr
                omega
            · exact hoffr x hx
      split
      · exact ⟨hL' _ hle, hO', hto'⟩
      · rename_i hne
        have hok' : NdOK s ⟨c.r, c.fr + n, c.ov - n⟩ := by
          refine ⟨show 1 ≤ c.ov - n by omega, show 0 ≤ c.r.pl + (c.fr + n) by omega, show c.r.pl + (c.fr + n) + (c.ov - n) ≤ _ by omega, hc.ch, fun j h1 h2 => hc.at' j ?_ ?_⟩
          · have h1 : c.r.pl + (c.fr + n) ≤ (j : Int) := h1
            omega
          · have h2 : (j : Int) < c.r.pl + (c.fr + n) + (c.ov - n) := h2
            omega
        have hoff' : ∀ a ∈ out ++ [p], Off a ⟨c.r, c.fr + n, c.ov - n⟩ := fun a ha => by
          rcases List.mem_append.1 ha with ha | ha
          · have h2 : Off a c := hoff a ha
            unfold Off Nd.hi Nd.lo at *
            show a.1 ≥ c.r.pl + (c.fr + n) + (c.ov - n) ∨ a.2.1 ≤ c.r.pl + (c.fr + n)
            omega
          · rw [List.mem_singleton] at ha; subst ha
            unfold Off Nd.hi Nd.lo
            show a.1 ≥ c.r.pl + (c.fr + n) + (c.ov - n) ∨ a.2.1 ≤ c.r.pl + (c.fr + n)
            omega
        have e : (⟨c.r, c.fr + n, c.ov - n⟩ : Nd).hi = c.hi := by show c.r.pl + (c.fr + n) + (c.ov - n) = c.r.pl + c.fr + c.ov; omega
        have := ih _ ⟨c.r, c.fr + n, c.ov - n⟩ (out ++ [p]) (hL' (c.r.pl + (c.fr + n)) (by show c.r.pl + c.fr ≤ _; omega)) hok' hoff' (fun a ha => by rw [e]; exact hto' a ha) hO' (by show c.ov - n ≤ k; omega)
        rwa [e] at this
/-- a run of a text's own -/
structure RunOK (s : List UInt8) (r : RunP) : Prop where
  mn : 1 ≤ r.mn
  lo : 0 ≤ r.pl
  hi : r.pl + r.mn ≤ (s.length : Int)
  ch : r.ch = 42 ∨ r.ch = 95
  at' : ∀ j : Nat, r.pl ≤ (j : Int) → (j : Int) < r.pl + r.mn → ((s.getD j 0).toNat : Int) = r.ch
theorem match_ok {s : List UInt8} (hs : s.length ≤ 1000000) : ∀ (l : List RunP) (left : List Nd) (out : List PairP) (e : Int), (∀ r ∈ l, RunOK s r ∧ e ≤ r.pl) → (l.Pairwise fun a b => a.pl + a.mn ≤ b.pl) → LeftOK s left e out → (∀ a ∈ out, a.2.1 ≤ e) → OutOK s out →
    OutOK s (l.foldl stepP (left, out)).2
  | [], left, out, e, _, _, _, _, hO => hO
  | r :: l, left, out, e, hr, hp, hL, hto, hO => by
    obtain ⟨h1, h2⟩ := hr r (by simp)
    have hmn := h1.mn
    have hp' := List.pairwise_cons.1 hp
    have hnd : NdOK s (nd0 r) := ⟨h1.mn, show 0 ≤ r.pl + 0 by have := h1.lo; omega, show r.pl + 0 + r.mn ≤ _ by have := h1.hi; omega, h1.ch, fun j ha hb => h1.at' j (by have ha : r.pl + 0 ≤ (j : Int) := ha; omega) (by have hb : (j : Int) < r.pl + 0 + r.mn := hb; omega)⟩
    have elo : (nd0 r).lo = r.pl := by show r.pl + 0 = r.pl; omega
    have ehi : (nd0 r).hi = r.pl + r.mn := by show r.pl + 0 + r.mn = _; omega
    have hoff : ∀ a ∈ out, Off a (nd0 r) := fun a ha => .inr (by rw [elo]; exact Int.le_trans (hto a ha) h2)
    have hto' : ∀ a ∈ out, a.2.1 ≤ (nd0 r).hi := fun a ha => by have := hto a ha; rw [ehi]; omega
    have hL0 : LeftOK s left (nd0 r).lo out := ⟨hL.ok, hL.ord, fun x hx => by rw [elo]; exact Int.le_trans (hL.end' x hx) h2, hL.off⟩
    have hrest : ∀ q ∈ l, RunOK s q ∧ (nd0 r).hi ≤ q.pl := fun q hq => ⟨(hr q (by simp [hq])).1, by rw [ehi]; exact hp'.1 q hq⟩
    rw [List.foldl_cons]
    unfold stepP
    rw [if_neg (by omega)]
    split
    · have hc := close_ok hs r.mn.toNat left (nd0 r) out hL0 hnd hoff hto' hO (by show r.mn ≤ _; omega)
      exact match_ok hs l _ _ _ hrest hp'.2 hc.1 hc.2.2 hc.2.1
    · refine match_ok hs l (nd0 r :: left) out (nd0 r).hi hrest hp'.2 ⟨fun x hx => ?_, List.pairwise_cons.2 ⟨fun x hx => hL0.end' x hx, hL.ord⟩, fun x hx => ?_, fun x hx => ?_⟩ hto' hO
      · rcases List.mem_cons.1 hx with rfl | hx
        · exact hnd
        · exact hL.ok x hx
      · rcases List.mem_cons.1 hx with rfl | hx
        · exact Int.le_refl _
        · have := hL.end' x hx; rw [ehi]; omega
      · rcases List.mem_cons.1 hx with rfl | hx
        · exact hoff
        · exact hL.off x hx
end Go.Proofs
