/- tokens in memory; how much is looked at (Tokens). No condition. -/
import Derived.Test.YtmnjhhgdhlgjfaaGreatDoC
import Derived.Test.YtmnjhhgdhlgjfaaGreatTxD
namespace Go.Proofs
open Go Go.Sh
set_option linter.unusedVariables false
set_option maxRecDepth 100000
abbrev TokP := Int × Bs × List AttrP × Bool × Bs
abbrev elTok : El TokP := elPair (elInt .u8) (elPair elStr (elPair (elSl elAttr) (elPair elBool elStr)))
abbrev tokCells (x : TokP) (b : Option Addr) (n c : Nat) : List Value := [.int .u8 x.1, S x.2.1, .slice b n c, .bool x.2.2.2.1, S x.2.2.2.2]
structure TokC (A : Nat → Prop) (h : H) (a : Addr) (x : TokP) (b : Option Addr) (n c : Nat) : Prop where
  c0 : cell h (a.add 0) = some (.int .u8 x.1)
  c1 : cell h (a.add 1) = some (S x.2.1)
  c2 : cell h (a.add 2) = some (.slice b n c)
  c3 : cell h (a.add 3) = some (.bool x.2.2.2.1)
  c4 : cell h (a.add 4) = some (S x.2.2.2.2)
  row : Row elAttr A h b n c x.2.2.1
  nil : b = none → c = 0
  rk : Rng .u8 x.1
  rn : x.2.1.length ≤ maxLen
  rt : x.2.2.2.2.length ≤ maxLen
section
variable {A : Nat → Prop} {h : H} {a : Addr} {x : TokP}
theorem tokAt (hA : At elTok A h a x) : ∃ b n c, TokC A h a x b n c := by
  have h2 := hA.snd.sndAt (k := 2) rfl
  have h3 := h2.sndAt (k := 3) rfl
  obtain ⟨b, n, c, e, r, hz⟩ := h2.fst.sl
  exact ⟨b, n, c, hA.fst.int.1, hA.snd.fst.str.1, e, h3.fst.bool, (h3.sndAt (k := 4) rfl).str.1, r, hz, hA.fst.int.2, hA.snd.fst.str.2, (h3.sndAt (k := 4) rfl).str.2⟩
theorem tokR {b : Option Addr} {n c : Nat} (r : Row elAttr A h b n c x.2.2.1) (hz : b = none → c = 0) (rk : Rng .u8 x.1) (rn : x.2.1.length ≤ maxLen) (rt : x.2.2.2.2.length ≤ maxLen) : elTok.R A h x (tokCells x b n c) :=
  ⟨[.int .u8 x.1], _, rfl, ⟨rfl, rk⟩, [S x.2.1], _, rfl, ⟨rfl, rn⟩, [.slice b n c], _, rfl, ⟨b, n, c, rfl, r, hz⟩, [.bool x.2.2.2.1], _, rfl, rfl, rfl, rt⟩
end
/-! ### plain -/
def attW (a : AttrP) : Nat := 1 + a.1.length / 8 + a.2.length / 8
def attsW (l : List AttrP) : Nat := (l.map attW).sum
def tokW (x : TokP) : Nat := 1 + x.2.2.2.2.length / 8 + x.2.1.length / 8 + attsW x.2.2.1
def toksW (l : List TokP) : Nat := (l.map tokW).sum
theorem attsW_mem {l : List AttrP} {a : AttrP} (h : a ∈ l) : attW a ≤ attsW l := by
  induction l with
  | nil => cases h
  | cons b l ih =>
    unfold attsW at ih ⊢
    rw [List.map_cons, List.sum_cons]
    rcases List.mem_cons.1 h with rfl | h
    · omega
    · have := ih h; omega
theorem attsW_len (l : List AttrP) : l.length ≤ attsW l := by
  induction l with
  | nil => exact Nat.le_refl _
  | cons b l ih =>
    unfold attsW at ih ⊢
    rw [List.map_cons, List.sum_cons, List.length_cons]
    have : 1 ≤ attW b := by unfold attW; omega
    omega
theorem attsW_drop (l : List AttrP) {i : Nat} (h : i < l.length) : attsW (l.drop i) = attW l[i] + attsW (l.drop (i + 1)) := by
  rw [List.drop_eq_getElem_cons h]; rfl
theorem toksW_drop (l : List TokP) {i : Nat} (h : i < l.length) : toksW (l.drop i) = tokW l[i] + toksW (l.drop (i + 1)) := by
  rw [List.drop_eq_getElem_cons h]; rfl
theorem tdiv8 (n : Nat) : Int.tdiv (n : Int) (8 : Int) = ((n / 8 : Nat) : Int) := rfl
/-- what is little: its parts are short -/
theorem tokW_small {x : TokP} {m : Nat} (h : tokW x ≤ m) : x.2.1.length ≤ 8 * m ∧ x.2.2.2.2.length ≤ 8 * m ∧ x.2.2.1.length ≤ m ∧ ∀ a ∈ x.2.2.1, a.1.length ≤ 8 * m ∧ a.2.length ≤ 8 * m := by
  unfold tokW at h
  refine ⟨by omega, by omega, by have := attsW_len x.2.2.1; omega, fun a ha => ?_⟩
  have := attsW_mem ha
  unfold attW at this
  omega
section
variable {A : Nat → Prop} {h : H} {K : Value → H → Prop} {b : Option Addr} {n c : Nat} {l : List TokP}
theorem rngW {n : Int} (h1 : -9223372036854775808 ≤ n) (h2 : n ≤ 9223372036854775807) : Rng .i64 n := ⟨h1, h2⟩
theorem tokens_calls (R : Row elTok A h b n c l) {lim : Nat} (hlim : lim ≤ 1000000) (hk : ∀ v : Int, 0 ≤ v → v ≤ 5000000000000000000 → (0 < n → 1 ≤ v) → (v ≤ lim → v = toksW l) → K (.int .i64 v) h) : HCalls Tryz.prog 23 ⟨[.slice b n c, .int .i64 lim]⟩ h K := by
  have hl := R.len
  have hmx : n ≤ maxLen := Nat.le_trans R.cap R.max
  simp only [maxLen] at hmx
  refine Sx.r00_Tokens.ok _ _ _ _ _ _ ⟨n + 1, ?_⟩
  have key : ∀ N i (w : Int), i + N = n → 0 ≤ w → w ≤ 5000000000000000000 → (0 < i → 1 ≤ w) → (w ≤ lim → w = toksW (l.take i)) →
      Sx.r00_Tokens.n7_L (fun z5 h => Sx.r00_Tokens.n4 z5 (fun y4 h => K (.int .i64 y4) h) (fun y4 h => K (.int .i64 y4) h) h) (fun z5 h => Sx.r00_Tokens.n4 z5 (fun y4 h => K (.int .i64 y4) h) (fun y4 h => K (.int .i64 y4) h) h) (fun y4 h => K (.int .i64 y4) h) (N + 1) b n c (lim : Int) w (i : Int) h := by
    intro N
    induction N with
    | zero =>
      intro i w hi w0 w1 wi hw
      refine splF (by omega) (hk w w0 w1 (fun h0 => wi (by omega)) fun hle => ?_)
      have := hw hle
      rwa [List.take_of_length_le (by omega)] at this
    | succ N ih =>
      intro i w hi w0 w1 wi hw
      have hil : i < l.length := by omega
      refine splT (by omega) (spl (fun hle => ?_) fun hgt => ?_)
      · have hw := hw hle
        -- the token's own
        refine R.idxN hil rfl fun q hA => ?_
        obtain ⟨ab, an, ac, C⟩ := tokAt hA
        have htl : l[i].2.2.2.2.length ≤ 9223372036854775807 := by have := C.rt; simp only [maxLen] at this; exact this
        have hnl : l[i].2.1.length ≤ 9223372036854775807 := by have := C.rn; simp only [maxLen] at this; exact this
        refine ⟨_, C.c4, by decide, rngW (by rw [tdiv8]; omega) (by rw [tdiv8]; omega), rngW (by rw [tdiv8]; omega) (by rw [tdiv8]; omega), ?_⟩
        refine R.idxN hil rfl fun q2 hA2 => ?_
        obtain ⟨ab2, an2, ac2, C2⟩ := tokAt hA2
        refine ⟨_, C2.c1, by decide, rngW (by rw [tdiv8]; omega) (by rw [tdiv8]; omega), rngW (by rw [tdiv8, tdiv8]; omega) (by rw [tdiv8, tdiv8]; omega), rngW (by rw [tdiv8, tdiv8]; omega) (by rw [tdiv8, tdiv8]; omega), ?_⟩
        rw [tdiv8, tdiv8]
        have ew : (w + ((1 : Int) + ((l[i].2.2.2.2.length / 8 : Nat) : Int) + ((l[i].2.1.length / 8 : Nat) : Int))) = ((toksW (l.take i) + (1 + l[i].2.2.2.2.length / 8 + l[i].2.1.length / 8) : Nat) : Int) := by rw [hw]; omega
        rw [ew]
        have hal := C.row.len
        have hamx : an ≤ maxLen := Nat.le_trans C.row.cap C.row.max
        simp only [maxLen] at hamx
        have inner : ∀ M j (v : Int), j + M = l[i].2.2.1.length → 1 ≤ v → v ≤ 5000000000000000000 → (v ≤ lim → v = ((toksW (l.take i) + (1 + l[i].2.2.2.2.length / 8 + l[i].2.1.length / 8) + attsW (l[i].2.2.1.take j) : Nat) : Int)) →
            Sx.r00_Tokens.n15_L (fun z0b z0n z0c z1 z5 z6 h => Sx.r00_Tokens.n10 z0b z0n z0c z1 z5 z6 (fun z0b z0n z0c z1 z5 z6 h => Sx.r00_Tokens.n7_L (fun z5 h => Sx.r00_Tokens.n4 z5 (fun y4 h => K (.int .i64 y4) h) (fun y4 h => K (.int .i64 y4) h) h) (fun z5 h => Sx.r00_Tokens.n4 z5 (fun y4 h => K (.int .i64 y4) h) (fun y4 h => K (.int .i64 y4) h) h) (fun y4 h => K (.int .i64 y4) h) (N + 1) z0b z0n z0c z1 z5 z6 h) (fun z5 h => Sx.r00_Tokens.n4 z5 (fun y4 h => K (.int .i64 y4) h) (fun y4 h => K (.int .i64 y4) h) h) (fun y4 h => K (.int .i64 y4) h) h)
              (fun z0b z0n z0c z1 z5 z6 h => Sx.r00_Tokens.n10 z0b z0n z0c z1 z5 z6 (fun z0b z0n z0c z1 z5 z6 h => Sx.r00_Tokens.n7_L (fun z5 h => Sx.r00_Tokens.n4 z5 (fun y4 h => K (.int .i64 y4) h) (fun y4 h => K (.int .i64 y4) h) h) (fun z5 h => Sx.r00_Tokens.n4 z5 (fun y4 h => K (.int .i64 y4) h) (fun y4 h => K (.int .i64 y4) h) h) (fun y4 h => K (.int .i64 y4) h) (N + 1) z0b z0n z0c z1 z5 z6 h) (fun z5 h => Sx.r00_Tokens.n4 z5 (fun y4 h => K (.int .i64 y4) h) (fun y4 h => K (.int .i64 y4) h) h) (fun y4 h => K (.int .i64 y4) h) h)
              (fun z0b z0n z0c z1 z5 z6 h => Sx.r00_Tokens.n10 z0b z0n z0c z1 z5 z6 (fun z0b z0n z0c z1 z5 z6 h => Sx.r00_Tokens.n7_L (fun z5 h => Sx.r00_Tokens.n4 z5 (fun y4 h => K (.int .i64 y4) h) (fun y4 h => K (.int .i64 y4) h) h) (fun z5 h => Sx.r00_Tokens.n4 z5 (fun y4 h => K (.int .i64 y4) h) (fun y4 h => K (.int .i64 y4) h) h) (fun y4 h => K (.int .i64 y4) h) (N + 1) z0b z0n z0c z1 z5 z6 h) (fun z5 h => Sx.r00_Tokens.n4 z5 (fun y4 h => K (.int .i64 y4) h) (fun y4 h => K (.int .i64 y4) h) h) (fun y4 h => K (.int .i64 y4) h) h)
              (fun z5 h => Sx.r00_Tokens.n4 z5 (fun y4 h => K (.int .i64 y4) h) (fun y4 h => K (.int .i64 y4) h) h) (fun y4 h => K (.int .i64 y4) h) (M + 1) b n c (lim : Int) v (i : Int) (j : Int) h := by
          intro M
          have fin : ∀ v : Int, 1 ≤ v → v ≤ 5000000000000000000 → (v ≤ lim → v = ((toksW (l.take i) + tokW l[i] : Nat) : Int)) →
              Rng .i64 ((i : Int) + 1) ∧ Sx.r00_Tokens.n7_L (fun z5 h => Sx.r00_Tokens.n4 z5 (fun y4 h => K (.int .i64 y4) h) (fun y4 h => K (.int .i64 y4) h) h) (fun z5 h => Sx.r00_Tokens.n4 z5 (fun y4 h => K (.int .i64 y4) h) (fun y4 h => K (.int .i64 y4) h) h) (fun y4 h => K (.int .i64 y4) h) (N + 1) b n c (lim : Int) v ((i : Int) + 1) h := fun v v0 v1 hv =>
            ⟨rngW (by omega) (by omega), ih (i + 1) v (by omega) (by omega) v1 (fun _ => v0) fun hle => by
              rw [hv hle]
              congr 1
              rw [List.take_add_one, List.getElem?_eq_getElem hil]
              unfold toksW
              rw [List.map_append, List.sum_append]
              simp⟩
          induction M with
          | zero =>
            intro j v hj v0 v1 hv
            refine R.idxN hil rfl fun q3 hA3 => ?_
            obtain ⟨ab3, an3, ac3, C3⟩ := tokAt hA3
            have h3l := C3.row.len
            refine ⟨_, _, _, C3.c2, splF (by omega) (fin v v0 v1 fun hle => ?_)⟩
            rw [hv hle, List.take_of_length_le (l := l[i].2.2.1) (i := j) (by omega)]
            unfold tokW
            omega
          | succ M ihM =>
            intro j v hj v0 v1 hv
            have hjl : j < l[i].2.2.1.length := by omega
            refine R.idxN hil rfl fun q3 hA3 => ?_
            obtain ⟨ab3, an3, ac3, C3⟩ := tokAt hA3
            have h3l := C3.row.len
            refine ⟨_, _, _, C3.c2, splT (by omega) (spl (fun hle2 => ?_) fun hgt2 => fin v v0 v1 fun hle => absurd hle hgt2)⟩
            refine R.idxN hil rfl fun q4 hA4 => ?_
            obtain ⟨ab4, an4, ac4, C4⟩ := tokAt hA4
            refine ⟨_, _, _, C4.c2, C4.row.idxN hjl rfl fun q5 hA5 => ⟨_, hA5.fst.str.1, by decide, ?_⟩⟩
            have l1 : l[i].2.2.1[j].1.length ≤ 9223372036854775807 := by have := hA5.fst.str.2; simp only [maxLen] at this; exact this
            have l2 : l[i].2.2.1[j].2.length ≤ 9223372036854775807 := by have := hA5.snd.str.2; simp only [maxLen] at this; exact this
            rw [tdiv8]
            refine ⟨rngW (by omega) (by omega), rngW (by omega) (by omega), ?_⟩
            refine R.idxN hil rfl fun q6 hA6 => ?_
            obtain ⟨ab6, an6, ac6, C6⟩ := tokAt hA6
            refine ⟨_, _, _, C6.c2, C6.row.idxN hjl rfl fun q7 hA7 => ⟨_, hA7.snd.str.1, by decide, ?_⟩⟩
            rw [tdiv8]
            refine ⟨rngW (by omega) (by omega), rngW (by omega) (by omega), rngW (by omega) (by omega), rngW (by omega) (by omega), ihM (j + 1) _ (by omega) (by omega) (by omega) fun hle => ?_⟩
            have hv := hv hle2
            rw [hv, List.take_add_one, List.getElem?_eq_getElem hjl]
            have : attsW (l[i].2.2.1.take j ++ (some l[i].2.2.1[j]).toList) = attsW (l[i].2.2.1.take j) + attW l[i].2.2.1[j] := by
              unfold attsW; rw [List.map_append, List.sum_append]; simp
            rw [this]
            unfold attW
            omega
        refine ⟨l[i].2.2.1.length + 1, ?_⟩
        exact inner l[i].2.2.1.length 0 _ (by omega) (by omega) (by omega) fun hle => by
          rw [List.take_zero]; rfl
      · refine hk w w0 w1 (fun h0 => ?_) fun hle => absurd hle hgt
        omega
  exact key n 0 0 (by omega) (by omega) (by omega) (fun h0 => absurd h0 (Nat.lt_irrefl _)) fun _ => by rw [List.take_zero]; rfl
end
end Go.Proofs
