/- Plain facts about the layer 'note' (comments and their like): what Read and Begins compute, as functions on lists of bytes; no program in sight. -/
import Derived.Lib.CutLaws
import Derived.Lib.IndexLaws
namespace Ty
open Go.Lib

abbrev B := List UInt8

def isLetter (c : UInt8) : Bool := (97 ≤ c && c ≤ 122) || (65 ≤ c && c ≤ 90)
def lowc (c : UInt8) : UInt8 := if 65 ≤ c && c ≤ 90 then c + 32 else c
def lowB (l : B) : B := l.map lowc

/-- does w stand at place i of l? -/
def atB (l : B) (i : Int) (w : B) : Bool := decide (0 ≤ i) && occAt l w i.toNat

/-- no letter at a place at which there is a byte -/
def noLetterAt (l : B) (k : Nat) : Bool := match l[k]? with | some c => !isLetter c | none => false

def begins (l : B) (i : Int) : Bool :=
  atB l i [60, 33] || atB l i [60, 63] || (atB l i [60, 47] && noLetterAt l (i.toNat + 2))

/-- what stands ahead of a sign, and how many bytes that is with it -/
def upTo (l sub : B) : B × Nat :=
  if 0 ≤ index l sub then (l.take (index l sub).toNat, (index l sub).toNat + sub.length) else (l, l.length)

def endA : B := [45, 45, 62]          -- -->
def endB : B := [45, 45, 33, 62]      -- --!>

/-- a comment that does not end: its text -/
def tailText (l : B) : B :=
  if hasSuffix l [45, 45, 33] then l.take (l.length - 3)
  else if hasSuffix l [45, 45] then l.take (l.length - 2)
  else if hasSuffix l [45] then l.take (l.length - 1)
  else l

/-- a comment's text behind its beginning, and how many bytes up to its end -/
def comment (l : B) : B × Nat :=
  if hasPrefix l [62] then ([], 1)
  else if hasPrefix l [45, 62] then ([], 2)
  else if (upTo l endA).1.length < (upTo l endB).1.length then upTo l endA
  else if (upTo l endB).1.length < (upTo l endA).1.length then upTo l endB
  else (tailText l, l.length)

def sNote : B := [60, 33, 45, 45]                             -- <!--
def sDoc : B := [60, 33, 100, 111, 99, 116, 121, 112, 101]    -- <!doctype
def sCdata : B := [60, 33, 91, 67, 68, 65, 84, 65, 91]        -- <![CDATA[
def sCdEnd : B := [93, 93, 62]                                -- ]]>
def sNone : B := [60, 47, 62]                                 -- </>
def sGt : B := [62]

/-- what begins at the front of l (something does): its kind, its text, how many bytes -/
def read1 (l : B) (cd : Bool) : Nat × B × Nat :=
  if hasPrefix l sNote then (4, (comment (l.drop 4)).1, 4 + (comment (l.drop 4)).2)
  else if decide (9 ≤ l.length) && (lowB (l.take 9) == sDoc) then (5, [], 9 + (upTo (l.drop 9) sGt).2)
  else if cd && hasPrefix l sCdata then (1, (upTo (l.drop 9) sCdEnd).1, 9 + (upTo (l.drop 9) sCdEnd).2)
  else if hasPrefix l sNone then (0, [], 3)
  else if l[1]? == some 63 then (4, (upTo (l.drop 1) sGt).1, 1 + (upTo (l.drop 1) sGt).2)
  else (4, (upTo (l.drop 2) sGt).1, 2 + (upTo (l.drop 2) sGt).2)

def read (l : B) (i : Int) (cd : Bool) : Nat × B × Int :=
  if begins l i then ((read1 (l.drop i.toNat) cd).1, (read1 (l.drop i.toNat) cd).2.1, i + (read1 (l.drop i.toNat) cd).2.2)
  else (0, [], i)

/- the chapter's examples, as bytes -/
def exA : B := [60, 33, 45, 45, 97, 45, 45, 33, 62, 98]                                  -- <!--a--!>b
def exB : B := [60, 33, 91, 67, 68, 65, 84, 65, 91, 120, 93, 93, 62]                     -- <![CDATA[x]]>
def exD : B := [60, 33, 68, 111, 99, 84, 121, 112, 101, 32, 120, 62]                     -- <!DocType x>

theorem read_exA : read exA 0 false = (4, [97], 9) := by decide
theorem read_exB : read exB 0 true = (1, [120], 13) := by decide
theorem read_exC : read [60, 47, 62] 0 false = (0, [], 3) := by decide
theorem read_exD : read exD 0 false = (5, [], 12) := by decide
theorem begins_exE : begins [60, 63] 0 = true := by decide
theorem begins_exF : begins [60, 47, 97] 0 = false := by decide

theorem occAt_drop (l sub : B) (i j : Nat) : occAt (l.drop i) sub j = occAt l sub (i + j) := by
  unfold occAt; rw [List.drop_drop]

theorem occAt_len {l sub : B} {k : Nat} (h : occAt l sub k = true) (hs : sub ≠ []) : k + sub.length ≤ l.length := by
  rcases occAt_room h with h' | h'
  · exact h'
  · exact absurd h' hs

/-- found: the first place from i on -/
theorem upTo_found {l sub : B} {i k : Nat} (hi : i ≤ k) (hk : k ≤ l.length) (hn : ∀ j, i ≤ j → j < k → occAt l sub j = false) (ho : occAt l sub k = true) :
    upTo (l.drop i) sub = ((l.drop i).take (k - i), k - i + sub.length) := by
  have e : index (l.drop i) sub = ((k - i : Nat) : Int) := index_hit (i := k - i) (fun j hj => by rw [occAt_drop]; exact hn _ (by omega) (by omega)) (by rw [List.length_drop]; omega) (by rw [occAt_drop]; rw [show i + (k - i) = k from by omega]; exact ho)
  unfold upTo
  rw [e, if_pos (by omega), Int.toNat_natCast]

theorem upTo_none {l sub : B} {i : Nat} (hs : sub ≠ []) (hn : ∀ j, i ≤ j → j < l.length → occAt l sub j = false) :
    upTo (l.drop i) sub = (l.drop i, (l.drop i).length) := by
  have e : index (l.drop i) sub = -1 := by
    refine index_none fun j hj => ?_
    rw [occAt_drop]
    by_cases h : i + j < l.length
    · exact hn _ (by omega) h
    · cases ho : occAt l sub (i + j) with
      | false => rfl
      | true =>
        have h1 := occAt_len ho hs
        have h2 : 0 < sub.length := List.length_pos_iff.2 hs
        omega
  unfold upTo
  rw [e, if_neg (by omega)]

theorem hasPrefix_drop (l sub : B) (i : Nat) : hasPrefix (l.drop i) sub = occAt l sub i := rfl

theorem upTo_len_le (l sub : B) : (upTo l sub).1.length ≤ l.length ∧ (upTo l sub).2 ≤ l.length := by
  unfold upTo
  split
  · rename_i h
    have hr := index_room l sub h
    exact ⟨by simp; omega, by simp only []; omega⟩
  · exact ⟨Nat.le_refl _, Nat.le_refl _⟩

/-- both signs cannot begin at one place -/
theorem endAB {l : B} {k : Nat} (h : occAt l endA k = true) : occAt l endB k = false := by
  unfold occAt endA endB at *
  generalize l.drop k = m at *
  match m, h with
  | [], h => simp at h
  | [a], h => simp [List.isPrefixOf] at h
  | [a, b], h => simp [List.isPrefixOf] at h
  | a :: b :: c :: t, h =>
    simp [List.isPrefixOf] at h ⊢
    intro _ _ h3
    rw [← h.2.2] at h3
    exact absurd h3 (by decide)

/-- the document's search for a comment's end -/
theorem comment_A {l : B} {i k : Nat} (hi : i ≤ k) (hk : k ≤ l.length) (hA : ∀ j, i ≤ j → j < k → occAt l endA j = false) (hB : ∀ j, i ≤ j → j < k → occAt l endB j = false) (ho : occAt l endA k = true)
    (h1 : occAt l [62] i = false) (h2 : occAt l [45, 62] i = false) : comment (l.drop i) = ((l.drop i).take (k - i), k - i + 3) := by
  have eA := upTo_found hi hk hA ho
  have hlen := occAt_len ho (by decide)
  have hl3 : endA.length = 3 := rfl
  have hlt : (upTo (l.drop i) endA).1.length < (upTo (l.drop i) endB).1.length := by
    rw [eA]
    have : ((l.drop i).take (k - i)).length = k - i := by rw [List.length_take, List.length_drop]; omega
    simp only [this]
    unfold upTo
    split
    · rename_i hx
      obtain ⟨m, hm, hm1, hm2, hm3⟩ : ∃ m : Nat, index (l.drop i) endB = m ∧ m ≤ (l.drop i).length ∧ occAt (l.drop i) endB m = true ∧ NoOcc (l.drop i) endB m := by
        rcases index_spec (l.drop i) endB with ⟨h, _⟩ | h
        · omega
        · exact h
      rw [occAt_drop] at hm2
      rw [List.length_drop] at hm1
      have hkm : k < i + m := by
        rcases Nat.lt_trichotomy k (i + m) with h | h | h
        · exact h
        · rw [← h] at hm2; rw [endAB ho] at hm2; exact absurd hm2 (by decide)
        · rw [hB (i + m) (by omega) h] at hm2; exact absurd hm2 (by decide)
      simp only [hm, Int.toNat_natCast, List.length_take, List.length_drop]
      omega
    · simp only [List.length_drop]; omega
  unfold comment
  rw [hasPrefix_drop, hasPrefix_drop, h1, h2, if_neg (by decide), if_neg (by decide), if_pos hlt, eA]
  rfl

theorem comment_B {l : B} {i k : Nat} (hi : i ≤ k) (hk : k ≤ l.length) (hA : ∀ j, i ≤ j → j < k → occAt l endA j = false) (hB : ∀ j, i ≤ j → j < k → occAt l endB j = false) (ho : occAt l endB k = true)
    (h1 : occAt l [62] i = false) (h2 : occAt l [45, 62] i = false) : comment (l.drop i) = ((l.drop i).take (k - i), k - i + 4) := by
  have eB := upTo_found hi hk hB ho
  have hlen := occAt_len ho (by decide)
  have hl4 : endB.length = 4 := rfl
  have hnA : occAt l endA k = false := by
    cases h : occAt l endA k with
    | false => rfl
    | true => rw [endAB h] at ho; exact absurd ho (by decide)
  have hlt : (upTo (l.drop i) endB).1.length < (upTo (l.drop i) endA).1.length := by
    rw [eB]
    have : ((l.drop i).take (k - i)).length = k - i := by rw [List.length_take, List.length_drop]; omega
    simp only [this]
    unfold upTo
    split
    · rename_i hx
      obtain ⟨m, hm, hm1, hm2, hm3⟩ : ∃ m : Nat, index (l.drop i) endA = m ∧ m ≤ (l.drop i).length ∧ occAt (l.drop i) endA m = true ∧ NoOcc (l.drop i) endA m := by
        rcases index_spec (l.drop i) endA with ⟨h, _⟩ | h
        · omega
        · exact h
      rw [occAt_drop] at hm2
      rw [List.length_drop] at hm1
      have hkm : k < i + m := by
        rcases Nat.lt_trichotomy k (i + m) with h | h | h
        · exact h
        · rw [← h, hnA] at hm2; exact absurd hm2 (by decide)
        · rw [hA (i + m) (by omega) h] at hm2; exact absurd hm2 (by decide)
      simp only [hm, Int.toNat_natCast, List.length_take, List.length_drop]
      omega
    · simp only [List.length_drop]; omega
  unfold comment
  rw [hasPrefix_drop, hasPrefix_drop, h1, h2, if_neg (by decide), if_neg (by decide), if_neg (by omega), if_pos hlt, eB]
  rfl

theorem comment_none {l : B} {i : Nat} (hA : ∀ j, i ≤ j → j < l.length → occAt l endA j = false) (hB : ∀ j, i ≤ j → j < l.length → occAt l endB j = false)
    (h1 : occAt l [62] i = false) (h2 : occAt l [45, 62] i = false) : comment (l.drop i) = (tailText (l.drop i), (l.drop i).length) := by
  have eA := upTo_none (sub := endA) (by decide) hA
  have eB := upTo_none (sub := endB) (by decide) hB
  unfold comment
  rw [hasPrefix_drop, hasPrefix_drop, h1, h2, if_neg (by decide), if_neg (by decide), eA, eB, if_neg (by omega), if_neg (by omega)]


theorem comment_le (l : B) : (comment l).2 ≤ l.length := by
  unfold comment
  split
  · rename_i h
    have := (List.isPrefixOf_iff_prefix.1 h).length_le
    simpa using this
  · split
    · rename_i h
      have := (List.isPrefixOf_iff_prefix.1 h).length_le
      simpa using this
    · split
      · exact (upTo_len_le _ _).2
      · split
        · exact (upTo_len_le _ _).2
        · exact Nat.le_refl _

end Ty
