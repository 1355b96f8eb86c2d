/- open: words in rows of words; the chapter's lists. No program. No condition. -/
import Derived.Test.YtmnjhhgdhlgjfaaGreatShD
import Derived.Lib.IndexMore
import Derived.Lib.IndexLaws
namespace Go.Proofs
open Go
set_option linter.unusedVariables false
set_option maxRecDepth 100000

abbrev OpenP := Int × Int × Bs × Int
/-- words, each with a blank behind it -/
def wordsT (ws : List Bs) : Bs := ws.flatMap fun w => w ++ [32]
def rowOf (ws : List Bs) : Bs := 32 :: wordsT ws
def hasP (row w : Bs) : Bool := !decide (w = []) && (!Lib.contains w [32] && Lib.contains row ([32] ++ w ++ [32]))

theorem occ_iff (s sub : Bs) (i : Nat) : Lib.occAt s sub i = true ↔ ∃ b, s.drop i = sub ++ b := by
  unfold Lib.occAt
  rw [List.isPrefixOf_iff_prefix]
  exact ⟨fun ⟨b, e⟩ => ⟨b, e.symm⟩, fun ⟨b, e⟩ => ⟨b, e.symm⟩⟩
theorem contains_iff (s sub : Bs) : Lib.contains s sub = true ↔ ∃ a b, s = a ++ sub ++ b := by
  unfold Lib.contains
  rcases Lib.index_spec s sub with ⟨h1, h2⟩ | ⟨i, h1, h2, h3, _⟩
  · rw [h1]
    refine ⟨fun h => (by cases h), fun ⟨a, b, e⟩ => ?_⟩
    have := h2 a.length (by rw [e]; simp)
    have h3 : Lib.occAt s sub a.length = true := (occ_iff _ _ _).2 ⟨b, by rw [e, List.append_assoc, List.drop_left]⟩
    rw [this] at h3; cases h3
  · rw [h1]
    refine ⟨fun _ => ?_, fun _ => by simp⟩
    obtain ⟨b, e⟩ := (occ_iff _ _ _).1 h3
    exact ⟨s.take i, b, by rw [List.append_assoc, ← e, List.take_append_drop]⟩
theorem contains_one (s : Bs) (c : UInt8) : Lib.contains s [c] = decide (c ∈ s) := by
  rw [Bool.eq_iff_iff, contains_iff, decide_eq_true_eq]
  refine ⟨fun ⟨a, b, e⟩ => by rw [e]; simp, fun h => ?_⟩
  obtain ⟨a, b, e⟩ := List.append_of_mem h
  exact ⟨a, b, by rw [e]; simp⟩
/-- two texts, cut at their first blank -/
theorem cutW_eq : ∀ {v w r t : Bs}, 32 ∉ v → 32 ∉ w → v ++ 32 :: r = w ++ 32 :: t → v = w ∧ r = t
  | [], [], r, t, _, _, e => by simpa using e
  | [], c :: w, r, t, _, hw, e => by
    simp at e; exact absurd e.1 (fun h => hw (by simp [h]))
  | c :: v, [], r, t, hv, _, e => by
    simp at e; exact absurd e.1 (fun h => hv (by simp [h]))
  | c :: v, d :: w, r, t, hv, hw, e => by
    simp at e
    obtain ⟨h1, h2⟩ := cutW_eq (v := v) (w := w) (fun h => hv (by simp [h])) (fun h => hw (by simp [h])) e.2
    exact ⟨by rw [e.1, h1], h2⟩
theorem cut_split : ∀ {v a r t : Bs}, 32 ∉ v → v ++ 32 :: r = a ++ 32 :: t → a = v ∧ r = t ∨ ∃ a', a = v ++ a' ∧ 32 :: r = a' ++ 32 :: t
  | [], a, r, t, _, e => .inr ⟨a, rfl, e⟩
  | c :: v, [], r, t, hv, e => by
    simp at e; exact absurd e.1 (fun h => hv (by simp [h]))
  | c :: v, d :: a, r, t, hv, e => by
    simp at e
    rcases cut_split (v := v) (a := a) (fun h => hv (by simp [h])) e.2 with ⟨h1, h2⟩ | ⟨a', h1, h2⟩
    · exact .inl ⟨by rw [e.1, h1], h2⟩
    · exact .inr ⟨a', by rw [e.1, h1]; rfl, h2⟩
theorem row_word {w : Bs} (hw0 : w ≠ []) (hw : 32 ∉ w) : ∀ {ws : List Bs} {a b : Bs}, (∀ v ∈ ws, 32 ∉ v) → rowOf ws = a ++ ([32] ++ w ++ [32]) ++ b → w ∈ ws
  | [], a, b, _, e => by
    have := congrArg List.length e
    have h1 : 0 < w.length := List.length_pos_iff.2 hw0
    simp [rowOf, wordsT] at this; omega
  | v :: ws, a, b, hv, e => by
    have hv0 := hv v (by simp)
    have e2 : rowOf (v :: ws) = 32 :: (v ++ rowOf ws) := by simp [rowOf, wordsT]
    rw [e2] at e
    cases a with
    | nil =>
      have e3 : v ++ 32 :: wordsT ws = w ++ 32 :: b := by simpa [rowOf] using e
      rw [(cutW_eq hv0 hw e3).1]; simp
    | cons c a =>
      have e3 : v ++ 32 :: wordsT ws = a ++ 32 :: (w ++ 32 :: b) := by
        simp [rowOf] at e
        rw [e.2]
      rcases cut_split hv0 e3 with ⟨h1, h2⟩ | ⟨a', h1, h2⟩
      · -- the blank ahead of w is the one behind v
        have h3 : rowOf ws = [] ++ ([32] ++ w ++ [32]) ++ b := by simp [rowOf, h2]
        exact List.mem_cons_of_mem _ (row_word hw0 hw (fun x hx => hv x (by simp [hx])) h3)
      · have h3 : rowOf ws = a' ++ ([32] ++ w ++ [32]) ++ b := by simp [rowOf, h2]
        exact List.mem_cons_of_mem _ (row_word hw0 hw (fun x hx => hv x (by simp [hx])) h3)
theorem word_row {w : Bs} : ∀ {ws : List Bs}, w ∈ ws → ∃ a b, rowOf ws = a ++ ([32] ++ w ++ [32]) ++ b
  | v :: ws, h => by
    have e2 : rowOf (v :: ws) = 32 :: (v ++ rowOf ws) := by simp [rowOf, wordsT]
    rcases List.mem_cons.1 h with rfl | h
    · exact ⟨[], wordsT ws, by rw [e2]; simp [rowOf]⟩
    · obtain ⟨a, b, e⟩ := word_row h
      exact ⟨32 :: (v ++ a), b, by rw [e2, e]; simp⟩
def plainW (ws : List Bs) : Bool := ws.all fun w => !w.isEmpty && !(w.elem 32)
/-- a row of words has its words, and nothing else -/
theorem has_row {ws : List Bs} (hp : plainW ws = true) (w : Bs) : hasP (rowOf ws) w = decide (w ∈ ws) := by
  have hws : ∀ v ∈ ws, v ≠ [] ∧ 32 ∉ v := fun v hv => by
    have := List.all_eq_true.1 hp v hv
    simp only [Bool.and_eq_true, Bool.not_eq_true', List.isEmpty_eq_false_iff, List.elem_eq_mem, decide_eq_false_iff_not] at this
    exact this
  unfold hasP
  rw [contains_one]
  by_cases hw0 : w = []
  · rw [decide_eq_true hw0, decide_eq_false (fun hm => (hws w hm).1 hw0)]; rfl
  · by_cases hb : 32 ∈ w
    · rw [decide_eq_true hb, decide_eq_false (fun hm => (hws w hm).2 hb)]; simp
    · rw [decide_eq_false hw0, decide_eq_false hb]
      simp only [Bool.not_false, Bool.true_and]
      rw [Bool.eq_iff_iff, contains_iff, decide_eq_true_eq]
      exact ⟨fun ⟨a, b, e⟩ => row_word hw0 hb (fun v hv => (hws v hv).2) e, word_row⟩

def wHTML : List Bs := [[97, 100, 100, 114, 101, 115, 115], [97, 112, 112, 108, 101, 116], [97, 114, 101, 97], [97, 114, 116, 105, 99, 108, 101], [97, 115, 105, 100, 101], [98, 97, 115, 101], [98, 97, 115, 101, 102, 111, 110, 116], [98, 103, 115, 111, 117, 110, 100], [98, 108, 111, 99, 107, 113, 117, 111, 116, 101], [98, 111, 100, 121], [98, 114], [98, 117, 116, 116, 111, 110], [99, 97, 112, 116, 105, 111, 110], [99, 101, 110, 116, 101, 114], [99, 111, 108], [99, 111, 108, 103, 114, 111, 117, 112], [100, 100], [100, 101, 116, 97, 105, 108, 115], [100, 105, 97, 108, 111, 103], [100, 105, 114], [100, 105, 118], [100, 108], [100, 116], [101, 109, 98, 101, 100], [102, 105, 101, 108, 100, 115, 101, 116], [102, 105, 103, 99, 97, 112, 116, 105, 111, 110], [102, 105, 103, 117, 114, 101], [102, 111, 111, 116, 101, 114], [102, 111, 114, 109], [102, 114, 97, 109, 101], [102, 114, 97, 109, 101, 115, 101, 116], [104, 49], [104, 50], [104, 51], [104, 52], [104, 53], [104, 54], [104, 101, 97, 100], [104, 101, 97, 100, 101, 114], [104, 103, 114, 111, 117, 112], [104, 114], [104, 116, 109, 108], [105, 102, 114, 97, 109, 101], [105, 109, 103], [105, 110, 112, 117, 116], [107, 101, 121, 103, 101, 110], [108, 105], [108, 105, 110, 107], [108, 105, 115, 116, 105, 110, 103], [109, 97, 105, 110], [109, 97, 114, 113, 117, 101, 101], [109, 101, 110, 117], [109, 101, 116, 97], [110, 97, 118], [110, 111, 101, 109, 98, 101, 100], [110, 111, 102, 114, 97, 109, 101, 115], [110, 111, 115, 99, 114, 105, 112, 116], [111, 98, 106, 101, 99, 116], [111, 108], [112], [112, 97, 114, 97, 109], [112, 108, 97, 105, 110, 116, 101, 120, 116], [112, 114, 101], [115, 99, 114, 105, 112, 116], [115, 101, 97, 114, 99, 104], [115, 101, 99, 116, 105, 111, 110], [115, 101, 108, 101, 99, 116], [115, 111, 117, 114, 99, 101], [115, 116, 121, 108, 101], [115, 117, 109, 109, 97, 114, 121], [116, 97, 98, 108, 101], [116, 98, 111, 100, 121], [116, 100], [116, 101, 109, 112, 108, 97, 116, 101], [116, 101, 120, 116, 97, 114, 101, 97], [116, 102, 111, 111, 116], [116, 104], [116, 104, 101, 97, 100], [116, 105, 116, 108, 101], [116, 114], [116, 114, 97, 99, 107], [117, 108], [119, 98, 114], [120, 109, 112]]
theorem wHTML_ok : plainW wHTML = true := by decide +kernel
def wMath : List Bs := [[97, 110, 110, 111, 116, 97, 116, 105, 111, 110, 45, 120, 109, 108], [109, 105], [109, 110], [109, 111], [109, 115], [109, 116, 101, 120, 116]]
theorem wMath_ok : plainW wMath = true := by decide +kernel
def wSVG : List Bs := [[100, 101, 115, 99], [102, 111, 114, 101, 105, 103, 110, 79, 98, 106, 101, 99, 116], [116, 105, 116, 108, 101]]
theorem wSVG_ok : plainW wSVG = true := by decide +kernel
def wFmt : List Bs := [[97], [98], [98, 105, 103], [99, 111, 100, 101], [101, 109], [102, 111, 110, 116], [105], [110, 111, 98, 114], [115], [115, 109, 97, 108, 108], [115, 116, 114, 105, 107, 101], [115, 116, 114, 111, 110, 103], [116, 116], [117]]
theorem wFmt_ok : plainW wFmt = true := by decide +kernel
def wBnd : List Bs := [[97, 112, 112, 108, 101, 116], [99, 97, 112, 116, 105, 111, 110], [104, 116, 109, 108], [109, 97, 114, 113, 117, 101, 101], [111, 98, 106, 101, 99, 116], [116, 97, 98, 108, 101], [116, 100], [116, 101, 109, 112, 108, 97, 116, 101], [116, 104]]
theorem wBnd_ok : plainW wBnd = true := by decide +kernel
def wImp : List Bs := [[100, 100], [100, 116], [108, 105], [111, 112, 116, 103, 114, 111, 117, 112], [111, 112, 116, 105, 111, 110], [112], [114, 98], [114, 112], [114, 116], [114, 116, 99]]
theorem wImp_ok : plainW wImp = true := by decide +kernel

def inNames (ns : List Bs) (s : Bs) : Bool := decide (s ∈ ns)
def specialP (sp : Int) (s : Bs) : Bool := if sp = 0 then inNames wHTML s else if sp = 2 then inNames wMath s else if sp = 1 then inNames wSVG s else false
def formattingP (s : Bs) : Bool := inNames wFmt s
def oneP (x : OpenP) (ns : List Bs) : Bool := decide (x.2.1 = 0) && inNames ns x.2.2.1
def wTable : List Bs := [[104, 116, 109, 108], [116, 97, 98, 108, 101], [116, 101, 109, 112, 108, 97, 116, 101]]
def wList : List Bs := [[111, 108], [117, 108]]
def wButton : List Bs := [[98, 117, 116, 116, 111, 110]]
def wStop : List Bs := [[97, 100, 100, 114, 101, 115, 115], [100, 105, 118], [112]]
def wClear : List Bs := [[104, 116, 109, 108], [116, 101, 109, 112, 108, 97, 116, 101]]
def boundsP (x : OpenP) (sc : Int) : Bool :=
  if sc = 3 then oneP x wTable else if x.2.1 ≠ 0 then specialP x.2.1 x.2.2.1
  else inNames wBnd x.2.2.1 || (decide (sc = 1) && inNames wList x.2.2.1) || (decide (sc = 2) && inNames wButton x.2.2.1)

/-- from the current element on: the first answer -/
def scanTo {R : Type} (f : Nat → OpenP → Option R) (d : R) (l : List OpenP) : Nat → R
  | 0 => d
  | i + 1 => match f i (l.getD i (0, 0, [], 0)) with
    | some r => r
    | none => scanTo f d l i
def scan {R : Type} (f : Nat → OpenP → Option R) (d : R) (l : List OpenP) : R := scanTo f d l l.length
def inF (sc : Int) (ns : List Bs) (_ : Nat) (x : OpenP) : Option Bool := if oneP x ns then some true else if boundsP x sc then some false else none
def impliedF (ex : Bs) (i : Nat) (x : OpenP) : Option Int := if x.2.1 ≠ 0 ∨ x.2.2.1 = ex ∨ inNames wImp x.2.2.1 = false then some ((i : Int) + 1) else none
def untilF (ns : List Bs) (i : Nat) (x : OpenP) : Option Int := if oneP x ns then some (i : Int) else none
def clearF (ns : List Bs) (i : Nat) (x : OpenP) : Option Int := if oneP x ns || oneP x wClear then some ((i : Int) + 1) else none
def itemF (ns : List Bs) (i : Nat) (x : OpenP) : Option Int := if oneP x ns then some (i : Int) else if specialP x.2.1 x.2.2.1 && !oneP x wStop then some (-1) else none
def inP (l : List OpenP) (sc : Int) (ns : List Bs) : Bool := scan (inF sc ns) false l
def impliedP (l : List OpenP) (ex : Bs) : Int := scan (impliedF ex) 0 l
def untilP (l : List OpenP) (ns : List Bs) : Int := scan (untilF ns) (-1) l
def clearO (l : List OpenP) (ns : List Bs) : Int := scan (clearF ns) 0 l
def itemP (l : List OpenP) (ns : List Bs) : Int := scan (itemF ns) (-1) l
end Go.Proofs
