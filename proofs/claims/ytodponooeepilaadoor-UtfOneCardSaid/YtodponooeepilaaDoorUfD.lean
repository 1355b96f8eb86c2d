/- utf: builders as one's own memory; the walk of Text. No condition but that the library's tables hold what they hold. -/
import Derived.Test.YtodponooeepilaaDoorUfC
import Derived.Test.YtodponooeepilaaDoorBuilderW
namespace Go.Proofs
open Go Go.Sh
set_option linter.unusedVariables false
set_option maxRecDepth 100000
/-- a builder of one's own, behind a place, that holds l -/
def Bld (B g : Nat) (l : Bs) (h : H) : Prop := ∀ w : World, w.heap = h → Lib.IsBuilderF 36 5 B g (Lib.byteCells l) w
theorem bld_of {B g : Nat} {l : Bs} {w : World} (hb : Lib.IsBuilderF 36 5 B g (Lib.byteCells l) w) : Bld B g l w.heap := fun w2 e => by
  unfold Lib.IsBuilderF Lib.BuilderAtF World.ownsRowF at *
  rw [e]; exact hb
theorem bytes_len (l : Bs) : (Lib.byteCells l).length = l.length := by simp [Lib.byteCells]
theorem tupIX {ka : IntKind} {a : Int} {v : Value} {p : Prop} (hk : p) : vTup (.tuple ⟨[.int ka a, v]⟩) fun l => uncons l fun e l => vInt ka e fun s => uncons l fun e l => unnil l p :=
  show vInt ka (.int ka a) fun _ => p from vIntMk hk
section
variable {h : H} {K : Value → H → Prop} {B g : Nat} {l : Bs}
theorem bld_new {K : Addr → H → Prop} (hk : ∀ h', Bld h.size h.size [] h' → KB h h' → K (Ad h.size) h') : newx h ⟨[.pointer none, .slice none 0 0]⟩ 36 K := by
  refine hk _ (fun w hw => .inl ⟨Nat.le_refl _, .slice none 0 0, ?_, ⟨rfl, .inl ⟨rfl, rfl⟩⟩, fun e => by cases e⟩) (SK.push h _)
  rw [hw]; simp
theorem bld_rune {r : Int} (hr : Rng .i32 r) (bl : Bld B g l h) (hB : B ≤ h.size) (hl : l.length ≤ 100000000000000) (hk : ∀ h', Bld B g (l ++ Lib.encodeRune r) h' → SK (Bel B) h h' → K (.tuple ⟨[.int .i64 ((Lib.runeCells r).length : Int), .nilIface]⟩) h') : HCalls Tryd.prog 23 ⟨[.pointer (some (Ad g)), .int .i32 r]⟩ h K :=
  fun w hw => (Tryd.WriteRune_k B g (Lib.byteCells l) r hr.1 hr.2 w (bl w hw) (by rw [bytes_len]; omega) (by rw [hw]; exact hB)).mono fun e w' ⟨e1, b1, b2, _⟩ => ⟨_, e1, ⟨b2.tape, b2.os, b2.output⟩, hk _ (bld_of (.inr (by
    have : Lib.byteCells (l ++ Lib.encodeRune r) = Lib.byteCells l ++ Lib.runeCells r := by rw [← Lib.byteCells_encodeRune]; simp [Lib.byteCells]
    rw [this]; exact b1))) ⟨by rw [← hw]; exact b2.size, fun k hk => by rw [← hw]; exact b2.block k hk⟩⟩
theorem bld_write {A : Nat → Prop} {b : Option Addr} {n c : Nat} {p : Bs} (r : Row elB A h b n c p) (hne : p ≠ []) (hA : ∀ k, A k → k < B) (bl : Bld B g l h) (hB : B ≤ h.size) (hl : l.length + p.length ≤ 100000000000000) (hk : ∀ h', Bld B g (l ++ p) h' → SK (Bel B) h h' → K (.tuple ⟨[.int .i64 (n : Int), .nilIface]⟩) h') : HCalls Tryd.prog 22 ⟨[.pointer (some (Ad g)), .slice b n c]⟩ h K := by
  have hn := r.len
  have h0 : 0 < p.length := List.length_pos_iff.2 hne
  obtain ⟨a, rfl, hA0⟩ := r.at' 0 p[0] (List.getElem?_eq_getElem h0)
  have hab : a.block < B := by have := hA _ hA0.1; rwa [add_block] at this
  intro w hw
  refine (Tryd.Write_k B g (Lib.byteCells l) a n c (Lib.byteCells p) w (bl w hw) (by rw [bytes_len]; exact hn) (fun j u hu => ?_) (fun u hu => ?_) (fun j => by rw [add_block]; exact hab) (by rw [bytes_len]; omega) (by rw [hw]; exact hB)).mono fun e w' ⟨e1, b1, b2⟩ => ⟨_, e1, ⟨b2.tape, b2.os, b2.output⟩, hk _ (bld_of (.inr (by
    have : Lib.byteCells (l ++ p) = Lib.byteCells l ++ Lib.byteCells p := by simp [Lib.byteCells]
    rw [this]; exact b1))) ⟨by rw [← hw]; exact b2.size, fun k hk => by rw [← hw]; exact b2.block k hk⟩⟩
  · have hj : j < p.length := by have := (List.getElem?_eq_some_iff.1 hu).1; rwa [bytes_len] at this
    obtain ⟨a', e1, e2⟩ := r.cellB hj
    cases e1
    rw [cell_eq, hw, e2]
    unfold Lib.byteCells at hu
    rw [List.getElem?_map, List.getElem?_eq_getElem hj] at hu
    exact hu
  · unfold Lib.byteCells at hu
    obtain ⟨x, _, rfl⟩ := List.mem_map.1 hu
    rfl
theorem bld_string (bl : Bld B g l h) (hB : B ≤ h.size) (hk : ∀ h', Bld B g l h' → SK (Bel B) h h' → K (S l) h') : HCalls Tryd.prog 24 ⟨[.pointer (some (Ad g))]⟩ h K :=
  fun w hw => (Tryd.Builder_String_any_k B g l w (bl w hw) (by rw [hw]; exact hB)).mono fun e w' ⟨e1, b1, b2, _⟩ => ⟨_, e1, ⟨b2.tape, b2.os, b2.output⟩, hk _ (bld_of b1) ⟨by rw [← hw]; exact b2.size, fun k hk => by rw [← hw]; exact b2.block k hk⟩⟩
end
end Go.Proofs
