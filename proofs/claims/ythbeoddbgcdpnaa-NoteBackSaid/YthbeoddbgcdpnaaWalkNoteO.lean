/- The document's Read: its contract, way by way. -/
import Derived.Test.YthbeoddbgcdpnaaWalkNoteM
import Derived.Test.YthbeoddbgcdpnaaWalkNoteN
namespace Go.Proofs
open Go.RowKit
set_option linter.unusedSimpArgs false
set_option linter.unusedVariables false

/-- two new tokens in memory, behind a call -/
theorem Try.tokCells2 {w w2 : World} {T : TypeId} (hb : Below (w.heap.size + 1 + 1) ((w.alloc (.cells #[.int .u8 0, .string ⟨#[]⟩, .slice none 0 0, .bool false, .string ⟨#[]⟩] T)).alloc (.cells #[.int .u8 4, .string ⟨#[]⟩, .slice none 0 0, .bool false, .string ⟨#[]⟩] T)) w2) :
    w2.cell? ⟨w.heap.size + 1, 0, none⟩ = some (.int .u8 4) ∧ w2.cell? ⟨w.heap.size + 1, 1, none⟩ = some (.string ⟨#[]⟩) ∧ w2.cell? ⟨w.heap.size + 1, 2, none⟩ = some (.slice none 0 0) ∧
    w2.cell? ⟨w.heap.size + 1, 3, none⟩ = some (.bool false) ∧ w2.cell? ⟨w.heap.size + 1, 4, none⟩ = some (.string ⟨#[]⟩) ∧
    w2.frozen? ⟨w.heap.size + 1, 0, none⟩ = false ∧ w2.frozen? ⟨w.heap.size + 1, 1, none⟩ = false ∧ w2.frozen? ⟨w.heap.size + 1, 2, none⟩ = false ∧ w2.frozen? ⟨w.heap.size + 1, 3, none⟩ = false ∧ w2.frozen? ⟨w.heap.size + 1, 4, none⟩ = false ∧
    w.heap.size + 1 < w2.heap.size := by
  have hsz : (w.alloc (.cells #[.int .u8 0, .string ⟨#[]⟩, .slice none 0 0, .bool false, .string ⟨#[]⟩] T)).heap.size = w.heap.size + 1 := by simp
  have hc : ∀ j, ((w.alloc (.cells #[.int .u8 0, .string ⟨#[]⟩, .slice none 0 0, .bool false, .string ⟨#[]⟩] T)).alloc (.cells #[.int .u8 4, .string ⟨#[]⟩, .slice none 0 0, .bool false, .string ⟨#[]⟩] T)).cell? ⟨w.heap.size + 1, j, none⟩ = #[Value.int .u8 4, .string ⟨#[]⟩, .slice none 0 0, .bool false, .string ⟨#[]⟩][j]? := fun j => by
    rw [← hsz, World.cell?_alloc_new]
  have hf : ∀ j, ((w.alloc (.cells #[.int .u8 0, .string ⟨#[]⟩, .slice none 0 0, .bool false, .string ⟨#[]⟩] T)).alloc (.cells #[.int .u8 4, .string ⟨#[]⟩, .slice none 0 0, .bool false, .string ⟨#[]⟩] T)).frozen? ⟨w.heap.size + 1, j, none⟩ = false := fun j => by
    rw [← hsz, World.frozen?_alloc_new]
  refine ⟨?_, ?_, ?_, ?_, ?_, ?_, ?_, ?_, ?_, ?_, by have := hb.size; simp at this; omega⟩
  all_goals first
    | (rw [hb.cell (p := ⟨w.heap.size + 1, _, none⟩) (by simp), hc]; rfl)
    | (rw [hb.frozen (p := ⟨w.heap.size + 1, _, none⟩) (by simp), hf])

theorem Try.belowSz2 {w w2 : World} {o1 o2 : Obj} (hb : Below ((w.alloc o1).alloc o2).heap.size ((w.alloc o1).alloc o2) w2) : Below (w.heap.size + 1 + 1) ((w.alloc o1).alloc o2) w2 := by
  rw [World.size_alloc, World.size_alloc] at hb
  exact hb

theorem Try.tokBelow {w w2 : World} {o1 o2 : Obj} (hb : Below (w.heap.size + 1 + 1) ((w.alloc o1).alloc o2) w2) : Below (w.heap.size + 1) (w.alloc o1) w2 :=
  ((Below.refl (w.heap.size + 1) (w.alloc o1)).alloc (by simp) o2).trans (hb.mono (by omega))

theorem Try.tokBelow0 {w w2 : World} {o1 o2 : Obj} (hb : Below (w.heap.size + 1 + 1) ((w.alloc o1).alloc o2) w2) : Below w.heap.size w w2 :=
  (((Below.refl w.heap.size w).alloc (Nat.le_refl _) o1).alloc (by simp) o2).trans (hb.mono (by omega))

theorem Try.beginsRef_is (s : ByteArray) (i : Int) (b : Bool) (w : World) (hs : s.size ≤ 140737488351232) (hi0 : -9223372036854775808 ≤ i) (hi1 : i ≤ 9223372036854775807) (h : Ty.begins s.data.toList i = b) :
    Calls Try.prog 12 #[.string s, .int .i64 i] w fun e w' => e = .returned (.bool b) ∧ w = w' := by
  rw [← h]; exact Try.beginsRef_any s i w hs hi0 hi1

theorem Try.index_str (s : ByteArray) (k : Nat) (h : k < s.size) (w : World) : (Instr.index 9 (.string s) (.int .i64 (k : Int))).run Try.prog w = .ok (.int .u8 ((s[k]'h).toNat : Int)) w := by
  have := Try.underlying9
  simp [go_sem, this, h]

set_option maxHeartbeats 400000 in
theorem Try.readRef_r0 (s : ByteArray) (i : Int) (cd : Bool) (w : World) (hs : s.size < 4294967281) (hi0 : -9223372036854775808 ≤ i) (hi1 : i ≤ 9223372036854775807)
    (h0 : Ty.begins s.data.toList i = false) :
    Calls Try.prog 8 #[.string s, .int .i64 i, .bool cd] w fun e w' => Try.RetTok 0 [] i e ∧ Below w.heap.size w w' := by
  have H0 := Lib.hid h0
  clear h0
  go_enter Try.func8, Try.ntmps8
  go_wp2_with fail
  refine (Try.beginsRef_is s i false _ (by omega) hi0 hi1 H0.out).mono ?_
  rintro e w' ⟨rfl, rfl⟩
  go_wp2
  exact bodyPost_ret (v := .tuple #[.agg #[.int .u8 0, .string ⟨#[]⟩, .slice none 0 0, .bool false, .string ⟨#[]⟩], .int .i64 i]) (by simp [results, Try.results8, go_sem]) rfl ⟨⟨_, rfl, rfl⟩, (Below.refl _ _).alloc (Nat.le_refl _) _⟩

end Go.Proofs
