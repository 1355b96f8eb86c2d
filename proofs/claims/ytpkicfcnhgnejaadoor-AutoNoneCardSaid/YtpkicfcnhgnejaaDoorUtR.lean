/- A range over a text, in memory. No condition. -/
import Derived.Test.YtpkicfcnhgnejaaDoorUtH
namespace Go.Sh
open Go Go.Proofs
set_option linter.unusedVariables false
set_option linter.unusedSimpArgs false
variable {P : Program}
/-- a range that goes on at a place -/
structure It (h : H) (a : Addr) (s : List UInt8) (pos : Nat) : Prop where
  is : a = Ad a.block
  obj : h[a.block]? = some (.stringIter ⟨⟨s⟩⟩ pos)
theorem It.lt {h : H} {a : Addr} {s : List UInt8} {pos : Nat} (i : It h a s pos) : a.block < h.size := (Array.getElem?_eq_some_iff.1 i.obj).1
theorem It.kb {h h' : H} {a : Addr} {s : List UInt8} {pos : Nat} (i : It h a s pos) (k : KB h h') : It h' a s pos := ⟨i.is, by rw [k.2 _ i.lt]; exact i.obj⟩
theorem range_k {t : TypeId} {s : List UInt8} {h : H} {K : Value → H → Prop} (ht : P.underlying t = some .string) (hk : ∀ a h', It h' a s 0 → KB h h' → a.block = h.size → K (.pointer (some a)) h') : SemH P (Instr.range t (S s)) h K := by
  intro w hw
  refine ⟨.pointer (some ⟨w.heap.size, 0, none⟩), w.alloc (.stringIter ⟨⟨s⟩⟩ 0), by simp [Instr.range, run_underlying ht, newObj]; rfl, ⟨rfl, rfl, rfl⟩, ?_⟩
  have e : (w.alloc (.stringIter ⟨⟨s⟩⟩ 0)).heap = h.push (.stringIter ⟨⟨s⟩⟩ 0) := by rw [← hw]; rfl
  rw [e, hw]
  exact hk ⟨h.size, 0, none⟩ _ ⟨rfl, by simp⟩ (SK.push h _) rfl
theorem next_k {ty : TypeId} {a : Addr} {s : List UInt8} {pos : Nat} {h : H} {K : Value → H → Prop} (i : It h a s pos)
    (hy : pos < s.length → ∀ h', It h' a s (pos + (Go.Proofs.dec (s.drop pos)).2) → KX a.block h h' → h'.size = h.size → K (.tuple ⟨[.bool true, .int .i64 (pos : Int), .int .i32 ((Go.Proofs.dec (s.drop pos)).1 : Int)]⟩) h')
    (hn : s.length ≤ pos → K (.tuple ⟨[.bool false]⟩) h) : SemH P (Instr.next (.pointer (some a)) true ty) h K := by
  intro w hw
  have ho : w.heap[a.block]? = some (.stringIter ⟨⟨s⟩⟩ pos) := by rw [hw]; exact i.obj
  have hsz : (⟨⟨s⟩⟩ : ByteArray).size = s.length := rfl
  have hl := i.lt
  have hg : (getObj a.block).run P w = .ok (.stringIter ⟨⟨s⟩⟩ pos) w := by simp [getObj, Sem.run, ho]
  have hst : ∀ o, (setObj a.block o).run P w = .ok () { w with heap := w.heap.setIfInBounds a.block o } := fun o => by simp [setObj, Sem.run, ho]
  rw [i.is]
  by_cases hp : pos < s.length
  · refine ⟨.tuple ⟨[.bool true, .int .i64 (pos : Int), .int .i32 ((Go.Proofs.dec (s.drop pos)).1 : Int)]⟩, { w with heap := w.heap.setIfInBounds a.block (.stringIter ⟨⟨s⟩⟩ (pos + (Go.Proofs.dec (s.drop pos)).2)) }, by simp [Instr.next, Sem.run_bind, hg, hst, hsz, hp, decode_dec, goInt], ⟨rfl, rfl, rfl⟩, ?_⟩
    rw [hw]
    refine hy hp _ ⟨i.is, by simp [hl]⟩ ⟨by simp, fun k hk => ?_⟩ (by simp)
    rw [Array.getElem?_setIfInBounds, if_neg (fun e => hk e.symm)]
  · refine ⟨.tuple ⟨[.bool false]⟩, w, by simp [Instr.next, Sem.run_bind, hg, hsz, hp], Outer.refl w, ?_⟩
    rw [hw]
    exact hn (by omega)
end Go.Sh
