/- marks: slices.Backward of marks, and the place behind the last marker. No condition. -/
import Derived.Test.YtoojoogbkbfpcaaMkC
import Derived.Test.YtoojoogbkbfpcaaHmD
namespace Go.Proofs
open Go Go.Sh
set_option linter.unusedVariables false
set_option maxRecDepth 100000

/-- what a walk backward hands over, from a place on -/
def Backs (A : Nat → Prop) (h : H) (l : List MarkP) : Nat → List (List Value) → Prop
  | 0, xs => xs = []
  | i + 1, xs => ∃ (hi : i < l.length) (b : Option Addr) (n c : Nat) (rest : List (List Value)), MarkR A h l[i] b n c ∧ xs = [.int .i64 i, .agg ⟨[.int .i64 l[i].1, S l[i].2.1, .slice b n c]⟩] :: rest ∧ Backs A h l i rest
theorem Backs.kw {A : Nat → Prop} {h h' : H} {l : List MarkP} (k : KW h h') : ∀ {i : Nat} {xs : List (List Value)}, Backs A h l i xs → Backs A h' l i xs
  | 0, _, e => e
  | i + 1, _, ⟨hi, b, n, c, rest, hm, e, hr⟩ => ⟨hi, b, n, c, rest, hm.kw k, e, hr.kw k⟩
theorem Backs.of {A : Nat → Prop} {h : H} {b : Option Addr} {n c : Nat} {l : List MarkP} (r : Row elMark A h b n c l) : ∀ {i : Nat}, i ≤ l.length → ∃ xs, Backs A h l i xs
  | 0, _ => ⟨[], rfl⟩
  | i + 1, hi => by
    obtain ⟨rest, hr⟩ := Backs.of r (i := i) (by omega)
    obtain ⟨a, e, hA⟩ := r.at' i _ (List.getElem?_eq_getElem (by omega))
    obtain ⟨b', n', c', _, r', hz⟩ := (hA.snd.sndAt (k := 2) rfl).sl
    exact ⟨_, by omega, b', n', c', rest, markR r' hz hA.fst.int.2 hA.snd.fst.str.2, rfl, hr⟩
theorem Backs.len {A : Nat → Prop} {h : H} {l : List MarkP} : ∀ {i : Nat} {xs : List (List Value)}, Backs A h l i xs → ∀ x ∈ xs, x.length = 2
  | 0, _, e, x, hx => by simp [Backs] at e; rw [e] at hx; cases hx
  | i + 1, _, ⟨hi, b, n, c, rest, hm, e, hr⟩, x, hx => by
    rw [e] at hx
    rcases List.mem_cons.1 hx with rfl | hx
    · rfl
    · exact hr.len x hx

theorem callYield {L : Nat} {args : Array Value} {h : H} {next : Value → H → Prop} : CallV Try.prog 4 (.func (.yield L) ⟨[]⟩ ⟨[]⟩) args h next = YCalls Try.prog L ⟨args.toList⟩ h fun v h' => vBool v fun b => cond b (next (.bool true) h') (next (.bool false) h') := by kernel_rfl

/-- the cells that a mark's place holds are those that were told -/
theorem markCells {A : Nat → Prop} {h : H} {a : Addr} {m : MarkP} {b : Option Addr} {n c : Nat} (k : ∀ j v, [Value.int .i64 m.1, S m.2.1, .slice b n c][j]? = some v → cell h (a.add j) = some v) {K : Int → Bs → Option Addr → Nat → Nat → Prop} (hk : K m.1 m.2.1 b n c) :
    ∃ i, cell h (a.add 0) = some (.int .i64 i) ∧ ∃ s, cell h (a.add 1) = some (S s) ∧ ∃ b n c, cell h (a.add 2) = some (.slice b n c) ∧ K i s b n c :=
  ⟨_, k 0 _ rfl, _, k 1 _ rfl, _, _, _, k 2 _ rfl, hk⟩

/-- slices.Backward of marks hands over what it says -/
theorem backward_emits {A : Nat → Prop} {h : H} {b : Option Addr} {n c : Nat} {l : List MarkP} {a : Addr} (r : Row elMark A h b n c l) (v : Var h a 22 [.slice b n c]) :
    ∃ xs, Backs A h l l.length xs ∧ Emits Try.prog (.func (.func 37) ⟨[]⟩ ⟨[.pointer (some a)]⟩) h xs Non (fun k => A k ∨ k = a.block) := by
  -- the cells, once and for all
  have hl := r.len
  have hm : n ≤ maxLen := Nat.le_trans r.cap r.max
  simp only [maxLen] at hm
  have cellsOf : ∀ i, i ≤ l.length → ∃ xs, Backs A h l i xs ∧ ∀ (L : Nat) (J : List (List Value) → H → Prop) (Stop : H → Prop),
      (∀ x rest h', J (x :: rest) h' → YCalls Try.prog L ⟨x⟩ h' fun v h'' => (v = .bool true ∧ J rest h'' ∧ KpR (fun k => A k ∨ k = a.block) h' h'') ∨ (v = .bool false ∧ Stop h'' ∧ KpR (fun k => A k ∨ k = a.block) h' h'')) →
      ∀ h', Keep (fun k => (A k ∨ k = a.block) ∧ k < h.size) h h' → J xs h' →
        Sx.slices_Backward_1_apiMark1.n3_L (fun h3 => J [] h3 ∨ Stop h3) (fun h3 => J [] h3 ∨ Stop h3) (fun h3 => J [] h3 ∨ Stop h3) (i + 1) (.func (.yield L) ⟨[]⟩ ⟨[]⟩) a ((i : Int) - 1) h' := by
    intro i
    induction i with
    | zero =>
      intro _
      exact ⟨[], rfl, fun L J Stop hY h' hk hJ => splF (by omega) (.inl hJ)⟩
    | succ i ih =>
      intro hi
      obtain ⟨rest, hr, hw⟩ := ih (by omega)
      obtain ⟨ar, ear, hA⟩ := r.at' i _ (List.getElem?_eq_getElem (by omega))
      obtain ⟨b', n', c', eb, r', hz⟩ := (hA.snd.sndAt (k := 2) rfl).sl
      refine ⟨_, ⟨by omega, b', n', c', rest, markR r' hz hA.fst.int.2 hA.snd.fst.str.2, rfl, hr⟩, fun L J Stop hY h' hk hJ => ?_⟩
      have hx : ((i + 1 : Nat) : Int) - 1 = (i : Int) := by omega
      rw [hx]
      have hal : A ar.block := by have := hA.1; rwa [add_block] at this
      have hcell : ∀ j x, cell h ((ar.add (i * 3)).add j) = some x → cell h' ((ar.add (i * 3)).add j) = some x := fun j x e => hk.cell (by rw [add_block, add_block]; exact ⟨.inl hal, by have := cell_lt e; rwa [add_block, add_block] at this⟩) e
      have v' : Var h' a 22 [.slice b n c] := v.keep hk ⟨.inr rfl, v.lt⟩
      refine splT (by omega) ⟨_, _, _, v'.cell0 rfl, ⟨by omega, by omega⟩, ?_⟩
      rw [ear]
      refine ⟨_, hcell 0 _ hA.fst.int.1, _, hcell 1 _ hA.snd.fst.str.1, _, _, _, hcell 2 _ eb, ?_⟩
      rw [callYield]
      refine fun w hw2 => ?_
      obtain ⟨fn, tmps, assign, body, hrun, hrd⟩ := hY _ _ _ hJ w hw2
      refine ⟨fn, tmps, assign, body, hrun, hrd.mono ?_⟩
      rintro e w' ⟨v, he, ho, hor⟩
      refine ⟨v, he, ho, ?_⟩
      have hxx : (i : Int) - 1 = (i : Int) - (1 : Int) := rfl
      rcases hor with ⟨rfl, hJ', hkr⟩ | ⟨rfl, hS, hkr⟩
      · exact ⟨rng64 (by omega) (by omega), hw L J Stop hY _ (Keep.trans (hw2 ▸ hk) (hkr.keep.less fun _ h => h.1)) hJ'⟩
      · exact .inr hS
  obtain ⟨xs, hB, hw⟩ := cellsOf l.length (Nat.le_refl _)
  refine ⟨xs, hB, 37, _, _, rfl, fun args w => by kernel_rfl, fun L J Stop h2 hn hJ hS hY hj => ?_⟩
  refine Sx.slices_Backward_1_apiMark1.ok (.func (.yield L) ⟨[]⟩ ⟨[]⟩) a _ _ ?_
  refine ⟨_, _, _, (v.kw hn.kw).cell0 rfl, rng64 (by omega) (by omega), l.length + 1, ?_⟩
  rw [← hl]
  exact hw L J Stop hY h2 (hn.kw.less fun _ h => h.2) hj
end Go.Proofs
