/- marks: slices.Backward of marks. No condition. -/
import Derived.Test.YtmnjhhgdhlgjfaaGreatMsA
import Derived.Test.YtmnjhhgdhlgjfaaGreatHmE
namespace Go.Proofs
open Go Go.Sh
set_option linter.unusedVariables false
set_option maxRecDepth 100000
/-- what a walk backward hands over, from a place on -/
def Backs (A : Nat → Prop) (h : H) (l : List MarkP) : Nat → List (List Value) → Prop
  | 0, xs => xs = []
  | i + 1, xs => ∃ (hi : i < l.length) (b : Option Addr) (n c : Nat) (rest : List (List Value)), MarkR A h l[i] b n c ∧ xs = [.int .i64 i, .agg ⟨[.int .i64 l[i].1, S l[i].2.1, .slice b n c]⟩] :: rest ∧ Backs A h l i rest
theorem Backs.kw {A : Nat → Prop} {h h' : H} {l : List MarkP} (k : KW h h') : ∀ {i : Nat} {xs : List (List Value)}, Backs A h l i xs → Backs A h' l i xs
  | 0, _, e => e
  | i + 1, _, ⟨hi, b, n, c, rest, hm, e, hr⟩ => ⟨hi, b, n, c, rest, hm.kw k, e, hr.kw k⟩
theorem Backs.of {A : Nat → Prop} {h : H} {b : Option Addr} {n c : Nat} {l : List MarkP} (r : Row elMark A h b n c l) : ∀ {i : Nat}, i ≤ l.length → ∃ xs, Backs A h l i xs
  | 0, _ => ⟨[], rfl⟩
  | i + 1, hi => by
    obtain ⟨rest, hr⟩ := Backs.of r (i := i) (by omega)
    obtain ⟨a, e, hA⟩ := r.at' i _ (List.getElem?_eq_getElem (by omega))
    obtain ⟨b', n', c', _, r', hz⟩ := (hA.snd.sndAt (k := 2) rfl).sl
    exact ⟨_, by omega, b', n', c', rest, markR r' hz hA.fst.int.2 hA.snd.fst.str.2, rfl, hr⟩
theorem Backs.len {A : Nat → Prop} {h : H} {l : List MarkP} : ∀ {i : Nat} {xs : List (List Value)}, Backs A h l i xs → ∀ x ∈ xs, x.length = 2
  | 0, _, e, x, hx => by simp [Backs] at e; rw [e] at hx; cases hx
  | i + 1, _, ⟨hi, b, n, c, rest, hm, e, hr⟩, x, hx => by
    rw [e] at hx
    rcases List.mem_cons.1 hx with rfl | hx
    · rfl
    · exact hr.len x hx
/-- slices.Backward of marks hands over what it says -/
theorem backward_emits {A : Nat → Prop} {h : H} {b : Option Addr} {n c : Nat} {l : List MarkP} {a : Addr} (r : Row elMark A h b n c l) (v : Var h a 40 [.slice b n c]) :
    ∃ xs, Backs A h l l.length xs ∧ Emits Tryz.prog (.func (.func 86) ⟨[]⟩ ⟨[.pointer (some a)]⟩) h xs Non (fun k => A k ∨ k = a.block) := by
  -- the cells, once and for all
  have hl := r.len
  have hm : n ≤ maxLen := Nat.le_trans r.cap r.max
  simp only [maxLen] at hm
  have cellsOf : ∀ i, i ≤ l.length → ∃ xs, Backs A h l i xs ∧ ∀ (L : Nat) (J : List (List Value) → H → Prop) (Stop : H → Prop),
      (∀ x rest h', J (x :: rest) h' → YCalls Tryz.prog L ⟨x⟩ h' fun v h'' => (v = .bool true ∧ J rest h'' ∧ KpR (fun k => A k ∨ k = a.block) h' h'') ∨ (v = .bool false ∧ Stop h'' ∧ KpR (fun k => A k ∨ k = a.block) h' h'')) →
      ∀ h', Keep (fun k => (A k ∨ k = a.block) ∧ k < h.size) h h' → J xs h' →
        Sx.slices_Backward_1_apiMark1.n3_L (fun h3 => J [] h3 ∨ Stop h3) (fun h3 => J [] h3 ∨ Stop h3) (fun h3 => J [] h3 ∨ Stop h3) (i + 1) (.func (.yield L) ⟨[]⟩ ⟨[]⟩) a ((i : Int) - 1) h' := by
    intro i
    induction i with
    | zero =>
      intro _
      exact ⟨[], rfl, fun L J Stop hY h' hk hJ => splF (by omega) (.inl hJ)⟩
    | succ i ih =>
      intro hi
      obtain ⟨rest, hr, hw⟩ := ih (by omega)
      obtain ⟨ar, ear, hA⟩ := r.at' i _ (List.getElem?_eq_getElem (by omega))
      obtain ⟨b', n', c', eb, r', hz⟩ := (hA.snd.sndAt (k := 2) rfl).sl
      refine ⟨_, ⟨by omega, b', n', c', rest, markR r' hz hA.fst.int.2 hA.snd.fst.str.2, rfl, hr⟩, fun L J Stop hY h' hk hJ => ?_⟩
      have hx : ((i + 1 : Nat) : Int) - 1 = (i : Int) := by omega
      rw [hx]
      have hal : A ar.block := by have := hA.1; rwa [add_block] at this
      have hcell : ∀ j x, cell h ((ar.add (i * 3)).add j) = some x → cell h' ((ar.add (i * 3)).add j) = some x := fun j x e => hk.cell (by rw [add_block, add_block]; exact ⟨.inl hal, by have := cell_lt e; rwa [add_block, add_block] at this⟩) e
      have v' : Var h' a 40 [.slice b n c] := v.keep hk ⟨.inr rfl, v.lt⟩
      refine splT (by omega) ⟨_, _, _, v'.cell0 rfl, ⟨by omega, by omega⟩, ?_⟩
      rw [ear]
      refine ⟨_, hcell 0 _ hA.fst.int.1, _, hcell 1 _ hA.snd.fst.str.1, _, _, _, hcell 2 _ eb, ?_⟩
      rw [callYield]
      refine fun w hw2 => ?_
      obtain ⟨fn, tmps, assign, body, hrun, hrd⟩ := hY _ _ _ hJ w hw2
      refine ⟨fn, tmps, assign, body, hrun, hrd.mono ?_⟩
      rintro e w' ⟨v, he, ho, hor⟩
      refine ⟨v, he, ho, ?_⟩
      have hxx : (i : Int) - 1 = (i : Int) - (1 : Int) := rfl
      rcases hor with ⟨rfl, hJ', hkr⟩ | ⟨rfl, hS, hkr⟩
      · exact ⟨rng64 (by omega) (by omega), hw L J Stop hY _ (Keep.trans (hw2 ▸ hk) (hkr.keep.less fun _ h => h.1)) hJ'⟩
      · exact .inr hS
  obtain ⟨xs, hB, hw⟩ := cellsOf l.length (Nat.le_refl _)
  refine ⟨xs, hB, 86, _, _, rfl, fun args w => by kernel_rfl, fun L J Stop h2 hn hJ hS hY hj => ?_⟩
  refine Sx.slices_Backward_1_apiMark1.ok (.func (.yield L) ⟨[]⟩ ⟨[]⟩) a _ _ ?_
  refine ⟨_, _, _, (v.kw hn.kw).cell0 rfl, rng64 (by omega) (by omega), l.length + 1, ?_⟩
  rw [← hl]
  exact hw L J Stop hY h2 (hn.kw.less fun _ h => h.2) hj
theorem rdMark {i j : Int} {s : Bs} {b : Option Addr} {n c : Nat} {K : Int → Int → Bs → Option Addr → Nat → Nat → Prop} (h : K i j s b n c) :
    uncons [.int .i64 i, .agg ⟨[.int .i64 j, S s, .slice b n c]⟩] fun e l => vInt .i64 e fun i => uncons l fun e l2 => vAgg e fun l3 => uncons l3 fun e l4 => vInt .i64 e fun j => uncons l4 fun e l5 => vStr e fun s => uncons l5 fun e l6 => vSlice e fun b n c => unnil l6 (unnil l2 (K i j s b n c)) := h
section
variable {A : Nat → Prop} {h : H} {b : Option Addr} {n c : Nat} {l : List MarkP}
/-- slices.Backward -/
theorem backward_calls (r : Row elMark A h b n c l) {K : Value → H → Prop} (hk : ∀ a h', Var h' a 40 [.slice b n c] → KB h h' → a.block = h.size → K (.func (.func 86) ⟨[]⟩ ⟨[.pointer (some a)]⟩) h') :
    HCalls Tryz.prog 72 ⟨[.slice b n c]⟩ h K :=
  Sx.slices_Backward_apiMark.ok _ _ _ _ _ (newx_var fun a1 h1 v1 k1 e1 _ => hk a1 h1 v1 k1 e1)
end
end Go.Proofs
