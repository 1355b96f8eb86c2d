/- dom: rows of ints of one's own: slices.Insert, slices.Delete, slices.Index, append. No condition. dom: the memory of a tree: each block has a colour, whose it is. No condition. -/
import Derived.Test.YtmnjhhgdhlgjfaaGreatShelf
import Derived.Test.YtmnjhhgdhlgjfaaGreatHmI
import Derived.Test.YtmnjhhgdhlgjfaaGreatTxA
namespace Go.Proofs
open Go Go.Sh
set_option linter.unusedVariables false
set_option maxRecDepth 100000
/-! ### cells that are set -/
theorem setCell_heap {w : World} {g o : Nat} {cur : Array Value} {e : Nat} {fz : Nat × Nat} {v : Value} (hg : w.heap[g]? = some (.cells cur e fz)) :
    (w.setCell ⟨g, o, none⟩ v).heap[g]? = some (.cells (cur.setIfInBounds o v) e fz) ∧ (∀ k, k ≠ g → (w.setCell ⟨g, o, none⟩ v).heap[k]? = w.heap[k]?) ∧ (w.setCell ⟨g, o, none⟩ v).heap.size = w.heap.size ∧ Outer w (w.setCell ⟨g, o, none⟩ v) := by
  refine ⟨?_, fun k hk => ?_, World.size_setCell .., ⟨rfl, rfl, rfl⟩⟩
  · show (w.heap.modify g _)[g]? = _
    rw [Array.getElem?_modify, if_pos rfl, hg]; rfl
  · show (w.heap.modify g _)[k]? = _
    rw [Array.getElem?_modify, if_neg (fun e => hk e.symm)]
theorem setCells_heap {g : Nat} {e : Nat} {fz : Nat × Nat} : ∀ (vs : List Value) (o : Nat) (w : World) (cur : Array Value), w.heap[g]? = some (.cells cur e fz) → o + vs.length ≤ cur.size →
    ∃ cur' : Array Value, (w.setCells g o vs).heap[g]? = some (.cells cur' e fz) ∧ cur'.toList = cur.toList.take o ++ vs ++ cur.toList.drop (o + vs.length) ∧ cur'.size = cur.size ∧
      (∀ k, k ≠ g → (w.setCells g o vs).heap[k]? = w.heap[k]?) ∧ (w.setCells g o vs).heap.size = w.heap.size ∧ Outer w (w.setCells g o vs)
  | [], o, w, cur, hg, hl => ⟨cur, hg, by simp, rfl, fun _ _ => rfl, rfl, Outer.refl w⟩
  | v :: vs, o, w, cur, hg, hl => by
    obtain ⟨h1, h2, h3, h4⟩ := setCell_heap (o := o) (v := v) hg
    rw [List.length_cons] at hl
    obtain ⟨cur', c1, c2, c3, c4, c5, c6⟩ := setCells_heap vs (o + 1) _ _ h1 (by simp <;> omega)
    refine ⟨cur', c1, ?_, by rw [c3]; simp, fun k hk => (c4 k hk).trans (h2 k hk), c5.trans h3, h4.trans c6⟩
    rw [c2, Array.toList_setIfInBounds]
    have ho : o < cur.toList.length := by simp <;> omega
    rw [List.length_cons, show o + (vs.length + 1) = o + 1 + vs.length by omega]
    have e1 : (cur.toList.set o v).take (o + 1) = cur.toList.take o ++ [v] := by
      rw [List.take_add_one, List.take_set_of_le (Nat.le_refl _), List.getElem?_set_self ho]; rfl
    have e2 : (cur.toList.set o v).drop (o + 1 + vs.length) = cur.toList.drop (o + 1 + vs.length) := List.drop_set_of_lt (by omega)
    rw [e1, e2]; simp

/-! ### a row of ints of one's own -/
structure OwnI (h : H) (b : Option Addr) (n c : Nat) (l : List Int) : Prop where
  own : Own h 0 3 1 b n c (l.map (Value.int .i64))
  rng : ∀ x ∈ l, Rng .i64 x
  nil : b = none → c = 0
  hi : ∀ a, b = some a → a.block < h.size
theorem OwnI.len {h : H} {b : Option Addr} {n c : Nat} {l : List Int} (o : OwnI h b n c l) : l.length = n := by have := o.own.len; simpa using this
theorem OwnI.none (h : H) : OwnI h none 0 0 [] := ⟨Own.nil _ _ _ _ _, (fun x hx => by cases hx), fun _ => rfl, fun a e => by cases e⟩
theorem OwnI.keep {h h' : H} {B : Nat → Prop} {b : Option Addr} {n c : Nat} {l : List Int} (o : OwnI h b n c l) (k : Keep B h h') (hb : ∀ a, b = some a → B a.block) : OwnI h' b n c l :=
  ⟨o.own.keep k fun g e _ _ => hb _ e, o.rng, o.nil, fun a e => Nat.lt_of_lt_of_le (o.hi a e) k.1⟩
theorem encInts : ∀ {A : Nat → Prop} {h : H} (l : List Int), (∀ x ∈ l, Rng .i64 x) → Enc (elInt .i64) A h l (l.map (Value.int .i64))
  | A, h, [], _ => rfl
  | A, h, x :: l, hr => ⟨[_], _, rfl, ⟨rfl, hr x (List.mem_cons_self ..)⟩, encInts l fun y hy => hr y (List.mem_cons_of_mem _ hy)⟩
theorem OwnI.row {A : Nat → Prop} {h : H} {b : Option Addr} {n c : Nat} {l : List Int} (o : OwnI h b n c l) (hA : ∀ a, b = some a → A a.block) : Row (elInt .i64) A h b n c l :=
  Row.of (encInts l o.rng) o.own.cells o.len o.own.cap o.own.max hA
theorem oneI (l : List Int) : ∀ v ∈ l.map (Value.int .i64), v.oneCell' = true := fun v hv => by obtain ⟨x, _, rfl⟩ := List.mem_map.1 hv; rfl
theorem addG (g j : Nat) : ((⟨g, 0, none⟩ : Addr).add j) = ⟨g, j, none⟩ := by unfold Addr.add; split <;> simp_all
/-- where a row lies behind a change -/
abbrev NewB (h : H) (b b' : Option Addr) : Prop := ∀ q, b' = some q → b = some q ∨ h.size ≤ q.block
/-- what a change of a row does to the heap -/
theorem grow_of {h h' : H} {b : Option Addr} {g : Nat} (e : b = some ⟨g, 0, none⟩) (hs : h.size ≤ h'.size) (ho : ∀ k, k ≠ g → k < h.size → h'[k]? = h[k]?) : Grow h h' b :=
  ⟨hs, fun k hk hne => ho k (fun e2 => hne _ e e2.symm) hk⟩
section
variable {h : H} {K : Value → H → Prop} {b : Option Addr} {n c : Nat} {l : List Int}
theorem insI_calls {i : Nat} {x : Int} {av : Addr} (o : OwnI h b n c l) (hi : i ≤ n) (v : Var h av 3 [.int .i64 x]) (hav : ∀ a, b = some a → a.block ≠ av.block) (hx : Rng .i64 x) (hn : n ≤ 1000000)
    (hk : ∀ b' c' h', OwnI h' b' (n + 1) c' (l.take i ++ x :: l.drop i) → Grow h h' b → NewB h b b' → K (.slice b' (n + 1) c') h') :
    HCalls Tryz.prog 60 ⟨[.slice b n c, .int .i64 (i : Int), .slice (some av) 1 1]⟩ h K := by
  have hl := o.len
  have hcap := o.own.cap
  have hmax := o.own.max
  have hr : ∀ y ∈ l.take i ++ x :: l.drop i, Rng .i64 y := fun y hy => by
    rcases List.mem_append.1 hy with hy | hy
    · exact o.rng y (List.mem_of_mem_take hy)
    · rcases List.mem_cons.1 hy with rfl | hy
      · exact hx
      · exact o.rng y (List.mem_of_mem_drop hy)
  have hlen : (l.take i ++ x :: l.drop i).length = n + 1 := by simp <;> omega
  have hvs : ∀ w : World, w.heap = h → ∀ (j : Nat) u, [Value.int .i64 x][j]? = some u → w.cell? ⟨av.block, 0 + j, none⟩ = some u := fun w hw j u hu => by
    have := v.cell j hu
    rw [v.is] at this
    rw [cell_eq, hw, Nat.zero_add]
    unfold Addr.add at this
    split at this <;> simp_all
  have h1v : ∀ u ∈ [Value.int .i64 x], u.oneCell' = true := fun u hu => by rw [List.mem_singleton.1 hu]; rfl
  have eav : (some av : Option Addr) = some ⟨av.block, 0, none⟩ := congrArg some v.is
  rw [eav]
  intro w hw
  subst hw
  rcases o.own.is with ⟨hn0, hc0⟩ | ⟨g, cur, rfl, hb0, hg, hcs, htk⟩
  · -- nothing yet
    subst hn0; subst hc0
    have hl0 : l = [] := List.eq_nil_of_length_eq_zero hl
    subst hl0
    have hi0 : i = 0 := by omega
    subst hi0
    refine (Tryz.ins_end_grow b 0 0 av.block 0 1 1 [] [.int .i64 x] w (by omega) (by omega) (by omega) (by omega) rfl rfl (fun _ => rfl) (fun a e j u hu => by simp at hu) (hvs w rfl) h1v).mono ?_
    rintro e w' ⟨rfl, rfl⟩
    have g1 := grownCap_ge w (0 + 1) 0 (Tryz.laysNm221_ren.t 3)
    have g2 := grownCap_le_maxLen w (0 + 1) 0 (Tryz.laysNm221_ren.t 3) (by simp only [maxLen]; omega)
    generalize grownCap w (0 + 1) 0 (Tryz.laysNm221_ren.t 3) = gc at *
    refine ⟨_, rfl, ⟨rfl, rfl, rfl⟩, hk _ _ _ ⟨⟨by simp, g1, g2, .inr ⟨w.heap.size, _, rfl, Nat.zero_le _, World.alloc_heap_new _ _, ?_, ?_⟩⟩, hr, (fun e => by cases e), fun a e => by cases e; simp [World.alloc]⟩ ⟨by simp [World.alloc], fun k hk hne => ?_⟩ fun q e => by cases e; exact .inr (Nat.le_refl _)⟩
    · simp [size_zeroCells, Value.cells]; omega
    · simp
    · exact alloc_old _ _ _ hk
  · have hcs' : cur.size = c := by rw [hcs, Nat.mul_one]
    rw [Nat.mul_one] at htk
    have hcl : cur.toList.length = c := by simp [hcs']
    have hcell : ∀ j u, cur[j]? = some u → w.cell? ⟨g, 0 + j, none⟩ = some u := fun j u hu => by
      rw [Nat.zero_add, ← addG, cell_eq, cell_lit hg]; exact hu
    have hcx : ∀ (j : Nat) u, (l.map (Value.int .i64))[j]? = some u → w.cell? ⟨g, 0 + j, none⟩ = some u := fun j u hu => by
      refine hcell j u ?_
      rw [← htk, List.getElem?_take] at hu
      split at hu
      · simpa using hu
      · cases hu
    have hsp : ∀ j, j < c → (w.cell? ⟨g, 0 + j, none⟩).isSome = true := fun j hj => by
      rw [hcell j (cur[j]'(by omega)) (Array.getElem?_eq_getElem (by omega))]; rfl
    have hfz : ∀ j, w.frozen? ⟨g, j, none⟩ = false := fun j => by
      show (match w.heap[g]? with | some (.cells _ _ (lo, hi)) => lo ≤ j && j < hi | _ => false) = false
      rw [hg]; simp
    have hml : (l.map (Value.int .i64)).length = n := by simp [hl]
    simp only [maxLen] at hmax
    by_cases hin : i = n
    · subst hin
      by_cases hroom : i + 1 ≤ c
      · refine (Tryz.ins_end_room g 0 i c av.block 0 1 1 [.int .i64 x] w (by omega) hroom (by omega) rfl (fun j hj => by rw [show 0 + i + j = 0 + (i + j) by omega]; exact hsp _ (by omega)) (fun j hj => hfz _) (hvs w rfl) h1v).mono ?_
        rintro e w' ⟨rfl, rfl⟩
        obtain ⟨cur', c1, c2, c3, c4, c5, c6⟩ := setCells_heap [Value.int .i64 x] (0 + i) w cur hg (by simp <;> omega)
        refine ⟨_, rfl, c6, hk _ _ _ ⟨⟨by simp <;> omega, hroom, by simp only [maxLen]; omega, .inr ⟨g, cur', rfl, Nat.zero_le _, c1, by rw [c3, hcs]; , ?_⟩⟩, hr, (fun e => by cases e), fun a e => by cases e; rw [c5]; exact (Array.getElem?_eq_some_iff.1 hg).1⟩ (grow_of rfl (by rw [c5]; exact Nat.le_refl _) fun k hk _ => c4 k hk) fun q e => .inl e⟩
        rw [c2, Nat.zero_add, htk, Nat.mul_one, List.take_of_length_le (l := l) (by omega), List.drop_of_length_le (l := l) (by omega)]
        rw [List.take_append_of_le_length (by simp <;> omega), List.take_of_length_le (by simp <;> omega)]
        simp
      · refine (Tryz.ins_end_grow (some ⟨g, 0, none⟩) i c av.block 0 1 1 (l.map (Value.int .i64)) [.int .i64 x] w (by omega) hcap (by omega) (by omega) hml rfl (fun e => by cases e) (fun a e j u hu => by cases e; have := hcx j u hu; rw [Nat.zero_add] at this; rwa [addG]) (hvs w rfl) h1v).mono ?_
        rintro e w' ⟨rfl, rfl⟩
        have g1 := grownCap_ge w (i + 1) c (Tryz.laysNm221_ren.t 3)
        have g2 := grownCap_le_maxLen w (i + 1) c (Tryz.laysNm221_ren.t 3) (by simp only [maxLen]; omega)
        generalize grownCap w (i + 1) c (Tryz.laysNm221_ren.t 3) = gc at *
        refine ⟨_, rfl, ⟨rfl, rfl, rfl⟩, hk _ _ _ ⟨⟨by simp <;> omega, g1, g2, .inr ⟨w.heap.size, _, rfl, Nat.zero_le _, World.alloc_heap_new _ _, ?_, ?_⟩⟩, hr, (fun e => by cases e), fun a e => by cases e; simp [World.alloc]⟩ ⟨by simp [World.alloc], fun k hk hne => ?_⟩ fun q e => by cases e; exact .inr (Nat.le_refl _)⟩
        · simp [size_zeroCells, Value.cells, hl]; omega
        · rw [List.take_of_length_le (l := l) (by omega), List.drop_of_length_le (l := l) (by omega)]
          simp only [Array.toList_append, List.map_append, List.map_cons, List.map_nil]
          rw [List.take_append_of_le_length (by simp <;> omega), List.take_of_length_le (by simp <;> omega)]
        · exact alloc_old _ _ _ hk
    · by_cases hroom : n + 1 ≤ c
      · refine (Tryz.ins_shift g 0 n c i av.block 0 1 1 (l.map (Value.int .i64)) [.int .i64 x] w (by omega) (by omega) hroom (by omega) (fun e => hav _ rfl e.symm) hml rfl hcx (fun j hj => hsp j (by omega)) (fun j hj => hfz _) (hvs w rfl) (oneI l) h1v 3 3 1 cur.size
          (by show (match w.heap[av.block]? with | some (.cells cc el _) => some (el, cc.size) | _ => none) = _; rw [v.cells]; rfl) (by show (match w.heap[g]? with | some (.cells cc el _) => some (el, cc.size) | _ => none) = _; rw [hg]) (by omega)
          (by show (match w.heap[av.block]? with | some (.cells _ _ (lo, hi)) => decide (lo ≤ 0) && decide (0 < hi) | _ => false) = false; rw [v.cells]; rfl) (by show (match w.heap[av.block]? with | some (.cells _ _ (lo, hi)) => decide (lo ≤ 1) && decide (1 < hi) | _ => false) = false; rw [v.cells]; rfl)).mono ?_
        rintro e w' ⟨rfl, rfl⟩
        obtain ⟨cur1, c1, c2, c3, c4, c5, c6⟩ := setCells_heap ((l.map (Value.int .i64)).drop i) (0 + (i + 1)) w.drew cur hg (by simp <;> omega)
        obtain ⟨cur2, d1, d2, d3, d4, d5, d6⟩ := setCells_heap [Value.int .i64 x] (0 + i) _ cur1 c1 (by simp <;> omega)
        refine ⟨_, rfl, Outer.trans (Outer.trans (b := w.drew) ⟨rfl, rfl, rfl⟩ c6) d6, hk _ _ _ ⟨⟨by simp <;> omega, hroom, by simp only [maxLen]; omega, .inr ⟨g, cur2, rfl, Nat.zero_le _, d1, by rw [d3, c3, hcs], ?_⟩⟩, hr, (fun e => by cases e), fun a e => by cases e; rw [d5, c5]; exact (Array.getElem?_eq_some_iff.1 hg).1⟩ (grow_of rfl (by rw [d5, c5]; exact Nat.le_refl _) fun k hk _ => (d4 k hk).trans (c4 k hk)) fun q e => .inl e⟩
        rw [d2, c2]
        have et : cur.toList.take i = (l.map (Value.int .i64)).take i := by rw [← htk, List.take_take, Nat.min_eq_left (by omega)]
        have e1 : (cur.toList.take (0 + (i + 1)) ++ (l.map (Value.int .i64)).drop i ++ cur.toList.drop (0 + (i + 1) + ((l.map (Value.int .i64)).drop i).length)).take (0 + i) = (l.map (Value.int .i64)).take i := by
          rw [List.append_assoc, List.take_append_of_le_length (by simp <;> omega), List.take_take, Nat.min_eq_left (by omega), Nat.zero_add, et]
        have e2 : (cur.toList.take (0 + (i + 1)) ++ (l.map (Value.int .i64)).drop i ++ cur.toList.drop (0 + (i + 1) + ((l.map (Value.int .i64)).drop i).length)).drop (0 + i + [Value.int .i64 x].length) = (l.map (Value.int .i64)).drop i ++ cur.toList.drop (0 + (i + 1) + ((l.map (Value.int .i64)).drop i).length) := by
          rw [List.append_assoc, List.drop_append_of_le_length (by simp <;> omega), List.drop_of_length_le (by simp <;> omega), List.nil_append]
        rw [e1, e2, Nat.mul_one, ← List.append_assoc, List.take_append_of_le_length (by simp <;> omega), List.take_of_length_le (by simp <;> omega)]
        simp
      · refine (Tryz.ins_grow g 0 n c i av.block 0 1 1 (l.map (Value.int .i64)) [.int .i64 x] w (by omega) (by omega) hcap (by omega) (by omega) hml rfl hcx (hvs w rfl) (oneI l) h1v).mono ?_
        rintro e w' ⟨rfl, rfl⟩
        have g1 := grownCap_ge w (n + 1) c (Tryz.laysNm221_ren.t 3)
        have g2 := grownCap_le_maxLen w (n + 1) c (Tryz.laysNm221_ren.t 3) (by simp only [maxLen]; omega)
        have hz1 : ∀ m, (Builtin.zeroCells (Value.int .i64 0).cells m).size = m := fun m => by simp [size_zeroCells, Value.cells]
        generalize grownCap w (n + 1) c (Tryz.laysNm221_ren.t 3) = gc at *
        generalize hnew : (((l.map (Value.int .i64)).take i).toArray ++ Builtin.zeroCells (Value.int .i64 0).cells (n + 1 - i) ++ Builtin.zeroCells (Value.int .i64 0).cells (gc - (n + 1))) = nw
        have hns : nw.size = gc := by rw [← hnew]; simp only [Array.size_append, hz1]; simp; omega
        have hnt : nw.toList.take i = (l.map (Value.int .i64)).take i := by
          rw [← hnew]; simp only [Array.toList_append]
          rw [List.append_assoc, List.take_append_of_le_length (by simp <;> omega), List.take_of_length_le (by simp <;> omega)]
        obtain ⟨cur1, c1, c2, c3, c4, c5, c6⟩ := setCells_heap [Value.int .i64 x] i (w.alloc (.cells nw (Tryz.laysNm221_ren.t 3))).drew nw (World.alloc_heap_new _ _) (by simp <;> omega)
        obtain ⟨cur2, d1, d2, d3, d4, d5, d6⟩ := setCells_heap ((l.map (Value.int .i64)).drop i) (i + 1) ((w.alloc (.cells nw (Tryz.laysNm221_ren.t 3))).drew.setCells w.heap.size i [Value.int .i64 x]).drew cur1 c1 (by simp <;> omega)
        refine ⟨_, rfl, Outer.trans (Outer.trans (b := (w.alloc (.cells nw (Tryz.laysNm221_ren.t 3))).drew) ⟨rfl, rfl, rfl⟩ c6) (Outer.trans (b := ((w.alloc (.cells nw (Tryz.laysNm221_ren.t 3))).drew.setCells w.heap.size i [Value.int .i64 x]).drew) ⟨rfl, rfl, rfl⟩ d6), hk _ _ _ ⟨⟨by simp <;> omega, g1, g2, .inr ⟨w.heap.size, cur2, rfl, Nat.zero_le _, d1, by rw [d3, c3, hns, Nat.mul_one], ?_⟩⟩, hr, (fun e => by cases e), fun a e => by cases e; rw [d5]; show _ < (World.setCells _ _ _ _).heap.size; rw [c5]; show w.heap.size < (w.heap.push _).size; rw [Array.size_push]; omega⟩ ⟨?_, fun k hk hne => ?_⟩ fun q e => by cases e; exact .inr (Nat.le_refl _)⟩
        · rw [d2, c2, hnt]
          have e1 : ((l.map (Value.int .i64)).take i ++ [Value.int .i64 x] ++ nw.toList.drop (i + [Value.int .i64 x].length)).take (i + 1) = (l.map (Value.int .i64)).take i ++ [Value.int .i64 x] := by
            rw [List.take_append_of_le_length (by simp <;> omega), List.take_of_length_le (by simp <;> omega)]
          rw [e1, Nat.mul_one, List.take_append_of_le_length (by simp <;> omega), List.take_of_length_le (by simp <;> omega)]
          simp
        · rw [d5]; show _ ≤ (World.setCells _ _ _ _).heap.size; rw [c5]; show w.heap.size ≤ (w.heap.push _).size; rw [Array.size_push]; omega
        · have hk2 : k ≠ w.heap.size := by omega
          exact (d4 k hk2).trans ((c4 k hk2).trans (alloc_old _ _ _ hk))
end
end Go.Proofs
namespace Go.Proofs
open Go Go.Sh
set_option linter.unusedVariables false
set_option maxRecDepth 100000
theorem rngI {n : Int} (h1 : -9223372036854775808 ≤ n) (h2 : n ≤ 9223372036854775807) : Rng .i64 n := ⟨h1, h2⟩
/-! ### slices.Delete, slices.Index, slices.Clone -/
section
variable {h : H} {K : Value → H → Prop} {b : Option Addr} {n c : Nat} {l : List Int}
theorem delI_calls {i : Nat} (o : OwnI h b n c l) (hi : i < n) (hk : ∀ h', OwnI h' b (n - 1) c (l.eraseIdx i) → Grow h h' b → K (.slice b (n - 1) c) h') :
    HCalls Tryz.prog 80 ⟨[.slice b n c, .int .i64 (i : Int), .int .i64 ((i + 1 : Nat) : Int)]⟩ h K := by
  have hl := o.len
  have hcap := o.own.cap
  have hmax := o.own.max
  intro w hw
  subst hw
  rcases o.own.is with ⟨hn0, hc0⟩ | ⟨g, cur, rfl, hb0, hg, hcs, htk⟩
  · omega
  · rw [Nat.mul_one] at htk hcs
    simp only [maxLen] at hmax
    have hcl : cur.toList.length = c := by simp [hcs]
    refine (Tryz.slices_Delete_int_cells g 0 n c i (i + 1) l w (by omega) hcap (by omega) (by omega) (by omega) (fun j hj => ?_) (fun j hj => ?_)).mono ?_
    · rw [Nat.zero_add, ← addG, cell_eq, cell_lit hg]
      have : (l.map (Value.int .i64))[j]? = some (.int .i64 (l.getD j 0)) := by
        rw [List.getElem?_map, List.getElem?_eq_getElem hj, List.getD_eq_getElem?_getD, List.getElem?_eq_getElem hj]; rfl
      rw [← htk, List.getElem?_take, if_pos (by omega)] at this
      simpa using this
    · show (match w.heap[g]? with | some (.cells _ _ (lo, hi)) => decide (lo ≤ 0 + j) && decide (0 + j < hi) | _ => false) = false
      rw [hg]; simp
    rintro e w' ⟨rfl, q, rfl⟩
    have ee : ((l.take n).take i ++ (l.take n).drop (i + 1) ++ List.replicate (i + 1 - i) (0 : Int)) = l.eraseIdx i ++ [0] := by
      rw [List.take_of_length_le (l := l) (by omega), List.eraseIdx_eq_take_drop_succ, show i + 1 - i = 1 by omega]; rfl
    rw [ee]
    have hle : (l.eraseIdx i).length = n - 1 := by rw [List.length_eraseIdx]; split <;> omega
    obtain ⟨cur', c1, c2, c3, c4, c5, c6⟩ := setCells_heap ((l.eraseIdx i ++ [0]).map (Value.int .i64)) 0 (w.drewN q) cur hg (by simp <;> omega)
    refine ⟨_, rfl, Outer.trans (b := w.drewN q) ⟨rfl, rfl, rfl⟩ c6, ?_⟩
    rw [show n - (i + 1 - i) = n - 1 by omega]
    refine hk _ ⟨⟨by simp <;> omega, by omega, by simp only [maxLen]; omega, .inr ⟨g, cur', rfl, Nat.zero_le _, c1, by rw [c3, hcs, Nat.mul_one], ?_⟩⟩, fun x hx => o.rng x (List.mem_of_mem_eraseIdx hx), (fun e => by cases e), fun a e => by cases e; rw [c5]; exact (Array.getElem?_eq_some_iff.1 hg).1⟩ (grow_of rfl (by rw [c5]; exact Nat.le_refl _) fun k hk _ => c4 k hk)
    rw [c2, Nat.mul_one, List.take_zero, List.nil_append, List.map_append, List.append_assoc, List.take_append_of_le_length (by simp <;> omega), List.take_of_length_le (by simp <;> omega)]
/-- where an element stands -/
def idxN (x : Int) : List Int → Nat
  | [] => 0
  | y :: l => if x = y then 0 else idxN x l + 1
theorem idxN_at {x : Int} : ∀ {l : List Int} {i : Nat}, x ∉ l.take i → l[i]? = some x → idxN x l = i
  | [], i, _, h => by simp at h
  | y :: l, 0, _, h => by simp at h; unfold idxN; rw [if_pos h.symm]
  | y :: l, i + 1, hn, h => by
    rw [List.take_succ_cons, List.mem_cons] at hn
    unfold idxN
    rw [if_neg (fun e => hn (.inl e)), idxN_at (fun hm => hn (.inr hm)) (by simpa using h)]
theorem idxN_get {x : Int} : ∀ {l : List Int}, x ∈ l → l[idxN x l]? = some x
  | [], h => by cases h
  | y :: l, h => by
    unfold idxN
    by_cases e : x = y
    · rw [if_pos e, e]; rfl
    · rw [if_neg e]
      rcases List.mem_cons.1 h with h | h
      · exact absurd h e
      · simpa using idxN_get h
theorem idxN_lt {x : Int} {l : List Int} (h : x ∈ l) : idxN x l < l.length := (List.getElem?_eq_some_iff.1 (idxN_get h)).1
def idxP (l : List Int) (x : Int) : Int := if x ∈ l then (idxN x l : Int) else -1
theorem idxI_calls {A : Nat → Prop} {x : Int} (r : Row (elInt .i64) A h b n c l) (hk : K (.int .i64 (idxP l x)) h) : HCalls Tryz.prog 78 ⟨[.slice b n c, .int .i64 x]⟩ h K := by
  have hl := r.len
  have hm : n ≤ maxLen := Nat.le_trans r.cap r.max
  simp only [maxLen] at hm
  refine Sx.slices_Index_int.ok _ _ _ _ _ _ ⟨n + 1, ?_⟩
  have key : ∀ N i, i + N = n → x ∉ l.take i → Sx.slices_Index_int.n6_L (fun h => Sx.slices_Index_int.n3 (fun y4 h => K (.int .i64 y4) h) (fun y4 h => K (.int .i64 y4) h) h) (fun h => Sx.slices_Index_int.n3 (fun y4 h => K (.int .i64 y4) h) (fun y4 h => K (.int .i64 y4) h) h) (fun y4 h => K (.int .i64 y4) h) (N + 1) b n c x (n : Int) (i : Int) h := by
    intro N
    induction N with
    | zero =>
      intro i hi hno
      unfold Sx.slices_Index_int.n6_L
      refine splF (by omega) ?_
      rw [List.take_of_length_le (by omega)] at hno
      unfold idxP at hk
      rw [if_neg hno] at hk
      exact hk
    | succ N ih =>
      intro i hi hno
      have hil : i < l.length := by omega
      unfold Sx.slices_Index_int.n6_L
      refine splT (by omega) (r.idxN hil rfl fun a hA => ldI hA fun _ => spl (fun e => ?_) fun e => ⟨rngI (by omega) (by omega), ih (i + 1) (by omega) ?_⟩)
      · have hmem : x ∈ l := by rw [e]; exact List.getElem_mem hil
        have hix : idxN x l = i := idxN_at hno (by rw [List.getElem?_eq_getElem hil, e])
        unfold idxP at hk
        rw [if_pos hmem, hix] at hk
        exact hk
      · rw [List.take_add_one, List.getElem?_eq_getElem hil]
        intro hm
        rcases List.mem_append.1 hm with hm | hm
        · exact hno hm
        · simp at hm; exact e hm
  exact key n 0 (by omega) (by simp)
end
theorem clone_k {α : Type} {E : El α} {t e0 by' : Nat} (ap : Apd Tryz.prog E t e0 by') (hsl : isSlD (Tryz.prog.underlying t) = true) {A : Nat → Prop} {h : H} {b : Option Addr} {n c : Nat} {l : List α} {x y : Operand} (r : Row E A h b n c l) (hz : b = none → c = 0) (hn : n ≤ 1000000) (hb : by' ≤ 1000)
    {Kr : Option Addr → Nat → Nat → H → Prop} (hk : ∀ b' c' h', OwnF E h' h.size e0 b' n c' l → KB h h' → Kr b' n c' h') :
    SemH Tryz.prog (binS .eql t x y (.slice b n c) (.slice none 0 0)) h fun v9 h10 => vBool v9 fun b11 => cond b11 (Kr none 0 0 h10) (newx h10 #[] e0 fun a12 h13 => SemH Tryz.prog (Builtin.append_ #[t, t] t ⟨[(.slice (some a12) 0 0), (.slice b n c)]⟩) h13 fun v14 h15 => vSlice v14 fun s16b s16n s16c => Kr s16b s16n s16c h15) := by
  have hl := r.len
  have hcap := r.cap
  refine (semR_slnil hsl ?_).h
  refine vBool_mk (condB (fun e => ?_) fun e => ?_)
  · have hb : b = none := by simpa using e
    have hc := hz hb
    have hn0 : n = 0 := by omega
    subst hn0
    have : l = [] := List.eq_nil_of_length_eq_zero hl
    subst this
    exact hk none 0 h (OwnF.none _ _ _) (KB.refl h)
  · refine newx_var (cs := []) fun a h1 v1 k1 e1 s1 => ?_
    have o1 : OwnF E h1 h.size e0 (some a) 0 0 [] := ⟨OwnT.nil _ _ _ _ _, (fun q e => by cases e; omega), (fun q e => by cases e; exact v1.lt), fun e => by cases e⟩
    have hbb : (0 + n) * by' ≤ 140737488355328 := by
      have : (0 + n) * by' ≤ 1000000 * 1000 := Nat.mul_le_mul (by omega) hb
      omega
    refine OwnF.append ap o1 (r.bel.keep ((KB.w k1).less fun k hk => hk.2) (fun k hk hs => ⟨by omega, fun q e => by cases e; omega⟩)) (by simp only [maxLen]; omega) hbb (by omega) fun b' c' h' o' g' => vSliceMk ?_
    rw [Nat.zero_add] at o' ⊢
    refine hk b' c' h' o' (g'.kb0 k1 fun q e => by cases e; omega)

/-! ### nodes -/
abbrev AttrP := Bs × Bs
abbrev elAttr : El AttrP := elPair elStr elStr
theorem apdAttr : Apd Tryz.prog elAttr 29 79 32 := apd_of (sz := 2) (by kernel_rfl) rfl
structure NodeM where
  kind : Int
  space : Int
  name : Bs
  attrs : List AttrP
  text : Bs
  parent : Int
  kids : List Int
/-- whose a block is: of which tree, and which part: 0 the tree, 1 the row of nodes, 2 i + 2 a node, 2 i + 3 its kids' row -/
abbrev Col := Nat → Option (Nat × Nat)
abbrev Free (col : Col) (h : H) : Nat → Prop := fun k => col k = none ∧ k < h.size
def elPtr : El Addr where
  sz := 1
  R := fun _ _ x cs => cs = [.pointer (some x)]
  len := fun _ _ _ _ h => by rw [h]; rfl
  one := fun _ _ _ _ h v hv => by rw [h] at hv; simp at hv; subst hv; rfl
  keep := fun _ _ _ _ _ _ h _ _ => h
  pos := by decide
theorem apdPtr : Apd Tryz.prog elPtr 85 80 8 := apd_of (sz := 1) (by kernel_rfl) rfl
def nodeC (x : NodeM) (ab : Option Addr) (an ac : Nat) (kb : Option Addr) (kn kc : Nat) : List Value :=
  [.int .u8 x.kind, .int .u8 x.space, S x.name, .slice ab an ac, S x.text, .slice none 0 0, .int .i64 x.parent, .slice kb kn kc]
structure NodeAt (h : H) (col : Col) (s i : Nat) (a : Addr) (x : NodeM) : Prop where
  ex : ∃ ab an ac kb kn kc, Var h a 84 (nodeC x ab an ac kb kn kc) ∧ Row elAttr (Free col h) h ab an ac x.attrs ∧ (ab = none → ac = 0) ∧ OwnI h kb kn kc x.kids ∧ ∀ q, kb = some q → col q.block = some (s, 2 * i + 3)
  col : col a.block = some (s, 2 * i + 2)
  rk : Rng .u8 x.kind
  rs : Rng .u8 x.space
  rp : Rng .i64 x.parent
  fa : x.attrs.length ≤ 1000000
  fn : x.name.length ≤ maxLen
  ft : x.text.length ≤ maxLen
structure TreeP (h : H) (col : Col) (s : Nat) (t : Addr) (ads : List Addr) (ns : List NodeM) : Prop where
  ex : ∃ lb lc, Var h t 87 [.slice lb ns.length lc] ∧ OwnF elPtr h 0 80 lb ns.length lc ads ∧ ∀ q, lb = some q → col q.block = some (s, 1)
  len : ads.length = ns.length
  nodes : ∀ (i : Nat) x a, ns[i]? = some x → ads[i]? = some a → NodeAt h col s i a x
  colt : col t.block = some (s, 0)
  fresh : ∀ k, h.size ≤ k → col k = none
  few : ns.length ≤ 1000000
/-- what an act upon a tree leaves -/
structure Ext (s : Nat) (h : H) (col : Col) (h' : H) (col' : Col) : Prop where
  sk : SK (fun k => k < h.size ∧ ∀ p, col k ≠ some (s, p)) h h'
  cl : ∀ k, k < h.size → col' k = col k
theorem Ext.refl (s : Nat) (h : H) (col : Col) : Ext s h col h col := ⟨SK.refl _ _, fun _ _ => rfl⟩
theorem Ext.trans {s : Nat} {a b c : H} {x y z : Col} (e : Ext s a x b y) (f : Ext s b y c z) : Ext s a x c z :=
  ⟨SK.trans e.sk (f.sk.less fun k hk => ⟨Nat.lt_of_lt_of_le hk.1 e.sk.1, fun p => by rw [e.cl k hk.1]; exact hk.2 p⟩), fun k hk => (f.cl k (Nat.lt_of_lt_of_le hk e.sk.1)).trans (e.cl k hk)⟩
theorem Ext.kb {s : Nat} {h h' : H} {col : Col} (k : KB h h') : Ext s h col h' col := ⟨SK.less k fun k hk => hk.1, fun _ _ => rfl⟩
section
variable {h h' : H} {col col' : Col} {s i : Nat} {t a : Addr} {ads : List Addr} {ns : List NodeM} {x : NodeM}
/-- a node stays where its blocks stay -/
theorem NodeAt.keep (N : NodeAt h col s i a x) {B : Nat → Prop} (k : Keep B h h') (hc : ∀ k, k < h.size → col' k = col k) (hB : ∀ k, k < h.size → (col k = none ∨ col k = some (s, 2 * i + 2) ∨ col k = some (s, 2 * i + 3)) → B k) : NodeAt h' col' s i a x := by
  obtain ⟨ab, an, ac, kb, kn, kc, v, ra, hz, ok, hk⟩ := N.ex
  have hlt := v.lt
  refine ⟨⟨ab, an, ac, kb, kn, kc, v.keep k (hB _ hlt (.inr (.inl N.col))), ra.keep (k.less fun q hq => hB q hq.1.2 (.inl hq.1.1)) (fun q hq hs => ⟨by rw [hc q hs]; exact hq.1, Nat.lt_of_lt_of_le hs k.1⟩), hz, ok.keep k fun q e => hB _ (ok.hi q e) (.inr (.inr (hk q e))), fun q e => by rw [hc _ (ok.hi q e)]; exact hk q e⟩, by rw [hc _ hlt]; exact N.col, N.rk, N.rs, N.rp, N.fa, N.fn, N.ft⟩
theorem TreeP.keep (T : TreeP h col s t ads ns) {B : Nat → Prop} (k : Keep B h h') (hc : ∀ k, k < h.size → col' k = col k) (hf : ∀ k, h'.size ≤ k → col' k = none) (hB : ∀ k, k < h.size → (col k = none ∨ ∃ p, col k = some (s, p)) → B k) : TreeP h' col' s t ads ns := by
  obtain ⟨lb, lc, v, o, hl⟩ := T.ex
  refine ⟨⟨lb, lc, v.keep k (hB _ v.lt (.inr ⟨_, T.colt⟩)), ?_, fun q e => by rw [hc _ (o.hi q e)]; exact hl q e⟩, T.len, fun i x a hx ha => (T.nodes i x a hx ha).keep k hc fun q hq hor => hB q hq (by rcases hor with h | h | h; exact .inl h; exact .inr ⟨_, h⟩; exact .inr ⟨_, h⟩), by rw [hc _ v.lt]; exact T.colt, hf, T.few⟩
  refine ⟨?_, o.lo, fun q e => Nat.lt_of_lt_of_le (o.hi q e) k.1, o.nil⟩
  obtain ⟨xs, h1, h2⟩ := o.own.own
  refine ⟨o.own.len, xs, h1.keep k fun g e _ hg => hB _ hg (.inr ⟨_, hl _ e⟩), ?_⟩
  exact Enc.flat (fun _ _ _ _ _ _ h => h) h2
theorem TreeP.kw (T : TreeP h col s t ads ns) (k : KW h h') : TreeP h' col s t ads ns := T.keep k (fun _ _ => rfl) (fun k' hk => T.fresh k' (Nat.le_trans k.1 hk)) fun k hk _ => hk
theorem TreeP.kb (T : TreeP h col s t ads ns) (k : KB h h') : TreeP h' col s t ads ns := T.kw (KB.w k)
theorem TreeP.other {s' : Nat} (T : TreeP h col s t ads ns) (hs : s ≠ s') (e : Ext s' h col h' col') (hf : ∀ k, h'.size ≤ k → col' k = none) : TreeP h' col' s t ads ns :=
  T.keep e.sk.w e.cl hf fun k hk hor => ⟨hk, fun p e => by
    rcases hor with h | ⟨q, h⟩
    · rw [h] at e; cases e
    · rw [h] at e; cases e; exact hs rfl⟩
/-- one node is another one -/
theorem TreeP.upd (T : TreeP h col s t ads ns) {x' : NodeM} (ha : ads[i]? = some a) (k : SK (fun k => k < h.size ∧ ∀ p, col k = some (s, p) → p ≠ 2 * i + 2 ∧ p ≠ 2 * i + 3) h h') (hc : ∀ k, k < h.size → col' k = col k) (hf : ∀ k, h'.size ≤ k → col' k = none) (hn : NodeAt h' col' s i a x') :
    TreeP h' col' s t ads (ns.set i x') := by
  obtain ⟨lb, lc, v, o, hl⟩ := T.ex
  have T' : ∀ {B : Nat → Prop}, (∀ k, B k → k < h.size ∧ ∀ p, col k = some (s, p) → p ≠ 2 * i + 2 ∧ p ≠ 2 * i + 3) → Keep B h h' := fun hB => k.w.less hB
  have kp := k.w
  refine ⟨⟨lb, lc, by rw [List.length_set]; exact v.keep kp ⟨v.lt, fun p e => by rw [T.colt] at e; cases e; omega⟩, ?_, fun q e => by rw [hc _ (o.hi q e)]; exact hl q e⟩, by rw [List.length_set]; exact T.len, fun j y b hy hb => ?_, by rw [hc _ v.lt]; exact T.colt, hf, by rw [List.length_set]; exact T.few⟩
  · rw [List.length_set]
    refine ⟨?_, o.lo, fun q e => Nat.lt_of_lt_of_le (o.hi q e) k.1, o.nil⟩
    obtain ⟨xs, h1, h2⟩ := o.own.own
    refine ⟨o.own.len, xs, h1.keep kp fun g e _ hg => ⟨hg, fun p e2 => by rw [hl _ e] at e2; cases e2; omega⟩, ?_⟩
    exact Enc.flat (fun _ _ _ _ _ _ h => h) h2
  · by_cases hij : i = j
    · subst hij
      rw [ha] at hb; cases hb
      have hlt : i < ns.length := by have := (List.getElem?_eq_some_iff.1 ha).1; have := T.len; omega
      rw [List.getElem?_set_self hlt] at hy; cases hy
      exact hn
    · rw [List.getElem?_set_ne hij] at hy
      exact (T.nodes j y b hy hb).keep kp hc fun q hq hor => ⟨hq, fun p e => by
        rcases hor with h | h | h
        · rw [h] at e; cases e
        · rw [h] at e; cases e; omega
        · rw [h] at e; cases e; omega⟩
end
end Go.Proofs
