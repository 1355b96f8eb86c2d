import Derived.Test.YtijoifkjeamonaaGreatShelf
import Derived.Test.YtijoifkjeamonaaGreatShQ
import Derived.Test.YtijoifkjeamonaaGreatTxA
namespace Go.Proofs
open Go Go.Sh
set_option linter.unusedVariables false
set_option maxRecDepth 100000
theorem setCell_heap {w : World} {g o : Nat} {cur : Array Value} {e : Nat} {fz : Nat × Nat} {v : Value} (hg : w.heap[g]? = some (.cells cur e fz)) :
    (w.setCell ⟨g, o, none⟩ v).heap[g]? = some (.cells (cur.setIfInBounds o v) e fz) /\ (∀ k, k ≠ g -> (w.setCell ⟨g, o, none⟩ v).heap[k]? = w.heap[k]?) /\ (w.setCell ⟨g, o, none⟩ v).heap.size = w.heap.size /\ Outer w (w.setCell ⟨g, o, none⟩ v) := by
  refine ⟨?_, fun k hk => ?_, World.size_setCell .., ⟨rfl, rfl, rfl⟩⟩
  · show (w.heap.modify g _)[g]? = _
    rw [Array.getElem?_modify, if_pos rfl, hg]; rfl
  · show (w.heap.modify g _)[k]? = _
    rw [Array.getElem?_modify, if_neg (fun e => hk e.symm)]
theorem setCells_heap {g : Nat} {e : Nat} {fz : Nat × Nat} : ∀ (vs : List Value) (o : Nat) (w : World) (cur : Array Value), w.heap[g]? = some (.cells cur e fz) -> o + vs.length <= cur.size ->
    ∃ cur' : Array Value, (w.setCells g o vs).heap[g]? = some (.cells cur' e fz) /\ cur'.toList = cur.toList.take o ++ vs ++ cur.toList.drop (o + vs.length) /\ cur'.size = cur.size /\
      (∀ k, k ≠ g -> (w.setCells g o vs).heap[k]? = w.heap[k]?) /\ (w.setCells g o vs).heap.size = w.heap.size /\ Outer w (w.setCells g o vs)
  | [], o, w, cur, hg, hl => ⟨cur, hg, by simp, rfl, fun _ _ => rfl, rfl, Outer.refl w⟩
  | v :: vs, o, w, cur, hg, hl => by
    obtain ⟨h1, h2, h3, h4⟩ := setCell_heap (o := o) (v := v) hg
    rw [List.length_cons] at hl
    obtain ⟨cur', c1, c2, c3, c4, c5, c6⟩ := setCells_heap vs (o + 1) _ _ h1 (by simp <;> omega)
    refine ⟨cur', c1, ?_, by rw [c3]; simp, fun k hk => (c4 k hk).trans (h2 k hk), c5.trans h3, h4.trans c6⟩
    rw [c2, Array.toList_setIfInBounds]
    have ho : o < cur.toList.length := by simp <;> omega
    rw [List.length_cons, show o + (vs.length + 1) = o + 1 + vs.length by omega]
    have e1 : (cur.toList.set o v).take (o + 1) = cur.toList.take o ++ [v] := by
      rw [List.take_add_one, List.take_set_of_le (Nat.le_refl _), List.getElem?_set_self ho]; rfl
    have e2 : (cur.toList.set o v).drop (o + 1 + vs.length) = cur.toList.drop (o + 1 + vs.length) := List.drop_set_of_lt (by omega)
    rw [e1, e2]; simp
structure OwnI (h : H) (b : Option Addr) (n c : Nat) (l : List Int) : Prop where
  own : Own h 0 3 1 b n c (l.map (Value.int .i64))
  rng : ∀ x ∈ l, Rng .i64 x
  nil : b = none -> c = 0
  hi : ∀ a, b = some a -> a.block < h.size
theorem OwnI.len {h : H} {b : Option Addr} {n c : Nat} {l : List Int} (o : OwnI h b n c l) : l.length = n := by have := o.own.len; simpa using this
theorem OwnI.none (h : H) : OwnI h none 0 0 [] := ⟨Own.nil _ _ _ _ _, (fun x hx => by cases hx), fun _ => rfl, fun a e => by cases e⟩
theorem OwnI.keep {h h' : H} {B : Nat -> Prop} {b : Option Addr} {n c : Nat} {l : List Int} (o : OwnI h b n c l) (k : Keep B h h') (hb : ∀ a, b = some a -> B a.block) : OwnI h' b n c l :=
  ⟨o.own.keep k fun g e _ _ => hb _ e, o.rng, o.nil, fun a e => Nat.lt_of_lt_of_le (o.hi a e) k.1⟩
theorem encInts : ∀ {A : Nat -> Prop} {h : H} (l : List Int), (∀ x ∈ l, Rng .i64 x) -> Enc (elInt .i64) A h l (l.map (Value.int .i64))
  | A, h, [], _ => rfl
  | A, h, x :: l, hr => ⟨[_], _, rfl, ⟨rfl, hr x (List.mem_cons_self ..)⟩, encInts l fun y hy => hr y (List.mem_cons_of_mem _ hy)⟩
theorem OwnI.row {A : Nat -> Prop} {h : H} {b : Option Addr} {n c : Nat} {l : List Int} (o : OwnI h b n c l) (hA : ∀ a, b = some a -> A a.block) : Row (elInt .i64) A h b n c l :=
  Row.of (encInts l o.rng) o.own.cells o.len o.own.cap o.own.max hA
theorem oneI (l : List Int) : ∀ v ∈ l.map (Value.int .i64), v.oneCell' = true := fun v hv => by obtain ⟨x, _, rfl⟩ := List.mem_map.1 hv; rfl
theorem addG (g j : Nat) : ((⟨g, 0, none⟩ : Addr).add j) = ⟨g, j, none⟩ := by unfold Addr.add; split <;> simp_all
abbrev NewB (h : H) (b b' : Option Addr) : Prop := ∀ q, b' = some q -> b = some q ∨ h.size <= q.block
theorem grow_of {h h' : H} {b : Option Addr} {g : Nat} (e : b = some ⟨g, 0, none⟩) (hs : h.size <= h'.size) (ho : ∀ k, k ≠ g -> k < h.size -> h'[k]? = h[k]?) : Grow h h' b :=
  ⟨hs, fun k hk hne => ho k (fun e2 => hne _ e e2.symm) hk⟩
section
variable {h : H} {K : Value -> H -> Prop} {b : Option Addr} {n c : Nat} {l : List Int}
theorem insI_calls {i : Nat} {x : Int} {av : Addr} (o : OwnI h b n c l) (hi : i <= n) (v : Var h av 3 [.int .i64 x]) (hav : ∀ a, b = some a -> a.block ≠ av.block) (hx : Rng .i64 x) (hn : n <= 1000000)
    (hk : ∀ b' c' h', OwnI h' b' (n + 1) c' (l.take i ++ x :: l.drop i) -> Grow h h' b -> NewB h b b' -> K (.slice b' (n + 1) c') h') :
    HCalls Tryz.prog 142 ⟨[.slice b n c, .int .i64 (i : Int), .slice (some av) 1 1]⟩ h K := by
  have hl := o.len
  have hcap := o.own.cap
  have hmax := o.own.max
  have hr : ∀ y ∈ l.take i ++ x :: l.drop i, Rng .i64 y := fun y hy => by
    rcases List.mem_append.1 hy with hy | hy
    · exact o.rng y (List.mem_of_mem_take hy)
    · rcases List.mem_cons.1 hy with rfl | hy
      · exact hx
      · exact o.rng y (List.mem_of_mem_drop hy)
  have hlen : (l.take i ++ x :: l.drop i).length = n + 1 := by simp <;> omega
  have hvs : ∀ w : World, w.heap = h -> ∀ (j : Nat) u, [Value.int .i64 x][j]? = some u -> w.cell? ⟨av.block, 0 + j, none⟩ = some u := fun w hw j u hu => by
    have := v.cell j hu
    rw [v.is] at this
    rw [cell_eq, hw, Nat.zero_add]
    unfold Addr.add at this
    split at this <;> simp_all
  have h1v : ∀ u ∈ [Value.int .i64 x], u.oneCell' = true := fun u hu => by rw [List.mem_singleton.1 hu]; rfl
  have eav : (some av : Option Addr) = some ⟨av.block, 0, none⟩ := congrArg some v.is
  rw [eav]
  intro w hw
  subst hw
  rcases o.own.is with ⟨hn0, hc0⟩ | ⟨g, cur, rfl, hb0, hg, hcs, htk⟩
  · -- nothing yet
    subst hn0; subst hc0
    have hl0 : l = [] := List.eq_nil_of_length_eq_zero hl
    subst hl0
    have hi0 : i = 0 := by omega
    subst hi0
    refine (Tryz.ins_end_grow b 0 0 av.block 0 1 1 [] [.int .i64 x] w (by omega) (by omega) (by omega) (by omega) rfl rfl (fun _ => rfl) (fun a e j u hu => by simp at hu) (hvs w rfl) h1v).mono ?_
    rintro e w' ⟨rfl, rfl⟩
    have g1 := grownCap_ge w (0 + 1) 0 (Tryz.laysNm221_ren.t 3)
    have g2 := grownCap_le_maxLen w (0 + 1) 0 (Tryz.laysNm221_ren.t 3) (by simp only [maxLen]; omega)
    generalize grownCap w (0 + 1) 0 (Tryz.laysNm221_ren.t 3) = gc at *
    refine ⟨_, rfl, ⟨rfl, rfl, rfl⟩, hk _ _ _ ⟨⟨by simp, g1, g2, .inr ⟨w.heap.size, _, rfl, Nat.zero_le _, World.alloc_heap_new _ _, ?_, ?_⟩⟩, hr, (fun e => by cases e), fun a e => by cases e; simp [World.alloc]⟩ ⟨by simp [World.alloc], fun k hk hne => ?_⟩ fun q e => by cases e; exact .inr (Nat.le_refl _)⟩
    · simp [size_zeroCells, Value.cells]; omega
    · simp
    · exact alloc_old _ _ _ hk
  · have hcs' : cur.size = c := by rw [hcs, Nat.mul_one]
    rw [Nat.mul_one] at htk
    have hcl : cur.toList.length = c := by simp [hcs']
    have hcell : ∀ j u, cur[j]? = some u -> w.cell? ⟨g, 0 + j, none⟩ = some u := fun j u hu => by
      rw [Nat.zero_add, <- addG, cell_eq, cell_lit hg]; exact hu
    have hcx : ∀ (j : Nat) u, (l.map (Value.int .i64))[j]? = some u -> w.cell? ⟨g, 0 + j, none⟩ = some u := fun j u hu => by
      refine hcell j u ?_
      rw [<- htk, List.getElem?_take] at hu
      split at hu
      · simpa using hu
      · cases hu
    have hsp : ∀ j, j < c -> (w.cell? ⟨g, 0 + j, none⟩).isSome = true := fun j hj => by
      rw [hcell j (cur[j]'(by omega)) (Array.getElem?_eq_getElem (by omega))]; rfl
    have hfz : ∀ j, w.frozen? ⟨g, j, none⟩ = false := fun j => by
      show (match w.heap[g]? with | some (.cells _ _ (lo, hi)) => lo <= j && j < hi | _ => false) = false
      rw [hg]; simp
    have hml : (l.map (Value.int .i64)).length = n := by simp [hl]
    simp only [maxLen] at hmax
    by_cases hin : i = n
    · subst hin
      by_cases hroom : i + 1 <= c
      · refine (Tryz.ins_end_room g 0 i c av.block 0 1 1 [.int .i64 x] w (by omega) hroom (by omega) rfl (fun j hj => by rw [show 0 + i + j = 0 + (i + j) by omega]; exact hsp _ (by omega)) (fun j hj => hfz _) (hvs w rfl) h1v).mono ?_
        rintro e w' ⟨rfl, rfl⟩
        obtain ⟨cur', c1, c2, c3, c4, c5, c6⟩ := setCells_heap [Value.int .i64 x] (0 + i) w cur hg (by simp <;> omega)
        refine ⟨_, rfl, c6, hk _ _ _ ⟨⟨by simp <;> omega, hroom, by simp only [maxLen]; omega, .inr ⟨g, cur', rfl, Nat.zero_le _, c1, by rw [c3, hcs]; , ?_⟩⟩, hr, (fun e => by cases e), fun a e => by cases e; rw [c5]; exact (Array.getElem?_eq_some_iff.1 hg).1⟩ (grow_of rfl (by rw [c5]; exact Nat.le_refl _) fun k hk _ => c4 k hk) fun q e => .inl e⟩
        rw [c2, Nat.zero_add, htk, Nat.mul_one, List.take_of_length_le (l := l) (by omega), List.drop_of_length_le (l := l) (by omega)]
        rw [List.take_append_of_le_length (by simp <;> omega), List.take_of_length_le (by simp <;> omega)]
        simp
      · refine (Tryz.ins_end_grow (some ⟨g, 0, none⟩) i c av.block 0 1 1 (l.map (Value.int .i64)) [.int .i64 x] w (by omega) hcap (by omega) (by omega) hml rfl (fun e => by cases e) (fun a e j u hu => by cases e; have := hcx j u hu; rw [Nat.zero_add] at this; rwa [addG]) (hvs w rfl) h1v).mono ?_
        rintro e w' ⟨rfl, rfl⟩
        have g1 := grownCap_ge w (i + 1) c (Tryz.laysNm221_ren.t 3)
        have g2 := grownCap_le_maxLen w (i + 1) c (Tryz.laysNm221_ren.t 3) (by simp only [maxLen]; omega)
        generalize grownCap w (i + 1) c (Tryz.laysNm221_ren.t 3) = gc at *
        refine ⟨_, rfl, ⟨rfl, rfl, rfl⟩, hk _ _ _ ⟨⟨by simp <;> omega, g1, g2, .inr ⟨w.heap.size, _, rfl, Nat.zero_le _, World.alloc_heap_new _ _, ?_, ?_⟩⟩, hr, (fun e => by cases e), fun a e => by cases e; simp [World.alloc]⟩ ⟨by simp [World.alloc], fun k hk hne => ?_⟩ fun q e => by cases e; exact .inr (Nat.le_refl _)⟩
        · simp [size_zeroCells, Value.cells, hl]; omega
        · rw [List.take_of_length_le (l := l) (by omega), List.drop_of_length_le (l := l) (by omega)]
          simp only [Array.toList_append, List.map_append, List.map_cons, List.map_nil]
          rw [List.take_append_of_le_length (by simp <;> omega), List.take_of_length_le (by simp <;> omega)]
        · exact alloc_old _ _ _ hk
    · by_cases hroom : n + 1 <= c
      · refine (Tryz.ins_shift g 0 n c i av.block 0 1 1 (l.map (Value.int .i64)) [.int .i64 x] w (by omega) (by omega) hroom (by omega) (fun e => hav _ rfl e.symm) hml rfl hcx (fun j hj => hsp j (by omega)) (fun j hj => hfz _) (hvs w rfl) (oneI l) h1v 3 3 1 cur.size
          (by show (match w.heap[av.block]? with | some (.cells cc el _) => some (el, cc.size) | _ => none) = _; rw [v.cells]; rfl) (by show (match w.heap[g]? with | some (.cells cc el _) => some (el, cc.size) | _ => none) = _; rw [hg]) (by omega)
          (by show (match w.heap[av.block]? with | some (.cells _ _ (lo, hi)) => decide (lo <= 0) && decide (0 < hi) | _ => false) = false; rw [v.cells]; rfl) (by show (match w.heap[av.block]? with | some (.cells _ _ (lo, hi)) => decide (lo <= 1) && decide (1 < hi) | _ => false) = false; rw [v.cells]; rfl)).mono ?_
        rintro e w' ⟨rfl, rfl⟩
        obtain ⟨cur1, c1, c2, c3, c4, c5, c6⟩ := setCells_heap ((l.map (Value.int .i64)).drop i) (0 + (i + 1)) w.drew cur hg (by simp <;> omega)
        obtain ⟨cur2, d1, d2, d3, d4, d5, d6⟩ := setCells_heap [Value.int .i64 x] (0 + i) _ cur1 c1 (by simp <;> omega)
        refine ⟨_, rfl, Outer.trans (Outer.trans (b := w.drew) ⟨rfl, rfl, rfl⟩ c6) d6, hk _ _ _ ⟨⟨by simp <;> omega, hroom, by simp only [maxLen]; omega, .inr ⟨g, cur2, rfl, Nat.zero_le _, d1, by rw [d3, c3, hcs], ?_⟩⟩, hr, (fun e => by cases e), fun a e => by cases e; rw [d5, c5]; exact (Array.getElem?_eq_some_iff.1 hg).1⟩ (grow_of rfl (by rw [d5, c5]; exact Nat.le_refl _) fun k hk _ => (d4 k hk).trans (c4 k hk)) fun q e => .inl e⟩
        rw [d2, c2]
        have et : cur.toList.take i = (l.map (Value.int .i64)).take i := by rw [<- htk, List.take_take, Nat.min_eq_left (by omega)]
        have e1 : (cur.toList.take (0 + (i + 1)) ++ (l.map (Value.int .i64)).drop i ++ cur.toList.drop (0 + (i + 1) + ((l.map (Value.int .i64)).drop i).length)).take (0 + i) = (l.map (Value.int .i64)).take i := by
          rw [List.append_assoc, List.take_append_of_le_length (by simp <;> omega), List.take_take, Nat.min_eq_left (by omega), Nat.zero_add, et]
        have e2 : (cur.toList.take (0 + (i + 1)) ++ (l.map (Value.int .i64)).drop i ++ cur.toList.drop (0 + (i + 1) + ((l.map (Value.int .i64)).drop i).length)).drop (0 + i + [Value.int .i64 x].length) = (l.map (Value.int .i64)).drop i ++ cur.toList.drop (0 + (i + 1) + ((l.map (Value.int .i64)).drop i).length) := by
          rw [List.append_assoc, List.drop_append_of_le_length (by simp <;> omega), List.drop_of_length_le (by simp <;> omega), List.nil_append]
        rw [e1, e2, Nat.mul_one, <- List.append_assoc, List.take_append_of_le_length (by simp <;> omega), List.take_of_length_le (by simp <;> omega)]
        simp
      · refine (Tryz.ins_grow g 0 n c i av.block 0 1 1 (l.map (Value.int .i64)) [.int .i64 x] w (by omega) (by omega) hcap (by omega) (by omega) hml rfl hcx (hvs w rfl) (oneI l) h1v).mono ?_
        rintro e w' ⟨rfl, rfl⟩
        have g1 := grownCap_ge w (n + 1) c (Tryz.laysNm221_ren.t 3)
        have g2 := grownCap_le_maxLen w (n + 1) c (Tryz.laysNm221_ren.t 3) (by simp only [maxLen]; omega)
        have hz1 : ∀ m, (Builtin.zeroCells (Value.int .i64 0).cells m).size = m := fun m => by simp [size_zeroCells, Value.cells]
        generalize grownCap w (n + 1) c (Tryz.laysNm221_ren.t 3) = gc at *
        generalize hnew : (((l.map (Value.int .i64)).take i).toArray ++ Builtin.zeroCells (Value.int .i64 0).cells (n + 1 - i) ++ Builtin.zeroCells (Value.int .i64 0).cells (gc - (n + 1))) = nw
        have hns : nw.size = gc := by rw [<- hnew]; simp only [Array.size_append, hz1]; simp; omega
        have hnt : nw.toList.take i = (l.map (Value.int .i64)).take i := by
          rw [<- hnew]; simp only [Array.toList_append]
          rw [List.append_assoc, List.take_append_of_le_length (by simp <;> omega), List.take_of_length_le (by simp <;> omega)]
        obtain ⟨cur1, c1, c2, c3, c4, c5, c6⟩ := setCells_heap [Value.int .i64 x] i (w.alloc (.cells nw (Tryz.laysNm221_ren.t 3))).drew nw (World.alloc_heap_new _ _) (by simp <;> omega)
        obtain ⟨cur2, d1, d2, d3, d4, d5, d6⟩ := setCells_heap ((l.map (Value.int .i64)).drop i) (i + 1) ((w.alloc (.cells nw (Tryz.laysNm221_ren.t 3))).drew.setCells w.heap.size i [Value.int .i64 x]).drew cur1 c1 (by simp <;> omega)
        refine ⟨_, rfl, Outer.trans (Outer.trans (b := (w.alloc (.cells nw (Tryz.laysNm221_ren.t 3))).drew) ⟨rfl, rfl, rfl⟩ c6) (Outer.trans (b := ((w.alloc (.cells nw (Tryz.laysNm221_ren.t 3))).drew.setCells w.heap.size i [Value.int .i64 x]).drew) ⟨rfl, rfl, rfl⟩ d6), hk _ _ _ ⟨⟨by simp <;> omega, g1, g2, .inr ⟨w.heap.size, cur2, rfl, Nat.zero_le _, d1, by rw [d3, c3, hns, Nat.mul_one], ?_⟩⟩, hr, (fun e => by cases e), fun a e => by cases e; rw [d5]; show _ < (World.setCells _ _ _ _).heap.size; rw [c5]; show w.heap.size < (w.heap.push _).size; rw [Array.size_push]; omega⟩ ⟨?_, fun k hk hne => ?_⟩ fun q e => by cases e; exact .inr (Nat.le_refl _)⟩
        · rw [d2, c2, hnt]
          have e1 : ((l.map (Value.int .i64)).take i ++ [Value.int .i64 x] ++ nw.toList.drop (i + [Value.int .i64 x].length)).take (i + 1) = (l.map (Value.int .i64)).take i ++ [Value.int .i64 x] := by
            rw [List.take_append_of_le_length (by simp <;> omega), List.take_of_length_le (by simp <;> omega)]
          rw [e1, Nat.mul_one, List.take_append_of_le_length (by simp <;> omega), List.take_of_length_le (by simp <;> omega)]
          simp
        · rw [d5]; show _ <= (World.setCells _ _ _ _).heap.size; rw [c5]; show w.heap.size <= (w.heap.push _).size; rw [Array.size_push]; omega
        · have hk2 : k ≠ w.heap.size := by omega
          exact (d4 k hk2).trans ((c4 k hk2).trans (alloc_old _ _ _ hk))
end
end Go.Proofs
namespace Go.Proofs
open Go Go.Sh
set_option linter.unusedVariables false
set_option maxRecDepth 100000
theorem rngI {n : Int} (h1 : -9223372036854775808 <= n) (h2 : n <= 9223372036854775807) : Rng .i64 n := ⟨h1, h2⟩
section
variable {h : H} {K : Value -> H -> Prop} {b : Option Addr} {n c : Nat} {l : List Int}
theorem delI_calls {i : Nat} (o : OwnI h b n c l) (hi : i < n) (hk : ∀ h', OwnI h' b (n - 1) c (l.eraseIdx i) -> Grow h h' b -> K (.slice b (n - 1) c) h') :
    HCalls Tryz.prog 186 ⟨[.slice b n c, .int .i64 (i : Int), .int .i64 ((i + 1 : Nat) : Int)]⟩ h K := by
  have hl := o.len
  have hcap := o.own.cap
  have hmax := o.own.max
  intro w hw
  subst hw
  rcases o.own.is with ⟨hn0, hc0⟩ | ⟨g, cur, rfl, hb0, hg, hcs, htk⟩
  · omega
  · rw [Nat.mul_one] at htk hcs
    simp only [maxLen] at hmax
    have hcl : cur.toList.length = c := by simp [hcs]
    refine (Tryz.slices_Delete_int_cells g 0 n c i (i + 1) l w (by omega) hcap (by omega) (by omega) (by omega) (fun j hj => ?_) (fun j hj => ?_)).mono ?_
    · rw [Nat.zero_add, <- addG, cell_eq, cell_lit hg]
      have : (l.map (Value.int .i64))[j]? = some (.int .i64 (l.getD j 0)) := by
        rw [List.getElem?_map, List.getElem?_eq_getElem hj, List.getD_eq_getElem?_getD, List.getElem?_eq_getElem hj]; rfl
      rw [<- htk, List.getElem?_take, if_pos (by omega)] at this
      simpa using this
    · show (match w.heap[g]? with | some (.cells _ _ (lo, hi)) => decide (lo <= 0 + j) && decide (0 + j < hi) | _ => false) = false
      rw [hg]; simp
    rintro e w' ⟨rfl, q, rfl⟩
    have ee : ((l.take n).take i ++ (l.take n).drop (i + 1) ++ List.replicate (i + 1 - i) (0 : Int)) = l.eraseIdx i ++ [0] := by
      rw [List.take_of_length_le (l := l) (by omega), List.eraseIdx_eq_take_drop_succ, show i + 1 - i = 1 by omega]; rfl
    rw [ee]
    have hle : (l.eraseIdx i).length = n - 1 := by rw [List.length_eraseIdx]; split <;> omega
    obtain ⟨cur', c1, c2, c3, c4, c5, c6⟩ := setCells_heap ((l.eraseIdx i ++ [0]).map (Value.int .i64)) 0 (w.drewN q) cur hg (by simp <;> omega)
    refine ⟨_, rfl, Outer.trans (b := w.drewN q) ⟨rfl, rfl, rfl⟩ c6, ?_⟩
    rw [show n - (i + 1 - i) = n - 1 by omega]
    refine hk _ ⟨⟨by simp <;> omega, by omega, by simp only [maxLen]; omega, .inr ⟨g, cur', rfl, Nat.zero_le _, c1, by rw [c3, hcs, Nat.mul_one], ?_⟩⟩, fun x hx => o.rng x (List.mem_of_mem_eraseIdx hx), (fun e => by cases e), fun a e => by cases e; rw [c5]; exact (Array.getElem?_eq_some_iff.1 hg).1⟩ (grow_of rfl (by rw [c5]; exact Nat.le_refl _) fun k hk _ => c4 k hk)
    rw [c2, Nat.mul_one, List.take_zero, List.nil_append, List.map_append, List.append_assoc, List.take_append_of_le_length (by simp <;> omega), List.take_of_length_le (by simp <;> omega)]
def idxN (x : Int) : List Int -> Nat
  | [] => 0
  | y :: l => if x = y then 0 else idxN x l + 1
theorem idxN_at {x : Int} : ∀ {l : List Int} {i : Nat}, x ∉ l.take i -> l[i]? = some x -> idxN x l = i
  | [], i, _, h => by simp at h
  | y :: l, 0, _, h => by simp at h; unfold idxN; rw [if_pos h.symm]
  | y :: l, i + 1, hn, h => by
    rw [List.take_succ_cons, List.mem_cons] at hn
    unfold idxN
    rw [if_neg (fun e => hn (.inl e)), idxN_at (fun hm => hn (.inr hm)) (by simpa using h)]
theorem idxN_get {x : Int} : ∀ {l : List Int}, x ∈ l -> l[idxN x l]? = some x
  | [], h => by cases h
  | y :: l, h => by
    unfold idxN
    by_cases e : x = y
    · rw [if_pos e, e]; rfl
    · rw [if_neg e]
      rcases List.mem_cons.1 h with h | h
      · exact absurd h e
      · simpa using idxN_get h
theorem idxN_lt {x : Int} {l : List Int} (h : x ∈ l) : idxN x l < l.length := (List.getElem?_eq_some_iff.1 (idxN_get h)).1
def idxP (l : List Int) (x : Int) : Int := if x ∈ l then (idxN x l : Int) else -1
theorem idxI_calls {A : Nat -> Prop} {x : Int} (r : Row (elInt .i64) A h b n c l) (hk : K (.int .i64 (idxP l x)) h) : HCalls Tryz.prog 180 ⟨[.slice b n c, .int .i64 x]⟩ h K := by
  have hl := r.len
  have hm : n <= maxLen := Nat.le_trans r.cap r.max
  simp only [maxLen] at hm
  refine Sx.slices_Index_int.ok _ _ _ _ _ _ ⟨n + 1, ?_⟩
  have key : ∀ N i, i + N = n -> x ∉ l.take i -> Sx.slices_Index_int.n6_L (fun h => Sx.slices_Index_int.n3 (fun y4 h => K (.int .i64 y4) h) (fun y4 h => K (.int .i64 y4) h) h) (fun h => Sx.slices_Index_int.n3 (fun y4 h => K (.int .i64 y4) h) (fun y4 h => K (.int .i64 y4) h) h) (fun y4 h => K (.int .i64 y4) h) (N + 1) b n c x (n : Int) (i : Int) h := by
    intro N
    induction N with
    | zero =>
      intro i hi hno
      unfold Sx.slices_Index_int.n6_L
      refine splF (by omega) ?_
      rw [List.take_of_length_le (by omega)] at hno
      unfold idxP at hk
      rw [if_neg hno] at hk
      exact hk
    | succ N ih =>
      intro i hi hno
      have hil : i < l.length := by omega
      unfold Sx.slices_Index_int.n6_L
      refine splT (by omega) (r.idxN hil rfl fun a hA => ldI hA fun _ => spl (fun e => ?_) fun e => ⟨rngI (by omega) (by omega), ih (i + 1) (by omega) ?_⟩)
      · have hmem : x ∈ l := by rw [e]; exact List.getElem_mem hil
        have hix : idxN x l = i := idxN_at hno (by rw [List.getElem?_eq_getElem hil, e])
        unfold idxP at hk
        rw [if_pos hmem, hix] at hk
        exact hk
      · rw [List.take_add_one, List.getElem?_eq_getElem hil]
        intro hm
        rcases List.mem_append.1 hm with hm | hm
        · exact hno hm
        · simp at hm; exact e hm
  exact key n 0 (by omega) (by simp)
end
theorem clone_k {α : Type} {E : El α} {t e0 by' : Nat} (ap : Apd Tryz.prog E t e0 by') (hsl : isSlD (Tryz.prog.underlying t) = true) {A : Nat -> Prop} {h : H} {b : Option Addr} {n c : Nat} {l : List α} {x y : Operand} (r : Row E A h b n c l) (hz : b = none -> c = 0) (hn : n <= 1000000) (hb : by' <= 1000)
    {Kr : Option Addr -> Nat -> Nat -> H -> Prop} (hk : ∀ b' c' h', OwnF E h' h.size e0 b' n c' l -> KB h h' -> Kr b' n c' h') :
    SemH Tryz.prog (binS .eql t x y (.slice b n c) (.slice none 0 0)) h fun v9 h10 => vBool v9 fun b11 => cond b11 (Kr none 0 0 h10) (newx h10 #[] e0 fun a12 h13 => SemH Tryz.prog (Builtin.append_ #[t, t] t ⟨[(.slice (some a12) 0 0), (.slice b n c)]⟩) h13 fun v14 h15 => vSlice v14 fun s16b s16n s16c => Kr s16b s16n s16c h15) := by
  have hl := r.len
  have hcap := r.cap
  refine (semR_slnil hsl ?_).h
  refine vBool_mk (condB (fun e => ?_) fun e => ?_)
  · have hb : b = none := by simpa using e
    have hc := hz hb
    have hn0 : n = 0 := by omega
    subst hn0
    have : l = [] := List.eq_nil_of_length_eq_zero hl
    subst this
    exact hk none 0 h (OwnF.none _ _ _) (KB.refl h)
  · refine newx_var (cs := []) fun a h1 v1 k1 e1 s1 => ?_
    have o1 : OwnF E h1 h.size e0 (some a) 0 0 [] := ⟨OwnT.nil _ _ _ _ _, (fun q e => by cases e; omega), (fun q e => by cases e; exact v1.lt), fun e => by cases e⟩
    have hbb : (0 + n) * by' <= 140737488355328 := by
      have : (0 + n) * by' <= 1000000 * 1000 := Nat.mul_le_mul (by omega) hb
      omega
    refine OwnF.append ap o1 (r.bel.keep ((KB.w k1).less fun k hk => hk.2) (fun k hk hs => ⟨by omega, fun q e => by cases e; omega⟩)) (by simp only [maxLen]; omega) hbb (by omega) fun b' c' h' o' g' => vSliceMk ?_
    rw [Nat.zero_add] at o' ⊢
    refine hk b' c' h' o' (g'.kb0 k1 fun q e => by cases e; omega)
abbrev AttrP := Bs × Bs
abbrev elAttr : El AttrP := elPair elStr elStr
theorem apdAttr : Apd Tryz.prog elAttr 43 67 32 := apd_of (sz := 2) (by kernel_rfl) rfl
structure NodeM where
  kind : Int
  space : Int
  name : Bs
  attrs : List AttrP
  text : Bs
  parent : Int
  kids : List Int
abbrev Col := Nat -> Option (Nat × Nat)
abbrev Free (col : Col) (h : H) : Nat -> Prop := fun k => col k = none /\ k < h.size
def elPtr : El Addr where
  sz := 1
  R := fun _ _ x cs => cs = [.pointer (some x)]
  len := fun _ _ _ _ h => by rw [h]; rfl
  one := fun _ _ _ _ h v hv => by rw [h] at hv; simp at hv; subst hv; rfl
  keep := fun _ _ _ _ _ _ h _ _ => h
  pos := by decide
theorem apdPtr : Apd Tryz.prog elPtr 85 80 8 := apd_of (sz := 1) (by kernel_rfl) rfl
def nodeC (x : NodeM) (ab : Option Addr) (an ac : Nat) (kb : Option Addr) (kn kc : Nat) : List Value :=
  [.int .u8 x.kind, .int .u8 x.space, S x.name, .slice ab an ac, S x.text, .slice none 0 0, .int .i64 x.parent, .slice kb kn kc]
structure NodeAt (h : H) (col : Col) (s i : Nat) (a : Addr) (x : NodeM) : Prop where
  ex : ∃ ab an ac kb kn kc, Var h a 84 (nodeC x ab an ac kb kn kc) /\ Row elAttr (Free col h) h ab an ac x.attrs /\ (ab = none -> ac = 0) /\ OwnI h kb kn kc x.kids /\ ∀ q, kb = some q -> col q.block = some (s, 2 * i + 3)
  col : col a.block = some (s, 2 * i + 2)
  rk : Rng .u8 x.kind
  rs : Rng .u8 x.space
  rp : Rng .i64 x.parent
  fa : x.attrs.length <= 1000000
  fn : x.name.length <= maxLen
  ft : x.text.length <= maxLen
structure TreeP (h : H) (col : Col) (s : Nat) (t : Addr) (ads : List Addr) (ns : List NodeM) : Prop where
  ex : ∃ lb lc, Var h t 87 [.slice lb ns.length lc] /\ OwnF elPtr h 0 80 lb ns.length lc ads /\ ∀ q, lb = some q -> col q.block = some (s, 1)
  len : ads.length = ns.length
  nodes : ∀ (i : Nat) x a, ns[i]? = some x -> ads[i]? = some a -> NodeAt h col s i a x
  colt : col t.block = some (s, 0)
  fresh : ∀ k, h.size <= k -> col k = none
  few : ns.length <= 1000000
structure Ext (s : Nat) (h : H) (col : Col) (h' : H) (col' : Col) : Prop where
  sk : SK (fun k => k < h.size /\ ∀ p, col k ≠ some (s, p)) h h'
  cl : ∀ k, k < h.size -> col' k = col k
theorem Ext.refl (s : Nat) (h : H) (col : Col) : Ext s h col h col := ⟨SK.refl _ _, fun _ _ => rfl⟩
theorem Ext.trans {s : Nat} {a b c : H} {x y z : Col} (e : Ext s a x b y) (f : Ext s b y c z) : Ext s a x c z :=
  ⟨SK.trans e.sk (f.sk.less fun k hk => ⟨Nat.lt_of_lt_of_le hk.1 e.sk.1, fun p => by rw [e.cl k hk.1]; exact hk.2 p⟩), fun k hk => (f.cl k (Nat.lt_of_lt_of_le hk e.sk.1)).trans (e.cl k hk)⟩
theorem Ext.kb {s : Nat} {h h' : H} {col : Col} (k : KB h h') : Ext s h col h' col := ⟨SK.less k fun k hk => hk.1, fun _ _ => rfl⟩
section
variable {h h' : H} {col col' : Col} {s i : Nat} {t a : Addr} {ads : List Addr} {ns : List NodeM} {x : NodeM}
theorem NodeAt.keep (N : NodeAt h col s i a x) {B : Nat -> Prop} (k : Keep B h h') (hc : ∀ k, k < h.size -> col' k = col k) (hB : ∀ k, k < h.size -> (col k = none ∨ col k = some (s, 2 * i + 2) ∨ col k = some (s, 2 * i + 3)) -> B k) : NodeAt h' col' s i a x := by
  obtain ⟨ab, an, ac, kb, kn, kc, v, ra, hz, ok, hk⟩ := N.ex
  have hlt := v.lt
  refine ⟨⟨ab, an, ac, kb, kn, kc, v.keep k (hB _ hlt (.inr (.inl N.col))), ra.keep (k.less fun q hq => hB q hq.1.2 (.inl hq.1.1)) (fun q hq hs => ⟨by rw [hc q hs]; exact hq.1, Nat.lt_of_lt_of_le hs k.1⟩), hz, ok.keep k fun q e => hB _ (ok.hi q e) (.inr (.inr (hk q e))), fun q e => by rw [hc _ (ok.hi q e)]; exact hk q e⟩, by rw [hc _ hlt]; exact N.col, N.rk, N.rs, N.rp, N.fa, N.fn, N.ft⟩
theorem TreeP.keep (T : TreeP h col s t ads ns) {B : Nat -> Prop} (k : Keep B h h') (hc : ∀ k, k < h.size -> col' k = col k) (hf : ∀ k, h'.size <= k -> col' k = none) (hB : ∀ k, k < h.size -> (col k = none ∨ ∃ p, col k = some (s, p)) -> B k) : TreeP h' col' s t ads ns := by
  obtain ⟨lb, lc, v, o, hl⟩ := T.ex
  refine ⟨⟨lb, lc, v.keep k (hB _ v.lt (.inr ⟨_, T.colt⟩)), ?_, fun q e => by rw [hc _ (o.hi q e)]; exact hl q e⟩, T.len, fun i x a hx ha => (T.nodes i x a hx ha).keep k hc fun q hq hor => hB q hq (by rcases hor with h | h | h; exact .inl h; exact .inr ⟨_, h⟩; exact .inr ⟨_, h⟩), by rw [hc _ v.lt]; exact T.colt, hf, T.few⟩
  refine ⟨?_, o.lo, fun q e => Nat.lt_of_lt_of_le (o.hi q e) k.1, o.nil⟩
  obtain ⟨xs, h1, h2⟩ := o.own.own
  refine ⟨o.own.len, xs, h1.keep k fun g e _ hg => hB _ hg (.inr ⟨_, hl _ e⟩), ?_⟩
  exact Enc.flat (fun _ _ _ _ _ _ h => h) h2
theorem TreeP.kw (T : TreeP h col s t ads ns) (k : KW h h') : TreeP h' col s t ads ns := T.keep k (fun _ _ => rfl) (fun k' hk => T.fresh k' (Nat.le_trans k.1 hk)) fun k hk _ => hk
theorem TreeP.kb (T : TreeP h col s t ads ns) (k : KB h h') : TreeP h' col s t ads ns := T.kw (KB.w k)
theorem TreeP.other {s' : Nat} (T : TreeP h col s t ads ns) (hs : s ≠ s') (e : Ext s' h col h' col') (hf : ∀ k, h'.size <= k -> col' k = none) : TreeP h' col' s t ads ns :=
  T.keep e.sk.w e.cl hf fun k hk hor => ⟨hk, fun p e => by
    rcases hor with h | ⟨q, h⟩
    · rw [h] at e; cases e
    · rw [h] at e; cases e; exact hs rfl⟩
theorem TreeP.upd (T : TreeP h col s t ads ns) {x' : NodeM} (ha : ads[i]? = some a) (k : SK (fun k => k < h.size /\ ∀ p, col k = some (s, p) -> p ≠ 2 * i + 2 /\ p ≠ 2 * i + 3) h h') (hc : ∀ k, k < h.size -> col' k = col k) (hf : ∀ k, h'.size <= k -> col' k = none) (hn : NodeAt h' col' s i a x') :
    TreeP h' col' s t ads (ns.set i x') := by
  obtain ⟨lb, lc, v, o, hl⟩ := T.ex
  have T' : ∀ {B : Nat -> Prop}, (∀ k, B k -> k < h.size /\ ∀ p, col k = some (s, p) -> p ≠ 2 * i + 2 /\ p ≠ 2 * i + 3) -> Keep B h h' := fun hB => k.w.less hB
  have kp := k.w
  refine ⟨⟨lb, lc, by rw [List.length_set]; exact v.keep kp ⟨v.lt, fun p e => by rw [T.colt] at e; cases e; omega⟩, ?_, fun q e => by rw [hc _ (o.hi q e)]; exact hl q e⟩, by rw [List.length_set]; exact T.len, fun j y b hy hb => ?_, by rw [hc _ v.lt]; exact T.colt, hf, by rw [List.length_set]; exact T.few⟩
  · rw [List.length_set]
    refine ⟨?_, o.lo, fun q e => Nat.lt_of_lt_of_le (o.hi q e) k.1, o.nil⟩
    obtain ⟨xs, h1, h2⟩ := o.own.own
    refine ⟨o.own.len, xs, h1.keep kp fun g e _ hg => ⟨hg, fun p e2 => by rw [hl _ e] at e2; cases e2; omega⟩, ?_⟩
    exact Enc.flat (fun _ _ _ _ _ _ h => h) h2
  · by_cases hij : i = j
    · subst hij
      rw [ha] at hb; cases hb
      have hlt : i < ns.length := by have := (List.getElem?_eq_some_iff.1 ha).1; have := T.len; omega
      rw [List.getElem?_set_self hlt] at hy; cases hy
      exact hn
    · rw [List.getElem?_set_ne hij] at hy
      exact (T.nodes j y b hy hb).keep kp hc fun q hq hor => ⟨hq, fun p e => by
        rcases hor with h | h | h
        · rw [h] at e; cases e
        · rw [h] at e; cases e; omega
        · rw [h] at e; cases e; omega⟩
end
end Go.Proofs
namespace Go.Proofs
open Go Go.Sh
set_option linter.unusedVariables false
set_option maxRecDepth 100000
def putB (col : Col) (h : H) (b : Option Addr) (v : Nat × Nat) : Col := fun k => if h.size <= k /\ (∃ q, b = some q /\ q.block = k) then some v else col k
theorem putB_old {col : Col} {h : H} {b : Option Addr} {v : Nat × Nat} {k : Nat} (hk : k < h.size) : putB col h b v k = col k := if_neg fun e => by omega
theorem putB_at {col : Col} {h : H} {b : Option Addr} {v : Nat × Nat} {q : Addr} (hb : b = some q) (ho : q.block < h.size -> col q.block = some v) : putB col h b v q.block = some v := by
  by_cases hk : q.block < h.size
  · rw [putB_old hk]; exact ho hk
  · exact if_pos ⟨by omega, q, hb, rfl⟩
theorem putB_far {col : Col} {h h' : H} {b : Option Addr} {v : Nat × Nat} {k : Nat} (hb : ∀ q, b = some q -> q.block < h'.size) (hk : h'.size <= k) : putB col h b v k = col k := if_neg fun ⟨_, q, e, e2⟩ => by have := hb q e; omega
theorem _root_.Go.Sh.OwnF.appendN {α : Type} {E : El α} {t ty e by' : Nat} {P : Program} (ap : Apd P E t e by') {h : H} {sb rb : Option Addr} {n c m k base : Nat} {l l2 : List α} (o : OwnF E h base e sb n c l) (r : Row E (But h sb) h rb m k l2)
    (h63 : n + m <= maxLen) (hb : (n + m) * by' <= 140737488355328) (hbase : base <= h.size) {K : Value -> H -> Prop}
    (hk : ∀ b' c' h', OwnF E h' base e b' (n + m) c' (l ++ l2) -> Grow h h' sb -> NewB h sb b' -> K (.slice b' (n + m) c') h') :
    SemH P (Builtin.append_ #[t, t] ty ⟨[.slice sb n c, .slice rb m k]⟩) h K := by
  refine OwnT.append ap o.own r h63 hb hbase (fun k hk _ => hk.2) fun b2 c2 h' o' hg hb h0 => hk b2 c2 h' ⟨?_, ?_, ?_, ?_⟩ hg fun q e => by
    rcases hb with rfl | rfl
    · exact .inl e
    · cases e; exact .inr (Nat.le_refl _)
  · refine o'.keep (Keep.refl (fun _ => True) _) (fun _ _ _ => trivial) (fun k hk' hks => ⟨hks, fun x hx => ?_⟩) fun _ _ _ _ => trivial
    rcases hb with rfl | rfl
    · exact hk'.2 x hx
    · cases hx
      have := hk'.1
      show h.size ≠ k
      omega
  · intro x hx
    rcases hb with rfl | rfl
    · exact o.lo x hx
    · cases hx; exact hbase
  · intro x hx
    rcases hb with rfl | rfl
    · exact Nat.lt_of_lt_of_le (o.hi x hx) hg.size
    · obtain ⟨xs, ho, _⟩ := o'.own
      rcases ho.is with h1 | ⟨g, cur, e1, _, hgg, _⟩
      · have := h0 h1.1
        exact Nat.lt_of_lt_of_le (o.hi x (this.1 ▸ hx)) hg.size
      · rw [hx] at e1; cases e1; exact (Array.getElem?_eq_some_iff.1 hgg).1
  · intro hbn
    have := o'.cap
    obtain ⟨xs, ho, _⟩ := o'.own
    rcases ho.is with h1 | ⟨g, cur, e1, _⟩
    · exact h1.2
    · rw [hbn] at e1; cases e1
theorem _root_.Go.Sh.Var.ownF1 {α : Type} {E : El α} {h : H} {a : Addr} {t : Nat} {cs : List Value} {x : α} (v : Var h a t cs) (hR : ∀ A, E.R A h x cs) : OwnF E h 0 t (some a) 1 1 [x] := by
  have hl := E.len _ _ _ _ (hR fun _ => True)
  refine ⟨⟨rfl, cs, ⟨by rw [hl]; simp, Nat.le_refl _, by decide, .inr ⟨a.block, ⟨cs⟩, congrArg some v.is, Nat.zero_le _, v.cells, by simp [hl], by rw [Nat.one_mul, <- hl]; exact List.take_length⟩⟩, ⟨cs, [], by simp, hR _, rfl⟩⟩, fun _ _ => Nat.zero_le _, fun q e => by cases e; exact v.lt, fun e => by cases e⟩
theorem _root_.Go.Sh.Var.cellZ {h : H} {a : Addr} {t : Nat} {cs : List Value} (v : Var h a t cs) (i : Nat) {x : Value} (hx : cs[i]? = some x) : cell h ((a.add 0).add i) = some x := by rw [add_zero']; exact v.cell i hx
theorem ldPtr {A : Nat -> Prop} {h : H} {a x : Addr} {K : Option Addr -> Prop} (hA : At elPtr A h a x) (hk : K (some x)) : ∃ p, cell h a = some (.pointer p) /\ K p := by
  obtain ⟨_, cs, hR, h4⟩ := hA
  have hR : cs = [.pointer (some x)] := hR
  subst hR
  exact ⟨_, by have := h4 0 _ rfl; rwa [add_zero'] at this, hk⟩
theorem vPtrMk {p : Option Addr} {k : Option Addr -> Prop} (h : k p) : vPtr (.pointer p) k := h
theorem vSomeMk {a : Addr} {k : Addr -> Prop} (h : k a) : vSome (some a) k := h
def plcP (kids : List Int) (kid : Int) : Int := if kid = -1 then (kids.length : Int) else idxP kids kid
def bareM (kind space : Int) (name : Bs) (attrs : List AttrP) (text : Bs) : Option NodeM :=
  if kind = 1 then some ⟨kind, space, name, attrs, [], -1, []⟩
  else if kind = 2 ∨ kind = 3 then some ⟨kind, 0, [], [], text, -1, []⟩
  else none
def addM (ns : List NodeM) : Option NodeM -> List NodeM × Int
  | none => (ns, -1)
  | some x => (ns ++ [x], (ns.length : Int))
def rootM : NodeM := ⟨0, 0, [], [], [], -1, []⟩
section
variable {h : H} {K : Value -> H -> Prop} {col : Col} {s i : Nat} {t a : Addr} {ads : List Addr} {ns : List NodeM} {x : NodeM}
theorem at_calls (T : TreeP h col s t ads ns) {id : Int} (hno : ¬ (0 <= id /\ id < ns.length) -> K (.pointer none) h)
    (hyes : ∀ (i : Nat) a x, id = (i : Int) -> ns[i]? = some x -> ads[i]? = some a -> K (.pointer (some a)) h) : HCalls Tryz.prog 48 ⟨[.pointer (some t), .int .i64 id]⟩ h K := by
  obtain ⟨lb, lc, v, o, hl⟩ := T.ex
  have hlen := T.len
  refine Sx.dom_Tree_at.ok _ _ _ _ (spl (fun e => hno (by omega)) fun e => vSomeMk ⟨_, _, _, v.cell 0 rfl, spl (fun e2 => hno (by omega)) fun e2 => vSomeMk ⟨_, _, _, v.cell 0 rfl, ?_⟩⟩)
  obtain ⟨i, rfl⟩ := Int.eq_ofNat_of_zero_le (show 0 <= id by omega)
  have hi : i < ads.length := by omega
  have hi2 : i < ns.length := by omega
  exact o.row.idxN hi rfl fun a hA => ldPtr hA (hyes i _ _ rfl (List.getElem?_eq_getElem hi2) (List.getElem?_eq_getElem hi))
theorem holder_calls (T : TreeP h col s t ads ns) {id : Int} (hno : ¬ (∃ (i : Nat) (x : NodeM), id = i /\ ns[i]? = some x /\ (i = 0 ∨ x.kind = 1)) -> K (.pointer none) h)
    (hyes : ∀ (i : Nat) a x, id = (i : Int) -> ns[i]? = some x -> ads[i]? = some a -> (i = 0 ∨ x.kind = 1) -> K (.pointer (some a)) h) : HCalls Tryz.prog 130 ⟨[.pointer (some t), .int .i64 id]⟩ h K := by
  refine Sx.dom_Tree_holder.ok _ _ _ _ (at_calls T (fun hn => vPtrMk (ptrEq_k (by kernel_rfl) (vBool_mk (condT (hno ?_))))) fun i a x e hx ha => vPtrMk (ptrEq_k (by kernel_rfl) (vBool_mk (condF ?_))))
  · rintro ⟨i, x, rfl, hx, _⟩
    have := (List.getElem?_eq_some_iff.1 hx).1
    omega
  · subst e
    obtain ⟨ab, an, ac, kb, kn, kc, v, _⟩ := (T.nodes i x a hx ha).ex
    refine spl (fun e => vSomeMk ⟨_, v.cellZ 0 rfl, spl (fun e2 => hyes i a x rfl hx ha (.inr e2)) fun e2 => hno ?_⟩) fun e => hyes i a x rfl hx ha (.inl (by omega))
    rintro ⟨j, y, ej, hy, hor⟩
    have : i = j := by omega
    subst this
    rw [hx] at hy; cases hy
    rcases hor with h0 | h1
    · omega
    · exact e2 h1
theorem index_calls (N : NodeAt h col s i a x) {kid : Int} (hk : K (.int .i64 (plcP x.kids kid)) h) : HCalls Tryz.prog 131 ⟨[.pointer (some a), .int .i64 kid]⟩ h K := by
  obtain ⟨ab, an, ac, kb, kn, kc, v, ra, hz, ok, hc⟩ := N.ex
  have hl := ok.len
  unfold plcP at hk
  refine Sx.dom_node_index.ok _ _ _ _ (spl (fun e => vSomeMk ⟨_, _, _, v.cell 7 rfl, ?_⟩) fun e => vSomeMk ⟨_, _, _, v.cell 7 rfl, idxI_calls (ok.row (A := fun _ => True) fun _ _ => trivial) (vIntMk ?_)⟩)
  · rw [if_pos e, hl] at hk; exact hk
  · rw [if_neg e] at hk; exact hk
theorem parent_calls (T : TreeP h col s t ads ns) {id : Int} (hno : ¬ (0 <= id /\ id < ns.length) -> K (.int .i64 (-1)) h) (hyes : ∀ (i : Nat) x, id = (i : Int) -> ns[i]? = some x -> K (.int .i64 x.parent) h) :
    HCalls Tryz.prog 129 ⟨[.pointer (some t), .int .i64 id]⟩ h K := by
  refine Sx.dom_Tree_Parent.ok _ _ _ _ (at_calls T (fun hn => vPtrMk (ptrEq_k (by kernel_rfl) (vBool_mk (condT (hno hn))))) fun i a x e hx ha => vPtrMk (ptrEq_k (by kernel_rfl) (vBool_mk (condF ?_))))
  obtain ⟨ab, an, ac, kb, kn, kc, v, _⟩ := (T.nodes i x a hx ha).ex
  exact vSomeMk ⟨_, v.cell 6 rfl, hyes i x e hx⟩
theorem new_calls (hf : ∀ k, h.size <= k -> col k = none) (hk : ∀ t h' col' ads, TreeP h' col' s t ads [rootM] -> Ext s h col h' col' -> K (.pointer (some t)) h') : HCalls Tryz.prog 51 ⟨[]⟩ h K := by
  refine Sx.dom_New.ok _ _ (newx_var fun a1 h1 v1 k1 e1 s1 => newx_var fun a2 h2 v2 k2 e2 s2 => newx_var fun a3 h3 v3 k3 e3 s3 => ?_)
  refine hk a3 h3 (fun k => if k = h.size then some (s, 2) else if k = h.size + 1 then some (s, 1) else if k = h.size + 2 then some (s, 0) else col k) [a1] ?_ ⟨SK.less ((k1.trans k2).trans k3) fun k hk => hk.1, fun k hk => ?_⟩
  · have o2 : OwnF elPtr h2 0 80 (some a2) 1 1 [a1] := v2.ownF1 fun _ => rfl
    refine ⟨⟨some a2, 1, v3, o2.kb k3, fun q e => by cases e; rw [if_neg (by omega), if_pos (by omega)]⟩, rfl, fun i x a hx ha => ?_, by rw [if_neg (by omega), if_neg (by omega), if_pos (by omega)], fun k hk => ?_, by decide⟩
    · cases i with
      | succ i => simp at hx
      | zero =>
        simp at hx ha
        subst hx; subst ha
        exact ⟨⟨none, 0, 0, none, 0, 0, (v1.kb k2).kb k3, ⟨rfl, Nat.le_refl _, Nat.zero_le _, fun i x hx => by simp [rootM] at hx⟩, fun _ => rfl, OwnI.none _, fun q e => by cases e⟩, by rw [if_pos e1], ⟨by decide, by decide⟩, ⟨by decide, by decide⟩, ⟨by decide, by decide⟩, by decide, Nat.zero_le _, Nat.zero_le _⟩
    · rw [if_neg (by omega), if_neg (by omega), if_neg (by omega)]; exact hf k (by omega)
  · show (if _ then _ else _) = _
    rw [if_neg (by omega), if_neg (by omega), if_neg (by omega)]
end
end Go.Proofs
namespace Go.Proofs
open Go Go.Sh
set_option linter.unusedVariables false
set_option maxRecDepth 100000
section
variable {h : H} {K : Value -> H -> Prop} {col : Col} {s i : Nat} {t a : Addr} {ads : List Addr} {ns : List NodeM} {x : NodeM}
theorem apdInt : Apd Tryz.prog (elInt .i64) 82 3 8 := apd_of (sz := 1) (by kernel_rfl) rfl
theorem cloneA_calls {A : Nat -> Prop} {b : Option Addr} {n c : Nat} {l : List AttrP} (r : Row elAttr A h b n c l) (hz : b = none -> c = 0) (hn : n <= 1000000) (hk : ∀ b' c' h', OwnF elAttr h' h.size 67 b' n c' l -> KB h h' -> K (.slice b' n c') h') :
    HCalls Tryz.prog 49 ⟨[.slice b n c]⟩ h K :=
  Sx.slices_Clone_apiAttr.ok _ _ _ _ _ (clone_k (Kr := fun b n c h => K (.slice b n c) h) apdAttr (by kernel_rfl) r hz hn (by decide) hk)
theorem flatAttr : Flat elAttr := fun _ _ _ _ _ _ ⟨c1, c2, e, r1, r2⟩ => ⟨c1, c2, e, r1, r2⟩
theorem free_own {h0 h : H} {b : Option Addr} {n c : Nat} {l : List AttrP} (o : OwnF elAttr h h0.size 67 b n c l) (hf : ∀ k, h0.size <= k -> col k = none) : Row elAttr (Free col h) h b n c l := by
  obtain ⟨xs, h1, h2⟩ := o.own.own
  have h2' : Enc elAttr (Free col h) h l xs := Enc.flat flatAttr h2
  by_cases hn : n = 0
  · subst hn
    have : l = [] := List.eq_nil_of_length_eq_zero o.own.len
    subst this
    exact ⟨rfl, h1.cap, h1.max, fun i x hx => by simp at hx⟩
  · exact Row.of h2' h1.cells o.own.len h1.cap h1.max fun q e => ⟨hf _ (o.lo q e), o.hi q e⟩
theorem push_k (T : TreeP h col s t ads ns) (hx : Rng .u8 x.kind /\ Rng .u8 x.space) (hpar : x.parent = -1) (hkids : x.kids = []) (hfa : x.attrs.length <= 1000000) (hfn : x.name.length <= maxLen) (hft : x.text.length <= maxLen) (hfew : ns.length < 1000000)
    {x3 : Addr} {tt : Nat} {ab kb : Option Addr} {an ac kn kc : Nat} (v : Var h x3 tt [.int .u8 x.kind, .int .u8 x.space, S x.name, .slice ab an ac, S x.text, .slice kb kn kc]) (hkb : kb = none /\ kn = 0 /\ kc = 0) (ra : Row elAttr (Free col h) h ab an ac x.attrs) (hz : ab = none -> ac = 0)
    (hk : ∀ h' col' ads', TreeP h' col' s t ads' (ns ++ [x]) -> Ext s h col h' col' -> K (.int .i64 (ns.length : Int)) h') :
    Sx.dom_Tree_Make.n3 (some t) x3 (fun y4 h => K (.int .i64 y4) h) (fun y4 h => K (.int .i64 y4) h) h := by
  obtain ⟨rfl, rfl, rfl⟩ := hkb
  obtain ⟨lb, lc, vt, o, hl⟩ := T.ex
  have hlen := T.len
  have vtl := vt.lt
  refine vSomeMk ⟨_, _, _, vt.cell 0 rfl, _, v.cell 0 rfl, _, v.cell 1 rfl, _, v.cell 2 rfl, _, _, _, v.cell 3 rfl, _, v.cell 4 rfl, _, _, _, v.cell 5 rfl, newx_var fun a1 h1 v1 k1 e1 s1 => ⟨k1.ext, newx_var fun a2 h2 v2 k2 e2 s2 => ⟨k2.ext, ?_⟩⟩⟩
  have k12 : KB h h2 := k1.trans k2
  have o2 := o.kb k12
  have hlo := o.hi
  have r2 : Row elPtr (But h2 lb) h2 (some a2) 1 1 [a1] := v2.row1 (x := a1) (E := elPtr) (A := But h2 lb) rfl ⟨v2.lt, fun q e => by have := hlo q e; omega⟩
  refine OwnF.appendN apdPtr o2 r2 (by simp only [maxLen]; omega) (by omega) (Nat.zero_le _) fun b3 c3 h3 o3 g3 nb => vSliceMk ?_
  have hlb : ∀ q, lb = some q -> col q.block = some (s, 1) := hl
  have vt2 := vt.kb k12
  have vt3 : Var h3 t 87 [.slice lb ns.length lc] := vt2.keep g3.keep.w ⟨vt2.lt, fun q e e2 => by have h1 := hlb q e; rw [e2, T.colt] at h1; cases h1⟩
  have sz3 := g3.size
  refine vSomeMk (stL_var (m := 0) (i := 0) vt3 (by show 0 + 0 + 1 <= 1; omega) fun h4 v4 k4 s4 => vSomeMk ⟨_, _, _, v4.cell 0 rfl, rngI (by omega) (by omega), ?_⟩)
  have en : (((ns.length + 1 : Nat) : Int) - 1) = (ns.length : Int) := by omega
  rw [en]
  have hb3 : ∀ q, b3 = some q -> q.block < h3.size := o3.hi
  have hres := hk h4 (fun k => if k = h.size then some (s, 2 * ns.length + 2) else putB col h2 b3 (s, 1) k) (ads ++ [a1]) ?_ ⟨⟨by omega, fun k hk => ?_⟩, fun k hk => ?_⟩
  · exact hres
  · have hcol : ∀ k, k < h.size -> (fun k => if k = h.size then some (s, 2 * ns.length + 2) else putB col h2 b3 (s, 1) k) k = col k := fun k hk => by
      show (if _ then _ else _) = _
      rw [if_neg (by omega), putB_old (by omega)]
    have kk : ∀ k, k < h2.size -> k ≠ t.block -> (∀ q, lb = some q -> q.block ≠ k) -> h4[k]? = h2[k]? := fun k h1 h2' h3' => (k4.2 k h2').trans (g3.old k h1 h3')
    refine ⟨⟨b3, c3, ?_, ?_, fun q e => ?_⟩, by simp [hlen], fun j y b hy hb => ?_, (hcol _ vtl).trans T.colt, fun k hk => ?_, by simp; omega⟩
    · have : setAll [Value.slice lb ns.length lc] (0 + 0) [Value.slice b3 (ns.length + 1) c3] = [Value.slice b3 (ns.length + 1) c3] := rfl
      rw [List.length_append]
      exact v4
    · rw [List.length_append]
      have ht3 : ∀ q, b3 = some q -> q.block ≠ t.block := fun q e e2 => by
        rcases nb q e with h1 | h1
        · have := hlb q h1; rw [e2, T.colt] at this; cases this
        · omega
      refine ⟨?_, o3.lo, fun q e => by have := o3.hi q e; omega, o3.nil⟩
      obtain ⟨xs, h1, h2'⟩ := o3.own.own
      exact ⟨o3.own.len, xs, h1.keep k4.w fun g e _ hg => ht3 _ e, Enc.flat (fun _ _ _ _ _ _ h => h) h2'⟩
    · show (if _ then _ else _) = _
      rw [if_neg (by
        intro e2
        rcases nb q e with h1 | h1
        · have := hlo q h1; omega
        · omega)]
      exact putB_at e fun hlt => by
        rcases nb q e with h1 | h1
        · exact hlb q h1
        · omega
    · by_cases hj : j < ns.length
      · rw [List.getElem?_append_left hj] at hy
        rw [List.getElem?_append_left (by omega)] at hb
        refine (T.nodes j y b hy hb).keep (B := fun k => k < h.size /\ k ≠ t.block /\ ∀ q, lb = some q -> q.block ≠ k) ⟨by omega, fun k hk o e hlp => ?_⟩ hcol fun k hk hor => ⟨hk, fun e => ?_, fun q e e2 => ?_⟩
        · rw [kk k (by omega) hk.2.1 hk.2.2, k12.2 k hk.1]; exact e
        · rw [e, T.colt] at hor; rcases hor with h1 | h1 | h1 <;> cases h1
        · have := hlb q e; rw [e2] at this; rw [this] at hor; rcases hor with h1 | h1 | h1 <;> cases h1
      · have hjn : j = ns.length := by
          have := (List.getElem?_eq_some_iff.1 hy).1
          simp at this; omega
        subst hjn
        rw [List.getElem?_append_right (Nat.le_refl _), Nat.sub_self] at hy
        rw [<- hlen, List.getElem?_append_right (Nat.le_refl _), Nat.sub_self] at hb
        simp at hy hb
        subst hy; subst hb
        have v1' : Var h4 a1 84 (nodeC x ab an ac none 0 0) := by
          have e : nodeC x ab an ac none 0 0 = [.int .u8 x.kind, .int .u8 x.space, S x.name, .slice ab an ac, S x.text, .slice none 0 0, .int .i64 (-1), .slice none 0 0] := by unfold nodeC; rw [hpar]
          rw [e]
          refine ⟨v1.is, ?_⟩
          rw [kk a1.block (by omega) (by omega) (fun q e => by have := hlo q e; omega), (KB.w k2).2 a1.block v1.lt _ v1.cells rfl]
        refine ⟨⟨ab, an, ac, none, 0, 0, v1', ?_, hz, by rw [hkids]; exact OwnI.none _, fun q e => by cases e⟩, ?_, hx.1, hx.2, by rw [hpar]; exact ⟨by decide, by decide⟩, hfa, hfn, hft⟩
        · refine ra.keep (B := fun k => col k = none /\ k < h.size) ⟨by omega, fun k hk o e hlp => ?_⟩ fun k hk hs => ⟨by rw [hcol k hs]; exact hk.1, by omega⟩
          have hk : col k = none /\ k < h.size := hk.1
          rw [kk k (by omega) (fun e2 => by rw [e2, T.colt] at hk; cases hk.1) (fun q e2 e3 => by have := hlb q e2; rw [e3, hk.1] at this; cases this), k12.2 k hk.2]; exact e
        · show (if _ then _ else _) = _
          rw [if_pos (by omega)]
    · show (if _ then _ else _) = _
      rw [if_neg (by omega), putB_far (h' := h3) hb3 (by omega)]
      exact T.fresh k (by omega)
  · obtain ⟨hk1, hk2⟩ := hk
    rw [k4.2 k (fun e => hk2 0 (by rw [e]; exact T.colt)), g3.old k (by omega) (fun q e e2 => hk2 1 (by rw [<- e2]; exact hlb q e))]
    exact k12.2 k hk1
  · show (if _ then _ else _) = _
    rw [if_neg (by omega), putB_old (by omega)]
theorem make_calls (T : TreeP h col s t ads ns) {kd sp : Int} {nm tx : Bs} {ab kb : Option Addr} {an ac kn kc : Nat} {attrs : List AttrP} {A : Nat -> Prop} (r : Row elAttr A h ab an ac attrs) (hz : ab = none -> ac = 0) (han : an <= 1000000) (hkd : Rng .u8 kd) (hsp : Rng .u8 sp) (hxn : nm.length <= maxLen) (hxt : tx.length <= maxLen) (hfew : ns.length < 1000000)
    (hk : ∀ h' col' ads', TreeP h' col' s t ads' (addM ns (bareM kd sp nm attrs tx)).1 -> Ext s h col h' col' -> K (.int .i64 (addM ns (bareM kd sp nm attrs tx)).2) h') :
    HCalls Tryz.prog 66 ⟨[.pointer (some t), .agg ⟨[.int .u8 kd, .int .u8 sp, S nm, .slice ab an ac, S tx, .slice kb kn kc]⟩]⟩ h K := by
  have hl := r.len
  refine Sx.dom_Tree_Make.ok _ _ _ _ _ _ _ _ _ _ _ _ _ (newx_var fun x3 h1 v1 k1 e1 s1 => ⟨_, v1.cell 0 rfl, ?_⟩)
  have plain : ∀ kd', kd' = kd -> (kd = 2 ∨ kd = 3) -> Sx.dom_Tree_Make.n10 (some t) x3 true (fun z0 z3 h => Sx.dom_Tree_Make.n3 z0 z3 (fun y4 h => K (.int .i64 y4) h) (fun y4 h => K (.int .i64 y4) h) h) (fun z0 z3 h => Sx.dom_Tree_Make.n3 z0 z3 (fun y4 h => K (.int .i64 y4) h) (fun y4 h => K (.int .i64 y4) h) h) (fun y4 h => K (.int .i64 y4) h) h1 := by
    intro kd' _ e23
    have eb : bareM kd sp nm attrs tx = some ⟨kd, 0, [], [], tx, -1, []⟩ := by unfold bareM; rw [if_neg (by omega), if_pos e23]
    rw [eb] at hk
    refine condT ⟨_, v1.cell 0 rfl, _, v1.cell 4 rfl, stL_var0 v1 (Nat.le_refl 6) fun h2 v2 k2 s2 => ?_⟩
    have kk : KB h h2 := KB.step k1 k2 (by omega)
    exact push_k (x := ⟨kd, 0, [], [], tx, -1, []⟩) (T.kb kk) ⟨hkd, (show Rng .u8 0 from ⟨by decide, by decide⟩)⟩ rfl rfl (Nat.zero_le _) (Nat.zero_le _) hxt hfew v2 ⟨rfl, rfl, rfl⟩ ⟨rfl, Nat.le_refl _, Nat.zero_le _, fun i x hx => by simp at hx⟩ (fun _ => rfl) fun h' col' ads' T' e' => hk h' col' ads' T' ((Ext.kb kk).trans e')
  refine spl (fun e => ?_) fun e => ?_
  · have eb : bareM kd sp nm attrs tx = some ⟨kd, sp, nm, attrs, [], -1, []⟩ := by unfold bareM; rw [if_pos e]
    rw [eb] at hk
    refine condT ⟨_, v1.cell 0 rfl, _, v1.cell 1 rfl, _, v1.cell 2 rfl, _, _, _, v1.cell 3 rfl, cloneA_calls (r.bel.keep ((KB.w k1).less fun k hk => hk.2) (B' := fun _ => True) fun _ _ _ => trivial) hz han fun b2 c2 h2 o2 k2 => vSliceMk ⟨k2.ext, stL_var0 (v1.kb k2) (Nat.le_refl 6) fun h3 v3 k3 s3 => ?_⟩⟩
    have kk : KB h h3 := KB.step (k1.trans k2) k3 (by omega)
    have o3 : OwnF elAttr h3 h1.size 67 b2 an c2 attrs := o2.flatK k3 flatAttr fun g hg => by omega
    exact push_k (x := ⟨kd, sp, nm, attrs, [], -1, []⟩) (T.kb kk) ⟨hkd, hsp⟩ rfl rfl (by show attrs.length <= _; omega) hxn (Nat.zero_le _) hfew v3 ⟨rfl, rfl, rfl⟩ (free_own o3 fun k hk => T.fresh k (by omega)) o3.nil fun h' col' ads' T' e' => hk h' col' ads' T' ((Ext.kb kk).trans e')
  · refine condF (spl (fun e2 => plain kd rfl (.inl e2)) fun e2 => spl (fun e3 => plain kd rfl (.inr e3)) fun e3 => condF ?_)
    have eb : bareM kd sp nm attrs tx = none := by unfold bareM; rw [if_neg e, if_neg (by omega)]
    rw [eb] at hk
    exact hk h1 col ads (T.kb k1) (Ext.kb k1)
def copyM (ns : List NodeM) (id : Int) : List NodeM × Int :=
  if 0 <= id /\ id < ns.length then addM ns ((ns[id.toNat]?).bind fun x => bareM x.kind x.space x.name x.attrs x.text) else (ns, -1)
end
end Go.Proofs
namespace Go.Proofs
open Go Go.Sh
set_option linter.unusedVariables false
set_option maxRecDepth 100000
def parI (ns : List NodeM) (i : Int) : Int := ((ns[i.toNat]?).map (·.parent)).getD (-1)
def chainP (ns : List NodeM) : Nat -> Int -> List Int
  | 0, _ => []
  | f + 1, i => if 0 <= i then i :: chainP ns f (parI ns i) else []
def endP (ns : List NodeM) : Nat -> Int -> Prop
  | 0, i => i < 0
  | f + 1, i => i < 0 ∨ endP ns f (parI ns i)
def InC (ns : List NodeM) (id of : Int) : Prop := ∃ f, of ∈ chainP ns f id
noncomputable def withinP (ns : List NodeM) (id of : Int) : Bool := @decide (InC ns id of) (Classical.propDecidable _)
theorem chain_neg {ns : List NodeM} {i : Int} (h : i < 0) : ∀ f, chainP ns f i = []
  | 0 => rfl
  | f + 1 => by unfold chainP; rw [if_neg (by omega)]
theorem chain_end {ns : List NodeM} : ∀ {N : Nat} {i : Int}, endP ns N i -> ∀ f x, x ∈ chainP ns f i -> x ∈ chainP ns N i
  | 0, i, h, f, x, hx => by rw [chain_neg h] at hx; exact hx
  | N + 1, i, h, 0, x, hx => by cases hx
  | N + 1, i, h, f + 1, x, hx => by
    unfold chainP at hx ⊢
    split at hx
    · rename_i h0
      rw [if_pos h0]
      rcases List.mem_cons.1 hx with rfl | hx
      · exact List.mem_cons_self ..
      · exact List.mem_cons_of_mem _ (chain_end (h.resolve_left (by omega)) f x hx)
    · cases hx
theorem inC_iff {ns : List NodeM} {N : Nat} {i x : Int} (h : endP ns N i) : InC ns i x ↔ x ∈ chainP ns N i := ⟨fun ⟨f, hf⟩ => chain_end h f x hf, fun h => ⟨N, h⟩⟩
structure GoodT (ns : List NodeM) : Prop where
  par : ∀ (i : Nat) x, ns[i]? = some x -> x.parent = -1 ∨ (0 <= x.parent /\ x.parent < ns.length)
  kid : ∀ (i : Nat) x (k : Int), ns[i]? = some x -> (k ∈ x.kids ↔ ∃ (j : Nat) (y : NodeM), k = (j : Int) /\ ns[j]? = some y /\ y.parent = (i : Int))
  nodup : ∀ (i : Nat) x, ns[i]? = some x -> x.kids.Nodup
  rank : ∃ rk : Nat -> Nat, ∀ (i p : Nat) x, ns[i]? = some x -> x.parent = (p : Int) -> rk p < rk i
  root : ∃ x, ns[0]? = some x /\ x.parent = -1
theorem GoodT.ends {ns : List NodeM} (G : GoodT ns) {rk : Nat -> Nat} (hr : ∀ (i p : Nat) x, ns[i]? = some x -> x.parent = (p : Int) -> rk p < rk i) : ∀ (f : Nat) (i : Nat), rk i < f -> endP ns f (i : Int)
  | 0, i, h => by omega
  | f + 1, i, h => by
    right
    unfold parI
    rw [Int.toNat_natCast]
    cases hx : ns[i]? with
    | none =>
      show endP ns f (-1)
      cases f with
      | zero => show (-1 : Int) < 0; omega
      | succ f => exact .inl (by omega)
    | some x =>
      show endP ns f x.parent
      rcases G.par i x hx with h1 | ⟨h1, h2⟩
      · rw [h1]
        cases f with
        | zero => show (-1 : Int) < 0; omega
        | succ f => exact .inl (by omega)
      · obtain ⟨p, hp⟩ := Int.eq_ofNat_of_zero_le h1
        have hp : x.parent = (p : Int) := hp
        rw [hp]
        exact G.ends hr f p (by have := hr i p x hx hp; omega)
theorem GoodT.end_ex {ns : List NodeM} (G : GoodT ns) (i : Int) : ∃ N, endP ns N i := by
  obtain ⟨rk, hr⟩ := G.rank
  rcases Int.lt_or_le i 0 with h | h
  · exact ⟨0, h⟩
  · obtain ⟨k, hk⟩ := Int.eq_ofNat_of_zero_le h
    exact ⟨rk k + 1, by rw [hk]; exact G.ends hr _ k (by omega)⟩
theorem _root_.Go.Sh.OwnF.rowAt {α : Type} {E : El α} (hf : Flat E) {h h' : H} {base e n c : Nat} {b : Option Addr} {l : List α} {B : Nat -> Prop} (o : OwnF E h base e b n c l) (k : Keep B h h') (hb : ∀ q, b = some q -> B q.block) : Row E (fun _ => True) h' b n c l := by
  obtain ⟨xs, h1, h2⟩ := o.own.own
  exact Row.of (Enc.flat hf h2) (h1.keep k fun g e _ _ => hb _ e).cells o.own.len h1.cap h1.max fun _ _ => trivial
theorem flatPtr : Flat elPtr := fun _ _ _ _ _ _ h => h
theorem rounds_ofP {D : Nat} {Pv Rd : Nat -> Prop} {rd : Round} {done : H -> Prop} (Inv : List (List Value) -> H -> Prop) (hz : ∀ xs h h1, Inv xs h -> NzP Pv (D + 1) h h1 -> Inv xs h1)
    (hs : ∀ x xs h1 Kc, Inv (x :: xs) h1 -> (∀ hb h', KpP Rd hb h' -> Inv xs h' -> Kc hb h') ->
      rd x (fun he p => KpP Rd h1 he /\ ∀ h2, NzP Pv (D + 1) he h2 -> p h2) Kc (fun hb h' p => KpP Rd hb h' /\ ∀ h4, NzP Pv (D + 1) h' h4 -> dOpen D h4 -> p h4) h1)
    (hd : ∀ h1, Inv [] h1 -> dOpen D h1 -> done h1) : ∀ (xs : List (List Value)) (h : H), Inv xs h -> rounds D Pv Rd rd done xs h
  | [], h, hi => fun h1 hn ho => hd h1 (hz _ _ _ hi hn) ho
  | x :: xs, h, hi => fun h1 hn => hs x xs h1 _ (hz _ _ _ hi hn) fun hb h' hk hi' => ⟨hk, rounds_ofP Inv hz hs hd xs h' hi'⟩
theorem callYieldB {L : Nat} {args : Array Value} {h : H} {next : Value -> H -> Prop} : CallV Tryz.prog 4 (.func (.yield L) ⟨[]⟩ ⟨[]⟩) args h next = YCalls Tryz.prog L ⟨args.toList⟩ h fun v h' => vBool v fun b => cond b (next (.bool true) h') (next (.bool false) h') := by kernel_rfl
section
variable {h : H} {K : Value -> H -> Prop} {col : Col} {s i : Nat} {t a1 a2 : Addr} {ads : List Addr} {ns : List NodeM} {x : NodeM}
abbrev TreeB (col : Col) (s : Nat) : Nat -> Prop := fun k => ∃ p, col k = some (s, p)
theorem par_read (T : TreeP h col s t ads ns) {h' : H} {B : Nat -> Prop} (k : Keep B h h') (hB : ∀ k, TreeB col s k -> B k) {i : Nat} (hx : ns[i]? = some x) {Q : Int -> Prop} (hq : Q x.parent) :
    ∃ b n c, cell h' (t.add 0) = some (.slice b n c) /\ ((0 <= (i : Int) /\ (i : Int) < (n : Int)) /\ vSome b fun a18 => ∃ p19, cell h' (a18.add (Int.toNat (i : Int) * 1)) = some (.pointer p19) /\ vSome p19 fun a20 => ∃ i21, cell h' (a20.add 6) = some (.int .i64 i21) /\ Q i21) := by
  obtain ⟨lb, lc, v, o, hl⟩ := T.ex
  have hlt := (List.getElem?_eq_some_iff.1 hx).1
  have hlen := T.len
  have r := o.rowAt flatPtr k fun q e => hB _ ⟨_, hl q e⟩
  refine ⟨lb, _, lc, (v.keep k (hB _ ⟨_, T.colt⟩)).cell 0 rfl, r.idxN (i := i) (by omega) rfl fun a hA => ldPtr hA (vSomeMk ?_)⟩
  have N := T.nodes i x ads[i] hx (List.getElem?_eq_getElem (by omega))
  obtain ⟨ab, an, ac, kb, kn, kc, vn, _⟩ := N.ex
  exact ⟨_, (vn.keep k (hB _ ⟨_, N.col⟩)).cell 6 rfl, hq⟩
theorem above_emits (T : TreeP h col s t ads ns) {t1 t2 : Nat} {id : Int} {N : Nat} (hid : id < ns.length) (hin : ∀ j : Nat, ∀ y, ns[j]? = some y -> y.parent < ns.length /\ -1 <= y.parent) (hend : endP ns N id) (v1 : Var h a1 t1 [.int .i64 id]) (v2 : Var h a2 t2 [.pointer (some t)]) (hne : a1.block ≠ a2.block) (hc1 : col a1.block = none) :
    Emits Tryz.prog (.func (.func 213) ⟨[]⟩ ⟨[.pointer (some a1), .pointer (some a2)]⟩) h ((chainP ns N id).map fun i => [.int .i64 i]) (fun k => k = a1.block) (fun k => TreeB col s k ∨ k = a1.block ∨ k = a2.block) := by
  refine ⟨213, _, _, rfl, fun args w => by kernel_rfl, fun L J Stop h2 hn hJ hS hY hj => ?_⟩
  refine Sx.dom_Tree_above_1.ok (.func (.yield L) ⟨[]⟩ ⟨[]⟩) a1 a2 _ _ ⟨N + 1, ?_⟩
  have key : ∀ (E : Sx.dom_Tree_above_1.T0), (∀ h3, J [] h3 ∨ Stop h3 -> E h3) -> ∀ (N : Nat) (id : Int) h', id < ns.length -> endP ns N id -> Keep (fun k => TreeB col s k ∨ k = a2.block) h h' -> Var h' a1 t1 [.int .i64 id] -> J ((chainP ns N id).map fun i => [.int .i64 i]) h' ->
      Sx.dom_Tree_above_1.n2_L E E E (N + 1) (.func (.yield L) ⟨[]⟩ ⟨[]⟩) a1 a2 h' := by
    intro E hE N
    induction N with
    | zero =>
      intro id h' hid hend hk hv hj
      unfold Sx.dom_Tree_above_1.n2_L
      exact ⟨_, hv.cell0 rfl, splF (by have : id < 0 := hend; omega) (hE _ (.inl hj))⟩
    | succ N ih =>
      intro id h' hid hend hk hv hj
      unfold Sx.dom_Tree_above_1.n2_L
      refine ⟨_, hv.cell0 rfl, spl (fun h0 => ⟨_, hv.cell0 rfl, ?_⟩) fun h0 => ?_⟩
      · obtain ⟨i, rfl⟩ := Int.eq_ofNat_of_zero_le (show 0 <= id by omega)
        have hlt : i < ns.length := by have := hid; simp at this; omega
        have hx : ns[i]? = some ns[i] := List.getElem?_eq_getElem hlt
        have hpar : parI ns (i : Int) = ns[i].parent := by unfold parI; rw [Int.toNat_natCast, hx]; rfl
        unfold chainP at hj
        rw [if_pos (by omega), List.map_cons, hpar] at hj
        have hend' : endP ns N ns[i].parent := by
          rcases hend with h1 | h1
          · have : (i : Int) < 0 := h1; omega
          · have h1 : endP ns N (parI ns (i : Int)) := h1
            rw [hpar] at h1; exact h1
        rw [callYieldB]
        refine fun w hw2 => ?_
        obtain ⟨fn, tmps, assign, body, hrun, hrd⟩ := hY _ _ _ hj w hw2
        refine ⟨fn, tmps, assign, body, hrun, hrd.mono ?_⟩
        rintro e w' ⟨v, he, ho, hor⟩
        refine ⟨v, he, ho, ?_⟩
        rcases hor with ⟨rfl, hJ', hkr⟩ | ⟨rfl, hS, hkr⟩
        · have kk : Keep (fun k => TreeB col s k ∨ k = a2.block) h w'.heap := Keep.trans hk (Keep.less hkr.keep fun k (hk : TreeB col s k ∨ k = a2.block) => by rcases hk with h | h; exact .inl h; exact .inr (.inr h))
          have hv' : Var w'.heap a1 t1 [.int .i64 (i : Int)] := hv.keep hkr.keep (.inr (.inl rfl))
          have v2' := v2.keep kk (.inr rfl)
          obtain ⟨b, n, c, e1, e2, e3⟩ := par_read (Q := fun q => stL a1 [.int .i64 q] 0 w'.heap fun h22 => Sx.dom_Tree_above_1.n2_L E E E (N + 1) (.func (.yield L) ⟨[]⟩ ⟨[]⟩) a1 a2 h22) T kk (fun k hk => .inl hk) hx (stL_var0 hv' (Nat.le_refl 1) fun h3 v3 k3 s3 => by
            refine ih ns[i].parent h3 (hin i _ hx).1 hend' (Keep.trans kk (k3.w.less fun k hk e => ?_)) v3 (hJ _ _ _ hJ' ⟨k3.1, fun b o e hp => ?_⟩)
            · rcases hk with ⟨p, hp⟩ | hk
              · rw [e, hc1] at hp; cases hp
              · exact hne (e.symm.trans hk)
            · by_cases hb : b = a1.block
              · have h1 := hp hb
                rw [hb, hv'.cells] at e; cases e; cases h1
              · rw [k3.2 b hb]; exact e)
          exact ⟨_, v2'.cell0 rfl, vSomeMk ⟨b, n, c, e1, _, hv'.cell0 rfl, e2, e3⟩⟩
        · exact hE _ (.inr hS)
      · rw [chain_neg (by omega)] at hj
        exact hE _ (.inl hj)
  exact key _ (fun h3 hh => hh) N id h2 hid hend ⟨hn.1, fun b hb o e hl => hn.2 b o e (fun x => x) fun _ => hl⟩ (v1.kw hn.kw) hj
theorem nz_var {L g : Nat} {h h1 : H} {a : Addr} {t : Nat} {cs : List Value} (v : Var h a t cs) (n : NzP (fun k => k = g) L h h1) (hg : a.block ≠ g) : Var h1 a t cs := ⟨v.is, n.2 _ _ v.cells hg fun _ => rfl⟩
theorem nz_kb {L g : Nat} {h0 h h1 : H} (k : KB h0 h) (n : NzP (fun k => k = g) L h h1) (hg : h0.size <= g) (hL : h0.size <= L) : KB h0 h1 :=
  ⟨Nat.le_trans k.1 n.1, fun b hb => by
    have e := k.2 b hb
    have hb' : b < h0.size := hb
    rw [Array.getElem?_eq_getElem hb'] at e ⊢
    exact n.2 b _ e (by omega) fun e2 => by omega⟩
theorem leave_kD {h0 h : H} {D t : Nat} {a : Addr} {cs : List Value} {Q : H -> Prop} (hd : dOpen D h) (k : KB h0 h) (hD : h0.size <= D) (v : Var h a t cs) (hk : ∀ h', KB h0 h' -> Var h' a t cs -> Q h') : leaveX [markD D] h Q :=
  ⟨hd, hk _ (k.leave hD) (v.kw ((KW.refl h).leave hd))⟩
theorem unI {p : Int} {k : Int -> Prop} (h : k p) : uncons ((fun i : Int => [Value.int .i64 i]) p) fun e l => vInt .i64 e fun i => unnil l (k i) := show vInt .i64 (.int .i64 p) fun i => k i from vIntMk h
theorem within_calls (T : TreeP h col s t ads ns) (G : GoodT ns) {id of : Int} (hid : id < ns.length) (hk : ∀ h', KB h h' -> K (.bool (withinP ns id of)) h') : HCalls Tryz.prog 140 ⟨[.pointer (some t), .int .i64 id, .int .i64 of]⟩ h K := by
  obtain ⟨N, hend⟩ := G.end_ex id
  refine Sx.dom_Tree_within.ok _ _ _ _ _ (newx_var fun x5 h1 v1 k1 e1 s1 => newx_var fun x6 h2 v2 k2 e2 s2 => Sx.dom_Tree_above.ok _ _ _ _ (newx_var fun a2 h3 v3 k3 e3 s3 => newx_var fun a1 h4 v4 k4 e4 s4 => ?_))
  have k14 : KB h h4 := ((k1.trans k2).trans k3).trans k4
  have T4 := T.kb k14
  have hin : ∀ j : Nat, ∀ y, ns[j]? = some y -> y.parent < ns.length /\ -1 <= y.parent := fun j y hy => by
    rcases G.par j y hy with h | h <;> omega
  have v5 : Var h4 x5 3 [.int .i64 of] := ((v1.kb k2).kb k3).kb k4
  have v6 : Var h4 x6 4 [.bool false] := (v2.kb k3).kb k4
  have fin : ∀ h5 (b : Bool), KB h h5 -> dOpen h4.size h5 -> Var h5 x6 4 [.bool b] -> b = withinP ns id of -> leaveX [markD h4.size] h5 fun h => ∃ b62, cell h x6 = some (.bool b62) /\ K (.bool b62) h := fun h5 b k5 hd v e =>
    leave_kD hd k5 (by omega) v fun h6 k6 v6 => ⟨b, v6.cell0 rfl, by rw [e]; exact hk h6 k6⟩
  refine ⟨(chainP ns N id).map fun i => [.int .i64 i], fun k => k = a1.block, _, above_emits T4 hid hin hend v4 (v3.kb k4) (by omega) (T.fresh _ (by omega)), (fun x hx => by obtain ⟨z, _, rfl⟩ := List.mem_map.1 hx; rfl),
    rounds_ofP (fun xs h' => KB h h' /\ Var h' x5 3 [.int .i64 of] /\ Var h' x6 4 [.bool false] /\ ∃ l : List Int, xs = l.map (fun i => [.int .i64 i]) /\ (InC ns id of ↔ of ∈ l) /\ ∀ i ∈ l, Rng .i64 i)
      ?_ ?_ ?_ _ _ ⟨k14, v5, v6, chainP ns N id, rfl, inC_iff hend, ?_⟩⟩
  · rintro xs h5 h6 ⟨k5, w5, w6, l, e, hl, hr⟩ n
    exact ⟨nz_kb k5 n (by omega) (by omega), nz_var w5 n (by omega), nz_var w6 n (by omega), l, e, hl, hr⟩
  · rintro x xs h5 Kc ⟨k5, w5, w6, l, e, hl, hr⟩ hKc
    cases l with
    | nil => cases e
    | cons p l =>
      cases e
      refine unI ?_
      unfold Sx.dom_Tree_within.n6_rd
      refine ⟨KpP.refl _ _, fun h6 n6 => ?_⟩
      have k6 := nz_kb k5 n6 (by omega) (by omega)
      have w5' := nz_var w5 n6 (by omega)
      have w6' := nz_var w6 n6 (by omega)
      refine ⟨_, w5'.cell0 rfl, spl (fun ep => stL_var0 w6' (Nat.le_refl 1) fun h7 v7 k7 s7 => ⟨KX.kp w6' k7 fun e => ?_, fun h8 n8 hd => ?_⟩) fun ep => hKc h6 h6 (KpP.refl _ _) ⟨k6, w5', w6', l, rfl, ?_, fun i hi => hr i (List.mem_cons_of_mem _ hi)⟩⟩
      · rcases e with ⟨q, hq⟩ | e | e
        · rw [T.fresh _ (by omega)] at hq; cases hq
        · omega
        · omega
      · have k7' : KB h h7 := KB.step k6 k7 (by omega)
        refine fin h8 true (nz_kb k7' n8 (by omega) (by omega)) hd (nz_var v7 n8 (by omega)) ?_
        unfold withinP
        rw [@decide_eq_true (InC ns id of) (Classical.propDecidable _) (hl.2 (by rw [ep]; exact List.mem_cons_self ..))]
      · rw [hl, List.mem_cons]
        exact ⟨fun h => h.resolve_left (fun e => ep e.symm), .inr⟩
  · rintro h5 ⟨k5, w5, w6, l, e, hl, hr⟩ hd
    cases l with
    | cons p l => cases e
    | nil =>
      refine stL_var0 w6 (Nat.le_refl 1) fun h7 v7 k7 s7 => fin h7 false (KB.step k5 k7 (by omega)) (w6.dOpen k7 hd) v7 ?_
      unfold withinP
      rw [@decide_eq_false (InC ns id of) (Classical.propDecidable _) (fun h => by have := hl.1 h; cases this)]
  · have hf := T.few
    have : ∀ (N : Nat) (id : Int), id < ns.length -> ∀ i ∈ chainP ns N id, Rng .i64 i := by
      intro N
      induction N with
      | zero => intro id _ i hi; cases hi
      | succ N ih =>
        intro id hid i hi
        unfold chainP at hi
        split at hi
        · rcases List.mem_cons.1 hi with rfl | hi
          · exact rngI (by omega) (by omega)
          · refine ih _ ?_ i hi
            unfold parI
            cases hx : ns[id.toNat]? with
            | none => show (-1 : Int) < _; omega
            | some y => exact (hin _ y hx).1
        · cases hi
    exact this N id hid
end
end Go.Proofs
namespace Go.Proofs
open Go Go.Sh
set_option linter.unusedVariables false
set_option maxRecDepth 100000
def cutAt (ns : List NodeM) (i : Nat) (x : NodeM) (p : Nat) (y : NodeM) : List NodeM :=
  (ns.set p { y with kids := y.kids.eraseIdx (idxN (i : Int) y.kids) }).set i { x with parent := -1 }
def cutM (ns : List NodeM) (id : Int) : List NodeM × Bool :=
  if 0 <= id /\ id < ns.length then
    match ns[id.toNat]? with
    | none => (ns, false)
    | some x => if x.parent < 0 then (ns, false) else
      match ns[x.parent.toNat]? with
      | none => (ns, false)
      | some y => (cutAt ns id.toNat x x.parent.toNat y, true)
  else (ns, false)
def holdB (ns : List NodeM) (id : Int) : Bool := decide (0 <= id /\ id < ns.length) && ((ns[id.toNat]?).map fun x => decide (id = 0 ∨ x.kind = 1)).getD false
def putAt (ns : List NodeM) (p : Nat) (before : Int) (i : Nat) : List NodeM :=
  match ns[p]? with
  | none => ns
  | some y =>
    match (ns.set p { y with kids := y.kids.take (plcP y.kids before).toNat ++ (i : Int) :: y.kids.drop (plcP y.kids before).toNat })[i]? with
    | none => ns
    | some x => (ns.set p { y with kids := y.kids.take (plcP y.kids before).toNat ++ (i : Int) :: y.kids.drop (plcP y.kids before).toNat }).set i { x with parent := (p : Int) }
noncomputable def putM (ns : List NodeM) (parent before id : Int) : List NodeM × Bool :=
  if holdB ns parent = true /\ (0 <= id /\ id < ns.length) /\ id ≠ 0 /\ before ≠ id /\ 0 <= plcP (((ns[parent.toNat]?).map (·.kids)).getD []) before /\ withinP ns parent id = false then
    (putAt (cutM ns id).1 parent.toNat before id.toNat, true)
  else (ns, false)
theorem getI {α : Type} {l : List α} {i : Nat} {x : α} (h : l[i]? = some x) : i < l.length := (List.getElem?_eq_some_iff.1 h).1
section
variable {h : H} {K : Value -> H -> Prop} {col : Col} {s i : Nat} {t a : Addr} {ads : List Addr} {ns : List NodeM} {x : NodeM}
theorem stPar (T : TreeP h col s t ads ns) (ha : ads[i]? = some a) (hx : ns[i]? = some x) {p : Int} (hp : Rng .i64 p) {Q : H -> Prop}
    (hk : ∀ h', TreeP h' col s t ads (ns.set i { x with parent := p }) -> Ext s h col h' col -> KX a.block h h' -> Q h') : stL (a.add 6) [.int .i64 p] 0 h Q := by
  have N := T.nodes i x a hx ha
  obtain ⟨ab, an, ac, kb, kn, kc, v, ra, hz, ok, hkc⟩ := N.ex
  refine stL_var (m := 6) (i := 0) v (by show 6 + 0 + 1 <= 8; omega) fun h1 v1 k1 s1 => ?_
  have v1 : Var h1 a 84 (nodeC { x with parent := p } ab an ac kb kn kc) := v1
  have hal := v.lt
  refine hk h1 (T.upd ha (k1.less fun k hk e => ?_) (fun _ _ => rfl) (fun k hk => T.fresh k (by omega)) ⟨⟨ab, an, ac, kb, kn, kc, v1, ra.keep (k1.w.less fun k hk e => ?_) (fun k hk hs => ⟨hk.1, by omega⟩), hz, ok.keep k1.w fun q e e2 => ?_, hkc⟩, N.col, N.rk, N.rs, hp, N.fa, N.fn, N.ft⟩) ⟨k1.less fun k hk e => ?_, fun _ _ => rfl⟩ k1
  · rw [e] at hk; exact (hk.2 _ N.col).1 rfl
  · rw [e] at hk; have := hk.1.1; rw [N.col] at this; cases this
  · have h1 := hkc q e; rw [e2, N.col] at h1; have := (Prod.mk.inj (Option.some.inj h1)).2; omega
  · rw [e] at hk; exact hk.2 _ N.col
theorem stText (T : TreeP h col s t ads ns) (ha : ads[i]? = some a) (hx : ns[i]? = some x) {tx : Bs} (htx : tx.length <= maxLen) {Q : H -> Prop}
    (hk : ∀ h', TreeP h' col s t ads (ns.set i { x with text := tx }) -> Ext s h col h' col -> Q h') : stL ((a.add 0).add 4) [S tx] 0 h Q := by
  have N := T.nodes i x a hx ha
  obtain ⟨ab, an, ac, kb, kn, kc, v, ra, hz, ok, hkc⟩ := N.ex
  rw [add_zero']
  refine stL_var (m := 4) (i := 0) v (by show 4 + 0 + 1 <= 8; omega) fun h1 v1 k1 s1 => ?_
  have v1 : Var h1 a 84 (nodeC { x with text := tx } ab an ac kb kn kc) := v1
  have hal := v.lt
  refine hk h1 (T.upd ha (k1.less fun k hk e => ?_) (fun _ _ => rfl) (fun k hk => T.fresh k (by omega)) ⟨⟨ab, an, ac, kb, kn, kc, v1, ra.keep (k1.w.less fun k hk e => ?_) (fun k hk hs => ⟨hk.1, by omega⟩), hz, ok.keep k1.w fun q e e2 => ?_, hkc⟩, N.col, N.rk, N.rs, N.rp, N.fa, N.fn, htx⟩) ⟨k1.less fun k hk e => ?_, fun _ _ => rfl⟩
  · rw [e] at hk; exact (hk.2 _ N.col).1 rfl
  · rw [e] at hk; have := hk.1.1; rw [N.col] at this; cases this
  · have h1 := hkc q e; rw [e2, N.col] at h1; have := (Prod.mk.inj (Option.some.inj h1)).2; omega
  · rw [e] at hk; exact hk.2 _ N.col
theorem stKidsG (T : TreeP h col s t ads ns) (ha : ads[i]? = some a) (hx : ns[i]? = some x) {ab kb : Option Addr} {an ac kn kc : Nat} (v : Var h a 84 (nodeC x ab an ac kb kn kc)) (ra : Row elAttr (Free col h) h ab an ac x.attrs) (hz : ab = none -> ac = 0) (hkc : ∀ q, kb = some q -> col q.block = some (s, 2 * i + 3))
    {h1 : H} (g : Grow h h1 kb) {b' : Option Addr} {n' c' : Nat} {l' : List Int} (o : OwnI h1 b' n' c' l') (nb : NewB h kb b') {Q : H -> Prop}
    (hk : ∀ h' col', TreeP h' col' s t ads (ns.set i { x with kids := l' }) -> Ext s h col h' col' -> Q h') : stL (a.add 7) [.slice b' n' c'] 0 h1 Q := by
  have N := T.nodes i x a hx ha
  have hal := v.lt
  have hsz := g.size
  have hka : ∀ q, kb = some q -> q.block ≠ a.block := fun q e e2 => by have h1 := hkc q e; rw [e2, N.col] at h1; have := (Prod.mk.inj (Option.some.inj h1)).2; omega
  have v0 : Var h1 a 84 (nodeC x ab an ac kb kn kc) := v.keep g.keep.w ⟨hal, hka⟩
  refine stL_var (m := 7) (i := 0) v0 (by show 7 + 0 + 1 <= 8; omega) fun h2 v2 k2 s2 => ?_
  have v2 : Var h2 a 84 (nodeC { x with kids := l' } ab an ac b' n' c') := v2
  have hcol : ∀ k, k < h.size -> putB col h b' (s, 2 * i + 3) k = col k := fun k hk => putB_old hk
  have hba : ∀ q, b' = some q -> q.block ≠ a.block := fun q e e2 => by
    rcases nb q e with h1 | h1
    · exact hka q h1 e2
    · omega
  have kk : ∀ k, k < h.size -> k ≠ a.block -> (∀ q, kb = some q -> q.block ≠ k) -> h2[k]? = h[k]? := fun k h1 h2' h3 => (k2.2 k h2').trans (g.old k h1 h3)
  have hfar : ∀ k, h2.size <= k -> putB col h b' (s, 2 * i + 3) k = none := fun k hk => by
    rw [putB_far (h' := h1) (fun q e => o.hi q e) (by omega)]; exact T.fresh k (by omega)
  refine hk h2 (putB col h b' (s, 2 * i + 3)) (T.upd ha ⟨by omega, fun k hk => ?_⟩ hcol hfar ⟨⟨ab, an, ac, b', n', c', v2, ?_, hz, o.keep k2.w fun q e => hba q e, fun q e => ?_⟩, ?_, N.rk, N.rs, N.rp, N.fa, N.fn, N.ft⟩) ⟨⟨by omega, fun k hk => ?_⟩, hcol⟩
  · exact kk k hk.1 (fun e => (hk.2 _ (by rw [e]; exact N.col)).1 rfl) fun q e e2 => (hk.2 _ (by rw [<- e2]; exact hkc q e)).2 rfl
  · refine ra.keep ⟨by omega, fun k hk o e hl => ?_⟩ fun k hk hs => ⟨by rw [hcol k hs]; exact hk.1, by omega⟩
    have hk : col k = none /\ k < h.size := hk.1
    rw [kk k hk.2 (fun e2 => by rw [e2, N.col] at hk; cases hk.1) (fun q e2 e3 => by have := hkc q e2; rw [e3, hk.1] at this; cases this)]; exact e
  · refine putB_at e fun hlt => ?_
    rcases nb q e with h1 | h1
    · exact hkc q h1
    · omega
  · rw [hcol _ hal]; exact N.col
  · exact kk k hk.1 (fun e => hk.2 _ (by rw [e]; exact N.col)) fun q e e2 => hk.2 _ (by rw [<- e2]; exact hkc q e)
theorem GoodT.ne_par (G : GoodT ns) {i p : Nat} {x : NodeM} (hx : ns[i]? = some x) (hp : x.parent = (p : Int)) : i ≠ p := fun e => by
  obtain ⟨rk, hr⟩ := G.rank
  have := hr i p x hx hp
  rw [e] at this; omega
theorem plc_kid {kids : List Int} {i : Nat} (h : (i : Int) ∈ kids) : plcP kids (i : Int) = (idxN (i : Int) kids : Int) := by
  unfold plcP idxP
  rw [if_neg (by omega), if_pos h]
theorem cut_calls (T : TreeP h col s t ads ns) (G : GoodT ns) {id : Int} (hk : ∀ h' col', TreeP h' col' s t ads (cutM ns id).1 -> Ext s h col h' col' -> K (.bool (cutM ns id).2) h') :
    HCalls Tryz.prog 141 ⟨[.pointer (some t), .int .i64 id]⟩ h K := by
  have hlen := T.len
  refine Sx.dom_Tree_Cut.ok _ _ _ _ (at_calls T (fun hn => vPtrMk (ptrEq_k (by kernel_rfl) (vBool_mk (condT ?_)))) fun i a x e hx ha => vPtrMk (ptrEq_k (by kernel_rfl) (vBool_mk (condF ?_))))
  · have : cutM ns id = (ns, false) := by unfold cutM; rw [if_neg hn]
    rw [this] at hk
    exact hk h col T (Ext.refl _ _ _)
  · subst e
    have hlt := getI hx
    have N := T.nodes i x a hx ha
    obtain ⟨ab, an, ac, kb, kn, kc, v, ra, hz, ok, hkc⟩ := N.ex
    have ec : cutM ns (i : Int) = if x.parent < 0 then (ns, false) else match ns[x.parent.toNat]? with | none => (ns, false) | some y => (cutAt ns i x x.parent.toNat y, true) := by
      unfold cutM
      rw [if_pos (by omega), Int.toNat_natCast, hx]
    refine vSomeMk ⟨_, v.cell 6 rfl, spl (fun e => ?_) fun e => ?_⟩
    · rw [ec, if_pos e] at hk
      exact hk h col T (Ext.refl _ _ _)
    · rcases G.par i x hx with h1 | ⟨h1, h2⟩
      · omega
      obtain ⟨p, hp⟩ := Int.eq_ofNat_of_zero_le h1
      have hp : x.parent = (p : Int) := hp
      have hpl : p < ns.length := by omega
      have hy : ns[p]? = some ns[p] := List.getElem?_eq_getElem hpl
      rw [ec, if_neg e, hp, Int.toNat_natCast, hy] at hk
      obtain ⟨lb, lc, vt, o, hl⟩ := T.ex
      have hne := G.ne_par hx hp
      have hmem : (i : Int) ∈ ns[p].kids := (G.kid p _ _ hy).2 ⟨i, x, rfl, hx, hp⟩
      have hil := idxN_lt hmem
      refine vSomeMk ⟨_, _, _, vt.cell 0 rfl, vSomeMk ⟨_, v.cell 6 rfl, ?_⟩⟩
      rw [hp]
      have hap : ads[p]? = some (ads[p]'(by omega)) := List.getElem?_eq_getElem (by omega)
      generalize ads[p]'(by omega) = ap at hap
      have Np := T.nodes p _ ap hy hap
      obtain ⟨ab2, an2, ac2, kb2, kn2, kc2, v2, ra2, hz2, ok2, hkc2⟩ := Np.ex
      have hkl := ok2.len
      refine o.row.idxN (i := p) (by omega) rfl fun q hA => ldPtr hA ?_
      have eap : ads[p]'(by omega) = ap := by rw [List.getElem?_eq_getElem (by omega)] at hap; exact Option.some.inj hap
      rw [eap]
      refine index_calls Np (vIntMk (vSomeMk ⟨_, _, _, v2.cell 7 rfl, ?_⟩))
      rw [plc_kid hmem]
      have ei : ((idxN (i : Int) ns[p].kids : Int) + 1) = ((idxN (i : Int) ns[p].kids + 1 : Nat) : Int) := by omega
      have hmx := ok2.own.max
      have hcp := ok2.own.cap
      simp only [maxLen] at hmx
      rw [ei]
      refine ⟨rngI (by omega) (by omega), delI_calls ok2 (by omega) fun h3 o3 g3 => vSliceMk (vSomeMk (stKidsG T hap hy v2 ra2 hz2 hkc2 g3 o3 (fun q e => .inl e) fun h4 col4 T4 E4 => vSomeMk ?_))⟩
      refine stPar T4 ha (by rw [List.getElem?_set_ne (Ne.symm hne)]; exact hx) ⟨by decide, by decide⟩ fun h5 T5 E5 _ => hk h5 col4 T5 (E4.trans E5)
end
end Go.Proofs
