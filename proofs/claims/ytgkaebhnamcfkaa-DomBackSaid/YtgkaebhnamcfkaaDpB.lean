/- dom: two nodes put behind the root and cut off again (plain). No condition. -/
import Derived.Test.YtgkaebhnamcfkaaDoX
namespace Go.Proofs
open Go Go.Sh
set_option linter.unusedVariables false
set_option maxRecDepth 100000
theorem put_top {ns : List NodeM} {r y : NodeM} {i : Nat} {before : Int} (h0 : ns[0]? = some r) (hr : r.parent = -1) (hi : ns[i]? = some y) (hy : y.parent = -1) (hn : 0 < i) (hb : before ≠ (i : Int)) {k : Nat} (hk : plcP r.kids before = (k : Int)) :
    putM ns 0 before (i : Int) = ((ns.set 0 { r with kids := r.kids.take k ++ (i : Int) :: r.kids.drop k }).set i { y with parent := 0 }, true) := by
  have hil := getI hi
  have e0 : (0 : Int).toNat = 0 := rfl
  have hh : holdB ns 0 = true := by
    unfold holdB
    rw [e0, h0, decide_eq_true (show 0 ≤ (0 : Int) ∧ (0 : Int) < ns.length by omega)]
    show (true && decide ((0 : Int) = 0 ∨ r.kind = 1)) = true
    rw [decide_eq_true (show (0 : Int) = 0 ∨ r.kind = 1 from Or.inl rfl)]
    rfl
  have hw : withinP ns 0 (i : Int) = false := by
    unfold withinP
    refine @decide_eq_false _ (Classical.propDecidable _) fun hin => ?_
    rcases (inC_step (j := 0)).1 hin with h | h
    · omega
    · rw [parI_some h0, hr] at h
      exact inC_neg (by decide) h
  have hc : cutM ns (i : Int) = (ns, false) := by
    unfold cutM
    rw [if_pos ⟨by omega, by omega⟩, Int.toNat_natCast, hi]
    show (if y.parent < 0 then (ns, false) else _) = _
    rw [if_pos (by rw [hy]; decide)]
  have hp : putAt ns 0 before i = (ns.set 0 { r with kids := r.kids.take k ++ (i : Int) :: r.kids.drop k }).set i { y with parent := 0 } := by
    unfold putAt
    rw [h0]
    dsimp only
    rw [hk, Int.toNat_natCast, List.getElem?_set_ne (by omega), hi]
    rfl
  unfold putM
  rw [if_pos ⟨hh, ⟨by omega, by omega⟩, by omega, hb, by rw [e0, h0]; show 0 ≤ plcP r.kids before; omega, hw⟩, hc, e0, Int.toNat_natCast, hp]
theorem cut_top {ns : List NodeM} {r y : NodeM} {i : Nat} (h0 : ns[0]? = some r) (hi : ns[i]? = some y) (hy : y.parent = 0) :
    cutM ns (i : Int) = ((ns.set 0 { r with kids := r.kids.eraseIdx (idxN (i : Int) r.kids) }).set i { y with parent := -1 }, true) := by
  have hil := getI hi
  have e0 : (0 : Int).toNat = 0 := rfl
  unfold cutM
  rw [if_pos ⟨by omega, by omega⟩, Int.toNat_natCast, hi]
  show (if y.parent < 0 then (ns, false) else match ns[y.parent.toNat]? with
    | none => (ns, false)
    | some z => (cutAt ns i y y.parent.toNat z, true)) = _
  rw [if_neg (by rw [hy]; decide), hy, e0, h0]
  rfl
/-- of a tree the root's kids are told, and two nodes stand behind it -/
def twoT (r : NodeM) (tl : List NodeM) (x : NodeM) (ks : List Int) (p q : Int) : List NodeM := { r with kids := ks } :: (tl ++ [{ x with parent := p }, { x with parent := q }])
section
variable {r : NodeM} {tl : List NodeM} {x : NodeM} {ks : List Int} {p q : Int}
theorem two_len : (twoT r tl x ks p q).length = tl.length + 3 := by unfold twoT; simp
theorem two_0 : (twoT r tl x ks p q)[0]? = some { r with kids := ks } := rfl
theorem two_1 : (twoT r tl x ks p q)[tl.length + 1]? = some { x with parent := p } := by
  unfold twoT
  rw [List.getElem?_cons_succ, List.getElem?_append_right (Nat.le_refl _), Nat.sub_self]; rfl
theorem two_2 : (twoT r tl x ks p q)[tl.length + 2]? = some { x with parent := q } := by
  unfold twoT
  rw [List.getElem?_cons_succ, List.getElem?_append_right (by omega), show tl.length + 1 - tl.length = 1 by omega]; rfl
theorem two_in {j : Nat} (h : j < tl.length) : (twoT r tl x ks p q)[j + 1]? = (r :: tl)[j + 1]? := by
  unfold twoT
  rw [List.getElem?_cons_succ, List.getElem?_cons_succ, List.getElem?_append_left h]
theorem two_s1 {p' : Int} {y : NodeM} (hy : y = { x with parent := p' }) : (twoT r tl x ks p q).set (tl.length + 1) y = twoT r tl x ks p' q := by
  subst hy
  unfold twoT
  rw [List.set_cons_succ, List.set_append_right _ _ (Nat.le_refl _), Nat.sub_self]; rfl
theorem two_s2 {q' : Int} {y : NodeM} (hy : y = { x with parent := q' }) : (twoT r tl x ks p q).set (tl.length + 2) y = twoT r tl x ks p q' := by
  subst hy
  unfold twoT
  rw [List.set_cons_succ, List.set_append_right _ _ (by omega), show tl.length + 1 - tl.length = 1 by omega]; rfl
end
theorem idxN_app {i : Int} : ∀ {l t : List Int}, i ∉ l → idxN i (l ++ i :: t) = l.length
  | [], t, _ => by show idxN i (i :: t) = 0; unfold idxN; rw [if_pos rfl]
  | y :: l, t, h => by
    show idxN i (y :: (l ++ i :: t)) = l.length + 1
    unfold idxN
    rw [if_neg (fun e => h (by rw [e]; exact List.mem_cons_self)), idxN_app (fun hm => h (List.mem_cons_of_mem _ hm))]
theorem erase_app {i : Int} : ∀ {l t : List Int}, (l ++ i :: t).eraseIdx l.length = l ++ t
  | [], t => rfl
  | y :: l, t => by show y :: (l ++ i :: t).eraseIdx l.length = y :: (l ++ t); rw [erase_app]
section
variable {r : NodeM} {tl : List NodeM} {x : NodeM} {ks : List Int}
theorem bare_bare {kd sp : Int} {nm : Bs} {at' : List AttrP} {tx : Bs} {x : NodeM} (h : bareM kd sp nm at' tx = some x) : bareM x.kind x.space x.name x.attrs x.text = some x ∧ x.parent = -1 ∧ x.kids = [] := by
  unfold bareM at h
  split at h
  · cases h; rename_i e; refine ⟨?_, rfl, rfl⟩; unfold bareM; rw [if_pos e]
  · rename_i e
    split at h
    · cases h; rename_i e2; refine ⟨?_, rfl, rfl⟩; unfold bareM; rw [if_neg e, if_pos e2]
    · cases h
theorem bare_none {kd sp : Int} {nm : Bs} {at' : List AttrP} {tx : Bs} (h : bareM kd sp nm at' tx = none) : kd < 1 ∨ 3 < kd := by
  unfold bareM at h
  split at h
  · cases h
  · split at h
    · cases h
    · omega
theorem node_same {x : NodeM} (h : x.parent = -1) : { x with parent := -1 } = x := by cases x; simp only at h; subst h; rfl
theorem node_kids {r : NodeM} : { r with kids := r.kids } = r := by cases r; rfl
/-- first put, then the other ahead of it, then both cut off -/
theorem two_put1 (hr : r.parent = -1) (hx : x.parent = -1) (hk : ∀ k ∈ ks, k < (tl.length + 1 : Nat)) (q : Int) : putM (twoT r tl x ks (-1) q) 0 (-1) ((tl.length + 1 : Nat) : Int) = (twoT r tl x (ks ++ [((tl.length + 1 : Nat) : Int)]) 0 q, true) := by
  rw [put_top (r := { r with kids := ks }) (y := { x with parent := -1 }) two_0 hr two_1 rfl (by omega) (by omega) (k := ks.length) (by unfold plcP; rw [if_pos rfl])]
  show ((twoT r tl x (ks.take ks.length ++ _ :: ks.drop ks.length) (-1) q).set _ _, true) = _
  rw [List.take_length, List.drop_length, two_s1 rfl]
theorem two_put2 (hr : r.parent = -1) (hx : x.parent = -1) (hk : ∀ k ∈ ks, k < ((tl.length + 1 : Nat) : Int)) (p : Int) : putM (twoT r tl x (ks ++ [((tl.length + 1 : Nat) : Int)]) p (-1)) 0 ((tl.length + 1 : Nat) : Int) ((tl.length + 2 : Nat) : Int) = (twoT r tl x (ks ++ [((tl.length + 2 : Nat) : Int), ((tl.length + 1 : Nat) : Int)]) p 0, true) := by
  have hn : ((tl.length + 1 : Nat) : Int) ∉ ks := fun h => by have := hk _ h; omega
  rw [put_top (r := { r with kids := ks ++ [((tl.length + 1 : Nat) : Int)] }) (y := { x with parent := -1 }) two_0 hr two_2 rfl (by omega) (by omega) (k := ks.length) (by
    unfold plcP
    rw [if_neg (by omega)]
    unfold idxP
    rw [if_pos (by simp), idxN_app hn])]
  show ((twoT r tl x ((ks ++ [((tl.length + 1 : Nat) : Int)]).take ks.length ++ _ :: (ks ++ [((tl.length + 1 : Nat) : Int)]).drop ks.length) p (-1)).set _ _, true) = _
  rw [List.take_left' rfl, List.drop_left' rfl, two_s2 rfl]
theorem two_cut1 (hk : ∀ k ∈ ks, k < ((tl.length + 1 : Nat) : Int)) (q : Int) : cutM (twoT r tl x (ks ++ [((tl.length + 2 : Nat) : Int), ((tl.length + 1 : Nat) : Int)]) 0 q) ((tl.length + 1 : Nat) : Int) = (twoT r tl x (ks ++ [((tl.length + 2 : Nat) : Int)]) (-1) q, true) := by
  have hn : ((tl.length + 1 : Nat) : Int) ∉ ks ++ [((tl.length + 2 : Nat) : Int)] := fun h => by
    rcases List.mem_append.1 h with h | h
    · have := hk _ h; omega
    · simp only [List.mem_singleton] at h; omega
  have e : ks ++ [((tl.length + 2 : Nat) : Int), ((tl.length + 1 : Nat) : Int)] = (ks ++ [((tl.length + 2 : Nat) : Int)]) ++ ((tl.length + 1 : Nat) : Int) :: [] := by rw [List.append_assoc]; rfl
  rw [e, cut_top two_0 two_1 rfl]
  dsimp only
  rw [idxN_app hn, erase_app, List.append_nil]
  show ((twoT r tl x (ks ++ [((tl.length + 2 : Nat) : Int)]) 0 q).set _ _, true) = _
  rw [two_s1 rfl]
theorem two_cut2 (hk : ∀ k ∈ ks, k < ((tl.length + 1 : Nat) : Int)) (p : Int) : cutM (twoT r tl x (ks ++ [((tl.length + 2 : Nat) : Int)]) p 0) ((tl.length + 2 : Nat) : Int) = (twoT r tl x ks p (-1), true) := by
  have hn : ((tl.length + 2 : Nat) : Int) ∉ ks := fun h => by have := hk _ h; omega
  rw [cut_top two_0 two_2 rfl]
  dsimp only
  rw [idxN_app hn, erase_app, List.append_nil]
  show ((twoT r tl x ks p 0).set _ _, true) = _
  rw [two_s2 rfl]
theorem whole_congr {ns ns' : List NodeM} {S : Int → Prop} (hS : ∀ k, S k → 0 ≤ k ∧ ns'[k.toNat]? = ns[k.toNat]?) (hc : ∀ k, S k → ∀ m ∈ kidsI ns k, S m) : ∀ d k, S k → wholeL d ns' k = wholeL d ns k := by
  intro d
  induction d with
  | zero => intro k _; rfl
  | succ d ih =>
    intro k hk
    have e : kidsI ns' k = kidsI ns k := by unfold kidsI; rw [(hS k hk).2]
    unfold wholeL
    rw [e]
    refine List.map_congr_left fun m hm => ?_
    have hm' := hc k hk m hm
    rw [ih m hm']
    unfold nodeVI
    rw [(hS m hm').2]
def topV (d : Nat) (r : NodeM) (tl : List NodeM) (x : NodeM) (k : Int) : NodeV := if k < ((tl.length + 1 : Nat) : Int) then nodeVI (r :: tl) k (wholeL d (r :: tl) k) else .mk x.kind x.space x.name x.attrs x.text []
/-- the root's kids stand behind it -/
theorem top_kids (G : GoodT (r :: tl)) (hr : r.parent = -1) {i : Nat} {z : NodeM} (hz : (r :: tl)[i]? = some z) {k : Int} (hk : k ∈ z.kids) : ∃ j : Nat, k = ((j + 1 : Nat) : Int) ∧ j < tl.length := by
  obtain ⟨j, y, e, hy, hp⟩ := (G.kid i z k hz).1 hk
  cases j with
  | zero =>
    have hy : some r = some y := hy
    cases hy
    omega
  | succ j =>
    have := getI hy
    exact ⟨j, e, by simpa using this⟩
theorem whole_two (G : GoodT (r :: tl)) (hr : r.parent = -1) (hx : x.kids = []) {p q : Int} (hk : ∀ k ∈ ks, k ∈ r.kids ∨ k = ((tl.length + 1 : Nat) : Int) ∨ k = ((tl.length + 2 : Nat) : Int)) (d : Nat) : wholeL (d + 1) (twoT r tl x ks p q) 0 = ks.map (topV d r tl x) := by
  have hS := whole_congr (ns := r :: tl) (ns' := twoT r tl x ks p q) (S := fun k => ∃ j : Nat, k = ((j + 1 : Nat) : Int) ∧ j < tl.length) (fun k ⟨j, e, hj⟩ => by
    subst e
    refine ⟨by omega, ?_⟩
    rw [Int.toNat_natCast]
    exact two_in hj) (fun k ⟨j, e, hj⟩ m hm => by
    subst e
    have hz : (r :: tl)[j + 1]? = some (tl[j]) := by rw [List.getElem?_cons_succ]; exact List.getElem?_eq_getElem hj
    rw [kidsI_some hz] at hm
    exact top_kids G hr hz hm)
  have leaf : ∀ i : Nat, (∃ y : Int, (twoT r tl x ks p q)[i]? = some { x with parent := y }) → nodeVI (twoT r tl x ks p q) (i : Int) (wholeL d (twoT r tl x ks p q) (i : Int)) = .mk x.kind x.space x.name x.attrs x.text [] := fun i ⟨y, hi⟩ => by
    have : wholeL d (twoT r tl x ks p q) (i : Int) = [] := by
      cases d with
      | zero => rfl
      | succ d =>
        unfold wholeL
        rw [kidsI_some hi]
        show x.kids.map _ = []
        rw [hx]
        rfl
    rw [this]
    unfold nodeVI
    rw [Int.toNat_natCast, hi]
  have e0 : kidsI (twoT r tl x ks p q) 0 = ks := kidsI_some (j := 0) two_0
  unfold wholeL
  rw [e0]
  refine List.map_congr_left fun k hk' => ?_
  unfold topV
  rcases hk k hk' with h | h | h
  · obtain ⟨j, e, hj⟩ := top_kids G hr (i := 0) rfl h
    rw [if_pos (by omega), hS d k ⟨j, e, hj⟩]
    subst e
    unfold nodeVI
    rw [Int.toNat_natCast, two_in hj]
  · rw [if_neg (by omega), h]
    exact leaf _ ⟨_, two_1⟩
  · rw [if_neg (by omega), h]
    exact leaf _ ⟨_, two_2⟩
theorem whole_one (G : GoodT (r :: tl)) (hr : r.parent = -1) (x : NodeM) (d : Nat) : wholeL (d + 1) (r :: tl) 0 = r.kids.map (topV d r tl x) := by
  have e0 : kidsI (r :: tl) 0 = r.kids := kidsI_some (j := 0) rfl
  unfold wholeL
  rw [e0]
  refine List.map_congr_left fun k hk' => ?_
  obtain ⟨j, e, hj⟩ := top_kids G hr (i := 0) rfl hk'
  unfold topV
  rw [if_pos (by omega)]
end
end Go.Proofs
