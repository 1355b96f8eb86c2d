import Derived.Test.YtakddeombdgdgaaGreatHmI
import Derived.Lib.Overlaps
import Derived.Test.YtakddeombdgdgaaGreatAaA
import Derived.Test.YtakddeombdgdgaaGreatTxG
import Derived.Test.YtakddeombdgdgaaGreatOpA
import Derived.Test.YtakddeombdgdgaaGreatTxH
namespace Go.Sh
open Go
set_option linter.unusedVariables false
variable {P : Program} {α : Type} {E : El α}
theorem run_copy_rowN (w : World) (dT sT ty elem : TypeId) (g o dLen dCap : Nat) (a : Addr) (sLen sCap : Nat) (cur : Array Value) (t : TypeId) (i : TypeInfo) (cs : List Value)
    (hu : P.underlying dT = some (.slice elem)) (hi : P.info? elem = some i) (hg : w.heap[g]? = some (.cells cur t (0, 0))) (hn : cs.length = Nat.min sLen dLen * i.size)
    (hsrc : ∀ j v, cs[j]? = some v -> w.cell? (a.add j) = some v) (hfit : o + cs.length <= cur.size) (h1 : ∀ v ∈ cs, v.oneCell' = true) :
    (Builtin.copy_ #[dT, sT] ty #[.slice (some ⟨g, o, none⟩) dLen dCap, .slice (some a) sLen sCap]).run P w =
      .ok (goInt (Nat.min sLen dLen)) (w.setRow g (cur.toList.take o ++ cs ++ cur.toList.drop (o + cs.length)).toArray) := by
  have hl := run_loadCells_list (P := P) w a cs hsrc
  have hst := run_storeCells_at P g o t cs 0 cur w hg (by simpa using hfit) h1
  simp [Builtin.copy_, run_underlying hu, Builtin.lenOf, Builtin.firstCells, sizeOf, typeInfo, hi, <- hn, hl, hst]
theorem add_some (g o : Nat) : ((⟨g, 0, none⟩ : Addr).add o) = ⟨g, o, none⟩ := by unfold Addr.add; split <;> simp_all
structure MidI (E : El α) (h h1 : H) (g e n c i : Nat) (xs : List Value) : Prop where
  ex : ∃ cur : Array Value, h1[g]? = some (.cells cur e (0, 0)) /\ cur.size = c * E.sz /\ cur.toList.take (i * E.sz) = xs.take (i * E.sz) /\ (cur.toList.drop ((i + 1) * E.sz)).take ((n - i) * E.sz) = xs.drop (i * E.sz)
  old : ∀ k, k ≠ g -> h1[k]? = h[k]?
  size : h1.size = h.size
theorem setRow_size (w : World) (g : Nat) (row : Array Value) : (w.setRow g row).heap.size = w.heap.size := by simp [World.setRow]
section
variable {t e by' base n c i g : Nat} {h h1 : H} {l : List α} {A : Nat -> Prop} {xs : List Value}
theorem ins1_k (ap : Apd P E t e by') (en : Enc E A h l xs) (hxl : xs.length = n * E.sz) {cur : Array Value} (hg : h[g]? = some (.cells cur e (0, 0))) (hcs : cur.size = c * E.sz) (htk : cur.toList.take (n * E.sz) = xs) (hi : i < n) (hc : n + 1 <= c) {ty : TypeId} {K : Value -> H -> Prop}
    (hk : ∀ h1, MidI E h h1 g e n c i xs -> K (.int .i64 ((n - i : Nat) : Int)) h1) :
    SemH P (Builtin.copy_ #[t, t] ty ⟨[.slice (some ((⟨g, 0, none⟩ : Addr).add ((i + 1) * E.sz))) (n + 1 - (i + 1)) (c - (i + 1)), .slice (some ((⟨g, 0, none⟩ : Addr).add (i * E.sz))) (n + 1 - i) (c - i)]⟩) h K := by
  obtain ⟨ii, z, ht, hinf, hz, hzs, hsz, hby⟩ := ap.is
  intro w hw
  subst hw
  have hpos := E.pos
  have hi1 : (i + 1) * E.sz = i * E.sz + E.sz := Nat.succ_mul _ _
  have hi2 : (i + 1) * E.sz <= n * E.sz := Nat.mul_le_mul_right _ hi
  have hn1 : (n + 1) * E.sz <= c * E.sz := Nat.mul_le_mul_right _ hc
  have hn2 : (n + 1) * E.sz = n * E.sz + E.sz := Nat.succ_mul _ _
  have hmin : Nat.min (n + 1 - i) (n + 1 - (i + 1)) = n - i := by simp only [Nat.min_def]; split <;> omega
  have hdl : (xs.drop (i * E.sz)).length = (n - i) * E.sz := by rw [List.length_drop, hxl, <- Nat.sub_mul]
  have hsub : (n - i) * E.sz = n * E.sz - i * E.sz := Nat.sub_mul _ _ _
  have hsrc : ∀ j v, (xs.drop (i * E.sz))[j]? = some v -> w.cell? (((⟨g, 0, none⟩ : Addr).add (i * E.sz)).add j) = some v := fun j v hv => by
    rw [List.getElem?_drop, <- htk, List.getElem?_take] at hv
    split at hv
    · show cell w.heap _ = _
      rw [add_add, cell_lit hg, <- Array.getElem?_toList]; exact hv
    · cases hv
  have hr := run_copy_rowN (P := P) w t t ty e g ((i + 1) * E.sz) (n + 1 - (i + 1)) (c - (i + 1)) ((⟨g, 0, none⟩ : Addr).add (i * E.sz)) (n + 1 - i) (c - i) cur e ii (xs.drop (i * E.sz)) ht hinf hg (by rw [hmin, hdl, hsz]) hsrc (by rw [hdl, hcs]; omega) fun v hv => en.one v (List.mem_of_mem_drop hv)
  rw [hmin] at hr
  rw [add_some g ((i + 1) * E.sz)]
  refine ⟨_, _, hr, ⟨rfl, rfl, rfl⟩, hk _ ⟨⟨_, setRow_heap w g cur _ e _ hg, ?_, ?_, ?_⟩, fun k hkg => setRow_other _ _ _ _ hkg, setRow_size _ _ _⟩⟩
  · simp only [List.size_toArray, List.length_append, List.length_take, List.length_drop, Array.length_toList, hdl]
    omega
  · rw [List.toList_toArray, List.append_assoc, List.take_append_of_le_length (by rw [List.length_take, Array.length_toList]; omega), List.take_take, Nat.min_eq_left (by omega), <- htk, List.take_take, Nat.min_eq_left (by omega)]
  · rw [List.toList_toArray, List.append_assoc, List.drop_left' (by rw [List.length_take, Array.length_toList]; omega), List.take_left' hdl]
theorem ins2_k (ap : Apd P E t e by') (o : OwnT E A h base e (some ⟨g, 0, none⟩) n c l) (en : Enc E A h l xs) (hxl : xs.length = n * E.sz) (hA : ∀ k, A k -> k ≠ g) (hbg : base <= g) (hi : i < n) (hc : n + 1 <= c) (M : MidI E h h1 g e n c i xs) {a : Addr} {x : α} {cs : List Value} (hR : E.R A h x cs)
    (hv : ∀ j u, cs[j]? = some u -> cell h (a.add j) = some u) (ha : a.block ≠ g) {ty : TypeId} {ac : Nat} {K : Value -> H -> Prop}
    (hk : ∀ h', OwnT E A h' base e (some ⟨g, 0, none⟩) (n + 1) c (l.take i ++ x :: l.drop i) -> Grow h h' (some ⟨g, 0, none⟩) -> h'.size = h.size -> K (.int .i64 ((1 : Nat) : Int)) h') :
    SemH P (Builtin.copy_ #[t, t] ty ⟨[.slice (some ((⟨g, 0, none⟩ : Addr).add (i * E.sz))) (n + 1 - i) (c - i), .slice (some a) 1 ac]⟩) h1 K := by
  obtain ⟨ii, z, ht, hinf, hz, hzs, hsz, hby⟩ := ap.is
  obtain ⟨cur, hg, hcs, h2, h3⟩ := M.ex
  intro w hw
  subst hw
  have hpos := E.pos
  have hcl := E.len _ _ _ _ hR
  have hi1 : (i + 1) * E.sz = i * E.sz + E.sz := Nat.succ_mul _ _
  have hi2 : (i + 1) * E.sz <= n * E.sz := Nat.mul_le_mul_right _ hi
  have hn1 : (n + 1) * E.sz <= c * E.sz := Nat.mul_le_mul_right _ hc
  have hn2 : (n + 1) * E.sz = n * E.sz + E.sz := Nat.succ_mul _ _
  have hsub : (n - i) * E.sz = n * E.sz - i * E.sz := Nat.sub_mul _ _ _
  have hmin : Nat.min 1 (n + 1 - i) = 1 := by simp only [Nat.min_def]; split <;> omega
  have hsrc : ∀ j v, cs[j]? = some v -> w.cell? (a.add j) = some v := fun j v hj => by
    have := hv j v hj
    show cell w.heap _ = _
    unfold cell at this ⊢
    rw [M.old _ (by rw [add_block]; exact ha)]; exact this
  have hr := run_copy_rowN (P := P) w t t ty e g (i * E.sz) (n + 1 - i) (c - i) a 1 ac cur e ii cs ht hinf hg (by rw [hmin, hcl, hsz, Nat.one_mul]) hsrc (by rw [hcl, hcs]; omega) fun v hv => E.one _ _ _ _ hR v hv
  rw [hmin] at hr
  have hs : (w.setRow g (cur.toList.take (i * E.sz) ++ cs ++ cur.toList.drop (i * E.sz + cs.length)).toArray).heap.size = h.size := by rw [setRow_size, M.size]
  have hold : ∀ k, k ≠ g -> (w.setRow g (cur.toList.take (i * E.sz) ++ cs ++ cur.toList.drop (i * E.sz + cs.length)).toArray).heap[k]? = h[k]? := fun k hkg => by rw [setRow_other _ _ _ _ hkg, M.old k hkg]
  rw [add_some g (i * E.sz)]
  refine ⟨_, _, hr, ⟨rfl, rfl, rfl⟩, hk _ ⟨?_, xs.take (i * E.sz) ++ (cs ++ xs.drop (i * E.sz)), ⟨?_, hc, o.cap.2, .inr ⟨g, _, rfl, hbg, setRow_heap w g cur _ e _ hg, ?_, ?_⟩⟩, ?_⟩ ⟨Nat.le_of_eq hs.symm, fun k hk hne => hold k fun e2 => hne _ rfl e2.symm⟩ hs⟩
  · rw [List.length_append, List.length_take, List.length_cons, List.length_drop, o.len]; omega
  · rw [List.length_append, List.length_append, List.length_take, List.length_drop, hxl, hcl]; omega
  · simp only [List.size_toArray, List.length_append, List.length_take, List.length_drop, Array.length_toList, hcl]
    omega
  · rw [List.toList_toArray, List.append_assoc, h2, List.take_append, List.length_take, hxl, Nat.min_eq_left (by omega)]
    have e1 : (xs.take (i * E.sz)).take ((n + 1) * E.sz) = xs.take (i * E.sz) := by rw [List.take_take, Nat.min_eq_right (by omega)]
    rw [e1]
    congr 1
    rw [List.take_append, List.take_of_length_le (l := cs) (by omega)]
    congr 1
    rw [hcl, <- hi1, <- h3]
    congr 1
    omega
  · have h4 : Enc E A h (l.take i ++ x :: l.drop i) (xs.take (i * E.sz) ++ (cs ++ xs.drop (i * E.sz))) := (en.take i).append ⟨cs, _, rfl, hR, en.drop i⟩
    exact h4.keep ⟨Nat.le_of_eq hs.symm, fun k hkg o2 ho2 _ => by rw [hold k (hA k hkg.1)]; exact ho2⟩ fun _ h _ => h
end
end Go.Sh
namespace Go.Sh
open Go
set_option linter.unusedVariables false
variable {P : Program} {α : Type} {E : El α}
theorem cap_k {t e : TypeId} (ht : P.underlying t = some (.slice e)) {ty : TypeId} {b : Option Addr} {n c : Nat} {h : H} {K : Value -> H -> Prop} (hk : K (.int .i64 (c : Int)) h) : SemH P (Builtin.cap_ #[t] ty ⟨[.slice b n c]⟩) h K := fun w hw =>
  ⟨_, w, by show (Builtin.cap_ #[t] ty #[.slice b n c]).run P w = _; simp [Builtin.cap_, run_underlying ht]; rfl, Outer.refl w, by rw [hw]; exact hk⟩
theorem overlaps_k {t e by' tR : TypeId} (ap : Apd P E t e by') {g j : Nat} {cur : Array Value} {fz : Nat × Nat} {h : H} {a : Addr} {tv : Nat} {cs : List Value} (hg : h[g]? = some (.cells cur e fz)) (hs : cur.size ≠ 0) (va : Var h a tv cs) (ha : a.block ≠ g) {la ca lb cb : Nat} {K : Value -> H -> Prop} (hk : K (.bool false) h) :
    SemH P (Extern.SlicesOverlaps.overlaps #[t, t] #[tR] ⟨[.slice (some a) la ca, .slice (some ((⟨g, 0, none⟩ : Addr).add j)) lb cb]⟩) h K := by
  obtain ⟨ii, z, ht, hinf, hz, hzs, hsz, hby⟩ := ap.is
  intro w hw
  subst hw
  have hsa : w.shape? a.block = some (tv, cs.length) := by unfold World.shape?; rw [va.cells]; rfl
  have hsb : w.shape? ((⟨g, 0, none⟩ : Addr).add j).block = some (e, cur.size) := by rw [add_block]; unfold World.shape?; rw [hg]
  have hf : ∀ o, w.frozen? { block := a.block, off := o } = false := fun o => by unfold World.frozen?; simp only [va.cells]; simp
  have hfa : w.frozen? a = false := by rw [va.is]; exact hf 0
  exact ⟨_, w, Lib.run_overlaps_apart w t tR e ht ii.size (fun w => by simp [sizeOf, typeInfo, hinf]) a _ la ca lb cb (by rw [add_block]; exact ha) tv e cs.length cur.size hsa hsb hs hfa (hf _), Outer.refl w, hk⟩
end Go.Sh
namespace Go.Proofs
open Go Go.Sh
set_option linter.unusedVariables false
set_option maxRecDepth 100000
theorem cut0 (z : Nat) (b : Option Addr) (c : Nat) : (if c = Int.toNat (0 : Int) then b else Option.map (fun q => q.add (Int.toNat (0 : Int) * z)) b) = b := by
  split
  · rfl
  · cases b with
    | none => rfl
    | some q => show some (q.add (0 * z)) = some q; rw [Nat.zero_mul]; rfl
theorem take_snoc {α : Type} (l : List α) (x : α) {n : Nat} (hn : l.length = n) : l.take n ++ x :: l.drop n = l ++ [x] := by
  rw [List.take_of_length_le (by omega), List.drop_of_length_le (by omega)]
section
variable {h : H} {col : Col} {K : Value -> H -> Prop} {v : Nat × Nat} {b : Option Addr} {n c i : Nat} {a : Addr} {tv : Nat} {cs : List Value}
theorem OwnC.ne {α : Type} {E : El α} {e : Nat} {l : List α} (o : OwnC E h col v e b n c l) : ∀ k, Free col h k -> ∀ q, b = some q -> k ≠ q.block := fun k hk q hq e => by have := o.col q hq; rw [<- e, hk.1] at this; cases this
theorem insertM_calls {l : List MarkP} (o : OwnC elMark h col v 36 b n c l) (hf : Fresh h col) (hi : i <= n) (hc : n + 1 <= c) {x : MarkP} (hR : elMark.R (Free col h) h x cs) (va : Var h a tv cs) (ca : col a.block = none) (hn : n <= 1000000)
    (hk : ∀ b' c' h' col', OwnC elMark h' col' v 36 b' (n + 1) c' (l.take i ++ x :: l.drop i) -> Grow h h' b -> (∀ k, k < h.size -> col' k = col k) -> Fresh h' col' -> K (.slice b' (n + 1) c') h') :
    HCalls Tryz.prog 117 ⟨[.slice b n c, .int .i64 (i : Int), .slice (some a) 1 1]⟩ h K := by
  have hlen := o.len
  have hmax := o.cap.2
  simp only [maxLen] at hmax
  refine Sx.slices_Insert_apiMark.ok _ _ _ _ _ _ _ _ _ ⟨⟨by omega, by omega, by omega⟩, splF (by omega) (spl (fun e => ?_) fun e => ?_)⟩
  · have ei : i = n := by omega
    subst ei
    refine o.append apdMark (va.row1 hR ⟨ca, va.lt⟩) (by simp only [maxLen]; omega) (by omega) hf fun b' c' h' o' g' nb f' => ?_
    refine hk b' c' h' _ ?_ g' (fun k hk => putB_old hk) f'
    rw [take_snoc l x hlen]; exact o'
  · have hin : i < n := by omega
    refine ⟨rng64 (by omega) (by omega), cap_k (e := 36) (by kernel_rfl) (vIntMk (splF (by omega) (condF ⟨rng64 (by omega) (by omega), ⟨by omega, by omega, by omega⟩, ?_⟩)))⟩
    dsimp only [sqF]
    rw [cut0]
    have e1 : Int.toNat ((n : Int) + ((1 : Nat) : Int)) - Int.toNat (0 : Int) = n + 1 := by show Int.toNat ((n + 1 : Nat) : Int) - 0 = _; rw [Int.toNat_natCast]; omega
    have e2 : c - Int.toNat (0 : Int) = c := rfl
    have e3 : ((i : Int) + ((1 : Nat) : Int)) = ((i + 1 : Nat) : Int) := rfl
    rw [e1, e2, e3]
    obtain ⟨xs, ow, en⟩ := o.own.own
    rcases ow.is with ⟨h0, _⟩ | ⟨g, cur, rfl, hbg, hg, hcs, htk⟩
    · omega
    have hag : a.block ≠ g := fun e => by have := o.col _ rfl; rw [e] at ca; rw [ca] at this; cases this
    have hcz : cur.size = c * 3 := hcs
    have e4 : Int.toNat ((i + 1 : Nat) : Int) = i + 1 := rfl
    have e5 : Int.toNat (i : Int) = i := rfl
    have e6 : Int.toNat ((n + 1 : Nat) : Int) = n + 1 := rfl
    rw [e4, e5, e6, if_neg (by omega), if_neg (by omega)]
    refine ⟨rng64 (by omega) (by omega), ⟨by omega, by omega, by omega⟩, overlaps_k apdMark hg (by omega) va hag (vBool_mk (condF (condT ⟨rng64 (by omega) (by omega), ⟨by omega, by omega, by omega⟩, ⟨by omega, by omega, by omega⟩, ?_⟩)))⟩
    refine ins1_k apdMark en ow.len hg hcs htk hin hc fun h1 M => vIntMk ⟨⟨by omega, by omega, by omega⟩, ?_⟩
    refine ins2_k apdMark o.own en ow.len (fun k hk e => o.ne k hk _ rfl e) hbg hin hc M hR (fun j u hu => va.cell j hu) hag fun h2 o2 g2 s2 => vIntMk ?_
    exact hk _ c h2 col ⟨o2.keep (Keep.refl (fun _ => True) _) (fun _ _ _ => trivial) (fun k hk _ => ⟨hk.1, by rw [s2]; exact hk.2⟩) fun _ _ _ _ => trivial, o.col, fun q hq => by rw [s2]; exact o.hi q hq, fun e => by cases e⟩ g2 (fun _ _ => rfl) fun k hk => hf k (by rw [<- s2]; exact hk)
theorem insertO_calls {l : List OpenP} (o : OwnC elOpen h col v 60 b n c l) (hf : Fresh h col) (hi : i <= n) (hc : n + 1 <= c) {x : OpenP} (hR : elOpen.R (Free col h) h x cs) (va : Var h a tv cs) (ca : col a.block = none) (hn : n <= 1000000)
    (hk : ∀ b' c' h' col', OwnC elOpen h' col' v 60 b' (n + 1) c' (l.take i ++ x :: l.drop i) -> Grow h h' b -> (∀ k, k < h.size -> col' k = col k) -> Fresh h' col' -> K (.slice b' (n + 1) c') h') :
    HCalls Tryz.prog 118 ⟨[.slice b n c, .int .i64 (i : Int), .slice (some a) 1 1]⟩ h K := by
  have hlen := o.len
  have hmax := o.cap.2
  simp only [maxLen] at hmax
  refine Sx.slices_Insert_apiOpen.ok _ _ _ _ _ _ _ _ _ ⟨⟨by omega, by omega, by omega⟩, splF (by omega) (spl (fun e => ?_) fun e => ?_)⟩
  · have ei : i = n := by omega
    subst ei
    refine o.append apdOpen (va.row1 hR ⟨ca, va.lt⟩) (by simp only [maxLen]; omega) (by omega) hf fun b' c' h' o' g' nb f' => ?_
    refine hk b' c' h' _ ?_ g' (fun k hk => putB_old hk) f'
    rw [take_snoc l x hlen]; exact o'
  · have hin : i < n := by omega
    refine ⟨rng64 (by omega) (by omega), cap_k (e := 60) (by kernel_rfl) (vIntMk (splF (by omega) (condF ⟨rng64 (by omega) (by omega), ⟨by omega, by omega, by omega⟩, ?_⟩)))⟩
    dsimp only [sqF]
    rw [cut0]
    have e1 : Int.toNat ((n : Int) + ((1 : Nat) : Int)) - Int.toNat (0 : Int) = n + 1 := by show Int.toNat ((n + 1 : Nat) : Int) - 0 = _; rw [Int.toNat_natCast]; omega
    have e2 : c - Int.toNat (0 : Int) = c := rfl
    have e3 : ((i : Int) + ((1 : Nat) : Int)) = ((i + 1 : Nat) : Int) := rfl
    rw [e1, e2, e3]
    obtain ⟨xs, ow, en⟩ := o.own.own
    rcases ow.is with ⟨h0, _⟩ | ⟨g, cur, rfl, hbg, hg, hcs, htk⟩
    · omega
    have hag : a.block ≠ g := fun e => by have := o.col _ rfl; rw [e] at ca; rw [ca] at this; cases this
    have hcz : cur.size = c * 4 := hcs
    have e4 : Int.toNat ((i + 1 : Nat) : Int) = i + 1 := rfl
    have e5 : Int.toNat (i : Int) = i := rfl
    have e6 : Int.toNat ((n + 1 : Nat) : Int) = n + 1 := rfl
    rw [e4, e5, e6, if_neg (by omega), if_neg (by omega)]
    refine ⟨rng64 (by omega) (by omega), ⟨by omega, by omega, by omega⟩, overlaps_k apdOpen hg (by omega) va hag (vBool_mk (condF (condT ⟨rng64 (by omega) (by omega), ⟨by omega, by omega, by omega⟩, ⟨by omega, by omega, by omega⟩, ?_⟩)))⟩
    refine ins1_k apdOpen en ow.len hg hcs htk hin hc fun h1 M => vIntMk ⟨⟨by omega, by omega, by omega⟩, ?_⟩
    refine ins2_k apdOpen o.own en ow.len (fun k hk e => o.ne k hk _ rfl e) hbg hin hc M hR (fun j u hu => va.cell j hu) hag fun h2 o2 g2 s2 => vIntMk ?_
    exact hk _ c h2 col ⟨o2.keep (Keep.refl (fun _ => True) _) (fun _ _ _ => trivial) (fun k hk _ => ⟨hk.1, by rw [s2]; exact hk.2⟩) fun _ _ _ _ => trivial, o.col, fun q hq => by rw [s2]; exact o.hi q hq, fun e => by cases e⟩ g2 (fun _ _ => rfl) fun k hk => hf k (by rw [<- s2]; exact hk)
end
theorem deleteM_calls {A : Nat -> Prop} {h : H} {K : Value -> H -> Prop} {b : Option Addr} {n c base i : Nat} {l : List MarkP} (o : OwnA elMark A h base 36 b n c l) (hA : ∀ k, A k -> k < base) (hi : i < n) (hk : ∀ h', OwnA elMark A h' base 36 b (n - 1) c (l.eraseIdx i) -> Grow h h' b -> K (.slice b (n - 1) c) h') :
    HCalls Tryz.prog 112 ⟨[.slice b n c, .int .i64 (i : Int), .int .i64 ((i + 1 : Nat) : Int)]⟩ h K := by
  have hcap := o.own.cap
  refine Sx.slices_Delete_apiMark.ok _ _ _ _ _ _ _ ⟨⟨by omega, by omega, by omega, by omega⟩, splF (by omega) ⟨⟨by omega, by omega, by omega⟩, ⟨by omega, by omega, by omega⟩, ?_⟩⟩
  rw [cut0]
  exact delRow_k apdMark (by kernel_rfl) o hA hi (K := fun sb sn sc h => K (.slice sb sn sc) h) fun h' o' g' _ => hk h' o' g'
end Go.Proofs
namespace Go.Proofs
open Go Go.Sh
set_option linter.unusedVariables false
set_option maxRecDepth 100000
section
variable {h : H} {K : Value -> H -> Prop} {col : Col} {s i : Nat} {t a : Addr} {ads : List Addr} {ns : List NodeM} {x : NodeM}
theorem copy_calls (T : TreeP h col s t ads ns) {id : Int} (hfew : ns.length < 1000000) (hk : ∀ h' col' ads', TreeP h' col' s t ads' (copyM ns id).1 -> Ext s h col h' col' -> K (.int .i64 (copyM ns id).2) h') :
    HCalls Tryz.prog 115 ⟨[.pointer (some t), .int .i64 id]⟩ h K := by
  refine Sx.dom_Tree_Copy.ok _ _ _ _ (at_calls T (fun hn => vPtrMk (ptrEq_k (by kernel_rfl) (vBool_mk (condT ?_)))) fun i a x e hx ha => vPtrMk (ptrEq_k (by kernel_rfl) (vBool_mk (condF ?_))))
  · have : copyM ns id = (ns, -1) := by unfold copyM; rw [if_neg hn]
    rw [this] at hk
    exact hk h col ads T (Ext.refl _ _ _)
  · have N := T.nodes i x a hx ha
    obtain ⟨ab, an, ac, kb, kn, kc, v, ra, hz, _⟩ := N.ex
    have hlt := (List.getElem?_eq_some_iff.1 hx).1
    have : copyM ns id = addM ns (bareM x.kind x.space x.name x.attrs x.text) := by
      unfold copyM
      rw [if_pos (by omega), e, Int.toNat_natCast, hx]; rfl
    rw [this] at hk
    have hra := ra.len
    have hfa := N.fa
    exact vSomeMk ⟨_, v.cellZ 0 rfl, _, v.cellZ 1 rfl, _, v.cellZ 2 rfl, _, _, _, v.cellZ 3 rfl, _, v.cellZ 4 rfl, _, _, _, v.cellZ 5 rfl, make_calls T ra hz (by omega) N.rk N.rs N.fn N.ft hfew fun h' col' ads' T' e' => vIntMk (hk h' col' ads' T' e')⟩
end
section
variable {h : H} {K : Value -> H -> Prop} {col : Col} {s i p : Nat} {t a : Addr} {ads : List Addr} {ns : List NodeM} {x y : NodeM}
theorem appI_k {b b2 : Option Addr} {n c n2 c2 : Nat} {l l2 : List Int} (o : OwnI h b n c l) (o2 : OwnI h b2 n2 c2 l2) (hn : n + n2 <= 1000000)
    (hk : ∀ b' c' h', OwnI h' b' (n + n2) c' (l ++ l2) -> Grow h h' b -> NewB h b b' -> K (.slice b' (n + n2) c') h') :
    SemH Tryz.prog (Builtin.append_ #[97, 97] 97 ⟨[.slice b n c, .slice b2 n2 c2]⟩) h K := by
  obtain ⟨i, z, ht, hi, hz, hzs, hsz, hby⟩ := apdInt.is
  have hsz : i.size = 1 := hsz
  refine append_own (base := 0) ht hi hz hzs (by rw [hsz]; exact o.own) (by rw [hsz]; simpa using o2.len) o2.own.cells (oneI l2) (by rw [hsz]; decide) (by simp only [maxLen]; omega) (by rw [hby]; omega) (Nat.zero_le _) fun b' c' h' o' g' hb h0 => hk b' c' h' ⟨by rw [hsz] at o'; rw [List.map_append]; exact o', fun x hx => ?_, fun e => ?_, fun q e => ?_⟩ g' fun q e => ?_
  · rcases List.mem_append.1 hx with hx | hx
    · exact o.rng x hx
    · exact o2.rng x hx
  · rcases o'.is with h1 | ⟨g, cur, e1, _⟩
    · exact h1.2
    · rw [e] at e1; cases e1
  · rcases o'.is with h1 | ⟨g, cur, e1, _, hg, _⟩
    · have := h0 h1.1
      exact Nat.lt_of_lt_of_le (o.hi q (this.1 ▸ e)) g'.size
    · rw [e] at e1; cases e1; exact (Array.getElem?_eq_some_iff.1 hg).1
  · rcases hb with rfl | rfl
    · exact .inl e
    · cases e; exact .inr (Nat.le_refl _)
theorem move_calls (T : TreeP h col s t ads ns) (G : GoodT ns) {f dst : Int} (hk : ∀ h' col', TreeP h' col' s t ads (moveM ns f dst).1 -> Ext s h col h' col' -> K (.bool (moveM ns f dst).2) h') :
    HCalls Tryz.prog 116 ⟨[.pointer (some t), .int .i64 f, .int .i64 dst]⟩ h K := by
  have hlen := T.len
  have no : ¬ ((0 <= f /\ f < ns.length) /\ holdB ns dst = true /\ (((ns[f.toNat]?).map (·.kids)).getD []) ≠ [] /\ withinP ns dst f = false) -> ∀ h', KB h h' -> K (.bool false) h' := fun hn h' k => by
    have : moveM ns f dst = (ns, false) := by unfold moveM; rw [if_neg hn]
    rw [this] at hk
    exact hk h' col (T.kb k) (Ext.kb k)
  refine Sx.dom_Tree_Move.ok _ _ _ _ _ (at_calls T (fun hn => vPtrMk (holder_calls T (fun hn2 => vPtrMk (ptrEq_k (by kernel_rfl) (vBool_mk (condT (no (fun hh => hn hh.1) h (KB.refl h)))))) fun p ap y ep hy hap hor => vPtrMk (ptrEq_k (by kernel_rfl) (vBool_mk (condT (no (fun hh => hn hh.1) h (KB.refl h))))))) fun i ai x ei hx hai => vPtrMk (holder_calls T (fun hn2 => vPtrMk (ptrEq_k (by kernel_rfl) (vBool_mk (condF (ptrEq_k (by kernel_rfl) (vBool_mk (condT (no (fun hh => hn2 (holdB_nat hh.2.1)) h (KB.refl h))))))))) fun p ap y ep hy hap hor => vPtrMk (ptrEq_k (by kernel_rfl) (vBool_mk (condF (ptrEq_k (by kernel_rfl) (vBool_mk (condF ?_))))))))
  have hil := getI hx
  have hpl := getI hy
  have Ni := T.nodes i x ai hx hai
  obtain ⟨ab, an, ac, kb, kn, kc, v, ra, hz, ok, hkc⟩ := Ni.ex
  have e1 : f.toNat = i := by rw [ei]; exact Int.toNat_natCast i
  have e2 : dst.toNat = p := by rw [ep]; exact Int.toNat_natCast p
  rw [e1, hx] at no
  have hkl := ok.len
  refine vSomeMk ⟨_, _, _, v.cell 7 rfl, spl (fun e => no (fun hh => hh.2.2.1 (List.eq_nil_of_length_eq_zero (by show x.kids.length = 0; omega))) h (KB.refl h)) fun e => within_calls T G (by omega) fun h1 k1 => vBool_mk (condB (fun e => no (fun hh => by rw [e] at hh; cases hh.2.2.2) h1 k1) fun hw => ?_)⟩
  have hhb : holdB ns dst = true := by
    unfold holdB
    rw [ep, Int.toNat_natCast, hy, decide_eq_true (show 0 <= (p : Int) /\ (p : Int) < ns.length by omega)]
    exact decide_eq_true (hor.imp (fun h => by omega) (fun h => h))
  have hm : moveM ns f dst = (moveAt ns i p x.kids y.kids, true) := by
    unfold moveM
    rw [e1, e2, hx, hy]
    rw [if_pos ⟨by omega, hhb, fun h0 => by have h0 : x.kids = [] := h0; rw [h0] at hkl; simp at hkl; omega, hw⟩]
    rfl
  rw [hm] at hk
  have hnw : ¬ InC ns dst f := fun hh => by
    unfold withinP at hw
    rw [@decide_eq_true (InC ns dst f) (Classical.propDecidable _) hh] at hw; cases hw
  have hne : i ≠ p := fun e => hnw (by rw [ep, ei, <- e]; exact inC_step.2 (.inl rfl))
  have T1 := T.kb k1
  have v1 := v.kb k1
  have ok1 : OwnI h1 kb kn kc x.kids := ok.keep (KB.w k1) fun q e => ok.hi q e
  have hfew := G.few hx
  have hfy := G.few hy
  have hft := T.few
  have hnd := G.nodup i x hx
  refine vSomeMk ⟨_, _, _, v1.cell 7 rfl, kn + 1, ?_⟩
  have key : ∀ N m h2, m + N = kn -> TreeP h2 col s t ads (parsTo ns (x.kids.take m) p) -> OwnI h2 kb kn kc x.kids -> Ext s h col h2 col ->
      Sx.dom_Tree_Move.n8_L (fun z7 z8 h => Sx.dom_Tree_Move.n5 z7 z8 (fun y6 h => K (.bool y6) h) (fun y6 h => K (.bool y6) h) h) (fun z7 z8 h => Sx.dom_Tree_Move.n5 z7 z8 (fun y6 h => K (.bool y6) h) (fun y6 h => K (.bool y6) h) h) (fun y6 h => K (.bool y6) h) (N + 1) (some t) dst (some ai) (some ap) kb kn kc (kn : Int) (m : Int) h2 := by
    intro N
    induction N with
    | zero =>
      intro m h2 hmN T2 o2 E2
      unfold Sx.dom_Tree_Move.n8_L
      refine splF (by omega) ?_
      rw [List.take_of_length_le (by omega)] at T2
      have hip : (i : Int) ∉ x.kids := fun h => by
        obtain ⟨q, w, e, hw2, hq⟩ := (G.kid i x _ hx).1 h
        have : q = i := by omega
        subst this
        rw [hx] at hw2; cases hw2
        exact G.ne_par hx hq rfl
      have hpp : (p : Int) ∉ x.kids := fun h => by
        obtain ⟨q, w, e, hw2, hq⟩ := (G.kid i x _ hx).1 h
        have : q = p := by omega
        subst this
        exact hnw (by rw [ep, ei]; exact inC_step.2 (.inr (by rw [parI_some hw2, hq]; exact inC_step.2 (.inl rfl))))
      have hx2 : (parsTo ns x.kids p)[i]? = some x := by rw [parsTo_get hx, if_neg hip]
      have hy2 : (parsTo ns x.kids p)[p]? = some y := by rw [parsTo_get hy, if_neg hpp]
      obtain ⟨ab2, an2, ac2, kb2, kn2, kc2, v2, ra2, hz2, ok2, hkc2⟩ := (T2.nodes p y ap hy2 hap).ex
      obtain ⟨ab3, an3, ac3, kb3, kn3, kc3, v3, ra3, hz3, ok3, hkc3⟩ := (T2.nodes i x ai hx2 hai).ex
      have hl2 := ok2.len
      have hl3 := ok3.len
      have hsum : kn2 + kn3 <= 1000000 := by
        have Gm := G.move hx hy (by rw [<- ei, <- ep]; exact hnw)
        have h1 := Gm.few (moveAt_get hy)
        have h1 : (if p = i then [] else if p = p then y.kids ++ x.kids else y.kids).length <= _ := h1
        rw [if_neg (Ne.symm hne), if_pos rfl, List.length_append, moveAt_len] at h1
        omega
      refine vSomeMk ⟨_, _, _, v2.cell 7 rfl, vSomeMk ⟨_, _, _, v3.cell 7 rfl, appI_k ok2 ok3 hsum fun b' c' h3 o3 g3 nb => vSliceMk (vSomeMk (stKidsG T2 hap hy2 v2 ra2 hz2 hkc2 g3 o3 nb fun h4 col4 T4 E4 => vSomeMk ?_))⟩⟩
      have hx4 : ((parsTo ns x.kids p).set p { y with kids := y.kids ++ x.kids })[i]? = some x := by rw [List.getElem?_set_ne (Ne.symm hne)]; exact hx2
      obtain ⟨ab5, an5, ac5, kb5, kn5, kc5, v5, ra5, hz5, ok5, hkc5⟩ := (T4.nodes i x ai hx4 hai).ex
      refine stKidsG T4 hai hx4 v5 ra5 hz5 hkc5 (Grow.refl h4 kb5) (OwnI.none h4) (fun q e => by cases e) fun h5 col5 T5 E5 => ?_
      have efin : ((parsTo ns x.kids p).set p { y with kids := y.kids ++ x.kids }).set i { x with kids := [] } = moveAt ns i p x.kids y.kids := by
        refine List.ext_getElem? fun j => ?_
        rw [get_set2 (by rw [parsTo_len]; exact hil) (by rw [parsTo_len]; exact hpl)]
        by_cases e : j = i
        · rw [if_pos e, e, moveAt_get hx, if_neg hip, if_pos rfl]
        · rw [if_neg e]
          by_cases e2 : j = p
          · rw [if_pos e2, e2, moveAt_get hy, if_neg hpp, if_neg (Ne.symm hne), if_pos rfl]
          · rw [if_neg e2]
            cases hj : ns[j]? with
            | none =>
              rw [List.getElem?_eq_none (by rw [parsTo_len]; exact List.getElem?_eq_none_iff.1 hj), List.getElem?_eq_none (by rw [moveAt_len]; exact List.getElem?_eq_none_iff.1 hj)]
            | some z =>
              rw [parsTo_get hj, moveAt_get hj, if_neg e, if_neg e2]
              by_cases hm2 : (j : Int) ∈ x.kids
              · rw [if_pos hm2, if_pos hm2]
              · rw [if_neg hm2, if_neg hm2]
      rw [efin] at T5
      exact hk h5 col5 T5 ((E2.trans E4).trans E5)
    | succ N ih =>
      intro m h2 hmN T2 o2 E2
      unfold Sx.dom_Tree_Move.n8_L
      have hml : m < x.kids.length := by omega
      refine splT (by omega) ((o2.row (A := fun _ => True) fun _ _ => trivial).idxN hml rfl fun q hA => ldI hA fun _ => ?_)
      obtain ⟨j, z, ej, hz', hpz⟩ := (G.kid i x _ hx).1 (List.getElem_mem hml)
      have hjl := getI hz'
      obtain ⟨lb, lc, vt, o, hl2⟩ := T2.ex
      have hll : (parsTo ns (x.kids.take m) p).length = ns.length := parsTo_len
      have hno : (j : Int) ∉ x.kids.take m := fun hm2 => by
        rw [<- ej] at hm2
        obtain ⟨q, hq, e⟩ := List.getElem_of_mem hm2
        rw [List.length_take] at hq
        rw [List.getElem_take] at e
        have := (List.getElem_inj hnd).1 e
        omega
      rw [ej]
      refine vSomeMk ⟨_, _, _, vt.cell 0 rfl, ?_⟩
      rw [hll]
      have o' := o
      rw [hll] at o'
      refine o'.row.idxN (i := j) (by omega) rfl fun q2 hA2 => ldPtr hA2 (vSomeMk ?_)
      have haj : ads[j]? = some (ads[j]'(by omega)) := List.getElem?_eq_getElem (by omega)
      have hzj : (parsTo ns (x.kids.take m) p)[j]? = some z := by rw [parsTo_get hz', if_neg hno]
      have Nj := T2.nodes j z _ hzj haj
      rw [ep]
      refine stPar T2 haj hzj (rngI (by omega) (by omega)) fun h3 T3 E3 k3 => ⟨rngI (by omega) (by omega), ?_⟩
      rw [parsTo_step hz' hno, <- ej, show x.kids.take m ++ [x.kids[m]] = x.kids.take (m + 1) by rw [List.take_add_one, List.getElem?_eq_getElem hml]; rfl] at T3
      have := ih (m + 1) h3 (by omega) T3 (o2.keep k3.w fun q e e3 => by
        have h1 := hkc q e
        have h2 := Nj.col
        rw [<- e3, h1] at h2
        have := (Prod.mk.inj (Option.some.inj h2)).2; omega) (E2.trans E3)
      rw [ep] at this
      exact this
  exact key kn 0 h1 (by omega) (by rw [List.take_zero, parsTo_nil]; exact T1) ok1 (Ext.kb k1)
end
end Go.Proofs
namespace Go.Proofs
open Go Go.Sh
set_option linter.unusedVariables false
set_option maxRecDepth 100000
abbrev agCells (w : Addr) (nm : Bs) (f : Int) (bl : OpenP) (bk : Int) : List Value := [.pointer (some w), S nm, .int .i64 f, .int .i64 bl.1, .int .u8 bl.2.1, S bl.2.2.1, .int .u8 bl.2.2.2, .int .i64 bk]
structure AgW (h : H) (col : Col) (a w : Addr) (nm : Bs) (f : Int) (bl : OpenP) (bk : Int) : Prop where
  v : Var h a 78 (agCells w nm f bl bk)
  c : col a.block = some (4, 0)
def PA (s : Nat) : Prop := PS s ∨ s = 4
section
variable {Z : Nat -> Prop} {h h' : H} {K : Value -> H -> Prop} {col col' : Col} {a w : Addr} {m : WM} {nm : Bs} {f bk : Int} {bl : OpenP}
theorem AgW.ext (g : AgW h col a w nm f bl bk) (e : ExtP Z h col h' col') (hz : ¬ Z 4) : AgW h' col' a w nm f bl bk :=
  ⟨g.v.keep e.sk.w ⟨g.v.lt, fun s p hs e2 => by rw [g.c] at e2; cases e2; exact hz hs⟩, by rw [e.cl _ g.v.lt]; exact g.c⟩
theorem AgW.kb (g : AgW h col a w nm f bl bk) (k : KB h h') : AgW h' col a w nm f bl bk := g.ext (Z := fun _ => False) (.kb k) id
theorem AgW.ps (g : AgW h col a w nm f bl bk) (e : ExtP PS h col h' col') : AgW h' col' a w nm f bl bk := g.ext e (by unfold PS; omega)
theorem ExtP.pa (e : ExtP PS h col h' col') : ExtP PA h col h' col' := e.mono fun s hs => .inl hs
theorem agSt (g : AgW h col a w nm f bl bk) (p : PW h col w m) {i : Nat} {l : List Value} (hi : i + l.length <= 8) {Q : H -> Prop}
    (hk : ∀ h', Var h' a 78 (setAll (agCells w nm f bl bk) i l) -> col a.block = some (4, 0) -> PW h' col w m -> ExtP PA h col h' col -> KX a.block h h' -> Q h') : stL (a.add i) l 0 h Q := by
  refine stL_var (m := i) (i := 0) g.v (by show i + 0 + l.length <= 8; omega) fun h3 v3 k3 s3 => ?_
  have E : ExtP (fun s => s = 4) h col h3 col := ExtP.kx k3 g.c rfl
  exact hk h3 v3 g.c (p.ext E (by decide) (by decide) fun k hk => p.fresh k (by omega)) (E.mono fun s hs => .inr hs) k3
theorem agAt_calls (g : AgW h col a w nm f bl bk) (p : PW h col w m) {id : Int} (hk : ∀ h', KB h h' -> K (.int .i64 (atO m.op id)) h') :
    HCalls Tryz.prog 85 ⟨[.pointer (some a), .int .i64 id]⟩ h K := by
  obtain ⟨t, ads, T, W⟩ := p.ex
  obtain ⟨ob, oc, mb, mn, mc, v, o, om⟩ := W.ex
  refine Sx.adopt_agency_at.ok _ _ _ _ (newx_var fun a1 h1 v1 k1 e1 s1 => vSomeMk ⟨_, (g.v.kb k1).cell 0 rfl, vSomeMk ⟨_, _, _, (v.kb k1).cell 1 rfl, ?_⟩⟩)
  refine indexFuncOpen_calls (p := fun x => decide (x.1 = id)) (o.kb k1).row (fun x h2 next hx k2 hR hn => ?_) fun h2 k2 => vIntMk (hk h2 (k1.trans k2))
  have e : CallV Tryz.prog 4 (.func (.func 111) ⟨[]⟩ ⟨[.pointer (some a1)]⟩) ⟨[.agg ⟨[.int .i64 x.1, .int .u8 x.2.1, S x.2.2.1, .int .u8 x.2.2.2]⟩]⟩ h2 next =
      HCalls Tryz.prog 111 ⟨[.agg ⟨[.int .i64 x.1, .int .u8 x.2.1, S x.2.2.1, .int .u8 x.2.2.2]⟩, .pointer (some a1)]⟩ h2 fun v h' => vBool v fun b => cond b (next (.bool true) h') (next (.bool false) h') := by kernel_rfl
  rw [e]
  refine Sx.adopt_agency_at_1.ok _ _ _ _ _ _ _ (newx_var fun a8 h8 v8 k8 e8 _ => ⟨_, v8.cell 0 rfl, _, ((v1.kb k2).kb k8).cell0 rfl, ?_⟩)
  have := hn h8 k8
  refine spl (fun e => ?_) fun e => ?_
  · rw [decide_eq_true e] at this; exact this
  · rw [decide_eq_false e] at this; exact this
theorem book_eq {k bk : Nat} : ((unbook bk k : Nat) : Int) = if (k : Int) < (bk : Int) then (bk : Int) - 1 else (bk : Int) := by
  unfold unbook
  split
  · rw [if_pos (by omega)]; omega
  · rw [if_neg (by omega)]
theorem unmark_calls (g : AgW h col a w nm f bl bk) (p : PW h col w m) {k b : Nat} (hb : bk = (b : Int)) (hb2 : b <= 1000000) (hkl : k < m.mks.length) (hml : m.mks.length <= 1000000)
    (hk : ∀ h' col', PW h' col' w (unmark m k) -> AgW h' col' a w nm f bl (unbook b k : Nat) -> ExtP PA h col h' col' -> (∃ b c, cell h' (w.add 2) = some (.slice b (m.mks.length - 1) c) /\ m.mks.length <= c) -> K (.tuple ⟨[]⟩) h') :
    HCalls Tryz.prog 86 ⟨[.pointer (some a), .int .i64 (k : Int)]⟩ h K := by
  subst hb
  obtain ⟨t, ads, T, W⟩ := p.ex
  obtain ⟨ob, oc, mb, mn, mc, v, o, om⟩ := W.ex
  have hlen := om.len
  have hcap := om.cap
  obtain ⟨xs, he, hc, _⟩ := om.parts
  have e1 : ((k : Int) + (1 : Int)) = ((k + 1 : Nat) : Int) := rfl
  have fin : ∀ h1 b' c', KB h h1 -> OwnA elMark (Free col h) h1 h.size 36 b' (mn - 1) c' (m.mks.eraseIdx k) -> mn <= c' -> stL (w.add 2) [.slice b' (mn - 1) c'] 0 h1 fun h14 => vSome (some a) fun a15 => ∃ i16, cell h14 (a15.add 7) = some (.int .i64 i16) /\ (Spl ((k : Int) < i16) (vSome (some a) fun a17 => ∃ i18, cell h14 (a17.add 7) = some (.int .i64 i18) /\ (Rng .i64 (i18 - (1 : Int)) /\ (vSome (some a) fun a19 => stL (a19.add 7) [(.int .i64 (i18 - (1 : Int)))] 0 h14 fun h20 => K (.tuple ⟨[]⟩) h20))) (K (.tuple ⟨[]⟩) h14)) := fun h1 b' c' k1 o1 hc1 => by
    refine setMarks_k W p.fresh k1 o1 fun h2 W2 E2 f2 c2 => vSomeMk ?_
    have E2s : ExtP PS h col h2 (putB col h b' (2, 2)) := E2.mono fun s hs => .inr hs
    have p2 : PW h2 (putB col h b' (2, 2)) w (unmark m k) := ⟨t, ads, T.otherP (S := fun k => k = 2) (by decide) E2 f2, W2⟩
    have g2 := g.ps E2s
    refine ⟨_, g2.v.cell 7 rfl, spl (fun hlt => vSomeMk ⟨_, g2.v.cell 7 rfl, rng64 (by omega) (by omega), vSomeMk ?_⟩) fun hnl => ?_⟩
    · have hne : a.block ≠ w.block := fun e => by have := g2.c; rw [e, W2.col] at this; cases this
      refine agSt g2 p2 (i := 7) (by show 7 + 1 <= 8; omega) fun h3 v3 c3 p3 E3 k3 => hk h3 _ p3 ⟨?_, c3⟩ (E2s.pa.trans E3) ⟨b', c', ?_, by omega⟩
      · have hbk := book_eq (k := k) (bk := b)
        rw [if_pos hlt] at hbk
        rw [hbk]; exact v3
      · rw [hlen]
        exact k3.w.cell (by rw [add_block]; exact fun e => hne e.symm) c2
    · have hbk := book_eq (k := k) (bk := b)
      rw [if_neg hnl] at hbk
      refine hk h2 _ p2 ?_ E2s.pa ⟨b', c', by rw [hlen]; exact c2, by omega⟩
      rw [hbk]; exact g2
  have g7 : ∀ {h7 h10 : H} {b' : Option Addr}, KB h h7 -> Grow h7 h10 b' -> (∀ q, b' = some q -> h.size <= q.block) -> KB h h10 := fun k g lo => g.kb0 k lo
  refine Sx.adopt_agency_unmark.ok _ _ _ _ ⟨?_, ?_⟩
  · refine vSomeMk (vSomeMk ⟨_, g.v.cell 0 rfl, vSomeMk ⟨_, _, _, v.cell 2 rfl, rng64 (by omega) (by omega), ?_⟩⟩)
    refine cloneM_calls (A := Free col h) (fun k hk => hk.2) he hc hlen hcap.1 om.nil (by omega) fun b' c' h7 o7 k7 => vSliceMk ⟨k7.ext, ?_⟩
    rw [e1]
    refine deleteM_calls o7 (fun k hk => hk.2) (by omega) fun h10 o10 g10 => vSliceMk ?_
    have k10 := g7 k7 g10 o7.lo
    exact ⟨_, (g.kb k10).v.cell 0 rfl, vSomeMk (fin h10 b' c' k10 o10 o7.own.cap.1)⟩
  · refine vSomeMk ⟨_, g.v.cell 0 rfl, vSomeMk ⟨_, g.v.cell 0 rfl, vSomeMk ⟨_, _, _, v.cell 2 rfl, rng64 (by omega) (by omega), ?_⟩⟩⟩
    refine cloneM_calls (A := Free col h) (fun k hk => hk.2) he hc hlen hcap.1 om.nil (by omega) fun b' c' h7 o7 k7 => vSliceMk ⟨k7.ext, ?_⟩
    rw [e1]
    refine deleteM_calls o7 (fun k hk => hk.2) (by omega) fun h10 o10 g10 => vSliceMk ?_
    exact vSomeMk (fin h10 b' c' (g7 k7 g10 o7.lo) o10 o7.own.cap.1)
theorem scoped_calls (L : Lib0 h col) (g : AgW h col a w nm f bl bk) (p : PW h col w m) (hop : m.op.length <= 1000000) (hnm : ∀ x ∈ m.op, x.2.2.1.length <= 1000000000) {i : Nat} (hi : i < m.op.length) (hk : ∀ h', KB h h' -> K (.bool (scopedP (m.op.drop (i + 1)))) h') :
    HCalls Tryz.prog 87 ⟨[.pointer (some a), .int .i64 (i : Int)]⟩ h K := by
  obtain ⟨t, ads, T, W⟩ := p.ex
  obtain ⟨ob, oc, mb, mn, mc, v, o, om⟩ := W.ex
  have hcap := o.cap
  have hmax := hcap.2
  simp only [maxLen] at hmax
  have e1 : ((i : Int) + (1 : Int)) = ((i + 1 : Nat) : Int) := rfl
  refine Sx.adopt_agency_scoped.ok _ _ _ _ (vSomeMk ⟨_, g.v.cell 0 rfl, vSomeMk ⟨_, _, _, v.cell 1 rfl, rng64 (by omega) (by omega), ⟨by omega, by omega, by omega⟩, ?_⟩⟩)
  rw [e1]
  have r0 : Row elOpen (Bel h.size) h (if oc = i + 1 then ob else Option.map (fun q => q.add ((i + 1) * 4)) ob) (m.op.length - (i + 1)) (oc - (i + 1)) ((m.op.take m.op.length).drop (i + 1)) := o.row.sub (lo := i + 1) (hi := m.op.length) (by omega) (Nat.le_refl _) rfl
  rw [List.take_length] at r0
  have e2 : Int.toNat (m.op.length : Int) - Int.toNat ((i + 1 : Nat) : Int) = m.op.length - (i + 1) := rfl
  have e3 : oc - Int.toNat ((i + 1 : Nat) : Int) = oc - (i + 1) := rfl
  have e4 : Int.toNat ((i + 1 : Nat) : Int) = i + 1 := rfl
  rw [e2, e3, e4]
  have hn2 := r0.len
  refine ⟨m.op.length - (i + 1) + 1, ?_⟩
  have key : ∀ N j h2, j + N = m.op.length - (i + 1) -> KB h h2 -> ((m.op.drop (i + 1)).take j).all freeO = true ->
      Sx.adopt_agency_scoped.n6_L (fun h => K (.bool true) h) (fun h => K (.bool true) h) (fun y4 h => K (.bool y4) h) (N + 1) (if oc = i + 1 then ob else Option.map (fun q => q.add ((i + 1) * 4)) ob) (m.op.length - (i + 1)) (oc - (i + 1)) ((m.op.length - (i + 1) : Nat) : Int) (j : Int) h2 := by
    intro N
    induction N with
    | zero =>
      intro j h2 hj k2 hall
      refine splF (by omega) ?_
      have := hk h2 k2
      rw [List.take_of_length_le (by omega)] at hall
      unfold scopedP at this
      rwa [hall] at this
    | succ N ih =>
      intro j h2 hj k2 hall
      have hjl : j < (m.op.drop (i + 1)).length := by omega
      refine splT (by omega) ((r0.kb k2).idxN (i := j) hjl rfl fun q hA => ldOpen hA fun ow => newx_var fun a6 h7 v6 k6 e6 s6 => stL_var0 v6 (by show 4 <= 4; omega) fun h8 v8 k8 s8 => ldVar (m := (m.op.drop (i + 1))[j]) v8 ?_)
      have k28 : KB h2 h8 := KB.step k6 k8 (by omega)
      refine newx_var fun a13 h14 v13 k13 e13 s13 => newx_var (cs := wStar.map S) fun a15 h16 v15 k15 e15 s15 => ?_
      have hx : (m.op.drop (i + 1))[j] ∈ m.op := List.mem_of_mem_drop (List.getElem_mem hjl)
      have ow0 : OpenW (0, 0, [42], 0) := ⟨⟨by decide, by decide⟩, ⟨by decide, by decide⟩, by decide, ⟨by decide, by decide⟩⟩
      have r2 : Row elOpen (Bel h16.size) h16 (some a13) 2 2 [(0, 0, [42], 0), (m.op.drop (i + 1))[j]] :=
        Row.of (xs := cellsO (0, 0, [42], 0) ++ cellsO (m.op.drop (i + 1))[j]) ⟨cellsO (0, 0, [42], 0), _, rfl, ow0.r, cellsO (m.op.drop (i + 1))[j], [], by simp, ow.r, rfl⟩ (fun jj x hx => ⟨a13, rfl, (v13.kb k15).cell jj hx⟩) rfl (Nat.le_refl _) (by decide) fun x e => by cases e; exact (v13.kb k15).lt
      have k216 := (k28.trans k13).trans k15
      refine openIn_calls (sc := 0) (L.ml.kb (k2.trans k216)) (fun k hk => hk) r2 (fun x hx2 => ?_) (rowLit (ws := wStar) v15 (by decide) (by decide)) fun h18 k18 => vBool_mk (condB (fun hb => ⟨rng64 (by omega) (by omega), ih (j + 1) h18 (by omega) ((k2.trans k216).trans k18) ?_⟩) fun hb => ?_)
      · rcases List.mem_cons.1 hx2 with e | e
        · rw [e]; decide
        · rw [List.mem_singleton.1 e]; have := hnm _ hx; omega
      · rw [List.take_add_one, List.getElem?_eq_getElem hjl, List.all_append, hall]
        show (true && [_].all freeO) = true
        rw [List.all_cons, List.all_nil, Bool.and_true]
        exact hb
      · have := hk h18 ((k2.trans k216).trans k18)
        have hno : scopedP (m.op.drop (i + 1)) = false := by
          unfold scopedP
          rw [Bool.eq_false_iff]
          intro hh
          have h2 := List.all_eq_true.1 hh _ (List.getElem_mem hjl)
          have hb : freeO (m.op.drop (i + 1))[j] = false := hb
          rw [hb] at h2; cases h2
        rwa [hno] at this
  exact key (m.op.length - (i + 1)) 0 h (by omega) (KB.refl h) rfl
end
end Go.Proofs
namespace Go.Proofs
open Go Go.Sh
set_option linter.unusedVariables false
set_option maxRecDepth 100000
section
variable {h h' : H} {K : Value -> H -> Prop} {col col' : Col} {s ty : Nat} {a w t : Addr} {op : List OpenP} {mk : List MarkP} {fo : Bool} {hi : Int} {m : WM} {nm : Bs} {ns : List NodeM} {ads : List Addr}
theorem setOpenId_k (W : WorldW h col s ty w t op mk fo hi) (f : Fresh h col) {a : Addr} {n c : Nat} (hc : cell h (w.add 1) = some (.slice (some a) n c)) {i : Nat} (hi1 : i < op.length) {id : Int} (hid : Rng .i64 id) {Q : H -> Prop}
    (hk : ∀ h', WorldW h' col s ty w t (op.set i (id, op[i].2)) mk fo hi -> ExtP (fun k => k = s) h col h' col -> Fresh h' col -> (∀ k, col k ≠ some (s, 1) -> h'[k]? = h[k]?) -> Q h') : stL ((a.add (i * 4)).add 0) [.int .i64 id] 0 h Q := by
  obtain ⟨ob, oc, mb, mn, mc, v, o, om⟩ := W.ex
  have e1 : some (Value.slice (some a) n c) = some (.slice ob op.length oc) := hc.symm.trans (v.cell 1 rfl)
  cases e1
  obtain ⟨xs, ow, en⟩ := o.own.own
  rcases ow.is with ⟨h0, _⟩ | ⟨g, cur, ea, hbg, hg, hcs, htk⟩
  · omega
  cases ea
  have hgl : g < h.size := (Array.getElem?_eq_some_iff.1 hg).1
  have hxl : xs.length = op.length * 4 := ow.len
  have hcs : cur.size = c * 4 := hcs
  have htk : cur.toList.take (op.length * 4) = xs := htk
  have hcap := ow.cap
  have ha : ((((⟨g, 0, none⟩ : Addr).add (i * 4)).add 0).add 0) = ⟨g, i * 4, none⟩ := by rw [add_zero', add_zero', addG]
  have hin2 : i * 4 < cur.size := by omega
  unfold stL
  rw [ha]
  refine ⟨⟨cur[i * 4], by unfold cell; simp only [hg]; simp [hin2]⟩, by unfold iced; simp only [hg]; simp, ?_⟩
  show Q (setc h ⟨g, i * 4, none⟩ (.int .i64 id))
  have hst : setc h ⟨g, i * 4, none⟩ (.int .i64 id) = h.setIfInBounds g (.cells (cur.setIfInBounds (i * 4) (.int .i64 id)) 60 (0, 0)) := by
    unfold setc
    apply Array.ext_getElem?
    intro k
    rw [Array.getElem?_modify, Array.getElem?_setIfInBounds]
    by_cases hk : g = k
    · subst hk
      rw [if_pos rfl, if_pos rfl, if_pos hgl, hg]; rfl
    · rw [if_neg hk, if_neg hk]
  have hcg := o.col _ rfl
  have hcg : col g = some (s, 1) := hcg
  have hold : ∀ k, k ≠ g -> (setc h ⟨g, i * 4, none⟩ (.int .i64 id))[k]? = h[k]? := fun k hk => by rw [hst, Array.getElem?_setIfInBounds, if_neg (fun e => hk e.symm)]
  have kx : KX g h (setc h ⟨g, i * 4, none⟩ (.int .i64 id)) := ⟨by rw [hst]; simp, hold⟩
  have hs : (setc h ⟨g, i * 4, none⟩ (.int .i64 id)).size = h.size := by rw [hst]; simp
  have hwg : w.block ≠ g := fun e => by have := W.col; rw [e, hcg] at this; cases this
  have v' : Var (setc h ⟨g, i * 4, none⟩ (.int .i64 id)) w ty [.pointer (some t), .slice (some ⟨g, 0, none⟩) op.length c, .slice mb mn mc, .bool fo, .int .i64 hi] := v.keep kx.w hwg
  have om' := om.keep (h' := setc h ⟨g, i * 4, none⟩ (.int .i64 id)) (col' := col) kx.w (fun _ _ => rfl) fun k hk h2 e => by
    subst e
    rcases h2 with h2 | h2
    · rw [hcg] at h2; cases h2
    · rw [hcg] at h2; cases h2
  have hx : op[i]? = some op[i] := List.getElem?_eq_getElem hi1
  have en2 : Enc elOpen (Free col h) h (op.set i (id, op[i].2)) (xs.set (i * 4 + 0) (.int .i64 id)) := Enc.set en hx (by decide) fun cs hR => by
    obtain ⟨c1, c2, e, h1, h2⟩ := hR
    rw [h1.1] at e
    subst e
    exact ⟨[.int .i64 id], c2, rfl, ⟨rfl, hid⟩, h2⟩
  have hl : (op.set i (id, op[i].2)).length = op.length := List.length_set ..
  refine hk _ ⟨⟨some ⟨g, 0, none⟩, c, mb, mn, mc, by rw [hl]; exact v', ⟨⟨by rw [hl], xs.set (i * 4 + 0) (.int .i64 id), ⟨by rw [List.length_set, hl]; exact ow.len, by rw [hl]; exact ow.cap, ow.max, .inr ⟨g, cur.setIfInBounds (i * 4) (.int .i64 id), rfl, hbg, ?_, ?_, ?_⟩⟩, Enc.flat flatOpen en2⟩, o.col, fun q e => by rw [hs]; exact o.hi q e, o.nil⟩, om'⟩, W.col, W.rh⟩
    (ExtP.kx kx hcg rfl) (fun k hk => f k (by rw [<- hs]; exact hk)) fun k hk => hold k fun e => hk (by rw [e]; exact hcg)
  · rw [hst, Array.getElem?_setIfInBounds, if_pos rfl, if_pos hgl]
  · rw [Array.size_setIfInBounds]; exact hcs
  · show (cur.setIfInBounds (i * 4) (.int .i64 id)).toList.take ((op.set i (id, op[i].2)).length * 4) = _
    rw [hl, Array.toList_setIfInBounds, set_take, htk]; rfl
theorem WorldW.kw (W : WorldW h col s ty w t op mk fo hi) (k : KW h h') : WorldW h' col s ty w t op mk fo hi := by
  obtain ⟨ob, oc, mb, mn, mc, v, o, om⟩ := W.ex
  exact ⟨⟨ob, oc, mb, mn, mc, v.kw k, o.keep k (fun _ _ => rfl) fun k hk _ => hk, om.keep k (fun _ _ => rfl) fun k hk _ => hk⟩, W.col, W.rh⟩
theorem PW.kw (p : PW h col w m) (k : KW h h') (f : Fresh h' col) : PW h' col w m := by
  obtain ⟨t, ads, T, W⟩ := p.ex
  exact ⟨t, ads, T.keep k (fun _ _ => rfl) f fun k hk _ => hk, W.kw k⟩
theorem copyT_k (T : TreeP h col 0 t ads ns) (W : WorldW h col 2 ty w t op mk fo hi) (hfew : ns.length < 1000000) {id : Int} (hk : ∀ h' col' ads', TreeP h' col' 0 t ads' (copyM ns id).1 -> WorldW h' col' 2 ty w t op mk fo hi -> ExtP PS h col h' col' -> K (.int .i64 (copyM ns id).2) h') :
    HCalls Tryz.prog 115 ⟨[.pointer (some t), .int .i64 id]⟩ h K :=
  copy_calls T hfew fun h' c' ads' T' E' => hk h' c' ads' T' (W.ext (S := fun s => s = 0) (E'.p rfl) (by decide)) (E'.p (.inl rfl))
theorem putT_k (T : TreeP h col 0 t ads ns) (W : WorldW h col 2 ty w t op mk fo hi) (G : GoodT ns) {q b i : Int} (hk : ∀ h' col', TreeP h' col' 0 t ads (putM ns q b i).1 -> WorldW h' col' 2 ty w t op mk fo hi -> ExtP PS h col h' col' -> K (.bool (putM ns q b i).2) h') :
    HCalls Tryz.prog 27 ⟨[.pointer (some t), .int .i64 q, .int .i64 b, .int .i64 i]⟩ h K :=
  put_calls T G fun h' c' T' E' => hk h' c' T' (W.ext (S := fun s => s = 0) (E'.p rfl) (by decide)) (E'.p (.inl rfl))
theorem moveT_k (T : TreeP h col 0 t ads ns) (W : WorldW h col 2 ty w t op mk fo hi) (G : GoodT ns) {f d : Int} (hk : ∀ h' col', TreeP h' col' 0 t ads (moveM ns f d).1 -> WorldW h' col' 2 ty w t op mk fo hi -> ExtP PS h col h' col' -> K (.bool (moveM ns f d).2) h') :
    HCalls Tryz.prog 116 ⟨[.pointer (some t), .int .i64 f, .int .i64 d]⟩ h K :=
  move_calls T G fun h' c' T' E' => hk h' c' T' (W.ext (S := fun s => s = 0) (E'.p rfl) (by decide)) (E'.p (.inl rfl))
theorem ExtP.leave {S : Nat -> Prop} {D : Nat} (e : ExtP S h col h' col') (hD : h.size <= D) : ExtP S h col (h'.setIfInBounds D (.deferred none)) col' :=
  ⟨e.sk.trans ⟨by simp, fun k hk => by have : k < h.size := hk.1; rw [Array.getElem?_setIfInBounds_ne (by omega)]⟩, e.cl⟩
theorem adClose_calls (L : Lib0 h col) (p : PW h col w m) (hop : m.op.length <= 1000000) (hnm : ∀ x ∈ m.op, x.2.2.1.length <= 1000000000) (hk : ∀ h' col', PW h' col' w (closeA m nm) -> ExtP PS h col h' col' -> K (.tuple ⟨[]⟩) h') :
    HCalls Tryz.prog 17 ⟨[.pointer (some w), S nm]⟩ h K := by
  obtain ⟨t, ads, T, W⟩ := p.ex
  obtain ⟨ob, oc, mb, mn, mc, v, o, om⟩ := W.ex
  refine Sx.adopt_Close.ok _ _ _ _ (newx_var fun a1 h1 v1 k1 e1 s1 => newx_var fun a2 h2 v2 k2 e2 s2 => ⟨_, (v1.kb k2).cell0 rfl, vSomeMk ⟨_, _, _, (v.kb (k1.trans k2)).cell 1 rfl, ?_⟩⟩)
  refine Sx.slices_Backward_apiOpen.ok _ _ _ _ _ (newx_var fun a h4 va k4 e4 s4 => ?_)
  have k04 := (k1.trans k2).trans k4
  have v14 := (v1.kb k2).kb k4
  have v24 := v2.kb k4
  have o4 := o.kb k04
  have p4 := p.kb k04
  have r4 := o4.rowC
  have hD : h.size <= h4.size := k04.1
  obtain ⟨res, hres⟩ : ∃ r, clTo m.op nm m.op.length = r := ⟨_, rfl⟩
  have fin : ∀ h' col', PW h' col' w (closeA m nm) -> ExtP PS h col h' col' -> dOpen h4.size h' -> leaveX [markD h4.size] h' fun h => K (.tuple ⟨[]⟩) h := fun h' col' p' E' hd => by
    refine ⟨hd, hk _ _ (p'.kw ((KW.refl h').leave hd) fun k hk => p'.fresh k (by simpa using hk)) (E'.leave hD)⟩
  have fin0 : res = 0 -> ∀ h', KB h4 h' -> dOpen h4.size h' -> leaveX [markD h4.size] h' fun h => K (.tuple ⟨[]⟩) h := fun e h' k' hd => by
    have e2 : closeA m nm = m := by unfold closeA closeW closeO; rw [hres, e, if_neg (by omega)]
    exact fin h' col (by rw [e2]; exact p4.kb k') (.kb (k04.trans k')) hd
  have hRd : ∀ k, ((Free col h4 k ∨ (col k = some (2, 1) /\ k < h4.size)) /\ k ≠ a.block /\ k ≠ a1.block /\ k ≠ a2.block) -> k < h4.size := fun k hk => by
    rcases hk.1 with h | h
    · exact h.2
    · exact h.2
  refine ⟨_, Non, _, backO_emits r4 va, backsO_len m.op, rounds_of (fun xs h' => KB h4 h' /\ ∃ i, i <= m.op.length /\ xs = backsO m.op i /\ clTo m.op nm i = res) (fun xs h' h'' ⟨k, i, hi, hb, e⟩ n => ⟨k.nz n (Nat.le_succ _), i, hi, hb, e⟩) ?_ ?_ _ h4 ⟨KB.refl _, m.op.length, Nat.le_refl _, rfl, hres⟩⟩
  · rintro x xs h3 Kc ⟨k3, i, hi, e, hs⟩ hKc
    cases i with
    | zero => cases e
    | succ i =>
      have hil : i < m.op.length := by omega
      unfold backsO at e
      rw [getD_get hil] at e
      cases e
      unfold clTo at hs
      have hgd : m.op.getD i noOpen = m.op[i] := getD_get hil
      rw [hgd] at hs
      have hlt : ∀ k, (Free col h4 k ∨ (col k = some (2, 1) /\ k < h4.size)) ∨ k = a.block -> k < h4.size := fun k hk => by
        rcases hk with (h | h) | h
        · exact h.2
        · exact h.2
        · rw [h]; exact va.lt
      refine rdOpen (front_open k3 hlt (Nat.le_refl _) fun ax hb kb vb => ?_)
      have stop : res = 0 -> ∀ h', KB hb h' -> (fun hb h' p => KpP (fun k => (Free col h4 k ∨ (col k = some (2, 1) /\ k < h4.size)) ∨ k = a.block) hb h' /\ ∀ h4', NzP Non (h4.size + 1) h' h4' -> dOpen h4.size h4' -> p h4') hb h' fun h29 => leaveX [markD h4.size] h29 fun h => K (.tuple ⟨[]⟩) h := fun e h' k' =>
        ⟨k'.kp, fun h8 n8 hd => fin0 e h8 ((kb.trans k').nz n8 (Nat.le_succ _)) hd⟩
      refine spl (fun e0 => stop ?_ hb (KB.refl _)) fun e0 => ⟨_, vb.cell 1 rfl, ?_⟩
      · have e0 : i = 0 := by omega
        rw [if_pos e0] at hs; exact hs.symm
      rw [if_neg (by omega)] at hs
      have spec : isN m.op[i] nm = false -> ∃ i43, cell hb (ax.add 1) = some (.int .u8 i43) /\ (∃ s44, cell hb (ax.add 2) = some (S s44) /\ (HCalls Tryz.prog 54 ⟨[(.int .u8 i43), (S s44)]⟩ hb fun v45 h46 => vBool v45 fun b47 => cond b47 ((fun hb h' p => KpP (fun k => (Free col h4 k ∨ (col k = some (2, 1) /\ k < h4.size)) ∨ k = a.block) hb h' /\ ∀ h4', NzP Non (h4.size + 1) h' h4' -> dOpen h4.size h4' -> p h4') hb h46 fun h48 => leaveX [markD h4.size] h48 fun h => K (.tuple ⟨[]⟩) h) (Kc hb h46))) := fun en => by
        rw [en] at hs
        refine ⟨_, vb.cell 1 rfl, _, vb.cell 2 rfl, special_calls (L.ml.kb (k04.trans kb)) (by have := hnm _ (List.getElem_mem hil); omega) (vBool_mk (condB (fun eb => stop ?_ hb (KB.refl _)) fun eb => ?_))⟩
        · have eb : specO m.op[i] = true := eb
          rw [if_neg (by simp), if_pos eb] at hs; exact hs.symm
        · have eb : specO m.op[i] = false := eb
          rw [if_neg (by simp), if_neg (by rw [eb]; simp)] at hs
          exact hKc hb hb (KB.refl hb).kp ⟨kb, i, by omega, rfl, hs⟩
      have hmy : ∀ b : Bool, isN m.op[i] nm = b -> (decide (m.op[i].2.1 = 0) && decide (m.op[i].2.2.1 = nm)) = b := fun b h => h
      refine spl (fun ez => ⟨_, vb.cell 2 rfl, _, (v24.kb kb).cell0 rfl, spl (fun en => ?_) fun en => spec ?_⟩) fun ez => spec ?_
      · -- found
        have hN : isN m.op[i] nm = true := by unfold isN; rw [decide_eq_true ez, decide_eq_true en]; rfl
        rw [hN, if_pos rfl] at hs
        have hcl : closeA m nm = closeW m (i : Int) := by unfold closeA; rw [hres, <- hs]
        have pb := p4.kb kb
        obtain ⟨tb, adsb, Tb, Wb⟩ := pb.ex
        obtain ⟨ob2, oc2, mb2, mn2, mc2, vb2, o2, om2⟩ := Wb.ex
        have hcap := o2.own.cap
        refine ⟨_, (v14.kb kb).cell0 rfl, Sx.place_World_Close.ok _ _ _ _ (spl (fun q1 => vSomeMk ⟨_, _, _, vb2.cell 1 rfl, spl (fun q2 => condT (vSomeMk ⟨_, _, _, vb2.cell 1 rfl, ⟨by omega, by omega, by omega⟩, vSomeMk (closeK Wb pb.fresh q1 q2 vb2 fun h5 W5 E5 f5 k5 => ?_)⟩)) fun q2 => absurd (by omega) q2⟩) fun q1 => absurd (by omega) q1)⟩
        have hnr : ¬ ((Free col h4 w.block ∨ (col w.block = some (2, 1) /\ w.block < h4.size)) ∨ w.block = a.block) := fun hh => by
          have hwc := W.col
          rcases hh with (hh | hh) | hh
          · rw [hh.1] at hwc; cases hwc
          · rw [hh.1] at hwc; cases hwc
          · have := v.lt; have := k1.1; have := k2.1; have : a.block = h2.size := e4; omega
        have kp5 : KpP (fun k => (Free col h4 k ∨ (col k = some (2, 1) /\ k < h4.size)) ∨ k = a.block) hb h5 := KX.kp vb2 k5 hnr
        refine ⟨kp5, fun h8 n8 hd => ?_⟩
        have p5 : PW h5 col w (closeW m (i : Int)) := ⟨tb, adsb, Tb.otherP (S := fun k => k = 2) (by decide) E5 f5, W5⟩
        have E05 : ExtP PS h col h5 col := (ExtP.kb (k04.trans kb)).trans (E5.mono fun s hs => .inr hs)
        refine fin h8 col ?_ ⟨?_, fun _ _ => rfl⟩ hd
        · rw [hcl]; exact p5.kw n8.kw fun k hk => f5 k (Nat.le_trans n8.1 hk)
        · refine ⟨Nat.le_trans E05.sk.1 n8.1, fun k hk => ?_⟩
          have hks : k < h.size := hk.1
          have h5k := E05.sk.2 k hk
          cases hq : h5[k]? with
          | none => have := Array.getElem?_eq_none_iff.1 hq; have := E05.sk.1; omega
          | some ob5 =>
            rw [<- h5k, hq]
            exact n8.2 k ob5 hq (fun x => x) fun e => by omega
      · unfold isN; rw [decide_eq_true ez, decide_eq_false en]; rfl
      · unfold isN; rw [decide_eq_false ez]; rfl
  · rintro h3 ⟨k3, i, hi, e, hs⟩ hd
    cases i with
    | succ i => cases e
    | zero => exact fin0 hs.symm h3 k3 hd
end
end Go.Proofs
namespace Go.Proofs
open Go Go.Sh
set_option linter.unusedVariables false
set_option maxRecDepth 100000
def KeepK (ns ns' : List NodeM) : Prop := ∀ (j : Nat) z, ns[j]? = some z -> ∃ z', ns'[j]? = some z' /\ z'.kind = z.kind
theorem KeepK.like {ns ns' : List NodeM} (l : LikeT ns ns') (hl : ns'.length = ns.length) : KeepK ns ns' := fun j z hz => by
  have hj : j < ns.length := (List.getElem?_eq_some_iff.1 hz).1
  have h' : ns'[j]? = some (ns'[j]'(by omega)) := List.getElem?_eq_getElem (by omega)
  obtain ⟨y, hy, e, _⟩ := l j _ h'
  rw [hz] at hy; cases hy
  exact ⟨_, h', e⟩
theorem KeepK.trans {a b c : List NodeM} (h : KeepK a b) (k : KeepK b c) : KeepK a c := fun j z hz => by
  obtain ⟨y, hy, e⟩ := h j z hz
  obtain ⟨x, hx, e2⟩ := k j y hy
  exact ⟨x, hx, e2.trans e⟩
structure AI (m : WM) (u v x : Nat) : Prop where
  D : DI m u v x
  root : (m.op.getD 0 noOpen).1 = 0
  kind : ∀ y ∈ m.op, y.1 ≠ 0 -> ∃ z, m.ns[y.1.toNat]? = some z /\ z.kind = 1
  mid : ∀ y ∈ m.mks, y.1 ≠ 0
  nml : ∀ y ∈ m.op, y.2.2.1.length <= 4000
section
variable {m : WM} {u v x u' : Nat}
theorem AI.mono {v' x' : Nat} (A : AI m u v x) (h1 : u <= u') (h2 : v <= v') (h3 : x <= x') : AI m u' v' x' := ⟨A.D.mono h1 h2 h3, A.root, A.kind, A.mid, A.nml⟩
theorem AI.tree (A : AI m u v x) {ns' : List NodeM} (G : GoodT ns') (B : BareT ns') (T : TextB ns' x) (hu : ns'.length <= u') (huu : u <= u') (hl : m.ns.length <= ns'.length) (hk : KeepK m.ns ns') : AI { m with ns := ns' } u' v x :=
  ⟨⟨G, B, A.D.ne, fun y hy => by have := A.D.ids y hy; exact ⟨this.1, by show y.1 < (ns'.length : Int); omega⟩, A.D.nd, Nat.le_trans A.D.lo huu, hu, A.D.ml, A.D.mw, T⟩, A.root,
    fun y hy h0 => by obtain ⟨z, hz, e⟩ := A.kind y hy h0; obtain ⟨z', hz', e'⟩ := hk _ z hz; exact ⟨z', hz', e'.trans e⟩, A.mid, A.nml⟩
theorem AI.put (A : AI m u v x) (q b i : Int) : AI { m with ns := (putM m.ns q b i).1 } u v x := by
  have hl : (putM m.ns q b i).1.length = m.ns.length := put_len A.D.G q b i
  have hk := put_like A.D.G q b i
  exact A.tree (A.D.G.putM q b i) (A.D.B.like hk) (A.D.tx.like hk) (by rw [hl]; exact A.D.ln) (Nat.le_refl _) (Nat.le_of_eq hl.symm) (.like hk hl)
theorem AI.move (A : AI m u v x) (q b : Int) : AI { m with ns := (moveM m.ns q b).1 } u v x := by
  have hl : (moveM m.ns q b).1.length = m.ns.length := move_len q b
  have hk := move_like (ns := m.ns) q b
  exact A.tree (A.D.G.moveM q b) (A.D.B.like hk) (A.D.tx.like hk) (by rw [hl]; exact A.D.ln) (Nat.le_refl _) (Nat.le_of_eq hl.symm) (.like hk hl)
theorem copy_of {ns : List NodeM} {id : Int} {z : NodeM} (h0 : 0 <= id) (hz : ns[id.toNat]? = some z) (hk : z.kind = 1) : copyM ns id = (ns ++ [⟨1, z.space, z.name, z.attrs, [], -1, []⟩], (ns.length : Int)) := by
  have hlt : id.toNat < ns.length := (List.getElem?_eq_some_iff.1 hz).1
  unfold copyM
  rw [if_pos ⟨h0, by omega⟩, hz]
  show addM ns (bareM z.kind z.space z.name z.attrs z.text) = _
  unfold bareM
  rw [if_pos hk, hk]
  rfl
theorem AI.pos (A : AI m u v x) : 0 < m.ns.length := A.D.pos
theorem AI.copy (A : AI m u v x) {y : OpenP} (hy : y ∈ m.op) (h0 : y.1 ≠ 0) : AI { m with ns := (copyM m.ns y.1).1 } (u + 1) v x /\ (copyM m.ns y.1).2 = (m.ns.length : Int) /\ (copyM m.ns y.1).1.length = m.ns.length + 1 /\ ∃ z, (copyM m.ns y.1).1[m.ns.length]? = some z /\ z.kind = 1 := by
  obtain ⟨z, hz, hk⟩ := A.kind y hy h0
  have e := copy_of (A.D.ids y hy).1 hz hk
  have hl : (copyM m.ns y.1).1.length = m.ns.length + 1 := by rw [e]; simp
  have hln := A.D.ln
  refine ⟨A.tree (A.D.G.copyM _) (A.D.B.copyM A.pos _) (A.D.tx.copyM _) (by omega) (by omega) (by omega) fun j z hz => ⟨z, ?_, rfl⟩, by rw [e], hl, ?_⟩
  · rw [e]
    have hj : j < m.ns.length := (List.getElem?_eq_some_iff.1 hz).1
    show (m.ns ++ [_])[j]? = _
    rw [List.getElem?_append_left hj]; exact hz
  · rw [e]
    exact ⟨_, by show (m.ns ++ [_])[m.ns.length]? = _; rw [List.getElem?_append_right (Nat.le_refl _)]; simp; rfl, rfl⟩
theorem AI.ops (A : AI m u v x) {op : List OpenP} (hne : 0 < op.length) (hs : op.Sublist m.op) (hr : (op.getD 0 noOpen).1 = 0) : AI { m with op := op } u v x :=
  ⟨A.D.ops hne hs, hr, fun y hy => A.kind y (hs.subset hy), A.mid, fun y hy => A.nml y (hs.subset hy)⟩
theorem getD_take {α : Type} (l : List α) {n : Nat} (hn : 0 < n) (d : α) : (l.take n).getD 0 d = l.getD 0 d := by
  cases l with
  | nil => simp
  | cons a l => cases n with
    | zero => omega
    | succ n => rfl
theorem getD_erase {α : Type} (l : List α) {i j : Nat} (hij : j < i) (d : α) : (l.eraseIdx i).getD j d = l.getD j d := by
  rw [List.getD_eq_getElem?_getD, List.getD_eq_getElem?_getD, List.getElem?_eraseIdx, if_pos hij]
theorem AI.close (A : AI m u v x) (n : Int) : AI (closeW m n) u v x := by
  have hc := A.D.close n
  unfold closeW closeO at *
  split
  · rename_i h
    rw [if_pos h] at hc
    exact A.ops hc.ne (List.take_sublist _ _) (by rw [getD_take _ (by omega)]; exact A.root)
  · exact A
theorem AI.drop (A : AI m u v x) (id : Int) : AI (dropW m id) u v x := by
  have hc := A.D.drop id
  unfold dropW dropO at *
  split
  · rename_i h
    rw [if_pos h] at hc
    exact A.ops hc.ne (List.eraseIdx_sublist _ _) (by rw [getD_erase _ (by omega)]; exact A.root)
  · exact A
theorem AI.closeA (A : AI m u v x) (s : Bs) : AI (closeA m s) u v x := A.close _
theorem AI.marks (A : AI m u v x) {l : List MarkP} (hl : l.length <= v) (hw : MarksS l) (hm : ∀ y ∈ l, y.1 ≠ 0) : AI { m with mks := l } u v x :=
  ⟨⟨A.D.G, A.D.B, A.D.ne, A.D.ids, A.D.nd, A.D.lo, A.D.ln, hl, hw, A.D.tx⟩, A.root, A.kind, hm, A.nml⟩
theorem AI.unmark (A : AI m u v x) (k : Nat) : AI (unmark m k) u v x :=
  A.marks (Nat.le_trans (List.length_eraseIdx_le _ _) A.D.ml) (fun y hy => A.D.mw y (List.mem_of_mem_eraseIdx hy)) fun y hy => A.mid y (List.mem_of_mem_eraseIdx hy)
theorem idxQ_yes {α : Type} {l : List α} {p : α -> Bool} (h : 0 <= idxQ l p) : ∃ hi : (idxQ l p).toNat < l.length, p l[(idxQ l p).toNat] = true /\ ∀ j (hj : j < l.length), j < (idxQ l p).toNat -> p l[j] = false := by
  unfold idxQ at *
  cases hq : l.findIdx? p with
  | none => rw [hq] at h; exact absurd h (by decide)
  | some i =>
    obtain ⟨hi, h1, h2⟩ := List.findIdx?_eq_some_iff_getElem.1 hq
    exact ⟨hi, h1, fun j hj hji => by simpa using h2 j hji⟩
theorem AI.nd_eq (A : AI m u v x) {i j : Nat} (hi : i < m.op.length) (hj : j < m.op.length) (e : m.op[i].1 = m.op[j].1) : i = j := by
  have hn := A.D.nd
  have h1 : (m.op.map (·.1))[i]'(by simpa using hi) = (m.op.map (·.1))[j]'(by simpa using hj) := by simpa using e
  have hp := List.pairwise_iff_getElem.1 hn
  rcases Nat.lt_trichotomy i j with h | h | h
  · exact absurd h1 (hp i j (by simpa using hi) (by simpa using hj) h)
  · exact h
  · exact absurd h1.symm (hp j i (by simpa using hj) (by simpa using hi) h)
theorem AI.atO_of (A : AI m u v x) {i : Nat} (hi : i < m.op.length) : atO m.op m.op[i].1 = (i : Int) := by
  have h0 : 0 <= atO m.op m.op[i].1 := by
    refine idxQ_any.2 (List.any_eq_true.2 ⟨_, List.getElem_mem hi, by simp⟩)
  obtain ⟨hk, h1, h2⟩ := idxQ_yes h0
  have := A.nd_eq hk hi (by simpa using h1)
  show idxQ m.op _ = _
  have e : (idxQ m.op fun x => decide (x.1 = m.op[i].1)).toNat = i := this
  have h0 : 0 <= idxQ m.op fun x => decide (x.1 = m.op[i].1) := h0
  omega
theorem AI.ne0 (A : AI m u v x) {i : Nat} (hi : i < m.op.length) (h0 : 0 < i) : m.op[i].1 ≠ 0 := fun e => by
  have hr := A.root
  have hp := A.D.ne
  rw [getD_get hp] at hr
  have := A.nd_eq hi hp (e.trans hr.symm)
  omega
theorem AI.drop_of (A : AI m u v x) {i : Nat} (hi : i < m.op.length) (h0 : 0 < i) : dropO m.op m.op[i].1 = m.op.eraseIdx i := by
  have e := A.atO_of hi
  unfold dropO
  have e : (idxQ m.op fun x => decide (x.1 = m.op[i].1)) = (i : Int) := e
  rw [e, if_pos (by omega)]; rfl
theorem findP_yes {l : List MarkP} {id : Int} (h : 0 <= findP l id) : 0 <= id /\ ∃ hi : (findP l id).toNat < l.length, l[(findP l id).toNat].1 = id := by
  unfold findP at *
  split at h
  · exact absurd h (by decide)
  · rename_i hn
    obtain ⟨hi, h1, _⟩ := idxQ_yes h
    simp only [if_neg hn]
    exact ⟨by omega, hi, by simpa using h1⟩
theorem findP_mem {l : List MarkP} {id : Int} (h0 : 0 <= id) : 0 <= findP l id ↔ ∃ y ∈ l, y.1 = id := by
  unfold findP
  rw [if_neg (by omega), idxQ_any, List.any_eq_true]
  simp
structure CI (m : WM) (u v x : Nat) (f : Int) (j b q : Nat) : Prop where
  A : AI m u v x
  hj : j < q
  h0 : 0 < j
  hq : q <= m.op.length
  hf : (m.op.getD j noOpen).1 = f
  hm : ∃ y ∈ m.mks, y.1 = f
  hb : b <= m.mks.length
variable {f : Int} {j b q : Nat}
theorem CI.lt (C : CI m u v x f j b (q + 1)) (hne : (m.op.getD q noOpen).1 ≠ f) : j < q := by
  have := C.hj
  rcases Nat.lt_or_ge j q with h | h
  · exact h
  · have : q = j := by omega
    rw [this] at hne; exact absurd C.hf hne
theorem CI.pos (C : CI m u v x f j b (q + 1)) (hne : (m.op.getD q noOpen).1 ≠ f) : 0 < q := by have := C.lt hne; omega
theorem set_getD {α : Type} (l : List α) {i j : Nat} (hij : j ≠ i) (y d : α) : (l.set i y).getD j d = l.getD j d := by
  rw [List.getD_eq_getElem?_getD, List.getD_eq_getElem?_getD, List.getElem?_set_ne (fun e => hij e.symm)]
theorem nodup_set {β : Type} {l : List (Int × β)} (hn : (l.map (·.1)).Nodup) {i : Nat} {y : Int × β} (hy : ∀ z ∈ l, z.1 ≠ y.1) : ((l.set i y).map (·.1)).Nodup := by
  induction l generalizing i with
  | nil => exact hn
  | cons a l ih =>
    rw [List.map_cons, List.nodup_cons] at hn
    cases i with
    | zero =>
      rw [List.set_cons_zero, List.map_cons, List.nodup_cons]
      refine ⟨fun h => ?_, hn.2⟩
      obtain ⟨z, hz, e⟩ := List.mem_map.1 h
      exact hy z (by simp [hz]) e
    | succ i =>
      rw [List.set_cons_succ, List.map_cons, List.nodup_cons]
      refine ⟨fun h => ?_, ih hn.2 fun z hz => hy z (by simp [hz])⟩
      obtain ⟨z, hz, e⟩ := List.mem_map.1 h
      rcases List.mem_or_eq_of_mem_set hz with h2 | h2
      · exact hn.1 (List.mem_map.2 ⟨z, h2, e⟩)
      · subst h2; exact hy a (by simp) e.symm
theorem AI.copySet (A : AI m u v x) {i : Nat} (hi : i < m.op.length) (h0 : 0 < i) : AI { m with ns := (copyM m.ns m.op[i].1).1, op := m.op.set i ((copyM m.ns m.op[i].1).2, m.op[i].2) } (u + 1) v x := by
  obtain ⟨A1, e, hl, z, hz, hk⟩ := A.copy (List.getElem_mem hi) (A.ne0 hi h0)
  have hlo := A.D.lo
  refine ⟨⟨A1.D.G, A1.D.B, by show 0 < (m.op.set _ _).length; rw [List.length_set]; exact A.D.ne, fun y hy => ?_, ?_, by show (m.op.set _ _).length <= _; rw [List.length_set]; omega, A1.D.ln, A.D.ml, A.D.mw, A1.D.tx⟩, ?_, fun y hy hy0 => ?_, A.mid, fun y hy => ?_⟩
  · rcases List.mem_or_eq_of_mem_set hy with h | h
    · exact A1.D.ids y h
    · subst h
      rw [e]
      exact ⟨by show (0 : Int) <= (m.ns.length : Int); omega, by show (m.ns.length : Int) < ((copyM m.ns m.op[i].1).1.length : Int); omega⟩
  · refine nodup_set A.D.nd fun z hz => ?_
    have := (A.D.ids z hz).2
    rw [e]
    exact fun h => by have h : z.1 = (m.ns.length : Int) := h; omega
  · rw [set_getD _ (by omega)]; exact A.root
  · rcases List.mem_or_eq_of_mem_set hy with h | h
    · exact A1.kind y h hy0
    · subst h
      rw [e]
      exact ⟨z, by show (copyM m.ns m.op[i].1).1[(m.ns.length : Int).toNat]? = _; rw [Int.toNat_natCast]; exact hz, hk⟩
  · rcases List.mem_or_eq_of_mem_set hy with h | h
    · exact A.nml y h
    · subst h; exact A.nml m.op[i] (List.getElem_mem hi)
theorem CI.copy (C : CI m u v x f j b (q + 1)) (hne : (m.op.getD q noOpen).1 ≠ f) (hk : 0 <= findP m.mks (m.op.getD q noOpen).1) (last : Int) {b' : Nat} (hb' : b' = (findP m.mks (m.op.getD q noOpen).1).toNat + 1 ∨ b' = b) :
    CI { m with ns := (putM (copyM m.ns (m.op.getD q noOpen).1).1 (copyM m.ns (m.op.getD q noOpen).1).2 (-1) last).1, op := m.op.set q ((copyM m.ns (m.op.getD q noOpen).1).2, (m.op.getD q noOpen).2), mks := m.mks.set (findP m.mks (m.op.getD q noOpen).1).toNat ((copyM m.ns (m.op.getD q noOpen).1).2, (m.mks.getD (findP m.mks (m.op.getD q noOpen).1).toNat noMark).2) } (u + 1) v x f j b' q := by
  have hq : q < m.op.length := by have := C.hq; omega
  have hjq := C.lt hne
  have hp := C.pos hne
  have eg : m.op.getD q noOpen = m.op[q] := getD_get hq
  rw [eg] at hne hk hb' ⊢
  obtain ⟨_, hkl, hke⟩ := findP_yes hk
  obtain ⟨A1, e, hl, _⟩ := C.A.copy (List.getElem_mem hq) (C.A.ne0 hq hp)
  have A2 := C.A.copySet hq hp
  have hgm : m.mks.getD (findP m.mks m.op[q].1).toNat noMark = m.mks[(findP m.mks m.op[q].1).toNat] := getD_get hkl
  rw [hgm]
  have A3 : AI { m with ns := (copyM m.ns m.op[q].1).1, op := m.op.set q ((copyM m.ns m.op[q].1).2, m.op[q].2), mks := m.mks.set (findP m.mks m.op[q].1).toNat ((copyM m.ns m.op[q].1).2, m.mks[(findP m.mks m.op[q].1).toNat].2) } (u + 1) v x := by
    refine A2.marks (l := m.mks.set (findP m.mks m.op[q].1).toNat ((copyM m.ns m.op[q].1).2, m.mks[(findP m.mks m.op[q].1).toNat].2)) (by rw [List.length_set]; exact C.A.D.ml) (C.A.D.mw.set hkl _) fun y hy => ?_
    rcases List.mem_or_eq_of_mem_set hy with h | h
    · exact C.A.mid y h
    · subst h
      have := C.A.pos
      rw [e]
      exact fun h => by have h : (m.ns.length : Int) = 0 := h; omega
  refine ⟨A3.put (copyM m.ns m.op[q].1).2 (-1) last, hjq, C.h0, by show q <= (m.op.set _ _).length; rw [List.length_set]; omega, by show ((m.op.set _ _).getD j noOpen).1 = f; rw [set_getD _ (by omega)]; exact C.hf, ?_, by
    show b' <= (m.mks.set _ _).length
    rw [List.length_set]
    have := C.hb
    omega⟩
  obtain ⟨y, hy, ey⟩ := C.hm
  obtain ⟨i, hi, rfl⟩ := List.mem_iff_getElem.1 hy
  have hne2 : (findP m.mks m.op[q].1).toNat ≠ i := fun h => by
    subst h
    rw [hke] at ey; exact hne ey
  exact ⟨m.mks[i], by
    show m.mks[i] ∈ m.mks.set _ _
    rw [List.mem_iff_getElem]
    exact ⟨i, by rw [List.length_set]; exact hi, by rw [List.getElem_set_ne hne2]⟩, ey⟩
theorem CI.dropQ (C : CI m u v x f j b (q + 1)) (hne : (m.op.getD q noOpen).1 ≠ f) : CI (dropW m (m.op.getD q noOpen).1) u v x f j b q := by
  have hq : q < m.op.length := by have := C.hq; omega
  have hjq := C.lt hne
  have hp := C.pos hne
  have eg : m.op.getD q noOpen = m.op[q] := getD_get hq
  have hd : (dropW m (m.op.getD q noOpen).1).op = m.op.eraseIdx q := by rw [eg]; exact C.A.drop_of hq hp
  refine ⟨C.A.drop _, hjq, C.h0, ?_, ?_, C.hm, C.hb⟩
  · rw [hd, List.length_eraseIdx, if_pos hq]; omega
  · rw [hd, getD_erase _ hjq]; exact C.hf
theorem CI.unmark (C : CI m u v x f j b (q + 1)) (hne : (m.op.getD q noOpen).1 ≠ f) (hk : 0 <= findP m.mks (m.op.getD q noOpen).1) : CI (unmark m (findP m.mks (m.op.getD q noOpen).1).toNat) u v x f j (unbook b (findP m.mks (m.op.getD q noOpen).1).toNat) (q + 1) := by
  obtain ⟨_, hkl, hke⟩ := findP_yes hk
  have hb := C.hb
  refine ⟨C.A.unmark _, C.hj, C.h0, C.hq, C.hf, ?_, ?_⟩
  · obtain ⟨y, hy, ey⟩ := C.hm
    refine ⟨y, ?_, ey⟩
    refine List.mem_eraseIdx_iff_getElem.2 ?_
    obtain ⟨i, hi, rfl⟩ := List.mem_iff_getElem.1 hy
    exact ⟨i, hi, fun h => by subst h; rw [hke] at ey; exact hne ey, rfl⟩
  · show unbook b _ <= (m.mks.eraseIdx _).length
    rw [List.length_eraseIdx, if_pos hkl]
    unfold unbook
    split <;> omega
theorem climb_inv (blk : Int) : ∀ (q n : Nat) {m : WM} {u v x : Nat} {b : Nat} (last : Int), CI m u v x f j b q -> CI (climbN blk f q n m last b).1 (u + (3 - n)) v x f j (climbN blk f q n m last b).2.2 (j + 1)
  | 0, n, m, u, v, x, b, last, C => absurd C.hj (by omega)
  | q + 1, n, m, u, v, x, b, last, C => by
    unfold climbN
    simp only []
    by_cases hf : (m.op.getD q noOpen).1 = f
    · rw [if_pos hf]
      exact ⟨C.A.mono (by omega) (Nat.le_refl _) (Nat.le_refl _), by omega, C.h0, by have := C.hj; have := C.hq; show j + 1 <= m.op.length; omega, C.hf, C.hm, C.hb⟩
    · rw [if_neg hf]
      by_cases h1 : 0 <= findP m.mks (m.op.getD q noOpen).1 /\ n < 3
      · rw [if_pos h1]
        have C2 := C.copy hf h1.1 last (b' := if last = blk then (findP m.mks (m.op.getD q noOpen).1).toNat + 1 else b) (by split; exact .inl rfl; exact .inr rfl)
        have := climb_inv blk q (n + 1) (copyM m.ns (m.op.getD q noOpen).1).2 C2
        rw [show u + (3 - n) = u + 1 + (3 - (n + 1)) by omega]
        exact this
      · rw [if_neg h1]
        by_cases h2 : 0 <= findP m.mks (m.op.getD q noOpen).1
        · rw [if_pos h2]
          have C2 := (C.unmark hf h2).dropQ hf
          have := climb_inv blk q (n + 1) last C2
          exact ⟨this.A.mono (by omega) (Nat.le_refl _) (Nat.le_refl _), this.hj, this.h0, this.hq, this.hf, this.hm, this.hb⟩
        · rw [if_neg h2]
          have := climb_inv blk q (n + 1) last (C.dropQ hf)
          exact ⟨this.A.mono (by omega) (Nat.le_refl _) (Nat.le_refl _), this.hj, this.h0, this.hq, this.hf, this.hm, this.hb⟩
end
end Go.Proofs
namespace Go.Proofs
open Go Go.Sh
set_option linter.unusedVariables false
set_option maxRecDepth 100000
theorem cellAA {h : H} {a : Addr} {t : Nat} {cs : List Value} (v : Var h a t cs) (i j : Nat) {x : Value} (hx : cs[i + j]? = some x) : cell h ((a.add i).add j) = some x := by rw [add_add]; exact v.cell (i + j) hx
section
variable {h h' : H} {K : Value -> H -> Prop} {col col' : Col} {a w : Addr} {m : WM} {nm : Bs} {f : Int} {bl : OpenP} {u v x j b : Nat} {last : Int}
theorem AgW.free (g : AgW h col a w nm f bl b) {k : Nat} (hk : col k = none) : k ≠ a.block := fun e => by have := g.c; rw [<- e, hk] at this; cases this
theorem row_some {α : Type} {E : El α} {A : Nat -> Prop} {b : Option Addr} {n c : Nat} {l : List α} (r : Row E A h b n c l) {i : Nat} (hi : i < l.length) : ∃ q, b = some q := by
  obtain ⟨q, e, _⟩ := r.at' i _ (List.getElem?_eq_getElem hi)
  exact ⟨q, e⟩
theorem climb_loop {KE : Sx.adopt_agency_climb.T3} {Kr : Sx.adopt_agency_climb.T0} {R : WM × Int × Nat} {h0 : H} {col0 : Col} (L : Lib0 h0 col0)
    (hE : ∀ h' col', PW h' col' w R.1 -> AgW h' col' a w nm f bl (R.2.2 : Nat) -> ExtP PA h0 col0 h' col' -> KE R.2.1 h') : ∀ (q n : Nat) {m : WM} {u v x b : Nat} {last : Int} {h : H} {col : Col}, AgW h col a w nm f bl (b : Nat) -> PW h col w m -> CI m u v x f j b q ->
      u + (3 - n) <= 900000 -> v <= 900000 -> n + q <= 1000000 -> climbN bl.1 f q n m last b = R -> ExtP PA h0 col0 h col -> Sx.adopt_agency_climb.n8_L KE KE Kr q (some a) (q : Int) last (n : Int) h
  | 0, n, m, u, v, x, b, last, h, col, g, p, C, hu, hv, hn, hR, E0 => absurd C.hj (by omega)
  | q + 1, n, m, u, v, x, b, last, h, col, g, p, C, hu, hv, hn, hR, E0 => by
    obtain ⟨t, ads, T, W⟩ := p.ex
    obtain ⟨ob, oc, mb, mn, mc, vw, o, om⟩ := W.ex
    have hq : q < m.op.length := by have := C.hq; omega
    have hlo := C.A.D.lo
    have hln := C.A.D.ln
    have hml := C.A.D.ml
    have hb := C.hb
    have hx1 : (((q + 1 : Nat) : Int)) - 1 = (q : Int) := by omega
    have eg : m.op.getD q noOpen = m.op[q] := getD_get hq
    unfold climbN at hR
    simp only [] at hR
    rw [eg] at hR
    unfold Sx.adopt_agency_climb.n8_L LP Sx.adopt_agency_climb.n8_B
    refine ⟨rng64 (by omega) (by omega), ?_⟩
    show Sx.adopt_agency_climb.n11 (some a) (((q + 1 : Nat) : Int) - (1 : Int)) last (n : Int) _ _ _ _ h
    rw [hx1]
    refine ⟨rng64 (by omega) (by omega), ?_⟩
    refine vSomeMk ⟨_, g.v.cell 0 rfl, vSomeMk ⟨_, _, _, vw.cell 1 rfl, o.row.idxN (i := q) hq rfl fun qa hA => ldOpen hA fun ow => newx_var fun ax h1 vx1 k1 e1 s1 => stL_var0 vx1 (by show 4 <= 4; omega) fun h2 vx k2 s2 => ?_⟩⟩
    have k02 : KB h h2 := KB.step k1 k2 (by omega)
    have cax : col ax.block = none := p.fresh _ (by omega)
    have vx : Var h2 ax 60 (cellsO m.op[q]) := vx
    have p2 := p.kb k02
    have g2 := g.kb k02
    refine ⟨_, vx.cell 0 rfl, vSomeMk ⟨_, g2.v.cell 2 rfl, spl (fun ef => ?_) fun ef => ?_⟩⟩
    · rw [if_pos ef] at hR
      subst hR
      exact hE h2 col p2 g2 (E0.trans (.kb k02))
    rw [if_neg ef] at hR
    have efg : (m.op.getD q noOpen).1 ≠ f := by rw [eg]; exact ef
    have v2 := vw.kb k02
    refine vSomeMk ⟨_, g2.v.cell 0 rfl, vSomeMk ⟨_, _, _, v2.cell 2 rfl, _, vx.cell 0 rfl, find_calls (om.kb k02).row fun h3 k3 => vIntMk ?_⟩⟩
    have k03 := k02.trans k3
    have p3 := p.kb k03
    have g3 := g.kb k03
    have vx3 := vx.kb k3
    have E03 : ExtP PA h0 col0 h3 col := E0.trans (.kb k03)
    have drops : ∀ (m2 : WM) (b2 : Nat) h4 col4 i, i < 0 -> PW h4 col4 w m2 -> AgW h4 col4 a w nm f bl (b2 : Nat) -> ExtP PA h3 col h4 col4 -> CI m2 u v x f j b2 (q + 1) -> m2.op = m.op -> climbN bl.1 f q (n + 1) (dropW m2 m.op[q].1) last b2 = R ->
        Sx.adopt_agency_climb.n16 (some a) (q : Int) last ((n : Int) + 1) ax i (Sx.adopt_agency_climb.n8_L KE KE Kr q) (Sx.adopt_agency_climb.n8_L KE KE Kr q) KE Kr h4 := fun m2 b2 h4 col4 i hi p4 g4 E4 C2 ho hR2 => by
      have vx4 : Var h4 ax 60 (cellsO m.op[q]) := vx3.keep E4.keepF ⟨cax, vx3.lt⟩
      have hlo2 := C2.A.D.lo
      refine splT hi (vSomeMk ⟨_, g4.v.cell 0 rfl, _, vx4.cell 0 rfl, drop_callsW p4 (by omega) fun h5 col5 p5 E5 _ => ?_⟩)
      have eg2 : m2.op.getD q noOpen = m.op[q] := by rw [ho]; exact eg
      have C3 := C2.dropQ (by rw [eg2]; exact ef)
      rw [eg2] at C3
      exact climb_loop L hE q (n + 1) (g4.ps E5) p5 C3 (by omega) hv (by omega) hR2 ((E03.trans E4).trans E5.pa)
    by_cases hk : 0 <= findP m.mks m.op[q].1
    · obtain ⟨_, hkl, hke⟩ := findP_yes hk
      obtain ⟨k, ek⟩ := Int.eq_ofNat_of_zero_le hk
      have ekn : (findP m.mks m.op[q].1).toNat = k := by rw [ek]; rfl
      rw [ekn] at hkl hR
      rw [ek]
      have hkg : 0 <= findP m.mks (m.op.getD q noOpen).1 := by rw [eg]; exact hk
      by_cases hn3 : n < 3
      · -- it is copied
        rw [if_pos ⟨hk, hn3⟩] at hR
        refine splT (by omega) (splF (by omega) (splF (by omega) ?_))
        obtain ⟨t3, ads3, T3, W3⟩ := p3.ex
        obtain ⟨ob3, oc3, mb3, mn3, mc3, vw3, o3, om3⟩ := W3.ex
        refine vSomeMk ⟨_, g3.v.cell 0 rfl, vSomeMk ⟨_, vw3.cell 0 rfl, _, vx3.cell 0 rfl, copyT_k T3 W3 (by omega) fun h4 col4 ads4 T4 W4 E4 => vIntMk ?_⟩⟩
        obtain ⟨A1, ec, hcl, _⟩ := C.A.copy (List.getElem_mem hq) (C.A.ne0 hq (C.pos efg))
        obtain ⟨c, hc⟩ : ∃ c, (copyM m.ns m.op[q].1).2 = c := ⟨_, rfl⟩
        rw [hc] at ec hR ⊢
        have hcr : Rng .i64 c := by rw [ec]; exact rng64 (by omega) (by omega)
        have g4 := g3.ps E4
        have f4 : Fresh h4 col4 := T4.fresh
        obtain ⟨ob4, oc4, mb4, mn4, mc4, vw4, o4, om4⟩ := W4.ex
        obtain ⟨qo, rfl⟩ := row_some o4.row hq
        obtain ⟨qm, rfl⟩ := row_some om4.row hkl
        have hml4 := om4.len
        refine vSomeMk ⟨_, g4.v.cell 0 rfl, vSomeMk ⟨_, _, _, vw4.cell 1 rfl, vSomeMk ⟨_, g4.v.cell 0 rfl, vSomeMk ⟨_, _, _, vw4.cell 2 rfl, ⟨by omega, by omega⟩, vSomeMk ?_⟩⟩⟩⟩
        refine setOpenId_k W4 f4 (vw4.cell 1 rfl) (i := q) hq hcr fun h5 W5 E5 f5 keep5 => ⟨⟨by omega, by omega⟩, vSomeMk ?_⟩
        have c5 : cell h5 (w.add 2) = some (.slice (some qm) mn4 mc4) := by
          have hw : h5[w.block]? = h4[w.block]? := keep5 _ (by rw [W4.col]; intro e; cases e)
          have := vw4.cell 2 (x := .slice (some qm) mn4 mc4) rfl
          unfold cell at this ⊢
          rw [add_block] at this ⊢
          rw [hw]; exact this
        rw [show Int.toNat (k : Int) = k from rfl]
        refine setMarkId_k W5 f5 c5 (i := k) hkl hcr fun h6 W6 E6 f6 c6 => ?_
        have E46 : ExtP PS h4 col4 h6 col4 := (E5.mono fun s hs => .inr hs).trans (E6.mono fun s hs => .inr hs)
        have T6 := (T4.otherP (S := fun k => k = 2) (by decide) E5 f5).otherP (S := fun k => k = 2) (by decide) E6 f6
        have g6 := g4.ps E46
        have p6 : PW h6 col4 w { m with ns := (copyM m.ns m.op[q].1).1, op := m.op.set q (c, m.op[q].2), mks := m.mks.set k (c, m.mks[k].2) } := ⟨t3, ads4, T6, W6⟩
        have E06 : ExtP PA h0 col0 h6 col4 := (E03.trans E4.pa).trans E46.pa
        have hgm : m.mks.getD k noMark = m.mks[k] := getD_get hkl
        have puts : ∀ (b2 : Nat) h7, AgW h7 col4 a w nm f bl (b2 : Nat) -> PW h7 col4 w { m with ns := (copyM m.ns m.op[q].1).1, op := m.op.set q (c, m.op[q].2), mks := m.mks.set k (c, m.mks[k].2) } -> ExtP PA h6 col4 h7 col4 -> b2 = (if last = bl.1 then k + 1 else b) ->
            Sx.adopt_agency_climb.n20 (some a) (q : Int) last ((n : Int) + 1) c (Sx.adopt_agency_climb.n8_L KE KE Kr q) (Sx.adopt_agency_climb.n8_L KE KE Kr q) KE Kr h7 := fun b2 h7 g7 p7 E7 hb2 => by
          obtain ⟨t7, ads7, T7, W7⟩ := p7.ex
          obtain ⟨_, _, _, _, _, vw7, _, _⟩ := W7.ex
          refine vSomeMk ⟨_, g7.v.cell 0 rfl, vSomeMk ⟨_, vw7.cell 0 rfl, putT_k T7 W7 A1.D.G fun h8 col8 T8 W8 E8 => vBool_mk ?_⟩⟩
          have C2 := C.copy efg hkg last (b' := b2) (by rw [eg, ekn, hb2]; split; exact .inl rfl; exact .inr rfl)
          simp only [eg, ekn, hc, hgm] at C2
          simp only [hgm] at hR
          have := climb_loop (Kr := Kr) L hE q (n + 1) (g7.ps E8) (m := { m with ns := (putM (copyM m.ns m.op[q].1).1 c (-1) last).1, op := m.op.set q (c, m.op[q].2), mks := m.mks.set k (c, m.mks[k].2) }) (last := c) ⟨t7, ads7, T8, W8⟩ C2 (by omega) hv (by omega) (by rw [hb2]; exact hR) ((E06.trans E7).trans E8.pa)
          exact condK (K := fun _ => Sx.adopt_agency_climb.n8_L KE KE Kr q (some a) (q : Int) c ((n + 1 : Nat) : Int) h8) this
        refine vSomeMk ⟨_, cellAA g6.v 3 0 rfl, spl (fun el => ⟨rng64 (by omega) (by omega), vSomeMk ?_⟩) fun el => puts b h6 g6 p6 (.refl _ _ _) (by rw [if_neg el])⟩
        refine agSt g6 p6 (i := 7) (by show 7 + 1 <= 8; omega) fun h7 v7 c7 p7 E7 _ => puts (k + 1) h7 ⟨v7, c7⟩ p7 E7 (by rw [if_pos el])
      · -- it is no more
        rw [if_neg (fun h => hn3 h.2), if_pos hk] at hR
        refine splT (by omega) (splT (by omega) ?_)
        refine unmark_calls g3 p3 rfl (by omega) hkl (by omega) fun h4 col4 p4 g4 E4 _ => ?_
        have C2 := C.unmark efg hkg
        rw [eg, ekn] at C2
        exact drops (unmark m k) (unbook b k) h4 col4 (-1) (by decide) p4 g4 E4 C2 rfl hR
    · rw [if_neg (fun h => hk h.1), if_neg hk] at hR
      exact splF (by omega) (drops m b h3 col _ (by omega) p3 g3 (.refl _ _ _) C rfl hR)
theorem climb_calls (L : Lib0 h col) (g : AgW h col a w nm f bl (b : Nat)) (p : PW h col w m) {n : Nat} (C : CI m u v x f j b n) (hu : u + 3 <= 900000) (hv : v <= 900000)
    (hk : ∀ h' col', PW h' col' w (climbN bl.1 f n 0 m bl.1 b).1 -> AgW h' col' a w nm f bl ((climbN bl.1 f n 0 m bl.1 b).2.2 : Nat) -> ExtP PA h col h' col' -> K (.int .i64 (climbN bl.1 f n 0 m bl.1 b).2.1) h') :
    HCalls Tryz.prog 90 ⟨[.pointer (some a), .int .i64 (n : Int)]⟩ h K := by
  have hq := C.hq
  have hlo := C.A.D.lo
  refine Sx.adopt_agency_climb.ok _ _ _ _ (vSomeMk ⟨_, cellAA g.v 3 0 rfl, n, ?_⟩)
  exact climb_loop L (fun h' col' p' g' E' => hk h' col' p' g' E') n 0 g p C hu hv (by omega) rfl (.refl _ _ _)
end
end Go.Proofs
