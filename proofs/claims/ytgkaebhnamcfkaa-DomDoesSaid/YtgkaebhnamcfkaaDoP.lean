/- dom: builders and maps, as Print wants them. No condition. dom: Print. No condition but that it is not too long. dom: the chapter's lines. No condition but that they are not too long. -/
import Derived.Test.YtgkaebhnamcfkaaDoN
import Derived.Test.YtgkaebhnamcfkaaTxC
import Derived.Test.YtgkaebhnamcfkaaBuilderS
import Derived.MapKept
namespace Go.Proofs
open Go Go.Sh
set_option linter.unusedVariables false
set_option maxRecDepth 100000
/-! ### what a builder leaves -/
/-- all but the builder's block, and rows of bytes, stays -/
def KO (g : Nat) (h h' : H) : Prop := h.size ≤ h'.size ∧ ∀ (k : Nat) o, h[k]? = some o → k ≠ g → (∀ c fz, o ≠ .cells c 5 fz) → h'[k]? = some o
theorem KO.refl (g : Nat) (h : H) : KO g h h := ⟨Nat.le_refl _, fun _ _ e _ _ => e⟩
theorem KO.trans {g : Nat} {a b c : H} (x : KO g a b) (y : KO g b c) : KO g a c := ⟨Nat.le_trans x.1 y.1, fun k o e hg hn => y.2 k o (x.2 k o e hg hn) hg hn⟩
theorem KO.kb {g : Nat} {h h' : H} (k : KB h h') : KO g h h' := ⟨k.1, fun i o e _ _ => by rw [k.2 i (Array.getElem?_eq_some_iff.1 e).1]; exact e⟩
theorem KO.var {g : Nat} {h h' : H} (k : KO g h h') {a : Addr} {t : Nat} {cs : List Value} (v : Var h a t cs) (hg : a.block ≠ g) (ht : t ≠ 5) : Var h' a t cs := ⟨v.is, k.2 _ _ v.cells hg fun c fz e => ht (by cases e; rfl)⟩
/-- a builder of one's own, behind a place, that holds l -/
def Bld (B g : Nat) (l : Bs) (h : H) : Prop := ∀ w : World, w.heap = h → Lib.IsBuilderF 78 5 B g (Lib.byteCells l) w
theorem bld_of {B g : Nat} {l : Bs} {w : World} (hb : Lib.IsBuilderF 78 5 B g (Lib.byteCells l) w) : Bld B g l w.heap := fun w2 e => by
  unfold Lib.IsBuilderF Lib.BuilderAtF World.ownsRowF at *
  rw [e]; exact hb
theorem bytes_len (l : Bs) : (Lib.byteCells l).length = l.length := by simp [Lib.byteCells]
theorem Bld.old {B g : Nat} {l : Bs} {h h' : H} (bl : Bld B g l h) (k : ∀ (i : Nat) (o : Obj), B ≤ i → h[i]? = some o → loopish o = false → h'[i]? = some o) : Bld B g l h' := fun w hw => by
  have old : ∀ (i : Nat) c e fz, B ≤ i → h[i]? = some (.cells c e fz) → w.heap[i]? = some (.cells c e fz) := fun i c e fz hi e2 => by rw [hw]; exact k i _ hi e2 rfl
  rcases bl { w with heap := h } rfl with ⟨hB, v, hb, ⟨hlen, hown⟩, hne⟩ | ⟨hB, v, hb, ⟨hlen, hown⟩, hne⟩
  · exact .inl ⟨hB, v, old _ _ _ _ hB hb, ⟨hlen, hown.imp id fun ⟨g', cap, cur, fz, e1, e2, e3, e4⟩ => ⟨g', cap, cur, fz, e1, e2, old _ _ _ _ e2 e3, e4⟩⟩, hne⟩
  · exact .inr ⟨hB, v, old _ _ _ _ hB hb, ⟨hlen, hown.imp id fun ⟨g', cap, cur, fz, e1, e2, e3, e4⟩ => ⟨g', cap, cur, fz, e1, e2, old _ _ _ _ e2 e3, e4⟩⟩, hne⟩
theorem Bld.kb {B g : Nat} {l : Bs} {h h' : H} (bl : Bld B g l h) (k : KB h h') : Bld B g l h' := bl.old fun i o _ e _ => by rw [k.2 i (Array.getElem?_eq_some_iff.1 e).1]; exact e
section
variable {h : H} {K : Value → H → Prop} {B g : Nat} {l : Bs}
theorem bld_new {Q : Addr → H → Prop} (hk : ∀ h', Bld h.size h.size [] h' → KB h h' → h'.size = h.size + 1 → Q (Ad h.size) h') : newx h ⟨[.pointer none, .slice none 0 0]⟩ 78 Q := by
  refine hk _ (fun w hw => .inl ⟨Nat.le_refl _, .slice none 0 0, ?_, ⟨rfl, .inl ⟨rfl, rfl⟩⟩, fun e => by cases e⟩) (SK.push h _) (by simp)
  rw [hw]; simp
theorem bld_ws {s : Bs} (bl : Bld B g l h) (hB : B ≤ h.size) (hl : l.length + s.length ≤ 100000000000000) (hk : ∀ h', Bld B g (l ++ s) h' → SK (Bel B) h h' → KO g h h' → K (.tuple ⟨[.int .i64 (s.length : Int), .nilIface]⟩) h') : HCalls Try.prog 58 ⟨[.pointer (some (Ad g)), S s]⟩ h K :=
  fun w hw => (Try.WriteString_k B g (Lib.byteCells l) ⟨⟨s⟩⟩ w (bl w hw) (by rw [bytes_len]; show l.length + s.length ≤ _; omega) (by rw [hw]; exact hB)).mono fun e w' ⟨e1, b1, b2, b3⟩ => ⟨_, e1, ⟨b2.tape, b2.os, b2.output⟩, hk _ (bld_of (.inr (by
    have : Lib.byteCells (l ++ s) = Lib.byteCells l ++ Lib.strCells ⟨⟨s⟩⟩ := by simp [Lib.byteCells, Lib.strCells]
    rw [this]; exact b1))) ⟨by rw [← hw]; exact b2.size, fun k hk => by rw [← hw]; exact b2.block k hk⟩ ⟨by rw [← hw]; exact b2.size, fun k o e hg hn => b3 k o (by rw [hw]; exact e) (fun e2 => hg (Option.some.inj e2)) hn⟩⟩
theorem bld_string (bl : Bld B g l h) (hB : B ≤ h.size) (hk : ∀ h', Bld B g l h' → SK (Bel B) h h' → K (S l) h') : HCalls Try.prog 61 ⟨[.pointer (some (Ad g))]⟩ h K :=
  fun w hw => (Try.Builder_String_any_k B g l w (bl w hw) (by rw [hw]; exact hB)).mono fun e w' ⟨e1, b1, b2, _⟩ => ⟨_, e1, ⟨b2.tape, b2.os, b2.output⟩, hk _ (bld_of b1) ⟨by rw [← hw]; exact b2.size, fun k hk => by rw [← hw]; exact b2.block k hk⟩⟩
/-! ### strings.Repeat -/
theorem rep_calls {n : Nat} (hn : n ≤ 1000000000) (hk : ∀ h', KB h h' → K (S (Lib.repeatL [32, 32] n)) h') : HCalls Try.prog 59 ⟨[S [32, 32], .int .i64 (n : Int)]⟩ h K := by
  intro w hw
  match n, hn, hk with
  | 0, hn, hk =>
    refine (Try.strings_Repeat_zero ⟨⟨[32, 32]⟩⟩ w).mono fun e w' ⟨e1, e2⟩ => ⟨_, e1, by rw [e2]; exact Outer.refl w, ?_⟩
    rw [e2, hw]; exact hk h (KB.refl h)
  | 1, hn, hk =>
    refine (Try.strings_Repeat_one ⟨⟨[32, 32]⟩⟩ w).mono fun e w' ⟨e1, e2⟩ => ⟨_, e1, by rw [e2]; exact Outer.refl w, ?_⟩
    rw [e2, hw]; exact hk h (KB.refl h)
  | n + 2, hn, hk =>
    refine (Try.strings_Repeat_main ⟨⟨[32, 32]⟩⟩ (n + 2) w (by omega) (by omega) (by show 2 * (n + 2) ≤ _; omega) (by decide)).mono fun e w' ⟨e1, b⟩ => ⟨_, e1, ⟨b.tape, b.os, b.output⟩, ?_⟩
    exact hk _ ⟨by rw [← hw]; exact b.size, fun k hk => by rw [← hw]; exact b.block k (by rw [hw]; exact hk)⟩
/-! ### maps -/
theorem mkMap_k (hk : ∀ h', h'[h.size]? = some (.map #[] 0) → KB h h' → h'.size = h.size + 1 → K (.map (some h.size)) h') : SemH Try.prog (Instr.makeMap 85 none) h K := fun w hw => by
  subst hw
  exact ⟨_, _, rfl, ⟨rfl, rfl, rfl⟩, hk _ (World.alloc_heap_new _ _) (SK.push _ _) (by simp)⟩
theorem upd_k {es : Array MapEntry} {clock r : Nat} {i : Int} {val : Value} (hb : h[r]? = some (.map es clock)) (hf : Instr.findNow (.int .u8) (.int .u8 i) es.toList 0 = some none) {Q : H → Prop}
    (hk : ∀ h', h'[r]? = some (.map (es.push ⟨.int .u8 i, val, clock⟩) (clock + 1)) → KX r h h' → h'.size = h.size → Q h') : SemU Try.prog (Instr.mapUpdate 85 (.map (some r)) (.int .u8 i) val) h Q := fun w hw => by
  subst hw
  have hm : Try.prog.underlying 85 = some (.map 5 9) := by kernel_rfl
  have hu : Try.prog.underlying 5 = some (.int .u8) := by kernel_rfl
  have hlt := (Array.getElem?_eq_some_iff.1 hb).1
  refine ⟨{ w with heap := w.heap.setIfInBounds r (.map (es.push ⟨.int .u8 i, val, clock⟩) (clock + 1)) }, ?_, ⟨rfl, rfl, rfl⟩, hk _ (by simp [hlt]) ⟨by simp, fun k hk => by simp [Ne.symm hk]⟩ (by simp)⟩
  simp [Instr.mapUpdate, run_underlying hm, MapKept.run_getObj_map hb, MapKept.run_checkKey hu (k := .int .u8 i) rfl, MapKept.run_findKey hu hf, MapKept.run_setObj_map _ hb, Result.andThen]
theorem look_k {es : Array MapEntry} {clock r : Nat} {i : Int} {a : Option (Nat × Value)} (hb : h[r]? = some (.map es clock)) (hf : Instr.findNow (.int .u8) (.int .u8 i) es.toList 0 = some a)
    (hk : K (match a with | some (_, v) => v | none => S []) h) : SemH Try.prog (Instr.lookup 85 (.map (some r)) (.int .u8 i) false) h K := fun w hw => by
  subst hw
  have hm : Try.prog.underlying 85 = some (.map 5 9) := by kernel_rfl
  have hu : Try.prog.underlying 5 = some (.int .u8) := by kernel_rfl
  have hz : (Try.prog.info? 9).map (·.zero) = some (some (S [])) := by kernel_rfl
  obtain ⟨inf, hi1, hi2⟩ := Option.map_eq_some_iff.1 hz
  refine ⟨_, w, ?_, Outer.refl w, hk⟩
  cases a with
  | none => simp [Instr.lookup, run_underlying hm, MapKept.run_getObj_map hb, MapKept.run_checkKey hu (k := .int .u8 i) rfl, MapKept.run_findKey hu hf, Result.andThen, zeroValue, typeInfo, hi1, hi2]
  | some p => simp [Instr.lookup, run_underlying hm, MapKept.run_getObj_map hb, MapKept.run_checkKey hu (k := .int .u8 i) rfl, MapKept.run_findKey hu hf, Result.andThen]
end
end Go.Proofs
namespace Go.Proofs
open Go Go.Sh
set_option linter.unusedVariables false
set_option maxRecDepth 100000
def frontP (n : Nat) : Bs := Lib.repeatL [32, 32] n
def spaceP (i : Int) : Bs := if i = 1 then [115, 118, 103, 32] else if i = 2 then [109, 97, 116, 104, 32] else []
def attrLine (n : Nat) (a : AttrP) : Bs := frontP n ++ (((a.1 ++ [61, 34]) ++ a.2) ++ [34]) ++ [10]
def linesL : Nat → List NodeV → Nat → Bs
  | 0, _, _ => []
  | d + 1, l, n => l.flatMap fun x =>
    if x.kind = 2 then frontP n ++ (([34] ++ x.text) ++ [34]) ++ [10]
    else if x.kind = 3 then frontP n ++ (([60, 33, 45, 45, 32] ++ x.text) ++ [32, 45, 45, 62]) ++ [10]
    else if x.kind = 1 then (frontP n ++ ((([60] ++ spaceP x.space) ++ x.name) ++ [62]) ++ [10]) ++ (x.attrs.flatMap (attrLine (n + 1)) ++ linesL d x.kids (n + 1))
    else []
def mapE : Array MapEntry := #[⟨.int .u8 1, S [115, 118, 103, 32], 0⟩, ⟨.int .u8 2, S [109, 97, 116, 104, 32], 1⟩]
theorem look_space {h : H} {K : Value → H → Prop} {r : Nat} {i : Int} (hb : h[r]? = some (.map mapE 2)) (hk : K (S (spaceP i)) h) : SemH Try.prog (Instr.lookup 85 (.map (some r)) (.int .u8 i) false) h K := by
  by_cases h1 : i = 1
  · subst h1
    exact look_k (a := some (0, S [115, 118, 103, 32])) hb rfl hk
  · by_cases h2 : i = 2
    · subst h2
      exact look_k (a := some (1, S [109, 97, 116, 104, 32])) hb rfl hk
    · refine look_k (a := none) hb ?_ ?_
      · simp only [mapE, Instr.findNow, Instr.sameNow, if_true]
        rw [beq_false_of_ne h1, beq_false_of_ne h2]
      · unfold spaceP at hk
        rw [if_neg h1, if_neg h2] at hk
        exact hk
/-- what Print's closures stand on -/
structure PEnv (h : H) (B g : Nat) (x2 x3 x4 : Addr) (mr : Nat) : Prop where
  v2 : Var h x2 84 [.func (.func 57) ⟨[]⟩ ⟨[.pointer (some (Ad g))]⟩]
  v3 : Var h x3 85 [.map (some mr)]
  mp : h[mr]? = some (.map mapE 2)
  v4 : Var h x4 86 [.func (.func 60) ⟨[]⟩ ⟨[.pointer (some x2), .pointer (some x3), .pointer (some x4)]⟩]
  n2 : x2.block ≠ g
  n3 : x3.block ≠ g
  n4 : x4.block ≠ g
  nm : mr ≠ g
  hB : B ≤ g
theorem PEnv.ko {h h' : H} {B g mr : Nat} {x2 x3 x4 : Addr} (e : PEnv h B g x2 x3 x4 mr) (k : KO g h h') : PEnv h' B g x2 x3 x4 mr :=
  ⟨k.var e.v2 e.n2 (by decide), k.var e.v3 e.n3 (by decide), k.2 _ _ e.mp e.nm (fun c fz e => by cases e), k.var e.v4 e.n4 (by decide), e.n2, e.n3, e.n4, e.nm, e.hB⟩
theorem decUnit {k : Value → Prop} (h : k (.tuple ⟨[]⟩)) : Sh.dec Try.prog 0 (.tuple ⟨[]⟩) k := by
  have e : Try.prog.underlying 0 = some (.tuple #[]) := by kernel_rfl
  unfold Sh.dec
  rw [e]; exact h
section
variable {h : H} {K : Value → H → Prop} {B g mr : Nat} {x2 x3 x4 : Addr} {acc : Bs}
theorem tupIX {ka : IntKind} {a : Int} {v : Value} {p : Prop} (hk : p) : vTup (.tuple ⟨[.int ka a, v]⟩) fun l => uncons l fun e l => vInt ka e fun s => uncons l fun e l => unnil l p :=
  show vInt ka (.int ka a) fun _ => p from vIntMk hk
theorem line_calls {n : Nat} {s : Bs} (hn : n ≤ 1000000) (hs : s.length ≤ 10000000000000) (ha : acc.length ≤ 10000000000000) (bl : Bld B g acc h) (hB : B ≤ h.size)
    (hk : ∀ h', Bld B g (acc ++ (frontP n ++ s ++ [10])) h' → SK (Bel B) h h' → KO g h h' → K (.tuple ⟨[]⟩) h') : HCalls Try.prog 57 ⟨[.int .i64 (n : Int), S s, .pointer (some (Ad g))]⟩ h K := by
  have hr : (frontP n).length = n * 2 := Lib.repeatL_length _ n
  refine Sx.dom_Print_1.ok _ _ _ _ _ (rep_calls (by omega) fun h1 k1 => vStrMk ⟨?_, ?_, ?_⟩)
  · show (((frontP n).length + s.length : Nat) : Int) ≤ _; omega
  · show ((((frontP n) ++ s).length + 1 : Nat) : Int) ≤ _; rw [List.length_append]; omega
  · refine bld_ws (bl.kb k1) (Nat.le_trans hB k1.1) (by show acc.length + ((frontP n ++ s) ++ [10]).length ≤ _; simp only [List.length_append, List.length_cons, List.length_nil]; omega) fun h2 b2 s2 o2 => tupIX ?_
    exact hk h2 b2 (SK.trans (k1.less fun k hk => Nat.lt_of_lt_of_le hk hB) s2) ((KO.kb k1).trans o2)
/-- a line, by the closure's variable -/
theorem line_k {n : Nat} {s : Bs} (e : PEnv h B g x2 x3 x4 mr) (hn : n ≤ 1000000) (hs : s.length ≤ 10000000000000) (ha : acc.length ≤ 10000000000000) (bl : Bld B g acc h) (hB : B ≤ h.size) {Q : Value → H → Prop}
    (hk : ∀ h', Bld B g (acc ++ (frontP n ++ s ++ [10])) h' → SK (Bel B) h h' → KO g h h' → Q (.tuple ⟨[]⟩) h') : CallV Try.prog 0 (.func (.func 57) ⟨[]⟩ ⟨[.pointer (some (Ad g))]⟩) ⟨[.int .i64 (n : Int), S s]⟩ h Q :=
  callV_ok Try.func57 (by kernel_rfl) (line_calls hn hs ha bl hB fun h' b s k => decUnit (hk h' b s k))
theorem rowB {α : Type} {E : El α} {A : Nat → Prop} {h h' : H} {b : Option Addr} {n c : Nat} {l : List α} (r : Row E A h b n c l) (hA : ∀ k, A k → k < B) (s : SK (Bel B) h h') : Row E A h' b n c l := r.keep (s.w.less fun k hk => hA k hk.1) fun _ hk _ => hk
theorem attrs_loop {A : Nat → Prop} (hA : ∀ k, A k → k < B) {n : Nat} (hn : n + 1 ≤ 1000000) {x : NodeV} {a3 : Addr} {ab kb b : Option Addr} {an ac kn kc nn c : Nat} {i12 i13 : Int} {Kx : Sx.dom_Print_2.T4} {Ke2 Ke1 : Sx.dom_Print_2.T2} {Ke0 Kr : Sx.dom_Print_2.T0} (ha3 : a3.block ≠ g) :
    ∀ M j h6 acc6, j + M = an → PEnv h6 B g x2 x3 x4 mr → B ≤ h6.size → Var h6 a3 31 (nvCells x ab an ac kb kn kc) → Row elAttr A h6 ab an ac x.attrs → Bld B g acc6 h6 → acc6.length + ((x.attrs.drop j).flatMap (attrLine (n + 1))).length ≤ 10000000000000 →
      (∀ h7, SK (Bel B) h6 h7 → KO g h6 h7 → Bld B g (acc6 ++ (x.attrs.drop j).flatMap (attrLine (n + 1))) h7 → Kx (n : Int) x2 x3 x4 a3 b nn c i12 i13 h7) →
      Sx.dom_Print_2.n25_L Kx Kx Ke2 Ke1 Ke0 Kr (M + 1) (n : Int) x2 x3 x4 a3 b nn c i12 i13 ab an ac (an : Int) (j : Int) h6 := by
  intro M
  induction M with
  | zero =>
    intro j h6 acc6 hj e6 hB6 v6 r6 b6 hle hx
    have hl := r6.len
    unfold Sx.dom_Print_2.n25_L
    refine splF (by omega) ?_
    rw [List.drop_of_length_le (by omega)] at hx
    have := hx h6 (SK.refl _ _) (KO.refl _ _) (by rw [show List.flatMap (attrLine (n + 1)) [] = [] from rfl, List.append_nil]; exact b6)
    exact this
  | succ M ihM =>
    intro j h6 acc6 hj e6 hB6 v6 r6 b6 hle hx
    have hl := r6.len
    have hm : an ≤ maxLen := Nat.le_trans r6.cap r6.max
    simp only [maxLen] at hm
    have hjl : j < x.attrs.length := by omega
    have hgl : g < h6.size := by
      rcases b6 ⟨h6, fun _ _ => 0, 0, default, #[]⟩ rfl with ⟨_, v, hb, _⟩ | ⟨_, v, hb, _⟩ <;> exact (Array.getElem?_eq_some_iff.1 hb).1
    have ed : (x.attrs.drop j).flatMap (attrLine (n + 1)) = attrLine (n + 1) x.attrs[j] ++ (x.attrs.drop (j + 1)).flatMap (attrLine (n + 1)) := by
      rw [List.drop_eq_getElem_cons hjl, List.flatMap_cons]
    rw [ed] at hle hx
    have hla : (attrLine (n + 1) x.attrs[j]).length = (frontP (n + 1)).length + (x.attrs[j].1.length + 2 + x.attrs[j].2.length + 1) + 1 := by unfold attrLine; simp only [List.length_append, List.length_cons, List.length_nil]
    rw [List.length_append] at hle
    unfold Sx.dom_Print_2.n25_L
    refine splT (by omega) (r6.idxN hjl rfl fun a hAt => ldAttr hAt fun _ _ => newx_var fun a5 h7 v7 k7 e7 s7 => stL_var0 v7 (Nat.le_refl 2) fun h8 v8 k8 s8 => ?_)
    have v8 : Var h8 a5 59 [S x.attrs[j].1, S x.attrs[j].2] := v8
    have k68 : KB h6 h8 := KB.step k7 k8 (by omega)
    have e8 := e6.ko (KO.kb k68)
    have en1 : ((n : Int) + 1) = ((n + 1 : Nat) : Int) := by omega
    refine ⟨_, e8.v2.cell0 rfl, rngI (by omega) (by omega), _, v8.cell 0 rfl, ?_, _, v8.cell 1 rfl, ?_, ?_, ?_⟩
    · simp only [List.length_cons, List.length_nil]; omega
    · simp only [List.length_append, List.length_cons, List.length_nil]; omega
    · simp only [List.length_append, List.length_cons, List.length_nil]; omega
    · rw [en1]
      refine line_k e8 (by omega) (by simp only [List.length_append, List.length_cons, List.length_nil]; omega) (by omega) (b6.kb k68) (Nat.le_trans hB6 k68.1) fun h9 b9 s9 o9 => ⟨rngI (by omega) (by omega), ?_⟩
      have s69 : SK (Bel B) h6 h9 := SK.trans (k68.less fun k hk => Nat.lt_of_lt_of_le hk hB6) s9
      have o69 : KO g h6 h9 := (KO.kb k68).trans o9
      have b9 : Bld B g (acc6 ++ attrLine (n + 1) x.attrs[j]) h9 := b9
      refine ihM (j + 1) h9 _ (by omega) (e6.ko o69) (Nat.le_trans hB6 o69.1) (o69.var v6 ha3 (by decide)) (rowB r6 hA s69) b9 (by rw [List.length_append]; omega) fun h10 s10 o10 b10 => hx h10 (SK.trans s69 s10) (o69.trans o10) ?_
      rw [List.append_assoc] at b10
      exact b10
theorem all_calls : ∀ (d : Nat) {A : Nat → Prop} {h : H} {K : Value → H → Prop} {acc : Bs} {b : Option Addr} {nn c n : Nat} {l : List NodeV} (e : PEnv h B g x2 x3 x4 mr) (r : Row (elNode d) A h b nn c l) (hA : ∀ k, A k → k < B) (hn : n + d ≤ 1000000)
    (bl : Bld B g acc h) (hB : B ≤ h.size) (hlen : acc.length + (linesL d l n).length ≤ 10000000000000)
    (hk : ∀ h', Bld B g (acc ++ linesL d l n) h' → SK (Bel B) h h' → KO g h h' → K (.tuple ⟨[]⟩) h'),
    HCalls Try.prog 60 ⟨[.slice b nn c, .int .i64 (n : Int), .pointer (some x2), .pointer (some x3), .pointer (some x4)]⟩ h K := by
  intro d
  induction d with
  | zero =>
    intro A h K acc b nn c n l e r hA hn bl hB hlen hk
    have e1 := row_zero r
    have hl := r.len
    subst e1
    have hl : 0 = nn := hl
    refine Sx.dom_Print_2.ok _ _ _ _ _ _ _ _ _ ⟨1, ?_⟩
    unfold Sx.dom_Print_2.n3_L
    refine splF (by omega) (vBool_mk (condF ?_))
    have : acc ++ linesL 0 [] n = acc := List.append_nil _
    rw [this] at hk
    exact hk h bl (SK.refl _ _) (KO.refl _ _)
  | succ d ihd =>
    intro A h K acc b nn c n l e r hA hn bl hB hlen hk
    have hl := r.len
    have hm : nn ≤ maxLen := Nat.le_trans r.cap r.max
    simp only [maxLen] at hm
    refine Sx.dom_Print_2.ok _ _ _ _ _ _ _ _ _ ⟨nn + 1, ?_⟩
    have key : ∀ N i h1 acc1, i + N = nn → SK (Bel B) h h1 → KO g h h1 → Bld B g acc1 h1 → acc1 ++ linesL (d + 1) (l.drop i) n = acc ++ linesL (d + 1) l n →
        Sx.dom_Print_2.n3_L (fun h => K (.tuple ⟨[]⟩) h) (fun h => K (.tuple ⟨[]⟩) h) (fun h => K (.tuple ⟨[]⟩) h) (N + 1) (n : Int) x2 x3 x4 b nn c (nn : Int) (i : Int) h1 := by
      intro N
      induction N with
      | zero =>
        intro i h1 acc1 hi s1 k1 bl1 ea
        unfold Sx.dom_Print_2.n3_L
        refine splF (by omega) (vBool_mk (condF ?_))
        rw [List.drop_of_length_le (by omega)] at ea
        have : linesL (d + 1) [] n = [] := rfl
        rw [this, List.append_nil] at ea
        rw [ea] at bl1
        exact hk h1 bl1 s1 k1
      | succ N ih =>
        intro i h1 acc1 hi s1 k1 bl1 ea
        have hil : i < l.length := by omega
        have e1 := e.ko k1
        have hB1 := Nat.le_trans hB k1.1
        have r1 : Row (elNode (d + 1)) A h1 b nn c l := r.keep (s1.w.less fun k hk => hA k hk.1) fun _ hk _ => hk
        unfold Sx.dom_Print_2.n3_L
        refine splT (by omega) (vBool_mk (condT (r1.idxN hil rfl fun a hAt => ldNode hAt fun ab an ac kb kn kc ra hz rk hz2 g1 g2 g3 g4 => newx_var fun a3 h3 v3 k3 e3 s3 => stL_var0 v3 (Nat.le_refl 6) fun h4 v4 k4 s4 => ?_)))
        have k14 : KB h1 h4 := KB.step k3 k4 (by omega)
        have v4 : Var h4 a3 31 (nvCells l[i] ab an ac kb kn kc) := v4
        have bl4 := bl1.kb k14
        have hgl : g < h1.size := by
          rcases bl1 ⟨h1, fun _ _ => 0, 0, default, #[]⟩ rfl with ⟨_, v, hb, _⟩ | ⟨_, v, hb, _⟩ <;> exact (Array.getElem?_eq_some_iff.1 hb).1
        have ha3g : a3.block ≠ g := by omega
        have s14 : SK (Bel B) h h4 := SK.trans s1 (k14.less fun k hk => Nat.lt_of_lt_of_le hk hB1)
        have o14 : KO g h h4 := k1.trans (KO.kb k14)
        have hB4 := Nat.le_trans hB o14.1
        have e4 := e.ko o14
        have elines : linesL (d + 1) (l.drop i) n = (if l[i].kind = 2 then frontP n ++ (([34] ++ l[i].text) ++ [34]) ++ [10]
            else if l[i].kind = 3 then frontP n ++ (([60, 33, 45, 45, 32] ++ l[i].text) ++ [32, 45, 45, 62]) ++ [10]
            else if l[i].kind = 1 then (frontP n ++ ((([60] ++ spaceP l[i].space) ++ l[i].name) ++ [62]) ++ [10]) ++ (l[i].attrs.flatMap (attrLine (n + 1)) ++ linesL d l[i].kids (n + 1))
            else []) ++ linesL (d + 1) (l.drop (i + 1)) n := by
          rw [List.drop_eq_getElem_cons hil]
          show List.flatMap _ (_ :: _) = _
          rw [List.flatMap_cons]
          rfl
        rw [elines] at ea
        have hle := congrArg List.length ea
        rw [List.length_append, List.length_append, List.length_append] at hle
        have next : ∀ (p : Bs) h5, SK (Bel B) h h5 → KO g h h5 → Bld B g (acc1 ++ p) h5 → acc1 ++ (p ++ linesL (d + 1) (l.drop (i + 1)) n) = acc ++ linesL (d + 1) l n → Sx.dom_Print_2.n7 (n : Int) x2 x3 x4 b nn c (nn : Int) (i : Int) (Sx.dom_Print_2.n3_L (fun h => K (.tuple ⟨[]⟩) h) (fun h => K (.tuple ⟨[]⟩) h) (fun h => K (.tuple ⟨[]⟩) h) (N + 1)) (fun h => K (.tuple ⟨[]⟩) h) (fun h => K (.tuple ⟨[]⟩) h) h5 := by
          intro p h5 s5 o5 b5 e5
          exact ⟨rngI (by omega) (by omega), ih (i + 1) h5 (acc1 ++ p) (by omega) s5 o5 b5 (by rw [List.append_assoc]; exact e5)⟩
        refine ⟨_, v4.cell 0 rfl, spl (fun e2 => condT ?_) fun e2 => condF (spl (fun e3 => condT ?_) fun e3 => condF (spl (fun e1' => condT ?_) fun e1' => condF ?_))⟩
        · rw [if_pos e2] at ea hle
          simp only [List.length_append, List.length_cons, List.length_nil] at hle
          refine ⟨_, e4.v2.cell0 rfl, _, v4.cell 4 rfl, ?_, ?_, line_k e4 (by omega) ?_ (by omega) bl4 hB4 fun h5 b5 s5 o5 => next _ h5 (SK.trans s14 s5) (o14.trans o5) b5 ea⟩
          all_goals simp only [List.length_append, List.length_cons, List.length_nil]; omega
        · rw [if_neg e2, if_pos e3] at ea hle
          simp only [List.length_append, List.length_cons, List.length_nil] at hle
          refine ⟨_, e4.v2.cell0 rfl, _, v4.cell 4 rfl, ?_, ?_, line_k e4 (by omega) ?_ (by omega) bl4 hB4 fun h5 b5 s5 o5 => next _ h5 (SK.trans s14 s5) (o14.trans o5) b5 ea⟩
          all_goals simp only [List.length_append, List.length_cons, List.length_nil]; omega
        · rw [if_neg e2, if_neg e3, if_pos e1'] at ea hle
          simp only [List.length_append, List.length_cons, List.length_nil] at hle
          have hsp : (spaceP l[i].space).length ≤ 5 := by unfold spaceP; split; decide; split <;> decide
          refine ⟨_, e4.v2.cell0 rfl, _, e4.v3.cell0 rfl, _, v4.cell 1 rfl, look_space e4.mp (vStrMk ⟨?_, _, v4.cell 2 rfl, ?_, ?_, line_k e4 (by omega) ?_ (by omega) bl4 hB4 fun h5 b5 s5 o5 => ?_⟩)⟩
          · simp only [List.length_cons, List.length_nil]; omega
          · simp only [List.length_append, List.length_cons, List.length_nil]; omega
          · simp only [List.length_append, List.length_cons, List.length_nil]; omega
          · simp only [List.length_append, List.length_cons, List.length_nil]; omega
          · have v5 := o5.var v4 ha3g (by decide)
            have hra := ra.len
            have hram : an ≤ maxLen := Nat.le_trans ra.cap ra.max
            simp only [maxLen] at hram
            refine ⟨_, _, _, v5.cell 3 rfl, an + 1, ?_⟩
            have s45 : SK (Bel B) h1 h5 := SK.trans (k14.less fun k hk => Nat.lt_of_lt_of_le hk hB1) s5
            have s05 := SK.trans s14 s5
            have o05 := o14.trans o5
            have hat : (l[i].attrs.flatMap (attrLine (n + 1))).length = (List.flatMap (attrLine (n + 1)) l[i].attrs).length := rfl
            refine attrs_loop hA (by omega) ha3g an 0 h5 _ (by omega) (e.ko o05) (Nat.le_trans hB o05.1) v5 (rowB ra hA s45) b5 ?_ fun h6 s6 o6 b6 => ?_
            · rw [List.drop_zero]
              simp only [List.length_append, List.length_cons, List.length_nil]
              omega
            · rw [List.drop_zero] at b6
              have v6 := o6.var v5 ha3g (by decide)
              have en6 := e.ko (o05.trans o6)
              have en1 : ((n : Int) + 1) = ((n + 1 : Nat) : Int) := by omega
              refine ⟨_, en6.v4.cell0 rfl, _, _, _, v6.cell 5 rfl, rngI (by omega) (by omega), ?_⟩
              rw [en1]
              refine callV_ok Try.func60 (by kernel_rfl) (ihd en6 (rowB rk hA (SK.trans s45 s6)) hA (by omega) b6 (Nat.le_trans hB (o05.trans o6).1) ?_ fun h7 b7 s7 o7 => decUnit ?_)
              · simp only [List.length_append, List.length_cons, List.length_nil]
                omega
              · rw [List.append_assoc, List.append_assoc] at b7
                exact next _ h7 (SK.trans (SK.trans s05 s6) s7) ((o05.trans o6).trans o7) b7 (by rw [← ea])
        · rw [if_neg e2, if_neg e3, if_neg e1', List.nil_append] at ea
          exact next [] h4 s14 o14 (by rw [List.append_nil]; exact bl4) (by rw [List.nil_append]; exact ea)
    exact key nn 0 h acc (by omega) (SK.refl _ _) (KO.refl _ _) bl (by rw [List.drop_zero])
theorem vMapMk {m : Option Nat} {k : Option Nat → Prop} (h : k m) : vMap (.map m) k := h
theorem print_calls {d : Nat} {A : Nat → Prop} {b : Option Addr} {nn c : Nat} {l : List NodeV} (r : Row (elNode d) A h b nn c l) (hd : d ≤ 1000000) (hlen : (linesL d l 0).length ≤ 10000000000000) (hk : ∀ h', KB h h' → K (S (linesL d l 0)) h') : HCalls Try.prog 32 ⟨[.slice b nn c]⟩ h K := by
  refine Sx.dom_Print.ok _ _ _ _ _ (bld_new fun h1 bl1 k1 s1 => newx_var fun x2 h2 v2 k2 e2 s2 => stL_var0 v2 (Nat.le_refl 1) fun h3 v3 k3 s3 => mkMap_k fun h4 m4 k4 s4 => vMapMk ?_)
  have k23 : KB h1 h3 := KB.step k2 k3 (by omega)
  refine upd_k (i := 1) (val := S [115, 118, 103, 32]) m4 rfl fun h5 m5 k5 s5 => ?_
  refine upd_k (i := 2) (val := S [109, 97, 116, 104, 32]) m5 rfl fun h6 m6 k6 s6 => ?_
  refine newx_var fun x3 h7 v7 k7 e7 s7 => stL_var0 v7 (Nat.le_refl 1) fun h8 v8 k8 s8 => newx_var fun x4 h9 v9 k9 e9 s9 => stL_var0 v9 (Nat.le_refl 1) fun h10 v10 k10 s10 => ?_
  have v3 : Var h3 x2 84 [.func (.func 57) ⟨[]⟩ ⟨[.pointer (some (Ad h.size))]⟩] := v3
  have k36 : KB h3 h6 := KB.step (KB.step k4 k5 (by omega)) k6 (by omega)
  have k68 : KB h6 h8 := KB.step k7 k8 (by omega)
  have k810 : KB h8 h10 := KB.step k9 k10 (by omega)
  have m8 : h8[h3.size]? = some (.map mapE 2) := by rw [k68.2 _ (show h3.size < h6.size by omega)]; exact m6
  have m10 : h10[h3.size]? = some (.map mapE 2) := by rw [k810.2 _ (show h3.size < h8.size by omega)]; exact m8
  have k010 : KB h h10 := (((k1.trans k23).trans k36).trans k68).trans k810
  have bl10 : Bld h.size h.size [] h10 := ((bl1.kb k23).kb k36 |>.kb k68).kb k810
  have env : PEnv h10 h.size h.size x2 x3 x4 h3.size := ⟨((v3.kb k36).kb k68).kb k810, v8.kb k810, m10, v10, by omega, by omega, by omega, by omega, Nat.le_refl _⟩
  refine ⟨_, v10.cell0 rfl, callV_ok Try.func60 (by kernel_rfl) (all_calls d (n := 0) env (r.bel.kb k010) (fun k hk => hk) (by omega) bl10 k010.1 (by rw [List.length_nil]; omega) fun h11 b11 s11 o11 => decUnit ?_)⟩
  refine bld_string b11 (Nat.le_trans k010.1 s11.1) fun h12 b12 s12 => vStrMk ?_
  exact hk h12 (SK.trans (SK.trans k010 s11) s12)
end
end Go.Proofs
