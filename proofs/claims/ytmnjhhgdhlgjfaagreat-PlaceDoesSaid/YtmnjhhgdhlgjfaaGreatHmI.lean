/- Words for joining walks: tests handed on, the library's contracts, a function's value, tuples; texts' places. No condition. Memory: a field of an element of one's own row is stored; pointers against nil. No condition. Memory: rows of one's own that lead to older blocks alone; what stands somewhere is put behind them. No condition. -/
import Derived.Test.YtmnjhhgdhlgjfaaGreatHmE
import Derived.Below
import Derived.Laws.Pointers
namespace Go.Sh
open Go Go.RowKit
set_option linter.unusedVariables false

theorem getD_get {α : Type} {l : List α} {i : Nat} {d : α} (hi : i < l.length) : l.getD i d = l[i] := by
  rw [List.getD_eq_getElem?_getD, List.getElem?_eq_getElem hi]; rfl
theorem getDN {α : Type} {l : List α} {i : Nat} {d : α} (hi : i < l.length) : l.getD (Int.toNat (i : Int)) d = l[i] := getD_get hi
theorem rng64 {n : Int} (h1 : -9223372036854775808 ≤ n) (h2 : n ≤ 9223372036854775807) : Rng .i64 n := ⟨h1, h2⟩
theorem vBool_mk {b : Bool} {k : Bool → Prop} (h : k b) : vBool (.bool b) k := h
theorem vIntMk {kd : IntKind} {i : Int} {k : Int → Prop} (h : k i) : vInt kd (.int kd i) k := by
  show (if kd = kd then k i else False)
  rw [if_pos rfl]; exact h
theorem vSliceMk {b : Option Addr} {n c : Nat} {k : Option Addr → Nat → Nat → Prop} (h : k b n c) : vSlice (.slice b n c) k := h
theorem vStrMk {s : List UInt8} {k : List UInt8 → Prop} (h : k s) : vStr (S s) k := h
theorem condB {b : Bool} {X Y : Prop} (x : b = true → X) (y : b = false → Y) : cond b X Y := by cases b <;> first | exact x rfl | exact y rfl
theorem condT {X Y : Prop} (x : X) : cond true X Y := x
theorem condF {X Y : Prop} (y : Y) : cond false X Y := y
theorem condK {b : Bool} {K : Bool → Prop} (h : K b) : cond b (K true) (K false) := by cases b <;> exact h
theorem splK {p : Prop} [Decidable p] {K : Bool → Prop} (h : K (decide p)) : Spl p (K true) (K false) := by
  by_cases e : p
  · rw [decide_eq_true e] at h; exact splT e h
  · rw [decide_eq_false e] at h; exact splF e h
theorem tupSI {s : List UInt8} {kd : IntKind} {c : Int} {k : List UInt8 → Int → Prop} (h : k s c) : vTup (.tuple ⟨[S s, .int kd c]⟩) fun l => uncons l fun e l => vStr e fun s => uncons l fun e l => vInt kd e fun i => unnil l (k s i) :=
  show vInt kd (.int kd c) fun i => k s i from vIntMk h
theorem tupII {ka kb : IntKind} {a c : Int} {k : Int → Int → Prop} (h : k a c) : vTup (.tuple ⟨[.int ka a, .int kb c]⟩) fun l => uncons l fun e l => vInt ka e fun s => uncons l fun e l => vInt kb e fun i => unnil l (k s i) :=
  show vInt ka (.int ka a) fun a => vInt kb (.int kb c) fun i => k a i from vIntMk (vIntMk h)
theorem tupIB {ka : IntKind} {a : Int} {b : Bool} {k : Int → Bool → Prop} (h : k a b) : vTup (.tuple ⟨[.int ka a, .bool b]⟩) fun l => uncons l fun e l => vInt ka e fun s => uncons l fun e l => vBool e fun i => unnil l (k s i) :=
  show vInt ka (.int ka a) fun a => k a b from vIntMk h
theorem tupSB {a : List UInt8} {b : Bool} {k : List UInt8 → Bool → Prop} (h : k a b) : vTup (.tuple ⟨[S a, .bool b]⟩) fun l => uncons l fun e l => vStr e fun s => uncons l fun e l => vBool e fun i => unnil l (k s i) := h

/-- a contract of the library's that leaves the world alone -/
theorem hcalls_of {P : Program} {f : FuncId} {args : Array Value} {h : H} {v : Value} {K : Value → H → Prop} (hc : ∀ w : World, w.heap = h → Calls P f args w fun e w' => e = .returned v ∧ w' = w) (hk : K v h) : HCalls P f args h K :=
  fun w hw => (hc w hw).mono fun e w' ⟨he, hw'⟩ => ⟨v, he, by rw [hw']; exact Outer.refl w, by rw [hw', hw]; exact hk⟩
/-- one that leaves the blocks that were -/
theorem hcalls_below {P : Program} {f : FuncId} {args : Array Value} {h : H} {v : Value} {K : Value → H → Prop} (hc : ∀ w : World, w.heap = h → Calls P f args w fun e w' => e = .returned v ∧ Below w.heap.size w w') (hk : ∀ h', KB h h' → K v h') : HCalls P f args h K :=
  fun w hw => (hc w hw).mono fun e w' ⟨he, b⟩ => ⟨v, he, ⟨b.tape, b.os, b.output⟩, hk _ (by rw [← hw]; exact ⟨b.size, fun k hk => b.block k hk⟩)⟩
/-- the library's variable -/
def ML (h : H) : Prop := ∃ m, cell h ⟨0, 0, none⟩ = some (.int .i64 m)
theorem ML.kb {h h' : H} (m : ML h) (k : KB h h') : ML h' := by
  obtain ⟨x, e⟩ := m
  exact ⟨x, (KB.w k).cell (cell_lt e) e⟩

/-- a call of a function's value -/
theorem callV_ok {P : Program} {ty : TypeId} {f : FuncId} {fn : Func} {pre post args : List Value} {h : H} {next : Value → H → Prop} (hf : P.funcs[f]? = some fn) (hb : (fn.body.isSome && !(fn.name == "runtime.NumGoroutine")) = true)
    (hc : HCalls P f ⟨pre ++ args ++ post⟩ h fun v h' => dec P ty v fun v => next v h') : CallV P ty (.func (.func f) ⟨pre⟩ ⟨post⟩) ⟨args⟩ h next := by
  unfold CallV
  show enterx P f ⟨pre ++ args ++ post⟩ (leafM P ty h next)
  unfold enterx
  simp only [hf, hb]
  exact hc
theorem decBool {P : Program} {t : TypeId} {b : Bool} {k : Value → Prop} (h : P.underlying t = some .bool) (hk : k (.bool b)) : dec P t (.bool b) k := by
  unfold dec
  rw [h]
  show cond b (k (.bool true)) (k (.bool false))
  cases b <;> exact hk
/-- a text's part -/
theorem sub_full (l : List UInt8) (i : Nat) (hi : i ≤ l.length) : sub l (i : Int) (l.length : Int) = l.drop i := by
  unfold sub
  simp only [Int.toNat_natCast]
  rw [List.take_of_length_le (by simp)]
theorem sub_zero (l : List UInt8) (i : Nat) : sub l 0 (i : Int) = l.take i := by
  unfold sub
  simp
theorem sub_nat (l : List UInt8) (i j : Nat) : sub l (i : Int) (j : Int) = (l.take j).drop i := by
  unfold sub
  simp only [Int.toNat_natCast]
  rw [List.drop_take]
end Go.Sh
namespace Go.Sh
open Go
set_option linter.unusedVariables false
variable {P : Program} {α : Type} {E : El α}

/-! ### pointers -/
theorem eqGuard_ptr {op : BinOp} {t : TypeId} {x y : Operand} {p q : Option Addr} {w : World} : (eqGuard op t x y (.pointer p) (.pointer q)).run P w = .ok () w := by
  unfold eqGuard
  cases op <;> simp
theorem ptrNe_R {t : TypeId} {x y : Operand} {p : Option Addr} {h : H} {K : Value → Prop} (ht : P.underlying t = some (.pointer (P.pointee t))) (hk : K (.bool (!p.isNone))) : SemR P (binS .neq t x y (.pointer p) (.pointer none)) h K :=
  ⟨_, hk, fun w _ => by unfold binS; rw [Sem.run_bind, eqGuard_ptr, Result.andThen_ok]; exact run_neq_pointer_nil w t p ht⟩
theorem ptrEq_R {t : TypeId} {x y : Operand} {p : Option Addr} {h : H} {K : Value → Prop} (ht : P.underlying t = some (.pointer (P.pointee t))) (hk : K (.bool p.isNone)) : SemR P (binS .eql t x y (.pointer p) (.pointer none)) h K :=
  ⟨_, hk, fun w _ => by unfold binS; rw [Sem.run_bind, eqGuard_ptr, Result.andThen_ok]; exact run_eql_pointer_nil w t p ht⟩
theorem ptrNe_k {t : TypeId} {x y : Operand} {p : Option Addr} {h : H} {K : Value → H → Prop} (ht : P.underlying t = some (.pointer (P.pointee t))) (hk : K (.bool (!p.isNone)) h) : SemH P (binS .neq t x y (.pointer p) (.pointer none)) h K := (ptrNe_R ht (K := fun v => K v h) hk).h
theorem ptrEq_k {t : TypeId} {x y : Operand} {p : Option Addr} {h : H} {K : Value → H → Prop} (ht : P.underlying t = some (.pointer (P.pointee t))) (hk : K (.bool p.isNone) h) : SemH P (binS .eql t x y (.pointer p) (.pointer none)) h K := (ptrEq_R ht (K := fun v => K v h) hk).h

/-! ### a field of an element -/
theorem Enc.set {A : Nat → Prop} {h : H} : ∀ {l : List α} {xs : List Value} {i f : Nat} {x x' : α} {v : Value}, Enc E A h l xs → l[i]? = some x → f < E.sz → (∀ cs, E.R A h x cs → E.R A h x' (cs.set f v)) → Enc E A h (l.set i x') (xs.set (i * E.sz + f) v)
  | [], xs, i, f, x, x', v, e, hx, _, _ => by simp at hx
  | y :: l, xs, 0, f, x, x', v, ⟨cs, r, e, h1, h2⟩, hx, hf, hR => by
    simp at hx
    subst hx
    have hl := E.len _ _ _ _ h1
    refine ⟨cs.set f v, r, ?_, hR cs h1, h2⟩
    rw [e, Nat.zero_mul, Nat.zero_add, List.set_append_left _ _ (by omega)]
  | y :: l, xs, i + 1, f, x, x', v, ⟨cs, r, e, h1, h2⟩, hx, hf, hR => by
    have hl := E.len _ _ _ _ h1
    have ih := Enc.set (i := i) (f := f) (x' := x') (v := v) h2 (by simpa using hx) hf hR
    refine ⟨cs, r.set (i * E.sz + f) v, ?_, h1, ih⟩
    rw [e, Nat.add_mul, List.set_append_right _ _ (by omega), hl]
    congr 2
    omega
theorem set_take {β : Type} (l : List β) (n k : Nat) (v : β) : (l.set k v).take n = (l.take n).set k v := List.take_set
/-- a store into one's own row of flat elements -/
theorem ownF_setF (hf : Flat E) {h : H} {base e n c i f : Nat} {b : Option Addr} {l : List α} {x x' : α} {v : Value} {z : Nat} {K : H → Prop} (o : OwnF E h base e b n c l) (hx : l[i]? = some x) (hz : z = E.sz) (hfs : f < E.sz) (hv : oneC v = true)
    (hR : ∀ A h cs, E.R A h x cs → E.R A h x' (cs.set f v))
    (hk : ∀ a h', b = some a → OwnF E h' base e b n c (l.set i x') → KX a.block h h' → h'.size = h.size → base ≤ a.block → K h') :
    (0 ≤ (i : Int) ∧ (i : Int) < (n : Int)) ∧ vSome b fun a => stL ((a.add (Int.toNat (i : Int) * z)).add f) [v] 0 h K := by
  subst hz
  obtain ⟨xs, h1, h2⟩ := o.own.own
  have hi : i < l.length := (List.getElem?_eq_some_iff.1 hx).1
  have hn := o.own.len
  refine ⟨⟨by omega, by omega⟩, ?_⟩
  rw [Int.toNat_natCast]
  rcases h1.is with ⟨hn0, _⟩ | ⟨g, cur, rfl, hbg, hg, hcs, htk⟩
  · omega
  · have hgl : g < h.size := (Array.getElem?_eq_some_iff.1 hg).1
    have hin : i * E.sz + f < n * E.sz := by
      have : (i + 1) * E.sz ≤ n * E.sz := Nat.mul_le_mul_right _ (by omega)
      rw [Nat.add_mul] at this; omega
    have hcap : n * E.sz ≤ c * E.sz := Nat.mul_le_mul_right _ h1.cap
    have ha : ((((⟨g, 0, Option.none⟩ : Addr).add (i * E.sz)).add f).add 0) = (⟨g, 0, Option.none⟩ : Addr).add (i * E.sz + f) := by rw [add_add, add_add]; rfl
    have hin2 : i * E.sz + f < cur.size := by omega
    show stL (((⟨g, 0, Option.none⟩ : Addr).add (i * E.sz)).add f) [v] 0 h K
    unfold stL
    rw [ha]
    refine ⟨⟨cur[i * E.sz + f], ?_⟩, ?_, ?_⟩
    · rw [cell_lit hg]; simp [hin2]
    · unfold iced
      rw [add_block, hg]
      simp
    · show K (setc h ((⟨g, 0, Option.none⟩ : Addr).add (i * E.sz + f)) v)
      have e1 : ((⟨g, 0, Option.none⟩ : Addr).add (i * E.sz + f)) = ⟨g, i * E.sz + f, Option.none⟩ := by unfold Addr.add; split <;> simp_all
      have hkx : KX g h (setc h ((⟨g, 0, Option.none⟩ : Addr).add (i * E.sz + f)) v) := SK.setc (by rw [add_block]; exact fun e => e rfl)
      refine hk _ _ rfl ⟨⟨by rw [List.length_set]; exact hn, xs.set (i * E.sz + f) v, ⟨by rw [List.length_set]; exact h1.len, h1.cap, h1.max, .inr ⟨g, cur.setIfInBounds (i * E.sz + f) v, rfl, hbg, ?_, by simpa using hcs, ?_⟩⟩, ?_⟩, o.lo, fun a ea => by rw [setc_size]; exact o.hi a ea, o.nil⟩ hkx (setc_size ..) hbg
      · rw [e1]
        unfold setc
        rw [Array.getElem?_modify, if_pos rfl, hg]
        simp
      · rw [Array.toList_setIfInBounds, set_take, htk]
      · exact (h2.flat hf).set hx hfs (hR _ _)
/-- flat elements, whatever they point at -/
theorem OwnT.flatK {A A' : Nat → Prop} {h h' : H} {base e n c : Nat} {b : Option Addr} {l : List α} {B : Nat → Prop} (o : OwnT E A h base e b n c l) (k : Keep B h h') (hf : Flat E) (hg : ∀ g, b = some ⟨g, 0, none⟩ → base ≤ g → g < h.size → B g) : OwnT E A' h' base e b n c l := by
  obtain ⟨xs, h1, h2⟩ := o.own
  exact ⟨o.len, xs, h1.keep k hg, h2.flat hf⟩
theorem OwnF.flatK {h h' : H} {base e n c : Nat} {b : Option Addr} {l : List α} {B : Nat → Prop} (o : OwnF E h base e b n c l) (k : SK B h h') (hf : Flat E) (hg : ∀ g, base ≤ g → B g) : OwnF E h' base e b n c l :=
  ⟨o.own.flatK k.w hf fun g _ hg1 _ => hg g hg1, o.lo, fun a ea => Nat.lt_of_lt_of_le (o.hi a ea) k.1, o.nil⟩
/-- one element behind one's own row; all blocks but the row's stay -/
theorem one_appG {t ty e by' : Nat} (ap : Apd P E t e by') {h : H} {base : Nat} {ob : Option Addr} {on oc : Nat} {out : List α} {x : α} {cs : List Value} {K : Value → H → Prop} (hR : ∀ A h, E.R A h x cs) (o : OwnF E h base e ob on oc out) (k0s : base ≤ h.size) (hm : on + 1 ≤ maxLen) (hl : (on + 1) * by' ≤ 140737488355328)
    (hk : ∀ b' c' h', OwnF E h' base e b' (on + 1) c' (out ++ [x]) → SK (But h ob) h h' → K (.slice b' (on + 1) c') h') :
    newx h ⟨cs⟩ e fun a h1 => SemH P (Builtin.append_ #[t, t] ty ⟨[(.slice ob on oc), (.slice (some a) 1 1)]⟩) h1 K := by
  refine newx_var (cs := cs) fun a h4 v4 k4 ea es => ?_
  have rv : Row E (fun k => k = a.block) h4 (some a) 1 1 [x] := v4.row1 (hR _ _) rfl
  have k4s := k4.1
  refine OwnF.append ap (o.kb k4) (rv.keep (Keep.refl _ _) fun k hk _ => by subst hk; exact ⟨v4.lt, fun x hx => by have := o.hi x hx; omega⟩) hm hl (by omega) fun b5 c5 h5 o5 g5 => hk b5 c5 h5 o5 ⟨Nat.le_trans k4.1 g5.size, fun k hk => ?_⟩
  obtain ⟨hk1, hk2⟩ := hk
  exact (g5.old k (by omega) hk2).trans (k4.2 k hk1)
/-- one element behind one's own row -/
theorem one_app {t ty e by' : Nat} (ap : Apd P E t e by') {h : H} {base : Nat} {ob : Option Addr} {on oc : Nat} {out : List α} {x : α} {cs : List Value} {K : Value → H → Prop} (hR : ∀ A h, E.R A h x cs) (o : OwnF E h base e ob on oc out) (k0s : base ≤ h.size) (hm : on + 1 ≤ maxLen) (hl : (on + 1) * by' ≤ 140737488355328)
    (hk : ∀ b' c' h', OwnF E h' base e b' (on + 1) c' (out ++ [x]) → SK (Bel base) h h' → K (.slice b' (on + 1) c') h') :
    newx h ⟨cs⟩ e fun a h1 => SemH P (Builtin.append_ #[t, t] ty ⟨[(.slice ob on oc), (.slice (some a) 1 1)]⟩) h1 K := by
  refine newx_var (cs := cs) fun a h4 v4 k4 ea es => ?_
  have rv : Row E (fun k => k = a.block) h4 (some a) 1 1 [x] := v4.row1 (hR _ _) rfl
  have k4s := k4.1
  refine OwnF.append ap (o.kb k4) (rv.keep (Keep.refl _ _) fun k hk _ => by subst hk; exact ⟨v4.lt, fun x hx => by have := o.hi x hx; omega⟩) hm hl (by omega) fun b5 c5 h5 o5 g5 => hk b5 c5 h5 o5 ⟨Nat.le_trans k4.1 g5.size, fun k hk => ?_⟩
  have hk : k < base := hk
  exact (g5.old k (by omega) fun x e => by have := o.lo x e; omega).trans (k4.2 k (show k < h.size by omega))
end Go.Sh
namespace Go.Sh
open Go
set_option linter.unusedVariables false
variable {P : Program} {α : Type} {E : El α}
theorem Enc.drop {A : Nat → Prop} {h : H} : ∀ {l : List α} {xs : List Value} (k : Nat), Enc E A h l xs → Enc E A h (l.drop k) (xs.drop (k * E.sz))
  | l, xs, 0, e => by rw [Nat.zero_mul, List.drop_zero, List.drop_zero]; exact e
  | [], xs, k + 1, e => by
    have e : xs = [] := e
    rw [e, List.drop_nil, List.drop_nil]; rfl
  | x :: l, xs, k + 1, ⟨cs, r, e, hR, hr⟩ => by
    have hl := E.len _ _ _ _ hR
    rw [List.drop_succ_cons]
    have : xs.drop ((k + 1) * E.sz) = r.drop (k * E.sz) := by
      rw [e, Nat.succ_mul, Nat.add_comm, ← hl, List.drop_append, List.drop_of_length_le (by omega)]
      simp
    rw [this]
    exact Enc.drop k hr
theorem Cells.drop {h : H} {b : Option Addr} {cs : List Value} {c lo z : Nat} (k : Cells h b cs) (hc : c = lo → cs.drop (lo * z) = []) : Cells h (if c = lo then b else Option.map (fun q => q.add (lo * z)) b) (cs.drop (lo * z)) := fun j v hv => by
  by_cases e : c = lo
  · rw [hc e] at hv; simp at hv
  · rw [if_neg e]
    rw [List.getElem?_drop] at hv
    obtain ⟨a, ea, ec⟩ := k _ _ hv
    refine ⟨a.add (lo * z), by rw [ea]; rfl, ?_⟩
    rw [add_add]; exact ec
theorem Cells.take {h : H} {b : Option Addr} {cs : List Value} (k : Cells h b cs) (n : Nat) : Cells h b (cs.take n) := fun j v hv => by
  rw [List.getElem?_take] at hv
  split at hv
  · exact k j v hv
  · cases hv
/-- one's own row, and what stands somewhere behind it -/
theorem OwnT.appendE {t ty e by' : Nat} (ap : Apd P E t e by') {A : Nat → Prop} {h : H} {sb rb : Option Addr} {n c m k base : Nat} {l l2 : List α} {news : List Value} (o : OwnT E A h base e sb n c l)
    (hl2 : l2.length = m) (hen : Enc E A h l2 news) (hcn : Cells h rb news) (h63 : n + m ≤ maxLen) (hb : (n + m) * by' ≤ 140737488355328) (hbase : base ≤ h.size)
    (hAb : ∀ k, A k → k < h.size → ∀ a, sb = some a → a.block ≠ k) {K : Value → H → Prop}
    (hK : ∀ b' c' h', OwnT E A h' base e b' (n + m) c' (l ++ l2) → Grow h h' sb → (b' = sb ∨ b' = some (Ad h.size)) → (n + m = 0 → b' = sb ∧ c' = c) → K (.slice b' (n + m) c') h') :
    SemH P (Builtin.append_ #[t, t] ty ⟨[.slice sb n c, .slice rb m k]⟩) h K := by
  obtain ⟨i, z, ht, hi, hz, hzs, hsz, hby⟩ := ap.is
  obtain ⟨xs, h1, h2⟩ := o.own
  have hlen : news.length = m * i.size := by rw [hen.len, hl2, hsz]
  refine append_own (xs := xs) (news := news) (base := base) ht hi hz hzs (by rw [hsz]; exact h1) hlen hcn hen.one (by rw [hsz]; exact E.pos) h63 (by rw [hby]; exact hb) hbase fun b' c' h' ho hg hb' h0 => ?_
  refine hK b' c' h' ⟨by rw [List.length_append, o.len, hl2], xs ++ news, by rw [← hsz]; exact ho, ?_⟩ hg hb' h0
  exact (h2.append hen).keep (hg.keep.w.less fun k hk => ⟨hk.2, hAb k hk.1 hk.2⟩) fun _ h _ => h
/-- a row of one's own behind a place, that leads to older blocks -/
structure OwnA (E : El α) (A : Nat → Prop) (h : H) (base e : Nat) (b : Option Addr) (n c : Nat) (l : List α) : Prop where
  own : OwnT E A h base e b n c l
  lo : ∀ a, b = some a → base ≤ a.block
  hi : ∀ a, b = some a → a.block < h.size
  nil : b = none → c = 0
section
variable {A : Nat → Prop} {h h' : H} {base e n c : Nat} {b : Option Addr} {l : List α}
theorem OwnA.none (A : Nat → Prop) (h : H) (base e : Nat) : OwnA E A h base e none 0 0 [] := ⟨OwnT.nil _ _ _ _ _, (fun _ h => nomatch h), (fun _ h => nomatch h), fun _ => rfl⟩
theorem OwnA.kb (o : OwnA E A h base e b n c l) (k : KB h h') : OwnA E A h' base e b n c l := ⟨o.own.kb k, o.lo, fun a ea => Nat.lt_of_lt_of_le (o.hi a ea) k.1, o.nil⟩
theorem OwnA.lower {base' : Nat} (o : OwnA E A h base e b n c l) (hb : base' ≤ base) : OwnA E A h base' e b n c l := ⟨o.own.lower hb, fun a ea => Nat.le_trans hb (o.lo a ea), o.hi, o.nil⟩
theorem OwnA.len (o : OwnA E A h base e b n c l) : l.length = n := o.own.len
theorem OwnA.row (o : OwnA E A h base e b n c l) (hA : ∀ k, A k → k < h.size) : Row E (Bel h.size) h b n c l := o.own.row hA fun g _ hs _ => hs
theorem OwnA.append {t ty by' : Nat} (ap : Apd P E t e by') {rb : Option Addr} {m k : Nat} {l2 : List α} {news : List Value} (o : OwnA E A h base e b n c l) (hA : ∀ k, A k → k < base)
    (hl2 : l2.length = m) (hen : Enc E A h l2 news) (hcn : Cells h rb news) (h63 : n + m ≤ maxLen) (hb : (n + m) * by' ≤ 140737488355328) (hbase : base ≤ h.size) {K : Value → H → Prop}
    (hk : ∀ b' c' h', OwnA E A h' base e b' (n + m) c' (l ++ l2) → Grow h h' b → K (.slice b' (n + m) c') h') :
    SemH P (Builtin.append_ #[t, t] ty ⟨[.slice b n c, .slice rb m k]⟩) h K := by
  refine OwnT.appendE ap o.own hl2 hen hcn h63 hb hbase (fun k hk _ a ea => by have := o.lo a ea; have := hA k hk; omega) fun b2 c2 h2 o2 hg hb2 h0 => hk b2 c2 h2 ⟨o2, fun a ea => ?_, fun a ea => ?_, fun e => ?_⟩ hg
  · rcases hb2 with rfl | rfl
    · exact o.lo a ea
    · cases ea; exact hbase
  · rcases o2.own with ⟨xs, ow, _⟩
    rcases ow.lt with ⟨hn, hc⟩ | ⟨g, e1, _, hlt⟩
    · have := h0 hn
      rw [this.1] at ea
      exact Nat.lt_of_lt_of_le (o.hi a ea) hg.size
    · rw [ea] at e1; cases e1; exact hlt
  · subst e
    rcases o2.own with ⟨xs, ow, _⟩
    rcases ow.is with ⟨hn, hc⟩ | ⟨g, cur, e, _⟩
    · exact hc
    · cases e
/-- one element that stands in a variable -/
theorem Var.one {a : Addr} {ty : Nat} {x : α} {cs : List Value} (v : Var h a ty cs) (hR : E.R A h x cs) : Enc E A h [x] cs ∧ Cells h (some a) cs := ⟨⟨cs, [], by simp, hR, rfl⟩, fun j u hu => ⟨a, rfl, v.cell j hu⟩⟩
theorem OwnA.append1 {t ty by' : Nat} (ap : Apd P E t e by') {a : Addr} {tv : Nat} {x : α} {cs : List Value} (o : OwnA E A h base e b n c l) (hA : ∀ k, A k → k < base)
    (v : Var h a tv cs) (hR : E.R A h x cs) (h63 : n + 1 ≤ maxLen) (hb : (n + 1) * by' ≤ 140737488355328) (hbase : base ≤ h.size) {K : Value → H → Prop}
    (hk : ∀ b' c' h', OwnA E A h' base e b' (n + 1) c' (l ++ [x]) → Grow h h' b → K (.slice b' (n + 1) c') h') :
    SemH P (Builtin.append_ #[t, t] ty ⟨[.slice b n c, .slice (some a) 1 1]⟩) h K := by
  obtain ⟨he, hc⟩ := Var.one v hR
  exact OwnA.append ap o hA rfl he hc h63 hb hbase hk
theorem OwnA.grow {h0 : H} {sb : Option Addr} (k : KB h0 h) (g : Grow h h' b) (o : OwnA E A h base e b n c l) (hb : h0.size ≤ base) : KB h0 h' := Grow.kb0 k g fun a ea => Nat.le_trans hb (o.lo a ea)
end
/-! ### one element is taken out, as slices.Delete does -/
def zeroB (P : Program) (e : Nat) : Bool :=
  match P.info? e with
  | some i =>
    match i.zero with
    | some z => z.cells.toList.all fun v => v.oneCell'
    | none => false
  | none => false
theorem delRow_k {t e by' : Nat} (ap : Apd P E t e by') (hzb : zeroB P e = true) {A : Nat → Prop} {h : H} {base n c i : Nat} {b : Option Addr} {l : List α} (o : OwnA E A h base e b n c l) (hA : ∀ k, A k → k < base) (hi : i < n) {K : Option Addr → Nat → Nat → H → Prop}
    (hk : ∀ h', OwnA E A h' base e b (n - 1) c (l.eraseIdx i) → Grow h h' b → h'.size = h.size → K b (n - 1) c h') {ty ty2 : TypeId} :
    SemH P (Builtin.append_ #[t, t] ty ⟨[.slice b i c, .slice (if c = i + 1 then b else Option.map (fun q => q.add ((i + 1) * E.sz)) b) (n - (i + 1)) (c - (i + 1))]⟩) h fun v h1 => vSlice v fun sb sn sc =>
      ((0 : Int) ≤ (sn : Int) ∧ (sn : Int) ≤ (n : Int) ∧ (n : Int) ≤ (sc : Int)) ∧ SemH P (Builtin.clear_ #[t] ty2 ⟨[.slice (if sc = sn then sb else Option.map (fun q => q.add (sn * E.sz)) sb) (n - sn) (sc - sn)]⟩) h1 fun _ h2 => K sb sn sc h2 := by
  obtain ⟨ii, z, ht, hinf, hz, hzs, hsz, hby⟩ := ap.is
  have hz1 : ∀ v ∈ z.cells.toList, v.oneCell' = true := by
    unfold zeroB at hzb
    rw [hinf] at hzb
    simp only [hz] at hzb
    exact List.all_eq_true.1 hzb
  obtain ⟨xs, ow, en⟩ := o.own.own
  have hl := o.len
  rcases ow.is with ⟨h0, _⟩ | ⟨g, cur, rfl, hbg, hg, hcs, htk⟩
  · omega
  intro w hw
  subst hw
  have hcap := ow.cap
  have hpos := E.pos
  have hxl : xs.length = n * E.sz := ow.len
  have hcur : n * E.sz ≤ cur.size := by rw [hcs]; exact Nat.mul_le_mul_right _ hcap
  have hi1 : (i + 1) * E.sz ≤ n * E.sz := Nat.mul_le_mul_right _ hi
  have hi2 : (i + 1) * E.sz = i * E.sz + E.sz := Nat.succ_mul _ _
  have hn1 : n * E.sz = (n - 1) * E.sz + E.sz := by rw [← Nat.succ_mul]; congr 1; omega
  have hcells := Cells.drop (c := c) (lo := i + 1) (z := E.sz) ow.cells (fun e => List.drop_of_length_le (by
    have : n = i + 1 := by omega
    rw [hxl, this]; exact Nat.le_refl _))
  have hnl : (xs.drop ((i + 1) * E.sz)).length = (n - (i + 1)) * ii.size := by
    rw [List.length_drop, hxl, hsz, ← Nat.sub_mul]
  obtain ⟨R, hR⟩ : ∃ R, (if c = i + 1 then some (⟨g, 0, Option.none⟩ : Addr) else Option.map (fun q => q.add ((i + 1) * E.sz)) (some (⟨g, 0, Option.none⟩ : Addr))) = some R := by
    split
    · exact ⟨_, rfl⟩
    · exact ⟨_, rfl⟩
  rw [hR] at hcells ⊢
  have h1n : ∀ u ∈ xs.drop ((i + 1) * E.sz), u.oneCell' = true := fun u hu => en.one u (List.mem_of_mem_drop hu)
  have hr := run_append_room (P := P) w t ty e ii ht hinf g i c cur hg R (n - (i + 1)) (c - (i + 1)) _ hnl (fun j u hu => by
    obtain ⟨a, ea, ec⟩ := hcells j u hu
    cases ea
    exact ec) h1n (by omega) (by rw [hnl, hsz, ← Nat.add_mul]; exact Nat.le_trans (Nat.mul_le_mul_right _ (by omega)) hcur)
  have en1 : i + (n - (i + 1)) = n - 1 := by omega
  rw [hsz] at hr
  refine ⟨_, _, hr, ⟨rfl, rfl, rfl⟩, ?_⟩
  rw [en1]
  refine ⟨⟨by omega, by omega, by omega⟩, ?_⟩
  intro w2 hw2
  have hcn : ¬ c = n - 1 := by omega
  rw [if_neg hcn]
  have hxd : (xs.drop ((i + 1) * E.sz)).length = n * E.sz - (i + 1) * E.sz := by rw [List.length_drop, hxl]
  -- the block behind the append
  obtain ⟨cur1, hcur1⟩ : ∃ cur1, cur1 = (cur.toList.take (i * E.sz) ++ xs.drop ((i + 1) * E.sz) ++ cur.toList.drop (i * E.sz + (xs.drop ((i + 1) * E.sz)).length)).toArray := ⟨_, rfl⟩
  have hg2 : w2.heap[g]? = some (.cells cur1 e (0, 0)) := by rw [hw2, hcur1]; exact setRow_heap w g cur _ e _ hg
  have hs1 : cur1.size = cur.size := by
    rw [hcur1]
    simp only [List.size_toArray, List.length_append, List.length_take, List.length_drop, Array.length_toList]
    omega
  have hzl : (Builtin.zeroCells z.cells 1).toList = z.cells.toList := by
    simp [Builtin.zeroCells]
    apply List.ext_getElem
    · simp
    · intro k h1 h2
      simp at h1 h2 ⊢
      have h3 : k % z.cells.size = k := Nat.mod_eq_of_lt h2
      rw [h3, getElem!_pos z.cells k h2]
  have hzlen : z.cells.toList.length = E.sz := by rw [Array.length_toList, hzs, hsz]
  have hst := run_storeCells_at P g ((n - 1) * E.sz) e z.cells.toList 0 cur1 w2 hg2 (by rw [hzlen, hs1]; omega) hz1
  have hz2 : ∀ w : World, (zeroValue e).run P w = .ok z w := fun w => by
    unfold zeroValue
    simp [typeInfo, hinf, hz]
  have ea : ((⟨g, 0, Option.none⟩ : Addr).add ((n - 1) * E.sz)) = ⟨g, (n - 1) * E.sz, Option.none⟩ := by unfold Addr.add; split <;> simp_all
  have hone : n - (n - 1) = 1 := by omega
  have hrun : (Builtin.clear_ #[t] ty2 ⟨[.slice (Option.map (fun q => q.add ((n - 1) * E.sz)) (some (⟨g, 0, Option.none⟩ : Addr))) (n - (n - 1)) (c - (n - 1))]⟩).run P w2 = .ok (.tuple #[]) (w2.setRow g (cur1.toList.take ((n - 1) * E.sz + 0) ++ z.cells.toList ++ cur1.toList.drop ((n - 1) * E.sz + 0 + z.cells.toList.length)).toArray) := by
    rw [hone]
    show (Builtin.clear_ #[t] ty2 #[.slice (some ((⟨g, 0, Option.none⟩ : Addr).add ((n - 1) * E.sz))) 1 (c - (n - 1))]).run P w2 = _
    rw [ea]
    simp [Builtin.clear_, run_underlying ht, hz2, hzl, hst]
  refine ⟨_, _, hrun, ⟨rfl, rfl, rfl⟩, ?_⟩
  have hsize : (w2.setRow g (cur1.toList.take ((n - 1) * E.sz + 0) ++ z.cells.toList ++ cur1.toList.drop ((n - 1) * E.sz + 0 + z.cells.toList.length)).toArray).heap.size = w.heap.size := by
    simp [World.setRow, hw2]
  have hold : ∀ k, k ≠ g → (w2.setRow g (cur1.toList.take ((n - 1) * E.sz + 0) ++ z.cells.toList ++ cur1.toList.drop ((n - 1) * E.sz + 0 + z.cells.toList.length)).toArray).heap[k]? = w.heap[k]? := fun k hkg => by
    rw [setRow_other _ _ _ _ hkg, hw2, setRow_other _ _ _ _ hkg]
  have hnew := setRow_heap w2 g cur1 (cur1.toList.take ((n - 1) * E.sz + 0) ++ z.cells.toList ++ cur1.toList.drop ((n - 1) * E.sz + 0 + z.cells.toList.length)).toArray e _ hg2
  have hKp : Keep (fun k => k ≠ g) w.heap (w2.setRow g (cur1.toList.take ((n - 1) * E.sz + 0) ++ z.cells.toList ++ cur1.toList.drop ((n - 1) * E.sz + 0 + z.cells.toList.length)).toArray).heap :=
    ⟨by rw [hsize]; exact Nat.le_refl _, fun k hkg o ho _ => by rw [hold k hkg]; exact ho⟩
  have hgl : g < w.heap.size := (Array.getElem?_eq_some_iff.1 hg).1
  have hxe : xs.take (i * E.sz) ++ xs.drop ((i + 1) * E.sz) = (cur1.toList.take ((n - 1) * E.sz)) := by
    rw [hcur1]
    have h1 : (xs.take (i * E.sz) ++ xs.drop ((i + 1) * E.sz)).length = (n - 1) * E.sz := by
      rw [List.length_append, List.length_take, hxd, hxl]; omega
    have h2 : cur.toList.take (i * E.sz) = xs.take (i * E.sz) := by
      rw [← htk, List.take_take, Nat.min_eq_left (by omega)]
    rw [List.toList_toArray, h2]
    exact (List.take_left' h1).symm
  refine hk _ ⟨⟨?_, xs.take (i * E.sz) ++ xs.drop ((i + 1) * E.sz), ⟨?_, by omega, ow.max, .inr ⟨g, _, rfl, hbg, hnew, ?_, ?_⟩⟩, ?_⟩, o.lo, fun a ea => by cases ea; rw [hsize]; exact hgl, o.nil⟩ ⟨by rw [hsize]; exact Nat.le_refl _, fun k hk hne => hold k fun e => hne _ rfl e.symm⟩ hsize
  · rw [List.length_eraseIdx, if_pos (by omega), hl]
  · rw [List.length_append, List.length_take, hxd, hxl]; omega
  · simp only [List.size_toArray, List.length_append, List.length_take, List.length_drop, Array.length_toList]
    rw [hzs, hsz, ← hcs, hs1]
    omega
  · rw [List.toList_toArray, Nat.add_zero, hxe]
    rw [List.append_assoc, List.take_append_of_le_length (by rw [List.length_take, Array.length_toList, hs1]; omega)]
    rw [List.take_take, Nat.min_self]
  · have e1 : l.eraseIdx i = l.take i ++ l.drop (i + 1) := List.eraseIdx_eq_take_drop_succ _ _
    rw [e1]
    exact ((en.take i).append (en.drop (i + 1))).keep (hKp.less fun k hk => fun e2 => by have := hA k hk.1; omega) fun _ h _ => h
end Go.Sh
