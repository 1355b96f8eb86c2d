/- The shallow form of an operation is sound: it says what the operation's own run does. No condition. -/
import Derived.Test.YtmnjhhgdhlgjfaaShB
import Derived.Laws.Sem
import Derived.Lib.Strings
import Derived.Laws.StructEq
namespace Go.Sh
open Go
set_option linter.unusedVariables false
set_option linter.unusedSimpArgs false
variable {P : Program} {ρ : Operand → Value} {o : Oper} {K : Kont}

/-- one of the ways holds -/
def Ways (P : Program) (K : Kont) (s : Sem Next) : Prop :=
  (∃ v, K.val v ∧ ∀ w, s.run P w = .ok (.value v) w) ∨
    (∃ t a, K.load t a ∧ s = (do pure (.value (← loadVar t a)))) ∨
    (∃ cs t, K.box cs t ∧ ∀ w, s.run P w = .ok (.value (.pointer (some ⟨w.heap.size, 0, none⟩))) (w.alloc (.cells cs t))) ∨
    (∃ m, K.sem m ∧ ∀ w, s.run P w = (do pure (.value (← m)) : Sem Next).run P w) ∨
    (∃ m, K.semU m ∧ ∀ w, s.run P w = (do m; pure .skip : Sem Next).run P w) ∨
    (∃ f args, K.call f args ∧ ∀ w, s.run P w = .ok (.enter f args) w) ∨
    (∃ cs e n, K.row cs e n ∧ ∀ w, s.run P w = .ok (.value (.slice (some ⟨w.heap.size, 0, none⟩) n n)) (w.alloc (.cells cs e))) ∨
    (∃ l args, K.yld l args ∧ ∀ w, s.run P w = (Instr.yield l args).run P w) ∨
    (∃ a l, K.store a l ∧ l.all oneC = true ∧ ∀ w, s.run P w = (do storeCells a l; pure .skip : Sem Next).run P w)
variable {s : Sem Next}
theorem Ways.val {v : Value} (h : K.val v) (e : ∀ w, s.run P w = .ok (.value v) w) : Ways P K s := .inl ⟨v, h, e⟩
theorem Ways.sem {m : Sem Value} (h : K.sem m) (e : ∀ w, s.run P w = (do pure (.value (← m)) : Sem Next).run P w) : Ways P K s := .inr (.inr (.inr (.inl ⟨m, h, e⟩)))
theorem Ways.semU {m : Sem Unit} (h : K.semU m) (e : ∀ w, s.run P w = (do m; pure .skip : Sem Next).run P w) : Ways P K s := .inr (.inr (.inr (.inr (.inl ⟨m, h, e⟩))))
theorem Ways.call {f : FuncId} {args : Array Value} (h : K.call f args) (e : ∀ w, s.run P w = .ok (.enter f args) w) : Ways P K s := .inr (.inr (.inr (.inr (.inr (.inl ⟨f, args, h, e⟩)))))

/-- a value's run, wrapped -/
theorem wrap_ok {m : Sem Value} {v : Value} {w : World} (h : m.run P w = .ok v w) : (do pure (.value (← m)) : Sem Next).run P w = .ok (.value v) w := by
  simp [Sem.run_bind, h]

theorem wrap_in {k : IntKind} {n : Int} (h : Rng k n) : k.wrap n = n := by
  obtain ⟨h1, h2⟩ := h
  cases k <;> simp [IntKind.wrap, IntKind.min, IntKind.max, IntKind.bits, IntKind.signed] at * <;> (try split) <;> omega

theorem arith_ok {k : IntKind} {r : Int} (h : arith k r K) : K.val (.int k (k.wrap r)) := by
  unfold arith at h
  cases hk : (k.signed && !K.wr) <;> rw [hk] at h
  · exact h
  · rw [wrap_in h.1]; exact h.2
theorem cmpx_ok {p : Prop} {K : Kont} (b : Bool) (e : b = true ↔ p) (h : cmpx p K) : K.val (.bool b) := by
  unfold cmpx Spl at h
  cases b with
  | true => exact h.1 (e.1 rfl)
  | false => exact h.2 fun hp => by have := e.2 hp; cases this
theorem ncmpx_ok {p : Prop} {K : Kont} (b : Bool) (e : b = true ↔ ¬p) (h : ncmpx p K) : K.val (.bool b) := by
  unfold ncmpx Spl at h
  cases b with
  | true => exact h.2 (e.1 rfl)
  | false =>
    by_cases hp : p
    · exact h.1 hp
    · have := e.2 hp; cases this

theorem eqGuard_int {op : BinOp} {t : TypeId} {x y : Operand} {k k' : IntKind} {a b : Int} {w : World} : (eqGuard op t x y (.int k a) (.int k' b)).run P w = .ok () w := by
  unfold eqGuard
  cases op <;> simp [Sem.run_bind]
theorem eqGuard_str {op : BinOp} {t : TypeId} {x y : Operand} {a b : ByteArray} {w : World} : (eqGuard op t x y (.string a) (.string b)).run P w = .ok () w := by
  unfold eqGuard
  cases op <;> simp [Sem.run_bind]

theorem binS_int {op : BinOp} {t : TypeId} {x y : Operand} {k : IntKind} {a b : Int} {w : World} : (binS op t x y (.int k a) (.int k b)).run P w = (binOp op t (.int k a) (.int k b)).run P w := by
  unfold binS
  rw [Sem.run_bind, eqGuard_int]
  rfl
theorem binS_str {op : BinOp} {t : TypeId} {x y : Operand} {a b : ByteArray} {w : World} : (binS op t x y (.string a) (.string b)).run P w = (binOp op t (.string a) (.string b)).run P w := by
  unfold binS
  rw [Sem.run_bind, eqGuard_str]
  rfl

theorem intx_ok {op : BinOp} {t : TypeId} {x y : Operand} {k k' : IntKind} {a b : Int} (h : intx op t x y k a k' b K) :
    Ways P K (do pure (.value (← binS op t x y (.int k a) (.int k' b)))) := by
  by_cases e : k = k'
  · subst e
    have key : ∀ v, (∀ w, (binOp op t (.int k a) (.int k b)).run P w = .ok v w) → K.val v → Ways P K (do pure (.value (← binS op t x y (.int k a) (.int k b)))) :=
      fun v hv hk => .val hk fun w => wrap_ok (binS_int.trans (hv w))
    cases op
    case shl => exact .sem h fun _ => rfl
    case shr => exact .sem h fun _ => rfl
    case add => simp only [intx, if_true] at h; exact key _ (fun w => by simp [binOp, Op.intArith]) (arith_ok h)
    case sub => simp only [intx, if_true] at h; exact key _ (fun w => by simp [binOp, Op.intArith]) (arith_ok h)
    case mul => simp only [intx, if_true] at h; exact key _ (fun w => by simp [binOp, Op.intArith]) (arith_ok h)
    case quo => simp only [intx, if_true] at h; exact key _ (fun w => by simp [binOp, Op.intDiv, h.1]) (arith_ok h.2)
    case rem => simp only [intx, if_true] at h; exact key _ (fun w => by simp [binOp, Op.intDiv, h.1]) h.2
    case eql => simp only [intx, if_true] at h; exact key _ (fun w => by simp [binOp, Op.intCmp]) (cmpx_ok (a == b) (by simp) h)
    case neq => simp only [intx, if_true] at h; exact key _ (fun w => by simp [binOp, Op.intCmp]) (ncmpx_ok (a != b) (by simp) h)
    case lss => simp only [intx, if_true] at h; exact key _ (fun w => by simp [binOp, Op.intCmp]) (cmpx_ok (decide (a < b)) (by simp) h)
    case leq => simp only [intx, if_true] at h; exact key _ (fun w => by simp [binOp, Op.intCmp]) (cmpx_ok (decide (a ≤ b)) (by simp) h)
    case gtr => simp only [intx, if_true] at h; exact key _ (fun w => by simp [binOp, Op.intCmp]) (cmpx_ok (decide (a > b)) (by simp) h)
    case geq => simp only [intx, if_true] at h; exact key _ (fun w => by simp [binOp, Op.intCmp]) (cmpx_ok (decide (a ≥ b)) (by simp) h)
    case and => simp only [intx, if_true] at h; exact key _ (fun w => by simp [binOp, Op.intBits, bits]) h
    case or => simp only [intx, if_true] at h; exact key _ (fun w => by simp [binOp, Op.intBits, bits]) h
    case xor => simp only [intx, if_true] at h; exact key _ (fun w => by simp [binOp, Op.intBits, bits]) h
    case andNot => simp only [intx, if_true] at h; exact key _ (fun w => by simp [binOp, Op.intBits, bits]) h
  · cases op
    case shl => exact .sem h fun _ => rfl
    case shr => exact .sem h fun _ => rfl
    all_goals (simp only [intx, if_neg e] at h)

theorem strx_ok {op : BinOp} {t : TypeId} {x y : Operand} {a b : ByteArray} (h : strx op t x y a b K) :
    Ways P K (do pure (.value (← binS op t x y (.string a) (.string b)))) := by
  have key : ∀ v, (∀ w, (binOp op t (.string a) (.string b)).run P w = .ok v w) → K.val v → Ways P K (do pure (.value (← binS op t x y (.string a) (.string b)))) :=
    fun v hv hk => .val hk fun w => wrap_ok (binS_str.trans (hv w))
  cases op
  case add =>
    obtain ⟨h1, h2⟩ := h
    refine key (S (a.data.toList ++ b.data.toList)) (fun w => ?_) h2
    have hm : IntKind.i64.max = 9223372036854775807 := by decide
    have e : ¬ ((a.size + b.size : Nat) : Int) > IntKind.i64.max := by
      rw [hm]
      have ha : a.size = a.data.toList.length := Lib.size_eq _
      have hb : b.size = b.data.toList.length := Lib.size_eq _
      omega
    simp only [binOp, Op.stringOp, if_neg e]
    refine congrArg (fun v => Result.ok v w) (congrArg Value.string ?_)
    exact ByteArray.ext (Array.ext' (by simp))
  case eql => exact key (.bool (a.toList == b.toList)) (fun w => rfl) (cmpx_ok (a.toList == b.toList) (by rw [Lib.toList_data, Lib.toList_data, beq_iff_eq]) h)
  case neq => exact key (.bool !(a.toList == b.toList)) (fun w => rfl) (ncmpx_ok (!(a.toList == b.toList)) (by rw [Lib.toList_data, Lib.toList_data, Bool.not_eq_true', beq_eq_false_iff_ne]) h)
  all_goals exact .sem h fun _ => rfl

theorem eqGuard_bool {op : BinOp} {t : TypeId} {x y : Operand} {a b : Bool} {w : World} : (eqGuard op t x y (.bool a) (.bool b)).run P w = .ok () w := by
  unfold eqGuard
  cases op <;> simp [Sem.run_bind]
theorem boolx_ok {op : BinOp} {t : TypeId} {x y : Operand} {a b : Bool} (h : boolx P op t x y a b K) : Ways P K (do pure (.value (← binS op t x y (.bool a) (.bool b)))) := by
  have e : ∀ op w, (binS op t x y (.bool a) (.bool b)).run P w = (binOp op t (.bool a) (.bool b)).run P w := fun op w => by
    unfold binS
    rw [Sem.run_bind, eqGuard_bool]
    rfl
  unfold boolx at h
  split at h
  · rename_i hu
    refine .val h fun w => wrap_ok ((e _ w).trans ?_)
    simp only [binOp]
    simp [Op.equal, Op.maxDepth, run_equalIn_bool' w 9999 t a b hu]
  · rename_i hu
    refine .val h fun w => wrap_ok ((e _ w).trans ?_)
    simp only [binOp]
    simp [Op.equal, Op.maxDepth, run_equalIn_bool' w 9999 t a b hu]
  · exact .sem h fun _ => rfl

theorem binx_ok {op : BinOp} {t : TypeId} {x y : Operand} {vx vy : Value} (h : binx P op t x y vx vy K) :
    Ways P K (do pure (.value (← binS op t x y vx vy))) := by
  unfold binx at h
  split at h
  · exact intx_ok h
  · exact strx_ok h
  · exact boolx_ok h
  · exact .sem h fun _ => rfl

theorem unx_ok {op : UnOp} {v : Value} (h : unx op v K) : Ways P K (do pure (.value (← Op.unary op v))) := by
  unfold unx at h
  split at h
  · exact .val h fun w => wrap_ok rfl
  · exact .val (arith_ok h) fun w => wrap_ok rfl
  · exact .sem h fun _ => rfl

theorem run_und {t : TypeId} {d : TypeDesc} (h : P.underlying t = some d) (w : World) : (underlying t).run P w = .ok d w := by
  simp [underlying, Sem.run_bind, h]
theorem run_info {t : TypeId} {i : TypeInfo} (h : P.info? t = some i) (w : World) : (typeInfo t).run P w = .ok i w := by
  simp [typeInfo, Sem.run_bind, h]
theorem run_size {t : TypeId} {i : TypeInfo} (h : P.info? t = some i) (w : World) : (sizeOf t).run P w = .ok i.size w := by
  simp [sizeOf, Sem.run_bind, run_info h]
theorem cells_of {t : TypeId} {i : TypeInfo} (h : P.info? t = some i) : P.cellsOf t = i.size := by simp [Program.cellsOf, h]
theorem info_of_und {t : TypeId} {d : TypeDesc} (h : P.underlying t = some d) : ∃ i, P.info? t = some i := by
  unfold Program.underlying at h
  cases hi : P.info? t with
  | none => rw [hi] at h; simp at h
  | some i => exact ⟨i, rfl⟩

theorem cvx_ok {s d : TypeId} {v : Value} (h : cvx P s d v K) (hs : ∃ ds, P.underlying s = some ds) : Ways P K (do pure (.value (← convert s d v))) := by
  obtain ⟨ds, hs⟩ := hs
  unfold cvx at h
  split at h
  · rename_i k s' n hd
    have hr : ∀ w, (convert s d (.int s' n)).run P w = .ok (.int k (k.wrap n)) w := fun w => by
      unfold convert
      rw [Sem.run_bind, run_und hs, Result.andThen_ok, Sem.run_bind, run_und hd, Result.andThen_ok]
      cases ds <;> simp [Conv.intToInt]
    unfold cond at h
    split at h
    · refine .val (v := .int k n) h.2 fun w => wrap_ok ?_
      rw [hr, wrap_in h.1]
    · exact .val h fun w => wrap_ok (hr w)
  · rename_i s' hd
    refine .val h fun w => wrap_ok ?_
    unfold convert
    rw [Sem.run_bind, run_und hs, Result.andThen_ok, Sem.run_bind, run_und hd, Result.andThen_ok]
    cases ds <;> simp
  · exact .sem h fun _ => rfl

theorem lenx_ok {t : TypeId} {ty : TypeId} {args : Array Value} {ts : Array TypeId} {v : Value} (ht : ts[0]? = some t) (hv : args[0]? = some v) (h : lenx P t args ts v K) :
    Ways P K (do pure (.value (← Builtin.len_ ts ty args))) := by
  have hty : Builtin.len_ ts ty args = Builtin.len_ ts 0 args := rfl
  unfold lenx at h
  split at h
  · rename_i s hu
    refine .val h fun w => wrap_ok ?_
    unfold Builtin.len_
    simp only [ht, hv]
    rw [Sem.run_bind, run_und hu, Result.andThen_ok]
    show Result.ok (Value.int .i64 (s.size : Int)) w = _
    rw [Lib.size_eq]
  · rename_i e b n c hu
    refine .val h fun w => wrap_ok ?_
    unfold Builtin.len_
    simp only [ht, hv]
    rw [Sem.run_bind, run_und hu, Result.andThen_ok]
    simp [goInt]
  · rename_i n e x hu
    refine .val h fun w => wrap_ok ?_
    unfold Builtin.len_
    simp only [ht, hv]
    rw [Sem.run_bind, run_und hu, Result.andThen_ok]
    simp [goInt]
  · exact .sem h fun _ => rfl

theorem enterx_ok {f : FuncId} {args : Array Value} (h : enterx P f args K) : Ways P K (callFunc f args) := by
  unfold enterx at h
  split at h
  · rename_i fn hf
    unfold cond at h
    split at h
    · rename_i hc
      simp only [Bool.and_eq_true, Bool.not_eq_true'] at hc
      refine .call h fun w => ?_
      unfold callFunc
      rw [Sem.run_bind, run_program, Result.andThen_ok]
      simp only [hf]
      have hn : fn.body.isNone = false := by
        have := hc.1
        cases hb : fn.body <;> rw [hb] at this <;> simp at this ⊢
      rw [if_neg (by rw [hc.2]; simp), if_neg (by rw [hn]; simp)]
      rfl
    · exact h.elim
  · exact h.elim

theorem Ways.of_run {s s' : Sem Next} (e : ∀ w, s'.run P w = s.run P w) (hl : (∃ t a, K.load t a ∧ s = (do pure (.value (← loadVar t a)))) → s' = s) (h : Ways P K s) : Ways P K s' := by
  rcases h with ⟨v, h, r⟩ | hx | ⟨cs, t, h, r⟩ | ⟨m, h, r⟩ | ⟨m, h, r⟩ | ⟨f, args, h, r⟩ | ⟨cs, t, n, h, r⟩ | ⟨l, args, h, r⟩ | ⟨a, l, h, h1, r⟩
  · exact .inl ⟨v, h, fun w => (e w).trans (r w)⟩
  · rw [hl hx]; exact .inr (.inl hx)
  · exact .inr (.inr (.inl ⟨cs, t, h, fun w => (e w).trans (r w)⟩))
  · exact .sem h fun w => (e w).trans (r w)
  · exact .semU h fun w => (e w).trans (r w)
  · exact .call h fun w => (e w).trans (r w)
  · exact .inr (.inr (.inr (.inr (.inr (.inr (.inl ⟨cs, t, n, h, fun w => (e w).trans (r w)⟩))))))
  · exact .inr (.inr (.inr (.inr (.inr (.inr (.inr (.inl ⟨l, args, h, fun w => (e w).trans (r w)⟩)))))))
  · exact .inr (.inr (.inr (.inr (.inr (.inr (.inr (.inr ⟨a, l, h, h1, fun w => (e w).trans (r w)⟩)))))))

/-- a bound of a slice expression, in range -/
theorem bound_ok {k : IntKind} {i : Int} {y : Nat} {c : BoundsCode} {w : World} (h0 : 0 ≤ i) (h1 : i ≤ (y : Int)) : (Instr.sliceBound (.int k i) y c).run P w = .ok i.toNat w := by
  unfold Instr.sliceBound
  simp [asIntOf, Sem.run_bind, h0, h1]

theorem bndx_ok {v : Option Value} {d : Int} {k : Int → Prop} (h : bndx v d k) : (v = none ∧ k d) ∨ ∃ kd i, v = some (.int kd i) ∧ k i := by
  unfold bndx at h
  split at h
  · exact .inl ⟨rfl, h⟩
  · exact .inr ⟨_, _, rfl, h⟩
  · exact h.elim

theorem bounds2_ok {sl : Bool} {len cap : Nat} {lo hi : Option Value} {w : World} {a b : Int} {kl kh : IntKind}
    (hh : (hi = none ∧ b = (len : Int)) ∨ hi = some (.int kh b)) (hl : (lo = none ∧ a = 0) ∨ lo = some (.int kl a)) (h0 : 0 ≤ a) (h1 : a ≤ b) (h2 : b ≤ (cap : Int)) :
    (Instr.sliceBounds sl len cap lo hi none).run P w = .ok (a.toNat, b.toNat, cap) w := by
  unfold Instr.sliceBounds
  rcases hh with ⟨rfl, rfl⟩ | rfl
  · rcases hl with ⟨rfl, rfl⟩ | rfl
    · simp [Sem.run_bind]
    · simp [Sem.run_bind, bound_ok h0 h1]
  · rcases hl with ⟨rfl, rfl⟩ | rfl
    · simp [Sem.run_bind, bound_ok (Int.le_trans h0 h1) h2]
    · have e : a ≤ (b.toNat : Int) := by omega
      simp [Sem.run_bind, bound_ok (Int.le_trans h0 h1) h2, bound_ok h0 e]
theorem bounds3_ok {sl : Bool} {len cap : Nat} {lo : Option Value} {w : World} {a b m : Int} {kl kh km : IntKind}
    (hl : (lo = none ∧ a = 0) ∨ lo = some (.int kl a)) (h0 : 0 ≤ a) (h1 : a ≤ b) (h2 : b ≤ m) (h3 : m ≤ (cap : Int)) :
    (Instr.sliceBounds sl len cap lo (some (.int kh b)) (some (.int km m))).run P w = .ok (a.toNat, b.toNat, m.toNat) w := by
  unfold Instr.sliceBounds
  have e1 : b ≤ (m.toNat : Int) := by omega
  rcases hl with ⟨rfl, rfl⟩ | rfl
  · simp [Sem.run_bind, bound_ok (by omega : 0 ≤ m) h3, bound_ok (by omega : 0 ≤ b) e1]
  · have e : a ≤ (b.toNat : Int) := by omega
    simp [Sem.run_bind, bound_ok (by omega : 0 ≤ m) h3, bound_ok (by omega : 0 ≤ b) e1, bound_ok h0 e]

theorem slcx_ok {t : TypeId} {v : Value} {lo hi mx : Option Value} (h : slcx P t v lo hi mx K) : Ways P K (do pure (.value (← Instr.sliceAt t v lo hi mx))) := by
  unfold slcx at h
  split at h
  · rename_i s hu
    have hs : (s.size : Int) = s.data.toList.length := by rw [Lib.size_eq]
    have main : ∀ (a b : Int) (kl kh : IntKind), ((hi = none ∧ b = (s.size : Int)) ∨ hi = some (.int kh b)) → ((lo = none ∧ a = 0) ∨ lo = some (.int kl a)) →
        (0 ≤ a ∧ a ≤ b ∧ b ≤ (s.data.toList.length : Int)) ∧ K.val (S (sub s.data.toList a b)) → Ways P K (do pure (.value (← Instr.sliceAt t (.string s) lo hi none))) := by
      intro a b kl kh hh hl hx
      obtain ⟨⟨h0, h1, h2⟩, hk⟩ := hx
      refine .val hk fun w => wrap_ok ?_
      unfold Instr.sliceAt
      rw [Sem.run_bind, run_und hu, Result.andThen_ok]
      simp only
      unfold Instr.slice
      rw [Sem.run_bind, run_und hu, Result.andThen_ok]
      simp only [Option.isSome_none, Bool.false_eq_true, if_false]
      simp only [Sem.run_bind, Sem.run_pure, Result.andThen_ok]
      rw [bounds2_ok (kl := kl) (kh := kh) hh hl h0 h1 (by rw [hs]; exact h2)]
      simp only [Result.andThen_ok]
      have e : s.extract a.toNat b.toNat = ⟨⟨sub s.data.toList a b⟩⟩ := by
        refine ByteArray.ext (Array.ext' ?_)
        rw [Lib.extract_data]
        rfl
      rw [e]
    rcases bndx_ok h with ⟨hi0, h2⟩ | ⟨kh, b, hi0, h2⟩ <;> rcases bndx_ok h2 with ⟨lo0, h3⟩ | ⟨kl, a, lo0, h3⟩
    · exact main _ _ .i64 .i64 (.inl ⟨hi0, hs.symm⟩) (.inl ⟨lo0, rfl⟩) h3
    · exact main _ _ kl .i64 (.inl ⟨hi0, hs.symm⟩) (.inr lo0) h3
    · exact main _ _ .i64 kh (.inr hi0) (.inl ⟨lo0, rfl⟩) h3
    · exact main _ _ kl kh (.inr hi0) (.inr lo0) h3
  · rename_i e base n c hu
    cases hie : P.info? e with
    | none => rw [hie] at h; exact h.elim
    | some ie =>
    rw [hie] at h
    have h : (bndx hi n fun b => bndx lo 0 fun a => (0 ≤ a ∧ a ≤ b ∧ b ≤ (c : Int)) ∧
      K.val (.slice (if c = a.toNat then base else base.map (·.add (a.toNat * P.cellsOf e))) (b.toNat - a.toNat) (c - a.toNat))) := h
    have main : ∀ (a b : Int) (kl kh : IntKind), ((hi = none ∧ b = (n : Int)) ∨ hi = some (.int kh b)) → ((lo = none ∧ a = 0) ∨ lo = some (.int kl a)) →
        (0 ≤ a ∧ a ≤ b ∧ b ≤ (c : Int)) ∧ K.val (.slice (if c = a.toNat then base else base.map (·.add (a.toNat * P.cellsOf e))) (b.toNat - a.toNat) (c - a.toNat)) → Ways P K (do pure (.value (← Instr.sliceAt t (.slice base n c) lo hi none))) := by
      intro a b kl kh hh hl hx
      obtain ⟨⟨h0, h1, h2⟩, hk⟩ := hx
      refine .val hk fun w => wrap_ok ?_
      unfold Instr.sliceAt
      rw [Sem.run_bind, run_und hu, Result.andThen_ok]
      simp only
      unfold Instr.slice
      rw [Sem.run_bind, run_und hu, Result.andThen_ok]
      simp only [Sem.run_bind, Sem.run_pure, Result.andThen_ok]
      rw [bounds2_ok (kl := kl) (kh := kh) hh hl h0 h1 h2]
      simp only [Result.andThen_ok]
      rw [run_size hie, cells_of hie]
      rfl
    rcases bndx_ok h with ⟨hi0, h2⟩ | ⟨kh, b, hi0, h2⟩ <;> rcases bndx_ok h2 with ⟨lo0, h3⟩ | ⟨kl, a, lo0, h3⟩
    · exact main _ _ .i64 .i64 (.inl ⟨hi0, rfl⟩) (.inl ⟨lo0, rfl⟩) h3
    · exact main _ _ kl .i64 (.inl ⟨hi0, rfl⟩) (.inr lo0) h3
    · exact main _ _ .i64 kh (.inr hi0) (.inl ⟨lo0, rfl⟩) h3
    · exact main _ _ kl kh (.inr hi0) (.inr lo0) h3
  · rename_i e base n c km m hu
    split at h
    · rename_i kh b
      cases hie : P.info? e with
      | none => rw [hie] at h; exact h.elim
      | some ie =>
      rw [hie] at h
      have h : (bndx lo 0 fun a => (0 ≤ a ∧ a ≤ b ∧ b ≤ m ∧ m ≤ (c : Int)) ∧
        K.val (.slice (if m.toNat = a.toNat then base else base.map (·.add (a.toNat * P.cellsOf e))) (b.toNat - a.toNat) (m.toNat - a.toNat))) := h
      have main : ∀ (a : Int) (kl : IntKind), ((lo = none ∧ a = 0) ∨ lo = some (.int kl a)) →
          (0 ≤ a ∧ a ≤ b ∧ b ≤ m ∧ m ≤ (c : Int)) ∧ K.val (.slice (if m.toNat = a.toNat then base else base.map (·.add (a.toNat * P.cellsOf e))) (b.toNat - a.toNat) (m.toNat - a.toNat)) →
          Ways P K (do pure (.value (← Instr.sliceAt t (.slice base n c) lo (some (.int kh b)) (some (.int km m))))) := by
        intro a kl hl hx
        obtain ⟨⟨h0, h1, h2, h3⟩, hk⟩ := hx
        refine .val hk fun w => wrap_ok ?_
        unfold Instr.sliceAt
        rw [Sem.run_bind, run_und hu, Result.andThen_ok]
        simp only
        unfold Instr.slice
        rw [Sem.run_bind, run_und hu, Result.andThen_ok]
        simp only [Sem.run_bind, Sem.run_pure, Result.andThen_ok]
        rw [bounds3_ok (kl := kl) (kh := kh) (km := km) hl h0 h1 h2 h3]
        simp only [Result.andThen_ok]
        rw [run_size hie, cells_of hie]
        rfl
      rcases bndx_ok h with ⟨lo0, h3⟩ | ⟨kl, a, lo0, h3⟩
      · exact main _ .i64 (.inl ⟨lo0, rfl⟩) h3
      · exact main _ kl (.inr lo0) h3
    · exact h.elim
  · exact .sem h fun _ => rfl

theorem iax_ok {t : TypeId} {x i : Value} (h : iax P t x i K) : Ways P K (do pure (.value (← Instr.indexAt t x i))) := by
  unfold iax at h
  split at h
  · rename_i e base n c ki i hu
    cases hie : P.info? e with
    | none => rw [hie] at h; exact h.elim
    | some ie =>
    rw [hie] at h
    obtain ⟨⟨h0, h1⟩, hk⟩ : (0 ≤ i ∧ i < (n : Int)) ∧ vSome base fun a => K.val (.pointer (some (a.add (i.toNat * P.cellsOf e)))) := h
    unfold vSome at hk
    split at hk
    · rename_i a
      refine .val hk fun w => wrap_ok ?_
      unfold Instr.indexAt
      simp only [asIntOf, Sem.run_bind, Sem.run_pure, Result.andThen_ok, run_und hu]
      rw [if_pos ⟨h0, h1⟩]
      simp only [Sem.run_bind, Sem.run_pure, Result.andThen_ok, run_size hie, cells_of hie]
    · exact hk.elim
  · rename_i n e a ki i hu
    cases hie : P.info? e with
    | none => rw [hie] at h; exact h.elim
    | some ie =>
    rw [hie] at h
    obtain ⟨⟨h0, h1⟩, hk⟩ : (0 ≤ i ∧ i < (n : Int)) ∧ vSome a fun a => K.val (.pointer (some (a.add (i.toNat * P.cellsOf e)))) := h
    unfold vSome at hk
    split at hk
    case h_2 => exact hk.elim
    refine .val hk fun w => wrap_ok ?_
    unfold Instr.indexAt
    simp only [asIntOf, Instr.sureAddr, Sem.run_bind, Sem.run_pure, Result.andThen_ok, run_und hu]
    rw [if_pos ⟨h0, h1⟩]
    simp only [Sem.run_bind, Sem.run_pure, Result.andThen_ok, run_size hie, cells_of hie]
  · exact .sem h fun _ => rfl

theorem ixx_ok {t : TypeId} {x i : Value} (h : ixx P t x i K) : Ways P K (do pure (.value (← Instr.index t x i))) := by
  unfold ixx at h
  split at h
  · rename_i s ki i hu
    obtain ⟨⟨h0, h1⟩, hk⟩ := h
    refine .val hk fun w => wrap_ok ?_
    unfold Instr.index
    simp only [asIntOf, Sem.run_bind, Sem.run_pure, Result.andThen_ok, run_und hu]
    have hb : s[i.toNat]? = some (s.data.toList.getD i.toNat 0) := by
      have hlt : i.toNat < s.size := by rw [Lib.size_eq]; omega
      rw [getElem?_pos s i.toNat hlt]
      have : s.data.toList[i.toNat]? = some s[i.toNat] := by
        rw [List.getElem?_eq_getElem (by rw [← Lib.size_eq]; exact hlt)]
        rfl
      rw [List.getD_eq_getElem?_getD, this]
      rfl
    rw [if_pos h0, hb]
    rfl
  · exact .sem h fun _ => rfl

theorem fax_ok {st : TypeId} {x : Value} {f : Nat} (h : fax P st x f K) : Ways P K (do pure (.value (← Instr.fieldAt st x f))) := by
  unfold fax at h
  split at h
  · rename_i fs a hu
    unfold vSome at h
    split at h
    case h_2 => exact h.elim
    rename_i a
    split at h
    · rename_i fd hf
      have hf : fs[f]? = some fd := by rw [← hf, Array.getElem?_toList]
      unfold cond at h
      split at h
      · exact .sem h fun _ => rfl
      · rename_i hz
        cases hi : P.info? fd.type with
        | none => simp [Program.cellsOf, hi, Nat.beq] at hz
        | some i =>
        refine .val h fun w => wrap_ok ?_
        unfold Instr.fieldAt
        simp only [Sem.run_bind, run_und hu, Result.andThen_ok, hf, Instr.sureAddr, Sem.run_pure]
        unfold fieldPlace
        simp only [Sem.run_bind, run_size hi, Result.andThen_ok]
        have hne : ¬ i.size = 0 := by
          intro e
          rw [cells_of hi, e] at hz
          simp at hz
        rw [if_neg hne]
        rfl
    · exact h.elim
  · exact .sem h fun _ => rfl
end Go.Sh
