/- The shallow form of an operation is sound: the rest of the kinds, and all of them. No condition. -/
import Derived.Test.YtmnjhhgdhlgjfaaShC
namespace Go.Sh
open Go
set_option linter.unusedVariables false
set_option linter.unusedSimpArgs false
variable {P : Program} {ρ : Operand → Value} {o : Oper} {K : Kont} {s : Sem Next}

theorem wrap_ok2 {m : Sem Value} {v : Value} {w w' : World} (h : m.run P w = .ok v w') : (do pure (.value (← m)) : Sem Next).run P w = .ok (.value v) w' := by
  simp [Sem.run_bind, h]

theorem isAgg_run {t : TypeId} {d : TypeDesc} (h : P.underlying t = some d) (w : World) : (isAgg t).run P w = .ok (isAggD (some d)) w := by
  unfold isAgg
  rw [Sem.run_bind, run_und h, Result.andThen_ok]
  cases d <;> rfl

theorem fldx_ok {t : TypeId} {x : Value} {f : Nat} (h : fldx P t x f K) : Ways P K (do pure (.value (← Instr.field t x f))) := by
  unfold fldx at h
  split at h
  · rename_i fs cs hu
    split at h
    · rename_i fd hf
      have hf' : fs[f]? = some fd := by rw [← hf, Array.getElem?_toList]
      cases hd : P.underlying fd.type with
      | none =>
        rw [hd] at h
        exact h.elim
      | some d =>
      have hpre : ∀ w, (Instr.field t (.agg cs) f).run P w = (part fd.type cs fd.offset).run P w := fun w => by
        unfold Instr.field
        simp only [Sem.run_bind, run_und hu, Result.andThen_ok, hf', Go.asAgg, Sem.run_pure]
      rw [hd] at h
      cases hia : isAggD (some d) with
      | true =>
        rw [hia] at h
        cases hi : P.info? fd.type with
        | none => rw [hi] at h; exact h.elim
        | some i =>
        rw [hi] at h
        refine .val (v := .agg ⟨(cs.toList.take (fd.offset + P.cellsOf fd.type)).drop fd.offset⟩) h fun w => wrap_ok ?_
        rw [hpre]
        unfold part
        rw [Sem.run_bind, isAgg_run hd, Result.andThen_ok, hia]
        simp only [if_true, Sem.run_bind, run_size hi, Result.andThen_ok, Sem.run_pure]
        refine congrArg (fun v => Result.ok v w) (congrArg Value.agg ?_)
        refine Array.ext' ?_
        simp [cells_of hi, List.drop_take]
      | false =>
        rw [hia] at h
        have h : (match cs.toList[fd.offset]? with
          | some v => K.val v
          | none => False) := h
        split at h
        · rename_i v hv
          refine .val h fun w => wrap_ok ?_
          rw [hpre]
          unfold part
          rw [Sem.run_bind, isAgg_run hd, Result.andThen_ok, hia]
          have hv' : cs[fd.offset]? = some v := by rw [← hv, Array.getElem?_toList]
          simp [hv']
        · exact h.elim
    · exact h.elim
  · exact h.elim

theorem extx_ok {x : Value} {i : Nat} (h : extx x i K) : Ways P K (do pure (.value (← Instr.extract x i))) := by
  unfold extx vTup at h
  split at h
  · rename_i vs
    unfold vNth at h
    split at h
    · rename_i v hv
      refine .val h fun w => wrap_ok ?_
      have hv' : vs[i]? = some v := by rw [← hv, Array.getElem?_toList]
      simp [Instr.extract, hv']
    · exact h.elim
  · exact h.elim

theorem mapM_info {α : Type} (f : Field → α → Sem α) : True := trivial

theorem run_places {fs : List Field} (h : fs.all (fun f => (P.info? f.type).isSome) = true) (w : World) :
    (fs.mapM fun f => do pure (f.offset, ← sizeOf f.type) : Sem (List (Nat × Nat))).run P w = .ok (fs.map fun f => (f.offset, P.cellsOf f.type)) w := by
  induction fs with
  | nil => rfl
  | cons f fs ih =>
    simp only [List.all_cons, Bool.and_eq_true] at h
    obtain ⟨h1, h2⟩ := h
    cases hi : P.info? f.type with
    | none => rw [hi] at h1; cases h1
    | some i =>
    rw [List.mapM_cons]
    simp only [Sem.run_bind, run_size hi, Result.andThen_ok, Sem.run_pure, ih h2, List.map_cons, cells_of hi]

theorem run_zeroV {t : TypeId} {z : Value} (h : zeroC P t = some z) (w : World) : (zeroValue t).run P w = .ok z w := by
  unfold zeroC at h
  cases hi : P.info? t with
  | none => rw [hi] at h; cases h
  | some i =>
    rw [hi] at h
    have hz : i.zero = some z := h
    simp [zeroValue, Sem.run_bind, run_info hi, hz]

theorem bldx_ok {t : TypeId} {ps : Array (Nat × Value)} (h : bldx P t ps K) : Ways P K (do pure (.value (← Instr.build t ps))) := by
  unfold bldx at h
  split at h
  · rename_i fs z hu hz
    unfold cond at h
    split at h
    · rename_i hall
      split at h
      · rename_i cs hf
        refine .val h fun w => wrap_ok ?_
        unfold Instr.build
        rw [Sem.run_bind, run_zeroV hz, Result.andThen_ok, Sem.run_bind, run_und hu, Result.andThen_ok]
        simp only
        have hp : (fs.mapM fun f => do pure (f.offset, ← sizeOf f.type) : Sem (Array (Nat × Nat))).run P w = .ok (fs.map fun f => (f.offset, P.cellsOf f.type)) w := by
          rw [← Array.toArray_toList (xs := fs), List.mapM_toArray]
          rw [Sem.run_map, run_places hall]
          simp only [Result.andThen_ok]
          exact congrArg (fun v => Result.ok v w) (Array.ext' (by simp))
        rw [Sem.run_bind, hp, Result.andThen_ok]
        simp only [hf]
        rfl
      · exact h.elim
    · exact h.elim
  · rename_i n e z hu hz
    unfold cond at h
    split at h
    · rename_i hall
      cases hi : P.info? e with
      | none => rw [hi] at hall; cases hall
      | some i =>
      split at h
      · rename_i cs hf
        refine .val h fun w => wrap_ok ?_
        unfold Instr.build
        rw [Sem.run_bind, run_zeroV hz, Result.andThen_ok, Sem.run_bind, run_und hu, Result.andThen_ok]
        simp only
        rw [Sem.run_bind, run_size hi, Result.andThen_ok]
        rw [cells_of hi] at hf
        simp only [hf]
        rfl
      · exact h.elim
    · exact h.elim
  · exact h.elim

theorem bslx_ok {t : TypeId} {n : Nat} {ps : Array (Nat × Value)} (h : bslx P t n ps K) : Ways P K (do pure (.value (← Instr.buildSlice t n ps))) := by
  unfold bslx at h
  split at h
  · rename_i e hu
    split at h
    · rename_i i hi
      split at h
      · rename_i z hz
        unfold cond at h
        split at h
        · rename_i hle
          split at h
          · rename_i cs hf
            refine .inr (.inr (.inr (.inr (.inr (.inr (.inl ⟨cs, e, n, h, fun w => wrap_ok2 ?_⟩))))))
            unfold Instr.buildSlice
            rw [Sem.run_bind, run_und hu, Result.andThen_ok]
            simp only
            rw [Sem.run_bind, run_size hi, Result.andThen_ok]
            have hle' : ¬ n * i.size > 2 ^ 24 := by
              have := Nat.le_of_ble_eq_true hle
              omega
            rw [if_neg hle']
            have hzr : (zeroValue e).run P w = .ok z w := by
              simp [zeroValue, Sem.run_bind, run_info hi, hz]
            by_cases h0 : n * i.size = 0
            · simp only [h0, if_true, Sem.run_bind, Sem.run_pure, Result.andThen_ok]
              rw [h0] at hf
              have e0 : ∀ g : Nat → Value, (Array.range 0).map g = #[] := fun g => by simp
              rw [e0] at hf
              simp only [e0, hf]
              rfl
            · simp only [h0, if_false, Sem.run_bind, Sem.run_pure, Result.andThen_ok, hzr]
              simp only [hf]
              rfl
          · exact h.elim
        · exact h.elim
      · exact h.elim
    · exact h.elim
  · exact h.elim

theorem headV_ok {l : List Value} {k : Value → Prop} (h : headV l k) : ∃ v t, l = v :: t ∧ k v := by
  unfold headV at h
  split at h
  · exact ⟨_, _, rfl, h⟩
  · exact h.elim
theorem headT_ok {l : List TypeId} {k : TypeId → Prop} (h : headT l k) : ∃ v t, l = v :: t ∧ k v := by
  unfold headT at h
  split at h
  · exact ⟨_, _, rfl, h⟩
  · exact h.elim

theorem mmx_ok {l : List Value} {ts : Array TypeId} {ty : TypeId} {args : Array Value} {mn : Bool} (hl : args.toList = l) (h : mmx P l ts ty args mn K) :
    Ways P K (do pure (.value (← cond mn (Builtin.min_ ts ty args) (Builtin.max_ ts ty args)))) := by
  unfold mmx at h
  split at h
  · rename_i k a k' b
    split at h
    · refine .val h fun w => wrap_ok ?_
      cases mn <;> simp [Builtin.min_, Builtin.max_, hl, Builtin.min2, Builtin.max2]
    · exact h.elim
  · cases mn
    · exact .sem h fun _ => rfl
    · exact .sem h fun _ => rfl

theorem argsE {ρ : Operand → Value} {first captured : Array Value} {a : Array Operand} : (⟨first.toList ++ (amap ρ a).toList ++ captured.toList⟩ : Array Value) = (first ++ a.map ρ) ++ captured :=
  Array.ext' (by simp [amap])
theorem argsY {ρ : Operand → Value} {first : Array Value} {a : Array Operand} : (⟨first.toList ++ (amap ρ a).toList⟩ : Array Value) = first ++ a.map ρ :=
  Array.ext' (by simp [amap])
theorem callx_ok {ty : TypeId} {c : Call} (h : callx P ρ ty c K) : Ways P K (do let d ← resolve ρ c ty; invoke d.target d.args) := by
  unfold callx at h
  split at h
  · rename_i hc
    obtain ⟨t, ts, ht, h⟩ := headT_ok h
    obtain ⟨v, vs, hv, h⟩ := headV_ok h
    have ht' : c.argTypes[0]? = some t := by rw [← Array.getElem?_toList, ht]; rfl
    have hv' : (c.args.map ρ)[0]? = some v := by rw [← amap_eq, ← Array.getElem?_toList, hv]; rfl
    rw [amap_eq] at h
    refine Ways.of_run (fun w => ?_) (fun ⟨_, _, _, e⟩ => ?_) (lenx_ok (ty := ty) ht' hv' h)
    · simp [resolve, hc, invoke, builtin, amap_eq]
    · simp [resolve, hc, invoke, builtin, amap_eq]
  · rename_i hc
    refine Ways.of_run (fun w => ?_) (fun ⟨_, _, _, e⟩ => ?_) (mmx_ok (args := amap ρ c.args) rfl h)
    · simp [resolve, hc, invoke, builtin, amap_eq]
    · simp [resolve, hc, invoke, builtin, amap_eq]
  · rename_i hc
    refine Ways.of_run (fun w => ?_) (fun ⟨_, _, _, e⟩ => ?_) (mmx_ok (args := amap ρ c.args) rfl h)
    · simp [resolve, hc, invoke, builtin, amap_eq]
    · simp [resolve, hc, invoke, builtin, amap_eq]
  · rename_i b h1 h2 h3 hc
    split at h
    · rename_i m hm
      refine .sem h fun w => ?_
      cases b <;> simp [builtinS] at hm <;> subst hm <;> simp [resolve, hc, invoke, builtin, amap_eq]
    · exact h.elim
  · rename_i f hc
    unfold funx at h
    split at h
    · rename_i g first captured hf
      rw [argsE] at h
      refine Ways.of_run (fun w => ?_) (fun ⟨_, _, _, e⟩ => ?_) (enterx_ok h)
      · simp [resolve, hc, hf, Deferred.ofValue, invoke]
      · simp [resolve, hc, hf, Deferred.ofValue, invoke]
    · rename_i l first captured hf
      refine .inr (.inr (.inr (.inr (.inr (.inr (.inr (.inl ⟨l, _, h, fun w => ?_⟩)))))))
      simp [resolve, hc, hf, Deferred.ofValue, invoke, argsY]
    · exact h.elim
  · exact h.elim

theorem allocx_ok {t : TypeId} (h : allocx P t K) : Ways P K (do pure (.value (← Instr.alloc t true (.tuple #[])))) := by
  unfold allocx at h
  split at h
  · rename_i i hi
    split at h
    · rename_i z hz
      refine .inr (.inr (.inl ⟨z.cells, t, h, fun w => wrap_ok2 ?_⟩))
      have hzr : (zeroValue t).run P w = .ok z w := by simp [zeroValue, Sem.run_bind, run_info hi, hz]
      unfold Instr.alloc
      rw [Sem.run_bind, hzr, Result.andThen_ok]
      rfl
    · exact h.elim
  · exact h.elim

theorem vAddr_ok {v : Value} {k : Addr → Prop} (h : vAddr v k) : ∃ a, v = .pointer (some a) ∧ k a := by
  unfold vAddr vSome at h
  split at h
  · split at h
    · exact ⟨_, rfl, h⟩
    · exact h.elim
  · exact h.elim

/-- THE SHALLOW FORM OF AN OPERATION IS SOUND -/
theorem opl_ok (h : opl P ρ o K) : Ways P K (execOp ρ o) := by
  unfold opl at h
  unfold execOp
  split at h
  · rename_i hop; simp only [hop]; exact .val h fun _ => rfl
  · rename_i hop; simp only [hop]; exact .val h fun _ => rfl
  · rename_i hop
    simp only [hop]
    unfold vBool at h
    split at h
    · rename_i b hb
      refine .val h fun w => ?_
      rw [hb]
      cases b <;> simp [Go.asBool, Sem.run_bind]
    · exact h.elim
  · rename_i hop; simp only [hop]; exact allocx_ok h
  · rename_i t v hop
    simp only [hop]
    exact .inr (.inr (.inl ⟨_, t, h, fun w => wrap_ok2 rfl⟩))
  · rename_i t a hop
    simp only [hop]
    obtain ⟨a', ha, h⟩ := vAddr_ok h
    refine .inr (.inl ⟨t, a', h, ?_⟩)
    rw [ha]
    rfl
  · rename_i t a x hop
    simp only [hop]
    obtain ⟨a', ha, h⟩ := vAddr_ok h
    unfold cond at h
    split at h
    · rename_i hc
      simp only [Bool.and_eq_true] at hc
      obtain ⟨⟨hc1, hc2⟩, hc3⟩ := hc
      refine .inr (.inr (.inr (.inr (.inr (.inr (.inr (.inr ⟨a', _, h, hc3, fun w => ?_⟩)))))))
      cases hi : P.info? t with
      | none => rw [hi] at hc2; cases hc2
      | some i =>
      have e1 := Nat.eq_of_beq_eq_true hc1
      rw [cells_of hi, Array.length_toList] at e1
      rw [ha]
      simp only [Instr.storeAt, Instr.sureAddr, Sem.run_bind, Sem.run_pure, Result.andThen_ok, storeVar, run_size hi]
      rw [if_neg (by rw [e1]; simp)]
    · exact h.elim
  · rename_i x hop
    simp only [hop]
    obtain ⟨a', ha, h⟩ := vAddr_ok h
    rw [ha]
    exact .val h fun _ => rfl
  · rename_i hop; simp only [hop]; exact binx_ok h
  · rename_i hop; simp only [hop]; exact unx_ok h
  · rename_i s d x hop
    simp only [hop]
    cases hs : P.underlying s with
    | none => rw [hs] at h; exact h.elim
    | some ds => rw [hs] at h; exact cvx_ok h ⟨ds, hs⟩
  · rename_i hop; simp only [hop]; rw [amap_eq, amap_eq] at h; exact .val h fun _ => rfl
  · rename_i hop; simp only [hop]; exact fax_ok h
  · rename_i hop; simp only [hop]; exact iax_ok h
  · rename_i hop; simp only [hop]; exact ixx_ok h
  · rename_i hop; simp only [hop]; exact slcx_ok h
  · rename_i hop; simp only [hop]; exact fldx_ok h
  · rename_i hop; simp only [hop]; exact extx_ok h
  · rename_i hop; simp only [hop]; exact callx_ok h
  · rename_i hop; simp only [hop]; rw [amap_eq] at h; exact bldx_ok h
  · rename_i hop; simp only [hop]; rw [amap_eq] at h; exact bslx_ok h
  · rename_i hop; simp only [hop]; exact .sem h fun _ => rfl
  · rename_i hop; simp only [hop]; exact .sem h fun _ => rfl
  · rename_i hop; simp only [hop]; exact .sem h fun _ => rfl
  · rename_i hop; simp only [hop]; exact .semU h fun _ => rfl
  · rename_i hop; simp only [hop]; exact .semU h fun _ => rfl
  · rename_i hop; simp only [hop]; exact .sem h fun _ => rfl
  · rename_i hop; simp only [hop]; exact .sem h fun _ => rfl
  · rename_i hop; simp only [hop]; exact .semU h fun _ => rfl
  · rename_i hop; simp only [hop]; exact .sem h fun _ => rfl
  · exact h.elim
end Go.Sh
