/- stars: Read of both: the walks. No condition but that the library's tables hold what they hold. -/
import Derived.Test.YtgpfanbjchieiaaDoorSrJ
namespace Go.Proofs
open Go Go.Sh
set_option linter.unusedVariables false
set_option maxRecDepth 100000
section
variable {h : H} {K : Value → H → Prop} {s : Bs}
abbrev rowK (K : Value → H → Prop) : Addr → Bool → H → Prop := fun y4 y5 h => ∃ i269, cell h ((y4).add 0) = some (.int .u8 i269) ∧ (∃ i270, cell h ((y4).add 1) = some (.int .i64 i270) ∧ (∃ i271, cell h ((y4).add 2) = some (.int .i64 i271) ∧ (∃ b272, cell h ((y4).add 3) = some (.bool b272) ∧ (∃ b273, cell h ((y4).add 4) = some (.bool b273) ∧ (K (.tuple ⟨[(.agg ⟨[(.int .u8 i269), (.int .i64 i270), (.int .i64 i271), (.bool b272), (.bool b273)]⟩), (.bool y5)]⟩) h)))))
theorem row_cells {a : Addr} {r : RunP} {b : Bool} (v : Var h a 25 (runCells r)) (hk : K (.tuple ⟨[.agg ⟨runCells r⟩, .bool b]⟩) h) :
    ∃ i269, cell h ((a).add 0) = some (.int .u8 i269) ∧ (∃ i270, cell h ((a).add 1) = some (.int .i64 i270) ∧ (∃ i271, cell h ((a).add 2) = some (.int .i64 i271) ∧ (∃ b272, cell h ((a).add 3) = some (.bool b272) ∧ (∃ b273, cell h ((a).add 4) = some (.bool b273) ∧ (K (.tuple ⟨[(.agg ⟨[(.int .u8 i269), (.int .i64 i270), (.int .i64 i271), (.bool b272), (.bool b273)]⟩), (.bool b)]⟩) h))))) :=
  ⟨_, v.cell 0 rfl, _, v.cell 1 rfl, _, v.cell 2 rfl, _, v.cell 3 rfl, _, v.cell 4 rfl, hk⟩
/-- a row's open and close -/
def rowOC (c : Nat) (l r pa pb : Bool) : Bool × Bool := if c = 95 then (l && (!r || pa), r && (!l || pb)) else (l, r)
theorem rowP_eq (s : Bs) (i : Nat) : rowP s i = (((s.getD i 0).toNat : Int), (i : Int), (cntP (s.getD i 0) (s.drop i) : Int), (rowOC (s.getD i 0).toNat (freeP (nextP s ((i : Int) + cntP (s.getD i 0) (s.drop i))) (prevP s i)) (freeP (prevP s i) (nextP s ((i : Int) + cntP (s.getD i 0) (s.drop i)))) (Tryd.punctI (prevP s i)) (Tryd.punctI (nextP s ((i : Int) + cntP (s.getD i 0) (s.drop i))))).1,
    (rowOC (s.getD i 0).toNat (freeP (nextP s ((i : Int) + cntP (s.getD i 0) (s.drop i))) (prevP s i)) (freeP (prevP s i) (nextP s ((i : Int) + cntP (s.getD i 0) (s.drop i)))) (Tryd.punctI (prevP s i)) (Tryd.punctI (nextP s ((i : Int) + cntP (s.getD i 0) (s.drop i))))).2) := by
  unfold rowP rowOC
  simp only
  split <;> rfl
theorem read2_calls {i : Int} (hi : Rng .i64 i) (u : U8 h) (ht : IsText s) (hs : s.length ≤ 100000) (hk : ∀ h', KB h h' → K (.tuple ⟨[.agg ⟨runCells (readP s i).1⟩, .bool (readP s i).2]⟩) h') : HCalls Tryd.prog 7 ⟨[S s, .int .i64 i]⟩ h K := by
  obtain ⟨r1, r2⟩ := hi
  have r1 : -9223372036854775808 ≤ i := r1
  have r2 : i ≤ 9223372036854775807 := r2
  refine Sx.stars_Read.ok _ _ _ _ (newx_var (cs := runCells r0) fun a4 h1 v1 k1 e1 z1 => ?_)
  have no : ¬ starAt s i → stL a4 [(.int .u8 (0 : Int)), (.int .i64 (0 : Int)), (.int .i64 (0 : Int)), (.bool false), (.bool false)] 0 h1 fun h264 => rowK K a4 false h264 := fun hn => by
    unfold readP at hk
    rw [if_neg hn] at hk
    exact stL_var0 v1 (Nat.le_refl 5) fun h2 v2 k2 z2 => row_cells (r := r0) v2 (hk h2 (KB.step k1 k2 (by omega)))
  have yes : starAt s i → Sx.stars_Read.n3 s i a4 (rowK K) (rowK K) h1 := by
    intro hst
    unfold readP at hk
    rw [if_pos hst] at hk
    obtain ⟨q1, q2, q3⟩ := hst
    obtain ⟨j, rfl⟩ := Int.eq_ofNat_of_zero_le (show 0 ≤ i by omega)
    rw [Int.toNat_natCast] at hk q3
    have hj : j < s.length := by omega
    rw [rowP_eq] at hk
    have hb : (s.getD j 0).toNat < 128 := by omega
    have hct := cnt_trim (s.getD j 0) (s.drop j)
    rw [List.length_drop] at hct
    have e1' : sub s (j : Int) ((j : Int) + 1) = [s.getD j 0] := by
      rw [show ((j : Int) + 1) = ((j + 1 : Nat) : Int) by omega, sub_nat, List.take_add_one, List.getElem?_eq_getElem hj, List.drop_append_of_le_length (by rw [List.length_take]; omega), List.drop_of_length_le (by rw [List.length_take]; omega), getD_get hj]; rfl
    refine ⟨rng64 (by omega) (by omega), ⟨by omega, by omega, by omega⟩, rng64 (by omega) (by omega), ⟨by omega, by omega, by omega⟩, ?_⟩
    rw [sub_full s j (by omega), e1']
    generalize hc : s.getD j 0 = c at *
    have hcI : List.getD s (Int.toNat (j : Int)) 0 = c := by rw [Int.toNat_natCast]; exact hc
    have hcl : cntP c (s.drop j) ≤ s.length - j := by have := cnt_le c (s.drop j); rwa [List.length_drop] at this
    have hprev := fun h0 => prevP_last ht hj (by rw [hc]; exact hb) h0
    refine hcalls_of (v := S (Lib.trimLeftB (s.drop j) c)) (fun w _ => Tryd.strings_TrimLeft_one ⟨⟨s.drop j⟩⟩ c hb w) (vStrMk ⟨ExtH.refl _, rng64 (by omega) (by omega), ?_⟩)
    have en : ((s.length : Int) - (j : Int)) - ((Lib.trimLeftB (s.drop j) c).length : Int) = (cntP c (s.drop j) : Int) := by omega
    rw [en]
    generalize cntP c (s.drop j) = n at *
    have a1 := prevP_rng s j
    have b1 := nextP_rng s ((j : Int) + n)
    -- behind the characters ahead and behind
    have go : ∀ h2, KB h1 h2 → Sx.stars_Read.n5 s (j : Int) a4 (n : Int) (prevP s j) (nextP s ((j : Int) + n)) (rowK K) (rowK K) h2 := by
      intro h2 k2
      generalize prevP s j = a at *
      generalize nextP s ((j : Int) + n) = b at *
      refine free_calls b1 a1 fun h3 k3 => vBool_mk ?_
      have second : ∀ x10 : Bool, x10 = freeP b a → CallV Tryd.prog 4 (.func (.func 17) ⟨[]⟩ ⟨[]⟩) ⟨[.int .i32 a, .int .i32 b]⟩ h3 fun v h' => vBool v fun b251 => cond b251 (Sx.stars_Read.n7 s (j : Int) a4 (n : Int) a b x10 true (rowK K) (rowK K) h') (Sx.stars_Read.n7 s (j : Int) a4 (n : Int) a b x10 false (rowK K) (rowK K) h') := by
        intro x10 h10
        refine free_calls a1 b1 fun h4 k4 => vBool_mk (condK (K := fun x11 => Sx.stars_Read.n7 s (j : Int) a4 (n : Int) a b x10 x11 (rowK K) (rowK K) h4) ?_)
        generalize h11 : freeP a b = x11 at *
        have v4 : Var h4 a4 25 (runCells r0) := v1.kb ((k2.trans k3).trans k4)
        have k04 := ((k1.trans k2).trans k3).trans k4
        have hz4 := k04.1
        -- the row, as it is first
        have fin : ∀ a12 h5, Var h5 a12 25 (runCells ((c.toNat : Int), (j : Int), (n : Int), x10, x11)) → KB h4 h5 → h4.size ≤ a12.block → Sx.stars_Read.n8 s (j : Int) a4 a b x10 x11 a12 (rowK K) (rowK K) h5 := by
          intro a12 h5 v12 k5 hb12
          -- at the end
          have last : ∀ (o cl : Bool) h6, (o, cl) = rowOC c.toNat x10 x11 (Tryd.punctI a) (Tryd.punctI b) → Var h6 a12 25 (runCells ((c.toNat : Int), (j : Int), (n : Int), o, cl)) → KB h4 h6 → ∃ i165, cell h6 ((a12).add 0) = some (.int .u8 i165) ∧ (∃ i166, cell h6 ((a12).add 1) = some (.int .i64 i166) ∧ (∃ i167, cell h6 ((a12).add 2) = some (.int .i64 i167) ∧ (∃ b168, cell h6 ((a12).add 3) = some (.bool b168) ∧ (∃ b169, cell h6 ((a12).add 4) = some (.bool b169) ∧ (stL a4 [(.int .u8 i165), (.int .i64 i166), (.int .i64 i167), (.bool b168), (.bool b169)] 0 h6 fun h170 => rowK K a4 true h170))))) := by
            intro o cl h6 hoc v6 k6
            refine ⟨_, v6.cell 0 rfl, _, v6.cell 1 rfl, _, v6.cell 2 rfl, _, v6.cell 3 rfl, _, v6.cell 4 rfl, stL_var0 (v4.kb k6) (Nat.le_refl 5) fun h7 v7 k7 z7 => row_cells (r := ((c.toNat : Int), (j : Int), (n : Int), o, cl)) v7 ?_⟩
            have := hk h7 (KB.step (k04.trans k6) k7 (by omega))
            rw [← h10, ← hoc] at this
            exact this
          refine ⟨⟨by omega, by omega⟩, ?_⟩
          rw [hcI]
          have st1 : ∀ (o : Bool) h6, KB h4 h6 → Var h6 a12 25 (runCells ((c.toNat : Int), (j : Int), (n : Int), x10, x11)) → ∀ {K : H → Prop}, (∀ h7, Var h7 a12 25 (runCells ((c.toNat : Int), (j : Int), (n : Int), o, x11)) → KB h4 h7 → K h7) → stL (a12.add 3) [.bool o] 0 h6 K := fun o h6 k6 v6 K hK => run_st3 v6 fun h7 v7 k7 z7 => hK h7 v7 (KB.step k6 k7 hb12)
          have st2 : ∀ (o cl : Bool) h6, KB h4 h6 → Var h6 a12 25 (runCells ((c.toNat : Int), (j : Int), (n : Int), o, x11)) → ∀ {K : H → Prop}, (∀ h7, Var h7 a12 25 (runCells ((c.toNat : Int), (j : Int), (n : Int), o, cl)) → KB h4 h7 → K h7) → stL (a12.add 4) [.bool cl] 0 h6 K := fun o cl h6 k6 v6 K hK => run_st4 v6 fun h7 v7 k7 z7 => hK h7 v7 (KB.step k6 k7 hb12)
          refine spl (fun e95 => ?_) fun e95 => condF (last x10 x11 h5 (by unfold rowOC; rw [if_neg (by omega)]) v12 k5)
          have hoc : ∀ o cl : Bool, o = (x10 && (!x11 || Tryd.punctI a)) → cl = (x11 && (!x10 || Tryd.punctI b)) → (o, cl) = rowOC c.toNat x10 x11 (Tryd.punctI a) (Tryd.punctI b) := fun o cl h1 h2 => by unfold rowOC; rw [if_pos (by omega), h1, h2]
          clear v4 k04 hz4
          cases x10 <;> cases x11
          · exact condT (condF (st1 false h5 k5 v12 fun h6 v6 k6 => condF (st2 false false h6 k6 v6 fun h7 v7 k7 => last false false h7 (hoc _ _ rfl rfl) v7 k7)))
          · exact condT (condF (st1 false h5 k5 v12 fun h6 v6 k6 => condT (condF (st2 false true h6 k6 v6 fun h7 v7 k7 => last false true h7 (hoc _ _ rfl rfl) v7 k7))))
          · exact condT (condT (condF (st1 true h5 k5 v12 fun h6 v6 k6 => condF (st2 true false h6 k6 v6 fun h7 v7 k7 => last true false h7 (hoc _ _ rfl rfl) v7 k7))))
          · refine condT (condT (condT (punct_calls a1 fun h6 k6 => vBool_mk (condB (fun ea => st1 true h6 (k5.trans k6) (v12.kb k6) fun h7 v7 k7 => condT (condT (punct_calls b1 fun h8 k8 => vBool_mk (condB (fun eb => ?_) fun eb => ?_)))) fun ea => st1 false h6 (k5.trans k6) (v12.kb k6) fun h7 v7 k7 => condT (condT (punct_calls b1 fun h8 k8 => vBool_mk (condB (fun eb => ?_) fun eb => ?_)))))))
            · exact st2 true true h8 (k7.trans k8) (v7.kb k8) fun h9 v9 k9 => last true true h9 (hoc _ _ (by rw [ea]; rfl) (by rw [eb]; rfl)) v9 k9
            · exact st2 true false h8 (k7.trans k8) (v7.kb k8) fun h9 v9 k9 => last true false h9 (hoc _ _ (by rw [ea]; rfl) (by rw [eb]; rfl)) v9 k9
            · exact st2 false true h8 (k7.trans k8) (v7.kb k8) fun h9 v9 k9 => last false true h9 (hoc _ _ (by rw [ea]; rfl) (by rw [eb]; rfl)) v9 k9
            · exact st2 false false h8 (k7.trans k8) (v7.kb k8) fun h9 v9 k9 => last false false h9 (hoc _ _ (by rw [ea]; rfl) (by rw [eb]; rfl)) v9 k9
        have mk : ∀ (o cl : Bool) {K : Addr → H → Prop}, (∀ a12 h6, Var h6 a12 25 (runCells ((c.toNat : Int), (j : Int), (n : Int), o, cl)) → KB h4 h6 → h4.size ≤ a12.block → K a12 h6) → newx h4 ⟨[(.int .u8 (0 : Int)), (.int .i64 (0 : Int)), (.int .i64 (0 : Int)), (.bool false), (.bool false)]⟩ 25 fun a234 h235 => stL a234 [(.int .u8 ((c.toNat : Int))), (.int .i64 (j : Int)), (.int .i64 (n : Int)), (.bool o), (.bool cl)] 0 h235 fun h236 => K a234 h236 := fun o cl K hK => newx_var (cs := runCells r0) fun a12 h5 v5 k5 e5 z5 => stL_var0 v5 (Nat.le_refl 5) fun h6 v6 k6 z6 => hK a12 h6 v6 (KB.step k5 k6 (by omega)) (by omega)
        refine ⟨⟨by omega, by omega⟩, ?_⟩
        rw [hcI]
        cases x10 <;> cases x11
        · exact condF (condF (mk false false fin))
        · exact condF (condT (mk false true fin))
        · exact condT (condF (mk true false fin))
        · exact condT (condT (mk true true fin))
      exact condK (K := fun x10 => CallV Tryd.prog 4 (.func (.func 17) ⟨[]⟩ ⟨[]⟩) ⟨[.int .i32 a, .int .i32 b]⟩ h3 fun v h' => vBool v fun b251 => cond b251 (Sx.stars_Read.n7 s (j : Int) a4 (n : Int) a b x10 true (rowK K) (rowK K) h') (Sx.stars_Read.n7 s (j : Int) a4 (n : Int) a b x10 false (rowK K) (rowK K) h')) (second _ rfl)
    have u1 := u.kb k1
    refine prev_calls u1 (by omega) (fun h0 => vIntMk ⟨rng64 (by omega) (by omega), next_calls u1 (by omega) fun h2 k2 => vIntMk ?_⟩) fun h0 h0' h2 k2 => vIntMk ⟨rng64 (by omega) (by omega), next_calls (u1.kb k2) (by omega) fun h3 k3 => vIntMk ?_⟩
    · have e : prevP s j = 10 := by unfold prevP; rw [if_pos h0]
      have := go h2 k2
      rw [e] at this
      exact this
    · have := go h3 (k2.trans k3)
      rw [hprev (by omega)] at this
      exact this
  refine spl (fun e => no fun hh => hh.1 e) fun e => spl (fun e2 => no fun hh => hh.2.1 e2) fun e2 => ⟨⟨by omega, by omega⟩, spl (fun e3 => yes ⟨e, e2, .inl (by omega)⟩) fun e3 => ⟨⟨by omega, by omega⟩, spl (fun e4 => yes ⟨e, e2, .inr (by omega)⟩) fun e4 => no fun hh => by rcases hh.2.2 with h | h <;> omega⟩⟩
end
end Go.Proofs
