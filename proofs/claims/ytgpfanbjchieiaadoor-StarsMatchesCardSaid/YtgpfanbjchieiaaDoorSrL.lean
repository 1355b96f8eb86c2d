/- stars: the chapter's Read; the example. No condition but that the library's tables hold what they hold. -/
import Derived.Test.YtgpfanbjchieiaaDoorSrK
namespace Go.Proofs
open Go Go.Sh
set_option linter.unusedVariables false
set_option maxRecDepth 100000
theorem cnt_stop (c : UInt8) : ∀ l : Bs, cntP c l < l.length → l.getD (cntP c l) 0 ≠ c
  | [], h => by simp [cntP] at h
  | x :: t, h => by
    unfold cntP at h ⊢
    by_cases e : x = c
    · rw [if_pos e] at h ⊢
      have := cnt_stop c t (by simpa using h)
      simpa using this
    · rw [if_neg e]; simpa using e
theorem r27_n17 {x4 x15 : Addr} {Kn : Addr → Addr → H → Prop} {Kr : Addr → Bool → H → Prop} {h : H} (x11 x12 x13 x14 : Bool)
    (hx : stL (x15.add 3) [.bool (x13 && (!x14 || x11))] 0 h fun h' => stL (x15.add 4) [.bool (x14 && (!x13 || x12))] 0 h' fun h'' => Kn x4 x15 h'') : Sx.r27_Read.n17 x4 x11 x12 x13 x14 x15 true Kn Kr h := by
  cases x13 <;> cases x14 <;> cases x11 <;> cases x12 <;> exact hx
theorem r27_n11 {s : Bs} {x1 x6 : Int} {x4 : Addr} {Kn Kr : Addr → Bool → H → Prop} {h : H} (x9 x10 x11 x12 : Bool)
    (hx : Sx.r27_Read.n13 s x1 x4 x6 x11 x12 (!x10 && (!x12 || (x9 || x11))) (!x9 && (!x11 || (x10 || x12))) Kn Kr h) : Sx.r27_Read.n11 s x1 x4 x6 x9 x10 x11 x12 Kn Kr h := by
  cases x9 <;> cases x10 <;> cases x11 <;> cases x12 <;> exact hx
section
variable {h : H} {K : Value → H → Prop} {s : Bs}
theorem readR_calls {i : Int} (hi : Rng .i64 i) (hs : s.length ≤ 100000) (hk : ∀ h', KB h h' → K (.tuple ⟨[.agg ⟨runCells (readP s i).1⟩, .bool (readP s i).2]⟩) h') : HCalls Tryd.prog 8 ⟨[S s, .int .i64 i]⟩ h K := by
  obtain ⟨r1, r2⟩ := hi
  have r1 : -9223372036854775808 ≤ i := r1
  have r2 : i ≤ 9223372036854775807 := r2
  refine Sx.r27_Read.ok _ _ _ _ (newx_var (cs := runCells r0) fun a4 h1 v1 k1 e1 z1 => ?_)
  have no : ¬ starAt s i → stL a4 [(.int .u8 (0 : Int)), (.int .i64 (0 : Int)), (.int .i64 (0 : Int)), (.bool false), (.bool false)] 0 h1 fun h264 => rowK K a4 false h264 := fun hn => by
    unfold readP at hk
    rw [if_neg hn] at hk
    exact stL_var0 v1 (Nat.le_refl 5) fun h2 v2 k2 z2 => row_cells (r := r0) v2 (hk h2 (KB.step k1 k2 (by omega)))
  have yes : starAt s i → Sx.r27_Read.n3 s i a4 (rowK K) (rowK K) h1 := by
    intro hst
    unfold readP at hk
    rw [if_pos hst] at hk
    obtain ⟨q1, q2, q3⟩ := hst
    obtain ⟨j, rfl⟩ := Int.eq_ofNat_of_zero_le (show 0 ≤ i by omega)
    rw [Int.toNat_natCast] at hk q3
    have hj : j < s.length := by omega
    rw [rowP_eq] at hk
    have hcl : cntP (s.getD j 0) (s.drop j) ≤ s.length - j := by have := cnt_le (s.getD j 0) (s.drop j); rwa [List.length_drop] at this
    have hall := cnt_all (s.getD j 0) (s.drop j)
    have hstop := cnt_stop (s.getD j 0) (s.drop j)
    generalize hc : s.getD j 0 = c at *
    have hcI : List.getD s (Int.toNat (j : Int)) 0 = c := by rw [Int.toNat_natCast]; exact hc
    generalize cntP c (s.drop j) = n at *
    have hgd : ∀ k, s.getD (j + k) 0 = (s.drop j).getD k 0 := fun k => by rw [List.getD_eq_getElem?_getD, List.getD_eq_getElem?_getD, List.getElem?_drop]
    -- behind the count
    have go : Sx.r27_Read.n5 s (j : Int) a4 (n : Int) (rowK K) (rowK K) h1 := by
      have a1 := prevP_rng s j
      have b1 := nextP_rng s ((j : Int) + n)
      refine rPrev_calls (by omega) fun h2 k2 => vIntMk ⟨rng64 (by omega) (by omega), rNext_calls (by omega) fun h3 k3 => vIntMk ?_⟩
      have k13 := k2.trans k3
      clear k2 k3
      generalize prevP s j = a at *
      generalize nextP s ((j : Int) + n) = b at *
      refine rBlank_calls (vBool_mk (condK (K := fun x9 => Sx.r27_Read.n8 s (j : Int) a4 (n : Int) a b x9 (rowK K) (rowK K) h3) ?_))
      refine rBlank_calls (vBool_mk (condK (K := fun x10 => Sx.r27_Read.n9 s (j : Int) a4 (n : Int) a b _ x10 (rowK K) (rowK K) h3) ?_))
      refine rPunct_calls fun h4 k4 => vBool_mk (condK (K := fun x11 => Sx.r27_Read.n10 s (j : Int) a4 (n : Int) b _ _ x11 (rowK K) (rowK K) h4) ?_)
      refine rPunct_calls fun h5 k5 => vBool_mk (condK (K := fun x12 => Sx.r27_Read.n11 s (j : Int) a4 (n : Int) _ _ _ x12 (rowK K) (rowK K) h5) ?_)
      rw [← punct_ref, ← punct_ref]
      have k15 := (k13.trans k4).trans k5
      have k05 := k1.trans k15
      have v5 := v1.kb k15
      clear k13 k4 k5
      have hz := k15.1
      have hk : ∀ o cl h', KB h h' → (o, cl) = rowOC c.toNat (freeP b a) (freeP a b) (Tryd.punctI a) (Tryd.punctI b) → K (.tuple ⟨[.agg ⟨runCells ((c.toNat : Int), (j : Int), (n : Int), o, cl)⟩, .bool true]⟩) h' := fun o cl h' k e => by
        have := hk h' k
        rw [← e] at this
        exact this
      have fab : freeP b a = (!Tryd.blankI b && (!Tryd.punctI b || (Tryd.blankI a || Tryd.punctI a))) := rfl
      have fba : freeP a b = (!Tryd.blankI a && (!Tryd.punctI a || (Tryd.blankI b || Tryd.punctI b))) := rfl
      generalize Tryd.blankI a = x9 at *
      generalize Tryd.blankI b = x10 at *
      generalize Tryd.punctI a = x11 at *
      generalize Tryd.punctI b = x12 at *
      generalize freeP b a = x13 at *
      generalize freeP a b = x14 at *
      have h13 : Sx.r27_Read.n13 s (j : Int) a4 (n : Int) x11 x12 x13 x14 (rowK K) (rowK K) h5 := by
        have fin : ∀ a12 h6, Var h6 a12 25 (runCells ((c.toNat : Int), (j : Int), (n : Int), x13, x14)) → KB h5 h6 → h5.size ≤ a12.block → Sx.r27_Read.n14 s (j : Int) a4 x11 x12 x13 x14 a12 (rowK K) (rowK K) h6 := by
          intro a12 h6 v12 k6 hb12
          have last : ∀ (o cl : Bool) h7, (o, cl) = rowOC c.toNat x13 x14 x11 x12 → Var h7 a12 25 (runCells ((c.toNat : Int), (j : Int), (n : Int), o, cl)) → KB h5 h7 → ∃ i165, cell h7 ((a12).add 0) = some (.int .u8 i165) ∧ (∃ i166, cell h7 ((a12).add 1) = some (.int .i64 i166) ∧ (∃ i167, cell h7 ((a12).add 2) = some (.int .i64 i167) ∧ (∃ b168, cell h7 ((a12).add 3) = some (.bool b168) ∧ (∃ b169, cell h7 ((a12).add 4) = some (.bool b169) ∧ (stL a4 [(.int .u8 i165), (.int .i64 i166), (.int .i64 i167), (.bool b168), (.bool b169)] 0 h7 fun h170 => rowK K a4 true h170))))) := by
            intro o cl h7 hoc v7 k7
            exact ⟨_, v7.cell 0 rfl, _, v7.cell 1 rfl, _, v7.cell 2 rfl, _, v7.cell 3 rfl, _, v7.cell 4 rfl, stL_var0 (v5.kb k7) (Nat.le_refl 5) fun h8 v8 k8 z8 => row_cells (r := ((c.toNat : Int), (j : Int), (n : Int), o, cl)) v8 (hk o cl h8 (KB.step (k05.trans k7) k8 (by omega)) hoc)⟩
          refine ⟨⟨by omega, by omega⟩, ?_⟩
          rw [hcI]
          have st1 : ∀ (o : Bool) {K : H → Prop}, (∀ h7, Var h7 a12 25 (runCells ((c.toNat : Int), (j : Int), (n : Int), o, x14)) → KB h5 h7 → K h7) → stL (a12.add 3) [.bool o] 0 h6 K := fun o K hK => run_st3 v12 fun h7 v7 k7 z7 => hK h7 v7 (KB.step k6 k7 hb12)
          have st2 : ∀ (o cl : Bool) h7, (o, cl) = rowOC c.toNat x13 x14 x11 x12 → Var h7 a12 25 (runCells ((c.toNat : Int), (j : Int), (n : Int), o, x14)) → KB h5 h7 → stL (a12.add 4) [.bool cl] 0 h7 fun h8 => Sx.r27_Read.n15 a4 a12 (rowK K) (rowK K) h8 := fun o cl h7 hoc v7 k7 => run_st4 v7 fun h8 v8 k8 z8 => last o cl h8 hoc v8 (KB.step k7 k8 hb12)
          refine spl (fun e95 => ?_) fun e95 => condF (last x13 x14 h6 (by unfold rowOC; rw [if_neg (by omega)]) v12 k6)
          have hoc : ∀ o cl : Bool, o = (x13 && (!x14 || x11)) → cl = (x14 && (!x13 || x12)) → (o, cl) = rowOC c.toNat x13 x14 x11 x12 := fun o cl h1 h2 => by unfold rowOC; rw [if_pos (by omega), h1, h2]
          exact r27_n17 x11 x12 x13 x14 (st1 _ fun h7 v7 k7 => st2 _ _ h7 (hoc _ _ rfl rfl) v7 k7)
        have mk : ∀ (o cl : Bool) {K : Addr → H → Prop}, (∀ a12 h6, Var h6 a12 25 (runCells ((c.toNat : Int), (j : Int), (n : Int), o, cl)) → KB h5 h6 → h5.size ≤ a12.block → K a12 h6) → newx h5 ⟨[(.int .u8 (0 : Int)), (.int .i64 (0 : Int)), (.int .i64 (0 : Int)), (.bool false), (.bool false)]⟩ 25 fun a234 h235 => stL a234 [(.int .u8 ((c.toNat : Int))), (.int .i64 (j : Int)), (.int .i64 (n : Int)), (.bool o), (.bool cl)] 0 h235 fun h236 => K a234 h236 := fun o cl K hK => newx_var (cs := runCells r0) fun a12 h5 v5 k5 e5 z5 => stL_var0 v5 (Nat.le_refl 5) fun h6 v6 k6 z6 => hK a12 h6 v6 (KB.step k5 k6 (by omega)) (by omega)
        refine ⟨⟨by omega, by omega⟩, ?_⟩
        rw [hcI]
        clear fab fba
        cases x13 <;> cases x14
        · exact condF (condF (mk false false fin))
        · exact condF (condT (mk false true fin))
        · exact condT (condF (mk true false fin))
        · exact condT (condT (mk true true fin))
      subst fab; subst fba
      exact r27_n11 x9 x10 x11 x12 h13
    have loop : ∀ N k, k + N = n → Sx.r27_Read.n19_L (fun z0 z1 z4 z6 h => Sx.r27_Read.n5 z0 z1 z4 z6 (rowK K) (rowK K) h) (fun z0 z1 z4 z6 h => Sx.r27_Read.n5 z0 z1 z4 z6 (rowK K) (rowK K) h) (rowK K) (N + 1) s (j : Int) a4 (k : Int) h1 := by
      intro N
      induction N with
      | zero =>
        intro k hkn
        obtain rfl : k = n := by omega
        unfold Sx.r27_Read.n19_L
        refine ⟨rng64 (by omega) (by omega), spl (fun hlt => ⟨rng64 (by omega) (by omega), ⟨by omega, by omega⟩, ⟨by omega, by omega⟩, ?_⟩) fun hge => go⟩
        have e2 : List.getD s (Int.toNat ((j : Int) + (k : Int))) 0 = (s.drop j).getD k 0 := by rw [show ((j : Int) + (k : Int)) = ((j + k : Nat) : Int) by omega, Int.toNat_natCast]; exact hgd k
        rw [e2, hcI]
        exact splF (fun e => hstop (by rw [List.length_drop]; omega) (UInt8.toNat_inj.1 (by omega))) go
      | succ N ih =>
        intro k hkn
        unfold Sx.r27_Read.n19_L
        have e2 : List.getD s (Int.toNat ((j : Int) + (k : Int))) 0 = c := by
          rw [show ((j : Int) + (k : Int)) = ((j + k : Nat) : Int) by omega, Int.toNat_natCast, hgd k]; exact hall k (by omega)
        refine ⟨rng64 (by omega) (by omega), splT (by omega) ⟨rng64 (by omega) (by omega), ⟨by omega, by omega⟩, ⟨by omega, by omega⟩, ?_⟩⟩
        rw [e2, hcI]
        exact splT rfl ⟨rng64 (by omega) (by omega), ih (k + 1) (by omega)⟩
    exact ⟨n + 1, loop n 0 (by omega)⟩
  refine spl (fun e => no fun hh => hh.1 e) fun e => spl (fun e2 => no fun hh => hh.2.1 e2) fun e2 => ⟨⟨by omega, by omega⟩, spl (fun e3 => yes ⟨e, e2, .inl (by omega)⟩) fun e3 => ⟨⟨by omega, by omega⟩, spl (fun e4 => yes ⟨e, e2, .inr (by omega)⟩) fun e4 => no fun hh => by rcases hh.2.2 with h | h <;> omega⟩⟩
end
end Go.Proofs
