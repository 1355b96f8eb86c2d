/- utf: the library's DecodeRune over bytes. No condition but that the library's tables hold what they hold. -/
import Derived.Test.YtodponooeepilaaDoorTxA
import Derived.Test.YtodponooeepilaaDoorTxB
import Derived.Test.YtodponooeepilaaDoorUtH
import Derived.Test.YtodponooeepilaaDoorUfB
import Derived.Laws.BitsLemmas
import Derived.Lib.DecodeNEq
import Derived.Shelf.Unicode.DecodeSlow
namespace Go.Proofs
open Go Go.Sh
set_option linter.unusedVariables false
set_option linter.unusedSimpArgs false
set_option maxRecDepth 100000

theorem shl_k {P : Program} {t : TypeId} {x y : Operand} {k : IntKind} {a : Int} {n : Nat} {h : H} {K : Value → H → Prop} (hn : n ≤ k.bits) (hk : K (.int k (k.wrap (a * 2 ^ n))) h) : SemH P (binS .shl t x y (.int k a) (.int .u64 (n : Int))) h K := fun w hw =>
  ⟨.int k (k.wrap (a * 2 ^ n)), w, by
    have e : min ((n : Int).toNat) k.bits = n := by rw [Int.toNat_natCast]; omega
    unfold binS
    rw [Sem.run_bind, eqGuard_int, Result.andThen_ok]
    show (Op.shift .shl k a .u64 (n : Int)).run P w = _
    unfold Op.shift
    rw [if_neg (by omega), e]
    rfl, Outer.refl w, by rw [hw]; exact hk⟩
theorem shr_k {P : Program} {t : TypeId} {x y : Operand} {k : IntKind} {a : Int} {n : Nat} {h : H} {K : Value → H → Prop} (hn : n ≤ k.bits) (hk : K (.int k (a.fdiv (2 ^ n))) h) : SemH P (binS .shr t x y (.int k a) (.int .u64 (n : Int))) h K := fun w hw =>
  ⟨.int k (a.fdiv (2 ^ n)), w, by
    have e : min ((n : Int).toNat) k.bits = n := by rw [Int.toNat_natCast]; omega
    unfold binS
    rw [Sem.run_bind, eqGuard_int, Result.andThen_ok]
    show (Op.shift .shr k a .u64 (n : Int)).run P w = _
    unfold Op.shift
    rw [if_neg (by omega), e]
    rfl, Outer.refl w, by rw [hw]; exact hk⟩
theorem wrap32 {x : Int} (h0 : 0 ≤ x) (h1 : x < 2147483648) : IntKind.wrap .i32 x = x := wrap_in ⟨by show (-2147483648 : Int) ≤ x; omega, by show x ≤ (2147483647 : Int); omega⟩
theorem rng32 {x : Int} (h0 : -2147483648 ≤ x) (h1 : x ≤ 2147483647) : Rng .i32 x := ⟨h0, h1⟩
/-- the library's two tables -/
def U8 (h : H) : Prop := (∀ c, c < 256 → cell h ⟨0, c, none⟩ = some (.int .u8 (Lib.firstT c))) ∧ ∀ i, i < 16 → cell h ⟨1, 2 * i, none⟩ = some (.int .u8 (Lib.accLo i)) ∧ cell h ⟨1, 2 * i + 1, none⟩ = some (.int .u8 (Lib.accHi i))
theorem U8.kb {h h' : H} (u : U8 h) (k : KB h h') : U8 h' :=
  ⟨fun c hc => (KB.w k).cell (cell_lt (u.1 c hc)) (u.1 c hc), fun i hi => ⟨(KB.w k).cell (cell_lt (u.2 i hi).1) (u.2 i hi).1, (KB.w k).cell (cell_lt (u.2 i hi).2) (u.2 i hi).2⟩⟩
theorem U8.tabs {h : H} (u : U8 h) {w : World} (hw : w.heap = h) : Lib.Utf8Tabs 0 1 w :=
  ⟨fun c hc => by rw [cell_eq, hw]; exact u.1 c hc, fun i hi => ⟨by rw [cell_eq, hw]; exact (u.2 i hi).1, by rw [cell_eq, hw]; exact (u.2 i hi).2⟩⟩
theorem adAdd (g j : Nat) : (Ad g).add j = ⟨g, j, none⟩ := by unfold Addr.add; split <;> simp_all
theorem adAdd2 (g j k : Nat) : ((Ad g).add j).add k = ⟨g, j + k, none⟩ := by rw [add_add, adAdd]
theorem or6 {x y : Nat} (hx : x % 64 = 0) (h1 : x < 2147483648) (hy : y < 64) : bits .or .i32 (x : Int) (y : Int) = ((x + y : Nat) : Int) := by rw [i32_or6 _ _ (by omega) (by omega) (by omega) (by omega) (by omega)]; omega
theorem or12 {x y : Nat} (hx : x % 4096 = 0) (h1 : x < 2147483648) (hy : y < 4096) : bits .or .i32 (x : Int) (y : Int) = ((x + y : Nat) : Int) := by rw [i32_or12 _ _ (by omega) (by omega) (by omega) (by omega) (by omega)]; omega
theorem or18 {x y : Nat} (hx : x % 262144 = 0) (h1 : x < 2147483648) (hy : y < 262144) : bits .or .i32 (x : Int) (y : Int) = ((x + y : Nat) : Int) := by rw [i32_or18 _ _ (by omega) (by omega) (by omega) (by omega) (by omega)]; omega
theorem and7 {x : Nat} (h : x < 256) : bits .and .u8 (x : Int) 7 = ((x % 8 : Nat) : Int) := by rw [u8_and7 _ (by omega) (by omega)]; omega
theorem and15 {x : Nat} (h : x < 256) : bits .and .u8 (x : Int) 15 = ((x % 16 : Nat) : Int) := by rw [u8_and15 _ (by omega) (by omega)]; omega
theorem and31 {x : Nat} (h : x < 256) : bits .and .u8 (x : Int) 31 = ((x % 32 : Nat) : Int) := by rw [u8_and31 _ (by omega) (by omega)]; omega
theorem and63 {x : Nat} (h : x < 256) : bits .and .u8 (x : Int) 63 = ((x % 64 : Nat) : Int) := by rw [u8_and63 _ (by omega) (by omega)]; omega
theorem shlN {x m : Nat} (h : x * 2 ^ m < 2147483648) : IntKind.wrap .i32 ((x : Int) * 2 ^ m) = ((x * 2 ^ m : Nat) : Int) := by
  have e : (x : Int) * 2 ^ m = ((x * 2 ^ m : Nat) : Int) := by push_cast; rfl
  rw [e, wrap32 (by omega) (by omega)]
-- (decG: UfB)
section
variable {A : Nat → Prop} {h : H} {b : Option Addr} {n c : Nat} {l : Bs} {K : Value → H → Prop}
theorem slow_calls (u : U8 h) (r : Row elB A h b n c l) (hk : ∀ h', KB h h' → K (.tuple ⟨[.int .i32 ((decG l).1 : Int), .int .i64 ((decG l).2 : Int)]⟩) h') : HCalls Tryd.prog 38 ⟨[.slice b n c]⟩ h K := by
  have hn := r.len
  have fin : ∀ (v : Nat × Nat) h', decG l = v → KB h h' → K (.tuple ⟨[.int .i32 (v.1 : Int), .int .i64 (v.2 : Int)]⟩) h' := fun v h' e k => by rw [← e]; exact hk h' k
  refine Sx.unicode_utf8_decodeRuneSlow.ok _ _ _ _ _ (spl (fun e => fin (65533, 0) h ?_ (KB.refl h)) fun e => r.idx (by decide) (by omega) rfl fun a0 i0 A0 => ldU A0 ⟨⟨by omega, ?_⟩, (Lib.firstT (l[(0 : Int).toNat]'i0).toNat : Int), ?_, ?_⟩)
  · unfold decG; rw [if_pos (List.eq_nil_of_length_eq_zero (by omega))]
  · have := u8_lt (l[(0 : Int).toNat]'i0); omega
  · rw [adAdd, Int.toNat_natCast, Nat.mul_one]; exact u.1 _ (u8_lt _)
  have hne : l ≠ [] := by intro e2; subst e2; simp at hn; omega
  have hd : decG l = Lib.decodeN l.length (l[(0 : Int).toNat]'i0).toNat (l.getD 1 0).toNat (l.getD 2 0).toNat (l.getD 3 0).toNat := by
    unfold decG
    rw [if_neg hne]
    unfold dec
    rw [getD_get (i := 0) i0]; rfl
  have hx := u8_lt (l[(0 : Int).toNat]'i0)
  have h1 := u8_lt (l.getD 1 0)
  have h2 := u8_lt (l.getD 2 0)
  have h3 := u8_lt (l.getD 3 0)
  generalize hb0 : (l[(0 : Int).toNat]'i0).toNat = x at hd hx
  have hX : Lib.firstT x < 240 ∨ Lib.firstT x = 240 ∨ Lib.firstT x = 241 := by rcases Lib.firstT_cases x with e | e | e | e | e | e | e | e | e <;> omega
  have hlt : Lib.firstT x < 256 := by omega
  rcases hX with hX | hX | hX
  · have hs := Lib.slow_eq l.length x (l.getD 1 0).toNat (l.getD 2 0).toNat (l.getD 3 0).toNat (by omega) h1 h2 h3 hX
    rw [← hs] at hd
    generalize hF : Lib.firstT x = X at *
    have hsz : 2 ≤ X % 8 ∧ X % 8 ≤ 4 := by rw [← hF]; rw [← hF] at hX; rcases Lib.firstT_cases x with e | e | e | e | e | e | e | e | e <;> rw [e] <;> omega
    refine splF (by omega) (condF ?_)
    show Rng .i64 (bits .and .u8 (X : Int) 7) ∧ _
    rw [and7 hlt]
    refine ⟨rng64 (by omega) (by omega), shr_k (n := 4) (by decide) (vIntMk ?_)⟩
    have e16 : (X : Int).fdiv (2 ^ 4) = ((X / 16 : Nat) : Int) := by
      rw [Int.fdiv_eq_ediv_of_nonneg _ (by decide)]; omega
    rw [e16]
    obtain ⟨c1, c2⟩ := u.2 (X / 16) (by omega)
    rw [Nat.mul_comm] at c1 c2
    refine ⟨⟨by omega, by omega⟩, (Lib.accLo (X / 16) : Int), by rw [adAdd2, Int.toNat_natCast]; exact c1, (Lib.accHi (X / 16) : Int), by rw [adAdd2, Int.toNat_natCast]; exact c2, newx_var fun a h1' v1 k1 ea es => stL_var0 v1 (Nat.le_refl _) fun h2' v2 k2 s2 => ?_⟩
    have k02 : KB h h2' := KB.step k1 k2 (by omega)
    have r2 := r.kb k02
    have err : Lib.slowN l.length x (l.getD 1 0).toNat (l.getD 2 0).toNat (l.getD 3 0).toNat (X % 8) (Lib.accLo (X / 16)) (Lib.accHi (X / 16)) = (65533, 1) → K (.tuple ⟨[.int .i32 65533, .int .i64 1]⟩) h2' := fun e => fin (65533, 1) h2' (by rw [hd, e]) k02
    have g1 : ∀ hi : 1 < l.length, l.getD 1 0 = l[(1 : Int).toNat]'hi := fun hi => getD_get hi
    have g2 : ∀ hi : 2 < l.length, l.getD 2 0 = l[(2 : Int).toNat]'hi := fun hi => getD_get hi
    have g3 : ∀ hi : 3 < l.length, l.getD 3 0 = l[(3 : Int).toNat]'hi := fun hi => getD_get hi
    refine spl (fun e1 => err (by unfold Lib.slowN; rw [if_pos (by omega)])) fun e1 => r2.idx (by decide) (by omega) rfl fun a1 i1 A1 => ldU A1 ?_
    rw [← g1 i1]
    generalize (l.getD 1 0).toNat = y1 at *
    refine ⟨_, v2.cell 0 rfl, spl (fun e2 => err (by unfold Lib.slowN; rw [if_neg (by omega), if_pos (by omega)])) fun e2 => ⟨_, v2.cell 1 rfl, spl (fun e3 => err (by unfold Lib.slowN; rw [if_neg (by omega), if_pos (by omega)])) fun e3 => spl (fun e4 => ?_) fun e4 => r2.idx (by decide) (by omega) rfl fun a2 i2 A2 => ldU A2 ?_⟩⟩
    · rw [and31 hx, and63 h1]
      refine ⟨rng32 (by omega) (by omega), shl_k (n := 6) (by decide) (vIntMk ⟨rng32 (by omega) (by omega), ?_⟩)⟩
      rw [shlN (by omega), or6 (by omega) (by omega) (by omega)]
      exact fin (x % 32 * 64 + y1 % 64, 2) h2' (by rw [hd]; unfold Lib.slowN; rw [if_neg (by omega), if_neg (by omega), if_pos (by omega)]) k02
    · rw [← g2 i2]
      generalize (l.getD 2 0).toNat = y2 at *
      refine spl (fun e5 => err (by unfold Lib.slowN; rw [if_neg (by omega), if_neg (by omega), if_neg (by omega), if_pos (by omega)])) fun e5 => spl (fun e6 => err (by unfold Lib.slowN; rw [if_neg (by omega), if_neg (by omega), if_neg (by omega), if_pos (by omega)])) fun e6 => spl (fun e7 => condT ?_) fun e7 => condF (r2.idx (by decide) (by omega) rfl fun a3 i3 A3 => ldU A3 ?_)
      · rw [and15 hx, and63 h1, and63 h2]
        refine ⟨rng32 (by omega) (by omega), shl_k (n := 12) (by decide) (vIntMk ⟨rng32 (by omega) (by omega), shl_k (n := 6) (by decide) (vIntMk ⟨rng32 (by omega) (by omega), ?_⟩)⟩)⟩
        rw [shlN (by omega), shlN (by omega), or12 (by omega) (by omega) (by omega), or6 (by omega) (by omega) (by omega)]
        exact fin (x % 16 * 4096 + y1 % 64 * 64 + y2 % 64, 3) h2' (by rw [hd]; unfold Lib.slowN; rw [if_neg (by omega), if_neg (by omega), if_neg (by omega), if_neg (by omega), if_pos (by omega)]) k02
      · rw [← g3 i3]
        generalize (l.getD 3 0).toNat = y3 at *
        refine spl (fun e8 => err (by unfold Lib.slowN; rw [if_neg (by omega), if_neg (by omega), if_neg (by omega), if_neg (by omega), if_neg (by omega), if_pos (by omega)])) fun e8 => spl (fun e9 => err (by unfold Lib.slowN; rw [if_neg (by omega), if_neg (by omega), if_neg (by omega), if_neg (by omega), if_neg (by omega), if_pos (by omega)])) fun e9 => ?_
        rw [and7 hx, and63 h1, and63 h2, and63 h3]
        refine ⟨rng32 (by omega) (by omega), shl_k (n := 18) (by decide) (vIntMk ⟨rng32 (by omega) (by omega), shl_k (n := 12) (by decide) (vIntMk ⟨rng32 (by omega) (by omega), shl_k (n := 6) (by decide) (vIntMk ⟨rng32 (by omega) (by omega), ?_⟩)⟩)⟩)⟩
        rw [shlN (by omega), shlN (by omega), shlN (by omega), or18 (by omega) (by omega) (by omega), or12 (by omega) (by omega) (by omega), or6 (by omega) (by omega) (by omega)]
        exact fin (x % 8 * 262144 + y1 % 64 * 4096 + y2 % 64 * 64 + y3 % 64, 4) h2' (by rw [hd]; unfold Lib.slowN; rw [if_neg (by omega), if_neg (by omega), if_neg (by omega), if_neg (by omega), if_neg (by omega), if_neg (by omega)]) k02
  · rw [Lib.ascii_eq _ _ _ _ _ hX] at hd
    rw [hX]
    refine splT (by decide) (condT ⟨rng32 (by decide) (by decide), shl_k (n := 31) (by decide) (vIntMk (shr_k (n := 31) (by decide) (vIntMk (r.idx (by decide) (by omega) rfl fun a1 i1 A1 => ldU A1 ⟨rng32 (by omega) (by have := u8_lt (l[(0 : Int).toNat]'i1); omega), ?_⟩))))⟩)
    have e2 := Utf8W.keep_byte ⟨x, hx⟩
    have e3 : (IntKind.wrap .i32 (((240 : Nat) : Int) * 2 ^ 31)).fdiv (2 ^ 31) = 0 := by decide
    rw [e3, hb0, e2]
    exact fin (x, 1) h hd (KB.refl h)
  · rw [Lib.bad_eq _ _ _ _ _ hx hX] at hd
    rw [hX]
    refine splT (by decide) (condT ⟨rng32 (by decide) (by decide), shl_k (n := 31) (by decide) (vIntMk (shr_k (n := 31) (by decide) (vIntMk (r.idx (by decide) (by omega) rfl fun a1 i1 A1 => ldU A1 ⟨rng32 (by omega) (by have := u8_lt (l[(0 : Int).toNat]'i1); omega), ?_⟩))))⟩)
    have e2 := Utf8W.drop_byte ⟨x, hx⟩
    have e3 : (IntKind.wrap .i32 (((241 : Nat) : Int) * 2 ^ 31)).fdiv (2 ^ 31) = -1 := by decide
    rw [e3, hb0, e2]
    exact fin (65533, 1) h hd (KB.refl h)
theorem decode_calls (u : U8 h) (r : Row elB A h b n c l) (hk : ∀ h', KB h h' → K (.tuple ⟨[.int .i32 ((decG l).1 : Int), .int .i64 ((decG l).2 : Int)]⟩) h') : HCalls Tryd.prog 30 ⟨[.slice b n c]⟩ h K := by
  have hn := r.len
  have slow : Sx.unicode_utf8_DecodeRune.n3 b n c (fun y2 y3 h => K (.tuple ⟨[.int .i32 y2, .int .i64 y3]⟩) h) (fun y2 y3 h => K (.tuple ⟨[.int .i32 y2, .int .i64 y3]⟩) h) h := slow_calls u r fun h' k => tupII (hk h' k)
  refine Sx.unicode_utf8_DecodeRune.ok _ _ _ _ _ ⟨1, spl (fun e => r.idx (by decide) (by omega) rfl fun a0 i0 A0 => ldU A0 (spl (fun e1 => ⟨rng32 (by omega) (by omega), ?_⟩) fun _ => slow)) fun _ => slow⟩
  have : decG l = ((l[(0 : Int).toNat]'i0).toNat, 1) := by
    unfold decG
    rw [if_neg (by intro e; subst e; simp at i0)]
    unfold dec Lib.decodeN
    rw [getD_get (i := 0) i0, if_pos]
    · rfl
    · show (l[(0 : Int).toNat]'i0).toNat < 128
      omega
  have h2 := hk h (KB.refl h)
  rw [this] at h2
  exact h2
end
end Go.Proofs
