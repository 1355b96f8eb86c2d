/- Bytes and characters in memory: a text's bytes, a text's characters, and back. No condition. -/
import Derived.Test.YtpkicfcnhgnejaaDoorHmG
import Derived.Test.YtpkicfcnhgnejaaDoorUtD
import Derived.Laws.IdiomStrings
import Derived.Laws.Cover4
namespace Go.Sh
open Go Go.Proofs
set_option linter.unusedVariables false
set_option linter.unusedSimpArgs false
variable {P : Program}

theorem push_at (h : H) (o : Obj) : (h.push o)[h.size]? = some o := by simp
/-- bytes as elements -/
def elB : El UInt8 where
  sz := 1
  R := fun _ _ x cs => cs = [.int .u8 (x.toNat : Int)]
  len := fun _ _ _ _ h => by rw [h]; rfl
  one := fun _ _ _ _ h v hv => by rw [h] at hv; simp at hv; subst hv; rfl
  keep := fun _ _ _ _ _ _ h _ _ => h
  pos := by decide
theorem flatB : Flat elB := fun _ _ _ _ _ _ h => h
theorem At.byte {A : Nat → Prop} {h : H} {a : Addr} {x : UInt8} (hA : At elB A h a x) : cell h a = some (.int .u8 (x.toNat : Int)) := by
  obtain ⟨h1, cs, e, h4⟩ := hA
  cases e
  exact h4 0 _ rfl
theorem ldU {A : Nat → Prop} {h : H} {a : Addr} {x : UInt8} {K : Int → Prop} (hA : At elB A h a x) (hk : K (x.toNat : Int)) : ∃ i, cell h a = some (.int .u8 i) ∧ K i := ⟨_, hA.byte, hk⟩
theorem encB {A : Nat → Prop} {h : H} : ∀ (l : List UInt8), Enc elB A h l (l.map fun x => Value.int .u8 (x.toNat : Int))
  | [] => rfl
  | x :: l => ⟨[.int .u8 (x.toNat : Int)], _, rfl, rfl, encB l⟩
theorem encI {k : IntKind} {A : Nat → Prop} {h : H} : ∀ (l : List Int), (∀ x ∈ l, Rng k x) → Enc (elInt k) A h l (l.map fun x => Value.int k x)
  | [], _ => rfl
  | x :: l, hr => ⟨[.int k x], _, rfl, ⟨rfl, hr x (by simp)⟩, encI l fun y hy => hr y (by simp [hy])⟩
/-- numbers that are bytes -/
theorem Row.bytes {A : Nat → Prop} {h : H} {b : Option Addr} {n c : Nat} {l : List Int} (r : Row (elInt .u8) A h b n c l) : ∃ s : List UInt8, Row elB A h b n c s ∧ l = s.map fun x => (x.toNat : Int) := by
  have hr : ∀ x ∈ l, 0 ≤ x ∧ x < 256 := fun x hx => by
    obtain ⟨i, hi, e⟩ := List.mem_iff_getElem.1 hx
    obtain ⟨a, _, hA⟩ := r.at' i x (by rw [List.getElem?_eq_getElem hi, e])
    have h2 : Rng .u8 x := hA.int.2
    obtain ⟨h1, h2⟩ := h2
    have h1 : (0 : Int) ≤ x := h1
    have h2 : x ≤ (255 : Int) := h2
    omega
  have e : l = (l.map fun x => UInt8.ofNat x.toNat).map fun x => (x.toNat : Int) := by
    rw [List.map_map]
    conv => lhs; rw [← List.map_id l]
    refine List.map_congr_left fun x hx => ?_
    have := hr x hx
    simp
    omega
  refine ⟨_, ⟨by rw [List.length_map]; exact r.len, r.cap, r.max, fun i x hx => ?_⟩, e⟩
  rw [List.getElem?_map] at hx
  cases hl : l[i]? with
  | none => rw [hl] at hx; cases hx
  | some y =>
    rw [hl] at hx
    cases hx
    obtain ⟨a, e1, hA⟩ := r.at' i y hl
    have hy := hr y (List.mem_of_getElem? hl)
    refine ⟨a, e1, hA.1, [.int .u8 y], ?_, fun j v hv => ?_⟩
    · show [Value.int .u8 y] = [.int .u8 ((UInt8.ofNat y.toNat).toNat : Int)]
      congr 2
      simp; omega
    · cases j with
      | zero => cases hv; exact hA.int.1
      | succ j => simp at hv
theorem Row.cellB {A : Nat → Prop} {h : H} {b : Option Addr} {n c : Nat} {l : List UInt8} (r : Row elB A h b n c l) {j : Nat} (hj : j < l.length) : ∃ a, b = some a ∧ cell h (a.add j) = some (.int .u8 (l[j].toNat : Int)) := by
  obtain ⟨a, e, hA⟩ := r.at' j _ (List.getElem?_eq_getElem hj)
  have := hA.byte
  rw [show j * elB.sz = j from Nat.mul_one j] at this
  exact ⟨a, e, this⟩
theorem Row.cellI {k : IntKind} {A : Nat → Prop} {h : H} {b : Option Addr} {n c : Nat} {l : List Int} (r : Row (elInt k) A h b n c l) {j : Nat} (hj : j < l.length) : ∃ a, b = some a ∧ cell h (a.add j) = some (.int k l[j]) := by
  obtain ⟨a, e, hA⟩ := r.at' j _ (List.getElem?_eq_getElem hj)
  have := hA.int.1
  rw [show j * (elInt k).sz = j from Nat.mul_one j] at this
  exact ⟨a, e, this⟩

/-- 'string(b)' of bytes -/
theorem strOf_R {src dst e : TypeId} (hs : P.underlying src = some (.slice e)) (he : P.underlying e = some (.int .u8)) (hd : P.underlying dst = some .string) {A : Nat → Prop} {h : H} {b : Option Addr} {n c : Nat} {l : List UInt8}
    (r : Row elB A h b n c l) {K : Value → Prop} (hk : K (S l)) : SemR P (convert src dst (.slice b n c)) h K := by
  have hn := r.len
  subst hn
  refine ⟨S l, hk, fun w hw => ?_⟩
  cases hb : b with
  | none =>
    have : l = [] := by
      cases l with
      | nil => rfl
      | cons x l => obtain ⟨a, e, _⟩ := r.cellB (j := 0) (by simp); rw [hb] at e; cases e
    subst this
    rw [run_convert_bytes_string w src dst e none _ c hs he hd]
    simp [Conv.bytesToString]
    rfl
  | some a =>
    exact run_convert_bytes_back w src dst e a c l hs he hd fun j hj => by
      obtain ⟨a', e1, e2⟩ := r.cellB hj
      rw [hb] at e1
      cases e1
      rw [cell_eq]; exact hw.cell e2
theorem strOf_k {src dst e : TypeId} (hs : P.underlying src = some (.slice e)) (he : P.underlying e = some (.int .u8)) (hd : P.underlying dst = some .string) {A : Nat → Prop} {h : H} {b : Option Addr} {n c : Nat} {l : List UInt8}
    (r : Row elB A h b n c l) {K : Value → H → Prop} (hk : K (S l) h) : SemH P (convert src dst (.slice b n c)) h K := (strOf_R hs he hd r (K := fun v => K v h) hk).h
/-- '[]byte(s)' -/
theorem bytesOf_k {src dst e : TypeId} (hs : P.underlying src = some .string) (hd : P.underlying dst = some (.slice e)) (he : P.underlying e = some (.int .u8)) {h : H} {s : List UInt8} (hl : s.length ≤ maxLen)
    {K : Value → H → Prop} (hk : ∀ b c h', Row elB (fun k => h.size ≤ k ∧ k < h'.size) h' (some b) s.length c s → b.block = h.size → KB h h' → K (.slice (some b) s.length c) h') : SemH P (convert src dst (S s)) h K := by
  intro w hw
  have hsz : (⟨⟨s⟩⟩ : ByteArray).size = s.length := rfl
  refine ⟨_, _, run_bytes_of_string w src dst e ⟨⟨s⟩⟩ hs hd he, ⟨rfl, rfl, rfl⟩, ?_⟩
  rw [hsz]
  have hg1 := grownCap_ge w s.length 0 e
  have hg2 := grownCap_le_maxLen w s.length 0 e hl
  have hh : (w.drew.alloc (.cells (bytesRow ⟨⟨s⟩⟩ (grownCap w s.length 0 e)) e ((bytesRow ⟨⟨s⟩⟩ (grownCap w s.length 0 e)).size, (bytesRow ⟨⟨s⟩⟩ (grownCap w s.length 0 e)).size + 1))).heap = h.push (.cells (bytesRow ⟨⟨s⟩⟩ (grownCap w s.length 0 e)) e ((bytesRow ⟨⟨s⟩⟩ (grownCap w s.length 0 e)).size, (bytesRow ⟨⟨s⟩⟩ (grownCap w s.length 0 e)).size + 1)) := by rw [← hw]; rfl
  rw [hh, hw]
  refine hk ⟨h.size, 0, none⟩ _ _ (Row.of (encB s) (fun j v hv => ⟨_, rfl, ?_⟩) rfl hg1 hg2 fun x hx => ?_) rfl (SK.push h _)
  · have hj : j < s.length := by simpa using (List.getElem?_eq_some_iff.1 hv).1
    rw [cell_lit (push_at h _), bytesRow_at ⟨⟨s⟩⟩ _ j hj]
    rw [List.getElem?_map, List.getElem?_eq_getElem hj] at hv
    cases hv
    rfl
  · cases hx; simp
theorem flatMap_enc (zs : List Int) : ∀ r : ByteArray, (zs.foldl (fun r n => r ++ Utf8.encode n) r).data.toList = r.data.toList ++ zs.flatMap fun z => encN (runeOf z) := by
  induction zs with
  | nil => intro r; simp
  | cons z zs ih =>
    intro r
    rw [List.foldl_cons, ih, List.flatMap_cons, ← encode_enc]
    simp [ByteArray.data_append]
/-- 'string(l)' of characters -/
theorem strOfRunes_k {src dst e : TypeId} (hs : P.underlying src = some (.slice e)) (he : P.underlying e = some (.int .i32)) (hd : P.underlying dst = some .string) {A : Nat → Prop} {h : H} {b : Option Addr} {n c : Nat} {zs : List Int}
    (r : Row (elInt .i32) A h b n c zs) {K : Value → H → Prop} (hk : K (S (zs.flatMap fun z => encN (runeOf z))) h) : SemH P (convert src dst (.slice b n c)) h K := by
  intro w hw
  have hn := r.len
  subst hn
  cases hb : b with
  | none =>
    have : zs = [] := by
      cases zs with
      | nil => rfl
      | cons x l => obtain ⟨a, e, _⟩ := r.cellI (j := 0) (by simp); rw [hb] at e; cases e
    subst this
    exact ⟨S [], w, run_convert_runes_nil w src dst e _ _ hs he hd, Outer.refl w, by rw [hw]; exact hk⟩
  | some a =>
    have hr := run_convert_runes w src dst e a zs.length c zs (Nat.le_refl _) hs he hd fun j hj => by
      obtain ⟨a', e1, e2⟩ := r.cellI hj
      rw [hb] at e1
      cases e1
      rw [cell_eq, hw, e2, getD_get hj]
    refine ⟨_, w, hr, Outer.refl w, ?_⟩
    rw [hw, List.take_length]
    have e1 : (runesBytes zs) = ⟨⟨zs.flatMap fun z => encN (runeOf z)⟩⟩ := by
      have := flatMap_enc zs ByteArray.empty
      have e0 : (runesBytes zs).data.toList = zs.flatMap fun z => encN (runeOf z) := by unfold runesBytes; rw [this]; rfl
      rw [← e0]
    rw [e1]; exact hk
/-- '[]rune(s)' -/
theorem runesOf_k {src dst e : TypeId} (hs : P.underlying src = some .string) (hd : P.underlying dst = some (.slice e)) (he : P.underlying e = some (.int .i32)) {h : H} {s : List UInt8} (hl : s.length ≤ 70368744177664)
    {K : Value → H → Prop} (hk : ∀ b c h', Row (elInt .i32) (fun k => h.size ≤ k ∧ k < h'.size) h' (some b) (runesP s).length c ((runesP s).map fun (r : Nat) => (r : Int)) → b.block = h.size → KB h h' → K (.slice (some b) (runesP s).length c) h') : SemH P (convert src dst (S s)) h K := by
  intro w hw
  have hR := conv_runesP ⟨⟨s⟩⟩
  have hsz : (Conv.runesFrom ⟨⟨s⟩⟩ (⟨⟨s⟩⟩ : ByteArray).size 0 #[]).size = (runesP s).length := by rw [hR]; simp
  have hle : (runesP s).length ≤ s.length := by
    have := size_runesFrom ⟨⟨s⟩⟩ (⟨⟨s⟩⟩ : ByteArray).size 0 #[]
    rw [hsz] at this
    simpa [ByteArray.size] using this
  have hr := run_runes_of_string w src dst e ⟨⟨s⟩⟩ hs hd he (by rw [hsz]; omega)
  refine ⟨_, _, hr, ⟨rfl, rfl, rfl⟩, ?_⟩
  rw [hsz, hR]
  have hg1 := grownCap_ge w (runesP s).length 0 e
  have hg2 := grownCap_le_maxLen w (runesP s).length 0 e (by simp only [maxLen]; omega)
  generalize grownCap w (runesP s).length 0 e = cp at hg1 hg2
  have hh : ∀ cs, (w.drew.alloc (.cells cs e)).heap = h.push (.cells cs e) := fun cs => by rw [← hw]; rfl
  rw [hh, hw]
  have hrng : ∀ x ∈ (runesP s).map (fun (r : Nat) => (r : Int)), Rng .i32 x := fun x hx => by
    obtain ⟨y, hy, rfl⟩ := List.mem_map.1 hx
    have := runes_scal _ s (Nat.le_refl _) y hy
    unfold scal at this
    have h1 : (-2147483648 : Int) ≤ (y : Int) := by omega
    have h2 : (y : Int) ≤ (2147483647 : Int) := by omega
    exact ⟨h1, h2⟩
  refine hk ⟨h.size, 0, none⟩ _ _ (Row.of (encI _ hrng) (fun j v hv => ⟨_, rfl, ?_⟩) (by simp) hg1 hg2 fun x hx => ?_) rfl (SK.push h _)
  · have hj : j < (runesP s).length := by simpa using (List.getElem?_eq_some_iff.1 hv).1
    rw [cell_lit (push_at h _), Array.getElem?_append_left (by simpa using hj)]
    rw [List.map_map] at hv
    simpa using hv
  · cases hx; simp
end Go.Sh
