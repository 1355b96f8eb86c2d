/- dom: what a bounded weight says of nodes. Plain. -/
import Derived.Test.YtgkaebhnamcfkaaDoP
import Derived.Test.YtgkaebhnamcfkaaDoN
namespace Go.Proofs
open Go Go.Sh
set_option linter.unusedVariables false
set_option maxRecDepth 100000
def fitsN : Nat → List NodeV → Prop
  | 0, l => l = []
  | d + 1, l => ∀ x ∈ l, fitsN d x.kids
theorem fitsN.up : ∀ {d : Nat} {l : List NodeV}, fitsN d l → fitsN (d + 1) l
  | 0, l, h => fun x hx => by
    have h : l = [] := h
    rw [h] at hx; cases hx
  | d + 1, l, h => fun x hx => (h x hx).up
theorem fitsN.le {d e : Nat} {l : List NodeV} (h : fitsN d l) (hd : d ≤ e) : fitsN e l := by
  induction hd with
  | refl => exact h
  | step _ ih => exact ih.up
theorem fitsN_nil (d : Nat) : fitsN d [] := by
  cases d with
  | zero => rfl
  | succ d => intro x hx; cases hx
theorem nodeR_fits : ∀ {d : Nat} {A : Nat → Prop} {h : H} {x : NodeV} {cs : List Value}, nodeR (d + 1) A h x cs → fitsN d x.kids
  | 0, A, h, x, cs, hR => by
    obtain ⟨ab, an, ac, kb, kn, kc, e, ra, hz, rk, _⟩ := nodeR_inv hR
    exact row_zero rk
  | d + 1, A, h, x, cs, hR => by
    obtain ⟨ab, an, ac, kb, kn, kc, e, ra, hz, rk, _⟩ := nodeR_inv hR
    intro y hy
    obtain ⟨i, hi, e⟩ := List.mem_iff_getElem.1 hy
    obtain ⟨a, _, _, cs, hR, _⟩ := rk.at' i y (by rw [List.getElem?_eq_getElem hi, e])
    exact nodeR_fits hR
theorem row_fits {d : Nat} {A : Nat → Prop} {h : H} {b : Option Addr} {n c : Nat} {l : List NodeV} (r : Row (elNode d) A h b n c l) : fitsN d l := by
  cases d with
  | zero => exact row_zero r
  | succ d =>
    intro y hy
    obtain ⟨i, hi, e⟩ := List.mem_iff_getElem.1 hy
    obtain ⟨a, _, _, cs, hR, _⟩ := r.at' i y (by rw [List.getElem?_eq_getElem hi, e])
    exact nodeR_fits hR
theorem nodeR_low : ∀ {d e : Nat} {A : Nat → Prop} {h : H} {x : NodeV} {cs : List Value}, nodeR (d + 1) A h x cs → fitsN e x.kids → nodeR (e + 1) A h x cs := by
  intro d
  induction d with
  | zero =>
    intro e A h x cs hR hf
    obtain ⟨ab, an, ac, kb, kn, kc, ec, ra, hz, rk, hz2, r1, r2, r3, r4⟩ := nodeR_inv hR
    subst ec
    refine nodeR_mk ra hz ⟨rk.len, rk.cap, rk.max, fun i y hy => ?_⟩ hz2 r1 r2 r3 r4
    rw [row_zero rk] at hy
    simp at hy
  | succ d ih =>
    intro e A h x cs hR hf
    obtain ⟨ab, an, ac, kb, kn, kc, ec, ra, hz, rk, hz2, r1, r2, r3, r4⟩ := nodeR_inv hR
    subst ec
    refine nodeR_mk ra hz ⟨rk.len, rk.cap, rk.max, fun i y hy => ?_⟩ hz2 r1 r2 r3 r4
    obtain ⟨a, ea, hA, cs, hR, hc⟩ := rk.at' i y hy
    cases e with
    | zero =>
      have hf : x.kids = [] := hf
      rw [hf] at hy; simp at hy
    | succ e => exact ⟨a, ea, hA, cs, ih hR (hf y (List.mem_of_getElem? hy)), hc⟩
theorem row_low {d e : Nat} {A : Nat → Prop} {h : H} {b : Option Addr} {n c : Nat} {l : List NodeV} (r : Row (elNode d) A h b n c l) (hf : fitsN e l) : Row (elNode e) A h b n c l := by
  refine ⟨r.len, r.cap, r.max, fun i y hy => ?_⟩
  obtain ⟨a, ea, hA, cs, hR, hc⟩ := r.at' i y hy
  cases d with
  | zero => exact hR.elim
  | succ d =>
    cases e with
    | zero =>
      have hf : l = [] := hf
      rw [hf] at hy; simp at hy
    | succ e => exact ⟨a, ea, hA, cs, nodeR_low hR (hf y (List.mem_of_getElem? hy)), hc⟩
theorem sumN_mem {α : Type} {f : α → Nat} {x : α} : ∀ {l : List α}, x ∈ l → f x ≤ sumN f l
  | y :: l, h => by
    rcases List.mem_cons.1 h with rfl | h
    · show f x ≤ f x + _; omega
    · have := sumN_mem (f := f) h
      show f x ≤ f y + sumN f l; omega
theorem sumN_len {α : Type} {f : α → Nat} : ∀ {l : List α}, (∀ x ∈ l, 1 ≤ f x) → l.length ≤ sumN f l
  | [], _ => Nat.le_refl _
  | y :: l, h => by
    have h1 := h y (List.mem_cons_self ..)
    have := sumN_len (f := f) fun x hx => h x (List.mem_cons_of_mem _ hx)
    show l.length + 1 ≤ f y + sumN f l; omega
theorem sumN_congr {α : Type} {f g : α → Nat} : ∀ {l : List α}, (∀ x ∈ l, f x = g x) → sumN f l = sumN g l
  | [], _ => rfl
  | y :: l, h => by
    have h1 := h y (List.mem_cons_self ..)
    have := sumN_congr fun x hx => h x (List.mem_cons_of_mem _ hx)
    show f y + sumN f l = g y + sumN g l; omega
theorem sumN_le {α : Type} {f g : α → Nat} : ∀ {l : List α}, (∀ x ∈ l, f x ≤ g x) → sumN f l ≤ sumN g l
  | [], _ => Nat.le_refl _
  | y :: l, h => by
    have h1 := h y (List.mem_cons_self ..)
    have := sumN_le fun x hx => h x (List.mem_cons_of_mem _ hx)
    show f y + sumN f l ≤ g y + sumN g l; omega
theorem totN_nil (d : Nat) : totN d [] = 0 := by cases d <;> rfl
theorem nodeW_eq (f : List NodeV → Nat) (x : NodeV) : nodeW f x = 1 + x.text.length / 8 + x.name.length / 8 + sumN attrW x.attrs + f x.kids := rfl
theorem totN_fit : ∀ {d e : Nat} {l : List NodeV}, fitsN d l → fitsN e l → totN d l = totN e l
  | 0, e, l, h, _ => by
    have h : l = [] := h
    rw [h, totN_nil, totN_nil]
  | d + 1, 0, l, _, h => by
    have h : l = [] := h
    rw [h, totN_nil, totN_nil]
  | d + 1, e + 1, l, h, h2 => sumN_congr fun x hx => by rw [nodeW_eq, nodeW_eq, totN_fit (h x hx) (h2 x hx)]
theorem fits_tot : ∀ {d w : Nat} {l : List NodeV}, fitsN d l → totN d l ≤ w → fitsN w l
  | 0, w, l, h, _ => by
    have h : l = [] := h
    rw [h]; exact fitsN_nil w
  | d + 1, w, l, h, hw => by
    cases w with
    | zero =>
      show l = []
      have : l.length ≤ totN (d + 1) l := sumN_len fun x _ => by rw [nodeW_eq]; omega
      exact List.eq_nil_of_length_eq_zero (by omega)
    | succ w =>
      intro x hx
      refine fits_tot (h x hx) ?_
      have h1 : nodeW (totN d) x ≤ totN (d + 1) l := sumN_mem hx
      rw [nodeW_eq] at h1
      omega
theorem attrs_len (l : List AttrP) : l.length ≤ sumN attrW l := sumN_len fun x _ => by unfold attrW; omega
theorem few_tot : ∀ {d : Nat} {l : List NodeV}, totN d l ≤ 1000000 → fewA d l
  | 0, l, _ => trivial
  | d + 1, l, h => by
    refine ⟨?_, fun x hx => ?_⟩
    · have : l.length ≤ totN (d + 1) l := sumN_len fun x _ => by rw [nodeW_eq]; omega
      omega
    · have h1 : nodeW (totN d) x ≤ totN (d + 1) l := sumN_mem hx
      rw [nodeW_eq] at h1
      have := attrs_len x.attrs
      exact ⟨by omega, few_tot (by omega)⟩
theorem flatMap_len {α : Type} {f : α → Bs} {g : α → Nat} {k : Nat} : ∀ {l : List α}, (∀ x ∈ l, (f x).length ≤ g x * k) → (l.flatMap f).length ≤ sumN g l * k
  | [], _ => Nat.zero_le _
  | y :: l, h => by
    have h1 := h y (List.mem_cons_self ..)
    have h2 := flatMap_len (f := f) fun x hx => h x (List.mem_cons_of_mem _ hx)
    rw [List.flatMap_cons, List.length_append]
    show _ ≤ (g y + sumN g l) * k
    rw [Nat.add_mul]; omega
theorem frontP_len (n : Nat) : (frontP n).length = n * 2 := Lib.repeatL_length _ n
theorem space_len (i : Int) : (spaceP i).length ≤ 5 := by
  unfold spaceP
  split
  · decide
  · split <;> decide
theorem lines_len : ∀ {d n : Nat} {l : List NodeV}, n + d ≤ 2000 → (linesL d l n).length ≤ totN d l * 10000
  | 0, _, _, _ => Nat.zero_le _
  | d + 1, n, l, hn => by
    refine flatMap_len fun x _ => ?_
    have hf := frontP_len n
    have hf1 := frontP_len (n + 1)
    have hs := space_len x.space
    have ha : (x.attrs.flatMap (attrLine (n + 1))).length ≤ sumN attrW x.attrs * 10000 := flatMap_len fun a _ => by
      unfold attrLine attrW
      simp only [List.length_append, List.length_cons, List.length_nil]
      omega
    have hk := lines_len (d := d) (n := n + 1) (l := x.kids) (by omega)
    rw [nodeW_eq]
    split
    · simp only [List.length_append, List.length_cons, List.length_nil]; omega
    · split
      · simp only [List.length_append, List.length_cons, List.length_nil]; omega
      · split
        · simp only [List.length_append, List.length_cons, List.length_nil]; omega
        · exact Nat.zero_le _
end Go.Proofs
