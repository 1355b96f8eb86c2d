import Derived.Test.YtakddeombdgdgaaGreatShJ
namespace Go.Sh
open Go
set_option linter.unusedVariables false
inductive Kd where
  | i (k : IntKind)
  | b
  | s
  | l
  | p
  | m
  | a
  | r
inductive Sl where
  | o (i : Nat) (k : Kd)
  | g (i : Nat) (ks : List Kd)
@[reducible] def KT (R : Type) : Kd -> Type
  | .i _ => Int -> R
  | .b => Bool -> R
  | .s => List UInt8 -> R
  | .l => Option Addr -> Nat -> Nat -> R
  | .p => Option Addr -> R
  | .m => Option Nat -> R
  | .a => Addr -> R
  | .r => Value -> R
@[reducible] def KTs (R : Type) : List Kd -> Type
  | [] => R
  | k :: ks => KT (KTs R ks) k
@[reducible] def TK : List Sl -> Type
  | [] => H -> Prop
  | .o _ k :: l => KT (TK l) k
  | .g _ ks :: l => KTs (TK l) ks
def dK {R : Type} : (k : Kd) -> Value -> KT R k -> (R -> Prop) -> Prop
  | .i kd, v, K, c => vInt kd v fun x => c (K x)
  | .b, v, K, c => vBool v fun x => c (K x)
  | .s, v, K, c => vStr v fun x => c (K x)
  | .l, v, K, c => vSlice v fun b n m => c (K b n m)
  | .p, v, K, c => vPtr v fun x => c (K x)
  | .m, v, K, c => vMap v fun x => c (K x)
  | .a, v, K, c => vAddr v fun x => c (K x)
  | .r, v, K, c => c (K v)
def dKs {R : Type} : (ks : List Kd) -> List Value -> KTs R ks -> (R -> Prop) -> Prop
  | [], l, K, c => unnil l (c K)
  | k :: ks, l, K, c => uncons l fun e t => dK k e K fun K' => dKs ks t K' c
def dL (g : Env) (h : H) : (l : List Sl) -> TK l -> Prop
  | [], K => K h
  | .o i k :: l, K => dK k (g.v i) K fun K' => dL g h l K'
  | .g i ks :: l, K => vAgg (g.v i) fun t => dKs ks t K fun K' => dL g h l K'
def DK (l : List Sl) (K : TK l) (g : Env) (h : H) : Prop := nilDs g.ds (dL g h l K)
def eK {R : Type} : (k : Kd) -> KT R k -> (R -> Value -> Prop) -> Prop
  | .i kd, K, c => ∀ {x : Int}, c (K x) (.int kd x)
  | .b, K, c => ∀ {x : Bool}, c (K x) (.bool x)
  | .s, K, c => ∀ {x : List UInt8}, c (K x) (S x)
  | .l, K, c => ∀ {b : Option Addr} {n m : Nat}, c (K b n m) (.slice b n m)
  | .p, K, c => ∀ {x : Option Addr}, c (K x) (.pointer x)
  | .m, K, c => ∀ {x : Option Nat}, c (K x) (.map x)
  | .a, K, c => ∀ {x : Addr}, c (K x) (.pointer (some x))
  | .r, K, c => ∀ {x : Value}, c (K x) x
def eKs {R : Type} : (ks : List Kd) -> KTs R ks -> (R -> List Value -> Prop) -> Prop
  | [], K, c => c K []
  | k :: ks, K, c => eK k K fun K' v => eKs ks K' fun K'' vs => c K'' (v :: vs)
def EL (g : Env) (h : H) (p : Prop) : (l : List Sl) -> TK l -> HL -> Prop
  | [], K, acc => Held g acc -> K h -> p
  | .o i k :: l, K, acc => eK k K fun K' v => EL g h p l K' ((i, v) :: acc)
  | .g i ks :: l, K, acc => eKs ks K fun K' vs => EL g h p l K' ((i, .agg ⟨vs⟩) :: acc)
theorem dK_el {R : Type} {c : R -> Prop} {d : R -> Value -> Prop} : ∀ {k : Kd} {v : Value} {K : KT R k}, dK k v K c -> eK k K d -> ∃ K', c K' /\ d K' v
  | .i kd, v, K, hq, f => by obtain ⟨x, rfl, q⟩ := vInt_ok hq; exact ⟨_, q, f⟩
  | .b, v, K, hq, f => by obtain ⟨x, rfl, q⟩ := vBool_ok hq; exact ⟨_, q, f⟩
  | .s, v, K, hq, f => by
    have hq : vStr v fun x => c (K x) := hq
    obtain ⟨x, rfl, q⟩ := vStr_ok hq
    exact ⟨_, q, f⟩
  | .l, v, K, hq, f => by obtain ⟨b, n, m, rfl, q⟩ := vSlice_ok hq; exact ⟨_, q, f⟩
  | .p, v, K, hq, f => by obtain ⟨x, rfl, q⟩ := vPtr_ok hq; exact ⟨_, q, f⟩
  | .m, v, K, hq, f => by obtain ⟨x, rfl, q⟩ := vMap_ok hq; exact ⟨_, q, f⟩
  | .a, v, K, hq, f => by obtain ⟨x, rfl, q⟩ := vAddr_ok hq; exact ⟨_, q, f⟩
  | .r, v, K, hq, f => ⟨_, hq, f⟩
theorem dKs_el {R : Type} {c : R -> Prop} : ∀ {ks : List Kd} {d : R -> List Value -> Prop} {t : List Value} {K : KTs R ks}, dKs ks t K c -> eKs ks K d -> ∃ K', c K' /\ d K' t
  | [], d, t, K, hq, f => by obtain ⟨rfl, q⟩ := unnil_ok hq; exact ⟨K, q, f⟩
  | k :: ks, d, t, K, hq, f => by
    obtain ⟨e, t2, rfl, q⟩ := uncons_ok hq
    obtain ⟨K1, q1, f1⟩ := dK_el q f
    exact dKs_el (d := fun K'' vs => d K'' (e :: vs)) q1 f1
theorem dL_el {g : Env} {h : H} {p : Prop} : ∀ {l : List Sl} {K : TK l} {acc : HL}, dL g h l K -> Held g acc -> EL g h p l K acc -> p
  | [], K, acc, hq, ha, f => f ha hq
  | .o i k :: l, K, acc, hq, ha, f => by
    obtain ⟨K1, q, f1⟩ := dK_el hq f
    exact dL_el (acc := (i, g.v i) :: acc) q ⟨rfl, ha⟩ f1
  | .g i ks :: l, K, acc, hq, ha, f => by
    obtain ⟨t, e, q⟩ := vAgg_ok hq
    obtain ⟨K1, q1, f1⟩ := dKs_el q f
    exact dL_el (acc := (i, .agg ⟨t⟩) :: acc) q1 ⟨e, ha⟩ f1
theorem DK_el {l : List Sl} {K : TK l} {g : Env} {h : H} {p : Prop} (hq : DK l K g h) (f : EL g h p l K []) : p := dL_el (nilDs_ok hq).2 (nilDs_ok hq).1 f
theorem Held.snoc {g : Env} {i : Nat} {v : Value} : ∀ {l : HL}, Held g l -> g.v i = v -> Held g (l ++ [(i, v)])
  | [], h, e => ⟨e, h⟩
  | _ :: _, h, e => ⟨h.1, Held.snoc h.2 e⟩
@[reducible] def sqF (l : List Sl) (F : TK l -> Prop) (k : TK l) : Prop := F k
def KF : (l : List Sl) -> TK l
  | [] => fun _ => False
  | .o _ k :: l => kf k (KF l)
  | .g _ ks :: l => kfs ks (KF l)
where
  kf {R : Type} : (k : Kd) -> R -> KT R k
    | .i _, r => fun _ => r
    | .b, r => fun _ => r
    | .s, r => fun _ => r
    | .l, r => fun _ _ _ => r
    | .p, r => fun _ => r
    | .m, r => fun _ => r
    | .a, r => fun _ => r
    | .r, r => fun _ => r
  kfs {R : Type} : (ks : List Kd) -> R -> KTs R ks
    | [], r => r
    | k :: ks, r => kf k (kfs ks r)
theorem eK_kf {R : Type} {r : R} {d : R -> Value -> Prop} : ∀ {k : Kd}, (∀ v, d r v) -> eK k (KF.kf k r) d
  | .i _, f => f _
  | .b, f => f _
  | .s, f => f _
  | .l, f => f _
  | .p, f => f _
  | .m, f => f _
  | .a, f => f _
  | .r, f => f _
theorem eKs_kf {R : Type} {r : R} : ∀ {ks : List Kd} {d : R -> List Value -> Prop}, (∀ v, d r v) -> eKs ks (KF.kfs ks r) d
  | [], d, f => f _
  | k :: ks, d, f => eK_kf fun v => eKs_kf fun vs => f _
theorem EL_kf {g : Env} {h : H} {p : Prop} : ∀ {l : List Sl} {acc : HL}, EL g h p l (KF l) acc
  | [], acc => fun _ hf => hf.elim
  | .o i k :: l, acc => eK_kf fun v => EL_kf
  | .g i ks :: l, acc => eKs_kf fun v => EL_kf
def LP (l : List Sl) (B : TK l -> TK l) : Nat -> TK l
  | 0 => KF l
  | N + 1 => B (LP l B N)
@[reducible] def lpF (l : List Sl) (B : TK l -> TK l) (A : TK l -> Prop) : Prop := ∃ M, A (LP l B M)
section
variable {ro : Option Nat} {P : Program} {n : Nat} {Q : XPost} {g : Env} {h : H} {c : Code} {N R : Env -> H -> Prop} {X : Nat -> Env -> H -> Prop} {acc : HL} {l : List Sl}
theorem lf {A : Prop} (hg : Held g acc) (hS : A) (he : A = wpx ro P n c Q (setL ⟨g.v, []⟩ acc) h := by kernel_rfl) (hm : P.follows .mixedOrders = true := by kernel_rfl) (hd : drawOK P c = true := by kernel_rfl) : wpC ro P n c Q g h :=
  leafN hm hd hg hS he
theorem sq {F : TK l -> Prop} {k : TK l} (hg : Held g acc) (hS : sqF l F k) (next : ∀ {g : Env} {h : H}, EL g h (wpC ro P n (cSnd c) (QX N R X) g h) l k [])
    (hF : F = fun K => wpx ro P n (cFst c) (QX (DK l K) R X) (setL ⟨g.v, []⟩ acc) h := by kernel_rfl) (hc : c = .seq (cFst c) (cSnd c) := by kernel_rfl) (hm : P.follows .mixedOrders = true := by kernel_rfl) (hd : drawOK P (cFst c) = true := by kernel_rfl) :
    wpC ro P n c (QX N R X) g h :=
  seqN (N' := DK l k) hc (leafN hm hd hg hS (congrFun hF k)) fun hq => DK_el hq next
theorem sc {F : TK l -> Prop} {k : TK l} (hS : sqF l F k) (first : F k -> wpC ro P n (cFst c) (QX (DK l k) R X) g h) (next : ∀ {g : Env} {h : H}, EL g h (wpC ro P n (cSnd c) (QX N R X) g h) l k [])
    (hc : c = .seq (cFst c) (cSnd c) := by kernel_rfl) : wpC ro P n c (QX N R X) g h :=
  seqN (N' := DK l k) hc (first hS) fun hq => DK_el hq next
theorem bl {b : Nat} (hx : wpC ro P n (cFst c) (QX N R (exX b N X)) g h) (hc : c = .block b (cFst c) := by kernel_rfl) : wpC ro P n c (QX N R X) g h := blockN hc hx
theorem so (hx : wpC ro P n (cFst c) (QX N R X) g h) (hc : c = .scope (cFst c) := by kernel_rfl) : wpC ro P n c (QX N R X) g h := scopeN hc hx
theorem cn {i : Nat} {b : Bool} {A B : Prop} (hg : Held g acc) (hS : cond b A B) (hx : Held g (acc ++ [(i, .bool true)]) -> A -> wpC ro P n (cFst c) Q g h) (hy : Held g (acc ++ [(i, .bool false)]) -> B -> wpC ro P n (cSnd c) Q g h)
    (hv : (setL ⟨g.v, []⟩ acc).v i = .bool b := by kernel_rfl) (hi : Nat.blt i n = true := by kernel_rfl) (hc : c = .cond (.tmp i) (cFst c) (cSnd c) := by kernel_rfl) : wpC ro P n c Q g h := by
  rw [setL_eq hg] at hv
  exact condN hc hi hv hS (fun hA e => hx (hg.snoc (e ▸ hv)) hA) fun hB e => hy (hg.snoc (e ▸ hv)) hB
theorem lp {B : TK l -> TK l} {A : TK l -> Prop} (hg : Held g acc) (hS : lpF l B A) (body : ∀ {K : TK l} {g : Env} {h : H}, EL g h (wpC ro P n (cFst c) (QX (DK l K) R X) g h) l (B K) [])
    (hA : A = fun K => DK l K (setL ⟨g.v, []⟩ acc) h := by kernel_rfl) (hc : c = .loop (cFst c) := by kernel_rfl) : wpC ro P n c (QX N R X) g h := by
  subst hA
  obtain ⟨M, hS⟩ := hS
  rw [setL_eq hg] at hS
  exact loopN (I := fun N => DK l (LP l B N)) hc (fun hq => DK_el hq EL_kf) (fun hq => DK_el hq body) M hS
end
def idx : Nat -> List Value -> HL
  | _, [] => []
  | i, v :: l => (i, v) :: idx (i + 1) l
theorem held_idx {args : List Value} : ∀ {l : List Value} {i : Nat}, args.drop i = l -> Held (env0 args) (idx i l)
  | [], i, e => rfl
  | v :: l, i, e => by
    refine ⟨?_, held_idx (i := i + 1) ?_⟩
    · show args.getD i undef = v
      have h1 : args[i]? = some v := by
        have := congrArg (fun l => l[0]?) e
        simpa using this
      rw [List.getD_eq_getElem?_getD, h1]; rfl
    · have := congrArg (List.drop 1) e
      simpa [List.drop_drop, Nat.add_comm] using this
@[reducible] def cF (l : List Sl) (F : TK l -> Prop) (k : TK l) : Prop := F k
theorem rt {P : Program} {n : Nat} {g : Env} {h : H} {K : Value -> H -> Prop} {A : Prop} {acc : HL} {rs : List ResultVar} (hg : Held g acc) (hS : A) (he : A = retX P n rs K .normal (setL ⟨g.v, []⟩ acc) h := by kernel_rfl) : retX P n rs K .normal g h := retN hg hS he
theorem cl {P : Program} {f : FuncId} {fn : Func} {args : List Value} {h : H} {K : Value -> H -> Prop} {l : List Sl} {F : TK l -> Prop} {k : TK l} (hf : P.funcs[f]? = some fn) (hS : cF l F k)
    (hx : ∀ {g : Env}, Held g (idx 0 args) -> F k -> wpC none P fn.ntmps (bodyOf fn) (QX (DK l k) (DK l k) noX) g h) (hr : ∀ {g : Env} {h : H}, EL g h (retX P fn.ntmps fn.results.toList K .normal g h) l k [])
    (hb : fn.body = some (bodyOf fn) := by kernel_rfl) (hn : Nat.ble args.length fn.ntmps = true := by kernel_rfl) : HCalls P f ⟨args⟩ h K :=
  callsN hf hb hn (hx (held_idx rfl) hS) fun hq => DK_el hq hr
end Go.Sh
