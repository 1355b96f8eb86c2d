import Derived.Test.YtijoifkjeamonaaGreatHc
import Derived.Test.YtijoifkjeamonaaGreatDoE
import Derived.Test.YtijoifkjeamonaaGreatOpA
import Derived.Test.YtijoifkjeamonaaGreatTxA
import Derived.Test.YtijoifkjeamonaaGreatPcD
import Derived.Test.YtijoifkjeamonaaGreatHmI
import Derived.Test.YtijoifkjeamonaaGreatTxD
import Derived.Test.YtijoifkjeamonaaGreatTxF
namespace Go.Proofs
open Go Go.Sh
set_option linter.unusedVariables false
set_option maxRecDepth 100000
inductive bZ where
 | mk (kind space:Int) (name:Bs) (attrs:List bx) (text:Bs) (kids:List bZ)
def bZ.kind:bZ->Int | .mk k _ _ _ _ _=>k
def bZ.space:bZ->Int | .mk _ s _ _ _ _=>s
def bZ.name:bZ->Bs | .mk _ _ n _ _ _=>n
def bZ.attrs:bZ->List bx | .mk _ _ _ a _ _=>a
def bZ.text:bZ->Bs | .mk _ _ _ _ t _=>t
def bZ.kids:bZ->List bZ | .mk _ _ _ _ _ k=>k
abbrev jV (x:bZ) (ab:OA) (an ac:Nat) (kb:OA) (kn kc:Nat):List Value:=[.int .u8 x.kind,.int .u8 x.space,S x.name,.slice ab an ac,S x.text,.slice kb kn kc]
def tq:Nat->(Nat->Prop)->H->bZ->List Value->Prop
 | 0,_,_,_,_=>False
 | d+1,A,h,x,cs=>∃ab an ac kb kn kc,cs=jV x ab an ac kb kn kc/\Row aW A h ab an ac x.attrs/\(ab=none->ac=0)/\
   (x.kids.length=kn/\kn<=kc/\kc<=maxLen/\∀(i:Nat) y,x.kids[i]? =some y->∃a,kb=some a/\A (a.add (i*6)).block/\∃cs,tq d A h y cs/\∀(j:Nat) v,cs[j]? =some v->cell h ((a.add (i*6)).add j)=some v)/\
   (kb=none->kc=0)/\bc .u8 x.kind/\bc .u8 x.space/\x.name.length<=maxLen/\x.text.length<=maxLen
theorem Ae:∀{d:Nat} {A:Nat->Prop} {h:H} {x:bZ} {cs:List Value},tq d A h x cs->cs.length=6
 | 0,_,_,_,_,h=>h.elim
 | d+1,_,_,_,_,⟨ab,an,ac,kb,kn,kc,e,_⟩=>by rw[e];rfl
theorem xI:∀{d:Nat} {A A':Nat->Prop} {h h':H} {x:bZ} {cs:List Value},tq d A h x cs->bY (fun k=>A k/\k<h.size) h h'->(∀k,A k->k<h.size->A' k)->tq d A' h' x cs
 | 0,_,_,_,_,_,_,h,_,_=>h.elim
 | d+1,A,A',h,h',x,cs,⟨ab,an,ac,kb,kn,kc,e,ra,hz,⟨h1,h2,h3,h4⟩,pY,r1,r2,r3,r4⟩,k,hb=>
  ⟨ab,an,ac,kb,kn,kc,e,ra.keep k hb,hz,⟨h1,h2,h3,fun i y hy=>by
   obtain⟨a,ea,hA,Rv,hR,hc⟩:=h4 i y hy
   have hl:=Ae hR
   have cP:(a.add (i*6)).block<h.size:=by
    have:=fS (hc 0 _ (List.getElem?_eq_getElem (by omega)))
    rwa[bo] at this
   exact⟨a,ea,hb _ hA cP,Rv,xI hR k hb,fun j v hv=>k.cell (by rw[bo];exact⟨hA,cP⟩) (hc j v hv)⟩⟩,pY,r1,r2,r3,r4⟩
def dC (d:Nat):El bZ where
 sz:=6
 R:=tq d
 len:=fun _ _ _ _ h=>Ae h
 one:=fun _ _ _ _ h v hv=>by
  cases d with
  | zero=>exact h.elim
  | succ d=>
   obtain⟨ab,an,ac,kb,kn,kc,e,_⟩:=h
   rw[e] at hv
   simp only[jV,List.mem_cons,List.not_mem_nil,or_false] at hv
   rcases hv with rfl | rfl | rfl | rfl | rfl | rfl <;> rfl
 keep:=fun _ _ _ _ _ _ h k hb=>xI h k hb
 pos:=by decide
theorem MY {d:Nat} {A:Nat->Prop} {h:H} {x:bZ} {ab kb:OA} {an ac kn kc:Nat} (ra:Row aW A h ab an ac x.attrs) (hz:ab=none->ac=0) (rk:Row (dC d) A h kb kn kc x.kids) (pY:kb=none->kc=0)
  (r1:bc .u8 x.kind) (r2:bc .u8 x.space) (r3:x.name.length<=maxLen) (r4:x.text.length<=maxLen):tq (d+1) A h x (jV x ab an ac kb kn kc):=
 ⟨ab,an,ac,kb,kn,kc,rfl,ra,hz,⟨rk.len,rk.cap,rk.max,fun i y hy=>by
  obtain⟨a,e,hA,cs,hR,hc⟩:=rk.gB i y hy
  exact⟨a,e,hA,cs,hR,hc⟩⟩,pY,r1,r2,r3,r4⟩
theorem zl {d:Nat} {A:Nat->Prop} {h:H} {x:bZ} {cs:List Value} (hR:tq (d+1) A h x cs):∃ab an ac kb kn kc,cs=jV x ab an ac kb kn kc/\Row aW A h ab an ac x.attrs/\(ab=none->ac=0)/\Row (dC d) A h kb kn kc x.kids/\(kb=none->kc=0)/\bc .u8 x.kind/\bc .u8 x.space/\x.name.length<=maxLen/\x.text.length<=maxLen:=by
 obtain⟨ab,an,ac,kb,kn,kc,e,ra,hz,⟨h1,h2,h3,h4⟩,pY,r1,r2,r3,r4⟩:=hR
 exact⟨ab,an,ac,kb,kn,kc,e,ra,hz,⟨h1,h2,h3,fun i y hy=>by
  obtain⟨a,e,hA,cs,hR,hc⟩:=h4 i y hy
  exact⟨a,e,hA,cs,hR,hc⟩⟩,pY,r1,r2,r3,r4⟩
theorem MZ {d:Nat} {A:Nat->Prop} {h:H} {a:Addr} {x:bZ} {K:Int->Int->Bs->OA->Nat->Nat->Bs->OA->Nat->Nat->Prop} (hA:At (dC (d+1)) A h a x)
  (hk:∀ab an ac kb kn kc,Row aW A h ab an ac x.attrs->(ab=none->ac=0)->Row (dC d) A h kb kn kc x.kids->(kb=none->kc=0)->bc .u8 x.kind->bc .u8 x.space->x.name.length<=maxLen->x.text.length<=maxLen->K x.kind x.space x.name ab an ac x.text kb kn kc):
  ∃i,cell h (a.add 0)=some (.int .u8 i)/\∃j,cell h (a.add 1)=some (.int .u8 j)/\∃s,cell h (a.add 2)=some (S s)/\∃ab an ac,cell h (a.add 3)=some (.slice ab an ac)/\∃tx,cell h (a.add 4)=some (S tx)/\∃kb kn kc,cell h (a.add 5)=some (.slice kb kn kc)/\K i j s ab an ac tx kb kn kc:=by
 obtain⟨_,cs,hR,hc⟩:=hA
 obtain⟨ab,an,ac,kb,kn,kc,rfl,ra,hz,rk,pY,r1,r2,r3,r4⟩:=zl hR
 exact⟨_,hc 0 _ rfl,_,hc 1 _ rfl,_,hc 2 _ rfl,_,_,_,hc 3 _ rfl,_,hc 4 _ rfl,_,_,_,hc 5 _ rfl,hk ab an ac kb kn kc ra hz rk pY r1 r2 r3 r4⟩
theorem Qr (d:Nat):oG Tryz.prog (dC d) 25 70 88:=js (sz:=6) (by kernel_rfl) rfl
def qS (A:Nat->Prop) (h:H) (b:OA) (n:Nat):Prop:=n=0∨∃q,b=some q/\A q.block/\∃c e,h[q.block]? =some (.cells c e (0,0))
theorem qS.keep {A A':Nat->Prop} {h h':H} {b:OA} {n:Nat} (t:qS A h b n) (k:bY (fun k=>A k/\k<h.size) h h') (hb:∀k,A k->k<h.size->A' k):qS A' h' b n:=by
 rcases t with h0 | ⟨q,e,hA,c,f,hg⟩
 ·exact Or.inl h0
 ·have cP:=(Array.getElem?_eq_some_iff.1 hg).1
  exact Or.inr ⟨q,e,hb _ hA cP,c,f,k.2 _ ⟨hA,cP⟩ _ hg rfl⟩
theorem sy {h:H} {base e sz n c:Nat} {b:OA} {xs:List Value} {A:Nat->Prop} (o:Own h base e sz b n c xs) (hA:∀q,b=some q->A q.block):qS A h b n:=by
 rcases o.is with h1 | ⟨g,cur,e1,_,hg,_⟩
 ·exact Or.inl h1.1
 ·exact Or.inr ⟨_,e1,hA _ e1,_,_,hg⟩
def uZ:Nat->(Nat->Prop)->H->bZ->List Value->Prop
 | 0,_,_,_,_=>False
 | d+1,A,h,x,cs=>∃ab an ac kb kn kc,cs=jV x ab an ac kb kn kc/\Row aW A h ab an ac x.attrs/\(ab=none->ac=0)/\
   (x.kids.length=kn/\kn<=kc/\kc<=maxLen/\∀(i:Nat) y,x.kids[i]? =some y->∃a,kb=some a/\A (a.add (i*6)).block/\∃cs,uZ d A h y cs/\∀(j:Nat) v,cs[j]? =some v->cell h ((a.add (i*6)).add j)=some v)/\
   (kb=none->kc=0)/\bc .u8 x.kind/\bc .u8 x.space/\x.name.length<=maxLen/\x.text.length<=maxLen/\qS A h ab an/\qS A h kb kn
theorem Af:∀{d:Nat} {A:Nat->Prop} {h:H} {x:bZ} {cs:List Value},uZ d A h x cs->cs.length=6
 | 0,_,_,_,_,h=>h.elim
 | d+1,_,_,_,_,⟨_,_,_,_,_,_,e,_⟩=>by rw[e];rfl
theorem xJ:∀{d:Nat} {A A':Nat->Prop} {h h':H} {x:bZ} {cs:List Value},uZ d A h x cs->bY (fun k=>A k/\k<h.size) h h'->(∀k,A k->k<h.size->A' k)->uZ d A' h' x cs
 | 0,_,_,_,_,_,_,h,_,_=>h.elim
 | d+1,A,A',h,h',x,cs,⟨ab,an,ac,kb,kn,kc,e,ra,hz,⟨h1,h2,h3,h4⟩,pY,r1,r2,r3,r4,t1,t2⟩,k,hb=>
  ⟨ab,an,ac,kb,kn,kc,e,ra.keep k hb,hz,⟨h1,h2,h3,fun i y hy=>by
   obtain⟨a,ea,hA,Rv,hR,hc⟩:=h4 i y hy
   have hl:=Af hR
   have cP:(a.add (i*6)).block<h.size:=by
    have:=fS (hc 0 _ (List.getElem?_eq_getElem (by omega)))
    rwa[bo] at this
   exact⟨a,ea,hb _ hA cP,Rv,xJ hR k hb,fun j v hv=>k.cell (by rw[bo];exact⟨hA,cP⟩) (hc j v hv)⟩⟩,pY,r1,r2,r3,r4,t1.keep k hb,t2.keep k hb⟩
def jW (d:Nat):El bZ where
 sz:=6
 R:=uZ d
 len:=fun _ _ _ _ h=>Af h
 one:=fun _ _ _ _ h v hv=>by
  cases d with
  | zero=>exact h.elim
  | succ d=>
   obtain⟨ab,an,ac,kb,kn,kc,e,_⟩:=h
   rw[e] at hv
   simp only[jV,List.mem_cons,List.not_mem_nil,or_false] at hv
   rcases hv with rfl | rfl | rfl | rfl | rfl | rfl <;> rfl
 keep:=fun _ _ _ _ _ _ h k hb=>xJ h k hb
 pos:=by decide
theorem M0 {d:Nat} {A:Nat->Prop} {h:H} {x:bZ} {ab kb:OA} {an ac kn kc:Nat} (ra:Row aW A h ab an ac x.attrs) (hz:ab=none->ac=0) (rk:Row (jW d) A h kb kn kc x.kids) (pY:kb=none->kc=0)
  (r1:bc .u8 x.kind) (r2:bc .u8 x.space) (r3:x.name.length<=maxLen) (r4:x.text.length<=maxLen) (t1:qS A h ab an) (t2:qS A h kb kn):uZ (d+1) A h x (jV x ab an ac kb kn kc):=
 ⟨ab,an,ac,kb,kn,kc,rfl,ra,hz,⟨rk.len,rk.cap,rk.max,fun i y hy=>by
  obtain⟨a,e,hA,cs,hR,hc⟩:=rk.gB i y hy
  exact⟨a,e,hA,cs,hR,hc⟩⟩,pY,r1,r2,r3,r4,t1,t2⟩
theorem HM:∀{d:Nat} {A:Nat->Prop} {h:H} {x:bZ} {cs:List Value},uZ d A h x cs->tq d A h x cs
 | 0,_,_,_,_,h=>h.elim
 | d+1,_,_,_,_,⟨ab,an,ac,kb,kn,kc,e,ra,hz,⟨h1,h2,h3,h4⟩,pY,r1,r2,r3,r4,_,_⟩=>
  ⟨ab,an,ac,kb,kn,kc,e,ra,hz,⟨h1,h2,h3,fun i y hy=>by
   obtain⟨a,ea,hA,Rv,hR,hc⟩:=h4 i y hy
   exact⟨a,ea,hA,Rv,HM hR,hc⟩⟩,pY,r1,r2,r3,r4⟩
theorem M1 {d:Nat} {A:Nat->Prop} {h:H}:∀{l:List bZ} {xs:List Value},eG (jW d) A h l xs->eG (dC d) A h l xs
 | [],_,h=>h
 | x::l,_,⟨cs,ys,e,hR,hE⟩=>⟨cs,ys,e,HM hR,M1 hE⟩
theorem M3 (d:Nat):oG Tryz.prog (jW d) 25 70 88:=js (sz:=6) (by kernel_rfl) rfl
structure ed {α:Type} (E:El α) (h:H) (base e:Nat) (b:OA) (n c:Nat) (l:List α):Prop where
 own:dY E (fun k=>base<=k/\Cy h b k) h base e b n c l
 lo:∀a,b=some a->base<=a.block
 hi:∀a,b=some a->a.block<h.size
 nil:b=none->c=0
section
variable {α:Type} {E:El α}
theorem ed.none (h:H) (base e:Nat):ed E h base e none 0 0 []:=⟨dY.nil _ _ _ _ _,(fun _ e=>by cases e),(fun _ e=>by cases e),fun _=>rfl⟩
theorem ed.kw {h h':H} {base e n c:Nat} {b:OA} {l:List α} (o:ed E h base e b n c l) (k:bY (fun k=>base<=k) h h'):ed E h' base e b n c l:=
 ⟨o.own.keep (B:=fun k=>base<=k) k (fun _ h _=>h.1) (fun k' hk Ew=>⟨hk.1,Nat.lt_of_lt_of_le Ew k.1,hk.2.2⟩) fun _ _ h _=>h,o.lo,fun a e=>Nat.lt_of_lt_of_le (o.hi a e) k.1,o.nil⟩
theorem ed.kb {h h':H} {base e n c:Nat} {b:OA} {l:List α} (o:ed E h base e b n c l) (k:KB h h'):ed E h' base e b n c l:=
 ⟨o.own.keep (B:=rX h.size) (KB.w k) (fun _ _ h=>h) (fun k' hk Ew=>⟨hk.1,Nat.lt_of_lt_of_le Ew k.1,hk.2.2⟩) fun _ _ _ h=>h,o.lo,fun a e=>Nat.lt_of_lt_of_le (o.hi a e) k.1,o.nil⟩
theorem ed.lower {h:H} {base lP e n c:Nat} {b:OA} {l:List α} (o:ed E h base e b n c l) (hb:lP<=base):ed E h lP e b n c l:=
 ⟨(o.own.keep (B:=fun _=>True) (bY.refl _ _) (fun _ _ _=>trivial) (fun k hk _=>⟨Nat.le_trans hb hk.1,hk.2⟩) fun _ _ _ _=>trivial).lower hb,fun a e=>Nat.le_trans hb (o.lo a e),o.hi,o.nil⟩
theorem ed.row {h:H} {base e n c:Nat} {b:OA} {l:List α} (o:ed E h base e b n c l):Row E (fun k=>base<=k/\k<h.size) h b n c l:=o.own.row (fun _ h=>⟨h.1,h.2.1⟩) fun g _ h hb=>⟨hb,h⟩
theorem ed.ZU {d:Nat} {h:H} {base e n c:Nat} {b:OA} {l:List bZ} (o:ed (jW d) h base e b n c l):ed (dC d) h base e b n c l:=by
 obtain⟨xs,h1,h2⟩:=o.own.own
 exact⟨⟨o.own.len,xs,h1,M1 h2⟩,o.lo,o.hi,o.nil⟩
theorem ed.append {t ty e by':Nat} {P:Program} (ap:oG P E t e by') {h:H} {sb rb:OA} {n c m k base:Nat} {l l2:List α} (o:ed E h base e sb n c l) (r:Row E (fun k=>base<=k/\Cy h sb k) h rb m k l2)
  (ll:n+m<=maxLen) (hb:(n+m)*by'<=140737488355328) (ik:base<=h.size) {K:KV}
  (hk:∀b' c' h',ed E h' base e b' (n+m) c' (l++l2)->dW h h' sb->K (.slice b' (n+m) c') h'):
  bf P (Builtin.append_ #[t,t] ty ⟨[.slice sb n c,.slice rb m k]⟩) h K:=by
 refine dY.append ap o.own r ll hb ik (fun k hk _=>hk.2.2) fun b2 c2 h' o' hg hb h0=>hk b2 c2 h' ⟨?_,?_,?_,?_⟩ hg
 ·refine o'.keep (bY.refl (fun _=>True) _) (fun _ _ _=>trivial) (fun k FH Ew=>⟨FH.1,Ew,fun x hx=>?_⟩) fun _ _ _ _=>trivial
  rcases hb with rfl | rfl
  ·exact FH.2.2 x hx
  ·cases hx
   have:=FH.2.1
   show h.size≠k
   omega
 ·intro x hx
  rcases hb with rfl | rfl
  ·exact o.lo x hx
  ·cases hx;exact ik
 ·intro x hx
  rcases hb with rfl | rfl
  ·exact Nat.lt_of_lt_of_le (o.hi x hx) hg.size
  ·obtain⟨xs,ho,_⟩:=o'.own
   rcases ho.is with h1 | ⟨g,cur,e1,_,Ue,_⟩
   ·have:=h0 h1.1
    exact Nat.lt_of_lt_of_le (o.hi x (this.1▸hx)) hg.size
   ·rw[hx] at e1;cases e1;exact(Array.getElem?_eq_some_iff.1 Ue).1
 ·intro YO
  obtain⟨xs,ho,_⟩:=o'.own
  rcases ho.is with h1 | ⟨g,cur,e1,_⟩
  ·exact h1.2
  ·rw[YO] at e1;cases e1
theorem _root_.Go.Sh.bE.behind (hf:Flat E) {h:H} {base e n c:Nat} {b:OA} {l:List α} (o:bE E h base e b n c l) {A:Nat->Prop} (hA:∀k,base<=k->k<h.size->A k):Row E A h b n c l:=by
 obtain⟨xs,h1,h2⟩:=o.own.own
 by_cases hn:n=0
 ·subst hn
  have:l=[]:=List.eq_nil_of_length_eq_zero o.own.len
  subst this
  exact⟨rfl,h1.cap,h1.max,fun i x hx=>by simp at hx⟩
 ·exact Row.of (eG.flat hf h2) h1.cells o.own.len h1.cap h1.max fun q e=>hA _ (o.lo q e) (o.hi q e)
end
def qT (ns:List ay) (id:Int):List Int:=if 0<=id then((ns[id.toNat]?).map (·.kids)).getD [] else []
def nZ (ns:List ay) (k:Int) (kids:List bZ):bZ:=
 match ns[k.toNat]? with
 | some z=>.mk z.kind z.space z.name z.attrs z.text kids
 | none=>.mk 0 0 [] [] [] []
def cT:Nat->List ay->Int->List bZ
 | 0,_,_=>[]
 | d+1,ns,id=>(qT ns id).map fun k=>nZ ns k (cT d ns k)
def Deep:Nat->List ay->Int->Prop
 | 0,_,_=>False
 | d+1,ns,id=>∀k ∈ qT ns id,Deep d ns k
theorem Deep.up:∀{d:Nat} {ns:List ay} {id:Int},Deep d ns id->Deep (d+1) ns id
 | 0,_,_,h=>h.elim
 | d+1,_,_,h=>fun k hk=>(h k hk).up
theorem Deep.mono {d d':Nat} {ns:List ay} {id:Int} (h:Deep d ns id) (hd:d<=d'):Deep d' ns id:=by
 induction hd with
 | refl=>exact h
 | step _ ih=>exact ih.up
theorem kT {ns:List ay} {j:Nat} {z:ay} (h:ns[j]? =some z):qT ns (j:Int)=z.kids:=by
 unfold qT
 rw[if_pos (by omega),Int.toNat_natCast,h];rfl
theorem D4 (rk:Nat->Nat):∀n,∃M,∀i,i<n->rk i<=M
 | 0=>⟨0,fun i h=>by omega⟩
 | n+1=>by
  obtain⟨M,hM⟩:=D4 rk n
  refine⟨M+rk n,fun i h=>?_⟩
  by_cases e:i=n
  ·subst e;omega
  ·have:=hM i (by omega);omega
theorem aV.deep {ns:List ay} (G:aV ns):∃D,∀d,D<=d->∀id:Int,Deep d ns id:=by
 obtain⟨rk,hr⟩:=G.CY
 obtain⟨M,hM⟩:=D4 rk ns.length
 have key:∀f (j:Nat),j<ns.length->M<rk j+f->Deep f ns (j:Int):=by
  intro f
  induction f with
  | zero=>intro j hj h;have:=hM j hj;omega
  | succ f ih=>
   intro j hj h k hk
   have hz:ns[j]? =some ns[j]:=List.getElem?_eq_getElem hj
   rw[kT hz] at hk
   obtain⟨m,w,rfl,hw,hp⟩:=(G.lq j _ k hz).1 hk
   have:=hr m j w hw hp
   exact ih m (dv hw) (by omega)
 refine⟨M+2,fun d hd id=>?_⟩
 have h1:Deep (M+2) ns id:=by
  intro k hk
  unfold qT at hk
  split at hk
  ·rename_i h0
   cases hz:ns[id.toNat]? with
   | none=>rw[hz] at hk;cases hk
   | some z=>
    rw[hz] at hk
    have hk:k ∈ z.kids:=hk
    obtain⟨m,w,rfl,hw,hp⟩:=(G.lq id.toNat z k hz).1 hk
    exact key (M+1) m (dv hw) (by omega)
  ·cases hk
 exact h1.mono hd
section
variable {h:H} {K:KV} {col:cd} {s i p:Nat} {t a:Addr} {ct:List Addr} {ns:List ay} {x y:ay}
theorem BN (G:aV ns):∀(d:Nat) (id:Int) {h:H} {K:KV} (T:bz h col s t ct ns) (hd:Deep d ns id)
  (hk:∀h' b n c,KB h h'->ed (jW d) h' h.size 70 b n c (cT d ns id)->K (.slice b n c) h'),
  zC 25 [.pointer (some t),.int .i64 id] h K:=by
 intro d
 induction d with
 | zero=>intro id h K T hd;exact hd.elim
 | succ d ZO=>
  intro id h K T hd hk
  have hlen:=T.len
  have It:=T.nh
  refine UQ.ok _ _ _ _ (jh T (fun hn=>cO (cN (by kernel_rfl) (ag (aF ?_)))) fun i a x e hx ha=>cO (cN (by kernel_rfl) (ag (aE ?_))))
  ·have e:cT (d+1) ns id=[]:=by
    unfold cT qT
    by_cases h0:0<=id
    ·rw[if_pos h0,List.getElem?_eq_none (by omega)];rfl
    ·rw[if_neg h0];rfl
   rw[e] at hk
   exact hk h none 0 0 (KB.refl h) (ed.none _ _ _)
  ·subst e
   obtain⟨ab,an,ac,kb,kn,kc,v,ra,hz,ok,oV⟩:=(T.nodes i x a hx ha).ex
   have dJ:=ok.len
   have hfx:=G.nh hx
   have ew:cT (d+1) ns (i:Int)=x.kids.map fun k=>nZ ns k (cT d ns k):=by
    show(qT ns (i:Int)).map _=_
    rw[kT hx]
   have hdk:∀k ∈ x.kids,Deep d ns k:=by
    have:=hd
    intro k yi
    exact this k (by rw[kT hx];exact yi)
   rw[ew] at hk
   refine aa ⟨_,_,_,v.cell 7 rfl,kn+1,?_⟩
   have key:∀N m h2 ob oc (out:List bZ),m+N=kn->KB h h2->ed (jW (d+1)) h2 h.size 70 ob m oc out->out=(x.kids.take m).map (fun k=>nZ ns k (cT d ns k))->
     UQ.F7 (fun Ge Gf Gg h=>UQ.n6 Ge Gf Gg (fun fJ fK fL h=>K (.slice fJ fK fL) h) (fun fJ fK fL h=>K (.slice fJ fK fL) h) h) (fun Ge Gf Gg h=>UQ.n6 Ge Gf Gg (fun fJ fK fL h=>K (.slice fJ fK fL) h) (fun fJ fK fL h=>K (.slice fJ fK fL) h) h) (fun fJ fK fL h=>K (.slice fJ fK fL) h) (N+1) (some t) ob m oc kb kn kc (kn:Int) (m:Int) h2:=by
    intro N
    induction N with
    | zero=>
     intro m h2 ob oc out OB k2 o2 eo
     unfold UQ.F7
     refine bX (by omega) ?_
     rw[List.take_of_length_le (by omega)] at eo
     rw[eo] at o2
     exact hk h2 ob m oc k2 o2
    | succ N ih=>
     intro m h2 ob oc out OB k2 o2 eo
     have jn:m<x.kids.length:=by omega
     unfold UQ.F7
     have Iu:fG h2 kb kn kc x.kids:=ok.keep (KB.w k2) fun q e=>ok.hi q e
     refine bQ (by omega) ((Iu.row (A:=fun _=>True) fun _ _=>trivial).bn jn rfl fun q hA=>Fx hA fun _=>?_)
     obtain⟨j,z,ej,iJ,KJ⟩:=(G.lq i x _ hx).1 (List.getElem_mem jn)
     have fY:=dv iJ
     have T2:=T.kb k2
     obtain⟨lb,lc,vt,o,yl⟩:=T2.ex
     have hdj:Deep d ns (j:Int):=by rw[<-ej];exact hdk _ (List.getElem_mem jn)
     rw[ej]
     refine aa ⟨_,_,_,vt.cell 0 rfl,?_⟩
     refine o.row.bn (i:=j) (by omega) rfl fun q2 sA=>zx sA (aa ?_)
     have TP:ct[j]? =some (ct[j]'(by omega)):=List.getElem?_eq_getElem (by omega)
     have Nj:=T2.nodes j z _ iJ TP
     obtain⟨Rx,J8,Ry,WT,Ru,WU,v2,RO,pY,Yn,OZ⟩:=Nj.ex
     have afY:=RO.len
     have hfa:=Nj.fa
     refine⟨_,v2.kG 0 rfl,_,v2.kG 1 rfl,_,v2.kG 2 rfl,_,_,_,v2.kG 3 rfl,_,v2.kG 4 rfl,_,_,_,v2.kG 5 rfl,af fun a3 h3 v3 k3 e3 s3=>aQ v3 (Nat.le_refl 6) fun h4 v4 k4 s4=>⟨_,_,_,v4.cell 3 rfl,?_⟩⟩
     have sx:KB h2 h4:=KB.step k3 k4 (by omega)
     have S6:=k2.1
     refine sR (RO.H0.keep ((KB.w sx).less fun k hk=>hk.2) (B':=fun _=>True) fun _ _ _=>trivial) pY (by omega) fun b5 c5 h5 o5 k5=>aC ?_
     have hs5:=k5.1
     refine ZO (j:Int) (T2.kb (sx.trans k5)) hdj fun h6 b6 n6 c6 k6 o6=>aC ?_
     have hs6:=k6.1
     have v6:=(v4.kb k5).kb k6
     refine ck (m:=3) (i:=0) v6 (by show 3+0+1<=6;omega) fun h7 v7 k7 s7=>ck (m:=5) (i:=0) v7 (by show 5+0+1<=6;omega) fun h8 v8 k8 s8=>?_
     have v8:Var h8 a3 70 [.int .u8 z.kind,.int .u8 z.space,S z.name,.slice b5 J8 c5,S z.text,.slice b6 n6 c6]:=v8
     refine⟨_,v8.cell 0 rfl,_,v8.cell 1 rfl,_,v8.cell 2 rfl,_,_,_,v8.cell 3 rfl,_,v8.cell 4 rfl,_,_,_,v8.cell 5 rfl,af fun a9 h9 v9 k9 e9 s9=>?_⟩
     have OS:KB h2 h8:=KB.step (KB.step ((sx.trans k5).trans k6) k7 (by omega)) k8 (by omega)
     have o9:ed (jW (d+1)) h9 h.size 70 ob m oc out:=(o2.kb OS).kb k9
     have Ia:=o2.hi
     have oa:bE aW h9 h4.size 67 b5 J8 c5 z.attrs:=(((o5.kb k6).uB k7 fE fun g hg=>by omega).uB k8 fE fun g hg=>by omega).kb k9
     have Qq:ed (jW d) h9 h5.size 70 b6 n6 c6 (cT d ns j):=((o6.kw (k7.w.less fun g (hg:h5.size<=g)=>by omega)).kw (k8.w.less fun g (hg:h5.size<=g)=>by omega)).kb k9
     have hR:uZ (d+1) (fun k=>h.size<=k/\Cy h9 ob k) h9 (.mk z.kind z.space z.name z.attrs z.text (cT d ns j)) [.int .u8 z.kind,.int .u8 z.space,S z.name,.slice b5 J8 c5,S z.text,.slice b6 n6 c6]:=
      M0 (x:=.mk z.kind z.space z.name z.attrs z.text (cT d ns j)) (oa.behind fE fun k h1 ve=>⟨by omega,ve,fun q e=>by have:=Ia q e;omega⟩) oa.nil
       (Qq.row.keep (bY.refl _ _) fun k hk hs=>⟨by have:=hk.1;omega,hs,fun q e=>by have:=Ia q e;have:=hk.1;omega⟩) Qq.nil Nj.rk Nj.rs Nj.fn Nj.ft
       (sy (Classical.choose_spec oa.own.own).1 fun q e=>⟨by have:=oa.lo q e;omega,oa.hi q e,fun q' e'=>by have:=oa.lo q e;have:=Ia q' e';omega⟩)
       (sy (Classical.choose_spec Qq.own.own).1 fun q e=>⟨by have:=Qq.lo q e;omega,Qq.hi q e,fun q' e'=>by have:=Qq.lo q e;have:=Ia q' e';omega⟩)
     have r9:Row (jW (d+1)) (fun k=>h.size<=k/\Cy h9 ob k) h9 (some a9) 1 1 [.mk z.kind z.space z.name z.attrs z.text (cT d ns j)]:=v9.vg hR ⟨by omega,v9.lt,fun q e=>by have:=Ia q e;omega⟩
     refine ed.append (M3 (d+1)) o9 r9 (by simp only[maxLen];omega) (by omega) (by omega) fun J7 On cS OD g10=>aC ⟨jt (by omega) (by omega),?_⟩
     refine ih (m+1) cS J7 On _ (by omega) ?_ OD ?_
     ·exact g10.vN ((k2.trans OS).trans k9) fun q e=>o2.lo q e
     ·rw[eo,List.take_add_one,List.getElem?_eq_getElem jn,List.map_append,ej]
      congr 1
      show [_]=[nZ ns (j:Int) _]
      unfold nZ
      rw[Int.toNat_natCast,iJ]
   exact key kn 0 h none 0 [] (by omega) (KB.refl h) (ed.none _ _ _) rfl
theorem CM (G:aV ns) (d:Nat) (id:Int) {h:H} {K:KV} (T:bz h col s t ct ns) (hd:Deep d ns id)
  (hk:∀h' b n c,KB h h'->ed (dC d) h' h.size 70 b n c (cT d ns id)->K (.slice b n c) h'):
  zC 25 [.pointer (some t),.int .i64 id] h K:=BN G d id T hd fun h' b n c k o=>hk h' b n c k o.ZU
end
theorem M4 (x y:bx):sU [S x.1,S x.2] [S y.1,S y.2]=decide (x=y):=by
 obtain⟨x1,x2⟩:=x;obtain⟨y1,y2⟩:=y
 simp only[sU,eqV,Bool.and_true]
 rw[Bool.eq_iff_iff]
 simp
theorem Vh {x y:bx} {p q:Operand} {h:H} {K:Value->Prop} (hk:K (.bool (!decide (x=y)))):ue Tryz.prog (dX .neq 67 p q (.agg ⟨[S x.1,S x.2]⟩) (.agg ⟨[S y.1,S y.2]⟩)) h K:=
 Lm (by kernel_rfl) (by kernel_rfl) (by rw[M4];exact hk)
theorem xK {α:Type} {a b:List α} (hl:a.length=b.length) (h:∀(i:Nat) (ha:i<a.length) (hb:i<b.length),a[i]=b[i]):a=b:=
 List.ext_getElem hl h
section
variable {A B:Nat->Prop} {h:H} {b b2:OA} {n c n2 c2:Nat} {K:KV}
theorem Gh {a:Addr} {m:bx} {Q:Bs->Bs->Prop} (hA:At aW A h a m) (hk:m.1.length<=maxLen->m.2.length<=maxLen->Q m.1 m.2):
  ∃s,cell h (a.add 0)=some (S s)/\∃t,cell h (a.add 1)=some (S t)/\Q s t:=
 ⟨_,by have:=hA.fst.str.1;rwa[add_zero'],_,hA.snd.str.1,hk hA.fst.str.2 hA.snd.str.2⟩
theorem ot {l l2:List bx} (r:Row aW A h b n c l) (r2:Row aW B h b2 n2 c2 l2) (hk:K (.bool (decide (l=l2))) h):
  zC 32 [.slice b n c,.slice b2 n2 c2] h K:=by
 refine Xdl.ok _ _ _ _ _ _ _ _ ?_
 have hl:=r.len
 have yl:=r2.len
 have hm:n<=maxLen:=Nat.le_trans r.cap r.max
 simp only[maxLen] at hm
 refine bh (fun hn=>⟨n+1,?_⟩) fun hn=>?_
 ·have key:∀k i,i+k=n->(∀j (h1:j<l.length) (h2:j<l2.length),j<i->l[j]=l2[j])->
    Xdl.fu (fun h=>K (.bool true) h) (fun h=>K (.bool true) h) (fun y4 h=>K (.bool y4) h) (k+1) b n c b2 n2 c2 (i:Int) h:=by
   intro k
   induction k with
   | zero=>
    intro i hi bq
    refine bX (by omega) ?_
    have:l=l2:=xK (by omega) fun j h1 h2=>bq j h1 h2 (by omega)
    rw[decide_eq_true this] at hk
    exact hk
   | succ k ih=>
    intro i hi bq
    refine bQ (by omega) (r.bn (by omega) rfl fun a hA=>Gh hA fun _ _=>r2.bn (i:=i) (by omega) rfl fun a2 sA=>Gh sA fun _ _=>Vh ?_)
    refine aR (fun hd=>?_) fun hd=>⟨jt (by omega) (by omega),ih (i+1) (by omega) fun j h1 h2 hj=>?_⟩
    ·have:l≠l2:=fun e=>by subst e;simp at hd
     rw[decide_eq_false this] at hk
     exact hk
    ·by_cases e:j<i
     ·exact bq j h1 h2 e
     ·have:j=i:=by omega
      subst this
      simpa using hd
  exact key n 0 (by omega) fun j _ _ hj=>absurd hj (Nat.not_lt_zero _)
 ·have:l≠l2:=fun e=>hn (by rw[<-hl,<-yl,e])
  rw[decide_eq_false this] at hk
  exact hk
end
noncomputable def Ag (a b:List bZ):Bool:=@decide (a=b) (Classical.propDecidable _)
theorem kv {a b:List bZ} (h:a=b):Ag a b=true:=by unfold Ag;exact @decide_eq_true (a=b) (Classical.propDecidable _) h
theorem pR {a b:List bZ} (h:a≠b):Ag a b=false:=by unfold Ag;exact @decide_eq_false (a=b) (Classical.propDecidable _) h
theorem Jb {a b:List bZ}:Ag a b=true↔a=b:=⟨fun h=>Classical.byContradiction fun hn=>(by rw[pR hn] at h;cases h),kv⟩
theorem Jc {x y:bZ} (h1:x.kind=y.kind) (h2:x.space=y.space) (h3:x.name=y.name) (h4:x.attrs=y.attrs) (h5:x.text=y.text) (h6:x.kids=y.kids):x=y:=by
 cases x;cases y
 simp only[bZ.kind,bZ.space,bZ.name,bZ.attrs,bZ.text,bZ.kids] at*
 subst h1;subst h2;subst h3;subst h4;subst h5;subst h6;rfl
theorem row_zero {A:Nat->Prop} {h:H} {b:OA} {n c:Nat} {l:List bZ} (r:Row (dC 0) A h b n c l):l=[]:=by
 cases l with
 | nil=>rfl
 | cons x l=>
  obtain⟨a,_,_,cs,hR,_⟩:=r.gB 0 x rfl
  exact hR.elim
theorem vf:∀(d:Nat) {A B:Nat->Prop} {h:H} {b b2:OA} {n c n2 c2:Nat} {K:KV} {l l2:List bZ} (r:Row (dC d) A h b n c l) (r2:Row (dC d) B h b2 n2 c2 l2) (hk:∀h',KB h h'->K (.bool (Ag l l2)) h'),
  zC 12 [.slice b n c,.slice b2 n2 c2] h K:=by
 intro d
 induction d with
 | zero=>
  intro A B h b b2 n c n2 c2 K l l2 r r2 hk
  have e1:=row_zero r
  have e2:=row_zero r2
  have hl:=r.len
  have yl:=r2.len
  subst e1;subst e2
  rw[kv rfl] at hk
  have hl:0=n:=hl
  have yl:0=n2:=yl
  refine Xn.ok _ _ _ _ _ _ _ _ (bQ (by omega) ⟨1,?_⟩)
  exact bX (by omega) (hk h (KB.refl h))
 | succ d ZO=>
  intro A B h b b2 n c n2 c2 K l l2 r r2 hk
  have hl:=r.len
  have yl:=r2.len
  have hm:n<=maxLen:=Nat.le_trans r.cap r.max
  simp only[maxLen] at hm
  refine Xn.ok _ _ _ _ _ _ _ _ (bh (fun hn=>⟨n+1,?_⟩) fun hn=>?_)
  ·have key:∀k i h1,i+k=n->KB h h1->(∀j (h1:j<l.length) (h2:j<l2.length),j<i->l[j]=l2[j])->
     Xn.fu (fun h=>K (.bool true) h) (fun h=>K (.bool true) h) (fun y4 h=>K (.bool y4) h) (k+1) b n c b2 n2 c2 (i:Int) h1:=by
    intro k
    induction k with
    | zero=>
     intro i h1 hi k1 bq
     unfold Xn.fu
     refine bX (by omega) ?_
     have:l=l2:=xK (by omega) fun j h1 h2=>bq j h1 h2 (by omega)
     have h3:=hk h1 k1
     rw[kv this] at h3
     exact h3
    | succ k ih=>
     intro i h1 hi k1 bq
     have bM:i<l.length:=by omega
     have ag4:i<l2.length:=by omega
     have no:∀h',KB h h'->l[i]≠l2[i]->K (.bool false) h':=fun h' k' bI=>by
      have h3:=hk h' k'
      rw[pR (fun e=>bI (by subst e;rfl))] at h3
      exact h3
     unfold Xn.fu
     refine bQ (by omega) ((r.kb k1).bn bM rfl fun a hA=>MZ hA fun ab an ac kb kn kc ra hz rk pY _ _ _ _=>af fun a3 h3 v3 k3 e3 s3=>aQ v3 (Nat.le_refl 6) fun h4 v4 k4 s4=>?_)
     have ov:KB h1 h4:=KB.step k3 k4 (by omega)
     refine((r2.kb k1).kb ov).bn (i:=i) ag4 rfl fun a2 sA=>MZ sA fun Rx J8 Ry WT Ru WU RO hz3 rk2 hz4 _ _ _ _=>af fun a5 h5 v5 k5 e5 s5=>aQ v5 (Nat.le_refl 6) fun h6 v6 k6 s6=>?_
     have Xq:KB h4 h6:=KB.step k5 k6 (by omega)
     have JE:KB h h6:=(k1.trans ov).trans Xq
     have v4:Var h6 a3 70 (jV l[i] ab an ac kb kn kc):=v4.kb Xq
     have v6:Var h6 a5 70 (jV l2[i] Rx J8 Ry WT Ru WU):=v6
     refine⟨_,v4.cell 0 rfl,_,v6.cell 0 rfl,bh (fun e1=>?_) fun e1=>no h6 JE fun e=>e1 (by rw[e])⟩
     refine⟨_,v4.cell 1 rfl,_,v6.cell 1 rfl,bh (fun e2=>?_) fun e2=>no h6 JE fun e=>e2 (by rw[e])⟩
     refine⟨_,v4.cell 2 rfl,_,v6.cell 2 rfl,bh (fun e3=>?_) fun e3=>no h6 JE fun e=>e3 (by rw[e])⟩
     refine⟨_,v4.cell 4 rfl,_,v6.cell 4 rfl,bh (fun e4=>?_) fun e4=>no h6 JE fun e=>e4 (by rw[e])⟩
     refine⟨_,_,_,v4.cell 3 rfl,_,_,_,v6.cell 3 rfl,ot ((ra.kb ov).kb Xq) (RO.kb Xq) (ag (aR (fun e5=>?_) fun e5=>no h6 JE fun e=>by have:=of_decide_eq_false e5;exact this (by rw[e])))⟩
     refine⟨_,_,_,v4.cell 5 rfl,_,_,_,v6.cell 5 rfl,ZO ((rk.kb ov).kb Xq) (rk2.kb Xq) fun h7 k7=>ag (aR (fun e6=>⟨jt (by omega) (by omega),ih (i+1) h7 (by omega) (JE.trans k7) fun j h1 h2 hj=>?_⟩) fun e6=>no h7 (JE.trans k7) fun e=>by rw[kv (by rw[e])] at e6;cases e6)⟩
     by_cases e:j<i
     ·exact bq j h1 h2 e
     ·have:j=i:=by omega
      subst this
      exact Jc e1 e2 e3 (of_decide_eq_true e5) e4 (Jb.1 e6)
   exact key n 0 h (by omega) (KB.refl h) fun j _ _ hj=>absurd hj (Nat.not_lt_zero _)
  ·have:l≠l2:=fun e=>hn (by rw[<-hl,<-yl,e])
   have h3:=hk h (KB.refl h)
   rw[pR this] at h3
   exact h3
section
variable {h:H} {K:KV}
end
section
variable {A:Nat->Prop} {h:H} {a:Addr}
abbrev cG (A:Nat->Prop) (h:H) (m:aS) (b:OA) (n c:Nat):Prop:=aY.R A h m [.int .i64 m.1,S m.2.1,.slice b n c]
theorem jI {m:aS} {b:OA} {n c:Nat} (r:Row aW A h b n c m.2.2) (hz:b=none->c=0) (hr:bc .i64 m.1) (hs:m.2.1.length<=maxLen):cG A h m b n c:=
 ⟨[.int .i64 m.1],[S m.2.1,.slice b n c],rfl,⟨rfl,hr⟩,[S m.2.1],[.slice b n c],rfl,⟨rfl,hs⟩,b,n,c,rfl,r,hz⟩
theorem cG.inv {m:aS} {b:OA} {n c:Nat} (r:cG A h m b n c):Row aW A h b n c m.2.2/\(b=none->c=0)/\bc .i64 m.1/\m.2.1.length<=maxLen:=by
 obtain⟨c1,c2,e,⟨e1,hr⟩,c3,c4,e2,⟨e3,hs⟩,b',n',c',e4,r',hz⟩:=r
 subst e4;subst e3;subst e1;subst e2
 simp at e
 obtain⟨rfl,rfl,rfl⟩:=e
 exact⟨r',hz,hr,hs⟩
theorem cG.kb {h':H} {m:aS} {b:OA} {n c:Nat} (r:cG A h m b n c) (k:KB h h'):cG A h' m b n c:=aY.keep _ _ _ _ _ _ r ((SK.w k).less fun _ h=>h.2) fun _ h _=>h
theorem cG.kw {h':H} {m:aS} {b:OA} {n c:Nat} (r:cG A h m b n c) (k:KW h h'):cG A h' m b n c:=aY.keep _ _ _ _ _ _ r (k.less fun _ h=>h.2) fun _ h _=>h
theorem cG.any {m:aS} {b:OA} {n c:Nat} (r:cG A h m b n c):cG (fun _=>True) h m b n c:=aY.keep _ _ _ _ _ _ r (bY.refl _ _) fun _ _ _=>trivial
theorem Gi {m:aS} {K:Int->Bs->OA->Nat->Nat->Prop} (hA:At aY A h a m) (hk:∀b n c,cG A h m b n c->K m.1 m.2.1 b n c):
  ∃i,cell h (a.add 0)=some (.int .i64 i)/\∃s,cell h (a.add 1)=some (S s)/\∃b n c,cell h (a.add 2)=some (.slice b n c)/\K i s b n c:=
 ⟨_,hA.fst.int.1,_,hA.snd.fst.str.1,ud (hA.snd.dH (k:=2) rfl) fun b n c r hz=>hk b n c (jI r hz hA.fst.int.2 hA.snd.fst.str.2)⟩
end
def gl (l:List aS):Nat->Nat
 | 0=>0
 | i+1=>if(l.getD i (0,[],[])).1<0 then i+1 else gl l i
def behind (l:List aS):Nat:=gl l l.length
theorem D5 {A:Nat->Prop} {h:H} {b:OA} {n c:Nat} {l:List aS} (r:Row aY A h b n c l) {K:KV} (hk:K (.int .i64 (behind l)) h):Xel.asks b n c K h:=by
 have hl:=r.len
 have hm:n<=maxLen:=Nat.le_trans r.cap r.max
 simp only[maxLen] at hm
 refine⟨aG (by omega) (by omega),n+1,?_⟩
 have key:∀i,i<=n->gl l i=behind l->Xel.cR (fun h=>K (.int .i64 0) h) (fun h=>K (.int .i64 0) h) (fun y2 h=>K (.int .i64 y2) h) (i+1) b n c ((i:Int) - 1) h:=by
  intro i
  induction i with
  | zero=>
   intro _ e
   refine bX (by omega) ?_
   rw[<-e] at hk
   exact hk
  | succ i ih=>
   intro hi e
   refine bQ (by omega) (r.idx (by omega) (by omega) rfl fun a yo hA=>Fx (hA.fst) fun hr=>?_)
   have hx:((i+1:Nat):Int) - 1=(i:Int):=by omega
   have YR:(((i+1:Nat):Int) - 1).toNat=i:=by omega
   unfold gl at e
   rw[aJ (by omega)] at e
   simp only[YR]
   refine bh (fun eJ=>⟨aG (by omega) (by omega),?_⟩) fun eJ=>⟨aG (by omega) (by omega),?_⟩
   ·rw[if_pos eJ] at e
    rw[<-e] at hk
    rw[show((i+1:Nat):Int) - 1+1=((i+1:Nat):Int) by omega]
    exact hk
   ·rw[if_neg eJ] at e
    rw[hx]
    exact ih (by omega) e
 exact key n (Nat.le_refl _) (by rw[<-hl];rfl)
theorem iD {A:Nat->Prop} {h:H} {b:OA} {n c:Nat} {l:List aS} (r:Row aY A h b n c l) {K:KV} (hk:K (.int .i64 (behind l)) h):
  zC 176 [.slice b n c] h K:=Xel.ok _ _ _ _ _ (D5 r hk)
theorem pS (l:List aS):∀i,gl l i<=i
 | 0=>Nat.le_refl _
 | i+1=>by
  unfold gl
  split
  ·exact Nat.le_refl _
  ·exact Nat.le_succ_of_le (pS l i)
theorem qv (l:List aS):behind l<=l.length:=pS l _
theorem M5 {x y:bx} {p q:Operand} {h:H} {K:Value->Prop} (hk:K (.bool (decide (x=y)))):ue Tryz.prog (dX .eql 67 p q (.agg ⟨[S x.1,S x.2]⟩) (.agg ⟨[S y.1,S y.2]⟩)) h K:=
 Ll (by kernel_rfl) (by kernel_rfl) (by rw[M4];exact hk)
theorem HN {A:Nat->Prop} {h:H} {a:Addr} {m:bx} {K:Bs->Bs->Prop} (hA:At aW A h a m) (hk:True->K m.1 m.2):∃s,cell h (a.add 0)=some (S s)/\∃t,cell h (a.add 1)=some (S t)/\K s t:=Gh hA fun _ _=>hk trivial
def fR (x y:aS):Bool:=decide (x.2.1=y.2.1)&&(decide (x.2.2.length=y.2.2.length)&&x.2.2.all fun a=>decide (a ∈ y.2.2))
section
variable {A B:Nat->Prop} {h:H} {b b2:OA} {n c n2 c2:Nat}
theorem xL {x y:aS} (hx:cG A h x b n c) (hy:cG B h y b2 n2 c2) {K:KV} (hk:∀h',KB h h'->K (.bool (fR x y)) h'):
  zC 228 [.agg ⟨[.int .i64 x.1,S x.2.1,.slice b n c]⟩,.agg ⟨[.int .i64 y.1,S y.2.1,.slice b2 n2 c2]⟩] h K:=by
 refine Sr.ok _ _ _ _ _ _ _ _ _ _ _ _ (af fun a1 h1 v1 k1 e1 _=>af fun a2 h2 v2 k2 e2 _=>?_)
 have Cj:At aY (fun _=>True) h2 a1 x:=(v1.at (A:=fun _=>True) (cG.any hx |>.kb k1) trivial).kb k2
 have sA:At aY (fun _=>True) h2 a2 y:=v2.at (A:=fun _=>True) (cG.any hy |>.kb (k1.trans k2)) trivial
 have hk:=hk h2 (k1.trans k2)
 refine RH Cj.snd.fst fun _=>RH sA.snd.fst fun _=>bh (fun e1=>?_) fun e1=>?_
 ·refine ud (Cj.snd.dH (k:=2) rfl) fun b n c r _=>ud (sA.snd.dH (k:=2) rfl) fun b2 n2 c2 r2 _=>bh (fun e2=>?_) fun e2=>?_
  ·have Vi:x.2.2.length=y.2.2.length:=by rw[r.len,r2.len];omega
   have hm:x.2.2.length<=maxLen:=by rw[r.len];exact Nat.le_trans r.cap r.max
   simp only[maxLen] at hm
   refine⟨x.2.2.length+1,?_⟩
   have inner:∀(i:Nat) (hi:i<x.2.2.length) (Kn qI:Sr.T5) (Ke1:Sr.T4) (Ke0:Sr.T3) (Kr:Sr.T0)
     (k:Nat) (j:Nat) (is:Bool),j+k=y.2.2.length->(is=decide (x.2.2[i] ∈ y.2.2.take j))->
     qI a1 a2 i (decide (x.2.2[i] ∈ y.2.2)) h2->
     Sr.ZV Kn qI Ke1 Ke0 Kr (k+1) a1 a2 (i:Int) is (j:Int) h2:=by
    intro i hi Kn qI Ke1 Ke0 Kr k
    induction k with
    | zero=>
     intro j is hj Qs hK
     refine ud (sA.snd.dH (k:=2) rfl) fun b2 n2 c2 r2 _=>bX (by rw[<-r2.len];omega) ?_
     rw[show j=y.2.2.length by omega,List.take_length] at Qs
     rw[Qs];exact hK
    | succ k ih=>
     intro j is hj Qs hK
     have fY:j<y.2.2.length:=by omega
     have jO:y.2.2.take (j+1)=y.2.2.take j++ [y.2.2[j]]:=by rw[List.take_succ_eq_append_getElem fY]
     refine ud (sA.snd.dH (k:=2) rfl) fun b2 n2 c2 r2 _=>bQ (by rw[<-r2.len];omega) ?_
     refine aR (fun e=>⟨aG (by omega) (by omega),ih (j+1) true (by omega) ?_ hK⟩) fun e=>?_
     ·rw[e] at Qs
      rw[jO]
      exact(decide_eq_true (List.mem_append_left _ (of_decide_eq_true Qs.symm))).symm
     ·refine ud (Cj.snd.dH (k:=2) rfl) fun b n c r _=>r.bn hi rfl fun a hA=>HN hA fun _=>ud (sA.snd.dH (k:=2) rfl) fun b2 n2 c2 r2 _=>r2.bn fY rfl fun a' Uj=>HN Uj fun _=>M5 ?_
      rw[e] at Qs
      have Ma:=of_decide_eq_false Qs.symm
      refine aR (fun hd=>⟨aG (by omega) (by omega),ih (j+1) true (by omega) ?_ hK⟩) fun hd=>⟨aG (by omega) (by omega),ih (j+1) false (by omega) ?_ hK⟩
      ·rw[jO]
       exact(decide_eq_true (List.mem_append_right _ (List.mem_singleton.2 (of_decide_eq_true hd)))).symm
      ·rw[jO]
       refine(decide_eq_false fun hm=>?_).symm
       rcases List.mem_append.1 hm with hm | hm
       ·exact Ma hm
       ·exact(of_decide_eq_false hd) (List.mem_singleton.1 hm)
   have key:∀k i,i+k=x.2.2.length->(∀j (hj:j<x.2.2.length),j<i->x.2.2[j] ∈ y.2.2)->
     Sr.fu (fun h=>K (.bool true) h) (fun h=>K (.bool true) h) (fun y4 h=>K (.bool y4) h) (k+1) a1 a2 (i:Int) h2:=by
    intro k
    induction k with
    | zero=>
     intro i hi bq
     refine ud (Cj.snd.dH (k:=2) rfl) fun b n c r _=>bX (by rw[<-r.len];omega) ?_
     have:fR x y=true:=by
      unfold fR
      rw[decide_eq_true e1,decide_eq_true Vi,Bool.true_and,Bool.true_and,List.all_eq_true]
      intro z hz
      obtain⟨j,hj,e⟩:=List.mem_iff_getElem.1 hz
      rw[<-e];exact decide_eq_true (bq j hj (by omega))
     rw[this] at hk;exact hk
    | succ k ih=>
     intro i hi bq
     have bM:i<x.2.2.length:=by omega
     refine ud (Cj.snd.dH (k:=2) rfl) fun b n c r _=>bQ (by rw[<-r.len];omega) ⟨y.2.2.length+1,?_⟩
     refine inner i bM _ _ _ _ _ y.2.2.length 0 false (by omega) (by simp) ?_
     refine aR (fun hd=>⟨aG (by omega) (by omega),ih (i+1) (by omega) fun j hj hj2=>?_⟩) fun hd=>?_
     ·by_cases e:j<i
      ·exact bq j hj e
      ·have:j=i:=by omega
       subst this
       exact of_decide_eq_true hd
     ·have:fR x y=false:=by
       unfold fR
       have h3:(x.2.2.all fun a=>decide (a ∈ y.2.2))=false:=by
        rw[List.all_eq_false]
        exact⟨_,List.getElem_mem bM,by rw[hd];simp⟩
       rw[h3,Bool.and_false,Bool.and_false]
      rw[this] at hk;exact hk
   exact key x.2.2.length 0 (by omega) fun j _ hj=>absurd hj (Nat.not_lt_zero _)
  ·have Vi:x.2.2.length≠y.2.2.length:=by rw[r.len,r2.len];omega
   rwa[show fR x y=false by simp[fR,Vi]] at hk
 ·rwa[show fR x y=false by simp[fR,e1]] at hk
end
def iL (A:Nat->Prop) (h:H) (l:List aS):Nat->List (List Value)->Prop
 | 0,xs=>xs=[]
 | i+1,xs=>∃(hi:i<l.length) (b:OA) (n c:Nat) (rest:List (List Value)),cG A h l[i] b n c/\xs=[.int .i64 i,.agg ⟨[.int .i64 l[i].1,S l[i].2.1,.slice b n c]⟩]::rest/\iL A h l i rest
theorem iL.kw {A:Nat->Prop} {h h':H} {l:List aS} (k:KW h h'):∀{i:Nat} {xs:List (List Value)},iL A h l i xs->iL A h' l i xs
 | 0,_,e=>e
 | i+1,_,⟨hi,b,n,c,rest,hm,e,hr⟩=>⟨hi,b,n,c,rest,hm.kw k,e,hr.kw k⟩
theorem iL.of {A:Nat->Prop} {h:H} {b:OA} {n c:Nat} {l:List aS} (r:Row aY A h b n c l):∀{i:Nat},i<=l.length->∃xs,iL A h l i xs
 | 0,_=>⟨[],rfl⟩
 | i+1,hi=>by
  obtain⟨rest,hr⟩:=iL.of r (i:=i) (by omega)
  obtain⟨a,e,hA⟩:=r.gB i _ (List.getElem?_eq_getElem (by omega))
  obtain⟨b',n',c',_,r',hz⟩:=(hA.snd.dH (k:=2) rfl).sl
  exact⟨_,by omega,b',n',c',rest,jI r' hz hA.fst.int.2 hA.snd.fst.str.2,rfl,hr⟩
theorem iL.len {A:Nat->Prop} {h:H} {l:List aS}:∀{i:Nat} {xs:List (List Value)},iL A h l i xs->∀x ∈ xs,x.length=2
 | 0,_,e,x,hx=>by simp[iL] at e;rw[e] at hx;cases hx
 | i+1,_,⟨hi,b,n,c,rest,hm,e,hr⟩,x,hx=>by
  rw[e] at hx
  rcases List.mem_cons.1 hx with rfl | hx
  ·rfl
  ·exact hr.len x hx
theorem kU {A:Nat->Prop} {h:H} {b:OA} {n c:Nat} {l:List aS} {a:Addr} (r:Row aY A h b n c l) (v:Var h a 40 [.slice b n c]):
  ∃xs,iL A h l l.length xs/\Hd Tryz.prog (.func (.func 182) ⟨[]⟩ ⟨[.pointer (some a)]⟩) h xs vm (fun k=>A k∨k=a.block):=by
 have hl:=r.len
 have hm:n<=maxLen:=Nat.le_trans r.cap r.max
 simp only[maxLen] at hm
 have cellsOf:∀i,i<=l.length->∃xs,iL A h l i xs/\∀(L:Nat) (J:List (List Value)->H->Prop) (Stop:H->Prop),
   (∀x rest h',J (x::rest) h'->ub Tryz.prog L ⟨x⟩ h' fun v l6=>(v=.bool true/\J rest l6/\yq (fun k=>A k∨k=a.block) h' l6)∨(v=.bool false/\Stop l6/\yq (fun k=>A k∨k=a.block) h' l6))->
   ∀h',bY (fun k=>(A k∨k=a.block)/\k<h.size) h h'->J xs h'->
    Xfv.nv (fun h3=>J [] h3∨Stop h3) (fun h3=>J [] h3∨Stop h3) (fun h3=>J [] h3∨Stop h3) (i+1) (.func (.yield L) ⟨[]⟩ ⟨[]⟩) a ((i:Int) - 1) h':=by
  intro i
  induction i with
  | zero=>
   intro _
   exact⟨[],rfl,fun L J Stop hY h' hk hJ=>bX (by omega) (.inl hJ)⟩
  | succ i ih=>
   intro hi
   obtain⟨rest,hr,hw⟩:=ih (by omega)
   obtain⟨ar,Od,hA⟩:=r.gB i _ (List.getElem?_eq_getElem (by omega))
   obtain⟨b',n',c',eb,r',hz⟩:=(hA.snd.dH (k:=2) rfl).sl
   refine⟨_,⟨by omega,b',n',c',rest,jI r' hz hA.fst.int.2 hA.snd.fst.str.2,rfl,hr⟩,fun L J Stop hY h' hk hJ=>?_⟩
   have hx:((i+1:Nat):Int) - 1=(i:Int):=by omega
   rw[hx]
   have OC:A ar.block:=by have:=hA.1;rwa[bo] at this
   have oy:∀j x,cell h ((ar.add (i*3)).add j)=some x->cell h' ((ar.add (i*3)).add j)=some x:=fun j x e=>hk.cell (by rw[bo,bo];exact⟨.inl OC,by have:=fS e;rwa[bo,bo] at this⟩) e
   have v':Var h' a 40 [.slice b n c]:=v.keep hk ⟨.inr rfl,v.lt⟩
   refine bQ (by omega) ⟨_,_,_,v'.dy rfl,⟨by omega,by omega⟩,?_⟩
   rw[Od]
   refine⟨_,oy 0 _ hA.fst.int.1,_,oy 1 _ hA.snd.fst.str.1,_,_,_,oy 2 _ eb,?_⟩
   first | rw[uj] | (dsimp only[];rw[uj])
   refine fun w uK=>?_
   obtain⟨fn,tmps,assign,body,kJ,Bh⟩:=hY _ _ _ hJ w uK
   refine⟨fn,tmps,assign,body,kJ,Bh.mono ?_⟩
   rintro e w' ⟨v,he,ho,mK⟩
   refine⟨v,he,ho,?_⟩
   have hxx:(i:Int) - 1=(i:Int) - (1:Int):=rfl
   rcases mK with ⟨rfl,YT,FJ⟩ | ⟨rfl,hS,FJ⟩
   ·exact⟨aG (by omega) (by omega),hw L J Stop hY _ (bY.trans (uK▸hk) (FJ.keep.less fun _ h=>h.1)) YT⟩
   ·exact .inr hS
 obtain⟨xs,hB,hw⟩:=cellsOf l.length (Nat.le_refl _)
 refine⟨xs,hB,182,_,_,rfl,fun args w=>by kernel_rfl,fun L J Stop h2 hn hJ hS hY hj=>?_⟩
 refine Xfv.ok (.func (.yield L) ⟨[]⟩ ⟨[]⟩) a _ _ ?_
 refine⟨_,_,_,(v.kw hn.kw).dy rfl,aG (by omega) (by omega),l.length+1,?_⟩
 rw[<-hl]
 exact hw L J Stop hY h2 (hn.kw.less fun _ h=>h.2) hj
theorem Gk {p q:Nat} {RD:TB RT [.o p (.i .i64),.g q [.i .i64,.s,.l]]} {Mid:H->(H->Prop)->Prop} {Kc:H->H->Prop} {Fin:H->H->(H->Prop)->Prop} {h1:H} {i j:Int} {s:Bs} {b:OA} {n c:Nat} (h:RD i j s b n c Mid Kc Fin h1):
  dB [.o p (.i .i64),.g q [.i .i64,.s,.l]] [.int .i64 i,.agg ⟨[.int .i64 j,S s,.slice b n c]⟩] RD fun K=>K Mid Kc Fin h1:=h
section
variable {A:Nat->Prop} {h:H} {b:OA} {n c:Nat} {l:List aS}
theorem kV (r:Row aY A h b n c l) {K:KV} (hk:∀a h',Var h' a 40 [.slice b n c]->KB h h'->a.block=h.size->K (.func (.func 182) ⟨[]⟩ ⟨[.pointer (some a)]⟩) h'):
  zC 136 [.slice b n c] h K:=
 Xfx.ok _ _ _ _ _ (af fun a1 h1 v1 k1 e1 _=>hk a1 h1 v1 k1 e1)
end
def cK {α:Type} (l:List α) (p:α->Bool):Int:=match l.findIdx? p with | some i=>(i:Int) | none=> -1
theorem mZ {α:Type} {l:List α} {p:α->Bool} {i:Nat} (hi:i<l.length) (hp:p l[i]=true) (bq:∀j (hj:j<l.length),j<i->p l[j]=false):cK l p=i:=by
 have:l.findIdx? p=some i:=List.findIdx?_eq_some_iff_getElem.2 ⟨hi,hp,fun j hj=>by simp[bq j (by omega) hj]⟩
 unfold cK;rw[this]
theorem nc {α:Type} {l:List α} {p:α->Bool} (bq:∀j (hj:j<l.length),p l[j]=false):cK l p= -1:=by
 have:l.findIdx? p=none:=List.findIdx?_eq_none_iff.2 fun x hx=>by
  obtain⟨j,hj,e⟩:=List.mem_iff_getElem.1 hx
  rw[<-e];exact bq j hj
 unfold cK;rw[this]
theorem mD {α:Type} {l:List α} {p:α->Bool}:0<=cK l p↔l.any p=true:=by
 unfold cK
 cases h:l.findIdx? p with
 | none=>
  have:=List.findIdx?_eq_none_iff.1 h
  refine⟨fun h=>absurd h (by decide),fun h2=>?_⟩
  obtain⟨x,hx,hp⟩:=List.any_eq_true.1 h2
  rw[this x hx] at hp;cases hp
 | some i=>
  obtain⟨hi,hp,_⟩:=List.findIdx?_eq_some_iff_getElem.1 h
  exact⟨fun _=>List.any_eq_true.2 ⟨_,List.getElem_mem _,hp⟩,fun _=>by simp⟩
theorem rm.any {A:Nat->Prop} {h:H} {m:aP} (r:rm A h m):rm (fun _=>True) h m:=bp.keep _ _ _ _ _ _ r (bY.refl _ _) fun _ _ _=>trivial
theorem rm.kb {A:Nat->Prop} {h h':H} {m:aP} (r:rm A h m) (k:KB h h'):rm A h' m:=bp.keep _ _ _ _ _ _ r ((SK.w k).less fun _ h=>h.2) fun _ h _=>h
theorem Qt {A:Nat->Prop} {h:H} {a:Addr} {m:aP} {K:Int->Int->Bs->Int->Prop} (hA:At bp A h a m) (hk:rm A h m->K m.1 m.2.1 m.2.2.1 m.2.2.2):
  ∃i,cell h (a.add 0)=some (.int .i64 i)/\∃j,cell h (a.add 1)=some (.int .u8 j)/\∃s,cell h (a.add 2)=some (S s)/\∃k,cell h (a.add 3)=some (.int .u8 k)/\K i j s k:=
 have h1:=hA.fst.int
 have h2:=hA.snd.fst.int
 have h3:=(hA.snd.dH (k:=2) rfl).fst.str
 have h4:=((hA.snd.dH (k:=2) rfl).dH (k:=3) rfl).int
 ⟨_,h1.1,_,h2.1,_,h3.1,_,h4.1,hk ⟨[.int .i64 m.1],_,rfl,⟨rfl,h1.2⟩,[.int .u8 m.2.1],_,rfl,⟨rfl,h2.2⟩,[S m.2.2.1],_,rfl,⟨rfl,h3.2⟩,rfl,h4.2⟩⟩
section
variable {A B:Nat->Prop} {h:H} {b b2:OA} {n c n2 c2:Nat} {l:List aS}
theorem dI {l:List aP} {f:Value} {p:aP->Bool} (r:Row bp A h b n c l)
  (hf:∀x h1 (next:KV),x ∈ l->KB h h1->rm A h1 x->(∀h2,KB h1 h2->next (.bool (p x)) h2)->fT Tryz.prog 4 f ⟨[.agg ⟨[.int .i64 x.1,.int .u8 x.2.1,S x.2.2.1,.int .u8 x.2.2.2]⟩]⟩ h1 next)
  {K:KV} (hk:∀h',KB h h'->K (.int .i64 (cK l p)) h'):
  zC 183 [.slice b n c,f] h K:=by
 refine Xgb.ok _ _ _ _ _ _ ?_
 have hl:=r.len
 have hm:n<=maxLen:=Nat.le_trans r.cap r.max
 simp only[maxLen] at hm
 refine⟨n+1,?_⟩
 have key:∀k i h1,i+k=n->KB h h1->(∀j (h1:j<l.length),j<i->p l[j]=false)->
   Xgb.cR (fun h=>K (.int .i64 (-1)) h) (fun h=>K (.int .i64 (-1)) h) (fun y4 h=>K (.int .i64 y4) h) (k+1) b n c f (n:Int) (i:Int) h1:=by
  intro k
  induction k with
  | zero=>
   intro i h1 hi k1 bq
   have:=hk h1 k1
   rw[nc fun j hj=>bq j hj (by omega)] at this
   exact bX (by omega) this
  | succ k ih=>
   intro i h1 hi k1 bq
   have bM:i<l.length:=by omega
   refine bQ (by omega) ((r.kb k1).bn bM rfl fun a hA=>Qt hA fun hR=>hf _ h1 _ (List.getElem_mem _) k1 hR fun h2 k2=>?_)
   refine aR (fun hd=>?_) fun hd=>⟨aG (by omega) (by omega),ih (i+1) h2 (by omega) (k1.trans k2) fun j h1 hj=>?_⟩
   ·have:=hk h2 (k1.trans k2)
    rwa[mZ bM hd bq] at this
   ·by_cases e:j<i
    ·exact bq j h1 e
    ·have:j=i:=by omega
     subst this
     exact hd
 exact key n 0 h (by omega) (KB.refl h) fun j _ hj=>absurd hj (Nat.not_lt_zero _)
theorem od {l:List aP} {f:Value} {p:aP->Bool} (r:Row bp A h b n c l)
  (hf:∀x h1 (next:KV),x ∈ l->KB h h1->rm A h1 x->(∀h2,KB h1 h2->next (.bool (p x)) h2)->fT Tryz.prog 4 f ⟨[.agg ⟨[.int .i64 x.1,.int .u8 x.2.1,S x.2.2.1,.int .u8 x.2.2.2]⟩]⟩ h1 next)
  {K:KV} (hk:∀h',KB h h'->K (.bool (l.any p)) h'):
  zC 137 [.slice b n c,f] h K:=by
 refine Xf3.ok _ _ _ _ _ _ (dI r hf fun h' k'=>?_)
 refine bh (fun hp=>?_) fun hp=>?_
 ·have:=hk h' k'
  rwa[mD.1 hp] at this
 ·have:=hk h' k'
  have e:l.any p=false:=by
   cases hq:l.any p with
   | false=>rfl
   | true=>exact absurd (mD.2 hq) hp
  rwa[e] at this
end
def uk (m:aS) (o:List aP):Bool:=decide (m.1<0)||o.any fun x=>decide (x.1=m.1)
def jA (l:List aS) (o:List aP):Nat->Int
 | 0=>0
 | i+1=>if uk (l.getD i (0,[],[])) o then((i:Int)+1) else jA l o i
def gE (l:List aS) (o:List aP):Int:=jA l o l.length
section
variable {A B:Nat->Prop} {h:H} {b b2:OA} {n c n2 c2:Nat} {l:List aS} {o:List aP}
theorem Gc (hA:∀k,A k->k<h.size) (r:Row aY A h b n c l) (ro:Row bp B h b2 n2 c2 o) {K:KV} (hk:∀h',KB h h'->K (.int .i64 (gE l o)) h'):
  zC 62 [.slice b n c,.slice b2 n2 c2] h K:=by
 refine Xba.ok _ _ _ _ _ _ _ _ (af fun xs0 h0 v0 k0 e0 _=>af fun x2 h1 v1 k1 e1 _=>kV ((r.kb k0).kb k1) fun a h2 v2 k2 e2=>?_)
 have hm:n<=maxLen:=Nat.le_trans r.cap r.max
 simp only[maxLen] at hm
 have hl:=r.len
 obtain⟨xs,hB,hE⟩:=kU (((r.kb k0).kb k1).kb k2) v2
 have h01:=k0.1
 have bI:¬(A x2.block∨x2.block=a.block):=fun e=>by
  have:=v1.lt
  rcases e with e | e
  ·have:=hA _ e;omega
  ·omega
 have v12:=v1.kb k2
 have v02:=(v0.kb k1).kb k2
 have gI:KB h h2:=(k0.trans k1).trans k2
 have xM:=gI.1
 refine⟨xs,vm,_,hE,hB.len,kg (fun xs h'=>KB h2 h'/\∃i,iL A h' l i xs/\jA l o i=gE l o) (fun xs h' l6 ⟨k,i,hb,e⟩ n=>⟨k.nz n (Nat.le_succ _),i,hb.kw n.kw,e⟩) ?_ ?_ xs h2 ⟨KB.refl _,l.length,hB,rfl⟩⟩
 ·rintro x xs h3 Kc ⟨k3,i,hb,e⟩ Lg
  cases i with
  | zero=>simp[iL] at hb
  | succ i=>
   obtain⟨hi,b',n',c',rest,hm',e',hr⟩:=hb
   cases e'
   unfold jA at e
   rw[aJ hi] at e
   refine Gk (af fun a4 h4 v4 k4 e4 _=>aQ v4 (Nat.le_refl _) fun h5 v5 k5 s5=>?_)
   have Ff:KB h3 h5:=KB.step k4 k5 (by omega)
   refine⟨(k4.kp).trans (KX.kp v4 k5 fun e=>?_),fun h6 n6=>?_⟩
   ·have:=k3.1;have lN:=gI.1
    rcases e with e | e
    ·have:=hA _ e;omega
    ·have:=v2.lt;omega
   have v6:=v5.kw n6.kw
   have B6:KB h2 h6:=(k3.trans Ff).nz n6 (Nat.le_succ _)
   have vx:=v12.kb B6
   have found:uk l[i] o=true->gE l o=(i:Int)+1:=fun ht=>by rw[<-e,if_pos ht]
   refine⟨_,v6.cell 0 rfl,bh (fun eJ=>⟨aG (by omega) (by omega),?_⟩) fun eJ=>⟨_,_,_,(v02.kb B6).dy rfl,?_⟩⟩
   ·refine aQ vx (Nat.le_refl _) fun h7 v7 k7 s7=>⟨KX.kp vx k7 bI,fun h8 n8 hd=>?_⟩
    refine iW hd ((KB.step (gI.trans B6) k7 (by omega)).nz n8 (by omega)) xM (v7.kw n8.kw) fun h' k'=>?_
    rw[found (by unfold uk;rw[decide_eq_true eJ,Bool.true_or])] at hk
    exact hk h' k'
   ·refine od (p:=fun x=>decide (x.1=l[i].1)) ((ro.kb gI).kb B6) (fun x h7 next hx k7 hR hn=>?_) fun h7 k7=>?_
    ·have e:fT Tryz.prog 4 (.func (.func 138) ⟨[]⟩ ⟨[.pointer (some a4)]⟩) ⟨[.agg ⟨[.int .i64 x.1,.int .u8 x.2.1,S x.2.2.1,.int .u8 x.2.2.2]⟩]⟩ h7 next=
       zC 138 [.agg ⟨[.int .i64 x.1,.int .u8 x.2.1,S x.2.2.1,.int .u8 x.2.2.2]⟩,.pointer (some a4)] h7 fun v h'=>au v fun b=>cond b (next (.bool true) h') (next (.bool false) h'):=by kernel_rfl
     rw[e]
     refine Xbb.ok _ _ _ _ _ _ _ (af fun a8 h8 v8 k8 e8 _=>⟨_,v8.cell 0 rfl,_,((v6.kb k7).kb k8).cell 0 rfl,?_⟩)
     have:=hn h8 k8
     refine bh (fun e=>?_) fun e=>?_
     ·rw[decide_eq_true e] at this;exact this
     ·rw[decide_eq_false e] at this;exact this
    ·refine aR (fun ht=>⟨aG (by omega) (by omega),?_⟩) fun ht=>?_
     ·have vx7:=vx.kb k7
      refine aQ vx7 (Nat.le_refl _) fun h8 v8 k8 s8=>⟨(k7.kp).trans (KX.kp vx7 k8 bI),fun h9 n9 hd=>?_⟩
      refine iW hd ((KB.step ((gI.trans B6).trans k7) k8 (by omega)).nz n9 (by omega)) xM (v8.kw n9.kw) fun h' k'=>?_
      rw[found (by unfold uk;rw[ht,Bool.or_true])] at hk
      exact hk h' k'
     ·refine Lg _ _ k7.kp ⟨B6.trans k7,i,((hr.kw (KB.w Ff)).kw n6.kw).kw (KB.w k7),?_⟩
      rw[if_neg (by unfold uk;rw[ht,decide_eq_false eJ];simp)] at e
      exact e
 ·rintro h3 ⟨k3,i,hb,e⟩ hd
  cases i with
  | succ i=>obtain⟨_,_,_,_,_,_,e',_⟩:=hb;cases e'
  | zero=>
   have vx:=v12.kb k3
   refine aQ vx (Nat.le_refl _) fun h7 v7 k7 s7=>?_
   refine iW (vx.dp k7 hd) (KB.step (gI.trans k3) k7 (by omega)) xM v7 fun h' k'=>?_
   rw[<-e] at hk;exact hk h' k'
theorem yY (r:Row aY A h b n c l) (ro:Row bp B h b2 n2 c2 o) {K:KV} (hk:K (.int .i64 (gE l o)) h):
  zC 102 [.slice b n c,.slice b2 n2 c2] h K:=by
 refine JF.ok _ _ _ _ _ _ _ _ ?_
 have hl:=r.len
 have hm:n<=maxLen:=Nat.le_trans r.cap r.max
 have jZ:=ro.len
 have hmo:n2<=maxLen:=Nat.le_trans ro.cap ro.max
 simp only[maxLen] at hm hmo
 refine⟨aG (by omega) (by omega),n+1,?_⟩
 have inner:∀(i:Nat) (hi:i<l.length) (Kn qI:JF.T4) (Ke1:JF.T3) (Ke0:JF.T2) (Kr:JF.T0) (k j:Nat) (is:Bool),j+k=n2->
   (∀res,(res=(is||(o.drop j).any fun x=>decide (x.1=l[i].1)))->qI b n c b2 n2 c2 i res h)->
   JF.ZW Kn qI Ke1 Ke0 Kr (k+1) b n c b2 n2 c2 (i:Int) is (j:Int) h:=by
  intro i hi Kn qI Ke1 Ke0 Kr k
  induction k with
  | zero=>
   intro j is hj hK
   refine bX (by omega) (hK is ?_)
   rw[List.drop_of_length_le (by omega)];simp
  | succ k ih=>
   intro j is hj hK
   have fY:j<o.length:=by omega
   have jO:o.drop j=o[j]::o.drop (j+1):=by rw[List.drop_eq_getElem_cons fY]
   refine bQ (by omega) (aR (fun e=>⟨aG (by omega) (by omega),ih (j+1) true (by omega) fun res hr=>hK res ?_⟩) fun e=>?_)
   ·rw[hr,e];simp
   ·refine ro.bn fY rfl fun a hA=>Fx hA.fst fun _=>r.bn hi rfl fun a' Uj=>Fx Uj.fst fun _=>bh (fun hd=>⟨aG (by omega) (by omega),ih (j+1) true (by omega) fun res hr=>hK res ?_⟩) fun hd=>⟨aG (by omega) (by omega),ih (j+1) false (by omega) fun res hr=>hK res ?_⟩
    ·rw[hr,e,jO];simp only[List.any_cons,decide_eq_true hd,Bool.true_or,Bool.false_or]
    ·rw[hr,e,jO];simp only[List.any_cons,decide_eq_false hd,Bool.false_or]
 have key:∀i,i<=n->jA l o i=gE l o->
   JF.cR (fun h=>K (.int .i64 0) h) (fun h=>K (.int .i64 0) h) (fun y4 h=>K (.int .i64 y4) h) (i+1) b n c b2 n2 c2 ((i:Int) - 1) h:=by
  intro i
  induction i with
  | zero=>
   intro _ e
   refine bX (by omega) ?_
   rw[<-e] at hk;exact hk
  | succ i ih=>
   intro hi e
   have hx:((i+1:Nat):Int) - 1=(i:Int):=by omega
   have bM:i<l.length:=by omega
   unfold jA at e
   rw[aJ bM] at e
   rw[hx]
   have go:∀is:Bool,is=decide (l[i].1<0)->∀Ke1:JF.T3,
     JF.uy b n c b2 n2 c2 (i:Int) is (fun AY AZ A7 z1b z1n z1c z5 h=>JF.n9 AY AZ A7 z1b z1n z1c z5 (fun AY AZ A7 z1b z1n z1c z5 h=>JF.cR (fun h=>K (.int .i64 0) h) (fun h=>K (.int .i64 0) h) (fun y4 h=>K (.int .i64 y4) h) (i+1) AY AZ A7 z1b z1n z1c z5 h) (fun h=>K (.int .i64 0) h) (fun y4 h=>K (.int .i64 y4) h) h) Ke1 (fun h=>K (.int .i64 0) h) (fun y4 h=>K (.int .i64 y4) h) h:=by
    intro is Qs Ke1
    refine⟨n2+1,inner i bM _ _ _ _ _ n2 0 is (by omega) fun res hr=>?_⟩
    have kF:res=uk l[i] o:=by rw[hr,Qs];rfl
    refine aR (fun ht=>⟨aG (by omega) (by omega),?_⟩) fun ht=>⟨aG (by omega) (by omega),?_⟩
    ·rw[if_pos (by rw[<-kF];exact ht)] at e
     rw[<-e] at hk;exact hk
    ·rw[if_neg (by rw[<-kF,ht];simp)] at e
     exact ih (by omega) e
   refine bQ (by omega) (r.bn bM rfl fun a hA=>Fx hA.fst fun _=>bh (fun hd=>go true (decide_eq_true hd).symm _) fun hd=>go false (decide_eq_false hd).symm _)
 exact key n (Nat.le_refl _) (by rw[<-hl];rfl)
end
theorem cZ:oG Tryz.prog aY 40 79 48:=js (sz:=3) (by kernel_rfl) rfl
section
variable {A:Nat->Prop} {h:H} {b:OA}
theorem kz {l:List aS} {xs:List Value} (he:eG aY A h l xs) (hc:Cells h b xs) {i:Nat} (hi:i<l.length):
  ∃a b2 n2 c2,b=some a/\cell h ((a.add (i*3)).add 0)=some (.int .i64 l[i].1)/\cell h ((a.add (i*3)).add 1)=some (S l[i].2.1)/\cell h ((a.add (i*3)).add 2)=some (.slice b2 n2 c2)/\cG A h l[i] b2 n2 c2:=by
 obtain⟨cs,hR,hcs⟩:=he.at (List.getElem?_eq_getElem hi)
 have XT:=hR
 obtain⟨c1,c2,e,h1,c3,c4,e2,h2,b2,n2,cc2,e3,h3,h4⟩:=hR
 rw[h1.1] at e
 rw[h2.1] at e2
 rw[e3] at e2
 rw[e2] at e
 subst e
 obtain⟨a,ea,ec⟩:=hc _ _ (hcs 0 _ rfl)
 subst ea
 have cel:∀j v,([Value.int .i64 l[i].1]++([S l[i].2.1]++ [Value.slice b2 n2 cc2]))[j]? =some v->cell h ((a.add (i*3)).add j)=some v:=fun j v hv=>by
  obtain⟨a',ea',ec'⟩:=hc _ _ (hcs j v hv)
  cases ea'
  rw[add_add];exact ec'
 exact⟨a,b2,n2,cc2,rfl,cel 0 _ rfl,cel 1 _ rfl,cel 2 _ rfl,XT⟩
end
def iM (l:List aS) (m:aS) (s k:Nat):List Nat:=(List.range' s k).filter fun j=>fR m (l.getD j (0,[],[]))
theorem xN (l:List aS) (m:aS) (s k:Nat):iM l m s (k+1)=if fR m (l.getD (s+k) (0,[],[])) then iM l m s k++ [s+k] else iM l m s k:=by
 unfold iM
 rw[List.range'_concat,List.filter_append,Nat.one_mul]
 rw[List.filter_cons]
 split
 ·rfl
 ·rw[List.filter_nil,List.append_nil]
theorem M6 {l:List aS} {m:aS} {s k:Nat}:∀j ∈ iM l m s k,s<=j/\j<s+k:=by
 intro j hj
 have:=(List.mem_filter.1 hj).1
 rw[List.mem_range'] at this
 obtain⟨i,hi,e⟩:=this
 omega
def cM (l:List aS) (m:aS):List Nat:=if m.1<0 then [] else iM l m (behind l) (l.length - behind l)
def fp (l:List aS) (m:aS):List aS:=if(cM l m).length<3 then l++ [m] else l.eraseIdx ((cM l m).headD 0)++ [m]
def xO (l:List Nat):Int:=match l with | []=> -1 | a::_=>(a:Int)
theorem D6 (l:List Nat) (j:Nat):xO (l++ [j])=if xO l<0 then(j:Int) else xO l:=by
 cases l with
 | nil=>rfl
 | cons a t=>show(a:Int)=if(a:Int)<0 then _ else _;rw[if_neg (by omega)];rfl
section
variable {A B:Nat->Prop} {h:H} {b b2:OA} {n c n2 c2:Nat} {l:List aS} {m:aS}
def eR (l:List aS) (s:List Nat) (i:Nat):List aS:=if s.length<3 then l.take i else(l.take i).eraseIdx (s.headD 0)
theorem xP {s:List Nat} {i:Nat} (hi:i<l.length) (hy:s.length<3∨(i:Int)≠xO s):eR l s (i+1)=eR l s i++ [l[i]]:=by
 unfold eR
 rw[List.take_succ_eq_append_getElem hi]
 by_cases hs:s.length<3
 ·rw[if_pos hs,if_pos hs]
 ·rw[if_neg hs,if_neg hs]
  have bI:=hy.resolve_left hs
  cases s with
  | nil=>simp at hs
  | cons a t=>
   simp only[List.headD_cons]
   have bI:i≠a:=fun e=>bI (by show(i:Int)=(a:Int);rw[e])
   by_cases ha:a<i
   ·rw[List.eraseIdx_append_of_lt_length (by simp;omega)]
   ·rw[List.eraseIdx_of_length_le (by simp;omega),List.eraseIdx_of_length_le (by simp;omega)]
theorem Jd {s:List Nat} {i:Nat} (hi:i<l.length) (hs:¬s.length<3) (hn:(i:Int)=xO s):eR l s (i+1)=eR l s i:=by
 unfold eR
 rw[List.take_succ_eq_append_getElem hi,if_neg hs,if_neg hs]
 cases s with
 | nil=>simp at hs
 | cons a t=>
  simp only[List.headD_cons]
  have e:i=a:=by have:(i:Int)=(a:Int):=hn;omega
  subst e
  have hlen:(l.take i).length=i:=by simp;omega
  rw[List.eraseIdx_append_of_length_le (by omega),List.eraseIdx_of_length_le (k:=i) (l:=l.take i) (by omega),hlen]
  simp
theorem xQ (s:List Nat) (i:Nat):(eR l s i).length<=i:=by
 unfold eR
 split
 ·simp;omega
 ·exact Nat.le_trans (List.length_eraseIdx_le _ _) (by simp;omega)
theorem yH {xs:List Value} (r:Row aY B h b n c l) (hx:eG aY A h l xs) (Et:Cells h b xs) (hA:∀k,A k->k<h.size) (hR:cG A h m b2 n2 c2) (hn:n<=100000000) {K:KV}
  (hk:∀b' n' c' h',bN aY A h' h.size 79 b' n' c' (fp l m)->KB h h'->K (.slice b' n' c') h'):
  zC 207 [.slice b n c,.agg ⟨[.int .i64 m.1,S m.2.1,.slice b2 n2 c2]⟩] h K:=by
 refine Je.ok _ _ _ _ _ _ _ _ _ _ (af fun x3 h1 v1 k1 e1 _=>iD (r.kb k1) ?_)
 have hl:=r.len
 have agc:=qv l
 refine⟨(n - behind l)+1,?_⟩
 have second:∀h2,KB h1 h2->Je.n5 b n c x3 ((cM l m).length:Int) (xO (cM l m)) (fun fJ fK fL h=>K (.slice fJ fK fL) h) (fun fJ fK fL h=>K (.slice fJ fK fL) h) h2:=by
  intro h2 k2
  have key:∀k i h5 b9 c9,i+k=n->KB h1 h5->bN aY A h5 h1.size 79 b9 (eR l (cM l m) i).length c9 (eR l (cM l m) i)->
    Je.Ac (fun z3 z9b z9n z9c h=>Je.n7 z3 z9b z9n z9c (fun fJ fK fL h=>K (.slice fJ fK fL) h) (fun fJ fK fL h=>K (.slice fJ fK fL) h) h)
     (fun z3 z9b z9n z9c h=>Je.n7 z3 z9b z9n z9c (fun fJ fK fL h=>K (.slice fJ fK fL) h) (fun fJ fK fL h=>K (.slice fJ fK fL) h) h)
     (fun fJ fK fL h=>K (.slice fJ fK fL) h) (k+1) b n c x3 ((cM l m).length:Int) (xO (cM l m)) b9 (eR l (cM l m) i).length c9 (i:Int) h5:=by
   intro k
   induction k with
   | zero=>
    intro i h5 b9 c9 hi k5 o9
    have e:i=n:=by omega
    subst e
    have v5:=v1.kb k5
    have k1s:=k1.1
    have k5s:=k5.1
    have hlen:=xQ (l:=l) (cM l m) i
    refine bX (by omega) ⟨_,v5.cell 0 rfl,_,v5.cell 1 rfl,_,_,_,v5.cell 2 rfl,af fun a6 h6 v6 k6 e6 _=>?_⟩
    have JE:=k5.trans k6
    have hR6:cG A h6 m b2 n2 c2:=hR.kb (k1.trans JE)
    have k6s:=k6.1
    refine bN.sE cZ (o9.kb k6) (fun k hk=>by have:=hA k hk;omega) v6 hR6 (by simp only[maxLen];omega) (by omega) (by omega) fun b7 c7 h7 o7 g7=>hk b7 _ c7 h7 ?_ (dW.vN (k1.trans JE) g7 fun a e=>by have:=o9.lo a e;omega)
    have e2:eR l (cM l m) i++ [m]=fp l m:=by
     unfold eR fp
     rw[List.take_of_length_le (by omega)]
     split <;> rfl
    rw[e2] at o7
    exact o7.lower k1s
   | succ k ih=>
    intro i h5 b9 c9 hi k5 o9
    have bM:i<l.length:=by omega
    have hlen:=xQ (l:=l) (cM l m) i
    have yes:(cM l m).length<3∨(i:Int)≠xO (cM l m)->∀(Kn Ke3:Je.T7) (qI:Je.T6) (Kr:Je.T0),(∀b7 c7 h7,KB h1 h7->bN aY A h7 h1.size 79 b7 (eR l (cM l m) (i+1)).length c7 (eR l (cM l m) (i+1))->Kn b n c x3 ((cM l m).length:Int) (xO (cM l m)) b7 (eR l (cM l m) (i+1)).length c7 (i:Int) h7)->
      Je.n16 b n c x3 ((cM l m).length:Int) (xO (cM l m)) b9 (eR l (cM l m) i).length c9 (i:Int) true Kn Ke3 qI Kr h5:=by
     intro hy Kn Ke3 qI Kr ZX
     have e7:(eR l (cM l m) (i+1)).length=(eR l (cM l m) i).length+1:=by rw[xP bM hy];simp
     rw[e7] at ZX
     have J6:KB h h5:=k1.trans k5
     obtain⟨a,b',n',c',eb,m0,m1,m2,Ss⟩:=kz (hx.keep ((KB.w J6).less fun k hk=>hk.2) fun _ h _=>h) (fun j u hu=>by
      obtain⟨q,e,ec⟩:=Et j u hu
      exact⟨q,e,(KB.w J6).cell (fS ec) ec⟩) bM
     subst eb
     refine⟨⟨by omega,by omega⟩,⟨_,m0,_,m1,_,_,_,m2,af fun a6 h6 v6 k6 e6 _=>?_⟩⟩
     have JE:=k5.trans k6
     have k6s:=k6.1
     have k5s:=k5.1
     have k1s:=k1.1
     refine bN.sE cZ (o9.kb k6) (fun k hk=>by have:=hA k hk;omega) v6 (Ss.kb k6) (by simp only[maxLen];omega) (by omega) (by omega) fun b7 c7 h7 o7 g7=>ZX b7 c7 h7 (dW.vN JE g7 o9.lo) ?_
     rw[xP bM hy];exact o7
    refine bQ (by omega) (bh (fun h3=>yes (.inl (by omega)) _ _ _ _ fun b7 c7 h7 k7 o7=>⟨aG (by omega) (by omega),ih (i+1) h7 b7 c7 (by omega) k7 o7⟩) fun h3=>bh (fun hf=>?_) fun hf=>yes (.inr hf) _ _ _ _ fun b7 c7 h7 k7 o7=>⟨aG (by omega) (by omega),ih (i+1) h7 b7 c7 (by omega) k7 o7⟩)
    have en:=Jd bM (by omega) hf
    have:=ih (i+1) h5 b9 c9 (by omega) k5 (by rw[en];exact o9)
    rw[en] at this
    exact⟨aG (by omega) (by omega),this⟩
  have e0:eR l (cM l m) 0=[]:=by unfold eR;simp
  have:=key n 0 h2 none 0 (by omega) k2 (by rw[e0];exact bN.none _ _ _ _)
  rw[e0] at this
  exact⟨n+1,this⟩
 have key:∀k i h5,behind l+i+k=n->KB h1 h5->(m.1<0->i=0)->
   Je.uH (fun AY AZ A7 z3 z5 z6 h=>Je.n5 AY AZ A7 z3 z5 z6 (fun fJ fK fL h=>K (.slice fJ fK fL) h) (fun fJ fK fL h=>K (.slice fJ fK fL) h) h)
    (fun AY AZ A7 z3 z5 z6 h=>Je.n5 AY AZ A7 z3 z5 z6 (fun fJ fK fL h=>K (.slice fJ fK fL) h) (fun fJ fK fL h=>K (.slice fJ fK fL) h) h)
    (fun fJ fK fL h=>K (.slice fJ fK fL) h) (k+1) b n c x3 ((iM l m (behind l) i).length:Int) (xO (iM l m (behind l) i)) ((behind l+i:Nat):Int) h5:=by
  intro k
  induction k with
  | zero=>
   intro i h5 hi k5 eJ
   refine bX (by omega) ?_
   have e:iM l m (behind l) i=cM l m:=by
    unfold cM
    split
    ·rename_i hm
     rw[eJ hm];rfl
    ·congr 1;omega
   rw[e]
   exact second h5 k5
  | succ k ih=>
   intro i h5 hi k5 eJ
   have bM:behind l+i<l.length:=by omega
   have v5:=v1.kb k5
   have Xg:(iM l m (behind l) i).length<=i:=by
    unfold iM
    exact Nat.le_trans (List.length_filter_le _ _) (by rw[List.length_range'];exact Nat.le_refl _)
   refine bQ (by omega) ⟨_,v5.cell 0 rfl,bh (fun hp=>?_) fun hp=>?_⟩
   ·refine⟨_,v5.cell 0 rfl,_,v5.cell 1 rfl,_,_,_,v5.cell 2 rfl,(r.kb (k1.trans k5)).bn bM rfl fun a Qu=>Gi Qu fun b' n' c' Ss=>xL (hR.kb (k1.trans k5)) Ss fun h6 k6=>?_⟩
    have um:=xN l m (behind l) i
    rw[aJ bM] at um
    have go:=ih (i+1) h6 (by omega) (k5.trans k6) (fun h=>by omega)
    refine aR (fun ha=>⟨aG (by omega) (by omega),?_⟩) fun ha=>⟨aG (by omega) (by omega),?_⟩
    ·rw[if_pos ha] at um
     rw[um,List.length_append,List.length_singleton,D6] at go
     refine bh (fun hf=>⟨aG (by omega) (by omega),?_⟩) fun hf=>⟨aG (by omega) (by omega),?_⟩
     ·rw[if_pos hf] at go
      exact go
     ·rw[if_neg hf] at go
      exact go
    ·rw[if_neg (by rw[ha];simp)] at um
     rw[um] at go
     exact go
   ·have yF:i=0:=eJ (by omega)
    subst yF
    have e:cM l m=[]:=by unfold cM;rw[if_pos (by omega)]
    have:=second h5 k5
    rw[e] at this
    exact this
 exact key (n - behind l) 0 h1 (by omega) (KB.refl _) fun _=>rfl
end
theorem D7 {α:Type} {E:El α} {t e0 by':Nat} (ap:oG Tryz.prog E t e0 by') (Xg:Df (Tryz.prog.underlying t)=true) {A:Nat->Prop} {h:H} {b:OA} {n c:Nat} {l:List α} {xs:List Value} {x y:Operand} (hA:∀k,A k->k<h.size)
  (he:eG E A h l xs) (hc:Cells h b xs) (hl:l.length=n) (hcap:n<=c) (hz:b=none->c=0) (hn:n<=1000000) (hb:by'<=1000)
  {Kr:OA->Nat->Nat->H->Prop} (hk:∀b' c' h',bN E A h' h.size e0 b' n c' l->KB h h'->Kr b' n c' h'):
  bf Tryz.prog (dX .eql t x y (.slice b n c) (.slice none 0 0)) h fun v9 cS=>au v9 fun Uc=>cond Uc (Kr none 0 0 cS) (aw cS #[] e0 fun a12 fi=>bf Tryz.prog (Builtin.append_ #[t,t] t ⟨[(.slice (some a12) 0 0),(.slice b n c)]⟩) fi fun oU fZ=>aA oU fun gQ gR gS=>Kr gQ gR gS fZ):=by
 refine(xa Xg ?_).h
 refine ag (aR (fun e=>?_) fun e=>?_)
 ·have hb:b=none:=by simpa using e
  have hc:=hz hb
  have Pe:n=0:=by omega
  subst Pe
  have:l=[]:=List.eq_nil_of_length_eq_zero hl
  subst this
  exact hk none 0 h (bN.none _ _ _ _) (KB.refl h)
 ·refine af (cs:=[]) fun a h1 v1 k1 e1 s1=>?_
  have o1:bN E A h1 h.size e0 (some a) 0 0 []:=⟨dY.nil _ _ _ _ _,(fun q e=>by cases e;omega),(fun q e=>by cases e;exact v1.lt),fun e=>by cases e⟩
  have Th:(0+n)*by'<=140737488355328:=by
   have:(0+n)*by'<=1000000*1000:=Nat.mul_le_mul (by omega) hb
   omega
  refine bN.append ap o1 hA hl (he.keep ((KB.w k1).less fun k hk=>hk.2) fun _ h _=>h) (fun j v hv=>by
   obtain⟨q,e,ec⟩:=hc j v hv
   exact⟨q,e,(KB.w k1).cell (fS ec) ec⟩) (by simp only[maxLen];omega) Th (by omega) fun b' c' h' o' g'=>aC ?_
  rw[Nat.zero_add] at o' ⊢
  exact hk b' c' h' o' (g'.vN k1 fun q e=>by cases e;omega)
theorem fw {A:Nat->Prop} {h:H} {K:KV} {b:OA} {n c:Nat} {l:List aS} {xs:List Value} (hA:∀k,A k->k<h.size) (he:eG aY A h l xs) (hc:Cells h b xs) (hl:l.length=n) (hcap:n<=c) (hz:b=none->c=0) (hn:n<=1000000)
  (hk:∀b' c' h',bN aY A h' h.size 79 b' n c' l->KB h h'->K (.slice b' n c') h'):zC 63 [.slice b n c] h K:=
 Xf0.ok _ _ _ _ _ (D7 (Kr:=fun b n c h=>K (.slice b n c) h) cZ (by kernel_rfl) hA he hc hl hcap hz hn (by decide) hk)
theorem BM {h:H} {K:KV} {b:OA} {n c:Nat} {l:List aP} {A0:Nat->Prop} {xs:List Value} (he:eG bp A0 h l xs) (hc:Cells h b xs) (hl:l.length=n) (hcap:n<=c) (hz:b=none->c=0) (hn:n<=1000000)
  (hk:∀b' c' h',bN bp vm h' h.size 77 b' n c' l->KB h h'->K (.slice b' n c') h'):zC 196 [.slice b n c] h K:=
 Xf1.ok _ _ _ _ _ (D7 (Kr:=fun b n c h=>K (.slice b n c) h) iz (by kernel_rfl) (A:=vm) (fun k hk=>hk.elim) (eG.flat kI he) hc hl hcap hz hn (by decide) hk)
section
variable {h h1:H} {K:KV} {col:cd} {s ty:Nat} {w t:Addr} {op:List aP} {mk:List aS} {fo:Bool} {hi:Int}
theorem ZY (W:bs h col s ty w t op mk fo hi) {p k:Nat} {col':cd} (hc:col' w.block=some (s,0)) (hp:p≠0) (h2:col' k=none∨col' k=some (s,p)):k≠w.block:=fun e=>by
 subst e
 rcases h2 with h2 | h2
 ·rw[hc] at h2;cases h2
 ·rw[hc] at h2;cases h2;exact hp rfl
theorem dZ (W:bs h col s ty w t op mk fo hi) (f:bj h col) (k:KB h h1) {b:OA} {n c:Nat} {mk':List aS} (o':bN aY (bT col h) h1 h.size 79 b n c mk') {Q:H->Prop}
  (hk:∀h',bs h' (cw col h b (s,2)) s ty w t op mk' fo hi->al (fun k=>k=s) h col h' (cw col h b (s,2))->bj h' (cw col h b (s,2))->cell h' (w.add 2)=some (.slice b n c)->Q h'):aZ (w.add 2) [.slice b n c] 0 h1 Q:=by
 obtain⟨ob,oc,mb,mn,mc,v,o,om⟩:=W.ex
 refine ck (m:=2) (i:=0) (v.kb k) (by show 2+0+1<=5;omega) fun h3 v3 k3 s3=>?_
 have B9:∀q,q<h.size->cw col h b (s,2) q=col q:=fun q hq=>eL hq
 have zv:cw col h b (s,2) w.block=some (s,0):=by rw[B9 _ v.lt];exact W.col
 have f1:bj h1 (cw col h b (s,2)):=f.cw k.1 o'.hi
 have ZZ:∀q,q<h1.size->∀p,p≠0->(cw col h b (s,2) q=none∨cw col h b (s,2) q=some (s,p))->q≠w.block:=fun q hq p hp h2=>ZY W zv hp h2
 have o1:du bp h1 (cw col h b (s,2)) (s,1) 77 ob op.length oc op:=o.keep k.w B9 fun q hq _=>hq
 have o3:=o1.keep (h':=h3) (col':=cw col h b (s,2)) k3.w (fun _ _=>rfl) fun q hq h2=>ZZ q hq 1 (by decide) h2
 have Z0:du aY h1 (cw col h b (s,2)) (s,2) 79 b n c mk':=o'.toC k.1
 have Ay:=Z0.keep (h':=h3) (col':=cw col h b (s,2)) k3.w (fun _ _=>rfl) fun q hq h2=>ZZ q hq 2 (by decide) h2
 exact hk h3 ⟨⟨ob,oc,b,n,c,v3,o3,Ay⟩,zv,W.rh⟩
  ⟨(k.less fun q hq=>hq.1).trans (k3.less fun q hq e=>hq.2 s 0 rfl (by rw[e];exact W.col)),B9⟩ (fun q hq=>f1 q (by rw[<-s3];exact hq)) (v3.cell 2 rfl)
theorem tX (W:bs h col s ty w t op mk fo hi) (f:bj h col) (k:KB h h1) {b:OA} {n c:Nat} {TH:List aP} (o':bN bp vm h1 h.size 77 b n c TH) {Q:H->Prop}
  (hk:∀h',bs h' (cw col h b (s,1)) s ty w t TH mk fo hi->al (fun k=>k=s) h col h' (cw col h b (s,1))->bj h' (cw col h b (s,1))->cell h' (w.add 1)=some (.slice b n c)->Q h'):aZ (w.add 1) [.slice b n c] 0 h1 Q:=by
 obtain⟨ob,oc,mb,mn,mc,v,o,om⟩:=W.ex
 have hlen:=o'.len
 refine ck (m:=1) (i:=0) (v.kb k) (by show 1+0+1<=5;omega) fun h3 v3 k3 s3=>?_
 have B9:∀q,q<h.size->cw col h b (s,1) q=col q:=fun q hq=>eL hq
 have zv:cw col h b (s,1) w.block=some (s,0):=by rw[B9 _ v.lt];exact W.col
 have f1:bj h1 (cw col h b (s,1)):=f.cw k.1 o'.hi
 have ZZ:∀q,q<h1.size->∀p,p≠0->(cw col h b (s,1) q=none∨cw col h b (s,1) q=some (s,p))->q≠w.block:=fun q hq p hp h2=>ZY W zv hp h2
 have Z0:du aY h1 (cw col h b (s,1)) (s,2) 79 mb mn mc mk:=om.keep k.w B9 fun q hq _=>hq
 have Ay:=Z0.keep (h':=h3) (col':=cw col h b (s,1)) k3.w (fun _ _=>rfl) fun q hq h2=>ZZ q hq 2 (by decide) h2
 have oA:bN bp (bT col h) h1 h.size 77 b n c TH:=⟨o'.own.flat kI,o'.lo,o'.hi,o'.nil⟩
 have o1:du bp h1 (cw col h b (s,1)) (s,1) 77 b n c TH:=oA.toC k.1
 have o3:=o1.keep (h':=h3) (col':=cw col h b (s,1)) k3.w (fun _ _=>rfl) fun q hq h2=>ZZ q hq 1 (by decide) h2
 subst hlen
 exact hk h3 ⟨⟨b,c,mb,mn,mc,v3,o3,Ay⟩,zv,W.rh⟩
  ⟨(k.less fun q hq=>hq.1).trans (k3.less fun q hq e=>hq.2 s 0 rfl (by rw[e];exact W.col)),B9⟩ (fun q hq=>f1 q (by rw[<-s3];exact hq)) (v3.cell 1 rfl)
theorem pw (W:bs h col s ty w t op mk fo hi) (f:bj h col) {a:Addr} {n c:Nat} (hc:cell h (w.add 2)=some (.slice (some a) n c)) {i:Nat} (Ax:i<mk.length) {id:Int} (hid:bc .i64 id) {Q:H->Prop}
  (hk:∀h',bs h' col s ty w t op (mk.set i (id,mk[i].2)) fo hi->al (fun k=>k=s) h col h' col->bj h' col->cell h' (w.add 2)=some (.slice (some a) n c)->Q h'):aZ ((a.add (i*3)).add 0) [.int .i64 id] 0 h Q:=by
 obtain⟨ob,oc,mb,mn,mc,v,o,om⟩:=W.ex
 have e1:some (Value.slice (some a) n c)=some (.slice mb mn mc):=hc.symm.trans (v.cell 2 rfl)
 cases e1
 obtain⟨xs,ow,en⟩:=om.own.own
 have hl:=om.len
 rcases ow.is with ⟨h0,_⟩ | ⟨g,cur,ea,yp,hg,hcs,qh⟩
 ·omega
 cases ea
 have JA:g<h.size:=(Array.getElem?_eq_some_iff.1 hg).1
 have wV:xs.length=n*3:=ow.len
 have hcs:cur.size=c*3:=hcs
 have qh:cur.toList.take (n*3)=xs:=qh
 have hcap:=ow.cap
 have uw:i*3<n*3:=by omega
 have ha:((((⟨g,0,none⟩:Addr).add (i*3)).add 0).add 0)=⟨g,i*3,none⟩:=by rw[add_zero',add_zero',IJ]
 have Ln:i*3<cur.size:=by omega
 unfold aZ
 rw[ha]
 refine⟨⟨cur[i*3],by unfold cell;simp only[hg];simp[Ln]⟩,by unfold AL;simp only[hg];simp,?_⟩
 show Q (eE h ⟨g,i*3,none⟩ (.int .i64 id))
 have jO:eE h ⟨g,i*3,none⟩ (.int .i64 id)=h.setIfInBounds g (.cells (cur.setIfInBounds (i*3) (.int .i64 id)) 79 (0,0)):=by
  unfold eE
  apply Array.ext_getElem?
  intro k
  rw[Array.getElem?_modify,Array.getElem?_setIfInBounds]
  by_cases hk:g=k
  ·subst hk
   rw[if_pos rfl,if_pos rfl,if_pos JA,hg];rfl
  ·rw[if_neg hk,if_neg hk]
 have Gl:=om.col _ rfl
 have Gl:col g=some (s,2):=Gl
 have kx:KX g h (eE h ⟨g,i*3,none⟩ (.int .i64 id)):=⟨by rw[jO];simp,fun k hk=>by rw[jO,Array.getElem?_setIfInBounds,if_neg (fun e=>hk e.symm)]⟩
 have hs:(eE h ⟨g,i*3,none⟩ (.int .i64 id)).size=h.size:=by rw[jO];simp
 have hwg:w.block≠g:=fun e=>by have:=W.col;rw[e,Gl] at this;cases this
 have v':Var (eE h ⟨g,i*3,none⟩ (.int .i64 id)) w ty [.pointer (some t),.slice ob op.length oc,.slice (some ⟨g,0,none⟩) n c,.bool fo,.int .i64 hi]:=v.keep kx.w hwg
 have o':=o.keep (h':=eE h ⟨g,i*3,none⟩ (.int .i64 id)) (col':=col) kx.w (fun _ _=>rfl) fun k hk h2 e=>by
  subst e
  rcases h2 with h2 | h2
  ·rw[Gl] at h2;cases h2
  ·rw[Gl] at h2;cases h2
 have hx:mk[i]? =some mk[i]:=List.getElem?_eq_getElem Ax
 have Z1:eG aY (bT col h) h (mk.set i (id,mk[i].2)) (xs.set (i*3+0) (.int .i64 id)):=eG.set en hx (by decide) fun cs hR=>by
  obtain⟨c1,c2,e,h1,h2⟩:=hR
  rw[h1.1] at e
  subst e
  exact⟨[.int .i64 id],c2,rfl,⟨rfl,hid⟩,h2⟩
 have en3:eG aY (bT col (eE h ⟨g,i*3,none⟩ (.int .i64 id))) (eE h ⟨g,i*3,none⟩ (.int .i64 id)) (mk.set i (id,mk[i].2)) (xs.set (i*3+0) (.int .i64 id)):=
  Z1.keep (kx.w.less fun k hk e=>by have h9:col k=none:=hk.1.1;rw[e,Gl] at h9;cases h9) fun k hk _=>⟨hk.1,by rw[hs];exact hk.2⟩
 refine hk _ ⟨⟨ob,oc,some ⟨g,0,none⟩,n,c,v',o',⟨⟨by rw[List.length_set];exact hl,xs.set (i*3+0) (.int .i64 id),⟨by rw[List.length_set];exact ow.len,ow.cap,ow.max,.inr ⟨g,cur.setIfInBounds (i*3) (.int .i64 id),rfl,yp,?_,?_,?_⟩⟩,en3⟩,om.col,fun q e=>by rw[hs];exact om.hi q e,om.nil⟩⟩,W.col,W.rh⟩
  (al.kx kx Gl rfl) (fun k hk=>f k (by rw[<-hs];exact hk)) (v'.cell 2 rfl)
 ·rw[jO,Array.getElem?_setIfInBounds,if_pos rfl,if_pos JA]
 ·rw[Array.size_setIfInBounds];exact hcs
 ·show(cur.setIfInBounds (i*3) (.int .i64 id)).toList.take (n*3)=_
  rw[Array.toList_setIfInBounds,xi,qh];rfl
end
section
variable {A B:Nat->Prop} {h:H} {K:KV} {b b2:OA} {n c n2 c2:Nat}
end
theorem pQ {m:WM} (G:aV m.ns) {sp:Int} {nm:Bs} {gB:List bx}:aV (bt m sp nm gB).ns:=(G.bF _ _ _ _ _).cV _ _ _
theorem ic {m:WM} (G:aV m.ns) {sp:Int} {nm:Bs} {gB:List bx}:(bt m sp nm gB).ns.length=m.ns.length+1:=by
 show(cV _ _ _ _).1.length=_
 rw[fy (G.bF _ _ _ _ _)]
 show(m.ns++ [_]).length=_
 simp
noncomputable def uF (m:WM) (tx:Bs):WM:={m with ns:=(cV (bF m.ns (bG 3 0 [] [] tx)).1 (cU m).1 (cU m).2 m.ns.length).1}
theorem sF {A:Nat->Prop} {h:H}:Row aW A h none 0 0 []:=⟨rfl,Nat.le_refl _,Nat.zero_le _,fun i x hx=>by simp at hx⟩
end Go.Proofs
