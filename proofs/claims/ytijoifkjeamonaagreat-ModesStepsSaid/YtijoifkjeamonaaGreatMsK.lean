import Derived.Test.YtijoifkjeamonaaGreatHc
import Derived.Test.YtijoifkjeamonaaGreatDoE
import Derived.Test.YtijoifkjeamonaaGreatOpA
import Derived.Test.YtijoifkjeamonaaGreatTxA
import Derived.Test.YtijoifkjeamonaaGreatPcD
import Derived.Test.YtijoifkjeamonaaGreatHmI
import Derived.Test.YtijoifkjeamonaaGreatTxD
import Derived.Test.YtijoifkjeamonaaGreatTxF
namespace Go.Proofs
open Go Go.Sh
set_option linter.unusedVariables false
set_option maxRecDepth 100000
inductive cd where
 | mk (kind space:Int) (name:Bs) (attrs:List bw) (text:Bs) (kids:List cd)
def cd.kind:cd->Int | .mk k _ _ _ _ _=>k
def cd.space:cd->Int | .mk _ s _ _ _ _=>s
def cd.name:cd->Bs | .mk _ _ n _ _ _=>n
def cd.attrs:cd->List bw | .mk _ _ _ a _ _=>a
def cd.text:cd->Bs | .mk _ _ _ _ t _=>t
def cd.kids:cd->List cd | .mk _ _ _ _ _ k=>k
abbrev jL (x:cd) (ab:OA) (an ac:Nat) (kb:OA) (kn kc:Nat):List Value:=[.int .u8 x.kind,.int .u8 x.space,S x.name,.slice ab an ac,S x.text,.slice kb kn kc]
def tf:Nat->(Nat->Prop)->H->cd->List Value->Prop
 | 0,_,_,_,_=>False
 | d+1,A,h,x,cs=>∃ab an ac kb kn kc,cs=jL x ab an ac kb kn kc/\Row aY A h ab an ac x.attrs/\(ab=none->ac=0)/\
   (x.kids.length=kn/\kn<=kc/\kc<=maxLen/\∀(i:Nat) y,x.kids[i]? =some y->∃a,kb=some a/\A (a.add (i*6)).block/\∃cs,tf d A h y cs/\∀(j:Nat) v,cs[j]? =some v->cell h ((a.add (i*6)).add j)=some v)/\
   (kb=none->kc=0)/\bd .u8 x.kind/\bd .u8 x.space/\x.name.length<=maxLen/\x.text.length<=maxLen
theorem Af:∀{d:Nat} {A:Nat->Prop} {h:H} {x:cd} {cs:List Value},tf d A h x cs->cs.length=6
 | 0,_,_,_,_,h=>h.elim
 | d+1,_,_,_,_,⟨ab,an,ac,kb,kn,kc,e,_⟩=>by rw[e];rfl
theorem xH:∀{d:Nat} {A A':Nat->Prop} {h h':H} {x:cd} {cs:List Value},tf d A h x cs->bZ (fun k=>A k/\k<h.size) h h'->(∀k,A k->k<h.size->A' k)->tf d A' h' x cs
 | 0,_,_,_,_,_,_,h,_,_=>h.elim
 | d+1,A,A',h,h',x,cs,⟨ab,an,ac,kb,kn,kc,e,ra,hz,⟨h1,h2,h3,h4⟩,pN,r1,r2,r3,r4⟩,k,hb=>
  ⟨ab,an,ac,kb,kn,kc,e,ra.keep k hb,hz,⟨h1,h2,h3,fun i y hy=>by
   obtain⟨a,ea,hA,RM,hR,hc⟩:=h4 i y hy
   have hl:=Af hR
   have cR:(a.add (i*6)).block<h.size:=by
    have:=fP (hc 0 _ (List.getElem?_eq_getElem (by omega)))
    rwa[br] at this
   exact⟨a,ea,hb _ hA cR,RM,xH hR k hb,fun j v hv=>k.cell (by rw[br];exact⟨hA,cR⟩) (hc j v hv)⟩⟩,pN,r1,r2,r3,r4⟩
def dZ (d:Nat):El cd where
 sz:=6
 R:=tf d
 len:=fun _ _ _ _ h=>Af h
 one:=fun _ _ _ _ h v hv=>by
  cases d with
  | zero=>exact h.elim
  | succ d=>
   obtain⟨ab,an,ac,kb,kn,kc,e,_⟩:=h
   rw[e] at hv
   simp only[jL,List.mem_cons,List.not_mem_nil,or_false] at hv
   rcases hv with rfl | rfl | rfl | rfl | rfl | rfl <;> rfl
 keep:=fun _ _ _ _ _ _ h k hb=>xH h k hb
 pos:=by decide
theorem M4 {d:Nat} {A:Nat->Prop} {h:H} {x:cd} {ab kb:OA} {an ac kn kc:Nat} (ra:Row aY A h ab an ac x.attrs) (hz:ab=none->ac=0) (rk:Row (dZ d) A h kb kn kc x.kids) (pN:kb=none->kc=0)
  (r1:bd .u8 x.kind) (r2:bd .u8 x.space) (r3:x.name.length<=maxLen) (r4:x.text.length<=maxLen):tf (d+1) A h x (jL x ab an ac kb kn kc):=
 ⟨ab,an,ac,kb,kn,kc,rfl,ra,hz,⟨rk.len,rk.cap,rk.max,fun i y hy=>by
  obtain⟨a,e,hA,cs,hR,hc⟩:=rk.gE i y hy
  exact⟨a,e,hA,cs,hR,hc⟩⟩,pN,r1,r2,r3,r4⟩
theorem zx {d:Nat} {A:Nat->Prop} {h:H} {x:cd} {cs:List Value} (hR:tf (d+1) A h x cs):∃ab an ac kb kn kc,cs=jL x ab an ac kb kn kc/\Row aY A h ab an ac x.attrs/\(ab=none->ac=0)/\Row (dZ d) A h kb kn kc x.kids/\(kb=none->kc=0)/\bd .u8 x.kind/\bd .u8 x.space/\x.name.length<=maxLen/\x.text.length<=maxLen:=by
 obtain⟨ab,an,ac,kb,kn,kc,e,ra,hz,⟨h1,h2,h3,h4⟩,pN,r1,r2,r3,r4⟩:=hR
 exact⟨ab,an,ac,kb,kn,kc,e,ra,hz,⟨h1,h2,h3,fun i y hy=>by
  obtain⟨a,e,hA,cs,hR,hc⟩:=h4 i y hy
  exact⟨a,e,hA,cs,hR,hc⟩⟩,pN,r1,r2,r3,r4⟩
theorem Nd {d:Nat} {A:Nat->Prop} {h:H} {a:Addr} {x:cd} {K:Int->Int->Bs->OA->Nat->Nat->Bs->OA->Nat->Nat->Prop} (hA:At (dZ (d+1)) A h a x)
  (hk:∀ab an ac kb kn kc,Row aY A h ab an ac x.attrs->(ab=none->ac=0)->Row (dZ d) A h kb kn kc x.kids->(kb=none->kc=0)->bd .u8 x.kind->bd .u8 x.space->x.name.length<=maxLen->x.text.length<=maxLen->K x.kind x.space x.name ab an ac x.text kb kn kc):
  ∃i,cell h (a.add 0)=some (.int .u8 i)/\∃j,cell h (a.add 1)=some (.int .u8 j)/\∃s,cell h (a.add 2)=some (S s)/\∃ab an ac,cell h (a.add 3)=some (.slice ab an ac)/\∃tx,cell h (a.add 4)=some (S tx)/\∃kb kn kc,cell h (a.add 5)=some (.slice kb kn kc)/\K i j s ab an ac tx kb kn kc:=by
 obtain⟨_,cs,hR,hc⟩:=hA
 obtain⟨ab,an,ac,kb,kn,kc,rfl,ra,hz,rk,pN,r1,r2,r3,r4⟩:=zx hR
 exact⟨_,hc 0 _ rfl,_,hc 1 _ rfl,_,hc 2 _ rfl,_,_,_,hc 3 _ rfl,_,hc 4 _ rfl,_,_,_,hc 5 _ rfl,hk ab an ac kb kn kc ra hz rk pN r1 r2 r3 r4⟩
theorem QB (d:Nat):oH Tryz.prog (dZ d) 25 70 88:=kr (sz:=6) (by kernel_rfl) rfl
def uU (A:Nat->Prop) (h:H) (b:OA) (n:Nat):Prop:=n=0∨∃q,b=some q/\A q.block/\∃c e,h[q.block]? =some (.cells c e (0,0))
theorem uU.keep {A A':Nat->Prop} {h h':H} {b:OA} {n:Nat} (t:uU A h b n) (k:bZ (fun k=>A k/\k<h.size) h h') (hb:∀k,A k->k<h.size->A' k):uU A' h' b n:=by
 rcases t with h0 | ⟨q,e,hA,c,f,hg⟩
 ·exact Or.inl h0
 ·have cR:=(Array.getElem?_eq_some_iff.1 hg).1
  exact Or.inr ⟨q,e,hb _ hA cR,c,f,k.2 _ ⟨hA,cR⟩ _ hg rfl⟩
theorem Ee {h:H} {base e sz n c:Nat} {b:OA} {xs:List Value} {A:Nat->Prop} (o:Own h base e sz b n c xs) (hA:∀q,b=some q->A q.block):uU A h b n:=by
 rcases o.is with h1 | ⟨g,cur,e1,_,hg,_⟩
 ·exact Or.inl h1.1
 ·exact Or.inr ⟨_,e1,hA _ e1,_,_,hg⟩
def uV:Nat->(Nat->Prop)->H->cd->List Value->Prop
 | 0,_,_,_,_=>False
 | d+1,A,h,x,cs=>∃ab an ac kb kn kc,cs=jL x ab an ac kb kn kc/\Row aY A h ab an ac x.attrs/\(ab=none->ac=0)/\
   (x.kids.length=kn/\kn<=kc/\kc<=maxLen/\∀(i:Nat) y,x.kids[i]? =some y->∃a,kb=some a/\A (a.add (i*6)).block/\∃cs,uV d A h y cs/\∀(j:Nat) v,cs[j]? =some v->cell h ((a.add (i*6)).add j)=some v)/\
   (kb=none->kc=0)/\bd .u8 x.kind/\bd .u8 x.space/\x.name.length<=maxLen/\x.text.length<=maxLen/\uU A h ab an/\uU A h kb kn
theorem Ag:∀{d:Nat} {A:Nat->Prop} {h:H} {x:cd} {cs:List Value},uV d A h x cs->cs.length=6
 | 0,_,_,_,_,h=>h.elim
 | d+1,_,_,_,_,⟨_,_,_,_,_,_,e,_⟩=>by rw[e];rfl
theorem xI:∀{d:Nat} {A A':Nat->Prop} {h h':H} {x:cd} {cs:List Value},uV d A h x cs->bZ (fun k=>A k/\k<h.size) h h'->(∀k,A k->k<h.size->A' k)->uV d A' h' x cs
 | 0,_,_,_,_,_,_,h,_,_=>h.elim
 | d+1,A,A',h,h',x,cs,⟨ab,an,ac,kb,kn,kc,e,ra,hz,⟨h1,h2,h3,h4⟩,pN,r1,r2,r3,r4,t1,t2⟩,k,hb=>
  ⟨ab,an,ac,kb,kn,kc,e,ra.keep k hb,hz,⟨h1,h2,h3,fun i y hy=>by
   obtain⟨a,ea,hA,RM,hR,hc⟩:=h4 i y hy
   have hl:=Ag hR
   have cR:(a.add (i*6)).block<h.size:=by
    have:=fP (hc 0 _ (List.getElem?_eq_getElem (by omega)))
    rwa[br] at this
   exact⟨a,ea,hb _ hA cR,RM,xI hR k hb,fun j v hv=>k.cell (by rw[br];exact⟨hA,cR⟩) (hc j v hv)⟩⟩,pN,r1,r2,r3,r4,t1.keep k hb,t2.keep k hb⟩
def jM (d:Nat):El cd where
 sz:=6
 R:=uV d
 len:=fun _ _ _ _ h=>Ag h
 one:=fun _ _ _ _ h v hv=>by
  cases d with
  | zero=>exact h.elim
  | succ d=>
   obtain⟨ab,an,ac,kb,kn,kc,e,_⟩:=h
   rw[e] at hv
   simp only[jL,List.mem_cons,List.not_mem_nil,or_false] at hv
   rcases hv with rfl | rfl | rfl | rfl | rfl | rfl <;> rfl
 keep:=fun _ _ _ _ _ _ h k hb=>xI h k hb
 pos:=by decide
theorem Nf {d:Nat} {A:Nat->Prop} {h:H} {x:cd} {ab kb:OA} {an ac kn kc:Nat} (ra:Row aY A h ab an ac x.attrs) (hz:ab=none->ac=0) (rk:Row (jM d) A h kb kn kc x.kids) (pN:kb=none->kc=0)
  (r1:bd .u8 x.kind) (r2:bd .u8 x.space) (r3:x.name.length<=maxLen) (r4:x.text.length<=maxLen) (t1:uU A h ab an) (t2:uU A h kb kn):uV (d+1) A h x (jL x ab an ac kb kn kc):=
 ⟨ab,an,ac,kb,kn,kc,rfl,ra,hz,⟨rk.len,rk.cap,rk.max,fun i y hy=>by
  obtain⟨a,e,hA,cs,hR,hc⟩:=rk.gE i y hy
  exact⟨a,e,hA,cs,hR,hc⟩⟩,pN,r1,r2,r3,r4,t1,t2⟩
theorem HX:∀{d:Nat} {A:Nat->Prop} {h:H} {x:cd} {cs:List Value},uV d A h x cs->tf d A h x cs
 | 0,_,_,_,_,h=>h.elim
 | d+1,_,_,_,_,⟨ab,an,ac,kb,kn,kc,e,ra,hz,⟨h1,h2,h3,h4⟩,pN,r1,r2,r3,r4,_,_⟩=>
  ⟨ab,an,ac,kb,kn,kc,e,ra,hz,⟨h1,h2,h3,fun i y hy=>by
   obtain⟨a,ea,hA,RM,hR,hc⟩:=h4 i y hy
   exact⟨a,ea,hA,RM,HX hR,hc⟩⟩,pN,r1,r2,r3,r4⟩
theorem Ng {d:Nat} {A:Nat->Prop} {h:H}:∀{l:List cd} {xs:List Value},eH (jM d) A h l xs->eH (dZ d) A h l xs
 | [],_,h=>h
 | x::l,_,⟨cs,ys,e,hR,hE⟩=>⟨cs,ys,e,HX hR,Ng hE⟩
theorem Nh (d:Nat):oH Tryz.prog (jM d) 25 70 88:=kr (sz:=6) (by kernel_rfl) rfl
structure fK {α:Type} (E:El α) (h:H) (base e:Nat) (b:OA) (n c:Nat) (l:List α):Prop where
 own:dX E (fun k=>base<=k/\FF h b k) h base e b n c l
 lo:∀a,b=some a->base<=a.block
 hi:∀a,b=some a->a.block<h.size
 nil:b=none->c=0
section
variable {α:Type} {E:El α}
theorem fK.none (h:H) (base e:Nat):fK E h base e none 0 0 []:=⟨dX.nil _ _ _ _ _,(fun _ e=>by cases e),(fun _ e=>by cases e),fun _=>rfl⟩
theorem fK.kw {h h':H} {base e n c:Nat} {b:OA} {l:List α} (o:fK E h base e b n c l) (k:bZ (fun k=>base<=k) h h'):fK E h' base e b n c l:=
 ⟨o.own.keep (B:=fun k=>base<=k) k (fun _ h _=>h.1) (fun k' hk EB=>⟨hk.1,Nat.lt_of_lt_of_le EB k.1,hk.2.2⟩) fun _ _ h _=>h,o.lo,fun a e=>Nat.lt_of_lt_of_le (o.hi a e) k.1,o.nil⟩
theorem fK.kb {h h':H} {base e n c:Nat} {b:OA} {l:List α} (o:fK E h base e b n c l) (k:KB h h'):fK E h' base e b n c l:=
 ⟨o.own.keep (B:=rS h.size) (KB.w k) (fun _ _ h=>h) (fun k' hk EB=>⟨hk.1,Nat.lt_of_lt_of_le EB k.1,hk.2.2⟩) fun _ _ _ h=>h,o.lo,fun a e=>Nat.lt_of_lt_of_le (o.hi a e) k.1,o.nil⟩
theorem fK.lower {h:H} {base ly e n c:Nat} {b:OA} {l:List α} (o:fK E h base e b n c l) (hb:ly<=base):fK E h ly e b n c l:=
 ⟨(o.own.keep (B:=fun _=>True) (bZ.refl _ _) (fun _ _ _=>trivial) (fun k hk _=>⟨Nat.le_trans hb hk.1,hk.2⟩) fun _ _ _ _=>trivial).lower hb,fun a e=>Nat.le_trans hb (o.lo a e),o.hi,o.nil⟩
theorem fK.row {h:H} {base e n c:Nat} {b:OA} {l:List α} (o:fK E h base e b n c l):Row E (fun k=>base<=k/\k<h.size) h b n c l:=o.own.row (fun _ h=>⟨h.1,h.2.1⟩) fun g _ h hb=>⟨hb,h⟩
theorem fK.aau {d:Nat} {h:H} {base e n c:Nat} {b:OA} {l:List cd} (o:fK (jM d) h base e b n c l):fK (dZ d) h base e b n c l:=by
 obtain⟨xs,h1,h2⟩:=o.own.own
 exact⟨⟨o.own.len,xs,h1,Ng h2⟩,o.lo,o.hi,o.nil⟩
theorem fK.append {t ty e by':Nat} {P:Program} (ap:oH P E t e by') {h:H} {sb rb:OA} {n c m k base:Nat} {l l2:List α} (o:fK E h base e sb n c l) (r:Row E (fun k=>base<=k/\FF h sb k) h rb m k l2)
  (jZ:n+m<=maxLen) (hb:(n+m)*by'<=140737488355328) (hO:base<=h.size) {K:KV}
  (hk:∀b' c' h',fK E h' base e b' (n+m) c' (l++l2)->dW h h' sb->K (.slice b' (n+m) c') h'):
  aZ P (Builtin.append_ #[t,t] ty ⟨[.slice sb n c,.slice rb m k]⟩) h K:=by
 refine dX.append ap o.own r jZ hb hO (fun k hk _=>hk.2.2) fun b2 c2 h' o' hg hb h0=>hk b2 c2 h' ⟨?_,?_,?_,?_⟩ hg
 ·refine o'.keep (bZ.refl (fun _=>True) _) (fun _ _ _=>trivial) (fun k FG EB=>⟨FG.1,EB,fun x hx=>?_⟩) fun _ _ _ _=>trivial
  rcases hb with rfl | rfl
  ·exact FG.2.2 x hx
  ·cases hx
   have:=FG.2.1
   show h.size≠k
   omega
 ·intro x hx
  rcases hb with rfl | rfl
  ·exact o.lo x hx
  ·cases hx;exact hO
 ·intro x hx
  rcases hb with rfl | rfl
  ·exact Nat.lt_of_lt_of_le (o.hi x hx) hg.size
  ·obtain⟨xs,ho,_⟩:=o'.own
   rcases ho.is with h1 | ⟨g,cur,e1,_,Uh,_⟩
   ·have:=h0 h1.1
    exact Nat.lt_of_lt_of_le (o.hi x (this.1▸hx)) hg.size
   ·rw[hx] at e1;cases e1;exact(Array.getElem?_eq_some_iff.1 Uh).1
 ·intro Zh
  obtain⟨xs,ho,_⟩:=o'.own
  rcases ho.is with h1 | ⟨g,cur,e1,_⟩
  ·exact h1.2
  ·rw[Zh] at e1;cases e1
theorem _root_.Go.Sh.bH.behind (hf:Flat E) {h:H} {base e n c:Nat} {b:OA} {l:List α} (o:bH E h base e b n c l) {A:Nat->Prop} (hA:∀k,base<=k->k<h.size->A k):Row E A h b n c l:=by
 obtain⟨xs,h1,h2⟩:=o.own.own
 by_cases hn:n=0
 ·subst hn
  have:l=[]:=List.eq_nil_of_length_eq_zero o.own.len
  subst this
  exact⟨rfl,h1.cap,h1.max,fun i x hx=>by simp at hx⟩
 ·exact Row.of (eH.flat hf h2) h1.cells o.own.len h1.cap h1.max fun q e=>hA _ (o.lo q e) (o.hi q e)
end
def qQ (ns:List ay) (id:Int):List Int:=if 0<=id then((ns[id.toNat]?).map (·.kids)).getD [] else []
def nN (ns:List ay) (k:Int) (kids:List cd):cd:=
 match ns[k.toNat]? with
 | some z=>.mk z.kind z.space z.name z.attrs z.text kids
 | none=>.mk 0 0 [] [] [] []
def cY:Nat->List ay->Int->List cd
 | 0,_,_=>[]
 | d+1,ns,id=>(qQ ns id).map fun k=>nN ns k (cY d ns k)
def Deep:Nat->List ay->Int->Prop
 | 0,_,_=>False
 | d+1,ns,id=>∀k ∈ qQ ns id,Deep d ns k
theorem Deep.up:∀{d:Nat} {ns:List ay} {id:Int},Deep d ns id->Deep (d+1) ns id
 | 0,_,_,h=>h.elim
 | d+1,_,_,h=>fun k hk=>(h k hk).up
theorem Deep.mono {d d':Nat} {ns:List ay} {id:Int} (h:Deep d ns id) (hd:d<=d'):Deep d' ns id:=by
 induction hd with
 | refl=>exact h
 | step _ ih=>exact ih.up
theorem kJ {ns:List ay} {j:Nat} {z:ay} (h:ns[j]? =some z):qQ ns (j:Int)=z.kids:=by
 unfold qQ
 rw[if_pos (by omega),Int.toNat_natCast,h];rfl
theorem Ef (rk:Nat->Nat):∀n,∃M,∀i,i<n->rk i<=M
 | 0=>⟨0,fun i h=>by omega⟩
 | n+1=>by
  obtain⟨M,hM⟩:=Ef rk n
  refine⟨M+rk n,fun i h=>?_⟩
  by_cases e:i=n
  ·subst e;omega
  ·have:=hM i (by omega);omega
theorem aV.deep {ns:List ay} (G:aV ns):∃D,∀d,D<=d->∀id:Int,Deep d ns id:=by
 obtain⟨rk,hr⟩:=G.CW
 obtain⟨M,hM⟩:=Ef rk ns.length
 have key:∀f (j:Nat),j<ns.length->M<rk j+f->Deep f ns (j:Int):=by
  intro f
  induction f with
  | zero=>intro j hj h;have:=hM j hj;omega
  | succ f ih=>
   intro j hj h k hk
   have hz:ns[j]? =some ns[j]:=List.getElem?_eq_getElem hj
   rw[kJ hz] at hk
   obtain⟨m,w,rfl,hw,hp⟩:=(G.kT j _ k hz).1 hk
   have:=hr m j w hw hp
   exact ih m (dv hw) (by omega)
 refine⟨M+2,fun d hd id=>?_⟩
 have h1:Deep (M+2) ns id:=by
  intro k hk
  unfold qQ at hk
  split at hk
  ·rename_i h0
   cases hz:ns[id.toNat]? with
   | none=>rw[hz] at hk;cases hk
   | some z=>
    rw[hz] at hk
    have hk:k ∈ z.kids:=hk
    obtain⟨m,w,rfl,hw,hp⟩:=(G.kT id.toNat z k hz).1 hk
    exact key (M+1) m (dv hw) (by omega)
  ·cases hk
 exact h1.mono hd
section
variable {h:H} {K:KV} {col:bY} {s i p:Nat} {t a:Addr} {cp:List Addr} {ns:List ay} {x y:ay}
theorem BU (G:aV ns):∀(d:Nat) (id:Int) {h:H} {K:KV} (T:bz h col s t cp ns) (hd:Deep d ns id)
  (hk:∀h' b n c,KB h h'->fK (jM d) h' h.size 70 b n c (cY d ns id)->K (.slice b n c) h'),
  zC 25 [.pointer (some t),.int .i64 id] h K:=by
 intro d
 induction d with
 | zero=>intro id h K T hd;exact hd.elim
 | succ d ihd=>
  intro id h K T hd hk
  have hlen:=T.len
  have Iv:=T.mQ
  refine UU.ok _ _ _ _ (jc T (fun hn=>cL (cw (by kernel_rfl) (ag (aD ?_)))) fun i a x e hx ha=>cL (cw (by kernel_rfl) (ag (aC ?_))))
  ·have e:cY (d+1) ns id=[]:=by
    unfold cY qQ
    by_cases h0:0<=id
    ·rw[if_pos h0,List.getElem?_eq_none (by omega)];rfl
    ·rw[if_neg h0];rfl
   rw[e] at hk
   exact hk h none 0 0 (KB.refl h) (fK.none _ _ _)
  ·subst e
   obtain⟨ab,an,ac,kb,kn,kc,v,ra,hz,ok,oG⟩:=(T.nodes i x a hx ha).ex
   have dJ:=ok.len
   have hfx:=G.mQ hx
   have ew:cY (d+1) ns (i:Int)=x.kids.map fun k=>nN ns k (cY d ns k):=by
    show(qQ ns (i:Int)).map _=_
    rw[kJ hx]
   have hdk:∀k ∈ x.kids,Deep d ns k:=by
    have:=hd
    intro k yg
    exact this k (by rw[kJ hx];exact yg)
   rw[ew] at hk
   refine aa ⟨_,_,_,v.cell 7 rfl,kn+1,?_⟩
   have key:∀N m h2 ob oc (out:List cd),m+N=kn->KB h h2->fK (jM (d+1)) h2 h.size 70 ob m oc out->out=(x.kids.take m).map (fun k=>nN ns k (cY d ns k))->
     UU.F7 (fun Gg Gh Gi h=>UU.n6 Gg Gh Gi (fun fE fF fG h=>K (.slice fE fF fG) h) (fun fE fF fG h=>K (.slice fE fF fG) h) h) (fun Gg Gh Gi h=>UU.n6 Gg Gh Gi (fun fE fF fG h=>K (.slice fE fF fG) h) (fun fE fF fG h=>K (.slice fE fF fG) h) h) (fun fE fF fG h=>K (.slice fE fF fG) h) (N+1) (some t) ob m oc kb kn kc (kn:Int) (m:Int) h2:=by
    intro N
    induction N with
    | zero=>
     intro m h2 ob oc out TR k2 o2 eo
     unfold UU.F7
     refine cg (by omega) ?_
     rw[List.take_of_length_le (by omega)] at eo
     rw[eo] at o2
     exact hk h2 ob m oc k2 o2
    | succ N ih=>
     intro m h2 ob oc out TR k2 o2 eo
     have jR:m<x.kids.length:=by omega
     unfold UU.F7
     have Iw:fB h2 kb kn kc x.kids:=ok.keep (KB.w k2) fun q e=>ok.hi q e
     refine bK (by omega) ((Iw.row (A:=fun _=>True) fun _ _=>trivial).bj jR rfl fun q hA=>CU hA fun _=>?_)
     obtain⟨j,z,ej,il,KU⟩:=(G.kT i x _ hx).1 (List.getElem_mem jR)
     have fU:=dv il
     have T2:=T.kb k2
     obtain⟨lb,lc,vt,o,uo⟩:=T2.ex
     have hdj:Deep d ns (j:Int):=by rw[<-ej];exact hdk _ (List.getElem_mem jR)
     rw[ej]
     refine aa ⟨_,_,_,vt.cell 0 rfl,?_⟩
     refine o.row.bj (i:=j) (by omega) rfl fun q2 oT=>zD oT (aa ?_)
     have TT:cp[j]? =some (cp[j]'(by omega)):=List.getElem?_eq_getElem (by omega)
     have Nj:=T2.nodes j z _ il TT
     obtain⟨XD,O5,XE,Xo,RL,Xp,v2,R8,pN,YN,O6⟩:=Nj.ex
     have agy:=R8.len
     have hfa:=Nj.fa
     refine⟨_,v2.kg 0 rfl,_,v2.kg 1 rfl,_,v2.kg 2 rfl,_,_,_,v2.kg 3 rfl,_,v2.kg 4 rfl,_,_,_,v2.kg 5 rfl,af fun a3 h3 v3 k3 e3 s3=>aQ v3 (Nat.le_refl 6) fun h4 v4 k4 s4=>⟨_,_,_,v4.cell 3 rfl,?_⟩⟩
     have uu:KB h2 h4:=KB.step k3 k4 (by omega)
     have Xy:=k2.1
     refine sI (R8.JC.keep ((KB.w uu).less fun k hk=>hk.2) (B':=fun _=>True) fun _ _ _=>trivial) pN (by omega) fun b5 c5 h5 o5 k5=>aH ?_
     have hs5:=k5.1
     refine ihd (j:Int) (T2.kb (uu.trans k5)) hdj fun h6 b6 n6 c6 k6 o6=>aH ?_
     have hs6:=k6.1
     have v6:=(v4.kb k5).kb k6
     refine cv (m:=3) (i:=0) v6 (by show 3+0+1<=6;omega) fun h7 v7 k7 s7=>cv (m:=5) (i:=0) v7 (by show 5+0+1<=6;omega) fun h8 v8 k8 s8=>?_
     have v8:Var h8 a3 70 [.int .u8 z.kind,.int .u8 z.space,S z.name,.slice b5 O5 c5,S z.text,.slice b6 n6 c6]:=v8
     refine⟨_,v8.cell 0 rfl,_,v8.cell 1 rfl,_,v8.cell 2 rfl,_,_,_,v8.cell 3 rfl,_,v8.cell 4 rfl,_,_,_,v8.cell 5 rfl,af fun a9 h9 v9 k9 e9 s9=>?_⟩
     have OZ:KB h2 h8:=KB.step (KB.step ((uu.trans k5).trans k6) k7 (by omega)) k8 (by omega)
     have o9:fK (jM (d+1)) h9 h.size 70 ob m oc out:=(o2.kb OZ).kb k9
     have Qx:=o2.hi
     have oa:bH aY h9 h4.size 67 b5 O5 c5 z.attrs:=(((o5.kb k6).wZ k7 gK fun g hg=>by omega).wZ k8 gK fun g hg=>by omega).kb k9
     have QA:fK (jM d) h9 h5.size 70 b6 n6 c6 (cY d ns j):=((o6.kw (k7.w.less fun g (hg:h5.size<=g)=>by omega)).kw (k8.w.less fun g (hg:h5.size<=g)=>by omega)).kb k9
     have hR:uV (d+1) (fun k=>h.size<=k/\FF h9 ob k) h9 (.mk z.kind z.space z.name z.attrs z.text (cY d ns j)) [.int .u8 z.kind,.int .u8 z.space,S z.name,.slice b5 O5 c5,S z.text,.slice b6 n6 c6]:=
      Nf (x:=.mk z.kind z.space z.name z.attrs z.text (cY d ns j)) (oa.behind gK fun k h1 u0=>⟨by omega,u0,fun q e=>by have:=Qx q e;omega⟩) oa.nil
       (QA.row.keep (bZ.refl _ _) fun k hk hs=>⟨by have:=hk.1;omega,hs,fun q e=>by have:=Qx q e;have:=hk.1;omega⟩) QA.nil Nj.rk Nj.rs Nj.fn Nj.ft
       (Ee (Classical.choose_spec oa.own.own).1 fun q e=>⟨by have:=oa.lo q e;omega,oa.hi q e,fun q' e'=>by have:=oa.lo q e;have:=Qx q' e';omega⟩)
       (Ee (Classical.choose_spec QA.own.own).1 fun q e=>⟨by have:=QA.lo q e;omega,QA.hi q e,fun q' e'=>by have:=QA.lo q e;have:=Qx q' e';omega⟩)
     have r9:Row (jM (d+1)) (fun k=>h.size<=k/\FF h9 ob k) h9 (some a9) 1 1 [.mk z.kind z.space z.name z.attrs z.text (cY d ns j)]:=v9.wJ hR ⟨by omega,v9.lt,fun q e=>by have:=Qx q e;omega⟩
     refine fK.append (Nh (d+1)) o9 r9 (by simp only[maxLen];omega) (by omega) (by omega) fun QC Tr df Vs g10=>aH ⟨lJ (by omega) (by omega),?_⟩
     refine ih (m+1) df QC Tr _ (by omega) ?_ Vs ?_
     ·exact g10.yj ((k2.trans OZ).trans k9) fun q e=>o2.lo q e
     ·rw[eo,List.take_add_one,List.getElem?_eq_getElem jR,List.map_append,ej]
      congr 1
      show [_]=[nN ns (j:Int) _]
      unfold nN
      rw[Int.toNat_natCast,il]
   exact key kn 0 h none 0 [] (by omega) (KB.refl h) (fK.none _ _ _) rfl
theorem um (G:aV ns) (d:Nat) (id:Int) {h:H} {K:KV} (T:bz h col s t cp ns) (hd:Deep d ns id)
  (hk:∀h' b n c,KB h h'->fK (dZ d) h' h.size 70 b n c (cY d ns id)->K (.slice b n c) h'):
  zC 25 [.pointer (some t),.int .i64 id] h K:=BU G d id T hd fun h' b n c k o=>hk h' b n c k o.aau
end
theorem Nk (x y:bw):qU [S x.1,S x.2] [S y.1,S y.2]=decide (x=y):=by
 obtain⟨x1,x2⟩:=x;obtain⟨y1,y2⟩:=y
 simp only[qU,eqV,Bool.and_true]
 rw[Bool.eq_iff_iff]
 simp
theorem VA {x y:bw} {p q:Operand} {h:H} {K:Value->Prop} (hk:K (.bool (!decide (x=y)))):sK Tryz.prog (dy .neq 67 p q (.agg ⟨[S x.1,S x.2]⟩) (.agg ⟨[S y.1,S y.2]⟩)) h K:=
 Di (by kernel_rfl) (by kernel_rfl) (by rw[Nk];exact hk)
theorem nM {α:Type} {a b:List α} (hl:a.length=b.length) (h:∀(i:Nat) (ha:i<a.length) (hb:i<b.length),a[i]=b[i]):a=b:=
 List.ext_getElem hl h
section
variable {A B:Nat->Prop} {h:H} {b b2:OA} {n c n2 c2:Nat} {K:KV}
theorem Gr {a:Addr} {m:bw} {Q:Bs->Bs->Prop} (hA:At aY A h a m) (hk:m.1.length<=maxLen->m.2.length<=maxLen->Q m.1 m.2):
  ∃s,cell h (a.add 0)=some (S s)/\∃t,cell h (a.add 1)=some (S t)/\Q s t:=
 ⟨_,by have:=hA.fst.str.1;rwa[add_zero'],_,hA.snd.str.1,hk hA.fst.str.2 hA.snd.str.2⟩
theorem jn {l l2:List bw} (r:Row aY A h b n c l) (r2:Row aY B h b2 n2 c2 l2) (hk:K (.bool (decide (l=l2))) h):
  zC 32 [.slice b n c,.slice b2 n2 c2] h K:=by
 refine Xdj.ok _ _ _ _ _ _ _ _ ?_
 have hl:=r.len
 have uo:=r2.len
 have hm:n<=maxLen:=Nat.le_trans r.cap r.max
 simp only[maxLen] at hm
 refine bf (fun hn=>⟨n+1,?_⟩) fun hn=>?_
 ·have key:∀k i,i+k=n->(∀j (h1:j<l.length) (h2:j<l2.length),j<i->l[j]=l2[j])->
    Xdj.ia (fun h=>K (.bool true) h) (fun h=>K (.bool true) h) (fun y4 h=>K (.bool y4) h) (k+1) b n c b2 n2 c2 (i:Int) h:=by
   intro k
   induction k with
   | zero=>
    intro i hi bm
    refine cg (by omega) ?_
    have:l=l2:=nM (by omega) fun j h1 h2=>bm j h1 h2 (by omega)
    rw[decide_eq_true this] at hk
    exact hk
   | succ k ih=>
    intro i hi bm
    refine bK (by omega) (r.bj (by omega) rfl fun a hA=>Gr hA fun _ _=>r2.bj (i:=i) (by omega) rfl fun a2 oT=>Gr oT fun _ _=>VA ?_)
    refine aR (fun hd=>?_) fun hd=>⟨lJ (by omega) (by omega),ih (i+1) (by omega) fun j h1 h2 hj=>?_⟩
    ·have:l≠l2:=fun e=>by subst e;simp at hd
     rw[decide_eq_false this] at hk
     exact hk
    ·by_cases e:j<i
     ·exact bm j h1 h2 e
     ·have:j=i:=by omega
      subst this
      simpa using hd
  exact key n 0 (by omega) fun j _ _ hj=>absurd hj (Nat.not_lt_zero _)
 ·have:l≠l2:=fun e=>hn (by rw[<-hl,<-uo,e])
  rw[decide_eq_false this] at hk
  exact hk
end
noncomputable def Ah (a b:List cd):Bool:=@decide (a=b) (Classical.propDecidable _)
theorem j3 {a b:List cd} (h:a=b):Ah a b=true:=by unfold Ah;exact @decide_eq_true (a=b) (Classical.propDecidable _) h
theorem pG {a b:List cd} (h:a≠b):Ah a b=false:=by unfold Ah;exact @decide_eq_false (a=b) (Classical.propDecidable _) h
theorem Jg {a b:List cd}:Ah a b=true↔a=b:=⟨fun h=>Classical.byContradiction fun hn=>(by rw[pG hn] at h;cases h),j3⟩
theorem Jh {x y:cd} (h1:x.kind=y.kind) (h2:x.space=y.space) (h3:x.name=y.name) (h4:x.attrs=y.attrs) (h5:x.text=y.text) (h6:x.kids=y.kids):x=y:=by
 cases x;cases y
 simp only[cd.kind,cd.space,cd.name,cd.attrs,cd.text,cd.kids] at*
 subst h1;subst h2;subst h3;subst h4;subst h5;subst h6;rfl
theorem row_zero {A:Nat->Prop} {h:H} {b:OA} {n c:Nat} {l:List cd} (r:Row (dZ 0) A h b n c l):l=[]:=by
 cases l with
 | nil=>rfl
 | cons x l=>
  obtain⟨a,_,_,cs,hR,_⟩:=r.gE 0 x rfl
  exact hR.elim
theorem u5:∀(d:Nat) {A B:Nat->Prop} {h:H} {b b2:OA} {n c n2 c2:Nat} {K:KV} {l l2:List cd} (r:Row (dZ d) A h b n c l) (r2:Row (dZ d) B h b2 n2 c2 l2) (hk:∀h',KB h h'->K (.bool (Ah l l2)) h'),
  zC 12 [.slice b n c,.slice b2 n2 c2] h K:=by
 intro d
 induction d with
 | zero=>
  intro A B h b b2 n c n2 c2 K l l2 r r2 hk
  have e1:=row_zero r
  have e2:=row_zero r2
  have hl:=r.len
  have uo:=r2.len
  subst e1;subst e2
  rw[j3 rfl] at hk
  have hl:0=n:=hl
  have uo:0=n2:=uo
  refine XN.ok _ _ _ _ _ _ _ _ (bK (by omega) ⟨1,?_⟩)
  exact cg (by omega) (hk h (KB.refl h))
 | succ d ihd=>
  intro A B h b b2 n c n2 c2 K l l2 r r2 hk
  have hl:=r.len
  have uo:=r2.len
  have hm:n<=maxLen:=Nat.le_trans r.cap r.max
  simp only[maxLen] at hm
  refine XN.ok _ _ _ _ _ _ _ _ (bf (fun hn=>⟨n+1,?_⟩) fun hn=>?_)
  ·have key:∀k i h1,i+k=n->KB h h1->(∀j (h1:j<l.length) (h2:j<l2.length),j<i->l[j]=l2[j])->
     XN.ia (fun h=>K (.bool true) h) (fun h=>K (.bool true) h) (fun y4 h=>K (.bool y4) h) (k+1) b n c b2 n2 c2 (i:Int) h1:=by
    intro k
    induction k with
    | zero=>
     intro i h1 hi k1 bm
     unfold XN.ia
     refine cg (by omega) ?_
     have:l=l2:=nM (by omega) fun j h1 h2=>bm j h1 h2 (by omega)
     have h3:=hk h1 k1
     rw[j3 this] at h3
     exact h3
    | succ k ih=>
     intro i h1 hi k1 bm
     have bQ:i<l.length:=by omega
     have agI:i<l2.length:=by omega
     have no:∀h',KB h h'->l[i]≠l2[i]->K (.bool false) h':=fun h' k' bL=>by
      have h3:=hk h' k'
      rw[pG (fun e=>bL (by subst e;rfl))] at h3
      exact h3
     unfold XN.ia
     refine bK (by omega) ((r.kb k1).bj bQ rfl fun a hA=>Nd hA fun ab an ac kb kn kc ra hz rk pN _ _ _ _=>af fun a3 h3 v3 k3 e3 s3=>aQ v3 (Nat.le_refl 6) fun h4 v4 k4 s4=>?_)
     have nU:KB h1 h4:=KB.step k3 k4 (by omega)
     refine((r2.kb k1).kb nU).bj (i:=i) agI rfl fun a2 oT=>Nd oT fun XD O5 XE Xo RL Xp R8 hz3 rk2 hz4 _ _ _ _=>af fun a5 h5 v5 k5 e5 s5=>aQ v5 (Nat.le_refl 6) fun h6 v6 k6 s6=>?_
     have XR:KB h4 h6:=KB.step k5 k6 (by omega)
     have JN:KB h h6:=(k1.trans nU).trans XR
     have v4:Var h6 a3 70 (jL l[i] ab an ac kb kn kc):=v4.kb XR
     have v6:Var h6 a5 70 (jL l2[i] XD O5 XE Xo RL Xp):=v6
     refine⟨_,v4.cell 0 rfl,_,v6.cell 0 rfl,bf (fun e1=>?_) fun e1=>no h6 JN fun e=>e1 (by rw[e])⟩
     refine⟨_,v4.cell 1 rfl,_,v6.cell 1 rfl,bf (fun e2=>?_) fun e2=>no h6 JN fun e=>e2 (by rw[e])⟩
     refine⟨_,v4.cell 2 rfl,_,v6.cell 2 rfl,bf (fun e3=>?_) fun e3=>no h6 JN fun e=>e3 (by rw[e])⟩
     refine⟨_,v4.cell 4 rfl,_,v6.cell 4 rfl,bf (fun e4=>?_) fun e4=>no h6 JN fun e=>e4 (by rw[e])⟩
     refine⟨_,_,_,v4.cell 3 rfl,_,_,_,v6.cell 3 rfl,jn ((ra.kb nU).kb XR) (R8.kb XR) (ag (aR (fun e5=>?_) fun e5=>no h6 JN fun e=>by have:=of_decide_eq_false e5;exact this (by rw[e])))⟩
     refine⟨_,_,_,v4.cell 5 rfl,_,_,_,v6.cell 5 rfl,ihd ((rk.kb nU).kb XR) (rk2.kb XR) fun h7 k7=>ag (aR (fun e6=>⟨lJ (by omega) (by omega),ih (i+1) h7 (by omega) (JN.trans k7) fun j h1 h2 hj=>?_⟩) fun e6=>no h7 (JN.trans k7) fun e=>by rw[j3 (by rw[e])] at e6;cases e6)⟩
     by_cases e:j<i
     ·exact bm j h1 h2 e
     ·have:j=i:=by omega
      subst this
      exact Jh e1 e2 e3 (of_decide_eq_true e5) e4 (Jg.1 e6)
   exact key n 0 h (by omega) (KB.refl h) fun j _ _ hj=>absurd hj (Nat.not_lt_zero _)
  ·have:l≠l2:=fun e=>hn (by rw[<-hl,<-uo,e])
   have h3:=hk h (KB.refl h)
   rw[pG this] at h3
   exact h3
section
variable {h:H} {K:KV}
end
section
variable {A:Nat->Prop} {h:H} {a:Addr}
abbrev cI (A:Nat->Prop) (h:H) (m:aS) (b:OA) (n c:Nat):Prop:=aX.R A h m [.int .i64 m.1,S m.2.1,.slice b n c]
theorem jA {m:aS} {b:OA} {n c:Nat} (r:Row aY A h b n c m.2.2) (hz:b=none->c=0) (hr:bd .i64 m.1) (hs:m.2.1.length<=maxLen):cI A h m b n c:=
 ⟨[.int .i64 m.1],[S m.2.1,.slice b n c],rfl,⟨rfl,hr⟩,[S m.2.1],[.slice b n c],rfl,⟨rfl,hs⟩,b,n,c,rfl,r,hz⟩
theorem cI.inv {m:aS} {b:OA} {n c:Nat} (r:cI A h m b n c):Row aY A h b n c m.2.2/\(b=none->c=0)/\bd .i64 m.1/\m.2.1.length<=maxLen:=by
 obtain⟨c1,c2,e,⟨e1,hr⟩,c3,c4,e2,⟨e3,hs⟩,b',n',c',e4,r',hz⟩:=r
 subst e4;subst e3;subst e1;subst e2
 simp at e
 obtain⟨rfl,rfl,rfl⟩:=e
 exact⟨r',hz,hr,hs⟩
theorem cI.kb {h':H} {m:aS} {b:OA} {n c:Nat} (r:cI A h m b n c) (k:KB h h'):cI A h' m b n c:=aX.keep _ _ _ _ _ _ r ((SK.w k).less fun _ h=>h.2) fun _ h _=>h
theorem cI.kw {h':H} {m:aS} {b:OA} {n c:Nat} (r:cI A h m b n c) (k:KW h h'):cI A h' m b n c:=aX.keep _ _ _ _ _ _ r (k.less fun _ h=>h.2) fun _ h _=>h
theorem cI.any {m:aS} {b:OA} {n c:Nat} (r:cI A h m b n c):cI (fun _=>True) h m b n c:=aX.keep _ _ _ _ _ _ r (bZ.refl _ _) fun _ _ _=>trivial
theorem Gs {m:aS} {K:Int->Bs->OA->Nat->Nat->Prop} (hA:At aX A h a m) (hk:∀b n c,cI A h m b n c->K m.1 m.2.1 b n c):
  ∃i,cell h (a.add 0)=some (.int .i64 i)/\∃s,cell h (a.add 1)=some (S s)/\∃b n c,cell h (a.add 2)=some (.slice b n c)/\K i s b n c:=
 ⟨_,hA.fst.int.1,_,hA.snd.fst.str.1,rG (hA.snd.dt (k:=2) rfl) fun b n c r hz=>hk b n c (jA r hz hA.fst.int.2 hA.snd.fst.str.2)⟩
end
def gg (l:List aS):Nat->Nat
 | 0=>0
 | i+1=>if(l.getD i (0,[],[])).1<0 then i+1 else gg l i
def behind (l:List aS):Nat:=gg l l.length
theorem Eg {A:Nat->Prop} {h:H} {b:OA} {n c:Nat} {l:List aS} (r:Row aX A h b n c l) {K:KV} (hk:K (.int .i64 (behind l)) h):Xej.asks b n c K h:=by
 have hl:=r.len
 have hm:n<=maxLen:=Nat.le_trans r.cap r.max
 simp only[maxLen] at hm
 refine⟨aF (by omega) (by omega),n+1,?_⟩
 have key:∀i,i<=n->gg l i=behind l->Xej.cQ (fun h=>K (.int .i64 0) h) (fun h=>K (.int .i64 0) h) (fun y2 h=>K (.int .i64 y2) h) (i+1) b n c ((i:Int) - 1) h:=by
  intro i
  induction i with
  | zero=>
   intro _ e
   refine cg (by omega) ?_
   rw[<-e] at hk
   exact hk
  | succ i ih=>
   intro hi e
   refine bK (by omega) (r.idx (by omega) (by omega) rfl fun a yl hA=>CU (hA.fst) fun hr=>?_)
   have hx:((i+1:Nat):Int) - 1=(i:Int):=by omega
   have Zk:(((i+1:Nat):Int) - 1).toNat=i:=by omega
   unfold gg at e
   rw[aJ (by omega)] at e
   simp only[Zk]
   refine bf (fun eI=>⟨aF (by omega) (by omega),?_⟩) fun eI=>⟨aF (by omega) (by omega),?_⟩
   ·rw[if_pos eI] at e
    rw[<-e] at hk
    rw[show((i+1:Nat):Int) - 1+1=((i+1:Nat):Int) by omega]
    exact hk
   ·rw[if_neg eI] at e
    rw[hx]
    exact ih (by omega) e
 exact key n (Nat.le_refl _) (by rw[<-hl];rfl)
theorem iA {A:Nat->Prop} {h:H} {b:OA} {n c:Nat} {l:List aS} (r:Row aX A h b n c l) {K:KV} (hk:K (.int .i64 (behind l)) h):
  zC 176 [.slice b n c] h K:=Xej.ok _ _ _ _ _ (Eg r hk)
theorem pH (l:List aS):∀i,gg l i<=i
 | 0=>Nat.le_refl _
 | i+1=>by
  unfold gg
  split
  ·exact Nat.le_refl _
  ·exact Nat.le_succ_of_le (pH l i)
theorem qe (l:List aS):behind l<=l.length:=pH l _
theorem Nl {x y:bw} {p q:Operand} {h:H} {K:Value->Prop} (hk:K (.bool (decide (x=y)))):sK Tryz.prog (dy .eql 67 p q (.agg ⟨[S x.1,S x.2]⟩) (.agg ⟨[S y.1,S y.2]⟩)) h K:=
 Lu (by kernel_rfl) (by kernel_rfl) (by rw[Nk];exact hk)
theorem HY {A:Nat->Prop} {h:H} {a:Addr} {m:bw} {K:Bs->Bs->Prop} (hA:At aY A h a m) (hk:True->K m.1 m.2):∃s,cell h (a.add 0)=some (S s)/\∃t,cell h (a.add 1)=some (S t)/\K s t:=Gr hA fun _ _=>hk trivial
def fO (x y:aS):Bool:=decide (x.2.1=y.2.1)&&(decide (x.2.2.length=y.2.2.length)&&x.2.2.all fun a=>decide (a ∈ y.2.2))
section
variable {A B:Nat->Prop} {h:H} {b b2:OA} {n c n2 c2:Nat}
theorem xJ {x y:aS} (hx:cI A h x b n c) (hy:cI B h y b2 n2 c2) {K:KV} (hk:∀h',KB h h'->K (.bool (fO x y)) h'):
  zC 228 [.agg ⟨[.int .i64 x.1,S x.2.1,.slice b n c]⟩,.agg ⟨[.int .i64 y.1,S y.2.1,.slice b2 n2 c2]⟩] h K:=by
 refine SH.ok _ _ _ _ _ _ _ _ _ _ _ _ (af fun a1 h1 v1 k1 e1 _=>af fun a2 h2 v2 k2 e2 _=>?_)
 have Ci:At aX (fun _=>True) h2 a1 x:=(v1.at (A:=fun _=>True) (cI.any hx |>.kb k1) trivial).kb k2
 have oT:At aX (fun _=>True) h2 a2 y:=v2.at (A:=fun _=>True) (cI.any hy |>.kb (k1.trans k2)) trivial
 have hk:=hk h2 (k1.trans k2)
 refine Of Ci.snd.fst fun _=>Of oT.snd.fst fun _=>bf (fun e1=>?_) fun e1=>?_
 ·refine rG (Ci.snd.dt (k:=2) rfl) fun b n c r _=>rG (oT.snd.dt (k:=2) rfl) fun b2 n2 c2 r2 _=>bf (fun e2=>?_) fun e2=>?_
  ·have VB:x.2.2.length=y.2.2.length:=by rw[r.len,r2.len];omega
   have hm:x.2.2.length<=maxLen:=by rw[r.len];exact Nat.le_trans r.cap r.max
   simp only[maxLen] at hm
   refine⟨x.2.2.length+1,?_⟩
   have inner:∀(i:Nat) (hi:i<x.2.2.length) (Kn qA:SH.T5) (Ke1:SH.T4) (Ke0:SH.T3) (Kr:SH.T0)
     (k:Nat) (j:Nat) (is:Bool),j+k=y.2.2.length->(is=decide (x.2.2[i] ∈ y.2.2.take j))->
     qA a1 a2 i (decide (x.2.2[i] ∈ y.2.2)) h2->
     SH.aav Kn qA Ke1 Ke0 Kr (k+1) a1 a2 (i:Int) is (j:Int) h2:=by
    intro i hi Kn qA Ke1 Ke0 Kr k
    induction k with
    | zero=>
     intro j is hj QJ hK
     refine rG (oT.snd.dt (k:=2) rfl) fun b2 n2 c2 r2 _=>cg (by rw[<-r2.len];omega) ?_
     rw[show j=y.2.2.length by omega,List.take_length] at QJ
     rw[QJ];exact hK
    | succ k ih=>
     intro j is hj QJ hK
     have fU:j<y.2.2.length:=by omega
     have jF:y.2.2.take (j+1)=y.2.2.take j++ [y.2.2[j]]:=by rw[List.take_succ_eq_append_getElem fU]
     refine rG (oT.snd.dt (k:=2) rfl) fun b2 n2 c2 r2 _=>bK (by rw[<-r2.len];omega) ?_
     refine aR (fun e=>⟨aF (by omega) (by omega),ih (j+1) true (by omega) ?_ hK⟩) fun e=>?_
     ·rw[e] at QJ
      rw[jF]
      exact(decide_eq_true (List.mem_append_left _ (of_decide_eq_true QJ.symm))).symm
     ·refine rG (Ci.snd.dt (k:=2) rfl) fun b n c r _=>r.bj hi rfl fun a hA=>HY hA fun _=>rG (oT.snd.dt (k:=2) rfl) fun b2 n2 c2 r2 _=>r2.bj fU rfl fun a' Um=>HY Um fun _=>Nl ?_
      rw[e] at QJ
      have Mi:=of_decide_eq_false QJ.symm
      refine aR (fun hd=>⟨aF (by omega) (by omega),ih (j+1) true (by omega) ?_ hK⟩) fun hd=>⟨aF (by omega) (by omega),ih (j+1) false (by omega) ?_ hK⟩
      ·rw[jF]
       exact(decide_eq_true (List.mem_append_right _ (List.mem_singleton.2 (of_decide_eq_true hd)))).symm
      ·rw[jF]
       refine(decide_eq_false fun hm=>?_).symm
       rcases List.mem_append.1 hm with hm | hm
       ·exact Mi hm
       ·exact(of_decide_eq_false hd) (List.mem_singleton.1 hm)
   have key:∀k i,i+k=x.2.2.length->(∀j (hj:j<x.2.2.length),j<i->x.2.2[j] ∈ y.2.2)->
     SH.ia (fun h=>K (.bool true) h) (fun h=>K (.bool true) h) (fun y4 h=>K (.bool y4) h) (k+1) a1 a2 (i:Int) h2:=by
    intro k
    induction k with
    | zero=>
     intro i hi bm
     refine rG (Ci.snd.dt (k:=2) rfl) fun b n c r _=>cg (by rw[<-r.len];omega) ?_
     have:fO x y=true:=by
      unfold fO
      rw[decide_eq_true e1,decide_eq_true VB,Bool.true_and,Bool.true_and,List.all_eq_true]
      intro z hz
      obtain⟨j,hj,e⟩:=List.mem_iff_getElem.1 hz
      rw[<-e];exact decide_eq_true (bm j hj (by omega))
     rw[this] at hk;exact hk
    | succ k ih=>
     intro i hi bm
     have bQ:i<x.2.2.length:=by omega
     refine rG (Ci.snd.dt (k:=2) rfl) fun b n c r _=>bK (by rw[<-r.len];omega) ⟨y.2.2.length+1,?_⟩
     refine inner i bQ _ _ _ _ _ y.2.2.length 0 false (by omega) (by simp) ?_
     refine aR (fun hd=>⟨aF (by omega) (by omega),ih (i+1) (by omega) fun j hj hj2=>?_⟩) fun hd=>?_
     ·by_cases e:j<i
      ·exact bm j hj e
      ·have:j=i:=by omega
       subst this
       exact of_decide_eq_true hd
     ·have:fO x y=false:=by
       unfold fO
       have h3:(x.2.2.all fun a=>decide (a ∈ y.2.2))=false:=by
        rw[List.all_eq_false]
        exact⟨_,List.getElem_mem bQ,by rw[hd];simp⟩
       rw[h3,Bool.and_false,Bool.and_false]
      rw[this] at hk;exact hk
   exact key x.2.2.length 0 (by omega) fun j _ hj=>absurd hj (Nat.not_lt_zero _)
  ·have VB:x.2.2.length≠y.2.2.length:=by rw[r.len,r2.len];omega
   rwa[show fO x y=false by simp[fO,VB]] at hk
 ·rwa[show fO x y=false by simp[fO,e1]] at hk
theorem u4 {l l2:List aS} (r:Row aX A h b n c l) (r2:Row aX B h b2 n2 c2 l2) {K:KV} (hk:K (.bool (decide (l=l2))) h):
  zC 24 [.slice b n c,.slice b2 n2 c2] h K:=by
 refine Xdk.ok _ _ _ _ _ _ _ _ ?_
 have hl:=r.len
 have uo:=r2.len
 have hm:n<=maxLen:=Nat.le_trans r.cap r.max
 simp only[maxLen] at hm
 refine bf (fun hn=>⟨n+1,?_⟩) fun hn=>?_
 ·have hn':n=n2:=by omega
  have key:∀k i,i+k=n->(∀j (h1:j<l.length) (h2:j<l2.length),j<i->l[j]=l2[j])->
    Xdk.ia (fun h=>K (.bool true) h) (fun h=>K (.bool true) h) (fun y4 h=>K (.bool y4) h) (k+1) b n c b2 n2 c2 (i:Int) h:=by
   intro k
   induction k with
   | zero=>
    intro i hi bm
    refine cg (by omega) ?_
    have:l=l2:=nM (by omega) fun j h1 h2=>bm j h1 h2 (by omega)
    rw[decide_eq_true this] at hk
    exact hk
   | succ k ih=>
    intro i hi bm
    have h1:i<l.length:=by omega
    have h2:i<l2.length:=by omega
    have no:l[i]≠l2[i]->K (.bool false) h:=fun bL=>by
     have:l≠l2:=fun e=>by subst e;exact bL rfl
     rw[decide_eq_false this] at hk
     exact hk
    refine bK (by omega) (r.bj h1 rfl fun a hA=>CU hA.fst fun _=>r2.bj h2 rfl fun a2 oT=>CU oT.fst fun _=>bf (fun e1=>?_) fun e1=>no fun e=>e1 (by rw[e]))
    refine r.bj h1 rfl fun a hA=>Of hA.snd.fst fun _=>r2.bj h2 rfl fun a2 oT=>Of oT.snd.fst fun _=>bf (fun e2=>?_) fun e2=>no fun e=>e2 (by rw[e])
    refine r.bj h1 rfl fun a hA=>rG (hA.snd.dt (k:=2) rfl) fun b3 n3 c3 r3 _=>r2.bj h2 rfl fun a2 oT=>rG (oT.snd.dt (k:=2) rfl) fun b4 n4 c4 r4 _=>jn r3 r4 ?_
    refine aR (fun hd=>⟨aF (by omega) (by omega),ih (i+1) (by omega) fun j h1 h2 hj=>?_⟩) fun hd=>no fun e=>(of_decide_eq_false hd) (by rw[e])
    by_cases e:j<i
    ·exact bm j h1 h2 e
    ·have:j=i:=by omega
     subst this
     have e3:=of_decide_eq_true hd
     exact Prod.ext e1 (Prod.ext e2 e3)
  exact key n 0 (by omega) fun j _ _ hj=>absurd hj (Nat.not_lt_zero _)
 ·have:l≠l2:=fun e=>hn (by rw[<-hl,<-uo,e])
  rw[decide_eq_false this] at hk
  exact hk
end
def iH (A:Nat->Prop) (h:H) (l:List aS):Nat->List (List Value)->Prop
 | 0,xs=>xs=[]
 | i+1,xs=>∃(hi:i<l.length) (b:OA) (n c:Nat) (rest:List (List Value)),cI A h l[i] b n c/\xs=[.int .i64 i,.agg ⟨[.int .i64 l[i].1,S l[i].2.1,.slice b n c]⟩]::rest/\iH A h l i rest
theorem iH.kw {A:Nat->Prop} {h h':H} {l:List aS} (k:KW h h'):∀{i:Nat} {xs:List (List Value)},iH A h l i xs->iH A h' l i xs
 | 0,_,e=>e
 | i+1,_,⟨hi,b,n,c,rest,hm,e,hr⟩=>⟨hi,b,n,c,rest,hm.kw k,e,hr.kw k⟩
theorem iH.of {A:Nat->Prop} {h:H} {b:OA} {n c:Nat} {l:List aS} (r:Row aX A h b n c l):∀{i:Nat},i<=l.length->∃xs,iH A h l i xs
 | 0,_=>⟨[],rfl⟩
 | i+1,hi=>by
  obtain⟨rest,hr⟩:=iH.of r (i:=i) (by omega)
  obtain⟨a,e,hA⟩:=r.gE i _ (List.getElem?_eq_getElem (by omega))
  obtain⟨b',n',c',_,r',hz⟩:=(hA.snd.dt (k:=2) rfl).sl
  exact⟨_,by omega,b',n',c',rest,jA r' hz hA.fst.int.2 hA.snd.fst.str.2,rfl,hr⟩
theorem iH.len {A:Nat->Prop} {h:H} {l:List aS}:∀{i:Nat} {xs:List (List Value)},iH A h l i xs->∀x ∈ xs,x.length=2
 | 0,_,e,x,hx=>by simp[iH] at e;rw[e] at hx;cases hx
 | i+1,_,⟨hi,b,n,c,rest,hm,e,hr⟩,x,hx=>by
  rw[e] at hx
  rcases List.mem_cons.1 hx with rfl | hx
  ·rfl
  ·exact hr.len x hx
theorem kL {A:Nat->Prop} {h:H} {b:OA} {n c:Nat} {l:List aS} {a:Addr} (r:Row aX A h b n c l) (v:Var h a 40 [.slice b n c]):
  ∃xs,iH A h l l.length xs/\Hj Tryz.prog (.func (.func 182) ⟨[]⟩ ⟨[.pointer (some a)]⟩) h xs vf (fun k=>A k∨k=a.block):=by
 have hl:=r.len
 have hm:n<=maxLen:=Nat.le_trans r.cap r.max
 simp only[maxLen] at hm
 have cellsOf:∀i,i<=l.length->∃xs,iH A h l i xs/\∀(L:Nat) (J:List (List Value)->H->Prop) (Stop:H->Prop),
   (∀x rest h',J (x::rest) h'->tS Tryz.prog L ⟨x⟩ h' fun v lM=>(v=.bool true/\J rest lM/\yo (fun k=>A k∨k=a.block) h' lM)∨(v=.bool false/\Stop lM/\yo (fun k=>A k∨k=a.block) h' lM))->
   ∀h',bZ (fun k=>(A k∨k=a.block)/\k<h.size) h h'->J xs h'->
    Xfs.tX (fun h3=>J [] h3∨Stop h3) (fun h3=>J [] h3∨Stop h3) (fun h3=>J [] h3∨Stop h3) (i+1) (.func (.yield L) ⟨[]⟩ ⟨[]⟩) a ((i:Int) - 1) h':=by
  intro i
  induction i with
  | zero=>
   intro _
   exact⟨[],rfl,fun L J Stop hY h' hk hJ=>cg (by omega) (.inl hJ)⟩
  | succ i ih=>
   intro hi
   obtain⟨rest,hr,hw⟩:=ih (by omega)
   obtain⟨ar,On,hA⟩:=r.gE i _ (List.getElem?_eq_getElem (by omega))
   obtain⟨b',n',c',eb,r',hz⟩:=(hA.snd.dt (k:=2) rfl).sl
   refine⟨_,⟨by omega,b',n',c',rest,jA r' hz hA.fst.int.2 hA.snd.fst.str.2,rfl,hr⟩,fun L J Stop hY h' hk hJ=>?_⟩
   have hx:((i+1:Nat):Int) - 1=(i:Int):=by omega
   rw[hx]
   have R9:A ar.block:=by have:=hA.1;rwa[br] at this
   have nX:∀j x,cell h ((ar.add (i*3)).add j)=some x->cell h' ((ar.add (i*3)).add j)=some x:=fun j x e=>hk.cell (by rw[br,br];exact⟨.inl R9,by have:=fP e;rwa[br,br] at this⟩) e
   have v':Var h' a 40 [.slice b n c]:=v.keep hk ⟨.inr rfl,v.lt⟩
   refine bK (by omega) ⟨_,_,_,v'.dA rfl,⟨by omega,by omega⟩,?_⟩
   rw[On]
   refine⟨_,nX 0 _ hA.fst.int.1,_,nX 1 _ hA.snd.fst.str.1,_,_,_,nX 2 _ eb,?_⟩
   first | rw[tZ] | (dsimp only[];rw[tZ])
   refine fun w uB=>?_
   obtain⟨fn,tmps,assign,body,ku,Bl⟩:=hY _ _ _ hJ w uB
   refine⟨fn,tmps,assign,body,ku,Bl.mono ?_⟩
   rintro e w' ⟨v,he,ho,mA⟩
   refine⟨v,he,ho,?_⟩
   have hxx:(i:Int) - 1=(i:Int) - (1:Int):=rfl
   rcases mA with ⟨rfl,Zn,FI⟩ | ⟨rfl,hS,FI⟩
   ·exact⟨aF (by omega) (by omega),hw L J Stop hY _ (bZ.trans (uB▸hk) (FI.keep.less fun _ h=>h.1)) Zn⟩
   ·exact .inr hS
 obtain⟨xs,hB,hw⟩:=cellsOf l.length (Nat.le_refl _)
 refine⟨xs,hB,182,_,_,rfl,fun args w=>by kernel_rfl,fun L J Stop h2 hn hJ hS hY hj=>?_⟩
 refine Xfs.ok (.func (.yield L) ⟨[]⟩ ⟨[]⟩) a _ _ ?_
 refine⟨_,_,_,(v.kw hn.kw).dA rfl,aF (by omega) (by omega),l.length+1,?_⟩
 rw[<-hl]
 exact hw L J Stop hY h2 (hn.kw.less fun _ h=>h.2) hj
theorem Gt {p q:Nat} {RD:TB RT [.o p (.i .i64),.g q [.i .i64,.s,.l]]} {Mid:H->(H->Prop)->Prop} {Kc:H->H->Prop} {Fin:H->H->(H->Prop)->Prop} {h1:H} {i j:Int} {s:Bs} {b:OA} {n c:Nat} (h:RD i j s b n c Mid Kc Fin h1):
  dB [.o p (.i .i64),.g q [.i .i64,.s,.l]] [.int .i64 i,.agg ⟨[.int .i64 j,S s,.slice b n c]⟩] RD fun K=>K Mid Kc Fin h1:=h
section
variable {A:Nat->Prop} {h:H} {b:OA} {n c:Nat} {l:List aS}
theorem kM (r:Row aX A h b n c l) {K:KV} (hk:∀a h',Var h' a 40 [.slice b n c]->KB h h'->a.block=h.size->K (.func (.func 182) ⟨[]⟩ ⟨[.pointer (some a)]⟩) h'):
  zC 136 [.slice b n c] h K:=
 Xfu.ok _ _ _ _ _ (af fun a1 h1 v1 k1 e1 _=>hk a1 h1 v1 k1 e1)
end
def cM {α:Type} (l:List α) (p:α->Bool):Int:=match l.findIdx? p with | some i=>(i:Int) | none=> -1
theorem mO {α:Type} {l:List α} {p:α->Bool} {i:Nat} (hi:i<l.length) (hp:p l[i]=true) (bm:∀j (hj:j<l.length),j<i->p l[j]=false):cM l p=i:=by
 have:l.findIdx? p=some i:=List.findIdx?_eq_some_iff_getElem.2 ⟨hi,hp,fun j hj=>by simp[bm j (by omega) hj]⟩
 unfold cM;rw[this]
theorem mP {α:Type} {l:List α} {p:α->Bool} (bm:∀j (hj:j<l.length),p l[j]=false):cM l p= -1:=by
 have:l.findIdx? p=none:=List.findIdx?_eq_none_iff.2 fun x hx=>by
  obtain⟨j,hj,e⟩:=List.mem_iff_getElem.1 hx
  rw[<-e];exact bm j hj
 unfold cM;rw[this]
theorem mg {α:Type} {l:List α} {p:α->Bool}:0<=cM l p↔l.any p=true:=by
 unfold cM
 cases h:l.findIdx? p with
 | none=>
  have:=List.findIdx?_eq_none_iff.1 h
  refine⟨fun h=>absurd h (by decide),fun h2=>?_⟩
  obtain⟨x,hx,hp⟩:=List.any_eq_true.1 h2
  rw[this x hx] at hp;cases hp
 | some i=>
  obtain⟨hi,hp,_⟩:=List.findIdx?_eq_some_iff_getElem.1 h
  exact⟨fun _=>List.any_eq_true.2 ⟨_,List.getElem_mem _,hp⟩,fun _=>by simp⟩
theorem q9.any {A:Nat->Prop} {h:H} {m:aP} (r:q9 A h m):q9 (fun _=>True) h m:=bo.keep _ _ _ _ _ _ r (bZ.refl _ _) fun _ _ _=>trivial
theorem q9.kb {A:Nat->Prop} {h h':H} {m:aP} (r:q9 A h m) (k:KB h h'):q9 A h' m:=bo.keep _ _ _ _ _ _ r ((SK.w k).less fun _ h=>h.2) fun _ h _=>h
theorem QK {A:Nat->Prop} {h:H} {a:Addr} {m:aP} {K:Int->Int->Bs->Int->Prop} (hA:At bo A h a m) (hk:q9 A h m->K m.1 m.2.1 m.2.2.1 m.2.2.2):
  ∃i,cell h (a.add 0)=some (.int .i64 i)/\∃j,cell h (a.add 1)=some (.int .u8 j)/\∃s,cell h (a.add 2)=some (S s)/\∃k,cell h (a.add 3)=some (.int .u8 k)/\K i j s k:=
 have h1:=hA.fst.int
 have h2:=hA.snd.fst.int
 have h3:=(hA.snd.dt (k:=2) rfl).fst.str
 have h4:=((hA.snd.dt (k:=2) rfl).dt (k:=3) rfl).int
 ⟨_,h1.1,_,h2.1,_,h3.1,_,h4.1,hk ⟨[.int .i64 m.1],_,rfl,⟨rfl,h1.2⟩,[.int .u8 m.2.1],_,rfl,⟨rfl,h2.2⟩,[S m.2.2.1],_,rfl,⟨rfl,h3.2⟩,rfl,h4.2⟩⟩
section
variable {A B:Nat->Prop} {h:H} {b b2:OA} {n c n2 c2:Nat} {l:List aS}
theorem dI {l:List aP} {f:Value} {p:aP->Bool} (r:Row bo A h b n c l)
  (hf:∀x h1 (next:KV),x ∈ l->KB h h1->q9 A h1 x->(∀h2,KB h1 h2->next (.bool (p x)) h2)->fQ Tryz.prog 4 f ⟨[.agg ⟨[.int .i64 x.1,.int .u8 x.2.1,S x.2.2.1,.int .u8 x.2.2.2]⟩]⟩ h1 next)
  {K:KV} (hk:∀h',KB h h'->K (.int .i64 (cM l p)) h'):
  zC 183 [.slice b n c,f] h K:=by
 refine Xf8.ok _ _ _ _ _ _ ?_
 have hl:=r.len
 have hm:n<=maxLen:=Nat.le_trans r.cap r.max
 simp only[maxLen] at hm
 refine⟨n+1,?_⟩
 have key:∀k i h1,i+k=n->KB h h1->(∀j (h1:j<l.length),j<i->p l[j]=false)->
   Xf8.cQ (fun h=>K (.int .i64 (-1)) h) (fun h=>K (.int .i64 (-1)) h) (fun y4 h=>K (.int .i64 y4) h) (k+1) b n c f (n:Int) (i:Int) h1:=by
  intro k
  induction k with
  | zero=>
   intro i h1 hi k1 bm
   have:=hk h1 k1
   rw[mP fun j hj=>bm j hj (by omega)] at this
   exact cg (by omega) this
  | succ k ih=>
   intro i h1 hi k1 bm
   have bQ:i<l.length:=by omega
   refine bK (by omega) ((r.kb k1).bj bQ rfl fun a hA=>QK hA fun hR=>hf _ h1 _ (List.getElem_mem _) k1 hR fun h2 k2=>?_)
   refine aR (fun hd=>?_) fun hd=>⟨aF (by omega) (by omega),ih (i+1) h2 (by omega) (k1.trans k2) fun j h1 hj=>?_⟩
   ·have:=hk h2 (k1.trans k2)
    rwa[mO bQ hd bm] at this
   ·by_cases e:j<i
    ·exact bm j h1 e
    ·have:j=i:=by omega
     subst this
     exact hd
 exact key n 0 h (by omega) (KB.refl h) fun j _ hj=>absurd hj (Nat.not_lt_zero _)
theorem nO {l:List aP} {f:Value} {p:aP->Bool} (r:Row bo A h b n c l)
  (hf:∀x h1 (next:KV),x ∈ l->KB h h1->q9 A h1 x->(∀h2,KB h1 h2->next (.bool (p x)) h2)->fQ Tryz.prog 4 f ⟨[.agg ⟨[.int .i64 x.1,.int .u8 x.2.1,S x.2.2.1,.int .u8 x.2.2.2]⟩]⟩ h1 next)
  {K:KV} (hk:∀h',KB h h'->K (.bool (l.any p)) h'):
  zC 137 [.slice b n c,f] h K:=by
 refine Xf0.ok _ _ _ _ _ _ (dI r hf fun h' k'=>?_)
 refine bf (fun hp=>?_) fun hp=>?_
 ·have:=hk h' k'
  rwa[mg.1 hp] at this
 ·have:=hk h' k'
  have e:l.any p=false:=by
   cases hq:l.any p with
   | false=>rfl
   | true=>exact absurd (mg.2 hq) hp
  rwa[e] at this
end
def ua (m:aS) (o:List aP):Bool:=decide (m.1<0)||o.any fun x=>decide (x.1=m.1)
def js (l:List aS) (o:List aP):Nat->Int
 | 0=>0
 | i+1=>if ua (l.getD i (0,[],[])) o then((i:Int)+1) else js l o i
def gu (l:List aS) (o:List aP):Int:=js l o l.length
section
variable {A B:Nat->Prop} {h:H} {b b2:OA} {n c n2 c2:Nat} {l:List aS} {o:List aP}
theorem Gd (hA:∀k,A k->k<h.size) (r:Row aX A h b n c l) (ro:Row bo B h b2 n2 c2 o) {K:KV} (hk:∀h',KB h h'->K (.int .i64 (gu l o)) h'):
  zC 62 [.slice b n c,.slice b2 n2 c2] h K:=by
 refine Xba.ok _ _ _ _ _ _ _ _ (af fun xs0 h0 v0 k0 e0 _=>af fun x2 h1 v1 k1 e1 _=>kM ((r.kb k0).kb k1) fun a h2 v2 k2 e2=>?_)
 have hm:n<=maxLen:=Nat.le_trans r.cap r.max
 simp only[maxLen] at hm
 have hl:=r.len
 obtain⟨xs,hB,hE⟩:=kL (((r.kb k0).kb k1).kb k2) v2
 have h01:=k0.1
 have bL:¬(A x2.block∨x2.block=a.block):=fun e=>by
  have:=v1.lt
  rcases e with e | e
  ·have:=hA _ e;omega
  ·omega
 have v12:=v1.kb k2
 have v02:=(v0.kb k1).kb k2
 have gy:KB h h2:=(k0.trans k1).trans k2
 have xK:=gy.1
 refine⟨xs,vf,_,hE,hB.len,jW (fun xs h'=>KB h2 h'/\∃i,iH A h' l i xs/\js l o i=gu l o) (fun xs h' lM ⟨k,i,hb,e⟩ n=>⟨k.nz n (Nat.le_succ _),i,hb.kw n.kw,e⟩) ?_ ?_ xs h2 ⟨KB.refl _,l.length,hB,rfl⟩⟩
 ·rintro x xs h3 Kc ⟨k3,i,hb,e⟩ Lp
  cases i with
  | zero=>simp[iH] at hb
  | succ i=>
   obtain⟨hi,b',n',c',rest,hm',e',hr⟩:=hb
   cases e'
   unfold js at e
   rw[aJ hi] at e
   refine Gt (af fun a4 h4 v4 k4 e4 _=>aQ v4 (Nat.le_refl _) fun h5 v5 k5 s5=>?_)
   have EZ:KB h3 h5:=KB.step k4 k5 (by omega)
   refine⟨(k4.kp).trans (KX.kp v4 k5 fun e=>?_),fun h6 n6=>?_⟩
   ·have:=k3.1;have mB:=gy.1
    rcases e with e | e
    ·have:=hA _ e;omega
    ·have:=v2.lt;omega
   have v6:=v5.kw n6.kw
   have Gu:KB h2 h6:=(k3.trans EZ).nz n6 (Nat.le_succ _)
   have vx:=v12.kb Gu
   have found:ua l[i] o=true->gu l o=(i:Int)+1:=fun ht=>by rw[<-e,if_pos ht]
   refine⟨_,v6.cell 0 rfl,bf (fun eI=>⟨aF (by omega) (by omega),?_⟩) fun eI=>⟨_,_,_,(v02.kb Gu).dA rfl,?_⟩⟩
   ·refine aQ vx (Nat.le_refl _) fun h7 v7 k7 s7=>⟨KX.kp vx k7 bL,fun h8 n8 hd=>?_⟩
    refine iS hd ((KB.step (gy.trans Gu) k7 (by omega)).nz n8 (by omega)) xK (v7.kw n8.kw) fun h' k'=>?_
    rw[found (by unfold ua;rw[decide_eq_true eI,Bool.true_or])] at hk
    exact hk h' k'
   ·refine nO (p:=fun x=>decide (x.1=l[i].1)) ((ro.kb gy).kb Gu) (fun x h7 next hx k7 hR hn=>?_) fun h7 k7=>?_
    ·have e:fQ Tryz.prog 4 (.func (.func 138) ⟨[]⟩ ⟨[.pointer (some a4)]⟩) ⟨[.agg ⟨[.int .i64 x.1,.int .u8 x.2.1,S x.2.2.1,.int .u8 x.2.2.2]⟩]⟩ h7 next=
       zC 138 [.agg ⟨[.int .i64 x.1,.int .u8 x.2.1,S x.2.2.1,.int .u8 x.2.2.2]⟩,.pointer (some a4)] h7 fun v h'=>au v fun b=>cond b (next (.bool true) h') (next (.bool false) h'):=by kernel_rfl
     rw[e]
     refine Xbb.ok _ _ _ _ _ _ _ (af fun a8 h8 v8 k8 e8 _=>⟨_,v8.cell 0 rfl,_,((v6.kb k7).kb k8).cell 0 rfl,?_⟩)
     have:=hn h8 k8
     refine bf (fun e=>?_) fun e=>?_
     ·rw[decide_eq_true e] at this;exact this
     ·rw[decide_eq_false e] at this;exact this
    ·refine aR (fun ht=>⟨aF (by omega) (by omega),?_⟩) fun ht=>?_
     ·have vx7:=vx.kb k7
      refine aQ vx7 (Nat.le_refl _) fun h8 v8 k8 s8=>⟨(k7.kp).trans (KX.kp vx7 k8 bL),fun h9 n9 hd=>?_⟩
      refine iS hd ((KB.step ((gy.trans Gu).trans k7) k8 (by omega)).nz n9 (by omega)) xK (v8.kw n9.kw) fun h' k'=>?_
      rw[found (by unfold ua;rw[ht,Bool.or_true])] at hk
      exact hk h' k'
     ·refine Lp _ _ k7.kp ⟨Gu.trans k7,i,((hr.kw (KB.w EZ)).kw n6.kw).kw (KB.w k7),?_⟩
      rw[if_neg (by unfold ua;rw[ht,decide_eq_false eI];simp)] at e
      exact e
 ·rintro h3 ⟨k3,i,hb,e⟩ hd
  cases i with
  | succ i=>obtain⟨_,_,_,_,_,_,e',_⟩:=hb;cases e'
  | zero=>
   have vx:=v12.kb k3
   refine aQ vx (Nat.le_refl _) fun h7 v7 k7 s7=>?_
   refine iS (vx.dp k7 hd) (KB.step (gy.trans k3) k7 (by omega)) xK v7 fun h' k'=>?_
   rw[<-e] at hk;exact hk h' k'
theorem y9 (r:Row aX A h b n c l) (ro:Row bo B h b2 n2 c2 o) {K:KV} (hk:K (.int .i64 (gu l o)) h):
  zC 102 [.slice b n c,.slice b2 n2 c2] h K:=by
 refine JO.ok _ _ _ _ _ _ _ _ ?_
 have hl:=r.len
 have hm:n<=maxLen:=Nat.le_trans r.cap r.max
 have jQ:=ro.len
 have hmo:n2<=maxLen:=Nat.le_trans ro.cap ro.max
 simp only[maxLen] at hm hmo
 refine⟨aF (by omega) (by omega),n+1,?_⟩
 have inner:∀(i:Nat) (hi:i<l.length) (Kn qA:JO.T4) (Ke1:JO.T3) (Ke0:JO.T2) (Kr:JO.T0) (k j:Nat) (is:Bool),j+k=n2->
   (∀res,(res=(is||(o.drop j).any fun x=>decide (x.1=l[i].1)))->qA b n c b2 n2 c2 i res h)->
   JO.aaw Kn qA Ke1 Ke0 Kr (k+1) b n c b2 n2 c2 (i:Int) is (j:Int) h:=by
  intro i hi Kn qA Ke1 Ke0 Kr k
  induction k with
  | zero=>
   intro j is hj hK
   refine cg (by omega) (hK is ?_)
   rw[List.drop_of_length_le (by omega)];simp
  | succ k ih=>
   intro j is hj hK
   have fU:j<o.length:=by omega
   have jF:o.drop j=o[j]::o.drop (j+1):=by rw[List.drop_eq_getElem_cons fU]
   refine bK (by omega) (aR (fun e=>⟨aF (by omega) (by omega),ih (j+1) true (by omega) fun res hr=>hK res ?_⟩) fun e=>?_)
   ·rw[hr,e];simp
   ·refine ro.bj fU rfl fun a hA=>CU hA.fst fun _=>r.bj hi rfl fun a' Um=>CU Um.fst fun _=>bf (fun hd=>⟨aF (by omega) (by omega),ih (j+1) true (by omega) fun res hr=>hK res ?_⟩) fun hd=>⟨aF (by omega) (by omega),ih (j+1) false (by omega) fun res hr=>hK res ?_⟩
    ·rw[hr,e,jF];simp only[List.any_cons,decide_eq_true hd,Bool.true_or,Bool.false_or]
    ·rw[hr,e,jF];simp only[List.any_cons,decide_eq_false hd,Bool.false_or]
 have key:∀i,i<=n->js l o i=gu l o->
   JO.cQ (fun h=>K (.int .i64 0) h) (fun h=>K (.int .i64 0) h) (fun y4 h=>K (.int .i64 y4) h) (i+1) b n c b2 n2 c2 ((i:Int) - 1) h:=by
  intro i
  induction i with
  | zero=>
   intro _ e
   refine cg (by omega) ?_
   rw[<-e] at hk;exact hk
  | succ i ih=>
   intro hi e
   have hx:((i+1:Nat):Int) - 1=(i:Int):=by omega
   have bQ:i<l.length:=by omega
   unfold js at e
   rw[aJ bQ] at e
   rw[hx]
   have go:∀is:Bool,is=decide (l[i].1<0)->∀Ke1:JO.T3,
     JO.ui b n c b2 n2 c2 (i:Int) is (fun A9 Ba Bb z1b z1n z1c z5 h=>JO.n9 A9 Ba Bb z1b z1n z1c z5 (fun A9 Ba Bb z1b z1n z1c z5 h=>JO.cQ (fun h=>K (.int .i64 0) h) (fun h=>K (.int .i64 0) h) (fun y4 h=>K (.int .i64 y4) h) (i+1) A9 Ba Bb z1b z1n z1c z5 h) (fun h=>K (.int .i64 0) h) (fun y4 h=>K (.int .i64 y4) h) h) Ke1 (fun h=>K (.int .i64 0) h) (fun y4 h=>K (.int .i64 y4) h) h:=by
    intro is QJ Ke1
    refine⟨n2+1,inner i bQ _ _ _ _ _ n2 0 is (by omega) fun res hr=>?_⟩
    have ke:res=ua l[i] o:=by rw[hr,QJ];rfl
    refine aR (fun ht=>⟨aF (by omega) (by omega),?_⟩) fun ht=>⟨aF (by omega) (by omega),?_⟩
    ·rw[if_pos (by rw[<-ke];exact ht)] at e
     rw[<-e] at hk;exact hk
    ·rw[if_neg (by rw[<-ke,ht];simp)] at e
     exact ih (by omega) e
   refine bK (by omega) (r.bj bQ rfl fun a hA=>CU hA.fst fun _=>bf (fun hd=>go true (decide_eq_true hd).symm _) fun hd=>go false (decide_eq_false hd).symm _)
 exact key n (Nat.le_refl _) (by rw[<-hl];rfl)
end
theorem db:oH Tryz.prog aX 40 79 48:=kr (sz:=3) (by kernel_rfl) rfl
section
variable {A:Nat->Prop} {h:H} {b:OA}
theorem j5 {l:List aS} {xs:List Value} (he:eH aX A h l xs) (hc:Cells h b xs) {i:Nat} (hi:i<l.length):
  ∃a b2 n2 c2,b=some a/\cell h ((a.add (i*3)).add 0)=some (.int .i64 l[i].1)/\cell h ((a.add (i*3)).add 1)=some (S l[i].2.1)/\cell h ((a.add (i*3)).add 2)=some (.slice b2 n2 c2)/\cI A h l[i] b2 n2 c2:=by
 obtain⟨cs,hR,hcs⟩:=he.at (List.getElem?_eq_getElem hi)
 have Yf:=hR
 obtain⟨c1,c2,e,h1,c3,c4,e2,h2,b2,n2,cc2,e3,h3,h4⟩:=hR
 rw[h1.1] at e
 rw[h2.1] at e2
 rw[e3] at e2
 rw[e2] at e
 subst e
 obtain⟨a,ea,ec⟩:=hc _ _ (hcs 0 _ rfl)
 subst ea
 have cel:∀j v,([Value.int .i64 l[i].1]++([S l[i].2.1]++ [Value.slice b2 n2 cc2]))[j]? =some v->cell h ((a.add (i*3)).add j)=some v:=fun j v hv=>by
  obtain⟨a',ea',ec'⟩:=hc _ _ (hcs j v hv)
  cases ea'
  rw[add_add];exact ec'
 exact⟨a,b2,n2,cc2,rfl,cel 0 _ rfl,cel 1 _ rfl,cel 2 _ rfl,Yf⟩
end
def iI (l:List aS) (m:aS) (s k:Nat):List Nat:=(List.range' s k).filter fun j=>fO m (l.getD j (0,[],[]))
theorem xL (l:List aS) (m:aS) (s k:Nat):iI l m s (k+1)=if fO m (l.getD (s+k) (0,[],[])) then iI l m s k++ [s+k] else iI l m s k:=by
 unfold iI
 rw[List.range'_concat,List.filter_append,Nat.one_mul]
 rw[List.filter_cons]
 split
 ·rfl
 ·rw[List.filter_nil,List.append_nil]
theorem Nn {l:List aS} {m:aS} {s k:Nat}:∀j ∈ iI l m s k,s<=j/\j<s+k:=by
 intro j hj
 have:=(List.mem_filter.1 hj).1
 rw[List.mem_range'] at this
 obtain⟨i,hi,e⟩:=this
 omega
def cO (l:List aS) (m:aS):List Nat:=if m.1<0 then [] else iI l m (behind l) (l.length - behind l)
def fj (l:List aS) (m:aS):List aS:=if(cO l m).length<3 then l++ [m] else l.eraseIdx ((cO l m).headD 0)++ [m]
def xM (l:List Nat):Int:=match l with | []=> -1 | a::_=>(a:Int)
theorem Eh (l:List Nat) (j:Nat):xM (l++ [j])=if xM l<0 then(j:Int) else xM l:=by
 cases l with
 | nil=>rfl
 | cons a t=>show(a:Int)=if(a:Int)<0 then _ else _;rw[if_neg (by omega)];rfl
section
variable {A B:Nat->Prop} {h:H} {b b2:OA} {n c n2 c2:Nat} {l:List aS} {m:aS}
def eQ (l:List aS) (s:List Nat) (i:Nat):List aS:=if s.length<3 then l.take i else(l.take i).eraseIdx (s.headD 0)
theorem xN {s:List Nat} {i:Nat} (hi:i<l.length) (hy:s.length<3∨(i:Int)≠xM s):eQ l s (i+1)=eQ l s i++ [l[i]]:=by
 unfold eQ
 rw[List.take_succ_eq_append_getElem hi]
 by_cases hs:s.length<3
 ·rw[if_pos hs,if_pos hs]
 ·rw[if_neg hs,if_neg hs]
  have bL:=hy.resolve_left hs
  cases s with
  | nil=>simp at hs
  | cons a t=>
   simp only[List.headD_cons]
   have bL:i≠a:=fun e=>bL (by show(i:Int)=(a:Int);rw[e])
   by_cases ha:a<i
   ·rw[List.eraseIdx_append_of_lt_length (by simp;omega)]
   ·rw[List.eraseIdx_of_length_le (by simp;omega),List.eraseIdx_of_length_le (by simp;omega)]
theorem Ji {s:List Nat} {i:Nat} (hi:i<l.length) (hs:¬s.length<3) (hn:(i:Int)=xM s):eQ l s (i+1)=eQ l s i:=by
 unfold eQ
 rw[List.take_succ_eq_append_getElem hi,if_neg hs,if_neg hs]
 cases s with
 | nil=>simp at hs
 | cons a t=>
  simp only[List.headD_cons]
  have e:i=a:=by have:(i:Int)=(a:Int):=hn;omega
  subst e
  have hlen:(l.take i).length=i:=by simp;omega
  rw[List.eraseIdx_append_of_length_le (by omega),List.eraseIdx_of_length_le (k:=i) (l:=l.take i) (by omega),hlen]
  simp
theorem xO (s:List Nat) (i:Nat):(eQ l s i).length<=i:=by
 unfold eQ
 split
 ·simp;omega
 ·exact Nat.le_trans (List.length_eraseIdx_le _ _) (by simp;omega)
theorem yI {xs:List Value} (r:Row aX B h b n c l) (hx:eH aX A h l xs) (Ev:Cells h b xs) (hA:∀k,A k->k<h.size) (hR:cI A h m b2 n2 c2) (hn:n<=100000000) {K:KV}
  (hk:∀b' n' c' h',bO aX A h' h.size 79 b' n' c' (fj l m)->KB h h'->K (.slice b' n' c') h'):
  zC 207 [.slice b n c,.agg ⟨[.int .i64 m.1,S m.2.1,.slice b2 n2 c2]⟩] h K:=by
 refine Jj.ok _ _ _ _ _ _ _ _ _ _ (af fun x3 h1 v1 k1 e1 _=>iA (r.kb k1) ?_)
 have hl:=r.len
 have agR:=qe l
 refine⟨(n - behind l)+1,?_⟩
 have second:∀h2,KB h1 h2->Jj.n5 b n c x3 ((cO l m).length:Int) (xM (cO l m)) (fun fE fF fG h=>K (.slice fE fF fG) h) (fun fE fF fG h=>K (.slice fE fF fG) h) h2:=by
  intro h2 k2
  have key:∀k i h5 b9 c9,i+k=n->KB h1 h5->bO aX A h5 h1.size 79 b9 (eQ l (cO l m) i).length c9 (eQ l (cO l m) i)->
    Jj.qI (fun z3 z9b z9n z9c h=>Jj.n7 z3 z9b z9n z9c (fun fE fF fG h=>K (.slice fE fF fG) h) (fun fE fF fG h=>K (.slice fE fF fG) h) h)
     (fun z3 z9b z9n z9c h=>Jj.n7 z3 z9b z9n z9c (fun fE fF fG h=>K (.slice fE fF fG) h) (fun fE fF fG h=>K (.slice fE fF fG) h) h)
     (fun fE fF fG h=>K (.slice fE fF fG) h) (k+1) b n c x3 ((cO l m).length:Int) (xM (cO l m)) b9 (eQ l (cO l m) i).length c9 (i:Int) h5:=by
   intro k
   induction k with
   | zero=>
    intro i h5 b9 c9 hi k5 o9
    have e:i=n:=by omega
    subst e
    have v5:=v1.kb k5
    have k1s:=k1.1
    have k5s:=k5.1
    have hlen:=xO (l:=l) (cO l m) i
    refine cg (by omega) ⟨_,v5.cell 0 rfl,_,v5.cell 1 rfl,_,_,_,v5.cell 2 rfl,af fun a6 h6 v6 k6 e6 _=>?_⟩
    have JN:=k5.trans k6
    have hR6:cI A h6 m b2 n2 c2:=hR.kb (k1.trans JN)
    have k6s:=k6.1
    refine bO.sj db (o9.kb k6) (fun k hk=>by have:=hA k hk;omega) v6 hR6 (by simp only[maxLen];omega) (by omega) (by omega) fun b7 c7 h7 o7 g7=>hk b7 _ c7 h7 ?_ (dW.yj (k1.trans JN) g7 fun a e=>by have:=o9.lo a e;omega)
    have e2:eQ l (cO l m) i++ [m]=fj l m:=by
     unfold eQ fj
     rw[List.take_of_length_le (by omega)]
     split <;> rfl
    rw[e2] at o7
    exact o7.lower k1s
   | succ k ih=>
    intro i h5 b9 c9 hi k5 o9
    have bQ:i<l.length:=by omega
    have hlen:=xO (l:=l) (cO l m) i
    have yes:(cO l m).length<3∨(i:Int)≠xM (cO l m)->∀(Kn Ke3:Jj.T7) (qA:Jj.T6) (Kr:Jj.T0),(∀b7 c7 h7,KB h1 h7->bO aX A h7 h1.size 79 b7 (eQ l (cO l m) (i+1)).length c7 (eQ l (cO l m) (i+1))->Kn b n c x3 ((cO l m).length:Int) (xM (cO l m)) b7 (eQ l (cO l m) (i+1)).length c7 (i:Int) h7)->
      Jj.n16 b n c x3 ((cO l m).length:Int) (xM (cO l m)) b9 (eQ l (cO l m) i).length c9 (i:Int) true Kn Ke3 qA Kr h5:=by
     intro hy Kn Ke3 qA Kr hKn
     have e7:(eQ l (cO l m) (i+1)).length=(eQ l (cO l m) i).length+1:=by rw[xN bQ hy];simp
     rw[e7] at hKn
     have VC:KB h h5:=k1.trans k5
     obtain⟨a,b',n',c',eb,m0,m1,m2,SI⟩:=j5 (hx.keep ((KB.w VC).less fun k hk=>hk.2) fun _ h _=>h) (fun j u hu=>by
      obtain⟨q,e,ec⟩:=Ev j u hu
      exact⟨q,e,(KB.w VC).cell (fP ec) ec⟩) bQ
     subst eb
     refine⟨⟨by omega,by omega⟩,⟨_,m0,_,m1,_,_,_,m2,af fun a6 h6 v6 k6 e6 _=>?_⟩⟩
     have JN:=k5.trans k6
     have k6s:=k6.1
     have k5s:=k5.1
     have k1s:=k1.1
     refine bO.sj db (o9.kb k6) (fun k hk=>by have:=hA k hk;omega) v6 (SI.kb k6) (by simp only[maxLen];omega) (by omega) (by omega) fun b7 c7 h7 o7 g7=>hKn b7 c7 h7 (dW.yj JN g7 o9.lo) ?_
     rw[xN bQ hy];exact o7
    refine bK (by omega) (bf (fun h3=>yes (.inl (by omega)) _ _ _ _ fun b7 c7 h7 k7 o7=>⟨aF (by omega) (by omega),ih (i+1) h7 b7 c7 (by omega) k7 o7⟩) fun h3=>bf (fun hf=>?_) fun hf=>yes (.inr hf) _ _ _ _ fun b7 c7 h7 k7 o7=>⟨aF (by omega) (by omega),ih (i+1) h7 b7 c7 (by omega) k7 o7⟩)
    have en:=Ji bQ (by omega) hf
    have:=ih (i+1) h5 b9 c9 (by omega) k5 (by rw[en];exact o9)
    rw[en] at this
    exact⟨aF (by omega) (by omega),this⟩
  have e0:eQ l (cO l m) 0=[]:=by unfold eQ;simp
  have:=key n 0 h2 none 0 (by omega) k2 (by rw[e0];exact bO.none _ _ _ _)
  rw[e0] at this
  exact⟨n+1,this⟩
 have key:∀k i h5,behind l+i+k=n->KB h1 h5->(m.1<0->i=0)->
   Jj.uy (fun A9 Ba Bb z3 z5 z6 h=>Jj.n5 A9 Ba Bb z3 z5 z6 (fun fE fF fG h=>K (.slice fE fF fG) h) (fun fE fF fG h=>K (.slice fE fF fG) h) h)
    (fun A9 Ba Bb z3 z5 z6 h=>Jj.n5 A9 Ba Bb z3 z5 z6 (fun fE fF fG h=>K (.slice fE fF fG) h) (fun fE fF fG h=>K (.slice fE fF fG) h) h)
    (fun fE fF fG h=>K (.slice fE fF fG) h) (k+1) b n c x3 ((iI l m (behind l) i).length:Int) (xM (iI l m (behind l) i)) ((behind l+i:Nat):Int) h5:=by
  intro k
  induction k with
  | zero=>
   intro i h5 hi k5 eI
   refine cg (by omega) ?_
   have e:iI l m (behind l) i=cO l m:=by
    unfold cO
    split
    ·rename_i hm
     rw[eI hm];rfl
    ·congr 1;omega
   rw[e]
   exact second h5 k5
  | succ k ih=>
   intro i h5 hi k5 eI
   have bQ:behind l+i<l.length:=by omega
   have v5:=v1.kb k5
   have XG:(iI l m (behind l) i).length<=i:=by
    unfold iI
    exact Nat.le_trans (List.length_filter_le _ _) (by rw[List.length_range'];exact Nat.le_refl _)
   refine bK (by omega) ⟨_,v5.cell 0 rfl,bf (fun hp=>?_) fun hp=>?_⟩
   ·refine⟨_,v5.cell 0 rfl,_,v5.cell 1 rfl,_,_,_,v5.cell 2 rfl,(r.kb (k1.trans k5)).bj bQ rfl fun a QL=>Gs QL fun b' n' c' SI=>xJ (hR.kb (k1.trans k5)) SI fun h6 k6=>?_⟩
    have ub:=xL l m (behind l) i
    rw[aJ bQ] at ub
    have go:=ih (i+1) h6 (by omega) (k5.trans k6) (fun h=>by omega)
    refine aR (fun ha=>⟨aF (by omega) (by omega),?_⟩) fun ha=>⟨aF (by omega) (by omega),?_⟩
    ·rw[if_pos ha] at ub
     rw[ub,List.length_append,List.length_singleton,Eh] at go
     refine bf (fun hf=>⟨aF (by omega) (by omega),?_⟩) fun hf=>⟨aF (by omega) (by omega),?_⟩
     ·rw[if_pos hf] at go
      exact go
     ·rw[if_neg hf] at go
      exact go
    ·rw[if_neg (by rw[ha];simp)] at ub
     rw[ub] at go
     exact go
   ·have yG:i=0:=eI (by omega)
    subst yG
    have e:cO l m=[]:=by unfold cO;rw[if_pos (by omega)]
    have:=second h5 k5
    rw[e] at this
    exact this
 exact key (n - behind l) 0 h1 (by omega) (KB.refl _) fun _=>rfl
end
end Go.Proofs
