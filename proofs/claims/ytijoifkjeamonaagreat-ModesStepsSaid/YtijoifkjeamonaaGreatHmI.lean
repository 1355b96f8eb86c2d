import Derived.Test.YtijoifkjeamonaaGreatShJ
import Derived.Laws.AppendOwn
import Derived.Laws.StructEq
import Derived.Lib.SliceRun
import Derived.Below
import Derived.Laws.Pointers
namespace Go.Sh
open Go
set_option linter.unusedVariables false
set_option linter.unusedSimpArgs false
variable {P:Program}
def SK (A:Nat->Prop) (h h':H):Prop:=h.size<=h'.size/\∀b:Nat,A b->h'[b]? =h[b]?
abbrev rS (B:Nat):Nat->Prop:=fun k=>k<B
abbrev FF (h:H) (b:OA):Nat->Prop:=fun k=>k<h.size/\∀a,b=some a->a.block≠k
theorem SK.refl (A:Nat->Prop) (h:H):SK A h h:=⟨Nat.le_refl _,fun _ _=>rfl⟩
theorem SK.trans {A:Nat->Prop} {a b c:H} (h:SK A a b) (k:SK A b c):SK A a c:=⟨Nat.le_trans h.1 k.1,fun i hi=>(k.2 i hi).trans (h.2 i hi)⟩
theorem SK.less {A A':Nat->Prop} {a b:H} (h:SK A a b) (hb:∀k,A' k->A k):SK A' a b:=⟨h.1,fun i hi=>h.2 i (hb i hi)⟩
theorem SK.push (h:H) (o:Obj):SK (rS h.size) h (h.push o):=⟨by simp,fun b hb=>Array.getElem?_push_lt hb▸(Array.getElem?_eq_getElem hb).symm▸rfl⟩
theorem SK.ext {h h':H} (k:SK (rS h.size) h h'):bG h h':=⟨k.1,fun b o e=>by rw[k.2 b (Array.getElem?_eq_some_iff.1 e).1];exact e⟩
def bZ (A:Nat->Prop) (h h':H):Prop:=h.size<=h'.size/\∀b:Nat,A b->∀o,h[b]? =some o->lx o=false->h'[b]? =some o
theorem SK.w {A:Nat->Prop} {h h':H} (k:SK A h h'):bZ A h h':=⟨k.1,fun b hb o e _=>by rw[k.2 b hb];exact e⟩
theorem bZ.refl (A:Nat->Prop) (h:H):bZ A h h:=⟨Nat.le_refl _,fun _ _ _ e _=>e⟩
theorem bZ.trans {A:Nat->Prop} {a b c:H} (h:bZ A a b) (k:bZ A b c):bZ A a c:=⟨Nat.le_trans h.1 k.1,fun i hi o e hl=>k.2 i hi o (h.2 i hi o e hl) hl⟩
theorem bZ.less {A A':Nat->Prop} {a b:H} (h:bZ A a b) (hb:∀k,A' k->A k):bZ A' a b:=⟨h.1,fun i hi=>h.2 i (hb i hi)⟩
theorem bZ.cell {A:Nat->Prop} {h h':H} {a:Addr} {v:Value} (k:bZ A h h') (ha:A a.block) (e:cell h a=some v):cell h' a=some v:=by
 unfold Sh.cell at*
 cases hb:h[a.block]? with
 | none=>rw[hb] at e;cases e
 | some o=>
  rw[hb] at e
  cases o <;> first | (cases e;done) | skip
  rw[k.2 _ ha _ hb rfl];exact e
theorem tT (h:H) (a:Addr) (v:Value):(eE h a v).size=h.size:=by simp[Sh.eE]
theorem SK.eE {A:Nat->Prop} {h:H} {a:Addr} {v:Value} (ha:¬A a.block):SK A h (eE h a v):=by
 refine⟨by simp[Sh.eE],fun b hb=>?_⟩
 unfold Sh.eE
 rw[Array.getElem?_modify]
 rw[if_neg (fun e:a.block=b=>ha (by rw[e];exact hb))]
theorem br (a:Addr) (n:Nat):(a.add n).block=a.block:=by unfold Addr.add;split <;> rfl
theorem add_zero' (a:Addr):a.add 0=a:=rfl
theorem add_add (a:Addr) (m n:Nat):(a.add m).add n=a.add (m+n):=by
 unfold Addr.add
 by_cases hm:m=0
 ·simp[hm]
 ·by_cases hn:n=0
  ·simp[hm,hn]
  ·have:m+n≠0:=by omega
   simp[hm,hn,this];omega
structure El (α:Type) where
 sz:Nat
 R:(Nat->Prop)->H->α->List Value->Prop
 len:∀B h x cs,R B h x cs->cs.length=sz
 one:∀B h x cs,R B h x cs->∀v ∈ cs,v.oneCell'=true
 keep:∀B B' h h' x cs,R B h x cs->bZ (fun k=>B k/\k<h.size) h h'->(∀k,B k->k<h.size->B' k)->R B' h' x cs
 pos:0<sz
variable {α:Type} {E:El α}
def At (E:El α) (B:Nat->Prop) (h:H) (a:Addr) (x:α):Prop:=
 B a.block/\∃cs,E.R B h x cs/\∀(j:Nat) v,cs[j]? =some v->cell h (a.add j)=some v
theorem fP {h:H} {a:Addr} {v:Value} (e:cell h a=some v):a.block<h.size:=by
 unfold Sh.cell at e
 cases hb:h[a.block]? with
 | none=>rw[hb] at e;cases e
 | some o=>exact(Array.getElem?_eq_some_iff.1 hb).1
theorem At.lt {B:Nat->Prop} {h:H} {a:Addr} {x:α} (hA:At E B h a x):a.block<h.size:=by
 obtain⟨h1,cs,h2,h3⟩:=hA
 have hl:=E.len _ _ _ _ h2
 have hp:=E.pos
 have:=fP (h3 0 _ (List.getElem?_eq_getElem (by omega)))
 rwa[br] at this
theorem At.keep {B B':Nat->Prop} {h h':H} {a:Addr} {x:α} (hA:At E B h a x) (k:bZ (fun k=>B k/\k<h.size) h h') (hb:∀k,B k->k<h.size->B' k):At E B' h' a x:=by
 have cR:=hA.lt
 obtain⟨h1,cs,h2,h3⟩:=hA
 exact⟨hb _ h1 cR,cs,E.keep _ _ _ _ _ _ h2 k hb,fun j v hv=>k.cell (by rw[br];exact⟨h1,cR⟩) (h3 j v hv)⟩
abbrev KB (h h':H):Prop:=SK (rS h.size) h h'
theorem KB.refl (h:H):KB h h:=SK.refl _ _
theorem KB.trans {a b c:H} (h:KB a b) (k:KB b c):KB a c:=⟨Nat.le_trans h.1 k.1,fun i hi=>(k.2 i (Nat.lt_of_lt_of_le hi h.1)).trans (h.2 i hi)⟩
abbrev KW (h h':H):Prop:=bZ (rS h.size) h h'
theorem KW.refl (h:H):KW h h:=bZ.refl _ _
theorem KW.trans {a b c:H} (h:KW a b) (k:KW b c):KW a c:=⟨Nat.le_trans h.1 k.1,fun i hi o e hl=>k.2 i (Nat.lt_of_lt_of_le hi h.1) o (h.2 i hi o e hl) hl⟩
theorem KB.w {h h':H} (k:KB h h'):KW h h':=SK.w k
theorem At.kw {B:Nat->Prop} {h h':H} {a:Addr} {x:α} (hA:At E B h a x) (k:KW h h'):At E B h' a x:=hA.keep (k.less fun _ h=>h.2) fun _ h _=>h
theorem At.kb {B:Nat->Prop} {h h':H} {a:Addr} {x:α} (hA:At E B h a x) (k:KB h h'):At E B h' a x:=hA.kw (KB.w k)
structure Row (E:El α) (B:Nat->Prop) (h:H) (b:OA) (n c:Nat) (l:List α):Prop where
 len:l.length=n
 cap:n<=c
 max:c<=maxLen
 gE:∀(i:Nat) (x:α),l[i]? =some x->∃a,b=some a/\At E B h (a.add (i*E.sz)) x
theorem Row.keep {B B':Nat->Prop} {h h':H} {b:OA} {n c:Nat} {l:List α} (r:Row E B h b n c l) (k:bZ (fun k=>B k/\k<h.size) h h') (hb:∀k,B k->k<h.size->B' k):Row E B' h' b n c l:=
 ⟨r.len,r.cap,r.max,fun i x hx=>by obtain⟨a,e,hA⟩:=r.gE i x hx;exact⟨a,e,hA.keep k hb⟩⟩
theorem Row.kw {B:Nat->Prop} {h h':H} {b:OA} {n c:Nat} {l:List α} (r:Row E B h b n c l) (k:KW h h'):Row E B h' b n c l:=r.keep (k.less fun _ h=>h.2) fun _ h _=>h
theorem Row.kb {B:Nat->Prop} {h h':H} {b:OA} {n c:Nat} {l:List α} (r:Row E B h b n c l) (k:KB h h'):Row E B h' b n c l:=r.kw (KB.w k)
theorem Row.any {B:Nat->Prop} {h:H} {b:OA} {n c:Nat} {l:List α} (r:Row E B h b n c l):Row E (fun _=>True) h b n c l:=r.keep (bZ.refl _ _) fun _ _ _=>trivial
theorem Row.nil (B:Nat->Prop) (h:H):Row E B h none 0 0 []:=⟨rfl,Nat.le_refl _,Nat.zero_le _,fun i x hx=>by simp at hx⟩
theorem Row.idx {B:Nat->Prop} {h:H} {b:OA} {n c:Nat} {l:List α} {K:Addr->Prop} (r:Row E B h b n c l) {i:Int} (h0:0<=i) (h1:i<(l.length:Int)) {z:Nat} (hz:z=E.sz)
  (hk:∀(a:Addr) (hi:i.toNat<l.length),At E B h (a.add (i.toNat*z)) l[i.toNat]->K a):(0<=i/\i<(n:Int))/\ae b fun a=>K a:=by
 subst hz
 have hi:i.toNat<l.length:=by omega
 obtain⟨a,rfl,hA⟩:=r.gE i.toNat _ (List.getElem?_eq_getElem hi)
 exact⟨⟨h0,by rw[<-r.len];exact h1⟩,hk a hi hA⟩
theorem Row.bj {B:Nat->Prop} {h:H} {b:OA} {n c:Nat} {l:List α} {K:Addr->Prop} (r:Row E B h b n c l) {i:Nat} (hi:i<l.length) {z:Nat} (hz:z=E.sz)
  (hk:∀a:Addr,At E B h (a.add (i*z)) l[i]->K a):(0<=(i:Int)/\(i:Int)<(n:Int))/\ae b fun a=>K a:=
 r.idx (by omega) (by omega) hz fun a yl hA=>hk a (by simpa using hA)
theorem Row.sub {B:Nat->Prop} {h:H} {b:OA} {n c:Nat} {l:List α} (r:Row E B h b n c l) {lo hi:Nat} (h1:lo<=hi) (h2:hi<=n) {z:Nat} (hz:z=E.sz):
  Row E B h (if c=lo then b else Option.map (fun q=>q.add (lo*z)) b) (hi - lo) (c - lo) ((l.take hi).drop lo):=by
 subst hz
 have hl:=r.len
 have hc:=r.cap
 have hm:=r.max
 refine⟨by simp[hl];omega,by omega,by omega,fun i x hx=>?_⟩
 rw[List.getElem?_drop,List.getElem?_take] at hx
 split at hx
 ·rename_i cR
  obtain⟨a,rfl,hA⟩:=r.gE _ x hx
  rw[if_neg (by omega)]
  exact⟨_,rfl,by rw[add_add,<-Nat.add_mul];exact hA⟩
 ·cases hx
structure Own (h:H) (base:Nat) (e sz:Nat) (b:OA) (n c:Nat) (xs:List Value):Prop where
 len:xs.length=n*sz
 cap:n<=c
 max:c<=maxLen
 is:(n=0/\c=0)∨∃g cur,b=some ⟨g,0,none⟩/\base<=g/\h[g]? =some (.cells cur e (0,0))/\cur.size=c*sz/\cur.toList.take (n*sz)=xs
def Cells (h:H) (b:OA) (cs:List Value):Prop:=∀(j:Nat) v,cs[j]? =some v->∃a,b=some a/\cell h (a.add j)=some v
theorem je {h:H} {g j e:Nat} {cur:Array Value} {fz:Nat × Nat} (hg:h[g]? =some (.cells cur e fz)):cell h ((⟨g,0,none⟩:Addr).add j)=cur[j]? :=by
 have:((⟨g,0,none⟩:Addr).add j)=⟨g,j,none⟩:=by unfold Addr.add;split <;> simp_all
 rw[this]
 unfold Sh.cell
 simp only[hg]
 rfl
theorem Own.cells {h:H} {base e sz n c:Nat} {b:OA} {xs:List Value} (o:Own h base e sz b n c xs):Cells h b xs:=by
 intro j v hv
 have hj:j<xs.length:=(List.getElem?_eq_some_iff.1 hv).1
 rw[o.len] at hj
 rcases o.is with ⟨hn,_⟩ | ⟨g,cur,rfl,_,hg,_,ht⟩
 ·subst hn;simp at hj
 ·refine⟨_,rfl,?_⟩
  rw[je hg]
  rw[<-ht,List.getElem?_take,if_pos hj] at hv
  simpa using hv
theorem Own.keep {h h':H} {base e sz n c:Nat} {B:Nat->Prop} {b:OA} {xs:List Value} (o:Own h base e sz b n c xs) (k:bZ B h h') (hb:∀g,b=some ⟨g,0,none⟩->base<=g->g<h.size->B g):Own h' base e sz b n c xs:=by
 refine⟨o.len,o.cap,o.max,o.is.imp id ?_⟩
 rintro⟨g,cur,e1,h1,hg,h2,h3⟩
 exact⟨g,cur,e1,h1,k.2 g (hb g e1 h1 (Array.getElem?_eq_some_iff.1 hg).1) _ hg rfl,h2,h3⟩
theorem Own.lower {h:H} {base ly e sz n c:Nat} {b:OA} {xs:List Value} (o:Own h base e sz b n c xs) (hb:ly<=base):Own h ly e sz b n c xs:=
 ⟨o.len,o.cap,o.max,o.is.imp id fun⟨g,cur,e1,h1,h2⟩=>⟨g,cur,e1,by omega,h2⟩⟩
theorem Own.nil (h:H) (base e sz:Nat) (b:OA):Own h base e sz b 0 0 []:=⟨by simp,Nat.le_refl _,Nat.zero_le _,.inl ⟨rfl,rfl⟩⟩
theorem Own.lt {h:H} {base e sz n c:Nat} {b:OA} {xs:List Value} (o:Own h base e sz b n c xs):(n=0/\c=0)∨∃g,b=some ⟨g,0,none⟩/\base<=g/\g<h.size:=by
 rcases o.is with h1 | ⟨g,cur,e1,h1,hg,_⟩
 ·exact .inl h1
 ·exact .inr ⟨g,e1,h1,(Array.getElem?_eq_some_iff.1 hg).1⟩
structure dW (h h':H) (b:OA):Prop where
 size:h.size<=h'.size
 vM:∀k:Nat,k<h.size->(∀a,b=some a->a.block≠k)->h'[k]? =h[k]?
theorem dW.refl (h:H) (b:OA):dW h h b:=⟨Nat.le_refl _,fun _ _ _=>rfl⟩
theorem dW.keep {h h':H} {b:OA} (g:dW h h' b):SK (FF h b) h h':=⟨g.size,fun k hk=>g.vM k hk.1 hk.2⟩
theorem w9 {t ty e:TypeId} {i:TypeInfo} {z:Value} (ht:P.underlying t=some (.slice e)) (hi:P.info? e=some i) (hz:i.zero=some z) (vN:z.cells.size=i.size)
  {h:H} {sb rb:OA} {n c m k:Nat} {xs news:List Value} (hx:xs.length=n*i.size) (Zq:Cells h sb xs) (hn:news.length=m*i.size) (uD:Cells h rb news)
  (qv:0<i.size) (hm:0<m) (hg:c<n+m) (jZ:n+m<=maxLen) (hb:(n+m)*i.bytes<=140737488355328) (XI:rb≠none) (hsb:sb=none->n=0/\c=0) (w:World) (hw:w.heap=h):
  ∃cap w',(Builtin.append_ #[t,t] ty #[.slice sb n c,.slice rb m k]).run P w=.ok (.slice (some (Ad h.size)) (n+m) cap) w'/\bu w w'/\n+m<=cap/\cap<=maxLen/\
   w'.heap=h.push (.cells (xs.toArray++news.toArray++Builtin.zeroCells z.cells (cap - (n+m))) e)/\(xs.toArray++news.toArray++Builtin.zeroCells z.cells (cap - (n+m))).size=cap*i.size:=by
 have xa:∀cap,n+m<=cap->(xs.toArray++news.toArray++Builtin.zeroCells z.cells (cap - (n+m))).size=cap*i.size:=by
  intro cap hc
  simp only[Array.size_append,List.size_toArray,size_zeroCells,vN,hx,hn,<-Nat.add_mul]
  congr 1;omega
 cases Zt:rb with
 | none=>exact absurd Zt XI
 | some a=>
  subst Zt
  have Lq:∀(j:Nat) v,news[j]? =some v->w.cell? (a.add j)=some v:=fun j v hv=>by
   obtain⟨a',e',hc⟩:=uD j v hv
   cases e'
   rw[lj,hw];exact hc
  have af2:((n+m:Nat):Int)<=9223372036854775807:=by simp only[maxLen] at jZ;omega
  subst hw
  cases Zu:sb with
  | none=>
   obtain⟨Pn,Ze⟩:=hsb Zu
   subst Pn;subst Ze
   have hx0:xs=[]:=List.eq_nil_of_length_eq_zero (by simpa using hx)
   subst hx0
   have hr:=run_append_nil (P:=P) w t ty e i z ht hi hz a m k news hn Lq hm (by omega) (by simp only[Nat.zero_add] at hb;omega)
   rw[Nat.zero_add]
   refine⟨grownCap w m 0 e,_,hr,⟨rfl,rfl,rfl⟩,grownCap_ge w m 0 e,grownCap_le_maxLen w m 0 e (by omega),?_,by have:=xa (grownCap w m 0 e) (by have:=grownCap_ge w m 0 e;omega);simpa using this⟩
   show w.heap.push _=w.heap.push _
   simp
  | some sa=>
   subst Zu
   have af3:∀(j:Nat) v,xs[j]? =some v->w.cell? (sa.add j)=some v:=fun j v hv=>by
    obtain⟨a',e',hc⟩:=Zq j v hv
    cases e'
    exact hc
   have hr:=run_append_grow (P:=P) w t ty e i z ht hi hz sa n c xs hx af3 a m k news hn Lq hg af2 (growslice_fits hg hb)
   exact⟨grownCap w (n+m) c e,_,hr,⟨rfl,rfl,rfl⟩,grownCap_ge w (n+m) c e,grownCap_le_maxLen w (n+m) c e jZ,rfl,xa _ (grownCap_ge w (n+m) c e)⟩
theorem uE {t ty e:TypeId} {i:TypeInfo} (ht:P.underlying t=some (.slice e)) (hi:P.info? e=some i) {sb rb:OA} {n c k:Nat} (hc:n<=c) (w:World):
  (Builtin.append_ #[t,t] ty #[.slice sb n c,.slice rb 0 k]).run P w=.ok (.slice sb n c) w:=by
 cases sb <;> cases rb <;> simp[Builtin.append_,run_underlying ht,sizeOf,typeInfo,hi,Builtin.lenOf,Builtin.firstCells,loadCells,loadCellsFrom,storeCells,hc]
theorem xb {l k:List Value} {n:Nat} (h:l.length=n) (r:List Value) (e:k=l++r):k.take n=l:=by rw[e,<-h];exact List.take_left
theorem rD {t ty e:TypeId} {i:TypeInfo} {z:Value} (ht:P.underlying t=some (.slice e)) (hi:P.info? e=some i) (hz:i.zero=some z) (vN:z.cells.size=i.size)
  {h:H} {sb rb:OA} {n c m k base:Nat} {xs news:List Value} (o:Own h base e i.size sb n c xs) (hn:news.length=m*i.size) (uD:Cells h rb news) (h1:∀v ∈ news,v.oneCell'=true)
  (qv:0<i.size) (jZ:n+m<=maxLen) (hb:(n+m)*i.bytes<=140737488355328) (hO:base<=h.size) {K:KV}
  (hK:∀b' c' h',Own h' base e i.size b' (n+m) c' (xs++news)->dW h h' sb->(b'=sb∨b'=some (Ad h.size))->(n+m=0->b'=sb/\c'=c)->K (.slice b' (n+m) c') h'):
  aZ P (Builtin.append_ #[t,t] ty ⟨[.slice sb n c,.slice rb m k]⟩) h K:=by
 intro w hw
 have hlen:(xs++news).length=(n+m)*i.size:=by rw[List.length_append,o.len,hn,Nat.add_mul]
 by_cases hm:m=0
 ·subst hm
  have hnn:news=[]:=List.eq_nil_of_length_eq_zero (by simpa using hn)
  subst hnn
  refine⟨_,w,uE ht hi o.cap w,bu.refl w,?_⟩
  rw[hw]
  exact hK sb c h (by simpa using o) (dW.refl h sb) (.inl rfl) (fun _=>⟨rfl,rfl⟩)
 ·have XI:rb≠none:=by
   intro e'
   have hp:0<news.length:=by rw[hn];exact Nat.mul_pos (by omega) qv
   obtain⟨a,ha,_⟩:=uD 0 _ (List.getElem?_eq_getElem hp)
   rw[e'] at ha;cases ha
  by_cases hroom:n+m<=c
  ·rcases o.is with ⟨_,Ze⟩ | ⟨g,cur,rfl,ym,hg,hcs,Zv⟩
   ·omega
   ·cases XJ:rb with
    | none=>exact absurd XJ XI
    | some a=>
     subst XJ
     subst hw
     have Ul:n*i.size+news.length<=cur.size:=by rw[hn,hcs,<-Nat.add_mul];exact Nat.mul_le_mul_right _ hroom
     have hr:=run_append_room (P:=P) w t ty e i ht hi g n c cur hg a m k news hn (fun j v hv=>by
      obtain⟨a',e',hc⟩:=uD j v hv
      cases e'
      exact hc) h1 hroom Ul
     refine⟨_,_,hr,⟨rfl,rfl,rfl⟩,hK _ _ _ ⟨hlen,hroom,o.max,.inr ⟨g,_,rfl,ym,setRow_heap w g cur _ e _ hg,?_,?_⟩⟩ ⟨by simp[World.setRow],fun k hk bL=>?_⟩ (.inl rfl) (by omega)⟩
     ·simp only[List.size_toArray,List.length_append,List.length_take,List.length_drop,Array.length_toList]
      omega
     ·refine xb hlen (cur.toList.drop (n*i.size+news.length)) ?_
      rw[Zv]
     ·exact setRow_other w g k _ (fun e=>bL _ rfl e.symm)
  ·have hsb:sb=none->n=0/\c=0:=by
    intro e'
    rcases o.is with h | ⟨g,cur,e2,_⟩
    ·exact h
    ·rw[e'] at e2;cases e2
   obtain⟨cap,w',hr,ho,B7,nj,hh,ib⟩:=w9 (P:=P) (ty:=ty) (k:=k) ht hi hz vN o.len o.cells hn uD qv (by omega) (by omega) jZ hb XI hsb w hw
   refine⟨_,w',hr,ho,?_⟩
   rw[hh]
   refine hK _ _ _ ⟨hlen,B7,nj,.inr ⟨h.size,_,rfl,hO,by simp,ib,?_⟩⟩ ⟨by simp,fun k hk _=>(SK.push h _).2 k hk⟩ (.inr rfl) (by omega)
   refine xb hlen (Builtin.zeroCells z.cells (cap - (n+m))).toList ?_
   simp
theorem xc {t ty e:TypeId} {i:TypeInfo} {z:Value} (ht:P.underlying t=some (.slice e)) (hi:P.info? e=some i) (hz:i.zero=some z) (vN:z.cells.size=i.size)
  {h:H} {sb rb:OA} {n c m k:Nat} {xs news:List Value} (hx:xs.length=n*i.size) (Zq:Cells h sb xs) (hnc:n<=c) (zK:m=0∨c<n+m) (hn:news.length=m*i.size) (uD:Cells h rb news)
  (qv:0<i.size) (jZ:n+m<=maxLen) (hb:(n+m)*i.bytes<=140737488355328) (hsb:sb=none->n=0/\c=0) {K:KV}
  (wU:m=0->K (.slice sb n c) h)
  (hK:∀c' h',0<m->Own h' h.size e i.size (some (Ad h.size)) (n+m) c' (xs++news)->SK (rS h.size) h h'->K (.slice (some (Ad h.size)) (n+m) c') h'):
  aZ P (Builtin.append_ #[t,t] ty ⟨[.slice sb n c,.slice rb m k]⟩) h K:=by
 intro w hw
 by_cases hm:m=0
 ·subst hm
  exact⟨_,w,uE ht hi hnc w,bu.refl w,by rw[hw];exact wU rfl⟩
 ·have XI:rb≠none:=by
   intro e'
   have hp:0<news.length:=by rw[hn];exact Nat.mul_pos (by omega) qv
   obtain⟨a,ha,_⟩:=uD 0 _ (List.getElem?_eq_getElem hp)
   rw[e'] at ha;cases ha
  have hlen:(xs++news).length=(n+m)*i.size:=by rw[List.length_append,hx,hn,Nat.add_mul]
  obtain⟨cap,w',hr,ho,B7,nj,hh,ib⟩:=w9 (P:=P) (ty:=ty) (k:=k) ht hi hz vN hx Zq hn uD qv (by omega) (by omega) jZ hb XI hsb w hw
  refine⟨_,w',hr,ho,?_⟩
  rw[hh]
  refine hK _ _ (by omega) ⟨hlen,B7,nj,.inr ⟨h.size,_,rfl,Nat.le_refl _,by simp,ib,?_⟩⟩ (SK.push h _)
  refine xb hlen (Builtin.zeroCells z.cells (cap - (n+m))).toList ?_
  simp
set_option linter.unusedSimpArgs false
variable {P:Program} {α:Type} {E:El α}
def eH (E:El α) (A:Nat->Prop) (h:H):List α->List Value->Prop
 | [],xs=>xs=[]
 | x::l,xs=>∃cs r,xs=cs++r/\E.R A h x cs/\eH E A h l r
theorem eH.len {A:Nat->Prop} {h:H}:∀{l:List α} {xs:List Value},eH E A h l xs->xs.length=l.length*E.sz
 | [],xs,e=>by simp[eH] at e;simp[e]
 | x::l,xs,⟨cs,r,e,h1,h2⟩=>by rw[e,List.length_append,E.len _ _ _ _ h1,eH.len h2,List.length_cons,Nat.add_mul];omega
theorem eH.one {A:Nat->Prop} {h:H}:∀{l:List α} {xs:List Value},eH E A h l xs->∀v ∈ xs,v.oneCell'=true
 | [],xs,e,v,hv=>by simp[eH] at e;simp[e] at hv
 | x::l,xs,⟨cs,r,e,h1,h2⟩,v,hv=>by
  rw[e] at hv
  rcases List.mem_append.1 hv with hv | hv
  ·exact E.one _ _ _ _ h1 v hv
  ·exact eH.one h2 v hv
theorem eH.append {A:Nat->Prop} {h:H}:∀{l l':List α} {xs Zw:List Value},eH E A h l xs->eH E A h l' Zw->eH E A h (l++l') (xs++Zw)
 | [],l',xs,Zw,e,e'=>by simp[eH] at e;simpa [e] using e'
 | x::l,l',xs,Zw,⟨cs,r,e,h1,h2⟩,e'=>⟨cs,r++Zw,by rw[e,List.append_assoc],h1,h2.append e'⟩
theorem eH.keep {A A':Nat->Prop} {h h':H} (k:bZ (fun k=>A k/\k<h.size) h h') (hA:∀k,A k->k<h.size->A' k):∀{l:List α} {xs:List Value},eH E A h l xs->eH E A' h' l xs
 | [],xs,e=>e
 | x::l,xs,⟨cs,r,e,h1,h2⟩=>⟨cs,r,e,E.keep _ _ _ _ _ _ h1 k hA,h2.keep k hA⟩
theorem eH.at {A:Nat->Prop} {h:H}:∀{l:List α} {xs:List Value} {i:Nat} {x:α},eH E A h l xs->l[i]? =some x->∃cs,E.R A h x cs/\∀(j:Nat) v,cs[j]? =some v->xs[i*E.sz+j]? =some v
 | [],xs,i,x,e,hx=>by simp at hx
 | y::l,xs,0,x,⟨cs,r,e,h1,h2⟩,hx=>by
  simp at hx
  subst hx
  refine⟨cs,h1,fun j v hv=>?_⟩
  have hj:j<cs.length:=(List.getElem?_eq_some_iff.1 hv).1
  rw[e,Nat.zero_mul,Nat.zero_add,List.getElem?_append_left hj];exact hv
 | y::l,xs,i+1,x,⟨cs,r,e,h1,h2⟩,hx=>by
  obtain⟨cs2,h3,h4⟩:=eH.at h2 (i:=i) (by simpa using hx)
  refine⟨cs2,h3,fun j v hv=>?_⟩
  have hl:=E.len _ _ _ _ h1
  rw[e,Nat.add_mul,List.getElem?_append_right (by rw[hl];omega),hl]
  rw[show(i*E.sz+1*E.sz+j) - E.sz=i*E.sz+j by omega]
  exact h4 j v hv
theorem eH.take {A:Nat->Prop} {h:H}:∀{l:List α} {xs:List Value} (k:Nat),eH E A h l xs->eH E A h (l.take k) (xs.take (k*E.sz))
 | l,xs,0,e=>by simp[eH]
 | [],xs,k+1,e=>by simp[eH] at e;simp[eH,e]
 | y::l,xs,k+1,⟨cs,r,e,h1,h2⟩=>by
  refine⟨cs,r.take (k*E.sz),?_,h1,h2.take k⟩
  have hl:=E.len _ _ _ _ h1
  rw[e,Nat.add_mul,List.take_append,hl]
  rw[List.take_of_length_le (by rw[hl];omega)]
  congr 1;congr 1;omega
theorem Row.enc {A:Nat->Prop} {h:H} {b:OA} {c:Nat}:∀{l:List α} {n:Nat},Row E A h b n c l->∃xs,eH E A h l xs/\Cells h b xs:=by
 intro l n r
 have key:∀(l:List α) (k:Nat),(∀(i:Nat) (x:α),l[i]? =some x->∃a,b=some a/\At E A h (a.add ((k+i)*E.sz)) x)->
   ∃xs,eH E A h l xs/\∀(j:Nat) v,xs[j]? =some v->∃a,b=some a/\cell h (a.add (k*E.sz+j))=some v:=by
  intro l
  induction l with
  | nil=>intro k _;exact⟨[],rfl,fun j v hv=>by simp at hv⟩
  | cons x l ih=>
   intro k hk
   obtain⟨a,rfl,_,cs,hR,hcs⟩:=hk 0 x rfl
   obtain⟨xs,he,Zq⟩:=ih (k+1) fun i y hy=>by
    have:=hk (i+1) y (by simpa using hy)
    rwa[show k+(i+1)=k+1+i by omega] at this
   refine⟨cs++xs,⟨cs,xs,rfl,hR,he⟩,fun j v hv=>⟨a,rfl,?_⟩⟩
   have hl:=E.len _ _ _ _ hR
   by_cases hj:j<cs.length
   ·rw[List.getElem?_append_left hj] at hv
    have:=hcs j v hv
    rwa[add_add,Nat.add_zero] at this
   ·rw[List.getElem?_append_right (by omega)] at hv
    obtain⟨a',e,hc⟩:=Zq _ v hv
    cases e
    rw[Nat.add_mul] at hc
    rwa[show k*E.sz+1*E.sz+(j - cs.length)=k*E.sz+j by omega] at hc
 obtain⟨xs,he,hc⟩:=key l 0 fun i x hx=>by rw[Nat.zero_add];exact r.gE i x hx
 exact⟨xs,he,fun j v hv=>by have:=hc j v hv;simpa using this⟩
theorem Row.of {A:Nat->Prop} {h:H} {b:OA} {n c:Nat} {l:List α} {xs:List Value} (he:eH E A h l xs) (hc:Cells h b xs) (hn:l.length=n) (hnc:n<=c) (hm:c<=maxLen)
  (hA:∀a,b=some a->A a.block):Row E A h b n c l:=by
 refine⟨hn,hnc,hm,fun i x hx=>?_⟩
 obtain⟨cs,hR,hcs⟩:=he.at hx
 have hl:=E.len _ _ _ _ hR
 have hp:=E.pos
 obtain⟨v,hv⟩:∃v,cs[0]? =some v:=⟨cs[0]'(by omega),List.getElem?_eq_getElem _⟩
 obtain⟨a,e,_⟩:=hc _ v (hcs 0 v hv)
 refine⟨a,e,by rw[br];exact hA a e,cs,hR,fun j u hu=>?_⟩
 obtain⟨a',e',Ps⟩:=hc _ u (hcs j u hu)
 rw[e] at e';cases e'
 rw[add_add];exact Ps
structure dX (E:El α) (A:Nat->Prop) (h:H) (base e:Nat) (b:OA) (n c:Nat) (l:List α):Prop where
 len:l.length=n
 own:∃xs,Own h base e E.sz b n c xs/\eH E A h l xs
theorem dX.row {A A':Nat->Prop} {h:H} {base e n c:Nat} {b:OA} {l:List α} (o:dX E A h base e b n c l) (hA:∀k,A k->A' k) (hg:∀g:Nat,b=some ⟨g,0,none⟩->g<h.size->base<=g->A' g):Row E A' h b n c l:=by
 obtain⟨xs,h1,h2⟩:=o.own
 by_cases hn:n=0
 ·have hl:l=[]:=List.eq_nil_of_length_eq_zero (by rw[o.len,hn])
  subst hn;subst hl
  exact⟨rfl,h1.cap,h1.max,fun i x hx=>by simp at hx⟩
 ·rcases h1.lt with ⟨h0,_⟩ | ⟨g,rfl,hb,cR⟩
  ·exact absurd h0 hn
  ·exact Row.of (h2.keep (bZ.refl _ _) fun k hk _=>hA k hk) h1.cells o.len h1.cap h1.max fun a e=>by cases e;exact hg g rfl cR hb
theorem dX.nil (A:Nat->Prop) (h:H) (base e:Nat) (b:OA):dX E A h base e b 0 0 []:=⟨rfl,[],Own.nil h base e E.sz b,rfl⟩
theorem dX.keep {A A':Nat->Prop} {h h':H} {base e n c:Nat} {b:OA} {l:List α} (o:dX E A h base e b n c l) {B:Nat->Prop} (k:bZ B h h') (hA:∀k,A k->k<h.size->B k) (Um:∀k,A k->k<h.size->A' k)
  (hg:∀g,b=some ⟨g,0,none⟩->base<=g->g<h.size->B g):dX E A' h' base e b n c l:=by
 obtain⟨xs,h1,h2⟩:=o.own
 exact⟨o.len,xs,h1.keep k hg,h2.keep (k.less fun k hk=>hA k hk.1 hk.2) Um⟩
theorem dX.kw {A:Nat->Prop} {h h':H} {base e n c:Nat} {b:OA} {l:List α} (o:dX E A h base e b n c l) (k:KW h h'):dX E A h' base e b n c l:=
 o.keep k (fun _ _ h=>h) (fun _ h _=>h) fun _ _ _ h=>h
theorem dX.kb {A:Nat->Prop} {h h':H} {base e n c:Nat} {b:OA} {l:List α} (o:dX E A h base e b n c l) (k:KB h h'):dX E A h' base e b n c l:=o.kw (KB.w k)
theorem dX.lower {A:Nat->Prop} {h:H} {base ly e n c:Nat} {b:OA} {l:List α} (o:dX E A h base e b n c l) (hb:ly<=base):dX E A h ly e b n c l:=by
 obtain⟨xs,h1,h2⟩:=o.own
 exact⟨o.len,xs,h1.lower hb,h2⟩
theorem dX.cap {A:Nat->Prop} {h:H} {base e n c:Nat} {b:OA} {l:List α} (o:dX E A h base e b n c l):n<=c/\c<=maxLen:=by
 obtain⟨xs,h1,h2⟩:=o.own
 exact⟨h1.cap,h1.max⟩
def Flat (E:El α):Prop:=∀A A' h h' x cs,E.R A h x cs->E.R A' h' x cs
theorem eH.flat (hf:Flat E) {A A':Nat->Prop} {h h':H}:∀{l:List α} {xs:List Value},eH E A h l xs->eH E A' h' l xs
 | [],xs,e=>e
 | x::l,xs,⟨cs,r,e,h1,h2⟩=>⟨cs,r,e,hf _ _ _ _ _ _ h1,h2.flat hf⟩
theorem dX.flat (hf:Flat E) {A A':Nat->Prop} {h:H} {base e n c:Nat} {b:OA} {l:List α} (o:dX E A h base e b n c l):dX E A' h base e b n c l:=by
 obtain⟨xs,h1,h2⟩:=o.own
 exact⟨o.len,xs,h1,h2.flat hf⟩
structure oH (P:Program) (E:El α) (t e by':Nat):Prop where
 is:∃(i:TypeInfo) (z:Value),P.underlying t=some (.slice e)/\P.info? e=some i/\i.zero=some z/\z.cells.size=i.size/\i.size=E.sz/\i.bytes=by'
theorem dX.append {t ty e by':Nat} (ap:oH P E t e by') {A:Nat->Prop} {h:H} {sb rb:OA} {n c m k base:Nat} {l l2:List α} (o:dX E A h base e sb n c l)
  (r:Row E A h rb m k l2) (jZ:n+m<=maxLen) (hb:(n+m)*by'<=140737488355328) (hO:base<=h.size)
  (hAb:∀k,A k->k<h.size->∀a,sb=some a->a.block≠k) {K:KV}
  (hK:∀b' c' h',dX E A h' base e b' (n+m) c' (l++l2)->dW h h' sb->(b'=sb∨b'=some (Ad h.size))->(n+m=0->b'=sb/\c'=c)->K (.slice b' (n+m) c') h'):
  aZ P (Builtin.append_ #[t,t] ty ⟨[.slice sb n c,.slice rb m k]⟩) h K:=by
 obtain⟨i,z,ht,hi,hz,vN,ib,zl⟩:=ap.is
 obtain⟨xs,h1,h2⟩:=o.own
 obtain⟨news,Dh,IP⟩:=r.enc
 have hlen:news.length=m*i.size:=by rw[Dh.len,r.len,ib]
 refine rD (xs:=xs) (news:=news) (base:=base) ht hi hz vN (by rw[ib];exact h1) hlen IP Dh.one (by rw[ib];exact E.pos) jZ (by rw[zl];exact hb) hO fun b' c' h' ho hg IN h0=>?_
 refine hK b' c' h' ⟨by rw[List.length_append,o.len,r.len],xs++news,by rw[<-ib];exact ho,?_⟩ hg IN h0
 exact(h2.append Dh).keep (hg.keep.w.less fun k hk=>⟨hk.2,hAb k hk.1 hk.2⟩) fun _ h _=>h
theorem Row.append {t ty e by':Nat} (ap:oH P E t e by') {A:Nat->Prop} {h:H} {sb rb:OA} {n c m k:Nat} {l l2:List α} (o:Row E A h sb n c l) (zK:m=0∨c<n+m) (r:Row E A h rb m k l2)
  (hsb:sb=none->c=0) (jZ:n+m<=maxLen) (hb:(n+m)*by'<=140737488355328) {K:KV} (wU:m=0->K (.slice sb n c) h)
  (hK:∀c' h',0<m->dX E A h' h.size e (some (Ad h.size)) (n+m) c' (l++l2)->KB h h'->K (.slice (some (Ad h.size)) (n+m) c') h'):
  aZ P (Builtin.append_ #[t,t] ty ⟨[.slice sb n c,.slice rb m k]⟩) h K:=by
 obtain⟨i,z,ht,hi,hz,vN,ib,zl⟩:=ap.is
 obtain⟨xs,he,hc⟩:=o.enc
 obtain⟨news,Dh,IP⟩:=r.enc
 refine xc (xs:=xs) (news:=news) ht hi hz vN (by rw[he.len,o.len,ib]) hc o.cap zK (by rw[Dh.len,r.len,ib]) IP (by rw[ib];exact E.pos) jZ (by rw[zl];exact hb)
  (fun e=>⟨by have:=o.cap;have:=hsb e;omega,hsb e⟩) wU fun c' h' hm ho hk=>?_
 exact hK c' h' hm ⟨by rw[List.length_append,o.len,r.len],xs++news,by rw[<-ib];exact ho,(he.append Dh).keep ((KB.w hk).less fun _ h=>h.2) fun _ h _=>h⟩ hk
theorem Row.one {A:Nat->Prop} {h:H} {x:α} {cs:List Value} {e:Nat} (hR:E.R A h x cs):Row E (fun k=>A k∨k=h.size) (h.push (.cells ⟨cs⟩ e)) (some (Ad h.size)) 1 1 [x]:=by
 have hR':=E.keep _ (fun k=>A k∨k=h.size) _ _ _ _ hR ((SK.push h (.cells ⟨cs⟩ e)).w.less fun _ h=>h.2) fun _ h _=>.inl h
 refine⟨rfl,Nat.le_refl _,by decide,fun i y hy=>?_⟩
 cases i with
 | zero=>
  simp at hy
  subst hy
  refine⟨_,rfl,.inr (br _ _),cs,hR',fun j v hv=>?_⟩
  rw[Nat.zero_mul,add_zero',je (cur:=⟨cs⟩) (e:=e) (fz:=(0,0)) (by simp)]
  simpa using hv
 | succ i=>simp at hy
set_option linter.unusedSimpArgs false
variable {P:Program} {α β:Type}
def jz (k:IntKind):El Int where
 sz:=1
 R:=fun _ _ x cs=>cs=[.int k x]/\bd k x
 len:=fun _ _ _ _ h=>by rw[h.1];rfl
 one:=fun _ _ _ _ h v hv=>by rw[h.1] at hv;simp at hv;subst hv;rfl
 keep:=fun _ _ _ _ _ _ h _ _=>h
 pos:=by decide
def cN:El (List UInt8) where
 sz:=1
 R:=fun _ _ x cs=>cs=[S x]/\x.length<=maxLen
 len:=fun _ _ _ _ h=>by rw[h.1];rfl
 one:=fun _ _ _ _ h v hv=>by rw[h.1] at hv;simp at hv;subst hv;rfl
 keep:=fun _ _ _ _ _ _ h _ _=>h
 pos:=by decide
def ET:El Bool where
 sz:=1
 R:=fun _ _ x cs=>cs=[.bool x]
 len:=fun _ _ _ _ h=>by rw[h];rfl
 one:=fun _ _ _ _ h v hv=>by rw[h] at hv;simp at hv;subst hv;rfl
 keep:=fun _ _ _ _ _ _ h _ _=>h
 pos:=by decide
def EJ (E:El α):El (List α) where
 sz:=1
 R:=fun A h l cs=>∃b n c,cs=[.slice b n c]/\Row E A h b n c l/\(b=none->c=0)
 len:=fun _ _ _ _ ⟨_,_,_,e,_⟩=>by rw[e];rfl
 one:=fun _ _ _ _ ⟨_,_,_,e,_⟩ v hv=>by rw[e] at hv;simp at hv;subst hv;rfl
 keep:=fun _ _ _ _ _ _ ⟨b,n,c,e,r,hz⟩ k hb=>⟨b,n,c,e,r.keep k hb,hz⟩
 pos:=by decide
def ik (E:El α) (F:El β):El (α × β) where
 sz:=E.sz+F.sz
 R:=fun A h x cs=>∃c1 c2,cs=c1++c2/\E.R A h x.1 c1/\F.R A h x.2 c2
 len:=fun _ _ _ _ ⟨c1,c2,e,h1,h2⟩=>by rw[e,List.length_append,E.len _ _ _ _ h1,F.len _ _ _ _ h2]
 one:=fun _ _ _ _ ⟨c1,c2,e,h1,h2⟩ v hv=>by
  rw[e] at hv
  rcases List.mem_append.1 hv with hv | hv
  ·exact E.one _ _ _ _ h1 v hv
  ·exact F.one _ _ _ _ h2 v hv
 keep:=fun _ _ _ _ _ _ ⟨c1,c2,e,h1,h2⟩ k hb=>⟨c1,c2,e,E.keep _ _ _ _ _ _ h1 k hb,F.keep _ _ _ _ _ _ h2 k hb⟩
 pos:=Nat.lt_of_lt_of_le E.pos (Nat.le_add_right _ _)
section
variable {A:Nat->Prop} {h:H} {a:Addr}
theorem At.fst {E:El α} {F:El β} {x:α × β} (hA:At (ik E F) A h a x):At E A h a x.1:=by
 obtain⟨h1,cs,⟨c1,c2,e,h2,h3⟩,h4⟩:=hA
 refine⟨h1,c1,h2,fun j v hv=>h4 j v ?_⟩
 rw[e,List.getElem?_append_left (List.getElem?_eq_some_iff.1 hv).1];exact hv
theorem At.snd {E:El α} {F:El β} {x:α × β} (hA:At (ik E F) A h a x):At F A h (a.add E.sz) x.2:=by
 obtain⟨h1,cs,⟨c1,c2,e,h2,h3⟩,h4⟩:=hA
 refine⟨by rw[br];exact h1,c2,h3,fun j v hv=>?_⟩
 rw[add_add]
 refine h4 _ v ?_
 have hl:=E.len _ _ _ _ h2
 rw[e,List.getElem?_append_right (by omega),hl,show E.sz+j - E.sz=j by omega];exact hv
theorem At.dt {E:El α} {F:El β} {x:α × β} {m k:Nat} (hA:At (ik E F) A h (a.add m) x) (hk:k=m+E.sz):At F A h (a.add k) x.2:=by
 subst hk;have:=hA.snd;rwa[add_add] at this
theorem At.int {k:IntKind} {x:Int} (hA:At (jz k) A h a x):cell h a=some (.int k x)/\bd k x:=by
 obtain⟨h1,cs,⟨e,hr⟩,h4⟩:=hA
 subst e
 exact⟨h4 0 _ rfl,hr⟩
theorem At.str {x:List UInt8} (hA:At cN A h a x):cell h a=some (S x)/\x.length<=maxLen:=by
 obtain⟨h1,cs,⟨e,hr⟩,h4⟩:=hA
 subst e
 exact⟨h4 0 _ rfl,hr⟩
theorem At.bool {x:Bool} (hA:At ET A h a x):cell h a=some (.bool x):=by
 obtain⟨h1,cs,e,h4⟩:=hA
 cases e
 exact h4 0 _ rfl
theorem At.sl {E:El α} {l:List α} (hA:At (EJ E) A h a l):∃b n c,cell h a=some (.slice b n c)/\Row E A h b n c l/\(b=none->c=0):=by
 obtain⟨h1,cs,⟨b,n,c,e,r⟩,h4⟩:=hA
 cases e
 exact⟨b,n,c,h4 0 _ rfl,r⟩
theorem CU {k:IntKind} {x:Int} {K:Int->Prop} (hA:At (jz k) A h a x) (hk:bd k x->K x):∃i,cell h a=some (.int k i)/\K i:=⟨x,hA.int.1,hk hA.int.2⟩
theorem Of {x:List UInt8} {K:List UInt8->Prop} (hA:At cN A h a x) (hk:x.length<=maxLen->K x):∃s,cell h a=some (S s)/\K s:=⟨x,hA.str.1,hk hA.str.2⟩
theorem rG {E:El α} {l:List α} {K:OA->Nat->Nat->Prop} (hA:At (EJ E) A h a l) (hk:∀b n c,Row E A h b n c l->(b=none->c=0)->K b n c):∃b n c,cell h a=some (.slice b n c)/\K b n c:=by
 obtain⟨b,n,c,e,r,hz⟩:=hA.sl
 exact⟨b,n,c,e,hk b n c r hz⟩
theorem bK {p:Prop} {X Y:Prop} (h:p) (x:X):aM p X Y:=⟨fun _=>x,fun n=>absurd h n⟩
theorem cg {p:Prop} {X Y:Prop} (h:¬p) (y:Y):aM p X Y:=⟨fun n=>absurd n h,fun _=>y⟩
theorem bf {p:Prop} {X Y:Prop} (x:p->X) (y:¬p->Y):aM p X Y:=⟨x,y⟩
end
structure Var (h:H) (a:Addr) (t:Nat) (cs:List Value):Prop where
 is:a=Ad a.block
 cells:h[a.block]? =some (.cells ⟨cs⟩ t (0,0))
section
variable {h:H} {a:Addr} {t:Nat} {cs:List Value}
theorem Var.lt (v:Var h a t cs):a.block<h.size:=(Array.getElem?_eq_some_iff.1 v.cells).1
theorem Var.cell (v:Var h a t cs) (i:Nat) {x:Value} (hx:cs[i]? =some x):Sh.cell h (a.add i)=some x:=by
 rw[v.is,je v.cells];simpa using hx
theorem Var.dA (v:Var h a t cs) {x:Value} (hx:cs[0]? =some x):Sh.cell h a=some x:=v.cell 0 hx
theorem Var.kw {h':H} (v:Var h a t cs) (k:KW h h'):Var h' a t cs:=⟨v.is,k.2 _ v.lt _ v.cells rfl⟩
theorem Var.kb {h':H} (v:Var h a t cs) (k:KB h h'):Var h' a t cs:=v.kw (KB.w k)
theorem Var.keep {h':H} {A:Nat->Prop} (v:Var h a t cs) (k:bZ A h h') (hA:A a.block):Var h' a t cs:=⟨v.is,k.2 _ hA _ v.cells rfl⟩
theorem Var.at {E:El α} {A:Nat->Prop} {x:α} (v:Var h a t cs) (hR:E.R A h x cs) (ha:A a.block):At E A h a x:=⟨ha,cs,hR,fun j u hu=>v.cell j hu⟩
theorem Var.wJ {E:El α} {A:Nat->Prop} {x:α} (v:Var h a t cs) (hR:E.R A h x cs) (ha:A a.block):Row E A h (some a) 1 1 [x]:=by
 refine⟨rfl,Nat.le_refl _,by decide,fun i y hy=>?_⟩
 cases i with
 | zero=>
  simp at hy
  subst hy
  refine⟨a,rfl,?_⟩
  rw[Nat.zero_mul,add_zero']
  exact v.at hR ha
 | succ i=>simp at hy
theorem af {K:Addr->H->Prop} (hk:∀a h',Var h' a t cs->KB h h'->a.block=h.size->h'.size=h.size+1->K a h'):aw h ⟨cs⟩ t K:=
 hk _ _ ⟨rfl,by simp⟩ (SK.push h _) rfl (by simp)
abbrev KX (g:Nat) (h h':H):Prop:=SK (fun k=>k≠g) h h'
theorem KB.step {h0 h h':H} {g:Nat} (k:KB h0 h) (x:KX g h h') (hg:h0.size<=g):KB h0 h':=SK.trans k (x.less fun k hk=>by intro e;have:k<h0.size:=hk;omega)
theorem KW.step {h0 h h':H} {g:Nat} (k:KW h0 h) (x:KX g h h') (hg:h0.size<=g):KW h0 h':=bZ.trans k (x.w.less fun k hk=>by intro e;have:k<h0.size:=hk;omega)
theorem Lr (v:Var h a t cs) (i:Nat) (x:Value):eE h (a.add i) x=h.setIfInBounds a.block (.cells ⟨cs.set i x⟩ t (0,0)):=by
 have e:(a.add i)=⟨a.block,i,none⟩:=by rw[v.is];unfold Addr.add;split <;> simp_all
 rw[e]
 unfold eE
 apply Array.ext_getElem?
 intro k
 rw[Array.getElem?_modify,Array.getElem?_setIfInBounds]
 by_cases hk:a.block=k
 ·subst hk
  simp only[if_true]
  have hl:=v.lt
  rw[v.cells]
  simp[hl]
 ·simp[hk]
theorem Var.set (v:Var h a t cs) (i:Nat) (x:Value):Var (eE h (a.add i) x) a t (cs.set i x)/\KX a.block h (eE h (a.add i) x):=by
 refine⟨⟨v.is,?_⟩,SK.eE (by rw[br];exact fun e=>e rfl)⟩
 rw[Lr v]
 have hl:=v.lt
 simp[hl]
def jq:List Value->Nat->List Value->List Value
 | cs,_,[]=>cs
 | cs,i,v::l=>jq (cs.set i v) (i+1) l
theorem cv {m:Nat}:∀{l:List Value} {i:Nat} {cs:List Value} {h:H} {K:H->Prop},Var h a t cs->m+i+l.length<=cs.length->
  (∀h',Var h' a t (jq cs (m+i) l)->KX a.block h h'->h'.size=h.size->K h')->bc (a.add m) l i h K
 | [],i,cs,h,K,v,hl,hk=>hk h v (SK.refl _ _) rfl
 | x::l,i,cs,h,K,v,hl,hk=>by
  have cR:m+i<cs.length:=by simp at hl;omega
  rw[bc,add_add]
  refine⟨⟨cs[m+i],v.cell (m+i) (List.getElem?_eq_getElem cR)⟩,?_,?_⟩
  ·unfold FJ
   rw[br,v.cells]
   simp
  ·obtain⟨v2,k2⟩:=v.set (m+i) x
   refine cv (i:=i+1) v2 (by simp at hl ⊢;omega) fun h' v3 k3 hs=>?_
   refine hk h' (by rw[show m+(i+1)=m+i+1 by omega] at v3;exact v3) (k2.trans k3) (by rw[hs,tT])
theorem aQ {l:List Value} {K:H->Prop} (v:Var h a t cs) (hl:l.length<=cs.length) (hk:∀h',Var h' a t (jq cs 0 l)->KX a.block h h'->h'.size=h.size->K h'):bc a l 0 h K:=
 cv (a:=a) (m:=0) (i:=0) (cs:=cs) v (by simpa using hl) hk
end
def Ls (d:Option TypeDesc):Bool:=
 match d with
 | some (.int _)=>true
 | some .bool=>true
 | some .string=>true
 | _=>false
def Hl (P:Program):List Field->Nat->Bool
 | [],_=>true
 | f :: fs, i => !(f.name == "_") && Nat.beq f.offset i && Ls (P.underlying f.type) && Hl P fs (i + 1)
def Bm (P:Program) (t:TypeId):Bool:=
 match P.underlying t with
 | some (.struct fs)=>!P.stoodInHeld t&&!P.eqGuardType P.depth t&&Hl P fs.toList 0
 | _=>false
def okD (d:Option TypeDesc) (x y:Value):Bool:=
 match d,x,y with
 | some (.int k),.int k1 _,.int k2 _=>decide (k1=k/\k2=k)
 | some .bool,.bool _,.bool _=>true
 | some .string,.string _,.string _=>true
 | _,_,_=>false
def okF (P:Program):List Field->List Value->List Value->Bool
 | [],[],[]=>true
 | f::fs,x::xs,y::ys=>okD (P.underlying f.type) x y&&okF P fs xs ys
 | _,_,_=>false
def okV (P:Program) (t:TypeId) (xs ys:List Value):Bool:=
 match P.underlying t with
 | some (.struct fs)=>okF P fs.toList xs ys
 | _=>false
def eqV (x y:Value):Bool:=
 match x,y with
 | .int _ a,.int _ b=>a == b
 | .bool a,.bool b=>a == b
 | .string a,.string b=>a.data.toList == b.data.toList
 | _,_=>false
def qU:List Value->List Value->Bool
 | x::xs,y::ys=>eqV x y&&qU xs ys
 | _,_=>true
theorem uF {e:TypeId} (w:World) (hd:Ls (P.underlying e)=true) {xs:Array Value} {off:Nat} {v:Value} (hx:xs[off]? =some v):(part e xs off).run P w=.ok v w:=by
 cases hu:P.underlying e with
 | none=>rw[hu] at hd;cases hd
 | some d=>cases d <;> first | (rw[hu] at hd;cases hd;done) | simp[part,isAgg,run_underlying hu,hx]
theorem Lt (w:World) (d:Nat) (t:TypeId) {x y:Value} (hd:Ls (P.underlying t)=true) (ho:okD (P.underlying t) x y=true):(Op.equalIn (d+1) t x y).run P w=.ok (eqV x y) w:=by
 cases hu:P.underlying t with
 | none=>rw[hu] at hd;cases hd
 | some td=>
  rw[hu] at hd ho
  cases td <;> first | (cases hd;done) | skip
  ·cases x <;> first | (cases ho;done) | skip
   cases y <;> first | (cases ho;done) | skip
   exact run_equalIn_bool' w d t _ _ hu
  ·rename_i k
   cases x <;> first | (cases ho;done) | skip
   cases y <;> first | (cases ho;done) | skip
   rename_i k1 a k2 b
   simp only[okD,decide_eq_true_eq] at ho
   obtain⟨rfl,rfl⟩:=ho
   exact run_equalIn_int w d t _ _ a b hu
  ·cases x <;> first | (cases ho;done) | skip
   cases y <;> first | (cases ho;done) | skip
   rw[run_equalIn_string w d t _ _ hu,ByteArray.toList_eq,ByteArray.toList_eq]
   rfl
theorem Hm (w:World) (d:Nat):∀{fs:List Field} {i:Nat} {xs ys px py:List Value},Hl P fs i=true->okF P fs xs ys=true->px.length=i->py.length=i->
  (Op.eqFields (d+1) ⟨px++xs⟩ ⟨py++ys⟩ fs).run P w=.ok (qU xs ys) w
 | [],i,[],[],px,py,_,_,_,_=>rfl
 | f::fs,i,x::xs,y::ys,px,py,hf,ho,hx,hy=>by
  simp only[Hl,Bool.and_eq_true,Bool.not_eq_true'] at hf
  simp only[okF,Bool.and_eq_true] at ho
  obtain⟨⟨⟨h1,h2⟩,h3⟩,h4⟩:=hf
  have OK:=Nat.eq_of_beq_eq_true h2
  have hn : f.name ≠ "_" := fun e => by rw [e] at h1; simp at h1
  unfold Op.eqFields
  rw[if_pos hn]
  have hpx:(⟨px++x::xs⟩:Array Value)[f.offset]? =some x:=by simp[OK,<-hx]
  have hpy:(⟨py++y::ys⟩:Array Value)[f.offset]? =some y:=by simp[OK,<-hy]
  simp only[Sem.run_bind,uF w h3 hpx,uF w h3 hpy,Result.andThen_ok,Lt w d f.type h3 ho.1]
  cases he:eqV x y with
  | false=>simp[qU,he]
  | true=>
   simp only[Bool.not_true,Bool.false_eq_true,if_false,qU,he,Bool.true_and]
   have:=Hm w d (fs:=fs) (i:=i+1) (xs:=xs) (ys:=ys) (px:=px++ [x]) (py:=py++ [y]) h4 ho.2 (by simp[hx]) (by simp[hy])
   simpa using this
theorem Hn {t:TypeId} {x y:Operand} {xs ys:List Value} (hf:Bm P t=true) (ho:okV P t xs ys=true) (w:World):
  (Op.equalIn 10000 t (.agg ⟨xs⟩) (.agg ⟨ys⟩)).run P w=.ok (qU xs ys) w/\∀op,(eqGuard op t x y (.agg ⟨xs⟩) (.agg ⟨ys⟩)).run P w=.ok () w:=by
 unfold Bm at hf
 unfold okV at ho
 cases hu:P.underlying t with
 | none=>rw[hu] at hf;cases hf
 | some td=>
  rw[hu] at hf ho
  cases td <;> first | (cases hf;done) | skip
  rename_i fs
  simp only[Bool.and_eq_true,Bool.not_eq_true'] at hf
  have hfo:P.fieldsOf t=fs:=by unfold Program.fieldsOf;rw[hu]
  refine⟨?_,fun op=>run_eqGuard_agg w op t x y _ _ hf.1.2⟩
  have:=run_equalIn_struct (P:=P) w 9999 t ⟨xs⟩ ⟨ys⟩ (by rw[hfo];exact hu) hf.1.1
  rw[hfo] at this
  refine this.trans ?_
  have:=Hm w 9998 (px:=[]) (py:=[]) hf.2 ho rfl rfl
  simpa using this
theorem Lu {t:TypeId} {x y:Operand} {xs ys:List Value} {h:H} {K:Value->Prop} (hf:Bm P t=true) (ho:okV P t xs ys=true) (hk:K (.bool (qU xs ys))):
  sK P (dy .eql t x y (.agg ⟨xs⟩) (.agg ⟨ys⟩)) h K:=by
 refine⟨_,hk,fun w _=>?_⟩
 obtain⟨h1,h2⟩:=Hn (x:=x) (y:=y) hf ho w
 unfold dy
 rw[Sem.run_bind,h2,Result.andThen_ok,run_eql_struct,h1]
 rfl
theorem Di {t:TypeId} {x y:Operand} {xs ys:List Value} {h:H} {K:Value->Prop} (hf:Bm P t=true) (ho:okV P t xs ys=true) (hk:K (.bool (!qU xs ys))):
  sK P (dy .neq t x y (.agg ⟨xs⟩) (.agg ⟨ys⟩)) h K:=by
 refine⟨_,hk,fun w _=>?_⟩
 obtain⟨h1,h2⟩:=Hn (x:=x) (y:=y) hf ho w
 unfold dy
 rw[Sem.run_bind,h2,Result.andThen_ok,run_neq_struct,h1]
 rfl
theorem sK.h {m:Sem Value} {h:H} {K:KV} (hs:sK P m h fun v=>K v h):aZ P m h K:=by
 obtain⟨v,hk,bm⟩:=hs
 intro w hw
 exact⟨v,w,bm w (by rw[hw];exact bG.refl h),bu.refl w,by rw[hw];exact hk⟩
variable {P:Program}
abbrev vf:Nat->Prop:=fun _=>False
theorem jV.kw {L:Nat} {h h1:H} (n:jV vf L h h1):KW h h1:=⟨n.1,fun b _ o e hl=>n.2 b o e (fun x=>x) fun _=>hl⟩
theorem KB.nz {L:Nat} {h0 h h1:H} (k:KB h0 h) (n:jV vf L h h1) (hL:h0.size<=L):KB h0 h1:=
 ⟨Nat.le_trans k.1 n.1,fun b hb=>by
  have e:=k.2 b hb
  have IN:b<h0.size:=hb
  rw[Array.getElem?_eq_getElem IN] at e ⊢
  exact n.2 b _ e (fun x=>x) fun e2=>by omega⟩
theorem yo.keep {Rd:Nat->Prop} {h h1:H} (k:yo Rd h h1):bZ Rd h h1:=⟨k.1,fun b hb o e hl=>k.2 b o e hb hl⟩
theorem KB.kp {Rd:Nat->Prop} {h h1:H} (k:KB h h1):tC Rd h h1:=
 ⟨fun b o e _=>by rw[k.2 b (Array.getElem?_eq_some_iff.1 e).1];exact e,k.1,fun b o e _ _=>by rw[k.2 b (Array.getElem?_eq_some_iff.1 e).1];exact e⟩
theorem KX.kp {Rd:Nat->Prop} {h h1:H} {t:Nat} {a:Addr} {cs:List Value} (v:Var h a t cs) (k:KX a.block h h1) (hR:¬Rd a.block):tC Rd h h1:=
 ⟨fun b o e hl=>by
  have bL:b≠a.block:=fun e2=>by rw[e2,v.cells] at e;cases e;cases hl
  rw[k.2 b bL];exact e,k.1,fun b o e hr _=>by
  have bL:b≠a.block:=fun e2=>hR (e2▸hr)
  rw[k.2 b bL];exact e⟩
theorem tC.trans {Rd:Nat->Prop} {a b c:H} (h:tC Rd a b) (k:tC Rd b c):tC Rd a c:=⟨fun i o e hl=>k.1 i o (h.1 i o e hl) hl,h.2.trans k.2⟩
theorem tC.refl (Rd:Nat->Prop) (h:H):tC Rd h h:=(KB.refl h).kp
theorem jW {D:Nat} {Rd:Nat->Prop} {rd:Round} {done:H->Prop} (Inv:List (List Value)->H->Prop) (hz:∀xs h h1,Inv xs h->jV vf (D+1) h h1->Inv xs h1)
  (hs:∀x xs h1 Kc,Inv (x::xs) h1->(∀hb h',tC Rd hb h'->Inv xs h'->Kc hb h')->
   rd x (fun he p=>tC Rd h1 he/\∀h2,jV vf (D+1) he h2->p h2) Kc (fun hb h' p=>tC Rd hb h'/\∀h4,jV vf (D+1) h' h4->dp D h4->p h4) h1)
  (hd:∀h1,Inv [] h1->dp D h1->done h1):∀(xs:List (List Value)) (h:H),Inv xs h->rounds D vf Rd rd done xs h
 | [],h,hi=>fun h1 hn ho=>hd h1 (hz _ _ _ hi hn) ho
 | x::xs,h,hi=>fun h1 hn=>hs x xs h1 _ (hz _ _ _ hi hn) fun hb h' hk hi'=>⟨hk,jW Inv hz hs hd xs h' hi'⟩
theorem KW.leave {h0 h:H} {D:Nat} (k:KW h0 h) (hd:dp D h):KW h0 (h.setIfInBounds D (.deferred none)):=
 ⟨by simpa using k.1,fun b hb o e hl=>by
  have e2:=k.2 b hb o e hl
  have bL:D≠b:=fun e3=>by
   subst e3
   have hd:h[D]? =_:=hd
   rw[hd] at e2;cases e2;cases hl
  rw[Array.getElem?_setIfInBounds_ne bL];exact e2⟩
theorem Var.dp {h h':H} {a:Addr} {t D:Nat} {cs:List Value} (v:Var h a t cs) (k:KX a.block h h') (hd:dp D h):dp D h':=by
 have bL:D≠a.block:=fun e=>by
  have hd:h[D]? =_:=hd
  rw[e,v.cells] at hd;cases hd
 show h'[D]? =_
 rw[k.2 D bL];exact hd
theorem KB.leave {h0 h:H} {D:Nat} (k:KB h0 h) (hD:h0.size<=D):KB h0 (h.setIfInBounds D (.deferred none)):=
 ⟨by simpa using k.1,fun b hb=>by
  have IN:b<h0.size:=hb
  rw[Array.getElem?_setIfInBounds_ne (by omega)];exact k.2 b hb⟩
theorem iS {h0 h:H} {D:Nat} {a:Addr} {t:Nat} {i:Int} {K:KV} (hd:dp D h) (k:KB h0 h) (hD:h0.size<=D) (v:Var h a t [.int .i64 i]) (hk:∀h',KB h0 h'->K (.int .i64 i) h'):
  dE [cu D] h fun h=>∃j,cell h a=some (.int .i64 j)/\K (.int .i64 j) h:=by
 have k2:=(KW.refl h).leave hd
 exact⟨hd,i,(v.kw k2).dA rfl,hk _ (k.leave hD)⟩
variable {P:Program} {α:Type} {E:El α}
def Zx (P:Program) (sz t e by':Nat):Bool:=
 match P.underlying t with
 | some (.slice e')=>
  match P.info? e with
  | some i=>
   match i.zero with
   | some z=>Nat.beq e' e&&(Nat.beq z.cells.size i.size&&(Nat.beq i.size sz&&Nat.beq i.bytes by'))
   | none=>false
  | none=>false
 | _=>false
theorem kr {t e by' sz:Nat} (h:Zx P sz t e by'=true) (hs:sz=E.sz):oH P E t e by':=by
 subst hs
 unfold Zx at h
 split at h
 ·rename_i e' he
  split at h
  ·rename_i i hi
   split at h
   ·rename_i z hz
    simp only[Bool.and_eq_true] at h
    obtain⟨h1,h2,h3,h4⟩:=h
    have e1:=Nat.eq_of_beq_eq_true h1
    subst e1
    exact⟨i,z,he,hi,hz,Nat.eq_of_beq_eq_true h2,Nat.eq_of_beq_eq_true h3,Nat.eq_of_beq_eq_true h4⟩
   ·cases h
  ·cases h
 ·cases h
def Dd (d:Option TypeDesc):Bool:=
 match d with
 | some (.slice _)=>true
 | _=>false
theorem IQ {t:TypeId} {x y:Operand} {b:OA} {n c:Nat} (ht:Dd (P.underlying t)=true) (w:World):
  (dy .eql t x y (.slice b n c) (.slice none 0 0)).run P w=.ok (.bool b.isNone) w/\(dy .neq t x y (.slice b n c) (.slice none 0 0)).run P w=.ok (.bool (!b.isNone)) w:=by
 unfold Dd at ht
 split at ht
 ·rename_i e he
  have h1:(eqGuard .eql t x y (.slice b n c) (.slice none 0 0)).run P w=.ok () w:=by simp[eqGuard]
  have h2:(eqGuard .neq t x y (.slice b n c) (.slice none 0 0)).run P w=.ok () w:=by simp[eqGuard]
  unfold dy
  rw[Sem.run_bind,h1,Sem.run_bind,h2,Result.andThen_ok,Result.andThen_ok]
  refine⟨Lib.run_eql_slice_nil w t e b n c 0 0 he,?_⟩
  simp only[binOp]
  simp[Op.equal,Op.maxDepth,Lib.run_equalIn_slice_nil w 9999 t e b n c 0 0 he]
 ·cases ht
theorem wX {t:TypeId} {x y:Operand} {b:OA} {n c:Nat} {h:H} {K:Value->Prop} (ht:Dd (P.underlying t)=true) (hk:K (.bool b.isNone)):
  sK P (dy .eql t x y (.slice b n c) (.slice none 0 0)) h K:=⟨_,hk,fun w _=>(IQ ht w).1⟩
theorem Row.JC {A:Nat->Prop} {h:H} {b:OA} {n c:Nat} {l:List α} (r:Row E A h b n c l):Row E (rS h.size) h b n c l:=r.keep (bZ.refl _ _) fun _ _ h=>h
theorem dW.yj {h0 h h':H} {sb:OA} (k:KB h0 h) (g:dW h h' sb) (hge:∀a,sb=some a->h0.size<=a.block):KB h0 h':=
 ⟨Nat.le_trans k.1 g.size,fun x hx=>(g.vM x (Nat.lt_of_lt_of_le hx k.1) fun a e=>by have:=hge a e;have hx:x<h0.size:=hx;omega).trans (k.2 x hx)⟩
structure bH (E:El α) (h:H) (base e:Nat) (b:OA) (n c:Nat) (l:List α):Prop where
 own:dX E (FF h b) h base e b n c l
 lo:∀a,b=some a->base<=a.block
 hi:∀a,b=some a->a.block<h.size
 nil:b=none->c=0
theorem bH.none (h:H) (base e:Nat):bH E h base e none 0 0 []:=⟨dX.nil _ _ _ _ _,(fun _ e=>by cases e),(fun _ e=>by cases e),fun _=>rfl⟩
theorem bH.kw {h h':H} {base e n c:Nat} {b:OA} {l:List α} (o:bH E h base e b n c l) (k:KW h h'):bH E h' base e b n c l:=
 ⟨o.own.keep (B:=rS h.size) k (fun _ _ h=>h) (fun k' hk EB=>⟨Nat.lt_of_lt_of_le EB k.1,hk.2⟩) fun _ _ _ h=>h,o.lo,fun a e=>Nat.lt_of_lt_of_le (o.hi a e) k.1,o.nil⟩
theorem bH.kb {h h':H} {base e n c:Nat} {b:OA} {l:List α} (o:bH E h base e b n c l) (k:KB h h'):bH E h' base e b n c l:=o.kw (KB.w k)
theorem bH.lower {h:H} {base ly e n c:Nat} {b:OA} {l:List α} (o:bH E h base e b n c l) (hb:ly<=base):bH E h ly e b n c l:=⟨o.own.lower hb,fun a e=>Nat.le_trans hb (o.lo a e),o.hi,o.nil⟩
theorem bH.row {h:H} {base e n c:Nat} {b:OA} {l:List α} (o:bH E h base e b n c l):Row E (rS h.size) h b n c l:=o.own.row (fun _ h=>h.1) fun _ _ h _=>h
theorem bH.cap {h:H} {base e n c:Nat} {b:OA} {l:List α} (o:bH E h base e b n c l):n<=c/\c<=maxLen:=o.own.cap
theorem bH.append {t ty e by':Nat} (ap:oH P E t e by') {h:H} {sb rb:OA} {n c m k base:Nat} {l l2:List α} (o:bH E h base e sb n c l) (r:Row E (FF h sb) h rb m k l2)
  (jZ:n+m<=maxLen) (hb:(n+m)*by'<=140737488355328) (hO:base<=h.size) {K:KV}
  (hk:∀b' c' h',bH E h' base e b' (n+m) c' (l++l2)->dW h h' sb->K (.slice b' (n+m) c') h'):
  aZ P (Builtin.append_ #[t,t] ty ⟨[.slice sb n c,.slice rb m k]⟩) h K:=by
 refine dX.append ap o.own r jZ hb hO (fun k hk _=>hk.2) fun b2 c2 h' o' hg hb h0=>hk b2 c2 h' ⟨?_,?_,?_,?_⟩ hg
 ·refine o'.keep (bZ.refl (fun _=>True) _) (fun _ _ _=>trivial) (fun k FG EB=>⟨EB,fun x hx=>?_⟩) fun _ _ _ _=>trivial
  rcases hb with rfl | rfl
  ·exact FG.2 x hx
  ·cases hx
   have:=FG.1
   show h.size≠k
   omega
 ·intro x hx
  rcases hb with rfl | rfl
  ·exact o.lo x hx
  ·cases hx;exact hO
 ·intro x hx
  rcases hb with rfl | rfl
  ·exact Nat.lt_of_lt_of_le (o.hi x hx) hg.size
  ·obtain⟨xs,ho,_⟩:=o'.own
   rcases ho.is with h1 | ⟨g,cur,e1,_,Uh,_⟩
   ·have:=h0 h1.1
    exact Nat.lt_of_lt_of_le (o.hi x (this.1▸hx)) hg.size
   ·rw[hx] at e1;cases e1;exact(Array.getElem?_eq_some_iff.1 Uh).1
 ·intro Zh
  have:=o'.cap
  obtain⟨xs,ho,_⟩:=o'.own
  rcases ho.is with h1 | ⟨g,cur,e1,_⟩
  ·exact h1.2
  ·rw[Zh] at e1;cases e1
theorem Row.Ho {t ty e by':Nat} (ap:oH P E t e by') {A B:Nat->Prop} {h:H} {sb rb:OA} {n c m k:Nat} {l l2:List α} (o:Row E A h sb n c l) (zK:m=0∨c<n+m) (r:Row E B h rb m k l2)
  (hsb:sb=none->c=0) (jZ:n+m<=maxLen) (hb:(n+m)*by'<=140737488355328) {K:KV} (wU:m=0->K (.slice sb n c) h)
  (hK:∀c' h',0<m->bH E h' h.size e (some (Ad h.size)) (n+m) c' (l++l2)->KB h h'->K (.slice (some (Ad h.size)) (n+m) c') h'):
  aZ P (Builtin.append_ #[t,t] ty ⟨[.slice sb n c,.slice rb m k]⟩) h K:=by
 refine Row.append (A:=rS h.size) ap o.JC zK r.JC hsb jZ hb wU fun c' h' hm o' k'=>hK c' h' hm ⟨?_,?_,?_,?_⟩ k'
 ·refine o'.keep (bZ.refl (fun _=>True) _) (fun _ _ _=>trivial) (fun k FG EB=>⟨EB,fun x hx=>?_⟩) fun _ _ _ _=>trivial
  cases hx
  have FG:k<h.size:=FG
  show h.size≠k
  omega
 ·intro x hx;cases hx;exact Nat.le_refl _
 ·intro x hx
  cases hx
  obtain⟨xs,ho,_⟩:=o'.own
  rcases ho.is with h1 | ⟨g,cur,e1,_,Uh,_⟩
  ·omega
  ·cases e1;exact(Array.getElem?_eq_some_iff.1 Uh).1
 ·intro e;cases e
end Go.Sh
namespace Go.Sh
open Go Go.RowKit
set_option linter.unusedVariables false
theorem aJ {α:Type} {l:List α} {i:Nat} {d:α} (hi:i<l.length):l.getD i d=l[i]:=by
 rw[List.getD_eq_getElem?_getD,List.getElem?_eq_getElem hi];rfl
theorem aF {n:Int} (h1: -9223372036854775808<=n) (h2:n<=9223372036854775807):bd .i64 n:=⟨h1,h2⟩
theorem ag {b:Bool} {k:Bool->Prop} (h:k b):au (.bool b) k:=h
theorem aO {kd:IntKind} {i:Int} {k:Int->Prop} (h:k i):aL kd (.int kd i) k:=by
 show(if kd=kd then k i else False)
 rw[if_pos rfl];exact h
theorem aH {b:OA} {n c:Nat} {k:OA->Nat->Nat->Prop} (h:k b n c):aB (.slice b n c) k:=h
theorem Bn {s:List UInt8} {k:List UInt8->Prop} (h:k s):gL (S s) k:=h
theorem aR {b:Bool} {X Y:Prop} (x:b=true->X) (y:b=false->Y):cond b X Y:=by cases b <;> first | exact x rfl | exact y rfl
theorem aD {X Y:Prop} (x:X):cond true X Y:=x
theorem aC {X Y:Prop} (y:Y):cond false X Y:=y
theorem dm {b:Bool} {K:Bool->Prop} (h:K b):cond b (K true) (K false):=by cases b <;> exact h
theorem Zy {p:Prop} [Decidable p] {K:Bool->Prop} (h:K (decide p)):aM p (K true) (K false):=by
 by_cases e:p
 ·rw[decide_eq_true e] at h;exact bK e h
 ·rw[decide_eq_false e] at h;exact cg e h
theorem Zz {ka kb:IntKind} {a c:Int} {k:Int->Int->Prop} (h:k a c):ni (.tuple ⟨[.int ka a,.int kb c]⟩) fun l=>aG l fun e l=>aL ka e fun s=>aG l fun e l=>aL kb e fun i=>cW l (k s i):=
 show aL ka (.int ka a) fun a=>aL kb (.int kb c) fun i=>k a i from aO (aO h)
theorem tJ {P:Program} {f:FuncId} {args:Array Value} {h:H} {v:Value} {K:KV} (hc:∀w:World,w.heap=h->Calls P f args w fun e w'=>e=.returned v/\w'=w) (hk:K v h):gQ P f args h K:=
 fun w hw=>(hc w hw).mono fun e w' ⟨he,Pt⟩=>⟨v,he,by rw[Pt];exact bu.refl w,by rw[Pt,hw];exact hk⟩
def ML (h:H):Prop:=∃m,cell h ⟨0,0,none⟩=some (.int .i64 m)
theorem ML.kb {h h':H} (m:ML h) (k:KB h h'):ML h':=by
 obtain⟨x,e⟩:=m
 exact⟨x,(KB.w k).cell (fP e) e⟩
theorem sub_zero (l:List UInt8) (i:Nat):sub l 0 (i:Int)=l.take i:=by
 unfold sub
 simp
variable {P:Program} {α:Type} {E:El α}
theorem Dj {op:BinOp} {t:TypeId} {x y:Operand} {p q:OA} {w:World}:(eqGuard op t x y (.pointer p) (.pointer q)).run P w=.ok () w:=by
 unfold eqGuard
 cases op <;> simp
theorem Pu {t:TypeId} {x y:Operand} {p:OA} {h:H} {K:Value->Prop} (ht:P.underlying t=some (.pointer (P.pointee t))) (hk:K (.bool p.isNone)):sK P (dy .eql t x y (.pointer p) (.pointer none)) h K:=
 ⟨_,hk,fun w _=>by unfold dy;rw[Sem.run_bind,Dj,Result.andThen_ok];exact run_eql_pointer_nil w t p ht⟩
theorem cw {t:TypeId} {x y:Operand} {p:OA} {h:H} {K:KV} (ht:P.underlying t=some (.pointer (P.pointee t))) (hk:K (.bool p.isNone) h):aZ P (dy .eql t x y (.pointer p) (.pointer none)) h K:=(Pu ht (K:=fun v=>K v h) hk).h
theorem eH.set {A:Nat->Prop} {h:H}:∀{l:List α} {xs:List Value} {i f:Nat} {x x':α} {v:Value},eH E A h l xs->l[i]? =some x->f<E.sz->(∀cs,E.R A h x cs->E.R A h x' (cs.set f v))->eH E A h (l.set i x') (xs.set (i*E.sz+f) v)
 | [],xs,i,f,x,x',v,e,hx,_,_=>by simp at hx
 | y::l,xs,0,f,x,x',v,⟨cs,r,e,h1,h2⟩,hx,hf,hR=>by
  simp at hx
  subst hx
  have hl:=E.len _ _ _ _ h1
  refine⟨cs.set f v,r,?_,hR cs h1,h2⟩
  rw[e,Nat.zero_mul,Nat.zero_add,List.set_append_left _ _ (by omega)]
 | y::l,xs,i+1,f,x,x',v,⟨cs,r,e,h1,h2⟩,hx,hf,hR=>by
  have hl:=E.len _ _ _ _ h1
  have ih:=eH.set (i:=i) (f:=f) (x':=x') (v:=v) h2 (by simpa using hx) hf hR
  refine⟨cs,r.set (i*E.sz+f) v,?_,h1,ih⟩
  rw[e,Nat.add_mul,List.set_append_right _ _ (by omega),hl]
  congr 2
  omega
theorem xd {β:Type} (l:List β) (n k:Nat) (v:β):(l.set k v).take n=(l.take n).set k v:=List.take_set
theorem zL (hf:Flat E) {h:H} {base e n c i f:Nat} {b:OA} {l:List α} {x x':α} {v:Value} {z:Nat} {K:H->Prop} (o:bH E h base e b n c l) (hx:l[i]? =some x) (hz:z=E.sz) (hfs:f<E.sz) (hv:IS v=true)
  (hR:∀A h cs,E.R A h x cs->E.R A h x' (cs.set f v))
  (hk:∀a h',b=some a->bH E h' base e b n c (l.set i x')->KX a.block h h'->h'.size=h.size->base<=a.block->K h'):
  (0<=(i:Int)/\(i:Int)<(n:Int))/\ae b fun a=>bc ((a.add (Int.toNat (i:Int)*z)).add f) [v] 0 h K:=by
 subst hz
 obtain⟨xs,h1,h2⟩:=o.own.own
 have hi:i<l.length:=(List.getElem?_eq_some_iff.1 hx).1
 have hn:=o.own.len
 refine⟨⟨by omega,by omega⟩,?_⟩
 rw[Int.toNat_natCast]
 rcases h1.is with ⟨Pn,_⟩ | ⟨g,cur,rfl,ym,hg,hcs,pP⟩
 ·omega
 ·have JJ:g<h.size:=(Array.getElem?_eq_some_iff.1 hg).1
  have vL:i*E.sz+f<n*E.sz:=by
   have:(i+1)*E.sz<=n*E.sz:=Nat.mul_le_mul_right _ (by omega)
   rw[Nat.add_mul] at this;omega
  have hcap:n*E.sz<=c*E.sz:=Nat.mul_le_mul_right _ h1.cap
  have ha:((((⟨g,0,Option.none⟩:Addr).add (i*E.sz)).add f).add 0)=(⟨g,0,Option.none⟩:Addr).add (i*E.sz+f):=by rw[add_add,add_add];rfl
  have Lv:i*E.sz+f<cur.size:=by omega
  show bc (((⟨g,0,Option.none⟩:Addr).add (i*E.sz)).add f) [v] 0 h K
  unfold bc
  rw[ha]
  refine⟨⟨cur[i*E.sz+f],?_⟩,?_,?_⟩
  ·rw[je hg];simp[Lv]
  ·unfold FJ
   rw[br,hg]
   simp
  ·show K (eE h ((⟨g,0,Option.none⟩:Addr).add (i*E.sz+f)) v)
   have e1:((⟨g,0,Option.none⟩:Addr).add (i*E.sz+f))=⟨g,i*E.sz+f,Option.none⟩:=by unfold Addr.add;split <;> simp_all
   have hkx:KX g h (eE h ((⟨g,0,Option.none⟩:Addr).add (i*E.sz+f)) v):=SK.eE (by rw[br];exact fun e=>e rfl)
   refine hk _ _ rfl ⟨⟨by rw[List.length_set];exact hn,xs.set (i*E.sz+f) v,⟨by rw[List.length_set];exact h1.len,h1.cap,h1.max,.inr ⟨g,cur.setIfInBounds (i*E.sz+f) v,rfl,ym,?_,by simpa using hcs,?_⟩⟩,?_⟩,o.lo,fun a ea=>by rw[tT];exact o.hi a ea,o.nil⟩ hkx (tT ..) ym
   ·rw[e1]
    unfold eE
    rw[Array.getElem?_modify,if_pos rfl,hg]
    simp
   ·rw[Array.toList_setIfInBounds,xd,pP]
   ·exact(h2.flat hf).set hx hfs (hR _ _)
theorem dX.wZ {A A':Nat->Prop} {h h':H} {base e n c:Nat} {b:OA} {l:List α} {B:Nat->Prop} (o:dX E A h base e b n c l) (k:bZ B h h') (hf:Flat E) (hg:∀g,b=some ⟨g,0,none⟩->base<=g->g<h.size->B g):dX E A' h' base e b n c l:=by
 obtain⟨xs,h1,h2⟩:=o.own
 exact⟨o.len,xs,h1.keep k hg,h2.flat hf⟩
theorem bH.wZ {h h':H} {base e n c:Nat} {b:OA} {l:List α} {B:Nat->Prop} (o:bH E h base e b n c l) (k:SK B h h') (hf:Flat E) (hg:∀g,base<=g->B g):bH E h' base e b n c l:=
 ⟨o.own.wZ k.w hf fun g _ hg1 _=>hg g hg1,o.lo,fun a ea=>Nat.lt_of_lt_of_le (o.hi a ea) k.1,o.nil⟩
theorem Dk {t ty e by':Nat} (ap:oH P E t e by') {h:H} {base:Nat} {ob:OA} {on oc:Nat} {out:List α} {x:α} {cs:List Value} {K:KV} (hR:∀A h,E.R A h x cs) (o:bH E h base e ob on oc out) (k0s:base<=h.size) (hm:on+1<=maxLen) (hl:(on+1)*by'<=140737488355328)
  (hk:∀b' c' h',bH E h' base e b' (on+1) c' (out++ [x])->SK (FF h ob) h h'->K (.slice b' (on+1) c') h'):
  aw h ⟨cs⟩ e fun a h1=>aZ P (Builtin.append_ #[t,t] ty ⟨[(.slice ob on oc),(.slice (some a) 1 1)]⟩) h1 K:=by
 refine af (cs:=cs) fun a h4 v4 k4 ea es=>?_
 have rv:Row E (fun k=>k=a.block) h4 (some a) 1 1 [x]:=v4.wJ (hR _ _) rfl
 have k4s:=k4.1
 refine bH.append ap (o.kb k4) (rv.keep (bZ.refl _ _) fun k hk _=>by subst hk;exact⟨v4.lt,fun x hx=>by have:=o.hi x hx;omega⟩) hm hl (by omega) fun b5 c5 h5 o5 g5=>hk b5 c5 h5 o5 ⟨Nat.le_trans k4.1 g5.size,fun k hk=>?_⟩
 obtain⟨BZ,yg⟩:=hk
 exact(g5.vM k (by omega) yg).trans (k4.2 k BZ)
theorem Pw {t ty e by':Nat} (ap:oH P E t e by') {h:H} {base:Nat} {ob:OA} {on oc:Nat} {out:List α} {x:α} {cs:List Value} {K:KV} (hR:∀A h,E.R A h x cs) (o:bH E h base e ob on oc out) (k0s:base<=h.size) (hm:on+1<=maxLen) (hl:(on+1)*by'<=140737488355328)
  (hk:∀b' c' h',bH E h' base e b' (on+1) c' (out++ [x])->SK (rS base) h h'->K (.slice b' (on+1) c') h'):
  aw h ⟨cs⟩ e fun a h1=>aZ P (Builtin.append_ #[t,t] ty ⟨[(.slice ob on oc),(.slice (some a) 1 1)]⟩) h1 K:=by
 refine af (cs:=cs) fun a h4 v4 k4 ea es=>?_
 have rv:Row E (fun k=>k=a.block) h4 (some a) 1 1 [x]:=v4.wJ (hR _ _) rfl
 have k4s:=k4.1
 refine bH.append ap (o.kb k4) (rv.keep (bZ.refl _ _) fun k hk _=>by subst hk;exact⟨v4.lt,fun x hx=>by have:=o.hi x hx;omega⟩) hm hl (by omega) fun b5 c5 h5 o5 g5=>hk b5 c5 h5 o5 ⟨Nat.le_trans k4.1 g5.size,fun k hk=>?_⟩
 have hk:k<base:=hk
 exact(g5.vM k (by omega) fun x e=>by have:=o.lo x e;omega).trans (k4.2 k (show k<h.size by omega))
variable {P:Program} {α:Type} {E:El α}
theorem eH.drop {A:Nat->Prop} {h:H}:∀{l:List α} {xs:List Value} (k:Nat),eH E A h l xs->eH E A h (l.drop k) (xs.drop (k*E.sz))
 | l,xs,0,e=>by rw[Nat.zero_mul,List.drop_zero,List.drop_zero];exact e
 | [],xs,k+1,e=>by
  have e:xs=[]:=e
  rw[e,List.drop_nil,List.drop_nil];rfl
 | x::l,xs,k+1,⟨cs,r,e,hR,hr⟩=>by
  have hl:=E.len _ _ _ _ hR
  rw[List.drop_succ_cons]
  have:xs.drop ((k+1)*E.sz)=r.drop (k*E.sz):=by
   rw[e,Nat.succ_mul,Nat.add_comm,<-hl,List.drop_append,List.drop_of_length_le (by omega)]
   simp
  rw[this]
  exact eH.drop k hr
theorem Cells.drop {h:H} {b:OA} {cs:List Value} {c lo z:Nat} (k:Cells h b cs) (hc:c=lo->cs.drop (lo*z)=[]):Cells h (if c=lo then b else Option.map (fun q=>q.add (lo*z)) b) (cs.drop (lo*z)):=fun j v hv=>by
 by_cases e:c=lo
 ·rw[hc e] at hv;simp at hv
 ·rw[if_neg e]
  rw[List.getElem?_drop] at hv
  obtain⟨a,ea,ec⟩:=k _ _ hv
  refine⟨a.add (lo*z),by rw[ea];rfl,?_⟩
  rw[add_add];exact ec
theorem Cells.take {h:H} {b:OA} {cs:List Value} (k:Cells h b cs) (n:Nat):Cells h b (cs.take n):=fun j v hv=>by
 rw[List.getElem?_take] at hv
 split at hv
 ·exact k j v hv
 ·cases hv
theorem dX.Px {t ty e by':Nat} (ap:oH P E t e by') {A:Nat->Prop} {h:H} {sb rb:OA} {n c m k base:Nat} {l l2:List α} {news:List Value} (o:dX E A h base e sb n c l)
  (uo:l2.length=m) (Dh:eH E A h l2 news) (IP:Cells h rb news) (jZ:n+m<=maxLen) (hb:(n+m)*by'<=140737488355328) (hO:base<=h.size)
  (hAb:∀k,A k->k<h.size->∀a,sb=some a->a.block≠k) {K:KV}
  (hK:∀b' c' h',dX E A h' base e b' (n+m) c' (l++l2)->dW h h' sb->(b'=sb∨b'=some (Ad h.size))->(n+m=0->b'=sb/\c'=c)->K (.slice b' (n+m) c') h'):
  aZ P (Builtin.append_ #[t,t] ty ⟨[.slice sb n c,.slice rb m k]⟩) h K:=by
 obtain⟨i,z,ht,hi,hz,vN,ib,zl⟩:=ap.is
 obtain⟨xs,h1,h2⟩:=o.own
 have hlen:news.length=m*i.size:=by rw[Dh.len,uo,ib]
 refine rD (xs:=xs) (news:=news) (base:=base) ht hi hz vN (by rw[ib];exact h1) hlen IP Dh.one (by rw[ib];exact E.pos) jZ (by rw[zl];exact hb) hO fun b' c' h' ho hg IN h0=>?_
 refine hK b' c' h' ⟨by rw[List.length_append,o.len,uo],xs++news,by rw[<-ib];exact ho,?_⟩ hg IN h0
 exact(h2.append Dh).keep (hg.keep.w.less fun k hk=>⟨hk.2,hAb k hk.1 hk.2⟩) fun _ h _=>h
structure bO (E:El α) (A:Nat->Prop) (h:H) (base e:Nat) (b:OA) (n c:Nat) (l:List α):Prop where
 own:dX E A h base e b n c l
 lo:∀a,b=some a->base<=a.block
 hi:∀a,b=some a->a.block<h.size
 nil:b=none->c=0
section
variable {A:Nat->Prop} {h h':H} {base e n c:Nat} {b:OA} {l:List α}
theorem bO.none (A:Nat->Prop) (h:H) (base e:Nat):bO E A h base e none 0 0 []:=⟨dX.nil _ _ _ _ _,(fun _ h=>nomatch h),(fun _ h=>nomatch h),fun _=>rfl⟩
theorem bO.kb (o:bO E A h base e b n c l) (k:KB h h'):bO E A h' base e b n c l:=⟨o.own.kb k,o.lo,fun a ea=>Nat.lt_of_lt_of_le (o.hi a ea) k.1,o.nil⟩
theorem bO.lower {ly:Nat} (o:bO E A h base e b n c l) (hb:ly<=base):bO E A h ly e b n c l:=⟨o.own.lower hb,fun a ea=>Nat.le_trans hb (o.lo a ea),o.hi,o.nil⟩
theorem bO.len (o:bO E A h base e b n c l):l.length=n:=o.own.len
theorem bO.row (o:bO E A h base e b n c l) (hA:∀k,A k->k<h.size):Row E (rS h.size) h b n c l:=o.own.row hA fun g _ hs _=>hs
theorem bO.append {t ty by':Nat} (ap:oH P E t e by') {rb:OA} {m k:Nat} {l2:List α} {news:List Value} (o:bO E A h base e b n c l) (hA:∀k,A k->k<base)
  (uo:l2.length=m) (Dh:eH E A h l2 news) (IP:Cells h rb news) (jZ:n+m<=maxLen) (hb:(n+m)*by'<=140737488355328) (hO:base<=h.size) {K:KV}
  (hk:∀b' c' h',bO E A h' base e b' (n+m) c' (l++l2)->dW h h' b->K (.slice b' (n+m) c') h'):
  aZ P (Builtin.append_ #[t,t] ty ⟨[.slice b n c,.slice rb m k]⟩) h K:=by
 refine dX.Px ap o.own uo Dh IP jZ hb hO (fun k hk _ a ea=>by have:=o.lo a ea;have:=hA k hk;omega) fun b2 c2 h2 o2 hg AO h0=>hk b2 c2 h2 ⟨o2,fun a ea=>?_,fun a ea=>?_,fun e=>?_⟩ hg
 ·rcases AO with rfl | rfl
  ·exact o.lo a ea
  ·cases ea;exact hO
 ·rcases o2.own with ⟨xs,ow,_⟩
  rcases ow.lt with ⟨hn,hc⟩ | ⟨g,e1,_,cR⟩
  ·have:=h0 hn
   rw[this.1] at ea
   exact Nat.lt_of_lt_of_le (o.hi a ea) hg.size
  ·rw[ea] at e1;cases e1;exact cR
 ·subst e
  rcases o2.own with ⟨xs,ow,_⟩
  rcases ow.is with ⟨hn,hc⟩ | ⟨g,cur,e,_⟩
  ·exact hc
  ·cases e
theorem Var.one {a:Addr} {ty:Nat} {x:α} {cs:List Value} (v:Var h a ty cs) (hR:E.R A h x cs):eH E A h [x] cs/\Cells h (some a) cs:=⟨⟨cs,[],by simp,hR,rfl⟩,fun j u hu=>⟨a,rfl,v.cell j hu⟩⟩
theorem bO.sj {t ty by':Nat} (ap:oH P E t e by') {a:Addr} {tv:Nat} {x:α} {cs:List Value} (o:bO E A h base e b n c l) (hA:∀k,A k->k<base)
  (v:Var h a tv cs) (hR:E.R A h x cs) (jZ:n+1<=maxLen) (hb:(n+1)*by'<=140737488355328) (hO:base<=h.size) {K:KV}
  (hk:∀b' c' h',bO E A h' base e b' (n+1) c' (l++ [x])->dW h h' b->K (.slice b' (n+1) c') h'):
  aZ P (Builtin.append_ #[t,t] ty ⟨[.slice b n c,.slice (some a) 1 1]⟩) h K:=by
 obtain⟨he,hc⟩:=Var.one v hR
 exact bO.append ap o hA rfl he hc jZ hb hO hk
theorem bO.grow {h0:H} {sb:OA} (k:KB h0 h) (g:dW h h' b) (o:bO E A h base e b n c l) (hb:h0.size<=base):KB h0 h':=dW.yj k g fun a ea=>Nat.le_trans hb (o.lo a ea)
end
def Hp (P:Program) (e:Nat):Bool:=
 match P.info? e with
 | some i=>
  match i.zero with
  | some z=>z.cells.toList.all fun v=>v.oneCell'
  | none=>false
 | none=>false
theorem Dl {t e by':Nat} (ap:oH P E t e by') (Py:Hp P e=true) {A:Nat->Prop} {h:H} {base n c i:Nat} {b:OA} {l:List α} (o:bO E A h base e b n c l) (hA:∀k,A k->k<base) (hi:i<n) {K:OA->Nat->Nat->H->Prop}
  (hk:∀h',bO E A h' base e b (n - 1) c (l.eraseIdx i)->dW h h' b->h'.size=h.size->K b (n - 1) c h') {ty Un:TypeId}:
  aZ P (Builtin.append_ #[t,t] ty ⟨[.slice b i c,.slice (if c=i+1 then b else Option.map (fun q=>q.add ((i+1)*E.sz)) b) (n - (i+1)) (c - (i+1))]⟩) h fun v h1=>aB v fun sb sn sc=>
   ((0:Int)<=(sn:Int)/\(sn:Int)<=(n:Int)/\(n:Int)<=(sc:Int))/\aZ P (Builtin.clear_ #[t] Un ⟨[.slice (if sc=sn then sb else Option.map (fun q=>q.add (sn*E.sz)) sb) (n - sn) (sc - sn)]⟩) h1 fun _ h2=>K sb sn sc h2:=by
 obtain⟨ii,z,ht,vl,hz,vN,ib,zl⟩:=ap.is
 have Ok:∀v ∈ z.cells.toList,v.oneCell'=true:=by
  unfold Hp at Py
  rw[vl] at Py
  simp only[hz] at Py
  exact List.all_eq_true.1 Py
 obtain⟨xs,ow,en⟩:=o.own.own
 have hl:=o.len
 rcases ow.is with ⟨h0,_⟩ | ⟨g,cur,rfl,ym,hg,hcs,pP⟩
 ·omega
 intro w hw
 subst hw
 have hcap:=ow.cap
 have qv:=E.pos
 have wO:xs.length=n*E.sz:=ow.len
 have ZA:n*E.sz<=cur.size:=by rw[hcs];exact Nat.mul_le_mul_right _ hcap
 have Ay:(i+1)*E.sz<=n*E.sz:=Nat.mul_le_mul_right _ hi
 have yl:(i+1)*E.sz=i*E.sz+E.sz:=Nat.succ_mul _ _
 have hn1:n*E.sz=(n - 1)*E.sz+E.sz:=by rw[<-Nat.succ_mul];congr 1;omega
 have Lw:=Cells.drop (c:=c) (lo:=i+1) (z:=E.sz) ow.cells (fun e=>List.drop_of_length_le (by
  have:n=i+1:=by omega
  rw[wO,this];exact Nat.le_refl _))
 have Ew:(xs.drop ((i+1)*E.sz)).length=(n - (i+1))*ii.size:=by
  rw[List.length_drop,wO,ib,<-Nat.sub_mul]
 obtain⟨R,hR⟩:∃R,(if c=i+1 then some (⟨g,0,Option.none⟩:Addr) else Option.map (fun q=>q.add ((i+1)*E.sz)) (some (⟨g,0,Option.none⟩:Addr)))=some R:=by
  split
  ·exact⟨_,rfl⟩
  ·exact⟨_,rfl⟩
 rw[hR] at Lw ⊢
 have h1n:∀u ∈ xs.drop ((i+1)*E.sz),u.oneCell'=true:=fun u hu=>en.one u (List.mem_of_mem_drop hu)
 have hr:=run_append_room (P:=P) w t ty e ii ht vl g i c cur hg R (n - (i+1)) (c - (i+1)) _ Ew (fun j u hu=>by
  obtain⟨a,ea,ec⟩:=Lw j u hu
  cases ea
  exact ec) h1n (by omega) (by rw[Ew,ib,<-Nat.add_mul];exact Nat.le_trans (Nat.mul_le_mul_right _ (by omega)) ZA)
 have en1:i+(n - (i+1))=n - 1:=by omega
 rw[ib] at hr
 refine⟨_,_,hr,⟨rfl,rfl,rfl⟩,?_⟩
 rw[en1]
 refine⟨⟨by omega,by omega,by omega⟩,?_⟩
 intro w2 uB
 have IP:¬c=n - 1:=by omega
 rw[if_neg IP]
 have hxd:(xs.drop ((i+1)*E.sz)).length=n*E.sz - (i+1)*E.sz:=by rw[List.length_drop,wO]
 obtain⟨lK,Lx⟩:∃lK,lK=(cur.toList.take (i*E.sz)++xs.drop ((i+1)*E.sz)++cur.toList.drop (i*E.sz+(xs.drop ((i+1)*E.sz)).length)).toArray:=⟨_,rfl⟩
 have Fk:w2.heap[g]? =some (.cells lK e (0,0)):=by rw[uB,Lx];exact setRow_heap w g cur _ e _ hg
 have hs1:lK.size=cur.size:=by
  rw[Lx]
  simp only[List.size_toArray,List.length_append,List.length_take,List.length_drop,Array.length_toList]
  omega
 have hzl:(Builtin.zeroCells z.cells 1).toList=z.cells.toList:=by
  simp[Builtin.zeroCells]
  apply List.ext_getElem
  ·simp
  ·intro k h1 h2
   simp at h1 h2 ⊢
   have h3:k % z.cells.size=k:=Nat.mod_eq_of_lt h2
   rw[h3,getElem!_pos z.cells k h2]
 have Ly:z.cells.toList.length=E.sz:=by rw[Array.length_toList,vN,ib]
 have jF:=run_storeCells_at P g ((n - 1)*E.sz) e z.cells.toList 0 lK w2 Fk (by rw[Ly,hs1];omega) Ok
 have pN:∀w:World,(zeroValue e).run P w=.ok z w:=fun w=>by
  unfold zeroValue
  simp[typeInfo,vl,hz]
 have ea:((⟨g,0,Option.none⟩:Addr).add ((n - 1)*E.sz))=⟨g,(n - 1)*E.sz,Option.none⟩:=by unfold Addr.add;split <;> simp_all
 have Uo:n - (n - 1)=1:=by omega
 have ku:(Builtin.clear_ #[t] Un ⟨[.slice (Option.map (fun q=>q.add ((n - 1)*E.sz)) (some (⟨g,0,Option.none⟩:Addr))) (n - (n - 1)) (c - (n - 1))]⟩).run P w2=.ok (.tuple #[]) (w2.setRow g (lK.toList.take ((n - 1)*E.sz+0)++z.cells.toList++lK.toList.drop ((n - 1)*E.sz+0+z.cells.toList.length)).toArray):=by
  rw[Uo]
  show(Builtin.clear_ #[t] Un #[.slice (some ((⟨g,0,Option.none⟩:Addr).add ((n - 1)*E.sz))) 1 (c - (n - 1))]).run P w2=_
  rw[ea]
  simp[Builtin.clear_,run_underlying ht,pN,hzl,jF]
 refine⟨_,_,ku,⟨rfl,rfl,rfl⟩,?_⟩
 have xa:(w2.setRow g (lK.toList.take ((n - 1)*E.sz+0)++z.cells.toList++lK.toList.drop ((n - 1)*E.sz+0+z.cells.toList.length)).toArray).heap.size=w.heap.size:=by
  simp[World.setRow,uB]
 have hold:∀k,k≠g->(w2.setRow g (lK.toList.take ((n - 1)*E.sz+0)++z.cells.toList++lK.toList.drop ((n - 1)*E.sz+0+z.cells.toList.length)).toArray).heap[k]? =w.heap[k]? :=fun k AN=>by
  rw[setRow_other _ _ _ _ AN,uB,setRow_other _ _ _ _ AN]
 have IL:=setRow_heap w2 g lK (lK.toList.take ((n - 1)*E.sz+0)++z.cells.toList++lK.toList.drop ((n - 1)*E.sz+0+z.cells.toList.length)).toArray e _ Fk
 have ZB:bZ (fun k=>k≠g) w.heap (w2.setRow g (lK.toList.take ((n - 1)*E.sz+0)++z.cells.toList++lK.toList.drop ((n - 1)*E.sz+0+z.cells.toList.length)).toArray).heap:=
  ⟨by rw[xa];exact Nat.le_refl _,fun k AN o ho _=>by rw[hold k AN];exact ho⟩
 have JJ:g<w.heap.size:=(Array.getElem?_eq_some_iff.1 hg).1
 have hxe:xs.take (i*E.sz)++xs.drop ((i+1)*E.sz)=(lK.toList.take ((n - 1)*E.sz)):=by
  rw[Lx]
  have h1:(xs.take (i*E.sz)++xs.drop ((i+1)*E.sz)).length=(n - 1)*E.sz:=by
   rw[List.length_append,List.length_take,hxd,wO];omega
  have h2:cur.toList.take (i*E.sz)=xs.take (i*E.sz):=by
   rw[<-pP,List.take_take,Nat.min_eq_left (by omega)]
  rw[List.toList_toArray,h2]
  exact(List.take_left' h1).symm
 refine hk _ ⟨⟨?_,xs.take (i*E.sz)++xs.drop ((i+1)*E.sz),⟨?_,by omega,ow.max,.inr ⟨g,_,rfl,ym,IL,?_,?_⟩⟩,?_⟩,o.lo,fun a ea=>by cases ea;rw[xa];exact JJ,o.nil⟩ ⟨by rw[xa];exact Nat.le_refl _,fun k hk bL=>hold k fun e=>bL _ rfl e.symm⟩ xa
 ·rw[List.length_eraseIdx,if_pos (by omega),hl]
 ·rw[List.length_append,List.length_take,hxd,wO];omega
 ·simp only[List.size_toArray,List.length_append,List.length_take,List.length_drop,Array.length_toList]
  rw[vN,ib,<-hcs,hs1]
  omega
 ·rw[List.toList_toArray,Nat.add_zero,hxe]
  rw[List.append_assoc,List.take_append_of_le_length (by rw[List.length_take,Array.length_toList,hs1];omega)]
  rw[List.take_take,Nat.min_self]
 ·have e1:l.eraseIdx i=l.take i++l.drop (i+1):=List.eraseIdx_eq_take_drop_succ _ _
  rw[e1]
  exact((en.take i).append (en.drop (i+1))).keep (ZB.less fun k hk=>fun e2=>by have:=hA k hk.1;omega) fun _ h _=>h
end Go.Sh
