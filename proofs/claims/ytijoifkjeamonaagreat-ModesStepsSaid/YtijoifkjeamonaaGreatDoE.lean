import Derived.Test.YtijoifkjeamonaaGreatHc
import Derived.Test.YtijoifkjeamonaaGreatShelf
import Derived.Test.YtijoifkjeamonaaGreatHmI
import Derived.Test.YtijoifkjeamonaaGreatTxA
namespace Go.Proofs
open Go Go.Sh
set_option linter.unusedVariables false
set_option maxRecDepth 100000
theorem Bg {w:World} {g o:Nat} {cur:Array Value} {e:Nat} {fz:Nat × Nat} {v:Value} (hg:w.heap[g]? =some (.cells cur e fz)):
  (w.setCell ⟨g,o,none⟩ v).heap[g]? =some (.cells (cur.setIfInBounds o v) e fz)/\(∀k,k≠g->(w.setCell ⟨g,o,none⟩ v).heap[k]? =w.heap[k]?)/\(w.setCell ⟨g,o,none⟩ v).heap.size=w.heap.size/\bu w (w.setCell ⟨g,o,none⟩ v):=by
 refine⟨?_,fun k hk=>?_,World.size_setCell ..,⟨rfl,rfl,rfl⟩⟩
 ·show(w.heap.modify g _)[g]? =_
  rw[Array.getElem?_modify,if_pos rfl,hg];rfl
 ·show(w.heap.modify g _)[k]? =_
  rw[Array.getElem?_modify,if_neg (fun e=>hk e.symm)]
theorem eO {g:Nat} {e:Nat} {fz:Nat × Nat}:∀(vs:List Value) (o:Nat) (w:World) (cur:Array Value),w.heap[g]? =some (.cells cur e fz)->o+vs.length<=cur.size->
  ∃Bh:Array Value,(w.setCells g o vs).heap[g]? =some (.cells Bh e fz)/\Bh.toList=cur.toList.take o++vs++cur.toList.drop (o+vs.length)/\Bh.size=cur.size/\
   (∀k,k≠g->(w.setCells g o vs).heap[k]? =w.heap[k]?)/\(w.setCells g o vs).heap.size=w.heap.size/\bu w (w.setCells g o vs)
 | [],o,w,cur,hg,hl=>⟨cur,hg,by simp,rfl,fun _ _=>rfl,rfl,bu.refl w⟩
 | v::vs,o,w,cur,hg,hl=>by
  obtain⟨h1,h2,h3,h4⟩:=Bg (o:=o) (v:=v) hg
  rw[List.length_cons] at hl
  obtain⟨Bh,c1,c2,c3,c4,c5,c6⟩:=eO vs (o+1) _ _ h1 (by simp <;> omega)
  refine⟨Bh,c1,?_,by rw[c3];simp,fun k hk=>(c4 k hk).trans (h2 k hk),c5.trans h3,h4.trans c6⟩
  rw[c2,Array.toList_setIfInBounds]
  have ho:o<cur.toList.length:=by simp <;> omega
  rw[List.length_cons,show o+(vs.length+1)=o+1+vs.length by omega]
  have e1:(cur.toList.set o v).take (o+1)=cur.toList.take o++ [v]:=by
   rw[List.take_add_one,List.take_set_of_le (Nat.le_refl _),List.getElem?_set_self ho];rfl
  have e2:(cur.toList.set o v).drop (o+1+vs.length)=cur.toList.drop (o+1+vs.length):=List.drop_set_of_lt (by omega)
  rw[e1,e2];simp
structure fB (h:H) (b:OA) (n c:Nat) (l:List Int):Prop where
 own:Own h 0 3 1 b n c (l.map (Value.int .i64))
 TP:∀x ∈ l,bd .i64 x
 nil:b=none->c=0
 hi:∀a,b=some a->a.block<h.size
theorem fB.len {h:H} {b:OA} {n c:Nat} {l:List Int} (o:fB h b n c l):l.length=n:=by have:=o.own.len;simpa using this
theorem fB.none (h:H):fB h none 0 0 []:=⟨Own.nil _ _ _ _ _,(fun x hx=>by cases hx),fun _=>rfl,fun a e=>by cases e⟩
theorem fB.keep {h h':H} {B:Nat->Prop} {b:OA} {n c:Nat} {l:List Int} (o:fB h b n c l) (k:bZ B h h') (hb:∀a,b=some a->B a.block):fB h' b n c l:=
 ⟨o.own.keep k fun g e _ _=>hb _ e,o.TP,o.nil,fun a e=>Nat.lt_of_lt_of_le (o.hi a e) k.1⟩
theorem Hf:∀{A:Nat->Prop} {h:H} (l:List Int),(∀x ∈ l,bd .i64 x)->eH (jz .i64) A h l (l.map (Value.int .i64))
 | A,h,[],_=>rfl
 | A,h,x::l,hr=>⟨[_],_,rfl,⟨rfl,hr x (List.mem_cons_self ..)⟩,Hf l fun y hy=>hr y (List.mem_cons_of_mem _ hy)⟩
theorem fB.row {A:Nat->Prop} {h:H} {b:OA} {n c:Nat} {l:List Int} (o:fB h b n c l) (hA:∀a,b=some a->A a.block):Row (jz .i64) A h b n c l:=
 Row.of (Hf l o.TP) o.own.cells o.len o.own.cap o.own.max hA
theorem TO (l:List Int):∀v ∈ l.map (Value.int .i64),v.oneCell'=true:=fun v hv=>by obtain⟨x,_,rfl⟩:=List.mem_map.1 hv;rfl
theorem IK (g j:Nat):((⟨g,0,none⟩:Addr).add j)=⟨g,j,none⟩:=by unfold Addr.add;split <;> simp_all
abbrev Fu (h:H) (b b':OA):Prop:=∀q,b'=some q->b=some q∨h.size<=q.block
theorem Bi {h h':H} {b:OA} {g:Nat} (e:b=some ⟨g,0,none⟩) (hs:h.size<=h'.size) (ho:∀k,k≠g->k<h.size->h'[k]? =h[k]?):dW h h' b:=
 ⟨hs,fun k hk bL=>ho k (fun e2=>bL _ e e2.symm) hk⟩
section
variable {h:H} {K:KV} {b:OA} {n c:Nat} {l:List Int}
theorem FB {i:Nat} {x:Int} {av:Addr} (o:fB h b n c l) (hi:i<=n) (v:Var h av 3 [.int .i64 x]) (hav:∀a,b=some a->a.block≠av.block) (hx:bd .i64 x) (hn:n<=1000000)
  (hk:∀b' c' h',fB h' b' (n+1) c' (l.take i++x::l.drop i)->dW h h' b->Fu h b b'->K (.slice b' (n+1) c') h'):
  zC 142 [.slice b n c,.int .i64 (i:Int),.slice (some av) 1 1] h K:=by
 have hl:=o.len
 have hcap:=o.own.cap
 have ry:=o.own.max
 have hr:∀y ∈ l.take i++x::l.drop i,bd .i64 y:=fun y hy=>by
  rcases List.mem_append.1 hy with hy | hy
  ·exact o.TP y (List.mem_of_mem_take hy)
  ·rcases List.mem_cons.1 hy with rfl | hy
   ·exact hx
   ·exact o.TP y (List.mem_of_mem_drop hy)
 have hlen:(l.take i++x::l.drop i).length=n+1:=by simp <;> omega
 have hvs:∀w:World,w.heap=h->∀(j:Nat) u,[Value.int .i64 x][j]? =some u->w.cell? ⟨av.block,0+j,none⟩=some u:=fun w hw j u hu=>by
  have:=v.cell j hu
  rw[v.is] at this
  rw[lj,hw,Nat.zero_add]
  unfold Addr.add at this
  split at this <;> simp_all
 have h1v:∀u ∈ [Value.int .i64 x],u.oneCell'=true:=fun u hu=>by rw[List.mem_singleton.1 hu];rfl
 have eav:(some av:OA)=some ⟨av.block,0,none⟩:=congrArg some v.is
 rw[eav]
 intro w hw
 subst hw
 rcases o.own.is with ⟨Pn,Ze⟩ | ⟨g,cur,rfl,hb0,hg,hcs,pP⟩
 ·-- nothing yet
  subst Pn;subst Ze
  have Zf:l=[]:=List.eq_nil_of_length_eq_zero hl
  subst Zf
  have yG:i=0:=by omega
  subst yG
  refine(Tryz.ins_end_grow b 0 0 av.block 0 1 1 [] [.int .i64 x] w (by omega) (by omega) (by omega) (by omega) rfl rfl (fun _=>rfl) (fun a e j u hu=>by simp at hu) (hvs w rfl) h1v).mono ?_
  rintro e w' ⟨rfl,rfl⟩
  have g1:=grownCap_ge w (0+1) 0 (Tryz.laysNm221_ren.t 3)
  have g2:=grownCap_le_maxLen w (0+1) 0 (Tryz.laysNm221_ren.t 3) (by simp only[maxLen];omega)
  generalize grownCap w (0+1) 0 (Tryz.laysNm221_ren.t 3)=gc at*
  refine⟨_,rfl,⟨rfl,rfl,rfl⟩,hk _ _ _ ⟨⟨by simp,g1,g2,.inr ⟨w.heap.size,_,rfl,Nat.zero_le _,World.alloc_heap_new _ _,?_,?_⟩⟩,hr,(fun e=>by cases e),fun a e=>by cases e;simp[World.alloc]⟩ ⟨by simp[World.alloc],fun k hk bL=>?_⟩ fun q e=>by cases e;exact .inr (Nat.le_refl _)⟩
  ·simp[size_zeroCells,Value.cells];omega
  ·simp
  ·exact pQ _ _ _ hk
 ·have aeU:cur.size=c:=by rw[hcs,Nat.mul_one]
  rw[Nat.mul_one] at pP
  have hcl:cur.toList.length=c:=by simp[aeU]
  have nX:∀j u,cur[j]? =some u->w.cell? ⟨g,0+j,none⟩=some u:=fun j u hu=>by
   rw[Nat.zero_add,<-IK,lj,je hg];exact hu
  have Ev:∀(j:Nat) u,(l.map (Value.int .i64))[j]? =some u->w.cell? ⟨g,0+j,none⟩=some u:=fun j u hu=>by
   refine nX j u ?_
   rw[<-pP,List.getElem?_take] at hu
   split at hu
   ·simpa using hu
   ·cases hu
  have hsp:∀j,j<c->(w.cell? ⟨g,0+j,none⟩).isSome=true:=fun j hj=>by
   rw[nX j (cur[j]'(by omega)) (Array.getElem?_eq_getElem (by omega))];rfl
  have hfz:∀j,w.frozen? ⟨g,j,none⟩=false:=fun j=>by
   show(match w.heap[g]? with | some (.cells _ _ (lo,hi))=>lo<=j&&j<hi | _=>false)=false
   rw[hg];simp
  have jR:(l.map (Value.int .i64)).length=n:=by simp[hl]
  simp only[maxLen] at ry
  by_cases vL:i=n
  ·subst vL
   by_cases hroom:i+1<=c
   ·refine(Tryz.ins_end_room g 0 i c av.block 0 1 1 [.int .i64 x] w (by omega) hroom (by omega) rfl (fun j hj=>by rw[show 0+i+j=0+(i+j) by omega];exact hsp _ (by omega)) (fun j hj=>hfz _) (hvs w rfl) h1v).mono ?_
    rintro e w' ⟨rfl,rfl⟩
    obtain⟨Bh,c1,c2,c3,c4,c5,c6⟩:=eO [Value.int .i64 x] (0+i) w cur hg (by simp <;> omega)
    refine⟨_,rfl,c6,hk _ _ _ ⟨⟨by simp <;> omega,hroom,by simp only[maxLen];omega,.inr ⟨g,Bh,rfl,Nat.zero_le _,c1,by rw[c3,hcs];,?_⟩⟩,hr,(fun e=>by cases e),fun a e=>by cases e;rw[c5];exact(Array.getElem?_eq_some_iff.1 hg).1⟩ (Bi rfl (by rw[c5];exact Nat.le_refl _) fun k hk _=>c4 k hk) fun q e=>.inl e⟩
    rw[c2,Nat.zero_add,pP,Nat.mul_one,List.take_of_length_le (l:=l) (by omega),List.drop_of_length_le (l:=l) (by omega)]
    rw[List.take_append_of_le_length (by simp <;> omega),List.take_of_length_le (by simp <;> omega)]
    simp
   ·refine(Tryz.ins_end_grow (some ⟨g,0,none⟩) i c av.block 0 1 1 (l.map (Value.int .i64)) [.int .i64 x] w (by omega) hcap (by omega) (by omega) jR rfl (fun e=>by cases e) (fun a e j u hu=>by cases e;have:=Ev j u hu;rw[Nat.zero_add] at this;rwa[IK]) (hvs w rfl) h1v).mono ?_
    rintro e w' ⟨rfl,rfl⟩
    have g1:=grownCap_ge w (i+1) c (Tryz.laysNm221_ren.t 3)
    have g2:=grownCap_le_maxLen w (i+1) c (Tryz.laysNm221_ren.t 3) (by simp only[maxLen];omega)
    generalize grownCap w (i+1) c (Tryz.laysNm221_ren.t 3)=gc at*
    refine⟨_,rfl,⟨rfl,rfl,rfl⟩,hk _ _ _ ⟨⟨by simp <;> omega,g1,g2,.inr ⟨w.heap.size,_,rfl,Nat.zero_le _,World.alloc_heap_new _ _,?_,?_⟩⟩,hr,(fun e=>by cases e),fun a e=>by cases e;simp[World.alloc]⟩ ⟨by simp[World.alloc],fun k hk bL=>?_⟩ fun q e=>by cases e;exact .inr (Nat.le_refl _)⟩
    ·simp[size_zeroCells,Value.cells,hl];omega
    ·rw[List.take_of_length_le (l:=l) (by omega),List.drop_of_length_le (l:=l) (by omega)]
     simp only[Array.toList_append,List.map_append,List.map_cons,List.map_nil]
     rw[List.take_append_of_le_length (by simp <;> omega),List.take_of_length_le (by simp <;> omega)]
    ·exact pQ _ _ _ hk
  ·by_cases hroom:n+1<=c
   ·refine(Tryz.ins_shift g 0 n c i av.block 0 1 1 (l.map (Value.int .i64)) [.int .i64 x] w (by omega) (by omega) hroom (by omega) (fun e=>hav _ rfl e.symm) jR rfl Ev (fun j hj=>hsp j (by omega)) (fun j hj=>hfz _) (hvs w rfl) (TO l) h1v 3 3 1 cur.size
     (by show(match w.heap[av.block]? with | some (.cells cc el _)=>some (el,cc.size) | _=>none)=_;rw[v.cells];rfl) (by show(match w.heap[g]? with | some (.cells cc el _)=>some (el,cc.size) | _=>none)=_;rw[hg]) (by omega)
     (by show(match w.heap[av.block]? with | some (.cells _ _ (lo,hi))=>decide (lo<=0)&&decide (0<hi) | _=>false)=false;rw[v.cells];rfl) (by show(match w.heap[av.block]? with | some (.cells _ _ (lo,hi))=>decide (lo<=1)&&decide (1<hi) | _=>false)=false;rw[v.cells];rfl)).mono ?_
    rintro e w' ⟨rfl,rfl⟩
    obtain⟨lK,c1,c2,c3,c4,c5,c6⟩:=eO ((l.map (Value.int .i64)).drop i) (0+(i+1)) w.drew cur hg (by simp <;> omega)
    obtain⟨Ue,d1,d2,d3,d4,d5,d6⟩:=eO [Value.int .i64 x] (0+i) _ lK c1 (by simp <;> omega)
    refine⟨_,rfl,bu.trans (bu.trans (b:=w.drew) ⟨rfl,rfl,rfl⟩ c6) d6,hk _ _ _ ⟨⟨by simp <;> omega,hroom,by simp only[maxLen];omega,.inr ⟨g,Ue,rfl,Nat.zero_le _,d1,by rw[d3,c3,hcs],?_⟩⟩,hr,(fun e=>by cases e),fun a e=>by cases e;rw[d5,c5];exact(Array.getElem?_eq_some_iff.1 hg).1⟩ (Bi rfl (by rw[d5,c5];exact Nat.le_refl _) fun k hk _=>(d4 k hk).trans (c4 k hk)) fun q e=>.inl e⟩
    rw[d2,c2]
    have et:cur.toList.take i=(l.map (Value.int .i64)).take i:=by rw[<-pP,List.take_take,Nat.min_eq_left (by omega)]
    have e1:(cur.toList.take (0+(i+1))++(l.map (Value.int .i64)).drop i++cur.toList.drop (0+(i+1)+((l.map (Value.int .i64)).drop i).length)).take (0+i)=(l.map (Value.int .i64)).take i:=by
     rw[List.append_assoc,List.take_append_of_le_length (by simp <;> omega),List.take_take,Nat.min_eq_left (by omega),Nat.zero_add,et]
    have e2:(cur.toList.take (0+(i+1))++(l.map (Value.int .i64)).drop i++cur.toList.drop (0+(i+1)+((l.map (Value.int .i64)).drop i).length)).drop (0+i+ [Value.int .i64 x].length)=(l.map (Value.int .i64)).drop i++cur.toList.drop (0+(i+1)+((l.map (Value.int .i64)).drop i).length):=by
     rw[List.append_assoc,List.drop_append_of_le_length (by simp <;> omega),List.drop_of_length_le (by simp <;> omega),List.nil_append]
    rw[e1,e2,Nat.mul_one,<-List.append_assoc,List.take_append_of_le_length (by simp <;> omega),List.take_of_length_le (by simp <;> omega)]
    simp
   ·refine(Tryz.ins_grow g 0 n c i av.block 0 1 1 (l.map (Value.int .i64)) [.int .i64 x] w (by omega) (by omega) hcap (by omega) (by omega) jR rfl Ev (hvs w rfl) (TO l) h1v).mono ?_
    rintro e w' ⟨rfl,rfl⟩
    have g1:=grownCap_ge w (n+1) c (Tryz.laysNm221_ren.t 3)
    have g2:=grownCap_le_maxLen w (n+1) c (Tryz.laysNm221_ren.t 3) (by simp only[maxLen];omega)
    have Ok:∀m,(Builtin.zeroCells (Value.int .i64 0).cells m).size=m:=fun m=>by simp[size_zeroCells,Value.cells]
    generalize grownCap w (n+1) c (Tryz.laysNm221_ren.t 3)=gc at*
    generalize IL:(((l.map (Value.int .i64)).take i).toArray++Builtin.zeroCells (Value.int .i64 0).cells (n+1 - i)++Builtin.zeroCells (Value.int .i64 0).cells (gc - (n+1)))=nw
    have AB:nw.size=gc:=by rw[<-IL];simp only[Array.size_append,Ok];simp;omega
    have hnt:nw.toList.take i=(l.map (Value.int .i64)).take i:=by
     rw[<-IL];simp only[Array.toList_append]
     rw[List.append_assoc,List.take_append_of_le_length (by simp <;> omega),List.take_of_length_le (by simp <;> omega)]
    obtain⟨lK,c1,c2,c3,c4,c5,c6⟩:=eO [Value.int .i64 x] i (w.alloc (.cells nw (Tryz.laysNm221_ren.t 3))).drew nw (World.alloc_heap_new _ _) (by simp <;> omega)
    obtain⟨Ue,d1,d2,d3,d4,d5,d6⟩:=eO ((l.map (Value.int .i64)).drop i) (i+1) ((w.alloc (.cells nw (Tryz.laysNm221_ren.t 3))).drew.setCells w.heap.size i [Value.int .i64 x]).drew lK c1 (by simp <;> omega)
    refine⟨_,rfl,bu.trans (bu.trans (b:=(w.alloc (.cells nw (Tryz.laysNm221_ren.t 3))).drew) ⟨rfl,rfl,rfl⟩ c6) (bu.trans (b:=((w.alloc (.cells nw (Tryz.laysNm221_ren.t 3))).drew.setCells w.heap.size i [Value.int .i64 x]).drew) ⟨rfl,rfl,rfl⟩ d6),hk _ _ _ ⟨⟨by simp <;> omega,g1,g2,.inr ⟨w.heap.size,Ue,rfl,Nat.zero_le _,d1,by rw[d3,c3,AB,Nat.mul_one],?_⟩⟩,hr,(fun e=>by cases e),fun a e=>by cases e;rw[d5];show _<(World.setCells _ _ _ _).heap.size;rw[c5];show w.heap.size<(w.heap.push _).size;rw[Array.size_push];omega⟩ ⟨?_,fun k hk bL=>?_⟩ fun q e=>by cases e;exact .inr (Nat.le_refl _)⟩
    ·rw[d2,c2,hnt]
     have e1:((l.map (Value.int .i64)).take i++ [Value.int .i64 x]++nw.toList.drop (i+ [Value.int .i64 x].length)).take (i+1)=(l.map (Value.int .i64)).take i++ [Value.int .i64 x]:=by
      rw[List.take_append_of_le_length (by simp <;> omega),List.take_of_length_le (by simp <;> omega)]
     rw[e1,Nat.mul_one,List.take_append_of_le_length (by simp <;> omega),List.take_of_length_le (by simp <;> omega)]
     simp
    ·rw[d5];show _<=(World.setCells _ _ _ _).heap.size;rw[c5];show w.heap.size<=(w.heap.push _).size;rw[Array.size_push];omega
    ·have yg:k≠w.heap.size:=by omega
     exact(d4 k yg).trans ((c4 k yg).trans (pQ _ _ _ hk))
end
theorem lJ {n:Int} (h1: -9223372036854775808<=n) (h2:n<=9223372036854775807):bd .i64 n:=⟨h1,h2⟩
section
variable {h:H} {K:KV} {b:OA} {n c:Nat} {l:List Int}
theorem FD {i:Nat} (o:fB h b n c l) (hi:i<n) (hk:∀h',fB h' b (n - 1) c (l.eraseIdx i)->dW h h' b->K (.slice b (n - 1) c) h'):
  zC 186 [.slice b n c,.int .i64 (i:Int),.int .i64 ((i+1:Nat):Int)] h K:=by
 have hl:=o.len
 have hcap:=o.own.cap
 have ry:=o.own.max
 intro w hw
 subst hw
 rcases o.own.is with ⟨Pn,Ze⟩ | ⟨g,cur,rfl,hb0,hg,hcs,pP⟩
 ·omega
 ·rw[Nat.mul_one] at pP hcs
  simp only[maxLen] at ry
  have hcl:cur.toList.length=c:=by simp[hcs]
  refine(Tryz.slices_Delete_int_cells g 0 n c i (i+1) l w (by omega) hcap (by omega) (by omega) (by omega) (fun j hj=>?_) (fun j hj=>?_)).mono ?_
  ·rw[Nat.zero_add,<-IK,lj,je hg]
   have:(l.map (Value.int .i64))[j]? =some (.int .i64 (l.getD j 0)):=by
    rw[List.getElem?_map,List.getElem?_eq_getElem hj,List.getD_eq_getElem?_getD,List.getElem?_eq_getElem hj];rfl
   rw[<-pP,List.getElem?_take,if_pos (by omega)] at this
   simpa using this
  ·show(match w.heap[g]? with | some (.cells _ _ (lo,hi))=>decide (lo<=0+j)&&decide (0+j<hi) | _=>false)=false
   rw[hg];simp
  rintro e w' ⟨rfl,q,rfl⟩
  have ee:((l.take n).take i++(l.take n).drop (i+1)++List.replicate (i+1 - i) (0:Int))=l.eraseIdx i++ [0]:=by
   rw[List.take_of_length_le (l:=l) (by omega),List.eraseIdx_eq_take_drop_succ,show i+1 - i=1 by omega];rfl
  rw[ee]
  have hle:(l.eraseIdx i).length=n - 1:=by rw[List.length_eraseIdx];split <;> omega
  obtain⟨Bh,c1,c2,c3,c4,c5,c6⟩:=eO ((l.eraseIdx i++ [0]).map (Value.int .i64)) 0 (w.drewN q) cur hg (by simp <;> omega)
  refine⟨_,rfl,bu.trans (b:=w.drewN q) ⟨rfl,rfl,rfl⟩ c6,?_⟩
  rw[show n - (i+1 - i)=n - 1 by omega]
  refine hk _ ⟨⟨by simp <;> omega,by omega,by simp only[maxLen];omega,.inr ⟨g,Bh,rfl,Nat.zero_le _,c1,by rw[c3,hcs,Nat.mul_one],?_⟩⟩,fun x hx=>o.TP x (List.mem_of_mem_eraseIdx hx),(fun e=>by cases e),fun a e=>by cases e;rw[c5];exact(Array.getElem?_eq_some_iff.1 hg).1⟩ (Bi rfl (by rw[c5];exact Nat.le_refl _) fun k hk _=>c4 k hk)
  rw[c2,Nat.mul_one,List.take_zero,List.nil_append,List.map_append,List.append_assoc,List.take_append_of_le_length (by simp <;> omega),List.take_of_length_le (by simp <;> omega)]
def bj (x:Int):List Int->Nat
 | []=>0
 | y::l=>if x=y then 0 else bj x l+1
theorem Bj {x:Int}:∀{l:List Int} {i:Nat},x ∉ l.take i->l[i]? =some x->bj x l=i
 | [],i,_,h=>by simp at h
 | y::l,0,_,h=>by simp at h;unfold bj;rw[if_pos h.symm]
 | y::l,i+1,hn,h=>by
  rw[List.take_succ_cons,List.mem_cons] at hn
  unfold bj
  rw[if_neg (fun e=>hn (.inl e)),Bj (fun hm=>hn (.inr hm)) (by simpa using h)]
theorem wS {x:Int}:∀{l:List Int},x ∈ l->l[bj x l]? =some x
 | [],h=>by cases h
 | y::l,h=>by
  unfold bj
  by_cases e:x=y
  ·rw[if_pos e,e];rfl
  ·rw[if_neg e]
   rcases List.mem_cons.1 h with h | h
   ·exact absurd h e
   ·simpa using wS h
theorem pO {x:Int} {l:List Int} (h:x ∈ l):bj x l<l.length:=(List.getElem?_eq_some_iff.1 (wS h)).1
def Bc (l:List Int) (x:Int):Int:=if x ∈ l then(bj x l:Int) else -1
theorem FE {A:Nat->Prop} {x:Int} (r:Row (jz .i64) A h b n c l) (hk:K (.int .i64 (Bc l x)) h):zC 180 [.slice b n c,.int .i64 x] h K:=by
 have hl:=r.len
 have hm:n<=maxLen:=Nat.le_trans r.cap r.max
 simp only[maxLen] at hm
 refine Uf.ok _ _ _ _ _ _ ⟨n+1,?_⟩
 have key:∀N i,i+N=n->x ∉ l.take i->Uf.cQ (fun h=>Uf.n3 (fun y4 h=>K (.int .i64 y4) h) (fun y4 h=>K (.int .i64 y4) h) h) (fun h=>Uf.n3 (fun y4 h=>K (.int .i64 y4) h) (fun y4 h=>K (.int .i64 y4) h) h) (fun y4 h=>K (.int .i64 y4) h) (N+1) b n c x (n:Int) (i:Int) h:=by
  intro N
  induction N with
  | zero=>
   intro i hi dk
   unfold Uf.cQ
   refine cg (by omega) ?_
   rw[List.take_of_length_le (by omega)] at dk
   unfold Bc at hk
   rw[if_neg dk] at hk
   exact hk
  | succ N ih=>
   intro i hi dk
   have bQ:i<l.length:=by omega
   unfold Uf.cQ
   refine bK (by omega) (r.bj bQ rfl fun a hA=>CU hA fun _=>bf (fun e=>?_) fun e=>⟨lJ (by omega) (by omega),ih (i+1) (by omega) ?_⟩)
   ·have iZ:x ∈ l:=by rw[e];exact List.getElem_mem bQ
    have hix:bj x l=i:=Bj dk (by rw[List.getElem?_eq_getElem bQ,e])
    unfold Bc at hk
    rw[if_pos iZ,hix] at hk
    exact hk
   ·rw[List.take_add_one,List.getElem?_eq_getElem bQ]
    intro hm
    rcases List.mem_append.1 hm with hm | hm
    ·exact dk hm
    ·simp at hm;exact e hm
 exact key n 0 (by omega) (by simp)
end
theorem Po {α:Type} {E:El α} {t e0 by':Nat} (ap:oH Tryz.prog E t e0 by') (XG:Dd (Tryz.prog.underlying t)=true) {A:Nat->Prop} {h:H} {b:OA} {n c:Nat} {l:List α} {x y:Operand} (r:Row E A h b n c l) (hz:b=none->c=0) (hn:n<=1000000) (hb:by'<=1000)
  {Kr:OA->Nat->Nat->H->Prop} (hk:∀b' c' h',bH E h' h.size e0 b' n c' l->KB h h'->Kr b' n c' h'):
  aZ Tryz.prog (dy .eql t x y (.slice b n c) (.slice none 0 0)) h fun v9 df=>au v9 fun Zg=>cond Zg (Kr none 0 0 df) (aw df #[] e0 fun a12 fI=>aZ Tryz.prog (Builtin.append_ #[t,t] t ⟨[(.slice (some a12) 0 0),(.slice b n c)]⟩) fI fun qO gA=>aB qO fun hU hX hZ=>Kr hU hX hZ gA):=by
 have hl:=r.len
 have hcap:=r.cap
 refine(wX XG ?_).h
 refine ag (aR (fun e=>?_) fun e=>?_)
 ·have hb:b=none:=by simpa using e
  have hc:=hz hb
  have Pn:n=0:=by omega
  subst Pn
  have:l=[]:=List.eq_nil_of_length_eq_zero hl
  subst this
  exact hk none 0 h (bH.none _ _ _) (KB.refl h)
 ·refine af (cs:=[]) fun a h1 v1 k1 e1 s1=>?_
  have o1:bH E h1 h.size e0 (some a) 0 0 []:=⟨dX.nil _ _ _ _ _,(fun q e=>by cases e;omega),(fun q e=>by cases e;exact v1.lt),fun e=>by cases e⟩
  have Te:(0+n)*by'<=140737488355328:=by
   have:(0+n)*by'<=1000000*1000:=Nat.mul_le_mul (by omega) hb
   omega
  refine bH.append ap o1 (r.JC.keep ((KB.w k1).less fun k hk=>hk.2) (fun k hk hs=>⟨by omega,fun q e=>by cases e;omega⟩)) (by simp only[maxLen];omega) Te (by omega) fun b' c' h' o' g'=>aH ?_
  rw[Nat.zero_add] at o' ⊢
  refine hk b' c' h' o' (g'.yj k1 fun q e=>by cases e;omega)
abbrev bw:=Bs × Bs
abbrev aY:El bw:=ik cN cN
theorem Hg:oH Tryz.prog aY 43 67 32:=kr (sz:=2) (by kernel_rfl) rfl
structure ay where
 kind:Int
 space:Int
 name:Bs
 attrs:List bw
 text:Bs
 parent:Int
 kids:List Int
abbrev bY:=Nat->Option (Nat × Nat)
abbrev bT (col:bY) (h:H):Nat->Prop:=fun k=>col k=none/\k<h.size
def wY:El Addr where
 sz:=1
 R:=fun _ _ x cs=>cs=[.pointer (some x)]
 len:=fun _ _ _ _ h=>by rw[h];rfl
 one:=fun _ _ _ _ h v hv=>by rw[h] at hv;simp at hv;subst hv;rfl
 keep:=fun _ _ _ _ _ _ h _ _=>h
 pos:=by decide
theorem Ug:oH Tryz.prog wY 85 80 8:=kr (sz:=1) (by kernel_rfl) rfl
def mG (x:ay) (ab:OA) (an ac:Nat) (kb:OA) (kn kc:Nat):List Value:=
 [.int .u8 x.kind,.int .u8 x.space,S x.name,.slice ab an ac,S x.text,.slice none 0 0,.int .i64 x.parent,.slice kb kn kc]
structure tQ (h:H) (col:bY) (s i:Nat) (a:Addr) (x:ay):Prop where
 ex:∃ab an ac kb kn kc,Var h a 84 (mG x ab an ac kb kn kc)/\Row aY (bT col h) h ab an ac x.attrs/\(ab=none->ac=0)/\fB h kb kn kc x.kids/\∀q,kb=some q->col q.block=some (s,2*i+3)
 col:col a.block=some (s,2*i+2)
 rk:bd .u8 x.kind
 rs:bd .u8 x.space
 rp:bd .i64 x.parent
 fa:x.attrs.length<=1000000
 fn:x.name.length<=maxLen
 ft:x.text.length<=maxLen
structure bz (h:H) (col:bY) (s:Nat) (t:Addr) (cp:List Addr) (ns:List ay):Prop where
 ex:∃lb lc,Var h t 87 [.slice lb ns.length lc]/\bH wY h 0 80 lb ns.length lc cp/\∀q,lb=some q->col q.block=some (s,1)
 len:cp.length=ns.length
 nodes:∀(i:Nat) x a,ns[i]? =some x->cp[i]? =some a->tQ h col s i a x
 kj:col t.block=some (s,0)
 fresh:∀k,h.size<=k->col k=none
 mQ:ns.length<=1000000
structure Ext (s:Nat) (h:H) (col:bY) (h':H) (col':bY):Prop where
 sk:SK (fun k=>k<h.size/\∀p,col k≠some (s,p)) h h'
 cl:∀k,k<h.size->col' k=col k
theorem Ext.refl (s:Nat) (h:H) (col:bY):Ext s h col h col:=⟨SK.refl _ _,fun _ _=>rfl⟩
theorem Ext.trans {s:Nat} {a b c:H} {x y z:bY} (e:Ext s a x b y) (f:Ext s b y c z):Ext s a x c z:=
 ⟨SK.trans e.sk (f.sk.less fun k hk=>⟨Nat.lt_of_lt_of_le hk.1 e.sk.1,fun p=>by rw[e.cl k hk.1];exact hk.2 p⟩),fun k hk=>(f.cl k (Nat.lt_of_lt_of_le hk e.sk.1)).trans (e.cl k hk)⟩
theorem Ext.kb {s:Nat} {h h':H} {col:bY} (k:KB h h'):Ext s h col h' col:=⟨SK.less k fun k hk=>hk.1,fun _ _=>rfl⟩
section
variable {h h':H} {col col':bY} {s i:Nat} {t a:Addr} {cp:List Addr} {ns:List ay} {x:ay}
theorem tQ.keep (N:tQ h col s i a x) {B:Nat->Prop} (k:bZ B h h') (hc:∀k,k<h.size->col' k=col k) (hB:∀k,k<h.size->(col k=none∨col k=some (s,2*i+2)∨col k=some (s,2*i+3))->B k):tQ h' col' s i a x:=by
 obtain⟨ab,an,ac,kb,kn,kc,v,ra,hz,ok,hk⟩:=N.ex
 have cR:=v.lt
 refine⟨⟨ab,an,ac,kb,kn,kc,v.keep k (hB _ cR (.inr (.inl N.col))),ra.keep (k.less fun q hq=>hB q hq.1.2 (.inl hq.1.1)) (fun q hq hs=>⟨by rw[hc q hs];exact hq.1,Nat.lt_of_lt_of_le hs k.1⟩),hz,ok.keep k fun q e=>hB _ (ok.hi q e) (.inr (.inr (hk q e))),fun q e=>by rw[hc _ (ok.hi q e)];exact hk q e⟩,by rw[hc _ cR];exact N.col,N.rk,N.rs,N.rp,N.fa,N.fn,N.ft⟩
theorem bz.keep (T:bz h col s t cp ns) {B:Nat->Prop} (k:bZ B h h') (hc:∀k,k<h.size->col' k=col k) (hf:∀k,h'.size<=k->col' k=none) (hB:∀k,k<h.size->(col k=none∨∃p,col k=some (s,p))->B k):bz h' col' s t cp ns:=by
 obtain⟨lb,lc,v,o,hl⟩:=T.ex
 refine⟨⟨lb,lc,v.keep k (hB _ v.lt (.inr ⟨_,T.kj⟩)),?_,fun q e=>by rw[hc _ (o.hi q e)];exact hl q e⟩,T.len,fun i x a hx ha=>(T.nodes i x a hx ha).keep k hc fun q hq mA=>hB q hq (by rcases mA with h | h | h;exact .inl h;exact .inr ⟨_,h⟩;exact .inr ⟨_,h⟩),by rw[hc _ v.lt];exact T.kj,hf,T.mQ⟩
 refine⟨?_,o.lo,fun q e=>Nat.lt_of_lt_of_le (o.hi q e) k.1,o.nil⟩
 obtain⟨xs,h1,h2⟩:=o.own.own
 refine⟨o.own.len,xs,h1.keep k fun g e _ hg=>hB _ hg (.inr ⟨_,hl _ e⟩),?_⟩
 exact eH.flat (fun _ _ _ _ _ _ h=>h) h2
theorem bz.kw (T:bz h col s t cp ns) (k:KW h h'):bz h' col s t cp ns:=T.keep k (fun _ _=>rfl) (fun k' hk=>T.fresh k' (Nat.le_trans k.1 hk)) fun k hk _=>hk
theorem bz.kb (T:bz h col s t cp ns) (k:KB h h'):bz h' col s t cp ns:=T.kw (KB.w k)
theorem bz.other {s':Nat} (T:bz h col s t cp ns) (hs:s≠s') (e:Ext s' h col h' col') (hf:∀k,h'.size<=k->col' k=none):bz h' col' s t cp ns:=
 T.keep e.sk.w e.cl hf fun k hk mA=>⟨hk,fun p e=>by
  rcases mA with h | ⟨q,h⟩
  ·rw[h] at e;cases e
  ·rw[h] at e;cases e;exact hs rfl⟩
theorem bz.upd (T:bz h col s t cp ns) {x':ay} (ha:cp[i]? =some a) (k:SK (fun k=>k<h.size/\∀p,col k=some (s,p)->p≠2*i+2/\p≠2*i+3) h h') (hc:∀k,k<h.size->col' k=col k) (hf:∀k,h'.size<=k->col' k=none) (hn:tQ h' col' s i a x'):
  bz h' col' s t cp (ns.set i x'):=by
 obtain⟨lb,lc,v,o,hl⟩:=T.ex
 have T':∀{B:Nat->Prop},(∀k,B k->k<h.size/\∀p,col k=some (s,p)->p≠2*i+2/\p≠2*i+3)->bZ B h h':=fun hB=>k.w.less hB
 have kp:=k.w
 refine⟨⟨lb,lc,by rw[List.length_set];exact v.keep kp ⟨v.lt,fun p e=>by rw[T.kj] at e;cases e;omega⟩,?_,fun q e=>by rw[hc _ (o.hi q e)];exact hl q e⟩,by rw[List.length_set];exact T.len,fun j y b hy hb=>?_,by rw[hc _ v.lt];exact T.kj,hf,by rw[List.length_set];exact T.mQ⟩
 ·rw[List.length_set]
  refine⟨?_,o.lo,fun q e=>Nat.lt_of_lt_of_le (o.hi q e) k.1,o.nil⟩
  obtain⟨xs,h1,h2⟩:=o.own.own
  refine⟨o.own.len,xs,h1.keep kp fun g e _ hg=>⟨hg,fun p e2=>by rw[hl _ e] at e2;cases e2;omega⟩,?_⟩
  exact eH.flat (fun _ _ _ _ _ _ h=>h) h2
 ·by_cases hij:i=j
  ·subst hij
   rw[ha] at hb;cases hb
   have cR:i<ns.length:=by have:=(List.getElem?_eq_some_iff.1 ha).1;have:=T.len;omega
   rw[List.getElem?_set_self cR] at hy;cases hy
   exact hn
  ·rw[List.getElem?_set_ne hij] at hy
   exact(T.nodes j y b hy hb).keep kp hc fun q hq mA=>⟨hq,fun p e=>by
    rcases mA with h | h | h
    ·rw[h] at e;cases e
    ·rw[h] at e;cases e;omega
    ·rw[h] at e;cases e;omega⟩
end
def cz (col:bY) (h:H) (b:OA) (v:Nat × Nat):bY:=fun k=>if h.size<=k/\(∃q,b=some q/\q.block=k) then some v else col k
theorem eJ {col:bY} {h:H} {b:OA} {v:Nat × Nat} {k:Nat} (hk:k<h.size):cz col h b v k=col k:=if_neg fun e=>by omega
theorem nq {col:bY} {h:H} {b:OA} {v:Nat × Nat} {q:Addr} (hb:b=some q) (ho:q.block<h.size->col q.block=some v):cz col h b v q.block=some v:=by
 by_cases hk:q.block<h.size
 ·rw[eJ hk];exact ho hk
 ·exact if_pos ⟨by omega,q,hb,rfl⟩
theorem pn {col:bY} {h h':H} {b:OA} {v:Nat × Nat} {k:Nat} (hb:∀q,b=some q->q.block<h'.size) (hk:h'.size<=k):cz col h b v k=col k:=if_neg fun⟨_,q,e,e2⟩=>by have:=hb q e;omega
theorem _root_.Go.Sh.bH.Hh {α:Type} {E:El α} {t ty e by':Nat} {P:Program} (ap:oH P E t e by') {h:H} {sb rb:OA} {n c m k base:Nat} {l l2:List α} (o:bH E h base e sb n c l) (r:Row E (FF h sb) h rb m k l2)
  (jZ:n+m<=maxLen) (hb:(n+m)*by'<=140737488355328) (hO:base<=h.size) {K:KV}
  (hk:∀b' c' h',bH E h' base e b' (n+m) c' (l++l2)->dW h h' sb->Fu h sb b'->K (.slice b' (n+m) c') h'):
  aZ P (Builtin.append_ #[t,t] ty ⟨[.slice sb n c,.slice rb m k]⟩) h K:=by
 refine dX.append ap o.own r jZ hb hO (fun k hk _=>hk.2) fun b2 c2 h' o' hg hb h0=>hk b2 c2 h' ⟨?_,?_,?_,?_⟩ hg fun q e=>by
  rcases hb with rfl | rfl
  ·exact .inl e
  ·cases e;exact .inr (Nat.le_refl _)
 ·refine o'.keep (bZ.refl (fun _=>True) _) (fun _ _ _=>trivial) (fun k FG EB=>⟨EB,fun x hx=>?_⟩) fun _ _ _ _=>trivial
  rcases hb with rfl | rfl
  ·exact FG.2 x hx
  ·cases hx
   have:=FG.1
   show h.size≠k
   omega
 ·intro x hx
  rcases hb with rfl | rfl
  ·exact o.lo x hx
  ·cases hx;exact hO
 ·intro x hx
  rcases hb with rfl | rfl
  ·exact Nat.lt_of_lt_of_le (o.hi x hx) hg.size
  ·obtain⟨xs,ho,_⟩:=o'.own
   rcases ho.is with h1 | ⟨g,cur,e1,_,Uh,_⟩
   ·have:=h0 h1.1
    exact Nat.lt_of_lt_of_le (o.hi x (this.1▸hx)) hg.size
   ·rw[hx] at e1;cases e1;exact(Array.getElem?_eq_some_iff.1 Uh).1
 ·intro Zh
  have:=o'.cap
  obtain⟨xs,ho,_⟩:=o'.own
  rcases ho.is with h1 | ⟨g,cur,e1,_⟩
  ·exact h1.2
  ·rw[Zh] at e1;cases e1
theorem _root_.Go.Sh.Var.Hi {α:Type} {E:El α} {h:H} {a:Addr} {t:Nat} {cs:List Value} {x:α} (v:Var h a t cs) (hR:∀A,E.R A h x cs):bH E h 0 t (some a) 1 1 [x]:=by
 have hl:=E.len _ _ _ _ (hR fun _=>True)
 refine⟨⟨rfl,cs,⟨by rw[hl];simp,Nat.le_refl _,by decide,.inr ⟨a.block,⟨cs⟩,congrArg some v.is,Nat.zero_le _,v.cells,by simp[hl],by rw[Nat.one_mul,<-hl];exact List.take_length⟩⟩,⟨cs,[],by simp,hR _,rfl⟩⟩,fun _ _=>Nat.zero_le _,fun q e=>by cases e;exact v.lt,fun e=>by cases e⟩
theorem _root_.Go.Sh.Var.kg {h:H} {a:Addr} {t:Nat} {cs:List Value} (v:Var h a t cs) (i:Nat) {x:Value} (hx:cs[i]? =some x):cell h ((a.add 0).add i)=some x:=by rw[add_zero'];exact v.cell i hx
theorem zD {A:Nat->Prop} {h:H} {a x:Addr} {K:OA->Prop} (hA:At wY A h a x) (hk:K (some x)):∃p,cell h a=some (.pointer p)/\K p:=by
 obtain⟨_,cs,hR,h4⟩:=hA
 have hR:cs=[.pointer (some x)]:=hR
 subst hR
 exact⟨_,by have:=h4 0 _ rfl;rwa[add_zero'] at this,hk⟩
theorem cL {p:OA} {k:OA->Prop} (h:k p):kt (.pointer p) k:=h
theorem aa {a:Addr} {k:Addr->Prop} (h:k a):ae (some a) k:=h
def fg (kids:List Int) (kT:Int):Int:=if kT= -1 then(kids.length:Int) else Bc kids kT
def bF (kind space:Int) (name:Bs) (attrs:List bw) (text:Bs):Option ay:=
 if kind=1 then some ⟨kind,space,name,attrs,[], -1,[]⟩
 else if kind=2∨kind=3 then some ⟨kind,0,[],[],text, -1,[]⟩
 else none
def bE (ns:List ay):Option ay->List ay × Int
 | none=>(ns, -1)
 | some x=>(ns++ [x],(ns.length:Int))
def mH:ay:=⟨0,0,[],[],[], -1,[]⟩
section
variable {h:H} {K:KV} {col:bY} {s i:Nat} {t a:Addr} {cp:List Addr} {ns:List ay} {x:ay}
theorem jc (T:bz h col s t cp ns) {id:Int} (dk:¬(0<=id/\id<ns.length)->K (.pointer none) h)
  (vi:∀(i:Nat) a x,id=(i:Int)->ns[i]? =some x->cp[i]? =some a->K (.pointer (some a)) h):zC 48 [.pointer (some t),.int .i64 id] h K:=by
 obtain⟨lb,lc,v,o,hl⟩:=T.ex
 have hlen:=T.len
 refine Xax.ok _ _ _ _ (bf (fun e=>dk (by omega)) fun e=>aa ⟨_,_,_,v.cell 0 rfl,bf (fun e2=>dk (by omega)) fun e2=>aa ⟨_,_,_,v.cell 0 rfl,?_⟩⟩)
 obtain⟨i,rfl⟩:=Int.eq_ofNat_of_zero_le (show 0<=id by omega)
 have hi:i<cp.length:=by omega
 have yl:i<ns.length:=by omega
 exact o.row.bj hi rfl fun a hA=>zD hA (vi i _ _ rfl (List.getElem?_eq_getElem yl) (List.getElem?_eq_getElem hi))
theorem jI (T:bz h col s t cp ns) {id:Int} (dk:¬(∃(i:Nat) (x:ay),id=i/\ns[i]? =some x/\(i=0∨x.kind=1))->K (.pointer none) h)
  (vi:∀(i:Nat) a x,id=(i:Int)->ns[i]? =some x->cp[i]? =some a->(i=0∨x.kind=1)->K (.pointer (some a)) h):zC 130 [.pointer (some t),.int .i64 id] h K:=by
 refine Xay.ok _ _ _ _ (jc T (fun hn=>cL (cw (by kernel_rfl) (ag (aD (dk ?_))))) fun i a x e hx ha=>cL (cw (by kernel_rfl) (ag (aC ?_))))
 ·rintro⟨i,x,rfl,hx,_⟩
  have:=(List.getElem?_eq_some_iff.1 hx).1
  omega
 ·subst e
  obtain⟨ab,an,ac,kb,kn,kc,v,_⟩:=(T.nodes i x a hx ha).ex
  refine bf (fun e=>aa ⟨_,v.kg 0 rfl,bf (fun e2=>vi i a x rfl hx ha (.inr e2)) fun e2=>dk ?_⟩) fun e=>vi i a x rfl hx ha (.inl (by omega))
  rintro⟨j,y,ej,hy,mA⟩
  have:i=j:=by omega
  subst this
  rw[hx] at hy;cases hy
  rcases mA with h0 | h1
  ·omega
  ·exact e2 h1
theorem hH (N:tQ h col s i a x) {kT:Int} (hk:K (.int .i64 (fg x.kids kT)) h):zC 131 [.pointer (some a),.int .i64 kT] h K:=by
 obtain⟨ab,an,ac,kb,kn,kc,v,ra,hz,ok,hc⟩:=N.ex
 have hl:=ok.len
 unfold fg at hk
 refine Xa0.ok _ _ _ _ (bf (fun e=>aa ⟨_,_,_,v.cell 7 rfl,?_⟩) fun e=>aa ⟨_,_,_,v.cell 7 rfl,FE (ok.row (A:=fun _=>True) fun _ _=>trivial) (aO ?_)⟩)
 ·rw[if_pos e,hl] at hk;exact hk
 ·rw[if_neg e] at hk;exact hk
theorem Bk (T:bz h col s t cp ns) {id:Int} (dk:¬(0<=id/\id<ns.length)->K (.int .i64 (-1)) h) (vi:∀(i:Nat) x,id=(i:Int)->ns[i]? =some x->K (.int .i64 x.parent) h):
  zC 129 [.pointer (some t),.int .i64 id] h K:=by
 refine Xar.ok _ _ _ _ (jc T (fun hn=>cL (cw (by kernel_rfl) (ag (aD (dk hn))))) fun i a x e hx ha=>cL (cw (by kernel_rfl) (ag (aC ?_))))
 obtain⟨ab,an,ac,kb,kn,kc,v,_⟩:=(T.nodes i x a hx ha).ex
 exact aa ⟨_,v.cell 6 rfl,vi i x e hx⟩
theorem IM (hf:∀k,h.size<=k->col k=none) (hk:∀t h' col' cp,bz h' col' s t cp [mH]->Ext s h col h' col'->K (.pointer (some t)) h'):zC 51 [] h K:=by
 refine Xam.ok _ _ (af fun a1 h1 v1 k1 e1 s1=>af fun a2 h2 v2 k2 e2 s2=>af fun a3 h3 v3 k3 e3 s3=>?_)
 refine hk a3 h3 (fun k=>if k=h.size then some (s,2) else if k=h.size+1 then some (s,1) else if k=h.size+2 then some (s,0) else col k) [a1] ?_ ⟨SK.less ((k1.trans k2).trans k3) fun k hk=>hk.1,fun k hk=>?_⟩
 ·have o2:bH wY h2 0 80 (some a2) 1 1 [a1]:=v2.Hi fun _=>rfl
  refine⟨⟨some a2,1,v3,o2.kb k3,fun q e=>by cases e;rw[if_neg (by omega),if_pos (by omega)]⟩,rfl,fun i x a hx ha=>?_,by rw[if_neg (by omega),if_neg (by omega),if_pos (by omega)],fun k hk=>?_,by decide⟩
  ·cases i with
   | succ i=>simp at hx
   | zero=>
    simp at hx ha
    subst hx;subst ha
    exact⟨⟨none,0,0,none,0,0,(v1.kb k2).kb k3,⟨rfl,Nat.le_refl _,Nat.zero_le _,fun i x hx=>by simp[mH] at hx⟩,fun _=>rfl,fB.none _,fun q e=>by cases e⟩,by rw[if_pos e1],⟨by decide,by decide⟩,⟨by decide,by decide⟩,⟨by decide,by decide⟩,by decide,Nat.zero_le _,Nat.zero_le _⟩
  ·rw[if_neg (by omega),if_neg (by omega),if_neg (by omega)];exact hf k (by omega)
 ·show(if _ then _ else _)=_
  rw[if_neg (by omega),if_neg (by omega),if_neg (by omega)]
end
section
variable {h:H} {K:KV} {col:bY} {s i:Nat} {t a:Addr} {cp:List Addr} {ns:List ay} {x:ay}
theorem tL:oH Tryz.prog (jz .i64) 82 3 8:=kr (sz:=1) (by kernel_rfl) rfl
theorem sI {A:Nat->Prop} {b:OA} {n c:Nat} {l:List bw} (r:Row aY A h b n c l) (hz:b=none->c=0) (hn:n<=1000000) (hk:∀b' c' h',bH aY h' h.size 67 b' n c' l->KB h h'->K (.slice b' n c') h'):
  zC 49 [.slice b n c] h K:=
 Xfw.ok _ _ _ _ _ (Po (Kr:=fun b n c h=>K (.slice b n c) h) Hg (by kernel_rfl) r hz hn (by decide) hk)
theorem gK:Flat aY:=fun _ _ _ _ _ _ ⟨c1,c2,e,r1,r2⟩=>⟨c1,c2,e,r1,r2⟩
theorem De {h0 h:H} {b:OA} {n c:Nat} {l:List bw} (o:bH aY h h0.size 67 b n c l) (hf:∀k,h0.size<=k->col k=none):Row aY (bT col h) h b n c l:=by
 obtain⟨xs,h1,h2⟩:=o.own.own
 have u0:eH aY (bT col h) h l xs:=eH.flat gK h2
 by_cases hn:n=0
 ·subst hn
  have:l=[]:=List.eq_nil_of_length_eq_zero o.own.len
  subst this
  exact⟨rfl,h1.cap,h1.max,fun i x hx=>by simp at hx⟩
 ·exact Row.of u0 h1.cells o.own.len h1.cap h1.max fun q e=>⟨hf _ (o.lo q e),o.hi q e⟩
theorem Li (T:bz h col s t cp ns) (hx:bd .u8 x.kind/\bd .u8 x.space) (yN:x.parent= -1) (Lj:x.kids=[]) (hfa:x.attrs.length<=1000000) (Xx:x.name.length<=maxLen) (Iv:x.text.length<=maxLen) (lI:ns.length<1000000)
  {x3:Addr} {tt:Nat} {ab kb:OA} {an ac kn kc:Nat} (v:Var h x3 tt [.int .u8 x.kind,.int .u8 x.space,S x.name,.slice ab an ac,S x.text,.slice kb kn kc]) (hkb:kb=none/\kn=0/\kc=0) (ra:Row aY (bT col h) h ab an ac x.attrs) (hz:ab=none->ac=0)
  (hk:∀h' col' pc,bz h' col' s t pc (ns++ [x])->Ext s h col h' col'->K (.int .i64 (ns.length:Int)) h'):
  XH.n3 (some t) x3 (fun y4 h=>K (.int .i64 y4) h) (fun y4 h=>K (.int .i64 y4) h) h:=by
 obtain⟨rfl,rfl,rfl⟩:=hkb
 obtain⟨lb,lc,vt,o,hl⟩:=T.ex
 have hlen:=T.len
 have vtl:=vt.lt
 refine aa ⟨_,_,_,vt.cell 0 rfl,_,v.cell 0 rfl,_,v.cell 1 rfl,_,v.cell 2 rfl,_,_,_,v.cell 3 rfl,_,v.cell 4 rfl,_,_,_,v.cell 5 rfl,af fun a1 h1 v1 k1 e1 s1=>⟨k1.ext,af fun a2 h2 v2 k2 e2 s2=>⟨k2.ext,?_⟩⟩⟩
 have tK:KB h h2:=k1.trans k2
 have o2:=o.kb tK
 have jQ:=o.hi
 have r2:Row wY (FF h2 lb) h2 (some a2) 1 1 [a1]:=v2.wJ (x:=a1) (E:=wY) (A:=FF h2 lb) rfl ⟨v2.lt,fun q e=>by have:=jQ q e;omega⟩
 refine bH.Hh Ug o2 r2 (by simp only[maxLen];omega) (by omega) (Nat.zero_le _) fun b3 c3 h3 o3 g3 nb=>aH ?_
 have B8:∀q,lb=some q->col q.block=some (s,1):=hl
 have vt2:=vt.kb tK
 have vt3:Var h3 t 87 [.slice lb ns.length lc]:=vt2.keep g3.keep.w ⟨vt2.lt,fun q e e2=>by have h1:=B8 q e;rw[e2,T.kj] at h1;cases h1⟩
 have sz3:=g3.size
 refine aa (cv (m:=0) (i:=0) vt3 (by show 0+0+1<=1;omega) fun h4 v4 k4 s4=>aa ⟨_,_,_,v4.cell 0 rfl,lJ (by omega) (by omega),?_⟩)
 have en:(((ns.length+1:Nat):Int) - 1)=(ns.length:Int):=by omega
 rw[en]
 have hb3:∀q,b3=some q->q.block<h3.size:=o3.hi
 have ke:=hk h4 (fun k=>if k=h.size then some (s,2*ns.length+2) else cz col h2 b3 (s,1) k) (cp++ [a1]) ?_ ⟨⟨by omega,fun k hk=>?_⟩,fun k hk=>?_⟩
 ·exact ke
 ·have jr:∀k,k<h.size->(fun k=>if k=h.size then some (s,2*ns.length+2) else cz col h2 b3 (s,1) k) k=col k:=fun k hk=>by
   show(if _ then _ else _)=_
   rw[if_neg (by omega),eJ (by omega)]
  have kk:∀k,k<h2.size->k≠t.block->(∀q,lb=some q->q.block≠k)->h4[k]? =h2[k]? :=fun k h1 u0 Zi=>(k4.2 k u0).trans (g3.vM k h1 Zi)
  refine⟨⟨b3,c3,?_,?_,fun q e=>?_⟩,by simp[hlen],fun j y b hy hb=>?_,(jr _ vtl).trans T.kj,fun k hk=>?_,by simp;omega⟩
  ·have:jq [Value.slice lb ns.length lc] (0+0) [Value.slice b3 (ns.length+1) c3]=[Value.slice b3 (ns.length+1) c3]:=rfl
   rw[List.length_append]
   exact v4
  ·rw[List.length_append]
   have ht3:∀q,b3=some q->q.block≠t.block:=fun q e e2=>by
    rcases nb q e with h1 | h1
    ·have:=B8 q h1;rw[e2,T.kj] at this;cases this
    ·omega
   refine⟨?_,o3.lo,fun q e=>by have:=o3.hi q e;omega,o3.nil⟩
   obtain⟨xs,h1,u0⟩:=o3.own.own
   exact⟨o3.own.len,xs,h1.keep k4.w fun g e _ hg=>ht3 _ e,eH.flat (fun _ _ _ _ _ _ h=>h) u0⟩
  ·show(if _ then _ else _)=_
   rw[if_neg (by
    intro e2
    rcases nb q e with h1 | h1
    ·have:=jQ q h1;omega
    ·omega)]
   exact nq e fun cR=>by
    rcases nb q e with h1 | h1
    ·exact B8 q h1
    ·omega
  ·by_cases hj:j<ns.length
   ·rw[List.getElem?_append_left hj] at hy
    rw[List.getElem?_append_left (by omega)] at hb
    refine(T.nodes j y b hy hb).keep (B:=fun k=>k<h.size/\k≠t.block/\∀q,lb=some q->q.block≠k) ⟨by omega,fun k hk o e hlp=>?_⟩ jr fun k hk mA=>⟨hk,fun e=>?_,fun q e e2=>?_⟩
    ·rw[kk k (by omega) hk.2.1 hk.2.2,tK.2 k hk.1];exact e
    ·rw[e,T.kj] at mA;rcases mA with h1 | h1 | h1 <;> cases h1
    ·have:=B8 q e;rw[e2] at this;rw[this] at mA;rcases mA with h1 | h1 | h1 <;> cases h1
   ·have hjn:j=ns.length:=by
     have:=(List.getElem?_eq_some_iff.1 hy).1
     simp at this;omega
    subst hjn
    rw[List.getElem?_append_right (Nat.le_refl _),Nat.sub_self] at hy
    rw[<-hlen,List.getElem?_append_right (Nat.le_refl _),Nat.sub_self] at hb
    simp at hy hb
    subst hy;subst hb
    have Ui:Var h4 a1 84 (mG x ab an ac none 0 0):=by
     have e:mG x ab an ac none 0 0=[.int .u8 x.kind,.int .u8 x.space,S x.name,.slice ab an ac,S x.text,.slice none 0 0,.int .i64 (-1),.slice none 0 0]:=by unfold mG;rw[yN]
     rw[e]
     refine⟨v1.is,?_⟩
     rw[kk a1.block (by omega) (by omega) (fun q e=>by have:=jQ q e;omega),(KB.w k2).2 a1.block v1.lt _ v1.cells rfl]
    refine⟨⟨ab,an,ac,none,0,0,Ui,?_,hz,by rw[Lj];exact fB.none _,fun q e=>by cases e⟩,?_,hx.1,hx.2,by rw[yN];exact⟨by decide,by decide⟩,hfa,Xx,Iv⟩
    ·refine ra.keep (B:=fun k=>col k=none/\k<h.size) ⟨by omega,fun k hk o e hlp=>?_⟩ fun k hk hs=>⟨by rw[jr k hs];exact hk.1,by omega⟩
     have hk:col k=none/\k<h.size:=hk.1
     rw[kk k (by omega) (fun e2=>by rw[e2,T.kj] at hk;cases hk.1) (fun q e2 e3=>by have:=B8 q e2;rw[e3,hk.1] at this;cases this),tK.2 k hk.2];exact e
    ·show(if _ then _ else _)=_
     rw[if_pos (by omega)]
  ·show(if _ then _ else _)=_
   rw[if_neg (by omega),pn (h':=h3) hb3 (by omega)]
   exact T.fresh k (by omega)
 ·obtain⟨BZ,yg⟩:=hk
  rw[k4.2 k (fun e=>yg 0 (by rw[e];exact T.kj)),g3.vM k (by omega) (fun q e e2=>yg 1 (by rw[<-e2];exact B8 q e))]
  exact tK.2 k BZ
 ·show(if _ then _ else _)=_
  rw[if_neg (by omega),eJ (by omega)]
theorem j9 (T:bz h col s t cp ns) {kd sp:Int} {nm tx:Bs} {ab kb:OA} {an ac kn kc:Nat} {attrs:List bw} {A:Nat->Prop} (r:Row aY A h ab an ac attrs) (hz:ab=none->ac=0) (JI:an<=1000000) (Zj:bd .u8 kd) (hsp:bd .u8 sp) (Pp:nm.length<=maxLen) (Zk:tx.length<=maxLen) (lI:ns.length<1000000)
  (hk:∀h' col' pc,bz h' col' s t pc (bE ns (bF kd sp nm attrs tx)).1->Ext s h col h' col'->K (.int .i64 (bE ns (bF kd sp nm attrs tx)).2) h'):
  zC 66 [.pointer (some t),.agg ⟨[.int .u8 kd,.int .u8 sp,S nm,.slice ab an ac,S tx,.slice kb kn kc]⟩] h K:=by
 have hl:=r.len
 refine XH.ok _ _ _ _ _ _ _ _ _ _ _ _ _ (af fun x3 h1 v1 k1 e1 s1=>⟨_,v1.cell 0 rfl,?_⟩)
 have plain:∀kd',kd'=kd->(kd=2∨kd=3)->XH.rZ (some t) x3 true (fun z0 z3 h=>XH.n3 z0 z3 (fun y4 h=>K (.int .i64 y4) h) (fun y4 h=>K (.int .i64 y4) h) h) (fun z0 z3 h=>XH.n3 z0 z3 (fun y4 h=>K (.int .i64 y4) h) (fun y4 h=>K (.int .i64 y4) h) h) (fun y4 h=>K (.int .i64 y4) h) h1:=by
  intro kd' _ e23
  have eb:bF kd sp nm attrs tx=some ⟨kd,0,[],[],tx, -1,[]⟩:=by unfold bF;rw[if_neg (by omega),if_pos e23]
  rw[eb] at hk
  refine aD ⟨_,v1.cell 0 rfl,_,v1.cell 4 rfl,aQ v1 (Nat.le_refl 6) fun h2 v2 k2 s2=>?_⟩
  have kk:KB h h2:=KB.step k1 k2 (by omega)
  exact Li (x:=⟨kd,0,[],[],tx, -1,[]⟩) (T.kb kk) ⟨Zj,(show bd .u8 0 from⟨by decide,by decide⟩)⟩ rfl rfl (Nat.zero_le _) (Nat.zero_le _) Zk lI v2 ⟨rfl,rfl,rfl⟩ ⟨rfl,Nat.le_refl _,Nat.zero_le _,fun i x hx=>by simp at hx⟩ (fun _=>rfl) fun h' col' pc T' e'=>hk h' col' pc T' ((Ext.kb kk).trans e')
 refine bf (fun e=>?_) fun e=>?_
 ·have eb:bF kd sp nm attrs tx=some ⟨kd,sp,nm,attrs,[], -1,[]⟩:=by unfold bF;rw[if_pos e]
  rw[eb] at hk
  refine aD ⟨_,v1.cell 0 rfl,_,v1.cell 1 rfl,_,v1.cell 2 rfl,_,_,_,v1.cell 3 rfl,sI (r.JC.keep ((KB.w k1).less fun k hk=>hk.2) (B':=fun _=>True) fun _ _ _=>trivial) hz JI fun b2 c2 h2 o2 k2=>aH ⟨k2.ext,aQ (v1.kb k2) (Nat.le_refl 6) fun h3 v3 k3 s3=>?_⟩⟩
  have kk:KB h h3:=KB.step (k1.trans k2) k3 (by omega)
  have o3:bH aY h3 h1.size 67 b2 an c2 attrs:=o2.wZ k3 gK fun g hg=>by omega
  exact Li (x:=⟨kd,sp,nm,attrs,[], -1,[]⟩) (T.kb kk) ⟨Zj,hsp⟩ rfl rfl (by show attrs.length<=_;omega) Pp (Nat.zero_le _) lI v3 ⟨rfl,rfl,rfl⟩ (De o3 fun k hk=>T.fresh k (by omega)) o3.nil fun h' col' pc T' e'=>hk h' col' pc T' ((Ext.kb kk).trans e')
 ·refine aC (bf (fun e2=>plain kd rfl (.inl e2)) fun e2=>bf (fun e3=>plain kd rfl (.inr e3)) fun e3=>aC ?_)
  have eb:bF kd sp nm attrs tx=none:=by unfold bF;rw[if_neg e,if_neg (by omega)]
  rw[eb] at hk
  exact hk h1 col cp (T.kb k1) (Ext.kb k1)
def bg (ns:List ay) (id:Int):List ay × Int:=
 if 0<=id/\id<ns.length then bE ns ((ns[id.toNat]?).bind fun x=>bF x.kind x.space x.name x.attrs x.text) else(ns, -1)
end
def jo (ns:List ay) (i:Int):Int:=((ns[i.toNat]?).map (·.parent)).getD (-1)
def dR (ns:List ay):Nat->Int->List Int
 | 0,_=>[]
 | f+1,i=>if 0<=i then i::dR ns f (jo ns i) else []
def sw (ns:List ay):Nat->Int->Prop
 | 0,i=>i<0
 | f+1,i=>i<0∨sw ns f (jo ns i)
def nW (ns:List ay) (id of:Int):Prop:=∃f,of ∈ dR ns f id
noncomputable def cq (ns:List ay) (id of:Int):Bool:=@decide (nW ns id of) (Classical.propDecidable _)
theorem tO {ns:List ay} {i:Int} (h:i<0):∀f,dR ns f i=[]
 | 0=>rfl
 | f+1=>by unfold dR;rw[if_neg (by omega)]
theorem zJ {ns:List ay}:∀{N:Nat} {i:Int},sw ns N i->∀f x,x ∈ dR ns f i->x ∈ dR ns N i
 | 0,i,h,f,x,hx=>by rw[tO h] at hx;exact hx
 | N+1,i,h,0,x,hx=>by cases hx
 | N+1,i,h,f+1,x,hx=>by
  unfold dR at hx ⊢
  split at hx
  ·rename_i h0
   rw[if_pos h0]
   rcases List.mem_cons.1 hx with rfl | hx
   ·exact List.mem_cons_self ..
   ·exact List.mem_cons_of_mem _ (zJ (h.resolve_left (by omega)) f x hx)
  ·cases hx
theorem G2 {ns:List ay} {N:Nat} {i x:Int} (h:sw ns N i):nW ns i x↔x ∈ dR ns N i:=⟨fun⟨f,hf⟩=>zJ h f x hf,fun h=>⟨N,h⟩⟩
structure aV (ns:List ay):Prop where
 par:∀(i:Nat) x,ns[i]? =some x->x.parent= -1∨(0<=x.parent/\x.parent<ns.length)
 kT:∀(i:Nat) x (k:Int),ns[i]? =some x->(k ∈ x.kids↔∃(j:Nat) (y:ay),k=(j:Int)/\ns[j]? =some y/\y.parent=(i:Int))
 nodup:∀(i:Nat) x,ns[i]? =some x->x.kids.Nodup
 CW:∃rk:Nat->Nat,∀(i p:Nat) x,ns[i]? =some x->x.parent=(p:Int)->rk p<rk i
 root:∃x,ns[0]? =some x/\x.parent= -1
theorem aV.ends {ns:List ay} (G:aV ns) {rk:Nat->Nat} (hr:∀(i p:Nat) x,ns[i]? =some x->x.parent=(p:Int)->rk p<rk i):∀(f:Nat) (i:Nat),rk i<f->sw ns f (i:Int)
 | 0,i,h=>by omega
 | f+1,i,h=>by
  right
  unfold jo
  rw[Int.toNat_natCast]
  cases hx:ns[i]? with
  | none=>
   show sw ns f (-1)
   cases f with
   | zero=>show(-1:Int)<0;omega
   | succ f=>exact .inl (by omega)
  | some x=>
   show sw ns f x.parent
   rcases G.par i x hx with h1 | ⟨h1,h2⟩
   ·rw[h1]
    cases f with
    | zero=>show(-1:Int)<0;omega
    | succ f=>exact .inl (by omega)
   ·obtain⟨p,hp⟩:=Int.eq_ofNat_of_zero_le h1
    have hp:x.parent=(p:Int):=hp
    rw[hp]
    exact G.ends hr f p (by have:=hr i p x hx hp;omega)
theorem aV.Lk {ns:List ay} (G:aV ns) (i:Int):∃N,sw ns N i:=by
 obtain⟨rk,hr⟩:=G.CW
 rcases Int.lt_or_le i 0 with h | h
 ·exact⟨0,h⟩
 ·obtain⟨k,hk⟩:=Int.eq_ofNat_of_zero_le h
  exact⟨rk k+1,by rw[hk];exact G.ends hr _ k (by omega)⟩
theorem _root_.Go.Sh.bH.rowAt {α:Type} {E:El α} (hf:Flat E) {h h':H} {base e n c:Nat} {b:OA} {l:List α} {B:Nat->Prop} (o:bH E h base e b n c l) (k:bZ B h h') (hb:∀q,b=some q->B q.block):Row E (fun _=>True) h' b n c l:=by
 obtain⟨xs,h1,h2⟩:=o.own.own
 exact Row.of (eH.flat hf h2) (h1.keep k fun g e _ _=>hb _ e).cells o.own.len h1.cap h1.max fun _ _=>trivial
theorem Pq:Flat wY:=fun _ _ _ _ _ _ h=>h
theorem w7 {D:Nat} {Pv Rd:Nat->Prop} {rd:Round} {done:H->Prop} (Inv:List (List Value)->H->Prop) (hz:∀xs h h1,Inv xs h->jV Pv (D+1) h h1->Inv xs h1)
  (hs:∀x xs h1 Kc,Inv (x::xs) h1->(∀hb h',tC Rd hb h'->Inv xs h'->Kc hb h')->
   rd x (fun he p=>tC Rd h1 he/\∀h2,jV Pv (D+1) he h2->p h2) Kc (fun hb h' p=>tC Rd hb h'/\∀h4,jV Pv (D+1) h' h4->dp D h4->p h4) h1)
  (hd:∀h1,Inv [] h1->dp D h1->done h1):∀(xs:List (List Value)) (h:H),Inv xs h->rounds D Pv Rd rd done xs h
 | [],h,hi=>fun h1 hn ho=>hd h1 (hz _ _ _ hi hn) ho
 | x::xs,h,hi=>fun h1 hn=>hs x xs h1 _ (hz _ _ _ hi hn) fun hb h' hk hi'=>⟨hk,w7 Inv hz hs hd xs h' hi'⟩
theorem FH {L:Nat} {args:Array Value} {h:H} {next:KV}:fQ Tryz.prog 4 (.func (.yield L) ⟨[]⟩ ⟨[]⟩) args h next=tS Tryz.prog L ⟨args.toList⟩ h fun v h'=>au v fun b=>cond b (next (.bool true) h') (next (.bool false) h'):=by kernel_rfl
section
variable {h:H} {K:KV} {col:bY} {s i:Nat} {t a1 a2:Addr} {cp:List Addr} {ns:List ay} {x:ay}
abbrev Df (col:bY) (s:Nat):Nat->Prop:=fun k=>∃p,col k=some (s,p)
theorem Ll (T:bz h col s t cp ns) {h':H} {B:Nat->Prop} (k:bZ B h h') (hB:∀k,Df col s k->B k) {i:Nat} (hx:ns[i]? =some x) {Q:Int->Prop} (hq:Q x.parent):
  ∃b n c,cell h' (t.add 0)=some (.slice b n c)/\((0<=(i:Int)/\(i:Int)<(n:Int))/\ae b fun sJ=>∃p19,cell h' (sJ.add (Int.toNat (i:Int)*1))=some (.pointer p19)/\ae p19 fun a20=>∃i21,cell h' (a20.add 6)=some (.int .i64 i21)/\Q i21):=by
 obtain⟨lb,lc,v,o,hl⟩:=T.ex
 have cR:=(List.getElem?_eq_some_iff.1 hx).1
 have hlen:=T.len
 have r:=o.rowAt Pq k fun q e=>hB _ ⟨_,hl q e⟩
 refine⟨lb,_,lc,(v.keep k (hB _ ⟨_,T.kj⟩)).cell 0 rfl,r.bj (i:=i) (by omega) rfl fun a hA=>zD hA (aa ?_)⟩
 have N:=T.nodes i x cp[i] hx (List.getElem?_eq_getElem (by omega))
 obtain⟨ab,an,ac,kb,kn,kc,vn,_⟩:=N.ex
 exact⟨_,(vn.keep k (hB _ ⟨_,N.col⟩)).cell 6 rfl,hq⟩
theorem Dg (T:bz h col s t cp ns) {t1 t2:Nat} {id:Int} {N:Nat} (hid:id<ns.length) (vL:∀j:Nat,∀y,ns[j]? =some y->y.parent<ns.length/\ -1<=y.parent) (yF:sw ns N id) (v1:Var h a1 t1 [.int .i64 id]) (v2:Var h a2 t2 [.pointer (some t)]) (bL:a1.block≠a2.block) (B7:col a1.block=none):
  Hj Tryz.prog (.func (.func 213) ⟨[]⟩ ⟨[.pointer (some a1),.pointer (some a2)]⟩) h ((dR ns N id).map fun i=>[.int .i64 i]) (fun k=>k=a1.block) (fun k=>Df col s k∨k=a1.block∨k=a2.block):=by
 refine⟨213,_,_,rfl,fun args w=>by kernel_rfl,fun L J Stop h2 hn hJ hS hY hj=>?_⟩
 refine Uj.ok (.func (.yield L) ⟨[]⟩ ⟨[]⟩) a1 a2 _ _ ⟨N+1,?_⟩
 have key:∀(E:Uj.T0),(∀h3,J [] h3∨Stop h3->E h3)->∀(N:Nat) (id:Int) h',id<ns.length->sw ns N id->bZ (fun k=>Df col s k∨k=a2.block) h h'->Var h' a1 t1 [.int .i64 id]->J ((dR ns N id).map fun i=>[.int .i64 i]) h'->
   Uj.Pr E E E (N+1) (.func (.yield L) ⟨[]⟩ ⟨[]⟩) a1 a2 h':=by
  intro E hE N
  induction N with
  | zero=>
   intro id h' hid yF hk hv hj
   unfold Uj.Pr
   exact⟨_,hv.dA rfl,cg (by have:id<0:=yF;omega) (hE _ (.inl hj))⟩
  | succ N ih=>
   intro id h' hid yF hk hv hj
   unfold Uj.Pr
   refine⟨_,hv.dA rfl,bf (fun h0=>⟨_,hv.dA rfl,?_⟩) fun h0=>?_⟩
   ·obtain⟨i,rfl⟩:=Int.eq_ofNat_of_zero_le (show 0<=id by omega)
    have cR:i<ns.length:=by have:=hid;simp at this;omega
    have hx:ns[i]? =some ns[i]:=List.getElem?_eq_getElem cR
    have yN:jo ns (i:Int)=ns[i].parent:=by unfold jo;rw[Int.toNat_natCast,hx];rfl
    unfold dR at hj
    rw[if_pos (by omega),List.map_cons,yN] at hj
    have Zm:sw ns N ns[i].parent:=by
     rcases yF with h1 | h1
     ·have:(i:Int)<0:=h1;omega
     ·have h1:sw ns N (jo ns (i:Int)):=h1
      rw[yN] at h1;exact h1
    rw[FH]
    refine fun w uB=>?_
    obtain⟨fn,tmps,assign,body,ku,Bl⟩:=hY _ _ _ hj w uB
    refine⟨fn,tmps,assign,body,ku,Bl.mono ?_⟩
    rintro e w' ⟨v,he,ho,mA⟩
    refine⟨v,he,ho,?_⟩
    rcases mA with ⟨rfl,Zn,FI⟩ | ⟨rfl,hS,FI⟩
    ·have kk:bZ (fun k=>Df col s k∨k=a2.block) h w'.heap:=bZ.trans hk (bZ.less FI.keep fun k (hk:Df col s k∨k=a2.block)=>by rcases hk with h | h;exact .inl h;exact .inr (.inr h))
     have Lm:Var w'.heap a1 t1 [.int .i64 (i:Int)]:=hv.keep FI.keep (.inr (.inl rfl))
     have v2':=v2.keep kk (.inr rfl)
     obtain⟨b,n,c,e1,e2,e3⟩:=Ll (Q:=fun q=>bc a1 [.int .i64 q] 0 w'.heap fun mB=>Uj.Pr E E E (N+1) (.func (.yield L) ⟨[]⟩ ⟨[]⟩) a1 a2 mB) T kk (fun k hk=>.inl hk) hx (aQ Lm (Nat.le_refl 1) fun h3 v3 k3 s3=>by
      refine ih ns[i].parent h3 (vL i _ hx).1 Zm (bZ.trans kk (k3.w.less fun k hk e=>?_)) v3 (hJ _ _ _ Zn ⟨k3.1,fun b o e hp=>?_⟩)
      ·rcases hk with ⟨p,hp⟩ | hk
       ·rw[e,B7] at hp;cases hp
       ·exact bL (e.symm.trans hk)
      ·by_cases hb:b=a1.block
       ·have h1:=hp hb
        rw[hb,Lm.cells] at e;cases e;cases h1
       ·rw[k3.2 b hb];exact e)
     exact⟨_,v2'.dA rfl,aa ⟨b,n,c,e1,_,Lm.dA rfl,e2,e3⟩⟩
    ·exact hE _ (.inr hS)
   ·rw[tO (by omega)] at hj
    exact hE _ (.inl hj)
 exact key _ (fun h3 hh=>hh) N id h2 hid yF ⟨hn.1,fun b hb o e hl=>hn.2 b o e (fun x=>x) fun _=>hl⟩ (v1.kw hn.kw) hj
theorem w8 {L g:Nat} {h h1:H} {a:Addr} {t:Nat} {cs:List Value} (v:Var h a t cs) (n:jV (fun k=>k=g) L h h1) (hg:a.block≠g):Var h1 a t cs:=⟨v.is,n.2 _ _ v.cells hg fun _=>rfl⟩
theorem Ln {L g:Nat} {h0 h h1:H} (k:KB h0 h) (n:jV (fun k=>k=g) L h h1) (hg:h0.size<=g) (hL:h0.size<=L):KB h0 h1:=
 ⟨Nat.le_trans k.1 n.1,fun b hb=>by
  have e:=k.2 b hb
  have IN:b<h0.size:=hb
  rw[Array.getElem?_eq_getElem IN] at e ⊢
  exact n.2 b _ e (by omega) fun e2=>by omega⟩
theorem Lo {h0 h:H} {D t:Nat} {a:Addr} {cs:List Value} {Q:H->Prop} (hd:dp D h) (k:KB h0 h) (hD:h0.size<=D) (v:Var h a t cs) (hk:∀h',KB h0 h'->Var h' a t cs->Q h'):dE [cu D] h Q:=
 ⟨hd,hk _ (k.leave hD) (v.kw ((KW.refl h).leave hd))⟩
theorem unI {p:Int} {k:Int->Prop} (h:k p):aG ((fun i:Int=>[Value.int .i64 i]) p) fun e l=>aL .i64 e fun i=>cW l (k i):=show aL .i64 (.int .i64 p) fun i=>k i from aO h
theorem sB (T:bz h col s t cp ns) (G:aV ns) {id of:Int} (hid:id<ns.length) (hk:∀h',KB h h'->K (.bool (cq ns id of)) h'):zC 140 [.pointer (some t),.int .i64 id,.int .i64 of] h K:=by
 obtain⟨N,yF⟩:=G.Lk id
 refine Xaz.ok _ _ _ _ _ (af fun x5 h1 v1 k1 e1 s1=>af fun x6 h2 v2 k2 e2 s2=>Xav.ok _ _ _ _ (af fun a2 h3 v3 k3 e3 s3=>af fun a1 h4 v4 k4 e4 s4=>?_))
 have nU:KB h h4:=((k1.trans k2).trans k3).trans k4
 have T4:=T.kb nU
 have vL:∀j:Nat,∀y,ns[j]? =some y->y.parent<ns.length/\ -1<=y.parent:=fun j y hy=>by
  rcases G.par j y hy with h | h <;> omega
 have v5:Var h4 x5 3 [.int .i64 of]:=((v1.kb k2).kb k3).kb k4
 have v6:Var h4 x6 4 [.bool false]:=(v2.kb k3).kb k4
 have fin:∀h5 (b:Bool),KB h h5->dp h4.size h5->Var h5 x6 4 [.bool b]->b=cq ns id of->dE [cu h4.size] h5 fun h=>∃b62,cell h x6=some (.bool b62)/\K (.bool b62) h:=fun h5 b k5 hd v e=>
  Lo hd k5 (by omega) v fun h6 k6 v6=>⟨b,v6.dA rfl,by rw[e];exact hk h6 k6⟩
 refine⟨(dR ns N id).map fun i=>[.int .i64 i],fun k=>k=a1.block,_,Dg T4 hid vL yF v4 (v3.kb k4) (by omega) (T.fresh _ (by omega)),(fun x hx=>by obtain⟨z,_,rfl⟩:=List.mem_map.1 hx;rfl),
  w7 (fun xs h'=>KB h h'/\Var h' x5 3 [.int .i64 of]/\Var h' x6 4 [.bool false]/\∃l:List Int,xs=l.map (fun i=>[.int .i64 i])/\(nW ns id of↔of ∈ l)/\∀i ∈ l,bd .i64 i)
   ?_ ?_ ?_ _ _ ⟨nU,v5,v6,dR ns N id,rfl,G2 yF,?_⟩⟩
 ·rintro xs h5 h6 ⟨k5,w5,w6,l,e,hl,hr⟩ n
  exact⟨Ln k5 n (by omega) (by omega),w8 w5 n (by omega),w8 w6 n (by omega),l,e,hl,hr⟩
 ·rintro x xs h5 Kc ⟨k5,w5,w6,l,e,hl,hr⟩ Lp
  cases l with
  | nil=>cases e
  | cons p l=>
   cases e
   refine unI ?_
   unfold Xaz.Sc
   refine⟨tC.refl _ _,fun h6 n6=>?_⟩
   have k6:=Ln k5 n6 (by omega) (by omega)
   have w5':=w8 w5 n6 (by omega)
   have w6':=w8 w6 n6 (by omega)
   refine⟨_,w5'.dA rfl,bf (fun ep=>aQ w6' (Nat.le_refl 1) fun h7 v7 k7 s7=>⟨KX.kp w6' k7 fun e=>?_,fun h8 n8 hd=>?_⟩) fun ep=>Lp h6 h6 (tC.refl _ _) ⟨k6,w5',w6',l,rfl,?_,fun i hi=>hr i (List.mem_cons_of_mem _ hi)⟩⟩
   ·rcases e with ⟨q,hq⟩ | e | e
    ·rw[T.fresh _ (by omega)] at hq;cases hq
    ·omega
    ·omega
   ·have k7':KB h h7:=KB.step k6 k7 (by omega)
    refine fin h8 true (Ln k7' n8 (by omega) (by omega)) hd (w8 v7 n8 (by omega)) ?_
    unfold cq
    rw[@decide_eq_true (nW ns id of) (Classical.propDecidable _) (hl.2 (by rw[ep];exact List.mem_cons_self ..))]
   ·rw[hl,List.mem_cons]
    exact⟨fun h=>h.resolve_left (fun e=>ep e.symm),.inr⟩
 ·rintro h5 ⟨k5,w5,w6,l,e,hl,hr⟩ hd
  cases l with
  | cons p l=>cases e
  | nil=>
   refine aQ w6 (Nat.le_refl 1) fun h7 v7 k7 s7=>fin h7 false (KB.step k5 k7 (by omega)) (w6.dp k7 hd) v7 ?_
   unfold cq
   rw[@decide_eq_false (nW ns id of) (Classical.propDecidable _) (fun h=>by have:=hl.1 h;cases this)]
 ·have hf:=T.mQ
  have:∀(N:Nat) (id:Int),id<ns.length->∀i ∈ dR ns N id,bd .i64 i:=by
   intro N
   induction N with
   | zero=>intro id _ i hi;cases hi
   | succ N ih=>
    intro id hid i hi
    unfold dR at hi
    split at hi
    ·rcases List.mem_cons.1 hi with rfl | hi
     ·exact lJ (by omega) (by omega)
     ·refine ih _ ?_ i hi
      unfold jo
      cases hx:ns[id.toNat]? with
      | none=>show(-1:Int)<_;omega
      | some y=>exact(vL _ y hx).1
    ·cases hi
  exact this N id hid
end
def cutAt (ns:List ay) (i:Nat) (x:ay) (p:Nat) (y:ay):List ay:=
 (ns.set p {y with kids:=y.kids.eraseIdx (bj (i:Int) y.kids)}).set i {x with parent:= -1}
def eC (ns:List ay) (id:Int):List ay × Bool:=
 if 0<=id/\id<ns.length then
  match ns[id.toNat]? with
  | none=>(ns,false)
  | some x=>if x.parent<0 then(ns,false) else
   match ns[x.parent.toNat]? with
   | none=>(ns,false)
   | some y=>(cutAt ns id.toNat x x.parent.toNat y,true)
 else(ns,false)
def dU (ns:List ay) (id:Int):Bool:=decide (0<=id/\id<ns.length)&&((ns[id.toNat]?).map fun x=>decide (id=0∨x.kind=1)).getD false
def putAt (ns:List ay) (p:Nat) (before:Int) (i:Nat):List ay:=
 match ns[p]? with
 | none=>ns
 | some y=>
  match (ns.set p {y with kids:=y.kids.take (fg y.kids before).toNat++(i:Int)::y.kids.drop (fg y.kids before).toNat})[i]? with
  | none=>ns
  | some x=>(ns.set p {y with kids:=y.kids.take (fg y.kids before).toNat++(i:Int)::y.kids.drop (fg y.kids before).toNat}).set i {x with parent:=(p:Int)}
noncomputable def cV (ns:List ay) (parent before id:Int):List ay × Bool:=
 if dU ns parent=true/\(0<=id/\id<ns.length)/\id≠0/\before≠id/\0<=fg (((ns[parent.toNat]?).map (·.kids)).getD []) before/\cq ns parent id=false then
  (putAt (eC ns id).1 parent.toNat before id.toNat,true)
 else(ns,false)
theorem dv {α:Type} {l:List α} {i:Nat} {x:α} (h:l[i]? =some x):i<l.length:=(List.getElem?_eq_some_iff.1 h).1
section
variable {h:H} {K:KV} {col:bY} {s i:Nat} {t a:Addr} {cp:List Addr} {ns:List ay} {x:ay}
theorem KY (T:bz h col s t cp ns) (ha:cp[i]? =some a) (hx:ns[i]? =some x) {p:Int} (hp:bd .i64 p) {Q:H->Prop}
  (hk:∀h',bz h' col s t cp (ns.set i {x with parent:=p})->Ext s h col h' col->KX a.block h h'->Q h'):bc (a.add 6) [.int .i64 p] 0 h Q:=by
 have N:=T.nodes i x a hx ha
 obtain⟨ab,an,ac,kb,kn,kc,v,ra,hz,ok,oG⟩:=N.ex
 refine cv (m:=6) (i:=0) v (by show 6+0+1<=8;omega) fun h1 v1 k1 s1=>?_
 have v1:Var h1 a 84 (mG {x with parent:=p} ab an ac kb kn kc):=v1
 have R9:=v.lt
 refine hk h1 (T.upd ha (k1.less fun k hk e=>?_) (fun _ _=>rfl) (fun k hk=>T.fresh k (by omega)) ⟨⟨ab,an,ac,kb,kn,kc,v1,ra.keep (k1.w.less fun k hk e=>?_) (fun k hk hs=>⟨hk.1,by omega⟩),hz,ok.keep k1.w fun q e e2=>?_,oG⟩,N.col,N.rk,N.rs,hp,N.fa,N.fn,N.ft⟩) ⟨k1.less fun k hk e=>?_,fun _ _=>rfl⟩ k1
 ·rw[e] at hk;exact(hk.2 _ N.col).1 rfl
 ·rw[e] at hk;have:=hk.1.1;rw[N.col] at this;cases this
 ·have h1:=oG q e;rw[e2,N.col] at h1;have:=(Prod.mk.inj (Option.some.inj h1)).2;omega
 ·rw[e] at hk;exact hk.2 _ N.col
theorem Ud (T:bz h col s t cp ns) (ha:cp[i]? =some a) (hx:ns[i]? =some x) {tx:Bs} (Fb:tx.length<=maxLen) {Q:H->Prop}
  (hk:∀h',bz h' col s t cp (ns.set i {x with text:=tx})->Ext s h col h' col->Q h'):bc ((a.add 0).add 4) [S tx] 0 h Q:=by
 have N:=T.nodes i x a hx ha
 obtain⟨ab,an,ac,kb,kn,kc,v,ra,hz,ok,oG⟩:=N.ex
 rw[add_zero']
 refine cv (m:=4) (i:=0) v (by show 4+0+1<=8;omega) fun h1 v1 k1 s1=>?_
 have v1:Var h1 a 84 (mG {x with text:=tx} ab an ac kb kn kc):=v1
 have R9:=v.lt
 refine hk h1 (T.upd ha (k1.less fun k hk e=>?_) (fun _ _=>rfl) (fun k hk=>T.fresh k (by omega)) ⟨⟨ab,an,ac,kb,kn,kc,v1,ra.keep (k1.w.less fun k hk e=>?_) (fun k hk hs=>⟨hk.1,by omega⟩),hz,ok.keep k1.w fun q e e2=>?_,oG⟩,N.col,N.rk,N.rs,N.rp,N.fa,N.fn,Fb⟩) ⟨k1.less fun k hk e=>?_,fun _ _=>rfl⟩
 ·rw[e] at hk;exact(hk.2 _ N.col).1 rfl
 ·rw[e] at hk;have:=hk.1.1;rw[N.col] at this;cases this
 ·have h1:=oG q e;rw[e2,N.col] at h1;have:=(Prod.mk.inj (Option.some.inj h1)).2;omega
 ·rw[e] at hk;exact hk.2 _ N.col
theorem vO (T:bz h col s t cp ns) (ha:cp[i]? =some a) (hx:ns[i]? =some x) {ab kb:OA} {an ac kn kc:Nat} (v:Var h a 84 (mG x ab an ac kb kn kc)) (ra:Row aY (bT col h) h ab an ac x.attrs) (hz:ab=none->ac=0) (oG:∀q,kb=some q->col q.block=some (s,2*i+3))
  {h1:H} (g:dW h h1 kb) {b':OA} {n' c':Nat} {l':List Int} (o:fB h1 b' n' c' l') (nb:Fu h kb b') {Q:H->Prop}
  (hk:∀h' col',bz h' col' s t cp (ns.set i {x with kids:=l'})->Ext s h col h' col'->Q h'):bc (a.add 7) [.slice b' n' c'] 0 h1 Q:=by
 have N:=T.nodes i x a hx ha
 have R9:=v.lt
 have ib:=g.size
 have Zo:∀q,kb=some q->q.block≠a.block:=fun q e e2=>by have h1:=oG q e;rw[e2,N.col] at h1;have:=(Prod.mk.inj (Option.some.inj h1)).2;omega
 have v0:Var h1 a 84 (mG x ab an ac kb kn kc):=v.keep g.keep.w ⟨R9,Zo⟩
 refine cv (m:=7) (i:=0) v0 (by show 7+0+1<=8;omega) fun h2 v2 k2 s2=>?_
 have v2:Var h2 a 84 (mG {x with kids:=l'} ab an ac b' n' c'):=v2
 have jr:∀k,k<h.size->cz col h b' (s,2*i+3) k=col k:=fun k hk=>eJ hk
 have hba:∀q,b'=some q->q.block≠a.block:=fun q e e2=>by
  rcases nb q e with h1 | h1
  ·exact Zo q h1 e2
  ·omega
 have kk:∀k,k<h.size->k≠a.block->(∀q,kb=some q->q.block≠k)->h2[k]? =h[k]? :=fun k h1 u0 h3=>(k2.2 k u0).trans (g.vM k h1 h3)
 have Uk:∀k,h2.size<=k->cz col h b' (s,2*i+3) k=none:=fun k hk=>by
  rw[pn (h':=h1) (fun q e=>o.hi q e) (by omega)];exact T.fresh k (by omega)
 refine hk h2 (cz col h b' (s,2*i+3)) (T.upd ha ⟨by omega,fun k hk=>?_⟩ jr Uk ⟨⟨ab,an,ac,b',n',c',v2,?_,hz,o.keep k2.w fun q e=>hba q e,fun q e=>?_⟩,?_,N.rk,N.rs,N.rp,N.fa,N.fn,N.ft⟩) ⟨⟨by omega,fun k hk=>?_⟩,jr⟩
 ·exact kk k hk.1 (fun e=>(hk.2 _ (by rw[e];exact N.col)).1 rfl) fun q e e2=>(hk.2 _ (by rw[<-e2];exact oG q e)).2 rfl
 ·refine ra.keep ⟨by omega,fun k hk o e hl=>?_⟩ fun k hk hs=>⟨by rw[jr k hs];exact hk.1,by omega⟩
  have hk:col k=none/\k<h.size:=hk.1
  rw[kk k hk.2 (fun e2=>by rw[e2,N.col] at hk;cases hk.1) (fun q e2 e3=>by have:=oG q e2;rw[e3,hk.1] at this;cases this)];exact e
 ·refine nq e fun cR=>?_
  rcases nb q e with h1 | h1
  ·exact oG q h1
  ·omega
 ·rw[jr _ R9];exact N.col
 ·exact kk k hk.1 (fun e=>hk.2 _ (by rw[e];exact N.col)) fun q e e2=>hk.2 _ (by rw[<-e2];exact oG q e)
theorem aV.tM (G:aV ns) {i p:Nat} {x:ay} (hx:ns[i]? =some x) (hp:x.parent=(p:Int)):i≠p:=fun e=>by
 obtain⟨rk,hr⟩:=G.CW
 have:=hr i p x hx hp
 rw[e] at this;omega
theorem Hk {kids:List Int} {i:Nat} (h:(i:Int) ∈ kids):fg kids (i:Int)=(bj (i:Int) kids:Int):=by
 unfold fg Bc
 rw[if_neg (by omega),if_pos h]
theorem IE (T:bz h col s t cp ns) (G:aV ns) {id:Int} (hk:∀h' col',bz h' col' s t cp (eC ns id).1->Ext s h col h' col'->K (.bool (eC ns id).2) h'):
  zC 141 [.pointer (some t),.int .i64 id] h K:=by
 have hlen:=T.len
 refine Xao.ok _ _ _ _ (jc T (fun hn=>cL (cw (by kernel_rfl) (ag (aD ?_)))) fun i a x e hx ha=>cL (cw (by kernel_rfl) (ag (aC ?_))))
 ·have:eC ns id=(ns,false):=by unfold eC;rw[if_neg hn]
  rw[this] at hk
  exact hk h col T (Ext.refl _ _ _)
 ·subst e
  have cR:=dv hx
  have N:=T.nodes i x a hx ha
  obtain⟨ab,an,ac,kb,kn,kc,v,ra,hz,ok,oG⟩:=N.ex
  have ec:eC ns (i:Int)=if x.parent<0 then(ns,false) else match ns[x.parent.toNat]? with | none=>(ns,false) | some y=>(cutAt ns i x x.parent.toNat y,true):=by
   unfold eC
   rw[if_pos (by omega),Int.toNat_natCast,hx]
  refine aa ⟨_,v.cell 6 rfl,bf (fun e=>?_) fun e=>?_⟩
  ·rw[ec,if_pos e] at hk
   exact hk h col T (Ext.refl _ _ _)
  ·rcases G.par i x hx with h1 | ⟨h1,h2⟩
   ·omega
   obtain⟨p,hp⟩:=Int.eq_ofNat_of_zero_le h1
   have hp:x.parent=(p:Int):=hp
   have qq:p<ns.length:=by omega
   have hy:ns[p]? =some ns[p]:=List.getElem?_eq_getElem qq
   rw[ec,if_neg e,hp,Int.toNat_natCast,hy] at hk
   obtain⟨lb,lc,vt,o,hl⟩:=T.ex
   have bL:=G.tM hx hp
   have iZ:(i:Int) ∈ ns[p].kids:=(G.kT p _ _ hy).2 ⟨i,x,rfl,hx,hp⟩
   have bQ:=pO iZ
   refine aa ⟨_,_,_,vt.cell 0 rfl,aa ⟨_,v.cell 6 rfl,?_⟩⟩
   rw[hp]
   have B6:cp[p]? =some (cp[p]'(by omega)):=List.getElem?_eq_getElem (by omega)
   generalize cp[p]'(by omega)=ap at B6
   have Np:=T.nodes p _ ap hy B6
   obtain⟨XD,O5,XE,Xo,RL,Xp,v2,R8,pN,Iw,O6⟩:=Np.ex
   have dJ:=Iw.len
   refine o.row.bj (i:=p) (by omega) rfl fun q hA=>zD hA ?_
   have eap:cp[p]'(by omega)=ap:=by rw[List.getElem?_eq_getElem (by omega)] at B6;exact Option.some.inj B6
   rw[eap]
   refine hH Np (aO (aa ⟨_,_,_,v2.cell 7 rfl,?_⟩))
   rw[Hk iZ]
   have ei:((bj (i:Int) ns[p].kids:Int)+1)=((bj (i:Int) ns[p].kids+1:Nat):Int):=by omega
   have TZ:=Iw.own.max
   have hcp:=Iw.own.cap
   simp only[maxLen] at TZ
   rw[ei]
   refine⟨lJ (by omega) (by omega),FD Iw (by omega) fun h3 o3 g3=>aH (aa (vO T B6 hy v2 R8 pN O6 g3 o3 (fun q e=>.inl e) fun h4 fL T4 E4=>aa ?_))⟩
   refine KY T4 ha (by rw[List.getElem?_set_ne (Ne.symm bL)];exact hx) ⟨by decide,by decide⟩ fun h5 T5 E5 _=>hk h5 fL T5 (E4.trans E5)
end
end Go.Proofs
