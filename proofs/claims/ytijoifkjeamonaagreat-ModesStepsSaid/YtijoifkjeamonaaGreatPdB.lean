import Derived.Test.YtijoifkjeamonaaGreatHc
import Derived.Test.YtijoifkjeamonaaGreatDrF
import Derived.Test.YtijoifkjeamonaaGreatTxF
import Derived.Test.YtijoifkjeamonaaGreatTxG
import Derived.Test.YtijoifkjeamonaaGreatMsK
import Derived.Test.YtijoifkjeamonaaGreatTxK
namespace Go.Proofs
open Go Go.Sh
set_option linter.unusedVariables false
set_option maxRecDepth 100000
section
variable {A B:Nat->Prop} {h:H} {b b2:OA} {n c n2 c2:Nat} {ns:List Bs} {s row:Bs} {x:aP}
theorem jg (r:Row cN A h b n c ns) {K:KV} (hk:K (.bool (bn ns s)) h):zC 174 [.slice b n c,S s] h K:=by
 refine Xeb.ok _ _ _ _ _ _ ?_
 have hl:=r.len
 have hm:n<=maxLen:=Nat.le_trans r.cap r.max
 simp only[maxLen] at hm
 refine⟨n+1,?_⟩
 have key:∀k i,i+k=n->(∀j (h1:j<ns.length),j<i->ns[j]≠s)->
   Xeb.cQ (fun h=>K (.bool false) h) (fun h=>K (.bool false) h) (fun y4 h=>K (.bool y4) h) (k+1) b n c s (i:Int) h:=by
  intro k
  induction k with
  | zero=>
   intro i hi bm
   refine cg (by omega) ?_
   have:bn ns s=false:=decide_eq_false fun hm=>by
    obtain⟨j,hj,e⟩:=List.mem_iff_getElem.1 hm
    exact absurd e (bm j hj (by omega))
   rwa[this] at hk
  | succ k ih=>
   intro i hi bm
   refine bK (by omega) (r.bj (i:=i) (by omega) rfl fun a hA=>Of hA fun _=>bf (fun e=>?_) fun e=>⟨aF (by omega) (by omega),ih (i+1) (by omega) fun j h1 hj=>?_⟩)
   ·have:bn ns s=true:=decide_eq_true (by rw[<-e];exact List.getElem_mem _)
    rwa[this] at hk
   ·by_cases e2:j<i
    ·exact bm j h1 e2
    ·have:j=i:=by omega
     subst this
     exact e
 exact key n 0 (by omega) fun j _ hj=>absurd hj (Nat.not_lt_zero _)
theorem jN (r:Row cN A h b n c ns) {K:KV} (hk:∀h',KB h h'->K (.bool (ju x ns)) h'):zC 181 [.agg ⟨aW x⟩,.slice b n c] h K:=by
 refine Xec.ok _ _ _ _ _ _ _ _ _ (af fun a h1 v1 k1 _ _=>⟨_,v1.cell 1 rfl,bf (fun e=>⟨_,v1.cell 2 rfl,jg (r.kb k1) (ag (dm (K:=fun b=>K (.bool b) h1) ?_))⟩) fun e=>?_⟩)
 ·have:=hk h1 k1
  unfold ju at this;rwa[decide_eq_true e,Bool.true_and] at this
 ·have:=hk h1 k1
  unfold ju at this;rwa[decide_eq_false e,Bool.false_and] at this
end
section
variable {A B:Nat->Prop} {h:H} {b b2:OA} {n c n2 c2:Nat} {l:List aP} {ns:List Bs} {s:Bs} {sc:Int}
theorem oU (r:Row bo A h b n c l) (rn:Row cN B h b2 n2 c2 ns) {K:KV} (hk:∀h',KB h h'->K (.int .i64 (bP l ns)) h'):
  zC 132 [.slice b n c,.slice b2 n2 c2] h K:=by
 refine Xd9.ok _ _ _ _ _ _ _ _ ?_
 have qF:=r.len
 have hm:n<=maxLen:=Nat.le_trans r.cap r.max
 simp only[maxLen] at hm
 refine⟨aF (by omega) (by omega),n+1,?_⟩
 have key:∀i h5,i<=n->KB h h5->eV (iR ns) (-1) l i=bP l ns->
   Xd9.cQ (fun h=>K (.int .i64 (-1)) h) (fun h=>K (.int .i64 (-1)) h) (fun y6 h=>K (.int .i64 y6) h) (i+1) b n c b2 n2 c2 ((i:Int) - 1) h5:=by
  intro i
  induction i with
  | zero=>
   intro h5 _ k5 e
   refine cg (by omega) ?_
   have:=hk h5 k5
   rw[<-e] at this;exact this
  | succ i ih=>
   intro h5 hi k5 e
   have bQ:i<l.length:=by omega
   have hx:((i+1:Nat):Int) - 1=(i:Int):=by omega
   rw[hx]
   unfold eV at e
   rw[aJ bQ] at e
   have r5:=r.kb k5
   refine bK (by omega) (r5.bj bQ rfl fun a hA=>cT hA fun _=>jN (rn.kb k5) fun h6 k6=>ag (aR (fun ht=>?_) fun hf=>⟨aF (by omega) (by omega),ih h6 (by omega) (k5.trans k6) ?_⟩))
   ·rw[show iR ns i l[i]=some (i:Int) by unfold iR;rw[if_pos ht]] at e
    have:=hk h6 (k5.trans k6)
    rw[<-e] at this;exact this
   ·rw[show iR ns i l[i]=none by unfold iR;rw[if_neg (by rw[hf];simp)]] at e
    exact e
 exact key n h (Nat.le_refl _) (KB.refl h) (by rw[<-qF];rfl)
end
theorem Q2:oH Tryz.prog QF 176 5 1:=kr (sz:=1) (by kernel_rfl) rfl
theorem Jv:∀c:Fin 256,65<=c.val->c.val<=90->IntKind.wrap .u8 ((c.val:Int)+32)=((c.val+32:Nat):Int):=by decide+kernel
theorem Q3 {c:UInt8} (h1:65<=c.toNat) (h2:c.toNat<=90):IntKind.wrap .u8 ((c.toNat:Int)+32)=((ti c).toNat:Int):=by
 have:=Jv ⟨c.toNat,c.toNat_lt⟩ h1 h2
 rw[this]
 unfold ti
 rw[if_pos ⟨h1,h2⟩]
 have h3:(c+32).toNat=c.toNat+32:=by
  rw[UInt8.toNat_add]
  show(c.toNat+32) % 256=_
  exact Nat.mod_eq_of_lt (by omega)
 rw[h3]
theorem An {c:UInt8} (h:¬(65<=c.toNat/\c.toNat<=90)):ti c=c:=if_neg h
section
variable {h:H} {K:KV}
theorem xZ {s:Bs} (hs:s.length<=100000000) (hk:∀h',KB h h'->K (S (oC s)) h'):zC 204 [S s] h K:=by
 refine SN.ok _ _ _ ⟨s.length+1,?_⟩
 have key:∀k i h2 ob oc,i+k=s.length->bH QF h2 h.size 5 ob i oc (oC (s.take i))->KB h h2->
   SN.ia (fun M6 M7 M8 h=>SN.n4 M6 M7 M8 (fun y2 h=>K (S y2) h) (fun y2 h=>K (S y2) h) h) (fun M6 M7 M8 h=>SN.n4 M6 M7 M8 (fun y2 h=>K (S y2) h) (fun y2 h=>K (S y2) h) h) (fun y2 h=>K (S y2) h) (k+1) s ob i oc (i:Int) h2:=by
  intro k
  induction k with
  | zero=>
   intro i h2 ob oc hi o k2
   refine cg (by omega) ?_
   rw[List.take_of_length_le (by omega)] at o
   exact HV Tryz.underlying176 Tryz.underlying5 Tryz.underlying9 o.row (Bn (hk h2 k2))
  | succ k ih=>
   intro i h2 ob oc hi o k2
   have bQ:i<s.length:=by omega
   have hg:(List.getD s (Int.toNat (i:Int)) 0)=s[i]:=by rw[Int.toNat_natCast];exact aJ bQ
   have jF:oC (s.take (i+1))=oC (s.take i)++ [ti s[i]]:=by
    unfold oC
    rw[List.take_add_one,List.getElem?_eq_getElem bQ,List.map_append];rfl
   have one:∀v:Int,v=((ti s[i]).toNat:Int)->aw h2 #[(.int .u8 v)] 5 fun Gy lX=>aZ Tryz.prog (Builtin.append_ #[176,176] 176 ⟨[(.slice ob i oc),(.slice (some Gy) 1 1)]⟩) lX fun Mz yq=>aB Mz fun VG VH VI=>bd .i64 ((i:Int)+1)/\SN.ia (fun M6 M7 M8 h=>SN.n4 M6 M7 M8 (fun y2 h=>K (S y2) h) (fun y2 h=>K (S y2) h) h) (fun M6 M7 M8 h=>SN.n4 M6 M7 M8 (fun y2 h=>K (S y2) h) (fun y2 h=>K (S y2) h) h) (fun y2 h=>K (S y2) h) (k+1) s VG VH VI ((i:Int)+1) yq:=by
    intro v hv
    subst hv
    refine Dk Q2 (x:=ti s[i]) (cs:=[.int .u8 ((ti s[i]).toNat:Int)]) (fun A h=>rfl) o k2.1 (by simp only[maxLen];omega) (by omega) fun b' c' h' o' k'=>aH ⟨aF (by omega) (by omega),?_⟩
    exact ih (i+1) h' b' c' (by omega) (by rw[jF];exact o') (SK.trans k2 (k'.less fun q hq=>⟨Nat.lt_of_lt_of_le hq k2.1,fun a ea e2=>by have:=o.lo a ea;have hq:q<h.size:=hq;omega⟩))
   refine bK (by omega) ⟨⟨by omega,by omega⟩,?_⟩
   rw[hg]
   refine bf (fun e1=>bf (fun e2=>one _ (Q3 (by omega) (by omega))) fun e2=>one _ ?_) fun e1=>one _ ?_
   ·rw[An (by omega)]
   ·rw[An (by omega)]
 exact key s.length 0 h none 0 (by omega) (bH.none _ _ _) (KB.refl h)
end
section
variable {A:Nat->Prop} {h:H} {K:KV} {b:OA} {n c:Nat} {attrs:List bw} {sp tk:Int} {nm tx:Bs} {cl:Bool}
theorem ya (r:Row aY A h b n c attrs) (hv:rB attrs) (hk:∀h',KB h h'->K (.int .u8 (dr sp nm attrs)) h'):
  zC 163 [.int .u8 sp,.agg ⟨[.int .u8 tk,S nm,.slice b n c,.bool cl,S tx]⟩] h K:=by
 refine Oz.ok _ _ _ _ _ _ _ _ _ _ (af fun a h1 v1 k1 e1 s1=>⟨_,v1.cell 1 rfl,?_⟩)
 have r1:=r.kb k1
 have hl:=r1.len
 have TZ:n<=maxLen:=Nat.le_trans r.cap r.max
 simp only[maxLen] at TZ
 have res:∀v h',KB h h'->dr sp nm attrs=v->K (.int .u8 v) h':=fun v h' k' e=>by rw[<-e];exact hk h' k'
 refine bf (fun e1=>aD ?_) fun e1=>aC (bf (fun e2=>aD ?_) fun e2=>aC ?_)
 ·have yes:nm ∈ FC->K (.int .u8 2) h1:=fun hm=>res 2 h1 k1 (by
   unfold dr
   rw[if_pos ⟨e1,by unfold ct bn;rw[if_neg (by decide),if_neg (by decide),if_pos rfl];exact decide_eq_true hm⟩])
  refine bf (fun e=>yes (by rw[e];decide)) fun e3=>bf (fun e=>yes (by rw[e];decide)) fun e4=>bf (fun e=>yes (by rw[e];decide)) fun e5=>res 0 h1 k1 ?_
  have dk:¬(sp=1/\ct 1 nm=true):=fun h=>by
   have h2:=h.2
   unfold ct bn at h2
   rw[if_neg (by decide),if_neg (by decide),if_pos rfl] at h2
   have hm:=of_decide_eq_true h2
   simp only[FC,List.mem_cons,List.not_mem_nil,or_false] at hm
   rcases hm with h | h | h
   ·exact e3 h
   ·exact e4 h
   ·exact e5 h
  unfold dr
  rw[if_neg dk,if_pos (fun h=>by omega)]
 ·have dk:¬(sp=1/\ct 1 nm=true):=fun h=>by omega
  have spec:ct 2 nm=bn qT nm:=rfl
  have yes:nm ∈ qT->nm≠Gq->K (.int .u8 1) h1:=fun hm bL=>res 1 h1 k1 (by
   unfold dr
   rw[if_neg dk,if_neg (fun h=>h ⟨e2,by rw[spec];exact decide_eq_true hm⟩),if_pos bL])
  refine bf (fun e=>yes (by rw[e];decide) (by rw[e];decide)) fun e3=>bf (fun e=>yes (by rw[e];decide) (by rw[e];decide)) fun e4=>bf (fun e=>yes (by rw[e];decide) (by rw[e];decide)) fun e5=>bf (fun e=>yes (by rw[e];decide) (by rw[e];decide)) fun e6=>bf (fun e=>yes (by rw[e];decide) (by rw[e];decide)) fun e7=>?_
  have only:nm ∈ qT->nm=Gq:=fun hm=>by
   simp only[qT,List.mem_cons,List.not_mem_nil,or_false] at hm
   rcases hm with h | h | h | h | h | h
   ·exact h
   ·exact absurd h e3
   ·exact absurd h e4
   ·exact absurd h e5
   ·exact absurd h e6
   ·exact absurd h e7
  have zero:(nm=Gq->attrs.any gx=false)->dr sp nm attrs=0:=fun hz=>by
   unfold dr
   rw[if_neg dk]
   by_cases hm:nm ∈ qT
   ·have e:=only hm
    rw[if_neg (fun h=>h ⟨e2,by rw[spec];exact decide_eq_true hm⟩),if_neg (fun h=>h e),if_neg (by rw[hz e];decide)]
   ·rw[if_pos (fun h=>by have:=h.2;rw[spec] at this;exact hm (of_decide_eq_true this))]
  refine⟨n+1,?_⟩
  have key:∀k i h2,i+k=n->(nm=Gq->(attrs.take i).any gx=false)->KB h1 h2->
    Oz.G8 (fun h=>Oz.n4 (fun y4 h=>K (.int .u8 y4) h) (fun y4 h=>K (.int .u8 y4) h) h) (fun h=>Oz.n4 (fun y4 h=>K (.int .u8 y4) h) (fun y4 h=>K (.int .u8 y4) h) h) (fun h=>Oz.n4 (fun y4 h=>K (.int .u8 y4) h) (fun y4 h=>K (.int .u8 y4) h) h) (fun y4 h=>K (.int .u8 y4) h) (k+1) a nm (i:Int) h2:=by
   intro k
   induction k with
   | zero=>
    intro i h2 hi Wf k2
    refine⟨_,_,_,(v1.kb k2).cell 2 rfl,cg (by omega) (res 0 h2 (k1.trans k2) (zero fun e=>?_))⟩
    have:=Wf e
    rwa[List.take_of_length_le (by omega)] at this
   | succ k ih=>
    intro i h2 hi Wf k2
    have bQ:i<attrs.length:=by omega
    refine⟨_,_,_,(v1.kb k2).cell 2 rfl,bK (by omega) (bf (fun ea=>?_) fun ea=>res 0 h2 (k1.trans k2) (zero fun e=>absurd e ea))⟩
    have ea:nm=Gq:=ea
    refine⟨_,_,_,(v1.kb k2).cell 2 rfl,(r1.kb k2).bj (i:=i) bQ rfl fun q hA=>⟨_,hA.snd.str.1,xZ (hv _ (List.getElem_mem bQ)) fun h3 k3=>Bn ?_⟩⟩
    have Nc:=k2.trans k3
    refine⟨_,_,_,(v1.kb Nc).cell 2 rfl,(r1.kb Nc).bj (i:=i) bQ rfl fun q2 oT=>⟨_,oT.fst.str.1,?_⟩⟩
    have jF:(attrs.take (i+1)).any gx=gx attrs[i]:=by
     rw[List.take_add_one,List.getElem?_eq_getElem bQ,List.any_append,Wf ea]
     simp
    have next:gx attrs[i]=false->bd .i64 ((i:Int)+1)/\Oz.G8 (fun h=>Oz.n4 (fun y4 h=>K (.int .u8 y4) h) (fun y4 h=>K (.int .u8 y4) h) h) (fun h=>Oz.n4 (fun y4 h=>K (.int .u8 y4) h) (fun y4 h=>K (.int .u8 y4) h) h) (fun h=>Oz.n4 (fun y4 h=>K (.int .u8 y4) h) (fun y4 h=>K (.int .u8 y4) h) h) (fun y4 h=>K (.int .u8 y4) h) (k+1) a nm ((i:Int)+1) h3:=fun he=>
     ⟨aF (by omega) (by omega),ih (i+1) h3 (by omega) (fun _=>by rw[jF];exact he) Nc⟩
    have aaP:gx attrs[i]=true->K (.int .u8 2) h3:=fun he=>res 2 h3 (k1.trans Nc) (by
     unfold dr
     rw[if_neg dk,if_neg (fun h=>h ⟨e2,by rw[spec,ea];decide⟩),if_neg (fun h=>h ea),if_pos (List.any_eq_true.2 ⟨_,List.getElem_mem bQ,he⟩)])
    refine bf (fun e1=>bf (fun e2=>aaP ?_) fun e2=>bf (fun e3=>aaP ?_) fun e3=>next ?_) fun e1=>next ?_
    ·unfold gx
     rw[decide_eq_true (show attrs[i].1=Gp from e1),decide_eq_true (show oC attrs[i].2=wTH from e2)];rfl
    ·unfold gx
     rw[decide_eq_true (show attrs[i].1=Gp from e1),decide_eq_true (show oC attrs[i].2=wXH from e3),Bool.or_true];rfl
    ·unfold gx
     rw[decide_eq_false (show¬oC attrs[i].2=wTH from e2),decide_eq_false (show¬oC attrs[i].2=wXH from e3)];simp
    ·unfold gx
     rw[decide_eq_false (show¬attrs[i].1=Gp from e1)];rfl
  exact key n 0 h1 (by omega) (fun _=>rfl) (KB.refl _)
 ·refine res 0 h1 k1 ?_
  unfold dr
  rw[if_neg (fun h=>e1 h.1),if_pos (fun h=>e2 h.1)]
end
section
variable {h:H} {K:KV} {col:bY} {s s0:Nat} {w t:Addr} {ns:List ay} {op:List aP} {mk:List aS} {fo:Bool} {hi:Int} {x:aP}
theorem uf (T:dD h col s t ns) (G:aV ns) {id:Int} (hk:K (.int .i64 (gP ns id)) h):zC 133 [.pointer (some t),.int .i64 id] h K:=by
 have eI:id<0->jo ns id= -1:=fun h=>by
  obtain⟨r,hr,e⟩:=G.root
  unfold jo
  rw[Int.toNat_of_nonpos (by omega),hr]
  exact e
 have e:gP ns id=jo ns id:=by
  unfold gP
  by_cases h0:0<=id
  ·rw[if_pos h0];rfl
  ·rw[if_neg h0,eI (by omega)]
 rw[e] at hk
 exact MZ T hk eI
theorem eU (W:bq h col s 58 w t op mk fo hi) (bL:0<op.length) (hl:op.length<=1000000) (hk:∀h',KB h h'->K (.agg ⟨aW (dP op)⟩) h'):
  zC 59 [.pointer (some w)] h K:=by
 obtain⟨ob,oc,mb,mn,mc,v,o,om⟩:=W.ex
 have e:((op.length:Int) - 1)=((op.length - 1:Nat):Int):=by omega
 refine Xem.ok _ _ _ (af fun a1 h1 v1 k1 e1 s1=>aa ⟨_,_,_,(v.kb k1).cell 1 rfl,aa ⟨_,_,_,(v.kb k1).cell 1 rfl,aF (by omega) (by omega),?_⟩⟩)
 rw[e]
 have hx:op[op.length - 1]'(by omega)=dP op:=(aJ (by omega)).symm
 exact(o.kb k1).row.bj (i:=op.length - 1) (by omega) rfl fun q hA=>cT hA fun ow=>aQ v1 (by show 4<=4;omega) fun h2 v2 k2 s2=>gY (m:=op[op.length - 1]'(by omega)) v2 (by rw[hx];exact hk h2 (KB.step k1 k2 (by omega)))
theorem im (T:dD h col s0 t ns) (G:aV ns) (W:bq h col s 58 w t op mk fo hi) (hl:op.length<=1000000) (hk:∀h',KB h h'->K (.tuple ⟨[.int .i64 (cy ns op fo x).1,.int .i64 (cy ns op fo x).2]⟩) h'):
  zC 58 [.pointer (some w),.agg ⟨aW x⟩] h K:=by
 obtain⟨ob,oc,mb,mn,mc,v,o,om⟩:=W.ex
 refine Xer.ok _ _ _ _ _ _ _ (af fun a1 h1 v1 k1 e1 s1=>?_)
 have res:∀p h',KB h h'->cy ns op fo x=p->K (.tuple ⟨[.int .i64 p.1,.int .i64 p.2]⟩) h':=fun p h' k' e=>by rw[<-e];exact hk h' k'
 have k3:∀g:Bool,g=bn uT x.2.2.1->Xer.n3 (some w) a1 g (fun y4 y5 h=>K (.tuple ⟨[(.int .i64 y4),(.int .i64 y5)]⟩) h) (fun y4 y5 h=>K (.tuple ⟨[(.int .i64 y4),(.int .i64 y5)]⟩) h) h1:=by
  intro g hg
  have no:(fo&&th x)=false->∃i,cell h1 (a1.add 0)=some (.int .i64 i)/\K (.tuple ⟨[(.int .i64 i),(.int .i64 (-1))]⟩) h1:=fun e=>⟨_,v1.cell 0 rfl,res (x.1, -1) h1 k1 (by unfold cy;rw[e];rfl)⟩
  refine aa ⟨_,(v.kb k1).cell 3 rfl,aR (fun ef=>⟨_,v1.cell 1 rfl,bf (fun esp=>aR (fun eg=>?_) fun eg=>no ?_) fun esp=>no ?_⟩) fun ef=>no (by rw[ef];rfl)⟩
  ·-- in the table
   have hgr:(fo&&th x)=true:=by unfold th;rw[ef,<-hg,eg,decide_eq_true (show x.2.1=0 from esp)];rfl
   refine aa ⟨_,_,_,(v.kb k1).cell 1 rfl,af fun a3 h3 v3 k3 e3 s3=>?_⟩
   have gi:=k1.trans k3
   refine oU (o.kb gi).row (iM (ws:=fH) v3 (by decide) (by decide)) fun h4 k4=>aO ?_
   have nU:=gi.trans k4
   have v4:=v.kb nU
   have o4:=(o.kb nU).row
   have hru: -1<=bP op fH/\bP op fH<(op.length:Int):=pF fH op op.length
   refine bf (fun eI=>res (0, -1) h4 nU (by unfold cy;rw[if_pos hgr,if_pos eI])) fun qv=>?_
   have Zd:(bP op fH).toNat<op.length:=by omega
   have Fk:op[(bP op fH).toNat]=op.getD (bP op fH).toNat aI:=(aJ Zd).symm
   refine aa ⟨_,v4.cell 0 rfl,aa ⟨_,_,_,v4.cell 1 rfl,o4.idx (i:=bP op fH) (by omega) (by omega) rfl fun q hi hA=>⟨_,hA.fst.int.1,?_⟩⟩⟩
   rw[Fk]
   refine uf (T.kb nU) G (aO (bf (fun hp=>?_) fun hp=>?_))
   ·refine aa ⟨_,_,_,v4.cell 1 rfl,o4.idx (i:=bP op fH) (by omega) (by omega) rfl fun q hi hA=>⟨_,hA.fst.int.1,?_⟩⟩
    rw[Fk]
    exact res (gP ns (op.getD (bP op fH).toNat aI).1,(op.getD (bP op fH).toNat aI).1) h4 nU (by unfold cy;rw[if_pos hgr,if_neg qv,if_pos hp])
   ·have e:(if(0:Int)>(bP op fH - 1) then(0:Int) else(bP op fH - 1))=(((bP op fH).toNat - 1:Nat):Int):=by split <;> omega
    refine aa ⟨_,_,_,v4.cell 1 rfl,aF (by omega) (by omega),?_⟩
    rw[e]
    refine o4.bj (i:=(bP op fH).toNat - 1) (by omega) rfl fun q hA=>⟨_,hA.fst.int.1,?_⟩
    have hg3:op[(bP op fH).toNat - 1]'(by omega)=op.getD ((bP op fH).toNat - 1) aI:=(aJ (by omega)).symm
    rw[hg3]
    exact res ((op.getD ((bP op fH).toNat - 1) aI).1, -1) h4 nU (by unfold cy;rw[if_pos hgr,if_neg qv,if_neg hp])
  ·unfold th;rw[<-hg,eg];simp
  ·unfold th;rw[decide_eq_false (show¬x.2.1=0 from esp)];simp
 have yes:x.2.2.1 ∈ uT->true=bn uT x.2.2.1:=fun hm=>(decide_eq_true hm).symm
 refine⟨_,v1.cell 2 rfl,bf (fun e=>k3 _ (yes (by rw[e];decide))) fun e1=>⟨_,v1.cell 2 rfl,bf (fun e=>k3 _ (yes (by rw[e];decide))) fun e2=>⟨_,v1.cell 2 rfl,bf (fun e=>k3 _ (yes (by rw[e];decide))) fun e3=>⟨_,v1.cell 2 rfl,bf (fun e=>k3 _ (yes (by rw[e];decide))) fun e4=>⟨_,v1.cell 2 rfl,bf (fun e=>k3 _ (yes (by rw[e];decide))) fun e5=>k3 _ ?_⟩⟩⟩⟩⟩
 refine(decide_eq_false fun hm=>?_).symm
 simp only[uT,List.mem_cons,List.not_mem_nil,or_false] at hm
 rcases hm with h | h | h | h | h
 ·exact e1 h
 ·exact e2 h
 ·exact e3 h
 ·exact e4 h
 ·exact e5 h
end
section
variable {A B:Nat->Prop} {h:H} {b b2:OA} {n c n2 c2:Nat} {ns:List Bs} {s row:Bs} {x:aP} {sc sp:Int}
theorem iB (ws:List Bs) {k:Nat} (hn:ws.length=k) (hs:tI ws=true) (hl:Nat.ble ws.length maxLen=true) {h':H} {a:Addr} {t:Nat} (v:Var h' a t (ws.map S)) {K:KV} (hk:K (.bool (bn ws s)) h'):zC 174 [.slice (some a) k k,S s] h' K:=by
 subst hn
 exact jg (iM v hs hl) hk
theorem gk {K:KV} (hk:∀h',KB h h'->K (.bool (ct sp s)) h'):zC 177 [.int .u8 sp,S s] h K:=by
 refine Xd8.ok _ _ _ _ (bf (fun e=>aD ?_) fun e=>aC <| bf (fun e2=>aD ?_) fun e2=>aC <| bf (fun e3=>?_) fun e3=>?_)
 ·refine af (cs:=Db.map S) fun a h1 v1 k1 _ _=>iB Db rfl (by decide+kernel) (by decide+kernel) v1 (ag (dm (K:=fun b=>K (.bool b) h1) ?_))
  have:=hk h1 k1
  unfold ct at this;rwa[if_pos e] at this
 ·refine af (cs:=qT.map S) fun a h1 v1 k1 _ _=>iB qT rfl (by decide+kernel) (by decide+kernel) v1 (ag (dm (K:=fun b=>K (.bool b) h1) ?_))
  have:=hk h1 k1
  unfold ct at this;rwa[if_neg e,if_pos e2] at this
 ·refine af (cs:=FC.map S) fun a h1 v1 k1 _ _=>iB FC rfl (by decide+kernel) (by decide+kernel) v1 (ag (dm (K:=fun b=>K (.bool b) h1) ?_))
  have:=hk h1 k1
  unfold ct at this;rwa[if_neg e,if_neg e2,if_pos e3] at this
 ·have:=hk h (KB.refl h)
  unfold ct at this;rwa[if_neg e,if_neg e2,if_neg e3] at this
theorem jx (ws:List Bs) {k:Nat} (hn:ws.length=k) (hs:tI ws=true) (hl:Nat.ble ws.length maxLen=true) {h':H} {a:Addr} {t:Nat} (v:Var h' a t (ws.map S)) {K:KV} (hk:∀h2,KB h' h2->K (.bool (ju x ws)) h2):
  zC 181 [.agg ⟨aW x⟩,.slice (some a) k k] h' K:=by
 subst hn
 exact jN (iM v hs hl) hk
end
theorem NS:oH Tryz.prog cN 104 9 16:=kr (sz:=1) (by kernel_rfl) rfl
section
variable {A B:Nat->Prop} {h:H} {b b2:OA} {n c n2 c2:Nat} {ns:List Bs} {s row:Bs} {x:aP} {sc sp:Int}
theorem rf (e:sc=3):eA x sc=ju x tP:=by unfold eA;rw[if_pos e]
theorem ri (e:sc≠3) (e2:x.2.1≠0):eA x sc=ct x.2.1 x.2.2.1:=by unfold eA;rw[if_neg e,if_pos e2]
theorem fx (e:sc≠3) (e2:x.2.1=0):eA x sc=(bn wW x.2.2.1||(decide (sc=1)&&bn pk x.2.2.1)||(decide (sc=2)&&bn gl x.2.2.1)):=by unfold eA;rw[if_neg e,if_neg (fun h=>h e2)]
theorem qf (e2:x.2.1=0):ju x ns=bn ns x.2.2.1:=by unfold ju;rw[decide_eq_true e2,Bool.true_and]
theorem BW (m:ML h) (hs:x.2.2.1.length<=9000000000000000000) {K:KV} (hk:∀h',KB h h'->K (.bool (eA x sc)) h'):zC 216 [.agg ⟨aW x⟩,.int .u8 sc] h K:=by
 refine SO.ok _ _ _ _ _ _ _ (af fun a h1 v1 k1 _ _=>?_)
 have last:∀h2,KB h1 h2->sc≠3->x.2.1=0->(decide (sc=1)&&bn pk x.2.2.1)=false->(decide (sc=2)&&bn gl x.2.2.1)=false->
   SO.n3 a (fun y4 h=>K (.bool y4) h) (fun y4 h=>K (.bool y4) h) h2:=fun h2 k2 e1 e2 e3 e4=>by
  refine⟨_,(v1.kb k2).cell 2 rfl,gq wW Pk (by decide+kernel) (by decide+kernel) ((m.kb k1).kb k2) hs (ag (dm (K:=fun b=>K (.bool b) h2) ?_))⟩
  have:=hk h2 (k1.trans k2)
  rwa[fx e1 e2,e3,e4,Bool.or_false,Bool.or_false] at this
 have second:∀h2,KB h1 h2->sc≠3->x.2.1=0->(decide (sc=1)&&bn pk x.2.2.1)=false->
   SO.JD sc a false (fun z2 z20 h=>SO.ui z2 z20 (fun z2 h=>SO.n3 z2 (fun y4 h=>K (.bool y4) h) (fun y4 h=>K (.bool y4) h) h) (fun z2 h=>SO.n3 z2 (fun y4 h=>K (.bool y4) h) (fun y4 h=>K (.bool y4) h) h) (fun y4 h=>K (.bool y4) h) h)
    (fun z2 h=>SO.n3 z2 (fun y4 h=>K (.bool y4) h) (fun y4 h=>K (.bool y4) h) h) (fun y4 h=>K (.bool y4) h) h2:=fun h2 k2 e1 e2 e3=>by
  refine bf (fun e=>gY (v1.kb k2) (af (cs:=gl.map S) fun a3 h3 v3 k3 _ _=>lF gl rfl (by decide+kernel) (by decide+kernel) v3 fun h4 k4=>ag (aR (fun ht=>?_) fun ht=>?_))) fun e=>last h2 k2 e1 e2 e3 (by rw[decide_eq_false e,Bool.false_and])
  ·rw[qf e2] at ht
   have:=hk h4 (((k1.trans k2).trans k3).trans k4)
   rwa[fx e1 e2,ht,decide_eq_true e,Bool.and_self,Bool.or_true] at this
  ·rw[qf e2] at ht
   exact last h4 ((k2.trans k3).trans k4) e1 e2 e3 (by rw[ht,Bool.and_false])
 refine bf (fun e=>gY v1 (af (cs:=tP.map S) fun a3 h3 v3 k3 _ _=>lF tP rfl (by decide+kernel) (by decide+kernel) v3 fun h4 k4=>ag (dm (K:=fun b=>K (.bool b) h4) ?_))) fun e=>⟨_,v1.cell 1 rfl,bf (fun e2=>?_) fun e2=>?_⟩
 ·have:=hk h4 ((k1.trans k3).trans k4)
  rwa[rf e] at this
 ·refine bf (fun e3=>gY v1 (af (cs:=pk.map S) fun a3 h3 v3 k3 _ _=>lF pk rfl (by decide+kernel) (by decide+kernel) v3 fun h4 k4=>ag (aR (fun ht=>?_) fun ht=>?_))) fun e3=>second h1 (KB.refl h1) e e2 (by rw[decide_eq_false e3,Bool.false_and])
  ·rw[qf e2] at ht
   have:=hk h4 ((k1.trans k3).trans k4)
   rwa[fx e e2,ht,decide_eq_true e3,Bool.and_self,Bool.or_true,Bool.true_or] at this
  ·rw[qf e2] at ht
   exact second h4 (k3.trans k4) e e2 (by rw[ht,Bool.and_false])
 ·refine⟨_,v1.cell 1 rfl,_,v1.cell 2 rfl,fJ (m.kb k1) hs (ag (dm (K:=fun b=>K (.bool b) h1) ?_))⟩
  have:=hk h1 k1
  rwa[ri e e2] at this
theorem vD (hs:x.2.2.1.length<=9000000000000000000) {K:KV} (hk:∀h',KB h h'->K (.bool (eA x sc)) h'):zC 205 [.agg ⟨aW x⟩,.int .u8 sc] h K:=by
 refine Xea.ok _ _ _ _ _ _ _ (af fun a h1 v1 k1 _ _=>?_)
 refine bf (fun e=>gY v1 (af (cs:=tP.map S) fun a3 h3 v3 k3 _ _=>jx tP rfl (by decide+kernel) (by decide+kernel) v3 fun h4 k4=>ag (dm (K:=fun b=>K (.bool b) h4) ?_))) fun e=>⟨_,v1.cell 1 rfl,bf (fun e2=>?_) fun e2=>⟨_,v1.cell 1 rfl,_,v1.cell 2 rfl,gk fun h2 k2=>ag (dm (K:=fun b=>K (.bool b) h2) ?_)⟩⟩
 ·have:=hk h4 ((k1.trans k3).trans k4)
  rwa[rf e] at this
 ·refine af (cs:=wW.map S) fun a2 h2 v2 k2 _ _=>?_
  have r2:Row cN (fun _=>True) h2 (some a2) 9 9 wW:=iM v2 (by decide+kernel) (by decide+kernel)
  have tK:=k1.trans k2
  refine bf (fun e3=>af (cs:=pk.map S) fun a3 h3 v3 k3 _ _=>?_) fun e3=>bf (fun e4=>af (cs:=gl.map S) fun a3 h3 v3 k3 _ _=>?_) fun e4=>⟨_,(v1.kb k2).cell 2 rfl,jg r2 (ag (dm (K:=fun b=>K (.bool b) h2) ?_))⟩
  ·have r3:Row cN (fun _=>True) h3 (some a3) 2 2 pk:=iM v3 (by decide+kernel) (by decide+kernel)
   refine Row.Ho NS (r2.kb k3) (.inr (by omega)) r3 (fun h=>by cases h) (by decide) (by decide) (fun h=>by cases h) fun c4 h4 _ o4 k4=>aH (cg (by omega) ⟨_,((v1.kb k2).kb (k3.trans k4)).cell 2 rfl,jg o4.row (ag (dm (K:=fun b=>K (.bool b) h4) ?_))⟩)
   have:=hk h4 ((tK.trans k3).trans k4)
   rw[fx e e2,decide_eq_true e3,decide_eq_false (by omega:¬sc=2)] at this
   have e5:bn (wW++pk) x.2.2.1=(bn wW x.2.2.1||(true&&bn pk x.2.2.1)||(false&&bn gl x.2.2.1)):=by
    unfold bn;simp
   rwa[e5]
  ·have r3:Row cN (fun _=>True) h3 (some a3) 1 1 gl:=iM v3 (by decide+kernel) (by decide+kernel)
   refine Row.Ho NS (r2.kb k3) (.inr (by omega)) r3 (fun h=>by cases h) (by decide) (by decide) (fun h=>by cases h) fun c4 h4 _ o4 k4=>aH ⟨_,((v1.kb k2).kb (k3.trans k4)).cell 2 rfl,jg o4.row (ag (dm (K:=fun b=>K (.bool b) h4) ?_))⟩
   have:=hk h4 ((tK.trans k3).trans k4)
   rw[fx e e2,decide_eq_false e3,decide_eq_true e4] at this
   have e5:bn (wW++gl) x.2.2.1=(bn wW x.2.2.1||(false&&bn pk x.2.2.1)||(true&&bn gl x.2.2.1)):=by
    unfold bn;simp
   rwa[e5]
  ·have:=hk h2 tK
   rwa[fx e e2,decide_eq_false e3,decide_eq_false e4,Bool.false_and,Bool.false_and,Bool.or_false,Bool.or_false] at this
 ·have:=hk h2 (k1.trans k2)
  rwa[ri e e2] at this
end
section
variable {A B:Nat->Prop} {h:H} {b b2:OA} {n c n2 c2:Nat} {l:List aP} {ns:List Bs} {s:Bs} {sc:Int}
theorem Q4 {p q:Nat} {RD:TB RT [.o p .r,.g q [.i .i64,.i .u8,.s,.i .u8]]} {Mid:H->(H->Prop)->Prop} {Kc:H->H->Prop} {Fin:H->H->(H->Prop)->Prop} {h1:H} {i:Int} {x:aP} (h:RD (.int .i64 i) x.1 x.2.1 x.2.2.1 x.2.2.2 Mid Kc Fin h1):
  dB [.o p .r,.g q [.i .i64,.i .u8,.s,.i .u8]] [.int .i64 i,.agg ⟨aW x⟩] RD fun K=>K Mid Kc Fin h1:=h
theorem nh (m:ML h) (hA:∀k,A k->k<h.size) (r:Row bo A h b n c l) (hl:∀x ∈ l,x.2.2.1.length<=9000000000000000000) (rn:Row cN B h b2 n2 c2 ns) {K:KV} (hk:∀h',KB h h'->K (.bool (kQ l sc ns)) h'):
  zC 191 [.slice b n c,.int .u8 sc,.slice b2 n2 c2] h K:=by
 refine Xcz.ok _ _ _ _ _ _ _ _ _ (af fun x1 h1 v1 k1 e1 s1=>af fun x2 h2 v2 k2 e2 s2=>af fun y h3 v3 k3 e3 s3=>iz fun a h4 va k4 ea=>?_)
 have rq:=(k1.trans k2).trans k3
 have jH:=rq.trans k4
 have r4:=r.kb jH
 refine qd (f:=IJ sc ns) (val:=.bool) (d:=false) (res:=kQ l sc ns) jH r4 hA va (v3.kb k4) (by omega) (by omega) rfl (fun i hi h5 Kc k5 uS lU BT=>Q4 (kK k5 (fun k hk=>?_) (Nat.le_refl _) fun ax hb kb vb=>?_)) (fun h' k' hd v=>vW hd k' jH.1 v fun lM Vv Vw=>⟨_,Vw.dA rfl,hk lM Vv⟩)
 ·rcases hk with hk | hk
  ·exact Nat.lt_of_lt_of_le (hA _ hk) jH.1
  ·rw[hk];exact va.lt
 ·have w2:=((v2.kb k3).kb k4).kb kb
  have w1:=(((v1.kb k2).kb k3).kb k4).kb kb
  refine gY vb ⟨_,_,_,w2.dA rfl,tg ((rn.kb jH).kb kb) fun h6 k6=>ag (aR (fun ht=>lU hb h6 true kb k6 (by unfold IJ;rw[if_pos ht])) fun hf=>gY (vb.kb k6) ⟨_,(w1.kb k6).dA rfl,BW (((m.kb jH).kb kb).kb k6) (hl _ (List.getElem_mem _)) fun h7 k7=>ag (aR (fun ht=>BT hb h7 kb (k6.trans k7) (by unfold IJ;rw[if_neg (by rw[hf];simp),if_pos ht])) fun XP=>uS hb h7 kb (k6.trans k7) (by unfold IJ;rw[if_neg (by rw[hf];simp),if_neg (by rw[XP];simp)]))⟩)⟩
theorem mY (r:Row bo A h b n c l) (hl:∀x ∈ l,x.2.2.1.length<=9000000000000000000) (rn:Row cN B h b2 n2 c2 ns) {K:KV} (hk:∀h',KB h h'->K (.bool (kQ l sc ns)) h'):
  zC 168 [.slice b n c,.int .u8 sc,.slice b2 n2 c2] h K:=by
 refine Xd6.ok _ _ _ _ _ _ _ _ _ ?_
 have qF:=r.len
 have hm:n<=maxLen:=Nat.le_trans r.cap r.max
 simp only[maxLen] at hm
 refine⟨aF (by omega) (by omega),n+1,?_⟩
 have key:∀i h5,i<=n->KB h h5->eV (IJ sc ns) false l i=kQ l sc ns->
   Xd6.cQ (fun h=>K (.bool false) h) (fun h=>K (.bool false) h) (fun y6 h=>K (.bool y6) h) (i+1) b n c sc b2 n2 c2 ((i:Int) - 1) h5:=by
  intro i
  induction i with
  | zero=>
   intro h5 _ k5 e
   refine cg (by omega) ?_
   have:=hk h5 k5
   rw[<-e] at this;exact this
  | succ i ih=>
   intro h5 hi k5 e
   have bQ:i<l.length:=by omega
   have hx:((i+1:Nat):Int) - 1=(i:Int):=by omega
   rw[hx]
   unfold eV at e
   rw[aJ bQ] at e
   have r5:=r.kb k5
   refine bK (by omega) (r5.bj bQ rfl fun a hA=>cT hA fun _=>jN (rn.kb k5) fun h6 k6=>ag (aR (fun ht=>?_) fun hf=>(r5.kb k6).bj bQ rfl fun a hA=>cT hA fun _=>vD (hl _ (List.getElem_mem _)) fun h7 k7=>ag (aR (fun hb=>?_) fun hb=>⟨aF (by omega) (by omega),ih h7 (by omega) ((k5.trans k6).trans k7) ?_⟩)))
   ·rw[show IJ sc ns i l[i]=some true by unfold IJ;rw[if_pos ht]] at e
    have:=hk h6 (k5.trans k6)
    rw[<-e] at this;exact this
   ·rw[show IJ sc ns i l[i]=some false by unfold IJ;rw[if_neg (by rw[hf];simp),if_pos hb]] at e
    have:=hk h7 ((k5.trans k6).trans k7)
    rw[<-e] at this;exact this
   ·rw[show IJ sc ns i l[i]=none by unfold IJ;rw[if_neg (by rw[hf];simp),if_neg (by rw[hb];simp)]] at e
    exact e
 exact key n h (Nat.le_refl _) (KB.refl h) (by rw[<-qF];rfl)
theorem mr (r:Row bo A h b n c l) {K:KV} (hk:∀h',KB h h'->K (.int .i64 (iv l s)) h'):
  zC 169 [.slice b n c,S s] h K:=by
 refine Xd5.ok _ _ _ _ _ _ ?_
 have qF:=r.len
 have hm:n<=maxLen:=Nat.le_trans r.cap r.max
 simp only[maxLen] at hm
 refine⟨n+1,?_⟩
 have key:∀i h5,i<=n->KB h h5->eV (fD s) 0 l i=iv l s->
   Xd5.cQ (fun z5 h=>Xd5.n4 z5 (fun y4 h=>K (.int .i64 y4) h) (fun y4 h=>K (.int .i64 y4) h) h) (fun z5 h=>Xd5.n4 z5 (fun y4 h=>K (.int .i64 y4) h) (fun y4 h=>K (.int .i64 y4) h) h) (fun y4 h=>K (.int .i64 y4) h) (i+1) b n c s (i:Int) h5:=by
  intro i
  induction i with
  | zero=>
   intro h5 _ k5 e
   refine cg (by omega) ?_
   have:=hk h5 k5
   rw[<-e] at this;exact this
  | succ i ih=>
   intro h5 hi k5 e
   have bQ:i<l.length:=by omega
   have hx:((i+1:Nat):Int) - 1=(i:Int):=by omega
   unfold eV at e
   rw[aJ bQ] at e
   have r5:=r.kb k5
   have stop:∀h8,KB h5 h8->fD s i l[i]=some ((i:Int)+1)->K (.int .i64 ((i+1:Nat):Int)) h8:=fun h8 k8 hn=>by
    rw[hn] at e
    have:=hk h8 (k5.trans k8)
    rw[<-e] at this
    rw[show((i+1:Nat):Int)=(i:Int)+1 by omega]
    exact this
   refine bK (by omega) ?_
   simp only[hx]
   refine⟨aF (by omega) (by omega),r5.bj bQ rfl fun a hA=>⟨_,(hA.snd.dt (k:=2) rfl).fst.str.1,bf (fun e2=>stop h5 (KB.refl _) (by unfold fD;rw[if_pos (.inr (.inl e2))])) fun e2=>⟨aF (by omega) (by omega),r5.bj bQ rfl fun a hA=>cT hA fun _=>af (cs:=II.map S) fun a8 h8 v8 k8 _ _=>jx II rfl (by decide+kernel) (by decide+kernel) v8 fun h9 k9=>ag (aR (fun ht=>⟨aF (by omega) (by omega),ih h9 (by omega) ((k5.trans k8).trans k9) ?_⟩) fun hf=>stop h9 (k8.trans k9) ?_)⟩⟩⟩
   ·have h1:l[i].2.1=0/\bn II l[i].2.2.1=true:=by unfold ju at ht;simpa using ht
    rw[show fD s i l[i]=none by
     unfold fD
     rw[if_neg]
     rintro(h | h | h)
     ·exact h h1.1
     ·exact e2 h
     ·rw[h1.2] at h;cases h] at e
    exact e
   ·unfold fD
    rw[if_pos]
    by_cases h0:l[i].2.1=0
    ·exact .inr (.inr (by unfold ju at hf;rw[decide_eq_true h0,Bool.true_and] at hf;exact hf))
    ·exact .inl h0
 exact key n h (Nat.le_refl _) (KB.refl h) (by rw[<-qF];rfl)
end
section
variable {A B:Nat->Prop} {h:H} {b b2:OA} {n c n2 c2:Nat} {l:List aS}
theorem jD {f:Value} {p:aS->Bool} (r:Row aX A h b n c l)
  (hf:∀x h1 b' n' c' (next:KV),x ∈ l->KB h h1->cI A h1 x b' n' c'->(∀h2,KB h1 h2->next (.bool (p x)) h2)->fQ Tryz.prog 4 f ⟨[.agg ⟨[.int .i64 x.1,S x.2.1,.slice b' n' c']⟩]⟩ h1 next)
  {K:KV} (hk:∀h',KB h h'->K (.int .i64 (cM l p)) h'):
  zC 193 [.slice b n c,f] h K:=by
 refine Xf7.ok _ _ _ _ _ _ ?_
 have hl:=r.len
 have hm:n<=maxLen:=Nat.le_trans r.cap r.max
 simp only[maxLen] at hm
 refine⟨n+1,?_⟩
 have key:∀k i h1,i+k=n->KB h h1->(∀j (h1:j<l.length),j<i->p l[j]=false)->
   Xf7.cQ (fun h=>K (.int .i64 (-1)) h) (fun h=>K (.int .i64 (-1)) h) (fun y4 h=>K (.int .i64 y4) h) (k+1) b n c f (n:Int) (i:Int) h1:=by
  intro k
  induction k with
  | zero=>
   intro i h1 hi k1 bm
   have:=hk h1 k1
   rw[mP fun j hj=>bm j hj (by omega)] at this
   exact cg (by omega) this
  | succ k ih=>
   intro i h1 hi k1 bm
   have bQ:i<l.length:=by omega
   refine bK (by omega) ((r.kb k1).bj bQ rfl fun a hA=>Gs hA fun b' n' c' hR=>hf _ h1 b' n' c' _ (List.getElem_mem _) k1 hR fun h2 k2=>?_)
   refine aR (fun hd=>?_) fun hd=>⟨aF (by omega) (by omega),ih (i+1) h2 (by omega) (k1.trans k2) fun j h1 hj=>?_⟩
   ·have:=hk h2 (k1.trans k2)
    rwa[mO bQ hd bm] at this
   ·by_cases e:j<i
    ·exact bm j h1 e
    ·have:j=i:=by omega
     subst this
     exact hd
 exact key n 0 h (by omega) (KB.refl h) fun j _ hj=>absurd hj (Nat.not_lt_zero _)
def bp (l:List aS) (id:Int):Int:=if id<0 then -1 else cM l fun m=>decide (m.1=id)
theorem rC {id:Int} (r:Row aX A h b n c l) {K:KV} (hk:∀h',KB h h'->K (.int .i64 (bp l id)) h'):zC 201 [.slice b n c,.int .i64 id] h K:=by
 refine Xa7.ok _ _ _ _ _ _ (af fun a1 h1 v1 k1 e1 _=>⟨id,v1.dA rfl,bf (fun hn=>?_) fun hn=>?_⟩)
 ·have:=hk h1 k1
  unfold bp at this
  rwa[if_pos hn] at this
 ·refine jD (p:=fun m=>decide (m.1=id)) (r.kb k1) (fun x h3 b' n' c' next hx k3 hR hnx=>?_) fun h' k'=>?_
  ·have e:fQ Tryz.prog 4 (.func (.func 221) ⟨[]⟩ ⟨[.pointer (some a1)]⟩) ⟨[.agg ⟨[.int .i64 x.1,S x.2.1,.slice b' n' c']⟩]⟩ h3 next=
     zC 221 [.agg ⟨[.int .i64 x.1,S x.2.1,.slice b' n' c']⟩,.pointer (some a1)] h3 fun v h'=>au v fun b=>cond b (next (.bool true) h') (next (.bool false) h'):=by kernel_rfl
   rw[e]
   refine Xa8.ok _ _ _ _ _ _ _ _ (af fun a4 h4 v4 k4 e4 _=>⟨_,v4.cell 0 rfl,_,((v1.kb k3).kb k4).dA rfl,?_⟩)
   have:=hnx h4 k4
   refine bf (fun e=>?_) fun e=>?_
   ·rw[decide_eq_true e] at this;exact this
   ·rw[decide_eq_false e] at this;exact this
  ·have:=hk h' (k1.trans k')
   unfold bp at this
   rwa[if_neg hn] at this
theorem gH {id:Int} (r:Row aX A h b n c l) {K:KV} (hk:K (.int .i64 (bp l id)) h):zC 171 [.slice b n c,.int .i64 id] h K:=by
 refine Xee.ok _ _ _ _ _ _ ?_
 have hl:=r.len
 have hm:n<=maxLen:=Nat.le_trans r.cap r.max
 simp only[maxLen] at hm
 refine⟨n+1,?_⟩
 have key:∀k i,i+k=n->(∀j (h1:j<l.length),j<i->decide (l[j].1=id)=false)->
   Xee.cQ (fun h=>K (.int .i64 (-1)) h) (fun h=>K (.int .i64 (-1)) h) (fun y4 h=>K (.int .i64 y4) h) (k+1) b n c id (i:Int) h:=by
  intro k
  induction k with
  | zero=>
   intro i hi bm
   refine cg (by omega) ?_
   have e:bp l id= -1:=by
    unfold bp
    rw[mP fun j hj=>bm j hj (by omega)]
    split <;> rfl
   rwa[e] at hk
  | succ k ih=>
   intro i hi bm
   have bQ:i<l.length:=by omega
   refine bK (by omega) (bf (fun hid=>r.bj bQ rfl fun a hA=>CU hA.fst fun _=>bf (fun hd=>?_) fun hd=>⟨aF (by omega) (by omega),ih (i+1) (by omega) fun j h1 hj=>?_⟩) fun hid=>?_)
   ·have e:bp l id=i:=by
     unfold bp
     rw[if_neg (by omega),mO bQ (decide_eq_true hd) bm]
    rwa[e] at hk
   ·by_cases e:j<i
    ·exact bm j h1 e
    ·have:j=i:=by omega
     subst this
     exact decide_eq_false hd
   ·have e:bp l id= -1:=by
     unfold bp
     rw[if_pos (by omega)]
    rwa[e] at hk
 exact key n 0 (by omega) fun j _ hj=>absurd hj (Nat.not_lt_zero _)
def nR (l:List aS) (s:Bs):Nat->Int
 | 0=> -1
 | i+1=>if(l.getD i (0,[],[])).1<0 then -1 else if(l.getD i (0,[],[])).2.1=s then i else nR l s i
def fA (l:List aS) (s:Bs):Int:=nR l s l.length
theorem qL {s:Bs} (r:Row aX A h b n c l) {K:KV} (hk:K (.int .i64 (fA l s)) h):zC 170 [.slice b n c,S s] h K:=by
 refine V7.ok _ _ _ _ _ _ ?_
 have hl:=r.len
 have hm:n<=maxLen:=Nat.le_trans r.cap r.max
 simp only[maxLen] at hm
 refine⟨aF (by omega) (by omega),n+1,?_⟩
 have key:∀i,i<=n->nR l s i=fA l s->gg l i=behind l->
   V7.cQ (fun h=>K (.int .i64 (-1)) h) (fun h=>K (.int .i64 (-1)) h) (fun y4 h=>K (.int .i64 y4) h) (i+1) b n c s ((i:Int) - 1) h:=by
  intro i
  induction i with
  | zero=>
   intro _ e _
   unfold V7.cQ LP V7.bU
   refine iA r (aO <| cg (by have:=Int.natCast_nonneg (behind l);omega) ?_)
   rw[<-e] at hk;exact hk
  | succ i ih=>
   intro hi e e2
   have hx:((i+1:Nat):Int) - 1=(i:Int):=by omega
   have bQ:i<l.length:=by omega
   unfold nR at e
   unfold gg at e2
   rw[aJ bQ] at e e2
   rw[hx]
   unfold V7.cQ LP V7.bU
   by_cases eI:l[i].1<0
   ·rw[if_pos eI] at e e2
    refine iA r (aO <| cg (by omega) ?_)
    rw[<-e] at hk;exact hk
   ·rw[if_neg eI] at e e2
    have hle:=pH l i
    refine iA r (aO <| bK (by omega) (r.bj bQ rfl fun a hA=>Of hA.snd.fst fun _=>bf (fun hd=>?_) fun hd=>⟨aF (by omega) (by omega),?_⟩))
    ·rw[if_pos hd] at e
     rw[<-e] at hk;exact hk
    ·rw[if_neg hd] at e
     exact ih (by omega) e e2
 exact key n (Nat.le_refl _) (by rw[<-hl];rfl) (by rw[<-hl];rfl)
theorem wE {s:Bs} (hA:∀k,A k->k<h.size) (r:Row aX A h b n c l) {K:KV} (hk:∀h',KB h h'->K (.int .i64 (fA l s)) h'):zC 152 [.slice b n c,S s] h K:=by
 refine Xa9.ok _ _ _ _ _ _ (af fun xs0 h0 v0 k0 e0 _=>af fun x2 h1 v1 k1 e1 _=>kM ((r.kb k0).kb k1) fun a h2 v2 k2 e2=>?_)
 have hm:n<=maxLen:=Nat.le_trans r.cap r.max
 simp only[maxLen] at hm
 have hl:=r.len
 obtain⟨xs,hB,hE⟩:=kL (((r.kb k0).kb k1).kb k2) v2
 have h01:=k0.1
 have bL:¬(A x2.block∨x2.block=a.block):=fun e=>by
  have:=v1.lt
  rcases e with e | e
  ·have:=hA _ e;omega
  ·omega
 have v12:=v1.kb k2
 have v02:=(v0.kb k1).kb k2
 have gy:KB h h2:=(k0.trans k1).trans k2
 have xK:=gy.1
 have fin:fA l s= -1->∀h3,KB h2 h3->dp h2.size h3->Xa9.n5 x2 [cu h2.size] (fun y4 ds h=>dE ds h fun h=>∃i93,cell h y4=some (.int .i64 i93)/\(K (.int .i64 i93) h)) (fun y4 ds h=>dE ds h fun h=>∃i93,cell h y4=some (.int .i64 i93)/\(K (.int .i64 i93) h)) h3:=by
  intro e h3 k3 hd
  have vx:=v12.kb k3
  refine aQ vx (Nat.le_refl _) fun h7 v7 k7 s7=>?_
  refine iS (vx.dp k7 hd) (KB.step (gy.trans k3) k7 (by omega)) xK v7 fun h' k'=>?_
  rw[e] at hk;exact hk h' k'
 refine⟨xs,vf,_,hE,hB.len,jW (fun xs h'=>KB h2 h'/\∃i,iH A h' l i xs/\nR l s i=fA l s) (fun xs h' lM ⟨k,i,hb,e⟩ n=>⟨k.nz n (Nat.le_succ _),i,hb.kw n.kw,e⟩) ?_ ?_ xs h2 ⟨KB.refl _,l.length,hB,rfl⟩⟩
 ·rintro x xs h3 Kc ⟨k3,i,hb,e⟩ Lp
  cases i with
  | zero=>simp[iH] at hb
  | succ i=>
   obtain⟨hi,b',n',c',rest,hm',e',hr⟩:=hb
   cases e'
   unfold nR at e
   rw[aJ hi] at e
   refine Gt (af fun a4 h4 v4 k4 e4 _=>aQ v4 (Nat.le_refl _) fun h5 v5 k5 s5=>?_)
   have EZ:KB h3 h5:=KB.step k4 k5 (by omega)
   refine⟨(k4.kp).trans (KX.kp v4 k5 fun e=>?_),fun h6 n6=>?_⟩
   ·have:=k3.1;have mB:=gy.1
    rcases e with e | e
    ·have:=hA _ e;omega
    ·have:=v2.lt;omega
   have v6:=v5.kw n6.kw
   have Gu:KB h2 h6:=(k3.trans EZ).nz n6 (Nat.le_succ _)
   have vx:=v12.kb Gu
   refine⟨_,v6.cell 0 rfl,bf (fun eI=>?_) fun eI=>⟨_,v6.cell 1 rfl,_,(v02.kb Gu).dA rfl,bf (fun hd=>?_) fun hd=>?_⟩⟩
   ·rw[if_pos eI] at e
    exact⟨tC.refl _ _,fun h4 n4 hd=>fin e.symm h4 (Gu.nz n4 (Nat.le_succ _)) hd⟩
   ·rw[if_neg eI,if_pos hd] at e
    refine aQ vx (Nat.le_refl _) fun h7 v7 k7 s7=>⟨KX.kp vx k7 bL,fun h8 n8 hd=>?_⟩
    refine iS hd ((KB.step (gy.trans Gu) k7 (by omega)).nz n8 (by omega)) xK (v7.kw n8.kw) fun h' k'=>?_
    rw[<-e] at hk;exact hk h' k'
   ·rw[if_neg eI,if_neg hd] at e
    exact Lp _ _ (tC.refl _ _) ⟨Gu,i,(hr.kw (KB.w EZ)).kw n6.kw,e⟩
 ·rintro h3 ⟨k3,i,hb,e⟩ hd
  cases i with
  | succ i=>obtain⟨_,_,_,_,_,_,e',_⟩:=hb;cases e'
  | zero=>exact fin e.symm h3 k3 hd
end
section
variable {A B:Nat->Prop} {h:H} {b b2:OA} {n c n2 c2:Nat} {l:List aP} {ns:List Bs} {s:Bs} {sc:Int}
theorem sA (m:ML h) (hA:∀k,A k->k<h.size) (r:Row bo A h b n c l) (hl:∀x ∈ l,x.2.2.1.length<=9000000000000000000) {K:KV} (hk:∀h',KB h h'->K (.int .i64 (iv l s)) h'):
  zC 192 [.slice b n c,S s] h K:=by
 have hm:n<=maxLen:=Nat.le_trans r.cap r.max
 have qF:=r.len
 simp only[maxLen] at hm
 refine Xcy.ok _ _ _ _ _ _ (af fun x2 h2 v2 k2 e2 s2=>af fun y h3 v3 k3 e3 s3=>iz fun a h4 va k4 ea=>?_)
 have jH:=(k2.trans k3).trans k4
 have r4:=r.kb jH
 refine qd (f:=fD s) (val:=.int .i64) (d:=0) (res:=iv l s) jH r4 hA va (v3.kb k4) (by omega) (by omega) rfl (fun i hi h5 Kc k5 uS lU BT=>BS (kK k5 (fun k hk=>?_) (Nat.le_refl _) fun ax hb kb vb=>?_)) (fun h' k' hd v=>vW hd k' jH.1 v fun lM Vv Vw=>⟨_,Vw.dA rfl,hk lM Vv⟩)
 ·rcases hk with hk | hk
  ·exact Nat.lt_of_lt_of_le (hA _ hk) jH.1
  ·rw[hk];exact va.lt
 ·have w2:=((v2.kb k3).kb k4).kb kb
  refine⟨_,vb.cell 1 rfl,bf (fun e=>⟨_,vb.cell 2 rfl,_,w2.dA rfl,bf (fun e2=>⟨aF (by omega) (by omega),lU hb hb _ kb (KB.refl _) (by unfold fD;rw[if_pos (.inr (.inl e2))])⟩) fun e2=>⟨_,vb.cell 2 rfl,gq II Pm (by decide+kernel) (by decide+kernel) ((m.kb jH).kb kb) (hl _ (List.getElem_mem _)) (ag (aR (fun ht=>uS hb hb kb (KB.refl _) ?_) fun hf=>⟨aF (by omega) (by omega),lU hb hb _ kb (KB.refl _) (by unfold fD;rw[if_pos (.inr (.inr hf))])⟩))⟩⟩) fun e=>⟨aF (by omega) (by omega),lU hb hb _ kb (KB.refl _) (by unfold fD;rw[if_pos (.inl e)])⟩⟩
  unfold fD
  rw[if_neg]
  rintro(h | h | h)
  ·exact h e
  ·exact e2 h
  ·rw[ht] at h;cases h
theorem wD (m:ML h) (hA:∀k,A k->k<h.size) (r:Row bo A h b n c l) (hl:∀x ∈ l,x.2.2.1.length<=9000000000000000000) (rn:Row cN B h b2 n2 c2 ns) {K:KV} (hk:∀h',KB h h'->K (.int .i64 (qN l ns)) h'):
  zC 190 [.slice b n c,.slice b2 n2 c2] h K:=by
 refine Xc0.ok _ _ _ _ _ _ _ _ (af fun x2 h2 v2 k2 e2 s2=>af fun y h3 v3 k3 e3 s3=>iz fun a h4 va k4 ea=>?_)
 have jH:=(k2.trans k3).trans k4
 have r4:=r.kb jH
 refine qd (f:=ja ns) (val:=.int .i64) (d:= -1) (res:=qN l ns) jH r4 hA va (v3.kb k4) (by omega) (by omega) rfl (fun i hi h5 Kc k5 uS lU BT=>BS (kK k5 (fun k hk=>?_) (Nat.le_refl _) fun ax hb kb vb=>?_)) (fun h' k' hd v=>vW hd k' jH.1 v fun lM Vv Vw=>⟨_,Vw.dA rfl,hk lM Vv⟩)
 ·rcases hk with hk | hk
  ·exact Nat.lt_of_lt_of_le (hA _ hk) jH.1
  ·rw[hk];exact va.lt
 ·have w2:=((v2.kb k3).kb k4).kb kb
  refine gY vb ⟨_,_,_,w2.dA rfl,tg ((rn.kb jH).kb kb) fun h6 k6=>ag (aR (fun ht=>lU hb h6 _ kb k6 (by unfold ja;rw[if_pos ht])) fun hf=>?_)⟩
  have vb6:=vb.kb k6
  refine⟨_,vb6.cell 1 rfl,_,vb6.cell 2 rfl,fJ (((m.kb jH).kb kb).kb k6) (hl _ (List.getElem_mem _)) (ag (aR (fun hs=>gY vb6 (af (cs:=Dc.map S) fun a7 h7 v7 k7 _ _=>lF Dc rfl (by decide+kernel) (by decide+kernel) v7 fun h8 k8=>ag (aR (fun ht=>?_) fun XP=>?_))) fun hs=>?_))⟩
  ·exact uS hb h8 kb ((k6.trans k7).trans k8) (by unfold ja;rw[if_neg (by rw[hf];simp),if_neg (by rw[ht];simp)])
  ·exact lU hb h8 _ kb ((k6.trans k7).trans k8) (by unfold ja;rw[if_neg (by rw[hf];simp),if_pos (by rw[hs,XP];rfl)])
  ·exact uS hb h6 kb k6 (by unfold ja;rw[if_neg (by rw[hf];simp),if_neg (by rw[hs];simp)])
theorem mz (m:ML h) (hs:s.length<=9000000000000000000) {K:KV} (hk:K (.bool (dS s)) h):zC 91 [S s] h K:=
 Xcx.ok _ _ _ (gq Cm Pj (by decide+kernel) (by decide+kernel) m hs (ag (dm (K:=fun b=>K (.bool b) h) hk)))
end
abbrev tp (A:Nat->Prop) (h:H) (m:bw):Prop:=aY.R A h m [S m.1,S m.2]
section
variable {A B:Nat->Prop} {h:H} {a:Addr} {b b2:OA} {n c n2 c2:Nat}
theorem H2 {m:bw} (h1:m.1.length<=maxLen) (h2:m.2.length<=maxLen):tp A h m:=⟨[S m.1],[S m.2],rfl,⟨rfl,h1⟩,rfl,h2⟩
theorem tp.inv {m:bw} (r:tp A h m):m.1.length<=maxLen/\m.2.length<=maxLen:=by
 obtain⟨c1,c2,e,⟨e1,h1⟩,e2,h2⟩:=r
 exact⟨h1,h2⟩
theorem tq {m:bw} {K:Bs->Bs->Prop} (hA:At aY A h a m) (hk:tp A h m->K m.1 m.2):
  ∃s,cell h (a.add 0)=some (S s)/\∃t,cell h (a.add 1)=some (S t)/\K s t:=
 ⟨_,hA.fst.str.1,_,hA.snd.str.1,hk (H2 hA.fst.str.2 hA.snd.str.2)⟩
theorem vE {l:List bw} {x:bw} (r:Row aY A h b n c l) (hx:tp A h x) {K:KV} (hk:∀h' (i:Int),KB h h'->(0<=i↔x ∈ l)->K (.int .i64 i) h'):
  zC 233 [.slice b n c,.agg ⟨[S x.1,S x.2]⟩] h K:=by
 refine Xf9.ok _ _ _ _ _ _ _ ?_
 refine af fun a1 h1 v1 k1 e1 _=>?_
 have r1:=r.kb k1
 have hl:=r.len
 have hm:n<=maxLen:=Nat.le_trans r.cap r.max
 simp only[maxLen] at hm
 have Ci:At aY (fun _=>True) h1 a1 x:=v1.at (H2 hx.inv.1 hx.inv.2) trivial
 refine⟨n+1,?_⟩
 have key:∀k i,i+k=n->(∀j (h1:j<l.length),j<i->l[j]≠x)->
   Xf9.cQ (fun h=>K (.int .i64 (-1)) h) (fun h=>K (.int .i64 (-1)) h) (fun y4 h=>K (.int .i64 y4) h) (k+1) b n c a1 (n:Int) (i:Int) h1:=by
  intro k
  induction k with
  | zero=>
   intro i hi bm
   refine cg (by omega) (hk h1 (-1) k1 ⟨fun h=>absurd h (by decide),fun hm=>?_⟩)
   obtain⟨j,hj,e⟩:=List.mem_iff_getElem.1 hm
   exact absurd e (bm j hj (by omega))
  | succ k ih=>
   intro i hi bm
   refine bK (by omega) (tq Ci fun _=>r1.bj (by omega) rfl fun a hA=>tq hA fun hR=>Nl ?_)
   refine aR (fun hd=>hk h1 i k1 ⟨fun _=>?_,fun _=>by omega⟩) fun hd=>⟨aF (by omega) (by omega),ih (i+1) (by omega) fun j h1 hj=>?_⟩
   ·rw[of_decide_eq_true hd];exact List.getElem_mem _
   ·by_cases e:j<i
    ·exact bm j h1 e
    ·have:j=i:=by omega
     subst this
     exact fun e2=>(of_decide_eq_false hd) e2.symm
 exact key n 0 (by omega) fun j _ hj=>absurd hj (Nat.not_lt_zero _)
theorem rQ {l:List bw} {x:bw} (r:Row aY A h b n c l) (hx:tp A h x) {K:KV} (hk:∀h',KB h h'->K (.bool (decide (x ∈ l))) h'):
  zC 218 [.slice b n c,.agg ⟨[S x.1,S x.2]⟩] h K:=by
 refine Xf1.ok _ _ _ _ _ _ _ ?_
 refine af fun a1 h1 v1 k1 e1 _=>?_
 have Ci:At aY (fun _=>True) h1 a1 x:=v1.at (H2 hx.inv.1 hx.inv.2) trivial
 refine tq Ci fun hR=>vE (A:=fun _=>True) (r.any.kb k1) hR fun h' i k' hi=>?_
 refine bf (fun hp=>?_) fun hp=>?_
 ·have:=hk h' (k1.trans k')
  rwa[decide_eq_true (hi.1 hp)] at this
 ·have:=hk h' (k1.trans k')
  rwa[decide_eq_false (fun hm=>hp (hi.2 hm))] at this
theorem qB {l:List bw} {f:Value} {p:bw->Bool} (r:Row aY A h b n c l)
  (hf:∀x h1 (next:KV),x ∈ l->KB h h1->tp A h1 x->(∀h2,KB h1 h2->next (.bool (p x)) h2)->fQ Tryz.prog 4 f ⟨[.agg ⟨[S x.1,S x.2]⟩]⟩ h1 next)
  {K:KV} (hk:∀h' (i:Int),KB h h'->(0<=i↔l.any p=true)->K (.int .i64 i) h'):
  zC 234 [.slice b n c,f] h K:=by
 refine Xf6.ok _ _ _ _ _ _ ?_
 have hl:=r.len
 have hm:n<=maxLen:=Nat.le_trans r.cap r.max
 simp only[maxLen] at hm
 refine⟨n+1,?_⟩
 have key:∀k i h1,i+k=n->KB h h1->(∀j (h1:j<l.length),j<i->p l[j]=false)->
   Xf6.cQ (fun h=>K (.int .i64 (-1)) h) (fun h=>K (.int .i64 (-1)) h) (fun y4 h=>K (.int .i64 y4) h) (k+1) b n c f (n:Int) (i:Int) h1:=by
  intro k
  induction k with
  | zero=>
   intro i h1 hi k1 bm
   refine cg (by omega) (hk h1 (-1) k1 ⟨fun h=>absurd h (by decide),fun hm=>?_⟩)
   obtain⟨x,hx,hp⟩:=List.any_eq_true.1 hm
   obtain⟨j,hj,e⟩:=List.mem_iff_getElem.1 hx
   have:=bm j hj (by omega)
   rw[e,hp] at this;cases this
  | succ k ih=>
   intro i h1 hi k1 bm
   refine bK (by omega) ((r.kb k1).bj (by omega) rfl fun a hA=>tq hA fun hR=>hf _ h1 _ (List.getElem_mem _) k1 hR fun h2 k2=>?_)
   refine aR (fun hd=>hk h2 i (k1.trans k2) ⟨fun _=>List.any_eq_true.2 ⟨_,List.getElem_mem _,hd⟩,fun _=>by omega⟩) fun hd=>⟨aF (by omega) (by omega),ih (i+1) h2 (by omega) (k1.trans k2) fun j h1 hj=>?_⟩
   by_cases e:j<i
   ·exact bm j h1 e
   ·have:j=i:=by omega
    subst this
    exact hd
 exact key n 0 h (by omega) (KB.refl h) fun j _ hj=>absurd hj (Nat.not_lt_zero _)
theorem nS {l:List bw} {f:Value} {p:bw->Bool} (r:Row aY A h b n c l)
  (hf:∀x h1 (next:KV),x ∈ l->KB h h1->tp A h1 x->(∀h2,KB h1 h2->next (.bool (p x)) h2)->fQ Tryz.prog 4 f ⟨[.agg ⟨[S x.1,S x.2]⟩]⟩ h1 next)
  {K:KV} (hk:∀h',KB h h'->K (.bool (l.any p)) h'):
  zC 219 [.slice b n c,f] h K:=by
 refine Xfz.ok _ _ _ _ _ _ (qB r hf fun h' i k' hi=>?_)
 refine bf (fun hp=>?_) fun hp=>?_
 ·have:=hk h' k'
  rwa[hi.1 hp] at this
 ·have:=hk h' k'
  have e:l.any p=false:=by
   cases hq:l.any p with
   | false=>rfl
   | true=>exact absurd (hi.2 hq) hp
  rwa[e] at this
theorem Eo {y:aS} {x:bw} {a:Addr} (hA:At aX A h a y) (hx:tp B h x) {K:KV} (hk:∀h',KB h h'->K (.bool (!decide (x ∈ y.2.2))) h'):
  zC 217 [.agg ⟨[S x.1,S x.2]⟩,.pointer (some a)] h K:=by
 refine Xbe.ok _ _ _ _ _ (af fun a1 h1 v1 k1 e1 _=>?_)
 have Ci:At aY (fun _=>True) h1 a1 x:=v1.at (H2 hx.inv.1 hx.inv.2) trivial
 refine rG ((hA.kb k1).snd.dt (k:=2) rfl) fun b n c r hz=>tq Ci fun hR=>rQ r hR fun h' k'=>?_
 have:=hk h' (k1.trans k')
 cases hd:decide (x ∈ y.2.2) <;> rw[hd] at this <;> exact this
theorem BX {x y:aS} (hx:cI A h x b n c) (hy:cI B h y b2 n2 c2) {K:KV} (hk:∀h',KB h h'->K (.bool (fO x y)) h'):
  zC 198 [.agg ⟨[.int .i64 x.1,S x.2.1,.slice b n c]⟩,.agg ⟨[.int .i64 y.1,S y.2.1,.slice b2 n2 c2]⟩] h K:=by
 refine Xbd.ok _ _ _ _ _ _ _ _ _ _ _ _ (af fun a1 h1 v1 k1 e1 _=>af fun a2 h2 v2 k2 e2 _=>?_)
 have Ci:At aX (fun _=>True) h2 a1 x:=(v1.at (A:=fun _=>True) (cI.any hx |>.kb k1) trivial).kb k2
 have oT:At aX (fun _=>True) h2 a2 y:=v2.at (A:=fun _=>True) (cI.any hy |>.kb (k1.trans k2)) trivial
 refine Of Ci.snd.fst fun _=>Of oT.snd.fst fun _=>bf (fun e1=>?_) fun e1=>?_
 ·refine rG (Ci.snd.dt (k:=2) rfl) fun b n c r _=>rG (oT.snd.dt (k:=2) rfl) fun b2 n2 c2 r2 _=>bf (fun e2=>?_) fun e2=>?_
  ·have VB:x.2.2.length=y.2.2.length:=by rw[r.len,r2.len];omega
   refine rG (Ci.snd.dt (k:=2) rfl) fun b n c r _=>nS (p:=fun z=>!decide (z ∈ y.2.2)) r (fun z h3 next hz k3 hzR hn=>?_) fun h' k'=>?_
   ·have e:fQ Tryz.prog 4 (.func (.func 217) ⟨[]⟩ ⟨[.pointer (some a2)]⟩) ⟨[.agg ⟨[S z.1,S z.2]⟩]⟩ h3 next=zC 217 [.agg ⟨[S z.1,S z.2]⟩,.pointer (some a2)] h3 fun v h'=>au v fun b=>cond b (next (.bool true) h') (next (.bool false) h'):=by kernel_rfl
    rw[e]
    refine Eo (oT.kb k3) hzR fun h4 k4=>?_
    have:=hn h4 k4
    cases hd:(!decide (z ∈ y.2.2)) <;> rw[hd] at this <;> exact this
   ·have:=hk h' ((k1.trans k2).trans k')
    have e3:fO x y=!(x.2.2.any fun z=>!decide (z ∈ y.2.2)):=by
     unfold fO
     rw[decide_eq_true e1,decide_eq_true VB,Bool.true_and,Bool.true_and,List.all_eq_not_any_not]
    rw[e3] at this
    cases hd:(x.2.2.any fun z=>!decide (z ∈ y.2.2)) <;> rw[hd] at this <;> exact this
  ·have VB:x.2.2.length≠y.2.2.length:=by rw[r.len,r2.len];omega
   have:=hk h2 (k1.trans k2)
   rwa[show fO x y=false by simp[fO,VB]] at this
 ·have:=hk h2 (k1.trans k2)
  rwa[show fO x y=false by simp[fO,e1]] at this
end
section
variable {A B:Nat->Prop} {h:H} {b b2:OA} {n c n2 c2:Nat} {l:List aS} {m:aS}
theorem uZ (hA:∀k,A k->k<h.size) (r:Row aX A h b n c l) {K:KV} (hk:∀h',KB h h'->K (.int .i64 (behind l)) h'):zC 197 [.slice b n c] h K:=by
 refine Xbf.ok _ _ _ _ _ (af fun x2 h1 v1 k1 e1 _=>kM (r.kb k1) fun a h2 v2 k2 e2=>?_)
 have hm:n<=maxLen:=Nat.le_trans r.cap r.max
 simp only[maxLen] at hm
 have hl:=r.len
 obtain⟨xs,hB,hE⟩:=kL ((r.kb k1).kb k2) v2
 have bL:¬(A x2.block∨x2.block=a.block):=fun e=>by
  have:=v1.lt
  rcases e with e | e
  ·have:=hA _ e;omega
  ·omega
 have v12:=v1.kb k2
 have gy:KB h h2:=k1.trans k2
 have xK:=gy.1
 refine⟨xs,vf,_,hE,hB.len,jW (fun xs h'=>KB h2 h'/\∃i,iH A h' l i xs/\gg l i=behind l) (fun xs h' lM ⟨k,i,hb,e⟩ n=>⟨k.nz n (Nat.le_succ _),i,hb.kw n.kw,e⟩) ?_ ?_ xs h2 ⟨KB.refl _,l.length,hB,rfl⟩⟩
 ·rintro x xs h3 Kc ⟨k3,i,hb,e⟩ Lp
  cases i with
  | zero=>simp[iH] at hb
  | succ i=>
   obtain⟨hi,b',n',c',rest,hm',e',hr⟩:=hb
   cases e'
   refine Gt (af fun a4 h4 v4 k4 e4 _=>aQ v4 (Nat.le_refl _) fun h5 v5 k5 s5=>?_)
   have EZ:KB h3 h5:=KB.step k4 k5 (by omega)
   refine⟨(k4.kp).trans (KX.kp v4 k5 fun e=>?_),fun h6 n6=>?_⟩
   ·have:=k3.1;have mB:=gy.1
    rcases e with e | e
    ·have:=hA _ e;omega
    ·have:=v2.lt;omega
   have v6:=v5.kw n6.kw
   refine⟨_,v6.cell 0 rfl,bf (fun eI=>⟨aF (by omega) (by omega),?_⟩) fun eI=>?_⟩
   ·have Gu:KB h2 h6:=(k3.trans EZ).nz n6 (Nat.le_succ _)
    have vx:=v12.kb Gu
    refine aQ vx (Nat.le_refl _) fun h7 v7 k7 s7=>⟨KX.kp vx k7 bL,fun h8 n8 hd=>?_⟩
    refine iS hd ((KB.step (gy.trans Gu) k7 (by omega)).nz n8 (by omega)) xK (v7.kw n8.kw) fun h' k'=>?_
    have:(behind l:Int)=(i:Int)+1:=by
     rw[<-e];unfold gg;rw[aJ hi,if_pos eI];rfl
    rw[<-this];exact hk h' k'
   ·refine Lp _ _ (tC.refl _ _) ⟨(k3.trans EZ).nz n6 (Nat.le_succ _),i,(hr.kw (KB.w EZ)).kw n6.kw,?_⟩
    rw[<-e]
    conv=>rhs;unfold gg
    rw[aJ hi,if_neg eI]
 ·rintro h3 ⟨k3,i,hb,e⟩ hd
  cases i with
  | succ i=>obtain⟨_,_,_,_,_,_,e',_⟩:=hb;cases e'
  | zero=>
   have vx:=v12.kb k3
   refine aQ vx (Nat.le_refl _) fun h7 v7 k7 s7=>?_
   refine iS (vx.dp k7 hd) (KB.step (gy.trans k3) k7 (by omega)) xK v7 fun h' k'=>?_
   have:(behind l:Int)=0:=by rw[<-e];rfl
   rw[this] at hk;exact hk h' k'
end
theorem dD.cf {Z:Nat->Prop} {h h':H} {col col':bY} {s:Nat} {t:Addr} {ns:List ay} (T:dD h col s t ns) (hs:¬Z s) (e:al Z h col h' col') (hf:bh h' col'):dD h' col' s t ns:=by
 obtain⟨lb,lc,rs,C,em⟩:=T
 exact⟨lb,lc,rs,C.keep e.sk.w e.cl hf fun k hk hc=>⟨hk,fun s' p hs' e2=>by
  rcases hc with hc | ⟨q,hc⟩
  ·rw[hc] at e2;cases e2
  ·rw[hc] at e2;cases e2;exact hs hs'⟩,em⟩
def RS (s:Nat):Prop:=s=1∨s=3
structure RW (h:H) (col:bY) (w:Addr) (m:WM):Prop where
 ex:∃t,dD h col 1 t m.ns/\bq h col 3 58 w t m.op m.aE m.fo m.hi
section
variable {Z:Nat->Prop} {h h':H} {K:KV} {col col':bY} {w:Addr} {m:WM}
theorem RW.fresh (p:RW h col w m):bh h col:=by obtain⟨t,T,W⟩:=p.ex;exact T.fresh
theorem RW.ext (p:RW h col w m) (e:al Z h col h' col') (h0:¬Z 1) (h2:¬Z 3) (f:bh h' col'):RW h' col' w m:=by
 obtain⟨t,T,W⟩:=p.ex
 exact⟨t,T.cf h0 e f,W.ext e h2⟩
theorem RW.kb (p:RW h col w m) (k:KB h h'):RW h' col w m:=p.ext (Z:=fun _=>False) (.kb k) id id (p.fresh.kb k)
theorem Au (f:bh h col) (hk:∀w h' col',RW h' col' w EP->al RS h col h' col'->K (.pointer (some w)) h'):zC 34 [] h K:=by
 refine Xek.ok _ _ (aa9 (s:=1) f fun t h1 c1 T1 E1=>cL (af fun a2 h2 v2 k2 e2 s2=>af fun a3 h3 v3 k3 e3 s3=>?_))
 have ow:gG (0,0,sx,0):=⟨⟨by decide,by decide⟩,⟨by decide,by decide⟩,by decide,⟨by decide,by decide⟩⟩
 have o2:=v2.Hi (E:=bo) (x:=(0,0,sx,0)) fun A=>ow.r
 have f1:bh h1 c1:=T1.fresh
 have f3:=(f1.kb k2).kb k3
 have h3s:h3.size=h1.size+2:=by omega
 have hc:∀k,k<h1.size->cr (cr c1 a2.block (3,1)) a3.block (3,0) k=c1 k:=fun k hk=>by rw[dG (by omega),dG (by omega)]
 have ff:bh h3 (cr (cr c1 a2.block (3,1)) a3.block (3,0)):=(f3.cr (by omega)).cr (by omega)
 have E3:al (fun _=>False) h1 c1 h3 (cr (cr c1 a2.block (3,1)) a3.block (3,0)):=⟨(k2.trans k3).less fun k hk=>hk.1,hc⟩
 refine hk a3 h3 (cr (cr c1 a2.block (3,1)) a3.block (3,0)) ⟨t,T1.cf id E3 ff,⟨⟨some a2,1,none,0,0,v3,?_,du.none⟩,fX,⟨by decide,by decide⟩⟩⟩ ?_
 ·refine⟨((o2.kb k3).own.flat ko).lower (Nat.le_refl _),fun q e=>?_,fun q e=>?_,fun e=>by cases e⟩
  ·cases e;rw[dG (by omega)];exact fX
  ·cases e;omega
 ·exact(E1.p (.inl rfl)).trans (E3.mono fun s hs=>hs.elim)
theorem nV (p:RW h col w m) (G:aV m.ns) (bL:0<m.op.length) (eD:m.op.length<1000000) (AB:m.ns.length<1000000) {ab:OA} {an ac:Nat} {attrs:List bw} {sp tk:Int} {nm tx:Bs} {cl:Bool}
  (r:Row aY (bT col h) h ab an ac attrs) (JI:an<=1000000) (hv:rB attrs) (hsp:bd .u8 sp) (pP:bd .u8 tk) (M9:nm.length<=1000000000)
  (hk:∀h' col',RW h' col' w (bs m sp nm attrs)->al RS h col h' col'->K (.int .i64 m.ns.length) h'):
  zC 103 [.pointer (some w),.int .u8 sp,.agg ⟨[.int .u8 tk,S nm,.slice ab an ac,.bool cl,S tx]⟩] h K:=by
 obtain⟨t,T,W⟩:=p.ex
 have Pp:nm.length<=maxLen:=by simp only[maxLen];omega
 refine Xeo.ok _ _ _ _ _ _ _ _ _ _ _ (af fun a1 h1 v1 k1 e1 s1=>?_)
 refine eU (W.kb k1) bL (by omega) fun h2 k2=>?_
 refine jm (x:=dP m.op) ?_
 refine im (x:=dP m.op) (T.kb (k1.trans k2)) G (W.kb (k1.trans k2)) (by omega) fun h3 k3=>lk ?_
 have gi:=(k1.trans k2).trans k3
 obtain⟨ob,oc,mb,mn,mc,vw,ow,Yo⟩:=(W.kb gi).ex
 have v3:=v1.kb (k2.trans k3)
 refine aa ⟨_,vw.cell 0 rfl,_,v3.cell 1 rfl,_,_,_,v3.cell 2 rfl,?_⟩
 refine wx (T.kb gi) (r.kb gi) JI ⟨by decide,by decide⟩ hsp Pp (by decide) AB fun h4 c4 T4 E4=>aO ?_
 have Cv:al (fun s=>s=1) h3 col h4 c4:=E4.p rfl
 have W4:=(W.kb gi).ext Cv (by decide)
 obtain⟨OS,OT,Th,Ks,Kt,yE,ow4,agE⟩:=W4.ex
 have G4:aV (bE m.ns (bF 1 sp nm attrs [])).1:=G.bE _ _ _ _ _
 refine aa ⟨_,yE.cell 0 rfl,?_⟩
 refine GV T4 G4 fun h5 c5 T5 E5=>ag ?_
 have Kv:al (fun s=>s=1) h4 c4 h5 c5:=E5.p rfl
 have QI:=Cv.trans Kv
 have W5:=W4.ext Kv (by decide)
 obtain⟨Xu,oc5,Ym,Xv,Yn,B4,ow5,agG⟩:=W5.ex
 have f3:bh h3 col:=p.fresh.kb gi
 have hca:col a1.block=none:=p.fresh _ (by omega)
 have v5:Var h5 a1 45 [.int .u8 tk,S nm,.slice ab an ac,.bool cl,S tx]:=v3.keep QI.eR ⟨hca,v3.lt⟩
 have r5:Row aY (bT c5 h5) h5 ab an ac attrs:=QI.row ((r.kb gi).keep (bZ.refl (fun _=>True) _ |>.less fun _ _=>trivial) fun k hk _=>bT.kb gi hk)
 have tail:Xeo.n5 (some w) sp a1 (bE m.ns (bF 1 sp nm attrs [])).2 (fun y6 h=>K (.int .i64 y6) h) (fun y6 h=>K (.int .i64 y6) h) h5:=by
  refine aa ⟨_,_,_,B4.cell 1 rfl,_,v5.cell 1 rfl,_,v5.cell 0 rfl,_,v5.cell 1 rfl,_,_,_,v5.cell 2 rfl,_,v5.cell 3 rfl,_,v5.cell 4 rfl,?_⟩
  refine ya r5 hv fun h6 k6=>aO ⟨k6.ext,af fun a7 h7 v7 k7 e7 s7=>⟨k7.ext,?_⟩⟩
  have HW:=k6.trans k7
  have hxo:gG ((m.ns.length:Int),sp,nm,dr sp nm attrs):=⟨aF (by omega) (by omega),hsp,Pp,xF _ _ _⟩
  have f5:bh h5 c5:=T5.fresh
  refine xG (x:=((m.ns.length:Int),sp,nm,dr sp nm attrs)) (W5.kb HW) (f5.kb HW) eD hxo (B4.kb HW) v7 (f5 _ (by have:=k6.1;omega)) fun h8 c8 W8 E8 f8 m8=>?_
  have E3:al RS h col h3 col:=.kb gi
  exact hk h8 c8 ⟨t,(T5.kb HW).cf (Z:=fun k=>k=3) (by decide) E8 f8,W8⟩ (((E3.trans (QI.mono fun s hs=>.inl hs)).trans (.kb HW)).trans (E8.mono fun s hs=>.inr hs))
 exact dm (K:=fun _=>Xeo.n5 (some w) sp a1 (bE m.ns (bF 1 sp nm attrs [])).2 (fun y6 h=>K (.int .i64 y6) h) (fun y6 h=>K (.int .i64 y6) h) h5) tail
theorem we (p:RW h col w m) (G:aV m.ns) (bL:0<m.op.length) (eD:m.op.length<1000000) (AB:m.ns.length<1000000) {tx:Bs} (hlen:∀(i:Nat) x,m.ns[i]? =some x->x.text.length+tx.length<=9223372036854775807) (Fb:tx.length<=maxLen)
  (hk:∀h' col',RW h' col' w (fW m tx)->al RS h col h' col'->K (.tuple ⟨[]⟩) h'):
  zC 38 [.pointer (some w),S tx] h K:=by
 obtain⟨t,T,W⟩:=p.ex
 refine Xes.ok _ _ _ _ ?_
 refine eU W bL (by omega) fun h2 k2=>?_
 refine jm (x:=dP m.op) ?_
 refine im (x:=dP m.op) (T.kb k2) G (W.kb k2) (by omega) fun h3 k3=>lk ?_
 have gi:=k2.trans k3
 obtain⟨ob,oc,mb,mn,mc,vw,ow,Yo⟩:=(W.kb gi).ex
 refine aa ⟨_,vw.cell 0 rfl,?_⟩
 refine Qw (T.kb gi) G hlen Fb AB fun h4 c4 T4 E4=>ag ?_
 have Cv:al (fun s=>s=1) h3 col h4 c4:=E4.p rfl
 have W4:=(W.kb gi).ext Cv (by decide)
 have tail:K (.tuple ⟨[]⟩) h4:=hk h4 c4 ⟨t,T4,W4⟩ ((al.kb gi).trans (Cv.mono fun s hs=>.inl hs))
 exact dm (K:=fun _=>K (.tuple ⟨[]⟩) h4) tail
theorem fZ (p:RW h col w m) {n:Int} (hk:∀h' col',RW h' col' w (cZ m n)->al RS h col h' col'->K (.tuple ⟨[]⟩) h'):zC 61 [.pointer (some w),.int .i64 n] h K:=by
 obtain⟨t,T,W⟩:=p.ex
 obtain⟨ob,oc,mb,mn,mc,v,o,om⟩:=W.ex
 have dk:¬(1<=n/\n<m.op.length)->K (.tuple ⟨[]⟩) h:=fun hn=>hk h col (by
  have e:cZ m n=m:=by unfold cZ gW;rw[if_neg hn]
  rw[e];exact p) (.refl _ _ _)
 refine Xel.ok _ _ _ _ (bf (fun h1=>aa ⟨_,_,_,v.cell 1 rfl,bf (fun h2=>?_) fun h2=>aC (dk fun hn=>h2 hn.2)⟩) fun h1=>aC (dk fun hn=>h1 hn.1))
 have hcap:=o.cap
 refine aD (aa ⟨_,_,_,v.cell 1 rfl,⟨by omega,by omega,by omega⟩,aa (Gl W p.fresh h1 h2 v fun h' W' E' f' _=>?_)⟩)
 exact hk h' col ⟨t,T.cf (Z:=fun k=>k=3) (by decide) E' f',W'⟩ (E'.mono fun s hs=>.inr hs)
end
end Go.Proofs
