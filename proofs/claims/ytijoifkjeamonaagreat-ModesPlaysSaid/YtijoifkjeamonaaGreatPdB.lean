import Derived.Test.YtijoifkjeamonaaGreatHc
import Derived.Test.YtijoifkjeamonaaGreatDrF
import Derived.Test.YtijoifkjeamonaaGreatTxF
import Derived.Test.YtijoifkjeamonaaGreatTxG
import Derived.Test.YtijoifkjeamonaaGreatPcM
import Derived.Test.YtijoifkjeamonaaGreatTxK
namespace Go.Proofs
open Go Go.Sh
set_option linter.unusedVariables false
set_option maxRecDepth 100000
section
variable {A B:Nat->Prop} {h:H} {b b2:OA} {n c n2 c2:Nat} {ns:List Bs} {s row:Bs} {x:aP}
theorem jm (r:Row cL A h b n c ns) {K:KV} (hk:K (.bool (bm ns s)) h):zC 174 [.slice b n c,S s] h K:=by
 refine Xed.ok _ _ _ _ _ _ ?_
 have hl:=r.len
 have hm:n<=maxLen:=Nat.le_trans r.cap r.max
 simp only[maxLen] at hm
 refine⟨n+1,?_⟩
 have key:∀k i,i+k=n->(∀j (h1:j<ns.length),j<i->ns[j]≠s)->
   Xed.cR (fun h=>K (.bool false) h) (fun h=>K (.bool false) h) (fun y4 h=>K (.bool y4) h) (k+1) b n c s (i:Int) h:=by
  intro k
  induction k with
  | zero=>
   intro i hi bq
   refine bX (by omega) ?_
   have:bm ns s=false:=decide_eq_false fun hm=>by
    obtain⟨j,hj,e⟩:=List.mem_iff_getElem.1 hm
    exact absurd e (bq j hj (by omega))
   rwa[this] at hk
  | succ k ih=>
   intro i hi bq
   refine bQ (by omega) (r.bn (i:=i) (by omega) rfl fun a hA=>RH hA fun _=>bh (fun e=>?_) fun e=>⟨aG (by omega) (by omega),ih (i+1) (by omega) fun j h1 hj=>?_⟩)
   ·have:bm ns s=true:=decide_eq_true (by rw[<-e];exact List.getElem_mem _)
    rwa[this] at hk
   ·by_cases e2:j<i
    ·exact bq j h1 e2
    ·have:j=i:=by omega
     subst this
     exact e
 exact key n 0 (by omega) fun j _ hj=>absurd hj (Nat.not_lt_zero _)
theorem jX (r:Row cL A h b n c ns) {K:KV} (hk:∀h',KB h h'->K (.bool (jC x ns)) h'):zC 181 [.agg ⟨aX x⟩,.slice b n c] h K:=by
 refine Xee.ok _ _ _ _ _ _ _ _ _ (af fun a h1 v1 k1 _ _=>⟨_,v1.cell 1 rfl,bh (fun e=>⟨_,v1.cell 2 rfl,jm (r.kb k1) (ag (dm (K:=fun b=>K (.bool b) h1) ?_))⟩) fun e=>?_⟩)
 ·have:=hk h1 k1
  unfold jC at this;rwa[decide_eq_true e,Bool.true_and] at this
 ·have:=hk h1 k1
  unfold jC at this;rwa[decide_eq_false e,Bool.false_and] at this
end
section
variable {A B:Nat->Prop} {h:H} {b b2:OA} {n c n2 c2:Nat} {l:List aP} {ns:List Bs} {s:Bs} {sc:Int}
theorem pr (r:Row bp A h b n c l) (rn:Row cL B h b2 n2 c2 ns) {K:KV} (hk:∀h',KB h h'->K (.int .i64 (bO l ns)) h'):
  zC 132 [.slice b n c,.slice b2 n2 c2] h K:=by
 refine Xeb.ok _ _ _ _ _ _ _ _ ?_
 have rB:=r.len
 have hm:n<=maxLen:=Nat.le_trans r.cap r.max
 simp only[maxLen] at hm
 refine⟨aG (by omega) (by omega),n+1,?_⟩
 have key:∀i h5,i<=n->KB h h5->eW (iV ns) (-1) l i=bO l ns->
   Xeb.cR (fun h=>K (.int .i64 (-1)) h) (fun h=>K (.int .i64 (-1)) h) (fun y6 h=>K (.int .i64 y6) h) (i+1) b n c b2 n2 c2 ((i:Int) - 1) h5:=by
  intro i
  induction i with
  | zero=>
   intro h5 _ k5 e
   refine bX (by omega) ?_
   have:=hk h5 k5
   rw[<-e] at this;exact this
  | succ i ih=>
   intro h5 hi k5 e
   have bM:i<l.length:=by omega
   have hx:((i+1:Nat):Int) - 1=(i:Int):=by omega
   rw[hx]
   unfold eW at e
   rw[aJ bM] at e
   have r5:=r.kb k5
   refine bQ (by omega) (r5.bn bM rfl fun a hA=>df hA fun _=>jX (rn.kb k5) fun h6 k6=>ag (aR (fun ht=>?_) fun hf=>⟨aG (by omega) (by omega),ih h6 (by omega) (k5.trans k6) ?_⟩))
   ·rw[show iV ns i l[i]=some (i:Int) by unfold iV;rw[if_pos ht]] at e
    have:=hk h6 (k5.trans k6)
    rw[<-e] at this;exact this
   ·rw[show iV ns i l[i]=none by unfold iV;rw[if_neg (by rw[hf];simp)]] at e
    exact e
 exact key n h (Nat.le_refl _) (KB.refl h) (by rw[<-rB];rfl)
end
theorem QR:oG Tryz.prog Qx 176 5 1:=js (sz:=1) (by kernel_rfl) rfl
theorem Jp:∀c:Fin 256,65<=c.val->c.val<=90->IntKind.wrap .u8 ((c.val:Int)+32)=((c.val+32:Nat):Int):=by decide+kernel
theorem QS {c:UInt8} (h1:65<=c.toNat) (h2:c.toNat<=90):IntKind.wrap .u8 ((c.toNat:Int)+32)=((tz c).toNat:Int):=by
 have:=Jp ⟨c.toNat,c.toNat_lt⟩ h1 h2
 rw[this]
 unfold tz
 rw[if_pos ⟨h1,h2⟩]
 have h3:(c+32).toNat=c.toNat+32:=by
  rw[UInt8.toNat_add]
  show(c.toNat+32) % 256=_
  exact Nat.mod_eq_of_lt (by omega)
 rw[h3]
theorem Aj {c:UInt8} (h:¬(65<=c.toNat/\c.toNat<=90)):tz c=c:=if_neg h
section
variable {h:H} {K:KV}
theorem yd {s:Bs} (hs:s.length<=100000000) (hk:∀h',KB h h'->K (S (oS s)) h'):zC 204 [S s] h K:=by
 refine SB.ok _ _ _ ⟨s.length+1,?_⟩
 have key:∀k i h2 ob oc,i+k=s.length->bE Qx h2 h.size 5 ob i oc (oS (s.take i))->KB h h2->
   SB.fu (fun EV EW EX h=>SB.n4 EV EW EX (fun y2 h=>K (S y2) h) (fun y2 h=>K (S y2) h) h) (fun EV EW EX h=>SB.n4 EV EW EX (fun y2 h=>K (S y2) h) (fun y2 h=>K (S y2) h) h) (fun y2 h=>K (S y2) h) (k+1) s ob i oc (i:Int) h2:=by
  intro k
  induction k with
  | zero=>
   intro i h2 ob oc hi o k2
   refine bX (by omega) ?_
   rw[List.take_of_length_le (by omega)] at o
   exact HP Tryz.underlying176 Tryz.underlying5 Tryz.underlying9 o.row (Bj (hk h2 k2))
  | succ k ih=>
   intro i h2 ob oc hi o k2
   have bM:i<s.length:=by omega
   have hg:(List.getD s (Int.toNat (i:Int)) 0)=s[i]:=by rw[Int.toNat_natCast];exact aJ bM
   have jO:oS (s.take (i+1))=oS (s.take i)++ [tz s[i]]:=by
    unfold oS
    rw[List.take_add_one,List.getElem?_eq_getElem bM,List.map_append];rfl
   have one:∀v:Int,v=((tz s[i]).toNat:Int)->aw h2 #[(.int .u8 v)] 5 fun Ji mr=>bf Tryz.prog (Builtin.append_ #[176,176] 176 ⟨[(.slice ob i oc),(.slice (some Ji) 1 1)]⟩) mr fun Ms yr=>aA Ms fun Vt Vu Vv=>bc .i64 ((i:Int)+1)/\SB.fu (fun EV EW EX h=>SB.n4 EV EW EX (fun y2 h=>K (S y2) h) (fun y2 h=>K (S y2) h) h) (fun EV EW EX h=>SB.n4 EV EW EX (fun y2 h=>K (S y2) h) (fun y2 h=>K (S y2) h) h) (fun y2 h=>K (S y2) h) (k+1) s Vt Vu Vv ((i:Int)+1) yr:=by
    intro v hv
    subst hv
    refine Dl QR (x:=tz s[i]) (cs:=[.int .u8 ((tz s[i]).toNat:Int)]) (fun A h=>rfl) o k2.1 (by simp only[maxLen];omega) (by omega) fun b' c' h' o' k'=>aC ⟨aG (by omega) (by omega),?_⟩
    exact ih (i+1) h' b' c' (by omega) (by rw[jO];exact o') (SK.trans k2 (k'.less fun q hq=>⟨Nat.lt_of_lt_of_le hq k2.1,fun a ea e2=>by have:=o.lo a ea;have hq:q<h.size:=hq;omega⟩))
   refine bQ (by omega) ⟨⟨by omega,by omega⟩,?_⟩
   rw[hg]
   refine bh (fun e1=>bh (fun e2=>one _ (QS (by omega) (by omega))) fun e2=>one _ ?_) fun e1=>one _ ?_
   ·rw[Aj (by omega)]
   ·rw[Aj (by omega)]
 exact key s.length 0 h none 0 (by omega) (bE.none _ _ _) (KB.refl h)
end
section
variable {A:Nat->Prop} {h:H} {K:KV} {b:OA} {n c:Nat} {attrs:List bx} {sp tk:Int} {nm tx:Bs} {cl:Bool}
theorem ye (r:Row aW A h b n c attrs) (hv:rH attrs) (hk:∀h',KB h h'->K (.int .u8 (dt sp nm attrs)) h'):
  zC 163 [.int .u8 sp,.agg ⟨[.int .u8 tk,S nm,.slice b n c,.bool cl,S tx]⟩] h K:=by
 refine Oi.ok _ _ _ _ _ _ _ _ _ _ (af fun a h1 v1 k1 e1 s1=>⟨_,v1.cell 1 rfl,?_⟩)
 have r1:=r.kb k1
 have hl:=r1.len
 have TV:n<=maxLen:=Nat.le_trans r.cap r.max
 simp only[maxLen] at TV
 have res:∀v h',KB h h'->dt sp nm attrs=v->K (.int .u8 v) h':=fun v h' k' e=>by rw[<-e];exact hk h' k'
 refine bh (fun e1=>aF ?_) fun e1=>aE (bh (fun e2=>aF ?_) fun e2=>aE ?_)
 ·have yes:nm ∈ FE->K (.int .u8 2) h1:=fun hm=>res 2 h1 k1 (by
   unfold dt
   rw[if_pos ⟨e1,by unfold cq bm;rw[if_neg (by decide),if_neg (by decide),if_pos rfl];exact decide_eq_true hm⟩])
  refine bh (fun e=>yes (by rw[e];decide)) fun e3=>bh (fun e=>yes (by rw[e];decide)) fun e4=>bh (fun e=>yes (by rw[e];decide)) fun e5=>res 0 h1 k1 ?_
  have dk:¬(sp=1/\cq 1 nm=true):=fun h=>by
   have h2:=h.2
   unfold cq bm at h2
   rw[if_neg (by decide),if_neg (by decide),if_pos rfl] at h2
   have hm:=of_decide_eq_true h2
   simp only[FE,List.mem_cons,List.not_mem_nil,or_false] at hm
   rcases hm with h | h | h
   ·exact e3 h
   ·exact e4 h
   ·exact e5 h
  unfold dt
  rw[if_neg dk,if_pos (fun h=>by omega)]
 ·have dk:¬(sp=1/\cq 1 nm=true):=fun h=>by omega
  have spec:cq 2 nm=bm qZ nm:=rfl
  have yes:nm ∈ qZ->nm≠Gs->K (.int .u8 1) h1:=fun hm bI=>res 1 h1 k1 (by
   unfold dt
   rw[if_neg dk,if_neg (fun h=>h ⟨e2,by rw[spec];exact decide_eq_true hm⟩),if_pos bI])
  refine bh (fun e=>yes (by rw[e];decide) (by rw[e];decide)) fun e3=>bh (fun e=>yes (by rw[e];decide) (by rw[e];decide)) fun e4=>bh (fun e=>yes (by rw[e];decide) (by rw[e];decide)) fun e5=>bh (fun e=>yes (by rw[e];decide) (by rw[e];decide)) fun e6=>bh (fun e=>yes (by rw[e];decide) (by rw[e];decide)) fun e7=>?_
  have only:nm ∈ qZ->nm=Gs:=fun hm=>by
   simp only[qZ,List.mem_cons,List.not_mem_nil,or_false] at hm
   rcases hm with h | h | h | h | h | h
   ·exact h
   ·exact absurd h e3
   ·exact absurd h e4
   ·exact absurd h e5
   ·exact absurd h e6
   ·exact absurd h e7
  have zero:(nm=Gs->attrs.any gH=false)->dt sp nm attrs=0:=fun hz=>by
   unfold dt
   rw[if_neg dk]
   by_cases hm:nm ∈ qZ
   ·have e:=only hm
    rw[if_neg (fun h=>h ⟨e2,by rw[spec];exact decide_eq_true hm⟩),if_neg (fun h=>h e),if_neg (by rw[hz e];decide)]
   ·rw[if_pos (fun h=>by have:=h.2;rw[spec] at this;exact hm (of_decide_eq_true this))]
  refine⟨n+1,?_⟩
  have key:∀k i h2,i+k=n->(nm=Gs->(attrs.take i).any gH=false)->KB h1 h2->
    Oi.G2 (fun h=>Oi.n4 (fun y4 h=>K (.int .u8 y4) h) (fun y4 h=>K (.int .u8 y4) h) h) (fun h=>Oi.n4 (fun y4 h=>K (.int .u8 y4) h) (fun y4 h=>K (.int .u8 y4) h) h) (fun h=>Oi.n4 (fun y4 h=>K (.int .u8 y4) h) (fun y4 h=>K (.int .u8 y4) h) h) (fun y4 h=>K (.int .u8 y4) h) (k+1) a nm (i:Int) h2:=by
   intro k
   induction k with
   | zero=>
    intro i h2 hi V3 k2
    refine⟨_,_,_,(v1.kb k2).cell 2 rfl,bX (by omega) (res 0 h2 (k1.trans k2) (zero fun e=>?_))⟩
    have:=V3 e
    rwa[List.take_of_length_le (by omega)] at this
   | succ k ih=>
    intro i h2 hi V3 k2
    have bM:i<attrs.length:=by omega
    refine⟨_,_,_,(v1.kb k2).cell 2 rfl,bQ (by omega) (bh (fun ea=>?_) fun ea=>res 0 h2 (k1.trans k2) (zero fun e=>absurd e ea))⟩
    have ea:nm=Gs:=ea
    refine⟨_,_,_,(v1.kb k2).cell 2 rfl,(r1.kb k2).bn (i:=i) bM rfl fun q hA=>⟨_,hA.snd.str.1,yd (hv _ (List.getElem_mem bM)) fun h3 k3=>Bj ?_⟩⟩
    have Nb:=k2.trans k3
    refine⟨_,_,_,(v1.kb Nb).cell 2 rfl,(r1.kb Nb).bn (i:=i) bM rfl fun q2 sA=>⟨_,sA.fst.str.1,?_⟩⟩
    have jO:(attrs.take (i+1)).any gH=gH attrs[i]:=by
     rw[List.take_add_one,List.getElem?_eq_getElem bM,List.any_append,V3 ea]
     simp
    have next:gH attrs[i]=false->bc .i64 ((i:Int)+1)/\Oi.G2 (fun h=>Oi.n4 (fun y4 h=>K (.int .u8 y4) h) (fun y4 h=>K (.int .u8 y4) h) h) (fun h=>Oi.n4 (fun y4 h=>K (.int .u8 y4) h) (fun y4 h=>K (.int .u8 y4) h) h) (fun h=>Oi.n4 (fun y4 h=>K (.int .u8 y4) h) (fun y4 h=>K (.int .u8 y4) h) h) (fun y4 h=>K (.int .u8 y4) h) (k+1) a nm ((i:Int)+1) h3:=fun he=>
     ⟨aG (by omega) (by omega),ih (i+1) h3 (by omega) (fun _=>by rw[jO];exact he) Nb⟩
    have aam:gH attrs[i]=true->K (.int .u8 2) h3:=fun he=>res 2 h3 (k1.trans Nb) (by
     unfold dt
     rw[if_neg dk,if_neg (fun h=>h ⟨e2,by rw[spec,ea];decide⟩),if_neg (fun h=>h ea),if_pos (List.any_eq_true.2 ⟨_,List.getElem_mem bM,he⟩)])
    refine bh (fun e1=>bh (fun e2=>aam ?_) fun e2=>bh (fun e3=>aam ?_) fun e3=>next ?_) fun e1=>next ?_
    ·unfold gH
     rw[decide_eq_true (show attrs[i].1=Gr from e1),decide_eq_true (show oS attrs[i].2=Z5 from e2)];rfl
    ·unfold gH
     rw[decide_eq_true (show attrs[i].1=Gr from e1),decide_eq_true (show oS attrs[i].2=Z7 from e3),Bool.or_true];rfl
    ·unfold gH
     rw[decide_eq_false (show¬oS attrs[i].2=Z5 from e2),decide_eq_false (show¬oS attrs[i].2=Z7 from e3)];simp
    ·unfold gH
     rw[decide_eq_false (show¬attrs[i].1=Gr from e1)];rfl
  exact key n 0 h1 (by omega) (fun _=>rfl) (KB.refl _)
 ·refine res 0 h1 k1 ?_
  unfold dt
  rw[if_neg (fun h=>e1 h.1),if_pos (fun h=>e2 h.1)]
end
section
variable {h:H} {K:KV} {col:cd} {s s0:Nat} {w t:Addr} {ns:List ay} {op:List aP} {mk:List aS} {fo:Bool} {hi:Int} {x:aP}
theorem uu (T:dD h col s t ns) (G:aV ns) {id:Int} (hk:K (.int .i64 (gZ ns id)) h):zC 133 [.pointer (some t),.int .i64 id] h K:=by
 have eJ:id<0->ju ns id= -1:=fun h=>by
  obtain⟨r,hr,e⟩:=G.root
  unfold ju
  rw[Int.toNat_of_nonpos (by omega),hr]
  exact e
 have e:gZ ns id=ju ns id:=by
  unfold gZ
  by_cases h0:0<=id
  ·rw[if_pos h0];rfl
  ·rw[if_neg h0,eJ (by omega)]
 rw[e] at hk
 exact MR T hk eJ
theorem eV (W:bs h col s 58 w t op mk fo hi) (bI:0<op.length) (hl:op.length<=1000000) (hk:∀h',KB h h'->K (.agg ⟨aX (dR op)⟩) h'):
  zC 59 [.pointer (some w)] h K:=by
 obtain⟨ob,oc,mb,mn,mc,v,o,om⟩:=W.ex
 have e:((op.length:Int) - 1)=((op.length - 1:Nat):Int):=by omega
 refine Xeo.ok _ _ _ (af fun a1 h1 v1 k1 e1 s1=>aa ⟨_,_,_,(v.kb k1).cell 1 rfl,aa ⟨_,_,_,(v.kb k1).cell 1 rfl,aG (by omega) (by omega),?_⟩⟩)
 rw[e]
 have hx:op[op.length - 1]'(by omega)=dR op:=(aJ (by omega)).symm
 exact(o.kb k1).row.bn (i:=op.length - 1) (by omega) rfl fun q hA=>df hA fun ow=>aQ v1 (by show 4<=4;omega) fun h2 v2 k2 s2=>ib (m:=op[op.length - 1]'(by omega)) v2 (by rw[hx];exact hk h2 (KB.step k1 k2 (by omega)))
theorem iw (T:dD h col s0 t ns) (G:aV ns) (W:bs h col s 58 w t op mk fo hi) (hl:op.length<=1000000) (hk:∀h',KB h h'->K (.tuple ⟨[.int .i64 (cv ns op fo x).1,.int .i64 (cv ns op fo x).2]⟩) h'):
  zC 58 [.pointer (some w),.agg ⟨aX x⟩] h K:=by
 obtain⟨ob,oc,mb,mn,mc,v,o,om⟩:=W.ex
 refine Xet.ok _ _ _ _ _ _ _ (af fun a1 h1 v1 k1 e1 s1=>?_)
 have res:∀p h',KB h h'->cv ns op fo x=p->K (.tuple ⟨[.int .i64 p.1,.int .i64 p.2]⟩) h':=fun p h' k' e=>by rw[<-e];exact hk h' k'
 have k3:∀g:Bool,g=bm u4 x.2.2.1->Xet.n3 (some w) a1 g (fun y4 y5 h=>K (.tuple ⟨[(.int .i64 y4),(.int .i64 y5)]⟩) h) (fun y4 y5 h=>K (.tuple ⟨[(.int .i64 y4),(.int .i64 y5)]⟩) h) h1:=by
  intro g hg
  have no:(fo&&tw x)=false->∃i,cell h1 (a1.add 0)=some (.int .i64 i)/\K (.tuple ⟨[(.int .i64 i),(.int .i64 (-1))]⟩) h1:=fun e=>⟨_,v1.cell 0 rfl,res (x.1, -1) h1 k1 (by unfold cv;rw[e];rfl)⟩
  refine aa ⟨_,(v.kb k1).cell 3 rfl,aR (fun ef=>⟨_,v1.cell 1 rfl,bh (fun esp=>aR (fun eg=>?_) fun eg=>no ?_) fun esp=>no ?_⟩) fun ef=>no (by rw[ef];rfl)⟩
  ·-- in the table
   have hgr:(fo&&tw x)=true:=by unfold tw;rw[ef,<-hg,eg,decide_eq_true (show x.2.1=0 from esp)];rfl
   refine aa ⟨_,_,_,(v.kb k1).cell 1 rfl,af fun a3 h3 v3 k3 e3 s3=>?_⟩
   have fX:=k1.trans k3
   refine pr (o.kb fX).row (iN (ws:=fM) v3 (by decide) (by decide)) fun h4 k4=>aN ?_
   have ov:=fX.trans k4
   have v4:=v.kb ov
   have o4:=(o.kb ov).row
   have hru: -1<=bO op fM/\bO op fM<(op.length:Int):=pT fM op op.length
   refine bh (fun eJ=>res (0, -1) h4 ov (by unfold cv;rw[if_pos hgr,if_pos eJ])) fun qE=>?_
   have YL:(bO op fM).toNat<op.length:=by omega
   have Fo:op[(bO op fM).toNat]=op.getD (bO op fM).toNat aI:=(aJ YL).symm
   refine aa ⟨_,v4.cell 0 rfl,aa ⟨_,_,_,v4.cell 1 rfl,o4.idx (i:=bO op fM) (by omega) (by omega) rfl fun q hi hA=>⟨_,hA.fst.int.1,?_⟩⟩⟩
   rw[Fo]
   refine uu (T.kb ov) G (aN (bh (fun hp=>?_) fun hp=>?_))
   ·refine aa ⟨_,_,_,v4.cell 1 rfl,o4.idx (i:=bO op fM) (by omega) (by omega) rfl fun q hi hA=>⟨_,hA.fst.int.1,?_⟩⟩
    rw[Fo]
    exact res (gZ ns (op.getD (bO op fM).toNat aI).1,(op.getD (bO op fM).toNat aI).1) h4 ov (by unfold cv;rw[if_pos hgr,if_neg qE,if_pos hp])
   ·have e:(if(0:Int)>(bO op fM - 1) then(0:Int) else(bO op fM - 1))=(((bO op fM).toNat - 1:Nat):Int):=by split <;> omega
    refine aa ⟨_,_,_,v4.cell 1 rfl,aG (by omega) (by omega),?_⟩
    rw[e]
    refine o4.bn (i:=(bO op fM).toNat - 1) (by omega) rfl fun q hA=>⟨_,hA.fst.int.1,?_⟩
    have hg3:op[(bO op fM).toNat - 1]'(by omega)=op.getD ((bO op fM).toNat - 1) aI:=(aJ (by omega)).symm
    rw[hg3]
    exact res ((op.getD ((bO op fM).toNat - 1) aI).1, -1) h4 ov (by unfold cv;rw[if_pos hgr,if_neg qE,if_neg hp])
  ·unfold tw;rw[<-hg,eg];simp
  ·unfold tw;rw[decide_eq_false (show¬x.2.1=0 from esp)];simp
 have yes:x.2.2.1 ∈ u4->true=bm u4 x.2.2.1:=fun hm=>(decide_eq_true hm).symm
 refine⟨_,v1.cell 2 rfl,bh (fun e=>k3 _ (yes (by rw[e];decide))) fun e1=>⟨_,v1.cell 2 rfl,bh (fun e=>k3 _ (yes (by rw[e];decide))) fun e2=>⟨_,v1.cell 2 rfl,bh (fun e=>k3 _ (yes (by rw[e];decide))) fun e3=>⟨_,v1.cell 2 rfl,bh (fun e=>k3 _ (yes (by rw[e];decide))) fun e4=>⟨_,v1.cell 2 rfl,bh (fun e=>k3 _ (yes (by rw[e];decide))) fun e5=>k3 _ ?_⟩⟩⟩⟩⟩
 refine(decide_eq_false fun hm=>?_).symm
 simp only[u4,List.mem_cons,List.not_mem_nil,or_false] at hm
 rcases hm with h | h | h | h | h
 ·exact e1 h
 ·exact e2 h
 ·exact e3 h
 ·exact e4 h
 ·exact e5 h
end
section
variable {A B:Nat->Prop} {h:H} {b b2:OA} {n c n2 c2:Nat} {ns:List Bs} {s row:Bs} {x:aP} {sc sp:Int}
theorem iF (ws:List Bs) {k:Nat} (hn:ws.length=k) (hs:tK ws=true) (hl:Nat.ble ws.length maxLen=true) {h':H} {a:Addr} {t:Nat} (v:Var h' a t (ws.map S)) {K:KV} (hk:K (.bool (bm ws s)) h'):zC 174 [.slice (some a) k k,S s] h' K:=by
 subst hn
 exact jm (iN v hs hl) hk
theorem gv {K:KV} (hk:∀h',KB h h'->K (.bool (cq sp s)) h'):zC 177 [.int .u8 sp,S s] h K:=by
 refine Xea.ok _ _ _ _ (bh (fun e=>aF ?_) fun e=>aE <| bh (fun e2=>aF ?_) fun e2=>aE <| bh (fun e3=>?_) fun e3=>?_)
 ·refine af (cs:=Dd.map S) fun a h1 v1 k1 _ _=>iF Dd rfl (by decide+kernel) (by decide+kernel) v1 (ag (dm (K:=fun b=>K (.bool b) h1) ?_))
  have:=hk h1 k1
  unfold cq at this;rwa[if_pos e] at this
 ·refine af (cs:=qZ.map S) fun a h1 v1 k1 _ _=>iF qZ rfl (by decide+kernel) (by decide+kernel) v1 (ag (dm (K:=fun b=>K (.bool b) h1) ?_))
  have:=hk h1 k1
  unfold cq at this;rwa[if_neg e,if_pos e2] at this
 ·refine af (cs:=FE.map S) fun a h1 v1 k1 _ _=>iF FE rfl (by decide+kernel) (by decide+kernel) v1 (ag (dm (K:=fun b=>K (.bool b) h1) ?_))
  have:=hk h1 k1
  unfold cq at this;rwa[if_neg e,if_neg e2,if_pos e3] at this
 ·have:=hk h (KB.refl h)
  unfold cq at this;rwa[if_neg e,if_neg e2,if_neg e3] at this
theorem jE (ws:List Bs) {k:Nat} (hn:ws.length=k) (hs:tK ws=true) (hl:Nat.ble ws.length maxLen=true) {h':H} {a:Addr} {t:Nat} (v:Var h' a t (ws.map S)) {K:KV} (hk:∀h2,KB h' h2->K (.bool (jC x ws)) h2):
  zC 181 [.agg ⟨aX x⟩,.slice (some a) k k] h' K:=by
 subst hn
 exact jX (iN v hs hl) hk
end
theorem NK:oG Tryz.prog cL 104 9 16:=js (sz:=1) (by kernel_rfl) rfl
section
variable {A B:Nat->Prop} {h:H} {b b2:OA} {n c n2 c2:Nat} {ns:List Bs} {s row:Bs} {x:aP} {sc sp:Int}
theorem rq (e:sc=3):eC x sc=jC x tZ:=by unfold eC;rw[if_pos e]
theorem ru (e:sc≠3) (e2:x.2.1≠0):eC x sc=cq x.2.1 x.2.2.1:=by unfold eC;rw[if_neg e,if_pos e2]
theorem fB (e:sc≠3) (e2:x.2.1=0):eC x sc=(bm w9 x.2.2.1||(decide (sc=1)&&bm pG x.2.2.1)||(decide (sc=2)&&bm gw x.2.2.1)):=by unfold eC;rw[if_neg e,if_neg (fun h=>h e2)]
theorem qx (e2:x.2.1=0):jC x ns=bm ns x.2.2.1:=by unfold jC;rw[decide_eq_true e2,Bool.true_and]
theorem BV (m:ML h) (hs:x.2.2.1.length<=9000000000000000000) {K:KV} (hk:∀h',KB h h'->K (.bool (eC x sc)) h'):zC 216 [.agg ⟨aX x⟩,.int .u8 sc] h K:=by
 refine SC.ok _ _ _ _ _ _ _ (af fun a h1 v1 k1 _ _=>?_)
 have last:∀h2,KB h1 h2->sc≠3->x.2.1=0->(decide (sc=1)&&bm pG x.2.2.1)=false->(decide (sc=2)&&bm gw x.2.2.1)=false->
   SC.n3 a (fun y4 h=>K (.bool y4) h) (fun y4 h=>K (.bool y4) h) h2:=fun h2 k2 e1 e2 e3 e4=>by
  refine⟨_,(v1.kb k2).cell 2 rfl,gA w9 Pc (by decide+kernel) (by decide+kernel) ((m.kb k1).kb k2) hs (ag (dm (K:=fun b=>K (.bool b) h2) ?_))⟩
  have:=hk h2 (k1.trans k2)
  rwa[fB e1 e2,e3,e4,Bool.or_false,Bool.or_false] at this
 have second:∀h2,KB h1 h2->sc≠3->x.2.1=0->(decide (sc=1)&&bm pG x.2.2.1)=false->
   SC.Ju sc a false (fun z2 z20 h=>SC.uy z2 z20 (fun z2 h=>SC.n3 z2 (fun y4 h=>K (.bool y4) h) (fun y4 h=>K (.bool y4) h) h) (fun z2 h=>SC.n3 z2 (fun y4 h=>K (.bool y4) h) (fun y4 h=>K (.bool y4) h) h) (fun y4 h=>K (.bool y4) h) h)
    (fun z2 h=>SC.n3 z2 (fun y4 h=>K (.bool y4) h) (fun y4 h=>K (.bool y4) h) h) (fun y4 h=>K (.bool y4) h) h2:=fun h2 k2 e1 e2 e3=>by
  refine bh (fun e=>ib (v1.kb k2) (af (cs:=gw.map S) fun a3 h3 v3 k3 _ _=>lT gw rfl (by decide+kernel) (by decide+kernel) v3 fun h4 k4=>ag (aR (fun ht=>?_) fun ht=>?_))) fun e=>last h2 k2 e1 e2 e3 (by rw[decide_eq_false e,Bool.false_and])
  ·rw[qx e2] at ht
   have:=hk h4 (((k1.trans k2).trans k3).trans k4)
   rwa[fB e1 e2,ht,decide_eq_true e,Bool.and_self,Bool.or_true] at this
  ·rw[qx e2] at ht
   exact last h4 ((k2.trans k3).trans k4) e1 e2 e3 (by rw[ht,Bool.and_false])
 refine bh (fun e=>ib v1 (af (cs:=tZ.map S) fun a3 h3 v3 k3 _ _=>lT tZ rfl (by decide+kernel) (by decide+kernel) v3 fun h4 k4=>ag (dm (K:=fun b=>K (.bool b) h4) ?_))) fun e=>⟨_,v1.cell 1 rfl,bh (fun e2=>?_) fun e2=>?_⟩
 ·have:=hk h4 ((k1.trans k3).trans k4)
  rwa[rq e] at this
 ·refine bh (fun e3=>ib v1 (af (cs:=pG.map S) fun a3 h3 v3 k3 _ _=>lT pG rfl (by decide+kernel) (by decide+kernel) v3 fun h4 k4=>ag (aR (fun ht=>?_) fun ht=>?_))) fun e3=>second h1 (KB.refl h1) e e2 (by rw[decide_eq_false e3,Bool.false_and])
  ·rw[qx e2] at ht
   have:=hk h4 ((k1.trans k3).trans k4)
   rwa[fB e e2,ht,decide_eq_true e3,Bool.and_self,Bool.or_true,Bool.true_or] at this
  ·rw[qx e2] at ht
   exact second h4 (k3.trans k4) e e2 (by rw[ht,Bool.and_false])
 ·refine⟨_,v1.cell 1 rfl,_,v1.cell 2 rfl,fN (m.kb k1) hs (ag (dm (K:=fun b=>K (.bool b) h1) ?_))⟩
  have:=hk h1 k1
  rwa[ru e e2] at this
theorem vJ (hs:x.2.2.1.length<=9000000000000000000) {K:KV} (hk:∀h',KB h h'->K (.bool (eC x sc)) h'):zC 205 [.agg ⟨aX x⟩,.int .u8 sc] h K:=by
 refine Xec.ok _ _ _ _ _ _ _ (af fun a h1 v1 k1 _ _=>?_)
 refine bh (fun e=>ib v1 (af (cs:=tZ.map S) fun a3 h3 v3 k3 _ _=>jE tZ rfl (by decide+kernel) (by decide+kernel) v3 fun h4 k4=>ag (dm (K:=fun b=>K (.bool b) h4) ?_))) fun e=>⟨_,v1.cell 1 rfl,bh (fun e2=>?_) fun e2=>⟨_,v1.cell 1 rfl,_,v1.cell 2 rfl,gv fun h2 k2=>ag (dm (K:=fun b=>K (.bool b) h2) ?_)⟩⟩
 ·have:=hk h4 ((k1.trans k3).trans k4)
  rwa[rq e] at this
 ·refine af (cs:=w9.map S) fun a2 h2 v2 k2 _ _=>?_
  have r2:Row cL (fun _=>True) h2 (some a2) 9 9 w9:=iN v2 (by decide+kernel) (by decide+kernel)
  have tU:=k1.trans k2
  refine bh (fun e3=>af (cs:=pG.map S) fun a3 h3 v3 k3 _ _=>?_) fun e3=>bh (fun e4=>af (cs:=gw.map S) fun a3 h3 v3 k3 _ _=>?_) fun e4=>⟨_,(v1.kb k2).cell 2 rfl,jm r2 (ag (dm (K:=fun b=>K (.bool b) h2) ?_))⟩
  ·have r3:Row cL (fun _=>True) h3 (some a3) 2 2 pG:=iN v3 (by decide+kernel) (by decide+kernel)
   refine Row.Hi NK (r2.kb k3) (.inr (by omega)) r3 (fun h=>by cases h) (by decide) (by decide) (fun h=>by cases h) fun c4 h4 _ o4 k4=>aC (bX (by omega) ⟨_,((v1.kb k2).kb (k3.trans k4)).cell 2 rfl,jm o4.row (ag (dm (K:=fun b=>K (.bool b) h4) ?_))⟩)
   have:=hk h4 ((tU.trans k3).trans k4)
   rw[fB e e2,decide_eq_true e3,decide_eq_false (by omega:¬sc=2)] at this
   have e5:bm (w9++pG) x.2.2.1=(bm w9 x.2.2.1||(true&&bm pG x.2.2.1)||(false&&bm gw x.2.2.1)):=by
    unfold bm;simp
   rwa[e5]
  ·have r3:Row cL (fun _=>True) h3 (some a3) 1 1 gw:=iN v3 (by decide+kernel) (by decide+kernel)
   refine Row.Hi NK (r2.kb k3) (.inr (by omega)) r3 (fun h=>by cases h) (by decide) (by decide) (fun h=>by cases h) fun c4 h4 _ o4 k4=>aC ⟨_,((v1.kb k2).kb (k3.trans k4)).cell 2 rfl,jm o4.row (ag (dm (K:=fun b=>K (.bool b) h4) ?_))⟩
   have:=hk h4 ((tU.trans k3).trans k4)
   rw[fB e e2,decide_eq_false e3,decide_eq_true e4] at this
   have e5:bm (w9++gw) x.2.2.1=(bm w9 x.2.2.1||(false&&bm pG x.2.2.1)||(true&&bm gw x.2.2.1)):=by
    unfold bm;simp
   rwa[e5]
  ·have:=hk h2 tU
   rwa[fB e e2,decide_eq_false e3,decide_eq_false e4,Bool.false_and,Bool.false_and,Bool.or_false,Bool.or_false] at this
 ·have:=hk h2 (k1.trans k2)
  rwa[ru e e2] at this
end
section
variable {A B:Nat->Prop} {h:H} {b b2:OA} {n c n2 c2:Nat} {l:List aP} {ns:List Bs} {s:Bs} {sc:Int}
theorem QT {p q:Nat} {RD:TB RT [.o p .r,.g q [.i .i64,.i .u8,.s,.i .u8]]} {Mid:H->(H->Prop)->Prop} {Kc:H->H->Prop} {Fin:H->H->(H->Prop)->Prop} {h1:H} {i:Int} {x:aP} (h:RD (.int .i64 i) x.1 x.2.1 x.2.2.1 x.2.2.2 Mid Kc Fin h1):
  dB [.o p .r,.g q [.i .i64,.i .u8,.s,.i .u8]] [.int .i64 i,.agg ⟨aX x⟩] RD fun K=>K Mid Kc Fin h1:=h
theorem nF (m:ML h) (hA:∀k,A k->k<h.size) (r:Row bp A h b n c l) (hl:∀x ∈ l,x.2.2.1.length<=9000000000000000000) (rn:Row cL B h b2 n2 c2 ns) {K:KV} (hk:∀h',KB h h'->K (.bool (lg l sc ns)) h'):
  zC 191 [.slice b n c,.int .u8 sc,.slice b2 n2 c2] h K:=by
 refine Xcz.ok _ _ _ _ _ _ _ _ _ (af fun x1 h1 v1 k1 e1 s1=>af fun x2 h2 v2 k2 e2 s2=>af fun y h3 v3 k3 e3 s3=>iE fun a h4 va k4 ea=>?_)
 have qy:=(k1.trans k2).trans k3
 have jo:=qy.trans k4
 have r4:=r.kb jo
 refine qw (f:=II sc ns) (val:=.bool) (d:=false) (res:=lg l sc ns) jo r4 hA va (v3.kb k4) (by omega) (by omega) rfl (fun i hi h5 Kc k5 u3 mi BP=>QT (kW k5 (fun k hk=>?_) (Nat.le_refl _) fun ax hb kb vb=>?_)) (fun h' k' hd v=>wc hd k' jo.1 v fun l6 Vl Vm=>⟨_,Vm.dy rfl,hk l6 Vl⟩)
 ·rcases hk with hk | hk
  ·exact Nat.lt_of_lt_of_le (hA _ hk) jo.1
  ·rw[hk];exact va.lt
 ·have w2:=((v2.kb k3).kb k4).kb kb
  have w1:=(((v1.kb k2).kb k3).kb k4).kb kb
  refine ib vb ⟨_,_,_,w2.dy rfl,tu ((rn.kb jo).kb kb) fun h6 k6=>ag (aR (fun ht=>mi hb h6 true kb k6 (by unfold II;rw[if_pos ht])) fun hf=>ib (vb.kb k6) ⟨_,(w1.kb k6).dy rfl,BV (((m.kb jo).kb kb).kb k6) (hl _ (List.getElem_mem _)) fun h7 k7=>ag (aR (fun ht=>BP hb h7 kb (k6.trans k7) (by unfold II;rw[if_neg (by rw[hf];simp),if_pos ht])) fun Xp=>u3 hb h7 kb (k6.trans k7) (by unfold II;rw[if_neg (by rw[hf];simp),if_neg (by rw[Xp];simp)]))⟩)⟩
theorem nq (r:Row bp A h b n c l) (hl:∀x ∈ l,x.2.2.1.length<=9000000000000000000) (rn:Row cL B h b2 n2 c2 ns) {K:KV} (hk:∀h',KB h h'->K (.bool (lg l sc ns)) h'):
  zC 168 [.slice b n c,.int .u8 sc,.slice b2 n2 c2] h K:=by
 refine Xd8.ok _ _ _ _ _ _ _ _ _ ?_
 have rB:=r.len
 have hm:n<=maxLen:=Nat.le_trans r.cap r.max
 simp only[maxLen] at hm
 refine⟨aG (by omega) (by omega),n+1,?_⟩
 have key:∀i h5,i<=n->KB h h5->eW (II sc ns) false l i=lg l sc ns->
   Xd8.cR (fun h=>K (.bool false) h) (fun h=>K (.bool false) h) (fun y6 h=>K (.bool y6) h) (i+1) b n c sc b2 n2 c2 ((i:Int) - 1) h5:=by
  intro i
  induction i with
  | zero=>
   intro h5 _ k5 e
   refine bX (by omega) ?_
   have:=hk h5 k5
   rw[<-e] at this;exact this
  | succ i ih=>
   intro h5 hi k5 e
   have bM:i<l.length:=by omega
   have hx:((i+1:Nat):Int) - 1=(i:Int):=by omega
   rw[hx]
   unfold eW at e
   rw[aJ bM] at e
   have r5:=r.kb k5
   refine bQ (by omega) (r5.bn bM rfl fun a hA=>df hA fun _=>jX (rn.kb k5) fun h6 k6=>ag (aR (fun ht=>?_) fun hf=>(r5.kb k6).bn bM rfl fun a hA=>df hA fun _=>vJ (hl _ (List.getElem_mem _)) fun h7 k7=>ag (aR (fun hb=>?_) fun hb=>⟨aG (by omega) (by omega),ih h7 (by omega) ((k5.trans k6).trans k7) ?_⟩)))
   ·rw[show II sc ns i l[i]=some true by unfold II;rw[if_pos ht]] at e
    have:=hk h6 (k5.trans k6)
    rw[<-e] at this;exact this
   ·rw[show II sc ns i l[i]=some false by unfold II;rw[if_neg (by rw[hf];simp),if_pos hb]] at e
    have:=hk h7 ((k5.trans k6).trans k7)
    rw[<-e] at this;exact this
   ·rw[show II sc ns i l[i]=none by unfold II;rw[if_neg (by rw[hf];simp),if_neg (by rw[hb];simp)]] at e
    exact e
 exact key n h (Nat.le_refl _) (KB.refl h) (by rw[<-rB];rfl)
theorem mG (r:Row bp A h b n c l) {K:KV} (hk:∀h',KB h h'->K (.int .i64 (iA l s)) h'):
  zC 169 [.slice b n c,S s] h K:=by
 refine Xd7.ok _ _ _ _ _ _ ?_
 have rB:=r.len
 have hm:n<=maxLen:=Nat.le_trans r.cap r.max
 simp only[maxLen] at hm
 refine⟨n+1,?_⟩
 have key:∀i h5,i<=n->KB h h5->eW (fI s) 0 l i=iA l s->
   Xd7.cR (fun z5 h=>Xd7.n4 z5 (fun y4 h=>K (.int .i64 y4) h) (fun y4 h=>K (.int .i64 y4) h) h) (fun z5 h=>Xd7.n4 z5 (fun y4 h=>K (.int .i64 y4) h) (fun y4 h=>K (.int .i64 y4) h) h) (fun y4 h=>K (.int .i64 y4) h) (i+1) b n c s (i:Int) h5:=by
  intro i
  induction i with
  | zero=>
   intro h5 _ k5 e
   refine bX (by omega) ?_
   have:=hk h5 k5
   rw[<-e] at this;exact this
  | succ i ih=>
   intro h5 hi k5 e
   have bM:i<l.length:=by omega
   have hx:((i+1:Nat):Int) - 1=(i:Int):=by omega
   unfold eW at e
   rw[aJ bM] at e
   have r5:=r.kb k5
   have stop:∀h8,KB h5 h8->fI s i l[i]=some ((i:Int)+1)->K (.int .i64 ((i+1:Nat):Int)) h8:=fun h8 k8 hn=>by
    rw[hn] at e
    have:=hk h8 (k5.trans k8)
    rw[<-e] at this
    rw[show((i+1:Nat):Int)=(i:Int)+1 by omega]
    exact this
   refine bQ (by omega) ?_
   simp only[hx]
   refine⟨aG (by omega) (by omega),r5.bn bM rfl fun a hA=>⟨_,(hA.snd.dH (k:=2) rfl).fst.str.1,bh (fun e2=>stop h5 (KB.refl _) (by unfold fI;rw[if_pos (.inr (.inl e2))])) fun e2=>⟨aG (by omega) (by omega),r5.bn bM rfl fun a hA=>df hA fun _=>af (cs:=IH.map S) fun a8 h8 v8 k8 _ _=>jE IH rfl (by decide+kernel) (by decide+kernel) v8 fun h9 k9=>ag (aR (fun ht=>⟨aG (by omega) (by omega),ih h9 (by omega) ((k5.trans k8).trans k9) ?_⟩) fun hf=>stop h9 (k8.trans k9) ?_)⟩⟩⟩
   ·have h1:l[i].2.1=0/\bm IH l[i].2.2.1=true:=by unfold jC at ht;simpa using ht
    rw[show fI s i l[i]=none by
     unfold fI
     rw[if_neg]
     rintro(h | h | h)
     ·exact h h1.1
     ·exact e2 h
     ·rw[h1.2] at h;cases h] at e
    exact e
   ·unfold fI
    rw[if_pos]
    by_cases h0:l[i].2.1=0
    ·exact .inr (.inr (by unfold jC at hf;rw[decide_eq_true h0,Bool.true_and] at hf;exact hf))
    ·exact .inl h0
 exact key n h (Nat.le_refl _) (KB.refl h) (by rw[<-rB];rfl)
end
section
variable {A B:Nat->Prop} {h:H} {b b2:OA} {n c n2 c2:Nat} {l:List aS}
theorem jM {f:Value} {p:aS->Bool} (r:Row aY A h b n c l)
  (hf:∀x h1 b' n' c' (next:KV),x ∈ l->KB h h1->cG A h1 x b' n' c'->(∀h2,KB h1 h2->next (.bool (p x)) h2)->fT Tryz.prog 4 f ⟨[.agg ⟨[.int .i64 x.1,S x.2.1,.slice b' n' c']⟩]⟩ h1 next)
  {K:KV} (hk:∀h',KB h h'->K (.int .i64 (cK l p)) h'):
  zC 193 [.slice b n c,f] h K:=by
 refine Xga.ok _ _ _ _ _ _ ?_
 have hl:=r.len
 have hm:n<=maxLen:=Nat.le_trans r.cap r.max
 simp only[maxLen] at hm
 refine⟨n+1,?_⟩
 have key:∀k i h1,i+k=n->KB h h1->(∀j (h1:j<l.length),j<i->p l[j]=false)->
   Xga.cR (fun h=>K (.int .i64 (-1)) h) (fun h=>K (.int .i64 (-1)) h) (fun y4 h=>K (.int .i64 y4) h) (k+1) b n c f (n:Int) (i:Int) h1:=by
  intro k
  induction k with
  | zero=>
   intro i h1 hi k1 bq
   have:=hk h1 k1
   rw[nc fun j hj=>bq j hj (by omega)] at this
   exact bX (by omega) this
  | succ k ih=>
   intro i h1 hi k1 bq
   have bM:i<l.length:=by omega
   refine bQ (by omega) ((r.kb k1).bn bM rfl fun a hA=>Gi hA fun b' n' c' hR=>hf _ h1 b' n' c' _ (List.getElem_mem _) k1 hR fun h2 k2=>?_)
   refine aR (fun hd=>?_) fun hd=>⟨aG (by omega) (by omega),ih (i+1) h2 (by omega) (k1.trans k2) fun j h1 hj=>?_⟩
   ·have:=hk h2 (k1.trans k2)
    rwa[mZ bM hd bq] at this
   ·by_cases e:j<i
    ·exact bq j h1 e
    ·have:j=i:=by omega
     subst this
     exact hd
 exact key n 0 h (by omega) (KB.refl h) fun j _ hj=>absurd hj (Nat.not_lt_zero _)
def br (l:List aS) (id:Int):Int:=if id<0 then -1 else cK l fun m=>decide (m.1=id)
theorem rI {id:Int} (r:Row aY A h b n c l) {K:KV} (hk:∀h',KB h h'->K (.int .i64 (br l id)) h'):zC 201 [.slice b n c,.int .i64 id] h K:=by
 refine Xa7.ok _ _ _ _ _ _ (af fun a1 h1 v1 k1 e1 _=>⟨id,v1.dy rfl,bh (fun hn=>?_) fun hn=>?_⟩)
 ·have:=hk h1 k1
  unfold br at this
  rwa[if_pos hn] at this
 ·refine jM (p:=fun m=>decide (m.1=id)) (r.kb k1) (fun x h3 b' n' c' next hx k3 hR hnx=>?_) fun h' k'=>?_
  ·have e:fT Tryz.prog 4 (.func (.func 221) ⟨[]⟩ ⟨[.pointer (some a1)]⟩) ⟨[.agg ⟨[.int .i64 x.1,S x.2.1,.slice b' n' c']⟩]⟩ h3 next=
     zC 221 [.agg ⟨[.int .i64 x.1,S x.2.1,.slice b' n' c']⟩,.pointer (some a1)] h3 fun v h'=>au v fun b=>cond b (next (.bool true) h') (next (.bool false) h'):=by kernel_rfl
   rw[e]
   refine Xa8.ok _ _ _ _ _ _ _ _ (af fun a4 h4 v4 k4 e4 _=>⟨_,v4.cell 0 rfl,_,((v1.kb k3).kb k4).dy rfl,?_⟩)
   have:=hnx h4 k4
   refine bh (fun e=>?_) fun e=>?_
   ·rw[decide_eq_true e] at this;exact this
   ·rw[decide_eq_false e] at this;exact this
  ·have:=hk h' (k1.trans k')
   unfold br at this
   rwa[if_neg hn] at this
theorem gM {id:Int} (r:Row aY A h b n c l) {K:KV} (hk:K (.int .i64 (br l id)) h):zC 171 [.slice b n c,.int .i64 id] h K:=by
 refine Xeg.ok _ _ _ _ _ _ ?_
 have hl:=r.len
 have hm:n<=maxLen:=Nat.le_trans r.cap r.max
 simp only[maxLen] at hm
 refine⟨n+1,?_⟩
 have key:∀k i,i+k=n->(∀j (h1:j<l.length),j<i->decide (l[j].1=id)=false)->
   Xeg.cR (fun h=>K (.int .i64 (-1)) h) (fun h=>K (.int .i64 (-1)) h) (fun y4 h=>K (.int .i64 y4) h) (k+1) b n c id (i:Int) h:=by
  intro k
  induction k with
  | zero=>
   intro i hi bq
   refine bX (by omega) ?_
   have e:br l id= -1:=by
    unfold br
    rw[nc fun j hj=>bq j hj (by omega)]
    split <;> rfl
   rwa[e] at hk
  | succ k ih=>
   intro i hi bq
   have bM:i<l.length:=by omega
   refine bQ (by omega) (bh (fun hid=>r.bn bM rfl fun a hA=>Fx hA.fst fun _=>bh (fun hd=>?_) fun hd=>⟨aG (by omega) (by omega),ih (i+1) (by omega) fun j h1 hj=>?_⟩) fun hid=>?_)
   ·have e:br l id=i:=by
     unfold br
     rw[if_neg (by omega),mZ bM (decide_eq_true hd) bq]
    rwa[e] at hk
   ·by_cases e:j<i
    ·exact bq j h1 e
    ·have:j=i:=by omega
     subst this
     exact decide_eq_false hd
   ·have e:br l id= -1:=by
     unfold br
     rw[if_pos (by omega)]
    rwa[e] at hk
 exact key n 0 (by omega) fun j _ hj=>absurd hj (Nat.not_lt_zero _)
def oh (l:List aS) (s:Bs):Nat->Int
 | 0=> -1
 | i+1=>if(l.getD i (0,[],[])).1<0 then -1 else if(l.getD i (0,[],[])).2.1=s then i else oh l s i
def fC (l:List aS) (s:Bs):Int:=oh l s l.length
theorem qM {s:Bs} (r:Row aY A h b n c l) {K:KV} (hk:K (.int .i64 (fC l s)) h):zC 170 [.slice b n c,S s] h K:=by
 refine VS.ok _ _ _ _ _ _ ?_
 have hl:=r.len
 have hm:n<=maxLen:=Nat.le_trans r.cap r.max
 simp only[maxLen] at hm
 refine⟨aG (by omega) (by omega),n+1,?_⟩
 have key:∀i,i<=n->oh l s i=fC l s->gl l i=behind l->
   VS.cR (fun h=>K (.int .i64 (-1)) h) (fun h=>K (.int .i64 (-1)) h) (fun y4 h=>K (.int .i64 y4) h) (i+1) b n c s ((i:Int) - 1) h:=by
  intro i
  induction i with
  | zero=>
   intro _ e _
   unfold VS.cR LP VS.bS
   refine iD r (aN <| bX (by have:=Int.natCast_nonneg (behind l);omega) ?_)
   rw[<-e] at hk;exact hk
  | succ i ih=>
   intro hi e e2
   have hx:((i+1:Nat):Int) - 1=(i:Int):=by omega
   have bM:i<l.length:=by omega
   unfold oh at e
   unfold gl at e2
   rw[aJ bM] at e e2
   rw[hx]
   unfold VS.cR LP VS.bS
   by_cases eJ:l[i].1<0
   ·rw[if_pos eJ] at e e2
    refine iD r (aN <| bX (by omega) ?_)
    rw[<-e] at hk;exact hk
   ·rw[if_neg eJ] at e e2
    have hle:=pS l i
    refine iD r (aN <| bQ (by omega) (r.bn bM rfl fun a hA=>RH hA.snd.fst fun _=>bh (fun hd=>?_) fun hd=>⟨aG (by omega) (by omega),?_⟩))
    ·rw[if_pos hd] at e
     rw[<-e] at hk;exact hk
    ·rw[if_neg hd] at e
     exact ih (by omega) e e2
 exact key n (Nat.le_refl _) (by rw[<-hl];rfl) (by rw[<-hl];rfl)
theorem wM {s:Bs} (hA:∀k,A k->k<h.size) (r:Row aY A h b n c l) {K:KV} (hk:∀h',KB h h'->K (.int .i64 (fC l s)) h'):zC 152 [.slice b n c,S s] h K:=by
 refine Xa9.ok _ _ _ _ _ _ (af fun xs0 h0 v0 k0 e0 _=>af fun x2 h1 v1 k1 e1 _=>kV ((r.kb k0).kb k1) fun a h2 v2 k2 e2=>?_)
 have hm:n<=maxLen:=Nat.le_trans r.cap r.max
 simp only[maxLen] at hm
 have hl:=r.len
 obtain⟨xs,hB,hE⟩:=kU (((r.kb k0).kb k1).kb k2) v2
 have h01:=k0.1
 have bI:¬(A x2.block∨x2.block=a.block):=fun e=>by
  have:=v1.lt
  rcases e with e | e
  ·have:=hA _ e;omega
  ·omega
 have v12:=v1.kb k2
 have v02:=(v0.kb k1).kb k2
 have gI:KB h h2:=(k0.trans k1).trans k2
 have xM:=gI.1
 have fin:fC l s= -1->∀h3,KB h2 h3->dp h2.size h3->Xa9.n5 x2 [cr h2.size] (fun y4 ds h=>dE ds h fun h=>∃i93,cell h y4=some (.int .i64 i93)/\(K (.int .i64 i93) h)) (fun y4 ds h=>dE ds h fun h=>∃i93,cell h y4=some (.int .i64 i93)/\(K (.int .i64 i93) h)) h3:=by
  intro e h3 k3 hd
  have vx:=v12.kb k3
  refine aQ vx (Nat.le_refl _) fun h7 v7 k7 s7=>?_
  refine iW (vx.dp k7 hd) (KB.step (gI.trans k3) k7 (by omega)) xM v7 fun h' k'=>?_
  rw[e] at hk;exact hk h' k'
 refine⟨xs,vm,_,hE,hB.len,kg (fun xs h'=>KB h2 h'/\∃i,iL A h' l i xs/\oh l s i=fC l s) (fun xs h' l6 ⟨k,i,hb,e⟩ n=>⟨k.nz n (Nat.le_succ _),i,hb.kw n.kw,e⟩) ?_ ?_ xs h2 ⟨KB.refl _,l.length,hB,rfl⟩⟩
 ·rintro x xs h3 Kc ⟨k3,i,hb,e⟩ Lg
  cases i with
  | zero=>simp[iL] at hb
  | succ i=>
   obtain⟨hi,b',n',c',rest,hm',e',hr⟩:=hb
   cases e'
   unfold oh at e
   rw[aJ hi] at e
   refine Gk (af fun a4 h4 v4 k4 e4 _=>aQ v4 (Nat.le_refl _) fun h5 v5 k5 s5=>?_)
   have Ff:KB h3 h5:=KB.step k4 k5 (by omega)
   refine⟨(k4.kp).trans (KX.kp v4 k5 fun e=>?_),fun h6 n6=>?_⟩
   ·have:=k3.1;have lN:=gI.1
    rcases e with e | e
    ·have:=hA _ e;omega
    ·have:=v2.lt;omega
   have v6:=v5.kw n6.kw
   have B6:KB h2 h6:=(k3.trans Ff).nz n6 (Nat.le_succ _)
   have vx:=v12.kb B6
   refine⟨_,v6.cell 0 rfl,bh (fun eJ=>?_) fun eJ=>⟨_,v6.cell 1 rfl,_,(v02.kb B6).dy rfl,bh (fun hd=>?_) fun hd=>?_⟩⟩
   ·rw[if_pos eJ] at e
    exact⟨tJ.refl _ _,fun h4 n4 hd=>fin e.symm h4 (B6.nz n4 (Nat.le_succ _)) hd⟩
   ·rw[if_neg eJ,if_pos hd] at e
    refine aQ vx (Nat.le_refl _) fun h7 v7 k7 s7=>⟨KX.kp vx k7 bI,fun h8 n8 hd=>?_⟩
    refine iW hd ((KB.step (gI.trans B6) k7 (by omega)).nz n8 (by omega)) xM (v7.kw n8.kw) fun h' k'=>?_
    rw[<-e] at hk;exact hk h' k'
   ·rw[if_neg eJ,if_neg hd] at e
    exact Lg _ _ (tJ.refl _ _) ⟨B6,i,(hr.kw (KB.w Ff)).kw n6.kw,e⟩
 ·rintro h3 ⟨k3,i,hb,e⟩ hd
  cases i with
  | succ i=>obtain⟨_,_,_,_,_,_,e',_⟩:=hb;cases e'
  | zero=>exact fin e.symm h3 k3 hd
end
section
variable {A B:Nat->Prop} {h:H} {b b2:OA} {n c n2 c2:Nat} {l:List aP} {ns:List Bs} {s:Bs} {sc:Int}
theorem sJ (m:ML h) (hA:∀k,A k->k<h.size) (r:Row bp A h b n c l) (hl:∀x ∈ l,x.2.2.1.length<=9000000000000000000) {K:KV} (hk:∀h',KB h h'->K (.int .i64 (iA l s)) h'):
  zC 192 [.slice b n c,S s] h K:=by
 have hm:n<=maxLen:=Nat.le_trans r.cap r.max
 have rB:=r.len
 simp only[maxLen] at hm
 refine Xcy.ok _ _ _ _ _ _ (af fun x2 h2 v2 k2 e2 s2=>af fun y h3 v3 k3 e3 s3=>iE fun a h4 va k4 ea=>?_)
 have jo:=(k2.trans k3).trans k4
 have r4:=r.kb jo
 refine qw (f:=fI s) (val:=.int .i64) (d:=0) (res:=iA l s) jo r4 hA va (v3.kb k4) (by omega) (by omega) rfl (fun i hi h5 Kc k5 u3 mi BP=>BO (kW k5 (fun k hk=>?_) (Nat.le_refl _) fun ax hb kb vb=>?_)) (fun h' k' hd v=>wc hd k' jo.1 v fun l6 Vl Vm=>⟨_,Vm.dy rfl,hk l6 Vl⟩)
 ·rcases hk with hk | hk
  ·exact Nat.lt_of_lt_of_le (hA _ hk) jo.1
  ·rw[hk];exact va.lt
 ·have w2:=((v2.kb k3).kb k4).kb kb
  refine⟨_,vb.cell 1 rfl,bh (fun e=>⟨_,vb.cell 2 rfl,_,w2.dy rfl,bh (fun e2=>⟨aG (by omega) (by omega),mi hb hb _ kb (KB.refl _) (by unfold fI;rw[if_pos (.inr (.inl e2))])⟩) fun e2=>⟨_,vb.cell 2 rfl,gA IH Pd (by decide+kernel) (by decide+kernel) ((m.kb jo).kb kb) (hl _ (List.getElem_mem _)) (ag (aR (fun ht=>u3 hb hb kb (KB.refl _) ?_) fun hf=>⟨aG (by omega) (by omega),mi hb hb _ kb (KB.refl _) (by unfold fI;rw[if_pos (.inr (.inr hf))])⟩))⟩⟩) fun e=>⟨aG (by omega) (by omega),mi hb hb _ kb (KB.refl _) (by unfold fI;rw[if_pos (.inl e)])⟩⟩
  unfold fI
  rw[if_neg]
  rintro(h | h | h)
  ·exact h e
  ·exact e2 h
  ·rw[ht] at h;cases h
theorem wL (m:ML h) (hA:∀k,A k->k<h.size) (r:Row bp A h b n c l) (hl:∀x ∈ l,x.2.2.1.length<=9000000000000000000) (rn:Row cL B h b2 n2 c2 ns) {K:KV} (hk:∀h',KB h h'->K (.int .i64 (qV l ns)) h'):
  zC 190 [.slice b n c,.slice b2 n2 c2] h K:=by
 refine Xc0.ok _ _ _ _ _ _ _ _ (af fun x2 h2 v2 k2 e2 s2=>af fun y h3 v3 k3 e3 s3=>iE fun a h4 va k4 ea=>?_)
 have jo:=(k2.trans k3).trans k4
 have r4:=r.kb jo
 refine qw (f:=jf ns) (val:=.int .i64) (d:= -1) (res:=qV l ns) jo r4 hA va (v3.kb k4) (by omega) (by omega) rfl (fun i hi h5 Kc k5 u3 mi BP=>BO (kW k5 (fun k hk=>?_) (Nat.le_refl _) fun ax hb kb vb=>?_)) (fun h' k' hd v=>wc hd k' jo.1 v fun l6 Vl Vm=>⟨_,Vm.dy rfl,hk l6 Vl⟩)
 ·rcases hk with hk | hk
  ·exact Nat.lt_of_lt_of_le (hA _ hk) jo.1
  ·rw[hk];exact va.lt
 ·have w2:=((v2.kb k3).kb k4).kb kb
  refine ib vb ⟨_,_,_,w2.dy rfl,tu ((rn.kb jo).kb kb) fun h6 k6=>ag (aR (fun ht=>mi hb h6 _ kb k6 (by unfold jf;rw[if_pos ht])) fun hf=>?_)⟩
  have vb6:=vb.kb k6
  refine⟨_,vb6.cell 1 rfl,_,vb6.cell 2 rfl,fN (((m.kb jo).kb kb).kb k6) (hl _ (List.getElem_mem _)) (ag (aR (fun hs=>ib vb6 (af (cs:=De.map S) fun a7 h7 v7 k7 _ _=>lT De rfl (by decide+kernel) (by decide+kernel) v7 fun h8 k8=>ag (aR (fun ht=>?_) fun Xp=>?_))) fun hs=>?_))⟩
  ·exact u3 hb h8 kb ((k6.trans k7).trans k8) (by unfold jf;rw[if_neg (by rw[hf];simp),if_neg (by rw[ht];simp)])
  ·exact mi hb h8 _ kb ((k6.trans k7).trans k8) (by unfold jf;rw[if_neg (by rw[hf];simp),if_pos (by rw[hs,Xp];rfl)])
  ·exact u3 hb h6 kb k6 (by unfold jf;rw[if_neg (by rw[hf];simp),if_neg (by rw[hs];simp)])
theorem mJ (m:ML h) (hs:s.length<=9000000000000000000) {K:KV} (hk:K (.bool (dS s)) h):zC 91 [S s] h K:=
 Xcx.ok _ _ _ (gA Cq Pb (by decide+kernel) (by decide+kernel) m hs (ag (dm (K:=fun b=>K (.bool b) h) hk)))
end
abbrev tE (A:Nat->Prop) (h:H) (m:bx):Prop:=aW.R A h m [S m.1,S m.2]
section
variable {A B:Nat->Prop} {h:H} {a:Addr} {b b2:OA} {n c n2 c2:Nat}
theorem HT {m:bx} (h1:m.1.length<=maxLen) (h2:m.2.length<=maxLen):tE A h m:=⟨[S m.1],[S m.2],rfl,⟨rfl,h1⟩,rfl,h2⟩
theorem tE.inv {m:bx} (r:tE A h m):m.1.length<=maxLen/\m.2.length<=maxLen:=by
 obtain⟨c1,c2,e,⟨e1,h1⟩,e2,h2⟩:=r
 exact⟨h1,h2⟩
theorem tF {m:bx} {K:Bs->Bs->Prop} (hA:At aW A h a m) (hk:tE A h m->K m.1 m.2):
  ∃s,cell h (a.add 0)=some (S s)/\∃t,cell h (a.add 1)=some (S t)/\K s t:=
 ⟨_,hA.fst.str.1,_,hA.snd.str.1,hk (HT hA.fst.str.2 hA.snd.str.2)⟩
theorem vK {l:List bx} {x:bx} (r:Row aW A h b n c l) (hx:tE A h x) {K:KV} (hk:∀h' (i:Int),KB h h'->(0<=i↔x ∈ l)->K (.int .i64 i) h'):
  zC 233 [.slice b n c,.agg ⟨[S x.1,S x.2]⟩] h K:=by
 refine Xgc.ok _ _ _ _ _ _ _ ?_
 refine af fun a1 h1 v1 k1 e1 _=>?_
 have r1:=r.kb k1
 have hl:=r.len
 have hm:n<=maxLen:=Nat.le_trans r.cap r.max
 simp only[maxLen] at hm
 have Cj:At aW (fun _=>True) h1 a1 x:=v1.at (HT hx.inv.1 hx.inv.2) trivial
 refine⟨n+1,?_⟩
 have key:∀k i,i+k=n->(∀j (h1:j<l.length),j<i->l[j]≠x)->
   Xgc.cR (fun h=>K (.int .i64 (-1)) h) (fun h=>K (.int .i64 (-1)) h) (fun y4 h=>K (.int .i64 y4) h) (k+1) b n c a1 (n:Int) (i:Int) h1:=by
  intro k
  induction k with
  | zero=>
   intro i hi bq
   refine bX (by omega) (hk h1 (-1) k1 ⟨fun h=>absurd h (by decide),fun hm=>?_⟩)
   obtain⟨j,hj,e⟩:=List.mem_iff_getElem.1 hm
   exact absurd e (bq j hj (by omega))
  | succ k ih=>
   intro i hi bq
   refine bQ (by omega) (tF Cj fun _=>r1.bn (by omega) rfl fun a hA=>tF hA fun hR=>M5 ?_)
   refine aR (fun hd=>hk h1 i k1 ⟨fun _=>?_,fun _=>by omega⟩) fun hd=>⟨aG (by omega) (by omega),ih (i+1) (by omega) fun j h1 hj=>?_⟩
   ·rw[of_decide_eq_true hd];exact List.getElem_mem _
   ·by_cases e:j<i
    ·exact bq j h1 e
    ·have:j=i:=by omega
     subst this
     exact fun e2=>(of_decide_eq_false hd) e2.symm
 exact key n 0 (by omega) fun j _ hj=>absurd hj (Nat.not_lt_zero _)
theorem rV {l:List bx} {x:bx} (r:Row aW A h b n c l) (hx:tE A h x) {K:KV} (hk:∀h',KB h h'->K (.bool (decide (x ∈ l))) h'):
  zC 218 [.slice b n c,.agg ⟨[S x.1,S x.2]⟩] h K:=by
 refine Xf4.ok _ _ _ _ _ _ _ ?_
 refine af fun a1 h1 v1 k1 e1 _=>?_
 have Cj:At aW (fun _=>True) h1 a1 x:=v1.at (HT hx.inv.1 hx.inv.2) trivial
 refine tF Cj fun hR=>vK (A:=fun _=>True) (r.any.kb k1) hR fun h' i k' hi=>?_
 refine bh (fun hp=>?_) fun hp=>?_
 ·have:=hk h' (k1.trans k')
  rwa[decide_eq_true (hi.1 hp)] at this
 ·have:=hk h' (k1.trans k')
  rwa[decide_eq_false (fun hm=>hp (hi.2 hm))] at this
theorem qJ {l:List bx} {f:Value} {p:bx->Bool} (r:Row aW A h b n c l)
  (hf:∀x h1 (next:KV),x ∈ l->KB h h1->tE A h1 x->(∀h2,KB h1 h2->next (.bool (p x)) h2)->fT Tryz.prog 4 f ⟨[.agg ⟨[S x.1,S x.2]⟩]⟩ h1 next)
  {K:KV} (hk:∀h' (i:Int),KB h h'->(0<=i↔l.any p=true)->K (.int .i64 i) h'):
  zC 234 [.slice b n c,f] h K:=by
 refine Xf9.ok _ _ _ _ _ _ ?_
 have hl:=r.len
 have hm:n<=maxLen:=Nat.le_trans r.cap r.max
 simp only[maxLen] at hm
 refine⟨n+1,?_⟩
 have key:∀k i h1,i+k=n->KB h h1->(∀j (h1:j<l.length),j<i->p l[j]=false)->
   Xf9.cR (fun h=>K (.int .i64 (-1)) h) (fun h=>K (.int .i64 (-1)) h) (fun y4 h=>K (.int .i64 y4) h) (k+1) b n c f (n:Int) (i:Int) h1:=by
  intro k
  induction k with
  | zero=>
   intro i h1 hi k1 bq
   refine bX (by omega) (hk h1 (-1) k1 ⟨fun h=>absurd h (by decide),fun hm=>?_⟩)
   obtain⟨x,hx,hp⟩:=List.any_eq_true.1 hm
   obtain⟨j,hj,e⟩:=List.mem_iff_getElem.1 hx
   have:=bq j hj (by omega)
   rw[e,hp] at this;cases this
  | succ k ih=>
   intro i h1 hi k1 bq
   refine bQ (by omega) ((r.kb k1).bn (by omega) rfl fun a hA=>tF hA fun hR=>hf _ h1 _ (List.getElem_mem _) k1 hR fun h2 k2=>?_)
   refine aR (fun hd=>hk h2 i (k1.trans k2) ⟨fun _=>List.any_eq_true.2 ⟨_,List.getElem_mem _,hd⟩,fun _=>by omega⟩) fun hd=>⟨aG (by omega) (by omega),ih (i+1) h2 (by omega) (k1.trans k2) fun j h1 hj=>?_⟩
   by_cases e:j<i
   ·exact bq j h1 e
   ·have:j=i:=by omega
    subst this
    exact hd
 exact key n 0 h (by omega) (KB.refl h) fun j _ hj=>absurd hj (Nat.not_lt_zero _)
theorem oq {l:List bx} {f:Value} {p:bx->Bool} (r:Row aW A h b n c l)
  (hf:∀x h1 (next:KV),x ∈ l->KB h h1->tE A h1 x->(∀h2,KB h1 h2->next (.bool (p x)) h2)->fT Tryz.prog 4 f ⟨[.agg ⟨[S x.1,S x.2]⟩]⟩ h1 next)
  {K:KV} (hk:∀h',KB h h'->K (.bool (l.any p)) h'):
  zC 219 [.slice b n c,f] h K:=by
 refine Xf2.ok _ _ _ _ _ _ (qJ r hf fun h' i k' hi=>?_)
 refine bh (fun hp=>?_) fun hp=>?_
 ·have:=hk h' k'
  rwa[hi.1 hp] at this
 ·have:=hk h' k'
  have e:l.any p=false:=by
   cases hq:l.any p with
   | false=>rfl
   | true=>exact absurd (hi.2 hq) hp
  rwa[e] at this
theorem Ek {y:aS} {x:bx} {a:Addr} (hA:At aY A h a y) (hx:tE B h x) {K:KV} (hk:∀h',KB h h'->K (.bool (!decide (x ∈ y.2.2))) h'):
  zC 217 [.agg ⟨[S x.1,S x.2]⟩,.pointer (some a)] h K:=by
 refine Xbe.ok _ _ _ _ _ (af fun a1 h1 v1 k1 e1 _=>?_)
 have Cj:At aW (fun _=>True) h1 a1 x:=v1.at (HT hx.inv.1 hx.inv.2) trivial
 refine ud ((hA.kb k1).snd.dH (k:=2) rfl) fun b n c r hz=>tF Cj fun hR=>rV r hR fun h' k'=>?_
 have:=hk h' (k1.trans k')
 cases hd:decide (x ∈ y.2.2) <;> rw[hd] at this <;> exact this
theorem BW {x y:aS} (hx:cG A h x b n c) (hy:cG B h y b2 n2 c2) {K:KV} (hk:∀h',KB h h'->K (.bool (fR x y)) h'):
  zC 198 [.agg ⟨[.int .i64 x.1,S x.2.1,.slice b n c]⟩,.agg ⟨[.int .i64 y.1,S y.2.1,.slice b2 n2 c2]⟩] h K:=by
 refine Xbd.ok _ _ _ _ _ _ _ _ _ _ _ _ (af fun a1 h1 v1 k1 e1 _=>af fun a2 h2 v2 k2 e2 _=>?_)
 have Cj:At aY (fun _=>True) h2 a1 x:=(v1.at (A:=fun _=>True) (cG.any hx |>.kb k1) trivial).kb k2
 have sA:At aY (fun _=>True) h2 a2 y:=v2.at (A:=fun _=>True) (cG.any hy |>.kb (k1.trans k2)) trivial
 refine RH Cj.snd.fst fun _=>RH sA.snd.fst fun _=>bh (fun e1=>?_) fun e1=>?_
 ·refine ud (Cj.snd.dH (k:=2) rfl) fun b n c r _=>ud (sA.snd.dH (k:=2) rfl) fun b2 n2 c2 r2 _=>bh (fun e2=>?_) fun e2=>?_
  ·have Vi:x.2.2.length=y.2.2.length:=by rw[r.len,r2.len];omega
   refine ud (Cj.snd.dH (k:=2) rfl) fun b n c r _=>oq (p:=fun z=>!decide (z ∈ y.2.2)) r (fun z h3 next hz k3 hzR hn=>?_) fun h' k'=>?_
   ·have e:fT Tryz.prog 4 (.func (.func 217) ⟨[]⟩ ⟨[.pointer (some a2)]⟩) ⟨[.agg ⟨[S z.1,S z.2]⟩]⟩ h3 next=zC 217 [.agg ⟨[S z.1,S z.2]⟩,.pointer (some a2)] h3 fun v h'=>au v fun b=>cond b (next (.bool true) h') (next (.bool false) h'):=by kernel_rfl
    rw[e]
    refine Ek (sA.kb k3) hzR fun h4 k4=>?_
    have:=hn h4 k4
    cases hd:(!decide (z ∈ y.2.2)) <;> rw[hd] at this <;> exact this
   ·have:=hk h' ((k1.trans k2).trans k')
    have e3:fR x y=!(x.2.2.any fun z=>!decide (z ∈ y.2.2)):=by
     unfold fR
     rw[decide_eq_true e1,decide_eq_true Vi,Bool.true_and,Bool.true_and,List.all_eq_not_any_not]
    rw[e3] at this
    cases hd:(x.2.2.any fun z=>!decide (z ∈ y.2.2)) <;> rw[hd] at this <;> exact this
  ·have Vi:x.2.2.length≠y.2.2.length:=by rw[r.len,r2.len];omega
   have:=hk h2 (k1.trans k2)
   rwa[show fR x y=false by simp[fR,Vi]] at this
 ·have:=hk h2 (k1.trans k2)
  rwa[show fR x y=false by simp[fR,e1]] at this
end
section
variable {A B:Nat->Prop} {h:H} {b b2:OA} {n c n2 c2:Nat} {l:List aS} {m:aS}
theorem u9 (hA:∀k,A k->k<h.size) (r:Row aY A h b n c l) {K:KV} (hk:∀h',KB h h'->K (.int .i64 (behind l)) h'):zC 197 [.slice b n c] h K:=by
 refine Xbf.ok _ _ _ _ _ (af fun x2 h1 v1 k1 e1 _=>kV (r.kb k1) fun a h2 v2 k2 e2=>?_)
 have hm:n<=maxLen:=Nat.le_trans r.cap r.max
 simp only[maxLen] at hm
 have hl:=r.len
 obtain⟨xs,hB,hE⟩:=kU ((r.kb k1).kb k2) v2
 have bI:¬(A x2.block∨x2.block=a.block):=fun e=>by
  have:=v1.lt
  rcases e with e | e
  ·have:=hA _ e;omega
  ·omega
 have v12:=v1.kb k2
 have gI:KB h h2:=k1.trans k2
 have xM:=gI.1
 refine⟨xs,vm,_,hE,hB.len,kg (fun xs h'=>KB h2 h'/\∃i,iL A h' l i xs/\gl l i=behind l) (fun xs h' l6 ⟨k,i,hb,e⟩ n=>⟨k.nz n (Nat.le_succ _),i,hb.kw n.kw,e⟩) ?_ ?_ xs h2 ⟨KB.refl _,l.length,hB,rfl⟩⟩
 ·rintro x xs h3 Kc ⟨k3,i,hb,e⟩ Lg
  cases i with
  | zero=>simp[iL] at hb
  | succ i=>
   obtain⟨hi,b',n',c',rest,hm',e',hr⟩:=hb
   cases e'
   refine Gk (af fun a4 h4 v4 k4 e4 _=>aQ v4 (Nat.le_refl _) fun h5 v5 k5 s5=>?_)
   have Ff:KB h3 h5:=KB.step k4 k5 (by omega)
   refine⟨(k4.kp).trans (KX.kp v4 k5 fun e=>?_),fun h6 n6=>?_⟩
   ·have:=k3.1;have lN:=gI.1
    rcases e with e | e
    ·have:=hA _ e;omega
    ·have:=v2.lt;omega
   have v6:=v5.kw n6.kw
   refine⟨_,v6.cell 0 rfl,bh (fun eJ=>⟨aG (by omega) (by omega),?_⟩) fun eJ=>?_⟩
   ·have B6:KB h2 h6:=(k3.trans Ff).nz n6 (Nat.le_succ _)
    have vx:=v12.kb B6
    refine aQ vx (Nat.le_refl _) fun h7 v7 k7 s7=>⟨KX.kp vx k7 bI,fun h8 n8 hd=>?_⟩
    refine iW hd ((KB.step (gI.trans B6) k7 (by omega)).nz n8 (by omega)) xM (v7.kw n8.kw) fun h' k'=>?_
    have:(behind l:Int)=(i:Int)+1:=by
     rw[<-e];unfold gl;rw[aJ hi,if_pos eJ];rfl
    rw[<-this];exact hk h' k'
   ·refine Lg _ _ (tJ.refl _ _) ⟨(k3.trans Ff).nz n6 (Nat.le_succ _),i,(hr.kw (KB.w Ff)).kw n6.kw,?_⟩
    rw[<-e]
    conv=>rhs;unfold gl
    rw[aJ hi,if_neg eJ]
 ·rintro h3 ⟨k3,i,hb,e⟩ hd
  cases i with
  | succ i=>obtain⟨_,_,_,_,_,_,e',_⟩:=hb;cases e'
  | zero=>
   have vx:=v12.kb k3
   refine aQ vx (Nat.le_refl _) fun h7 v7 k7 s7=>?_
   refine iW (vx.dp k7 hd) (KB.step (gI.trans k3) k7 (by omega)) xM v7 fun h' k'=>?_
   have:(behind l:Int)=0:=by rw[<-e];rfl
   rw[this] at hk;exact hk h' k'
end
theorem dD.cJ {Z:Nat->Prop} {h h':H} {col col':cd} {s:Nat} {t:Addr} {ns:List ay} (T:dD h col s t ns) (hs:¬Z s) (e:al Z h col h' col') (hf:bj h' col'):dD h' col' s t ns:=by
 obtain⟨lb,lc,rs,C,em⟩:=T
 exact⟨lb,lc,rs,C.keep e.sk.w e.cl hf fun k hk hc=>⟨hk,fun s' p Z3 e2=>by
  rcases hc with hc | ⟨q,hc⟩
  ·rw[hc] at e2;cases e2
  ·rw[hc] at e2;cases e2;exact hs Z3⟩,em⟩
def RS (s:Nat):Prop:=s=1∨s=3
structure RW (h:H) (col:cd) (w:Addr) (m:WM):Prop where
 ex:∃t,dD h col 1 t m.ns/\bs h col 3 58 w t m.op m.aD m.fo m.hi
section
variable {Z:Nat->Prop} {h h':H} {K:KV} {col col':cd} {w:Addr} {m:WM}
theorem RW.fresh (p:RW h col w m):bj h col:=by obtain⟨t,T,W⟩:=p.ex;exact T.fresh
theorem RW.ext (p:RW h col w m) (e:al Z h col h' col') (h0:¬Z 1) (h2:¬Z 3) (f:bj h' col'):RW h' col' w m:=by
 obtain⟨t,T,W⟩:=p.ex
 exact⟨t,T.cJ h0 e f,W.ext e h2⟩
theorem RW.kb (p:RW h col w m) (k:KB h h'):RW h' col w m:=p.ext (Z:=fun _=>False) (.kb k) id id (p.fresh.kb k)
theorem Aq (f:bj h col) (hk:∀w h' col',RW h' col' w EP->al RS h col h' col'->K (.pointer (some w)) h'):zC 34 [] h K:=by
 refine Xem.ok _ _ (ZL (s:=1) f fun t h1 c1 T1 E1=>cO (af fun a2 h2 v2 k2 e2 s2=>af fun a3 h3 v3 k3 e3 s3=>?_))
 have ow:gN (0,0,sD,0):=⟨⟨by decide,by decide⟩,⟨by decide,by decide⟩,by decide,⟨by decide,by decide⟩⟩
 have o2:=v2.Hc (E:=bp) (x:=(0,0,sD,0)) fun A=>ow.r
 have f1:bj h1 c1:=T1.fresh
 have f3:=(f1.kb k2).kb k3
 have h3s:h3.size=h1.size+2:=by omega
 have hc:∀k,k<h1.size->cp (cp c1 a2.block (3,1)) a3.block (3,0) k=c1 k:=fun k hk=>by rw[dG (by omega),dG (by omega)]
 have ff:bj h3 (cp (cp c1 a2.block (3,1)) a3.block (3,0)):=(f3.cp (by omega)).cp (by omega)
 have E3:al (fun _=>False) h1 c1 h3 (cp (cp c1 a2.block (3,1)) a3.block (3,0)):=⟨(k2.trans k3).less fun k hk=>hk.1,hc⟩
 refine hk a3 h3 (cp (cp c1 a2.block (3,1)) a3.block (3,0)) ⟨t,T1.cJ id E3 ff,⟨⟨some a2,1,none,0,0,v3,?_,du.none⟩,gd,⟨by decide,by decide⟩⟩⟩ ?_
 ·refine⟨((o2.kb k3).own.flat kI).lower (Nat.le_refl _),fun q e=>?_,fun q e=>?_,fun e=>by cases e⟩
  ·cases e;rw[dG (by omega)];exact gd
  ·cases e;omega
 ·exact(E1.p (.inl rfl)).trans (E3.mono fun s hs=>hs.elim)
theorem ox (p:RW h col w m) (G:aV m.ns) (bI:0<m.op.length) (eH:m.op.length<1000000) (AA:m.ns.length<1000000) {ab:OA} {an ac:Nat} {attrs:List bx} {sp tk:Int} {nm tx:Bs} {cl:Bool}
  (r:Row aW (bT col h) h ab an ac attrs) (GN:an<=1000000) (hv:rH attrs) (hsp:bc .u8 sp) (qh:bc .u8 tk) (M8:nm.length<=1000000000)
  (hk:∀h' col',RW h' col' w (bt m sp nm attrs)->al RS h col h' col'->K (.int .i64 m.ns.length) h'):
  zC 103 [.pointer (some w),.int .u8 sp,.agg ⟨[.int .u8 tk,S nm,.slice ab an ac,.bool cl,S tx]⟩] h K:=by
 obtain⟨t,T,W⟩:=p.ex
 have Pg:nm.length<=maxLen:=by simp only[maxLen];omega
 refine Xeq.ok _ _ _ _ _ _ _ _ _ _ _ (af fun a1 h1 v1 k1 e1 s1=>?_)
 refine eV (W.kb k1) bI (by omega) fun h2 k2=>?_
 refine jx (x:=dR m.op) ?_
 refine iw (x:=dR m.op) (T.kb (k1.trans k2)) G (W.kb (k1.trans k2)) (by omega) fun h3 k3=>lG ?_
 have fX:=(k1.trans k2).trans k3
 obtain⟨ob,oc,mb,mn,mc,vw,ow,X0⟩:=(W.kb fX).ex
 have v3:=v1.kb (k2.trans k3)
 refine aa ⟨_,vw.cell 0 rfl,_,v3.cell 1 rfl,_,_,_,v3.cell 2 rfl,?_⟩
 refine wI (T.kb fX) (r.kb fX) GN ⟨by decide,by decide⟩ hsp Pg (by decide) AA fun h4 c4 T4 E4=>aN ?_
 have CC:al (fun s=>s=1) h3 col h4 c4:=E4.p rfl
 have W4:=(W.kb fX).ext CC (by decide)
 obtain⟨OL,OM,Tm,Kj,Kk,yD,ow4,agn⟩:=W4.ex
 have G4:aV (bF m.ns (bG 1 sp nm attrs [])).1:=G.bF _ _ _ _ _
 refine aa ⟨_,yD.cell 0 rfl,?_⟩
 refine GS T4 G4 fun h5 c5 T5 E5=>ag ?_
 have Km:al (fun s=>s=1) h4 c4 h5 c5:=E5.p rfl
 have QA:=CC.trans Km
 have W5:=W4.ext Km (by decide)
 obtain⟨WQ,oc5,Xz,WR,XA,BY,ow5,agp⟩:=W5.ex
 have f3:bj h3 col:=p.fresh.kb fX
 have hca:col a1.block=none:=p.fresh _ (by omega)
 have v5:Var h5 a1 45 [.int .u8 tk,S nm,.slice ab an ac,.bool cl,S tx]:=v3.keep QA.eS ⟨hca,v3.lt⟩
 have r5:Row aW (bT c5 h5) h5 ab an ac attrs:=QA.row ((r.kb fX).keep (bY.refl (fun _=>True) _ |>.less fun _ _=>trivial) fun k hk _=>bT.kb fX hk)
 have tail:Xeq.n5 (some w) sp a1 (bF m.ns (bG 1 sp nm attrs [])).2 (fun y6 h=>K (.int .i64 y6) h) (fun y6 h=>K (.int .i64 y6) h) h5:=by
  refine aa ⟨_,_,_,BY.cell 1 rfl,_,v5.cell 1 rfl,_,v5.cell 0 rfl,_,v5.cell 1 rfl,_,_,_,v5.cell 2 rfl,_,v5.cell 3 rfl,_,v5.cell 4 rfl,?_⟩
  refine ye r5 hv fun h6 k6=>aN ⟨k6.ext,af fun a7 h7 v7 k7 e7 s7=>⟨k7.ext,?_⟩⟩
  have HQ:=k6.trans k7
  have hxo:gN ((m.ns.length:Int),sp,nm,dt sp nm attrs):=⟨aG (by omega) (by omega),hsp,Pg,xT _ _ _⟩
  have f5:bj h5 c5:=T5.fresh
  refine xU (x:=((m.ns.length:Int),sp,nm,dt sp nm attrs)) (W5.kb HQ) (f5.kb HQ) eH hxo (BY.kb HQ) v7 (f5 _ (by have:=k6.1;omega)) fun h8 c8 W8 E8 f8 m8=>?_
  have E3:al RS h col h3 col:=.kb fX
  exact hk h8 c8 ⟨t,(T5.kb HQ).cJ (Z:=fun k=>k=3) (by decide) E8 f8,W8⟩ (((E3.trans (QA.mono fun s hs=>.inl hs)).trans (.kb HQ)).trans (E8.mono fun s hs=>.inr hs))
 exact dm (K:=fun _=>Xeq.n5 (some w) sp a1 (bF m.ns (bG 1 sp nm attrs [])).2 (fun y6 h=>K (.int .i64 y6) h) (fun y6 h=>K (.int .i64 y6) h) h5) tail
theorem wx (p:RW h col w m) (G:aV m.ns) (bI:0<m.op.length) (eH:m.op.length<1000000) (AA:m.ns.length<1000000) {tx:Bs} (hlen:∀(i:Nat) x,m.ns[i]? =some x->x.text.length+tx.length<=9223372036854775807) (Fh:tx.length<=maxLen)
  (hk:∀h' col',RW h' col' w (gb m tx)->al RS h col h' col'->K (.tuple ⟨[]⟩) h'):
  zC 38 [.pointer (some w),S tx] h K:=by
 obtain⟨t,T,W⟩:=p.ex
 refine Xeu.ok _ _ _ _ ?_
 refine eV W bI (by omega) fun h2 k2=>?_
 refine jx (x:=dR m.op) ?_
 refine iw (x:=dR m.op) (T.kb k2) G (W.kb k2) (by omega) fun h3 k3=>lG ?_
 have fX:=k2.trans k3
 obtain⟨ob,oc,mb,mn,mc,vw,ow,X0⟩:=(W.kb fX).ex
 refine aa ⟨_,vw.cell 0 rfl,?_⟩
 refine Qo (T.kb fX) G hlen Fh AA fun h4 c4 T4 E4=>ag ?_
 have CC:al (fun s=>s=1) h3 col h4 c4:=E4.p rfl
 have W4:=(W.kb fX).ext CC (by decide)
 have tail:K (.tuple ⟨[]⟩) h4:=hk h4 c4 ⟨t,T4,W4⟩ ((al.kb fX).trans (CC.mono fun s hs=>.inl hs))
 exact dm (K:=fun _=>K (.tuple ⟨[]⟩) h4) tail
theorem gg (p:RW h col w m) {n:Int} (hk:∀h' col',RW h' col' w (cX m n)->al RS h col h' col'->K (.tuple ⟨[]⟩) h'):zC 61 [.pointer (some w),.int .i64 n] h K:=by
 obtain⟨t,T,W⟩:=p.ex
 obtain⟨ob,oc,mb,mn,mc,v,o,om⟩:=W.ex
 have dk:¬(1<=n/\n<m.op.length)->K (.tuple ⟨[]⟩) h:=fun hn=>hk h col (by
  have e:cX m n=m:=by unfold cX hZ;rw[if_neg hn]
  rw[e];exact p) (.refl _ _ _)
 refine Xen.ok _ _ _ _ (bh (fun h1=>aa ⟨_,_,_,v.cell 1 rfl,bh (fun h2=>?_) fun h2=>aE (dk fun hn=>h2 hn.2)⟩) fun h1=>aE (dk fun hn=>h1 hn.1))
 have hcap:=o.cap
 refine aF (aa ⟨_,_,_,v.cell 1 rfl,⟨by omega,by omega,by omega⟩,aa (Gp W p.fresh h1 h2 v fun h' W' E' f' _=>?_)⟩)
 exact hk h' col ⟨t,T.cJ (Z:=fun k=>k=3) (by decide) E' f',W'⟩ (E'.mono fun s hs=>.inr hs)
end
end Go.Proofs
