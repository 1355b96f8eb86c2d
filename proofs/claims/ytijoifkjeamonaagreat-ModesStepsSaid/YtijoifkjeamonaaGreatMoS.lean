import Derived.Test.YtijoifkjeamonaaGreatHc
import Derived.Test.YtijoifkjeamonaaGreatAaD
import Derived.Test.YtijoifkjeamonaaGreatMoB
import Derived.Test.YtijoifkjeamonaaGreatMoE
import Derived.Test.YtijoifkjeamonaaGreatDrB
import Derived.Test.YtijoifkjeamonaaGreatPdB
namespace Go.Proofs
open Go Go.Sh
set_option linter.unusedVariables false
set_option maxRecDepth 100000
theorem iK {m:WM} {sp:Int} {nm:Bs} {gE:List bw} (N:Nat) {ns:List ay} (h:EU (bE m.ns (bF 1 sp nm gE [])).1 N (cS m).1=true)
  (e:(OL N (bE m.ns (bF 1 sp nm gE [])).1 (cS m).1 (cS m).2 m.ns.length).1=ns):
  bs m sp nm gE={m with ns:=ns,op:=m.op++ [((m.ns.length:Int),sp,nm,dr sp nm gE)],hi:=if((m.op.length+1:Nat):Int)>m.hi then((m.op.length+1:Nat):Int) else m.hi}:=by
 unfold bs;rw[Kh N h,e]
theorem oQ {m:WM} {tx:Bs} (N:Nat) {ns:List ay} (h1:dU m.ns (cS m).1=true/\0<=fg (((m.ns[(cS m).1.toNat]?).map (·.kids)).getD []) (cS m).2) (h2:tx≠ [])
  (h3:((((m.ns[(cS m).1.toNat]?).map (·.kids)).getD [])[(fg (((m.ns[(cS m).1.toNat]?).map (·.kids)).getD []) (cS m).2).toNat - 1]?).bind (fun k:Int=>if 0<fg (((m.ns[(cS m).1.toNat]?).map (·.kids)).getD []) (cS m).2 then(m.ns[k.toNat]?).bind fun z=>if z.kind=2 then some (k.toNat,z) else none else none)=none)
  (h:EU (bE m.ns (bF 2 0 [] [] tx)).1 N (cS m).1=true) (e:(OL N (bE m.ns (bF 2 0 [] [] tx)).1 (cS m).1 (cS m).2 (bE m.ns (bF 2 0 [] [] tx)).2).1=ns):fW m tx={m with ns:=ns}:=by
 unfold fW cD
 rw[if_neg (fun h=>h h1),if_neg h2,h3]
 show {m with ns:=(cV (bE m.ns (bF 2 0 [] [] tx)).1 (cS m).1 (cS m).2 (bE m.ns (bF 2 0 [] [] tx)).2).1}=_
 rw[Kh N h,e]
abbrev zi (s:Bs):cm:=(2,s,[],false,[])
abbrev zj (s:Bs):cm:=(1,[],[],false,s)
abbrev tkE (s:Bs):cm:=(3,s,[],false,[])
abbrev mS (w:WM):MM:=⟨w,0,0, -1,false,0,[]⟩
def r1:WM:=⟨[nd 0 [] [] (-1) [1],nd 1 [112] [] 0 []],[Oe,(1,0,[112],0)],[],false,2⟩
def r2:WM:={r1 with ns:=[nd 0 [] [] (-1) [1],nd 1 [112] [] 0 [2],nd 2 [] [49] 1 []]}
def r3:WM:=⟨[nd 0 [] [] (-1) [1],nd 1 [112] [] 0 [2,3],nd 2 [] [49] 1 [],nd 1 [98] [] 1 []],[Oe,(1,0,[112],0),(3,0,[98],0)],[(3,[98],[])],false,3⟩
def r4:WM:={r3 with ns:=[nd 0 [] [] (-1) [1],nd 1 [112] [] 0 [2,3],nd 2 [] [49] 1 [],nd 1 [98] [] 1 [4],nd 2 [] [50] 3 []]}
def r5:WM:=⟨[nd 0 [] [] (-1) [1,5],nd 1 [112] [] 0 [2,3],nd 2 [] [49] 1 [],nd 1 [98] [] 1 [4],nd 2 [] [50] 3 [],nd 1 [112] [] 0 []],[Oe,(5,0,[112],0)],[(3,[98],[])],false,3⟩
def r6:WM:=⟨[nd 0 [] [] (-1) [1,5],nd 1 [112] [] 0 [2,3],nd 2 [] [49] 1 [],nd 1 [98] [] 1 [4],nd 2 [] [50] 3 [],nd 1 [112] [] 0 [6],nd 1 [98] [] 5 []],[Oe,(5,0,[112],0),(6,0,[98],0)],[(6,[98],[])],false,3⟩
def r7:WM:={r6 with ns:=[nd 0 [] [] (-1) [1,5],nd 1 [112] [] 0 [2,3],nd 2 [] [49] 1 [],nd 1 [98] [] 1 [4],nd 2 [] [50] 3 [],nd 1 [112] [] 0 [6],nd 1 [98] [] 5 [7],nd 2 [] [51] 6 []]}
theorem kr1:dH J3 (zi [112])=mS r1:=by
 have e:dH J3 (zi [112])=mS (bs EP 0 [112] []):=by kernel_rfl
 rw[e,iK 3 (ns:=r1.ns) (by decide+kernel) (by kernel_rfl)];rfl
theorem kr2:dH (mS r1) (zj [49])=mS r2:=by
 have e:dH (mS r1) (zj [49])=mS (fW r1 [49]):=by kernel_rfl
 rw[e,oQ 4 (ns:=r2.ns) (by decide+kernel) (by decide) (by decide+kernel) (by decide+kernel) (by kernel_rfl)];rfl
theorem kr3:dH (mS r2) (zi [98])=mS r3:=by
 have e:dH (mS r2) (zi [98])=mS {bs r2 0 [98] [] with aE:=[(3,[98],[])]}:=by kernel_rfl
 rw[e,iK 5 (ns:=r3.ns) (by decide+kernel) (by kernel_rfl)];rfl
theorem kr4:dH (mS r3) (zj [50])=mS r4:=by
 have e:dH (mS r3) (zj [50])=mS (fW r3 [50]):=by kernel_rfl
 rw[e,oQ 6 (ns:=r4.ns) (by decide+kernel) (by decide) (by decide+kernel) (by decide+kernel) (by kernel_rfl)];rfl
theorem kr5:dH (mS r4) (zi [112])=mS r5:=by
 have e:dH (mS r4) (zi [112])=mS (bs {r4 with op:=[Oe]} 0 [112] []):=by kernel_rfl
 rw[e,iK 7 (ns:=r5.ns) (by decide+kernel) (by kernel_rfl)];rfl
theorem kr6:dH (mS r5) (zj [51])=mS r7:=by
 have e:dH (mS r5) (zj [51])=mS (fW {bs r5 0 [98] [] with aE:=[(6,[98],[])]} [51]):=by kernel_rfl
 have e2:{bs r5 0 [98] [] with aE:=[(6,[98],[])]}=r6:=by
  rw[iK 8 (ns:=r6.ns) (by decide+kernel) (by kernel_rfl)];rfl
 rw[e,e2,oQ 9 (ns:=r7.ns) (by decide+kernel) (by decide) (by decide+kernel) (by decide+kernel) (by kernel_rfl)];rfl
theorem adM:mf [zi [112],zj [49],zi [98],zj [50],zi [112],zj [51]]=mS r7:=by
 unfold mf;simp only[List.foldl_cons,List.foldl_nil]
 rw[kr1,kr2,kr3,kr4,kr5,kr6]
def a1:WM:=⟨[nd 0 [] [] (-1) [1],nd 1 [97] [] 0 []],[Oe,(1,0,[97],0)],[(1,[97],[])],false,2⟩
def a2:WM:={a1 with ns:=[nd 0 [] [] (-1) [1],nd 1 [97] [] 0 [2],nd 2 [] [49] 1 []]}
def a3:WM:=⟨[nd 0 [] [] (-1) [1,3],nd 1 [97] [] 0 [2],nd 2 [] [49] 1 [],nd 1 [97] [] 0 []],[Oe,(3,0,[97],0)],[(3,[97],[])],false,2⟩
def a4:WM:={a3 with ns:=[nd 0 [] [] (-1) [1,3],nd 1 [97] [] 0 [2],nd 2 [] [49] 1 [],nd 1 [97] [] 0 [4],nd 2 [] [50] 3 []]}
theorem ka1:dH J3 (zi [97])=mS a1:=by
 have e:dH J3 (zi [97])=mS {bs EP 0 [97] [] with aE:=[(1,[97],[])]}:=by kernel_rfl
 rw[e,iK 3 (ns:=a1.ns) (by decide+kernel) (by kernel_rfl)];rfl
theorem ka2:dH (mS a1) (zj [49])=mS a2:=by
 have e:dH (mS a1) (zj [49])=mS (fW a1 [49]):=by kernel_rfl
 rw[e,oQ 4 (ns:=a2.ns) (by decide+kernel) (by decide) (by decide+kernel) (by decide+kernel) (by kernel_rfl)];rfl
theorem ka3:dH (mS a2) (zi [97])=mS a3:=by
 have e:dH (mS a2) (zi [97])=mS {bs {a2 with op:=[Oe],aE:=[]} 0 [97] [] with aE:=[(3,[97],[])]}:=by kernel_rfl
 rw[e,iK 5 (ns:=a3.ns) (by decide+kernel) (by kernel_rfl)];rfl
theorem ka4:dH (mS a3) (zj [50])=mS a4:=by
 have e:dH (mS a3) (zj [50])=mS (fW a3 [50]):=by kernel_rfl
 rw[e,oQ 6 (ns:=a4.ns) (by decide+kernel) (by decide) (by decide+kernel) (by decide+kernel) (by kernel_rfl)];rfl
theorem adN:mf [zi [97],zj [49],zi [97],zj [50]]=mS a4:=by
 unfold mf;simp only[List.foldl_cons,List.foldl_nil]
 rw[ka1,ka2,ka3,ka4]
theorem adQ:mf [tkE [112]]=mS {r1 with op:=[Oe]}:=by
 unfold mf;simp only[List.foldl_cons,List.foldl_nil]
 have e:dH J3 (tkE [112])=mS (pW (bs EP 0 [112] [])):=by kernel_rfl
 have e2:bs EP 0 [112] []=r1:=by
  rw[iK 3 (ns:=r1.ns) (by decide+kernel) (by kernel_rfl)];rfl
 have e3:pW r1={r1 with op:=[Oe]}:=by kernel_rfl
 rw[e,e2,e3]
theorem X6:cY 4 r7.ns 0=[.mk 1 0 [112] [] [] [.mk 2 0 [] [] [49] [],.mk 1 0 [98] [] [] [.mk 2 0 [] [] [50] []]],.mk 1 0 [112] [] [] [.mk 1 0 [98] [] [] [.mk 2 0 [] [] [51] []]]]:=rfl
theorem X7:cY 4 a4.ns 0=[.mk 1 0 [97] [] [] [.mk 2 0 [] [] [49] []],.mk 1 0 [97] [] [] [.mk 2 0 [] [] [50] []]]:=rfl
section
variable {Z:Nat->Prop} {h h':H} {K:KV} {col col':bY} {w a x6 x7 bD:Addr} {m:WM} {f id:Int} {bl y:aP} {u v x j b q:Nat}
theorem Ye (g:ot h col a y) (p:RW h col w m) {Q:H->Prop} (hk:∀h',ot h' col a (id,y.2)->RW h' col w m->al RA h col h' col->Q h'):bc (a.add 0) [.int .i64 id] 0 h Q:=by
 refine cv (m:=0) (i:=0) g.v (by show 0+0+1<=4;omega) fun h3 v3 k3 s3=>?_
 have E:al (fun s=>s=5) h col h3 col:=al.kx k3 g.c rfl
 exact hk h3 ⟨v3,g.c⟩ (p.ext E (by decide) (by decide) fun k hk=>p.fresh k (by omega)) (E.mono fun s hs=>.inr hs)
theorem Ki (p:RW h col w m) {h1:H} (k:KB h h1) (v:Var h1 a 77 (aW y)) (ha:h.size<=a.block) {Q:Prop} (hk:∀Cs,ot h1 Cs a y->RW h1 Cs w m->al RA h col h1 Cs->Q):Q:=by
 have E:∀Z:Nat->Prop,al Z h col h1 (cr col a.block (5,0)):=fun Z=>⟨k.less fun q hq=>hq.1,fun q hq=>dG (by omega)⟩
 exact hk (cr col a.block (5,0)) ⟨v,fX⟩ (p.ext (Z:=fun _=>False) (E _) id id ((p.fresh.kb k).cr v.lt)) (E _)
theorem Aw {Kn:H->Prop} (p:RW h col w m) (eD:m.op.length<=900000) (jO:(m.op.map (·.1)).Nodup) (g:ot h col a y) (hy:gG y) (v7:Var h x7 77 (aW bl)) (c7:col x7.block=none) (hid:bd .i64 id) (EV:0<=gh (bt m.op f) bl.1)
  (hk:∀h' col',RW h' col' w {m with op:=cP (bt m.op f) ((gh (bt m.op f) bl.1)+1).toNat (id,y.2)}->al RA h col h' col'->Kn h'):
  zC 120 [(.pointer (some w)),(.int .i64 f)] h fun Kj uq=>bc (a.add 0) [(.int .i64 id)] 0 uq fun lX=>∃i38,cell lX (x7.add 0)=some (.int .i64 i38)/\(∃i39,cell lX ((a).add 0)=some (.int .i64 i39)/\(∃i40,cell lX ((a).add 1)=some (.int .u8 i40)/\(∃Ta,cell lX ((a).add 2)=some (S Ta)/\(∃i42,cell lX ((a).add 3)=some (.int .u8 i42)/\(zC 208 [(.pointer (some w)),(.int .i64 i38)] lX fun OM yf=>aL .i64 OM fun i45=>bG lX yf/\(zC 231 [(.pointer (some w)),(.int .i64 i45),(.agg ⟨[(.int .i64 i39),(.int .u8 i40),(S Ta),(.int .u8 i42)]⟩)] yf fun v46 EW=>Kn EW)))))):=by
 have Xq:(bt m.op f).length<=m.op.length:=by
  unfold bt
  by_cases hq:0<cM m.op (fun x=>decide (x.1=f))
  ·rw[if_pos hq,List.length_eraseIdx];split <;> omega
  ·rw[if_neg hq];exact Nat.le_refl _
 refine iU p (by omega) jO fun h1 c1 p1 E1=>Ye (g.rs E1) p1 fun h2 g2 p2 E2=>?_
 have zo:=E1.ra.trans E2
 have v72:=v7.keep zo.eR ⟨c7,v7.lt⟩
 refine⟨_,v72.cell 0 rfl,_,g2.v.cell 0 rfl,_,g2.v.cell 1 rfl,_,g2.v.cell 2 rfl,_,g2.v.cell 3 rfl,fY p2 (by show(bt m.op f).length<=_;omega) (aO ⟨(KB.refl _).ext,?_⟩)⟩
 obtain⟨hi,_,_⟩:=fy (l:=bt m.op f) (p:=fun x=>decide (x.1=bl.1)) EV
 obtain⟨i,ei⟩:=Int.eq_ofNat_of_zero_le EV
 have ei2:gh (gr m f).op bl.1=(i:Int):=ei
 have hi:i<(bt m.op f).length:=by have h2:(cM (bt m.op f) fun x=>decide (x.1=bl.1))=(i:Int):=ei;omega
 rw[ei2]
 rw[show((gh (bt m.op f) bl.1)+1).toNat=i+1 by rw[ei];rfl] at hk
 exact Ct p2 (by show(bt m.op f).length<=_;omega) hi ⟨hid,hy.2⟩ fun h3 c3 p3 E3=>hk h3 c3 p3 (zo.trans E3.ra)
structure Kk (h:H) (col:bY) (a:Addr) (y:aS) (b:OA) (n c:Nat):Prop where
 v:Var h a 79 [.int .i64 y.1,S y.2.1,.slice b n c]
 k:col a.block=some (5,0)
 r:cI (bT col h) h y b n c
theorem zp (E:al Z h col h' col') {y:aS} {ab:OA} {an ac:Nat} (hR:cI (bT col h) h y ab an ac):cI (bT col' h') h' y ab an ac:=by
 have hi:=hR.inv
 exact Go.Proofs.jA (E.row hi.1) hi.2.1 hi.2.2.1 hi.2.2.2
theorem Kk.rs {y:aS} {b:OA} {n c:Nat} (g:Kk h col a y b n c) (e:al RS h col h' col'):Kk h' col' a y b n c:=
 ⟨g.v.keep e.sk.w ⟨g.v.lt,fun s p hs e2=>by rw[g.k] at e2;cases e2;exact(by unfold RS;omega:¬RS 5) hs⟩,by rw[e.cl _ g.v.lt];exact g.k,zp e g.r⟩
theorem Cu {Kn Kr:yi.T0} (p:RW h col w m) (eD:m.op.length<=900000) (jR:m.aE.length<=900000) (jO:(m.op.map (·.1)).Nodup) {y:aS} {yb:OA} {yn yc:Nat} (g:Kk h col a y yb yn yc) (v7:Var h x7 77 (aW bl)) (c7:col x7.block=none) (hid:bd .i64 id)
  (hf:0<=gh m.op f) (EV:0<=gh (bt m.op f) bl.1) {k:Nat} (BZ:k<=m.aE.length)
  (hk:∀h' col',RW h' col' w {m with aE:=cP m.aE k (id,y.2),op:=cP (bt m.op f) ((gh (bt m.op f) bl.1)+1).toNat (id,(m.op.getD (gh m.op f).toNat aI).2)}->al RA h col h' col'->Kn h'):
  yi.n16 (some w) f x7 (k:Int) id a Kn Kr h:=by
 have Yf:=g.r.inv
 refine cv (m:=0) (i:=0) g.v (by show 0+0+1<=3;omega) fun h1 v1 k1 s1=>?_
 have v1:Var h1 a 79 [.int .i64 id,S y.2.1,.slice yb yn yc]:=v1
 have E1:al (fun s=>s=5) h col h1 col:=al.kx k1 g.k rfl
 have f1:bh h1 col:=fun k hk=>p.fresh k (by omega)
 have p1:RW h1 col w m:=p.ext E1 (by decide) (by decide) f1
 have hR1:cI (bT col h1) h1 (id,y.2) yb yn yc:=jA (m:=(id,y.2)) (E1.row Yf.1) Yf.2.1 hid Yf.2.2.2
 obtain⟨t,T,W⟩:=p1.ex
 obtain⟨ob,oc,mb,mn,mc,v,o,om⟩:=W.ex
 obtain⟨xs,he,hc,_⟩:=om.parts
 have hl:=om.len
 have hcap:=om.cap
 have hA:∀k,bT col h1 k->k<h1.size:=fun k hk=>hk.2
 refine aa ⟨_,_,_,v.cell 2 rfl,⟨by omega,by omega,by omega⟩,?_⟩
 rw[qK]
 have e1:Int.toNat (k:Int) - Int.toNat (0:Int)=k:=by rw[Int.toNat_natCast];rfl
 rw[e1]
 refine oR db he hA hc hl (hi:=k) (by omega) (by omega) (by omega) fun b2 c2 h2 o2 k2=>aH ?_
 have v12:=v1.kb k2
 refine⟨_,v12.cell 0 rfl,_,v12.cell 1 rfl,_,_,_,v12.cell 2 rfl,af fun jB h3 v3 k3 e3 s3=>?_⟩
 have gi:=k2.trans k3
 refine bO.sj db (x:=(id,y.2)) (o2.kb k3) hA v3 (hR1.kb gi) (by simp only[maxLen];omega) (by omega) gi.1 fun b4 c4 h4 o4 g4=>aH (aa ?_)
 have nU:KB h1 h4:=g4.yj gi o2.lo
 refine⟨_,_,_,(v.kb nU).cell 2 rfl,⟨by omega,by omega,by omega⟩,?_⟩
 rw[Int.toNat_natCast,Int.toNat_natCast]
 refine oS db (lo:=k) o4 hA nU (Nat.le_refl _) nU.1 he hA hc hl (by omega) hcap.1 (by omega) (by omega) fun b5 c5 h5 o5 k5=>aH (aa ?_)
 have el:m.aE.take k++ [(id,y.2)]++m.aE.drop k=cP m.aE k (id,y.2):=by unfold cP;rw[List.append_assoc];rfl
 rw[el] at o5
 refine dY W f1 k5 o5 fun h6 W6 E6 f6 _=>?_
 have p6:RW h6 _ w {m with aE:=cP m.aE k (id,y.2)}:=⟨t,T.cf (Z:=fun k=>k=3) (by decide) E6 f6,W6⟩
 obtain⟨ON,Yg⟩:∃c6,cz col h1 b5 (3,2)=c6:=⟨_,rfl⟩
 rw[Yg] at p6 E6 W6 f6
 have Ax:al RA h col h6 ON:=(E1.mono fun s hs=>.inr hs).trans (E6.mono fun s hs=>.inl (.inr hs))
 obtain⟨ob6,oc6,mb6,mn6,mc6,v6,o6,om6⟩:=W6.ex
 obtain⟨fU,_,_⟩:=fy (l:=m.op) (p:=fun x=>decide (x.1=f)) hf
 obtain⟨j,ej⟩:=Int.eq_ofNat_of_zero_le hf
 have fU:j<m.op.length:=by have h2:(cM m.op fun x=>decide (x.1=f))=(j:Int):=ej;omega
 rw[show(gh m.op f).toNat=j by rw[ej];rfl,aJ fU] at hk
 have v76:=v7.keep Ax.eR ⟨c7,v7.lt⟩
 have c76:ON x7.block=none:=by rw[Ax.cl _ v7.lt];exact c7
 have fin:∀h7 a7,KB h6 h7->Var h7 a7 77 (aW m.op[j])->h6.size<=a7.block->gG m.op[j]->zC 120 [(.pointer (some w)),(.int .i64 f)] h7 fun Kj uq=>bc (a7.add 0) [(.int .i64 id)] 0 uq fun lX=>∃i38,cell lX (x7.add 0)=some (.int .i64 i38)/\(∃i39,cell lX ((a7).add 0)=some (.int .i64 i39)/\(∃i40,cell lX ((a7).add 1)=some (.int .u8 i40)/\(∃Ta,cell lX ((a7).add 2)=some (S Ta)/\(∃i42,cell lX ((a7).add 3)=some (.int .u8 i42)/\(zC 208 [(.pointer (some w)),(.int .i64 i38)] lX fun OM yf=>aL .i64 OM fun i45=>bG lX yf/\(zC 231 [(.pointer (some w)),(.int .i64 i45),(.agg ⟨[(.int .i64 i39),(.int .u8 i40),(S Ta),(.int .u8 i42)]⟩)] yf fun v46 EW=>Kn EW)))))):=fun h7 a7 k7 va7 ha7 ow=>
  Ki p6 k7 va7 ha7 fun c8 g8 p8 E8=>Aw p8 eD jO g8 ow (v76.kb k7) (by rw[E8.cl _ v76.lt];exact c76) hid EV fun h9 c9 p9 E9=>hk h9 c9 p9 ((Ax.trans E8).trans E9)
 refine⟨?_,?_⟩
 ·refine aa ⟨_,_,_,v6.cell 1 rfl,fY p6 (by show m.op.length<=_;omega) (aO ⟨(KB.refl _).ext,?_⟩)⟩
  rw[show gh {m with aE:=cP m.aE k (id,y.2):WM}.op f=(j:Int) from ej]
  exact o6.row.bj (i:=j) fU rfl fun q hA=>cT hA fun ow=>af fun a7 h7 v7 k7 e7 s7=>⟨k7.ext,aQ v7 (by show 4<=4;omega) fun h8 v8 k8 s8=>fin h8 a7 (KB.step k7 k8 (by omega)) v8 (by omega) ow⟩
 ·refine aa ⟨_,_,_,v6.cell 1 rfl,af fun a7 h7 v7 k7 e7 s7=>⟨k7.ext,fY (p6.kb k7) (by show m.op.length<=_;omega) (aO ⟨(KB.refl _).ext,?_⟩)⟩⟩
  rw[show gh {m with aE:=cP m.aE k (id,y.2):WM}.op f=(j:Int) from ej]
  exact(o6.kb k7).row.bj (i:=j) fU rfl fun q hA=>cT hA fun ow=>aQ v7 (by show 4<=4;omega) fun h8 v8 k8 s8=>fin h8 a7 (KB.step k7 k8 (by omega)) v8 (by omega) ow
end
section
variable {Z:Nat->Prop} {h h':H} {K:KV} {col col':bY} {w a x6 x7 bD:Addr} {m:WM} {f id:Int} {bl y:aP} {u v x j b q:Nat}
theorem CI.Tc (C:CI m u v x f j b q) {blk:Int} (B:BI m blk (j+1)):0<=gh (bt m.op f) blk:=by
 have fU:j<m.op.length:=Nat.lt_of_lt_of_le C.hj C.hq
 have eg:m.op.getD j aI=m.op[j]:=aJ fU
 have tu:m.op[j].1=f:=by have:=C.hf;rwa[eg] at this
 obtain⟨i,Ay,yl,hi3⟩:=B
 have wu:bt m.op f=m.op.eraseIdx j:=by rw[<-tu];exact C.A.vH fU C.h0
 have iZ:∃y ∈ bt m.op f,y.1=blk:=by
  rw[wu]
  refine⟨m.op[i],List.mem_eraseIdx_iff_getElem.2 ⟨i,yl,by omega,rfl⟩,?_⟩
  rwa[aJ yl] at hi3
 have:0<=cM (bt m.op f) (fun x=>decide (x.1=blk)):=by
  rw[mg,List.any_eq_true]
  obtain⟨y,hy,e⟩:=iZ
  exact⟨y,hy,by simpa using e⟩
 exact this
theorem EX {Kn Kr:yi.T0} (p:RW h col w m) (C:CI m u v x f j b q) (B:BI m bl.1 (j+1)) (hu:u+1<=900000) (hv:v<=900000) (v7:Var h x7 77 (aW bl)) (c7:col x7.block=none)
  (hk:∀h' col',RW h' col' w (mW m f bl.1 b)->al RA h col h' col'->Kn h'):yi.n9 (some w) f x7 (b:Int) Kn Kr h:=by
 obtain⟨t,T,W⟩:=p.ex
 obtain⟨_,_,_,_,_,vw,_,_⟩:=W.ex
 have jQ:=C.A.D.lo
 have qF:=C.A.D.ln
 have jR:=C.A.D.ml
 have fU:j<m.op.length:=Nat.lt_of_lt_of_le C.hj C.hq
 have eg:m.op.getD j aI=m.op[j]:=aJ fU
 have tu:m.op[j].1=f:=by have:=C.hf;rwa[eg] at this
 have Yh:0<=f:=by rw[<-tu];exact(C.A.D.ids _ (List.getElem_mem fU)).1
 have wk:gh m.op f=(j:Int):=by rw[<-tu];exact C.A.tF fU
 refine aa ⟨_,vw.cell 0 rfl,GS T W C.A.D.B (by omega) fun h1 c1 T1 W1 E1=>aO ?_⟩
 obtain⟨A1,ec,hcl,_⟩:=C.A.copy (List.getElem_mem fU) (C.A.OO fU C.h0)
 rw[tu] at A1 ec hcl
 obtain⟨id,hid⟩:∃id,(bg m.ns f).2=id:=⟨_,rfl⟩
 rw[hid] at ec ⊢
 have Kl:bd .i64 id:=by rw[ec];exact aF (by omega) (by omega)
 obtain⟨_,_,_,_,_,vw1,_,_⟩:=W1.ex
 have E01:al RA h col h1 c1:=E1.ra
 have v71:=v7.keep E01.eR ⟨c7,v7.lt⟩
 refine aa ⟨_,vw1.cell 0 rfl,_,v71.cell 0 rfl,OP T1 W1 A1.D.G fun h2 c2 T2 W2 E2=>ag ?_⟩
 have A2:=A1.move bl.1 id
 refine dm (K:=fun _=>yi.Ar (some w) f x7 (b:Int) id Kn Kr h2) ?_
 obtain⟨_,_,_,_,_,vw2,_,_⟩:=W2.ex
 have zo:al RA h col h2 c2:=E01.trans E2.ra
 have v72:=v7.keep zo.eR ⟨c7,v7.lt⟩
 refine aa ⟨_,vw2.cell 0 rfl,_,v72.cell 0 rfl,EY T2 W2 A2.D.G fun h3 c3 T3 W3 E3=>ag ?_⟩
 refine dm (K:=fun _=>yi.ui (some w) f x7 (b:Int) id Kn Kr h3) ?_
 have mT:al RA h col h3 c3:=zo.trans E3.ra
 have Xr:=v7.keep mT.eR ⟨c7,v7.lt⟩
 have c73:c3 x7.block=none:=by rw[mT.cl _ v7.lt];exact c7
 have p3:RW h3 c3 w {m with ns:=(cV (dn (bg m.ns f).1 bl.1 id).1 bl.1 (-1) id).1}:=⟨t,T3,W3⟩
 obtain⟨ob3,oc3,mb3,mn3,mc3,OQ,o3,Az⟩:=W3.ex
 have ae2:=Az.len
 have Td:0<=bp m.aE f:=(pJ Yh).2 C.hm
 obtain⟨_,dJ,Xs⟩:=gj Td
 obtain⟨k,ek⟩:=Int.eq_ofNat_of_zero_le Td
 have wv:(bp m.aE f).toNat=k:=by rw[ek];rfl
 rw[wv] at dJ
 have tG:m.aE.getD k noMark=m.aE[k]:=aJ dJ
 refine aa ⟨_,_,_,OQ.cell 2 rfl,gH Az.row (aO ?_)⟩
 rw[ek]
 obtain⟨xs3,he3,ae3,_⟩:=Az.parts
 obtain⟨am,yb,yn,yc,eb,m0,m1,m2,mR⟩:=j5 he3 ae3 dJ
 subst eb
 refine aa ⟨_,_,_,OQ.cell 2 rfl,⟨by omega,by omega⟩,aa ?_⟩
 rw[Int.toNat_natCast]
 refine⟨_,m0,_,m1,_,_,_,m2,af fun jh h4 v4 k4 e4 s4=>aQ v4 (by show 3<=3;omega) fun h5 v5 k5 s5=>?_⟩
 have EZ:KB h3 h5:=KB.step k4 k5 (by omega)
 have v5:Var h5 jh 79 [.int .i64 m.aE[k].1,S m.aE[k].2.1,.slice yb yn yc]:=v5
 have E5:∀Z:Nat->Prop,al Z h3 c3 h5 (cr c3 jh.block (5,0)):=fun Z=>⟨EZ.less fun q hq=>hq.1,fun q hq=>dG (by omega)⟩
 have p5:RW h5 (cr c3 jh.block (5,0)) w {m with ns:=(cV (dn (bg m.ns f).1 bl.1 id).1 bl.1 (-1) id).1}:=p3.ext (Z:=fun _=>False) (E5 _) (fun h=>h) (fun h=>h) ((p3.fresh.kb EZ).cr v5.lt)
 have g5:Kk h5 (cr c3 jh.block (5,0)) jh m.aE[k] yb yn yc:=⟨v5,fX,zp (E5 RA) mR⟩
 refine pK p5 dJ (by show m.aE.length<=_;omega) fun h6 c6 p6 E6=>?_
 have g6:=g5.rs E6
 have Ax:al RA h col h6 c6:=(mT.trans (E5 RA)).trans E6.ra
 have v76:=v7.keep Ax.eR ⟨c7,v7.lt⟩
 have c76:c6 x7.block=none:=by rw[Ax.cl _ v7.lt];exact c7
 have hb:=C.hb
 have Xt:(m.aE.eraseIdx k).length=m.aE.length - 1:=by rw[List.length_eraseIdx,if_pos dJ]
 have hub:ed b k<=(m.aE.eraseIdx k).length:=by rw[Xt];unfold ed;split <;> omega
 have fin:∀bb,((ed b k:Nat):Int)=bb->yi.n16 (some w) f x7 bb id jh Kn Kr h6:=fun bb Te=>by
  subst Te
  refine Cu p6 (by show m.op.length<=_;omega) (by show(m.aE.eraseIdx k).length<=_;omega) C.A.D.nd g6 v76 c76 Kl (by show 0<=gh m.op f;omega) (C.Tc B) hub fun h7 c7 p7 E7=>hk h7 c7 ?_ (Ax.trans E7)
  unfold mW
  simp only[hid,wv,tG]
  exact p7
 refine bf (fun cR=>⟨aF (by omega) (by omega),fin _ ?_⟩) fun Ew=>fin _ ?_
 ·unfold ed;rw[if_pos (by omega)];omega
 ·unfold ed;rw[if_neg (by omega)]
end
section
variable {h h':H} {K:KV} {col col':bY} {w:Addr} {m:WM} {f:Int} {u v x j k n:Nat}
theorem yC (p:RW h col w m) (C:CI m u v x f j k n) (Yi:bp m.aE f=(k:Int)) (hn:n<m.op.length) (hu:u+4<=900000) (hv:v<=900000) {ah:aP} (hah:m.op.getD (j - 1) aI=ah)
  (hk:∀h' col',RW h' col' w (ur m f k j n)->al RA h col h' col'->K (.tuple ⟨[]⟩) h'):
  zC 211 [.pointer (some w),.int .i64 f,.agg ⟨aW ah⟩,.agg ⟨aW m.op[n]⟩] h K:=by
 have jQ:=C.A.D.lo
 have qF:=C.A.D.ln
 have jR:=C.A.D.ml
 have egn:m.op.getD n aI=m.op[n]:=aJ hn
 obtain⟨R,hR⟩:∃R,dN m.op[n].1 f n 0 m m.op[n].1 k=R:=⟨_,rfl⟩
 have C2:=iL m.op[n].1 n 0 m.op[n].1 C
 have B2:=mh (blk:=m.op[n].1) n 0 m.op[n].1 C ⟨n,Nat.le_refl _,hn,by rw[egn]⟩
 rw[hR] at C2 B2
 unfold ur at hk
 simp only[egn,hR,hah] at hk
 have wk:gh m.op m.op[n].1=(n:Int):=C.A.tF hn
 refine yi.ok _ _ _ _ _ _ _ _ _ _ _ _ (af fun x6 h1 v6 k1 e1 s1=>af fun x7 h2 v7 k2 e2 s2=>?_)
 have gy:=k1.trans k2
 have v6:Var h2 x6 77 (aW ah):=v6.kb k2
 have v7:Var h2 x7 77 (aW m.op[n]):=v7
 have p2:=p.kb gy
 have c6:col x6.block=none:=p.fresh _ (by omega)
 have c7:col x7.block=none:=p.fresh _ (by have:=k1.1;omega)
 obtain⟨t,T,W⟩:=p2.ex
 obtain⟨ob,oc,mb,mn,mc,vw,o,om⟩:=W.ex
 refine aa ⟨_,_,_,vw.cell 2 rfl,gH om.row (aO ?_)⟩
 rw[Yi]
 refine⟨_,v7.cell 0 rfl,_,v7.cell 1 rfl,_,v7.cell 2 rfl,_,v7.cell 3 rfl,af fun bD h3 v3 k3 e3 s3=>aQ v3 (by show 4<=4;omega) fun h4 v4 k4 s4=>?_⟩
 have uu:KB h2 h4:=KB.step k3 k4 (by omega)
 refine Ki p2 uu (y:=m.op[n]) v4 (by omega) fun c4 g4 p4 E4=>?_
 have Yj:=v6.keep E4.eR ⟨c6,v6.lt⟩
 have Tf:=v7.keep E4.eR ⟨c7,v7.lt⟩
 have c64:c4 x6.block=none:=by rw[E4.cl _ v6.lt];exact c6
 have c74:c4 x7.block=none:=by rw[E4.cl _ v7.lt];exact c7
 have Km:al RA h col h4 c4:=(al.kb gy).trans E4
 refine⟨_,Tf.cell 0 rfl,fY p4 (by omega) (aO ?_)⟩
 rw[wk]
 refine⟨n,?_⟩
 refine mX (KE:=fun z0 z1 z6 z7 z9 OR h=>yi.n7 z0 z1 z6 z7 z9 OR (fun h=>K (.tuple ⟨[]⟩) h) (fun h=>K (.tuple ⟨[]⟩) h) h) Tf c74 (fun h5 c5 y p5 g5 hy E5=>?_) n 0 g4 p4 C (by omega) hv (by omega) hR (.refl _ _ _)
 have RP:=Yj.keep E5.eR ⟨c64,Yj.lt⟩
 have Ko:=Km.trans E5
 obtain⟨t5,T5,W5⟩:=p5.ex
 have hlo5:=C2.A.D.lo
 refine⟨_,RP.cell 0 rfl,_,RP.cell 1 rfl,_,RP.cell 2 rfl,_,RP.cell 3 rfl,im (x:=ah) T5 C2.A.D.G W5 (by omega) fun h6 k6=>lk ?_⟩
 have g6:=g5.kb k6
 have T6:=T5.kb k6
 have W6:=W5.kb k6
 obtain⟨_,_,_,_,_,Yk,_,_⟩:=W6.ex
 refine aa ⟨_,Yk.cell 0 rfl,_,g6.v.cell 0 rfl,EY T6 W6 C2.A.D.G fun h7 c7' T7 W7 E7=>ag ?_⟩
 refine dm (K:=fun _=>yi.n9 (some w) f x7 (R.2.2:Int) (fun h=>K (.tuple ⟨[]⟩) h) (fun h=>K (.tuple ⟨[]⟩) h) h7) ?_
 have E47:al RA h4 c4 h7 c7':=(E5.trans (.kb k6)).trans E7.ra
 have Yl:=Tf.keep E47.eR ⟨c74,Tf.lt⟩
 have c77:c7' x7.block=none:=by rw[E47.cl _ Tf.lt];exact c74
 have C3:=C2.put (cy R.1.ns R.1.op R.1.fo ah).1 (cy R.1.ns R.1.op R.1.fo ah).2 R.2.1
 rw[hy] at T7
 have p7:RW h7 c7' w {R.1 with ns:=(cV R.1.ns (cy R.1.ns R.1.op R.1.fo ah).1 (cy R.1.ns R.1.op R.1.fo ah).2 R.2.1).1}:=⟨t5,T7,W7⟩
 exact EX p7 C3 B2 (by omega) hv Yl c77 fun h8 c8 p8 E8=>hk h8 c8 p8 ((Km.trans E47).trans E8)
end
theorem Ih {α:Type} {a:α} {l:List α} {p:α->Bool}:cM (a::l) p=if p a=true then 0 else if cM l p<0 then -1 else cM l p+1:=by
 unfold cM
 rw[List.findIdx?_cons]
 by_cases h:p a=true
 ·rw[if_pos h,if_pos h];rfl
 ·rw[if_neg h,if_neg h]
  cases l.findIdx? p with
  | none=>rfl
  | some i=>
   show((i+1:Nat):Int)=if(i:Int)<0 then(-1:Int) else(i:Int)+1
   rw[if_neg (by omega)];rfl
def u6 (op:List aP) (s:Nat):Int:=if cM (op.drop s) fi<0 then -1 else cM (op.drop s) fi+(s:Int)
theorem Ii {op:List aP} {i:Nat} (hi:i<op.length):u6 op i=if fi op[i]=true then(i:Int) else u6 op (i+1):=by
 unfold u6
 rw[List.drop_eq_getElem_cons hi,Ih]
 by_cases h:fi op[i]=true
 ·rw[if_pos h,if_pos h,if_neg (by decide)];omega
 ·rw[if_neg h,if_neg h]
  by_cases h2:cM (op.drop (i+1)) fi<0
  ·rw[if_pos h2,if_pos (by decide),if_pos h2]
  ·rw[if_neg h2,if_neg (by omega),if_neg h2];omega
theorem Kp {op:List aP}:u6 op op.length= -1:=by
 unfold u6
 rw[List.drop_length];rfl
section
variable {h h':H} {K:KV} {col col':bY} {w:Addr} {m:WM} {nm:Bs} {f:Int} {u v x j k n:Nat}
theorem rm {Kn:vI.T9} {Ke1:vI.T4} {Ke0:vI.T3} {Kr:vI.T0} {i0:Nat} {x6 x7 x8:Int} (p:RW h col w m) (eD:m.op.length<=900000) (hk:∀h',KB h h'->Kn (some w) nm x6 x7 x8 (i0:Int) (u6 m.op (i0+1)) h'):
  ∀(j:Nat) {h2:H},i0+j<m.op.length->KB h h2->vI.Kq Kn Kn Ke1 Ke0 Kr (j+1) (some w) nm x6 x7 x8 (i0:Int) (u6 m.op (i0+j+1)) ((i0+j:Nat):Int) h2
 | 0,h2,hj,k2=>by
  unfold vI.Kq LP vI.GU
  exact cg (by omega) (hk h2 k2)
 | j+1,h2,hj,k2=>by
  obtain⟨t,T,W⟩:=p.ex
  obtain⟨ob,oc,mb,mn,mc,v,o,om⟩:=(W.kb k2).ex
  unfold vI.Kq LP vI.GU
  obtain⟨i,hi⟩:∃i,i0+(j+1)=i:=⟨_,rfl⟩
  rw[hi] at hj ⊢
  have e0:((i:Int) - (1:Int))=((i0+j:Nat):Int):=by omega
  have jF:=Ii hj
  refine bK (by omega) (aa ⟨_,_,_,v.cell 1 rfl,o.row.bj hj rfl fun q hA=>⟨_,hA.snd.fst.int.1,aa ⟨_,_,_,v.cell 1 rfl,o.row.bj hj rfl fun q2 oT=>?_⟩⟩⟩)
  refine⟨_,(oT.snd.dt (k:=2) rfl).fst.str.1,gk fun h3 k3=>ag (aR (fun hb=>⟨aF (by omega) (by omega),?_⟩) fun hb=>⟨aF (by omega) (by omega),?_⟩)⟩
  ·have hb:fi m.op[i]=true:=hb
   rw[if_pos hb] at jF
   have:=rm (Ke1:=Ke1) (Ke0:=Ke0) (Kr:=Kr) p eD hk j (h2:=h3) (by omega) (k2.trans k3)
   rw[show i0+j+1=i by omega,jF] at this
   rw[e0];exact this
  ·have hb:fi m.op[i]=false:=hb
   rw[if_neg (by rw[hb];decide)] at jF
   have:=rm (Ke1:=Ke1) (Ke0:=Ke0) (Kr:=Kr) p eD hk j (h2:=h3) (by omega) (k2.trans k3)
   rw[show i0+j+1=i by omega,jF] at this
   rw[e0];exact this
theorem zq {KE:vI.T3} {Kr:vI.T0} {R:WM × Bool} {h0:H} {mi:bY} (hE:∀h' col',RW h' col' w R.1->al RA h0 mi h' col'->R.2=true->KE h')
  (hK:∀h' col',RW h' col' w R.1->al RA h0 mi h' col'->Kr R.2 h'):∀(r i:Nat) {m:WM} {u:Nat} {h:H} {col:bY},RW h col w m->AI m u v x->MW m->
   u+4*r<=900000->v<=900000->r+i=8->eS nm r m=R->al RA h0 mi h col->vI.gz KE KE Kr (r+1) (some w) nm (i:Int) h
 | 0,i,m,u,h,col,p,A,M,hu,hv,hi,hR,E0=>by
  unfold vI.gz LP vI.iq
  refine cg (by omega) ?_
  subst hR
  exact hE h col p E0 rfl
 | r+1,i,m,u,h,col,p,A,M,hu,hv,hi,hR,E0=>by
  unfold vI.gz LP vI.iq
  refine bK (by omega) ?_
  obtain⟨t,T,W⟩:=p.ex
  obtain⟨ob,oc,mb,mn,mc,vw,o,om⟩:=W.ex
  have jQ:=A.D.lo
  have jR:=A.D.ml
  have hmn:=om.len
  unfold eS at hR
  refine aa ⟨_,_,_,vw.cell 2 rfl,qL om.row (aO ?_)⟩
  refine bf (fun hn=>?_) fun hn=>?_
  ·rw[if_pos hn] at hR
   subst hR
   exact hK h col p E0
  rw[if_neg hn] at hR
  obtain⟨k,ek,dJ,Ij⟩:=mq (by omega:0<=fA m.aE nm)
  have wv:(fA m.aE nm).toNat=k:=by rw[ek];rfl
  rw[wv] at hR
  rw[ek]
  have A2:=A.round dJ Ij
  have M2:=M.round A dJ Ij
  have tG:m.aE.getD k noMark=m.aE[k]:=aJ dJ
  obtain⟨F,hF⟩:∃F,(m.aE.getD k noMark).1=F:=⟨_,rfl⟩
  have hFk:m.aE[k].1=F:=by rw[<-tG];exact hF
  have Yi:bp m.aE F=(k:Int):=by rw[<-hFk];exact MI.find M dJ (by rw[<-tG];exact Ij)
  obtain⟨S2,Fa⟩:∃S2,jl m k=S2:=⟨_,rfl⟩
  rw[Fa] at A2 M2 hR
  unfold jl at Fa
  simp only[] at Fa
  rw[hF] at Fa Ij
  refine aa ⟨_,_,_,vw.cell 2 rfl,om.row.bj (i:=k) dJ rfl fun q hA=>⟨_,hA.fst.int.1,?_⟩⟩
  rw[hFk]
  refine fY p (by omega) (aO ?_)
  refine bf (fun eI=>?_) fun eI=>?_
  ·rw[if_pos eI] at Fa
   subst Fa
   rw[if_neg (by simp)] at hR
   subst hR
   exact pK p dJ (by omega) fun h4 c4 p4 E4=>hK h4 c4 p4 (E0.trans E4.ra)
  rw[if_neg eI] at Fa
  obtain⟨i1,ei⟩:=Int.eq_ofNat_of_zero_le (by omega:0<=gh m.op F)
  have Tg:(gh m.op F).toNat=i1:=by rw[ei];rfl
  rw[Tg] at Fa
  rw[ei]
  have bQ:i1<m.op.length:=by have:=(ll (l:=m.op) (p:=fun x=>decide (x.1=F))).1;have h2:(cM m.op fun x=>decide (x.1=F))=(i1:Int):=ei;omega
  refine u7 p (by omega) (fun y hy=>by have:=A.yD y hy;omega) bQ fun h4 k4=>ag (aR (fun hs=>?_) fun hs=>?_)
  rotate_left
  ·rw[hs,if_pos rfl] at Fa
   subst Fa
   rw[if_neg (by simp)] at hR
   subst hR
   exact aC (hK h4 col (p.kb k4) (E0.trans (.kb k4)))
  rw[hs,if_neg (by simp)] at Fa
  refine aD ?_
  have p4:=p.kb k4
  have E4:=E0.trans (al.kb (S:=RA) (col:=col) k4)
  obtain⟨t4,T4,W4⟩:=p4.ex
  obtain⟨OS,OT,Th,Ks,Kt,yE,o4,Ti⟩:=W4.ex
  refine aa ⟨_,_,_,yE.cell 1 rfl,aF (by omega) (by omega),m.op.length - 1 - i1+1,?_⟩
  have e1:((m.op.length:Int) - (1:Int))=((i1+(m.op.length - 1 - i1):Nat):Int):=by omega
  rw[e1]
  have yF:u6 m.op (i1+(m.op.length - 1 - i1)+1)= -1:=by rw[show i1+(m.op.length - 1 - i1)+1=m.op.length by omega];exact Kp
  rw[<-yF]
  refine rm (Kn:=fun z0 z1 z6 z7 z8 z9 OU h=>vI.n22 z0 z1 z6 z7 z8 z9 OU (fun z0 z1 z6 h=>vI.Ar z0 z1 z6 (vI.gz KE KE Kr (r+1)) KE Kr h) (fun z0 z1 z6 h=>vI.Ar z0 z1 z6 (vI.gz KE KE Kr (r+1)) KE Kr h) KE Kr h) p4 (by omega) (fun h5 k5=>?_) (m.op.length - 1 - i1) (by omega) (KB.refl h4)
  have p5:=p4.kb k5
  have E5:=E4.trans (al.kb (S:=RA) (col:=col) k5)
  by_cases RQ:cM (m.op.drop (i1+1)) fi<0
  ·rw[if_pos RQ] at Fa
   subst Fa
   rw[if_neg (by simp)] at hR
   subst hR
   have hb:u6 m.op (i1+1)= -1:=by unfold u6;rw[if_pos RQ]
   rw[hb]
   refine bK (by decide) (aD (fZ p5 fun h6 c6 p6 E6=>?_))
   have Ku:(cZ m (i1:Int)).aE=m.aE:=rfl
   exact pK p6 (by rw[Ku];exact dJ) (by rw[Ku];omega) fun h7 c7 p7 E7=>hK h7 c7 p7 ((E5.trans E6.ra).trans E7.ra)
  ·rw[if_neg RQ] at Fa
   subst Fa
   rw[if_pos rfl] at hR
   obtain⟨fU,hjs,_⟩:=fy (l:=m.op.drop (i1+1)) (p:=fi) (by omega)
   rw[List.length_drop] at fU
   obtain⟨j,ej⟩:=Int.eq_ofNat_of_zero_le (by omega:0<=cM (m.op.drop (i1+1)) fi)
   have ejn:(cM (m.op.drop (i1+1)) fi).toNat=j:=by rw[ej];rfl
   rw[ejn] at fU hR A2 M2
   obtain⟨n,vJ⟩:∃n,j+(i1+1)=n:=⟨_,rfl⟩
   rw[vJ] at hR A2 M2
   have hb:u6 m.op (i1+1)=(n:Int):=by unfold u6;rw[if_neg RQ,ej];omega
   rw[hb]
   have Ew:n<m.op.length:=by omega
   have C:CI m u v x F i1 k n:=by
    have:=A.begin (n:=n) dJ (by rw[hF];exact Ij) (by rw[hF];omega) (by rw[hF,Tg];omega) (by omega)
    rw[hF,Tg] at this
    exact this
   have yG:=C.h0
   refine cg (by omega) (aC ?_)
   obtain⟨Xu,oc5,Ym,Xv,Yn,B4,o5,JE⟩:=(W4.kb k5).ex
   have e3:((i1:Int) - (1:Int))=((i1 - 1:Nat):Int):=by omega
   have Ay:i1 - 1<m.op.length:=by omega
   refine aa ⟨_,_,_,B4.cell 1 rfl,aF (by omega) (by omega),?_⟩
   rw[e3]
   refine o5.row.bj (i:=i1 - 1) Ay rfl fun q hA=>cT hA fun ow=>aa ⟨_,_,_,B4.cell 1 rfl,o5.row.bj (i:=n) Ew rfl fun q2 oT=>cT oT fun ow2=>?_⟩
   refine yC p5 C Yi Ew (by omega) hv (ah:=m.op[i1 - 1]) (aJ Ay) fun h6 c6 p6 E6=>⟨aF (by omega) (by omega),?_⟩
   have e4:((i:Int)+(1:Int))=((i+1:Nat):Int):=rfl
   rw[e4]
   exact zq hE hK r (i+1) p6 A2 M2 (by omega) hv (by omega) hR (E5.trans E6)
theorem AA (p:RW h col w m) (A:AI m u v x) (M:MW m) (hu:u+32<=900000) (hv:v<=900000) (hk:∀h' col',RW h' col' w (runM m nm).1->al RA h col h' col'->K (.bool (runM m nm).2) h'):
  zC 175 [.pointer (some w),S nm] h K:=by
 obtain⟨t,T,W⟩:=p.ex
 have jQ:=A.D.lo
 have qF:=A.D.ln
 have jR:=A.D.ml
 obtain⟨R,hR⟩:∃R,runM m nm=R:=⟨_,rfl⟩
 rw[hR] at hk
 refine vI.ok _ _ _ _ (eU W A.D.ne (by omega) fun h1 k1=>jm (x:=dP m.op) <| af fun a2 h2 v2 k2 e2 s2=>aQ v2 (by show 4<=4;omega) fun h3 v3 k3 s3=>?_)
 have rq:KB h h3:=k1.trans (KB.step k2 k3 (by omega))
 have p3:=p.kb rq
 have v3:Var h3 a2 77 (aW (dP m.op)):=v3
 have rest:eS nm 8 m=R->vI.n4 (some w) nm (fun y h=>K (.bool y) h) (fun y h=>K (.bool y) h) h3:=fun hr=>
  ⟨9,zq (fun h' c' p' E' e=>by have:=hk h' c' p' E';rw[e] at this;exact this) (fun h' c' p' E'=>hk h' c' p' E') 8 0 p3 A M (by omega) hv rfl hr (.kb rq)⟩
 obtain⟨ob,oc,mb,mn,mc,vw,o,om⟩:=(W.kb rq).ex
 unfold runM at hR
 have no:(uv (dP m.op) nm=true->0<=bp m.aE (dP m.op).1)->eS nm 8 m=R:=fun hc=>by
  rw[if_neg (fun⟨h1,h2⟩=>by have:=hc h1;omega)] at hR
  exact hR
 have nn:¬(uv (dP m.op) nm=true)->eS nm 8 m=R:=fun hc=>no fun h=>absurd h hc
 refine⟨_,v3.cell 1 rfl,bf (fun e1=>⟨_,v3.cell 2 rfl,bf (fun e2=>aa ⟨_,_,_,vw.cell 2 rfl,_,v3.cell 0 rfl,gH om.row (aO (bf (fun e3=>?_) fun e3=>aC ?_))⟩) fun e2=>aC ?_⟩) fun e1=>aC ?_⟩
 ·have hi:uv (dP m.op) nm=true:=by unfold uv;rw[decide_eq_true e1,decide_eq_true e2];rfl
  rw[if_pos ⟨hi,e3⟩] at hR
  refine aD (aa ⟨_,_,_,vw.cell 1 rfl,aF (by omega) (by omega),?_⟩)
  subst hR
  exact fZ p3 fun h5 c5 p5 E5=>hk h5 c5 p5 ((al.kb rq).trans E5.ra)
 ·exact rest (no fun _=>by omega)
 ·exact rest (nn fun h=>e2 (by unfold uv at h;simp only[Bool.and_eq_true,decide_eq_true_eq] at h;exact h.2))
 ·exact rest (nn fun h=>e1 (by unfold uv at h;simp only[Bool.and_eq_true,decide_eq_true_eq] at h;exact h.1))
end
section
variable {Z:Nat->Prop} {h h':H} {K:KV} {col col':bY} {w:Addr} {m:WM}
theorem yz (p:RW h col w m) (G:aV m.ns) (bL:0<m.op.length) (eD:m.op.length<1000000) (AB:m.ns.length<1000000) {tx:Bs} (Fb:tx.length<=maxLen)
  (hk:∀h' col',RW h' col' w (uw m tx)->al RS h col h' col'->K (.tuple ⟨[]⟩) h'):
  zC 45 [.pointer (some w),S tx] h K:=by
 obtain⟨t,T,W⟩:=p.ex
 refine Xep.ok _ _ _ _ ?_
 refine eU W bL (by omega) fun h2 k2=>?_
 refine jm (x:=dP m.op) ?_
 refine im (x:=dP m.op) (T.kb k2) G (W.kb k2) (by omega) fun h3 k3=>lk ?_
 have gi:=k2.trans k3
 obtain⟨ob,oc,mb,mn,mc,vw,ow,Yo⟩:=(W.kb gi).ex
 have G4:aV (bE m.ns (bF 3 0 [] [] tx)).1:=G.bE _ _ _ _ _
 have tail:∀h4 c4,dD h4 c4 1 t (bE m.ns (bF 3 0 [] [] tx)).1->Ext 1 h3 col h4 c4->zC 104 [.pointer (some t),.int .i64 (cy m.ns m.op m.fo (dP m.op)).1,.int .i64 (cy m.ns m.op m.fo (dP m.op)).2,.int .i64 (bE m.ns (bF 3 0 [] [] tx)).2] h4 fun v40 yH=>au v40 fun Yp=>cond Yp (K (.tuple ⟨[]⟩) yH) (K (.tuple ⟨[]⟩) yH):=fun h4 c4 T4 E4=>by
  refine GV T4 G4 fun h5 c5 T5 E5=>ag ?_
  have Cv:al (fun s=>s=1) h3 col h4 c4:=E4.p rfl
  have Kv:al (fun s=>s=1) h4 c4 h5 c5:=E5.p rfl
  have W5:=((W.kb gi).ext Cv (by decide)).ext Kv (by decide)
  have fin:K (.tuple ⟨[]⟩) h5:=hk h5 c5 ⟨t,T5,W5⟩ ((al.kb gi).trans ((Cv.trans Kv).mono fun s hs=>.inl hs))
  exact dm (K:=fun _=>K (.tuple ⟨[]⟩) h5) fin
 refine⟨aa (aa ⟨_,vw.cell 0 rfl,wx (T.kb gi) (sm (A:=fun _=>True)) (by decide) ⟨by decide,by decide⟩ ⟨by decide,by decide⟩ (by decide) Fb AB fun h4 c4 T4 E4=>aO ?_⟩),
  aa ⟨_,vw.cell 0 rfl,aa ⟨_,vw.cell 0 rfl,wx (T.kb gi) (sm (A:=fun _=>True)) (by decide) ⟨by decide,by decide⟩ ⟨by decide,by decide⟩ (by decide) Fb AB fun h4 c4 T4 E4=>aO (tail h4 c4 T4 E4)⟩⟩⟩
 obtain⟨OS,OT,Th,Ks,Kt,yE,_,_⟩:=((W.kb gi).ext (S:=fun s=>s=1) (E4.p rfl) (by decide)).ex
 exact⟨_,yE.cell 0 rfl,tail h4 c4 T4 E4⟩
end
section
variable {B:Nat->Prop} {h:H} {K:KV} {col:bY} {a w:Addr} {mm:MM} {u v x:Nat} {t:cm} {b:OA} {n c:Nat} {ns:List Bs} {s:Bs}
theorem pI (C:CR h col a w mm u v x) (rn:Row cN B h b n c ns) (sc:Int) (hk:∀h',KB h h'->K (.bool (kQ mm.w.op sc ns)) h'):zC 114 [.pointer (some a),.int .u8 sc,.slice b n c] h K:=by
 obtain⟨t,T,W⟩:=C.p.ex
 obtain⟨ob,oc,mb,mn,mc,vw,o,om⟩:=W.ex
 exact Xe9.ok _ _ _ _ _ _ _ (aa ⟨_,C.V.cell 0 rfl,aa ⟨_,_,_,vw.cell 1 rfl,mY o.row C.Xw rn fun h1 k1=>ag (dm (K:=fun b=>K (.bool b) h1) (hk h1 k1))⟩⟩)
theorem tE (C:CR h col a w mm u v x) (hu:u<=890000) (T:fc h col t b n c) {sp:Int} (hsp:bd .u8 sp) (hk:∀h' c',CR h' c' a w {mm with w:=bs mm.w sp t.2.1 t.2.2.1} (u+1) v x->al RX h col h' c'->K (.int .i64 mm.w.ns.length) h'):zC 103 [.pointer (some w),.int .u8 sp,.agg ⟨aT (bR t b n c)⟩] h K:=by
 have jQ:=C.s.A.D.lo
 have qF:=C.s.A.D.ln
 have hn:=T.s.1
 exact nV C.p C.s.A.D.G C.s.A.D.ne (by omega) (by omega) T.r T.mQ T.attrs hsp T.k (by show t.2.1.length<=_;omega) fun h2 c2 p2 E2=>hk h2 c2 (C.ra p2 E2.ra (C.s.insert sp hn t.2.2.1)) E2.ra.rx
theorem sd (C:CR h col a w mm u v x) (hu:u<=890000) (T:fc h col t b n c) (hk:∀h' c',CR h' c' a w {mm with w:=fe mm.w t} (u+1) v x->al RX h col h' c'->K (.int .i64 mm.w.ns.length) h'):zC 110 [.pointer (some a),.agg ⟨aT (bR t b n c)⟩] h K:=
 Xe5.ok _ _ _ _ (T.new C.f fun a1 h1 l1 k1 _=>aa ⟨_,(C.da k1).V.cell 0 rfl,l1.ld (tE (C.da k1) hu l1.T zf fun h2 c2 C2 E2=>aO (hk h2 c2 C2 ((al.kb k1).trans E2)))⟩)
theorem AD (C:CR h col a w mm u v x) (i:Int) (hk:iW h col a w K {mm with w:=cZ mm.w i} u v x):zC 61 [.pointer (some w),.int .i64 i] h K:=
 fZ C.p fun h2 c2 p2 E2=>hk h2 c2 (C.ra p2 E2.ra (C.s.close i)) E2.ra.rx
theorem ze (C:CR h col a w mm u v x) (hu:u<=890000) (hk:iW h col a w K {mm with w:=sh mm.w} u v x):zC 39 [.pointer (some a)] h K:=by
 obtain⟨t,T,W⟩:=C.p.ex
 obtain⟨ob,oc,mb,mn,mc,vw,o,om⟩:=W.ex
 have jQ:=C.s.A.D.lo
 exact Xe8.ok _ _ _ (aa ⟨_,C.V.cell 0 rfl,aa ⟨_,C.V.cell 0 rfl,aa ⟨_,_,_,vw.cell 1 rfl,aF (by omega) (by omega),AD C _ hk⟩⟩⟩)
theorem Aq (C:CR h col a w mm u v x) (hu:u<=880000) (T:fc h col t b n c) (hk:iW h col a w K {mm with w:=jk mm.w t} (u+1) v x):zC 107 [.pointer (some a),.agg ⟨aT (bR t b n c)⟩] h K:=
 Xfe.ok _ _ _ _ (T.new C.f fun a1 h1 l1 k1 _=>l1.ld (sd (C.da k1) (by omega) l1.T fun h2 c2 C2 E2=>aO (ze C2 (by omega) fun h3 c3 C3 E3=>hk h3 c3 C3 ((al.kb k1).trans (E2.trans E3)))))
theorem uj (C:CR h col a w mm u v x) (hu:u<=800000) (hv:v<=10000) (hk:iW h col a w K {mm with w:=aU mm.w} (u+v) v x):zC 44 [.pointer (some w)] h K:=by
 have jQ:=C.s.A.D.lo
 have qF:=C.s.A.D.ln
 have jR:=C.s.A.D.ml
 exact tH C.p C.s.A.D.G C.s.A.D.ne (by omega) (by omega) C.s.A.D.mw.w fun h2 c2 p2 E2=>hk h2 c2 (C.ra p2 E2.ra C.s.ux) E2.ra.rx
theorem jP (C:CR h col a w mm u v x) (ex:Bs) (hk:iW h col a w K {mm with w:=wy mm.w ex} u v x):zC 115 [.pointer (some a),S ex] h K:=by
 obtain⟨t,T,W⟩:=C.p.ex
 obtain⟨ob,oc,mb,mn,mc,vw,o,om⟩:=W.ex
 exact Xe4.ok _ _ _ _ (aa ⟨_,C.V.cell 0 rfl,aa ⟨_,C.V.cell 0 rfl,aa ⟨_,_,_,vw.cell 1 rfl,mr o.row fun h1 k1=>aO ⟨k1.ext,AD (C.da k1) _ fun h2 c2 C2 E2=>hk h2 c2 C2 ((al.kb k1).trans E2)⟩⟩⟩⟩)
theorem X2 (C:CR h col a w mm u v x) (rn:Row cN B h b n c ns) (hk:iW h col a w K {mm with w:=upW mm.w ns} u v x):zC 116 [.pointer (some a),.slice b n c] h K:=by
 obtain⟨t,T,W⟩:=C.p.ex
 obtain⟨ob,oc,mb,mn,mc,vw,o,om⟩:=W.ex
 exact Xfc.ok _ _ _ _ _ _ (aa ⟨_,C.V.cell 0 rfl,aa ⟨_,C.V.cell 0 rfl,aa ⟨_,_,_,vw.cell 1 rfl,oU o.row rn fun h1 k1=>aO ⟨k1.ext,AD (C.da k1) _ fun h2 c2 C2 E2=>hk h2 c2 C2 ((al.kb k1).trans E2)⟩⟩⟩⟩)
theorem EO (C:CR h col a w mm u v x) (ex:Bs) (hs:s.length<=4000) {Q:H->Prop} (hk:∀h' c',CR h' c' a w {mm with w:=wc mm.w ex [s]} u v x->al RX h col h' c'->Q h'):
  zC 115 [.pointer (some a),S ex] h fun _ h7=>aw h7 #[S s] 9 fun a8 h9=>zC 116 [.pointer (some a),.slice (some a8) 1 1] h9 fun _ eG=>Q eG:=
 jP C ex fun h1 c1 C1 E1=>eM hs fun a2 h2 r2 k2=>X2 (C1.da k2) r2 fun h3 c3 C3 E3=>hk h3 c3 C3 (E1.trans ((al.kb k2).trans E3))
theorem oM (C:CR h col a w mm u v x) (sc:Int) (ex:Bs) (hs:s.length<=4000) {Q:H->Prop} (hk:∀h' c',CR h' c' a w {mm with w:=dF mm.w sc ex [s]} u v x->al RX h col h' c'->Q h'):
  aw h #[S s] 9 fun a1 h2=>zC 114 [.pointer (some a),.int .u8 sc,.slice (some a1) 1 1] h2 fun v3 h4=>au v3 fun b5=>cond b5 (zC 115 [.pointer (some a),S ex] h4 fun _ h7=>aw h7 #[S s] 9 fun a8 h9=>zC 116 [.pointer (some a),.slice (some a8) 1 1] h9 fun _ eG=>Q eG) (Q h4):=by
 unfold dF at hk
 refine eM hs fun a1 h1 r1 k1=>pI (C.da k1) r1 sc fun h2 k2=>ag (aR (fun e=>?_) fun e=>?_)
 ·have e:kQ mm.w.op sc [s]=true:=e
  rw[if_pos e] at hk
  exact EO ((C.da k1).da k2) ex hs fun h3 c3 C3 E3=>hk h3 c3 C3 ((al.kb (k1.trans k2)).trans E3)
 ·have e:kQ mm.w.op sc [s]=false:=e
  rw[if_neg (by rw[e];decide)] at hk
  exact hk h2 col ((C.da k1).da k2) (.kb (k1.trans k2))
theorem lZ (C:CR h col a w mm u v x) (hk:iW h col a w K {mm with w:=pW mm.w} u v x):zC 109 [.pointer (some a)] h K:=
 Xfd.ok _ _ _ (oM C 2 [112] (s:=[112]) (by decide) (Q:=fun h=>K (.tuple ⟨[]⟩) h) hk)
theorem ji (C:CR h col a w mm u v x) (hu:u<=890000) {a1:Addr} (l:LT h col a1 t b n c) {Q:Int->H->Prop} (hk:∀h' c',CR h' c' a w {mm with w:=fe mm.w t} (u+1) v x->al RX h col h' c'->Q (mm.w.ns.length:Int) h'):
  bJ h a1 fun t15=>zC 110 [.pointer (some a),.agg ⟨aT t15⟩] h fun oD fh=>aL .i64 oD fun i18=>Q i18 fh:=
 l.ld (sd C hu l.T fun h2 c2 C2 E2=>aO (hk h2 c2 C2 E2))
theorem jY (C:CR h col a w mm u v x) (hu:u<=890000) {a1:Addr} (l:LT h col a1 t b n c) {Q:Int->H->Prop} (hk:∀h' c',CR h' c' a w {mm with w:=dM mm.w t} (u+1) v x->al RX h col h' c'->Q (mm.w.ns.length:Int) h'):
  zC 109 [.pointer (some a)] h fun mu dx=>bJ dx a1 fun t15=>zC 110 [.pointer (some a),.agg ⟨aT t15⟩] dx fun oD fh=>aL .i64 oD fun i18=>Q i18 fh:=
 lZ C fun h2 c2 C2 E2=>ji C2 hu (l.ext E2) fun h3 c3 C3 E3=>by
  have:=hk h3 c3 C3 (E2.trans E3)
  rwa[<-RR mm.w] at this
theorem oN (C:CR h col a w mm u v x) (hu:u<=800000) (hv:v<=10000) {a1:Addr} (l:LT h col a1 t b n c) {Q:Int->H->Prop} (hk:∀h' c' i,CR h' c' a w {mm with w:=gO mm.w t} (u+v+1) v x->al RX h col h' c'->Q i h'):
  ae (some a) fun a87=>∃p88,cell h (a87.add 0)=some (.pointer p88)/\(zC 44 [.pointer p88] h fun v89 OV=>bJ OV a1 fun t91=>zC 110 [.pointer (some a),.agg ⟨aT t91⟩] OV fun Yq Ik=>aL .i64 Yq fun i94=>Q i94 Ik):=
 aa ⟨_,C.V.cell 0 rfl,uj C hu hv fun h2 c2 C2 E2=>ji C2 (by omega) (l.ext E2) fun h3 c3 C3 E3=>hk h3 c3 _ C3 (E2.trans E3)⟩
theorem JY (C:CR h col a w mm u v x) (T:fc h col t b n c) (rd:Int) (hk:iW h col a w K (mm.fp mm.w t rd) u v x):zC 166 [.pointer (some a),.agg ⟨aT (bR t b n c)⟩,.int .u8 rd] h K:=
 Xfp.ok _ _ _ _ _ (T.new C.f fun a1 h1 l1 k1 _=>aa ⟨_,(C.da k1).V.cell 1 rfl,aa ((C.da k1).H9 (mm2:={mm with back:=mm.mode}) rfl rfl (by decide) fun h2 C2 E2=>aa (C2.H9 (mm2:={mm with back:=mm.mode,mode:=1}) rfl rfl (by decide) fun h3 C3 E3=>aa (C3.H9 (mm2:={mm with back:=mm.mode,mode:=1,read:=rd}) rfl rfl (by decide) fun h4 C4 E4=>⟨_,(((l1.ext E2).ext E3).ext E4).nm,aa (C4.H9 (mm2:=mm.fp mm.w t rd) rfl rfl (by decide) fun h5 C5 E5=>hk h5 _ C5 ((al.kb k1).trans (E2.trans (E3.trans (E4.trans E5)))))⟩)))⟩)
theorem GH (C:CR h col a w mm u v x) (hu:u<=880000) (T:fc h col t b n c) (rd:Int) (hk:iW h col a w K (mm.fp (fe mm.w t) t rd) (u+1) v x):zC 108 [.pointer (some a),.agg ⟨aT (bR t b n c)⟩,.int .u8 rd] h K:=
 Xfm.ok _ _ _ _ _ (T.new C.f fun a1 h1 l1 k1 _=>ji (C.da k1) (by omega) l1 fun h2 c2 C2 E2=>(l1.ext E2).ld (JY C2 (l1.ext E2).T rd fun h3 c3 C3 E3=>hk h3 c3 C3 ((al.kb k1).trans (E2.trans E3))))
theorem GW (C:CR h col a w mm u v x) (hv:v<=100000):∃mb mn mc,cell h (w.add 2)=some (.slice mb mn mc)/\∀(y:aS) (ab:OA) (an ac:Nat) (Q:H->Prop),cI (bT col h) h y ab an ac->
  (∀h' c',RW h' c' w {mm.w with aE:=fj mm.w.aE y}->al RA h col h' c'->Q h')->
  zC 207 [.slice mb mn mc,.agg ⟨[.int .i64 y.1,S y.2.1,.slice ab an ac]⟩] h fun v h2=>aB v fun b n c=>bG h h2/\bc (w.add 2) [.slice b n c] 0 h2 Q:=by
 obtain⟨t,T,W⟩:=C.p.ex
 obtain⟨ob,oc,mb,mn,mc,vw,o,om⟩:=W.ex
 have jR:=C.s.A.D.ml
 have hl:=om.len
 obtain⟨xs,he,hc,_⟩:=om.parts
 refine⟨_,_,_,vw.cell 2 rfl,fun y ab an ac Q hR hk=>?_⟩
 refine yI om.row he hc (fun k hk=>hk.2) hR (by omega) fun b' n' c' h2 o2 k2=>aH ⟨k2.ext,dY W C.f k2 o2 fun h3 W3 E3 f3 _=>?_⟩
 exact hk h3 _ ⟨t,T.cf (Z:=fun k=>k=3) (by decide) E3 f3,W3⟩ (E3.mono fun s hs=>.inl (.inr hs))
theorem Tl (C:CR h col a w mm u v x) (hv:v<=100000) (T:fc h col t b n c) {id:Int} (hid:bd .i64 id) {u1 v1:Nat} (s1:MS {mm.w with aE:=fj mm.w.aE (id,t.2.1,t.2.2.1)} u1 v1 x) (hk:iW h col a w K {mm with w:={mm.w with aE:=fj mm.w.aE (id,t.2.1,t.2.2.1)}} u1 v1 x):zC 206 [.pointer (some a),.int .i64 id,.agg ⟨aT (bR t b n c)⟩] h K:=by
 refine Xfk.ok (some a) id (bR t b n c) K h (T.new C.f fun a4 h4 l4 k4 _=>?_)
 have C4:=C.da k4
 obtain⟨mb,mn,mc,e2,push⟩:=GW C4 hv
 have hR:cI (bT col h4) h4 (id,t.2.1,t.2.2.1) b n c:=jA (m:=(id,t.2.1,t.2.2.1)) l4.T.r T.z hid (by have:=T.s.1;show t.2.1.length<=_;simp only[maxLen];omega)
 have fin:=push _ b n c (fun h=>K (.tuple ⟨[]⟩) h) hR fun h5 c5 p5 E5=>hk h5 c5 (C4.ra p5 E5 s1) ((al.kb k4).trans E5.rx)
 exact aa ⟨_,C4.V.cell 0 rfl,aa ⟨_,C4.V.cell 0 rfl,aa ⟨_,_,_,e2,_,l4.nm,_,_,_,l4.V.cell 2 rfl,fin⟩⟩⟩
theorem oO (C:CR h col a w mm u v x) (hu:u<=800000) (hv:v<=10000) (T:fc h col t b n c) (hk:iW h col a w K {mm with w:=ic mm.w t} (u+v+1) (v+1) x):zC 172 [.pointer (some a),.agg ⟨aT (bR t b n c)⟩] h K:=by
 have qF:=C.s.ux.A.D.ln
 refine Xfh.ok _ _ _ _ (T.new C.f fun a1 h1 l1 k1 _=>aa ⟨_,(C.da k1).V.cell 0 rfl,uj (C.da k1) hu hv fun h2 c2 C2 E2=>(l1.ext E2).ld (sd C2 (by omega) (l1.ext E2).T fun h3 c3 C3 E3=>aO (((l1.ext E2).ext E3).ld ?_))⟩)
 exact Tl C3 (by omega) ((l1.ext E2).ext E3).T (id:=((aU mm.w).ns.length:Int)) (aF (by omega) (by omega)) (C.s.format T.s) fun h4 c4 C4 E4=>hk h4 c4 C4 ((al.kb k1).trans (E2.trans (E3.trans E4)))
theorem JX (C:CR h col a w mm u v x) (hv:v<=10000) (hk:iW h col a w K {mm with w:=vK mm.w} u (v+1) x):zC 173 [.pointer (some a)] h K:=by
 obtain⟨mb,mn,mc,e2,push⟩:=GW C (by omega)
 refine Xe6.ok _ _ _ (aa ⟨_,C.V.cell 0 rfl,aa ⟨_,C.V.cell 0 rfl,aa ⟨_,_,_,e2,?_⟩⟩⟩)
 exact push (-1,[],[]) none 0 0 _ (jA (m:=(-1,[],[])) ⟨rfl,Nat.le_refl _,Nat.zero_le _,fun i x hx=>by simp at hx⟩ (fun _=>rfl) (aF (by decide) (by decide)) (by decide)) fun h4 c4 p4 E4=>hk h4 c4 (C.ra p4 E4 C.s.wz) E4.rx
theorem EM (C:CR h col a w mm u v x) (hu:u<=800000) (hv:v<=10000) (hk:iW h col a w K {mm with w:=bW mm.w s} (u+32) v x):zC 122 [.pointer (some a),S s] h K:=by
 refine Xfg.ok _ _ _ _ (aa ⟨_,C.V.cell 0 rfl,AA C.p C.s.A C.s.M (by omega) (by omega) fun h2 c2 p2 E2=>?_⟩)
 have C2:=C.ra p2 E2 (C.s.run s)
 unfold bW at hk
 refine ag (aR (fun e=>?_) fun e=>?_)
 ·rw[if_pos e] at hk
  exact hk h2 c2 C2 E2.rx
 ·rw[if_neg (by rw[e];decide)] at hk
  have jQ:=C2.s.A.D.lo
  exact aa ⟨_,C2.V.cell 0 rfl,me C2.p (by omega) fun h3 c3 p3 E3=>hk h3 c3 (C2.ra p3 E3.ra (C2.s.close _)) (E2.rx.trans E3.ra.rx)⟩
theorem oV (r:Row cN B h b n c ns) (hk:K (.bool (bn ns s)) h):zC 106 [.slice b n c,S s] h K:=by
 refine Tm.ok _ _ _ _ _ _ ?_
 have hl:=r.len
 have hm:n<=maxLen:=Nat.le_trans r.cap r.max
 simp only[maxLen] at hm
 refine⟨n+1,?_⟩
 have key:∀k i,i+k=n->(∀j (h1:j<ns.length),j<i->ns[j]≠s)->
   Tm.cQ (fun h=>K (.bool false) h) (fun h=>K (.bool false) h) (fun y4 h=>K (.bool y4) h) (k+1) b n c s (i:Int) h:=by
  intro k
  induction k with
  | zero=>
   intro i hi bm
   unfold Tm.cQ LP Tm.bU
   refine cg (by omega) ?_
   have:bn ns s=false:=decide_eq_false fun hm=>by
    obtain⟨j,hj,e⟩:=List.mem_iff_getElem.1 hm
    exact absurd e (bm j hj (by omega))
   rwa[this] at hk
  | succ k ih=>
   intro i hi bm
   unfold Tm.cQ LP Tm.bU
   refine bK (by omega) (r.bj (i:=i) (by omega) rfl fun a hA=>Of hA fun _=>bf (fun e=>?_) fun e=>⟨aF (by omega) (by omega),ih (i+1) (by omega) fun j h1 hj=>?_⟩)
   ·have:bn ns s=true:=decide_eq_true (by rw[<-e];exact List.getElem_mem _)
    rwa[this] at hk
   ·by_cases e2:j<i
    ·exact bm j h1 e2
    ·have:j=i:=by omega
     subst this
     exact e
 exact key n 0 (by omega) fun j _ hj=>absurd hj (Nat.not_lt_zero _)
theorem vG {Q:KV} (hk:∀a h',Row cN (fun _=>True) h' (some a) 6 6 yy->KB h h'->Q (.slice (some a) 6 6) h'):zC 111 [] h Q:=
 Xfr.ok _ _ (oL (ws:=yy) rfl (by decide) (by decide) fun a1 h1 r1 k1=>hk a1 h1 r1 k1)
theorem XZ (C:CR h col a w mm u v x) (hu:u<=890000) (rn:Row cN B h b n c ns) (hk:∀h',KB h h'->K (.bool (Et mm.w ns)) h'):zC 112 [.pointer (some a),.slice b n c] h K:=by
 obtain⟨t,T,W⟩:=C.p.ex
 have jQ:=C.s.A.D.lo
 refine Xe3.ok _ _ _ _ _ _ (aa ⟨_,C.V.cell 0 rfl,eU W C.s.A.D.ne (by omega) fun h1 k1=>jm (x:=dP mm.w.op) <| af fun a2 h2 v2 k2 e2 s2=>aQ v2 (by show 4<=4;omega) fun h3 v3 k3 s3=>?_⟩)
 have rq:KB h h3:=k1.trans (KB.step k2 k3 (by omega))
 have v3:Var h3 a2 77 (aW (dP mm.w.op)):=v3
 refine⟨_,v3.cell 1 rfl,bf (fun e=>⟨_,v3.cell 2 rfl,oV (rn.kb rq) (ag (dm (K:=fun b=>K (.bool b) h3) ?_))⟩) fun e=>?_⟩
 ·have:=hk h3 rq
  unfold Et at this;rwa[decide_eq_true e,Bool.true_and] at this
 ·have:=hk h3 rq
  unfold Et at this;rwa[decide_eq_false e,Bool.false_and] at this
theorem JV (C:CR h col a w mm u v x) (hu:u<=880000) (T:fc h col t b n c) {b2:OA} {n2 c2:Nat} (rn:Row cN B h b2 n2 c2 ns) (hk:iW h col a w K {mm with w:=dM (qM mm.w ns) t} (u+1) v x):zC 113 [.pointer (some a),.agg ⟨aT (bR t b n c)⟩,.slice b2 n2 c2] h K:=by
 unfold qM at hk
 refine Xfi.ok _ _ _ _ _ _ _ (T.new C.f fun a1 h1 l1 k1 _=>?_)
 have C1:=C.da k1
 obtain⟨tr,T1,W1⟩:=C1.p.ex
 obtain⟨ob,oc,mb,mn,mc,vw,o,om⟩:=W1.ex
 have jQ:=C.s.A.D.lo
 refine aa ⟨_,C1.V.cell 0 rfl,aa ⟨_,_,_,vw.cell 1 rfl,yJ o.row (rn.kb k1) fun h2 k2=>aO (bf (fun e=>aD ?_) fun e=>aC ?_)⟩⟩
 ·have e:0<=qN mm.w.op ns:=e
  obtain⟨k,ek⟩:=Int.eq_ofNat_of_zero_le e
  have hr:=ru ns mm.w.op mm.w.op.length
  have dJ:k<mm.w.op.length:=by have:qN mm.w.op ns<(mm.w.op.length:Int):=hr.2;omega
  rw[if_pos e] at hk
  have en:zr mm.w ns=mm.w.op[k].2.2.1:=by unfold zr;rw[ek];show(mm.w.op.getD k aI).2.2.1=_;rw[aJ dJ]
  rw[en] at hk
  rw[ek]
  refine aa ⟨_,(C1.da k2).V.cell 0 rfl,aa ⟨_,_,_,(vw.kb k2).cell 1 rfl,(o.kb k2).row.bj (i:=k) dJ rfl fun q hA=>⟨_,(hA.snd.dt (k:=2) rfl).fst.str.1,?_⟩⟩⟩
  exact EO (C1.da k2) _ (C.s.A.yD _ (List.getElem_mem dJ)) fun h3 c3 C3 E3=>jY C3 (by omega) ((l1.kb k2).ext E3) (Q:=fun _ h=>K (.tuple ⟨[]⟩) h) fun h4 c4 C4 E4=>hk h4 c4 C4 ((al.kb (k1.trans k2)).trans (E3.trans E4))
 ·rw[if_neg e] at hk
  exact jY (C1.da k2) (by omega) (l1.kb k2) (Q:=fun _ h=>K (.tuple ⟨[]⟩) h) fun h4 c4 C4 E4=>hk h4 c4 C4 ((al.kb (k1.trans k2)).trans E4)
end
theorem EK {s w1 w2:Bs} {A B:Prop} (ht:s ∈ [w1,w2]->A) (hf:s ∉ [w1,w2]->B):aM (s=w1) A (aM (s=w2) A B):=
 ⟨fun e=>ht (by simp[e]),fun e1=>⟨fun e=>ht (by simp[e]),fun e2=>hf (by simp[e1,e2])⟩⟩
theorem S3 {s w1 w2 w3:Bs} {A B:Prop} (ht:s ∈ [w1,w2,w3]->A) (hf:s ∉ [w1,w2,w3]->B):aM (s=w1) A (aM (s=w2) A (aM (s=w3) A B)):=
 ⟨fun e=>ht (by simp[e]),fun e1=>EK (fun h=>ht (List.mem_cons_of_mem _ h)) fun h=>hf fun hm=>(List.mem_cons.1 hm).elim e1 h⟩
theorem adG {s w1 w2 w3 w4:Bs} {A B:Prop} (ht:s ∈ [w1,w2,w3,w4]->A) (hf:s ∉ [w1,w2,w3,w4]->B):aM (s=w1) A (aM (s=w2) A (aM (s=w3) A (aM (s=w4) A B))):=
 ⟨fun e=>ht (by simp[e]),fun e1=>S3 (fun h=>ht (List.mem_cons_of_mem _ h)) fun h=>hf fun hm=>(List.mem_cons.1 hm).elim e1 h⟩
section
variable {Bp:Nat->Prop} {h:H} {K:KV} {col:bY} {a w:Addr} {mm:MM} {u v x:Nat} {t:cm} {b:OA} {n c:Nat} {ns:List Bs} {s:Bs}
theorem zd {ws:List Bs} {k:Nat} (hn:ws.length=k) (hs:tI ws=true) (hl:Nat.ble ws.length maxLen=true) {A B:H->Prop} (ht:∀h',KB h h'->s ∈ ws->A h') (hf:∀h',KB h h'->s ∉ ws->B h'):
  aw h (sW ws) 9 fun a127 Tn=>zC 106 [.slice (some a127) k k,S s] Tn fun To Kw=>au To fun Tp=>cond Tp (A Kw) (B Kw):=
 oL hn hs hl fun a1 h1 r1 k1=>oV r1 (ag (aR (fun e=>ht h1 k1 (of_decide_eq_true e)) fun e=>hf h1 k1 (of_decide_eq_false e)))
theorem Cl {A B:H->Prop} (ht:∀h',KB h h'->s ∈ yy->A h') (hf:∀h',KB h h'->s ∉ yy->B h'):
  zC 111 [] h fun Il Cw=>aB Il fun wA wB wC=>zC 106 [.slice wA wB wC,S s] Cw fun v109 u9=>au v109 fun Kx=>cond Kx (A u9) (B u9):=
 vG fun a1 h1 r1 k1=>aH (oV r1 (ag (aR (fun e=>ht h1 k1 (of_decide_eq_true e)) fun e=>hf h1 k1 (of_decide_eq_false e))))
theorem S1 (C:CR h col a w mm u v x) (hu:u<=700000) (hv:v<=10000) (T:fc h col t b n c) (ht:t.2.1=[97]) (hk:iW h col a w K {mm with w:=ic (mZ mm.w t.2.1) t} (u+v+33) (v+1) x):zC 117 [.pointer (some a),.agg ⟨aT (bR t b n c)⟩] h K:=by
 rw[ht] at hk
 unfold mZ at hk
 refine Xfj.ok _ _ _ _ (T.new C.f fun a1 h1 l1 k1 _=>?_)
 have C1:=C.da k1
 obtain⟨tr,T1,W1⟩:=C1.p.ex
 obtain⟨ob,oc,mb,mn,mc,vw,o,om⟩:=W1.ex
 refine aa ⟨_,C1.V.cell 0 rfl,aa ⟨_,_,_,vw.cell 2 rfl,qL om.row (aO (bf (fun e=>aD ?_) fun e=>aC ?_))⟩⟩
 ·have e:0<=fA mm.w.aE [97]:=e
  rw[if_pos e] at hk
  obtain⟨k,ek,dJ,h0⟩:=mq e
  have tG:mm.w.aE.getD k noMark=mm.w.aE[k]:=aJ dJ
  have eid:zt mm.w [97]=mm.w.aE[k].1:=by unfold zt;rw[ek,<-tG];rfl
  rw[eid] at hk
  rw[tG] at h0
  rw[ek]
  obtain⟨id,hid⟩:∃id,mm.w.aE[k].1=id:=⟨_,rfl⟩
  rw[hid] at hk h0
  refine aa ⟨_,C1.V.cell 0 rfl,aa ⟨_,_,_,vw.cell 2 rfl,om.row.bj (i:=k) dJ rfl fun q hA=>⟨_,hA.fst.int.1,?_⟩⟩⟩
  rw[hid]
  refine EM C1 (by omega) hv fun h5 c5 C5 E5=>?_
  obtain⟨tr,T5,W5⟩:=C5.p.ex
  obtain⟨Xu,oc5,Ym,Xv,Yn,B4,o5,JE⟩:=W5.ex
  have aea:(bW mm.w [97]).aE.length<=v:=C5.s.A.D.ml
  have Tq:(bW mm.w [97]).aE.length=Xv:=JE.len
  have Yr:=JE.cap
  obtain⟨xs,he,hc,_⟩:=JE.parts
  have l5:=l1.ext E5
  have Ko:al RX h col h5 c5:=(al.kb k1).trans E5
  have fin:∀h8 c8,CR h8 c8 a w {mm with w:=dQ (bW mm.w [97]) id} (u+32) v x->al RX h5 c5 h8 c8->ae (some a) fun a4=>∃p5,cell h8 (a4.add 0)=some (.pointer p5)/\(zC 120 [.pointer p5,.int .i64 id] h8 fun v6 h7=>bJ h7 a1 fun t1=>zC 172 [.pointer (some a),.agg ⟨aT t1⟩] h7 fun v2 h3=>K (.tuple ⟨[]⟩) h3):=fun h8 c8 C8 E8=>by
   have jQ:=C8.s.A.D.lo
   refine aa ⟨_,C8.V.cell 0 rfl,iU C8.p (by omega) C8.s.A.D.nd fun h9 c9 p9 E9=>?_⟩
   have l9:=(l5.ext E8).ext E9
   have C9:=C8.ra p9 E9.ra (C8.s.drop id)
   exact l9.ld (oO C9 (by omega) hv l9.T fun df Tr C10 E10=>hk df Tr (C10.mono (by omega)) (Ko.trans (E8.trans (E9.ra.rx.trans E10))))
  refine aa ⟨_,C5.V.cell 0 rfl,aa ⟨_,_,_,B4.cell 2 rfl,gH JE.row (aO (bf (fun e2=>aD ?_) fun e2=>aC ?_))⟩⟩
  ·have e2:0<=bp (bW mm.w [97]).aE id:=e2
   obtain⟨_,hfl,_⟩:=gj e2
   obtain⟨q,eq⟩:=Int.eq_ofNat_of_zero_le e2
   have eqn:(bp (bW mm.w [97]).aE id).toNat=q:=by rw[eq];rfl
   rw[eqn] at hfl
   have Ts:dQ (bW mm.w [97]) id=bX (bW mm.w [97]) q:=by unfold dQ;rw[if_pos e2,eqn]
   rw[eq]
   refine aa ⟨_,C5.V.cell 0 rfl,aa ⟨_,_,_,B4.cell 2 rfl,⟨by omega,by omega,by omega⟩,?_⟩⟩
   rw[qK]
   have e1:Int.toNat (q:Int) - Int.toNat (0:Int)=q:=by rw[Int.toNat_natCast];rfl
   rw[e1]
   refine oR db he (fun k hk=>hk.2) hc Tq (hi:=q) (by omega) (by omega) (by omega) fun b6 c6 h6 o6 k6=>aH (aa ⟨_,(C5.V.kb k6).cell 0 rfl,aa ⟨_,_,_,(B4.kb k6).cell 2 rfl,aF (by omega) (by omega),⟨by omega,by omega,by omega⟩,?_⟩⟩)
   have e3:((q:Int)+(1:Int))=((q+1:Nat):Int):=rfl
   rw[e3,Int.toNat_natCast,Int.toNat_natCast]
   refine oS db (lo:=q+1) o6 (fun k hk=>hk.2) k6 (Nat.le_refl _) k6.1 he (fun k hk=>hk.2) hc Tq (by omega) Yr.1 (by omega) (by omega) fun b7 c7 h7 o7 k7=>aH (aa ⟨_,(C5.V.kb k7).cell 0 rfl,aa ?_⟩)
   rw[<-List.eraseIdx_eq_take_drop_succ] at o7
   refine dY W5 C5.f k7 o7 fun h8 W8 E8 f8 _=>?_
   have Ys:al RA h5 c5 h8 _:=E8.mono fun s hs=>.inl (.inr hs)
   have p8:RW h8 (cz c5 h5 b7 (3,2)) w (dQ (bW mm.w [97]) id):=by rw[Ts];exact⟨tr,T5.cf (Z:=fun k=>k=3) (by decide) E8 f8,W8⟩
   exact fin h8 _ (C5.ra p8 Ys (C5.s.Fc id)) Ys.rx
  ·have Ts:dQ (bW mm.w [97]) id=bW mm.w [97]:=by unfold dQ;rw[if_neg e2]
   exact fin h5 c5 (by rw[Ts];exact C5) (.refl _ _ _)
 ·have e:¬0<=fA mm.w.aE [97]:=e
  rw[if_neg e] at hk
  exact l1.ld (oO C1 (by omega) hv l1.T fun h3 c3 C3 E3=>hk h3 c3 (C3.mono (by omega)) ((al.kb k1).trans E3))
theorem Cx (x:aP):oW x=kQ [(0,0,[98],0),x] 0 [[98]]:=by rw[Cy];exact(AE (by decide) (nc (by decide))).symm
theorem J1 (C:CR h col a w mm u v x) (hu:u<=890000) {id:Int} (hk:∀h',KB h h'->K (.bool (qE mm.w id)) h'):zC 119 [.pointer (some a),.int .i64 id] h K:=by
 obtain⟨tr,T,W⟩:=C.p.ex
 obtain⟨ob,oc,mb,mn,mc,vw,o,om⟩:=W.ex
 have jQ:=C.s.A.D.lo
 unfold qE at hk
 refine Tt.ok _ _ _ _ (aa ⟨_,C.V.cell 0 rfl,aa ⟨_,_,_,vw.cell 1 rfl,aF (by omega) (by omega),mm.w.op.length+1,?_⟩⟩)
 have key:∀i h1,i<=mm.w.op.length->KB h h1->(∀j (hj:j<mm.w.op.length),i<=j->mm.w.op[j].1≠id/\oW mm.w.op[j]=true)->
   Tt.cQ (fun h=>K (.bool false) h) (fun h=>K (.bool false) h) (fun y4 h=>K (.bool y4) h) (i+1) (some a) id ((i:Int) - 1) h1:=by
  intro i
  induction i with
  | zero=>
   intro h1 _ k1 bm
   unfold Tt.cQ LP Tt.bU
   refine cg (by omega) ?_
   have:=hk h1 k1
   have dk:¬0<=gh mm.w.op id:=fun h0=>by
    obtain⟨hi,e,_⟩:=fy h0
    exact(bm _ hi (Nat.zero_le _)).1 (of_decide_eq_true e)
   rwa[decide_eq_false dk,Bool.false_and] at this
  | succ i ih=>
   intro h1 hi k1 bm
   unfold Tt.cQ LP Tt.bU
   have bQ:i<mm.w.op.length:=by omega
   have Fe:((i+1:Nat):Int) - 1=(i:Int):=by omega
   rw[Fe]
   have o1:=o.kb k1
   refine bK (by omega) (aa ⟨_,(C.V.kb k1).cell 0 rfl,aa ⟨_,_,_,(vw.kb k1).cell 1 rfl,o1.row.bj (i:=i) bQ rfl fun q hA=>cT hA fun ow=>af fun a6 h7 v6 k6 e6 s6=>aQ v6 (by show 4<=4;omega) fun h8 v8 k8 s8=>?_⟩⟩)
   have RU:KB h1 h8:=KB.step k6 k8 (by omega)
   have v8:Var h8 a6 77 (aW mm.w.op[i]):=v8
   refine⟨_,v8.cell 0 rfl,bf (fun e=>?_) fun e=>gY (m:=mm.w.op[i]) v8 ?_⟩
   ·have e:mm.w.op[i].1=id:=e
    have ea:=C.s.A.tF bQ
    rw[e] at ea
    have:=hk h8 (k1.trans RU)
    have hs:eT (mm.w.op.drop (i+1))=true:=by
     unfold eT
     refine List.all_eq_true.2 fun y hy=>?_
     obtain⟨j,hj,rfl⟩:=List.mem_iff_getElem.1 hy
     rw[List.getElem_drop]
     exact(bm _ (by rw[List.length_drop] at hj;omega) (by omega)).2
    rwa[ea,decide_eq_true (by omega),Int.toNat_natCast,hs] at this
   ·have e:¬mm.w.op[i].1=id:=e
    refine af fun oE dx mu gi Og RV=>af (cs:=[S [98]]) fun oF gZ vd GX e15 Ex=>?_
    have hx:mm.w.op[i] ∈ mm.w.op:=List.getElem_mem bQ
    have Tu:gG (0,0,[98],0):=⟨⟨by decide,by decide⟩,⟨by decide,by decide⟩,by decide,⟨by decide,by decide⟩⟩
    have r2:Row bo (rS gZ.size) gZ (some oE) 2 2 [(0,0,[98],0),mm.w.op[i]]:=
     Row.of (xs:=aW (0,0,[98],0)++aW mm.w.op[i]) ⟨aW (0,0,[98],0),_,rfl,Tu.r,aW mm.w.op[i],[],by simp,ow.r,rfl⟩ (fun jj x hx=>⟨oE,rfl,(mu.kb GX).cell jj hx⟩) rfl (Nat.le_refl _) (by decide) fun x e=>by cases e;exact(mu.kb GX).lt
    have Yt:KB h1 gZ:=(RU.trans gi).trans GX
    refine mY (sc:=0) r2 (fun x Ey=>?_) (iM (ws:=[[98]]) vd (by decide) (by decide)) fun gI Yu=>ag (aR (fun hb=>⟨aF (by omega) (by omega),ih gI (by omega) (k1.trans (Yt.trans Yu)) fun j hj hij=>?_⟩) fun hb=>?_)
    ·rcases List.mem_cons.1 Ey with e | e
     ·rw[e];decide
     ·rw[List.mem_singleton.1 e];exact C.Xw _ hx
    ·by_cases e2:j=i
     ·subst e2;exact⟨e,by rw[Cx];exact hb⟩
     ·exact bm j hj (by omega)
    ·have:=hk gI (k1.trans (Yt.trans Yu))
     have dk:(decide (0<=gh mm.w.op id)&&eT (mm.w.op.drop ((gh mm.w.op id).toNat+1)))=false:=by
      refine Bool.eq_false_iff.2 fun ht=>?_
      rw[Bool.and_eq_true] at ht
      obtain⟨BZ,ek1,_⟩:=fy (of_decide_eq_true ht.1)
      have BZ:(gh mm.w.op id).toNat<mm.w.op.length:=BZ
      have ek1:mm.w.op[(gh mm.w.op id).toNat].1=id:=of_decide_eq_true ek1
      have cR:(gh mm.w.op id).toNat<i:=by
       rcases Nat.lt_trichotomy (gh mm.w.op id).toNat i with hh | hh | hh
       ·exact hh
       ·subst hh;exact absurd ek1 e
       ·exact absurd ek1 (bm _ BZ (by omega)).1
      have vL:mm.w.op[i] ∈ mm.w.op.drop ((gh mm.w.op id).toNat+1):=List.mem_drop_iff_getElem.2 ⟨i - ((gh mm.w.op id).toNat+1),by omega,by congr 1;omega⟩
      have h2:=List.all_eq_true.1 ht.2 _ vL
      rw[Cx] at h2
      have hb:kQ [(0,0,[98],0),mm.w.op[i]] 0 [[98]]=false:=hb
      rw[hb] at h2;cases h2
     rwa[dk] at this
 exact key mm.w.op.length h (Nat.le_refl _) (KB.refl _) fun j hj hij=>absurd hj (by omega)
end
end Go.Proofs
