/- Own text. No condition. -/
import Derived.Shelf.Spec.SlicesInsertGrow
import Derived.Shelf.Strings.Search1
import Derived.Shelf.Strings.Search2
import Derived.Shelf.Strings.Search3
import Derived.Shelf.LaysM
import Derived.Shelf.Strings.Shaped
import Derived.Shelf.Strings.Prefix
import Derived.Shelf.Slices.Turned
import Derived.Shelf.Slices.Reverse
import Derived.Ground.Names2Prog
import Derived.Shelf.Slices.Delete
import Derived.Shelf.Slices.Cells
import Derived.Shelf.Slices.Empties
import Derived.Ground.SlgnProg
import Derived.Shelf.SlicesE.Reverse
import Derived.Shelf.SlicesE.Delete
import Derived.Test.YtijoifkjeamonaaGreatProg
namespace Go.Proofs
open Go.Shelf
def Tryz.lays144_ren:Go.Shelf.Ren:=⟨fun | 144=>199 | 143=>220 | 219=>235 | 217=>242 | 225=>243 | 224=>244 | 267=>245 | 266=>250 | 314=>251 | n=>n,fun | 9=>9 | 4=>4 | 3=>3 | 5=>5 | 46=>191 | 146=>195 | 51=>194 | n=>n,fun | 1=>0 | n=>n⟩
theorem Tryz.lays144:Go.Proofs.Lays.n144 Tryz.prog Tryz.lays144_ren:={
  mixed:=by kernel_rfl
  f143:=Tryz.func220.trans (congrArg some (by kernel_rfl))
  f144:=Tryz.func199.trans (congrArg some (by kernel_rfl))
  f217:=Tryz.func242.trans (congrArg some (by kernel_rfl))
  f219:=Tryz.func235.trans (congrArg some (by kernel_rfl))
  f224:=Tryz.func244.trans (congrArg some (by kernel_rfl))
  f225:=Tryz.func243.trans (congrArg some (by kernel_rfl))
  f266:=Tryz.func250.trans (congrArg some (by kernel_rfl))
  f267:=Tryz.func245.trans (congrArg some (by kernel_rfl))
  f314:=Tryz.func251.trans (congrArg some (by kernel_rfl))
  t3:=Tryz.underlying3
  a3:=Tryz.isAgg3
  z3:=Tryz.sizeOf3
  v3:=Tryz.zeroValue3
  t4:=Tryz.underlying4
  a4:=Tryz.isAgg4
  z4:=Tryz.sizeOf4
  v4:=Tryz.zeroValue4
  t5:=Tryz.underlying5
  a5:=Tryz.isAgg5
  z5:=Tryz.sizeOf5
  v5:=Tryz.zeroValue5
  t9:=Tryz.underlying9
  a9:=Tryz.isAgg9
  z9:=Tryz.sizeOf9
  v9:=Tryz.zeroValue9
  t46:=Tryz.underlying191
  a46:=Tryz.isAgg191
  z46:=Tryz.sizeOf191
  v46:=Tryz.zeroValue191
  t51:=Tryz.underlying194
  a51:=Tryz.isAgg194
  z51:=Tryz.sizeOf194
  v51:=Tryz.zeroValue194
  t146:=Tryz.underlying195
  a146:=Tryz.isAgg195
  z146:=Tryz.sizeOf195
  v146:=Tryz.zeroValue195
  g1:=by kernel_rfl}
open Go.RowKit Go.Lib in
theorem Tryz.strings_Contains_one (s:ByteArray) (c:UInt8) (w:World):
    Calls Tryz.prog 199 #[.string s,.string ⟨#[c]⟩] w fun e w'=>e=.returned (.bool (decide (0<=Lib.indexByte s.data.toList c)))/\w'=w:=Any.strings_Contains_one Tryz.lays144 s c w
open Go.RowKit Go.Lib in
theorem Tryz.strings_Contains (s sub:ByteArray) (m:Int) (w:World) (hs:s.size<4294967281) (hm:w.cell? ⟨0,0,none⟩=some (.int .i64 m)):
    Calls Tryz.prog 199 #[.string s,.string sub] w fun e w'=>e=.returned (.bool (Lib.contains s.data.toList sub.data.toList))/\w'=w:=Any.strings_Contains Tryz.lays144 s sub m w hs hm
def Tryz.laysM144_ren:Go.Shelf.Ren:=⟨fun | 144=>199 | 143=>220 | 219=>235 | 217=>242 | 225=>243 | 224=>244 | 267=>245 | 266=>250 | 314=>251 | n=>n,fun | 9=>9 | 4=>4 | 3=>3 | 5=>5 | 46=>191 | 146=>195 | 51=>194 | n=>n,fun | 1=>0 | n=>n⟩
theorem Tryz.laysM144:Go.Proofs.LaysM.n144 Tryz.prog Tryz.laysM144_ren:={
  mixed:=by kernel_rfl
  f143:=Tryz.func220.trans (congrArg some (by kernel_rfl))
  f144:=Tryz.func199.trans (congrArg some (by kernel_rfl))
  f217:=Tryz.func242.trans (congrArg some (by kernel_rfl))
  f219:=Tryz.func235.trans (congrArg some (by kernel_rfl))
  f224:=Tryz.func244.trans (congrArg some (by kernel_rfl))
  f225:=Tryz.func243.trans (congrArg some (by kernel_rfl))
  f266:=Tryz.func250.trans (congrArg some (by kernel_rfl))
  f267:=Tryz.func245.trans (congrArg some (by kernel_rfl))
  f314:=Tryz.func251.trans (congrArg some (by kernel_rfl))
  t3:=Tryz.underlying3
  a3:=Tryz.isAgg3
  z3:=Tryz.sizeOf3
  v3:=Tryz.zeroValue3
  t4:=Tryz.underlying4
  a4:=Tryz.isAgg4
  z4:=Tryz.sizeOf4
  v4:=Tryz.zeroValue4
  t5:=Tryz.underlying5
  a5:=Tryz.isAgg5
  z5:=Tryz.sizeOf5
  v5:=Tryz.zeroValue5
  t9:=Tryz.underlying9
  a9:=Tryz.isAgg9
  z9:=Tryz.sizeOf9
  v9:=Tryz.zeroValue9
  t46:=Tryz.underlying191
  a46:=Tryz.isAgg191
  z46:=Tryz.sizeOf191
  v46:=Tryz.zeroValue191
  t51:=Tryz.underlying194
  a51:=Tryz.isAgg194
  z51:=Tryz.sizeOf194
  v51:=Tryz.zeroValue194
  t146:=Tryz.underlying195
  a146:=Tryz.isAgg195
  z146:=Tryz.sizeOf195
  v146:=Tryz.zeroValue195
  g1:=by kernel_rfl
  i3:=by kernel_rfl
  i4:=by kernel_rfl
  i5:=by kernel_rfl
  i9:=by kernel_rfl
  i46:=by kernel_rfl
  i51:=by kernel_rfl
  i146:=by kernel_rfl
  m1:=by kernel_rfl
  s1_3:=fun w h=>Go.Proofs.cell_of_shapedOpen_int (zero:=#[.int .i64 0]) (t:=3) h (of_decide_eq_true (by kernel_rfl)) (by kernel_rfl) rfl (by kernel_rfl) (by kernel_rfl) Tryz.underlying3}
open Go.RowKit Go.Lib in
def Tryz.lays99_ren:Go.Shelf.Ren:=⟨fun | 99=>35 | 206=>53 | n=>n,fun | 9=>9 | 4=>4 | 3=>3 | n=>n,fun | n=>n⟩
theorem Tryz.lays99:Go.Proofs.Lays.n99 Tryz.prog Tryz.lays99_ren:={
  mixed:=by kernel_rfl
  f99:=Tryz.func35.trans (congrArg some (by kernel_rfl))
  f206:=Tryz.func53.trans (congrArg some (by kernel_rfl))
  t3:=Tryz.underlying3
  a3:=Tryz.isAgg3
  z3:=Tryz.sizeOf3
  v3:=Tryz.zeroValue3
  t4:=Tryz.underlying4
  a4:=Tryz.isAgg4
  z4:=Tryz.sizeOf4
  v4:=Tryz.zeroValue4
  t9:=Tryz.underlying9
  a9:=Tryz.isAgg9
  z9:=Tryz.sizeOf9
  v9:=Tryz.zeroValue9}
open Go.RowKit Go.Lib in
theorem Tryz.strings_HasPrefix (s p:ByteArray) (w:World):
    Calls Tryz.prog 35 #[.string s,.string p] w fun e w'=>e=.returned (.bool (Lib.hasPrefix s.data.toList p.data.toList))/\w'=w:=Any.strings_HasPrefix Tryz.lays99 s p w
def Tryz.laysNm223_ren:Go.Shelf.Ren:=⟨fun | 23=>186 | n=>n,fun | 22=>82 | 3=>3 | 4=>4 | 0=>0 | n=>n,fun | n=>n⟩
theorem Tryz.laysNm223:Go.Proofs.Lays2.n23 Tryz.prog Tryz.laysNm223_ren:={
  mixed:=by kernel_rfl
  f23:=Tryz.func186.trans (congrArg some (by kernel_rfl))
  t0:=Tryz.underlying0
  a0:=Tryz.isAgg0
  z0:=Tryz.sizeOf0
  v0:=Tryz.zeroValue0
  t3:=Tryz.underlying3
  a3:=Tryz.isAgg3
  z3:=Tryz.sizeOf3
  v3:=Tryz.zeroValue3
  t4:=Tryz.underlying4
  a4:=Tryz.isAgg4
  z4:=Tryz.sizeOf4
  v4:=Tryz.zeroValue4
  t22:=Tryz.underlying82
  a22:=Tryz.isAgg82
  z22:=Tryz.sizeOf82
  v22:=Tryz.zeroValue82
  i3:=by kernel_rfl}
open Go.RowKit Go.Lib Go.Sort in
theorem Tryz.slices_Delete_int_cells (b off n c i j:Nat) (zs:List Int) (w:World) (hz:n<=zs.length) (hcap:n<=c) (hm:c<=9223372036854775807) (hij:i<=j) (hj:j<=n) (hc:∀j,j<zs.length->w.cell? ⟨b,off+j,none⟩=some (.int .i64 (zs.getD j 0))) (hf:∀j,j<n->w.frozen? ⟨b,off+j,none⟩=false):
    Calls Tryz.prog 186 #[.slice (some ⟨b,off,none⟩) n c,.int .i64 i,.int .i64 j] w fun e w'=>e=.returned (.slice (some ⟨b,off,none⟩) (n - (j - i)) c)/\∃q,w'=(w.drewN q).setCells b off (((zs.take n).take i++(zs.take n).drop j++List.replicate (j - i) 0).map (Value.int .i64)):=Any.slices_Delete_int_cells Tryz.laysNm223 b off n c i j zs w hz hcap hm hij hj hc hf
open Go.RowKit Go.Lib in
def Tryz.laysNm221_ren:Go.Shelf.Ren:=⟨fun | 21=>142 | 27=>187 | 28=>188 | 35=>214 | 39=>232 | n=>n,fun | 22=>82 | 3=>3 | 4=>4 | 0=>0 | n=>n,fun | n=>n⟩
theorem Tryz.laysNm221:Go.Proofs.Lays2.n21 Tryz.prog Tryz.laysNm221_ren:={
  mixed:=by kernel_rfl
  f21:=Tryz.func142.trans (congrArg some (by kernel_rfl))
  f27:=Tryz.func187.trans (congrArg some (by kernel_rfl))
  f28:=Tryz.func188.trans (congrArg some (by kernel_rfl))
  f35:=Tryz.func214.trans (congrArg some (by kernel_rfl))
  f39:=Tryz.func232.trans (congrArg some (by kernel_rfl))
  t0:=Tryz.underlying0
  a0:=Tryz.isAgg0
  z0:=Tryz.sizeOf0
  v0:=Tryz.zeroValue0
  t3:=Tryz.underlying3
  a3:=Tryz.isAgg3
  z3:=Tryz.sizeOf3
  v3:=Tryz.zeroValue3
  t4:=Tryz.underlying4
  a4:=Tryz.isAgg4
  z4:=Tryz.sizeOf4
  v4:=Tryz.zeroValue4
  t22:=Tryz.underlying82
  a22:=Tryz.isAgg82
  z22:=Tryz.sizeOf82
  v22:=Tryz.zeroValue82
  i3:=by kernel_rfl}
open Go.RowKit Go.Lib in
theorem Tryz.ins_shift (b off n c i vb voff m vc:Nat) (cs vs:List Value) (w:World) (hi:i<n) (hm:0<m) (hroom:n+m<=c) (hc63:c<=9223372036854775807) (hvb:vb≠b) (hcl:cs.length=n) (hvl:vs.length=m) (hcs:∀j v,cs[j]? =some v->w.cell? ⟨b,off+j,none⟩=some v) (hsp:∀j,j<n+m->(w.cell? ⟨b,off+j,none⟩).isSome=true) (hfz:∀j,j<n+m->w.frozen? ⟨b,off+j,none⟩=false) (hvs:∀j v,vs[j]? =some v->w.cell? ⟨vb,voff+j,none⟩=some v) (h1c:∀v ∈ cs,v.oneCell'=true) (h1v:∀v ∈ vs,v.oneCell'=true) (tA tB:TypeId) (kA kB:Nat) (hsa:w.shape? vb=some (tA,kA)) (hsb:w.shape? b=some (tB,kB)) (hkB:kB≠0) (hfa:w.frozen? ⟨vb,voff,none⟩=false) (hfe:w.frozen? ⟨vb,kA,none⟩=false):Calls Tryz.prog (Tryz.laysNm221_ren.f 21) #[.slice (some ⟨b,off,none⟩) n c,.int .i64 i,.slice (some ⟨vb,voff,none⟩) m vc] w fun e w'=>e=.returned (.slice (some ⟨b,off,none⟩) (n+m) c)/\w'=(w.drew.setCells b (off+(i+m)) (cs.drop i)).setCells b (off+i) vs:=Any2.slices_Insert_int_shift Tryz.laysNm221 b off n c i vb voff m vc cs vs w hi hm hroom hc63 hvb hcl hvl hcs hsp hfz hvs h1c h1v tA tB kA kB hsa hsb hkB hfa hfe
open Go.RowKit Go.Lib in
theorem Tryz.ins_end_room (b off n c vb voff m vc:Nat) (vs:List Value) (w:World) (hm:0<m) (hroom:n+m<=c) (hc63:c<=9223372036854775807) (hvl:vs.length=m) (hsp:∀j,j<m->(w.cell? ⟨b,off+n+j,none⟩).isSome=true) (hfz:∀j,j<m->w.frozen? ⟨b,off+n+j,none⟩=false) (hvs:∀j v,vs[j]? =some v->w.cell? ⟨vb,voff+j,none⟩=some v) (h1v:∀v ∈ vs,v.oneCell'=true):Calls Tryz.prog (Tryz.laysNm221_ren.f 21) #[.slice (some ⟨b,off,none⟩) n c,.int .i64 n,.slice (some ⟨vb,voff,none⟩) m vc] w fun e w'=>e=.returned (.slice (some ⟨b,off,none⟩) (n+m) c)/\w'=w.setCells b (off+n) vs:=Any2.slices_Insert_int_end_room Tryz.laysNm221 b off n c vb voff m vc vs w hm hroom hc63 hvl hsp hfz hvs h1v
open Go.RowKit Go.Lib in
theorem Tryz.ins_end_grow (base:Option Addr) (n c vb voff m vc:Nat) (cs vs:List Value) (w:World) (hm:0<m) (hnc:n<=c) (hroom:c<n+m) (hbig:(n+m)*8<=140737488355328) (hcl:cs.length=n) (hvl:vs.length=m) (hnil:base=none->n=0) (hcs:∀a,base=some a->∀j v,cs[j]? =some v->w.cell? (a.add j)=some v) (hvs:∀j v,vs[j]? =some v->w.cell? ⟨vb,voff+j,none⟩=some v) (h1v:∀v ∈ vs,v.oneCell'=true):Calls Tryz.prog (Tryz.laysNm221_ren.f 21) #[.slice base n c,.int .i64 n,.slice (some ⟨vb,voff,none⟩) m vc] w fun e w'=>e=.returned (.slice (some ⟨w.heap.size,0,none⟩) (n+m) (grownCap w (n+m) c (Tryz.laysNm221_ren.t 3)))/\w'=w.drew.alloc (.cells ((cs++vs).toArray++Builtin.zeroCells (Value.int .i64 0).cells (grownCap w (n+m) c (Tryz.laysNm221_ren.t 3) - (n+m))) (Tryz.laysNm221_ren.t 3)):=Any2.slices_Insert_int_end_grow Tryz.laysNm221 base n c vb voff m vc cs vs w hm hnc hroom hbig hcl hvl hnil hcs hvs h1v
open Go.RowKit Go.Lib in
theorem Tryz.ins_grow (b off n c i vb voff m vc:Nat) (cs vs:List Value) (w:World) (hi:i<n) (hm:0<m) (hnc:n<=c) (hroom:c<n+m) (hbig:(n+m)*8<=140737488355328) (hcl:cs.length=n) (hvl:vs.length=m) (hcs:∀j v,cs[j]? =some v->w.cell? ⟨b,off+j,none⟩=some v) (hvs:∀j v,vs[j]? =some v->w.cell? ⟨vb,voff+j,none⟩=some v) (h1c:∀v ∈ cs,v.oneCell'=true) (h1v:∀v ∈ vs,v.oneCell'=true):Calls Tryz.prog (Tryz.laysNm221_ren.f 21) #[.slice (some ⟨b,off,none⟩) n c,.int .i64 i,.slice (some ⟨vb,voff,none⟩) m vc] w fun e w'=>e=.returned (.slice (some ⟨w.heap.size,0,none⟩) (n+m) (grownCap w (n+m) c (Tryz.laysNm221_ren.t 3)))/\w'=(((w.alloc (.cells ((cs.take i).toArray++Builtin.zeroCells (Value.int .i64 0).cells (n+m - i)++Builtin.zeroCells (Value.int .i64 0).cells (grownCap w (n+m) c (Tryz.laysNm221_ren.t 3) - (n+m))) (Tryz.laysNm221_ren.t 3))).drew.setCells w.heap.size i vs).drew).setCells w.heap.size (i+m) (cs.drop i):=Any2.slices_Insert_int_grow Tryz.laysNm221 b off n c i vb voff m vc cs vs w hi hm hnc hroom hbig hcl hvl hcs hvs h1c h1v
end Go.Proofs
