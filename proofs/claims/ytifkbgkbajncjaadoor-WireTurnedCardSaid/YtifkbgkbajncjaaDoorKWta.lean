/- made by a program (rowgen.py): WireTurned: for every input the law returns true, and each argument reads behind the call as it read before. -/
import Derived.WalkKit
import Derived.Deep.QuietTactic
import Derived.BigQuiet
import Derived.Deep.Draws
import Derived.Lib.Hide
import Derived.StillTail
import Derived.Deep.MidRow
import Derived.Laws.OwnMore
import Derived.Lib.AppendStr
import Derived.Laws.BytesArg
import Derived.Laws.Tables
import Derived.Laws.Pointers
import Derived.Great.BuildSlice
import Derived.MapKept
import Derived.Maps.AppendAt
import Derived.Laws.MakeOwn
import Derived.Laws.CopyRow
import Derived.Laws.IdiomStrings
import Derived.LoopN
import Derived.Test.YtifkbgkbajncjaaDoorProg
import Derived.ChangeKeysEq
import Derived.ChangeArms
import Derived.OpenShut
import Derived.ChangeShapes
import Derived.IntWalk
import Derived.Laws.RangeString
import Derived.Laws.RangeAny
import Derived.RangeFuncNested
import Derived.RangeFuncBound
import Derived.RangeFuncCalls
import Derived.RangeFuncLeaves
import Derived.RangeFuncBox
import Derived.Shelf.Abstract
import Derived.Shelf.RegionOpen
import Derived.OwnWalkIn
import Derived.TacticsInMore
import Derived.LoopNIn
import Derived.LoopIn
import Derived.Test.YtifkbgkbajncjaaDoorRows
import Derived.ProofKit
import Derived.ShutString
import Derived.ChangeOld
import Derived.Below
import Derived.LaidMore
import Derived.Stop.Joined
import Derived.Test.YtifkbgkbajncjaaDoorTie
import Derived.Test.YtifkbgkbajncjaaDoorCards
import Derived.SevenTiedAt

namespace Go.Proofs.YtifkbgkbajncjaaDoor
open Go.RowKit
structure Xt where
 hp:Array Obj
 dr:Nat
instance:Inhabited Xt:=⟨⟨#[],0⟩⟩
def ext (w:World) (x:Xt):World:={w with heap:=w.heap++x.hp,drawn:=x.dr}
theorem Azf (w:World) (x:Xt):(ext w x).heap.size=w.heap.size+x.hp.size:=by simp[ext]
theorem Awd (w:World) (x:Xt) (k:Nat) (h:k <w.heap.size):(ext w x).heap[k]?=w.heap[k]?:=by
 simp only[ext]
 exact Array.getElem?_append_left h
theorem Agi (w:World) (x:Xt):Below w.heap.size w (ext w x):=
 ⟨rfl,rfl,rfl,by rw[Azf];omega,fun k hk=>Awd w x k hk⟩
theorem Fv {w:World} {g:Nat} {o:Obj} (h:w.heap[g]?=some o):g <w.heap.size:=by
 rcases Nat.lt_or_ge g w.heap.size with hlt|hge
 ·exact hlt
 ·rw[Array.getElem?_eq_none hge] at h;cases h
theorem BZ {w:World} {g:Nat} {t:TypeId} {cs:Array Value} {fz:Nat×Nat} (h:w.heap[g]?=some (.cells cs t fz)) (i:Nat):w.cell? ⟨g,i,none⟩=cs[i]?:=cell_of_row w g i cs t fz h
theorem Aqh {w:World} {g:Nat} {t:TypeId} {cs:Array Value} (h:w.heap[g]?=some (.cells cs t (0,0))) (i:Nat):w.frozen? ⟨g,i,none⟩=false:=by
 simp[World.frozen?,h]
theorem CV {w w':World} {g:Nat} {o:Obj} (h:w.heap[g]?=some o) (hb:Below w.heap.size w w'):w'.heap[g]?=some o:=(hb.block g (Fv h)).trans h
theorem cb1 {w:World} {g:Nat} {t:TypeId} {v0:Value} (h:w.heap[g]?=some (.cells #[v0] t (0,0))):w.cell? ⟨g,0,none⟩=some v0:=
 BZ h 0
theorem fb1 {w:World} {g:Nat} {t:TypeId} {v0:Value} (h:w.heap[g]?=some (.cells #[v0] t (0,0))):w.frozen? ⟨g,0,none⟩=false:=
 Aqh h 0
theorem cb2 {w:World} {g:Nat} {t:TypeId} {v0 v1:Value} (h:w.heap[g]?=some (.cells #[v0,v1] t (0,0))):w.cell? ⟨g,0,none⟩=some v0∧w.cell? ⟨g,1,none⟩=some v1:=
 ⟨BZ h 0,BZ h 1⟩
theorem cb8 {w:World} {g:Nat} {t:TypeId} {v0 v1 v2 v3 v4 v5 v6 v7:Value} (h:w.heap[g]?=some (.cells #[v0,v1,v2,v3,v4,v5,v6,v7] t (0,0))):w.cell? ⟨g,0,none⟩=some v0∧w.cell? ⟨g,1,none⟩=some v1∧w.cell? ⟨g,2,none⟩=some v2∧w.cell? ⟨g,3,none⟩=some v3∧w.cell? ⟨g,4,none⟩=some v4∧w.cell? ⟨g,5,none⟩=some v5∧w.cell? ⟨g,6,none⟩=some v6∧w.cell? ⟨g,7,none⟩=some v7:=
 ⟨BZ h 0,BZ h 1,BZ h 2,BZ h 3,BZ h 4,BZ h 5,BZ h 6,BZ h 7⟩
theorem FR {w:World} {n:Nat} (o:Obj) (hn:w.heap.size=n):(w.alloc o).heap[n]?=some o:=by subst hn;exact heap_alloc_new w o
theorem KR {w:World} {k:Nat} {o':Obj} (o:Obj) (h:w.heap[k]?=some o'):(w.alloc o).heap[k]?=some o':=(Below.heap_alloc w o k (Fv h)).trans h
theorem Lv {w:World} {g i:Nat} {t:TypeId} {cs:Array Value} {fz:Nat×Nat} (h:w.heap[g]?=some (.cells cs t fz)) (v:Value):(w.setCell ⟨g,i,none⟩ v).heap[g]?=some (.cells (cs.setIfInBounds i v) t fz):=by
 simp[World.setCell,Array.getElem?_modify,h]
theorem A43 {w:World} {g:Nat} {o:Obj} {p:Addr} (h:w.heap[g]?=some o) (hp:g≠p.block) (v:Value):(w.setCell p v).heap[g]?=some o:=(Below.heap_setCell w p v g hp).trans h
theorem Vv (w:World) (p:Addr) (v:Value):(w.setCell p v).heap.size=w.heap.size:=by simp[World.setCell]
theorem Aqc {n:Nat} {w W W1:World} (hb:Below n w W) (hz:n≤W.heap.size) (h:Below W.heap.size W W1):Below n w W1:=hb.trans (h.mono hz)
theorem Aw9 {n:Nat} {W W1:World} (hz:n≤W.heap.size) (h:Below W.heap.size W W1):n≤W1.heap.size:=Nat.le_trans hz h.size
section
variable {P:Program} {c:Code} {Q:Exit→Act→World→Prop} {a:Act} {w:World} {n:Nat}
end
section
variable {P:Program} {f:FuncId} {args:Array Value} {R:Ending→World→Prop} {w:World} {n:Nat}
end
end Go.Proofs.YtifkbgkbajncjaaDoor
namespace Go.Proofs.YtifkbgkbajncjaaDoor
open Go.RowKit
section anyorder
variable {P:Program} {ops:Array Oper} {Q:Exit→Act→World→Prop}
def unl (listed:Array Bool):Nat:=listed.toList.count false
theorem Lc {listed:Array Bool} {i:Nat} (h:listed.getD i true=false):i <listed.size:=by
 rcases Nat.lt_or_ge i listed.size with h'|h'
 ·exact h'
 ·simp[Array.getElem?_eq_none h'] at h
theorem Avd {listed:Array Bool} {i:Nat} (h:listed.getD i true=false):unl (listed.setIfInBounds i true)+1=unl listed:=by
 have hi:=Lc h
 have hv:listed[i]=false:=by simpa[hi] using h
 have hl:i <listed.toList.length:=by simpa using hi
 have hv':listed.toList[i]=false:=by simpa using hv
 have hp:0 <listed.toList.count false:=List.count_pos_iff.2 (by rw[←hv'];exact List.getElem_mem hl)
 unfold unl
 rw[Array.toList_setIfInBounds,List.count_set hl]
 simp only[hv',beq_self_eq_true,↓reduceIte]
 have:(true==false)=false:=rfl
 simp only[this,Bool.false_eq_true,↓reduceIte]
 omega
theorem Aib {Inv:Array Bool→Act→World→Prop}
  (hs:∀listed a w i,listed.size=ops.size→Inv listed a w→i∈Region.ready .any ops listed→wpOp P ops Q i (Inv (listed.setIfInBounds i true)) a w)
  (hf:∀listed a w,listed.size=ops.size→Inv listed a w→Region.ready .any ops listed=[]→Q .normal a w):
  ∀(fuel:Nat) (listed:Array Bool) (a:Act) (w:World),listed.size=ops.size→unl listed≤fuel→Inv listed a w→wpAny P .any ops Q fuel listed a w
 | 0,listed,a,w,hz,hu,hi=>by
  have hr:Region.ready .any ops listed=[]:=by
   rw[List.eq_nil_iff_forall_not_mem]
   intro i hr
   have:=Avd (mem_ready.1 hr).1
   omega
  exact⟨hr,hf _ _ _ hz hi hr⟩
 |fuel+1,listed,a,w,hz,hu,hi=>by
  refine⟨fun h0=>hf _ _ _ hz hi h0,fun i hr=>?_⟩
  have hn:=Avd (mem_ready.1 hr).1
  exact wpOp_mono (fun a' w' h'=>Aib hs hf fuel _ a' w' (by simp[hz]) (by omega) h') (hs _ _ _ _ hz hi hr)
theorem Afu (n:Nat):unl (Array.replicate n false)≤n:=by
 unfold unl
 simp
theorem Af1 {id:Nat} {a:Act} {w:World} {Inv:Array Bool→Act→World→Prop} (hm:P.follows .mixedOrders=true)
  (h0:Inv (Array.replicate ops.size false) a {w with drawn:=w.drawn+1})
  (hs:∀listed a w i,listed.size=ops.size→Inv listed a w→i∈Region.ready .any ops listed→wpOp P ops Q i (Inv (listed.setIfInBounds i true)) a w)
  (hf:∀listed a w,listed.size=ops.size→Inv listed a w→Region.ready .any ops listed=[]→Q .normal a w):(Code.region id ops true).wp P Q a w:=
 wp_region_any hm (Aib hs hf _ _ _ _ (by simp) (Afu _) h0)
def Amd (ops:Array Oper):Bool:=(List.range ops.size).all fun i=>((ops[i]?).map fun o=>o.after.all fun e=>!Region.binds .any e||decide (e.on <i)).getD true
theorem Aqa (h:Amd ops=true) {i:Nat} {o:Oper} (ho:ops[i]?=some o) {e:Edge} (he:e∈o.after) (hb:Region.binds .any e=true):e.on <i:=by
 have hi:i <ops.size:=(Array.getElem?_eq_some_iff.1 ho).1
 have h1:=List.all_eq_true.1 h i (List.mem_range.2 hi)
 simp only[ho,Option.map_some,Option.getD_some] at h1
 have h2:=Array.all_eq_true_iff_forall_mem.1 h1 e he
 simpa[hb] using h2
theorem Ap7 (hb:Amd ops=true) {listed:Array Bool} (hz:listed.size=ops.size) (hr:Region.ready .any ops listed=[]):∀i,i <ops.size→listed.getD i false=true:=by
 intro i
 induction i using Nat.strongRecOn with
 | _ i ih=>
  intro hi
  cases hl:listed.getD i false with
  |true=>rfl
  | false=>
   exfalso
   obtain⟨o,ho⟩:∃o,ops[i]?=some o:=⟨_,Array.getElem?_eq_getElem hi⟩
   have hmem:i∈Region.ready .any ops listed:=mem_ready.2 ⟨getD_in (by omega) hl,o,ho,fun e he hb'=>by
    have hlt:=Aqa hb ho he hb'
    exact ih _ hlt (by omega)⟩
   rw[hr] at hmem
   cases hmem
end anyorder
structure Al where
 j:Nat
 s:Nat
 o0:Obj
 o1:Obj
def skp (al:List Al) (k:Nat):Bool:=al.any fun e=>e.j==k||e.s==k
section walk
variable (P:Program) (ops:Array Oper) (C:World→Prop) (sk:Nat→Bool)
variable {P ops C sk}
theorem EZ (a:Act) (d t:Nat) (v:Value):(a.put (some d) v).tmps.getD t undef=if d=t∧d <a.tmps.size then v else a.tmps.getD t undef:=by
 simp only[Act.put,Array.getD_eq_getD_getElem?,Array.getElem?_setIfInBounds]
 by_cases h:d=t
 ·subst h
  by_cases h2:d <a.tmps.size
  ·simp[h2]
  ·simp[h2]
 ·simp[h]
theorem QT (a:Act) (d:Option Tmp) (v:Value):(a.put d v).tmps.size=a.tmps.size:=by cases d<;>simp[Act.put]
theorem Me (a:Act) (d:Option Tmp) (v:Value):(a.put d v).defers=a.defers:=by cases d<;>rfl
def A8n (aF:Act) (o:Oper):Value:=match o.dst with|some d=>aF.tmps.getD d undef|none=>undef
def UW (ops:Array Oper) (sk:Nat→Bool) (aF a0:Act):Nat→Act
 |0=>a0
 |k+1=>match ops[k]? with
  |some o=>if sk k then UW ops sk aF a0 k else(UW ops sk aF a0 k).put o.dst (A8n aF o)
  |none=>UW ops sk aF a0 k
theorem NA (aF a0:Act):∀k,(UW ops sk aF a0 k).tmps.size=a0.tmps.size
 |0=>rfl
 | k+1=>by
  unfold UW
  split
  ·split
   ·exact NA aF a0 k
   ·rw[QT];exact NA aF a0 k
  ·exact NA aF a0 k
theorem An8 {aF a0:Act} {t:Nat}:∀k,(∀i j o o' d,i <j→j <k→ops[i]?=some o→ops[j]?=some o'→o.dst=some d→o'.dst≠some d)→
  (∀i o,i <k→sk i=false→ops[i]?=some o→o.dst=some t→t <a0.tmps.size→(UW ops sk aF a0 k).tmps.getD t undef=aF.tmps.getD t undef)∧
  ((∀i o,i <k→sk i=false→ops[i]?=some o→o.dst≠some t)→(UW ops sk aF a0 k).tmps.getD t undef=a0.tmps.getD t undef)
 |0,_=>⟨fun i o h=>by omega,fun _=>rfl⟩
 | k + 1,hd=>by
  obtain⟨h1,h2⟩:=An8 (aF:=aF) (a0:=a0) (t:=t) k fun i j o o' d hij hj=>hd i j o o' d hij (by omega)
  have hu:UW ops sk aF a0 (k+1)=match ops[k]? with
   |some o=>if sk k then UW ops sk aF a0 k else(UW ops sk aF a0 k).put o.dst (A8n aF o)
   |none=>UW ops sk aF a0 k:=by conv=>lhs;unfold UW
  constructor
  ·intro i o hi hsk ho hdst ht
   by_cases hik:i=k
   ·subst hik
    rw[hu]
    simp only[ho,hsk,Bool.false_eq_true,↓reduceIte,hdst,A8n]
    rw[EZ,if_pos ⟨rfl,by rw[NA];exact ht⟩]
   ·have h3:=h1 i o (by omega) hsk ho hdst ht
    rw[hu]
    split
    ·rename_i p hp
     split
     ·exact h3
     ·have hne:=hd i k o p t (by omega) (by omega) ho hp hdst
      cases hpd:p.dst with
      |none=>exact h3
      |some e=>
       rw[EZ,if_neg]
       ·exact h3
       ·rintro⟨rfl,_⟩;exact hne hpd
    ·exact h3
  ·intro hno
   have h3:=h2 fun i o hi=>hno i o (by omega)
   rw[hu]
   split
   ·rename_i p hp
    split
    ·exact h3
    ·rename_i hskk
     have hne:=hno k p (by omega) (by simpa using hskk) hp
     cases hpd:p.dst with
     |none=>exact h3
     |some e=>
      rw[EZ,if_neg]
      ·exact h3
      ·rintro⟨rfl,_⟩;exact hne hpd
   ·exact h3
end walk
end Go.Proofs.YtifkbgkbajncjaaDoor
namespace Go.Proofs.YtifkbgkbajncjaaDoor
open Go.RowKit
section par
variable {P:Program} {ops:Array Oper} {Q:Exit→Act→World→Prop}
def A06 (ops:Array Oper) (o o':Oper):Bool:=
 (match o.dst with|some d=>(o'.looksAt ops).contains d|none=>false)||(match o'.dst with|some d=>(o.looksAt ops).contains d|none=>false)
structure A6h (ops:Array Oper) (n:Nat) (al:List Al):Prop where
 back:Amd ops=true
 nosel:Region.noSelect ops=true
 n_le:n≤ops.size
 dst:∀i j o o' d,i <j→j <n→ops[i]?=some o→ops[j]?=some o'→o.dst=some d→o'.dst≠some d
 ord:∀i j o o' d,i <j→j <n→ops[i]?=some o→ops[j]?=some o'→(o.dst=some d∧d∈o'.looksAt ops∨o'.dst=some d∧d∈o.looksAt ops)→Region.waitsFor .any ops j i=true
 blind:∀e∈al,∀i o o' d,i <n→skp al i=false→ops[i]?=some o→ops[e.j]?=some o'→o'.dst=some d→d∉o.looksAt ops
 als:∀e∈al,e.j <n∧e.s <n∧Region.waitsFor .any ops e.s e.j=true∧∃o o' d t y,ops[e.j]?=some o∧ops[e.s]?=some o'∧o.guard=none∧o'.guard=none∧o'.dst=none∧o.dst=some d∧o'.op=.store t (.tmp d) y∧
  ∀u,y=.tmp u→(∀e'∈al,∀p,ops[e'.j]?=some p→p.dst≠some u)∧∀k p,e.s <k→k <n→ops[k]?=some p→p.dst≠some u
 nodup:(al.map (·.j)++al.map (·.s)).Nodup
 tail:n=ops.size∨(Region.sinkB .any ops n=true∧Region.chainB .any ops n=true)
theorem Ot {a a':Act} (o:Oper) (hs:∀cs b,o.op≠.select cs b) (h:∀t∈o.looksAt ops,a'.tmps.getD t undef=a.tmps.getD t undef):execOp a'.eval o=execOp a.eval o:=
 execOp_congr o hs fun x hx=>by
  cases x with
  |tmp t=>exact h t (List.mem_append_left _ (List.mem_filterMap.2 ⟨.tmp t,by simpa using hx,rfl⟩))
  |_=>rfl
theorem Ak4 {a a':Act} (o:Oper) (hz:a'.tmps.size=a.tmps.size) (h:∀t∈o.looksAt ops,a'.tmps.getD t undef=a.tmps.getD t undef):Region.wanted o (yielded ops a'.tmps)=Region.wanted o (yielded ops a.tmps):=by
 unfold Region.wanted
 cases hg:o.guard with
 |none=>rfl
 | some gw=>
  obtain⟨g,want⟩:=gw
  have hy:yielded ops a'.tmps g=yielded ops a.tmps g:=by
   unfold yielded
   cases ht:(ops[g]?).bind (·.dst) with
   |none=>rfl
   | some t=>
    have:=h t (by simp[Oper.looksAt,hg,ht])
    simp only[Option.bind_some]
    by_cases hlt:t <a.tmps.size
    ·have hlt':t <a'.tmps.size:=by rw[hz];exact hlt
     simp only[Array.getD_eq_getD_getElem?,Array.getElem?_eq_getElem hlt,Array.getElem?_eq_getElem hlt',Option.getD_some] at this
     rw[Array.getElem?_eq_getElem hlt,Array.getElem?_eq_getElem hlt',this]
    ·rw[Array.getElem?_eq_none (by rw[hz];exact Nat.le_of_not_lt hlt),Array.getElem?_eq_none (Nat.le_of_not_lt hlt)]
  simp only[hy]
theorem Fb {listed:Array Bool} {i k:Nat} (hi:i <listed.size):(listed.setIfInBounds i true).getD k false=true↔k=i∨listed.getD k false=true:=by
 by_cases h:i=k
 ·subst h;simp[hi]
 ·rw[getD_set_ne false h]
  exact⟨.inr,fun h'=>h'.resolve_left fun e=>h e.symm⟩
def A99 (b:Nat):Value:=.pointer (some ⟨b,0,none⟩)
def vOf (al:List Al) (aF:Act) (β:Nat→Nat) (k d:Nat):Value:=if al.any (·.j==k) then A99 (β k) else aF.tmps.getD d undef
structure Head (ops:Array Oper) (n:Nat) (al:List Al) (aF a0:Act) (w0:World) (listed:Array Bool) (a:Act) (w:World) (β:Nat→Nat):Prop where
 inv:HeadInv .any ops n listed
 defers:a.defers=a0.defers
 size:a.tmps.size=a0.tmps.size
 s1:∀k o d,k <n→ops[k]?=some o→o.dst=some d→d <a0.tmps.size→listed.getD k false=true→a.tmps.getD d undef=vOf al aF β k d
 s2:∀d,(∀k o,k <n→ops[k]?=some o→listed.getD k false=true→o.dst≠some d)→a.tmps.getD d undef=a0.tmps.getD d undef
 bel:Below w0.heap.size w0 w
 blk:∀e∈al,listed.getD e.j false=true→w0.heap.size≤β e.j∧w.heap[β e.j]?=some (if listed.getD e.s false then e.o1 else e.o0)
 inj:∀e∈al,∀e'∈al,listed.getD e.j false=true→listed.getD e'.j false=true→e.j≠e'.j→β e.j≠β e'.j
variable {n:Nat} {al:List Al} {aF a0:Act} {w0:World} {listed:Array Bool} {a:Act} {w:World} {β:Nat→Nat} {i:Nat}
theorem Hp {j k:Nat} {o:Oper} (h:Region.waitsFor .any ops j k=true) (ho:ops[j]?=some o) (hall:∀e∈o.after,Region.binds .any e=true→listed.getD e.on false=true):listed.getD k false=true:=by
 obtain⟨o',ho',e,he,hb,hon⟩:=Region.waitsFor_spec h
 have:o'=o:=Option.some.inj (ho'.symm.trans ho)
 subst this
 rw[←hon]
 exact hall e he hb
theorem Head.slot (ok:A6h ops n al) (h:Head ops n al aF a0 w0 listed a w β) {oi:Oper} (hi:i <n) (hoi:ops[i]?=some oi) (hun:listed.getD i false=false)
  (hall:∀e∈oi.after,Region.binds .any e=true→listed.getD e.on false=true) {t:Nat} (ht:t∈oi.looksAt ops) (hbl:∀e∈al,∀p,ops[e.j]?=some p→p.dst≠some t):
  a.tmps.getD t undef=(UW ops (skp al) aF a0 i).tmps.getD t undef:=by
 have hd:∀p q o o' d,p <q→q <i→ops[p]?=some o→ops[q]?=some o'→o.dst=some d→o'.dst≠some d:=fun p q o o' d h1 h2=>ok.dst p q o o' d h1 (by omega)
 obtain⟨l1,l2⟩:=An8 (ops:=ops) (sk:=skp al) (aF:=aF) (a0:=a0) (t:=t) i hd
 have hsk:∀k o,k <n→ops[k]?=some o→o.dst=some t→skp al k=false:=by
  intro k o hk ho hdst
  cases hs:skp al k with
  |false=>rfl
  | true=>
   exfalso
   obtain⟨e,he,hor⟩:=List.any_eq_true.1 hs
   simp only[Bool.or_eq_true,beq_iff_eq] at hor
   rcases hor with rfl|rfl
   ·exact hbl e he o ho hdst
   ·obtain⟨_,_,_,_,o',_,_,_,_,ho',_,_,hn,_⟩:=ok.als e he
    have:o'=o:=Option.some.inj (ho'.symm.trans ho)
    subst this
    rw[hn] at hdst
    cases hdst
 by_cases hw:∃k o,k <n∧ops[k]?=some o∧o.dst=some t
 ·obtain⟨k,o,hk,ho,hdst⟩:=hw
  have hs:=hsk k o hk ho hdst
  have huniq:∀k' o',k' <n→ops[k']?=some o'→o'.dst=some t→k'=k:=by
   intro k' o' hk' ho' hdst'
   rcases Nat.lt_trichotomy k' k with hlt|heq|hgt
   ·exact absurd hdst (ok.dst k' k o' o t hlt hk ho' ho hdst')
   ·exact heq
   ·exact absurd hdst' (ok.dst k k' o o' t hgt hk' ho ho' hdst)
  rcases Nat.lt_or_ge k i with hlt|hge
  ·have hwt:=ok.ord k i o oi t hlt hi ho hoi (.inl ⟨hdst,ht⟩)
   have hl:=Hp hwt hoi hall
   by_cases hlt':t <a0.tmps.size
   ·rw[h.s1 k o t hk ho hdst hlt' hl,l1 k o hlt hs ho hdst hlt']
    unfold vOf
    rw[if_neg]
    intro hany
    obtain⟨e,he,hej⟩:=List.any_eq_true.1 hany
    simp only[beq_iff_eq] at hej
    subst hej
    exact hbl e he o ho hdst
   ·have e1:a.tmps.getD t undef=undef:=by
     rw[Array.getD_eq_getD_getElem?,Array.getElem?_eq_none (by rw[h.size];exact Nat.le_of_not_lt hlt')];rfl
    have e2:(UW ops (skp al) aF a0 i).tmps.getD t undef=undef:=by
     rw[Array.getD_eq_getD_getElem?,Array.getElem?_eq_none (by rw[NA];exact Nat.le_of_not_lt hlt')];rfl
    rw[e1,e2]
  ·have hkl:listed.getD k false=false:=by
    by_cases hki:k=i
    ·subst hki;exact hun
    ·cases hkl:listed.getD k false with
     |false=>rfl
     |true=>
      have hwt:=ok.ord i k oi o t (by omega) hk hoi ho (.inr ⟨hdst,ht⟩)
      have:=Hp hwt ho (h.inv.closed k o ho hkl)
      rw[hun] at this
      cases this
   rw[h.s2 t fun k' o' hk' ho' hl' hdst'=>by
    have:=huniq k' o' hk' ho' hdst'
    subst this
    rw[hkl] at hl'
    cases hl']
   rw[l2 fun k' o' hk' _ ho' hdst'=>by
    have:=huniq k' o' (by omega) ho' hdst'
    omega]
 ·rw[h.s2 t fun k' o' hk' ho' _ hdst'=>hw ⟨k',o',hk',ho',hdst'⟩]
  rw[l2 fun k' o' hk' _ ho' hdst'=>hw ⟨k',o',by omega,ho',hdst'⟩]
theorem Head.put (ok:A6h ops n al) (h:Head ops n al aF a0 w0 listed a w β) (_hz:listed.size=ops.size) {oi:Oper} (hr:i∈Region.ready .any ops listed) (hi:i <n) (hoi:ops[i]?=some oi) (v:Value) (β':Nat→Nat) (w':World)
  (hβ:∀k,k≠i→β' k=β k)
  (hv:∀d,oi.dst=some d→d <a0.tmps.size→v=vOf al aF β' i d)
  (hbel:Below w0.heap.size w0 w')
  (hblk:∀e∈al,(listed.setIfInBounds i true).getD e.j false=true→w0.heap.size≤β' e.j∧w'.heap[β' e.j]?=some (if(listed.setIfInBounds i true).getD e.s false then e.o1 else e.o0))
  (hinj:∀e∈al,∀e'∈al,(listed.setIfInBounds i true).getD e.j false=true→(listed.setIfInBounds i true).getD e'.j false=true→e.j≠e'.j→β' e.j≠β' e'.j):
  Head ops n al aF a0 w0 (listed.setIfInBounds i true) (a.put oi.dst v) w' β':=by
 have hin:i <listed.size:=Lc (mem_ready.1 hr).1
 refine⟨h.inv.set hr hi,by rw[Me,h.defers],by rw[QT,h.size],?_,?_,hbel,hblk,hinj⟩
 ·intro k o d hk ho hd hlt hl
  by_cases hki:k=i
  ·subst hki
   have:o=oi:=Option.some.inj (ho.symm.trans hoi)
   subst this
   rw[hd,EZ,if_pos ⟨rfl,by rw[h.size];exact hlt⟩]
   exact hv d hd hlt
  ·have hl':=((Fb hin).1 hl).resolve_left hki
   have hne:oi.dst≠some d:=by
    rcases Nat.lt_or_ge k i with hlt'|hge
    ·exact ok.dst k i o oi d hlt' hi ho hoi hd
    ·intro hdi
     exact ok.dst i k oi o d (by omega) hk hoi ho hdi hd
   have hx:(a.put oi.dst v).tmps.getD d undef=a.tmps.getD d undef:=by
    cases hdi:oi.dst with
    |none=>rfl
    |some e=>
     rw[EZ,if_neg]
     rintro⟨rfl,_⟩
     exact hne hdi
   rw[hx,h.s1 k o d hk ho hd hlt hl']
   unfold vOf
   rw[hβ k hki]
 ·intro d hno
  have hne:oi.dst≠some d:=hno i oi hi hoi ((Fb hin).2 (.inl rfl))
  have hx:(a.put oi.dst v).tmps.getD d undef=a.tmps.getD d undef:=by
   cases hdi:oi.dst with
   |none=>rfl
   |some e=>
    rw[EZ,if_neg]
    rintro⟨rfl,_⟩
    exact hne hdi
  rw[hx]
  exact h.s2 d fun k o hk ho hl=>hno k o hk ho ((Fb hin).2 (.inr hl))
end par
end Go.Proofs.YtifkbgkbajncjaaDoor
namespace Go.Proofs.YtifkbgkbajncjaaDoor
open Go.RowKit
section
variable {P:Program} {Q:Exit→Act→World→Prop} {id:Nat} {l:List Oper} {a:Act} {w:World}
end
end Go.Proofs.YtifkbgkbajncjaaDoor
namespace Go.Proofs.YtifkbgkbajncjaaDoor
open Go.RowKit
structure Sx (w:World) (n:Nat) (L:List (Nat×Obj)) (W:World):Prop where
 bel:Below n w W
 sz:n≤W.heap.size
 has:∀e∈L,W.heap[e.1]?=some e.2
variable {w W W':World} {n m:Nat} {L:List (Nat×Obj)} {o:Obj}
theorem Sx.start (hn:w.heap.size=n):Sx w n [] w:=⟨Below.refl _ _,Nat.le_of_eq hn.symm,fun _ h=>by cases h⟩
theorem Sx.call (h:Sx w n L W) (hb:Below W.heap.size W W'):Sx w n L W':=
 ⟨Aqc h.bel h.sz hb,Aw9 h.sz hb,fun e he=>CV (h.has e he) hb⟩
theorem Sx.grow (h:Sx w n L W) (x:Xt):Sx w n L (ext W x):=h.call (Agi W x)
theorem Sx.push (h:Sx w n L W) (hm:W.heap.size=m) (hb:Below m W W') (ho:W'.heap[m]?=some o):Sx w n ((m,o)::L) W':=by
 subst hm
 have h':=h.call hb
 exact⟨h'.bel,h'.sz,fun e he=>by
  rcases List.mem_cons.1 he with rfl|he
  ·exact ho
  ·exact h'.has e he⟩
theorem Sx.new (h:Sx w n L W) (hb:Below W.heap.size W W') (ho:W'.heap[m]?=some o):Sx w n ((m,o)::L) W':=by
 have h':=h.call hb
 exact⟨h'.bel,h'.sz,fun e he=>by
  rcases List.mem_cons.1 he with rfl|he
  ·exact ho
  ·exact h'.has e he⟩
theorem Sx.add (h:Sx w n L W) (ho:W.heap[m]?=some o):Sx w n ((m,o)::L) W:=
 ⟨h.bel,h.sz,fun e he=>by
  rcases List.mem_cons.1 he with rfl|he
  ·exact ho
  ·exact h.has e he⟩
theorem Sx.get {e:Nat×Obj} (h:Sx w n L W) (i:Nat) (hi:L[i]?=some e):W.heap[e.1]?=some e.2:=h.has e (List.mem_of_getElem? hi)
theorem Sx.lt {e:Nat×Obj} (h:Sx w n L W) (i:Nat) (hi:L[i]?=some e):e.1 <W.heap.size:=Fv (h.get i hi)
theorem Sx.weak (h:Sx w n L W) (L':List (Nat×Obj)) (hl:∀e∈L',e∈L):Sx w n L' W:=⟨h.bel,h.sz,fun e he=>h.has e (hl e he)⟩
end Go.Proofs.YtifkbgkbajncjaaDoor
namespace Go.Proofs.YtifkbgkbajncjaaDoor
open Go.RowKit
structure TSl where
 a:Option Addr
 n:Nat
 c:Nat
structure TVec where
 a:Int
 b:Int
structure TStamp where
 n:Int
 site:Int
structure Au where
 stamp:TStamp
 vec:TVec
 gone:Bool
 value:ByteArray
 dead:TVec
structure Aq where
 key:ByteArray
 cells:List Au
structure Af where
 name:ByteArray
 policy:Int
structure AA where
 key:ByteArray
 group:Int
 gone:Bool
 value:ByteArray
structure TChange where
 site:Int
 seq:Int
 stamp:TStamp
 vec:TVec
 writes:List AA
structure S5 where
 group:Int
 value:ByteArray
structure Agc where
 key:ByteArray
 fields:List S5
structure Atl where
 ack:Int
 own:Int
 come:Int
structure Avq where
 kind:Int
 row:Aq
 til:ByteArray
 n:Int
structure Aim where
 site:Int
 acked:Int
 stable:Int
 wait:Int
 til:Int
structure A2s where
 stamp:TStamp
 vec:TVec
 gone:Bool
 value:ByteArray
structure Avr where
 row:Aq
 group:Int
 cell:Au
structure Atj where
 name:ByteArray
 text:ByteArray
structure ZI where
 src:Int
 bytes:ByteArray
structure TPlace where
 key:ByteArray
 group:Int
structure Ati where
 key:ByteArray
 from_:ByteArray
 til:ByteArray
 n:Int
structure Ain where
 a:List Au
 b:List Au
 c:List Au
structure Ail where
 keys:List ByteArray
 vals:List (List Au)
structure Atk where
 k:TSl
 v:TSl
structure TMsg where
 kind:Int
 site:Int
 change:TChange
 ack:Int
 own:Int
 path:List Int
 sums:List (List UInt8)
 rows:List Aq
 know:TVec
 back:Bool
inductive TC where
 |u8|i64|u32|bool|str|rsl|vec|stamp|cell|row|group|write|change|field|view|told|act|front|ask|two|note|packet|place|ask3|three|block|rawb|msg|bytes|ints|cells|rows|digest
abbrev U:TC→Type
 | .u8=>UInt8
 | .i64=>Int
 | .u32=>Int
 | .bool=>Bool
 | .str=>ByteArray
 | .rsl=>TSl
 | .vec=>TVec
 | .stamp=>TStamp
 | .cell=>Au
 | .row=>Aq
 | .group=>Af
 | .write=>AA
 | .change=>TChange
 | .field=>S5
 | .view=>Agc
 | .told=>Atl
 | .act=>Avq
 | .front=>Aim
 | .ask=>A2s
 | .two=>Avr
 | .note=>Atj
 | .packet=>ZI
 | .place=>TPlace
 | .ask3=>Ati
 | .three=>Ain
 | .block=>Ail
 | .rawb=>Atk
 | .msg=>TMsg
 | .bytes=>List UInt8
 | .ints=>List Int
 | .cells=>List Au
 | .rows=>List Aq
 | .digest=>List UInt8
def Aj:(c:TC)→U c
 | .u8=>(0:UInt8)
 | .i64=>(0:Int)
 | .u32=>(0:Int)
 | .bool=>(false:Bool)
 | .str=>(ByteArray.empty:ByteArray)
 | .rsl=>(⟨none,0,0⟩:TSl)
 | .vec=>(⟨0,0⟩:TVec)
 | .stamp=>(⟨0,0⟩:TStamp)
 | .cell=>(⟨⟨0,0⟩,⟨0,0⟩,false,ByteArray.empty,⟨0,0⟩⟩:Au)
 | .row=>(⟨ByteArray.empty,[]⟩:Aq)
 | .group=>(⟨ByteArray.empty,0⟩:Af)
 | .write=>(⟨ByteArray.empty,0,false,ByteArray.empty⟩:AA)
 | .change=>(⟨0,0,⟨0,0⟩,⟨0,0⟩,[]⟩:TChange)
 | .field=>(⟨0,ByteArray.empty⟩:S5)
 | .view=>(⟨ByteArray.empty,[]⟩:Agc)
 | .told=>(⟨0,0,0⟩:Atl)
 | .act=>(⟨0,⟨ByteArray.empty,[]⟩,ByteArray.empty,0⟩:Avq)
 | .front=>(⟨0,0,0,0,0⟩:Aim)
 | .ask=>(⟨⟨0,0⟩,⟨0,0⟩,false,ByteArray.empty⟩:A2s)
 | .two=>(⟨⟨ByteArray.empty,[]⟩,0,⟨⟨0,0⟩,⟨0,0⟩,false,ByteArray.empty,⟨0,0⟩⟩⟩:Avr)
 | .note=>(⟨ByteArray.empty,ByteArray.empty⟩:Atj)
 | .packet=>(⟨0,ByteArray.empty⟩:ZI)
 | .place=>(⟨ByteArray.empty,0⟩:TPlace)
 | .ask3=>(⟨ByteArray.empty,ByteArray.empty,ByteArray.empty,0⟩:Ati)
 | .three=>(⟨[],[],[]⟩:Ain)
 | .block=>(⟨[],[]⟩:Ail)
 | .rawb=>(⟨⟨none,0,0⟩,⟨none,0,0⟩⟩:Atk)
 | .msg=>(⟨0,0,⟨0,0,⟨0,0⟩,⟨0,0⟩,[]⟩,0,0,[],[],[],⟨0,0⟩,false⟩:TMsg)
 | .bytes=>([]:List UInt8)
 | .ints=>([]:List Int)
 | .cells=>([]:List Au)
 | .rows=>([]:List Aq)
 | .digest=>([]:List UInt8)
def size:TC→Nat
 | .u8=>1
 | .i64=>1
 | .u32=>1
 | .bool=>1
 | .str=>1
 | .rsl=>1
 | .vec=>2
 | .stamp=>2
 | .cell=>8
 | .row=>2
 | .group=>2
 | .write=>4
 | .change=>7
 | .field=>2
 | .view=>2
 | .told=>3
 | .act=>5
 | .front=>5
 | .ask=>6
 | .two=>11
 | .note=>2
 | .packet=>2
 | .place=>2
 | .ask3=>4
 | .three=>3
 | .block=>2
 | .rawb=>2
 | .msg=>17
 | .bytes=>1
 | .ints=>1
 | .cells=>1
 | .rows=>1
 | .digest=>32
def TC.isAgg:TC→Bool
 | .u8=>false
 | .i64=>false
 | .u32=>false
 | .bool=>false
 | .str=>false
 | .rsl=>false
 | .vec=>true
 | .stamp=>true
 | .cell=>true
 | .row=>true
 | .group=>true
 | .write=>true
 | .change=>true
 | .field=>true
 | .view=>true
 | .told=>true
 | .act=>true
 | .front=>true
 | .ask=>true
 | .two=>true
 | .note=>true
 | .packet=>true
 | .place=>true
 | .ask3=>true
 | .three=>true
 | .block=>true
 | .rawb=>true
 | .msg=>true
 | .bytes=>false
 | .ints=>false
 | .cells=>false
 | .rows=>false
 | .digest=>true
def TC.same:(c c':TC)→Option (PLift (c=c'))
 | .u8,.u8=>some ⟨rfl⟩
 | .i64,.i64=>some ⟨rfl⟩
 | .u32,.u32=>some ⟨rfl⟩
 | .bool,.bool=>some ⟨rfl⟩
 | .str,.str=>some ⟨rfl⟩
 | .rsl,.rsl=>some ⟨rfl⟩
 | .vec,.vec=>some ⟨rfl⟩
 | .stamp,.stamp=>some ⟨rfl⟩
 | .cell,.cell=>some ⟨rfl⟩
 | .row,.row=>some ⟨rfl⟩
 | .group,.group=>some ⟨rfl⟩
 | .write,.write=>some ⟨rfl⟩
 | .change,.change=>some ⟨rfl⟩
 | .field,.field=>some ⟨rfl⟩
 | .view,.view=>some ⟨rfl⟩
 | .told,.told=>some ⟨rfl⟩
 | .act,.act=>some ⟨rfl⟩
 | .front,.front=>some ⟨rfl⟩
 | .ask,.ask=>some ⟨rfl⟩
 | .two,.two=>some ⟨rfl⟩
 | .note,.note=>some ⟨rfl⟩
 | .packet,.packet=>some ⟨rfl⟩
 | .place,.place=>some ⟨rfl⟩
 | .ask3,.ask3=>some ⟨rfl⟩
 | .three,.three=>some ⟨rfl⟩
 | .block,.block=>some ⟨rfl⟩
 | .rawb,.rawb=>some ⟨rfl⟩
 | .msg,.msg=>some ⟨rfl⟩
 | .bytes,.bytes=>some ⟨rfl⟩
 | .ints,.ints=>some ⟨rfl⟩
 | .cells,.cells=>some ⟨rfl⟩
 | .rows,.rows=>some ⟨rfl⟩
 | .digest,.digest=>some ⟨rfl⟩
 |_,_=>none
def IX {c c':TC} (h:c=c') (l:List (U c)):List (U c'):=h▸l
def A4 (b:UInt8):Value:=.int .u8 b.toNat
inductive A where
 |v (x:Value)
 |sl (c:TC) (l:List (U c))
 |ref (l:List A)
 |own (i off:Nat)
 |ownx (i base len k:Nat)
 |sq (i:Nat)
 |vw (i size lo n:Nat) (full:Bool)
 |el (i k size off:Nat)
 |dq (i:Nat)
 |iv (i k:Nat)
 |de (i k size off:Nat)
 |ie (i k j size off:Nat)
 |mp (i:Nat)
 |nl
 |it (q:Bool) (vs:List Value)
 |fn (f:FuncId) (first caps:List A)
 |agg (xs:List A)
 |tup (xs:List A)
 |opt (u:Nat) (b:Bool) (x:A)
 |dead
 |av (c:TC) (n:Nat) (l:List (U c))
 |rv (xs:List A)
 |vr (i base lo m:Nat)
 |vd (i base m cap:Nat)
def enc:(c:TC)→U c→List A
 | .u8,(x:UInt8)=>[.v (A4 x)]
 | .i64,(x:Int)=>[.v (.int .i64 x)]
 | .u32,(x:Int)=>[.v (.int .u32 x)]
 | .bool,(x:Bool)=>[.v (.bool x)]
 | .str,(x:ByteArray)=>[.v (.string x)]
 | .rsl,(x:TSl)=>[.v (.slice x.a x.n x.c)]
 | .vec,(x:TVec)=>[.v (.int .i64 x.a),.v (.int .i64 x.b)]
 | .stamp,(x:TStamp)=>[.v (.int .i64 x.n),.v (.int .i64 x.site)]
 | .cell,(x:Au)=>[.v (.int .i64 x.stamp.n),.v (.int .i64 x.stamp.site),.v (.int .i64 x.vec.a),.v (.int .i64 x.vec.b),.v (.bool x.gone),.v (.string x.value),.v (.int .i64 x.dead.a),.v (.int .i64 x.dead.b)]
 | .row,(x:Aq)=>[.v (.string x.key),.sl .cell x.cells]
 | .group,(x:Af)=>[.v (.string x.name),.v (.int .i64 x.policy)]
 | .write,(x:AA)=>[.v (.string x.key),.v (.int .i64 x.group),.v (.bool x.gone),.v (.string x.value)]
 | .change,(x:TChange)=>[.v (.int .i64 x.site),.v (.int .i64 x.seq),.v (.int .i64 x.stamp.n),.v (.int .i64 x.stamp.site),.v (.int .i64 x.vec.a),.v (.int .i64 x.vec.b),.sl .write x.writes]
 | .field,(x:S5)=>[.v (.int .i64 x.group),.v (.string x.value)]
 | .view,(x:Agc)=>[.v (.string x.key),.sl .field x.fields]
 | .told,(x:Atl)=>[.v (.int .i64 x.ack),.v (.int .i64 x.own),.v (.int .i64 x.come)]
 | .act,(x:Avq)=>[.v (.int .i64 x.kind),.v (.string x.row.key),.sl .cell x.row.cells,.v (.string x.til),.v (.int .i64 x.n)]
 | .front,(x:Aim)=>[.v (.int .i64 x.site),.v (.int .i64 x.acked),.v (.int .i64 x.stable),.v (.int .i64 x.wait),.v (.int .i64 x.til)]
 | .ask,(x:A2s)=>[.v (.int .i64 x.stamp.n),.v (.int .i64 x.stamp.site),.v (.int .i64 x.vec.a),.v (.int .i64 x.vec.b),.v (.bool x.gone),.v (.string x.value)]
 | .two,(x:Avr)=>[.v (.string x.row.key),.sl .cell x.row.cells,.v (.int .i64 x.group),.v (.int .i64 x.cell.stamp.n),.v (.int .i64 x.cell.stamp.site),.v (.int .i64 x.cell.vec.a),.v (.int .i64 x.cell.vec.b),.v (.bool x.cell.gone),.v (.string x.cell.value),.v (.int .i64 x.cell.dead.a),.v (.int .i64 x.cell.dead.b)]
 | .note,(x:Atj)=>[.v (.string x.name),.v (.string x.text)]
 | .packet,(x:ZI)=>[.v (.int .i64 x.src),.v (.string x.bytes)]
 | .place,(x:TPlace)=>[.v (.string x.key),.v (.int .i64 x.group)]
 | .ask3,(x:Ati)=>[.v (.string x.key),.v (.string x.from_),.v (.string x.til),.v (.int .i64 x.n)]
 | .three,(x:Ain)=>[.sl .cell x.a,.sl .cell x.b,.sl .cell x.c]
 | .block,(x:Ail)=>[.sl .str x.keys,.sl .cells x.vals]
 | .rawb,(x:Atk)=>[.v (.slice x.k.a x.k.n x.k.c),.v (.slice x.v.a x.v.n x.v.c)]
 | .msg,(x:TMsg)=>[.v (.int .i64 x.kind),.v (.int .i64 x.site),.v (.int .i64 x.change.site),.v (.int .i64 x.change.seq),.v (.int .i64 x.change.stamp.n),.v (.int .i64 x.change.stamp.site),.v (.int .i64 x.change.vec.a),.v (.int .i64 x.change.vec.b),.sl .write x.change.writes,.v (.int .i64 x.ack),.v (.int .i64 x.own),.sl .i64 x.path,.sl .digest x.sums,.sl .row x.rows,.v (.int .i64 x.know.a),.v (.int .i64 x.know.b),.v (.bool x.back)]
 | .bytes,(x:List UInt8)=>[.sl .u8 x]
 | .ints,(x:List Int)=>[.sl .i64 x]
 | .cells,(x:List Au)=>[.sl .cell x]
 | .rows,(x:List Aq)=>[.sl .row x]
 | .digest,(x:List UInt8)=>[.v (A4 (x.getD 0 0)),.v (A4 (x.getD 1 0)),.v (A4 (x.getD 2 0)),.v (A4 (x.getD 3 0)),.v (A4 (x.getD 4 0)),.v (A4 (x.getD 5 0)),.v (A4 (x.getD 6 0)),.v (A4 (x.getD 7 0)),.v (A4 (x.getD 8 0)),.v (A4 (x.getD 9 0)),.v (A4 (x.getD 10 0)),.v (A4 (x.getD 11 0)),.v (A4 (x.getD 12 0)),.v (A4 (x.getD 13 0)),.v (A4 (x.getD 14 0)),.v (A4 (x.getD 15 0)),.v (A4 (x.getD 16 0)),.v (A4 (x.getD 17 0)),.v (A4 (x.getD 18 0)),.v (A4 (x.getD 19 0)),.v (A4 (x.getD 20 0)),.v (A4 (x.getD 21 0)),.v (A4 (x.getD 22 0)),.v (A4 (x.getD 23 0)),.v (A4 (x.getD 24 0)),.v (A4 (x.getD 25 0)),.v (A4 (x.getD 26 0)),.v (A4 (x.getD 27 0)),.v (A4 (x.getD 28 0)),.v (A4 (x.getD 29 0)),.v (A4 (x.getD 30 0)),.v (A4 (x.getD 31 0))]
def TC.one:TC→Bool
 | .u8| .i64| .u32| .bool| .str=>true
 |_=>false
def sv (c:TC) (d:U c):Value:=match enc c d with
 | .v x::_=>x
 |_=>undef
theorem Wk {c:TC} (h:c.one=true) (d:U c):enc c d=[.v (sv c d)]:=by cases c<;>first|rfl|cases h
theorem A08 {c:TC} (h:c.one=true):size c=1:=by cases c<;>first|rfl|cases h
theorem Tk (c:TC) (d:U c):(enc c d).length=size c:=by cases c<;>rfl
def A.plainCell:A→Prop
 | .v x=>x.oneCell'=true
 | .sl _ _=>True
 |_=>False
theorem Nb (c:TC) (d:U c):∀x∈enc c d,x.plainCell:=by
 cases c<;>(intro x hx;simp only[enc,List.mem_cons,List.not_mem_nil,or_false] at hx;repeat' (rcases hx with rfl|hx))<;>first|trivial|rfl|(subst hx;trivial)|(subst hx;rfl)
abbrev Got (α:Type):=Option (α×List A×List Prop)
def gI:List A→List Prop→Got Int
 | .v (.int .i64 n)::r,ps=>some (n,r,ps)
 |_,_=>none
def gW:List A→List Prop→Got Int
 | .v (.int .u32 n)::r,ps=>some (n,r,ps)
 |_,_=>none
def gB:List A→List Prop→Got Bool
 | .v (.bool b)::r,ps=>some (b,r,ps)
 |_,_=>none
def gT:List A→List Prop→Got ByteArray
 | .v (.string s)::r,ps=>some (s,r,ps)
 |_,_=>none
def gU:List A→List Prop→Got UInt8
 | .v (.int .u8 n)::r,ps=>some (UInt8.ofNat n.toNat,r,(0≤n∧n <256)::ps)
 |_,_=>none
def gS:List A→List Prop→Got TSl
 | .v (.slice a n c)::r,ps=>some (⟨a,n,c⟩,r,ps)
 |_,_=>none
def gL (c:TC):List A→List Prop→Got (List (U c))
 | .sl c' l::r,ps=>match TC.same c' c with
  |some h=>some (IX h.down l,r,ps)
  |none=>none
 | .v (.slice none 0 0)::r,ps=>some ([],r,ps)
 | .nl::r,ps=>some ([],r,ps)
 |_,_=>none
def Got.thn {α β:Type}:Got α→(α→List A→List Prop→Option β)→Option β
 |none,_=>none
 |some (x,r,ps),f=>f x r ps
def J3 {α:Type}:List A→α→List Prop→Option (α×List Prop)
 | [],x,ps=>some (x,ps)
 |_::_,_,_=>none
def MX:(c:TC)→List A→Option (U c×List Prop)
 | .u8,cs=>(gU cs []).thn fun x0 r ps=>J3 r (x0:UInt8) ps
 | .i64,cs=>(gI cs []).thn fun x0 r ps=>J3 r (x0:Int) ps
 | .u32,cs=>(gW cs []).thn fun x0 r ps=>J3 r (x0:Int) ps
 | .bool,cs=>(gB cs []).thn fun x0 r ps=>J3 r (x0:Bool) ps
 | .str,cs=>(gT cs []).thn fun x0 r ps=>J3 r (x0:ByteArray) ps
 | .rsl,cs=>(gS cs []).thn fun x0 r ps=>J3 r (x0:TSl) ps
 | .vec,cs=>(gI cs []).thn fun x0 r ps=>(gI r ps).thn fun x1 r ps=>J3 r (⟨x0,x1⟩:TVec) ps
 | .stamp,cs=>(gI cs []).thn fun x0 r ps=>(gI r ps).thn fun x1 r ps=>J3 r (⟨x0,x1⟩:TStamp) ps
 | .cell,cs=>(gI cs []).thn fun x0 r ps=>(gI r ps).thn fun x1 r ps=>(gI r ps).thn fun x2 r ps=>(gI r ps).thn fun x3 r ps=>(gB r ps).thn fun x4 r ps=>(gT r ps).thn fun x5 r ps=>(gI r ps).thn fun x6 r ps=>(gI r ps).thn fun x7 r ps=>J3 r (⟨⟨x0,x1⟩,⟨x2,x3⟩,x4,x5,⟨x6,x7⟩⟩:Au) ps
 | .row,cs=>(gT cs []).thn fun x0 r ps=>(gL .cell r ps).thn fun x1 r ps=>J3 r (⟨x0,x1⟩:Aq) ps
 | .group,cs=>(gT cs []).thn fun x0 r ps=>(gI r ps).thn fun x1 r ps=>J3 r (⟨x0,x1⟩:Af) ps
 | .write,cs=>(gT cs []).thn fun x0 r ps=>(gI r ps).thn fun x1 r ps=>(gB r ps).thn fun x2 r ps=>(gT r ps).thn fun x3 r ps=>J3 r (⟨x0,x1,x2,x3⟩:AA) ps
 | .change,cs=>(gI cs []).thn fun x0 r ps=>(gI r ps).thn fun x1 r ps=>(gI r ps).thn fun x2 r ps=>(gI r ps).thn fun x3 r ps=>(gI r ps).thn fun x4 r ps=>(gI r ps).thn fun x5 r ps=>(gL .write r ps).thn fun x6 r ps=>J3 r (⟨x0,x1,⟨x2,x3⟩,⟨x4,x5⟩,x6⟩:TChange) ps
 | .field,cs=>(gI cs []).thn fun x0 r ps=>(gT r ps).thn fun x1 r ps=>J3 r (⟨x0,x1⟩:S5) ps
 | .view,cs=>(gT cs []).thn fun x0 r ps=>(gL .field r ps).thn fun x1 r ps=>J3 r (⟨x0,x1⟩:Agc) ps
 | .told,cs=>(gI cs []).thn fun x0 r ps=>(gI r ps).thn fun x1 r ps=>(gI r ps).thn fun x2 r ps=>J3 r (⟨x0,x1,x2⟩:Atl) ps
 | .act,cs=>(gI cs []).thn fun x0 r ps=>(gT r ps).thn fun x1 r ps=>(gL .cell r ps).thn fun x2 r ps=>(gT r ps).thn fun x3 r ps=>(gI r ps).thn fun x4 r ps=>J3 r (⟨x0,⟨x1,x2⟩,x3,x4⟩:Avq) ps
 | .front,cs=>(gI cs []).thn fun x0 r ps=>(gI r ps).thn fun x1 r ps=>(gI r ps).thn fun x2 r ps=>(gI r ps).thn fun x3 r ps=>(gI r ps).thn fun x4 r ps=>J3 r (⟨x0,x1,x2,x3,x4⟩:Aim) ps
 | .ask,cs=>(gI cs []).thn fun x0 r ps=>(gI r ps).thn fun x1 r ps=>(gI r ps).thn fun x2 r ps=>(gI r ps).thn fun x3 r ps=>(gB r ps).thn fun x4 r ps=>(gT r ps).thn fun x5 r ps=>J3 r (⟨⟨x0,x1⟩,⟨x2,x3⟩,x4,x5⟩:A2s) ps
 | .two,cs=>(gT cs []).thn fun x0 r ps=>(gL .cell r ps).thn fun x1 r ps=>(gI r ps).thn fun x2 r ps=>(gI r ps).thn fun x3 r ps=>(gI r ps).thn fun x4 r ps=>(gI r ps).thn fun x5 r ps=>(gI r ps).thn fun x6 r ps=>(gB r ps).thn fun x7 r ps=>(gT r ps).thn fun x8 r ps=>(gI r ps).thn fun x9 r ps=>(gI r ps).thn fun x10 r ps=>J3 r (⟨⟨x0,x1⟩,x2,⟨⟨x3,x4⟩,⟨x5,x6⟩,x7,x8,⟨x9,x10⟩⟩⟩:Avr) ps
 | .note,cs=>(gT cs []).thn fun x0 r ps=>(gT r ps).thn fun x1 r ps=>J3 r (⟨x0,x1⟩:Atj) ps
 | .packet,cs=>(gI cs []).thn fun x0 r ps=>(gT r ps).thn fun x1 r ps=>J3 r (⟨x0,x1⟩:ZI) ps
 | .place,cs=>(gT cs []).thn fun x0 r ps=>(gI r ps).thn fun x1 r ps=>J3 r (⟨x0,x1⟩:TPlace) ps
 | .ask3,cs=>(gT cs []).thn fun x0 r ps=>(gT r ps).thn fun x1 r ps=>(gT r ps).thn fun x2 r ps=>(gI r ps).thn fun x3 r ps=>J3 r (⟨x0,x1,x2,x3⟩:Ati) ps
 | .three,cs=>(gL .cell cs []).thn fun x0 r ps=>(gL .cell r ps).thn fun x1 r ps=>(gL .cell r ps).thn fun x2 r ps=>J3 r (⟨x0,x1,x2⟩:Ain) ps
 | .block,cs=>(gL .str cs []).thn fun x0 r ps=>(gL .cells r ps).thn fun x1 r ps=>J3 r (⟨x0,x1⟩:Ail) ps
 | .rawb,cs=>(gS cs []).thn fun x0 r ps=>(gS r ps).thn fun x1 r ps=>J3 r (⟨x0,x1⟩:Atk) ps
 | .msg,cs=>(gI cs []).thn fun x0 r ps=>(gI r ps).thn fun x1 r ps=>(gI r ps).thn fun x2 r ps=>(gI r ps).thn fun x3 r ps=>(gI r ps).thn fun x4 r ps=>(gI r ps).thn fun x5 r ps=>(gI r ps).thn fun x6 r ps=>(gI r ps).thn fun x7 r ps=>(gL .write r ps).thn fun x8 r ps=>(gI r ps).thn fun x9 r ps=>(gI r ps).thn fun x10 r ps=>(gL .i64 r ps).thn fun x11 r ps=>(gL .digest r ps).thn fun x12 r ps=>(gL .row r ps).thn fun x13 r ps=>(gI r ps).thn fun x14 r ps=>(gI r ps).thn fun x15 r ps=>(gB r ps).thn fun x16 r ps=>J3 r (⟨x0,x1,⟨x2,x3,⟨x4,x5⟩,⟨x6,x7⟩,x8⟩,x9,x10,x11,x12,x13,⟨x14,x15⟩,x16⟩:TMsg) ps
 | .bytes,cs=>(gL .u8 cs []).thn fun x0 r ps=>J3 r (x0:List UInt8) ps
 | .ints,cs=>(gL .i64 cs []).thn fun x0 r ps=>J3 r (x0:List Int) ps
 | .cells,cs=>(gL .cell cs []).thn fun x0 r ps=>J3 r (x0:List Au) ps
 | .rows,cs=>(gL .row cs []).thn fun x0 r ps=>J3 r (x0:List Aq) ps
 | .digest,cs=>(gU cs []).thn fun x0 r ps=>(gU r ps).thn fun x1 r ps=>(gU r ps).thn fun x2 r ps=>(gU r ps).thn fun x3 r ps=>(gU r ps).thn fun x4 r ps=>(gU r ps).thn fun x5 r ps=>(gU r ps).thn fun x6 r ps=>(gU r ps).thn fun x7 r ps=>(gU r ps).thn fun x8 r ps=>(gU r ps).thn fun x9 r ps=>(gU r ps).thn fun x10 r ps=>(gU r ps).thn fun x11 r ps=>(gU r ps).thn fun x12 r ps=>(gU r ps).thn fun x13 r ps=>(gU r ps).thn fun x14 r ps=>(gU r ps).thn fun x15 r ps=>(gU r ps).thn fun x16 r ps=>(gU r ps).thn fun x17 r ps=>(gU r ps).thn fun x18 r ps=>(gU r ps).thn fun x19 r ps=>(gU r ps).thn fun x20 r ps=>(gU r ps).thn fun x21 r ps=>(gU r ps).thn fun x22 r ps=>(gU r ps).thn fun x23 r ps=>(gU r ps).thn fun x24 r ps=>(gU r ps).thn fun x25 r ps=>(gU r ps).thn fun x26 r ps=>(gU r ps).thn fun x27 r ps=>(gU r ps).thn fun x28 r ps=>(gU r ps).thn fun x29 r ps=>(gU r ps).thn fun x30 r ps=>(gU r ps).thn fun x31 r ps=>J3 r ([x0,x1,x2,x3,x4,x5,x6,x7,x8,x9,x10,x11,x12,x13,x14,x15,x16,x17,x18,x19,x20,x21,x22,x23,x24,x25,x26,x27,x28,x29,x30,x31]:List UInt8) ps
theorem A9m {l r:List A} {ps qs:List Prop} {n:Int} (h:gI l ps=some (n,r,qs)):l=.v (.int .i64 n)::r∧qs=ps:=by
 unfold gI at h;split at h<;>first|(cases h;exact⟨rfl,rfl⟩)|(cases h;done)
theorem A9s {l r:List A} {ps qs:List Prop} {n:Int} (h:gW l ps=some (n,r,qs)):l=.v (.int .u32 n)::r∧qs=ps:=by
 unfold gW at h;split at h<;>first|(cases h;exact⟨rfl,rfl⟩)|(cases h;done)
theorem A9l {l r:List A} {ps qs:List Prop} {n:Bool} (h:gB l ps=some (n,r,qs)):l=.v (.bool n)::r∧qs=ps:=by
 unfold gB at h;split at h<;>first|(cases h;exact⟨rfl,rfl⟩)|(cases h;done)
theorem A9p {l r:List A} {ps qs:List Prop} {n:ByteArray} (h:gT l ps=some (n,r,qs)):l=.v (.string n)::r∧qs=ps:=by
 unfold gT at h;split at h<;>first|(cases h;exact⟨rfl,rfl⟩)|(cases h;done)
theorem A9o {l r:List A} {ps qs:List Prop} {n:TSl} (h:gS l ps=some (n,r,qs)):l=.v (.slice n.a n.n n.c)::r∧qs=ps:=by
 unfold gS at h;split at h<;>first|(cases h;exact⟨rfl,rfl⟩)|(cases h;done)
theorem A9q {l r:List A} {ps qs:List Prop} {n:UInt8} (h:gU l ps=some (n,r,qs)) (hq:∀q∈qs,q):l=.v (A4 n)::r∧∀q∈ps,q:=by
 unfold gU at h
 split at h<;>first|(cases h;done)|skip
 rename_i m _
 cases h
 have h1:=hq _ (List.mem_cons_self ..)
 refine⟨?_,fun q hm=>hq q (List.mem_cons_of_mem _ hm)⟩
 have:((UInt8.ofNat m.toNat).toNat:Int)=m:=by
  rw[UInt8.toNat_ofNat']
  omega
 unfold A4
 rw[this]
theorem A9n {c:TC} {l r:List A} {ps qs:List Prop} {n:List (U c)} (h:gL c l ps=some (n,r,qs)):(l=.sl c n::r∨((l=.v (.slice none 0 0)::r∨l=.nl::r)∧n=[]))∧qs=ps:=by
 unfold gL at h
 split at h<;>first|(cases h;done)|skip
 ·rename_i c' m _ _
  split at h<;>first|(cases h;done)|skip
  rename_i hc _
  obtain⟨hc⟩:=hc
  subst hc
  cases h
  exact⟨.inl rfl,rfl⟩
 ·cases h
  exact⟨.inr ⟨.inl rfl,rfl⟩,rfl⟩
 ·cases h
  exact⟨.inr ⟨.inr rfl,rfl⟩,rfl⟩
end Go.Proofs.YtifkbgkbajncjaaDoor
namespace Go.Proofs.YtifkbgkbajncjaaDoor
open Go.RowKit
structure GT where
 c:TC
 one:c.one=true
 l:List (U c)
def Bay:Nat→(c:TC)→List (U c)→(Nat→Option Obj)→Value→Prop:=fun _ _ _ _ _=>False
def Sn:List (Nat×GT):=[(0,⟨.str,rfl,[⟨#[]⟩,⟨#[100,97,116,97]⟩,⟨#[97,99,107]⟩,⟨#[97,115,107]⟩,⟨#[116,101,108,108]⟩,⟨#[108,101,97,102]⟩]⟩)]
end Go.Proofs.YtifkbgkbajncjaaDoor
namespace Go.Proofs.YtifkbgkbajncjaaDoor
open Go.RowKit
def GV:List (List A)→Nat→List A
 | [],_=>[]
 |x::_,0=>x
 |_::r,n+1=>GV r n
inductive Els where
 |lst (cs:List (List A))
 |ty (c:TC) (l:List (U c))
def Els.n:Els→Nat
 | .lst cs=>cs.length
 | .ty _ l=>l.length
def Els.nth:Els→Nat→List A
 | .lst cs,k=>GV cs k
 | .ty c l,k=>enc c (l.getD k (Aj c))
inductive Ob where
 |box (e:TypeId) (cs:List A)
 |arr (e:TypeId) (size:Nat) (els:Els)
 |map (k v:TC) (l:List (U k×U v))
 |sit (s:ByteArray) (pos:Nat)
 |deep (e:TypeId) (c:TC) (l:List (U c))
 |rcd (e:TypeId) (xs:List A)
 |abs (m:Nat) (c:TC) (l:List (U c))
abbrev Fu:=List (Nat×A)
abbrev Objs:=List (Nat×Option Ob)
def Ael:Bool→Bool→Bool
 |true,true=>true
 |false,false=>true
 |_,_=>false
theorem Rn {a b:Bool} (h:Ael a b=true):a=b:=by cases a<;>cases b<;>first|rfl|cases h
theorem JH (k:Nat):Nat.beq k k=true:=by simp
theorem Aab {k j:Nat} (h:k≠j):Nat.beq k j=false:=by
 cases hb:Nat.beq k j with
 |true=>exact absurd (Nat.eq_of_beq_eq_true hb) h
 |false=>rfl
def B5 (u:Nat):Fu→Option A
 | []=>none
 |(k,x)::r=>bif Nat.beq k u then some x else B5 u r
def Ak (i:Nat):Objs→Option Ob
 | []=>none
 |(k,x)::r=>bif Nat.beq k i then x else Ak i r
structure St where
 n:Nat
 nx:Nat
 t:Fu
 o:Objs
structure Nm where
 b:Nat→Nat
 q:Nat→Value
def DZ:Value→Addr
 | .slice (some a) _ _=>a
 |_=>⟨0,0,none⟩
def BO:Value→Option Nat
 | .slice (some a) _ (_+1)=>some a.block
 |_=>none
theorem BU (ad:Addr) (i j:Nat):(ad.add i).add j=ad.add (i+j):=by
 unfold Addr.add
 by_cases hi:i=0<;>by_cases hj:j=0<;>simp[hi,hj,Nat.add_assoc]
theorem Gj (ad:Addr) (i:Nat):(ad.add i).block=ad.block:=by unfold Addr.add;split<;>rfl
theorem Bv (b o k:Nat):(⟨b,o,none⟩:Addr).add k=⟨b,o+k,none⟩:=Addr.add_mid b o k
theorem add_zero (ad:Addr):ad.add 0=ad:=by unfold Addr.add;simp
def J2 (v:Value) (k:Nat):Value:=match v with
 | .agg ws=>ws.getD k undef
 |_=>undef
theorem FY {v:Value} (h:v.oneCell'=true):v.cells.toList=[v]:=by cases v<;>first|rfl|cases h
def HH:A→Bool
 | .av _ _ _=>true
 |_=>false
def At4 (vs:List Value):List Value:=vs.flatMap fun v=>v.cells.toList
inductive Hv (F:Nat→Prop) (N:Nm) (nx:Nat) (R:World):A→Value→Prop
 |v (x:Value):Hv F N nx R (.v x) x
 | sl {c:TC} {l:List (U c)} {a:Option Addr} {cap:Nat} (ad:Addr) (h1:l.length≤cap) (h2:0 <l.length→a=some ad∧F ad.block)
   (h3:∀(i:Nat) (d:U c) (j:Nat) (x:A),l[i]?=some d→(enc c d)[j]?=some x→∃y,R.cell? (ad.add (i*size c+j))=some y)
   (h4:∀(i:Nat) (d:U c) (j:Nat) (x:A) (y:Value),l[i]?=some d→(enc c d)[j]?=some x→R.cell? (ad.add (i*size c+j))=some y→Hv F N nx R x y):Hv F N nx R (.sl c l) (.slice a l.length cap)
 | ref {l:List A} (ad:Addr) (h1:F ad.block) (h2:∀(j:Nat) (x:A),l[j]?=some x→∃y,R.cell? (ad.add j)=some y)
   (h3:∀(j:Nat) (x:A) (y:Value),l[j]?=some x→R.cell? (ad.add j)=some y→Hv F N nx R x y):Hv F N nx R (.ref l) (.pointer (some ad))
 |own {i off:Nat} (h:i <nx):Hv F N nx R (.own i off) (.pointer (some ⟨N.b i,off,none⟩))
 |ownx {i base len k:Nat} (h:i <nx):Hv F N nx R (.ownx i base len k) (.pointer (some ⟨N.b i,base+k,none⟩))
 |sq {i:Nat} (h:i <nx):Hv F N nx R (.sq i) (N.q i)
 |vw {i size lo n:Nat} {full:Bool} {a:Option Addr} {cap:Nat} (h:i <nx) (h1:n≤cap) (h2:full=true→cap=n) (h3:0 <n→a=some ((DZ (N.q i)).add (lo*size))):Hv F N nx R (.vw i size lo n full) (.slice a n cap)
 |el {i k size off:Nat} (h:i <nx):Hv F N nx R (.el i k size off) (.pointer (some ((DZ (N.q i)).add (k*size+off))))
 |dq {i:Nat} (h:i <nx):Hv F N nx R (.dq i) (J2 (N.q i) 0)
 |iv {i k:Nat} (h:i <nx):Hv F N nx R (.iv i k) (J2 (N.q i) (k+1))
 |de {i k size off:Nat} (h:i <nx):Hv F N nx R (.de i k size off) (.pointer (some ((DZ (J2 (N.q i) 0)).add (k*size+off))))
 |ie {i k j size off:Nat} (h:i <nx):Hv F N nx R (.ie i k j size off) (.pointer (some ((DZ (J2 (N.q i) (k+1))).add (j*size+off))))
 |mp {i:Nat} (h:i <nx):Hv F N nx R (.mp i) (.map (some (N.b i)))
 |nl (a:Option Addr):Hv F N nx R .nl (.slice a 0 0)
 |it (q:Bool) (vs:List Value) (y:Value) (h:y=bif q then .tuple (Value.bool true::vs).toArray else .tuple #[.bool false]):Hv F N nx R (.it q vs) y
 | fn {f:FuncId} {first caps:List A} (vs us:List Value) (h1:vs.length=first.length) (h2:∀(j:Nat) (x:A) (v:Value),first[j]?=some x→vs[j]?=some v→Hv F N nx R x v)
   (h3:us.length=caps.length) (h4:∀(j:Nat) (x:A) (v:Value),caps[j]?=some x→us[j]?=some v→Hv F N nx R x v):Hv F N nx R (.fn f first caps) (.func (.func f) vs.toArray us.toArray)
 |agg {xs:List A} (vs:List Value) (h1:vs.length=xs.length) (h2:∀(j:Nat) (x:A) (v:Value),xs[j]?=some x→vs[j]?=some v→Hv F N nx R x v):Hv F N nx R (.agg xs) (.agg vs.toArray)
 |tup {xs:List A} (vs:List Value) (h1:vs.length=xs.length) (h2:∀(j:Nat) (x:A) (v:Value),xs[j]?=some x→vs[j]?=some v→Hv F N nx R x v):Hv F N nx R (.tup xs) (.tuple vs.toArray)
 |dead (y:Value):Hv F N nx R .dead y
 |av {c:TC} {n:Nat} {l:List (U c)} (h1:c.one=true) (h2:l.length=n):Hv F N nx R (.av c n l) (.agg (l.map (sv c)).toArray)
 |rv {xs:List A} (vs:List Value) (h1:vs.length=xs.length) (h2:∀(j:Nat) (x:A) (v:Value),xs[j]?=some x→vs[j]?=some v→Hv F N nx R x v) (h3:∀(j:Nat) (x:A) (v:Value),xs[j]?=some x→vs[j]?=some v→HH x=false→v.oneCell'=true):Hv F N nx R (.rv xs) (.agg (At4 vs).toArray)
 |vr {i base lo m:Nat} (ad:Addr) (h:i <nx) (h1:0 <m→ad=⟨N.b i,base+lo,none⟩):Hv F N nx R (.vr i base lo m) (.slice (some ad) m m)
 |vd {i base m cap:Nat} (h:i <nx):Hv F N nx R (.vd i base m cap) (.slice (some ⟨N.b i,base,none⟩) m cap)
def HL (F:Nat→Prop) (N:Nm) (nx:Nat) (R:World):List A→List Value→Prop
 | [],l=>l=[]
 |x::r,l=>∃v vs,l=v::vs∧Hv F N nx R x v∧HL F N nx R r vs
def HC (F:Nat→Prop) (N:Nm) (nx:Nat) (R:World) (l:List A) (ad:Addr):Prop:=∀(j:Nat) (x:A),l[j]?=some x→∃y,R.cell? (ad.add j)=some y∧Hv F N nx R x y
section
variable {F:Nat→Prop} {N:Nm} {nx:Nat} {R:World}
theorem HL.nil:HL F N nx R [] []:=rfl
theorem HL.cons {x:A} {v:Value} {r:List A} {vs:List Value} (h:Hv F N nx R x v) (t:HL F N nx R r vs):HL F N nx R (x::r) (v::vs):=⟨v,vs,rfl,h,t⟩
theorem HL.inv {x:A} {r:List A} {l:List Value} (h:HL F N nx R (x::r) l):∃v vs,l=v::vs∧Hv F N nx R x v∧HL F N nx R r vs:=h
theorem HL.inv0 {l:List Value} (h:HL F N nx R [] l):l=[]:=h
theorem HL.length:∀{xs:List A} {vs:List Value},HL F N nx R xs vs→vs.length=xs.length
 | [],_,h=>by rw[h.inv0];rfl
 |_::_,_,h=>by
  obtain⟨v,vs,rfl,_,h3⟩:=h.inv
  rw[List.length_cons,List.length_cons,HL.length h3]
theorem HL.append:∀{xs ys:List A} {vs us:List Value},HL F N nx R xs vs→HL F N nx R ys us→HL F N nx R (xs++ys) (vs++us)
 | [],_,_,_,h,k=>by rw[h.inv0];exact k
 |_::_,_,_,_,h,k=>by
  obtain⟨v,vs,rfl,h2,h3⟩:=h.inv
  exact HL.cons h2 (HL.append h3 k)
theorem HL.drop:∀(n:Nat) {xs:List A} {vs:List Value},HL F N nx R xs vs→HL F N nx R (xs.drop n) (vs.drop n)
 |0,_,_,h=>h
 |_+1,[],_,h=>by rw[h.inv0];exact HL.nil
 |n+1,_::_,_,h=>by
  obtain⟨v,vs,rfl,_,h3⟩:=h.inv
  exact HL.drop n h3
theorem HL.take:∀(n:Nat) {xs:List A} {vs:List Value},HL F N nx R xs vs→HL F N nx R (xs.take n) (vs.take n)
 |0,_,_,_=>by rw[List.take_zero,List.take_zero];exact HL.nil
 |_+1,[],_,h=>by rw[h.inv0];exact HL.nil
 |n+1,_::_,_,h=>by
  obtain⟨v,vs,rfl,h2,h3⟩:=h.inv
  exact HL.cons h2 (HL.take n h3)
theorem HL.get:∀{xs:List A} {vs:List Value} {j:Nat} {x:A},HL F N nx R xs vs→xs[j]?=some x→∃v,vs[j]?=some v∧Hv F N nx R x v
 | [],_,_,_,_,h=>by cases h
 |_::_,_,0,_,h,hx=>by
  obtain⟨v,vs,rfl,h2,_⟩:=h.inv
  cases hx
  exact⟨v,rfl,h2⟩
 |_::_,_,j+1,_,h,hx=>by
  obtain⟨v,vs,rfl,_,h3⟩:=h.inv
  exact HL.get (j:=j) h3 hx
theorem HL.of:∀{xs:List A} {vs:List Value},vs.length=xs.length→(∀(j:Nat) (x:A) (v:Value),xs[j]?=some x→vs[j]?=some v→Hv F N nx R x v)→HL F N nx R xs vs
 | [],vs,h,_=>List.eq_nil_of_length_eq_zero h
 |x::r,[],h,_=>by cases h
 |x::r,v::vs,h,k=>HL.cons (k 0 x v rfl rfl) (HL.of (by simpa using h) fun j y u hy hu=>k (j+1) y u hy hu)
theorem HL.at {xs:List A} {vs:List Value} (h:HL F N nx R xs vs):vs.length=xs.length∧∀(j:Nat) (x:A) (v:Value),xs[j]?=some x→vs[j]?=some v→Hv F N nx R x v:=by
 refine⟨h.length,fun j x v hx hv=>?_⟩
 obtain⟨u,h1,h2⟩:=h.get hx
 rw[hv] at h1
 cases h1
 exact h2
theorem HL.split:∀{xs ys:List A} {vs:List Value},HL F N nx R (xs++ys) vs→∃us ws,vs=us++ws∧HL F N nx R xs us∧HL F N nx R ys ws
 | [],_,vs,h=>⟨[],vs,rfl,HL.nil,h⟩
 |_::_,_,_,h=>by
  obtain⟨v,vs,rfl,h2,h3⟩:=h.inv
  obtain⟨us,ws,rfl,h4,h5⟩:=HL.split h3
  exact⟨v::us,ws,rfl,HL.cons h2 h4,h5⟩
def toL:List Value→List A
 | []=>[]
 |x::r=> .v x::toL r
theorem Hv.v_inv {x y:Value} (h:Hv F N nx R (.v x) y):y=x:=by cases h;rfl
theorem HL.toL:∀xs:List Value,HL F N nx R (toL xs) xs
 | []=>HL.nil
 |_::r=>HL.cons (Hv.v _) (HL.toL r)
def Akj:List A→Option (List Value)
 | []=>some []
 | .v x::r=>match Akj r with
  |some l=>some (x::l)
  |none=>none
 |_::_=>none
theorem Au4:∀{xs:List A} {us:List Value},Akj xs=some us→xs=Go.Proofs.YtifkbgkbajncjaaDoor.toL us
 | [],us,e=>by cases e;rfl
 |x::r,us,e=>by
  cases x<;>first|(cases e;done)|skip
  unfold Akj at e
  split at e<;>first|(cases e;done)|skip
  rename_i l hl
  cases e
  rw[Au4 hl]
  rfl
theorem Avb:∀{us vs:List Value},HL F N nx R (Go.Proofs.YtifkbgkbajncjaaDoor.toL us) vs→vs=us
 | [],_,h=>h.inv0
 |u::r,_,h=>by
  obtain⟨v,vs,rfl,h2,h3⟩:=HL.inv (x:=.v u) (r:=Go.Proofs.YtifkbgkbajncjaaDoor.toL r) h
  rw[h2.v_inv,Avb h3]
theorem Akk {xs:List A} {us vs:List Value} (e:Akj xs=some us) (h:HL F N nx R xs vs):vs=us:=by
 rw[Au4 e] at h
 exact Avb h
theorem Hv.agg_inv {xs:List A} {y:Value} (h:Hv F N nx R (.agg xs) y):∃vs,y=.agg vs.toArray∧HL F N nx R xs vs:=by
 cases h with|agg vs h1 h2=>exact⟨vs,rfl,HL.of h1 h2⟩
theorem Hv.tup_inv {xs:List A} {y:Value} (h:Hv F N nx R (.tup xs) y):∃vs,y=.tuple vs.toArray∧HL F N nx R xs vs:=by
 cases h with|tup vs h1 h2=>exact⟨vs,rfl,HL.of h1 h2⟩
theorem Hv.fn_inv {f:FuncId} {xs ys:List A} {y:Value} (h:Hv F N nx R (.fn f xs ys) y):∃vs us,y=.func (.func f) vs.toArray us.toArray∧HL F N nx R xs vs∧HL F N nx R ys us:=by
 cases h with|fn vs us h1 h2 h3 h4=>exact⟨vs,us,rfl,HL.of h1 h2,HL.of h3 h4⟩
theorem Hv.of_agg {xs:List A} {vs:List Value} (h:HL F N nx R xs vs):Hv F N nx R (.agg xs) (.agg vs.toArray):=.agg vs h.at.1 h.at.2
theorem Hv.of_tup {xs:List A} {vs:List Value} (h:HL F N nx R xs vs):Hv F N nx R (.tup xs) (.tuple vs.toArray):=.tup vs h.at.1 h.at.2
theorem Hv.of_fn {f:FuncId} {xs ys:List A} {vs us:List Value} (h:HL F N nx R xs vs) (k:HL F N nx R ys us):Hv F N nx R (.fn f xs ys) (.func (.func f) vs.toArray us.toArray):=.fn vs us h.at.1 h.at.2 k.at.1 k.at.2
theorem Hv.ref_inv {l:List A} {y:Value} (h:Hv F N nx R (.ref l) y):∃ad,y=.pointer (some ad)∧F ad.block∧HC F N nx R l ad:=by
 cases h with|ref ad h1 h2 h3=>exact⟨ad,rfl,h1,fun j x hx=>by obtain⟨y,hy⟩:=h2 j x hx;exact⟨y,hy,h3 j x y hx hy⟩⟩
theorem Hv.of_ref {l:List A} {ad:Addr} (h:F ad.block) (k:HC F N nx R l ad):Hv F N nx R (.ref l) (.pointer (some ad)):=
 .ref ad h (fun j x hx=>by obtain⟨y,hy,_⟩:=k j x hx;exact⟨y,hy⟩) fun j x y hx hy=>by
  obtain⟨z,hz,h2⟩:=k j x hx
  rw[hy] at hz
  cases hz
  exact h2
theorem Hv.sl_inv {c:TC} {l:List (U c)} {y:Value} (h:Hv F N nx R (.sl c l) y):∃a cap,y=.slice a l.length cap∧l.length≤cap∧(0 <l.length→∃ad,a=some ad∧F ad.block∧∀(i:Nat) (d:U c),l[i]?=some d→HC F N nx R (enc c d) (ad.add (i*size c))):=by
 cases h with
 | @sl _ _ a cap ad h1 h2 h3 h4=>
  refine⟨a,cap,rfl,h1,fun hn=>⟨ad,(h2 hn).1,(h2 hn).2,fun i d hd j x hx=>?_⟩⟩
  obtain⟨y,hy⟩:=h3 i d j x hd hx
  exact⟨y,by rw[BU];exact hy,h4 i d j x y hd hx hy⟩
theorem Hv.of_sl {c:TC} {l:List (U c)} {a:Option Addr} {cap:Nat} (h1:l.length≤cap) (h2:0 <l.length→∃ad,a=some ad∧F ad.block∧∀(i:Nat) (d:U c),l[i]?=some d→HC F N nx R (enc c d) (ad.add (i*size c))):Hv F N nx R (.sl c l) (.slice a l.length cap):=by
 by_cases hn:0 <l.length
 ·obtain⟨ad,e1,e2,e3⟩:=h2 hn
  refine .sl ad h1 (fun _=>⟨e1,e2⟩) (fun i d j x hd hx=>?_) (fun i d j x y hd hx hy=>?_)
  ·obtain⟨y,hy,_⟩:=e3 i d hd j x hx
   rw[BU] at hy
   exact⟨y,hy⟩
  ·obtain⟨z,hz,h⟩:=e3 i d hd j x hx
   rw[BU,hy] at hz
   cases hz
   exact h
 ·obtain rfl:l=[]:=List.eq_nil_of_length_eq_zero (by omega)
  exact .sl ⟨0,0,none⟩ h1 (fun h=>absurd h (Nat.lt_irrefl _)) (fun i d j x hd=>by cases i<;>cases hd) (fun i d j x y hd=>by cases i<;>cases hd)
theorem Hv.nl_inv {y:Value} (h:Hv F N nx R .nl y):∃a,y=.slice a 0 0:=by
 cases h with|nl a=>exact⟨a,rfl⟩
theorem Hv.sl_nil {c:TC} {a:Option Addr} {y:Value} (h:y=.slice a 0 0):Hv F N nx R (.sl c []) y:=by
 subst h
 exact Hv.of_sl (l:=([]:List (U c))) (Nat.le_refl _) fun h=>absurd h (Nat.lt_irrefl _)
end
structure Ext (F:Nat→Prop) (N:Nm) (nx:Nat) (R:World) (F':Nat→Prop) (N':Nm) (nx':Nat) (R':World):Prop where
 le:nx≤nx'
 b:∀i,i <nx→N'.b i=N.b i
 q:∀i,i <nx→N'.q i=N.q i
 f:∀g,F g→F' g
 heap:∀g,F g→R'.heap[g]?=R.heap[g]?
section
variable {F F' F'':Nat→Prop} {N N' N'':Nm} {nx nx' nx'':Nat} {R R' R'':World}
theorem Ext.refl:Ext F N nx R F N nx R:=⟨Nat.le_refl _,fun _ _=>rfl,fun _ _=>rfl,fun _ h=>h,fun _ _=>rfl⟩
theorem Ext.trans (h:Ext F N nx R F' N' nx' R') (k:Ext F' N' nx' R' F'' N'' nx'' R''):Ext F N nx R F'' N'' nx'' R'':=
 ⟨Nat.le_trans h.le k.le,fun i hi=>(k.b i (Nat.lt_of_lt_of_le hi h.le)).trans (h.b i hi),fun i hi=>(k.q i (Nat.lt_of_lt_of_le hi h.le)).trans (h.q i hi),fun g hg=>k.f g (h.f g hg),fun g hg=>(k.heap g (h.f g hg)).trans (h.heap g hg)⟩
theorem Ext.cell (st:Ext F N nx R F' N' nx' R') {ad:Addr} (h:F ad.block):R'.cell? ad=R.cell? ad:=World.cell?_of_block (w:=R) (st.heap _ h)
theorem Hv.step (st:Ext F N nx R F' N' nx' R') {x:A} {y:Value} (h:Hv F N nx R x y):Hv F' N' nx' R' x y:=by
 induction h with
 |v x=>exact .v x
 | @sl c l a cap ad h1 h2 h3 h4 ih=>
  have key:∀i d j,l[i]?=some d→R'.cell? (ad.add (i*size c+j))=R.cell? (ad.add (i*size c+j)):=fun i d j hd=>by
   refine st.cell ?_
   rw[Gj]
   exact(h2 (by have:=(List.getElem?_eq_some_iff.1 hd).1;omega)).2
  refine .sl ad h1 (fun hn=>⟨(h2 hn).1,st.f _ (h2 hn).2⟩) (fun i d j x hd hx=>?_) (fun i d j x y hd hx hy=>?_)
  ·rw[key i d j hd];exact h3 i d j x hd hx
  ·rw[key i d j hd] at hy;exact ih i d j x y hd hx hy
 | @ref l ad h1 h2 h3 ih=>
  have key:∀j,R'.cell? (ad.add j)=R.cell? (ad.add j):=fun j=>st.cell (by rw[Gj];exact h1)
  refine .ref ad (st.f _ h1) (fun j x hx=>by rw[key];exact h2 j x hx) (fun j x y hx hy=>?_)
  rw[key] at hy
  exact ih j x y hx hy
 |own h=>rw[←st.b _ h];exact .own (Nat.lt_of_lt_of_le h st.le)
 |ownx h=>rw[←st.b _ h];exact .ownx (Nat.lt_of_lt_of_le h st.le)
 |sq h=>rw[←st.q _ h];exact .sq (Nat.lt_of_lt_of_le h st.le)
 |vw h h1 h2 h3=>exact .vw (Nat.lt_of_lt_of_le h st.le) h1 h2 (fun hn=>by rw[st.q _ h];exact h3 hn)
 |el h=>rw[←st.q _ h];exact .el (Nat.lt_of_lt_of_le h st.le)
 |dq h=>rw[←st.q _ h];exact .dq (Nat.lt_of_lt_of_le h st.le)
 |iv h=>rw[←st.q _ h];exact .iv (Nat.lt_of_lt_of_le h st.le)
 |de h=>rw[←st.q _ h];exact .de (Nat.lt_of_lt_of_le h st.le)
 |ie h=>rw[←st.q _ h];exact .ie (Nat.lt_of_lt_of_le h st.le)
 |mp h=>rw[←st.b _ h];exact .mp (Nat.lt_of_lt_of_le h st.le)
 |nl a=>exact .nl a
 |it q vs y h=>exact .it q vs y h
 |fn vs us h1 _ h3 _ ih2 ih4=>exact .fn vs us h1 ih2 h3 ih4
 |agg vs h1 _ ih=>exact .agg vs h1 ih
 |tup vs h1 _ ih=>exact .tup vs h1 ih
 |dead y=>exact .dead y
 |av h1 h2=>exact .av h1 h2
 |rv vs h1 _ h3 ih=>exact .rv vs h1 ih h3
 |vr ad h h1=>exact .vr ad (Nat.lt_of_lt_of_le h st.le) (fun hm=>by rw[st.b _ h];exact h1 hm)
 |vd h=>rw[←st.b _ h];exact .vd (Nat.lt_of_lt_of_le h st.le)
theorem HL.step (st:Ext F N nx R F' N' nx' R'):∀{xs:List A} {vs:List Value},HL F N nx R xs vs→HL F' N' nx' R' xs vs
 | [],_,h=>h
 |_::_,_,⟨v,vs,h1,h2,h3⟩=>⟨v,vs,h1,h2.step st,HL.step st h3⟩
theorem HC.step (st:Ext F N nx R F' N' nx' R') {xs:List A} {ad:Addr} (hF:F ad.block) (h:HC F N nx R xs ad):HC F' N' nx' R' xs ad:=fun j x hx=>by
 obtain⟨y,h1,h2⟩:=h j x hx
 exact⟨y,by rw[st.cell (by rw[Gj];exact hF)];exact h1,h2.step st⟩
end
mutual
def A.ren (ρ:Nat→Nat):A→A
 | .own i off=> .own (ρ i) off
 | .ownx i base len k=> .ownx (ρ i) base len k
 | .sq i=> .sq (ρ i)
 | .vw i size lo n full=> .vw (ρ i) size lo n full
 | .el i k size off=> .el (ρ i) k size off
 | .dq i=> .dq (ρ i)
 | .iv i k=> .iv (ρ i) k
 | .de i k size off=> .de (ρ i) k size off
 | .ie i k j size off=> .ie (ρ i) k j size off
 | .mp i=> .mp (ρ i)
 | .fn f first caps=> .fn f (renL ρ first) (renL ρ caps)
 | .agg xs=> .agg (renL ρ xs)
 | .tup xs=> .tup (renL ρ xs)
 | .ref l=> .ref (renL ρ l)
 | .opt u b x=> .opt u b (x.ren ρ)
 | .v x=> .v x
 | .sl c l=> .sl c l
 | .nl=> .nl
 | .it q vs=> .it q vs
 | .dead=> .dead
 | .av c n l=> .av c n l
 | .rv xs=> .rv (renL ρ xs)
 | .vr i base lo m=> .vr (ρ i) base lo m
 | .vd i base m cap=> .vd (ρ i) base m cap
def renL (ρ:Nat→Nat):List A→List A
 | []=>[]
 |x::r=>x.ren ρ::renL ρ r
end
theorem RI (ρ:Nat→Nat):∀l:List A,renL ρ l=l.map (A.ren ρ)
 | []=>by simp[renL]
 |x::r=>by rw[renL,RI ρ r];rfl
theorem JU {ρ:Nat→Nat} {l:List A} {j:Nat} {x:A} (h:(renL ρ l)[j]?=some x):∃y,l[j]?=some y∧x=y.ren ρ:=by
 rw[RI,List.getElem?_map] at h
 cases hl:l[j]? with
 |none=>rw[hl] at h;cases h
 |some y=>rw[hl] at h;cases h;exact⟨y,rfl,rfl⟩
theorem Any (ρ:Nat→Nat) (x:A):HH (x.ren ρ)=HH x:=by cases x<;>(unfold A.ren;rfl)
theorem JV (ρ:Nat→Nat) (l:List A):(renL ρ l).length=l.length:=by rw[RI,List.length_map]
theorem Rv (ρ:Nat→Nat) (c:TC) (d:U c):∀x∈enc c d,x.ren ρ=x:=fun x hx=>by
 have:=Nb c d x hx
 cases x<;>first|rfl|exact this.elim
structure Ren (ρ:Nat→Nat) (N:Nm) (nx:Nat) (N':Nm) (nx':Nat):Prop where
 lt:∀i,i <nx→ρ i <nx'
 b:∀i,i <nx→N'.b (ρ i)=N.b i
 q:∀i,i <nx→N'.q (ρ i)=N.q i
section
variable {F:Nat→Prop} {N N':Nm} {nx nx':Nat} {R:World} {ρ:Nat→Nat}
theorem Hv.ren (st:Ren ρ N nx N' nx') {x:A} {y:Value} (h:Hv F N nx R x y):Hv F N' nx' R (x.ren ρ) y:=by
 induction h with
 |v x=>exact .v x
 | @sl c l a cap ad h1 h2 h3 h4 ih=>
  refine .sl ad h1 h2 h3 (fun i d j x y hd hx hy=>?_)
  have:=ih i d j x y hd hx hy
  rwa[Rv ρ c d x (List.mem_of_getElem? hx)] at this
 | @ref l ad h1 h2 h3 ih=>
  unfold A.ren
  refine .ref ad h1 (fun j x hx=>?_) (fun j x y hx hy=>?_)
  ·obtain⟨z,hz,rfl⟩:=JU hx;exact h2 j z hz
  ·obtain⟨z,hz,rfl⟩:=JU hx;exact ih j z y hz hy
 |own h=>unfold A.ren;rw[←st.b _ h];exact .own (st.lt _ h)
 |ownx h=>unfold A.ren;rw[←st.b _ h];exact .ownx (st.lt _ h)
 |sq h=>unfold A.ren;rw[←st.q _ h];exact .sq (st.lt _ h)
 |vw h h1 h2 h3=>unfold A.ren;exact .vw (st.lt _ h) h1 h2 (fun hn=>by rw[st.q _ h];exact h3 hn)
 |el h=>unfold A.ren;rw[←st.q _ h];exact .el (st.lt _ h)
 |dq h=>unfold A.ren;rw[←st.q _ h];exact .dq (st.lt _ h)
 |iv h=>unfold A.ren;rw[←st.q _ h];exact .iv (st.lt _ h)
 |de h=>unfold A.ren;rw[←st.q _ h];exact .de (st.lt _ h)
 |ie h=>unfold A.ren;rw[←st.q _ h];exact .ie (st.lt _ h)
 |mp h=>unfold A.ren;rw[←st.b _ h];exact .mp (st.lt _ h)
 |nl a=>exact .nl a
 |it q vs y h=>exact .it q vs y h
 |fn vs us h1 _ h3 _ ih2 ih4=>
  unfold A.ren
  exact .fn vs us (by rw[JV];exact h1) (fun j x v hx hv=>by obtain⟨z,hz,rfl⟩:=JU hx;exact ih2 j z v hz hv) (by rw[JV];exact h3) (fun j x v hx hv=>by obtain⟨z,hz,rfl⟩:=JU hx;exact ih4 j z v hz hv)
 |agg vs h1 _ ih=>unfold A.ren;exact .agg vs (by rw[JV];exact h1) (fun j x v hx hv=>by obtain⟨z,hz,rfl⟩:=JU hx;exact ih j z v hz hv)
 |tup vs h1 _ ih=>unfold A.ren;exact .tup vs (by rw[JV];exact h1) (fun j x v hx hv=>by obtain⟨z,hz,rfl⟩:=JU hx;exact ih j z v hz hv)
 |dead y=>exact .dead y
 |av h1 h2=>exact .av h1 h2
 |rv vs h1 _ h3 ih=>
  unfold A.ren
  refine .rv vs (by rw[JV];exact h1) (fun j x v hx hv=>by obtain⟨z,hz,rfl⟩:=JU hx;exact ih j z v hz hv) (fun j x v hx hv hi=>?_)
  obtain⟨z,hz,rfl⟩:=JU hx
  rw[Any] at hi
  exact h3 j z v hz hv hi
 |vr ad h h1=>unfold A.ren;exact .vr ad (st.lt _ h) (fun hm=>by rw[st.b _ h];exact h1 hm)
 |vd h=>unfold A.ren;rw[←st.b _ h];exact .vd (st.lt _ h)
theorem HL.ren (st:Ren ρ N nx N' nx'):∀{xs:List A} {vs:List Value},HL F N nx R xs vs→HL F N' nx' R (renL ρ xs) vs
 | [],_,h=>by rw[show renL ρ []=[] from by simp[renL]];exact h
 |x::r,_,⟨v,vs,h1,h2,h3⟩=>by
  rw[show renL ρ (x::r)=x.ren ρ::renL ρ r from by simp[renL]]
  exact⟨v,vs,h1,h2.ren st,HL.ren st h3⟩
end
def A9e:Value→Option Nat
 | .pointer (some a)=>some a.block
 |_=>none
def foot (N:Nm) (i:Nat):Ob→Nat→Prop
 | .box _ _,g=>g=N.b i
 | .map _ _ _,g=>g=N.b i
 | .sit _ _,g=>g=N.b i
 | .arr _ _ _,g=>BO (N.q i)=some g
 | .deep _ _ l,g=>∃k,k <l.length+1∧BO (J2 (N.q i) k)=some g
 | .rcd _ _,g=>g=N.b i
 | .abs _ _ _,g=>∃k,A9e (J2 (N.q i) k)=some g
def Foot (N:Nm) (o:Objs) (g:Nat):Prop:=∃i ob,Ak i o=some ob∧foot N i ob g
def MZ (cs:List A):A:=match Akj cs with
 |some xs=> .v (.agg xs.toArray)
 |none=> .agg cs
def Ar (c:TC) (d:U c):A:=bif c.isAgg then MZ (enc c d) else(match enc c d with
 |x::_=>x
 | []=> .dead)
def A72 (c:TC) (d:U c):Value:=match Ar c d with
 | .v x=>x
 |_=>undef
def OwnR (R:World) (e:TypeId) (size:Nat) (v:Value) (n:Nat) (zs:List Value):Prop:=
 zs.length=n*size∧((∃a,v=.slice a 0 0∧n=0)∨
  ∃g cap cur,v=.slice (some ⟨g,0,none⟩) n (cap+1)∧R.heap[g]?=some (.cells cur e (0,0))∧n≤cap+1∧cap+1≤maxLen∧cur.size=(cap+1)*size∧cur.toList.take (n*size)=zs)
def PO:TC→Option (Nat×TC)
 | .row=>some (1,.cell)
 | .view=>some (1,.field)
 | .change=>some (6,.write)
 | .act=>some (2,.cell)
 | .two=>some (1,.cell)
 |_=>none
theorem Agp {c c':TC} {col:Nat} (h:PO c=some (col,c')) (d:U c):∃l':List (U c'),(enc c d)[col]?=some (.sl c' l'):=by
 cases c<;>cases h<;>exact⟨_,rfl⟩
def Kz (i k:Nat):List A→List A
 | []=>[]
 | .sl _ _::r=> .iv i k::Kz i k r
 |x::r=>x::Kz i k r
def Adz:(c c':TC)→U c→List (U c')→U c
 | .row,.cell,(d:Aq),(l:List Au)=>(⟨d.key,l⟩:Aq)
 | .view,.field,(d:Agc),(l:List S5)=>(⟨d.key,l⟩:Agc)
 | .change,.write,(d:TChange),(l:List AA)=>(⟨d.site,d.seq,d.stamp,d.vec,l⟩:TChange)
 | .act,.cell,(d:Avq),(l:List Au)=>(⟨d.kind,⟨d.row.key,l⟩,d.til,d.n⟩:Avq)
 | .two,.cell,(d:Avr),(l:List Au)=>(⟨⟨d.row.key,l⟩,d.group,d.cell⟩:Avr)
 |_,_,d,_=>d
theorem Vu {c c':TC} {col:Nat} (h:PO c=some (col,c')) (d:U c) (l:List (U c')):enc c (Adz c c' d l)=(enc c d).set col (.sl c' l):=by
 cases c<;>cases h<;>rfl
theorem Aax {i k:Nat} {c c':TC} {l:List (U c)} {l':List (U c')}:∀{cs:List A} {j:Nat},cs[j]?=some (.sl c' l')→Kz i k (cs.set j (.sl c l))=Kz i k cs
 | [],j,h=>by cases j<;>cases h
 |x::r,0,h=>by cases h;rfl
 |x::r,j+1,h=>by
  have:=Aax (i:=i) (k:=k) (l:=l) (cs:=r) (j:=j) h
  rw[List.set_cons_succ]
  cases x<;>(unfold Kz;rw[this])
def HW (F:Nat→Prop) (N:Nm) (nx:Nat) (R:World):List A→List Value→Prop
 | [],us=>us=[]
 |x::r,us=>∃v t,us=v.cells.toList++t∧Hv F N nx R x v∧(HH x=false→v.oneCell'=true)∧HW F N nx R r t
def ObR (F:Nat→Prop) (N:Nm) (nx:Nat) (R:World) (i:Nat):Ob→Prop
 | .box e cs=>∃vs,HL F N nx R cs vs∧R.heap[N.b i]?=some (.cells vs.toArray e (0,0))
 | .arr e size els=>∃zs,OwnR R e size (N.q i) els.n zs∧∀k,k <els.n→HL F N nx R (els.nth k) ((zs.drop (k*size)).take size)
 | .map k v l=>∃(es:List MapEntry) (clock:Nat),R.heap[N.b i]?=some (.map es.toArray clock)∧es.length=l.length∧(∀(j:Nat) (p:U k×U v) (e:MapEntry),l[j]?=some p→es[j]?=some e→e.key=A72 k p.1∧Hv F N nx R (Ar v p.2) e.val)
 | .sit s pos=>R.heap[N.b i]?=some (.stringIter s pos)
 | .deep e c l=>∃col c' zs,PO c=some (col,c')∧OwnR R e (size c) (J2 (N.q i) 0) l.length zs∧(∀k d,l[k]?=some d→HL F N nx R (Kz i k (enc c d)) ((zs.drop (k*size c)).take (size c)))∧
   (∀k d,l[k]?=some d→∃(l':List (U c')) (e':TypeId) (us:List Value),(enc c d)[col]?=some (.sl c' l')∧OwnR R e' (size c') (J2 (N.q i) (k+1)) l'.length us∧∀j,j <l'.length→HL F N nx R (enc c' (l'.getD j (Aj c'))) ((us.drop (j*size c')).take (size c')))∧
   ∀k k' g,k <l.length+1→k' <l.length+1→BO (J2 (N.q i) k)=some g→BO (J2 (N.q i) k')=some g→k=k'
 | .rcd e xs=>∃us,HW F N nx R xs us∧R.heap[N.b i]?=some (.cells us.toArray e (0,0))
 | .abs m c l=>∃h:Nat→Option Obj,(∀k g,A9e (J2 (N.q i) k)=some g→∃o,h g=some o∧R.heap[g]?=some o)∧Bay m c l h (N.q i)
theorem HW.step {F F':Nat→Prop} {N N':Nm} {nx nx':Nat} {R R':World} (st:Ext F N nx R F' N' nx' R'):∀{xs:List A} {us:List Value},HW F N nx R xs us→HW F' N' nx' R' xs us
 | [],_,h=>h
 |_::_,_,⟨v,t,h1,h2,h3,h4⟩=>⟨v,t,h1,h2.step st,h3,HW.step st h4⟩
theorem HW.ren {F:Nat→Prop} {N N':Nm} {nx nx':Nat} {R:World} {ρ:Nat→Nat} (st:Ren ρ N nx N' nx'):∀{xs:List A} {us:List Value},HW F N nx R xs us→HW F N' nx' R (renL ρ xs) us
 | [],_,h=>by rw[show renL ρ []=[] from by simp[renL]];exact h
 |x::r,_,⟨v,t,h1,h2,h3,h4⟩=>by
  rw[show renL ρ (x::r)=x.ren ρ::renL ρ r from by simp[renL]]
  exact⟨v,t,h1,h2.ren st,by rw[Any];exact h3,HW.ren st h4⟩
theorem OwnR.keep {R R':World} {e:TypeId} {size n:Nat} {v:Value} {zs:List Value} (h:OwnR R e size v n zs) (hk:∀g,BO v=some g→R'.heap[g]?=R.heap[g]?):OwnR R' e size v n zs:=by
 refine⟨h.1,?_⟩
 rcases h.2 with h0|⟨g,cap,cur,h1,h2,h3⟩
 ·exact .inl h0
 ·exact .inr ⟨g,cap,cur,h1,(hk g (by rw[h1];rfl)).trans h2,h3⟩
theorem OwnR.lt {R:World} {e:TypeId} {size n:Nat} {v:Value} {zs:List Value} (h:OwnR R e size v n zs) {g:Nat} (hg:BO v=some g):g <R.heap.size:=by
 rcases h.2 with⟨a,e1,_⟩|⟨g',cap,cur,e1,e3,_⟩
 ·rw[e1] at hg;cases a<;>cases hg
 ·rw[e1] at hg
  cases hg
  exact Fv e3
theorem OwnR.form {R:World} {e:TypeId} {size n:Nat} {v:Value} {zs:List Value} (h:OwnR R e size v n zs):∃a c,v=.slice a n c∧n≤c:=by
 rcases h.2 with⟨a,e1,e2⟩|⟨g,cap,cur,e1,_,e4,_⟩
 ·exact⟨a,0,by rw[e1,e2],by omega⟩
 ·exact⟨_,_,e1,e4⟩
section
variable {F F':Nat→Prop} {N N':Nm} {nx nx':Nat} {R R':World} {i:Nat} {ob:Ob}
theorem ObR.step (st:Ext F N nx R F' N' nx' R') (hi:i <nx) (hk:∀g,foot N i ob g→R'.heap[g]?=R.heap[g]?) (h:ObR F N nx R i ob):ObR F' N' nx' R' i ob:=by
 cases ob with
 |box e cs=>
  obtain⟨vs,h1,h2⟩:=h
  exact⟨vs,h1.step st,by rw[st.b i hi];exact(hk _ rfl).trans h2⟩
 |arr e size els=>
  obtain⟨zs,h1,h2⟩:=h
  exact⟨zs,by rw[st.q i hi];exact h1.keep hk,fun k hk'=>(h2 k hk').step st⟩
 |map k v l=>
  obtain⟨es,cl,h1,h2,h3⟩:=h
  exact⟨es,cl,by rw[st.b i hi];exact(hk _ rfl).trans h1,h2,fun j p e hp he=>⟨(h3 j p e hp he).1,(h3 j p e hp he).2.step st⟩⟩
 |sit s pos=>
  show R'.heap[N'.b i]?=_
  rw[st.b i hi]
  exact(hk _ rfl).trans h
 |deep e c l=>
  obtain⟨col,c',zs,h1,h2,h3,h4,h5⟩:=h
  refine⟨col,c',zs,h1,by rw[st.q i hi];exact h2.keep fun g hg=>hk g ⟨0,Nat.succ_pos _,hg⟩,fun k d hd=>(h3 k d hd).step st,fun k d hd=>?_,by rw[st.q i hi];exact h5⟩
  obtain⟨l',e',us,k1,k2,k3⟩:=h4 k d hd
  refine⟨l',e',us,k1,by rw[st.q i hi];exact k2.keep fun g hg=>hk g ⟨k+1,by have:=(List.getElem?_eq_some_iff.1 hd).1;omega,hg⟩,fun j hj=>(k3 j hj).step st⟩
 |rcd e xs=>
  obtain⟨us,h1,h2⟩:=h
  exact⟨us,h1.step st,by rw[st.b i hi];exact(hk _ rfl).trans h2⟩
 |abs m c l=>
  obtain⟨hh,h1,h2⟩:=h
  refine⟨hh,fun k g hg=>?_,by rw[st.q i hi];exact h2⟩
  rw[st.q i hi] at hg
  obtain⟨o,e1,e2⟩:=h1 k g hg
  exact⟨o,e1,(hk g ⟨k,hg⟩).trans e2⟩
theorem ObR.lt (h:ObR F N nx R i ob) {g:Nat} (hg:foot N i ob g):g <R.heap.size:=by
 cases ob with
 |box e cs=>obtain⟨vs,_,h2⟩:=h;cases hg;exact Fv h2
 |arr e size els=>obtain⟨zs,h1,_⟩:=h;exact h1.lt hg
 |map k v l=>obtain⟨es,cl,h2,_⟩:=h;cases hg;exact Fv h2
 |sit s pos=>cases hg;exact Fv h
 | deep e c l=>
  obtain⟨col,c',zs,h1,h2,h3,h4,h5⟩:=h
  obtain⟨k,hk,hg⟩:=hg
  cases k with
  |zero=>exact h2.lt hg
  |succ k=>
   obtain⟨l',e',us,_,k2,_⟩:=h4 k l[k] (List.getElem?_eq_getElem (by omega))
   exact k2.lt hg
 |rcd e xs=>obtain⟨us,_,h2⟩:=h;cases hg;exact Fv h2
 |abs m c l=>
  obtain⟨hh,h1,_⟩:=h
  obtain⟨k,hk⟩:=hg
  obtain⟨o,_,e2⟩:=h1 k g hk
  exact Fv e2
theorem Dw (st:Ext F N nx R F' N' nx' R') (hi:i <nx) {g:Nat}:foot N' i ob g↔foot N i ob g:=by
 cases ob<;>simp only[foot,st.b i hi,st.q i hi]
end
def Els.ren (ρ:Nat→Nat):Els→Els
 | .lst cs=> .lst (cs.map (renL ρ))
 | .ty c l=> .ty c l
def Ob.ren (ρ:Nat→Nat):Ob→Ob
 | .box e cs=> .box e (renL ρ cs)
 | .arr e size els=> .arr e size (els.ren ρ)
 | .map k v l=> .map k v l
 | .sit s pos=> .sit s pos
 | .deep e c l=> .deep e c l
 | .rcd e xs=> .rcd e (renL ρ xs)
 | .abs m c l=> .abs m c l
theorem Am7 {ρ:Nat→Nat} {i k:Nat}:∀{cs:List A},(∀x∈cs,x.ren ρ=x)→renL ρ (Kz i k cs)=Kz (ρ i) k cs
 | [],_=>by unfold Kz renL;rfl
 |x::r,h=>by
  have hr:=Am7 (i:=i) (k:=k) (cs:=r) fun y hy=>h y (List.mem_cons_of_mem _ hy)
  have hx:=h x (List.mem_cons_self ..)
  cases x<;>(unfold Kz;unfold renL;rw[hr])<;>first|rw[hx]|(unfold A.ren;rfl)
theorem CX:∀(cs:List (List A)) (k:Nat),GV cs k=cs.getD k []
 | [],_=>by simp[GV]
 |x::r,0=>by simp[GV]
 |x::r,k+1=>by simp[GV,CX r k]
theorem A13 (ρ:Nat→Nat) (c:TC) (d:U c):(Ar c d).ren ρ=Ar c d:=by
 have hl:renL ρ (enc c d)=enc c d:=by
  rw[RI]
  exact(List.map_congr_left (g:=id) fun x hx=>Rv ρ c d x hx).trans (List.map_id _)
 unfold Ar
 cases c.isAgg with
 |true=>
  show(MZ (enc c d)).ren ρ=MZ (enc c d)
  unfold MZ
  split
  ·rfl
  ·unfold A.ren;rw[hl]
 | false=>
  show A.ren ρ (match enc c d with|x::_=>x| []=> .dead)=_
  have hp:=Rv ρ c d
  split
  ·rename_i x r hx
   exact hp x (by rw[hx];exact List.mem_cons_self ..)
  ·rfl
section
variable {F:Nat→Prop} {N N':Nm} {nx nx':Nat} {R:World} {ρ:Nat→Nat} {i:Nat} {ob:Ob}
theorem ObR.ren (st:Ren ρ N nx N' nx') (hi:i <nx) (h:ObR F N nx R i ob):ObR F N' nx' R (ρ i) (ob.ren ρ):=by
 cases ob with
 |box e cs=>
  obtain⟨vs,h1,h2⟩:=h
  exact⟨vs,h1.ren st,by rw[st.b i hi];exact h2⟩
 | arr e size els=>
  obtain⟨zs,h1,h2⟩:=h
  cases els with
  |lst cs=>
   have hn:(Els.ren ρ (.lst cs)).n=cs.length:=by simp[Els.ren,Els.n]
   refine⟨zs,by rw[st.q i hi,hn];exact h1,fun k hk=>?_⟩
   rw[hn] at hk
   have:=(h2 k hk).ren st
   show HL F N' nx' R (GV (cs.map (renL ρ)) k) _
   rw[CX,List.getD_eq_getElem?_getD,List.getElem?_map]
   have h3:(Els.lst cs).nth k=cs.getD k []:=CX cs k
   rw[h3,List.getD_eq_getElem?_getD] at this
   have hk':cs[k]?=some cs[k]:=List.getElem?_eq_getElem hk
   rw[hk'] at this⊢
   exact this
  | ty c l=>
   refine⟨zs,by rw[st.q i hi];exact h1,fun k hk=>?_⟩
   have:=(h2 k hk).ren st
   have e:renL ρ ((Els.ty c l).nth k)=(Els.ty c l).nth k:=by
    show renL ρ (enc c _)=enc c _
    rw[RI]
    exact(List.map_congr_left (g:=id) fun x hx=>Rv ρ c _ x hx).trans (List.map_id _)
   rw[e] at this
   exact this
 |map k v l=>
  obtain⟨es,cl,h1,h2,h3⟩:=h
  refine⟨es,cl,by rw[st.b i hi];exact h1,h2,fun j p e hp he=>⟨(h3 j p e hp he).1,?_⟩⟩
  have:=(h3 j p e hp he).2.ren st
  rwa[A13] at this
 |sit s pos=>
  show R.heap[N'.b (ρ i)]?=_
  rw[st.b i hi]
  exact h
 | deep e c l=>
  obtain⟨col,c',zs,h1,h2,h3,h4,h5⟩:=h
  refine⟨col,c',zs,h1,by rw[st.q i hi];exact h2,fun k d hd=>?_,fun k d hd=>?_,by rw[st.q i hi];exact h5⟩
  ·rw[←Am7 fun x hx=>Rv ρ c d x hx]
   exact(h3 k d hd).ren st
  ·obtain⟨l',e',us,k1,k2,k3⟩:=h4 k d hd
   refine⟨l',e',us,k1,by rw[st.q i hi];exact k2,fun j hj=>?_⟩
   have:=(k3 j hj).ren st
   rwa[RI,(List.map_congr_left (g:=id) fun x hx=>Rv ρ c' _ x hx).trans (List.map_id _)] at this
 |rcd e xs=>
  obtain⟨us,h1,h2⟩:=h
  exact⟨us,h1.ren st,by rw[st.b i hi];exact h2⟩
 |abs m c l=>
  obtain⟨hh,h1,h2⟩:=h
  exact⟨hh,by rw[st.q i hi];exact h1,by rw[st.q i hi];exact h2⟩
end
def GlobOk (F:Nat→Prop) (R:World):Prop:=∀x∈Sn,F x.1∧∃t,R.heap[x.1]?=some (.cells (x.2.l.map (sv x.2.c)).toArray t (0,0))
theorem GlobOk.step {F F':Nat→Prop} {N N':Nm} {nx nx':Nat} {R R':World} (h:GlobOk F R) (st:Ext F N nx R F' N' nx' R'):GlobOk F' R':=fun x hx=>⟨st.f _ (h x hx).1,by rw[st.heap _ (h x hx).1];exact(h x hx).2⟩
structure HRel (F:Nat→Prop) (N:Nm) (nx:Nat) (o:Objs) (R:World):Prop where
 flt:∀g,F g→g <R.heap.size
 ob:∀i ob,Ak i o=some ob→i <nx∧ObR F N nx R i ob
 ff:∀i ob g,Ak i o=some ob→foot N i ob g→¬F g
 sep:∀i j x y g,Ak i o=some x→Ak j o=some y→foot N i x g→foot N j y g→i=j
 gl:GlobOk F R
structure Step (F:Nat→Prop) (N:Nm) (nx:Nat) (o:Objs) (R:World) (F':Nat→Prop) (N':Nm) (nx':Nat) (o':Objs) (R':World):Prop where
 le:nx≤nx'
 b:∀i,i <nx→N'.b i=N.b i
 q:∀i,i <nx→N'.q i=N.q i
 f:∀g,F g→F' g
 fnew:∀g,F' g→F g∨Foot N o g∨R.heap.size≤g
 foot:∀g,Foot N' o' g→Foot N o g∨R.heap.size≤g
 os:R'.os=R.os
 tape:R'.tape=R.tape
 output:R'.output=R.output
 size:R.heap.size≤R'.heap.size
 keep:∀g,g <R.heap.size→¬Foot N o g→R'.heap[g]?=R.heap[g]?
section
variable {F F' F'':Nat→Prop} {N N' N'':Nm} {nx nx' nx'':Nat} {o o' o'' o1 o1':Objs} {R R' R'':World}
theorem Step.refl:Step F N nx o R F N nx o R:=⟨Nat.le_refl _,fun _ _=>rfl,fun _ _=>rfl,fun _ h=>h,fun _ h=> .inl h,fun _ h=> .inl h,rfl,rfl,rfl,Nat.le_refl _,fun _ _ _=>rfl⟩
theorem Step.trans (h:Step F N nx o R F' N' nx' o' R') (k:Step F' N' nx' o' R' F'' N'' nx'' o'' R''):Step F N nx o R F'' N'' nx'' o'' R'' where
 le:=Nat.le_trans h.le k.le
 b i hi:=(k.b i (Nat.lt_of_lt_of_le hi h.le)).trans (h.b i hi)
 q i hi:=(k.q i (Nat.lt_of_lt_of_le hi h.le)).trans (h.q i hi)
 f g hg:=k.f g (h.f g hg)
 fnew g hg:=by
  rcases k.fnew g hg with h1|h1|h1
  ·exact h.fnew g h1
  ·exact .inr (h.foot g h1)
  ·exact .inr (.inr (Nat.le_trans h.size h1))
 foot g hg:=by
  rcases k.foot g hg with h1|h1
  ·exact h.foot g h1
  ·exact .inr (Nat.le_trans h.size h1)
 os:=k.os.trans h.os
 tape:=k.tape.trans h.tape
 output:=k.output.trans h.output
 size:=Nat.le_trans h.size k.size
 keep g hg hn:=by
  refine(k.keep g (Nat.lt_of_lt_of_le hg h.size) fun hf=>?_).trans (h.keep g hg hn)
  rcases h.foot g hf with h1|h1
  ·exact hn h1
  ·omega
theorem Step.ext (hp:HRel F N nx o R) (h:Step F N nx o R F' N' nx' o' R'):Ext F N nx R F' N' nx' R':=
 ⟨h.le,h.b,h.q,h.f,fun g hg=>h.keep g (hp.flt g hg) fun⟨i,ob,h1,h2⟩=>hp.ff i ob g h1 h2 hg⟩
theorem Step.below (h:Step F N nx [] R F' N' nx' o' R'):Below R.heap.size R R':=
 ⟨h.os,h.tape,h.output,h.size,fun g hg=>h.keep g hg fun⟨i,ob,h1,_⟩=>by cases h1⟩
theorem Step.of_below (hb:Below R.heap.size R R'):Step F N nx o R F N nx o R':=
 ⟨Nat.le_refl _,fun _ _=>rfl,fun _ _=>rfl,fun _ h=>h,fun _ h=> .inl h,fun _ h=> .inl h,hb.os,hb.tape,hb.output,hb.size,fun g hg _=>hb.block g hg⟩
theorem HRel.grow (h:HRel F N nx o R) (hb:Below R.heap.size R R'):HRel F N nx o R'∧Ext F N nx R F N nx R':=by
 have st:Ext F N nx R F N nx R':=⟨Nat.le_refl _,fun _ _=>rfl,fun _ _=>rfl,fun _ h=>h,fun g hg=>hb.block g (h.flt g hg)⟩
 exact⟨⟨fun g hg=>Nat.lt_of_lt_of_le (h.flt g hg) hb.size,fun i ob hi=>⟨(h.ob i ob hi).1,(h.ob i ob hi).2.step st (h.ob i ob hi).1 fun g hg=>hb.block g ((h.ob i ob hi).2.lt hg)⟩,h.ff,h.sep,h.gl.step st⟩,st⟩
theorem HRel.weak (h:HRel F N nx o R) (ho:∀i ob,Ak i o'=some ob→Ak i o=some ob):HRel F N nx o' R:=
 ⟨h.flt,fun i ob hi=>h.ob i ob (ho i ob hi),fun i ob g hi hg=>h.ff i ob g (ho i ob hi) hg,fun i j x y g hi hj=>h.sep i j x y g (ho i x hi) (ho j y hj),h.gl⟩
theorem Foot.weak (ho:∀i ob,Ak i o'=some ob→Ak i o=some ob) {g:Nat} (h:Foot N o' g):Foot N o g:=by
 obtain⟨i,ob,h1,h2⟩:=h
 exact⟨i,ob,ho i ob h1,h2⟩
theorem Step.weak (ho:∀i ob,Ak i o'=some ob→Ak i o=some ob):Step F N nx o R F N nx o' R:=
 ⟨Nat.le_refl _,fun _ _=>rfl,fun _ _=>rfl,fun _ h=>h,fun _ h=> .inl h,fun _ h=> .inl (Foot.weak ho h),rfl,rfl,rfl,Nat.le_refl _,fun _ _ _=>rfl⟩
theorem HRel.upd (h:HRel F N nx o R) {i0:Nat} {ob0:Ob} {T:Nat→Prop} (hos:R'.os=R.os) (htape:R'.tape=R.tape) (hout:R'.output=R.output) (hsz:R.heap.size≤R'.heap.size)
  (hT:∀g,T g→Foot N o g) (keep:∀g,g <R.heap.size→¬T g→R'.heap[g]?=R.heap[g]?)
  (hnx:nx≤nx') (hb:∀i,i <nx→N'.b i=N.b i) (hq:∀i,i <nx→N'.q i=N.q i)
  (old:∀i ob,i≠i0→Ak i o'=some ob→Ak i o=some ob∧∀g,foot N i ob g→¬T g)
  (new:∀ob,Ak i0 o'=some ob→ob=ob0) (hi0:i0 <nx') (hR:Ext F N nx R F N' nx' R'→ObR F N' nx' R' i0 ob0)
  (nf:∀g,foot N' i0 ob0 g→R.heap.size≤g∨T g):HRel F N' nx' o' R'∧Step F N nx o R F N' nx' o' R':=by
 have hTF:∀g,T g→¬F g:=fun g ht hf=>by
  obtain⟨i,ob,h1,h2⟩:=hT g ht
  exact h.ff i ob g h1 h2 hf
 have st:Ext F N nx R F N' nx' R':=⟨hnx,hb,hq,fun _ h=>h,fun g hg=>keep g (h.flt g hg) fun ht=>hTF g ht hg⟩
 have hold:∀i ob,i≠i0→Ak i o'=some ob→i <nx∧ObR F N nx R i ob∧(∀g,foot N i ob g→¬T g)∧Ak i o=some ob:=fun i ob hi hl=>by
  obtain⟨h1,h2⟩:=old i ob hi hl
  exact⟨(h.ob i ob h1).1,(h.ob i ob h1).2,h2,h1⟩
 refine⟨⟨fun g hg=>Nat.lt_of_lt_of_le (h.flt g hg) hsz,fun i ob hi=>?_,fun i ob g hi hg=>?_,fun i j x y g hi hj hx hy=>?_,h.gl.step st⟩,hnx,hb,hq,fun _ h=>h,fun _ h=> .inl h,fun g ⟨i,ob,h1,h2⟩=>?_,hos,htape,hout,hsz,fun g hg hn=>keep g hg fun ht=>hn (hT g ht)⟩
 ·by_cases e:i=i0
  ·subst e
   rw[new ob hi]
   exact⟨hi0,hR st⟩
  ·obtain⟨h1,h2,h3,_⟩:=hold i ob e hi
   exact⟨Nat.lt_of_lt_of_le h1 hnx,h2.step st h1 fun g hg=>keep g (h2.lt hg) (h3 g hg)⟩
 ·by_cases e:i=i0
  ·subst e
   rw[new ob hi] at hg
   intro hf
   rcases nf g hg with h1|h1
   ·have:=h.flt g hf;omega
   ·exact hTF g h1 hf
  ·obtain⟨h1,h2,h3,h4⟩:=hold i ob e hi
   exact h.ff i ob g h4 ((Dw st h1).1 hg)
 ·have one:∀i j x y,i=i0→j≠i0→Ak i o'=some x→Ak j o'=some y→foot N' i x g→foot N' j y g→i=j:=fun i j x y ei ej hi hj hx hy=>by
   subst ei
   rw[new x hi] at hx
   obtain⟨h1,h2,h3,h4⟩:=hold j y ej hj
   have hy':=(Dw st h1).1 hy
   rcases nf g hx with hge|ht
   ·have:=h2.lt hy'
    omega
   ·exact absurd ht (h3 g hy')
  by_cases ei:i=i0
  ·by_cases ej:j=i0
   ·rw[ei,ej]
   ·exact one i j x y ei ej hi hj hx hy
  ·by_cases ej:j=i0
   ·exact(one j i y x ej ei hj hi hy hx).symm
   ·obtain⟨h1,_,_,h4⟩:=hold i x ei hi
    obtain⟨h1',_,_,h4'⟩:=hold j y ej hj
    exact h.sep i j x y g h4 h4' ((Dw st h1).1 hx) ((Dw st h1').1 hy)
 ·by_cases e:i=i0
  ·subst e
   rw[new ob h1] at h2
   rcases nf g h2 with h3|h3
   ·exact .inr h3
   ·exact .inl (hT g h3)
  ·obtain⟨h3,_,_,h4⟩:=hold i ob e h1
   exact .inl ⟨i,ob,h4,(Dw st h3).1 h2⟩
def A5s (ks:List Nat):Objs→Objs
 | []=>[]
 |(k,x)::r=>(k,bif ks.any (Nat.beq k) then none else x)::A5s ks r
theorem HRel.frame (h:HRel F N nx o R) (h1:∀i ob,Ak i o1=some ob→Ak i o=some ob) (st:Step F N nx o1 R F' N' nx' o1' R') (hp:HRel F' N' nx' o1' R')
  (ho:∀i ob,Ak i o'=some ob→Ak i o1'=some ob∨(Ak i o=some ob∧Ak i o1=none)):HRel F' N' nx' o' R'∧Step F N nx o R F' N' nx' o' R':=by
 have hx:Ext F N nx R F' N' nx' R':=st.ext (h.weak h1)
 have rest:∀i ob,Ak i o=some ob→Ak i o1=none→i <nx∧ObR F N nx R i ob∧(∀g,foot N i ob g→¬Foot N o1 g):=fun i ob hi hn=>by
  refine⟨(h.ob i ob hi).1,(h.ob i ob hi).2,fun g hg ⟨j,y,hj,hy⟩=>?_⟩
  have:=h.sep i j ob y g hi (h1 j y hj) hg hy
  subst this
  rw[hn] at hj
  cases hj
 have far:∀i ob j y g,Ak i o=some ob→Ak i o1=none→Ak j o1'=some y→foot N i ob g→foot N' j y g→False:=fun i ob j y g hi hn hj hx1 hy=>by
  obtain⟨_,e2,e3⟩:=rest i ob hi hn
  rcases st.foot g ⟨j,y,hj,hy⟩ with h2|h2
  ·exact e3 g hx1 h2
  ·have:=e2.lt hx1;omega
 refine⟨⟨hp.flt,fun i ob hi=>?_,fun i ob g hi hg=>?_,fun i j x y g hi hj hx1 hy=>?_,hp.gl⟩,st.le,st.b,st.q,st.f,fun g hg=>?_,fun g hg=>?_,st.os,st.tape,st.output,st.size,fun g hg hn=>st.keep g hg fun hf=>hn (Foot.weak h1 hf)⟩
 ·rcases ho i ob hi with h2|⟨h2,h3⟩
  ·exact hp.ob i ob h2
  ·obtain⟨e1,e2,e3⟩:=rest i ob h2 h3
   exact⟨Nat.lt_of_lt_of_le e1 st.le,e2.step hx e1 fun g hg=>st.keep g (e2.lt hg) (e3 g hg)⟩
 ·rcases ho i ob hi with h2|⟨h2,h3⟩
  ·exact hp.ff i ob g h2 hg
  ·obtain⟨e1,e2,e3⟩:=rest i ob h2 h3
   have hg':=(Dw hx e1).1 hg
   intro hf
   rcases st.fnew g hf with h4|h4|h4
   ·exact h.ff i ob g h2 hg' h4
   ·exact e3 g hg' h4
   ·have:=e2.lt hg';omega
 ·rcases ho i x hi with h2|⟨h2,h3⟩
  ·rcases ho j y hj with h4|⟨h4,h5⟩
   ·exact hp.sep i j x y g h2 h4 hx1 hy
   ·obtain⟨e1,_,_⟩:=rest j y h4 h5
    exact(far j y i x g h4 h5 h2 ((Dw hx e1).1 hy) hx1).elim
  ·obtain⟨e1,_,_⟩:=rest i x h2 h3
   rcases ho j y hj with h4|⟨h4,h5⟩
   ·exact(far i x j y g h2 h3 h4 ((Dw hx e1).1 hx1) hy).elim
   ·obtain⟨e2,_,_⟩:=rest j y h4 h5
    exact h.sep i j x y g h2 h4 ((Dw hx e1).1 hx1) ((Dw hx e2).1 hy)
 ·rcases st.fnew g hg with h2|h2|h2
  ·exact .inl h2
  ·exact .inr (.inl (Foot.weak h1 h2))
  ·exact .inr (.inr h2)
 ·obtain⟨i,ob,hi,h2⟩:=hg
  rcases ho i ob hi with h3|⟨h3,h4⟩
  ·rcases st.foot g ⟨i,ob,h3,h2⟩ with h5|h5
   ·exact .inl (Foot.weak h1 h5)
   ·exact .inr h5
  ·obtain⟨e1,_,_⟩:=rest i ob h3 h4
   exact .inl ⟨i,ob,h3,(Dw hx e1).1 h2⟩
end
mutual
def A.free:A→Bool
 | .v _=>true
 | .sl _ _=>true
 | .nl=>true
 | .agg xs=>freeL xs
 | .tup xs=>freeL xs
 | .fn _ xs ys=>freeL xs&&freeL ys
 | .ref xs=>freeL xs
 | .av _ _ _=>true
 | .rv xs=>freeL xs
 |_=>false
def freeL:List A→Bool
 | []=>true
 |x::r=>x.free&&freeL r
end
end Go.Proofs.YtifkbgkbajncjaaDoor
namespace Go.Proofs.YtifkbgkbajncjaaDoor
section
variable {P:Program} {w:World}
@[go_sem high] theorem my_max (ts:Array TypeId) (t:TypeId) (k k':IntKind) (x y:Int):(Builtin.max_ ts t #[.int k x,.int k' y]).run P w=.ok (.int k (max x y)) w:=by
 rw[run_max_int2]
 congr 2
 omega
@[go_sem high] theorem my_min (ts:Array TypeId) (t:TypeId) (k k':IntKind) (x y:Int):(Builtin.min_ ts t #[.int k x,.int k' y]).run P w=.ok (.int k (min x y)) w:=by
 rw[run_min_int2]
 congr 2
 omega
end
end Go.Proofs.YtifkbgkbajncjaaDoor
namespace Go.Proofs.YtifkbgkbajncjaaDoor
open Go.RowKit
def A1 (a:Act):Nat→Value:=fun u=>a.tmps.getD u undef
def HS (F:Nat→Prop) (N:Nm) (nx:Nat) (R:World) (tm:Nat→Value):A→Value→Prop
 | .opt u b x,y=>(tm u=.bool b→HS F N nx R tm x y)∧(tm u≠.bool b→y=undef)
 |x,y=>Hv F N nx R x y
def A.dep (u:Nat):A→Bool
 | .opt k _ x=>bif Nat.beq k u then true else x.dep u
 |_=>false
def A.plain:A→Bool
 | .opt _ _ _=>false
 |_=>true
theorem Ab {F:Nat→Prop} {N:Nm} {nx:Nat} {R:World} {tm:Nat→Value} {x:A} {y:Value} (hp:x.plain=true):HS F N nx R tm x y↔Hv F N nx R x y:=by
 cases x<;>first|(cases hp;done)|(simp only[HS];done)
theorem HS.step {F F':Nat→Prop} {N N':Nm} {nx nx':Nat} {R R':World} (st:Ext F N nx R F' N' nx' R') {tm:Nat→Value}:∀{x:A} {y:Value},HS F N nx R tm x y→HS F' N' nx' R' tm x y
 | .opt _ _ _,_,h=>by
  simp only[HS] at h⊢
  exact⟨fun hb=>HS.step st (h.1 hb),h.2⟩
 | .v _,_,h=>(Ab rfl).2 (((Ab rfl).1 h).step st)
 | .sl _ _,_,h=>(Ab rfl).2 (((Ab rfl).1 h).step st)
 | .own _ _,_,h=>(Ab rfl).2 (((Ab rfl).1 h).step st)
 | .ownx _ _ _ _,_,h=>(Ab rfl).2 (((Ab rfl).1 h).step st)
 | .sq _,_,h=>(Ab rfl).2 (((Ab rfl).1 h).step st)
 | .dq _,_,h=>(Ab rfl).2 (((Ab rfl).1 h).step st)
 | .iv _ _,_,h=>(Ab rfl).2 (((Ab rfl).1 h).step st)
 | .de _ _ _ _,_,h=>(Ab rfl).2 (((Ab rfl).1 h).step st)
 | .ie _ _ _ _ _,_,h=>(Ab rfl).2 (((Ab rfl).1 h).step st)
 | .vw _ _ _ _ _,_,h=>(Ab rfl).2 (((Ab rfl).1 h).step st)
 | .el _ _ _ _,_,h=>(Ab rfl).2 (((Ab rfl).1 h).step st)
 | .ref _,_,h=>(Ab rfl).2 (((Ab rfl).1 h).step st)
 | .mp _,_,h=>(Ab rfl).2 (((Ab rfl).1 h).step st)
 | .nl,_,h=>(Ab rfl).2 (((Ab rfl).1 h).step st)
 | .it _ _,_,h=>(Ab rfl).2 (((Ab rfl).1 h).step st)
 | .fn _ _ _,_,h=>(Ab rfl).2 (((Ab rfl).1 h).step st)
 | .agg _,_,h=>(Ab rfl).2 (((Ab rfl).1 h).step st)
 | .tup _,_,h=>(Ab rfl).2 (((Ab rfl).1 h).step st)
 | .dead,_,h=>(Ab rfl).2 (((Ab rfl).1 h).step st)
 | .av _ _ _,_,h=>(Ab rfl).2 (((Ab rfl).1 h).step st)
 | .rv _,_,h=>(Ab rfl).2 (((Ab rfl).1 h).step st)
 | .vr _ _ _ _,_,h=>(Ab rfl).2 (((Ab rfl).1 h).step st)
 | .vd _ _ _ _,_,h=>(Ab rfl).2 (((Ab rfl).1 h).step st)
theorem HS.congr {F:Nat→Prop} {N:Nm} {nx:Nat} {R:World} {tm tm':Nat→Value} {u:Nat} (ht:∀k,k≠u→tm' k=tm k):∀{x:A} {y:Value},x.dep u=false→HS F N nx R tm x y→HS F N nx R tm' x y
 | .opt k b x,y,hd,h=>by
  unfold A.dep at hd
  cases hk:Nat.beq k u with
  |true=>rw[hk] at hd;cases hd
  |false=>
   rw[hk] at hd
   have hne:k≠u:=fun e=>by subst e;simp at hk
   simp only[HS] at h⊢
   rw[ht k hne]
   exact⟨fun hb=>HS.congr ht hd (h.1 hb),h.2⟩
 | .v _,_,_,h=>(Ab rfl).2 ((Ab rfl).1 h)
 | .sl _ _,_,_,h=>(Ab rfl).2 ((Ab rfl).1 h)
 | .own _ _,_,_,h=>(Ab rfl).2 ((Ab rfl).1 h)
 | .ownx _ _ _ _,_,_,h=>(Ab rfl).2 ((Ab rfl).1 h)
 | .sq _,_,_,h=>(Ab rfl).2 ((Ab rfl).1 h)
 | .dq _,_,_,h=>(Ab rfl).2 ((Ab rfl).1 h)
 | .iv _ _,_,_,h=>(Ab rfl).2 ((Ab rfl).1 h)
 | .de _ _ _ _,_,_,h=>(Ab rfl).2 ((Ab rfl).1 h)
 | .ie _ _ _ _ _,_,_,h=>(Ab rfl).2 ((Ab rfl).1 h)
 | .vw _ _ _ _ _,_,_,h=>(Ab rfl).2 ((Ab rfl).1 h)
 | .el _ _ _ _,_,_,h=>(Ab rfl).2 ((Ab rfl).1 h)
 | .ref _,_,_,h=>(Ab rfl).2 ((Ab rfl).1 h)
 | .mp _,_,_,h=>(Ab rfl).2 ((Ab rfl).1 h)
 | .nl,_,_,h=>(Ab rfl).2 ((Ab rfl).1 h)
 | .it _ _,_,_,h=>(Ab rfl).2 ((Ab rfl).1 h)
 | .fn _ _ _,_,_,h=>(Ab rfl).2 ((Ab rfl).1 h)
 | .agg _,_,_,h=>(Ab rfl).2 ((Ab rfl).1 h)
 | .tup _,_,_,h=>(Ab rfl).2 ((Ab rfl).1 h)
 | .dead,_,_,h=>(Ab rfl).2 ((Ab rfl).1 h)
 | .av _ _ _,_,_,h=>(Ab rfl).2 ((Ab rfl).1 h)
 | .rv _,_,_,h=>(Ab rfl).2 ((Ab rfl).1 h)
 | .vr _ _ _ _,_,_,h=>(Ab rfl).2 ((Ab rfl).1 h)
 | .vd _ _ _ _,_,_,h=>(Ab rfl).2 ((Ab rfl).1 h)
def Awj (u:Nat):Fu→Fu
 | []=>[]
 |(k,x)::r=>(bif x.dep u then(k,.dead) else(k,x))::Awj u r
def St.get (s:St) (u:Nat):Option A:=B5 u s.t
def St.put (s:St) (u:Nat) (x:A):St:={s with t:=(u,x)::Awj u s.t}
theorem WJ {u k:Nat} {x:A}:∀{t:Fu},B5 u (Awj k t)=some x→x=.dead∨(B5 u t=some x∧x.dep k=false)
 | [],h=>by cases h
 | (j,y)::r,h=>by
  unfold Awj at h
  cases hd:y.dep k with
  | true=>
   rw[hd] at h
   have h':(bif Nat.beq j u then some A.dead else B5 u (Awj k r))=some x:=h
   cases hj:Nat.beq j u with
   |true=>rw[hj] at h';cases h';exact .inl rfl
   |false=>
    rw[hj] at h'
    rcases WJ h' with e|⟨h1,h2⟩
    ·exact .inl e
    ·exact .inr ⟨by show(bif Nat.beq j u then some y else B5 u r)=_;rw[hj];exact h1,h2⟩
  | false=>
   rw[hd] at h
   have h':(bif Nat.beq j u then some y else B5 u (Awj k r))=some x:=h
   cases hj:Nat.beq j u with
   |true=>
    rw[hj] at h'
    obtain rfl:y=x:=Option.some.inj h'
    exact .inr ⟨by show(bif Nat.beq j u then some y else B5 u r)=_;rw[hj];rfl,hd⟩
   |false=>
    rw[hj] at h'
    rcases WJ h' with e|⟨h1,h2⟩
    ·exact .inl e
    ·exact .inr ⟨by show(bif Nat.beq j u then some y else B5 u r)=_;rw[hj];exact h1,h2⟩
structure Base where
 F:Nat→Prop
 N:Nm
 nx:Nat
 o:Objs
 R:World
 tm:Nat→Value
 W:Nat→Prop
structure Rel (Z:Base) (F:Nat→Prop) (N:Nm) (s:St) (a:Act) (R:World):Prop where
 defers:a.defers=[]
 size:a.tmps.size=s.n
 slots:∀u x,s.get u=some x→HS F N s.nx R (A1 a) x (A1 a u)
 hp:HRel F N s.nx s.o R
 st:Step Z.F Z.N Z.nx Z.o Z.R F N s.nx s.o R
 tm:∀u,¬Z.W u→A1 a u=Z.tm u
theorem Jn {a:Act} {d u:Nat} (v:Value) (h:u≠d):A1 (a.put (some d) v) u=A1 a u:=by
 unfold A1
 rw[EZ]
 rw[if_neg (fun e=>h e.1.symm)]
theorem YE {a:Act} {d:Nat} (v:Value) (h:d <a.tmps.size):A1 (a.put (some d) v) d=v:=by
 unfold A1
 rw[EZ]
 rw[if_pos ⟨rfl,h⟩]
section
variable {Z:Base} {F F':Nat→Prop} {N N':Nm} {s:St} {a:Act} {R R':World}
theorem Rel.put (h:Rel Z F N s a R) {d:Nat} (hd:d <s.n) (hW:Z.W d) {x:A} (y:Value) (hx:HS F N s.nx R (A1 (a.put (some d) y)) x y):Rel Z F N (s.put d x) (a.put (some d) y) R where
 defers:=by rw[Me];exact h.defers
 size:=by rw[QT];exact h.size
 slots:=fun u z hu=>by
  unfold St.get St.put B5 at hu
  cases hk:Nat.beq d u with
  |true=>
   rw[hk] at hu
   obtain rfl:x=z:=Option.some.inj hu
   obtain rfl:d=u:=Nat.eq_of_beq_eq_true hk
   rw[YE y (by rw[h.size];exact hd)]
   exact hx
  |false=>
   rw[hk] at hu
   have hne:u≠d:=fun e=>by subst e;simp at hk
   rw[Jn y hne]
   rcases WJ hu with rfl|⟨h1,h2⟩
   ·exact(Ab rfl).2 (.dead _)
   ·exact HS.congr (fun k hk'=>Jn y hk') h2 (h.slots u z h1)
 hp:=h.hp
 st:=h.st
 tm:=fun u hu=>by rw[Jn y (fun e=>hu (by rw[e];exact hW))];exact h.tm u hu
theorem Rel.heap (h:Rel Z F N s a R) {nx':Nat} {o':Objs} (st:Step F N s.nx s.o R F' N' nx' o' R') (hp:HRel F' N' nx' o' R'):Rel Z F' N' {s with nx:=nx',o:=o'} a R':=
 ⟨h.defers,h.size,fun u x hu=>(h.slots u x hu).step (st.ext h.hp),hp,h.st.trans st,h.tm⟩
theorem Rel.grow (h:Rel Z F N s a R) (hb:Below R.heap.size R R'):Rel Z F N s a R':=by
 obtain⟨h1,h2⟩:=h.hp.grow hb
 exact⟨h.defers,h.size,fun u x hu=>(h.slots u x hu).step h2,h1,h.st.trans (Step.of_below hb),h.tm⟩
end
def GM {α:Type} (σ:Nat→α) (d:Nat) (m:α):Nat→α:=fun k=>bif Nat.beq k d then m else σ k
theorem A3 {α:Type} (σ:Nat→α) (d:Nat) (m:α):GM σ d m d=m:=by simp[GM]
theorem BY {α:Type} (σ:Nat→α) {d k:Nat} (m:α) (h:k≠d):GM σ d m k=σ k:=by
 unfold GM
 cases hk:Nat.beq k d with
 |true=>exact absurd (Nat.eq_of_beq_eq_true hk) h
 |false=>rfl
def Nm.setB (N:Nm) (d m:Nat):Nm:=⟨GM N.b d m,N.q⟩
def Nm.setQ (N:Nm) (k:Nat) (v:Value):Nm:=⟨N.b,GM N.q k v⟩
theorem AE (k:Nat) (x:Option Ob) (l:Objs) (j:Nat):Ak j ((k,x)::l)=if j=k then x else Ak j l:=by
 show(bif Nat.beq k j then x else Ak j l)=_
 by_cases h:j=k
 ·subst h;simp
 ·rw[if_neg h]
  have:Nat.beq k j=false:=by
   cases hk:Nat.beq k j with
   |true=>exact absurd (Nat.eq_of_beq_eq_true hk).symm h
   |false=>rfl
  rw[this]
  rfl
def ZW {α:Type} (P:Program):Sem α→Option α
 | .pure a=>some a
 | .program k=>ZW P (k P)
 |_=>none
theorem X5 {α:Type} {P:Program}:∀{s:Sem α} {x:α},ZW P s=some x→∀R,s.run P R=.ok x R
 | .pure a,x,h,R=>by
  obtain rfl:a=x:=Option.some.inj h
  rfl
 | .program k,x,h,R=>by
  show(k P).run P R=_
  exact X5 (s:=k P) h R
 | .load _ _ _,_,h,_=>by cases h
 | .store _ _ _ _,_,h,_=>by cases h
 | .new _ _,_,h,_=>by cases h
 | .shape _ _,_,h,_=>by cases h
 | .freeze _ _ _,_,h,_=>by cases h
 | .frozen _ _,_,h,_=>by cases h
 | .getObj _ _,_,h,_=>by cases h
 | .setObj _ _ _,_,h,_=>by cases h
 | .choose _ _,_,h,_=>by cases h
 | .sys _ _,_,h,_=>by cases h
 | .mark _ _,_,h,_=>by cases h
 | .halt _,_,h,_=>by cases h
abbrev Guards:=List (Nat×Bool)
def inG (u:Nat) (b:Bool):Guards→Bool
 | []=>false
 |(k,c)::r=>bif Nat.beq k u then(bif Ael c b then true else inG u b r) else inG u b r
def KQ (tm:Nat→Value) (G:Guards):Prop:=∀u b,inG u b G=true→tm u=.bool b
def A.strip (G:Guards):A→Option A
 | .opt u b x=>bif inG u b G then x.strip G else none
 | .dead=>none
 |x=>some x
section
variable {F:Nat→Prop} {N:Nm} {nx:Nat} {R:World} {tm:Nat→Value} {G:Guards}
theorem Ad8 (hG:KQ tm G):∀{x z:A} {y:Value},x.strip G=some z→HS F N nx R tm x y→z.plain=true∧Hv F N nx R z y
 | .opt u b x,z,y,h,hh=>by
  unfold A.strip at h
  cases hi:inG u b G with
  |false=>rw[hi] at h;cases h
  |true=>
   rw[hi] at h
   simp only[HS] at hh
   exact Ad8 hG h (hh.1 (hG u b hi))
 | .v _,z,_,h,hh=>by obtain rfl:=Option.some.inj h;exact⟨rfl,(Ab rfl).1 hh⟩
 | .sl _ _,z,_,h,hh=>by obtain rfl:=Option.some.inj h;exact⟨rfl,(Ab rfl).1 hh⟩
 | .own _ _,z,_,h,hh=>by obtain rfl:=Option.some.inj h;exact⟨rfl,(Ab rfl).1 hh⟩
 | .ownx _ _ _ _,z,_,h,hh=>by obtain rfl:=Option.some.inj h;exact⟨rfl,(Ab rfl).1 hh⟩
 | .sq _,z,_,h,hh=>by obtain rfl:=Option.some.inj h;exact⟨rfl,(Ab rfl).1 hh⟩
 | .dq _,z,_,h,hh=>by obtain rfl:=Option.some.inj h;exact⟨rfl,(Ab rfl).1 hh⟩
 | .iv _ _,z,_,h,hh=>by obtain rfl:=Option.some.inj h;exact⟨rfl,(Ab rfl).1 hh⟩
 | .de _ _ _ _,z,_,h,hh=>by obtain rfl:=Option.some.inj h;exact⟨rfl,(Ab rfl).1 hh⟩
 | .ie _ _ _ _ _,z,_,h,hh=>by obtain rfl:=Option.some.inj h;exact⟨rfl,(Ab rfl).1 hh⟩
 | .vw _ _ _ _ _,z,_,h,hh=>by obtain rfl:=Option.some.inj h;exact⟨rfl,(Ab rfl).1 hh⟩
 | .el _ _ _ _,z,_,h,hh=>by obtain rfl:=Option.some.inj h;exact⟨rfl,(Ab rfl).1 hh⟩
 | .ref _,z,_,h,hh=>by obtain rfl:=Option.some.inj h;exact⟨rfl,(Ab rfl).1 hh⟩
 | .mp _,z,_,h,hh=>by obtain rfl:=Option.some.inj h;exact⟨rfl,(Ab rfl).1 hh⟩
 | .nl,z,_,h,hh=>by obtain rfl:=Option.some.inj h;exact⟨rfl,(Ab rfl).1 hh⟩
 | .it _ _,z,_,h,hh=>by obtain rfl:=Option.some.inj h;exact⟨rfl,(Ab rfl).1 hh⟩
 | .fn _ _ _,z,_,h,hh=>by obtain rfl:=Option.some.inj h;exact⟨rfl,(Ab rfl).1 hh⟩
 | .agg _,z,_,h,hh=>by obtain rfl:=Option.some.inj h;exact⟨rfl,(Ab rfl).1 hh⟩
 | .tup _,z,_,h,hh=>by obtain rfl:=Option.some.inj h;exact⟨rfl,(Ab rfl).1 hh⟩
 | .dead,_,_,h,_=>by cases h
 | .av _ _ _,z,_,h,hh=>by obtain rfl:=Option.some.inj h;exact⟨rfl,(Ab rfl).1 hh⟩
 | .rv _,z,_,h,hh=>by obtain rfl:=Option.some.inj h;exact⟨rfl,(Ab rfl).1 hh⟩
 | .vr _ _ _ _,z,_,h,hh=>by obtain rfl:=Option.some.inj h;exact⟨rfl,(Ab rfl).1 hh⟩
 | .vd _ _ _ _,z,_,h,hh=>by obtain rfl:=Option.some.inj h;exact⟨rfl,(Ab rfl).1 hh⟩
end
def St.ev (s:St) (G:Guards):Operand→Option A
 | .tmp t=>match s.get t with
  |some x=>x.strip G
  |none=>none
 | .const v=>some (.v v)
 | .func f=>some (.v (.func (.func f) #[] #[]))
 | .global _=>none
abbrev CJ:=Nat×A×Nat×Objs×List Prop
abbrev Tab:=FuncId→List A→Nat→Objs→Option CJ
def CallOk (P:Program) (f:FuncId) (args:List A) (nx:Nat) (o:Objs) (k:Nat) (x:A) (nx':Nat) (o':Objs):Prop:=
 ∀(F:Nat→Prop) (N:Nm) (R:World) (vs:List Value),HRel F N nx o R→HL F N nx R args vs→
  Calls P f vs.toArray R fun e R'=>∃y F' N',e=.returned y∧HRel F' N' nx' o' R'∧Step F N nx o R F' N' nx' o' R'∧Hv F' N' nx' R' x y∧(k≤1→Below R.heap.size R R')
structure Env where
 P:Program
 eq:TypeId→List Value→List Value→Option Bool
 C:Tab
 lit:Bool
 tc:TypeId→Option TC
 L:Nat→St→Option (Code×List Prop×List (Option Nat×Option Bool×St))
structure EnvOk (E:Env):Prop where
 suf:∀f args nx o k x nx' o' ps,E.C f args nx o=some (k,x,nx',o',ps)→∃d,o'=d++o
 wide:E.P.follows .mixedOrders=true
 eq:∀t xs ys b,E.eq t xs ys=some b→E.P.eqGuardType E.P.depth t=false∧∀R,(Op.equalIn 10000 t (.agg xs.toArray) (.agg ys.toArray)).run E.P R=.ok b R
 C:∀f args nx o k x nx' o' ps,E.C f args nx o=some (k,x,nx',o',ps)→(∀p∈ps,p)→CallOk E.P f args nx o k x nx' o'
 tc:∀t c,E.tc t=some c→∃i,E.P.info? t=some i∧i.size=size c∧0 <size c∧∃z,i.zero=some z∧∀(F:Nat→Prop) (N:Nm) (nx:Nat) (R:World),HL F N nx R (enc c (Aj c)) z.cells.toList
def Bae:A→Option Value
 | .v x=>some x
 | .agg xs=>match Akj xs with
  |some l=>some (.agg l.toArray)
  |none=>none
 |_=>none
theorem A4u {F:Nat→Prop} {N:Nm} {nx:Nat} {R:World} {x:A} {y u:Value} (h:Bae x=some u) (hh:Hv F N nx R x y):y=u:=by
 cases x<;>first|(cases h;done)|skip
 ·cases h;exact hh.v_inv
 ·rename_i xs
  have h':(match Akj xs with|some l=>some (Value.agg l.toArray)|none=>none)=some u:=h
  split at h'<;>first|(cases h';done)|skip
  rename_i l hl
  cases h'
  obtain⟨vs,rfl,h2⟩:=hh.agg_inv
  rw[Akk hl h2]
section
variable {E:Env} {Z:Base} {F:Nat→Prop} {N:Nm} {s:St} {a:Act} {R:World} {G:Guards}
theorem AQ (h:Rel Z F N s a R) (hG:KQ (A1 a) G) {o:Operand} {z:A} (ho:s.ev G o=some z):z.plain=true∧Hv F N s.nx R z (a.eval o):=by
 cases o with
 | tmp t=>
  unfold St.ev at ho
  cases hg:s.get t with
  |none=>simp only[hg] at ho;cases ho
  |some x=>
   simp only[hg] at ho
   exact Ad8 hG ho (h.slots t x hg)
 |const v=>obtain rfl:=Option.some.inj ho;exact⟨rfl,Hv.v _⟩
 |global g=>cases ho
 |func f=>obtain rfl:=Option.some.inj ho;exact⟨rfl,Hv.v _⟩
def St.raw (s:St) (G:Guards) (o:Operand):Option Value:=match s.ev G o with
 |some x=>Bae x
 |none=>none
theorem CS (h:Rel Z F N s a R) (hG:KQ (A1 a) G) {o:Operand} {y:Value} (ho:s.raw G o=some y):a.eval o=y:=by
 unfold St.raw at ho
 cases he:s.ev G o with
 |none=>rw[he] at ho;cases ho
 |some z=>
  rw[he] at ho
  exact A4u ho (AQ h hG he).2
def rho (s:St) (G:Guards) (o:Operand):Value:=match s.raw G o with
 |some y=>y
 |none=>undef
def V2 (s:St) (G:Guards):List Operand→Bool
 | []=>true
 |o::r=>match s.raw G o with
  |some _=>V2 s G r
  |none=>false
theorem Agh:∀{l:List Operand},V2 s G l=true→∀o∈l,∃y,s.raw G o=some y
 | [],_,o,ho=>by cases ho
 | x::r,h,o,ho=>by
  unfold V2 at h
  cases hx:s.raw G x with
  |none=>simp only[hx] at h;cases h
  |some y=>
   simp only[hx] at h
   rcases List.mem_cons.1 ho with rfl|ho
   ·exact⟨y,hx⟩
   ·exact Agh h o ho
def A0f (o:Op):Bool:=match o with| .select .. =>false|_=>true
def A0u (P:Program) (s:St) (G:Guards) (o:Oper):Option Value:=
 bif V2 s G o.op.operands.toList then
  bif A0f o.op then match ZW P (execOp (rho s G) o) with
   |some (.value y)=>some y
   |_=>none
  else none
 else none
theorem Avy (h:Rel Z F N s a R) (hG:KQ (A1 a) G) {o:Oper} (hr:V2 s G o.op.operands.toList=true) (hn:A0f o.op=true):execOp a.eval o=execOp (rho s G) o:=by
 refine execOp_congr o (fun cs b he=>by rw[he] at hn;cases hn) fun x hx=>?_
 obtain⟨y,hy⟩:=Agh hr x (by simpa using hx)
 rw[CS h hG hy]
 unfold rho
 rw[hy]
theorem Awv (h:Rel Z F N s a R) (hG:KQ (A1 a) G) {o:Oper} {y:Value} (he:A0u E.P s G o=some y) (R':World):(execOp a.eval o).run E.P R'=.ok (.value y) R':=by
 unfold A0u at he
 cases hr:V2 s G o.op.operands.toList with
 |false=>rw[hr] at he;cases he
 | true=>
  cases hn:A0f o.op with
  |false=>rw[hr,hn] at he;cases he
  | true=>
   rw[hr,hn] at he
   simp only[cond_true] at he
   rw[Avy h hG hr hn]
   cases hp:ZW E.P (execOp (rho s G) o) with
   |none=>rw[hp] at he;cases he
   |some z=>
    rw[hp] at he
    cases z<;>first|cases he|skip
    exact X5 hp R'
end
def Qu (f:Value→Value→Option Value):List Value→List Value→Option (List Value)
 | [],[]=>some []
 | x::xs,y::ys=>match f x y with
  |some z=>match Qu f xs ys with
   |some zs=>some (z::zs)
   |none=>none
  |none=>none
 |_,_=>none
def Aba:IntKind→IntKind→Bool
 | .i64,.i64=>true
 | .u8,.u8=>true
 | .u64,.u64=>true
 | .i32,.i32=>true
 | .u32,.u32=>true
 |_,_=>false
def slM (q:Bool):Option Addr→Nat→Nat→Option Addr→Nat→Nat→Value
 |none,0,0,none,0,0=> .slice none 0 0
 |A,n,c,A',n',c'=> .slice (bif q then A else A') (bif q then n else n') (bif q then c else c')
theorem A8f {q:Bool} {A A':Option Addr} {n c n' c':Nat}:slM q A n c A' n' c'=bif q then .slice A n c else .slice A' n' c':=by
 unfold slM
 split<;>cases q<;>rfl
def H1:Nat→Bool→Value→Value→Option Value
 |_,q,.bool x,.bool y=>some (.bool (bif q then x else y))
 |_,q,.int k x,.int k' y=>bif Aba k k' then some (.int k (bif q then x else y)) else none
 |_,q,.string x,.string y=>some (.string (bif q then x else y))
 |_,q,.slice A n c,.slice A' n' c'=>some (slM q A n c A' n' c')
 |d+1,q,.agg xs,.agg ys=>match Qu (H1 d q) xs.toList ys.toList with
  |some zs=>some (.agg zs.toArray)
  |none=>none
 |d+1,q,.tuple xs,.tuple ys=>match Qu (H1 d q) xs.toList ys.toList with
  |some zs=>some (.tuple zs.toArray)
  |none=>none
 |_,_,_,_=>none
theorem Abb {k k':IntKind} (h:Aba k k'=true):k=k':=by cases k<;>cases k'<;>first|rfl|cases h
theorem WL {f:Value→Value→Option Value} {q:Bool} (hf:∀x y z,f x y=some z→z=bif q then x else y):∀{xs ys zs:List Value},Qu f xs ys=some zs→zs=bif q then xs else ys
 | [],[],zs,h=>by
  obtain rfl:=Option.some.inj h
  cases q<;>rfl
 | [],_::_,_,h=>by cases h
 |_::_,[],_,h=>by cases h
 | x::xs,y::ys,zs,h=>by
  unfold Qu at h
  cases h1:f x y with
  |none=>simp only[h1] at h;cases h
  | some z=>
   cases h2:Qu f xs ys with
   |none=>simp only[h1,h2] at h;cases h
   |some zs'=>
    simp only[h1,h2] at h
    obtain rfl:=Option.some.inj h
    have e1:=hf x y z h1
    have e2:=WL hf h2
    rw[e1,e2]
    cases q<;>rfl
theorem WM:∀{d:Nat} {q:Bool} {x y z:Value},H1 d q x y=some z→z=bif q then x else y
 | d,q,x,y,z,h=>by
  cases x<;>cases y<;>first|(cases d<;>(unfold H1 at h;cases h);done)|skip
  case bool.bool a b=>unfold H1 at h;cases h;cases q<;>rfl
  case int.int k a k' b=>
   unfold H1 at h
   cases hk:Aba k k' with
   |false=>rw[hk] at h;cases h
   |true=>
    rw[hk] at h
    obtain rfl:=Abb hk
    cases h
    cases q<;>rfl
  case string.string a b=>unfold H1 at h;cases h;cases q<;>rfl
  case slice.slice A n c A' n' c'=>
   unfold H1 at h
   cases h
   exact A8f
  case agg.agg xs ys=>
   cases d with
   |zero=>unfold H1 at h;cases h
   | succ d=>
    unfold H1 at h
    cases hm:Qu (H1 d q) xs.toList ys.toList with
    |none=>simp only[hm] at h;cases h
    |some zs=>
     simp only[hm] at h
     obtain rfl:=Option.some.inj h
     rw[WL (fun x y z hz=>WM hz) hm]
     cases q<;>rfl
  case tuple.tuple xs ys=>
   cases d with
   |zero=>unfold H1 at h;cases h
   | succ d=>
    unfold H1 at h
    cases hm:Qu (H1 d q) xs.toList ys.toList with
    |none=>simp only[hm] at h;cases h
    |some zs=>
     simp only[hm] at h
     obtain rfl:=Option.some.inj h
     rw[WL (fun x y z hz=>WM hz) hm]
     cases q<;>rfl
def C7:Value→Bool
 | .slice none 0 0=>true
 |_=>false
def CL (f:A→A→A) (g:Bool):List A→List A→List A
 |x::xs,y::ys=>f x y::CL f g xs ys
 | [],[]=>[]
 |xs,ys=>bif g then xs else ys
def UX (g:Bool) (c:TC) (l:List (U c)) (c':TC) (l':List (U c')):A:=match TC.same c' c with
 |some h=> .sl c (bif g then l else IX h.down l')
 |none=> .dead
def Je:Nat→Bool→A→A→A
 |0,_,_,_=> .dead
 | d+1,g,x,y=>match x,y with
  | .v x,.v y=>match H1 2 g x y with
   |some z=> .v z
   |none=> .dead
  | .v x,.sl c l=>bif C7 x then .sl c (bif g then[] else l) else .dead
  | .sl c l,.v x=>bif C7 x then .sl c (bif g then l else[]) else .dead
  | .sl c l,.sl c' l'=>UX g c l c' l'
  | .sl c l,.nl=> .sl c (bif g then l else[])
  | .nl,.sl c l=> .sl c (bif g then[] else l)
  | .nl,.nl=> .nl
  | .nl,.v x=>bif C7 x then .nl else .dead
  | .v x,.nl=>bif C7 x then .nl else .dead
  | .own i o,.own j p=>bif Nat.beq i j then(bif Nat.beq o p then .own i o else .dead) else .dead
  | .sq i,.sq j=>bif Nat.beq i j then .sq i else .dead
  | .mp i,.mp j=>bif Nat.beq i j then .mp i else .dead
  | .agg xs,.agg ys=>MZ (CL (Je d g) g xs ys)
  | .tup xs,.tup ys=> .tup (CL (Je d g) g xs ys)
  | .fn f xs us,.fn h ys ws=>bif Nat.beq f h then .fn f (CL (Je d g) g xs ys) (CL (Je d g) g us ws) else .dead
  | .ref l,.ref l'=> .ref (CL (Je d g) g l l')
  | .av c n l,.av c' n' l'=>match TC.same c' c with
   |some h=>bif Nat.beq n n' then .av c n (bif g then l else IX h.down l') else .dead
   |none=> .dead
  |_,_=> .dead
def ML:A→A
 | .v (.agg xs)=> .agg (toL xs.toList)
 | .v (.tuple xs)=> .tup (toL xs.toList)
 | .v (.func (.func f) xs us)=> .fn f (toL xs.toList) (toL us.toList)
 |x=>x
def UI:A→A→Bool
 | .agg _,.v _=>true
 | .v _,.agg _=>true
 | .tup _,.v _=>true
 | .v _,.tup _=>true
 | .fn _ _ _,.v _=>true
 | .v _,.fn _ _ _=>true
 | .v (.func _ _ _),.v (.func _ _ _)=>true
 |_,_=>false
def Aby (g:Bool) (x y:A):A:=bif UI x y then Je 4 g (ML x) (ML y) else Je 4 g x y
section
variable {F:Nat→Prop} {N:Nm} {nx:Nat} {R:World} {g:Bool}
theorem N9 {cs:List A} {vs:List Value} (h:HL F N nx R cs vs):Hv F N nx R (MZ cs) (.agg vs.toArray):=by
 unfold MZ
 split
 ·rename_i xs hx
  rw[Akk hx h]
  exact Hv.v _
 ·exact Hv.of_agg h
theorem Fy {f:A→A→A} (hf:∀{x y v},Hv F N nx R (bif g then x else y) v→Hv F N nx R (f x y) v):∀{xs ys:List A} {vs:List Value},HL F N nx R (bif g then xs else ys) vs→HL F N nx R (CL f g xs ys) vs
 | [],[],_,h=>by unfold CL;cases g<;>exact h
 | [],_::_,_,h=>by unfold CL;exact h
 |_::_,[],_,h=>by unfold CL;exact h
 |x::xs,y::ys,vs,h=>by
  unfold CL
  have h':HL F N nx R ((bif g then x else y)::(bif g then xs else ys)) vs:=by cases g<;>exact h
  obtain⟨v,us,rfl,h2,h3⟩:=h'.inv
  exact HL.cons (hf h2) (Fy hf h3)
theorem HC.cons {x:A} {r:List A} {ad:Addr}:HC F N nx R (x::r) ad↔(∃y,R.cell? ad=some y∧Hv F N nx R x y)∧HC F N nx R r (ad.add 1):=by
 constructor
 ·intro h
  refine⟨by have:=h 0 x rfl;rwa[add_zero] at this,fun j y hy=>?_⟩
  have:=h (j+1) y hy
  rw[BU,Nat.add_comm 1 j]
  exact this
 ·intro⟨h1,h2⟩ j y hy
  cases j with
  |zero=>cases hy;rw[add_zero];exact h1
  |succ j=>
   have:=h2 j y hy
   rw[BU,Nat.add_comm 1 j] at this
   exact this
theorem HC.nil {ad:Addr}:HC F N nx R [] ad:=fun j x h=>by cases j<;>cases h
theorem XX {f:A→A→A} (hf:∀{x y v},Hv F N nx R (bif g then x else y) v→Hv F N nx R (f x y) v):∀{xs ys:List A} {ad:Addr},HC F N nx R (bif g then xs else ys) ad→HC F N nx R (CL f g xs ys) ad
 | [],[],_,h=>by unfold CL;cases g<;>exact h
 | [],_::_,_,h=>by unfold CL;exact h
 |_::_,[],_,h=>by unfold CL;exact h
 |x::xs,y::ys,ad,h=>by
  unfold CL
  have h':HC F N nx R ((bif g then x else y)::(bif g then xs else ys)) ad:=by cases g<;>exact h
  obtain⟨⟨u,h1,h2⟩,h3⟩:=HC.cons.1 h'
  exact HC.cons.2 ⟨⟨u,h1,hf h2⟩,XX hf h3⟩
theorem Fi {x:Value} (h:C7 x=true):x=.slice none 0 0:=by
 unfold C7 at h
 split at h
 ·rfl
 ·cases h
theorem Arp {c c':TC} {l:List (U c)} {l':List (U c')} {v:Value} (h:Hv F N nx R (bif g then .sl c l else .sl c' l') v):Hv F N nx R (UX g c l c' l') v:=by
 unfold UX
 split
 ·rename_i h1 _
  obtain⟨h1⟩:=h1
  subst h1
  cases g<;>exact h
 ·exact .dead _
theorem RA:∀(d:Nat) {x y:A} {v:Value},Hv F N nx R (bif g then x else y) v→Hv F N nx R (Je d g x y) v
 |0,_,_,_,_=> .dead _
 | d +1,x,y,v,h=>by
  have ih:∀{x y v},Hv F N nx R (bif g then x else y) v→Hv F N nx R (Je d g x y) v:=fun h=>RA d h
  unfold Je
  split
  ·rename_i x y
   split
   ·rename_i z hz
    rw[WM hz]
    cases g<;>exact h
   ·exact .dead _
  ·rename_i x c l
   cases hx:C7 x with
   |false=>exact .dead _
   |true=>
    obtain rfl:=Fi hx
    cases g with
    |false=>exact h
    |true=>exact Hv.sl_nil h.v_inv
  ·rename_i c l x
   cases hx:C7 x with
   |false=>exact .dead _
   |true=>
    obtain rfl:=Fi hx
    cases g with
    |true=>exact h
    |false=>exact Hv.sl_nil h.v_inv
  ·exact Arp h
  ·cases g with
   |true=>exact h
   |false=>obtain⟨a,e⟩:=h.nl_inv;exact Hv.sl_nil e
  ·cases g with
   |false=>exact h
   |true=>obtain⟨a,e⟩:=h.nl_inv;exact Hv.sl_nil e
  ·cases g<;>exact h
  ·rename_i x
   cases hx:C7 x with
   |false=>exact .dead _
   |true=>
    obtain rfl:=Fi hx
    cases g with
    |true=>exact h
    |false=>rw[h.v_inv];exact .nl _
  ·rename_i x
   cases hx:C7 x with
   |false=>exact .dead _
   |true=>
    obtain rfl:=Fi hx
    cases g with
    |false=>exact h
    |true=>rw[h.v_inv];exact .nl _
  ·rename_i i o j p
   cases h1:Nat.beq i j with
   |false=>exact .dead _
   | true=>
    cases h2:Nat.beq o p with
    |false=>exact .dead _
    |true=>
     obtain rfl:=Nat.eq_of_beq_eq_true h1
     obtain rfl:=Nat.eq_of_beq_eq_true h2
     cases g<;>exact h
  ·rename_i i j
   cases h1:Nat.beq i j with
   |false=>exact .dead _
   |true=>
    obtain rfl:=Nat.eq_of_beq_eq_true h1
    cases g<;>exact h
  ·rename_i i j
   cases h1:Nat.beq i j with
   |false=>exact .dead _
   |true=>
    obtain rfl:=Nat.eq_of_beq_eq_true h1
    cases g<;>exact h
  ·rename_i xs ys
   have h':Hv F N nx R (.agg (bif g then xs else ys)) v:=by cases g<;>exact h
   obtain⟨vs,rfl,h2⟩:=h'.agg_inv
   exact N9 (Fy ih h2)
  ·rename_i xs ys
   have h':Hv F N nx R (.tup (bif g then xs else ys)) v:=by cases g<;>exact h
   obtain⟨vs,rfl,h2⟩:=h'.tup_inv
   exact Hv.of_tup (Fy ih h2)
  ·rename_i f xs us h0 ys ws
   cases h1:Nat.beq f h0 with
   |false=>exact .dead _
   |true=>
    obtain rfl:=Nat.eq_of_beq_eq_true h1
    have h':Hv F N nx R (.fn f (bif g then xs else ys) (bif g then us else ws)) v:=by cases g<;>exact h
    obtain⟨vs,ks,rfl,h2,h3⟩:=h'.fn_inv
    exact Hv.of_fn (Fy ih h2) (Fy ih h3)
  ·rename_i l l'
   have h':Hv F N nx R (.ref (bif g then l else l')) v:=by cases g<;>exact h
   obtain⟨ad,rfl,h2,h3⟩:=h'.ref_inv
   exact Hv.of_ref h2 (XX ih h3)
  ·rename_i c n l c' n' l'
   split
   ·rename_i hh _
    obtain⟨hh⟩:=hh
    subst hh
    cases hb:Nat.beq n n' with
    |false=>exact .dead _
    |true=>
     obtain rfl:=Nat.eq_of_beq_eq_true hb
     cases g<;>exact h
   ·exact .dead _
  ·exact .dead _
theorem Ahz {x:A} {v:Value} (h:Hv F N nx R x v):Hv F N nx R (ML x) v:=by
 unfold ML
 split
 ·rename_i xs
  rw[h.v_inv]
  have:=Hv.of_agg (HL.toL (F:=F) (N:=N) (nx:=nx) (R:=R) xs.toList)
  simpa using this
 ·rename_i xs
  rw[h.v_inv]
  have:=Hv.of_tup (HL.toL (F:=F) (N:=N) (nx:=nx) (R:=R) xs.toList)
  simpa using this
 ·rename_i f xs us
  rw[h.v_inv]
  have:=Hv.of_fn (f:=f) (HL.toL (F:=F) (N:=N) (nx:=nx) (R:=R) xs.toList) (HL.toL (F:=F) (N:=N) (nx:=nx) (R:=R) us.toList)
  simpa using this
 ·exact h
theorem NF {x y:A} {v:Value} (h:Hv F N nx R (bif g then x else y) v):Hv F N nx R (Aby g x y) v:=by
 unfold Aby
 cases UI x y with
 |false=>exact RA 4 h
 |true=>exact RA 4 (by cases g<;>exact Ahz h)
end
def LW (b:Bool):Operand→Guards→Guards
 | .tmp u,G=>(u,b)::G
 |_,G=>G
theorem OD {a:Act} {G:Guards} {b:Bool} {c:Operand} (hG:KQ (A1 a) G) (hc:a.eval c=.bool b):KQ (A1 a) (LW b c G):=by
 cases c<;>first|exact hG|skip
 rename_i u
 intro k d hk
 unfold LW inG at hk
 cases hu:Nat.beq u k with
 |false=>rw[hu] at hk;exact hG k d hk
 |true=>
  rw[hu] at hk
  simp only[cond_true] at hk
  obtain rfl:=Nat.eq_of_beq_eq_true hu
  cases hb:Ael b d with
  |false=>rw[hb] at hk;exact hG _ d hk
  |true=>obtain rfl:=Rn hb;exact hc
def Aqr:Operand→Option Bool
 | .const (.bool b)=>some b
 |_=>none
def A0n (s:St) (G:Guards) (c x y:Operand):Option A:=
 match s.raw G c with
 | some (.bool q)=>match s.ev (LW true c G) x,s.ev (LW false c G) y with
  |some x',some y'=>match Aqr x,Aqr y,x',y' with
   |some true,_,_,.v (.bool p)=>some (.v (.bool (q||p)))
   |_,some false,.v (.bool p),_=>some (.v (.bool (q&&p)))
   |_,_,_,_=>some (Aby q x' y')
  |_,_=>none
 |_=>none
theorem Ane {s:St} {G:Guards} {x:Operand} {b:Bool} {v:A} (h:Aqr x=some b) (hr:s.ev G x=some v):v=.v (.bool b):=by
 match x,h with
 | .const (.bool c),h'=>
  obtain rfl:c=b:=Option.some.inj h'
  exact(Option.some.inj hr).symm
theorem A0o {Z:Base} {F:Nat→Prop} {N:Nm} {s:St} {a:Act} {R:World} {G:Guards} (h:Rel Z F N s a R) (hG:KQ (A1 a) G) {c x y:Operand} {z:A} (he:A0n s G c x y=some z):
  ∃q,a.eval c=.bool q∧Hv F N s.nx R z (if q then a.eval x else a.eval y):=by
 unfold A0n at he
 cases hc:s.raw G c with
 |none=>simp only[hc] at he;cases he
 | some cv=>
  cases cv<;>first|(simp only[hc] at he;cases he;done)|skip
  rename_i q
  have hq:=CS h hG hc
  refine⟨q,hq,?_⟩
  simp only[hc] at he
  cases hx:s.ev (LW true c G) x with
  |none=>simp only[hx] at he;cases he
  | some x'=>
   cases hy:s.ev (LW false c G) y with
   |none=>simp only[hx,hy] at he;cases he
   | some y'=>
    simp only[hx,hy] at he
    have hv:Hv F N s.nx R (bif q then x' else y') (if q then a.eval x else a.eval y):=by
     cases q with
     |true=>exact(AQ h (OD hG hq) hx).2
     |false=>exact(AQ h (OD hG hq) hy).2
    split at he
    ·rename_i h1
     have:=Ane h1 hx
     subst this
     obtain rfl:=Option.some.inj he
     cases q<;>exact hv
    ·rename_i h1 _
     have:=Ane h1 hy
     subst this
     obtain rfl:=Option.some.inj he
     cases q<;>first|(simp only[Bool.false_and];exact hv)|(simp only[Bool.true_and];exact hv)
    ·obtain rfl:=Option.some.inj he
     exact NF hv
end Go.Proofs.YtifkbgkbajncjaaDoor
namespace Go.Proofs.YtifkbgkbajncjaaDoor
open Go.RowKit
section
variable (F:Nat→Prop) (N:Nm) (nx:Nat) (R:World)
def HLs (l l':List A):Prop:=∀vs,HL F N nx R l vs→HL F N nx R l' vs
variable {F:Nat→Prop} {N:Nm} {nx:Nat} {R:World}
theorem HLs.refl (l:List A):HLs F N nx R l l:=fun _ h=>h
theorem HLs.cons {l r r':List A} {x:A} (h:HLs F N nx R l (x::r)) (k:HLs F N nx R r r'):HLs F N nx R l (x::r'):=fun vs hv=>by
 obtain⟨v,us,rfl,h1,h2⟩:=(h vs hv).inv
 exact HL.cons h1 (k us h2)
theorem Ah {α β:Type} {g:Got α} {f:α→List A→List Prop→Option β} {y:β} (h:g.thn f=some y):∃x r ps,g=some (x,r,ps)∧f x r ps=some y:=by
 unfold Got.thn at h
 split at h<;>first|(cases h;done)|skip
 exact⟨_,_,_,rfl,h⟩
theorem AZ {α:Type} {r:List A} {x y:α} {ps qs:List Prop} (h:J3 r x ps=some (y,qs)):r=[]∧x=y∧ps=qs:=by
 unfold J3 at h
 split at h<;>first|(cases h;done)|skip
 cases h
 exact⟨rfl,rfl,rfl⟩
theorem Bi {l r:List A} {ps qs:List Prop} {n:Int} (h:gI l ps=some (n,r,qs)) (hq:∀q∈qs,q):(∀q∈ps,q)∧HLs F N nx R l (.v (.int .i64 n)::r):=by
 obtain⟨rfl,rfl⟩:=A9m h;exact⟨hq,.refl _⟩
theorem A9r {l r:List A} {ps qs:List Prop} {n:Int} (h:gW l ps=some (n,r,qs)) (hq:∀q∈qs,q):(∀q∈ps,q)∧HLs F N nx R l (.v (.int .u32 n)::r):=by
 obtain⟨rfl,rfl⟩:=A9s h;exact⟨hq,.refl _⟩
theorem Ag2 {l r:List A} {ps qs:List Prop} {n:Bool} (h:gB l ps=some (n,r,qs)) (hq:∀q∈qs,q):(∀q∈ps,q)∧HLs F N nx R l (.v (.bool n)::r):=by
 obtain⟨rfl,rfl⟩:=A9l h;exact⟨hq,.refl _⟩
theorem Ie {l r:List A} {ps qs:List Prop} {n:ByteArray} (h:gT l ps=some (n,r,qs)) (hq:∀q∈qs,q):(∀q∈ps,q)∧HLs F N nx R l (.v (.string n)::r):=by
 obtain⟨rfl,rfl⟩:=A9p h;exact⟨hq,.refl _⟩
theorem Azm {l r:List A} {ps qs:List Prop} {n:TSl} (h:gS l ps=some (n,r,qs)) (hq:∀q∈qs,q):(∀q∈ps,q)∧HLs F N nx R l (.v (.slice n.a n.n n.c)::r):=by
 obtain⟨rfl,rfl⟩:=A9o h;exact⟨hq,.refl _⟩
theorem EY {l r:List A} {ps qs:List Prop} {n:UInt8} (h:gU l ps=some (n,r,qs)) (hq:∀q∈qs,q):(∀q∈ps,q)∧HLs F N nx R l (.v (A4 n)::r):=by
 obtain⟨rfl,h2⟩:=A9q h hq;exact⟨h2,.refl _⟩
theorem IY {c:TC} {l r:List A} {ps qs:List Prop} {n:List (U c)} (h:gL c l ps=some (n,r,qs)) (hq:∀q∈qs,q):(∀q∈ps,q)∧HLs F N nx R l (.sl c n::r):=by
 obtain⟨h1,rfl⟩:=A9n h
 refine⟨hq,?_⟩
 rcases h1 with rfl|⟨rfl|rfl,rfl⟩
 ·exact .refl _
 ·intro vs hv
  obtain⟨v,us,rfl,h1,h2⟩:=hv.inv
  exact HL.cons (Hv.sl_nil (a:=none) h1.v_inv) h2
 ·intro vs hv
  obtain⟨v,us,rfl,h1,h2⟩:=hv.inv
  obtain⟨a,e⟩:=h1.nl_inv
  exact HL.cons (Hv.sl_nil e) h2
theorem Ti {c:TC} {cs:List A} {d:U c} {ps:List Prop} (h:MX c cs=some (d,ps)) (hp:∀p∈ps,p):HLs F N nx R cs (enc c d):=by
 cases c with
 |u8=>
  unfold MX at h
  obtain⟨x0,r0,p0,h0,h⟩:=Ah h
  obtain⟨e0,e1,e2⟩:=AZ h
  subst e0 e1 e2
  obtain⟨hp,s0⟩:=EY (F:=F) (N:=N) (nx:=nx) (R:=R) h0 hp
  exact s0.cons (.refl _)
 |i64=>
  unfold MX at h
  obtain⟨x0,r0,p0,h0,h⟩:=Ah h
  obtain⟨e0,e1,e2⟩:=AZ h
  subst e0 e1 e2
  obtain⟨hp,s0⟩:=Bi (F:=F) (N:=N) (nx:=nx) (R:=R) h0 hp
  exact s0.cons (.refl _)
 |u32=>
  unfold MX at h
  obtain⟨x0,r0,p0,h0,h⟩:=Ah h
  obtain⟨e0,e1,e2⟩:=AZ h
  subst e0 e1 e2
  obtain⟨hp,s0⟩:=A9r (F:=F) (N:=N) (nx:=nx) (R:=R) h0 hp
  exact s0.cons (.refl _)
 |bool=>
  unfold MX at h
  obtain⟨x0,r0,p0,h0,h⟩:=Ah h
  obtain⟨e0,e1,e2⟩:=AZ h
  subst e0 e1 e2
  obtain⟨hp,s0⟩:=Ag2 (F:=F) (N:=N) (nx:=nx) (R:=R) h0 hp
  exact s0.cons (.refl _)
 |str=>
  unfold MX at h
  obtain⟨x0,r0,p0,h0,h⟩:=Ah h
  obtain⟨e0,e1,e2⟩:=AZ h
  subst e0 e1 e2
  obtain⟨hp,s0⟩:=Ie (F:=F) (N:=N) (nx:=nx) (R:=R) h0 hp
  exact s0.cons (.refl _)
 |rsl=>
  unfold MX at h
  obtain⟨x0,r0,p0,h0,h⟩:=Ah h
  obtain⟨e0,e1,e2⟩:=AZ h
  subst e0 e1 e2
  obtain⟨hp,s0⟩:=Azm (F:=F) (N:=N) (nx:=nx) (R:=R) h0 hp
  exact s0.cons (.refl _)
 |vec=>
  unfold MX at h
  obtain⟨x0,r0,p0,h0,h⟩:=Ah h
  obtain⟨x1,r1,p1,h1,h⟩:=Ah h
  obtain⟨e0,e1,e2⟩:=AZ h
  subst e0 e1 e2
  obtain⟨hp,s1⟩:=Bi (F:=F) (N:=N) (nx:=nx) (R:=R) h1 hp
  obtain⟨hp,s0⟩:=Bi (F:=F) (N:=N) (nx:=nx) (R:=R) h0 hp
  exact s0.cons (s1.cons (.refl _))
 |stamp=>
  unfold MX at h
  obtain⟨x0,r0,p0,h0,h⟩:=Ah h
  obtain⟨x1,r1,p1,h1,h⟩:=Ah h
  obtain⟨e0,e1,e2⟩:=AZ h
  subst e0 e1 e2
  obtain⟨hp,s1⟩:=Bi (F:=F) (N:=N) (nx:=nx) (R:=R) h1 hp
  obtain⟨hp,s0⟩:=Bi (F:=F) (N:=N) (nx:=nx) (R:=R) h0 hp
  exact s0.cons (s1.cons (.refl _))
 |cell=>
  unfold MX at h
  obtain⟨x0,r0,p0,h0,h⟩:=Ah h
  obtain⟨x1,r1,p1,h1,h⟩:=Ah h
  obtain⟨x2,r2,p2,h2,h⟩:=Ah h
  obtain⟨x3,r3,p3,h3,h⟩:=Ah h
  obtain⟨x4,r4,p4,h4,h⟩:=Ah h
  obtain⟨x5,r5,p5,h5,h⟩:=Ah h
  obtain⟨x6,r6,p6,h6,h⟩:=Ah h
  obtain⟨x7,r7,p7,h7,h⟩:=Ah h
  obtain⟨e0,e1,e2⟩:=AZ h
  subst e0 e1 e2
  obtain⟨hp,s7⟩:=Bi (F:=F) (N:=N) (nx:=nx) (R:=R) h7 hp
  obtain⟨hp,s6⟩:=Bi (F:=F) (N:=N) (nx:=nx) (R:=R) h6 hp
  obtain⟨hp,s5⟩:=Ie (F:=F) (N:=N) (nx:=nx) (R:=R) h5 hp
  obtain⟨hp,s4⟩:=Ag2 (F:=F) (N:=N) (nx:=nx) (R:=R) h4 hp
  obtain⟨hp,s3⟩:=Bi (F:=F) (N:=N) (nx:=nx) (R:=R) h3 hp
  obtain⟨hp,s2⟩:=Bi (F:=F) (N:=N) (nx:=nx) (R:=R) h2 hp
  obtain⟨hp,s1⟩:=Bi (F:=F) (N:=N) (nx:=nx) (R:=R) h1 hp
  obtain⟨hp,s0⟩:=Bi (F:=F) (N:=N) (nx:=nx) (R:=R) h0 hp
  exact s0.cons (s1.cons (s2.cons (s3.cons (s4.cons (s5.cons (s6.cons (s7.cons (.refl _))))))))
 |row=>
  unfold MX at h
  obtain⟨x0,r0,p0,h0,h⟩:=Ah h
  obtain⟨x1,r1,p1,h1,h⟩:=Ah h
  obtain⟨e0,e1,e2⟩:=AZ h
  subst e0 e1 e2
  obtain⟨hp,s1⟩:=IY (F:=F) (N:=N) (nx:=nx) (R:=R) h1 hp
  obtain⟨hp,s0⟩:=Ie (F:=F) (N:=N) (nx:=nx) (R:=R) h0 hp
  exact s0.cons (s1.cons (.refl _))
 |group=>
  unfold MX at h
  obtain⟨x0,r0,p0,h0,h⟩:=Ah h
  obtain⟨x1,r1,p1,h1,h⟩:=Ah h
  obtain⟨e0,e1,e2⟩:=AZ h
  subst e0 e1 e2
  obtain⟨hp,s1⟩:=Bi (F:=F) (N:=N) (nx:=nx) (R:=R) h1 hp
  obtain⟨hp,s0⟩:=Ie (F:=F) (N:=N) (nx:=nx) (R:=R) h0 hp
  exact s0.cons (s1.cons (.refl _))
 |write=>
  unfold MX at h
  obtain⟨x0,r0,p0,h0,h⟩:=Ah h
  obtain⟨x1,r1,p1,h1,h⟩:=Ah h
  obtain⟨x2,r2,p2,h2,h⟩:=Ah h
  obtain⟨x3,r3,p3,h3,h⟩:=Ah h
  obtain⟨e0,e1,e2⟩:=AZ h
  subst e0 e1 e2
  obtain⟨hp,s3⟩:=Ie (F:=F) (N:=N) (nx:=nx) (R:=R) h3 hp
  obtain⟨hp,s2⟩:=Ag2 (F:=F) (N:=N) (nx:=nx) (R:=R) h2 hp
  obtain⟨hp,s1⟩:=Bi (F:=F) (N:=N) (nx:=nx) (R:=R) h1 hp
  obtain⟨hp,s0⟩:=Ie (F:=F) (N:=N) (nx:=nx) (R:=R) h0 hp
  exact s0.cons (s1.cons (s2.cons (s3.cons (.refl _))))
 |change=>
  unfold MX at h
  obtain⟨x0,r0,p0,h0,h⟩:=Ah h
  obtain⟨x1,r1,p1,h1,h⟩:=Ah h
  obtain⟨x2,r2,p2,h2,h⟩:=Ah h
  obtain⟨x3,r3,p3,h3,h⟩:=Ah h
  obtain⟨x4,r4,p4,h4,h⟩:=Ah h
  obtain⟨x5,r5,p5,h5,h⟩:=Ah h
  obtain⟨x6,r6,p6,h6,h⟩:=Ah h
  obtain⟨e0,e1,e2⟩:=AZ h
  subst e0 e1 e2
  obtain⟨hp,s6⟩:=IY (F:=F) (N:=N) (nx:=nx) (R:=R) h6 hp
  obtain⟨hp,s5⟩:=Bi (F:=F) (N:=N) (nx:=nx) (R:=R) h5 hp
  obtain⟨hp,s4⟩:=Bi (F:=F) (N:=N) (nx:=nx) (R:=R) h4 hp
  obtain⟨hp,s3⟩:=Bi (F:=F) (N:=N) (nx:=nx) (R:=R) h3 hp
  obtain⟨hp,s2⟩:=Bi (F:=F) (N:=N) (nx:=nx) (R:=R) h2 hp
  obtain⟨hp,s1⟩:=Bi (F:=F) (N:=N) (nx:=nx) (R:=R) h1 hp
  obtain⟨hp,s0⟩:=Bi (F:=F) (N:=N) (nx:=nx) (R:=R) h0 hp
  exact s0.cons (s1.cons (s2.cons (s3.cons (s4.cons (s5.cons (s6.cons (.refl _)))))))
 |field=>
  unfold MX at h
  obtain⟨x0,r0,p0,h0,h⟩:=Ah h
  obtain⟨x1,r1,p1,h1,h⟩:=Ah h
  obtain⟨e0,e1,e2⟩:=AZ h
  subst e0 e1 e2
  obtain⟨hp,s1⟩:=Ie (F:=F) (N:=N) (nx:=nx) (R:=R) h1 hp
  obtain⟨hp,s0⟩:=Bi (F:=F) (N:=N) (nx:=nx) (R:=R) h0 hp
  exact s0.cons (s1.cons (.refl _))
 |view=>
  unfold MX at h
  obtain⟨x0,r0,p0,h0,h⟩:=Ah h
  obtain⟨x1,r1,p1,h1,h⟩:=Ah h
  obtain⟨e0,e1,e2⟩:=AZ h
  subst e0 e1 e2
  obtain⟨hp,s1⟩:=IY (F:=F) (N:=N) (nx:=nx) (R:=R) h1 hp
  obtain⟨hp,s0⟩:=Ie (F:=F) (N:=N) (nx:=nx) (R:=R) h0 hp
  exact s0.cons (s1.cons (.refl _))
 |told=>
  unfold MX at h
  obtain⟨x0,r0,p0,h0,h⟩:=Ah h
  obtain⟨x1,r1,p1,h1,h⟩:=Ah h
  obtain⟨x2,r2,p2,h2,h⟩:=Ah h
  obtain⟨e0,e1,e2⟩:=AZ h
  subst e0 e1 e2
  obtain⟨hp,s2⟩:=Bi (F:=F) (N:=N) (nx:=nx) (R:=R) h2 hp
  obtain⟨hp,s1⟩:=Bi (F:=F) (N:=N) (nx:=nx) (R:=R) h1 hp
  obtain⟨hp,s0⟩:=Bi (F:=F) (N:=N) (nx:=nx) (R:=R) h0 hp
  exact s0.cons (s1.cons (s2.cons (.refl _)))
 |act=>
  unfold MX at h
  obtain⟨x0,r0,p0,h0,h⟩:=Ah h
  obtain⟨x1,r1,p1,h1,h⟩:=Ah h
  obtain⟨x2,r2,p2,h2,h⟩:=Ah h
  obtain⟨x3,r3,p3,h3,h⟩:=Ah h
  obtain⟨x4,r4,p4,h4,h⟩:=Ah h
  obtain⟨e0,e1,e2⟩:=AZ h
  subst e0 e1 e2
  obtain⟨hp,s4⟩:=Bi (F:=F) (N:=N) (nx:=nx) (R:=R) h4 hp
  obtain⟨hp,s3⟩:=Ie (F:=F) (N:=N) (nx:=nx) (R:=R) h3 hp
  obtain⟨hp,s2⟩:=IY (F:=F) (N:=N) (nx:=nx) (R:=R) h2 hp
  obtain⟨hp,s1⟩:=Ie (F:=F) (N:=N) (nx:=nx) (R:=R) h1 hp
  obtain⟨hp,s0⟩:=Bi (F:=F) (N:=N) (nx:=nx) (R:=R) h0 hp
  exact s0.cons (s1.cons (s2.cons (s3.cons (s4.cons (.refl _)))))
 |front=>
  unfold MX at h
  obtain⟨x0,r0,p0,h0,h⟩:=Ah h
  obtain⟨x1,r1,p1,h1,h⟩:=Ah h
  obtain⟨x2,r2,p2,h2,h⟩:=Ah h
  obtain⟨x3,r3,p3,h3,h⟩:=Ah h
  obtain⟨x4,r4,p4,h4,h⟩:=Ah h
  obtain⟨e0,e1,e2⟩:=AZ h
  subst e0 e1 e2
  obtain⟨hp,s4⟩:=Bi (F:=F) (N:=N) (nx:=nx) (R:=R) h4 hp
  obtain⟨hp,s3⟩:=Bi (F:=F) (N:=N) (nx:=nx) (R:=R) h3 hp
  obtain⟨hp,s2⟩:=Bi (F:=F) (N:=N) (nx:=nx) (R:=R) h2 hp
  obtain⟨hp,s1⟩:=Bi (F:=F) (N:=N) (nx:=nx) (R:=R) h1 hp
  obtain⟨hp,s0⟩:=Bi (F:=F) (N:=N) (nx:=nx) (R:=R) h0 hp
  exact s0.cons (s1.cons (s2.cons (s3.cons (s4.cons (.refl _)))))
 |ask=>
  unfold MX at h
  obtain⟨x0,r0,p0,h0,h⟩:=Ah h
  obtain⟨x1,r1,p1,h1,h⟩:=Ah h
  obtain⟨x2,r2,p2,h2,h⟩:=Ah h
  obtain⟨x3,r3,p3,h3,h⟩:=Ah h
  obtain⟨x4,r4,p4,h4,h⟩:=Ah h
  obtain⟨x5,r5,p5,h5,h⟩:=Ah h
  obtain⟨e0,e1,e2⟩:=AZ h
  subst e0 e1 e2
  obtain⟨hp,s5⟩:=Ie (F:=F) (N:=N) (nx:=nx) (R:=R) h5 hp
  obtain⟨hp,s4⟩:=Ag2 (F:=F) (N:=N) (nx:=nx) (R:=R) h4 hp
  obtain⟨hp,s3⟩:=Bi (F:=F) (N:=N) (nx:=nx) (R:=R) h3 hp
  obtain⟨hp,s2⟩:=Bi (F:=F) (N:=N) (nx:=nx) (R:=R) h2 hp
  obtain⟨hp,s1⟩:=Bi (F:=F) (N:=N) (nx:=nx) (R:=R) h1 hp
  obtain⟨hp,s0⟩:=Bi (F:=F) (N:=N) (nx:=nx) (R:=R) h0 hp
  exact s0.cons (s1.cons (s2.cons (s3.cons (s4.cons (s5.cons (.refl _))))))
 |two=>
  unfold MX at h
  obtain⟨x0,r0,p0,h0,h⟩:=Ah h
  obtain⟨x1,r1,p1,h1,h⟩:=Ah h
  obtain⟨x2,r2,p2,h2,h⟩:=Ah h
  obtain⟨x3,r3,p3,h3,h⟩:=Ah h
  obtain⟨x4,r4,p4,h4,h⟩:=Ah h
  obtain⟨x5,r5,p5,h5,h⟩:=Ah h
  obtain⟨x6,r6,p6,h6,h⟩:=Ah h
  obtain⟨x7,r7,p7,h7,h⟩:=Ah h
  obtain⟨x8,r8,p8,h8,h⟩:=Ah h
  obtain⟨x9,r9,p9,h9,h⟩:=Ah h
  obtain⟨x10,r10,p10,h10,h⟩:=Ah h
  obtain⟨e0,e1,e2⟩:=AZ h
  subst e0 e1 e2
  obtain⟨hp,s10⟩:=Bi (F:=F) (N:=N) (nx:=nx) (R:=R) h10 hp
  obtain⟨hp,s9⟩:=Bi (F:=F) (N:=N) (nx:=nx) (R:=R) h9 hp
  obtain⟨hp,s8⟩:=Ie (F:=F) (N:=N) (nx:=nx) (R:=R) h8 hp
  obtain⟨hp,s7⟩:=Ag2 (F:=F) (N:=N) (nx:=nx) (R:=R) h7 hp
  obtain⟨hp,s6⟩:=Bi (F:=F) (N:=N) (nx:=nx) (R:=R) h6 hp
  obtain⟨hp,s5⟩:=Bi (F:=F) (N:=N) (nx:=nx) (R:=R) h5 hp
  obtain⟨hp,s4⟩:=Bi (F:=F) (N:=N) (nx:=nx) (R:=R) h4 hp
  obtain⟨hp,s3⟩:=Bi (F:=F) (N:=N) (nx:=nx) (R:=R) h3 hp
  obtain⟨hp,s2⟩:=Bi (F:=F) (N:=N) (nx:=nx) (R:=R) h2 hp
  obtain⟨hp,s1⟩:=IY (F:=F) (N:=N) (nx:=nx) (R:=R) h1 hp
  obtain⟨hp,s0⟩:=Ie (F:=F) (N:=N) (nx:=nx) (R:=R) h0 hp
  exact s0.cons (s1.cons (s2.cons (s3.cons (s4.cons (s5.cons (s6.cons (s7.cons (s8.cons (s9.cons (s10.cons (.refl _)))))))))))
 |note=>
  unfold MX at h
  obtain⟨x0,r0,p0,h0,h⟩:=Ah h
  obtain⟨x1,r1,p1,h1,h⟩:=Ah h
  obtain⟨e0,e1,e2⟩:=AZ h
  subst e0 e1 e2
  obtain⟨hp,s1⟩:=Ie (F:=F) (N:=N) (nx:=nx) (R:=R) h1 hp
  obtain⟨hp,s0⟩:=Ie (F:=F) (N:=N) (nx:=nx) (R:=R) h0 hp
  exact s0.cons (s1.cons (.refl _))
 |packet=>
  unfold MX at h
  obtain⟨x0,r0,p0,h0,h⟩:=Ah h
  obtain⟨x1,r1,p1,h1,h⟩:=Ah h
  obtain⟨e0,e1,e2⟩:=AZ h
  subst e0 e1 e2
  obtain⟨hp,s1⟩:=Ie (F:=F) (N:=N) (nx:=nx) (R:=R) h1 hp
  obtain⟨hp,s0⟩:=Bi (F:=F) (N:=N) (nx:=nx) (R:=R) h0 hp
  exact s0.cons (s1.cons (.refl _))
 |place=>
  unfold MX at h
  obtain⟨x0,r0,p0,h0,h⟩:=Ah h
  obtain⟨x1,r1,p1,h1,h⟩:=Ah h
  obtain⟨e0,e1,e2⟩:=AZ h
  subst e0 e1 e2
  obtain⟨hp,s1⟩:=Bi (F:=F) (N:=N) (nx:=nx) (R:=R) h1 hp
  obtain⟨hp,s0⟩:=Ie (F:=F) (N:=N) (nx:=nx) (R:=R) h0 hp
  exact s0.cons (s1.cons (.refl _))
 |ask3=>
  unfold MX at h
  obtain⟨x0,r0,p0,h0,h⟩:=Ah h
  obtain⟨x1,r1,p1,h1,h⟩:=Ah h
  obtain⟨x2,r2,p2,h2,h⟩:=Ah h
  obtain⟨x3,r3,p3,h3,h⟩:=Ah h
  obtain⟨e0,e1,e2⟩:=AZ h
  subst e0 e1 e2
  obtain⟨hp,s3⟩:=Bi (F:=F) (N:=N) (nx:=nx) (R:=R) h3 hp
  obtain⟨hp,s2⟩:=Ie (F:=F) (N:=N) (nx:=nx) (R:=R) h2 hp
  obtain⟨hp,s1⟩:=Ie (F:=F) (N:=N) (nx:=nx) (R:=R) h1 hp
  obtain⟨hp,s0⟩:=Ie (F:=F) (N:=N) (nx:=nx) (R:=R) h0 hp
  exact s0.cons (s1.cons (s2.cons (s3.cons (.refl _))))
 |three=>
  unfold MX at h
  obtain⟨x0,r0,p0,h0,h⟩:=Ah h
  obtain⟨x1,r1,p1,h1,h⟩:=Ah h
  obtain⟨x2,r2,p2,h2,h⟩:=Ah h
  obtain⟨e0,e1,e2⟩:=AZ h
  subst e0 e1 e2
  obtain⟨hp,s2⟩:=IY (F:=F) (N:=N) (nx:=nx) (R:=R) h2 hp
  obtain⟨hp,s1⟩:=IY (F:=F) (N:=N) (nx:=nx) (R:=R) h1 hp
  obtain⟨hp,s0⟩:=IY (F:=F) (N:=N) (nx:=nx) (R:=R) h0 hp
  exact s0.cons (s1.cons (s2.cons (.refl _)))
 |block=>
  unfold MX at h
  obtain⟨x0,r0,p0,h0,h⟩:=Ah h
  obtain⟨x1,r1,p1,h1,h⟩:=Ah h
  obtain⟨e0,e1,e2⟩:=AZ h
  subst e0 e1 e2
  obtain⟨hp,s1⟩:=IY (F:=F) (N:=N) (nx:=nx) (R:=R) h1 hp
  obtain⟨hp,s0⟩:=IY (F:=F) (N:=N) (nx:=nx) (R:=R) h0 hp
  exact s0.cons (s1.cons (.refl _))
 |rawb=>
  unfold MX at h
  obtain⟨x0,r0,p0,h0,h⟩:=Ah h
  obtain⟨x1,r1,p1,h1,h⟩:=Ah h
  obtain⟨e0,e1,e2⟩:=AZ h
  subst e0 e1 e2
  obtain⟨hp,s1⟩:=Azm (F:=F) (N:=N) (nx:=nx) (R:=R) h1 hp
  obtain⟨hp,s0⟩:=Azm (F:=F) (N:=N) (nx:=nx) (R:=R) h0 hp
  exact s0.cons (s1.cons (.refl _))
 |msg=>
  unfold MX at h
  obtain⟨x0,r0,p0,h0,h⟩:=Ah h
  obtain⟨x1,r1,p1,h1,h⟩:=Ah h
  obtain⟨x2,r2,p2,h2,h⟩:=Ah h
  obtain⟨x3,r3,p3,h3,h⟩:=Ah h
  obtain⟨x4,r4,p4,h4,h⟩:=Ah h
  obtain⟨x5,r5,p5,h5,h⟩:=Ah h
  obtain⟨x6,r6,p6,h6,h⟩:=Ah h
  obtain⟨x7,r7,p7,h7,h⟩:=Ah h
  obtain⟨x8,r8,p8,h8,h⟩:=Ah h
  obtain⟨x9,r9,p9,h9,h⟩:=Ah h
  obtain⟨x10,r10,p10,h10,h⟩:=Ah h
  obtain⟨x11,r11,p11,h11,h⟩:=Ah h
  obtain⟨x12,r12,p12,h12,h⟩:=Ah h
  obtain⟨x13,r13,p13,h13,h⟩:=Ah h
  obtain⟨x14,r14,p14,h14,h⟩:=Ah h
  obtain⟨x15,r15,p15,h15,h⟩:=Ah h
  obtain⟨x16,r16,p16,h16,h⟩:=Ah h
  obtain⟨e0,e1,e2⟩:=AZ h
  subst e0 e1 e2
  obtain⟨hp,s16⟩:=Ag2 (F:=F) (N:=N) (nx:=nx) (R:=R) h16 hp
  obtain⟨hp,s15⟩:=Bi (F:=F) (N:=N) (nx:=nx) (R:=R) h15 hp
  obtain⟨hp,s14⟩:=Bi (F:=F) (N:=N) (nx:=nx) (R:=R) h14 hp
  obtain⟨hp,s13⟩:=IY (F:=F) (N:=N) (nx:=nx) (R:=R) h13 hp
  obtain⟨hp,s12⟩:=IY (F:=F) (N:=N) (nx:=nx) (R:=R) h12 hp
  obtain⟨hp,s11⟩:=IY (F:=F) (N:=N) (nx:=nx) (R:=R) h11 hp
  obtain⟨hp,s10⟩:=Bi (F:=F) (N:=N) (nx:=nx) (R:=R) h10 hp
  obtain⟨hp,s9⟩:=Bi (F:=F) (N:=N) (nx:=nx) (R:=R) h9 hp
  obtain⟨hp,s8⟩:=IY (F:=F) (N:=N) (nx:=nx) (R:=R) h8 hp
  obtain⟨hp,s7⟩:=Bi (F:=F) (N:=N) (nx:=nx) (R:=R) h7 hp
  obtain⟨hp,s6⟩:=Bi (F:=F) (N:=N) (nx:=nx) (R:=R) h6 hp
  obtain⟨hp,s5⟩:=Bi (F:=F) (N:=N) (nx:=nx) (R:=R) h5 hp
  obtain⟨hp,s4⟩:=Bi (F:=F) (N:=N) (nx:=nx) (R:=R) h4 hp
  obtain⟨hp,s3⟩:=Bi (F:=F) (N:=N) (nx:=nx) (R:=R) h3 hp
  obtain⟨hp,s2⟩:=Bi (F:=F) (N:=N) (nx:=nx) (R:=R) h2 hp
  obtain⟨hp,s1⟩:=Bi (F:=F) (N:=N) (nx:=nx) (R:=R) h1 hp
  obtain⟨hp,s0⟩:=Bi (F:=F) (N:=N) (nx:=nx) (R:=R) h0 hp
  exact s0.cons (s1.cons (s2.cons (s3.cons (s4.cons (s5.cons (s6.cons (s7.cons (s8.cons (s9.cons (s10.cons (s11.cons (s12.cons (s13.cons (s14.cons (s15.cons (s16.cons (.refl _)))))))))))))))))
 |bytes=>
  unfold MX at h
  obtain⟨x0,r0,p0,h0,h⟩:=Ah h
  obtain⟨e0,e1,e2⟩:=AZ h
  subst e0 e1 e2
  obtain⟨hp,s0⟩:=IY (F:=F) (N:=N) (nx:=nx) (R:=R) h0 hp
  exact s0.cons (.refl _)
 |ints=>
  unfold MX at h
  obtain⟨x0,r0,p0,h0,h⟩:=Ah h
  obtain⟨e0,e1,e2⟩:=AZ h
  subst e0 e1 e2
  obtain⟨hp,s0⟩:=IY (F:=F) (N:=N) (nx:=nx) (R:=R) h0 hp
  exact s0.cons (.refl _)
 |cells=>
  unfold MX at h
  obtain⟨x0,r0,p0,h0,h⟩:=Ah h
  obtain⟨e0,e1,e2⟩:=AZ h
  subst e0 e1 e2
  obtain⟨hp,s0⟩:=IY (F:=F) (N:=N) (nx:=nx) (R:=R) h0 hp
  exact s0.cons (.refl _)
 |rows=>
  unfold MX at h
  obtain⟨x0,r0,p0,h0,h⟩:=Ah h
  obtain⟨e0,e1,e2⟩:=AZ h
  subst e0 e1 e2
  obtain⟨hp,s0⟩:=IY (F:=F) (N:=N) (nx:=nx) (R:=R) h0 hp
  exact s0.cons (.refl _)
 |digest=>
  unfold MX at h
  obtain⟨x0,r0,p0,h0,h⟩:=Ah h
  obtain⟨x1,r1,p1,h1,h⟩:=Ah h
  obtain⟨x2,r2,p2,h2,h⟩:=Ah h
  obtain⟨x3,r3,p3,h3,h⟩:=Ah h
  obtain⟨x4,r4,p4,h4,h⟩:=Ah h
  obtain⟨x5,r5,p5,h5,h⟩:=Ah h
  obtain⟨x6,r6,p6,h6,h⟩:=Ah h
  obtain⟨x7,r7,p7,h7,h⟩:=Ah h
  obtain⟨x8,r8,p8,h8,h⟩:=Ah h
  obtain⟨x9,r9,p9,h9,h⟩:=Ah h
  obtain⟨x10,r10,p10,h10,h⟩:=Ah h
  obtain⟨x11,r11,p11,h11,h⟩:=Ah h
  obtain⟨x12,r12,p12,h12,h⟩:=Ah h
  obtain⟨x13,r13,p13,h13,h⟩:=Ah h
  obtain⟨x14,r14,p14,h14,h⟩:=Ah h
  obtain⟨x15,r15,p15,h15,h⟩:=Ah h
  obtain⟨x16,r16,p16,h16,h⟩:=Ah h
  obtain⟨x17,r17,p17,h17,h⟩:=Ah h
  obtain⟨x18,r18,p18,h18,h⟩:=Ah h
  obtain⟨x19,r19,p19,h19,h⟩:=Ah h
  obtain⟨x20,r20,p20,h20,h⟩:=Ah h
  obtain⟨x21,r21,p21,h21,h⟩:=Ah h
  obtain⟨x22,r22,p22,h22,h⟩:=Ah h
  obtain⟨x23,r23,p23,h23,h⟩:=Ah h
  obtain⟨x24,r24,p24,h24,h⟩:=Ah h
  obtain⟨x25,r25,p25,h25,h⟩:=Ah h
  obtain⟨x26,r26,p26,h26,h⟩:=Ah h
  obtain⟨x27,r27,p27,h27,h⟩:=Ah h
  obtain⟨x28,r28,p28,h28,h⟩:=Ah h
  obtain⟨x29,r29,p29,h29,h⟩:=Ah h
  obtain⟨x30,r30,p30,h30,h⟩:=Ah h
  obtain⟨x31,r31,p31,h31,h⟩:=Ah h
  obtain⟨e0,e1,e2⟩:=AZ h
  subst e0 e1 e2
  obtain⟨hp,s31⟩:=EY (F:=F) (N:=N) (nx:=nx) (R:=R) h31 hp
  obtain⟨hp,s30⟩:=EY (F:=F) (N:=N) (nx:=nx) (R:=R) h30 hp
  obtain⟨hp,s29⟩:=EY (F:=F) (N:=N) (nx:=nx) (R:=R) h29 hp
  obtain⟨hp,s28⟩:=EY (F:=F) (N:=N) (nx:=nx) (R:=R) h28 hp
  obtain⟨hp,s27⟩:=EY (F:=F) (N:=N) (nx:=nx) (R:=R) h27 hp
  obtain⟨hp,s26⟩:=EY (F:=F) (N:=N) (nx:=nx) (R:=R) h26 hp
  obtain⟨hp,s25⟩:=EY (F:=F) (N:=N) (nx:=nx) (R:=R) h25 hp
  obtain⟨hp,s24⟩:=EY (F:=F) (N:=N) (nx:=nx) (R:=R) h24 hp
  obtain⟨hp,s23⟩:=EY (F:=F) (N:=N) (nx:=nx) (R:=R) h23 hp
  obtain⟨hp,s22⟩:=EY (F:=F) (N:=N) (nx:=nx) (R:=R) h22 hp
  obtain⟨hp,s21⟩:=EY (F:=F) (N:=N) (nx:=nx) (R:=R) h21 hp
  obtain⟨hp,s20⟩:=EY (F:=F) (N:=N) (nx:=nx) (R:=R) h20 hp
  obtain⟨hp,s19⟩:=EY (F:=F) (N:=N) (nx:=nx) (R:=R) h19 hp
  obtain⟨hp,s18⟩:=EY (F:=F) (N:=N) (nx:=nx) (R:=R) h18 hp
  obtain⟨hp,s17⟩:=EY (F:=F) (N:=N) (nx:=nx) (R:=R) h17 hp
  obtain⟨hp,s16⟩:=EY (F:=F) (N:=N) (nx:=nx) (R:=R) h16 hp
  obtain⟨hp,s15⟩:=EY (F:=F) (N:=N) (nx:=nx) (R:=R) h15 hp
  obtain⟨hp,s14⟩:=EY (F:=F) (N:=N) (nx:=nx) (R:=R) h14 hp
  obtain⟨hp,s13⟩:=EY (F:=F) (N:=N) (nx:=nx) (R:=R) h13 hp
  obtain⟨hp,s12⟩:=EY (F:=F) (N:=N) (nx:=nx) (R:=R) h12 hp
  obtain⟨hp,s11⟩:=EY (F:=F) (N:=N) (nx:=nx) (R:=R) h11 hp
  obtain⟨hp,s10⟩:=EY (F:=F) (N:=N) (nx:=nx) (R:=R) h10 hp
  obtain⟨hp,s9⟩:=EY (F:=F) (N:=N) (nx:=nx) (R:=R) h9 hp
  obtain⟨hp,s8⟩:=EY (F:=F) (N:=N) (nx:=nx) (R:=R) h8 hp
  obtain⟨hp,s7⟩:=EY (F:=F) (N:=N) (nx:=nx) (R:=R) h7 hp
  obtain⟨hp,s6⟩:=EY (F:=F) (N:=N) (nx:=nx) (R:=R) h6 hp
  obtain⟨hp,s5⟩:=EY (F:=F) (N:=N) (nx:=nx) (R:=R) h5 hp
  obtain⟨hp,s4⟩:=EY (F:=F) (N:=N) (nx:=nx) (R:=R) h4 hp
  obtain⟨hp,s3⟩:=EY (F:=F) (N:=N) (nx:=nx) (R:=R) h3 hp
  obtain⟨hp,s2⟩:=EY (F:=F) (N:=N) (nx:=nx) (R:=R) h2 hp
  obtain⟨hp,s1⟩:=EY (F:=F) (N:=N) (nx:=nx) (R:=R) h1 hp
  obtain⟨hp,s0⟩:=EY (F:=F) (N:=N) (nx:=nx) (R:=R) h0 hp
  exact s0.cons (s1.cons (s2.cons (s3.cons (s4.cons (s5.cons (s6.cons (s7.cons (s8.cons (s9.cons (s10.cons (s11.cons (s12.cons (s13.cons (s14.cons (s15.cons (s16.cons (s17.cons (s18.cons (s19.cons (s20.cons (s21.cons (s22.cons (s23.cons (s24.cons (s25.cons (s26.cons (s27.cons (s28.cons (s29.cons (s30.cons (s31.cons (.refl _))))))))))))))))))))))))))))))))
end
end Go.Proofs.YtifkbgkbajncjaaDoor
namespace Go.Proofs.YtifkbgkbajncjaaDoor
open Go.RowKit
def DG (P:Program) (t:TypeId):Option Nat:=(P.info? t).map (·.size)
def Zy (P:Program) (t:TypeId):Option Bool:=(P.underlying t).map fun d=>match d with| .struct _| .array _ _=>true|_=>false
section runs
variable {P:Program} {R:World}
theorem JW {t:TypeId} {x:Value} {f:Nat} {fs:Array Field} {fd:Field} {n:Nat} {ad:Addr} (ht:P.underlying t=some (.struct fs)) (hf:fs[f]?=some fd) (hn:DG P fd.type=some n) (h0:n≠0) (hx:x=.pointer (some ad)):
  (Instr.fieldAt t x f).run P R=.ok (.pointer (some (ad.add fd.offset))) R:=by
 subst hx
 unfold DG at hn
 cases hi:P.info? fd.type with
 |none=>rw[hi] at hn;cases hn
 |some i=>
  rw[hi] at hn
  obtain rfl:i.size=n:=Option.some.inj hn
  simp[Instr.fieldAt,run_underlying ht,hf,Instr.sureAddr,fieldPlace,sizeOf,typeInfo,hi,h0]
theorem DC {t e:TypeId} {x:Value} {k:IntKind} {i:Int} {len n:Nat} {ad:Addr} (ht:P.underlying t=some (.array len e)) (hn:DG P e=some n) (hx:x=.pointer (some ad)) (h0:0≤i) (h1:i <len):
  (Instr.indexAt t x (.int k i)).run P R=.ok (.pointer (some (ad.add (i.toNat*n)))) R:=by
 subst hx
 unfold DG at hn
 cases hi:P.info? e with
 |none=>rw[hi] at hn;cases hn
 |some d=>
  rw[hi] at hn
  obtain rfl:d.size=n:=Option.some.inj hn
  simp[Instr.indexAt,run_underlying ht,Instr.sureAddr,sizeOf,typeInfo,hi,h0,h1,asIntOf]
theorem Hb {t e:TypeId} {x:Value} {k:IntKind} {i:Int} {len cap n:Nat} {ad:Addr} (ht:P.underlying t=some (.slice e)) (hn:DG P e=some n) (hx:x=.slice (some ad) len cap) (h0:0≤i) (h1:i <len):
  (Instr.indexAt t x (.int k i)).run P R=.ok (.pointer (some (ad.add (i.toNat*n)))) R:=by
 subst hx
 unfold DG at hn
 cases hi:P.info? e with
 |none=>rw[hi] at hn;cases hn
 |some d=>
  rw[hi] at hn
  obtain rfl:d.size=n:=Option.some.inj hn
  simp[Instr.indexAt,run_underlying ht,sizeOf,typeInfo,hi,h0,h1,asIntOf]
theorem HV {t:TypeId} {ad:Addr} {v:Value} (hr:Zy P t=some false) (hc:R.cell? ad=some v):(loadVar t ad).run P R=.ok v R:=by
 unfold Zy at hr
 cases hu:P.underlying t with
 |none=>rw[hu] at hr;cases hr
 |some d=>
  rw[hu] at hr
  have hl:(load ad).run P R=.ok v R:=by simp[hc]
  cases d<;>first|(simp[loadVar,isAgg,run_underlying hu,hc];done)|(simp at hr;done)
theorem GL {t:TypeId} {ad:Addr} {cs:List Value} (hr:Zy P t=some true) (hs:DG P t=some cs.length) (hc:∀j v,cs[j]?=some v→R.cell? (ad.add j)=some v):(loadVar t ad).run P R=.ok (.agg cs.toArray) R:=by
 have hl:=run_loadCells_list (P:=P) R ad cs hc
 unfold Zy at hr
 unfold DG at hs
 cases hu:P.underlying t with
 |none=>rw[hu] at hr;cases hr
 | some d=>
  rw[hu] at hr
  cases hi:P.info? t with
  |none=>rw[hi] at hs;cases hs
  |some i=>
   rw[hi] at hs
   have hs':i.size=cs.length:=Option.some.inj hs
   cases d<;>first|(simp[loadVar,isAgg,run_underlying hu,sizeOf,typeInfo,hi,hs',hl];done)|(simp at hr;done)
theorem Ge {t:TypeId} {x:Value} {ad:Addr} (hx:x=.pointer (some ad)):(Instr.loadAt t x).run P R=(loadVar t ad).run P R:=by
 subst hx
 simp[Instr.loadAt,Instr.sureAddr]
theorem Cz {t:TypeId} {x v:Value} {b o:Nat} {e:TypeId} {cs:List Value} (hx:x=.pointer (some ⟨b,o,none⟩)) (hb:R.heap[b]?=some (.cells cs.toArray e (0,0))) (hs:DG P t=some v.cells.toList.length)
  (hl:o+v.cells.toList.length≤cs.length) (h1:∀c∈v.cells.toList,c.oneCell'=true):
  (Instr.storeAt t x v).run P R=.ok () (R.setRow b (cs.take o++v.cells.toList++cs.drop (o+v.cells.toList.length)).toArray):=by
 subst hx
 have h:=run_storeCells_at (P:=P) b o e v.cells.toList 0 cs.toArray R hb (by simpa using hl) h1
 unfold DG at hs
 cases hi:P.info? t with
 |none=>rw[hi] at hs;cases hs
 |some i=>
  rw[hi] at hs
  have hs':i.size=v.cells.size:=by have:=Option.some.inj hs;simpa using this
  simp only[Instr.storeAt,Instr.sureAddr,Sem.run_bind,Sem.run_pure,Result.andThen_ok]
  simp only[Nat.add_zero] at h
  simp[storeVar,sizeOf,typeInfo,hi,hs',h]
theorem Yx {e:TypeId} {z:Value} (hz:(P.info? e).bind (·.zero)=some z):(Instr.alloc e true (.tuple #[])).run P R=.ok (.pointer (some ⟨R.heap.size,0,none⟩)) (R.alloc (.cells z.cells.toList.toArray e (0,0))):=by
 cases hi:P.info? e with
 |none=>rw[hi] at hz;cases hz
 |some i=>
  rw[hi] at hz
  have hz':i.zero=some z:=hz
  simp[Instr.alloc,zeroValue,typeInfo,hi,hz',newVar,newRow]
theorem RK {e:TypeId} {v:Value}:(Instr.box e v).run P R=.ok (.pointer (some ⟨R.heap.size,0,none⟩)) (R.alloc (.cells v.cells.toList.toArray e (0,0))):=by
 simp[Instr.box,newVar,newRow]
end runs
def A40 (k:Nat):Nat→List A→A
 |_,[]=> .dead
 |_,[x]=>x
 |j,x::y::r=>Aby (Nat.beq k j) x (A40 k (j+1) (y::r))
def Aw8 (k:Nat) (v:A):Nat→List A→List A
 |_,[]=>[]
 |j,x::r=>Aby (Nat.beq k j) v x::Aw8 k v (j+1) r
section
variable {F:Nat→Prop} {N:Nm} {nx:Nat} {R:World}
theorem Au7 {k:Nat}:∀{l:List A} {vs:List Value} {j:Nat} {v:Value},HL F N nx R l vs→j≤k→k <j+l.length→vs[k - j]?=some v→Hv F N nx R (A40 k j l) v
 | [],_,_,_,_,_,h,_=>by simp at h;omega
 | [x],_,j,v,h,h1,h2,hv=>by
  obtain⟨u,us,rfl,h3,_⟩:=h.inv
  have:k - j=0:=by simp at h2;omega
  rw[this] at hv
  cases hv
  exact h3
 | x::y::r,_,j,v,h,h1,h2,hv=>by
  obtain⟨u,us,rfl,h3,h4⟩:=h.inv
  unfold A40
  refine NF ?_
  by_cases hk:k=j
  ·subst hk
   rw[JH]
   rw[Nat.sub_self] at hv
   cases hv
   exact h3
  ·rw[Aab hk]
   refine Au7 h4 (by omega) (by simp at h2⊢;omega) ?_
   rw[show k - j=(k - (j+1))+1 by omega,List.getElem?_cons_succ] at hv
   exact hv
theorem Ahw {k:Nat} {v:A}:∀{l:List A} {vs:List Value} {j:Nat},HL F N nx R l vs→k <j→HL F N nx R (Aw8 k v j l) vs
 | [],_,_,h,_=>h
 |x::r,_,j,h,hk=>by
  obtain⟨u,us,rfl,h3,h4⟩:=h.inv
  unfold Aw8
  refine HL.cons (NF ?_) (Ahw h4 (by omega))
  rw[Aab (by omega)]
  exact h3
theorem Au8 {k:Nat} {v:A} {y:Value} (hy:Hv F N nx R v y):∀{l:List A} {vs:List Value} {j:Nat},HL F N nx R l vs→j≤k→k <j+l.length→HL F N nx R (Aw8 k v j l) (vs.take (k - j)++[y]++vs.drop (k - j+1))
 | [],_,_,_,_,h=>by simp at h;omega
 | x::r,_,j,h,hk,h2=>by
  obtain⟨u,us,rfl,h3,h4⟩:=h.inv
  unfold Aw8
  by_cases hkj:k=j
  ·subst hkj
   rw[Nat.sub_self,JH]
   exact HL.cons (NF hy) (Ahw h4 (by omega))
  ·rw[Aab hkj,show k - j=(k - (j+1))+1 by omega]
   exact HL.cons (NF h3) (Au8 hy h4 (by omega) (by simp at h2;omega))
end
abbrev R2:=Option (A×List Prop)
def ZT (lit:Bool) (p:Prop) [Decidable p]:Option (List Prop):=bif lit then(bif decide p then some [] else none) else some [p]
theorem FP {lit:Bool} {p:Prop} [Decidable p] {ps:List Prop} (h:ZT lit p=some ps) (hp:∀q∈ps,q):p:=by
 unfold ZT at h
 cases lit with
 |true=>
  cases hd:decide p with
  |true=>exact of_decide_eq_true hd
  |false=>rw[hd] at h;cases h
 |false=>cases h;exact hp p (List.mem_singleton.2 rfl)
def wth (x:A):Option (List Prop)→R2
 |some ps=>some (x,ps)
 |none=>none
theorem B4 {x z:A} {o:Option (List Prop)} {ps:List Prop} (h:wth x o=some (z,ps)):x=z∧o=some ps:=by
 cases o with
 |none=>cases h
 |some qs=>cases h;exact⟨rfl,rfl⟩
def Aq5 (E:Env) (s:St) (G:Guards) (t:TypeId) (x:Operand) (f:Nat):R2:=
 match E.P.underlying t with
 | some (.struct fs)=>match fs[f]? with
  | some fd=>match DG E.P fd.type with
   |some n=>bif Nat.beq n 0 then none else match s.ev G x with
    |some (.own i off)=>some (.own i (off+fd.offset),[])
    |some (.el i k sz off)=>some (.el i k sz (off+fd.offset),[])
    |some (.ref l)=>some (.ref (l.drop fd.offset),[])
    |some (.de i k sz off)=>some (.de i k sz (off+fd.offset),[])
    |some (.ie i k j sz off)=>some (.ie i k j sz (off+fd.offset),[])
    |_=>none
   |none=>none
  |none=>none
 |_=>none
def Jv:Operand→Bool
 | .const _=>true
 |_=>false
def Aqk (l:List UInt8) (k:Nat):Value:=A4 (l.getD k 0)
def Ay4 (o:Objs) (i sz:Nat):Option Nat:=match Ak i o with
 |some (.arr _ size els)=>bif Nat.beq size sz then some els.n else none
 |_=>none
def Ae0 (c:TC) (d:U c):Option ((c':TC)×List (U c')):=match PO c with
 |some (col,_)=>match(enc c d)[col]? with
  |some (.sl c' l')=>some ⟨c',l'⟩
  |_=>none
 |none=>none
def Azr (g:Nat):List (Nat×GT)→Option GT
 | []=>none
 |(n,x)::r=>bif Nat.beq n g then some x else Azr g r
def A6p:Operand→Option GT
 | .global g=>Azr g Sn
 |_=>none
theorem Anq {g:Nat} {x:GT}:∀{l:List (Nat×GT)},Azr g l=some x→(g,x)∈l
 | [],h=>by cases h
 | (n,y)::r,h=>by
  unfold Azr at h
  cases hb:Nat.beq n g with
  |true=>
   rw[hb] at h
   cases h
   obtain rfl:=Nat.eq_of_beq_eq_true hb
   exact List.mem_cons_self ..
  |false=>
   rw[hb] at h
   exact List.mem_cons_of_mem _ (Anq (l:=r) h)
theorem Azs {x:Operand} {y:GT} (h:A6p x=some y):∃g,x=.global g∧(g,y)∈Sn:=by
 cases x with
 |global g=>exact⟨g,rfl,Anq (show Azr g Sn=some y from h)⟩
 |tmp t=>cases h
 |const v=>cases h
 |func f=>cases h
def Az8 (o:Objs) (i:Nat):Bool:=match Ak i o with
 |some (.arr _ _ (.lst cs))=>Nat.blt 16 cs.length
 |_=>false
def u8s:List A→Option (List Int)
 | []=>some []
 | .v (.int .u8 n)::r=>match u8s r with
  |some l=>some (n::l)
  |none=>none
 |_=>none
theorem Avc:∀{l:List A} {ns:List Int} {j:Nat},u8s l=some ns→j <ns.length→l[j]?=some (.v (.int .u8 (ns.getD j 0)))
 | [],ns,j,h,hj=>by cases h;exact absurd hj (Nat.not_lt_zero _)
 | x::r,ns,j,h,hj=>by
  unfold u8s at h
  split at h<;>first|(cases h;done)|skip
  ·rename_i e;cases e
  rename_i n r' e
  injection e with e1 e2
  subst e1 e2
  cases hr:u8s r with
  |none=>rw[hr] at h;cases h
  | some l=>
   rw[hr] at h
   cases h
   cases j with
   |zero=>rfl
   |succ j=>
    have hj':j <l.length:=Nat.lt_of_succ_lt_succ hj
    exact Avc (l:=r) hr hj'
def A0s (sz len:Nat) (l:List A):Option (List Int):=bif Nat.beq sz 1 then(match u8s (l.take len) with
 |some ns=>bif Nat.beq ns.length len then some ns else none
 |none=>none) else none
theorem A0t {sz len:Nat} {l:List A} {ns:List Int} (h:A0s sz len l=some ns):sz=1∧∀j,j <len→l[j]?=some (.v (.int .u8 (ns.getD j 0))):=by
 unfold A0s at h
 cases hb:Nat.beq sz 1 with
 |false=>rw[hb] at h;cases h
 | true=>
  rw[hb,cond_true] at h
  split at h<;>first|(cases h;done)|skip
  rename_i ns' hu
  cases hn:Nat.beq ns'.length len with
  |false=>rw[hn] at h;cases h
  |true=>
   rw[hn] at h
   cases h
   have e:=Nat.eq_of_beq_eq_true hn
   refine⟨Nat.eq_of_beq_eq_true hb,fun j hj=>?_⟩
   have:=Avc hu (j:=j) (by omega)
   rwa[List.getElem?_take_of_lt hj] at this
def Are (E:Env) (s:St) (G:Guards) (t:TypeId) (x i:Operand):R2:=
 match s.raw G i with
 | some (.int _ n)=>match E.P.underlying t with
  | some (.array len e)=>match DG E.P e with
   | some sz=>match A6p x with
    |some gt=>bif Nat.beq sz 1&&Nat.beq gt.l.length len then wth (.ref (enc gt.c (gt.l.getD n.toNat (Aj gt.c)))) (ZT E.lit (0≤n∧n <(len:Int))) else none
    |none=>match s.ev G x with
    | some (.own b off)=>bif E.lit||Jv i then wth (.own b (off+n.toNat*sz)) (ZT true (0≤n∧n <(len:Int)))
      else bif Nat.beq sz 1 then some (.ownx b off len n.toNat,[0≤n∧n <(len:Int)]) else some (.ownx b off (len*sz) (n.toNat*sz),[0≤n∧n <(len:Int)])
    | some (.el b k z off)=>bif Nat.beq z sz&&Nat.beq off 0 then wth (.el b (k+n.toNat) z 0) (ZT E.lit (0≤n∧n <(len:Int)))
      else wth (.el b k z (off+n.toNat*sz)) (ZT (E.lit||Jv i) (0≤n∧n <(len:Int)))
    |some (.ref l)=>match(bif E.lit||Jv i then none else A0s sz len l) with
     |some ns=>some (.ref [.v (.int .u8 (ns.getD n.toNat 0))],[0≤n∧n <(len:Int)])
     |none=>wth (.ref (l.drop (n.toNat*sz))) (ZT (E.lit||Jv i) (0≤n∧n <(len:Int)))
    |_=>none
   |none=>none
  | some (.slice e)=>match DG E.P e with
   | some sz=>match s.ev G x with
    |some (.sq b)=>bif Az8 s.o b&&!(E.lit||Jv i) then none else match Ay4 s.o b sz with
     |some m=>wth (.el b n.toNat sz 0) (ZT E.lit (0≤n∧n <(m:Int)))
     |none=>none
    |some (.vw b z lo m _)=>match Ay4 s.o b sz with
     |some _=>bif Nat.beq z sz then wth (.el b (lo+n.toNat) sz 0) (ZT E.lit (0≤n∧n <(m:Int))) else none
     |none=>none
    |some (.sl c l)=>bif Nat.beq (size c) sz then wth (.ref (enc c (l.getD n.toNat (Aj c)))) (ZT E.lit (0≤n∧n <(l.length:Int))) else none
    |some (.dq b)=>match Ak b s.o with
     |some (.deep _ c l)=>bif Nat.beq (size c) sz then wth (.de b n.toNat sz 0) (ZT E.lit (0≤n∧n <(l.length:Int))) else none
     |_=>none
    | some (.iv b k)=>match Ak b s.o with
     |some (.deep _ c l)=>match Ae0 c (l.getD k (Aj c)) with
      |some ⟨c',l'⟩=>bif Nat.beq (size c') sz then wth (.ie b k n.toNat sz 0) (ZT E.lit (k <l.length∧0≤n∧n <(l'.length:Int))) else none
      |none=>none
     |_=>none
    |_=>none
   |none=>none
  |_=>none
 |_=>none
def SN (P:Program) (t:TypeId) (l:List A):Option A:=match Zy P t with
 |some true=>match DG P t with
  |some n=>bif Nat.ble n l.length then some (MZ (l.take n)) else none
  |none=>none
 |some false=>match l with
  |x::_=>some x
  | []=>none
 |none=>none
def Q3:List A→Nat→Option (A×Nat)
 | [],_=>none
 | .av c n l::r,off=>bif Nat.blt off n then some (.av c n l,off) else Q3 r (off - n)
 |x::r,off=>match off with
  |0=>some (x,0)
  |o+1=>Q3 r o
def Au5 (xs:List A) (off:Nat):Option A:=match Q3 xs off with
 |some (.av c _ l,j)=>some (.v (sv c (l.getD j (Aj c))))
 |some (x,_)=>some x
 |none=>none
def Ahp (xs:List A):Nat→Nat→Option (List A)
 |_,0=>some []
 |off,n+1=>match Au5 xs off,Ahp xs (off+1) n with
  |some x,some r=>some (x::r)
  |_,_=>none
def Bam:A→Nat
 | .av _ n _=>n
 |_=>1
def VD:List A→Nat
 | []=>0
 |x::r=>Bam x+VD r
def At9:List A→Bool
 | []=>false
 |x::r=>bif HH x then true else At9 r
def Akm (P:Program) (t:TypeId) (xs:List A) (off:Nat):Option A:=match Zy P t,DG P t with
 |some false,_=>Au5 xs off
 | some true,some n=>match Q3 xs off with
  |some (.av c m l,0)=>bif Nat.beq m n then some (.av c m l) else none
  |_=>bif Nat.beq off 0&&(Nat.beq n (VD xs)&&At9 xs) then some (.rv xs) else match Ahp xs off n with
   |some cs=>some (MZ cs)
   |none=>none
 |_,_=>none
def KI (u:A):List A→Nat→Option (List A×List Prop)
 | [],_=>none
 | .av c n l::r,off=>bif Nat.blt off n then(match MX c [u] with
   |some (d,ps)=>some (.av c n (l.set off d)::r,ps)
   |none=>none) else(match KI u r (off - n) with
   |some (r',ps)=>some (.av c n l::r',ps)
   |none=>none)
 | x::r,off=>match off with
  |0=>bif HH u then none else some (u::r,[])
  |o+1=>match KI u r o with
   |some (r',ps)=>some (x::r',ps)
   |none=>none
def Akl:List A→List A→Nat→Option (List A×List Prop)
 | [],xs,_=>some (xs,[])
 | u::us,xs,off=>match KI u xs off with
  |some (xs',ps)=>match Akl us xs' (off+1) with
   |some (ys,qs)=>some (ys,ps++qs)
   |none=>none
  |none=>none
def MK (f:(c:TC)→Nat→List (U c)→Option (List (U c)×List Prop)):List A→Nat→Option (List A×List Prop)
 | [],_=>none
 | .av c n l::r,off=>bif Nat.beq off 0 then(match f c n l with
   |some (l',ps)=>some (.av c n l'::r,ps)
   |none=>none) else bif Nat.blt off n then none else(match MK f r (off - n) with
   |some (r',ps)=>some (.av c n l::r',ps)
   |none=>none)
 | x::r,off=>match off with
  |0=>none
  |o+1=>match MK f r o with
   |some (r',ps)=>some (x::r',ps)
   |none=>none
section
variable {F:Nat→Prop} {N:Nm} {nx:Nat} {R:World}
theorem Hv.av_inv {c:TC} {n:Nat} {l:List (U c)} {y:Value} (h:Hv F N nx R (.av c n l) y):c.one=true∧l.length=n∧y=.agg (l.map (sv c)).toArray:=by
 cases h with|av h1 h2=>exact⟨h1,h2,rfl⟩
theorem HW.len:∀{xs:List A} {us:List Value},HW F N nx R xs us→us.length=VD xs
 | [],_,h=>by rw[show _=[] from h];rfl
 | x::r,_,⟨v,t,h1,h2,h3,h4⟩=>by
  rw[h1,List.length_append,HW.len h4]
  show _=Bam x+VD r
  cases hx:HH x with
  |false=>
   rw[FY (h3 hx)]
   cases x<;>first|rfl|cases hx
  |true=>
   cases x<;>first|(cases hx;done)|skip
   rename_i c n l
   obtain⟨_,e,rfl⟩:=h2.av_inv
   have:(Value.agg (l.map (sv c)).toArray).cells.toList.length=n:=by simp[Value.cells];exact e
   rw[this]
   rfl
theorem A01 {c:TC} {n:Nat} {l:List (U c)} {r:List A} {off:Nat}:Q3 (.av c n l::r) off=bif Nat.blt off n then some (.av c n l,off) else Q3 r (off - n):=rfl
theorem Asc {x:A} {r:List A} {off:Nat} (h:HH x=false):Q3 (x::r) off=match off with|0=>some (x,0)|o+1=>Q3 r o:=by
 cases x<;>first|rfl|cases h
theorem NR:∀{xs:List A} {us:List Value} {off:Nat} {x:A} {j:Nat},HW F N nx R xs us→Q3 xs off=some (x,j)→
  (HH x=false∧j=0∧∃v,us[off]?=some v∧Hv F N nx R x v)∨∃c n l,x=.av c n l∧c.one=true∧l.length=n∧j <n∧j≤off∧∀k d,l[k]?=some d→us[off - j+k]?=some (sv c d)
 | [],_,_,_,_,_,he=>by cases he
 | z ::r,_,off,x,j,⟨v,t,h1,h2,h3,h4⟩,he=>by
  subst h1
  cases hz:HH z with
  | false=>
   rw[Asc hz] at he
   rw[FY (h3 hz)]
   cases off with
   |zero=>
    cases he
    exact .inl ⟨hz,rfl,v,rfl,h2⟩
   | succ o=>
    rcases NR h4 he with⟨q1,q2,w,q3,q4⟩|⟨c,n,l,q1,q2,q3,q4,q5,q6⟩
    ·exact .inl ⟨q1,q2,w,by simpa using q3,q4⟩
    ·refine .inr ⟨c,n,l,q1,q2,q3,q4,by omega,fun k d hd=>?_⟩
     rw[show o+1 - j+k=(o - j+k)+1 by omega]
     simpa using q6 k d hd
  | true=>
   cases z<;>first|(cases hz;done)|skip
   rename_i c n l
   obtain⟨e1,e2,rfl⟩:=h2.av_inv
   have e3:(Value.agg (l.map (sv c)).toArray).cells.toList=l.map (sv c):=by simp[Value.cells]
   rw[e3]
   rw[A01] at he
   cases hb:Nat.blt off n with
   |true=>
    rw[hb] at he
    cases he
    refine .inr ⟨c,n,l,rfl,e1,e2,Nat.le_of_ble_eq_true hb,Nat.le_refl _,fun k d hd=>?_⟩
    have hk:=(List.getElem?_eq_some_iff.1 hd).1
    rw[Nat.sub_self,Nat.zero_add,List.getElem?_append_left (by rw[List.length_map];exact hk),List.getElem?_map,hd]
    rfl
   | false=>
    rw[hb] at he
    have hge:n≤off:=by
     rcases Nat.lt_or_ge off n with h|h
     ·have:Nat.blt off n=true:=Nat.ble_eq_true_of_le h
      rw[hb] at this
      cases this
     ·exact h
    have idx:∀m,(l.map (sv c)++t)[n+m]?=t[m]?:=fun m=>by
     rw[List.getElem?_append_right (by rw[List.length_map];omega),List.length_map,e2,Nat.add_sub_cancel_left]
    rcases NR h4 he with⟨q1,q2,w,q3,q4⟩|⟨c',n',l',q1,q2,q3,q4,q5,q6⟩
    ·refine .inl ⟨q1,q2,w,?_,q4⟩
     rw[←Nat.add_sub_cancel' hge,idx]
     exact q3
    ·refine .inr ⟨c',n',l',q1,q2,q3,q4,by omega,fun k d hd=>?_⟩
     rw[show off - j+k=n+(off - n - j+k) by omega,idx]
     exact q6 k d hd
theorem At6 {α:Type} {l:List α} {k:Nat} (d:α) (h:k <l.length):l[k]?=some (l.getD k d):=by
 rw[List.getD_eq_getElem?_getD,List.getElem?_eq_getElem h]
 rfl
theorem Ao7 {xs:List A} {us:List Value} {off:Nat} {x:A} (h:HW F N nx R xs us) (he:Au5 xs off=some x):∃v,us[off]?=some v∧Hv F N nx R x v:=by
 unfold Au5 at he
 cases hr:Q3 xs off with
 |none=>simp only[hr] at he;cases he
 | some p=>
  obtain⟨z,j⟩:=p
  simp only[hr] at he
  rcases NR h hr with⟨q1,_,v,q3,q4⟩|⟨c,n,l,rfl,q2,q3,q4,q5,q6⟩
  ·cases z<;>first|(cases q1;done)|(cases he;exact⟨v,q3,q4⟩)
  ·cases he
   refine⟨_,?_,.v _⟩
   have:=q6 j _ (At6 (Aj c) (by omega))
   rwa[Nat.sub_add_cancel q5] at this
theorem Ao6 {xs:List A} {us:List Value} (h:HW F N nx R xs us):∀{n off:Nat} {cs:List A},Ahp xs off n=some cs→∃vs,HL F N nx R cs vs∧vs.length=n∧∀j v,vs[j]?=some v→us[off+j]?=some v
 |0,_,_,he=>by cases he;exact⟨[],HL.nil,rfl,fun j v hj=>by cases j<;>cases hj⟩
 | n+1,off,cs,he=>by
  unfold Ahp at he
  split at he<;>first|(cases he;done)|skip
  rename_i x r hx hr
  cases he
  obtain⟨v,g1,g2⟩:=Ao7 h hx
  obtain⟨vs,g3,g4,g5⟩:=Ao6 h hr
  refine⟨v::vs,HL.cons g2 g3,by rw[List.length_cons,g4],fun j w hj=>?_⟩
  cases j with
  |zero=>cases hj;exact g1
  |succ j=>
   have:=g5 j w (by simpa using hj)
   rwa[show off+(j+1)=off+1+j by omega]
theorem HW.rv:∀{xs:List A} {us:List Value},HW F N nx R xs us→∃vs,vs.length=xs.length∧At4 vs=us∧(∀(j:Nat) (x:A) (v:Value),xs[j]?=some x→vs[j]?=some v→Hv F N nx R x v)∧∀(j:Nat) (x:A) (v:Value),xs[j]?=some x→vs[j]?=some v→HH x=false→v.oneCell'=true
 | [],us,h=>⟨[],rfl,(show us=[] from h).symm,fun j x v hx _=>by(cases j<;>cases hx),fun j x v hx _ _=>by(cases j<;>cases hx)⟩
 | x::r,_,⟨v,t,h1,h2,h3,h4⟩=>by
  obtain⟨vs,g1,g2,g3,g4⟩:=HW.rv h4
  refine⟨v::vs,by rw[List.length_cons,List.length_cons,g1],by rw[h1,←g2];rfl,fun j y w hy hw=>?_,fun j y w hy hw=>?_⟩
  ·cases j with
   |zero=>cases hy;cases hw;exact h2
   |succ j=>exact g3 j y w (by simpa using hy) (by simpa using hw)
  ·cases j with
   |zero=>cases hy;cases hw;exact h3
   |succ j=>exact g4 j y w (by simpa using hy) (by simpa using hw)
theorem Hv.rv_inv {xs:List A} {y:Value} (h:Hv F N nx R (.rv xs) y):∃us,y=.agg us.toArray∧HW F N nx R xs us:=by
 cases h with
 | rv vs h1 h2 h3=>
  refine⟨At4 vs,rfl,?_⟩
  induction xs generalizing vs with
  |nil=>
   have:vs=[]:=List.eq_nil_of_length_eq_zero h1
   subst this
   rfl
  |cons x r ih=>
   cases vs with
   |nil=>cases h1
   |cons v t=>exact⟨v,At4 t,rfl,h2 0 x v rfl rfl,h3 0 x v rfl rfl,ih t (by simpa using h1) (fun j y w hy hw=>h2 (j+1) y w (by simpa using hy) (by simpa using hw)) (fun j y w hy hw=>h3 (j+1) y w (by simpa using hy) (by simpa using hw))⟩
theorem Asd {P:Program} {t:TypeId} {xs:List A} {us:List Value} {off:Nat} {z:A} (h:HW F N nx R xs us) (he:Akm P t xs off=some z):
  ∃y,Hv F N nx R z y∧∀(ad:Addr) (R':World),(∀j v,us[j]?=some v→R'.cell? (ad.add j)=some v)→(loadVar t (ad.add off)).run P R'=.ok y R':=by
 unfold Akm at he
 split at he<;>first|(cases he;done)|skip
 ·rename_i hr
  obtain⟨v,g1,g2⟩:=Ao7 h he
  exact⟨v,g2,fun ad R' hc=>HV hr (hc off v g1)⟩
 ·rename_i n hr hn
  have plain:∀{cs:List A},Ahp xs off n=some cs→∃y,Hv F N nx R (MZ cs) y∧∀(ad:Addr) (R':World),(∀j v,us[j]?=some v→R'.cell? (ad.add j)=some v)→(loadVar t (ad.add off)).run P R'=.ok y R':=fun {cs} hcs=>by
   obtain⟨vs,g1,g2,g3⟩:=Ao6 h hcs
   exact⟨_,N9 g1,fun ad R' hc=>GL hr (by rw[hn,g2]) fun j v hj=>by rw[BU];exact hc _ v (g3 j v hj)⟩
  have rest:∀{z:A},(bif Nat.beq off 0&&(Nat.beq n (VD xs)&&At9 xs) then some (A.rv xs) else match Ahp xs off n with
   |some cs=>some (MZ cs)
   |none=>none)=some z→∃y,Hv F N nx R z y∧∀(ad:Addr) (R':World),(∀j v,us[j]?=some v→R'.cell? (ad.add j)=some v)→(loadVar t (ad.add off)).run P R'=.ok y R':=fun {z} he=>by
   cases hb:(Nat.beq off 0&&(Nat.beq n (VD xs)&&At9 xs)) with
   |true=>
    rw[hb] at he
    cases he
    rw[Bool.and_eq_true,Bool.and_eq_true] at hb
    obtain rfl:=Nat.eq_of_beq_eq_true hb.1
    have hw:=Nat.eq_of_beq_eq_true hb.2.1
    obtain⟨vs,g1,g2,g3,g4⟩:=h.rv
    refine⟨_,.rv vs g1 g3 g4,fun ad R' hc=>?_⟩
    rw[g2]
    exact GL hr (by rw[hn,h.len,hw]) fun j v hj=>by rw[add_zero];exact hc j v hj
   |false=>
    rw[hb,cond_false] at he
    split at he<;>first|(cases he;done)|skip
    rename_i cs hcs
    cases he
    exact plain hcs
  split at he
  ·rename_i c m l hat
   cases hb:Nat.beq m n with
   |false=>rw[hb] at he;cases he
   | true=>
    rw[hb] at he
    cases he
    obtain rfl:=Nat.eq_of_beq_eq_true hb
    rcases NR h hat with⟨q1,_⟩|⟨c',n',l',q1,q2,q3,q4,q5,q6⟩
    ·cases q1
    ·cases q1
     refine⟨_,.av q2 q3,fun ad R' hc=>GL hr (by rw[hn,List.length_map,q3]) fun j v hj=>?_⟩
     rw[List.getElem?_map] at hj
     cases hd:l[j]? with
     |none=>rw[hd] at hj;cases hj
     |some d=>
      rw[hd] at hj
      cases hj
      rw[BU]
      exact hc _ _ (q6 j d hd)
  ·exact rest he
theorem Ase {u:A} {c:TC} {n:Nat} {l:List (U c)} {r:List A} {off:Nat}:KI u (.av c n l::r) off=bif Nat.blt off n then(match MX c [u] with
   |some (d,ps)=>some (.av c n (l.set off d)::r,ps)
   |none=>none) else(match KI u r (off - n) with
   |some (r',ps)=>some (.av c n l::r',ps)
   |none=>none):=rfl
theorem Akn {u x:A} {r:List A} {off:Nat} (h:HH x=false):KI u (x::r) off=match off with
  |0=>bif HH u then none else some (u::r,[])
  |o+1=>match KI u r o with
   |some (r',ps)=>some (x::r',ps)
   |none=>none:=by
 cases x<;>first|rfl|cases h
theorem OR {u:A} {w:Value} (hu:Hv F N nx R u w) (h1c:w.oneCell'=true):∀{xs xs':List A} {us:List Value} {off:Nat} {ps:List Prop},HW F N nx R xs us→KI u xs off=some (xs',ps)→(∀p∈ps,p)→off <us.length∧HW F N nx R xs' (us.set off w)
 | [],_,_,_,_,_,he,_=>by cases he
 | z ::r,xs',_,off,ps,⟨v,t,h1,h2,h3,h4⟩,he,hp=>by
  subst h1
  cases hz:HH z with
  | false=>
   rw[Akn hz] at he
   rw[FY (h3 hz)]
   cases off with
   | zero=>
    simp only at he
    cases hi:HH u with
    |true=>rw[hi] at he;cases he
    |false=>
     rw[hi] at he
     cases he
     exact⟨by simp,w,t,by rw[FY h1c];rfl,hu,fun _=>h1c,h4⟩
   |succ o=>
    simp only at he
    split at he<;>first|(cases he;done)|skip
    rename_i r' ps' hr
    cases he
    obtain⟨g1,g2⟩:=OR hu h1c h4 hr hp
    exact⟨by simpa using g1,v,t.set o w,by rw[FY (h3 hz)];rfl,h2,h3,g2⟩
  | true=>
   cases z<;>first|(cases hz;done)|skip
   rename_i c n l
   obtain⟨e1,e2,rfl⟩:=h2.av_inv
   have e3:∀l:List (U c),(Value.agg (l.map (sv c)).toArray).cells.toList=l.map (sv c):=fun l=>by simp[Value.cells]
   rw[e3]
   rw[Ase] at he
   cases hb:Nat.blt off n with
   | true=>
    rw[hb,cond_true] at he
    have hlt:off <n:=Nat.le_of_ble_eq_true hb
    split at he<;>first|(cases he;done)|skip
    rename_i d ps' hd
    cases he
    have h5:=Ti hd hp _ (HL.cons hu HL.nil)
    rw[Wk e1] at h5
    obtain⟨v',vs',q1,q2,q3⟩:=h5.inv
    have hw:w=sv c d:=by
     cases q1
     exact q2.v_inv
    refine⟨by rw[List.length_append,List.length_map];omega,_,t,?_,.av e1 (by rw[List.length_set];exact e2),fun e=>(by cases e),h4⟩
    rw[e3,List.map_set,List.set_append_left _ _ (by rw[List.length_map];omega),hw]
   | false=>
    rw[hb,cond_false] at he
    have hge:n≤off:=by
     rcases Nat.lt_or_ge off n with h|h
     ·have:Nat.blt off n=true:=Nat.ble_eq_true_of_le h
      rw[hb] at this
      cases this
     ·exact h
    split at he<;>first|(cases he;done)|skip
    rename_i r' ps' hr
    cases he
    obtain⟨g1,g2⟩:=OR hu h1c h4 hr hp
    refine⟨by rw[List.length_append,List.length_map];omega,_,_,?_,.av e1 e2,fun e=>(by cases e),g2⟩
    rw[e3,List.set_append_right _ _ (by rw[List.length_map];omega),List.length_map,e2]
theorem Ak0 {c:TC} (h:c.one=true) (d:U c):(sv c d).oneCell'=true:=by cases c<;>first|rfl|cases h
theorem HW.one:∀{xs:List A} {us:List Value},HW F N nx R xs us→∀v∈us,v.oneCell'=true
 | [],_,h,v,hv=>by rw[show _=[] from h] at hv;cases hv
 | x::r,_,⟨w,t,h1,h2,h3,h4⟩,v,hv=>by
  subst h1
  rcases List.mem_append.1 hv with hv|hv
  ·cases hx:HH x with
   |false=>
    rw[FY (h3 hx)] at hv
    rw[List.mem_singleton.1 hv]
    exact h3 hx
   |true=>
    cases x<;>first|(cases hx;done)|skip
    rename_i c n l
    obtain⟨e1,_,rfl⟩:=h2.av_inv
    have e3:(Value.agg (l.map (sv c)).toArray).cells.toList=l.map (sv c):=by simp[Value.cells]
    rw[e3] at hv
    obtain⟨d,_,rfl⟩:=List.mem_map.1 hv
    exact Ak0 e1 d
  ·exact HW.one h4 v hv
theorem Ahq:∀{ys:List A} {ws:List Value},HL F N nx R ys ws→(∀w∈ws,w.oneCell'=true)→∀{xs xs':List A} {us:List Value} {off:Nat} {ps:List Prop},HW F N nx R xs us→Akl ys xs off=some (xs',ps)→(∀p∈ps,p)→off≤us.length→
  off+ws.length≤us.length∧HW F N nx R xs' (us.take off++ws++us.drop (off+ws.length))
 | [],_,hy,_,xs,xs',us,off,ps,h,he,_,hle=>by
  rw[hy.inv0]
  cases he
  refine⟨by simpa using hle,?_⟩
  rw[List.append_nil,List.length_nil,Nat.add_zero,List.take_append_drop]
  exact h
 | u::r,_,hy,h1,xs,xs',us,off,ps,h,he,hp,_=>by
  obtain⟨w,ws,rfl,hu,hr⟩:=hy.inv
  unfold Akl at he
  split at he<;>first|(cases he;done)|skip
  rename_i x1 p1 hs
  split at he<;>first|(cases he;done)|skip
  rename_i x2 p2 ht
  cases he
  obtain⟨g1,g2⟩:=OR hu (h1 w (List.mem_cons_self ..)) h hs fun p hm=>hp p (List.mem_append.2 (.inl hm))
  obtain⟨g3,g4⟩:=Ahq hr (fun v hv=>h1 v (List.mem_cons_of_mem _ hv)) g2 ht (fun p hm=>hp p (List.mem_append.2 (.inr hm))) (by rw[List.length_set];omega)
  rw[List.length_set] at g3
  refine⟨by rw[List.length_cons];omega,?_⟩
  have e1:(us.set off w).take (off+1)=us.take off++[w]:=by
   rw[List.take_add_one,List.take_set_of_le (Nat.le_refl _),List.getElem?_set_self g1]
   rfl
  have e2:(us.set off w).drop (off+1+ws.length)=us.drop (off+(w::ws).length):=by
   rw[List.drop_set_of_lt (by omega),List.length_cons]
   congr 1
   omega
  rw[e1,e2] at g4
  simpa using g4
theorem Ao5 {f:(c:TC)→Nat→List (U c)→Option (List (U c)×List Prop)} {x:A} {r:List A} {off:Nat} (h:HH x=false):MK f (x::r) off=match off with
  |0=>none
  |o+1=>match MK f r o with
   |some (r',ps)=>some (x::r',ps)
   |none=>none:=by
 cases x<;>first|rfl|cases h
theorem KV {f:(c:TC)→Nat→List (U c)→Option (List (U c)×List Prop)}:∀{xs xs':List A} {us:List Value} {off:Nat} {ps:List Prop},HW F N nx R xs us→MK f xs off=some (xs',ps)→
  ∃c n l l',f c n l=some (l',ps)∧c.one=true∧l.length=n∧off+n≤us.length∧(∀k d,l[k]?=some d→us[off+k]?=some (sv c d))∧(l'.length=n→HW F N nx R xs' (us.take off++l'.map (sv c)++us.drop (off+n)))
 | [],_,_,_,_,_,he=>by cases he
 | z ::r,xs',_,off,ps,⟨v,t,h1,h2,h3,h4⟩,he=>by
  subst h1
  cases hz:HH z with
  | false=>
   rw[Ao5 hz] at he
   rw[FY (h3 hz)]
   cases off with
   |zero=>cases he
   | succ o=>
    simp only at he
    split at he<;>first|(cases he;done)|skip
    rename_i r' ps' hr
    cases he
    obtain⟨c,n,l,l',q1,q2,q3,q4,q5,q6⟩:=KV h4 hr
    refine⟨c,n,l,l',q1,q2,q3,by simp;omega,fun k d hd=>?_,fun hl=>⟨v,_,?_,h2,h3,q6 hl⟩⟩
    ·rw[show o+1+k=(o+k)+1 by omega]
     simpa using q5 k d hd
    ·rw[FY (h3 hz),show o+1+n=(o+n)+1 by omega]
     simp
  | true=>
   cases z<;>first|(cases hz;done)|skip
   rename_i c n l
   obtain⟨e1,e2,rfl⟩:=h2.av_inv
   have e3:∀l:List (U c),(Value.agg (l.map (sv c)).toArray).cells.toList=l.map (sv c):=fun l=>by simp[Value.cells]
   have he':(bif Nat.beq off 0 then(match f c n l with
    |some (l',ps)=>some (A.av c n l'::r,ps)
    |none=>none) else bif Nat.blt off n then none else(match MK f r (off - n) with
    |some (r',ps)=>some (A.av c n l::r',ps)
    |none=>none))=some (xs',ps):=he
   rw[e3]
   cases h0:Nat.beq off 0 with
   | true=>
    rw[h0,cond_true] at he'
    obtain rfl:=Nat.eq_of_beq_eq_true h0
    split at he'<;>first|(cases he';done)|skip
    rename_i l' ps' hf
    cases he'
    refine⟨c,n,l,l',hf,e1,e2,by rw[List.length_append,List.length_map];omega,fun k d hd=>?_,fun hl=>⟨_,t,?_,.av e1 hl,fun e=>(by cases e),h4⟩⟩
    ·have hk:=(List.getElem?_eq_some_iff.1 hd).1
     rw[Nat.zero_add,List.getElem?_append_left (by rw[List.length_map];exact hk),List.getElem?_map,hd]
     rfl
    ·rw[e3,List.take_zero,List.nil_append,Nat.zero_add,List.drop_append_of_le_length (by rw[List.length_map];omega),List.drop_of_length_le (by rw[List.length_map];omega),List.nil_append]
   | false=>
    rw[h0,cond_false] at he'
    cases hb:Nat.blt off n with
    |true=>rw[hb] at he';cases he'
    | false=>
     rw[hb,cond_false] at he'
     have hge:n≤off:=by
      rcases Nat.lt_or_ge off n with h|h
      ·have:Nat.blt off n=true:=Nat.ble_eq_true_of_le h
       rw[hb] at this
       cases this
      ·exact h
     split at he'<;>first|(cases he';done)|skip
     rename_i r' ps' hr
     cases he'
     have idx:∀m,(l.map (sv c)++t)[n+m]?=t[m]?:=fun m=>by
      rw[List.getElem?_append_right (by rw[List.length_map];omega),List.length_map,e2,Nat.add_sub_cancel_left]
     obtain⟨c',n',l1,l',q1,q2,q3,q4,q5,q6⟩:=KV h4 hr
     refine⟨c',n',l1,l',q1,q2,q3,by rw[List.length_append,List.length_map];omega,fun k d hd=>?_,fun hl=>⟨_,_,?_,.av e1 e2,fun e=>(by cases e),q6 hl⟩⟩
     ·rw[show off+k=n+(off - n+k) by omega,idx]
      exact q5 k d hd
     ·have t1:(l.map (sv c)++t).take off=l.map (sv c)++t.take (off - n):=by
       rw[List.take_append,List.take_of_length_le (by rw[List.length_map];omega),List.length_map,e2]
      have t2:(l.map (sv c)++t).drop (off+n')=t.drop (off - n+n'):=by
       rw[List.drop_append,List.drop_of_length_le (by rw[List.length_map];omega),List.length_map,e2,List.nil_append]
       congr 1
       omega
      rw[e3,t1,t2]
      simp
end
def Abk (E:Env) (s:St) (G:Guards) (t:TypeId) (x:Operand):R2:=
 match s.ev G x with
 | some (.own i off)=>match Ak i s.o with
  |some (.box _ cs)=>match SN E.P t (cs.drop off) with
   |some z=>some (z,[])
   |none=>none
  |some (.rcd _ xs)=>match Akm E.P t xs off with
   |some z=>some (z,[])
   |none=>none
  |_=>none
 | some (.ownx i base len k)=>match Ak i s.o with
  |some (.box _ cs)=>match Zy E.P t with
   |some false=>bif Nat.ble (base+len) cs.length then some (A40 k 0 ((cs.drop base).take len),[k <len]) else none
   |_=>none
  | some (.rcd _ xs)=>match Zy E.P t,Q3 xs base with
   |some false,some (.av c n l,0)=>bif Nat.beq n len then some (.v (sv c (l.getD k (Aj c))),[k <len]) else none
   |some true,some (.av c n l,0)=>match DG E.P t with
    |some m=>bif Nat.beq n len then some (.av c m ((l.drop k).take m),[k+m≤len]) else none
    |none=>none
   |_,_=>none
  |_=>none
 | some (.el i k sz off)=>match Ak i s.o with
  |some (.arr _ size els)=>bif Nat.beq size sz then(match SN E.P t ((els.nth k).drop off) with
   |some z=>wth z (ZT E.lit (k <els.n))
   |none=>none) else none
  |_=>none
 |some (.ref l)=>match SN E.P t l with
  |some z=>some (z,[])
  |none=>none
 | some (.de i k sz off)=>match Ak i s.o with
  |some (.deep _ c l)=>bif Nat.beq (size c) sz then(match SN E.P t ((Kz i k (enc c (l.getD k (Aj c)))).drop off) with
   |some z=>wth z (ZT E.lit (k <l.length))
   |none=>none) else none
  |_=>none
 | some (.ie i k j sz off)=>match Ak i s.o with
  | some (.deep _ c l)=>match Ae0 c (l.getD k (Aj c)) with
   |some ⟨c',l'⟩=>bif Nat.beq (size c') sz then(match SN E.P t ((enc c' (l'.getD j (Aj c'))).drop off) with
    |some z=>wth z (ZT E.lit (k <l.length∧j <l'.length))
    |none=>none) else none
   |none=>none
  |_=>none
 |_=>none
section
variable {E:Env} {Z:Base} {F:Nat→Prop} {N:Nm} {s:St} {a:Act} {R:World} {G:Guards}
theorem HC.drop {nx:Nat} (n:Nat) {l:List A} {ad:Addr} (h:HC F N nx R l ad):HC F N nx R (l.drop n) (ad.add n):=fun j x hx=>by
 rw[List.getElem?_drop] at hx
 rw[BU]
 exact h (n+j) x hx
theorem HC.cells {nx:Nat}:∀{l:List A} {ad:Addr},HC F N nx R l ad→∃vs,HL F N nx R l vs∧∀j v,vs[j]?=some v→R.cell? (ad.add j)=some v
 | [],_,_=>⟨[],HL.nil,fun j v h=>by cases j<;>cases h⟩
 | x::r,ad,h=>by
  obtain⟨⟨u,h1,h2⟩,h3⟩:=HC.cons.1 h
  obtain⟨vs,h4,h5⟩:=HC.cells h3
  refine⟨u::vs,HL.cons h2 h4,fun j v hj=>?_⟩
  cases j with
  |zero=>cases hj;rw[add_zero];exact h1
  |succ j=>
   have:=h5 j v hj
   rw[BU,Nat.add_comm] at this
   exact this
theorem Hv.own_inv {nx i off:Nat} {y:Value} (h:Hv F N nx R (.own i off) y):i <nx∧y=.pointer (some ⟨N.b i,off,none⟩):=by
 cases h with|own h=>exact⟨h,rfl⟩
theorem Hv.ownx_inv {nx i base len k:Nat} {y:Value} (h:Hv F N nx R (.ownx i base len k) y):i <nx∧y=.pointer (some ⟨N.b i,base+k,none⟩):=by
 cases h with|ownx h=>exact⟨h,rfl⟩
theorem Hv.sq_inv {nx i:Nat} {y:Value} (h:Hv F N nx R (.sq i) y):i <nx∧y=N.q i:=by
 cases h with|sq h=>exact⟨h,rfl⟩
theorem Hv.mp_inv {nx i:Nat} {y:Value} (h:Hv F N nx R (.mp i) y):i <nx∧y=.map (some (N.b i)):=by
 cases h with|mp h=>exact⟨h,rfl⟩
theorem Hv.el_inv {nx i k size off:Nat} {y:Value} (h:Hv F N nx R (.el i k size off) y):i <nx∧y=.pointer (some ((DZ (N.q i)).add (k*size+off))):=by
 cases h with|el h=>exact⟨h,rfl⟩
theorem Hv.vw_inv {nx i size lo n:Nat} {full:Bool} {y:Value} (h:Hv F N nx R (.vw i size lo n full) y):i <nx∧∃a cap,y=.slice a n cap∧n≤cap∧(full=true→cap=n)∧(0 <n→a=some ((DZ (N.q i)).add (lo*size))):=by
 cases h with|vw h h1 h2 h3=>exact⟨h,_,_,rfl,h1,h2,h3⟩
theorem Hv.dq_inv {nx i:Nat} {y:Value} (h:Hv F N nx R (.dq i) y):i <nx∧y=J2 (N.q i) 0:=by
 cases h with|dq h=>exact⟨h,rfl⟩
theorem Hv.iv_inv {nx i k:Nat} {y:Value} (h:Hv F N nx R (.iv i k) y):i <nx∧y=J2 (N.q i) (k+1):=by
 cases h with|iv h=>exact⟨h,rfl⟩
theorem Hv.de_inv {nx i k size off:Nat} {y:Value} (h:Hv F N nx R (.de i k size off) y):i <nx∧y=.pointer (some ((DZ (J2 (N.q i) 0)).add (k*size+off))):=by
 cases h with|de h=>exact⟨h,rfl⟩
theorem Hv.ie_inv {nx i k j size off:Nat} {y:Value} (h:Hv F N nx R (.ie i k j size off) y):i <nx∧y=.pointer (some ((DZ (J2 (N.q i) (k+1))).add (j*size+off))):=by
 cases h with|ie h=>exact⟨h,rfl⟩
theorem Azg (h:Rel Z F N s a R) (hG:KQ (A1 a) G) {t:TypeId} {x:Operand} {f:Nat} {z:A} {ps:List Prop} (he:Aq5 E s G t x f=some (z,ps)):
  z.plain=true∧∃y,Hv F N s.nx R z y∧∀R',(Instr.fieldAt t (a.eval x) f).run E.P R'=.ok y R':=by
 unfold Aq5 at he
 split at he<;>first|(cases he;done)|skip
 rename_i fs hu
 split at he<;>first|(cases he;done)|skip
 rename_i fd hf
 split at he<;>first|(cases he;done)|skip
 rename_i n hn
 cases h0:Nat.beq n 0 with
 |true=>rw[h0] at he;cases he
 | false=>
  rw[h0] at he
  simp only[cond_false] at he
  have hn0:n≠0:=fun e=>by subst e;simp at h0
  split at he<;>first|(cases he;done)|skip
  ·rename_i i off hx
   have hx':=(AQ h hG hx).2.own_inv
   cases he
   exact⟨rfl,_,.own hx'.1,fun R'=>by rw[JW hu hf hn hn0 hx'.2,Bv]⟩
  ·rename_i i k sz off hx
   have hx':=(AQ h hG hx).2.el_inv
   cases he
   exact⟨rfl,_,.el hx'.1,fun R'=>by rw[JW hu hf hn hn0 hx'.2,BU,Nat.add_assoc]⟩
  ·rename_i l hx
   obtain⟨ad,h1,h2,h3⟩:=(AQ h hG hx).2.ref_inv
   cases he
   exact⟨rfl,_,Hv.of_ref (by rw[Gj];exact h2) (h3.drop _),fun R'=>JW hu hf hn hn0 h1⟩
  ·rename_i i k sz off hx
   have hx':=(AQ h hG hx).2.de_inv
   cases he
   exact⟨rfl,_,.de hx'.1,fun R'=>by rw[JW hu hf hn hn0 hx'.2,BU,Nat.add_assoc]⟩
  ·rename_i i k j sz off hx
   have hx':=(AQ h hG hx).2.ie_inv
   cases he
   exact⟨rfl,_,.ie hx'.1,fun R'=>by rw[JW hu hf hn hn0 hx'.2,BU,Nat.add_assoc]⟩
theorem EE {e:TypeId} {size n:Nat} {v:Value} {zs:List Value} (h:OwnR R e size v n zs) (hn:0 <n):∃g c,v=.slice (some ⟨g,0,none⟩) n c∧n≤c∧DZ v=⟨g,0,none⟩∧BO v=some g∧∀j u,zs[j]?=some u→R.cell? ⟨g,j,none⟩=some u:=by
 rcases h.2 with⟨_,_,h0⟩|⟨g,cap,cur,h1,h3,h4,_,h6,h7⟩
 ·omega
 ·refine⟨g,cap+1,h1,h4,by rw[h1];rfl,by rw[h1];rfl,fun j u hu=>?_⟩
  rw[BZ h3]
  rw[←h7] at hu
  rw[List.getElem?_take] at hu
  split at hu<;>first|(cases hu;done)|skip
  rwa[Array.getElem?_toList] at hu
theorem A3i (h:HRel F N s.nx s.o R) {i sz m:Nat} (he:Ay4 s.o i sz=some m):i <s.nx∧∃e zs,OwnR R e sz (N.q i) m zs:=by
 unfold Ay4 at he
 split at he<;>first|(cases he;done)|skip
 rename_i e size els hl
 obtain⟨h1,h2⟩:=h.ob i _ hl
 cases hb:Nat.beq size sz with
 |false=>rw[hb] at he;cases he
 |true=>
  rw[hb] at he
  cases he
  obtain rfl:=Nat.eq_of_beq_eq_true hb
  obtain⟨zs,h3,_⟩:=h2
  exact⟨h1,e,zs,h3⟩
theorem getD_some {α:Type} {l:List α} {k:Nat} {d:α} (h:k <l.length):l[k]?=some (l.getD k d):=by
 rw[List.getD_eq_getElem?_getD,List.getElem?_eq_getElem h]
 rfl
theorem Uw {nx:Nat} {o:Objs} (h:HRel F N nx o R) {i:Nat} {e:TypeId} {c:TC} {l:List (U c)} (hl:Ak i o=some (.deep e c l)):
  i <nx∧∃zs,OwnR R e (size c) (J2 (N.q i) 0) l.length zs∧∀k,k <l.length→HL F N nx R (Kz i k (enc c (l.getD k (Aj c)))) ((zs.drop (k*size c)).take (size c)):=by
 obtain⟨h1,col,c',zs,h2,h3,h4,_⟩:=h.ob i _ hl
 exact⟨h1,zs,h3,fun k hk=>h4 k _ (getD_some hk)⟩
theorem Uv {nx:Nat} {o:Objs} (h:HRel F N nx o R) {i k:Nat} {e:TypeId} {c c':TC} {l:List (U c)} {l':List (U c')} (hl:Ak i o=some (.deep e c l)) (hk:k <l.length) (hi:Ae0 c (l.getD k (Aj c))=some ⟨c',l'⟩):
  ∃e' us,OwnR R e' (size c') (J2 (N.q i) (k+1)) l'.length us∧∀j,j <l'.length→HL F N nx R (enc c' (l'.getD j (Aj c'))) ((us.drop (j*size c')).take (size c')):=by
 obtain⟨h1,col,c1,zs,h2,h3,h4,h5,_⟩:=h.ob i _ hl
 obtain⟨l1,e',us,g1,g2,g3⟩:=h5 k _ (getD_some hk)
 unfold Ae0 at hi
 rw[h2] at hi
 simp only at hi
 rw[g1] at hi
 cases hi
 exact⟨e',us,g2,g3⟩
theorem Azx (h:Rel Z F N s a R) (hG:KQ (A1 a) G) {t:TypeId} {x i:Operand} {z:A} {ps:List Prop} (he:Are E s G t x i=some (z,ps)) (hp:∀p∈ps,p):
  z.plain=true∧∃y,Hv F N s.nx R z y∧∀R',(Instr.indexAt t (a.eval x) (a.eval i)).run E.P R'=.ok y R':=by
 unfold Are at he
 split at he<;>first|(cases he;done)|skip
 rename_i k n hi
 rw[CS h hG hi]
 split at he<;>first|(cases he;done)|skip
 ·rename_i len e hu
  split at he<;>first|(cases he;done)|skip
  rename_i sz hsz
  split at he
  ·rename_i gt hgt
   cases hb:(Nat.beq sz 1&&Nat.beq gt.l.length len) with
   |false=>rw[hb] at he;cases he
   | true=>
    rw[hb] at he
    rw[Bool.and_eq_true] at hb
    obtain rfl:=Nat.eq_of_beq_eq_true hb.1
    have hlen:=Nat.eq_of_beq_eq_true hb.2
    obtain⟨rfl,hd⟩:=B4 he
    obtain⟨h0,h1⟩:=FP hd hp
    obtain⟨g,rfl,hm⟩:=Azs hgt
    obtain⟨g1,tt,g2⟩:=h.hp.gl _ hm
    refine⟨rfl,.pointer (some ⟨g,n.toNat*1,none⟩),Hv.of_ref g1 fun j x hx=>?_,fun R'=>?_⟩
    ·rw[Wk gt.one] at hx
     cases j with
     |succ j=>cases hx
     |zero=>
      cases hx
      refine⟨sv gt.c (gt.l.getD n.toNat (Aj gt.c)),?_,.v _⟩
      have hn:n.toNat <gt.l.length:=by omega
      rw[Bv,BZ g2,Nat.mul_one,Nat.add_zero]
      simp[List.getD_eq_getElem?_getD,List.getElem?_eq_getElem hn]
    ·have:=DC (R:=R') (k:=k) hu hsz (x:=a.eval (.global g)) (ad:=⟨g,0,none⟩) rfl h0 h1
     rw[this,Bv,Nat.zero_add]
  split at he<;>first|(cases he;done)|skip
  ·rename_i b off hx
   have hx':=(AQ h hG hx).2.own_inv
   cases hc:(E.lit||Jv i) with
   |true=>
    rw[hc] at he
    obtain⟨rfl,hd⟩:=B4 he
    obtain⟨h0,h1⟩:=FP hd hp
    exact⟨rfl,_,.own hx'.1,fun R'=>by rw[DC hu hsz hx'.2 h0 h1,Bv]⟩
   | false=>
    rw[hc] at he
    simp only[cond_false] at he
    cases hb:Nat.beq sz 1 with
    |false=>
     rw[hb] at he
     cases he
     obtain⟨h0,h1⟩:0≤n∧n <(len:Int):=hp _ (by simp)
     exact⟨rfl,_,.ownx hx'.1,fun R'=>by rw[DC hu hsz hx'.2 h0 h1,Bv]⟩
    |true=>
     rw[hb] at he
     obtain rfl:=Nat.eq_of_beq_eq_true hb
     cases he
     obtain⟨h0,h1⟩:0≤n∧n <(len:Int):=hp _ (by simp)
     exact⟨rfl,_,.ownx hx'.1,fun R'=>by rw[DC hu hsz hx'.2 h0 h1,Bv,Nat.mul_one]⟩
  ·rename_i b kk zz off hx
   have hx':=(AQ h hG hx).2.el_inv
   cases hb:(Nat.beq zz sz&&Nat.beq off 0) with
   |true=>
    rw[hb] at he
    obtain⟨rfl,hd⟩:=B4 he
    obtain⟨h0,h1⟩:=FP hd hp
    rw[Bool.and_eq_true] at hb
    obtain rfl:=Nat.eq_of_beq_eq_true hb.1
    obtain rfl:=Nat.eq_of_beq_eq_true hb.2
    exact⟨rfl,_,.el hx'.1,fun R'=>by rw[DC hu hsz hx'.2 h0 h1,BU,Nat.add_zero,Nat.add_zero,Nat.add_mul]⟩
   |false=>
    rw[hb] at he
    obtain⟨rfl,hd⟩:=B4 he
    obtain⟨h0,h1⟩:=FP hd hp
    exact⟨rfl,_,.el hx'.1,fun R'=>by rw[DC hu hsz hx'.2 h0 h1,BU,Nat.add_assoc]⟩
  ·rename_i l hx
   obtain⟨ad,g1,g2,g3⟩:=(AQ h hG hx).2.ref_inv
   split at he
   ·rename_i ns hns
    cases hc:(E.lit||Jv i) with
    |true=>rw[hc] at hns;cases hns
    | false=>
     rw[hc,cond_false] at hns
     obtain⟨rfl,q⟩:=A0t hns
     cases he
     obtain⟨h0,h1⟩:0≤n∧n <(len:Int):=hp _ (List.mem_singleton.2 rfl)
     refine⟨rfl,_,Hv.of_ref (by rw[Gj];exact g2) (fun j x hx=>?_),fun R'=>DC hu hsz g1 h0 h1⟩
     cases j with
     |succ j=>cases hx
     |zero=>
      cases hx
      exact(g3.drop (n.toNat*1)) 0 _ (by rw[List.getElem?_drop,Nat.mul_one,Nat.add_zero];exact q _ (by omega))
   obtain⟨rfl,hd⟩:=B4 he
   obtain⟨h0,h1⟩:=FP hd hp
   exact⟨rfl,_,Hv.of_ref (by rw[Gj];exact g2) (g3.drop _),fun R'=>DC hu hsz g1 h0 h1⟩
 ·rename_i e hu
  split at he<;>first|(cases he;done)|skip
  rename_i sz hsz
  split at he<;>first|(cases he;done)|skip
  ·rename_i b hx
   have hx':=(AQ h hG hx).2.sq_inv
   cases hlg:(Az8 s.o b&&!(E.lit||Jv i)) with
   |true=>rw[hlg] at he;cases he
   |false=>
   rw[hlg,cond_false] at he
   split at he<;>first|(cases he;done)|skip
   rename_i m hm
   obtain⟨rfl,hd⟩:=B4 he
   obtain⟨h0,h1⟩:=FP hd hp
   obtain⟨g1,e',zs,g2⟩:=A3i h.hp hm
   obtain⟨g,c,q1,q2,q3,_,_⟩:=EE g2 (by omega)
   refine⟨rfl,_,.el g1,fun R'=>?_⟩
   rw[Hb hu hsz (hx'.2.trans q1) h0 h1,q3]
   rfl
  ·rename_i b zz lo m fu hx
   have hx':=(AQ h hG hx).2.vw_inv
   split at he<;>first|(cases he;done)|skip
   rename_i m' hm
   cases hb:Nat.beq zz sz with
   |false=>rw[hb] at he;cases he
   |true=>
    rw[hb] at he
    obtain rfl:=Nat.eq_of_beq_eq_true hb
    obtain⟨rfl,hd⟩:=B4 he
    obtain⟨h0,h1⟩:=FP hd hp
    obtain⟨g1,aa,c,q1,q2,_,q3⟩:=hx'
    rw[q3 (by omega)] at q1
    refine⟨rfl,_,.el g1,fun R'=>?_⟩
    rw[Hb hu hsz q1 h0 h1,BU,Nat.add_zero,Nat.add_mul]
  ·rename_i c l hx
   obtain⟨aa,cap,q1,q2,q3⟩:=(AQ h hG hx).2.sl_inv
   cases hb:Nat.beq (size c) sz with
   |false=>rw[hb] at he;cases he
   |true=>
    rw[hb] at he
    obtain rfl:=Nat.eq_of_beq_eq_true hb
    obtain⟨rfl,hd⟩:=B4 he
    obtain⟨h0,h1⟩:=FP hd hp
    obtain⟨ad,rfl,q4,q5⟩:=q3 (by omega)
    have hlt:n.toNat <l.length:=by omega
    refine⟨rfl,_,Hv.of_ref (by rw[Gj];exact q4) (q5 n.toNat _ ?_),fun R'=>Hb hu hsz q1 h0 h1⟩
    rw[List.getD_eq_getElem?_getD,List.getElem?_eq_getElem hlt]
    rfl
  ·rename_i b hx
   have hx':=(AQ h hG hx).2.dq_inv
   split at he<;>first|(cases he;done)|skip
   rename_i e' c l hl
   cases hb:Nat.beq (size c) sz with
   |false=>rw[hb] at he;cases he
   |true=>
    rw[hb] at he
    obtain rfl:=Nat.eq_of_beq_eq_true hb
    obtain⟨rfl,hd⟩:=B4 he
    obtain⟨h0,h1⟩:=FP hd hp
    obtain⟨g1,zs,g2,_⟩:=Uw h.hp hl
    obtain⟨g,cc,q1,q2,q3,_,_⟩:=EE g2 (by omega)
    refine⟨rfl,_,.de g1,fun R'=>?_⟩
    rw[Hb hu hsz (hx'.2.trans q1) h0 h1,q3]
    rfl
  ·rename_i b k hx
   have hx':=(AQ h hG hx).2.iv_inv
   split at he<;>first|(cases he;done)|skip
   rename_i e' c l hl
   split at he<;>first|(cases he;done)|skip
   rename_i c' l' hin
   cases hb:Nat.beq (size c') sz with
   |false=>rw[hb] at he;cases he
   |true=>
    rw[hb] at he
    obtain rfl:=Nat.eq_of_beq_eq_true hb
    obtain⟨rfl,hd⟩:=B4 he
    obtain⟨hk,h0,h1⟩:=FP hd hp
    obtain⟨e2,us,g2,_⟩:=Uv h.hp hl hk hin
    obtain⟨g,cc,q1,q2,q3,_,_⟩:=EE g2 (by omega)
    refine⟨rfl,_,.ie hx'.1,fun R'=>?_⟩
    rw[Hb hu hsz (hx'.2.trans q1) h0 h1,q3]
    rfl
theorem NQ {nx:Nat} {t:TypeId} {l:List A} {z:A} {ad:Addr} {vs:List Value} (he:SN E.P t l=some z) (hl:HL F N nx R l vs):
  ∃y,Hv F N nx R z y∧∀R',(∀j v,vs[j]?=some v→R'.cell? (ad.add j)=some v)→(loadVar t ad).run E.P R'=.ok y R':=by
 unfold SN at he
 split at he<;>first|(cases he;done)|skip
 ·rename_i hr
  split at he<;>first|(cases he;done)|skip
  rename_i n hn
  cases hb:Nat.ble n l.length with
  |false=>rw[hb] at he;cases he
  | true=>
   rw[hb] at he
   cases he
   have hle:=Nat.le_of_ble_eq_true hb
   have hlen:=hl.length
   refine⟨_,N9 (hl.take n),fun R' hc=>GL hr ?_ fun j v hv=>?_⟩
   ·rw[hn,List.length_take]
    congr 1
    omega
   ·rw[List.getElem?_take] at hv
    split at hv<;>first|(cases hv;done)|skip
    exact hc j v hv
 ·rename_i hr
  split at he<;>first|(cases he;done)|skip
  cases he
  obtain⟨v,us,rfl,h1,_⟩:=hl.inv
  exact⟨v,h1,fun R' hc=>HV hr (by have:=hc 0 v rfl;rwa[add_zero] at this)⟩
theorem KY {R':World} (hb:Below R.heap.size R R') {ad:Addr} {v:Value} (h:R.cell? ad=some v):R'.cell? ad=some v:=by
 have hlt:ad.block <R.heap.size:=World.block_lt_of_cell? R ad h
 rw[World.cell?_of_block (hb.block _ hlt)]
 exact h
theorem KW {zs:List Value} {k size j:Nat} {v:Value} (h:((zs.drop (k*size)).take size)[j]?=some v):zs[k*size+j]?=some v:=by
 rw[List.getElem?_take] at h
 split at h<;>first|(cases h;done)|skip
 rwa[List.getElem?_drop] at h
theorem Auj (h:Rel Z F N s a R) (hG:KQ (A1 a) G) {t:TypeId} {x:Operand} {z:A} {ps:List Prop} (he:Abk E s G t x=some (z,ps)) (hp:∀p∈ps,p):
  ∃y,Hv F N s.nx R z y∧∀R',Below R.heap.size R R'→(Instr.loadAt t (a.eval x)).run E.P R'=.ok y R':=by
 unfold Abk at he
 split at he<;>first|(cases he;done)|skip
 ·rename_i i off hx
  have hx':=(AQ h hG hx).2.own_inv
  split at he<;>first|(cases he;done)|skip
  rename_i e cs hl
  split at he<;>first|(cases he;done)|skip
  rename_i z' hz
  cases he
  obtain⟨_,vs,g1,g2⟩:=h.hp.ob i _ hl
  obtain⟨y,q1,q2⟩:=NQ (ad:=⟨N.b i,off,none⟩) hz (g1.drop off)
  refine⟨y,q1,fun R' hb=>?_⟩
  rw[Ge hx'.2]
  refine q2 R' fun j v hj=>?_
  rw[Bv,BZ (CV g2 hb)]
  rw[List.getElem?_drop] at hj
  simpa using hj
  rename_i e xs hl
  split at he<;>first|(cases he;done)|skip
  rename_i z' hz
  cases he
  obtain⟨_,us,g1,g2⟩:=h.hp.ob i _ hl
  obtain⟨y,q1,q2⟩:=Asd g1 hz
  refine⟨y,q1,fun R' hb=>?_⟩
  rw[Ge hx'.2]
  have:=q2 ⟨N.b i,0,none⟩ R' fun j v hj=>by
   rw[Bv,Nat.zero_add,BZ (CV g2 hb)]
   simpa using hj
  rwa[Bv,Nat.zero_add] at this
 ·rename_i i base len k hx
  have hx':=(AQ h hG hx).2.ownx_inv
  split at he<;>first|(cases he;done)|skip
  rotate_left
  ·rename_i e xs hl
   split at he<;>first|(cases he;done)|skip
   rename_i c n l hr hat
   cases hb:Nat.beq n len with
   |false=>rw[hb] at he;cases he
   | true=>
    rw[hb] at he
    cases he
    obtain rfl:=Nat.eq_of_beq_eq_true hb
    have hk:k <n:=hp _ (by simp)
    obtain⟨_,us,g1,g2⟩:=h.hp.ob i _ hl
    rcases NR g1 hat with⟨q1,_⟩|⟨c',n',l',q1,q2,q3,q4,q5,q6⟩
    ·cases q1
    ·cases q1
     refine⟨_,.v _,fun R' hb'=>?_⟩
     rw[Ge hx'.2]
     refine HV hr ?_
     rw[BZ (CV g2 hb')]
     have:=q6 k _ (At6 (Aj c) (by omega))
     rw[Nat.sub_zero] at this
     simpa using this
   rename_i c n l hr hat
   split at he<;>first|(cases he;done)|skip
   rename_i m hm
   cases hb:Nat.beq n len with
   |false=>rw[hb] at he;cases he
   | true=>
    rw[hb] at he
    cases he
    obtain rfl:=Nat.eq_of_beq_eq_true hb
    have hk:k+m≤n:=hp _ (by simp)
    obtain⟨_,us,g1,g2⟩:=h.hp.ob i _ hl
    rcases NR g1 hat with⟨q1,_⟩|⟨c',n',l',q1,q2,q3,q4,q5,q6⟩
    ·cases q1
    ·cases q1
     have hml:((l.drop k).take m).length=m:=by rw[List.length_take,List.length_drop];omega
     refine⟨_,.av q2 hml,fun R' hb'=>?_⟩
     rw[Ge hx'.2]
     refine GL hr (by rw[hm,List.length_map,hml]) fun j v hj=>?_
     rw[List.getElem?_map,List.getElem?_take] at hj
     split at hj
     ·rename_i hjm
      rw[List.getElem?_drop] at hj
      cases hd:l[k+j]? with
      |none=>rw[hd] at hj;cases hj
      |some d=>
       rw[hd] at hj
       cases hj
       have:=q6 (k+j) _ hd
       rw[Nat.sub_zero] at this
       rw[Bv,BZ (CV g2 hb')]
       rw[show base+k+j=base+(k+j) from by omega]
       simpa using this
     ·cases hj
  rename_i e cs hl
  split at he<;>first|(cases he;done)|skip
  rename_i hr
  cases hb:Nat.ble (base+len) cs.length with
  |false=>rw[hb] at he;cases he
  |true=>
   rw[hb] at he
   cases he
   have hk:k <len:=hp _ (by simp)
   obtain⟨_,vs,g1,g2⟩:=h.hp.ob i _ hl
   have hle:=Nat.le_of_ble_eq_true hb
   have hlen:=g1.length
   have hkv:k <((vs.drop base).take len).length:=by rw[List.length_take,List.length_drop];omega
   refine⟨((vs.drop base).take len)[k],Au7 ((g1.drop base).take len) (Nat.zero_le _) (by rw[List.length_take,List.length_drop];omega) (by rw[Nat.sub_zero];exact List.getElem?_eq_getElem hkv),fun R' hb'=>?_⟩
   rw[Ge hx'.2]
   refine HV hr ?_
   rw[BZ (CV g2 hb')]
   have:=List.getElem?_eq_getElem hkv
   rw[List.getElem?_take,if_pos hk,List.getElem?_drop] at this
   simp[this]
 ·rename_i i k sz off hx
  have hx':=(AQ h hG hx).2.el_inv
  split at he<;>first|(cases he;done)|skip
  rename_i e size els hl
  cases hb:Nat.beq size sz with
  |false=>rw[hb] at he;cases he
  |true=>
   obtain rfl:=Nat.eq_of_beq_eq_true hb
   rw[hb] at he
   simp only[cond_true] at he
   split at he<;>first|(cases he;done)|skip
   rename_i z' hz
   obtain⟨rfl,hd⟩:=B4 he
   have hk:=FP hd hp
   obtain⟨_,zs,g1,g2⟩:=h.hp.ob i _ hl
   obtain⟨g,c,q1,_,q3,_,q5⟩:=EE g1 (by omega)
   obtain⟨y,r1,r2⟩:=NQ (ad:=(DZ (N.q i)).add (k*size+off)) hz ((g2 k hk).drop off)
   refine⟨y,r1,fun R' hb'=>?_⟩
   rw[Ge hx'.2]
   refine r2 R' fun j v hj=>KY hb' ?_
   rw[List.getElem?_drop] at hj
   have:=q5 _ _ (KW hj)
   rw[BU,q3,Bv,Nat.zero_add,Nat.add_assoc]
   exact this
 ·rename_i l hx
  obtain⟨ad,g1,g2,g3⟩:=(AQ h hG hx).2.ref_inv
  split at he<;>first|(cases he;done)|skip
  rename_i z' hz
  cases he
  obtain⟨vs,g4,g5⟩:=g3.cells
  obtain⟨y,r1,r2⟩:=NQ (ad:=ad) hz g4
  refine⟨y,r1,fun R' hb'=>?_⟩
  rw[Ge g1]
  exact r2 R' fun j v hj=>KY hb' (g5 j v hj)
 ·rename_i i k sz off hx
  have hx':=(AQ h hG hx).2.de_inv
  split at he<;>first|(cases he;done)|skip
  rename_i e c l hl
  cases hb:Nat.beq (size c) sz with
  |false=>rw[hb] at he;cases he
  |true=>
   obtain rfl:=Nat.eq_of_beq_eq_true hb
   rw[hb] at he
   simp only[cond_true] at he
   split at he<;>first|(cases he;done)|skip
   rename_i z' hz
   obtain⟨rfl,hd⟩:=B4 he
   have hk:=FP hd hp
   obtain⟨_,zs,g1,g2⟩:=Uw h.hp hl
   obtain⟨g,cc,q1,_,q3,_,q5⟩:=EE g1 (by omega)
   obtain⟨y,r1,r2⟩:=NQ (ad:=(DZ (J2 (N.q i) 0)).add (k*size c+off)) hz ((g2 k hk).drop off)
   refine⟨y,r1,fun R' hb'=>?_⟩
   rw[Ge hx'.2]
   refine r2 R' fun j v hj=>KY hb' ?_
   rw[List.getElem?_drop] at hj
   have:=q5 _ _ (KW hj)
   rw[BU,q3,Bv,Nat.zero_add,Nat.add_assoc]
   exact this
 ·rename_i i k m sz off hx
  have hx':=(AQ h hG hx).2.ie_inv
  split at he<;>first|(cases he;done)|skip
  rename_i e c l hl
  split at he<;>first|(cases he;done)|skip
  rename_i c' l' hin
  cases hb:Nat.beq (size c') sz with
  |false=>rw[hb] at he;cases he
  |true=>
   obtain rfl:=Nat.eq_of_beq_eq_true hb
   rw[hb] at he
   simp only[cond_true] at he
   split at he<;>first|(cases he;done)|skip
   rename_i z' hz
   obtain⟨rfl,hd⟩:=B4 he
   obtain⟨hk,hm⟩:=FP hd hp
   obtain⟨e2,us,g1,g2⟩:=Uv h.hp hl hk hin
   obtain⟨g,cc,q1,_,q3,_,q5⟩:=EE g1 (by omega)
   obtain⟨y,r1,r2⟩:=NQ (ad:=(DZ (J2 (N.q i) (k+1))).add (m*size c'+off)) hz ((g2 m hm).drop off)
   refine⟨y,r1,fun R' hb'=>?_⟩
   rw[Ge hx'.2]
   refine r2 R' fun j v hj=>KY hb' ?_
   rw[List.getElem?_drop] at hj
   have:=q5 _ _ (KW hj)
   rw[BU,q3,Bv,Nat.zero_add,Nat.add_assoc]
   exact this
end
end Go.Proofs.YtifkbgkbajncjaaDoor
namespace Go.Proofs.YtifkbgkbajncjaaDoor
open Go.RowKit
section runs
variable {P:Program} {R:World}
theorem Ho {k:IntKind} {i:Int} {y:Nat} {c:BoundsCode} (h0:0≤i) (h1:i≤y):(Instr.sliceBound (.int k i) y c).run P R=.ok i.toNat R:=by
 simp[Instr.sliceBound,asIntOf,h0,h1]
def LG (o:Option Value) (d i:Nat):Prop:=(o=none∧i=d)∨∃k n,o=some (.int k n)∧0≤n∧n.toNat=i
theorem OT {b:Bool} {len cap l h m:Nat} {lo hi mx:Option Value} (hl:LG lo 0 l) (hh:LG hi len h) (hm:LG mx cap m) (hmh:mx≠none→hi≠none) (h1:l≤h) (h2:h≤m) (h3:m≤cap):
    (Instr.sliceBounds b len cap lo hi mx).run P R=.ok (l,h,m) R:=by
  rcases hl with⟨rfl,rfl⟩|⟨k1,n1,rfl,a1,rfl⟩<;>rcases hh with⟨rfl,rfl⟩|⟨k2,n2,rfl,a2,rfl⟩<;>rcases hm with⟨rfl,rfl⟩|⟨k3,n3,rfl,a3,rfl⟩<;>
    first
    |(simp[Instr.sliceBounds];done)
    |(simp at hmh;done)
    | (have e1:n1≤(h:Int):=by omega
       simp[Instr.sliceBounds,Ho a1 e1];done)
    | (have e2:n2≤(m:Int):=by omega
       simp[Instr.sliceBounds,Ho a2 e2];done)
    | (have e3:n3≤(cap:Int):=by omega
       have e2:n2≤(n3.toNat:Int):=by omega
       simp[Instr.sliceBounds,Ho a2 e2,Ho a3 e3];done)
    | (have e2:n2≤(m:Int):=by omega
       have e1:n1≤(n2.toNat:Int):=by omega
       simp[Instr.sliceBounds,Ho a2 e2,Ho a1 e1];done)
    | (have e3:n3≤(cap:Int):=by omega
       have e2:n2≤(n3.toNat:Int):=by omega
       have e1:n1≤(n2.toNat:Int):=by omega
       simp[Instr.sliceBounds,Ho a2 e2,Ho a1 e1,Ho a3 e3];done)
theorem OU {t e:TypeId} {a:Option Addr} {len cap sz l h m:Nat} {lo hi mx:Option Value} (ht:P.underlying t=some (.slice e)) (hs:DG P e=some sz)
  (hl:LG lo 0 l) (hh:LG hi len h) (hm:LG mx cap m) (hmh:mx≠none→hi≠none) (h1:l≤h) (h2:h≤m) (h3:m≤cap):
  (Instr.sliceAt t (.slice a len cap) lo hi mx).run P R=.ok (.slice (if m=l then a else a.map (·.add (l*sz))) (h - l) (m - l)) R:=by
 unfold DG at hs
 cases hi':P.info? e with
 |none=>rw[hi'] at hs;cases hs
 |some i=>
  rw[hi'] at hs
  obtain rfl:i.size=sz:=Option.some.inj hs
  have hb:=OT (P:=P) (R:=R) (b:=true) hl hh hm hmh h1 h2 h3
  simp[Instr.sliceAt,Instr.slice,run_underlying ht,hb,sizeOf,typeInfo,hi']
theorem SR {t e:TypeId} {ad:Addr} {n sz l:Nat} {lo:Option Value} (ht:P.underlying t=some (.array n e)) (hs:DG P e=some sz) (hl:LG lo 0 l) (h1:l≤n):
  (Instr.sliceAt t (.pointer (some ad)) lo none none).run P R=.ok (.slice (some (if n=l then ad else ad.add (l*sz))) (n - l) (n - l)) R:=by
 unfold DG at hs
 cases hi':P.info? e with
 |none=>rw[hi'] at hs;cases hs
 |some i=>
  rw[hi'] at hs
  obtain rfl:i.size=sz:=Option.some.inj hs
  have hb:=OT (P:=P) (R:=R) (b:=false) (hi:=none) (mx:=none) (h:=n) (m:=n) hl (.inl ⟨rfl,rfl⟩) (.inl ⟨rfl,rfl⟩) (fun h=>absurd rfl h) h1 (Nat.le_refl _) (Nat.le_refl _)
  simp[Instr.sliceAt,run_underlying ht,hb,sizeOf,typeInfo,hi',Instr.sureAddr]
theorem Adv {t e:TypeId} {ad:Addr} {n sz l h:Nat} {lo hi:Option Value} (ht:P.underlying t=some (.array n e)) (hs:DG P e=some sz) (hl:LG lo 0 l) (hh:LG hi n h) (h1:l≤h) (h2:h≤n):
  (Instr.sliceAt t (.pointer (some ad)) lo hi none).run P R=.ok (.slice (some (if n=l then ad else ad.add (l*sz))) (h - l) (n - l)) R:=by
 unfold DG at hs
 cases hi':P.info? e with
 |none=>rw[hi'] at hs;cases hs
 |some i=>
  rw[hi'] at hs
  obtain rfl:i.size=sz:=Option.some.inj hs
  have hb:=OT (P:=P) (R:=R) (b:=false) (mx:=none) (m:=n) hl hh (.inl ⟨rfl,rfl⟩) (fun h=>absurd rfl h) h1 h2 (Nat.le_refl _)
  simp[Instr.sliceAt,run_underlying ht,hb,sizeOf,typeInfo,hi',Instr.sureAddr]
theorem Afp {t:TypeId} {b:ByteArray} {l h:Nat} {lo hi:Option Value} (ht:P.underlying t=some .string)
  (hl:LG lo 0 l) (hh:LG hi b.size h) (h1:l≤h) (h2:h≤b.size):
  (Instr.sliceAt t (.string b) lo hi none).run P R=.ok (.string (b.extract l h)) R:=by
 have hb:=OT (P:=P) (R:=R) (b:=false) (mx:=none) hl hh (.inl ⟨rfl,rfl⟩) (fun h=>absurd rfl h) h1 h2 (Nat.le_refl _)
 simp[Instr.sliceAt,Instr.slice,run_underlying ht,hb]
end runs
def Ua (s:St) (G:Guards) (d:Int):Option Operand→Option Int
 |none=>some d
 |some o=>match s.raw G o with
  |some (.int _ n)=>some n
  |_=>none
def Ak3 (o:Objs):A→Option (Nat×(Nat→Nat→Bool→A))
 | .sq i=>match Ak i o with
  |some (.arr _ sz els)=>some (els.n,fun l n f=> .vw i sz l n f)
  |_=>none
 | .vw i sz lo n _=>match Ay4 o i sz with
  |some _=>some (n,fun l n f=> .vw i sz (lo+l) n f)
  |none=>none
 | .sl c b=>some (b.length,fun l n _=> .sl c ((b.drop l).take n))
 |_=>none
def Asr (o:Objs):A→Nat
 | .sq i=>match Ak i o with
  |some (.arr _ sz _)=>sz
  |_=>1
 | .vw _ sz _ _ _=>sz
 | .sl c _=>size c
 |_=>1
def JQ (E:Env) (s:St) (G:Guards) (o:Oper):R2:=match A0u E.P s G o with
 |some y=>some (.v y,[])
 |none=>none
def Rm:Option Operand→Bool
 |some (.const (.int _ (.ofNat 0)))=>true
 |_=>false
theorem VY {s:St} {G:Guards} {d n:Int} {o:Option Operand} (h:Rm o=true) (he:Ua s G d o=some n):n=0:=by
 unfold Rm at h
 split at h<;>first|(cases h;done)|skip
 cases he
 rfl
def Asp (E:Env) (s:St) (G:Guards) (o:Oper) (t:TypeId) (x:Operand) (lo hi mx:Option Operand):R2:=
 match s.ev G x with
 | some (.v (.string b))=>match E.P.underlying t,mx with
  |some .string,none=>match Ua s G 0 lo,Ua s G b.size hi with
   |some l,some h=>wth (.v (.string (b.extract l.toNat h.toNat))) (ZT E.lit (0≤l∧l≤h∧h≤(b.size:Int)))
   |_,_=>none
  |_,_=>none
 |some (.v _)=>JQ E s G o
 | some (.dq i)=>match Ak i s.o,lo,E.P.underlying t with
  |some (.deep _ _ _),none,some (.slice e)=>match DG E.P e,Ua s G 0 hi,Ua s G 0 mx with
   |some _,some _,some _=>bif Rm hi&&Rm mx then some (.nl,[]) else none
   |_,_,_=>none
  |_,_,_=>none
 | some (.own i off)=>match E.P.underlying t,hi,mx with
  |some (.array n e),none,none=>match DG E.P e,Ua s G 0 lo with
   |some 1,some l=>wth (.vr i off l.toNat (n - l.toNat)) (ZT E.lit (0≤l∧l≤(n:Int)))
   |some (sz+2),some l=>wth (.vd i (off+l.toNat*(sz+2)) (n - l.toNat) (n - l.toNat)) (ZT E.lit (0≤l∧l <(n:Int)))
   |_,_=>none
  |some (.array n e),some hi,none=>match DG E.P e,Ua s G 0 lo,Ua s G n (some hi) with
   |some (sz+2),some l,some h=>wth (.vd i (off+l.toNat*(sz+2)) (h.toNat - l.toNat) (n - l.toNat)) (ZT E.lit (0≤l∧l <h∧h≤(n:Int)))
   |_,_,_=>none
  |_,_,_=>none
 | some w=>match Ak3 s.o w,E.P.underlying t with
  | some (n,f),some (.slice e)=>match DG E.P e with
   | some sz=>bif Nat.beq sz (Asr s.o w) then(match Ua s G 0 lo,Ua s G n hi,Ua s G n mx with
    |some l,some h,some m=>match mx,hi with
     |none,_=>wth (f l.toNat (h.toNat - l.toNat) false) (ZT E.lit (0≤l∧l≤h∧h≤(n:Int)))
     |some _,some _=>wth (bif Rm hi&&Rm mx then .nl else f l.toNat (h.toNat - l.toNat) (decide (m=h))) (ZT E.lit (0≤l∧l≤h∧h≤m∧m≤(n:Int)))
     |some _,none=>none
    |_,_,_=>none) else none
   |none=>none
  |_,_=>none
 |none=>none
section
variable {E:Env} {Z:Base} {F:Nat→Prop} {N:Nm} {s:St} {a:Act} {R:World} {G:Guards}
theorem JY (h:Rel Z F N s a R) (hG:KQ (A1 a) G) {d:Nat} {o:Option Operand} {n:Int} (he:Ua s G d o=some n) (h0:0≤n):LG (o.map a.eval) d n.toNat:=by
 cases o with
 |none=>cases he;exact .inl ⟨rfl,by simp⟩
 |some x=>
  unfold Ua at he
  simp only at he
  split at he<;>first|(cases he;done)|skip
  rename_i k m hr
  cases he
  exact .inr ⟨k,n,by rw[Option.map_some,CS h hG hr],h0,rfl⟩
theorem Ave (h:HRel F N s.nx s.o R) {w:A} {y:Value} {n:Nat} {f:Nat→Nat→Bool→A} (hv:Ak3 s.o w=some (n,f)) (hw:Hv F N s.nx R w y):
  ∃a c,y=.slice a n c∧n≤c∧∀l k c' (fu:Bool),l+k≤n→k≤c'→(fu=true→c'=k)→∀a',(0 <k→a'=a.map (·.add (l*Asr s.o w)))→Hv F N s.nx R (f l k fu) (.slice a' k c'):=by
 unfold Ak3 at hv
 split at hv<;>first|(cases hv;done)|skip
 ·rename_i i
  obtain⟨hi,rfl⟩:=hw.sq_inv
  split at hv<;>first|(cases hv;done)|skip
  rename_i e sz els hl
  cases hv
  obtain⟨_,zs,g1,_⟩:=h.ob i _ hl
  have hsz:Asr s.o (.sq i)=sz:=by unfold Asr;simp only[hl]
  rw[hsz]
  obtain⟨aa,c,q1,q2⟩:=g1.form
  refine⟨aa,c,q1,q2,fun l k c' fu h1 h2 h3 a' h4=> .vw hi h2 h3 fun hk=>?_⟩
  obtain⟨g,c2,r1,_,r3,_,_⟩:=EE g1 (by omega)
  rw[h4 hk]
  rw[r1] at q1
  cases q1
  rw[r3]
  rfl
 ·rename_i i sz lo m fu0
  obtain⟨hi,aa,c,rfl,q2,_,q4⟩:=hw.vw_inv
  split at hv<;>first|(cases hv;done)|skip
  rename_i m' hm
  cases hv
  refine⟨aa,c,rfl,q2,fun l k c' fu h1 h2 h3 a' h4=> .vw hi h2 h3 fun hk=>?_⟩
  rw[h4 hk,q4 (by omega)]
  show some (((DZ (N.q i)).add (lo*sz)).add (l*sz))=_
  rw[BU,Nat.add_mul]
 ·rename_i ct b
  obtain⟨aa,c,rfl,q2,q3⟩:=hw.sl_inv
  cases hv
  refine⟨aa,c,rfl,q2,fun l k c' fu h1 h2 h3 a' h4=>?_⟩
  have hlen:((b.drop l).take k).length=k:=by rw[List.length_take,List.length_drop];omega
  have main:Hv F N s.nx R (.sl ct ((b.drop l).take k)) (.slice a' ((b.drop l).take k).length c'):=by
   refine Hv.of_sl (by omega) fun hk=>?_
   rw[hlen] at hk
   obtain⟨ad,rfl,r1,r2⟩:=q3 (by omega)
   refine⟨ad.add (l*size ct),h4 hk,by rw[Gj];exact r1,fun i d hd=>?_⟩
   rw[BU,←Nat.add_mul]
   refine r2 (l+i) d ?_
   rw[List.getElem?_take] at hd
   split at hd<;>first|(cases hd;done)|skip
   rwa[List.getElem?_drop] at hd
  rw[hlen] at main
  exact main
theorem Vc (h:Rel Z F N s a R) (hG:KQ (A1 a) G) {o:Oper} {z:A} {ps:List Prop} (he:JQ E s G o=some (z,ps)):∃y,Hv F N s.nx R z y∧∀R',(execOp a.eval o).run E.P R'=.ok (.value y) R':=by
 unfold JQ at he
 split at he<;>first|(cases he;done)|skip
 rename_i y hy
 cases he
 exact⟨y,Hv.v _,fun R'=>Awv h hG hy R'⟩
theorem A1a (h:Rel Z F N s a R) (hG:KQ (A1 a) G) {o:Oper} {t:TypeId} {x:Operand} {lo hi mx:Option Operand} (ho:o.op=.slice t x lo hi mx) {z:A} {ps:List Prop} (he:Asp E s G o t x lo hi mx=some (z,ps)) (hp:∀p∈ps,p):
  ∃y,Hv F N s.nx R z y∧∀R',(execOp a.eval o).run E.P R'=.ok (.value y) R':=by
 have hex:execOp a.eval o=(do pure (.value (←Instr.sliceAt t (a.eval x) (lo.map a.eval) (hi.map a.eval) (mx.map a.eval)))):=by
  obtain⟨dst,op,type,pos,after,guard⟩:=o
  simp only at ho
  subst ho
  rfl
 unfold Asp at he
 split at he<;>first|(cases he;done)|skip
 ·rename_i b hx
  split at he<;>first|(cases he;done)|skip
  rename_i hu
  split at he<;>first|(cases he;done)|skip
  rename_i l hh hl hhi
  obtain⟨rfl,hd⟩:=B4 he
  obtain⟨h0,h1,h2⟩:=FP hd hp
  have hx':=(AQ h hG hx).2.v_inv
  refine⟨_,Hv.v _,fun R'=>?_⟩
  rw[hex,hx']
  have:=Afp (P:=E.P) (R:=R') (b:=b) hu (JY h hG hl h0) (JY h hG hhi (by omega)) (by omega) (by omega)
  simp[this]
 ·exact Vc h hG he
 ·rename_i i hx
  have hx':=(AQ h hG hx).2
  split at he<;>first|(cases he;done)|skip
  rename_i l0 e0 hl hu
  split at he<;>first|(cases he;done)|skip
  rename_i sz hh m hsz hhi hmx
  cases hz:Rm hi&&Rm mx with
  |false=>rw[hz] at he;cases he
  | true=>
   rw[hz] at he
   cases he
   simp only[Bool.and_eq_true] at hz
   obtain rfl:=VY hz.1 hhi
   obtain rfl:=VY hz.2 hmx
   obtain⟨_,col,c',zs,_,g1,_⟩:=h.hp.ob i _ hl
   obtain⟨aa,c,q1,q2⟩:=g1.form
   have hv:a.eval x=.slice aa l0.length c:=by
    rw[←q1]
    exact(show ∀y,Hv F N s.nx R (.dq i) y→y=J2 (N.q i) 0 from fun y hy=>by cases hy;rfl) _ hx'
   have bd:∀(d:Nat) (b:Option Operand),Rm b=true→Ua s G 0 b=some 0→LG (b.map a.eval) d 0:=fun d b hb he=>by
    rcases JY h hG he (Int.le_refl _) with⟨e1,_⟩|e2
    ·cases b with
     |none=>cases hb
     |some y=>cases e1
    ·exact .inr e2
   refine⟨.slice (if(0:Nat)=0 then aa else aa.map (·.add (0*sz))) 0 0,.nl _,fun R'=>?_⟩
   rw[hex,hv]
   have:=OU (P:=E.P) (R:=R') (a:=aa) (len:=l0.length) (cap:=c) (lo:=none) hu hsz (.inl ⟨rfl,rfl⟩) (bd l0.length hi hz.1 hhi) (bd c mx hz.2 hmx) (fun _ e=>by
    cases hi with
    |none=>cases hz.1
    |some y=>cases e) (Nat.le_refl _) (Nat.le_refl _) (Nat.zero_le _)
   simp only[Option.map_none,Sem.run_bind,this,Result.andThen_ok,Sem.run_pure]
 ·rename_i i off hx
  have hx':=(AQ h hG hx).2.own_inv
  split at he<;>first|(cases he;done)|skip
  rotate_left
  ·rename_i n e hiO hu
   split at he<;>first|(cases he;done)|skip
   rename_i sz l h' hsz hl hh
   obtain⟨rfl,hd⟩:=B4 he
   obtain⟨h0,h1,h2⟩:=FP hd hp
   refine⟨_,.vd hx'.1,fun R'=>?_⟩
   rw[hex,hx'.2]
   have:=Adv (P:=E.P) (R:=R') (ad:=⟨N.b i,off,none⟩) hu hsz (JY h hG hl h0) (JY h hG hh (by omega)) (by omega) (by omega)
   rw[if_neg (by omega),Bv] at this
   simp only[Option.map_none,Sem.run_bind,this,Result.andThen_ok,Sem.run_pure]
  rename_i n e hu
  split at he<;>first|(cases he;done)|skip
  rotate_left
  ·rename_i sz l hsz hl
   obtain⟨rfl,hd⟩:=B4 he
   obtain⟨h0,h1⟩:=FP hd hp
   refine⟨_,.vd hx'.1,fun R'=>?_⟩
   rw[hex,hx'.2]
   have:=SR (P:=E.P) (R:=R') (ad:=⟨N.b i,off,none⟩) hu hsz (JY h hG hl h0) (by omega)
   rw[if_neg (by omega),Bv] at this
   simp only[Option.map_none,Sem.run_bind,this,Result.andThen_ok,Sem.run_pure]
  rename_i l hsz hl
  obtain⟨rfl,hd⟩:=B4 he
  obtain⟨h0,h1⟩:=FP hd hp
  refine⟨_,.vr (if n=l.toNat then⟨N.b i,off,none⟩ else(⟨N.b i,off,none⟩:Addr).add (l.toNat*1)) hx'.1 fun hm=>by rw[if_neg (by omega),Bv,Nat.mul_one],fun R'=>?_⟩
  rw[hex,hx'.2]
  have:=SR (P:=E.P) (R:=R') (ad:=⟨N.b i,off,none⟩) hu hsz (JY h hG hl h0) (by omega)
  simp only[Option.map_none,Sem.run_bind,this,Result.andThen_ok,Sem.run_pure]
 ·rename_i w hnv hdq hown hx hx0
  have hx':=(AQ h hG hx0).2
  split at he<;>first|(cases he;done)|skip
  rename_i n f e hv hu
  split at he<;>first|(cases he;done)|skip
  rename_i sz hsz
  cases hb:Nat.beq sz (Asr s.o w) with
  |false=>rw[hb] at he;cases he
  | true=>
   rw[hb] at he
   obtain rfl:=Nat.eq_of_beq_eq_true hb
   simp only[cond_true] at he
   split at he<;>first|(cases he;done)|skip
   rename_i l hh m hl hhi hmx
   obtain⟨aa,c,q1,q2,q3⟩:=Ave h.hp hv hx'
   split at he<;>first|(cases he;done)|skip
   ·obtain⟨rfl,hd⟩:=B4 he
    obtain⟨h0,h1,h2⟩:=FP hd hp
    refine⟨_,q3 l.toNat (hh.toNat - l.toNat) (c - l.toNat) false (by omega) (by omega) (fun e=>by cases e) (if c=l.toNat then aa else aa.map (·.add (l.toNat*Asr s.o w))) (fun hk=>if_neg (by omega)),fun R'=>?_⟩
    rw[hex,q1]
    have:=OU (P:=E.P) (R:=R') (a:=aa) (len:=n) (cap:=c) hu hsz (JY h hG hl h0) (JY h hG hhi (by omega)) (mx:=none) (m:=c) (.inl ⟨rfl,rfl⟩) (fun h=>absurd rfl h) (by omega) (by omega) (Nat.le_refl _)
    simp only[Option.map_none,Sem.run_bind,this,Result.andThen_ok,Sem.run_pure]
   ·rename_i mo hio
    obtain⟨rfl,hd⟩:=B4 he
    obtain⟨h0,h1,h2,h3⟩:=FP hd hp
    refine⟨.slice (if m.toNat=l.toNat then aa else aa.map (·.add (l.toNat*Asr s.o w))) (hh.toNat - l.toNat) (m.toNat - l.toNat),?_,fun R'=>?_⟩
    ·cases hz:(Rm (some hio)&&Rm (some mo)) with
     |false=>exact q3 l.toNat (hh.toNat - l.toNat) (m.toNat - l.toNat) (decide (m=hh)) (by omega) (by omega) (fun e=>by have:=of_decide_eq_true e;omega) _ (fun hk=>if_neg (by omega))
     |true=>
      simp only[Bool.and_eq_true] at hz
      have e1:=VY hz.1 hhi
      have e2:=VY hz.2 hmx
      subst e1 e2
      rw[show(0:Int).toNat=0 from rfl,Nat.zero_sub]
      exact .nl _
    rw[hex,q1]
    have hbm:LG (Option.map a.eval (some mo)) c m.toNat:=by
     rcases JY h hG hmx (by omega) with⟨e1,_⟩|e2
     ·cases e1
     ·exact .inr e2
    have:=OU (P:=E.P) (R:=R') (a:=aa) (len:=n) (cap:=c) hu hsz (JY h hG hl h0) (JY h hG hhi (by omega)) hbm (fun _ e=>by cases e) (by omega) (by omega) (by omega)
    simp only[Sem.run_bind,this,Result.andThen_ok,Sem.run_pure]
end
end Go.Proofs.YtifkbgkbajncjaaDoor
