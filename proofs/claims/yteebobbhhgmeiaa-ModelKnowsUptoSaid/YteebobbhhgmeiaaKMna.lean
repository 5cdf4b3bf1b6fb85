/- made by a program (rowgen.py): ModelKnows: for every input the law returns true, and each argument reads behind the call as it read before. -/
import Derived.WalkKit
import Derived.Deep.QuietTactic
import Derived.BigQuiet
import Derived.Deep.Draws
import Derived.Lib.Hide
import Derived.StillTail
import Derived.Deep.MidRow
import Derived.Laws.OwnMore
import Derived.Lib.AppendStr
import Derived.Laws.BytesArg
import Derived.Laws.Tables
import Derived.Laws.Pointers
import Derived.Great.BuildSlice
import Derived.MapKept
import Derived.Maps.AppendAt
import Derived.Laws.MakeOwn
import Derived.Laws.CopyRow
import Derived.Laws.IdiomStrings
import Derived.LoopN
import Derived.Test.YteebobbhhgmeiaaProg
import Derived.ChangeArms
import Derived.OpenShut
import Derived.ChangeShapes
import Derived.IntWalk
import Derived.ChangeKeysEq
import Derived.Laws.RangeString
import Derived.Laws.RangeAny
import Derived.RangeFuncNested
import Derived.RangeFuncBound
import Derived.RangeFuncCalls
import Derived.RangeFuncLeaves
import Derived.RangeFuncBox
import Derived.Shelf.Abstract
import Derived.Shelf.RegionOpen
import Derived.OwnWalkIn
import Derived.TacticsInMore
import Derived.LoopNIn
import Derived.LoopIn
import Derived.Test.YteebobbhhgmeiaaRows
import Derived.ProofKit
import Derived.ShutString
import Derived.ChangeOld
import Derived.Below
import Derived.JoinedCond

namespace Go.Proofs.Yteebobbhhgmeiaa
open Go.RowKit
structure Xt where
 hp:Array Obj
 dr:Nat
instance:Inhabited Xt:=⟨⟨#[],0⟩⟩
def ext (w:World) (x:Xt):World:={w with heap:=w.heap++x.hp,drawn:=x.dr}
theorem Br3 (w:World) (x:Xt):(ext w x).heap.size=w.heap.size+x.hp.size:=by simp[ext]
theorem Bn4 (w:World) (x:Xt) (k:Nat) (h:k <w.heap.size):(ext w x).heap[k]?=w.heap[k]?:=by
 simp only[ext]
 exact Array.getElem?_append_left h
theorem Bnm (w:World) (x:Xt):Below w.heap.size w (ext w x):=
 ⟨rfl,rfl,rfl,by rw[Br3];omega,fun k hk=>Bn4 w x k hk⟩
theorem HW {w:World} {g:Nat} {o:Obj} (h:w.heap[g]?=some o):g <w.heap.size:=by
 rcases Nat.lt_or_ge g w.heap.size with hlt|hge
 ·exact hlt
 ·rw[Array.getElem?_eq_none hge] at h;cases h
theorem F4 {w:World} {g:Nat} {t:TypeId} {cs:Array Value} {fz:Nat×Nat} (h:w.heap[g]?=some (.cells cs t fz)) (i:Nat):w.cell? ⟨g,i,none⟩=cs[i]?:=cell_of_row w g i cs t fz h
theorem Bg6 {w:World} {g:Nat} {t:TypeId} {cs:Array Value} (h:w.heap[g]?=some (.cells cs t (0,0))) (i:Nat):w.frozen? ⟨g,i,none⟩=false:=by
 simp[World.frozen?,h]
theorem Fk {w w':World} {g:Nat} {o:Obj} (h:w.heap[g]?=some o) (hb:Below w.heap.size w w'):w'.heap[g]?=some o:=(hb.block g (HW h)).trans h
theorem cb1 {w:World} {g:Nat} {t:TypeId} {v0:Value} (h:w.heap[g]?=some (.cells #[v0] t (0,0))):w.cell? ⟨g,0,none⟩=some v0:=
 F4 h 0
theorem fb1 {w:World} {g:Nat} {t:TypeId} {v0:Value} (h:w.heap[g]?=some (.cells #[v0] t (0,0))):w.frozen? ⟨g,0,none⟩=false:=
 Bg6 h 0
theorem cb2 {w:World} {g:Nat} {t:TypeId} {v0 v1:Value} (h:w.heap[g]?=some (.cells #[v0,v1] t (0,0))):w.cell? ⟨g,0,none⟩=some v0∧w.cell? ⟨g,1,none⟩=some v1:=
 ⟨F4 h 0,F4 h 1⟩
theorem cb8 {w:World} {g:Nat} {t:TypeId} {v0 v1 v2 v3 v4 v5 v6 v7:Value} (h:w.heap[g]?=some (.cells #[v0,v1,v2,v3,v4,v5,v6,v7] t (0,0))):w.cell? ⟨g,0,none⟩=some v0∧w.cell? ⟨g,1,none⟩=some v1∧w.cell? ⟨g,2,none⟩=some v2∧w.cell? ⟨g,3,none⟩=some v3∧w.cell? ⟨g,4,none⟩=some v4∧w.cell? ⟨g,5,none⟩=some v5∧w.cell? ⟨g,6,none⟩=some v6∧w.cell? ⟨g,7,none⟩=some v7:=
 ⟨F4 h 0,F4 h 1,F4 h 2,F4 h 3,F4 h 4,F4 h 5,F4 h 6,F4 h 7⟩
theorem Hb {w:World} {n:Nat} (o:Obj) (hn:w.heap.size=n):(w.alloc o).heap[n]?=some o:=by subst hn;exact heap_alloc_new w o
theorem OE {w:World} {k:Nat} {o':Obj} (o:Obj) (h:w.heap[k]?=some o'):(w.alloc o).heap[k]?=some o':=(Below.heap_alloc w o k (HW h)).trans h
theorem P0 {w:World} {g i:Nat} {t:TypeId} {cs:Array Value} {fz:Nat×Nat} (h:w.heap[g]?=some (.cells cs t fz)) (v:Value):(w.setCell ⟨g,i,none⟩ v).heap[g]?=some (.cells (cs.setIfInBounds i v) t fz):=by
 simp[World.setCell,Array.getElem?_modify,h]
theorem Bxr {w:World} {g:Nat} {o:Obj} {p:Addr} (h:w.heap[g]?=some o) (hp:g≠p.block) (v:Value):(w.setCell p v).heap[g]?=some o:=(Below.heap_setCell w p v g hp).trans h
theorem Aiw (w:World) (p:Addr) (v:Value):(w.setCell p v).heap.size=w.heap.size:=by simp[World.setCell]
theorem Bg1 {n:Nat} {w W W1:World} (hb:Below n w W) (hz:n≤W.heap.size) (h:Below W.heap.size W W1):Below n w W1:=hb.trans (h.mono hz)
theorem Bo7 {n:Nat} {W W1:World} (hz:n≤W.heap.size) (h:Below W.heap.size W W1):n≤W1.heap.size:=Nat.le_trans hz h.size
section
variable {P:Program} {c:Code} {Q:Exit→Act→World→Prop} {a:Act} {w:World} {n:Nat}
end
section
variable {P:Program} {f:FuncId} {args:Array Value} {R:Ending→World→Prop} {w:World} {n:Nat}
end
end Go.Proofs.Yteebobbhhgmeiaa
namespace Go.Proofs.Yteebobbhhgmeiaa
open Go.RowKit
section anyorder
variable {P:Program} {ops:Array Oper} {Q:Exit→Act→World→Prop}
def unl (listed:Array Bool):Nat:=listed.toList.count false
theorem O9 {listed:Array Bool} {i:Nat} (h:listed.getD i true=false):i <listed.size:=by
 rcases Nat.lt_or_ge i listed.size with h'|h'
 ·exact h'
 ·simp[Array.getElem?_eq_none h'] at h
theorem Bne {listed:Array Bool} {i:Nat} (h:listed.getD i true=false):unl (listed.setIfInBounds i true)+1=unl listed:=by
 have hi:=O9 h
 have hv:listed[i]=false:=by simpa[hi] using h
 have hl:i <listed.toList.length:=by simpa using hi
 have hv':listed.toList[i]=false:=by simpa using hv
 have hp:0 <listed.toList.count false:=List.count_pos_iff.2 (by rw[←hv'];exact List.getElem_mem hl)
 unfold unl
 rw[Array.toList_setIfInBounds,List.count_set hl]
 simp only[hv',beq_self_eq_true,↓reduceIte]
 have:(true==false)=false:=rfl
 simp only[this,Bool.false_eq_true,↓reduceIte]
 omega
theorem A5k {Inv:Array Bool→Act→World→Prop}
  (hs:∀listed a w i,listed.size=ops.size→Inv listed a w→i∈Region.ready .any ops listed→wpOp P ops Q i (Inv (listed.setIfInBounds i true)) a w)
  (hf:∀listed a w,listed.size=ops.size→Inv listed a w→Region.ready .any ops listed=[]→Q .normal a w):
  ∀(fuel:Nat) (listed:Array Bool) (a:Act) (w:World),listed.size=ops.size→unl listed≤fuel→Inv listed a w→wpAny P .any ops Q fuel listed a w
 | 0,listed,a,w,hz,hu,hi=>by
  have hr:Region.ready .any ops listed=[]:=by
   rw[List.eq_nil_iff_forall_not_mem]
   intro i hr
   have:=Bne (mem_ready.1 hr).1
   omega
  exact⟨hr,hf _ _ _ hz hi hr⟩
 |fuel+1,listed,a,w,hz,hu,hi=>by
  refine⟨fun h0=>hf _ _ _ hz hi h0,fun i hr=>?_⟩
  have hn:=Bne (mem_ready.1 hr).1
  exact wpOp_mono (fun a' w' h'=>A5k hs hf fuel _ a' w' (by simp[hz]) (by omega) h') (hs _ _ _ _ hz hi hr)
theorem A28 (n:Nat):unl (Array.replicate n false)≤n:=by
 unfold unl
 simp
theorem A3d {id:Nat} {a:Act} {w:World} {Inv:Array Bool→Act→World→Prop} (hm:P.follows .mixedOrders=true)
  (h0:Inv (Array.replicate ops.size false) a {w with drawn:=w.drawn+1})
  (hs:∀listed a w i,listed.size=ops.size→Inv listed a w→i∈Region.ready .any ops listed→wpOp P ops Q i (Inv (listed.setIfInBounds i true)) a w)
  (hf:∀listed a w,listed.size=ops.size→Inv listed a w→Region.ready .any ops listed=[]→Q .normal a w):(Code.region id ops true).wp P Q a w:=
 wp_region_any hm (A5k hs hf _ _ _ _ (by simp) (A28 _) h0)
def Bbq (ops:Array Oper):Bool:=(List.range ops.size).all fun i=>((ops[i]?).map fun o=>o.after.all fun e=>!Region.binds .any e||decide (e.on <i)).getD true
theorem Bgy (h:Bbq ops=true) {i:Nat} {o:Oper} (ho:ops[i]?=some o) {e:Edge} (he:e∈o.after) (hb:Region.binds .any e=true):e.on <i:=by
 have hi:i <ops.size:=(Array.getElem?_eq_some_iff.1 ho).1
 have h1:=List.all_eq_true.1 h i (List.mem_range.2 hi)
 simp only[ho,Option.map_some,Option.getD_some] at h1
 have h2:=Array.all_eq_true_iff_forall_mem.1 h1 e he
 simpa[hb] using h2
theorem Bgv (hb:Bbq ops=true) {listed:Array Bool} (hz:listed.size=ops.size) (hr:Region.ready .any ops listed=[]):∀i,i <ops.size→listed.getD i false=true:=by
 intro i
 induction i using Nat.strongRecOn with
 | _ i ih=>
  intro hi
  cases hl:listed.getD i false with
  |true=>rfl
  | false=>
   exfalso
   obtain⟨o,ho⟩:∃o,ops[i]?=some o:=⟨_,Array.getElem?_eq_getElem hi⟩
   have hmem:i∈Region.ready .any ops listed:=mem_ready.2 ⟨getD_in (by omega) hl,o,ho,fun e he hb'=>by
    have hlt:=Bgy hb ho he hb'
    exact ih _ hlt (by omega)⟩
   rw[hr] at hmem
   cases hmem
end anyorder
structure Al where
 j:Nat
 s:Nat
 o0:Obj
 o1:Obj
def skp (al:List Al) (k:Nat):Bool:=al.any fun e=>e.j==k||e.s==k
section walk
variable (P:Program) (ops:Array Oper) (C:World→Prop) (sk:Nat→Bool)
variable {P ops C sk}
theorem Gb (a:Act) (d t:Nat) (v:Value):(a.put (some d) v).tmps.getD t undef=if d=t∧d <a.tmps.size then v else a.tmps.getD t undef:=by
 simp only[Act.put,Array.getD_eq_getD_getElem?,Array.getElem?_setIfInBounds]
 by_cases h:d=t
 ·subst h
  by_cases h2:d <a.tmps.size
  ·simp[h2]
  ·simp[h2]
 ·simp[h]
theorem XJ (a:Act) (d:Option Tmp) (v:Value):(a.put d v).tmps.size=a.tmps.size:=by cases d<;>simp[Act.put]
theorem QQ (a:Act) (d:Option Tmp) (v:Value):(a.put d v).defers=a.defers:=by cases d<;>rfl
def B1o (aF:Act) (o:Oper):Value:=match o.dst with|some d=>aF.tmps.getD d undef|none=>undef
def Agw (ops:Array Oper) (sk:Nat→Bool) (aF a0:Act):Nat→Act
 |0=>a0
 |k+1=>match ops[k]? with
  |some o=>if sk k then Agw ops sk aF a0 k else(Agw ops sk aF a0 k).put o.dst (B1o aF o)
  |none=>Agw ops sk aF a0 k
theorem SW (aF a0:Act):∀k,(Agw ops sk aF a0 k).tmps.size=a0.tmps.size
 |0=>rfl
 | k+1=>by
  unfold Agw
  split
  ·split
   ·exact SW aF a0 k
   ·rw[XJ];exact SW aF a0 k
  ·exact SW aF a0 k
theorem Bdm {aF a0:Act} {t:Nat}:∀k,(∀i j o o' d,i <j→j <k→ops[i]?=some o→ops[j]?=some o'→o.dst=some d→o'.dst≠some d)→
  (∀i o,i <k→sk i=false→ops[i]?=some o→o.dst=some t→t <a0.tmps.size→(Agw ops sk aF a0 k).tmps.getD t undef=aF.tmps.getD t undef)∧
  ((∀i o,i <k→sk i=false→ops[i]?=some o→o.dst≠some t)→(Agw ops sk aF a0 k).tmps.getD t undef=a0.tmps.getD t undef)
 |0,_=>⟨fun i o h=>by omega,fun _=>rfl⟩
 | k + 1,hd=>by
  obtain⟨h1,h2⟩:=Bdm (aF:=aF) (a0:=a0) (t:=t) k fun i j o o' d hij hj=>hd i j o o' d hij (by omega)
  have hu:Agw ops sk aF a0 (k+1)=match ops[k]? with
   |some o=>if sk k then Agw ops sk aF a0 k else(Agw ops sk aF a0 k).put o.dst (B1o aF o)
   |none=>Agw ops sk aF a0 k:=by conv=>lhs;unfold Agw
  constructor
  ·intro i o hi hsk ho hdst ht
   by_cases hik:i=k
   ·subst hik
    rw[hu]
    simp only[ho,hsk,Bool.false_eq_true,↓reduceIte,hdst,B1o]
    rw[Gb,if_pos ⟨rfl,by rw[SW];exact ht⟩]
   ·have h3:=h1 i o (by omega) hsk ho hdst ht
    rw[hu]
    split
    ·rename_i p hp
     split
     ·exact h3
     ·have hne:=hd i k o p t (by omega) (by omega) ho hp hdst
      cases hpd:p.dst with
      |none=>exact h3
      |some e=>
       rw[Gb,if_neg]
       ·exact h3
       ·rintro⟨rfl,_⟩;exact hne hpd
    ·exact h3
  ·intro hno
   have h3:=h2 fun i o hi=>hno i o (by omega)
   rw[hu]
   split
   ·rename_i p hp
    split
    ·exact h3
    ·rename_i hskk
     have hne:=hno k p (by omega) (by simpa using hskk) hp
     cases hpd:p.dst with
     |none=>exact h3
     |some e=>
      rw[Gb,if_neg]
      ·exact h3
      ·rintro⟨rfl,_⟩;exact hne hpd
   ·exact h3
end walk
end Go.Proofs.Yteebobbhhgmeiaa
namespace Go.Proofs.Yteebobbhhgmeiaa
open Go.RowKit
section par
variable {P:Program} {ops:Array Oper} {Q:Exit→Act→World→Prop}
def Bty (ops:Array Oper) (o o':Oper):Bool:=
 (match o.dst with|some d=>(o'.looksAt ops).contains d|none=>false)||(match o'.dst with|some d=>(o.looksAt ops).contains d|none=>false)
structure Byw (ops:Array Oper) (n:Nat) (al:List Al):Prop where
 back:Bbq ops=true
 nosel:Region.noSelect ops=true
 n_le:n≤ops.size
 dst:∀i j o o' d,i <j→j <n→ops[i]?=some o→ops[j]?=some o'→o.dst=some d→o'.dst≠some d
 ord:∀i j o o' d,i <j→j <n→ops[i]?=some o→ops[j]?=some o'→(o.dst=some d∧d∈o'.looksAt ops∨o'.dst=some d∧d∈o.looksAt ops)→Region.waitsFor .any ops j i=true
 blind:∀e∈al,∀i o o' d,i <n→skp al i=false→ops[i]?=some o→ops[e.j]?=some o'→o'.dst=some d→d∉o.looksAt ops
 als:∀e∈al,e.j <n∧e.s <n∧Region.waitsFor .any ops e.s e.j=true∧∃o o' d t y,ops[e.j]?=some o∧ops[e.s]?=some o'∧o.guard=none∧o'.guard=none∧o'.dst=none∧o.dst=some d∧o'.op=.store t (.tmp d) y∧
  ∀u,y=.tmp u→(∀e'∈al,∀p,ops[e'.j]?=some p→p.dst≠some u)∧∀k p,e.s <k→k <n→ops[k]?=some p→p.dst≠some u
 nodup:(al.map (·.j)++al.map (·.s)).Nodup
 tail:n=ops.size∨(Region.sinkB .any ops n=true∧Region.chainB .any ops n=true)
theorem TS {a a':Act} (o:Oper) (hs:∀cs b,o.op≠.select cs b) (h:∀t∈o.looksAt ops,a'.tmps.getD t undef=a.tmps.getD t undef):execOp a'.eval o=execOp a.eval o:=
 execOp_congr o hs fun x hx=>by
  cases x with
  |tmp t=>exact h t (List.mem_append_left _ (List.mem_filterMap.2 ⟨.tmp t,by simpa using hx,rfl⟩))
  |_=>rfl
theorem Bac {a a':Act} (o:Oper) (hz:a'.tmps.size=a.tmps.size) (h:∀t∈o.looksAt ops,a'.tmps.getD t undef=a.tmps.getD t undef):Region.wanted o (yielded ops a'.tmps)=Region.wanted o (yielded ops a.tmps):=by
 unfold Region.wanted
 cases hg:o.guard with
 |none=>rfl
 | some gw=>
  obtain⟨g,want⟩:=gw
  have hy:yielded ops a'.tmps g=yielded ops a.tmps g:=by
   unfold yielded
   cases ht:(ops[g]?).bind (·.dst) with
   |none=>rfl
   | some t=>
    have:=h t (by simp[Oper.looksAt,hg,ht])
    simp only[Option.bind_some]
    by_cases hlt:t <a.tmps.size
    ·have hlt':t <a'.tmps.size:=by rw[hz];exact hlt
     simp only[Array.getD_eq_getD_getElem?,Array.getElem?_eq_getElem hlt,Array.getElem?_eq_getElem hlt',Option.getD_some] at this
     rw[Array.getElem?_eq_getElem hlt,Array.getElem?_eq_getElem hlt',this]
    ·rw[Array.getElem?_eq_none (by rw[hz];exact Nat.le_of_not_lt hlt),Array.getElem?_eq_none (Nat.le_of_not_lt hlt)]
  simp only[hy]
theorem Ge {listed:Array Bool} {i k:Nat} (hi:i <listed.size):(listed.setIfInBounds i true).getD k false=true↔k=i∨listed.getD k false=true:=by
 by_cases h:i=k
 ·subst h;simp[hi]
 ·rw[getD_set_ne false h]
  exact⟨.inr,fun h'=>h'.resolve_left fun e=>h e.symm⟩
def B20 (b:Nat):Value:=.pointer (some ⟨b,0,none⟩)
def vOf (al:List Al) (aF:Act) (β:Nat→Nat) (k d:Nat):Value:=if al.any (·.j==k) then B20 (β k) else aF.tmps.getD d undef
structure Head (ops:Array Oper) (n:Nat) (al:List Al) (aF a0:Act) (w0:World) (listed:Array Bool) (a:Act) (w:World) (β:Nat→Nat):Prop where
 inv:HeadInv .any ops n listed
 defers:a.defers=a0.defers
 size:a.tmps.size=a0.tmps.size
 s1:∀k o d,k <n→ops[k]?=some o→o.dst=some d→d <a0.tmps.size→listed.getD k false=true→a.tmps.getD d undef=vOf al aF β k d
 s2:∀d,(∀k o,k <n→ops[k]?=some o→listed.getD k false=true→o.dst≠some d)→a.tmps.getD d undef=a0.tmps.getD d undef
 bel:Below w0.heap.size w0 w
 blk:∀e∈al,listed.getD e.j false=true→w0.heap.size≤β e.j∧w.heap[β e.j]?=some (if listed.getD e.s false then e.o1 else e.o0)
 inj:∀e∈al,∀e'∈al,listed.getD e.j false=true→listed.getD e'.j false=true→e.j≠e'.j→β e.j≠β e'.j
variable {n:Nat} {al:List Al} {aF a0:Act} {w0:World} {listed:Array Bool} {a:Act} {w:World} {β:Nat→Nat} {i:Nat}
theorem J6 {j k:Nat} {o:Oper} (h:Region.waitsFor .any ops j k=true) (ho:ops[j]?=some o) (hall:∀e∈o.after,Region.binds .any e=true→listed.getD e.on false=true):listed.getD k false=true:=by
 obtain⟨o',ho',e,he,hb,hon⟩:=Region.waitsFor_spec h
 have:o'=o:=Option.some.inj (ho'.symm.trans ho)
 subst this
 rw[←hon]
 exact hall e he hb
theorem Head.slot (ok:Byw ops n al) (h:Head ops n al aF a0 w0 listed a w β) {oi:Oper} (hi:i <n) (hoi:ops[i]?=some oi) (hun:listed.getD i false=false)
  (hall:∀e∈oi.after,Region.binds .any e=true→listed.getD e.on false=true) {t:Nat} (ht:t∈oi.looksAt ops) (hbl:∀e∈al,∀p,ops[e.j]?=some p→p.dst≠some t):
  a.tmps.getD t undef=(Agw ops (skp al) aF a0 i).tmps.getD t undef:=by
 have hd:∀p q o o' d,p <q→q <i→ops[p]?=some o→ops[q]?=some o'→o.dst=some d→o'.dst≠some d:=fun p q o o' d h1 h2=>ok.dst p q o o' d h1 (by omega)
 obtain⟨l1,l2⟩:=Bdm (ops:=ops) (sk:=skp al) (aF:=aF) (a0:=a0) (t:=t) i hd
 have hsk:∀k o,k <n→ops[k]?=some o→o.dst=some t→skp al k=false:=by
  intro k o hk ho hdst
  cases hs:skp al k with
  |false=>rfl
  | true=>
   exfalso
   obtain⟨e,he,hor⟩:=List.any_eq_true.1 hs
   simp only[Bool.or_eq_true,beq_iff_eq] at hor
   rcases hor with rfl|rfl
   ·exact hbl e he o ho hdst
   ·obtain⟨_,_,_,_,o',_,_,_,_,ho',_,_,hn,_⟩:=ok.als e he
    have:o'=o:=Option.some.inj (ho'.symm.trans ho)
    subst this
    rw[hn] at hdst
    cases hdst
 by_cases hw:∃k o,k <n∧ops[k]?=some o∧o.dst=some t
 ·obtain⟨k,o,hk,ho,hdst⟩:=hw
  have hs:=hsk k o hk ho hdst
  have huniq:∀k' o',k' <n→ops[k']?=some o'→o'.dst=some t→k'=k:=by
   intro k' o' hk' ho' hdst'
   rcases Nat.lt_trichotomy k' k with hlt|heq|hgt
   ·exact absurd hdst (ok.dst k' k o' o t hlt hk ho' ho hdst')
   ·exact heq
   ·exact absurd hdst' (ok.dst k k' o o' t hgt hk' ho ho' hdst)
  rcases Nat.lt_or_ge k i with hlt|hge
  ·have hwt:=ok.ord k i o oi t hlt hi ho hoi (.inl ⟨hdst,ht⟩)
   have hl:=J6 hwt hoi hall
   by_cases hlt':t <a0.tmps.size
   ·rw[h.s1 k o t hk ho hdst hlt' hl,l1 k o hlt hs ho hdst hlt']
    unfold vOf
    rw[if_neg]
    intro hany
    obtain⟨e,he,hej⟩:=List.any_eq_true.1 hany
    simp only[beq_iff_eq] at hej
    subst hej
    exact hbl e he o ho hdst
   ·have e1:a.tmps.getD t undef=undef:=by
     rw[Array.getD_eq_getD_getElem?,Array.getElem?_eq_none (by rw[h.size];exact Nat.le_of_not_lt hlt')];rfl
    have e2:(Agw ops (skp al) aF a0 i).tmps.getD t undef=undef:=by
     rw[Array.getD_eq_getD_getElem?,Array.getElem?_eq_none (by rw[SW];exact Nat.le_of_not_lt hlt')];rfl
    rw[e1,e2]
  ·have hkl:listed.getD k false=false:=by
    by_cases hki:k=i
    ·subst hki;exact hun
    ·cases hkl:listed.getD k false with
     |false=>rfl
     |true=>
      have hwt:=ok.ord i k oi o t (by omega) hk hoi ho (.inr ⟨hdst,ht⟩)
      have:=J6 hwt ho (h.inv.closed k o ho hkl)
      rw[hun] at this
      cases this
   rw[h.s2 t fun k' o' hk' ho' hl' hdst'=>by
    have:=huniq k' o' hk' ho' hdst'
    subst this
    rw[hkl] at hl'
    cases hl']
   rw[l2 fun k' o' hk' _ ho' hdst'=>by
    have:=huniq k' o' (by omega) ho' hdst'
    omega]
 ·rw[h.s2 t fun k' o' hk' ho' _ hdst'=>hw ⟨k',o',hk',ho',hdst'⟩]
  rw[l2 fun k' o' hk' _ ho' hdst'=>hw ⟨k',o',by omega,ho',hdst'⟩]
theorem Head.put (ok:Byw ops n al) (h:Head ops n al aF a0 w0 listed a w β) (_hz:listed.size=ops.size) {oi:Oper} (hr:i∈Region.ready .any ops listed) (hi:i <n) (hoi:ops[i]?=some oi) (v:Value) (β':Nat→Nat) (w':World)
  (hβ:∀k,k≠i→β' k=β k)
  (hv:∀d,oi.dst=some d→d <a0.tmps.size→v=vOf al aF β' i d)
  (hbel:Below w0.heap.size w0 w')
  (hblk:∀e∈al,(listed.setIfInBounds i true).getD e.j false=true→w0.heap.size≤β' e.j∧w'.heap[β' e.j]?=some (if(listed.setIfInBounds i true).getD e.s false then e.o1 else e.o0))
  (hinj:∀e∈al,∀e'∈al,(listed.setIfInBounds i true).getD e.j false=true→(listed.setIfInBounds i true).getD e'.j false=true→e.j≠e'.j→β' e.j≠β' e'.j):
  Head ops n al aF a0 w0 (listed.setIfInBounds i true) (a.put oi.dst v) w' β':=by
 have hin:i <listed.size:=O9 (mem_ready.1 hr).1
 refine⟨h.inv.set hr hi,by rw[QQ,h.defers],by rw[XJ,h.size],?_,?_,hbel,hblk,hinj⟩
 ·intro k o d hk ho hd hlt hl
  by_cases hki:k=i
  ·subst hki
   have:o=oi:=Option.some.inj (ho.symm.trans hoi)
   subst this
   rw[hd,Gb,if_pos ⟨rfl,by rw[h.size];exact hlt⟩]
   exact hv d hd hlt
  ·have hl':=((Ge hin).1 hl).resolve_left hki
   have hne:oi.dst≠some d:=by
    rcases Nat.lt_or_ge k i with hlt'|hge
    ·exact ok.dst k i o oi d hlt' hi ho hoi hd
    ·intro hdi
     exact ok.dst i k oi o d (by omega) hk hoi ho hdi hd
   have hx:(a.put oi.dst v).tmps.getD d undef=a.tmps.getD d undef:=by
    cases hdi:oi.dst with
    |none=>rfl
    |some e=>
     rw[Gb,if_neg]
     rintro⟨rfl,_⟩
     exact hne hdi
   rw[hx,h.s1 k o d hk ho hd hlt hl']
   unfold vOf
   rw[hβ k hki]
 ·intro d hno
  have hne:oi.dst≠some d:=hno i oi hi hoi ((Ge hin).2 (.inl rfl))
  have hx:(a.put oi.dst v).tmps.getD d undef=a.tmps.getD d undef:=by
   cases hdi:oi.dst with
   |none=>rfl
   |some e=>
    rw[Gb,if_neg]
    rintro⟨rfl,_⟩
    exact hne hdi
  rw[hx]
  exact h.s2 d fun k o hk ho hl=>hno k o hk ho ((Ge hin).2 (.inr hl))
end par
end Go.Proofs.Yteebobbhhgmeiaa
namespace Go.Proofs.Yteebobbhhgmeiaa
open Go.RowKit
section
variable {P:Program} {Q:Exit→Act→World→Prop} {id:Nat} {l:List Oper} {a:Act} {w:World}
end
end Go.Proofs.Yteebobbhhgmeiaa
namespace Go.Proofs.Yteebobbhhgmeiaa
open Go.RowKit
structure Sx (w:World) (n:Nat) (L:List (Nat×Obj)) (W:World):Prop where
 bel:Below n w W
 sz:n≤W.heap.size
 has:∀e∈L,W.heap[e.1]?=some e.2
variable {w W W':World} {n m:Nat} {L:List (Nat×Obj)} {o:Obj}
theorem Sx.start (hn:w.heap.size=n):Sx w n [] w:=⟨Below.refl _ _,Nat.le_of_eq hn.symm,fun _ h=>by cases h⟩
theorem Sx.call (h:Sx w n L W) (hb:Below W.heap.size W W'):Sx w n L W':=
 ⟨Bg1 h.bel h.sz hb,Bo7 h.sz hb,fun e he=>Fk (h.has e he) hb⟩
theorem Sx.grow (h:Sx w n L W) (x:Xt):Sx w n L (ext W x):=h.call (Bnm W x)
theorem Sx.push (h:Sx w n L W) (hm:W.heap.size=m) (hb:Below m W W') (ho:W'.heap[m]?=some o):Sx w n ((m,o)::L) W':=by
 subst hm
 have h':=h.call hb
 exact⟨h'.bel,h'.sz,fun e he=>by
  rcases List.mem_cons.1 he with rfl|he
  ·exact ho
  ·exact h'.has e he⟩
theorem Sx.new (h:Sx w n L W) (hb:Below W.heap.size W W') (ho:W'.heap[m]?=some o):Sx w n ((m,o)::L) W':=by
 have h':=h.call hb
 exact⟨h'.bel,h'.sz,fun e he=>by
  rcases List.mem_cons.1 he with rfl|he
  ·exact ho
  ·exact h'.has e he⟩
theorem Sx.add (h:Sx w n L W) (ho:W.heap[m]?=some o):Sx w n ((m,o)::L) W:=
 ⟨h.bel,h.sz,fun e he=>by
  rcases List.mem_cons.1 he with rfl|he
  ·exact ho
  ·exact h.has e he⟩
theorem Sx.get {e:Nat×Obj} (h:Sx w n L W) (i:Nat) (hi:L[i]?=some e):W.heap[e.1]?=some e.2:=h.has e (List.mem_of_getElem? hi)
theorem Sx.lt {e:Nat×Obj} (h:Sx w n L W) (i:Nat) (hi:L[i]?=some e):e.1 <W.heap.size:=HW (h.get i hi)
theorem Sx.weak (h:Sx w n L W) (L':List (Nat×Obj)) (hl:∀e∈L',e∈L):Sx w n L' W:=⟨h.bel,h.sz,fun e he=>h.has e (hl e he)⟩
end Go.Proofs.Yteebobbhhgmeiaa
namespace Go.Proofs.Yteebobbhhgmeiaa
open Go.RowKit
structure TVec where
 a:Int
 b:Int
structure TStamp where
 n:Int
 site:Int
structure TCell where
 stamp:TStamp
 vec:TVec
 gone:Bool
 value:ByteArray
 dead:TVec
structure TRow where
 key:ByteArray
 cells:List TCell
structure TGroup where
 name:ByteArray
 policy:Int
structure TWrite where
 key:ByteArray
 group:Int
 gone:Bool
 value:ByteArray
structure TChange where
 site:Int
 seq:Int
 stamp:TStamp
 vec:TVec
 writes:List TWrite
structure TField where
 group:Int
 value:ByteArray
structure TView where
 key:ByteArray
 fields:List TField
structure Blo where
 ack:Int
 own:Int
 come:Int
structure Bnh where
 kind:Int
 row:TRow
 til:ByteArray
 n:Int
structure TFront where
 site:Int
 acked:Int
 stable:Int
 wait:Int
 til:Int
structure Bvp where
 stamp:TStamp
 vec:TVec
 gone:Bool
 value:ByteArray
structure Bni where
 row:TRow
 group:Int
 cell:TCell
structure Bln where
 name:ByteArray
 text:ByteArray
structure Ath where
 src:Int
 bytes:ByteArray
structure TPlace where
 key:ByteArray
 group:Int
structure Blm where
 key:ByteArray
 from_:ByteArray
 til:ByteArray
 n:Int
structure A54 where
 a:List TCell
 b:List TCell
 c:List TCell
inductive TC where
 |u8|i64|u32|bool|str|vec|stamp|cell|row|group|write|change|field|view|told|act|front|ask|two|note|packet|place|ask3|three|bytes|ints|cells|rows|digest
abbrev U:TC→Type
 | .u8=>UInt8
 | .i64=>Int
 | .u32=>Int
 | .bool=>Bool
 | .str=>ByteArray
 | .vec=>TVec
 | .stamp=>TStamp
 | .cell=>TCell
 | .row=>TRow
 | .group=>TGroup
 | .write=>TWrite
 | .change=>TChange
 | .field=>TField
 | .view=>TView
 | .told=>Blo
 | .act=>Bnh
 | .front=>TFront
 | .ask=>Bvp
 | .two=>Bni
 | .note=>Bln
 | .packet=>Ath
 | .place=>TPlace
 | .ask3=>Blm
 | .three=>A54
 | .bytes=>List UInt8
 | .ints=>List Int
 | .cells=>List TCell
 | .rows=>List TRow
 | .digest=>List UInt8
def Ac:(c:TC)→U c
 | .u8=>(0:UInt8)
 | .i64=>(0:Int)
 | .u32=>(0:Int)
 | .bool=>(false:Bool)
 | .str=>(ByteArray.empty:ByteArray)
 | .vec=>(⟨0,0⟩:TVec)
 | .stamp=>(⟨0,0⟩:TStamp)
 | .cell=>(⟨⟨0,0⟩,⟨0,0⟩,false,ByteArray.empty,⟨0,0⟩⟩:TCell)
 | .row=>(⟨ByteArray.empty,[]⟩:TRow)
 | .group=>(⟨ByteArray.empty,0⟩:TGroup)
 | .write=>(⟨ByteArray.empty,0,false,ByteArray.empty⟩:TWrite)
 | .change=>(⟨0,0,⟨0,0⟩,⟨0,0⟩,[]⟩:TChange)
 | .field=>(⟨0,ByteArray.empty⟩:TField)
 | .view=>(⟨ByteArray.empty,[]⟩:TView)
 | .told=>(⟨0,0,0⟩:Blo)
 | .act=>(⟨0,⟨ByteArray.empty,[]⟩,ByteArray.empty,0⟩:Bnh)
 | .front=>(⟨0,0,0,0,0⟩:TFront)
 | .ask=>(⟨⟨0,0⟩,⟨0,0⟩,false,ByteArray.empty⟩:Bvp)
 | .two=>(⟨⟨ByteArray.empty,[]⟩,0,⟨⟨0,0⟩,⟨0,0⟩,false,ByteArray.empty,⟨0,0⟩⟩⟩:Bni)
 | .note=>(⟨ByteArray.empty,ByteArray.empty⟩:Bln)
 | .packet=>(⟨0,ByteArray.empty⟩:Ath)
 | .place=>(⟨ByteArray.empty,0⟩:TPlace)
 | .ask3=>(⟨ByteArray.empty,ByteArray.empty,ByteArray.empty,0⟩:Blm)
 | .three=>(⟨[],[],[]⟩:A54)
 | .bytes=>([]:List UInt8)
 | .ints=>([]:List Int)
 | .cells=>([]:List TCell)
 | .rows=>([]:List TRow)
 | .digest=>([]:List UInt8)
def size:TC→Nat
 | .u8=>1
 | .i64=>1
 | .u32=>1
 | .bool=>1
 | .str=>1
 | .vec=>2
 | .stamp=>2
 | .cell=>8
 | .row=>2
 | .group=>2
 | .write=>4
 | .change=>7
 | .field=>2
 | .view=>2
 | .told=>3
 | .act=>5
 | .front=>5
 | .ask=>6
 | .two=>11
 | .note=>2
 | .packet=>2
 | .place=>2
 | .ask3=>4
 | .three=>3
 | .bytes=>1
 | .ints=>1
 | .cells=>1
 | .rows=>1
 | .digest=>32
def TC.isAgg:TC→Bool
 | .u8=>false
 | .i64=>false
 | .u32=>false
 | .bool=>false
 | .str=>false
 | .vec=>true
 | .stamp=>true
 | .cell=>true
 | .row=>true
 | .group=>true
 | .write=>true
 | .change=>true
 | .field=>true
 | .view=>true
 | .told=>true
 | .act=>true
 | .front=>true
 | .ask=>true
 | .two=>true
 | .note=>true
 | .packet=>true
 | .place=>true
 | .ask3=>true
 | .three=>true
 | .bytes=>false
 | .ints=>false
 | .cells=>false
 | .rows=>false
 | .digest=>true
def TC.same:(c c':TC)→Option (PLift (c=c'))
 | .u8,.u8=>some ⟨rfl⟩
 | .i64,.i64=>some ⟨rfl⟩
 | .u32,.u32=>some ⟨rfl⟩
 | .bool,.bool=>some ⟨rfl⟩
 | .str,.str=>some ⟨rfl⟩
 | .vec,.vec=>some ⟨rfl⟩
 | .stamp,.stamp=>some ⟨rfl⟩
 | .cell,.cell=>some ⟨rfl⟩
 | .row,.row=>some ⟨rfl⟩
 | .group,.group=>some ⟨rfl⟩
 | .write,.write=>some ⟨rfl⟩
 | .change,.change=>some ⟨rfl⟩
 | .field,.field=>some ⟨rfl⟩
 | .view,.view=>some ⟨rfl⟩
 | .told,.told=>some ⟨rfl⟩
 | .act,.act=>some ⟨rfl⟩
 | .front,.front=>some ⟨rfl⟩
 | .ask,.ask=>some ⟨rfl⟩
 | .two,.two=>some ⟨rfl⟩
 | .note,.note=>some ⟨rfl⟩
 | .packet,.packet=>some ⟨rfl⟩
 | .place,.place=>some ⟨rfl⟩
 | .ask3,.ask3=>some ⟨rfl⟩
 | .three,.three=>some ⟨rfl⟩
 | .bytes,.bytes=>some ⟨rfl⟩
 | .ints,.ints=>some ⟨rfl⟩
 | .cells,.cells=>some ⟨rfl⟩
 | .rows,.rows=>some ⟨rfl⟩
 | .digest,.digest=>some ⟨rfl⟩
 |_,_=>none
def Am5 {c c':TC} (h:c=c') (l:List (U c)):List (U c'):=h▸l
def Bp (b:UInt8):Value:=.int .u8 b.toNat
inductive A where
 |v (x:Value)
 |sl (c:TC) (l:List (U c))
 |ref (l:List A)
 |own (i off:Nat)
 |ownx (i base len k:Nat)
 |sq (i:Nat)
 |vw (i size lo n:Nat) (full:Bool)
 |el (i k size off:Nat)
 |dq (i:Nat)
 |iv (i k:Nat)
 |de (i k size off:Nat)
 |ie (i k j size off:Nat)
 |mp (i:Nat)
 |nl
 |it (q:Bool) (vs:List Value)
 |fn (f:FuncId) (first caps:List A)
 |agg (xs:List A)
 |tup (xs:List A)
 |opt (u:Nat) (b:Bool) (x:A)
 |dead
def enc:(c:TC)→U c→List A
 | .u8,(x:UInt8)=>[.v (Bp x)]
 | .i64,(x:Int)=>[.v (.int .i64 x)]
 | .u32,(x:Int)=>[.v (.int .u32 x)]
 | .bool,(x:Bool)=>[.v (.bool x)]
 | .str,(x:ByteArray)=>[.v (.string x)]
 | .vec,(x:TVec)=>[.v (.int .i64 x.a),.v (.int .i64 x.b)]
 | .stamp,(x:TStamp)=>[.v (.int .i64 x.n),.v (.int .i64 x.site)]
 | .cell,(x:TCell)=>[.v (.int .i64 x.stamp.n),.v (.int .i64 x.stamp.site),.v (.int .i64 x.vec.a),.v (.int .i64 x.vec.b),.v (.bool x.gone),.v (.string x.value),.v (.int .i64 x.dead.a),.v (.int .i64 x.dead.b)]
 | .row,(x:TRow)=>[.v (.string x.key),.sl .cell x.cells]
 | .group,(x:TGroup)=>[.v (.string x.name),.v (.int .i64 x.policy)]
 | .write,(x:TWrite)=>[.v (.string x.key),.v (.int .i64 x.group),.v (.bool x.gone),.v (.string x.value)]
 | .change,(x:TChange)=>[.v (.int .i64 x.site),.v (.int .i64 x.seq),.v (.int .i64 x.stamp.n),.v (.int .i64 x.stamp.site),.v (.int .i64 x.vec.a),.v (.int .i64 x.vec.b),.sl .write x.writes]
 | .field,(x:TField)=>[.v (.int .i64 x.group),.v (.string x.value)]
 | .view,(x:TView)=>[.v (.string x.key),.sl .field x.fields]
 | .told,(x:Blo)=>[.v (.int .i64 x.ack),.v (.int .i64 x.own),.v (.int .i64 x.come)]
 | .act,(x:Bnh)=>[.v (.int .i64 x.kind),.v (.string x.row.key),.sl .cell x.row.cells,.v (.string x.til),.v (.int .i64 x.n)]
 | .front,(x:TFront)=>[.v (.int .i64 x.site),.v (.int .i64 x.acked),.v (.int .i64 x.stable),.v (.int .i64 x.wait),.v (.int .i64 x.til)]
 | .ask,(x:Bvp)=>[.v (.int .i64 x.stamp.n),.v (.int .i64 x.stamp.site),.v (.int .i64 x.vec.a),.v (.int .i64 x.vec.b),.v (.bool x.gone),.v (.string x.value)]
 | .two,(x:Bni)=>[.v (.string x.row.key),.sl .cell x.row.cells,.v (.int .i64 x.group),.v (.int .i64 x.cell.stamp.n),.v (.int .i64 x.cell.stamp.site),.v (.int .i64 x.cell.vec.a),.v (.int .i64 x.cell.vec.b),.v (.bool x.cell.gone),.v (.string x.cell.value),.v (.int .i64 x.cell.dead.a),.v (.int .i64 x.cell.dead.b)]
 | .note,(x:Bln)=>[.v (.string x.name),.v (.string x.text)]
 | .packet,(x:Ath)=>[.v (.int .i64 x.src),.v (.string x.bytes)]
 | .place,(x:TPlace)=>[.v (.string x.key),.v (.int .i64 x.group)]
 | .ask3,(x:Blm)=>[.v (.string x.key),.v (.string x.from_),.v (.string x.til),.v (.int .i64 x.n)]
 | .three,(x:A54)=>[.sl .cell x.a,.sl .cell x.b,.sl .cell x.c]
 | .bytes,(x:List UInt8)=>[.sl .u8 x]
 | .ints,(x:List Int)=>[.sl .i64 x]
 | .cells,(x:List TCell)=>[.sl .cell x]
 | .rows,(x:List TRow)=>[.sl .row x]
 | .digest,(x:List UInt8)=>[.v (Bp (x.getD 0 0)),.v (Bp (x.getD 1 0)),.v (Bp (x.getD 2 0)),.v (Bp (x.getD 3 0)),.v (Bp (x.getD 4 0)),.v (Bp (x.getD 5 0)),.v (Bp (x.getD 6 0)),.v (Bp (x.getD 7 0)),.v (Bp (x.getD 8 0)),.v (Bp (x.getD 9 0)),.v (Bp (x.getD 10 0)),.v (Bp (x.getD 11 0)),.v (Bp (x.getD 12 0)),.v (Bp (x.getD 13 0)),.v (Bp (x.getD 14 0)),.v (Bp (x.getD 15 0)),.v (Bp (x.getD 16 0)),.v (Bp (x.getD 17 0)),.v (Bp (x.getD 18 0)),.v (Bp (x.getD 19 0)),.v (Bp (x.getD 20 0)),.v (Bp (x.getD 21 0)),.v (Bp (x.getD 22 0)),.v (Bp (x.getD 23 0)),.v (Bp (x.getD 24 0)),.v (Bp (x.getD 25 0)),.v (Bp (x.getD 26 0)),.v (Bp (x.getD 27 0)),.v (Bp (x.getD 28 0)),.v (Bp (x.getD 29 0)),.v (Bp (x.getD 30 0)),.v (Bp (x.getD 31 0))]
theorem Ab5 (c:TC) (d:U c):(enc c d).length=size c:=by cases c<;>rfl
def A.plainCell:A→Prop
 | .v x=>x.oneCell'=true
 | .sl _ _=>True
 |_=>False
theorem Sk (c:TC) (d:U c):∀x∈enc c d,x.plainCell:=by
 cases c<;>(intro x hx;simp only[enc,List.mem_cons,List.not_mem_nil,or_false] at hx;repeat' (rcases hx with rfl|hx))<;>first|trivial|rfl|(subst hx;trivial)|(subst hx;rfl)
abbrev Got (α:Type):=Option (α×List A×List Prop)
def gI:List A→List Prop→Got Int
 | .v (.int .i64 n)::r,ps=>some (n,r,ps)
 |_,_=>none
def gW:List A→List Prop→Got Int
 | .v (.int .u32 n)::r,ps=>some (n,r,ps)
 |_,_=>none
def gB:List A→List Prop→Got Bool
 | .v (.bool b)::r,ps=>some (b,r,ps)
 |_,_=>none
def gT:List A→List Prop→Got ByteArray
 | .v (.string s)::r,ps=>some (s,r,ps)
 |_,_=>none
def gU:List A→List Prop→Got UInt8
 | .v (.int .u8 n)::r,ps=>some (UInt8.ofNat n.toNat,r,(0≤n∧n <256)::ps)
 |_,_=>none
def gL (c:TC):List A→List Prop→Got (List (U c))
 | .sl c' l::r,ps=>match TC.same c' c with
  |some h=>some (Am5 h.down l,r,ps)
  |none=>none
 | .v (.slice none 0 0)::r,ps=>some ([],r,ps)
 | .nl::r,ps=>some ([],r,ps)
 |_,_=>none
def Got.thn {α β:Type}:Got α→(α→List A→List Prop→Option β)→Option β
 |none,_=>none
 |some (x,r,ps),f=>f x r ps
def O0 {α:Type}:List A→α→List Prop→Option (α×List Prop)
 | [],x,ps=>some (x,ps)
 |_::_,_,_=>none
def YG:(c:TC)→List A→Option (U c×List Prop)
 | .u8,cs=>(gU cs []).thn fun x0 r ps=>O0 r (x0:UInt8) ps
 | .i64,cs=>(gI cs []).thn fun x0 r ps=>O0 r (x0:Int) ps
 | .u32,cs=>(gW cs []).thn fun x0 r ps=>O0 r (x0:Int) ps
 | .bool,cs=>(gB cs []).thn fun x0 r ps=>O0 r (x0:Bool) ps
 | .str,cs=>(gT cs []).thn fun x0 r ps=>O0 r (x0:ByteArray) ps
 | .vec,cs=>(gI cs []).thn fun x0 r ps=>(gI r ps).thn fun x1 r ps=>O0 r (⟨x0,x1⟩:TVec) ps
 | .stamp,cs=>(gI cs []).thn fun x0 r ps=>(gI r ps).thn fun x1 r ps=>O0 r (⟨x0,x1⟩:TStamp) ps
 | .cell,cs=>(gI cs []).thn fun x0 r ps=>(gI r ps).thn fun x1 r ps=>(gI r ps).thn fun x2 r ps=>(gI r ps).thn fun x3 r ps=>(gB r ps).thn fun x4 r ps=>(gT r ps).thn fun x5 r ps=>(gI r ps).thn fun x6 r ps=>(gI r ps).thn fun x7 r ps=>O0 r (⟨⟨x0,x1⟩,⟨x2,x3⟩,x4,x5,⟨x6,x7⟩⟩:TCell) ps
 | .row,cs=>(gT cs []).thn fun x0 r ps=>(gL .cell r ps).thn fun x1 r ps=>O0 r (⟨x0,x1⟩:TRow) ps
 | .group,cs=>(gT cs []).thn fun x0 r ps=>(gI r ps).thn fun x1 r ps=>O0 r (⟨x0,x1⟩:TGroup) ps
 | .write,cs=>(gT cs []).thn fun x0 r ps=>(gI r ps).thn fun x1 r ps=>(gB r ps).thn fun x2 r ps=>(gT r ps).thn fun x3 r ps=>O0 r (⟨x0,x1,x2,x3⟩:TWrite) ps
 | .change,cs=>(gI cs []).thn fun x0 r ps=>(gI r ps).thn fun x1 r ps=>(gI r ps).thn fun x2 r ps=>(gI r ps).thn fun x3 r ps=>(gI r ps).thn fun x4 r ps=>(gI r ps).thn fun x5 r ps=>(gL .write r ps).thn fun x6 r ps=>O0 r (⟨x0,x1,⟨x2,x3⟩,⟨x4,x5⟩,x6⟩:TChange) ps
 | .field,cs=>(gI cs []).thn fun x0 r ps=>(gT r ps).thn fun x1 r ps=>O0 r (⟨x0,x1⟩:TField) ps
 | .view,cs=>(gT cs []).thn fun x0 r ps=>(gL .field r ps).thn fun x1 r ps=>O0 r (⟨x0,x1⟩:TView) ps
 | .told,cs=>(gI cs []).thn fun x0 r ps=>(gI r ps).thn fun x1 r ps=>(gI r ps).thn fun x2 r ps=>O0 r (⟨x0,x1,x2⟩:Blo) ps
 | .act,cs=>(gI cs []).thn fun x0 r ps=>(gT r ps).thn fun x1 r ps=>(gL .cell r ps).thn fun x2 r ps=>(gT r ps).thn fun x3 r ps=>(gI r ps).thn fun x4 r ps=>O0 r (⟨x0,⟨x1,x2⟩,x3,x4⟩:Bnh) ps
 | .front,cs=>(gI cs []).thn fun x0 r ps=>(gI r ps).thn fun x1 r ps=>(gI r ps).thn fun x2 r ps=>(gI r ps).thn fun x3 r ps=>(gI r ps).thn fun x4 r ps=>O0 r (⟨x0,x1,x2,x3,x4⟩:TFront) ps
 | .ask,cs=>(gI cs []).thn fun x0 r ps=>(gI r ps).thn fun x1 r ps=>(gI r ps).thn fun x2 r ps=>(gI r ps).thn fun x3 r ps=>(gB r ps).thn fun x4 r ps=>(gT r ps).thn fun x5 r ps=>O0 r (⟨⟨x0,x1⟩,⟨x2,x3⟩,x4,x5⟩:Bvp) ps
 | .two,cs=>(gT cs []).thn fun x0 r ps=>(gL .cell r ps).thn fun x1 r ps=>(gI r ps).thn fun x2 r ps=>(gI r ps).thn fun x3 r ps=>(gI r ps).thn fun x4 r ps=>(gI r ps).thn fun x5 r ps=>(gI r ps).thn fun x6 r ps=>(gB r ps).thn fun x7 r ps=>(gT r ps).thn fun x8 r ps=>(gI r ps).thn fun x9 r ps=>(gI r ps).thn fun x10 r ps=>O0 r (⟨⟨x0,x1⟩,x2,⟨⟨x3,x4⟩,⟨x5,x6⟩,x7,x8,⟨x9,x10⟩⟩⟩:Bni) ps
 | .note,cs=>(gT cs []).thn fun x0 r ps=>(gT r ps).thn fun x1 r ps=>O0 r (⟨x0,x1⟩:Bln) ps
 | .packet,cs=>(gI cs []).thn fun x0 r ps=>(gT r ps).thn fun x1 r ps=>O0 r (⟨x0,x1⟩:Ath) ps
 | .place,cs=>(gT cs []).thn fun x0 r ps=>(gI r ps).thn fun x1 r ps=>O0 r (⟨x0,x1⟩:TPlace) ps
 | .ask3,cs=>(gT cs []).thn fun x0 r ps=>(gT r ps).thn fun x1 r ps=>(gT r ps).thn fun x2 r ps=>(gI r ps).thn fun x3 r ps=>O0 r (⟨x0,x1,x2,x3⟩:Blm) ps
 | .three,cs=>(gL .cell cs []).thn fun x0 r ps=>(gL .cell r ps).thn fun x1 r ps=>(gL .cell r ps).thn fun x2 r ps=>O0 r (⟨x0,x1,x2⟩:A54) ps
 | .bytes,cs=>(gL .u8 cs []).thn fun x0 r ps=>O0 r (x0:List UInt8) ps
 | .ints,cs=>(gL .i64 cs []).thn fun x0 r ps=>O0 r (x0:List Int) ps
 | .cells,cs=>(gL .cell cs []).thn fun x0 r ps=>O0 r (x0:List TCell) ps
 | .rows,cs=>(gL .row cs []).thn fun x0 r ps=>O0 r (x0:List TRow) ps
 | .digest,cs=>(gU cs []).thn fun x0 r ps=>(gU r ps).thn fun x1 r ps=>(gU r ps).thn fun x2 r ps=>(gU r ps).thn fun x3 r ps=>(gU r ps).thn fun x4 r ps=>(gU r ps).thn fun x5 r ps=>(gU r ps).thn fun x6 r ps=>(gU r ps).thn fun x7 r ps=>(gU r ps).thn fun x8 r ps=>(gU r ps).thn fun x9 r ps=>(gU r ps).thn fun x10 r ps=>(gU r ps).thn fun x11 r ps=>(gU r ps).thn fun x12 r ps=>(gU r ps).thn fun x13 r ps=>(gU r ps).thn fun x14 r ps=>(gU r ps).thn fun x15 r ps=>(gU r ps).thn fun x16 r ps=>(gU r ps).thn fun x17 r ps=>(gU r ps).thn fun x18 r ps=>(gU r ps).thn fun x19 r ps=>(gU r ps).thn fun x20 r ps=>(gU r ps).thn fun x21 r ps=>(gU r ps).thn fun x22 r ps=>(gU r ps).thn fun x23 r ps=>(gU r ps).thn fun x24 r ps=>(gU r ps).thn fun x25 r ps=>(gU r ps).thn fun x26 r ps=>(gU r ps).thn fun x27 r ps=>(gU r ps).thn fun x28 r ps=>(gU r ps).thn fun x29 r ps=>(gU r ps).thn fun x30 r ps=>(gU r ps).thn fun x31 r ps=>O0 r ([x0,x1,x2,x3,x4,x5,x6,x7,x8,x9,x10,x11,x12,x13,x14,x15,x16,x17,x18,x19,x20,x21,x22,x23,x24,x25,x26,x27,x28,x29,x30,x31]:List UInt8) ps
theorem B2i {l r:List A} {ps qs:List Prop} {n:Int} (h:gI l ps=some (n,r,qs)):l=.v (.int .i64 n)::r∧qs=ps:=by
 unfold gI at h;split at h<;>first|(cases h;exact⟨rfl,rfl⟩)|(cases h;done)
theorem B2n {l r:List A} {ps qs:List Prop} {n:Int} (h:gW l ps=some (n,r,qs)):l=.v (.int .u32 n)::r∧qs=ps:=by
 unfold gW at h;split at h<;>first|(cases h;exact⟨rfl,rfl⟩)|(cases h;done)
theorem B2h {l r:List A} {ps qs:List Prop} {n:Bool} (h:gB l ps=some (n,r,qs)):l=.v (.bool n)::r∧qs=ps:=by
 unfold gB at h;split at h<;>first|(cases h;exact⟨rfl,rfl⟩)|(cases h;done)
theorem B2k {l r:List A} {ps qs:List Prop} {n:ByteArray} (h:gT l ps=some (n,r,qs)):l=.v (.string n)::r∧qs=ps:=by
 unfold gT at h;split at h<;>first|(cases h;exact⟨rfl,rfl⟩)|(cases h;done)
theorem B2l {l r:List A} {ps qs:List Prop} {n:UInt8} (h:gU l ps=some (n,r,qs)) (hq:∀q∈qs,q):l=.v (Bp n)::r∧∀q∈ps,q:=by
 unfold gU at h
 split at h<;>first|(cases h;done)|skip
 rename_i m _
 cases h
 have h1:=hq _ (List.mem_cons_self ..)
 refine⟨?_,fun q hm=>hq q (List.mem_cons_of_mem _ hm)⟩
 have:((UInt8.ofNat m.toNat).toNat:Int)=m:=by
  rw[UInt8.toNat_ofNat']
  omega
 unfold Bp
 rw[this]
theorem B2j {c:TC} {l r:List A} {ps qs:List Prop} {n:List (U c)} (h:gL c l ps=some (n,r,qs)):(l=.sl c n::r∨((l=.v (.slice none 0 0)::r∨l=.nl::r)∧n=[]))∧qs=ps:=by
 unfold gL at h
 split at h<;>first|(cases h;done)|skip
 ·rename_i c' m _ _
  split at h<;>first|(cases h;done)|skip
  rename_i hc _
  obtain⟨hc⟩:=hc
  subst hc
  cases h
  exact⟨.inl rfl,rfl⟩
 ·cases h
  exact⟨.inr ⟨.inl rfl,rfl⟩,rfl⟩
 ·cases h
  exact⟨.inr ⟨.inr rfl,rfl⟩,rfl⟩
end Go.Proofs.Yteebobbhhgmeiaa
namespace Go.Proofs.Yteebobbhhgmeiaa
open Go.RowKit
def Jz:List (List A)→Nat→List A
 | [],_=>[]
 |x::_,0=>x
 |_::r,n+1=>Jz r n
inductive Els where
 |lst (cs:List (List A))
 |ty (c:TC) (l:List (U c))
def Els.n:Els→Nat
 | .lst cs=>cs.length
 | .ty _ l=>l.length
def Els.nth:Els→Nat→List A
 | .lst cs,k=>Jz cs k
 | .ty c l,k=>enc c (l.getD k (Ac c))
inductive Ob where
 |box (e:TypeId) (cs:List A)
 |arr (e:TypeId) (size:Nat) (els:Els)
 |map (k v:TC) (l:List (U k×U v))
 |sit (s:ByteArray) (pos:Nat)
 |deep (e:TypeId) (c:TC) (l:List (U c))
abbrev HV:=List (Nat×A)
abbrev Objs:=List (Nat×Option Ob)
def A0z:Bool→Bool→Bool
 |true,true=>true
 |false,false=>true
 |_,_=>false
theorem YB {a b:Bool} (h:A0z a b=true):a=b:=by cases a<;>cases b<;>first|rfl|cases h
theorem M5 (k:Nat):Nat.beq k k=true:=by simp
theorem Aub {k j:Nat} (h:k≠j):Nat.beq k j=false:=by
 cases hb:Nat.beq k j with
 |true=>exact absurd (Nat.eq_of_beq_eq_true hb) h
 |false=>rfl
def D6 (u:Nat):HV→Option A
 | []=>none
 |(k,x)::r=>bif Nat.beq k u then some x else D6 u r
def Ao (i:Nat):Objs→Option Ob
 | []=>none
 |(k,x)::r=>bif Nat.beq k i then x else Ao i r
structure St where
 n:Nat
 nx:Nat
 t:HV
 o:Objs
structure Nm where
 b:Nat→Nat
 q:Nat→Value
def FD:Value→Addr
 | .slice (some a) _ _=>a
 |_=>⟨0,0,none⟩
def CR:Value→Option Nat
 | .slice (some a) _ (_+1)=>some a.block
 |_=>none
theorem D3 (ad:Addr) (i j:Nat):(ad.add i).add j=ad.add (i+j):=by
 unfold Addr.add
 by_cases hi:i=0<;>by_cases hj:j=0<;>simp[hi,hj,Nat.add_assoc]
theorem IX (ad:Addr) (i:Nat):(ad.add i).block=ad.block:=by unfold Addr.add;split<;>rfl
theorem Fj (b o k:Nat):(⟨b,o,none⟩:Addr).add k=⟨b,o+k,none⟩:=Addr.add_mid b o k
theorem add_zero (ad:Addr):ad.add 0=ad:=by unfold Addr.add;simp
def Nr (v:Value) (k:Nat):Value:=match v with
 | .agg ws=>ws.getD k undef
 |_=>undef
inductive Hv (F:Nat→Prop) (N:Nm) (nx:Nat) (R:World):A→Value→Prop
 |v (x:Value):Hv F N nx R (.v x) x
 | sl {c:TC} {l:List (U c)} {a:Option Addr} {cap:Nat} (ad:Addr) (h1:l.length≤cap) (h2:0 <l.length→a=some ad∧F ad.block)
   (h3:∀(i:Nat) (d:U c) (j:Nat) (x:A),l[i]?=some d→(enc c d)[j]?=some x→∃y,R.cell? (ad.add (i*size c+j))=some y)
   (h4:∀(i:Nat) (d:U c) (j:Nat) (x:A) (y:Value),l[i]?=some d→(enc c d)[j]?=some x→R.cell? (ad.add (i*size c+j))=some y→Hv F N nx R x y):Hv F N nx R (.sl c l) (.slice a l.length cap)
 | ref {l:List A} (ad:Addr) (h1:F ad.block) (h2:∀(j:Nat) (x:A),l[j]?=some x→∃y,R.cell? (ad.add j)=some y)
   (h3:∀(j:Nat) (x:A) (y:Value),l[j]?=some x→R.cell? (ad.add j)=some y→Hv F N nx R x y):Hv F N nx R (.ref l) (.pointer (some ad))
 |own {i off:Nat} (h:i <nx):Hv F N nx R (.own i off) (.pointer (some ⟨N.b i,off,none⟩))
 |ownx {i base len k:Nat} (h:i <nx):Hv F N nx R (.ownx i base len k) (.pointer (some ⟨N.b i,base+k,none⟩))
 |sq {i:Nat} (h:i <nx):Hv F N nx R (.sq i) (N.q i)
 |vw {i size lo n:Nat} {full:Bool} {a:Option Addr} {cap:Nat} (h:i <nx) (h1:n≤cap) (h2:full=true→cap=n) (h3:0 <n→a=some ((FD (N.q i)).add (lo*size))):Hv F N nx R (.vw i size lo n full) (.slice a n cap)
 |el {i k size off:Nat} (h:i <nx):Hv F N nx R (.el i k size off) (.pointer (some ((FD (N.q i)).add (k*size+off))))
 |dq {i:Nat} (h:i <nx):Hv F N nx R (.dq i) (Nr (N.q i) 0)
 |iv {i k:Nat} (h:i <nx):Hv F N nx R (.iv i k) (Nr (N.q i) (k+1))
 |de {i k size off:Nat} (h:i <nx):Hv F N nx R (.de i k size off) (.pointer (some ((FD (Nr (N.q i) 0)).add (k*size+off))))
 |ie {i k j size off:Nat} (h:i <nx):Hv F N nx R (.ie i k j size off) (.pointer (some ((FD (Nr (N.q i) (k+1))).add (j*size+off))))
 |mp {i:Nat} (h:i <nx):Hv F N nx R (.mp i) (.map (some (N.b i)))
 |nl (a:Option Addr):Hv F N nx R .nl (.slice a 0 0)
 |it (q:Bool) (vs:List Value) (y:Value) (h:y=bif q then .tuple (Value.bool true::vs).toArray else .tuple #[.bool false]):Hv F N nx R (.it q vs) y
 | fn {f:FuncId} {first caps:List A} (vs us:List Value) (h1:vs.length=first.length) (h2:∀(j:Nat) (x:A) (v:Value),first[j]?=some x→vs[j]?=some v→Hv F N nx R x v)
   (h3:us.length=caps.length) (h4:∀(j:Nat) (x:A) (v:Value),caps[j]?=some x→us[j]?=some v→Hv F N nx R x v):Hv F N nx R (.fn f first caps) (.func (.func f) vs.toArray us.toArray)
 |agg {xs:List A} (vs:List Value) (h1:vs.length=xs.length) (h2:∀(j:Nat) (x:A) (v:Value),xs[j]?=some x→vs[j]?=some v→Hv F N nx R x v):Hv F N nx R (.agg xs) (.agg vs.toArray)
 |tup {xs:List A} (vs:List Value) (h1:vs.length=xs.length) (h2:∀(j:Nat) (x:A) (v:Value),xs[j]?=some x→vs[j]?=some v→Hv F N nx R x v):Hv F N nx R (.tup xs) (.tuple vs.toArray)
 |dead (y:Value):Hv F N nx R .dead y
def HL (F:Nat→Prop) (N:Nm) (nx:Nat) (R:World):List A→List Value→Prop
 | [],l=>l=[]
 |x::r,l=>∃v vs,l=v::vs∧Hv F N nx R x v∧HL F N nx R r vs
def HC (F:Nat→Prop) (N:Nm) (nx:Nat) (R:World) (l:List A) (ad:Addr):Prop:=∀(j:Nat) (x:A),l[j]?=some x→∃y,R.cell? (ad.add j)=some y∧Hv F N nx R x y
section
variable {F:Nat→Prop} {N:Nm} {nx:Nat} {R:World}
theorem HL.nil:HL F N nx R [] []:=rfl
theorem HL.cons {x:A} {v:Value} {r:List A} {vs:List Value} (h:Hv F N nx R x v) (t:HL F N nx R r vs):HL F N nx R (x::r) (v::vs):=⟨v,vs,rfl,h,t⟩
theorem HL.inv {x:A} {r:List A} {l:List Value} (h:HL F N nx R (x::r) l):∃v vs,l=v::vs∧Hv F N nx R x v∧HL F N nx R r vs:=h
theorem HL.inv0 {l:List Value} (h:HL F N nx R [] l):l=[]:=h
theorem HL.length:∀{xs:List A} {vs:List Value},HL F N nx R xs vs→vs.length=xs.length
 | [],_,h=>by rw[h.inv0];rfl
 |_::_,_,h=>by
  obtain⟨v,vs,rfl,_,h3⟩:=h.inv
  rw[List.length_cons,List.length_cons,HL.length h3]
theorem HL.append:∀{xs ys:List A} {vs us:List Value},HL F N nx R xs vs→HL F N nx R ys us→HL F N nx R (xs++ys) (vs++us)
 | [],_,_,_,h,k=>by rw[h.inv0];exact k
 |_::_,_,_,_,h,k=>by
  obtain⟨v,vs,rfl,h2,h3⟩:=h.inv
  exact HL.cons h2 (HL.append h3 k)
theorem HL.drop:∀(n:Nat) {xs:List A} {vs:List Value},HL F N nx R xs vs→HL F N nx R (xs.drop n) (vs.drop n)
 |0,_,_,h=>h
 |_+1,[],_,h=>by rw[h.inv0];exact HL.nil
 |n+1,_::_,_,h=>by
  obtain⟨v,vs,rfl,_,h3⟩:=h.inv
  exact HL.drop n h3
theorem HL.take:∀(n:Nat) {xs:List A} {vs:List Value},HL F N nx R xs vs→HL F N nx R (xs.take n) (vs.take n)
 |0,_,_,_=>by rw[List.take_zero,List.take_zero];exact HL.nil
 |_+1,[],_,h=>by rw[h.inv0];exact HL.nil
 |n+1,_::_,_,h=>by
  obtain⟨v,vs,rfl,h2,h3⟩:=h.inv
  exact HL.cons h2 (HL.take n h3)
theorem HL.get:∀{xs:List A} {vs:List Value} {j:Nat} {x:A},HL F N nx R xs vs→xs[j]?=some x→∃v,vs[j]?=some v∧Hv F N nx R x v
 | [],_,_,_,_,h=>by cases h
 |_::_,_,0,_,h,hx=>by
  obtain⟨v,vs,rfl,h2,_⟩:=h.inv
  cases hx
  exact⟨v,rfl,h2⟩
 |_::_,_,j+1,_,h,hx=>by
  obtain⟨v,vs,rfl,_,h3⟩:=h.inv
  exact HL.get (j:=j) h3 hx
theorem HL.of:∀{xs:List A} {vs:List Value},vs.length=xs.length→(∀(j:Nat) (x:A) (v:Value),xs[j]?=some x→vs[j]?=some v→Hv F N nx R x v)→HL F N nx R xs vs
 | [],vs,h,_=>List.eq_nil_of_length_eq_zero h
 |x::r,[],h,_=>by cases h
 |x::r,v::vs,h,k=>HL.cons (k 0 x v rfl rfl) (HL.of (by simpa using h) fun j y u hy hu=>k (j+1) y u hy hu)
theorem HL.at {xs:List A} {vs:List Value} (h:HL F N nx R xs vs):vs.length=xs.length∧∀(j:Nat) (x:A) (v:Value),xs[j]?=some x→vs[j]?=some v→Hv F N nx R x v:=by
 refine⟨h.length,fun j x v hx hv=>?_⟩
 obtain⟨u,h1,h2⟩:=h.get hx
 rw[hv] at h1
 cases h1
 exact h2
theorem HL.split:∀{xs ys:List A} {vs:List Value},HL F N nx R (xs++ys) vs→∃us ws,vs=us++ws∧HL F N nx R xs us∧HL F N nx R ys ws
 | [],_,vs,h=>⟨[],vs,rfl,HL.nil,h⟩
 |_::_,_,_,h=>by
  obtain⟨v,vs,rfl,h2,h3⟩:=h.inv
  obtain⟨us,ws,rfl,h4,h5⟩:=HL.split h3
  exact⟨v::us,ws,rfl,HL.cons h2 h4,h5⟩
def toL:List Value→List A
 | []=>[]
 |x::r=> .v x::toL r
theorem Hv.v_inv {x y:Value} (h:Hv F N nx R (.v x) y):y=x:=by cases h;rfl
theorem HL.toL:∀xs:List Value,HL F N nx R (toL xs) xs
 | []=>HL.nil
 |_::r=>HL.cons (Hv.v _) (HL.toL r)
def A9b:List A→Option (List Value)
 | []=>some []
 | .v x::r=>match A9b r with
  |some l=>some (x::l)
  |none=>none
 |_::_=>none
theorem Bm0:∀{xs:List A} {us:List Value},A9b xs=some us→xs=Go.Proofs.Yteebobbhhgmeiaa.toL us
 | [],us,e=>by cases e;rfl
 |x::r,us,e=>by
  cases x<;>first|(cases e;done)|skip
  unfold A9b at e
  split at e<;>first|(cases e;done)|skip
  rename_i l hl
  cases e
  rw[Bm0 hl]
  rfl
theorem Bnd:∀{us vs:List Value},HL F N nx R (Go.Proofs.Yteebobbhhgmeiaa.toL us) vs→vs=us
 | [],_,h=>h.inv0
 |u::r,_,h=>by
  obtain⟨v,vs,rfl,h2,h3⟩:=HL.inv (x:=.v u) (r:=Go.Proofs.Yteebobbhhgmeiaa.toL r) h
  rw[h2.v_inv,Bnd h3]
theorem A9c {xs:List A} {us vs:List Value} (e:A9b xs=some us) (h:HL F N nx R xs vs):vs=us:=by
 rw[Bm0 e] at h
 exact Bnd h
theorem Hv.agg_inv {xs:List A} {y:Value} (h:Hv F N nx R (.agg xs) y):∃vs,y=.agg vs.toArray∧HL F N nx R xs vs:=by
 cases h with|agg vs h1 h2=>exact⟨vs,rfl,HL.of h1 h2⟩
theorem Hv.tup_inv {xs:List A} {y:Value} (h:Hv F N nx R (.tup xs) y):∃vs,y=.tuple vs.toArray∧HL F N nx R xs vs:=by
 cases h with|tup vs h1 h2=>exact⟨vs,rfl,HL.of h1 h2⟩
theorem Hv.fn_inv {f:FuncId} {xs ys:List A} {y:Value} (h:Hv F N nx R (.fn f xs ys) y):∃vs us,y=.func (.func f) vs.toArray us.toArray∧HL F N nx R xs vs∧HL F N nx R ys us:=by
 cases h with|fn vs us h1 h2 h3 h4=>exact⟨vs,us,rfl,HL.of h1 h2,HL.of h3 h4⟩
theorem Hv.of_agg {xs:List A} {vs:List Value} (h:HL F N nx R xs vs):Hv F N nx R (.agg xs) (.agg vs.toArray):=.agg vs h.at.1 h.at.2
theorem Hv.of_tup {xs:List A} {vs:List Value} (h:HL F N nx R xs vs):Hv F N nx R (.tup xs) (.tuple vs.toArray):=.tup vs h.at.1 h.at.2
theorem Hv.of_fn {f:FuncId} {xs ys:List A} {vs us:List Value} (h:HL F N nx R xs vs) (k:HL F N nx R ys us):Hv F N nx R (.fn f xs ys) (.func (.func f) vs.toArray us.toArray):=.fn vs us h.at.1 h.at.2 k.at.1 k.at.2
theorem Hv.ref_inv {l:List A} {y:Value} (h:Hv F N nx R (.ref l) y):∃ad,y=.pointer (some ad)∧F ad.block∧HC F N nx R l ad:=by
 cases h with|ref ad h1 h2 h3=>exact⟨ad,rfl,h1,fun j x hx=>by obtain⟨y,hy⟩:=h2 j x hx;exact⟨y,hy,h3 j x y hx hy⟩⟩
theorem Hv.of_ref {l:List A} {ad:Addr} (h:F ad.block) (k:HC F N nx R l ad):Hv F N nx R (.ref l) (.pointer (some ad)):=
 .ref ad h (fun j x hx=>by obtain⟨y,hy,_⟩:=k j x hx;exact⟨y,hy⟩) fun j x y hx hy=>by
  obtain⟨z,hz,h2⟩:=k j x hx
  rw[hy] at hz
  cases hz
  exact h2
theorem Hv.sl_inv {c:TC} {l:List (U c)} {y:Value} (h:Hv F N nx R (.sl c l) y):∃a cap,y=.slice a l.length cap∧l.length≤cap∧(0 <l.length→∃ad,a=some ad∧F ad.block∧∀(i:Nat) (d:U c),l[i]?=some d→HC F N nx R (enc c d) (ad.add (i*size c))):=by
 cases h with
 | @sl _ _ a cap ad h1 h2 h3 h4=>
  refine⟨a,cap,rfl,h1,fun hn=>⟨ad,(h2 hn).1,(h2 hn).2,fun i d hd j x hx=>?_⟩⟩
  obtain⟨y,hy⟩:=h3 i d j x hd hx
  exact⟨y,by rw[D3];exact hy,h4 i d j x y hd hx hy⟩
theorem Hv.of_sl {c:TC} {l:List (U c)} {a:Option Addr} {cap:Nat} (h1:l.length≤cap) (h2:0 <l.length→∃ad,a=some ad∧F ad.block∧∀(i:Nat) (d:U c),l[i]?=some d→HC F N nx R (enc c d) (ad.add (i*size c))):Hv F N nx R (.sl c l) (.slice a l.length cap):=by
 by_cases hn:0 <l.length
 ·obtain⟨ad,e1,e2,e3⟩:=h2 hn
  refine .sl ad h1 (fun _=>⟨e1,e2⟩) (fun i d j x hd hx=>?_) (fun i d j x y hd hx hy=>?_)
  ·obtain⟨y,hy,_⟩:=e3 i d hd j x hx
   rw[D3] at hy
   exact⟨y,hy⟩
  ·obtain⟨z,hz,h⟩:=e3 i d hd j x hx
   rw[D3,hy] at hz
   cases hz
   exact h
 ·obtain rfl:l=[]:=List.eq_nil_of_length_eq_zero (by omega)
  exact .sl ⟨0,0,none⟩ h1 (fun h=>absurd h (Nat.lt_irrefl _)) (fun i d j x hd=>by cases i<;>cases hd) (fun i d j x y hd=>by cases i<;>cases hd)
theorem Hv.nl_inv {y:Value} (h:Hv F N nx R .nl y):∃a,y=.slice a 0 0:=by
 cases h with|nl a=>exact⟨a,rfl⟩
theorem Hv.sl_nil {c:TC} {a:Option Addr} {y:Value} (h:y=.slice a 0 0):Hv F N nx R (.sl c []) y:=by
 subst h
 exact Hv.of_sl (l:=([]:List (U c))) (Nat.le_refl _) fun h=>absurd h (Nat.lt_irrefl _)
end
structure Ext (F:Nat→Prop) (N:Nm) (nx:Nat) (R:World) (F':Nat→Prop) (N':Nm) (nx':Nat) (R':World):Prop where
 le:nx≤nx'
 b:∀i,i <nx→N'.b i=N.b i
 q:∀i,i <nx→N'.q i=N.q i
 f:∀g,F g→F' g
 heap:∀g,F g→R'.heap[g]?=R.heap[g]?
section
variable {F F' F'':Nat→Prop} {N N' N'':Nm} {nx nx' nx'':Nat} {R R' R'':World}
theorem Ext.refl:Ext F N nx R F N nx R:=⟨Nat.le_refl _,fun _ _=>rfl,fun _ _=>rfl,fun _ h=>h,fun _ _=>rfl⟩
theorem Ext.trans (h:Ext F N nx R F' N' nx' R') (k:Ext F' N' nx' R' F'' N'' nx'' R''):Ext F N nx R F'' N'' nx'' R'':=
 ⟨Nat.le_trans h.le k.le,fun i hi=>(k.b i (Nat.lt_of_lt_of_le hi h.le)).trans (h.b i hi),fun i hi=>(k.q i (Nat.lt_of_lt_of_le hi h.le)).trans (h.q i hi),fun g hg=>k.f g (h.f g hg),fun g hg=>(k.heap g (h.f g hg)).trans (h.heap g hg)⟩
theorem Ext.cell (st:Ext F N nx R F' N' nx' R') {ad:Addr} (h:F ad.block):R'.cell? ad=R.cell? ad:=World.cell?_of_block (w:=R) (st.heap _ h)
theorem Hv.step (st:Ext F N nx R F' N' nx' R') {x:A} {y:Value} (h:Hv F N nx R x y):Hv F' N' nx' R' x y:=by
 induction h with
 |v x=>exact .v x
 | @sl c l a cap ad h1 h2 h3 h4 ih=>
  have key:∀i d j,l[i]?=some d→R'.cell? (ad.add (i*size c+j))=R.cell? (ad.add (i*size c+j)):=fun i d j hd=>by
   refine st.cell ?_
   rw[IX]
   exact(h2 (by have:=(List.getElem?_eq_some_iff.1 hd).1;omega)).2
  refine .sl ad h1 (fun hn=>⟨(h2 hn).1,st.f _ (h2 hn).2⟩) (fun i d j x hd hx=>?_) (fun i d j x y hd hx hy=>?_)
  ·rw[key i d j hd];exact h3 i d j x hd hx
  ·rw[key i d j hd] at hy;exact ih i d j x y hd hx hy
 | @ref l ad h1 h2 h3 ih=>
  have key:∀j,R'.cell? (ad.add j)=R.cell? (ad.add j):=fun j=>st.cell (by rw[IX];exact h1)
  refine .ref ad (st.f _ h1) (fun j x hx=>by rw[key];exact h2 j x hx) (fun j x y hx hy=>?_)
  rw[key] at hy
  exact ih j x y hx hy
 |own h=>rw[←st.b _ h];exact .own (Nat.lt_of_lt_of_le h st.le)
 |ownx h=>rw[←st.b _ h];exact .ownx (Nat.lt_of_lt_of_le h st.le)
 |sq h=>rw[←st.q _ h];exact .sq (Nat.lt_of_lt_of_le h st.le)
 |vw h h1 h2 h3=>exact .vw (Nat.lt_of_lt_of_le h st.le) h1 h2 (fun hn=>by rw[st.q _ h];exact h3 hn)
 |el h=>rw[←st.q _ h];exact .el (Nat.lt_of_lt_of_le h st.le)
 |dq h=>rw[←st.q _ h];exact .dq (Nat.lt_of_lt_of_le h st.le)
 |iv h=>rw[←st.q _ h];exact .iv (Nat.lt_of_lt_of_le h st.le)
 |de h=>rw[←st.q _ h];exact .de (Nat.lt_of_lt_of_le h st.le)
 |ie h=>rw[←st.q _ h];exact .ie (Nat.lt_of_lt_of_le h st.le)
 |mp h=>rw[←st.b _ h];exact .mp (Nat.lt_of_lt_of_le h st.le)
 |nl a=>exact .nl a
 |it q vs y h=>exact .it q vs y h
 |fn vs us h1 _ h3 _ ih2 ih4=>exact .fn vs us h1 ih2 h3 ih4
 |agg vs h1 _ ih=>exact .agg vs h1 ih
 |tup vs h1 _ ih=>exact .tup vs h1 ih
 |dead y=>exact .dead y
theorem HL.step (st:Ext F N nx R F' N' nx' R'):∀{xs:List A} {vs:List Value},HL F N nx R xs vs→HL F' N' nx' R' xs vs
 | [],_,h=>h
 |_::_,_,⟨v,vs,h1,h2,h3⟩=>⟨v,vs,h1,h2.step st,HL.step st h3⟩
theorem HC.step (st:Ext F N nx R F' N' nx' R') {xs:List A} {ad:Addr} (hF:F ad.block) (h:HC F N nx R xs ad):HC F' N' nx' R' xs ad:=fun j x hx=>by
 obtain⟨y,h1,h2⟩:=h j x hx
 exact⟨y,by rw[st.cell (by rw[IX];exact hF)];exact h1,h2.step st⟩
end
mutual
def A.ren (ρ:Nat→Nat):A→A
 | .own i off=> .own (ρ i) off
 | .ownx i base len k=> .ownx (ρ i) base len k
 | .sq i=> .sq (ρ i)
 | .vw i size lo n full=> .vw (ρ i) size lo n full
 | .el i k size off=> .el (ρ i) k size off
 | .dq i=> .dq (ρ i)
 | .iv i k=> .iv (ρ i) k
 | .de i k size off=> .de (ρ i) k size off
 | .ie i k j size off=> .ie (ρ i) k j size off
 | .mp i=> .mp (ρ i)
 | .fn f first caps=> .fn f (renL ρ first) (renL ρ caps)
 | .agg xs=> .agg (renL ρ xs)
 | .tup xs=> .tup (renL ρ xs)
 | .ref l=> .ref (renL ρ l)
 | .opt u b x=> .opt u b (x.ren ρ)
 | .v x=> .v x
 | .sl c l=> .sl c l
 | .nl=> .nl
 | .it q vs=> .it q vs
 | .dead=> .dead
def renL (ρ:Nat→Nat):List A→List A
 | []=>[]
 |x::r=>x.ren ρ::renL ρ r
end
theorem Y0 (ρ:Nat→Nat):∀l:List A,renL ρ l=l.map (A.ren ρ)
 | []=>by simp[renL]
 |x::r=>by rw[renL,Y0 ρ r];rfl
theorem Tr {ρ:Nat→Nat} {l:List A} {j:Nat} {x:A} (h:(renL ρ l)[j]?=some x):∃y,l[j]?=some y∧x=y.ren ρ:=by
 rw[Y0,List.getElem?_map] at h
 cases hl:l[j]? with
 |none=>rw[hl] at h;cases h
 |some y=>rw[hl] at h;cases h;exact⟨y,rfl,rfl⟩
theorem Q2 (ρ:Nat→Nat) (l:List A):(renL ρ l).length=l.length:=by rw[Y0,List.length_map]
theorem YJ (ρ:Nat→Nat) (c:TC) (d:U c):∀x∈enc c d,x.ren ρ=x:=fun x hx=>by
 have:=Sk c d x hx
 cases x<;>first|rfl|exact this.elim
structure Ren (ρ:Nat→Nat) (N:Nm) (nx:Nat) (N':Nm) (nx':Nat):Prop where
 lt:∀i,i <nx→ρ i <nx'
 b:∀i,i <nx→N'.b (ρ i)=N.b i
 q:∀i,i <nx→N'.q (ρ i)=N.q i
section
variable {F:Nat→Prop} {N N':Nm} {nx nx':Nat} {R:World} {ρ:Nat→Nat}
theorem Hv.ren (st:Ren ρ N nx N' nx') {x:A} {y:Value} (h:Hv F N nx R x y):Hv F N' nx' R (x.ren ρ) y:=by
 induction h with
 |v x=>exact .v x
 | @sl c l a cap ad h1 h2 h3 h4 ih=>
  refine .sl ad h1 h2 h3 (fun i d j x y hd hx hy=>?_)
  have:=ih i d j x y hd hx hy
  rwa[YJ ρ c d x (List.mem_of_getElem? hx)] at this
 | @ref l ad h1 h2 h3 ih=>
  unfold A.ren
  refine .ref ad h1 (fun j x hx=>?_) (fun j x y hx hy=>?_)
  ·obtain⟨z,hz,rfl⟩:=Tr hx;exact h2 j z hz
  ·obtain⟨z,hz,rfl⟩:=Tr hx;exact ih j z y hz hy
 |own h=>unfold A.ren;rw[←st.b _ h];exact .own (st.lt _ h)
 |ownx h=>unfold A.ren;rw[←st.b _ h];exact .ownx (st.lt _ h)
 |sq h=>unfold A.ren;rw[←st.q _ h];exact .sq (st.lt _ h)
 |vw h h1 h2 h3=>unfold A.ren;exact .vw (st.lt _ h) h1 h2 (fun hn=>by rw[st.q _ h];exact h3 hn)
 |el h=>unfold A.ren;rw[←st.q _ h];exact .el (st.lt _ h)
 |dq h=>unfold A.ren;rw[←st.q _ h];exact .dq (st.lt _ h)
 |iv h=>unfold A.ren;rw[←st.q _ h];exact .iv (st.lt _ h)
 |de h=>unfold A.ren;rw[←st.q _ h];exact .de (st.lt _ h)
 |ie h=>unfold A.ren;rw[←st.q _ h];exact .ie (st.lt _ h)
 |mp h=>unfold A.ren;rw[←st.b _ h];exact .mp (st.lt _ h)
 |nl a=>exact .nl a
 |it q vs y h=>exact .it q vs y h
 |fn vs us h1 _ h3 _ ih2 ih4=>
  unfold A.ren
  exact .fn vs us (by rw[Q2];exact h1) (fun j x v hx hv=>by obtain⟨z,hz,rfl⟩:=Tr hx;exact ih2 j z v hz hv) (by rw[Q2];exact h3) (fun j x v hx hv=>by obtain⟨z,hz,rfl⟩:=Tr hx;exact ih4 j z v hz hv)
 |agg vs h1 _ ih=>unfold A.ren;exact .agg vs (by rw[Q2];exact h1) (fun j x v hx hv=>by obtain⟨z,hz,rfl⟩:=Tr hx;exact ih j z v hz hv)
 |tup vs h1 _ ih=>unfold A.ren;exact .tup vs (by rw[Q2];exact h1) (fun j x v hx hv=>by obtain⟨z,hz,rfl⟩:=Tr hx;exact ih j z v hz hv)
 |dead y=>exact .dead y
theorem HL.ren (st:Ren ρ N nx N' nx'):∀{xs:List A} {vs:List Value},HL F N nx R xs vs→HL F N' nx' R (renL ρ xs) vs
 | [],_,h=>by rw[show renL ρ []=[] from by simp[renL]];exact h
 |x::r,_,⟨v,vs,h1,h2,h3⟩=>by
  rw[show renL ρ (x::r)=x.ren ρ::renL ρ r from by simp[renL]]
  exact⟨v,vs,h1,h2.ren st,HL.ren st h3⟩
end
def foot (N:Nm) (i:Nat):Ob→Nat→Prop
 | .box _ _,g=>g=N.b i
 | .map _ _ _,g=>g=N.b i
 | .sit _ _,g=>g=N.b i
 | .arr _ _ _,g=>CR (N.q i)=some g
 | .deep _ _ l,g=>∃k,k <l.length+1∧CR (Nr (N.q i) k)=some g
def Foot (N:Nm) (o:Objs) (g:Nat):Prop:=∃i ob,Ao i o=some ob∧foot N i ob g
def VS (cs:List A):A:=match A9b cs with
 |some xs=> .v (.agg xs.toArray)
 |none=> .agg cs
def Af (c:TC) (d:U c):A:=bif c.isAgg then VS (enc c d) else(match enc c d with
 |x::_=>x
 | []=> .dead)
def B04 (c:TC) (d:U c):Value:=match Af c d with
 | .v x=>x
 |_=>undef
def OwnR (R:World) (e:TypeId) (size:Nat) (v:Value) (n:Nat) (zs:List Value):Prop:=
 zs.length=n*size∧((∃a,v=.slice a 0 0∧n=0)∨
  ∃g cap cur,v=.slice (some ⟨g,0,none⟩) n (cap+1)∧R.heap[g]?=some (.cells cur e (0,0))∧n≤cap+1∧cap+1≤maxLen∧cur.size=(cap+1)*size∧cur.toList.take (n*size)=zs)
def ZG:TC→Option (Nat×TC)
 | .row=>some (1,.cell)
 | .view=>some (1,.field)
 | .change=>some (6,.write)
 | .act=>some (2,.cell)
 | .two=>some (1,.cell)
 |_=>none
theorem A3t {c c':TC} {col:Nat} (h:ZG c=some (col,c')) (d:U c):∃l':List (U c'),(enc c d)[col]?=some (.sl c' l'):=by
 cases c<;>cases h<;>exact⟨_,rfl⟩
def Nq (i k:Nat):List A→List A
 | []=>[]
 | .sl _ _::r=> .iv i k::Nq i k r
 |x::r=>x::Nq i k r
def Zx:(c c':TC)→U c→List (U c')→U c
 | .row,.cell,(d:TRow),(l:List TCell)=>(⟨d.key,l⟩:TRow)
 | .view,.field,(d:TView),(l:List TField)=>(⟨d.key,l⟩:TView)
 | .change,.write,(d:TChange),(l:List TWrite)=>(⟨d.site,d.seq,d.stamp,d.vec,l⟩:TChange)
 | .act,.cell,(d:Bnh),(l:List TCell)=>(⟨d.kind,⟨d.row.key,l⟩,d.til,d.n⟩:Bnh)
 | .two,.cell,(d:Bni),(l:List TCell)=>(⟨⟨d.row.key,l⟩,d.group,d.cell⟩:Bni)
 |_,_,d,_=>d
theorem Aiv {c c':TC} {col:Nat} (h:ZG c=some (col,c')) (d:U c) (l:List (U c')):enc c (Zx c c' d l)=(enc c d).set col (.sl c' l):=by
 cases c<;>cases h<;>rfl
theorem Auz {i k:Nat} {c c':TC} {l:List (U c)} {l':List (U c')}:∀{cs:List A} {j:Nat},cs[j]?=some (.sl c' l')→Nq i k (cs.set j (.sl c l))=Nq i k cs
 | [],j,h=>by cases j<;>cases h
 |x::r,0,h=>by cases h;rfl
 |x::r,j+1,h=>by
  have:=Auz (i:=i) (k:=k) (l:=l) (cs:=r) (j:=j) h
  rw[List.set_cons_succ]
  cases x<;>(unfold Nq;rw[this])
def ObR (F:Nat→Prop) (N:Nm) (nx:Nat) (R:World) (i:Nat):Ob→Prop
 | .box e cs=>∃vs,HL F N nx R cs vs∧R.heap[N.b i]?=some (.cells vs.toArray e (0,0))
 | .arr e size els=>∃zs,OwnR R e size (N.q i) els.n zs∧∀k,k <els.n→HL F N nx R (els.nth k) ((zs.drop (k*size)).take size)
 | .map k v l=>∃(es:List MapEntry) (clock:Nat),R.heap[N.b i]?=some (.map es.toArray clock)∧es.length=l.length∧(∀(j:Nat) (p:U k×U v) (e:MapEntry),l[j]?=some p→es[j]?=some e→e.key=B04 k p.1∧Hv F N nx R (Af v p.2) e.val)
 | .sit s pos=>R.heap[N.b i]?=some (.stringIter s pos)
 | .deep e c l=>∃col c' zs,ZG c=some (col,c')∧OwnR R e (size c) (Nr (N.q i) 0) l.length zs∧(∀k d,l[k]?=some d→HL F N nx R (Nq i k (enc c d)) ((zs.drop (k*size c)).take (size c)))∧
   (∀k d,l[k]?=some d→∃(l':List (U c')) (e':TypeId) (us:List Value),(enc c d)[col]?=some (.sl c' l')∧OwnR R e' (size c') (Nr (N.q i) (k+1)) l'.length us∧∀j,j <l'.length→HL F N nx R (enc c' (l'.getD j (Ac c'))) ((us.drop (j*size c')).take (size c')))∧
   ∀k k' g,k <l.length+1→k' <l.length+1→CR (Nr (N.q i) k)=some g→CR (Nr (N.q i) k')=some g→k=k'
theorem OwnR.keep {R R':World} {e:TypeId} {size n:Nat} {v:Value} {zs:List Value} (h:OwnR R e size v n zs) (hk:∀g,CR v=some g→R'.heap[g]?=R.heap[g]?):OwnR R' e size v n zs:=by
 refine⟨h.1,?_⟩
 rcases h.2 with h0|⟨g,cap,cur,h1,h2,h3⟩
 ·exact .inl h0
 ·exact .inr ⟨g,cap,cur,h1,(hk g (by rw[h1];rfl)).trans h2,h3⟩
theorem OwnR.lt {R:World} {e:TypeId} {size n:Nat} {v:Value} {zs:List Value} (h:OwnR R e size v n zs) {g:Nat} (hg:CR v=some g):g <R.heap.size:=by
 rcases h.2 with⟨a,e1,_⟩|⟨g',cap,cur,e1,e3,_⟩
 ·rw[e1] at hg;cases a<;>cases hg
 ·rw[e1] at hg
  cases hg
  exact HW e3
theorem OwnR.form {R:World} {e:TypeId} {size n:Nat} {v:Value} {zs:List Value} (h:OwnR R e size v n zs):∃a c,v=.slice a n c∧n≤c:=by
 rcases h.2 with⟨a,e1,e2⟩|⟨g,cap,cur,e1,_,e4,_⟩
 ·exact⟨a,0,by rw[e1,e2],by omega⟩
 ·exact⟨_,_,e1,e4⟩
section
variable {F F':Nat→Prop} {N N':Nm} {nx nx':Nat} {R R':World} {i:Nat} {ob:Ob}
theorem ObR.step (st:Ext F N nx R F' N' nx' R') (hi:i <nx) (hk:∀g,foot N i ob g→R'.heap[g]?=R.heap[g]?) (h:ObR F N nx R i ob):ObR F' N' nx' R' i ob:=by
 cases ob with
 |box e cs=>
  obtain⟨vs,h1,h2⟩:=h
  exact⟨vs,h1.step st,by rw[st.b i hi];exact(hk _ rfl).trans h2⟩
 |arr e size els=>
  obtain⟨zs,h1,h2⟩:=h
  exact⟨zs,by rw[st.q i hi];exact h1.keep hk,fun k hk'=>(h2 k hk').step st⟩
 |map k v l=>
  obtain⟨es,cl,h1,h2,h3⟩:=h
  exact⟨es,cl,by rw[st.b i hi];exact(hk _ rfl).trans h1,h2,fun j p e hp he=>⟨(h3 j p e hp he).1,(h3 j p e hp he).2.step st⟩⟩
 |sit s pos=>
  show R'.heap[N'.b i]?=_
  rw[st.b i hi]
  exact(hk _ rfl).trans h
 |deep e c l=>
  obtain⟨col,c',zs,h1,h2,h3,h4,h5⟩:=h
  refine⟨col,c',zs,h1,by rw[st.q i hi];exact h2.keep fun g hg=>hk g ⟨0,Nat.succ_pos _,hg⟩,fun k d hd=>(h3 k d hd).step st,fun k d hd=>?_,by rw[st.q i hi];exact h5⟩
  obtain⟨l',e',us,k1,k2,k3⟩:=h4 k d hd
  refine⟨l',e',us,k1,by rw[st.q i hi];exact k2.keep fun g hg=>hk g ⟨k+1,by have:=(List.getElem?_eq_some_iff.1 hd).1;omega,hg⟩,fun j hj=>(k3 j hj).step st⟩
theorem ObR.lt (h:ObR F N nx R i ob) {g:Nat} (hg:foot N i ob g):g <R.heap.size:=by
 cases ob with
 |box e cs=>obtain⟨vs,_,h2⟩:=h;cases hg;exact HW h2
 |arr e size els=>obtain⟨zs,h1,_⟩:=h;exact h1.lt hg
 |map k v l=>obtain⟨es,cl,h2,_⟩:=h;cases hg;exact HW h2
 |sit s pos=>cases hg;exact HW h
 | deep e c l=>
  obtain⟨col,c',zs,h1,h2,h3,h4,h5⟩:=h
  obtain⟨k,hk,hg⟩:=hg
  cases k with
  |zero=>exact h2.lt hg
  |succ k=>
   obtain⟨l',e',us,_,k2,_⟩:=h4 k l[k] (List.getElem?_eq_getElem (by omega))
   exact k2.lt hg
theorem EM (st:Ext F N nx R F' N' nx' R') (hi:i <nx) {g:Nat}:foot N' i ob g↔foot N i ob g:=by
 cases ob<;>simp only[foot,st.b i hi,st.q i hi]
end
def Els.ren (ρ:Nat→Nat):Els→Els
 | .lst cs=> .lst (cs.map (renL ρ))
 | .ty c l=> .ty c l
def Ob.ren (ρ:Nat→Nat):Ob→Ob
 | .box e cs=> .box e (renL ρ cs)
 | .arr e size els=> .arr e size (els.ren ρ)
 | .map k v l=> .map k v l
 | .sit s pos=> .sit s pos
 | .deep e c l=> .deep e c l
theorem Bcn {ρ:Nat→Nat} {i k:Nat}:∀{cs:List A},(∀x∈cs,x.ren ρ=x)→renL ρ (Nq i k cs)=Nq (ρ i) k cs
 | [],_=>by unfold Nq renL;rfl
 |x::r,h=>by
  have hr:=Bcn (i:=i) (k:=k) (cs:=r) fun y hy=>h y (List.mem_cons_of_mem _ hy)
  have hx:=h x (List.mem_cons_self ..)
  cases x<;>(unfold Nq;unfold renL;rw[hr])<;>first|rw[hx]|(unfold A.ren;rfl)
theorem EJ:∀(cs:List (List A)) (k:Nat),Jz cs k=cs.getD k []
 | [],_=>by simp[Jz]
 |x::r,0=>by simp[Jz]
 |x::r,k+1=>by simp[Jz,EJ r k]
theorem Bu0 (ρ:Nat→Nat) (c:TC) (d:U c):(Af c d).ren ρ=Af c d:=by
 have hl:renL ρ (enc c d)=enc c d:=by
  rw[Y0]
  exact(List.map_congr_left (g:=id) fun x hx=>YJ ρ c d x hx).trans (List.map_id _)
 unfold Af
 cases c.isAgg with
 |true=>
  show(VS (enc c d)).ren ρ=VS (enc c d)
  unfold VS
  split
  ·rfl
  ·unfold A.ren;rw[hl]
 | false=>
  show A.ren ρ (match enc c d with|x::_=>x| []=> .dead)=_
  have hp:=YJ ρ c d
  split
  ·rename_i x r hx
   exact hp x (by rw[hx];exact List.mem_cons_self ..)
  ·rfl
section
variable {F:Nat→Prop} {N N':Nm} {nx nx':Nat} {R:World} {ρ:Nat→Nat} {i:Nat} {ob:Ob}
theorem ObR.ren (st:Ren ρ N nx N' nx') (hi:i <nx) (h:ObR F N nx R i ob):ObR F N' nx' R (ρ i) (ob.ren ρ):=by
 cases ob with
 |box e cs=>
  obtain⟨vs,h1,h2⟩:=h
  exact⟨vs,h1.ren st,by rw[st.b i hi];exact h2⟩
 | arr e size els=>
  obtain⟨zs,h1,h2⟩:=h
  cases els with
  |lst cs=>
   have hn:(Els.ren ρ (.lst cs)).n=cs.length:=by simp[Els.ren,Els.n]
   refine⟨zs,by rw[st.q i hi,hn];exact h1,fun k hk=>?_⟩
   rw[hn] at hk
   have:=(h2 k hk).ren st
   show HL F N' nx' R (Jz (cs.map (renL ρ)) k) _
   rw[EJ,List.getD_eq_getElem?_getD,List.getElem?_map]
   have h3:(Els.lst cs).nth k=cs.getD k []:=EJ cs k
   rw[h3,List.getD_eq_getElem?_getD] at this
   have hk':cs[k]?=some cs[k]:=List.getElem?_eq_getElem hk
   rw[hk'] at this⊢
   exact this
  | ty c l=>
   refine⟨zs,by rw[st.q i hi];exact h1,fun k hk=>?_⟩
   have:=(h2 k hk).ren st
   have e:renL ρ ((Els.ty c l).nth k)=(Els.ty c l).nth k:=by
    show renL ρ (enc c _)=enc c _
    rw[Y0]
    exact(List.map_congr_left (g:=id) fun x hx=>YJ ρ c _ x hx).trans (List.map_id _)
   rw[e] at this
   exact this
 |map k v l=>
  obtain⟨es,cl,h1,h2,h3⟩:=h
  refine⟨es,cl,by rw[st.b i hi];exact h1,h2,fun j p e hp he=>⟨(h3 j p e hp he).1,?_⟩⟩
  have:=(h3 j p e hp he).2.ren st
  rwa[Bu0] at this
 |sit s pos=>
  show R.heap[N'.b (ρ i)]?=_
  rw[st.b i hi]
  exact h
 | deep e c l=>
  obtain⟨col,c',zs,h1,h2,h3,h4,h5⟩:=h
  refine⟨col,c',zs,h1,by rw[st.q i hi];exact h2,fun k d hd=>?_,fun k d hd=>?_,by rw[st.q i hi];exact h5⟩
  ·rw[←Bcn fun x hx=>YJ ρ c d x hx]
   exact(h3 k d hd).ren st
  ·obtain⟨l',e',us,k1,k2,k3⟩:=h4 k d hd
   refine⟨l',e',us,k1,by rw[st.q i hi];exact k2,fun j hj=>?_⟩
   have:=(k3 j hj).ren st
   rwa[Y0,(List.map_congr_left (g:=id) fun x hx=>YJ ρ c' _ x hx).trans (List.map_id _)] at this
end
structure HRel (F:Nat→Prop) (N:Nm) (nx:Nat) (o:Objs) (R:World):Prop where
 flt:∀g,F g→g <R.heap.size
 ob:∀i ob,Ao i o=some ob→i <nx∧ObR F N nx R i ob
 ff:∀i ob g,Ao i o=some ob→foot N i ob g→¬F g
 sep:∀i j x y g,Ao i o=some x→Ao j o=some y→foot N i x g→foot N j y g→i=j
structure Step (F:Nat→Prop) (N:Nm) (nx:Nat) (o:Objs) (R:World) (F':Nat→Prop) (N':Nm) (nx':Nat) (o':Objs) (R':World):Prop where
 le:nx≤nx'
 b:∀i,i <nx→N'.b i=N.b i
 q:∀i,i <nx→N'.q i=N.q i
 f:∀g,F g→F' g
 fnew:∀g,F' g→F g∨Foot N o g∨R.heap.size≤g
 foot:∀g,Foot N' o' g→Foot N o g∨R.heap.size≤g
 os:R'.os=R.os
 tape:R'.tape=R.tape
 output:R'.output=R.output
 size:R.heap.size≤R'.heap.size
 keep:∀g,g <R.heap.size→¬Foot N o g→R'.heap[g]?=R.heap[g]?
section
variable {F F' F'':Nat→Prop} {N N' N'':Nm} {nx nx' nx'':Nat} {o o' o'' o1 o1':Objs} {R R' R'':World}
theorem Step.refl:Step F N nx o R F N nx o R:=⟨Nat.le_refl _,fun _ _=>rfl,fun _ _=>rfl,fun _ h=>h,fun _ h=> .inl h,fun _ h=> .inl h,rfl,rfl,rfl,Nat.le_refl _,fun _ _ _=>rfl⟩
theorem Step.trans (h:Step F N nx o R F' N' nx' o' R') (k:Step F' N' nx' o' R' F'' N'' nx'' o'' R''):Step F N nx o R F'' N'' nx'' o'' R'' where
 le:=Nat.le_trans h.le k.le
 b i hi:=(k.b i (Nat.lt_of_lt_of_le hi h.le)).trans (h.b i hi)
 q i hi:=(k.q i (Nat.lt_of_lt_of_le hi h.le)).trans (h.q i hi)
 f g hg:=k.f g (h.f g hg)
 fnew g hg:=by
  rcases k.fnew g hg with h1|h1|h1
  ·exact h.fnew g h1
  ·exact .inr (h.foot g h1)
  ·exact .inr (.inr (Nat.le_trans h.size h1))
 foot g hg:=by
  rcases k.foot g hg with h1|h1
  ·exact h.foot g h1
  ·exact .inr (Nat.le_trans h.size h1)
 os:=k.os.trans h.os
 tape:=k.tape.trans h.tape
 output:=k.output.trans h.output
 size:=Nat.le_trans h.size k.size
 keep g hg hn:=by
  refine(k.keep g (Nat.lt_of_lt_of_le hg h.size) fun hf=>?_).trans (h.keep g hg hn)
  rcases h.foot g hf with h1|h1
  ·exact hn h1
  ·omega
theorem Step.ext (hp:HRel F N nx o R) (h:Step F N nx o R F' N' nx' o' R'):Ext F N nx R F' N' nx' R':=
 ⟨h.le,h.b,h.q,h.f,fun g hg=>h.keep g (hp.flt g hg) fun⟨i,ob,h1,h2⟩=>hp.ff i ob g h1 h2 hg⟩
theorem Step.below (h:Step F N nx [] R F' N' nx' o' R'):Below R.heap.size R R':=
 ⟨h.os,h.tape,h.output,h.size,fun g hg=>h.keep g hg fun⟨i,ob,h1,_⟩=>by cases h1⟩
theorem Step.of_below (hb:Below R.heap.size R R'):Step F N nx o R F N nx o R':=
 ⟨Nat.le_refl _,fun _ _=>rfl,fun _ _=>rfl,fun _ h=>h,fun _ h=> .inl h,fun _ h=> .inl h,hb.os,hb.tape,hb.output,hb.size,fun g hg _=>hb.block g hg⟩
theorem HRel.grow (h:HRel F N nx o R) (hb:Below R.heap.size R R'):HRel F N nx o R'∧Ext F N nx R F N nx R':=by
 have st:Ext F N nx R F N nx R':=⟨Nat.le_refl _,fun _ _=>rfl,fun _ _=>rfl,fun _ h=>h,fun g hg=>hb.block g (h.flt g hg)⟩
 exact⟨⟨fun g hg=>Nat.lt_of_lt_of_le (h.flt g hg) hb.size,fun i ob hi=>⟨(h.ob i ob hi).1,(h.ob i ob hi).2.step st (h.ob i ob hi).1 fun g hg=>hb.block g ((h.ob i ob hi).2.lt hg)⟩,h.ff,h.sep⟩,st⟩
theorem HRel.weak (h:HRel F N nx o R) (ho:∀i ob,Ao i o'=some ob→Ao i o=some ob):HRel F N nx o' R:=
 ⟨h.flt,fun i ob hi=>h.ob i ob (ho i ob hi),fun i ob g hi hg=>h.ff i ob g (ho i ob hi) hg,fun i j x y g hi hj=>h.sep i j x y g (ho i x hi) (ho j y hj)⟩
theorem Foot.weak (ho:∀i ob,Ao i o'=some ob→Ao i o=some ob) {g:Nat} (h:Foot N o' g):Foot N o g:=by
 obtain⟨i,ob,h1,h2⟩:=h
 exact⟨i,ob,ho i ob h1,h2⟩
theorem Step.weak (ho:∀i ob,Ao i o'=some ob→Ao i o=some ob):Step F N nx o R F N nx o' R:=
 ⟨Nat.le_refl _,fun _ _=>rfl,fun _ _=>rfl,fun _ h=>h,fun _ h=> .inl h,fun _ h=> .inl (Foot.weak ho h),rfl,rfl,rfl,Nat.le_refl _,fun _ _ _=>rfl⟩
theorem HRel.upd (h:HRel F N nx o R) {i0:Nat} {ob0:Ob} {T:Nat→Prop} (hos:R'.os=R.os) (htape:R'.tape=R.tape) (hout:R'.output=R.output) (hsz:R.heap.size≤R'.heap.size)
  (hT:∀g,T g→Foot N o g) (keep:∀g,g <R.heap.size→¬T g→R'.heap[g]?=R.heap[g]?)
  (hnx:nx≤nx') (hb:∀i,i <nx→N'.b i=N.b i) (hq:∀i,i <nx→N'.q i=N.q i)
  (old:∀i ob,i≠i0→Ao i o'=some ob→Ao i o=some ob∧∀g,foot N i ob g→¬T g)
  (new:∀ob,Ao i0 o'=some ob→ob=ob0) (hi0:i0 <nx') (hR:Ext F N nx R F N' nx' R'→ObR F N' nx' R' i0 ob0)
  (nf:∀g,foot N' i0 ob0 g→R.heap.size≤g∨T g):HRel F N' nx' o' R'∧Step F N nx o R F N' nx' o' R':=by
 have hTF:∀g,T g→¬F g:=fun g ht hf=>by
  obtain⟨i,ob,h1,h2⟩:=hT g ht
  exact h.ff i ob g h1 h2 hf
 have st:Ext F N nx R F N' nx' R':=⟨hnx,hb,hq,fun _ h=>h,fun g hg=>keep g (h.flt g hg) fun ht=>hTF g ht hg⟩
 have hold:∀i ob,i≠i0→Ao i o'=some ob→i <nx∧ObR F N nx R i ob∧(∀g,foot N i ob g→¬T g)∧Ao i o=some ob:=fun i ob hi hl=>by
  obtain⟨h1,h2⟩:=old i ob hi hl
  exact⟨(h.ob i ob h1).1,(h.ob i ob h1).2,h2,h1⟩
 refine⟨⟨fun g hg=>Nat.lt_of_lt_of_le (h.flt g hg) hsz,fun i ob hi=>?_,fun i ob g hi hg=>?_,fun i j x y g hi hj hx hy=>?_⟩,hnx,hb,hq,fun _ h=>h,fun _ h=> .inl h,fun g ⟨i,ob,h1,h2⟩=>?_,hos,htape,hout,hsz,fun g hg hn=>keep g hg fun ht=>hn (hT g ht)⟩
 ·by_cases e:i=i0
  ·subst e
   rw[new ob hi]
   exact⟨hi0,hR st⟩
  ·obtain⟨h1,h2,h3,_⟩:=hold i ob e hi
   exact⟨Nat.lt_of_lt_of_le h1 hnx,h2.step st h1 fun g hg=>keep g (h2.lt hg) (h3 g hg)⟩
 ·by_cases e:i=i0
  ·subst e
   rw[new ob hi] at hg
   intro hf
   rcases nf g hg with h1|h1
   ·have:=h.flt g hf;omega
   ·exact hTF g h1 hf
  ·obtain⟨h1,h2,h3,h4⟩:=hold i ob e hi
   exact h.ff i ob g h4 ((EM st h1).1 hg)
 ·have one:∀i j x y,i=i0→j≠i0→Ao i o'=some x→Ao j o'=some y→foot N' i x g→foot N' j y g→i=j:=fun i j x y ei ej hi hj hx hy=>by
   subst ei
   rw[new x hi] at hx
   obtain⟨h1,h2,h3,h4⟩:=hold j y ej hj
   have hy':=(EM st h1).1 hy
   rcases nf g hx with hge|ht
   ·have:=h2.lt hy'
    omega
   ·exact absurd ht (h3 g hy')
  by_cases ei:i=i0
  ·by_cases ej:j=i0
   ·rw[ei,ej]
   ·exact one i j x y ei ej hi hj hx hy
  ·by_cases ej:j=i0
   ·exact(one j i y x ej ei hj hi hy hx).symm
   ·obtain⟨h1,_,_,h4⟩:=hold i x ei hi
    obtain⟨h1',_,_,h4'⟩:=hold j y ej hj
    exact h.sep i j x y g h4 h4' ((EM st h1).1 hx) ((EM st h1').1 hy)
 ·by_cases e:i=i0
  ·subst e
   rw[new ob h1] at h2
   rcases nf g h2 with h3|h3
   ·exact .inr h3
   ·exact .inl (hT g h3)
  ·obtain⟨h3,_,_,h4⟩:=hold i ob e h1
   exact .inl ⟨i,ob,h4,(EM st h3).1 h2⟩
def Bx9 (ks:List Nat):Objs→Objs
 | []=>[]
 |(k,x)::r=>(k,bif ks.any (Nat.beq k) then none else x)::Bx9 ks r
theorem HRel.frame (h:HRel F N nx o R) (h1:∀i ob,Ao i o1=some ob→Ao i o=some ob) (st:Step F N nx o1 R F' N' nx' o1' R') (hp:HRel F' N' nx' o1' R')
  (ho:∀i ob,Ao i o'=some ob→Ao i o1'=some ob∨(Ao i o=some ob∧Ao i o1=none)):HRel F' N' nx' o' R'∧Step F N nx o R F' N' nx' o' R':=by
 have hx:Ext F N nx R F' N' nx' R':=st.ext (h.weak h1)
 have rest:∀i ob,Ao i o=some ob→Ao i o1=none→i <nx∧ObR F N nx R i ob∧(∀g,foot N i ob g→¬Foot N o1 g):=fun i ob hi hn=>by
  refine⟨(h.ob i ob hi).1,(h.ob i ob hi).2,fun g hg ⟨j,y,hj,hy⟩=>?_⟩
  have:=h.sep i j ob y g hi (h1 j y hj) hg hy
  subst this
  rw[hn] at hj
  cases hj
 have far:∀i ob j y g,Ao i o=some ob→Ao i o1=none→Ao j o1'=some y→foot N i ob g→foot N' j y g→False:=fun i ob j y g hi hn hj hx1 hy=>by
  obtain⟨_,e2,e3⟩:=rest i ob hi hn
  rcases st.foot g ⟨j,y,hj,hy⟩ with h2|h2
  ·exact e3 g hx1 h2
  ·have:=e2.lt hx1;omega
 refine⟨⟨hp.flt,fun i ob hi=>?_,fun i ob g hi hg=>?_,fun i j x y g hi hj hx1 hy=>?_⟩,st.le,st.b,st.q,st.f,fun g hg=>?_,fun g hg=>?_,st.os,st.tape,st.output,st.size,fun g hg hn=>st.keep g hg fun hf=>hn (Foot.weak h1 hf)⟩
 ·rcases ho i ob hi with h2|⟨h2,h3⟩
  ·exact hp.ob i ob h2
  ·obtain⟨e1,e2,e3⟩:=rest i ob h2 h3
   exact⟨Nat.lt_of_lt_of_le e1 st.le,e2.step hx e1 fun g hg=>st.keep g (e2.lt hg) (e3 g hg)⟩
 ·rcases ho i ob hi with h2|⟨h2,h3⟩
  ·exact hp.ff i ob g h2 hg
  ·obtain⟨e1,e2,e3⟩:=rest i ob h2 h3
   have hg':=(EM hx e1).1 hg
   intro hf
   rcases st.fnew g hf with h4|h4|h4
   ·exact h.ff i ob g h2 hg' h4
   ·exact e3 g hg' h4
   ·have:=e2.lt hg';omega
 ·rcases ho i x hi with h2|⟨h2,h3⟩
  ·rcases ho j y hj with h4|⟨h4,h5⟩
   ·exact hp.sep i j x y g h2 h4 hx1 hy
   ·obtain⟨e1,_,_⟩:=rest j y h4 h5
    exact(far j y i x g h4 h5 h2 ((EM hx e1).1 hy) hx1).elim
  ·obtain⟨e1,_,_⟩:=rest i x h2 h3
   rcases ho j y hj with h4|⟨h4,h5⟩
   ·exact(far i x j y g h2 h3 h4 ((EM hx e1).1 hx1) hy).elim
   ·obtain⟨e2,_,_⟩:=rest j y h4 h5
    exact h.sep i j x y g h2 h4 ((EM hx e1).1 hx1) ((EM hx e2).1 hy)
 ·rcases st.fnew g hg with h2|h2|h2
  ·exact .inl h2
  ·exact .inr (.inl (Foot.weak h1 h2))
  ·exact .inr (.inr h2)
 ·obtain⟨i,ob,hi,h2⟩:=hg
  rcases ho i ob hi with h3|⟨h3,h4⟩
  ·rcases st.foot g ⟨i,ob,h3,h2⟩ with h5|h5
   ·exact .inl (Foot.weak h1 h5)
   ·exact .inr h5
  ·obtain⟨e1,_,_⟩:=rest i ob h3 h4
   exact .inl ⟨i,ob,h3,(EM hx e1).1 h2⟩
end
mutual
def A.free:A→Bool
 | .v _=>true
 | .sl _ _=>true
 | .nl=>true
 | .agg xs=>freeL xs
 | .tup xs=>freeL xs
 | .fn _ xs ys=>freeL xs&&freeL ys
 | .ref xs=>freeL xs
 |_=>false
def freeL:List A→Bool
 | []=>true
 |x::r=>x.free&&freeL r
end
end Go.Proofs.Yteebobbhhgmeiaa
namespace Go.Proofs.Yteebobbhhgmeiaa
section
variable {P:Program} {w:World}
@[go_sem high] theorem my_max (ts:Array TypeId) (t:TypeId) (k k':IntKind) (x y:Int):(Builtin.max_ ts t #[.int k x,.int k' y]).run P w=.ok (.int k (max x y)) w:=by
 rw[run_max_int2]
 congr 2
 omega
@[go_sem high] theorem my_min (ts:Array TypeId) (t:TypeId) (k k':IntKind) (x y:Int):(Builtin.min_ ts t #[.int k x,.int k' y]).run P w=.ok (.int k (min x y)) w:=by
 rw[run_min_int2]
 congr 2
 omega
end
end Go.Proofs.Yteebobbhhgmeiaa
namespace Go.Proofs.Yteebobbhhgmeiaa
open Go.RowKit
def Bl (a:Act):Nat→Value:=fun u=>a.tmps.getD u undef
def HS (F:Nat→Prop) (N:Nm) (nx:Nat) (R:World) (tm:Nat→Value):A→Value→Prop
 | .opt u b x,y=>(tm u=.bool b→HS F N nx R tm x y)∧(tm u≠.bool b→y=undef)
 |x,y=>Hv F N nx R x y
def A.dep (u:Nat):A→Bool
 | .opt k _ x=>bif Nat.beq k u then true else x.dep u
 |_=>false
def A.plain:A→Bool
 | .opt _ _ _=>false
 |_=>true
theorem Ab {F:Nat→Prop} {N:Nm} {nx:Nat} {R:World} {tm:Nat→Value} {x:A} {y:Value} (hp:x.plain=true):HS F N nx R tm x y↔Hv F N nx R x y:=by
 cases x<;>first|(cases hp;done)|(simp only[HS];done)
theorem HS.step {F F':Nat→Prop} {N N':Nm} {nx nx':Nat} {R R':World} (st:Ext F N nx R F' N' nx' R') {tm:Nat→Value}:∀{x:A} {y:Value},HS F N nx R tm x y→HS F' N' nx' R' tm x y
 | .opt _ _ _,_,h=>by
  simp only[HS] at h⊢
  exact⟨fun hb=>HS.step st (h.1 hb),h.2⟩
 | .v _,_,h=>(Ab rfl).2 (((Ab rfl).1 h).step st)
 | .sl _ _,_,h=>(Ab rfl).2 (((Ab rfl).1 h).step st)
 | .own _ _,_,h=>(Ab rfl).2 (((Ab rfl).1 h).step st)
 | .ownx _ _ _ _,_,h=>(Ab rfl).2 (((Ab rfl).1 h).step st)
 | .sq _,_,h=>(Ab rfl).2 (((Ab rfl).1 h).step st)
 | .dq _,_,h=>(Ab rfl).2 (((Ab rfl).1 h).step st)
 | .iv _ _,_,h=>(Ab rfl).2 (((Ab rfl).1 h).step st)
 | .de _ _ _ _,_,h=>(Ab rfl).2 (((Ab rfl).1 h).step st)
 | .ie _ _ _ _ _,_,h=>(Ab rfl).2 (((Ab rfl).1 h).step st)
 | .vw _ _ _ _ _,_,h=>(Ab rfl).2 (((Ab rfl).1 h).step st)
 | .el _ _ _ _,_,h=>(Ab rfl).2 (((Ab rfl).1 h).step st)
 | .ref _,_,h=>(Ab rfl).2 (((Ab rfl).1 h).step st)
 | .mp _,_,h=>(Ab rfl).2 (((Ab rfl).1 h).step st)
 | .nl,_,h=>(Ab rfl).2 (((Ab rfl).1 h).step st)
 | .it _ _,_,h=>(Ab rfl).2 (((Ab rfl).1 h).step st)
 | .fn _ _ _,_,h=>(Ab rfl).2 (((Ab rfl).1 h).step st)
 | .agg _,_,h=>(Ab rfl).2 (((Ab rfl).1 h).step st)
 | .tup _,_,h=>(Ab rfl).2 (((Ab rfl).1 h).step st)
 | .dead,_,h=>(Ab rfl).2 (((Ab rfl).1 h).step st)
theorem HS.congr {F:Nat→Prop} {N:Nm} {nx:Nat} {R:World} {tm tm':Nat→Value} {u:Nat} (ht:∀k,k≠u→tm' k=tm k):∀{x:A} {y:Value},x.dep u=false→HS F N nx R tm x y→HS F N nx R tm' x y
 | .opt k b x,y,hd,h=>by
  unfold A.dep at hd
  cases hk:Nat.beq k u with
  |true=>rw[hk] at hd;cases hd
  |false=>
   rw[hk] at hd
   have hne:k≠u:=fun e=>by subst e;simp at hk
   simp only[HS] at h⊢
   rw[ht k hne]
   exact⟨fun hb=>HS.congr ht hd (h.1 hb),h.2⟩
 | .v _,_,_,h=>(Ab rfl).2 ((Ab rfl).1 h)
 | .sl _ _,_,_,h=>(Ab rfl).2 ((Ab rfl).1 h)
 | .own _ _,_,_,h=>(Ab rfl).2 ((Ab rfl).1 h)
 | .ownx _ _ _ _,_,_,h=>(Ab rfl).2 ((Ab rfl).1 h)
 | .sq _,_,_,h=>(Ab rfl).2 ((Ab rfl).1 h)
 | .dq _,_,_,h=>(Ab rfl).2 ((Ab rfl).1 h)
 | .iv _ _,_,_,h=>(Ab rfl).2 ((Ab rfl).1 h)
 | .de _ _ _ _,_,_,h=>(Ab rfl).2 ((Ab rfl).1 h)
 | .ie _ _ _ _ _,_,_,h=>(Ab rfl).2 ((Ab rfl).1 h)
 | .vw _ _ _ _ _,_,_,h=>(Ab rfl).2 ((Ab rfl).1 h)
 | .el _ _ _ _,_,_,h=>(Ab rfl).2 ((Ab rfl).1 h)
 | .ref _,_,_,h=>(Ab rfl).2 ((Ab rfl).1 h)
 | .mp _,_,_,h=>(Ab rfl).2 ((Ab rfl).1 h)
 | .nl,_,_,h=>(Ab rfl).2 ((Ab rfl).1 h)
 | .it _ _,_,_,h=>(Ab rfl).2 ((Ab rfl).1 h)
 | .fn _ _ _,_,_,h=>(Ab rfl).2 ((Ab rfl).1 h)
 | .agg _,_,_,h=>(Ab rfl).2 ((Ab rfl).1 h)
 | .tup _,_,_,h=>(Ab rfl).2 ((Ab rfl).1 h)
 | .dead,_,_,h=>(Ab rfl).2 ((Ab rfl).1 h)
def Bn9 (u:Nat):HV→HV
 | []=>[]
 |(k,x)::r=>(bif x.dep u then(k,.dead) else(k,x))::Bn9 u r
def St.get (s:St) (u:Nat):Option A:=D6 u s.t
def St.put (s:St) (u:Nat) (x:A):St:={s with t:=(u,x)::Bn9 u s.t}
theorem Akt {u k:Nat} {x:A}:∀{t:HV},D6 u (Bn9 k t)=some x→x=.dead∨(D6 u t=some x∧x.dep k=false)
 | [],h=>by cases h
 | (j,y)::r,h=>by
  unfold Bn9 at h
  cases hd:y.dep k with
  | true=>
   rw[hd] at h
   have h':(bif Nat.beq j u then some A.dead else D6 u (Bn9 k r))=some x:=h
   cases hj:Nat.beq j u with
   |true=>rw[hj] at h';cases h';exact .inl rfl
   |false=>
    rw[hj] at h'
    rcases Akt h' with e|⟨h1,h2⟩
    ·exact .inl e
    ·exact .inr ⟨by show(bif Nat.beq j u then some y else D6 u r)=_;rw[hj];exact h1,h2⟩
  | false=>
   rw[hd] at h
   have h':(bif Nat.beq j u then some y else D6 u (Bn9 k r))=some x:=h
   cases hj:Nat.beq j u with
   |true=>
    rw[hj] at h'
    obtain rfl:y=x:=Option.some.inj h'
    exact .inr ⟨by show(bif Nat.beq j u then some y else D6 u r)=_;rw[hj];rfl,hd⟩
   |false=>
    rw[hj] at h'
    rcases Akt h' with e|⟨h1,h2⟩
    ·exact .inl e
    ·exact .inr ⟨by show(bif Nat.beq j u then some y else D6 u r)=_;rw[hj];exact h1,h2⟩
structure Base where
 F:Nat→Prop
 N:Nm
 nx:Nat
 o:Objs
 R:World
 tm:Nat→Value
 W:Nat→Prop
structure Rel (Z:Base) (F:Nat→Prop) (N:Nm) (s:St) (a:Act) (R:World):Prop where
 defers:a.defers=[]
 size:a.tmps.size=s.n
 slots:∀u x,s.get u=some x→HS F N s.nx R (Bl a) x (Bl a u)
 hp:HRel F N s.nx s.o R
 st:Step Z.F Z.N Z.nx Z.o Z.R F N s.nx s.o R
 tm:∀u,¬Z.W u→Bl a u=Z.tm u
theorem MI {a:Act} {d u:Nat} (v:Value) (h:u≠d):Bl (a.put (some d) v) u=Bl a u:=by
 unfold Bl
 rw[Gb]
 rw[if_neg (fun e=>h e.1.symm)]
theorem Aqk {a:Act} {d:Nat} (v:Value) (h:d <a.tmps.size):Bl (a.put (some d) v) d=v:=by
 unfold Bl
 rw[Gb]
 rw[if_pos ⟨rfl,h⟩]
section
variable {Z:Base} {F F':Nat→Prop} {N N':Nm} {s:St} {a:Act} {R R':World}
theorem Rel.put (h:Rel Z F N s a R) {d:Nat} (hd:d <s.n) (hW:Z.W d) {x:A} (y:Value) (hx:HS F N s.nx R (Bl (a.put (some d) y)) x y):Rel Z F N (s.put d x) (a.put (some d) y) R where
 defers:=by rw[QQ];exact h.defers
 size:=by rw[XJ];exact h.size
 slots:=fun u z hu=>by
  unfold St.get St.put D6 at hu
  cases hk:Nat.beq d u with
  |true=>
   rw[hk] at hu
   obtain rfl:x=z:=Option.some.inj hu
   obtain rfl:d=u:=Nat.eq_of_beq_eq_true hk
   rw[Aqk y (by rw[h.size];exact hd)]
   exact hx
  |false=>
   rw[hk] at hu
   have hne:u≠d:=fun e=>by subst e;simp at hk
   rw[MI y hne]
   rcases Akt hu with rfl|⟨h1,h2⟩
   ·exact(Ab rfl).2 (.dead _)
   ·exact HS.congr (fun k hk'=>MI y hk') h2 (h.slots u z h1)
 hp:=h.hp
 st:=h.st
 tm:=fun u hu=>by rw[MI y (fun e=>hu (by rw[e];exact hW))];exact h.tm u hu
theorem Rel.heap (h:Rel Z F N s a R) {nx':Nat} {o':Objs} (st:Step F N s.nx s.o R F' N' nx' o' R') (hp:HRel F' N' nx' o' R'):Rel Z F' N' {s with nx:=nx',o:=o'} a R':=
 ⟨h.defers,h.size,fun u x hu=>(h.slots u x hu).step (st.ext h.hp),hp,h.st.trans st,h.tm⟩
theorem Rel.grow (h:Rel Z F N s a R) (hb:Below R.heap.size R R'):Rel Z F N s a R':=by
 obtain⟨h1,h2⟩:=h.hp.grow hb
 exact⟨h.defers,h.size,fun u x hu=>(h.slots u x hu).step h2,h1,h.st.trans (Step.of_below hb),h.tm⟩
end
def Ko {α:Type} (σ:Nat→α) (d:Nat) (m:α):Nat→α:=fun k=>bif Nat.beq k d then m else σ k
theorem BU {α:Type} (σ:Nat→α) (d:Nat) (m:α):Ko σ d m d=m:=by simp[Ko]
theorem EH {α:Type} (σ:Nat→α) {d k:Nat} (m:α) (h:k≠d):Ko σ d m k=σ k:=by
 unfold Ko
 cases hk:Nat.beq k d with
 |true=>exact absurd (Nat.eq_of_beq_eq_true hk) h
 |false=>rfl
def Nm.setB (N:Nm) (d m:Nat):Nm:=⟨Ko N.b d m,N.q⟩
def Nm.setQ (N:Nm) (k:Nat) (v:Value):Nm:=⟨N.b,Ko N.q k v⟩
theorem Bd (k:Nat) (x:Option Ob) (l:Objs) (j:Nat):Ao j ((k,x)::l)=if j=k then x else Ao j l:=by
 show(bif Nat.beq k j then x else Ao j l)=_
 by_cases h:j=k
 ·subst h;simp
 ·rw[if_neg h]
  have:Nat.beq k j=false:=by
   cases hk:Nat.beq k j with
   |true=>exact absurd (Nat.eq_of_beq_eq_true hk).symm h
   |false=>rfl
  rw[this]
  rfl
def Atp {α:Type} (P:Program):Sem α→Option α
 | .pure a=>some a
 | .program k=>Atp P (k P)
 |_=>none
theorem Aol {α:Type} {P:Program}:∀{s:Sem α} {x:α},Atp P s=some x→∀R,s.run P R=.ok x R
 | .pure a,x,h,R=>by
  obtain rfl:a=x:=Option.some.inj h
  rfl
 | .program k,x,h,R=>by
  show(k P).run P R=_
  exact Aol (s:=k P) h R
 | .load _ _ _,_,h,_=>by cases h
 | .store _ _ _ _,_,h,_=>by cases h
 | .new _ _,_,h,_=>by cases h
 | .shape _ _,_,h,_=>by cases h
 | .freeze _ _ _,_,h,_=>by cases h
 | .frozen _ _,_,h,_=>by cases h
 | .getObj _ _,_,h,_=>by cases h
 | .setObj _ _ _,_,h,_=>by cases h
 | .choose _ _,_,h,_=>by cases h
 | .sys _ _,_,h,_=>by cases h
 | .mark _ _,_,h,_=>by cases h
 | .halt _,_,h,_=>by cases h
abbrev Guards:=List (Nat×Bool)
def inG (u:Nat) (b:Bool):Guards→Bool
 | []=>false
 |(k,c)::r=>bif Nat.beq k u then(bif A0z c b then true else inG u b r) else inG u b r
def OJ (tm:Nat→Value) (G:Guards):Prop:=∀u b,inG u b G=true→tm u=.bool b
def A.strip (G:Guards):A→Option A
 | .opt u b x=>bif inG u b G then x.strip G else none
 | .dead=>none
 |x=>some x
section
variable {F:Nat→Prop} {N:Nm} {nx:Nat} {R:World} {tm:Nat→Value} {G:Guards}
theorem A0l (hG:OJ tm G):∀{x z:A} {y:Value},x.strip G=some z→HS F N nx R tm x y→z.plain=true∧Hv F N nx R z y
 | .opt u b x,z,y,h,hh=>by
  unfold A.strip at h
  cases hi:inG u b G with
  |false=>rw[hi] at h;cases h
  |true=>
   rw[hi] at h
   simp only[HS] at hh
   exact A0l hG h (hh.1 (hG u b hi))
 | .v _,z,_,h,hh=>by obtain rfl:=Option.some.inj h;exact⟨rfl,(Ab rfl).1 hh⟩
 | .sl _ _,z,_,h,hh=>by obtain rfl:=Option.some.inj h;exact⟨rfl,(Ab rfl).1 hh⟩
 | .own _ _,z,_,h,hh=>by obtain rfl:=Option.some.inj h;exact⟨rfl,(Ab rfl).1 hh⟩
 | .ownx _ _ _ _,z,_,h,hh=>by obtain rfl:=Option.some.inj h;exact⟨rfl,(Ab rfl).1 hh⟩
 | .sq _,z,_,h,hh=>by obtain rfl:=Option.some.inj h;exact⟨rfl,(Ab rfl).1 hh⟩
 | .dq _,z,_,h,hh=>by obtain rfl:=Option.some.inj h;exact⟨rfl,(Ab rfl).1 hh⟩
 | .iv _ _,z,_,h,hh=>by obtain rfl:=Option.some.inj h;exact⟨rfl,(Ab rfl).1 hh⟩
 | .de _ _ _ _,z,_,h,hh=>by obtain rfl:=Option.some.inj h;exact⟨rfl,(Ab rfl).1 hh⟩
 | .ie _ _ _ _ _,z,_,h,hh=>by obtain rfl:=Option.some.inj h;exact⟨rfl,(Ab rfl).1 hh⟩
 | .vw _ _ _ _ _,z,_,h,hh=>by obtain rfl:=Option.some.inj h;exact⟨rfl,(Ab rfl).1 hh⟩
 | .el _ _ _ _,z,_,h,hh=>by obtain rfl:=Option.some.inj h;exact⟨rfl,(Ab rfl).1 hh⟩
 | .ref _,z,_,h,hh=>by obtain rfl:=Option.some.inj h;exact⟨rfl,(Ab rfl).1 hh⟩
 | .mp _,z,_,h,hh=>by obtain rfl:=Option.some.inj h;exact⟨rfl,(Ab rfl).1 hh⟩
 | .nl,z,_,h,hh=>by obtain rfl:=Option.some.inj h;exact⟨rfl,(Ab rfl).1 hh⟩
 | .it _ _,z,_,h,hh=>by obtain rfl:=Option.some.inj h;exact⟨rfl,(Ab rfl).1 hh⟩
 | .fn _ _ _,z,_,h,hh=>by obtain rfl:=Option.some.inj h;exact⟨rfl,(Ab rfl).1 hh⟩
 | .agg _,z,_,h,hh=>by obtain rfl:=Option.some.inj h;exact⟨rfl,(Ab rfl).1 hh⟩
 | .tup _,z,_,h,hh=>by obtain rfl:=Option.some.inj h;exact⟨rfl,(Ab rfl).1 hh⟩
 | .dead,_,_,h,_=>by cases h
end
def St.ev (s:St) (G:Guards):Operand→Option A
 | .tmp t=>match s.get t with
  |some x=>x.strip G
  |none=>none
 | .const v=>some (.v v)
 | .func f=>some (.v (.func (.func f) #[] #[]))
 | .global _=>none
abbrev A3:=Nat×A×Nat×Objs×List Prop
abbrev Tab:=FuncId→List A→Nat→Objs→Option A3
def CallOk (P:Program) (f:FuncId) (args:List A) (nx:Nat) (o:Objs) (k:Nat) (x:A) (nx':Nat) (o':Objs):Prop:=
 ∀(F:Nat→Prop) (N:Nm) (R:World) (vs:List Value),HRel F N nx o R→HL F N nx R args vs→
  Calls P f vs.toArray R fun e R'=>∃y F' N',e=.returned y∧HRel F' N' nx' o' R'∧Step F N nx o R F' N' nx' o' R'∧Hv F' N' nx' R' x y∧(k≤1→Below R.heap.size R R')
structure Env where
 P:Program
 eq:TypeId→List Value→List Value→Option Bool
 C:Tab
 lit:Bool
 tc:TypeId→Option TC
 L:Nat→St→Option (Code×List Prop×List (Option Nat×Option Bool×St))
structure EnvOk (E:Env):Prop where
 suf:∀f args nx o k x nx' o' ps,E.C f args nx o=some (k,x,nx',o',ps)→∃d,o'=d++o
 wide:E.P.follows .mixedOrders=true
 eq:∀t xs ys b,E.eq t xs ys=some b→E.P.eqGuardType E.P.depth t=false∧∀R,(Op.equalIn 10000 t (.agg xs.toArray) (.agg ys.toArray)).run E.P R=.ok b R
 C:∀f args nx o k x nx' o' ps,E.C f args nx o=some (k,x,nx',o',ps)→(∀p∈ps,p)→CallOk E.P f args nx o k x nx' o'
 tc:∀t c,E.tc t=some c→∃i,E.P.info? t=some i∧i.size=size c∧0 <size c∧∃z,i.zero=some z∧∀(F:Nat→Prop) (N:Nm) (nx:Nat) (R:World),HL F N nx R (enc c (Ac c)) z.cells.toList
def B22:A→Option Value
 | .v x=>some x
 | .agg xs=>match A9b xs with
  |some l=>some (.agg l.toArray)
  |none=>none
 |_=>none
theorem Bxh {F:Nat→Prop} {N:Nm} {nx:Nat} {R:World} {x:A} {y u:Value} (h:B22 x=some u) (hh:Hv F N nx R x y):y=u:=by
 cases x<;>first|(cases h;done)|skip
 ·cases h;exact hh.v_inv
 ·rename_i xs
  have h':(match A9b xs with|some l=>some (Value.agg l.toArray)|none=>none)=some u:=h
  split at h'<;>first|(cases h';done)|skip
  rename_i l hl
  cases h'
  obtain⟨vs,rfl,h2⟩:=hh.agg_inv
  rw[A9c hl h2]
section
variable {E:Env} {Z:Base} {F:Nat→Prop} {N:Nm} {s:St} {a:Act} {R:World} {G:Guards}
theorem Br (h:Rel Z F N s a R) (hG:OJ (Bl a) G) {o:Operand} {z:A} (ho:s.ev G o=some z):z.plain=true∧Hv F N s.nx R z (a.eval o):=by
 cases o with
 | tmp t=>
  unfold St.ev at ho
  cases hg:s.get t with
  |none=>simp only[hg] at ho;cases ho
  |some x=>
   simp only[hg] at ho
   exact A0l hG ho (h.slots t x hg)
 |const v=>obtain rfl:=Option.some.inj ho;exact⟨rfl,Hv.v _⟩
 |global g=>cases ho
 |func f=>obtain rfl:=Option.some.inj ho;exact⟨rfl,Hv.v _⟩
def St.raw (s:St) (G:Guards) (o:Operand):Option Value:=match s.ev G o with
 |some x=>B22 x
 |none=>none
theorem D7 (h:Rel Z F N s a R) (hG:OJ (Bl a) G) {o:Operand} {y:Value} (ho:s.raw G o=some y):a.eval o=y:=by
 unfold St.raw at ho
 cases he:s.ev G o with
 |none=>rw[he] at ho;cases ho
 |some z=>
  rw[he] at ho
  exact Bxh ho (Br h hG he).2
def rho (s:St) (G:Guards) (o:Operand):Value:=match s.raw G o with
 |some y=>y
 |none=>undef
def Ajd (s:St) (G:Guards):List Operand→Bool
 | []=>true
 |o::r=>match s.raw G o with
  |some _=>Ajd s G r
  |none=>false
theorem A3k:∀{l:List Operand},Ajd s G l=true→∀o∈l,∃y,s.raw G o=some y
 | [],_,o,ho=>by cases ho
 | x::r,h,o,ho=>by
  unfold Ajd at h
  cases hx:s.raw G x with
  |none=>simp only[hx] at h;cases h
  |some y=>
   simp only[hx] at h
   rcases List.mem_cons.1 ho with rfl|ho
   ·exact⟨y,hx⟩
   ·exact A3k h o ho
def Bs4 (o:Op):Bool:=match o with| .select .. =>false|_=>true
def Btk (P:Program) (s:St) (G:Guards) (o:Oper):Option Value:=
 bif Ajd s G o.op.operands.toList then
  bif Bs4 o.op then match Atp P (execOp (rho s G) o) with
   |some (.value y)=>some y
   |_=>none
  else none
 else none
theorem Bnw (h:Rel Z F N s a R) (hG:OJ (Bl a) G) {o:Oper} (hr:Ajd s G o.op.operands.toList=true) (hn:Bs4 o.op=true):execOp a.eval o=execOp (rho s G) o:=by
 refine execOp_congr o (fun cs b he=>by rw[he] at hn;cases hn) fun x hx=>?_
 obtain⟨y,hy⟩:=A3k hr x (by simpa using hx)
 rw[D7 h hG hy]
 unfold rho
 rw[hy]
theorem Bok (h:Rel Z F N s a R) (hG:OJ (Bl a) G) {o:Oper} {y:Value} (he:Btk E.P s G o=some y) (R':World):(execOp a.eval o).run E.P R'=.ok (.value y) R':=by
 unfold Btk at he
 cases hr:Ajd s G o.op.operands.toList with
 |false=>rw[hr] at he;cases he
 | true=>
  cases hn:Bs4 o.op with
  |false=>rw[hr,hn] at he;cases he
  | true=>
   rw[hr,hn] at he
   simp only[cond_true] at he
   rw[Bnw h hG hr hn]
   cases hp:Atp E.P (execOp (rho s G) o) with
   |none=>rw[hp] at he;cases he
   |some z=>
    rw[hp] at he
    cases z<;>first|cases he|skip
    exact Aol hp R'
end
def WY (f:Value→Value→Option Value):List Value→List Value→Option (List Value)
 | [],[]=>some []
 | x::xs,y::ys=>match f x y with
  |some z=>match WY f xs ys with
   |some zs=>some (z::zs)
   |none=>none
  |none=>none
 |_,_=>none
def Avm:IntKind→IntKind→Bool
 | .i64,.i64=>true
 | .u8,.u8=>true
 | .u64,.u64=>true
 | .i32,.i32=>true
 | .u32,.u32=>true
 |_,_=>false
def slM (q:Bool):Option Addr→Nat→Nat→Option Addr→Nat→Nat→Value
 |none,0,0,none,0,0=> .slice none 0 0
 |A,n,c,A',n',c'=> .slice (bif q then A else A') (bif q then n else n') (bif q then c else c')
theorem B1i {q:Bool} {A A':Option Addr} {n c n' c':Nat}:slM q A n c A' n' c'=bif q then .slice A n c else .slice A' n' c':=by
 unfold slM
 split<;>cases q<;>rfl
def KG:Nat→Bool→Value→Value→Option Value
 |_,q,.bool x,.bool y=>some (.bool (bif q then x else y))
 |_,q,.int k x,.int k' y=>bif Avm k k' then some (.int k (bif q then x else y)) else none
 |_,q,.string x,.string y=>some (.string (bif q then x else y))
 |_,q,.slice A n c,.slice A' n' c'=>some (slM q A n c A' n' c')
 |d+1,q,.agg xs,.agg ys=>match WY (KG d q) xs.toList ys.toList with
  |some zs=>some (.agg zs.toArray)
  |none=>none
 |d+1,q,.tuple xs,.tuple ys=>match WY (KG d q) xs.toList ys.toList with
  |some zs=>some (.tuple zs.toArray)
  |none=>none
 |_,_,_,_=>none
theorem Avn {k k':IntKind} (h:Avm k k'=true):k=k':=by cases k<;>cases k'<;>first|rfl|cases h
theorem Akw {f:Value→Value→Option Value} {q:Bool} (hf:∀x y z,f x y=some z→z=bif q then x else y):∀{xs ys zs:List Value},WY f xs ys=some zs→zs=bif q then xs else ys
 | [],[],zs,h=>by
  obtain rfl:=Option.some.inj h
  cases q<;>rfl
 | [],_::_,_,h=>by cases h
 |_::_,[],_,h=>by cases h
 | x::xs,y::ys,zs,h=>by
  unfold WY at h
  cases h1:f x y with
  |none=>simp only[h1] at h;cases h
  | some z=>
   cases h2:WY f xs ys with
   |none=>simp only[h1,h2] at h;cases h
   |some zs'=>
    simp only[h1,h2] at h
    obtain rfl:=Option.some.inj h
    have e1:=hf x y z h1
    have e2:=Akw hf h2
    rw[e1,e2]
    cases q<;>rfl
theorem Aky:∀{d:Nat} {q:Bool} {x y z:Value},KG d q x y=some z→z=bif q then x else y
 | d,q,x,y,z,h=>by
  cases x<;>cases y<;>first|(cases d<;>(unfold KG at h;cases h);done)|skip
  case bool.bool a b=>unfold KG at h;cases h;cases q<;>rfl
  case int.int k a k' b=>
   unfold KG at h
   cases hk:Avm k k' with
   |false=>rw[hk] at h;cases h
   |true=>
    rw[hk] at h
    obtain rfl:=Avn hk
    cases h
    cases q<;>rfl
  case string.string a b=>unfold KG at h;cases h;cases q<;>rfl
  case slice.slice A n c A' n' c'=>
   unfold KG at h
   cases h
   exact B1i
  case agg.agg xs ys=>
   cases d with
   |zero=>unfold KG at h;cases h
   | succ d=>
    unfold KG at h
    cases hm:WY (KG d q) xs.toList ys.toList with
    |none=>simp only[hm] at h;cases h
    |some zs=>
     simp only[hm] at h
     obtain rfl:=Option.some.inj h
     rw[Akw (fun x y z hz=>Aky hz) hm]
     cases q<;>rfl
  case tuple.tuple xs ys=>
   cases d with
   |zero=>unfold KG at h;cases h
   | succ d=>
    unfold KG at h
    cases hm:WY (KG d q) xs.toList ys.toList with
    |none=>simp only[hm] at h;cases h
    |some zs=>
     simp only[hm] at h
     obtain rfl:=Option.some.inj h
     rw[Akw (fun x y z hz=>Aky hz) hm]
     cases q<;>rfl
def D5:Value→Bool
 | .slice none 0 0=>true
 |_=>false
def DE (f:A→A→A) (g:Bool):List A→List A→List A
 |x::xs,y::ys=>f x y::DE f g xs ys
 | [],[]=>[]
 |xs,ys=>bif g then xs else ys
def Agy (g:Bool) (c:TC) (l:List (U c)) (c':TC) (l':List (U c')):A:=match TC.same c' c with
 |some h=> .sl c (bif g then l else Am5 h.down l')
 |none=> .dead
def Mt:Nat→Bool→A→A→A
 |0,_,_,_=> .dead
 | d+1,g,x,y=>match x,y with
  | .v x,.v y=>match KG 2 g x y with
   |some z=> .v z
   |none=> .dead
  | .v x,.sl c l=>bif D5 x then .sl c (bif g then[] else l) else .dead
  | .sl c l,.v x=>bif D5 x then .sl c (bif g then l else[]) else .dead
  | .sl c l,.sl c' l'=>Agy g c l c' l'
  | .sl c l,.nl=> .sl c (bif g then l else[])
  | .nl,.sl c l=> .sl c (bif g then[] else l)
  | .nl,.nl=> .nl
  | .nl,.v x=>bif D5 x then .nl else .dead
  | .v x,.nl=>bif D5 x then .nl else .dead
  | .own i o,.own j p=>bif Nat.beq i j then(bif Nat.beq o p then .own i o else .dead) else .dead
  | .sq i,.sq j=>bif Nat.beq i j then .sq i else .dead
  | .mp i,.mp j=>bif Nat.beq i j then .mp i else .dead
  | .agg xs,.agg ys=>VS (DE (Mt d g) g xs ys)
  | .tup xs,.tup ys=> .tup (DE (Mt d g) g xs ys)
  | .fn f xs us,.fn h ys ws=>bif Nat.beq f h then .fn f (DE (Mt d g) g xs ys) (DE (Mt d g) g us ws) else .dead
  | .ref l,.ref l'=> .ref (DE (Mt d g) g l l')
  |_,_=> .dead
def RU:A→A
 | .v (.agg xs)=> .agg (toL xs.toList)
 | .v (.tuple xs)=> .tup (toL xs.toList)
 | .v (.func (.func f) xs us)=> .fn f (toL xs.toList) (toL us.toList)
 |x=>x
def Af0:A→A→Bool
 | .agg _,.v _=>true
 | .v _,.agg _=>true
 | .tup _,.v _=>true
 | .v _,.tup _=>true
 | .fn _ _ _,.v _=>true
 | .v _,.fn _ _ _=>true
 | .v (.func _ _ _),.v (.func _ _ _)=>true
 |_,_=>false
def Awe (g:Bool) (x y:A):A:=bif Af0 x y then Mt 4 g (RU x) (RU y) else Mt 4 g x y
section
variable {F:Nat→Prop} {N:Nm} {nx:Nat} {R:World} {g:Bool}
theorem YA {cs:List A} {vs:List Value} (h:HL F N nx R cs vs):Hv F N nx R (VS cs) (.agg vs.toArray):=by
 unfold VS
 split
 ·rename_i xs hx
  rw[A9c hx h]
  exact Hv.v _
 ·exact Hv.of_agg h
theorem GV {f:A→A→A} (hf:∀{x y v},Hv F N nx R (bif g then x else y) v→Hv F N nx R (f x y) v):∀{xs ys:List A} {vs:List Value},HL F N nx R (bif g then xs else ys) vs→HL F N nx R (DE f g xs ys) vs
 | [],[],_,h=>by unfold DE;cases g<;>exact h
 | [],_::_,_,h=>by unfold DE;exact h
 |_::_,[],_,h=>by unfold DE;exact h
 |x::xs,y::ys,vs,h=>by
  unfold DE
  have h':HL F N nx R ((bif g then x else y)::(bif g then xs else ys)) vs:=by cases g<;>exact h
  obtain⟨v,us,rfl,h2,h3⟩:=h'.inv
  exact HL.cons (hf h2) (GV hf h3)
theorem HC.cons {x:A} {r:List A} {ad:Addr}:HC F N nx R (x::r) ad↔(∃y,R.cell? ad=some y∧Hv F N nx R x y)∧HC F N nx R r (ad.add 1):=by
 constructor
 ·intro h
  refine⟨by have:=h 0 x rfl;rwa[add_zero] at this,fun j y hy=>?_⟩
  have:=h (j+1) y hy
  rw[D3,Nat.add_comm 1 j]
  exact this
 ·intro⟨h1,h2⟩ j y hy
  cases j with
  |zero=>cases hy;rw[add_zero];exact h1
  |succ j=>
   have:=h2 j y hy
   rw[D3,Nat.add_comm 1 j] at this
   exact this
theorem HC.nil {ad:Addr}:HC F N nx R [] ad:=fun j x h=>by cases j<;>cases h
theorem An8 {f:A→A→A} (hf:∀{x y v},Hv F N nx R (bif g then x else y) v→Hv F N nx R (f x y) v):∀{xs ys:List A} {ad:Addr},HC F N nx R (bif g then xs else ys) ad→HC F N nx R (DE f g xs ys) ad
 | [],[],_,h=>by unfold DE;cases g<;>exact h
 | [],_::_,_,h=>by unfold DE;exact h
 |_::_,[],_,h=>by unfold DE;exact h
 |x::xs,y::ys,ad,h=>by
  unfold DE
  have h':HC F N nx R ((bif g then x else y)::(bif g then xs else ys)) ad:=by cases g<;>exact h
  obtain⟨⟨u,h1,h2⟩,h3⟩:=HC.cons.1 h'
  exact HC.cons.2 ⟨⟨u,h1,hf h2⟩,An8 hf h3⟩
theorem Gr {x:Value} (h:D5 x=true):x=.slice none 0 0:=by
 unfold D5 at h
 split at h
 ·rfl
 ·cases h
theorem Bh6 {c c':TC} {l:List (U c)} {l':List (U c')} {v:Value} (h:Hv F N nx R (bif g then .sl c l else .sl c' l') v):Hv F N nx R (Agy g c l c' l') v:=by
 unfold Agy
 split
 ·rename_i h1 _
  obtain⟨h1⟩:=h1
  subst h1
  cases g<;>exact h
 ·exact .dead _
theorem YS:∀(d:Nat) {x y:A} {v:Value},Hv F N nx R (bif g then x else y) v→Hv F N nx R (Mt d g x y) v
 |0,_,_,_,_=> .dead _
 | d +1,x,y,v,h=>by
  have ih:∀{x y v},Hv F N nx R (bif g then x else y) v→Hv F N nx R (Mt d g x y) v:=fun h=>YS d h
  unfold Mt
  split
  ·rename_i x y
   split
   ·rename_i z hz
    rw[Aky hz]
    cases g<;>exact h
   ·exact .dead _
  ·rename_i x c l
   cases hx:D5 x with
   |false=>exact .dead _
   |true=>
    obtain rfl:=Gr hx
    cases g with
    |false=>exact h
    |true=>exact Hv.sl_nil h.v_inv
  ·rename_i c l x
   cases hx:D5 x with
   |false=>exact .dead _
   |true=>
    obtain rfl:=Gr hx
    cases g with
    |true=>exact h
    |false=>exact Hv.sl_nil h.v_inv
  ·exact Bh6 h
  ·cases g with
   |true=>exact h
   |false=>obtain⟨a,e⟩:=h.nl_inv;exact Hv.sl_nil e
  ·cases g with
   |false=>exact h
   |true=>obtain⟨a,e⟩:=h.nl_inv;exact Hv.sl_nil e
  ·cases g<;>exact h
  ·rename_i x
   cases hx:D5 x with
   |false=>exact .dead _
   |true=>
    obtain rfl:=Gr hx
    cases g with
    |true=>exact h
    |false=>rw[h.v_inv];exact .nl _
  ·rename_i x
   cases hx:D5 x with
   |false=>exact .dead _
   |true=>
    obtain rfl:=Gr hx
    cases g with
    |false=>exact h
    |true=>rw[h.v_inv];exact .nl _
  ·rename_i i o j p
   cases h1:Nat.beq i j with
   |false=>exact .dead _
   | true=>
    cases h2:Nat.beq o p with
    |false=>exact .dead _
    |true=>
     obtain rfl:=Nat.eq_of_beq_eq_true h1
     obtain rfl:=Nat.eq_of_beq_eq_true h2
     cases g<;>exact h
  ·rename_i i j
   cases h1:Nat.beq i j with
   |false=>exact .dead _
   |true=>
    obtain rfl:=Nat.eq_of_beq_eq_true h1
    cases g<;>exact h
  ·rename_i i j
   cases h1:Nat.beq i j with
   |false=>exact .dead _
   |true=>
    obtain rfl:=Nat.eq_of_beq_eq_true h1
    cases g<;>exact h
  ·rename_i xs ys
   have h':Hv F N nx R (.agg (bif g then xs else ys)) v:=by cases g<;>exact h
   obtain⟨vs,rfl,h2⟩:=h'.agg_inv
   exact YA (GV ih h2)
  ·rename_i xs ys
   have h':Hv F N nx R (.tup (bif g then xs else ys)) v:=by cases g<;>exact h
   obtain⟨vs,rfl,h2⟩:=h'.tup_inv
   exact Hv.of_tup (GV ih h2)
  ·rename_i f xs us h0 ys ws
   cases h1:Nat.beq f h0 with
   |false=>exact .dead _
   |true=>
    obtain rfl:=Nat.eq_of_beq_eq_true h1
    have h':Hv F N nx R (.fn f (bif g then xs else ys) (bif g then us else ws)) v:=by cases g<;>exact h
    obtain⟨vs,ks,rfl,h2,h3⟩:=h'.fn_inv
    exact Hv.of_fn (GV ih h2) (GV ih h3)
  ·rename_i l l'
   have h':Hv F N nx R (.ref (bif g then l else l')) v:=by cases g<;>exact h
   obtain⟨ad,rfl,h2,h3⟩:=h'.ref_inv
   exact Hv.of_ref h2 (An8 ih h3)
  ·exact .dead _
theorem A47 {x:A} {v:Value} (h:Hv F N nx R x v):Hv F N nx R (RU x) v:=by
 unfold RU
 split
 ·rename_i xs
  rw[h.v_inv]
  have:=Hv.of_agg (HL.toL (F:=F) (N:=N) (nx:=nx) (R:=R) xs.toList)
  simpa using this
 ·rename_i xs
  rw[h.v_inv]
  have:=Hv.of_tup (HL.toL (F:=F) (N:=N) (nx:=nx) (R:=R) xs.toList)
  simpa using this
 ·rename_i f xs us
  rw[h.v_inv]
  have:=Hv.of_fn (f:=f) (HL.toL (F:=F) (N:=N) (nx:=nx) (R:=R) xs.toList) (HL.toL (F:=F) (N:=N) (nx:=nx) (R:=R) us.toList)
  simpa using this
 ·exact h
theorem S1 {x y:A} {v:Value} (h:Hv F N nx R (bif g then x else y) v):Hv F N nx R (Awe g x y) v:=by
 unfold Awe
 cases Af0 x y with
 |false=>exact YS 4 h
 |true=>exact YS 4 (by cases g<;>exact A47 h)
end
def Qu (b:Bool):Operand→Guards→Guards
 | .tmp u,G=>(u,b)::G
 |_,G=>G
theorem TY {a:Act} {G:Guards} {b:Bool} {c:Operand} (hG:OJ (Bl a) G) (hc:a.eval c=.bool b):OJ (Bl a) (Qu b c G):=by
 cases c<;>first|exact hG|skip
 rename_i u
 intro k d hk
 unfold Qu inG at hk
 cases hu:Nat.beq u k with
 |false=>rw[hu] at hk;exact hG k d hk
 |true=>
  rw[hu] at hk
  simp only[cond_true] at hk
  obtain rfl:=Nat.eq_of_beq_eq_true hu
  cases hb:A0z b d with
  |false=>rw[hb] at hk;exact hG _ d hk
  |true=>obtain rfl:=YB hb;exact hc
def Bhg:Operand→Option Bool
 | .const (.bool b)=>some b
 |_=>none
def Btf (s:St) (G:Guards) (c x y:Operand):Option A:=
 match s.raw G c with
 | some (.bool q)=>match s.ev (Qu true c G) x,s.ev (Qu false c G) y with
  |some x',some y'=>match Bhg x,Bhg y,x',y' with
   |some true,_,_,.v (.bool p)=>some (.v (.bool (q||p)))
   |_,some false,.v (.bool p),_=>some (.v (.bool (q&&p)))
   |_,_,_,_=>some (Awe q x' y')
  |_,_=>none
 |_=>none
theorem Bcq {s:St} {G:Guards} {x:Operand} {b:Bool} {v:A} (h:Bhg x=some b) (hr:s.ev G x=some v):v=.v (.bool b):=by
 match x,h with
 | .const (.bool c),h'=>
  obtain rfl:c=b:=Option.some.inj h'
  exact(Option.some.inj hr).symm
theorem Btg {Z:Base} {F:Nat→Prop} {N:Nm} {s:St} {a:Act} {R:World} {G:Guards} (h:Rel Z F N s a R) (hG:OJ (Bl a) G) {c x y:Operand} {z:A} (he:Btf s G c x y=some z):
  ∃q,a.eval c=.bool q∧Hv F N s.nx R z (if q then a.eval x else a.eval y):=by
 unfold Btf at he
 cases hc:s.raw G c with
 |none=>simp only[hc] at he;cases he
 | some cv=>
  cases cv<;>first|(simp only[hc] at he;cases he;done)|skip
  rename_i q
  have hq:=D7 h hG hc
  refine⟨q,hq,?_⟩
  simp only[hc] at he
  cases hx:s.ev (Qu true c G) x with
  |none=>simp only[hx] at he;cases he
  | some x'=>
   cases hy:s.ev (Qu false c G) y with
   |none=>simp only[hx,hy] at he;cases he
   | some y'=>
    simp only[hx,hy] at he
    have hv:Hv F N s.nx R (bif q then x' else y') (if q then a.eval x else a.eval y):=by
     cases q with
     |true=>exact(Br h (TY hG hq) hx).2
     |false=>exact(Br h (TY hG hq) hy).2
    split at he
    ·rename_i h1
     have:=Bcq h1 hx
     subst this
     obtain rfl:=Option.some.inj he
     cases q<;>exact hv
    ·rename_i h1 _
     have:=Bcq h1 hy
     subst this
     obtain rfl:=Option.some.inj he
     cases q<;>first|(simp only[Bool.false_and];exact hv)|(simp only[Bool.true_and];exact hv)
    ·obtain rfl:=Option.some.inj he
     exact S1 hv
end Go.Proofs.Yteebobbhhgmeiaa
namespace Go.Proofs.Yteebobbhhgmeiaa
open Go.RowKit
def J7 (P:Program) (t:TypeId):Option Nat:=(P.info? t).map (·.size)
def Bfn (P:Program) (t:TypeId):Option Bool:=(P.underlying t).map fun d=>match d with| .struct _| .array _ _=>true|_=>false
section runs
variable {P:Program} {R:World}
theorem Nl {t:TypeId} {x:Value} {f:Nat} {fs:Array Field} {fd:Field} {n:Nat} {ad:Addr} (ht:P.underlying t=some (.struct fs)) (hf:fs[f]?=some fd) (hn:J7 P fd.type=some n) (h0:n≠0) (hx:x=.pointer (some ad)):
  (Instr.fieldAt t x f).run P R=.ok (.pointer (some (ad.add fd.offset))) R:=by
 subst hx
 unfold J7 at hn
 cases hi:P.info? fd.type with
 |none=>rw[hi] at hn;cases hn
 |some i=>
  rw[hi] at hn
  obtain rfl:i.size=n:=Option.some.inj hn
  simp[Instr.fieldAt,run_underlying ht,hf,Instr.sureAddr,fieldPlace,sizeOf,typeInfo,hi,h0]
theorem Kz {t e:TypeId} {x:Value} {k:IntKind} {i:Int} {len n:Nat} {ad:Addr} (ht:P.underlying t=some (.array len e)) (hn:J7 P e=some n) (hx:x=.pointer (some ad)) (h0:0≤i) (h1:i <len):
  (Instr.indexAt t x (.int k i)).run P R=.ok (.pointer (some (ad.add (i.toNat*n)))) R:=by
 subst hx
 unfold J7 at hn
 cases hi:P.info? e with
 |none=>rw[hi] at hn;cases hn
 |some d=>
  rw[hi] at hn
  obtain rfl:d.size=n:=Option.some.inj hn
  simp[Instr.indexAt,run_underlying ht,Instr.sureAddr,sizeOf,typeInfo,hi,h0,h1,asIntOf]
theorem JL {t e:TypeId} {x:Value} {k:IntKind} {i:Int} {len cap n:Nat} {ad:Addr} (ht:P.underlying t=some (.slice e)) (hn:J7 P e=some n) (hx:x=.slice (some ad) len cap) (h0:0≤i) (h1:i <len):
  (Instr.indexAt t x (.int k i)).run P R=.ok (.pointer (some (ad.add (i.toNat*n)))) R:=by
 subst hx
 unfold J7 at hn
 cases hi:P.info? e with
 |none=>rw[hi] at hn;cases hn
 |some d=>
  rw[hi] at hn
  obtain rfl:d.size=n:=Option.some.inj hn
  simp[Instr.indexAt,run_underlying ht,sizeOf,typeInfo,hi,h0,h1,asIntOf]
theorem VC {t:TypeId} {ad:Addr} {v:Value} (hr:Bfn P t=some false) (hc:R.cell? ad=some v):(loadVar t ad).run P R=.ok v R:=by
 unfold Bfn at hr
 cases hu:P.underlying t with
 |none=>rw[hu] at hr;cases hr
 |some d=>
  rw[hu] at hr
  have hl:(load ad).run P R=.ok v R:=by simp[hc]
  cases d<;>first|(simp[loadVar,isAgg,run_underlying hu,hc];done)|(simp at hr;done)
theorem Ata {t:TypeId} {ad:Addr} {cs:List Value} (hr:Bfn P t=some true) (hs:J7 P t=some cs.length) (hc:∀j v,cs[j]?=some v→R.cell? (ad.add j)=some v):(loadVar t ad).run P R=.ok (.agg cs.toArray) R:=by
 have hl:=run_loadCells_list (P:=P) R ad cs hc
 unfold Bfn at hr
 unfold J7 at hs
 cases hu:P.underlying t with
 |none=>rw[hu] at hr;cases hr
 | some d=>
  rw[hu] at hr
  cases hi:P.info? t with
  |none=>rw[hi] at hs;cases hs
  |some i=>
   rw[hi] at hs
   have hs':i.size=cs.length:=Option.some.inj hs
   cases d<;>first|(simp[loadVar,isAgg,run_underlying hu,sizeOf,typeInfo,hi,hs',hl];done)|(simp at hr;done)
theorem KR {t:TypeId} {x:Value} {ad:Addr} (hx:x=.pointer (some ad)):(Instr.loadAt t x).run P R=(loadVar t ad).run P R:=by
 subst hx
 simp[Instr.loadAt,Instr.sureAddr]
theorem Nn {t:TypeId} {x v:Value} {b o:Nat} {e:TypeId} {cs:List Value} (hx:x=.pointer (some ⟨b,o,none⟩)) (hb:R.heap[b]?=some (.cells cs.toArray e (0,0))) (hs:J7 P t=some v.cells.toList.length)
  (hl:o+v.cells.toList.length≤cs.length) (h1:∀c∈v.cells.toList,c.oneCell'=true):
  (Instr.storeAt t x v).run P R=.ok () (R.setRow b (cs.take o++v.cells.toList++cs.drop (o+v.cells.toList.length)).toArray):=by
 subst hx
 have h:=run_storeCells_at (P:=P) b o e v.cells.toList 0 cs.toArray R hb (by simpa using hl) h1
 unfold J7 at hs
 cases hi:P.info? t with
 |none=>rw[hi] at hs;cases hs
 |some i=>
  rw[hi] at hs
  have hs':i.size=v.cells.size:=by have:=Option.some.inj hs;simpa using this
  simp only[Instr.storeAt,Instr.sureAddr,Sem.run_bind,Sem.run_pure,Result.andThen_ok]
  simp only[Nat.add_zero] at h
  simp[storeVar,sizeOf,typeInfo,hi,hs',h]
theorem Aqc {e:TypeId} {z:Value} (hz:(P.info? e).bind (·.zero)=some z):(Instr.alloc e true (.tuple #[])).run P R=.ok (.pointer (some ⟨R.heap.size,0,none⟩)) (R.alloc (.cells z.cells.toList.toArray e (0,0))):=by
 cases hi:P.info? e with
 |none=>rw[hi] at hz;cases hz
 |some i=>
  rw[hi] at hz
  have hz':i.zero=some z:=hz
  simp[Instr.alloc,zeroValue,typeInfo,hi,hz',newVar,newRow]
theorem A42 {e:TypeId} {v:Value}:(Instr.box e v).run P R=.ok (.pointer (some ⟨R.heap.size,0,none⟩)) (R.alloc (.cells v.cells.toList.toArray e (0,0))):=by
 simp[Instr.box,newVar,newRow]
end runs
def Bxp (k:Nat):Nat→List A→A
 |_,[]=> .dead
 |_,[x]=>x
 |j,x::y::r=>Awe (Nat.beq k j) x (Bxp k (j+1) (y::r))
def Bo5 (k:Nat) (v:A):Nat→List A→List A
 |_,[]=>[]
 |j,x::r=>Awe (Nat.beq k j) v x::Bo5 k v (j+1) r
section
variable {F:Nat→Prop} {N:Nm} {nx:Nat} {R:World}
theorem Bm3 {k:Nat}:∀{l:List A} {vs:List Value} {j:Nat} {v:Value},HL F N nx R l vs→j≤k→k <j+l.length→vs[k - j]?=some v→Hv F N nx R (Bxp k j l) v
 | [],_,_,_,_,_,h,_=>by simp at h;omega
 | [x],_,j,v,h,h1,h2,hv=>by
  obtain⟨u,us,rfl,h3,_⟩:=h.inv
  have:k - j=0:=by simp at h2;omega
  rw[this] at hv
  cases hv
  exact h3
 | x::y::r,_,j,v,h,h1,h2,hv=>by
  obtain⟨u,us,rfl,h3,h4⟩:=h.inv
  unfold Bxp
  refine S1 ?_
  by_cases hk:k=j
  ·subst hk
   rw[M5]
   rw[Nat.sub_self] at hv
   cases hv
   exact h3
  ·rw[Aub hk]
   refine Bm3 h4 (by omega) (by simp at h2⊢;omega) ?_
   rw[show k - j=(k - (j+1))+1 by omega,List.getElem?_cons_succ] at hv
   exact hv
theorem A44 {k:Nat} {v:A}:∀{l:List A} {vs:List Value} {j:Nat},HL F N nx R l vs→k <j→HL F N nx R (Bo5 k v j l) vs
 | [],_,_,h,_=>h
 |x::r,_,j,h,hk=>by
  obtain⟨u,us,rfl,h3,h4⟩:=h.inv
  unfold Bo5
  refine HL.cons (S1 ?_) (A44 h4 (by omega))
  rw[Aub (by omega)]
  exact h3
theorem Bm4 {k:Nat} {v:A} {y:Value} (hy:Hv F N nx R v y):∀{l:List A} {vs:List Value} {j:Nat},HL F N nx R l vs→j≤k→k <j+l.length→HL F N nx R (Bo5 k v j l) (vs.take (k - j)++[y]++vs.drop (k - j+1))
 | [],_,_,_,_,h=>by simp at h;omega
 | x::r,_,j,h,hk,h2=>by
  obtain⟨u,us,rfl,h3,h4⟩:=h.inv
  unfold Bo5
  by_cases hkj:k=j
  ·subst hkj
   rw[Nat.sub_self,M5]
   exact HL.cons (S1 hy) (A44 h4 (by omega))
  ·rw[Aub hkj,show k - j=(k - (j+1))+1 by omega]
   exact HL.cons (S1 h3) (Bm4 hy h4 (by omega) (by simp at h2;omega))
end
abbrev R2:=Option (A×List Prop)
def ndB (lit:Bool) (p:Prop) [Decidable p]:Option (List Prop):=bif lit then(bif decide p then some [] else none) else some [p]
theorem Ka {lit:Bool} {p:Prop} [Decidable p] {ps:List Prop} (h:ndB lit p=some ps) (hp:∀q∈ps,q):p:=by
 unfold ndB at h
 cases lit with
 |true=>
  cases hd:decide p with
  |true=>exact of_decide_eq_true hd
  |false=>rw[hd] at h;cases h
 |false=>cases h;exact hp p (List.mem_singleton.2 rfl)
def wth (x:A):Option (List Prop)→R2
 |some ps=>some (x,ps)
 |none=>none
theorem Gd {x z:A} {o:Option (List Prop)} {ps:List Prop} (h:wth x o=some (z,ps)):x=z∧o=some ps:=by
 cases o with
 |none=>cases h
 |some qs=>cases h;exact⟨rfl,rfl⟩
def Bhn (E:Env) (s:St) (G:Guards) (t:TypeId) (x:Operand) (f:Nat):R2:=
 match E.P.underlying t with
 | some (.struct fs)=>match fs[f]? with
  | some fd=>match J7 E.P fd.type with
   |some n=>bif Nat.beq n 0 then none else match s.ev G x with
    |some (.own i off)=>some (.own i (off+fd.offset),[])
    |some (.el i k sz off)=>some (.el i k sz (off+fd.offset),[])
    |some (.ref l)=>some (.ref (l.drop fd.offset),[])
    |some (.de i k sz off)=>some (.de i k sz (off+fd.offset),[])
    |some (.ie i k j sz off)=>some (.ie i k j sz (off+fd.offset),[])
    |_=>none
   |none=>none
  |none=>none
 |_=>none
def YP:Operand→Bool
 | .const _=>true
 |_=>false
def Bg9 (l:List UInt8) (k:Nat):Value:=Bp (l.getD k 0)
def Brw (o:Objs) (i sz:Nat):Option Nat:=match Ao i o with
 |some (.arr _ size els)=>bif Nat.beq size sz then some els.n else none
 |_=>none
def Avg (c:TC) (d:U c):Option ((c':TC)×List (U c')):=match ZG c with
 |some (col,_)=>match(enc c d)[col]? with
  |some (.sl c' l')=>some ⟨c',l'⟩
  |_=>none
 |none=>none
def Bhx (E:Env) (s:St) (G:Guards) (t:TypeId) (x i:Operand):R2:=
 match s.raw G i with
 | some (.int _ n)=>match E.P.underlying t with
  | some (.array len e)=>match J7 E.P e with
   |some sz=>match s.ev G x with
    | some (.own b off)=>bif E.lit||YP i then wth (.own b (off+n.toNat*sz)) (ndB true (0≤n∧n <(len:Int)))
      else bif Nat.beq sz 1 then some (.ownx b off len n.toNat,[0≤n∧n <(len:Int)]) else none
    |some (.el b k z off)=>wth (.el b k z (off+n.toNat*sz)) (ndB (E.lit||YP i) (0≤n∧n <(len:Int)))
    |some (.ref l)=>wth (.ref (l.drop (n.toNat*sz))) (ndB (E.lit||YP i) (0≤n∧n <(len:Int)))
    |_=>none
   |none=>none
  | some (.slice e)=>match J7 E.P e with
   | some sz=>match s.ev G x with
    |some (.sq b)=>match Brw s.o b sz with
     |some m=>wth (.el b n.toNat sz 0) (ndB E.lit (0≤n∧n <(m:Int)))
     |none=>none
    |some (.vw b z lo m _)=>match Brw s.o b sz with
     |some _=>bif Nat.beq z sz then wth (.el b (lo+n.toNat) sz 0) (ndB E.lit (0≤n∧n <(m:Int))) else none
     |none=>none
    |some (.sl c l)=>bif Nat.beq (size c) sz then wth (.ref (enc c (l.getD n.toNat (Ac c)))) (ndB E.lit (0≤n∧n <(l.length:Int))) else none
    |some (.dq b)=>match Ao b s.o with
     |some (.deep _ c l)=>bif Nat.beq (size c) sz then wth (.de b n.toNat sz 0) (ndB E.lit (0≤n∧n <(l.length:Int))) else none
     |_=>none
    | some (.iv b k)=>match Ao b s.o with
     |some (.deep _ c l)=>match Avg c (l.getD k (Ac c)) with
      |some ⟨c',l'⟩=>bif Nat.beq (size c') sz then wth (.ie b k n.toNat sz 0) (ndB E.lit (k <l.length∧0≤n∧n <(l'.length:Int))) else none
      |none=>none
     |_=>none
    |_=>none
   |none=>none
  |_=>none
 |_=>none
def Aa3 (P:Program) (t:TypeId) (l:List A):Option A:=match Bfn P t with
 |some true=>match J7 P t with
  |some n=>bif Nat.ble n l.length then some (VS (l.take n)) else none
  |none=>none
 |some false=>match l with
  |x::_=>some x
  | []=>none
 |none=>none
def Agx (E:Env) (s:St) (G:Guards) (t:TypeId) (x:Operand):R2:=
 match s.ev G x with
 | some (.own i off)=>match Ao i s.o with
  |some (.box _ cs)=>match Aa3 E.P t (cs.drop off) with
   |some z=>some (z,[])
   |none=>none
  |_=>none
 | some (.ownx i base len k)=>match Ao i s.o with
  |some (.box _ cs)=>match Bfn E.P t with
   |some false=>bif Nat.ble (base+len) cs.length then some (Bxp k 0 ((cs.drop base).take len),[k <len]) else none
   |_=>none
  |_=>none
 | some (.el i k sz off)=>match Ao i s.o with
  |some (.arr _ size els)=>bif Nat.beq size sz then(match Aa3 E.P t ((els.nth k).drop off) with
   |some z=>wth z (ndB E.lit (k <els.n))
   |none=>none) else none
  |_=>none
 |some (.ref l)=>match Aa3 E.P t l with
  |some z=>some (z,[])
  |none=>none
 | some (.de i k sz off)=>match Ao i s.o with
  |some (.deep _ c l)=>bif Nat.beq (size c) sz then(match Aa3 E.P t ((Nq i k (enc c (l.getD k (Ac c)))).drop off) with
   |some z=>wth z (ndB E.lit (k <l.length))
   |none=>none) else none
  |_=>none
 | some (.ie i k j sz off)=>match Ao i s.o with
  | some (.deep _ c l)=>match Avg c (l.getD k (Ac c)) with
   |some ⟨c',l'⟩=>bif Nat.beq (size c') sz then(match Aa3 E.P t ((enc c' (l'.getD j (Ac c'))).drop off) with
    |some z=>wth z (ndB E.lit (k <l.length∧j <l'.length))
    |none=>none) else none
   |none=>none
  |_=>none
 |_=>none
section
variable {E:Env} {Z:Base} {F:Nat→Prop} {N:Nm} {s:St} {a:Act} {R:World} {G:Guards}
theorem HC.drop {nx:Nat} (n:Nat) {l:List A} {ad:Addr} (h:HC F N nx R l ad):HC F N nx R (l.drop n) (ad.add n):=fun j x hx=>by
 rw[List.getElem?_drop] at hx
 rw[D3]
 exact h (n+j) x hx
theorem HC.cells {nx:Nat}:∀{l:List A} {ad:Addr},HC F N nx R l ad→∃vs,HL F N nx R l vs∧∀j v,vs[j]?=some v→R.cell? (ad.add j)=some v
 | [],_,_=>⟨[],HL.nil,fun j v h=>by cases j<;>cases h⟩
 | x::r,ad,h=>by
  obtain⟨⟨u,h1,h2⟩,h3⟩:=HC.cons.1 h
  obtain⟨vs,h4,h5⟩:=HC.cells h3
  refine⟨u::vs,HL.cons h2 h4,fun j v hj=>?_⟩
  cases j with
  |zero=>cases hj;rw[add_zero];exact h1
  |succ j=>
   have:=h5 j v hj
   rw[D3,Nat.add_comm] at this
   exact this
theorem Hv.own_inv {nx i off:Nat} {y:Value} (h:Hv F N nx R (.own i off) y):i <nx∧y=.pointer (some ⟨N.b i,off,none⟩):=by
 cases h with|own h=>exact⟨h,rfl⟩
theorem Hv.ownx_inv {nx i base len k:Nat} {y:Value} (h:Hv F N nx R (.ownx i base len k) y):i <nx∧y=.pointer (some ⟨N.b i,base+k,none⟩):=by
 cases h with|ownx h=>exact⟨h,rfl⟩
theorem Hv.sq_inv {nx i:Nat} {y:Value} (h:Hv F N nx R (.sq i) y):i <nx∧y=N.q i:=by
 cases h with|sq h=>exact⟨h,rfl⟩
theorem Hv.mp_inv {nx i:Nat} {y:Value} (h:Hv F N nx R (.mp i) y):i <nx∧y=.map (some (N.b i)):=by
 cases h with|mp h=>exact⟨h,rfl⟩
theorem Hv.el_inv {nx i k size off:Nat} {y:Value} (h:Hv F N nx R (.el i k size off) y):i <nx∧y=.pointer (some ((FD (N.q i)).add (k*size+off))):=by
 cases h with|el h=>exact⟨h,rfl⟩
theorem Hv.vw_inv {nx i size lo n:Nat} {full:Bool} {y:Value} (h:Hv F N nx R (.vw i size lo n full) y):i <nx∧∃a cap,y=.slice a n cap∧n≤cap∧(full=true→cap=n)∧(0 <n→a=some ((FD (N.q i)).add (lo*size))):=by
 cases h with|vw h h1 h2 h3=>exact⟨h,_,_,rfl,h1,h2,h3⟩
theorem Hv.dq_inv {nx i:Nat} {y:Value} (h:Hv F N nx R (.dq i) y):i <nx∧y=Nr (N.q i) 0:=by
 cases h with|dq h=>exact⟨h,rfl⟩
theorem Hv.iv_inv {nx i k:Nat} {y:Value} (h:Hv F N nx R (.iv i k) y):i <nx∧y=Nr (N.q i) (k+1):=by
 cases h with|iv h=>exact⟨h,rfl⟩
theorem Hv.de_inv {nx i k size off:Nat} {y:Value} (h:Hv F N nx R (.de i k size off) y):i <nx∧y=.pointer (some ((FD (Nr (N.q i) 0)).add (k*size+off))):=by
 cases h with|de h=>exact⟨h,rfl⟩
theorem Hv.ie_inv {nx i k j size off:Nat} {y:Value} (h:Hv F N nx R (.ie i k j size off) y):i <nx∧y=.pointer (some ((FD (Nr (N.q i) (k+1))).add (j*size+off))):=by
 cases h with|ie h=>exact⟨h,rfl⟩
theorem Br4 (h:Rel Z F N s a R) (hG:OJ (Bl a) G) {t:TypeId} {x:Operand} {f:Nat} {z:A} {ps:List Prop} (he:Bhn E s G t x f=some (z,ps)):
  z.plain=true∧∃y,Hv F N s.nx R z y∧∀R',(Instr.fieldAt t (a.eval x) f).run E.P R'=.ok y R':=by
 unfold Bhn at he
 split at he<;>first|(cases he;done)|skip
 rename_i fs hu
 split at he<;>first|(cases he;done)|skip
 rename_i fd hf
 split at he<;>first|(cases he;done)|skip
 rename_i n hn
 cases h0:Nat.beq n 0 with
 |true=>rw[h0] at he;cases he
 | false=>
  rw[h0] at he
  simp only[cond_false] at he
  have hn0:n≠0:=fun e=>by subst e;simp at h0
  split at he<;>first|(cases he;done)|skip
  ·rename_i i off hx
   have hx':=(Br h hG hx).2.own_inv
   cases he
   exact⟨rfl,_,.own hx'.1,fun R'=>by rw[Nl hu hf hn hn0 hx'.2,Fj]⟩
  ·rename_i i k sz off hx
   have hx':=(Br h hG hx).2.el_inv
   cases he
   exact⟨rfl,_,.el hx'.1,fun R'=>by rw[Nl hu hf hn hn0 hx'.2,D3,Nat.add_assoc]⟩
  ·rename_i l hx
   obtain⟨ad,h1,h2,h3⟩:=(Br h hG hx).2.ref_inv
   cases he
   exact⟨rfl,_,Hv.of_ref (by rw[IX];exact h2) (h3.drop _),fun R'=>Nl hu hf hn hn0 h1⟩
  ·rename_i i k sz off hx
   have hx':=(Br h hG hx).2.de_inv
   cases he
   exact⟨rfl,_,.de hx'.1,fun R'=>by rw[Nl hu hf hn hn0 hx'.2,D3,Nat.add_assoc]⟩
  ·rename_i i k j sz off hx
   have hx':=(Br h hG hx).2.ie_inv
   cases he
   exact⟨rfl,_,.ie hx'.1,fun R'=>by rw[Nl hu hf hn hn0 hx'.2,D3,Nat.add_assoc]⟩
theorem FL {e:TypeId} {size n:Nat} {v:Value} {zs:List Value} (h:OwnR R e size v n zs) (hn:0 <n):∃g c,v=.slice (some ⟨g,0,none⟩) n c∧n≤c∧FD v=⟨g,0,none⟩∧CR v=some g∧∀j u,zs[j]?=some u→R.cell? ⟨g,j,none⟩=some u:=by
 rcases h.2 with⟨_,_,h0⟩|⟨g,cap,cur,h1,h3,h4,_,h6,h7⟩
 ·omega
 ·refine⟨g,cap+1,h1,h4,by rw[h1];rfl,by rw[h1];rfl,fun j u hu=>?_⟩
  rw[F4 h3]
  rw[←h7] at hu
  rw[List.getElem?_take] at hu
  split at hu<;>first|(cases hu;done)|skip
  rwa[Array.getElem?_toList] at hu
theorem Bwb (h:HRel F N s.nx s.o R) {i sz m:Nat} (he:Brw s.o i sz=some m):i <s.nx∧∃e zs,OwnR R e sz (N.q i) m zs:=by
 unfold Brw at he
 split at he<;>first|(cases he;done)|skip
 rename_i e size els hl
 obtain⟨h1,h2⟩:=h.ob i _ hl
 cases hb:Nat.beq size sz with
 |false=>rw[hb] at he;cases he
 |true=>
  rw[hb] at he
  cases he
  obtain rfl:=Nat.eq_of_beq_eq_true hb
  obtain⟨zs,h3,_⟩:=h2
  exact⟨h1,e,zs,h3⟩
theorem getD_some {α:Type} {l:List α} {k:Nat} {d:α} (h:k <l.length):l[k]?=some (l.getD k d):=by
 rw[List.getD_eq_getElem?_getD,List.getElem?_eq_getElem h]
 rfl
theorem Afj {nx:Nat} {o:Objs} (h:HRel F N nx o R) {i:Nat} {e:TypeId} {c:TC} {l:List (U c)} (hl:Ao i o=some (.deep e c l)):
  i <nx∧∃zs,OwnR R e (size c) (Nr (N.q i) 0) l.length zs∧∀k,k <l.length→HL F N nx R (Nq i k (enc c (l.getD k (Ac c)))) ((zs.drop (k*size c)).take (size c)):=by
 obtain⟨h1,col,c',zs,h2,h3,h4,_⟩:=h.ob i _ hl
 exact⟨h1,zs,h3,fun k hk=>h4 k _ (getD_some hk)⟩
theorem Afi {nx:Nat} {o:Objs} (h:HRel F N nx o R) {i k:Nat} {e:TypeId} {c c':TC} {l:List (U c)} {l':List (U c')} (hl:Ao i o=some (.deep e c l)) (hk:k <l.length) (hi:Avg c (l.getD k (Ac c))=some ⟨c',l'⟩):
  ∃e' us,OwnR R e' (size c') (Nr (N.q i) (k+1)) l'.length us∧∀j,j <l'.length→HL F N nx R (enc c' (l'.getD j (Ac c'))) ((us.drop (j*size c')).take (size c')):=by
 obtain⟨h1,col,c1,zs,h2,h3,h4,h5,_⟩:=h.ob i _ hl
 obtain⟨l1,e',us,g1,g2,g3⟩:=h5 k _ (getD_some hk)
 unfold Avg at hi
 rw[h2] at hi
 simp only at hi
 rw[g1] at hi
 cases hi
 exact⟨e',us,g2,g3⟩
theorem Bsf (h:Rel Z F N s a R) (hG:OJ (Bl a) G) {t:TypeId} {x i:Operand} {z:A} {ps:List Prop} (he:Bhx E s G t x i=some (z,ps)) (hp:∀p∈ps,p):
  z.plain=true∧∃y,Hv F N s.nx R z y∧∀R',(Instr.indexAt t (a.eval x) (a.eval i)).run E.P R'=.ok y R':=by
 unfold Bhx at he
 split at he<;>first|(cases he;done)|skip
 rename_i k n hi
 rw[D7 h hG hi]
 split at he<;>first|(cases he;done)|skip
 ·rename_i len e hu
  split at he<;>first|(cases he;done)|skip
  rename_i sz hsz
  split at he<;>first|(cases he;done)|skip
  ·rename_i b off hx
   have hx':=(Br h hG hx).2.own_inv
   cases hc:(E.lit||YP i) with
   |true=>
    rw[hc] at he
    obtain⟨rfl,hd⟩:=Gd he
    obtain⟨h0,h1⟩:=Ka hd hp
    exact⟨rfl,_,.own hx'.1,fun R'=>by rw[Kz hu hsz hx'.2 h0 h1,Fj]⟩
   | false=>
    rw[hc] at he
    simp only[cond_false] at he
    cases hb:Nat.beq sz 1 with
    |false=>rw[hb] at he;cases he
    |true=>
     rw[hb] at he
     obtain rfl:=Nat.eq_of_beq_eq_true hb
     cases he
     obtain⟨h0,h1⟩:0≤n∧n <(len:Int):=hp _ (by simp)
     exact⟨rfl,_,.ownx hx'.1,fun R'=>by rw[Kz hu hsz hx'.2 h0 h1,Fj,Nat.mul_one]⟩
  ·rename_i b kk zz off hx
   have hx':=(Br h hG hx).2.el_inv
   obtain⟨rfl,hd⟩:=Gd he
   obtain⟨h0,h1⟩:=Ka hd hp
   exact⟨rfl,_,.el hx'.1,fun R'=>by rw[Kz hu hsz hx'.2 h0 h1,D3,Nat.add_assoc]⟩
  ·rename_i l hx
   obtain⟨ad,g1,g2,g3⟩:=(Br h hG hx).2.ref_inv
   obtain⟨rfl,hd⟩:=Gd he
   obtain⟨h0,h1⟩:=Ka hd hp
   exact⟨rfl,_,Hv.of_ref (by rw[IX];exact g2) (g3.drop _),fun R'=>Kz hu hsz g1 h0 h1⟩
 ·rename_i e hu
  split at he<;>first|(cases he;done)|skip
  rename_i sz hsz
  split at he<;>first|(cases he;done)|skip
  ·rename_i b hx
   have hx':=(Br h hG hx).2.sq_inv
   split at he<;>first|(cases he;done)|skip
   rename_i m hm
   obtain⟨rfl,hd⟩:=Gd he
   obtain⟨h0,h1⟩:=Ka hd hp
   obtain⟨g1,e',zs,g2⟩:=Bwb h.hp hm
   obtain⟨g,c,q1,q2,q3,_,_⟩:=FL g2 (by omega)
   refine⟨rfl,_,.el g1,fun R'=>?_⟩
   rw[JL hu hsz (hx'.2.trans q1) h0 h1,q3]
   rfl
  ·rename_i b zz lo m fu hx
   have hx':=(Br h hG hx).2.vw_inv
   split at he<;>first|(cases he;done)|skip
   rename_i m' hm
   cases hb:Nat.beq zz sz with
   |false=>rw[hb] at he;cases he
   |true=>
    rw[hb] at he
    obtain rfl:=Nat.eq_of_beq_eq_true hb
    obtain⟨rfl,hd⟩:=Gd he
    obtain⟨h0,h1⟩:=Ka hd hp
    obtain⟨g1,aa,c,q1,q2,_,q3⟩:=hx'
    rw[q3 (by omega)] at q1
    refine⟨rfl,_,.el g1,fun R'=>?_⟩
    rw[JL hu hsz q1 h0 h1,D3,Nat.add_zero,Nat.add_mul]
  ·rename_i c l hx
   obtain⟨aa,cap,q1,q2,q3⟩:=(Br h hG hx).2.sl_inv
   cases hb:Nat.beq (size c) sz with
   |false=>rw[hb] at he;cases he
   |true=>
    rw[hb] at he
    obtain rfl:=Nat.eq_of_beq_eq_true hb
    obtain⟨rfl,hd⟩:=Gd he
    obtain⟨h0,h1⟩:=Ka hd hp
    obtain⟨ad,rfl,q4,q5⟩:=q3 (by omega)
    have hlt:n.toNat <l.length:=by omega
    refine⟨rfl,_,Hv.of_ref (by rw[IX];exact q4) (q5 n.toNat _ ?_),fun R'=>JL hu hsz q1 h0 h1⟩
    rw[List.getD_eq_getElem?_getD,List.getElem?_eq_getElem hlt]
    rfl
  ·rename_i b hx
   have hx':=(Br h hG hx).2.dq_inv
   split at he<;>first|(cases he;done)|skip
   rename_i e' c l hl
   cases hb:Nat.beq (size c) sz with
   |false=>rw[hb] at he;cases he
   |true=>
    rw[hb] at he
    obtain rfl:=Nat.eq_of_beq_eq_true hb
    obtain⟨rfl,hd⟩:=Gd he
    obtain⟨h0,h1⟩:=Ka hd hp
    obtain⟨g1,zs,g2,_⟩:=Afj h.hp hl
    obtain⟨g,cc,q1,q2,q3,_,_⟩:=FL g2 (by omega)
    refine⟨rfl,_,.de g1,fun R'=>?_⟩
    rw[JL hu hsz (hx'.2.trans q1) h0 h1,q3]
    rfl
  ·rename_i b k hx
   have hx':=(Br h hG hx).2.iv_inv
   split at he<;>first|(cases he;done)|skip
   rename_i e' c l hl
   split at he<;>first|(cases he;done)|skip
   rename_i c' l' hin
   cases hb:Nat.beq (size c') sz with
   |false=>rw[hb] at he;cases he
   |true=>
    rw[hb] at he
    obtain rfl:=Nat.eq_of_beq_eq_true hb
    obtain⟨rfl,hd⟩:=Gd he
    obtain⟨hk,h0,h1⟩:=Ka hd hp
    obtain⟨e2,us,g2,_⟩:=Afi h.hp hl hk hin
    obtain⟨g,cc,q1,q2,q3,_,_⟩:=FL g2 (by omega)
    refine⟨rfl,_,.ie hx'.1,fun R'=>?_⟩
    rw[JL hu hsz (hx'.2.trans q1) h0 h1,q3]
    rfl
theorem Tq {nx:Nat} {t:TypeId} {l:List A} {z:A} {ad:Addr} {vs:List Value} (he:Aa3 E.P t l=some z) (hl:HL F N nx R l vs):
  ∃y,Hv F N nx R z y∧∀R',(∀j v,vs[j]?=some v→R'.cell? (ad.add j)=some v)→(loadVar t ad).run E.P R'=.ok y R':=by
 unfold Aa3 at he
 split at he<;>first|(cases he;done)|skip
 ·rename_i hr
  split at he<;>first|(cases he;done)|skip
  rename_i n hn
  cases hb:Nat.ble n l.length with
  |false=>rw[hb] at he;cases he
  | true=>
   rw[hb] at he
   cases he
   have hle:=Nat.le_of_ble_eq_true hb
   have hlen:=hl.length
   refine⟨_,YA (hl.take n),fun R' hc=>Ata hr ?_ fun j v hv=>?_⟩
   ·rw[hn,List.length_take]
    congr 1
    omega
   ·rw[List.getElem?_take] at hv
    split at hv<;>first|(cases hv;done)|skip
    exact hc j v hv
 ·rename_i hr
  split at he<;>first|(cases he;done)|skip
  cases he
  obtain⟨v,us,rfl,h1,_⟩:=hl.inv
  exact⟨v,h1,fun R' hc=>VC hr (by have:=hc 0 v rfl;rwa[add_zero] at this)⟩
theorem OM {R':World} (hb:Below R.heap.size R R') {ad:Addr} {v:Value} (h:R.cell? ad=some v):R'.cell? ad=some v:=by
 have hlt:ad.block <R.heap.size:=World.block_lt_of_cell? R ad h
 rw[World.cell?_of_block (hb.block _ hlt)]
 exact h
theorem OI {zs:List Value} {k size j:Nat} {v:Value} (h:((zs.drop (k*size)).take size)[j]?=some v):zs[k*size+j]?=some v:=by
 rw[List.getElem?_take] at h
 split at h<;>first|(cases h;done)|skip
 rwa[List.getElem?_drop] at h
theorem Bmf (h:Rel Z F N s a R) (hG:OJ (Bl a) G) {t:TypeId} {x:Operand} {z:A} {ps:List Prop} (he:Agx E s G t x=some (z,ps)) (hp:∀p∈ps,p):
  ∃y,Hv F N s.nx R z y∧∀R',Below R.heap.size R R'→(Instr.loadAt t (a.eval x)).run E.P R'=.ok y R':=by
 unfold Agx at he
 split at he<;>first|(cases he;done)|skip
 ·rename_i i off hx
  have hx':=(Br h hG hx).2.own_inv
  split at he<;>first|(cases he;done)|skip
  rename_i e cs hl
  split at he<;>first|(cases he;done)|skip
  rename_i z' hz
  cases he
  obtain⟨_,vs,g1,g2⟩:=h.hp.ob i _ hl
  obtain⟨y,q1,q2⟩:=Tq (ad:=⟨N.b i,off,none⟩) hz (g1.drop off)
  refine⟨y,q1,fun R' hb=>?_⟩
  rw[KR hx'.2]
  refine q2 R' fun j v hj=>?_
  rw[Fj,F4 (Fk g2 hb)]
  rw[List.getElem?_drop] at hj
  simpa using hj
 ·rename_i i base len k hx
  have hx':=(Br h hG hx).2.ownx_inv
  split at he<;>first|(cases he;done)|skip
  rename_i e cs hl
  split at he<;>first|(cases he;done)|skip
  rename_i hr
  cases hb:Nat.ble (base+len) cs.length with
  |false=>rw[hb] at he;cases he
  |true=>
   rw[hb] at he
   cases he
   have hk:k <len:=hp _ (by simp)
   obtain⟨_,vs,g1,g2⟩:=h.hp.ob i _ hl
   have hle:=Nat.le_of_ble_eq_true hb
   have hlen:=g1.length
   have hkv:k <((vs.drop base).take len).length:=by rw[List.length_take,List.length_drop];omega
   refine⟨((vs.drop base).take len)[k],Bm3 ((g1.drop base).take len) (Nat.zero_le _) (by rw[List.length_take,List.length_drop];omega) (by rw[Nat.sub_zero];exact List.getElem?_eq_getElem hkv),fun R' hb'=>?_⟩
   rw[KR hx'.2]
   refine VC hr ?_
   rw[F4 (Fk g2 hb')]
   have:=List.getElem?_eq_getElem hkv
   rw[List.getElem?_take,if_pos hk,List.getElem?_drop] at this
   simp[this]
 ·rename_i i k sz off hx
  have hx':=(Br h hG hx).2.el_inv
  split at he<;>first|(cases he;done)|skip
  rename_i e size els hl
  cases hb:Nat.beq size sz with
  |false=>rw[hb] at he;cases he
  |true=>
   obtain rfl:=Nat.eq_of_beq_eq_true hb
   rw[hb] at he
   simp only[cond_true] at he
   split at he<;>first|(cases he;done)|skip
   rename_i z' hz
   obtain⟨rfl,hd⟩:=Gd he
   have hk:=Ka hd hp
   obtain⟨_,zs,g1,g2⟩:=h.hp.ob i _ hl
   obtain⟨g,c,q1,_,q3,_,q5⟩:=FL g1 (by omega)
   obtain⟨y,r1,r2⟩:=Tq (ad:=(FD (N.q i)).add (k*size+off)) hz ((g2 k hk).drop off)
   refine⟨y,r1,fun R' hb'=>?_⟩
   rw[KR hx'.2]
   refine r2 R' fun j v hj=>OM hb' ?_
   rw[List.getElem?_drop] at hj
   have:=q5 _ _ (OI hj)
   rw[D3,q3,Fj,Nat.zero_add,Nat.add_assoc]
   exact this
 ·rename_i l hx
  obtain⟨ad,g1,g2,g3⟩:=(Br h hG hx).2.ref_inv
  split at he<;>first|(cases he;done)|skip
  rename_i z' hz
  cases he
  obtain⟨vs,g4,g5⟩:=g3.cells
  obtain⟨y,r1,r2⟩:=Tq (ad:=ad) hz g4
  refine⟨y,r1,fun R' hb'=>?_⟩
  rw[KR g1]
  exact r2 R' fun j v hj=>OM hb' (g5 j v hj)
 ·rename_i i k sz off hx
  have hx':=(Br h hG hx).2.de_inv
  split at he<;>first|(cases he;done)|skip
  rename_i e c l hl
  cases hb:Nat.beq (size c) sz with
  |false=>rw[hb] at he;cases he
  |true=>
   obtain rfl:=Nat.eq_of_beq_eq_true hb
   rw[hb] at he
   simp only[cond_true] at he
   split at he<;>first|(cases he;done)|skip
   rename_i z' hz
   obtain⟨rfl,hd⟩:=Gd he
   have hk:=Ka hd hp
   obtain⟨_,zs,g1,g2⟩:=Afj h.hp hl
   obtain⟨g,cc,q1,_,q3,_,q5⟩:=FL g1 (by omega)
   obtain⟨y,r1,r2⟩:=Tq (ad:=(FD (Nr (N.q i) 0)).add (k*size c+off)) hz ((g2 k hk).drop off)
   refine⟨y,r1,fun R' hb'=>?_⟩
   rw[KR hx'.2]
   refine r2 R' fun j v hj=>OM hb' ?_
   rw[List.getElem?_drop] at hj
   have:=q5 _ _ (OI hj)
   rw[D3,q3,Fj,Nat.zero_add,Nat.add_assoc]
   exact this
 ·rename_i i k m sz off hx
  have hx':=(Br h hG hx).2.ie_inv
  split at he<;>first|(cases he;done)|skip
  rename_i e c l hl
  split at he<;>first|(cases he;done)|skip
  rename_i c' l' hin
  cases hb:Nat.beq (size c') sz with
  |false=>rw[hb] at he;cases he
  |true=>
   obtain rfl:=Nat.eq_of_beq_eq_true hb
   rw[hb] at he
   simp only[cond_true] at he
   split at he<;>first|(cases he;done)|skip
   rename_i z' hz
   obtain⟨rfl,hd⟩:=Gd he
   obtain⟨hk,hm⟩:=Ka hd hp
   obtain⟨e2,us,g1,g2⟩:=Afi h.hp hl hk hin
   obtain⟨g,cc,q1,_,q3,_,q5⟩:=FL g1 (by omega)
   obtain⟨y,r1,r2⟩:=Tq (ad:=(FD (Nr (N.q i) (k+1))).add (m*size c'+off)) hz ((g2 m hm).drop off)
   refine⟨y,r1,fun R' hb'=>?_⟩
   rw[KR hx'.2]
   refine r2 R' fun j v hj=>OM hb' ?_
   rw[List.getElem?_drop] at hj
   have:=q5 _ _ (OI hj)
   rw[D3,q3,Fj,Nat.zero_add,Nat.add_assoc]
   exact this
end
end Go.Proofs.Yteebobbhhgmeiaa
namespace Go.Proofs.Yteebobbhhgmeiaa
open Go.RowKit
section runs
variable {P:Program} {R:World}
theorem J4 {k:IntKind} {i:Int} {y:Nat} {c:BoundsCode} (h0:0≤i) (h1:i≤y):(Instr.sliceBound (.int k i) y c).run P R=.ok i.toNat R:=by
 simp[Instr.sliceBound,asIntOf,h0,h1]
def VP (o:Option Value) (d i:Nat):Prop:=(o=none∧i=d)∨∃k n,o=some (.int k n)∧0≤n∧n.toNat=i
theorem A0a {b:Bool} {len cap l h m:Nat} {lo hi mx:Option Value} (hl:VP lo 0 l) (hh:VP hi len h) (hm:VP mx cap m) (hmh:mx≠none→hi≠none) (h1:l≤h) (h2:h≤m) (h3:m≤cap):
    (Instr.sliceBounds b len cap lo hi mx).run P R=.ok (l,h,m) R:=by
  rcases hl with⟨rfl,rfl⟩|⟨k1,n1,rfl,a1,rfl⟩<;>rcases hh with⟨rfl,rfl⟩|⟨k2,n2,rfl,a2,rfl⟩<;>rcases hm with⟨rfl,rfl⟩|⟨k3,n3,rfl,a3,rfl⟩<;>
    first
    |(simp[Instr.sliceBounds];done)
    |(simp at hmh;done)
    | (have e1:n1≤(h:Int):=by omega
       simp[Instr.sliceBounds,J4 a1 e1];done)
    | (have e2:n2≤(m:Int):=by omega
       simp[Instr.sliceBounds,J4 a2 e2];done)
    | (have e3:n3≤(cap:Int):=by omega
       have e2:n2≤(n3.toNat:Int):=by omega
       simp[Instr.sliceBounds,J4 a2 e2,J4 a3 e3];done)
    | (have e2:n2≤(m:Int):=by omega
       have e1:n1≤(n2.toNat:Int):=by omega
       simp[Instr.sliceBounds,J4 a2 e2,J4 a1 e1];done)
    | (have e3:n3≤(cap:Int):=by omega
       have e2:n2≤(n3.toNat:Int):=by omega
       have e1:n1≤(n2.toNat:Int):=by omega
       simp[Instr.sliceBounds,J4 a2 e2,J4 a1 e1,J4 a3 e3];done)
theorem UA {t e:TypeId} {a:Option Addr} {len cap sz l h m:Nat} {lo hi mx:Option Value} (ht:P.underlying t=some (.slice e)) (hs:J7 P e=some sz)
  (hl:VP lo 0 l) (hh:VP hi len h) (hm:VP mx cap m) (hmh:mx≠none→hi≠none) (h1:l≤h) (h2:h≤m) (h3:m≤cap):
  (Instr.sliceAt t (.slice a len cap) lo hi mx).run P R=.ok (.slice (if m=l then a else a.map (·.add (l*sz))) (h - l) (m - l)) R:=by
 unfold J7 at hs
 cases hi':P.info? e with
 |none=>rw[hi'] at hs;cases hs
 |some i=>
  rw[hi'] at hs
  obtain rfl:i.size=sz:=Option.some.inj hs
  have hb:=A0a (P:=P) (R:=R) (b:=true) hl hh hm hmh h1 h2 h3
  simp[Instr.sliceAt,Instr.slice,run_underlying ht,hb,sizeOf,typeInfo,hi']
theorem A21 {t:TypeId} {b:ByteArray} {l h:Nat} {lo hi:Option Value} (ht:P.underlying t=some .string)
  (hl:VP lo 0 l) (hh:VP hi b.size h) (h1:l≤h) (h2:h≤b.size):
  (Instr.sliceAt t (.string b) lo hi none).run P R=.ok (.string (b.extract l h)) R:=by
 have hb:=A0a (P:=P) (R:=R) (b:=false) (mx:=none) hl hh (.inl ⟨rfl,rfl⟩) (fun h=>absurd rfl h) h1 h2 (Nat.le_refl _)
 simp[Instr.sliceAt,Instr.slice,run_underlying ht,hb]
end runs
def Aue (s:St) (G:Guards) (d:Int):Option Operand→Option Int
 |none=>some d
 |some o=>match s.raw G o with
  |some (.int _ n)=>some n
  |_=>none
def Bab (o:Objs):A→Option (Nat×(Nat→Nat→Bool→A))
 | .sq i=>match Ao i o with
  |some (.arr _ sz els)=>some (els.n,fun l n f=> .vw i sz l n f)
  |_=>none
 | .vw i sz lo n _=>match Brw o i sz with
  |some _=>some (n,fun l n f=> .vw i sz (lo+l) n f)
  |none=>none
 | .sl c b=>some (b.length,fun l n _=> .sl c ((b.drop l).take n))
 |_=>none
def Bjz (o:Objs):A→Nat
 | .sq i=>match Ao i o with
  |some (.arr _ sz _)=>sz
  |_=>1
 | .vw _ sz _ _ _=>sz
 | .sl c _=>size c
 |_=>1
def Ni (E:Env) (s:St) (G:Guards) (o:Oper):R2:=match Btk E.P s G o with
 |some y=>some (.v y,[])
 |none=>none
def Yz:Option Operand→Bool
 |some (.const (.int _ (.ofNat 0)))=>true
 |_=>false
theorem Ajb {s:St} {G:Guards} {d n:Int} {o:Option Operand} (h:Yz o=true) (he:Aue s G d o=some n):n=0:=by
 unfold Yz at h
 split at h<;>first|(cases h;done)|skip
 cases he
 rfl
def Bjw (E:Env) (s:St) (G:Guards) (o:Oper) (t:TypeId) (x:Operand) (lo hi mx:Option Operand):R2:=
 match s.ev G x with
 | some (.v (.string b))=>match E.P.underlying t,mx with
  |some .string,none=>match Aue s G 0 lo,Aue s G b.size hi with
   |some l,some h=>wth (.v (.string (b.extract l.toNat h.toNat))) (ndB E.lit (0≤l∧l≤h∧h≤(b.size:Int)))
   |_,_=>none
  |_,_=>none
 |some (.v _)=>Ni E s G o
 | some (.dq i)=>match Ao i s.o,lo,E.P.underlying t with
  |some (.deep _ _ _),none,some (.slice e)=>match J7 E.P e,Aue s G 0 hi,Aue s G 0 mx with
   |some _,some _,some _=>bif Yz hi&&Yz mx then some (.nl,[]) else none
   |_,_,_=>none
  |_,_,_=>none
 | some w=>match Bab s.o w,E.P.underlying t with
  | some (n,f),some (.slice e)=>match J7 E.P e with
   | some sz=>bif Nat.beq sz (Bjz s.o w) then(match Aue s G 0 lo,Aue s G n hi,Aue s G n mx with
    |some l,some h,some m=>match mx,hi with
     |none,_=>wth (f l.toNat (h.toNat - l.toNat) false) (ndB E.lit (0≤l∧l≤h∧h≤(n:Int)))
     |some _,some _=>wth (bif Yz hi&&Yz mx then .nl else f l.toNat (h.toNat - l.toNat) (decide (m=h))) (ndB E.lit (0≤l∧l≤h∧h≤m∧m≤(n:Int)))
     |some _,none=>none
    |_,_,_=>none) else none
   |none=>none
  |_,_=>none
 |none=>none
section
variable {E:Env} {Z:Base} {F:Nat→Prop} {N:Nm} {s:St} {a:Act} {R:World} {G:Guards}
theorem VT (h:Rel Z F N s a R) (hG:OJ (Bl a) G) {d:Nat} {o:Option Operand} {n:Int} (he:Aue s G d o=some n) (h0:0≤n):VP (o.map a.eval) d n.toNat:=by
 cases o with
 |none=>cases he;exact .inl ⟨rfl,by simp⟩
 |some x=>
  unfold Aue at he
  simp only at he
  split at he<;>first|(cases he;done)|skip
  rename_i k m hr
  cases he
  exact .inr ⟨k,n,by rw[Option.map_some,D7 h hG hr],h0,rfl⟩
theorem Bnf (h:HRel F N s.nx s.o R) {w:A} {y:Value} {n:Nat} {f:Nat→Nat→Bool→A} (hv:Bab s.o w=some (n,f)) (hw:Hv F N s.nx R w y):
  ∃a c,y=.slice a n c∧n≤c∧∀l k c' (fu:Bool),l+k≤n→k≤c'→(fu=true→c'=k)→∀a',(0 <k→a'=a.map (·.add (l*Bjz s.o w)))→Hv F N s.nx R (f l k fu) (.slice a' k c'):=by
 unfold Bab at hv
 split at hv<;>first|(cases hv;done)|skip
 ·rename_i i
  obtain⟨hi,rfl⟩:=hw.sq_inv
  split at hv<;>first|(cases hv;done)|skip
  rename_i e sz els hl
  cases hv
  obtain⟨_,zs,g1,_⟩:=h.ob i _ hl
  have hsz:Bjz s.o (.sq i)=sz:=by unfold Bjz;simp only[hl]
  rw[hsz]
  obtain⟨aa,c,q1,q2⟩:=g1.form
  refine⟨aa,c,q1,q2,fun l k c' fu h1 h2 h3 a' h4=> .vw hi h2 h3 fun hk=>?_⟩
  obtain⟨g,c2,r1,_,r3,_,_⟩:=FL g1 (by omega)
  rw[h4 hk]
  rw[r1] at q1
  cases q1
  rw[r3]
  rfl
 ·rename_i i sz lo m fu0
  obtain⟨hi,aa,c,rfl,q2,_,q4⟩:=hw.vw_inv
  split at hv<;>first|(cases hv;done)|skip
  rename_i m' hm
  cases hv
  refine⟨aa,c,rfl,q2,fun l k c' fu h1 h2 h3 a' h4=> .vw hi h2 h3 fun hk=>?_⟩
  rw[h4 hk,q4 (by omega)]
  show some (((FD (N.q i)).add (lo*sz)).add (l*sz))=_
  rw[D3,Nat.add_mul]
 ·rename_i ct b
  obtain⟨aa,c,rfl,q2,q3⟩:=hw.sl_inv
  cases hv
  refine⟨aa,c,rfl,q2,fun l k c' fu h1 h2 h3 a' h4=>?_⟩
  have hlen:((b.drop l).take k).length=k:=by rw[List.length_take,List.length_drop];omega
  have main:Hv F N s.nx R (.sl ct ((b.drop l).take k)) (.slice a' ((b.drop l).take k).length c'):=by
   refine Hv.of_sl (by omega) fun hk=>?_
   rw[hlen] at hk
   obtain⟨ad,rfl,r1,r2⟩:=q3 (by omega)
   refine⟨ad.add (l*size ct),h4 hk,by rw[IX];exact r1,fun i d hd=>?_⟩
   rw[D3,←Nat.add_mul]
   refine r2 (l+i) d ?_
   rw[List.getElem?_take] at hd
   split at hd<;>first|(cases hd;done)|skip
   rwa[List.getElem?_drop] at hd
  rw[hlen] at main
  exact main
theorem Aht (h:Rel Z F N s a R) (hG:OJ (Bl a) G) {o:Oper} {z:A} {ps:List Prop} (he:Ni E s G o=some (z,ps)):∃y,Hv F N s.nx R z y∧∀R',(execOp a.eval o).run E.P R'=.ok (.value y) R':=by
 unfold Ni at he
 split at he<;>first|(cases he;done)|skip
 rename_i y hy
 cases he
 exact⟨y,Hv.v _,fun R'=>Bok h hG hy R'⟩
theorem Bt1 (h:Rel Z F N s a R) (hG:OJ (Bl a) G) {o:Oper} {t:TypeId} {x:Operand} {lo hi mx:Option Operand} (ho:o.op=.slice t x lo hi mx) {z:A} {ps:List Prop} (he:Bjw E s G o t x lo hi mx=some (z,ps)) (hp:∀p∈ps,p):
  ∃y,Hv F N s.nx R z y∧∀R',(execOp a.eval o).run E.P R'=.ok (.value y) R':=by
 have hex:execOp a.eval o=(do pure (.value (←Instr.sliceAt t (a.eval x) (lo.map a.eval) (hi.map a.eval) (mx.map a.eval)))):=by
  obtain⟨dst,op,type,pos,after,guard⟩:=o
  simp only at ho
  subst ho
  rfl
 unfold Bjw at he
 split at he<;>first|(cases he;done)|skip
 ·rename_i b hx
  split at he<;>first|(cases he;done)|skip
  rename_i hu
  split at he<;>first|(cases he;done)|skip
  rename_i l hh hl hhi
  obtain⟨rfl,hd⟩:=Gd he
  obtain⟨h0,h1,h2⟩:=Ka hd hp
  have hx':=(Br h hG hx).2.v_inv
  refine⟨_,Hv.v _,fun R'=>?_⟩
  rw[hex,hx']
  have:=A21 (P:=E.P) (R:=R') (b:=b) hu (VT h hG hl h0) (VT h hG hhi (by omega)) (by omega) (by omega)
  simp[this]
 ·exact Aht h hG he
 ·rename_i i hx
  have hx':=(Br h hG hx).2
  split at he<;>first|(cases he;done)|skip
  rename_i l0 e0 hl hu
  split at he<;>first|(cases he;done)|skip
  rename_i sz hh m hsz hhi hmx
  cases hz:Yz hi&&Yz mx with
  |false=>rw[hz] at he;cases he
  | true=>
   rw[hz] at he
   cases he
   simp only[Bool.and_eq_true] at hz
   obtain rfl:=Ajb hz.1 hhi
   obtain rfl:=Ajb hz.2 hmx
   obtain⟨_,col,c',zs,_,g1,_⟩:=h.hp.ob i _ hl
   obtain⟨aa,c,q1,q2⟩:=g1.form
   have hv:a.eval x=.slice aa l0.length c:=by
    rw[←q1]
    exact(show ∀y,Hv F N s.nx R (.dq i) y→y=Nr (N.q i) 0 from fun y hy=>by cases hy;rfl) _ hx'
   have bd:∀(d:Nat) (b:Option Operand),Yz b=true→Aue s G 0 b=some 0→VP (b.map a.eval) d 0:=fun d b hb he=>by
    rcases VT h hG he (Int.le_refl _) with⟨e1,_⟩|e2
    ·cases b with
     |none=>cases hb
     |some y=>cases e1
    ·exact .inr e2
   refine⟨.slice (if(0:Nat)=0 then aa else aa.map (·.add (0*sz))) 0 0,.nl _,fun R'=>?_⟩
   rw[hex,hv]
   have:=UA (P:=E.P) (R:=R') (a:=aa) (len:=l0.length) (cap:=c) (lo:=none) hu hsz (.inl ⟨rfl,rfl⟩) (bd l0.length hi hz.1 hhi) (bd c mx hz.2 hmx) (fun _ e=>by
    cases hi with
    |none=>cases hz.1
    |some y=>cases e) (Nat.le_refl _) (Nat.le_refl _) (Nat.zero_le _)
   simp only[Option.map_none,Sem.run_bind,this,Result.andThen_ok,Sem.run_pure]
 ·rename_i w hnv hdq hx hx0
  have hx':=(Br h hG hx0).2
  split at he<;>first|(cases he;done)|skip
  rename_i n f e hv hu
  split at he<;>first|(cases he;done)|skip
  rename_i sz hsz
  cases hb:Nat.beq sz (Bjz s.o w) with
  |false=>rw[hb] at he;cases he
  | true=>
   rw[hb] at he
   obtain rfl:=Nat.eq_of_beq_eq_true hb
   simp only[cond_true] at he
   split at he<;>first|(cases he;done)|skip
   rename_i l hh m hl hhi hmx
   obtain⟨aa,c,q1,q2,q3⟩:=Bnf h.hp hv hx'
   split at he<;>first|(cases he;done)|skip
   ·obtain⟨rfl,hd⟩:=Gd he
    obtain⟨h0,h1,h2⟩:=Ka hd hp
    refine⟨_,q3 l.toNat (hh.toNat - l.toNat) (c - l.toNat) false (by omega) (by omega) (fun e=>by cases e) (if c=l.toNat then aa else aa.map (·.add (l.toNat*Bjz s.o w))) (fun hk=>if_neg (by omega)),fun R'=>?_⟩
    rw[hex,q1]
    have:=UA (P:=E.P) (R:=R') (a:=aa) (len:=n) (cap:=c) hu hsz (VT h hG hl h0) (VT h hG hhi (by omega)) (mx:=none) (m:=c) (.inl ⟨rfl,rfl⟩) (fun h=>absurd rfl h) (by omega) (by omega) (Nat.le_refl _)
    simp only[Option.map_none,Sem.run_bind,this,Result.andThen_ok,Sem.run_pure]
   ·rename_i mo hio
    obtain⟨rfl,hd⟩:=Gd he
    obtain⟨h0,h1,h2,h3⟩:=Ka hd hp
    refine⟨.slice (if m.toNat=l.toNat then aa else aa.map (·.add (l.toNat*Bjz s.o w))) (hh.toNat - l.toNat) (m.toNat - l.toNat),?_,fun R'=>?_⟩
    ·cases hz:(Yz (some hio)&&Yz (some mo)) with
     |false=>exact q3 l.toNat (hh.toNat - l.toNat) (m.toNat - l.toNat) (decide (m=hh)) (by omega) (by omega) (fun e=>by have:=of_decide_eq_true e;omega) _ (fun hk=>if_neg (by omega))
     |true=>
      simp only[Bool.and_eq_true] at hz
      have e1:=Ajb hz.1 hhi
      have e2:=Ajb hz.2 hmx
      subst e1 e2
      rw[show(0:Int).toNat=0 from rfl,Nat.zero_sub]
      exact .nl _
    rw[hex,q1]
    have hbm:VP (Option.map a.eval (some mo)) c m.toNat:=by
     rcases VT h hG hmx (by omega) with⟨e1,_⟩|e2
     ·cases e1
     ·exact .inr e2
    have:=UA (P:=E.P) (R:=R') (a:=aa) (len:=n) (cap:=c) hu hsz (VT h hG hl h0) (VT h hG hhi (by omega)) hbm (fun _ e=>by cases e) (by omega) (by omega) (by omega)
    simp only[Sem.run_bind,this,Result.andThen_ok,Sem.run_pure]
end
end Go.Proofs.Yteebobbhhgmeiaa
namespace Go.Proofs.Yteebobbhhgmeiaa
open Go.RowKit
def Ajk:A→Option (List A)
 | .v x=>some (toL x.cells.toList)
 | .agg xs=>some xs
 | .tup _=>none
 | .opt _ _ _=>none
 | .dead=>none
 | .dq _=>none
 | .iv _ _=>none
 | .de _ _ _ _=>none
 | .ie _ _ _ _ _=>none
 | .it _ _=>none
 |x=>some [x]
def Ox:List A→Bool
 | []=>true
 | .v x::r=>bif x.oneCell' then Ox r else false
 | .agg _::_=>false
 | .tup _::_=>false
 | .opt _ _ _::_=>false
 | .dead::_=>false
 | .it _ _::_=>false
 | .dq _::_=>false
 | .iv _ _::_=>false
 | .de _ _ _ _::_=>false
 | .ie _ _ _ _ _::_=>false
 |_::r=>Ox r
section
variable {F:Nat→Prop} {N:Nm} {nx:Nat} {R:World}
theorem B1a {x:A} {y:Value} (h:Hv F N nx R x y) (hx:Ajk x=some [x]∨∃v,x=.v v∧v.oneCell'=true) (ho:Ox [x]=true) (hq:∀i,x=.sq i→∃a n c,N.q i=.slice a n c):y.oneCell'=true:=by
 cases x with
 |v u=>rw[h.v_inv];cases hu:u.oneCell' with
  |true=>rfl
  |false=>simp[Ox,hu] at ho
 |sl c l=>obtain⟨a,c,rfl,_⟩:=h.sl_inv;rfl
 |own i o=>rw[h.own_inv.2];rfl
 |ownx i b l k=>rw[h.ownx_inv.2];rfl
 |sq i=>obtain⟨a,n,c,e⟩:=hq i rfl;rw[h.sq_inv.2,e];rfl
 |vw i s l n f=>obtain⟨_,a,c,rfl,_⟩:=h.vw_inv;rfl
 |el i k s o=>rw[h.el_inv.2];rfl
 |ref l=>obtain⟨ad,rfl,_⟩:=h.ref_inv;rfl
 |mp i=>rw[h.mp_inv.2];rfl
 |nl=>obtain⟨a,rfl⟩:=h.nl_inv;rfl
 |it q vs=>simp[Ox] at ho
 |fn f a b=>obtain⟨vs,us,rfl,_⟩:=h.fn_inv;rfl
 |agg xs=>simp[Ox] at ho
 |tup xs=>simp[Ox] at ho
 |opt u b x=>simp[Ox] at ho
 |dead=>simp[Ox] at ho
 |dq i=>simp[Ox] at ho
 |iv i k=>simp[Ox] at ho
 |de i k sz o=>simp[Ox] at ho
 |ie i k j sz o=>simp[Ox] at ho
end
def UB (o:Objs):List A→Bool
 | []=>true
 | .sq i::r=>match Ao i o with
  |some (.arr _ _ _)=>UB o r
  |_=>false
 |_::r=>UB o r
section
variable {F:Nat→Prop} {N:Nm} {nx:Nat} {o:Objs} {R:World}
theorem Bt2 (h:HRel F N nx o R) {i:Nat} (hi:UB o [.sq i]=true):∃a n c,N.q i=.slice a n c:=by
 unfold UB at hi
 have form:∀{e sz n} {zs:List Value},OwnR R e sz (N.q i) n zs→∃a n c,N.q i=.slice a n c:=fun h1=>by
  obtain⟨a,c,e1,_⟩:=h1.form
  exact⟨a,_,c,e1⟩
 split at hi
 ·rename_i hl
  obtain⟨_,zs,h1,_⟩:=h.ob i _ hl
  exact form h1
 ·cases hi
theorem Axe (h:HRel F N nx o R):∀{xs:List A} {vs:List Value},Ox xs=true→UB o xs=true→HL F N nx R xs vs→∀c∈vs,c.oneCell'=true
 | [],_,_,_,hl,c,hc=>by rw[hl.inv0] at hc;cases hc
 | x::r,_,h1,h2,hl,c,hc=>by
  obtain⟨v,vs,rfl,h3,h4⟩:=hl.inv
  have hx:Ox [x]=true∧Ox r=true:=by
   cases x<;>simp only[Ox] at h1⊢<;>first|(cases h1;done)|(exact⟨trivial,h1⟩)|skip
   rename_i u
   cases hu:u.oneCell' with
   |true=>rw[hu] at h1;exact⟨rfl,h1⟩
   |false=>rw[hu] at h1;cases h1
  have hs:(∀i,x=.sq i→UB o [.sq i]=true)∧UB o r=true:=by
   cases x<;>simp only[UB] at h2⊢<;>first|(exact⟨(fun i e=>by cases e),h2⟩)|skip
   rename_i i
   split at h2
   ·rename_i hl';exact⟨fun j e=>by cases e;simp only[hl'],h2⟩
   ·cases h2
  rcases List.mem_cons.1 hc with rfl|hc
  ·refine B1a h3 ?_ hx.1 fun i e=>Bt2 h (hs.1 i e)
   cases x<;>first|(exact .inl rfl)|(simp[Ox] at hx;done)|skip
   rename_i u
   refine .inr ⟨u,rfl,?_⟩
   have:=hx.1
   simp only[Ox] at this
   cases hu:u.oneCell' with
   |true=>rfl
   |false=>rw[hu] at this;cases this
  ·exact Axe h hx.2 hs.2 h4 c hc
theorem YE (h:HRel F N nx o R) {x:A} {us:List A} {y:Value} (hc:Ajk x=some us) (hs:UB o us=true) (hx:Hv F N nx R x y):HL F N nx R us y.cells.toList:=by
 have one:y.cells.toList=[y]→us=[x]→HL F N nx R us y.cells.toList:=fun e1 e2=>by rw[e1,e2];exact HL.cons hx HL.nil
 cases x with
 |v u=>cases hc;rw[hx.v_inv];exact HL.toL _
 |agg xs=>cases hc;obtain⟨vs,rfl,h2⟩:=hx.agg_inv;simpa[Value.cells] using h2
 |tup xs=>cases hc
 |opt u b x=>cases hc
 |dead=>cases hc
 |sl c l=>cases hc;refine one ?_ rfl;obtain⟨a,c,rfl,_⟩:=hx.sl_inv;rfl
 |own i o=>cases hc;refine one ?_ rfl;rw[hx.own_inv.2];rfl
 |ownx i b l k=>cases hc;refine one ?_ rfl;rw[hx.ownx_inv.2];rfl
 |sq i=>
  cases hc
  obtain⟨a,n,c,e⟩:=Bt2 h hs
  refine one ?_ rfl
  rw[hx.sq_inv.2,e]
  rfl
 |vw i s l n f=>cases hc;refine one ?_ rfl;obtain⟨_,a,c,rfl,_⟩:=hx.vw_inv;rfl
 |el i k s o=>cases hc;refine one ?_ rfl;rw[hx.el_inv.2];rfl
 |ref l=>cases hc;refine one ?_ rfl;obtain⟨ad,rfl,_⟩:=hx.ref_inv;rfl
 |mp i=>cases hc;refine one ?_ rfl;rw[hx.mp_inv.2];rfl
 |nl=>cases hc;refine one ?_ rfl;obtain⟨a,rfl⟩:=hx.nl_inv;rfl
 |it q vs=>cases hc
 |dq i=>cases hc
 |iv i k=>cases hc
 |de i k sz o=>cases hc
 |ie i k j sz o=>cases hc
 |fn f a b=>cases hc;refine one ?_ rfl;obtain⟨vs,us,rfl,_⟩:=hx.fn_inv;rfl
end
def Bik (off:Nat) (us cs:List A):List A:=cs.take off++us++cs.drop (off+us.length)
def Bcs (place:Nat→Option (Nat×Nat)):List A→List (Nat×List A)→Option (List A)
 |cs,[]=>some cs
 |cs,(i,us)::r=>match place i with
  |some (off,size)=>bif Nat.beq us.length size then(bif Nat.ble (off+size) cs.length then Bcs place (Bik off us cs) r else none) else none
  |none=>none
theorem Bcz:∀(l:List Value) (off k:Nat) (cs:Array Value),off+k+l.length≤cs.size→
  ((l.zipIdx k).foldl (fun(cs:Array Value) (p:Value×Nat)=>cs.setIfInBounds (off+p.2) p.1) cs).toList=cs.toList.take (off+k)++l++cs.toList.drop (off+k+l.length)
 | [],off,k,cs,h=>by simp
 | x::r,off,k,cs,h=>by
  rw[List.length_cons] at h
  rw[List.zipIdx_cons,List.foldl_cons,Bcz r off (k+1) _ (by simp;omega)]
  have hlt:off+k <cs.toList.length:=by simp;omega
  simp only[Array.toList_setIfInBounds]
  rw[List.take_set,List.drop_set]
  rw[show off+(k+1)=off+k+1 by omega]
  rw[if_pos (by omega)]
  have h1:(cs.toList.take (off+k+1)).set (off+k) x=cs.toList.take (off+k)++[x]:=by
   rw[List.take_succ_eq_append_getElem hlt,List.set_append]
   have:(cs.toList.take (off+k)).length=off+k:=by rw[List.length_take];omega
   rw[if_neg (by omega),this,Nat.sub_self]
   rfl
  rw[h1,List.length_cons]
  rw[show off+k+1+r.length=off+k+(r.length+1) by omega]
  simp
theorem HL.put {F:Nat→Prop} {N:Nm} {nx:Nat} {R:World} {off:Nat} {us cs:List A} {vs ws:List Value} (h1:HL F N nx R us vs) (h2:HL F N nx R cs ws):HL F N nx R (Bik off us cs) (ws.take off++vs++ws.drop (off+vs.length)):=by
 unfold Bik
 rw[h1.length]
 exact((h2.take off).append h1).append (h2.drop _)
def Bgs (F:Nat→Prop) (N:Nm) (nx:Nat) (R:World):List (Nat×List A)→List (Nat×Value)→Prop
 | [],l=>l=[]
 |(i,us)::r,l=>∃v t,l=(i,v)::t∧HL F N nx R us v.cells.toList∧Bgs F N nx R r t
theorem Wd {F:Nat→Prop} {N:Nm} {nx:Nat} {R:World} {place:Nat→Option (Nat×Nat)}:∀{ps:List (Nat×List A)} {qs:List (Nat×Value)} {cs cs':List A} {arr:Array Value},Bcs place cs ps=some cs'→Bgs F N nx R ps qs→HL F N nx R cs arr.toList→
  ∃arr',Instr.fill place arr qs=some arr'∧HL F N nx R cs' arr'.toList
 | [],_,cs,cs',arr,h,hp,hc=>by
  have hp':_=[]:=hp
  subst hp'
  cases h
  exact⟨arr,rfl,hc⟩
 | (i,us)::r,_,cs,cs',arr,h,hp,hc=>by
  obtain⟨v,t,rfl,h1,h2⟩:=hp
  unfold Bcs at h
  split at h<;>first|(cases h;done)|skip
  rename_i off size hpl
  cases hb:Nat.beq us.length size with
  |false=>rw[hb] at h;cases h
  | true=>
   cases hb2:Nat.ble (off+size) cs.length with
   |false=>rw[hb,hb2] at h;cases h
   | true=>
    rw[hb,hb2] at h
    simp only[cond_true] at h
    obtain rfl:=Nat.eq_of_beq_eq_true hb
    have hle:=Nat.le_of_ble_eq_true hb2
    have l1:v.cells.size=us.length:=by have:=h1.length;simpa using this
    have l2:arr.size=cs.length:=by have:=hc.length;simpa using this
    have hput:=HL.put (off:=off) h1 hc
    have hfold:=Bcz v.cells.toList off 0 arr (by rw[Array.length_toList];omega)
    have e1:(v.cells.zipIdx.foldl (fun cs (c,j)=>cs.setIfInBounds (off+j) c) arr).toList=arr.toList.take off++v.cells.toList++arr.toList.drop (off+v.cells.toList.length):=by
     rw[←Array.foldl_toList,Array.toList_zipIdx]
     exact hfold
    rw[←e1] at hput
    obtain⟨arr',g1,g2⟩:=Wd h h2 hput
    refine⟨arr',?_,g2⟩
    unfold Instr.fill
    simp only[hpl]
    rw[if_neg (by simp[l1];omega)]
    exact g1
def Axj (s:St) (G:Guards):List (Nat×Operand)→Option (List (Nat×List A))
 | []=>some []
 | (i,o)::r=>match s.ev G o with
  | some x=>match Ajk x with
   |some us=>bif UB s.o us then(match Axj s G r with
    |some l=>some ((i,us)::l)
    |none=>none) else none
   |none=>none
  |none=>none
def Bmw (P:Program) (t:TypeId):Option (List A×(Nat→Option (Nat×Nat))):=match P.info? t,P.underlying t with
 |some it,some (.array _ e)=>match it.zero,P.info? e with
  |some z,some ie=>some (toL z.cells.toList,fun i=>some (i*ie.size,ie.size))
  |_,_=>none
 |some it,some (.struct fields)=>match it.zero,fields.toList.mapM (fun f=>(P.info? f.type).map fun i=>(f.offset,i.size)) with
  |some z,some places=>some (toL z.cells.toList,(places.toArray[·]?))
  |_,_=>none
 |_,_=>none
def Bg7 (E:Env) (s:St) (G:Guards) (t:TypeId) (parts:List (Nat×Operand)):R2:=match Axj s G parts with
 | some ps=>match Bmw E.P t with
  |some (z,pl)=>match Bcs pl z ps with
   |some cs=>some (VS cs,[])
   |none=>none
  |none=>none
 |none=>none
section
variable {E:Env} {Z:Base} {F:Nat→Prop} {N:Nm} {s:St} {a:Act} {R:World} {G:Guards}
theorem YZ (h:Rel Z F N s a R) (hG:OJ (Bl a) G):∀{l:List (Nat×Operand)} {ps:List (Nat×List A)},Axj s G l=some ps→Bgs F N s.nx R ps (l.map fun(i,x)=>(i,a.eval x))
 | [],ps,he=>by cases he;rfl
 | (i,o)::r,ps,he=>by
  unfold Axj at he
  split at he<;>first|(cases he;done)|skip
  rename_i x hx
  split at he<;>first|(cases he;done)|skip
  rename_i us hus
  cases hs:UB s.o us with
  |false=>rw[hs] at he;cases he
  |true=>
   rw[hs] at he
   simp only[cond_true] at he
   split at he<;>first|(cases he;done)|skip
   rename_i l' hl
   cases he
   exact⟨_,_,rfl,YE h.hp hus hs (Br h hG hx).2,YZ h hG hl⟩
theorem Brh (h:Rel Z F N s a R) (hG:OJ (Bl a) G) {t:TypeId} {parts:Array (Nat×Operand)} {z:A} {ps:List Prop} (he:Bg7 E s G t parts.toList=some (z,ps)):
  ∃y,Hv F N s.nx R z y∧∀R',(Instr.build t (parts.map fun(i,x)=>(i,a.eval x))).run E.P R'=.ok y R':=by
 unfold Bg7 at he
 split at he<;>first|(cases he;done)|skip
 rename_i ps' hps
 split at he<;>first|(cases he;done)|skip
 rename_i zz pl hpl
 split at he<;>first|(cases he;done)|skip
 rename_i cs hcs
 cases he
 have hparts:=YZ h hG hps
 have hex:∃arr':Array Value,E.P.built t (parts.map fun(i,x)=>(i,a.eval x)).toList=some arr'∧HL F N s.nx R cs arr'.toList:=by
  have hl:(parts.map fun(i,x)=>(i,a.eval x)).toList=parts.toList.map fun(i,x)=>(i,a.eval x):=by simp
  rw[hl]
  unfold Bmw at hpl
  unfold Program.built
  split at hpl
  ·rename_i it _ e hi hu
   rw[hi,hu]
   simp only
   split at hpl<;>first|(cases hpl;done)|skip
   rename_i z0 ie hz hie
   cases hpl
   rw[hz,hie]
   exact Wd hcs hparts (HL.toL _)
  ·rename_i it fields hi hu
   rw[hi,hu]
   simp only
   split at hpl<;>first|(cases hpl;done)|skip
   rename_i z0 places hz hpp
   cases hpl
   rw[hz,hpp]
   exact Wd hcs hparts (HL.toL _)
  ·cases hpl
 obtain⟨arr',h1,h2⟩:=hex
 refine⟨.agg arr',?_,fun R'=>run_build R' t _ _ h1⟩
 have:=YA h2
 rwa[Array.toArray_toList] at this
end
end Go.Proofs.Yteebobbhhgmeiaa
namespace Go.Proofs.Yteebobbhhgmeiaa
open Go.RowKit
section
variable (F:Nat→Prop) (N:Nm) (nx:Nat) (R:World)
def HLs (l l':List A):Prop:=∀vs,HL F N nx R l vs→HL F N nx R l' vs
variable {F:Nat→Prop} {N:Nm} {nx:Nat} {R:World}
theorem HLs.refl (l:List A):HLs F N nx R l l:=fun _ h=>h
theorem HLs.cons {l r r':List A} {x:A} (h:HLs F N nx R l (x::r)) (k:HLs F N nx R r r'):HLs F N nx R l (x::r'):=fun vs hv=>by
 obtain⟨v,us,rfl,h1,h2⟩:=(h vs hv).inv
 exact HL.cons h1 (k us h2)
theorem Ah {α β:Type} {g:Got α} {f:α→List A→List Prop→Option β} {y:β} (h:g.thn f=some y):∃x r ps,g=some (x,r,ps)∧f x r ps=some y:=by
 unfold Got.thn at h
 split at h<;>first|(cases h;done)|skip
 exact⟨_,_,_,rfl,h⟩
theorem BD {α:Type} {r:List A} {x y:α} {ps qs:List Prop} (h:O0 r x ps=some (y,qs)):r=[]∧x=y∧ps=qs:=by
 unfold O0 at h
 split at h<;>first|(cases h;done)|skip
 cases h
 exact⟨rfl,rfl,rfl⟩
theorem Dq {l r:List A} {ps qs:List Prop} {n:Int} (h:gI l ps=some (n,r,qs)) (hq:∀q∈qs,q):(∀q∈ps,q)∧HLs F N nx R l (.v (.int .i64 n)::r):=by
 obtain⟨rfl,rfl⟩:=B2i h;exact⟨hq,.refl _⟩
theorem B2m {l r:List A} {ps qs:List Prop} {n:Int} (h:gW l ps=some (n,r,qs)) (hq:∀q∈qs,q):(∀q∈ps,q)∧HLs F N nx R l (.v (.int .u32 n)::r):=by
 obtain⟨rfl,rfl⟩:=B2n h;exact⟨hq,.refl _⟩
theorem Bc1 {l r:List A} {ps qs:List Prop} {n:Bool} (h:gB l ps=some (n,r,qs)) (hq:∀q∈qs,q):(∀q∈ps,q)∧HLs F N nx R l (.v (.bool n)::r):=by
 obtain⟨rfl,rfl⟩:=B2h h;exact⟨hq,.refl _⟩
theorem KX {l r:List A} {ps qs:List Prop} {n:ByteArray} (h:gT l ps=some (n,r,qs)) (hq:∀q∈qs,q):(∀q∈ps,q)∧HLs F N nx R l (.v (.string n)::r):=by
 obtain⟨rfl,rfl⟩:=B2k h;exact⟨hq,.refl _⟩
theorem F6 {l r:List A} {ps qs:List Prop} {n:UInt8} (h:gU l ps=some (n,r,qs)) (hq:∀q∈qs,q):(∀q∈ps,q)∧HLs F N nx R l (.v (Bp n)::r):=by
 obtain⟨rfl,h2⟩:=B2l h hq;exact⟨h2,.refl _⟩
theorem UY {c:TC} {l r:List A} {ps qs:List Prop} {n:List (U c)} (h:gL c l ps=some (n,r,qs)) (hq:∀q∈qs,q):(∀q∈ps,q)∧HLs F N nx R l (.sl c n::r):=by
 obtain⟨h1,rfl⟩:=B2j h
 refine⟨hq,?_⟩
 rcases h1 with rfl|⟨rfl|rfl,rfl⟩
 ·exact .refl _
 ·intro vs hv
  obtain⟨v,us,rfl,h1,h2⟩:=hv.inv
  exact HL.cons (Hv.sl_nil (a:=none) h1.v_inv) h2
 ·intro vs hv
  obtain⟨v,us,rfl,h1,h2⟩:=hv.inv
  obtain⟨a,e⟩:=h1.nl_inv
  exact HL.cons (Hv.sl_nil e) h2
theorem A6o {c:TC} {cs:List A} {d:U c} {ps:List Prop} (h:YG c cs=some (d,ps)) (hp:∀p∈ps,p):HLs F N nx R cs (enc c d):=by
 cases c with
 |u8=>
  unfold YG at h
  obtain⟨x0,r0,p0,h0,h⟩:=Ah h
  obtain⟨e0,e1,e2⟩:=BD h
  subst e0 e1 e2
  obtain⟨hp,s0⟩:=F6 (F:=F) (N:=N) (nx:=nx) (R:=R) h0 hp
  exact s0.cons (.refl _)
 |i64=>
  unfold YG at h
  obtain⟨x0,r0,p0,h0,h⟩:=Ah h
  obtain⟨e0,e1,e2⟩:=BD h
  subst e0 e1 e2
  obtain⟨hp,s0⟩:=Dq (F:=F) (N:=N) (nx:=nx) (R:=R) h0 hp
  exact s0.cons (.refl _)
 |u32=>
  unfold YG at h
  obtain⟨x0,r0,p0,h0,h⟩:=Ah h
  obtain⟨e0,e1,e2⟩:=BD h
  subst e0 e1 e2
  obtain⟨hp,s0⟩:=B2m (F:=F) (N:=N) (nx:=nx) (R:=R) h0 hp
  exact s0.cons (.refl _)
 |bool=>
  unfold YG at h
  obtain⟨x0,r0,p0,h0,h⟩:=Ah h
  obtain⟨e0,e1,e2⟩:=BD h
  subst e0 e1 e2
  obtain⟨hp,s0⟩:=Bc1 (F:=F) (N:=N) (nx:=nx) (R:=R) h0 hp
  exact s0.cons (.refl _)
 |str=>
  unfold YG at h
  obtain⟨x0,r0,p0,h0,h⟩:=Ah h
  obtain⟨e0,e1,e2⟩:=BD h
  subst e0 e1 e2
  obtain⟨hp,s0⟩:=KX (F:=F) (N:=N) (nx:=nx) (R:=R) h0 hp
  exact s0.cons (.refl _)
 |vec=>
  unfold YG at h
  obtain⟨x0,r0,p0,h0,h⟩:=Ah h
  obtain⟨x1,r1,p1,h1,h⟩:=Ah h
  obtain⟨e0,e1,e2⟩:=BD h
  subst e0 e1 e2
  obtain⟨hp,s1⟩:=Dq (F:=F) (N:=N) (nx:=nx) (R:=R) h1 hp
  obtain⟨hp,s0⟩:=Dq (F:=F) (N:=N) (nx:=nx) (R:=R) h0 hp
  exact s0.cons (s1.cons (.refl _))
 |stamp=>
  unfold YG at h
  obtain⟨x0,r0,p0,h0,h⟩:=Ah h
  obtain⟨x1,r1,p1,h1,h⟩:=Ah h
  obtain⟨e0,e1,e2⟩:=BD h
  subst e0 e1 e2
  obtain⟨hp,s1⟩:=Dq (F:=F) (N:=N) (nx:=nx) (R:=R) h1 hp
  obtain⟨hp,s0⟩:=Dq (F:=F) (N:=N) (nx:=nx) (R:=R) h0 hp
  exact s0.cons (s1.cons (.refl _))
 |cell=>
  unfold YG at h
  obtain⟨x0,r0,p0,h0,h⟩:=Ah h
  obtain⟨x1,r1,p1,h1,h⟩:=Ah h
  obtain⟨x2,r2,p2,h2,h⟩:=Ah h
  obtain⟨x3,r3,p3,h3,h⟩:=Ah h
  obtain⟨x4,r4,p4,h4,h⟩:=Ah h
  obtain⟨x5,r5,p5,h5,h⟩:=Ah h
  obtain⟨x6,r6,p6,h6,h⟩:=Ah h
  obtain⟨x7,r7,p7,h7,h⟩:=Ah h
  obtain⟨e0,e1,e2⟩:=BD h
  subst e0 e1 e2
  obtain⟨hp,s7⟩:=Dq (F:=F) (N:=N) (nx:=nx) (R:=R) h7 hp
  obtain⟨hp,s6⟩:=Dq (F:=F) (N:=N) (nx:=nx) (R:=R) h6 hp
  obtain⟨hp,s5⟩:=KX (F:=F) (N:=N) (nx:=nx) (R:=R) h5 hp
  obtain⟨hp,s4⟩:=Bc1 (F:=F) (N:=N) (nx:=nx) (R:=R) h4 hp
  obtain⟨hp,s3⟩:=Dq (F:=F) (N:=N) (nx:=nx) (R:=R) h3 hp
  obtain⟨hp,s2⟩:=Dq (F:=F) (N:=N) (nx:=nx) (R:=R) h2 hp
  obtain⟨hp,s1⟩:=Dq (F:=F) (N:=N) (nx:=nx) (R:=R) h1 hp
  obtain⟨hp,s0⟩:=Dq (F:=F) (N:=N) (nx:=nx) (R:=R) h0 hp
  exact s0.cons (s1.cons (s2.cons (s3.cons (s4.cons (s5.cons (s6.cons (s7.cons (.refl _))))))))
 |row=>
  unfold YG at h
  obtain⟨x0,r0,p0,h0,h⟩:=Ah h
  obtain⟨x1,r1,p1,h1,h⟩:=Ah h
  obtain⟨e0,e1,e2⟩:=BD h
  subst e0 e1 e2
  obtain⟨hp,s1⟩:=UY (F:=F) (N:=N) (nx:=nx) (R:=R) h1 hp
  obtain⟨hp,s0⟩:=KX (F:=F) (N:=N) (nx:=nx) (R:=R) h0 hp
  exact s0.cons (s1.cons (.refl _))
 |group=>
  unfold YG at h
  obtain⟨x0,r0,p0,h0,h⟩:=Ah h
  obtain⟨x1,r1,p1,h1,h⟩:=Ah h
  obtain⟨e0,e1,e2⟩:=BD h
  subst e0 e1 e2
  obtain⟨hp,s1⟩:=Dq (F:=F) (N:=N) (nx:=nx) (R:=R) h1 hp
  obtain⟨hp,s0⟩:=KX (F:=F) (N:=N) (nx:=nx) (R:=R) h0 hp
  exact s0.cons (s1.cons (.refl _))
 |write=>
  unfold YG at h
  obtain⟨x0,r0,p0,h0,h⟩:=Ah h
  obtain⟨x1,r1,p1,h1,h⟩:=Ah h
  obtain⟨x2,r2,p2,h2,h⟩:=Ah h
  obtain⟨x3,r3,p3,h3,h⟩:=Ah h
  obtain⟨e0,e1,e2⟩:=BD h
  subst e0 e1 e2
  obtain⟨hp,s3⟩:=KX (F:=F) (N:=N) (nx:=nx) (R:=R) h3 hp
  obtain⟨hp,s2⟩:=Bc1 (F:=F) (N:=N) (nx:=nx) (R:=R) h2 hp
  obtain⟨hp,s1⟩:=Dq (F:=F) (N:=N) (nx:=nx) (R:=R) h1 hp
  obtain⟨hp,s0⟩:=KX (F:=F) (N:=N) (nx:=nx) (R:=R) h0 hp
  exact s0.cons (s1.cons (s2.cons (s3.cons (.refl _))))
 |change=>
  unfold YG at h
  obtain⟨x0,r0,p0,h0,h⟩:=Ah h
  obtain⟨x1,r1,p1,h1,h⟩:=Ah h
  obtain⟨x2,r2,p2,h2,h⟩:=Ah h
  obtain⟨x3,r3,p3,h3,h⟩:=Ah h
  obtain⟨x4,r4,p4,h4,h⟩:=Ah h
  obtain⟨x5,r5,p5,h5,h⟩:=Ah h
  obtain⟨x6,r6,p6,h6,h⟩:=Ah h
  obtain⟨e0,e1,e2⟩:=BD h
  subst e0 e1 e2
  obtain⟨hp,s6⟩:=UY (F:=F) (N:=N) (nx:=nx) (R:=R) h6 hp
  obtain⟨hp,s5⟩:=Dq (F:=F) (N:=N) (nx:=nx) (R:=R) h5 hp
  obtain⟨hp,s4⟩:=Dq (F:=F) (N:=N) (nx:=nx) (R:=R) h4 hp
  obtain⟨hp,s3⟩:=Dq (F:=F) (N:=N) (nx:=nx) (R:=R) h3 hp
  obtain⟨hp,s2⟩:=Dq (F:=F) (N:=N) (nx:=nx) (R:=R) h2 hp
  obtain⟨hp,s1⟩:=Dq (F:=F) (N:=N) (nx:=nx) (R:=R) h1 hp
  obtain⟨hp,s0⟩:=Dq (F:=F) (N:=N) (nx:=nx) (R:=R) h0 hp
  exact s0.cons (s1.cons (s2.cons (s3.cons (s4.cons (s5.cons (s6.cons (.refl _)))))))
 |field=>
  unfold YG at h
  obtain⟨x0,r0,p0,h0,h⟩:=Ah h
  obtain⟨x1,r1,p1,h1,h⟩:=Ah h
  obtain⟨e0,e1,e2⟩:=BD h
  subst e0 e1 e2
  obtain⟨hp,s1⟩:=KX (F:=F) (N:=N) (nx:=nx) (R:=R) h1 hp
  obtain⟨hp,s0⟩:=Dq (F:=F) (N:=N) (nx:=nx) (R:=R) h0 hp
  exact s0.cons (s1.cons (.refl _))
 |view=>
  unfold YG at h
  obtain⟨x0,r0,p0,h0,h⟩:=Ah h
  obtain⟨x1,r1,p1,h1,h⟩:=Ah h
  obtain⟨e0,e1,e2⟩:=BD h
  subst e0 e1 e2
  obtain⟨hp,s1⟩:=UY (F:=F) (N:=N) (nx:=nx) (R:=R) h1 hp
  obtain⟨hp,s0⟩:=KX (F:=F) (N:=N) (nx:=nx) (R:=R) h0 hp
  exact s0.cons (s1.cons (.refl _))
 |told=>
  unfold YG at h
  obtain⟨x0,r0,p0,h0,h⟩:=Ah h
  obtain⟨x1,r1,p1,h1,h⟩:=Ah h
  obtain⟨x2,r2,p2,h2,h⟩:=Ah h
  obtain⟨e0,e1,e2⟩:=BD h
  subst e0 e1 e2
  obtain⟨hp,s2⟩:=Dq (F:=F) (N:=N) (nx:=nx) (R:=R) h2 hp
  obtain⟨hp,s1⟩:=Dq (F:=F) (N:=N) (nx:=nx) (R:=R) h1 hp
  obtain⟨hp,s0⟩:=Dq (F:=F) (N:=N) (nx:=nx) (R:=R) h0 hp
  exact s0.cons (s1.cons (s2.cons (.refl _)))
 |act=>
  unfold YG at h
  obtain⟨x0,r0,p0,h0,h⟩:=Ah h
  obtain⟨x1,r1,p1,h1,h⟩:=Ah h
  obtain⟨x2,r2,p2,h2,h⟩:=Ah h
  obtain⟨x3,r3,p3,h3,h⟩:=Ah h
  obtain⟨x4,r4,p4,h4,h⟩:=Ah h
  obtain⟨e0,e1,e2⟩:=BD h
  subst e0 e1 e2
  obtain⟨hp,s4⟩:=Dq (F:=F) (N:=N) (nx:=nx) (R:=R) h4 hp
  obtain⟨hp,s3⟩:=KX (F:=F) (N:=N) (nx:=nx) (R:=R) h3 hp
  obtain⟨hp,s2⟩:=UY (F:=F) (N:=N) (nx:=nx) (R:=R) h2 hp
  obtain⟨hp,s1⟩:=KX (F:=F) (N:=N) (nx:=nx) (R:=R) h1 hp
  obtain⟨hp,s0⟩:=Dq (F:=F) (N:=N) (nx:=nx) (R:=R) h0 hp
  exact s0.cons (s1.cons (s2.cons (s3.cons (s4.cons (.refl _)))))
 |front=>
  unfold YG at h
  obtain⟨x0,r0,p0,h0,h⟩:=Ah h
  obtain⟨x1,r1,p1,h1,h⟩:=Ah h
  obtain⟨x2,r2,p2,h2,h⟩:=Ah h
  obtain⟨x3,r3,p3,h3,h⟩:=Ah h
  obtain⟨x4,r4,p4,h4,h⟩:=Ah h
  obtain⟨e0,e1,e2⟩:=BD h
  subst e0 e1 e2
  obtain⟨hp,s4⟩:=Dq (F:=F) (N:=N) (nx:=nx) (R:=R) h4 hp
  obtain⟨hp,s3⟩:=Dq (F:=F) (N:=N) (nx:=nx) (R:=R) h3 hp
  obtain⟨hp,s2⟩:=Dq (F:=F) (N:=N) (nx:=nx) (R:=R) h2 hp
  obtain⟨hp,s1⟩:=Dq (F:=F) (N:=N) (nx:=nx) (R:=R) h1 hp
  obtain⟨hp,s0⟩:=Dq (F:=F) (N:=N) (nx:=nx) (R:=R) h0 hp
  exact s0.cons (s1.cons (s2.cons (s3.cons (s4.cons (.refl _)))))
 |ask=>
  unfold YG at h
  obtain⟨x0,r0,p0,h0,h⟩:=Ah h
  obtain⟨x1,r1,p1,h1,h⟩:=Ah h
  obtain⟨x2,r2,p2,h2,h⟩:=Ah h
  obtain⟨x3,r3,p3,h3,h⟩:=Ah h
  obtain⟨x4,r4,p4,h4,h⟩:=Ah h
  obtain⟨x5,r5,p5,h5,h⟩:=Ah h
  obtain⟨e0,e1,e2⟩:=BD h
  subst e0 e1 e2
  obtain⟨hp,s5⟩:=KX (F:=F) (N:=N) (nx:=nx) (R:=R) h5 hp
  obtain⟨hp,s4⟩:=Bc1 (F:=F) (N:=N) (nx:=nx) (R:=R) h4 hp
  obtain⟨hp,s3⟩:=Dq (F:=F) (N:=N) (nx:=nx) (R:=R) h3 hp
  obtain⟨hp,s2⟩:=Dq (F:=F) (N:=N) (nx:=nx) (R:=R) h2 hp
  obtain⟨hp,s1⟩:=Dq (F:=F) (N:=N) (nx:=nx) (R:=R) h1 hp
  obtain⟨hp,s0⟩:=Dq (F:=F) (N:=N) (nx:=nx) (R:=R) h0 hp
  exact s0.cons (s1.cons (s2.cons (s3.cons (s4.cons (s5.cons (.refl _))))))
 |two=>
  unfold YG at h
  obtain⟨x0,r0,p0,h0,h⟩:=Ah h
  obtain⟨x1,r1,p1,h1,h⟩:=Ah h
  obtain⟨x2,r2,p2,h2,h⟩:=Ah h
  obtain⟨x3,r3,p3,h3,h⟩:=Ah h
  obtain⟨x4,r4,p4,h4,h⟩:=Ah h
  obtain⟨x5,r5,p5,h5,h⟩:=Ah h
  obtain⟨x6,r6,p6,h6,h⟩:=Ah h
  obtain⟨x7,r7,p7,h7,h⟩:=Ah h
  obtain⟨x8,r8,p8,h8,h⟩:=Ah h
  obtain⟨x9,r9,p9,h9,h⟩:=Ah h
  obtain⟨x10,r10,p10,h10,h⟩:=Ah h
  obtain⟨e0,e1,e2⟩:=BD h
  subst e0 e1 e2
  obtain⟨hp,s10⟩:=Dq (F:=F) (N:=N) (nx:=nx) (R:=R) h10 hp
  obtain⟨hp,s9⟩:=Dq (F:=F) (N:=N) (nx:=nx) (R:=R) h9 hp
  obtain⟨hp,s8⟩:=KX (F:=F) (N:=N) (nx:=nx) (R:=R) h8 hp
  obtain⟨hp,s7⟩:=Bc1 (F:=F) (N:=N) (nx:=nx) (R:=R) h7 hp
  obtain⟨hp,s6⟩:=Dq (F:=F) (N:=N) (nx:=nx) (R:=R) h6 hp
  obtain⟨hp,s5⟩:=Dq (F:=F) (N:=N) (nx:=nx) (R:=R) h5 hp
  obtain⟨hp,s4⟩:=Dq (F:=F) (N:=N) (nx:=nx) (R:=R) h4 hp
  obtain⟨hp,s3⟩:=Dq (F:=F) (N:=N) (nx:=nx) (R:=R) h3 hp
  obtain⟨hp,s2⟩:=Dq (F:=F) (N:=N) (nx:=nx) (R:=R) h2 hp
  obtain⟨hp,s1⟩:=UY (F:=F) (N:=N) (nx:=nx) (R:=R) h1 hp
  obtain⟨hp,s0⟩:=KX (F:=F) (N:=N) (nx:=nx) (R:=R) h0 hp
  exact s0.cons (s1.cons (s2.cons (s3.cons (s4.cons (s5.cons (s6.cons (s7.cons (s8.cons (s9.cons (s10.cons (.refl _)))))))))))
 |note=>
  unfold YG at h
  obtain⟨x0,r0,p0,h0,h⟩:=Ah h
  obtain⟨x1,r1,p1,h1,h⟩:=Ah h
  obtain⟨e0,e1,e2⟩:=BD h
  subst e0 e1 e2
  obtain⟨hp,s1⟩:=KX (F:=F) (N:=N) (nx:=nx) (R:=R) h1 hp
  obtain⟨hp,s0⟩:=KX (F:=F) (N:=N) (nx:=nx) (R:=R) h0 hp
  exact s0.cons (s1.cons (.refl _))
 |packet=>
  unfold YG at h
  obtain⟨x0,r0,p0,h0,h⟩:=Ah h
  obtain⟨x1,r1,p1,h1,h⟩:=Ah h
  obtain⟨e0,e1,e2⟩:=BD h
  subst e0 e1 e2
  obtain⟨hp,s1⟩:=KX (F:=F) (N:=N) (nx:=nx) (R:=R) h1 hp
  obtain⟨hp,s0⟩:=Dq (F:=F) (N:=N) (nx:=nx) (R:=R) h0 hp
  exact s0.cons (s1.cons (.refl _))
 |place=>
  unfold YG at h
  obtain⟨x0,r0,p0,h0,h⟩:=Ah h
  obtain⟨x1,r1,p1,h1,h⟩:=Ah h
  obtain⟨e0,e1,e2⟩:=BD h
  subst e0 e1 e2
  obtain⟨hp,s1⟩:=Dq (F:=F) (N:=N) (nx:=nx) (R:=R) h1 hp
  obtain⟨hp,s0⟩:=KX (F:=F) (N:=N) (nx:=nx) (R:=R) h0 hp
  exact s0.cons (s1.cons (.refl _))
 |ask3=>
  unfold YG at h
  obtain⟨x0,r0,p0,h0,h⟩:=Ah h
  obtain⟨x1,r1,p1,h1,h⟩:=Ah h
  obtain⟨x2,r2,p2,h2,h⟩:=Ah h
  obtain⟨x3,r3,p3,h3,h⟩:=Ah h
  obtain⟨e0,e1,e2⟩:=BD h
  subst e0 e1 e2
  obtain⟨hp,s3⟩:=Dq (F:=F) (N:=N) (nx:=nx) (R:=R) h3 hp
  obtain⟨hp,s2⟩:=KX (F:=F) (N:=N) (nx:=nx) (R:=R) h2 hp
  obtain⟨hp,s1⟩:=KX (F:=F) (N:=N) (nx:=nx) (R:=R) h1 hp
  obtain⟨hp,s0⟩:=KX (F:=F) (N:=N) (nx:=nx) (R:=R) h0 hp
  exact s0.cons (s1.cons (s2.cons (s3.cons (.refl _))))
 |three=>
  unfold YG at h
  obtain⟨x0,r0,p0,h0,h⟩:=Ah h
  obtain⟨x1,r1,p1,h1,h⟩:=Ah h
  obtain⟨x2,r2,p2,h2,h⟩:=Ah h
  obtain⟨e0,e1,e2⟩:=BD h
  subst e0 e1 e2
  obtain⟨hp,s2⟩:=UY (F:=F) (N:=N) (nx:=nx) (R:=R) h2 hp
  obtain⟨hp,s1⟩:=UY (F:=F) (N:=N) (nx:=nx) (R:=R) h1 hp
  obtain⟨hp,s0⟩:=UY (F:=F) (N:=N) (nx:=nx) (R:=R) h0 hp
  exact s0.cons (s1.cons (s2.cons (.refl _)))
 |bytes=>
  unfold YG at h
  obtain⟨x0,r0,p0,h0,h⟩:=Ah h
  obtain⟨e0,e1,e2⟩:=BD h
  subst e0 e1 e2
  obtain⟨hp,s0⟩:=UY (F:=F) (N:=N) (nx:=nx) (R:=R) h0 hp
  exact s0.cons (.refl _)
 |ints=>
  unfold YG at h
  obtain⟨x0,r0,p0,h0,h⟩:=Ah h
  obtain⟨e0,e1,e2⟩:=BD h
  subst e0 e1 e2
  obtain⟨hp,s0⟩:=UY (F:=F) (N:=N) (nx:=nx) (R:=R) h0 hp
  exact s0.cons (.refl _)
 |cells=>
  unfold YG at h
  obtain⟨x0,r0,p0,h0,h⟩:=Ah h
  obtain⟨e0,e1,e2⟩:=BD h
  subst e0 e1 e2
  obtain⟨hp,s0⟩:=UY (F:=F) (N:=N) (nx:=nx) (R:=R) h0 hp
  exact s0.cons (.refl _)
 |rows=>
  unfold YG at h
  obtain⟨x0,r0,p0,h0,h⟩:=Ah h
  obtain⟨e0,e1,e2⟩:=BD h
  subst e0 e1 e2
  obtain⟨hp,s0⟩:=UY (F:=F) (N:=N) (nx:=nx) (R:=R) h0 hp
  exact s0.cons (.refl _)
 |digest=>
  unfold YG at h
  obtain⟨x0,r0,p0,h0,h⟩:=Ah h
  obtain⟨x1,r1,p1,h1,h⟩:=Ah h
  obtain⟨x2,r2,p2,h2,h⟩:=Ah h
  obtain⟨x3,r3,p3,h3,h⟩:=Ah h
  obtain⟨x4,r4,p4,h4,h⟩:=Ah h
  obtain⟨x5,r5,p5,h5,h⟩:=Ah h
  obtain⟨x6,r6,p6,h6,h⟩:=Ah h
  obtain⟨x7,r7,p7,h7,h⟩:=Ah h
  obtain⟨x8,r8,p8,h8,h⟩:=Ah h
  obtain⟨x9,r9,p9,h9,h⟩:=Ah h
  obtain⟨x10,r10,p10,h10,h⟩:=Ah h
  obtain⟨x11,r11,p11,h11,h⟩:=Ah h
  obtain⟨x12,r12,p12,h12,h⟩:=Ah h
  obtain⟨x13,r13,p13,h13,h⟩:=Ah h
  obtain⟨x14,r14,p14,h14,h⟩:=Ah h
  obtain⟨x15,r15,p15,h15,h⟩:=Ah h
  obtain⟨x16,r16,p16,h16,h⟩:=Ah h
  obtain⟨x17,r17,p17,h17,h⟩:=Ah h
  obtain⟨x18,r18,p18,h18,h⟩:=Ah h
  obtain⟨x19,r19,p19,h19,h⟩:=Ah h
  obtain⟨x20,r20,p20,h20,h⟩:=Ah h
  obtain⟨x21,r21,p21,h21,h⟩:=Ah h
  obtain⟨x22,r22,p22,h22,h⟩:=Ah h
  obtain⟨x23,r23,p23,h23,h⟩:=Ah h
  obtain⟨x24,r24,p24,h24,h⟩:=Ah h
  obtain⟨x25,r25,p25,h25,h⟩:=Ah h
  obtain⟨x26,r26,p26,h26,h⟩:=Ah h
  obtain⟨x27,r27,p27,h27,h⟩:=Ah h
  obtain⟨x28,r28,p28,h28,h⟩:=Ah h
  obtain⟨x29,r29,p29,h29,h⟩:=Ah h
  obtain⟨x30,r30,p30,h30,h⟩:=Ah h
  obtain⟨x31,r31,p31,h31,h⟩:=Ah h
  obtain⟨e0,e1,e2⟩:=BD h
  subst e0 e1 e2
  obtain⟨hp,s31⟩:=F6 (F:=F) (N:=N) (nx:=nx) (R:=R) h31 hp
  obtain⟨hp,s30⟩:=F6 (F:=F) (N:=N) (nx:=nx) (R:=R) h30 hp
  obtain⟨hp,s29⟩:=F6 (F:=F) (N:=N) (nx:=nx) (R:=R) h29 hp
  obtain⟨hp,s28⟩:=F6 (F:=F) (N:=N) (nx:=nx) (R:=R) h28 hp
  obtain⟨hp,s27⟩:=F6 (F:=F) (N:=N) (nx:=nx) (R:=R) h27 hp
  obtain⟨hp,s26⟩:=F6 (F:=F) (N:=N) (nx:=nx) (R:=R) h26 hp
  obtain⟨hp,s25⟩:=F6 (F:=F) (N:=N) (nx:=nx) (R:=R) h25 hp
  obtain⟨hp,s24⟩:=F6 (F:=F) (N:=N) (nx:=nx) (R:=R) h24 hp
  obtain⟨hp,s23⟩:=F6 (F:=F) (N:=N) (nx:=nx) (R:=R) h23 hp
  obtain⟨hp,s22⟩:=F6 (F:=F) (N:=N) (nx:=nx) (R:=R) h22 hp
  obtain⟨hp,s21⟩:=F6 (F:=F) (N:=N) (nx:=nx) (R:=R) h21 hp
  obtain⟨hp,s20⟩:=F6 (F:=F) (N:=N) (nx:=nx) (R:=R) h20 hp
  obtain⟨hp,s19⟩:=F6 (F:=F) (N:=N) (nx:=nx) (R:=R) h19 hp
  obtain⟨hp,s18⟩:=F6 (F:=F) (N:=N) (nx:=nx) (R:=R) h18 hp
  obtain⟨hp,s17⟩:=F6 (F:=F) (N:=N) (nx:=nx) (R:=R) h17 hp
  obtain⟨hp,s16⟩:=F6 (F:=F) (N:=N) (nx:=nx) (R:=R) h16 hp
  obtain⟨hp,s15⟩:=F6 (F:=F) (N:=N) (nx:=nx) (R:=R) h15 hp
  obtain⟨hp,s14⟩:=F6 (F:=F) (N:=N) (nx:=nx) (R:=R) h14 hp
  obtain⟨hp,s13⟩:=F6 (F:=F) (N:=N) (nx:=nx) (R:=R) h13 hp
  obtain⟨hp,s12⟩:=F6 (F:=F) (N:=N) (nx:=nx) (R:=R) h12 hp
  obtain⟨hp,s11⟩:=F6 (F:=F) (N:=N) (nx:=nx) (R:=R) h11 hp
  obtain⟨hp,s10⟩:=F6 (F:=F) (N:=N) (nx:=nx) (R:=R) h10 hp
  obtain⟨hp,s9⟩:=F6 (F:=F) (N:=N) (nx:=nx) (R:=R) h9 hp
  obtain⟨hp,s8⟩:=F6 (F:=F) (N:=N) (nx:=nx) (R:=R) h8 hp
  obtain⟨hp,s7⟩:=F6 (F:=F) (N:=N) (nx:=nx) (R:=R) h7 hp
  obtain⟨hp,s6⟩:=F6 (F:=F) (N:=N) (nx:=nx) (R:=R) h6 hp
  obtain⟨hp,s5⟩:=F6 (F:=F) (N:=N) (nx:=nx) (R:=R) h5 hp
  obtain⟨hp,s4⟩:=F6 (F:=F) (N:=N) (nx:=nx) (R:=R) h4 hp
  obtain⟨hp,s3⟩:=F6 (F:=F) (N:=N) (nx:=nx) (R:=R) h3 hp
  obtain⟨hp,s2⟩:=F6 (F:=F) (N:=N) (nx:=nx) (R:=R) h2 hp
  obtain⟨hp,s1⟩:=F6 (F:=F) (N:=N) (nx:=nx) (R:=R) h1 hp
  obtain⟨hp,s0⟩:=F6 (F:=F) (N:=N) (nx:=nx) (R:=R) h0 hp
  exact s0.cons (s1.cons (s2.cons (s3.cons (s4.cons (s5.cons (s6.cons (s7.cons (s8.cons (s9.cons (s10.cons (s11.cons (s12.cons (s13.cons (s14.cons (s15.cons (s16.cons (s17.cons (s18.cons (s19.cons (s20.cons (s21.cons (s22.cons (s23.cons (s24.cons (s25.cons (s26.cons (s27.cons (s28.cons (s29.cons (s30.cons (s31.cons (.refl _))))))))))))))))))))))))))))))))
end
end Go.Proofs.Yteebobbhhgmeiaa
namespace Go.Proofs.Yteebobbhhgmeiaa
open Go.RowKit
def Bcj (c:TC):List (List A)→Option (List (U c)×List Prop)
 | []=>some ([],[])
 | x::r=>match YG c x with
  |some (d,ps)=>match Bcj c r with
   |some (l,qs)=>some (d::l,ps++qs)
   |none=>none
  |none=>none
def US (c:TC):Els→Option (List (U c)×List Prop)
 | .ty c' l=>match TC.same c' c with
  |some h=>some (Am5 h.down l,[])
  |none=>none
 | .lst cs=>Bcj c cs
def A55 (c:TC) (l:List (U c)):Option (List UInt8):=match TC.same c .u8 with
 |some h=>some (Am5 h.down l)
 |none=>none
section
variable {F:Nat→Prop} {N:Nm} {nx:Nat} {R:World}
theorem YH {c:TC}:∀{cs:List (List A)} {l:List (U c)} {ps:List Prop},Bcj c cs=some (l,ps)→(∀p∈ps,p)→l.length=cs.length∧∀k,k <cs.length→HLs F N nx R (Jz cs k) (enc c (l.getD k (Ac c)))
 | [],l,ps,h,_=>by cases h;exact⟨rfl,fun k hk=>by cases hk⟩
 |x::r,l,ps,h,hp=>by
  unfold Bcj at h
  split at h<;>first|(cases h;done)|skip
  rename_i d qs hd
  split at h<;>first|(cases h;done)|skip
  rename_i l' rs hl
  cases h
  obtain⟨h1,h2⟩:=YH hl fun p hm=>hp p (List.mem_append.2 (.inr hm))
  refine⟨by rw[List.length_cons,List.length_cons,h1],fun k hk=>?_⟩
  cases k with
  |zero=>exact A6o hd fun p hm=>hp p (List.mem_append.2 (.inl hm))
  |succ k=>exact h2 k (by simpa using hk)
theorem K9 {c:TC} {els:Els} {l:List (U c)} {ps:List Prop} (h:US c els=some (l,ps)) (hp:∀p∈ps,p):l.length=els.n∧∀k,k <els.n→HLs F N nx R (els.nth k) (enc c (l.getD k (Ac c))):=by
 unfold US at h
 split at h
 ·split at h<;>first|(cases h;done)|skip
  rename_i hc _
  obtain⟨hc⟩:=hc
  subst hc
  cases h
  exact⟨rfl,fun k _=> .refl _⟩
 ·exact YH h hp
theorem Bgx {c:TC} {l:List (U c)} {m:List UInt8} (h:A55 c l=some m):∃e:c=.u8,m=Am5 e l:=by
 unfold A55 at h
 split at h<;>first|(cases h;done)|skip
 rename_i hc _
 cases h
 exact⟨hc.down,rfl⟩
end
def Bcr (s:St) (G:Guards) (x:Operand) (ix:Nat):Option (Option A):=match s.ev G x with
 |some (.tup xs)=>some xs[ix]?
 |_=>none
def Bza (E:Env) (s:St) (G:Guards) (t:TypeId) (x:Operand) (f:Nat):Option (Option A):=match s.ev G x with
 | some (.agg cs)=>match E.P.underlying t with
  |some (.struct fs)=>match fs[f]? with
   |some fd=>some (Aa3 E.P fd.type (cs.drop fd.offset))
   |none=>some none
  |_=>some none
 |_=>none
def B2t (E:Env) (s:St) (G:Guards) (args:List Operand) (ts:Array TypeId):Option A:=
 match args with
 | [x]=>match s.ev G x with
  | some .nl=>match ts[0]? with
   |some t=>match E.P.underlying t with
    |some (.slice _)=>some (.v (.int .i64 0))
    |_=>none
   |none=>none
  | some w=>match Bab s.o w with
   | some (n,_)=>match ts[0]? with
    |some t=>match E.P.underlying t with
     |some (.slice _)=>some (.v (.int .i64 n))
     |_=>none
    |none=>none
   |none=>none
  |none=>none
 |_=>none
def B2s (E:Env) (s:St) (G:Guards) (args:List Operand) (ts:Array TypeId):Option R2:=match args with
 | [x]=>match s.ev G x,ts[0]? with
  |some (.dq i),some t=>match Ao i s.o,E.P.underlying t with
   |some (.deep _ _ l),some (.slice _)=>some (some (.v (.int .i64 l.length),[]))
   |_,_=>none
  | some (.iv i k),some t=>match Ao i s.o,E.P.underlying t with
   |some (.deep _ c l),some (.slice _)=>match Avg c (l.getD k (Ac c)) with
    |some ⟨_,l'⟩=>some (wth (.v (.int .i64 l'.length)) (ndB E.lit (k <l.length)))
    |none=>none
   |_,_=>none
  |_,_=>none
 |_=>none
def Bt7:A→Bool
 | .own _ _=>true
 | .ownx _ _ _ _=>true
 | .el _ _ _ _=>true
 | .de _ _ _ _=>true
 | .ie _ _ _ _ _=>true
 | .ref _=>true
 |_=>false
def Bzc:A→Bool
 | .fn _ _ _=>true
 |x=>Bt7 x
def B2v (s:St) (G:Guards) (x:Operand):Option A:=match s.ev G x with
 |some z=>bif Bzc z then some z else none
 |none=>none
def Ajq (E:Env) (s:St) (G:Guards) (t:TypeId) (x y:Operand):Bool:=match s.ev G x,s.ev G y with
 |some z,some (.v (.pointer none))=>bif Bt7 z then(match E.P.underlying t with
  |some (.pointer e)=>Nat.beq e (E.P.pointee t)
  |_=>false) else false
 |_,_=>false
def eqE (E:Env) (s:St) (G:Guards) (t:TypeId) (x y:Operand):Option (Option Bool):=
 match s.raw G x,s.raw G y with
 |some (.agg xs),some (.agg ys)=>some (E.eq t xs.toList ys.toList)
 |_,_=>none
def A59 (o:Objs):A→Option (List UInt8×List Prop)
 | .sl c l=>match A55 c l with
  |some m=>some (m,[])
  |none=>none
 | .sq i=>match Ao i o with
  |some (.arr _ 1 els)=>US .u8 els
  |_=>none
 | .vw i sz lo n _=>match Ao i o with
  |some (.arr _ 1 els)=>bif Nat.beq sz 1 then(match US .u8 els with
   |some (l,ps)=>some ((l.drop lo).take n,(lo+n≤l.length)::ps)
   |none=>none) else none
  |_=>none
 |_=>none
def Bha (E:Env) (s:St) (G:Guards) (src dst:TypeId) (x:Operand):Option R2:=match s.ev G x with
 | some w=>match A59 s.o w with
  | some (l,ps)=>match E.P.underlying src,E.P.underlying dst with
   |some (.slice e),some .string=>match E.P.underlying e with
    |some (.int .u8)=>some (some (.v (.string ⟨l.toArray⟩),ps))
    |_=>some none
   |_,_=>some none
  |none=>none
 |none=>none
def Atn (s:St) (G:Guards) (b:Builtin) (args:List Operand):Option Value:=
 match args with
 | [x,y]=>match s.raw G x,s.raw G y with
  |some (.int k a),some (.int _ c)=>match b with
   | .max=>some (.int k (max a c))
   | .min=>some (.int k (min a c))
   |_=>none
  |_,_=>none
 |_=>none
def Au2 (s:St) (G:Guards):List Operand→Option (List A)
 | []=>some []
 | o::r=>match s.ev G o with
  |some x=>match Au2 s G r with
   |some xs=>some (x::xs)
   |none=>none
  |none=>none
def Bt6 (E:Env) (s:St) (G:Guards) (t:TypeId) (x i:Operand):Option R2:=match s.raw G x,s.raw G i with
 |some (.string b),some (.int _ n)=>match E.P.underlying t with
  |some .string=>some (wth (.v (Bg9 b.data.toList n.toNat)) (ndB E.lit (0≤n∧n <(b.size:Int))))
  |_=>none
 |_,_=>none
def Byz (s:St) (G:Guards) (fn:Fn) (first captured:List Operand):Option A:=match fn with
 | .func f=>match Au2 s G first,Au2 s G captured with
  |some xs,some ys=>some (.fn f xs ys)
  |_,_=>none
 |_=>none
def Au8 (P:Program) (f:FuncId):Bool:=match P.funcs[f]? with
 |some fn=>fn.body.isSome&&!(fn.name== "runtime.NumGoroutine")
 |none=>false
def A6a (s:St) (G:Guards) (f:Operand):Option (FuncId×List A×List A):=match s.ev G f with
 |some (.fn g first caps)=>some (g,first,caps)
 |some (.v (.func (.func g) first caps))=>some (g,toL first.toList,toL caps.toList)
 |_=>none
def Bbz (E:Env) (s:St) (G:Guards) (f:Operand) (args:List Operand):Option A3:=match A6a s G f with
 |some (g,first,caps)=>bif Au8 E.P g then(match Au2 s G args with
  |some xs=>E.C g (first++(xs++caps)) s.nx s.o
  |none=>none) else none
 |none=>none
def Qm (E:Env) (f:Operand) (args:List Operand):Option (FuncId×A):=match f,args with
 | .func g,[]=>match Au8 E.P g,E.C g [] 0 [] with
  |true,some (k,x,0,[],[])=>bif Nat.ble k 1&&x.free then some (g,x) else none
  |_,_=>none
 |_,_=>none
def A3p (E:Env) (s:St) (G:Guards) (f:Operand) (args:List Operand):R2:=match Qm E f args with
 |some _=>none
 |none=>match Bbz E s G f args with
  |some (k,.v w,_,_,ps)=>bif Nat.ble k 1 then some (.v w,ps) else none
  |_=>none
def Aje (E:Env) (s:St) (G:Guards) (o:Oper) (op:BinOp) (x y:Operand):R2:=bif E.lit||YP y then Ni E s G o else match s.raw G x,s.raw G y with
 |some (.int k a),some (.int k' b)=>match op with
  | .shl=>some (.v (.int k (k.wrap (a*2^(min b.toNat k.bits)))),[0≤b])
  | .shr=>some (.v (.int k (a.fdiv (2^(min b.toNat k.bits)))),[0≤b])
  | .quo=>bif Avm k k' then some (.v (.int k (k.wrap (a.tdiv b))),[b≠0]) else none
  | .rem=>bif Avm k k' then some (.v (.int k (a.tmod b)),[b≠0]) else none
  |_=>none
 |_,_=>none
def B0p (E:Env) (s:St) (G:Guards) (o:Oper) (t:TypeId) (x y:Operand):R2:=match E.P.underlying t with
 |some .string=>match s.raw G x,s.raw G y with
  |some (.string b),some (.string c)=>some (.v (.string (b++c)),[b.size+c.size≤9223372036854775807])
  |_,_=>none
 |_=>Ni E s G o
def itE (s:St) (G:Guards) (x:Operand) (ix:Nat):Option R2:=match s.ev G x with
 | some (.it q vs)=>match ix with
  |0=>some (some (.v (.bool q),[]))
  |k+1=>match vs[k]? with
   |some v=>some (some (.v v,[q=true]))
   |none=>some none
 |_=>none
def Kf:List (ByteArray×Int)→ByteArray→Int
 | [],_=>0
 |(a,n)::r,b=>bif b==a then n else Kf r b
def Zy:List (ByteArray×Int)→ByteArray→Int→List (ByteArray×Int)
 | [],b,n=>[(b,n)]
 |(a,m)::r,b,n=>bif b==a then(b,n)::r else(a,m)::Zy r b n
def Bwt (o:Objs):A→Option (Nat×List (ByteArray×Int))
 | .mp i=>match Ao i o with
  |some (.map .str .i64 l)=>some (i,l)
  |_=>none
 |_=>none
def Bdb (E:Env) (t:TypeId):Bool:=match E.P.underlying t with
 |some (.map k v)=>match E.P.underlying k,(E.P.info? v).bind (·.zero) with
  |some .string,some (.int .i64 z)=>decide (z=0)
  |_,_=>false
 |_=>false
def Bss (E:Env) (s:St) (G:Guards) (t:TypeId) (m k:Operand):R2:=match s.ev G m,s.raw G k with
 |some x,some (.string b)=>match Bwt s.o x with
  |some (_,l)=>bif Bdb E t then some (.v (.int .i64 (Kf l b)),[]) else none
  |none=>none
 |_,_=>none
def Bwo:A→Bool
 | .v (.tuple _)=>true
 |_=>false
def Bth (s:St) (G:Guards) (c x y:Operand):R2:=match s.raw G c,s.ev (Qu true c G) x,s.ev (Qu false c G) y with
 |some (.bool q),some x',some y'=>bif Bwo y' then some (x',[q=true]) else bif Bwo x' then some (y',[q=false]) else match Btf s G c x y with
  |some z=>some (z,[])
  |none=>none
 |_,_,_=>none
def Bx7 (E:Env) (s:St) (G:Guards) (o:Oper):R2:=
 match o.op with
 | .move x| .assign x=>match s.ev G x with
  |some z=>some (z,[])
  |none=>none
 | .pick c x y=>Bth s G c x y
 | .extract x ix=>match itE s G x ix with
  |some r=>r
  |none=>match Bcr s G x ix with
   |some (some z)=>some (z,[])
   |some none=>none
   |none=>Ni E s G o
 | .field t x f=>match Bza E s G t x f with
  |some (some z)=>some (z,[])
  |some none=>none
  |none=>Ni E s G o
 | .fieldAddr t x f=>Bhn E s G t x f
 | .indexAddr t x i=>Bhx E s G t x i
 | .load t x=>Agx E s G t x
 | .slice t x lo hi mx=>Bjw E s G o t x lo hi mx
 | .build t parts=>Bg7 E s G t parts.toList
 | .nilCheck x=>match B2v s G x with
  |some z=>some (z,[])
  |none=>Ni E s G o
 | .index t x i=>match Bt6 E s G t x i with
  |some r=>r
  |none=>Ni E s G o
 | .makeFunc fn first captured=>match Byz s G fn first.toList captured.toList with
  |some z=>some (z,[])
  |none=>none
 | .call {callee:=.value f,args, .. }=>A3p E s G f args.toList
 | .call {callee:=.builtin .len,args,argTypes}=>match B2s E s G args.toList argTypes with
  |some r=>r
  |none=>match B2t E s G args.toList argTypes with
   |some z=>some (z,[])
   |none=>Ni E s G o
 | .call {callee:=.builtin .max,args, .. }=>match Atn s G .max args.toList with
  |some z=>some (.v z,[])
  |none=>Ni E s G o
 | .call {callee:=.builtin .min,args, .. }=>match Atn s G .min args.toList with
  |some z=>some (.v z,[])
  |none=>Ni E s G o
 | .convert src dst x=>match Bha E s G src dst x with
  |some r=>r
  |none=>Ni E s G o
 | .binOp .eql t x y _=>bif Ajq E s G t x y then some (.v (.bool false),[]) else match eqE E s G t x y with
  |some (some b)=>some (.v (.bool b),[])
  |some none=>none
  |none=>Ni E s G o
 | .binOp .neq t x y _=>bif Ajq E s G t x y then some (.v (.bool true),[]) else match eqE E s G t x y with
  |some (some b)=>some (.v (.bool !b),[])
  |some none=>none
  |none=>Ni E s G o
 | .binOp .shl _ x y _=>Aje E s G o .shl x y
 | .binOp .shr _ x y _=>Aje E s G o .shr x y
 | .binOp .quo _ x y _=>Aje E s G o .quo x y
 | .binOp .rem _ x y _=>Aje E s G o .rem x y
 | .binOp .add t x y _=>B0p E s G o t x y
 | .lookup t m k false=>Bss E s G t m k
 |_=>Ni E s G o
section
variable {E:Env} {Z:Base} {F:Nat→Prop} {N:Nm} {s:St} {a:Act} {R:World} {G:Guards}
theorem Afn (h:Rel Z F N s a R) (hG:OJ (Bl a) G):∀{l:List Operand} {xs:List A},Au2 s G l=some xs→HL F N s.nx R xs (l.map a.eval)
 | [],xs,he=>by obtain rfl:=Option.some.inj he;exact HL.nil
 | o::r,xs,he=>by
  unfold Au2 at he
  cases hx:s.ev G o with
  |none=>simp only[hx] at he;cases he
  | some x=>
   cases hr:Au2 s G r with
   |none=>simp only[hx,hr] at he;cases he
   |some ys=>
    simp only[hx,hr] at he
    obtain rfl:=Option.some.inj he
    exact HL.cons (Br h hG hx).2 (Afn h hG hr)
theorem Bf1 {P:Program} {f:FuncId} (hf:Au8 P f=true) (args:Array Value) (R:World):(callFunc f args).run P R=.ok (.enter f args) R:=by
 unfold Au8 at hf
 cases hq:P.funcs[f]? with
 |none=>simp only[hq] at hf;cases hf
 |some fn=>
  simp only[hq,Bool.and_eq_true] at hf
  obtain⟨h1,h2⟩:=hf
  have h2':(fn.name== "runtime.NumGoroutine")=false:=by simpa using h2
  have h1':fn.body.isNone=false:=by cases hb:fn.body<;>simp_all
  simp only[callFunc,Sem.run_bind,run_program,Result.andThen_ok,hq,h2',h1']
  rfl
theorem Bb0 (h:Rel Z F N s a R) (hG:OJ (Bl a) G) {o:Oper} {f:Operand} {args:Array Operand} {ts:Array TypeId} (ho:o.op=.call {callee:=.value f,args,argTypes:=ts}) {r:A3} (he:Bbz E s G f args.toList=some r):
  ∃g xs vs,E.C g xs s.nx s.o=some r∧HL F N s.nx R xs vs∧∀R',(execOp a.eval o).run E.P R'=.ok (.enter g vs.toArray) R':=by
 unfold Bbz at he
 split at he<;>first|(cases he;done)|skip
 rename_i g first caps hc
 cases hg:Au8 E.P g with
 |false=>rw[hg] at he;cases he
 | true=>
  rw[hg] at he
  simp only[cond_true] at he
  split at he<;>first|(cases he;done)|skip
  rename_i xs hxs
  have hal:=Afn h hG hxs
  have hfv:∃vs us,a.eval f=.func (.func g) vs.toArray us.toArray∧HL F N s.nx R first vs∧HL F N s.nx R caps us:=by
   unfold A6a at hc
   split at hc<;>first|(cases hc;done)|skip
   ·rename_i hev
    cases hc
    exact(Br h hG hev).2.fn_inv
   ·rename_i first' caps' hev
    cases hc
    have:=(Br h hG hev).2.v_inv
    exact⟨first'.toList,caps'.toList,by simpa using this,HL.toL _,HL.toL _⟩
  obtain⟨vs,us,e1,h1,h2⟩:=hfv
  refine⟨g,_,vs++(args.toList.map a.eval++us),he,h1.append (hal.append h2),fun R'=>?_⟩
  obtain⟨dst,op,type,pos,after,guard⟩:=o
  simp only at ho
  subst ho
  show(do let d ←resolve a.eval _ type;invoke d.target d.args:Sem Next).run E.P R'=_
  have hr:(resolve a.eval {callee:=.value f,args,argTypes:=ts} type)=pure {target:=.fn (.func g) us.toArray,args:=vs.toArray++args.map a.eval}:=by
   simp only[resolve,e1,Deferred.ofValue]
  rw[hr]
  simp only[Sem.run_bind,Sem.run_pure,Result.andThen_ok,invoke]
  have hargs:vs.toArray++args.map a.eval++us.toArray=(vs++(args.toList.map a.eval++us)).toArray:=by
   apply Array.ext'
   simp
  rw[hargs]
  exact Bf1 hg _ R'
theorem D8 {P:Program} {C:World→Prop} {v:Value} {r:Result Next} (h:r=.ok (.value v) R):Oper.quietUpon P C R v r:=by
 rw[h];exact⟨rfl,rfl⟩
theorem D2 {α:Type} {P:Program} {m:Sem α} {f:α→Next} {x:α} (h:m.run P R=.ok x R):((do pure (f (←m)):Sem Next)).run P R=.ok (f x) R:=by
 simp[h]
theorem Btx {P:Program} {t:TypeId} {l:List A} {z:A} {cs:Array Value} {off nx:Nat} (he:Aa3 P t l=some z) (hl:HL F N nx R l (cs.toList.drop off)):
  ∃y,Hv F N nx R z y∧∀R',(part t cs off).run P R'=.ok y R':=by
 unfold Aa3 at he
 split at he<;>first|(cases he;done)|skip
 ·rename_i hr
  split at he<;>first|(cases he;done)|skip
  rename_i n hn
  cases hb:Nat.ble n l.length with
  |false=>rw[hb] at he;cases he
  | true=>
   rw[hb] at he
   cases he
   refine⟨_,YA (hl.take n),fun R'=>?_⟩
   unfold Bfn at hr
   unfold J7 at hn
   cases hu:P.underlying t with
   |none=>rw[hu] at hr;cases hr
   | some d=>
    rw[hu] at hr
    cases hi:P.info? t with
    |none=>rw[hi] at hn;cases hn
    | some i=>
     rw[hi] at hn
     have hn':i.size=n:=Option.some.inj hn
     have hx:(cs.extract off (off+n))=(List.take n (List.drop off cs.toList)).toArray:=by
      apply Array.ext'
      rw[Array.toList_extract,List.extract_eq_take_drop]
      congr 1
      omega
     cases d<;>first|(simp[part,isAgg,run_underlying hu,sizeOf,typeInfo,hi,hn',hx];done)|(simp at hr;done)
 ·rename_i hr
  split at he<;>first|(cases he;done)|skip
  cases he
  obtain⟨v,us,e,h1,_⟩:=hl.inv
  refine⟨v,h1,fun R'=>?_⟩
  have hc:cs[off]?=some v:=by
   have:(cs.toList.drop off)[0]?=some v:=by rw[e];rfl
   rw[List.getElem?_drop] at this
   simpa using this
  unfold Bfn at hr
  cases hu:P.underlying t with
  |none=>rw[hu] at hr;cases hr
  |some d=>
   rw[hu] at hr
   cases d<;>first|(simp[part,isAgg,run_underlying hu,hc];done)|(simp at hr;done)
theorem Brz (ok:EnvOk E) (h:Rel Z F N s a R) (hG:OJ (Bl a) G) {t:TypeId} {x y:Operand} {b:Bool} (he:eqE E s G t x y=some (some b)) (op:BinOp) (hop:op=.eql∨op=.neq) (R':World):
  (do eqGuard op t x y (a.eval x) (a.eval y);binOp op t (a.eval x) (a.eval y):Sem Value).run E.P R'=.ok (.bool (bif(op matches .eql) then b else !b)) R':=by
 unfold eqE at he
 split at he<;>first|(cases he;done)|skip
 rename_i xs ys hx hy
 rw[D7 h hG hx,D7 h hG hy]
 obtain⟨h1,h2⟩:=ok.eq t xs.toList ys.toList b (Option.some.inj he)
 have h3:=h2 R'
 simp only[Array.toArray_toList] at h3
 have hg:=run_eqGuard_agg R' op t x y xs ys h1
 rcases hop with rfl|rfl
 ·simp[hg,binOp,Op.equal,Op.maxDepth,h3]
 ·simp[hg,binOp,Op.equal,Op.maxDepth,h3]
theorem Bgf {nx:Nat} {z:A} {y:Value} (hs:Bt7 z=true) (h:Hv F N nx R z y):∃ad,y=.pointer (some ad):=by
 cases z<;>first|(cases hs;done)|skip
 ·obtain⟨ad,h1,_⟩:=h.ref_inv;exact⟨_,h1⟩
 ·exact⟨_,h.own_inv.2⟩
 ·exact⟨_,h.ownx_inv.2⟩
 ·exact⟨_,h.el_inv.2⟩
 ·exact⟨_,h.de_inv.2⟩
 ·exact⟨_,h.ie_inv.2⟩
theorem Bcp (h:Rel Z F N s a R) (hG:OJ (Bl a) G) {t:TypeId} {x y:Operand} (he:Ajq E s G t x y=true) (op:BinOp) (hop:op=.eql∨op=.neq) (R':World):
  (do eqGuard op t x y (a.eval x) (a.eval y);binOp op t (a.eval x) (a.eval y):Sem Value).run E.P R'=.ok (.bool (bif(op matches .eql) then false else true)) R':=by
 unfold Ajq at he
 split at he<;>first|(cases he;done)|skip
 rename_i z hx hy
 cases hs:Bt7 z with
 |false=>rw[hs] at he;cases he
 | true=>
  rw[hs] at he
  simp only[cond_true] at he
  split at he<;>first|(cases he;done)|skip
  rename_i e hu
  have hpe:=Nat.eq_of_beq_eq_true he
  obtain⟨ad,e1⟩:=Bgf hs (Br h hG hx).2
  rw[e1,(Br h hG hy).2.v_inv]
  rw[hpe] at hu
  rcases hop with rfl|rfl
  ·have:=run_eql_pointer_nil (P:=E.P) R' t (some ad) hu
   simp[eqGuard,this]
  ·have:=run_neq_pointer_nil (P:=E.P) R' t (some ad) hu
   simp[eqGuard,this]
theorem Bx4 {v:Value} {nx:Nat} {b:UInt8} {vs:List Value} (h:HL F N nx R (enc .u8 b) vs) (hv:vs[0]?=some v):v=Bp b:=by
 obtain⟨u,us,rfl,h1,_⟩:=HL.inv (x:=.v (Bp b)) (r:=[]) h
 cases hv
 exact h1.v_inv
theorem Bnq (h:HRel F N s.nx s.o R) {w:A} {l:List UInt8} {ps:List Prop} {y:Value} (hb:A59 s.o w=some (l,ps)) (hp:∀p∈ps,p) (hw:Hv F N s.nx R w y):
  ∃a c,y=.slice a l.length c∧l.length≤c∧(0 <l.length→∃ad,a=some ad∧∀j b,l[j]?=some b→R.cell? (ad.add j)=some (Bp b)):=by
 have row:∀{i e els m qs},Ao i s.o=some (.arr e 1 els)→US .u8 els=some (m,qs)→(∀p∈qs,p)→0 <m.length→∃g c,N.q i=.slice (some ⟨g,0,none⟩) m.length c∧m.length≤c∧FD (N.q i)=⟨g,0,none⟩∧∀(j:Nat) (b:UInt8),m[j]?=some b→R.cell? ⟨g,j,none⟩=some (Bp b):=fun {i e els m qs} hl ht hq hpos=>by
  obtain⟨_,zs,g1,g2⟩:=h.ob i _ hl
  obtain⟨e1,e2⟩:=K9 (F:=F) (N:=N) (nx:=s.nx) (R:=R) ht hq
  obtain⟨g,c,q1,q2,q3,_,q5⟩:=FL g1 (by omega)
  rw[e1]
  refine⟨g,c,q1,q2,q3,fun j b hj=>?_⟩
  have hlt:j <m.length:=(List.getElem?_eq_some_iff.1 hj).1
  have h3:=e2 j (by omega) _ (g2 j (by omega))
  have hget:m.getD j (Ac .u8)=b:=by rw[List.getD_eq_getElem?_getD,hj];rfl
  rw[hget] at h3
  have hlen:=h3.length
  have hz:∃v,((zs.drop (j*1)).take 1)[0]?=some v:=by
   have:0 <((zs.drop (j*1)).take 1).length:=by rw[hlen];exact Nat.zero_lt_one
   exact⟨_,List.getElem?_eq_getElem this⟩
  obtain⟨v,hv⟩:=hz
  have:=Bx4 h3 hv
  subst this
  have:=q5 _ _ (OI hv)
  rwa[Nat.mul_one,Nat.add_zero] at this
 unfold A59 at hb
 split at hb<;>first|(cases hb;done)|skip
 ·rename_i c l'
  split at hb<;>first|(cases hb;done)|skip
  rename_i m hm
  cases hb
  obtain⟨e,rfl⟩:=Bgx hm
  subst e
  obtain⟨a,cap,h1,h2,h3⟩:=hw.sl_inv
  refine⟨a,cap,h1,h2,fun hn=>?_⟩
  obtain⟨ad,q1,_,q2⟩:=h3 hn
  refine⟨ad,q1,fun j b hj=>?_⟩
  obtain⟨y,r1,r2⟩:=q2 j b hj 0 (.v (Bp b)) rfl
  rw[D3,Nat.add_zero,show size .u8=1 from rfl,Nat.mul_one] at r1
  rw[r1,r2.v_inv]
 ·rename_i i
  split at hb<;>first|(cases hb;done)|skip
  rename_i e els hl
  rw[hw.sq_inv.2]
  by_cases hpos:0 <l.length
  ·obtain⟨g,c,q1,q2,q3,q4⟩:=row hl hb hp hpos
   exact⟨_,c,q1,q2,fun _=>⟨_,rfl,fun j b hj=>by rw[Fj,Nat.zero_add];exact q4 j b hj⟩⟩
  ·obtain⟨_,zs,g1,_⟩:=h.ob i _ hl
   obtain⟨e1,_⟩:=K9 (F:=F) (N:=N) (nx:=s.nx) (R:=R) hb hp
   obtain⟨a,c,e2,e3⟩:=g1.form
   exact⟨a,c,by rw[e1];exact e2,by omega,fun hp=>absurd hp hpos⟩
 ·rename_i i sz lo n f
  split at hb<;>first|(cases hb;done)|skip
  rename_i e els hl
  cases hz:Nat.beq sz 1 with
  |false=>rw[hz] at hb;cases hb
  |true=>
   rw[hz] at hb
   obtain rfl:=Nat.eq_of_beq_eq_true hz
   simp only[cond_true] at hb
   split at hb<;>first|(cases hb;done)|skip
   rename_i m qs hm
   cases hb
   have hle:lo+n≤m.length:=hp _ (List.mem_cons_self ..)
   have hlen:((m.drop lo).take n).length=n:=by rw[List.length_take,List.length_drop];omega
   obtain⟨_,aa,c,rfl,q2,_,q4⟩:=hw.vw_inv
   rw[hlen]
   refine⟨aa,c,rfl,q2,fun hpn=>⟨_,q4 hpn,fun j b hj=>?_⟩⟩
   obtain⟨g,c',_,_,r3,r4⟩:=row hl hm (fun p hm=>hp p (List.mem_cons_of_mem _ hm)) (by omega)
   rw[r3,Fj,Fj,Nat.zero_add,Nat.mul_one]
   rw[List.getElem?_take] at hj
   split at hj<;>first|(cases hj;done)|skip
   rw[List.getElem?_drop] at hj
   exact r4 _ _ hj
theorem A4e (h:Rel Z F N s a R) (hG:OJ (Bl a) G) {b:Builtin} {args:List Operand} {v:Value} (he:Atn s G b args=some v) (hb:b=.max∨b=.min) (ts:Array TypeId) (t:TypeId) (cs:Array Bool) (R':World):
  (builtin b ts t cs (args.map a.eval).toArray).run E.P R'=.ok (.value v) R':=by
 unfold Atn at he
 split at he<;>first|(cases he;done)|skip
 split at he<;>first|(cases he;done)|skip
 rename_i x y _ k i k' c hx hy
 rw[List.map_cons,List.map_cons,List.map_nil,D7 h hG hx,D7 h hG hy]
 rcases hb with rfl|rfl
 ·cases he
  simp[builtin,my_max]
 ·cases he
  simp[builtin,my_min]
theorem B0q (h:Rel Z F N s a R) (hG:OJ (Bl a) G) {o:Oper} {t yt:TypeId} {x y:Operand} (ho:o.op=.binOp .add t x y yt) {z:A} {ps:List Prop} (he:B0p E s G o t x y=some (z,ps)) (hp:∀p∈ps,p):
  ∃v,Hv F N s.nx R z v∧∀R',(execOp a.eval o).run E.P R'=.ok (.value v) R':=by
 unfold B0p at he
 split at he
 ·rename_i ht
  split at he<;>first|(cases he;done)|skip
  rename_i b c hx hy
  cases he
  obtain⟨dst,op',type,pos,after,guard⟩:=o
  simp only at ho
  subst ho
  have ex:=D7 h hG hx
  have ey:=D7 h hG hy
  have hb:b.size+c.size≤9223372036854775807:=hp _ (List.mem_singleton.2 rfl)
  refine⟨_,.v _,fun R'=>D2 (f:=Next.value) ?_⟩
  rw[ex,ey]
  simp[eqGuard,binOp,Op.stringOp]
  omega
 ·exact Aht h hG he
theorem Ae0 (h:Rel Z F N s a R) (hG:OJ (Bl a) G) {o:Oper} {op:BinOp} {t yt:TypeId} {x y:Operand} (ho:o.op=.binOp op t x y yt) {z:A} {ps:List Prop} (he:Aje E s G o op x y=some (z,ps)) (hp:∀p∈ps,p):
  ∃v,Hv F N s.nx R z v∧∀R',(execOp a.eval o).run E.P R'=.ok (.value v) R':=by
 unfold Aje at he
 cases hc:(E.lit||YP y) with
 |true=>rw[hc] at he;exact Aht h hG he
 | false=>
  rw[hc] at he
  simp only[cond_false] at he
  obtain⟨dst,op',type,pos,after,guard⟩:=o
  simp only at ho
  subst ho
  split at he<;>first|(cases he;done)|skip
  rename_i k i k' b hx hy
  have ex:=D7 h hG hx
  have ey:=D7 h hG hy
  split at he<;>first|(cases he;done)|skip
  ·cases he
   have hb:0≤b:=hp _ (List.mem_singleton.2 rfl)
   refine⟨_,.v _,fun R'=>D2 (f:=Next.value) ?_⟩
   rw[ex,ey]
   simp[eqGuard,binOp,Op.shift,show ¬b <0 by omega]
  ·cases he
   have hb:0≤b:=hp _ (List.mem_singleton.2 rfl)
   refine⟨_,.v _,fun R'=>D2 (f:=Next.value) ?_⟩
   rw[ex,ey]
   simp[eqGuard,binOp,Op.shift,show ¬b <0 by omega]
  ·cases hk:Avm k k' with
   |false=>rw[hk] at he;cases he
   |true=>
    rw[hk] at he
    cases he
    obtain rfl:=Avn hk
    have hb:b≠0:=hp _ (List.mem_singleton.2 rfl)
    refine⟨_,.v _,fun R'=>D2 (f:=Next.value) ?_⟩
    rw[ex,ey]
    simp[eqGuard,binOp,Op.intDiv,hb]
  ·cases hk:Avm k k' with
   |false=>rw[hk] at he;cases he
   |true=>
    rw[hk] at he
    cases he
    obtain rfl:=Avn hk
    have hb:b≠0:=hp _ (List.mem_singleton.2 rfl)
    refine⟨_,.v _,fun R'=>D2 (f:=Next.value) ?_⟩
    rw[ex,ey]
    simp[eqGuard,binOp,Op.intDiv,hb]
end
theorem Bti {Z:Base} {F:Nat→Prop} {N:Nm} {s:St} {a:Act} {R:World} {G:Guards} (h:Rel Z F N s a R) (hG:OJ (Bl a) G) {c x y:Operand} {z:A} {ps:List Prop} (he:Bth s G c x y=some (z,ps)) (hp:∀p∈ps,p):
  ∃q,a.eval c=.bool q∧Hv F N s.nx R z (if q then a.eval x else a.eval y):=by
 unfold Bth at he
 split at he<;>first|(cases he;done)|skip
 rename_i q x' y' hc hx hy
 have hq:=D7 h hG hc
 cases h1:Bwo y' with
 |true=>
  rw[h1] at he
  cases he
  have hq1:q=true:=hp _ (List.mem_singleton.2 rfl)
  subst hq1
  exact⟨true,hq,(Br h (TY hG hq) hx).2⟩
 | false=>
  rw[h1] at he
  cases h2:Bwo x' with
  |true=>
   rw[h2] at he
   cases he
   have hq1:q=false:=hp _ (List.mem_singleton.2 rfl)
   subst hq1
   exact⟨false,hq,(Br h (TY hG hq) hy).2⟩
  |false=>
   rw[h2] at he
   simp only[cond_false] at he
   split at he<;>first|(cases he;done)|skip
   rename_i z' hz
   cases he
   exact Btg h hG hz
end Go.Proofs.Yteebobbhhgmeiaa
namespace Go.Proofs.Yteebobbhhgmeiaa
open Go.RowKit Go.MapKept
section
variable {E:Env} {Z:Base} {F:Nat→Prop} {N:Nm} {s:St} {a:Act} {R:World} {G:Guards}
theorem A2y {P:Program} {v:Value} {l:List UInt8} {src dst e:TypeId} (hv:∃a c,v=.slice a l.length c∧l.length≤c∧(0 <l.length→∃ad,a=some ad∧∀j b,l[j]?=some b→R.cell? (ad.add j)=some (Bp b)))
  (hs:P.underlying src=some (.slice e)) (he:P.underlying e=some (.int .u8)) (hd:P.underlying dst=some .string):(convert src dst v).run P R=.ok (.string ⟨l.toArray⟩) R:=by
 obtain⟨A,c,rfl,_,hc⟩:=hv
 rw[run_convert_bytes_string R src dst e A _ c hs he hd]
 by_cases hn:0 <l.length
 ·obtain⟨ad,rfl,h5⟩:=hc hn
  have hl:=run_loadCells_list (P:=P) R ad (l.map Bp) (fun j u hj=>by
   rw[List.getElem?_map] at hj
   cases hb:l[j]? with
   |none=>rw[hb] at hj;cases hj
   |some b=>rw[hb] at hj;cases hj;exact h5 j b hb)
  rw[List.length_map] at hl
  have e1:l.map Bp=(l.map fun b=>(b.toNat:Int)).map (Value.int .u8):=by rw[List.map_map];rfl
  rw[e1] at hl
  rw[run_bytesToString R ad l.length c _ hl,foldl_push_bytes]
  have e2:(l.map fun b=>(b.toNat:Int)).map (fun n=>UInt8.ofNat n.toNat)=l:=by
   rw[List.map_map]
   exact(List.map_congr_left fun b _=>by show UInt8.ofNat ((b.toNat:Int).toNat)=id b;simp).trans (List.map_id l)
  rw[e2]
  simp
 ·obtain rfl:l=[]:=List.eq_nil_of_length_eq_zero (by omega)
  cases A with
  |none=>rfl
  |some ad=>
   have hl:=run_loadCells_list (P:=P) R ad [] (fun j u hj=>by cases hj)
   rw[show([]:List UInt8).length=0 from rfl,run_bytesToString R ad 0 c [] hl]
   rfl
theorem Bnp (h:Rel Z F N s a R) (hG:OJ (Bl a) G) {src dst:TypeId} {x:Operand} {z:A} {ps:List Prop} (he:Bha E s G src dst x=some (some (z,ps))) (hp:∀p∈ps,p):
  ∃y,Hv F N s.nx R z y∧∀R',Below R.heap.size R R'→(convert src dst (a.eval x)).run E.P R'=.ok y R':=by
 unfold Bha at he
 split at he<;>first|(cases he;done)|skip
 rename_i w hx
 split at he<;>first|(cases he;done)|skip
 rename_i l qs hl
 split at he<;>first|(cases he;done)|skip
 rename_i e hs hd
 split at he<;>first|(cases he;done)|skip
 rename_i hu
 cases he
 refine⟨_,Hv.v _,fun R' hb=>?_⟩
 obtain⟨aa,c,q1,q2,q3⟩:=Bnq h.hp hl hp (Br h hG hx).2
 exact A2y ⟨aa,c,q1,q2,fun hp=>by
  obtain⟨ad,r1,r2⟩:=q3 hp
  exact⟨ad,r1,fun j b hj=>OM hb (r2 j b hj)⟩⟩ hs hu hd
theorem Bby (h:HRel F N s.nx s.o R) {P:Program} {g:FuncId} {xs:List A} {vs:List Value} {k nx':Nat} {x:A} {o':Objs} (hc:CallOk P g xs s.nx s.o k x nx' o') (hv:HL F N s.nx R xs vs) {R':World} (hb:Below R.heap.size R R'):
  Calls P g vs.toArray R' fun e R''=>∃y F' N',e=.returned y∧HRel F' N' nx' o' R''∧Step F N s.nx s.o R' F' N' nx' o' R''∧Hv F' N' nx' R'' x y∧(k≤1→Below R'.heap.size R' R''):=by
 obtain⟨h1,h2⟩:=h.grow hb
 exact hc F N R' vs h1 (hv.step h2)
def A53:List (ByteArray×Int)→List MapEntry→Prop
 | [],es=>es=[]
 |p::l,es=>∃e r,es=e::r∧e.key=.string p.1∧e.val=.int .i64 p.2∧A53 l r
theorem Bmh {nx:Nat}:∀{l:List (U .str×U .i64)} {es:List MapEntry},es.length=l.length→(∀(j:Nat) (p:U .str×U .i64) (e:MapEntry),l[j]?=some p→es[j]?=some e→e.key=B04 .str p.1∧Hv F N nx R (Af .i64 p.2) e.val)→A53 l es
 | [],es,h,_=>List.eq_nil_of_length_eq_zero h
 |p::l,[],h,_=>by cases h
 |p::l,e::r,h,k=>by
  obtain⟨h1,h2⟩:=k 0 p e rfl rfl
  exact⟨e,r,rfl,h1,Hv.v_inv (x:=.int .i64 p.2) h2,Bmh (by simpa using h) fun j q f hq hf=>k (j+1) q f hq hf⟩
theorem Bmi {nx:Nat}:∀{l:List (ByteArray×Int)} {es:List MapEntry},A53 l es→es.length=l.length∧∀(j:Nat) (p:U .str×U .i64) (e:MapEntry),l[j]?=some p→es[j]?=some e→e.key=B04 .str p.1∧Hv F N nx R (Af .i64 p.2) e.val
 | [],es,h=>by
  have h':es=[]:=h
  subst h'
  exact⟨rfl,fun j p e hp=>by cases hp⟩
 |p::l,es,⟨e,r,he,h1,h2,h3⟩=>by
  subst he
  obtain⟨g1,g2⟩:=Bmi (nx:=nx) h3
  refine⟨by simp[g1],fun j q f hq hf=>?_⟩
  cases j with
  |zero=>cases hq;cases hf;exact⟨h1,by rw[h2];exact Hv.v _⟩
  |succ j=>exact g2 j q f hq hf
theorem Aku (b:ByteArray):∀{l:List (ByteArray×Int)} {es:List MapEntry} (j:Nat),A53 l es→
  (Instr.findNow .string (.string b) es j=some none∧Kf l b=0∧∀n c,A53 (Zy l b n) (es++[⟨.string b,.int .i64 n,c⟩]))∨
  ∃k e,Instr.findNow .string (.string b) es j=some (some (j+k,.int .i64 (Kf l b)))∧es[k]?=some e∧e.key=.string b∧∀n,A53 (Zy l b n) (es.modify k fun e=>{e with key:=.string b,val:=.int .i64 n})
 | [],es,j,h=>by
  have h':es=[]:=h
  subst h'
  exact .inl ⟨rfl,rfl,fun n c=>⟨_,_,rfl,rfl,rfl,rfl⟩⟩
 | p ::l,es,j,⟨e,r,he,h1,h2,h3⟩=>by
  subst he
  have hs:Instr.sameNow .string (.string b) e.key=some (b==p.1):=by rw[h1];rfl
  cases hb:(b==p.1) with
  | true=>
   rw[hb] at hs
   refine .inr ⟨0,e,?_,rfl,?_,fun n=>?_⟩
   ·simp only[Instr.findNow,hs]
    rw[h2]
    show _=some (some (j+0,Value.int .i64 (bif b==p.1 then p.2 else Kf l b)))
    rw[hb]
    rfl
   ·rw[h1,(bytes_beq b p.1).1 hb]
   ·show A53 (bif b==p.1 then(b,n)::l else p::Zy l b n) _
    rw[hb]
    exact⟨_,_,rfl,rfl,rfl,h3⟩
  | false=>
   rw[hb] at hs
   have hf:Kf (p::l) b=Kf l b:=by show(bif b==p.1 then p.2 else Kf l b)=_;rw[hb];rfl
   have hu:∀n,Zy (p::l) b n=p::Zy l b n:=fun n=>by show(bif b==p.1 then(b,n)::l else p::Zy l b n)=_;rw[hb];rfl
   rcases Aku b (j+1) h3 with⟨g1,g2,g3⟩|⟨k,e',g1,g2,g3,g4⟩
   ·refine .inl ⟨by simp only[Instr.findNow,hs];exact g1,by rw[hf];exact g2,fun n c=>?_⟩
    rw[hu]
    exact⟨e,_,rfl,h1,h2,g3 n c⟩
   ·refine .inr ⟨k+1,e',?_,g2,g3,fun n=>?_⟩
    ·simp only[Instr.findNow,hs]
     rw[g1,hf]
     congr 3
     omega
    ·rw[hu]
     exact⟨e,_,rfl,h1,h2,g4 n⟩
theorem Bmg (h:HRel F N s.nx s.o R) {x:A} {y:Value} {i:Nat} {l:List (ByteArray×Int)} (he:Bwt s.o x=some (i,l)) (hx:Hv F N s.nx R x y):
  y=.map (some (N.b i))∧Ao i s.o=some (.map .str .i64 l)∧∃es clock,R.heap[N.b i]?=some (.map es.toArray clock)∧A53 l es:=by
 unfold Bwt at he
 split at he<;>first|(cases he;done)|skip
 split at he<;>first|(cases he;done)|skip
 rename_i hl
 cases he
 obtain⟨_,es,clock,h1,h2,h3⟩:=h.ob _ _ hl
 exact⟨hx.mp_inv.2,hl,es,clock,h1,Bmh h2 h3⟩
theorem Bmb {t:TypeId} (h:Bdb E t=true):∃k v,E.P.underlying t=some (.map k v)∧E.P.underlying k=some .string∧∀R,(zeroValue v).run E.P R=.ok (.int .i64 0) R:=by
 unfold Bdb at h
 split at h<;>first|(cases h;done)|skip
 rename_i k v hu
 split at h<;>first|(cases h;done)|skip
 rename_i z hk hz
 obtain rfl:z=0:=of_decide_eq_true h
 refine⟨k,v,hu,hk,fun R=>?_⟩
 cases hi:E.P.info? v with
 |none=>rw[hi] at hz;cases hz
 |some i=>
  rw[hi] at hz
  have hz':i.zero=some (.int .i64 0):=hz
  simp[zeroValue,typeInfo,hi,hz']
theorem Bwr (h:Rel Z F N s a R) (hG:OJ (Bl a) G) {t:TypeId} {m k:Operand} {z:A} {ps:List Prop} (he:Bss E s G t m k=some (z,ps)):
  ∃v,Hv F N s.nx R z v∧∀R',Below R.heap.size R R'→(Instr.lookup t (a.eval m) (a.eval k) false).run E.P R'=.ok v R':=by
 unfold Bss at he
 split at he<;>first|(cases he;done)|skip
 rename_i x b hm hk
 split at he<;>first|(cases he;done)|skip
 rename_i i l hi
 cases hq:Bdb E t with
 |false=>rw[hq] at he;cases he
 |true=>
  rw[hq] at he
  cases he
  obtain⟨e1,_,es,clock,e2,e3⟩:=Bmg h.hp hi (Br h hG hm).2
  obtain⟨kt,vt,q1,q2,q3⟩:=Bmb hq
  have e4:=D7 h hG hk
  refine⟨_,Hv.v _,fun R' hb=>?_⟩
  have hb':=Fk e2 hb
  have hkk:IsKey .string (.string b):=trivial
  rw[e1,e4]
  rcases Aku b 0 e3 with⟨g1,g2,_⟩|⟨j,e,g1,_,_,_⟩
  ·simp[Instr.lookup,run_underlying q1,MapKept.run_getObj_map hb',run_checkKey q2 hkk,run_findKey q2 g1,q3,g2]
  ·simp[Instr.lookup,run_underlying q1,MapKept.run_getObj_map hb',run_checkKey q2 hkk,run_findKey q2 g1]
theorem Bj3 (ok:EnvOk E) (h:Rel Z F N s a R) (hG:OJ (Bl a) G) {o:Oper} {z:A} {ps:List Prop} (he:Bx7 E s G o=some (z,ps)) (hp:∀p∈ps,p):
  ∃v,Hv F N s.nx R z v∧∀R',Below R.heap.size R R'→Oper.quietUpon E.P (fun R''=>Below R'.heap.size R' R'') R' v ((execOp a.eval o).run E.P R'):=by
 have pure_:∀{z:A} {ps:List Prop},Ni E s G o=some (z,ps)→∃v,Hv F N s.nx R z v∧∀R',Below R.heap.size R R'→Oper.quietUpon E.P (fun R''=>Below R'.heap.size R' R'') R' v ((execOp a.eval o).run E.P R'):=fun he=>by
  obtain⟨y,h1,h2⟩:=Aht h hG he
  exact⟨y,h1,fun R' _=>D8 (h2 R')⟩
 obtain⟨dst,op,type,pos,after,guard⟩:=o
 unfold Bx7 at he
 simp only at he
 split at he
 ·split at he<;>first|(cases he;done)|skip
  rename_i x _ _ hx
  cases he
  exact⟨_,(Br h hG hx).2,fun R' _=>D8 rfl⟩
 ·split at he<;>first|(cases he;done)|skip
  rename_i x _ _ hx
  cases he
  exact⟨_,(Br h hG hx).2,fun R' _=>D8 rfl⟩
 ·obtain⟨q,h1,h2⟩:=Bti h hG he hp
  refine⟨_,h2,fun R' _=>D8 ?_⟩
  simp only[execOp,h1,asBool,Sem.run_bind,Sem.run_pure,Result.andThen_ok]
 ·rename_i x ix
  split at he
  ·rename_i r hr
   subst he
   unfold itE at hr
   split at hr<;>first|(cases hr;done)|skip
   rename_i q vs hx
   have hv:=(Br h hG hx).2
   generalize ha:a.eval x=y at hv
   cases hv with|it _ _ _ hy=>?_
   split at hr
   ·cases hr
    refine⟨_,Hv.v _,fun R' _=>D8 (D2 ?_)⟩
    rw[ha,hy]
    cases q<;>simp[Instr.extract]
   ·rename_i k
    split at hr<;>first|(cases hr;done)|skip
    rename_i v hv
    cases hr
    have hq:q=true:=hp _ (List.mem_singleton.2 rfl)
    subst hq
    refine⟨_,Hv.v _,fun R' _=>D8 (D2 ?_)⟩
    rw[ha,hy]
    simp[Instr.extract,hv]
  split at he
  ·rename_i z' hz
   cases he
   unfold Bcr at hz
   split at hz<;>first|(cases hz;done)|skip
   rename_i xs hx
   obtain⟨vs,e1,h2⟩:=(Br h hG hx).2.tup_inv
   obtain⟨v,h3,h4⟩:=h2.get (Option.some.inj hz)
   refine⟨v,h4,fun R' _=>D8 (D2 ?_)⟩
   rw[e1]
   simp[Instr.extract,h3]
  ·cases he
  ·exact pure_ he
 ·rename_i t x f
  split at he
  ·rename_i z' hz
   cases he
   unfold Bza at hz
   split at hz<;>first|(cases hz;done)|skip
   rename_i cs hx
   obtain⟨vs,e1,h2⟩:=(Br h hG hx).2.agg_inv
   split at hz<;>first|(cases hz;done)|skip
   rename_i fs hu
   split at hz<;>first|(cases hz;done)|skip
   rename_i fd hf
   obtain⟨y,h3,h4⟩:=Btx (cs:=vs.toArray) (Option.some.inj hz) (by simpa using h2.drop fd.offset)
   refine⟨y,h3,fun R' _=>D8 (D2 ?_)⟩
   rw[e1]
   have h5:=h4 R'
   simp only[Instr.field,Sem.run_bind,run_underlying hu,Result.andThen_ok,hf,asAgg,Sem.run_pure]
   exact h5
  ·cases he
  ·exact pure_ he
 ·rename_i t x f
  obtain⟨_,y,h1,h2⟩:=Br4 h hG he
  exact⟨y,h1,fun R' _=>D8 (D2 (h2 R'))⟩
 ·rename_i t x i
  obtain⟨_,y,h1,h2⟩:=Bsf h hG he hp
  exact⟨y,h1,fun R' _=>D8 (D2 (h2 R'))⟩
 ·rename_i t x
  obtain⟨y,h1,h2⟩:=Bmf h hG he hp
  exact⟨y,h1,fun R' hb=>D8 (D2 (h2 R' hb))⟩
 ·rename_i t x lo hi mx
  obtain⟨y,h1,h2⟩:=Bt1 h hG rfl he hp
  exact⟨y,h1,fun R' _=>D8 (h2 R')⟩
 ·rename_i t parts
  obtain⟨y,h1,h2⟩:=Brh h hG he
  exact⟨y,h1,fun R' _=>D8 (D2 (h2 R'))⟩
 ·rename_i x
  split at he
  ·rename_i z' hz
   cases he
   unfold B2v at hz
   split at hz<;>first|(cases hz;done)|skip
   rename_i w hx
   cases hs:Bzc w with
   |false=>rw[hs] at hz;cases hz
   | true=>
    rw[hs] at hz
    obtain rfl:w=z:=Option.some.inj hz
    have hx':=(Br h hG hx).2
    refine⟨_,hx',fun R' _=>D8 ?_⟩
    have hc:(∃ad,a.eval x=.pointer (some ad))∨∃f vs us,a.eval x=.func (.func f) vs us:=by
     cases hsu:Bt7 w with
     |true=>exact .inl (Bgf hsu hx')
     | false=>
      cases w with
      |fn f0 l1 l2=>
       obtain⟨vs,us,e1,_⟩:=hx'.fn_inv
       exact .inr ⟨_,_,_,e1⟩
      |_=>exact absurd (hs.symm.trans hsu) (fun e=>nomatch e)
    rcases hc with⟨ad,e⟩|⟨f,vs,us,e⟩
    ·simp only[execOp,e];rfl
    ·simp only[execOp,e];rfl
  ·exact pure_ he
 ·rename_i t x i
  split at he
  ·rename_i r hr
   subst he
   unfold Bt6 at hr
   split at hr<;>first|(cases hr;done)|skip
   rename_i b k n hx hi
   split at hr<;>first|(cases hr;done)|skip
   rename_i hu
   obtain⟨rfl,hd⟩:=Gd (Option.some.inj hr)
   obtain⟨h0,h1⟩:=Ka hd hp
   refine⟨_,Hv.v _,fun R' _=>D8 (D2 ?_)⟩
   rw[D7 h hG hx,D7 h hG hi]
   have hlt:n.toNat <b.size:=by omega
   have hlt':n.toNat <b.data.toList.length:=by rw[Array.length_toList];exact hlt
   have hb:b[n.toNat]?=some b.data.toList[n.toNat]:=by
    rw[getElem?_pos b n.toNat hlt]
    rfl
   have hby:Bg9 b.data.toList n.toNat=.int .u8 (b.data.toList[n.toNat]).toNat:=by
    unfold Bg9 Bp
    rw[List.getD_eq_getElem?_getD,List.getElem?_eq_getElem hlt']
    rfl
   rw[hby]
   simp[Instr.index,asIntOf,run_underlying hu,h0,hb]
  ·exact pure_ he
 ·rename_i fn first captured
  split at he<;>first|(cases he;done)|skip
  rename_i z' hz
  cases he
  unfold Byz at hz
  split at hz<;>first|(cases hz;done)|skip
  split at hz<;>first|(cases hz;done)|skip
  rename_i f _ _ xs ys hx hy
  cases hz
  refine⟨.func (.func f) (first.map a.eval) (captured.map a.eval),?_,fun R' _=>D8 rfl⟩
  have:=Hv.of_fn (f:=f) (Afn h hG hx) (Afn h hG hy)
  rwa[←Array.toList_map,←Array.toList_map,Array.toArray_toList,Array.toArray_toList] at this
 ·rename_i f args ts
  unfold A3p at he
  split at he<;>first|(cases he;done)|skip
  split at he<;>first|(cases he;done)|skip
  rename_i k w nx' o' ps' hr
  cases hk:Nat.ble k 1 with
  |false=>rw[hk] at he;cases he
  |true=>
   rw[hk] at he
   cases he
   obtain⟨g,xs,vs,h1,h2,h3⟩:=Bb0 h hG (o:={dst,op:=.call {callee:=.value f,args,argTypes:=ts},type,pos,after,guard}) rfl hr
   refine⟨w,Hv.v _,fun R' hb=>?_⟩
   rw[h3 R']
   refine⟨rfl,(Bby h.hp (ok.C g xs s.nx s.o _ _ _ _ _ h1 hp) h2 hb).mono fun e R'' ⟨y,F',N',e1,_,_,e2,e3⟩=>?_⟩
   exact⟨by rw[e1,e2.v_inv],e3 (Nat.le_of_ble_eq_true hk)⟩
 ·rename_i args ts
  have O0:∀x,args.toList=[x]→∀aa n c t e,a.eval x=.slice aa n c→ts[0]?=some t→E.P.underlying t=some (.slice e)→∀R',Below R.heap.size R R'→Oper.quietUpon E.P (fun R''=>Below R'.heap.size R' R'') R' (.int .i64 n) ((execOp a.eval {dst,op:=.call {callee:=.builtin .len,args,argTypes:=ts},type,pos,after,guard}).run E.P R'):=fun x hargs aa n c t e q1 ht hu R' _=>D8 (by
   have hx0:args=#[x]:=by rw[←Array.toArray_toList (xs:=args),hargs]
   have ha:args.map a.eval=#[.slice aa n c]:=by
    rw[hx0]
    simp[q1]
   show(do let d ←resolve a.eval _ type;invoke d.target d.args:Sem Next).run E.P R'=_
   simp[resolve,invoke,builtin,Builtin.len_,ha,ht,run_underlying hu,goInt])
  split at he
  ·rename_i r hz
   subst he
   unfold B2s at hz
   split at hz<;>first|(cases hz;done)|skip
   rename_i x hargs
   split at hz<;>first|(cases hz;done)|skip
   ·rename_i i t hx ht
    split at hz<;>first|(cases hz;done)|skip
    rename_i e' c l e hl hu
    cases hz
    obtain⟨_,zs,g2,_⟩:=Afj h.hp hl
    obtain⟨aa,cc,q1,_⟩:=g2.form
    exact⟨_,Hv.v _,O0 x hargs aa _ cc t e ((Br h hG hx).2.dq_inv.2.trans q1) ht hu⟩
   ·rename_i i k t hx ht
    split at hz<;>first|(cases hz;done)|skip
    rename_i e' c l e hl hu
    split at hz<;>first|(cases hz;done)|skip
    rename_i c' l' hin
    obtain⟨rfl,hd⟩:=Gd (Option.some.inj hz)
    have hk:=Ka hd hp
    obtain⟨e2,us,g2,_⟩:=Afi h.hp hl hk hin
    obtain⟨aa,cc,q1,_⟩:=g2.form
    exact⟨_,Hv.v _,O0 x hargs aa _ cc t e ((Br h hG hx).2.iv_inv.2.trans q1) ht hu⟩
  split at he
  ·rename_i z' hz
   cases he
   unfold B2t at hz
   split at hz<;>first|(cases hz;done)|skip
   rename_i x hargs
   split at hz<;>first|(cases hz;done)|skip
   ·rename_i hx
    split at hz<;>first|(cases hz;done)|skip
    rename_i t ht
    split at hz<;>first|(cases hz;done)|skip
    rename_i e hu
    cases hz
    obtain⟨aa,q1⟩:=(Br h hG hx).2.nl_inv
    exact⟨_,Hv.v _,O0 x hargs aa 0 0 t e q1 ht hu⟩
   ·rename_i w hnl hx
    split at hz<;>first|(cases hz;done)|skip
    rename_i n f hv
    split at hz<;>first|(cases hz;done)|skip
    rename_i t ht
    split at hz<;>first|(cases hz;done)|skip
    rename_i e hu
    cases hz
    obtain⟨aa,c,q1,_,_⟩:=Bnf h.hp hv (Br h hG hx).2
    exact⟨_,Hv.v _,O0 x hargs aa n c t e q1 ht hu⟩
  ·exact pure_ he
 ·rename_i args ts
  split at he
  ·rename_i v hv
   cases he
   refine⟨v,Hv.v _,fun R' _=>D8 ?_⟩
   have:=A4e (E:=E) h hG hv (.inl rfl) ts type (args.map fun| .const _=>true|_=>false) R'
   have ha:(args.toList.map a.eval).toArray=args.map a.eval:=by rw[←Array.toList_map,Array.toArray_toList]
   rw[ha] at this
   exact this
  ·exact pure_ he
 ·rename_i args ts
  split at he
  ·rename_i v hv
   cases he
   refine⟨v,Hv.v _,fun R' _=>D8 ?_⟩
   have:=A4e (E:=E) h hG hv (.inr rfl) ts type (args.map fun| .const _=>true|_=>false) R'
   have ha:(args.toList.map a.eval).toArray=args.map a.eval:=by rw[←Array.toList_map,Array.toArray_toList]
   rw[ha] at this
   exact this
  ·exact pure_ he
 ·rename_i src dst' x
  split at he
  ·rename_i r hr
   subst he
   obtain⟨y,h1,h2⟩:=Bnp h hG hr hp
   exact⟨y,h1,fun R' hb=>D8 (D2 (h2 R' hb))⟩
  ·exact pure_ he
 ·rename_i t x y yt
  cases hn:Ajq E s G t x y with
  |true=>
   rw[hn] at he
   cases he
   exact⟨_,Hv.v _,fun R' _=>D8 (D2 (Bcp h hG hn .eql (.inl rfl) R'))⟩
  | false=>
   rw[hn] at he
   simp only[cond_false] at he
   split at he
   ·rename_i b hb
    cases he
    exact⟨_,Hv.v _,fun R' _=>D8 (D2 (Brz ok h hG hb .eql (.inl rfl) R'))⟩
   ·cases he
   ·exact pure_ he
 ·rename_i t x y yt
  cases hn:Ajq E s G t x y with
  |true=>
   rw[hn] at he
   cases he
   exact⟨_,Hv.v _,fun R' _=>D8 (D2 (Bcp h hG hn .neq (.inr rfl) R'))⟩
  | false=>
   rw[hn] at he
   simp only[cond_false] at he
   split at he
   ·rename_i b hb
    cases he
    exact⟨_,Hv.v _,fun R' _=>D8 (D2 (Brz ok h hG hb .neq (.inr rfl) R'))⟩
   ·cases he
   ·exact pure_ he
 ·obtain⟨v,h1,h2⟩:=Ae0 h hG rfl he hp
  exact⟨v,h1,fun R' _=>D8 (h2 R')⟩
 ·obtain⟨v,h1,h2⟩:=Ae0 h hG rfl he hp
  exact⟨v,h1,fun R' _=>D8 (h2 R')⟩
 ·obtain⟨v,h1,h2⟩:=Ae0 h hG rfl he hp
  exact⟨v,h1,fun R' _=>D8 (h2 R')⟩
 ·obtain⟨v,h1,h2⟩:=Ae0 h hG rfl he hp
  exact⟨v,h1,fun R' _=>D8 (h2 R')⟩
 ·obtain⟨v,h1,h2⟩:=B0q h hG rfl he hp
  exact⟨v,h1,fun R' _=>D8 (h2 R')⟩
 ·obtain⟨v,h1,h2⟩:=Bwr h hG he
  exact⟨v,h1,fun R' hb=>D8 (D2 (h2 R' hb))⟩
 ·exact pure_ he
end
end Go.Proofs.Yteebobbhhgmeiaa
