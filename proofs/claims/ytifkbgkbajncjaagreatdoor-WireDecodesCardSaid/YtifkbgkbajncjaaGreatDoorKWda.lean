/- made by a program (rowgen.py): WireDecodes: for every input the law returns true, and each argument reads behind the call as it read before. -/
import Derived.WalkKit
import Derived.Deep.QuietTactic
import Derived.BigQuiet
import Derived.Deep.Draws
import Derived.Lib.Hide
import Derived.StillTail
import Derived.Deep.MidRow
import Derived.Laws.OwnMore
import Derived.Test.YtifkbgkbajncjaaGreatDoorProg
import Derived.RangeFuncSeq
import Derived.Lib.AppendStr
import Derived.Laws.BytesArg
import Derived.Laws.Tables
import Derived.Laws.Pointers
import Derived.Great.BuildSlice
import Derived.MapKept
import Derived.Maps.AppendAt
import Derived.Laws.MakeOwn
import Derived.Laws.CopyRow
import Derived.Laws.IdiomStrings
import Derived.OrdersIn
import Derived.TacticsIn
import Derived.LoopNIn
import Derived.RangeFuncLeaves
import Derived.RangeFuncRecord
import Derived.LoopN
import Derived.Scope
import Derived.ChangeKeysEq
import Derived.ChangeArms
import Derived.OpenShut
import Derived.ChangeShapes
import Derived.IntWalk
import Derived.Laws.RangeString
import Derived.Laws.RangeAny
import Derived.RangeFuncNested
import Derived.RangeFuncBound
import Derived.RangeFuncCalls
import Derived.RangeFuncBox
import Derived.Shelf.Abstract
import Derived.Shelf.RegionOpen
import Derived.OwnWalkIn
import Derived.TacticsInMore
import Derived.LoopIn
import Derived.RangeFuncIn
import Derived.Test.YtifkbgkbajncjaaGreatDoorRows
import Derived.ProofKit
import Derived.ShutString
import Derived.ChangeOld
import Derived.Below
import Derived.LaidMore
import Derived.Stop.Joined
import Derived.Test.YtifkbgkbajncjaaGreatDoorTie
import Derived.Test.YtifkbgkbajncjaaGreatDoorCards
import Derived.SevenTiedAt

noncomputable section
namespace Go.Proofs.YtifkbgkbajncjaaGreatDoor
open Go.RowKit
abbrev Ae:=List UInt8
abbrev Bpb:List UInt8:=[UInt8.ofNat 0,UInt8.ofNat 0,UInt8.ofNat 0,UInt8.ofNat 0,UInt8.ofNat 0,UInt8.ofNat 0,UInt8.ofNat 0,UInt8.ofNat 0,UInt8.ofNat 0,UInt8.ofNat 0,UInt8.ofNat 0,UInt8.ofNat 0,UInt8.ofNat 0,UInt8.ofNat 0,UInt8.ofNat 0,UInt8.ofNat 0,UInt8.ofNat 0,UInt8.ofNat 0,UInt8.ofNat 0,UInt8.ofNat 0,UInt8.ofNat 0,UInt8.ofNat 0,UInt8.ofNat 0,UInt8.ofNat 0,UInt8.ofNat 0,UInt8.ofNat 0,UInt8.ofNat 0,UInt8.ofNat 0,UInt8.ofNat 0,UInt8.ofNat 0,UInt8.ofNat 0,UInt8.ofNat 0]
abbrev AP:=Tryz.prog
structure Xt where
 hp:Array Obj
 dr:Nat
instance:Inhabited Xt:=⟨⟨#[],0⟩⟩
def ext (w:World) (x:Xt):World:={w with heap:=w.heap++x.hp,drawn:=x.dr}
theorem Bqs (w:World) (x:Xt):(ext w x).heap.size=w.heap.size+x.hp.size:=by simp[ext]
theorem Bmi (w:World) (x:Xt) (k:Nat) (h:k <w.heap.size):(ext w x).heap[k]?=w.heap[k]?:=by
 simp only[ext]
 exact Array.getElem?_append_left h
theorem Blo (w:World) (x:Xt):Below w.heap.size w (ext w x):=
 ⟨rfl,rfl,rfl,by rw[Bqs];omega,fun k hk=>Bmi w x k hk⟩
theorem KA {w:World} {g:Nat} {o:Obj} (h:w.heap[g]?=some o):g <w.heap.size:=by
 rcases Nat.lt_or_ge g w.heap.size with ae|dz
 ·exact ae
 ·rw[Array.getElem?_eq_none dz] at h;cases h
theorem D6 {w:World} {g:Nat} {t:TypeId} {cs:Array Value} {fz:Nat×Nat} (h:w.heap[g]?=some (.cells cs t fz)) (i:Nat):w.cell? ⟨g,i,none⟩=cs[i]?:=cell_of_row w g i cs t fz h
theorem Bc2 {w:World} {g:Nat} {t:TypeId} {cs:Array Value} (h:w.heap[g]?=some (.cells cs t (0,0))) (i:Nat):w.frozen? ⟨g,i,none⟩=false:=by
 simp[World.frozen?,h]
theorem IR {w w':World} {g:Nat} {o:Obj} (h:w.heap[g]?=some o) (hb:Below w.heap.size w w'):w'.heap[g]?=some o:=(hb.block g (KA h)).trans h
theorem cb1 {w:World} {g:Nat} {t:TypeId} {v0:Value} (h:w.heap[g]?=some (.cells #[v0] t (0,0))):w.cell? ⟨g,0,none⟩=some v0:=
 D6 h 0
theorem fb1 {w:World} {g:Nat} {t:TypeId} {v0:Value} (h:w.heap[g]?=some (.cells #[v0] t (0,0))):w.frozen? ⟨g,0,none⟩=false:=
 Bc2 h 0
theorem cb2 {w:World} {g:Nat} {t:TypeId} {v0 v1:Value} (h:w.heap[g]?=some (.cells #[v0,v1] t (0,0))):w.cell? ⟨g,0,none⟩=some v0∧w.cell? ⟨g,1,none⟩=some v1:=
 ⟨D6 h 0,D6 h 1⟩
theorem cb8 {w:World} {g:Nat} {t:TypeId} {v0 v1 v2 v3 v4 v5 v6 v7:Value} (h:w.heap[g]?=some (.cells #[v0,v1,v2,v3,v4,v5,v6,v7] t (0,0))):w.cell? ⟨g,0,none⟩=some v0∧w.cell? ⟨g,1,none⟩=some v1∧w.cell? ⟨g,2,none⟩=some v2∧w.cell? ⟨g,3,none⟩=some v3∧w.cell? ⟨g,4,none⟩=some v4∧w.cell? ⟨g,5,none⟩=some v5∧w.cell? ⟨g,6,none⟩=some v6∧w.cell? ⟨g,7,none⟩=some v7:=
 ⟨D6 h 0,D6 h 1,D6 h 2,D6 h 3,D6 h 4,D6 h 5,D6 h 6,D6 h 7⟩
theorem Qr {w:World} {n:Nat} (o:Obj) (hn:w.heap.size=n):(w.alloc o).heap[n]?=some o:=by subst hn;exact heap_alloc_new w o
theorem Aij {w:World} {k:Nat} {o':Obj} (o:Obj) (h:w.heap[k]?=some o'):(w.alloc o).heap[k]?=some o':=(Below.heap_alloc w o k (KA h)).trans h
theorem Y7 {w:World} {g i:Nat} {t:TypeId} {cs:Array Value} {fz:Nat×Nat} (h:w.heap[g]?=some (.cells cs t fz)) (v:Value):(w.setCell ⟨g,i,none⟩ v).heap[g]?=some (.cells (cs.setIfInBounds i v) t fz):=by
 simp[World.setCell,Array.getElem?_modify,h]
theorem Bb1 (w:World) (p:Addr) (v:Value):(w.setCell p v).heap.size=w.heap.size:=by simp[World.setCell]
theorem Bcx {n:Nat} {w W W1:World} (hb:Below n w W) (hz:n≤W.heap.size) (h:Below W.heap.size W W1):Below n w W1:=hb.trans (h.mono hz)
theorem Bn1 {n:Nat} {W W1:World} (hz:n≤W.heap.size) (h:Below W.heap.size W W1):n≤W1.heap.size:=Nat.le_trans hz h.size
section
variable {P:Program} {c:Code} {Q:Exit→Act→World→Prop} {a:Act} {w:World} {n:Nat}
end
section
variable {P:Program} {f:FuncId} {args:Array Value} {R:Ending→World→Prop} {w:World} {n:Nat}
end
section anyorder
variable {P:Program} {ops:Array Oper} {Q:Exit→Act→World→Prop}
def unl (listed:Array Bool):Nat:=listed.toList.count false
theorem QT {listed:Array Bool} {i:Nat} (h:listed.getD i true=false):i <listed.size:=by
 rcases Nat.lt_or_ge i listed.size with h'|h'
 ·exact h'
 ·simp[Array.getElem?_eq_none h'] at h
theorem Ble {listed:Array Bool} {i:Nat} (h:listed.getD i true=false):unl (listed.setIfInBounds i true)+1=unl listed:=by
 have hi:=QT h
 have hv:listed[i]=false:=by simpa[hi] using h
 have hl:i <listed.toList.length:=by simpa using hi
 have ed:listed.toList[i]=false:=by simpa using hv
 have hp:0 <listed.toList.count false:=List.count_pos_iff.2 (by rw[←ed];exact List.getElem_mem hl)
 unfold unl
 rw[Array.toList_setIfInBounds,List.count_set hl]
 simp only[ed,beq_self_eq_true,↓reduceIte]
 have:(true==false)=false:=rfl
 simp only[this,Bool.false_eq_true,↓reduceIte]
 omega
theorem Ay9 (n:Nat):unl (Array.replicate n false)≤n:=by
 unfold unl
 simp
def A7a (ops:Array Oper):Bool:=(List.range ops.size).all fun i=>((ops[i]?).map fun o=>o.after.all fun e=>!Region.binds .any e||decide (e.on <i)).getD true
theorem Bcv (h:A7a ops=true) {i:Nat} {o:Oper} (ho:ops[i]?=some o) {e:Edge} (he:e∈o.after) (hb:Region.binds .any e=true):e.on <i:=by
 have hi:i <ops.size:=(Array.getElem?_eq_some_iff.1 ho).1
 have h1:=List.all_eq_true.1 h i (List.mem_range.2 hi)
 simp only[ho,Option.map_some,Option.getD_some] at h1
 have h2:=Array.all_eq_true_iff_forall_mem.1 h1 e he
 simpa[hb] using h2
theorem Bct (hb:A7a ops=true) {listed:Array Bool} (_hz:listed.size=ops.size) (hr:Region.ready .any ops listed=[]):∀i,i <ops.size→listed.getD i false=true:=by
 intro i
 induction i using Nat.strongRecOn with
 | _ i ih=>
  intro hi
  cases hl:listed.getD i false with
  |true=>rfl
  | false=>
   exfalso
   obtain⟨o,ho⟩:∃o,ops[i]?=some o:=⟨_,Array.getElem?_eq_getElem hi⟩
   have j7:i∈Region.ready .any ops listed:=mem_ready.2 ⟨getD_in (by omega) hl,o,ho,fun e he aq=>by
    have ae:=Bcv hb ho he aq
    exact ih _ ae (by omega)⟩
   rw[hr] at j7
   cases j7
end anyorder
structure Al where
 j:Nat
 s:Nat
 o0:Obj
 o1:Obj
def skp (al:List Al) (k:Nat):Bool:=al.any fun e=>e.j==k||e.s==k
section walk
variable (P:Program) (ops:Array Oper) (C:World→Prop) (sk:Nat→Bool)
variable {P ops C sk}
theorem GJ (a:Act) (d t:Nat) (v:Value):(a.put (some d) v).tmps.getD t undef=if d=t∧d <a.tmps.size then v else a.tmps.getD t undef:=by
 simp only[Act.put,Array.getD_eq_getD_getElem?,Array.getElem?_setIfInBounds]
 by_cases h:d=t
 ·subst h
  by_cases h2:d <a.tmps.size
  ·simp[h2]
  ·simp[h2]
 ·simp[h]
theorem X9 (a:Act) (d:Option Tmp) (v:Value):(a.put d v).tmps.size=a.tmps.size:=by cases d<;>simp[Act.put]
theorem SW (a:Act) (d:Option Tmp) (v:Value):(a.put d v).defers=a.defers:=by cases d<;>rfl
def B26 (aF:Act) (o:Oper):Value:=match o.dst with|some d=>aF.tmps.getD d undef|none=>undef
def Agk (ops:Array Oper) (sk:Nat→Bool) (aF a0:Act):Nat→Act
 |0=>a0
 |k+1=>match ops[k]? with
  |some o=>if sk k then Agk ops sk aF a0 k else(Agk ops sk aF a0 k).put o.dst (B26 aF o)
  |none=>Agk ops sk aF a0 k
theorem Uw (aF a0:Act):∀k,(Agk ops sk aF a0 k).tmps.size=a0.tmps.size
 |0=>rfl
 | k+1=>by
  unfold Agk
  split
  ·split
   ·exact Uw aF a0 k
   ·rw[X9];exact Uw aF a0 k
  ·exact Uw aF a0 k
theorem A81 {aF a0:Act} {t:Nat}:∀k,(∀i j o o' d,i <j→j <k→ops[i]?=some o→ops[j]?=some o'→o.dst=some d→o'.dst≠some d)→
  (∀i o,i <k→sk i=false→ops[i]?=some o→o.dst=some t→t <a0.tmps.size→(Agk ops sk aF a0 k).tmps.getD t undef=aF.tmps.getD t undef)∧
  ((∀i o,i <k→sk i=false→ops[i]?=some o→o.dst≠some t)→(Agk ops sk aF a0 k).tmps.getD t undef=a0.tmps.getD t undef)
 |0,_=>⟨fun i o h=>by omega,fun _=>rfl⟩
 | k + 1,hd=>by
  obtain⟨h1,h2⟩:=A81 (aF:=aF) (a0:=a0) (t:=t) k fun i j o o' d jm hj=>hd i j o o' d jm (by omega)
  have hu:Agk ops sk aF a0 (k+1)=match ops[k]? with
   |some o=>if sk k then Agk ops sk aF a0 k else(Agk ops sk aF a0 k).put o.dst (B26 aF o)
   |none=>Agk ops sk aF a0 k:=by conv=>lhs;unfold Agk
  constructor
  ·intro i o hi qg ho bh ht
   by_cases xu:i=k
   ·subst xu
    rw[hu]
    simp only[ho,qg,Bool.false_eq_true,↓reduceIte,bh,B26]
    rw[GJ,if_pos ⟨rfl,by rw[Uw];exact ht⟩]
   ·have h3:=h1 i o (by omega) qg ho bh ht
    rw[hu]
    split
    ·rename_i p hp
     split
     ·exact h3
     ·have ao:=hd i k o p t (by omega) (by omega) ho hp bh
      cases hpd:p.dst with
      |none=>exact h3
      |some e=>
       rw[GJ,if_neg]
       ·exact h3
       ·rintro⟨rfl,_⟩;exact ao hpd
    ·exact h3
  ·intro dc
   have h3:=h2 fun i o hi=>dc i o (by omega)
   rw[hu]
   split
   ·rename_i p hp
    split
    ·exact h3
    ·rename_i sw
     have ao:=dc k p (by omega) (by simpa using sw) hp
     cases hpd:p.dst with
     |none=>exact h3
     |some e=>
      rw[GJ,if_neg]
      ·exact h3
      ·rintro⟨rfl,_⟩;exact ao hpd
   ·exact h3
end walk
section par
variable {P:Program} {ops:Array Oper} {Q:Exit→Act→World→Prop}
def Bth (ops:Array Oper) (o o':Oper):Bool:=
 (match o.dst with|some d=>(o'.looksAt ops).contains d|none=>false)||(match o'.dst with|some d=>(o.looksAt ops).contains d|none=>false)
structure Byw (ops:Array Oper) (n:Nat) (al:List Al):Prop where
 back:A7a ops=true
 nosel:Region.noSelect ops=true
 n_le:n≤ops.size
 dst:∀i j o o' d,i <j→j <n→ops[i]?=some o→ops[j]?=some o'→o.dst=some d→o'.dst≠some d
 ord:∀i j o o' d,i <j→j <n→ops[i]?=some o→ops[j]?=some o'→(o.dst=some d∧d∈o'.looksAt ops∨o'.dst=some d∧d∈o.looksAt ops)→Region.waitsFor .any ops j i=true
 blind:∀e∈al,∀i o o' d,i <n→skp al i=false→ops[i]?=some o→ops[e.j]?=some o'→o'.dst=some d→d∉o.looksAt ops
 als:∀e∈al,e.j <n∧e.s <n∧Region.waitsFor .any ops e.s e.j=true∧∃o o' d t y,ops[e.j]?=some o∧ops[e.s]?=some o'∧o.guard=none∧o'.guard=none∧o'.dst=none∧o.dst=some d∧o'.op=.store t (.tmp d) y∧
  ∀u,y=.tmp u→(∀e'∈al,∀p,ops[e'.j]?=some p→p.dst≠some u)∧∀k p,e.s <k→k <n→ops[k]?=some p→p.dst≠some u
 nodup:(al.map (·.j)++al.map (·.s)).Nodup
 tail:n=ops.size∨(Region.sinkB .any ops n=true∧Region.chainB .any ops n=true)
theorem Vq {a a':Act} (o:Oper) (hs:∀cs b,o.op≠.select cs b) (h:∀t∈o.looksAt ops,a'.tmps.getD t undef=a.tmps.getD t undef):execOp a'.eval o=execOp a.eval o:=
 execOp_congr o hs fun x hx=>by
  cases x with
  |tmp t=>exact h t (List.mem_append_left _ (List.mem_filterMap.2 ⟨.tmp t,by simpa using hx,rfl⟩))
  |_=>rfl
theorem A54 {a a':Act} (o:Oper) (hz:a'.tmps.size=a.tmps.size) (h:∀t∈o.looksAt ops,a'.tmps.getD t undef=a.tmps.getD t undef):Region.wanted o (yielded ops a'.tmps)=Region.wanted o (yielded ops a.tmps):=by
 unfold Region.wanted
 cases hg:o.guard with
 |none=>rfl
 | some gw=>
  obtain⟨g,want⟩:=gw
  have hy:yielded ops a'.tmps g=yielded ops a.tmps g:=by
   unfold yielded
   cases ht:(ops[g]?).bind (·.dst) with
   |none=>rfl
   | some t=>
    have:=h t (by simp[Oper.looksAt,hg,ht])
    simp only[Option.bind_some]
    by_cases ae:t <a.tmps.size
    ·have bu:t <a'.tmps.size:=by rw[hz];exact ae
     simp only[Array.getD_eq_getD_getElem?,Array.getElem?_eq_getElem ae,Array.getElem?_eq_getElem bu,Option.getD_some] at this
     rw[Array.getElem?_eq_getElem ae,Array.getElem?_eq_getElem bu,this]
    ·rw[Array.getElem?_eq_none (by rw[hz];exact Nat.le_of_not_lt ae),Array.getElem?_eq_none (Nat.le_of_not_lt ae)]
  simp only[hy]
theorem GK {listed:Array Bool} {i k:Nat} (hi:i <listed.size):(listed.setIfInBounds i true).getD k false=true↔k=i∨listed.getD k false=true:=by
 by_cases h:i=k
 ·subst h;simp[hi]
 ·rw[getD_set_ne false h]
  exact⟨.inr,fun h'=>h'.resolve_left fun e=>h e.symm⟩
def B6g (b:Nat):Value:=.pointer (some ⟨b,0,none⟩)
def vOf (al:List Al) (aF:Act) (β:Nat→Nat) (k d:Nat):Value:=if al.any (·.j==k) then B6g (β k) else aF.tmps.getD d undef
structure Head (ops:Array Oper) (n:Nat) (al:List Al) (aF a0:Act) (w0:World) (listed:Array Bool) (a:Act) (w:World) (β:Nat→Nat):Prop where
 inv:HeadInv .any ops n listed
 defers:a.defers=a0.defers
 size:a.tmps.size=a0.tmps.size
 s1:∀k o d,k <n→ops[k]?=some o→o.dst=some d→d <a0.tmps.size→listed.getD k false=true→a.tmps.getD d undef=vOf al aF β k d
 s2:∀d,(∀k o,k <n→ops[k]?=some o→listed.getD k false=true→o.dst≠some d)→a.tmps.getD d undef=a0.tmps.getD d undef
 bel:Below w0.heap.size w0 w
 blk:∀e∈al,listed.getD e.j false=true→w0.heap.size≤β e.j∧w.heap[β e.j]?=some (if listed.getD e.s false then e.o1 else e.o0)
 inj:∀e∈al,∀e'∈al,listed.getD e.j false=true→listed.getD e'.j false=true→e.j≠e'.j→β e.j≠β e'.j
variable {n:Nat} {al:List Al} {aF a0:Act} {w0:World} {listed:Array Bool} {a:Act} {w:World} {β:Nat→Nat} {i:Nat}
theorem Mr {j k:Nat} {o:Oper} (h:Region.waitsFor .any ops j k=true) (ho:ops[j]?=some o) (ai:∀e∈o.after,Region.binds .any e=true→listed.getD e.on false=true):listed.getD k false=true:=by
 obtain⟨o',ho',e,he,hb,yj⟩:=Region.waitsFor_spec h
 have:o'=o:=Option.some.inj (ho'.symm.trans ho)
 subst this
 rw[←yj]
 exact ai e he hb
theorem Head.slot (ok:Byw ops n al) (h:Head ops n al aF a0 w0 listed a w β) {oi:Oper} (hi:i <n) (la:ops[i]?=some oi) (mn:listed.getD i false=false)
  (ai:∀e∈oi.after,Region.binds .any e=true→listed.getD e.on false=true) {t:Nat} (ht:t∈oi.looksAt ops) (kj:∀e∈al,∀p,ops[e.j]?=some p→p.dst≠some t):
  a.tmps.getD t undef=(Agk ops (skp al) aF a0 i).tmps.getD t undef:=by
 have hd:∀p q o o' d,p <q→q <i→ops[p]?=some o→ops[q]?=some o'→o.dst=some d→o'.dst≠some d:=fun p q o o' d h1 h2=>ok.dst p q o o' d h1 (by omega)
 obtain⟨l1,l2⟩:=A81 (ops:=ops) (sk:=skp al) (aF:=aF) (a0:=a0) (t:=t) i hd
 have qg:∀k o,k <n→ops[k]?=some o→o.dst=some t→skp al k=false:=by
  intro k o hk ho bh
  cases hs:skp al k with
  |false=>rfl
  | true=>
   exfalso
   obtain⟨e,he,u7⟩:=List.any_eq_true.1 hs
   simp only[Bool.or_eq_true,beq_iff_eq] at u7
   rcases u7 with rfl|rfl
   ·exact kj e he o ho bh
   ·obtain⟨_,_,_,_,o',_,_,_,_,ho',_,_,hn,_⟩:=ok.als e he
    have:o'=o:=Option.some.inj (ho'.symm.trans ho)
    subst this
    rw[hn] at bh
    cases bh
 by_cases hw:∃k o,k <n∧ops[k]?=some o∧o.dst=some t
 ·obtain⟨k,o,hk,ho,bh⟩:=hw
  have hs:=qg k o hk ho bh
  have fq:∀k' o',k' <n→ops[k']?=some o'→o'.dst=some t→k'=k:=by
   intro k' o' ak ho' ck
   rcases Nat.lt_trichotomy k' k with ae|heq|ig
   ·exact absurd bh (ok.dst k' k o' o t ae hk ho' ho ck)
   ·exact heq
   ·exact absurd ck (ok.dst k k' o o' t ig ak ho ho' bh)
  rcases Nat.lt_or_ge k i with ae|dz
  ·have pe:=ok.ord k i o oi t ae hi ho la (.inl ⟨bh,ht⟩)
   have hl:=Mr pe la ai
   by_cases bu:t <a0.tmps.size
   ·rw[h.s1 k o t hk ho bh bu hl,l1 k o ae hs ho bh bu]
    unfold vOf
    rw[if_neg]
    intro ra
    obtain⟨e,he,ur⟩:=List.any_eq_true.1 ra
    simp only[beq_iff_eq] at ur
    subst ur
    exact kj e he o ho bh
   ·have e1:a.tmps.getD t undef=undef:=by
     rw[Array.getD_eq_getD_getElem?,Array.getElem?_eq_none (by rw[h.size];exact Nat.le_of_not_lt bu)];rfl
    have e2:(Agk ops (skp al) aF a0 i).tmps.getD t undef=undef:=by
     rw[Array.getD_eq_getD_getElem?,Array.getElem?_eq_none (by rw[Uw];exact Nat.le_of_not_lt bu)];rfl
    rw[e1,e2]
  ·have fg:listed.getD k false=false:=by
    by_cases gp:k=i
    ·subst gp;exact mn
    ·cases fg:listed.getD k false with
     |false=>rfl
     |true=>
      have pe:=ok.ord i k oi o t (by omega) hk la ho (.inr ⟨bh,ht⟩)
      have:=Mr pe ho (h.inv.closed k o ho fg)
      rw[mn] at this
      cases this
   rw[h.s2 t fun k' o' ak ho' bm ck=>by
    have:=fq k' o' ak ho' ck
    subst this
    rw[fg] at bm
    cases bm]
   rw[l2 fun k' o' ak _ ho' ck=>by
    have:=fq k' o' (by omega) ho' ck
    omega]
 ·rw[h.s2 t fun k' o' ak ho' _ ck=>hw ⟨k',o',ak,ho',ck⟩]
  rw[l2 fun k' o' ak _ ho' ck=>hw ⟨k',o',by omega,ho',ck⟩]
theorem Head.put (ok:Byw ops n al) (h:Head ops n al aF a0 w0 listed a w β) (_hz:listed.size=ops.size) {oi:Oper} (hr:i∈Region.ready .any ops listed) (hi:i <n) (la:ops[i]?=some oi) (v:Value) (β':Nat→Nat) (w':World)
  (hβ:∀k,k≠i→β' k=β k)
  (hv:∀d,oi.dst=some d→d <a0.tmps.size→v=vOf al aF β' i d)
  (rf:Below w0.heap.size w0 w')
  (ly:∀e∈al,(listed.setIfInBounds i true).getD e.j false=true→w0.heap.size≤β' e.j∧w'.heap[β' e.j]?=some (if(listed.setIfInBounds i true).getD e.s false then e.o1 else e.o0))
  (ry:∀e∈al,∀e'∈al,(listed.setIfInBounds i true).getD e.j false=true→(listed.setIfInBounds i true).getD e'.j false=true→e.j≠e'.j→β' e.j≠β' e'.j):
  Head ops n al aF a0 w0 (listed.setIfInBounds i true) (a.put oi.dst v) w' β':=by
 have au:i <listed.size:=QT (mem_ready.1 hr).1
 refine⟨h.inv.set hr hi,by rw[SW,h.defers],by rw[X9,h.size],?_,?_,rf,ly,ry⟩
 ·intro k o d hk ho hd ae hl
  by_cases gp:k=i
  ·subst gp
   have:o=oi:=Option.some.inj (ho.symm.trans la)
   subst this
   rw[hd,GJ,if_pos ⟨rfl,by rw[h.size];exact ae⟩]
   exact hv d hd ae
  ·have bm:=((GK au).1 hl).resolve_left gp
   have ao:oi.dst≠some d:=by
    rcases Nat.lt_or_ge k i with bu|dz
    ·exact ok.dst k i o oi d bu hi ho la hd
    ·intro ja
     exact ok.dst i k oi o d (by omega) hk la ho ja hd
   have hx:(a.put oi.dst v).tmps.getD d undef=a.tmps.getD d undef:=by
    cases ja:oi.dst with
    |none=>rfl
    |some e=>
     rw[GJ,if_neg]
     rintro⟨rfl,_⟩
     exact ao ja
   rw[hx,h.s1 k o d hk ho hd ae bm]
   unfold vOf
   rw[hβ k gp]
 ·intro d dc
  have ao:oi.dst≠some d:=dc i oi hi la ((GK au).2 (.inl rfl))
  have hx:(a.put oi.dst v).tmps.getD d undef=a.tmps.getD d undef:=by
   cases ja:oi.dst with
   |none=>rfl
   |some e=>
    rw[GJ,if_neg]
    rintro⟨rfl,_⟩
    exact ao ja
  rw[hx]
  exact h.s2 d fun k o hk ho hl=>dc k o hk ho ((GK au).2 (.inr hl))
end par
section
variable {P:Program} {Q:Exit→Act→World→Prop} {id:Nat} {l:List Oper} {a:Act} {w:World}
end
structure Sx (w:World) (n:Nat) (L:List (Nat×Obj)) (W:World):Prop where
 bel:Below n w W
 sz:n≤W.heap.size
 has:∀e∈L,W.heap[e.1]?=some e.2
variable {w W W':World} {n m:Nat} {L:List (Nat×Obj)} {o:Obj}
theorem Sx.start (hn:w.heap.size=n):Sx w n [] w:=⟨Below.refl _ _,Nat.le_of_eq hn.symm,fun _ h=>by cases h⟩
theorem Sx.call (h:Sx w n L W) (hb:Below W.heap.size W W'):Sx w n L W':=
 ⟨Bcx h.bel h.sz hb,Bn1 h.sz hb,fun e he=>IR (h.has e he) hb⟩
theorem Sx.grow (h:Sx w n L W) (x:Xt):Sx w n L (ext W x):=h.call (Blo W x)
theorem Sx.push (h:Sx w n L W) (hm:W.heap.size=m) (hb:Below m W W') (ho:W'.heap[m]?=some o):Sx w n ((m,o)::L) W':=by
 subst hm
 have h':=h.call hb
 exact⟨h'.bel,h'.sz,fun e he=>by
  rcases List.mem_cons.1 he with rfl|he
  ·exact ho
  ·exact h'.has e he⟩
theorem Sx.new (h:Sx w n L W) (hb:Below W.heap.size W W') (ho:W'.heap[m]?=some o):Sx w n ((m,o)::L) W':=by
 have h':=h.call hb
 exact⟨h'.bel,h'.sz,fun e he=>by
  rcases List.mem_cons.1 he with rfl|he
  ·exact ho
  ·exact h'.has e he⟩
theorem Sx.add (h:Sx w n L W) (ho:W.heap[m]?=some o):Sx w n ((m,o)::L) W:=
 ⟨h.bel,h.sz,fun e he=>by
  rcases List.mem_cons.1 he with rfl|he
  ·exact ho
  ·exact h.has e he⟩
theorem Sx.get {e:Nat×Obj} (h:Sx w n L W) (i:Nat) (hi:L[i]?=some e):W.heap[e.1]?=some e.2:=h.has e (List.mem_of_getElem? hi)
theorem Sx.lt {e:Nat×Obj} (h:Sx w n L W) (i:Nat) (hi:L[i]?=some e):e.1 <W.heap.size:=KA (h.get i hi)
theorem Sx.weak (h:Sx w n L W) (L':List (Nat×Obj)) (hl:∀e∈L',e∈L):Sx w n L' W:=⟨h.bel,h.sz,fun e he=>h.has e (hl e he)⟩
end Go.Proofs.YtifkbgkbajncjaaGreatDoor
namespace Go.Proofs.YtifkbgkbajncjaaGreatDoor
open Go.RowKit
structure BE where
 a:Int
 b:Int
structure A1 where
 n:Int
 site:Int
structure Ax where
 stamp:A1
 vec:BE
 gone:Bool
 value:ByteArray
 dead:BE
structure AR where
 key:ByteArray
 cells:List Ax
structure Ab where
 name:ByteArray
 policy:Int
structure AU where
 key:ByteArray
 group:Int
 gone:Bool
 value:ByteArray
structure Ao where
 site:Int
 seq:Int
 stamp:A1
 vec:BE
 writes:List AU
structure U3 where
 key:ByteArray
 group:Int
structure Bk where
 kind:Int
 site:Int
 change:Ao
 ack:Int
 own:Int
 path:List Int
 sums:List Ae
 rows:List AR
 know:BE
 back:Bool
inductive TC where
 |u8|i64|u32|bool|str|vec|stamp|cell|row|group|write|change|place|msg|bytes|ints|cells|rows|digest
abbrev U:TC→Type
 | .u8=>UInt8
 | .i64=>Int
 | .u32=>Int
 | .bool=>Bool
 | .str=>ByteArray
 | .vec=>BE
 | .stamp=>A1
 | .cell=>Ax
 | .row=>AR
 | .group=>Ab
 | .write=>AU
 | .change=>Ao
 | .place=>U3
 | .msg=>Bk
 | .bytes=>Ae
 | .ints=>List Int
 | .cells=>List Ax
 | .rows=>List AR
 | .digest=>Ae
def Av:(c:TC)→U c
 | .u8=>(0:UInt8)
 | .i64=>(0:Int)
 | .u32=>(0:Int)
 | .bool=>(false:Bool)
 | .str=>(ByteArray.empty:ByteArray)
 | .vec=>(⟨0,0⟩:BE)
 | .stamp=>(⟨0,0⟩:A1)
 | .cell=>(⟨⟨0,0⟩,⟨0,0⟩,false,ByteArray.empty,⟨0,0⟩⟩:Ax)
 | .row=>(⟨ByteArray.empty,[]⟩:AR)
 | .group=>(⟨ByteArray.empty,0⟩:Ab)
 | .write=>(⟨ByteArray.empty,0,false,ByteArray.empty⟩:AU)
 | .change=>(⟨0,0,⟨0,0⟩,⟨0,0⟩,[]⟩:Ao)
 | .place=>(⟨ByteArray.empty,0⟩:U3)
 | .msg=>(⟨0,0,⟨0,0,⟨0,0⟩,⟨0,0⟩,[]⟩,0,0,[],[],[],⟨0,0⟩,false⟩:Bk)
 | .bytes=>([]:Ae)
 | .ints=>([]:List Int)
 | .cells=>([]:List Ax)
 | .rows=>([]:List AR)
 | .digest=>([]:Ae)
def size:TC→Nat
 | .u8=>1
 | .i64=>1
 | .u32=>1
 | .bool=>1
 | .str=>1
 | .vec=>2
 | .stamp=>2
 | .cell=>8
 | .row=>2
 | .group=>2
 | .write=>4
 | .change=>7
 | .place=>2
 | .msg=>17
 | .bytes=>1
 | .ints=>1
 | .cells=>1
 | .rows=>1
 | .digest=>32
def TC.isAgg:TC→Bool
 | .u8=>false
 | .i64=>false
 | .u32=>false
 | .bool=>false
 | .str=>false
 | .vec=>true
 | .stamp=>true
 | .cell=>true
 | .row=>true
 | .group=>true
 | .write=>true
 | .change=>true
 | .place=>true
 | .msg=>true
 | .bytes=>false
 | .ints=>false
 | .cells=>false
 | .rows=>false
 | .digest=>true
def TC.same:(c c':TC)→Option (PLift (c=c'))
 | .u8,.u8=>some ⟨rfl⟩
 | .i64,.i64=>some ⟨rfl⟩
 | .u32,.u32=>some ⟨rfl⟩
 | .bool,.bool=>some ⟨rfl⟩
 | .str,.str=>some ⟨rfl⟩
 | .vec,.vec=>some ⟨rfl⟩
 | .stamp,.stamp=>some ⟨rfl⟩
 | .cell,.cell=>some ⟨rfl⟩
 | .row,.row=>some ⟨rfl⟩
 | .group,.group=>some ⟨rfl⟩
 | .write,.write=>some ⟨rfl⟩
 | .change,.change=>some ⟨rfl⟩
 | .place,.place=>some ⟨rfl⟩
 | .msg,.msg=>some ⟨rfl⟩
 | .bytes,.bytes=>some ⟨rfl⟩
 | .ints,.ints=>some ⟨rfl⟩
 | .cells,.cells=>some ⟨rfl⟩
 | .rows,.rows=>some ⟨rfl⟩
 | .digest,.digest=>some ⟨rfl⟩
 |_,_=>none
def RQ {c c':TC} (h:c=c') (l:List (U c)):List (U c'):=h▸l
def BN (b:UInt8):Value:=.int .u8 b.toNat
inductive A where
 |v (x:Value)
 |sl (c:TC) (l:List (U c))
 |ref (l:List A)
 |own (i off:Nat)
 |ownx (i base len k:Nat)
 |sq (i:Nat)
 |vw (i size lo n:Nat) (full:Bool)
 |el (i k size off:Nat)
 |dq (i:Nat)
 |iv (i k:Nat)
 |de (i k size off:Nat)
 |ie (i k j size off:Nat)
 |mp (i:Nat)
 |nl
 |it (q:Bool) (vs:List Value)
 |fn (f:FuncId) (first caps:List A)
 |agg (xs:List A)
 |tup (xs:List A)
 |opt (u:Nat) (b:Bool) (x:A)
 |dead
 |av (c:TC) (n:Nat) (l:List (U c))
 |rv (xs:List A)
 |vr (i base lo m:Nat)
 |vd (i base m cap:Nat)
 |yl (i:Nat)
abbrev iV (n:Int):A:=.v (.int .i64 n)
def enc:(c:TC)→U c→List A
 | .u8,(x:UInt8)=>[.v (BN x)]
 | .i64,(x:Int)=>[.v (.int .i64 x)]
 | .u32,(x:Int)=>[.v (.int .u32 x)]
 | .bool,(x:Bool)=>[.v (.bool x)]
 | .str,(x:ByteArray)=>[.v (.string x)]
 | .vec,(x:BE)=>[.v (.int .i64 x.a),.v (.int .i64 x.b)]
 | .stamp,(x:A1)=>[.v (.int .i64 x.n),.v (.int .i64 x.site)]
 | .cell,(x:Ax)=>[.v (.int .i64 x.stamp.n),.v (.int .i64 x.stamp.site),.v (.int .i64 x.vec.a),.v (.int .i64 x.vec.b),.v (.bool x.gone),.v (.string x.value),.v (.int .i64 x.dead.a),.v (.int .i64 x.dead.b)]
 | .row,(x:AR)=>[.v (.string x.key),.sl .cell x.cells]
 | .group,(x:Ab)=>[.v (.string x.name),.v (.int .i64 x.policy)]
 | .write,(x:AU)=>[.v (.string x.key),.v (.int .i64 x.group),.v (.bool x.gone),.v (.string x.value)]
 | .change,(x:Ao)=>[.v (.int .i64 x.site),.v (.int .i64 x.seq),.v (.int .i64 x.stamp.n),.v (.int .i64 x.stamp.site),.v (.int .i64 x.vec.a),.v (.int .i64 x.vec.b),.sl .write x.writes]
 | .place,(x:U3)=>[.v (.string x.key),.v (.int .i64 x.group)]
 | .msg,(x:Bk)=>[.v (.int .i64 x.kind),.v (.int .i64 x.site),.v (.int .i64 x.change.site),.v (.int .i64 x.change.seq),.v (.int .i64 x.change.stamp.n),.v (.int .i64 x.change.stamp.site),.v (.int .i64 x.change.vec.a),.v (.int .i64 x.change.vec.b),.sl .write x.change.writes,.v (.int .i64 x.ack),.v (.int .i64 x.own),.sl .i64 x.path,.sl .digest x.sums,.sl .row x.rows,.v (.int .i64 x.know.a),.v (.int .i64 x.know.b),.v (.bool x.back)]
 | .bytes,(x:Ae)=>[.sl .u8 x]
 | .ints,(x:List Int)=>[.sl .i64 x]
 | .cells,(x:List Ax)=>[.sl .cell x]
 | .rows,(x:List AR)=>[.sl .row x]
 | .digest,(x:Ae)=>[.v (BN (x.getD 0 0)),.v (BN (x.getD 1 0)),.v (BN (x.getD 2 0)),.v (BN (x.getD 3 0)),.v (BN (x.getD 4 0)),.v (BN (x.getD 5 0)),.v (BN (x.getD 6 0)),.v (BN (x.getD 7 0)),.v (BN (x.getD 8 0)),.v (BN (x.getD 9 0)),.v (BN (x.getD 10 0)),.v (BN (x.getD 11 0)),.v (BN (x.getD 12 0)),.v (BN (x.getD 13 0)),.v (BN (x.getD 14 0)),.v (BN (x.getD 15 0)),.v (BN (x.getD 16 0)),.v (BN (x.getD 17 0)),.v (BN (x.getD 18 0)),.v (BN (x.getD 19 0)),.v (BN (x.getD 20 0)),.v (BN (x.getD 21 0)),.v (BN (x.getD 22 0)),.v (BN (x.getD 23 0)),.v (BN (x.getD 24 0)),.v (BN (x.getD 25 0)),.v (BN (x.getD 26 0)),.v (BN (x.getD 27 0)),.v (BN (x.getD 28 0)),.v (BN (x.getD 29 0)),.v (BN (x.getD 30 0)),.v (BN (x.getD 31 0))]
def TC.one:TC→Bool
 | .u8| .i64| .u32| .bool| .str=>true
 |_=>false
def sv (c:TC) (d:U c):Value:=match enc c d with
 | .v x::_=>x
 |_=>undef
theorem Ai8 {c:TC} (h:c.one=true) (d:U c):enc c d=[.v (sv c d)]:=by cases c<;>first|rfl|cases h
theorem Bb3 {c:TC} (h:c.one=true):size c=1:=by cases c<;>first|rfl|cases h
theorem Adg (c:TC) (d:U c):(enc c d).length=size c:=by cases c<;>rfl
def A.plainCell:A→Prop
 | .v x=>x.oneCell'=true
 | .sl _ _=>True
 |_=>False
theorem Uk (c:TC) (d:U c):∀x∈enc c d,x.plainCell:=by
 cases c<;>(intro x hx;simp only[enc,List.mem_cons,List.not_mem_nil,or_false] at hx;repeat' (rcases hx with rfl|hx))<;>first|trivial|rfl|(subst hx;trivial)|(subst hx;rfl)
abbrev Got (α:Type):=Option (α×List A×List Prop)
def gI:List A→List Prop→Got Int
 | .v (.int .i64 n)::r,ps=>some (n,r,ps)
 |_,_=>none
def gW:List A→List Prop→Got Int
 | .v (.int .u32 n)::r,ps=>some (n,r,ps)
 |_,_=>none
def gB:List A→List Prop→Got Bool
 | .v (.bool b)::r,ps=>some (b,r,ps)
 |_,_=>none
def gT:List A→List Prop→Got ByteArray
 | .v (.string s)::r,ps=>some (s,r,ps)
 |_,_=>none
def gU:List A→List Prop→Got UInt8
 | .v (.int .u8 n)::r,ps=>some (UInt8.ofNat n.toNat,r,(0≤n∧n <256)::ps)
 |_,_=>none
def gL (c:TC):List A→List Prop→Got (List (U c))
 | .sl c' l::r,ps=>match TC.same c' c with
  |some h=>some (RQ h.down l,r,ps)
  |none=>none
 | .v (.slice none 0 0)::r,ps=>some ([],r,ps)
 | .nl::r,ps=>some ([],r,ps)
 |_,_=>none
def Got.thn {α β:Type}:Got α→(α→List A→List Prop→Option β)→Option β
 |none,_=>none
 |some (x,r,ps),f=>f x r ps
def RM {α:Type}:List A→α→List Prop→Option (α×List Prop)
 | [],x,ps=>some (x,ps)
 |_::_,_,_=>none
def dec:(c:TC)→List A→Option (U c×List Prop)
 | .u8,cs=>(gU cs []).thn fun x0 r ps=>RM r (x0:UInt8) ps
 | .i64,cs=>(gI cs []).thn fun x0 r ps=>RM r (x0:Int) ps
 | .u32,cs=>(gW cs []).thn fun x0 r ps=>RM r (x0:Int) ps
 | .bool,cs=>(gB cs []).thn fun x0 r ps=>RM r (x0:Bool) ps
 | .str,cs=>(gT cs []).thn fun x0 r ps=>RM r (x0:ByteArray) ps
 | .vec,cs=>(gI cs []).thn fun x0 r ps=>(gI r ps).thn fun x1 r ps=>RM r (⟨x0,x1⟩:BE) ps
 | .stamp,cs=>(gI cs []).thn fun x0 r ps=>(gI r ps).thn fun x1 r ps=>RM r (⟨x0,x1⟩:A1) ps
 | .cell,cs=>(gI cs []).thn fun x0 r ps=>(gI r ps).thn fun x1 r ps=>(gI r ps).thn fun x2 r ps=>(gI r ps).thn fun x3 r ps=>(gB r ps).thn fun x4 r ps=>(gT r ps).thn fun x5 r ps=>(gI r ps).thn fun x6 r ps=>(gI r ps).thn fun x7 r ps=>RM r (⟨⟨x0,x1⟩,⟨x2,x3⟩,x4,x5,⟨x6,x7⟩⟩:Ax) ps
 | .row,cs=>(gT cs []).thn fun x0 r ps=>(gL .cell r ps).thn fun x1 r ps=>RM r (⟨x0,x1⟩:AR) ps
 | .group,cs=>(gT cs []).thn fun x0 r ps=>(gI r ps).thn fun x1 r ps=>RM r (⟨x0,x1⟩:Ab) ps
 | .write,cs=>(gT cs []).thn fun x0 r ps=>(gI r ps).thn fun x1 r ps=>(gB r ps).thn fun x2 r ps=>(gT r ps).thn fun x3 r ps=>RM r (⟨x0,x1,x2,x3⟩:AU) ps
 | .change,cs=>(gI cs []).thn fun x0 r ps=>(gI r ps).thn fun x1 r ps=>(gI r ps).thn fun x2 r ps=>(gI r ps).thn fun x3 r ps=>(gI r ps).thn fun x4 r ps=>(gI r ps).thn fun x5 r ps=>(gL .write r ps).thn fun x6 r ps=>RM r (⟨x0,x1,⟨x2,x3⟩,⟨x4,x5⟩,x6⟩:Ao) ps
 | .place,cs=>(gT cs []).thn fun x0 r ps=>(gI r ps).thn fun x1 r ps=>RM r (⟨x0,x1⟩:U3) ps
 | .msg,cs=>(gI cs []).thn fun x0 r ps=>(gI r ps).thn fun x1 r ps=>(gI r ps).thn fun x2 r ps=>(gI r ps).thn fun x3 r ps=>(gI r ps).thn fun x4 r ps=>(gI r ps).thn fun x5 r ps=>(gI r ps).thn fun x6 r ps=>(gI r ps).thn fun x7 r ps=>(gL .write r ps).thn fun x8 r ps=>(gI r ps).thn fun x9 r ps=>(gI r ps).thn fun ti r ps=>(gL .i64 r ps).thn fun tj r ps=>(gL .digest r ps).thn fun tk r ps=>(gL .row r ps).thn fun tl r ps=>(gI r ps).thn fun tn r ps=>(gI r ps).thn fun tp r ps=>(gB r ps).thn fun tq r ps=>RM r (⟨x0,x1,⟨x2,x3,⟨x4,x5⟩,⟨x6,x7⟩,x8⟩,x9,ti,tj,tk,tl,⟨tn,tp⟩,tq⟩:Bk) ps
 | .bytes,cs=>(gL .u8 cs []).thn fun x0 r ps=>RM r (x0:Ae) ps
 | .ints,cs=>(gL .i64 cs []).thn fun x0 r ps=>RM r (x0:List Int) ps
 | .cells,cs=>(gL .cell cs []).thn fun x0 r ps=>RM r (x0:List Ax) ps
 | .rows,cs=>(gL .row cs []).thn fun x0 r ps=>RM r (x0:List AR) ps
 | .digest,cs=>(gU cs []).thn fun x0 r ps=>(gU r ps).thn fun x1 r ps=>(gU r ps).thn fun x2 r ps=>(gU r ps).thn fun x3 r ps=>(gU r ps).thn fun x4 r ps=>(gU r ps).thn fun x5 r ps=>(gU r ps).thn fun x6 r ps=>(gU r ps).thn fun x7 r ps=>(gU r ps).thn fun x8 r ps=>(gU r ps).thn fun x9 r ps=>(gU r ps).thn fun ti r ps=>(gU r ps).thn fun tj r ps=>(gU r ps).thn fun tk r ps=>(gU r ps).thn fun tl r ps=>(gU r ps).thn fun tn r ps=>(gU r ps).thn fun tp r ps=>(gU r ps).thn fun tq r ps=>(gU r ps).thn fun zh r ps=>(gU r ps).thn fun zi r ps=>(gU r ps).thn fun zj r ps=>(gU r ps).thn fun zk r ps=>(gU r ps).thn fun zm r ps=>(gU r ps).thn fun zn r ps=>(gU r ps).thn fun zo r ps=>(gU r ps).thn fun zp r ps=>(gU r ps).thn fun zq r ps=>(gU r ps).thn fun zr r ps=>(gU r ps).thn fun zt r ps=>(gU r ps).thn fun zu r ps=>(gU r ps).thn fun zv r ps=>(gU r ps).thn fun zw r ps=>(gU r ps).thn fun zx r ps=>RM r ([x0,x1,x2,x3,x4,x5,x6,x7,x8,x9,ti,tj,tk,tl,tn,tp,tq,zh,zi,zj,zk,zm,zn,zo,zp,zq,zr,zt,zu,zv,zw,zx]:Ae) ps
theorem B5p {l r:List A} {ps qs:List Prop} {n:Int} (h:gI l ps=some (n,r,qs)):l=iV n::r∧qs=ps:=by
 unfold gI at h;split at h<;>first|(cases h;exact⟨rfl,rfl⟩)|(cases h;done)
theorem B5y {l r:List A} {ps qs:List Prop} {n:Int} (h:gW l ps=some (n,r,qs)):l=.v (.int .u32 n)::r∧qs=ps:=by
 unfold gW at h;split at h<;>first|(cases h;exact⟨rfl,rfl⟩)|(cases h;done)
theorem B5n {l r:List A} {ps qs:List Prop} {n:Bool} (h:gB l ps=some (n,r,qs)):l=.v (.bool n)::r∧qs=ps:=by
 unfold gB at h;split at h<;>first|(cases h;exact⟨rfl,rfl⟩)|(cases h;done)
theorem B5t {l r:List A} {ps qs:List Prop} {n:ByteArray} (h:gT l ps=some (n,r,qs)):l=.v (.string n)::r∧qs=ps:=by
 unfold gT at h;split at h<;>first|(cases h;exact⟨rfl,rfl⟩)|(cases h;done)
theorem B5w {l r:List A} {ps qs:List Prop} {n:UInt8} (h:gU l ps=some (n,r,qs)) (hq:∀q∈qs,q):l=.v (BN n)::r∧∀q∈ps,q:=by
 unfold gU at h
 split at h<;>try (cases h;done)
 rename_i m _
 cases h
 have h1:=hq _ (List.mem_cons_self ..)
 refine⟨?_,fun q hm=>hq q (List.mem_cons_of_mem _ hm)⟩
 have:((UInt8.ofNat m.toNat).toNat:Int)=m:=by
  rw[UInt8.toNat_ofNat']
  omega
 unfold BN
 rw[this]
theorem B5r {c:TC} {l r:List A} {ps qs:List Prop} {n:List (U c)} (h:gL c l ps=some (n,r,qs)):(l=.sl c n::r∨((l=.v (.slice none 0 0)::r∨l=.nl::r)∧n=[]))∧qs=ps:=by
 unfold gL at h
 split at h<;>try (cases h;done)
 ·rename_i c' m _ _
  split at h<;>try (cases h;done)
  rename_i hc _
  obtain⟨hc⟩:=hc
  subst hc
  cases h
  exact⟨.inl rfl,rfl⟩
 ·cases h
  exact⟨.inr ⟨.inl rfl,rfl⟩,rfl⟩
 ·cases h
  exact⟨.inr ⟨.inr rfl,rfl⟩,rfl⟩
structure GT where
 c:TC
 one:c.one=true
 l:List (U c)
def B7p:Nat→(c:TC)→List (U c)→(Nat→Option Obj)→Value→Prop:=fun _ _ _ _ _=>False
def Aay:List (Nat×GT):=[(0,⟨.str,rfl,[⟨#[]⟩,⟨#[100,97,116,97]⟩,⟨#[97,99,107]⟩,⟨#[97,115,107]⟩,⟨#[116,101,108,108]⟩,⟨#[108,101,97,102]⟩]⟩)]
def K7:List (List A)→Nat→List A
 | [],_=>[]
 |x::_,0=>x
 |_::r,n+1=>K7 r n
inductive FY where
 |lst (cs:List (List A))
 |ty (c:TC) (l:List (U c))
def FY.n:FY→Nat
 | .lst cs=>cs.length
 | .ty _ l=>l.length
def FY.nth:FY→Nat→List A
 | .lst cs,k=>K7 cs k
 | .ty c l,k=>enc c (l.getD k (Av c))
def A5j (l:Nat):Code→Option (Array Tmp×Code×Code)
 | .seq a b=>match A5j l a with
  |some x=>some x
  |none=>A5j l b
 | .cond _ x y=>match A5j l x with
  |some x=>some x
  |none=>A5j l y
 | .block id b=>match Nat.beq id l,b with
  |true,.rangeFunc _ ps ag bo=>some (ps,ag,bo)
  |_,_=>A5j l b
 | .loop b=>A5j l b
 | .scope b=>A5j l b
 | .rangeFunc _ _ _ b=>A5j l b
 |_=>none
structure LC where
 ps:Array Tmp
 assign:Code
 body:Code
 n:Nat
def K6 (f b:Nat):LC:=match Tryz.prog.funcs[f]? with
 | some fn=>(match fn.body with
  |some c=>(match A5j b c with
   |some (ps,ag,bo)=>⟨ps,ag,bo,fn.ntmps⟩
   |none=>⟨#[],.skip,.skip,0⟩)
  |none=>⟨#[],.skip,.skip,0⟩)
 |none=>⟨#[],.skip,.skip,0⟩
def Br3:Nat→LoopState
 |0=> .ready
 |1=> .busy
 |_=> .done
def Bmt:Nat→Option Code
 |0=>none
 |1=>none
 |2=>some .ret
 |k+3=>some (.exit k)
def B0n (f b:Nat) (us:List Nat) (k:Nat) (vs:List Value) (o:Option Obj):Prop:=∃r:Loop,o=some (.loop r)∧r.params=(K6 f b).ps∧r.assign=(K6 f b).assign∧r.body=(K6 f b).body∧r.tmps.size=(K6 f b).n∧r.state=Br3 k∧r.pending=Bmt k∧
 ∀(j u:Nat) (v:Value),us[j]?=some u→vs[j]?=some v→r.tmps.getD u undef=v
theorem B0n.lt {f b:Nat} {us:List Nat} {k:Nat} {vs:List Value} {R:World} {g:Nat} (h:B0n f b us k vs R.heap[g]?):g <R.heap.size:=by
 obtain⟨r,h,_⟩:=h
 exact(Array.getElem?_eq_some_iff.1 h).1
inductive Ob where
 |box (e:TypeId) (cs:List A)
 |arr (e:TypeId) (size:Nat) (els:FY)
 |map (k v:TC) (l:List (U k×U v))
 |sit (s:ByteArray) (pos:Nat)
 |deep (e:TypeId) (c:TC) (l:List (U c))
 |rcd (e:TypeId) (xs:List A)
 |abs (m:Nat) (c:TC) (l:List (U c))
 |lp (f b:Nat) (us:List Nat) (cs:List A) (k:Nat)
abbrev Gc:=List (Nat×A)
abbrev AE:=List (Nat×Option Ob)
def Aww:Bool→Bool→Bool
 |true,true=>true
 |false,false=>true
 |_,_=>false
theorem Zq {a b:Bool} (h:Aww a b=true):a=b:=by cases a<;>cases b<;>first|rfl|cases h
theorem QD (k:Nat):Nat.beq k k=true:=by simp
theorem Ary {k j:Nat} (h:k≠j):Nat.beq k j=false:=by
 cases hb:Nat.beq k j with
 |true=>exact absurd (Nat.eq_of_beq_eq_true hb) h
 |false=>rfl
def DV (u:Nat):Gc→Option A
 | []=>none
 |(k,x)::r=>bif Nat.beq k u then some x else DV u r
def Ai (i:Nat):AE→Option Ob
 | []=>none
 |(k,x)::r=>bif Nat.beq k i then x else Ai i r
structure St where
 n:Nat
 nx:Nat
 t:Gc
 o:AE
structure Nm where
 b:Nat→Nat
 q:Nat→Value
def IN:Value→Addr
 | .slice (some a) _ _=>a
 |_=>⟨0,0,none⟩
def Hz:Value→Option Nat
 | .slice (some a) _ (_+1)=>some a.block
 |_=>none
theorem Fa (ad:Addr) (i j:Nat):(ad.add i).add j=ad.add (i+j):=by
 unfold Addr.add
 by_cases hi:i=0<;>by_cases hj:j=0<;>simp[hi,hj,Nat.add_assoc]
theorem IQ (ad:Addr) (i:Nat):(ad.add i).block=ad.block:=by unfold Addr.add;split<;>rfl
theorem D7 (b o k:Nat):(⟨b,o,none⟩:Addr).add k=⟨b,o+k,none⟩:=Addr.add_mid b o k
theorem add_zero (ad:Addr):ad.add 0=ad:=by unfold Addr.add;simp
def fam (v:Value) (k:Nat):Value:=match v with
 | .agg ws=>ws.getD k undef
 |_=>undef
theorem IZ {v:Value} (h:v.oneCell'=true):v.cells.toList=[v]:=by cases v<;>first|rfl|cases h
def Oq:A→Bool
 | .av _ _ _=>true
 |_=>false
def Bi0 (vs:List Value):List Value:=vs.flatMap fun v=>v.cells.toList
inductive Hv (F:Nat→Prop) (N:Nm) (nx:Nat) (R:World):A→Value→Prop
 |v (x:Value):Hv F N nx R (.v x) x
 | sl {c:TC} {l:List (U c)} {a:Option Addr} {cap:Nat} (ad:Addr) (h1:l.length≤cap) (h2:0 <l.length→a=some ad∧F ad.block)
   (h3:∀(i:Nat) (d:U c) (j:Nat) (x:A),l[i]?=some d→(enc c d)[j]?=some x→∃y,R.cell? (ad.add (i*size c+j))=some y)
   (h4:∀(i:Nat) (d:U c) (j:Nat) (x:A) (y:Value),l[i]?=some d→(enc c d)[j]?=some x→R.cell? (ad.add (i*size c+j))=some y→Hv F N nx R x y):Hv F N nx R (.sl c l) (.slice a l.length cap)
 | ref {l:List A} (ad:Addr) (h1:F ad.block) (h2:∀(j:Nat) (x:A),l[j]?=some x→∃y,R.cell? (ad.add j)=some y)
   (h3:∀(j:Nat) (x:A) (y:Value),l[j]?=some x→R.cell? (ad.add j)=some y→Hv F N nx R x y):Hv F N nx R (.ref l) (.pointer (some ad))
 |own {i off:Nat} (h:i <nx):Hv F N nx R (.own i off) (.pointer (some ⟨N.b i,off,none⟩))
 |ownx {i base len k:Nat} (h:i <nx):Hv F N nx R (.ownx i base len k) (.pointer (some ⟨N.b i,base+k,none⟩))
 |sq {i:Nat} (h:i <nx):Hv F N nx R (.sq i) (N.q i)
 |vw {i size lo n:Nat} {full:Bool} {a:Option Addr} {cap:Nat} (h:i <nx) (h1:n≤cap) (h2:full=true→cap=n) (h3:0 <n→a=some ((IN (N.q i)).add (lo*size))):Hv F N nx R (.vw i size lo n full) (.slice a n cap)
 |el {i k size off:Nat} (h:i <nx):Hv F N nx R (.el i k size off) (.pointer (some ((IN (N.q i)).add (k*size+off))))
 |dq {i:Nat} (h:i <nx):Hv F N nx R (.dq i) (fam (N.q i) 0)
 |iv {i k:Nat} (h:i <nx):Hv F N nx R (.iv i k) (fam (N.q i) (k+1))
 |de {i k size off:Nat} (h:i <nx):Hv F N nx R (.de i k size off) (.pointer (some ((IN (fam (N.q i) 0)).add (k*size+off))))
 |ie {i k j size off:Nat} (h:i <nx):Hv F N nx R (.ie i k j size off) (.pointer (some ((IN (fam (N.q i) (k+1))).add (j*size+off))))
 |mp {i:Nat} (h:i <nx):Hv F N nx R (.mp i) (.map (some (N.b i)))
 |nl (a:Option Addr):Hv F N nx R .nl (.slice a 0 0)
 |it (q:Bool) (vs:List Value) (y:Value) (h:y=bif q then .tuple (Value.bool true::vs).toArray else .tuple #[.bool false]):Hv F N nx R (.it q vs) y
 | fn {f:FuncId} {first caps:List A} (vs us:List Value) (h1:vs.length=first.length) (h2:∀(j:Nat) (x:A) (v:Value),first[j]?=some x→vs[j]?=some v→Hv F N nx R x v)
   (h3:us.length=caps.length) (h4:∀(j:Nat) (x:A) (v:Value),caps[j]?=some x→us[j]?=some v→Hv F N nx R x v):Hv F N nx R (.fn f first caps) (.func (.func f) vs.toArray us.toArray)
 |agg {xs:List A} (vs:List Value) (h1:vs.length=xs.length) (h2:∀(j:Nat) (x:A) (v:Value),xs[j]?=some x→vs[j]?=some v→Hv F N nx R x v):Hv F N nx R (.agg xs) (.agg vs.toArray)
 |tup {xs:List A} (vs:List Value) (h1:vs.length=xs.length) (h2:∀(j:Nat) (x:A) (v:Value),xs[j]?=some x→vs[j]?=some v→Hv F N nx R x v):Hv F N nx R (.tup xs) (.tuple vs.toArray)
 |dead (y:Value):Hv F N nx R .dead y
 |av {c:TC} {n:Nat} {l:List (U c)} (h1:c.one=true) (h2:l.length=n):Hv F N nx R (.av c n l) (.agg (l.map (sv c)).toArray)
 |rv {xs:List A} (vs:List Value) (h1:vs.length=xs.length) (h2:∀(j:Nat) (x:A) (v:Value),xs[j]?=some x→vs[j]?=some v→Hv F N nx R x v) (h3:∀(j:Nat) (x:A) (v:Value),xs[j]?=some x→vs[j]?=some v→Oq x=false→v.oneCell'=true):Hv F N nx R (.rv xs) (.agg (Bi0 vs).toArray)
 |vr {i base lo m:Nat} (ad:Addr) (h:i <nx) (h1:0 <m→ad=⟨N.b i,base+lo,none⟩):Hv F N nx R (.vr i base lo m) (.slice (some ad) m m)
 |vd {i base m cap:Nat} (h:i <nx):Hv F N nx R (.vd i base m cap) (.slice (some ⟨N.b i,base,none⟩) m cap)
 |yl {i:Nat} (h:i <nx):Hv F N nx R (.yl i) (.func (.yield (N.b i)) #[] #[])
def HL (F:Nat→Prop) (N:Nm) (nx:Nat) (R:World):List A→List Value→Prop
 | [],l=>l=[]
 |x::r,l=>∃v vs,l=v::vs∧Hv F N nx R x v∧HL F N nx R r vs
def HC (F:Nat→Prop) (N:Nm) (nx:Nat) (R:World) (l:List A) (ad:Addr):Prop:=∀(j:Nat) (x:A),l[j]?=some x→∃y,R.cell? (ad.add j)=some y∧Hv F N nx R x y
section
variable {F:Nat→Prop} {N:Nm} {nx:Nat} {R:World}
theorem HL.nil:HL F N nx R [] []:=rfl
theorem HL.cons {x:A} {v:Value} {r:List A} {vs:List Value} (h:Hv F N nx R x v) (t:HL F N nx R r vs):HL F N nx R (x::r) (v::vs):=⟨v,vs,rfl,h,t⟩
theorem HL.inv {x:A} {r:List A} {l:List Value} (h:HL F N nx R (x::r) l):∃v vs,l=v::vs∧Hv F N nx R x v∧HL F N nx R r vs:=h
theorem HL.inv0 {l:List Value} (h:HL F N nx R [] l):l=[]:=h
theorem HL.length:∀{xs:List A} {vs:List Value},HL F N nx R xs vs→vs.length=xs.length
 | [],_,h=>by rw[h.inv0];rfl
 |_::_,_,h=>by
  obtain⟨v,vs,rfl,_,h3⟩:=h.inv
  rw[List.length_cons,List.length_cons,HL.length h3]
theorem HL.append:∀{xs ys:List A} {vs us:List Value},HL F N nx R xs vs→HL F N nx R ys us→HL F N nx R (xs++ys) (vs++us)
 | [],_,_,_,h,k=>by rw[h.inv0];exact k
 |_::_,_,_,_,h,k=>by
  obtain⟨v,vs,rfl,h2,h3⟩:=h.inv
  exact HL.cons h2 (HL.append h3 k)
theorem HL.drop:∀(n:Nat) {xs:List A} {vs:List Value},HL F N nx R xs vs→HL F N nx R (xs.drop n) (vs.drop n)
 |0,_,_,h=>h
 |_+1,[],_,h=>by rw[h.inv0];exact HL.nil
 |n+1,_::_,_,h=>by
  obtain⟨v,vs,rfl,_,h3⟩:=h.inv
  exact HL.drop n h3
theorem HL.take:∀(n:Nat) {xs:List A} {vs:List Value},HL F N nx R xs vs→HL F N nx R (xs.take n) (vs.take n)
 |0,_,_,_=>by rw[List.take_zero,List.take_zero];exact HL.nil
 |_+1,[],_,h=>by rw[h.inv0];exact HL.nil
 |n+1,_::_,_,h=>by
  obtain⟨v,vs,rfl,h2,h3⟩:=h.inv
  exact HL.cons h2 (HL.take n h3)
theorem HL.get:∀{xs:List A} {vs:List Value} {j:Nat} {x:A},HL F N nx R xs vs→xs[j]?=some x→∃v,vs[j]?=some v∧Hv F N nx R x v
 | [],_,_,_,_,h=>by cases h
 |_::_,_,0,_,h,hx=>by
  obtain⟨v,vs,rfl,h2,_⟩:=h.inv
  cases hx
  exact⟨v,rfl,h2⟩
 |_::_,_,j+1,_,h,hx=>by
  obtain⟨v,vs,rfl,_,h3⟩:=h.inv
  exact HL.get (j:=j) h3 hx
theorem HL.of:∀{xs:List A} {vs:List Value},vs.length=xs.length→(∀(j:Nat) (x:A) (v:Value),xs[j]?=some x→vs[j]?=some v→Hv F N nx R x v)→HL F N nx R xs vs
 | [],vs,h,_=>List.eq_nil_of_length_eq_zero h
 |x::r,[],h,_=>by cases h
 |x::r,v::vs,h,k=>HL.cons (k 0 x v rfl rfl) (HL.of (by simpa using h) fun j y u hy hu=>k (j+1) y u hy hu)
theorem HL.at {xs:List A} {vs:List Value} (h:HL F N nx R xs vs):vs.length=xs.length∧∀(j:Nat) (x:A) (v:Value),xs[j]?=some x→vs[j]?=some v→Hv F N nx R x v:=by
 refine⟨h.length,fun j x v hx hv=>?_⟩
 obtain⟨u,h1,h2⟩:=h.get hx
 rw[hv] at h1
 cases h1
 exact h2
theorem HL.split:∀{xs ys:List A} {vs:List Value},HL F N nx R (xs++ys) vs→∃us ws,vs=us++ws∧HL F N nx R xs us∧HL F N nx R ys ws
 | [],_,vs,h=>⟨[],vs,rfl,HL.nil,h⟩
 |_::_,_,_,h=>by
  obtain⟨v,vs,rfl,h2,h3⟩:=h.inv
  obtain⟨us,ws,rfl,h4,h5⟩:=HL.split h3
  exact⟨v::us,ws,rfl,HL.cons h2 h4,h5⟩
def toL:List Value→List A
 | []=>[]
 |x::r=> .v x::toL r
theorem Hv.v_inv {x y:Value} (h:Hv F N nx R (.v x) y):y=x:=by cases h;rfl
theorem HL.toL:∀xs:List Value,HL F N nx R (toL xs) xs
 | []=>HL.nil
 |_::r=>HL.cons (Hv.v _) (HL.toL r)
def A5d:List A→Option (List Value)
 | []=>some []
 | .v x::r=>match A5d r with
  |some l=>some (x::l)
  |none=>none
 |_::_=>none
theorem Bkp:∀{xs:List A} {us:List Value},A5d xs=some us→xs=Go.Proofs.YtifkbgkbajncjaaGreatDoor.toL us
 | [],us,e=>by cases e;rfl
 |x::r,us,e=>by
  cases x<;>try (cases e;done)
  unfold A5d at e
  split at e<;>try (cases e;done)
  rename_i l hl
  cases e
  rw[Bkp hl]
  rfl
theorem Blc:∀{us vs:List Value},HL F N nx R (Go.Proofs.YtifkbgkbajncjaaGreatDoor.toL us) vs→vs=us
 | [],_,h=>h.inv0
 |u::r,_,h=>by
  obtain⟨v,vs,rfl,h2,h3⟩:=HL.inv (x:=.v u) (r:=Go.Proofs.YtifkbgkbajncjaaGreatDoor.toL r) h
  rw[h2.v_inv,Blc h3]
theorem A5e {xs:List A} {us vs:List Value} (e:A5d xs=some us) (h:HL F N nx R xs vs):vs=us:=by
 rw[Bkp e] at h
 exact Blc h
theorem Hv.agg_inv {xs:List A} {y:Value} (h:Hv F N nx R (.agg xs) y):∃vs,y=.agg vs.toArray∧HL F N nx R xs vs:=by
 cases h with|agg vs h1 h2=>exact⟨vs,rfl,HL.of h1 h2⟩
theorem Hv.tup_inv {xs:List A} {y:Value} (h:Hv F N nx R (.tup xs) y):∃vs,y=.tuple vs.toArray∧HL F N nx R xs vs:=by
 cases h with|tup vs h1 h2=>exact⟨vs,rfl,HL.of h1 h2⟩
theorem Hv.fn_inv {f:FuncId} {xs ys:List A} {y:Value} (h:Hv F N nx R (.fn f xs ys) y):∃vs us,y=.func (.func f) vs.toArray us.toArray∧HL F N nx R xs vs∧HL F N nx R ys us:=by
 cases h with|fn vs us h1 h2 h3 h4=>exact⟨vs,us,rfl,HL.of h1 h2,HL.of h3 h4⟩
theorem Hv.of_agg {xs:List A} {vs:List Value} (h:HL F N nx R xs vs):Hv F N nx R (.agg xs) (.agg vs.toArray):=.agg vs h.at.1 h.at.2
theorem Hv.of_tup {xs:List A} {vs:List Value} (h:HL F N nx R xs vs):Hv F N nx R (.tup xs) (.tuple vs.toArray):=.tup vs h.at.1 h.at.2
theorem Hv.of_fn {f:FuncId} {xs ys:List A} {vs us:List Value} (h:HL F N nx R xs vs) (k:HL F N nx R ys us):Hv F N nx R (.fn f xs ys) (.func (.func f) vs.toArray us.toArray):=.fn vs us h.at.1 h.at.2 k.at.1 k.at.2
theorem Hv.ref_inv {l:List A} {y:Value} (h:Hv F N nx R (.ref l) y):∃ad,y=.pointer (some ad)∧F ad.block∧HC F N nx R l ad:=by
 cases h with|ref ad h1 h2 h3=>exact⟨ad,rfl,h1,fun j x hx=>by obtain⟨y,hy⟩:=h2 j x hx;exact⟨y,hy,h3 j x y hx hy⟩⟩
theorem Hv.of_ref {l:List A} {ad:Addr} (h:F ad.block) (k:HC F N nx R l ad):Hv F N nx R (.ref l) (.pointer (some ad)):=
 .ref ad h (fun j x hx=>by obtain⟨y,hy,_⟩:=k j x hx;exact⟨y,hy⟩) fun j x y hx hy=>by
  obtain⟨z,hz,h2⟩:=k j x hx
  rw[hy] at hz
  cases hz
  exact h2
theorem Hv.sl_inv {c:TC} {l:List (U c)} {y:Value} (h:Hv F N nx R (.sl c l) y):∃a cap,y=.slice a l.length cap∧l.length≤cap∧(0 <l.length→∃ad,a=some ad∧F ad.block∧∀(i:Nat) (d:U c),l[i]?=some d→HC F N nx R (enc c d) (ad.add (i*size c))):=by
 cases h with
 | @sl _ _ a cap ad h1 h2 h3 h4=>
  refine⟨a,cap,rfl,h1,fun hn=>⟨ad,(h2 hn).1,(h2 hn).2,fun i d hd j x hx=>?_⟩⟩
  obtain⟨y,hy⟩:=h3 i d j x hd hx
  exact⟨y,by rw[Fa];exact hy,h4 i d j x y hd hx hy⟩
theorem Hv.of_sl {c:TC} {l:List (U c)} {a:Option Addr} {cap:Nat} (h1:l.length≤cap) (h2:0 <l.length→∃ad,a=some ad∧F ad.block∧∀(i:Nat) (d:U c),l[i]?=some d→HC F N nx R (enc c d) (ad.add (i*size c))):Hv F N nx R (.sl c l) (.slice a l.length cap):=by
 by_cases hn:0 <l.length
 ·obtain⟨ad,e1,e2,e3⟩:=h2 hn
  refine .sl ad h1 (fun _=>⟨e1,e2⟩) (fun i d j x hd hx=>?_) (fun i d j x y hd hx hy=>?_)
  ·obtain⟨y,hy,_⟩:=e3 i d hd j x hx
   rw[Fa] at hy
   exact⟨y,hy⟩
  ·obtain⟨z,hz,h⟩:=e3 i d hd j x hx
   rw[Fa,hy] at hz
   cases hz
   exact h
 ·obtain rfl:l=[]:=List.eq_nil_of_length_eq_zero (by omega)
  exact .sl ⟨0,0,none⟩ h1 (fun h=>absurd h (Nat.lt_irrefl _)) (fun i d j x hd=>by cases i<;>cases hd) (fun i d j x y hd=>by cases i<;>cases hd)
theorem Hv.nl_inv {y:Value} (h:Hv F N nx R .nl y):∃a,y=.slice a 0 0:=by
 cases h with|nl a=>exact⟨a,rfl⟩
theorem Hv.sl_nil {c:TC} {a:Option Addr} {y:Value} (h:y=.slice a 0 0):Hv F N nx R (.sl c []) y:=by
 subst h
 exact Hv.of_sl (l:=([]:List (U c))) (Nat.le_refl _) fun h=>absurd h (Nat.lt_irrefl _)
end
structure Ext (F:Nat→Prop) (N:Nm) (nx:Nat) (R:World) (F':Nat→Prop) (N':Nm) (nx':Nat) (R':World):Prop where
 le:nx≤nx'
 b:∀i,i <nx→N'.b i=N.b i
 q:∀i,i <nx→N'.q i=N.q i
 f:∀g,F g→F' g
 heap:∀g,F g→R'.heap[g]?=R.heap[g]?
section
variable {F F' F'':Nat→Prop} {N N' N'':Nm} {nx nx' nx'':Nat} {R R' R'':World}
theorem Ext.refl:Ext F N nx R F N nx R:=⟨Nat.le_refl _,fun _ _=>rfl,fun _ _=>rfl,fun _ h=>h,fun _ _=>rfl⟩
theorem Ext.trans (h:Ext F N nx R F' N' nx' R') (k:Ext F' N' nx' R' F'' N'' nx'' R''):Ext F N nx R F'' N'' nx'' R'':=
 ⟨Nat.le_trans h.le k.le,fun i hi=>(k.b i (Nat.lt_of_lt_of_le hi h.le)).trans (h.b i hi),fun i hi=>(k.q i (Nat.lt_of_lt_of_le hi h.le)).trans (h.q i hi),fun g hg=>k.f g (h.f g hg),fun g hg=>(k.heap g (h.f g hg)).trans (h.heap g hg)⟩
theorem Ext.cell (st:Ext F N nx R F' N' nx' R') {ad:Addr} (h:F ad.block):R'.cell? ad=R.cell? ad:=World.cell?_of_block (w:=R) (st.heap _ h)
theorem Hv.step (st:Ext F N nx R F' N' nx' R') {x:A} {y:Value} (h:Hv F N nx R x y):Hv F' N' nx' R' x y:=by
 induction h with
 |v x=>exact .v x
 | @sl c l a cap ad h1 h2 h3 h4 ih=>
  have key:∀i d j,l[i]?=some d→R'.cell? (ad.add (i*size c+j))=R.cell? (ad.add (i*size c+j)):=fun i d j hd=>by
   refine st.cell ?_
   rw[IQ]
   exact(h2 (by have:=(List.getElem?_eq_some_iff.1 hd).1;omega)).2
  refine .sl ad h1 (fun hn=>⟨(h2 hn).1,st.f _ (h2 hn).2⟩) (fun i d j x hd hx=>?_) (fun i d j x y hd hx hy=>?_)
  ·rw[key i d j hd];exact h3 i d j x hd hx
  ·rw[key i d j hd] at hy;exact ih i d j x y hd hx hy
 | @ref l ad h1 h2 h3 ih=>
  have key:∀j,R'.cell? (ad.add j)=R.cell? (ad.add j):=fun j=>st.cell (by rw[IQ];exact h1)
  refine .ref ad (st.f _ h1) (fun j x hx=>by rw[key];exact h2 j x hx) (fun j x y hx hy=>?_)
  rw[key] at hy
  exact ih j x y hx hy
 |own h=>rw[←st.b _ h];exact .own (Nat.lt_of_lt_of_le h st.le)
 |ownx h=>rw[←st.b _ h];exact .ownx (Nat.lt_of_lt_of_le h st.le)
 |sq h=>rw[←st.q _ h];exact .sq (Nat.lt_of_lt_of_le h st.le)
 |vw h h1 h2 h3=>exact .vw (Nat.lt_of_lt_of_le h st.le) h1 h2 (fun hn=>by rw[st.q _ h];exact h3 hn)
 |el h=>rw[←st.q _ h];exact .el (Nat.lt_of_lt_of_le h st.le)
 |dq h=>rw[←st.q _ h];exact .dq (Nat.lt_of_lt_of_le h st.le)
 |iv h=>rw[←st.q _ h];exact .iv (Nat.lt_of_lt_of_le h st.le)
 |de h=>rw[←st.q _ h];exact .de (Nat.lt_of_lt_of_le h st.le)
 |ie h=>rw[←st.q _ h];exact .ie (Nat.lt_of_lt_of_le h st.le)
 |mp h=>rw[←st.b _ h];exact .mp (Nat.lt_of_lt_of_le h st.le)
 |nl a=>exact .nl a
 |it q vs y h=>exact .it q vs y h
 |fn vs us h1 _ h3 _ jh ji=>exact .fn vs us h1 jh h3 ji
 |agg vs h1 _ ih=>exact .agg vs h1 ih
 |tup vs h1 _ ih=>exact .tup vs h1 ih
 |dead y=>exact .dead y
 |av h1 h2=>exact .av h1 h2
 |rv vs h1 _ h3 ih=>exact .rv vs h1 ih h3
 |vr ad h h1=>exact .vr ad (Nat.lt_of_lt_of_le h st.le) (fun hm=>by rw[st.b _ h];exact h1 hm)
 |vd h=>rw[←st.b _ h];exact .vd (Nat.lt_of_lt_of_le h st.le)
 |yl h=>rw[←st.b _ h];exact .yl (Nat.lt_of_lt_of_le h st.le)
theorem HL.step (st:Ext F N nx R F' N' nx' R'):∀{xs:List A} {vs:List Value},HL F N nx R xs vs→HL F' N' nx' R' xs vs
 | [],_,h=>h
 |_::_,_,⟨v,vs,h1,h2,h3⟩=>⟨v,vs,h1,h2.step st,HL.step st h3⟩
theorem HC.step (st:Ext F N nx R F' N' nx' R') {xs:List A} {ad:Addr} (hF:F ad.block) (h:HC F N nx R xs ad):HC F' N' nx' R' xs ad:=fun j x hx=>by
 obtain⟨y,h1,h2⟩:=h j x hx
 exact⟨y,by rw[st.cell (by rw[IQ];exact hF)];exact h1,h2.step st⟩
end
mutual
def A.ren (ρ:Nat→Nat):A→A
 | .own i off=> .own (ρ i) off
 | .ownx i base len k=> .ownx (ρ i) base len k
 | .sq i=> .sq (ρ i)
 | .vw i size lo n full=> .vw (ρ i) size lo n full
 | .el i k size off=> .el (ρ i) k size off
 | .dq i=> .dq (ρ i)
 | .iv i k=> .iv (ρ i) k
 | .de i k size off=> .de (ρ i) k size off
 | .ie i k j size off=> .ie (ρ i) k j size off
 | .mp i=> .mp (ρ i)
 | .fn f first caps=> .fn f (renL ρ first) (renL ρ caps)
 | .agg xs=> .agg (renL ρ xs)
 | .tup xs=> .tup (renL ρ xs)
 | .ref l=> .ref (renL ρ l)
 | .opt u b x=> .opt u b (x.ren ρ)
 | .v x=> .v x
 | .sl c l=> .sl c l
 | .nl=> .nl
 | .it q vs=> .it q vs
 | .dead=> .dead
 | .av c n l=> .av c n l
 | .rv xs=> .rv (renL ρ xs)
 | .vr i base lo m=> .vr (ρ i) base lo m
 | .vd i base m cap=> .vd (ρ i) base m cap
 | .yl i=> .yl (ρ i)
def renL (ρ:Nat→Nat):List A→List A
 | []=>[]
 |x::r=>x.ren ρ::renL ρ r
end
theorem ZU (ρ:Nat→Nat):∀l:List A,renL ρ l=l.map (A.ren ρ)
 | []=>by simp[renL]
 |x::r=>by rw[renL,ZU ρ r];rfl
theorem PA {ρ:Nat→Nat} {l:List A} {j:Nat} {x:A} (h:(renL ρ l)[j]?=some x):∃y,l[j]?=some y∧x=y.ren ρ:=by
 rw[ZU,List.getElem?_map] at h
 cases hl:l[j]? with
 |none=>rw[hl] at h;cases h
 |some y=>rw[hl] at h;cases h;exact⟨y,rfl,rfl⟩
theorem A8v (ρ:Nat→Nat) (x:A):Oq (x.ren ρ)=Oq x:=by cases x<;>(unfold A.ren;rfl)
theorem PB (ρ:Nat→Nat) (l:List A):(renL ρ l).length=l.length:=by rw[ZU,List.length_map]
theorem Zw (ρ:Nat→Nat) (c:TC) (d:U c):∀x∈enc c d,x.ren ρ=x:=fun x hx=>by
 have:=Uk c d x hx
 cases x<;>first|rfl|exact this.elim
structure Ren (ρ:Nat→Nat) (N:Nm) (nx:Nat) (N':Nm) (nx':Nat):Prop where
 lt:∀i,i <nx→ρ i <nx'
 b:∀i,i <nx→N'.b (ρ i)=N.b i
 q:∀i,i <nx→N'.q (ρ i)=N.q i
section
variable {F:Nat→Prop} {N N':Nm} {nx nx':Nat} {R:World} {ρ:Nat→Nat}
theorem Hv.ren (st:Ren ρ N nx N' nx') {x:A} {y:Value} (h:Hv F N nx R x y):Hv F N' nx' R (x.ren ρ) y:=by
 induction h with
 |v x=>exact .v x
 | @sl c l a cap ad h1 h2 h3 h4 ih=>
  refine .sl ad h1 h2 h3 (fun i d j x y hd hx hy=>?_)
  have:=ih i d j x y hd hx hy
  rwa[Zw ρ c d x (List.mem_of_getElem? hx)] at this
 | @ref l ad h1 h2 h3 ih=>
  unfold A.ren
  refine .ref ad h1 (fun j x hx=>?_) (fun j x y hx hy=>?_)
  ·obtain⟨z,hz,rfl⟩:=PA hx;exact h2 j z hz
  ·obtain⟨z,hz,rfl⟩:=PA hx;exact ih j z y hz hy
 |own h=>unfold A.ren;rw[←st.b _ h];exact .own (st.lt _ h)
 |ownx h=>unfold A.ren;rw[←st.b _ h];exact .ownx (st.lt _ h)
 |sq h=>unfold A.ren;rw[←st.q _ h];exact .sq (st.lt _ h)
 |vw h h1 h2 h3=>unfold A.ren;exact .vw (st.lt _ h) h1 h2 (fun hn=>by rw[st.q _ h];exact h3 hn)
 |el h=>unfold A.ren;rw[←st.q _ h];exact .el (st.lt _ h)
 |dq h=>unfold A.ren;rw[←st.q _ h];exact .dq (st.lt _ h)
 |iv h=>unfold A.ren;rw[←st.q _ h];exact .iv (st.lt _ h)
 |de h=>unfold A.ren;rw[←st.q _ h];exact .de (st.lt _ h)
 |ie h=>unfold A.ren;rw[←st.q _ h];exact .ie (st.lt _ h)
 |mp h=>unfold A.ren;rw[←st.b _ h];exact .mp (st.lt _ h)
 |nl a=>exact .nl a
 |it q vs y h=>exact .it q vs y h
 |fn vs us h1 _ h3 _ jh ji=>
  unfold A.ren
  exact .fn vs us (by rw[PB];exact h1) (fun j x v hx hv=>by obtain⟨z,hz,rfl⟩:=PA hx;exact jh j z v hz hv) (by rw[PB];exact h3) (fun j x v hx hv=>by obtain⟨z,hz,rfl⟩:=PA hx;exact ji j z v hz hv)
 |agg vs h1 _ ih=>unfold A.ren;exact .agg vs (by rw[PB];exact h1) (fun j x v hx hv=>by obtain⟨z,hz,rfl⟩:=PA hx;exact ih j z v hz hv)
 |tup vs h1 _ ih=>unfold A.ren;exact .tup vs (by rw[PB];exact h1) (fun j x v hx hv=>by obtain⟨z,hz,rfl⟩:=PA hx;exact ih j z v hz hv)
 |dead y=>exact .dead y
 |av h1 h2=>exact .av h1 h2
 |rv vs h1 _ h3 ih=>
  unfold A.ren
  refine .rv vs (by rw[PB];exact h1) (fun j x v hx hv=>by obtain⟨z,hz,rfl⟩:=PA hx;exact ih j z v hz hv) (fun j x v hx hv hi=>?_)
  obtain⟨z,hz,rfl⟩:=PA hx
  rw[A8v] at hi
  exact h3 j z v hz hv hi
 |vr ad h h1=>unfold A.ren;exact .vr ad (st.lt _ h) (fun hm=>by rw[st.b _ h];exact h1 hm)
 |vd h=>unfold A.ren;rw[←st.b _ h];exact .vd (st.lt _ h)
 |yl h=>unfold A.ren;rw[←st.b _ h];exact .yl (st.lt _ h)
theorem HL.ren (st:Ren ρ N nx N' nx'):∀{xs:List A} {vs:List Value},HL F N nx R xs vs→HL F N' nx' R (renL ρ xs) vs
 | [],_,h=>by rw[show renL ρ []=[] from by simp[renL]];exact h
 |x::r,_,⟨v,vs,h1,h2,h3⟩=>by
  rw[show renL ρ (x::r)=x.ren ρ::renL ρ r from by simp[renL]]
  exact⟨v,vs,h1,h2.ren st,HL.ren st h3⟩
end
def B45:Value→Option Nat
 | .pointer (some a)=>some a.block
 |_=>none
def foot (N:Nm) (i:Nat):Ob→Nat→Prop
 | .box _ _,g=>g=N.b i
 | .map _ _ _,g=>g=N.b i
 | .sit _ _,g=>g=N.b i
 | .arr _ _ _,g=>Hz (N.q i)=some g
 | .deep _ _ l,g=>∃k,k <l.length+1∧Hz (fam (N.q i) k)=some g
 | .rcd _ _,g=>g=N.b i
 | .abs _ _ _,g=>∃k,B45 (fam (N.q i) k)=some g
 | .lp _ _ _ _ _,g=>g=N.b i
def Gb (N:Nm) (o:AE) (g:Nat):Prop:=∃i ob,Ai i o=some ob∧foot N i ob g
def T7 (cs:List A):A:=match A5d cs with
 |some xs=> .v (.agg xs.toArray)
 |none=> .agg cs
def AA (c:TC) (d:U c):A:=bif c.isAgg then T7 (enc c d) else(match enc c d with
 |x::_=>x
 | []=> .dead)
def B11 (c:TC) (d:U c):Value:=match AA c d with
 | .v x=>x
 |_=>undef
def PE (R:World) (e:TypeId) (size:Nat) (v:Value) (n:Nat) (zs:List Value):Prop:=
 zs.length=n*size∧((∃a,v=.slice a 0 0∧n=0)∨
  ∃g cap cur,v=.slice (some ⟨g,0,none⟩) n (cap+1)∧R.heap[g]?=some (.cells cur e (0,0))∧n≤cap+1∧cap+1≤maxLen∧cur.size=(cap+1)*size∧cur.toList.take (n*size)=zs)
def Bic:TC→Option (Nat×TC)
 | .row=>some (1,.cell)
 | .change=>some (6,.write)
 |_=>none
def Xr (i k:Nat):List A→List A
 | []=>[]
 | .sl _ _::r=> .iv i k::Xr i k r
 |x::r=>x::Xr i k r
def HW (F:Nat→Prop) (N:Nm) (nx:Nat) (R:World):List A→List Value→Prop
 | [],us=>us=[]
 |x::r,us=>∃v t,us=v.cells.toList++t∧Hv F N nx R x v∧(Oq x=false→v.oneCell'=true)∧HW F N nx R r t
def Zo (F:Nat→Prop) (N:Nm) (nx:Nat) (R:World) (i:Nat):Ob→Prop
 | .box e cs=>∃vs,HL F N nx R cs vs∧R.heap[N.b i]?=some (.cells vs.toArray e (0,0))
 | .arr e size els=>∃zs,PE R e size (N.q i) els.n zs∧∀k,k <els.n→HL F N nx R (els.nth k) ((zs.drop (k*size)).take size)
 | .map k v l=>∃(es:List MapEntry) (clock:Nat),R.heap[N.b i]?=some (.map es.toArray clock)∧es.length=l.length∧(∀(j:Nat) (p:U k×U v) (e:MapEntry),l[j]?=some p→es[j]?=some e→e.key=B11 k p.1∧Hv F N nx R (AA v p.2) e.val)
 | .sit s pos=>R.heap[N.b i]?=some (.stringIter s pos)
 | .deep e c l=>∃col c' zs,Bic c=some (col,c')∧PE R e (size c) (fam (N.q i) 0) l.length zs∧(∀k d,l[k]?=some d→HL F N nx R (Xr i k (enc c d)) ((zs.drop (k*size c)).take (size c)))∧
   (∀k d,l[k]?=some d→∃(l':List (U c')) (e':TypeId) (us:List Value),(enc c d)[col]?=some (.sl c' l')∧PE R e' (size c') (fam (N.q i) (k+1)) l'.length us∧∀j,j <l'.length→HL F N nx R (enc c' (l'.getD j (Av c'))) ((us.drop (j*size c')).take (size c')))∧
   ∀k k' g,k <l.length+1→k' <l.length+1→Hz (fam (N.q i) k)=some g→Hz (fam (N.q i) k')=some g→k=k'
 | .rcd e xs=>∃us,HW F N nx R xs us∧R.heap[N.b i]?=some (.cells us.toArray e (0,0))
 | .abs m c l=>∃h:Nat→Option Obj,(∀k g,B45 (fam (N.q i) k)=some g→∃o,h g=some o∧R.heap[g]?=some o)∧B7p m c l h (N.q i)
 | .lp f b us cs k=>∃vs,HL F N nx R cs vs∧B0n f b us k vs R.heap[N.b i]?
theorem HW.step {F F':Nat→Prop} {N N':Nm} {nx nx':Nat} {R R':World} (st:Ext F N nx R F' N' nx' R'):∀{xs:List A} {us:List Value},HW F N nx R xs us→HW F' N' nx' R' xs us
 | [],_,h=>h
 |_::_,_,⟨v,t,h1,h2,h3,h4⟩=>⟨v,t,h1,h2.step st,h3,HW.step st h4⟩
theorem HW.ren {F:Nat→Prop} {N N':Nm} {nx nx':Nat} {R:World} {ρ:Nat→Nat} (st:Ren ρ N nx N' nx'):∀{xs:List A} {us:List Value},HW F N nx R xs us→HW F N' nx' R (renL ρ xs) us
 | [],_,h=>by rw[show renL ρ []=[] from by simp[renL]];exact h
 |x::r,_,⟨v,t,h1,h2,h3,h4⟩=>by
  rw[show renL ρ (x::r)=x.ren ρ::renL ρ r from by simp[renL]]
  exact⟨v,t,h1,h2.ren st,by rw[A8v];exact h3,HW.ren st h4⟩
theorem PE.keep {R R':World} {e:TypeId} {size n:Nat} {v:Value} {zs:List Value} (h:PE R e size v n zs) (hk:∀g,Hz v=some g→R'.heap[g]?=R.heap[g]?):PE R' e size v n zs:=by
 refine⟨h.1,?_⟩
 rcases h.2 with h0|⟨g,cap,cur,h1,h2,h3⟩
 ·exact .inl h0
 ·exact .inr ⟨g,cap,cur,h1,(hk g (by rw[h1];rfl)).trans h2,h3⟩
theorem PE.lt {R:World} {e:TypeId} {size n:Nat} {v:Value} {zs:List Value} (h:PE R e size v n zs) {g:Nat} (hg:Hz v=some g):g <R.heap.size:=by
 rcases h.2 with⟨a,e1,_⟩|⟨g',cap,cur,e1,e3,_⟩
 ·rw[e1] at hg;cases a<;>cases hg
 ·rw[e1] at hg
  cases hg
  exact KA e3
theorem PE.form {R:World} {e:TypeId} {size n:Nat} {v:Value} {zs:List Value} (h:PE R e size v n zs):∃a c,v=.slice a n c∧n≤c:=by
 rcases h.2 with⟨a,e1,e2⟩|⟨g,cap,cur,e1,_,e4,_⟩
 ·exact⟨a,0,by rw[e1,e2],by omega⟩
 ·exact⟨_,_,e1,e4⟩
section
variable {F F':Nat→Prop} {N N':Nm} {nx nx':Nat} {R R':World} {i:Nat} {ob:Ob}
theorem Zo.step (st:Ext F N nx R F' N' nx' R') (hi:i <nx) (hk:∀g,foot N i ob g→R'.heap[g]?=R.heap[g]?) (h:Zo F N nx R i ob):Zo F' N' nx' R' i ob:=by
 cases ob with
 |box e cs=>
  obtain⟨vs,h1,h2⟩:=h
  exact⟨vs,h1.step st,by rw[st.b i hi];exact(hk _ rfl).trans h2⟩
 |arr e size els=>
  obtain⟨zs,h1,h2⟩:=h
  exact⟨zs,by rw[st.q i hi];exact h1.keep hk,fun k ak=>(h2 k ak).step st⟩
 |map k v l=>
  obtain⟨es,cl,h1,h2,h3⟩:=h
  exact⟨es,cl,by rw[st.b i hi];exact(hk _ rfl).trans h1,h2,fun j p e hp he=>⟨(h3 j p e hp he).1,(h3 j p e hp he).2.step st⟩⟩
 |sit s pos=>
  show R'.heap[N'.b i]?=_
  rw[st.b i hi]
  exact(hk _ rfl).trans h
 |deep e c l=>
  obtain⟨col,c',zs,h1,h2,h3,h4,h5⟩:=h
  refine⟨col,c',zs,h1,by rw[st.q i hi];exact h2.keep fun g hg=>hk g ⟨0,Nat.succ_pos _,hg⟩,fun k d hd=>(h3 k d hd).step st,fun k d hd=>?_,by rw[st.q i hi];exact h5⟩
  obtain⟨l',e',us,k1,k2,k3⟩:=h4 k d hd
  refine⟨l',e',us,k1,by rw[st.q i hi];exact k2.keep fun g hg=>hk g ⟨k+1,by have:=(List.getElem?_eq_some_iff.1 hd).1;omega,hg⟩,fun j hj=>(k3 j hj).step st⟩
 |rcd e xs=>
  obtain⟨us,h1,h2⟩:=h
  exact⟨us,h1.step st,by rw[st.b i hi];exact(hk _ rfl).trans h2⟩
 |abs m c l=>
  obtain⟨hh,h1,h2⟩:=h
  refine⟨hh,fun k g hg=>?_,by rw[st.q i hi];exact h2⟩
  rw[st.q i hi] at hg
  obtain⟨o,e1,e2⟩:=h1 k g hg
  exact⟨o,e1,(hk g ⟨k,hg⟩).trans e2⟩
 |lp f b us cs k=>
  obtain⟨vs,h1,h2⟩:=h
  exact⟨vs,h1.step st,by rw[st.b i hi,hk _ rfl];exact h2⟩
theorem Zo.lt (h:Zo F N nx R i ob) {g:Nat} (hg:foot N i ob g):g <R.heap.size:=by
 cases ob with
 |box e cs=>obtain⟨vs,_,h2⟩:=h;cases hg;exact KA h2
 |arr e size els=>obtain⟨zs,h1,_⟩:=h;exact h1.lt hg
 |map k v l=>obtain⟨es,cl,h2,_⟩:=h;cases hg;exact KA h2
 |sit s pos=>cases hg;exact KA h
 | deep e c l=>
  obtain⟨col,c',zs,h1,h2,h3,h4,h5⟩:=h
  obtain⟨k,hk,hg⟩:=hg
  cases k with
  |zero=>exact h2.lt hg
  |succ k=>
   obtain⟨l',e',us,_,k2,_⟩:=h4 k l[k] (List.getElem?_eq_getElem (by omega))
   exact k2.lt hg
 |rcd e xs=>obtain⟨us,_,h2⟩:=h;cases hg;exact KA h2
 |abs m c l=>
  obtain⟨hh,h1,_⟩:=h
  obtain⟨k,hk⟩:=hg
  obtain⟨o,_,e2⟩:=h1 k g hk
  exact KA e2
 |lp f b us cs k=>obtain⟨vs,_,h2⟩:=h;cases hg;exact h2.lt
theorem ER (st:Ext F N nx R F' N' nx' R') (hi:i <nx) {g:Nat}:foot N' i ob g↔foot N i ob g:=by
 cases ob<;>simp only[foot,st.b i hi,st.q i hi]
end
def FY.ren (ρ:Nat→Nat):FY→FY
 | .lst cs=> .lst (cs.map (renL ρ))
 | .ty c l=> .ty c l
def Ob.ren (ρ:Nat→Nat):Ob→Ob
 | .box e cs=> .box e (renL ρ cs)
 | .arr e size els=> .arr e size (els.ren ρ)
 | .map k v l=> .map k v l
 | .sit s pos=> .sit s pos
 | .deep e c l=> .deep e c l
 | .rcd e xs=> .rcd e (renL ρ xs)
 | .abs m c l=> .abs m c l
 | .lp f b us cs k=> .lp f b us (renL ρ cs) k
theorem A77 {ρ:Nat→Nat} {i k:Nat}:∀{cs:List A},(∀x∈cs,x.ren ρ=x)→renL ρ (Xr i k cs)=Xr (ρ i) k cs
 | [],_=>by unfold Xr renL;rfl
 |x::r,h=>by
  have hr:=A77 (i:=i) (k:=k) (cs:=r) fun y hy=>h y (List.mem_cons_of_mem _ hy)
  have hx:=h x (List.mem_cons_self ..)
  cases x<;>(unfold Xr;unfold renL;rw[hr])<;>first|rw[hx]|(unfold A.ren;rfl)
theorem Fc:∀(cs:List (List A)) (k:Nat),K7 cs k=cs.getD k []
 | [],_=>by simp[K7]
 |x::r,0=>by simp[K7]
 |x::r,k+1=>by simp[K7,Fc r k]
theorem Bt8 (ρ:Nat→Nat) (c:TC) (d:U c):(AA c d).ren ρ=AA c d:=by
 have hl:renL ρ (enc c d)=enc c d:=by
  rw[ZU]
  exact(List.map_congr_left (g:=id) fun x hx=>Zw ρ c d x hx).trans (List.map_id _)
 unfold AA
 cases c.isAgg with
 |true=>
  show(T7 (enc c d)).ren ρ=T7 (enc c d)
  unfold T7
  split
  ·rfl
  ·unfold A.ren;rw[hl]
 | false=>
  show A.ren ρ (match enc c d with|x::_=>x| []=> .dead)=_
  have hp:=Zw ρ c d
  split
  ·rename_i x r hx
   exact hp x (by rw[hx];exact List.mem_cons_self ..)
  ·rfl
section
variable {F:Nat→Prop} {N N':Nm} {nx nx':Nat} {R:World} {ρ:Nat→Nat} {i:Nat} {ob:Ob}
theorem Zo.ren (st:Ren ρ N nx N' nx') (hi:i <nx) (h:Zo F N nx R i ob):Zo F N' nx' R (ρ i) (ob.ren ρ):=by
 cases ob with
 |box e cs=>
  obtain⟨vs,h1,h2⟩:=h
  exact⟨vs,h1.ren st,by rw[st.b i hi];exact h2⟩
 | arr e size els=>
  obtain⟨zs,h1,h2⟩:=h
  cases els with
  |lst cs=>
   have hn:(FY.ren ρ (.lst cs)).n=cs.length:=by simp[FY.ren,FY.n]
   refine⟨zs,by rw[st.q i hi,hn];exact h1,fun k hk=>?_⟩
   rw[hn] at hk
   have:=(h2 k hk).ren st
   show HL F N' nx' R (K7 (cs.map (renL ρ)) k) _
   rw[Fc,List.getD_eq_getElem?_getD,List.getElem?_map]
   have h3:(FY.lst cs).nth k=cs.getD k []:=Fc cs k
   rw[h3,List.getD_eq_getElem?_getD] at this
   have ak:cs[k]?=some cs[k]:=List.getElem?_eq_getElem hk
   rw[ak] at this⊢
   exact this
  | ty c l=>
   refine⟨zs,by rw[st.q i hi];exact h1,fun k hk=>?_⟩
   have:=(h2 k hk).ren st
   have e:renL ρ ((FY.ty c l).nth k)=(FY.ty c l).nth k:=by
    show renL ρ (enc c _)=enc c _
    rw[ZU]
    exact(List.map_congr_left (g:=id) fun x hx=>Zw ρ c _ x hx).trans (List.map_id _)
   rw[e] at this
   exact this
 |map k v l=>
  obtain⟨es,cl,h1,h2,h3⟩:=h
  refine⟨es,cl,by rw[st.b i hi];exact h1,h2,fun j p e hp he=>⟨(h3 j p e hp he).1,?_⟩⟩
  have:=(h3 j p e hp he).2.ren st
  rwa[Bt8] at this
 |sit s pos=>
  show R.heap[N'.b (ρ i)]?=_
  rw[st.b i hi]
  exact h
 | deep e c l=>
  obtain⟨col,c',zs,h1,h2,h3,h4,h5⟩:=h
  refine⟨col,c',zs,h1,by rw[st.q i hi];exact h2,fun k d hd=>?_,fun k d hd=>?_,by rw[st.q i hi];exact h5⟩
  ·rw[←A77 fun x hx=>Zw ρ c d x hx]
   exact(h3 k d hd).ren st
  ·obtain⟨l',e',us,k1,k2,k3⟩:=h4 k d hd
   refine⟨l',e',us,k1,by rw[st.q i hi];exact k2,fun j hj=>?_⟩
   have:=(k3 j hj).ren st
   rwa[ZU,(List.map_congr_left (g:=id) fun x hx=>Zw ρ c' _ x hx).trans (List.map_id _)] at this
 |rcd e xs=>
  obtain⟨us,h1,h2⟩:=h
  exact⟨us,h1.ren st,by rw[st.b i hi];exact h2⟩
 |abs m c l=>
  obtain⟨hh,h1,h2⟩:=h
  exact⟨hh,by rw[st.q i hi];exact h1,by rw[st.q i hi];exact h2⟩
 |lp f b us cs k=>
  obtain⟨vs,h1,h2⟩:=h
  exact⟨vs,h1.ren st,by rw[st.b i hi];exact h2⟩
end
def U1 (F:Nat→Prop) (R:World):Prop:=∀x∈Aay,F x.1∧∃t,R.heap[x.1]?=some (.cells (x.2.l.map (sv x.2.c)).toArray t (0,0))
theorem U1.step {F F':Nat→Prop} {N N':Nm} {nx nx':Nat} {R R':World} (h:U1 F R) (st:Ext F N nx R F' N' nx' R'):U1 F' R':=fun x hx=>⟨st.f _ (h x hx).1,by rw[st.heap _ (h x hx).1];exact(h x hx).2⟩
structure Bp (F:Nat→Prop) (N:Nm) (nx:Nat) (o:AE) (R:World):Prop where
 flt:∀g,F g→g <R.heap.size
 ob:∀i ob,Ai i o=some ob→i <nx∧Zo F N nx R i ob
 ff:∀i ob g,Ai i o=some ob→foot N i ob g→¬F g
 sep:∀i j x y g,Ai i o=some x→Ai j o=some y→foot N i x g→foot N j y g→i=j
 gl:U1 F R
structure Step (F:Nat→Prop) (N:Nm) (nx:Nat) (o:AE) (R:World) (F':Nat→Prop) (N':Nm) (nx':Nat) (o':AE) (R':World):Prop where
 le:nx≤nx'
 b:∀i,i <nx→N'.b i=N.b i
 q:∀i,i <nx→N'.q i=N.q i
 f:∀g,F g→F' g
 fnew:∀g,F' g→F g∨Gb N o g∨R.heap.size≤g
 foot:∀g,Gb N' o' g→Gb N o g∨R.heap.size≤g
 os:R'.os=R.os
 tape:R'.tape=R.tape
 output:R'.output=R.output
 size:R.heap.size≤R'.heap.size
 keep:∀g,g <R.heap.size→¬Gb N o g→R'.heap[g]?=R.heap[g]?
section
variable {F F' F'':Nat→Prop} {N N' N'':Nm} {nx nx' nx'':Nat} {o o' o'' o1 o1':AE} {R R' R'':World}
theorem Step.refl:Step F N nx o R F N nx o R:=⟨Nat.le_refl _,fun _ _=>rfl,fun _ _=>rfl,fun _ h=>h,fun _ h=> .inl h,fun _ h=> .inl h,rfl,rfl,rfl,Nat.le_refl _,fun _ _ _=>rfl⟩
theorem Step.trans (h:Step F N nx o R F' N' nx' o' R') (k:Step F' N' nx' o' R' F'' N'' nx'' o'' R''):Step F N nx o R F'' N'' nx'' o'' R'' where
 le:=Nat.le_trans h.le k.le
 b i hi:=(k.b i (Nat.lt_of_lt_of_le hi h.le)).trans (h.b i hi)
 q i hi:=(k.q i (Nat.lt_of_lt_of_le hi h.le)).trans (h.q i hi)
 f g hg:=k.f g (h.f g hg)
 fnew g hg:=by
  rcases k.fnew g hg with h1|h1|h1
  ·exact h.fnew g h1
  ·exact .inr (h.foot g h1)
  ·exact .inr (.inr (Nat.le_trans h.size h1))
 foot g hg:=by
  rcases k.foot g hg with h1|h1
  ·exact h.foot g h1
  ·exact .inr (Nat.le_trans h.size h1)
 os:=k.os.trans h.os
 tape:=k.tape.trans h.tape
 output:=k.output.trans h.output
 size:=Nat.le_trans h.size k.size
 keep g hg hn:=by
  refine(k.keep g (Nat.lt_of_lt_of_le hg h.size) fun hf=>?_).trans (h.keep g hg hn)
  rcases h.foot g hf with h1|h1
  ·exact hn h1
  ·omega
theorem Step.ext (hp:Bp F N nx o R) (h:Step F N nx o R F' N' nx' o' R'):Ext F N nx R F' N' nx' R':=
 ⟨h.le,h.b,h.q,h.f,fun g hg=>h.keep g (hp.flt g hg) fun⟨i,ob,h1,h2⟩=>hp.ff i ob g h1 h2 hg⟩
theorem Step.below (h:Step F N nx [] R F' N' nx' o' R'):Below R.heap.size R R':=
 ⟨h.os,h.tape,h.output,h.size,fun g hg=>h.keep g hg fun⟨i,ob,h1,_⟩=>by cases h1⟩
theorem Step.of_below (hb:Below R.heap.size R R'):Step F N nx o R F N nx o R':=
 ⟨Nat.le_refl _,fun _ _=>rfl,fun _ _=>rfl,fun _ h=>h,fun _ h=> .inl h,fun _ h=> .inl h,hb.os,hb.tape,hb.output,hb.size,fun g hg _=>hb.block g hg⟩
theorem Bp.grow (h:Bp F N nx o R) (hb:Below R.heap.size R R'):Bp F N nx o R'∧Ext F N nx R F N nx R':=by
 have st:Ext F N nx R F N nx R':=⟨Nat.le_refl _,fun _ _=>rfl,fun _ _=>rfl,fun _ h=>h,fun g hg=>hb.block g (h.flt g hg)⟩
 exact⟨⟨fun g hg=>Nat.lt_of_lt_of_le (h.flt g hg) hb.size,fun i ob hi=>⟨(h.ob i ob hi).1,(h.ob i ob hi).2.step st (h.ob i ob hi).1 fun g hg=>hb.block g ((h.ob i ob hi).2.lt hg)⟩,h.ff,h.sep,h.gl.step st⟩,st⟩
theorem Bp.weak (h:Bp F N nx o R) (ho:∀i ob,Ai i o'=some ob→Ai i o=some ob):Bp F N nx o' R:=
 ⟨h.flt,fun i ob hi=>h.ob i ob (ho i ob hi),fun i ob g hi hg=>h.ff i ob g (ho i ob hi) hg,fun i j x y g hi hj=>h.sep i j x y g (ho i x hi) (ho j y hj),h.gl⟩
theorem Gb.weak (ho:∀i ob,Ai i o'=some ob→Ai i o=some ob) {g:Nat} (h:Gb N o' g):Gb N o g:=by
 obtain⟨i,ob,h1,h2⟩:=h
 exact⟨i,ob,ho i ob h1,h2⟩
theorem Step.weak (ho:∀i ob,Ai i o'=some ob→Ai i o=some ob):Step F N nx o R F N nx o' R:=
 ⟨Nat.le_refl _,fun _ _=>rfl,fun _ _=>rfl,fun _ h=>h,fun _ h=> .inl h,fun _ h=> .inl (Gb.weak ho h),rfl,rfl,rfl,Nat.le_refl _,fun _ _ _=>rfl⟩
theorem Bp.upd (h:Bp F N nx o R) {i0:Nat} {ob0:Ob} {T:Nat→Prop} (nj:R'.os=R.os) (d9:R'.tape=R.tape) (ik:R'.output=R.output) (bc:R.heap.size≤R'.heap.size)
  (hT:∀g,T g→Gb N o g) (keep:∀g,g <R.heap.size→¬T g→R'.heap[g]?=R.heap[g]?)
  (hnx:nx≤nx') (hb:∀i,i <nx→N'.b i=N.b i) (hq:∀i,i <nx→N'.q i=N.q i)
  (qk:∀i ob,i≠i0→Ai i o'=some ob→Ai i o=some ob∧∀g,foot N i ob g→¬T g)
  (new:∀ob,Ai i0 o'=some ob→ob=ob0) (xr:i0 <nx') (hR:Ext F N nx R F N' nx' R'→Zo F N' nx' R' i0 ob0)
  (nf:∀g,foot N' i0 ob0 g→R.heap.size≤g∨T g):Bp F N' nx' o' R'∧Step F N nx o R F N' nx' o' R':=by
 have uh:∀g,T g→¬F g:=fun g ht hf=>by
  obtain⟨i,ob,h1,h2⟩:=hT g ht
  exact h.ff i ob g h1 h2 hf
 have st:Ext F N nx R F N' nx' R':=⟨hnx,hb,hq,fun _ h=>h,fun g hg=>keep g (h.flt g hg) fun ht=>uh g ht hg⟩
 have hold:∀i ob,i≠i0→Ai i o'=some ob→i <nx∧Zo F N nx R i ob∧(∀g,foot N i ob g→¬T g)∧Ai i o=some ob:=fun i ob hi hl=>by
  obtain⟨h1,h2⟩:=qk i ob hi hl
  exact⟨(h.ob i ob h1).1,(h.ob i ob h1).2,h2,h1⟩
 refine⟨⟨fun g hg=>Nat.lt_of_lt_of_le (h.flt g hg) bc,fun i ob hi=>?_,fun i ob g hi hg=>?_,fun i j x y g hi hj hx hy=>?_,h.gl.step st⟩,hnx,hb,hq,fun _ h=>h,fun _ h=> .inl h,fun g ⟨i,ob,h1,h2⟩=>?_,nj,d9,ik,bc,fun g hg hn=>keep g hg fun ht=>hn (hT g ht)⟩
 ·by_cases e:i=i0
  ·subst e
   rw[new ob hi]
   exact⟨xr,hR st⟩
  ·obtain⟨h1,h2,h3,_⟩:=hold i ob e hi
   exact⟨Nat.lt_of_lt_of_le h1 hnx,h2.step st h1 fun g hg=>keep g (h2.lt hg) (h3 g hg)⟩
 ·by_cases e:i=i0
  ·subst e
   rw[new ob hi] at hg
   intro hf
   rcases nf g hg with h1|h1
   ·have:=h.flt g hf;omega
   ·exact uh g h1 hf
  ·obtain⟨h1,h2,h3,h4⟩:=hold i ob e hi
   exact h.ff i ob g h4 ((ER st h1).1 hg)
 ·have one:∀i j x y,i=i0→j≠i0→Ai i o'=some x→Ai j o'=some y→foot N' i x g→foot N' j y g→i=j:=fun i j x y ei ej hi hj hx hy=>by
   subst ei
   rw[new x hi] at hx
   obtain⟨h1,h2,h3,h4⟩:=hold j y ej hj
   have fv:=(ER st h1).1 hy
   rcases nf g hx with dz|ht
   ·have:=h2.lt fv
    omega
   ·exact absurd ht (h3 g fv)
  by_cases ei:i=i0
  ·by_cases ej:j=i0
   ·rw[ei,ej]
   ·exact one i j x y ei ej hi hj hx hy
  ·by_cases ej:j=i0
   ·exact(one j i y x ej ei hj hi hy hx).symm
   ·obtain⟨h1,_,_,h4⟩:=hold i x ei hi
    obtain⟨bt,_,_,wk⟩:=hold j y ej hj
    exact h.sep i j x y g h4 wk ((ER st h1).1 hx) ((ER st bt).1 hy)
 ·by_cases e:i=i0
  ·subst e
   rw[new ob h1] at h2
   rcases nf g h2 with h3|h3
   ·exact .inr h3
   ·exact .inl (hT g h3)
  ·obtain⟨h3,_,_,h4⟩:=hold i ob e h1
   exact .inl ⟨i,ob,h4,(ER st h3).1 h2⟩
def Bx8 (ks:List Nat):AE→AE
 | []=>[]
 |(k,x)::r=>(k,bif ks.any (Nat.beq k) then none else x)::Bx8 ks r
theorem Bp.frame (h:Bp F N nx o R) (h1:∀i ob,Ai i o1=some ob→Ai i o=some ob) (st:Step F N nx o1 R F' N' nx' o1' R') (hp:Bp F' N' nx' o1' R')
  (ho:∀i ob,Ai i o'=some ob→Ai i o1'=some ob∨(Ai i o=some ob∧Ai i o1=none)):Bp F' N' nx' o' R'∧Step F N nx o R F' N' nx' o' R':=by
 have hx:Ext F N nx R F' N' nx' R':=st.ext (h.weak h1)
 have rest:∀i ob,Ai i o=some ob→Ai i o1=none→i <nx∧Zo F N nx R i ob∧(∀g,foot N i ob g→¬Gb N o1 g):=fun i ob hi hn=>by
  refine⟨(h.ob i ob hi).1,(h.ob i ob hi).2,fun g hg ⟨j,y,hj,hy⟩=>?_⟩
  have:=h.sep i j ob y g hi (h1 j y hj) hg hy
  subst this
  rw[hn] at hj
  cases hj
 have t5:∀i ob j y g,Ai i o=some ob→Ai i o1=none→Ai j o1'=some y→foot N i ob g→foot N' j y g→False:=fun i ob j y g hi hn hj hx1 hy=>by
  obtain⟨_,e2,e3⟩:=rest i ob hi hn
  rcases st.foot g ⟨j,y,hj,hy⟩ with h2|h2
  ·exact e3 g hx1 h2
  ·have:=e2.lt hx1;omega
 refine⟨⟨hp.flt,fun i ob hi=>?_,fun i ob g hi hg=>?_,fun i j x y g hi hj hx1 hy=>?_,hp.gl⟩,st.le,st.b,st.q,st.f,fun g hg=>?_,fun g hg=>?_,st.os,st.tape,st.output,st.size,fun g hg hn=>st.keep g hg fun hf=>hn (Gb.weak h1 hf)⟩
 ·rcases ho i ob hi with h2|⟨h2,h3⟩
  ·exact hp.ob i ob h2
  ·obtain⟨e1,e2,e3⟩:=rest i ob h2 h3
   exact⟨Nat.lt_of_lt_of_le e1 st.le,e2.step hx e1 fun g hg=>st.keep g (e2.lt hg) (e3 g hg)⟩
 ·rcases ho i ob hi with h2|⟨h2,h3⟩
  ·exact hp.ff i ob g h2 hg
  ·obtain⟨e1,e2,e3⟩:=rest i ob h2 h3
   have ah:=(ER hx e1).1 hg
   intro hf
   rcases st.fnew g hf with h4|h4|h4
   ·exact h.ff i ob g h2 ah h4
   ·exact e3 g ah h4
   ·have:=e2.lt ah;omega
 ·rcases ho i x hi with h2|⟨h2,h3⟩
  ·rcases ho j y hj with h4|⟨h4,h5⟩
   ·exact hp.sep i j x y g h2 h4 hx1 hy
   ·obtain⟨e1,_,_⟩:=rest j y h4 h5
    exact(t5 j y i x g h4 h5 h2 ((ER hx e1).1 hy) hx1).elim
  ·obtain⟨e1,_,_⟩:=rest i x h2 h3
   rcases ho j y hj with h4|⟨h4,h5⟩
   ·exact(t5 i x j y g h2 h3 h4 ((ER hx e1).1 hx1) hy).elim
   ·obtain⟨e2,_,_⟩:=rest j y h4 h5
    exact h.sep i j x y g h2 h4 ((ER hx e1).1 hx1) ((ER hx e2).1 hy)
 ·rcases st.fnew g hg with h2|h2|h2
  ·exact .inl h2
  ·exact .inr (.inl (Gb.weak h1 h2))
  ·exact .inr (.inr h2)
 ·obtain⟨i,ob,hi,h2⟩:=hg
  rcases ho i ob hi with h3|⟨h3,h4⟩
  ·rcases st.foot g ⟨i,ob,h3,h2⟩ with h5|h5
   ·exact .inl (Gb.weak h1 h5)
   ·exact .inr h5
  ·obtain⟨e1,_,_⟩:=rest i ob h3 h4
   exact .inl ⟨i,ob,h3,(ER hx e1).1 h2⟩
end
mutual
def A.free:A→Bool
 | .v _=>true
 | .sl _ _=>true
 | .nl=>true
 | .agg xs=>freeL xs
 | .tup xs=>freeL xs
 | .fn _ xs ys=>freeL xs&&freeL ys
 | .ref xs=>freeL xs
 | .av _ _ _=>true
 | .rv xs=>freeL xs
 |_=>false
def freeL:List A→Bool
 | []=>true
 |x::r=>x.free&&freeL r
end
end Go.Proofs.YtifkbgkbajncjaaGreatDoor
namespace Go.Proofs.YtifkbgkbajncjaaGreatDoor
section
variable {P:Program} {w:World}
@[go_sem high] theorem my_max (ts:Array TypeId) (t:TypeId) (k k':IntKind) (x y:Int):(Builtin.max_ ts t #[.int k x,.int k' y]).run P w=.ok (.int k (max x y)) w:=by
 rw[run_max_int2]
 congr 2
 omega
@[go_sem high] theorem my_min (ts:Array TypeId) (t:TypeId) (k k':IntKind) (x y:Int):(Builtin.min_ ts t #[.int k x,.int k' y]).run P w=.ok (.int k (min x y)) w:=by
 rw[run_min_int2]
 congr 2
 omega
end
end Go.Proofs.YtifkbgkbajncjaaGreatDoor
namespace Go.Proofs.YtifkbgkbajncjaaGreatDoor
open Go.RowKit
def BH (a:Act):Nat→Value:=fun u=>a.tmps.getD u undef
def HS (F:Nat→Prop) (N:Nm) (nx:Nat) (R:World) (tm:Nat→Value):A→Value→Prop
 | .opt u b x,y=>(tm u=.bool b→HS F N nx R tm x y)∧(tm u≠.bool b→y=undef)
 |x,y=>Hv F N nx R x y
def A.dep (u:Nat):A→Bool
 | .opt k _ x=>bif Nat.beq k u then true else x.dep u
 |_=>false
def A.plain:A→Bool
 | .opt _ _ _=>false
 |_=>true
theorem Ac {F:Nat→Prop} {N:Nm} {nx:Nat} {R:World} {tm:Nat→Value} {x:A} {y:Value} (hp:x.plain=true):HS F N nx R tm x y↔Hv F N nx R x y:=by
 cases x<;>first|(cases hp;done)|(simp only[HS];done)
theorem HS.step {F F':Nat→Prop} {N N':Nm} {nx nx':Nat} {R R':World} (st:Ext F N nx R F' N' nx' R') {tm:Nat→Value}:∀{x:A} {y:Value},HS F N nx R tm x y→HS F' N' nx' R' tm x y
 | .opt _ _ _,_,h=>by
  simp only[HS] at h⊢
  exact⟨fun hb=>HS.step st (h.1 hb),h.2⟩
 | .v _,_,h=>(Ac rfl).2 (((Ac rfl).1 h).step st)
 | .sl _ _,_,h=>(Ac rfl).2 (((Ac rfl).1 h).step st)
 | .own _ _,_,h=>(Ac rfl).2 (((Ac rfl).1 h).step st)
 | .ownx _ _ _ _,_,h=>(Ac rfl).2 (((Ac rfl).1 h).step st)
 | .sq _,_,h=>(Ac rfl).2 (((Ac rfl).1 h).step st)
 | .dq _,_,h=>(Ac rfl).2 (((Ac rfl).1 h).step st)
 | .iv _ _,_,h=>(Ac rfl).2 (((Ac rfl).1 h).step st)
 | .de _ _ _ _,_,h=>(Ac rfl).2 (((Ac rfl).1 h).step st)
 | .ie _ _ _ _ _,_,h=>(Ac rfl).2 (((Ac rfl).1 h).step st)
 | .vw _ _ _ _ _,_,h=>(Ac rfl).2 (((Ac rfl).1 h).step st)
 | .el _ _ _ _,_,h=>(Ac rfl).2 (((Ac rfl).1 h).step st)
 | .ref _,_,h=>(Ac rfl).2 (((Ac rfl).1 h).step st)
 | .mp _,_,h=>(Ac rfl).2 (((Ac rfl).1 h).step st)
 | .nl,_,h=>(Ac rfl).2 (((Ac rfl).1 h).step st)
 | .it _ _,_,h=>(Ac rfl).2 (((Ac rfl).1 h).step st)
 | .fn _ _ _,_,h=>(Ac rfl).2 (((Ac rfl).1 h).step st)
 | .agg _,_,h=>(Ac rfl).2 (((Ac rfl).1 h).step st)
 | .tup _,_,h=>(Ac rfl).2 (((Ac rfl).1 h).step st)
 | .dead,_,h=>(Ac rfl).2 (((Ac rfl).1 h).step st)
 | .av _ _ _,_,h=>(Ac rfl).2 (((Ac rfl).1 h).step st)
 | .rv _,_,h=>(Ac rfl).2 (((Ac rfl).1 h).step st)
 | .vr _ _ _ _,_,h=>(Ac rfl).2 (((Ac rfl).1 h).step st)
 | .vd _ _ _ _,_,h=>(Ac rfl).2 (((Ac rfl).1 h).step st)
 | .yl _,_,h=>(Ac rfl).2 (((Ac rfl).1 h).step st)
theorem HS.congr {F:Nat→Prop} {N:Nm} {nx:Nat} {R:World} {tm ph:Nat→Value} {u:Nat} (ht:∀k,k≠u→ph k=tm k):∀{x:A} {y:Value},x.dep u=false→HS F N nx R tm x y→HS F N nx R ph x y
 | .opt k b x,y,hd,h=>by
  unfold A.dep at hd
  cases hk:Nat.beq k u with
  |true=>rw[hk] at hd;cases hd
  |false=>
   rw[hk] at hd
   have ao:k≠u:=fun e=>by subst e;simp at hk
   simp only[HS] at h⊢
   rw[ht k ao]
   exact⟨fun hb=>HS.congr ht hd (h.1 hb),h.2⟩
 | .v _,_,_,h=>(Ac rfl).2 ((Ac rfl).1 h)
 | .sl _ _,_,_,h=>(Ac rfl).2 ((Ac rfl).1 h)
 | .own _ _,_,_,h=>(Ac rfl).2 ((Ac rfl).1 h)
 | .ownx _ _ _ _,_,_,h=>(Ac rfl).2 ((Ac rfl).1 h)
 | .sq _,_,_,h=>(Ac rfl).2 ((Ac rfl).1 h)
 | .dq _,_,_,h=>(Ac rfl).2 ((Ac rfl).1 h)
 | .iv _ _,_,_,h=>(Ac rfl).2 ((Ac rfl).1 h)
 | .de _ _ _ _,_,_,h=>(Ac rfl).2 ((Ac rfl).1 h)
 | .ie _ _ _ _ _,_,_,h=>(Ac rfl).2 ((Ac rfl).1 h)
 | .vw _ _ _ _ _,_,_,h=>(Ac rfl).2 ((Ac rfl).1 h)
 | .el _ _ _ _,_,_,h=>(Ac rfl).2 ((Ac rfl).1 h)
 | .ref _,_,_,h=>(Ac rfl).2 ((Ac rfl).1 h)
 | .mp _,_,_,h=>(Ac rfl).2 ((Ac rfl).1 h)
 | .nl,_,_,h=>(Ac rfl).2 ((Ac rfl).1 h)
 | .it _ _,_,_,h=>(Ac rfl).2 ((Ac rfl).1 h)
 | .fn _ _ _,_,_,h=>(Ac rfl).2 ((Ac rfl).1 h)
 | .agg _,_,_,h=>(Ac rfl).2 ((Ac rfl).1 h)
 | .tup _,_,_,h=>(Ac rfl).2 ((Ac rfl).1 h)
 | .dead,_,_,h=>(Ac rfl).2 ((Ac rfl).1 h)
 | .av _ _ _,_,_,h=>(Ac rfl).2 ((Ac rfl).1 h)
 | .rv _,_,_,h=>(Ac rfl).2 ((Ac rfl).1 h)
 | .vr _ _ _ _,_,_,h=>(Ac rfl).2 ((Ac rfl).1 h)
 | .vd _ _ _ _,_,_,h=>(Ac rfl).2 ((Ac rfl).1 h)
 | .yl _,_,_,h=>(Ac rfl).2 ((Ac rfl).1 h)
def Bmp (u:Nat):Gc→Gc
 | []=>[]
 |(k,x)::r=>(bif x.dep u then(k,.dead) else(k,x))::Bmp u r
def St.get (s:St) (u:Nat):Option A:=DV u s.t
def St.put (s:St) (u:Nat) (x:A):St:={s with t:=(u,x)::Bmp u s.t}
theorem Ajo {u k:Nat} {x:A}:∀{t:Gc},DV u (Bmp k t)=some x→x=.dead∨(DV u t=some x∧x.dep k=false)
 | [],h=>by cases h
 | (j,y)::r,h=>by
  unfold Bmp at h
  cases hd:y.dep k with
  | true=>
   rw[hd] at h
   have h':(bif Nat.beq j u then some A.dead else DV u (Bmp k r))=some x:=h
   cases hj:Nat.beq j u with
   |true=>rw[hj] at h';cases h';exact .inl rfl
   |false=>
    rw[hj] at h'
    rcases Ajo h' with e|⟨h1,h2⟩
    ·exact .inl e
    ·exact .inr ⟨by show(bif Nat.beq j u then some y else DV u r)=_;rw[hj];exact h1,h2⟩
  | false=>
   rw[hd] at h
   have h':(bif Nat.beq j u then some y else DV u (Bmp k r))=some x:=h
   cases hj:Nat.beq j u with
   |true=>
    rw[hj] at h'
    obtain rfl:y=x:=Option.some.inj h'
    exact .inr ⟨by show(bif Nat.beq j u then some y else DV u r)=_;rw[hj];rfl,hd⟩
   |false=>
    rw[hj] at h'
    rcases Ajo h' with e|⟨h1,h2⟩
    ·exact .inl e
    ·exact .inr ⟨by show(bif Nat.beq j u then some y else DV u r)=_;rw[hj];exact h1,h2⟩
structure FG where
 F:Nat→Prop
 N:Nm
 nx:Nat
 o:AE
 R:World
 tm:Nat→Value
 W:Nat→Prop
 d:List Deferred
structure Rel (Z:FG) (F:Nat→Prop) (N:Nm) (s:St) (a:Act) (R:World):Prop where
 defers:a.defers=Z.d
 size:a.tmps.size=s.n
 slots:∀u x,s.get u=some x→HS F N s.nx R (BH a) x (BH a u)
 hp:Bp F N s.nx s.o R
 st:Step Z.F Z.N Z.nx Z.o Z.R F N s.nx s.o R
 tm:∀u,¬Z.W u→BH a u=Z.tm u
theorem O2 {a:Act} {d u:Nat} (v:Value) (h:u≠d):BH (a.put (some d) v) u=BH a u:=by
 unfold BH
 rw[GJ]
 rw[if_neg (fun e=>h e.1.symm)]
theorem Ao6 {a:Act} {d:Nat} (v:Value) (h:d <a.tmps.size):BH (a.put (some d) v) d=v:=by
 unfold BH
 rw[GJ]
 rw[if_pos ⟨rfl,h⟩]
section
variable {Z:FG} {F F':Nat→Prop} {N N':Nm} {s:St} {a:Act} {R R':World}
theorem Rel.put (h:Rel Z F N s a R) {d:Nat} (hd:d <s.n) (hW:Z.W d) {x:A} (y:Value) (hx:HS F N s.nx R (BH (a.put (some d) y)) x y):Rel Z F N (s.put d x) (a.put (some d) y) R where
 defers:=by rw[SW];exact h.defers
 size:=by rw[X9];exact h.size
 slots:=fun u z hu=>by
  unfold St.get St.put DV at hu
  cases hk:Nat.beq d u with
  |true=>
   rw[hk] at hu
   obtain rfl:x=z:=Option.some.inj hu
   obtain rfl:d=u:=Nat.eq_of_beq_eq_true hk
   rw[Ao6 y (by rw[h.size];exact hd)]
   exact hx
  |false=>
   rw[hk] at hu
   have ao:u≠d:=fun e=>by subst e;simp at hk
   rw[O2 y ao]
   rcases Ajo hu with rfl|⟨h1,h2⟩
   ·exact(Ac rfl).2 (.dead _)
   ·exact HS.congr (fun k ak=>O2 y ak) h2 (h.slots u z h1)
 hp:=h.hp
 st:=h.st
 tm:=fun u hu=>by rw[O2 y (fun e=>hu (by rw[e];exact hW))];exact h.tm u hu
theorem Rel.heap (h:Rel Z F N s a R) {nx':Nat} {o':AE} (st:Step F N s.nx s.o R F' N' nx' o' R') (hp:Bp F' N' nx' o' R'):Rel Z F' N' {s with nx:=nx',o:=o'} a R':=
 ⟨h.defers,h.size,fun u x hu=>(h.slots u x hu).step (st.ext h.hp),hp,h.st.trans st,h.tm⟩
theorem Rel.grow (h:Rel Z F N s a R) (hb:Below R.heap.size R R'):Rel Z F N s a R':=by
 obtain⟨h1,h2⟩:=h.hp.grow hb
 exact⟨h.defers,h.size,fun u x hu=>(h.slots u x hu).step h2,h1,h.st.trans (Step.of_below hb),h.tm⟩
end
def Kq {α:Type} (σ:Nat→α) (d:Nat) (m:α):Nat→α:=fun k=>bif Nat.beq k d then m else σ k
theorem C2 {α:Type} (σ:Nat→α) (d:Nat) (m:α):Kq σ d m d=m:=by simp[Kq]
theorem EF {α:Type} (σ:Nat→α) {d k:Nat} (m:α) (h:k≠d):Kq σ d m k=σ k:=by
 unfold Kq
 cases hk:Nat.beq k d with
 |true=>exact absurd (Nat.eq_of_beq_eq_true hk) h
 |false=>rfl
def Nm.setB (N:Nm) (d m:Nat):Nm:=⟨Kq N.b d m,N.q⟩
def Nm.setQ (N:Nm) (k:Nat) (v:Value):Nm:=⟨N.b,Kq N.q k v⟩
theorem AG (k:Nat) (x:Option Ob) (l:AE) (j:Nat):Ai j ((k,x)::l)=if j=k then x else Ai j l:=by
 show(bif Nat.beq k j then x else Ai j l)=_
 by_cases h:j=k
 ·subst h;simp
 ·rw[if_neg h]
  have:Nat.beq k j=false:=by
   cases hk:Nat.beq k j with
   |true=>exact absurd (Nat.eq_of_beq_eq_true hk).symm h
   |false=>rfl
  rw[this]
  rfl
def Aro {α:Type} (P:Program):Sem α→Option α
 | .pure a=>some a
 | .program k=>Aro P (k P)
 |_=>none
theorem Amu {α:Type} {P:Program}:∀{s:Sem α} {x:α},Aro P s=some x→∀R,s.run P R=.ok x R
 | .pure a,x,h,R=>by
  obtain rfl:a=x:=Option.some.inj h
  rfl
 | .program k,x,h,R=>by
  show(k P).run P R=_
  exact Amu (s:=k P) h R
 | .load _ _ _,_,h,_=>by cases h
 | .store _ _ _ _,_,h,_=>by cases h
 | .new _ _,_,h,_=>by cases h
 | .shape _ _,_,h,_=>by cases h
 | .freeze _ _ _,_,h,_=>by cases h
 | .frozen _ _,_,h,_=>by cases h
 | .getObj _ _,_,h,_=>by cases h
 | .setObj _ _ _,_,h,_=>by cases h
 | .choose _ _,_,h,_=>by cases h
 | .sys _ _,_,h,_=>by cases h
 | .mark _ _,_,h,_=>by cases h
 | .halt _,_,h,_=>by cases h
abbrev AQ:=List (Nat×Bool)
def inG (u:Nat) (b:Bool):AQ→Bool
 | []=>false
 |(k,c)::r=>bif Nat.beq k u then(bif Aww c b then true else inG u b r) else inG u b r
def P6 (tm:Nat→Value) (G:AQ):Prop:=∀u b,inG u b G=true→tm u=.bool b
def A.strip (G:AQ):A→Option A
 | .opt u b x=>bif inG u b G then x.strip G else none
 | .dead=>none
 |x=>some x
section
variable {F:Nat→Prop} {N:Nm} {nx:Nat} {R:World} {tm:Nat→Value} {G:AQ}
theorem Awh (hG:P6 tm G):∀{x z:A} {y:Value},x.strip G=some z→HS F N nx R tm x y→z.plain=true∧Hv F N nx R z y
 | .opt u b x,z,y,h,hh=>by
  unfold A.strip at h
  cases hi:inG u b G with
  |false=>rw[hi] at h;cases h
  |true=>
   rw[hi] at h
   simp only[HS] at hh
   exact Awh hG h (hh.1 (hG u b hi))
 | .v _,z,_,h,hh=>by obtain rfl:=Option.some.inj h;exact⟨rfl,(Ac rfl).1 hh⟩
 | .sl _ _,z,_,h,hh=>by obtain rfl:=Option.some.inj h;exact⟨rfl,(Ac rfl).1 hh⟩
 | .own _ _,z,_,h,hh=>by obtain rfl:=Option.some.inj h;exact⟨rfl,(Ac rfl).1 hh⟩
 | .ownx _ _ _ _,z,_,h,hh=>by obtain rfl:=Option.some.inj h;exact⟨rfl,(Ac rfl).1 hh⟩
 | .sq _,z,_,h,hh=>by obtain rfl:=Option.some.inj h;exact⟨rfl,(Ac rfl).1 hh⟩
 | .dq _,z,_,h,hh=>by obtain rfl:=Option.some.inj h;exact⟨rfl,(Ac rfl).1 hh⟩
 | .iv _ _,z,_,h,hh=>by obtain rfl:=Option.some.inj h;exact⟨rfl,(Ac rfl).1 hh⟩
 | .de _ _ _ _,z,_,h,hh=>by obtain rfl:=Option.some.inj h;exact⟨rfl,(Ac rfl).1 hh⟩
 | .ie _ _ _ _ _,z,_,h,hh=>by obtain rfl:=Option.some.inj h;exact⟨rfl,(Ac rfl).1 hh⟩
 | .vw _ _ _ _ _,z,_,h,hh=>by obtain rfl:=Option.some.inj h;exact⟨rfl,(Ac rfl).1 hh⟩
 | .el _ _ _ _,z,_,h,hh=>by obtain rfl:=Option.some.inj h;exact⟨rfl,(Ac rfl).1 hh⟩
 | .ref _,z,_,h,hh=>by obtain rfl:=Option.some.inj h;exact⟨rfl,(Ac rfl).1 hh⟩
 | .mp _,z,_,h,hh=>by obtain rfl:=Option.some.inj h;exact⟨rfl,(Ac rfl).1 hh⟩
 | .nl,z,_,h,hh=>by obtain rfl:=Option.some.inj h;exact⟨rfl,(Ac rfl).1 hh⟩
 | .it _ _,z,_,h,hh=>by obtain rfl:=Option.some.inj h;exact⟨rfl,(Ac rfl).1 hh⟩
 | .fn _ _ _,z,_,h,hh=>by obtain rfl:=Option.some.inj h;exact⟨rfl,(Ac rfl).1 hh⟩
 | .agg _,z,_,h,hh=>by obtain rfl:=Option.some.inj h;exact⟨rfl,(Ac rfl).1 hh⟩
 | .tup _,z,_,h,hh=>by obtain rfl:=Option.some.inj h;exact⟨rfl,(Ac rfl).1 hh⟩
 | .dead,_,_,h,_=>by cases h
 | .av _ _ _,z,_,h,hh=>by obtain rfl:=Option.some.inj h;exact⟨rfl,(Ac rfl).1 hh⟩
 | .rv _,z,_,h,hh=>by obtain rfl:=Option.some.inj h;exact⟨rfl,(Ac rfl).1 hh⟩
 | .vr _ _ _ _,z,_,h,hh=>by obtain rfl:=Option.some.inj h;exact⟨rfl,(Ac rfl).1 hh⟩
 | .vd _ _ _ _,z,_,h,hh=>by obtain rfl:=Option.some.inj h;exact⟨rfl,(Ac rfl).1 hh⟩
 | .yl _,z,_,h,hh=>by obtain rfl:=Option.some.inj h;exact⟨rfl,(Ac rfl).1 hh⟩
end
def St.ev (s:St) (G:AQ):Operand→Option A
 | .tmp t=>match s.get t with
  |some x=>x.strip G
  |none=>none
 | .const v=>some (.v v)
 | .func f=>some (.v (.func (.func f) #[] #[]))
 | .global _=>none
abbrev Arr:=Nat×A×Nat×AE×List Prop
abbrev KD:=List A→Nat→AE→Option Arr
abbrev Tab:=FuncId→KD
def An (P:Program) (f:FuncId) (args:List A) (nx:Nat) (o:AE) (k:Nat) (x:A) (nx':Nat) (o':AE):Prop:=
 ∀(F:Nat→Prop) (N:Nm) (R:World) (vs:List Value),Bp F N nx o R→HL F N nx R args vs→
  Calls P f vs.toArray R fun e R'=>∃y F' N',e=.returned y∧Bp F' N' nx' o' R'∧Step F N nx o R F' N' nx' o' R'∧Hv F' N' nx' R' x y∧(k≤1→Below R.heap.size R R')
structure Env where
 P:Program
 eq:TypeId→List Value→List Value→Option Bool
 C:Tab
 lit:Bool
 tc:TypeId→Option TC
 ir:Bool
 L:Nat→St→Option (Code×List Prop×List (Option Nat×Option Bool×St))
abbrev ylK:Nat:=1000000
def A1y (P:Program) (i:Nat) (args:List A) (nx:Nat) (o:AE) (k:Nat) (x:A) (nx':Nat) (o':AE):Prop:=
 ∀(F:Nat→Prop) (N:Nm) (R:World) (vs:List Value),Bp F N nx o R→i <nx→HL F N nx R args vs→
  YieldAt Fence.wide 0 P (N.b i) vs.toArray R fun e R'=>∃y F' N',e=.returned y∧Bp F' N' nx' o' R'∧Step F N nx o R F' N' nx' o' R'∧Hv F' N' nx' R' x y∧(k≤1→Below R.heap.size R R')
structure EnvOk (E:Env):Prop where
 suf:∀f args nx o k x nx' o' ps,E.C f args nx o=some (k,x,nx',o',ps)→∃d,o'=d++o
 wide:E.P.follows .mixedOrders=true
 eq:∀t xs ys b,E.eq t xs ys=some b→E.P.eqGuardType E.P.depth t=false∧∀R,(Op.equalIn 10000 t (.agg xs.toArray) (.agg ys.toArray)).run E.P R=.ok b R
 C:∀f args nx o k x nx' o' ps,E.C f args nx o=some (k,x,nx',o',ps)→Nat.ble ylK f=false→(∀p∈ps,p)→An E.P f args nx o k x nx' o'
 Y:∀f i xs nx o k x nx' o' ps,E.C f (.yl i::xs) nx o=some (k,x,nx',o',ps)→Nat.ble ylK f=true→(∀p∈ps,p)→A1y E.P i xs nx o k x nx' o'
 tc:∀t c,E.tc t=some c→∃i,E.P.info? t=some i∧i.size=size c∧0 <size c∧∃z,i.zero=some z∧∀(F:Nat→Prop) (N:Nm) (nx:Nat) (R:World),HL F N nx R (enc c (Av c)) z.cells.toList
def B6k:A→Option Value
 | .v x=>some x
 | .agg xs=>match A5d xs with
  |some l=>some (.agg l.toArray)
  |none=>none
 |_=>none
theorem Bw4 {F:Nat→Prop} {N:Nm} {nx:Nat} {R:World} {x:A} {y u:Value} (h:B6k x=some u) (hh:Hv F N nx R x y):y=u:=by
 cases x<;>try (cases h;done)
 ·cases h;exact hh.v_inv
 ·rename_i xs
  have h':(match A5d xs with|some l=>some (Value.agg l.toArray)|none=>none)=some u:=h
  split at h'<;>first|(cases h';done)|skip
  rename_i l hl
  cases h'
  obtain⟨vs,rfl,h2⟩:=hh.agg_inv
  rw[A5e hl h2]
section
variable {E:Env} {Z:FG} {F:Nat→Prop} {N:Nm} {s:St} {a:Act} {R:World} {G:AQ}
theorem BL (h:Rel Z F N s a R) (hG:P6 (BH a) G) {o:Operand} {z:A} (ho:s.ev G o=some z):z.plain=true∧Hv F N s.nx R z (a.eval o):=by
 cases o with
 | tmp t=>
  unfold St.ev at ho
  cases hg:s.get t with
  |none=>simp only[hg] at ho;cases ho
  |some x=>
   simp only[hg] at ho
   exact Awh hG ho (h.slots t x hg)
 |const v=>obtain rfl:=Option.some.inj ho;exact⟨rfl,Hv.v _⟩
 |global g=>cases ho
 |func f=>obtain rfl:=Option.some.inj ho;exact⟨rfl,Hv.v _⟩
def St.raw (s:St) (G:AQ) (o:Operand):Option Value:=match s.ev G o with
 |some x=>B6k x
 |none=>none
theorem EP (h:Rel Z F N s a R) (hG:P6 (BH a) G) {o:Operand} {y:Value} (ho:s.raw G o=some y):a.eval o=y:=by
 unfold St.raw at ho
 cases he:s.ev G o with
 |none=>rw[he] at ho;cases ho
 |some z=>
  rw[he] at ho
  exact Bw4 ho (BL h hG he).2
def rho (s:St) (G:AQ) (o:Operand):Value:=match s.raw G o with
 |some y=>y
 |none=>undef
def Aii (s:St) (G:AQ):List Operand→Bool
 | []=>true
 |o::r=>match s.raw G o with
  |some _=>Aii s G r
  |none=>false
theorem Azj:∀{l:List Operand},Aii s G l=true→∀o∈l,∃y,s.raw G o=some y
 | [],_,o,ho=>by cases ho
 | x::r,h,o,ho=>by
  unfold Aii at h
  cases hx:s.raw G x with
  |none=>simp only[hx] at h;cases h
  |some y=>
   simp only[hx] at h
   rcases List.mem_cons.1 ho with rfl|ho
   ·exact⟨y,hx⟩
   ·exact Azj h o ho
def Bsa (o:Op):Bool:=match o with| .select .. =>false|_=>true
def Bsr (P:Program) (s:St) (G:AQ) (o:Oper):Option Value:=
 bif Aii s G o.op.operands.toList then
  bif Bsa o.op then match Aro P (execOp (rho s G) o) with
   |some (.value y)=>some y
   |_=>none
  else none
 else none
theorem Bl1 (h:Rel Z F N s a R) (hG:P6 (BH a) G) {o:Oper} (hr:Aii s G o.op.operands.toList=true) (hn:Bsa o.op=true):execOp a.eval o=execOp (rho s G) o:=by
 refine execOp_congr o (fun cs b he=>by rw[he] at hn;cases hn) fun x hx=>?_
 obtain⟨y,hy⟩:=Azj hr x (by simpa using hx)
 rw[EP h hG hy]
 unfold rho
 rw[hy]
theorem Bm3 (h:Rel Z F N s a R) (hG:P6 (BH a) G) {o:Oper} {y:Value} (he:Bsr E.P s G o=some y) (R':World):(execOp a.eval o).run E.P R'=.ok (.value y) R':=by
 unfold Bsr at he
 cases hr:Aii s G o.op.operands.toList with
 |false=>rw[hr] at he;cases he
 | true=>
  cases hn:Bsa o.op with
  |false=>rw[hr,hn] at he;cases he
  | true=>
   rw[hr,hn] at he
   simp only[cond_true] at he
   rw[Bl1 h hG hr hn]
   cases hp:Aro E.P (execOp (rho s G) o) with
   |none=>rw[hp] at he;cases he
   |some z=>
    rw[hp] at he
    cases z<;>first|cases he|skip
    exact Amu hp R'
end
def XL (f:Value→Value→Option Value):List Value→List Value→Option (List Value)
 | [],[]=>some []
 | x::xs,y::ys=>match f x y with
  |some z=>match XL f xs ys with
   |some zs=>some (z::zs)
   |none=>none
  |none=>none
 |_,_=>none
def As5:IntKind→IntKind→Bool
 | .i64,.i64=>true
 | .u8,.u8=>true
 | .u64,.u64=>true
 | .i32,.i32=>true
 | .u32,.u32=>true
 |_,_=>false
def slM (q:Bool):Option Addr→Nat→Nat→Option Addr→Nat→Nat→Value
 |none,0,0,none,0,0=> .slice none 0 0
 |A,n,c,A',n',c'=> .slice (bif q then A else A') (bif q then n else n') (bif q then c else c')
theorem B2x {q:Bool} {A A':Option Addr} {n c n' c':Nat}:slM q A n c A' n' c'=bif q then .slice A n c else .slice A' n' c':=by
 unfold slM
 split<;>cases q<;>rfl
def M1:Nat→Bool→Value→Value→Option Value
 |_,q,.bool x,.bool y=>some (.bool (bif q then x else y))
 |_,q,.int k x,.int k' y=>bif As5 k k' then some (.int k (bif q then x else y)) else none
 |_,q,.string x,.string y=>some (.string (bif q then x else y))
 |_,q,.slice A n c,.slice A' n' c'=>some (slM q A n c A' n' c')
 |d+1,q,.agg xs,.agg ys=>match XL (M1 d q) xs.toList ys.toList with
  |some zs=>some (.agg zs.toArray)
  |none=>none
 |d+1,q,.tuple xs,.tuple ys=>match XL (M1 d q) xs.toList ys.toList with
  |some zs=>some (.tuple zs.toArray)
  |none=>none
 |_,_,_,_=>none
theorem As6 {k k':IntKind} (h:As5 k k'=true):k=k':=by cases k<;>cases k'<;>first|rfl|cases h
theorem Ajq {f:Value→Value→Option Value} {q:Bool} (hf:∀x y z,f x y=some z→z=bif q then x else y):∀{xs ys zs:List Value},XL f xs ys=some zs→zs=bif q then xs else ys
 | [],[],zs,h=>by
  obtain rfl:=Option.some.inj h
  cases q<;>rfl
 | [],_::_,_,h=>by cases h
 |_::_,[],_,h=>by cases h
 | x::xs,y::ys,zs,h=>by
  unfold XL at h
  cases h1:f x y with
  |none=>simp only[h1] at h;cases h
  | some z=>
   cases h2:XL f xs ys with
   |none=>simp only[h1,h2] at h;cases h
   |some nt=>
    simp only[h1,h2] at h
    obtain rfl:=Option.some.inj h
    have e1:=hf x y z h1
    have e2:=Ajq hf h2
    rw[e1,e2]
    cases q<;>rfl
theorem Ajr:∀{d:Nat} {q:Bool} {x y z:Value},M1 d q x y=some z→z=bif q then x else y
 | d,q,x,y,z,h=>by
  cases x<;>cases y<;>first|(cases d<;>(unfold M1 at h;cases h);done)|skip
  case bool.bool a b=>unfold M1 at h;cases h;cases q<;>rfl
  case int.int k a k' b=>
   unfold M1 at h
   cases hk:As5 k k' with
   |false=>rw[hk] at h;cases h
   |true=>
    rw[hk] at h
    obtain rfl:=As6 hk
    cases h
    cases q<;>rfl
  case string.string a b=>unfold M1 at h;cases h;cases q<;>rfl
  case slice.slice A n c A' n' c'=>
   unfold M1 at h
   cases h
   exact B2x
  case agg.agg xs ys=>
   cases d with
   |zero=>unfold M1 at h;cases h
   | succ d=>
    unfold M1 at h
    cases hm:XL (M1 d q) xs.toList ys.toList with
    |none=>simp only[hm] at h;cases h
    |some zs=>
     simp only[hm] at h
     obtain rfl:=Option.some.inj h
     rw[Ajq (fun x y z hz=>Ajr hz) hm]
     cases q<;>rfl
  case tuple.tuple xs ys=>
   cases d with
   |zero=>unfold M1 at h;cases h
   | succ d=>
    unfold M1 at h
    cases hm:XL (M1 d q) xs.toList ys.toList with
    |none=>simp only[hm] at h;cases h
    |some zs=>
     simp only[hm] at h
     obtain rfl:=Option.some.inj h
     rw[Ajq (fun x y z hz=>Ajr hz) hm]
     cases q<;>rfl
def E5:Value→Bool
 | .slice none 0 0=>true
 |_=>false
def Eh (f:A→A→A) (g:Bool):List A→List A→List A
 |x::xs,y::ys=>f x y::Eh f g xs ys
 | [],[]=>[]
 |xs,ys=>bif g then xs else ys
def Agl (g:Bool) (c:TC) (l:List (U c)) (c':TC) (l':List (U c')):A:=match TC.same c' c with
 |some h=> .sl c (bif g then l else RQ h.down l')
 |none=> .dead
def OB:Nat→Bool→A→A→A
 |0,_,_,_=> .dead
 | d+1,g,x,y=>match x,y with
  | .v x,.v y=>match M1 2 g x y with
   |some z=> .v z
   |none=> .dead
  | .v x,.sl c l=>bif E5 x then .sl c (bif g then[] else l) else .dead
  | .sl c l,.v x=>bif E5 x then .sl c (bif g then l else[]) else .dead
  | .sl c l,.sl c' l'=>Agl g c l c' l'
  | .sl c l,.nl=> .sl c (bif g then l else[])
  | .nl,.sl c l=> .sl c (bif g then[] else l)
  | .nl,.nl=> .nl
  | .nl,.v x=>bif E5 x then .nl else .dead
  | .v x,.nl=>bif E5 x then .nl else .dead
  | .own i o,.own j p=>bif Nat.beq i j then(bif Nat.beq o p then .own i o else .dead) else .dead
  | .sq i,.sq j=>bif Nat.beq i j then .sq i else .dead
  | .mp i,.mp j=>bif Nat.beq i j then .mp i else .dead
  | .agg xs,.agg ys=>T7 (Eh (OB d g) g xs ys)
  | .tup xs,.tup ys=> .tup (Eh (OB d g) g xs ys)
  | .fn f xs us,.fn h ys ws=>bif Nat.beq f h then .fn f (Eh (OB d g) g xs ys) (Eh (OB d g) g us ws) else .dead
  | .ref l,.ref l'=> .ref (Eh (OB d g) g l l')
  | .av c n l,.av c' n' l'=>match TC.same c' c with
   |some h=>bif Nat.beq n n' then .av c n (bif g then l else RQ h.down l') else .dead
   |none=> .dead
  |_,_=> .dead
def TR:A→A
 | .v (.agg xs)=> .agg (toL xs.toList)
 | .v (.tuple xs)=> .tup (toL xs.toList)
 | .v (.func (.func f) xs us)=> .fn f (toL xs.toList) (toL us.toList)
 |x=>x
def Agg:A→A→Bool
 | .agg _,.v _=>true
 | .v _,.agg _=>true
 | .tup _,.v _=>true
 | .v _,.tup _=>true
 | .fn _ _ _,.v _=>true
 | .v _,.fn _ _ _=>true
 | .v (.func _ _ _),.v (.func _ _ _)=>true
 |_,_=>false
def Atr (g:Bool) (x y:A):A:=bif Agg x y then OB 4 g (TR x) (TR y) else OB 4 g x y
section
variable {F:Nat→Prop} {N:Nm} {nx:Nat} {R:World} {g:Bool}
theorem U4 {cs:List A} {vs:List Value} (h:HL F N nx R cs vs):Hv F N nx R (T7 cs) (.agg vs.toArray):=by
 unfold T7
 split
 ·rename_i xs hx
  rw[A5e hx h]
  exact Hv.v _
 ·exact Hv.of_agg h
theorem Gx {f:A→A→A} (hf:∀{x y v},Hv F N nx R (bif g then x else y) v→Hv F N nx R (f x y) v):∀{xs ys:List A} {vs:List Value},HL F N nx R (bif g then xs else ys) vs→HL F N nx R (Eh f g xs ys) vs
 | [],[],_,h=>by unfold Eh;cases g<;>exact h
 | [],_::_,_,h=>by unfold Eh;exact h
 |_::_,[],_,h=>by unfold Eh;exact h
 |x::xs,y::ys,vs,h=>by
  unfold Eh
  have h':HL F N nx R ((bif g then x else y)::(bif g then xs else ys)) vs:=by cases g<;>exact h
  obtain⟨v,us,rfl,h2,h3⟩:=h'.inv
  exact HL.cons (hf h2) (Gx hf h3)
theorem HC.cons {x:A} {r:List A} {ad:Addr}:HC F N nx R (x::r) ad↔(∃y,R.cell? ad=some y∧Hv F N nx R x y)∧HC F N nx R r (ad.add 1):=by
 constructor
 ·intro h
  refine⟨by have:=h 0 x rfl;rwa[add_zero] at this,fun j y hy=>?_⟩
  have:=h (j+1) y hy
  rw[Fa,Nat.add_comm 1 j]
  exact this
 ·intro⟨h1,h2⟩ j y hy
  cases j with
  |zero=>cases hy;rw[add_zero];exact h1
  |succ j=>
   have:=h2 j y hy
   rw[Fa,Nat.add_comm 1 j] at this
   exact this
theorem HC.nil {ad:Addr}:HC F N nx R [] ad:=fun j x h=>by cases j<;>cases h
theorem Amo {f:A→A→A} (hf:∀{x y v},Hv F N nx R (bif g then x else y) v→Hv F N nx R (f x y) v):∀{xs ys:List A} {ad:Addr},HC F N nx R (bif g then xs else ys) ad→HC F N nx R (Eh f g xs ys) ad
 | [],[],_,h=>by unfold Eh;cases g<;>exact h
 | [],_::_,_,h=>by unfold Eh;exact h
 |_::_,[],_,h=>by unfold Eh;exact h
 |x::xs,y::ys,ad,h=>by
  unfold Eh
  have h':HC F N nx R ((bif g then x else y)::(bif g then xs else ys)) ad:=by cases g<;>exact h
  obtain⟨⟨u,h1,h2⟩,h3⟩:=HC.cons.1 h'
  exact HC.cons.2 ⟨⟨u,h1,hf h2⟩,Amo hf h3⟩
theorem G9 {x:Value} (h:E5 x=true):x=.slice none 0 0:=by
 unfold E5 at h
 split at h
 ·rfl
 ·cases h
theorem Bej {c c':TC} {l:List (U c)} {l':List (U c')} {v:Value} (h:Hv F N nx R (bif g then .sl c l else .sl c' l') v):Hv F N nx R (Agl g c l c' l') v:=by
 unfold Agl
 split
 ·rename_i h1 _
  obtain⟨h1⟩:=h1
  subst h1
  cases g<;>exact h
 ·exact .dead _
theorem ZG:∀(d:Nat) {x y:A} {v:Value},Hv F N nx R (bif g then x else y) v→Hv F N nx R (OB d g x y) v
 |0,_,_,_,_=> .dead _
 | d +1,x,y,v,h=>by
  have ih:∀{x y v},Hv F N nx R (bif g then x else y) v→Hv F N nx R (OB d g x y) v:=fun h=>ZG d h
  unfold OB
  split
  ·rename_i x y
   split
   ·rename_i z hz
    rw[Ajr hz]
    cases g<;>exact h
   ·exact .dead _
  ·rename_i x c l
   cases hx:E5 x with
   |false=>exact .dead _
   |true=>
    obtain rfl:=G9 hx
    cases g with
    |false=>exact h
    |true=>exact Hv.sl_nil h.v_inv
  ·rename_i c l x
   cases hx:E5 x with
   |false=>exact .dead _
   |true=>
    obtain rfl:=G9 hx
    cases g with
    |true=>exact h
    |false=>exact Hv.sl_nil h.v_inv
  ·exact Bej h
  ·cases g with
   |true=>exact h
   |false=>obtain⟨a,e⟩:=h.nl_inv;exact Hv.sl_nil e
  ·cases g with
   |false=>exact h
   |true=>obtain⟨a,e⟩:=h.nl_inv;exact Hv.sl_nil e
  ·cases g<;>exact h
  ·rename_i x
   cases hx:E5 x with
   |false=>exact .dead _
   |true=>
    obtain rfl:=G9 hx
    cases g with
    |true=>exact h
    |false=>rw[h.v_inv];exact .nl _
  ·rename_i x
   cases hx:E5 x with
   |false=>exact .dead _
   |true=>
    obtain rfl:=G9 hx
    cases g with
    |false=>exact h
    |true=>rw[h.v_inv];exact .nl _
  ·rename_i i o j p
   cases h1:Nat.beq i j with
   |false=>exact .dead _
   | true=>
    cases h2:Nat.beq o p with
    |false=>exact .dead _
    |true=>
     obtain rfl:=Nat.eq_of_beq_eq_true h1
     obtain rfl:=Nat.eq_of_beq_eq_true h2
     cases g<;>exact h
  ·rename_i i j
   cases h1:Nat.beq i j with
   |false=>exact .dead _
   |true=>
    obtain rfl:=Nat.eq_of_beq_eq_true h1
    cases g<;>exact h
  ·rename_i i j
   cases h1:Nat.beq i j with
   |false=>exact .dead _
   |true=>
    obtain rfl:=Nat.eq_of_beq_eq_true h1
    cases g<;>exact h
  ·rename_i xs ys
   have h':Hv F N nx R (.agg (bif g then xs else ys)) v:=by cases g<;>exact h
   obtain⟨vs,rfl,h2⟩:=h'.agg_inv
   exact U4 (Gx ih h2)
  ·rename_i xs ys
   have h':Hv F N nx R (.tup (bif g then xs else ys)) v:=by cases g<;>exact h
   obtain⟨vs,rfl,h2⟩:=h'.tup_inv
   exact Hv.of_tup (Gx ih h2)
  ·rename_i f xs us h0 ys ws
   cases h1:Nat.beq f h0 with
   |false=>exact .dead _
   |true=>
    obtain rfl:=Nat.eq_of_beq_eq_true h1
    have h':Hv F N nx R (.fn f (bif g then xs else ys) (bif g then us else ws)) v:=by cases g<;>exact h
    obtain⟨vs,ks,rfl,h2,h3⟩:=h'.fn_inv
    exact Hv.of_fn (Gx ih h2) (Gx ih h3)
  ·rename_i l l'
   have h':Hv F N nx R (.ref (bif g then l else l')) v:=by cases g<;>exact h
   obtain⟨ad,rfl,h2,h3⟩:=h'.ref_inv
   exact Hv.of_ref h2 (Amo ih h3)
  ·rename_i c n l c' n' l'
   split
   ·rename_i hh _
    obtain⟨hh⟩:=hh
    subst hh
    cases hb:Nat.beq n n' with
    |false=>exact .dead _
    |true=>
     obtain rfl:=Nat.eq_of_beq_eq_true hb
     cases g<;>exact h
   ·exact .dead _
  ·exact .dead _
theorem A1j {x:A} {v:Value} (h:Hv F N nx R x v):Hv F N nx R (TR x) v:=by
 unfold TR
 split
 ·rename_i xs
  rw[h.v_inv]
  have:=Hv.of_agg (HL.toL (F:=F) (N:=N) (nx:=nx) (R:=R) xs.toList)
  simpa using this
 ·rename_i xs
  rw[h.v_inv]
  have:=Hv.of_tup (HL.toL (F:=F) (N:=N) (nx:=nx) (R:=R) xs.toList)
  simpa using this
 ·rename_i f xs us
  rw[h.v_inv]
  have:=Hv.of_fn (f:=f) (HL.toL (F:=F) (N:=N) (nx:=nx) (R:=R) xs.toList) (HL.toL (F:=F) (N:=N) (nx:=nx) (R:=R) us.toList)
  simpa using this
 ·exact h
theorem UB {x y:A} {v:Value} (h:Hv F N nx R (bif g then x else y) v):Hv F N nx R (Atr g x y) v:=by
 unfold Atr
 cases Agg x y with
 |false=>exact ZG 4 h
 |true=>exact ZG 4 (by cases g<;>exact A1j h)
end
def SJ (b:Bool):Operand→AQ→AQ
 | .tmp u,G=>(u,b)::G
 |_,G=>G
theorem Vx {a:Act} {G:AQ} {b:Bool} {c:Operand} (hG:P6 (BH a) G) (hc:a.eval c=.bool b):P6 (BH a) (SJ b c G):=by
 cases c<;>first|exact hG|skip
 rename_i u
 intro k d hk
 unfold SJ inG at hk
 cases hu:Nat.beq u k with
 |false=>rw[hu] at hk;exact hG k d hk
 |true=>
  rw[hu] at hk
  simp only[cond_true] at hk
  obtain rfl:=Nat.eq_of_beq_eq_true hu
  cases hb:Aww b d with
  |false=>rw[hb] at hk;exact hG _ d hk
  |true=>obtain rfl:=Zq hb;exact hc
def Bdi:Operand→Option Bool
 | .const (.bool b)=>some b
 |_=>none
def Bsi (s:St) (G:AQ) (c x y:Operand):Option A:=
 match s.raw G c with
 | some (.bool q)=>match s.ev (SJ true c G) x,s.ev (SJ false c G) y with
  |some x',some y'=>match Bdi x,Bdi y,x',y' with
   |some true,_,_,.v (.bool p)=>some (.v (.bool (q||p)))
   |_,some false,.v (.bool p),_=>some (.v (.bool (q&&p)))
   |_,_,_,_=>some (Atr q x' y')
  |_,_=>none
 |_=>none
theorem A8e {s:St} {G:AQ} {x:Operand} {b:Bool} {v:A} (h:Bdi x=some b) (hr:s.ev G x=some v):v=.v (.bool b):=by
 match x,h with
 | .const (.bool c),h'=>
  obtain rfl:c=b:=Option.some.inj h'
  exact(Option.some.inj hr).symm
theorem Bsj {Z:FG} {F:Nat→Prop} {N:Nm} {s:St} {a:Act} {R:World} {G:AQ} (h:Rel Z F N s a R) (hG:P6 (BH a) G) {c x y:Operand} {z:A} (he:Bsi s G c x y=some z):
  ∃q,a.eval c=.bool q∧Hv F N s.nx R z (if q then a.eval x else a.eval y):=by
 unfold Bsi at he
 cases hc:s.raw G c with
 |none=>simp only[hc] at he;cases he
 | some cv=>
  cases cv<;>first|(simp only[hc] at he;cases he;done)|skip
  rename_i q
  have hq:=EP h hG hc
  refine⟨q,hq,?_⟩
  simp only[hc] at he
  cases hx:s.ev (SJ true c G) x with
  |none=>simp only[hx] at he;cases he
  | some x'=>
   cases hy:s.ev (SJ false c G) y with
   |none=>simp only[hx,hy] at he;cases he
   | some y'=>
    simp only[hx,hy] at he
    have hv:Hv F N s.nx R (bif q then x' else y') (if q then a.eval x else a.eval y):=by
     cases q with
     |true=>exact(BL h (Vx hG hq) hx).2
     |false=>exact(BL h (Vx hG hq) hy).2
    split at he
    ·rename_i h1
     have:=A8e h1 hx
     subst this
     obtain rfl:=Option.some.inj he
     cases q<;>exact hv
    ·rename_i h1 _
     have:=A8e h1 hy
     subst this
     obtain rfl:=Option.some.inj he
     cases q<;>first|(simp only[Bool.false_and];exact hv)|(simp only[Bool.true_and];exact hv)
    ·obtain rfl:=Option.some.inj he
     exact UB hv
section
variable (F:Nat→Prop) (N:Nm) (nx:Nat) (R:World)
def HLs (l l':List A):Prop:=∀vs,HL F N nx R l vs→HL F N nx R l' vs
variable {F:Nat→Prop} {N:Nm} {nx:Nat} {R:World}
theorem HLs.refl (l:List A):HLs F N nx R l l:=fun _ h=>h
theorem HLs.cons {l r r':List A} {x:A} (h:HLs F N nx R l (x::r)) (k:HLs F N nx R r r'):HLs F N nx R l (x::r'):=fun vs hv=>by
 obtain⟨v,us,rfl,h1,h2⟩:=(h vs hv).inv
 exact HL.cons h1 (k us h2)
theorem Fs {α β:Type} {g:Got α} {f:α→List A→List Prop→Option β} {y:β} (h:g.thn f=some y):∃x r ps,g=some (x,r,ps)∧f x r ps=some y:=by
 unfold Got.thn at h
 split at h<;>try (cases h;done)
 exact⟨_,_,_,rfl,h⟩
theorem Bqv {α:Type} {r:List A} {x y:α} {ps qs:List Prop} (h:RM r x ps=some (y,qs)):r=[]∧x=y∧ps=qs:=by
 unfold RM at h
 split at h<;>try (cases h;done)
 cases h
 exact⟨rfl,rfl,rfl⟩
theorem B5o {l r:List A} {ps qs:List Prop} {n:Int} (h:gI l ps=some (n,r,qs)) (hq:∀q∈qs,q):(∀q∈ps,q)∧HLs F N nx R l (iV n::r):=by
 obtain⟨rfl,rfl⟩:=B5p h;exact⟨hq,.refl _⟩
theorem B5x {l r:List A} {ps qs:List Prop} {n:Int} (h:gW l ps=some (n,r,qs)) (hq:∀q∈qs,q):(∀q∈ps,q)∧HLs F N nx R l (.v (.int .u32 n)::r):=by
 obtain⟨rfl,rfl⟩:=B5y h;exact⟨hq,.refl _⟩
theorem B5m {l r:List A} {ps qs:List Prop} {n:Bool} (h:gB l ps=some (n,r,qs)) (hq:∀q∈qs,q):(∀q∈ps,q)∧HLs F N nx R l (.v (.bool n)::r):=by
 obtain⟨rfl,rfl⟩:=B5n h;exact⟨hq,.refl _⟩
theorem B5s {l r:List A} {ps qs:List Prop} {n:ByteArray} (h:gT l ps=some (n,r,qs)) (hq:∀q∈qs,q):(∀q∈ps,q)∧HLs F N nx R l (.v (.string n)::r):=by
 obtain⟨rfl,rfl⟩:=B5t h;exact⟨hq,.refl _⟩
theorem B5v {l r:List A} {ps qs:List Prop} {n:UInt8} (h:gU l ps=some (n,r,qs)) (hq:∀q∈qs,q):(∀q∈ps,q)∧HLs F N nx R l (.v (BN n)::r):=by
 obtain⟨rfl,h2⟩:=B5w h hq;exact⟨h2,.refl _⟩
theorem B5q {c:TC} {l r:List A} {ps qs:List Prop} {n:List (U c)} (h:gL c l ps=some (n,r,qs)) (hq:∀q∈qs,q):(∀q∈ps,q)∧HLs F N nx R l (.sl c n::r):=by
 obtain⟨h1,rfl⟩:=B5r h
 refine⟨hq,?_⟩
 rcases h1 with rfl|⟨rfl|rfl,rfl⟩
 ·exact .refl _
 ·intro vs hv
  obtain⟨v,us,rfl,h1,h2⟩:=hv.inv
  exact HL.cons (Hv.sl_nil (a:=none) h1.v_inv) h2
 ·intro vs hv
  obtain⟨v,us,rfl,h1,h2⟩:=hv.inv
  obtain⟨a,e⟩:=h1.nl_inv
  exact HL.cons (Hv.sl_nil e) h2
def Bus (l:List A) (ps RM:List Prop) (L:List A):Prop:=(∀q∈RM,q)→(∀q∈ps,q)∧HLs F N nx R l L
theorem Bt3 {ps:List Prop}:Bus (F:=F) (N:=N) (nx:=nx) (R:=R) [] ps ps []:=fun h=>⟨h,.refl _⟩
theorem Z3 {l r L:List A} {ps qs RM:List Prop} {x:A} (g:(∀q∈qs,q)→(∀q∈ps,q)∧HLs F N nx R l (x::r)) (k:Bus (F:=F) (N:=N) (nx:=nx) (R:=R) r qs RM L):Bus (F:=F) (N:=N) (nx:=nx) (R:=R) l ps RM (x::L):=fun h=>by
 obtain⟨h1,h2⟩:=k h
 obtain⟨h3,h4⟩:=g h1
 exact⟨h3,h4.cons h2⟩
theorem Aiu {c:TC} {cs:List A} {d:U c} {ps:List Prop} (h:dec c cs=some (d,ps)) (hp:∀p∈ps,p):HLs F N nx R cs (enc c d):=by
 have key:Bus (F:=F) (N:=N) (nx:=nx) (R:=R) cs [] ps (enc c d):=by
  cases c<;>unfold dec at h
  iterate 1 obtain⟨_,_,_,_,h⟩:=Fs h
  rotate_left
  iterate 1 obtain⟨_,_,_,_,h⟩:=Fs h
  rotate_left
  iterate 1 obtain⟨_,_,_,_,h⟩:=Fs h
  rotate_left
  iterate 1 obtain⟨_,_,_,_,h⟩:=Fs h
  rotate_left
  iterate 1 obtain⟨_,_,_,_,h⟩:=Fs h
  rotate_left
  iterate 2 obtain⟨_,_,_,_,h⟩:=Fs h
  rotate_left
  iterate 2 obtain⟨_,_,_,_,h⟩:=Fs h
  rotate_left
  iterate 8 obtain⟨_,_,_,_,h⟩:=Fs h
  rotate_left
  iterate 2 obtain⟨_,_,_,_,h⟩:=Fs h
  rotate_left
  iterate 2 obtain⟨_,_,_,_,h⟩:=Fs h
  rotate_left
  iterate 4 obtain⟨_,_,_,_,h⟩:=Fs h
  rotate_left
  iterate 7 obtain⟨_,_,_,_,h⟩:=Fs h
  rotate_left
  iterate 2 obtain⟨_,_,_,_,h⟩:=Fs h
  rotate_left
  iterate 17 obtain⟨_,_,_,_,h⟩:=Fs h
  rotate_left
  iterate 1 obtain⟨_,_,_,_,h⟩:=Fs h
  rotate_left
  iterate 1 obtain⟨_,_,_,_,h⟩:=Fs h
  rotate_left
  iterate 1 obtain⟨_,_,_,_,h⟩:=Fs h
  rotate_left
  iterate 1 obtain⟨_,_,_,_,h⟩:=Fs h
  rotate_left
  iterate 32 obtain⟨_,_,_,_,h⟩:=Fs h
  rotate_left
  all_goals
   obtain⟨rfl,rfl,rfl⟩:=Bqv h
   repeat first
    |exact Bt3
    |refine Z3 (B5o (by assumption)) ?_
    |refine Z3 (B5q (by assumption)) ?_
    |refine Z3 (B5s (by assumption)) ?_
    |refine Z3 (B5m (by assumption)) ?_
    |refine Z3 (B5x (by assumption)) ?_
    |refine Z3 (B5v (by assumption)) ?_
 exact(key hp).2
end
theorem MM (x:UInt8):(0:Int)≤(x.toNat:Int)∧(x.toNat:Int) <256:=by
 have:=x.toNat_lt
 omega
def Gv (P:Program) (t:TypeId):Option Nat:=(P.info? t).map (·.size)
def Aq0 (P:Program) (t:TypeId):Option Bool:=(P.underlying t).map fun d=>match d with| .struct _| .array _ _=>true|_=>false
section runs
variable {P:Program} {R:World}
theorem Y6 {t:TypeId} {x:Value} {f:Nat} {fs:Array Field} {fd:Field} {n:Nat} {ad:Addr} (ht:P.underlying t=some (.struct fs)) (hf:fs[f]?=some fd) (hn:Gv P fd.type=some n) (h0:n≠0) (hx:x=.pointer (some ad)):
  (Instr.fieldAt t x f).run P R=.ok (.pointer (some (ad.add fd.offset))) R:=by
 subst hx
 unfold Gv at hn
 cases hi:P.info? fd.type with
 |none=>rw[hi] at hn;cases hn
 |some i=>
  rw[hi] at hn
  obtain rfl:i.size=n:=Option.some.inj hn
  simp[Instr.fieldAt,run_underlying ht,hf,Instr.sureAddr,fieldPlace,sizeOf,typeInfo,hi,h0]
theorem FC {t e:TypeId} {x:Value} {k:IntKind} {i:Int} {len n:Nat} {ad:Addr} (ht:P.underlying t=some (.array len e)) (hn:Gv P e=some n) (hx:x=.pointer (some ad)) (h0:0≤i) (h1:i <len):
  (Instr.indexAt t x (.int k i)).run P R=.ok (.pointer (some (ad.add (i.toNat*n)))) R:=by
 subst hx
 unfold Gv at hn
 cases hi:P.info? e with
 |none=>rw[hi] at hn;cases hn
 |some d=>
  rw[hi] at hn
  obtain rfl:d.size=n:=Option.some.inj hn
  simp[Instr.indexAt,run_underlying ht,Instr.sureAddr,sizeOf,typeInfo,hi,h0,h1,asIntOf]
theorem Rs {t e:TypeId} {x:Value} {k:IntKind} {i:Int} {len cap n:Nat} {ad:Addr} (ht:P.underlying t=some (.slice e)) (hn:Gv P e=some n) (hx:x=.slice (some ad) len cap) (h0:0≤i) (h1:i <len):
  (Instr.indexAt t x (.int k i)).run P R=.ok (.pointer (some (ad.add (i.toNat*n)))) R:=by
 subst hx
 unfold Gv at hn
 cases hi:P.info? e with
 |none=>rw[hi] at hn;cases hn
 |some d=>
  rw[hi] at hn
  obtain rfl:d.size=n:=Option.some.inj hn
  simp[Instr.indexAt,run_underlying ht,sizeOf,typeInfo,hi,h0,h1,asIntOf]
theorem MR {t:TypeId} {ad:Addr} {v:Value} (hr:Aq0 P t=some false) (hc:R.cell? ad=some v):(loadVar t ad).run P R=.ok v R:=by
 unfold Aq0 at hr
 cases hu:P.underlying t with
 |none=>rw[hu] at hr;cases hr
 |some d=>
  rw[hu] at hr
  have hl:(load ad).run P R=.ok v R:=by simp[hc]
  cases d<;>first|(simp[loadVar,isAgg,run_underlying hu,hc];done)|(simp at hr;done)
theorem Kp {t:TypeId} {ad:Addr} {cs:List Value} (hr:Aq0 P t=some true) (hs:Gv P t=some cs.length) (hc:∀j v,cs[j]?=some v→R.cell? (ad.add j)=some v):(loadVar t ad).run P R=.ok (.agg cs.toArray) R:=by
 have hl:=run_loadCells_list (P:=P) R ad cs hc
 unfold Aq0 at hr
 unfold Gv at hs
 cases hu:P.underlying t with
 |none=>rw[hu] at hr;cases hr
 | some d=>
  rw[hu] at hr
  cases hi:P.info? t with
  |none=>rw[hi] at hs;cases hs
  |some i=>
   rw[hi] at hs
   have kb:i.size=cs.length:=Option.some.inj hs
   cases d<;>first|(simp[loadVar,isAgg,run_underlying hu,sizeOf,typeInfo,hi,kb,hl];done)|(simp at hr;done)
theorem LJ {t:TypeId} {x:Value} {ad:Addr} (hx:x=.pointer (some ad)):(Instr.loadAt t x).run P R=(loadVar t ad).run P R:=by
 subst hx
 simp[Instr.loadAt,Instr.sureAddr]
theorem FD {t:TypeId} {x v:Value} {b o:Nat} {e:TypeId} {cs:List Value} (hx:x=.pointer (some ⟨b,o,none⟩)) (hb:R.heap[b]?=some (.cells cs.toArray e (0,0))) (hs:Gv P t=some v.cells.toList.length) (hl:o+v.cells.toList.length≤cs.length) (h1:∀c∈v.cells.toList,c.oneCell'=true):
  (Instr.storeAt t x v).run P R=.ok () (R.setRow b (cs.take o++v.cells.toList++cs.drop (o+v.cells.toList.length)).toArray):=by
 subst hx
 have h:=run_storeCells_at (P:=P) b o e v.cells.toList 0 cs.toArray R hb (by simpa using hl) h1
 unfold Gv at hs
 cases hi:P.info? t with
 |none=>rw[hi] at hs;cases hs
 |some i=>
  rw[hi] at hs
  have kb:i.size=v.cells.size:=by have:=Option.some.inj hs;simpa using this
  simp only[Instr.storeAt,Instr.sureAddr,Sem.run_bind,Sem.run_pure,Result.andThen_ok]
  simp only[Nat.add_zero] at h
  simp[storeVar,sizeOf,typeInfo,hi,kb,h]
theorem Ao3 {e:TypeId} {z:Value} (hz:(P.info? e).bind (·.zero)=some z):(Instr.alloc e true (.tuple #[])).run P R=.ok (.pointer (some ⟨R.heap.size,0,none⟩)) (R.alloc (.cells z.cells.toList.toArray e (0,0))):=by
 cases hi:P.info? e with
 |none=>rw[hi] at hz;cases hz
 |some i=>
  rw[hi] at hz
  have lj:i.zero=some z:=hz
  simp[Instr.alloc,zeroValue,typeInfo,hi,lj,newVar,newRow]
theorem ZW {e:TypeId} {v:Value}:(Instr.box e v).run P R=.ok (.pointer (some ⟨R.heap.size,0,none⟩)) (R.alloc (.cells v.cells.toList.toArray e (0,0))):=by
 simp[Instr.box,newVar,newRow]
end runs
def Bxj (k:Nat):Nat→List A→A
 |_,[]=> .dead
 |_,[x]=>x
 |j,x::y::r=>Atr (Nat.beq k j) x (Bxj k (j+1) (y::r))
def Bnz (k:Nat) (v:A):Nat→List A→List A
 |_,[]=>[]
 |j,x::r=>Atr (Nat.beq k j) v x::Bnz k v (j+1) r
section
variable {F:Nat→Prop} {N:Nm} {nx:Nat} {R:World}
theorem Bk7 {k:Nat}:∀{l:List A} {vs:List Value} {j:Nat} {v:Value},HL F N nx R l vs→j≤k→k <j+l.length→vs[k - j]?=some v→Hv F N nx R (Bxj k j l) v
 | [],_,_,_,_,_,h,_=>by simp at h;omega
 | [x],_,j,v,h,h1,h2,hv=>by
  obtain⟨u,us,rfl,h3,_⟩:=h.inv
  have:k - j=0:=by simp at h2;omega
  rw[this] at hv
  cases hv
  exact h3
 | x::y::r,_,j,v,h,h1,h2,hv=>by
  obtain⟨u,us,rfl,h3,h4⟩:=h.inv
  unfold Bxj
  refine UB ?_
  by_cases hk:k=j
  ·subst hk
   rw[QD]
   rw[Nat.sub_self] at hv
   cases hv
   exact h3
  ·rw[Ary hk]
   refine Bk7 h4 (by omega) (by simp at h2⊢;omega) ?_
   rw[show k - j=(k - (j+1))+1 by omega,List.getElem?_cons_succ] at hv
   exact hv
theorem A1f {k:Nat} {v:A}:∀{l:List A} {vs:List Value} {j:Nat},HL F N nx R l vs→k <j→HL F N nx R (Bnz k v j l) vs
 | [],_,_,h,_=>h
 |x::r,_,j,h,hk=>by
  obtain⟨u,us,rfl,h3,h4⟩:=h.inv
  unfold Bnz
  refine HL.cons (UB ?_) (A1f h4 (by omega))
  rw[Ary (by omega)]
  exact h3
theorem Bk8 {k:Nat} {v:A} {y:Value} (hy:Hv F N nx R v y):∀{l:List A} {vs:List Value} {j:Nat},HL F N nx R l vs→j≤k→k <j+l.length→HL F N nx R (Bnz k v j l) (vs.take (k - j)++[y]++vs.drop (k - j+1))
 | [],_,_,_,_,h=>by simp at h;omega
 | x::r,_,j,h,hk,h2=>by
  obtain⟨u,us,rfl,h3,h4⟩:=h.inv
  unfold Bnz
  by_cases py:k=j
  ·subst py
   rw[Nat.sub_self,QD]
   exact HL.cons (UB hy) (A1f h4 (by omega))
  ·rw[Ary py,show k - j=(k - (j+1))+1 by omega]
   exact HL.cons (UB h3) (Bk8 hy h4 (by omega) (by simp at h2;omega))
end
abbrev R2:=Option (A×List Prop)
def ndB (lit:Bool) (p:Prop) [Decidable p]:Option (List Prop):=bif lit then(bif decide p then some [] else none) else some [p]
theorem Le {lit:Bool} {p:Prop} [Decidable p] {ps:List Prop} (h:ndB lit p=some ps) (hp:∀q∈ps,q):p:=by
 unfold ndB at h
 cases lit with
 |true=>
  cases hd:decide p with
  |true=>exact of_decide_eq_true hd
  |false=>rw[hd] at h;cases h
 |false=>cases h;exact hp p (List.mem_singleton.2 rfl)
def wth (x:A):Option (List Prop)→R2
 |some ps=>some (x,ps)
 |none=>none
theorem Gl {x z:A} {o:Option (List Prop)} {ps:List Prop} (h:wth x o=some (z,ps)):x=z∧o=some ps:=by
 cases o with
 |none=>cases h
 |some qs=>cases h;exact⟨rfl,rfl⟩
def Asw (E:Env) (s:St) (G:AQ) (t:TypeId) (x:Operand) (f:Nat):R2:=
 match E.P.underlying t with
 | some (.struct fs)=>match fs[f]? with
  | some fd=>match Gv E.P fd.type with
   |some n=>bif Nat.beq n 0 then none else match s.ev G x with
    |some (.own i off)=>some (.own i (off+fd.offset),[])
    |some (.el i k sz off)=>some (.el i k sz (off+fd.offset),[])
    |some (.ref l)=>some (.ref (l.drop fd.offset),[])
    |_=>none
   |none=>none
  |none=>none
 |_=>none
def O9:Operand→Bool
 | .const _=>true
 |_=>false
def Bc5 (l:Ae) (k:Nat):Value:=BN (l.getD k 0)
def Bqj (o:AE) (i sz:Nat):Option Nat:=match Ai i o with
 |some (.arr _ size els)=>bif Nat.beq size sz then some els.n else none
 |_=>none
def B7m (c:TC) (d:U c):Option ((c':TC)×List (U c')):=match Bic c with
 |some (col,_)=>match(enc c d)[col]? with
  |some (.sl c' l')=>some ⟨c',l'⟩
  |_=>none
 |none=>none
def Bq7 (g:Nat):List (Nat×GT)→Option GT
 | []=>none
 |(n,x)::r=>bif Nat.beq n g then some x else Bq7 g r
def By8:Operand→Option GT
 | .global g=>Bq7 g Aay
 |_=>none
theorem A8p {g:Nat} {x:GT}:∀{l:List (Nat×GT)},Bq7 g l=some x→(g,x)∈l
 | [],h=>by cases h
 | (n,y)::r,h=>by
  unfold Bq7 at h
  cases hb:Nat.beq n g with
  |true=>
   rw[hb] at h
   cases h
   obtain rfl:=Nat.eq_of_beq_eq_true hb
   exact List.mem_cons_self ..
  |false=>
   rw[hb] at h
   exact List.mem_cons_of_mem _ (A8p (l:=r) h)
theorem Bq8 {x:Operand} {y:GT} (h:By8 x=some y):∃g,x=.global g∧(g,y)∈Aay:=by
 cases x with
 |global g=>exact⟨g,rfl,A8p (show Bq7 g Aay=some y from h)⟩
 |tmp t=>cases h
 |const v=>cases h
 |func f=>cases h
def Br0 (o:AE) (i:Nat):Bool:=match Ai i o with
 |some (.arr _ _ (.lst cs))=>Nat.blt 16 cs.length
 |_=>false
def u8s:List A→Option (List Int)
 | []=>some []
 | .v (.int .u8 n)::r=>match u8s r with
  |some l=>some (n::l)
  |none=>none
 |_=>none
theorem Bld:∀{l:List A} {ns:List Int} {j:Nat},u8s l=some ns→j <ns.length→l[j]?=some (.v (.int .u8 (ns.getD j 0)))
 | [],ns,j,h,hj=>by cases h;exact absurd hj (Nat.not_lt_zero _)
 | x::r,ns,j,h,hj=>by
  unfold u8s at h
  split at h<;>try (cases h;done)
  ·rename_i e;cases e
  rename_i n r' e
  injection e with e1 e2
  subst e1 e2
  cases hr:u8s r with
  |none=>rw[hr] at h;cases h
  | some l=>
   rw[hr] at h
   cases h
   cases j with
   |zero=>rfl
   |succ j=>
    have df:j <l.length:=Nat.lt_of_succ_lt_succ hj
    exact Bld (l:=r) hr df
def Bsm (sz len:Nat) (l:List A):Option (List Int):=bif Nat.beq sz 1 then(match u8s (l.take len) with
 |some ns=>bif Nat.beq ns.length len then some ns else none
 |none=>none) else none
theorem Bsn {sz len:Nat} {l:List A} {ns:List Int} (h:Bsm sz len l=some ns):sz=1∧∀j,j <len→l[j]?=some (.v (.int .u8 (ns.getD j 0))):=by
 unfold Bsm at h
 cases hb:Nat.beq sz 1 with
 |false=>rw[hb] at h;cases h
 | true=>
  rw[hb,cond_true] at h
  split at h<;>try (cases h;done)
  rename_i ns' hu
  cases hn:Nat.beq ns'.length len with
  |false=>rw[hn] at h;cases h
  |true=>
   rw[hn] at h
   cases h
   have e:=Nat.eq_of_beq_eq_true hn
   refine⟨Nat.eq_of_beq_eq_true hb,fun j hj=>?_⟩
   have:=Bld hu (j:=j) (by omega)
   rwa[List.getElem?_take_of_lt hj] at this
def Bd8 (E:Env) (s:St) (G:AQ) (t:TypeId) (x i:Operand):R2:=
 match s.raw G i with
 | some (.int _ n)=>match E.P.underlying t with
  | some (.array len e)=>match Gv E.P e with
   | some sz=>match By8 x with
    |some gt=>bif Nat.beq sz 1&&Nat.beq gt.l.length len then wth (.ref (enc gt.c (gt.l.getD n.toNat (Av gt.c)))) (ndB E.lit (0≤n∧n <(len:Int))) else none
    |none=>match s.ev G x with
    | some (.own b off)=>bif E.lit||O9 i then wth (.own b (off+n.toNat*sz)) (ndB true (0≤n∧n <(len:Int)))
      else bif Nat.beq sz 1 then some (.ownx b off len n.toNat,[0≤n∧n <(len:Int)]) else some (.ownx b off (len*sz) (n.toNat*sz),[0≤n∧n <(len:Int)])
    | some (.el b k z off)=>bif Nat.beq z sz&&Nat.beq off 0 then wth (.el b (k+n.toNat) z 0) (ndB E.lit (0≤n∧n <(len:Int)))
      else wth (.el b k z (off+n.toNat*sz)) (ndB (E.lit||O9 i) (0≤n∧n <(len:Int)))
    |some (.ref l)=>match(bif E.lit||O9 i then none else Bsm sz len l) with
     |some ns=>some (.ref [.v (.int .u8 (ns.getD n.toNat 0))],[0≤n∧n <(len:Int)])
     |none=>wth (.ref (l.drop (n.toNat*sz))) (ndB (E.lit||O9 i) (0≤n∧n <(len:Int)))
    |_=>none
   |none=>none
  | some (.slice e)=>match Gv E.P e with
   | some sz=>match s.ev G x with
    |some (.sq b)=>bif Br0 s.o b&&!(E.lit||O9 i) then none else match Bqj s.o b sz with
     |some m=>wth (.el b n.toNat sz 0) (ndB E.lit (0≤n∧n <(m:Int)))
     |none=>none
    |some (.vw b z lo m _)=>match Bqj s.o b sz with
     |some _=>bif Nat.beq z sz then wth (.el b (lo+n.toNat) sz 0) (ndB E.lit (0≤n∧n <(m:Int))) else none
     |none=>none
    |some (.sl c l)=>bif Nat.beq (size c) sz then wth (.ref (enc c (l.getD n.toNat (Av c)))) (ndB E.lit (0≤n∧n <(l.length:Int))) else none
    |_=>none
   |none=>none
  |_=>none
 |_=>none
def Aow (P:Program) (t:TypeId) (l:List A):Option A:=match Aq0 P t with
 |some true=>match Gv P t with
  |some n=>bif Nat.ble n l.length then some (T7 (l.take n)) else none
  |none=>none
 |some false=>match l with
  |x::_=>some x
  | []=>none
 |none=>none
def YZ:List A→Nat→Option (A×Nat)
 | [],_=>none
 | .av c n l::r,off=>bif Nat.blt off n then some (.av c n l,off) else YZ r (off - n)
 |x::r,off=>match off with
  |0=>some (x,0)
  |o+1=>YZ r o
def Bku (xs:List A) (off:Nat):Option A:=match YZ xs off with
 |some (.av c _ l,j)=>some (.v (sv c (l.getD j (Av c))))
 |some (x,_)=>some x
 |none=>none
def A09 (xs:List A):Nat→Nat→Option (List A)
 |_,0=>some []
 |off,n+1=>match Bku xs off,A09 xs (off+1) n with
  |some x,some r=>some (x::r)
  |_,_=>none
def B6r:A→Nat
 | .av _ n _=>n
 |_=>1
def Ah8:List A→Nat
 | []=>0
 |x::r=>B6r x+Ah8 r
def Bja:List A→Bool
 | []=>false
 |x::r=>bif Oq x then true else Bja r
def A5g (P:Program) (t:TypeId) (xs:List A) (off:Nat):Option A:=match Aq0 P t,Gv P t with
 |some false,_=>Bku xs off
 | some true,some n=>match YZ xs off with
  |some (.av c m l,0)=>bif Nat.beq m n then some (.av c m l) else none
  |_=>bif Nat.beq off 0&&(Nat.beq n (Ah8 xs)&&Bja xs) then some (.rv xs) else match A09 xs off n with
   |some cs=>some (T7 cs)
   |none=>none
 |_,_=>none
def Td (u:A):List A→Nat→Option (List A×List Prop)
 | [],_=>none
 | .av c n l::r,off=>bif Nat.blt off n then(match dec c [u] with
   |some (d,ps)=>some (.av c n (l.set off d)::r,ps)
   |none=>none) else(match Td u r (off - n) with
   |some (r',ps)=>some (.av c n l::r',ps)
   |none=>none)
 | x::r,off=>match off with
  |0=>bif Oq u then none else some (u::r,[])
  |o+1=>match Td u r o with
   |some (r',ps)=>some (x::r',ps)
   |none=>none
def A5f:List A→List A→Nat→Option (List A×List Prop)
 | [],xs,_=>some (xs,[])
 | u::us,xs,off=>match Td u xs off with
  |some (bl,ps)=>match A5f us bl (off+1) with
   |some (ys,qs)=>some (ys,ps++qs)
   |none=>none
  |none=>none
def VZ (f:(c:TC)→Nat→List (U c)→Option (List (U c)×List Prop)):List A→Nat→Option (List A×List Prop)
 | [],_=>none
 | .av c n l::r,off=>bif Nat.beq off 0 then(match f c n l with
   |some (l',ps)=>some (.av c n l'::r,ps)
   |none=>none) else bif Nat.blt off n then none else(match VZ f r (off - n) with
   |some (r',ps)=>some (.av c n l::r',ps)
   |none=>none)
 | x::r,off=>match off with
  |0=>none
  |o+1=>match VZ f r o with
   |some (r',ps)=>some (x::r',ps)
   |none=>none
section
variable {F:Nat→Prop} {N:Nm} {nx:Nat} {R:World}
theorem Hv.av_inv {c:TC} {n:Nat} {l:List (U c)} {y:Value} (h:Hv F N nx R (.av c n l) y):c.one=true∧l.length=n∧y=.agg (l.map (sv c)).toArray:=by
 cases h with|av h1 h2=>exact⟨h1,h2,rfl⟩
theorem HW.len:∀{xs:List A} {us:List Value},HW F N nx R xs us→us.length=Ah8 xs
 | [],_,h=>by rw[show _=[] from h];rfl
 | x::r,_,⟨v,t,h1,h2,h3,h4⟩=>by
  rw[h1,List.length_append,HW.len h4]
  show _=B6r x+Ah8 r
  cases hx:Oq x with
  |false=>
   rw[IZ (h3 hx)]
   cases x<;>first|rfl|cases hx
  |true=>
   cases x<;>try (cases hx;done)
   rename_i c n l
   obtain⟨_,e,rfl⟩:=h2.av_inv
   have:(Value.agg (l.map (sv c)).toArray).cells.toList.length=n:=by simp[Value.cells];exact e
   rw[this]
   rfl
theorem Bsz {c:TC} {n:Nat} {l:List (U c)} {r:List A} {off:Nat}:YZ (.av c n l::r) off=bif Nat.blt off n then some (.av c n l,off) else YZ r (off - n):=rfl
theorem Bgu {x:A} {r:List A} {off:Nat} (h:Oq x=false):YZ (x::r) off=match off with|0=>some (x,0)|o+1=>YZ r o:=by
 cases x<;>first|rfl|cases h
theorem UR:∀{xs:List A} {us:List Value} {off:Nat} {x:A} {j:Nat},HW F N nx R xs us→YZ xs off=some (x,j)→
  (Oq x=false∧j=0∧∃v,us[off]?=some v∧Hv F N nx R x v)∨∃c n l,x=.av c n l∧c.one=true∧l.length=n∧j <n∧j≤off∧∀k d,l[k]?=some d→us[off - j+k]?=some (sv c d)
 | [],_,_,_,_,_,he=>by cases he
 | z ::r,_,off,x,j,⟨v,t,h1,h2,h3,h4⟩,he=>by
  subst h1
  cases hz:Oq z with
  | false=>
   rw[Bgu hz] at he
   rw[IZ (h3 hz)]
   cases off with
   |zero=>
    cases he
    exact .inl ⟨hz,rfl,v,rfl,h2⟩
   | succ o=>
    rcases UR h4 he with⟨q1,q2,w,q3,q4⟩|⟨c,n,l,q1,q2,q3,q4,q5,q6⟩
    ·exact .inl ⟨q1,q2,w,by simpa using q3,q4⟩
    ·refine .inr ⟨c,n,l,q1,q2,q3,q4,by omega,fun k d hd=>?_⟩
     rw[show o+1 - j+k=(o - j+k)+1 by omega]
     simpa using q6 k d hd
  | true=>
   cases z<;>try (cases hz;done)
   rename_i c n l
   obtain⟨e1,e2,rfl⟩:=h2.av_inv
   have e3:(Value.agg (l.map (sv c)).toArray).cells.toList=l.map (sv c):=by simp[Value.cells]
   rw[e3]
   rw[Bsz] at he
   cases hb:Nat.blt off n with
   |true=>
    rw[hb] at he
    cases he
    refine .inr ⟨c,n,l,rfl,e1,e2,Nat.le_of_ble_eq_true hb,Nat.le_refl _,fun k d hd=>?_⟩
    have hk:=(List.getElem?_eq_some_iff.1 hd).1
    rw[Nat.sub_self,Nat.zero_add,List.getElem?_append_left (by rw[List.length_map];exact hk),List.getElem?_map,hd]
    rfl
   | false=>
    rw[hb] at he
    have dz:n≤off:=by
     rcases Nat.lt_or_ge off n with h|h
     ·have:Nat.blt off n=true:=Nat.ble_eq_true_of_le h
      rw[hb] at this
      cases this
     ·exact h
    have idx:∀m,(l.map (sv c)++t)[n+m]?=t[m]?:=fun m=>by
     rw[List.getElem?_append_right (by rw[List.length_map];omega),List.length_map,e2,Nat.add_sub_cancel_left]
    rcases UR h4 he with⟨q1,q2,w,q3,q4⟩|⟨c',n',l',q1,q2,q3,q4,q5,q6⟩
    ·refine .inl ⟨q1,q2,w,?_,q4⟩
     rw[←Nat.add_sub_cancel' dz,idx]
     exact q3
    ·refine .inr ⟨c',n',l',q1,q2,q3,q4,by omega,fun k d hd=>?_⟩
     rw[show off - j+k=n+(off - n - j+k) by omega,idx]
     exact q6 k d hd
theorem Bi4 {α:Type} {l:List α} {k:Nat} (d:α) (h:k <l.length):l[k]?=some (l.getD k d):=by
 rw[List.getD_eq_getElem?_getD,List.getElem?_eq_getElem h]
 rfl
theorem Bbo {xs:List A} {us:List Value} {off:Nat} {x:A} (h:HW F N nx R xs us) (he:Bku xs off=some x):∃v,us[off]?=some v∧Hv F N nx R x v:=by
 unfold Bku at he
 cases hr:YZ xs off with
 |none=>simp only[hr] at he;cases he
 | some p=>
  obtain⟨z,j⟩:=p
  simp only[hr] at he
  rcases UR h hr with⟨q1,_,v,q3,q4⟩|⟨c,n,l,rfl,q2,q3,q4,q5,q6⟩
  ·cases z<;>first|(cases q1;done)|(cases he;exact⟨v,q3,q4⟩)
  ·cases he
   refine⟨_,?_,.v _⟩
   have:=q6 j _ (Bi4 (Av c) (by omega))
   rwa[Nat.sub_add_cancel q5] at this
theorem Bbn {xs:List A} {us:List Value} (h:HW F N nx R xs us):∀{n off:Nat} {cs:List A},A09 xs off n=some cs→∃vs,HL F N nx R cs vs∧vs.length=n∧∀j v,vs[j]?=some v→us[off+j]?=some v
 |0,_,_,he=>by cases he;exact⟨[],HL.nil,rfl,fun j v hj=>by cases j<;>cases hj⟩
 | n+1,off,cs,he=>by
  unfold A09 at he
  split at he<;>try (cases he;done)
  rename_i x r hx hr
  cases he
  obtain⟨v,g1,g2⟩:=Bbo h hx
  obtain⟨vs,g3,g4,g5⟩:=Bbn h hr
  refine⟨v::vs,HL.cons g2 g3,by rw[List.length_cons,g4],fun j w hj=>?_⟩
  cases j with
  |zero=>cases hj;exact g1
  |succ j=>
   have:=g5 j w (by simpa using hj)
   rwa[show off+(j+1)=off+1+j by omega]
theorem HW.rv:∀{xs:List A} {us:List Value},HW F N nx R xs us→∃vs,vs.length=xs.length∧Bi0 vs=us∧(∀(j:Nat) (x:A) (v:Value),xs[j]?=some x→vs[j]?=some v→Hv F N nx R x v)∧∀(j:Nat) (x:A) (v:Value),xs[j]?=some x→vs[j]?=some v→Oq x=false→v.oneCell'=true
 | [],us,h=>⟨[],rfl,(show us=[] from h).symm,fun j x v hx _=>by(cases j<;>cases hx),fun j x v hx _ _=>by(cases j<;>cases hx)⟩
 | x::r,_,⟨v,t,h1,h2,h3,h4⟩=>by
  obtain⟨vs,g1,g2,g3,g4⟩:=HW.rv h4
  refine⟨v::vs,by rw[List.length_cons,List.length_cons,g1],by rw[h1,←g2];rfl,fun j y w hy hw=>?_,fun j y w hy hw=>?_⟩
  ·cases j with
   |zero=>cases hy;cases hw;exact h2
   |succ j=>exact g3 j y w (by simpa using hy) (by simpa using hw)
  ·cases j with
   |zero=>cases hy;cases hw;exact h3
   |succ j=>exact g4 j y w (by simpa using hy) (by simpa using hw)
theorem Hv.rv_inv {xs:List A} {y:Value} (h:Hv F N nx R (.rv xs) y):∃us,y=.agg us.toArray∧HW F N nx R xs us:=by
 cases h with
 | rv vs h1 h2 h3=>
  refine⟨Bi0 vs,rfl,?_⟩
  induction xs generalizing vs with
  |nil=>
   have:vs=[]:=List.eq_nil_of_length_eq_zero h1
   subst this
   rfl
  |cons x r ih=>
   cases vs with
   |nil=>cases h1
   |cons v t=>exact⟨v,Bi0 t,rfl,h2 0 x v rfl rfl,h3 0 x v rfl rfl,ih t (by simpa using h1) (fun j y w hy hw=>h2 (j+1) y w (by simpa using hy) (by simpa using hw)) (fun j y w hy hw=>h3 (j+1) y w (by simpa using hy) (by simpa using hw))⟩
theorem Bgv {P:Program} {t:TypeId} {xs:List A} {us:List Value} {off:Nat} {z:A} (h:HW F N nx R xs us) (he:A5g P t xs off=some z):
  ∃y,Hv F N nx R z y∧∀(ad:Addr) (R':World),(∀j v,us[j]?=some v→R'.cell? (ad.add j)=some v)→(loadVar t (ad.add off)).run P R'=.ok y R':=by
 unfold A5g at he
 split at he<;>try (cases he;done)
 ·rename_i hr
  obtain⟨v,g1,g2⟩:=Bbo h he
  exact⟨v,g2,fun ad R' hc=>MR hr (hc off v g1)⟩
 ·rename_i n hr hn
  have plain:∀{cs:List A},A09 xs off n=some cs→∃y,Hv F N nx R (T7 cs) y∧∀(ad:Addr) (R':World),(∀j v,us[j]?=some v→R'.cell? (ad.add j)=some v)→(loadVar t (ad.add off)).run P R'=.ok y R':=fun {cs} cn=>by
   obtain⟨vs,g1,g2,g3⟩:=Bbn h cn
   exact⟨_,U4 g1,fun ad R' hc=>Kp hr (by rw[hn,g2]) fun j v hj=>by rw[Fa];exact hc _ v (g3 j v hj)⟩
  have rest:∀{z:A},(bif Nat.beq off 0&&(Nat.beq n (Ah8 xs)&&Bja xs) then some (A.rv xs) else match A09 xs off n with
   |some cs=>some (T7 cs)
   |none=>none)=some z→∃y,Hv F N nx R z y∧∀(ad:Addr) (R':World),(∀j v,us[j]?=some v→R'.cell? (ad.add j)=some v)→(loadVar t (ad.add off)).run P R'=.ok y R':=fun {z} he=>by
   cases hb:(Nat.beq off 0&&(Nat.beq n (Ah8 xs)&&Bja xs)) with
   |true=>
    rw[hb] at he
    cases he
    rw[Bool.and_eq_true,Bool.and_eq_true] at hb
    obtain rfl:=Nat.eq_of_beq_eq_true hb.1
    have hw:=Nat.eq_of_beq_eq_true hb.2.1
    obtain⟨vs,g1,g2,g3,g4⟩:=h.rv
    refine⟨_,.rv vs g1 g3 g4,fun ad R' hc=>?_⟩
    rw[g2]
    exact Kp hr (by rw[hn,h.len,hw]) fun j v hj=>by rw[add_zero];exact hc j v hj
   |false=>
    rw[hb,cond_false] at he
    split at he<;>try (cases he;done)
    rename_i cs cn
    cases he
    exact plain cn
  split at he
  ·rename_i c m l jt
   cases hb:Nat.beq m n with
   |false=>rw[hb] at he;cases he
   | true=>
    rw[hb] at he
    cases he
    obtain rfl:=Nat.eq_of_beq_eq_true hb
    rcases UR h jt with⟨q1,_⟩|⟨c',n',l',q1,q2,q3,q4,q5,q6⟩
    ·cases q1
    ·cases q1
     refine⟨_,.av q2 q3,fun ad R' hc=>Kp hr (by rw[hn,List.length_map,q3]) fun j v hj=>?_⟩
     rw[List.getElem?_map] at hj
     cases hd:l[j]? with
     |none=>rw[hd] at hj;cases hj
     |some d=>
      rw[hd] at hj
      cases hj
      rw[Fa]
      exact hc _ _ (q6 j d hd)
  ·exact rest he
theorem Bgw {u:A} {c:TC} {n:Nat} {l:List (U c)} {r:List A} {off:Nat}:Td u (.av c n l::r) off=bif Nat.blt off n then(match dec c [u] with
   |some (d,ps)=>some (.av c n (l.set off d)::r,ps)
   |none=>none) else(match Td u r (off - n) with
   |some (r',ps)=>some (.av c n l::r',ps)
   |none=>none):=rfl
theorem A5h {u x:A} {r:List A} {off:Nat} (h:Oq x=false):Td u (x::r) off=match off with
  |0=>bif Oq u then none else some (u::r,[])
  |o+1=>match Td u r o with
   |some (r',ps)=>some (x::r',ps)
   |none=>none:=by
 cases x<;>first|rfl|cases h
theorem Ae5 {u:A} {w:Value} (hu:Hv F N nx R u w) (po:w.oneCell'=true):∀{xs bl:List A} {us:List Value} {off:Nat} {ps:List Prop},HW F N nx R xs us→Td u xs off=some (bl,ps)→(∀p∈ps,p)→off <us.length∧HW F N nx R bl (us.set off w)
 | [],_,_,_,_,_,he,_=>by cases he
 | z ::r,bl,_,off,ps,⟨v,t,h1,h2,h3,h4⟩,he,hp=>by
  subst h1
  cases hz:Oq z with
  | false=>
   rw[A5h hz] at he
   rw[IZ (h3 hz)]
   cases off with
   | zero=>
    simp only at he
    cases hi:Oq u with
    |true=>rw[hi] at he;cases he
    |false=>
     rw[hi] at he
     cases he
     exact⟨by simp,w,t,by rw[IZ po];rfl,hu,fun _=>po,h4⟩
   |succ o=>
    simp only at he
    split at he<;>try (cases he;done)
    rename_i r' gz hr
    cases he
    obtain⟨g1,g2⟩:=Ae5 hu po h4 hr hp
    exact⟨by simpa using g1,v,t.set o w,by rw[IZ (h3 hz)];rfl,h2,h3,g2⟩
  | true=>
   cases z<;>try (cases hz;done)
   rename_i c n l
   obtain⟨e1,e2,rfl⟩:=h2.av_inv
   have e3:∀l:List (U c),(Value.agg (l.map (sv c)).toArray).cells.toList=l.map (sv c):=fun l=>by simp[Value.cells]
   rw[e3]
   rw[Bgw] at he
   cases hb:Nat.blt off n with
   | true=>
    rw[hb,cond_true] at he
    have ae:off <n:=Nat.le_of_ble_eq_true hb
    split at he<;>try (cases he;done)
    rename_i d gz hd
    cases he
    have h5:=Aiu hd hp _ (HL.cons hu HL.nil)
    rw[Ai8 e1] at h5
    obtain⟨v',vs',q1,q2,q3⟩:=h5.inv
    have hw:w=sv c d:=by
     cases q1
     exact q2.v_inv
    refine⟨by rw[List.length_append,List.length_map];omega,_,t,?_,.av e1 (by rw[List.length_set];exact e2),fun e=>(by cases e),h4⟩
    rw[e3,List.map_set,List.set_append_left _ _ (by rw[List.length_map];omega),hw]
   | false=>
    rw[hb,cond_false] at he
    have dz:n≤off:=by
     rcases Nat.lt_or_ge off n with h|h
     ·have:Nat.blt off n=true:=Nat.ble_eq_true_of_le h
      rw[hb] at this
      cases this
     ·exact h
    split at he<;>try (cases he;done)
    rename_i r' gz hr
    cases he
    obtain⟨g1,g2⟩:=Ae5 hu po h4 hr hp
    refine⟨by rw[List.length_append,List.length_map];omega,_,_,?_,.av e1 e2,fun e=>(by cases e),g2⟩
    rw[e3,List.set_append_right _ _ (by rw[List.length_map];omega),List.length_map,e2]
theorem A5z {c:TC} (h:c.one=true) (d:U c):(sv c d).oneCell'=true:=by cases c<;>first|rfl|cases h
theorem HW.one:∀{xs:List A} {us:List Value},HW F N nx R xs us→∀v∈us,v.oneCell'=true
 | [],_,h,v,hv=>by rw[show _=[] from h] at hv;cases hv
 | x::r,_,⟨w,t,h1,h2,h3,h4⟩,v,hv=>by
  subst h1
  rcases List.mem_append.1 hv with hv|hv
  ·cases hx:Oq x with
   |false=>
    rw[IZ (h3 hx)] at hv
    rw[List.mem_singleton.1 hv]
    exact h3 hx
   |true=>
    cases x<;>try (cases hx;done)
    rename_i c n l
    obtain⟨e1,_,rfl⟩:=h2.av_inv
    have e3:(Value.agg (l.map (sv c)).toArray).cells.toList=l.map (sv c):=by simp[Value.cells]
    rw[e3] at hv
    obtain⟨d,_,rfl⟩:=List.mem_map.1 hv
    exact A5z e1 d
  ·exact HW.one h4 v hv
theorem A1a:∀{ys:List A} {ws:List Value},HL F N nx R ys ws→(∀w∈ws,w.oneCell'=true)→∀{xs bl:List A} {us:List Value} {off:Nat} {ps:List Prop},HW F N nx R xs us→A5f ys xs off=some (bl,ps)→(∀p∈ps,p)→off≤us.length→
  off+ws.length≤us.length∧HW F N nx R bl (us.take off++ws++us.drop (off+ws.length))
 | [],_,hy,_,xs,bl,us,off,ps,h,he,_,hle=>by
  rw[hy.inv0]
  cases he
  refine⟨by simpa using hle,?_⟩
  rw[List.append_nil,List.length_nil,Nat.add_zero,List.take_append_drop]
  exact h
 | u::r,_,hy,h1,xs,bl,us,off,ps,h,he,hp,_=>by
  obtain⟨w,ws,rfl,hu,hr⟩:=hy.inv
  unfold A5f at he
  split at he<;>try (cases he;done)
  rename_i x1 p1 hs
  split at he<;>try (cases he;done)
  rename_i x2 p2 ht
  cases he
  obtain⟨g1,g2⟩:=Ae5 hu (h1 w (List.mem_cons_self ..)) h hs fun p hm=>hp p (List.mem_append.2 (.inl hm))
  obtain⟨g3,g4⟩:=A1a hr (fun v hv=>h1 v (List.mem_cons_of_mem _ hv)) g2 ht (fun p hm=>hp p (List.mem_append.2 (.inr hm))) (by rw[List.length_set];omega)
  rw[List.length_set] at g3
  refine⟨by rw[List.length_cons];omega,?_⟩
  have e1:(us.set off w).take (off+1)=us.take off++[w]:=by
   rw[List.take_add_one,List.take_set_of_le (Nat.le_refl _),List.getElem?_set_self g1]
   rfl
  have e2:(us.set off w).drop (off+1+ws.length)=us.drop (off+(w::ws).length):=by
   rw[List.drop_set_of_lt (by omega),List.length_cons]
   congr 1
   omega
  rw[e1,e2] at g4
  simpa using g4
theorem Bbm {f:(c:TC)→Nat→List (U c)→Option (List (U c)×List Prop)} {x:A} {r:List A} {off:Nat} (h:Oq x=false):VZ f (x::r) off=match off with
  |0=>none
  |o+1=>match VZ f r o with
   |some (r',ps)=>some (x::r',ps)
   |none=>none:=by
 cases x<;>first|rfl|cases h
theorem UQ {f:(c:TC)→Nat→List (U c)→Option (List (U c)×List Prop)}:∀{xs bl:List A} {us:List Value} {off:Nat} {ps:List Prop},HW F N nx R xs us→VZ f xs off=some (bl,ps)→
  ∃c n l l',f c n l=some (l',ps)∧c.one=true∧l.length=n∧off+n≤us.length∧(∀k d,l[k]?=some d→us[off+k]?=some (sv c d))∧(l'.length=n→HW F N nx R bl (us.take off++l'.map (sv c)++us.drop (off+n)))
 | [],_,_,_,_,_,he=>by cases he
 | z ::r,bl,_,off,ps,⟨v,t,h1,h2,h3,h4⟩,he=>by
  subst h1
  cases hz:Oq z with
  | false=>
   rw[Bbm hz] at he
   rw[IZ (h3 hz)]
   cases off with
   |zero=>cases he
   | succ o=>
    simp only at he
    split at he<;>try (cases he;done)
    rename_i r' gz hr
    cases he
    obtain⟨c,n,l,l',q1,q2,q3,q4,q5,q6⟩:=UQ h4 hr
    refine⟨c,n,l,l',q1,q2,q3,by simp;omega,fun k d hd=>?_,fun hl=>⟨v,_,?_,h2,h3,q6 hl⟩⟩
    ·rw[show o+1+k=(o+k)+1 by omega]
     simpa using q5 k d hd
    ·rw[IZ (h3 hz),show o+1+n=(o+n)+1 by omega]
     simp
  | true=>
   cases z<;>try (cases hz;done)
   rename_i c n l
   obtain⟨e1,e2,rfl⟩:=h2.av_inv
   have e3:∀l:List (U c),(Value.agg (l.map (sv c)).toArray).cells.toList=l.map (sv c):=fun l=>by simp[Value.cells]
   have cd:(bif Nat.beq off 0 then(match f c n l with
    |some (l',ps)=>some (A.av c n l'::r,ps)
    |none=>none) else bif Nat.blt off n then none else(match VZ f r (off - n) with
    |some (r',ps)=>some (A.av c n l::r',ps)
    |none=>none))=some (bl,ps):=he
   rw[e3]
   cases h0:Nat.beq off 0 with
   | true=>
    rw[h0,cond_true] at cd
    obtain rfl:=Nat.eq_of_beq_eq_true h0
    split at cd<;>first|(cases cd;done)|skip
    rename_i l' gz hf
    cases cd
    refine⟨c,n,l,l',hf,e1,e2,by rw[List.length_append,List.length_map];omega,fun k d hd=>?_,fun hl=>⟨_,t,?_,.av e1 hl,fun e=>(by cases e),h4⟩⟩
    ·have hk:=(List.getElem?_eq_some_iff.1 hd).1
     rw[Nat.zero_add,List.getElem?_append_left (by rw[List.length_map];exact hk),List.getElem?_map,hd]
     rfl
    ·rw[e3,List.take_zero,List.nil_append,Nat.zero_add,List.drop_append_of_le_length (by rw[List.length_map];omega),List.drop_of_length_le (by rw[List.length_map];omega),List.nil_append]
   | false=>
    rw[h0,cond_false] at cd
    cases hb:Nat.blt off n with
    |true=>rw[hb] at cd;cases cd
    | false=>
     rw[hb,cond_false] at cd
     have dz:n≤off:=by
      rcases Nat.lt_or_ge off n with h|h
      ·have:Nat.blt off n=true:=Nat.ble_eq_true_of_le h
       rw[hb] at this
       cases this
      ·exact h
     split at cd<;>first|(cases cd;done)|skip
     rename_i r' gz hr
     cases cd
     have idx:∀m,(l.map (sv c)++t)[n+m]?=t[m]?:=fun m=>by
      rw[List.getElem?_append_right (by rw[List.length_map];omega),List.length_map,e2,Nat.add_sub_cancel_left]
     obtain⟨c',n',l1,l',q1,q2,q3,q4,q5,q6⟩:=UQ h4 hr
     refine⟨c',n',l1,l',q1,q2,q3,by rw[List.length_append,List.length_map];omega,fun k d hd=>?_,fun hl=>⟨_,_,?_,.av e1 e2,fun e=>(by cases e),q6 hl⟩⟩
     ·rw[show off+k=n+(off - n+k) by omega,idx]
      exact q5 k d hd
     ·have t1:(l.map (sv c)++t).take off=l.map (sv c)++t.take (off - n):=by
       rw[List.take_append,List.take_of_length_le (by rw[List.length_map];omega),List.length_map,e2]
      have t2:(l.map (sv c)++t).drop (off+n')=t.drop (off - n+n'):=by
       rw[List.drop_append,List.drop_of_length_le (by rw[List.length_map];omega),List.length_map,e2,List.nil_append]
       congr 1
       omega
      rw[e3,t1,t2]
      simp
end
def Amk (E:Env) (s:St) (G:AQ) (t:TypeId) (x:Operand):R2:=
 match s.ev G x with
 | some (.own i off)=>match Ai i s.o with
  |some (.box _ cs)=>match Aow E.P t (cs.drop off) with
   |some z=>some (z,[])
   |none=>none
  |some (.rcd _ xs)=>match A5g E.P t xs off with
   |some z=>some (z,[])
   |none=>none
  |_=>none
 | some (.ownx i base len k)=>match Ai i s.o with
  |some (.box _ cs)=>match Aq0 E.P t with
   |some false=>bif Nat.ble (base+len) cs.length then some (Bxj k 0 ((cs.drop base).take len),[k <len]) else none
   |_=>none
  | some (.rcd _ xs)=>match Aq0 E.P t,YZ xs base with
   |some false,some (.av c n l,0)=>bif Nat.beq n len then some (.v (sv c (l.getD k (Av c))),[k <len]) else none
   |some true,some (.av c n l,0)=>match Gv E.P t with
    |some m=>bif Nat.beq n len then some (.av c m ((l.drop k).take m),[k+m≤len]) else none
    |none=>none
   |_,_=>none
  |_=>none
 | some (.el i k sz off)=>match Ai i s.o with
  |some (.arr _ size els)=>bif Nat.beq size sz then(match Aow E.P t ((els.nth k).drop off) with
   |some z=>wth z (ndB E.lit (k <els.n))
   |none=>none) else none
  |_=>none
 |some (.ref l)=>match Aow E.P t l with
  |some z=>some (z,[])
  |none=>none
 |_=>none
section
variable {E:Env} {Z:FG} {F:Nat→Prop} {N:Nm} {s:St} {a:Act} {R:World} {G:AQ}
theorem HC.drop {nx:Nat} (n:Nat) {l:List A} {ad:Addr} (h:HC F N nx R l ad):HC F N nx R (l.drop n) (ad.add n):=fun j x hx=>by
 rw[List.getElem?_drop] at hx
 rw[Fa]
 exact h (n+j) x hx
theorem HC.cells {nx:Nat}:∀{l:List A} {ad:Addr},HC F N nx R l ad→∃vs,HL F N nx R l vs∧∀j v,vs[j]?=some v→R.cell? (ad.add j)=some v
 | [],_,_=>⟨[],HL.nil,fun j v h=>by cases j<;>cases h⟩
 | x::r,ad,h=>by
  obtain⟨⟨u,h1,h2⟩,h3⟩:=HC.cons.1 h
  obtain⟨vs,h4,h5⟩:=HC.cells h3
  refine⟨u::vs,HL.cons h2 h4,fun j v hj=>?_⟩
  cases j with
  |zero=>cases hj;rw[add_zero];exact h1
  |succ j=>
   have:=h5 j v hj
   rw[Fa,Nat.add_comm] at this
   exact this
theorem Hv.own_inv {nx i off:Nat} {y:Value} (h:Hv F N nx R (.own i off) y):i <nx∧y=.pointer (some ⟨N.b i,off,none⟩):=by
 cases h with|own h=>exact⟨h,rfl⟩
theorem Hv.ownx_inv {nx i base len k:Nat} {y:Value} (h:Hv F N nx R (.ownx i base len k) y):i <nx∧y=.pointer (some ⟨N.b i,base+k,none⟩):=by
 cases h with|ownx h=>exact⟨h,rfl⟩
theorem Hv.sq_inv {nx i:Nat} {y:Value} (h:Hv F N nx R (.sq i) y):i <nx∧y=N.q i:=by
 cases h with|sq h=>exact⟨h,rfl⟩
theorem Hv.mp_inv {nx i:Nat} {y:Value} (h:Hv F N nx R (.mp i) y):i <nx∧y=.map (some (N.b i)):=by
 cases h with|mp h=>exact⟨h,rfl⟩
theorem Hv.el_inv {nx i k size off:Nat} {y:Value} (h:Hv F N nx R (.el i k size off) y):i <nx∧y=.pointer (some ((IN (N.q i)).add (k*size+off))):=by
 cases h with|el h=>exact⟨h,rfl⟩
theorem Hv.vw_inv {nx i size lo n:Nat} {full:Bool} {y:Value} (h:Hv F N nx R (.vw i size lo n full) y):i <nx∧∃a cap,y=.slice a n cap∧n≤cap∧(full=true→cap=n)∧(0 <n→a=some ((IN (N.q i)).add (lo*size))):=by
 cases h with|vw h h1 h2 h3=>exact⟨h,_,_,rfl,h1,h2,h3⟩
theorem Hv.dq_inv {nx i:Nat} {y:Value} (h:Hv F N nx R (.dq i) y):i <nx∧y=fam (N.q i) 0:=by
 cases h with|dq h=>exact⟨h,rfl⟩
theorem Hv.iv_inv {nx i k:Nat} {y:Value} (h:Hv F N nx R (.iv i k) y):i <nx∧y=fam (N.q i) (k+1):=by
 cases h with|iv h=>exact⟨h,rfl⟩
theorem Hv.de_inv {nx i k size off:Nat} {y:Value} (h:Hv F N nx R (.de i k size off) y):i <nx∧y=.pointer (some ((IN (fam (N.q i) 0)).add (k*size+off))):=by
 cases h with|de h=>exact⟨h,rfl⟩
theorem Hv.ie_inv {nx i k j size off:Nat} {y:Value} (h:Hv F N nx R (.ie i k j size off) y):i <nx∧y=.pointer (some ((IN (fam (N.q i) (k+1))).add (j*size+off))):=by
 cases h with|ie h=>exact⟨h,rfl⟩
theorem A8g (h:Rel Z F N s a R) (hG:P6 (BH a) G) {t:TypeId} {x:Operand} {f:Nat} {z:A} {ps:List Prop} (he:Asw E s G t x f=some (z,ps)):
  z.plain=true∧∃y,Hv F N s.nx R z y∧∀R',(Instr.fieldAt t (a.eval x) f).run E.P R'=.ok y R':=by
 unfold Asw at he
 split at he<;>try (cases he;done)
 rename_i fs hu
 split at he<;>try (cases he;done)
 rename_i fd hf
 split at he<;>try (cases he;done)
 rename_i n hn
 cases h0:Nat.beq n 0 with
 |true=>rw[h0] at he;cases he
 | false=>
  rw[h0] at he
  simp only[cond_false] at he
  have eg:n≠0:=fun e=>by subst e;simp at h0
  split at he<;>try (cases he;done)
  ·rename_i i off hx
   have hx':=(BL h hG hx).2.own_inv
   cases he
   exact⟨rfl,_,.own hx'.1,fun R'=>by rw[Y6 hu hf hn eg hx'.2,D7]⟩
  ·rename_i i k sz off hx
   have hx':=(BL h hG hx).2.el_inv
   cases he
   exact⟨rfl,_,.el hx'.1,fun R'=>by rw[Y6 hu hf hn eg hx'.2,Fa,Nat.add_assoc]⟩
  ·rename_i l hx
   obtain⟨ad,h1,h2,h3⟩:=(BL h hG hx).2.ref_inv
   cases he
   exact⟨rfl,_,Hv.of_ref (by rw[IQ];exact h2) (h3.drop _),fun R'=>Y6 hu hf hn eg h1⟩
theorem Mp {e:TypeId} {size n:Nat} {v:Value} {zs:List Value} (h:PE R e size v n zs) (_hn:0 <n):∃g c,v=.slice (some ⟨g,0,none⟩) n c∧n≤c∧IN v=⟨g,0,none⟩∧Hz v=some g∧∀j u,zs[j]?=some u→R.cell? ⟨g,j,none⟩=some u:=by
 rcases h.2 with⟨_,_,h0⟩|⟨g,cap,cur,h1,h3,h4,_,h6,h7⟩
 ·omega
 ·refine⟨g,cap+1,h1,h4,by rw[h1];rfl,by rw[h1];rfl,fun j u hu=>?_⟩
  rw[D6 h3]
  rw[←h7] at hu
  rw[List.getElem?_take] at hu
  split at hu<;>try (cases hu;done)
  rwa[Array.getElem?_toList] at hu
theorem Bvn (h:Bp F N s.nx s.o R) {i sz m:Nat} (he:Bqj s.o i sz=some m):i <s.nx∧∃e zs,PE R e sz (N.q i) m zs:=by
 unfold Bqj at he
 split at he<;>try (cases he;done)
 rename_i e size els hl
 obtain⟨h1,h2⟩:=h.ob i _ hl
 cases hb:Nat.beq size sz with
 |false=>rw[hb] at he;cases he
 |true=>
  rw[hb] at he
  cases he
  obtain rfl:=Nat.eq_of_beq_eq_true hb
  obtain⟨zs,h3,_⟩:=h2
  exact⟨h1,e,zs,h3⟩
theorem getD_some {α:Type} {l:List α} {k:Nat} {d:α} (h:k <l.length):l[k]?=some (l.getD k d):=by
 rw[List.getD_eq_getElem?_getD,List.getElem?_eq_getElem h]
 rfl
theorem Brf (h:Rel Z F N s a R) (hG:P6 (BH a) G) {t:TypeId} {x i:Operand} {z:A} {ps:List Prop} (he:Bd8 E s G t x i=some (z,ps)) (hp:∀p∈ps,p):
  z.plain=true∧∃y,Hv F N s.nx R z y∧∀R',(Instr.indexAt t (a.eval x) (a.eval i)).run E.P R'=.ok y R':=by
 unfold Bd8 at he
 split at he<;>try (cases he;done)
 rename_i k n hi
 rw[EP h hG hi]
 split at he<;>try (cases he;done)
 ·rename_i len e hu
  split at he<;>try (cases he;done)
  rename_i sz bc
  split at he
  ·rename_i gt ig
   cases hb:(Nat.beq sz 1&&Nat.beq gt.l.length len) with
   |false=>rw[hb] at he;cases he
   | true=>
    rw[hb] at he
    rw[Bool.and_eq_true] at hb
    obtain rfl:=Nat.eq_of_beq_eq_true hb.1
    have hlen:=Nat.eq_of_beq_eq_true hb.2
    obtain⟨rfl,hd⟩:=Gl he
    obtain⟨h0,h1⟩:=Le hd hp
    obtain⟨g,rfl,hm⟩:=Bq8 ig
    obtain⟨g1,tt,g2⟩:=h.hp.gl _ hm
    refine⟨rfl,.pointer (some ⟨g,n.toNat*1,none⟩),Hv.of_ref g1 fun j x hx=>?_,fun R'=>?_⟩
    ·rw[Ai8 gt.one] at hx
     cases j with
     |succ j=>cases hx
     |zero=>
      cases hx
      refine⟨sv gt.c (gt.l.getD n.toNat (Av gt.c)),?_,.v _⟩
      have hn:n.toNat <gt.l.length:=by omega
      rw[D7,D6 g2,Nat.mul_one,Nat.add_zero]
      simp[List.getD_eq_getElem?_getD,List.getElem?_eq_getElem hn]
    ·have:=FC (R:=R') (k:=k) hu bc (x:=a.eval (.global g)) (ad:=⟨g,0,none⟩) rfl h0 h1
     rw[this,D7,Nat.zero_add]
  split at he<;>try (cases he;done)
  ·rename_i b off hx
   have hx':=(BL h hG hx).2.own_inv
   cases hc:(E.lit||O9 i) with
   |true=>
    rw[hc] at he
    obtain⟨rfl,hd⟩:=Gl he
    obtain⟨h0,h1⟩:=Le hd hp
    exact⟨rfl,_,.own hx'.1,fun R'=>by rw[FC hu bc hx'.2 h0 h1,D7]⟩
   | false=>
    rw[hc] at he
    simp only[cond_false] at he
    cases hb:Nat.beq sz 1 with
    |false=>
     rw[hb] at he
     cases he
     obtain⟨h0,h1⟩:0≤n∧n <(len:Int):=hp _ (by simp)
     exact⟨rfl,_,.ownx hx'.1,fun R'=>by rw[FC hu bc hx'.2 h0 h1,D7]⟩
    |true=>
     rw[hb] at he
     obtain rfl:=Nat.eq_of_beq_eq_true hb
     cases he
     obtain⟨h0,h1⟩:0≤n∧n <(len:Int):=hp _ (by simp)
     exact⟨rfl,_,.ownx hx'.1,fun R'=>by rw[FC hu bc hx'.2 h0 h1,D7,Nat.mul_one]⟩
  ·rename_i b kk zz off hx
   have hx':=(BL h hG hx).2.el_inv
   cases hb:(Nat.beq zz sz&&Nat.beq off 0) with
   |true=>
    rw[hb] at he
    obtain⟨rfl,hd⟩:=Gl he
    obtain⟨h0,h1⟩:=Le hd hp
    rw[Bool.and_eq_true] at hb
    obtain rfl:=Nat.eq_of_beq_eq_true hb.1
    obtain rfl:=Nat.eq_of_beq_eq_true hb.2
    exact⟨rfl,_,.el hx'.1,fun R'=>by rw[FC hu bc hx'.2 h0 h1,Fa,Nat.add_zero,Nat.add_zero,Nat.add_mul]⟩
   |false=>
    rw[hb] at he
    obtain⟨rfl,hd⟩:=Gl he
    obtain⟨h0,h1⟩:=Le hd hp
    exact⟨rfl,_,.el hx'.1,fun R'=>by rw[FC hu bc hx'.2 h0 h1,Fa,Nat.add_assoc]⟩
  ·rename_i l hx
   obtain⟨ad,g1,g2,g3⟩:=(BL h hG hx).2.ref_inv
   split at he
   ·rename_i ns qb
    cases hc:(E.lit||O9 i) with
    |true=>rw[hc] at qb;cases qb
    | false=>
     rw[hc,cond_false] at qb
     obtain⟨rfl,q⟩:=Bsn qb
     cases he
     obtain⟨h0,h1⟩:0≤n∧n <(len:Int):=hp _ (List.mem_singleton.2 rfl)
     refine⟨rfl,_,Hv.of_ref (by rw[IQ];exact g2) (fun j x hx=>?_),fun R'=>FC hu bc g1 h0 h1⟩
     cases j with
     |succ j=>cases hx
     |zero=>
      cases hx
      exact(g3.drop (n.toNat*1)) 0 _ (by rw[List.getElem?_drop,Nat.mul_one,Nat.add_zero];exact q _ (by omega))
   obtain⟨rfl,hd⟩:=Gl he
   obtain⟨h0,h1⟩:=Le hd hp
   exact⟨rfl,_,Hv.of_ref (by rw[IQ];exact g2) (g3.drop _),fun R'=>FC hu bc g1 h0 h1⟩
 ·rename_i e hu
  split at he<;>try (cases he;done)
  rename_i sz bc
  split at he<;>try (cases he;done)
  ·rename_i b hx
   have hx':=(BL h hG hx).2.sq_inv
   cases hlg:(Br0 s.o b&&!(E.lit||O9 i)) with
   |true=>rw[hlg] at he;cases he
   |false=>
   rw[hlg,cond_false] at he
   split at he<;>try (cases he;done)
   rename_i m hm
   obtain⟨rfl,hd⟩:=Gl he
   obtain⟨h0,h1⟩:=Le hd hp
   obtain⟨g1,e',zs,g2⟩:=Bvn h.hp hm
   obtain⟨g,c,q1,q2,q3,_,_⟩:=Mp g2 (by omega)
   refine⟨rfl,_,.el g1,fun R'=>?_⟩
   rw[Rs hu bc (hx'.2.trans q1) h0 h1,q3]
   rfl
  ·rename_i b zz lo m fu hx
   have hx':=(BL h hG hx).2.vw_inv
   split at he<;>try (cases he;done)
   rename_i m' hm
   cases hb:Nat.beq zz sz with
   |false=>rw[hb] at he;cases he
   |true=>
    rw[hb] at he
    obtain rfl:=Nat.eq_of_beq_eq_true hb
    obtain⟨rfl,hd⟩:=Gl he
    obtain⟨h0,h1⟩:=Le hd hp
    obtain⟨g1,aa,c,q1,q2,_,q3⟩:=hx'
    rw[q3 (by omega)] at q1
    refine⟨rfl,_,.el g1,fun R'=>?_⟩
    rw[Rs hu bc q1 h0 h1,Fa,Nat.add_zero,Nat.add_mul]
  ·rename_i c l hx
   obtain⟨aa,cap,q1,q2,q3⟩:=(BL h hG hx).2.sl_inv
   cases hb:Nat.beq (size c) sz with
   |false=>rw[hb] at he;cases he
   |true=>
    rw[hb] at he
    obtain rfl:=Nat.eq_of_beq_eq_true hb
    obtain⟨rfl,hd⟩:=Gl he
    obtain⟨h0,h1⟩:=Le hd hp
    obtain⟨ad,rfl,q4,q5⟩:=q3 (by omega)
    have ae:n.toNat <l.length:=by omega
    refine⟨rfl,_,Hv.of_ref (by rw[IQ];exact q4) (q5 n.toNat _ ?_),fun R'=>Rs hu bc q1 h0 h1⟩
    rw[List.getD_eq_getElem?_getD,List.getElem?_eq_getElem ae]
    rfl
theorem Ahx {nx:Nat} {t:TypeId} {l:List A} {z:A} {ad:Addr} {vs:List Value} (he:Aow E.P t l=some z) (hl:HL F N nx R l vs):
  ∃y,Hv F N nx R z y∧∀R',(∀j v,vs[j]?=some v→R'.cell? (ad.add j)=some v)→(loadVar t ad).run E.P R'=.ok y R':=by
 unfold Aow at he
 split at he<;>try (cases he;done)
 ·rename_i hr
  split at he<;>try (cases he;done)
  rename_i n hn
  cases hb:Nat.ble n l.length with
  |false=>rw[hb] at he;cases he
  | true=>
   rw[hb] at he
   cases he
   have hle:=Nat.le_of_ble_eq_true hb
   have hlen:=hl.length
   refine⟨_,U4 (hl.take n),fun R' hc=>Kp hr ?_ fun j v hv=>?_⟩
   ·rw[hn,List.length_take]
    congr 1
    omega
   ·rw[List.getElem?_take] at hv
    split at hv<;>try (cases hv;done)
    exact hc j v hv
 ·rename_i hr
  split at he<;>try (cases he;done)
  cases he
  obtain⟨v,us,rfl,h1,_⟩:=hl.inv
  exact⟨v,h1,fun R' hc=>MR hr (by have:=hc 0 v rfl;rwa[add_zero] at this)⟩
theorem Ace {R':World} (hb:Below R.heap.size R R') {ad:Addr} {v:Value} (h:R.cell? ad=some v):R'.cell? ad=some v:=by
 have ae:ad.block <R.heap.size:=World.block_lt_of_cell? R ad h
 rw[World.cell?_of_block (hb.block _ ae)]
 exact h
theorem ZY {zs:List Value} {k size j:Nat} {v:Value} (h:((zs.drop (k*size)).take size)[j]?=some v):zs[k*size+j]?=some v:=by
 rw[List.getElem?_take] at h
 split at h<;>try (cases h;done)
 rwa[List.getElem?_drop] at h
theorem Bjp (h:Rel Z F N s a R) (hG:P6 (BH a) G) {t:TypeId} {x:Operand} {z:A} {ps:List Prop} (he:Amk E s G t x=some (z,ps)) (hp:∀p∈ps,p):
  ∃y,Hv F N s.nx R z y∧∀R',Below R.heap.size R R'→(Instr.loadAt t (a.eval x)).run E.P R'=.ok y R':=by
 unfold Amk at he
 split at he<;>try (cases he;done)
 ·rename_i i off hx
  have hx':=(BL h hG hx).2.own_inv
  split at he<;>try (cases he;done)
  rename_i e cs hl
  split at he<;>try (cases he;done)
  rename_i z' hz
  cases he
  obtain⟨_,vs,g1,g2⟩:=h.hp.ob i _ hl
  obtain⟨y,q1,q2⟩:=Ahx (ad:=⟨N.b i,off,none⟩) hz (g1.drop off)
  refine⟨y,q1,fun R' hb=>?_⟩
  rw[LJ hx'.2]
  refine q2 R' fun j v hj=>?_
  rw[D7,D6 (IR g2 hb)]
  rw[List.getElem?_drop] at hj
  simpa using hj
  rename_i e xs hl
  split at he<;>try (cases he;done)
  rename_i z' hz
  cases he
  obtain⟨_,us,g1,g2⟩:=h.hp.ob i _ hl
  obtain⟨y,q1,q2⟩:=Bgv g1 hz
  refine⟨y,q1,fun R' hb=>?_⟩
  rw[LJ hx'.2]
  have:=q2 ⟨N.b i,0,none⟩ R' fun j v hj=>by
   rw[D7,Nat.zero_add,D6 (IR g2 hb)]
   simpa using hj
  rwa[D7,Nat.zero_add] at this
 ·rename_i i base len k hx
  have hx':=(BL h hG hx).2.ownx_inv
  split at he<;>try (cases he;done)
  rotate_left
  ·rename_i e xs hl
   split at he<;>try (cases he;done)
   rename_i c n l hr jt
   cases hb:Nat.beq n len with
   |false=>rw[hb] at he;cases he
   | true=>
    rw[hb] at he
    cases he
    obtain rfl:=Nat.eq_of_beq_eq_true hb
    have hk:k <n:=hp _ (by simp)
    obtain⟨_,us,g1,g2⟩:=h.hp.ob i _ hl
    rcases UR g1 jt with⟨q1,_⟩|⟨c',n',l',q1,q2,q3,q4,q5,q6⟩
    ·cases q1
    ·cases q1
     refine⟨_,.v _,fun R' aq=>?_⟩
     rw[LJ hx'.2]
     refine MR hr ?_
     rw[D6 (IR g2 aq)]
     have:=q6 k _ (Bi4 (Av c) (by omega))
     rw[Nat.sub_zero] at this
     simpa using this
   rename_i c n l hr jt
   split at he<;>try (cases he;done)
   rename_i m hm
   cases hb:Nat.beq n len with
   |false=>rw[hb] at he;cases he
   | true=>
    rw[hb] at he
    cases he
    obtain rfl:=Nat.eq_of_beq_eq_true hb
    have hk:k+m≤n:=hp _ (by simp)
    obtain⟨_,us,g1,g2⟩:=h.hp.ob i _ hl
    rcases UR g1 jt with⟨q1,_⟩|⟨c',n',l',q1,q2,q3,q4,q5,q6⟩
    ·cases q1
    ·cases q1
     have u6:((l.drop k).take m).length=m:=by rw[List.length_take,List.length_drop];omega
     refine⟨_,.av q2 u6,fun R' aq=>?_⟩
     rw[LJ hx'.2]
     refine Kp hr (by rw[hm,List.length_map,u6]) fun j v hj=>?_
     rw[List.getElem?_map,List.getElem?_take] at hj
     split at hj
     ·rename_i ux
      rw[List.getElem?_drop] at hj
      cases hd:l[k+j]? with
      |none=>rw[hd] at hj;cases hj
      |some d=>
       rw[hd] at hj
       cases hj
       have:=q6 (k+j) _ hd
       rw[Nat.sub_zero] at this
       rw[D7,D6 (IR g2 aq)]
       rw[show base+k+j=base+(k+j) from by omega]
       simpa using this
     ·cases hj
  rename_i e cs hl
  split at he<;>try (cases he;done)
  rename_i hr
  cases hb:Nat.ble (base+len) cs.length with
  |false=>rw[hb] at he;cases he
  |true=>
   rw[hb] at he
   cases he
   have hk:k <len:=hp _ (by simp)
   obtain⟨_,vs,g1,g2⟩:=h.hp.ob i _ hl
   have hle:=Nat.le_of_ble_eq_true hb
   have hlen:=g1.length
   have ow:k <((vs.drop base).take len).length:=by rw[List.length_take,List.length_drop];omega
   refine⟨((vs.drop base).take len)[k],Bk7 ((g1.drop base).take len) (Nat.zero_le _) (by rw[List.length_take,List.length_drop];omega) (by rw[Nat.sub_zero];exact List.getElem?_eq_getElem ow),fun R' aq=>?_⟩
   rw[LJ hx'.2]
   refine MR hr ?_
   rw[D6 (IR g2 aq)]
   have:=List.getElem?_eq_getElem ow
   rw[List.getElem?_take,if_pos hk,List.getElem?_drop] at this
   simp[this]
 ·rename_i i k sz off hx
  have hx':=(BL h hG hx).2.el_inv
  split at he<;>try (cases he;done)
  rename_i e size els hl
  cases hb:Nat.beq size sz with
  |false=>rw[hb] at he;cases he
  |true=>
   obtain rfl:=Nat.eq_of_beq_eq_true hb
   rw[hb] at he
   simp only[cond_true] at he
   split at he<;>try (cases he;done)
   rename_i z' hz
   obtain⟨rfl,hd⟩:=Gl he
   have hk:=Le hd hp
   obtain⟨_,zs,g1,g2⟩:=h.hp.ob i _ hl
   obtain⟨g,c,q1,_,q3,_,q5⟩:=Mp g1 (by omega)
   obtain⟨y,r1,r2⟩:=Ahx (ad:=(IN (N.q i)).add (k*size+off)) hz ((g2 k hk).drop off)
   refine⟨y,r1,fun R' aq=>?_⟩
   rw[LJ hx'.2]
   refine r2 R' fun j v hj=>Ace aq ?_
   rw[List.getElem?_drop] at hj
   have:=q5 _ _ (ZY hj)
   rw[Fa,q3,D7,Nat.zero_add,Nat.add_assoc]
   exact this
 ·rename_i l hx
  obtain⟨ad,g1,g2,g3⟩:=(BL h hG hx).2.ref_inv
  split at he<;>try (cases he;done)
  rename_i z' hz
  cases he
  obtain⟨vs,g4,g5⟩:=g3.cells
  obtain⟨y,r1,r2⟩:=Ahx (ad:=ad) hz g4
  refine⟨y,r1,fun R' aq=>?_⟩
  rw[LJ g1]
  exact r2 R' fun j v hj=>Ace aq (g5 j v hj)
end
section runs
variable {P:Program} {R:World}
theorem Mq {k:IntKind} {i:Int} {y:Nat} {c:BoundsCode} (h0:0≤i) (h1:i≤y):(Instr.sliceBound (.int k i) y c).run P R=.ok i.toNat R:=by
 simp[Instr.sliceBound,asIntOf,h0,h1]
def T5 (o:Option Value) (d i:Nat):Prop:=(o=none∧i=d)∨∃k n,o=some (.int k n)∧0≤n∧n.toNat=i
theorem V2 {b:Bool} {len cap l h m:Nat} {lo hi mx:Option Value} (hl:T5 lo 0 l) (hh:T5 hi len h) (hm:T5 mx cap m) (sf:mx≠none→hi≠none) (_h1:l≤h) (_h2:h≤m) (_h3:m≤cap):
    (Instr.sliceBounds b len cap lo hi mx).run P R=.ok (l,h,m) R:=by
  rcases hl with⟨rfl,rfl⟩|⟨k1,n1,rfl,a1,rfl⟩<;>rcases hh with⟨rfl,rfl⟩|⟨k2,n2,rfl,a2,rfl⟩<;>rcases hm with⟨rfl,rfl⟩|⟨k3,n3,rfl,a3,rfl⟩<;>
    first
    |(simp[Instr.sliceBounds];done)
    |(simp at sf;done)
    | (have e1:n1≤(h:Int):=by omega
       simp[Instr.sliceBounds,Mq a1 e1];done)
    | (have e2:n2≤(m:Int):=by omega
       simp[Instr.sliceBounds,Mq a2 e2];done)
    | (have e3:n3≤(cap:Int):=by omega
       have e2:n2≤(n3.toNat:Int):=by omega
       simp[Instr.sliceBounds,Mq a2 e2,Mq a3 e3];done)
    | (have e2:n2≤(m:Int):=by omega
       have e1:n1≤(n2.toNat:Int):=by omega
       simp[Instr.sliceBounds,Mq a2 e2,Mq a1 e1];done)
    | (have e3:n3≤(cap:Int):=by omega
       have e2:n2≤(n3.toNat:Int):=by omega
       have e1:n1≤(n2.toNat:Int):=by omega
       simp[Instr.sliceBounds,Mq a2 e2,Mq a1 e1,Mq a3 e3];done)
theorem Ah2 {t e:TypeId} {a:Option Addr} {len cap sz l h m:Nat} {lo hi mx:Option Value} (ht:P.underlying t=some (.slice e)) (hs:Gv P e=some sz) (hl:T5 lo 0 l) (hh:T5 hi len h) (hm:T5 mx cap m) (sf:mx≠none→hi≠none) (h1:l≤h) (h2:h≤m) (h3:m≤cap):
  (Instr.sliceAt t (.slice a len cap) lo hi mx).run P R=.ok (.slice (if m=l then a else a.map (·.add (l*sz))) (h - l) (m - l)) R:=by
 unfold Gv at hs
 cases bq:P.info? e with
 |none=>rw[bq] at hs;cases hs
 |some i=>
  rw[bq] at hs
  obtain rfl:i.size=sz:=Option.some.inj hs
  have hb:=V2 (P:=P) (R:=R) (b:=true) hl hh hm sf h1 h2 h3
  simp[Instr.sliceAt,Instr.slice,run_underlying ht,hb,sizeOf,typeInfo,bq]
theorem Abz {t e:TypeId} {ad:Addr} {n sz l:Nat} {lo:Option Value} (ht:P.underlying t=some (.array n e)) (hs:Gv P e=some sz) (hl:T5 lo 0 l) (h1:l≤n):
  (Instr.sliceAt t (.pointer (some ad)) lo none none).run P R=.ok (.slice (some (if n=l then ad else ad.add (l*sz))) (n - l) (n - l)) R:=by
 unfold Gv at hs
 cases bq:P.info? e with
 |none=>rw[bq] at hs;cases hs
 |some i=>
  rw[bq] at hs
  obtain rfl:i.size=sz:=Option.some.inj hs
  have hb:=V2 (P:=P) (R:=R) (b:=false) (hi:=none) (mx:=none) (h:=n) (m:=n) hl (.inl ⟨rfl,rfl⟩) (.inl ⟨rfl,rfl⟩) (fun h=>absurd rfl h) h1 (Nat.le_refl _) (Nat.le_refl _)
  simp[Instr.sliceAt,run_underlying ht,hb,sizeOf,typeInfo,bq,Instr.sureAddr]
theorem Av8 {t e:TypeId} {ad:Addr} {n sz l h:Nat} {lo hi:Option Value} (ht:P.underlying t=some (.array n e)) (hs:Gv P e=some sz) (hl:T5 lo 0 l) (hh:T5 hi n h) (h1:l≤h) (h2:h≤n):
  (Instr.sliceAt t (.pointer (some ad)) lo hi none).run P R=.ok (.slice (some (if n=l then ad else ad.add (l*sz))) (h - l) (n - l)) R:=by
 unfold Gv at hs
 cases bq:P.info? e with
 |none=>rw[bq] at hs;cases hs
 |some i=>
  rw[bq] at hs
  obtain rfl:i.size=sz:=Option.some.inj hs
  have hb:=V2 (P:=P) (R:=R) (b:=false) (mx:=none) (m:=n) hl hh (.inl ⟨rfl,rfl⟩) (fun h=>absurd rfl h) h1 h2 (Nat.le_refl _)
  simp[Instr.sliceAt,run_underlying ht,hb,sizeOf,typeInfo,bq,Instr.sureAddr]
theorem Ay3 {t:TypeId} {b:ByteArray} {l h:Nat} {lo hi:Option Value} (ht:P.underlying t=some .string) (hl:T5 lo 0 l) (hh:T5 hi b.size h) (h1:l≤h) (h2:h≤b.size):
  (Instr.sliceAt t (.string b) lo hi none).run P R=.ok (.string (b.extract l h)) R:=by
 have hb:=V2 (P:=P) (R:=R) (b:=false) (mx:=none) hl hh (.inl ⟨rfl,rfl⟩) (fun h=>absurd rfl h) h1 h2 (Nat.le_refl _)
 simp[Instr.sliceAt,Instr.slice,run_underlying ht,hb]
end runs
def Ar1 (s:St) (G:AQ) (d:Int):Option Operand→Option Int
 |none=>some d
 |some o=>match s.raw G o with
  |some (.int _ n)=>some n
  |_=>none
def A53 (o:AE):A→Option (Nat×(Nat→Nat→Bool→A))
 | .sq i=>match Ai i o with
  |some (.arr _ sz els)=>some (els.n,fun l n f=> .vw i sz l n f)
  |_=>none
 | .vw i sz lo n _=>match Bqj o i sz with
  |some _=>some (n,fun l n f=> .vw i sz (lo+l) n f)
  |none=>none
 | .sl c b=>some (b.length,fun l n _=> .sl c ((b.drop l).take n))
 |_=>none
def Bhg (o:AE):A→Nat
 | .sq i=>match Ai i o with
  |some (.arr _ sz _)=>sz
  |_=>1
 | .vw _ sz _ _ _=>sz
 | .sl c _=>size c
 |_=>1
def Pt (E:Env) (s:St) (G:AQ) (o:Oper):R2:=match Bsr E.P s G o with
 |some y=>some (.v y,[])
 |none=>none
def A1q:Option Operand→Bool
 |some (.const (.int _ (.ofNat 0)))=>true
 |_=>false
theorem Bck {s:St} {G:AQ} {d n:Int} {o:Option Operand} (h:A1q o=true) (he:Ar1 s G d o=some n):n=0:=by
 unfold A1q at h
 split at h<;>try (cases h;done)
 cases he
 rfl
def Bhc (E:Env) (s:St) (G:AQ) (o:Oper) (t:TypeId) (x:Operand) (lo hi mx:Option Operand):R2:=
 match s.ev G x with
 | some (.v (.string b))=>match E.P.underlying t,mx with
  |some .string,none=>match Ar1 s G 0 lo,Ar1 s G b.size hi with
   |some l,some h=>wth (.v (.string (b.extract l.toNat h.toNat))) (ndB E.lit (0≤l∧l≤h∧h≤(b.size:Int)))
   |_,_=>none
  |_,_=>none
 |some (.v _)=>Pt E s G o
 | some (.own i off)=>match E.P.underlying t,hi,mx with
  |some (.array n e),none,none=>match Gv E.P e,Ar1 s G 0 lo with
   |some 1,some l=>wth (.vr i off l.toNat (n - l.toNat)) (ndB E.lit (0≤l∧l≤(n:Int)))
   |some (sz+2),some l=>wth (.vd i (off+l.toNat*(sz+2)) (n - l.toNat) (n - l.toNat)) (ndB E.lit (0≤l∧l <(n:Int)))
   |_,_=>none
  |some (.array n e),some hi,none=>match Gv E.P e,Ar1 s G 0 lo,Ar1 s G n (some hi) with
   |some (sz+2),some l,some h=>wth (.vd i (off+l.toNat*(sz+2)) (h.toNat - l.toNat) (n - l.toNat)) (ndB E.lit (0≤l∧l <h∧h≤(n:Int)))
   |_,_,_=>none
  |_,_,_=>none
 | some w=>match A53 s.o w,E.P.underlying t with
  | some (n,f),some (.slice e)=>match Gv E.P e with
   | some sz=>bif Nat.beq sz (Bhg s.o w) then(match Ar1 s G 0 lo,Ar1 s G n hi,Ar1 s G n mx with
    |some l,some h,some m=>match mx,hi with
     |none,_=>wth (f l.toNat (h.toNat - l.toNat) false) (ndB E.lit (0≤l∧l≤h∧h≤(n:Int)))
     |some _,some _=>wth (bif A1q hi&&A1q mx then .nl else f l.toNat (h.toNat - l.toNat) (decide (m=h))) (ndB E.lit (0≤l∧l≤h∧h≤m∧m≤(n:Int)))
     |some _,none=>none
    |_,_,_=>none) else none
   |none=>none
  |_,_=>none
 |none=>none
section
variable {E:Env} {Z:FG} {F:Nat→Prop} {N:Nm} {s:St} {a:Act} {R:World} {G:AQ}
theorem QF (h:Rel Z F N s a R) (hG:P6 (BH a) G) {d:Nat} {o:Option Operand} {n:Int} (he:Ar1 s G d o=some n) (h0:0≤n):T5 (o.map a.eval) d n.toNat:=by
 cases o with
 |none=>cases he;exact .inl ⟨rfl,by simp⟩
 |some x=>
  unfold Ar1 at he
  simp only at he
  split at he<;>try (cases he;done)
  rename_i k m hr
  cases he
  exact .inr ⟨k,n,by rw[Option.map_some,EP h hG hr],h0,rfl⟩
theorem Blg (h:Bp F N s.nx s.o R) {w:A} {y:Value} {n:Nat} {f:Nat→Nat→Bool→A} (hv:A53 s.o w=some (n,f)) (hw:Hv F N s.nx R w y):
  ∃a c,y=.slice a n c∧n≤c∧∀l k c' (fu:Bool),l+k≤n→k≤c'→(fu=true→c'=k)→∀a',(0 <k→a'=a.map (·.add (l*Bhg s.o w)))→Hv F N s.nx R (f l k fu) (.slice a' k c'):=by
 unfold A53 at hv
 split at hv<;>try (cases hv;done)
 ·rename_i i
  obtain⟨hi,rfl⟩:=hw.sq_inv
  split at hv<;>try (cases hv;done)
  rename_i e sz els hl
  cases hv
  obtain⟨_,zs,g1,_⟩:=h.ob i _ hl
  have bc:Bhg s.o (.sq i)=sz:=by unfold Bhg;simp only[hl]
  rw[bc]
  obtain⟨aa,c,q1,q2⟩:=g1.form
  refine⟨aa,c,q1,q2,fun l k c' fu h1 h2 h3 a' h4=> .vw hi h2 h3 fun hk=>?_⟩
  obtain⟨g,c2,r1,_,r3,_,_⟩:=Mp g1 (by omega)
  rw[h4 hk]
  rw[r1] at q1
  cases q1
  rw[r3]
  rfl
 ·rename_i i sz lo m fu0
  obtain⟨hi,aa,c,rfl,q2,_,q4⟩:=hw.vw_inv
  split at hv<;>try (cases hv;done)
  rename_i m' hm
  cases hv
  refine⟨aa,c,rfl,q2,fun l k c' fu h1 h2 h3 a' h4=> .vw hi h2 h3 fun hk=>?_⟩
  rw[h4 hk,q4 (by omega)]
  show some (((IN (N.q i)).add (lo*sz)).add (l*sz))=_
  rw[Fa,Nat.add_mul]
 ·rename_i ct b
  obtain⟨aa,c,rfl,q2,q3⟩:=hw.sl_inv
  cases hv
  refine⟨aa,c,rfl,q2,fun l k c' fu h1 h2 h3 a' h4=>?_⟩
  have hlen:((b.drop l).take k).length=k:=by rw[List.length_take,List.length_drop];omega
  have main:Hv F N s.nx R (.sl ct ((b.drop l).take k)) (.slice a' ((b.drop l).take k).length c'):=by
   refine Hv.of_sl (by omega) fun hk=>?_
   rw[hlen] at hk
   obtain⟨ad,rfl,r1,r2⟩:=q3 (by omega)
   refine⟨ad.add (l*size ct),h4 hk,by rw[IQ];exact r1,fun i d hd=>?_⟩
   rw[Fa,←Nat.add_mul]
   refine r2 (l+i) d ?_
   rw[List.getElem?_take] at hd
   split at hd<;>try (cases hd;done)
   rwa[List.getElem?_drop] at hd
  rw[hlen] at main
  exact main
theorem Agw (h:Rel Z F N s a R) (hG:P6 (BH a) G) {o:Oper} {z:A} {ps:List Prop} (he:Pt E s G o=some (z,ps)):∃y,Hv F N s.nx R z y∧∀R',(execOp a.eval o).run E.P R'=.ok (.value y) R':=by
 unfold Pt at he
 split at he<;>try (cases he;done)
 rename_i y hy
 cases he
 exact⟨y,Hv.v _,fun R'=>Bm3 h hG hy R'⟩
theorem Btl (h:Rel Z F N s a R) (hG:P6 (BH a) G) {o:Oper} {t:TypeId} {x:Operand} {lo hi mx:Option Operand} (ho:o.op=.slice t x lo hi mx) {z:A} {ps:List Prop} (he:Bhc E s G o t x lo hi mx=some (z,ps)) (hp:∀p∈ps,p):
  ∃y,Hv F N s.nx R z y∧∀R',(execOp a.eval o).run E.P R'=.ok (.value y) R':=by
 have hex:execOp a.eval o=(do pure (.value (←Instr.sliceAt t (a.eval x) (lo.map a.eval) (hi.map a.eval) (mx.map a.eval)))):=by
  obtain⟨dst,op,type,pos,after,guard⟩:=o
  simp only at ho
  subst ho
  rfl
 unfold Bhc at he
 split at he<;>try (cases he;done)
 ·rename_i b hx
  split at he<;>try (cases he;done)
  rename_i hu
  split at he<;>try (cases he;done)
  rename_i l hh hl ou
  obtain⟨rfl,hd⟩:=Gl he
  obtain⟨h0,h1,h2⟩:=Le hd hp
  have hx':=(BL h hG hx).2.v_inv
  refine⟨_,Hv.v _,fun R'=>?_⟩
  rw[hex,hx']
  have:=Ay3 (P:=E.P) (R:=R') (b:=b) hu (QF h hG hl h0) (QF h hG ou (by omega)) (by omega) (by omega)
  simp[this]
 ·exact Agw h hG he
 ·rename_i i off hx
  have hx':=(BL h hG hx).2.own_inv
  split at he<;>try (cases he;done)
  rotate_left
  ·rename_i n e hiO hu
   split at he<;>try (cases he;done)
   rename_i sz l h' bc hl hh
   obtain⟨rfl,hd⟩:=Gl he
   obtain⟨h0,h1,h2⟩:=Le hd hp
   refine⟨_,.vd hx'.1,fun R'=>?_⟩
   rw[hex,hx'.2]
   have:=Av8 (P:=E.P) (R:=R') (ad:=⟨N.b i,off,none⟩) hu bc (QF h hG hl h0) (QF h hG hh (by omega)) (by omega) (by omega)
   rw[if_neg (by omega),D7] at this
   simp only[Option.map_none,Sem.run_bind,this,Result.andThen_ok,Sem.run_pure]
  rename_i n e hu
  split at he<;>try (cases he;done)
  rotate_left
  ·rename_i sz l bc hl
   obtain⟨rfl,hd⟩:=Gl he
   obtain⟨h0,h1⟩:=Le hd hp
   refine⟨_,.vd hx'.1,fun R'=>?_⟩
   rw[hex,hx'.2]
   have:=Abz (P:=E.P) (R:=R') (ad:=⟨N.b i,off,none⟩) hu bc (QF h hG hl h0) (by omega)
   rw[if_neg (by omega),D7] at this
   simp only[Option.map_none,Sem.run_bind,this,Result.andThen_ok,Sem.run_pure]
  rename_i l bc hl
  obtain⟨rfl,hd⟩:=Gl he
  obtain⟨h0,h1⟩:=Le hd hp
  refine⟨_,.vr (if n=l.toNat then⟨N.b i,off,none⟩ else(⟨N.b i,off,none⟩:Addr).add (l.toNat*1)) hx'.1 fun hm=>by rw[if_neg (by omega),D7,Nat.mul_one],fun R'=>?_⟩
  rw[hex,hx'.2]
  have:=Abz (P:=E.P) (R:=R') (ad:=⟨N.b i,off,none⟩) hu bc (QF h hG hl h0) (by omega)
  simp only[Option.map_none,Sem.run_bind,this,Result.andThen_ok,Sem.run_pure]
 ·rename_i w yh gd hx nk
  have hx':=(BL h hG nk).2
  split at he<;>try (cases he;done)
  rename_i n f e hv hu
  split at he<;>try (cases he;done)
  rename_i sz bc
  cases hb:Nat.beq sz (Bhg s.o w) with
  |false=>rw[hb] at he;cases he
  | true=>
   rw[hb] at he
   obtain rfl:=Nat.eq_of_beq_eq_true hb
   simp only[cond_true] at he
   split at he<;>try (cases he;done)
   rename_i l hh m hl ou jn
   obtain⟨aa,c,q1,q2,q3⟩:=Blg h.hp hv hx'
   split at he<;>try (cases he;done)
   ·obtain⟨rfl,hd⟩:=Gl he
    obtain⟨h0,h1,h2⟩:=Le hd hp
    refine⟨_,q3 l.toNat (hh.toNat - l.toNat) (c - l.toNat) false (by omega) (by omega) (fun e=>by cases e) (if c=l.toNat then aa else aa.map (·.add (l.toNat*Bhg s.o w))) (fun hk=>if_neg (by omega)),fun R'=>?_⟩
    rw[hex,q1]
    have:=Ah2 (P:=E.P) (R:=R') (a:=aa) (len:=n) (cap:=c) hu bc (QF h hG hl h0) (QF h hG ou (by omega)) (mx:=none) (m:=c) (.inl ⟨rfl,rfl⟩) (fun h=>absurd rfl h) (by omega) (by omega) (Nat.le_refl _)
    simp only[Option.map_none,Sem.run_bind,this,Result.andThen_ok,Sem.run_pure]
   ·rename_i mo xv
    obtain⟨rfl,hd⟩:=Gl he
    obtain⟨h0,h1,h2,h3⟩:=Le hd hp
    refine⟨.slice (if m.toNat=l.toNat then aa else aa.map (·.add (l.toNat*Bhg s.o w))) (hh.toNat - l.toNat) (m.toNat - l.toNat),?_,fun R'=>?_⟩
    ·cases hz:(A1q (some xv)&&A1q (some mo)) with
     |false=>exact q3 l.toNat (hh.toNat - l.toNat) (m.toNat - l.toNat) (decide (m=hh)) (by omega) (by omega) (fun e=>by have:=of_decide_eq_true e;omega) _ (fun hk=>if_neg (by omega))
     |true=>
      simp only[Bool.and_eq_true] at hz
      have e1:=Bck hz.1 ou
      have e2:=Bck hz.2 jn
      subst e1 e2
      rw[show(0:Int).toNat=0 from rfl,Nat.zero_sub]
      exact .nl _
    rw[hex,q1]
    have rh:T5 (Option.map a.eval (some mo)) c m.toNat:=by
     rcases QF h hG jn (by omega) with⟨e1,_⟩|e2
     ·cases e1
     ·exact .inr e2
    have:=Ah2 (P:=E.P) (R:=R') (a:=aa) (len:=n) (cap:=c) hu bc (QF h hG hl h0) (QF h hG ou (by omega)) rh (fun _ e=>by cases e) (by omega) (by omega) (by omega)
    simp only[Sem.run_bind,this,Result.andThen_ok,Sem.run_pure]
end
def Aci:A→Option (List A)
 | .v x=>some (toL x.cells.toList)
 | .agg xs=>some xs
 | .tup _=>none
 | .opt _ _ _=>none
 | .dead=>none
 | .dq _=>none
 | .iv _ _=>none
 | .de _ _ _ _=>none
 | .ie _ _ _ _ _=>none
 | .it _ _=>none
 | .av _ _ _=>none
 | .rv _=>none
 | .vr _ _ _ _=>none
 | .vd _ _ _ _=>none
 | .yl _=>none
 |x=>some [x]
def M3:List A→Bool
 | []=>true
 | .v x::r=>bif x.oneCell' then M3 r else false
 | .agg _::_=>false
 | .tup _::_=>false
 | .opt _ _ _::_=>false
 | .dead::_=>false
 | .it _ _::_=>false
 | .dq _::_=>false
 | .iv _ _::_=>false
 | .de _ _ _ _::_=>false
 | .ie _ _ _ _ _::_=>false
 | .av _ _ _::_=>false
 | .rv _::_=>false
 | .vr _ _ _ _::_=>false
 | .vd _ _ _ _::_=>false
 | .yl _::_=>false
 |_::r=>M3 r
section
variable {F:Nat→Prop} {N:Nm} {nx:Nat} {R:World}
theorem B2d {x:A} {y:Value} (h:Hv F N nx R x y) (_hx:Aci x=some [x]∨∃v,x=.v v∧v.oneCell'=true) (ho:M3 [x]=true) (hq:∀i,x=.sq i→∃a n c,N.q i=.slice a n c):y.oneCell'=true:=by
 cases x with
 |v u=>rw[h.v_inv];cases hu:u.oneCell' with
  |true=>rfl
  |false=>simp[M3,hu] at ho
 |sl c l=>obtain⟨a,c,rfl,_⟩:=h.sl_inv;rfl
 |own i o=>rw[h.own_inv.2];rfl
 |ownx i b l k=>rw[h.ownx_inv.2];rfl
 |sq i=>obtain⟨a,n,c,e⟩:=hq i rfl;rw[h.sq_inv.2,e];rfl
 |vw i s l n f=>obtain⟨_,a,c,rfl,_⟩:=h.vw_inv;rfl
 |el i k s o=>rw[h.el_inv.2];rfl
 |ref l=>obtain⟨ad,rfl,_⟩:=h.ref_inv;rfl
 |mp i=>rw[h.mp_inv.2];rfl
 |nl=>obtain⟨a,rfl⟩:=h.nl_inv;rfl
 |it q vs=>simp[M3] at ho
 |fn f a b=>obtain⟨vs,us,rfl,_⟩:=h.fn_inv;rfl
 |agg xs=>simp[M3] at ho
 |tup xs=>simp[M3] at ho
 |opt u b x=>simp[M3] at ho
 |dead=>simp[M3] at ho
 |dq i=>simp[M3] at ho
 |iv i k=>simp[M3] at ho
 |de i k sz o=>simp[M3] at ho
 |ie i k j sz o=>simp[M3] at ho
 |av c n l=>simp[M3] at ho
 |rv xs=>simp[M3] at ho
 |vr i b l m=>simp[M3] at ho
 |vd i b l m=>simp[M3] at ho
 |yl i=>simp[M3] at ho
end
def Qi (o:AE):List A→Bool
 | []=>true
 | .sq i::r=>match Ai i o with
  |some (.arr _ _ _)=>Qi o r
  |_=>false
 |_::r=>Qi o r
section
variable {F:Nat→Prop} {N:Nm} {nx:Nat} {o:AE} {R:World}
theorem Btm (h:Bp F N nx o R) {i:Nat} (hi:Qi o [.sq i]=true):∃a n c,N.q i=.slice a n c:=by
 unfold Qi at hi
 have form:∀{e sz n} {zs:List Value},PE R e sz (N.q i) n zs→∃a n c,N.q i=.slice a n c:=fun h1=>by
  obtain⟨a,c,e1,_⟩:=h1.form
  exact⟨a,_,c,e1⟩
 split at hi
 ·rename_i hl
  obtain⟨_,zs,h1,_⟩:=h.ob i _ hl
  exact form h1
 ·cases hi
theorem Agr (h:Bp F N nx o R):∀{xs:List A} {vs:List Value},M3 xs=true→Qi o xs=true→HL F N nx R xs vs→∀c∈vs,c.oneCell'=true
 | [],_,_,_,hl,c,hc=>by rw[hl.inv0] at hc;cases hc
 | x::r,_,h1,h2,hl,c,hc=>by
  obtain⟨v,vs,rfl,h3,h4⟩:=hl.inv
  have hx:M3 [x]=true∧M3 r=true:=by
   cases x<;>simp only[M3] at h1⊢<;>first|(cases h1;done)|(exact⟨trivial,h1⟩)|skip
   rename_i u
   cases hu:u.oneCell' with
   |true=>rw[hu] at h1;exact⟨rfl,h1⟩
   |false=>rw[hu] at h1;cases h1
  have hs:(∀i,x=.sq i→Qi o [.sq i]=true)∧Qi o r=true:=by
   cases x<;>simp only[Qi] at h2⊢<;>first|(exact⟨(fun i e=>by cases e),h2⟩)|skip
   rename_i i
   split at h2
   ·rename_i bm;exact⟨fun j e=>by cases e;simp only[bm],h2⟩
   ·cases h2
  rcases List.mem_cons.1 hc with rfl|hc
  ·refine B2d h3 ?_ hx.1 fun i e=>Btm h (hs.1 i e)
   cases x<;>first|(exact .inl rfl)|(simp[M3] at hx;done)|skip
   rename_i u
   refine .inr ⟨u,rfl,?_⟩
   have:=hx.1
   simp only[M3] at this
   cases hu:u.oneCell' with
   |true=>rfl
   |false=>rw[hu] at this;cases this
  ·exact Agr h hx.2 hs.2 h4 c hc
theorem Ub (h:Bp F N nx o R) {x:A} {us:List A} {y:Value} (hc:Aci x=some us) (hs:Qi o us=true) (hx:Hv F N nx R x y):HL F N nx R us y.cells.toList:=by
 have one:y.cells.toList=[y]→us=[x]→HL F N nx R us y.cells.toList:=fun e1 e2=>by rw[e1,e2];exact HL.cons hx HL.nil
 cases x with
 |v u=>cases hc;rw[hx.v_inv];exact HL.toL _
 |agg xs=>cases hc;obtain⟨vs,rfl,h2⟩:=hx.agg_inv;simpa[Value.cells] using h2
 |tup xs=>cases hc
 |opt u b x=>cases hc
 |dead=>cases hc
 |sl c l=>cases hc;refine one ?_ rfl;obtain⟨a,c,rfl,_⟩:=hx.sl_inv;rfl
 |own i o=>cases hc;refine one ?_ rfl;rw[hx.own_inv.2];rfl
 |ownx i b l k=>cases hc;refine one ?_ rfl;rw[hx.ownx_inv.2];rfl
 |sq i=>
  cases hc
  obtain⟨a,n,c,e⟩:=Btm h hs
  refine one ?_ rfl
  rw[hx.sq_inv.2,e]
  rfl
 |vw i s l n f=>cases hc;refine one ?_ rfl;obtain⟨_,a,c,rfl,_⟩:=hx.vw_inv;rfl
 |el i k s o=>cases hc;refine one ?_ rfl;rw[hx.el_inv.2];rfl
 |ref l=>cases hc;refine one ?_ rfl;obtain⟨ad,rfl,_⟩:=hx.ref_inv;rfl
 |mp i=>cases hc;refine one ?_ rfl;rw[hx.mp_inv.2];rfl
 |nl=>cases hc;refine one ?_ rfl;obtain⟨a,rfl⟩:=hx.nl_inv;rfl
 |it q vs=>cases hc
 |dq i=>cases hc
 |iv i k=>cases hc
 |de i k sz o=>cases hc
 |ie i k j sz o=>cases hc
 |av c n l=>cases hc
 |rv xs=>cases hc
 |vr i b l m=>cases hc
 |vd i b l m=>cases hc
 |yl i=>cases hc
 |fn f a b=>cases hc;refine one ?_ rfl;obtain⟨vs,us,rfl,_⟩:=hx.fn_inv;rfl
end
def A9x (off:Nat) (us cs:List A):List A:=cs.take off++us++cs.drop (off+us.length)
def A8h (place:Nat→Option (Nat×Nat)):List A→List (Nat×List A)→Option (List A)
 |cs,[]=>some cs
 |cs,(i,us)::r=>match place i with
  |some (off,size)=>bif Nat.beq us.length size then(bif Nat.ble (off+size) cs.length then A8h place (A9x off us cs) r else none) else none
  |none=>none
theorem A8m:∀(l:List Value) (off k:Nat) (cs:Array Value),off+k+l.length≤cs.size→
  ((l.zipIdx k).foldl (fun(cs:Array Value) (p:Value×Nat)=>cs.setIfInBounds (off+p.2) p.1) cs).toList=cs.toList.take (off+k)++l++cs.toList.drop (off+k+l.length)
 | [],off,k,cs,h=>by simp
 | x::r,off,k,cs,h=>by
  rw[List.length_cons] at h
  rw[List.zipIdx_cons,List.foldl_cons,A8m r off (k+1) _ (by simp;omega)]
  have ae:off+k <cs.toList.length:=by simp;omega
  simp only[Array.toList_setIfInBounds]
  rw[List.take_set,List.drop_set]
  rw[show off+(k+1)=off+k+1 by omega]
  rw[if_pos (by omega)]
  have h1:(cs.toList.take (off+k+1)).set (off+k) x=cs.toList.take (off+k)++[x]:=by
   rw[List.take_succ_eq_append_getElem ae,List.set_append]
   have:(cs.toList.take (off+k)).length=off+k:=by rw[List.length_take];omega
   rw[if_neg (by omega),this,Nat.sub_self]
   rfl
  rw[h1,List.length_cons]
  rw[show off+k+1+r.length=off+k+(r.length+1) by omega]
  simp
theorem HL.put {F:Nat→Prop} {N:Nm} {nx:Nat} {R:World} {off:Nat} {us cs:List A} {vs ws:List Value} (h1:HL F N nx R us vs) (h2:HL F N nx R cs ws):HL F N nx R (A9x off us cs) (ws.take off++vs++ws.drop (off+vs.length)):=by
 unfold A9x
 rw[h1.length]
 exact((h2.take off).append h1).append (h2.drop _)
def A1x (F:Nat→Prop) (N:Nm) (nx:Nat) (R:World):List (Nat×List A)→List (Nat×Value)→Prop
 | [],l=>l=[]
 |(i,us)::r,l=>∃v t,l=(i,v)::t∧HL F N nx R us v.cells.toList∧A1x F N nx R r t
theorem Xs {F:Nat→Prop} {N:Nm} {nx:Nat} {R:World} {place:Nat→Option (Nat×Nat)}:∀{ps:List (Nat×List A)} {qs:List (Nat×Value)} {cs dx:List A} {arr:Array Value},A8h place cs ps=some dx→A1x F N nx R ps qs→HL F N nx R cs arr.toList→
  ∃arr',Instr.fill place arr qs=some arr'∧HL F N nx R dx arr'.toList
 | [],_,cs,dx,arr,h,hp,hc=>by
  have gh:_=[]:=hp
  subst gh
  cases h
  exact⟨arr,rfl,hc⟩
 | (i,us)::r,_,cs,dx,arr,h,hp,hc=>by
  obtain⟨v,t,rfl,h1,h2⟩:=hp
  unfold A8h at h
  split at h<;>try (cases h;done)
  rename_i off size d8
  cases hb:Nat.beq us.length size with
  |false=>rw[hb] at h;cases h
  | true=>
   cases az:Nat.ble (off+size) cs.length with
   |false=>rw[hb,az] at h;cases h
   | true=>
    rw[hb,az] at h
    simp only[cond_true] at h
    obtain rfl:=Nat.eq_of_beq_eq_true hb
    have hle:=Nat.le_of_ble_eq_true az
    have l1:v.cells.size=us.length:=by have:=h1.length;simpa using this
    have l2:arr.size=cs.length:=by have:=hc.length;simpa using this
    have ca:=HL.put (off:=off) h1 hc
    have jc:=A8m v.cells.toList off 0 arr (by rw[Array.length_toList];omega)
    have e1:(v.cells.zipIdx.foldl (fun cs (c,j)=>cs.setIfInBounds (off+j) c) arr).toList=arr.toList.take off++v.cells.toList++arr.toList.drop (off+v.cells.toList.length):=by
     rw[←Array.foldl_toList,Array.toList_zipIdx]
     exact jc
    rw[←e1] at ca
    obtain⟨arr',g1,g2⟩:=Xs h h2 ca
    refine⟨arr',?_,g2⟩
    unfold Instr.fill
    simp only[d8]
    rw[if_neg (by simp[l1];omega)]
    exact g1
def A3w (s:St) (G:AQ):List (Nat×Operand)→Option (List (Nat×List A))
 | []=>some []
 | (i,o)::r=>match s.ev G o with
  | some x=>match Aci x with
   |some us=>bif Qi s.o us then(match A3w s G r with
    |some l=>some ((i,us)::l)
    |none=>none) else none
   |none=>none
  |none=>none
def Bj9 (P:Program) (t:TypeId):Option (List A×(Nat→Option (Nat×Nat))):=match P.info? t,P.underlying t with
 |some it,some (.array _ e)=>match it.zero,P.info? e with
  |some z,some ie=>some (toL z.cells.toList,fun i=>some (i*ie.size,ie.size))
  |_,_=>none
 |some it,some (.struct fields)=>match it.zero,fields.toList.mapM (fun f=>(P.info? f.type).map fun i=>(f.offset,i.size)) with
  |some z,some places=>some (toL z.cells.toList,(places.toArray[·]?))
  |_,_=>none
 |_,_=>none
def Bc3 (E:Env) (s:St) (G:AQ) (t:TypeId) (parts:List (Nat×Operand)):R2:=match A3w s G parts with
 | some ps=>match Bj9 E.P t with
  |some (z,pl)=>match A8h pl z ps with
   |some cs=>some (T7 cs,[])
   |none=>none
  |none=>none
 |none=>none
section
variable {E:Env} {Z:FG} {F:Nat→Prop} {N:Nm} {s:St} {a:Act} {R:World} {G:AQ}
theorem A0v (h:Rel Z F N s a R) (hG:P6 (BH a) G):∀{l:List (Nat×Operand)} {ps:List (Nat×List A)},A3w s G l=some ps→A1x F N s.nx R ps (l.map fun(i,x)=>(i,a.eval x))
 | [],ps,he=>by cases he;rfl
 | (i,o)::r,ps,he=>by
  unfold A3w at he
  split at he<;>try (cases he;done)
  rename_i x hx
  split at he<;>try (cases he;done)
  rename_i us fy
  cases hs:Qi s.o us with
  |false=>rw[hs] at he;cases he
  |true=>
   rw[hs] at he
   simp only[cond_true] at he
   split at he<;>try (cases he;done)
   rename_i l' hl
   cases he
   exact⟨_,_,rfl,Ub h.hp fy hs (BL h hG hx).2,A0v h hG hl⟩
theorem Bpo (h:Rel Z F N s a R) (hG:P6 (BH a) G) {t:TypeId} {parts:Array (Nat×Operand)} {z:A} {ps:List Prop} (he:Bc3 E s G t parts.toList=some (z,ps)):
  ∃y,Hv F N s.nx R z y∧∀R',(Instr.build t (parts.map fun(i,x)=>(i,a.eval x))).run E.P R'=.ok y R':=by
 unfold Bc3 at he
 split at he<;>try (cases he;done)
 rename_i gz cu
 split at he<;>try (cases he;done)
 rename_i zz pl d8
 split at he<;>try (cases he;done)
 rename_i cs cn
 cases he
 have cz:=A0v h hG cu
 have hex:∃arr':Array Value,E.P.built t (parts.map fun(i,x)=>(i,a.eval x)).toList=some arr'∧HL F N s.nx R cs arr'.toList:=by
  have hl:(parts.map fun(i,x)=>(i,a.eval x)).toList=parts.toList.map fun(i,x)=>(i,a.eval x):=by simp
  rw[hl]
  unfold Bj9 at d8
  unfold Program.built
  split at d8
  ·rename_i it _ e hi hu
   rw[hi,hu]
   simp only
   split at d8<;>try (cases d8;done)
   rename_i z0 ie hz xt
   cases d8
   rw[hz,xt]
   exact Xs cn cz (HL.toL _)
  ·rename_i it fields hi hu
   rw[hi,hu]
   simp only
   split at d8<;>try (cases d8;done)
   rename_i z0 places hz jd
   cases d8
   rw[hz,jd]
   exact Xs cn cz (HL.toL _)
  ·cases d8
 obtain⟨arr',h1,h2⟩:=hex
 refine⟨.agg arr',?_,fun R'=>run_build R' t _ _ h1⟩
 have:=U4 h2
 rwa[Array.toArray_toList] at this
end
def A70 (c:TC):List (List A)→Option (List (U c)×List Prop)
 | []=>some ([],[])
 | x::r=>match dec c x with
  |some (d,ps)=>match A70 c r with
   |some (l,qs)=>some (d::l,ps++qs)
   |none=>none
  |none=>none
def Af6 (c:TC):FY→Option (List (U c)×List Prop)
 | .ty c' l=>match TC.same c' c with
  |some h=>some (RQ h.down l,[])
  |none=>none
 | .lst cs=>A70 c cs
def A1z (c:TC) (l:List (U c)):Option Ae:=match TC.same c .u8 with
 |some h=>some (RQ h.down l)
 |none=>none
section
variable {F:Nat→Prop} {N:Nm} {nx:Nat} {R:World}
theorem Zt {c:TC}:∀{cs:List (List A)} {l:List (U c)} {ps:List Prop},A70 c cs=some (l,ps)→(∀p∈ps,p)→l.length=cs.length∧∀k,k <cs.length→HLs F N nx R (K7 cs k) (enc c (l.getD k (Av c)))
 | [],l,ps,h,_=>by cases h;exact⟨rfl,fun k hk=>by cases hk⟩
 |x::r,l,ps,h,hp=>by
  unfold A70 at h
  split at h<;>try (cases h;done)
  rename_i d qs hd
  split at h<;>try (cases h;done)
  rename_i l' rs hl
  cases h
  obtain⟨h1,h2⟩:=Zt hl fun p hm=>hp p (List.mem_append.2 (.inr hm))
  refine⟨by rw[List.length_cons,List.length_cons,h1],fun k hk=>?_⟩
  cases k with
  |zero=>exact Aiu hd fun p hm=>hp p (List.mem_append.2 (.inl hm))
  |succ k=>exact h2 k (by simpa using hk)
theorem Uj {c:TC} {els:FY} {l:List (U c)} {ps:List Prop} (h:Af6 c els=some (l,ps)) (hp:∀p∈ps,p):l.length=els.n∧∀k,k <els.n→HLs F N nx R (els.nth k) (enc c (l.getD k (Av c))):=by
 unfold Af6 at h
 split at h
 ·split at h<;>try (cases h;done)
  rename_i hc _
  obtain⟨hc⟩:=hc
  subst hc
  cases h
  exact⟨rfl,fun k _=> .refl _⟩
 ·exact Zt h hp
theorem Bcu {c:TC} {l:List (U c)} {m:Ae} (h:A1z c l=some m):∃e:c=.u8,m=RQ e l:=by
 unfold A1z at h
 split at h<;>try (cases h;done)
 rename_i hc _
 cases h
 exact⟨hc.down,rfl⟩
end
def A8f (s:St) (G:AQ) (x:Operand) (ix:Nat):Option (Option A):=match s.ev G x with
 |some (.tup xs)=>some xs[ix]?
 |_=>none
def Bzj (E:Env) (s:St) (G:AQ) (t:TypeId) (x:Operand) (f:Nat):Option (Option A):=match s.ev G x with
 | some (.agg cs)=>match E.P.underlying t with
  |some (.struct fs)=>match fs[f]? with
   |some fd=>some (Aow E.P fd.type (cs.drop fd.offset))
   |none=>some none
  |_=>some none
 |_=>none
def B52 (E:Env) (s:St) (G:AQ) (args:List Operand) (ts:Array TypeId):Option A:=
 match args with
 | [x]=>match s.ev G x with
  | some .nl=>match ts[0]? with
   |some t=>match E.P.underlying t with
    |some (.slice _)=>some (.v (.int .i64 0))
    |_=>none
   |none=>none
  | some w=>match A53 s.o w with
   | some (n,_)=>match ts[0]? with
    |some t=>match E.P.underlying t with
     |some (.slice _)=>some (.v (.int .i64 n))
     |_=>none
    |none=>none
   |none=>none
  |none=>none
 |_=>none
def B7n (_:Env) (_:St) (_:AQ) (_:List Operand) (_:Array TypeId):Option R2:=none
def Bhf:A→Bool
 | .own _ _=>true
 | .ownx _ _ _ _=>true
 | .el _ _ _ _=>true
 | .de _ _ _ _=>true
 | .ie _ _ _ _ _=>true
 | .ref _=>true
 |_=>false
def Bzt:A→Bool
 | .fn _ _ _=>true
 |x=>Bhf x
def B57 (s:St) (G:AQ) (x:Operand):Option A:=match s.ev G x with
 |some z=>bif Bzt z then some z else none
 |none=>none
def Ai9 (E:Env) (s:St) (G:AQ) (t:TypeId) (x y:Operand):Bool:=match s.ev G x,s.ev G y with
 |some z,some (.v (.pointer none))=>bif Bhf z then(match E.P.underlying t with
  |some (.pointer e)=>Nat.beq e (E.P.pointee t)
  |_=>false) else false
 |_,_=>false
def eqE (E:Env) (s:St) (G:AQ) (t:TypeId) (x y:Operand):Option (Option Bool):=
 match s.raw G x,s.raw G y with
 |some (.agg xs),some (.agg ys)=>some (E.eq t xs.toList ys.toList)
 |_,_=>none
def A13 (o:AE):A→Option (Ae×List Prop)
 | .sl c l=>match A1z c l with
  |some m=>some (m,[])
  |none=>none
 | .sq i=>match Ai i o with
  |some (.arr _ 1 els)=>Af6 .u8 els
  |_=>none
 | .vw i sz lo n _=>match Ai i o with
  |some (.arr _ 1 els)=>bif Nat.beq sz 1 then(match Af6 .u8 els with
   |some (l,ps)=>some ((l.drop lo).take n,(lo+n≤l.length)::ps)
   |none=>none) else none
  |_=>none
 |_=>none
def Bc7 (E:Env) (s:St) (G:AQ) (src dst:TypeId) (x:Operand):Option R2:=match s.ev G x with
 | some w=>match A13 s.o w with
  | some (l,ps)=>match E.P.underlying src,E.P.underlying dst with
   |some (.slice e),some .string=>match E.P.underlying e with
    |some (.int .u8)=>some (some (.v (.string ⟨l.toArray⟩),ps))
    |_=>some none
   |_,_=>some none
  |none=>none
 |none=>none
def Arl (s:St) (G:AQ) (b:Builtin) (args:List Operand):Option Value:=
 match args with
 | [x,y]=>match s.raw G x,s.raw G y with
  |some (.int k a),some (.int _ c)=>match b with
   | .max=>some (.int k (max a c))
   | .min=>some (.int k (min a c))
   |_=>none
  |_,_=>none
 |_=>none
def Agb (s:St) (G:AQ):List Operand→Option (List A)
 | []=>some []
 | o::r=>match s.ev G o with
  |some x=>match Agb s G r with
   |some xs=>some (x::xs)
   |none=>none
  |none=>none
def Btp (E:Env) (s:St) (G:AQ) (t:TypeId) (x i:Operand):Option R2:=match s.raw G x,s.raw G i with
 |some (.string b),some (.int _ n)=>match E.P.underlying t with
  |some .string=>some (wth (.v (Bc5 b.data.toList n.toNat)) (ndB E.lit (0≤n∧n <(b.size:Int))))
  |_=>none
 |_,_=>none
def Byx (E:Env) (s:St) (G:AQ) (t:TypeId) (x i:Operand):Option R2:=match s.ev G x,s.raw G i with
 | some (.av c n l),some (.int _ k)=>match E.P.underlying t with
  |some (.array len e)=>match Aq0 E.P e,Gv E.P e with
   |some false,some 1=>bif Nat.beq len n then some (wth (.v (sv c (l.getD k.toNat (Av c)))) (ndB E.lit (0≤k∧k <(n:Int)))) else none
   |_,_=>none
  |_=>none
 |_,_=>none
def By6 (s:St) (G:AQ) (fn:Fn) (first captured:List Operand):Option A:=match fn with
 | .func f=>match Agb s G first,Agb s G captured with
  |some xs,some ys=>some (.fn f xs ys)
  |_,_=>none
 |_=>none
def Xy (P:Program) (f:FuncId):Bool:=bif Nat.ble ylK f then false else match P.funcs[f]? with
 |some fn=>fn.body.isSome&&!(fn.name== "runtime.NumGoroutine")
 |none=>false
theorem Arf {P:Program} {f:FuncId} (h:Xy P f=true):Nat.ble ylK f=false:=by
 unfold Xy at h
 cases hb:Nat.ble ylK f with
 |true=>rw[hb] at h;cases h
 |false=>rfl
def A15 (s:St) (G:AQ) (f:Operand):Option (FuncId×List A×List A):=match s.ev G f with
 |some (.fn g first caps)=>some (g,first,caps)
 |some (.v (.func (.func g) first caps))=>some (g,toL first.toList,toL caps.toList)
 |_=>none
def Al9 (E:Env) (s:St) (G:AQ) (f:Operand) (args:List Operand):Option Arr:=match A15 s G f with
 |some (g,first,caps)=>bif Xy E.P g then(match Agb s G args with
  |some xs=>E.C g (first++(xs++caps)) s.nx s.o
  |none=>none) else none
 |none=>none
def Arm:Bool:=match Aay with
 | []=>true
 |_=>false
def ND (E:Env) (f:Operand) (args:List Operand):Option (FuncId×A):=match f,args with
 | .func g,[]=>match Xy E.P g,E.C g [] 0 [] with
  |true,some (k,x,0,[],[])=>bif(Nat.ble k 1&&x.free)&&Arm then some (g,x) else none
  |_,_=>none
 |_,_=>none
def Azq (E:Env) (s:St) (G:AQ) (f:Operand) (args:List Operand):R2:=match ND E f args with
 |some _=>none
 |none=>match Al9 E s G f args with
  |some (k,.v w,_,_,ps)=>bif Nat.ble k 1 then some (.v w,ps) else none
  |_=>none
def Aik (E:Env) (s:St) (G:AQ) (o:Oper) (op:BinOp) (x y:Operand):R2:=bif E.lit||O9 y then Pt E s G o else match s.raw G x,s.raw G y with
 |some (.int k a),some (.int k' b)=>match op with
  | .shl=>some (.v (.int k (k.wrap (a*2^(min b.toNat k.bits)))),[0≤b])
  | .shr=>some (.v (.int k (a.fdiv (2^(min b.toNat k.bits)))),[0≤b])
  | .quo=>bif As5 k k' then some (.v (.int k (k.wrap (a.tdiv b))),[b≠0]) else none
  | .rem=>bif As5 k k' then some (.v (.int k (a.tmod b)),[b≠0]) else none
  |_=>none
 |_,_=>none
def B0x (E:Env) (s:St) (G:AQ) (o:Oper) (t:TypeId) (x y:Operand):R2:=match E.P.underlying t with
 |some .string=>match s.raw G x,s.raw G y with
  |some (.string b),some (.string c)=>some (.v (.string (b++c)),[b.size+c.size≤9223372036854775807])
  |_,_=>none
 |_=>Pt E s G o
def itE (s:St) (G:AQ) (x:Operand) (ix:Nat):Option R2:=match s.ev G x with
 | some (.it q vs)=>match ix with
  |0=>some (some (.v (.bool q),[]))
  |k+1=>match vs[k]? with
   |some v=>some (some (.v v,[q=true]))
   |none=>some none
 |_=>none
def MF:List (ByteArray×Int)→ByteArray→Int
 | [],_=>0
 |(a,n)::r,b=>bif b==a then n else MF r b
def Aak:List (ByteArray×Int)→ByteArray→Int→List (ByteArray×Int)
 | [],b,n=>[(b,n)]
 |(a,m)::r,b,n=>bif b==a then(b,n)::r else(a,m)::Aak r b n
def Bwj (o:AE):A→Option (Nat×List (ByteArray×Int))
 | .mp i=>match Ai i o with
  |some (.map .str .i64 l)=>some (i,l)
  |_=>none
 |_=>none
def A8x (E:Env) (t:TypeId):Bool:=match E.P.underlying t with
 |some (.map k v)=>match E.P.underlying k,(E.P.info? v).bind (·.zero) with
  |some .string,some (.int .i64 z)=>decide (z=0)
  |_,_=>false
 |_=>false
def Br1 (E:Env) (s:St) (G:AQ) (t:TypeId) (m k:Operand):R2:=match s.ev G m,s.raw G k with
 |some x,some (.string b)=>match Bwj s.o x with
  |some (_,l)=>bif A8x E t then some (.v (.int .i64 (MF l b)),[]) else none
  |none=>none
 |_,_=>none
def Bv8:A→Bool
 | .v (.tuple _)=>true
 |_=>false
def Bsk (s:St) (G:AQ) (c x y:Operand):R2:=match s.raw G c,s.ev (SJ true c G) x,s.ev (SJ false c G) y with
 |some (.bool q),some x',some y'=>bif Bv8 y' then some (x',[q=true]) else bif Bv8 x' then some (y',[q=false]) else match Bsi s G c x y with
  |some z=>some (z,[])
  |none=>none
 |_,_,_=>none
def Bqw (c:TC) (l:List (U c)) (n:Nat):List A:=(List.range n).map fun j=> .v (sv c (l.getD j (Av c)))
def B0u (E:Env) (s:St) (G:AQ) (t:TypeId) (x:Operand):R2:=match E.P.underlying t,s.ev G x with
 |some (.array n _),some (.sl c l)=>bif c.one&&Nat.blt 0 n then some (.ref (Bqw c l n),[n≤l.length]) else none
 |_,_=>none
def Bx3 (E:Env) (s:St) (G:AQ) (o:Oper):R2:=
 match o.op with
 | .move x| .assign x=>match s.ev G x with
  |some z=>some (z,[])
  |none=>none
 | .pick c x y=>Bsk s G c x y
 | .extract x ix=>match itE s G x ix with
  |some r=>r
  |none=>match A8f s G x ix with
   |some (some z)=>some (z,[])
   |some none=>none
   |none=>Pt E s G o
 | .field t x f=>match Bzj E s G t x f with
  |some (some z)=>some (z,[])
  |some none=>none
  |none=>Pt E s G o
 | .fieldAddr t x f=>Asw E s G t x f
 | .indexAddr t x i=>Bd8 E s G t x i
 | .load t x=>Amk E s G t x
 | .slice t x lo hi mx=>Bhc E s G o t x lo hi mx
 | .build t parts=>Bc3 E s G t parts.toList
 | .nilCheck x=>match B57 s G x with
  |some z=>some (z,[])
  |none=>Pt E s G o
 | .index t x i=>match Btp E s G t x i with
  |some r=>r
  |none=>match Byx E s G t x i with
   |some r=>r
   |none=>Pt E s G o
 | .makeFunc fn first captured=>match By6 s G fn first.toList captured.toList with
  |some z=>some (z,[])
  |none=>none
 | .call {callee:=.value f,args, .. }=>Azq E s G f args.toList
 | .call {callee:=.builtin .len,args,argTypes}=>match B7n E s G args.toList argTypes with
  |some r=>r
  |none=>match B52 E s G args.toList argTypes with
   |some z=>some (z,[])
   |none=>Pt E s G o
 | .call {callee:=.builtin .max,args, .. }=>match Arl s G .max args.toList with
  |some z=>some (.v z,[])
  |none=>Pt E s G o
 | .call {callee:=.builtin .min,args, .. }=>match Arl s G .min args.toList with
  |some z=>some (.v z,[])
  |none=>Pt E s G o
 | .convert src dst x=>match Bc7 E s G src dst x with
  |some r=>r
  |none=>Pt E s G o
 | .binOp .eql t x y _=>bif Ai9 E s G t x y then some (.v (.bool false),[]) else match eqE E s G t x y with
  |some (some b)=>some (.v (.bool b),[])
  |some none=>none
  |none=>Pt E s G o
 | .binOp .neq t x y _=>bif Ai9 E s G t x y then some (.v (.bool true),[]) else match eqE E s G t x y with
  |some (some b)=>some (.v (.bool !b),[])
  |some none=>none
  |none=>Pt E s G o
 | .binOp .shl _ x y _=>Aik E s G o .shl x y
 | .binOp .shr _ x y _=>Aik E s G o .shr x y
 | .binOp .quo _ x y _=>Aik E s G o .quo x y
 | .binOp .rem _ x y _=>Aik E s G o .rem x y
 | .binOp .add t x y _=>B0x E s G o t x y
 | .lookup t m k false=>Br1 E s G t m k
 | .sliceToArrayPointer t x=>B0u E s G t x
 |_=>Pt E s G o
section
variable {E:Env} {Z:FG} {F:Nat→Prop} {N:Nm} {s:St} {a:Act} {R:World} {G:AQ}
theorem Ul (h:Rel Z F N s a R) (hG:P6 (BH a) G):∀{l:List Operand} {xs:List A},Agb s G l=some xs→HL F N s.nx R xs (l.map a.eval)
 | [],xs,he=>by obtain rfl:=Option.some.inj he;exact HL.nil
 | o::r,xs,he=>by
  unfold Agb at he
  cases hx:s.ev G o with
  |none=>simp only[hx] at he;cases he
  | some x=>
   cases hr:Agb s G r with
   |none=>simp only[hx,hr] at he;cases he
   |some ys=>
    simp only[hx,hr] at he
    obtain rfl:=Option.some.inj he
    exact HL.cons (BL h hG hx).2 (Ul h hG hr)
theorem Blp {b c:Bool} (h:(bif b then false else c)=true):c=true:=by
 cases b with
 |true=>cases h
 |false=>exact h
theorem Av7 {P:Program} {f:FuncId} (hf:Xy P f=true) (args:Array Value) (R:World):(callFunc f args).run P R=.ok (.enter f args) R:=by
 unfold Xy at hf
 replace hf:=Blp hf
 cases hq:P.funcs[f]? with
 |none=>simp only[hq] at hf;cases hf
 |some fn=>
  simp only[hq,Bool.and_eq_true] at hf
  obtain⟨h1,h2⟩:=hf
  have et:(fn.name== "runtime.NumGoroutine")=false:=by simpa using h2
  have bt:fn.body.isNone=false:=by cases hb:fn.body<;>simp_all
  simp only[callFunc,Sem.run_bind,run_program,Result.andThen_ok,hq,et,bt]
  rfl
theorem Ar4 (h:Rel Z F N s a R) (hG:P6 (BH a) G) {o:Oper} {f:Operand} {args:Array Operand} {ts:Array TypeId} (ho:o.op=.call {callee:=.value f,args,argTypes:=ts}) {r:Arr} (he:Al9 E s G f args.toList=some r):
  ∃g xs vs,E.C g xs s.nx s.o=some r∧Nat.ble ylK g=false∧HL F N s.nx R xs vs∧∀R',(execOp a.eval o).run E.P R'=.ok (.enter g vs.toArray) R':=by
 unfold Al9 at he
 split at he<;>try (cases he;done)
 rename_i g first caps hc
 cases hg:Xy E.P g with
 |false=>rw[hg] at he;cases he
 | true=>
  rw[hg] at he
  simp only[cond_true] at he
  split at he<;>try (cases he;done)
  rename_i xs s9
  have hal:=Ul h hG s9
  have xo:∃vs us,a.eval f=.func (.func g) vs.toArray us.toArray∧HL F N s.nx R first vs∧HL F N s.nx R caps us:=by
   unfold A15 at hc
   split at hc<;>try (cases hc;done)
   ·rename_i iw
    cases hc
    exact(BL h hG iw).2.fn_inv
   ·rename_i first' caps' iw
    cases hc
    have:=(BL h hG iw).2.v_inv
    exact⟨first'.toList,caps'.toList,by simpa using this,HL.toL _,HL.toL _⟩
  obtain⟨vs,us,e1,h1,h2⟩:=xo
  refine⟨g,_,vs++(args.toList.map a.eval++us),he,Arf hg,h1.append (hal.append h2),fun R'=>?_⟩
  obtain⟨dst,op,type,pos,after,guard⟩:=o
  simp only at ho
  subst ho
  show(do let d ←resolve a.eval _ type;invoke d.target d.args:Sem Next).run E.P R'=_
  have hr:(resolve a.eval {callee:=.value f,args,argTypes:=ts} type)=pure {target:=.fn (.func g) us.toArray,args:=vs.toArray++args.map a.eval}:=by
   simp only[resolve,e1,Deferred.ofValue]
  rw[hr]
  simp only[Sem.run_bind,Sem.run_pure,Result.andThen_ok,invoke]
  have bx:vs.toArray++args.map a.eval++us.toArray=(vs++(args.toList.map a.eval++us)).toArray:=by
   apply Array.ext'
   simp
  rw[bx]
  exact Av7 hg _ R'
theorem Ey {P:Program} {C:World→Prop} {v:Value} {r:Result Next} (h:r=.ok (.value v) R):Oper.quietUpon P C R v r:=by
 rw[h];exact⟨rfl,rfl⟩
theorem DK {α:Type} {P:Program} {m:Sem α} {f:α→Next} {x:α} (h:m.run P R=.ok x R):((do pure (f (←m)):Sem Next)).run P R=.ok (f x) R:=by
 simp[h]
theorem Btg {P:Program} {t:TypeId} {l:List A} {z:A} {cs:Array Value} {off nx:Nat} (he:Aow P t l=some z) (hl:HL F N nx R l (cs.toList.drop off)):
  ∃y,Hv F N nx R z y∧∀R',(part t cs off).run P R'=.ok y R':=by
 unfold Aow at he
 split at he<;>try (cases he;done)
 ·rename_i hr
  split at he<;>try (cases he;done)
  rename_i n hn
  cases hb:Nat.ble n l.length with
  |false=>rw[hb] at he;cases he
  | true=>
   rw[hb] at he
   cases he
   refine⟨_,U4 (hl.take n),fun R'=>?_⟩
   unfold Aq0 at hr
   unfold Gv at hn
   cases hu:P.underlying t with
   |none=>rw[hu] at hr;cases hr
   | some d=>
    rw[hu] at hr
    cases hi:P.info? t with
    |none=>rw[hi] at hn;cases hn
    | some i=>
     rw[hi] at hn
     have yb:i.size=n:=Option.some.inj hn
     have hx:(cs.extract off (off+n))=(List.take n (List.drop off cs.toList)).toArray:=by
      apply Array.ext'
      rw[Array.toList_extract,List.extract_eq_take_drop]
      congr 1
      omega
     cases d<;>first|(simp[part,isAgg,run_underlying hu,sizeOf,typeInfo,hi,yb,hx];done)|(simp at hr;done)
 ·rename_i hr
  split at he<;>try (cases he;done)
  cases he
  obtain⟨v,us,e,h1,_⟩:=hl.inv
  refine⟨v,h1,fun R'=>?_⟩
  have hc:cs[off]?=some v:=by
   have:(cs.toList.drop off)[0]?=some v:=by rw[e];rfl
   rw[List.getElem?_drop] at this
   simpa using this
  unfold Aq0 at hr
  cases hu:P.underlying t with
  |none=>rw[hu] at hr;cases hr
  |some d=>
   rw[hu] at hr
   cases d<;>first|(simp[part,isAgg,run_underlying hu,hc];done)|(simp at hr;done)
theorem Bqn (ok:EnvOk E) (h:Rel Z F N s a R) (hG:P6 (BH a) G) {t:TypeId} {x y:Operand} {b:Bool} (he:eqE E s G t x y=some (some b)) (op:BinOp) (sm:op=.eql∨op=.neq) (R':World):
  (do eqGuard op t x y (a.eval x) (a.eval y);binOp op t (a.eval x) (a.eval y):Sem Value).run E.P R'=.ok (.bool (bif(op matches .eql) then b else !b)) R':=by
 unfold eqE at he
 split at he<;>try (cases he;done)
 rename_i xs ys hx hy
 rw[EP h hG hx,EP h hG hy]
 obtain⟨h1,h2⟩:=ok.eq t xs.toList ys.toList b (Option.some.inj he)
 have h3:=h2 R'
 simp only[Array.toArray_toList] at h3
 have hg:=run_eqGuard_agg R' op t x y xs ys h1
 rcases sm with rfl|rfl
 ·simp[hg,binOp,Op.equal,Op.maxDepth,h3]
 ·simp[hg,binOp,Op.equal,Op.maxDepth,h3]
theorem Awi {nx:Nat} {z:A} {y:Value} (hs:Bhf z=true) (h:Hv F N nx R z y):∃ad,y=.pointer (some ad):=by
 cases z<;>try (cases hs;done)
 ·obtain⟨ad,h1,_⟩:=h.ref_inv;exact⟨_,h1⟩
 ·exact⟨_,h.own_inv.2⟩
 ·exact⟨_,h.ownx_inv.2⟩
 ·exact⟨_,h.el_inv.2⟩
 ·exact⟨_,h.de_inv.2⟩
 ·exact⟨_,h.ie_inv.2⟩
theorem A8a (h:Rel Z F N s a R) (hG:P6 (BH a) G) {t:TypeId} {x y:Operand} (he:Ai9 E s G t x y=true) (op:BinOp) (sm:op=.eql∨op=.neq) (R':World):
  (do eqGuard op t x y (a.eval x) (a.eval y);binOp op t (a.eval x) (a.eval y):Sem Value).run E.P R'=.ok (.bool (bif(op matches .eql) then false else true)) R':=by
 unfold Ai9 at he
 split at he<;>try (cases he;done)
 rename_i z hx hy
 cases hs:Bhf z with
 |false=>rw[hs] at he;cases he
 | true=>
  rw[hs] at he
  simp only[cond_true] at he
  split at he<;>try (cases he;done)
  rename_i e hu
  have yk:=Nat.eq_of_beq_eq_true he
  obtain⟨ad,e1⟩:=Awi hs (BL h hG hx).2
  rw[e1,(BL h hG hy).2.v_inv]
  rw[yk] at hu
  rcases sm with rfl|rfl
  ·have:=run_eql_pointer_nil (P:=E.P) R' t (some ad) hu
   simp[eqGuard,this]
  ·have:=run_neq_pointer_nil (P:=E.P) R' t (some ad) hu
   simp[eqGuard,this]
theorem Bx0 {v:Value} {nx:Nat} {b:UInt8} {vs:List Value} (h:HL F N nx R (enc .u8 b) vs) (hv:vs[0]?=some v):v=BN b:=by
 obtain⟨u,us,rfl,h1,_⟩:=HL.inv (x:=.v (BN b)) (r:=[]) h
 cases hv
 exact h1.v_inv
theorem Blv (h:Bp F N s.nx s.o R) {w:A} {l:Ae} {ps:List Prop} {y:Value} (hb:A13 s.o w=some (l,ps)) (hp:∀p∈ps,p) (hw:Hv F N s.nx R w y):
  ∃a c,y=.slice a l.length c∧l.length≤c∧(0 <l.length→∃ad,a=some ad∧∀j b,l[j]?=some b→R.cell? (ad.add j)=some (BN b)):=by
 have row:∀{i e els m qs},Ai i s.o=some (.arr e 1 els)→Af6 .u8 els=some (m,qs)→(∀p∈qs,p)→0 <m.length→∃g c,N.q i=.slice (some ⟨g,0,none⟩) m.length c∧m.length≤c∧IN (N.q i)=⟨g,0,none⟩∧∀(j:Nat) (b:UInt8),m[j]?=some b→R.cell? ⟨g,j,none⟩=some (BN b):=fun {i e els m qs} hl ht hq cf=>by
  obtain⟨_,zs,g1,g2⟩:=h.ob i _ hl
  obtain⟨e1,e2⟩:=Uj (F:=F) (N:=N) (nx:=s.nx) (R:=R) ht hq
  obtain⟨g,c,q1,q2,q3,_,q5⟩:=Mp g1 (by omega)
  rw[e1]
  refine⟨g,c,q1,q2,q3,fun j b hj=>?_⟩
  have ae:j <m.length:=(List.getElem?_eq_some_iff.1 hj).1
  have h3:=e2 j (by omega) _ (g2 j (by omega))
  have ma:m.getD j (Av .u8)=b:=by rw[List.getD_eq_getElem?_getD,hj];rfl
  rw[ma] at h3
  have hlen:=h3.length
  have hz:∃v,((zs.drop (j*1)).take 1)[0]?=some v:=by
   have:0 <((zs.drop (j*1)).take 1).length:=by rw[hlen];exact Nat.zero_lt_one
   exact⟨_,List.getElem?_eq_getElem this⟩
  obtain⟨v,hv⟩:=hz
  have:=Bx0 h3 hv
  subst this
  have:=q5 _ _ (ZY hv)
  rwa[Nat.mul_one,Nat.add_zero] at this
 unfold A13 at hb
 split at hb<;>try (cases hb;done)
 ·rename_i c l'
  split at hb<;>try (cases hb;done)
  rename_i m hm
  cases hb
  obtain⟨e,rfl⟩:=Bcu hm
  subst e
  obtain⟨a,cap,h1,h2,h3⟩:=hw.sl_inv
  refine⟨a,cap,h1,h2,fun hn=>?_⟩
  obtain⟨ad,q1,_,q2⟩:=h3 hn
  refine⟨ad,q1,fun j b hj=>?_⟩
  obtain⟨y,r1,r2⟩:=q2 j b hj 0 (.v (BN b)) rfl
  rw[Fa,Nat.add_zero,show size .u8=1 from rfl,Nat.mul_one] at r1
  rw[r1,r2.v_inv]
 ·rename_i i
  split at hb<;>try (cases hb;done)
  rename_i e els hl
  rw[hw.sq_inv.2]
  by_cases cf:0 <l.length
  ·obtain⟨g,c,q1,q2,q3,q4⟩:=row hl hb hp cf
   exact⟨_,c,q1,q2,fun _=>⟨_,rfl,fun j b hj=>by rw[D7,Nat.zero_add];exact q4 j b hj⟩⟩
  ·obtain⟨_,zs,g1,_⟩:=h.ob i _ hl
   obtain⟨e1,_⟩:=Uj (F:=F) (N:=N) (nx:=s.nx) (R:=R) hb hp
   obtain⟨a,c,e2,e3⟩:=g1.form
   exact⟨a,c,by rw[e1];exact e2,by omega,fun hp=>absurd hp cf⟩
 ·rename_i i sz lo n f
  split at hb<;>try (cases hb;done)
  rename_i e els hl
  cases hz:Nat.beq sz 1 with
  |false=>rw[hz] at hb;cases hb
  |true=>
   rw[hz] at hb
   obtain rfl:=Nat.eq_of_beq_eq_true hz
   simp only[cond_true] at hb
   split at hb<;>try (cases hb;done)
   rename_i m qs hm
   cases hb
   have hle:lo+n≤m.length:=hp _ (List.mem_cons_self ..)
   have hlen:((m.drop lo).take n).length=n:=by rw[List.length_take,List.length_drop];omega
   obtain⟨_,aa,c,rfl,q2,_,q4⟩:=hw.vw_inv
   rw[hlen]
   refine⟨aa,c,rfl,q2,fun j9=>⟨_,q4 j9,fun j b hj=>?_⟩⟩
   obtain⟨g,c',_,_,r3,r4⟩:=row hl hm (fun p hm=>hp p (List.mem_cons_of_mem _ hm)) (by omega)
   rw[r3,D7,D7,Nat.zero_add,Nat.mul_one]
   rw[List.getElem?_take] at hj
   split at hj<;>try (cases hj;done)
   rw[List.getElem?_drop] at hj
   exact r4 _ _ hj
theorem A0p (h:Rel Z F N s a R) (hG:P6 (BH a) G) {b:Builtin} {args:List Operand} {v:Value} (he:Arl s G b args=some v) (hb:b=.max∨b=.min) (ts:Array TypeId) (t:TypeId) (cs:Array Bool) (R':World):
  (builtin b ts t cs (args.map a.eval).toArray).run E.P R'=.ok (.value v) R':=by
 unfold Arl at he
 split at he<;>try (cases he;done)
 split at he<;>try (cases he;done)
 rename_i x y _ k i k' c hx hy
 rw[List.map_cons,List.map_cons,List.map_nil,EP h hG hx,EP h hG hy]
 rcases hb with rfl|rfl
 ·cases he
  simp[builtin,my_max]
 ·cases he
  simp[builtin,my_min]
theorem B0y (h:Rel Z F N s a R) (hG:P6 (BH a) G) {o:Oper} {t yt:TypeId} {x y:Operand} (ho:o.op=.binOp .add t x y yt) {z:A} {ps:List Prop} (he:B0x E s G o t x y=some (z,ps)) (hp:∀p∈ps,p):
  ∃v,Hv F N s.nx R z v∧∀R',(execOp a.eval o).run E.P R'=.ok (.value v) R':=by
 unfold B0x at he
 split at he
 ·rename_i ht
  split at he<;>try (cases he;done)
  rename_i b c hx hy
  cases he
  obtain⟨dst,vl,type,pos,after,guard⟩:=o
  simp only at ho
  subst ho
  have ex:=EP h hG hx
  have ey:=EP h hG hy
  have hb:b.size+c.size≤9223372036854775807:=hp _ (List.mem_singleton.2 rfl)
  refine⟨_,.v _,fun R'=>DK (f:=Next.value) ?_⟩
  rw[ex,ey]
  simp[eqGuard,binOp,Op.stringOp]
  omega
 ·exact Agw h hG he
theorem Afo (h:Rel Z F N s a R) (hG:P6 (BH a) G) {o:Oper} {op:BinOp} {t yt:TypeId} {x y:Operand} (ho:o.op=.binOp op t x y yt) {z:A} {ps:List Prop} (he:Aik E s G o op x y=some (z,ps)) (hp:∀p∈ps,p):
  ∃v,Hv F N s.nx R z v∧∀R',(execOp a.eval o).run E.P R'=.ok (.value v) R':=by
 unfold Aik at he
 cases hc:(E.lit||O9 y) with
 |true=>rw[hc] at he;exact Agw h hG he
 | false=>
  rw[hc] at he
  simp only[cond_false] at he
  obtain⟨dst,vl,type,pos,after,guard⟩:=o
  simp only at ho
  subst ho
  split at he<;>try (cases he;done)
  rename_i k i k' b hx hy
  have ex:=EP h hG hx
  have ey:=EP h hG hy
  split at he<;>try (cases he;done)
  ·cases he
   have hb:0≤b:=hp _ (List.mem_singleton.2 rfl)
   refine⟨_,.v _,fun R'=>DK (f:=Next.value) ?_⟩
   rw[ex,ey]
   simp[eqGuard,binOp,Op.shift,show ¬b <0 by omega]
  ·cases he
   have hb:0≤b:=hp _ (List.mem_singleton.2 rfl)
   refine⟨_,.v _,fun R'=>DK (f:=Next.value) ?_⟩
   rw[ex,ey]
   simp[eqGuard,binOp,Op.shift,show ¬b <0 by omega]
  ·cases hk:As5 k k' with
   |false=>rw[hk] at he;cases he
   |true=>
    rw[hk] at he
    cases he
    obtain rfl:=As6 hk
    have hb:b≠0:=hp _ (List.mem_singleton.2 rfl)
    refine⟨_,.v _,fun R'=>DK (f:=Next.value) ?_⟩
    rw[ex,ey]
    simp[eqGuard,binOp,Op.intDiv,hb]
  ·cases hk:As5 k k' with
   |false=>rw[hk] at he;cases he
   |true=>
    rw[hk] at he
    cases he
    obtain rfl:=As6 hk
    have hb:b≠0:=hp _ (List.mem_singleton.2 rfl)
    refine⟨_,.v _,fun R'=>DK (f:=Next.value) ?_⟩
    rw[ex,ey]
    simp[eqGuard,binOp,Op.intDiv,hb]
end
theorem Bsl {Z:FG} {F:Nat→Prop} {N:Nm} {s:St} {a:Act} {R:World} {G:AQ} (h:Rel Z F N s a R) (hG:P6 (BH a) G) {c x y:Operand} {z:A} {ps:List Prop} (he:Bsk s G c x y=some (z,ps)) (hp:∀p∈ps,p):
  ∃q,a.eval c=.bool q∧Hv F N s.nx R z (if q then a.eval x else a.eval y):=by
 unfold Bsk at he
 split at he<;>try (cases he;done)
 rename_i q x' y' hc hx hy
 have hq:=EP h hG hc
 cases h1:Bv8 y' with
 |true=>
  rw[h1] at he
  cases he
  have jo:q=true:=hp _ (List.mem_singleton.2 rfl)
  subst jo
  exact⟨true,hq,(BL h (Vx hG hq) hx).2⟩
 | false=>
  rw[h1] at he
  cases h2:Bv8 x' with
  |true=>
   rw[h2] at he
   cases he
   have jo:q=false:=hp _ (List.mem_singleton.2 rfl)
   subst jo
   exact⟨false,hq,(BL h (Vx hG hq) hy).2⟩
  |false=>
   rw[h2] at he
   simp only[cond_false] at he
   split at he<;>try (cases he;done)
   rename_i z' hz
   cases he
   exact Bsj h hG hz
end Go.Proofs.YtifkbgkbajncjaaGreatDoor

