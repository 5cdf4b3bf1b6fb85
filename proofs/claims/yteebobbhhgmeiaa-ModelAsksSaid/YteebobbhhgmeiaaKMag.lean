/- made by a program (rowgen.py): ModelAsks: for every input the law returns true, and each argument reads behind the call as it read before. -/
import Derived.Test.YteebobbhhgmeiaaKMaf
import Derived.Test.YteebobbhhgmeiaaRows

set_option maxRecDepth 100000
namespace Go.Proofs.Yteebobbhhgmeiaa
open Go.RowKit
section
variable {l:List TGroup} {k:ByteArray}
end
def nb (rows:List TRow):List TRow:=rows.filter fun r=>!G2 r
theorem B2j {l:List TGroup} {rows:List TRow} (hr:YW rows) (hg:∀r∈rows,Ai l r=0):Stt l (nb rows):=by
 refine⟨List.Pairwise.filter _ hr,fun r hm=>?_⟩
 obtain⟨h1,h2⟩:=List.mem_filter.1 hm
 exact⟨hg r h1,by simpa using h2⟩
end Go.Proofs.Yteebobbhhgmeiaa
namespace Go.Proofs.Yteebobbhhgmeiaa
open Go.RowKit
def ofC (p:Int) (s:TStamp) (v:TVec) (g:Bool) (x:ByteArray):TCell:=bif p==2&&g then⟨⟨0,0⟩,⟨0,0⟩,false,⟨#[]⟩,v⟩ else⟨s,v,g,x,⟨0,0⟩⟩
def Ae3 (l:List TGroup) (c:TChange) (w:TWrite):TCell:=ofC (Acl l w.group.toNat) c.stamp c.vec w.gone w.value
def A9o (l:List TGroup) (k:ByteArray):TRow:=⟨k,List.replicate l.length zeroC⟩
def Aoq (o:List TRow):TRow:=Bn o (o.length - 1)
def KC (l:List TGroup) (o:List TRow) (k:ByteArray):List TRow:=bif(o.length==0)||!((Aoq o).key==k) then o++[A9o l k] else o
def Bj0 (l:List TGroup) (c:TChange) (o:List TRow) (w:TWrite):List TRow:=o.set (o.length - 1) ⟨(Aoq o).key,(Aoq o).cells.set w.group.toNat (Ae3 l c w)⟩
def Vu (l:List TGroup) (c:TChange) (o:List TRow) (w:TWrite):List TRow:=Bj0 l c (KC l o w.key) w
def Ys (l:List TGroup) (c:TChange):Nat→List TRow
 |0=>[]
 |i+1=>Vu l c (Ys l c i) (wN c.writes i)
def Yt (l:List TGroup) (c:TChange):List TRow:=bif QV l c==0 then Ys l c c.writes.length else[]
theorem Bdn {l:List TGroup} {c:TChange}:QV l c=0↔AP l=0∧HP c=true∧Ahm c=true∧∀i,i <c.writes.length→PW l c.writes i=false:=by
 unfold QV
 cases h:AP l !=0 with
 |true=>
  rw[cond_true]
  have h':AP l≠0:=by simpa using h
  exact⟨fun e=>absurd e h',fun e=>absurd e.1 h'⟩
 | false=>
  have h':AP l=0:=by simpa using h
  rw[cond_false]
  cases h1:HP c with
  |false=>exact⟨fun e=>(by cases e),fun e=>by cases e.2.1⟩
  | true=>
   cases h2:Ahm c with
   |false=>exact⟨fun e=>(by cases e),fun e=>by cases e.2.2.1⟩
   | true=>
    rw[Bool.true_and,Bool.true_and]
    cases h3:KU c.writes.length (fun i=>!PW l c.writes i) with
    |false=>
     refine⟨fun e=>(by cases e),fun e=>?_⟩
     have:KU c.writes.length (fun i=>!PW l c.writes i)=true:=I7.2 fun i hi=>by rw[e.2.2.2 i hi];rfl
     rw[this] at h3
     cases h3
    |true=>exact⟨fun _=>⟨h',rfl,rfl,fun i hi=>by simpa using I7.1 h3 i hi⟩,fun _=>rfl⟩
theorem Ajm {l:List TGroup} {w:TWrite} (h:UA l w=true):w.key.size≠0∧w.key.size≤32∧0≤w.group∧w.group <(l.length:Int)∧w.value.size≤64∧(w.gone=true→w.value.size=0):=by
 unfold UA at h
 simp only[Bool.and_eq_true,Bool.not_eq_true',beq_eq_false_iff_ne,decide_eq_true_eq,Bool.or_eq_true,beq_iff_eq] at h
 obtain⟨⟨⟨⟨⟨h1,h2⟩,h3⟩,h4⟩,h5⟩,h6⟩:=h
 exact⟨h1,h2,h3,h4,h5,fun e=>by rcases h6 with h6|h6<;>first|exact h6|(rw[e] at h6;cases h6)⟩
theorem Avd {l:List TGroup} {ws:List TWrite} {i:Nat} (h:PW l ws i=false):UA l (wN ws i)=true∧(0 <i→QT (wN ws (i - 1)) (wN ws i)=true):=by
 unfold PW at h
 rw[Bool.or_eq_false_iff] at h
 refine⟨by simpa using h.1,fun hi=>?_⟩
 have:=h.2
 rw[decide_eq_true hi,Bool.true_and] at this
 simpa using this
theorem Akh {c:TChange} (h:HP c=true):(c.site=1∨c.site=2)∧1≤c.seq∧c.seq≤1099511627776∧c.stamp.site=c.site∧HF c.stamp=true∧Cx c.vec=true:=by
 unfold HP at h
 simp only[Bool.and_eq_true,Bool.or_eq_true,beq_iff_eq,decide_eq_true_eq] at h
 obtain⟨⟨⟨⟨⟨⟨h1,h2⟩,h3⟩,h4⟩,h5⟩,h6⟩,_⟩:=h
 exact⟨h1,h2,h3,h4,h5,h6⟩
theorem Btt {c:TChange} (h:HP c=true):0 <c.stamp.n:=by
 obtain⟨h1,_,_,h4,h5,_⟩:=Akh h
 unfold HF at h5
 have hs:(c.stamp.site==0)=false:=beq_eq_false_iff_ne.2 (by rw[h4];rcases h1 with e|e<;>rw[e]<;>decide)
 rw[hs,Bool.and_false,cond_false] at h5
 simp only[Bool.and_eq_true,decide_eq_true_eq] at h5
 omega
theorem Boa {l:List TGroup} (hp:AP l=0) {g:Nat} (hg:g <l.length):Acl l g=1∨Acl l g=2:=by
 have h:Ai l ⟨⟨#[1]⟩,List.replicate l.length zeroC⟩=0:=by
  rw[Qa]
  unfold VB Sl
  rw[hp]
  rfl
 have h1:=Ku h hg
 unfold Bo at h1
 by_cases e1:Acl l g=1
 ·exact .inl e1
 by_cases e2:Acl l g=2
 ·exact .inr e2
 ·have f1:(Acl l g==1)=false:=beq_eq_false_iff_ne.2 e1
  have f2:(Acl l g==2)=false:=beq_eq_false_iff_ne.2 e2
  simp[f1,f2] at h1
theorem Bup {p:Int} (hp:p=1∨p=2) {s:TStamp} {v:TVec} {g:Bool} {x:ByteArray} (hs:HF s=true) (hn:0 <s.n) (hv:Cx v=true) (hx:x.size≤64) (hg:g=true→x.size=0):Bo p (ofC p s v g x)=true:=by
 have hw:∀d:TVec,B9 ⟨s,v,g,x,d⟩=true:=fun d=>by
  unfold B9
  have:(s.n==0)=false:=beq_eq_false_iff_ne.2 (by omega)
  show(!(s.n==0&&_&&_&&_))=true
  rw[this]
  rfl
 have hgx:(g&&!(x.size==0))=false:=by
  cases g with
  |false=>rfl
  |true=>rw[hg rfl];rfl
 have hz:G3 ⟨0,0⟩=true:=rfl
 have hx':decide ((x.size:Int)≤64)=true:=decide_eq_true (by omega)
 rcases hp with rfl|rfl
 ·show Bo 1 ⟨s,v,g,x,⟨0,0⟩⟩=true
  unfold Bo
  rw[hw]
  show(bif(1:Int)==1&&!G3 ⟨0,0⟩||_ then false else bif !true then true else HF s&&decide (0 <s.n)&&Cx v&&decide ((x.size:Int)≤64)&&!(g&&!(x.size==0)))=true
  rw[hs,decide_eq_true hn,hv,hx',hgx]
  rfl
 ·unfold ofC
  cases g with
  |true=>
   show Bo 2 ⟨⟨0,0⟩,⟨0,0⟩,false,⟨#[]⟩,v⟩=true
   unfold Bo
   show(bif(2:Int)==1&&!G3 v||((2:Int)==2&&(false||!Cx v)||!((2:Int)==1||(2:Int)==2)) then false else bif !B9 ⟨⟨0,0⟩,⟨0,0⟩,false,⟨#[]⟩,v⟩ then true else _)=true
   rw[hv]
   rfl
  |false=>
   show Bo 2 ⟨s,v,false,x,⟨0,0⟩⟩=true
   unfold Bo
   rw[hw]
   show(bif(2:Int)==1&&!G3 ⟨0,0⟩||((2:Int)==2&&(false||!Cx ⟨0,0⟩)||!((2:Int)==1||(2:Int)==2)) then false else bif !true then true else HF s&&decide (0 <s.n)&&Cx v&&decide ((x.size:Int)≤64)&&!(false&&!(x.size==0)))=true
   rw[hs,decide_eq_true hn,hv,hx']
   rfl
theorem Abj {l:List TGroup} {c:TChange} {w:TWrite} (hp:AP l=0) (hh:HP c=true) (hw:UA l w=true):Bo (Acl l w.group.toNat) (Ae3 l c w)=true:=by
 obtain⟨_,_,h3,h4,h5,h6⟩:=Ajm hw
 obtain⟨_,_,_,_,s5,s6⟩:=Akh hh
 exact Bup (Boa hp (by omega)) s5 (Btt hh) s6 h5 h6
theorem Ak4 (pre:List TRow) (z:TRow):Aoq (pre++[z])=z:=by
 unfold Aoq Bn
 rw[List.length_append,List.length_singleton,Nat.add_sub_cancel,List.getD_eq_getElem?_getD,List.getElem?_append_right (Nat.le_refl _),Nat.sub_self]
 rfl
theorem Ayt (l:List TGroup) (c:TChange) (pre:List TRow) (z:TRow) (w:TWrite):Bj0 l c (pre++[z]) w=pre++[⟨z.key,z.cells.set w.group.toNat (Ae3 l c w)⟩]:=by
 unfold Bj0
 rw[Ak4,List.length_append,List.length_singleton,Nat.add_sub_cancel,List.set_append_right _ _ (Nat.le_refl _),Nat.sub_self]
 rfl
theorem Wd {l:List TGroup} {r:TRow} {g:Nat} {x:TCell} (h:Ai l r=0) (hx:Bo (Acl l g) x=true):Ai l ⟨r.key,r.cells.set g x⟩=0:=by
 obtain⟨h1,h2,h3,h4,_⟩:=AM h
 have hl:(r.cells.set g x).length=l.length:=by rw[List.length_set];exact h2
 refine Awj h1 h3 h4 hl ((A8d hl).2 fun i hi=>?_)
 have e:HE (r.cells.set g x) i=if g=i then x else HE r.cells i:=by
  unfold HE
  rw[List.getD_eq_getElem?_getD,List.getElem?_set]
  by_cases e:g=i
  ·subst e
   rw[if_pos rfl,if_pos rfl,if_pos (by omega)]
   rfl
  ·rw[if_neg e,if_neg e,←List.getD_eq_getElem?_getD]
 rw[e]
 by_cases e:g=i
 ·subst e
  rw[if_pos rfl]
  exact hx
 ·rw[if_neg e]
  exact Ku h hi
theorem Af2 {l:List TGroup} {w:TWrite} (hp:AP l=0) (hw:UA l w=true):Ai l (A9o l w.key)=0:=by
 obtain⟨h1,h2,_⟩:=Ajm hw
 unfold A9o
 rw[Qa]
 unfold VB Sl
 rw[hp,beq_eq_false_iff_ne.2 h1,decide_eq_false (by omega)]
 rfl
theorem A03 {pre:List TRow} {z:TRow}:YW (pre++[z])↔YW pre∧∀r∈pre,Jy r.key z.key=true:=by
 unfold YW
 rw[List.pairwise_append]
 constructor
 ·rintro⟨h1,_,h3⟩
  exact⟨h1,fun r hr=>h3 r hr z (List.mem_singleton.2 rfl)⟩
 ·rintro⟨h1,h2⟩
  exact⟨h1,List.pairwise_singleton _ _,fun r hr y hy=>by rw[List.mem_singleton.1 hy];exact h2 r hr⟩
structure ChI (l:List TGroup) (o:List TRow) (k:ByteArray):Prop where
 last:∃pre z,o=pre++[z]∧z.key=k
 rise:YW o
 good:∀r∈o,Ai l r=0
theorem Bhu {l:List TGroup} {c:TChange} {w:TWrite} (hp:AP l=0) (hh:HP c=true) (hw:UA l w=true):ChI l (Vu l c [] w) w.key:=by
 have e:Vu l c [] w=[]++[⟨w.key,(A9o l w.key).cells.set w.group.toNat (Ae3 l c w)⟩]:=Ayt l c [] (A9o l w.key) w
 rw[e]
 refine⟨⟨[],_,rfl,rfl⟩,List.pairwise_singleton _ _,fun r hr=>?_⟩
 rw[List.mem_singleton.1 hr]
 exact Wd (Af2 hp hw) (Abj hp hh hw)
theorem Ble {l:List TGroup} {c:TChange} {o:List TRow} {v w:TWrite} (hp:AP l=0) (hh:HP c=true) (hw:UA l w=true) (h:ChI l o v.key) (hv:QT v w=true):ChI l (Vu l c o w) w.key:=by
 obtain⟨⟨pre,z,rfl,hz⟩,hr,hg⟩:=h
 have hn:((pre++[z]).length==0)=false:=beq_eq_false_iff_ne.2 (by rw[List.length_append,List.length_singleton];omega)
 obtain⟨r1,r2⟩:=A03.1 hr
 by_cases hk:z.key=w.key
 ·have e:Vu l c (pre++[z]) w=pre++[⟨z.key,z.cells.set w.group.toNat (Ae3 l c w)⟩]:=by
   unfold Vu KC
   rw[hn,Ak4,hk,beq_self_eq_true]
   show Bj0 l c (pre++[z]) w=_
   rw[Ayt,hk]
  rw[e]
  refine⟨⟨pre,_,rfl,hk⟩,A03.2 ⟨r1,r2⟩,fun r hr=>?_⟩
  rcases List.mem_append.1 hr with hr|hr
  ·exact hg r (List.mem_append.2 (.inl hr))
  ·rw[List.mem_singleton.1 hr]
   exact Wd (hg z (List.mem_append.2 (.inr (List.mem_singleton.2 rfl)))) (Abj hp hh hw)
 ·have e:Vu l c (pre++[z]) w=(pre++[z])++[⟨w.key,(A9o l w.key).cells.set w.group.toNat (Ae3 l c w)⟩]:=by
   unfold Vu KC
   rw[hn,Ak4,beq_eq_false_iff_ne.2 hk]
   show Bj0 l c ((pre++[z])++[A9o l w.key]) w=_
   rw[Ayt]
   rfl
  have hlt:Jy z.key w.key=true:=by
   unfold QT at hv
   rw[←hz,beq_eq_false_iff_ne.2 hk,Bool.false_and,Bool.or_false] at hv
   exact hv
  rw[e]
  refine⟨⟨pre++[z],_,rfl,rfl⟩,A03.2 ⟨hr,fun r hr=>?_⟩,fun r hr=>?_⟩
  ·rcases List.mem_append.1 hr with hr|hr
   ·exact L7 (r2 r hr) hlt
   ·rw[List.mem_singleton.1 hr]
    exact hlt
  ·rcases List.mem_append.1 hr with hr|hr
   ·exact hg r hr
   ·rw[List.mem_singleton.1 hr]
    exact Wd (Af2 hp hw) (Abj hp hh hw)
theorem Bne {l:List TGroup} {c:TChange} (h:QV l c=0):∀i,i <c.writes.length→ChI l (Ys l c (i+1)) (wN c.writes i).key
 |0,hi=>by
  obtain⟨hp,hh,_,hb⟩:=Bdn.1 h
  exact Bhu hp hh (Avd (hb 0 hi)).1
 |i+1,hi=>by
  obtain⟨hp,hh,_,hb⟩:=Bdn.1 h
  obtain⟨h1,h2⟩:=Avd (hb (i+1) hi)
  exact Ble hp hh h1 (Bne h i (by omega)) (h2 (by omega))
theorem Bdo {l:List TGroup} {c:TChange} (h:QV l c=0) (i:Nat) (hi:i≤c.writes.length):YW (Ys l c i)∧∀r∈Ys l c i,Ai l r=0:=by
 cases i with
 |zero=>exact⟨List.Pairwise.nil,fun r hr=>by cases hr⟩
 |succ i=>
  have:=Bne h i hi
  exact⟨this.rise,this.good⟩
theorem Avt (l:List TGroup) (c:TChange):YW (Yt l c)∧∀r∈Yt l c,Ai l r=0:=by
 unfold Yt
 cases h:QV l c==0 with
 |false=>exact⟨List.Pairwise.nil,fun r hr=>by cases hr⟩
 |true=>exact Bdo (by simpa using h) _ (Nat.le_refl _)
theorem Bql (l:List TGroup) (c:TChange) (o:List TRow) (w:TWrite):(Vu l c o w).length≤o.length+1:=by
 unfold Vu Bj0 KC
 rw[List.length_set]
 cases(o.length==0)||!((Aoq o).key==w.key) with
 |true=>rw[cond_true,List.length_append];exact Nat.le_refl _
 |false=>exact Nat.le_succ _
theorem A7x (l:List TGroup) (c:TChange):∀i,(Ys l c i).length≤i
 |0=>Nat.le_refl _
 |i+1=>Nat.le_trans (Bql ..) (Nat.succ_le_succ (A7x l c i))
end Go.Proofs.Yteebobbhhgmeiaa
namespace Go.Proofs.Yteebobbhhgmeiaa
open Go.RowKit
def Bw6 (a0:List TGroup) (a1:TChange):A:=.tup [.dq 0,.v (.int .i64 (QV a0 a1))]
def Bw5 (a0:List TGroup) (a1:TChange):Objs:=[(0,some (.deep 71 .row (Yt a0 a1)))]
theorem Byi {l:List TGroup} {c:TChange} {w:TWrite} (hp:AP l=0) (hh:HP c=true) (hw:UA l w=true):J7 (l.getD w.group.toNat (Ac TC.group)).2 c.stamp c.vec w.gone w.value=Ae3 l c w∧HM (l.getD w.group.toNat (Ac TC.group)).2 c.stamp c.vec w.gone w.value=Ae3 l c w:=by
 obtain⟨_,_,g0,g1,hx,hg⟩:=Ajm hw
 obtain⟨_,_,_,_,hs,hv⟩:=Akh hh
 have hn:0 <c.stamp.n:=Btt hh
 have hpo:(l.getD w.group.toNat (Ac TC.group)).2=1∨(l.getD w.group.toNat (Ac TC.group)).2=2:=Boa hp (by omega)
 unfold Ae3 Acl
 show _=ofC (l.getD w.group.toNat (Ac TC.group)).2 _ _ _ _∧_=ofC (l.getD w.group.toNat (Ac TC.group)).2 _ _ _ _
 generalize (l.getD w.group.toNat (Ac TC.group)).2=p at*
 generalize c.stamp=s at*
 generalize c.vec=v at*
 have h1:(p !=(1:Int)&&p !=(2:Int))=false:=Byd.2 hpo
 have h2:(s.1==(0:Int))=false:=beq_eq_false_iff_ne.2 (by have:s.1=s.n:=rfl;omega)
 have h3:(w.gone&&!w.value.toList==(ByteArray.mk #[]).toList)=false:=by
  rw[Ru]
  cases h:w.gone with
  |false=>rfl
  |true=>rw[hg h];rfl
 have h4:decide ((w.value.size:Int) >(64:Int))=false:=decide_eq_false (by omega)
 constructor
 ·have k0:H1 p s v w.gone w.value=false:=by
   unfold H1
   rw[Xu,Qy,hs,hv,h1,h2,h3]
   rfl
  have k1:IV p s v w.gone w.value=false:=h4
  have k2:IW p s v w.gone w.value=(p==2&&w.gone):=rfl
  unfold J7 ofC
  rw[k0,k1,k2]
  cases p==2&&w.gone<;>rfl
 ·have k2:Iw p s v w.gone w.value=false:=by
   unfold Iw
   rw[Kb,KT,hs,hv,h1,h2,h3]
   rfl
  have k3:I8 p s v w.gone w.value=false:=h4
  have k1:GH p s v w.gone w.value=(p==2&&w.gone):=by
   unfold GH
   rw[k2,k3]
   cases w.gone<;>cases p==2<;>rfl
  have k0:LQ p s v w.gone w.value=0:=by
   unfold LQ
   rw[k2,k3]
   rfl
  unfold HM ofC
  rw[k1,k0,k2,k3]
  cases p==2&&w.gone<;>rfl
theorem Be0 {n:Nat} (h:n≤100):(IntKind.i64.wrap ((n:Int) - 1)).toNat=n - 1:=by
 rw[i64_in (by omega)]
 omega
theorem Ayj (l:List TGroup) (o:List TRow) (k:ByteArray):1≤(KC l o k).length∧(KC l o k).length≤o.length+1:=by
 unfold KC
 cases h:(o.length==0)||!((Aoq o).key==k) with
 |true=>rw[cond_true,List.length_append];exact⟨Nat.le_add_left _ _,Nat.le_refl _⟩
 |false=>
  rw[cond_false]
  have:(o.length==0)=false:=(Bool.or_eq_false_iff.1 h).1
  have:o.length≠0:=by simpa using this
  omega
theorem A9s {l:List TGroup} {o:List TRow} (k:ByteArray) (h:∀r∈o,Ai l r=0):∀r∈KC l o k,r.cells.length=l.length:=fun r hr=>by
 have h1:∀r∈o,r.cells.length=l.length:=fun r hr=>(AM (h r hr)).2.1
 unfold KC at hr
 cases hb:(o.length==0)||!((Aoq o).key==k) with
 | true=>
  rw[hb,cond_true] at hr
  rcases List.mem_append.1 hr with hr|hr
  ·exact h1 r hr
  ·rw[List.mem_singleton.1 hr]
   exact List.length_replicate
 |false=>rw[hb,cond_false] at hr;exact h1 r hr
theorem QX {l:List TGroup} {c:TChange} (h:QV l c=0) {i:Nat} (hi:i <c.writes.length):AP l=0∧HP c=true∧UA l (wN c.writes i)=true∧c.writes.length≤8∧l.length≤4∧(Ys l c i).length≤i∧∀r∈KC l (Ys l c i) (wN c.writes i).key,r.cells.length=l.length:=by
 obtain⟨hp,hh,hn,hb⟩:=Bdn.1 h
 unfold Ahm at hn
 rw[Bool.and_eq_true,decide_eq_true_eq,decide_eq_true_eq] at hn
 exact⟨hp,hh,(Avd (hb i hi)).1,hn.2,(G0 hp).2,A7x l c i,A9s _ (Bdo h i (by omega)).2⟩
theorem Bxj {l:List TGroup} {c:TChange} (h:QV l c=0):c.writes.length≤8:=by
 obtain⟨_,_,hn,_⟩:=Bdn.1 h
 unfold Ahm at hn
 rw[Bool.and_eq_true,decide_eq_true_eq,decide_eq_true_eq] at hn
 exact hn.2
theorem Bum {l:List TGroup} {w:TWrite} (hp:AP l=0) (hw:UA l w=true):Ahl l w.key=A9o l w.key:=by
 obtain⟨h1,h2,_⟩:=Ajm hw
 have hk:Sl w.key=0:=by
  unfold Sl
  rw[show(w.key.size==0)=false by simpa using h1,decide_eq_false (by omega)]
  rfl
 have hn:VB l w.key=0:=by unfold VB;rw[hp,hk];rfl
 unfold Ahl A9o
 rw[hn]
 rfl
abbrev Bq:Type:=(List TGroup)×(List TWrite)×Int×Int×TChange×(List TRow)
def JC (x:Bq):St:=⟨85,3,[(0,.sl .group x.1),(3,.own 0 0),(7,.dq 2),(22,.sl .write x.2.1),(23,.v (.int .i64 x.2.2.1)),(24,.v (.int .i64 x.2.2.2.1))],[(0,some (.box 136 [.v (.int .i64 x.2.2.2.2.1.site),.v (.int .i64 x.2.2.2.2.1.seq),.v (.int .i64 x.2.2.2.2.1.stamp.n),.v (.int .i64 x.2.2.2.2.1.stamp.site),.v (.int .i64 x.2.2.2.2.1.vec.a),.v (.int .i64 x.2.2.2.2.1.vec.b),.sl .write x.2.2.2.2.1.writes])),(2,some (.deep 71 .row x.2.2.2.2.2))]⟩
def KY:St→Option Bq
 |⟨85,3,[(0,.sl .group z0),(3,.own 0 0),(7,.dq 2),(22,.sl .write z1),(23,.v (.int .i64 z2)),(24,.v (.int .i64 z3))],[(0,some (.box 136 [.v (.int .i64 z4),.v (.int .i64 z5),.v (.int .i64 z6),.v (.int .i64 z7),.v (.int .i64 z8),.v (.int .i64 z9),.sl .write z10])),(2,some (.deep 71 .row z11))]⟩=>some (z0,z1,z2,z3,⟨z4,z5,⟨z6,z7⟩,⟨z8,z9⟩,z10⟩,z11)
 |_=>none
theorem YY:∀s x,KY s=some x→s=JC x:=fun s x h=>by
 unfold KY at h
 split at h
 ·cases h;rfl
 ·cases h
def RZ:CU:=⟨2,3,[0,3,7,22,23,24],[],[(0,0),(8,2)],[0,8],[7],[2,0]⟩
def Aj0:C9:=⟨[.nilD 7 71 .row],[(0,0),(1,2)],[0,3,7,22,23,24],[0,1]⟩
def Bc (_a0:List TGroup) (_a1:List TWrite) (_a2:Int) (_a3:Int) (_a4:TChange) (a5:List TRow):Bool:=(↑a5.length:Int)==(0:Int)
def AR (_a0:List TGroup) (_a1:List TWrite) (_a2:Int) (_a3:Int) (_a4:TChange) (a5:List TRow):Int:=IntKind.i64.wrap ((↑a5.length:Int) - (1:Int))
def AB (a0:List TGroup) (a1:List TWrite) (a2:Int) (a3:Int) (a4:TChange) (a5:List TRow):List TRow:=bif(Bc a0 a1 a2 a3 a4 a5)||!(a5.getD (AR a0 a1 a2 a3 a4 a5).toNat (Ac TC.row)).1.toList==(a1.getD a3.toNat (Ac TC.write)).1.toList then a5++[Yh TC.row TC.cell (TRow.mk (Ahl a0 (a1.getD a3.toNat (Ac TC.write)).1).1 []) (Ahl a0 (a1.getD a3.toNat (Ac TC.write)).1).2] else a5
def Ax (a0:List TGroup) (a1:List TWrite) (a2:Int) (a3:Int) (a4:TChange) (a5:List TRow):Int:=IntKind.i64.wrap ((↑(AB a0 a1 a2 a3 a4 a5).length:Int) - (1:Int))
def Ix (a0:List TGroup) (a1:List TWrite) (a2:Int) (a3:Int) (a4:TChange) (a5:List TRow):List TRow:=(AB a0 a1 a2 a3 a4 a5).set (Ax a0 a1 a2 a3 a4 a5).toNat (Yh TC.row TC.cell ((AB a0 a1 a2 a3 a4 a5).getD (Ax a0 a1 a2 a3 a4 a5).toNat (Ac TC.row)) (((AB a0 a1 a2 a3 a4 a5).getD (Ax a0 a1 a2 a3 a4 a5).toNat (Ac TC.row)).2.set (a1.getD a3.toNat (Ac TC.write)).2.toNat (HM (a0.getD (a1.getD a3.toNat (Ac TC.write)).2.toNat (Ac TC.group)).2 a4.3 a4.4 (a1.getD a3.toNat (Ac TC.write)).3 (a1.getD a3.toNat (Ac TC.write)).4)))
def C2 (x:Bq):Bq:=(x.1,x.2.1,x.2.2.1,IntKind.i64.wrap (x.2.2.2.1+(1:Int)),x.2.2.2.2.1,Ix x.1 x.2.1 x.2.2.1 x.2.2.2.1 x.2.2.2.2.1 x.2.2.2.2.2)
def C1 (x:Bq):Cnd:=some (!!decide (x.2.2.2.1 <x.2.2.1))
def OE (x:Bq):List Prop:=[((!!decide (x.2.2.2.1 <x.2.2.1))=true→(0:Int)≤x.2.2.2.1∧x.2.2.2.1 <(↑x.2.1.length:Int)),((!!decide (x.2.2.2.1 <x.2.2.1))=true→(Bc x.1 x.2.1 x.2.2.1 x.2.2.2.1 x.2.2.2.2.1 x.2.2.2.2.2)=false→(0:Int)≤(AR x.1 x.2.1 x.2.2.1 x.2.2.2.1 x.2.2.2.2.1 x.2.2.2.2.2)∧(AR x.1 x.2.1 x.2.2.1 x.2.2.2.1 x.2.2.2.2.1 x.2.2.2.2.2) <(↑x.2.2.2.2.2.length:Int)),((!!decide (x.2.2.2.1 <x.2.2.1))=true→(Bc x.1 x.2.1 x.2.2.1 x.2.2.2.1 x.2.2.2.2.1 x.2.2.2.2.2)=false→(AR x.1 x.2.1 x.2.2.1 x.2.2.2.1 x.2.2.2.2.1 x.2.2.2.2.2).toNat <x.2.2.2.2.2.length),((!!decide (x.2.2.2.1 <x.2.2.1))=true→((Bc x.1 x.2.1 x.2.2.1 x.2.2.2.1 x.2.2.2.2.1 x.2.2.2.2.2)||!(x.2.2.2.2.2.getD (AR x.1 x.2.1 x.2.2.1 x.2.2.2.1 x.2.2.2.2.1 x.2.2.2.2.2).toNat (Ac TC.row)).1.toList==(x.2.1.getD x.2.2.2.1.toNat (Ac TC.write)).1.toList)=true→Ag x.1.length),((!!decide (x.2.2.2.1 <x.2.2.1))=true→((Bc x.1 x.2.1 x.2.2.1 x.2.2.2.1 x.2.2.2.2.1 x.2.2.2.2.2)||!(x.2.2.2.2.2.getD (AR x.1 x.2.1 x.2.2.1 x.2.2.2.1 x.2.2.2.2.1 x.2.2.2.2.2).toNat (Ac TC.row)).1.toList==(x.2.1.getD x.2.2.2.1.toNat (Ac TC.write)).1.toList)=true→Ag (x.2.2.2.2.2.length+(1:Nat))),((!!decide (x.2.2.2.1 <x.2.2.1))=true→(0:Int)≤(x.2.1.getD x.2.2.2.1.toNat (Ac TC.write)).2∧(x.2.1.getD x.2.2.2.1.toNat (Ac TC.write)).2 <(↑x.1.length:Int)),((!!decide (x.2.2.2.1 <x.2.2.1))=true→(0:Int)≤(Ax x.1 x.2.1 x.2.2.1 x.2.2.2.1 x.2.2.2.2.1 x.2.2.2.2.2)∧(Ax x.1 x.2.1 x.2.2.1 x.2.2.2.1 x.2.2.2.2.1 x.2.2.2.2.2) <(↑(AB x.1 x.2.1 x.2.2.1 x.2.2.2.1 x.2.2.2.2.1 x.2.2.2.2.2).length:Int)),((!!decide (x.2.2.2.1 <x.2.2.1))=true→(Ax x.1 x.2.1 x.2.2.1 x.2.2.2.1 x.2.2.2.2.1 x.2.2.2.2.2).toNat <(AB x.1 x.2.1 x.2.2.1 x.2.2.2.1 x.2.2.2.2.1 x.2.2.2.2.2).length),((!!decide (x.2.2.2.1 <x.2.2.1))=true→(Ax x.1 x.2.1 x.2.2.1 x.2.2.2.1 x.2.2.2.2.1 x.2.2.2.2.2).toNat <(AB x.1 x.2.1 x.2.2.1 x.2.2.2.1 x.2.2.2.2.1 x.2.2.2.2.2).length∧(0:Int)≤(x.2.1.getD x.2.2.2.1.toNat (Ac TC.write)).2∧(x.2.1.getD x.2.2.2.1.toNat (Ac TC.write)).2 <(↑((AB x.1 x.2.1 x.2.2.1 x.2.2.2.1 x.2.2.2.2.1 x.2.2.2.2.2).getD (Ax x.1 x.2.1 x.2.2.1 x.2.2.2.1 x.2.2.2.2.1 x.2.2.2.2.2).toNat (Ac TC.row)).2.length:Int)),((!!decide (x.2.2.2.1 <x.2.2.1))=true→(Ax x.1 x.2.1 x.2.2.1 x.2.2.2.1 x.2.2.2.2.1 x.2.2.2.2.2).toNat <(AB x.1 x.2.1 x.2.2.1 x.2.2.2.1 x.2.2.2.2.1 x.2.2.2.2.2).length),((!!decide (x.2.2.2.1 <x.2.2.1))=true→(x.2.1.getD x.2.2.2.1.toNat (Ac TC.write)).2.toNat <((AB x.1 x.2.1 x.2.2.1 x.2.2.2.1 x.2.2.2.2.1 x.2.2.2.2.2).getD (Ax x.1 x.2.1 x.2.2.1 x.2.2.2.1 x.2.2.2.2.1 x.2.2.2.2.2).toNat (Ac TC.row)).2.length)]
def Fe (x:Bq):List Prop:=[((!!decide (x.2.2.2.1 <x.2.2.1))=true→(0:Int)≤x.2.2.2.1∧x.2.2.2.1 <(↑x.2.1.length:Int)),((!!decide (x.2.2.2.1 <x.2.2.1))=true→(Bc x.1 x.2.1 x.2.2.1 x.2.2.2.1 x.2.2.2.2.1 x.2.2.2.2.2)=false→(0:Int)≤(AR x.1 x.2.1 x.2.2.1 x.2.2.2.1 x.2.2.2.2.1 x.2.2.2.2.2)∧(AR x.1 x.2.1 x.2.2.1 x.2.2.2.1 x.2.2.2.2.1 x.2.2.2.2.2) <(↑x.2.2.2.2.2.length:Int)),((!!decide (x.2.2.2.1 <x.2.2.1))=true→((Bc x.1 x.2.1 x.2.2.1 x.2.2.2.1 x.2.2.2.2.1 x.2.2.2.2.2)||!(x.2.2.2.2.2.getD (AR x.1 x.2.1 x.2.2.1 x.2.2.2.1 x.2.2.2.2.1 x.2.2.2.2.2).toNat (Ac TC.row)).1.toList==(x.2.1.getD x.2.2.2.1.toNat (Ac TC.write)).1.toList)=true→Ag x.1.length),((!!decide (x.2.2.2.1 <x.2.2.1))=true→((Bc x.1 x.2.1 x.2.2.1 x.2.2.2.1 x.2.2.2.2.1 x.2.2.2.2.2)||!(x.2.2.2.2.2.getD (AR x.1 x.2.1 x.2.2.1 x.2.2.2.1 x.2.2.2.2.1 x.2.2.2.2.2).toNat (Ac TC.row)).1.toList==(x.2.1.getD x.2.2.2.1.toNat (Ac TC.write)).1.toList)=true→Ag (x.2.2.2.2.2.length+(1:Nat))),((!!decide (x.2.2.2.1 <x.2.2.1))=true→(0:Int)≤(x.2.1.getD x.2.2.2.1.toNat (Ac TC.write)).2∧(x.2.1.getD x.2.2.2.1.toNat (Ac TC.write)).2 <(↑x.1.length:Int)),((!!decide (x.2.2.2.1 <x.2.2.1))=true→(0:Int)≤(Ax x.1 x.2.1 x.2.2.1 x.2.2.2.1 x.2.2.2.2.1 x.2.2.2.2.2)∧(Ax x.1 x.2.1 x.2.2.1 x.2.2.2.1 x.2.2.2.2.1 x.2.2.2.2.2) <(↑(AB x.1 x.2.1 x.2.2.1 x.2.2.2.1 x.2.2.2.2.1 x.2.2.2.2.2).length:Int)),((!!decide (x.2.2.2.1 <x.2.2.1))=true→(Ax x.1 x.2.1 x.2.2.1 x.2.2.2.1 x.2.2.2.2.1 x.2.2.2.2.2).toNat <(AB x.1 x.2.1 x.2.2.1 x.2.2.2.1 x.2.2.2.2.1 x.2.2.2.2.2).length∧(0:Int)≤(x.2.1.getD x.2.2.2.1.toNat (Ac TC.write)).2∧(x.2.1.getD x.2.2.2.1.toNat (Ac TC.write)).2 <(↑((AB x.1 x.2.1 x.2.2.1 x.2.2.2.1 x.2.2.2.2.1 x.2.2.2.2.2).getD (Ax x.1 x.2.1 x.2.2.1 x.2.2.2.1 x.2.2.2.2.1 x.2.2.2.2.2).toNat (Ac TC.row)).2.length:Int)),((!!decide (x.2.2.2.1 <x.2.2.1))=true→(x.2.1.getD x.2.2.2.1.toNat (Ac TC.write)).2.toNat <((AB x.1 x.2.1 x.2.2.1 x.2.2.2.1 x.2.2.2.2.1 x.2.2.2.2.2).getD (Ax x.1 x.2.1 x.2.2.1 x.2.2.2.1 x.2.2.2.2.1 x.2.2.2.2.2).toNat (Ac TC.row)).2.length)]
def NM (x:Bq):Bb:=[(some 0,some (!decide (x.2.2.2.1 <x.2.2.1)),⟨85,3,[(7,.dq 2)],[(2,some (.deep 71 .row x.2.2.2.2.2)),(0,some (.box 136 [.v (.int .i64 x.2.2.2.2.1.1),.v (.int .i64 x.2.2.2.2.1.2),.v (.int .i64 x.2.2.2.2.1.3.1),.v (.int .i64 x.2.2.2.2.1.3.2),.v (.int .i64 x.2.2.2.2.1.4.1),.v (.int .i64 x.2.2.2.2.1.4.2),.sl .write x.2.2.2.2.1.5]))]⟩)]
def Ee (x:Bq):Nat:=(x.2.2.1 - x.2.2.2.1).toNat
def Kr (x:Bq):Bq:=AZ C2 C1 (Ee x) x
theorem Afd (a0:List TGroup) (a1:List TWrite) (a2:Int) (a3:Int) (a4:TChange) (a5:List TRow):Bl (Au Cch L0) 9 (Af Try.prog 142 0) RZ (JC (a0,a1,a2,a3,a4,a5))=some (OE (a0,a1,a2,a3,a4,a5),NM (a0,a1,a2,a3,a4,a5),C1 (a0,a1,a2,a3,a4,a5),JC (C2 (a0,a1,a2,a3,a4,a5))):=by kernel_rfl
theorem Afe (a0:List TGroup) (a1:List TWrite) (a2:Int) (a3:Int) (a4:TChange) (a5:List TRow) (hp:∀p∈Fe (a0,a1,a2,a3,a4,a5),p):∀p∈OE (a0,a1,a2,a3,a4,a5),p:=by
 have n0:=N0 hp
 have n1:((!!decide (a3 <a2))=true→(Bc a0 a1 a2 a3 a4 a5)=false→(0:Int)≤(AR a0 a1 a2 a3 a4 a5)∧(AR a0 a1 a2 a3 a4 a5) <(↑a5.length:Int)):=N0 (N1 hp)
 have n2:((!!decide (a3 <a2))=true→(Bc a0 a1 a2 a3 a4 a5)=false→(AR a0 a1 a2 a3 a4 a5).toNat <a5.length):=by intro h0 h1;have g:=n1 h0 h1;omega
 have n3:=N0 (N1 (N1 hp))
 have n4:=N0 (N1 (N1 (N1 hp)))
 have n5:=N0 (N1 (N1 (N1 (N1 hp))))
 have n6:((!!decide (a3 <a2))=true→(0:Int)≤(Ax a0 a1 a2 a3 a4 a5)∧(Ax a0 a1 a2 a3 a4 a5) <(↑(AB a0 a1 a2 a3 a4 a5).length:Int)):=N0 (N1 (N1 (N1 (N1 (N1 hp)))))
 have n7:((!!decide (a3 <a2))=true→(Ax a0 a1 a2 a3 a4 a5).toNat <(AB a0 a1 a2 a3 a4 a5).length):=by intro h0;have g:=n6 h0;omega
 have n8:=N0 (N1 (N1 (N1 (N1 (N1 (N1 hp))))))
 have n10:=N0 (N1 (N1 (N1 (N1 (N1 (N1 (N1 hp)))))))
 exact(Aa n0 (Aa n1 (Aa n2 (Aa n3 (Aa n4 (Aa n5 (Aa n6 (Aa n7 (Aa n8 (Aa n7 (Aa n10 Ad)))))))))))
noncomputable def OF:=Hw (Au Cch L0) (Af Try.prog 142 0) RZ Aj0 KY Ee C2 C1 Fe NM
theorem Abs:∀s b ps outs,OF s=some (b,ps,outs)→Wf s ⟨ps,outs,none⟩∧Bh (Au C0 L0) b s ps outs:=
 A9 (T:=JC) Brn Ay (u:=9) (by kernel_rfl) (by decide) (fun⟨a0,a1,a2,a3,a4,a5⟩=>Afd a0 a1 a2 a3 a4 a5) (fun⟨a0,a1,a2,a3,a4,a5⟩=>Afe a0 a1 a2 a3 a4 a5) YY (fun _=>AH (n:=85) rfl) fun _ _=>rfl
noncomputable def RY:=Di 0 OF L0
theorem Abr:G1 RY:=AS Abs Ay
def GM (a0:List TGroup) (a1:TChange):Bool:=QV a0 a1 !=(0:Int)
def Q3 (a0:List TGroup) (a1:TChange):Int:=bif(GM a0 a1) then QV a0 a1 else(0:Int)
def Q4 (a0:List TGroup) (a1:TChange):List TRow:=bif(GM a0 a1) then[] else(Kr (a0,a1.5,(↑a1.5.length:Int),(0:Int),a1,[])).snd.snd.snd.snd.snd
def Q6 (a0:List TGroup) (a1:TChange):A:=.tup [.dq 0,.v (.int .i64 (Q3 a0 a1))]
def Q5 (a0:List TGroup) (a1:TChange):Objs:=[(0,some (.deep 71 .row (Q4 a0 a1)))]
def Av3 (a0:List TGroup) (a1:TChange):List Prop:=[(Ao a1.5.length),((!(GM a0 a1))=true→AD C2 C1 Fe (Ee (a0,a1.5,(↑a1.5.length:Int),(0:Int),a1,[])) (a0,a1.5,(↑a1.5.length:Int),(0:Int),a1,[]))]
theorem Av2 (a0:List TGroup) (a1:TChange):Er (Au Cch RY) 9 142 [.sl .group a0,Ae .change a1] 0 []=some (1,Q6 a0 a1,1,Q5 a0 a1,[(Ao a1.5.length),((!(GM a0 a1))=true→Af Try.prog (142:FuncId) (0:Nat)=Af Try.prog (142:FuncId) (0:Nat)),((!(GM a0 a1))=true→AD C2 C1 Fe (Ee (a0,a1.5,(↑a1.5.length:Int),(0:Int),a1,[])) (a0,a1.5,(↑a1.5.length:Int),(0:Int),a1,[]))]):=by kernel_rfl
theorem A2m (a0:List TGroup) (a1:TChange) (hp:∀p∈Av3 a0 a1,p):CallOk Try.prog 142 [.sl .group a0,Ae .change a1] 0 [] 1 (Q6 a0 a1) 1 (Q5 a0 a1):=by
 have n0:=N0 hp
 have n1:((!(GM a0 a1))=true→Af Try.prog (142:FuncId) (0:Nat)=Af Try.prog (142:FuncId) (0:Nat)):=by intros;rfl
 have n2:=N0 (N1 hp)
 exact Az (Ap Brn Abr) (Av2 a0 a1) (Aa n0 (Aa n1 (Aa n2 Ad)))
def VY (a0:List TGroup) (a1:TChange):A:=Bw6 a0 a1
def VX (a0:List TGroup) (a1:TChange):Objs:=Bw5 a0 a1
def UF (_a0:List TGroup) (a1:TChange):List Prop:=[Ao a1.writes.length]
theorem Bds {l:List TGroup} (i:Nat) {c:TChange} (o:List TRow) (ho:o.length≤9) (hp:AP l=0) (hw:UA l (wN c.writes i)=true):AB l c.writes (c.writes.length:Int) (i:Int) c o=KC l o (wN c.writes i).key:=by
 have e:=Bum hp hw
 unfold AB Bc AR
 rw[Be0 (by omega),tlb,Int.toNat_natCast,Bjg]
 unfold KC
 rw[←e]
 rfl
theorem Bs4 {l:List TGroup} {c:TChange} (i:Nat) (o:List TRow) (ho:o.length≤8) (hp:AP l=0) (hh:HP c=true) (hw:UA l (wN c.writes i)=true):Ix l c.writes (c.writes.length:Int) (i:Int) c o=Vu l c o (wN c.writes i):=by
 have:=(Ayj l o (wN c.writes i).key).2
 unfold Ix Ax
 rw[Bds i o (by omega) hp hw,Be0 (by omega),Int.toNat_natCast]
 have e:=(Byi hp hh hw).2
 unfold Vu Bj0
 rw[←e]
 rfl
theorem R1 {l:List TGroup} {c:TChange} (h:QV l c=0):
  AD C2 C1 Fe (Ee (l,c.writes,(c.writes.length:Int),0,c,[])) (l,c.writes,(c.writes.length:Int),0,c,[])∧Kr (l,c.writes,(c.writes.length:Int),0,c,[])=(l,c.writes,(c.writes.length:Int),(c.writes.length:Int),c,Ys l c c.writes.length):=by
 have h8:=Bxj h
 obtain⟨h1,k,hk,hx,_,hst,_⟩:=Ij (fun i=>(l,c.writes,(c.writes.length:Int),(i:Int),c,Ys l c i):Nat→Bq) c.writes.length (fun _=>false) C2 C1 Fe (Ee (l,c.writes,(c.writes.length:Int),0,c,[])) (l,c.writes,(c.writes.length:Int),0,c,[]) rfl (by show c.writes.length≤((c.writes.length:Int) - 0).toNat;omega)
  (fun i _ _=>by
   show(!!decide ((i:Int) <(c.writes.length:Int)))=_
   rw[nn,Mp,Bool.not_false,Bool.and_true])
  (fun i hi _=>by
   obtain⟨hp,hh,hw,_,_,hl,_⟩:=QX h hi
   show(l,c.writes,(c.writes.length:Int),IntKind.i64.wrap ((i:Int)+1),c,Ix l c.writes (c.writes.length:Int) (i:Int) c (Ys l c i))=(l,c.writes,(c.writes.length:Int),((i+1:Nat):Int),c,Ys l c (i+1))
   rw[Eu (by omega),Bs4 i _ (by omega) hp hh hw]
   rfl)
  (fun i hi _=>by
   have hin:(!!decide ((i:Int) <(c.writes.length:Int)))=true→i <c.writes.length:=fun h=>by rw[nn] at h;have:=of_decide_eq_true h;omega
   have hop:i <c.writes.length→_:=fun hi=>Bds i (Ys l c i) (by have:=(QX h hi).2.2.2.2.2.1;omega) (QX h hi).1 (QX h hi).2.2.1
   have key:i <c.writes.length→_:=fun hi=>Ayj l (Ys l c i) (wN c.writes i).key
   have hk0:i <c.writes.length→(Ax l c.writes (c.writes.length:Int) (i:Int) c (Ys l c i))=(((KC l (Ys l c i) (wN c.writes i).key).length - 1:Nat):Int):=fun hi=>by
    have:=key hi
    have:=(QX h hi).2.2.2.2.2.1
    unfold Ax
    rw[hop hi,i64_in (by omega)]
    omega
   have hcl:i <c.writes.length→(((KC l (Ys l c i) (wN c.writes i).key).getD ((KC l (Ys l c i) (wN c.writes i).key).length - 1) (Ac TC.row)).2.length=l.length):=fun hi=>(QX h hi).2.2.2.2.2.2 _ (getD_in _ _ _ (by have:=key hi;omega))
   have hgr:i <c.writes.length→_:=fun hi=>Ajm (QX h hi).2.2.1
   refine Aa (fun h=>⟨by show(0:Int)≤(i:Int);omega,by have:=hin h;show(i:Int) <(c.writes.length:Int);omega⟩) (Aa (fun h1 h2=>?_) (Aa (fun h1 _=>?_) (Aa (fun h1 _=>?_) (Aa (fun h1=>?_) (Aa (fun h1=>?_) (Aa (fun h1=>?_) (Aa (fun h1=>?_) Ad)))))))
   ·have h3:(((Ys l c i).length:Int)==(0:Int))=false:=h2
    rw[Bjg] at h3
    have h4:(Ys l c i).length≠0:=by simpa using h3
    have:=(QX h (hin h1)).2.2.2.2.2.1
    show(0:Int)≤IntKind.i64.wrap (((Ys l c i).length:Int) - 1)∧IntKind.i64.wrap (((Ys l c i).length:Int) - 1) <((Ys l c i).length:Int)
    rw[i64_in (by omega)]
    omega
   ·have:=(QX h (hin h1)).2.2.2.2.1
    show Ag l.length
    unfold Ag;omega
   ·have:=(QX h (hin h1)).2.2.2.2.2.1
    show Ag ((Ys l c i).length+1)
    unfold Ag;omega
   ·obtain⟨_,_,g0,g1,_⟩:=hgr (hin h1)
    show(0:Int)≤(c.writes.getD ((i:Int)).toNat (Ac TC.write)).group∧(c.writes.getD ((i:Int)).toNat (Ac TC.write)).group <(l.length:Int)
    rw[Int.toNat_natCast]
    exact⟨g0,g1⟩
   ·have:=key (hin h1)
    show(0:Int)≤Ax l c.writes (c.writes.length:Int) (i:Int) c (Ys l c i)∧Ax l c.writes (c.writes.length:Int) (i:Int) c (Ys l c i) <((AB l c.writes (c.writes.length:Int) (i:Int) c (Ys l c i)).length:Int)
    rw[hk0 (hin h1),hop (hin h1)]
    omega
   ·have:=key (hin h1)
    obtain⟨_,_,g0,g1,_⟩:=hgr (hin h1)
    show(Ax l c.writes (c.writes.length:Int) (i:Int) c (Ys l c i)).toNat <(AB l c.writes (c.writes.length:Int) (i:Int) c (Ys l c i)).length∧(0:Int)≤(c.writes.getD ((i:Int)).toNat (Ac TC.write)).group∧(c.writes.getD ((i:Int)).toNat (Ac TC.write)).group <(((AB l c.writes (c.writes.length:Int) (i:Int) c (Ys l c i)).getD (Ax l c.writes (c.writes.length:Int) (i:Int) c (Ys l c i)).toNat (Ac TC.row)).2.length:Int)
    rw[hk0 (hin h1),hop (hin h1),Int.toNat_natCast,Int.toNat_natCast,hcl (hin h1)]
    exact⟨by omega,g0,g1⟩
   ·obtain⟨_,_,g0,g1,_⟩:=hgr (hin h1)
    show(c.writes.getD ((i:Int)).toNat (Ac TC.write)).group.toNat <((AB l c.writes (c.writes.length:Int) (i:Int) c (Ys l c i)).getD (Ax l c.writes (c.writes.length:Int) (i:Int) c (Ys l c i)).toNat (Ac TC.row)).2.length
    rw[hk0 (hin h1),hop (hin h1),Int.toNat_natCast,Int.toNat_natCast,hcl (hin h1)]
    have g2:(c.writes.getD i (Ac TC.write)).group <(l.length:Int):=g1
    have g3:0≤(c.writes.getD i (Ac TC.write)).group:=g0
    omega)
 have hkn:k=c.writes.length:=by
  rcases Nat.lt_or_ge k c.writes.length with h|h
  ·exact absurd (hst h) (by decide)
  ·omega
 subst hkn
 exact⟨h1,hx⟩
theorem Av1 (a0:List TGroup) (a1:TChange) (hp:∀p∈UF a0 a1,p):CallOk Try.prog 142 [.sl .group a0,Ae .change a1] 0 [] 1 (VY a0 a1) 1 (VX a0 a1):=by
 have hb:Ao a1.writes.length:=hp _ (List.mem_cons_self ..)
 have h:=A2m a0 a1 (Aa hb (Aa (fun h=>(R1 (show QV a0 a1=0 by
  have h':(!(QV a0 a1 !=0))=true:=h
  simpa using h')).1) Ad))
 have e:Q3 a0 a1=QV a0 a1∧Q4 a0 a1=Yt a0 a1:=by
  unfold Q3 Q4 GM Yt
  cases hc:QV a0 a1 !=0 with
  |true=>
   have:(QV a0 a1==0)=false:=by simpa using hc
   rw[this]
   exact⟨rfl,rfl⟩
  |false=>
   have h0:QV a0 a1=0:=by simpa using hc
   have:(QV a0 a1==0)=true:=by simpa using h0
   have q:Kr (a0,a1.5,(a1.5.length:Int),0,a1,[])=(a0,a1.writes,(a1.writes.length:Int),(a1.writes.length:Int),a1,Ys a0 a1 a1.writes.length):=(R1 h0).2
   rw[this,q,cond_false]
   exact⟨h0.symm,rfl⟩
 unfold Q6 Q5 at h
 rw[e.1,e.2] at h
 exact h
def Zq:List A→Nat→Objs→Option AU:=A5 [.l .group,.t .change] 1 VY VX UF
theorem Arr:Ev Try.prog 142 Zq:=As (ks:=[.l .group,.t .change]) Av1
end Go.Proofs.Yteebobbhhgmeiaa
namespace Go.Proofs.Yteebobbhhgmeiaa
open Go.RowKit
abbrev CQ:Type:=(List TGroup)×(List TRow)×Int
def MF (x:CQ):St:=⟨50,0,[(0,.sl .group x.1),(1,.sl .row x.2.1),(6,.v (.int .i64 x.2.2))],[]⟩
def PC:St→Option CQ
 |⟨50,0,[(0,.sl .group z0),(1,.sl .row z1),(6,.v (.int .i64 z2))],[]⟩=>some (z0,z1,z2)
 |_=>none
theorem Am6:∀s x,PC s=some x→s=MF x:=fun s x h=>by
 unfold PC at h
 split at h
 ·cases h;rfl
 ·cases h
def Aar:CU:=⟨0,0,[0,1,6],[],[],[],[4,5],[]⟩
def A39:C9:=⟨[],[],[0,1,6],[]⟩
def JR (_a0:List TGroup) (_a1:List TRow) (a2:Int):Int:=IntKind.i64.wrap (a2 - (1:Int))
def DL (a0:List TGroup) (a1:List TRow) (a2:Int):Bool:=Ai a0 (a1.getD a2.toNat (Ac TC.row)) !=(0:Int)
def CX (_a0:List TGroup) (a1:List TRow) (a2:Int):Bool:=!!decide (a2 <(↑a1.length:Int))
def DK (a0:List TGroup) (a1:List TRow) (a2:Int):Bool:=(CX a0 a1 a2)&&((DL a0 a1 a2)||(G2 (a1.getD a2.toNat (Ac TC.row))||decide (a2 >(0:Int))&&!Op.bytesLess (a1.getD (JR a0 a1 a2).toNat (Ac TC.row)).1.toList (a1.getD a2.toNat (Ac TC.row)).1.toList))
def Aty (a0:List TGroup) (a1:List TRow) (a2:Int):Bool:=(CX a0 a1 a2)&&!(DK a0 a1 a2)
def Ib (a0:List TGroup) (a1:List TRow) (a2:Int):Int:=bif(DL a0 a1 a2) then Ai a0 (a1.getD a2.toNat (Ac TC.row)) else(100:Int)
def Am5 (a0:List TGroup) (a1:List TRow) (a2:Int):Int:=Ai a0 (a1.getD a2.toNat (Ac TC.row))
def GB (x:CQ):CQ:=(x.1,x.2.1,IntKind.i64.wrap (x.2.2+(1:Int)))
def GA (x:CQ):Cnd:=some (Aty x.1 x.2.1 x.2.2)
def NB (x:CQ):List Prop:=[((CX x.1 x.2.1 x.2.2)=true→(0:Int)≤x.2.2∧x.2.2 <(↑x.2.1.length:Int)),((CX x.1 x.2.1 x.2.2)=true→∀(g:TGroup),g∈x.1→Ao g.1.size),((CX x.1 x.2.1 x.2.2)=true→(!(DL x.1 x.2.1 x.2.2))=true→(0:Int)≤x.2.2∧x.2.2 <(↑x.2.1.length:Int)),((CX x.1 x.2.1 x.2.2)=true→(!(DL x.1 x.2.1 x.2.2))=true→Ag (x.2.1.getD x.2.2.toNat (Ac TC.row)).2.length),((CX x.1 x.2.1 x.2.2)=true→(!(DL x.1 x.2.1 x.2.2))=true→decide (x.2.2 >(0:Int))=true→G2 (x.2.1.getD x.2.2.toNat (Ac TC.row))=false→(0:Int)≤(JR x.1 x.2.1 x.2.2)∧(JR x.1 x.2.1 x.2.2) <(↑x.2.1.length:Int)),((CX x.1 x.2.1 x.2.2)=true→(!(DL x.1 x.2.1 x.2.2))=true→decide (x.2.2 >(0:Int))=true→G2 (x.2.1.getD x.2.2.toNat (Ac TC.row))=false→(0:Int)≤x.2.2∧x.2.2 <(↑x.2.1.length:Int))]
abbrev Jt:CQ→List Prop:=NB
def Tc (x:CQ):Bb:=[(some 0,some (!decide (x.2.2 <(↑x.2.1.length:Int))),⟨50,0,[(4,.dead),(5,.dead)],[]⟩),(none,some ((DK x.1 x.2.1 x.2.2)),⟨50,0,[(4,.v (.int .i64 (Ib x.1 x.2.1 x.2.2))),(5,.v (.int .i64 (Am5 x.1 x.2.1 x.2.2)))],[]⟩)]
def Ic (x:CQ):Nat:=((↑x.2.1.length:Int) - x.2.2).toNat
def Km (x:CQ):CQ:=AZ GB GA (Ic x) x
theorem A0w (a0:List TGroup) (a1:List TRow) (a2:Int):Bl (Au Cn L0) 9 (Af Try.prog 93 0) Aar (MF (a0,a1,a2))=some (NB (a0,a1,a2),Tc (a0,a1,a2),GA (a0,a1,a2),MF (GB (a0,a1,a2))):=by kernel_rfl
theorem A0x (a0:List TGroup) (a1:List TRow) (a2:Int) (hp:∀p∈Jt (a0,a1,a2),p):∀p∈NB (a0,a1,a2),p:=hp
noncomputable def Vn:=Hw (Au Cn L0) (Af Try.prog 93 0) Aar A39 PC Ic GB GA Jt Tc
theorem Atz:∀s b ps outs,Vn s=some (b,ps,outs)→Wf s ⟨ps,outs,none⟩∧Bh (Au C0 L0) b s ps outs:=
 A9 (T:=MF) Bmq Ay (u:=9) (by kernel_rfl) (by decide) (fun⟨a0,a1,a2⟩=>A0w a0 a1 a2) (fun⟨a0,a1,a2⟩=>A0x a0 a1 a2) Am6 (fun _=>AH (n:=50) rfl) fun _ _=>rfl
noncomputable def Aaq:=Di 0 Vn L0
theorem Atx:G1 Aaq:=AS Atz Ay
def M0 (a0:List TGroup) (_a1:List TRow):Bool:=AP a0 !=(0:Int)
def X5 (a0:List TGroup) (a1:List TRow):List TGroup:=(Km (a0,a1,(0:Int))).fst
def X4 (a0:List TGroup) (a1:List TRow):Int:=(Km (a0,a1,(0:Int))).snd.snd
def X3 (a0:List TGroup) (a1:List TRow):List TRow:=(Km (a0,a1,(0:Int))).snd.fst
def Ad1 (a0:List TGroup) (a1:List TRow):Int:=bif(M0 a0 a1) then AP a0 else bif DK (X5 a0 a1) (X3 a0 a1) (X4 a0 a1) then Ib (X5 a0 a1) (X3 a0 a1) (X4 a0 a1) else(0:Int)
def Ad2 (a0:List TGroup) (a1:List TRow):A:=.v (.int .i64 (Ad1 a0 a1))
def A0y (_a0:List TGroup) (_a1:List TRow):Objs:=[]
def Aqp (a0:List TGroup) (a1:List TRow):List Prop:=[(∀(g:TGroup),g∈a0→Ao g.1.size),((!(M0 a0 a1))=true→AD GB GA Jt (Ic (a0,a1,(0:Int))) (a0,a1,(0:Int)))]
theorem Bg1 (a0:List TGroup) (a1:List TRow):Er (Au Cn Aaq) 9 93 [.sl .group a0,Ae .rows a1] 0 []=some (1,Ad2 a0 a1,0,A0y a0 a1,[(∀(g:TGroup),g∈a0→Ao g.1.size),((!(M0 a0 a1))=true→Af Try.prog (93:FuncId) (0:Nat)=Af Try.prog (93:FuncId) (0:Nat)),((!(M0 a0 a1))=true→AD GB GA Jt (Ic (a0,a1,(0:Int))) (a0,a1,(0:Int)))]):=by kernel_rfl
theorem Bk0 (a0:List TGroup) (a1:List TRow) (hp:∀p∈Aqp a0 a1,p):CallOk Try.prog 93 [.sl .group a0,Ae .rows a1] 0 [] 1 (Ad2 a0 a1) 0 (A0y a0 a1):=by
 have n0:=N0 hp
 have n1:((!(M0 a0 a1))=true→Af Try.prog (93:FuncId) (0:Nat)=Af Try.prog (93:FuncId) (0:Nat)):=by intros;rfl
 have n2:=N0 (N1 hp)
 exact Az (Ap Bmq Atx) (Bg1 a0 a1) (Aa n0 (Aa n1 (Aa n2 Ad)))
def Aqq (a0:List TGroup) (a1:List TRow):A:=.v (.int .i64 (CZ a0 a1))
def Aqo (_a0:List TGroup) (_a1:List TRow):Objs:=[]
def Aiq (a0:List TGroup) (a1:List TRow):List Prop:=[Ao a1.length,∀g∈a0,Ao g.1.size]
theorem Bx7 (a b:ByteArray):leS a b=!Jy b a:=by
 unfold leS
 cases h:Jy a b with
 |true=>
  cases g:Jy b a with
  |true=>exact absurd rfl (Ak6 (L7 h g))
  |false=>rfl
 | false=>
  rw[Bool.false_or]
  cases g:a==b with
  |true=>
   obtain rfl:=eq_of_beq g
   rw[h]
   rfl
  |false=>
   rw[YF h (by simpa using g)]
   rfl
theorem Bx6 {a:ByteArray} (h:a.size≠0):leS a ⟨#[]⟩=false:=by
 unfold leS
 rw[Bool.or_eq_false_iff]
 constructor
 ·show Op.bytesLess a.toList (ByteArray.mk #[]).toList=false
  rw[show(ByteArray.mk #[]).toList=[] by decide+kernel]
  cases a.toList<;>rfl
 ·refine beq_eq_false_iff_ne.2 fun e=>h ?_
  rw[e]
  rfl
theorem Boc (l:List TGroup) (rows:List TRow) (i:Nat) (hi:i≤9223372036854775807):DK l rows (i:Int)=(decide (i <rows.length)&&Vy l rows i !=0):=by
 have e:DK l rows (i:Int)=(decide (i <rows.length)&&(Ai l (Bn rows i) !=0||(G2 (Bn rows i)||decide ((i:Int) >0)&&!Jy (Bn rows (IntKind.i64.wrap ((i:Int) - 1)).toNat).key (Bn rows i).key))):=by
  unfold DK CX DL JR
  rw[nn,Mp,Int.toNat_natCast]
  rfl
 rw[e,Auo]
 cases h:Ai l (Bn rows i) !=0 with
 |true=>rfl
 | false=>
  have h0:Ai l (Bn rows i)=0:=by simpa using h
  rw[Bool.false_or,Bool.false_or]
  cases i with
  |zero=>
   have h1:leS (Bn rows 0).key (OU rows 0)=false:=Bx6 (AM h0).2.2.1
   rw[h1]
   rfl
  |succ j=>
   have h1:(IntKind.i64.wrap (((j+1:Nat):Int) - 1)).toNat=j:=by rw[i64_in (by omega)];omega
   have h2:decide (((j+1:Nat):Int) >0)=true:=decide_eq_true (by omega)
   rw[h1,h2,Bx7,Bool.true_and]
   rfl
theorem Aqn (l:List TGroup) (rows:List TRow) (hb:Ao rows.length) (hw:∀g∈l,Ao g.1.size):(∀p∈Aqp l rows,p)∧Ad1 l rows=CZ l rows:=by
 unfold Ao at hb
 obtain⟨h1,k,hk,hx,hs,hst,_⟩:=Ij (fun i=>((l,rows,(i:Int)):CQ)) rows.length (fun i=>Vy l rows i !=0) GB GA Jt (Ic (l,rows,0)) (l,rows,0) rfl (by show rows.length≤((rows.length:Int) - 0).toNat;omega)
  (fun i hi _=>by
   show((!!decide ((i:Int) <(rows.length:Int)))&&!DK l rows (i:Int))=_
   rw[Boc l rows i (by omega),nn,Mp]
   cases decide (i <rows.length)<;>rfl)
  (fun i hi _=>by
   show(l,rows,IntKind.i64.wrap ((i:Int)+1))=(l,rows,((i+1:Nat):Int))
   rw[Eu (by omega)])
  (fun i hi _=>by
   have hin:(!!decide ((i:Int) <(rows.length:Int)))=true→(i:Int) <(rows.length:Int):=fun h=>by rw[nn] at h;exact of_decide_eq_true h
   refine Aa (fun h=>⟨by show(0:Int)≤(i:Int);omega,hin h⟩) (Aa (fun _=>hw) (Aa (fun h _=>⟨by show(0:Int)≤(i:Int);omega,hin h⟩) (Aa (fun _ h2=>?_) (Aa (fun h _ h3 _=>?_) (Aa (fun h _ _ _=>⟨by show(0:Int)≤(i:Int);omega,hin h⟩) Ad)))))
   ·have h3:Ai l (rows.getD ((i:Int)).toNat (Ac TC.row))=0:=by
     have h4:(!(Ai l (rows.getD ((i:Int)).toNat (Ac TC.row)) !=0))=true:=h2
     simpa using h4
    obtain⟨g1,g2,_⟩:=AM h3
    have:=(G0 g1).2
    show Ag (rows.getD ((i:Int)).toNat (Ac TC.row)).cells.length
    unfold Ag
    omega
   ·have h4:(i:Int) >0:=of_decide_eq_true h3
    have h5:=hin h
    show(0:Int)≤IntKind.i64.wrap ((i:Int) - 1)∧IntKind.i64.wrap ((i:Int) - 1) <(rows.length:Int)
    rw[i64_in (by omega)]
    omega)
 have hr:Km (l,rows,0)=(l,rows,(k:Int)):=hx
 refine⟨Aa hw (Aa (fun _=>h1) Ad),?_⟩
 unfold Ad1 CZ
 show(bif AP l !=0 then AP l else _)=_
 congr 1
 unfold X5 X4 X3
 rw[hr]
 show(bif DK l rows (k:Int) then Ib l rows (k:Int) else 0)=_
 have hk9:k≤9223372036854775807:=Nat.le_trans hk (by omega)
 rw[Boc l rows k hk9]
 have h0:F5 l rows k=0:=(Af1 l rows k).2 fun i hi=>by simpa using hs i hi
 rcases Nat.lt_or_ge k rows.length with h|h
 ·have he:=hst h
  rw[decide_eq_true h,he]
  have e1:F5 l rows (k+1)=Vy l rows k:=by
   show(bif F5 l rows k !=0 then F5 l rows k else Vy l rows k)=_
   rw[h0];rfl
  have hne:F5 l rows (k+1)≠0:=by rw[e1];simpa using he
  rw[Wc hne rows.length h,e1]
  show Ib l rows (k:Int)=_
  unfold Ib DL
  rw[Int.toNat_natCast]
  rw[Auo] at he
  unfold Vy
  show(bif Ai l (Bn rows k) !=0 then Ai l (Bn rows k) else 100)=_
  cases hg:Ai l (Bn rows k) !=0 with
  |true=>rfl
  |false=>
   rw[hg,Bool.false_or] at he
   rw[he]
   rfl
 ·obtain rfl:k=rows.length:=by omega
  rw[decide_eq_false (Nat.lt_irrefl _),h0]
  rfl
theorem Bg0 (a0:List TGroup) (a1:List TRow) (hp:∀p∈Aiq a0 a1,p):CallOk Try.prog 93 [.sl .group a0,Ae .rows a1] 0 [] 1 (Aqq a0 a1) 0 (Aqo a0 a1):=by
 have hb:Ao a1.length:=hp _ (List.mem_cons_self ..)
 have hw:∀g∈a0,Ao g.1.size:=hp _ (List.mem_cons_of_mem _ (List.mem_cons_self ..))
 have h:=Bk0 a0 a1 (Aqn a0 a1 hb hw).1
 unfold Ad2 at h
 rw[(Aqn a0 a1 hb hw).2] at h
 exact h
def A0z:List A→Nat→Objs→Option AU:=A5 [.l .group,.t .rows] 0 Aqq Aqo Aiq
theorem Bau:Ev Try.prog 93 A0z:=As (ks:=[.l .group,.t .rows]) Bg0
end Go.Proofs.Yteebobbhhgmeiaa
namespace Go.Proofs.Yteebobbhhgmeiaa
open Go.RowKit
def PR (cs:List TChange) (i:Nat):TChange:=cs.getD i (Ac TC.change)
def stE (l:List TGroup) (cs:List TChange):Int:=bif AP l !=0 then AP l else bif KU cs.length (fun i=>QV l (PR cs i)==0) then 0 else 120
def stN (l:List TGroup) (cs:List TChange):Nat→List TRow
 |0=>[]
 |i+1=>mrg ((stN l cs i).length+(nb (Yt l (PR cs i))).length) (stN l cs i) (nb (Yt l (PR cs i)))
def stR (l:List TGroup) (cs:List TChange):List TRow:=bif stE l cs==0 then stN l cs cs.length else[]
theorem Buk (l:List TGroup) (c:TChange):Stt l (nb (Yt l c)):=B2j (Avt l c).1 (Avt l c).2
theorem Bom (l:List TGroup) (cs:List TChange):∀i,Stt l (stN l cs i)
 |0=>By8 l
 |i+1=>(Bom l cs i).mrg _ (Buk l _)
theorem A7y (l:List TGroup) (c:TChange):(Yt l c).length≤8:=by
 unfold Yt
 cases h:QV l c==0 with
 |false=>exact Nat.zero_le _
 |true=>
  have h0:QV l c=0:=by simpa using h
  obtain⟨_,_,hn,_⟩:=Bdn.1 h0
  unfold Ahm at hn
  rw[Bool.and_eq_true,decide_eq_true_eq,decide_eq_true_eq] at hn
  exact Nat.le_trans (A7x l c _) hn.2
theorem Bjm (rows:List TRow):(nb rows).length≤rows.length:=List.length_filter_le _ _
theorem Bol (l:List TGroup) (cs:List TChange):∀i,(stN l cs i).length≤8*i
 |0=>Nat.le_refl _
 |i+1=>by
  have h1:=Bol l cs i
  have h2:=YI ((stN l cs i).length+(nb (Yt l (PR cs i))).length) (stN l cs i) (nb (Yt l (PR cs i)))
  have h3:=Bjm (Yt l (PR cs i))
  have h4:=A7y l (PR cs i)
  show(mrg _ _ _).length≤_
  omega
def mgE (l:List TGroup) (a b:List TRow):Int:=bif CZ l a !=0 then CZ l a else CZ l b
def mgR (l:List TGroup) (a b:List TRow):List TRow:=bif mgE l a b==0 then mrg (a.length+b.length) a b else[]
theorem Akg {l:List TGroup} {a:List TRow} (h:CZ l a=0):AP l=0∧Stt l a:=⟨(Aup.1 h).1,(By7 (Aup.1 h).1).1 h⟩
theorem B3z {l:List TGroup} {a b:List TRow}:mgE l a b=0↔CZ l a=0∧CZ l b=0:=by
 unfold mgE
 cases h:CZ l a !=0 with
 |true=>
  rw[cond_true]
  have h':CZ l a≠0:=by simpa using h
  exact⟨fun e=>absurd e h',fun e=>absurd e.1 h'⟩
 |false=>
  rw[cond_false]
  have h':CZ l a=0:=by simpa using h
  exact⟨fun e=>⟨h',e⟩,fun e=>e.2⟩
end Go.Proofs.Yteebobbhhgmeiaa
namespace Go.Proofs.Yteebobbhhgmeiaa
open Go.RowKit
noncomputable def Bz6:=AQ 142 Zq Cmg
theorem Bse:Cp Try.prog Bz6:=Ak Arr B1l
noncomputable def Au5:=AQ 84 TX Bz6
theorem Aet:Cp Try.prog Au5:=Ak WN Bse
abbrev Bs:Type:=(List TRow)×Int×Int×(List TRow)
def JJ (x:Bs):St:=⟨55,6,[(11,.sq 5),(35,.sl .row x.1),(36,.v (.int .i64 x.2.1)),(37,.v (.int .i64 x.2.2.1))],[(5,some (.arr 71 2 (.ty .row x.2.2.2)))]⟩
def Lr:St→Option Bs
 |⟨55,6,[(11,.sq 5),(35,.sl .row z0),(36,.v (.int .i64 z1)),(37,.v (.int .i64 z2))],[(5,some (.arr 71 2 (.ty .row z3)))]⟩=>some (z0,z1,z2,z3)
 |_=>none
theorem Y4:∀s x,Lr s=some x→s=JJ x:=fun s x h=>by
 unfold Lr at h
 split at h
 ·cases h;rfl
 ·cases h
def SP:CU:=⟨5,6,[11,35,36,37],[],[(9,5)],[9],[11],[5]⟩
def Alf:C9:=⟨[.frz 3,.nil 11 71 .row],[(4,5)],[11,35,36,37],[4]⟩
def Kx (a0:List TRow) (_a1:Int) (a2:Int) (a3:List TRow):List TRow:=bif !G2 (a0.getD a2.toNat (Ac TC.row)) then a3++[a0.getD a2.toNat (Ac TC.row)] else a3
def Cv (x:Bs):Bs:=(x.1,x.2.1,IntKind.i64.wrap (x.2.2.1+(1:Int)),Kx x.1 x.2.1 x.2.2.1 x.2.2.2)
def Cu (x:Bs):Cnd:=some (!!decide (x.2.2.1 <x.2.1))
def Ky (x:Bs):List Prop:=[((!!decide (x.2.2.1 <x.2.1))=true→(0:Int)≤x.2.2.1∧x.2.2.1 <(↑x.1.length:Int)),((!!decide (x.2.2.1 <x.2.1))=true→Ag (x.1.getD x.2.2.1.toNat (Ac TC.row)).2.length),((!!decide (x.2.2.1 <x.2.1))=true→(!G2 (x.1.getD x.2.2.1.toNat (Ac TC.row)))=true→Ag (x.2.2.2.length+(1:Nat)))]
abbrev D3:Bs→List Prop:=Ky
def NP (x:Bs):Bb:=[(some 2,some (!decide (x.2.2.1 <x.2.1)),⟨55,6,[(11,.sq 5)],[(5,some (.arr 71 2 (.ty .row x.2.2.2)))]⟩)]
def C5 (x:Bs):Nat:=(x.2.1 - x.2.2.1).toNat
def Iy (x:Bs):Bs:=AZ Cv Cu (C5 x) x
theorem Aha (a0:List TRow) (a1:Int) (a2:Int) (a3:List TRow):Bl (Au Au5 L0) 9 (Af Try.prog 82 2) SP (JJ (a0,a1,a2,a3))=some (Ky (a0,a1,a2,a3),NP (a0,a1,a2,a3),Cu (a0,a1,a2,a3),JJ (Cv (a0,a1,a2,a3))):=by kernel_rfl
theorem Ahb (a0:List TRow) (a1:Int) (a2:Int) (a3:List TRow) (hp:∀p∈D3 (a0,a1,a2,a3),p):∀p∈Ky (a0,a1,a2,a3),p:=hp
noncomputable def O0:=Hw (Au Au5 L0) (Af Try.prog 82 2) SP Alf Lr C5 Cv Cu D3 NP
theorem Ace:∀s b ps outs,O0 s=some (b,ps,outs)→Wf s ⟨ps,outs,none⟩∧Bh (Au C0 L0) b s ps outs:=
 A9 (T:=JJ) Aet Ay (u:=9) (by kernel_rfl) (by decide) (fun⟨a0,a1,a2,a3⟩=>Aha a0 a1 a2 a3) (fun⟨a0,a1,a2,a3⟩=>Ahb a0 a1 a2 a3) Y4 (fun _=>AH (n:=55) rfl) fun _ _=>rfl
noncomputable def JI:=Di 2 O0 L0
theorem OZ:G1 JI:=AS Ace Ay
abbrev Br:Type:=(List TGroup)×(List TChange)×Int×Int×(List TRow)
def JH (x:Br):St:=⟨55,2,[(0,.sl .group x.1),(4,.dq 1),(19,.sl .change x.2.1),(20,.v (.int .i64 x.2.2.1)),(21,.v (.int .i64 x.2.2.2.1))],[(1,some (.deep 71 .row x.2.2.2.2))]⟩
def Lq:St→Option Br
 |⟨55,2,[(0,.sl .group z0),(4,.dq 1),(19,.sl .change z1),(20,.v (.int .i64 z2)),(21,.v (.int .i64 z3))],[(1,some (.deep 71 .row z4))]⟩=>some (z0,z1,z2,z3,z4)
 |_=>none
theorem Y3:∀s x,Lq s=some x→s=JH x:=fun s x h=>by
 unfold Lq at h
 split at h
 ·cases h;rfl
 ·cases h
def SO:CU:=⟨1,2,[0,4,19,20,21],[],[(6,1)],[6],[4,5],[1]⟩
def Ale:C9:=⟨[.nilD 4 71 .row],[(0,1)],[0,4,19,20,21],[0]⟩
def Ct (a0:List TGroup) (a1:List TChange) (a2:Int) (a3:Int) (_a4:List TRow):Bool:=!!decide (a3 <a2)&&QV a0 (a1.getD a3.toNat (Ac TC.change)) !=(0:Int)
def Bm (a0:List TGroup) (a1:List TChange) (_a2:Int) (a3:Int) (_a4:List TRow):List TRow:=(Iy (Yt a0 (a1.getD a3.toNat (Ac TC.change)),(↑(Yt a0 (a1.getD a3.toNat (Ac TC.change))).length:Int),(0:Int),[])).snd.snd.snd
def Kw (a0:List TGroup) (a1:List TChange) (a2:Int) (a3:Int) (a4:List TRow):List TRow:=mrg (a4.length+(Bm a0 a1 a2 a3 a4).length) a4 (Bm a0 a1 a2 a3 a4)
def Acc (a0:List TGroup) (a1:List TChange) (a2:Int) (a3:Int) (a4:List TRow):Bool:=!!decide (a3 <a2)&&!(Ct a0 a1 a2 a3 a4)
def C4 (x:Br):Br:=(x.1,x.2.1,x.2.2.1,IntKind.i64.wrap (x.2.2.2.1+(1:Int)),Kw x.1 x.2.1 x.2.2.1 x.2.2.2.1 x.2.2.2.2)
def C3 (x:Br):Cnd:=some (Acc x.1 x.2.1 x.2.2.1 x.2.2.2.1 x.2.2.2.2)
def OX (x:Br):List Prop:=[((!!decide (x.2.2.2.1 <x.2.2.1))=true→(0:Int)≤x.2.2.2.1∧x.2.2.2.1 <(↑x.2.1.length:Int)),((!!decide (x.2.2.2.1 <x.2.2.1))=true→Ao (x.2.1.getD x.2.2.2.1.toNat (Ac TC.change)).5.length),((!!decide (x.2.2.2.1 <x.2.2.1))=true→(!QV x.1 (x.2.1.getD x.2.2.2.1.toNat (Ac TC.change)) !=(0:Int))=true→Af Try.prog (82:FuncId) (2:Nat)=Af Try.prog (82:FuncId) (2:Nat)),((!!decide (x.2.2.2.1 <x.2.2.1))=true→(!QV x.1 (x.2.1.getD x.2.2.2.1.toNat (Ac TC.change)) !=(0:Int))=true→AD Cv Cu D3 (C5 (Yt x.1 (x.2.1.getD x.2.2.2.1.toNat (Ac TC.change)),(↑(Yt x.1 (x.2.1.getD x.2.2.2.1.toNat (Ac TC.change))).length:Int),(0:Int),[])) (Yt x.1 (x.2.1.getD x.2.2.2.1.toNat (Ac TC.change)),(↑(Yt x.1 (x.2.1.getD x.2.2.2.1.toNat (Ac TC.change))).length:Int),(0:Int),[])),((!!decide (x.2.2.2.1 <x.2.2.1))=true→(!QV x.1 (x.2.1.getD x.2.2.2.1.toNat (Ac TC.change)) !=(0:Int))=true→Stt x.1 x.2.2.2.2∧Stt x.1 (Bm x.1 x.2.1 x.2.2.1 x.2.2.2.1 x.2.2.2.2)∧x.2.2.2.2.length+(Bm x.1 x.2.1 x.2.2.1 x.2.2.2.1 x.2.2.2.2).length≤(400000:Nat))]
def Fo (x:Br):List Prop:=[((!!decide (x.2.2.2.1 <x.2.2.1))=true→(0:Int)≤x.2.2.2.1∧x.2.2.2.1 <(↑x.2.1.length:Int)),((!!decide (x.2.2.2.1 <x.2.2.1))=true→Ao (x.2.1.getD x.2.2.2.1.toNat (Ac TC.change)).5.length),((!!decide (x.2.2.2.1 <x.2.2.1))=true→(!QV x.1 (x.2.1.getD x.2.2.2.1.toNat (Ac TC.change)) !=(0:Int))=true→AD Cv Cu D3 (C5 (Yt x.1 (x.2.1.getD x.2.2.2.1.toNat (Ac TC.change)),(↑(Yt x.1 (x.2.1.getD x.2.2.2.1.toNat (Ac TC.change))).length:Int),(0:Int),[])) (Yt x.1 (x.2.1.getD x.2.2.2.1.toNat (Ac TC.change)),(↑(Yt x.1 (x.2.1.getD x.2.2.2.1.toNat (Ac TC.change))).length:Int),(0:Int),[])),((!!decide (x.2.2.2.1 <x.2.2.1))=true→(!QV x.1 (x.2.1.getD x.2.2.2.1.toNat (Ac TC.change)) !=(0:Int))=true→Stt x.1 x.2.2.2.2∧Stt x.1 (Bm x.1 x.2.1 x.2.2.1 x.2.2.2.1 x.2.2.2.2)∧x.2.2.2.2.length+(Bm x.1 x.2.1 x.2.2.1 x.2.2.2.1 x.2.2.2.2).length≤(400000:Nat))]
def NO (x:Br):Bb:=[(some 0,some (!decide (x.2.2.2.1 <x.2.2.1)),⟨55,2,[(4,.dq 1),(5,.dead)],[(1,some (.deep 71 .row x.2.2.2.2))]⟩),(none,some ((Ct x.1 x.2.1 x.2.2.1 x.2.2.2.1 x.2.2.2.2)),⟨55,4,[(4,.v (.slice none 0 0)),(5,.v (.int .i64 ((120:Int))))],[(1,some (.deep 71 .row x.2.2.2.2))]⟩)]
def Ef (x:Br):Nat:=(x.2.2.1 - x.2.2.2.1).toNat
def A1 (x:Br):Br:=AZ C4 C3 (Ef x) x
theorem Ag8 (a0:List TGroup) (a1:List TChange) (a2:Int) (a3:Int) (a4:List TRow):Bl (Au Au5 JI) 9 (Af Try.prog 82 0) SO (JH (a0,a1,a2,a3,a4))=some (OX (a0,a1,a2,a3,a4),NO (a0,a1,a2,a3,a4),C3 (a0,a1,a2,a3,a4),JH (C4 (a0,a1,a2,a3,a4))):=by kernel_rfl
theorem Ag9 (a0:List TGroup) (a1:List TChange) (a2:Int) (a3:Int) (a4:List TRow) (hp:∀p∈Fo (a0,a1,a2,a3,a4),p):∀p∈OX (a0,a1,a2,a3,a4),p:=by
 have n0:=N0 hp
 have n1:=N0 (N1 hp)
 have n2:((!!decide (a3 <a2))=true→(!QV a0 (a1.getD a3.toNat (Ac TC.change)) !=(0:Int))=true→Af Try.prog (82:FuncId) (2:Nat)=Af Try.prog (82:FuncId) (2:Nat)):=by intros;rfl
 have n3:=N0 (N1 (N1 hp))
 have n4:=N0 (N1 (N1 (N1 hp)))
 exact(Aa n0 (Aa n1 (Aa n2 (Aa n3 (Aa n4 Ad)))))
noncomputable def OY:=Hw (Au Au5 JI) (Af Try.prog 82 0) SO Ale Lq Ef C4 C3 Fo NO
theorem Acd:∀s b ps outs,OY s=some (b,ps,outs)→Wf s ⟨ps,outs,none⟩∧Bh (Au C0 L0) b s ps outs:=
 A9 (T:=JH) Aet OZ (u:=9) (by kernel_rfl) (by decide) (fun⟨a0,a1,a2,a3,a4⟩=>Ag8 a0 a1 a2 a3 a4) (fun⟨a0,a1,a2,a3,a4⟩=>Ag9 a0 a1 a2 a3 a4) Y3 (fun _=>AH (n:=55) rfl) fun _ _=>rfl
noncomputable def SN:=Di 0 OY JI
theorem Acb:G1 SN:=AS Acd OZ
def GR (a0:List TGroup) (_a1:List TChange):Bool:=AP a0 !=(0:Int)
def OW (a0:List TGroup) (a1:List TChange):Bool:=Ct (A1 (a0,a1,(↑a1.length:Int),(0:Int),[])).fst (A1 (a0,a1,(↑a1.length:Int),(0:Int),[])).snd.fst (A1 (a0,a1,(↑a1.length:Int),(0:Int),[])).snd.snd.fst (A1 (a0,a1,(↑a1.length:Int),(0:Int),[])).snd.snd.snd.fst (A1 (a0,a1,(↑a1.length:Int),(0:Int),[])).snd.snd.snd.snd
def Rp (a0:List TGroup) (a1:List TChange):Int:=bif(GR a0 a1) then AP a0 else bif(OW a0 a1) then(120:Int) else(0:Int)
def Rq (a0:List TGroup) (a1:List TChange):List TRow:=bif(GR a0 a1) then[] else bif(OW a0 a1) then[] else(A1 (a0,a1,(↑a1.length:Int),(0:Int),[])).snd.snd.snd.snd
def Rs (a0:List TGroup) (a1:List TChange):A:=.tup [.dq 0,.v (.int .i64 (Rp a0 a1))]
def Rr (a0:List TGroup) (a1:List TChange):Objs:=[(0,some (.deep 71 .row (Rq a0 a1)))]
def Axn (a0:List TGroup) (a1:List TChange):List Prop:=[((!(GR a0 a1))=true→AD C4 C3 Fo (Ef (a0,a1,(↑a1.length:Int),(0:Int),[])) (a0,a1,(↑a1.length:Int),(0:Int),[]))]
theorem Axm (a0:List TGroup) (a1:List TChange):Er (Au Au5 SN) 9 82 [.sl .group a0,.sl .change a1] 0 []=some (1,Rs a0 a1,1,Rr a0 a1,[((!(GR a0 a1))=true→Af Try.prog (82:FuncId) (0:Nat)=Af Try.prog (82:FuncId) (0:Nat)),((!(GR a0 a1))=true→AD C4 C3 Fo (Ef (a0,a1,(↑a1.length:Int),(0:Int),[])) (a0,a1,(↑a1.length:Int),(0:Int),[]))]):=by kernel_rfl
theorem A3a (a0:List TGroup) (a1:List TChange) (hp:∀p∈Axn a0 a1,p):CallOk Try.prog 82 [.sl .group a0,.sl .change a1] 0 [] 1 (Rs a0 a1) 1 (Rr a0 a1):=by
 have n0:((!(GR a0 a1))=true→Af Try.prog (82:FuncId) (0:Nat)=Af Try.prog (82:FuncId) (0:Nat)):=by intros;rfl
 have n1:=N0 hp
 exact Az (Ap Aet Acb) (Axm a0 a1) (Aa n0 (Aa n1 Ad))
def WT (a0:List TGroup) (a1:List TChange):A:=.tup [.dq 0,.v (.int .i64 (stE a0 a1))]
def WS (a0:List TGroup) (a1:List TChange):Objs:=[(0,some (.deep 71 .row (stR a0 a1)))]
def US (_a0:List TGroup) (a1:List TChange):List Prop:=[a1.length≤7000∧∀c∈a1,Ao c.writes.length]
theorem Byc (rows:List TRow) (i:Nat) (h:i <rows.length):nb (rows.take (i+1))=bif !G2 (Bn rows i) then nb (rows.take i)++[Bn rows i] else nb (rows.take i):=by
 unfold nb
 rw[A10 rows (Ac TC.row) i h,List.filter_append]
 show _++List.filter _ [Bn rows i]=_
 rw[List.filter_cons]
 cases G2 (Bn rows i) with
 |true=>exact List.append_nil _
 |false=>rfl
theorem Bff (rows:List TRow) (hb:rows.length≤100) (hc:∀r∈rows,r.cells.length≤4):
  AD Cv Cu D3 (C5 (rows,(rows.length:Int),0,[])) (rows,(rows.length:Int),0,[])∧Iy (rows,(rows.length:Int),0,[])=(rows,(rows.length:Int),(rows.length:Int),nb rows):=by
 obtain⟨h1,hx⟩:=Bog (fun i=>((rows,(rows.length:Int),(i:Int),nb (rows.take i)):Bs)) rows.length Cv Cu D3 (C5 (rows,(rows.length:Int),0,[])) (rows,(rows.length:Int),0,[]) rfl (by show rows.length≤((rows.length:Int) - 0).toNat;omega)
  (fun i _=>by
   show(!!decide ((i:Int) <(rows.length:Int)))=_
   rw[nn,Mp])
  (fun i hi=>by
   show(rows,(rows.length:Int),IntKind.i64.wrap ((i:Int)+1),Kx rows (rows.length:Int) (i:Int) (nb (rows.take i)))=(rows,(rows.length:Int),((i+1:Nat):Int),nb (rows.take (i+1)))
   rw[Eu (by omega),Byc rows i hi]
   unfold Kx
   rw[Int.toNat_natCast]
   rfl)
  (fun i hi=>by
   have hin:(!!decide ((i:Int) <(rows.length:Int)))=true→(i:Int) <(rows.length:Int):=fun h=>by rw[nn] at h;exact of_decide_eq_true h
   have hl:=Bjm (rows.take i)
   rw[List.length_take] at hl
   refine Aa (fun h=>⟨by show(0:Int)≤(i:Int);omega,hin h⟩) (Aa (fun h=>?_) (Aa (fun _ _=>?_) Ad))
   ·have h2:=hin h
    have h3:(rows.getD ((i:Int)).toNat (Ac TC.row)).2.length≤4:=hc _ (getD_in rows (Ac TC.row) _ (by omega))
    show Ag (rows.getD ((i:Int)).toNat (Ac TC.row)).2.length
    unfold Ag
    omega
   ·show Ag ((nb (rows.take i)).length+1)
    unfold Ag
    omega)
 refine⟨h1,?_⟩
 have hx':Iy (rows,(rows.length:Int),0,[])=(rows,(rows.length:Int),(rows.length:Int),nb (rows.take rows.length)):=hx
 rw[hx',List.take_length]
theorem Yu (l:List TGroup) (c:TChange):(Yt l c).length≤100∧∀r∈Yt l c,r.cells.length≤4:=by
 refine⟨Nat.le_trans (A7y l c) (by omega),fun r hr=>?_⟩
 have g:=(Avt l c).2 r hr
 rw[(AM g).2.1]
 exact(G0 (AM g).1).2
theorem Buj (l:List TGroup) (cs:List TChange) (hb:cs.length≤7000) (hw:∀c∈cs,Ao c.writes.length):
  AD C4 C3 Fo (Ef (l,cs,(cs.length:Int),0,[])) (l,cs,(cs.length:Int),0,[])∧
  Ct (A1 (l,cs,(cs.length:Int),0,[])).fst (A1 (l,cs,(cs.length:Int),0,[])).snd.fst (A1 (l,cs,(cs.length:Int),0,[])).snd.snd.fst (A1 (l,cs,(cs.length:Int),0,[])).snd.snd.snd.fst (A1 (l,cs,(cs.length:Int),0,[])).snd.snd.snd.snd=!KU cs.length (fun i=>QV l (PR cs i)==0)∧
  (KU cs.length (fun i=>QV l (PR cs i)==0)=true→(A1 (l,cs,(cs.length:Int),0,[])).snd.snd.snd.snd=stN l cs cs.length):=by
 have hk1:∀(i:Nat) (o:List TRow),Ct l cs (cs.length:Int) (i:Int) o=(decide (i <cs.length)&&!(QV l (PR cs i)==0)):=fun i o=>by
  unfold Ct
  rw[nn,Mp,Int.toNat_natCast]
  rfl
 have hk0:∀(i:Nat) (o:List TRow),Bm l cs (cs.length:Int) (i:Int) o=nb (Yt l (PR cs i)):=fun i o=>by
  unfold Bm
  rw[Int.toNat_natCast]
  show(Iy (Yt l (PR cs i),((Yt l (PR cs i)).length:Int),(0:Int),[])).snd.snd.snd=_
  rw[(Bff _ (Yu l (PR cs i)).1 (Yu l (PR cs i)).2).2]
 obtain⟨h1,k,hk,hx,_,hst,hb'⟩:=Ij (fun i=>(l,cs,(cs.length:Int),(i:Int),stN l cs i):Nat→Br) cs.length (fun i=>!(QV l (PR cs i)==0)) C4 C3 Fo (Ef (l,cs,(cs.length:Int),0,[])) (l,cs,(cs.length:Int),0,[]) rfl (by show cs.length≤((cs.length:Int) - 0).toNat;omega)
  (fun i _ _=>by
   show(!!decide ((i:Int) <(cs.length:Int))&&!Ct l cs (cs.length:Int) (i:Int) (stN l cs i))=_
   rw[hk1,nn,Mp]
   cases decide (i <cs.length)<;>rfl)
  (fun i hi _=>by
   show(l,cs,(cs.length:Int),IntKind.i64.wrap ((i:Int)+1),Kw l cs (cs.length:Int) (i:Int) (stN l cs i))=(l,cs,(cs.length:Int),((i+1:Nat):Int),stN l cs (i+1))
   unfold Kw
   rw[Eu (by omega),hk0]
   rfl)
  (fun i hi _=>by
   have hin:(!!decide ((i:Int) <(cs.length:Int)))=true→i <cs.length:=fun h=>by rw[nn] at h;have:=of_decide_eq_true h;omega
   refine Aa (fun h=>⟨by show(0:Int)≤(i:Int);omega,by have:=hin h;show(i:Int) <(cs.length:Int);omega⟩) (Aa (fun h=>?_) (Aa (fun h _=>?_) (Aa (fun h _=>?_) Ad)))
   ·show Ao (cs.getD ((i:Int)).toNat (Ac TC.change)).5.length
    rw[Int.toNat_natCast]
    exact hw _ (getD_in cs (Ac TC.change) i (hin h))
   ·show AD Cv Cu D3 (C5 (Yt l (cs.getD ((i:Int)).toNat (Ac TC.change)),((Yt l (cs.getD ((i:Int)).toNat (Ac TC.change))).length:Int),(0:Int),[])) (Yt l (cs.getD ((i:Int)).toNat (Ac TC.change)),((Yt l (cs.getD ((i:Int)).toNat (Ac TC.change))).length:Int),(0:Int),[])
    exact(Bff _ (Yu l _).1 (Yu l _).2).1
   ·have a1:=Bol l cs i
    have a2:=Bjm (Yt l (PR cs i))
    have a3:=A7y l (PR cs i)
    show Stt l (stN l cs i)∧Stt l (Bm l cs (cs.length:Int) (i:Int) (stN l cs i))∧(stN l cs i).length+(Bm l cs (cs.length:Int) (i:Int) (stN l cs i)).length≤400000
    rw[hk0]
    exact⟨Bom l cs i,Buk l _,by omega⟩)
 have hr:A1 (l,cs,(cs.length:Int),0,[])=(l,cs,(cs.length:Int),(k:Int),stN l cs k):=hx
 have hb2:(decide (k <cs.length)&&!(QV l (PR cs k)==0))=!KU cs.length (fun i=>QV l (PR cs i)==0):=by
  rw[hb']
  congr 1
  exact Iu fun i _=>Bool.not_not _
 rw[hr]
 refine⟨h1,?_,fun ha=>?_⟩
 ·show Ct l cs (cs.length:Int) (k:Int) (stN l cs k)=_
  rw[hk1,hb2]
 ·show stN l cs k=_
  rw[ha] at hb2
  rcases Nat.lt_or_ge k cs.length with h|h
  ·have h2:=hst h
   rw[decide_eq_true h,h2] at hb2
   cases hb2
  ·rw[show k=cs.length by omega]
theorem Axl (a0:List TGroup) (a1:List TChange) (hp:∀p∈US a0 a1,p):CallOk Try.prog 82 [.sl .group a0,.sl .change a1] 0 [] 1 (WT a0 a1) 1 (WS a0 a1):=by
 obtain⟨hb,hw⟩:=hp _ (List.mem_cons_self ..)
 obtain⟨h1,h2,h3⟩:=Buj a0 a1 hb hw
 have h:=A3a a0 a1 (Aa (fun _=>h1) Ad)
 have k0:OW a0 a1=!KU a1.length (fun i=>QV a0 (PR a1 i)==0):=h2
 have e:Rp a0 a1=stE a0 a1∧Rq a0 a1=stR a0 a1:=by
  unfold Rp Rq GR stR stE
  rw[k0]
  cases hg:AP a0 !=0 with
  |true=>
   have:(AP a0==0)=false:=by simpa using hg
   refine⟨rfl,?_⟩
   show[]=bif AP a0==0 then stN a0 a1 a1.length else[]
   rw[this]
   rfl
  |false=>
   cases ha:KU a1.length (fun i=>QV a0 (PR a1 i)==0) with
   |true=>exact⟨rfl,h3 ha⟩
   |false=>exact⟨rfl,rfl⟩
 unfold Rs Rr at h
 rw[e.1,e.2] at h
 exact h
def ZN:List A→Nat→Objs→Option AU:=A5 [.l .group,.l .change] 1 WT WS US
theorem Asj:Ev Try.prog 82 ZN:=As (ks:=[.l .group,.l .change]) Axl
noncomputable def Bsf:=AQ 82 ZN Au5
theorem Bcq:Cp Try.prog Bsf:=Ak Asj Aet
def D2 (a0:List TGroup) (a1:List TRow) (_a2:List TRow):Bool:=CZ a0 a1 !=(0:Int)
def HR (a0:List TGroup) (a1:List TRow) (a2:List TRow):Bool:=(D2 a0 a1 a2)||CZ a0 a2 !=(0:Int)
def Rl (a0:List TGroup) (a1:List TRow) (a2:List TRow):Int:=bif(HR a0 a1 a2) then bif(D2 a0 a1 a2) then CZ a0 a1 else CZ a0 a2 else(0:Int)
def Rm (a0:List TGroup) (a1:List TRow) (a2:List TRow):List TRow:=bif(HR a0 a1 a2) then[] else mrg (a1.length+a2.length) a1 a2
def Ro (a0:List TGroup) (a1:List TRow) (a2:List TRow):A:=.tup [.dq 0,.v (.int .i64 (Rl a0 a1 a2))]
def Rn (a0:List TGroup) (a1:List TRow) (a2:List TRow):Objs:=[(0,some (.deep 71 .row (Rm a0 a1 a2)))]
def Axk (a0:List TGroup) (a1:List TRow) (a2:List TRow):List Prop:=[(Ao a1.length),((!(D2 a0 a1 a2))=true→Ao a2.length),((!(HR a0 a1 a2))=true→Stt a0 a1∧Stt a0 a2∧a1.length+a2.length≤(400000:Nat))]
theorem Axj (a0:List TGroup) (a1:List TRow) (a2:List TRow):Er (Au Bsf L0) 9 91 [.sl .group a0,Ae .rows a1,Ae .rows a2] 0 []=some (1,Ro a0 a1 a2,1,Rn a0 a1 a2,[((0:Int)≤(0:Int)∧(0:Int) <(↑(2:Nat):Int)),((0:Nat) <(2:Nat)),(Ao a1.length),((!(D2 a0 a1 a2))=true→(0:Int)≤(1:Int)∧(1:Int) <(↑(2:Nat):Int)),((!(D2 a0 a1 a2))=true→(1:Nat) <(2:Nat)),((!(D2 a0 a1 a2))=true→Ao a2.length),((!(HR a0 a1 a2))=true→Stt a0 a1∧Stt a0 a2∧a1.length+a2.length≤(400000:Nat))]):=by kernel_rfl
theorem A26 (a0:List TGroup) (a1:List TRow) (a2:List TRow) (hp:∀p∈Axk a0 a1 a2,p):CallOk Try.prog 91 [.sl .group a0,Ae .rows a1,Ae .rows a2] 0 [] 1 (Ro a0 a1 a2) 1 (Rn a0 a1 a2):=by
 have n0:((0:Int)≤(0:Int)∧(0:Int) <(↑(2:Nat):Int)):=by first|rfl|decide+kernel
 have n1:((0:Nat) <(2:Nat)):=by first|rfl|decide+kernel
 have n2:=N0 hp
 have n3:((!(D2 a0 a1 a2))=true→(0:Int)≤(1:Int)∧(1:Int) <(↑(2:Nat):Int)):=by omega
 have n4:((!(D2 a0 a1 a2))=true→(1:Nat) <(2:Nat)):=by omega
 have n5:=N0 (N1 hp)
 have n6:=N0 (N1 (N1 hp))
 exact Az (Ap Bcq Ay) (Axj a0 a1 a2) (Aa n0 (Aa n1 (Aa n2 (Aa n3 (Aa n4 (Aa n5 (Aa n6 Ad)))))))
def WP (a0:List TGroup) (a1 a2:List TRow):A:=.tup [.dq 0,.v (.int .i64 (mgE a0 a1 a2))]
def WO (a0:List TGroup) (a1 a2:List TRow):Objs:=[(0,some (.deep 71 .row (mgR a0 a1 a2)))]
def UR (_a0:List TGroup) (a1 a2:List TRow):List Prop:=[a1.length+a2.length≤400000]
theorem Axi (a0:List TGroup) (a1 a2:List TRow) (hp:∀p∈UR a0 a1 a2,p):CallOk Try.prog 91 [.sl .group a0,Ae .rows a1,Ae .rows a2] 0 [] 1 (WP a0 a1 a2) 1 (WO a0 a1 a2):=by
 have hb:a1.length+a2.length≤400000:=hp _ (List.mem_cons_self ..)
 have hk:HR a0 a1 a2=!(mgE a0 a1 a2==0):=by
  unfold HR D2 mgE
  cases h:CZ a0 a1 !=0 with
  |true=>
   have:(CZ a0 a1==0)=false:=by simpa using h
   rw[cond_true,this]
   rfl
  |false=>rfl
 have h:=A26 a0 a1 a2 (Aa (by unfold Ao;omega) (Aa (fun _=>by unfold Ao;omega) (Aa (fun h=>by
  rw[hk,Bool.not_not] at h
  obtain⟨g1,g2⟩:=B3z.1 (by simpa using h:mgE a0 a1 a2=0)
  exact⟨(Akg g1).2,(Akg g2).2,hb⟩) Ad)))
 have e:Rl a0 a1 a2=mgE a0 a1 a2∧Rm a0 a1 a2=mgR a0 a1 a2:=by
  unfold Rl Rm mgR
  rw[hk]
  cases h0:mgE a0 a1 a2==0 with
  |true=>
   have:mgE a0 a1 a2=0:=by simpa using h0
   rw[this]
   exact⟨rfl,rfl⟩
  |false=>exact⟨rfl,rfl⟩
 unfold Ro Rn at h
 rw[e.1,e.2] at h
 exact h
def ZK:List A→Nat→Objs→Option AU:=A5 [.l .group,.t .rows,.t .rows] 1 WP WO UR
theorem Asi:Ev Try.prog 91 ZK:=As (ks:=[.l .group,.t .rows,.t .rows]) Axi
noncomputable def Bcr:=AQ 91 ZK Bsf
theorem Au6:Cp Try.prog Bcr:=Ak Asi Bcq
abbrev Bt:Type:=Int×Int×TRow×TRow
def Ki (x:Bt):St:=⟨38,2,[(2,.own 0 0),(3,.own 1 0),(22,.v (.int .i64 x.1)),(23,.v (.int .i64 x.2.1))],[(0,some (.box 71 [.v (.string x.2.2.1.key),.sl .cell x.2.2.1.cells])),(1,some (.box 71 [.v (.string x.2.2.2.key),.sl .cell x.2.2.2.cells]))]⟩
def Ma:St→Option Bt
 |⟨38,2,[(2,.own 0 0),(3,.own 1 0),(22,.v (.int .i64 z0)),(23,.v (.int .i64 z1))],[(0,some (.box 71 [.v (.string z2),.sl .cell z3])),(1,some (.box 71 [.v (.string z4),.sl .cell z5]))]⟩=>some (z0,z1,⟨z2,z3⟩,⟨z4,z5⟩)
 |_=>none
theorem Aci:∀s x,Ma s=some x→s=Ki x:=fun s x h=>by
 unfold Ma at h
 split at h
 ·cases h;rfl
 ·cases h
def UV:CU:=⟨2,2,[2,3,22,23],[],[(0,0),(1,1)],[0,1],[4],[0,1]⟩
def Asl:C9:=⟨[],[(0,0),(1,1)],[2,3,22,23],[0,1]⟩
def CF (a0:Int) (a1:Int) (a2:TRow) (a3:TRow):Bool:=!!decide (a1 <a0)&&!((a2.2.getD a1.toNat (Ac TC.cell)).1.1==(a3.2.getD a1.toNat (Ac TC.cell)).1.1&&(a2.2.getD a1.toNat (Ac TC.cell)).1.2==(a3.2.getD a1.toNat (Ac TC.cell)).1.2&&((a2.2.getD a1.toNat (Ac TC.cell)).2.1==(a3.2.getD a1.toNat (Ac TC.cell)).2.1&&(a2.2.getD a1.toNat (Ac TC.cell)).2.2==(a3.2.getD a1.toNat (Ac TC.cell)).2.2&&((a2.2.getD a1.toNat (Ac TC.cell)).3==(a3.2.getD a1.toNat (Ac TC.cell)).3&&((a2.2.getD a1.toNat (Ac TC.cell)).4.toList==(a3.2.getD a1.toNat (Ac TC.cell)).4.toList&&((a2.2.getD a1.toNat (Ac TC.cell)).5.1==(a3.2.getD a1.toNat (Ac TC.cell)).5.1&&(a2.2.getD a1.toNat (Ac TC.cell)).5.2==(a3.2.getD a1.toNat (Ac TC.cell)).5.2)))))
def Ahf (a0:Int) (a1:Int) (a2:TRow) (a3:TRow):Bool:=!!decide (a1 <a0)&&!(CF a0 a1 a2 a3)
def Dx (x:Bt):Bt:=(x.1,IntKind.i64.wrap (x.2.1+(1:Int)),x.2.2.1,x.2.2.2)
def Dw (x:Bt):Cnd:=some (Ahf x.1 x.2.1 x.2.2.1 x.2.2.2)
def Lt (x:Bt):List Prop:=[((!!decide (x.2.1 <x.1))=true→(0:Int)≤x.2.1∧x.2.1 <(↑x.2.2.1.2.length:Int)),((!!decide (x.2.1 <x.1))=true→(0:Int)≤x.2.1∧x.2.1 <(↑x.2.2.2.2.length:Int))]
abbrev Gl:Bt→List Prop:=Lt
def O2 (x:Bt):Bb:=[(some 0,some (!decide (x.2.1 <x.1)),⟨38,2,[(4,.dead)],[(0,some (.box 71 [.v (.string x.2.2.1.1),.sl .cell x.2.2.1.2])),(1,some (.box 71 [.v (.string x.2.2.2.1),.sl .cell x.2.2.2.2]))]⟩),(none,some ((CF x.1 x.2.1 x.2.2.1 x.2.2.2)),⟨38,2,[(4,.v (.bool (false)))],[(0,some (.box 71 [.v (.string x.2.2.1.1),.sl .cell x.2.2.1.2])),(1,some (.box 71 [.v (.string x.2.2.2.1),.sl .cell x.2.2.2.2]))]⟩)]
def Ez (x:Bt):Nat:=(x.1 - x.2.1).toNat
def Ahh (x:Bt):Bt:=AZ Dx Dw (Ez x) x
theorem Alh (a0:Int) (a1:Int) (a2:TRow) (a3:TRow):Bl (Au Bcr L0) 9 (Af Try.prog 150 0) UV (Ki (a0,a1,a2,a3))=some (Lt (a0,a1,a2,a3),O2 (a0,a1,a2,a3),Dw (a0,a1,a2,a3),Ki (Dx (a0,a1,a2,a3))):=by kernel_rfl
theorem Ali (a0:Int) (a1:Int) (a2:TRow) (a3:TRow) (hp:∀p∈Gl (a0,a1,a2,a3),p):∀p∈Lt (a0,a1,a2,a3),p:=hp
noncomputable def Qq:=Hw (Au Bcr L0) (Af Try.prog 150 0) UV Asl Ma Ez Dx Dw Gl O2
theorem Ahg:∀s b ps outs,Qq s=some (b,ps,outs)→Wf s ⟨ps,outs,none⟩∧Bh (Au C0 L0) b s ps outs:=
 A9 (T:=Ki) Au6 Ay (u:=9) (by kernel_rfl) (by decide) (fun⟨a0,a1,a2,a3⟩=>Alh a0 a1 a2 a3) (fun⟨a0,a1,a2,a3⟩=>Ali a0 a1 a2 a3) Aci (fun _=>AH (n:=38) rfl) fun _ _=>rfl
noncomputable def UU:=Di 0 Qq L0
theorem Ahe:G1 UU:=AS Ahg Ay
def E3 (a0:TRow) (a1:TRow):Bt:=Ahh ((↑a0.2.length:Int),(0:Int),a0,a1)
def Gc (a0:TRow) (a1:TRow):Bool:=!a0.1.toList==a1.1.toList||(↑a0.2.length:Int) !=(↑a1.2.length:Int)
def T3 (a0:TRow) (a1:TRow):Bool:=bif(Gc a0 a1) then false else bif CF (E3 a0 a1).fst (E3 a0 a1).snd.fst (E3 a0 a1).snd.snd.fst (E3 a0 a1).snd.snd.snd then false else true
def T4 (a0:TRow) (a1:TRow):A:=.v (.bool (T3 a0 a1))
def Ahi (_a0:TRow) (_a1:TRow):Objs:=[]
def ZT (a0:TRow) (a1:TRow):List Prop:=[((!(Gc a0 a1))=true→AD Dx Dw Gl (Ez ((↑a0.2.length:Int),(0:Int),a0,a1)) ((↑a0.2.length:Int),(0:Int),a0,a1))]
theorem A3e (a0:TRow) (a1:TRow):Er (Au Bcr UU) 9 150 [Ae .row a0,Ae .row a1] 0 []=some (1,T4 a0 a1,0,Ahi a0 a1,[((!(Gc a0 a1))=true→Af Try.prog (150:FuncId) (0:Nat)=Af Try.prog (150:FuncId) (0:Nat)),((!(Gc a0 a1))=true→AD Dx Dw Gl (Ez ((↑a0.2.length:Int),(0:Int),a0,a1)) ((↑a0.2.length:Int),(0:Int),a0,a1))]):=by kernel_rfl
theorem A9l (a0:TRow) (a1:TRow) (hp:∀p∈ZT a0 a1,p):CallOk Try.prog 150 [Ae .row a0,Ae .row a1] 0 [] 1 (T4 a0 a1) 0 (Ahi a0 a1):=by
 have n0:((!(Gc a0 a1))=true→Af Try.prog (150:FuncId) (0:Nat)=Af Try.prog (150:FuncId) (0:Nat)):=by intros;rfl
 have n1:=N0 hp
 exact Az (Ap Au6 Ahe) (A3e a0 a1) (Aa n0 (Aa n1 Ad))
def ZU (a0:TRow) (a1:TRow):A:=.v (.bool (Bpb a0 a1))
def ZS (_a0:TRow) (_a1:TRow):Objs:=[]
def WZ (a0:TRow) (_a1:TRow):List Prop:=[Ag a0.cells.length]
theorem ZR (a b:TRow) (hb:Ag a.cells.length):(∀p∈ZT a b,p)∧T3 a b=Bpb a b:=by
 unfold Ag at hb
 have hk0:Gc a b=(!(a.key==b.key)||a.cells.length !=b.cells.length):=by
  show(!(a.key.toList==b.key.toList)||((a.cells.length:Int) !=(b.cells.length:Int)))=_
  rw[tlb]
  congr 1
  rw[Bool.eq_iff_iff,bne_iff_ne,bne_iff_ne];omega
 have main:Gc a b=false→AD Dx Dw Gl (Ez ((a.2.length:Int),0,a,b)) ((a.2.length:Int),0,a,b)∧CF (E3 a b).fst (E3 a b).snd.fst (E3 a b).snd.snd.fst (E3 a b).snd.snd.snd=!Afl a.cells b.cells:=fun h0=>by
  rw[hk0] at h0
  have hlen:a.cells.length=b.cells.length:=by simpa using(Bool.or_eq_false_iff.1 h0).2
  have hf:∀i:Nat,CF (a.cells.length:Int) (i:Int) a b=(decide (i <a.cells.length)&&!eqC (a.2.getD i (Ac TC.cell)) (b.2.getD i (Ac TC.cell))):=fun i=>by
   unfold CF eqC
   rw[nn,Mp,Int.toNat_natCast,tlb]
   simp only[Bool.and_assoc]
  obtain⟨h1,k,hk,hx,_,_,hb'⟩:=Ij (fun i=>(((a.cells.length:Int),(i:Int),a,b):Bt)) a.cells.length (fun i=>!eqC (a.2.getD i (Ac TC.cell)) (b.2.getD i (Ac TC.cell))) Dx Dw Gl (Ez ((a.cells.length:Int),0,a,b)) ((a.cells.length:Int),0,a,b) rfl (by show a.cells.length≤((a.cells.length:Int) - 0).toNat;omega)
   (fun i _ _=>by
    show((!!decide ((i:Int) <(a.cells.length:Int)))&&!CF (a.cells.length:Int) (i:Int) a b)=_
    rw[hf,nn,Mp]
    cases decide (i <a.cells.length)<;>rfl)
   (fun i hi _=>by
    show((a.cells.length:Int),IntKind.i64.wrap ((i:Int)+1),a,b)=((a.cells.length:Int),((i+1:Nat):Int),a,b)
    rw[Eu (by omega)])
   (fun i _ _=>by
    have hin:(!!decide ((i:Int) <(a.cells.length:Int)))=true→(i:Int) <(a.cells.length:Int):=fun h=>by rw[nn] at h;exact of_decide_eq_true h
    exact Aa (fun h=>⟨by show(0:Int)≤(i:Int);omega,hin h⟩) (Aa (fun h=>⟨by show(0:Int)≤(i:Int);omega,by have:=hin h;show(i:Int) <(b.cells.length:Int);omega⟩) Ad))
  refine⟨h1,?_⟩
  have hr:E3 a b=((a.cells.length:Int),(k:Int),a,b):=hx
  rw[hr]
  show CF (a.cells.length:Int) (k:Int) a b=_
  rw[hf,hb',Btf _ _ hlen]
  congr 1
  exact Iu fun i _=>Bool.not_not _
 refine⟨Aa (fun h=>(main (by simpa using h)).1) Ad,?_⟩
 unfold T3 Bpb
 cases h0:Gc a b with
 | true=>
  rw[hk0] at h0
  rw[cond_true]
  cases hk:a.key==b.key with
  |false=>rfl
  |true=>
   rw[hk] at h0
   have hne:a.cells.length≠b.cells.length:=by simpa using h0
   cases he:Afl a.cells b.cells with
   |false=>rfl
   |true=>exact absurd (congrArg List.length (Afm.1 he)) hne
 |false=>
  rw[cond_false,(main h0).2]
  rw[hk0] at h0
  have:(a.key==b.key)=true:=by simpa using(Bool.or_eq_false_iff.1 h0).1
  rw[this,Bool.true_and]
  cases Afl a.cells b.cells<;>rfl
theorem A3d (a0:TRow) (a1:TRow) (hp:∀p∈WZ a0 a1,p):CallOk Try.prog 150 [Ae .row a0,Ae .row a1] 0 [] 1 (ZU a0 a1) 0 (ZS a0 a1):=by
 have hb:Ag a0.cells.length:=hp _ (List.mem_cons_self ..)
 have h:=A9l a0 a1 (ZR a0 a1 hb).1
 unfold T4 at h
 rw[(ZR a0 a1 hb).2] at h
 exact h
def Ahj:List A→Nat→Objs→Option AU:=A5 [.t .row,.t .row] 0 ZU ZS WZ
theorem Axr:Ev Try.prog 150 Ahj:=As (ks:=[.t .row,.t .row]) A3d
noncomputable def Bz7:=AQ 150 Ahj Bcr
theorem Bsg:Cp Try.prog Bz7:=Ak Axr Au6
noncomputable def Cms:=Bz7
theorem Bsh:Cp Try.prog Cms:=Bsg
end Go.Proofs.Yteebobbhhgmeiaa
namespace Go.Proofs.Yteebobbhhgmeiaa
open Go.RowKit
def Bp8 (l:List TGroup) (r:TRow):TView:=⟨LO l r,QS l r⟩
def chS (l:List TGroup) (q:ByteArray→Bool) (n:Int) (o:List TView) (r:TRow):List TView:=bif decide ((o.length:Int)≥n) then o else bif Fc l r&&q r.key then o++[Bp8 l r] else o
def QW (l:List TGroup) (q:ByteArray→Bool) (n:Int) (rows:List TRow) (i:Nat):List TView:=(rows.take i).foldl (chS l q n) []
def chL (l:List TGroup) (q:ByteArray→Bool) (n:Int) (rows:List TRow):List TView:=rows.foldl (chS l q n) []
section
variable {l:List TGroup} {q:ByteArray→Bool} {n:Int}
theorem Ae8 (rows:List TRow) (i:Nat) (h:i <rows.length):QW l q n rows (i+1)=chS l q n (QW l q n rows i) (Bn rows i):=by
 unfold QW
 rw[A10 rows (Ac TC.row) i h,List.foldl_append]
 rfl
theorem Aum (rows:List TRow):QW l q n rows rows.length=chL l q n rows:=by
 unfold QW chL
 rw[List.take_length]
theorem Avu {o:List TView} (h:(o.length:Int)≥n):∀rows:List TRow,rows.foldl (chS l q n) o=o
 | []=>rfl
 | x::a=>by
  have e:chS l q n o x=o:=by
   unfold chS
   rw[decide_eq_true h]
   rfl
  rw[List.foldl_cons,e,Avu h a]
theorem Avs (rows:List TRow) {i:Nat} (h:((QW l q n rows i).length:Int)≥n):chL l q n rows=QW l q n rows i:=by
 have e:chL l q n rows=(rows.drop i).foldl (chS l q n) (QW l q n rows i):=by
  unfold chL QW
  rw[←List.foldl_append,List.take_append_drop]
 rw[e,Avu h]
theorem Bxk (o:List TView) (r:TRow):(chS l q n o r).length≤o.length+1:=by
 unfold chS
 cases decide ((o.length:Int)≥n) with
 |true=>exact Nat.le_succ _
 |false=>
  cases Fc l r&&q r.key with
  |true=>rw[cond_false,cond_true,List.length_append];exact Nat.le_refl _
  |false=>exact Nat.le_succ _
theorem Aun (rows:List TRow):∀i,i≤rows.length→(QW l q n rows i).length≤i
 |0,_=>Nat.le_refl _
 |i+1,h=>by
  have ih:=Aun rows i (by omega)
  have:=Bxk (l:=l) (q:=q) (n:=n) (QW l q n rows i) (Bn rows i)
  rw[Ae8 rows i (by omega)]
  omega
theorem Bdp {o:List TView}:∀rows:List TRow,(∀y∈rows,q y.key=false)→rows.foldl (chS l q n) o=o
 | [],_=>rfl
 | x::a,h=>by
  have e:chS l q n o x=o:=by
   unfold chS
   rw[h x (List.mem_cons_self ..),Bool.and_false,cond_false]
   cases decide ((o.length:Int)≥n)<;>rfl
  rw[List.foldl_cons,e,Bdp a fun y hy=>h y (List.mem_cons_of_mem _ hy)]
end
def Bpi (l:List TGroup) (rows:List TRow) (key:ByteArray):Bool:=match atK rows key with
 |some r=>Fc l r
 |none=>false
def Bi8 (l:List TGroup) (rows:List TRow) (key:ByteArray):TView:=match atK rows key with
 |some r=>Bp8 l r
 |none=>⟨⟨#[]⟩,[]⟩
theorem By1 {l:List TGroup} {r:TRow} (h:Fc l r=false):Bp8 l r=⟨⟨#[]⟩,[]⟩:=by
 unfold Bp8 LO QS
 rw[h]
 rfl
theorem Bqy {l:List TGroup} {r:TRow} (h:Fc l r=true):LO l r=r.key:=by
 unfold LO
 rw[h]
 rfl
theorem Bx2 {l:List TGroup} {rows:List TRow} {key:ByteArray} (h:Bpi l rows key=false):Bi8 l rows key=⟨⟨#[]⟩,[]⟩:=by
 unfold Bpi at h
 unfold Bi8
 cases ha:atK rows key with
 |none=>rfl
 |some r=>rw[ha] at h;exact By1 h
theorem Bnd {l:List TGroup} {key:ByteArray}:∀{rows:List TRow},YW rows→chL l (fun k=>k==key) 1 rows=bif Bpi l rows key then[Bi8 l rows key] else[]
 | [],_=>rfl
 | x::a,h=>by
  have h1:=List.pairwise_cons.1 h
  have e:chL l (fun k=>k==key) 1 (x::a)=a.foldl (chS l (fun k=>k==key) 1) (bif Fc l x&&x.key==key then[Bp8 l x] else[]):=rfl
  rw[e]
  unfold Bpi Bi8
  rw[Avc]
  by_cases hk:x.key=key
  ·rw[if_pos hk]
   have hk2:(x.key==key)=true:=by simpa using hk
   rw[hk2,Bool.and_true]
   show _=bif Fc l x then[Bp8 l x] else[]
   cases hv:Fc l x with
   |true=>rw[cond_true,Avu (show((1:Nat):Int)≥1 from Int.le_refl _)]
   |false=>
    rw[cond_false,Bdp a fun y hy=>?_]
    have:=Ak6 (h1.1 y hy)
    rw[hk] at this
    simpa using Ne.symm this
  ·rw[if_neg hk]
   have hk2:(x.key==key)=false:=by simpa using hk
   rw[hk2,Bool.and_false,cond_false]
   exact Bnd h1.2
def Ai6 (l:List TGroup) (rows:List TRow) (key:ByteArray):Bool:=CZ l rows==0&&Bpi l rows key
def VC (l:List TGroup) (rows:List TRow) (key:ByteArray):TView:=bif CZ l rows==0 then Bi8 l rows key else⟨⟨#[]⟩,[]⟩
def inK (a b k:ByteArray):Bool:=!Jy k a&&(b.size==0||Jy k b)
def Aej (l:List TGroup) (rows:List TRow) (a b:ByteArray) (n:Int):List TView:=bif CZ l rows==0 then chL l (inK a b) n rows else[]
end Go.Proofs.Yteebobbhhgmeiaa
namespace Go.Proofs.Yteebobbhhgmeiaa
open Go.RowKit
theorem Bo0 {P:Program} {f:FuncId} {args:List A} {k:Nat} {e:TypeId} {c:TC} {els:Els} {l:List (U c)} {ps:List Prop} (h:CallOk P f args 0 [] k (.sq 0) 1 [(0,some (.arr e (size c) els))]) (hty:UG c els=some (l,ps)) (hp:∀p∈ps,p):CallOk P f args 0 [] k (.sq 0) 1 [(0,some (.arr e (size c) (.ty c l)))]:=fun F N R vs hh ha=>
 Calls.mono (P:=P) (h F N R vs hh ha) fun e0 R' ⟨y,F',N',e1,e2,e3,e4,e5⟩=>by
  have low:∀{i ob},Ar i [(0,some (Ob.arr e (size c) (.ty c l)))]=some ob→i=0∧ob=.arr e (size c) (.ty c l):=fun {i ob} hi=>by
   have hi':(bif Nat.beq 0 i then some (Ob.arr e (size c) (.ty c l)) else none)=some ob:=hi
   cases hb:Nat.beq 0 i with
   |true=>rw[hb] at hi';cases hi';exact⟨(Nat.eq_of_beq_eq_true hb).symm,rfl⟩
   |false=>rw[hb] at hi';cases hi'
  obtain⟨hi,zs,g1,g2⟩:=e2.ob 0 _ rfl
  have hr:RowHL F' N' 1 R' (.ty c l) (size c) zs:=(show RowHL F' N' 1 R' els (size c) zs from⟨g1.1,g2⟩).ty hty hp
  have hn:l.length=els.n:=(K0 (F:=F') (N:=N') (nx:=1) (R:=R') hty hp).1
  refine⟨y,F',N',e1,⟨e2.flt,fun i ob hl=>?_,fun i ob g hl hg=>?_,fun i j x y g hx hy _ _=>?_⟩,⟨e3.le,e3.b,e3.q,e3.f,e3.fnew,fun g ⟨i,ob,hl,hg⟩=>?_,e3.os,e3.tape,e3.output,e3.size,e3.keep⟩,e4,e5⟩
  ·obtain⟨rfl,rfl⟩:=low hl
   exact⟨hi,zs,by show OwnR _ _ _ _ l.length _;rw[hn];exact g1,hr.2⟩
  ·obtain⟨rfl,rfl⟩:=low hl
   exact e2.ff 0 _ g rfl hg
  ·rw[(low hx).1,(low hy).1]
  ·obtain⟨rfl,rfl⟩:=low hl
   exact e3.foot g ⟨0,_,rfl,hg⟩
end Go.Proofs.Yteebobbhhgmeiaa
namespace Go.Proofs.Yteebobbhhgmeiaa
open Go.RowKit
noncomputable def Bcs:=AQ 147 (inl (Au Cms L0) 20 147) Cms
theorem Au7:Cp Try.prog Bcs:=Ak (TL (Ap Bsh Ay) 20 147) Bsh
abbrev Em:Type:=(List TGroup)×(List TRow)×Int×Int×ByteArray×(List TView)
def P3 (x:Em):St:=⟨46,4,[(0,.sl .group x.1),(2,.v (.int .i64 ((1:Int)))),(3,.fn 147 [] [.own 0 0]),(8,.sq 3),(17,.sl .row x.2.1),(18,.v (.int .i64 x.2.2.1)),(19,.v (.int .i64 x.2.2.2.1))],[(0,some (.box 9 [.v (.string x.2.2.2.2.1)])),(3,some (.arr 94 2 (.ty .view x.2.2.2.2.2)))]⟩
def TB:St→Option Em
 |⟨46,4,[(0,.sl .group z0),(2,.v (.int .i64 ((1:Int)))),(3,.fn 147 [] [.own 0 0]),(8,.sq 3),(17,.sl .row z1),(18,.v (.int .i64 z2)),(19,.v (.int .i64 z3))],[(0,some (.box 9 [.v (.string z4)])),(3,some (.arr 94 2 (.ty .view z5)))]⟩=>some (z0,z1,z2,z3,z4,z5)
 |_=>none
theorem Avv:∀s x,TB s=some x→s=P3 x:=fun s x h=>by
 unfold TB at h
 split at h
 ·cases h;rfl
 ·cases h
def An7:CU:=⟨3,4,[0,2,3,8,17,18,19],[],[(0,0),(9,3)],[0,9],[8],[3,0]⟩
def Bdq:C9:=⟨[.nil 8 94 .view],[(0,0),(2,3)],[0,2,3,8,17,18,19],[0,2]⟩
def Ja (a0:List TGroup) (a1:List TRow) (_a2:Int) (a3:Int) (a4:ByteArray) (_a5:List TView):Bool:=bif Fc a0 (a1.getD a3.toNat (Ac TC.row)) then(a1.getD a3.toNat (Ac TC.row)).1.toList==a4.toList else false
def VP (_a0:List TGroup) (_a1:List TRow) (a2:Int) (a3:Int) (_a4:ByteArray) (a5:List TView):Bool:=!decide (a3 <a2)||decide ((↑a5.length:Int)≥(1:Int))
def QY (a0:List TGroup) (a1:List TRow) (a2:Int) (a3:Int) (a4:ByteArray) (a5:List TView):ByteArray:=bif(Ja a0 a1 a2 a3 a4 a5) then a4 else a4
def QZ (a0:List TGroup) (a1:List TRow) (a2:Int) (a3:Int) (a4:ByteArray) (a5:List TView):List TView:=bif(Ja a0 a1 a2 a3 a4 a5) then a5++[TView.mk (LO a0 (a1.getD a3.toNat (Ac TC.row))) (QS a0 (a1.getD a3.toNat (Ac TC.row)))] else a5
def GJ (x:Em):Em:=(x.1,x.2.1,x.2.2.1,IntKind.i64.wrap (x.2.2.2.1+(1:Int)),QY x.1 x.2.1 x.2.2.1 x.2.2.2.1 x.2.2.2.2.1 x.2.2.2.2.2,QZ x.1 x.2.1 x.2.2.1 x.2.2.2.1 x.2.2.2.2.1 x.2.2.2.2.2)
def GI (x:Em):Cnd:=some (!(VP x.1 x.2.1 x.2.2.1 x.2.2.2.1 x.2.2.2.2.1 x.2.2.2.2.2))
def Zm (x:Em):List Prop:=[((!!decide (x.2.2.2.1 <x.2.2.1))=true→(0:Int)≤x.2.2.2.1∧x.2.2.2.1 <(↑x.2.1.length:Int)),((!!decide (x.2.2.2.1 <x.2.2.1))=true→(!decide ((↑x.2.2.2.2.2.length:Int)≥(1:Int)))=true→false=false),((!!decide (x.2.2.2.1 <x.2.2.1))=true→(!decide ((↑x.2.2.2.2.2.length:Int)≥(1:Int)))=true→(Ja x.1 x.2.1 x.2.2.1 x.2.2.2.1 x.2.2.2.2.1 x.2.2.2.2.2)=true→Ag (x.2.2.2.2.2.length+(1:Nat)))]
def JA (x:Em):List Prop:=[((!!decide (x.2.2.2.1 <x.2.2.1))=true→(0:Int)≤x.2.2.2.1∧x.2.2.2.1 <(↑x.2.1.length:Int)),((!!decide (x.2.2.2.1 <x.2.2.1))=true→(!decide ((↑x.2.2.2.2.2.length:Int)≥(1:Int)))=true→(Ja x.1 x.2.1 x.2.2.1 x.2.2.2.1 x.2.2.2.2.1 x.2.2.2.2.2)=true→Ag (x.2.2.2.2.2.length+(1:Nat)))]
def VQ (x:Em):Bb:=[(some 0,some ((VP x.1 x.2.1 x.2.2.1 x.2.2.2.1 x.2.2.2.2.1 x.2.2.2.2.2)),⟨46,5,[(8,.sq 3)],[(3,some (.arr 94 2 (.ty .view x.2.2.2.2.2))),(0,some (.box 9 [.v (.string x.2.2.2.2.1)]))]⟩)]
def HN (x:Em):Nat:=(x.2.2.1 - x.2.2.2.1).toNat
def Dj (x:Em):Em:=AZ GJ GI (HN x) x
theorem A7z (a0:List TGroup) (a1:List TRow) (a2:Int) (a3:Int) (a4:ByteArray) (a5:List TView):Bl (Au Bcs L0) 9 (Af Try.prog 146 0) An7 (P3 (a0,a1,a2,a3,a4,a5))=some (Zm (a0,a1,a2,a3,a4,a5),VQ (a0,a1,a2,a3,a4,a5),GI (a0,a1,a2,a3,a4,a5),P3 (GJ (a0,a1,a2,a3,a4,a5))):=by kernel_rfl
theorem A70 (a0:List TGroup) (a1:List TRow) (a2:Int) (a3:Int) (a4:ByteArray) (a5:List TView) (hp:∀p∈JA (a0,a1,a2,a3,a4,a5),p):∀p∈Zm (a0,a1,a2,a3,a4,a5),p:=by
 have n0:=N0 hp
 have n1:((!!decide (a3 <a2))=true→(!decide ((↑a5.length:Int)≥(1:Int)))=true→false=false):=by intros;rfl
 have n2:=N0 (N1 hp)
 exact(Aa n0 (Aa n1 (Aa n2 Ad)))
noncomputable def Zn:=Hw (Au Bcs L0) (Af Try.prog 146 0) An7 Bdq TB HN GJ GI JA VQ
theorem A2i:∀s b ps outs,Zn s=some (b,ps,outs)→Wf s ⟨ps,outs,none⟩∧Bh (Au C0 L0) b s ps outs:=
 A9 (T:=P3) Au7 Ay (u:=9) (by kernel_rfl) (by decide) (fun⟨a0,a1,a2,a3,a4,a5⟩=>A7z a0 a1 a2 a3 a4 a5) (fun⟨a0,a1,a2,a3,a4,a5⟩=>A70 a0 a1 a2 a3 a4 a5) Avv (fun _=>AH (n:=46) rfl) fun _ _=>rfl
noncomputable def An6:=Di 0 Zn L0
theorem A2h:G1 An6:=AS A2i Ay
noncomputable def Bsi:=AQ 146 (inl (Au Bcs An6) 20 146) Bcs
theorem Bct:Cp Try.prog Bsi:=Ak (TL (Ap Au7 A2h) 20 146) Au7
def CA (a0:List TGroup) (a1:List TRow) (_a2:ByteArray):Bool:=CZ a0 a1 !=(0:Int)
def E2 (a0:List TGroup) (a1:List TRow) (a2:ByteArray):Bool:=(↑(bif(CA a0 a1 a2) then[] else(Dj (a0,a1,(↑a1.length:Int),(0:Int),a2,[])).snd.snd.snd.snd.snd).length:Int)==(0:Int)
def Qo (a0:List TGroup) (a1:List TRow) (a2:ByteArray):TView:=TView.mk (bif(E2 a0 a1 a2) then ByteArray.mk #[] else((bif(CA a0 a1 a2) then[] else(Dj (a0,a1,(↑a1.length:Int),(0:Int),a2,[])).snd.snd.snd.snd.snd).getD (0:Nat) (Ac TC.view)).1) (bif(E2 a0 a1 a2) then[] else((bif(CA a0 a1 a2) then[] else(Dj (a0,a1,(↑a1.length:Int),(0:Int),a2,[])).snd.snd.snd.snd.snd).getD (0:Nat) (Ac TC.view)).2)
def WK (a0:List TGroup) (a1:List TRow) (a2:ByteArray):Bool:=bif(E2 a0 a1 a2) then false else true
def WL (a0:List TGroup) (a1:List TRow) (a2:ByteArray):A:=.tup [.agg [.v (.string ((Qo a0 a1 a2).key)),.sl .field ((Qo a0 a1 a2).fields)],.v (.bool (WK a0 a1 a2))]
def Aow (_a0:List TGroup) (_a1:List TRow) (_a2:ByteArray):Objs:=[]
def A9h (a0:List TGroup) (a1:List TRow) (a2:ByteArray):List Prop:=[(Ao a1.length),((!(CA a0 a1 a2))=true→AD GJ GI JA (HN (a0,a1,(↑a1.length:Int),(0:Int),a2,[])) (a0,a1,(↑a1.length:Int),(0:Int),a2,[])),((!(E2 a0 a1 a2))=true→(0:Int)≤(0:Int)∧(0:Int) <(↑(bif(CA a0 a1 a2) then[] else(Dj (a0,a1,(↑a1.length:Int),(0:Int),a2,[])).snd.snd.snd.snd.snd).length:Int))]
theorem A9g (a0:List TGroup) (a1:List TRow) (a2:ByteArray):Er (Au Bsi L0) 9 85 [.sl .group a0,Ae .rows a1,Ae .str a2] 0 []=some (1,WL a0 a1 a2,0,Aow a0 a1 a2,[(Ao a1.length),((!(CA a0 a1 a2))=true→Af Try.prog (146:FuncId) (0:Nat)=Af Try.prog (146:FuncId) (0:Nat)),((!(CA a0 a1 a2))=true→AD GJ GI JA (HN (a0,a1,(↑a1.length:Int),(0:Int),a2,[])) (a0,a1,(↑a1.length:Int),(0:Int),a2,[])),((!(E2 a0 a1 a2))=true→(0:Int)≤(0:Int)∧(0:Int) <(↑(bif(CA a0 a1 a2) then[] else(Dj (a0,a1,(↑a1.length:Int),(0:Int),a2,[])).snd.snd.snd.snd.snd).length:Int)),((!(E2 a0 a1 a2))=true→(0:Nat) <(bif(CA a0 a1 a2) then[] else(Dj (a0,a1,(↑a1.length:Int),(0:Int),a2,[])).snd.snd.snd.snd.snd).length)]):=by kernel_rfl
theorem Bfd (a0:List TGroup) (a1:List TRow) (a2:ByteArray) (hp:∀p∈A9h a0 a1 a2,p):CallOk Try.prog 85 [.sl .group a0,Ae .rows a1,Ae .str a2] 0 [] 1 (WL a0 a1 a2) 0 (Aow a0 a1 a2):=by
 have n0:=N0 hp
 have n1:((!(CA a0 a1 a2))=true→Af Try.prog (146:FuncId) (0:Nat)=Af Try.prog (146:FuncId) (0:Nat)):=by intros;rfl
 have n2:=N0 (N1 hp)
 have n3:((!(E2 a0 a1 a2))=true→(0:Int)≤(0:Int)∧(0:Int) <(↑(bif(CA a0 a1 a2) then[] else(Dj (a0,a1,(↑a1.length:Int),(0:Int),a2,[])).snd.snd.snd.snd.snd).length:Int)):=N0 (N1 (N1 hp))
 have n4:((!(E2 a0 a1 a2))=true→(0:Nat) <(bif(CA a0 a1 a2) then[] else(Dj (a0,a1,(↑a1.length:Int),(0:Int),a2,[])).snd.snd.snd.snd.snd).length):=by intro h0;have g:=n3 h0;omega
 exact Az (Ap Bct Ay) (A9g a0 a1 a2) (Aa n0 (Aa n1 (Aa n2 (Aa n3 (Aa n4 Ad)))))
def Ag2 (a0:List TGroup) (a1:List TRow) (a2:ByteArray):A:=.tup [.agg [.v (.string (VC a0 a1 a2).key),.sl .field (VC a0 a1 a2).fields],.v (.bool (Ai6 a0 a1 a2))]
def Ag1 (_a0:List TGroup) (_a1:List TRow) (_a2:ByteArray):Objs:=[]
def ZF (_a0:List TGroup) (a1:List TRow) (_a2:ByteArray):List Prop:=[Ao a1.length]
theorem Bs3 (l:List TGroup) (rows:List TRow) (key:ByteArray) (hb:Ao rows.length):
  AD GJ GI JA (HN (l,rows,(rows.length:Int),0,key,[])) (l,rows,(rows.length:Int),0,key,[])∧(Dj (l,rows,(rows.length:Int),0,key,[])).snd.snd.snd.snd.snd=chL l (fun k=>k==key) 1 rows:=by
 unfold Ao at hb
 have same:∀(c:Bool) (x:ByteArray),(bif c then x else x)=x:=fun c x=>by cases c<;>rfl
 obtain⟨h1,k,hk,hx,_,hst,_⟩:=Ij (fun i=>(l,rows,(rows.length:Int),(i:Int),key,QW l (fun k=>k==key) 1 rows i):Nat→Em) rows.length (fun i=>decide (((QW l (fun k=>k==key) 1 rows i).length:Int)≥1)) GJ GI JA (HN (l,rows,(rows.length:Int),0,key,[])) (l,rows,(rows.length:Int),0,key,[]) rfl (by show rows.length≤((rows.length:Int) - 0).toNat;omega)
  (fun i _ _=>by
   show(!(!decide ((i:Int) <(rows.length:Int))||decide (((QW l (fun k=>k==key) 1 rows i).length:Int)≥1)))=_
   rw[Bool.not_or,nn,Mp])
  (fun i hi h0=>by
   show(l,rows,(rows.length:Int),IntKind.i64.wrap ((i:Int)+1),QY l rows (rows.length:Int) (i:Int) key (QW l (fun k=>k==key) 1 rows i),QZ l rows (rows.length:Int) (i:Int) key (QW l (fun k=>k==key) 1 rows i))=(l,rows,(rows.length:Int),((i+1:Nat):Int),key,QW l (fun k=>k==key) 1 rows (i+1))
   unfold QY QZ
   rw[same,Eu (by omega),Ae8 rows i hi]
   unfold Ja chS
   rw[h0 i (Nat.lt_succ_self i),tlb,Int.toNat_natCast,cond_false]
   show(_,_,_,_,_,bif(bif Fc l (Bn rows i) then(Bn rows i).key==key else false) then _ else _)=_
   cases Fc l (Bn rows i)<;>rfl)
  (fun i hi _=>by
   have hin:(!!decide ((i:Int) <(rows.length:Int)))=true→(i:Int) <(rows.length:Int):=fun h=>by rw[nn] at h;exact of_decide_eq_true h
   refine Aa (fun h=>⟨by show(0:Int)≤(i:Int);omega,hin h⟩) (Aa (fun _ h _=>?_) Ad)
   have h':(!decide (((QW l (fun k=>k==key) 1 rows i).length:Int)≥1))=true:=h
   have h2:¬((QW l (fun k=>k==key) 1 rows i).length:Int)≥1:=by simpa using h'
   show Ag ((QW l (fun k=>k==key) 1 rows i).length+1)
   unfold Ag
   omega)
 have hr:Dj (l,rows,(rows.length:Int),0,key,[])=(l,rows,(rows.length:Int),(k:Int),key,QW l (fun k=>k==key) 1 rows k):=hx
 refine⟨h1,?_⟩
 rw[hr]
 show QW l (fun k=>k==key) 1 rows k=_
 rcases Nat.lt_or_ge k rows.length with h|h
 ·exact(Avs rows (of_decide_eq_true (hst h))).symm
 ·rw[show k=rows.length by omega,Aum]
theorem A9f (a0:List TGroup) (a1:List TRow) (a2:ByteArray) (hp:∀p∈ZF a0 a1 a2,p):CallOk Try.prog 85 [.sl .group a0,Ae .rows a1,Ae .str a2] 0 [] 1 (Ag2 a0 a1 a2) 0 (Ag1 a0 a1 a2):=by
 have hb:Ao a1.length:=hp _ (List.mem_cons_self ..)
 obtain⟨g1,g2⟩:=Bs3 a0 a1 a2 hb
 have hL:(bif CA a0 a1 a2 then[] else(Dj (a0,a1,(a1.length:Int),(0:Int),a2,[])).snd.snd.snd.snd.snd)=bif Ai6 a0 a1 a2 then[VC a0 a1 a2] else[]:=by
  rw[g2]
  unfold CA Ai6 VC
  cases hg:CZ a0 a1 !=0 with
  |true=>
   have:(CZ a0 a1==0)=false:=by simpa using hg
   rw[this]
   rfl
  |false=>
   have h0:CZ a0 a1=0:=by simpa using hg
   have:(CZ a0 a1==0)=true:=by simpa using h0
   rw[this,cond_false,Bnd (Akg h0).2.rise]
   rfl
 have hk:E2 a0 a1 a2=!Ai6 a0 a1 a2:=by
  unfold E2
  rw[hL]
  cases Ai6 a0 a1 a2<;>rfl
 have h:=Bfd a0 a1 a2 (Aa hb (Aa (fun _=>g1) (Aa (fun h=>by
  rw[hk,Bool.not_not] at h
  rw[hL,h]
  exact⟨Int.le_refl _,show(0:Int) <((1:Nat):Int) by decide⟩) Ad)))
 have e0:Qo a0 a1 a2=VC a0 a1 a2:=by
  unfold Qo
  rw[hk,hL]
  cases hs:Ai6 a0 a1 a2 with
  |true=>rfl
  | false=>
   unfold Ai6 at hs
   unfold VC
   cases hg:CZ a0 a1==0 with
   |false=>rfl
   |true=>
    rw[hg,Bool.true_and] at hs
    rw[cond_true,Bx2 hs]
    rfl
 have e1:WK a0 a1 a2=Ai6 a0 a1 a2:=by
  unfold WK
  rw[hk]
  cases Ai6 a0 a1 a2<;>rfl
 unfold WL at h
 rw[e0,e1] at h
 exact h
def Aox:List A→Nat→Objs→Option AU:=A5 [.l .group,.t .rows,.t .str] 0 Ag2 Ag1 ZF
theorem A23:Ev Try.prog 85 Aox:=As (ks:=[.l .group,.t .rows,.t .str]) A9f
noncomputable def Bsj:=AQ 85 Aox Bsi
theorem Bcu:Cp Try.prog Bsj:=Ak A23 Bct
def A81:ByteArray:=ByteArray.mk #[(97:UInt8)]
def A82:ByteArray:=ByteArray.mk #[(98:UInt8)]
def Agw:A:=.sq 0
def Agv:Objs:=[(0,some (.arr 79 2 (.lst [[.v (.string A81),.v (.int .i64 ((1:Int)))],[.v (.string A82),.v (.int .i64 ((2:Int)))]])))]
def ZB:List Prop:=[]
theorem A2y:Er (Au Bsj L0) 9 141 [] 0 []=some (1,Agw,1,Agv,ZB):=by kernel_rfl
theorem A83 (hp:∀p∈ZB,p):CallOk Try.prog 141 [] 0 [] 1 (Agw) 1 (Agv):=Az (Ap Bcu Ay) (A2y) hp
def Boh:List TGroup:=[⟨⟨#[97]⟩,1⟩,⟨⟨#[98]⟩,2⟩]
def ZC:A:=.sl .group Boh
def ZA:Objs:=[]
def WB:List Prop:=[]
theorem A2x (_hp:∀p∈WB,p):CallOk Try.prog 141 [] 0 [] 1 ZC 0 ZA:=by
 have h:=A83 (fun p h=>by cases h)
 exact Ajr (c:=.group) (Bo0 (c:=.group) (l:=Boh) (ps:=[]) h rfl (fun p h=>by cases h))
def Agx:List A→Nat→Objs→Option AU:=A5 [] 0 ZC ZA WB
theorem Aw1:Ev Try.prog 141 Agx:=As (ks:=[]) A2x
noncomputable def Bsk:=AQ 141 Agx Bsj
theorem Bcv:Cp Try.prog Bsk:=Ak Aw1 Bcu
def Ak3 (a0:Int) (a1:Int) (a2:Int) (a3:TVec) (_a4:TWrite):A:=.agg [.v (.int .i64 a0),.v (.int .i64 a1),.v (.int .i64 a2),.v (.int .i64 a0),.v (.int .i64 a3.1),.v (.int .i64 a3.2),.sq 0]
def Ak2 (_a0:Int) (_a1:Int) (_a2:Int) (_a3:TVec) (a4:TWrite):Objs:=[(0,some (.arr 139 4 (.lst [[.v (.string a4.1),.v (.int .i64 a4.2),.v (.bool a4.3),.v (.string a4.4)]])))]
def Ab6 (_a0:Int) (_a1:Int) (_a2:Int) (_a3:TVec) (_a4:TWrite):List Prop:=[]
theorem Bjf (a0:Int) (a1:Int) (a2:Int) (a3:TVec) (a4:TWrite):Er (Au Bsk L0) 9 140 [Ae .i64 a0,Ae .i64 a1,Ae .i64 a2,Ae .vec a3,Ae .write a4] 0 []=some (1,Ak3 a0 a1 a2 a3 a4,1,Ak2 a0 a1 a2 a3 a4,Ab6 a0 a1 a2 a3 a4):=by kernel_rfl
theorem Bpl (a0:Int) (a1:Int) (a2:Int) (a3:TVec) (a4:TWrite) (hp:∀p∈Ab6 a0 a1 a2 a3 a4,p):CallOk Try.prog 140 [Ae .i64 a0,Ae .i64 a1,Ae .i64 a2,Ae .vec a3,Ae .write a4] 0 [] 1 (Ak3 a0 a1 a2 a3 a4) 1 (Ak2 a0 a1 a2 a3 a4):=Az (Ap Bcv Ay) (Bjf a0 a1 a2 a3 a4) hp
def A5q:List A→Nat→Objs→Option AU:=A5 [.t .i64,.t .i64,.t .i64,.t .vec,.t .write] 1 Ak3 Ak2 Ab6
theorem Bey:Ev Try.prog 140 A5q:=As (ks:=[.t .i64,.t .i64,.t .i64,.t .vec,.t .write]) Bpl
noncomputable def Bsl:=AQ 140 A5q Bsk
theorem Bcw:Cp Try.prog Bsl:=Ak Bey Bcv
def l13_lives_k0:List TChange:=[TChange.mk (1:Int) (1:Int) (TStamp.mk (1:Int) (1:Int)) (TVec.mk (1:Int) (0:Int)) [TWrite.mk (ByteArray.mk #[(107:UInt8)]) (0:Int) false (ByteArray.mk #[(120:UInt8)])],TChange.mk (2:Int) (1:Int) (TStamp.mk (1:Int) (2:Int)) (TVec.mk (0:Int) (1:Int)) [TWrite.mk (ByteArray.mk #[(107:UInt8)]) (0:Int) true (ByteArray.mk #[])]]
def Aon:A:=.v (.bool (true))
def Aom:Objs:=[]
def A80:List Prop:=[((2:Nat)≤(7000:Nat)∧∀(c:TChange),c∈(l13_lives_k0)→Ao c.5.length),((3:Nat)≤(7000:Nat)∧∀(c:TChange),c∈TChange.mk (1:Int) (2:Int) (TStamp.mk (2:Int) (1:Int)) (TVec.mk (2:Int) (0:Int)) [TWrite.mk (ByteArray.mk #[(107:UInt8)]) (0:Int) false (ByteArray.mk #[(121:UInt8)])]::(l13_lives_k0)→Ao c.5.length),(Ao (1:Nat))]
theorem A8z:Er (Au Bsl L0) 9 81 [] 0 []=some (1,Aon,0,Aom,[((2:Nat)≤(7000:Nat)∧∀(c:TChange),c∈(l13_lives_k0)→Ao c.5.length),((3:Nat)≤(7000:Nat)∧∀(c:TChange),c∈TChange.mk (1:Int) (2:Int) (TStamp.mk (2:Int) (1:Int)) (TVec.mk (2:Int) (0:Int)) [TWrite.mk (ByteArray.mk #[(107:UInt8)]) (0:Int) false (ByteArray.mk #[(121:UInt8)])]::(l13_lives_k0)→Ao c.5.length),(Ao (1:Nat)),(Ao (1:Nat)),(true=true→(0:Int)≤(0:Int)∧(0:Int) <(1:Int))]):=by kernel_rfl
theorem Bex (hp:∀p∈A80,p):CallOk Try.prog 81 [] 0 [] 1 (Aon) 0 (Aom):=by
 have n0:=N0 hp
 have n1:=N0 (N1 hp)
 have n2:(Ao (1:Nat)):=N0 (N1 (N1 hp))
 have n4:(true=true→(0:Int)≤(0:Int)∧(0:Int) <(1:Int)):=by first|rfl|decide+kernel
 exact Az (Ap Bcw Ay) (A8z) (Aa n0 (Aa n1 (Aa n2 (Aa n2 (Aa n4 Ad)))))
def Agu:A:=.v (.bool true)
def Agt:Objs:=[]
def Zz:List Prop:=[]
theorem Be7:∀c∈l13_lives_k0,Ao c.5.length:=fun c hc=>by
 have h:l13_lives_k0.all (fun c=>Nat.beq c.5.length 1)=true:=rfl
 have h2:c.5.length=1:=Nat.eq_of_beq_eq_true (List.all_eq_true.1 h c hc)
 unfold Ao
 omega
theorem A8y (_hp:∀p∈Zz,p):CallOk Try.prog 81 [] 0 [] 1 Agu 0 Agt:=
 Bex (Aa ⟨by omega,Be7⟩ (Aa ⟨by omega,fun c hc=>by
  rcases List.mem_cons.1 hc with rfl|hc
  ·show(1:Nat)≤9223372036854775807
   omega
  ·exact Be7 c hc⟩ (Aa (by unfold Ao;omega) Ad)))
def Aoo:List A→Nat→Objs→Option AU:=A5 [] 0 Agu Agt Zz
theorem A2w:Ev Try.prog 81 Aoo:=As (ks:=[]) A8y
noncomputable def Bz8:=AQ 81 Aoo Bsl
theorem Bsm:Cp Try.prog Bz8:=Ak A2w Bcw
noncomputable def Cmv:=Bz8
theorem Bh8:Cp Try.prog Cmv:=Bsm
end Go.Proofs.Yteebobbhhgmeiaa
namespace Go.Proofs.Yteebobbhhgmeiaa
open Go.RowKit
noncomputable def Bcl:=AQ 149 (inl (Au Cmv L0) 20 149) Cmv
theorem Au3:Cp Try.prog Bcl:=Ak (TL (Ap Bh8 Ay) 20 149) Bh8
abbrev Dn:Type:=(List TGroup)×Int×(List TRow)×Int×Int×ByteArray×ByteArray×(List TView)
def NX (x:Dn):St:=⟨46,4,[(0,.sl .group x.1),(2,.v (.int .i64 x.2.1)),(3,.fn 149 [] [.own 0 0,.own 1 0]),(8,.sq 3),(17,.sl .row x.2.2.1),(18,.v (.int .i64 x.2.2.2.1)),(19,.v (.int .i64 x.2.2.2.2.1))],[(0,some (.box 9 [.v (.string x.2.2.2.2.2.1)])),(1,some (.box 9 [.v (.string x.2.2.2.2.2.2.1)])),(3,some (.arr 94 2 (.ty .view x.2.2.2.2.2.2.2)))]⟩
def Q0:St→Option Dn
 |⟨46,4,[(0,.sl .group z0),(2,.v (.int .i64 z1)),(3,.fn 149 [] [.own 0 0,.own 1 0]),(8,.sq 3),(17,.sl .row z2),(18,.v (.int .i64 z3)),(19,.v (.int .i64 z4))],[(0,some (.box 9 [.v (.string z5)])),(1,some (.box 9 [.v (.string z6)])),(3,some (.arr 94 2 (.ty .view z7)))]⟩=>some (z0,z1,z2,z3,z4,z5,z6,z7)
 |_=>none
theorem Arp:∀s x,Q0 s=some x→s=NX x:=fun s x h=>by
 unfold Q0 at h
 split at h
 ·cases h;rfl
 ·cases h
def Afa:CU:=⟨3,4,[0,2,3,8,17,18,19],[],[(0,0),(1,1),(9,3)],[0,1,9],[8],[3,0,1]⟩
def A71:C9:=⟨[.nil 8 94 .view],[(0,0),(1,1),(2,3)],[0,2,3,8,17,18,19],[0,1,2]⟩
def UC (_a0:List TGroup) (a1:Int) (_a2:List TRow) (a3:Int) (a4:Int) (_a5:ByteArray) (_a6:ByteArray) (a7:List TView):Bool:=!decide (a4 <a3)||decide ((↑a7.length:Int)≥a1)
def FC (a0:List TGroup) (_a1:Int) (a2:List TRow) (_a3:Int) (a4:Int) (a5:ByteArray) (a6:ByteArray) (_a7:List TView):Bool:=bif Fc a0 (a2.getD a4.toNat (Ac TC.row)) then !Op.bytesLess (a2.getD a4.toNat (Ac TC.row)).1.toList a5.toList&&(a6.toList==(ByteArray.mk #[]).toList||Op.bytesLess (a2.getD a4.toNat (Ac TC.row)).1.toList a6.toList) else false
def Ou (a0:List TGroup) (a1:Int) (a2:List TRow) (a3:Int) (a4:Int) (a5:ByteArray) (a6:ByteArray) (a7:List TView):ByteArray:=bif(FC a0 a1 a2 a3 a4 a5 a6 a7) then a5 else a5
def Ov (a0:List TGroup) (a1:Int) (a2:List TRow) (a3:Int) (a4:Int) (a5:ByteArray) (a6:ByteArray) (a7:List TView):ByteArray:=bif(FC a0 a1 a2 a3 a4 a5 a6 a7) then a6 else a6
def Ow (a0:List TGroup) (a1:Int) (a2:List TRow) (a3:Int) (a4:Int) (a5:ByteArray) (a6:ByteArray) (a7:List TView):List TView:=bif(FC a0 a1 a2 a3 a4 a5 a6 a7) then a7++[TView.mk (LO a0 (a2.getD a4.toNat (Ac TC.row))) (QS a0 (a2.getD a4.toNat (Ac TC.row)))] else a7
def Avx (a0:List TGroup) (a1:Int) (a2:List TRow) (a3:Int) (a4:Int) (a5:ByteArray) (a6:ByteArray) (a7:List TView):Bool:=!(UC a0 a1 a2 a3 a4 a5 a6 a7)
def Aro (a0:List TGroup) (a1:Int) (a2:List TRow) (a3:Int) (a4:Int) (a5:ByteArray) (a6:ByteArray) (a7:List TView):Bool:=(UC a0 a1 a2 a3 a4 a5 a6 a7)
def FE (x:Dn):Dn:=(x.1,x.2.1,x.2.2.1,x.2.2.2.1,IntKind.i64.wrap (x.2.2.2.2.1+(1:Int)),Ou x.1 x.2.1 x.2.2.1 x.2.2.2.1 x.2.2.2.2.1 x.2.2.2.2.2.1 x.2.2.2.2.2.2.1 x.2.2.2.2.2.2.2,Ov x.1 x.2.1 x.2.2.1 x.2.2.2.1 x.2.2.2.2.1 x.2.2.2.2.2.1 x.2.2.2.2.2.2.1 x.2.2.2.2.2.2.2,Ow x.1 x.2.1 x.2.2.1 x.2.2.2.1 x.2.2.2.2.1 x.2.2.2.2.2.1 x.2.2.2.2.2.2.1 x.2.2.2.2.2.2.2)
def FD (x:Dn):Cnd:=some (Avx x.1 x.2.1 x.2.2.1 x.2.2.2.1 x.2.2.2.2.1 x.2.2.2.2.2.1 x.2.2.2.2.2.2.1 x.2.2.2.2.2.2.2)
def VR (x:Dn):List Prop:=[((!!decide (x.2.2.2.2.1 <x.2.2.2.1))=true→(0:Int)≤x.2.2.2.2.1∧x.2.2.2.2.1 <(↑x.2.2.1.length:Int)),((!!decide (x.2.2.2.2.1 <x.2.2.2.1))=true→(!decide ((↑x.2.2.2.2.2.2.2.length:Int)≥x.2.1))=true→false=false),((!!decide (x.2.2.2.2.1 <x.2.2.2.1))=true→(!decide ((↑x.2.2.2.2.2.2.2.length:Int)≥x.2.1))=true→(FC x.1 x.2.1 x.2.2.1 x.2.2.2.1 x.2.2.2.2.1 x.2.2.2.2.2.1 x.2.2.2.2.2.2.1 x.2.2.2.2.2.2.2)=true→Ag (x.2.2.2.2.2.2.2.length+(1:Nat)))]
def IQ (x:Dn):List Prop:=[((!!decide (x.2.2.2.2.1 <x.2.2.2.1))=true→(0:Int)≤x.2.2.2.2.1∧x.2.2.2.2.1 <(↑x.2.2.1.length:Int)),((!!decide (x.2.2.2.2.1 <x.2.2.2.1))=true→(!decide ((↑x.2.2.2.2.2.2.2.length:Int)≥x.2.1))=true→(FC x.1 x.2.1 x.2.2.1 x.2.2.2.1 x.2.2.2.2.1 x.2.2.2.2.2.1 x.2.2.2.2.2.2.1 x.2.2.2.2.2.2.2)=true→Ag (x.2.2.2.2.2.2.2.length+(1:Nat)))]
def UD (x:Dn):Bb:=[(some 0,some (Aro x.1 x.2.1 x.2.2.1 x.2.2.2.1 x.2.2.2.2.1 x.2.2.2.2.2.1 x.2.2.2.2.2.2.1 x.2.2.2.2.2.2.2),⟨46,5,[(8,.sq 3)],[(3,some (.arr 94 2 (.ty .view x.2.2.2.2.2.2.2))),(0,some (.box 9 [.v (.string x.2.2.2.2.2.1)])),(1,some (.box 9 [.v (.string x.2.2.2.2.2.2.1)]))]⟩)]
def G6 (x:Dn):Nat:=(x.2.2.2.1 - x.2.2.2.2.1).toNat
def Ox (x:Dn):Dn:=AZ FE FD (G6 x) x
theorem A2j (a0:List TGroup) (a1:Int) (a2:List TRow) (a3:Int) (a4:Int) (a5:ByteArray) (a6:ByteArray) (a7:List TView):Bl (Au Bcl L0) 9 (Af Try.prog 146 0) Afa (NX (a0,a1,a2,a3,a4,a5,a6,a7))=some (VR (a0,a1,a2,a3,a4,a5,a6,a7),UD (a0,a1,a2,a3,a4,a5,a6,a7),FD (a0,a1,a2,a3,a4,a5,a6,a7),NX (FE (a0,a1,a2,a3,a4,a5,a6,a7))):=by kernel_rfl
theorem A2k (a0:List TGroup) (a1:Int) (a2:List TRow) (a3:Int) (a4:Int) (a5:ByteArray) (a6:ByteArray) (a7:List TView) (hp:∀p∈IQ (a0,a1,a2,a3,a4,a5,a6,a7),p):∀p∈VR (a0,a1,a2,a3,a4,a5,a6,a7),p:=by
 have n0:=N0 hp
 have n1:((!!decide (a4 <a3))=true→(!decide ((↑a7.length:Int)≥a1))=true→false=false):=by intros;rfl
 have n2:=N0 (N1 hp)
 exact(Aa n0 (Aa n1 (Aa n2 Ad)))
noncomputable def VS:=Hw (Au Bcl L0) (Af Try.prog 146 0) Afa A71 Q0 G6 FE FD IQ UD
theorem Avy:∀s b ps outs,VS s=some (b,ps,outs)→Wf s ⟨ps,outs,none⟩∧Bh (Au C0 L0) b s ps outs:=
 A9 (T:=NX) Au3 Ay (u:=9) (by kernel_rfl) (by decide) (fun⟨a0,a1,a2,a3,a4,a5,a6,a7⟩=>A2j a0 a1 a2 a3 a4 a5 a6 a7) (fun⟨a0,a1,a2,a3,a4,a5,a6,a7⟩=>A2k a0 a1 a2 a3 a4 a5 a6 a7) Arp (fun _=>AH (n:=46) rfl) fun _ _=>rfl
noncomputable def Ae9:=Di 0 VS L0
theorem Avw:G1 Ae9:=AS Avy Ay
noncomputable def Br8:=AQ 146 (inl (Au Bcl Ae9) 20 146) Bcl
theorem Bcm:Cp Try.prog Br8:=Ak (TL (Ap Au3 Avw) 20 146) Au3
def IS (a0:List TGroup) (a1:List TRow) (_a2:ByteArray) (_a3:ByteArray) (_a4:Int):Bool:=CZ a0 a1 !=(0:Int)
def TY (a0:List TGroup) (a1:List TRow) (a2:ByteArray) (a3:ByteArray) (a4:Int):List TView:=bif(IS a0 a1 a2 a3 a4) then[] else(Ox (a0,a4,a1,(↑a1.length:Int),(0:Int),a2,a3,[])).snd.snd.snd.snd.snd.snd.snd
def T0 (_a0:List TGroup) (_a1:List TRow) (_a2:ByteArray) (_a3:ByteArray) (_a4:Int):A:=.sq 0
def TZ (a0:List TGroup) (a1:List TRow) (a2:ByteArray) (a3:ByteArray) (a4:Int):Objs:=[(0,some (.arr 94 2 (.ty .view (TY a0 a1 a2 a3 a4))))]
def A29 (a0:List TGroup) (a1:List TRow) (a2:ByteArray) (a3:ByteArray) (a4:Int):List Prop:=[(Ao a1.length),((!(IS a0 a1 a2 a3 a4))=true→AD FE FD IQ (G6 (a0,a4,a1,(↑a1.length:Int),(0:Int),a2,a3,[])) (a0,a4,a1,(↑a1.length:Int),(0:Int),a2,a3,[]))]
theorem A28 (a0:List TGroup) (a1:List TRow) (a2:ByteArray) (a3:ByteArray) (a4:Int):Er (Au Br8 L0) 9 88 [.sl .group a0,Ae .rows a1,Ae .str a2,Ae .str a3,Ae .i64 a4] 0 []=some (1,T0 a0 a1 a2 a3 a4,1,TZ a0 a1 a2 a3 a4,[(Ao a1.length),((!(IS a0 a1 a2 a3 a4))=true→Af Try.prog (146:FuncId) (0:Nat)=Af Try.prog (146:FuncId) (0:Nat)),((!(IS a0 a1 a2 a3 a4))=true→AD FE FD IQ (G6 (a0,a4,a1,(↑a1.length:Int),(0:Int),a2,a3,[])) (a0,a4,a1,(↑a1.length:Int),(0:Int),a2,a3,[]))]):=by kernel_rfl
theorem A9j (a0:List TGroup) (a1:List TRow) (a2:ByteArray) (a3:ByteArray) (a4:Int) (hp:∀p∈A29 a0 a1 a2 a3 a4,p):CallOk Try.prog 88 [.sl .group a0,Ae .rows a1,Ae .str a2,Ae .str a3,Ae .i64 a4] 0 [] 1 (T0 a0 a1 a2 a3 a4) 1 (TZ a0 a1 a2 a3 a4):=by
 have n0:=N0 hp
 have n1:((!(IS a0 a1 a2 a3 a4))=true→Af Try.prog (146:FuncId) (0:Nat)=Af Try.prog (146:FuncId) (0:Nat)):=by intros;rfl
 have n2:=N0 (N1 hp)
 exact Az (Ap Bcm Ay) (A28 a0 a1 a2 a3 a4) (Aa n0 (Aa n1 (Aa n2 Ad)))
def ZM (a0:List TGroup) (a1:List TRow) (a2 a3:ByteArray) (a4:Int):A:=.sl .view (Aej a0 a1 a2 a3 a4)
def ZL (_a0:List TGroup) (_a1:List TRow) (_a2 _a3:ByteArray) (_a4:Int):Objs:=[]
def WQ (_a0:List TGroup) (a1:List TRow) (_a2 _a3:ByteArray) (_a4:Int):List Prop:=[a1.length≤400000]
theorem Bhy (b:ByteArray):(b.toList==(ByteArray.mk #[]).toList)=(b.size==0):=by
 rw[tlb,Bool.eq_iff_iff,beq_iff_eq,beq_iff_eq]
 constructor
 ·rintro rfl
  rfl
 ·intro h
  obtain⟨d⟩:=b
  have:d=#[]:=Array.eq_empty_of_size_eq_zero h
  rw[this]
theorem Bs5 (l:List TGroup) (rows:List TRow) (a b:ByteArray) (n:Int) (hb:rows.length≤400000):
  AD FE FD IQ (G6 (l,n,rows,(rows.length:Int),0,a,b,[])) (l,n,rows,(rows.length:Int),0,a,b,[])∧(Ox (l,n,rows,(rows.length:Int),0,a,b,[])).snd.snd.snd.snd.snd.snd.snd=chL l (inK a b) n rows:=by
 have same:∀(c:Bool) (x:ByteArray),(bif c then x else x)=x:=fun c x=>by cases c<;>rfl
 have hk0:∀(i:Nat) (o:List TView),FC l n rows (rows.length:Int) (i:Int) a b o=(Fc l (Bn rows i)&&inK a b (Bn rows i).key):=fun i o=>by
  unfold FC inK
  rw[Bhy,Int.toNat_natCast]
  show(bif Fc l (Bn rows i) then _ else false)=_
  cases Fc l (Bn rows i)<;>rfl
 obtain⟨h1,k,hk,hx,_,hst,_⟩:=Ij (fun i=>(l,n,rows,(rows.length:Int),(i:Int),a,b,QW l (inK a b) n rows i):Nat→Dn) rows.length (fun i=>decide (((QW l (inK a b) n rows i).length:Int)≥n)) FE FD IQ (G6 (l,n,rows,(rows.length:Int),0,a,b,[])) (l,n,rows,(rows.length:Int),0,a,b,[]) rfl (by show rows.length≤((rows.length:Int) - 0).toNat;omega)
  (fun i _ _=>by
   show(!(!decide ((i:Int) <(rows.length:Int))||decide (((QW l (inK a b) n rows i).length:Int)≥n)))=_
   rw[Bool.not_or,nn,Mp])
  (fun i hi h0=>by
   show(l,n,rows,(rows.length:Int),IntKind.i64.wrap ((i:Int)+1),Ou l n rows (rows.length:Int) (i:Int) a b (QW l (inK a b) n rows i),Ov l n rows (rows.length:Int) (i:Int) a b (QW l (inK a b) n rows i),Ow l n rows (rows.length:Int) (i:Int) a b (QW l (inK a b) n rows i))=(l,n,rows,(rows.length:Int),((i+1:Nat):Int),a,b,QW l (inK a b) n rows (i+1))
   unfold Ou Ov Ow
   rw[same,same,Eu (by omega),Ae8 rows i hi,hk0,Int.toNat_natCast]
   unfold chS
   rw[h0 i (Nat.lt_succ_self i),cond_false]
   rfl)
  (fun i hi _=>by
   have hin:(!!decide ((i:Int) <(rows.length:Int)))=true→(i:Int) <(rows.length:Int):=fun h=>by rw[nn] at h;exact of_decide_eq_true h
   refine Aa (fun h=>⟨by show(0:Int)≤(i:Int);omega,hin h⟩) (Aa (fun _ _ _=>?_) Ad)
   have:=Aun (l:=l) (q:=inK a b) (n:=n) rows i hi
   show Ag ((QW l (inK a b) n rows i).length+1)
   unfold Ag
   omega)
 have hr:Ox (l,n,rows,(rows.length:Int),0,a,b,[])=(l,n,rows,(rows.length:Int),(k:Int),a,b,QW l (inK a b) n rows k):=hx
 refine⟨h1,?_⟩
 rw[hr]
 show QW l (inK a b) n rows k=_
 rcases Nat.lt_or_ge k rows.length with h|h
 ·exact(Avs rows (of_decide_eq_true (hst h))).symm
 ·rw[show k=rows.length by omega,Aum]
theorem A27 (a0:List TGroup) (a1:List TRow) (a2 a3:ByteArray) (a4:Int) (hp:∀p∈WQ a0 a1 a2 a3 a4,p):CallOk Try.prog 88 [.sl .group a0,Ae .rows a1,Ae .str a2,Ae .str a3,Ae .i64 a4] 0 [] 1 (ZM a0 a1 a2 a3 a4) 0 (ZL a0 a1 a2 a3 a4):=by
 have hb:a1.length≤400000:=hp _ (List.mem_cons_self ..)
 obtain⟨g1,g2⟩:=Bs5 a0 a1 a2 a3 a4 hb
 have h:=A9j a0 a1 a2 a3 a4 (Aa (by unfold Ao;omega) (Aa (fun _=>g1) Ad))
 have e:TY a0 a1 a2 a3 a4=Aej a0 a1 a2 a3 a4:=by
  unfold TY Aej
  rw[g2]
  have hk:IS a0 a1 a2 a3 a4=!(CZ a0 a1==0):=rfl
  rw[hk]
  cases CZ a0 a1==0<;>rfl
 unfold T0 TZ at h
 rw[e] at h
 exact Ajr (c:=.view) h
def T1:List A→Nat→Objs→Option AU:=A5 [.l .group,.t .rows,.t .str,.t .str,.t .i64] 0 ZM ZL WQ
theorem WR:Ev Try.prog 88 T1:=As (ks:=[.l .group,.t .rows,.t .str,.t .str,.t .i64]) A27
noncomputable def Bz2:=AQ 88 T1 Br8
theorem Br9:Cp Try.prog Bz2:=Ak WR Bcm
noncomputable def Cmk:=Bz2
theorem B1m:Cp Try.prog Cmk:=Br9
end Go.Proofs.Yteebobbhhgmeiaa
namespace Go.Proofs.Yteebobbhhgmeiaa
open Go.RowKit
noncomputable def Bz3:=AQ 64 Ady Cmk
theorem Bsa:Cp Try.prog Bz3:=Ak Aif B1m
noncomputable def Bz4:=AQ 59 LB Bz3
theorem Bsb:Cp Try.prog Bz4:=Ak Mi Bsa
noncomputable def Bz5:=AQ 93 A0z Bz4
theorem Bsc:Cp Try.prog Bz5:=Ak Bau Bsb
noncomputable def Bsd:=AQ 148 Amu Bz5
theorem Bcn:Cp Try.prog Bsd:=Ak Aqd Bsc
def KI (a0:List TGroup) (a1:List TRow) (_a2:ByteArray):Bool:=CZ a0 a1 !=(0:Int)
def Amz (a0:List TGroup) (a1:List TRow) (a2:ByteArray):ByteArray:=bif(KI a0 a1 a2) then ByteArray.mk #[] else bif !gtB a1 a2 then ByteArray.mk #[] else LO a0 (TRow.mk (gtK a1 a2) (gtC a1 a2))
def Am0 (a0:List TGroup) (a1:List TRow) (a2:ByteArray):Bool:=bif(KI a0 a1 a2) then false else bif !gtB a1 a2 then false else Fc a0 (TRow.mk (gtK a1 a2) (gtC a1 a2))
def Am1 (a0:List TGroup) (a1:List TRow) (a2:ByteArray):List TField:=bif(KI a0 a1 a2) then[] else bif !gtB a1 a2 then[] else QS a0 (TRow.mk (gtK a1 a2) (gtC a1 a2))
def Am3 (a0:List TGroup) (a1:List TRow) (a2:ByteArray):A:=.tup [.agg [.v (.string (Amz a0 a1 a2)),.sq 0],.v (.bool (Am0 a0 a1 a2))]
def Am2 (a0:List TGroup) (a1:List TRow) (a2:ByteArray):Objs:=[(0,some (.arr 142 2 (.ty .field (Am1 a0 a1 a2))))]
def A0u (a0:List TGroup) (a1:List TRow) (a2:ByteArray):List Prop:=[(Ao a1.length),(∀(g:TGroup),g∈a0→Ao g.1.size),((!(KI a0 a1 a2))=true→Ao a1.length),((!(KI a0 a1 a2))=true→∀(r:TRow),r∈a1→Ag r.2.length),((!(KI a0 a1 a2))=true→(!!gtB a1 a2)=true→∀(g:TGroup),g∈a0→Ao g.1.size)]
theorem Bkz (a0:List TGroup) (a1:List TRow) (a2:ByteArray):Er (Au Bsd L0) 9 86 [.sl .group a0,Ae .rows a1,Ae .str a2] 0 []=some (1,Am3 a0 a1 a2,1,Am2 a0 a1 a2,A0u a0 a1 a2):=by kernel_rfl
theorem Bp5 (a0:List TGroup) (a1:List TRow) (a2:ByteArray) (hp:∀p∈A0u a0 a1 a2,p):CallOk Try.prog 86 [.sl .group a0,Ae .rows a1,Ae .str a2] 0 [] 1 (Am3 a0 a1 a2) 1 (Am2 a0 a1 a2):=Az (Ap Bcn Ay) (Bkz a0 a1 a2) hp
def A0v (a0:List TGroup) (a1:List TRow) (a2:ByteArray):A:=.tup [.agg [.v (.string (VC a0 a1 a2).key),.sq 0],.v (.bool (Ai6 a0 a1 a2))]
def A0t (a0:List TGroup) (a1:List TRow) (a2:ByteArray):Objs:=[(0,some (.arr 142 2 (.ty .field (VC a0 a1 a2).fields)))]
def Aql (a0:List TGroup) (a1:List TRow) (_a2:ByteArray):List Prop:=[Ao a1.length,∀r∈a1,Ag r.cells.length,∀g∈a0,Ao g.1.size]
theorem Bky (a0:List TGroup) (a1:List TRow) (a2:ByteArray) (hp:∀p∈Aql a0 a1 a2,p):CallOk Try.prog 86 [.sl .group a0,Ae .rows a1,Ae .str a2] 0 [] 1 (A0v a0 a1 a2) 1 (A0t a0 a1 a2):=by
 have hb:Ao a1.length:=hp _ (List.mem_cons_self ..)
 have hc:∀r∈a1,Ag r.cells.length:=hp _ (List.mem_cons_of_mem _ (List.mem_cons_self ..))
 have hw:∀g∈a0,Ao g.1.size:=hp _ (List.mem_cons_of_mem _ (List.mem_cons_of_mem _ (List.mem_cons_self ..)))
 have h:=Bp5 a0 a1 a2 (Aa hb (Aa hw (Aa (fun _=>hb) (Aa (fun _=>hc) (Aa (fun _ _=>hw) Ad)))))
 have hk:KI a0 a1 a2=!(CZ a0 a1==0):=rfl
 have e:Amz a0 a1 a2=(VC a0 a1 a2).key∧Am0 a0 a1 a2=Ai6 a0 a1 a2∧Am1 a0 a1 a2=(VC a0 a1 a2).fields:=by
  unfold Amz Am0 Am1 VC Ai6 Bi8 Bpi gtB gtK gtC
  rw[hk]
  cases CZ a0 a1==0 with
  |false=>exact⟨rfl,rfl,rfl⟩
  |true=>
   cases atK a1 a2 with
   |none=>exact⟨rfl,rfl,rfl⟩
   |some r=>exact⟨rfl,rfl,rfl⟩
 unfold Am3 Am2 at h
 rw[e.1,e.2.1,e.2.2] at h
 exact h
def Am4:List A→Nat→Objs→Option AU:=A5 [.l .group,.t .rows,.t .str] 1 A0v A0t Aql
theorem Aqm:Ev Try.prog 86 Am4:=As (ks:=[.l .group,.t .rows,.t .str]) Bky
noncomputable def Bco:=AQ 86 Am4 Bsd
theorem Au4:Cp Try.prog Bco:=Ak Aqm Bcn
abbrev CR:Type:=(List TGroup)×(List TRow)×ByteArray×ByteArray×Int×Int×(List TView)
def MG (x:CR):St:=⟨63,2,[(0,.sl .group x.1),(1,.sl .row x.2.1),(2,.v (.string x.2.2.1)),(3,.v (.string x.2.2.2.1)),(4,.v (.int .i64 x.2.2.2.2.1)),(11,.dq 1),(12,.v (.int .i64 x.2.2.2.2.2.1))],[(1,some (.deep 94 .view x.2.2.2.2.2.2))]⟩
def PD:St→Option CR
 |⟨63,2,[(0,.sl .group z0),(1,.sl .row z1),(2,.v (.string z2)),(3,.v (.string z3)),(4,.v (.int .i64 z4)),(11,.dq 1),(12,.v (.int .i64 z5))],[(1,some (.deep 94 .view z6))]⟩=>some (z0,z1,z2,z3,z4,z5,z6)
 |_=>none
theorem Am8:∀s x,PD s=some x→s=MG x:=fun s x h=>by
 unfold PD at h
 split at h
 ·cases h;rfl
 ·cases h
def Aat:CU:=⟨1,2,[0,1,2,3,4,11,12],[],[(6,1)],[6],[11],[1]⟩
def A4a:C9:=⟨[.nilD 11 94 .view],[(0,1)],[0,1,2,3,4,11,12],[0]⟩
def ET (_a0:List TGroup) (a1:List TRow) (_a2:ByteArray) (_a3:ByteArray) (a4:Int) (a5:Int) (a6:List TView):Bool:=!!(decide (a5 <(↑a1.length:Int))&&decide ((↑a6.length:Int) <a4))
def JS (a0:List TGroup) (a1:List TRow) (a2:ByteArray) (a3:ByteArray) (_a4:Int) (a5:Int) (_a6:List TView):Bool:=Fc a0 (a1.getD a5.toNat (Ac TC.row))&&!Op.bytesLess (LO a0 (a1.getD a5.toNat (Ac TC.row))).toList a2.toList&&(a3.toList==(ByteArray.mk #[]).toList||Op.bytesLess (LO a0 (a1.getD a5.toNat (Ac TC.row))).toList a3.toList)
def NC (a0:List TGroup) (a1:List TRow) (a2:ByteArray) (a3:ByteArray) (a4:Int) (a5:Int) (a6:List TView):List TView:=bif(JS a0 a1 a2 a3 a4 a5 a6) then a6++[Yh TC.view TC.field (TView.mk (LO a0 (a1.getD a5.toNat (Ac TC.row))) []) (QS a0 (a1.getD a5.toNat (Ac TC.row)))] else a6
def Am7 (_a0:List TGroup) (a1:List TRow) (_a2:ByteArray) (_a3:ByteArray) (a4:Int) (a5:Int) (a6:List TView):Bool:=!(decide (a5 <(↑a1.length:Int))&&decide ((↑a6.length:Int) <a4))
def EV (x:CR):CR:=(x.1,x.2.1,x.2.2.1,x.2.2.2.1,x.2.2.2.2.1,IntKind.i64.wrap (x.2.2.2.2.2.1+(1:Int)),NC x.1 x.2.1 x.2.2.1 x.2.2.2.1 x.2.2.2.2.1 x.2.2.2.2.2.1 x.2.2.2.2.2.2)
def EU (x:CR):Cnd:=some ((ET x.1 x.2.1 x.2.2.1 x.2.2.2.1 x.2.2.2.2.1 x.2.2.2.2.2.1 x.2.2.2.2.2.2))
def ND (x:CR):List Prop:=[((ET x.1 x.2.1 x.2.2.1 x.2.2.2.1 x.2.2.2.2.1 x.2.2.2.2.2.1 x.2.2.2.2.2.2)=true→(0:Int)≤x.2.2.2.2.2.1∧x.2.2.2.2.2.1 <(↑x.2.1.length:Int)),((ET x.1 x.2.1 x.2.2.1 x.2.2.2.1 x.2.2.2.2.1 x.2.2.2.2.2.1 x.2.2.2.2.2.2)=true→∀(g:TGroup),g∈x.1→Ao g.1.size),((ET x.1 x.2.1 x.2.2.1 x.2.2.2.1 x.2.2.2.2.1 x.2.2.2.2.2.1 x.2.2.2.2.2.2)=true→(JS x.1 x.2.1 x.2.2.1 x.2.2.2.1 x.2.2.2.2.1 x.2.2.2.2.2.1 x.2.2.2.2.2.2)=true→Ag (x.2.2.2.2.2.2.length+(1:Nat)))]
abbrev Ie:CR→List Prop:=ND
def Td (x:CR):Bb:=[(some 0,some (Am7 x.1 x.2.1 x.2.2.1 x.2.2.2.1 x.2.2.2.2.1 x.2.2.2.2.2.1 x.2.2.2.2.2.2),⟨63,2,[(11,.dq 1)],[(1,some (.deep 94 .view x.2.2.2.2.2.2))]⟩)]
def GC (x:CR):Nat:=((↑x.2.1.length:Int) - x.2.2.2.2.2.1).toNat
def NE (x:CR):CR:=AZ EV EU (GC x) x
theorem A00 (a0:List TGroup) (a1:List TRow) (a2:ByteArray) (a3:ByteArray) (a4:Int) (a5:Int) (a6:List TView):Bl (Au Bco L0) 9 (Af Try.prog 89 0) Aat (MG (a0,a1,a2,a3,a4,a5,a6))=some (ND (a0,a1,a2,a3,a4,a5,a6),Td (a0,a1,a2,a3,a4,a5,a6),EU (a0,a1,a2,a3,a4,a5,a6),MG (EV (a0,a1,a2,a3,a4,a5,a6))):=by kernel_rfl
theorem A01 (a0:List TGroup) (a1:List TRow) (a2:ByteArray) (a3:ByteArray) (a4:Int) (a5:Int) (a6:List TView) (hp:∀p∈Ie (a0,a1,a2,a3,a4,a5,a6),p):∀p∈ND (a0,a1,a2,a3,a4,a5,a6),p:=hp
noncomputable def Vo:=Hw (Au Bco L0) (Af Try.prog 89 0) Aat A4a PD GC EV EU Ie Td
theorem At1:∀s b ps outs,Vo s=some (b,ps,outs)→Wf s ⟨ps,outs,none⟩∧Bh (Au C0 L0) b s ps outs:=
 A9 (T:=MG) Au4 Ay (u:=9) (by kernel_rfl) (by decide) (fun⟨a0,a1,a2,a3,a4,a5,a6⟩=>A00 a0 a1 a2 a3 a4 a5 a6) (fun⟨a0,a1,a2,a3,a4,a5,a6⟩=>A01 a0 a1 a2 a3 a4 a5 a6) Am8 (fun _=>AH (n:=63) rfl) fun _ _=>rfl
noncomputable def Aas:=Di 0 Vo L0
theorem At0:G1 Aas:=AS At1 Ay
def KQ (a0:List TGroup) (a1:List TRow) (_a2:ByteArray) (_a3:ByteArray) (_a4:Int):Bool:=CZ a0 a1 !=(0:Int)
def Ad3 (a0:List TGroup) (a1:List TRow) (a2:ByteArray) (a3:ByteArray) (a4:Int):List TView:=bif(KQ a0 a1 a2 a3 a4) then[] else(NE (a0,a1,a2,a3,a4,(0:Int),[])).snd.snd.snd.snd.snd.snd
def Ad5 (_a0:List TGroup) (_a1:List TRow) (_a2:ByteArray) (_a3:ByteArray) (_a4:Int):A:=.dq 0
def Ad4 (a0:List TGroup) (a1:List TRow) (a2:ByteArray) (a3:ByteArray) (a4:Int):Objs:=[(0,some (.deep 94 .view (Ad3 a0 a1 a2 a3 a4)))]
def Bg4 (a0:List TGroup) (a1:List TRow) (a2:ByteArray) (a3:ByteArray) (a4:Int):List Prop:=[(Ao a1.length),(∀(g:TGroup),g∈a0→Ao g.1.size),((!(KQ a0 a1 a2 a3 a4))=true→AD EV EU Ie (GC (a0,a1,a2,a3,a4,(0:Int),[])) (a0,a1,a2,a3,a4,(0:Int),[]))]
theorem Bg3 (a0:List TGroup) (a1:List TRow) (a2:ByteArray) (a3:ByteArray) (a4:Int):Er (Au Bco Aas) 9 89 [.sl .group a0,Ae .rows a1,Ae .str a2,Ae .str a3,Ae .i64 a4] 0 []=some (1,Ad5 a0 a1 a2 a3 a4,1,Ad4 a0 a1 a2 a3 a4,[(Ao a1.length),(∀(g:TGroup),g∈a0→Ao g.1.size),((!(KQ a0 a1 a2 a3 a4))=true→Af Try.prog (89:FuncId) (0:Nat)=Af Try.prog (89:FuncId) (0:Nat)),((!(KQ a0 a1 a2 a3 a4))=true→AD EV EU Ie (GC (a0,a1,a2,a3,a4,(0:Int),[])) (a0,a1,a2,a3,a4,(0:Int),[]))]):=by kernel_rfl
theorem Bk1 (a0:List TGroup) (a1:List TRow) (a2:ByteArray) (a3:ByteArray) (a4:Int) (hp:∀p∈Bg4 a0 a1 a2 a3 a4,p):CallOk Try.prog 89 [.sl .group a0,Ae .rows a1,Ae .str a2,Ae .str a3,Ae .i64 a4] 0 [] 1 (Ad5 a0 a1 a2 a3 a4) 1 (Ad4 a0 a1 a2 a3 a4):=by
 have n0:=N0 hp
 have n1:=N0 (N1 hp)
 have n2:((!(KQ a0 a1 a2 a3 a4))=true→Af Try.prog (89:FuncId) (0:Nat)=Af Try.prog (89:FuncId) (0:Nat)):=by intros;rfl
 have n3:=N0 (N1 (N1 hp))
 exact Az (Ap Au4 At0) (Bg3 a0 a1 a2 a3 a4) (Aa n0 (Aa n1 (Aa n2 (Aa n3 Ad))))
def Aqs (_a0:List TGroup) (_a1:List TRow) (_a2 _a3:ByteArray) (_a4:Int):A:=.dq 0
def Aqr (a0:List TGroup) (a1:List TRow) (a2 a3:ByteArray) (a4:Int):Objs:=[(0,some (.deep 94 .view (Aej a0 a1 a2 a3 a4)))]
def Air (a0:List TGroup) (a1:List TRow) (_a2 _a3:ByteArray) (_a4:Int):List Prop:=[a1.length≤400000,∀g∈a0,Ao g.1.size]
theorem Bvd (l:List TGroup) (rows:List TRow) (a b:ByteArray) (n:Int) (hb:rows.length≤400000) (hw:∀g∈l,Ao g.1.size):
  AD EV EU Ie (GC (l,rows,a,b,n,0,[])) (l,rows,a,b,n,0,[])∧(NE (l,rows,a,b,n,0,[])).snd.snd.snd.snd.snd.snd=chL l (inK a b) n rows:=by
 have hk0:∀(i:Nat) (o:List TView),JS l rows a b n (i:Int) o=(Fc l (Bn rows i)&&inK a b (Bn rows i).key):=fun i o=>by
  unfold JS inK
  rw[Bhy,Int.toNat_natCast]
  show(Fc l (Bn rows i)&&!Jy (LO l (Bn rows i)) a&&(b.size==0||Jy (LO l (Bn rows i)) b))=_
  cases hv:Fc l (Bn rows i) with
  |false=>rfl
  |true=>rw[Bqy hv];rfl
 have hk1:∀(i:Nat),ET l rows a b n (i:Int) (QW l (inK a b) n rows i)=(decide (i <rows.length)&&!decide (((QW l (inK a b) n rows i).length:Int)≥n)):=fun i=>by
  unfold ET
  rw[nn,Mp]
  congr 1
  by_cases h:((QW l (inK a b) n rows i).length:Int) <n
  ·rw[decide_eq_true h,decide_eq_false (by omega)];rfl
  ·rw[decide_eq_false h,decide_eq_true (by omega)];rfl
 obtain⟨h1,k,hk,hx,_,hst,_⟩:=Ij (fun i=>(l,rows,a,b,n,(i:Int),QW l (inK a b) n rows i):Nat→CR) rows.length (fun i=>decide (((QW l (inK a b) n rows i).length:Int)≥n)) EV EU Ie (GC (l,rows,a,b,n,0,[])) (l,rows,a,b,n,0,[]) rfl (by show rows.length≤((rows.length:Int) - 0).toNat;omega)
  (fun i _ _=>hk1 i)
  (fun i hi h0=>by
   show(l,rows,a,b,n,IntKind.i64.wrap ((i:Int)+1),NC l rows a b n (i:Int) (QW l (inK a b) n rows i))=(l,rows,a,b,n,((i+1:Nat):Int),QW l (inK a b) n rows (i+1))
   unfold NC
   rw[Eu (by omega),Ae8 rows i hi,hk0,Int.toNat_natCast]
   unfold chS
   rw[h0 i (Nat.lt_succ_self i),cond_false]
   rfl)
  (fun i hi _=>by
   have hin:ET l rows a b n (i:Int) (QW l (inK a b) n rows i)=true→i <rows.length:=fun h=>by
    rw[hk1] at h
    exact of_decide_eq_true (Bool.and_eq_true_iff.1 h).1
   refine Aa (fun h=>⟨by show(0:Int)≤(i:Int);omega,by have:=hin h;show(i:Int) <(rows.length:Int);omega⟩) (Aa (fun _=>hw) (Aa (fun _ _=>?_) Ad))
   have:=Aun (l:=l) (q:=inK a b) (n:=n) rows i hi
   show Ag ((QW l (inK a b) n rows i).length+1)
   unfold Ag
   omega)
 have hr:NE (l,rows,a,b,n,0,[])=(l,rows,a,b,n,(k:Int),QW l (inK a b) n rows k):=hx
 refine⟨h1,?_⟩
 rw[hr]
 show QW l (inK a b) n rows k=_
 rcases Nat.lt_or_ge k rows.length with h|h
 ·exact(Avs rows (of_decide_eq_true (hst h))).symm
 ·rw[show k=rows.length by omega,Aum]
theorem Bg2 (a0:List TGroup) (a1:List TRow) (a2 a3:ByteArray) (a4:Int) (hp:∀p∈Air a0 a1 a2 a3 a4,p):CallOk Try.prog 89 [.sl .group a0,Ae .rows a1,Ae .str a2,Ae .str a3,Ae .i64 a4] 0 [] 1 (Aqs a0 a1 a2 a3 a4) 1 (Aqr a0 a1 a2 a3 a4):=by
 have hb:a1.length≤400000:=hp _ (List.mem_cons_self ..)
 have hw:∀g∈a0,Ao g.1.size:=hp _ (List.mem_cons_of_mem _ (List.mem_cons_self ..))
 obtain⟨g1,g2⟩:=Bvd a0 a1 a2 a3 a4 hb hw
 have h:=Bk1 a0 a1 a2 a3 a4 (Aa (by unfold Ao;omega) (Aa hw (Aa (fun _=>g1) Ad)))
 have e:Ad3 a0 a1 a2 a3 a4=Aej a0 a1 a2 a3 a4:=by
  unfold Ad3 Aej
  rw[g2]
  have hk:KQ a0 a1 a2 a3 a4=!(CZ a0 a1==0):=rfl
  rw[hk]
  cases CZ a0 a1==0<;>rfl
 unfold Ad5 Ad4 at h
 rw[e] at h
 exact h
def Ad6:List A→Nat→Objs→Option AU:=A5 [.l .group,.t .rows,.t .str,.t .str,.t .i64] 1 Aqs Aqr Air
theorem Ais:Ev Try.prog 89 Ad6:=As (ks:=[.l .group,.t .rows,.t .str,.t .str,.t .i64]) Bg2
noncomputable def Bmo:=AQ 89 Ad6 Bco
theorem Bcp:Cp Try.prog Bmo:=Ak Ais Au4
def Bpc (a b:List TView):Bool:=a.length==b.length&&KU a.length fun i=>Ars (a.getD i (Ac TC.view)) (b.getD i (Ac TC.view))
abbrev BF:Type:=(List TView)×(List TView)×Int
def LC (x:BF):St:=⟨27,0,[(0,.sl .view x.1),(1,.sl .view x.2.1),(5,.v (.int .i64 x.2.2))],[]⟩
def Nz:St→Option BF
 |⟨27,0,[(0,.sl .view z0),(1,.sl .view z1),(5,.v (.int .i64 z2))],[]⟩=>some (z0,z1,z2)
 |_=>none
theorem Aih:∀s x,Nz s=some x→s=LC x:=fun s x h=>by
 unfold Nz at h
 split at h
 ·cases h;rfl
 ·cases h
def XV:CU:=⟨0,0,[0,1,5],[],[],[],[4],[]⟩
def A0d:C9:=⟨[],[],[0,1,5],[]⟩
def BJ (a0:List TView) (_a1:List TView) (a2:Int):Bool:=!!decide (a2 <(↑a0.length:Int))
def Dh (a0:List TView) (a1:List TView) (a2:Int):Bool:=(BJ a0 a1 a2)&&!Ars (a0.getD a2.toNat (Ac TC.view)) (a1.getD a2.toNat (Ac TC.view))
def Aml (a0:List TView) (a1:List TView) (a2:Int):Bool:=(BJ a0 a1 a2)&&!(Dh a0 a1 a2)
def D9 (x:BF):BF:=(x.1,x.2.1,IntKind.i64.wrap (x.2.2+(1:Int)))
def D8 (x:BF):Cnd:=some (Aml x.1 x.2.1 x.2.2)
def Mj (x:BF):List Prop:=[((BJ x.1 x.2.1 x.2.2)=true→(0:Int)≤x.2.2∧x.2.2 <(↑x.1.length:Int)),((BJ x.1 x.2.1 x.2.2)=true→(0:Int)≤x.2.2∧x.2.2 <(↑x.2.1.length:Int)),((BJ x.1 x.2.1 x.2.2)=true→Ao (x.1.getD x.2.2.toNat (Ac TC.view)).2.length)]
abbrev Hc:BF→List Prop:=Mj
def QH (x:BF):Bb:=[(some 0,some (!decide (x.2.2 <(↑x.1.length:Int))),⟨27,0,[(4,.dead)],[]⟩),(none,some ((Dh x.1 x.2.1 x.2.2)),⟨27,0,[(4,.v (.bool (false)))],[]⟩)]
def Fv (x:BF):Nat:=((↑x.1.length:Int) - x.2.2).toNat
def Amn (x:BF):BF:=AZ D9 D8 (Fv x) x
theorem Atp (a0:List TView) (a1:List TView) (a2:Int):Bl (Au Bmo L0) 9 (Af Try.prog 87 0) XV (LC (a0,a1,a2))=some (Mj (a0,a1,a2),QH (a0,a1,a2),D8 (a0,a1,a2),LC (D9 (a0,a1,a2))):=by kernel_rfl
theorem Atq (a0:List TView) (a1:List TView) (a2:Int) (hp:∀p∈Hc (a0,a1,a2),p):∀p∈Mj (a0,a1,a2),p:=hp
noncomputable def Ta:=Hw (Au Bmo L0) (Af Try.prog 87 0) XV A0d Nz Fv D9 D8 Hc QH
theorem Amm:∀s b ps outs,Ta s=some (b,ps,outs)→Wf s ⟨ps,outs,none⟩∧Bh (Au C0 L0) b s ps outs:=
 A9 (T:=LC) Bcp Ay (u:=9) (by kernel_rfl) (by decide) (fun⟨a0,a1,a2⟩=>Atp a0 a1 a2) (fun⟨a0,a1,a2⟩=>Atq a0 a1 a2) Aih (fun _=>AH (n:=27) rfl) fun _ _=>rfl
noncomputable def XU:=Di 0 Ta L0
theorem Amk:G1 XU:=AS Amm Ay
def IC (a0:List TView) (a1:List TView):BF:=Amn (a0,a1,(0:Int))
def Hu (a0:List TView) (a1:List TView):Bool:=(↑a0.length:Int) !=(↑a1.length:Int)
def XT (a0:List TView) (a1:List TView):Bool:=bif(Hu a0 a1) then false else bif Dh (IC a0 a1).fst (IC a0 a1).snd.fst (IC a0 a1).snd.snd then false else true
def XW (a0:List TView) (a1:List TView):A:=.v (.bool (XT a0 a1))
def Aqa (_a0:List TView) (_a1:List TView):Objs:=[]
def Aij (a0:List TView) (a1:List TView):List Prop:=[((!(Hu a0 a1))=true→AD D9 D8 Hc (Fv (a0,a1,(0:Int))) (a0,a1,(0:Int)))]
theorem Bao (a0:List TView) (a1:List TView):Er (Au Bmo XU) 9 87 [.sl .view a0,.sl .view a1] 0 []=some (1,XW a0 a1,0,Aqa a0 a1,[((!(Hu a0 a1))=true→Af Try.prog (87:FuncId) (0:Nat)=Af Try.prog (87:FuncId) (0:Nat)),((!(Hu a0 a1))=true→AD D9 D8 Hc (Fv (a0,a1,(0:Int))) (a0,a1,(0:Int)))]):=by kernel_rfl
theorem Bgu (a0:List TView) (a1:List TView) (hp:∀p∈Aij a0 a1,p):CallOk Try.prog 87 [.sl .view a0,.sl .view a1] 0 [] 1 (XW a0 a1) 0 (Aqa a0 a1):=by
 have n0:((!(Hu a0 a1))=true→Af Try.prog (87:FuncId) (0:Nat)=Af Try.prog (87:FuncId) (0:Nat)):=by intros;rfl
 have n1:=N0 hp
 exact Az (Ap Bcp Amk) (Bao a0 a1) (Aa n0 (Aa n1 Ad))
def Aik (a0 a1:List TView):A:=.v (.bool (Bpc a0 a1))
def Aii (_a0 _a1:List TView):Objs:=[]
def Aan (a0 _a1:List TView):List Prop:=[a0.length≤400000,∀v∈a0,Ao v.fields.length]
theorem Aig (a b:List TView) (hl:a.length≤400000) (hb:∀v∈a,Ao v.fields.length):(∀p∈Aij a b,p)∧XT a b=Bpc a b:=by
 have hk0:Hu a b=(a.length !=b.length):=by
  show((a.length:Int) !=(b.length:Int))=_
  rw[Bool.eq_iff_iff,bne_iff_ne,bne_iff_ne];omega
 have main:Hu a b=false→AD D9 D8 Hc (Fv (a,b,0)) (a,b,0)∧Dh (IC a b).fst (IC a b).snd.fst (IC a b).snd.snd=!KU a.length fun i=>Ars (a.getD i (Ac TC.view)) (b.getD i (Ac TC.view)):=fun h0=>by
  rw[hk0] at h0
  have hlen:a.length=b.length:=by simpa using h0
  have hf:∀i:Nat,Dh a b (i:Int)=(decide (i <a.length)&&!Ars (a.getD i (Ac TC.view)) (b.getD i (Ac TC.view))):=fun i=>by
   unfold Dh BJ
   rw[nn,Mp,Int.toNat_natCast]
  obtain⟨h1,k,hk,hx,_,_,hb'⟩:=Ij (fun i=>((a,b,(i:Int)):BF)) a.length (fun i=>!Ars (a.getD i (Ac TC.view)) (b.getD i (Ac TC.view))) D9 D8 Hc (Fv (a,b,0)) (a,b,0) rfl (by show a.length≤((a.length:Int) - 0).toNat;omega)
   (fun i _ _=>by
    show((BJ a b (i:Int))&&!Dh a b (i:Int))=_
    rw[hf]
    unfold BJ
    rw[nn,Mp]
    cases decide (i <a.length)<;>rfl)
   (fun i hi _=>by
    show(a,b,IntKind.i64.wrap ((i:Int)+1))=(a,b,((i+1:Nat):Int))
    rw[Eu (by omega)])
   (fun i hi _=>by
    have hin:BJ a b (i:Int)=true→(i:Int) <(a.length:Int):=fun h=>by unfold BJ at h;rw[nn] at h;exact of_decide_eq_true h
    refine Aa (fun h=>⟨by show(0:Int)≤(i:Int);omega,hin h⟩) (Aa (fun h=>⟨by show(0:Int)≤(i:Int);omega,by have:=hin h;show(i:Int) <(b.length:Int);omega⟩) (Aa (fun h=>?_) Ad))
    have h5:=hin h
    show Ao (a.getD ((i:Int)).toNat (Ac TC.view)).2.length
    rw[Int.toNat_natCast]
    exact hb _ (getD_in a (Ac TC.view) i (by omega)))
  refine⟨h1,?_⟩
  have hr:IC a b=(a,b,(k:Int)):=hx
  rw[hr]
  show Dh a b (k:Int)=_
  rw[hf,hb']
  congr 1
  exact Iu fun i _=>Bool.not_not _
 refine⟨Aa (fun h=>(main (by simpa using h)).1) Ad,?_⟩
 unfold XT Bpc
 cases h0:Hu a b with
 |true=>
  rw[hk0] at h0
  have e:(a.length==b.length)=false:=by simpa using h0
  rw[e]
  rfl
 |false=>
  rw[cond_false,(main h0).2]
  rw[hk0] at h0
  have e:(a.length==b.length)=true:=by simpa using h0
  rw[e]
  cases KU a.length fun i=>Ars (a.getD i (Ac TC.view)) (b.getD i (Ac TC.view))<;>rfl
theorem Ban (a0 a1:List TView) (hp:∀p∈Aan a0 a1,p):CallOk Try.prog 87 [.sl .view a0,.sl .view a1] 0 [] 1 (Aik a0 a1) 0 (Aii a0 a1):=by
 have hl:a0.length≤400000:=hp _ (List.mem_cons_self ..)
 have hb:∀v∈a0,Ao v.fields.length:=hp _ (List.mem_cons_of_mem _ (List.mem_cons_self ..))
 have h:=Bgu a0 a1 (Aig a0 a1 hl hb).1
 unfold XW at h
 rw[(Aig a0 a1 hl hb).2] at h
 exact h
theorem Bpd (a:List TView):Bpc a a=true:=by
 unfold Bpc
 rw[beq_self_eq_true,Bool.true_and,I7]
 exact fun i _=>Bd7.2 rfl
def Aqb:List A→Nat→Objs→Option AU:=A5 [.l .view,.l .view] 0 Aik Aii Aan
theorem A31:Ev Try.prog 87 Aqb:=As (ks:=[.l .view,.l .view]) Ban
end Go.Proofs.Yteebobbhhgmeiaa
namespace Go.Proofs.Yteebobbhhgmeiaa
open Go.RowKit
noncomputable def Bz9:=AQ 45 WA Cmv
theorem Bso:Cp Try.prog Bz9:=Ak Zy Bh8
noncomputable def B0a:=AQ 88 T1 Bz9
theorem Bsp:Cp Try.prog B0a:=Ak WR Bso
noncomputable def B0b:=AQ 86 Am4 B0a
theorem Bsq:Cp Try.prog B0b:=Ak Aqm Bsp
noncomputable def B0c:=AQ 89 Ad6 B0b
theorem Bsr:Cp Try.prog B0c:=Ak Ais Bsq
noncomputable def B0d:=AQ 87 Aqb B0c
theorem Bss:Cp Try.prog B0d:=Ak A31 Bsr
noncomputable def B0e:=AQ 59 LB B0d
theorem Bst:Cp Try.prog B0e:=Ak Mi Bss
def BC (a0:List TGroup) (a1:List TRow) (a2:PU):Bool:=Ars (VC a0 a1 a2.1) (VC a0 a1 a2.1)&&Ai6 a0 a1 a2.1==Ai6 a0 a1 a2.1
def A7 (a0:List TGroup) (a1:List TRow) (a2:PU):Bool:=(BC a0 a1 a2)&&true
def An (a0:List TGroup) (a1:List TRow) (a2:PU):Bool:=!Qg a0 [] [a1]||decide (IntKind.i64.wrap (IntKind.i64.wrap ((↑a2.1.size:Int)+(↑a2.2.size:Int))+(↑a2.3.size:Int)) >(1000:Int))
def Kg (a0:List TGroup) (a1:List TRow) (a2:PU):Bool:=bif(An a0 a1 a2) then true else bif(A7 a0 a1 a2)&&Bpc (Aej a0 a1 a2.2 a2.3 a2.4) (Aej a0 a1 a2.2 a2.3 a2.4) then true else bif(A7 a0 a1 a2) then false else bif(BC a0 a1 a2)&&false then true else bif(BC a0 a1 a2) then false else false
def Nj (a0:List TGroup) (a1:List TRow) (a2:PU):A:=.v (.bool (Kg a0 a1 a2))
def UO (_a0:List TGroup) (_a1:List TRow) (_a2:PU):Objs:=[]
def SG (a0:List TGroup) (a1:List TRow) (a2:PU):List Prop:=[(Ao a0.length∧(Ao (0:Nat)∧∀(c:TChange),c∈[]→Aes c)∧Ao (1:Nat)∧∀(x:List TRow),x∈[a1]→Ao x.length∧∀(r:TRow),r∈x→Abg r),((!(An a0 a1 a2))=true→Ao a1.length),((!(An a0 a1 a2))=true→∀(r:TRow),r∈a1→Ag r.2.length),((!(An a0 a1 a2))=true→∀(g:TGroup),g∈a0→Ao g.1.size),((!(An a0 a1 a2))=true→Ao (VC a0 a1 a2.1).2.length),((!(An a0 a1 a2))=true→(BC a0 a1 a2)=true→a1.length≤(400000:Nat)),((!(An a0 a1 a2))=true→(A7 a0 a1 a2)=true→a1.length≤(400000:Nat)),((!(An a0 a1 a2))=true→(A7 a0 a1 a2)=true→∀(g:TGroup),g∈a0→Ao g.1.size),((!(An a0 a1 a2))=true→false=true→a1.length≤(400000:Nat)),((!(An a0 a1 a2))=true→false=true→∀(g:TGroup),g∈a0→Ao g.1.size),((!(An a0 a1 a2))=true→(A7 a0 a1 a2)=true→true=true→(Aej a0 a1 a2.2 a2.3 a2.4).length≤(400000:Nat)),((!(An a0 a1 a2))=true→(A7 a0 a1 a2)=true→true=true→∀(v:TView),v∈Aej a0 a1 a2.2 a2.3 a2.4→Ao v.2.length),((!(An a0 a1 a2))=true→false=true→true=false)]
theorem Ak1 (a0:List TGroup) (a1:List TRow) (a2:PU):Er (Au B0e L0) 9 21 [.sl .group a0,Ae .rows a1,Ae .ask3 a2] 0 []=some (1,Nj a0 a1 a2,0,UO a0 a1 a2,[(Ao a0.length∧(Ao (0:Nat)∧∀(c:TChange),c∈[]→Aes c)∧Ao (1:Nat)∧∀(x:List TRow),x∈[a1]→Ao x.length∧∀(r:TRow),r∈x→Abg r),((!(An a0 a1 a2))=true→Ao a1.length),((!(An a0 a1 a2))=true→Ao a1.length),((!(An a0 a1 a2))=true→∀(r:TRow),r∈a1→Ag r.2.length),((!(An a0 a1 a2))=true→∀(g:TGroup),g∈a0→Ao g.1.size),((!(An a0 a1 a2))=true→Ao (VC a0 a1 a2.1).2.length),((!(An a0 a1 a2))=true→(BC a0 a1 a2)=true→a1.length≤(400000:Nat)),((!(An a0 a1 a2))=true→(A7 a0 a1 a2)=true→a1.length≤(400000:Nat)),((!(An a0 a1 a2))=true→(A7 a0 a1 a2)=true→∀(g:TGroup),g∈a0→Ao g.1.size),((!(An a0 a1 a2))=true→false=true→a1.length≤(400000:Nat)),((!(An a0 a1 a2))=true→false=true→∀(g:TGroup),g∈a0→Ao g.1.size),((!(An a0 a1 a2))=true→(A7 a0 a1 a2)=true→true=true→(Aej a0 a1 a2.2 a2.3 a2.4).length≤(400000:Nat)),((!(An a0 a1 a2))=true→(A7 a0 a1 a2)=true→true=true→∀(v:TView),v∈Aej a0 a1 a2.2 a2.3 a2.4→Ao v.2.length),((!(An a0 a1 a2))=true→(BC a0 a1 a2)=true→false=false),((!(An a0 a1 a2))=true→false=true→true=false),((!(An a0 a1 a2))=true→false=false),((!(An a0 a1 a2))=true→(BC a0 a1 a2)=true→false=false),((!(An a0 a1 a2))=true→false=true→true=false),((!(An a0 a1 a2))=true→false=false),((!(An a0 a1 a2))=true→(A7 a0 a1 a2)=true→false=false),((!(An a0 a1 a2))=true→(BC a0 a1 a2)=true→false=false),((!(An a0 a1 a2))=true→false=true→false=false),((!(An a0 a1 a2))=true→false=false)]):=by kernel_rfl
theorem Asf (a0:List TGroup) (a1:List TRow) (a2:PU) (hp:∀p∈SG a0 a1 a2,p):CallOk Try.prog 21 [.sl .group a0,Ae .rows a1,Ae .ask3 a2] 0 [] 1 (Nj a0 a1 a2) 0 (UO a0 a1 a2):=by
 have n0:=N0 hp
 have n1:((!(An a0 a1 a2))=true→Ao a1.length):=N0 (N1 hp)
 have n3:=N0 (N1 (N1 hp))
 have n4:=N0 (N1 (N1 (N1 hp)))
 have n5:=N0 (N1 (N1 (N1 (N1 hp))))
 have n6:=N0 (N1 (N1 (N1 (N1 (N1 hp)))))
 have n7:=N0 (N1 (N1 (N1 (N1 (N1 (N1 hp))))))
 have n8:=N0 (N1 (N1 (N1 (N1 (N1 (N1 (N1 hp)))))))
 have n9:=N0 (N1 (N1 (N1 (N1 (N1 (N1 (N1 (N1 hp))))))))
 have n10:=N0 (N1 (N1 (N1 (N1 (N1 (N1 (N1 (N1 (N1 hp)))))))))
 have n11:=N0 (N1 (N1 (N1 (N1 (N1 (N1 (N1 (N1 (N1 (N1 hp))))))))))
 have n12:=N0 (N1 (N1 (N1 (N1 (N1 (N1 (N1 (N1 (N1 (N1 (N1 hp)))))))))))
 have n13:((!(An a0 a1 a2))=true→(BC a0 a1 a2)=true→false=false):=by intros;rfl
 have n14:((!(An a0 a1 a2))=true→false=true→true=false):=N0 (N1 (N1 (N1 (N1 (N1 (N1 (N1 (N1 (N1 (N1 (N1 (N1 hp))))))))))))
 have n15:((!(An a0 a1 a2))=true→false=false):=by intros;rfl
 have n19:((!(An a0 a1 a2))=true→(A7 a0 a1 a2)=true→false=false):=by intros;rfl
 have n21:((!(An a0 a1 a2))=true→false=true→false=false):=by intros;rfl
 exact Az (Ap Bst Ay) (Ak1 a0 a1 a2) (Aa n0 (Aa n1 (Aa n1 (Aa n3 (Aa n4 (Aa n5 (Aa n6 (Aa n7 (Aa n8 (Aa n9 (Aa n10 (Aa n11 (Aa n12 (Aa n13 (Aa n14 (Aa n15 (Aa n13 (Aa n14 (Aa n15 (Aa n19 (Aa n13 (Aa n21 (Aa n15 Ad)))))))))))))))))))))))
end Go.Proofs.Yteebobbhhgmeiaa
namespace Go.Proofs.Yteebobbhhgmeiaa
open Go.RowKit
theorem A60 (l:List TGroup) (r:TRow):(QS l r).length≤4:=by
 unfold QS
 cases h:Fc l r with
 |false=>exact Nat.zero_le _
 |true=>
  rw[cond_true]
  unfold Fc at h
  have h0:Ai l r=0:=by simpa using(Bool.and_eq_true_iff.1 h).1
  have h4:=(G0 (AM h0).1).2
  have:=P5 l r.cells l.length
  omega
theorem Bnc {l:List TGroup} {q:ByteArray→Bool} {n:Int}:∀(rows:List TRow) {o:List TView},(∀v∈o,v.fields.length≤4)→∀v∈rows.foldl (chS l q n) o,v.fields.length≤4
 | [],_,h=>h
 | r ::rows,o,h=>Bnc rows fun v hv=>by
  unfold chS at hv
  cases h1:decide ((o.length:Int)≥n) with
  |true=>rw[h1] at hv;exact h v hv
  | false=>
   rw[h1,cond_false] at hv
   cases h2:Fc l r&&q r.key with
   |false=>rw[h2] at hv;exact h v hv
   | true=>
    rw[h2,cond_true] at hv
    rcases List.mem_append.1 hv with hv|hv
    ·exact h v hv
    ·rw[List.mem_singleton.1 hv]
     exact A60 l r
theorem Bvf (l:List TGroup) (rows:List TRow) (a b:ByteArray) (n:Int):(Aej l rows a b n).length≤rows.length∧∀v∈Aej l rows a b n,v.fields.length≤4:=by
 unfold Aej
 cases CZ l rows==0 with
 |false=>exact⟨Nat.zero_le _,fun v hv=>by cases hv⟩
 |true=>
  refine⟨?_,Bnc rows fun v hv=>by cases hv⟩
  show(chL l (inK a b) n rows).length≤_
  rw[←Aum]
  exact Aun rows rows.length (Nat.le_refl _)
theorem Bvg (l:List TGroup) (rows:List TRow) (k:ByteArray):(VC l rows k).fields.length≤4:=by
 unfold VC Bi8
 cases CZ l rows==0 with
 |false=>exact Nat.zero_le _
 |true=>
  rw[cond_true]
  cases atK rows k with
  |none=>exact Nat.zero_le _
  |some r=>exact A60 l r
theorem Bya (a0:List TGroup) (a1:List TRow) (a2:PU) (w0:a0.length≤maxLen∧∀y∈a0,Wfd .group y) (w1:a1.length≤maxLen∧∀y∈a1,Wfd .row y):(∀p∈SG a0 a1 a2,p)∧Kg a0 a1 a2=true:=by
 have hw:Ao a0.length∧(Ao (0:Nat)∧∀c∈([]:List TChange),Aes c)∧Ao (1:Nat)∧∀x∈[a1],Ao x.length∧∀r∈x,Abg r:=
  ⟨w0.1,⟨by unfold Ao;omega,fun c hc=>by cases hc⟩,by unfold Ao;omega,fun x hx=>by
   rw[List.mem_singleton.1 hx]
   exact⟨w1.1,fun r hr=>⟨(w1.2 r hr).1,(w1.2 r hr).2.1,fun c hc=>((w1.2 r hr).2.2 c hc).2.2.2.1⟩⟩⟩
 have hg:∀g∈a0,Ao g.1.size:=fun g hg=>(w0.2 g hg).1
 have hlt:(!(An a0 a1 a2))=true→a1.length≤6000∧∀r∈a1,Um 6000 r:=fun h=>by
  unfold An at h
  rw[Bool.not_or,Bool.and_eq_true,Bool.not_not] at h
  exact((Aw3 a0 [] [a1] hw.1 hw.2.1 hw.2.2.1 hw.2.2.2).2 h.1).2.2 a1 (List.mem_singleton.2 rfl)
 have hs:=Bvf a0 a1 a2.2 a2.3 a2.4
 have n4:∀{p:Prop},false=true→p:=fun h=>by cases h
 refine⟨Aa hw (Aa (fun h=>by have:=(hlt h).1;unfold Ao;omega) (Aa (fun h r hr=>?_) (Aa (fun _=>hg) (Aa (fun _=>?_) (Aa (fun h _=>by have:=(hlt h).1;omega) (Aa (fun h _=>by have:=(hlt h).1;omega) (Aa (fun _ _=>hg)
  (Aa (fun _ h=>n4 h) (Aa (fun _ h=>n4 h) (Aa (fun h _ _=>by have:=(hlt h).1;have:=hs.1;omega) (Aa (fun _ _ _ v hv=>?_) (Aa (fun _ h=>n4 h) Ad)))))))))))),?_⟩
 ·have:r.cells.length≤6000:=((hlt h).2 r hr).2.1
  show Ag r.cells.length
  unfold Ag
  omega
 ·have:=Bvg a0 a1 a2.1
  show Ao (VC a0 a1 a2.1).fields.length
  unfold Ao
  omega
 ·have:=hs.2 v hv
  show Ao v.fields.length
  unfold Ao
  omega
 ·have k2:BC a0 a1 a2=true:=by
   unfold BC
   rw[Bd7.2 rfl,beq_self_eq_true]
   rfl
  have k1:A7 a0 a1 a2=true:=by
   unfold A7
   rw[k2]
   rfl
  unfold Kg
  rw[k1,Bpd]
  cases An a0 a1 a2<;>rfl
end Go.Proofs.Yteebobbhhgmeiaa
namespace Go.Proofs.Yteebobbhhgmeiaa
open Go.RowKit
set_option maxRecDepth 100000
theorem op3:Opn Try.prog .i64 3:=Byk Try.underlying3
theorem op4:Opn Try.prog .bool 4:=Buq Try.underlying4
theorem op9:Opn Try.prog .str 9:=Byl Try.underlying9
theorem B32:Opn Try.prog .vec 31:=fun en w base spare held m cs y h=>by
 obtain⟨xs,n,_,_,hl,hz,hg⟩:=DataW.trod_array Try.underlying31 h
 have hl:cs.length=2:=hl.trans (by kernel_rfl)
 obtain⟨x0,w0,g0⟩:=B3i (i:=0) (k:=1) op3 (by kernel_rfl) (by omega) (by omega) hg
 obtain⟨x1,w1,g1⟩:=B3i (i:=1) (k:=1) op3 (by kernel_rfl) (by omega) (by omega) hg
 exact⟨⟨x0,x1⟩,⟨w0,w1⟩,fun F N nx hF=>HLd (o:=0) (k:=1) (g0 F N nx hF) (HLd (o:=1) (k:=1) (g1 F N nx hF) (HLe (o:=2) hl))⟩
theorem B4k:Opn Try.prog .stamp 51:=fun en w base spare held m cs y h=>by
 obtain⟨xs,n,_,_,hl,hz,hg⟩:=DataW.trod_struct Try.underlying51 h
 have hz:xs.length=2:=hz
 have hl:cs.length=2:=hl.trans (by kernel_rfl)
 obtain⟨x0,w0,g0⟩:=Afr (i:=0) (o:=0) (k:=1) op3 rfl rfl rfl (by kernel_rfl) (by omega) hg
 obtain⟨x1,w1,g1⟩:=Afr (i:=1) (o:=1) (k:=1) op3 rfl rfl rfl (by kernel_rfl) (by omega) hg
 exact⟨⟨x0,x1⟩,⟨w0,w1⟩,fun F N nx hF=>HLd (o:=0) (k:=1) (g0 F N nx hF) (HLd (o:=1) (k:=1) (g1 F N nx hF) (HLe (o:=2) hl))⟩
theorem B4l:Opn Try.prog .cell 55:=fun en w base spare held m cs y h=>by
 obtain⟨xs,n,_,_,hl,hz,hg⟩:=DataW.trod_struct Try.underlying55 h
 have hz:xs.length=5:=hz
 have hl:cs.length=8:=hl.trans (by kernel_rfl)
 obtain⟨x0,w0,g0⟩:=Afr (i:=0) (o:=0) (k:=2) B4k rfl rfl rfl (by kernel_rfl) (by omega) hg
 obtain⟨x1,w1,g1⟩:=Afr (i:=1) (o:=2) (k:=2) B32 rfl rfl rfl (by kernel_rfl) (by omega) hg
 obtain⟨x2,w2,g2⟩:=Afr (i:=2) (o:=4) (k:=1) op4 rfl rfl rfl (by kernel_rfl) (by omega) hg
 obtain⟨x3,w3,g3⟩:=Afr (i:=3) (o:=5) (k:=1) op9 rfl rfl rfl (by kernel_rfl) (by omega) hg
 obtain⟨x4,w4,g4⟩:=Afr (i:=4) (o:=6) (k:=2) B32 rfl rfl rfl (by kernel_rfl) (by omega) hg
 exact⟨⟨x0,x1,x2,x3,x4⟩,⟨w0,w1,w2,w3,w4⟩,fun F N nx hF=>HLd (o:=0) (k:=2) (g0 F N nx hF) (HLd (o:=2) (k:=2) (g1 F N nx hF) (HLd (o:=4) (k:=1) (g2 F N nx hF) (HLd (o:=5) (k:=1) (g3 F N nx hF) (HLd (o:=6) (k:=2) (g4 F N nx hF) (HLe (o:=8) hl)))))⟩
theorem B4n:Opn Try.prog .group 79:=fun en w base spare held m cs y h=>by
 obtain⟨xs,n,_,_,hl,hz,hg⟩:=DataW.trod_struct Try.underlying79 h
 have hz:xs.length=2:=hz
 have hl:cs.length=2:=hl.trans (by kernel_rfl)
 obtain⟨x0,w0,g0⟩:=Afr (i:=0) (o:=0) (k:=1) op9 rfl rfl rfl (by kernel_rfl) (by omega) hg
 obtain⟨x1,w1,g1⟩:=Afr (i:=1) (o:=1) (k:=1) op3 rfl rfl rfl (by kernel_rfl) (by omega) hg
 exact⟨⟨x0,x1⟩,⟨w0,w1⟩,fun F N nx hF=>HLd (o:=0) (k:=1) (g0 F N nx hF) (HLd (o:=1) (k:=1) (g1 F N nx hF) (HLe (o:=2) hl))⟩
theorem B33:A41 Try.prog .group 66:=Ayk Try.underlying66 (by kernel_rfl) B4n
theorem B35:A41 Try.prog .cell 69:=Ayk Try.underlying69 (by kernel_rfl) B4l
theorem B4m:Opn Try.prog .row 71:=fun en w base spare held m cs y h=>by
 obtain⟨xs,n,_,_,hl,hz,hg⟩:=DataW.trod_struct Try.underlying71 h
 have hz:xs.length=2:=hz
 have hl:cs.length=2:=hl.trans (by kernel_rfl)
 obtain⟨x0,w0,g0⟩:=Afr (i:=0) (o:=0) (k:=1) op9 rfl rfl rfl (by kernel_rfl) (by omega) hg
 obtain⟨x1,w1,g1⟩:=B4j (i:=1) (o:=1) (k:=1) B35 rfl rfl rfl (by kernel_rfl) (by omega) hg
 exact⟨⟨x0,x1⟩,⟨w0,w1⟩,fun F N nx hF=>HLd (o:=0) (k:=1) (g0 F N nx hF) (HLd (o:=1) (k:=1) (g1 F N nx hF) (HLe (o:=2) hl))⟩
theorem B34:A41 Try.prog .row 67:=Ayk Try.underlying67 (by kernel_rfl) B4m
theorem B31:Opn Try.prog .ask3 145:=fun en w base spare held m cs y h=>by
 obtain⟨xs,n,_,_,hl,hz,hg⟩:=DataW.trod_struct Try.underlying145 h
 have hz:xs.length=4:=hz
 have hl:cs.length=4:=hl.trans (by kernel_rfl)
 obtain⟨x0,w0,g0⟩:=Afr (i:=0) (o:=0) (k:=1) op9 rfl rfl rfl (by kernel_rfl) (by omega) hg
 obtain⟨x1,w1,g1⟩:=Afr (i:=1) (o:=1) (k:=1) op9 rfl rfl rfl (by kernel_rfl) (by omega) hg
 obtain⟨x2,w2,g2⟩:=Afr (i:=2) (o:=2) (k:=1) op9 rfl rfl rfl (by kernel_rfl) (by omega) hg
 obtain⟨x3,w3,g3⟩:=Afr (i:=3) (o:=3) (k:=1) op3 rfl rfl rfl (by kernel_rfl) (by omega) hg
 exact⟨⟨x0,x1,x2,x3⟩,⟨w0,w1,w2,w3⟩,fun F N nx hF=>HLd (o:=0) (k:=1) (g0 F N nx hF) (HLd (o:=1) (k:=1) (g1 F N nx hF) (HLd (o:=2) (k:=1) (g2 F N nx hF) (HLd (o:=3) (k:=1) (g3 F N nx hF) (HLe (o:=4) hl))))⟩
end Go.Proofs.Yteebobbhhgmeiaa
namespace Go.Proofs.Yteebobbhhgmeiaa
open Go.ChangeShapes Go.WideShapes Go.ChangeAt Go.RowKit
theorem own:ownKnob Try.prog.godebug=none:=by kernel_rfl
theorem Bx5:laidOutB Try.prog=true:=by kernel_rfl
section
variable {P:Program} {H:Type} {enc:TypeId×Value→H} {w:World} {base:Nat} {spare:Nat→Bool} {held:Bool} {v:Value} {d:DataW H} {p:List MemPlace}
theorem A2c {r:Reach} {b0:Nat} {t:TypeId} {fs:Array Field} (hu:P.underlying t=some (.struct fs)) (h:Value.okWide P w r b0 t v):∃cs,v=.agg cs∧cs.size=P.cellsOf t:=by
 unfold Value.okWide at h
 rw[hu] at h
 obtain⟨cs,h1,h2,_⟩:=h
 exact⟨cs,h1,h2⟩
end
theorem Zk {H:Type} {enc:TypeId×Value→H} {W W':World} (hb:Below W.heap.size W W'):∀(ts:List TypeId) (vs:List Value) (ds:List (DataW H)) (ps:List MemPlace),
  (∀t∈ts,Try.prog.readableRec t=true∧t <Try.prog.types.size)→DataW.TrodAll enc Try.prog W 0 (fun _=>true) true ts vs ds ps→(∀x∈ps,x.block <W.heap.size)→
  DataW.TrodAll enc Try.prog W' 0 (fun b=>decide (b <W.heap.size)) true ts vs ds ps
 | [],vs,ds,ps,_,h,_=>by
  obtain⟨rfl,rfl,rfl⟩:=trodAll_nil h
  exact trodAll_mk0
 | t::ts,vs,ds,ps,hr,h,hlt=>by
  obtain⟨v,vs',d,ds',p,q,rfl,rfl,rfl,h0,h1⟩:=trodAll_cons h
  exact trodAll_cons_mk (Below.trod Bx5 (hr t (by simp)).1 (hr t (by simp)).2 h0 hb fun x hx=>hlt x (by simp[hx]))
   (Zk hb ts vs' ds' q (fun t' ht'=>hr t' (by simp[ht'])) h1 fun x hx=>hlt x (by simp[hx]))
section
variable {H:Type} {enc:TypeId×Value→H} {w:World} {base:Nat} {spare:Nat→Bool} {held:Bool} {v:Value} {d:DataW H} {p:List MemPlace}
end
end Go.Proofs.Yteebobbhhgmeiaa
namespace Go.Proofs.Yteebobbhhgmeiaa
open Go.RowKit Go.WideShapes Go.ChangeShapes
section
variable {H:Type} {en:TypeId×Value→H} {P:Program} {w:World} {base:Nat} {spare:Nat→Bool} {held:Bool} {t e:TypeId} {v:Value} {d:DataW H} {p:List MemPlace} {r:Reach} {b0:Nat} {c:TC}
theorem Bc4 (ht:P.underlying t=some (.slice e)) (ho:A41 P c t) (hv:Value.okWide P w r b0 t v) (h:DataW.Trod en P w base spare held t v d p):
  ∃l:List (U c),(l.length≤maxLen∧∀x∈l,Wfd c x)∧∀(F:Nat→Prop) (N:Nm) (nx:Nat),FB w F→Hv F N nx w (.sl c l) v:=by
 obtain⟨a,len,cap,rfl⟩:=okWide_slice ht hv
 obtain⟨fuel,hf⟩:=h
 obtain⟨l,h1,h2⟩:=ho en w base spare held fuel _ _ hf
 refine⟨l,h1,fun F N nx hF=>?_⟩
 obtain⟨y,ys,e,h3,_⟩:=(h2 F N nx hF).inv
 have e':[Value.slice a len cap]=y::ys:=e
 cases e'
 exact h3
theorem Bxg {cs:Array Value} (ho:Opn P c t) (ha:c.isAgg=true) (hv:v=.agg cs) (h:DataW.Trod en P w base spare held t v d p):
  ∃x:U c,Wfd c x∧∀(F:Nat→Prop) (N:Nm) (nx:Nat),FB w F→Hv F N nx w (Ae c x) v:=by
 subst hv
 obtain⟨fuel,hf⟩:=h
 obtain⟨x,h2,h3⟩:=ho en w base spare held fuel _ _ hf
 exact⟨x,h2,fun F N nx hF=>Bjc (h3 F N nx hF) ha⟩
theorem Bie {fs:Array Field} (ht:P.underlying t=some (.struct fs)) (ho:Opn P c t) (ha:c.isAgg=true) (hv:Value.okWide P w r b0 t v) (h:DataW.Trod en P w base spare held t v d p):
  ∃x:U c,Wfd c x∧∀(F:Nat→Prop) (N:Nm) (nx:Nat),FB w F→Hv F N nx w (Ae c x) v:=by
 obtain⟨cs,hcs,_⟩:=A2c ht hv
 exact Bxg ho ha hcs h
end
theorem Bs1 {P:Program} {f:FuncId} {args:List A} {nx':Nat} {o':Objs} {b:Bool} (h:CallOk P f args 0 [] 1 (.v (.bool b)) nx' o') (W:World) (vs:List Value) (ha:∀(F:Nat→Prop) (N:Nm) (nx:Nat),FB W F→HL F N nx W args vs):
  Calls P f vs.toArray W fun e W'=>e=.returned (.bool b)∧Below W.heap.size W W':=by
 have hr:HRel (fun b=>b <W.heap.size) ⟨fun _=>0,fun _=> .nilFunc⟩ 0 [] W:=⟨fun g hg=>hg,fun i ob hi=>(by cases hi),fun i ob g hi=>(by cases hi),fun i j x y g hi=>(by cases hi)⟩
 refine(h _ _ W vs hr (ha _ _ _ fun b hb=>hb)).mono fun e W' ⟨y,F',N',he,_,_,hy,hb⟩=>?_
 rw[hy.v_inv] at he
 exact⟨he,hb (Nat.le_refl _)⟩
end Go.Proofs.Yteebobbhhgmeiaa
namespace Go.Proofs.Yteebobbhhgmeiaa.modelAsks
open Go.ChangeShapes Go.WideShapes Go.ChangeAt Go.RowKit
theorem lifted (os:Os) (started:os.Started) (H:Type) (enc:TypeId×Value→H):
  ReturnsInHanded {} Try.checked os 21 .any (Rows.modelAsksSpec.pre6 enc Try.prog Try.f21 Rows.modelAsksRow.domain false) (Rows.modelAsksSpec.post enc Try.prog Try.f21 false true false false):=by
 refine returnsInHanded_of_change (C:=Try.checked) own started (by kernel_rfl) Try.func21
  (ChangeSpec.witness6 (enc:=enc) (C:=Try.checked) false ⟨#[],#[.slice none 0 0,.slice none 0 0,.agg #[.string ⟨#[]⟩,.string ⟨#[]⟩,.string ⟨#[]⟩,.int .i64 0]],[]⟩ 8 (by kernel_rfl) (by kernel_rfl) (by kernel_rfl) (by kernel_rfl)) ?_
 intro W base args ds gs before hval0 hW hcnd _
 have hval:∀(j:Nat) t v,Try.f21.params[j]?=some t→args[j]?=some v→Value.okWide Try.prog W .any base t v:=hval0
 have hW':=hW
 have hlt:∀x∈before,x.block <W.heap.size:=fun x hx=>hW.lt x hx
 obtain⟨p,q,hA0,hV,rfl,hfz,hnd⟩:=hW
 have hA:DataW.TrodAll enc Try.prog W 0 (fun _=>true) true Try.f21.params.toList args.toList ds p:=hA0
 rw[Try.params21] at hA hval
 have hA':=hA
 obtain⟨v0,vs0,d0,ds0,p0,q0,hargs,rfl,rfl,h0,r0⟩:=trodAll_cons hA
 obtain⟨v1,vs1,d1,ds1,p1,q1,rfl,rfl,rfl,h1,r1⟩:=trodAll_cons r0
 obtain⟨v2,vs2,d2,ds2,p2,q2,rfl,rfl,rfl,h2,r2⟩:=trodAll_cons r1
 obtain⟨rfl,rfl,rfl⟩:=trodAll_nil r2
 obtain rfl:args=#[v0,v1,v2]:=by cases args;simp_all
 obtain⟨rfl,rfl⟩:=trodVars_none hV
 obtain⟨a0,w0,g0⟩:=Bc4 Try.underlying66 B33 (hval 0 66 v0 rfl rfl) h0
 obtain⟨a1,w1,g1⟩:=Bc4 Try.underlying67 B34 (hval 1 67 v1 rfl rfl) h1
 obtain⟨a2,w2,g2⟩:=Bie Try.underlying145 B31 rfl (hval 2 145 v2 rfl rfl) h2
 obtain⟨hn,ht⟩:=Bya a0 a1 a2 w0 w1
 have hc:=Asf a0 a1 a2 hn
 have hr:Nj a0 a1 a2=.v (.bool true):=by show A.v (.bool (Kg a0 a1 a2))=_;rw[ht]
 rw[hr] at hc
 refine(Bs1 hc W [v0,v1,v2] fun F N nx hF=>HL.cons (g0 F N nx hF) (HL.cons (g1 F N nx hF) (HL.cons (g2 F N nx hF) (HL.nil)))).mono fun e W' ⟨he,bel⟩=>?_
 subst he
 have hread:∀t∈[66,67,145],Try.prog.readableRec t=true∧t <Try.prog.types.size:=by
  intro t ht
  simp only[List.mem_cons,List.not_mem_nil,or_false] at ht
  rcases ht with rfl|rfl|rfl
  all_goals exact⟨by kernel_rfl,of_decide_eq_true (by kernel_rfl)⟩
 exact⟨_,rfl,_,_,_,[],_,[],hW',trodAll_mk1 (shut_bool Try.underlying4 _),
  Zk bel _ _ _ _ hread hA' (fun x hx=>hlt x (by simpa using hx)),rfl,bel.frame _,fun h=>by cases h⟩
theorem tA:Try.prog.funcNamed Rows.modelAsksRow.func=some 21:=by kernel_rfl
theorem b0:(Rows.modelAsksRow.wf (OpenSpec.ofChange Rows.modelAsksSpec))=true:=by kernel_rfl
theorem b1:(laidOutB Try.prog)=true:=by kernel_rfl
theorem b2:(mapsRowed Try.prog)=true:=by kernel_rfl
theorem b3:(Try.f21.params.all (Try.prog.readableRec ·))=true:=by kernel_rfl
theorem b4:(namedTie Try.prog Rows.modelAsksRow.named Rows.modelAsksSpec.vars)=true:=by kernel_rfl
theorem b5:((Rows.modelAsksRow.stops==[]))=true:=by kernel_rfl
theorem b6:((Try.prog.stops==[]))=true:=by kernel_rfl
theorem b7:((Rows.modelAsksRow.knobs==[]))=true:=by kernel_rfl
theorem b8:((Try.prog.stopKnobs==[]))=true:=by kernel_rfl
theorem b9:((Rows.modelAsksRow.inPlace==Try.prog.inPlace 21))=true:=by kernel_rfl
theorem b10:((Rows.modelAsksRow.unfollowed==Try.prog.unfollowed 21))=true:=by kernel_rfl
theorem b11:((Rows.modelAsksRow.recurses==Try.prog.recurses 21))=true:=by kernel_rfl
theorem b12:((Rows.modelAsksRow.named==Try.prog.varsNamed 21))=true:=by kernel_rfl
theorem b13:((Rows.modelAsksRow.maps==(Try.f21.params.toList++Rows.modelAsksSpec.plain.varTypes Try.prog).any (Try.prog.mapsRec ·)))=true:=by kernel_rfl
theorem b14:((Rows.modelAsksRow.ifaces==(Try.f21.params.toList++Rows.modelAsksSpec.plain.varTypes Try.prog).any (Try.prog.ifacesRec ·)))=true:=by kernel_rfl
theorem b15:((Rows.modelAsksRow.mapsOut==Try.prog.mapsAmong Try.f21.resultTypes.toList))=true:=by kernel_rfl
theorem b16:((Rows.modelAsksRow.loops==(Try.f21.params.toList++Rows.modelAsksSpec.plain.varTypes Try.prog).any (Try.prog.loopsFrom ·)))=true:=by kernel_rfl
theorem b17:((Rows.modelAsksRow.wideKeys==(Try.f21.params.toList++Rows.modelAsksSpec.plain.varTypes Try.prog++Try.f21.resultTypes.toList).any (Try.prog.wideKeysFrom ·)))=true:=by kernel_rfl
theorem b18:(Rows.modelAsksSpec.vars.all (Try.prog.varReadable ·))=true:=by kernel_rfl
theorem b19:(Try.f21.resultTypes.all (fun t=>Try.prog.readableRec t&&decide (t <Try.prog.types.size)))=true:=by kernel_rfl
theorem b20:((Rows.modelAsksRow.ifacesOut==Try.f21.resultTypes.toList.any (Try.prog.ifacesRec ·)))=true:=by kernel_rfl
theorem b21:((Rows.modelAsksRow.loopsOut==Try.f21.resultTypes.toList.any (Try.prog.loopsFrom ·)))=true:=by kernel_rfl
theorem b22:((Rows.modelAsksRow.plainKeys==Try.prog.plainKeys))=true:=by kernel_rfl
theorem b23:(Rows.modelAsksRow.shortTexts.isNone)=true:=by kernel_rfl
theorem b24:(Try.prog.stopsHeard)=true:=by kernel_rfl
theorem b25:(Try.prog.mayEnter)=true:=by kernel_rfl
theorem b26:((Rows.modelAsksRow.lifted==Try.prog.liftsFinal))=true:=by kernel_rfl
theorem b27:((Try.prog.make==some Rows.modelAsksRow.make))=true:=by kernel_rfl
theorem b28:((Rows.modelAsksRow.kinds==(if Rows.modelAsksRow.domain.isEmpty then[] else Try.f21.params.toList.map fun t=>match Try.prog.underlying t with|some (.int k)=>some k|_=>none)))=true:=by kernel_rfl
theorem b29:((Rows.modelAsksRow.pinned==Rows.modelAsksRow.pinnedBy))=true:=by kernel_rfl
theorem b30:((Rows.modelAsksRow.veiled==(Try.f21.params.toList++Rows.modelAsksSpec.plain.varTypes Try.prog++Try.f21.resultTypes.toList).any (Try.prog.veiledRec ·)))=true:=by kernel_rfl
theorem b31:(Rows.modelAsksRow.veiledFits Try.prog Try.f21.params.toList (Try.f21.params.toList++Rows.modelAsksSpec.plain.varTypes Try.prog++Try.f21.resultTypes.toList))=true:=by kernel_rfl
theorem Kp {a b:Bool} (h:a=true) (g:b=true):(a&&b)=true:=by rw[h,g];rfl
theorem tB:joinedFacts Try.prog 21 Try.f21 Rows.modelAsksSpec Rows.modelAsksRow=true:=by
 unfold joinedFacts
 exact(Kp (Kp (Kp (Kp (Kp (Kp (Kp (Kp (Kp (Kp (Kp (Kp (Kp (Kp (Kp (Kp (Kp (Kp (Kp (Kp (Kp (Kp (Kp (Kp (Kp (Kp (Kp (Kp (Kp (Kp (Kp b0 b1) b2) b3) b4) b5) b6) b7) b8) b9) b10) b11) b12) b13) b14) b15) b16) b17) b18) b19) b20) b21) b22) b23) b24) b25) b26) b27) b28) b29) b30) b31)
theorem tC:Try.f21.isInstance Try.prog Rows.modelAsksRow.origin Rows.modelAsksRow.targs:=of_decide_eq_true (by kernel_rfl)
theorem tD0:decide (Check.packageOf Try.f21.name= "main")=false:=by kernel_rfl
theorem tD:Try.f21.isWrapper Try.prog Rows.modelAsksRow.wrapper Rows.modelAsksRow.mainSum:=by
 unfold Func.isWrapper
 rw[if_neg (of_decide_eq_false tD0)]
 exact⟨rfl,rfl⟩
theorem over:Rows.modelAsksRow.holds Try.pinned (OpenSpec.ofChange Rows.modelAsksSpec):=
 OpenClaim.holds_of_wide 21 Try.f21 rfl rfl rfl rfl rfl rfl rfl ⟨rfl,rfl,rfl,rfl,rfl⟩ rfl rfl rfl rfl rfl tA Try.func21 tB tC tD
  (fun os started H enc _=>lifted os started H enc)
theorem proved:Rows.ModelAsksSaid:=over
end Go.Proofs.Yteebobbhhgmeiaa.modelAsks
