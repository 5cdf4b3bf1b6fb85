/- made by a program (rowgen.py): ModelKnows: for every input the law returns true, and each argument reads behind the call as it read before. -/
import Derived.Test.YteebobbhhgmeiaaKMnf
import Derived.Test.YteebobbhhgmeiaaRows

set_option maxRecDepth 100000
namespace Go.Proofs.Yteebobbhhgmeiaa
open Go.RowKit
def Aqr (z:Option TRow) (xs:List (Option TRow)):Option TRow:=xs.foldl Xu z
section
variable {l:List TGroup} {k:ByteArray}
theorem A78:∀{xs:List (Option TRow)} {z:Option TRow},OkO l k z→(∀x∈xs,OkO l k x)→OkO l k (Aqr z xs)
 | [],_,hz,_=>hz
 |x::xs,_,hz,hx=>A78 (xs:=xs) (Bd3 hz (hx x (List.mem_cons_self ..))) fun y hy=>hx y (List.mem_cons_of_mem _ hy)
theorem Bbh (z:Option TRow) (xs ys:List (Option TRow)):Aqr z (xs++ys)=Aqr (Aqr z xs) ys:=List.foldl_append
theorem Abt:∀{xs:List (Option TRow)} {z:Option TRow},OkO l k z→(∀x∈xs,OkO l k x)→Aqr z xs=Xu z (Aqr none xs)
 | [],z,_,_=>(Alc z).symm
 |x::xs,z,hz,hx=>by
  have h1:=hx x (List.mem_cons_self ..)
  have h2:=fun y hy=>hx y (List.mem_cons_of_mem _ hy)
  show Aqr (Xu z x) xs=Xu z (Aqr (Xu none x) xs)
  rw[Abt (Bd3 hz h1) h2,Abt (xs:=xs) (z:=Xu none x) h1 h2]
  exact Bij hz h1 (A78 (z:=none) trivial h2)
end
def nb (rows:List TRow):List TRow:=rows.filter fun r=>!Hn r
def stF (ss:List (List TRow)):List TRow:=ss.foldl (fun out rows=>mrg (out.length+(nb rows).length) out (nb rows)) []
def stG (z:List TRow) (ss:List (List TRow)):List TRow:=ss.foldl (fun out rows=>mrg (out.length+(nb rows).length) out (nb rows)) z
theorem B09 {l:List TGroup} {rows:List TRow} (hr:Om rows) (hg:∀r∈rows,Ai l r=0):Stt l (nb rows):=by
 refine⟨List.Pairwise.filter _ hr,fun r hm=>?_⟩
 obtain⟨h1,h2⟩:=List.mem_filter.1 hm
 exact⟨hg r h1,by simpa using h2⟩
theorem Bm8 {l:List TGroup}:∀{ss:List (List TRow)} {z:List TRow},Stt l z→(∀s∈ss,Stt l (nb s))→Stt l (stG z ss)
 | [],_,hz,_=>hz
 |s::ss,_,hz,h=>Bm8 (ss:=ss) (hz.mrg _ (h s (List.mem_cons_self ..))) fun t ht=>h t (List.mem_cons_of_mem _ ht)
theorem Bt3 {l:List TGroup} (k:ByteArray):∀{ss:List (List TRow)} {z:List TRow},Stt l z→(∀s∈ss,Stt l (nb s))→M4 (stG z ss) k=Aqr (M4 z k) (ss.map fun s=>M4 (nb s) k)
 | [],_,_,_=>rfl
 |s::ss,z,hz,h=>by
  have h1:=h s (List.mem_cons_self ..)
  show M4 (stG (mrg (z.length+(nb s).length) z (nb s)) ss) k=Aqr (Xu (M4 z k) (M4 (nb s) k)) (ss.map fun s=>M4 (nb s) k)
  rw[Bt3 k (ss:=ss) (hz.mrg _ h1) fun t ht=>h t (List.mem_cons_of_mem _ ht),Nf _ hz.rise h1.rise (Nat.le_refl _)]
theorem Aiz {l:List TGroup} {ss:List (List TRow)} (h:∀s∈ss,Stt l (nb s)):Stt l (stF ss):=Bm8 (Att l) h
theorem A0e {l:List TGroup} {ss:List (List TRow)} (h:∀s∈ss,Stt l (nb s)) (k:ByteArray):M4 (stF ss) k=Aqr none (ss.map fun s=>M4 (nb s) k):=Bt3 k (Att l) h
theorem Bjx {l:List TGroup} {ss ts:List (List TRow)} (hs:∀s∈ss,Stt l (nb s)) (ht:∀t∈ts,Stt l (nb t)) {n:Nat} (hn:(stF ss).length+(stF ts).length≤n):stF (ss++ts)=mrg n (stF ss) (stF ts):=by
 have ha:∀s∈ss++ts,Stt l (nb s):=fun s h=>by
  rcases List.mem_append.1 h with h|h
  ·exact hs s h
  ·exact ht s h
 refine Bfm (Aiz ha).rise (Pm n (Aiz hs).rise (Aiz ht).rise) fun k=>?_
 rw[A0e ha,Nf n (Aiz hs).rise (Aiz ht).rise hn,A0e hs,A0e ht,List.map_append,Bbh]
 have o1:∀x∈ss.map (fun s=>M4 (nb s) k),OkO l k x:=fun x hx=>by
  obtain⟨s,h1,rfl⟩:=List.mem_map.1 hx
  exact Bta (hs s h1) k
 have o2:∀x∈ts.map (fun s=>M4 (nb s) k),OkO l k x:=fun x hx=>by
  obtain⟨s,h1,rfl⟩:=List.mem_map.1 hx
  exact Bta (ht s h1) k
 exact Abt (A78 (z:=none) trivial o1) o2
end Go.Proofs.Yteebobbhhgmeiaa
namespace Go.Proofs.Yteebobbhhgmeiaa
open Go.RowKit
def ofC (p:Int) (s:TStamp) (v:TVec) (g:Bool) (x:ByteArray):TCell:=bif p==2&&g then⟨⟨0,0⟩,⟨0,0⟩,false,⟨#[]⟩,v⟩ else⟨s,v,g,x,⟨0,0⟩⟩
def Dz (l:List TGroup) (c:TChange) (w:TWrite):TCell:=ofC (LW l w.group.toNat) c.stamp c.vec w.gone w.value
def Ahj (l:List TGroup) (k:ByteArray):TRow:=⟨k,List.replicate l.length zeroC⟩
def ZS (o:List TRow):TRow:=C7 o (o.length - 1)
def IH (l:List TGroup) (o:List TRow) (k:ByteArray):List TRow:=bif(o.length==0)||!((ZS o).key==k) then o++[Ahj l k] else o
def A14 (l:List TGroup) (c:TChange) (o:List TRow) (w:TWrite):List TRow:=o.set (o.length - 1) ⟨(ZS o).key,(ZS o).cells.set w.group.toNat (Dz l c w)⟩
def L8 (l:List TGroup) (c:TChange) (o:List TRow) (w:TWrite):List TRow:=A14 l c (IH l o w.key) w
def Sc (l:List TGroup) (c:TChange):Nat→List TRow
 |0=>[]
 |i+1=>L8 l c (Sc l c i) (wN c.writes i)
def MJ (l:List TGroup) (c:TChange):List TRow:=bif No l c==0 then Sc l c c.writes.length else[]
theorem Ang {l:List TGroup} {c:TChange}:No l c=0↔AR l=0∧Di c=true∧Ahl c=true∧∀i,i <c.writes.length→Qf l c.writes i=false:=by
 unfold No
 cases h:AR l !=0 with
 |true=>
  rw[cond_true]
  have h':AR l≠0:=by simpa using h
  exact⟨fun e=>absurd e h',fun e=>absurd e.1 h'⟩
 | false=>
  have h':AR l=0:=by simpa using h
  rw[cond_false]
  cases h1:Di c with
  |false=>exact⟨fun e=>(by cases e),fun e=>by cases e.2.1⟩
  | true=>
   cases h2:Ahl c with
   |false=>exact⟨fun e=>(by cases e),fun e=>by cases e.2.2.1⟩
   | true=>
    rw[Bool.true_and,Bool.true_and]
    cases h3:J9 c.writes.length (fun i=>!Qf l c.writes i) with
    |false=>
     refine⟨fun e=>(by cases e),fun e=>?_⟩
     have:J9 c.writes.length (fun i=>!Qf l c.writes i)=true:=Hm.2 fun i hi=>by rw[e.2.2.2 i hi];rfl
     rw[this] at h3
     cases h3
    |true=>exact⟨fun _=>⟨h',rfl,rfl,fun i hi=>by simpa using Hm.1 h3 i hi⟩,fun _=>rfl⟩
theorem OD {l:List TGroup} {w:TWrite} (h:TD l w=true):w.key.size≠0∧w.key.size≤32∧0≤w.group∧w.group <(l.length:Int)∧w.value.size≤64∧(w.gone=true→w.value.size=0):=by
 unfold TD at h
 simp only[Bool.and_eq_true,Bool.not_eq_true',beq_eq_false_iff_ne,decide_eq_true_eq,Bool.or_eq_true,beq_iff_eq] at h
 obtain⟨⟨⟨⟨⟨h1,h2⟩,h3⟩,h4⟩,h5⟩,h6⟩:=h
 exact⟨h1,h2,h3,h4,h5,fun e=>by rcases h6 with h6|h6<;>first|exact h6|(rw[e] at h6;cases h6)⟩
theorem OL {l:List TGroup} {ws:List TWrite} {i:Nat} (h:Qf l ws i=false):TD l (wN ws i)=true∧(0 <i→J8 (wN ws (i - 1)) (wN ws i)=true):=by
 unfold Qf at h
 rw[Bool.or_eq_false_iff] at h
 refine⟨by simpa using h.1,fun hi=>?_⟩
 have:=h.2
 rw[decide_eq_true hi,Bool.true_and] at this
 simpa using this
theorem Ml {c:TChange} (h:Di c=true):(c.site=1∨c.site=2)∧1≤c.seq∧c.seq≤1099511627776∧c.stamp.site=c.site∧HJ c.stamp=true∧CL c.vec=true:=by
 unfold Di at h
 simp only[Bool.and_eq_true,Bool.or_eq_true,beq_iff_eq,decide_eq_true_eq] at h
 obtain⟨⟨⟨⟨⟨⟨h1,h2⟩,h3⟩,h4⟩,h5⟩,h6⟩,_⟩:=h
 exact⟨h1,h2,h3,h4,h5,h6⟩
theorem Avf {c:TChange} (h:Di c=true):0 <c.stamp.n:=by
 obtain⟨h1,_,_,h4,h5,_⟩:=Ml h
 unfold HJ at h5
 have hs:(c.stamp.site==0)=false:=beq_eq_false_iff_ne.2 (by rw[h4];rcases h1 with e|e<;>rw[e]<;>decide)
 rw[hs,Bool.and_false,cond_false] at h5
 simp only[Bool.and_eq_true,decide_eq_true_eq] at h5
 omega
theorem Bmy {l:List TGroup} (hp:AR l=0) {g:Nat} (hg:g <l.length):LW l g=1∨LW l g=2:=by
 have h:Ai l ⟨⟨#[1]⟩,List.replicate l.length zeroC⟩=0:=by
  rw[Qt]
  unfold VO SB
  rw[hp]
  rfl
 have h1:=Jq h hg
 unfold Bv at h1
 by_cases e1:LW l g=1
 ·exact .inl e1
 by_cases e2:LW l g=2
 ·exact .inr e2
 ·have f1:(LW l g==1)=false:=beq_eq_false_iff_ne.2 e1
  have f2:(LW l g==2)=false:=beq_eq_false_iff_ne.2 e2
  simp[f1,f2] at h1
theorem Bs7 {p:Int} (hp:p=1∨p=2) {s:TStamp} {v:TVec} {g:Bool} {x:ByteArray} (hs:HJ s=true) (hn:0 <s.n) (hv:CL v=true) (hx:x.size≤64) (hg:g=true→x.size=0):Bv p (ofC p s v g x)=true:=by
 have hw:∀d:TVec,BR ⟨s,v,g,x,d⟩=true:=fun d=>by
  unfold BR
  have:(s.n==0)=false:=beq_eq_false_iff_ne.2 (by omega)
  show(!(s.n==0&&_&&_&&_))=true
  rw[this]
  rfl
 have hgx:(g&&!(x.size==0))=false:=by
  cases g with
  |false=>rfl
  |true=>rw[hg rfl];rfl
 have hz:G8 ⟨0,0⟩=true:=rfl
 have hx':decide ((x.size:Int)≤64)=true:=decide_eq_true (by omega)
 rcases hp with rfl|rfl
 ·show Bv 1 ⟨s,v,g,x,⟨0,0⟩⟩=true
  unfold Bv
  rw[hw]
  show(bif(1:Int)==1&&!G8 ⟨0,0⟩||_ then false else bif !true then true else HJ s&&decide (0 <s.n)&&CL v&&decide ((x.size:Int)≤64)&&!(g&&!(x.size==0)))=true
  rw[hs,decide_eq_true hn,hv,hx',hgx]
  rfl
 ·unfold ofC
  cases g with
  |true=>
   show Bv 2 ⟨⟨0,0⟩,⟨0,0⟩,false,⟨#[]⟩,v⟩=true
   unfold Bv
   show(bif(2:Int)==1&&!G8 v||((2:Int)==2&&(false||!CL v)||!((2:Int)==1||(2:Int)==2)) then false else bif !BR ⟨⟨0,0⟩,⟨0,0⟩,false,⟨#[]⟩,v⟩ then true else _)=true
   rw[hv]
   rfl
  |false=>
   show Bv 2 ⟨s,v,false,x,⟨0,0⟩⟩=true
   unfold Bv
   rw[hw]
   show(bif(2:Int)==1&&!G8 ⟨0,0⟩||((2:Int)==2&&(false||!CL ⟨0,0⟩)||!((2:Int)==1||(2:Int)==2)) then false else bif !true then true else HJ s&&decide (0 <s.n)&&CL v&&decide ((x.size:Int)≤64)&&!(false&&!(x.size==0)))=true
   rw[hs,decide_eq_true hn,hv,hx']
   rfl
theorem TI {l:List TGroup} {c:TChange} {w:TWrite} (hp:AR l=0) (hh:Di c=true) (hw:TD l w=true):Bv (LW l w.group.toNat) (Dz l c w)=true:=by
 obtain⟨_,_,h3,h4,h5,h6⟩:=OD hw
 obtain⟨_,_,_,_,s5,s6⟩:=Ml hh
 exact Bs7 (Bmy hp (by omega)) s5 (Avf hh) s6 h5 h6
theorem SV (pre:List TRow) (z:TRow):ZS (pre++[z])=z:=by
 unfold ZS C7
 rw[List.length_append,List.length_singleton,Nat.add_sub_cancel,List.getD_eq_getElem?_getD,List.getElem?_append_right (Nat.le_refl _),Nat.sub_self]
 rfl
theorem Tc (l:List TGroup) (c:TChange) (pre:List TRow) (z:TRow) (w:TWrite):A14 l c (pre++[z]) w=pre++[⟨z.key,z.cells.set w.group.toNat (Dz l c w)⟩]:=by
 unfold A14
 rw[SV,List.length_append,List.length_singleton,Nat.add_sub_cancel,List.set_append_right _ _ (Nat.le_refl _),Nat.sub_self]
 rfl
theorem Wn {l:List TGroup} {r:TRow} {g:Nat} {x:TCell} (h:Ai l r=0) (hx:Bv (LW l g) x=true):Ai l ⟨r.key,r.cells.set g x⟩=0:=by
 obtain⟨h1,h2,h3,h4,_⟩:=AJ h
 have hl:(r.cells.set g x).length=l.length:=by rw[List.length_set];exact h2
 refine Avc h1 h3 h4 hl ((A6v hl).2 fun i hi=>?_)
 have e:Cm (r.cells.set g x) i=if g=i then x else Cm r.cells i:=by
  unfold Cm
  rw[List.getD_eq_getElem?_getD,List.getElem?_set]
  by_cases e:g=i
  ·subst e
   rw[if_pos rfl,if_pos rfl,if_pos (by omega)]
   rfl
  ·rw[if_neg e,if_neg e,←List.getD_eq_getElem?_getD]
 rw[e]
 by_cases e:g=i
 ·subst e
  rw[if_pos rfl]
  exact hx
 ·rw[if_neg e]
  exact Jq h hi
theorem Afy {l:List TGroup} {w:TWrite} (hp:AR l=0) (hw:TD l w=true):Ai l (Ahj l w.key)=0:=by
 obtain⟨h1,h2,_⟩:=OD hw
 unfold Ahj
 rw[Qt]
 unfold VO SB
 rw[hp,beq_eq_false_iff_ne.2 h1,decide_eq_false (by omega)]
 rfl
theorem Azp {pre:List TRow} {z:TRow}:Om (pre++[z])↔Om pre∧∀r∈pre,Jd r.key z.key=true:=by
 unfold Om
 rw[List.pairwise_append]
 constructor
 ·rintro⟨h1,_,h3⟩
  exact⟨h1,fun r hr=>h3 r hr z (List.mem_singleton.2 rfl)⟩
 ·rintro⟨h1,h2⟩
  exact⟨h1,List.pairwise_singleton _ _,fun r hr y hy=>by rw[List.mem_singleton.1 hy];exact h2 r hr⟩
structure ChI (l:List TGroup) (o:List TRow) (k:ByteArray):Prop where
 last:∃pre z,o=pre++[z]∧z.key=k
 rise:Om o
 good:∀r∈o,Ai l r=0
theorem Bgc {l:List TGroup} {c:TChange} {w:TWrite} (hp:AR l=0) (hh:Di c=true) (hw:TD l w=true):ChI l (L8 l c [] w) w.key:=by
 have e:L8 l c [] w=[]++[⟨w.key,(Ahj l w.key).cells.set w.group.toNat (Dz l c w)⟩]:=Tc l c [] (Ahj l w.key) w
 rw[e]
 refine⟨⟨[],_,rfl,rfl⟩,List.pairwise_singleton _ _,fun r hr=>?_⟩
 rw[List.mem_singleton.1 hr]
 exact Wn (Afy hp hw) (TI hp hh hw)
theorem Bjy {l:List TGroup} {c:TChange} {o:List TRow} {v w:TWrite} (hp:AR l=0) (hh:Di c=true) (hw:TD l w=true) (h:ChI l o v.key) (hv:J8 v w=true):ChI l (L8 l c o w) w.key:=by
 obtain⟨⟨pre,z,rfl,hz⟩,hr,hg⟩:=h
 have hn:((pre++[z]).length==0)=false:=beq_eq_false_iff_ne.2 (by rw[List.length_append,List.length_singleton];omega)
 obtain⟨r1,r2⟩:=Azp.1 hr
 by_cases hk:z.key=w.key
 ·have e:L8 l c (pre++[z]) w=pre++[⟨z.key,z.cells.set w.group.toNat (Dz l c w)⟩]:=by
   unfold L8 IH
   rw[hn,SV,hk,beq_self_eq_true]
   show A14 l c (pre++[z]) w=_
   rw[Tc,hk]
  rw[e]
  refine⟨⟨pre,_,rfl,hk⟩,Azp.2 ⟨r1,r2⟩,fun r hr=>?_⟩
  rcases List.mem_append.1 hr with hr|hr
  ·exact hg r (List.mem_append.2 (.inl hr))
  ·rw[List.mem_singleton.1 hr]
   exact Wn (hg z (List.mem_append.2 (.inr (List.mem_singleton.2 rfl)))) (TI hp hh hw)
 ·have e:L8 l c (pre++[z]) w=(pre++[z])++[⟨w.key,(Ahj l w.key).cells.set w.group.toNat (Dz l c w)⟩]:=by
   unfold L8 IH
   rw[hn,SV,beq_eq_false_iff_ne.2 hk]
   show A14 l c ((pre++[z])++[Ahj l w.key]) w=_
   rw[Tc]
   rfl
  have hlt:Jd z.key w.key=true:=by
   unfold J8 at hv
   rw[←hz,beq_eq_false_iff_ne.2 hk,Bool.false_and,Bool.or_false] at hv
   exact hv
  rw[e]
  refine⟨⟨pre++[z],_,rfl,rfl⟩,Azp.2 ⟨hr,fun r hr=>?_⟩,fun r hr=>?_⟩
  ·rcases List.mem_append.1 hr with hr|hr
   ·exact KY (r2 r hr) hlt
   ·rw[List.mem_singleton.1 hr]
    exact hlt
  ·rcases List.mem_append.1 hr with hr|hr
   ·exact hg r hr
   ·rw[List.mem_singleton.1 hr]
    exact Wn (Afy hp hw) (TI hp hh hw)
theorem A6i {l:List TGroup} {c:TChange} (h:No l c=0):∀i,i <c.writes.length→ChI l (Sc l c (i+1)) (wN c.writes i).key
 |0,hi=>by
  obtain⟨hp,hh,_,hb⟩:=Ang.1 h
  exact Bgc hp hh (OL (hb 0 hi)).1
 |i+1,hi=>by
  obtain⟨hp,hh,_,hb⟩:=Ang.1 h
  obtain⟨h1,h2⟩:=OL (hb (i+1) hi)
  exact Bjy hp hh h1 (A6i h i (by omega)) (h2 (by omega))
theorem Bb8 {l:List TGroup} {c:TChange} (h:No l c=0) (i:Nat) (hi:i≤c.writes.length):Om (Sc l c i)∧∀r∈Sc l c i,Ai l r=0:=by
 cases i with
 |zero=>exact⟨List.Pairwise.nil,fun r hr=>by cases hr⟩
 |succ i=>
  have:=A6i h i hi
  exact⟨this.rise,this.good⟩
theorem Ae9 (l:List TGroup) (c:TChange):Om (MJ l c)∧∀r∈MJ l c,Ai l r=0:=by
 unfold MJ
 cases h:No l c==0 with
 |false=>exact⟨List.Pairwise.nil,fun r hr=>by cases hr⟩
 |true=>exact Bb8 (by simpa using h) _ (Nat.le_refl _)
theorem Bpb (l:List TGroup) (c:TChange) (o:List TRow) (w:TWrite):(L8 l c o w).length≤o.length+1:=by
 unfold L8 A14 IH
 rw[List.length_set]
 cases(o.length==0)||!((ZS o).key==w.key) with
 |true=>rw[cond_true,List.length_append];exact Nat.le_refl _
 |false=>exact Nat.le_succ _
theorem A6j (l:List TGroup) (c:TChange):∀i,(Sc l c i).length≤i
 |0=>Nat.le_refl _
 |i+1=>Nat.le_trans (Bpb ..) (Nat.succ_le_succ (A6j l c i))
end Go.Proofs.Yteebobbhhgmeiaa
namespace Go.Proofs.Yteebobbhhgmeiaa
open Go.RowKit
def Bvo (a0:List TGroup) (a1:TChange):A:=.tup [.dq 0,.v (.int .i64 (No a0 a1))]
def Bvn (a0:List TGroup) (a1:TChange):Objs:=[(0,some (.deep 71 .row (MJ a0 a1)))]
theorem Bw3 {l:List TGroup} {c:TChange} {w:TWrite} (hp:AR l=0) (hh:Di c=true) (hw:TD l w=true):Kk (l.getD w.group.toNat (Ac TC.group)).2 c.stamp c.vec w.gone w.value=Dz l c w∧HX (l.getD w.group.toNat (Ac TC.group)).2 c.stamp c.vec w.gone w.value=Dz l c w:=by
 obtain⟨_,_,g0,g1,hx,hg⟩:=OD hw
 obtain⟨_,_,_,_,hs,hv⟩:=Ml hh
 have hn:0 <c.stamp.n:=Avf hh
 have hpo:(l.getD w.group.toNat (Ac TC.group)).2=1∨(l.getD w.group.toNat (Ac TC.group)).2=2:=Bmy hp (by omega)
 unfold Dz LW
 show _=ofC (l.getD w.group.toNat (Ac TC.group)).2 _ _ _ _∧_=ofC (l.getD w.group.toNat (Ac TC.group)).2 _ _ _ _
 generalize (l.getD w.group.toNat (Ac TC.group)).2=p at*
 generalize c.stamp=s at*
 generalize c.vec=v at*
 have h1:(p !=(1:Int)&&p !=(2:Int))=false:=Bwx.2 hpo
 have h2:(s.1==(0:Int))=false:=beq_eq_false_iff_ne.2 (by have:s.1=s.n:=rfl;omega)
 have h3:(w.gone&&!w.value.toList==(ByteArray.mk #[]).toList)=false:=by
  rw[RG]
  cases h:w.gone with
  |false=>rfl
  |true=>rw[hg h];rfl
 have h4:decide ((w.value.size:Int) >(64:Int))=false:=decide_eq_false (by omega)
 constructor
 ·have k0:Ia p s v w.gone w.value=false:=by
   unfold Ia
   rw[XK,QR,hs,hv,h1,h2,h3]
   rfl
  have k1:I0 p s v w.gone w.value=false:=h4
  have k2:I1 p s v w.gone w.value=(p==2&&w.gone):=rfl
  unfold Kk ofC
  rw[k0,k1,k2]
  cases p==2&&w.gone<;>rfl
 ·have k2:IC p s v w.gone w.value=false:=by
   unfold IC
   rw[Kp,K4,hs,hv,h1,h2,h3]
   rfl
  have k3:Jj p s v w.gone w.value=false:=h4
  have k1:GP p s v w.gone w.value=(p==2&&w.gone):=by
   unfold GP
   rw[k2,k3]
   cases w.gone<;>cases p==2<;>rfl
  have k0:Ma p s v w.gone w.value=0:=by
   unfold Ma
   rw[k2,k3]
   rfl
  unfold HX ofC
  rw[k1,k0,k2,k3]
  cases p==2&&w.gone<;>rfl
theorem Bdi {n:Nat} (h:n≤100):(IntKind.i64.wrap ((n:Int) - 1)).toNat=n - 1:=by
 rw[i64_in (by omega)]
 omega
theorem Axg (l:List TGroup) (o:List TRow) (k:ByteArray):1≤(IH l o k).length∧(IH l o k).length≤o.length+1:=by
 unfold IH
 cases h:(o.length==0)||!((ZS o).key==k) with
 |true=>rw[cond_true,List.length_append];exact⟨Nat.le_add_left _ _,Nat.le_refl _⟩
 |false=>
  rw[cond_false]
  have:(o.length==0)=false:=(Bool.or_eq_false_iff.1 h).1
  have:o.length≠0:=by simpa using this
  omega
theorem A79 {l:List TGroup} {o:List TRow} (k:ByteArray) (h:∀r∈o,Ai l r=0):∀r∈IH l o k,r.cells.length=l.length:=fun r hr=>by
 have h1:∀r∈o,r.cells.length=l.length:=fun r hr=>(AJ (h r hr)).2.1
 unfold IH at hr
 cases hb:(o.length==0)||!((ZS o).key==k) with
 | true=>
  rw[hb,cond_true] at hr
  rcases List.mem_append.1 hr with hr|hr
  ·exact h1 r hr
  ·rw[List.mem_singleton.1 hr]
   exact List.length_replicate
 |false=>rw[hb,cond_false] at hr;exact h1 r hr
theorem Ra {l:List TGroup} {c:TChange} (h:No l c=0) {i:Nat} (hi:i <c.writes.length):AR l=0∧Di c=true∧TD l (wN c.writes i)=true∧c.writes.length≤8∧l.length≤4∧(Sc l c i).length≤i∧∀r∈IH l (Sc l c i) (wN c.writes i).key,r.cells.length=l.length:=by
 obtain⟨hp,hh,hn,hb⟩:=Ang.1 h
 unfold Ahl at hn
 rw[Bool.and_eq_true,decide_eq_true_eq,decide_eq_true_eq] at hn
 exact⟨hp,hh,(OL (hb i hi)).1,hn.2,(G7 hp).2,A6j l c i,A79 _ (Bb8 h i (by omega)).2⟩
theorem Bv2 {l:List TGroup} {c:TChange} (h:No l c=0):c.writes.length≤8:=by
 obtain⟨_,_,hn,_⟩:=Ang.1 h
 unfold Ahl at hn
 rw[Bool.and_eq_true,decide_eq_true_eq,decide_eq_true_eq] at hn
 exact hn.2
theorem Bs3 {l:List TGroup} {w:TWrite} (hp:AR l=0) (hw:TD l w=true):Ahk l w.key=Ahj l w.key:=by
 obtain⟨h1,h2,_⟩:=OD hw
 have hk:SB w.key=0:=by
  unfold SB
  rw[show(w.key.size==0)=false by simpa using h1,decide_eq_false (by omega)]
  rfl
 have hn:VO l w.key=0:=by unfold VO;rw[hp,hk];rfl
 unfold Ahk Ahj
 rw[hn]
 rfl
abbrev By:Type:=(List TGroup)×(List TWrite)×Int×Int×TChange×(List TRow)
def JP (x:By):St:=⟨85,3,[(0,.sl .group x.1),(3,.own 0 0),(7,.dq 2),(22,.sl .write x.2.1),(23,.v (.int .i64 x.2.2.1)),(24,.v (.int .i64 x.2.2.2.1))],[(0,some (.box 136 [.v (.int .i64 x.2.2.2.2.1.site),.v (.int .i64 x.2.2.2.2.1.seq),.v (.int .i64 x.2.2.2.2.1.stamp.n),.v (.int .i64 x.2.2.2.2.1.stamp.site),.v (.int .i64 x.2.2.2.2.1.vec.a),.v (.int .i64 x.2.2.2.2.1.vec.b),.sl .write x.2.2.2.2.1.writes])),(2,some (.deep 71 .row x.2.2.2.2.2))]⟩
def K8:St→Option By
 |⟨85,3,[(0,.sl .group z0),(3,.own 0 0),(7,.dq 2),(22,.sl .write z1),(23,.v (.int .i64 z2)),(24,.v (.int .i64 z3))],[(0,some (.box 136 [.v (.int .i64 z4),.v (.int .i64 z5),.v (.int .i64 z6),.v (.int .i64 z7),.v (.int .i64 z8),.v (.int .i64 z9),.sl .write z10])),(2,some (.deep 71 .row z11))]⟩=>some (z0,z1,z2,z3,⟨z4,z5,⟨z6,z7⟩,⟨z8,z9⟩,z10⟩,z11)
 |_=>none
theorem Y9:∀s x,K8 s=some x→s=JP x:=fun s x h=>by
 unfold K8 at h
 split at h
 ·cases h;rfl
 ·cases h
def Sg:De:=⟨2,3,[0,3,7,22,23,24],[],[(0,0),(8,2)],[0,8],[7],[2,0]⟩
def Ajn:Dy:=⟨[.nilD 7 71 .row],[(0,0),(1,2)],[0,3,7,22,23,24],[0,1]⟩
def Bi (_a0:List TGroup) (_a1:List TWrite) (_a2:Int) (_a3:Int) (_a4:TChange) (a5:List TRow):Bool:=(↑a5.length:Int)==(0:Int)
def AS (_a0:List TGroup) (_a1:List TWrite) (_a2:Int) (_a3:Int) (_a4:TChange) (a5:List TRow):Int:=IntKind.i64.wrap ((↑a5.length:Int) - (1:Int))
def AA (a0:List TGroup) (a1:List TWrite) (a2:Int) (a3:Int) (a4:TChange) (a5:List TRow):List TRow:=bif(Bi a0 a1 a2 a3 a4 a5)||!(a5.getD (AS a0 a1 a2 a3 a4 a5).toNat (Ac TC.row)).1.toList==(a1.getD a3.toNat (Ac TC.write)).1.toList then a5++[Zx TC.row TC.cell (TRow.mk (Ahk a0 (a1.getD a3.toNat (Ac TC.write)).1).1 []) (Ahk a0 (a1.getD a3.toNat (Ac TC.write)).1).2] else a5
def Aw (a0:List TGroup) (a1:List TWrite) (a2:Int) (a3:Int) (a4:TChange) (a5:List TRow):Int:=IntKind.i64.wrap ((↑(AA a0 a1 a2 a3 a4 a5).length:Int) - (1:Int))
def ID (a0:List TGroup) (a1:List TWrite) (a2:Int) (a3:Int) (a4:TChange) (a5:List TRow):List TRow:=(AA a0 a1 a2 a3 a4 a5).set (Aw a0 a1 a2 a3 a4 a5).toNat (Zx TC.row TC.cell ((AA a0 a1 a2 a3 a4 a5).getD (Aw a0 a1 a2 a3 a4 a5).toNat (Ac TC.row)) (((AA a0 a1 a2 a3 a4 a5).getD (Aw a0 a1 a2 a3 a4 a5).toNat (Ac TC.row)).2.set (a1.getD a3.toNat (Ac TC.write)).2.toNat (HX (a0.getD (a1.getD a3.toNat (Ac TC.write)).2.toNat (Ac TC.group)).2 a4.3 a4.4 (a1.getD a3.toNat (Ac TC.write)).3 (a1.getD a3.toNat (Ac TC.write)).4)))
def Dh (x:By):By:=(x.1,x.2.1,x.2.2.1,IntKind.i64.wrap (x.2.2.2.1+(1:Int)),x.2.2.2.2.1,ID x.1 x.2.1 x.2.2.1 x.2.2.2.1 x.2.2.2.2.1 x.2.2.2.2.2)
def Dg (x:By):Cnd:=some (!!decide (x.2.2.2.1 <x.2.2.1))
def OW (x:By):List Prop:=[((!!decide (x.2.2.2.1 <x.2.2.1))=true→(0:Int)≤x.2.2.2.1∧x.2.2.2.1 <(↑x.2.1.length:Int)),((!!decide (x.2.2.2.1 <x.2.2.1))=true→(Bi x.1 x.2.1 x.2.2.1 x.2.2.2.1 x.2.2.2.2.1 x.2.2.2.2.2)=false→(0:Int)≤(AS x.1 x.2.1 x.2.2.1 x.2.2.2.1 x.2.2.2.2.1 x.2.2.2.2.2)∧(AS x.1 x.2.1 x.2.2.1 x.2.2.2.1 x.2.2.2.2.1 x.2.2.2.2.2) <(↑x.2.2.2.2.2.length:Int)),((!!decide (x.2.2.2.1 <x.2.2.1))=true→(Bi x.1 x.2.1 x.2.2.1 x.2.2.2.1 x.2.2.2.2.1 x.2.2.2.2.2)=false→(AS x.1 x.2.1 x.2.2.1 x.2.2.2.1 x.2.2.2.2.1 x.2.2.2.2.2).toNat <x.2.2.2.2.2.length),((!!decide (x.2.2.2.1 <x.2.2.1))=true→((Bi x.1 x.2.1 x.2.2.1 x.2.2.2.1 x.2.2.2.2.1 x.2.2.2.2.2)||!(x.2.2.2.2.2.getD (AS x.1 x.2.1 x.2.2.1 x.2.2.2.1 x.2.2.2.2.1 x.2.2.2.2.2).toNat (Ac TC.row)).1.toList==(x.2.1.getD x.2.2.2.1.toNat (Ac TC.write)).1.toList)=true→Ag x.1.length),((!!decide (x.2.2.2.1 <x.2.2.1))=true→((Bi x.1 x.2.1 x.2.2.1 x.2.2.2.1 x.2.2.2.2.1 x.2.2.2.2.2)||!(x.2.2.2.2.2.getD (AS x.1 x.2.1 x.2.2.1 x.2.2.2.1 x.2.2.2.2.1 x.2.2.2.2.2).toNat (Ac TC.row)).1.toList==(x.2.1.getD x.2.2.2.1.toNat (Ac TC.write)).1.toList)=true→Ag (x.2.2.2.2.2.length+(1:Nat))),((!!decide (x.2.2.2.1 <x.2.2.1))=true→(0:Int)≤(x.2.1.getD x.2.2.2.1.toNat (Ac TC.write)).2∧(x.2.1.getD x.2.2.2.1.toNat (Ac TC.write)).2 <(↑x.1.length:Int)),((!!decide (x.2.2.2.1 <x.2.2.1))=true→(0:Int)≤(Aw x.1 x.2.1 x.2.2.1 x.2.2.2.1 x.2.2.2.2.1 x.2.2.2.2.2)∧(Aw x.1 x.2.1 x.2.2.1 x.2.2.2.1 x.2.2.2.2.1 x.2.2.2.2.2) <(↑(AA x.1 x.2.1 x.2.2.1 x.2.2.2.1 x.2.2.2.2.1 x.2.2.2.2.2).length:Int)),((!!decide (x.2.2.2.1 <x.2.2.1))=true→(Aw x.1 x.2.1 x.2.2.1 x.2.2.2.1 x.2.2.2.2.1 x.2.2.2.2.2).toNat <(AA x.1 x.2.1 x.2.2.1 x.2.2.2.1 x.2.2.2.2.1 x.2.2.2.2.2).length),((!!decide (x.2.2.2.1 <x.2.2.1))=true→(Aw x.1 x.2.1 x.2.2.1 x.2.2.2.1 x.2.2.2.2.1 x.2.2.2.2.2).toNat <(AA x.1 x.2.1 x.2.2.1 x.2.2.2.1 x.2.2.2.2.1 x.2.2.2.2.2).length∧(0:Int)≤(x.2.1.getD x.2.2.2.1.toNat (Ac TC.write)).2∧(x.2.1.getD x.2.2.2.1.toNat (Ac TC.write)).2 <(↑((AA x.1 x.2.1 x.2.2.1 x.2.2.2.1 x.2.2.2.2.1 x.2.2.2.2.2).getD (Aw x.1 x.2.1 x.2.2.1 x.2.2.2.1 x.2.2.2.2.1 x.2.2.2.2.2).toNat (Ac TC.row)).2.length:Int)),((!!decide (x.2.2.2.1 <x.2.2.1))=true→(Aw x.1 x.2.1 x.2.2.1 x.2.2.2.1 x.2.2.2.2.1 x.2.2.2.2.2).toNat <(AA x.1 x.2.1 x.2.2.1 x.2.2.2.1 x.2.2.2.2.1 x.2.2.2.2.2).length),((!!decide (x.2.2.2.1 <x.2.2.1))=true→(x.2.1.getD x.2.2.2.1.toNat (Ac TC.write)).2.toNat <((AA x.1 x.2.1 x.2.2.1 x.2.2.2.1 x.2.2.2.2.1 x.2.2.2.2.2).getD (Aw x.1 x.2.1 x.2.2.1 x.2.2.2.1 x.2.2.2.2.1 x.2.2.2.2.2).toNat (Ac TC.row)).2.length)]
def Ft (x:By):List Prop:=[((!!decide (x.2.2.2.1 <x.2.2.1))=true→(0:Int)≤x.2.2.2.1∧x.2.2.2.1 <(↑x.2.1.length:Int)),((!!decide (x.2.2.2.1 <x.2.2.1))=true→(Bi x.1 x.2.1 x.2.2.1 x.2.2.2.1 x.2.2.2.2.1 x.2.2.2.2.2)=false→(0:Int)≤(AS x.1 x.2.1 x.2.2.1 x.2.2.2.1 x.2.2.2.2.1 x.2.2.2.2.2)∧(AS x.1 x.2.1 x.2.2.1 x.2.2.2.1 x.2.2.2.2.1 x.2.2.2.2.2) <(↑x.2.2.2.2.2.length:Int)),((!!decide (x.2.2.2.1 <x.2.2.1))=true→((Bi x.1 x.2.1 x.2.2.1 x.2.2.2.1 x.2.2.2.2.1 x.2.2.2.2.2)||!(x.2.2.2.2.2.getD (AS x.1 x.2.1 x.2.2.1 x.2.2.2.1 x.2.2.2.2.1 x.2.2.2.2.2).toNat (Ac TC.row)).1.toList==(x.2.1.getD x.2.2.2.1.toNat (Ac TC.write)).1.toList)=true→Ag x.1.length),((!!decide (x.2.2.2.1 <x.2.2.1))=true→((Bi x.1 x.2.1 x.2.2.1 x.2.2.2.1 x.2.2.2.2.1 x.2.2.2.2.2)||!(x.2.2.2.2.2.getD (AS x.1 x.2.1 x.2.2.1 x.2.2.2.1 x.2.2.2.2.1 x.2.2.2.2.2).toNat (Ac TC.row)).1.toList==(x.2.1.getD x.2.2.2.1.toNat (Ac TC.write)).1.toList)=true→Ag (x.2.2.2.2.2.length+(1:Nat))),((!!decide (x.2.2.2.1 <x.2.2.1))=true→(0:Int)≤(x.2.1.getD x.2.2.2.1.toNat (Ac TC.write)).2∧(x.2.1.getD x.2.2.2.1.toNat (Ac TC.write)).2 <(↑x.1.length:Int)),((!!decide (x.2.2.2.1 <x.2.2.1))=true→(0:Int)≤(Aw x.1 x.2.1 x.2.2.1 x.2.2.2.1 x.2.2.2.2.1 x.2.2.2.2.2)∧(Aw x.1 x.2.1 x.2.2.1 x.2.2.2.1 x.2.2.2.2.1 x.2.2.2.2.2) <(↑(AA x.1 x.2.1 x.2.2.1 x.2.2.2.1 x.2.2.2.2.1 x.2.2.2.2.2).length:Int)),((!!decide (x.2.2.2.1 <x.2.2.1))=true→(Aw x.1 x.2.1 x.2.2.1 x.2.2.2.1 x.2.2.2.2.1 x.2.2.2.2.2).toNat <(AA x.1 x.2.1 x.2.2.1 x.2.2.2.1 x.2.2.2.2.1 x.2.2.2.2.2).length∧(0:Int)≤(x.2.1.getD x.2.2.2.1.toNat (Ac TC.write)).2∧(x.2.1.getD x.2.2.2.1.toNat (Ac TC.write)).2 <(↑((AA x.1 x.2.1 x.2.2.1 x.2.2.2.1 x.2.2.2.2.1 x.2.2.2.2.2).getD (Aw x.1 x.2.1 x.2.2.1 x.2.2.2.1 x.2.2.2.2.1 x.2.2.2.2.2).toNat (Ac TC.row)).2.length:Int)),((!!decide (x.2.2.2.1 <x.2.2.1))=true→(x.2.1.getD x.2.2.2.1.toNat (Ac TC.write)).2.toNat <((AA x.1 x.2.1 x.2.2.1 x.2.2.2.1 x.2.2.2.2.1 x.2.2.2.2.2).getD (Aw x.1 x.2.1 x.2.2.1 x.2.2.2.1 x.2.2.2.2.1 x.2.2.2.2.2).toNat (Ac TC.row)).2.length)]
def N3 (x:By):Bj:=[(some 0,some (!decide (x.2.2.2.1 <x.2.2.1)),⟨85,3,[(7,.dq 2)],[(2,some (.deep 71 .row x.2.2.2.2.2)),(0,some (.box 136 [.v (.int .i64 x.2.2.2.2.1.1),.v (.int .i64 x.2.2.2.2.1.2),.v (.int .i64 x.2.2.2.2.1.3.1),.v (.int .i64 x.2.2.2.2.1.3.2),.v (.int .i64 x.2.2.2.2.1.4.1),.v (.int .i64 x.2.2.2.2.1.4.2),.sl .write x.2.2.2.2.1.5]))]⟩)]
def Ew (x:By):Nat:=(x.2.2.1 - x.2.2.2.1).toNat
def KD (x:By):By:=A9 Dh Dg (Ew x) x
theorem Afc (a0:List TGroup) (a1:List TWrite) (a2:Int) (a3:Int) (a4:TChange) (a5:List TRow):Bw (As Cch L0) 9 (Ae Try.prog 142 0) Sg (JP (a0,a1,a2,a3,a4,a5))=some (OW (a0,a1,a2,a3,a4,a5),N3 (a0,a1,a2,a3,a4,a5),Dg (a0,a1,a2,a3,a4,a5),JP (Dh (a0,a1,a2,a3,a4,a5))):=by kernel_rfl
theorem Afd (a0:List TGroup) (a1:List TWrite) (a2:Int) (a3:Int) (a4:TChange) (a5:List TRow) (hp:∀p∈Ft (a0,a1,a2,a3,a4,a5),p):∀p∈OW (a0,a1,a2,a3,a4,a5),p:=by
 have n0:=N0 hp
 have n1:((!!decide (a3 <a2))=true→(Bi a0 a1 a2 a3 a4 a5)=false→(0:Int)≤(AS a0 a1 a2 a3 a4 a5)∧(AS a0 a1 a2 a3 a4 a5) <(↑a5.length:Int)):=N0 (N1 hp)
 have n2:((!!decide (a3 <a2))=true→(Bi a0 a1 a2 a3 a4 a5)=false→(AS a0 a1 a2 a3 a4 a5).toNat <a5.length):=by intro h0 h1;have g:=n1 h0 h1;omega
 have n3:=N0 (N1 (N1 hp))
 have n4:=N0 (N1 (N1 (N1 hp)))
 have n5:=N0 (N1 (N1 (N1 (N1 hp))))
 have n6:((!!decide (a3 <a2))=true→(0:Int)≤(Aw a0 a1 a2 a3 a4 a5)∧(Aw a0 a1 a2 a3 a4 a5) <(↑(AA a0 a1 a2 a3 a4 a5).length:Int)):=N0 (N1 (N1 (N1 (N1 (N1 hp)))))
 have n7:((!!decide (a3 <a2))=true→(Aw a0 a1 a2 a3 a4 a5).toNat <(AA a0 a1 a2 a3 a4 a5).length):=by intro h0;have g:=n6 h0;omega
 have n8:=N0 (N1 (N1 (N1 (N1 (N1 (N1 hp))))))
 have n10:=N0 (N1 (N1 (N1 (N1 (N1 (N1 (N1 hp)))))))
 exact(Aa n0 (Aa n1 (Aa n2 (Aa n3 (Aa n4 (Aa n5 (Aa n6 (Aa n7 (Aa n8 (Aa n7 (Aa n10 Ad)))))))))))
noncomputable def OX:=HG (As Cch L0) (Ae Try.prog 142 0) Sg Ajn K8 Ew Dh Dg Ft N3
theorem Ab2:∀s b ps outs,OX s=some (b,ps,outs)→Wf s ⟨ps,outs,none⟩∧Bt (As C0 L0) b s ps outs:=
 Bh (T:=JP) Bqc Ay (u:=9) (by kernel_rfl) (by decide) (fun⟨a0,a1,a2,a3,a4,a5⟩=>Afc a0 a1 a2 a3 a4 a5) (fun⟨a0,a1,a2,a3,a4,a5⟩=>Afd a0 a1 a2 a3 a4 a5) Y9 (fun _=>AK (n:=85) rfl) fun _ _=>rfl
noncomputable def Sf:=DI 0 OX L0
theorem Ab1:G9 Sf:=AV Ab2 Ay
def GU (a0:List TGroup) (a1:TChange):Bool:=No a0 a1 !=(0:Int)
def Rg (a0:List TGroup) (a1:TChange):Int:=bif(GU a0 a1) then No a0 a1 else(0:Int)
def Rh (a0:List TGroup) (a1:TChange):List TRow:=bif(GU a0 a1) then[] else(KD (a0,a1.5,(↑a1.5.length:Int),(0:Int),a1,[])).snd.snd.snd.snd.snd
def Rj (a0:List TGroup) (a1:TChange):A:=.tup [.dq 0,.v (.int .i64 (Rg a0 a1))]
def Ri (a0:List TGroup) (a1:TChange):Objs:=[(0,some (.deep 71 .row (Rh a0 a1)))]
def Auv (a0:List TGroup) (a1:TChange):List Prop:=[(Ar a1.5.length),((!(GU a0 a1))=true→AD Dh Dg Ft (Ew (a0,a1.5,(↑a1.5.length:Int),(0:Int),a1,[])) (a0,a1.5,(↑a1.5.length:Int),(0:Int),a1,[]))]
theorem Auu (a0:List TGroup) (a1:TChange):Ff (As Cch Sf) 9 142 [.sl .group a0,Af .change a1] 0 []=some (1,Rj a0 a1,1,Ri a0 a1,[(Ar a1.5.length),((!(GU a0 a1))=true→Ae Try.prog (142:FuncId) (0:Nat)=Ae Try.prog (142:FuncId) (0:Nat)),((!(GU a0 a1))=true→AD Dh Dg Ft (Ew (a0,a1.5,(↑a1.5.length:Int),(0:Int),a1,[])) (a0,a1.5,(↑a1.5.length:Int),(0:Int),a1,[]))]):=by kernel_rfl
theorem A06 (a0:List TGroup) (a1:TChange) (hp:∀p∈Auv a0 a1,p):CallOk Try.prog 142 [.sl .group a0,Af .change a1] 0 [] 1 (Rj a0 a1) 1 (Ri a0 a1):=by
 have n0:=N0 hp
 have n1:((!(GU a0 a1))=true→Ae Try.prog (142:FuncId) (0:Nat)=Ae Try.prog (142:FuncId) (0:Nat)):=by intros;rfl
 have n2:=N0 (N1 hp)
 exact Az (An Bqc Ab1) (Auu a0 a1) (Aa n0 (Aa n1 (Aa n2 Ad)))
def V9 (a0:List TGroup) (a1:TChange):A:=Bvo a0 a1
def V8 (a0:List TGroup) (a1:TChange):Objs:=Bvn a0 a1
def UR (_a0:List TGroup) (a1:TChange):List Prop:=[Ar a1.writes.length]
theorem Bcc {l:List TGroup} (i:Nat) {c:TChange} (o:List TRow) (ho:o.length≤9) (hp:AR l=0) (hw:TD l (wN c.writes i)=true):AA l c.writes (c.writes.length:Int) (i:Int) c o=IH l o (wN c.writes i).key:=by
 have e:=Bs3 hp hw
 unfold AA Bi AS
 rw[Bdi (by omega),tlb,Int.toNat_natCast,Bh0]
 unfold IH
 rw[←e]
 rfl
theorem Bro {l:List TGroup} {c:TChange} (i:Nat) (o:List TRow) (ho:o.length≤8) (hp:AR l=0) (hh:Di c=true) (hw:TD l (wN c.writes i)=true):ID l c.writes (c.writes.length:Int) (i:Int) c o=L8 l c o (wN c.writes i):=by
 have:=(Axg l o (wN c.writes i).key).2
 unfold ID Aw
 rw[Bcc i o (by omega) hp hw,Bdi (by omega),Int.toNat_natCast]
 have e:=(Bw3 hp hh hw).2
 unfold L8 A14
 rw[←e]
 rfl
theorem Sh {l:List TGroup} {c:TChange} (h:No l c=0):
  AD Dh Dg Ft (Ew (l,c.writes,(c.writes.length:Int),0,c,[])) (l,c.writes,(c.writes.length:Int),0,c,[])∧KD (l,c.writes,(c.writes.length:Int),0,c,[])=(l,c.writes,(c.writes.length:Int),(c.writes.length:Int),c,Sc l c c.writes.length):=by
 have h8:=Bv2 h
 obtain⟨h1,k,hk,hx,_,hst,_⟩:=IW (fun i=>(l,c.writes,(c.writes.length:Int),(i:Int),c,Sc l c i):Nat→By) c.writes.length (fun _=>false) Dh Dg Ft (Ew (l,c.writes,(c.writes.length:Int),0,c,[])) (l,c.writes,(c.writes.length:Int),0,c,[]) rfl (by show c.writes.length≤((c.writes.length:Int) - 0).toNat;omega)
  (fun i _ _=>by
   show(!!decide ((i:Int) <(c.writes.length:Int)))=_
   rw[nn,M9,Bool.not_false,Bool.and_true])
  (fun i hi _=>by
   obtain⟨hp,hh,hw,_,_,hl,_⟩:=Ra h hi
   show(l,c.writes,(c.writes.length:Int),IntKind.i64.wrap ((i:Int)+1),c,ID l c.writes (c.writes.length:Int) (i:Int) c (Sc l c i))=(l,c.writes,(c.writes.length:Int),((i+1:Nat):Int),c,Sc l c (i+1))
   rw[Fd (by omega),Bro i _ (by omega) hp hh hw]
   rfl)
  (fun i hi _=>by
   have hin:(!!decide ((i:Int) <(c.writes.length:Int)))=true→i <c.writes.length:=fun h=>by rw[nn] at h;have:=of_decide_eq_true h;omega
   have hop:i <c.writes.length→_:=fun hi=>Bcc i (Sc l c i) (by have:=(Ra h hi).2.2.2.2.2.1;omega) (Ra h hi).1 (Ra h hi).2.2.1
   have key:i <c.writes.length→_:=fun hi=>Axg l (Sc l c i) (wN c.writes i).key
   have hk0:i <c.writes.length→(Aw l c.writes (c.writes.length:Int) (i:Int) c (Sc l c i))=(((IH l (Sc l c i) (wN c.writes i).key).length - 1:Nat):Int):=fun hi=>by
    have:=key hi
    have:=(Ra h hi).2.2.2.2.2.1
    unfold Aw
    rw[hop hi,i64_in (by omega)]
    omega
   have hcl:i <c.writes.length→(((IH l (Sc l c i) (wN c.writes i).key).getD ((IH l (Sc l c i) (wN c.writes i).key).length - 1) (Ac TC.row)).2.length=l.length):=fun hi=>(Ra h hi).2.2.2.2.2.2 _ (getD_in _ _ _ (by have:=key hi;omega))
   have hgr:i <c.writes.length→_:=fun hi=>OD (Ra h hi).2.2.1
   refine Aa (fun h=>⟨by show(0:Int)≤(i:Int);omega,by have:=hin h;show(i:Int) <(c.writes.length:Int);omega⟩) (Aa (fun h1 h2=>?_) (Aa (fun h1 _=>?_) (Aa (fun h1 _=>?_) (Aa (fun h1=>?_) (Aa (fun h1=>?_) (Aa (fun h1=>?_) (Aa (fun h1=>?_) Ad)))))))
   ·have h3:(((Sc l c i).length:Int)==(0:Int))=false:=h2
    rw[Bh0] at h3
    have h4:(Sc l c i).length≠0:=by simpa using h3
    have:=(Ra h (hin h1)).2.2.2.2.2.1
    show(0:Int)≤IntKind.i64.wrap (((Sc l c i).length:Int) - 1)∧IntKind.i64.wrap (((Sc l c i).length:Int) - 1) <((Sc l c i).length:Int)
    rw[i64_in (by omega)]
    omega
   ·have:=(Ra h (hin h1)).2.2.2.2.1
    show Ag l.length
    unfold Ag;omega
   ·have:=(Ra h (hin h1)).2.2.2.2.2.1
    show Ag ((Sc l c i).length+1)
    unfold Ag;omega
   ·obtain⟨_,_,g0,g1,_⟩:=hgr (hin h1)
    show(0:Int)≤(c.writes.getD ((i:Int)).toNat (Ac TC.write)).group∧(c.writes.getD ((i:Int)).toNat (Ac TC.write)).group <(l.length:Int)
    rw[Int.toNat_natCast]
    exact⟨g0,g1⟩
   ·have:=key (hin h1)
    show(0:Int)≤Aw l c.writes (c.writes.length:Int) (i:Int) c (Sc l c i)∧Aw l c.writes (c.writes.length:Int) (i:Int) c (Sc l c i) <((AA l c.writes (c.writes.length:Int) (i:Int) c (Sc l c i)).length:Int)
    rw[hk0 (hin h1),hop (hin h1)]
    omega
   ·have:=key (hin h1)
    obtain⟨_,_,g0,g1,_⟩:=hgr (hin h1)
    show(Aw l c.writes (c.writes.length:Int) (i:Int) c (Sc l c i)).toNat <(AA l c.writes (c.writes.length:Int) (i:Int) c (Sc l c i)).length∧(0:Int)≤(c.writes.getD ((i:Int)).toNat (Ac TC.write)).group∧(c.writes.getD ((i:Int)).toNat (Ac TC.write)).group <(((AA l c.writes (c.writes.length:Int) (i:Int) c (Sc l c i)).getD (Aw l c.writes (c.writes.length:Int) (i:Int) c (Sc l c i)).toNat (Ac TC.row)).2.length:Int)
    rw[hk0 (hin h1),hop (hin h1),Int.toNat_natCast,Int.toNat_natCast,hcl (hin h1)]
    exact⟨by omega,g0,g1⟩
   ·obtain⟨_,_,g0,g1,_⟩:=hgr (hin h1)
    show(c.writes.getD ((i:Int)).toNat (Ac TC.write)).group.toNat <((AA l c.writes (c.writes.length:Int) (i:Int) c (Sc l c i)).getD (Aw l c.writes (c.writes.length:Int) (i:Int) c (Sc l c i)).toNat (Ac TC.row)).2.length
    rw[hk0 (hin h1),hop (hin h1),Int.toNat_natCast,Int.toNat_natCast,hcl (hin h1)]
    have g2:(c.writes.getD i (Ac TC.write)).group <(l.length:Int):=g1
    have g3:0≤(c.writes.getD i (Ac TC.write)).group:=g0
    omega)
 have hkn:k=c.writes.length:=by
  rcases Nat.lt_or_ge k c.writes.length with h|h
  ·exact absurd (hst h) (by decide)
  ·omega
 subst hkn
 exact⟨h1,hx⟩
theorem Aut (a0:List TGroup) (a1:TChange) (hp:∀p∈UR a0 a1,p):CallOk Try.prog 142 [.sl .group a0,Af .change a1] 0 [] 1 (V9 a0 a1) 1 (V8 a0 a1):=by
 have hb:Ar a1.writes.length:=hp _ (List.mem_cons_self ..)
 have h:=A06 a0 a1 (Aa hb (Aa (fun h=>(Sh (show No a0 a1=0 by
  have h':(!(No a0 a1 !=0))=true:=h
  simpa using h')).1) Ad))
 have e:Rg a0 a1=No a0 a1∧Rh a0 a1=MJ a0 a1:=by
  unfold Rg Rh GU MJ
  cases hc:No a0 a1 !=0 with
  |true=>
   have:(No a0 a1==0)=false:=by simpa using hc
   rw[this]
   exact⟨rfl,rfl⟩
  |false=>
   have h0:No a0 a1=0:=by simpa using hc
   have:(No a0 a1==0)=true:=by simpa using h0
   have q:KD (a0,a1.5,(a1.5.length:Int),0,a1,[])=(a0,a1.writes,(a1.writes.length:Int),(a1.writes.length:Int),a1,Sc a0 a1 a1.writes.length):=(Sh h0).2
   rw[this,q,cond_false]
   exact⟨h0.symm,rfl⟩
 unfold Rj Ri at h
 rw[e.1,e.2] at h
 exact h
def ZF:List A→Nat→Objs→Option A3:=Bg [.l .group,.t .change] 1 V9 V8 UR
theorem Aqv:Fi Try.prog 142 ZF:=Aq (ks:=[.l .group,.t .change]) Aut
end Go.Proofs.Yteebobbhhgmeiaa
namespace Go.Proofs.Yteebobbhhgmeiaa
open Go.RowKit
def Jh (cs:List TChange) (i:Nat):TChange:=cs.getD i (Ac TC.change)
def stE (l:List TGroup) (cs:List TChange):Int:=bif AR l !=0 then AR l else bif J9 cs.length (fun i=>No l (Jh cs i)==0) then 0 else 120
def stN (l:List TGroup) (cs:List TChange):Nat→List TRow
 |0=>[]
 |i+1=>mrg ((stN l cs i).length+(nb (MJ l (Jh cs i))).length) (stN l cs i) (nb (MJ l (Jh cs i)))
def stR (l:List TGroup) (cs:List TChange):List TRow:=bif stE l cs==0 then stN l cs cs.length else[]
theorem Ak6 (l:List TGroup) (c:TChange):Stt l (nb (MJ l c)):=B09 (Ae9 l c).1 (Ae9 l c).2
theorem A9x (l:List TGroup) (cs:List TChange):∀i,Stt l (stN l cs i)
 |0=>Att l
 |i+1=>(A9x l cs i).mrg _ (Ak6 l _)
theorem Ats (l:List TGroup) (cs:List TChange):Stt l (stR l cs):=by
 unfold stR
 cases stE l cs==0 with
 |true=>exact A9x l cs _
 |false=>exact Att l
theorem A6k (l:List TGroup) (c:TChange):(MJ l c).length≤8:=by
 unfold MJ
 cases h:No l c==0 with
 |false=>exact Nat.zero_le _
 |true=>
  have h0:No l c=0:=by simpa using h
  obtain⟨_,_,hn,_⟩:=Ang.1 h0
  unfold Ahl at hn
  rw[Bool.and_eq_true,decide_eq_true_eq,decide_eq_true_eq] at hn
  exact Nat.le_trans (A6j l c _) hn.2
theorem Bh8 (rows:List TRow):(nb rows).length≤rows.length:=List.length_filter_le _ _
theorem A9w (l:List TGroup) (cs:List TChange):∀i,(stN l cs i).length≤8*i
 |0=>Nat.le_refl _
 |i+1=>by
  have h1:=A9w l cs i
  have h2:=YU ((stN l cs i).length+(nb (MJ l (Jh cs i))).length) (stN l cs i) (nb (MJ l (Jh cs i)))
  have h3:=Bh8 (MJ l (Jh cs i))
  have h4:=A6k l (Jh cs i)
  show(mrg _ _ _).length≤_
  omega
theorem Bm9 (l:List TGroup) (cs:List TChange):∀i,i≤cs.length→stN l cs i=stF ((cs.take i).map (MJ l))
 |0,_=>rfl
 | i+1,h=>by
  rw[Yx cs (Ac TC.change) i (by omega),List.map_append]
  have e:stF (((cs.take i).map (MJ l))++[cs.getD i (Ac TC.change)].map (MJ l))=mrg ((stF ((cs.take i).map (MJ l))).length+(nb (MJ l (Jh cs i))).length) (stF ((cs.take i).map (MJ l))) (nb (MJ l (Jh cs i))):=by
   unfold stF
   rw[List.foldl_append]
   rfl
  rw[e,←Bm9 l cs i (by omega)]
  rfl
theorem Bf8 {l:List TGroup} {cs:List TChange}:stE l cs=0↔AR l=0∧∀c∈cs,No l c=0:=by
 unfold stE
 cases h:AR l !=0 with
 |true=>
  rw[cond_true]
  have h':AR l≠0:=by simpa using h
  exact⟨fun e=>absurd e h',fun e=>absurd e.1 h'⟩
 | false=>
  rw[cond_false]
  have h':AR l=0:=by simpa using h
  cases ha:J9 cs.length (fun i=>No l (Jh cs i)==0) with
  |true=>
   refine⟨fun _=>⟨h',fun c hc=>?_⟩,fun _=>rfl⟩
   obtain⟨i,hi,rfl⟩:=List.mem_iff_getElem.1 hc
   have h2:=Hm.1 ha i hi
   have h3:No l (Jh cs i)=0:=by simpa using h2
   have h4:Jh cs i=cs[i]:=by unfold Jh;rw[List.getD_eq_getElem?_getD,List.getElem?_eq_getElem hi];rfl
   rw[←h4]
   exact h3
  | false=>
   refine⟨fun e=>(by cases e),fun e=>?_⟩
   have:J9 cs.length (fun i=>No l (Jh cs i)==0)=true:=Hm.2 fun i hi=>by
    have h2:No l (Jh cs i)=0:=e.2 _ (getD_in cs (Ac TC.change) i hi)
    rw[h2]
    rfl
   rw[ha] at this
   cases this
def mgE (l:List TGroup) (a b:List TRow):Int:=bif Gk l a !=0 then Gk l a else Gk l b
def mgR (l:List TGroup) (a b:List TRow):List TRow:=bif mgE l a b==0 then mrg (a.length+b.length) a b else[]
theorem Aj6 {l:List TGroup} {a:List TRow} (h:Gk l a=0):AR l=0∧Stt l a:=⟨(Ati.1 h).1,(Bnb (Ati.1 h).1).1 h⟩
theorem B2u {l:List TGroup} {a b:List TRow}:mgE l a b=0↔Gk l a=0∧Gk l b=0:=by
 unfold mgE
 cases h:Gk l a !=0 with
 |true=>
  rw[cond_true]
  have h':Gk l a≠0:=by simpa using h
  exact⟨fun e=>absurd e h',fun e=>absurd e.1 h'⟩
 |false=>
  rw[cond_false]
  have h':Gk l a=0:=by simpa using h
  exact⟨fun e=>⟨h',e⟩,fun e=>e.2⟩
end Go.Proofs.Yteebobbhhgmeiaa
namespace Go.Proofs.Yteebobbhhgmeiaa
open Go.RowKit
noncomputable def Byq:=A4 142 ZF Cmg
theorem Bqx:Dd Try.prog Byq:=Am Aqv Bz7
noncomputable def At0:=A4 84 Ue Byq
theorem Aew:Dd Try.prog At0:=Am W7 Bqx
abbrev BA:Type:=(List TRow)×Int×Int×(List TRow)
def JX (x:BA):St:=⟨55,6,[(11,.sq 5),(35,.sl .row x.1),(36,.v (.int .i64 x.2.1)),(37,.v (.int .i64 x.2.2.1))],[(5,some (.arr 71 2 (.ty .row x.2.2.2)))]⟩
def LD:St→Option BA
 |⟨55,6,[(11,.sq 5),(35,.sl .row z0),(36,.v (.int .i64 z1)),(37,.v (.int .i64 z2))],[(5,some (.arr 71 2 (.ty .row z3)))]⟩=>some (z0,z1,z2,z3)
 |_=>none
theorem Zi:∀s x,LD s=some x→s=JX x:=fun s x h=>by
 unfold LD at h
 split at h
 ·cases h;rfl
 ·cases h
def S4:De:=⟨5,6,[11,35,36,37],[],[(9,5)],[9],[11],[5]⟩
def Ak2:Dy:=⟨[.frz 3,.nil 11 71 .row],[(4,5)],[11,35,36,37],[4]⟩
def KI (a0:List TRow) (_a1:Int) (a2:Int) (a3:List TRow):List TRow:=bif !Hn (a0.getD a2.toNat (Ac TC.row)) then a3++[a0.getD a2.toNat (Ac TC.row)] else a3
def CI (x:BA):BA:=(x.1,x.2.1,IntKind.i64.wrap (x.2.2.1+(1:Int)),KI x.1 x.2.1 x.2.2.1 x.2.2.2)
def CH (x:BA):Cnd:=some (!!decide (x.2.2.1 <x.2.1))
def KJ (x:BA):List Prop:=[((!!decide (x.2.2.1 <x.2.1))=true→(0:Int)≤x.2.2.1∧x.2.2.1 <(↑x.1.length:Int)),((!!decide (x.2.2.1 <x.2.1))=true→Ag (x.1.getD x.2.2.1.toNat (Ac TC.row)).2.length),((!!decide (x.2.2.1 <x.2.1))=true→(!Hn (x.1.getD x.2.2.1.toNat (Ac TC.row)))=true→Ag (x.2.2.2.length+(1:Nat)))]
abbrev El:BA→List Prop:=KJ
def Oa (x:BA):Bj:=[(some 2,some (!decide (x.2.2.1 <x.2.1)),⟨55,6,[(11,.sq 5)],[(5,some (.arr 71 2 (.ty .row x.2.2.2)))]⟩)]
def Dl (x:BA):Nat:=(x.2.1 - x.2.2.1).toNat
def IF (x:BA):BA:=A9 CI CH (Dl x) x
theorem Ag8 (a0:List TRow) (a1:Int) (a2:Int) (a3:List TRow):Bw (As At0 L0) 9 (Ae Try.prog 82 2) S4 (JX (a0,a1,a2,a3))=some (KJ (a0,a1,a2,a3),Oa (a0,a1,a2,a3),CH (a0,a1,a2,a3),JX (CI (a0,a1,a2,a3))):=by kernel_rfl
theorem Ag9 (a0:List TRow) (a1:Int) (a2:Int) (a3:List TRow) (hp:∀p∈El (a0,a1,a2,a3),p):∀p∈KJ (a0,a1,a2,a3),p:=hp
noncomputable def Pi:=HG (As At0 L0) (Ae Try.prog 82 2) S4 Ak2 LD Dl CI CH El Oa
theorem Acr:∀s b ps outs,Pi s=some (b,ps,outs)→Wf s ⟨ps,outs,none⟩∧Bt (As C0 L0) b s ps outs:=
 Bh (T:=JX) Aew Ay (u:=9) (by kernel_rfl) (by decide) (fun⟨a0,a1,a2,a3⟩=>Ag8 a0 a1 a2 a3) (fun⟨a0,a1,a2,a3⟩=>Ag9 a0 a1 a2 a3) Zi (fun _=>AK (n:=55) rfl) fun _ _=>rfl
noncomputable def JW:=DI 2 Pi L0
theorem Ph:G9 JW:=AV Acr Ay
abbrev Bz:Type:=(List TGroup)×(List TChange)×Int×Int×(List TRow)
def JV (x:Bz):St:=⟨55,2,[(0,.sl .group x.1),(4,.dq 1),(19,.sl .change x.2.1),(20,.v (.int .i64 x.2.2.1)),(21,.v (.int .i64 x.2.2.2.1))],[(1,some (.deep 71 .row x.2.2.2.2))]⟩
def LC:St→Option Bz
 |⟨55,2,[(0,.sl .group z0),(4,.dq 1),(19,.sl .change z1),(20,.v (.int .i64 z2)),(21,.v (.int .i64 z3))],[(1,some (.deep 71 .row z4))]⟩=>some (z0,z1,z2,z3,z4)
 |_=>none
theorem Zh:∀s x,LC s=some x→s=JV x:=fun s x h=>by
 unfold LC at h
 split at h
 ·cases h;rfl
 ·cases h
def S3:De:=⟨1,2,[0,4,19,20,21],[],[(6,1)],[6],[4,5],[1]⟩
def Ak1:Dy:=⟨[.nilD 4 71 .row],[(0,1)],[0,4,19,20,21],[0]⟩
def CG (a0:List TGroup) (a1:List TChange) (a2:Int) (a3:Int) (_a4:List TRow):Bool:=!!decide (a3 <a2)&&No a0 (a1.getD a3.toNat (Ac TC.change)) !=(0:Int)
def Bu (a0:List TGroup) (a1:List TChange) (_a2:Int) (a3:Int) (_a4:List TRow):List TRow:=(IF (MJ a0 (a1.getD a3.toNat (Ac TC.change)),(↑(MJ a0 (a1.getD a3.toNat (Ac TC.change))).length:Int),(0:Int),[])).snd.snd.snd
def KH (a0:List TGroup) (a1:List TChange) (a2:Int) (a3:Int) (a4:List TRow):List TRow:=mrg (a4.length+(Bu a0 a1 a2 a3 a4).length) a4 (Bu a0 a1 a2 a3 a4)
def Acp (a0:List TGroup) (a1:List TChange) (a2:Int) (a3:Int) (a4:List TRow):Bool:=!!decide (a3 <a2)&&!(CG a0 a1 a2 a3 a4)
def Dk (x:Bz):Bz:=(x.1,x.2.1,x.2.2.1,IntKind.i64.wrap (x.2.2.2.1+(1:Int)),KH x.1 x.2.1 x.2.2.1 x.2.2.2.1 x.2.2.2.2)
def Dj (x:Bz):Cnd:=some (Acp x.1 x.2.1 x.2.2.1 x.2.2.2.1 x.2.2.2.2)
def Pf (x:Bz):List Prop:=[((!!decide (x.2.2.2.1 <x.2.2.1))=true→(0:Int)≤x.2.2.2.1∧x.2.2.2.1 <(↑x.2.1.length:Int)),((!!decide (x.2.2.2.1 <x.2.2.1))=true→Ar (x.2.1.getD x.2.2.2.1.toNat (Ac TC.change)).5.length),((!!decide (x.2.2.2.1 <x.2.2.1))=true→(!No x.1 (x.2.1.getD x.2.2.2.1.toNat (Ac TC.change)) !=(0:Int))=true→Ae Try.prog (82:FuncId) (2:Nat)=Ae Try.prog (82:FuncId) (2:Nat)),((!!decide (x.2.2.2.1 <x.2.2.1))=true→(!No x.1 (x.2.1.getD x.2.2.2.1.toNat (Ac TC.change)) !=(0:Int))=true→AD CI CH El (Dl (MJ x.1 (x.2.1.getD x.2.2.2.1.toNat (Ac TC.change)),(↑(MJ x.1 (x.2.1.getD x.2.2.2.1.toNat (Ac TC.change))).length:Int),(0:Int),[])) (MJ x.1 (x.2.1.getD x.2.2.2.1.toNat (Ac TC.change)),(↑(MJ x.1 (x.2.1.getD x.2.2.2.1.toNat (Ac TC.change))).length:Int),(0:Int),[])),((!!decide (x.2.2.2.1 <x.2.2.1))=true→(!No x.1 (x.2.1.getD x.2.2.2.1.toNat (Ac TC.change)) !=(0:Int))=true→Stt x.1 x.2.2.2.2∧Stt x.1 (Bu x.1 x.2.1 x.2.2.1 x.2.2.2.1 x.2.2.2.2)∧x.2.2.2.2.length+(Bu x.1 x.2.1 x.2.2.1 x.2.2.2.1 x.2.2.2.2).length≤(400000:Nat))]
def FC (x:Bz):List Prop:=[((!!decide (x.2.2.2.1 <x.2.2.1))=true→(0:Int)≤x.2.2.2.1∧x.2.2.2.1 <(↑x.2.1.length:Int)),((!!decide (x.2.2.2.1 <x.2.2.1))=true→Ar (x.2.1.getD x.2.2.2.1.toNat (Ac TC.change)).5.length),((!!decide (x.2.2.2.1 <x.2.2.1))=true→(!No x.1 (x.2.1.getD x.2.2.2.1.toNat (Ac TC.change)) !=(0:Int))=true→AD CI CH El (Dl (MJ x.1 (x.2.1.getD x.2.2.2.1.toNat (Ac TC.change)),(↑(MJ x.1 (x.2.1.getD x.2.2.2.1.toNat (Ac TC.change))).length:Int),(0:Int),[])) (MJ x.1 (x.2.1.getD x.2.2.2.1.toNat (Ac TC.change)),(↑(MJ x.1 (x.2.1.getD x.2.2.2.1.toNat (Ac TC.change))).length:Int),(0:Int),[])),((!!decide (x.2.2.2.1 <x.2.2.1))=true→(!No x.1 (x.2.1.getD x.2.2.2.1.toNat (Ac TC.change)) !=(0:Int))=true→Stt x.1 x.2.2.2.2∧Stt x.1 (Bu x.1 x.2.1 x.2.2.1 x.2.2.2.1 x.2.2.2.2)∧x.2.2.2.2.length+(Bu x.1 x.2.1 x.2.2.1 x.2.2.2.1 x.2.2.2.2).length≤(400000:Nat))]
def N9 (x:Bz):Bj:=[(some 0,some (!decide (x.2.2.2.1 <x.2.2.1)),⟨55,2,[(4,.dq 1),(5,.dead)],[(1,some (.deep 71 .row x.2.2.2.2))]⟩),(none,some ((CG x.1 x.2.1 x.2.2.1 x.2.2.2.1 x.2.2.2.2)),⟨55,4,[(4,.v (.slice none 0 0)),(5,.v (.int .i64 ((120:Int))))],[(1,some (.deep 71 .row x.2.2.2.2))]⟩)]
def Ex (x:Bz):Nat:=(x.2.2.1 - x.2.2.2.1).toNat
def A6 (x:Bz):Bz:=A9 Dk Dj (Ex x) x
theorem Ag6 (a0:List TGroup) (a1:List TChange) (a2:Int) (a3:Int) (a4:List TRow):Bw (As At0 JW) 9 (Ae Try.prog 82 0) S3 (JV (a0,a1,a2,a3,a4))=some (Pf (a0,a1,a2,a3,a4),N9 (a0,a1,a2,a3,a4),Dj (a0,a1,a2,a3,a4),JV (Dk (a0,a1,a2,a3,a4))):=by kernel_rfl
theorem Ag7 (a0:List TGroup) (a1:List TChange) (a2:Int) (a3:Int) (a4:List TRow) (hp:∀p∈FC (a0,a1,a2,a3,a4),p):∀p∈Pf (a0,a1,a2,a3,a4),p:=by
 have n0:=N0 hp
 have n1:=N0 (N1 hp)
 have n2:((!!decide (a3 <a2))=true→(!No a0 (a1.getD a3.toNat (Ac TC.change)) !=(0:Int))=true→Ae Try.prog (82:FuncId) (2:Nat)=Ae Try.prog (82:FuncId) (2:Nat)):=by intros;rfl
 have n3:=N0 (N1 (N1 hp))
 have n4:=N0 (N1 (N1 (N1 hp)))
 exact(Aa n0 (Aa n1 (Aa n2 (Aa n3 (Aa n4 Ad)))))
noncomputable def Pg:=HG (As At0 JW) (Ae Try.prog 82 0) S3 Ak1 LC Ex Dk Dj FC N9
theorem Acq:∀s b ps outs,Pg s=some (b,ps,outs)→Wf s ⟨ps,outs,none⟩∧Bt (As C0 L0) b s ps outs:=
 Bh (T:=JV) Aew Ph (u:=9) (by kernel_rfl) (by decide) (fun⟨a0,a1,a2,a3,a4⟩=>Ag6 a0 a1 a2 a3 a4) (fun⟨a0,a1,a2,a3,a4⟩=>Ag7 a0 a1 a2 a3 a4) Zh (fun _=>AK (n:=55) rfl) fun _ _=>rfl
noncomputable def S2:=DI 0 Pg JW
theorem Aco:G9 S2:=AV Acq Ph
def GZ (a0:List TGroup) (_a1:List TChange):Bool:=AR a0 !=(0:Int)
def Pe (a0:List TGroup) (a1:List TChange):Bool:=CG (A6 (a0,a1,(↑a1.length:Int),(0:Int),[])).fst (A6 (a0,a1,(↑a1.length:Int),(0:Int),[])).snd.fst (A6 (a0,a1,(↑a1.length:Int),(0:Int),[])).snd.snd.fst (A6 (a0,a1,(↑a1.length:Int),(0:Int),[])).snd.snd.snd.fst (A6 (a0,a1,(↑a1.length:Int),(0:Int),[])).snd.snd.snd.snd
def RB (a0:List TGroup) (a1:List TChange):Int:=bif(GZ a0 a1) then AR a0 else bif(Pe a0 a1) then(120:Int) else(0:Int)
def RC (a0:List TGroup) (a1:List TChange):List TRow:=bif(GZ a0 a1) then[] else bif(Pe a0 a1) then[] else(A6 (a0,a1,(↑a1.length:Int),(0:Int),[])).snd.snd.snd.snd
def RE (a0:List TGroup) (a1:List TChange):A:=.tup [.dq 0,.v (.int .i64 (RB a0 a1))]
def RD (a0:List TGroup) (a1:List TChange):Objs:=[(0,some (.deep 71 .row (RC a0 a1)))]
def Awk (a0:List TGroup) (a1:List TChange):List Prop:=[((!(GZ a0 a1))=true→AD Dk Dj FC (Ex (a0,a1,(↑a1.length:Int),(0:Int),[])) (a0,a1,(↑a1.length:Int),(0:Int),[]))]
theorem Awj (a0:List TGroup) (a1:List TChange):Ff (As At0 S2) 9 82 [.sl .group a0,.sl .change a1] 0 []=some (1,RE a0 a1,1,RD a0 a1,[((!(GZ a0 a1))=true→Ae Try.prog (82:FuncId) (0:Nat)=Ae Try.prog (82:FuncId) (0:Nat)),((!(GZ a0 a1))=true→AD Dk Dj FC (Ex (a0,a1,(↑a1.length:Int),(0:Int),[])) (a0,a1,(↑a1.length:Int),(0:Int),[]))]):=by kernel_rfl
theorem A1q (a0:List TGroup) (a1:List TChange) (hp:∀p∈Awk a0 a1,p):CallOk Try.prog 82 [.sl .group a0,.sl .change a1] 0 [] 1 (RE a0 a1) 1 (RD a0 a1):=by
 have n0:((!(GZ a0 a1))=true→Ae Try.prog (82:FuncId) (0:Nat)=Ae Try.prog (82:FuncId) (0:Nat)):=by intros;rfl
 have n1:=N0 hp
 exact Az (An Aew Aco) (Awj a0 a1) (Aa n0 (Aa n1 Ad))
def Xc (a0:List TGroup) (a1:List TChange):A:=.tup [.dq 0,.v (.int .i64 (stE a0 a1))]
def Xb (a0:List TGroup) (a1:List TChange):Objs:=[(0,some (.deep 71 .row (stR a0 a1)))]
def U3 (_a0:List TGroup) (a1:List TChange):List Prop:=[a1.length≤7000∧∀c∈a1,Ar c.writes.length]
theorem Bww (rows:List TRow) (i:Nat) (h:i <rows.length):nb (rows.take (i+1))=bif !Hn (C7 rows i) then nb (rows.take i)++[C7 rows i] else nb (rows.take i):=by
 unfold nb
 rw[Yx rows (Ac TC.row) i h,List.filter_append]
 show _++List.filter _ [C7 rows i]=_
 rw[List.filter_cons]
 cases Hn (C7 rows i) with
 |true=>exact List.append_nil _
 |false=>rfl
theorem Bdy (rows:List TRow) (hb:rows.length≤100) (hc:∀r∈rows,r.cells.length≤4):
  AD CI CH El (Dl (rows,(rows.length:Int),0,[])) (rows,(rows.length:Int),0,[])∧IF (rows,(rows.length:Int),0,[])=(rows,(rows.length:Int),(rows.length:Int),nb rows):=by
 obtain⟨h1,hx⟩:=A9s (fun i=>((rows,(rows.length:Int),(i:Int),nb (rows.take i)):BA)) rows.length CI CH El (Dl (rows,(rows.length:Int),0,[])) (rows,(rows.length:Int),0,[]) rfl (by show rows.length≤((rows.length:Int) - 0).toNat;omega)
  (fun i _=>by
   show(!!decide ((i:Int) <(rows.length:Int)))=_
   rw[nn,M9])
  (fun i hi=>by
   show(rows,(rows.length:Int),IntKind.i64.wrap ((i:Int)+1),KI rows (rows.length:Int) (i:Int) (nb (rows.take i)))=(rows,(rows.length:Int),((i+1:Nat):Int),nb (rows.take (i+1)))
   rw[Fd (by omega),Bww rows i hi]
   unfold KI
   rw[Int.toNat_natCast]
   rfl)
  (fun i hi=>by
   have hin:(!!decide ((i:Int) <(rows.length:Int)))=true→(i:Int) <(rows.length:Int):=fun h=>by rw[nn] at h;exact of_decide_eq_true h
   have hl:=Bh8 (rows.take i)
   rw[List.length_take] at hl
   refine Aa (fun h=>⟨by show(0:Int)≤(i:Int);omega,hin h⟩) (Aa (fun h=>?_) (Aa (fun _ _=>?_) Ad))
   ·have h2:=hin h
    have h3:(rows.getD ((i:Int)).toNat (Ac TC.row)).2.length≤4:=hc _ (getD_in rows (Ac TC.row) _ (by omega))
    show Ag (rows.getD ((i:Int)).toNat (Ac TC.row)).2.length
    unfold Ag
    omega
   ·show Ag ((nb (rows.take i)).length+1)
    unfold Ag
    omega)
 refine⟨h1,?_⟩
 have hx':IF (rows,(rows.length:Int),0,[])=(rows,(rows.length:Int),(rows.length:Int),nb (rows.take rows.length)):=hx
 rw[hx',List.take_length]
theorem YF (l:List TGroup) (c:TChange):(MJ l c).length≤100∧∀r∈MJ l c,r.cells.length≤4:=by
 refine⟨Nat.le_trans (A6k l c) (by omega),fun r hr=>?_⟩
 have g:=(Ae9 l c).2 r hr
 rw[(AJ g).2.1]
 exact(G7 (AJ g).1).2
theorem Bs1 (l:List TGroup) (cs:List TChange) (hb:cs.length≤7000) (hw:∀c∈cs,Ar c.writes.length):
  AD Dk Dj FC (Ex (l,cs,(cs.length:Int),0,[])) (l,cs,(cs.length:Int),0,[])∧
  CG (A6 (l,cs,(cs.length:Int),0,[])).fst (A6 (l,cs,(cs.length:Int),0,[])).snd.fst (A6 (l,cs,(cs.length:Int),0,[])).snd.snd.fst (A6 (l,cs,(cs.length:Int),0,[])).snd.snd.snd.fst (A6 (l,cs,(cs.length:Int),0,[])).snd.snd.snd.snd=!J9 cs.length (fun i=>No l (Jh cs i)==0)∧
  (J9 cs.length (fun i=>No l (Jh cs i)==0)=true→(A6 (l,cs,(cs.length:Int),0,[])).snd.snd.snd.snd=stN l cs cs.length):=by
 have hk1:∀(i:Nat) (o:List TRow),CG l cs (cs.length:Int) (i:Int) o=(decide (i <cs.length)&&!(No l (Jh cs i)==0)):=fun i o=>by
  unfold CG
  rw[nn,M9,Int.toNat_natCast]
  rfl
 have hk0:∀(i:Nat) (o:List TRow),Bu l cs (cs.length:Int) (i:Int) o=nb (MJ l (Jh cs i)):=fun i o=>by
  unfold Bu
  rw[Int.toNat_natCast]
  show(IF (MJ l (Jh cs i),((MJ l (Jh cs i)).length:Int),(0:Int),[])).snd.snd.snd=_
  rw[(Bdy _ (YF l (Jh cs i)).1 (YF l (Jh cs i)).2).2]
 obtain⟨h1,k,hk,hx,_,hst,hb'⟩:=IW (fun i=>(l,cs,(cs.length:Int),(i:Int),stN l cs i):Nat→Bz) cs.length (fun i=>!(No l (Jh cs i)==0)) Dk Dj FC (Ex (l,cs,(cs.length:Int),0,[])) (l,cs,(cs.length:Int),0,[]) rfl (by show cs.length≤((cs.length:Int) - 0).toNat;omega)
  (fun i _ _=>by
   show(!!decide ((i:Int) <(cs.length:Int))&&!CG l cs (cs.length:Int) (i:Int) (stN l cs i))=_
   rw[hk1,nn,M9]
   cases decide (i <cs.length)<;>rfl)
  (fun i hi _=>by
   show(l,cs,(cs.length:Int),IntKind.i64.wrap ((i:Int)+1),KH l cs (cs.length:Int) (i:Int) (stN l cs i))=(l,cs,(cs.length:Int),((i+1:Nat):Int),stN l cs (i+1))
   unfold KH
   rw[Fd (by omega),hk0]
   rfl)
  (fun i hi _=>by
   have hin:(!!decide ((i:Int) <(cs.length:Int)))=true→i <cs.length:=fun h=>by rw[nn] at h;have:=of_decide_eq_true h;omega
   refine Aa (fun h=>⟨by show(0:Int)≤(i:Int);omega,by have:=hin h;show(i:Int) <(cs.length:Int);omega⟩) (Aa (fun h=>?_) (Aa (fun h _=>?_) (Aa (fun h _=>?_) Ad)))
   ·show Ar (cs.getD ((i:Int)).toNat (Ac TC.change)).5.length
    rw[Int.toNat_natCast]
    exact hw _ (getD_in cs (Ac TC.change) i (hin h))
   ·show AD CI CH El (Dl (MJ l (cs.getD ((i:Int)).toNat (Ac TC.change)),((MJ l (cs.getD ((i:Int)).toNat (Ac TC.change))).length:Int),(0:Int),[])) (MJ l (cs.getD ((i:Int)).toNat (Ac TC.change)),((MJ l (cs.getD ((i:Int)).toNat (Ac TC.change))).length:Int),(0:Int),[])
    exact(Bdy _ (YF l _).1 (YF l _).2).1
   ·have a1:=A9w l cs i
    have a2:=Bh8 (MJ l (Jh cs i))
    have a3:=A6k l (Jh cs i)
    show Stt l (stN l cs i)∧Stt l (Bu l cs (cs.length:Int) (i:Int) (stN l cs i))∧(stN l cs i).length+(Bu l cs (cs.length:Int) (i:Int) (stN l cs i)).length≤400000
    rw[hk0]
    exact⟨A9x l cs i,Ak6 l _,by omega⟩)
 have hr:A6 (l,cs,(cs.length:Int),0,[])=(l,cs,(cs.length:Int),(k:Int),stN l cs k):=hx
 have hb2:(decide (k <cs.length)&&!(No l (Jh cs k)==0))=!J9 cs.length (fun i=>No l (Jh cs i)==0):=by
  rw[hb']
  congr 1
  exact Ji fun i _=>Bool.not_not _
 rw[hr]
 refine⟨h1,?_,fun ha=>?_⟩
 ·show CG l cs (cs.length:Int) (k:Int) (stN l cs k)=_
  rw[hk1,hb2]
 ·show stN l cs k=_
  rw[ha] at hb2
  rcases Nat.lt_or_ge k cs.length with h|h
  ·have h2:=hst h
   rw[decide_eq_true h,h2] at hb2
   cases hb2
  ·rw[show k=cs.length by omega]
theorem Xa (a0:List TGroup) (a1:List TChange) (hp:∀p∈U3 a0 a1,p):CallOk Try.prog 82 [.sl .group a0,.sl .change a1] 0 [] 1 (Xc a0 a1) 1 (Xb a0 a1):=by
 obtain⟨hb,hw⟩:=hp _ (List.mem_cons_self ..)
 obtain⟨h1,h2,h3⟩:=Bs1 a0 a1 hb hw
 have h:=A1q a0 a1 (Aa (fun _=>h1) Ad)
 have k0:Pe a0 a1=!J9 a1.length (fun i=>No a0 (Jh a1 i)==0):=h2
 have e:RB a0 a1=stE a0 a1∧RC a0 a1=stR a0 a1:=by
  unfold RB RC GZ stR stE
  rw[k0]
  cases hg:AR a0 !=0 with
  |true=>
   have:(AR a0==0)=false:=by simpa using hg
   refine⟨rfl,?_⟩
   show[]=bif AR a0==0 then stN a0 a1 a1.length else[]
   rw[this]
   rfl
  |false=>
   cases ha:J9 a1.length (fun i=>No a0 (Jh a1 i)==0) with
   |true=>exact⟨rfl,h3 ha⟩
   |false=>exact⟨rfl,rfl⟩
 unfold RE RD at h
 rw[e.1,e.2] at h
 exact h
def Z1:List A→Nat→Objs→Option A3:=Bg [.l .group,.l .change] 1 Xc Xb U3
theorem Arm:Fi Try.prog 82 Z1:=Aq (ks:=[.l .group,.l .change]) Xa
noncomputable def Bqy:=A4 82 Z1 At0
theorem Ba6:Dd Try.prog Bqy:=Am Arm Aew
def Ek (a0:List TGroup) (a1:List TRow) (_a2:List TRow):Bool:=Gk a0 a1 !=(0:Int)
def H1 (a0:List TGroup) (a1:List TRow) (a2:List TRow):Bool:=(Ek a0 a1 a2)||Gk a0 a2 !=(0:Int)
def Rx (a0:List TGroup) (a1:List TRow) (a2:List TRow):Int:=bif(H1 a0 a1 a2) then bif(Ek a0 a1 a2) then Gk a0 a1 else Gk a0 a2 else(0:Int)
def Ry (a0:List TGroup) (a1:List TRow) (a2:List TRow):List TRow:=bif(H1 a0 a1 a2) then[] else mrg (a1.length+a2.length) a1 a2
def RA (a0:List TGroup) (a1:List TRow) (a2:List TRow):A:=.tup [.dq 0,.v (.int .i64 (Rx a0 a1 a2))]
def Rz (a0:List TGroup) (a1:List TRow) (a2:List TRow):Objs:=[(0,some (.deep 71 .row (Ry a0 a1 a2)))]
def Awi (a0:List TGroup) (a1:List TRow) (a2:List TRow):List Prop:=[(Ar a1.length),((!(Ek a0 a1 a2))=true→Ar a2.length),((!(H1 a0 a1 a2))=true→Stt a0 a1∧Stt a0 a2∧a1.length+a2.length≤(400000:Nat))]
theorem Awh (a0:List TGroup) (a1:List TRow) (a2:List TRow):Ff (As Bqy L0) 9 91 [.sl .group a0,Af .rows a1,Af .rows a2] 0 []=some (1,RA a0 a1 a2,1,Rz a0 a1 a2,[((0:Int)≤(0:Int)∧(0:Int) <(↑(2:Nat):Int)),((0:Nat) <(2:Nat)),(Ar a1.length),((!(Ek a0 a1 a2))=true→(0:Int)≤(1:Int)∧(1:Int) <(↑(2:Nat):Int)),((!(Ek a0 a1 a2))=true→(1:Nat) <(2:Nat)),((!(Ek a0 a1 a2))=true→Ar a2.length),((!(H1 a0 a1 a2))=true→Stt a0 a1∧Stt a0 a2∧a1.length+a2.length≤(400000:Nat))]):=by kernel_rfl
theorem A1p (a0:List TGroup) (a1:List TRow) (a2:List TRow) (hp:∀p∈Awi a0 a1 a2,p):CallOk Try.prog 91 [.sl .group a0,Af .rows a1,Af .rows a2] 0 [] 1 (RA a0 a1 a2) 1 (Rz a0 a1 a2):=by
 have n0:((0:Int)≤(0:Int)∧(0:Int) <(↑(2:Nat):Int)):=by first|rfl|decide+kernel
 have n1:((0:Nat) <(2:Nat)):=by first|rfl|decide+kernel
 have n2:=N0 hp
 have n3:((!(Ek a0 a1 a2))=true→(0:Int)≤(1:Int)∧(1:Int) <(↑(2:Nat):Int)):=by omega
 have n4:((!(Ek a0 a1 a2))=true→(1:Nat) <(2:Nat)):=by omega
 have n5:=N0 (N1 hp)
 have n6:=N0 (N1 (N1 hp))
 exact Az (An Ba6 Ay) (Awh a0 a1 a2) (Aa n0 (Aa n1 (Aa n2 (Aa n3 (Aa n4 (Aa n5 (Aa n6 Ad)))))))
def W9 (a0:List TGroup) (a1 a2:List TRow):A:=.tup [.dq 0,.v (.int .i64 (mgE a0 a1 a2))]
def W8 (a0:List TGroup) (a1 a2:List TRow):Objs:=[(0,some (.deep 71 .row (mgR a0 a1 a2)))]
def U2 (_a0:List TGroup) (a1 a2:List TRow):List Prop:=[a1.length+a2.length≤400000]
theorem Awg (a0:List TGroup) (a1 a2:List TRow) (hp:∀p∈U2 a0 a1 a2,p):CallOk Try.prog 91 [.sl .group a0,Af .rows a1,Af .rows a2] 0 [] 1 (W9 a0 a1 a2) 1 (W8 a0 a1 a2):=by
 have hb:a1.length+a2.length≤400000:=hp _ (List.mem_cons_self ..)
 have hk:H1 a0 a1 a2=!(mgE a0 a1 a2==0):=by
  unfold H1 Ek mgE
  cases h:Gk a0 a1 !=0 with
  |true=>
   have:(Gk a0 a1==0)=false:=by simpa using h
   rw[cond_true,this]
   rfl
  |false=>rfl
 have h:=A1p a0 a1 a2 (Aa (by unfold Ar;omega) (Aa (fun _=>by unfold Ar;omega) (Aa (fun h=>by
  rw[hk,Bool.not_not] at h
  obtain⟨g1,g2⟩:=B2u.1 (by simpa using h:mgE a0 a1 a2=0)
  exact⟨(Aj6 g1).2,(Aj6 g2).2,hb⟩) Ad)))
 have e:Rx a0 a1 a2=mgE a0 a1 a2∧Ry a0 a1 a2=mgR a0 a1 a2:=by
  unfold Rx Ry mgR
  rw[hk]
  cases h0:mgE a0 a1 a2==0 with
  |true=>
   have:mgE a0 a1 a2=0:=by simpa using h0
   rw[this]
   exact⟨rfl,rfl⟩
  |false=>exact⟨rfl,rfl⟩
 unfold RA Rz at h
 rw[e.1,e.2] at h
 exact h
def ZZ:List A→Nat→Objs→Option A3:=Bg [.l .group,.t .rows,.t .rows] 1 W9 W8 U2
theorem Arl:Fi Try.prog 91 ZZ:=Aq (ks:=[.l .group,.t .rows,.t .rows]) Awg
noncomputable def Ba7:=A4 91 ZZ Bqy
theorem At1:Dd Try.prog Ba7:=Am Arl Ba6
abbrev BB:Type:=Int×Int×TRow×TRow
def Ku (x:BB):St:=⟨38,2,[(2,.own 0 0),(3,.own 1 0),(22,.v (.int .i64 x.1)),(23,.v (.int .i64 x.2.1))],[(0,some (.box 71 [.v (.string x.2.2.1.key),.sl .cell x.2.2.1.cells])),(1,some (.box 71 [.v (.string x.2.2.2.key),.sl .cell x.2.2.2.cells]))]⟩
def Mw:St→Option BB
 |⟨38,2,[(2,.own 0 0),(3,.own 1 0),(22,.v (.int .i64 z0)),(23,.v (.int .i64 z1))],[(0,some (.box 71 [.v (.string z2),.sl .cell z3])),(1,some (.box 71 [.v (.string z4),.sl .cell z5]))]⟩=>some (z0,z1,⟨z2,z3⟩,⟨z4,z5⟩)
 |_=>none
theorem Acw:∀s x,Mw s=some x→s=Ku x:=fun s x h=>by
 unfold Mw at h
 split at h
 ·cases h;rfl
 ·cases h
def U6:De:=⟨2,2,[2,3,22,23],[],[(0,0),(1,1)],[0,1],[4],[0,1]⟩
def Aro:Dy:=⟨[],[(0,0),(1,1)],[2,3,22,23],[0,1]⟩
def CT (a0:Int) (a1:Int) (a2:TRow) (a3:TRow):Bool:=!!decide (a1 <a0)&&!((a2.2.getD a1.toNat (Ac TC.cell)).1.1==(a3.2.getD a1.toNat (Ac TC.cell)).1.1&&(a2.2.getD a1.toNat (Ac TC.cell)).1.2==(a3.2.getD a1.toNat (Ac TC.cell)).1.2&&((a2.2.getD a1.toNat (Ac TC.cell)).2.1==(a3.2.getD a1.toNat (Ac TC.cell)).2.1&&(a2.2.getD a1.toNat (Ac TC.cell)).2.2==(a3.2.getD a1.toNat (Ac TC.cell)).2.2&&((a2.2.getD a1.toNat (Ac TC.cell)).3==(a3.2.getD a1.toNat (Ac TC.cell)).3&&((a2.2.getD a1.toNat (Ac TC.cell)).4.toList==(a3.2.getD a1.toNat (Ac TC.cell)).4.toList&&((a2.2.getD a1.toNat (Ac TC.cell)).5.1==(a3.2.getD a1.toNat (Ac TC.cell)).5.1&&(a2.2.getD a1.toNat (Ac TC.cell)).5.2==(a3.2.getD a1.toNat (Ac TC.cell)).5.2)))))
def Ahd (a0:Int) (a1:Int) (a2:TRow) (a3:TRow):Bool:=!!decide (a1 <a0)&&!(CT a0 a1 a2 a3)
def DM (x:BB):BB:=(x.1,IntKind.i64.wrap (x.2.1+(1:Int)),x.2.2.1,x.2.2.2)
def DL (x:BB):Cnd:=some (Ahd x.1 x.2.1 x.2.2.1 x.2.2.2)
def LF (x:BB):List Prop:=[((!!decide (x.2.1 <x.1))=true→(0:Int)≤x.2.1∧x.2.1 <(↑x.2.2.1.2.length:Int)),((!!decide (x.2.1 <x.1))=true→(0:Int)≤x.2.1∧x.2.1 <(↑x.2.2.2.2.length:Int))]
abbrev Gx:BB→List Prop:=LF
def Pl (x:BB):Bj:=[(some 0,some (!decide (x.2.1 <x.1)),⟨38,2,[(4,.dead)],[(0,some (.box 71 [.v (.string x.2.2.1.1),.sl .cell x.2.2.1.2])),(1,some (.box 71 [.v (.string x.2.2.2.1),.sl .cell x.2.2.2.2]))]⟩),(none,some ((CT x.1 x.2.1 x.2.2.1 x.2.2.2)),⟨38,2,[(4,.v (.bool (false)))],[(0,some (.box 71 [.v (.string x.2.2.1.1),.sl .cell x.2.2.1.2])),(1,some (.box 71 [.v (.string x.2.2.2.1),.sl .cell x.2.2.2.2]))]⟩)]
def EP (x:BB):Nat:=(x.1 - x.2.1).toNat
def Ahf (x:BB):BB:=A9 DM DL (EP x) x
theorem Ak4 (a0:Int) (a1:Int) (a2:TRow) (a3:TRow):Bw (As Ba7 L0) 9 (Ae Try.prog 150 0) U6 (Ku (a0,a1,a2,a3))=some (LF (a0,a1,a2,a3),Pl (a0,a1,a2,a3),DL (a0,a1,a2,a3),Ku (DM (a0,a1,a2,a3))):=by kernel_rfl
theorem Ak5 (a0:Int) (a1:Int) (a2:TRow) (a3:TRow) (hp:∀p∈Gx (a0,a1,a2,a3),p):∀p∈LF (a0,a1,a2,a3),p:=hp
noncomputable def QK:=HG (As Ba7 L0) (Ae Try.prog 150 0) U6 Aro Mw EP DM DL Gx Pl
theorem Ahe:∀s b ps outs,QK s=some (b,ps,outs)→Wf s ⟨ps,outs,none⟩∧Bt (As C0 L0) b s ps outs:=
 Bh (T:=Ku) At1 Ay (u:=9) (by kernel_rfl) (by decide) (fun⟨a0,a1,a2,a3⟩=>Ak4 a0 a1 a2 a3) (fun⟨a0,a1,a2,a3⟩=>Ak5 a0 a1 a2 a3) Acw (fun _=>AK (n:=38) rfl) fun _ _=>rfl
noncomputable def U5:=DI 0 QK L0
theorem Ahc:G9 U5:=AV Ahe Ay
def Fh (a0:TRow) (a1:TRow):BB:=Ahf ((↑a0.2.length:Int),(0:Int),a0,a1)
def Gm (a0:TRow) (a1:TRow):Bool:=!a0.1.toList==a1.1.toList||(↑a0.2.length:Int) !=(↑a1.2.length:Int)
def Ug (a0:TRow) (a1:TRow):Bool:=bif(Gm a0 a1) then false else bif CT (Fh a0 a1).fst (Fh a0 a1).snd.fst (Fh a0 a1).snd.snd.fst (Fh a0 a1).snd.snd.snd then false else true
def Uh (a0:TRow) (a1:TRow):A:=.v (.bool (Ug a0 a1))
def Ahg (_a0:TRow) (_a1:TRow):Objs:=[]
def Z7 (a0:TRow) (a1:TRow):List Prop:=[((!(Gm a0 a1))=true→AD DM DL Gx (EP ((↑a0.2.length:Int),(0:Int),a0,a1)) ((↑a0.2.length:Int),(0:Int),a0,a1))]
theorem A1u (a0:TRow) (a1:TRow):Ff (As Ba7 U5) 9 150 [Af .row a0,Af .row a1] 0 []=some (1,Uh a0 a1,0,Ahg a0 a1,[((!(Gm a0 a1))=true→Ae Try.prog (150:FuncId) (0:Nat)=Ae Try.prog (150:FuncId) (0:Nat)),((!(Gm a0 a1))=true→AD DM DL Gx (EP ((↑a0.2.length:Int),(0:Int),a0,a1)) ((↑a0.2.length:Int),(0:Int),a0,a1))]):=by kernel_rfl
theorem A72 (a0:TRow) (a1:TRow) (hp:∀p∈Z7 a0 a1,p):CallOk Try.prog 150 [Af .row a0,Af .row a1] 0 [] 1 (Uh a0 a1) 0 (Ahg a0 a1):=by
 have n0:((!(Gm a0 a1))=true→Ae Try.prog (150:FuncId) (0:Nat)=Ae Try.prog (150:FuncId) (0:Nat)):=by intros;rfl
 have n1:=N0 hp
 exact Az (An At1 Ahc) (A1u a0 a1) (Aa n0 (Aa n1 Ad))
def Z8 (a0:TRow) (a1:TRow):A:=.v (.bool (Bn3 a0 a1))
def Z6 (_a0:TRow) (_a1:TRow):Objs:=[]
def Xi (a0:TRow) (_a1:TRow):List Prop:=[Ag a0.cells.length]
theorem Z5 (a b:TRow) (hb:Ag a.cells.length):(∀p∈Z7 a b,p)∧Ug a b=Bn3 a b:=by
 unfold Ag at hb
 have hk0:Gm a b=(!(a.key==b.key)||a.cells.length !=b.cells.length):=by
  show(!(a.key.toList==b.key.toList)||((a.cells.length:Int) !=(b.cells.length:Int)))=_
  rw[tlb]
  congr 1
  rw[Bool.eq_iff_iff,bne_iff_ne,bne_iff_ne];omega
 have main:Gm a b=false→AD DM DL Gx (EP ((a.2.length:Int),0,a,b)) ((a.2.length:Int),0,a,b)∧CT (Fh a b).fst (Fh a b).snd.fst (Fh a b).snd.snd.fst (Fh a b).snd.snd.snd=!Afl a.cells b.cells:=fun h0=>by
  rw[hk0] at h0
  have hlen:a.cells.length=b.cells.length:=by simpa using(Bool.or_eq_false_iff.1 h0).2
  have hf:∀i:Nat,CT (a.cells.length:Int) (i:Int) a b=(decide (i <a.cells.length)&&!eqC (a.2.getD i (Ac TC.cell)) (b.2.getD i (Ac TC.cell))):=fun i=>by
   unfold CT eqC
   rw[nn,M9,Int.toNat_natCast,tlb]
   simp only[Bool.and_assoc]
  obtain⟨h1,k,hk,hx,_,_,hb'⟩:=IW (fun i=>(((a.cells.length:Int),(i:Int),a,b):BB)) a.cells.length (fun i=>!eqC (a.2.getD i (Ac TC.cell)) (b.2.getD i (Ac TC.cell))) DM DL Gx (EP ((a.cells.length:Int),0,a,b)) ((a.cells.length:Int),0,a,b) rfl (by show a.cells.length≤((a.cells.length:Int) - 0).toNat;omega)
   (fun i _ _=>by
    show((!!decide ((i:Int) <(a.cells.length:Int)))&&!CT (a.cells.length:Int) (i:Int) a b)=_
    rw[hf,nn,M9]
    cases decide (i <a.cells.length)<;>rfl)
   (fun i hi _=>by
    show((a.cells.length:Int),IntKind.i64.wrap ((i:Int)+1),a,b)=((a.cells.length:Int),((i+1:Nat):Int),a,b)
    rw[Fd (by omega)])
   (fun i _ _=>by
    have hin:(!!decide ((i:Int) <(a.cells.length:Int)))=true→(i:Int) <(a.cells.length:Int):=fun h=>by rw[nn] at h;exact of_decide_eq_true h
    exact Aa (fun h=>⟨by show(0:Int)≤(i:Int);omega,hin h⟩) (Aa (fun h=>⟨by show(0:Int)≤(i:Int);omega,by have:=hin h;show(i:Int) <(b.cells.length:Int);omega⟩) Ad))
  refine⟨h1,?_⟩
  have hr:Fh a b=((a.cells.length:Int),(k:Int),a,b):=hx
  rw[hr]
  show CT (a.cells.length:Int) (k:Int) a b=_
  rw[hf,hb',Bry _ _ hlen]
  congr 1
  exact Ji fun i _=>Bool.not_not _
 refine⟨Aa (fun h=>(main (by simpa using h)).1) Ad,?_⟩
 unfold Ug Bn3
 cases h0:Gm a b with
 | true=>
  rw[hk0] at h0
  rw[cond_true]
  cases hk:a.key==b.key with
  |false=>rfl
  |true=>
   rw[hk] at h0
   have hne:a.cells.length≠b.cells.length:=by simpa using h0
   cases he:Afl a.cells b.cells with
   |false=>rfl
   |true=>exact absurd (congrArg List.length (Afm.1 he)) hne
 |false=>
  rw[cond_false,(main h0).2]
  rw[hk0] at h0
  have:(a.key==b.key)=true:=by simpa using(Bool.or_eq_false_iff.1 h0).1
  rw[this,Bool.true_and]
  cases Afl a.cells b.cells<;>rfl
theorem A1t (a0:TRow) (a1:TRow) (hp:∀p∈Xi a0 a1,p):CallOk Try.prog 150 [Af .row a0,Af .row a1] 0 [] 1 (Z8 a0 a1) 0 (Z6 a0 a1):=by
 have hb:Ag a0.cells.length:=hp _ (List.mem_cons_self ..)
 have h:=A72 a0 a1 (Z5 a0 a1 hb).1
 unfold Uh at h
 rw[(Z5 a0 a1 hb).2] at h
 exact h
def Ahh:List A→Nat→Objs→Option A3:=Bg [.t .row,.t .row] 0 Z8 Z6 Xi
theorem Awo:Fi Try.prog 150 Ahh:=Aq (ks:=[.t .row,.t .row]) A1t
noncomputable def Byr:=A4 150 Ahh Ba7
theorem Bqz:Dd Try.prog Byr:=Am Awo At1
noncomputable def Cms:=Byr
theorem Bq0:Dd Try.prog Cms:=Bqz
end Go.Proofs.Yteebobbhhgmeiaa
namespace Go.Proofs.Yteebobbhhgmeiaa
open Go.RowKit
def Boy (l:List TGroup) (r:TRow):TView:=⟨Ai9 l r,TA l r⟩
def chS (l:List TGroup) (q:ByteArray→Bool) (n:Int) (o:List TView) (r:TRow):List TView:=bif decide ((o.length:Int)≥n) then o else bif Jg l r&&q r.key then o++[Boy l r] else o
def chI (l:List TGroup) (q:ByteArray→Bool) (n:Int) (rows:List TRow) (i:Nat):List TView:=(rows.take i).foldl (chS l q n) []
def chL (l:List TGroup) (q:ByteArray→Bool) (n:Int) (rows:List TRow):List TView:=rows.foldl (chS l q n) []
section
variable {l:List TGroup} {q:ByteArray→Bool} {n:Int}
theorem Brm (rows:List TRow) (i:Nat) (h:i <rows.length):chI l q n rows (i+1)=chS l q n (chI l q n rows i) (C7 rows i):=by
 unfold chI
 rw[Yx rows (Ac TC.row) i h,List.foldl_append]
 rfl
theorem Bv3 (rows:List TRow):chI l q n rows rows.length=chL l q n rows:=by
 unfold chI chL
 rw[List.take_length]
theorem Aup {o:List TView} (h:(o.length:Int)≥n):∀rows:List TRow,rows.foldl (chS l q n) o=o
 | []=>rfl
 | x::a=>by
  have e:chS l q n o x=o:=by
   unfold chS
   rw[decide_eq_true h]
   rfl
  rw[List.foldl_cons,e,Aup h a]
theorem Brl (rows:List TRow) {i:Nat} (h:((chI l q n rows i).length:Int)≥n):chL l q n rows=chI l q n rows i:=by
 have e:chL l q n rows=(rows.drop i).foldl (chS l q n) (chI l q n rows i):=by
  unfold chL chI
  rw[←List.foldl_append,List.take_append_drop]
 rw[e,Aup h]
theorem Bb9 {o:List TView}:∀rows:List TRow,(∀y∈rows,q y.key=false)→rows.foldl (chS l q n) o=o
 | [],_=>rfl
 | x::a,h=>by
  have e:chS l q n o x=o:=by
   unfold chS
   rw[h x (List.mem_cons_self ..),Bool.and_false,cond_false]
   cases decide ((o.length:Int)≥n)<;>rfl
  rw[List.foldl_cons,e,Bb9 a fun y hy=>h y (List.mem_cons_of_mem _ hy)]
end
def Bsb (l:List TGroup) (rows:List TRow) (key:ByteArray):Bool:=match M4 rows key with
 |some r=>Jg l r
 |none=>false
def Bhs (l:List TGroup) (rows:List TRow) (key:ByteArray):TView:=match M4 rows key with
 |some r=>Boy l r
 |none=>⟨⟨#[]⟩,[]⟩
theorem Bxn {l:List TGroup} {r:TRow} (h:Jg l r=false):Boy l r=⟨⟨#[]⟩,[]⟩:=by
 unfold Boy Ai9 TA
 rw[h]
 rfl
theorem Bwm {l:List TGroup} {rows:List TRow} {key:ByteArray} (h:Bsb l rows key=false):Bhs l rows key=⟨⟨#[]⟩,[]⟩:=by
 unfold Bsb at h
 unfold Bhs
 cases ha:M4 rows key with
 |none=>rfl
 |some r=>rw[ha] at h;exact Bxn h
theorem Blw {l:List TGroup} {key:ByteArray}:∀{rows:List TRow},Om rows→chL l (fun k=>k==key) 1 rows=bif Bsb l rows key then[Bhs l rows key] else[]
 | [],_=>rfl
 | x::a,h=>by
  have h1:=List.pairwise_cons.1 h
  have e:chL l (fun k=>k==key) 1 (x::a)=a.foldl (chS l (fun k=>k==key) 1) (bif Jg l x&&x.key==key then[Boy l x] else[]):=rfl
  rw[e]
  unfold Bsb Bhs
  rw[CJ]
  by_cases hk:x.key=key
  ·rw[if_pos hk]
   have hk2:(x.key==key)=true:=by simpa using hk
   rw[hk2,Bool.and_true]
   show _=bif Jg l x then[Boy l x] else[]
   cases hv:Jg l x with
   |true=>rw[cond_true,Aup (show((1:Nat):Int)≥1 from Int.le_refl _)]
   |false=>
    rw[cond_false,Bb9 a fun y hy=>?_]
    have:=Ua (h1.1 y hy)
    rw[hk] at this
    simpa using Ne.symm this
  ·rw[if_neg hk]
   have hk2:(x.key==key)=false:=by simpa using hk
   rw[hk2,Bool.and_false,cond_false]
   exact Blw h1.2
def A9t (l:List TGroup) (rows:List TRow) (key:ByteArray):Bool:=Gk l rows==0&&Bsb l rows key
def KS (l:List TGroup) (rows:List TRow) (key:ByteArray):TView:=bif Gk l rows==0 then Bhs l rows key else⟨⟨#[]⟩,[]⟩
end Go.Proofs.Yteebobbhhgmeiaa
namespace Go.Proofs.Yteebobbhhgmeiaa
open Go.RowKit
theorem Bnr {P:Program} {f:FuncId} {args:List A} {k:Nat} {e:TypeId} {c:TC} {els:Els} {l:List (U c)} {ps:List Prop} (h:CallOk P f args 0 [] k (.sq 0) 1 [(0,some (.arr e (size c) els))]) (hty:US c els=some (l,ps)) (hp:∀p∈ps,p):CallOk P f args 0 [] k (.sq 0) 1 [(0,some (.arr e (size c) (.ty c l)))]:=fun F N R vs hh ha=>
 Calls.mono (P:=P) (h F N R vs hh ha) fun e0 R' ⟨y,F',N',e1,e2,e3,e4,e5⟩=>by
  have low:∀{i ob},Ao i [(0,some (Ob.arr e (size c) (.ty c l)))]=some ob→i=0∧ob=.arr e (size c) (.ty c l):=fun {i ob} hi=>by
   have hi':(bif Nat.beq 0 i then some (Ob.arr e (size c) (.ty c l)) else none)=some ob:=hi
   cases hb:Nat.beq 0 i with
   |true=>rw[hb] at hi';cases hi';exact⟨(Nat.eq_of_beq_eq_true hb).symm,rfl⟩
   |false=>rw[hb] at hi';cases hi'
  obtain⟨hi,zs,g1,g2⟩:=e2.ob 0 _ rfl
  have hr:RowHL F' N' 1 R' (.ty c l) (size c) zs:=(show RowHL F' N' 1 R' els (size c) zs from⟨g1.1,g2⟩).ty hty hp
  have hn:l.length=els.n:=(K9 (F:=F') (N:=N') (nx:=1) (R:=R') hty hp).1
  refine⟨y,F',N',e1,⟨e2.flt,fun i ob hl=>?_,fun i ob g hl hg=>?_,fun i j x y g hx hy _ _=>?_⟩,⟨e3.le,e3.b,e3.q,e3.f,e3.fnew,fun g ⟨i,ob,hl,hg⟩=>?_,e3.os,e3.tape,e3.output,e3.size,e3.keep⟩,e4,e5⟩
  ·obtain⟨rfl,rfl⟩:=low hl
   exact⟨hi,zs,by show OwnR _ _ _ _ l.length _;rw[hn];exact g1,hr.2⟩
  ·obtain⟨rfl,rfl⟩:=low hl
   exact e2.ff 0 _ g rfl hg
  ·rw[(low hx).1,(low hy).1]
  ·obtain⟨rfl,rfl⟩:=low hl
   exact e3.foot g ⟨0,_,rfl,hg⟩
end Go.Proofs.Yteebobbhhgmeiaa
namespace Go.Proofs.Yteebobbhhgmeiaa
open Go.RowKit
noncomputable def Ba8:=A4 147 (inl (As Cms L0) 20 147) Cms
theorem At2:Dd Try.prog Ba8:=Am (Acg (An Bq0 Ay) 20 147) Bq0
abbrev EE:Type:=(List TGroup)×(List TRow)×Int×Int×ByteArray×(List TView)
def Ql (x:EE):St:=⟨46,4,[(0,.sl .group x.1),(2,.v (.int .i64 ((1:Int)))),(3,.fn 147 [] [.own 0 0]),(8,.sq 3),(17,.sl .row x.2.1),(18,.v (.int .i64 x.2.2.1)),(19,.v (.int .i64 x.2.2.2.1))],[(0,some (.box 9 [.v (.string x.2.2.2.2.1)])),(3,some (.arr 94 2 (.ty .view x.2.2.2.2.2)))]⟩
def TP:St→Option EE
 |⟨46,4,[(0,.sl .group z0),(2,.v (.int .i64 ((1:Int)))),(3,.fn 147 [] [.own 0 0]),(8,.sq 3),(17,.sl .row z1),(18,.v (.int .i64 z2)),(19,.v (.int .i64 z3))],[(0,some (.box 9 [.v (.string z4)])),(3,some (.arr 94 2 (.ty .view z5)))]⟩=>some (z0,z1,z2,z3,z4,z5)
 |_=>none
theorem Auq:∀s x,TP s=some x→s=Ql x:=fun s x h=>by
 unfold TP at h
 split at h
 ·cases h;rfl
 ·cases h
def Ani:De:=⟨3,4,[0,2,3,8,17,18,19],[],[(0,0),(9,3)],[0,9],[8],[3,0]⟩
def Bca:Dy:=⟨[.nil 8 94 .view],[(0,0),(2,3)],[0,2,3,8,17,18,19],[0,2]⟩
def Jl (a0:List TGroup) (a1:List TRow) (_a2:Int) (a3:Int) (a4:ByteArray) (_a5:List TView):Bool:=bif Jg a0 (a1.getD a3.toNat (Ac TC.row)) then(a1.getD a3.toNat (Ac TC.row)).1.toList==a4.toList else false
def V2 (_a0:List TGroup) (_a1:List TRow) (a2:Int) (a3:Int) (_a4:ByteArray) (a5:List TView):Bool:=!decide (a3 <a2)||decide ((↑a5.length:Int)≥(1:Int))
def Rb (a0:List TGroup) (a1:List TRow) (a2:Int) (a3:Int) (a4:ByteArray) (a5:List TView):ByteArray:=bif(Jl a0 a1 a2 a3 a4 a5) then a4 else a4
def Rc (a0:List TGroup) (a1:List TRow) (a2:Int) (a3:Int) (a4:ByteArray) (a5:List TView):List TView:=bif(Jl a0 a1 a2 a3 a4 a5) then a5++[TView.mk (Ai9 a0 (a1.getD a3.toNat (Ac TC.row))) (TA a0 (a1.getD a3.toNat (Ac TC.row)))] else a5
def GR (x:EE):EE:=(x.1,x.2.1,x.2.2.1,IntKind.i64.wrap (x.2.2.2.1+(1:Int)),Rb x.1 x.2.1 x.2.2.1 x.2.2.2.1 x.2.2.2.2.1 x.2.2.2.2.2,Rc x.1 x.2.1 x.2.2.1 x.2.2.2.1 x.2.2.2.2.1 x.2.2.2.2.2)
def GQ (x:EE):Cnd:=some (!(V2 x.1 x.2.1 x.2.2.1 x.2.2.2.1 x.2.2.2.2.1 x.2.2.2.2.2))
def ZB (x:EE):List Prop:=[((!!decide (x.2.2.2.1 <x.2.2.1))=true→(0:Int)≤x.2.2.2.1∧x.2.2.2.1 <(↑x.2.1.length:Int)),((!!decide (x.2.2.2.1 <x.2.2.1))=true→(!decide ((↑x.2.2.2.2.2.length:Int)≥(1:Int)))=true→false=false),((!!decide (x.2.2.2.1 <x.2.2.1))=true→(!decide ((↑x.2.2.2.2.2.length:Int)≥(1:Int)))=true→(Jl x.1 x.2.1 x.2.2.1 x.2.2.2.1 x.2.2.2.2.1 x.2.2.2.2.2)=true→Ag (x.2.2.2.2.2.length+(1:Nat)))]
def JN (x:EE):List Prop:=[((!!decide (x.2.2.2.1 <x.2.2.1))=true→(0:Int)≤x.2.2.2.1∧x.2.2.2.1 <(↑x.2.1.length:Int)),((!!decide (x.2.2.2.1 <x.2.2.1))=true→(!decide ((↑x.2.2.2.2.2.length:Int)≥(1:Int)))=true→(Jl x.1 x.2.1 x.2.2.1 x.2.2.2.1 x.2.2.2.2.1 x.2.2.2.2.2)=true→Ag (x.2.2.2.2.2.length+(1:Nat)))]
def V3 (x:EE):Bj:=[(some 0,some ((V2 x.1 x.2.1 x.2.2.1 x.2.2.2.1 x.2.2.2.2.1 x.2.2.2.2.2)),⟨46,5,[(8,.sq 3)],[(3,some (.arr 94 2 (.ty .view x.2.2.2.2.2))),(0,some (.box 9 [.v (.string x.2.2.2.2.1)]))]⟩)]
def HY (x:EE):Nat:=(x.2.2.1 - x.2.2.2.1).toNat
def DA (x:EE):EE:=A9 GR GQ (HY x) x
theorem A6l (a0:List TGroup) (a1:List TRow) (a2:Int) (a3:Int) (a4:ByteArray) (a5:List TView):Bw (As Ba8 L0) 9 (Ae Try.prog 146 0) Ani (Ql (a0,a1,a2,a3,a4,a5))=some (ZB (a0,a1,a2,a3,a4,a5),V3 (a0,a1,a2,a3,a4,a5),GQ (a0,a1,a2,a3,a4,a5),Ql (GR (a0,a1,a2,a3,a4,a5))):=by kernel_rfl
theorem A6m (a0:List TGroup) (a1:List TRow) (a2:Int) (a3:Int) (a4:ByteArray) (a5:List TView) (hp:∀p∈JN (a0,a1,a2,a3,a4,a5),p):∀p∈ZB (a0,a1,a2,a3,a4,a5),p:=by
 have n0:=N0 hp
 have n1:((!!decide (a3 <a2))=true→(!decide ((↑a5.length:Int)≥(1:Int)))=true→false=false):=by intros;rfl
 have n2:=N0 (N1 hp)
 exact(Aa n0 (Aa n1 (Aa n2 Ad)))
noncomputable def ZC:=HG (As Ba8 L0) (Ae Try.prog 146 0) Ani Bca TP HY GR GQ JN V3
theorem A04:∀s b ps outs,ZC s=some (b,ps,outs)→Wf s ⟨ps,outs,none⟩∧Bt (As C0 L0) b s ps outs:=
 Bh (T:=Ql) At2 Ay (u:=9) (by kernel_rfl) (by decide) (fun⟨a0,a1,a2,a3,a4,a5⟩=>A6l a0 a1 a2 a3 a4 a5) (fun⟨a0,a1,a2,a3,a4,a5⟩=>A6m a0 a1 a2 a3 a4 a5) Auq (fun _=>AK (n:=46) rfl) fun _ _=>rfl
noncomputable def Anh:=DI 0 ZC L0
theorem A03:G9 Anh:=AV A04 Ay
noncomputable def Bq1:=A4 146 (inl (As Ba8 Anh) 20 146) Ba8
theorem Ba9:Dd Try.prog Bq1:=Am (Acg (An At2 A03) 20 146) At2
def CP (a0:List TGroup) (a1:List TRow) (_a2:ByteArray):Bool:=Gk a0 a1 !=(0:Int)
def Fg (a0:List TGroup) (a1:List TRow) (a2:ByteArray):Bool:=(↑(bif(CP a0 a1 a2) then[] else(DA (a0,a1,(↑a1.length:Int),(0:Int),a2,[])).snd.snd.snd.snd.snd).length:Int)==(0:Int)
def QI (a0:List TGroup) (a1:List TRow) (a2:ByteArray):TView:=TView.mk (bif(Fg a0 a1 a2) then ByteArray.mk #[] else((bif(CP a0 a1 a2) then[] else(DA (a0,a1,(↑a1.length:Int),(0:Int),a2,[])).snd.snd.snd.snd.snd).getD (0:Nat) (Ac TC.view)).1) (bif(Fg a0 a1 a2) then[] else((bif(CP a0 a1 a2) then[] else(DA (a0,a1,(↑a1.length:Int),(0:Int),a2,[])).snd.snd.snd.snd.snd).getD (0:Nat) (Ac TC.view)).2)
def W0 (a0:List TGroup) (a1:List TRow) (a2:ByteArray):Bool:=bif(Fg a0 a1 a2) then false else true
def W5 (a0:List TGroup) (a1:List TRow) (a2:ByteArray):A:=.tup [.agg [.v (.string ((QI a0 a1 a2).key)),.sl .field ((QI a0 a1 a2).fields)],.v (.bool (W0 a0 a1 a2))]
def An9 (_a0:List TGroup) (_a1:List TRow) (_a2:ByteArray):Objs:=[]
def A7z (a0:List TGroup) (a1:List TRow) (a2:ByteArray):List Prop:=[(Ar a1.length),((!(CP a0 a1 a2))=true→AD GR GQ JN (HY (a0,a1,(↑a1.length:Int),(0:Int),a2,[])) (a0,a1,(↑a1.length:Int),(0:Int),a2,[])),((!(Fg a0 a1 a2))=true→(0:Int)≤(0:Int)∧(0:Int) <(↑(bif(CP a0 a1 a2) then[] else(DA (a0,a1,(↑a1.length:Int),(0:Int),a2,[])).snd.snd.snd.snd.snd).length:Int))]
theorem A7y (a0:List TGroup) (a1:List TRow) (a2:ByteArray):Ff (As Bq1 L0) 9 85 [.sl .group a0,Af .rows a1,Af .str a2] 0 []=some (1,W5 a0 a1 a2,0,An9 a0 a1 a2,[(Ar a1.length),((!(CP a0 a1 a2))=true→Ae Try.prog (146:FuncId) (0:Nat)=Ae Try.prog (146:FuncId) (0:Nat)),((!(CP a0 a1 a2))=true→AD GR GQ JN (HY (a0,a1,(↑a1.length:Int),(0:Int),a2,[])) (a0,a1,(↑a1.length:Int),(0:Int),a2,[])),((!(Fg a0 a1 a2))=true→(0:Int)≤(0:Int)∧(0:Int) <(↑(bif(CP a0 a1 a2) then[] else(DA (a0,a1,(↑a1.length:Int),(0:Int),a2,[])).snd.snd.snd.snd.snd).length:Int)),((!(Fg a0 a1 a2))=true→(0:Nat) <(bif(CP a0 a1 a2) then[] else(DA (a0,a1,(↑a1.length:Int),(0:Int),a2,[])).snd.snd.snd.snd.snd).length)]):=by kernel_rfl
theorem Bdw (a0:List TGroup) (a1:List TRow) (a2:ByteArray) (hp:∀p∈A7z a0 a1 a2,p):CallOk Try.prog 85 [.sl .group a0,Af .rows a1,Af .str a2] 0 [] 1 (W5 a0 a1 a2) 0 (An9 a0 a1 a2):=by
 have n0:=N0 hp
 have n1:((!(CP a0 a1 a2))=true→Ae Try.prog (146:FuncId) (0:Nat)=Ae Try.prog (146:FuncId) (0:Nat)):=by intros;rfl
 have n2:=N0 (N1 hp)
 have n3:((!(Fg a0 a1 a2))=true→(0:Int)≤(0:Int)∧(0:Int) <(↑(bif(CP a0 a1 a2) then[] else(DA (a0,a1,(↑a1.length:Int),(0:Int),a2,[])).snd.snd.snd.snd.snd).length:Int)):=N0 (N1 (N1 hp))
 have n4:((!(Fg a0 a1 a2))=true→(0:Nat) <(bif(CP a0 a1 a2) then[] else(DA (a0,a1,(↑a1.length:Int),(0:Int),a2,[])).snd.snd.snd.snd.snd).length):=by intro h0;have g:=n3 h0;omega
 exact Az (An Ba9 Ay) (A7y a0 a1 a2) (Aa n0 (Aa n1 (Aa n2 (Aa n3 (Aa n4 Ad)))))
def Ag0 (a0:List TGroup) (a1:List TRow) (a2:ByteArray):A:=.tup [.agg [.v (.string (KS a0 a1 a2).key),.sl .field (KS a0 a1 a2).fields],.v (.bool (A9t a0 a1 a2))]
def Agz (_a0:List TGroup) (_a1:List TRow) (_a2:ByteArray):Objs:=[]
def ZU (_a0:List TGroup) (a1:List TRow) (_a2:ByteArray):List Prop:=[Ar a1.length]
theorem Brn (l:List TGroup) (rows:List TRow) (key:ByteArray) (hb:Ar rows.length):
  AD GR GQ JN (HY (l,rows,(rows.length:Int),0,key,[])) (l,rows,(rows.length:Int),0,key,[])∧(DA (l,rows,(rows.length:Int),0,key,[])).snd.snd.snd.snd.snd=chL l (fun k=>k==key) 1 rows:=by
 unfold Ar at hb
 have same:∀(c:Bool) (x:ByteArray),(bif c then x else x)=x:=fun c x=>by cases c<;>rfl
 obtain⟨h1,k,hk,hx,_,hst,_⟩:=IW (fun i=>(l,rows,(rows.length:Int),(i:Int),key,chI l (fun k=>k==key) 1 rows i):Nat→EE) rows.length (fun i=>decide (((chI l (fun k=>k==key) 1 rows i).length:Int)≥1)) GR GQ JN (HY (l,rows,(rows.length:Int),0,key,[])) (l,rows,(rows.length:Int),0,key,[]) rfl (by show rows.length≤((rows.length:Int) - 0).toNat;omega)
  (fun i _ _=>by
   show(!(!decide ((i:Int) <(rows.length:Int))||decide (((chI l (fun k=>k==key) 1 rows i).length:Int)≥1)))=_
   rw[Bool.not_or,nn,M9])
  (fun i hi h0=>by
   show(l,rows,(rows.length:Int),IntKind.i64.wrap ((i:Int)+1),Rb l rows (rows.length:Int) (i:Int) key (chI l (fun k=>k==key) 1 rows i),Rc l rows (rows.length:Int) (i:Int) key (chI l (fun k=>k==key) 1 rows i))=(l,rows,(rows.length:Int),((i+1:Nat):Int),key,chI l (fun k=>k==key) 1 rows (i+1))
   unfold Rb Rc
   rw[same,Fd (by omega),Brm rows i hi]
   unfold Jl chS
   rw[h0 i (Nat.lt_succ_self i),tlb,Int.toNat_natCast,cond_false]
   show(_,_,_,_,_,bif(bif Jg l (C7 rows i) then(C7 rows i).key==key else false) then _ else _)=_
   cases Jg l (C7 rows i)<;>rfl)
  (fun i hi _=>by
   have hin:(!!decide ((i:Int) <(rows.length:Int)))=true→(i:Int) <(rows.length:Int):=fun h=>by rw[nn] at h;exact of_decide_eq_true h
   refine Aa (fun h=>⟨by show(0:Int)≤(i:Int);omega,hin h⟩) (Aa (fun _ h _=>?_) Ad)
   have h':(!decide (((chI l (fun k=>k==key) 1 rows i).length:Int)≥1))=true:=h
   have h2:¬((chI l (fun k=>k==key) 1 rows i).length:Int)≥1:=by simpa using h'
   show Ag ((chI l (fun k=>k==key) 1 rows i).length+1)
   unfold Ag
   omega)
 have hr:DA (l,rows,(rows.length:Int),0,key,[])=(l,rows,(rows.length:Int),(k:Int),key,chI l (fun k=>k==key) 1 rows k):=hx
 refine⟨h1,?_⟩
 rw[hr]
 show chI l (fun k=>k==key) 1 rows k=_
 rcases Nat.lt_or_ge k rows.length with h|h
 ·exact(Brl rows (of_decide_eq_true (hst h))).symm
 ·rw[show k=rows.length by omega,Bv3]
theorem A7x (a0:List TGroup) (a1:List TRow) (a2:ByteArray) (hp:∀p∈ZU a0 a1 a2,p):CallOk Try.prog 85 [.sl .group a0,Af .rows a1,Af .str a2] 0 [] 1 (Ag0 a0 a1 a2) 0 (Agz a0 a1 a2):=by
 have hb:Ar a1.length:=hp _ (List.mem_cons_self ..)
 obtain⟨g1,g2⟩:=Brn a0 a1 a2 hb
 have hL:(bif CP a0 a1 a2 then[] else(DA (a0,a1,(a1.length:Int),(0:Int),a2,[])).snd.snd.snd.snd.snd)=bif A9t a0 a1 a2 then[KS a0 a1 a2] else[]:=by
  rw[g2]
  unfold CP A9t KS
  cases hg:Gk a0 a1 !=0 with
  |true=>
   have:(Gk a0 a1==0)=false:=by simpa using hg
   rw[this]
   rfl
  |false=>
   have h0:Gk a0 a1=0:=by simpa using hg
   have:(Gk a0 a1==0)=true:=by simpa using h0
   rw[this,cond_false,Blw (Aj6 h0).2.rise]
   rfl
 have hk:Fg a0 a1 a2=!A9t a0 a1 a2:=by
  unfold Fg
  rw[hL]
  cases A9t a0 a1 a2<;>rfl
 have h:=Bdw a0 a1 a2 (Aa hb (Aa (fun _=>g1) (Aa (fun h=>by
  rw[hk,Bool.not_not] at h
  rw[hL,h]
  exact⟨Int.le_refl _,show(0:Int) <((1:Nat):Int) by decide⟩) Ad)))
 have e0:QI a0 a1 a2=KS a0 a1 a2:=by
  unfold QI
  rw[hk,hL]
  cases hs:A9t a0 a1 a2 with
  |true=>rfl
  | false=>
   unfold A9t at hs
   unfold KS
   cases hg:Gk a0 a1==0 with
   |false=>rfl
   |true=>
    rw[hg,Bool.true_and] at hs
    rw[cond_true,Bwm hs]
    rfl
 have e1:W0 a0 a1 a2=A9t a0 a1 a2:=by
  unfold W0
  rw[hk]
  cases A9t a0 a1 a2<;>rfl
 unfold W5 at h
 rw[e0,e1] at h
 exact h
def Aoa:List A→Nat→Objs→Option A3:=Bg [.l .group,.t .rows,.t .str] 0 Ag0 Agz ZU
theorem A1m:Fi Try.prog 85 Aoa:=Aq (ks:=[.l .group,.t .rows,.t .str]) A7x
noncomputable def Bq2:=A4 85 Aoa Bq1
theorem Bba:Dd Try.prog Bq2:=Am A1m Ba9
def A7j:ByteArray:=ByteArray.mk #[(97:UInt8)]
def A7k:ByteArray:=ByteArray.mk #[(98:UInt8)]
def Agu:A:=.sq 0
def Agt:Objs:=[(0,some (.arr 79 2 (.lst [[.v (.string A7j),.v (.int .i64 ((1:Int)))],[.v (.string A7k),.v (.int .i64 ((2:Int)))]])))]
def ZQ:List Prop:=[]
theorem A1h:Ff (As Bq2 L0) 9 141 [] 0 []=some (1,Agu,1,Agt,ZQ):=by kernel_rfl
theorem A7l (hp:∀p∈ZQ,p):CallOk Try.prog 141 [] 0 [] 1 (Agu) 1 (Agt):=Az (An Bba Ay) (A1h) hp
def Bm2:List TGroup:=[⟨⟨#[97]⟩,1⟩,⟨⟨#[98]⟩,2⟩]
def ZR:A:=.sl .group Bm2
def ZP:Objs:=[]
def WR:List Prop:=[]
theorem A1g (_hp:∀p∈WR,p):CallOk Try.prog 141 [] 0 [] 1 ZR 0 ZP:=by
 have h:=A7l (fun p h=>by cases h)
 exact A3q (c:=.group) (Bnr (c:=.group) (l:=Bm2) (ps:=[]) h rfl (fun p h=>by cases h))
def Agv:List A→Nat→Objs→Option A3:=Bg [] 0 ZR ZP WR
theorem Avw:Fi Try.prog 141 Agv:=Aq (ks:=[]) A1g
noncomputable def Bq3:=A4 141 Agv Bq2
theorem Bbb:Dd Try.prog Bq3:=Am Avw Bba
def Aks (a0:Int) (a1:Int) (a2:Int) (a3:TVec) (_a4:TWrite):A:=.agg [.v (.int .i64 a0),.v (.int .i64 a1),.v (.int .i64 a2),.v (.int .i64 a0),.v (.int .i64 a3.1),.v (.int .i64 a3.2),.sq 0]
def Akr (_a0:Int) (_a1:Int) (_a2:Int) (_a3:TVec) (a4:TWrite):Objs:=[(0,some (.arr 139 4 (.lst [[.v (.string a4.1),.v (.int .i64 a4.2),.v (.bool a4.3),.v (.string a4.4)]])))]
def Acj (_a0:Int) (_a1:Int) (_a2:Int) (_a3:TVec) (_a4:TWrite):List Prop:=[]
theorem Bhz (a0:Int) (a1:Int) (a2:Int) (a3:TVec) (a4:TWrite):Ff (As Bq3 L0) 9 140 [Af .i64 a0,Af .i64 a1,Af .i64 a2,Af .vec a3,Af .write a4] 0 []=some (1,Aks a0 a1 a2 a3 a4,1,Akr a0 a1 a2 a3 a4,Acj a0 a1 a2 a3 a4):=by kernel_rfl
theorem Bob (a0:Int) (a1:Int) (a2:Int) (a3:TVec) (a4:TWrite) (hp:∀p∈Acj a0 a1 a2 a3 a4,p):CallOk Try.prog 140 [Af .i64 a0,Af .i64 a1,Af .i64 a2,Af .vec a3,Af .write a4] 0 [] 1 (Aks a0 a1 a2 a3 a4) 1 (Akr a0 a1 a2 a3 a4):=Az (An Bbb Ay) (Bhz a0 a1 a2 a3 a4) hp
def A36:List A→Nat→Objs→Option A3:=Bg [.t .i64,.t .i64,.t .i64,.t .vec,.t .write] 1 Aks Akr Acj
theorem Bdg:Fi Try.prog 140 A36:=Aq (ks:=[.t .i64,.t .i64,.t .i64,.t .vec,.t .write]) Bob
noncomputable def Bq4:=A4 140 A36 Bq3
theorem Bbc:Dd Try.prog Bq4:=Am Bdg Bbb
def l13_lives_k0:List TChange:=[TChange.mk (1:Int) (1:Int) (TStamp.mk (1:Int) (1:Int)) (TVec.mk (1:Int) (0:Int)) [TWrite.mk (ByteArray.mk #[(107:UInt8)]) (0:Int) false (ByteArray.mk #[(120:UInt8)])],TChange.mk (2:Int) (1:Int) (TStamp.mk (1:Int) (2:Int)) (TVec.mk (0:Int) (1:Int)) [TWrite.mk (ByteArray.mk #[(107:UInt8)]) (0:Int) true (ByteArray.mk #[])]]
def An0:A:=.v (.bool (true))
def Anz:Objs:=[]
def A7i:List Prop:=[((2:Nat)≤(7000:Nat)∧∀(c:TChange),c∈(l13_lives_k0)→Ar c.5.length),((3:Nat)≤(7000:Nat)∧∀(c:TChange),c∈TChange.mk (1:Int) (2:Int) (TStamp.mk (2:Int) (1:Int)) (TVec.mk (2:Int) (0:Int)) [TWrite.mk (ByteArray.mk #[(107:UInt8)]) (0:Int) false (ByteArray.mk #[(121:UInt8)])]::(l13_lives_k0)→Ar c.5.length),(Ar (1:Nat))]
theorem A7h:Ff (As Bq4 L0) 9 81 [] 0 []=some (1,An0,0,Anz,[((2:Nat)≤(7000:Nat)∧∀(c:TChange),c∈(l13_lives_k0)→Ar c.5.length),((3:Nat)≤(7000:Nat)∧∀(c:TChange),c∈TChange.mk (1:Int) (2:Int) (TStamp.mk (2:Int) (1:Int)) (TVec.mk (2:Int) (0:Int)) [TWrite.mk (ByteArray.mk #[(107:UInt8)]) (0:Int) false (ByteArray.mk #[(121:UInt8)])]::(l13_lives_k0)→Ar c.5.length),(Ar (1:Nat)),(Ar (1:Nat)),(true=true→(0:Int)≤(0:Int)∧(0:Int) <(1:Int))]):=by kernel_rfl
theorem Bdf (hp:∀p∈A7i,p):CallOk Try.prog 81 [] 0 [] 1 (An0) 0 (Anz):=by
 have n0:=N0 hp
 have n1:=N0 (N1 hp)
 have n2:(Ar (1:Nat)):=N0 (N1 (N1 hp))
 have n4:(true=true→(0:Int)≤(0:Int)∧(0:Int) <(1:Int)):=by first|rfl|decide+kernel
 exact Az (An Bbc Ay) (A7h) (Aa n0 (Aa n1 (Aa n2 (Aa n2 (Aa n4 Ad)))))
def Ags:A:=.v (.bool true)
def Agr:Objs:=[]
def ZO:List Prop:=[]
theorem Bdp:∀c∈l13_lives_k0,Ar c.5.length:=fun c hc=>by
 have h:l13_lives_k0.all (fun c=>Nat.beq c.5.length 1)=true:=rfl
 have h2:c.5.length=1:=Nat.eq_of_beq_eq_true (List.all_eq_true.1 h c hc)
 unfold Ar
 omega
theorem A7g (_hp:∀p∈ZO,p):CallOk Try.prog 81 [] 0 [] 1 Ags 0 Agr:=
 Bdf (Aa ⟨by omega,Bdp⟩ (Aa ⟨by omega,fun c hc=>by
  rcases List.mem_cons.1 hc with rfl|hc
  ·show(1:Nat)≤9223372036854775807
   omega
  ·exact Bdp c hc⟩ (Aa (by unfold Ar;omega) Ad)))
def An1:List A→Nat→Objs→Option A3:=Bg [] 0 Ags Agr ZO
theorem A1f:Fi Try.prog 81 An1:=Aq (ks:=[]) A7g
noncomputable def Bys:=A4 81 An1 Bq4
theorem Bq5:Dd Try.prog Bys:=Am A1f Bbc
noncomputable def Cmv:=Bys
theorem Bz8:Dd Try.prog Cmv:=Bq5
end Go.Proofs.Yteebobbhhgmeiaa
namespace Go.Proofs.Yteebobbhhgmeiaa
open Go.RowKit
theorem Bxu (l:List TGroup) (cs:List TChange):stN l cs cs.length=stF (cs.map (MJ l)):=by
 rw[Bm9 l cs cs.length (Nat.le_refl _),List.take_length]
theorem Atl (l:List TGroup) (cs:List TChange):∀s∈cs.map (MJ l),Stt l (nb s):=fun s hs=>by
 obtain⟨c,_,rfl⟩:=List.mem_map.1 hs
 exact Ak6 l c
theorem Bm7 {l:List TGroup} {cs ds:List TChange}:stE l (cs++ds)=0↔stE l cs=0∧stE l ds=0:=by
 rw[Bf8,Bf8,Bf8]
 constructor
 ·exact fun⟨h1,h2⟩=>⟨⟨h1,fun c hc=>h2 c (List.mem_append.2 (.inl hc))⟩,⟨h1,fun c hc=>h2 c (List.mem_append.2 (.inr hc))⟩⟩
 ·exact fun⟨⟨h1,h2⟩,⟨_,h3⟩⟩=>⟨h1,fun c hc=>(List.mem_append.1 hc).elim (h2 c) (h3 c)⟩
theorem Bf9 {l:List TGroup} {cs:List TChange} (h:stE l cs=0):stR l cs=stF (cs.map (MJ l)):=by
 unfold stR
 rw[h,Bxu]
 rfl
theorem Bxv {l:List TGroup} {cs ds:List TChange} (h1:stE l cs=0) (h2:stE l ds=0):stR l (cs++ds)=mrg ((stR l cs).length+(stR l ds).length) (stR l cs) (stR l ds):=by
 rw[Bf9 (Bm7.2 ⟨h1,h2⟩),Bf9 h1,Bf9 h2,List.map_append]
 exact Bjx (Atl l cs) (Atl l ds) (Nat.le_refl _)
theorem Bt4 {l:List TGroup} {cs:List TChange} (hp:AR l=0):Gk l (stR l cs)=0:=(Bnb hp).2 (Ats l cs)
theorem Bxw (l:List TGroup) (cs:List TChange):(stR l cs).length≤8*cs.length:=by
 unfold stR
 cases stE l cs==0 with
 |true=>exact A9w l cs cs.length
 |false=>exact Nat.zero_le _
end Go.Proofs.Yteebobbhhgmeiaa
namespace Go.Proofs.Yteebobbhhgmeiaa
open Go.RowKit
theorem Bhc {P:Program} {f:FuncId} {args:List A} {k:Nat} {e:TypeId} {c:TC} {l:List (U c)} {x:A} (hx0:inA 0 l.length x=[]) (h:CallOk P f args 0 [] k x 1 [(0,some (.deep e c l))]):CallOk P f args 0 [] k ((Mk 0 true c l x).pk (fun _=>none)) 0 []:=fun F N R vs hh ha=>
 Calls.mono (P:=P) (h F N R vs hh ha) fun e0 R' ⟨y,F',N',e1,e2,e3,e4,e5⟩=>by
  have hob:=e2.ob 0 _ rfl
  obtain⟨hi,col,c',zs,h1,h2,h3,h4,h5⟩:=id hob
  have hn:∀i j,i <1→(fun _=>none:Nat→Option Nat) i=some j→j <0∧N'.b j=N'.b i∧N'.q j=N'.q i:=fun i j _ hj=>by cases hj
  have hF:∀g,F' g→(F' g∨foot N' 0 (.deep e c l) g):=fun g hg=> .inl hg
  have hw:Ext F' N' 1 R' (fun g=>F' g∨foot N' 0 (.deep e c l) g) N' 1 R':=Ext.wide hF
  have hin:∀k,k <l.length→∃l':List (U c'),(enc c (l.getD k (Ac c)))[col]?=some (.sl c' l')∧Hv (fun g=>F' g∨foot N' 0 (.deep e c l) g) N' 1 R' (.sl c' l') (Nr (N'.q 0) (k+1)):=fun k hk=>by
   obtain⟨l',e',us,k1,k2,k3⟩:=h4 k _ (getD_some hk)
   exact⟨l',k1,(OH k2 (fun j hj=>(k3 j hj).step hw) (fun g hg=> .inr ⟨k+1,by omega,hg⟩)).1⟩
  have hel:∀k,k <l.length→HL (fun g=>F' g∨foot N' 0 (.deep e c l) g) N' 1 R' (enc c (l.getD k (Ac c))) ((zs.drop (k*size c)).take (size c)):=fun k hk=>by
   obtain⟨l',k1,k2⟩:=hin k hk
   have hk3:=(h3 k (l.getD k (Ac c)) (getD_some hk)).step hw
   have go:∀(cs:List A) (vs:List Value),(∀(p:Nat) (c2:TC) (l2:List (U c2)),cs[p]?=some (.sl c2 l2)→Hv (fun g=>F' g∨foot N' 0 (.deep e c l) g) N' 1 R' (.sl c2 l2) (Nr (N'.q 0) (k+1)))→HL (fun g=>F' g∨foot N' 0 (.deep e c l) g) N' 1 R' (Nq 0 k cs) vs→HL (fun g=>F' g∨foot N' 0 (.deep e c l) g) N' 1 R' cs vs:=fun cs=>by
    induction cs with
    |nil=>intro vs _ hh;rw[hh.inv0];exact HL.nil
    | cons x r ih=>
     intro vs hc hh
     cases x
     case sl c2 l2=>
      obtain⟨w,ws,rfl,w1,w2⟩:=hh.inv
      rw[w1.iv_inv.2]
      exact HL.cons (hc 0 c2 l2 rfl) (ih ws (fun p c3 l3 hp=>hc (p+1) c3 l3 hp) w2)
     all_goals
      obtain⟨w,ws,rfl,w1,w2⟩:=hh.inv
      exact HL.cons w1 (ih ws (fun p c3 l3 hp=>hc (p+1) c3 l3 hp) w2)
   refine go _ _ (fun p c2 l2 hp=>?_) hk3
   obtain rfl:=Ab4 h1 _ p c2 l2 hp
   rw[k1] at hp
   cases hp
   exact k2
  have hrow:=(OH h2 hel (fun g hg=> .inr ⟨0,by omega,hg⟩)).1
  have q1:Hv (fun g=>F' g∨foot N' 0 (.deep e c l) g) N' 1 R' (Mk 0 true c l x) y:=Bhp (fun e=>by cases e) (fun e=>by cases e) (fun _=>hrow) (fun _ k hk=>by
   obtain⟨l',k1,k2⟩:=hin k hk
   unfold ivA Avg
   rw[h1]
   simp only
   rw[k1]
   exact k2) hF e4 (fun p hp=>by rw[hx0] at hp;cases hp)
  have q2:=Hv.pk (N':=N') (nx':=0) (ρ:=fun _=>none) hn q1
  refine⟨y,fun g=>F' g∨foot N' 0 (.deep e c l) g,N',e1,⟨fun g hg=>?_,fun i ob hi=>(by cases hi),fun i ob g hi=>(by cases hi),fun i j x y g hi=>(by cases hi)⟩,⟨Nat.le_refl _,fun i hi=>absurd hi (Nat.not_lt_zero _),fun i hi=>absurd hi (Nat.not_lt_zero _),fun g hg=> .inl (e3.f g hg),fun g hg=>?_,fun g ⟨i,ob,hi,_⟩=>(by cases hi),e3.os,e3.tape,e3.output,e3.size,e3.keep⟩,q2,e5⟩
  ·rcases hg with hg|hg
   ·exact e2.flt g hg
   ·exact hob.2.lt hg
  ·rcases hg with hg|hg
   ·exact e3.fnew g hg
   ·rcases e3.foot g ⟨0,_,rfl,hg⟩ with h|h
    ·exact .inr (.inl h)
    ·exact .inr (.inr h)
end Go.Proofs.Yteebobbhhgmeiaa
namespace Go.Proofs.Yteebobbhhgmeiaa
open Go.RowKit
def Av9 (a0:List TGroup) (a1:List TChange):A:=.tup [.sl .row (stR a0 a1),.v (.int .i64 (stE a0 a1))]
def Av8 (_a0:List TGroup) (_a1:List TChange):Objs:=[]
def An7 (_a0:List TGroup) (a1:List TChange):List Prop:=[a1.length≤7000∧∀c∈a1,Ar c.writes.length]
theorem Bh3 (a0:List TGroup) (a1:List TChange) (hp:∀p∈An7 a0 a1,p):CallOk Try.prog 82 [.sl .group a0,.sl .change a1] 0 [] 1 (Av9 a0 a1) 0 (Av8 a0 a1):=
 Bhc (c:=.row) rfl (Xa a0 a1 hp)
def A39:List A→Nat→Objs→Option A3:=Bg [.l .group,.l .change] 0 Av9 Av8 An7
theorem Bds:Fi Try.prog 82 A39:=Aq (ks:=[.l .group,.l .change]) Bh3
noncomputable def Byu:=A4 82 A39 Cmv
theorem Bq7:Dd Try.prog Byu:=Am Bds Bz8
noncomputable def Am0:=A4 45 WK Byu
theorem Aex:Dd Try.prog Am0:=Am ZN Bq7
abbrev Ba:Type:=(List TChange)×Int×Int×TChange
def HP (x:Ba):St:=⟨143,4,[(5,.own 0 0),(38,.sl .change x.1),(39,.v (.int .i64 x.2.1)),(40,.v (.int .i64 x.2.2.1))],[(0,some (.box 136 [.v (.int .i64 x.2.2.2.site),.v (.int .i64 x.2.2.2.seq),.v (.int .i64 x.2.2.2.stamp.n),.v (.int .i64 x.2.2.2.stamp.site),.v (.int .i64 x.2.2.2.vec.a),.v (.int .i64 x.2.2.2.vec.b),.sl .write x.2.2.2.writes]))]⟩
def Js:St→Option Ba
 |⟨143,4,[(5,.own 0 0),(38,.sl .change z0),(39,.v (.int .i64 z1)),(40,.v (.int .i64 z2))],[(0,some (.box 136 [.v (.int .i64 z3),.v (.int .i64 z4),.v (.int .i64 z5),.v (.int .i64 z6),.v (.int .i64 z7),.v (.int .i64 z8),.sl .write z9]))]⟩=>some (z0,z1,z2,⟨z3,z4,⟨z5,z6⟩,⟨z7,z8⟩,z9⟩)
 |_=>none
theorem T5:∀s x,Js s=some x→s=HP x:=fun s x h=>by
 unfold Js at h
 split at h
 ·cases h;rfl
 ·cases h
def N5:De:=⟨4,4,[5,38,39,40],[],[(0,0)],[0],[6],[0]⟩
def Ze:Dy:=⟨[],[(0,0)],[5,38,39,40],[0]⟩
def Bc (_a0:List TChange) (_a1:Int) (_a2:Int) (a3:TChange):Int:=IntKind.i64.wrap (a3.1 - (1:Int))
def BE (a0:List TChange) (a1:Int) (a2:Int) (a3:TChange):Bool:=!!decide (a2 <a1)&&(decide ((a0.getD a2.toNat (Ac TC.change)).4.1 >a3.4.1)||decide ((a0.getD a2.toNat (Ac TC.change)).4.2 >a3.4.2)||decide ((a0.getD a2.toNat (Ac TC.change)).3.1≥a3.3.1)||decide ((bif(Bc a0 a1 a2 a3).toNat.beq (0:Nat) then(a0.getD a2.toNat (Ac TC.change)).4.1 else(a0.getD a2.toNat (Ac TC.change)).4.2)≥a3.2))
def VI (a0:List TChange) (a1:Int) (a2:Int) (a3:TChange):Bool:=!!decide (a2 <a1)&&!(BE a0 a1 a2 a3)
def BX (x:Ba):Ba:=(x.1,x.2.1,IntKind.i64.wrap (x.2.2.1+(1:Int)),x.2.2.2)
def BW (x:Ba):Cnd:=some (VI x.1 x.2.1 x.2.2.1 x.2.2.2)
def L1 (x:Ba):List Prop:=[((!!decide (x.2.2.1 <x.2.1))=true→(0:Int)≤x.2.2.1∧x.2.2.1 <(↑x.1.length:Int)),((!!decide (x.2.2.1 <x.2.1))=true→(decide ((x.1.getD x.2.2.1.toNat (Ac TC.change)).4.1 >x.2.2.2.4.1)||decide ((x.1.getD x.2.2.1.toNat (Ac TC.change)).4.2 >x.2.2.2.4.2)||decide ((x.1.getD x.2.2.1.toNat (Ac TC.change)).3.1≥x.2.2.2.3.1))=false→(0:Int)≤(Bc x.1 x.2.1 x.2.2.1 x.2.2.2)∧(Bc x.1 x.2.1 x.2.2.1 x.2.2.2) <(2:Int)),((!!decide (x.2.2.1 <x.2.1))=true→(decide ((x.1.getD x.2.2.1.toNat (Ac TC.change)).4.1 >x.2.2.2.4.1)||decide ((x.1.getD x.2.2.1.toNat (Ac TC.change)).4.2 >x.2.2.2.4.2)||decide ((x.1.getD x.2.2.1.toNat (Ac TC.change)).3.1≥x.2.2.2.3.1))=false→(Bc x.1 x.2.1 x.2.2.1 x.2.2.2).toNat <(2:Nat))]
def DQ (x:Ba):List Prop:=[((!!decide (x.2.2.1 <x.2.1))=true→(0:Int)≤x.2.2.1∧x.2.2.1 <(↑x.1.length:Int)),((!!decide (x.2.2.1 <x.2.1))=true→(decide ((x.1.getD x.2.2.1.toNat (Ac TC.change)).4.1 >x.2.2.2.4.1)||decide ((x.1.getD x.2.2.1.toNat (Ac TC.change)).4.2 >x.2.2.2.4.2)||decide ((x.1.getD x.2.2.1.toNat (Ac TC.change)).3.1≥x.2.2.2.3.1))=false→(0:Int)≤(Bc x.1 x.2.1 x.2.2.1 x.2.2.2)∧(Bc x.1 x.2.1 x.2.2.1 x.2.2.2) <(2:Int))]
def Lx (x:Ba):Bj:=[(some 0,some (!decide (x.2.2.1 <x.2.1)),⟨143,4,[(6,.dead)],[(0,some (.box 136 [.v (.int .i64 x.2.2.2.1),.v (.int .i64 x.2.2.2.2),.v (.int .i64 x.2.2.2.3.1),.v (.int .i64 x.2.2.2.3.2),.v (.int .i64 x.2.2.2.4.1),.v (.int .i64 x.2.2.2.4.2),.sl .write x.2.2.2.5]))]⟩),(none,some ((BE x.1 x.2.1 x.2.2.1 x.2.2.2)),⟨143,5,[(6,.v (.bool (true)))],[(0,some (.box 136 [.v (.int .i64 x.2.2.2.1),.v (.int .i64 x.2.2.2.2),.v (.int .i64 x.2.2.2.3.1),.v (.int .i64 x.2.2.2.3.2),.v (.int .i64 x.2.2.2.4.1),.v (.int .i64 x.2.2.2.4.2),.sl .write x.2.2.2.5]))]⟩)]
def Da (x:Ba):Nat:=(x.2.1 - x.2.2.1).toNat
def AH (x:Ba):Ba:=A9 BX BW (Da x) x
theorem WL (a0:List TChange) (a1:Int) (a2:Int) (a3:TChange):Bw (As Am0 L0) 9 (Ae Try.prog 20 0) N5 (HP (a0,a1,a2,a3))=some (L1 (a0,a1,a2,a3),Lx (a0,a1,a2,a3),BW (a0,a1,a2,a3),HP (BX (a0,a1,a2,a3))):=by kernel_rfl
theorem WM (a0:List TChange) (a1:Int) (a2:Int) (a3:TChange) (hp:∀p∈DQ (a0,a1,a2,a3),p):∀p∈L1 (a0,a1,a2,a3),p:=by
 have n0:=N0 hp
 have n1:((!!decide (a2 <a1))=true→(decide ((a0.getD a2.toNat (Ac TC.change)).4.1 >a3.4.1)||decide ((a0.getD a2.toNat (Ac TC.change)).4.2 >a3.4.2)||decide ((a0.getD a2.toNat (Ac TC.change)).3.1≥a3.3.1))=false→(0:Int)≤(Bc a0 a1 a2 a3)∧(Bc a0 a1 a2 a3) <(2:Int)):=N0 (N1 hp)
 have n2:((!!decide (a2 <a1))=true→(decide ((a0.getD a2.toNat (Ac TC.change)).4.1 >a3.4.1)||decide ((a0.getD a2.toNat (Ac TC.change)).4.2 >a3.4.2)||decide ((a0.getD a2.toNat (Ac TC.change)).3.1≥a3.3.1))=false→(Bc a0 a1 a2 a3).toNat <(2:Nat)):=by intro h0 h1;have g:=n1 h0 h1;omega
 exact(Aa n0 (Aa n1 (Aa n2 Ad)))
noncomputable def L2:=HG (As Am0 L0) (Ae Try.prog 20 0) N5 Ze Js Da BX BW DQ Lx
theorem VJ:∀s b ps outs,L2 s=some (b,ps,outs)→Wf s ⟨ps,outs,none⟩∧Bt (As C0 L0) b s ps outs:=
 Bh (T:=HP) Aex Ay (u:=9) (by kernel_rfl) (by decide) (fun⟨a0,a1,a2,a3⟩=>WL a0 a1 a2 a3) (fun⟨a0,a1,a2,a3⟩=>WM a0 a1 a2 a3) T5 (fun _=>AK (n:=143) rfl) fun _ _=>rfl
noncomputable def HO:=DI 0 L2 L0
theorem LZ:G9 HO:=AV VJ Ay
abbrev Bb:Type:=Bool×ByteArray×(List TField)×Int×Int×TWrite
def HT (x:Bb):St:=⟨143,9,[(12,.own 7 0),(15,.v (.bool x.1)),(16,.v (.string x.2.1)),(117,.sl .field x.2.2.1),(118,.v (.int .i64 x.2.2.2.1)),(119,.v (.int .i64 x.2.2.2.2.1))],[(7,some (.box 139 [.v (.string x.2.2.2.2.2.key),.v (.int .i64 x.2.2.2.2.2.group),.v (.bool x.2.2.2.2.2.gone),.v (.string x.2.2.2.2.2.value)]))]⟩
def Ju:St→Option Bb
 |⟨143,9,[(12,.own 7 0),(15,.v (.bool z0)),(16,.v (.string z1)),(117,.sl .field z2),(118,.v (.int .i64 z3)),(119,.v (.int .i64 z4))],[(7,some (.box 139 [.v (.string z5),.v (.int .i64 z6),.v (.bool z7),.v (.string z8)]))]⟩=>some (z0,z1,z2,z3,z4,⟨z5,z6,z7,z8⟩)
 |_=>none
theorem T7:∀s x,Ju s=some x→s=HT x:=fun s x h=>by
 unfold Ju at h
 split at h
 ·cases h;rfl
 ·cases h
def N8:De:=⟨9,9,[12,15,16,117,118,119],[],[(7,7)],[7],[15,16],[7]⟩
def Zg:Dy:=⟨[],[(7,7)],[12,15,16,117,118,119],[7]⟩
def I7 (a0:Bool) (_a1:ByteArray) (a2:List TField) (_a3:Int) (a4:Int) (a5:TWrite):Bool:=bif(a2.getD a4.toNat (Ac TC.field)).1==a5.2 then true else a0
def I8 (_a0:Bool) (a1:ByteArray) (a2:List TField) (_a3:Int) (a4:Int) (a5:TWrite):ByteArray:=bif(a2.getD a4.toNat (Ac TC.field)).1==a5.2 then(a2.getD a4.toNat (Ac TC.field)).2 else a1
def B8 (x:Bb):Bb:=(I7 x.1 x.2.1 x.2.2.1 x.2.2.2.1 x.2.2.2.2.1 x.2.2.2.2.2,I8 x.1 x.2.1 x.2.2.1 x.2.2.2.1 x.2.2.2.2.1 x.2.2.2.2.2,x.2.2.1,x.2.2.2.1,IntKind.i64.wrap (x.2.2.2.2.1+(1:Int)),x.2.2.2.2.2)
def B5 (x:Bb):Cnd:=some (!!decide (x.2.2.2.2.1 <x.2.2.2.1))
def I9 (x:Bb):List Prop:=[((!!decide (x.2.2.2.2.1 <x.2.2.2.1))=true→(0:Int)≤x.2.2.2.2.1∧x.2.2.2.2.1 <(↑x.2.2.1.length:Int))]
abbrev DS:Bb→List Prop:=I9
def Lz (x:Bb):Bj:=[(some 4,some (!decide (x.2.2.2.2.1 <x.2.2.2.1)),⟨143,9,[(15,.v (.bool x.1)),(16,.v (.string x.2.1))],[(7,some (.box 139 [.v (.string x.2.2.2.2.2.1),.v (.int .i64 x.2.2.2.2.2.2),.v (.bool x.2.2.2.2.2.3),.v (.string x.2.2.2.2.2.4)]))]⟩)]
def Dc (x:Bb):Nat:=(x.2.2.2.1 - x.2.2.2.2.1).toNat
def Dx (x:Bb):Bb:=A9 B8 B5 (Dc x) x
theorem WP (a0:Bool) (a1:ByteArray) (a2:List TField) (a3:Int) (a4:Int) (a5:TWrite):Bw (As Am0 HO) 9 (Ae Try.prog 20 4) N8 (HT (a0,a1,a2,a3,a4,a5))=some (I9 (a0,a1,a2,a3,a4,a5),Lz (a0,a1,a2,a3,a4,a5),B5 (a0,a1,a2,a3,a4,a5),HT (B8 (a0,a1,a2,a3,a4,a5))):=by kernel_rfl
theorem WQ (a0:Bool) (a1:ByteArray) (a2:List TField) (a3:Int) (a4:Int) (a5:TWrite) (hp:∀p∈DS (a0,a1,a2,a3,a4,a5),p):∀p∈I9 (a0,a1,a2,a3,a4,a5),p:=hp
noncomputable def L7:=HG (As Am0 HO) (Ae Try.prog 20 4) N8 Zg Ju Dc B8 B5 DS Lz
theorem VN:∀s b ps outs,L7 s=some (b,ps,outs)→Wf s ⟨ps,outs,none⟩∧Bt (As C0 L0) b s ps outs:=
 Bh (T:=HT) Aex LZ (u:=9) (by kernel_rfl) (by decide) (fun⟨a0,a1,a2,a3,a4,a5⟩=>WP a0 a1 a2 a3 a4 a5) (fun⟨a0,a1,a2,a3,a4,a5⟩=>WQ a0 a1 a2 a3 a4 a5) T7 (fun _=>AK (n:=143) rfl) fun _ _=>rfl
noncomputable def HR:=DI 4 L7 HO
theorem L6:G9 HR:=AV VN LZ
abbrev A5:Type:=(List TGroup)×(List TRow)×(List TWrite)×Int×Int
def HQ (x:A5):St:=⟨143,7,[(0,.sl .group x.1),(9,.sl .row x.2.1),(102,.sl .write x.2.2.1),(103,.v (.int .i64 x.2.2.2.1)),(104,.v (.int .i64 x.2.2.2.2))],[]⟩
def Jt:St→Option A5
 |⟨143,7,[(0,.sl .group z0),(9,.sl .row z1),(102,.sl .write z2),(103,.v (.int .i64 z3)),(104,.v (.int .i64 z4))],[]⟩=>some (z0,z1,z2,z3,z4)
 |_=>none
theorem T6:∀s x,Jt s=some x→s=HQ x:=fun s x h=>by
 unfold Jt at h
 split at h
 ·cases h;rfl
 ·cases h
def N7:De:=⟨7,7,[0,9,102,103,104],[],[],[],[6],[]⟩
def Zf:Dy:=⟨[],[],[0,9,102,103,104],[]⟩
def Bk (a0:List TGroup) (a1:List TRow) (a2:List TWrite) (a3:Int) (a4:Int):Bool:=!!decide (a4 <a3)&&((Dx (false,ByteArray.mk #[],(KS a0 a1 (a2.getD a4.toNat (Ac TC.write)).1).2,(↑(KS a0 a1 (a2.getD a4.toNat (Ac TC.write)).1).2.length:Int),(0:Int),a2.getD a4.toNat (Ac TC.write))).fst==(Dx (false,ByteArray.mk #[],(KS a0 a1 (a2.getD a4.toNat (Ac TC.write)).1).2,(↑(KS a0 a1 (a2.getD a4.toNat (Ac TC.write)).1).2.length:Int),(0:Int),a2.getD a4.toNat (Ac TC.write))).snd.snd.snd.snd.snd.3||!(Dx (false,ByteArray.mk #[],(KS a0 a1 (a2.getD a4.toNat (Ac TC.write)).1).2,(↑(KS a0 a1 (a2.getD a4.toNat (Ac TC.write)).1).2.length:Int),(0:Int),a2.getD a4.toNat (Ac TC.write))).snd.fst.toList==(Dx (false,ByteArray.mk #[],(KS a0 a1 (a2.getD a4.toNat (Ac TC.write)).1).2,(↑(KS a0 a1 (a2.getD a4.toNat (Ac TC.write)).1).2.length:Int),(0:Int),a2.getD a4.toNat (Ac TC.write))).snd.snd.snd.snd.snd.4.toList)
def VL (a0:List TGroup) (a1:List TRow) (a2:List TWrite) (a3:Int) (a4:Int):Bool:=!!decide (a4 <a3)&&!(Bk a0 a1 a2 a3 a4)
def BZ (x:A5):A5:=(x.1,x.2.1,x.2.2.1,x.2.2.2.1,IntKind.i64.wrap (x.2.2.2.2+(1:Int)))
def BY (x:A5):Cnd:=some (VL x.1 x.2.1 x.2.2.1 x.2.2.2.1 x.2.2.2.2)
def L3 (x:A5):List Prop:=[((!!decide (x.2.2.2.2 <x.2.2.2.1))=true→(0:Int)≤x.2.2.2.2∧x.2.2.2.2 <(↑x.2.2.1.length:Int)),((!!decide (x.2.2.2.2 <x.2.2.2.1))=true→Ar x.2.1.length),((!!decide (x.2.2.2.2 <x.2.2.2.1))=true→Ae Try.prog (20:FuncId) (4:Nat)=Ae Try.prog (20:FuncId) (4:Nat)),((!!decide (x.2.2.2.2 <x.2.2.2.1))=true→AD B8 B5 DS (Dc (false,ByteArray.mk #[],(KS x.1 x.2.1 (x.2.2.1.getD x.2.2.2.2.toNat (Ac TC.write)).1).2,(↑(KS x.1 x.2.1 (x.2.2.1.getD x.2.2.2.2.toNat (Ac TC.write)).1).2.length:Int),(0:Int),x.2.2.1.getD x.2.2.2.2.toNat (Ac TC.write))) (false,ByteArray.mk #[],(KS x.1 x.2.1 (x.2.2.1.getD x.2.2.2.2.toNat (Ac TC.write)).1).2,(↑(KS x.1 x.2.1 (x.2.2.1.getD x.2.2.2.2.toNat (Ac TC.write)).1).2.length:Int),(0:Int),x.2.2.1.getD x.2.2.2.2.toNat (Ac TC.write)))]
def DR (x:A5):List Prop:=[((!!decide (x.2.2.2.2 <x.2.2.2.1))=true→(0:Int)≤x.2.2.2.2∧x.2.2.2.2 <(↑x.2.2.1.length:Int)),((!!decide (x.2.2.2.2 <x.2.2.2.1))=true→Ar x.2.1.length),((!!decide (x.2.2.2.2 <x.2.2.2.1))=true→AD B8 B5 DS (Dc (false,ByteArray.mk #[],(KS x.1 x.2.1 (x.2.2.1.getD x.2.2.2.2.toNat (Ac TC.write)).1).2,(↑(KS x.1 x.2.1 (x.2.2.1.getD x.2.2.2.2.toNat (Ac TC.write)).1).2.length:Int),(0:Int),x.2.2.1.getD x.2.2.2.2.toNat (Ac TC.write))) (false,ByteArray.mk #[],(KS x.1 x.2.1 (x.2.2.1.getD x.2.2.2.2.toNat (Ac TC.write)).1).2,(↑(KS x.1 x.2.1 (x.2.2.1.getD x.2.2.2.2.toNat (Ac TC.write)).1).2.length:Int),(0:Int),x.2.2.1.getD x.2.2.2.2.toNat (Ac TC.write)))]
def Ly (x:A5):Bj:=[(some 2,some (!decide (x.2.2.2.2 <x.2.2.2.1)),⟨143,7,[(6,.dead)],[]⟩),(none,some ((Bk x.1 x.2.1 x.2.2.1 x.2.2.2.1 x.2.2.2.2)),⟨143,9,[(6,.v (.bool (false)))],[]⟩)]
def Db (x:A5):Nat:=(x.2.2.2.1 - x.2.2.2.2).toNat
def L5 (x:A5):A5:=A9 BZ BY (Db x) x
theorem WN (a0:List TGroup) (a1:List TRow) (a2:List TWrite) (a3:Int) (a4:Int):Bw (As Am0 HR) 9 (Ae Try.prog 20 2) N7 (HQ (a0,a1,a2,a3,a4))=some (L3 (a0,a1,a2,a3,a4),Ly (a0,a1,a2,a3,a4),BY (a0,a1,a2,a3,a4),HQ (BZ (a0,a1,a2,a3,a4))):=by kernel_rfl
theorem WO (a0:List TGroup) (a1:List TRow) (a2:List TWrite) (a3:Int) (a4:Int) (hp:∀p∈DR (a0,a1,a2,a3,a4),p):∀p∈L3 (a0,a1,a2,a3,a4),p:=by
 have n0:=N0 hp
 have n1:=N0 (N1 hp)
 have n2:((!!decide (a4 <a3))=true→Ae Try.prog (20:FuncId) (4:Nat)=Ae Try.prog (20:FuncId) (4:Nat)):=by intros;rfl
 have n3:=N0 (N1 (N1 hp))
 exact(Aa n0 (Aa n1 (Aa n2 (Aa n3 Ad))))
noncomputable def L4:=HG (As Am0 HR) (Ae Try.prog 20 2) N7 Zf Jt Db BZ BY DR Ly
theorem VM:∀s b ps outs,L4 s=some (b,ps,outs)→Wf s ⟨ps,outs,none⟩∧Bt (As C0 L0) b s ps outs:=
 Bh (T:=HQ) Aex L6 (u:=9) (by kernel_rfl) (by decide) (fun⟨a0,a1,a2,a3,a4⟩=>WN a0 a1 a2 a3 a4) (fun⟨a0,a1,a2,a3,a4⟩=>WO a0 a1 a2 a3 a4) T6 (fun _=>AK (n:=143) rfl) fun _ _=>rfl
noncomputable def N6:=DI 2 L4 HR
theorem VK:G9 N6:=AV VM L6
def AC (_a0:List TGroup) (_a1:List TChange) (a2:TChange):Bool:=decide (a2.1 <(1:Int))||decide (a2.1 >(2:Int))
def Ej (_a0:List TGroup) (a1:List TChange) (a2:TChange):List TChange:=[]++a1++[a2]
def AF (a0:List TGroup) (a1:List TChange) (a2:TChange):Bool:=!Nb a0 (Ej a0 a1 a2) []
def BQ (_a0:List TGroup) (a1:List TChange) (a2:TChange):List TChange:=[]++a1++[(AH (a1,(↑a1.length:Int),(0:Int),a2)).snd.snd.snd]
def AT (a0:List TGroup) (a1:List TChange) (a2:TChange):List TRow:=stR a0 (BQ a0 a1 a2)
def CO (a0:List TGroup) (a1:List TChange) (a2:TChange):Bool:=stE a0 (BQ a0 a1 a2) !=(0:Int)
def Ei (a0:List TGroup) (a1:List TChange) (a2:TChange):A5:=L5 (a0,(AT a0 a1 a2),(AH (a1,(↑a1.length:Int),(0:Int),a2)).snd.snd.snd.5,(↑(AH (a1,(↑a1.length:Int),(0:Int),a2)).snd.snd.snd.5.length:Int),(0:Int))
def AZ (_a0:List TGroup) (a1:List TChange) (a2:TChange):Bool:=BE (AH (a1,(↑a1.length:Int),(0:Int),a2)).fst (AH (a1,(↑a1.length:Int),(0:Int),a2)).snd.fst (AH (a1,(↑a1.length:Int),(0:Int),a2)).snd.snd.fst (AH (a1,(↑a1.length:Int),(0:Int),a2)).snd.snd.snd
def JU (a0:List TGroup) (a1:List TChange) (a2:TChange):Bool:=bif(AF a0 a1 a2) then true else bif(AC a0 a1 a2) then true else bif(AZ a0 a1 a2) then true else bif(CO a0 a1 a2) then bif(↑(AT a0 a1 a2).length:Int)==(0:Int) then true else false else bif Bk (Ei a0 a1 a2).fst (Ei a0 a1 a2).snd.fst (Ei a0 a1 a2).snd.snd.fst (Ei a0 a1 a2).snd.snd.snd.fst (Ei a0 a1 a2).snd.snd.snd.snd then false else true
def Ms (a0:List TGroup) (a1:List TChange) (a2:TChange):A:=.v (.bool (JU a0 a1 a2))
def SU (_a0:List TGroup) (_a1:List TChange) (_a2:TChange):Objs:=[]
def QE (a0:List TGroup) (a1:List TChange) (a2:TChange):List Prop:=[(Ag ((0:Nat)+a1.length)),(Ag (([]++a1).length+(1:Nat))),(Ar a0.length∧(Ar (Ej a0 a1 a2).length∧∀(c:TChange),c∈(Ej a0 a1 a2)→Qa c)∧Ar (0:Nat)∧∀(x:List TRow),x∈[]→Ar x.length∧∀(r:TRow),r∈x→Yy r),((!(AF a0 a1 a2))=true→(!(AC a0 a1 a2))=true→AD BX BW DQ (Da (a1,(↑a1.length:Int),(0:Int),a2)) (a1,(↑a1.length:Int),(0:Int),a2)),((!(AF a0 a1 a2))=true→(!(AC a0 a1 a2))=true→(!(AZ a0 a1 a2))=true→Ag ((0:Nat)+a1.length)),((!(AF a0 a1 a2))=true→(!(AC a0 a1 a2))=true→(!(AZ a0 a1 a2))=true→Ag (([]++a1).length+(1:Nat))),((!(AF a0 a1 a2))=true→(!(AC a0 a1 a2))=true→(!(AZ a0 a1 a2))=true→(BQ a0 a1 a2).length≤(7000:Nat)∧∀(c:TChange),c∈(BQ a0 a1 a2)→Ar c.5.length),((!(AF a0 a1 a2))=true→(!(AC a0 a1 a2))=true→(!(AZ a0 a1 a2))=true→(!(CO a0 a1 a2))=true→AD BZ BY DR (Db (a0,(AT a0 a1 a2),(AH (a1,(↑a1.length:Int),(0:Int),a2)).snd.snd.snd.5,(↑(AH (a1,(↑a1.length:Int),(0:Int),a2)).snd.snd.snd.5.length:Int),(0:Int))) (a0,(AT a0 a1 a2),(AH (a1,(↑a1.length:Int),(0:Int),a2)).snd.snd.snd.5,(↑(AH (a1,(↑a1.length:Int),(0:Int),a2)).snd.snd.snd.5.length:Int),(0:Int)))]
theorem Agq (a0:List TGroup) (a1:List TChange) (a2:TChange):Ff (As Am0 N6) 9 20 [.sl .group a0,.sl .change a1,Af .change a2] 0 []=some (1,Ms a0 a1 a2,0,SU a0 a1 a2,[(Ag ((0:Nat)+a1.length)),(Ag (([]++a1).length+(1:Nat))),(Ar a0.length∧(Ar (Ej a0 a1 a2).length∧∀(c:TChange),c∈(Ej a0 a1 a2)→Qa c)∧Ar (0:Nat)∧∀(x:List TRow),x∈[]→Ar x.length∧∀(r:TRow),r∈x→Yy r),((!(AF a0 a1 a2))=true→(!(AC a0 a1 a2))=true→Ae Try.prog (20:FuncId) (0:Nat)=Ae Try.prog (20:FuncId) (0:Nat)),((!(AF a0 a1 a2))=true→(!(AC a0 a1 a2))=true→AD BX BW DQ (Da (a1,(↑a1.length:Int),(0:Int),a2)) (a1,(↑a1.length:Int),(0:Int),a2)),((!(AF a0 a1 a2))=true→(!(AC a0 a1 a2))=true→(!(AZ a0 a1 a2))=true→Ag ((0:Nat)+a1.length)),((!(AF a0 a1 a2))=true→(!(AC a0 a1 a2))=true→(!(AZ a0 a1 a2))=true→Ag (([]++a1).length+(1:Nat))),((!(AF a0 a1 a2))=true→(!(AC a0 a1 a2))=true→(!(AZ a0 a1 a2))=true→(BQ a0 a1 a2).length≤(7000:Nat)∧∀(c:TChange),c∈(BQ a0 a1 a2)→Ar c.5.length),((!(AF a0 a1 a2))=true→(!(AC a0 a1 a2))=true→(!(AZ a0 a1 a2))=true→(CO a0 a1 a2)=true→false=false),((!(AF a0 a1 a2))=true→(!(AC a0 a1 a2))=true→(!(AZ a0 a1 a2))=true→(!(CO a0 a1 a2))=true→Ae Try.prog (20:FuncId) (2:Nat)=Ae Try.prog (20:FuncId) (2:Nat)),((!(AF a0 a1 a2))=true→(!(AC a0 a1 a2))=true→(!(AZ a0 a1 a2))=true→(!(CO a0 a1 a2))=true→AD BZ BY DR (Db (a0,(AT a0 a1 a2),(AH (a1,(↑a1.length:Int),(0:Int),a2)).snd.snd.snd.5,(↑(AH (a1,(↑a1.length:Int),(0:Int),a2)).snd.snd.snd.5.length:Int),(0:Int))) (a0,(AT a0 a1 a2),(AH (a1,(↑a1.length:Int),(0:Int),a2)).snd.snd.snd.5,(↑(AH (a1,(↑a1.length:Int),(0:Int),a2)).snd.snd.snd.5.length:Int),(0:Int)))]):=by kernel_rfl
theorem Akq (a0:List TGroup) (a1:List TChange) (a2:TChange) (hp:∀p∈QE a0 a1 a2,p):CallOk Try.prog 20 [.sl .group a0,.sl .change a1,Af .change a2] 0 [] 1 (Ms a0 a1 a2) 0 (SU a0 a1 a2):=by
 have n0:=N0 hp
 have n1:=N0 (N1 hp)
 have n2:=N0 (N1 (N1 hp))
 have n3:((!(AF a0 a1 a2))=true→(!(AC a0 a1 a2))=true→Ae Try.prog (20:FuncId) (0:Nat)=Ae Try.prog (20:FuncId) (0:Nat)):=by intros;rfl
 have n4:=N0 (N1 (N1 (N1 hp)))
 have n5:=N0 (N1 (N1 (N1 (N1 hp))))
 have n6:=N0 (N1 (N1 (N1 (N1 (N1 hp)))))
 have n7:=N0 (N1 (N1 (N1 (N1 (N1 (N1 hp))))))
 have n8:((!(AF a0 a1 a2))=true→(!(AC a0 a1 a2))=true→(!(AZ a0 a1 a2))=true→(CO a0 a1 a2)=true→false=false):=by intros;rfl
 have n9:((!(AF a0 a1 a2))=true→(!(AC a0 a1 a2))=true→(!(AZ a0 a1 a2))=true→(!(CO a0 a1 a2))=true→Ae Try.prog (20:FuncId) (2:Nat)=Ae Try.prog (20:FuncId) (2:Nat)):=by intros;rfl
 have n10:=N0 (N1 (N1 (N1 (N1 (N1 (N1 (N1 hp)))))))
 exact Az (An Aex VK) (Agq a0 a1 a2) (Aa n0 (Aa n1 (Aa n2 (Aa n3 (Aa n4 (Aa n5 (Aa n6 (Aa n7 (Aa n8 (Aa n9 (Aa n10 Ad)))))))))))
end Go.Proofs.Yteebobbhhgmeiaa
namespace Go.Proofs.Yteebobbhhgmeiaa
open Go.RowKit
theorem Bh2 (a:ByteArray):Jd a a=false:=On _
def sv (la:TChange) (v:TVec):Int:=bif la.site==1 then v.a else v.b
structure Bef (la:TChange) (x:TCell):Prop where
 n:x.stamp.n <la.stamp.n
 da:x.dead.a≤la.vec.a
 db:x.dead.b≤la.vec.b
 vs:sv la x.vec <la.seq
structure Bgo (la c:TChange):Prop where
 va:c.vec.a≤la.vec.a
 vb:c.vec.b≤la.vec.b
 n:c.stamp.n <la.stamp.n
 vs:sv la c.vec <la.seq
section
variable {l:List TGroup} {la:TChange}
theorem At9 (h:Di la=true):Bef la zeroC:=by
 obtain⟨_,h2,_,_,_,h6⟩:=Ml h
 obtain⟨v1,_,v3,_⟩:=YM.1 h6
 have hs:sv la zeroC.vec=0:=by unfold sv;cases la.site==1<;>rfl
 exact⟨Avf h,v1,v3,by rw[hs];omega⟩
theorem Bvz (h:Di la=true) {a b:TCell} (ha:Bef la a) (hb:Bef la b):Bef la (HI a b):=by
 obtain⟨_,_,_,_,_,h6⟩:=Ml h
 obtain⟨v1,_,v3,_⟩:=YM.1 h6
 have h1:Bef la (F8 a b):=by rcases Gw a b with⟨_,e⟩|⟨_,e⟩<;>rw[e]<;>assumption
 refine⟨h1.n,?_,?_,h1.vs⟩
 ·show max (max 0 a.dead.a) b.dead.a≤la.vec.a
  have:=ha.da
  have:=hb.da
  omega
 ·show max (max 0 a.dead.b) b.dead.b≤la.vec.b
  have:=ha.db
  have:=hb.db
  omega
theorem Bnl (h:Di la=true) {c:TChange} (hc:Bgo la c) (w:TWrite):Bef la (Dz l c w):=by
 have z:=At9 h
 unfold Dz ofC
 cases LW l w.group.toNat==2&&w.gone with
 |true=>exact⟨z.n,hc.va,hc.vb,z.vs⟩
 |false=>exact⟨hc.n,z.da,z.db,hc.vs⟩
def OfW (l:List TGroup) (c:TChange) (o:List TRow):Prop:=∀r∈o,∀x∈r.cells,x=zeroC∨∃w,x=Dz l c w
theorem Bs8 {c:TChange} {o:List TRow} (h:OfW l c o):∀x∈(ZS o).cells,x=zeroC∨∃w,x=Dz l c w:=fun x hx=>by
 by_cases hn:o.length - 1 <o.length
 ·exact h _ (getD_in o (Ac TC.row) (o.length - 1) hn) x hx
 ·have:o=[]:=List.eq_nil_of_length_eq_zero (by omega)
  subst this
  cases hx
theorem Bs9 {c:TChange} {o:List TRow} (h:OfW l c o) (w:TWrite):OfW l c (L8 l c o w):=by
 have h1:OfW l c (IH l o w.key):=by
  unfold IH
  cases(o.length==0)||!((ZS o).key==w.key) with
  |false=>exact h
  | true=>
   intro r hr x hx
   rcases List.mem_append.1 hr with hr|hr
   ·exact h r hr x hx
   ·rw[List.mem_singleton.1 hr] at hx
    exact .inl (List.eq_of_mem_replicate hx)
 intro r hr x hx
 unfold L8 A14 at hr
 rcases List.mem_or_eq_of_mem_set hr with hr|rfl
 ·exact h1 r hr x hx
 ·rcases List.mem_or_eq_of_mem_set hx with hx|rfl
  ·exact Bs8 h1 x hx
  ·exact .inr ⟨w,rfl⟩
theorem Bmr (c:TChange):∀i,OfW l c (Sc l c i)
 |0=>fun r hr=>by cases hr
 |i+1=>Bs9 (Bmr c i) _
theorem Bw2 (c:TChange):OfW l c (MJ l c):=by
 unfold MJ
 cases No l c==0 with
 |false=>exact fun r hr=>by cases hr
 |true=>exact Bmr c _
def Bag (l:List TGroup) (la:TChange) (k:ByteArray):Option TRow→Prop
 |none=>True
 |some r=>Ai l r=0∧r.key=k∧∀i,i <l.length→Bef la (Cm r.cells i)
theorem Bnk (h:Di la=true) {k:ByteArray} {x y:Option TRow} (hx:Bag l la k x) (hy:Bag l la k y):Bag l la k (Xu x y):=by
 cases x with
 |none=>exact hy
 | some r=>
  cases y with
  |none=>exact hx
  |some s=>
   refine⟨Pa hx.1 hy.1,hx.2.1,fun i hi=>?_⟩
   rw[Wp hx.1 hy.1 hi]
   exact Bvz h (hx.2.2 i hi) (hy.2.2 i hi)
theorem Bbr (h:Di la=true) {k:ByteArray}:∀{xs:List (Option TRow)} {z:Option TRow},Bag l la k z→(∀x∈xs,Bag l la k x)→Bag l la k (Aqr z xs)
 | [],_,hz,_=>hz
 |x::xs,_,hz,hx=>Bbr h (xs:=xs) (Bnk h hz (hx x (List.mem_cons_self ..))) fun y hy=>hx y (List.mem_cons_of_mem _ hy)
theorem Bbs (h:Di la=true) {c:TChange} (hc:Bgo la c) (k:ByteArray):Bag l la k (M4 (nb (MJ l c)) k):=by
 cases hr:M4 (nb (MJ l c)) k with
 |none=>trivial
 |some r=>
  obtain⟨g1,_⟩:=At7 (Ak6 l c) hr
  refine⟨g1,A56 hr,fun i hi=>?_⟩
  have hl:=(AJ g1).2.1
  have hm:Cm r.cells i∈r.cells:=getD_in r.cells (Ac TC.cell) i (by omega)
  have hin:r∈MJ l c:=(List.mem_filter.1 (A57 hr)).1
  rcases Bw2 (l:=l) c r hin _ hm with e|⟨w,e⟩
  ·rw[e];exact At9 h
  ·rw[e];exact Bnl h hc w
theorem Bg0 (h:Di la=true) {cs:List TChange} (hc:∀c∈cs,Bgo la c) (he:stE l cs=0) (k:ByteArray):Bag l la k (M4 (stR l cs) k):=by
 rw[Bf9 he,A0e (Atl l cs)]
 refine Bbr h trivial fun x hx=>?_
 obtain⟨s,hs,rfl⟩:=List.mem_map.1 hx
 obtain⟨c,h1,rfl⟩:=List.mem_map.1 hs
 exact Bbs h (hc c h1) k
theorem Bbg {a b c:TWrite} (h1:J8 a b=true) (h2:J8 b c=true):J8 a c=true:=by
 unfold J8 at*
 rw[Bool.or_eq_true] at*
 rcases h1 with h1|h1
 ·rcases h2 with h2|h2
  ·exact .inl (KY h1 h2)
  ·have:=eq_of_beq (Bool.and_eq_true_iff.1 h2).1
   rw[this] at h1
   exact .inl h1
 ·have e1:=eq_of_beq (Bool.and_eq_true_iff.1 h1).1
  rcases h2 with h2|h2
  ·rw[←e1] at h2
   exact .inl h2
  ·have e2:=eq_of_beq (Bool.and_eq_true_iff.1 h2).1
   have g1:=of_decide_eq_true (Bool.and_eq_true_iff.1 h1).2
   have g2:=of_decide_eq_true (Bool.and_eq_true_iff.1 h2).2
   refine .inr (Bool.and_eq_true_iff.2 ⟨?_,decide_eq_true (by omega)⟩)
   rw[e1,e2,beq_self_eq_true]
theorem A3j {c:TChange} (h:No l c=0):∀i j,j <i→i <c.writes.length→J8 (wN c.writes j) (wN c.writes i)=true
 |0,_,hj,_=>by cases hj
 |i+1,j,hj,hi=>by
  obtain⟨_,_,_,hb⟩:=Ang.1 h
  have h1:=(OL (hb (i+1) hi)).2 (by omega)
  by_cases e:j=i
  ·rw[e];exact h1
  ·exact Bbg (A3j h i j (by omega) (by omega)) h1
theorem A3s (cs:List TCell) {g i:Nat} (x:TCell) (hg:g <cs.length):Cm (cs.set g x) i=if g=i then x else Cm cs i:=by
 unfold Cm
 rw[List.getD_eq_getElem?_getD,List.getElem?_set]
 by_cases e:g=i
 ·subst e
  rw[if_pos rfl,if_pos rfl,if_pos hg]
  rfl
 ·rw[if_neg e,if_neg e,←List.getD_eq_getElem?_getD]
def B0l (l:List TGroup) (c:TChange) (o:List TRow) (w:TWrite):Prop:=∃r∈o,r.key=w.key∧Cm r.cells w.group.toNat=Dz l c w
theorem Blx {c:TChange} (h:No l c=0):∀i,i≤c.writes.length→∀j,j <i→B0l l c (Sc l c i) (wN c.writes j)
 |0,_,j,hj=>by cases hj
 | i +1,hi,j,hj=>by
  obtain⟨hp,hh,_,hb⟩:=Ang.1 h
  obtain⟨hw,_⟩:=OL (hb i (by omega))
  obtain⟨_,_,w3,w4,_⟩:=OD hw
  have hnew:∀{r:TRow},r.cells.length=l.length→Cm (r.cells.set (wN c.writes i).group.toNat (Dz l c (wN c.writes i))) (wN c.writes i).group.toNat=Dz l c (wN c.writes i):=fun {r} hr=>by
   rw[A3s _ _ (by omega),if_pos rfl]
  have hnl:(Ahj l (wN c.writes i).key).cells.length=l.length:=List.length_replicate
  cases i with
  |zero=>
   obtain rfl:j=0:=by omega
   have e:Sc l c 1=[]++[⟨(wN c.writes 0).key,(Ahj l (wN c.writes 0).key).cells.set (wN c.writes 0).group.toNat (Dz l c (wN c.writes 0))⟩]:=Tc l c [] (Ahj l (wN c.writes 0).key) _
   rw[e]
   exact⟨_,List.mem_singleton.2 rfl,rfl,hnew hnl⟩
  | succ i=>
   have inv:=A6i h i (by omega)
   obtain⟨⟨pre,z,e0,hz⟩,_,hgood⟩:=inv
   have ih:=Blx h (i+1) (by omega)
   have hn:((pre++[z]).length==0)=false:=beq_eq_false_iff_ne.2 (by rw[List.length_append,List.length_singleton];omega)
   have hzl:z.cells.length=l.length:=(AJ (hgood z (by rw[e0];exact List.mem_append.2 (.inr (List.mem_singleton.2 rfl))))).2.1
   by_cases hk:z.key=(wN c.writes (i+1)).key
   ·have e:Sc l c (i+1+1)=pre++[⟨z.key,z.cells.set (wN c.writes (i+1)).group.toNat (Dz l c (wN c.writes (i+1)))⟩]:=by
     show L8 l c (Sc l c (i+1)) (wN c.writes (i+1))=_
     rw[e0]
     unfold L8 IH
     rw[hn,SV,hk,beq_self_eq_true]
     show A14 l c (pre++[z]) (wN c.writes (i+1))=_
     rw[Tc,hk]
    rw[e]
    by_cases hji:j=i+1
    ·subst hji
     exact⟨_,List.mem_append.2 (.inr (List.mem_singleton.2 rfl)),hk,hnew hzl⟩
    ·obtain⟨r,hr,k1,k2⟩:=ih j (by omega)
     rw[e0] at hr
     rcases List.mem_append.1 hr with hr|hr
     ·exact⟨r,List.mem_append.2 (.inl hr),k1,k2⟩
     ·rw[List.mem_singleton.1 hr] at k1 k2
      refine⟨_,List.mem_append.2 (.inr (List.mem_singleton.2 rfl)),k1,?_⟩
      have ha:=A3j h (i+1) j (by omega) (by omega)
      unfold J8 at ha
      have hkk:(wN c.writes j).key=(wN c.writes (i+1)).key:=k1.symm.trans hk
      rw[hkk,Bh2,Bool.false_or,beq_self_eq_true,Bool.true_and] at ha
      have hg:=of_decide_eq_true ha
      obtain⟨wj,_⟩:=OL (hb j (by omega))
      obtain⟨_,_,j3,_⟩:=OD wj
      show Cm (z.cells.set _ _) _=_
      rw[A3s _ _ (by omega),if_neg (by omega)]
      exact k2
   ·have e:Sc l c (i+1+1)=(pre++[z])++[⟨(wN c.writes (i+1)).key,(Ahj l (wN c.writes (i+1)).key).cells.set (wN c.writes (i+1)).group.toNat (Dz l c (wN c.writes (i+1)))⟩]:=by
     show L8 l c (Sc l c (i+1)) (wN c.writes (i+1))=_
     rw[e0]
     unfold L8 IH
     rw[hn,SV,beq_eq_false_iff_ne.2 hk]
     show A14 l c ((pre++[z])++[Ahj l (wN c.writes (i+1)).key]) (wN c.writes (i+1))=_
     rw[Tc]
     rfl
    rw[e]
    by_cases hji:j=i+1
    ·subst hji
     exact⟨_,List.mem_append.2 (.inr (List.mem_singleton.2 rfl)),rfl,hnew hnl⟩
    ·obtain⟨r,hr,k1,k2⟩:=ih j (by omega)
     rw[e0] at hr
     exact⟨r,List.mem_append.2 (.inl hr),k1,k2⟩
theorem Brk (h:Di la=true) (w:TWrite):Dz l la w≠zeroC:=fun e=>by
 obtain⟨h1,h2,_,_,_,h6⟩:=Ml h
 have hs:sv la la.vec=la.seq:=by
  unfold Di at h
  exact eq_of_beq (Bool.and_eq_true_iff.1 h).2
 unfold Dz ofC at e
 cases hc:LW l w.group.toNat==2&&w.gone with
 |true=>
  rw[hc,cond_true] at e
  have hd:la.vec=⟨0,0⟩:=congrArg TCell.dead e
  rw[hd] at hs
  have:sv la ⟨0,0⟩=0:=by unfold sv;cases la.site==1<;>rfl
  omega
 |false=>
  rw[hc,cond_false] at e
  have hd:la.stamp=⟨0,0⟩:=congrArg TCell.stamp e
  have:=Avf h
  rw[hd] at this
  exact absurd this (by decide)
theorem B01 {w:TWrite} (hh:Di la=true) (hl:w.group.toNat <l.length) (h:B0l l la (MJ l la) w):∃r,M4 (nb (MJ l la)) w.key=some r∧Cm r.cells w.group.toNat=Dz l la w:=by
 obtain⟨r,hr,h1,h2⟩:=h
 have hb:Hn r=false:=by
  cases hb:Hn r with
  |false=>rfl
  |true=>
   have hlen:=(AJ ((Ae9 l la).2 r hr)).2.1
   have:=At8.1 hb w.group.toNat (by omega)
   rw[h2] at this
   exact absurd this (Brk hh w)
 have hm:r∈nb (MJ l la):=List.mem_filter.2 ⟨hr,by rw[hb];rfl⟩
 refine⟨r,?_,h2⟩
 rw[←h1]
 exact Ank (Ak6 l la).rise hm
theorem Boa {cs:List TChange} (he:stE l (cs++[la])=0) (hc:∀c∈cs,Bgo la c) {w:TWrite} (hw:w∈la.writes):TD l w=true∧Di la=true∧
  ∃r,M4 (stR l (cs++[la])) w.key=some r∧Ai l r=0∧∃x,Bef la x∧Cm r.cells w.group.toNat=HI x (Dz l la w):=by
 obtain⟨e1,e2⟩:=Bm7.1 he
 have hla:No l la=0:=(Bf8.1 e2).2 la (List.mem_singleton.2 rfl)
 obtain⟨hp,hh,_,hb⟩:=Ang.1 hla
 obtain⟨j,hj,rfl⟩:=List.getElem_of_mem hw
 have ej:wN la.writes j=la.writes[j]:=by unfold wN;rw[List.getD_eq_getElem?_getD,List.getElem?_eq_getElem hj];rfl
 have hok:=(OL (hb j hj)).1
 rw[ej] at hok
 refine⟨hok,hh,?_⟩
 obtain⟨_,_,w3,w4,_⟩:=OD hok
 have hhas:B0l l la (MJ l la) la.writes[j]:=by
  have:=Blx hla la.writes.length (Nat.le_refl _) j hj
  rw[ej] at this
  unfold MJ
  rw[hla]
  exact this
 obtain⟨r',a1,a2⟩:=B01 hh (by omega) hhas
 have hr':=At7 (Ak6 l la) a1
 have hst:M4 (stR l [la]) la.writes[j].key=some r':=by
  rw[Bf9 e2,A0e (Atl l [la])]
  exact a1
 have hx:M4 (stR l (cs++[la])) la.writes[j].key=Xu (M4 (stR l cs) la.writes[j].key) (some r'):=by
  rw[Bxv e1 e2,Nf _ (Ats l cs).rise (Ats l [la]).rise (Nat.le_refl _),hst]
 have hbf:=Bg0 (l:=l) hh hc e1 la.writes[j].key
 cases hs:M4 (stR l cs) la.writes[j].key with
 |none=>
  refine⟨r',by rw[hx,hs];rfl,hr'.1,zeroC,At9 hh,?_⟩
  rw[Bgh (TI hp hh hok)]
  exact a2
 |some s=>
  rw[hs] at hbf
  refine⟨jnR s r',by rw[hx,hs];rfl,Pa hbf.1 hr'.1,_,hbf.2.2 la.writes[j].group.toNat (by omega),?_⟩
  rw[Wp hbf.1 hr'.1 (by omega),a2]
theorem Bo3 (hh:Di la=true) {w:TWrite} {x:TCell} (hb:Bef la x) (hy:Bv (LW l w.group.toNat) (HI x (Dz l la w))=true):
  K1 (LW l w.group.toNat) (HI x (Dz l la w))=!w.gone∧(w.gone=false→(HI x (Dz l la w)).value=w.value):=by
 obtain⟨_,h2,_,_,_,h6⟩:=Ml hh
 obtain⟨v1,_,v3,_⟩:=YM.1 h6
 have hs:sv la la.vec=la.seq:=by
  unfold Di at hh
  exact eq_of_beq (Bool.and_eq_true_iff.1 hh).2
 have hn:=Avf hh
 cases hc:LW l w.group.toNat==2&&w.gone with
 | true=>
  have ec:Dz l la w=⟨⟨0,0⟩,⟨0,0⟩,false,⟨#[]⟩,la.vec⟩:=by
   unfold Dz ofC
   rw[hc]
   rfl
  have hg:w.gone=true:=(Bool.and_eq_true_iff.1 hc).2
  rw[hg]
  refine⟨?_,fun e=>by cases e⟩
  have hv:sv la (F8 x (Dz l la w)).vec <la.seq:=by
   rcases Gw x (Dz l la w) with⟨_,e⟩|⟨_,e⟩
   ·rw[e,ec]
    have:sv la ⟨0,0⟩=0:=by unfold sv;cases la.site==1<;>rfl
    show sv la ⟨0,0⟩ <la.seq
    omega
   ·rw[e]
    exact hb.vs
  have hcov:Afe (HI x (Dz l la w)).vec (HI x (Dz l la w)).dead=false:=by
   show Afe (F8 x (Dz l la w)).vec (KU x.dead (Dz l la w).dead)=false
   rw[show(Dz l la w).dead=la.vec by rw[ec]]
   unfold Afe
   rw[Bool.and_eq_false_iff]
   unfold sv at hv hs
   cases h1:la.site==1 with
   |true=>
    rw[h1] at hv hs
    simp only[cond_true] at hv hs
    refine .inl (decide_eq_false ?_)
    show ¬max (max 0 x.dead.a) la.vec.a≤(F8 x (Dz l la w)).vec.a
    omega
   |false=>
    rw[h1] at hv hs
    simp only[cond_false] at hv hs
    refine .inr (decide_eq_false ?_)
    show ¬max (max 0 x.dead.b) la.vec.b≤(F8 x (Dz l la w)).vec.b
    omega
  unfold K1
  rw[hcov,Bool.and_false]
  rfl
 | false=>
  have ec:Dz l la w=⟨la.stamp,la.vec,w.gone,w.value,⟨0,0⟩⟩:=by
   unfold Dz ofC
   rw[hc]
   rfl
  have hm:F8 x (Dz l la w)=Dz l la w:=by
   rcases Gw x (Dz l la w) with⟨_,e⟩|⟨e,_⟩
   ·exact e
   ·refine absurd (.inl ?_) e
    rw[ec]
    exact hb.n
  have et:HI x (Dz l la w)=⟨la.stamp,la.vec,w.gone,w.value,KU x.dead ⟨0,0⟩⟩:=by
   unfold HI
   rw[hm,ec]
  rw[et] at hy⊢
  have hwr:BR ⟨la.stamp,la.vec,w.gone,w.value,KU x.dead ⟨0,0⟩⟩=true:=by
   unfold BR
   have:(la.stamp.n==0)=false:=beq_eq_false_iff_ne.2 (by omega)
   show(!(la.stamp.n==0&&_&&_&&_))=true
   rw[this]
   rfl
  have hcov:Afe la.vec (KU x.dead ⟨0,0⟩)=true:=by
   have:=hb.da
   have:=hb.db
   unfold Afe
   rw[Bool.and_eq_true]
   constructor
   ·refine decide_eq_true ?_
    show max (max 0 x.dead.a) 0≤la.vec.a
    omega
   ·refine decide_eq_true ?_
    show max (max 0 x.dead.b) 0≤la.vec.b
    omega
  refine⟨?_,fun _=>rfl⟩
  unfold K1
  rw[hy,hwr]
  show(true&&true&&!w.gone&&Afe la.vec (KU x.dead ⟨0,0⟩))=!w.gone
  rw[hcov,Bool.and_true]
  rfl
end
def knO (g:Int) (o:Bool×ByteArray) (f:TField):Bool×ByteArray:=bif f.group==g then(true,f.value) else o
def Aoh (g:Int) (fs:List TField):Bool×ByteArray:=fs.foldl (knO g) (false,⟨#[]⟩)
theorem Aoi (l:List TGroup) (cs:List TCell) (g:Nat):∀n,Aoh (g:Int) (Bs l cs n)=bif decide (g <n)&&K1 (LW l g) (Cm cs g) then(true,(Cm cs g).value) else(false,⟨#[]⟩)
 |0=>rfl
 | n+1=>by
  have ih:=Aoi l cs g n
  have e:Bs l cs (n+1)=bif K1 (LW l n) (Cm cs n) then Bs l cs n++[⟨(n:Int),Abh (LW l n) (Cm cs n)⟩] else Bs l cs n:=rfl
  rw[e]
  by_cases hg:g=n
  ·subst hg
   rw[decide_eq_false (Nat.lt_irrefl _)] at ih
   rw[decide_eq_true (Nat.lt_succ_self _),Bool.true_and]
   cases hs:K1 (LW l g) (Cm cs g) with
   |false=>rw[cond_false,cond_false,ih];rfl
   |true=>
    rw[cond_true,cond_true]
    unfold Aoh
    rw[List.foldl_append]
    show knO (g:Int) _ ⟨(g:Int),Abh (LW l g) (Cm cs g)⟩=_
    unfold knO Abh
    rw[hs,beq_self_eq_true]
    rfl
  ·have ed:decide (g <n+1)=decide (g <n):=by
    by_cases h:g <n
    ·rw[decide_eq_true h,decide_eq_true (by omega)]
    ·rw[decide_eq_false h,decide_eq_false (by omega)]
   rw[ed,←ih]
   cases K1 (LW l n) (Cm cs n) with
   |false=>rfl
   |true=>
    rw[cond_true]
    unfold Aoh
    rw[List.foldl_append]
    show knO (g:Int) _ ⟨(n:Int),Abh (LW l n) (Cm cs n)⟩=_
    have:(((n:Int)==(g:Int)))=false:=beq_eq_false_iff_ne.2 (by omega)
    unfold knO
    rw[show((⟨(n:Int),Abh (LW l n) (Cm cs n)⟩:TField).group==(g:Int))=false from this]
    rfl
theorem Bkc {l:List TGroup} {r:TRow} (h:Ai l r=0):TA l r=Bs l r.cells l.length:=by
 unfold TA Jg
 rw[h]
 cases hl:(Bs l r.cells l.length).length==0 with
 |false=>rfl
 |true=>exact(List.eq_nil_of_length_eq_zero (by simpa using hl)).symm
theorem Brc {b:ByteArray} (h:b.size=0):b=⟨#[]⟩:=by
 obtain⟨d⟩:=b
 have:d=#[]:=Array.eq_empty_of_size_eq_zero h
 rw[this]
theorem B2r {l:List TGroup} {la:TChange} {cs:List TChange} (he:stE l (cs++[la])=0) (hc:∀c∈cs,Bgo la c) {w:TWrite} (hw:w∈la.writes):
  Aoh w.group (KS l (stR l (cs++[la])) w.key).fields=(!w.gone,w.value):=by
 obtain⟨hok,hh,r,h1,h2,x,h3,h4⟩:=Boa he hc hw
 obtain⟨_,_,w3,w4,_,w6⟩:=OD hok
 have hg:=Bt4 (cs:=cs++[la]) (Bf8.1 he).1
 have ef:(KS l (stR l (cs++[la])) w.key).fields=Bs l r.cells l.length:=by
  unfold KS Bhs
  rw[hg,h1]
  exact Bkc h2
 have eg:w.group=((w.group.toNat:Nat):Int):=by omega
 have hy:=Jq h2 (i:=w.group.toNat) (by omega)
 rw[h4] at hy
 obtain⟨s1,s2⟩:=Bo3 hh h3 hy
 rw[ef,eg,Aoi,h4,decide_eq_true (by omega),Bool.true_and]
 rw[←eg] at*
 rw[s1]
 cases hgo:w.gone with
 |false=>rw[s2 hgo];rfl
 |true=>rw[Brc (w6 hgo)];rfl
end Go.Proofs.Yteebobbhhgmeiaa
namespace Go.Proofs.Yteebobbhhgmeiaa
open Go.RowKit
theorem B1p {a1:List TChange} (w1:a1.length≤maxLen∧∀y∈a1,Wfd .change y):Ar a1.length∧∀c∈a1,Qa c:=
 ⟨w1.1,fun c hc=>⟨(w1.2 c hc).2.2.2.2.1,fun w hw=>⟨((w1.2 c hc).2.2.2.2.2 w hw).1,((w1.2 c hc).2.2.2.2.2 w hw).2.2.2⟩⟩⟩
theorem Bwq {l:List TGroup} {cs:List TChange} (hl:Ar l.length) (hc:Ar cs.length∧∀c∈cs,Qa c):(Ar l.length∧(Ar cs.length∧∀c∈cs,Qa c)∧Ar (0:Nat)∧∀x∈([]:List (List TRow)),Ar x.length∧∀r∈x,Yy r)∧(Nb l cs []=true→cs.length≤6000):=by
 have h1:Ar ([]:List (List TRow)).length:=by unfold Ar;exact Nat.zero_le _
 have h2:∀x∈([]:List (List TRow)),Ar x.length∧∀r∈x,Yy r:=fun x hx=>by cases hx
 exact⟨⟨hl,hc,h1,h2⟩,fun h=>((Avy l cs [] hl hc h1 h2).2 h).2.1.1⟩
theorem A48 (l:List TGroup) {cs:List TChange} (h:cs.length≤7000):Ar (stR l cs).length∧∀r∈stR l cs,Ag r.cells.length:=by
 have h1:=Bxw l cs
 refine⟨by unfold Ar;omega,fun r hr=>?_⟩
 have g:=((Ats l cs).good r hr).1
 rw[(AJ g).2.1]
 have:=(G7 (AJ g).1).2
 unfold Ag
 omega
end Go.Proofs.Yteebobbhhgmeiaa
namespace Go.Proofs.Yteebobbhhgmeiaa
open Go.RowKit
theorem Bpn (l:List TGroup) (r:TRow):(TA l r).length≤4:=by
 unfold TA
 cases h:Jg l r with
 |false=>exact Nat.zero_le _
 |true=>
  rw[cond_true]
  unfold Jg at h
  have h0:Ai l r=0:=by simpa using(Bool.and_eq_true_iff.1 h).1
  have h4:=(G7 (AJ h0).1).2
  have:=Qo l r.cells l.length
  omega
theorem Bf3 (l:List TGroup) (rows:List TRow) (k:ByteArray):(KS l rows k).fields.length≤4:=by
 unfold KS Bhs
 cases Gk l rows==0 with
 |false=>exact Nat.zero_le _
 |true=>
  rw[cond_true]
  cases M4 rows k with
  |none=>exact Nat.zero_le _
  |some r=>exact Bpn l r
end Go.Proofs.Yteebobbhhgmeiaa
namespace Go.Proofs.Yteebobbhhgmeiaa
open Go.RowKit
def Bn8 (la c:TChange):Bool:=decide (c.vec.a >la.vec.a)||decide (c.vec.b >la.vec.b)||decide (c.stamp.n≥la.stamp.n)||decide ((bif(IntKind.i64.wrap (la.site - 1)).toNat.beq 0 then c.vec.a else c.vec.b)≥la.seq)
theorem Bm6 {la:TChange} (hs:la.site=1∨la.site=2):(la.site=1∧IntKind.i64.wrap (la.site - 1)=0)∨(la.site=2∧IntKind.i64.wrap (la.site - 1)=1):=by
 rcases hs with h|h
 ·exact .inl ⟨h,by rw[h];rfl⟩
 ·exact .inr ⟨h,by rw[h];rfl⟩
theorem Bsp {la c:TChange} (hs:la.site=1∨la.site=2) (h:Bn8 la c=false):Bgo la c:=by
 unfold Bn8 at h
 obtain⟨h,h4⟩:=Bool.or_eq_false_iff.1 h
 obtain⟨h,h3⟩:=Bool.or_eq_false_iff.1 h
 obtain⟨h1,h2⟩:=Bool.or_eq_false_iff.1 h
 have h1:=of_decide_eq_false h1
 have h2:=of_decide_eq_false h2
 have h3:=of_decide_eq_false h3
 refine⟨by omega,by omega,by omega,?_⟩
 unfold sv
 rcases Bm6 hs with⟨e,e2⟩|⟨e,e2⟩
 ·rw[e2] at h4
  rw[e]
  have h4:¬c.vec.a≥la.seq:=of_decide_eq_false h4
  show c.vec.a <la.seq
  omega
 ·rw[e2] at h4
  rw[e]
  have h4:¬c.vec.b≥la.seq:=of_decide_eq_false h4
  show c.vec.b <la.seq
  omega
theorem Bmc (cs:List TChange) (la:TChange) (hs:la.site=1∨la.site=2) (hb:cs.length≤1048576):
  AD BX BW DQ (Da (cs,(cs.length:Int),0,la)) (cs,(cs.length:Int),0,la)∧∃k:Nat,AH (cs,(cs.length:Int),0,la)=(cs,(cs.length:Int),(k:Int),la)∧BE cs (cs.length:Int) (k:Int) la=!J9 cs.length (fun i=>!Bn8 la (Jh cs i)):=by
 have hk:∀i:Nat,BE cs (cs.length:Int) (i:Int) la=(decide (i <cs.length)&&Bn8 la (Jh cs i)):=fun i=>by
  unfold BE Bc
  rw[nn,M9]
  rfl
 obtain⟨h1,k,hk',hx,_,hst,hb2⟩:=IW (fun i=>(cs,(cs.length:Int),(i:Int),la):Nat→Ba) cs.length (fun i=>Bn8 la (Jh cs i)) BX BW DQ (Da (cs,(cs.length:Int),0,la)) (cs,(cs.length:Int),0,la) rfl (by show cs.length≤((cs.length:Int) - 0).toNat;omega)
  (fun i hi _=>by
   show((!!decide ((i:Int) <(cs.length:Int)))&&!BE cs (cs.length:Int) (i:Int) la)=_
   rw[nn,M9,hk]
   cases decide (i <cs.length)<;>rfl)
  (fun i hi _=>by
   show(cs,(cs.length:Int),IntKind.i64.wrap ((i:Int)+1),la)=(cs,(cs.length:Int),((i+1:Nat):Int),la)
   rw[Fd (by omega)])
  (fun i hi _=>by
   refine Aa (fun h=>?_) (Aa (fun _ _=>?_) Ad)
   ·have h:(!!decide ((i:Int) <(cs.length:Int)))=true:=h
    rw[nn] at h
    have:=of_decide_eq_true h
    show(0:Int)≤(i:Int)∧(i:Int) <(cs.length:Int)
    omega
   ·show(0:Int)≤IntKind.i64.wrap (la.site - 1)∧IntKind.i64.wrap (la.site - 1) <2
    rcases Bm6 hs with⟨_,e⟩|⟨_,e⟩<;>rw[e]<;>omega)
 exact⟨h1,k,hx,by rw[hk];exact hb2⟩
theorem By2 (fs:List TField) (w:TWrite) (hf:fs.length≤4):
  AD B8 B5 DS (Dc (false,ByteArray.mk #[],fs,(fs.length:Int),0,w)) (false,ByteArray.mk #[],fs,(fs.length:Int),0,w)∧Dx (false,ByteArray.mk #[],fs,(fs.length:Int),0,w)=((Aoh w.group fs).1,(Aoh w.group fs).2,fs,(fs.length:Int),(fs.length:Int),w):=by
 obtain⟨h1,hx⟩:=A9s (fun i=>((((fs.take i).foldl (knO w.group) (false,⟨#[]⟩)).1,((fs.take i).foldl (knO w.group) (false,⟨#[]⟩)).2,fs,(fs.length:Int),(i:Int),w):Bb)) fs.length B8 B5 DS (Dc (false,ByteArray.mk #[],fs,(fs.length:Int),0,w)) (false,ByteArray.mk #[],fs,(fs.length:Int),0,w) rfl (by show fs.length≤((fs.length:Int) - 0).toNat;omega)
  (fun i hi=>by
   show(!!decide ((i:Int) <(fs.length:Int)))=_
   rw[nn,M9])
  (fun i hi=>by
   show(I7 ((fs.take i).foldl (knO w.group) (false,⟨#[]⟩)).1 ((fs.take i).foldl (knO w.group) (false,⟨#[]⟩)).2 fs (fs.length:Int) (i:Int) w,I8 ((fs.take i).foldl (knO w.group) (false,⟨#[]⟩)).1 ((fs.take i).foldl (knO w.group) (false,⟨#[]⟩)).2 fs (fs.length:Int) (i:Int) w,fs,(fs.length:Int),IntKind.i64.wrap ((i:Int)+1),w)=(((fs.take (i+1)).foldl (knO w.group) (false,⟨#[]⟩)).1,((fs.take (i+1)).foldl (knO w.group) (false,⟨#[]⟩)).2,fs,(fs.length:Int),((i+1:Nat):Int),w)
   rw[Fd (by omega),Yx fs (Ac TC.field) i hi,List.foldl_append]
   unfold I7 I8
   show _=((knO w.group ((fs.take i).foldl (knO w.group) (false,⟨#[]⟩)) (fs.getD i (Ac TC.field))).1,(knO w.group ((fs.take i).foldl (knO w.group) (false,⟨#[]⟩)) (fs.getD i (Ac TC.field))).2,_)
   unfold knO
   rw[Int.toNat_natCast]
   cases(fs.getD i (Ac TC.field)).group==w.group<;>rfl)
  (fun i hi=>Aa (fun h=>by
   have h:(!!decide ((i:Int) <(fs.length:Int)))=true:=h
   rw[nn] at h
   have:=of_decide_eq_true h
   show(0:Int)≤(i:Int)∧(i:Int) <(fs.length:Int)
   omega) Ad)
 refine⟨h1,?_⟩
 have hx':Dx (false,ByteArray.mk #[],fs,(fs.length:Int),0,w)=(((fs.take fs.length).foldl (knO w.group) (false,⟨#[]⟩)).1,((fs.take fs.length).foldl (knO w.group) (false,⟨#[]⟩)).2,fs,(fs.length:Int),(fs.length:Int),w):=hx
 rw[hx',List.take_length]
 rfl
def wrN (ws:List TWrite) (i:Nat):TWrite:=ws.getD i (Ac TC.write)
def kw (l:List TGroup) (rows:List TRow) (w:TWrite):Bool:=((Aoh w.group (KS l rows w.key).fields).1==w.gone)||!((Aoh w.group (KS l rows w.key).fields).2.toList==w.value.toList)
theorem By1 (l:List TGroup) (rows:List TRow) (ws:List TWrite) (hr:Ar rows.length) (hb:Ar ws.length):
  AD BZ BY DR (Db (l,rows,ws,(ws.length:Int),0)) (l,rows,ws,(ws.length:Int),0)∧∃k:Nat,L5 (l,rows,ws,(ws.length:Int),0)=(l,rows,ws,(ws.length:Int),(k:Int))∧Bk l rows ws (ws.length:Int) (k:Int)=!J9 ws.length (fun i=>!kw l rows (wrN ws i)):=by
 have hk:∀i:Nat,Bk l rows ws (ws.length:Int) (i:Int)=(decide (i <ws.length)&&kw l rows (wrN ws i)):=fun i=>by
  unfold Bk
  rw[nn,M9,Int.toNat_natCast]
  rw[(By2 (KS l rows (ws.getD i (Ac TC.write)).1).2 (ws.getD i (Ac TC.write)) (Bf3 _ _ _)).2]
  rfl
 unfold Ar at hb
 obtain⟨h1,k,hk',hx,_,hst,hb2⟩:=IW (fun i=>(l,rows,ws,(ws.length:Int),(i:Int)):Nat→A5) ws.length (fun i=>kw l rows (wrN ws i)) BZ BY DR (Db (l,rows,ws,(ws.length:Int),0)) (l,rows,ws,(ws.length:Int),0) rfl (by show ws.length≤((ws.length:Int) - 0).toNat;omega)
  (fun i hi _=>by
   show((!!decide ((i:Int) <(ws.length:Int)))&&!Bk l rows ws (ws.length:Int) (i:Int))=_
   rw[nn,M9,hk]
   cases decide (i <ws.length)<;>rfl)
  (fun i hi _=>by
   show(l,rows,ws,(ws.length:Int),IntKind.i64.wrap ((i:Int)+1))=(l,rows,ws,(ws.length:Int),((i+1:Nat):Int))
   rw[Fd (by omega)])
  (fun i hi _=>by
   refine Aa (fun h=>?_) (Aa (fun _=>hr) (Aa (fun _=>?_) Ad))
   ·have h:(!!decide ((i:Int) <(ws.length:Int)))=true:=h
    rw[nn] at h
    have:=of_decide_eq_true h
    show(0:Int)≤(i:Int)∧(i:Int) <(ws.length:Int)
    omega
   ·exact(By2 (KS l rows (ws.getD (i:Int).toNat (Ac TC.write)).1).2 (ws.getD (i:Int).toNat (Ac TC.write)) (Bf3 _ _ _)).1)
 exact⟨h1,k,hx,by rw[hk];exact hb2⟩
theorem Bwv (a0:List TGroup) (a1:List TChange) (a2:TChange) (w0:a0.length≤maxLen∧∀y∈a0,Wfd .group y) (w1:a1.length≤maxLen∧∀y∈a1,Wfd .change y) (w2:Wfd .change a2) (hb:a1.length≤1048576):(∀p∈QE a0 a1 a2,p)∧JU a0 a1 a2=true:=by
 have e6:Ej a0 a1 a2=a1++[a2]:=rfl
 have w2':Qa a2:=⟨w2.2.2.2.2.1,fun w hw=>⟨(w2.2.2.2.2.2 w hw).1,(w2.2.2.2.2.2 w hw).2.2.2⟩⟩
 have hw:∀c∈a1++[a2],Qa c:=fun c hc=>(List.mem_append.1 hc).elim ((B1p w1).2 c) fun h=>by rw[List.mem_singleton.1 h];exact w2'
 have hl:Ar (a1++[a2]).length:=by
  rw[List.length_append,List.length_singleton]
  unfold Ar
  omega
 obtain⟨hL,hlt⟩:=Bwq (l:=a0) (cs:=Ej a0 a1 a2) w0.1 ⟨hl,hw⟩
 have h6:(!(AF a0 a1 a2))=true→a1.length+1≤6000:=fun h=>by
  unfold AF at h
  rw[Bool.not_not] at h
  have:=hlt h
  rw[e6,List.length_append,List.length_singleton] at this
  exact this
 have hs:(!(AC a0 a1 a2))=true→a2.site=1∨a2.site=2:=fun h=>by
  have h':AC a0 a1 a2=false:=by simpa using h
  unfold AC at h'
  obtain⟨h1,h2⟩:=Bool.or_eq_false_iff.1 h'
  have h1:=of_decide_eq_false h1
  have h2:=of_decide_eq_false h2
  omega
 have b1:Ag ((0:Nat)+a1.length):=by unfold Ag;omega
 have b2:Ag (([]++a1).length+(1:Nat)):=by show Ag (a1.length+1);unfold Ag;omega
 have e4:(!(AC a0 a1 a2))=true→BQ a0 a1 a2=a1++[a2]:=fun h=>by
  obtain⟨_,k,hx,_⟩:=Bmc a1 a2 (hs h) hb
  unfold BQ
  rw[hx]
  rfl
 have hk4:(!(AF a0 a1 a2))=true→(!(AC a0 a1 a2))=true→(BQ a0 a1 a2).length≤7000:=fun h g=>by
  have:=h6 h
  rw[e4 g,List.length_append,List.length_singleton]
  omega
 refine⟨Aa b1 (Aa b2 (Aa hL (Aa (fun _ g=>(Bmc a1 a2 (hs g) hb).1) (Aa (fun _ _ _=>b1) (Aa (fun _ _ _=>b2) (Aa (fun h g _=>⟨hk4 h g,fun c hc=>?_⟩) (Aa (fun h g _ _=>?_) Ad))))))),?_⟩
 ·rw[e4 g] at hc
  exact(hw c hc).1
 ·obtain⟨_,k,hx,_⟩:=Bmc a1 a2 (hs g) hb
  rw[hx]
  exact(By1 a0 (AT a0 a1 a2) a2.writes (A48 a0 (hk4 h g)).1 w2'.1).1
 ·unfold JU
  cases q5:AF a0 a1 a2 with
  |true=>rfl
  | false=>
   have h:(!(AF a0 a1 a2))=true:=by rw[q5];rfl
   cases q7:AC a0 a1 a2 with
   |true=>rfl
   | false=>
    have g:(!(AC a0 a1 a2))=true:=by rw[q7];rfl
    obtain⟨_,k,hx,hk⟩:=Bmc a1 a2 (hs g) hb
    cases q0:AZ a0 a1 a2 with
    |true=>rfl
    | false=>
     have hbef:∀c∈a1,Bgo a2 c:=fun c hc=>by
      unfold AZ at q0
      rw[hx] at q0
      have q0:BE a1 (a1.length:Int) (k:Int) a2=false:=q0
      rw[hk] at q0
      have ha:J9 a1.length (fun i=>!Bn8 a2 (Jh a1 i))=true:=by simpa using q0
      obtain⟨j,hj,rfl⟩:=List.getElem_of_mem hc
      have:=Hm.1 ha j hj
      have e:Jh a1 j=a1[j]:=by unfold Jh;rw[List.getD_eq_getElem?_getD,List.getElem?_eq_getElem hj];rfl
      rw[e] at this
      exact Bsp (hs g) (by simpa using this)
     cases q2:CO a0 a1 a2 with
     | true=>
      have hne:stE a0 (BQ a0 a1 a2)≠0:=bne_iff_ne.1 q2
      have e3:AT a0 a1 a2=[]:=by
       unfold AT stR
       rw[beq_eq_false_iff_ne.2 hne]
       rfl
      rw[e3]
      rfl
     | false=>
      have he:stE a0 (a1++[a2])=0:=by
       unfold CO at q2
       rw[e4 g] at q2
       simpa using q2
      have e3:AT a0 a1 a2=stR a0 (a1++[a2]):=by
       unfold AT
       rw[e4 g]
      obtain⟨_,k',hx',hk'⟩:=By1 a0 (AT a0 a1 a2) a2.writes (A48 a0 (hk4 h g)).1 w2'.1
      have e1:Ei a0 a1 a2=(a0,AT a0 a1 a2,a2.writes,(a2.writes.length:Int),(k':Int)):=by
       unfold Ei
       rw[hx]
       exact hx'
      rw[e1]
      have hall:J9 a2.writes.length (fun i=>!kw a0 (AT a0 a1 a2) (wrN a2.writes i))=true:=Hm.2 fun i hi=>by
       have hm:wrN a2.writes i∈a2.writes:=getD_in a2.writes (Ac TC.write) i hi
       have:=B2r he hbef hm
       unfold kw
       rw[e3,this]
       show(!(((!(wrN a2.writes i).gone)==(wrN a2.writes i).gone)||!((wrN a2.writes i).value.toList==(wrN a2.writes i).value.toList)))=true
       rw[beq_self_eq_true]
       cases(wrN a2.writes i).gone<;>rfl
      have:Bk a0 (AT a0 a1 a2) a2.writes (a2.writes.length:Int) (k':Int)=false:=by
       rw[hk',hall]
       rfl
      show(bif false then _ else bif false then _ else bif false then _ else bif false then _ else bif Bk a0 (AT a0 a1 a2) a2.writes (a2.writes.length:Int) (k':Int) then false else true)=true
      rw[this]
      rfl
end Go.Proofs.Yteebobbhhgmeiaa
namespace Go.Proofs.Yteebobbhhgmeiaa
open Go.RowKit
set_option maxRecDepth 100000
theorem op3:Opn Try.prog .i64 3:=Bw5 Try.underlying3
theorem op4:Opn Try.prog .bool 4:=Btb Try.underlying4
theorem op9:Opn Try.prog .str 9:=Bw6 Try.underlying9
theorem B3e:Opn Try.prog .vec 31:=fun en w base spare held m cs y h=>by
 obtain⟨xs,n,_,_,hl,hz,hg⟩:=DataW.trod_array Try.underlying31 h
 have hl:cs.length=2:=hl.trans (by kernel_rfl)
 obtain⟨x0,w0,g0⟩:=B2c (i:=0) (k:=1) op3 (by kernel_rfl) (by omega) (by omega) hg
 obtain⟨x1,w1,g1⟩:=B2c (i:=1) (k:=1) op3 (by kernel_rfl) (by omega) (by omega) hg
 exact⟨⟨x0,x1⟩,⟨w0,w1⟩,fun F N nx hF=>HLd (o:=0) (k:=1) (g0 F N nx hF) (HLd (o:=1) (k:=1) (g1 F N nx hF) (HLe (o:=2) hl))⟩
theorem B3f:Opn Try.prog .stamp 51:=fun en w base spare held m cs y h=>by
 obtain⟨xs,n,_,_,hl,hz,hg⟩:=DataW.trod_struct Try.underlying51 h
 have hz:xs.length=2:=hz
 have hl:cs.length=2:=hl.trans (by kernel_rfl)
 obtain⟨x0,w0,g0⟩:=Aqw (i:=0) (o:=0) (k:=1) op3 rfl rfl rfl (by kernel_rfl) (by omega) hg
 obtain⟨x1,w1,g1⟩:=Aqw (i:=1) (o:=1) (k:=1) op3 rfl rfl rfl (by kernel_rfl) (by omega) hg
 exact⟨⟨x0,x1⟩,⟨w0,w1⟩,fun F N nx hF=>HLd (o:=0) (k:=1) (g0 F N nx hF) (HLd (o:=1) (k:=1) (g1 F N nx hF) (HLe (o:=2) hl))⟩
theorem B3g:Opn Try.prog .group 79:=fun en w base spare held m cs y h=>by
 obtain⟨xs,n,_,_,hl,hz,hg⟩:=DataW.trod_struct Try.underlying79 h
 have hz:xs.length=2:=hz
 have hl:cs.length=2:=hl.trans (by kernel_rfl)
 obtain⟨x0,w0,g0⟩:=Aqw (i:=0) (o:=0) (k:=1) op9 rfl rfl rfl (by kernel_rfl) (by omega) hg
 obtain⟨x1,w1,g1⟩:=Aqw (i:=1) (o:=1) (k:=1) op3 rfl rfl rfl (by kernel_rfl) (by omega) hg
 exact⟨⟨x0,x1⟩,⟨w0,w1⟩,fun F N nx hF=>HLd (o:=0) (k:=1) (g0 F N nx hF) (HLd (o:=1) (k:=1) (g1 F N nx hF) (HLe (o:=2) hl))⟩
theorem B2x:A3f Try.prog .group 66:=Axh Try.underlying66 (by kernel_rfl) B3g
theorem B2w:Opn Try.prog .write 139:=fun en w base spare held m cs y h=>by
 obtain⟨xs,n,_,_,hl,hz,hg⟩:=DataW.trod_struct Try.underlying139 h
 have hz:xs.length=4:=hz
 have hl:cs.length=4:=hl.trans (by kernel_rfl)
 obtain⟨x0,w0,g0⟩:=Aqw (i:=0) (o:=0) (k:=1) op9 rfl rfl rfl (by kernel_rfl) (by omega) hg
 obtain⟨x1,w1,g1⟩:=Aqw (i:=1) (o:=1) (k:=1) op3 rfl rfl rfl (by kernel_rfl) (by omega) hg
 obtain⟨x2,w2,g2⟩:=Aqw (i:=2) (o:=2) (k:=1) op4 rfl rfl rfl (by kernel_rfl) (by omega) hg
 obtain⟨x3,w3,g3⟩:=Aqw (i:=3) (o:=3) (k:=1) op9 rfl rfl rfl (by kernel_rfl) (by omega) hg
 exact⟨⟨x0,x1,x2,x3⟩,⟨w0,w1,w2,w3⟩,fun F N nx hF=>HLd (o:=0) (k:=1) (g0 F N nx hF) (HLd (o:=1) (k:=1) (g1 F N nx hF) (HLd (o:=2) (k:=1) (g2 F N nx hF) (HLd (o:=3) (k:=1) (g3 F N nx hF) (HLe (o:=4) hl))))⟩
theorem B1c:A3f Try.prog .write 134:=Axh Try.underlying134 (by kernel_rfl) B2w
theorem By9:Opn Try.prog .change 136:=fun en w base spare held m cs y h=>by
 obtain⟨xs,n,_,_,hl,hz,hg⟩:=DataW.trod_struct Try.underlying136 h
 have hz:xs.length=5:=hz
 have hl:cs.length=7:=hl.trans (by kernel_rfl)
 obtain⟨x0,w0,g0⟩:=Aqw (i:=0) (o:=0) (k:=1) op3 rfl rfl rfl (by kernel_rfl) (by omega) hg
 obtain⟨x1,w1,g1⟩:=Aqw (i:=1) (o:=1) (k:=1) op3 rfl rfl rfl (by kernel_rfl) (by omega) hg
 obtain⟨x2,w2,g2⟩:=Aqw (i:=2) (o:=2) (k:=2) B3f rfl rfl rfl (by kernel_rfl) (by omega) hg
 obtain⟨x3,w3,g3⟩:=Aqw (i:=3) (o:=4) (k:=2) B3e rfl rfl rfl (by kernel_rfl) (by omega) hg
 obtain⟨x4,w4,g4⟩:=B3d (i:=4) (o:=6) (k:=1) B1c rfl rfl rfl (by kernel_rfl) (by omega) hg
 exact⟨⟨x0,x1,x2,x3,x4⟩,⟨w0,w1,w2,w3,w4⟩,fun F N nx hF=>HLd (o:=0) (k:=1) (g0 F N nx hF) (HLd (o:=1) (k:=1) (g1 F N nx hF) (HLd (o:=2) (k:=2) (g2 F N nx hF) (HLd (o:=4) (k:=2) (g3 F N nx hF) (HLd (o:=6) (k:=1) (g4 F N nx hF) (HLe (o:=7) hl)))))⟩
theorem B1b:A3f Try.prog .change 126:=Axh Try.underlying126 (by kernel_rfl) By9
end Go.Proofs.Yteebobbhhgmeiaa
namespace Go.Proofs.Yteebobbhhgmeiaa
open Go.ChangeShapes Go.WideShapes Go.ChangeAt Go.RowKit
theorem own:ownKnob Try.prog.godebug=none:=by kernel_rfl
theorem Bwp:laidOutB Try.prog=true:=by kernel_rfl
section
variable {P:Program} {H:Type} {enc:TypeId×Value→H} {w:World} {base:Nat} {spare:Nat→Bool} {held:Bool} {v:Value} {d:DataW H} {p:List MemPlace}
theorem A0y {r:Reach} {b0:Nat} {t:TypeId} {fs:Array Field} (hu:P.underlying t=some (.struct fs)) (h:Value.okWide P w r b0 t v):∃cs,v=.agg cs∧cs.size=P.cellsOf t:=by
 unfold Value.okWide at h
 rw[hu] at h
 obtain⟨cs,h1,h2,_⟩:=h
 exact⟨cs,h1,h2⟩
end
theorem Zz {H:Type} {enc:TypeId×Value→H} {W W':World} (hb:Below W.heap.size W W'):∀(ts:List TypeId) (vs:List Value) (ds:List (DataW H)) (ps:List MemPlace),
  (∀t∈ts,Try.prog.readableRec t=true∧t <Try.prog.types.size)→DataW.TrodAll enc Try.prog W 0 (fun _=>true) true ts vs ds ps→(∀x∈ps,x.block <W.heap.size)→
  DataW.TrodAll enc Try.prog W' 0 (fun b=>decide (b <W.heap.size)) true ts vs ds ps
 | [],vs,ds,ps,_,h,_=>by
  obtain⟨rfl,rfl,rfl⟩:=trodAll_nil h
  exact trodAll_mk0
 | t::ts,vs,ds,ps,hr,h,hlt=>by
  obtain⟨v,vs',d,ds',p,q,rfl,rfl,rfl,h0,h1⟩:=trodAll_cons h
  exact trodAll_cons_mk (Below.trod Bwp (hr t (by simp)).1 (hr t (by simp)).2 h0 hb fun x hx=>hlt x (by simp[hx]))
   (Zz hb ts vs' ds' q (fun t' ht'=>hr t' (by simp[ht'])) h1 fun x hx=>hlt x (by simp[hx]))
section
variable {H:Type} {enc:TypeId×Value→H} {w:World} {base:Nat} {spare:Nat→Bool} {held:Bool} {v:Value} {d:DataW H} {p:List MemPlace}
end
end Go.Proofs.Yteebobbhhgmeiaa
namespace Go.Proofs.Yteebobbhhgmeiaa
open Go.RowKit Go.WideShapes Go.ChangeShapes
section
variable {H:Type} {en:TypeId×Value→H} {P:Program} {w:World} {base:Nat} {spare:Nat→Bool} {held:Bool} {t e:TypeId} {v:Value} {d:DataW H} {p:List MemPlace} {r:Reach} {b0:Nat} {c:TC}
theorem Bbn (ht:P.underlying t=some (.slice e)) (ho:A3f P c t) (hv:Value.okWide P w r b0 t v) (h:DataW.Trod en P w base spare held t v d p):
  ∃l:List (U c),(l.length≤maxLen∧∀x∈l,Wfd c x)∧∀(F:Nat→Prop) (N:Nm) (nx:Nat),FB w F→Hv F N nx w (.sl c l) v:=by
 obtain⟨a,len,cap,rfl⟩:=okWide_slice ht hv
 obtain⟨fuel,hf⟩:=h
 obtain⟨l,h1,h2⟩:=ho en w base spare held fuel _ _ hf
 refine⟨l,h1,fun F N nx hF=>?_⟩
 obtain⟨y,ys,e,h3,_⟩:=(h2 F N nx hF).inv
 have e':[Value.slice a len cap]=y::ys:=e
 cases e'
 exact h3
theorem Bvx {cs:Array Value} (ho:Opn P c t) (ha:c.isAgg=true) (hv:v=.agg cs) (h:DataW.Trod en P w base spare held t v d p):
  ∃x:U c,Wfd c x∧∀(F:Nat→Prop) (N:Nm) (nx:Nat),FB w F→Hv F N nx w (Af c x) v:=by
 subst hv
 obtain⟨fuel,hf⟩:=h
 obtain⟨x,h2,h3⟩:=ho en w base spare held fuel _ _ hf
 exact⟨x,h2,fun F N nx hF=>Bhw (h3 F N nx hF) ha⟩
theorem Bgw {fs:Array Field} (ht:P.underlying t=some (.struct fs)) (ho:Opn P c t) (ha:c.isAgg=true) (hv:Value.okWide P w r b0 t v) (h:DataW.Trod en P w base spare held t v d p):
  ∃x:U c,Wfd c x∧∀(F:Nat→Prop) (N:Nm) (nx:Nat),FB w F→Hv F N nx w (Af c x) v:=by
 obtain⟨cs,hcs,_⟩:=A0y ht hv
 exact Bvx ho ha hcs h
end
theorem Bri {P:Program} {f:FuncId} {args:List A} {nx':Nat} {o':Objs} {b:Bool} (h:CallOk P f args 0 [] 1 (.v (.bool b)) nx' o') (W:World) (vs:List Value) (ha:∀(F:Nat→Prop) (N:Nm) (nx:Nat),FB W F→HL F N nx W args vs):
  Calls P f vs.toArray W fun e W'=>e=.returned (.bool b)∧Below W.heap.size W W':=by
 have hr:HRel (fun b=>b <W.heap.size) ⟨fun _=>0,fun _=> .nilFunc⟩ 0 [] W:=⟨fun g hg=>hg,fun i ob hi=>(by cases hi),fun i ob g hi=>(by cases hi),fun i j x y g hi=>(by cases hi)⟩
 refine(h _ _ W vs hr (ha _ _ _ fun b hb=>hb)).mono fun e W' ⟨y,F',N',he,_,_,hy,hb⟩=>?_
 rw[hy.v_inv] at he
 exact⟨he,hb (Nat.le_refl _)⟩
end Go.Proofs.Yteebobbhhgmeiaa
namespace Go.Proofs.Yteebobbhhgmeiaa
open Go.RowKit Go.WideShapes Go.ChangeShapes
theorem Bbx {H:Type}:∀l:List (DataW H),l.length≤Rows.uptoBulkAll l
 | []=>Nat.zero_le _
 | d::r=>by
  have h1:=Bbx r
  have h2:1≤Rows.uptoBulk d:=by
   cases d with
   |lit x=>cases x<;>simp[Rows.uptoBulk]
   |_=>simp[Rows.uptoBulk]
  simp only[Rows.uptoBulkAll,List.length_cons]
  omega
theorem Bv1 {H:Type} {l:List (DataW H)} (hk:Rows.uptoSmall H l=true):Rows.uptoBulkAll l≤1048576:=of_decide_eq_true hk
theorem B2p {F:Nat→Prop} {N:Nm} {nx:Nat} {R:World} {c:TC} {l:List (U c)} {v:Value} (h:Hv F N nx R (.sl c l) v):∃a cap,v=.slice a l.length cap:=by
 cases h
 exact⟨_,_,rfl⟩
section
variable {H:Type} {en:TypeId×Value→H} {P:Program} {w:World} {base:Nat} {spare:Nat→Bool} {held:Bool} {t e:TypeId} {v:Value} {d:DataW H} {p:List MemPlace} {r:Reach} {b0:Nat} {c:TC}
theorem Bbm (ht:P.underlying t=some (.slice e)) (h:DataW.Trod en P w base spare held t v d p) {l:List (U c)}
  (hl:∀(F:Nat→Prop) (N:Nm) (nx:Nat),FB w F→Hv F N nx w (.sl c l) v):l.length≤Rows.uptoBulk d:=by
 obtain⟨a,cap,rfl⟩:=B2p (hl (fun _=>True) ⟨fun _=>0,fun _=> .bool false⟩ 0 fun _ _=>trivial)
 obtain⟨fuel,hf⟩:=h
 rcases DataW.trod_slice ht hf with⟨h1,_⟩|⟨a',len,cap',elems,rest,n,_,h1,h2,_,_,_,h3,_⟩
 ·have e':[Value.slice a l.length cap]=[Value.slice none 0 0]:=h1
  cases l with
  |nil=>exact Nat.zero_le _
  |cons x l=>cases e'
 ·have e':[Value.slice a l.length cap]=[Value.slice (some a') len cap']:=h1
  have e2:l.length=len:=by
   injection e' with e' _
   injection e'
  have e3:d=.slice (elems.map (·.1)) (rest.map (·.1)):=(Prod.mk.inj h2).1
  rw[e3]
  have:=Bbx (elems.map (·.1))
  rw[List.length_map] at this
  simp only[Rows.uptoBulk]
  omega
end
end Go.Proofs.Yteebobbhhgmeiaa
namespace Go.Proofs.Yteebobbhhgmeiaa.modelKnowsUpto
open Go.ChangeShapes Go.WideShapes Go.ChangeAt Go.RowKit
theorem lifted (os:Os) (started:os.Started) (H:Type) (enc:TypeId×Value→H) (F0:Stop.Interp):
  ReturnsInHanded {} Try.checked os 20 .any ((Rows.OpenSpec.upto Rows.modelKnowsSpec).pre6 enc Try.prog Try.f20 Rows.modelKnowsUptoRow.domain false) (((Rows.OpenSpec.upto Rows.modelKnowsSpec).at F0).post enc Try.prog Try.f20 false true false false):=by
 refine returnsInHanded_of_cond (C:=Try.checked) (s:=(Rows.OpenSpec.upto Rows.modelKnowsSpec)) (k:=Rows.uptoSmall) rfl own started (by kernel_rfl) Try.func20
  (OpenSpec.witness (enc:=enc) (C:=Try.checked) (s:=(Rows.OpenSpec.upto Rows.modelKnowsSpec)) (k:=Rows.uptoSmall) rfl false ⟨#[],#[.slice none 0 0,.slice none 0 0,.agg #[.int .i64 0,.int .i64 0,.int .i64 0,.int .i64 0,.int .i64 0,.int .i64 0,.slice none 0 0]],[]⟩ 8 (by kernel_rfl) (by kernel_rfl) (by kernel_rfl)
   (x:=([.nil,.nil,.agg [.lit (.int .i64 0),.lit (.int .i64 0),.agg [.lit (.int .i64 0),.lit (.int .i64 0)],.agg [.lit (.int .i64 0),.lit (.int .i64 0)],.nil]],[],[])) (by kernel_rfl) rfl (by kernel_rfl)) ?_
 intro W base args ds gs before hval0 hW0 hcnd hk0 _
 suffices goal:Calls Try.prog 20 args W fun e W'=>∃v,e=.returned v∧Rows.modelKnowsSpec.post enc Try.prog Try.f20 false true false false W args v W' by exact goal
 have hW:DataW.Whole enc Try.prog Try.f20.params.toList Rows.modelKnowsSpec.vars false W args.toList ds gs before:=hW0
 have hval:∀(j:Nat) t v,Try.f20.params[j]?=some t→args[j]?=some v→Value.okWide Try.prog W .any base t v:=hval0
 have hW':=hW
 have hlt:∀x∈before,x.block <W.heap.size:=fun x hx=>hW.lt x hx
 obtain⟨p,q,hA0,hV,rfl,hfz,hnd⟩:=hW
 have hA:DataW.TrodAll enc Try.prog W 0 (fun _=>true) true Try.f20.params.toList args.toList ds p:=hA0
 rw[Try.params20] at hA hval
 have hA':=hA
 obtain⟨v0,vs0,d0,ds0,p0,q0,hargs,rfl,rfl,h0,r0⟩:=trodAll_cons hA
 obtain⟨v1,vs1,d1,ds1,p1,q1,rfl,rfl,rfl,h1,r1⟩:=trodAll_cons r0
 obtain⟨v2,vs2,d2,ds2,p2,q2,rfl,rfl,rfl,h2,r2⟩:=trodAll_cons r1
 obtain⟨rfl,rfl,rfl⟩:=trodAll_nil r2
 obtain rfl:args=#[v0,v1,v2]:=by cases args;simp_all
 obtain⟨rfl,rfl⟩:=trodVars_none hV
 obtain⟨a0,w0,g0⟩:=Bbn Try.underlying66 B2x (hval 0 66 v0 rfl rfl) h0
 obtain⟨a1,w1,g1⟩:=Bbn Try.underlying126 B1b (hval 1 126 v1 rfl rfl) h1
 obtain⟨a2,w2,g2⟩:=Bgw Try.underlying136 By9 rfl (hval 2 136 v2 rfl rfl) h2
 have hbk:=Bv1 hk0
 simp only[List.append_nil,Rows.uptoBulkAll] at hbk
 have n0:=Bbm Try.underlying66 h0 g0
 have n1:=Bbm Try.underlying126 h1 g1
 obtain⟨hn,ht⟩:=Bwv a0 a1 a2 w0 w1 w2 (by omega)
 have hc:=Akq a0 a1 a2 hn
 have hr:Ms a0 a1 a2=.v (.bool true):=by show A.v (.bool (JU a0 a1 a2))=_;rw[ht]
 rw[hr] at hc
 refine(Bri hc W [v0,v1,v2] fun F N nx hF=>HL.cons (g0 F N nx hF) (HL.cons (g1 F N nx hF) (HL.cons (g2 F N nx hF) (HL.nil)))).mono fun e W' ⟨he,bel⟩=>?_
 subst he
 have hread:∀t∈[66,126,136],Try.prog.readableRec t=true∧t <Try.prog.types.size:=by
  intro t ht
  simp only[List.mem_cons,List.not_mem_nil,or_false] at ht
  rcases ht with rfl|rfl|rfl
  all_goals exact⟨by kernel_rfl,of_decide_eq_true (by kernel_rfl)⟩
 exact⟨_,rfl,_,_,_,[],_,[],hW',trodAll_mk1 (shut_bool Try.underlying4 _),
  Zz bel _ _ _ _ hread hA' (fun x hx=>hlt x (by simpa using hx)),rfl,bel.frame _,fun h=>by cases h⟩
theorem tA:Try.prog.funcNamed Rows.modelKnowsUptoRow.func=some 20:=by kernel_rfl
theorem b0:(Rows.modelKnowsUptoRow.wf (OpenSpec.ofChange (Rows.OpenSpec.upto Rows.modelKnowsSpec).bare))=true:=by kernel_rfl
theorem b1:(laidOutB Try.prog)=true:=by kernel_rfl
theorem b2:(mapsRowed Try.prog)=true:=by kernel_rfl
theorem b3:(Try.f20.params.all (Try.prog.readableRec ·))=true:=by kernel_rfl
theorem b4:(namedTie Try.prog Rows.modelKnowsUptoRow.named (Rows.OpenSpec.upto Rows.modelKnowsSpec).bare.vars)=true:=by kernel_rfl
theorem b5:((Rows.modelKnowsUptoRow.stops==[]))=true:=by kernel_rfl
theorem b6:((Try.prog.stops==[]))=true:=by kernel_rfl
theorem b7:((Rows.modelKnowsUptoRow.knobs==[]))=true:=by kernel_rfl
theorem b8:((Try.prog.stopKnobs==[]))=true:=by kernel_rfl
theorem b9:((Rows.modelKnowsUptoRow.inPlace==Try.prog.inPlace 20))=true:=by kernel_rfl
theorem b10:((Rows.modelKnowsUptoRow.unfollowed==Try.prog.unfollowed 20))=true:=by kernel_rfl
theorem b11:((Rows.modelKnowsUptoRow.recurses==Try.prog.recurses 20))=true:=by kernel_rfl
theorem b12:((Rows.modelKnowsUptoRow.named==Try.prog.varsNamed 20))=true:=by kernel_rfl
theorem b13:((Rows.modelKnowsUptoRow.maps==(Try.f20.params.toList++(Rows.OpenSpec.upto Rows.modelKnowsSpec).bare.plain.varTypes Try.prog).any (Try.prog.mapsRec ·)))=true:=by kernel_rfl
theorem b14:((Rows.modelKnowsUptoRow.ifaces==(Try.f20.params.toList++(Rows.OpenSpec.upto Rows.modelKnowsSpec).bare.plain.varTypes Try.prog).any (Try.prog.ifacesRec ·)))=true:=by kernel_rfl
theorem b15:((Rows.modelKnowsUptoRow.mapsOut==Try.prog.mapsAmong Try.f20.resultTypes.toList))=true:=by kernel_rfl
theorem b16:((Rows.modelKnowsUptoRow.loops==(Try.f20.params.toList++(Rows.OpenSpec.upto Rows.modelKnowsSpec).bare.plain.varTypes Try.prog).any (Try.prog.loopsFrom ·)))=true:=by kernel_rfl
theorem b17:((Rows.modelKnowsUptoRow.wideKeys==(Try.f20.params.toList++(Rows.OpenSpec.upto Rows.modelKnowsSpec).bare.plain.varTypes Try.prog++Try.f20.resultTypes.toList).any (Try.prog.wideKeysFrom ·)))=true:=by kernel_rfl
theorem b18:((Rows.OpenSpec.upto Rows.modelKnowsSpec).bare.vars.all (Try.prog.varReadable ·))=true:=by kernel_rfl
theorem b19:(Try.f20.resultTypes.all (fun t=>Try.prog.readableRec t&&decide (t <Try.prog.types.size)))=true:=by kernel_rfl
theorem b20:((Rows.modelKnowsUptoRow.ifacesOut==Try.f20.resultTypes.toList.any (Try.prog.ifacesRec ·)))=true:=by kernel_rfl
theorem b21:((Rows.modelKnowsUptoRow.loopsOut==Try.f20.resultTypes.toList.any (Try.prog.loopsFrom ·)))=true:=by kernel_rfl
theorem b22:((Rows.modelKnowsUptoRow.plainKeys==Try.prog.plainKeys))=true:=by kernel_rfl
theorem b23:(Rows.modelKnowsUptoRow.shortTexts.isNone)=true:=by kernel_rfl
theorem b24:(Try.prog.stopsHeard)=true:=by kernel_rfl
theorem b25:(Try.prog.mayEnter)=true:=by kernel_rfl
theorem b26:((Rows.modelKnowsUptoRow.lifted==Try.prog.liftsFinal))=true:=by kernel_rfl
theorem b27:((Try.prog.make==some Rows.modelKnowsUptoRow.make))=true:=by kernel_rfl
theorem b28:((Rows.modelKnowsUptoRow.kinds==(if Rows.modelKnowsUptoRow.domain.isEmpty then[] else Try.f20.params.toList.map fun t=>match Try.prog.underlying t with|some (.int k)=>some k|_=>none)))=true:=by kernel_rfl
theorem b29:((Rows.modelKnowsUptoRow.pinned==Rows.modelKnowsUptoRow.pinnedBy))=true:=by kernel_rfl
theorem b30:((Rows.modelKnowsUptoRow.veiled==(Try.f20.params.toList++(Rows.OpenSpec.upto Rows.modelKnowsSpec).bare.plain.varTypes Try.prog++Try.f20.resultTypes.toList).any (Try.prog.veiledRec ·)))=true:=by kernel_rfl
theorem b31:(Rows.modelKnowsUptoRow.veiledFits Try.prog Try.f20.params.toList (Try.f20.params.toList++(Rows.OpenSpec.upto Rows.modelKnowsSpec).bare.plain.varTypes Try.prog++Try.f20.resultTypes.toList))=true:=by kernel_rfl
theorem KA {a b:Bool} (h:a=true) (g:b=true):(a&&b)=true:=by rw[h,g];rfl
theorem tB:joinedFacts Try.prog 20 Try.f20 (Rows.OpenSpec.upto Rows.modelKnowsSpec).bare Rows.modelKnowsUptoRow=true:=by
 unfold joinedFacts
 exact(KA (KA (KA (KA (KA (KA (KA (KA (KA (KA (KA (KA (KA (KA (KA (KA (KA (KA (KA (KA (KA (KA (KA (KA (KA (KA (KA (KA (KA (KA (KA b0 b1) b2) b3) b4) b5) b6) b7) b8) b9) b10) b11) b12) b13) b14) b15) b16) b17) b18) b19) b20) b21) b22) b23) b24) b25) b26) b27) b28) b29) b30) b31)
theorem tC:Try.f20.isInstance Try.prog Rows.modelKnowsUptoRow.origin Rows.modelKnowsUptoRow.targs:=of_decide_eq_true (by kernel_rfl)
theorem tD0:decide (Check.packageOf Try.f20.name= "main")=false:=by kernel_rfl
theorem tD:Try.f20.isWrapper Try.prog Rows.modelKnowsUptoRow.wrapper Rows.modelKnowsUptoRow.mainSum:=by
 unfold Func.isWrapper
 rw[if_neg (of_decide_eq_false tD0)]
 exact⟨rfl,rfl⟩
theorem over:Rows.modelKnowsUptoRow.holds Try.pinned (Rows.OpenSpec.upto Rows.modelKnowsSpec):=
 OpenClaim.holds_of_cond 20 Try.f20 rfl rfl rfl rfl rfl rfl rfl ⟨rfl,rfl,rfl,rfl,rfl⟩ rfl rfl rfl rfl rfl tA Try.func20 tB tC tD
  (fun os started H enc _ F=>lifted os started H enc F)
theorem proved:Rows.ModelKnowsUptoSaid:=over
end Go.Proofs.Yteebobbhhgmeiaa.modelKnowsUpto
