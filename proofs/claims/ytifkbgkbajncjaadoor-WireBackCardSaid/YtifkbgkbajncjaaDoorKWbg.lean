/- made by a program (rowgen.py): WireBack: for every input the law returns true, and each argument reads behind the call as it read before. -/
import Derived.Test.YtifkbgkbajncjaaDoorKWbf

set_option maxRecDepth 100000
noncomputable section
namespace Go.Proofs.YtifkbgkbajncjaaDoor
open Go.RowKit
def T0 (l:List Ae) (cs:List AG) (i:Nat):Ak:=(List.range i).flatMap fun j=>Kf (RD l j) (IX cs j)
theorem Tv (l:List Ae) (cs:List AG) (i:Nat):T0 l cs (i+1)=T0 l cs i++Kf (RD l i) (IX cs i):=by
 unfold T0
 rw[List.range_succ,List.flatMap_append]
 simp
theorem Azy {l:List Ae} {cs:List AG} (hl:cs.length=l.length):∀i,i≤l.length→Ls l cs i=T0 l cs i
 |0,_=>by simp[Ls,T0]
 |i+1,h=>by rw[W7 hl (by omega),Tv,Azy hl i (by omega)]
theorem Akm {cs:List AG} {x:AG} {j:Nat} (h:j <cs.length):IX (cs++[x]) j=IX cs j:=by
 unfold IX
 rw[List.getD_eq_getElem?_getD,List.getD_eq_getElem?_getD,List.getElem?_append_left h]
theorem Avw (cs:List AG) (x:AG):IX (cs++[x]) cs.length=x:=by
 unfold IX
 rw[List.getD_eq_getElem?_getD]
 simp
theorem A6f (l:List Ae) (cs:List AG) (x:AG) (i:Nat) (_h:i≤cs.length):T0 l (cs++[x]) i=T0 l cs i:=by
 induction i with
 |zero=>simp[T0]
 |succ i ih=>rw[Tv,Tv,ih (by omega),Akm (by omega)]
theorem Akz {b pre:Ak} {l:List Ae} (hb:∃r,b=pre++r):∀i,(∀j,j <i→O1 b l (pre.length:Int) j=false)→
  (∃r,b=pre++(T0 l (csN b l (pre.length:Int) i) i++r))∧Le b l (pre.length:Int) i=((pre++T0 l (csN b l (pre.length:Int) i) i).length:Int)∧∀j,j <i→HI (RD l j) (IX (csN b l (pre.length:Int) i) j)=true
 |0,_=>⟨hb,by simp[Le,T0],fun j hj=>absurd hj (Nat.not_lt_zero _)⟩
 | i+1,h=>by
  obtain⟨⟨r,h1⟩,h2,h3⟩:=Akz hb i fun j hj=>h j (by omega)
  have hc:=h i (Nat.lt_succ_self i)
  unfold O1 at hc
  have h0:(Oo b l (Le b l (pre.length:Int) i) i).2.2=0:=by simpa using hc
  have hg:Lv (b.drop (Le b l (pre.length:Int) i).toNat) (RD l i)=((Oo b l (Le b l (pre.length:Int) i) i).1,(Oo b l (Le b l (pre.length:Int) i) i).2.1,0):=by
   rw[←h0];rfl
  obtain⟨g1,g2,r',g3⟩:=Ae5 hg
  have hlen:=Amx b l (pre.length:Int) i
  have ca:csN b l (pre.length:Int) (i+1)=csN b l (pre.length:Int) i++[(Oo b l (Le b l (pre.length:Int) i) i).1]:=rfl
  have kg:IX (csN b l (pre.length:Int) (i+1)) i=(Oo b l (Le b l (pre.length:Int) i) i).1:=by
   rw[ca]
   conv=>lhs;rw[←hlen]
   rw[hlen]
   have:=Avw (csN b l (pre.length:Int) i) (Oo b l (Le b l (pre.length:Int) i) i).1
   rw[hlen] at this
   exact this
  have nr:T0 l (csN b l (pre.length:Int) (i+1)) (i+1)=T0 l (csN b l (pre.length:Int) i) i++Kf (RD l i) (Oo b l (Le b l (pre.length:Int) i) i).1:=by
   rw[Tv,kg,ca,A6f _ _ _ _ (by omega)]
  have hr:r=Kf (RD l i) (Oo b l (Le b l (pre.length:Int) i) i).1++r':=by
   have hn:(Le b l (pre.length:Int) i).toNat=(pre++T0 l (csN b l (pre.length:Int) i) i).length:=by rw[h2,Int.toNat_natCast]
   rw[hn] at g3
   rw[←g3]
   have:=congrArg (List.drop (pre++T0 l (csN b l (pre.length:Int) i) i).length) h1
   rw[←List.append_assoc,List.drop_left] at this
   exact this.symm
  refine⟨⟨r',?_⟩,?_,fun j hj=>?_⟩
  ·rw[nr,List.append_assoc,←hr]
   exact h1
  ·show Le b l (pre.length:Int) i+(Oo b l (Le b l (pre.length:Int) i) i).2.1=_
   rw[nr,g2,h2]
   simp only[List.length_append]
   omega
  ·by_cases e:j=i
   ·subst e
    rw[kg]
    exact g1
   ·rw[ca,Akm (by omega)]
    exact h3 j (by omega)
def T2 (l:List Ae) (b:Ak):AW×Int×Int:=(⟨T1 b l,R8 b l⟩,R7 b l,Qr b l)
theorem rdR (l:List Ae):Rd (T2 l) (fun r=>BJ l r=0) (Fh l) where
 back:=fun r x h=>by
  obtain⟨h1,h2,h3,h4⟩:=Bc3 h x
  unfold T2
  rw[h1,h2,h3,h4]
 front:=fun b x k h=>by
  unfold T2 at h
  injection h with h1 h
  injection h with h2 h3
  subst h1 h2
  have hK:T1 b l=(CA b 32).1:=by unfold T1;rw[h3];rfl
  have hA:R7 b l=Le b l (CA b 32).2.1 l.length:=by unfold R7;rw[h3];rfl
  have hL:R8 b l=csN b l (CA b 32).2.1 l.length:=by unfold R8;rw[h3];rfl
  have nw:A1 l=0:=by
   unfold Qr at h3
   cases hg:A1 l !=0 with
   |true=>rw[hg,cond_true] at h3;exact h3
   |false=>simpa using hg
  have iy:UD b=true:=by
   unfold Qr at h3
   rw[nw] at h3
   cases hg:UD b with
   |true=>rfl
   |false=>rw[hg] at h3;cases h3
  have aj:∀i,i <l.length→O1 b l (CA b 32).2.1 i=false:=fun i hi=>by
   unfold Qr at h3
   rw[nw,iy] at h3
   cases hg:JL l.length (fun i=>!O1 b l (CA b 32).2.1 i) with
   |true=>
    have:=Fp.1 hg i hi
    simpa using this
   |false=>rw[hg] at h3;cases h3
  unfold UD at iy
  have bu:(CA b 32).2.2=0∧(CA b 32).1≠⟨#[]⟩:=by
   simp only[Bool.not_eq_true',Bool.or_eq_false_iff,bne_eq_false_iff_eq,beq_eq_false_iff_ne] at iy
   exact iy
  obtain⟨t1,t2,t3⟩:=(rdT (m:=32) (by decide)).front b (CA b 32).1 (CA b 32).2.1 (by rw[←bu.1])
  rw[t2] at aj hL hA
  obtain⟨⟨r,g1⟩,g2,g3⟩:=Akz t3 l.length aj
  have hlen:(R8 b l).length=l.length:=by rw[hL,Amx]
  have kc:BJ l ⟨T1 b l,R8 b l⟩=0:=by
   unfold BJ
   have hz:((T1 b l).size==0)=false:=by
    rw[beq_eq_false_iff_ne,hK]
    intro e
    apply bu.2
    generalize (CA b 32).1=y at e
    obtain⟨⟨y⟩⟩:=y
    cases y with
    |nil=>rfl
    |cons z y=>cases e
   have ue:decide (32 <(T1 b l).size)=false:=decide_eq_false (by rw[hK];have t1':((CA b 32).1.size:Int)≤32:=t1;omega)
   have kj:((R8 b l).length !=l.length)=false:=by rw[hlen];simp
   have hal:(l.zip (R8 b l)).all (fun x=>HI x.1.policy x.2)=true:=(A0c hlen).2 (by rw[hL];exact g3)
   show(bif A1 l !=0 then A1 l else bif(T1 b l).size==0 then 2 else bif decide (32 <(T1 b l).size) then 3 else bif(R8 b l).length !=l.length then 100 else bif(l.zip (R8 b l)).all (fun x=>HI x.1.policy x.2) then 0 else 80)=(0:Int)
   rw[nw,hz,ue,kj,hal]
   rfl
  have cq:Fh l ⟨T1 b l,R8 b l⟩=Hm (CA b 32).1++T0 l (csN b l ((Hm (CA b 32).1).length:Int) l.length) l.length:=by
   unfold Fh Aoh
   rw[kc]
   show Hm (T1 b l)++(l.zip (R8 b l)).flatMap (fun x=>Kf x.1.policy x.2)=_
   rw[←Adi hlen,Azy hlen _ (Nat.le_refl _),hK,hL]
  refine⟨kc,?_,r,?_⟩
  ·rw[cq,hA,g2]
  ·rw[cq,List.append_assoc]
   exact g1
theorem Bh1 (l:List Ae):LQ (Ps.ofG (T2 l)) (fun r=>BJ l r=0) (Fh l):=LQ.ofRd (rdR l)
def QH (l:List Ae):Ps Ar:=Ps.bind psC fun c=>if OW l c=0 then Ps.pure c else Ps.fail
theorem Blm {l:List Ae} {w:AY} (h:Aj7 l w=true) (_hl:(l.length:Int)≤4):rdW w:=by
 obtain⟨_,h2,h3,h4,h5,h6⟩:=Aqf h
 refine⟨by omega,⟨h3,by omega⟩,fun hg=>?_,fun _=>by omega⟩
 have h0:=h6 hg
 generalize w.value=y at h0
 obtain⟨⟨y⟩⟩:=y
 cases y with
 |nil=>rfl
 |cons z y=>cases h0
theorem Bju {l:List Ae} {c:Ar} (h:OW l c=0):rdC c:=by
 obtain⟨h1,h2,h3,h4⟩:=A5l.1 h
 obtain⟨g1,g2,g3,_,g5,g6⟩:=A27 h2
 obtain⟨k1,k2⟩:=Aec h
 have hl:=(Qu h1).2
 refine⟨?_,⟨by omega,by omega⟩,g5,g6,k1,fun w hw=>Blm (k2 w hw) (by omega)⟩
 rcases g1 with e|e<;>rw[e]<;>exact⟨by omega,by omega⟩
theorem Atp {l:List Ae} {c:Ar} (h:OW l c=0):Kg l c=Aog c:=by
 unfold Kg
 rw[h]
 rfl
theorem Alj (l:List Ae):LQ (QH l) (fun c=>OW l c=0) (Kg l) where
 back:=fun c r h=>by
  unfold QH
  rw[Atp h,Bh0.next (Bju h),if_pos h]
  rfl
 front:=fun b c r h=>by
  unfold QH at h
  obtain⟨c',r',a1,e1⟩:=Ps.bind_is h
  clear h
  split at e1
  ·rename_i hc
   cases e1
   exact⟨hc,by rw[Atp hc];exact(Bh0.front _ _ _ a1).2⟩
  ·cases e1
def A3q:Ps (List Int):=Ps.bind (Ps.ofG Am) fun n=>if 2 <n then Ps.fail else Ps.many (Ps.ofG Am) n.toNat
def Blc (p:List Int):Prop:=p.length≤2∧∀x∈p,Wy x
theorem Ato:LQ A3q Blc JH where
 back:=fun p r h=>by
  unfold A3q JH
  rw[List.append_assoc,HZ.next ⟨by omega,by have:=h.1;omega⟩,if_neg (by have:=h.1;omega),Int.toNat_natCast]
  exact(HZ.many p.length).back p r ⟨rfl,h.2⟩
 front:=fun b p r h=>by
  unfold A3q at h
  obtain⟨n,r1,a1,e1⟩:=Ps.bind_is h
  clear h
  split at e1
  ·cases e1
  rename_i hn
  obtain⟨⟨g1,g2⟩,g3⟩:=(HZ.many n.toNat).front _ _ _ e1
  obtain⟨g4,g5⟩:=HZ.front _ _ _ a1
  have e:(p.length:Int)=n:=by rw[g1];exact Int.toNat_of_nonneg g4.1
  refine⟨⟨by omega,g2⟩,?_⟩
  unfold JH
  rw[e,List.append_assoc,g5,g3]
def dgs (b:Ak):List Ak:=(List.range (b.length / 32)).map fun i=>(b.drop (32*i)).take 32
def Axl:Ps (List Ak):=fun b=>if b.length % 32=0 then some (dgs b,[]) else none
theorem Atq {d:Ak} (h:d.length=32):Ft d=d:=by
 unfold Ft
 apply List.ext_getElem
 ·rw[List.length_map,List.length_range,h]
 ·intro i h1 h2
  rw[List.getElem_map,List.getElem_range,List.getD_eq_getElem?_getD,List.getElem?_eq_getElem h2]
  rfl
theorem Aeq {d:Ak} (h:d.length=32) (b:Ak):dgs (d++b)=d::dgs b:=by
 unfold dgs
 rw[List.length_append,h,show(32+b.length) / 32=b.length / 32+1 by omega,List.range_succ_eq_map,List.map_cons,List.map_map]
 congr 1
 ·rw[Nat.mul_zero,List.drop_zero,List.take_append_of_le_length (by omega),List.take_of_length_le (by omega)]
 ·apply List.map_congr_left
  intro i _
  show List.take 32 (List.drop (32*(i+1)) (d++b))=_
  rw[show 32*(i+1)=d.length+32*i by omega,←List.drop_drop,List.drop_left]
theorem Auu:∀{l:List Ak},(∀d∈l,d.length=32)→(l.flatMap Ft).length=32*l.length
 | [],_=>rfl
 |d::l,h=>by
  rw[List.flatMap_cons,List.length_append,Zs,Auu fun x hx=>h x (List.mem_cons_of_mem _ hx),List.length_cons]
  omega
theorem Arq:∀{l:List Ak},(∀d∈l,d.length=32)→dgs (l.flatMap Ft)=l
 | [],_=>rfl
 |d::l,h=>by
  have hd:=h d (List.mem_cons_self ..)
  rw[List.flatMap_cons,Atq hd,Aeq hd,Arq fun x hx=>h x (List.mem_cons_of_mem _ hx)]
theorem Aks:∀(n:Nat) (b:Ak),b.length=32*n→(dgs b).flatMap Ft=b∧∀d∈dgs b,d.length=32
 |0,b,h=>by
  obtain rfl:=List.length_eq_zero_iff.1 (by omega:b.length=0)
  exact⟨rfl,fun d hd=>by cases hd⟩
 | n+1,b,h=>by
  have ht:(b.take 32).length=32:=by rw[List.length_take];omega
  obtain⟨h1,h2⟩:=Aks n (b.drop 32) (by rw[List.length_drop];omega)
  have e:dgs b=b.take 32::dgs (b.drop 32):=by
   have:=Aeq ht (b.drop 32)
   rwa[List.take_append_drop] at this
  rw[e]
  refine⟨by rw[List.flatMap_cons,Atq ht,h1,List.take_append_drop],fun d hd=>?_⟩
  rcases List.mem_cons.1 hd with rfl|hd
  ·exact ht
  ·exact h2 d hd
def HT:AS:=⟨0,0,⟨0,0,⟨0,0⟩,⟨0,0⟩,[]⟩,0,0,[],[],[],⟨0,0⟩,false⟩
def A8l (l:List Ae) (k s:Int) (p:List Int):Ps AS:=Ps.bind (Ps.ofG Ah) fun v=>Ps.bind (Ps.ofG Am) fun o=>if 1 <o then Ps.fail else Ps.bind (Ps.ofG Am) fun n=>
 if 256 <n then Ps.fail else Ps.bind (Ps.many (Ps.ofG (T2 l)) n.toNat) fun rs=>Ps.pure ⟨k,s,HT.change,0,0,p,[],rs,v,o==1⟩
def psM (l:List Ae):Ps AS:=Ps.bind (Ps.ofG Am) fun k=>Ps.bind (Ps.ofG Am) fun s=>
 if k=1 then Ps.bind (QH l) fun c=>Ps.pure ⟨k,s,c,0,0,[],[],[],⟨0,0⟩,false⟩
 else if k=2 then Ps.bind (Ps.ofG Am) fun a=>Ps.bind (Ps.ofG Am) fun o=>Ps.pure ⟨k,s,HT.change,a,o,[],[],[],⟨0,0⟩,false⟩
 else Ps.bind A3q fun p=>if k=5 then A8l l k s p else Ps.bind Axl fun d=>Ps.pure ⟨k,s,HT.change,0,0,p,d,[],⟨0,0⟩,false⟩
def A5u (l:List Ae) (b:Ak):Option AS:=match psM l b with
 |some (m,[])=>if Dn l m=0 then some m else none
 |_=>none
theorem Bml {c:Ar} (h:zC c=true):c=HT.change:=by
 obtain⟨a,q,⟨n,t⟩,⟨u,v⟩,ws⟩:=c
 unfold zC at h
 simp only[Bool.and_eq_true,beq_iff_eq,List.length_eq_zero_iff] at h
 obtain⟨⟨⟨⟨rfl,rfl⟩,rfl,rfl⟩,rfl,rfl⟩,rfl⟩:=h
 rfl
theorem Bmm {m:AS} (h:zL m=true):m.rows=[]∧m.know=⟨0,0⟩∧m.back=false:=by
 unfold zL at h
 simp only[Bool.and_eq_true,beq_iff_eq,List.length_eq_zero_iff,Bool.not_eq_true'] at h
 obtain⟨⟨h1,h2,h3⟩,h4⟩:=h
 exact⟨h1,Apq h2 h3,h4⟩
theorem Bmk {m:AS} (h:zA m=true):m.ack=0∧m.own=0:=by
 unfold zA at h
 simpa using h
theorem Bcw {p:List Int} (h:Rh p=true):Blc p:=by
 unfold Rh at h
 rw[Bool.and_eq_true,decide_eq_true_eq] at h
 refine⟨h.2,fun x hx=>?_⟩
 obtain⟨i,hi,rfl⟩:=List.mem_iff_getElem.1 hx
 have:=Fp.1 h.1 i hi
 rw[Bool.and_eq_true,decide_eq_true_eq,decide_eq_true_eq,List.getD_eq_getElem?_getD,List.getElem?_eq_getElem hi] at this
 exact⟨this.1,by have:=this.2;simp only[Option.getD_some] at this;omega⟩
theorem A35 {l:List Ae} {rs:List AW} (h:Pn l rs=0):∀r∈rs,BJ l r=0:=fun r hr=>by
 obtain⟨i,hi,rfl⟩:=List.mem_iff_getElem.1 hr
 have:=(Bha.1 ((Bb3.1 h).2 i hi)).1
 have e:Ly rs i=rs[i]:=by unfold Ly;rw[List.getD_eq_getElem?_getD,List.getElem?_eq_getElem hi];rfl
 rwa[e] at this
theorem A5f {m:AS} (h:Uo m=true):((m.kind=3∨m.kind=4)∨m.sums=[])∧(m.kind=2∨(m.ack=0∧m.own=0))∧(((m.kind=3∨m.kind=4)∨m.kind=5)∨m.path=[])∧(m.kind=5∨(m.rows=[]∧m.know=⟨0,0⟩∧m.back=false))∧(m.kind=1∨m.change=HT.change):=by
 unfold Uo at h
 simp only[Bool.and_eq_true,Bool.or_eq_true,beq_iff_eq,List.length_eq_zero_iff] at h
 obtain⟨⟨⟨⟨h1,h2⟩,h3⟩,h4⟩,h5⟩:=h
 exact⟨h1,h2.imp id Bmk,h3,h4.imp id Bmm,h5.imp id Bml⟩
theorem A8m {l:List Ae} {m:AS} (h:okW l m=true) (hs:∀d∈m.sums,d.length=32):psM l (JE l m)=some (m,[]):=by
 unfold okW at h
 simp only[Bool.and_eq_true,Bool.or_eq_true,beq_iff_eq] at h
 obtain⟨⟨⟨hb,hp⟩,kq⟩,hk⟩:=h
 obtain⟨b1,b2,b3,b4,b5⟩:=A5f hb
 have si:=Bcw hp
 have oy:Wy m.site:=by rcases kq with e|e<;>rw[e]<;>exact⟨by omega,by omega⟩
 obtain⟨k,s,c,a,o,p,d,rs,v,bk⟩:=m
 simp only at hs b1 b2 b3 b4 b5 si oy
 have iy:k=1∨k=2∨k=3∨k=4∨k=5:=by
  unfold Afd at hk
  rcases kinds k with⟨q,_⟩|⟨_,q,_⟩|⟨_,_,q,_⟩|⟨_,_,_,q,_⟩|⟨_,_,_,_,q⟩|⟨q1,q2,q3,q4,q5⟩
  ·exact .inl (by simpa using q)
  ·exact .inr (.inl (by simpa using q))
  ·exact .inr (.inr (.inl (by simpa using q)))
  ·exact .inr (.inr (.inr (.inl (by simpa using q))))
  ·exact .inr (.inr (.inr (.inr (by simpa using q))))
  ·simp only[q1,q2,q3,q4,q5,cond_false] at hk
   cases hk
 have jg:Wy k:=by rcases iy with e|e|e|e|e<;>rw[e]<;>exact⟨by omega,by omega⟩
 have plain:∀{t:Ak},k≠1→k≠2→k≠5→d.flatMap Ft=t→rs=[]→v=⟨0,0⟩→bk=false→a=0→o=0→c=HT.change→psM l (AE k++(AE s++(JH p++t)))=some (⟨k,s,c,a,o,p,d,rs,v,bk⟩,[]):=fun {t} n1 n2 n5 et e1 e2 e3 e4 e5 e6=>by
  subst et e1 e2 e3 e4 e5 e6
  unfold psM
  rw[HZ.next jg,HZ.next oy,if_neg n1,if_neg n2,Ato.next si,if_neg n5]
  have e:Axl (d.flatMap Ft)=some (d,[]):=by
   unfold Axl
   rw[if_pos (by rw[Auu hs];omega),Arq hs]
  rw[Ps.bind_at e]
  rfl
 unfold JE A9c
 rcases iy with rfl|rfl|rfl|rfl|rfl
 ·have hc:OW l c=0:=by
   have ai:(c.site==s&&OW l c==0)=true:=hk
   simp only[Bool.and_eq_true,beq_iff_eq] at ai
   exact ai.2
  obtain rfl:=b1.resolve_left (by omega)
  obtain⟨rfl,rfl⟩:=b2.resolve_left (by omega)
  obtain rfl:=b3.resolve_left (by omega)
  obtain⟨rfl,rfl,rfl⟩:=b4.resolve_left (by omega)
  show psM l (AE 1++(AE s++Kg l c))=_
  unfold psM
  have e:=(Alj l).back c [] hc
  rw[List.append_nil] at e
  rw[HZ.next jg,HZ.next oy,if_pos rfl,Ps.bind_at e]
  rfl
 ·have hc:Wy a∧Wy o:=by
   have ai:(ZH a&&ZH o)=true:=hk
   unfold ZH at ai
   simp only[Bool.and_eq_true,decide_eq_true_eq] at ai
   obtain⟨⟨g1,g2⟩,g3,g4⟩:=ai
   exact⟨⟨g1,by omega⟩,g3,by omega⟩
  obtain rfl:=b1.resolve_left (by omega)
  obtain rfl:=b3.resolve_left (by omega)
  obtain⟨rfl,rfl,rfl⟩:=b4.resolve_left (by omega)
  obtain rfl:=b5.resolve_left (by omega)
  show psM l (AE 2++(AE s++(AE a++AE o)))=_
  unfold psM
  have e:=HZ.back o [] hc.2
  rw[List.append_nil] at e
  rw[HZ.next jg,HZ.next oy,if_neg (by omega),if_pos rfl,HZ.next hc.1,Ps.bind_at e]
  rfl
 ·obtain⟨e1,e2⟩:=b2.resolve_left (by omega)
  obtain⟨e3,e4,e5⟩:=b4.resolve_left (by omega)
  show psM l (AE 3++(AE s++(JH p++(d.flatMap Ft++[]))))=_
  exact plain (by omega) (by omega) (by omega) (List.append_nil _).symm e3 e4 e5 e1 e2 (b5.resolve_left (by omega))
 ·obtain⟨e1,e2⟩:=b2.resolve_left (by omega)
  obtain⟨e3,e4,e5⟩:=b4.resolve_left (by omega)
  show psM l (AE 4++(AE s++(JH p++(d.flatMap Ft++[]))))=_
  exact plain (by omega) (by omega) (by omega) (List.append_nil _).symm e3 e4 e5 e1 e2 (b5.resolve_left (by omega))
 ·have hc:rs.length≤256∧EP v=true∧Pn l rs=0:=by
   have ai:((p.length:Int)==2&&decide ((rs.length:Int)≤256)&&EP v&&Pn l rs==0)=true:=hk
   simp only[Bool.and_eq_true,beq_iff_eq,decide_eq_true_eq] at ai
   obtain⟨⟨⟨_,g2⟩,g3⟩,g4⟩:=ai
   exact⟨by omega,g3,g4⟩
  obtain⟨c1,c2,c3⟩:=hc
  obtain rfl:=b1.resolve_left (by omega)
  obtain⟨rfl,rfl⟩:=b2.resolve_left (by omega)
  obtain rfl:=b5.resolve_left (by omega)
  show psM l (AE 5++(AE s++(JH p++([]++(GY v++(AE (bif bk then 1 else 0)++(AE (rs.length:Int)++rs.flatMap (Fh l))))))))=_
  have e:=((Bh1 l).many rs.length).back rs [] ⟨rfl,A35 c3⟩
  rw[List.append_nil] at e
  have rf:Wy (bif bk then 1 else 0)∧¬(1 <(bif bk then 1 else 0:Int))∧((bif bk then 1 else 0:Int)==1)=bk:=by cases bk<;>exact⟨⟨by decide,by decide⟩,by decide,rfl⟩
  rw[List.nil_append]
  unfold psM
  rw[HZ.next jg,HZ.next oy,if_neg (by omega),if_neg (by omega),Ato.next si,if_pos rfl]
  unfold A8l
  rw[Bc0.next c2,HZ.next rf.1,if_neg rf.2.1,HZ.next ⟨by omega,by omega⟩,if_neg (by omega),Int.toNat_natCast,Ps.bind_at e,rf.2.2]
  rfl
theorem A3p {l:List Ae} {b:Ak} {m:AS} (h:psM l b=some (m,[])) (hk:m.kind=1∨m.kind=2∨m.kind=3∨m.kind=4∨m.kind=5):b=JE l m∧∀d∈m.sums,d.length=32:=by
 unfold psM at h
 obtain⟨k,r1,a1,e1⟩:=Ps.bind_is h
 clear h
 obtain⟨s,r2,a2,e2⟩:=Ps.bind_is e1
 clear e1
 obtain⟨_,rfl⟩:=HZ.front _ _ _ a1
 obtain⟨_,rfl⟩:=HZ.front _ _ _ a2
 clear a1 a2
 split at e2
 ·rename_i h1
  subst h1
  obtain⟨c,r3,a3,e3⟩:=Ps.bind_is e2
  clear e2
  obtain⟨_,rfl⟩:=(Alj l).front _ _ _ a3
  cases e3
  refine⟨?_,fun d hd=>by cases hd⟩
  show _=AE 1++(AE s++Kg l c)
  rw[List.append_nil]
 rename_i n1
 split at e2
 ·rename_i h2
  subst h2
  obtain⟨x,r3,a3,e3⟩:=Ps.bind_is e2
  clear e2
  obtain⟨y,r4,a4,e4⟩:=Ps.bind_is e3
  clear e3
  obtain⟨_,rfl⟩:=HZ.front _ _ _ a3
  obtain⟨_,rfl⟩:=HZ.front _ _ _ a4
  cases e4
  refine⟨?_,fun d hd=>by cases hd⟩
  show _=AE 2++(AE s++(AE x++AE y))
  rw[List.append_nil]
 rename_i n2
 obtain⟨p,r3,a3,e3⟩:=Ps.bind_is e2
 clear e2
 obtain⟨_,rfl⟩:=Ato.front _ _ _ a3
 clear a3
 split at e3
 ·rename_i h5
  subst h5
  unfold A8l at e3
  obtain⟨v,r4,a4,e4⟩:=Ps.bind_is e3
  clear e3
  obtain⟨o,r5,a5,e5⟩:=Ps.bind_is e4
  clear e4
  split at e5
  ·cases e5
  rename_i ho
  obtain⟨n,r6,a6,e6⟩:=Ps.bind_is e5
  clear e5
  split at e6
  ·cases e6
  obtain⟨rs,r7,a7,e7⟩:=Ps.bind_is e6
  clear e6
  obtain⟨_,rfl⟩:=Bc0.front _ _ _ a4
  obtain⟨o1,rfl⟩:=HZ.front _ _ _ a5
  obtain⟨n1,rfl⟩:=HZ.front _ _ _ a6
  obtain⟨⟨g1,_⟩,rfl⟩:=((Bh1 l).many _).front _ _ _ a7
  cases e7
  refine⟨?_,fun d hd=>by cases hd⟩
  show _=AE 5++(AE s++(JH p++([]++(GY v++(AE (bif o==1 then 1 else 0)++(AE (rs.length:Int)++rs.flatMap (Fh l)))))))
  have hn:(rs.length:Int)=n:=by rw[g1];exact Int.toNat_of_nonneg n1.1
  have hb:(bif o==1 then 1 else 0:Int)=o:=by
   have:=o1.1
   by_cases e:o=1
   ·subst e;rfl
   ·rw[show(o==1)=false by simpa using e,cond_false];omega
  rw[hn,hb,List.nil_append,List.append_nil]
 ·rename_i n5
  obtain⟨d,r4,a4,e4⟩:=Ps.bind_is e3
  clear e3
  unfold Axl at a4
  split at a4
  ·rename_i hm
   cases a4
   cases e4
   obtain⟨g1,g2⟩:=Aks (r3.length / 32) r3 (by omega)
   refine⟨?_,g2⟩
   have ai:k=3∨k=4:=by
    rcases hk with e|e|e|e|e
    ·exact absurd e n1
    ·exact absurd e n2
    ·exact .inl e
    ·exact .inr e
    ·exact absurd e n5
   rcases ai with rfl|rfl
   ·show _=AE 3++(AE s++(JH p++((dgs r3).flatMap Ft++[])))
    rw[g1,List.append_nil]
   ·show _=AE 4++(AE s++(JH p++((dgs r3).flatMap Ft++[])))
    rw[g1,List.append_nil]
  ·cases a4
theorem Alg {x:Ak} (hx:x.length≤1048576) (r:Ak):GG (EY x++r)=0∧AA (EY x++r)=((EY x).length:Int)∧Az (EY x++r)=x:=by
 have hb:EY x++r=181::(AE (x.length:Int)++(x++(A89 (OI (181::(AE (x.length:Int)++x)))++r))):=by
  rw[A12 hx]
  simp only[List.cons_append,List.append_assoc]
 have hh:Dh (EY x++r)=((x.length:Int),(IZ (x.length:Int):Int),0):=by
  rw[hb]
  exact A0a (by omega) (by omega) _
 have hl:=Au6 hx
 have ha:IW (EY x++r)=((EY x).length:Int):=by
  unfold IW
  rw[hh,hl]
  show 1+(IZ (x.length:Int):Int)+(x.length:Int)+4=_
  omega
 have ht:(EY x++r).take (IW (EY x++r)).toNat=EY x:=by rw[ha,Int.toNat_natCast,List.take_left]
 have hlen:(EY x++r).length=(EY x).length+r.length:=List.length_append
 have h0:GG (EY x++r)=0:=by
  unfold GG
  rw[ht,Ay0 hx,hh,ha,hlen,decide_eq_false (by show ¬(1048576:Int) <(x.length:Int);omega),decide_eq_false (by omega)]
  have h1:((EY x++r).getD 0 0==181)=true:=by rw[hb];rfl
  have h2:((EY x).length+r.length==0)=false:=beq_eq_false_iff_ne.2 (by omega)
  rw[h1,h2]
  rfl
 refine⟨h0,?_,?_⟩
 ·unfold AA
  rw[h0]
  exact ha
 ·unfold Az
  rw[h0,hh]
  show List.take (x.length:Int).toNat (List.drop (1+(IZ (x.length:Int):Int)).toNat (EY x++r))=x
  rw[hb,show(1+(IZ (x.length:Int):Int)).toNat=(181::AE (x.length:Int)).length by rw[List.length_cons,H8];omega,←List.cons_append,List.drop_left,Int.toNat_natCast,List.take_left]
theorem Axk {b:Ak} (h:GG b=0):(Az b).length≤1048576∧b.take (AA b).toNat=EY (Az b)∧0≤AA b∧AA b≤(b.length:Int):=by
 have hK:AA b=IW b:=by unfold AA;rw[h];rfl
 have hB:Az b=(b.drop (1+(Dh b).2.1).toNat).take (Dh b).1.toNat:=by unfold Az;rw[h];rfl
 have hh:=h.symm
 unfold GG at hh
 cases h0:b.length==0 with
 |true=>rw[h0] at hh;cases hh
 | false =>
  rw[h0,cond_false] at hh
  cases h1:b.getD 0 0==181 with
  |false=>rw[h1] at hh;cases hh
  | true =>
   rw[h1] at hh
   simp only[Bool.not_true,cond_false] at hh
   cases h2:(Dh b).2.2 !=0 with
   |true=>rw[h2,cond_true] at hh;rw[←hh] at h2;cases h2
   | false=>
    rw[h2,cond_false] at hh
    cases h3:decide (1048576 <(Dh b).1) with
    |true=>rw[h3] at hh;cases hh
    | false=>
     rw[h3,cond_false] at hh
     cases h4:decide ((b.length:Int) <IW b) with
     |true=>rw[h4] at hh;cases hh
     | false=>
      rw[h4,cond_false] at hh
      cases h5:Mu (b.take (IW b).toNat) with
      |false=>rw[h5] at hh;cases hh
      | true=>
       have e2:(Dh b).2.2=0:=by simpa using h2
       have e3:=of_decide_eq_false h3
       have e4:=of_decide_eq_false h4
       obtain⟨y,t,rfl⟩:∃y t,b=y::t:=by
        cases b with
        |nil=>cases h0
        |cons y t=>exact⟨y,t,rfl⟩
       obtain rfl:y=181:=by simpa using h1
       have hd:Dh (181::t)=Am t:=rfl
       rw[hd] at e2 e3
       obtain⟨r,⟨n0,n1⟩,g2,g3⟩:=Qs e2
       generalize hn:(Am t).1=n at*
       generalize hk:(Am t).2.1=k at*
       subst g3
       have aj:IW (181::(AE n++r))=1+((AE n).length:Int)+n+4:=by
        unfold IW
        rw[hd,hn,hk,g2]
       have hlen:((181::(AE n++r)).length:Int)=1+(AE n).length+r.length:=by
        rw[List.length_cons,List.length_append];omega
       have hr:n+4≤(r.length:Int):=by omega
       have ij:Az (181::(AE n++r))=r.take n.toNat:=by
        rw[hB,hd,hn,hk,g2,show(1+((AE n).length:Int)).toNat=(181::AE n).length by rw[List.length_cons];omega,←List.cons_append,List.drop_left]
       have fa:(r.take n.toNat).length=n.toNat:=by rw[List.length_take];omega
       have fy:(181::(AE n++r)).take (IW (181::(AE n++r))).toNat=181::(AE n++r.take (n.toNat+4)):=by
        rw[aj,←List.cons_append,show(1+((AE n).length:Int)+n+4).toNat=(181::AE n).length+(n.toNat+4) by rw[List.length_cons];omega,List.take_length_add_append]
        rfl
       rw[ij,hK,fy]
       refine⟨by rw[fa];omega,?_,by rw[aj];omega,by omega⟩
       rw[fy] at h5
       unfold Mu at h5
       rw[Bool.and_eq_true,beq_iff_eq] at h5
       have jt:(181::(AE n++r.take (n.toNat+4))).length - 4=(181::(AE n++r.take n.toNat)).length:=by
        rw[List.length_cons,List.length_append,List.length_cons,List.length_append,fa,List.length_take]
        omega
       have fk:(181::(AE n++r.take (n.toNat+4))).take (181::(AE n++r.take n.toNat)).length=181::(AE n++r.take n.toNat):=by
        have:(181::(AE n++r.take (n.toNat+4)))=(181::(AE n++r.take n.toNat))++(r.take (n.toNat+4)).drop n.toNat:=by
         have h6:r.take (n.toNat+4)=r.take n.toNat++(r.take (n.toNat+4)).drop n.toNat:=by
          conv=>lhs;rw[←List.take_append_drop n.toNat (r.take (n.toNat+4)),List.take_take,Nat.min_eq_left (by omega)]
         conv=>lhs;rw[h6]
         simp only[List.cons_append,List.append_assoc]
        rw[this,List.take_left]
       rw[jt,fk] at h5
       rw[h5.2]
       unfold EY
       rw[decide_eq_false (by rw[fa];omega),cond_false,fa,Int.toNat_of_nonneg n0]
def MT (l:List Ae) (b:Ak):Option AS:=if AA b=(b.length:Int) then A5u l (Az b) else none
def L8 (l:List Ae) (b:Ak):Int:=bif A1 l !=0 then A1 l else bif GG b !=0 then GG b else match MT l b with
 |some _=>0
 |none=>140
def TZ (l:List Ae) (b:Ak):AS:=bif L8 l b==0 then(MT l b).getD HT else HT
theorem W0 {l:List Ae} {b:Ak} {m:AS} (h:A5u l b=some m):psM l b=some (m,[])∧Dn l m=0:=by
 unfold A5u at h
 split at h
 ·rename_i x hx
  split at h
  ·rename_i hg
   cases h
   exact⟨hx,hg⟩
  ·cases h
 ·cases h
theorem Azn {l:List Ae} {b:Ak} {m:AS} (h:psM l b=some (m,[])) (hg:Dn l m=0):A5u l b=some m:=by
 unfold A5u
 rw[h]
 simp only[if_pos hg]
theorem Awf {l:List Ae} {b:Ak}:L8 l b=0↔A1 l=0∧GG b=0∧∃m,MT l b=some m:=by
 unfold L8
 cases h1:A1 l !=0 with
 |true=>
  have bx:A1 l≠0:=by simpa using h1
  rw[cond_true]
  exact⟨fun h=>absurd h bx,fun h=>absurd h.1 bx⟩
 | false=>
  have bx:A1 l=0:=by simpa using h1
  rw[cond_false]
  cases h2:GG b !=0 with
  |true=>
   have e9:GG b≠0:=by simpa using h2
   rw[cond_true]
   exact⟨fun h=>absurd h e9,fun h=>absurd h.2.1 e9⟩
  |false=>
   have e9:GG b=0:=by simpa using h2
   rw[cond_false]
   cases h3:MT l b with
   |some m=>exact⟨fun _=>⟨bx,e9,m,rfl⟩,fun _=>rfl⟩
   |none=>exact⟨(fun h=>by cases h),fun⟨_,_,m,h⟩=>by cases h⟩
theorem Atg {l:List Ae} {m:AS} (h:okW l m=true):m.kind=1∨m.kind=2∨m.kind=3∨m.kind=4∨m.kind=5:=by
 unfold okW at h
 simp only[Bool.and_eq_true] at h
 have hk:=h.2
 unfold Afd at hk
 rcases kinds m.kind with⟨q,_⟩|⟨_,q,_⟩|⟨_,_,q,_⟩|⟨_,_,_,q,_⟩|⟨_,_,_,_,q⟩|⟨q1,q2,q3,q4,q5⟩
 ·exact .inl (by simpa using q)
 ·exact .inr (.inl (by simpa using q))
 ·exact .inr (.inr (.inl (by simpa using q)))
 ·exact .inr (.inr (.inr (.inl (by simpa using q))))
 ·exact .inr (.inr (.inr (.inr (by simpa using q))))
 ·simp only[q1,q2,q3,q4,q5,cond_false] at hk
  cases hk
theorem Awn {l:List Ae} {m:AS} (h:Kc l m=0):Dn l m=0∧(JE l m).length≤1048576∧Lr l m=EY (JE l m):=by
 have hB:Lr l m=EY (JE l m):=by unfold Lr;rw[h];rfl
 unfold Kc at h
 cases h1:Dn l m !=0 with
 |true=>
  rw[h1,cond_true] at h
  rw[h] at h1
  cases h1
 |false=>
  rw[h1,cond_false] at h
  cases h2:decide (1048576 <(JE l m).length) with
  |true=>rw[h2] at h;cases h
  |false=>exact⟨by simpa using h1,by have:=of_decide_eq_false h2;omega,hB⟩
theorem Bge {l:List Ae} {m:AS} (h:Kc l m=0) (hs:∀d∈m.sums,d.length=32):L8 l (Lr l m)=0∧TZ l (Lr l m)=m∧L8 l (Lr l m++[0])=140:=by
 obtain⟨h1,h2,h3⟩:=Awn h
 obtain⟨g1,g2⟩:=KJ.1 h1
 obtain⟨o1,o2,o3⟩:=Alg h2 []
 obtain⟨p1,p2,_⟩:=Alg h2 [0]
 rw[List.append_nil] at o1 o2 o3
 have hm:=Azn (A8m g2 hs) h1
 have ho:MT l (EY (JE l m))=some m:=by
  unfold MT
  rw[if_pos o2,o3,hm]
 have he:L8 l (EY (JE l m))=0:=Awf.2 ⟨g1,o1,m,ho⟩
 rw[h3]
 refine⟨he,?_,?_⟩
 ·unfold TZ
  rw[he,ho]
  rfl
 ·unfold L8
  rw[g1,p1]
  have:MT l (EY (JE l m)++[0])=none:=by
   unfold MT
   rw[if_neg]
   rw[p2,List.length_append]
   simp only[List.length_cons,List.length_nil]
   omega
  rw[this]
  rfl
theorem Bgf {l:List Ae} {b:Ak} (h:L8 l b=0):Kc l (TZ l b)=0∧Lr l (TZ l b)=b:=by
 obtain⟨h1,h2,m,h3⟩:=Awf.1 h
 have hR:TZ l b=m:=by
  unfold TZ
  rw[h,h3]
  rfl
 unfold MT at h3
 split at h3
 ·rename_i hk
  obtain⟨g1,g2⟩:=W0 h3
  obtain⟨o1,o2,_,_⟩:=Axk h2
  obtain⟨f1,_⟩:=A3p g1 (Atg (KJ.1 g2).2)
  rw[hk,Int.toNat_natCast,List.take_of_length_le (Nat.le_refl _)] at o2
  have he:Kc l m=0:=by
   unfold Kc
   rw[g2,←f1,decide_eq_false (by omega)]
   rfl
  rw[hR]
  refine⟨he,?_⟩
  rw[(Awn he).2.2,←f1,←o2]
 ·cases h3
def SK (m:Int):Ps Int:=Ps.bind (Ps.ofG Am) fun x=>if m <x then Ps.fail else Ps.pure x
theorem GJ {m x:Int} {b r:Ak}:SK m b=some (x,r)↔Ps.ofG Am b=some (x,r)∧x≤m:=by
 constructor
 ·intro h
  obtain⟨y,r1,a1,e1⟩:=Ps.bind_is h
  split at e1
  ·cases e1
  ·rename_i hn
   cases e1
   exact⟨a1,by omega⟩
 ·rintro⟨h1,h2⟩
  unfold SK
  rw[Ps.bind_at h1,if_neg (by omega)]
  rfl
theorem Adm {m:Int}:∀(n:Nat) {b r:Ak} {l:List Int},Ps.many (SK m) n b=some (l,r)↔Ps.many (Ps.ofG Am) n b=some (l,r)∧∀x∈l,x≤m
 |0,b,r,l=>⟨fun h=>by cases h;exact⟨rfl,fun x hx=>by cases hx⟩,fun h=>h.1⟩
 | n+1,b,r,l=>by
  constructor
  ·intro h
   obtain⟨x,r1,a1,e1⟩:=Ps.bind_is h
   obtain⟨t,r2,a2,e2⟩:=Ps.bind_is e1
   cases e2
   obtain⟨g1,g2⟩:=GJ.1 a1
   obtain⟨g3,g4⟩:=(Adm n).1 a2
   refine⟨?_,fun y hy=>?_⟩
   ·show Ps.bind _ _ b=_
    rw[Ps.bind_at g1,Ps.bind_at g3]
    rfl
   ·rcases List.mem_cons.1 hy with rfl|hy
    ·exact g2
    ·exact g4 y hy
  ·rintro⟨h,hl⟩
   obtain⟨x,r1,a1,e1⟩:=Ps.bind_is h
   obtain⟨t,r2,a2,e2⟩:=Ps.bind_is e1
   cases e2
   show Ps.bind _ _ b=_
   rw[Ps.bind_at (GJ.2 ⟨a1,hl x (List.mem_cons_self ..)⟩),Ps.bind_at ((Adm n).2 ⟨a2,fun y hy=>hl y (List.mem_cons_of_mem _ hy)⟩)]
   rfl
def A3n:Ps (List Int):=Ps.bind (SK 2) fun n=>Ps.many (SK 15) n.toNat
theorem Aof {b r:Ak} {p:List Int}:A3n b=some (p,r)↔A3q b=some (p,r)∧∀x∈p,x≤15:=by
 constructor
 ·intro h
  obtain⟨n,r1,a1,e1⟩:=Ps.bind_is h
  obtain⟨g1,g2⟩:=GJ.1 a1
  obtain⟨g3,g4⟩:=(Adm _).1 e1
  refine⟨?_,g4⟩
  unfold A3q
  rw[Ps.bind_at g1,if_neg (by omega)]
  exact g3
 ·rintro⟨h,hp⟩
  obtain⟨n,r1,a1,e1⟩:=Ps.bind_is h
  split at e1
  ·cases e1
  ·rename_i hn
   unfold A3n
   rw[Ps.bind_at (GJ.2 ⟨a1,by omega⟩)]
   exact(Adm _).2 ⟨e1,hp⟩
def A3o:Ps (List Ak):=fun b=>some (dgs b,b.drop (32*(b.length / 32)))
theorem A1d {b:Ak} {d:List Ak}:A3o b=some (d,[])↔Axl b=some (d,[]):=by
 unfold A3o Axl
 constructor
 ·intro h
  injection h with h
  injection h with h1 h2
  have:=congrArg List.length h2
  rw[List.length_drop,List.length_nil] at this
  rw[if_pos (by omega),h1]
 ·intro h
  split at h
  ·cases h
   rw[List.drop_of_length_le (by omega)]
  ·cases h
def A3m (l:List Ae) (k s:Int) (p:List Int):Ps AS:=Ps.bind (Ps.ofG Ah) fun v=>Ps.bind (SK 1) fun o=>Ps.bind (SK 256) fun n=>
 Ps.bind (Ps.many (Ps.ofG (T2 l)) n.toNat) fun rs=>Ps.pure ⟨k,s,HT.change,0,0,p,[],rs,v,o==1⟩
theorem A1b {l:List Ae} {k s:Int} {p:List Int} {b r:Ak} {m:AS}:A3m l k s p b=some (m,r)↔A8l l k s p b=some (m,r):=by
 constructor
 ·intro h
  obtain⟨v,r1,a1,e1⟩:=Ps.bind_is h
  obtain⟨o,r2,a2,e2⟩:=Ps.bind_is e1
  obtain⟨n,r3,a3,e3⟩:=Ps.bind_is e2
  obtain⟨g1,g2⟩:=GJ.1 a2
  obtain⟨g3,g4⟩:=GJ.1 a3
  unfold A8l
  rw[Ps.bind_at a1,Ps.bind_at g1,if_neg (by omega),Ps.bind_at g3,if_neg (by omega)]
  exact e3
 ·intro h
  obtain⟨v,r1,a1,e1⟩:=Ps.bind_is h
  obtain⟨o,r2,a2,e2⟩:=Ps.bind_is e1
  split at e2
  ·cases e2
  rename_i ho
  obtain⟨n,r3,a3,e3⟩:=Ps.bind_is e2
  split at e3
  ·cases e3
  rename_i hn
  unfold A3m
  rw[Ps.bind_at a1,Ps.bind_at (GJ.2 ⟨a2,by omega⟩),Ps.bind_at (GJ.2 ⟨a3,by omega⟩)]
  exact e3
def prM (l:List Ae):Ps AS:=Ps.bind (SK 5) fun k=>Ps.bind (SK 2) fun s=>
 if k=1 then Ps.bind (QH l) fun c=>Ps.pure ⟨k,s,c,0,0,[],[],[],⟨0,0⟩,false⟩
 else if k=2 then Ps.bind (SK 1099511627776) fun a=>Ps.bind (SK 1099511627776) fun o=>Ps.pure ⟨k,s,HT.change,a,o,[],[],[],⟨0,0⟩,false⟩
 else Ps.bind A3n fun p=>if k=5 then A3m l k s p else Ps.bind A3o fun d=>Ps.pure ⟨k,s,HT.change,0,0,p,d,[],⟨0,0⟩,false⟩
theorem Aoe {l:List Ae} {b:Ak} {m:AS} (h:prM l b=some (m,[])):psM l b=some (m,[]):=by
 obtain⟨k,r1,a1,e1⟩:=Ps.bind_is h
 obtain⟨s,r2,a2,e2⟩:=Ps.bind_is e1
 unfold psM
 rw[Ps.bind_at (GJ.1 a1).1,Ps.bind_at (GJ.1 a2).1]
 split at e2
 ·rename_i h1
  rw[if_pos h1]
  exact e2
 rename_i n1
 rw[if_neg n1]
 split at e2
 ·rename_i h2
  rw[if_pos h2]
  obtain⟨x,r3,a3,e3⟩:=Ps.bind_is e2
  obtain⟨y,r4,a4,e4⟩:=Ps.bind_is e3
  rw[Ps.bind_at (GJ.1 a3).1,Ps.bind_at (GJ.1 a4).1]
  exact e4
 rename_i n2
 rw[if_neg n2]
 obtain⟨p,r3,a3,e3⟩:=Ps.bind_is e2
 rw[Ps.bind_at (Aof.1 a3).1]
 split at e3
 ·rename_i h5
  rw[if_pos h5]
  exact A1b.1 e3
 ·rename_i n5
  rw[if_neg n5]
  obtain⟨d,r4,a4,e4⟩:=Ps.bind_is e3
  cases e4
  rw[Ps.bind_at (A1d.1 a4)]
  rfl
theorem A1c {l:List Ae} {b:Ak} {m:AS} (h:psM l b=some (m,[])) (hg:okW l m=true):prM l b=some (m,[]):=by
 have hk:=Atg hg
 have af:=hg
 unfold okW at af
 simp only[Bool.and_eq_true,Bool.or_eq_true,beq_iff_eq] at af
 obtain⟨⟨⟨_,hp⟩,kq⟩,iy⟩:=af
 obtain⟨k,r1,a1,e1⟩:=Ps.bind_is h
 obtain⟨s,r2,a2,e2⟩:=Ps.bind_is e1
 clear h e1
 have MU:(k=m.kind∧s=m.site)→prM l b=(if k=1 then Ps.bind (QH l) fun c=>Ps.pure ⟨k,s,c,0,0,[],[],[],⟨0,0⟩,false⟩
  else if k=2 then Ps.bind (SK 1099511627776) fun a=>Ps.bind (SK 1099511627776) fun o=>Ps.pure ⟨k,s,HT.change,a,o,[],[],[],⟨0,0⟩,false⟩
  else Ps.bind A3n fun p=>if k=5 then A3m l k s p else Ps.bind A3o fun d=>Ps.pure ⟨k,s,HT.change,0,0,p,d,[],⟨0,0⟩,false⟩) r2:=fun⟨q1,q2⟩=>by
  unfold prM
  rw[Ps.bind_at (GJ.2 ⟨a1,by omega⟩),Ps.bind_at (GJ.2 ⟨a2,by omega⟩)]
 split at e2
 ·rename_i h1
  obtain⟨c,r3,a3,e3⟩:=Ps.bind_is e2
  cases e3
  rw[MU ⟨rfl,rfl⟩,if_pos h1,Ps.bind_at a3]
  rfl
 rename_i n1
 split at e2
 ·rename_i h2
  subst h2
  obtain⟨x,r3,a3,e3⟩:=Ps.bind_is e2
  obtain⟨y,r4,a4,e4⟩:=Ps.bind_is e3
  cases e4
  have js:(ZH x&&ZH y)=true:=iy
  unfold ZH at js
  simp only[Bool.and_eq_true,decide_eq_true_eq] at js
  rw[MU ⟨rfl,rfl⟩,if_neg n1,if_pos rfl,Ps.bind_at (GJ.2 ⟨a3,js.1.2⟩),Ps.bind_at (GJ.2 ⟨a4,js.2.2⟩)]
  rfl
 rename_i n2
 obtain⟨p,r3,a3,e3⟩:=Ps.bind_is e2
 have path:m.path=p→∀x∈p,x≤15:=fun e x hx=>by
  subst e
  unfold Rh at hp
  rw[Bool.and_eq_true,decide_eq_true_eq] at hp
  obtain⟨i,hi,rfl⟩:=List.mem_iff_getElem.1 hx
  have:=Fp.1 hp.1 i hi
  rw[Bool.and_eq_true,decide_eq_true_eq,decide_eq_true_eq,List.getD_eq_getElem?_getD,List.getElem?_eq_getElem hi] at this
  exact this.2
 split at e3
 ·rename_i h5
  have hm:k=m.kind∧s=m.site∧m.path=p:=by
   obtain⟨v,q1,b1,c1⟩:=Ps.bind_is e3
   obtain⟨o,q2,b2,c2⟩:=Ps.bind_is c1
   split at c2
   ·cases c2
   obtain⟨n,q3,b3,c3⟩:=Ps.bind_is c2
   split at c3
   ·cases c3
   obtain⟨rs,q4,b4,c4⟩:=Ps.bind_is c3
   cases c4
   exact⟨rfl,rfl,rfl⟩
  rw[MU ⟨hm.1,hm.2.1⟩,if_neg n1,if_neg n2,Ps.bind_at (Aof.2 ⟨a3,path hm.2.2⟩),if_pos h5]
  exact A1b.2 e3
 ·rename_i n5
  obtain⟨d,r4,a4,e4⟩:=Ps.bind_is e3
  cases e4
  rw[MU ⟨rfl,rfl⟩,if_neg n1,if_neg n2,Ps.bind_at (Aof.2 ⟨a3,path rfl⟩),if_neg n5,Ps.bind_at (A1d.2 a4)]
  rfl
def ZJ (b:Ak):Nat→List AY→Int→Bool→List AY×Int×Bool
 |0,ws,k,bad=>(ws,k,bad)
 |n+1,ws,k,bad=>bif bad then(ws,k,true) else ZJ b n (ws++[(RE b k false).1]) (RE b k false).2.1 (RE b k false).2.2
theorem A86 (b:Ak) (n:Nat) (ws:List AY) (k:Int):ZJ b n ws k true=(ws,k,true):=by
 cases n<;>rfl
theorem A8w:∀(n:Nat) (pre:List AY),PW (fun b k bad=>ZJ b n pre k bad) (Ps.bind (Ps.many psW n) fun l=>Ps.pure (pre++l))
 | 0,pre=>by
  have e:(Ps.bind (Ps.many psW 0) fun l=>Ps.pure (pre++l))=Ps.pure pre:=funext fun b=>by
   show Ps.pure (pre++[]) b=_
   rw[List.append_nil]
  rw[e]
  exact PW.pure pre
 | n +1,pre=>by
  have ih:=fun x=>A8w n (pre++[x])
  have hp:(Ps.bind (Ps.many psW (n+1)) fun l=>Ps.pure (pre++l))=Ps.bind psW fun x=>Ps.bind (Ps.many psW n) fun l=>Ps.pure ((pre++[x])++l):=funext fun b=>by
   show Ps.bind (Ps.bind psW fun x=>Ps.bind (Ps.many psW n) fun l=>Ps.pure (x::l)) _ b=_
   unfold Ps.bind
   cases psW b with
   |none=>rfl
   | some y=>
    obtain⟨x,r⟩:=y
    simp only
    cases Ps.many psW n r with
    |none=>rfl
    |some z=>
     obtain⟨t,r2⟩:=z
     simp only[Ps.pure,List.append_assoc,List.singleton_append]
  rw[hp]
  have h:=PW.bind Bld ih
  exact {
   inb:=fun b k bad hk=>by
    cases bad with
    |true=>exact hk
    |false=>exact h.inb b k false hk
   bad:=fun b k hk=>rfl
   none:=fun b k hk hq=>h.none b k hk hq
   some:=fun b k x r hk hq=>h.some b k x r hk hq}
abbrev Sr (α:Type):=Ak→Bool→α×Ak×Bool
structure E0 {α:Type} (st:Sr α) (p:Ps α):Prop where
 bad:∀b,(st b true).2.2=true
 none:∀b,p b=none→(st b false).2.2=true
 some:∀b x r,p b=some (x,r)→st b false=(x,r,false)
section
variable {α β:Type}
theorem E0.bind {st:Sr α} {p:Ps α} {gq:α→Sr β} {p2:α→Ps β} (h:E0 st p) (h2:∀x,E0 (gq x) (p2 x)):E0 (fun b bad=>gq (st b bad).1 (st b bad).2.1 (st b bad).2.2) (Ps.bind p p2) where
 bad:=fun b=>by
  show(gq _ _ (st b true).2.2).2.2=true
  rw[h.bad]
  exact(h2 _).bad _
 none:=fun b hp=>by
  show(gq _ _ (st b false).2.2).2.2=true
  unfold Ps.bind at hp
  split at hp
  ·rename_i x r h1
   rw[h.some b x r h1]
   exact(h2 x).none r hp
  ·rename_i h1
   rw[h.none b h1]
   exact(h2 _).bad _
 some:=fun b y r hp=>by
  show gq (st b false).1 (st b false).2.1 (st b false).2.2=_
  obtain⟨x,r1,a1,e1⟩:=Ps.bind_is hp
  rw[h.some b x r1 a1]
  exact(h2 x).some r1 y r e1
theorem E0.pure (x:α):E0 (fun b bad=>(x,b,bad)) (Ps.pure x) where
 bad:=fun _=>rfl
 none:=fun _ h=>by cases h
 some:=fun _ _ _ h=>by cases h;rfl
def wG (get:Ak→α×Int×Int):Sr α:=fun b bad=>((get b).1,b.drop (get b).2.1.toNat,bad||(get b).2.2 !=0)
theorem E0.ofG (get:Ak→α×Int×Int):E0 (wG get) (Ps.ofG get) where
 bad:=fun _=>rfl
 none:=fun b hp=>by
  unfold Ps.ofG at hp
  split at hp
  ·cases hp
  ·rename_i h0
   show(false||(get b).2.2 !=0)=true
   simpa using h0
 some:=fun b x r hp=>by
  unfold Ps.ofG at hp
  split at hp
  ·rename_i h0
   cases hp
   unfold wG
   rw[h0]
   rfl
  ·cases hp
def X8 (st:Sr α):Nat→List α→Sr (List α)
 |0,l,b,bad=>(l,b,bad)
 |n+1,l,b,bad=>X8 st n (l++[(st b bad).1]) (st b bad).2.1 (st b bad).2.2
def U1 (st:Sr α):Nat→List α→Sr (List α)
 |0,l,b,bad=>(l,b,bad)
 |n+1,l,b,bad=>bif bad then(l,b,true) else U1 st n (l++[(st b false).1]) (st b false).2.1 (st b false).2.2
theorem As4 {p:Ps α} {n:Nat} {pre:List α}:(Ps.bind (Ps.many p (n+1)) fun l=>Ps.pure (pre++l))=Ps.bind p fun x=>Ps.bind (Ps.many p n) fun l=>Ps.pure ((pre++[x])++l):=funext fun b=>by
 show Ps.bind (Ps.bind p fun x=>Ps.bind (Ps.many p n) fun l=>Ps.pure (x::l)) _ b=_
 unfold Ps.bind
 cases p b with
 |none=>rfl
 | some y=>
  obtain⟨x,r⟩:=y
  simp only
  cases Ps.many p n r with
  |none=>rfl
  |some z=>
   obtain⟨t,r2⟩:=z
   simp only[Ps.pure,List.append_assoc,List.singleton_append]
theorem A72 {p:Ps α} {pre:List α}:(Ps.bind (Ps.many p 0) fun l=>Ps.pure (pre++l))=Ps.pure pre:=funext fun b=>by
 show Ps.pure (pre++[]) b=_
 rw[List.append_nil]
theorem Agb {p:Ps α} {n:Nat}:(Ps.bind (Ps.many p n) fun l=>Ps.pure ([]++l))=Ps.many p n:=funext fun b=>by
 unfold Ps.bind
 cases Ps.many p n b with
 |none=>rfl
 |some y=>rfl
theorem E0.many' {st:Sr α} {p:Ps α} (h:E0 st p):∀(n:Nat) (pre:List α),E0 (X8 st n pre) (Ps.bind (Ps.many p n) fun l=>Ps.pure (pre++l))
 |0,pre=>by
  rw[A72]
  exact E0.pure pre
 |n+1,pre=>by
  rw[As4]
  exact E0.bind h fun x=>E0.many' h n (pre++[x])
theorem E0.many {st:Sr α} {p:Ps α} (h:E0 st p) (n:Nat):E0 (X8 st n []) (Ps.many p n):=by
 have:=h.many' n []
 rwa[Agb] at this
theorem E0.some' {st:Sr α} {p:Ps α} (h:E0 st p):∀(n:Nat) (pre:List α),E0 (U1 st n pre) (Ps.bind (Ps.many p n) fun l=>Ps.pure (pre++l))
 |0,pre=>by
  rw[A72]
  exact E0.pure pre
 |n+1,pre=>by
  rw[As4]
  have h2:=E0.bind h fun x=>E0.some' h n (pre++[x])
  exact {bad:=fun b=>rfl,none:=fun b hq=>h2.none b hq,some:=fun b x r hq=>h2.some b x r hq}
theorem E0.someN {st:Sr α} {p:Ps α} (h:E0 st p) (n:Nat):E0 (U1 st n []) (Ps.many p n):=by
 have:=h.some' n []
 rwa[Agb] at this
end
def Av (m:Int):Sr Int:=fun b bad=>(bif decide (m <(Am b).1) then 0 else(Am b).1,b.drop (Am b).2.1.toNat,(bad||(Am b).2.2 !=0)||decide (m <(Am b).1))
theorem N9 (m:Int):E0 (Av m) (SK m) where
 bad:=fun _=>rfl
 none:=fun b hp=>by
  unfold SK Ps.bind Ps.ofG at hp
  show((false||(Am b).2.2 !=0)||decide (m <(Am b).1))=true
  by_cases h0:(Am b).2.2=0
  ·rw[if_pos h0] at hp
   simp only at hp
   split at hp
   ·rename_i hm
    rw[decide_eq_true hm,Bool.or_true]
   ·cases hp
  ·simp[h0]
 some:=fun b x r hp=>by
  obtain⟨g1,g2⟩:=GJ.1 hp
  unfold Ps.ofG at g1
  split at g1
  ·rename_i h0
   cases g1
   unfold Av
   rw[h0,decide_eq_false (by omega)]
   rfl
  ·cases g1
def A4v:=Gi (JV (AU Cda.2 A9) 20 23) Cda
def Yi (a0:Ak) (a3:Int):Bool:=decide ((Am a0).1 >a3)
def Aqd (a0:Ak):Ak:=List.take ((a0.length:Int).toNat - (Am a0).2.1.toNat) (List.drop (Am a0).2.1.toNat a0)
def Bik (a0:Ak) (a3:Int):Int:=bif(Yi a0 a3) then 0 else(Am a0).1
def Aqb (a0:Ak) (a3:Int):Ak:=bif(Yi a0 a3) then(Aqd a0) else(Aqd a0)
def Aqc (a0:Ak) (a1:List Ae) (a3:Int):List Ae:=bif(Yi a0 a3) then a1 else a1
def Ayx (a0:Ak) (a2:Bool) (a3:Int):Bool:=bif(Yi a0 a3) then true else a2||(Am a0).2.2 !=0
def Ayz (a0:Ak) (_a1:List Ae) (_a2:Bool) (a3:Int):A:=iV ((Bik a0 a3))
def Ayy (a0:Ak) (a1:List Ae) (a2:Bool) (a3:Int):AJ:=[(0,some (.box 68 [.sl .u8 (Aqb a0 a3),.sl .group (Aqc a0 a1 a3),.v (.bool (Ayx a0 a2 a3))]))]
def Aqe (a0:Ak) (_a1:List Ae) (_a2:Bool) (_a3:Int):List Prop:=[(0≤(Am a0).2.1∧(Am a0).2.1≤(a0.length:Int)∧(a0.length:Int)≤(a0.length:Int))]
theorem Beb (a0:Ak) (a1:List Ae) (a2:Bool) (a3:Int):Ary (CP A4v.1 L0) 9 21 [.own 0 0,iV a3] 1 [(0,some (.box 68 [.sl .u8 a0,.sl .group a1,.v (.bool a2)]))]=some (2,Ayz a0 a1 a2 a3,1,Ayy a0 a1 a2 a3,Aqe a0 a1 a2 a3):=by kernel_rfl
theorem Bil (a0:Ak) (a1:List Ae) (a2:Bool) (a3:Int) (hp:∀p∈Aqe a0 a1 a2 a3,p):Ax Bb 21 [.own 0 0,iV a3] 1 [(0,some (.box 68 [.sl .u8 a0,.sl .group a1,.v (.bool a2)]))] 2 (Ayz a0 a1 a2 a3) 1 (Ayy a0 a1 a2 a3):=Ty (AU A4v.2 A9) (Beb a0 a1 a2 a3) hp
theorem Bea (b:Ak) (l:List Ae) (bad:Bool) (m:Int):(∀p∈Aqe b l bad m,p)∧Ayz b l bad m=.v (.int .i64 (Av m b bad).1)∧Aq 0 (Ayy b l bad m)=some (.box 68 [.sl .u8 (Av m b bad).2.1,.sl .group l,.v (.bool (Av m b bad).2.2)]):=by
 obtain⟨h1,h2,_⟩:=Dg b
 have k0:Aqb b m=(Av m b bad).2.1:=by
  unfold Aqb Aqd
  rw[G3]
  show(bif decide (m <(Am b).1) then b.drop (Am b).2.1.toNat else b.drop (Am b).2.1.toNat)=b.drop (Am b).2.1.toNat
  cases decide (m <(Am b).1)<;>rfl
 have k1:Ayx b bad m=(Av m b bad).2.2:=by
  show(bif decide (m <(Am b).1) then true else bad||(Am b).2.2 !=0)=((bad||(Am b).2.2 !=0)||decide (m <(Am b).1))
  cases decide (m <(Am b).1) with
  |true=>rw[Bool.or_true];rfl
  |false=>rw[Bool.or_false];rfl
 have k2:Aqc b l m=l:=by
  unfold Aqc
  cases Yi b m<;>rfl
 refine⟨Aa ⟨h1,h2,Int.le_refl _⟩ An,rfl,?_⟩
 show some (Ob.box 68 [.sl .u8 (Aqb b m),.sl .group (Aqc b l m),.v (.bool (Ayx b bad m))])=_
 rw[k0,k1,k2]
def A97:HU
 | [.own i 0,.v (.int .i64 m)],nx,o=>match Aq i o with
  |some (.box t [.sl .u8 b,.sl .group l,.v (.bool bad)])=>bif Nat.beq t 68 then some (2,.v (.int .i64 (Av m b bad).1),nx,(i,some (.box 68 [.sl .u8 (Av m b bad).2.1,.sl .group l,.v (.bool (Av m b bad).2.2)]))::o,[]) else none
  |_=>none
 |_,_,_=>none
theorem A98:IE Bb 21 A97:=fun args nx o k x nx' o' ps h=>by
 unfold A97 at h
 split at h<;>try (cases h;done)
 split at h<;>try (cases h;done)
 rename_i m _ t b l bad hl
 cases hb:Nat.beq t 68 with
 |false=>rw[hb] at h;cases h
 |true=>
  rw[hb] at h
  obtain rfl:=Nat.eq_of_beq_eq_true hb
  cases h
  refine⟨fun _=>?_,[_],rfl⟩
  obtain⟨h1,h2,h3⟩:=Bea b l bad m
  have hc:=Bil b l bad m h1
  rw[h2] at hc
  exact MW hc h3 (by rfl) (by rfl) (by rfl) (by rfl) hl
def Bi1:=Gi A98 A4v
abbrev Cde:=Bi1
def Bi0:=Gi Jl Cda
def Ay5:=Gi Q0 Bi0
abbrev Bp:Type:=Int×Ak×Int×Bool×Int×Int×Int×Int×Int×Int×(List AY)
def Ab6:Bp→St
  |(a0,a1,a2,a3,a4,a5,a6,a7,a8,a9,a10)=>⟨101,7,[(8,.own 1 0),(9,.own 2 0),(14,.v (.int .i64 a0))],[(1,some (.box 111 [.sl .u8 a1,.v (.int .i64 a2),.v (.bool a3)])),(2,some (.box 29 [.v (.int .i64 a4),.v (.int .i64 a5),.v (.int .i64 a6),.v (.int .i64 a7),.v (.int .i64 a8),.v (.int .i64 a9),.sq 6])),(6,some (.arr 85 4 (.ty .write a10)))]⟩
def O6:St→Option Bp
 |⟨101,7,[(8,.own 1 0),(9,.own 2 0),(14,.v (.int .i64 z0))],[(1,some (.box 111 [.sl .u8 z1,.v (.int .i64 z2),.v (.bool z3)])),(2,some (.box 29 [.v (.int .i64 z4),.v (.int .i64 z5),.v (.int .i64 z6),.v (.int .i64 z7),.v (.int .i64 z8),.v (.int .i64 z9),.sq 6])),(6,some (.arr 85 4 (.ty .write mh)))]⟩=>some (z0,z1,z2,z3,z4,z5,z6,z7,z8,z9,mh)
 |_=>none
def Ab5:E2:=⟨6,7,[8,9,14],[],[(1,1),(2,2),(8,6)],[1,2,8],[],[1,2,6]⟩
def Ab4:Fz:=⟨[.nilB 2 6 85 .write],[(1,1),(2,2),(5,6)],[8,9,14],[1,2,5]⟩
def BH (a0:Int) (a3:Bool) (a10:List AY):Bool:=!!(decide ((a10.length:Int) <min a0 9)&&!a3)
def Vl (a1:Ak) (a2:Int) (a3:Bool) (a10:List AY):List AY:=a10++[(RE a1 a2 a3).1]
def Vm (a0:Int) (a3:Bool) (a10:List AY):Bool:=(BH a0 a3 a10)
def Vn (a0:Int) (a3:Bool) (a10:List AY):Bool:=!(decide ((a10.length:Int) <min a0 9)&&!a3)
def CT:Bp→Bp
  |(a0,a1,a2,a3,a4,a5,a6,a7,a8,a9,a10)=>(a0,a1,(RE a1 a2 a3).2.1,(RE a1 a2 a3).2.2,a4,a5,a6,a7,a8,a9,Vl a1 a2 a3 a10)
def CS (x:Bp):DB:=some (Vm x.1 x.2.2.2.1 x.2.2.2.2.2.2.2.2.2.2)
def M1:Bp→List Prop
  |(a0,a1,a2,a3,_,_,_,_,_,_,a10)=>[((BH a0 a3 a10)=true→RF a1 a2),((BH a0 a3 a10)=true→Ai (a10.length+1))]
abbrev G5:Bp→List Prop:=M1
def Vo:Bp→BG
  |(a0,a1,a2,a3,a4,a5,a6,a7,a8,a9,a10)=>[(some 0,some (Vn a0 a3 a10),⟨101,7,[],[(1,some (.box 111 [.sl .u8 a1,.v (.int .i64 a2),.v (.bool a3)])),(2,some (.box 29 [.v (.int .i64 a4),.v (.int .i64 a5),.v (.int .i64 a6),.v (.int .i64 a7),.v (.int .i64 a8),.v (.int .i64 a9),.sq 6])),(6,some (.arr 85 4 (.ty .write a10)))]⟩)]
def Ho (x:Bp):Nat:=(min x.1 9 - (x.2.2.2.2.2.2.2.2.2.2.length:Int)).toNat
def A6 (x:Bp):Bp:=Bj CT CS (Ho x) x
def WO:=Jg (CP Ay5.1 L0) (AQ Bb 22 0) Ab5 Ab4 O6 Ho CT CS G5 Vo
def QY:=WA 0 (g:=WO) (CR (T:=Ab6) (psA:=M1) Ay5.2 A9 (u:=9) (by kernel_rfl) (by decide) (fun⟨a0,a1,a2,a3,a4,a5,a6,a7,a8,a9,a10⟩=>by kernel_rfl) (fun _ h=>h) (fun s x h=>by unfold O6 at h;split at h<;>first|(cases h;rfl)|cases h) (fun _=>Bm (n:=101) rfl) fun _ _=>rfl) ⟨L0,A9⟩
def A5 (a1:List Ae):Bool:=A1 a1 !=0
def Aj (a0:Ak):Int:=(AO a0 0 false).2.1
def Ac (a0:Ak):Int:=(AO a0 (Aj a0) (AO a0 0 false).2.2).2.1
def Ab (a0:Ak):Int:=IntKind.i64.wrap ((Ac a0)+(AM (List.take ((a0.length:Int).toNat - (Ac a0).toNat) (List.drop (Ac a0).toNat a0))).2.1)
def Ap (a0:Ak):Int:=IntKind.i64.wrap ((Ab a0)+(Ah (List.take ((a0.length:Int).toNat - (Ab a0).toNat) (List.drop (Ab a0).toNat a0))).2.1)
def HO (a0:Ak):List AY:=(A6 ((AO a0 (Ap a0) ((AO a0 (Aj a0) (AO a0 0 false).2.2).2.2||(AM (List.take ((a0.length:Int).toNat - (Ac a0).toNat) (List.drop (Ac a0).toNat a0))).2.2 !=0||(Ah (List.take ((a0.length:Int).toNat - (Ab a0).toNat) (List.drop (Ab a0).toNat a0))).2.2 !=0)).1,a0,(AO a0 (Ap a0) ((AO a0 (Aj a0) (AO a0 0 false).2.2).2.2||(AM (List.take ((a0.length:Int).toNat - (Ac a0).toNat) (List.drop (Ac a0).toNat a0))).2.2 !=0||(Ah (List.take ((a0.length:Int).toNat - (Ab a0).toNat) (List.drop (Ab a0).toNat a0))).2.2 !=0)).2.1,(AO a0 (Ap a0) ((AO a0 (Aj a0) (AO a0 0 false).2.2).2.2||(AM (List.take ((a0.length:Int).toNat - (Ac a0).toNat) (List.drop (Ac a0).toNat a0))).2.2 !=0||(Ah (List.take ((a0.length:Int).toNat - (Ab a0).toNat) (List.drop (Ab a0).toNat a0))).2.2 !=0)).2.2,(AO a0 0 false).1,(AO a0 (Aj a0) (AO a0 0 false).2.2).1,(AM (List.take ((a0.length:Int).toNat - (Ac a0).toNat) (List.drop (Ac a0).toNat a0))).1.1,(AM (List.take ((a0.length:Int).toNat - (Ac a0).toNat) (List.drop (Ac a0).toNat a0))).1.2,(Ah (List.take ((a0.length:Int).toNat - (Ab a0).toNat) (List.drop (Ab a0).toNat a0))).1.1,(Ah (List.take ((a0.length:Int).toNat - (Ab a0).toNat) (List.drop (Ab a0).toNat a0))).1.2,[])).2.2.2.2.2.2.2.2.2.2
def Dj (a0:Ak) (a1:List Ae):Bool:=(A6 ((AO a0 (Ap a0) ((AO a0 (Aj a0) (AO a0 0 false).2.2).2.2||(AM (List.take ((a0.length:Int).toNat - (Ac a0).toNat) (List.drop (Ac a0).toNat a0))).2.2 !=0||(Ah (List.take ((a0.length:Int).toNat - (Ab a0).toNat) (List.drop (Ab a0).toNat a0))).2.2 !=0)).1,a0,(AO a0 (Ap a0) ((AO a0 (Aj a0) (AO a0 0 false).2.2).2.2||(AM (List.take ((a0.length:Int).toNat - (Ac a0).toNat) (List.drop (Ac a0).toNat a0))).2.2 !=0||(Ah (List.take ((a0.length:Int).toNat - (Ab a0).toNat) (List.drop (Ab a0).toNat a0))).2.2 !=0)).2.1,(AO a0 (Ap a0) ((AO a0 (Aj a0) (AO a0 0 false).2.2).2.2||(AM (List.take ((a0.length:Int).toNat - (Ac a0).toNat) (List.drop (Ac a0).toNat a0))).2.2 !=0||(Ah (List.take ((a0.length:Int).toNat - (Ab a0).toNat) (List.drop (Ab a0).toNat a0))).2.2 !=0)).2.2,(AO a0 0 false).1,(AO a0 (Aj a0) (AO a0 0 false).2.2).1,(AM (List.take ((a0.length:Int).toNat - (Ac a0).toNat) (List.drop (Ac a0).toNat a0))).1.1,(AM (List.take ((a0.length:Int).toNat - (Ac a0).toNat) (List.drop (Ac a0).toNat a0))).1.2,(Ah (List.take ((a0.length:Int).toNat - (Ab a0).toNat) (List.drop (Ab a0).toNat a0))).1.1,(Ah (List.take ((a0.length:Int).toNat - (Ab a0).toNat) (List.drop (Ab a0).toNat a0))).1.2,[])).2.2.2.1||OW a1 (Ar.mk (A6 ((AO a0 (Ap a0) ((AO a0 (Aj a0) (AO a0 0 false).2.2).2.2||(AM (List.take ((a0.length:Int).toNat - (Ac a0).toNat) (List.drop (Ac a0).toNat a0))).2.2 !=0||(Ah (List.take ((a0.length:Int).toNat - (Ab a0).toNat) (List.drop (Ab a0).toNat a0))).2.2 !=0)).1,a0,(AO a0 (Ap a0) ((AO a0 (Aj a0) (AO a0 0 false).2.2).2.2||(AM (List.take ((a0.length:Int).toNat - (Ac a0).toNat) (List.drop (Ac a0).toNat a0))).2.2 !=0||(Ah (List.take ((a0.length:Int).toNat - (Ab a0).toNat) (List.drop (Ab a0).toNat a0))).2.2 !=0)).2.1,(AO a0 (Ap a0) ((AO a0 (Aj a0) (AO a0 0 false).2.2).2.2||(AM (List.take ((a0.length:Int).toNat - (Ac a0).toNat) (List.drop (Ac a0).toNat a0))).2.2 !=0||(Ah (List.take ((a0.length:Int).toNat - (Ab a0).toNat) (List.drop (Ab a0).toNat a0))).2.2 !=0)).2.2,(AO a0 0 false).1,(AO a0 (Aj a0) (AO a0 0 false).2.2).1,(AM (List.take ((a0.length:Int).toNat - (Ac a0).toNat) (List.drop (Ac a0).toNat a0))).1.1,(AM (List.take ((a0.length:Int).toNat - (Ac a0).toNat) (List.drop (Ac a0).toNat a0))).1.2,(Ah (List.take ((a0.length:Int).toNat - (Ab a0).toNat) (List.drop (Ab a0).toNat a0))).1.1,(Ah (List.take ((a0.length:Int).toNat - (Ab a0).toNat) (List.drop (Ab a0).toNat a0))).1.2,[])).2.2.2.2.1 (A6 ((AO a0 (Ap a0) ((AO a0 (Aj a0) (AO a0 0 false).2.2).2.2||(AM (List.take ((a0.length:Int).toNat - (Ac a0).toNat) (List.drop (Ac a0).toNat a0))).2.2 !=0||(Ah (List.take ((a0.length:Int).toNat - (Ab a0).toNat) (List.drop (Ab a0).toNat a0))).2.2 !=0)).1,a0,(AO a0 (Ap a0) ((AO a0 (Aj a0) (AO a0 0 false).2.2).2.2||(AM (List.take ((a0.length:Int).toNat - (Ac a0).toNat) (List.drop (Ac a0).toNat a0))).2.2 !=0||(Ah (List.take ((a0.length:Int).toNat - (Ab a0).toNat) (List.drop (Ab a0).toNat a0))).2.2 !=0)).2.1,(AO a0 (Ap a0) ((AO a0 (Aj a0) (AO a0 0 false).2.2).2.2||(AM (List.take ((a0.length:Int).toNat - (Ac a0).toNat) (List.drop (Ac a0).toNat a0))).2.2 !=0||(Ah (List.take ((a0.length:Int).toNat - (Ab a0).toNat) (List.drop (Ab a0).toNat a0))).2.2 !=0)).2.2,(AO a0 0 false).1,(AO a0 (Aj a0) (AO a0 0 false).2.2).1,(AM (List.take ((a0.length:Int).toNat - (Ac a0).toNat) (List.drop (Ac a0).toNat a0))).1.1,(AM (List.take ((a0.length:Int).toNat - (Ac a0).toNat) (List.drop (Ac a0).toNat a0))).1.2,(Ah (List.take ((a0.length:Int).toNat - (Ab a0).toNat) (List.drop (Ab a0).toNat a0))).1.1,(Ah (List.take ((a0.length:Int).toNat - (Ab a0).toNat) (List.drop (Ab a0).toNat a0))).1.2,[])).2.2.2.2.2.1 (Ba.mk (A6 ((AO a0 (Ap a0) ((AO a0 (Aj a0) (AO a0 0 false).2.2).2.2||(AM (List.take ((a0.length:Int).toNat - (Ac a0).toNat) (List.drop (Ac a0).toNat a0))).2.2 !=0||(Ah (List.take ((a0.length:Int).toNat - (Ab a0).toNat) (List.drop (Ab a0).toNat a0))).2.2 !=0)).1,a0,(AO a0 (Ap a0) ((AO a0 (Aj a0) (AO a0 0 false).2.2).2.2||(AM (List.take ((a0.length:Int).toNat - (Ac a0).toNat) (List.drop (Ac a0).toNat a0))).2.2 !=0||(Ah (List.take ((a0.length:Int).toNat - (Ab a0).toNat) (List.drop (Ab a0).toNat a0))).2.2 !=0)).2.1,(AO a0 (Ap a0) ((AO a0 (Aj a0) (AO a0 0 false).2.2).2.2||(AM (List.take ((a0.length:Int).toNat - (Ac a0).toNat) (List.drop (Ac a0).toNat a0))).2.2 !=0||(Ah (List.take ((a0.length:Int).toNat - (Ab a0).toNat) (List.drop (Ab a0).toNat a0))).2.2 !=0)).2.2,(AO a0 0 false).1,(AO a0 (Aj a0) (AO a0 0 false).2.2).1,(AM (List.take ((a0.length:Int).toNat - (Ac a0).toNat) (List.drop (Ac a0).toNat a0))).1.1,(AM (List.take ((a0.length:Int).toNat - (Ac a0).toNat) (List.drop (Ac a0).toNat a0))).1.2,(Ah (List.take ((a0.length:Int).toNat - (Ab a0).toNat) (List.drop (Ab a0).toNat a0))).1.1,(Ah (List.take ((a0.length:Int).toNat - (Ab a0).toNat) (List.drop (Ab a0).toNat a0))).1.2,[])).2.2.2.2.2.2.1 (A6 ((AO a0 (Ap a0) ((AO a0 (Aj a0) (AO a0 0 false).2.2).2.2||(AM (List.take ((a0.length:Int).toNat - (Ac a0).toNat) (List.drop (Ac a0).toNat a0))).2.2 !=0||(Ah (List.take ((a0.length:Int).toNat - (Ab a0).toNat) (List.drop (Ab a0).toNat a0))).2.2 !=0)).1,a0,(AO a0 (Ap a0) ((AO a0 (Aj a0) (AO a0 0 false).2.2).2.2||(AM (List.take ((a0.length:Int).toNat - (Ac a0).toNat) (List.drop (Ac a0).toNat a0))).2.2 !=0||(Ah (List.take ((a0.length:Int).toNat - (Ab a0).toNat) (List.drop (Ab a0).toNat a0))).2.2 !=0)).2.1,(AO a0 (Ap a0) ((AO a0 (Aj a0) (AO a0 0 false).2.2).2.2||(AM (List.take ((a0.length:Int).toNat - (Ac a0).toNat) (List.drop (Ac a0).toNat a0))).2.2 !=0||(Ah (List.take ((a0.length:Int).toNat - (Ab a0).toNat) (List.drop (Ab a0).toNat a0))).2.2 !=0)).2.2,(AO a0 0 false).1,(AO a0 (Aj a0) (AO a0 0 false).2.2).1,(AM (List.take ((a0.length:Int).toNat - (Ac a0).toNat) (List.drop (Ac a0).toNat a0))).1.1,(AM (List.take ((a0.length:Int).toNat - (Ac a0).toNat) (List.drop (Ac a0).toNat a0))).1.2,(Ah (List.take ((a0.length:Int).toNat - (Ab a0).toNat) (List.drop (Ab a0).toNat a0))).1.1,(Ah (List.take ((a0.length:Int).toNat - (Ab a0).toNat) (List.drop (Ab a0).toNat a0))).1.2,[])).2.2.2.2.2.2.2.1) (Bu.mk (A6 ((AO a0 (Ap a0) ((AO a0 (Aj a0) (AO a0 0 false).2.2).2.2||(AM (List.take ((a0.length:Int).toNat - (Ac a0).toNat) (List.drop (Ac a0).toNat a0))).2.2 !=0||(Ah (List.take ((a0.length:Int).toNat - (Ab a0).toNat) (List.drop (Ab a0).toNat a0))).2.2 !=0)).1,a0,(AO a0 (Ap a0) ((AO a0 (Aj a0) (AO a0 0 false).2.2).2.2||(AM (List.take ((a0.length:Int).toNat - (Ac a0).toNat) (List.drop (Ac a0).toNat a0))).2.2 !=0||(Ah (List.take ((a0.length:Int).toNat - (Ab a0).toNat) (List.drop (Ab a0).toNat a0))).2.2 !=0)).2.1,(AO a0 (Ap a0) ((AO a0 (Aj a0) (AO a0 0 false).2.2).2.2||(AM (List.take ((a0.length:Int).toNat - (Ac a0).toNat) (List.drop (Ac a0).toNat a0))).2.2 !=0||(Ah (List.take ((a0.length:Int).toNat - (Ab a0).toNat) (List.drop (Ab a0).toNat a0))).2.2 !=0)).2.2,(AO a0 0 false).1,(AO a0 (Aj a0) (AO a0 0 false).2.2).1,(AM (List.take ((a0.length:Int).toNat - (Ac a0).toNat) (List.drop (Ac a0).toNat a0))).1.1,(AM (List.take ((a0.length:Int).toNat - (Ac a0).toNat) (List.drop (Ac a0).toNat a0))).1.2,(Ah (List.take ((a0.length:Int).toNat - (Ab a0).toNat) (List.drop (Ab a0).toNat a0))).1.1,(Ah (List.take ((a0.length:Int).toNat - (Ab a0).toNat) (List.drop (Ab a0).toNat a0))).1.2,[])).2.2.2.2.2.2.2.2.1 (A6 ((AO a0 (Ap a0) ((AO a0 (Aj a0) (AO a0 0 false).2.2).2.2||(AM (List.take ((a0.length:Int).toNat - (Ac a0).toNat) (List.drop (Ac a0).toNat a0))).2.2 !=0||(Ah (List.take ((a0.length:Int).toNat - (Ab a0).toNat) (List.drop (Ab a0).toNat a0))).2.2 !=0)).1,a0,(AO a0 (Ap a0) ((AO a0 (Aj a0) (AO a0 0 false).2.2).2.2||(AM (List.take ((a0.length:Int).toNat - (Ac a0).toNat) (List.drop (Ac a0).toNat a0))).2.2 !=0||(Ah (List.take ((a0.length:Int).toNat - (Ab a0).toNat) (List.drop (Ab a0).toNat a0))).2.2 !=0)).2.1,(AO a0 (Ap a0) ((AO a0 (Aj a0) (AO a0 0 false).2.2).2.2||(AM (List.take ((a0.length:Int).toNat - (Ac a0).toNat) (List.drop (Ac a0).toNat a0))).2.2 !=0||(Ah (List.take ((a0.length:Int).toNat - (Ab a0).toNat) (List.drop (Ab a0).toNat a0))).2.2 !=0)).2.2,(AO a0 0 false).1,(AO a0 (Aj a0) (AO a0 0 false).2.2).1,(AM (List.take ((a0.length:Int).toNat - (Ac a0).toNat) (List.drop (Ac a0).toNat a0))).1.1,(AM (List.take ((a0.length:Int).toNat - (Ac a0).toNat) (List.drop (Ac a0).toNat a0))).1.2,(Ah (List.take ((a0.length:Int).toNat - (Ab a0).toNat) (List.drop (Ab a0).toNat a0))).1.1,(Ah (List.take ((a0.length:Int).toNat - (Ab a0).toNat) (List.drop (Ab a0).toNat a0))).1.2,[])).2.2.2.2.2.2.2.2.2.1) (HO a0)) !=0
def EF (a0:Ak) (a1:List Ae):Ar:=Ar.mk (bif(A5 a1) then 0 else bif(Dj a0 a1) then 0 else(A6 ((AO a0 (Ap a0) ((AO a0 (Aj a0) (AO a0 0 false).2.2).2.2||(AM (List.take ((a0.length:Int).toNat - (Ac a0).toNat) (List.drop (Ac a0).toNat a0))).2.2 !=0||(Ah (List.take ((a0.length:Int).toNat - (Ab a0).toNat) (List.drop (Ab a0).toNat a0))).2.2 !=0)).1,a0,(AO a0 (Ap a0) ((AO a0 (Aj a0) (AO a0 0 false).2.2).2.2||(AM (List.take ((a0.length:Int).toNat - (Ac a0).toNat) (List.drop (Ac a0).toNat a0))).2.2 !=0||(Ah (List.take ((a0.length:Int).toNat - (Ab a0).toNat) (List.drop (Ab a0).toNat a0))).2.2 !=0)).2.1,(AO a0 (Ap a0) ((AO a0 (Aj a0) (AO a0 0 false).2.2).2.2||(AM (List.take ((a0.length:Int).toNat - (Ac a0).toNat) (List.drop (Ac a0).toNat a0))).2.2 !=0||(Ah (List.take ((a0.length:Int).toNat - (Ab a0).toNat) (List.drop (Ab a0).toNat a0))).2.2 !=0)).2.2,(AO a0 0 false).1,(AO a0 (Aj a0) (AO a0 0 false).2.2).1,(AM (List.take ((a0.length:Int).toNat - (Ac a0).toNat) (List.drop (Ac a0).toNat a0))).1.1,(AM (List.take ((a0.length:Int).toNat - (Ac a0).toNat) (List.drop (Ac a0).toNat a0))).1.2,(Ah (List.take ((a0.length:Int).toNat - (Ab a0).toNat) (List.drop (Ab a0).toNat a0))).1.1,(Ah (List.take ((a0.length:Int).toNat - (Ab a0).toNat) (List.drop (Ab a0).toNat a0))).1.2,[])).2.2.2.2.1) (bif(A5 a1) then 0 else bif(Dj a0 a1) then 0 else(A6 ((AO a0 (Ap a0) ((AO a0 (Aj a0) (AO a0 0 false).2.2).2.2||(AM (List.take ((a0.length:Int).toNat - (Ac a0).toNat) (List.drop (Ac a0).toNat a0))).2.2 !=0||(Ah (List.take ((a0.length:Int).toNat - (Ab a0).toNat) (List.drop (Ab a0).toNat a0))).2.2 !=0)).1,a0,(AO a0 (Ap a0) ((AO a0 (Aj a0) (AO a0 0 false).2.2).2.2||(AM (List.take ((a0.length:Int).toNat - (Ac a0).toNat) (List.drop (Ac a0).toNat a0))).2.2 !=0||(Ah (List.take ((a0.length:Int).toNat - (Ab a0).toNat) (List.drop (Ab a0).toNat a0))).2.2 !=0)).2.1,(AO a0 (Ap a0) ((AO a0 (Aj a0) (AO a0 0 false).2.2).2.2||(AM (List.take ((a0.length:Int).toNat - (Ac a0).toNat) (List.drop (Ac a0).toNat a0))).2.2 !=0||(Ah (List.take ((a0.length:Int).toNat - (Ab a0).toNat) (List.drop (Ab a0).toNat a0))).2.2 !=0)).2.2,(AO a0 0 false).1,(AO a0 (Aj a0) (AO a0 0 false).2.2).1,(AM (List.take ((a0.length:Int).toNat - (Ac a0).toNat) (List.drop (Ac a0).toNat a0))).1.1,(AM (List.take ((a0.length:Int).toNat - (Ac a0).toNat) (List.drop (Ac a0).toNat a0))).1.2,(Ah (List.take ((a0.length:Int).toNat - (Ab a0).toNat) (List.drop (Ab a0).toNat a0))).1.1,(Ah (List.take ((a0.length:Int).toNat - (Ab a0).toNat) (List.drop (Ab a0).toNat a0))).1.2,[])).2.2.2.2.2.1) (Ba.mk (bif(A5 a1) then 0 else bif(Dj a0 a1) then 0 else(A6 ((AO a0 (Ap a0) ((AO a0 (Aj a0) (AO a0 0 false).2.2).2.2||(AM (List.take ((a0.length:Int).toNat - (Ac a0).toNat) (List.drop (Ac a0).toNat a0))).2.2 !=0||(Ah (List.take ((a0.length:Int).toNat - (Ab a0).toNat) (List.drop (Ab a0).toNat a0))).2.2 !=0)).1,a0,(AO a0 (Ap a0) ((AO a0 (Aj a0) (AO a0 0 false).2.2).2.2||(AM (List.take ((a0.length:Int).toNat - (Ac a0).toNat) (List.drop (Ac a0).toNat a0))).2.2 !=0||(Ah (List.take ((a0.length:Int).toNat - (Ab a0).toNat) (List.drop (Ab a0).toNat a0))).2.2 !=0)).2.1,(AO a0 (Ap a0) ((AO a0 (Aj a0) (AO a0 0 false).2.2).2.2||(AM (List.take ((a0.length:Int).toNat - (Ac a0).toNat) (List.drop (Ac a0).toNat a0))).2.2 !=0||(Ah (List.take ((a0.length:Int).toNat - (Ab a0).toNat) (List.drop (Ab a0).toNat a0))).2.2 !=0)).2.2,(AO a0 0 false).1,(AO a0 (Aj a0) (AO a0 0 false).2.2).1,(AM (List.take ((a0.length:Int).toNat - (Ac a0).toNat) (List.drop (Ac a0).toNat a0))).1.1,(AM (List.take ((a0.length:Int).toNat - (Ac a0).toNat) (List.drop (Ac a0).toNat a0))).1.2,(Ah (List.take ((a0.length:Int).toNat - (Ab a0).toNat) (List.drop (Ab a0).toNat a0))).1.1,(Ah (List.take ((a0.length:Int).toNat - (Ab a0).toNat) (List.drop (Ab a0).toNat a0))).1.2,[])).2.2.2.2.2.2.1) (bif(A5 a1) then 0 else bif(Dj a0 a1) then 0 else(A6 ((AO a0 (Ap a0) ((AO a0 (Aj a0) (AO a0 0 false).2.2).2.2||(AM (List.take ((a0.length:Int).toNat - (Ac a0).toNat) (List.drop (Ac a0).toNat a0))).2.2 !=0||(Ah (List.take ((a0.length:Int).toNat - (Ab a0).toNat) (List.drop (Ab a0).toNat a0))).2.2 !=0)).1,a0,(AO a0 (Ap a0) ((AO a0 (Aj a0) (AO a0 0 false).2.2).2.2||(AM (List.take ((a0.length:Int).toNat - (Ac a0).toNat) (List.drop (Ac a0).toNat a0))).2.2 !=0||(Ah (List.take ((a0.length:Int).toNat - (Ab a0).toNat) (List.drop (Ab a0).toNat a0))).2.2 !=0)).2.1,(AO a0 (Ap a0) ((AO a0 (Aj a0) (AO a0 0 false).2.2).2.2||(AM (List.take ((a0.length:Int).toNat - (Ac a0).toNat) (List.drop (Ac a0).toNat a0))).2.2 !=0||(Ah (List.take ((a0.length:Int).toNat - (Ab a0).toNat) (List.drop (Ab a0).toNat a0))).2.2 !=0)).2.2,(AO a0 0 false).1,(AO a0 (Aj a0) (AO a0 0 false).2.2).1,(AM (List.take ((a0.length:Int).toNat - (Ac a0).toNat) (List.drop (Ac a0).toNat a0))).1.1,(AM (List.take ((a0.length:Int).toNat - (Ac a0).toNat) (List.drop (Ac a0).toNat a0))).1.2,(Ah (List.take ((a0.length:Int).toNat - (Ab a0).toNat) (List.drop (Ab a0).toNat a0))).1.1,(Ah (List.take ((a0.length:Int).toNat - (Ab a0).toNat) (List.drop (Ab a0).toNat a0))).1.2,[])).2.2.2.2.2.2.2.1)) (Bu.mk (bif(A5 a1) then 0 else bif(Dj a0 a1) then 0 else(A6 ((AO a0 (Ap a0) ((AO a0 (Aj a0) (AO a0 0 false).2.2).2.2||(AM (List.take ((a0.length:Int).toNat - (Ac a0).toNat) (List.drop (Ac a0).toNat a0))).2.2 !=0||(Ah (List.take ((a0.length:Int).toNat - (Ab a0).toNat) (List.drop (Ab a0).toNat a0))).2.2 !=0)).1,a0,(AO a0 (Ap a0) ((AO a0 (Aj a0) (AO a0 0 false).2.2).2.2||(AM (List.take ((a0.length:Int).toNat - (Ac a0).toNat) (List.drop (Ac a0).toNat a0))).2.2 !=0||(Ah (List.take ((a0.length:Int).toNat - (Ab a0).toNat) (List.drop (Ab a0).toNat a0))).2.2 !=0)).2.1,(AO a0 (Ap a0) ((AO a0 (Aj a0) (AO a0 0 false).2.2).2.2||(AM (List.take ((a0.length:Int).toNat - (Ac a0).toNat) (List.drop (Ac a0).toNat a0))).2.2 !=0||(Ah (List.take ((a0.length:Int).toNat - (Ab a0).toNat) (List.drop (Ab a0).toNat a0))).2.2 !=0)).2.2,(AO a0 0 false).1,(AO a0 (Aj a0) (AO a0 0 false).2.2).1,(AM (List.take ((a0.length:Int).toNat - (Ac a0).toNat) (List.drop (Ac a0).toNat a0))).1.1,(AM (List.take ((a0.length:Int).toNat - (Ac a0).toNat) (List.drop (Ac a0).toNat a0))).1.2,(Ah (List.take ((a0.length:Int).toNat - (Ab a0).toNat) (List.drop (Ab a0).toNat a0))).1.1,(Ah (List.take ((a0.length:Int).toNat - (Ab a0).toNat) (List.drop (Ab a0).toNat a0))).1.2,[])).2.2.2.2.2.2.2.2.1) (bif(A5 a1) then 0 else bif(Dj a0 a1) then 0 else(A6 ((AO a0 (Ap a0) ((AO a0 (Aj a0) (AO a0 0 false).2.2).2.2||(AM (List.take ((a0.length:Int).toNat - (Ac a0).toNat) (List.drop (Ac a0).toNat a0))).2.2 !=0||(Ah (List.take ((a0.length:Int).toNat - (Ab a0).toNat) (List.drop (Ab a0).toNat a0))).2.2 !=0)).1,a0,(AO a0 (Ap a0) ((AO a0 (Aj a0) (AO a0 0 false).2.2).2.2||(AM (List.take ((a0.length:Int).toNat - (Ac a0).toNat) (List.drop (Ac a0).toNat a0))).2.2 !=0||(Ah (List.take ((a0.length:Int).toNat - (Ab a0).toNat) (List.drop (Ab a0).toNat a0))).2.2 !=0)).2.1,(AO a0 (Ap a0) ((AO a0 (Aj a0) (AO a0 0 false).2.2).2.2||(AM (List.take ((a0.length:Int).toNat - (Ac a0).toNat) (List.drop (Ac a0).toNat a0))).2.2 !=0||(Ah (List.take ((a0.length:Int).toNat - (Ab a0).toNat) (List.drop (Ab a0).toNat a0))).2.2 !=0)).2.2,(AO a0 0 false).1,(AO a0 (Aj a0) (AO a0 0 false).2.2).1,(AM (List.take ((a0.length:Int).toNat - (Ac a0).toNat) (List.drop (Ac a0).toNat a0))).1.1,(AM (List.take ((a0.length:Int).toNat - (Ac a0).toNat) (List.drop (Ac a0).toNat a0))).1.2,(Ah (List.take ((a0.length:Int).toNat - (Ab a0).toNat) (List.drop (Ab a0).toNat a0))).1.1,(Ah (List.take ((a0.length:Int).toNat - (Ab a0).toNat) (List.drop (Ab a0).toNat a0))).1.2,[])).2.2.2.2.2.2.2.2.2.1)) (bif(A5 a1) then[] else bif(Dj a0 a1) then[] else(HO a0))
def Lo (a0:Ak) (a1:List Ae):Int:=bif(A5 a1) then 0 else bif(Dj a0 a1) then 0 else(A6 ((AO a0 (Ap a0) ((AO a0 (Aj a0) (AO a0 0 false).2.2).2.2||(AM (List.take ((a0.length:Int).toNat - (Ac a0).toNat) (List.drop (Ac a0).toNat a0))).2.2 !=0||(Ah (List.take ((a0.length:Int).toNat - (Ab a0).toNat) (List.drop (Ab a0).toNat a0))).2.2 !=0)).1,a0,(AO a0 (Ap a0) ((AO a0 (Aj a0) (AO a0 0 false).2.2).2.2||(AM (List.take ((a0.length:Int).toNat - (Ac a0).toNat) (List.drop (Ac a0).toNat a0))).2.2 !=0||(Ah (List.take ((a0.length:Int).toNat - (Ab a0).toNat) (List.drop (Ab a0).toNat a0))).2.2 !=0)).2.1,(AO a0 (Ap a0) ((AO a0 (Aj a0) (AO a0 0 false).2.2).2.2||(AM (List.take ((a0.length:Int).toNat - (Ac a0).toNat) (List.drop (Ac a0).toNat a0))).2.2 !=0||(Ah (List.take ((a0.length:Int).toNat - (Ab a0).toNat) (List.drop (Ab a0).toNat a0))).2.2 !=0)).2.2,(AO a0 0 false).1,(AO a0 (Aj a0) (AO a0 0 false).2.2).1,(AM (List.take ((a0.length:Int).toNat - (Ac a0).toNat) (List.drop (Ac a0).toNat a0))).1.1,(AM (List.take ((a0.length:Int).toNat - (Ac a0).toNat) (List.drop (Ac a0).toNat a0))).1.2,(Ah (List.take ((a0.length:Int).toNat - (Ab a0).toNat) (List.drop (Ab a0).toNat a0))).1.1,(Ah (List.take ((a0.length:Int).toNat - (Ab a0).toNat) (List.drop (Ab a0).toNat a0))).1.2,[])).2.2.1
def Lp (a0:Ak) (a1:List Ae):Int:=bif(A5 a1) then A1 a1 else bif(Dj a0 a1) then 120 else 0
def P0 (a0:Ak) (a1:List Ae):A:=.tup [.agg [iV (((EF a0 a1).site)),iV (((EF a0 a1).seq)),iV (((EF a0 a1).stamp.n)),iV (((EF a0 a1).stamp.site)),iV (((EF a0 a1).vec.a)),iV (((EF a0 a1).vec.b)),.sl .write ((EF a0 a1).writes)],iV ((Lo a0 a1)),iV ((Lp a0 a1))]
def Ur (a0:Ak) (a1:List Ae):List Prop:=[((!(A5 a1))=true→RF a0 0),((!(A5 a1))=true→RF a0 (Aj a0)),((!(A5 a1))=true→0≤(Ac a0)∧(Ac a0)≤(a0.length:Int)∧(a0.length:Int)≤(a0.length:Int)),((!(A5 a1))=true→0≤(Ab a0)∧(Ab a0)≤(a0.length:Int)∧(a0.length:Int)≤(a0.length:Int)),((!(A5 a1))=true→RF a0 (Ap a0)),((!(A5 a1))=true→A3 CT CS G5 (Ho ((AO a0 (Ap a0) ((AO a0 (Aj a0) (AO a0 0 false).2.2).2.2||(AM (List.take ((a0.length:Int).toNat - (Ac a0).toNat) (List.drop (Ac a0).toNat a0))).2.2 !=0||(Ah (List.take ((a0.length:Int).toNat - (Ab a0).toNat) (List.drop (Ab a0).toNat a0))).2.2 !=0)).1,a0,(AO a0 (Ap a0) ((AO a0 (Aj a0) (AO a0 0 false).2.2).2.2||(AM (List.take ((a0.length:Int).toNat - (Ac a0).toNat) (List.drop (Ac a0).toNat a0))).2.2 !=0||(Ah (List.take ((a0.length:Int).toNat - (Ab a0).toNat) (List.drop (Ab a0).toNat a0))).2.2 !=0)).2.1,(AO a0 (Ap a0) ((AO a0 (Aj a0) (AO a0 0 false).2.2).2.2||(AM (List.take ((a0.length:Int).toNat - (Ac a0).toNat) (List.drop (Ac a0).toNat a0))).2.2 !=0||(Ah (List.take ((a0.length:Int).toNat - (Ab a0).toNat) (List.drop (Ab a0).toNat a0))).2.2 !=0)).2.2,(AO a0 0 false).1,(AO a0 (Aj a0) (AO a0 0 false).2.2).1,(AM (List.take ((a0.length:Int).toNat - (Ac a0).toNat) (List.drop (Ac a0).toNat a0))).1.1,(AM (List.take ((a0.length:Int).toNat - (Ac a0).toNat) (List.drop (Ac a0).toNat a0))).1.2,(Ah (List.take ((a0.length:Int).toNat - (Ab a0).toNat) (List.drop (Ab a0).toNat a0))).1.1,(Ah (List.take ((a0.length:Int).toNat - (Ab a0).toNat) (List.drop (Ab a0).toNat a0))).1.2,[])) ((AO a0 (Ap a0) ((AO a0 (Aj a0) (AO a0 0 false).2.2).2.2||(AM (List.take ((a0.length:Int).toNat - (Ac a0).toNat) (List.drop (Ac a0).toNat a0))).2.2 !=0||(Ah (List.take ((a0.length:Int).toNat - (Ab a0).toNat) (List.drop (Ab a0).toNat a0))).2.2 !=0)).1,a0,(AO a0 (Ap a0) ((AO a0 (Aj a0) (AO a0 0 false).2.2).2.2||(AM (List.take ((a0.length:Int).toNat - (Ac a0).toNat) (List.drop (Ac a0).toNat a0))).2.2 !=0||(Ah (List.take ((a0.length:Int).toNat - (Ab a0).toNat) (List.drop (Ab a0).toNat a0))).2.2 !=0)).2.1,(AO a0 (Ap a0) ((AO a0 (Aj a0) (AO a0 0 false).2.2).2.2||(AM (List.take ((a0.length:Int).toNat - (Ac a0).toNat) (List.drop (Ac a0).toNat a0))).2.2 !=0||(Ah (List.take ((a0.length:Int).toNat - (Ab a0).toNat) (List.drop (Ab a0).toNat a0))).2.2 !=0)).2.2,(AO a0 0 false).1,(AO a0 (Aj a0) (AO a0 0 false).2.2).1,(AM (List.take ((a0.length:Int).toNat - (Ac a0).toNat) (List.drop (Ac a0).toNat a0))).1.1,(AM (List.take ((a0.length:Int).toNat - (Ac a0).toNat) (List.drop (Ac a0).toNat a0))).1.2,(Ah (List.take ((a0.length:Int).toNat - (Ab a0).toNat) (List.drop (Ab a0).toNat a0))).1.1,(Ah (List.take ((a0.length:Int).toNat - (Ab a0).toNat) (List.drop (Ab a0).toNat a0))).1.2,[])),((!(A5 a1))=true→(A6 ((AO a0 (Ap a0) ((AO a0 (Aj a0) (AO a0 0 false).2.2).2.2||(AM (List.take ((a0.length:Int).toNat - (Ac a0).toNat) (List.drop (Ac a0).toNat a0))).2.2 !=0||(Ah (List.take ((a0.length:Int).toNat - (Ab a0).toNat) (List.drop (Ab a0).toNat a0))).2.2 !=0)).1,a0,(AO a0 (Ap a0) ((AO a0 (Aj a0) (AO a0 0 false).2.2).2.2||(AM (List.take ((a0.length:Int).toNat - (Ac a0).toNat) (List.drop (Ac a0).toNat a0))).2.2 !=0||(Ah (List.take ((a0.length:Int).toNat - (Ab a0).toNat) (List.drop (Ab a0).toNat a0))).2.2 !=0)).2.1,(AO a0 (Ap a0) ((AO a0 (Aj a0) (AO a0 0 false).2.2).2.2||(AM (List.take ((a0.length:Int).toNat - (Ac a0).toNat) (List.drop (Ac a0).toNat a0))).2.2 !=0||(Ah (List.take ((a0.length:Int).toNat - (Ab a0).toNat) (List.drop (Ab a0).toNat a0))).2.2 !=0)).2.2,(AO a0 0 false).1,(AO a0 (Aj a0) (AO a0 0 false).2.2).1,(AM (List.take ((a0.length:Int).toNat - (Ac a0).toNat) (List.drop (Ac a0).toNat a0))).1.1,(AM (List.take ((a0.length:Int).toNat - (Ac a0).toNat) (List.drop (Ac a0).toNat a0))).1.2,(Ah (List.take ((a0.length:Int).toNat - (Ab a0).toNat) (List.drop (Ab a0).toNat a0))).1.1,(Ah (List.take ((a0.length:Int).toNat - (Ab a0).toNat) (List.drop (Ab a0).toNat a0))).1.2,[])).2.2.2.1=false→AT (HO a0).length)]
theorem Aio (a0:Ak) (a1:List Ae):Tx (CP Ay5.1 QY.1) 9 22 [AX .bytes a0,.sl .group a1] 0 []=some (1,P0 a0 a1,0,[],[((!(A5 a1))=true→RF a0 0),((!(A5 a1))=true→RF a0 (Aj a0)),((!(A5 a1))=true→0≤(Ac a0)∧(Ac a0)≤(a0.length:Int)∧(a0.length:Int)≤(a0.length:Int)),((!(A5 a1))=true→0≤(Ab a0)∧(Ab a0)≤(a0.length:Int)∧(a0.length:Int)≤(a0.length:Int)),((!(A5 a1))=true→RF a0 (Ap a0)),((!(A5 a1))=true→AQ Bb (22:FuncId) 0=AQ Bb (22:FuncId) 0),((!(A5 a1))=true→A3 CT CS G5 (Ho ((AO a0 (Ap a0) ((AO a0 (Aj a0) (AO a0 0 false).2.2).2.2||(AM (List.take ((a0.length:Int).toNat - (Ac a0).toNat) (List.drop (Ac a0).toNat a0))).2.2 !=0||(Ah (List.take ((a0.length:Int).toNat - (Ab a0).toNat) (List.drop (Ab a0).toNat a0))).2.2 !=0)).1,a0,(AO a0 (Ap a0) ((AO a0 (Aj a0) (AO a0 0 false).2.2).2.2||(AM (List.take ((a0.length:Int).toNat - (Ac a0).toNat) (List.drop (Ac a0).toNat a0))).2.2 !=0||(Ah (List.take ((a0.length:Int).toNat - (Ab a0).toNat) (List.drop (Ab a0).toNat a0))).2.2 !=0)).2.1,(AO a0 (Ap a0) ((AO a0 (Aj a0) (AO a0 0 false).2.2).2.2||(AM (List.take ((a0.length:Int).toNat - (Ac a0).toNat) (List.drop (Ac a0).toNat a0))).2.2 !=0||(Ah (List.take ((a0.length:Int).toNat - (Ab a0).toNat) (List.drop (Ab a0).toNat a0))).2.2 !=0)).2.2,(AO a0 0 false).1,(AO a0 (Aj a0) (AO a0 0 false).2.2).1,(AM (List.take ((a0.length:Int).toNat - (Ac a0).toNat) (List.drop (Ac a0).toNat a0))).1.1,(AM (List.take ((a0.length:Int).toNat - (Ac a0).toNat) (List.drop (Ac a0).toNat a0))).1.2,(Ah (List.take ((a0.length:Int).toNat - (Ab a0).toNat) (List.drop (Ab a0).toNat a0))).1.1,(Ah (List.take ((a0.length:Int).toNat - (Ab a0).toNat) (List.drop (Ab a0).toNat a0))).1.2,[])) ((AO a0 (Ap a0) ((AO a0 (Aj a0) (AO a0 0 false).2.2).2.2||(AM (List.take ((a0.length:Int).toNat - (Ac a0).toNat) (List.drop (Ac a0).toNat a0))).2.2 !=0||(Ah (List.take ((a0.length:Int).toNat - (Ab a0).toNat) (List.drop (Ab a0).toNat a0))).2.2 !=0)).1,a0,(AO a0 (Ap a0) ((AO a0 (Aj a0) (AO a0 0 false).2.2).2.2||(AM (List.take ((a0.length:Int).toNat - (Ac a0).toNat) (List.drop (Ac a0).toNat a0))).2.2 !=0||(Ah (List.take ((a0.length:Int).toNat - (Ab a0).toNat) (List.drop (Ab a0).toNat a0))).2.2 !=0)).2.1,(AO a0 (Ap a0) ((AO a0 (Aj a0) (AO a0 0 false).2.2).2.2||(AM (List.take ((a0.length:Int).toNat - (Ac a0).toNat) (List.drop (Ac a0).toNat a0))).2.2 !=0||(Ah (List.take ((a0.length:Int).toNat - (Ab a0).toNat) (List.drop (Ab a0).toNat a0))).2.2 !=0)).2.2,(AO a0 0 false).1,(AO a0 (Aj a0) (AO a0 0 false).2.2).1,(AM (List.take ((a0.length:Int).toNat - (Ac a0).toNat) (List.drop (Ac a0).toNat a0))).1.1,(AM (List.take ((a0.length:Int).toNat - (Ac a0).toNat) (List.drop (Ac a0).toNat a0))).1.2,(Ah (List.take ((a0.length:Int).toNat - (Ab a0).toNat) (List.drop (Ab a0).toNat a0))).1.1,(Ah (List.take ((a0.length:Int).toNat - (Ab a0).toNat) (List.drop (Ab a0).toNat a0))).1.2,[])),((!(A5 a1))=true→(A6 ((AO a0 (Ap a0) ((AO a0 (Aj a0) (AO a0 0 false).2.2).2.2||(AM (List.take ((a0.length:Int).toNat - (Ac a0).toNat) (List.drop (Ac a0).toNat a0))).2.2 !=0||(Ah (List.take ((a0.length:Int).toNat - (Ab a0).toNat) (List.drop (Ab a0).toNat a0))).2.2 !=0)).1,a0,(AO a0 (Ap a0) ((AO a0 (Aj a0) (AO a0 0 false).2.2).2.2||(AM (List.take ((a0.length:Int).toNat - (Ac a0).toNat) (List.drop (Ac a0).toNat a0))).2.2 !=0||(Ah (List.take ((a0.length:Int).toNat - (Ab a0).toNat) (List.drop (Ab a0).toNat a0))).2.2 !=0)).2.1,(AO a0 (Ap a0) ((AO a0 (Aj a0) (AO a0 0 false).2.2).2.2||(AM (List.take ((a0.length:Int).toNat - (Ac a0).toNat) (List.drop (Ac a0).toNat a0))).2.2 !=0||(Ah (List.take ((a0.length:Int).toNat - (Ab a0).toNat) (List.drop (Ab a0).toNat a0))).2.2 !=0)).2.2,(AO a0 0 false).1,(AO a0 (Aj a0) (AO a0 0 false).2.2).1,(AM (List.take ((a0.length:Int).toNat - (Ac a0).toNat) (List.drop (Ac a0).toNat a0))).1.1,(AM (List.take ((a0.length:Int).toNat - (Ac a0).toNat) (List.drop (Ac a0).toNat a0))).1.2,(Ah (List.take ((a0.length:Int).toNat - (Ab a0).toNat) (List.drop (Ab a0).toNat a0))).1.1,(Ah (List.take ((a0.length:Int).toNat - (Ab a0).toNat) (List.drop (Ab a0).toNat a0))).1.2,[])).2.2.2.1=false→AT (HO a0).length)]):=by kernel_rfl
theorem Aml (a0:Ak) (a1:List Ae) (hp:∀p∈Ur a0 a1,p):Ax Bb 22 [AX .bytes a0,.sl .group a1] 0 [] 1 (P0 a0 a1) 0 []:=
  Bh (AU Ay5.2 QY.2) (Aio a0 a1) (nT hp fun hp=>nT hp fun hp=>nT hp fun hp=>nT hp fun hp=>nT hp fun hp=>Aa (by intros;rfl) (nT hp fun hp=>nT hp fun _=>An))
def Dx (l:List Ae) (b:Ak):Ar×Int×Int:=match QH l b with
 |some (c,r)=>(c,(b.length:Int) - (r.length:Int),0)
 |none=>(HT.change,0,bif A1 l !=0 then A1 l else 120)
theorem Az7 {l:List Ae} {b:Ak}:(Dx l b).2.2=0↔∃c r,QH l b=some (c,r):=by
 unfold Dx
 cases h:QH l b with
 |some y=>
  obtain⟨c,r⟩:=y
  exact⟨fun _=>⟨c,r,rfl⟩,fun _=>rfl⟩
 |none=>
  refine⟨fun h0=>?_,fun⟨_,_,h0⟩=>by cases h0⟩
  exfalso
  have mj:(bif A1 l !=0 then A1 l else 120:Int)=0:=h0
  cases hg:A1 l !=0 with
  |true=>rw[hg,cond_true] at mj;rw[mj] at hg;cases hg
  |false=>rw[hg] at mj;cases mj
theorem A62 (l:List Ae):Ps.ofG (Dx l)=QH l:=funext fun b=>by
 unfold Ps.ofG
 cases h:QH l b with
 |some y=>
  obtain⟨c,r⟩:=y
  rw[if_pos (Az7.2 ⟨c,r,h⟩)]
  obtain⟨_,hb⟩:=(Alj l).front _ _ _ h
  unfold Dx
  rw[h]
  show some (c,b.drop ((b.length:Int) - (r.length:Int)).toNat)=_
  have hl:=congrArg List.length hb
  rw[List.length_append] at hl
  rw[show((b.length:Int) - (r.length:Int)).toNat=(Kg l c).length by omega]
  conv=>lhs;rw[hb]
  rw[List.drop_left]
 |none=>
  rw[if_neg]
  intro h0
  obtain⟨c,r,h1⟩:=Az7.1 h0
  rw[h] at h1
  cases h1
def wSu:Sr (List Ak):=fun b bad=>(dgs b,b.drop (32*(b.length / 32)),bad)
theorem Bc6:E0 wSu A3o where
 bad:=fun _=>rfl
 none:=fun _ h=>by cases h
 some:=fun _ _ _ h=>by cases h;rfl
def wPa:Sr (List Int):=fun b bad=>X8 (Av 15) (Av 2 b bad).1.toNat [] (Av 2 b bad).2.1 (Av 2 b bad).2.2
theorem A1k:E0 wPa A3n:=E0.bind (N9 2) fun n=>(N9 15).many n.toNat
def Uf (l:List Ae) (k s:Int) (p:List Int):Sr AS:=fun b bad=>
 let v:=wG Ah b bad
 let o:=Av 1 v.2.1 v.2.2
 let n:=Av 256 o.2.1 o.2.2
 let rs:=U1 (wG (T2 l)) n.1.toNat [] n.2.1 n.2.2
 (⟨k,s,HT.change,0,0,p,[],rs.1,v.1,o.1==1⟩,rs.2)
theorem Bc5 (l:List Ae) (k s:Int) (p:List Int):E0 (Uf l k s p) (A3m l k s p):=
 E0.bind (E0.ofG Ah) fun v=>E0.bind (N9 1) fun o=>E0.bind (N9 256) fun n=>E0.bind ((E0.ofG (T2 l)).someN n.toNat) fun rs=>E0.pure (⟨k,s,HT.change,0,0,p,[],rs,v,o==1⟩:AS)
def wTl (l:List Ae) (k s:Int):Sr AS:=fun b bad=>
 if k=1 then(⟨k,s,(wG (Dx l) b bad).1,0,0,[],[],[],⟨0,0⟩,false⟩,(wG (Dx l) b bad).2)
 else if k=2 then
  let a:=Av 1099511627776 b bad
  let o:=Av 1099511627776 a.2.1 a.2.2
  (⟨k,s,HT.change,a.1,o.1,[],[],[],⟨0,0⟩,false⟩,o.2)
 else
  let p:=wPa b bad
  if k=5 then Uf l k s p.1 p.2.1 p.2.2 else(⟨k,s,HT.change,0,0,p.1,(wSu p.2.1 p.2.2).1,[],⟨0,0⟩,false⟩,(wSu p.2.1 p.2.2).2)
def wM (l:List Ae):Sr AS:=fun b bad=>wTl l (Av 5 b bad).1 (Av 2 (Av 5 b bad).2.1 (Av 5 b bad).2.2).1 (Av 2 (Av 5 b bad).2.1 (Av 5 b bad).2.2).2.1 (Av 2 (Av 5 b bad).2.1 (Av 5 b bad).2.2).2.2
def Bk5 (l:List Ae) (k s:Int):Ps AS:=if k=1 then Ps.bind (QH l) fun c=>Ps.pure ⟨k,s,c,0,0,[],[],[],⟨0,0⟩,false⟩
 else if k=2 then Ps.bind (SK 1099511627776) fun a=>Ps.bind (SK 1099511627776) fun o=>Ps.pure ⟨k,s,HT.change,a,o,[],[],[],⟨0,0⟩,false⟩
 else Ps.bind A3n fun p=>if k=5 then A3m l k s p else Ps.bind A3o fun d=>Ps.pure ⟨k,s,HT.change,0,0,p,d,[],⟨0,0⟩,false⟩
theorem Bc7 (l:List Ae) (k s:Int):E0 (wTl l k s) (Bk5 l k s):=by
 unfold wTl Bk5
 by_cases h1:k=1
 ·simp only[if_pos h1]
  rw[←A62]
  exact E0.bind (E0.ofG (Dx l)) fun c=>E0.pure (⟨k,s,c,0,0,[],[],[],⟨0,0⟩,false⟩:AS)
 simp only[if_neg h1]
 by_cases h2:k=2
 ·simp only[if_pos h2]
  exact E0.bind (N9 _) fun a=>E0.bind (N9 _) fun o=>E0.pure (⟨k,s,HT.change,a,o,[],[],[],⟨0,0⟩,false⟩:AS)
 simp only[if_neg h2]
 by_cases h5:k=5
 ·simp only[if_pos h5]
  exact E0.bind A1k fun p=>Bc5 l k s p
 ·simp only[if_neg h5]
  exact E0.bind A1k fun p=>E0.bind Bc6 fun d=>E0.pure (⟨k,s,HT.change,0,0,p,d,[],⟨0,0⟩,false⟩:AS)
theorem Zy (l:List Ae):E0 (wM l) (prM l):=E0.bind (N9 5) fun k=>E0.bind (N9 2) fun s=>Bc7 l k s
def H3 (l:List Ae) (b:Ak):AS×Int:=bif A1 l !=0 then(HT,A1 l) else bif GG b !=0 then(HT,GG b) else
 bif(wM l (Az b) (AA b !=(b.length:Int))).2.2||decide (0 <(wM l (Az b) (AA b !=(b.length:Int))).2.1.length)||Dn l (wM l (Az b) (AA b !=(b.length:Int))).1 !=0 then(HT,140) else((wM l (Az b) (AA b !=(b.length:Int))).1,0)
theorem Adh (l:List Ae) (b:Ak):H3 l b=(TZ l b,L8 l b):=by
 have gn:L8 l b≠0→TZ l b=HT:=fun h=>by
  unfold TZ
  rw[show(L8 l b==0)=false by simpa using h]
  rfl
 unfold H3
 cases h1:A1 l !=0 with
 |true=>
  have e:L8 l b=A1 l:=by unfold L8;rw[h1];rfl
  have bx:A1 l≠0:=by simpa using h1
  rw[cond_true,gn (by rw[e];exact bx),e]
 | false=>
  have bx:A1 l=0:=by simpa using h1
  rw[cond_false]
  cases h2:GG b !=0 with
  |true=>
   have e:L8 l b=GG b:=by unfold L8;rw[h1,h2];rfl
   have e9:GG b≠0:=by simpa using h2
   rw[cond_true,gn (by rw[e];exact e9),e]
  | false=>
   have e9:GG b=0:=by simpa using h2
   rw[cond_false]
   have dh:∀y:AS×Ak×Bool,(y.2.2||decide (0 <y.2.1.length)||Dn l y.1 !=0)=true→MT l b=none→(bif y.2.2||decide (0 <y.2.1.length)||Dn l y.1 !=0 then(HT,(140:Int)) else(y.1,0))=(TZ l b,L8 l b):=fun y hy hd=>by
    have e:L8 l b=140:=by unfold L8;rw[h1,h2,hd];rfl
    rw[hy,cond_true,gn (by rw[e];omega),e]
   by_cases hk:AA b=(b.length:Int)
   ·have ek:(AA b !=(b.length:Int))=false:=by simpa using hk
    rw[ek]
    cases hp:prM l (Az b) with
    | none=>
     refine dh _ (by rw[(Zy l).none _ hp];rfl) ?_
     cases hd:MT l b with
     |none=>rfl
     |some m=>
      exfalso
      unfold MT at hd
      rw[if_pos hk] at hd
      obtain⟨g1,g2⟩:=W0 hd
      rw[A1c g1 (KJ.1 g2).2] at hp
      cases hp
    | some y=>
     obtain⟨m,r⟩:=y
     rw[(Zy l).some _ m r hp]
     show(bif(false||decide (0 <r.length))||Dn l m !=0 then(HT,(140:Int)) else(m,0))=_
     by_cases hr:r=[]
     ·subst hr
      by_cases hg:Dn l m=0
      ·have hd:MT l b=some m:=by unfold MT;rw[if_pos hk];exact Azn (Aoe hp) hg
       have e:L8 l b=0:=Awf.2 ⟨bx,e9,m,hd⟩
       have er:TZ l b=m:=by unfold TZ;rw[e,hd];rfl
       rw[hg,e,er]
       rfl
      ·refine dh (m,[],false) (by show((false||decide (0 <([]:Ak).length))||Dn l m !=0)=true;rw[show(Dn l m !=0)=true by simpa using hg,Bool.or_true]) ?_
       cases hd:MT l b with
       |none=>rfl
       |some m'=>
        exfalso
        unfold MT at hd
        rw[if_pos hk] at hd
        obtain⟨g1,g2⟩:=W0 hd
        rw[Aoe hp] at g1
        cases g1
        exact hg g2
     ·have hl:0 <r.length:=List.length_pos_iff.2 hr
      refine dh (m,r,false) (by show((false||decide (0 <r.length))||Dn l m !=0)=true;rw[decide_eq_true hl];rfl) ?_
      cases hd:MT l b with
      |none=>rfl
      |some m'=>
       exfalso
       unfold MT at hd
       rw[if_pos hk] at hd
       obtain⟨g1,g2⟩:=W0 hd
       rw[A1c g1 (KJ.1 g2).2] at hp
       cases hp
       exact hr rfl
   ·have ek:(AA b !=(b.length:Int))=true:=by simpa using hk
    rw[ek]
    refine dh _ (by rw[(Zy l).bad];rfl) ?_
    unfold MT
    rw[if_neg hk]
def stG {α:Type} (get:Ak→α×Int×Int) (b:Ak) (k:Int) (bad:Bool):α×Int×Bool:=((get (b.drop k.toNat)).1,k+(get (b.drop k.toNat)).2.1,bad||(get (b.drop k.toNat)).2.2 !=0)
theorem Bfr:PW (stG AM) (Ps.ofG AM):=PW.ofG Aak
theorem Bft:PW (stG Ah) (Ps.ofG Ah):=PW.ofG NN
theorem A8x (n:Nat):PW (fun b k bad=>ZJ b n [] k bad) (Ps.many psW n):=by
 have h:=A8w n []
 rwa[Agb] at h
def A8k:Ps Ar:=Ps.bind (Ps.ofG Am) fun a=>Ps.bind (Ps.ofG Am) fun q=>Ps.bind (Ps.ofG AM) fun s=>Ps.bind (Ps.ofG Ah) fun v=>Ps.bind (Ps.ofG Am) fun k=>
 Ps.bind (Ps.many psW (min k 9).toNat) fun ws=>Ps.pure ⟨a,q,s,v,ws⟩
def Ud (b:Ak) (k:Int) (bad:Bool):Ar×Int×Bool:=
 let a:=AO b k bad
 let q:=AO b a.2.1 a.2.2
 let s:=stG AM b q.2.1 q.2.2
 let v:=stG Ah b s.2.1 s.2.2
 let n:=AO b v.2.1 v.2.2
 let ws:=ZJ b (min n.1 9).toNat [] n.2.1 n.2.2
 (⟨a.1,q.1,s.1,v.1,ws.1⟩,ws.2)
theorem A8v:PW Ud A8k:=PW.bind Aub fun a=>PW.bind Aub fun q=>PW.bind Bfr fun s=>PW.bind Bft fun v=>PW.bind Aub fun k=>PW.bind (A8x (min k 9).toNat) fun ws=>PW.pure (⟨a,q,s,v,ws⟩:Ar)
theorem Bfp {b r:Ak} {c:Ar} (h:psC b=some (c,r)):A8k b=some (c,r):=by
 obtain⟨a,r1,a1,e1⟩:=Ps.bind_is h
 obtain⟨q,r2,a2,e2⟩:=Ps.bind_is e1
 obtain⟨s,r3,a3,e3⟩:=Ps.bind_is e2
 obtain⟨v,r4,a4,e4⟩:=Ps.bind_is e3
 obtain⟨k,r5,a5,e5⟩:=Ps.bind_is e4
 split at e5
 ·cases e5
 rename_i hk
 obtain⟨ws,r6,a6,e6⟩:=Ps.bind_is e5
 unfold A8k
 rw[Ps.bind_at a1,Ps.bind_at a2,Ps.bind_at a3,Ps.bind_at a4,Ps.bind_at a5,show min k 9=k by omega,Ps.bind_at a6]
 exact e6
theorem Bcz {b r:Ak} {c:Ar} (h:A8k b=some (c,r)) (hc:c.writes.length≤8):psC b=some (c,r):=by
 obtain⟨a,r1,a1,e1⟩:=Ps.bind_is h
 obtain⟨q,r2,a2,e2⟩:=Ps.bind_is e1
 obtain⟨s,r3,a3,e3⟩:=Ps.bind_is e2
 obtain⟨v,r4,a4,e4⟩:=Ps.bind_is e3
 obtain⟨k,r5,a5,e5⟩:=Ps.bind_is e4
 obtain⟨ws,r6,a6,e6⟩:=Ps.bind_is e5
 obtain⟨⟨g1,_⟩,_⟩:=(Bh2.many _).front _ _ _ a6
 cases e6
 have hc':ws.length≤8:=hc
 have hk:¬8 <k:=by omega
 unfold psC
 rw[Ps.bind_at a1,Ps.bind_at a2,Ps.bind_at a3,Ps.bind_at a4,Ps.bind_at a5,if_neg hk]
 rw[show min k 9=k by omega] at a6
 rw[Ps.bind_at a6]
 rfl
def chP (l:List Ae) (b:Ak):Ar×Int×Int:=bif A1 l !=0 then(HT.change,0,A1 l) else
 bif(Ud b 0 false).2.2||OW l (Ud b 0 false).1 !=0 then(HT.change,0,120) else((Ud b 0 false).1,(Ud b 0 false).2.1,0)
theorem Av1 (l:List Ae) (b:Ak) (hb:Ai b.length):chP l b=Dx l b:=by
 have h0:RF b 0:=⟨Int.le_refl _,by omega,hb⟩
 unfold chP
 cases h1:A1 l !=0 with
 | true=>
  have bx:A1 l≠0:=by simpa using h1
  rw[cond_true]
  unfold Dx
  cases h:QH l b with
  |none=>simp only;rw[h1];rfl
  |some y=>
   obtain⟨c,r⟩:=y
   obtain⟨hc,_⟩:=(Alj l).front _ _ _ h
   exact absurd (A5l.1 hc).1 bx
 | false=>
  rw[cond_false]
  have gn:QH l b=none→Dx l b=(HT.change,0,120):=fun h=>by
   unfold Dx
   rw[h,h1]
   rfl
  cases h9:A8k b with
  | none=>
   have ra:=A8v.none b 0 h0 h9
   rw[ra]
   rw[gn]
   ·rfl
   ·cases h:QH l b with
    |none=>rfl
    |some y=>
     obtain⟨c,r⟩:=y
     obtain⟨c',r',a1,_⟩:=Ps.bind_is h
     rw[Bfp a1] at h9
     cases h9
  | some y=>
   obtain⟨c,r⟩:=y
   obtain⟨g1,g2,g3⟩:=A8v.some b 0 c r h0 h9
   have ar:=A8v.inb b 0 false h0
   rw[g1,g2,Bool.false_or]
   by_cases hc:OW l c=0
   ·have hw:=(Aec hc).1
    have eu:QH l b=some (c,r):=by
     unfold QH
     rw[Ps.bind_at (Bcz h9 hw),if_pos hc]
     rfl
    unfold Dx
    rw[eu,hc]
    have hl:=congrArg List.length g3
    rw[List.length_drop] at hl
    obtain⟨i1,i2,_⟩:=ar
    show(c,(Ud b 0 false).2.1,(0:Int))=(c,(b.length:Int) - (r.length:Int),0)
    rw[show(Ud b 0 false).2.1=(b.length:Int) - (r.length:Int) by omega]
   ·rw[show(OW l c !=0)=true by simpa using hc]
    rw[gn]
    ·rfl
    ·cases h:QH l b with
     |none=>rfl
     |some y=>
      obtain⟨c',r'⟩:=y
      obtain⟨hc',_⟩:=(Alj l).front _ _ _ h
      obtain⟨c2,r2,a1,e1⟩:=Ps.bind_is h
      rw[Bfp a1] at h9
      cases h9
      rw[if_neg hc] at e1
      cases e1
theorem Azc (k:Int) (b:Ak) (hb:RF b 0) (c0 c1 c2 c3 c4 c5:Int):∀(n:Nat) (p:Int) (bad:Bool) (ws:List AY),n=(min k 9 - (ws.length:Int)).toNat→RF b p→
  A3 CT CS G5 n (k,b,p,bad,c0,c1,c2,c3,c4,c5,ws)∧
  Bj CT CS n (k,b,p,bad,c0,c1,c2,c3,c4,c5,ws)=(k,b,(ZJ b n ws p bad).2.1,(ZJ b n ws p bad).2.2,c0,c1,c2,c3,c4,c5,(ZJ b n ws p bad).1)
 | 0,p,bad,ws,hn,hp=>by
  have hg:BH k bad ws=false:=by
   unfold BH
   rw[decide_eq_false (by omega)]
   rfl
  have hf:∀q:Prop,BH k bad ws=true→q:=fun q h=>by rw[hg] at h;cases h
  exact⟨⟨Aa (hf _) (Aa (hf _) An),hg⟩,rfl⟩
 | n+1,p,bad,ws,hn,hp=>by
  have ae:(ws.length:Int) <min k 9:=by omega
  have hg:BH k bad ws=!bad:=by
   unfold BH
   rw[decide_eq_true ae,Bool.not_not,Bool.true_and]
  have eu:∀q∈G5 (k,b,p,bad,c0,c1,c2,c3,c4,c5,ws),q:=Aa (fun _=>hp) (Aa (fun _=>by show Ai (ws.length+1);unfold Ai;omega) An)
  cases bad with
  | true=>
   refine⟨⟨eu,fun h=>?_⟩,?_⟩
   ·have h':BH k true ws=true:=h
    rw[hg] at h'
    cases h'
   ·show(bif BH k true ws then Bj CT CS n _ else(k,b,p,true,c0,c1,c2,c3,c4,c5,ws))=_
    rw[hg]
    rfl
  |false=>
   obtain⟨h1,h2⟩:=Azc k b hb c0 c1 c2 c3 c4 c5 n (RE b p false).2.1 (RE b p false).2.2 (ws++[(RE b p false).1]) (by rw[List.length_append];simp only[List.length_cons,List.length_nil];omega) (Bic hp false)
   refine⟨⟨eu,fun _=>h1⟩,?_⟩
   show(bif BH k false ws then Bj CT CS n (k,b,(RE b p false).2.1,(RE b p false).2.2,c0,c1,c2,c3,c4,c5,ws++[(RE b p false).1]) else _)=_
   rw[hg,Bool.not_false,cond_true,h2]
   rfl
theorem Ahx (b:Ak):∀(n:Nat) (ws:List AY) (k:Int) (bad:Bool),(ZJ b n ws k bad).1.length≤ws.length+n
 |0,ws,k,bad=>Nat.le_refl _
 |n+1,ws,k,true=>by rw[A86];show ws.length≤_;omega
 |n+1,ws,k,false=>by
  have:=Ahx b n (ws++[(RE b k false).1]) (RE b k false).2.1 (RE b k false).2.2
  rw[List.length_append] at this
  simp only[List.length_cons,List.length_nil] at this
  show(ZJ b n (ws++[(RE b k false).1]) (RE b k false).2.1 (RE b k false).2.2).1.length≤_
  omega
theorem Bjt (b:Ak) (l:List Ae) (hb:Ai b.length):(∀p∈Ur b l,p)∧EF b l=(Dx l b).1∧Lo b l=(Dx l b).2.1∧Lp b l=(Dx l b).2.2:=by
 have h0:RF b 0:=⟨Int.le_refl _,by omega,hb⟩
 have ha:=S4 h0 false
 have hq:=S4 ha (AO b 0 false).2.2
 have hs:=Bfr.inb b _ (AO b (AO b 0 false).2.1 (AO b 0 false).2.2).2.2 hq
 have hv:=Bft.inb b _ (stG AM b (AO b (AO b 0 false).2.1 (AO b 0 false).2.2).2.1 (AO b (AO b 0 false).2.1 (AO b 0 false).2.2).2.2).2.2 hs
 have k3:Ab b=(stG AM b (AO b (AO b 0 false).2.1 (AO b 0 false).2.2).2.1 (AO b (AO b 0 false).2.1 (AO b 0 false).2.2).2.2).2.1:=by
  unfold Ab
  rw[G3]
  exact Xi hs
 have k2:Ap b=(stG Ah b (stG AM b (AO b (AO b 0 false).2.1 (AO b 0 false).2.2).2.1 (AO b (AO b 0 false).2.1 (AO b 0 false).2.2).2.2).2.1 (stG AM b (AO b (AO b 0 false).2.1 (AO b 0 false).2.2).2.1 (AO b (AO b 0 false).2.1 (AO b 0 false).2.2).2.2).2.2).2.1:=by
  unfold Ap
  rw[G3,k3]
  exact Xi hv
 have hn:=S4 hv (stG Ah b (stG AM b (AO b (AO b 0 false).2.1 (AO b 0 false).2.2).2.1 (AO b (AO b 0 false).2.1 (AO b 0 false).2.2).2.2).2.1 (stG AM b (AO b (AO b 0 false).2.1 (AO b 0 false).2.2).2.1 (AO b (AO b 0 false).2.1 (AO b 0 false).2.2).2.2).2.2).2.2
 have rq:∀k:Int,(min k 9 - (([]:List AY).length:Int)).toNat=(min k 9).toNat:=fun k=>by simp
 have key:=fun k p bad c0 c1 c2 c3 c4 c5 (hp:RF b p)=>Azc k b h0 c0 c1 c2 c3 c4 c5 (min k 9 - (([]:List AY).length:Int)).toNat p bad [] rfl hp
 have ah:∀(k p:Int) (bad:Bool) (c0 c1 c2 c3 c4 c5:Int),RF b p→A6 (k,b,p,bad,c0,c1,c2,c3,c4,c5,[])=(k,b,(ZJ b (min k 9).toNat [] p bad).2.1,(ZJ b (min k 9).toNat [] p bad).2.2,c0,c1,c2,c3,c4,c5,(ZJ b (min k 9).toNat [] p bad).1):=fun k p bad c0 c1 c2 c3 c4 c5 hp=>by
  have h:=(key k p bad c0 c1 c2 c3 c4 c5 hp).2
  rw[←rq]
  exact h
 have K1:HO b=(Ud b 0 false).1.writes:=by
  unfold HO
  simp only[G3,k2,k3]
  exact congrArg (fun x:Bp=>x.2.2.2.2.2.2.2.2.2.2) (ah _ _ _ _ _ _ _ _ _ hn)
 have K0:Dj b l=((Ud b 0 false).2.2||OW l (Ud b 0 false).1 !=0):=by
  unfold Dj
  simp only[G3,k2,k3,K1]
  exact congrArg (fun x:Bp=>x.2.2.2.1||OW l (Ar.mk x.2.2.2.2.1 x.2.2.2.2.2.1 ⟨x.2.2.2.2.2.2.1,x.2.2.2.2.2.2.2.1⟩ ⟨x.2.2.2.2.2.2.2.2.1,x.2.2.2.2.2.2.2.2.2.1⟩ (Ud b 0 false).1.writes) !=0) (ah _ _ _ _ _ _ _ _ _ hn)
 have e6:A5 l=(A1 l !=0):=rfl
 have L0:EF b l=(bif A1 l !=0 then HT.change else bif(Ud b 0 false).2.2||OW l (Ud b 0 false).1 !=0 then HT.change else(Ud b 0 false).1):=by
  unfold EF
  simp only[G3,k2,k3,K1,K0,e6]
  generalize (A1 l !=0)=g6
  generalize ((Ud b 0 false).2.2||OW l (Ud b 0 false).1 !=0)=g0
  cases g6 with
  |true=>rfl
  |false=>
   cases g0 with
   |true=>rfl
   |false=>exact congrArg (fun x:Bp=>Ar.mk x.2.2.2.2.1 x.2.2.2.2.2.1 ⟨x.2.2.2.2.2.2.1,x.2.2.2.2.2.2.2.1⟩ ⟨x.2.2.2.2.2.2.2.2.1,x.2.2.2.2.2.2.2.2.2.1⟩ (Ud b 0 false).1.writes) (ah _ _ _ _ _ _ _ _ _ hn)
 have L1:Lo b l=(bif A1 l !=0 then 0 else bif(Ud b 0 false).2.2||OW l (Ud b 0 false).1 !=0 then 0 else(Ud b 0 false).2.1):=by
  unfold Lo
  simp only[G3,k2,k3,K0,e6]
  generalize (A1 l !=0)=g6
  generalize ((Ud b 0 false).2.2||OW l (Ud b 0 false).1 !=0)=g0
  cases g6 with
  |true=>rfl
  |false=>
   cases g0 with
   |true=>rfl
   |false=>exact congrArg (fun x:Bp=>x.2.2.1) (ah _ _ _ _ _ _ _ _ _ hn)
 have L2:Lp b l=(bif A1 l !=0 then A1 l else bif(Ud b 0 false).2.2||OW l (Ud b 0 false).1 !=0 then 120 else 0):=by
  unfold Lp
  rw[K0,e6]
 have hlen:(Ud b 0 false).1.writes.length≤9:=by
  have:=Ahx b (min (AO b (stG Ah b (stG AM b (AO b (AO b 0 false).2.1 (AO b 0 false).2.2).2.1 (AO b (AO b 0 false).2.1 (AO b 0 false).2.2).2.2).2.1 (stG AM b (AO b (AO b 0 false).2.1 (AO b 0 false).2.2).2.1 (AO b (AO b 0 false).2.1 (AO b 0 false).2.2).2.2).2.2).2.1 (stG Ah b (stG AM b (AO b (AO b 0 false).2.1 (AO b 0 false).2.2).2.1 (AO b (AO b 0 false).2.1 (AO b 0 false).2.2).2.2).2.1 (stG AM b (AO b (AO b 0 false).2.1 (AO b 0 false).2.2).2.1 (AO b (AO b 0 false).2.1 (AO b 0 false).2.2).2.2).2.2).2.2).1 9).toNat [] (Ud b 0 false).2.1 false
  have h2:=fun n k bad=>Ahx b n [] k bad
  have h3:=h2 _ _ _ |> fun h=>(show(Ud b 0 false).1.writes.length≤0+_ from h)
  omega
 refine⟨Aa (fun _=>h0) (Aa (fun _=>ha) (Aa (fun _=>Xh hq) (Aa (fun _=>by rw[k3];exact Xh hs) (Aa (fun _=>by rw[k2];exact hv) (Aa (fun _=>?_) (Aa (fun _ _=>?_) An)))))),?_,?_,?_⟩
 ·simp only[G3,k2,k3]
  exact(key _ _ _ _ _ _ _ _ _ hn).1
 ·rw[K1]
  unfold AT
  omega
 ·rw[L0,←Av1 l b hb]
  unfold chP
  generalize (A1 l !=0)=g6
  generalize ((Ud b 0 false).2.2||OW l (Ud b 0 false).1 !=0)=g0
  cases g6<;>cases g0<;>rfl
 ·rw[L1,←Av1 l b hb]
  unfold chP
  generalize (A1 l !=0)=g6
  generalize ((Ud b 0 false).2.2||OW l (Ud b 0 false).1 !=0)=g0
  cases g6<;>cases g0<;>rfl
 ·rw[L2,←Av1 l b hb]
  unfold chP
  generalize (A1 l !=0)=g6
  generalize ((Ud b 0 false).2.2||OW l (Ud b 0 false).1 !=0)=g0
  cases g6<;>cases g0<;>rfl
mutual
/-- Rows of one's own of known elements as what stays. -/
def Ai2 (os:AJ):A→Option A
 | .v w=>some (.v w)
 | .sl c l=>some (.sl c l)
 | .sq q=>match Aq q os with
  |some (.arr _ sz (.ty c l))=>bif Nat.beq sz (size c) then some (.sl c l) else none
  |_=>none
 | .agg xs=>match frzL os xs with
  |some ys=>some (.agg ys)
  |none=>none
 | .tup xs=>match frzL os xs with
  |some ys=>some (.tup ys)
  |none=>none
 |_=>none
def frzL (os:AJ):List A→Option (List A)
 | []=>some []
 | x::r=>match Ai2 os x with
  |some y=>match frzL os r with
   |some t=>some (y::t)
   |none=>none
  |none=>none
end
section
variable {F:Nat→Prop} {N:Nm} {m:Nat} {R:World} {os:AJ}
mutual
theorem Az5 (hh:Bi F N m os R):∀{x y:A} {v:Value},Ai2 os x=some y→Hv F N m R x v→Hv (fun g=>F g∨EN N os g) N m R y v∧y.pk (fun _=>none)=y
 | .v w,y,v,he,h=>by
  unfold Ai2 at he
  cases he
  exact⟨h.step (Ext.wide fun g hg=> .inl hg),by unfold A.pk;rfl⟩
 | .sl c l,y,v,he,h=>by
  unfold Ai2 at he
  cases he
  exact⟨h.step (Ext.wide fun g hg=> .inl hg),by unfold A.pk;rfl⟩
 | .sq q,y,v,he,h=>by
  unfold Ai2 at he
  split at he<;>try (cases he;done)
  rename_i e sz c l hl
  cases hb:Nat.beq sz (size c) with
  |false=>rw[hb] at he;cases he
  |true=>
   rw[hb] at he
   cases he
   obtain rfl:=Nat.eq_of_beq_eq_true hb
   obtain⟨_,rfl⟩:=h.sq_inv
   obtain⟨_,zs,g1,g2⟩:=hh.ob q _ hl
   have hw:Ext F N m R (fun g=>F g∨EN N os g) N m R:=Ext.wide fun g hg=> .inl hg
   exact⟨(Als (F':=fun g=>F g∨EN N os g) (N:=N) (nx:=m) g1 (fun k hk=>(g2 k hk).step hw) (fun g hg=> .inr ⟨q,_,hl,hg⟩)).1,by unfold A.pk;rfl⟩
 | .agg xs,y,v,he,h=>by
  unfold Ai2 at he
  split at he<;>try (cases he;done)
  rename_i ys mb
  cases he
  obtain⟨vs,rfl,h1⟩:=h.agg_inv
  obtain⟨g1,g2⟩:=frzL_ok hh mb h1
  exact⟨.agg vs g1.at.1 g1.at.2,by unfold A.pk;rw[g2]⟩
 | .tup xs,y,v,he,h=>by
  unfold Ai2 at he
  split at he<;>try (cases he;done)
  rename_i ys mb
  cases he
  obtain⟨vs,rfl,h1⟩:=h.tup_inv
  obtain⟨g1,g2⟩:=frzL_ok hh mb h1
  exact⟨.tup vs g1.at.1 g1.at.2,by unfold A.pk;rw[g2]⟩
 | .ref _,_,_,he,_| .own _ _,_,_,he,_| .ownx _ _ _ _,_,_,he,_| .vw _ _ _ _ _,_,_,he,_| .el _ _ _ _,_,_,he,_| .dq _,_,_,he,_| .iv _ _,_,_,he,_| .de _ _ _ _,_,_,he,_| .ie _ _ _ _ _,_,_,he,_
 | .mp _,_,_,he,_| .nl,_,_,he,_| .it _ _,_,_,he,_| .fn _ _ _,_,_,he,_| .dead,_,_,he,_| .av _ _ _,_,_,he,_| .rv _,_,_,he,_| .vr _ _ _ _,_,_,he,_| .vd _ _ _ _,_,_,he,_| .yl _,_,_,he,_| .opt _ _ _,_,_,he,_=>by unfold Ai2 at he;cases he
theorem frzL_ok (hh:Bi F N m os R):∀{xs ys:List A} {vs:List Value},frzL os xs=some ys→HL F N m R xs vs→HL (fun g=>F g∨EN N os g) N m R ys vs∧pkL (fun _=>none) ys=ys
 | [],ys,vs,he,h=>by
  unfold frzL at he
  cases he
  obtain rfl:=h.inv0
  exact⟨HL.nil,by unfold pkL;rfl⟩
 |x::r,ys,vs,he,h=>by
  unfold frzL at he
  split at he<;>try (cases he;done)
  rename_i y hy
  split at he<;>try (cases he;done)
  rename_i t ht
  cases he
  obtain⟨v,w,rfl,h1,h2⟩:=h.inv
  obtain⟨g1,g2⟩:=Az5 hh hy h1
  obtain⟨g3,g4⟩:=frzL_ok hh ht h2
  exact⟨HL.cons g1 g3,by unfold pkL;rw[g2,g4]⟩
end
end
theorem Avu {P:Program} {f:FuncId} {args:List A} {k m:Nat} {x y:A} {os:AJ} (h:Ax P f args 0 [] k x m os) (hy:Ai2 os x=some y):Ax P f args 0 [] k y 0 []:=fun F N R vs hh ha=>
 Calls.mono (P:=P) (h F N R vs hh ha) fun e0 R' ⟨v,F',N',e1,e2,e3,e4,e5⟩=>by
  obtain⟨q1,q2⟩:=Az5 e2 hy e4
  have hn:∀i j,i <m→(fun _=>none:Nat→Option Nat) i=some j→j <0∧N'.b j=N'.b i∧N'.q j=N'.q i:=fun i j _ hj=>by cases hj
  have q3:=Hv.pk (N':=N') (nx':=0) (ρ:=fun _=>none) hn q1
  rw[q2] at q3
  refine⟨v,fun g=>F' g∨EN N' os g,N',e1,⟨fun g hg=>?_,fun i ob hi=>(by cases hi),fun i ob g hi=>(by cases hi),fun i j x y g hi=>(by cases hi),fun x hx=>⟨.inl (e2.gl x hx).1,(e2.gl x hx).2⟩⟩,⟨Nat.le_refl _,fun i hi=>absurd hi (Nat.not_lt_zero _),fun i hi=>absurd hi (Nat.not_lt_zero _),fun g hg=> .inl (e3.f g hg),fun g hg=>?_,fun g ⟨i,ob,hi,_⟩=>(by cases hi),e3.os,e3.tape,e3.output,e3.size,e3.keep⟩,q3,e5⟩
  ·rcases hg with hg|⟨i,ob,hi,hg⟩
   ·exact e2.flt g hg
   ·exact(e2.ob i ob hi).2.lt hg
  ·rcases hg with hg|hg
   ·exact e3.fnew g hg
   ·rcases e3.foot g hg with h|h
    ·exact .inr (.inl h)
    ·exact .inr (.inr h)
theorem Amf {P:Program} {f:FuncId} {args ck:List A} {k nx1 nx:Nat} {b:Value} {o o1:AJ} (h:Ax P f ck nx [] k (.v b) nx1 o1) (hk:k≤1) (ha:frzL o args=some ck):Ax P f args nx o 1 (.v b) nx o:=fun F N R vs hh hl=>by
 have yp:Bi (fun g=>F g∨EN N o g) N nx [] R:=⟨fun g hg=>by
   rcases hg with h|⟨i,ob,hi,hg⟩
   ·exact hh.flt g h
   ·exact(hh.ob i ob hi).2.lt hg,fun i ob hi=>(by cases hi),fun i ob g hi=>(by cases hi),fun i j x y g hi=>(by cases hi),fun x hx=>⟨.inl (hh.gl x hx).1,(hh.gl x hx).2⟩⟩
 refine(h _ N R vs yp (frzL_ok hh ha hl).1).mono fun e R' ⟨y,F',N',e1,_,_,e4,e5⟩=>?_
 have hb:=e5 hk
 exact⟨y,F,N,e1,(hh.grow hb).1,Step.of_below hb,by rw[e4.v_inv];exact .v _,fun _=>hb⟩
def Bfi (g:HU):HU:=fun args nx o=>match frzL o args with
 |some ck=>match g ck nx [] with
  |some (k,.v b,_,_,ps)=>bif Nat.ble k 1 then some (1,.v b,nx,o,ps) else none
  |_=>none
 |none=>none
theorem A7o {P:Program} {f:FuncId} {g:HU} (h:IE P f g):IE P f (Bfi g):=fun args nx o k x nx' o' ps he=>by
 unfold Bfi at he
 split at he<;>try (cases he;done)
 rename_i ck ha
 split at he<;>try (cases he;done)
 rename_i k1 b nx1 o1 dg hg
 cases hb:Nat.ble k1 1 with
 |false=>rw[hb] at he;cases he
 |true=>
  rw[hb] at he
  cases he
  exact⟨fun hp=>Amf ((h _ _ _ _ _ _ _ _ hg).1 hp) (Nat.le_of_ble_eq_true hb) ha,[],rfl⟩
def Bj6 (g:HU):HU:=fun args nx o=>bif freeL args then(match g args 0 [] with
 |some (k,x,_,os,ps)=>match Ai2 os x with
  |some y=>bif Nat.ble k 1 then some (1,y.pk (S3 nx),nx,o,ps) else none
  |none=>none
 |none=>none) else none
theorem Anh {P:Program} {f:FuncId} {g:HU} (h:IE P f g):IE P f (Bj6 g):=fun args nx o k x nx' o' ps he=>by
 unfold Bj6 at he
 cases hf:freeL args with
 |false=>rw[hf] at he;cases he
 | true=>
  rw[hf,cond_true] at he
  split at he<;>try (cases he;done)
  rename_i k1 x1 m os dg hg
  split at he<;>try (cases he;done)
  rename_i y hy
  cases hb:Nat.ble k1 1 with
  |false=>rw[hb] at he;cases he
  |true=>
   rw[hb] at he
   cases he
   exact⟨fun hp=>WJ (Avu ((h _ _ _ _ _ _ _ _ hg).1 hp) hy) (Nat.le_of_ble_eq_true hb) hf nx o,[],rfl⟩
end Go.Proofs.YtifkbgkbajncjaaDoor
namespace Go.Proofs.YtifkbgkbajncjaaDoor
open Go.RowKit
section
variable {F:Nat→Prop} {N:Nm} {nx:Nat} {R:World} {o:AJ}
end
def A5m (a0:Ak) (a1:List Ae):A:=.tup [.agg [iV ((Dx a1 a0).1.site),iV ((Dx a1 a0).1.seq),iV ((Dx a1 a0).1.stamp.n),iV ((Dx a1 a0).1.stamp.site),iV ((Dx a1 a0).1.vec.a),iV ((Dx a1 a0).1.vec.b),.sl .write (Dx a1 a0).1.writes],iV ((Dx a1 a0).2.1),iV ((Dx a1 a0).2.2)]
def Aze (a0:Ak) (_a1:List Ae):List Prop:=[Ai a0.length]
theorem Bgi (a0:Ak) (a1:List Ae) (hp:∀p∈Aze a0 a1,p):Ax Bb 22 [AX .bytes a0,.sl .group a1] 0 [] 1 (A5m a0 a1) 0 []:=by
 obtain⟨h1,h2,h3,h4⟩:=Bjt a0 a1 (hp _ (List.mem_cons_self ..))
 have h:=Aml a0 a1 h1
 unfold P0 at h
 rw[h2,h3,h4] at h
 exact h
theorem Ba1:IE Bb 22 (Et [.t .bytes,.l .group] 0 A5m (fun _ _=>[]) Aze):=A8 Bgi
def Bi2:=Gi Ba1 Cde
def Bi3:=Gi (Anh Ae3) Bi2
def Bi4:=Gi (Anh Aug) Bi3
def Bi5:=Gi Abs Bi4
def Bi6:=Gi Jl Bi5
def Bi7:=Gi (A7o U7) Bi6
abbrev Cdh:=Bi7
def Bg4 (C:Tab) (L:Ry):Env:=⟨Tryd.prog,Arx,C,false,Auw,true,L⟩
theorem Bbm {C:Tab} {L:Ry} (hC:COk Bb C) (hL:∀l s b ps outs,L l s=some (b,ps,outs)→Ay6 (Bg4 C L) l b s ps outs):Kh (Bg4 C L) where
 suf f args nx o k x nx' o' ps h:=(hC f args nx o k x nx' o' ps h).2
 wide:=A96
 eq:=Aex
 C f args nx o k x nx' o' ps h hl hp:=((hC f args nx o k x nx' o' ps h).1 hp).1 hl
 Y f i xs nx o k x nx' o' ps h hl hp:=((hC f (.yl i::xs) nx o k x nx' o' ps h).1 hp).2 hl i xs rfl
 tc:=Ah4
 loops:=hL
theorem A6h {C:Tab} (hC:COk Bb C):Kh (Bg4 C L0):=Bbm hC fun _ _ _ _ _ h=>by cases h
theorem Hv.yl_inv {F:Nat→Prop} {N:Nm} {nx i:Nat} {R:World} {y:Value} (h:Hv F N nx R (.yl i) y):i <nx∧y=.func (.yield (N.b i)) #[] #[]:=by
 cases h with
 |yl h=>exact⟨h,rfl⟩
section
variable {F:Nat→Prop} {N:Nm} {nx:Nat} {o:AJ} {R:World}
theorem Bce (h:Bi F N nx o R) {i f b:Nat} {us:List Nat} {cs:List A} {k k':Nat} (hl:Aq i o=some (.lp f b us cs k)):∃r:Loop,R.heap[N.b i]?=some (.loop r)∧r.state=A71 k∧r.pending=A3c k∧
  ∀r':Loop,r'={r with state:=A71 k',pending:=A3c k'}→Bi F N nx ((i,some (.lp f b us cs k'))::o) (R.putObj (N.b i) (.loop r'))∧Step F N nx o R F N nx ((i,some (.lp f b us cs k'))::o) (R.putObj (N.b i) (.loop r')):=by
 obtain⟨hi,vs,h1,r,h2,h3,h4,h5,h6,h7,h8,h9⟩:=h.ob i _ hl
 refine⟨r,h2,h7,h8,fun r' fl=>?_⟩
 subst fl
 have ae:N.b i <R.heap.size:=(Array.getElem?_eq_some_iff.1 h2).1
 refine h.upd (i0:=i) (ob0:=.lp f b us cs k') (T:=fun g=>g=N.b i) rfl rfl rfl (by rw[World.putObj_size];exact Nat.le_refl _) (fun g hg=>⟨i,_,hl,hg⟩) (fun g _ hg=>World.putObj_heap_other hg) (Nat.le_refl _) (fun _ _=>rfl) (fun _ _=>rfl)
  (fun j ob hj mr=>?_) (fun ob mr=>?_) hi (fun st=>⟨vs,h1.step st,?_⟩) (fun g hg=> .inr hg)
 ·rw[AI,if_neg hj] at mr
  exact⟨mr,fun g hg e=>by subst e;exact hj (h.sep j i ob _ _ mr hl hg rfl)⟩
 ·rw[AI,if_pos rfl] at mr
  exact(Option.some.inj mr).symm
 ·exact⟨_,World.putObj_heap_same ae,h3,h4,h5,h6,rfl,rfl,h9⟩
end
theorem Rel.lpTurn {Z:Eo} {F:Nat→Prop} {N:Nm} {s:St} {a:Act} {R:World} (h:Rel Z F N s a R) {i f b:Nat} {us:List Nat} {cs:List A} {k k':Nat} (hl:Aq i s.o=some (.lp f b us cs k)):∃r:Loop,R.heap[N.b i]?=some (.loop r)∧r.state=A71 k∧r.pending=A3c k∧
  ∀r':Loop,r'={r with state:=A71 k',pending:=A3c k'}→Rel Z F N {s with o:=(i,some (.lp f b us cs k'))::s.o} a (R.putObj (N.b i) (.loop r')):=by
 obtain⟨r,h1,h2,h3,h4⟩:=Bce (k':=k') h.hp hl
 refine⟨r,h1,h2,h3,fun r' fl=>?_⟩
 obtain⟨q1,q2⟩:=h4 r' fl
 exact h.heap q2 q1
def A3u:List Tmp→List A→EO→EO
 |p::ps,x::xs,t=>A3u ps xs ((p,x)::t)
 |_,_,t=>t
def Au9:List Nat→List A→EO
 |u::us,x::xs=>(u,x)::Au9 us xs
 |_,_=>[]
def Aqs (n:Nat):List Nat→Bool
 | []=>true
 |u::r=>Nat.blt u n&&Aqs n r
theorem A1h {F:Nat→Prop} {N:Nm} {nx n:Nat} {R:World}:∀{ps:List Tmp} {xs:List A} {vs:List Value} {t:EO} {tm:Array Value},Aqs n ps=true→ps.length=xs.length→HL F N nx R xs vs→tm.size=n→(∀u x,C4 u t=some x→Hv F N nx R x (tm.getD u undef))→
  ((ps.zip vs).foldl (fun tmps (t,a)=>tmps.setIfInBounds t a) tm).size=n∧∀u x,C4 u (A3u ps xs t)=some x→Hv F N nx R x (((ps.zip vs).foldl (fun tmps (t,a)=>tmps.setIfInBounds t a) tm).getD u undef)
 | [],xs,vs,t,tm,_,_,_,hs,ht=>by
  have e:(([]:List Tmp).zip vs).foldl (fun tmps (t,a)=>tmps.setIfInBounds t a) tm=tm:=by simp
  rw[e]
  refine⟨hs,?_⟩
  cases xs<;>exact ht
 |p::ps,[],_,_,_,_,he,_,_,_=>by cases he
 | p::ps,x::xs,vs,t,tm,hp,he,hl,hs,ht=>by
  obtain⟨v,ws,rfl,h1,h2⟩:=hl.inv
  unfold Aqs at hp
  rw[Bool.and_eq_true] at hp
  have ae:p <n:=Nat.le_of_ble_eq_true hp.1
  refine A1h (ps:=ps) (xs:=xs) (vs:=ws) (t:=(p,x)::t) (tm:=tm.setIfInBounds p v) hp.2 (Nat.succ.inj he) h2 (by simpa using hs) fun u y hy=>?_
  have hy':(bif Nat.beq p u then some x else C4 u t)=some y:=hy
  cases hb:Nat.beq p u with
  |true=>
   rw[hb] at hy'
   obtain rfl:=Nat.eq_of_beq_eq_true hb
   cases hy'
   rw[Array.getD_eq_getD_getElem?,Array.getElem?_setIfInBounds_self_of_lt (by rw[hs];exact ae)]
   exact h1
  |false=>
   rw[hb] at hy'
   have ao:p≠u:=fun e=>by subst e;simp at hb
   rw[Array.getD_eq_getD_getElem?,Array.getElem?_setIfInBounds_ne ao,←Array.getD_eq_getD_getElem?]
   exact ht u y hy'
theorem A13 {F:Nat→Prop} {N:Nm} {nx:Nat} {R:World} {tm:Array Value}:∀{us:List Nat} {cs:List A} {vs:List Value},HL F N nx R cs vs→(∀(j u:Nat) (v:Value),us[j]?=some u→vs[j]?=some v→tm.getD u undef=v)→∀u x,C4 u (Au9 us cs)=some x→Hv F N nx R x (tm.getD u undef)
 | [],_,_,_,_,u,x,h=>by cases h
 |_::_,[],_,_,_,u,x,h=>by cases h
 | v::us,c::cs,vs,hl,ht,u,x,h=>by
  obtain⟨w,ws,rfl,h1,h2⟩:=hl.inv
  have h':(bif Nat.beq v u then some c else C4 u (Au9 us cs))=some x:=h
  cases hb:Nat.beq v u with
  |true=>
   rw[hb] at h'
   obtain rfl:=Nat.eq_of_beq_eq_true hb
   cases h'
   rw[ht 0 v w rfl rfl]
   exact h1
  |false=>
   rw[hb] at h'
   exact A13 h2 (fun j u v hu hv=>ht (j+1) u v hu hv) u x h'
def evY (E:Env) (u f b:Nat):HU
 | .yl i::xs,nx,o=>match Aq i o with
  | some (.lp f' b' us cs 0)=>bif Nat.beq f f'&&(Nat.beq b b'&&(Aqs (HX f b).n (HX f b).ps.toList&&Nat.beq (HX f b).ps.size xs.length)) then
    (match MR E u 0 (HX f b).assign false ⟨(HX f b).n,nx,A3u (HX f b).ps.toList xs (Au9 us cs),o⟩ with
    | ⟨dg,[],some s1⟩=>(match Aq i s1.o with
     | some (.lp f1 b1 mg ky 0)=>(match MR E u 0 (HX f b).body false {s1 with o:=(i,some (.lp f1 b1 mg ky 1))::s1.o} with
      |⟨ez,[],some s2⟩=>(match Aq i s2.o with
       |some (.lp f2 b2 kx kz 1)=>some (2,.v (.bool true),s2.nx,(i,some (.lp f2 b2 kx kz 0))::s2.o,dg++ez)
       |_=>none)
      |_=>none)
     |_=>none)
    |_=>none) else none
  |_=>none
 |_,_,_=>none
theorem A01 {ps:List Prop} {s x:St} {e:Exit} (h:Oc ⟨ps,[],some s⟩ e x):e=.normal∧x=s:=by
 rcases h with⟨t,c,_,h,_⟩|⟨h,h2,_⟩
 ·cases h
 ·exact⟨h,(Option.some.inj h2).symm⟩
theorem Bhb {E:Env} (ok:Kh E) (hP:E.P=Tryd.prog) (dd:E.ir=true) (u f b:Nat):YOk Tryd.prog f b (evY E u f b):=fun i xs nx o k x nx' o' ps he=>by
 unfold evY at he
 simp only at he
 split at he<;>first|(simp only[reduceCtorEq] at he;done)|skip
 rename_i f' b' us cs hl
 cases hc:(Nat.beq f f'&&(Nat.beq b b'&&(Aqs (HX f b).n (HX f b).ps.toList&&Nat.beq (HX f b).ps.size xs.length))) with
 |false=>rw[hc] at he;cases he
 |true=>
 rw[hc] at he
 simp only[cond_true] at he
 simp only[Bool.and_eq_true] at hc
 obtain⟨c1,c2,c3,c4⟩:=hc
 obtain rfl:=Nat.eq_of_beq_eq_true c1
 obtain rfl:=Nat.eq_of_beq_eq_true c2
 replace c4:=Nat.eq_of_beq_eq_true c4
 generalize hA:MR E u 0 (HX f b).assign false ⟨(HX f b).n,nx,A3u (HX f b).ps.toList xs (Au9 us cs),o⟩=rA at he
 split at he<;>first|(simp only[reduceCtorEq] at he;done)|skip
 rename_i dg s1
 split at he<;>first|(simp only[reduceCtorEq] at he;done)|skip
 rename_i f1 b1 mg ky hl1
 generalize hB:MR E u 0 (HX f b).body false {s1 with o:=(i,some (.lp f1 b1 mg ky 1))::s1.o}=rB at he
 split at he<;>first|(simp only[reduceCtorEq] at he;done)|skip
 rename_i ez s2
 split at he<;>first|(simp only[reduceCtorEq] at he;done)|skip
 rename_i f2 b2 kx kz oe
 cases he
 obtain⟨lc,qe⟩:∃lc,lc=HX f b:=⟨_,rfl⟩
 rw[←qe] at hA hB c3 c4
 have wA:=Er ok (u:=u) 0 lc.assign false ⟨lc.n,nx,A3u lc.ps.toList xs (Au9 us cs),o⟩
 rw[hA] at wA
 have wB:=Er ok (u:=u) 0 lc.body false {s1 with o:=(i,some (.lp f1 b1 mg ky 1))::s1.o}
 rw[hB] at wB
 refine⟨fun hp F N R vs hh hi ha=>?_,?_⟩
 ·have dn:∀p∈dg,p:=fun p hm=>hp p (List.mem_append.2 (.inl hm))
  have d9:∀p∈ez,p:=fun p hm=>hp p (List.mem_append.2 (.inr hm))
  obtain⟨_,us',g1,r,g2,g3,g4,g5,g6,g7,g8,g9⟩:=hh.ob i _ hl
  rw[←qe] at g3 g4 g5 g6
  have hlen:vs.toArray.size=r.params.size:=by rw[g3,c4,List.size_toArray,ha.length]
  have hy:=run_yield (P:=Tryd.prog) (args:=vs.toArray) g2 hlen
  refine⟨r.fn,_,r.assign,r.body,hy,roundIn_of_wpIn trivial ?_⟩
  have iq:(r.params.zip vs.toArray).foldl (fun tmps (t,a)=>tmps.setIfInBounds t a) r.tmps=(lc.ps.toList.zip vs).foldl (fun tmps (t,a)=>tmps.setIfInBounds t a) r.tmps:=by
   rw[g3,←Array.foldl_toList,Array.toList_zip]
  rw[iq]
  obtain⟨k1,k2⟩:=A1h (t:=Au9 us cs) c3 (by rw[Array.length_toList];exact c4) ha g6 (A13 g1 g9)
  generalize (lc.ps.toList.zip vs).foldl (fun tmps (t,a)=>tmps.setIfInBounds t a) r.tmps=tm at k1 k2⊢
  have dt:∀{x:A} {y:Value},Hv F N nx R x y→HS F N nx R (Bo {tmps:=tm,defers:=[]}) x y:=fun h=>(Af h.isPlain).2 h
  have h0:Rel ⟨F,N,nx,o,R,Bo {tmps:=tm,defers:=[]},fun _=>True,[]⟩ F N ⟨lc.n,nx,A3u lc.ps.toList xs (Au9 us cs),o⟩ {tmps:=tm,defers:=[]} R:=
   ⟨rfl,k1,fun u x hu=>dt (k2 u x hu),hh,.refl,fun _ _=>rfl⟩
  have uu:=G1 ok (u:=u) 0 lc.assign false _ _ _ _ (Exit.then (fun a₁ w₁=>∃w₂,(Instr.beginRound (N.b i)).run Tryd.prog w₁=.ok () w₂∧lc.body.wpIn (Fence.wide.inRound (N.b i)) 0 Tryd.prog (roundPost Tryd.prog (N.b i) fun e R'=>∃y F' N',e=.returned y∧Bi F' N' s2.nx ((i,some (.lp f2 b2 kx kz 0))::s2.o) R'∧Step F N nx o R F' N' s2.nx ((i,some (.lp f2 b2 kx kz 0))::s2.o) R'∧Hv F' N' s2.nx R' (.v (.bool true)) y∧(2≤1→Below R.heap.size R R')) a₁ w₂) (fun _ _ _=>False)) (LN.of h0) (fun _ _=>trivial) (by rw[hA];exact dn) ?_ (some (N.b i)) (fun e=>by rw[dd] at e;cases e)
  ·rw[hP] at uu
   rw[g4,g5]
   exact uu
  ·rw[hA]
   intro e z a1 R1 ho hz
   obtain⟨rfl,rfl⟩:=A01 ho
   obtain⟨ms1,F1,N1,q1,_⟩:=hz
   obtain⟨r1,e1,e2,e3,e4⟩:=q1.lpTurn (k':=1) hl1
   have hb1:N1.b i=N.b i:=q1.st.b i hi
   rw[hb1] at e1 e4
   refine⟨_,run_beginRound e1 e2,?_⟩
   have h5:=e4 {r1 with state:=.busy} (by rw[show A3c 1=r1.pending from e3.symm];rfl)
   have uv:=G1 ok (u:=u) 0 lc.body false _ _ _ _ (roundPost Tryd.prog (N.b i) fun e R'=>∃y F' N',e=.returned y∧Bi F' N' s2.nx ((i,some (.lp f2 b2 kx kz 0))::s2.o) R'∧Step F N nx o R F' N' s2.nx ((i,some (.lp f2 b2 kx kz 0))::s2.o) R'∧Hv F' N' s2.nx R' (.v (.bool true)) y∧(2≤1→Below R.heap.size R R')) (LN.of h5) (fun _ _=>trivial) (by rw[hB];exact d9) ?_ (some (N.b i)) (fun e=>by rw[dd] at e;cases e)
   ·rw[hP] at uv
    exact uv
   ·rw[hB]
    intro e' z' a2 R2 ho' kr
    obtain⟨rfl,rfl⟩:=A01 ho'
    obtain⟨td,F2,N2,q2,_⟩:=kr
    obtain⟨r2,d1,d2,d3,d4⟩:=q2.lpTurn (k':=0) oe
    have hb2:N2.b i=N.b i:=q2.st.b i hi
    rw[hb2] at d1 d4
    refine⟨_,_,run_endRound none d1,?_⟩
    have h6:=d4 _ rfl
    exact⟨_,F2,N2,rfl,h6.hp,h6.st,.v _,fun hk=>by cases hk with|step hk=>cases hk⟩
 ·obtain⟨d1,lk⟩:=(wA.nrm _ rfl).seq
  obtain⟨d2,jn⟩:=(wB.nrm _ rfl).seq
  refine⟨(i,some (.lp f2 b2 kx kz 0))::(d2++((i,some (.lp f1 b1 mg ky 1))::d1)),?_⟩
  have rk:s1.o=d1++o:=lk
  have ik:s2.o=d2++((i,some (.lp f1 b1 mg ky 1))::s1.o):=jn
  rw[ik,rk]
  simp
def rfT (C:Tab) (f b:Nat) (g:Operand) (us:List Nat) (s:St):Option (Code×List Prop×BG):=match s.ev [] g,W9 s [] (us.map .tmp) with
 | some (.fn gf first caps),some cs=>bif Sa Tryd.prog gf&&Nat.beq s.n (HX f b).n then
   (match C gf (first++(.yl s.nx::caps)) (s.nx+1) ((s.nx,some (.lp f b us cs 0))::s.o) with
   |some (_,_,nx',o',ps)=>(match Aq s.nx o' with
    |some (.lp _ _ _ _ 0)=>some (.rangeFunc g (HX f b).ps (HX f b).assign (HX f b).body,ps,[(none,none,{s with nx:=nx',o:=(s.nx,none)::o'})])
    |_=>none)
   |none=>none) else none
 |_,_=>none
theorem A2x {F:Nat→Prop} {N:Nm} {nx:Nat} {R:World} {vs:List Value}:∀{us:List Nat} {a:Act} {cs:List A},HL F N nx R cs ((us.map Operand.tmp).map a.eval)→vs=(us.map Operand.tmp).map a.eval→∀(j u:Nat) (v:Value),us[j]?=some u→vs[j]?=some v→a.tmps.getD u undef=v:=fun {us a cs} _ e j u v hu hv=>by
 subst e
 rw[List.getElem?_map,List.getElem?_map,hu] at hv
 cases hv
 rfl
theorem Bh6 {C:Tab} (hC:COk Bb C) (f b:Nat) (g:Operand) (us:List Nat):∀s b0 ps outs,rfT C f b g us s=some (b0,ps,outs)→Bak (CP C0 L0) b0 s ps outs:=fun s b0 ps outs he=>by
 unfold rfT at he
 split at he<;>try (cases he;done)
 rename_i gf first caps cs hg ca
 cases cp:Sa Tryd.prog gf&&Nat.beq s.n (HX f b).n with
 |false=>rw[cp] at he;cases he
 |true=>
 rw[cp] at he
 rw[Bool.and_eq_true] at cp
 obtain⟨cp,hn⟩:=cp
 replace hn:=Nat.eq_of_beq_eq_true hn
 simp only[cond_true] at he
 split at he<;>try (cases he;done)
 rename_i k x nx' o' f8 hc
 split at he<;>try (cases he;done)
 rename_i f1 b1 mg ky hl1
 cases he
 obtain⟨ni,d,hd⟩:=hC _ _ _ _ _ _ _ _ _ hc
 intro t c s1 e
 cases e
 refine⟨⟨rfl,(s.nx,none)::(d++[(s.nx,some (.lp f b us cs 0))]),by show(s.nx,none)::o'=_;rw[hd];simp⟩,fun Z a R Q h hW hp hk r dd=>?_⟩
 obtain rfl:r=none:=dd rfl
 obtain⟨ms,F,N,h,hm⟩:=h
 have ry:=(Bs h (Ep _) hg).2.fn_inv
 obtain⟨v1,v2,ry,hf1,hf2⟩:=ry
 have hal:=Pg h (Ep _) ca
 refine wpIn_rangeFunc fun fn _=>?_
 -- the two blocks
 obtain⟨rec,ed⟩:∃rec:Loop,rec={state:=.ready,pending:=none,fn,tmps:=a.tmps,params:=(HX f b).ps,assign:=(HX f b).assign,body:=(HX f b).body,defers:=R.heap.size}:=⟨_,rfl⟩
 have ln:(Instr.enterLoop fn a.tmps (HX f b).ps (HX f b).assign (HX f b).body none).run Tryd.prog R=.ok (R.heap.size+1,[{target:=.collected R.heap.size,args:=#[]}]) ((R.alloc (.deferred (some []))).alloc (.loop rec)):=by
  rw[ed]
  exact run_enterLoop_outer _ _ _ _ _
 have pz:Below R.heap.size R (R.alloc (.deferred (some []))):=KT _
 have bc:(R.alloc (.deferred (some []))).heap.size=R.heap.size+1:=World.size_alloc ..
 have ui:(R.alloc (.deferred (some []))).heap[R.heap.size]?=some (.deferred (some [])):=World.alloc_heap_new _ _
 generalize hR1:R.alloc (.deferred (some []))=R1 at ln pz bc ui
 have h1:=h.grow pz
 have hx1:Ext F N s.nx R F N s.nx R1:=(Step.of_below (o:=s.o) pz).ext h.hp
 obtain⟨F2,N2,e1,e2,e3,_⟩:=Aet (k:=1) (ps:=[]) (x:=.yl s.nx) (v:=.func (.yield (R.heap.size+1)) #[] #[]) h1.hp (ob:=.lp f b us cs 0) (B:=.loop rec) (fun N' g hg=>hg) (fun st hB=>⟨_,(hal.step hx1).step st,rec,by rw[hB],by rw[ed],by rw[ed],by rw[ed],by rw[ed];exact h.size.trans hn,by rw[ed];rfl,by rw[ed];rfl,fun j u v hu hv=>by
   rw[ed]
   exact A2x hal rfl j u v hu hv⟩) (by
   have:=Hv.yl (F:=F) (N:=N.setB s.nx R1.heap.size) (nx:=s.nx+1) (R:=R1.alloc (.loop rec)) (i:=s.nx) (Nat.lt_succ_self _)
   rw[show(N.setB s.nx R1.heap.size).b s.nx=R.heap.size+1 from(Cq _ _ _).trans bc] at this
   exact this)
 generalize hR2:R1.alloc (.loop rec)=R2 at ln e1 e2 e3
 have lx:N2.b s.nx=R.heap.size+1:=by
  have h9:=e3.yl_inv.2
  injection h9 with h9 _ _
  injection h9 with h9
  exact h9.symm
 -- the call
 have df:Ext F N s.nx R F2 N2 (s.nx+1) R2:=hx1.trans (e2.ext h1.hp)
 have hstA:Step F N s.nx s.o R F2 N2 (s.nx+1) ((s.nx,some (.lp f b us cs 0))::s.o) R2:=(Step.of_below pz).trans e2
 have hcall:=(ni hp).1 (Adj cp) F2 N2 R2 (v1++(.func (.yield (R.heap.size+1)) #[] #[]::v2)) e1 ((hf1.step df).append (HL.cons e3 (hf2.step df)))
 refine⟨R.heap.size+1,[{target:=.collected R.heap.size,args:=#[]}],R2,{target:=.fn (.func gf) v2.toArray,args:=v1.toArray++#[.func (.yield (R.heap.size+1)) #[] #[]]},R2,gf,(v1++(.func (.yield (R.heap.size+1)) #[] #[]::v2)).toArray,R2,ln,?_,fun _ _=>trivial,?_,fun e=>(by cases e),?_⟩
 ·have hr:resolve a.eval (rangeCall g (R.heap.size+1)) 0=pure {target:=.fn (.func gf) v2.toArray,args:=v1.toArray++#[.func (.yield (R.heap.size+1)) #[] #[]]}:=by
   simp only[resolve,ry,Deferred.ofValue]
   simp[Act.eval]
  rw[hr]
  rfl
 ·simp only[invoke]
  have cb:v1.toArray++#[.func (.yield (R.heap.size+1)) #[] #[]]++v2.toArray=(v1++(.func (.yield (R.heap.size+1)) #[] #[]::v2)).toArray:=by
   apply Array.ext'
   simp
  rw[cb]
  exact Ahr cp _ R2
 ·refine callsIn_wide.2 (hcall.mono fun e R3 ⟨y,F3,N3,q1,q2,q3,q4,_⟩=>?_)
  subst q1
  obtain⟨_,kx,p1,r2,p2,p3,p4,p5,p6,p7,p8,_⟩:=q2.ob s.nx _ hl1
  have hb3:N3.b s.nx=R.heap.size+1:=(q3.b s.nx (Nat.lt_succ_self _)).trans lx
  rw[hb3] at p2
  refine⟨none,_,(run_endLoop p2 (by rw[p7];exact fun e=>by cases e)).trans (by rw[p8];rfl),?_⟩
  -- what is said behind it
  have ae:R.heap.size+1 <R3.heap.size:=(Array.getElem?_eq_some_iff.1 p2).1
  have f7:∀i ob,Aq i ((s.nx,none)::o')=some ob→i≠s.nx∧Aq i o'=some ob:=fun i ob hi=>by
   rw[AI] at hi
   by_cases e:i=s.nx
   ·rw[if_pos e] at hi;cases hi
   ·rw[if_neg e] at hi;exact⟨e,hi⟩
  have hst3:Step F N s.nx s.o R F3 N3 nx' ((s.nx,none)::o') R3:=(hstA.trans q3).trans (Step.weak fun i ob hi=>(f7 i ob hi).2)
  have y5:¬F3 (R.heap.size+1):=fun hf=>q2.ff s.nx _ _ hl1 hb3.symm hf
  have y6:¬EN N3 ((s.nx,none)::o') (R.heap.size+1):=fun⟨i,ob,hi,hg⟩=>by
   obtain⟨h8,h9⟩:=f7 i ob hi
   exact h8 (q2.sep i s.nx ob _ _ h9 hl1 hg hb3.symm)
  have hDlt:R.heap.size <R3.heap.size:=by omega
  have hsz2:R2.heap.size=R.heap.size+2:=by rw[←hR2,World.size_alloc,bc]
  have nD:∀{g:Nat},EN N2 ((s.nx,some (.lp f b us cs 0))::s.o) g→g≠R.heap.size:=fun {g} ⟨i,ob,hi,hg⟩ e=>by
   subst e
   rw[AI] at hi
   by_cases ei:i=s.nx
   ·rw[if_pos ei] at hi
    cases hi
    subst ei
    have:R.heap.size=N2.b s.nx:=hg
    omega
   ·rw[if_neg ei] at hi
    obtain⟨k1,k2⟩:=h.hp.ob i ob hi
    have:=k2.lt ((DE df k1).1 hg)
    omega
  have qu:¬F2 R.heap.size:=fun hf=>by
   rcases e2.fnew _ hf with h9|h9|h9
   ·have:=h.hp.flt _ h9;omega
   ·obtain⟨i,ob,hi,hg⟩:=h9
    have:=(h.hp.ob i ob hi).2.lt hg
    omega
   ·omega
  have xh:R2.heap[R.heap.size]?=some (.deferred (some [])):=by
   rw[←hR2]
   exact(Below.heap_alloc _ _ _ (by omega)).trans ui
  have qv:¬F3 R.heap.size:=fun hf=>by
   rcases q3.fnew _ hf with h9|h9|h9
   ·exact qu h9
   ·exact nD h9 rfl
   ·omega
  have qw:¬EN N3 ((s.nx,none)::o') R.heap.size:=fun hf=>by
   rcases q3.foot _ (EN.weak (fun i ob hi=>(f7 i ob hi).2) hf) with h9|h9
   ·exact nD h9 rfl
   ·omega
  have xi:R3.heap[R.heap.size]?=some (.deferred (some [])):=(q3.keep _ (by omega) fun hf=>nD hf rfl).trans xh
  refine hk _ _ ⟨{target:=.collected R.heap.size,args:=#[]}::ms,F3,N3,?_,?_⟩
  ·have hrel:Rel (A11 Z ({target:=.collected R.heap.size,args:=#[]}::ms)) F3 N3 {s with nx:=nx',o:=(s.nx,none)::o'} {a with defers:={target:=.collected R.heap.size,args:=#[]}::a.defers} R3:=
    ⟨by show _::a.defers=_;rw[h.defers];rfl,h.size,fun u x hu=>(h.slots u x hu).step (hst3.ext h.hp),q2.weak fun i ob hi=>(f7 i ob hi).2,h.st.trans hst3,h.tm⟩
   exact hrel.shut (Nat.le_trans h.st.size (Nat.le_succ _)) y5 y6
  ·have ao:∀g,g≠R.heap.size+1→∀r,(R3.putObj (R.heap.size+1) r).heap[g]?=R3.heap[g]?:=fun g hg r=>World.putObj_heap_other hg
   have y2:=hm.step hst3
   refine⟨List.nodup_cons.2 ⟨fun ju=>?_,hm.1⟩,fun d hd=>?_⟩
   ·obtain⟨D,e,_,_,_,h9⟩:=hm.2 _ ju
    injection e with e
    injection e with e
    have:=(Array.getElem?_eq_some_iff.1 h9).1
    omega
   ·rcases List.mem_cons.1 hd with rfl|hd
    ·exact⟨R.heap.size,rfl,h.st.size,qv,qw,by rw[ao _ (by omega)];exact xi⟩
    ·obtain⟨D,e,k1,k2,k3,k4⟩:=y2.2 d hd
     obtain⟨D',e',_,_,_,k9⟩:=hm.2 d hd
     rw[e] at e'
     injection e' with e'
     injection e' with e'
     have:=(Array.getElem?_eq_some_iff.1 k9).1
     exact⟨D,e,k1,k2,k3,by rw[ao _ (by omega)];exact k4⟩
def Al6:=Gi (JV (AU Cdh.2 A9) 20 23) Cdh
abbrev JX:Type:=Int×Int×Ak×(List Ae)×Bool×Int×Int×(List Int)×Int×Int×Bool×(List AW)
def A0n:JX→St
  |(a0,a1,a2,a3,a4,a5,a6,a7,a8,a9,a10,a11)=>⟨69,8,[(0,.own 1 0),(1,.own 2 0),(34,.v (.int .i64 a0)),(35,.v (.int .i64 a1))],[(1,some (.box 68 [.sl .u8 a2,.sl .group a3,.v (.bool a4)])),(2,some (.box 34 [.v (.int .i64 a5),.v (.int .i64 a6),.v (.int .i64 0),.v (.int .i64 0),.v (.int .i64 0),.v (.int .i64 0),.v (.int .i64 0),.v (.int .i64 0),.v (.slice none 0 0),.v (.int .i64 0),.v (.int .i64 0),.sl .i64 a7,.v (.slice none 0 0),.sq 7,.v (.int .i64 a8),.v (.int .i64 a9),.v (.bool a10)])),(7,some (.arr 60 2 (.ty .row a11)))]⟩
def Afz:St→Option JX
 |⟨69,8,[(0,.own 1 0),(1,.own 2 0),(34,.v (.int .i64 z0)),(35,.v (.int .i64 z1))],[(1,some (.box 68 [.sl .u8 z2,.sl .group z3,.v (.bool z4)])),(2,some (.box 34 [.v (.int .i64 z5),.v (.int .i64 z6),.v (.int .i64 (w0)),.v (.int .i64 (w1)),.v (.int .i64 (w2)),.v (.int .i64 (w3)),.v (.int .i64 (w4)),.v (.int .i64 (w5)),.v (.slice none 0 0),.v (.int .i64 (w6)),.v (.int .i64 (w7)),.sl .i64 z7,.v (.slice none 0 0),.sq 7,.v (.int .i64 z8),.v (.int .i64 z9),.v (.bool mh)])),(7,some (.arr 60 2 (.ty .row t7)))]⟩=>if w0=0∧w1=0∧w2=0∧w3=0∧w4=0∧w5=0∧w6=0∧w7=0 then some (z0,z1,z2,z3,z4,z5,z6,z7,z8,z9,mh,t7) else none
 |_=>none
theorem Aw2:∀s x,Afz s=some x→s=A0n x:=fun s x h=>by
 unfold Afz at h
 split at h
 ·split at h
  ·rename_i hw
   obtain⟨rfl,rfl,rfl,rfl,rfl,rfl,rfl,rfl⟩:=hw
   cases h;rfl
  ·cases h
 ·cases h
def Bca:E2:=⟨7,8,[0,1,34,35],[],[(1,1),(2,2),(10,7)],[1,2,10],[],[1,2,7]⟩
def Bb9:Fz:=⟨[.frz 4,.nilB 2 13 60 .row],[(1,1),(2,2),(6,7)],[0,1,34,35],[1,2,6]⟩
def Afy (a0 a1:Int) (_a2:Ak) (_a3:List Ae) (a4:Bool) (_a5 _a6:Int) (_a7:List Int) (_a8 _a9:Int) (_a10:Bool) (_a11:List AW):Bool:=!!decide (a1 <a0)&&a4
def Y8 (_a0 _a1:Int) (a2:Ak) (a3:List Ae) (_a4:Bool) (_a5 _a6:Int) (_a7:List Int) (_a8 _a9:Int) (_a10:Bool) (_a11:List AW):Ak:=List.take ((a2.length:Int).toNat - (R7 a2 a3).toNat) (List.drop (R7 a2 a3).toNat a2)
def VX (_a0 _a1:Int) (a2:Ak) (a3:List Ae) (_a4:Bool) (_a5 _a6:Int) (_a7:List Int) (_a8 _a9:Int) (_a10:Bool) (a11:List AW):List AW:=a11++[AW.mk (T1 a2 a3) (R8 a2 a3)]
def Aw0 (a0 a1:Int) (a2:Ak) (a3:List Ae) (a4:Bool) (a5 a6:Int) (a7:List Int) (a8 a9:Int) (a10:Bool) (a11:List AW):Bool:=!!decide (a1 <a0)&&!(Afy a0 a1 a2 a3 a4 a5 a6 a7 a8 a9 a10 a11)
def Afx (a0 a1:Int) (a2:Ak) (a3:List Ae) (a4:Bool) (a5 a6:Int) (a7:List Int) (a8 a9:Int) (a10:Bool) (a11:List AW):Bool:=(Afy a0 a1 a2 a3 a4 a5 a6 a7 a8 a9 a10 a11)
def Hw:JX→JX
  |(a0,a1,a2,a3,a4,a5,a6,a7,a8,a9,a10,a11)=>(a0,IntKind.i64.wrap (a1+1),Y8 a0 a1 a2 a3 a4 a5 a6 a7 a8 a9 a10 a11,a3,a4||Qr a2 a3 !=0,a5,a6,a7,a8,a9,a10,VX a0 a1 a2 a3 a4 a5 a6 a7 a8 a9 a10 a11)
def FV:JX→DB
  |(a0,a1,a2,a3,a4,a5,a6,a7,a8,a9,a10,a11)=>some (Aw0 a0 a1 a2 a3 a4 a5 a6 a7 a8 a9 a10 a11)
def Ak5:JX→List Prop
  |(a0,a1,a2,a3,a4,_,_,_,_,_,_,a11)=>[((!!decide (a1 <a0))=true→(!a4)=true→Ai a2.length),((!!decide (a1 <a0))=true→(!a4)=true→0≤R7 a2 a3∧R7 a2 a3≤(a2.length:Int)∧(a2.length:Int)≤(a2.length:Int)),((!!decide (a1 <a0))=true→(!a4)=true→Ai (a11.length+1))]
abbrev Xy:JX→List Prop:=Ak5
def Aw1:JX→BG
  |(a0,a1,a2,a3,a4,a5,a6,a7,a8,a9,a10,a11)=>[(some 0,some (!decide (a1 <a0)),⟨69,8,[],[(1,some (.box 68 [.sl .u8 a2,.sl .group a3,.v (.bool a4)])),(2,some (.box 34 [.v (.int .i64 a5),.v (.int .i64 a6),.v (.int .i64 0),.v (.int .i64 0),.v (.int .i64 0),.v (.int .i64 0),.v (.int .i64 0),.v (.int .i64 0),.v (.slice none 0 0),.v (.int .i64 0),.v (.int .i64 0),.sl .i64 a7,.v (.slice none 0 0),.sq 7,.v (.int .i64 a8),.v (.int .i64 a9),.v (.bool a10)])),(7,some (.arr 60 2 (.ty .row a11)))]⟩),(none,some (Afx a0 a1 a2 a3 a4 a5 a6 a7 a8 a9 a10 a11),⟨69,8,[],[(1,some (.box 68 [.sl .u8 a2,.sl .group a3,.v (.bool a4)])),(2,some (.box 34 [.v (.int .i64 a5),.v (.int .i64 a6),.v (.int .i64 0),.v (.int .i64 0),.v (.int .i64 0),.v (.int .i64 0),.v (.int .i64 0),.v (.int .i64 0),.v (.slice none 0 0),.v (.int .i64 0),.v (.int .i64 0),.sl .i64 a7,.v (.slice none 0 0),.sq 7,.v (.int .i64 a8),.v (.int .i64 a9),.v (.bool a10)])),(7,some (.arr 60 2 (.ty .row a11)))]⟩)]
def Qz (x:JX):Nat:=(x.1 - x.2.1).toNat
def FM (x:JX):JX:=Bj Hw FV (Qz x) x
set_option maxHeartbeats 8000000 in
def A3b:=Jg (CP Al6.1 L0) (AQ Bb 24 0) Bca Bb9 Afz Qz Hw FV Xy Aw1
def A0m:=WA 0 (g:=A3b) (CR (T:=A0n) (psA:=Ak5) Al6.2 A9 (u:=9) (by kernel_rfl) (by decide) (fun⟨a0,a1,a2,a3,a4,a5,a6,a7,a8,a9,a10,a11⟩=>by kernel_rfl) (fun _ h=>h) Aw2 (fun _=>Bm (n:=69) rfl) fun _ _=>rfl) ⟨L0,A9⟩
def Afw (a0:Ak) (a1:List Ae) (a2:Bool) (a3 a4:Int) (a5:List Int):Ak:=(FM ((Av 256 (Av 1 (List.take ((a0.length:Int).toNat - (Ah a0).2.1.toNat) (List.drop (Ah a0).2.1.toNat a0)) (a2||(Ah a0).2.2 !=0)).2.1 (Av 1 (List.take ((a0.length:Int).toNat - (Ah a0).2.1.toNat) (List.drop (Ah a0).2.1.toNat a0)) (a2||(Ah a0).2.2 !=0)).2.2).1,0,(Av 256 (Av 1 (List.take ((a0.length:Int).toNat - (Ah a0).2.1.toNat) (List.drop (Ah a0).2.1.toNat a0)) (a2||(Ah a0).2.2 !=0)).2.1 (Av 1 (List.take ((a0.length:Int).toNat - (Ah a0).2.1.toNat) (List.drop (Ah a0).2.1.toNat a0)) (a2||(Ah a0).2.2 !=0)).2.2).2.1,a1,(Av 256 (Av 1 (List.take ((a0.length:Int).toNat - (Ah a0).2.1.toNat) (List.drop (Ah a0).2.1.toNat a0)) (a2||(Ah a0).2.2 !=0)).2.1 (Av 1 (List.take ((a0.length:Int).toNat - (Ah a0).2.1.toNat) (List.drop (Ah a0).2.1.toNat a0)) (a2||(Ah a0).2.2 !=0)).2.2).2.2,a3,a4,a5,(Ah a0).1.1,(Ah a0).1.2,(Av 1 (List.take ((a0.length:Int).toNat - (Ah a0).2.1.toNat) (List.drop (Ah a0).2.1.toNat a0)) (a2||(Ah a0).2.2 !=0)).1==1,[])).2.2.1
def Afv (a0:Ak) (a1:List Ae) (a2:Bool) (a3 a4:Int) (a5:List Int):List Ae:=(FM ((Av 256 (Av 1 (List.take ((a0.length:Int).toNat - (Ah a0).2.1.toNat) (List.drop (Ah a0).2.1.toNat a0)) (a2||(Ah a0).2.2 !=0)).2.1 (Av 1 (List.take ((a0.length:Int).toNat - (Ah a0).2.1.toNat) (List.drop (Ah a0).2.1.toNat a0)) (a2||(Ah a0).2.2 !=0)).2.2).1,0,(Av 256 (Av 1 (List.take ((a0.length:Int).toNat - (Ah a0).2.1.toNat) (List.drop (Ah a0).2.1.toNat a0)) (a2||(Ah a0).2.2 !=0)).2.1 (Av 1 (List.take ((a0.length:Int).toNat - (Ah a0).2.1.toNat) (List.drop (Ah a0).2.1.toNat a0)) (a2||(Ah a0).2.2 !=0)).2.2).2.1,a1,(Av 256 (Av 1 (List.take ((a0.length:Int).toNat - (Ah a0).2.1.toNat) (List.drop (Ah a0).2.1.toNat a0)) (a2||(Ah a0).2.2 !=0)).2.1 (Av 1 (List.take ((a0.length:Int).toNat - (Ah a0).2.1.toNat) (List.drop (Ah a0).2.1.toNat a0)) (a2||(Ah a0).2.2 !=0)).2.2).2.2,a3,a4,a5,(Ah a0).1.1,(Ah a0).1.2,(Av 1 (List.take ((a0.length:Int).toNat - (Ah a0).2.1.toNat) (List.drop (Ah a0).2.1.toNat a0)) (a2||(Ah a0).2.2 !=0)).1==1,[])).2.2.2.1
def Ak4 (a0:Ak) (a1:List Ae) (a2:Bool) (a3 a4:Int) (a5:List Int):Bool:=(FM ((Av 256 (Av 1 (List.take ((a0.length:Int).toNat - (Ah a0).2.1.toNat) (List.drop (Ah a0).2.1.toNat a0)) (a2||(Ah a0).2.2 !=0)).2.1 (Av 1 (List.take ((a0.length:Int).toNat - (Ah a0).2.1.toNat) (List.drop (Ah a0).2.1.toNat a0)) (a2||(Ah a0).2.2 !=0)).2.2).1,0,(Av 256 (Av 1 (List.take ((a0.length:Int).toNat - (Ah a0).2.1.toNat) (List.drop (Ah a0).2.1.toNat a0)) (a2||(Ah a0).2.2 !=0)).2.1 (Av 1 (List.take ((a0.length:Int).toNat - (Ah a0).2.1.toNat) (List.drop (Ah a0).2.1.toNat a0)) (a2||(Ah a0).2.2 !=0)).2.2).2.1,a1,(Av 256 (Av 1 (List.take ((a0.length:Int).toNat - (Ah a0).2.1.toNat) (List.drop (Ah a0).2.1.toNat a0)) (a2||(Ah a0).2.2 !=0)).2.1 (Av 1 (List.take ((a0.length:Int).toNat - (Ah a0).2.1.toNat) (List.drop (Ah a0).2.1.toNat a0)) (a2||(Ah a0).2.2 !=0)).2.2).2.2,a3,a4,a5,(Ah a0).1.1,(Ah a0).1.2,(Av 1 (List.take ((a0.length:Int).toNat - (Ah a0).2.1.toNat) (List.drop (Ah a0).2.1.toNat a0)) (a2||(Ah a0).2.2 !=0)).1==1,[])).2.2.2.2.1
def Asy (a0:Ak) (a1:List Ae) (a2:Bool) (a3 a4:Int) (a5:List Int):Int:=(FM ((Av 256 (Av 1 (List.take ((a0.length:Int).toNat - (Ah a0).2.1.toNat) (List.drop (Ah a0).2.1.toNat a0)) (a2||(Ah a0).2.2 !=0)).2.1 (Av 1 (List.take ((a0.length:Int).toNat - (Ah a0).2.1.toNat) (List.drop (Ah a0).2.1.toNat a0)) (a2||(Ah a0).2.2 !=0)).2.2).1,0,(Av 256 (Av 1 (List.take ((a0.length:Int).toNat - (Ah a0).2.1.toNat) (List.drop (Ah a0).2.1.toNat a0)) (a2||(Ah a0).2.2 !=0)).2.1 (Av 1 (List.take ((a0.length:Int).toNat - (Ah a0).2.1.toNat) (List.drop (Ah a0).2.1.toNat a0)) (a2||(Ah a0).2.2 !=0)).2.2).2.1,a1,(Av 256 (Av 1 (List.take ((a0.length:Int).toNat - (Ah a0).2.1.toNat) (List.drop (Ah a0).2.1.toNat a0)) (a2||(Ah a0).2.2 !=0)).2.1 (Av 1 (List.take ((a0.length:Int).toNat - (Ah a0).2.1.toNat) (List.drop (Ah a0).2.1.toNat a0)) (a2||(Ah a0).2.2 !=0)).2.2).2.2,a3,a4,a5,(Ah a0).1.1,(Ah a0).1.2,(Av 1 (List.take ((a0.length:Int).toNat - (Ah a0).2.1.toNat) (List.drop (Ah a0).2.1.toNat a0)) (a2||(Ah a0).2.2 !=0)).1==1,[])).2.2.2.2.2.1
def Asx (a0:Ak) (a1:List Ae) (a2:Bool) (a3 a4:Int) (a5:List Int):Int:=(FM ((Av 256 (Av 1 (List.take ((a0.length:Int).toNat - (Ah a0).2.1.toNat) (List.drop (Ah a0).2.1.toNat a0)) (a2||(Ah a0).2.2 !=0)).2.1 (Av 1 (List.take ((a0.length:Int).toNat - (Ah a0).2.1.toNat) (List.drop (Ah a0).2.1.toNat a0)) (a2||(Ah a0).2.2 !=0)).2.2).1,0,(Av 256 (Av 1 (List.take ((a0.length:Int).toNat - (Ah a0).2.1.toNat) (List.drop (Ah a0).2.1.toNat a0)) (a2||(Ah a0).2.2 !=0)).2.1 (Av 1 (List.take ((a0.length:Int).toNat - (Ah a0).2.1.toNat) (List.drop (Ah a0).2.1.toNat a0)) (a2||(Ah a0).2.2 !=0)).2.2).2.1,a1,(Av 256 (Av 1 (List.take ((a0.length:Int).toNat - (Ah a0).2.1.toNat) (List.drop (Ah a0).2.1.toNat a0)) (a2||(Ah a0).2.2 !=0)).2.1 (Av 1 (List.take ((a0.length:Int).toNat - (Ah a0).2.1.toNat) (List.drop (Ah a0).2.1.toNat a0)) (a2||(Ah a0).2.2 !=0)).2.2).2.2,a3,a4,a5,(Ah a0).1.1,(Ah a0).1.2,(Av 1 (List.take ((a0.length:Int).toNat - (Ah a0).2.1.toNat) (List.drop (Ah a0).2.1.toNat a0)) (a2||(Ah a0).2.2 !=0)).1==1,[])).2.2.2.2.2.2.1
def Asw (a0:Ak) (a1:List Ae) (a2:Bool) (a3 a4:Int) (a5:List Int):List Int:=(FM ((Av 256 (Av 1 (List.take ((a0.length:Int).toNat - (Ah a0).2.1.toNat) (List.drop (Ah a0).2.1.toNat a0)) (a2||(Ah a0).2.2 !=0)).2.1 (Av 1 (List.take ((a0.length:Int).toNat - (Ah a0).2.1.toNat) (List.drop (Ah a0).2.1.toNat a0)) (a2||(Ah a0).2.2 !=0)).2.2).1,0,(Av 256 (Av 1 (List.take ((a0.length:Int).toNat - (Ah a0).2.1.toNat) (List.drop (Ah a0).2.1.toNat a0)) (a2||(Ah a0).2.2 !=0)).2.1 (Av 1 (List.take ((a0.length:Int).toNat - (Ah a0).2.1.toNat) (List.drop (Ah a0).2.1.toNat a0)) (a2||(Ah a0).2.2 !=0)).2.2).2.1,a1,(Av 256 (Av 1 (List.take ((a0.length:Int).toNat - (Ah a0).2.1.toNat) (List.drop (Ah a0).2.1.toNat a0)) (a2||(Ah a0).2.2 !=0)).2.1 (Av 1 (List.take ((a0.length:Int).toNat - (Ah a0).2.1.toNat) (List.drop (Ah a0).2.1.toNat a0)) (a2||(Ah a0).2.2 !=0)).2.2).2.2,a3,a4,a5,(Ah a0).1.1,(Ah a0).1.2,(Av 1 (List.take ((a0.length:Int).toNat - (Ah a0).2.1.toNat) (List.drop (Ah a0).2.1.toNat a0)) (a2||(Ah a0).2.2 !=0)).1==1,[])).2.2.2.2.2.2.2.1
def Asv (a0:Ak) (a1:List Ae) (a2:Bool) (a3 a4:Int) (a5:List Int):Int:=(FM ((Av 256 (Av 1 (List.take ((a0.length:Int).toNat - (Ah a0).2.1.toNat) (List.drop (Ah a0).2.1.toNat a0)) (a2||(Ah a0).2.2 !=0)).2.1 (Av 1 (List.take ((a0.length:Int).toNat - (Ah a0).2.1.toNat) (List.drop (Ah a0).2.1.toNat a0)) (a2||(Ah a0).2.2 !=0)).2.2).1,0,(Av 256 (Av 1 (List.take ((a0.length:Int).toNat - (Ah a0).2.1.toNat) (List.drop (Ah a0).2.1.toNat a0)) (a2||(Ah a0).2.2 !=0)).2.1 (Av 1 (List.take ((a0.length:Int).toNat - (Ah a0).2.1.toNat) (List.drop (Ah a0).2.1.toNat a0)) (a2||(Ah a0).2.2 !=0)).2.2).2.1,a1,(Av 256 (Av 1 (List.take ((a0.length:Int).toNat - (Ah a0).2.1.toNat) (List.drop (Ah a0).2.1.toNat a0)) (a2||(Ah a0).2.2 !=0)).2.1 (Av 1 (List.take ((a0.length:Int).toNat - (Ah a0).2.1.toNat) (List.drop (Ah a0).2.1.toNat a0)) (a2||(Ah a0).2.2 !=0)).2.2).2.2,a3,a4,a5,(Ah a0).1.1,(Ah a0).1.2,(Av 1 (List.take ((a0.length:Int).toNat - (Ah a0).2.1.toNat) (List.drop (Ah a0).2.1.toNat a0)) (a2||(Ah a0).2.2 !=0)).1==1,[])).2.2.2.2.2.2.2.2.1
def Asu (a0:Ak) (a1:List Ae) (a2:Bool) (a3 a4:Int) (a5:List Int):Int:=(FM ((Av 256 (Av 1 (List.take ((a0.length:Int).toNat - (Ah a0).2.1.toNat) (List.drop (Ah a0).2.1.toNat a0)) (a2||(Ah a0).2.2 !=0)).2.1 (Av 1 (List.take ((a0.length:Int).toNat - (Ah a0).2.1.toNat) (List.drop (Ah a0).2.1.toNat a0)) (a2||(Ah a0).2.2 !=0)).2.2).1,0,(Av 256 (Av 1 (List.take ((a0.length:Int).toNat - (Ah a0).2.1.toNat) (List.drop (Ah a0).2.1.toNat a0)) (a2||(Ah a0).2.2 !=0)).2.1 (Av 1 (List.take ((a0.length:Int).toNat - (Ah a0).2.1.toNat) (List.drop (Ah a0).2.1.toNat a0)) (a2||(Ah a0).2.2 !=0)).2.2).2.1,a1,(Av 256 (Av 1 (List.take ((a0.length:Int).toNat - (Ah a0).2.1.toNat) (List.drop (Ah a0).2.1.toNat a0)) (a2||(Ah a0).2.2 !=0)).2.1 (Av 1 (List.take ((a0.length:Int).toNat - (Ah a0).2.1.toNat) (List.drop (Ah a0).2.1.toNat a0)) (a2||(Ah a0).2.2 !=0)).2.2).2.2,a3,a4,a5,(Ah a0).1.1,(Ah a0).1.2,(Av 1 (List.take ((a0.length:Int).toNat - (Ah a0).2.1.toNat) (List.drop (Ah a0).2.1.toNat a0)) (a2||(Ah a0).2.2 !=0)).1==1,[])).2.2.2.2.2.2.2.2.2.1
def Ast (a0:Ak) (a1:List Ae) (a2:Bool) (a3 a4:Int) (a5:List Int):Bool:=(FM ((Av 256 (Av 1 (List.take ((a0.length:Int).toNat - (Ah a0).2.1.toNat) (List.drop (Ah a0).2.1.toNat a0)) (a2||(Ah a0).2.2 !=0)).2.1 (Av 1 (List.take ((a0.length:Int).toNat - (Ah a0).2.1.toNat) (List.drop (Ah a0).2.1.toNat a0)) (a2||(Ah a0).2.2 !=0)).2.2).1,0,(Av 256 (Av 1 (List.take ((a0.length:Int).toNat - (Ah a0).2.1.toNat) (List.drop (Ah a0).2.1.toNat a0)) (a2||(Ah a0).2.2 !=0)).2.1 (Av 1 (List.take ((a0.length:Int).toNat - (Ah a0).2.1.toNat) (List.drop (Ah a0).2.1.toNat a0)) (a2||(Ah a0).2.2 !=0)).2.2).2.1,a1,(Av 256 (Av 1 (List.take ((a0.length:Int).toNat - (Ah a0).2.1.toNat) (List.drop (Ah a0).2.1.toNat a0)) (a2||(Ah a0).2.2 !=0)).2.1 (Av 1 (List.take ((a0.length:Int).toNat - (Ah a0).2.1.toNat) (List.drop (Ah a0).2.1.toNat a0)) (a2||(Ah a0).2.2 !=0)).2.2).2.2,a3,a4,a5,(Ah a0).1.1,(Ah a0).1.2,(Av 1 (List.take ((a0.length:Int).toNat - (Ah a0).2.1.toNat) (List.drop (Ah a0).2.1.toNat a0)) (a2||(Ah a0).2.2 !=0)).1==1,[])).2.2.2.2.2.2.2.2.2.2.1
def Ass (a0:Ak) (a1:List Ae) (a2:Bool) (a3 a4:Int) (a5:List Int):List AW:=(FM ((Av 256 (Av 1 (List.take ((a0.length:Int).toNat - (Ah a0).2.1.toNat) (List.drop (Ah a0).2.1.toNat a0)) (a2||(Ah a0).2.2 !=0)).2.1 (Av 1 (List.take ((a0.length:Int).toNat - (Ah a0).2.1.toNat) (List.drop (Ah a0).2.1.toNat a0)) (a2||(Ah a0).2.2 !=0)).2.2).1,0,(Av 256 (Av 1 (List.take ((a0.length:Int).toNat - (Ah a0).2.1.toNat) (List.drop (Ah a0).2.1.toNat a0)) (a2||(Ah a0).2.2 !=0)).2.1 (Av 1 (List.take ((a0.length:Int).toNat - (Ah a0).2.1.toNat) (List.drop (Ah a0).2.1.toNat a0)) (a2||(Ah a0).2.2 !=0)).2.2).2.1,a1,(Av 256 (Av 1 (List.take ((a0.length:Int).toNat - (Ah a0).2.1.toNat) (List.drop (Ah a0).2.1.toNat a0)) (a2||(Ah a0).2.2 !=0)).2.1 (Av 1 (List.take ((a0.length:Int).toNat - (Ah a0).2.1.toNat) (List.drop (Ah a0).2.1.toNat a0)) (a2||(Ah a0).2.2 !=0)).2.2).2.2,a3,a4,a5,(Ah a0).1.1,(Ah a0).1.2,(Av 1 (List.take ((a0.length:Int).toNat - (Ah a0).2.1.toNat) (List.drop (Ah a0).2.1.toNat a0)) (a2||(Ah a0).2.2 !=0)).1==1,[])).2.2.2.2.2.2.2.2.2.2.2
def NR (a0:Ak) (a1:List Ae) (a2:Bool) (a3 a4:Int) (a5:List Int):Bool:=Afx (FM ((Av 256 (Av 1 (List.take ((a0.length:Int).toNat - (Ah a0).2.1.toNat) (List.drop (Ah a0).2.1.toNat a0)) (a2||(Ah a0).2.2 !=0)).2.1 (Av 1 (List.take ((a0.length:Int).toNat - (Ah a0).2.1.toNat) (List.drop (Ah a0).2.1.toNat a0)) (a2||(Ah a0).2.2 !=0)).2.2).1,0,(Av 256 (Av 1 (List.take ((a0.length:Int).toNat - (Ah a0).2.1.toNat) (List.drop (Ah a0).2.1.toNat a0)) (a2||(Ah a0).2.2 !=0)).2.1 (Av 1 (List.take ((a0.length:Int).toNat - (Ah a0).2.1.toNat) (List.drop (Ah a0).2.1.toNat a0)) (a2||(Ah a0).2.2 !=0)).2.2).2.1,a1,(Av 256 (Av 1 (List.take ((a0.length:Int).toNat - (Ah a0).2.1.toNat) (List.drop (Ah a0).2.1.toNat a0)) (a2||(Ah a0).2.2 !=0)).2.1 (Av 1 (List.take ((a0.length:Int).toNat - (Ah a0).2.1.toNat) (List.drop (Ah a0).2.1.toNat a0)) (a2||(Ah a0).2.2 !=0)).2.2).2.2,a3,a4,a5,(Ah a0).1.1,(Ah a0).1.2,(Av 1 (List.take ((a0.length:Int).toNat - (Ah a0).2.1.toNat) (List.drop (Ah a0).2.1.toNat a0)) (a2||(Ah a0).2.2 !=0)).1==1,[])).1 (FM ((Av 256 (Av 1 (List.take ((a0.length:Int).toNat - (Ah a0).2.1.toNat) (List.drop (Ah a0).2.1.toNat a0)) (a2||(Ah a0).2.2 !=0)).2.1 (Av 1 (List.take ((a0.length:Int).toNat - (Ah a0).2.1.toNat) (List.drop (Ah a0).2.1.toNat a0)) (a2||(Ah a0).2.2 !=0)).2.2).1,0,(Av 256 (Av 1 (List.take ((a0.length:Int).toNat - (Ah a0).2.1.toNat) (List.drop (Ah a0).2.1.toNat a0)) (a2||(Ah a0).2.2 !=0)).2.1 (Av 1 (List.take ((a0.length:Int).toNat - (Ah a0).2.1.toNat) (List.drop (Ah a0).2.1.toNat a0)) (a2||(Ah a0).2.2 !=0)).2.2).2.1,a1,(Av 256 (Av 1 (List.take ((a0.length:Int).toNat - (Ah a0).2.1.toNat) (List.drop (Ah a0).2.1.toNat a0)) (a2||(Ah a0).2.2 !=0)).2.1 (Av 1 (List.take ((a0.length:Int).toNat - (Ah a0).2.1.toNat) (List.drop (Ah a0).2.1.toNat a0)) (a2||(Ah a0).2.2 !=0)).2.2).2.2,a3,a4,a5,(Ah a0).1.1,(Ah a0).1.2,(Av 1 (List.take ((a0.length:Int).toNat - (Ah a0).2.1.toNat) (List.drop (Ah a0).2.1.toNat a0)) (a2||(Ah a0).2.2 !=0)).1==1,[])).2.1 (Afw a0 a1 a2 a3 a4 a5) (Afv a0 a1 a2 a3 a4 a5) (Ak4 a0 a1 a2 a3 a4 a5) (Asy a0 a1 a2 a3 a4 a5) (Asx a0 a1 a2 a3 a4 a5) (Asw a0 a1 a2 a3 a4 a5) (Asv a0 a1 a2 a3 a4 a5) (Asu a0 a1 a2 a3 a4 a5) (Ast a0 a1 a2 a3 a4 a5) (Ass a0 a1 a2 a3 a4 a5)
def KY (a0:Ak) (a1:List Ae) (a2:Bool) (a3 a4:Int) (a5:List Int):Int:=bif(NR a0 a1 a2 a3 a4 a5) then 0 else 0
def Bhm (a0:Ak) (a1:List Ae) (a2:Bool) (a3 a4:Int) (a5:List Int):List AW:=bif(NR a0 a1 a2 a3 a4 a5) then(Ass a0 a1 a2 a3 a4 a5) else(Ass a0 a1 a2 a3 a4 a5)
def Bhn (a0:Ak) (a1:List Ae) (a2:Bool) (a3 a4:Int) (a5:List Int):Ak:=bif(NR a0 a1 a2 a3 a4 a5) then(Afw a0 a1 a2 a3 a4 a5) else(Afw a0 a1 a2 a3 a4 a5)
def Bho (a0:Ak) (a1:List Ae) (a2:Bool) (a3 a4:Int) (a5:List Int):List Ae:=bif(NR a0 a1 a2 a3 a4 a5) then(Afv a0 a1 a2 a3 a4 a5) else(Afv a0 a1 a2 a3 a4 a5)
def Bhp (a0:Ak) (a1:List Ae) (a2:Bool) (a3 a4:Int) (a5:List Int):Bool:=bif(NR a0 a1 a2 a3 a4 a5) then(Ak4 a0 a1 a2 a3 a4 a5) else(Ak4 a0 a1 a2 a3 a4 a5)
def Bhq (a0:Ak) (a1:List Ae) (a2:Bool) (a3 a4:Int) (a5:List Int):Int:=bif(NR a0 a1 a2 a3 a4 a5) then(Asy a0 a1 a2 a3 a4 a5) else(Asy a0 a1 a2 a3 a4 a5)
def Bhr (a0:Ak) (a1:List Ae) (a2:Bool) (a3 a4:Int) (a5:List Int):Int:=bif(NR a0 a1 a2 a3 a4 a5) then(Asx a0 a1 a2 a3 a4 a5) else(Asx a0 a1 a2 a3 a4 a5)
def A7p (a0:Ak) (a1:List Ae) (a2:Bool) (a3 a4:Int) (a5:List Int):List Int:=bif(NR a0 a1 a2 a3 a4 a5) then(Asw a0 a1 a2 a3 a4 a5) else(Asw a0 a1 a2 a3 a4 a5)
def A7q (a0:Ak) (a1:List Ae) (a2:Bool) (a3 a4:Int) (a5:List Int):Int:=bif(NR a0 a1 a2 a3 a4 a5) then(Asv a0 a1 a2 a3 a4 a5) else(Asv a0 a1 a2 a3 a4 a5)
def A7r (a0:Ak) (a1:List Ae) (a2:Bool) (a3 a4:Int) (a5:List Int):Int:=bif(NR a0 a1 a2 a3 a4 a5) then(Asu a0 a1 a2 a3 a4 a5) else(Asu a0 a1 a2 a3 a4 a5)
def A7s (a0:Ak) (a1:List Ae) (a2:Bool) (a3 a4:Int) (a5:List Int):Bool:=bif(NR a0 a1 a2 a3 a4 a5) then(Ast a0 a1 a2 a3 a4 a5) else(Ast a0 a1 a2 a3 a4 a5)
def Bkp (_a0:Ak) (_a1:List Ae) (_a2:Bool) (_a3 _a4:Int) (_a5:List Int):A:=.v (.tuple ⟨[]⟩)
def A7t (a0:Ak) (a1:List Ae) (a2:Bool) (a3 a4:Int) (a5:List Int):AJ:=[(5,some (.arr 60 2 (.ty .row (Bhm a0 a1 a2 a3 a4 a5)))),(1,some (.box 68 [.sl .u8 (Bhn a0 a1 a2 a3 a4 a5),.sl .group (Bho a0 a1 a2 a3 a4 a5),.v (.bool (Bhp a0 a1 a2 a3 a4 a5))])),(2,some (.box 34 [iV ((Bhq a0 a1 a2 a3 a4 a5)),iV ((Bhr a0 a1 a2 a3 a4 a5)),iV (((KY a0 a1 a2 a3 a4 a5))),iV (((KY a0 a1 a2 a3 a4 a5))),iV (((KY a0 a1 a2 a3 a4 a5))),iV (((KY a0 a1 a2 a3 a4 a5))),iV (((KY a0 a1 a2 a3 a4 a5))),iV (((KY a0 a1 a2 a3 a4 a5))),.v (.slice none 0 0),iV (((KY a0 a1 a2 a3 a4 a5))),iV (((KY a0 a1 a2 a3 a4 a5))),.sl .i64 (A7p a0 a1 a2 a3 a4 a5),.v (.slice none 0 0),.sq 5,iV ((A7q a0 a1 a2 a3 a4 a5)),iV ((A7r a0 a1 a2 a3 a4 a5)),.v (.bool (A7s a0 a1 a2 a3 a4 a5))])),(4,none)]
def A7u (a0:Ak) (a1:List Ae) (a2:Bool) (a3 a4:Int) (a5:List Int):List Prop:=[(0≤(Ah a0).2.1∧(Ah a0).2.1≤(a0.length:Int)∧(a0.length:Int)≤(a0.length:Int)),(A3 Hw FV Xy (Qz ((Av 256 (Av 1 (List.take ((a0.length:Int).toNat - (Ah a0).2.1.toNat) (List.drop (Ah a0).2.1.toNat a0)) (a2||(Ah a0).2.2 !=0)).2.1 (Av 1 (List.take ((a0.length:Int).toNat - (Ah a0).2.1.toNat) (List.drop (Ah a0).2.1.toNat a0)) (a2||(Ah a0).2.2 !=0)).2.2).1,0,(Av 256 (Av 1 (List.take ((a0.length:Int).toNat - (Ah a0).2.1.toNat) (List.drop (Ah a0).2.1.toNat a0)) (a2||(Ah a0).2.2 !=0)).2.1 (Av 1 (List.take ((a0.length:Int).toNat - (Ah a0).2.1.toNat) (List.drop (Ah a0).2.1.toNat a0)) (a2||(Ah a0).2.2 !=0)).2.2).2.1,a1,(Av 256 (Av 1 (List.take ((a0.length:Int).toNat - (Ah a0).2.1.toNat) (List.drop (Ah a0).2.1.toNat a0)) (a2||(Ah a0).2.2 !=0)).2.1 (Av 1 (List.take ((a0.length:Int).toNat - (Ah a0).2.1.toNat) (List.drop (Ah a0).2.1.toNat a0)) (a2||(Ah a0).2.2 !=0)).2.2).2.2,a3,a4,a5,(Ah a0).1.1,(Ah a0).1.2,(Av 1 (List.take ((a0.length:Int).toNat - (Ah a0).2.1.toNat) (List.drop (Ah a0).2.1.toNat a0)) (a2||(Ah a0).2.2 !=0)).1==1,[])) ((Av 256 (Av 1 (List.take ((a0.length:Int).toNat - (Ah a0).2.1.toNat) (List.drop (Ah a0).2.1.toNat a0)) (a2||(Ah a0).2.2 !=0)).2.1 (Av 1 (List.take ((a0.length:Int).toNat - (Ah a0).2.1.toNat) (List.drop (Ah a0).2.1.toNat a0)) (a2||(Ah a0).2.2 !=0)).2.2).1,0,(Av 256 (Av 1 (List.take ((a0.length:Int).toNat - (Ah a0).2.1.toNat) (List.drop (Ah a0).2.1.toNat a0)) (a2||(Ah a0).2.2 !=0)).2.1 (Av 1 (List.take ((a0.length:Int).toNat - (Ah a0).2.1.toNat) (List.drop (Ah a0).2.1.toNat a0)) (a2||(Ah a0).2.2 !=0)).2.2).2.1,a1,(Av 256 (Av 1 (List.take ((a0.length:Int).toNat - (Ah a0).2.1.toNat) (List.drop (Ah a0).2.1.toNat a0)) (a2||(Ah a0).2.2 !=0)).2.1 (Av 1 (List.take ((a0.length:Int).toNat - (Ah a0).2.1.toNat) (List.drop (Ah a0).2.1.toNat a0)) (a2||(Ah a0).2.2 !=0)).2.2).2.2,a3,a4,a5,(Ah a0).1.1,(Ah a0).1.2,(Av 1 (List.take ((a0.length:Int).toNat - (Ah a0).2.1.toNat) (List.drop (Ah a0).2.1.toNat a0)) (a2||(Ah a0).2.2 !=0)).1==1,[]))]
set_option maxHeartbeats 8000000 in
theorem Bko (a0:Ak) (a1:List Ae) (a2:Bool) (a3 a4:Int) (a5:List Int):Ary (CP Al6.1 A0m.1) 9 24 [.own 1 0,.own 2 0] 5 [(1,some (.box 68 [.sl .u8 a0,.sl .group a1,.v (.bool a2)])),(2,some (.box 34 [iV a3,iV a4,iV 0,iV 0,iV 0,iV 0,iV 0,iV 0,.v (.slice none 0 0),iV 0,iV 0,.sq 4,.v (.slice none 0 0),.v (.slice none 0 0),iV 0,iV 0,.v (.bool false)])),(4,some (.arr 3 1 (.ty .i64 a5)))]=some (2,Bkp a0 a1 a2 a3 a4 a5,6,A7t a0 a1 a2 a3 a4 a5,[(0≤(Ah a0).2.1∧(Ah a0).2.1≤(a0.length:Int)∧(a0.length:Int)≤(a0.length:Int)),(AQ Bb (24:FuncId) 0=AQ Bb (24:FuncId) 0),(A3 Hw FV Xy (Qz ((Av 256 (Av 1 (List.take ((a0.length:Int).toNat - (Ah a0).2.1.toNat) (List.drop (Ah a0).2.1.toNat a0)) (a2||(Ah a0).2.2 !=0)).2.1 (Av 1 (List.take ((a0.length:Int).toNat - (Ah a0).2.1.toNat) (List.drop (Ah a0).2.1.toNat a0)) (a2||(Ah a0).2.2 !=0)).2.2).1,0,(Av 256 (Av 1 (List.take ((a0.length:Int).toNat - (Ah a0).2.1.toNat) (List.drop (Ah a0).2.1.toNat a0)) (a2||(Ah a0).2.2 !=0)).2.1 (Av 1 (List.take ((a0.length:Int).toNat - (Ah a0).2.1.toNat) (List.drop (Ah a0).2.1.toNat a0)) (a2||(Ah a0).2.2 !=0)).2.2).2.1,a1,(Av 256 (Av 1 (List.take ((a0.length:Int).toNat - (Ah a0).2.1.toNat) (List.drop (Ah a0).2.1.toNat a0)) (a2||(Ah a0).2.2 !=0)).2.1 (Av 1 (List.take ((a0.length:Int).toNat - (Ah a0).2.1.toNat) (List.drop (Ah a0).2.1.toNat a0)) (a2||(Ah a0).2.2 !=0)).2.2).2.2,a3,a4,a5,(Ah a0).1.1,(Ah a0).1.2,(Av 1 (List.take ((a0.length:Int).toNat - (Ah a0).2.1.toNat) (List.drop (Ah a0).2.1.toNat a0)) (a2||(Ah a0).2.2 !=0)).1==1,[])) ((Av 256 (Av 1 (List.take ((a0.length:Int).toNat - (Ah a0).2.1.toNat) (List.drop (Ah a0).2.1.toNat a0)) (a2||(Ah a0).2.2 !=0)).2.1 (Av 1 (List.take ((a0.length:Int).toNat - (Ah a0).2.1.toNat) (List.drop (Ah a0).2.1.toNat a0)) (a2||(Ah a0).2.2 !=0)).2.2).1,0,(Av 256 (Av 1 (List.take ((a0.length:Int).toNat - (Ah a0).2.1.toNat) (List.drop (Ah a0).2.1.toNat a0)) (a2||(Ah a0).2.2 !=0)).2.1 (Av 1 (List.take ((a0.length:Int).toNat - (Ah a0).2.1.toNat) (List.drop (Ah a0).2.1.toNat a0)) (a2||(Ah a0).2.2 !=0)).2.2).2.1,a1,(Av 256 (Av 1 (List.take ((a0.length:Int).toNat - (Ah a0).2.1.toNat) (List.drop (Ah a0).2.1.toNat a0)) (a2||(Ah a0).2.2 !=0)).2.1 (Av 1 (List.take ((a0.length:Int).toNat - (Ah a0).2.1.toNat) (List.drop (Ah a0).2.1.toNat a0)) (a2||(Ah a0).2.2 !=0)).2.2).2.2,a3,a4,a5,(Ah a0).1.1,(Ah a0).1.2,(Av 1 (List.take ((a0.length:Int).toNat - (Ah a0).2.1.toNat) (List.drop (Ah a0).2.1.toNat a0)) (a2||(Ah a0).2.2 !=0)).1==1,[]))]):=by kernel_rfl
theorem Bl8 (a0:Ak) (a1:List Ae) (a2:Bool) (a3 a4:Int) (a5:List Int) (hp:∀p∈A7u a0 a1 a2 a3 a4 a5,p):Ax Bb 24 [.own 1 0,.own 2 0] 5 [(1,some (.box 68 [.sl .u8 a0,.sl .group a1,.v (.bool a2)])),(2,some (.box 34 [iV a3,iV a4,iV 0,iV 0,iV 0,iV 0,iV 0,iV 0,.v (.slice none 0 0),iV 0,iV 0,.sq 4,.v (.slice none 0 0),.v (.slice none 0 0),iV 0,iV 0,.v (.bool false)])),(4,some (.arr 3 1 (.ty .i64 a5)))] 2 (Bkp a0 a1 a2 a3 a4 a5) 6 (A7t a0 a1 a2 a3 a4 a5):=
  Ty (AU Al6.2 A0m.2) (Bko a0 a1 a2 a3 a4 a5) (nT hp fun hp=>Aa rfl (nT hp fun _=>An))
end Go.Proofs.YtifkbgkbajncjaaDoor
namespace Go.Proofs.YtifkbgkbajncjaaDoor
open Go.RowKit
def Al7:=aRy (Bhb (A6h Cdh.2) rfl rfl 9 8 3) Cdh
abbrev JQ:Type:=Int×Int×Int×Int×Int×Int×Int×Int×Int×Int×(List Int)×Int×Int×Bool×Ak×(List Ae)×Bool×(List Ak)
def Bbg:JQ→St
  |(a0,a1,a2,a3,a4,a5,a6,a7,a8,a9,a10,a11,az,ba,a14,bh,bj,a17)=>⟨28,9,[(0,.yl 6),(1,.own 5 0)],[(6,some (.lp 8 3 [11] [.own 2 0] 0)),(2,some (.box 34 [.v (.int .i64 a0),.v (.int .i64 a1),.v (.int .i64 a2),.v (.int .i64 a3),.v (.int .i64 a4),.v (.int .i64 a5),.v (.int .i64 a6),.v (.int .i64 a7),.v (.slice none 0 0),.v (.int .i64 a8),.v (.int .i64 a9),.sl .i64 a10,.sq 8,.v (.slice none 0 0),.v (.int .i64 a11),.v (.int .i64 az),.v (.bool ba)])),(5,some (.box 66 [.own 1 0])),(1,some (.box 68 [.sl .u8 a14,.sl .group bh,.v (.bool bj)])),(8,some (.arr 56 32 (.ty .digest a17)))]⟩
def Arp:St→Option JQ
 |⟨28,9,[(0,.yl 6),(1,.own 5 0)],[(6,some (.lp 8 3 [11] [.own 2 0] 0)),(2,some (.box 34 [.v (.int .i64 z0),.v (.int .i64 z1),.v (.int .i64 z2),.v (.int .i64 z3),.v (.int .i64 z4),.v (.int .i64 z5),.v (.int .i64 z6),.v (.int .i64 z7),.v (.slice none 0 0),.v (.int .i64 z8),.v (.int .i64 z9),.sl .i64 mh,.sq 8,.v (.slice none 0 0),.v (.int .i64 t7),.v (.int .i64 zx),.v (.bool zy)])),(5,some (.box 66 [.own 1 0])),(1,some (.box 68 [.sl .u8 z14,.sl .group z15,.v (.bool z16)])),(8,some (.arr 56 32 (.ty .digest z17)))]⟩=>some (z0,z1,z2,z3,z4,z5,z6,z7,z8,z9,mh,t7,zx,zy,z14,z15,z16,z17)
 |_=>none
def Bbf:E2:=⟨8,9,[0,1],[],[(6,6),(2,2),(5,5),(1,1),(12,8)],[6,2,5,1,12],[],[6,2,12,5,1]⟩
def Bbe:Fz:=⟨[.frz 4,.nilB 2 12 56 .digest],[(6,6),(2,2),(5,5),(1,1),(7,8)],[0,1],[6,2,5,1,7]⟩
def NK (_a0 _a1 _a2 _a3 _a4 _a5 _a6 _a7 _a8 _a9:Int) (_a10:List Int) (_a11 _a12:Int) (_a13:Bool) (a14:Ak) (_a15:List Ae) (_a16:Bool) (_a17:List Ak):Int:=(↑(UInt8.toNat ((List.take 32 (List.drop 0 a14)).getD (nat_lit 0) (Ao TC.u8))):Int)
def NJ (_a0 _a1 _a2 _a3 _a4 _a5 _a6 _a7 _a8 _a9:Int) (_a10:List Int) (_a11 _a12:Int) (_a13:Bool) (a14:Ak) (_a15:List Ae) (_a16:Bool) (_a17:List Ak):Int:=(↑(UInt8.toNat ((List.take 32 (List.drop 0 a14)).getD (nat_lit 1) (Ao TC.u8))):Int)
def NI (_a0 _a1 _a2 _a3 _a4 _a5 _a6 _a7 _a8 _a9:Int) (_a10:List Int) (_a11 _a12:Int) (_a13:Bool) (a14:Ak) (_a15:List Ae) (_a16:Bool) (_a17:List Ak):Int:=(↑(UInt8.toNat ((List.take 32 (List.drop 0 a14)).getD (nat_lit 2) (Ao TC.u8))):Int)
def NH (_a0 _a1 _a2 _a3 _a4 _a5 _a6 _a7 _a8 _a9:Int) (_a10:List Int) (_a11 _a12:Int) (_a13:Bool) (a14:Ak) (_a15:List Ae) (_a16:Bool) (_a17:List Ak):Int:=(↑(UInt8.toNat ((List.take 32 (List.drop 0 a14)).getD (nat_lit 3) (Ao TC.u8))):Int)
def NG (_a0 _a1 _a2 _a3 _a4 _a5 _a6 _a7 _a8 _a9:Int) (_a10:List Int) (_a11 _a12:Int) (_a13:Bool) (a14:Ak) (_a15:List Ae) (_a16:Bool) (_a17:List Ak):Int:=(↑(UInt8.toNat ((List.take 32 (List.drop 0 a14)).getD (nat_lit 4) (Ao TC.u8))):Int)
def NF (_a0 _a1 _a2 _a3 _a4 _a5 _a6 _a7 _a8 _a9:Int) (_a10:List Int) (_a11 _a12:Int) (_a13:Bool) (a14:Ak) (_a15:List Ae) (_a16:Bool) (_a17:List Ak):Int:=(↑(UInt8.toNat ((List.take 32 (List.drop 0 a14)).getD (nat_lit 5) (Ao TC.u8))):Int)
def NE (_a0 _a1 _a2 _a3 _a4 _a5 _a6 _a7 _a8 _a9:Int) (_a10:List Int) (_a11 _a12:Int) (_a13:Bool) (a14:Ak) (_a15:List Ae) (_a16:Bool) (_a17:List Ak):Int:=(↑(UInt8.toNat ((List.take 32 (List.drop 0 a14)).getD (nat_lit 6) (Ao TC.u8))):Int)
def ND (_a0 _a1 _a2 _a3 _a4 _a5 _a6 _a7 _a8 _a9:Int) (_a10:List Int) (_a11 _a12:Int) (_a13:Bool) (a14:Ak) (_a15:List Ae) (_a16:Bool) (_a17:List Ak):Int:=(↑(UInt8.toNat ((List.take 32 (List.drop 0 a14)).getD (nat_lit 7) (Ao TC.u8))):Int)
def NC (_a0 _a1 _a2 _a3 _a4 _a5 _a6 _a7 _a8 _a9:Int) (_a10:List Int) (_a11 _a12:Int) (_a13:Bool) (a14:Ak) (_a15:List Ae) (_a16:Bool) (_a17:List Ak):Int:=(↑(UInt8.toNat ((List.take 32 (List.drop 0 a14)).getD (nat_lit 8) (Ao TC.u8))):Int)
def NB (_a0 _a1 _a2 _a3 _a4 _a5 _a6 _a7 _a8 _a9:Int) (_a10:List Int) (_a11 _a12:Int) (_a13:Bool) (a14:Ak) (_a15:List Ae) (_a16:Bool) (_a17:List Ak):Int:=(↑(UInt8.toNat ((List.take 32 (List.drop 0 a14)).getD (nat_lit 9) (Ao TC.u8))):Int)
def NA (_a0 _a1 _a2 _a3 _a4 _a5 _a6 _a7 _a8 _a9:Int) (_a10:List Int) (_a11 _a12:Int) (_a13:Bool) (a14:Ak) (_a15:List Ae) (_a16:Bool) (_a17:List Ak):Int:=(↑(UInt8.toNat ((List.take 32 (List.drop 0 a14)).getD (nat_lit 10) (Ao TC.u8))):Int)
def Nz (_a0 _a1 _a2 _a3 _a4 _a5 _a6 _a7 _a8 _a9:Int) (_a10:List Int) (_a11 _a12:Int) (_a13:Bool) (a14:Ak) (_a15:List Ae) (_a16:Bool) (_a17:List Ak):Int:=(↑(UInt8.toNat ((List.take 32 (List.drop 0 a14)).getD (nat_lit 11) (Ao TC.u8))):Int)
def Ny (_a0 _a1 _a2 _a3 _a4 _a5 _a6 _a7 _a8 _a9:Int) (_a10:List Int) (_a11 _a12:Int) (_a13:Bool) (a14:Ak) (_a15:List Ae) (_a16:Bool) (_a17:List Ak):Int:=(↑(UInt8.toNat ((List.take 32 (List.drop 0 a14)).getD (nat_lit 12) (Ao TC.u8))):Int)
def Nw (_a0 _a1 _a2 _a3 _a4 _a5 _a6 _a7 _a8 _a9:Int) (_a10:List Int) (_a11 _a12:Int) (_a13:Bool) (a14:Ak) (_a15:List Ae) (_a16:Bool) (_a17:List Ak):Int:=(↑(UInt8.toNat ((List.take 32 (List.drop 0 a14)).getD (nat_lit 13) (Ao TC.u8))):Int)
def Nv (_a0 _a1 _a2 _a3 _a4 _a5 _a6 _a7 _a8 _a9:Int) (_a10:List Int) (_a11 _a12:Int) (_a13:Bool) (a14:Ak) (_a15:List Ae) (_a16:Bool) (_a17:List Ak):Int:=(↑(UInt8.toNat ((List.take 32 (List.drop 0 a14)).getD (nat_lit 14) (Ao TC.u8))):Int)
def Nu (_a0 _a1 _a2 _a3 _a4 _a5 _a6 _a7 _a8 _a9:Int) (_a10:List Int) (_a11 _a12:Int) (_a13:Bool) (a14:Ak) (_a15:List Ae) (_a16:Bool) (_a17:List Ak):Int:=(↑(UInt8.toNat ((List.take 32 (List.drop 0 a14)).getD (nat_lit 15) (Ao TC.u8))):Int)
def Nt (_a0 _a1 _a2 _a3 _a4 _a5 _a6 _a7 _a8 _a9:Int) (_a10:List Int) (_a11 _a12:Int) (_a13:Bool) (a14:Ak) (_a15:List Ae) (_a16:Bool) (_a17:List Ak):Int:=(↑(UInt8.toNat ((List.take 32 (List.drop 0 a14)).getD (nat_lit 16) (Ao TC.u8))):Int)
def Ns (_a0 _a1 _a2 _a3 _a4 _a5 _a6 _a7 _a8 _a9:Int) (_a10:List Int) (_a11 _a12:Int) (_a13:Bool) (a14:Ak) (_a15:List Ae) (_a16:Bool) (_a17:List Ak):Int:=(↑(UInt8.toNat ((List.take 32 (List.drop 0 a14)).getD (nat_lit 17) (Ao TC.u8))):Int)
def Nr (_a0 _a1 _a2 _a3 _a4 _a5 _a6 _a7 _a8 _a9:Int) (_a10:List Int) (_a11 _a12:Int) (_a13:Bool) (a14:Ak) (_a15:List Ae) (_a16:Bool) (_a17:List Ak):Int:=(↑(UInt8.toNat ((List.take 32 (List.drop 0 a14)).getD (nat_lit 18) (Ao TC.u8))):Int)
def Nq (_a0 _a1 _a2 _a3 _a4 _a5 _a6 _a7 _a8 _a9:Int) (_a10:List Int) (_a11 _a12:Int) (_a13:Bool) (a14:Ak) (_a15:List Ae) (_a16:Bool) (_a17:List Ak):Int:=(↑(UInt8.toNat ((List.take 32 (List.drop 0 a14)).getD (nat_lit 19) (Ao TC.u8))):Int)
def Np (_a0 _a1 _a2 _a3 _a4 _a5 _a6 _a7 _a8 _a9:Int) (_a10:List Int) (_a11 _a12:Int) (_a13:Bool) (a14:Ak) (_a15:List Ae) (_a16:Bool) (_a17:List Ak):Int:=(↑(UInt8.toNat ((List.take 32 (List.drop 0 a14)).getD (nat_lit 20) (Ao TC.u8))):Int)
def No (_a0 _a1 _a2 _a3 _a4 _a5 _a6 _a7 _a8 _a9:Int) (_a10:List Int) (_a11 _a12:Int) (_a13:Bool) (a14:Ak) (_a15:List Ae) (_a16:Bool) (_a17:List Ak):Int:=(↑(UInt8.toNat ((List.take 32 (List.drop 0 a14)).getD (nat_lit 21) (Ao TC.u8))):Int)
def Nn (_a0 _a1 _a2 _a3 _a4 _a5 _a6 _a7 _a8 _a9:Int) (_a10:List Int) (_a11 _a12:Int) (_a13:Bool) (a14:Ak) (_a15:List Ae) (_a16:Bool) (_a17:List Ak):Int:=(↑(UInt8.toNat ((List.take 32 (List.drop 0 a14)).getD (nat_lit 22) (Ao TC.u8))):Int)
def Nl (_a0 _a1 _a2 _a3 _a4 _a5 _a6 _a7 _a8 _a9:Int) (_a10:List Int) (_a11 _a12:Int) (_a13:Bool) (a14:Ak) (_a15:List Ae) (_a16:Bool) (_a17:List Ak):Int:=(↑(UInt8.toNat ((List.take 32 (List.drop 0 a14)).getD (nat_lit 23) (Ao TC.u8))):Int)
def Nk (_a0 _a1 _a2 _a3 _a4 _a5 _a6 _a7 _a8 _a9:Int) (_a10:List Int) (_a11 _a12:Int) (_a13:Bool) (a14:Ak) (_a15:List Ae) (_a16:Bool) (_a17:List Ak):Int:=(↑(UInt8.toNat ((List.take 32 (List.drop 0 a14)).getD (nat_lit 24) (Ao TC.u8))):Int)
def Nj (_a0 _a1 _a2 _a3 _a4 _a5 _a6 _a7 _a8 _a9:Int) (_a10:List Int) (_a11 _a12:Int) (_a13:Bool) (a14:Ak) (_a15:List Ae) (_a16:Bool) (_a17:List Ak):Int:=(↑(UInt8.toNat ((List.take 32 (List.drop 0 a14)).getD (nat_lit 25) (Ao TC.u8))):Int)
def Ni (_a0 _a1 _a2 _a3 _a4 _a5 _a6 _a7 _a8 _a9:Int) (_a10:List Int) (_a11 _a12:Int) (_a13:Bool) (a14:Ak) (_a15:List Ae) (_a16:Bool) (_a17:List Ak):Int:=(↑(UInt8.toNat ((List.take 32 (List.drop 0 a14)).getD (nat_lit 26) (Ao TC.u8))):Int)
def Nh (_a0 _a1 _a2 _a3 _a4 _a5 _a6 _a7 _a8 _a9:Int) (_a10:List Int) (_a11 _a12:Int) (_a13:Bool) (a14:Ak) (_a15:List Ae) (_a16:Bool) (_a17:List Ak):Int:=(↑(UInt8.toNat ((List.take 32 (List.drop 0 a14)).getD (nat_lit 27) (Ao TC.u8))):Int)
def Ng (_a0 _a1 _a2 _a3 _a4 _a5 _a6 _a7 _a8 _a9:Int) (_a10:List Int) (_a11 _a12:Int) (_a13:Bool) (a14:Ak) (_a15:List Ae) (_a16:Bool) (_a17:List Ak):Int:=(↑(UInt8.toNat ((List.take 32 (List.drop 0 a14)).getD (nat_lit 28) (Ao TC.u8))):Int)
def Nf (_a0 _a1 _a2 _a3 _a4 _a5 _a6 _a7 _a8 _a9:Int) (_a10:List Int) (_a11 _a12:Int) (_a13:Bool) (a14:Ak) (_a15:List Ae) (_a16:Bool) (_a17:List Ak):Int:=(↑(UInt8.toNat ((List.take 32 (List.drop 0 a14)).getD (nat_lit 29) (Ao TC.u8))):Int)
def Nd (_a0 _a1 _a2 _a3 _a4 _a5 _a6 _a7 _a8 _a9:Int) (_a10:List Int) (_a11 _a12:Int) (_a13:Bool) (a14:Ak) (_a15:List Ae) (_a16:Bool) (_a17:List Ak):Int:=(↑(UInt8.toNat ((List.take 32 (List.drop 0 a14)).getD (nat_lit 30) (Ao TC.u8))):Int)
def Nc (_a0 _a1 _a2 _a3 _a4 _a5 _a6 _a7 _a8 _a9:Int) (_a10:List Int) (_a11 _a12:Int) (_a13:Bool) (a14:Ak) (_a15:List Ae) (_a16:Bool) (_a17:List Ak):Int:=(↑(UInt8.toNat ((List.take 32 (List.drop 0 a14)).getD (nat_lit 31) (Ao TC.u8))):Int)
def As (_a0 _a1 _a2 _a3 _a4 _a5 _a6 _a7 _a8 _a9:Int) (_a10:List Int) (_a11 _a12:Int) (_a13:Bool) (a14:Ak) (_a15:List Ae) (_a16:Bool) (_a17:List Ak):Bool:=decide ((a14.length:Int)≥32)
def Nb (a0 a1 a2 a3 a4 a5 a6 a7 a8 a9:Int) (a10:List Int) (a11 az:Int) (ba:Bool) (a14:Ak) (bh:List Ae) (bj:Bool) (a17:List Ak):Bool:=bif(As a0 a1 a2 a3 a4 a5 a6 a7 a8 a9 a10 a11 az ba a14 bh bj a17) then ba else ba
def Na (a0 a1 a2 a3 a4 a5 a6 a7 a8 a9:Int) (a10:List Int) (a11 az:Int) (ba:Bool) (a14:Ak) (bh:List Ae) (bj:Bool) (a17:List Ak):Int:=bif(As a0 a1 a2 a3 a4 a5 a6 a7 a8 a9 a10 a11 az ba a14 bh bj a17) then az else az
def M9 (a0 a1 a2 a3 a4 a5 a6 a7 a8 a9:Int) (a10:List Int) (a11 az:Int) (ba:Bool) (a14:Ak) (bh:List Ae) (bj:Bool) (a17:List Ak):Int:=bif(As a0 a1 a2 a3 a4 a5 a6 a7 a8 a9 a10 a11 az ba a14 bh bj a17) then a11 else a11
def M8 (a0 a1 a2 a3 a4 a5 a6 a7 a8 a9:Int) (a10:List Int) (a11 az:Int) (ba:Bool) (a14:Ak) (bh:List Ae) (bj:Bool) (a17:List Ak):Int:=bif(As a0 a1 a2 a3 a4 a5 a6 a7 a8 a9 a10 a11 az ba a14 bh bj a17) then a9 else a9
def M7 (a0 a1 a2 a3 a4 a5 a6 a7 a8 a9:Int) (a10:List Int) (a11 az:Int) (ba:Bool) (a14:Ak) (bh:List Ae) (bj:Bool) (a17:List Ak):Int:=bif(As a0 a1 a2 a3 a4 a5 a6 a7 a8 a9 a10 a11 az ba a14 bh bj a17) then a8 else a8
def M6 (a0 a1 a2 a3 a4 a5 a6 a7 a8 a9:Int) (a10:List Int) (a11 az:Int) (ba:Bool) (a14:Ak) (bh:List Ae) (bj:Bool) (a17:List Ak):Int:=bif(As a0 a1 a2 a3 a4 a5 a6 a7 a8 a9 a10 a11 az ba a14 bh bj a17) then a7 else a7
def Qh (a0 a1 a2 a3 a4 a5 a6 a7 a8 a9:Int) (a10:List Int) (a11 az:Int) (ba:Bool) (a14:Ak) (bh:List Ae) (bj:Bool) (a17:List Ak):Int:=bif(As a0 a1 a2 a3 a4 a5 a6 a7 a8 a9 a10 a11 az ba a14 bh bj a17) then a6 else a6
def Qg (a0 a1 a2 a3 a4 a5 a6 a7 a8 a9:Int) (a10:List Int) (a11 az:Int) (ba:Bool) (a14:Ak) (bh:List Ae) (bj:Bool) (a17:List Ak):Int:=bif(As a0 a1 a2 a3 a4 a5 a6 a7 a8 a9 a10 a11 az ba a14 bh bj a17) then a5 else a5
def Qf (a0 a1 a2 a3 a4 a5 a6 a7 a8 a9:Int) (a10:List Int) (a11 az:Int) (ba:Bool) (a14:Ak) (bh:List Ae) (bj:Bool) (a17:List Ak):Int:=bif(As a0 a1 a2 a3 a4 a5 a6 a7 a8 a9 a10 a11 az ba a14 bh bj a17) then a4 else a4
def Qe (a0 a1 a2 a3 a4 a5 a6 a7 a8 a9:Int) (a10:List Int) (a11 az:Int) (ba:Bool) (a14:Ak) (bh:List Ae) (bj:Bool) (a17:List Ak):Int:=bif(As a0 a1 a2 a3 a4 a5 a6 a7 a8 a9 a10 a11 az ba a14 bh bj a17) then a3 else a3
def Qd (a0 a1 a2 a3 a4 a5 a6 a7 a8 a9:Int) (a10:List Int) (a11 az:Int) (ba:Bool) (a14:Ak) (bh:List Ae) (bj:Bool) (a17:List Ak):Int:=bif(As a0 a1 a2 a3 a4 a5 a6 a7 a8 a9 a10 a11 az ba a14 bh bj a17) then a2 else a2
def Qc (a0 a1 a2 a3 a4 a5 a6 a7 a8 a9:Int) (a10:List Int) (a11 az:Int) (ba:Bool) (a14:Ak) (bh:List Ae) (bj:Bool) (a17:List Ak):Int:=bif(As a0 a1 a2 a3 a4 a5 a6 a7 a8 a9 a10 a11 az ba a14 bh bj a17) then a1 else a1
def Qb (a0 a1 a2 a3 a4 a5 a6 a7 a8 a9:Int) (a10:List Int) (a11 az:Int) (ba:Bool) (a14:Ak) (bh:List Ae) (bj:Bool) (a17:List Ak):Int:=bif(As a0 a1 a2 a3 a4 a5 a6 a7 a8 a9 a10 a11 az ba a14 bh bj a17) then a0 else a0
def H4 (a0 a1 a2 a3 a4 a5 a6 a7 a8 a9:Int) (a10:List Int) (a11 az:Int) (ba:Bool) (a14:Ak) (bh:List Ae) (bj:Bool) (a17:List Ak):Bool:=!!bif(As a0 a1 a2 a3 a4 a5 a6 a7 a8 a9 a10 a11 az ba a14 bh bj a17) then true else false
def Qa (a0 a1 a2 a3 a4 a5 a6 a7 a8 a9:Int) (a10:List Int) (a11 az:Int) (ba:Bool) (a14:Ak) (bh:List Ae) (bj:Bool) (a17:List Ak):List Int:=bif(As a0 a1 a2 a3 a4 a5 a6 a7 a8 a9 a10 a11 az ba a14 bh bj a17) then a10 else a10
def P9 (a0 a1 a2 a3 a4 a5 a6 a7 a8 a9:Int) (a10:List Int) (a11 az:Int) (ba:Bool) (a14:Ak) (bh:List Ae) (bj:Bool) (a17:List Ak):List Ak:=bif(As a0 a1 a2 a3 a4 a5 a6 a7 a8 a9 a10 a11 az ba a14 bh bj a17) then a17++[[UInt8.ofNat (NK a0 a1 a2 a3 a4 a5 a6 a7 a8 a9 a10 a11 az ba a14 bh bj a17).toNat,UInt8.ofNat (NJ a0 a1 a2 a3 a4 a5 a6 a7 a8 a9 a10 a11 az ba a14 bh bj a17).toNat,UInt8.ofNat (NI a0 a1 a2 a3 a4 a5 a6 a7 a8 a9 a10 a11 az ba a14 bh bj a17).toNat,UInt8.ofNat (NH a0 a1 a2 a3 a4 a5 a6 a7 a8 a9 a10 a11 az ba a14 bh bj a17).toNat,UInt8.ofNat (NG a0 a1 a2 a3 a4 a5 a6 a7 a8 a9 a10 a11 az ba a14 bh bj a17).toNat,UInt8.ofNat (NF a0 a1 a2 a3 a4 a5 a6 a7 a8 a9 a10 a11 az ba a14 bh bj a17).toNat,UInt8.ofNat (NE a0 a1 a2 a3 a4 a5 a6 a7 a8 a9 a10 a11 az ba a14 bh bj a17).toNat,UInt8.ofNat (ND a0 a1 a2 a3 a4 a5 a6 a7 a8 a9 a10 a11 az ba a14 bh bj a17).toNat,UInt8.ofNat (NC a0 a1 a2 a3 a4 a5 a6 a7 a8 a9 a10 a11 az ba a14 bh bj a17).toNat,UInt8.ofNat (NB a0 a1 a2 a3 a4 a5 a6 a7 a8 a9 a10 a11 az ba a14 bh bj a17).toNat,UInt8.ofNat (NA a0 a1 a2 a3 a4 a5 a6 a7 a8 a9 a10 a11 az ba a14 bh bj a17).toNat,UInt8.ofNat (Nz a0 a1 a2 a3 a4 a5 a6 a7 a8 a9 a10 a11 az ba a14 bh bj a17).toNat,UInt8.ofNat (Ny a0 a1 a2 a3 a4 a5 a6 a7 a8 a9 a10 a11 az ba a14 bh bj a17).toNat,UInt8.ofNat (Nw a0 a1 a2 a3 a4 a5 a6 a7 a8 a9 a10 a11 az ba a14 bh bj a17).toNat,UInt8.ofNat (Nv a0 a1 a2 a3 a4 a5 a6 a7 a8 a9 a10 a11 az ba a14 bh bj a17).toNat,UInt8.ofNat (Nu a0 a1 a2 a3 a4 a5 a6 a7 a8 a9 a10 a11 az ba a14 bh bj a17).toNat,UInt8.ofNat (Nt a0 a1 a2 a3 a4 a5 a6 a7 a8 a9 a10 a11 az ba a14 bh bj a17).toNat,UInt8.ofNat (Ns a0 a1 a2 a3 a4 a5 a6 a7 a8 a9 a10 a11 az ba a14 bh bj a17).toNat,UInt8.ofNat (Nr a0 a1 a2 a3 a4 a5 a6 a7 a8 a9 a10 a11 az ba a14 bh bj a17).toNat,UInt8.ofNat (Nq a0 a1 a2 a3 a4 a5 a6 a7 a8 a9 a10 a11 az ba a14 bh bj a17).toNat,UInt8.ofNat (Np a0 a1 a2 a3 a4 a5 a6 a7 a8 a9 a10 a11 az ba a14 bh bj a17).toNat,UInt8.ofNat (No a0 a1 a2 a3 a4 a5 a6 a7 a8 a9 a10 a11 az ba a14 bh bj a17).toNat,UInt8.ofNat (Nn a0 a1 a2 a3 a4 a5 a6 a7 a8 a9 a10 a11 az ba a14 bh bj a17).toNat,UInt8.ofNat (Nl a0 a1 a2 a3 a4 a5 a6 a7 a8 a9 a10 a11 az ba a14 bh bj a17).toNat,UInt8.ofNat (Nk a0 a1 a2 a3 a4 a5 a6 a7 a8 a9 a10 a11 az ba a14 bh bj a17).toNat,UInt8.ofNat (Nj a0 a1 a2 a3 a4 a5 a6 a7 a8 a9 a10 a11 az ba a14 bh bj a17).toNat,UInt8.ofNat (Ni a0 a1 a2 a3 a4 a5 a6 a7 a8 a9 a10 a11 az ba a14 bh bj a17).toNat,UInt8.ofNat (Nh a0 a1 a2 a3 a4 a5 a6 a7 a8 a9 a10 a11 az ba a14 bh bj a17).toNat,UInt8.ofNat (Ng a0 a1 a2 a3 a4 a5 a6 a7 a8 a9 a10 a11 az ba a14 bh bj a17).toNat,UInt8.ofNat (Nf a0 a1 a2 a3 a4 a5 a6 a7 a8 a9 a10 a11 az ba a14 bh bj a17).toNat,UInt8.ofNat (Nd a0 a1 a2 a3 a4 a5 a6 a7 a8 a9 a10 a11 az ba a14 bh bj a17).toNat,UInt8.ofNat (Nc a0 a1 a2 a3 a4 a5 a6 a7 a8 a9 a10 a11 az ba a14 bh bj a17).toNat]] else a17
def Yz (a0 a1 a2 a3 a4 a5 a6 a7 a8 a9:Int) (a10:List Int) (a11 az:Int) (ba:Bool) (a14:Ak) (bh:List Ae) (bj:Bool) (a17:List Ak):Int:=(Qb a0 a1 a2 a3 a4 a5 a6 a7 a8 a9 a10 a11 az ba a14 bh bj a17)
def YA (a0 a1 a2 a3 a4 a5 a6 a7 a8 a9:Int) (a10:List Int) (a11 az:Int) (ba:Bool) (a14:Ak) (bh:List Ae) (bj:Bool) (a17:List Ak):Int:=(Qc a0 a1 a2 a3 a4 a5 a6 a7 a8 a9 a10 a11 az ba a14 bh bj a17)
def YB (a0 a1 a2 a3 a4 a5 a6 a7 a8 a9:Int) (a10:List Int) (a11 az:Int) (ba:Bool) (a14:Ak) (bh:List Ae) (bj:Bool) (a17:List Ak):Int:=(Qd a0 a1 a2 a3 a4 a5 a6 a7 a8 a9 a10 a11 az ba a14 bh bj a17)
def YC (a0 a1 a2 a3 a4 a5 a6 a7 a8 a9:Int) (a10:List Int) (a11 az:Int) (ba:Bool) (a14:Ak) (bh:List Ae) (bj:Bool) (a17:List Ak):Int:=(Qe a0 a1 a2 a3 a4 a5 a6 a7 a8 a9 a10 a11 az ba a14 bh bj a17)
def YD (a0 a1 a2 a3 a4 a5 a6 a7 a8 a9:Int) (a10:List Int) (a11 az:Int) (ba:Bool) (a14:Ak) (bh:List Ae) (bj:Bool) (a17:List Ak):Int:=(Qf a0 a1 a2 a3 a4 a5 a6 a7 a8 a9 a10 a11 az ba a14 bh bj a17)
def YE (a0 a1 a2 a3 a4 a5 a6 a7 a8 a9:Int) (a10:List Int) (a11 az:Int) (ba:Bool) (a14:Ak) (bh:List Ae) (bj:Bool) (a17:List Ak):Int:=(Qg a0 a1 a2 a3 a4 a5 a6 a7 a8 a9 a10 a11 az ba a14 bh bj a17)
def YF (a0 a1 a2 a3 a4 a5 a6 a7 a8 a9:Int) (a10:List Int) (a11 az:Int) (ba:Bool) (a14:Ak) (bh:List Ae) (bj:Bool) (a17:List Ak):Int:=(Qh a0 a1 a2 a3 a4 a5 a6 a7 a8 a9 a10 a11 az ba a14 bh bj a17)
def YG (a0 a1 a2 a3 a4 a5 a6 a7 a8 a9:Int) (a10:List Int) (a11 az:Int) (ba:Bool) (a14:Ak) (bh:List Ae) (bj:Bool) (a17:List Ak):Int:=(M6 a0 a1 a2 a3 a4 a5 a6 a7 a8 a9 a10 a11 az ba a14 bh bj a17)
def YH (a0 a1 a2 a3 a4 a5 a6 a7 a8 a9:Int) (a10:List Int) (a11 az:Int) (ba:Bool) (a14:Ak) (bh:List Ae) (bj:Bool) (a17:List Ak):Int:=(M7 a0 a1 a2 a3 a4 a5 a6 a7 a8 a9 a10 a11 az ba a14 bh bj a17)
def YI (a0 a1 a2 a3 a4 a5 a6 a7 a8 a9:Int) (a10:List Int) (a11 az:Int) (ba:Bool) (a14:Ak) (bh:List Ae) (bj:Bool) (a17:List Ak):Int:=(M8 a0 a1 a2 a3 a4 a5 a6 a7 a8 a9 a10 a11 az ba a14 bh bj a17)
def Vw (a0 a1 a2 a3 a4 a5 a6 a7 a8 a9:Int) (a10:List Int) (a11 az:Int) (ba:Bool) (a14:Ak) (bh:List Ae) (bj:Bool) (a17:List Ak):List Int:=(Qa a0 a1 a2 a3 a4 a5 a6 a7 a8 a9 a10 a11 az ba a14 bh bj a17)
def Vx (a0 a1 a2 a3 a4 a5 a6 a7 a8 a9:Int) (a10:List Int) (a11 az:Int) (ba:Bool) (a14:Ak) (bh:List Ae) (bj:Bool) (a17:List Ak):Int:=(M9 a0 a1 a2 a3 a4 a5 a6 a7 a8 a9 a10 a11 az ba a14 bh bj a17)
def Vy (a0 a1 a2 a3 a4 a5 a6 a7 a8 a9:Int) (a10:List Int) (a11 az:Int) (ba:Bool) (a14:Ak) (bh:List Ae) (bj:Bool) (a17:List Ak):Int:=(Na a0 a1 a2 a3 a4 a5 a6 a7 a8 a9 a10 a11 az ba a14 bh bj a17)
def Vz (a0 a1 a2 a3 a4 a5 a6 a7 a8 a9:Int) (a10:List Int) (a11 az:Int) (ba:Bool) (a14:Ak) (bh:List Ae) (bj:Bool) (a17:List Ak):Bool:=(Nb a0 a1 a2 a3 a4 a5 a6 a7 a8 a9 a10 a11 az ba a14 bh bj a17)
def VA (_a0 _a1 _a2 _a3 _a4 _a5 _a6 _a7 _a8 _a9:Int) (_a10:List Int) (_a11 _a12:Int) (_a13:Bool) (a14:Ak) (_a15:List Ae) (_a16:Bool) (_a17:List Ak):Ak:=List.take ((a14.length:Int).toNat - 32) (List.drop 32 a14)
def VB (a0 a1 a2 a3 a4 a5 a6 a7 a8 a9:Int) (a10:List Int) (a11 az:Int) (ba:Bool) (a14:Ak) (bh:List Ae) (bj:Bool) (a17:List Ak):List Ak:=(P9 a0 a1 a2 a3 a4 a5 a6 a7 a8 a9 a10 a11 az ba a14 bh bj a17)
def Awg (a0 a1 a2 a3 a4 a5 a6 a7 a8 a9:Int) (a10:List Int) (a11 az:Int) (ba:Bool) (a14:Ak) (bh:List Ae) (bj:Bool) (a17:List Ak):Bool:=(H4 a0 a1 a2 a3 a4 a5 a6 a7 a8 a9 a10 a11 az ba a14 bh bj a17)
def Awh (a0 a1 a2 a3 a4 a5 a6 a7 a8 a9:Int) (a10:List Int) (a11 az:Int) (ba:Bool) (a14:Ak) (bh:List Ae) (bj:Bool) (a17:List Ak):Bool:=!bif(As a0 a1 a2 a3 a4 a5 a6 a7 a8 a9 a10 a11 az ba a14 bh bj a17) then true else false
def VC (a0 a1 a2 a3 a4 a5 a6 a7 a8 a9:Int) (a10:List Int) (a11 az:Int) (ba:Bool) (a14:Ak) (bh:List Ae) (bj:Bool) (a17:List Ak):Int:=(Qb a0 a1 a2 a3 a4 a5 a6 a7 a8 a9 a10 a11 az ba a14 bh bj a17)
def VD (a0 a1 a2 a3 a4 a5 a6 a7 a8 a9:Int) (a10:List Int) (a11 az:Int) (ba:Bool) (a14:Ak) (bh:List Ae) (bj:Bool) (a17:List Ak):Int:=(Qc a0 a1 a2 a3 a4 a5 a6 a7 a8 a9 a10 a11 az ba a14 bh bj a17)
def VE (a0 a1 a2 a3 a4 a5 a6 a7 a8 a9:Int) (a10:List Int) (a11 az:Int) (ba:Bool) (a14:Ak) (bh:List Ae) (bj:Bool) (a17:List Ak):Int:=(Qd a0 a1 a2 a3 a4 a5 a6 a7 a8 a9 a10 a11 az ba a14 bh bj a17)
def VF (a0 a1 a2 a3 a4 a5 a6 a7 a8 a9:Int) (a10:List Int) (a11 az:Int) (ba:Bool) (a14:Ak) (bh:List Ae) (bj:Bool) (a17:List Ak):Int:=(Qe a0 a1 a2 a3 a4 a5 a6 a7 a8 a9 a10 a11 az ba a14 bh bj a17)
def VG (a0 a1 a2 a3 a4 a5 a6 a7 a8 a9:Int) (a10:List Int) (a11 az:Int) (ba:Bool) (a14:Ak) (bh:List Ae) (bj:Bool) (a17:List Ak):Int:=(Qf a0 a1 a2 a3 a4 a5 a6 a7 a8 a9 a10 a11 az ba a14 bh bj a17)
def VH (a0 a1 a2 a3 a4 a5 a6 a7 a8 a9:Int) (a10:List Int) (a11 az:Int) (ba:Bool) (a14:Ak) (bh:List Ae) (bj:Bool) (a17:List Ak):Int:=(Qg a0 a1 a2 a3 a4 a5 a6 a7 a8 a9 a10 a11 az ba a14 bh bj a17)
def VI (a0 a1 a2 a3 a4 a5 a6 a7 a8 a9:Int) (a10:List Int) (a11 az:Int) (ba:Bool) (a14:Ak) (bh:List Ae) (bj:Bool) (a17:List Ak):Int:=(Qh a0 a1 a2 a3 a4 a5 a6 a7 a8 a9 a10 a11 az ba a14 bh bj a17)
def VJ (a0 a1 a2 a3 a4 a5 a6 a7 a8 a9:Int) (a10:List Int) (a11 az:Int) (ba:Bool) (a14:Ak) (bh:List Ae) (bj:Bool) (a17:List Ak):Int:=(M6 a0 a1 a2 a3 a4 a5 a6 a7 a8 a9 a10 a11 az ba a14 bh bj a17)
def VK (a0 a1 a2 a3 a4 a5 a6 a7 a8 a9:Int) (a10:List Int) (a11 az:Int) (ba:Bool) (a14:Ak) (bh:List Ae) (bj:Bool) (a17:List Ak):Int:=(M7 a0 a1 a2 a3 a4 a5 a6 a7 a8 a9 a10 a11 az ba a14 bh bj a17)
def VL (a0 a1 a2 a3 a4 a5 a6 a7 a8 a9:Int) (a10:List Int) (a11 az:Int) (ba:Bool) (a14:Ak) (bh:List Ae) (bj:Bool) (a17:List Ak):Int:=(M8 a0 a1 a2 a3 a4 a5 a6 a7 a8 a9 a10 a11 az ba a14 bh bj a17)
def VM (a0 a1 a2 a3 a4 a5 a6 a7 a8 a9:Int) (a10:List Int) (a11 az:Int) (ba:Bool) (a14:Ak) (bh:List Ae) (bj:Bool) (a17:List Ak):List Int:=(Qa a0 a1 a2 a3 a4 a5 a6 a7 a8 a9 a10 a11 az ba a14 bh bj a17)
def VN (a0 a1 a2 a3 a4 a5 a6 a7 a8 a9:Int) (a10:List Int) (a11 az:Int) (ba:Bool) (a14:Ak) (bh:List Ae) (bj:Bool) (a17:List Ak):Int:=(M9 a0 a1 a2 a3 a4 a5 a6 a7 a8 a9 a10 a11 az ba a14 bh bj a17)
def VO (a0 a1 a2 a3 a4 a5 a6 a7 a8 a9:Int) (a10:List Int) (a11 az:Int) (ba:Bool) (a14:Ak) (bh:List Ae) (bj:Bool) (a17:List Ak):Int:=(Na a0 a1 a2 a3 a4 a5 a6 a7 a8 a9 a10 a11 az ba a14 bh bj a17)
def VP (a0 a1 a2 a3 a4 a5 a6 a7 a8 a9:Int) (a10:List Int) (a11 az:Int) (ba:Bool) (a14:Ak) (bh:List Ae) (bj:Bool) (a17:List Ak):Bool:=(Nb a0 a1 a2 a3 a4 a5 a6 a7 a8 a9 a10 a11 az ba a14 bh bj a17)
def VQ (a0 a1 a2 a3 a4 a5 a6 a7 a8 a9:Int) (a10:List Int) (a11 az:Int) (ba:Bool) (a14:Ak) (bh:List Ae) (bj:Bool) (a17:List Ak):List Ak:=(P9 a0 a1 a2 a3 a4 a5 a6 a7 a8 a9 a10 a11 az ba a14 bh bj a17)
def Hr:JQ→JQ
  |(a0,a1,a2,a3,a4,a5,a6,a7,a8,a9,a10,a11,az,ba,a14,bh,bj,a17)=>(Yz a0 a1 a2 a3 a4 a5 a6 a7 a8 a9 a10 a11 az ba a14 bh bj a17,YA a0 a1 a2 a3 a4 a5 a6 a7 a8 a9 a10 a11 az ba a14 bh bj a17,YB a0 a1 a2 a3 a4 a5 a6 a7 a8 a9 a10 a11 az ba a14 bh bj a17,YC a0 a1 a2 a3 a4 a5 a6 a7 a8 a9 a10 a11 az ba a14 bh bj a17,YD a0 a1 a2 a3 a4 a5 a6 a7 a8 a9 a10 a11 az ba a14 bh bj a17,YE a0 a1 a2 a3 a4 a5 a6 a7 a8 a9 a10 a11 az ba a14 bh bj a17,YF a0 a1 a2 a3 a4 a5 a6 a7 a8 a9 a10 a11 az ba a14 bh bj a17,YG a0 a1 a2 a3 a4 a5 a6 a7 a8 a9 a10 a11 az ba a14 bh bj a17,YH a0 a1 a2 a3 a4 a5 a6 a7 a8 a9 a10 a11 az ba a14 bh bj a17,YI a0 a1 a2 a3 a4 a5 a6 a7 a8 a9 a10 a11 az ba a14 bh bj a17,Vw a0 a1 a2 a3 a4 a5 a6 a7 a8 a9 a10 a11 az ba a14 bh bj a17,Vx a0 a1 a2 a3 a4 a5 a6 a7 a8 a9 a10 a11 az ba a14 bh bj a17,Vy a0 a1 a2 a3 a4 a5 a6 a7 a8 a9 a10 a11 az ba a14 bh bj a17,Vz a0 a1 a2 a3 a4 a5 a6 a7 a8 a9 a10 a11 az ba a14 bh bj a17,VA a0 a1 a2 a3 a4 a5 a6 a7 a8 a9 a10 a11 az ba a14 bh bj a17,bh,bj,VB a0 a1 a2 a3 a4 a5 a6 a7 a8 a9 a10 a11 az ba a14 bh bj a17)
def Jr:JQ→DB
  |(a0,a1,a2,a3,a4,a5,a6,a7,a8,a9,a10,a11,az,ba,a14,bh,bj,a17)=>some (Awg a0 a1 a2 a3 a4 a5 a6 a7 a8 a9 a10 a11 az ba a14 bh bj a17)
def Akr:JQ→List Prop
  |(a0,a1,a2,a3,a4,a5,a6,a7,a8,a9,a10,a11,az,ba,a14,bh,bj,a17)=>[((As a0 a1 a2 a3 a4 a5 a6 a7 a8 a9 a10 a11 az ba a14 bh bj a17)=true→(0:Int)≤0∧(0:Int)≤32∧32≤(a14.length:Int)),((As a0 a1 a2 a3 a4 a5 a6 a7 a8 a9 a10 a11 az ba a14 bh bj a17)=true→32≤(List.take 32 (List.drop 0 a14)).length),((As a0 a1 a2 a3 a4 a5 a6 a7 a8 a9 a10 a11 az ba a14 bh bj a17)=true→Ai (a17.length+1)),((As a0 a1 a2 a3 a4 a5 a6 a7 a8 a9 a10 a11 az ba a14 bh bj a17)=true→0≤(Nc a0 a1 a2 a3 a4 a5 a6 a7 a8 a9 a10 a11 az ba a14 bh bj a17)∧(Nc a0 a1 a2 a3 a4 a5 a6 a7 a8 a9 a10 a11 az ba a14 bh bj a17) <256),((As a0 a1 a2 a3 a4 a5 a6 a7 a8 a9 a10 a11 az ba a14 bh bj a17)=true→0≤(Nd a0 a1 a2 a3 a4 a5 a6 a7 a8 a9 a10 a11 az ba a14 bh bj a17)∧(Nd a0 a1 a2 a3 a4 a5 a6 a7 a8 a9 a10 a11 az ba a14 bh bj a17) <256),((As a0 a1 a2 a3 a4 a5 a6 a7 a8 a9 a10 a11 az ba a14 bh bj a17)=true→0≤(Nf a0 a1 a2 a3 a4 a5 a6 a7 a8 a9 a10 a11 az ba a14 bh bj a17)∧(Nf a0 a1 a2 a3 a4 a5 a6 a7 a8 a9 a10 a11 az ba a14 bh bj a17) <256),((As a0 a1 a2 a3 a4 a5 a6 a7 a8 a9 a10 a11 az ba a14 bh bj a17)=true→0≤(Ng a0 a1 a2 a3 a4 a5 a6 a7 a8 a9 a10 a11 az ba a14 bh bj a17)∧(Ng a0 a1 a2 a3 a4 a5 a6 a7 a8 a9 a10 a11 az ba a14 bh bj a17) <256),((As a0 a1 a2 a3 a4 a5 a6 a7 a8 a9 a10 a11 az ba a14 bh bj a17)=true→0≤(Nh a0 a1 a2 a3 a4 a5 a6 a7 a8 a9 a10 a11 az ba a14 bh bj a17)∧(Nh a0 a1 a2 a3 a4 a5 a6 a7 a8 a9 a10 a11 az ba a14 bh bj a17) <256),((As a0 a1 a2 a3 a4 a5 a6 a7 a8 a9 a10 a11 az ba a14 bh bj a17)=true→0≤(Ni a0 a1 a2 a3 a4 a5 a6 a7 a8 a9 a10 a11 az ba a14 bh bj a17)∧(Ni a0 a1 a2 a3 a4 a5 a6 a7 a8 a9 a10 a11 az ba a14 bh bj a17) <256),((As a0 a1 a2 a3 a4 a5 a6 a7 a8 a9 a10 a11 az ba a14 bh bj a17)=true→0≤(Nj a0 a1 a2 a3 a4 a5 a6 a7 a8 a9 a10 a11 az ba a14 bh bj a17)∧(Nj a0 a1 a2 a3 a4 a5 a6 a7 a8 a9 a10 a11 az ba a14 bh bj a17) <256),((As a0 a1 a2 a3 a4 a5 a6 a7 a8 a9 a10 a11 az ba a14 bh bj a17)=true→0≤(Nk a0 a1 a2 a3 a4 a5 a6 a7 a8 a9 a10 a11 az ba a14 bh bj a17)∧(Nk a0 a1 a2 a3 a4 a5 a6 a7 a8 a9 a10 a11 az ba a14 bh bj a17) <256),((As a0 a1 a2 a3 a4 a5 a6 a7 a8 a9 a10 a11 az ba a14 bh bj a17)=true→0≤(Nl a0 a1 a2 a3 a4 a5 a6 a7 a8 a9 a10 a11 az ba a14 bh bj a17)∧(Nl a0 a1 a2 a3 a4 a5 a6 a7 a8 a9 a10 a11 az ba a14 bh bj a17) <256),((As a0 a1 a2 a3 a4 a5 a6 a7 a8 a9 a10 a11 az ba a14 bh bj a17)=true→0≤(Nn a0 a1 a2 a3 a4 a5 a6 a7 a8 a9 a10 a11 az ba a14 bh bj a17)∧(Nn a0 a1 a2 a3 a4 a5 a6 a7 a8 a9 a10 a11 az ba a14 bh bj a17) <256),((As a0 a1 a2 a3 a4 a5 a6 a7 a8 a9 a10 a11 az ba a14 bh bj a17)=true→0≤(No a0 a1 a2 a3 a4 a5 a6 a7 a8 a9 a10 a11 az ba a14 bh bj a17)∧(No a0 a1 a2 a3 a4 a5 a6 a7 a8 a9 a10 a11 az ba a14 bh bj a17) <256),((As a0 a1 a2 a3 a4 a5 a6 a7 a8 a9 a10 a11 az ba a14 bh bj a17)=true→0≤(Np a0 a1 a2 a3 a4 a5 a6 a7 a8 a9 a10 a11 az ba a14 bh bj a17)∧(Np a0 a1 a2 a3 a4 a5 a6 a7 a8 a9 a10 a11 az ba a14 bh bj a17) <256),((As a0 a1 a2 a3 a4 a5 a6 a7 a8 a9 a10 a11 az ba a14 bh bj a17)=true→0≤(Nq a0 a1 a2 a3 a4 a5 a6 a7 a8 a9 a10 a11 az ba a14 bh bj a17)∧(Nq a0 a1 a2 a3 a4 a5 a6 a7 a8 a9 a10 a11 az ba a14 bh bj a17) <256),((As a0 a1 a2 a3 a4 a5 a6 a7 a8 a9 a10 a11 az ba a14 bh bj a17)=true→0≤(Nr a0 a1 a2 a3 a4 a5 a6 a7 a8 a9 a10 a11 az ba a14 bh bj a17)∧(Nr a0 a1 a2 a3 a4 a5 a6 a7 a8 a9 a10 a11 az ba a14 bh bj a17) <256),((As a0 a1 a2 a3 a4 a5 a6 a7 a8 a9 a10 a11 az ba a14 bh bj a17)=true→0≤(Ns a0 a1 a2 a3 a4 a5 a6 a7 a8 a9 a10 a11 az ba a14 bh bj a17)∧(Ns a0 a1 a2 a3 a4 a5 a6 a7 a8 a9 a10 a11 az ba a14 bh bj a17) <256),((As a0 a1 a2 a3 a4 a5 a6 a7 a8 a9 a10 a11 az ba a14 bh bj a17)=true→0≤(Nt a0 a1 a2 a3 a4 a5 a6 a7 a8 a9 a10 a11 az ba a14 bh bj a17)∧(Nt a0 a1 a2 a3 a4 a5 a6 a7 a8 a9 a10 a11 az ba a14 bh bj a17) <256),((As a0 a1 a2 a3 a4 a5 a6 a7 a8 a9 a10 a11 az ba a14 bh bj a17)=true→0≤(Nu a0 a1 a2 a3 a4 a5 a6 a7 a8 a9 a10 a11 az ba a14 bh bj a17)∧(Nu a0 a1 a2 a3 a4 a5 a6 a7 a8 a9 a10 a11 az ba a14 bh bj a17) <256),((As a0 a1 a2 a3 a4 a5 a6 a7 a8 a9 a10 a11 az ba a14 bh bj a17)=true→0≤(Nv a0 a1 a2 a3 a4 a5 a6 a7 a8 a9 a10 a11 az ba a14 bh bj a17)∧(Nv a0 a1 a2 a3 a4 a5 a6 a7 a8 a9 a10 a11 az ba a14 bh bj a17) <256),((As a0 a1 a2 a3 a4 a5 a6 a7 a8 a9 a10 a11 az ba a14 bh bj a17)=true→0≤(Nw a0 a1 a2 a3 a4 a5 a6 a7 a8 a9 a10 a11 az ba a14 bh bj a17)∧(Nw a0 a1 a2 a3 a4 a5 a6 a7 a8 a9 a10 a11 az ba a14 bh bj a17) <256),((As a0 a1 a2 a3 a4 a5 a6 a7 a8 a9 a10 a11 az ba a14 bh bj a17)=true→0≤(Ny a0 a1 a2 a3 a4 a5 a6 a7 a8 a9 a10 a11 az ba a14 bh bj a17)∧(Ny a0 a1 a2 a3 a4 a5 a6 a7 a8 a9 a10 a11 az ba a14 bh bj a17) <256),((As a0 a1 a2 a3 a4 a5 a6 a7 a8 a9 a10 a11 az ba a14 bh bj a17)=true→0≤(Nz a0 a1 a2 a3 a4 a5 a6 a7 a8 a9 a10 a11 az ba a14 bh bj a17)∧(Nz a0 a1 a2 a3 a4 a5 a6 a7 a8 a9 a10 a11 az ba a14 bh bj a17) <256),((As a0 a1 a2 a3 a4 a5 a6 a7 a8 a9 a10 a11 az ba a14 bh bj a17)=true→0≤(NA a0 a1 a2 a3 a4 a5 a6 a7 a8 a9 a10 a11 az ba a14 bh bj a17)∧(NA a0 a1 a2 a3 a4 a5 a6 a7 a8 a9 a10 a11 az ba a14 bh bj a17) <256),((As a0 a1 a2 a3 a4 a5 a6 a7 a8 a9 a10 a11 az ba a14 bh bj a17)=true→0≤(NB a0 a1 a2 a3 a4 a5 a6 a7 a8 a9 a10 a11 az ba a14 bh bj a17)∧(NB a0 a1 a2 a3 a4 a5 a6 a7 a8 a9 a10 a11 az ba a14 bh bj a17) <256),((As a0 a1 a2 a3 a4 a5 a6 a7 a8 a9 a10 a11 az ba a14 bh bj a17)=true→0≤(NC a0 a1 a2 a3 a4 a5 a6 a7 a8 a9 a10 a11 az ba a14 bh bj a17)∧(NC a0 a1 a2 a3 a4 a5 a6 a7 a8 a9 a10 a11 az ba a14 bh bj a17) <256),((As a0 a1 a2 a3 a4 a5 a6 a7 a8 a9 a10 a11 az ba a14 bh bj a17)=true→0≤(ND a0 a1 a2 a3 a4 a5 a6 a7 a8 a9 a10 a11 az ba a14 bh bj a17)∧(ND a0 a1 a2 a3 a4 a5 a6 a7 a8 a9 a10 a11 az ba a14 bh bj a17) <256),((As a0 a1 a2 a3 a4 a5 a6 a7 a8 a9 a10 a11 az ba a14 bh bj a17)=true→0≤(NE a0 a1 a2 a3 a4 a5 a6 a7 a8 a9 a10 a11 az ba a14 bh bj a17)∧(NE a0 a1 a2 a3 a4 a5 a6 a7 a8 a9 a10 a11 az ba a14 bh bj a17) <256),((As a0 a1 a2 a3 a4 a5 a6 a7 a8 a9 a10 a11 az ba a14 bh bj a17)=true→0≤(NF a0 a1 a2 a3 a4 a5 a6 a7 a8 a9 a10 a11 az ba a14 bh bj a17)∧(NF a0 a1 a2 a3 a4 a5 a6 a7 a8 a9 a10 a11 az ba a14 bh bj a17) <256),((As a0 a1 a2 a3 a4 a5 a6 a7 a8 a9 a10 a11 az ba a14 bh bj a17)=true→0≤(NG a0 a1 a2 a3 a4 a5 a6 a7 a8 a9 a10 a11 az ba a14 bh bj a17)∧(NG a0 a1 a2 a3 a4 a5 a6 a7 a8 a9 a10 a11 az ba a14 bh bj a17) <256),((As a0 a1 a2 a3 a4 a5 a6 a7 a8 a9 a10 a11 az ba a14 bh bj a17)=true→0≤(NH a0 a1 a2 a3 a4 a5 a6 a7 a8 a9 a10 a11 az ba a14 bh bj a17)∧(NH a0 a1 a2 a3 a4 a5 a6 a7 a8 a9 a10 a11 az ba a14 bh bj a17) <256),((As a0 a1 a2 a3 a4 a5 a6 a7 a8 a9 a10 a11 az ba a14 bh bj a17)=true→0≤(NI a0 a1 a2 a3 a4 a5 a6 a7 a8 a9 a10 a11 az ba a14 bh bj a17)∧(NI a0 a1 a2 a3 a4 a5 a6 a7 a8 a9 a10 a11 az ba a14 bh bj a17) <256),((As a0 a1 a2 a3 a4 a5 a6 a7 a8 a9 a10 a11 az ba a14 bh bj a17)=true→0≤(NJ a0 a1 a2 a3 a4 a5 a6 a7 a8 a9 a10 a11 az ba a14 bh bj a17)∧(NJ a0 a1 a2 a3 a4 a5 a6 a7 a8 a9 a10 a11 az ba a14 bh bj a17) <256),((As a0 a1 a2 a3 a4 a5 a6 a7 a8 a9 a10 a11 az ba a14 bh bj a17)=true→0≤(NK a0 a1 a2 a3 a4 a5 a6 a7 a8 a9 a10 a11 az ba a14 bh bj a17)∧(NK a0 a1 a2 a3 a4 a5 a6 a7 a8 a9 a10 a11 az ba a14 bh bj a17) <256),(false=false),((H4 a0 a1 a2 a3 a4 a5 a6 a7 a8 a9 a10 a11 az ba a14 bh bj a17)=true→(0:Int)≤32∧32≤(a14.length:Int)∧(a14.length:Int)≤(a14.length:Int))]
def RW:JQ→List Prop
  |(a0,a1,a2,a3,a4,a5,a6,a7,a8,a9,a10,a11,az,ba,a14,bh,bj,a17)=>[((As a0 a1 a2 a3 a4 a5 a6 a7 a8 a9 a10 a11 az ba a14 bh bj a17)=true→(0:Int)≤0∧(0:Int)≤32∧32≤(a14.length:Int)),((As a0 a1 a2 a3 a4 a5 a6 a7 a8 a9 a10 a11 az ba a14 bh bj a17)=true→32≤(List.take 32 (List.drop 0 a14)).length),((As a0 a1 a2 a3 a4 a5 a6 a7 a8 a9 a10 a11 az ba a14 bh bj a17)=true→Ai (a17.length+1)),((H4 a0 a1 a2 a3 a4 a5 a6 a7 a8 a9 a10 a11 az ba a14 bh bj a17)=true→(0:Int)≤32∧32≤(a14.length:Int)∧(a14.length:Int)≤(a14.length:Int))]
def Awi:JQ→BG
  |(a0,a1,a2,a3,a4,a5,a6,a7,a8,a9,a10,a11,az,ba,a14,bh,bj,a17)=>[(some 0,some (Awh a0 a1 a2 a3 a4 a5 a6 a7 a8 a9 a10 a11 az ba a14 bh bj a17),⟨28,13,[],[(6,some (.lp 8 3 [11] [.own 2 0] 0)),(2,some (.box 34 [.v (.int .i64 (VC a0 a1 a2 a3 a4 a5 a6 a7 a8 a9 a10 a11 az ba a14 bh bj a17)),.v (.int .i64 (VD a0 a1 a2 a3 a4 a5 a6 a7 a8 a9 a10 a11 az ba a14 bh bj a17)),.v (.int .i64 (VE a0 a1 a2 a3 a4 a5 a6 a7 a8 a9 a10 a11 az ba a14 bh bj a17)),.v (.int .i64 (VF a0 a1 a2 a3 a4 a5 a6 a7 a8 a9 a10 a11 az ba a14 bh bj a17)),.v (.int .i64 (VG a0 a1 a2 a3 a4 a5 a6 a7 a8 a9 a10 a11 az ba a14 bh bj a17)),.v (.int .i64 (VH a0 a1 a2 a3 a4 a5 a6 a7 a8 a9 a10 a11 az ba a14 bh bj a17)),.v (.int .i64 (VI a0 a1 a2 a3 a4 a5 a6 a7 a8 a9 a10 a11 az ba a14 bh bj a17)),.v (.int .i64 (VJ a0 a1 a2 a3 a4 a5 a6 a7 a8 a9 a10 a11 az ba a14 bh bj a17)),.v (.slice none 0 0),.v (.int .i64 (VK a0 a1 a2 a3 a4 a5 a6 a7 a8 a9 a10 a11 az ba a14 bh bj a17)),.v (.int .i64 (VL a0 a1 a2 a3 a4 a5 a6 a7 a8 a9 a10 a11 az ba a14 bh bj a17)),.sl .i64 (VM a0 a1 a2 a3 a4 a5 a6 a7 a8 a9 a10 a11 az ba a14 bh bj a17),.sq 12,.v (.slice none 0 0),.v (.int .i64 (VN a0 a1 a2 a3 a4 a5 a6 a7 a8 a9 a10 a11 az ba a14 bh bj a17)),.v (.int .i64 (VO a0 a1 a2 a3 a4 a5 a6 a7 a8 a9 a10 a11 az ba a14 bh bj a17)),.v (.bool (VP a0 a1 a2 a3 a4 a5 a6 a7 a8 a9 a10 a11 az ba a14 bh bj a17))])),(12,some (.arr 56 32 (.ty .digest (VQ a0 a1 a2 a3 a4 a5 a6 a7 a8 a9 a10 a11 az ba a14 bh bj a17)))),(5,some (.box 66 [.own 1 0])),(1,some (.box 68 [.sl .u8 a14,.sl .group bh,.v (.bool bj)]))]⟩)]
def Qi (x:JQ):Nat:=x.2.2.2.2.2.2.2.2.2.2.2.2.2.2.1.length/32
def C2 (x:JQ):JQ:=Bj Hr Jr (Qi x) x
theorem A56 (a0 a1 a2 a3 a4 a5 a6 a7 a8 a9:Int) (a10:List Int) (a11 az:Int) (ba:Bool) (a14:Ak) (bh:List Ae) (bj:Bool) (a17:List Ak) (hp:∀p∈RW (a0,a1,a2,a3,a4,a5,a6,a7,a8,a9,a10,a11,az,ba,a14,bh,bj,a17),p):∀p∈Akr (a0,a1,a2,a3,a4,a5,a6,a7,a8,a9,a10,a11,az,ba,a14,bh,bj,a17),p:=
  (nT hp fun hp=>nT hp fun hp=>nT hp fun hp=>Aa (by intros;exact Jo _) (Aa (by intros;exact Jo _) (Aa (by intros;exact Jo _) (Aa (by intros;exact Jo _) (Aa (by intros;exact Jo _) (Aa (by intros;exact Jo _) (Aa (by intros;exact Jo _) (Aa (by intros;exact Jo _) (Aa (by intros;exact Jo _) (Aa (by intros;exact Jo _) (Aa (by intros;exact Jo _) (Aa (by intros;exact Jo _) (Aa (by intros;exact Jo _) (Aa (by intros;exact Jo _) (Aa (by intros;exact Jo _) (Aa (by intros;exact Jo _) (Aa (by intros;exact Jo _) (Aa (by intros;exact Jo _) (Aa (by intros;exact Jo _) (Aa (by intros;exact Jo _) (Aa (by intros;exact Jo _) (Aa (by intros;exact Jo _) (Aa (by intros;exact Jo _) (Aa (by intros;exact Jo _) (Aa (by intros;exact Jo _) (Aa (by intros;exact Jo _) (Aa (by intros;exact Jo _) (Aa (by intros;exact Jo _) (Aa (by intros;exact Jo _) (Aa (by intros;exact Jo _) (Aa (by intros;exact Jo _) (Aa (by intros;exact Jo _) (Aa (by first|rfl|decide+kernel) (nT hp fun _=>An))))))))))))))))))))))))))))))))))
def A2n:=Jg (CP Al7.1 L0) (AQ Bb 53 0) Bbf Bbe Arp Qi Hr Jr RW Awi
def Azw:=WA 0 (g:=A2n) (CR (T:=Bbg) (psA:=Akr) Al7.2 A9 (u:=9) (by kernel_rfl) (by decide) (fun⟨a0,a1,a2,a3,a4,a5,a6,a7,a8,a9,a10,a11,az,ba,a14,bh,bj,a17⟩=>by kernel_rfl) (fun⟨a0,a1,a2,a3,a4,a5,a6,a7,a8,a9,a10,a11,az,ba,a14,bh,bj,a17⟩=>A56 a0 a1 a2 a3 a4 a5 a6 a7 a8 a9 a10 a11 az ba a14 bh bj a17) (fun s x h=>by unfold Arp at h;split at h<;>first|(cases h;rfl)|cases h) (fun _=>Bm (n:=28) rfl) fun _ _=>rfl) ⟨L0,A9⟩
def Am5 (a0:Ak) (a1:List Ae) (a2:Bool) (a3 a4:Int) (a5:List Int):Int:=(C2 (a3,a4,0,0,0,0,0,0,0,0,a5,0,0,false,a0,a1,a2,[])).1
def Am4 (a0:Ak) (a1:List Ae) (a2:Bool) (a3 a4:Int) (a5:List Int):Int:=(C2 (a3,a4,0,0,0,0,0,0,0,0,a5,0,0,false,a0,a1,a2,[])).2.1
def Am3 (a0:Ak) (a1:List Ae) (a2:Bool) (a3 a4:Int) (a5:List Int):Int:=(C2 (a3,a4,0,0,0,0,0,0,0,0,a5,0,0,false,a0,a1,a2,[])).2.2.1
def Am2 (a0:Ak) (a1:List Ae) (a2:Bool) (a3 a4:Int) (a5:List Int):Int:=(C2 (a3,a4,0,0,0,0,0,0,0,0,a5,0,0,false,a0,a1,a2,[])).2.2.2.1
def Am1 (a0:Ak) (a1:List Ae) (a2:Bool) (a3 a4:Int) (a5:List Int):Int:=(C2 (a3,a4,0,0,0,0,0,0,0,0,a5,0,0,false,a0,a1,a2,[])).2.2.2.2.1
def Am0 (a0:Ak) (a1:List Ae) (a2:Bool) (a3 a4:Int) (a5:List Int):Int:=(C2 (a3,a4,0,0,0,0,0,0,0,0,a5,0,0,false,a0,a1,a2,[])).2.2.2.2.2.1
def Amz (a0:Ak) (a1:List Ae) (a2:Bool) (a3 a4:Int) (a5:List Int):Int:=(C2 (a3,a4,0,0,0,0,0,0,0,0,a5,0,0,false,a0,a1,a2,[])).2.2.2.2.2.2.1
def Amy (a0:Ak) (a1:List Ae) (a2:Bool) (a3 a4:Int) (a5:List Int):Int:=(C2 (a3,a4,0,0,0,0,0,0,0,0,a5,0,0,false,a0,a1,a2,[])).2.2.2.2.2.2.2.1
def Azv (a0:Ak) (a1:List Ae) (a2:Bool) (a3 a4:Int) (a5:List Int):Int:=(C2 (a3,a4,0,0,0,0,0,0,0,0,a5,0,0,false,a0,a1,a2,[])).2.2.2.2.2.2.2.2.1
def Azu (a0:Ak) (a1:List Ae) (a2:Bool) (a3 a4:Int) (a5:List Int):Int:=(C2 (a3,a4,0,0,0,0,0,0,0,0,a5,0,0,false,a0,a1,a2,[])).2.2.2.2.2.2.2.2.2.1
def Azt (a0:Ak) (a1:List Ae) (a2:Bool) (a3 a4:Int) (a5:List Int):List Int:=(C2 (a3,a4,0,0,0,0,0,0,0,0,a5,0,0,false,a0,a1,a2,[])).2.2.2.2.2.2.2.2.2.2.1
def Azs (a0:Ak) (a1:List Ae) (a2:Bool) (a3 a4:Int) (a5:List Int):Int:=(C2 (a3,a4,0,0,0,0,0,0,0,0,a5,0,0,false,a0,a1,a2,[])).2.2.2.2.2.2.2.2.2.2.2.1
def Azr (a0:Ak) (a1:List Ae) (a2:Bool) (a3 a4:Int) (a5:List Int):Int:=(C2 (a3,a4,0,0,0,0,0,0,0,0,a5,0,0,false,a0,a1,a2,[])).2.2.2.2.2.2.2.2.2.2.2.2.1
def Azq (a0:Ak) (a1:List Ae) (a2:Bool) (a3 a4:Int) (a5:List Int):Bool:=(C2 (a3,a4,0,0,0,0,0,0,0,0,a5,0,0,false,a0,a1,a2,[])).2.2.2.2.2.2.2.2.2.2.2.2.2.1
def JP (a0:Ak) (a1:List Ae) (a2:Bool) (a3 a4:Int) (a5:List Int):Ak:=(C2 (a3,a4,0,0,0,0,0,0,0,0,a5,0,0,false,a0,a1,a2,[])).2.2.2.2.2.2.2.2.2.2.2.2.2.2.1
def Aro (a0:Ak) (a1:List Ae) (a2:Bool) (a3 a4:Int) (a5:List Int):List Ae:=(C2 (a3,a4,0,0,0,0,0,0,0,0,a5,0,0,false,a0,a1,a2,[])).2.2.2.2.2.2.2.2.2.2.2.2.2.2.2.1
def A55 (a0:Ak) (a1:List Ae) (a2:Bool) (a3 a4:Int) (a5:List Int):List Ak:=(C2 (a3,a4,0,0,0,0,0,0,0,0,a5,0,0,false,a0,a1,a2,[])).2.2.2.2.2.2.2.2.2.2.2.2.2.2.2.2.2
def Akq (a0:Ak) (a1:List Ae) (a2:Bool) (a3 a4:Int) (a5:List Int):Bool:=(C2 (a3,a4,0,0,0,0,0,0,0,0,a5,0,0,false,a0,a1,a2,[])).2.2.2.2.2.2.2.2.2.2.2.2.2.2.2.2.1
def Bgq (a0:Ak) (a1:List Ae) (a2:Bool) (a3 a4:Int) (a5:List Int):List Ak:=VQ (Am5 a0 a1 a2 a3 a4 a5) (Am4 a0 a1 a2 a3 a4 a5) (Am3 a0 a1 a2 a3 a4 a5) (Am2 a0 a1 a2 a3 a4 a5) (Am1 a0 a1 a2 a3 a4 a5) (Am0 a0 a1 a2 a3 a4 a5) (Amz a0 a1 a2 a3 a4 a5) (Amy a0 a1 a2 a3 a4 a5) (Azv a0 a1 a2 a3 a4 a5) (Azu a0 a1 a2 a3 a4 a5) (Azt a0 a1 a2 a3 a4 a5) (Azs a0 a1 a2 a3 a4 a5) (Azr a0 a1 a2 a3 a4 a5) (Azq a0 a1 a2 a3 a4 a5) (JP a0 a1 a2 a3 a4 a5) (Aro a0 a1 a2 a3 a4 a5) (Akq a0 a1 a2 a3 a4 a5) (A55 a0 a1 a2 a3 a4 a5)
def Bgr (a0:Ak) (a1:List Ae) (a2:Bool) (a3 a4:Int) (a5:List Int):Int:=VC (Am5 a0 a1 a2 a3 a4 a5) (Am4 a0 a1 a2 a3 a4 a5) (Am3 a0 a1 a2 a3 a4 a5) (Am2 a0 a1 a2 a3 a4 a5) (Am1 a0 a1 a2 a3 a4 a5) (Am0 a0 a1 a2 a3 a4 a5) (Amz a0 a1 a2 a3 a4 a5) (Amy a0 a1 a2 a3 a4 a5) (Azv a0 a1 a2 a3 a4 a5) (Azu a0 a1 a2 a3 a4 a5) (Azt a0 a1 a2 a3 a4 a5) (Azs a0 a1 a2 a3 a4 a5) (Azr a0 a1 a2 a3 a4 a5) (Azq a0 a1 a2 a3 a4 a5) (JP a0 a1 a2 a3 a4 a5) (Aro a0 a1 a2 a3 a4 a5) (Akq a0 a1 a2 a3 a4 a5) (A55 a0 a1 a2 a3 a4 a5)
def Bgs (a0:Ak) (a1:List Ae) (a2:Bool) (a3 a4:Int) (a5:List Int):Int:=VD (Am5 a0 a1 a2 a3 a4 a5) (Am4 a0 a1 a2 a3 a4 a5) (Am3 a0 a1 a2 a3 a4 a5) (Am2 a0 a1 a2 a3 a4 a5) (Am1 a0 a1 a2 a3 a4 a5) (Am0 a0 a1 a2 a3 a4 a5) (Amz a0 a1 a2 a3 a4 a5) (Amy a0 a1 a2 a3 a4 a5) (Azv a0 a1 a2 a3 a4 a5) (Azu a0 a1 a2 a3 a4 a5) (Azt a0 a1 a2 a3 a4 a5) (Azs a0 a1 a2 a3 a4 a5) (Azr a0 a1 a2 a3 a4 a5) (Azq a0 a1 a2 a3 a4 a5) (JP a0 a1 a2 a3 a4 a5) (Aro a0 a1 a2 a3 a4 a5) (Akq a0 a1 a2 a3 a4 a5) (A55 a0 a1 a2 a3 a4 a5)
def Bgt (a0:Ak) (a1:List Ae) (a2:Bool) (a3 a4:Int) (a5:List Int):Int:=VE (Am5 a0 a1 a2 a3 a4 a5) (Am4 a0 a1 a2 a3 a4 a5) (Am3 a0 a1 a2 a3 a4 a5) (Am2 a0 a1 a2 a3 a4 a5) (Am1 a0 a1 a2 a3 a4 a5) (Am0 a0 a1 a2 a3 a4 a5) (Amz a0 a1 a2 a3 a4 a5) (Amy a0 a1 a2 a3 a4 a5) (Azv a0 a1 a2 a3 a4 a5) (Azu a0 a1 a2 a3 a4 a5) (Azt a0 a1 a2 a3 a4 a5) (Azs a0 a1 a2 a3 a4 a5) (Azr a0 a1 a2 a3 a4 a5) (Azq a0 a1 a2 a3 a4 a5) (JP a0 a1 a2 a3 a4 a5) (Aro a0 a1 a2 a3 a4 a5) (Akq a0 a1 a2 a3 a4 a5) (A55 a0 a1 a2 a3 a4 a5)
def Bgu (a0:Ak) (a1:List Ae) (a2:Bool) (a3 a4:Int) (a5:List Int):Int:=VF (Am5 a0 a1 a2 a3 a4 a5) (Am4 a0 a1 a2 a3 a4 a5) (Am3 a0 a1 a2 a3 a4 a5) (Am2 a0 a1 a2 a3 a4 a5) (Am1 a0 a1 a2 a3 a4 a5) (Am0 a0 a1 a2 a3 a4 a5) (Amz a0 a1 a2 a3 a4 a5) (Amy a0 a1 a2 a3 a4 a5) (Azv a0 a1 a2 a3 a4 a5) (Azu a0 a1 a2 a3 a4 a5) (Azt a0 a1 a2 a3 a4 a5) (Azs a0 a1 a2 a3 a4 a5) (Azr a0 a1 a2 a3 a4 a5) (Azq a0 a1 a2 a3 a4 a5) (JP a0 a1 a2 a3 a4 a5) (Aro a0 a1 a2 a3 a4 a5) (Akq a0 a1 a2 a3 a4 a5) (A55 a0 a1 a2 a3 a4 a5)
def Bgv (a0:Ak) (a1:List Ae) (a2:Bool) (a3 a4:Int) (a5:List Int):Int:=VG (Am5 a0 a1 a2 a3 a4 a5) (Am4 a0 a1 a2 a3 a4 a5) (Am3 a0 a1 a2 a3 a4 a5) (Am2 a0 a1 a2 a3 a4 a5) (Am1 a0 a1 a2 a3 a4 a5) (Am0 a0 a1 a2 a3 a4 a5) (Amz a0 a1 a2 a3 a4 a5) (Amy a0 a1 a2 a3 a4 a5) (Azv a0 a1 a2 a3 a4 a5) (Azu a0 a1 a2 a3 a4 a5) (Azt a0 a1 a2 a3 a4 a5) (Azs a0 a1 a2 a3 a4 a5) (Azr a0 a1 a2 a3 a4 a5) (Azq a0 a1 a2 a3 a4 a5) (JP a0 a1 a2 a3 a4 a5) (Aro a0 a1 a2 a3 a4 a5) (Akq a0 a1 a2 a3 a4 a5) (A55 a0 a1 a2 a3 a4 a5)
def Bgw (a0:Ak) (a1:List Ae) (a2:Bool) (a3 a4:Int) (a5:List Int):Int:=VH (Am5 a0 a1 a2 a3 a4 a5) (Am4 a0 a1 a2 a3 a4 a5) (Am3 a0 a1 a2 a3 a4 a5) (Am2 a0 a1 a2 a3 a4 a5) (Am1 a0 a1 a2 a3 a4 a5) (Am0 a0 a1 a2 a3 a4 a5) (Amz a0 a1 a2 a3 a4 a5) (Amy a0 a1 a2 a3 a4 a5) (Azv a0 a1 a2 a3 a4 a5) (Azu a0 a1 a2 a3 a4 a5) (Azt a0 a1 a2 a3 a4 a5) (Azs a0 a1 a2 a3 a4 a5) (Azr a0 a1 a2 a3 a4 a5) (Azq a0 a1 a2 a3 a4 a5) (JP a0 a1 a2 a3 a4 a5) (Aro a0 a1 a2 a3 a4 a5) (Akq a0 a1 a2 a3 a4 a5) (A55 a0 a1 a2 a3 a4 a5)
def Bgx (a0:Ak) (a1:List Ae) (a2:Bool) (a3 a4:Int) (a5:List Int):Int:=VI (Am5 a0 a1 a2 a3 a4 a5) (Am4 a0 a1 a2 a3 a4 a5) (Am3 a0 a1 a2 a3 a4 a5) (Am2 a0 a1 a2 a3 a4 a5) (Am1 a0 a1 a2 a3 a4 a5) (Am0 a0 a1 a2 a3 a4 a5) (Amz a0 a1 a2 a3 a4 a5) (Amy a0 a1 a2 a3 a4 a5) (Azv a0 a1 a2 a3 a4 a5) (Azu a0 a1 a2 a3 a4 a5) (Azt a0 a1 a2 a3 a4 a5) (Azs a0 a1 a2 a3 a4 a5) (Azr a0 a1 a2 a3 a4 a5) (Azq a0 a1 a2 a3 a4 a5) (JP a0 a1 a2 a3 a4 a5) (Aro a0 a1 a2 a3 a4 a5) (Akq a0 a1 a2 a3 a4 a5) (A55 a0 a1 a2 a3 a4 a5)
def Bgy (a0:Ak) (a1:List Ae) (a2:Bool) (a3 a4:Int) (a5:List Int):Int:=VJ (Am5 a0 a1 a2 a3 a4 a5) (Am4 a0 a1 a2 a3 a4 a5) (Am3 a0 a1 a2 a3 a4 a5) (Am2 a0 a1 a2 a3 a4 a5) (Am1 a0 a1 a2 a3 a4 a5) (Am0 a0 a1 a2 a3 a4 a5) (Amz a0 a1 a2 a3 a4 a5) (Amy a0 a1 a2 a3 a4 a5) (Azv a0 a1 a2 a3 a4 a5) (Azu a0 a1 a2 a3 a4 a5) (Azt a0 a1 a2 a3 a4 a5) (Azs a0 a1 a2 a3 a4 a5) (Azr a0 a1 a2 a3 a4 a5) (Azq a0 a1 a2 a3 a4 a5) (JP a0 a1 a2 a3 a4 a5) (Aro a0 a1 a2 a3 a4 a5) (Akq a0 a1 a2 a3 a4 a5) (A55 a0 a1 a2 a3 a4 a5)
def Bgz (a0:Ak) (a1:List Ae) (a2:Bool) (a3 a4:Int) (a5:List Int):Int:=VK (Am5 a0 a1 a2 a3 a4 a5) (Am4 a0 a1 a2 a3 a4 a5) (Am3 a0 a1 a2 a3 a4 a5) (Am2 a0 a1 a2 a3 a4 a5) (Am1 a0 a1 a2 a3 a4 a5) (Am0 a0 a1 a2 a3 a4 a5) (Amz a0 a1 a2 a3 a4 a5) (Amy a0 a1 a2 a3 a4 a5) (Azv a0 a1 a2 a3 a4 a5) (Azu a0 a1 a2 a3 a4 a5) (Azt a0 a1 a2 a3 a4 a5) (Azs a0 a1 a2 a3 a4 a5) (Azr a0 a1 a2 a3 a4 a5) (Azq a0 a1 a2 a3 a4 a5) (JP a0 a1 a2 a3 a4 a5) (Aro a0 a1 a2 a3 a4 a5) (Akq a0 a1 a2 a3 a4 a5) (A55 a0 a1 a2 a3 a4 a5)
def A5y (a0:Ak) (a1:List Ae) (a2:Bool) (a3 a4:Int) (a5:List Int):Int:=VL (Am5 a0 a1 a2 a3 a4 a5) (Am4 a0 a1 a2 a3 a4 a5) (Am3 a0 a1 a2 a3 a4 a5) (Am2 a0 a1 a2 a3 a4 a5) (Am1 a0 a1 a2 a3 a4 a5) (Am0 a0 a1 a2 a3 a4 a5) (Amz a0 a1 a2 a3 a4 a5) (Amy a0 a1 a2 a3 a4 a5) (Azv a0 a1 a2 a3 a4 a5) (Azu a0 a1 a2 a3 a4 a5) (Azt a0 a1 a2 a3 a4 a5) (Azs a0 a1 a2 a3 a4 a5) (Azr a0 a1 a2 a3 a4 a5) (Azq a0 a1 a2 a3 a4 a5) (JP a0 a1 a2 a3 a4 a5) (Aro a0 a1 a2 a3 a4 a5) (Akq a0 a1 a2 a3 a4 a5) (A55 a0 a1 a2 a3 a4 a5)
def A5z (a0:Ak) (a1:List Ae) (a2:Bool) (a3 a4:Int) (a5:List Int):List Int:=VM (Am5 a0 a1 a2 a3 a4 a5) (Am4 a0 a1 a2 a3 a4 a5) (Am3 a0 a1 a2 a3 a4 a5) (Am2 a0 a1 a2 a3 a4 a5) (Am1 a0 a1 a2 a3 a4 a5) (Am0 a0 a1 a2 a3 a4 a5) (Amz a0 a1 a2 a3 a4 a5) (Amy a0 a1 a2 a3 a4 a5) (Azv a0 a1 a2 a3 a4 a5) (Azu a0 a1 a2 a3 a4 a5) (Azt a0 a1 a2 a3 a4 a5) (Azs a0 a1 a2 a3 a4 a5) (Azr a0 a1 a2 a3 a4 a5) (Azq a0 a1 a2 a3 a4 a5) (JP a0 a1 a2 a3 a4 a5) (Aro a0 a1 a2 a3 a4 a5) (Akq a0 a1 a2 a3 a4 a5) (A55 a0 a1 a2 a3 a4 a5)
def A50 (a0:Ak) (a1:List Ae) (a2:Bool) (a3 a4:Int) (a5:List Int):Int:=VN (Am5 a0 a1 a2 a3 a4 a5) (Am4 a0 a1 a2 a3 a4 a5) (Am3 a0 a1 a2 a3 a4 a5) (Am2 a0 a1 a2 a3 a4 a5) (Am1 a0 a1 a2 a3 a4 a5) (Am0 a0 a1 a2 a3 a4 a5) (Amz a0 a1 a2 a3 a4 a5) (Amy a0 a1 a2 a3 a4 a5) (Azv a0 a1 a2 a3 a4 a5) (Azu a0 a1 a2 a3 a4 a5) (Azt a0 a1 a2 a3 a4 a5) (Azs a0 a1 a2 a3 a4 a5) (Azr a0 a1 a2 a3 a4 a5) (Azq a0 a1 a2 a3 a4 a5) (JP a0 a1 a2 a3 a4 a5) (Aro a0 a1 a2 a3 a4 a5) (Akq a0 a1 a2 a3 a4 a5) (A55 a0 a1 a2 a3 a4 a5)
def A51 (a0:Ak) (a1:List Ae) (a2:Bool) (a3 a4:Int) (a5:List Int):Int:=VO (Am5 a0 a1 a2 a3 a4 a5) (Am4 a0 a1 a2 a3 a4 a5) (Am3 a0 a1 a2 a3 a4 a5) (Am2 a0 a1 a2 a3 a4 a5) (Am1 a0 a1 a2 a3 a4 a5) (Am0 a0 a1 a2 a3 a4 a5) (Amz a0 a1 a2 a3 a4 a5) (Amy a0 a1 a2 a3 a4 a5) (Azv a0 a1 a2 a3 a4 a5) (Azu a0 a1 a2 a3 a4 a5) (Azt a0 a1 a2 a3 a4 a5) (Azs a0 a1 a2 a3 a4 a5) (Azr a0 a1 a2 a3 a4 a5) (Azq a0 a1 a2 a3 a4 a5) (JP a0 a1 a2 a3 a4 a5) (Aro a0 a1 a2 a3 a4 a5) (Akq a0 a1 a2 a3 a4 a5) (A55 a0 a1 a2 a3 a4 a5)
def A52 (a0:Ak) (a1:List Ae) (a2:Bool) (a3 a4:Int) (a5:List Int):Bool:=VP (Am5 a0 a1 a2 a3 a4 a5) (Am4 a0 a1 a2 a3 a4 a5) (Am3 a0 a1 a2 a3 a4 a5) (Am2 a0 a1 a2 a3 a4 a5) (Am1 a0 a1 a2 a3 a4 a5) (Am0 a0 a1 a2 a3 a4 a5) (Amz a0 a1 a2 a3 a4 a5) (Amy a0 a1 a2 a3 a4 a5) (Azv a0 a1 a2 a3 a4 a5) (Azu a0 a1 a2 a3 a4 a5) (Azt a0 a1 a2 a3 a4 a5) (Azs a0 a1 a2 a3 a4 a5) (Azr a0 a1 a2 a3 a4 a5) (Azq a0 a1 a2 a3 a4 a5) (JP a0 a1 a2 a3 a4 a5) (Aro a0 a1 a2 a3 a4 a5) (Akq a0 a1 a2 a3 a4 a5) (A55 a0 a1 a2 a3 a4 a5)
def A53 (a0:Ak) (a1:List Ae) (a2:Bool) (a3 a4:Int) (a5:List Int):Ak:=(JP a0 a1 a2 a3 a4 a5)
def A54 (a0:Ak) (a1:List Ae) (a2:Bool) (a3 a4:Int) (a5:List Int):List Ae:=(Aro a0 a1 a2 a3 a4 a5)
def Bj2 (_a0:Ak) (_a1:List Ae) (_a2:Bool) (_a3 _a4:Int) (_a5:List Int):A:=.v (.tuple ⟨[]⟩)
def Awj (a0:Ak) (a1:List Ae) (a2:Bool) (a3 a4:Int) (a5:List Int):AJ:=[(7,some (.arr 56 32 (.ty .digest (Bgq a0 a1 a2 a3 a4 a5)))),(6,some (.lp 8 3 [11] [.own 2 0] 0)),(2,some (.box 34 [iV ((Bgr a0 a1 a2 a3 a4 a5)),iV ((Bgs a0 a1 a2 a3 a4 a5)),iV ((Bgt a0 a1 a2 a3 a4 a5)),iV ((Bgu a0 a1 a2 a3 a4 a5)),iV ((Bgv a0 a1 a2 a3 a4 a5)),iV ((Bgw a0 a1 a2 a3 a4 a5)),iV ((Bgx a0 a1 a2 a3 a4 a5)),iV ((Bgy a0 a1 a2 a3 a4 a5)),.v (.slice none 0 0),iV ((Bgz a0 a1 a2 a3 a4 a5)),iV ((A5y a0 a1 a2 a3 a4 a5)),.sl .i64 (A5z a0 a1 a2 a3 a4 a5),.sq 7,.v (.slice none 0 0),iV ((A50 a0 a1 a2 a3 a4 a5)),iV ((A51 a0 a1 a2 a3 a4 a5)),.v (.bool (A52 a0 a1 a2 a3 a4 a5))])),(5,some (.box 66 [.own 1 0])),(1,some (.box 68 [.sl .u8 (A53 a0 a1 a2 a3 a4 a5),.sl .group (A54 a0 a1 a2 a3 a4 a5),.v (.bool ((Akq a0 a1 a2 a3 a4 a5)))])),(4,none)]
def A57 (a0:Ak) (a1:List Ae) (a2:Bool) (a3 a4:Int) (a5:List Int):List Prop:=[(A3 Hr Jr RW (Qi (a3,a4,0,0,0,0,0,0,0,0,a5,0,0,false,a0,a1,a2,[])) (a3,a4,0,0,0,0,0,0,0,0,a5,0,0,false,a0,a1,a2,[]))]
theorem Bj1 (a0:Ak) (a1:List Ae) (a2:Bool) (a3 a4:Int) (a5:List Int):Ary (CP Al7.1 Azw.1) 9 53 [.yl 6,.own 5 0] 7 [(1,some (.box 68 [.sl .u8 a0,.sl .group a1,.v (.bool a2)])),(2,some (.box 34 [iV a3,iV a4,iV 0,iV 0,iV 0,iV 0,iV 0,iV 0,.v (.slice none 0 0),iV 0,iV 0,.sq 4,.v (.slice none 0 0),.v (.slice none 0 0),iV 0,iV 0,.v (.bool false)])),(4,some (.arr 3 1 (.ty .i64 a5))),(5,some (.box 66 [.own 1 0])),(6,some (.lp 8 3 [11] [.own 2 0] 0))]=some (2,Bj2 a0 a1 a2 a3 a4 a5,8,Awj a0 a1 a2 a3 a4 a5,[(AQ Bb (53:FuncId) 0=AQ Bb (53:FuncId) 0),(A3 Hr Jr RW (Qi (a3,a4,0,0,0,0,0,0,0,0,a5,0,0,false,a0,a1,a2,[])) (a3,a4,0,0,0,0,0,0,0,0,a5,0,0,false,a0,a1,a2,[]))]):=by kernel_rfl
theorem Bl1 (a0:Ak) (a1:List Ae) (a2:Bool) (a3 a4:Int) (a5:List Int) (hp:∀p∈A57 a0 a1 a2 a3 a4 a5,p):Ax Bb 53 [.yl 6,.own 5 0] 7 [(1,some (.box 68 [.sl .u8 a0,.sl .group a1,.v (.bool a2)])),(2,some (.box 34 [iV a3,iV a4,iV 0,iV 0,iV 0,iV 0,iV 0,iV 0,.v (.slice none 0 0),iV 0,iV 0,.sq 4,.v (.slice none 0 0),.v (.slice none 0 0),iV 0,iV 0,.v (.bool false)])),(4,some (.arr 3 1 (.ty .i64 a5))),(5,some (.box 66 [.own 1 0])),(6,some (.lp 8 3 [11] [.own 2 0] 0))] 2 (Bj2 a0 a1 a2 a3 a4 a5) 8 (Awj a0 a1 a2 a3 a4 a5):=
  Ty (AU Al7.2 Azw.2) (Bj1 a0 a1 a2 a3 a4 a5) (Aa rfl (nT hp fun _=>An))
end Go.Proofs.YtifkbgkbajncjaaDoor

