/- made by a program (rowgen.py): WireDecodes: for every input the law returns true, and each argument reads behind the call as it read before. -/
import Derived.Test.YtifkbgkbajncjaaGreatDoorKWdd

set_option maxRecDepth 100000
noncomputable section
namespace Go.Proofs.YtifkbgkbajncjaaGreatDoor
open Go.RowKit
theorem Ard {x y:ByteArray}:(x.toList==y.toList)=true↔x=y:=by
 rw[beq_iff_eq,ByteArray.toList_eq,ByteArray.toList_eq]
 constructor
 ·intro h
  cases x;cases y
  simpa using h
 ·rintro rfl;rfl
theorem Bjz {x:ByteArray}:(x.toList==(ByteArray.mk #[]).toList)=true↔x.size=0:=by
 rw[Ard]
 constructor
 ·rintro rfl;rfl
 ·intro h
  cases x with|mk d=>
  have:d.size=0:=h
  rw[Array.eq_empty_of_size_eq_zero this]
theorem VD (x:ByteArray):(x.toList==(ByteArray.mk #[]).toList)=(x.size==0):=by
 rw[Bool.eq_iff_iff,Bjz,beq_iff_eq]
theorem Bzs {x:ByteArray} (h:x.size=0):x=ByteArray.mk #[]:=Ard.1 (Bjz.2 h)
def Fv (c:Ax):Bool:=!(c.stamp.n==0&&c.stamp.site==0&&(c.vec.a==0&&c.vec.b==0)&&(!c.gone&&c.value.size==0))
def Gs (p:Int) (c:Ax):Bool:=
 bif p==1&&!IE c.dead||(p==2&&(c.gone||!FK c.dead)||!(p==1||p==2)) then false else
 bif !Fv c then true else HA c.stamp&&decide (0 <c.stamp.n)&&FK c.vec&&decide ((c.value.size:Int)≤64)&&!(c.gone&&!(c.value.size==0))
def JQ (c:Ax):Int:=(bif Fv c then 1 else 0)+(bif c.gone then 2 else 0)+(bif IE c.dead then 0 else 4)
def V9 (c:Ax):Ae:=(bif Fv c then X8 c.stamp++Nz c.vec++(bif c.gone then[] else Ot c.value) else[])++(bif IE c.dead then[] else Nz c.dead)
def Mx (p:Int) (c:Ax):Ae:=bif Gs p c then FO (JQ c)++V9 c else[]
def Ok:Ax:=⟨⟨0,0⟩,⟨0,0⟩,false,ByteArray.mk #[],⟨0,0⟩⟩
theorem A1r {v:BE}:IE v=true↔v=⟨0,0⟩:=by
 unfold IE
 simp only[Bool.and_eq_true,beq_iff_eq]
 constructor
 ·intro h;exact Blf h.1 h.2
 ·rintro rfl;exact⟨rfl,rfl⟩
theorem A9j {c:Ax} (h:Fv c=false):c.stamp=⟨0,0⟩∧c.vec=⟨0,0⟩∧c.gone=false∧c.value=ByteArray.mk #[]:=by
 unfold Fv at h
 simp only[Bool.not_eq_false',Bool.and_eq_true,beq_iff_eq,Bool.not_eq_true'] at h
 obtain⟨⟨⟨h1,h2⟩,h3,h4⟩,h5,h6⟩:=h
 exact⟨Als h1 h2,Blf h3 h4,h5,Bzs h6⟩
structure B4y (p:Int) (c:Ax):Prop where
 pol:p=1∨p=2
 dead:FK c.dead=true
 last:p=1→IE c.dead=true
 del:p=2→c.gone=false
 st:Fv c=true→HA c.stamp=true∧0 <c.stamp.n∧FK c.vec=true∧(c.value.size:Int)≤64∧(c.gone=true→c.value.size=0)
theorem Az7 {p:Int} {c:Ax}:Gs p c=true↔B4y p c:=by
 unfold Gs
 rw[Bool.cond_eq_ite]
 split
 ·rename_i h
  refine⟨fun h=>(by cases h),fun g=>?_⟩
  exfalso
  simp only[Bool.or_eq_true,Bool.and_eq_true,beq_iff_eq,Bool.not_eq_true'] at h
  rcases h with⟨h1,h2⟩|⟨h1,h2⟩|h1
  ·rw[g.last h1] at h2;cases h2
  ·rcases h2 with h2|h2
   ·rw[g.del h1] at h2;cases h2
   ·rw[g.dead] at h2;cases h2
  ·rcases g.pol with h|h
   ·rw[h] at h1;cases h1
   ·rw[h] at h1;cases h1
 ·rename_i h
  have hh:=Bool.eq_false_iff.2 h
  simp only[Bool.or_eq_false_iff] at hh
  obtain⟨h1,h2,h3⟩:=hh
  have hp:p=1∨p=2:=by
   have:(p==1||p==2)=true:=by
    cases hq:(p==1||p==2) with
    |true=>rfl
    |false=>rw[hq] at h3;cases h3
   simpa using this
  have base:FK c.dead=true∧(p=1→IE c.dead=true)∧(p=2→c.gone=false):=by
   rcases hp with rfl|rfl
   ·have hz:IE c.dead=true:=by
     cases hz:IE c.dead with
     |true=>rfl
     |false=>rw[hz] at h1;cases h1
    refine⟨by rw[A1r.1 hz];rfl,fun _=>hz,fun h=>by cases h⟩
   ·have:c.gone=false∧FK c.dead=true:=by
     cases hg:c.gone with
     |true=>rw[hg] at h2;cases h2
     |false=>
      cases hv:FK c.dead with
      |true=>exact⟨rfl,rfl⟩
      |false=>rw[hg,hv] at h2;cases h2
    exact⟨this.2,fun h=>(by cases h),fun _=>this.1⟩
  cases hw:Fv c with
  |false=>exact⟨fun _=>⟨hp,base.1,base.2.1,base.2.2,fun h=>by rw[hw] at h;cases h⟩,fun _=>rfl⟩
  | true=>
   rw[Bool.not_true,cond_false]
   simp only[Bool.and_eq_true,decide_eq_true_eq,Bool.not_eq_true',Bool.and_eq_false_iff,Bool.not_eq_false',beq_iff_eq]
   constructor
   ·rintro⟨⟨⟨⟨g1,g2⟩,g3⟩,g4⟩,g5⟩
    refine⟨hp,base.1,base.2.1,base.2.2,fun _=>⟨g1,g2,g3,g4,fun hg=>?_⟩⟩
    rcases g5 with g5|g5
    ·rw[g5] at hg;cases hg
    ·exact g5
   ·intro g
    obtain⟨g1,g2,g3,g4,g5⟩:=g.st hw
    refine⟨⟨⟨⟨g1,g2⟩,g3⟩,g4⟩,?_⟩
    cases hg:c.gone with
    |false=>exact .inl rfl
    |true=>exact .inr (g5 hg)
theorem Bkh {p:Int} {c:Ax} (h:Gs p c=true):Mx p c=FO (JQ c)++V9 c:=by unfold Mx;rw[h];rfl
theorem Bqy (c:Ax):okN (JQ c)∧JQ c≤7∧((JQ c).toNat / 2^0 % 2==1)=Fv c∧((JQ c).toNat / 2^1 % 2==1)=c.gone∧((JQ c).toNat / 2^2 % 2==1)=!IE c.dead:=by
 unfold JQ okN
 cases Fv c<;>cases c.gone<;>cases IE c.dead<;>decide
theorem Bqx {n:Int} {c:Ax} (h0:0≤n) (_h7:n≤7) (h1:(n.toNat / 2^0 % 2==1)=Fv c) (h2:(n.toNat / 2^1 % 2==1)=c.gone) (h3:(n.toNat / 2^2 % 2==1)=!IE c.dead):n=JQ c:=by
 unfold JQ
 rw[←h1,←h2]
 have ef:IE c.dead=!(n.toNat / 2^2 % 2==1):=by rw[h3,Bool.not_not]
 rw[ef]
 obtain⟨m,rfl⟩:∃m:Nat,n=(m:Int):=⟨n.toNat,(Int.toNat_of_nonneg h0).symm⟩
 rw[Int.toNat_natCast]
 have:m≤7:=by omega
 match m,this with
 |0,_=>rfl
 |1,_=>rfl
 |2,_=>rfl
 |3,_=>rfl
 |4,_=>rfl
 |5,_=>rfl
 |6,_=>rfl
 |7,_=>rfl
 |m+8,h=>omega
def Dm (n:Int) (k:Nat):Bool:=n.toNat / 2^k % 2==1
def ML (b:Ae):Bool×Ax×Int:=
 bif(Ad b).2.2==0&&Dm (Ad b).1 0 then
  (bif !Dm (Ad b).1 1 then
   ((Ad b).2.2==0&&(BB (b.drop (Ad b).2.1.toNat)).2.2==0&&(AB (b.drop ((Ad b).2.1+(BB (b.drop (Ad b).2.1.toNat)).2.1).toNat)).2.2==0&&(Bm (b.drop ((Ad b).2.1+(BB (b.drop (Ad b).2.1.toNat)).2.1+(AB (b.drop ((Ad b).2.1+(BB (b.drop (Ad b).2.1.toNat)).2.1).toNat)).2.1).toNat) 64).2.2==0,
    ⟨(BB (b.drop (Ad b).2.1.toNat)).1,(AB (b.drop ((Ad b).2.1+(BB (b.drop (Ad b).2.1.toNat)).2.1).toNat)).1,Dm (Ad b).1 1,(Bm (b.drop ((Ad b).2.1+(BB (b.drop (Ad b).2.1.toNat)).2.1+(AB (b.drop ((Ad b).2.1+(BB (b.drop (Ad b).2.1.toNat)).2.1).toNat)).2.1).toNat) 64).1,⟨0,0⟩⟩,
    (Ad b).2.1+(BB (b.drop (Ad b).2.1.toNat)).2.1+(AB (b.drop ((Ad b).2.1+(BB (b.drop (Ad b).2.1.toNat)).2.1).toNat)).2.1+(Bm (b.drop ((Ad b).2.1+(BB (b.drop (Ad b).2.1.toNat)).2.1+(AB (b.drop ((Ad b).2.1+(BB (b.drop (Ad b).2.1.toNat)).2.1).toNat)).2.1).toNat) 64).2.1)
  else
   ((Ad b).2.2==0&&(BB (b.drop (Ad b).2.1.toNat)).2.2==0&&(AB (b.drop ((Ad b).2.1+(BB (b.drop (Ad b).2.1.toNat)).2.1).toNat)).2.2==0,
    ⟨(BB (b.drop (Ad b).2.1.toNat)).1,(AB (b.drop ((Ad b).2.1+(BB (b.drop (Ad b).2.1.toNat)).2.1).toNat)).1,Dm (Ad b).1 1,ByteArray.mk #[],⟨0,0⟩⟩,
    (Ad b).2.1+(BB (b.drop (Ad b).2.1.toNat)).2.1+(AB (b.drop ((Ad b).2.1+(BB (b.drop (Ad b).2.1.toNat)).2.1).toNat)).2.1))
 else((Ad b).2.2==0,Ok,(Ad b).2.1)
def ZZ (b:Ae):Bool×Ax×Int:=
 bif(ML b).1&&Dm (Ad b).1 2 then((ML b).1&&(AB (b.drop (ML b).2.2.toNat)).2.2==0,{(ML b).2.1 with dead:=(AB (b.drop (ML b).2.2.toNat)).1},(ML b).2.2+(AB (b.drop (ML b).2.2.toNat)).2.1)
 else ML b
def Y1 (n:Int) (c:Ax):Bool:=decide (n≤7)&&Dm n 0==Fv c&&Dm n 1==c.gone&&Dm n 2==!IE c.dead
def IF (b:Ae) (p:Int):Ax×Int×Int:=
 bif !(ZZ b).1||!Y1 (Ad b).1 (ZZ b).2.1||!Gs p (ZZ b).2.1 then(Ok,0,80) else((ZZ b).2.1,(ZZ b).2.2,0)
theorem Af5 {b r p:Ae} {k j:Int} (h:b.drop k.toNat=p++r) (_hk:0≤k) (_hj:j=(p.length:Int)):b.drop (k+j).toNat=r:=by
 have e:(k+j).toNat=k.toNat+p.length:=by omega
 rw[e,←List.drop_drop,h,List.drop_left]
theorem ZT {α:Type} {get:Ae→α×Int×Int} {good:α→Prop} {put:α→Ae} (R:Rd get good put) {b:Ae} {k:Int} (hk:0≤k) (h:(get (b.drop k.toNat)).2.2=0):
  good (get (b.drop k.toNat)).1∧(get (b.drop k.toNat)).2.1=((put (get (b.drop k.toNat)).1).length:Int)∧∃r,b.drop k.toNat=put (get (b.drop k.toNat)).1++r∧b.drop (k+(get (b.drop k.toNat)).2.1).toNat=r:=by
 obtain⟨h1,h2,r,h3⟩:=R.front (b.drop k.toNat) (get (b.drop k.toNat)).1 (get (b.drop k.toNat)).2.1 (by rw[←h])
 exact⟨h1,h2,r,h3,Af5 h3 hk h2⟩
theorem B20 {b:Ae} (h:(ML b).1=true):okN (Ad b).1∧0≤(ML b).2.2∧
  (ML b).2.2=((FO (Ad b).1++(bif Dm (Ad b).1 0 then X8 (ML b).2.1.stamp++Nz (ML b).2.1.vec++(bif Dm (Ad b).1 1 then[] else Ot (ML b).2.1.value) else[])).length:Int)∧
  b=FO (Ad b).1++(bif Dm (Ad b).1 0 then X8 (ML b).2.1.stamp++Nz (ML b).2.1.vec++(bif Dm (Ad b).1 1 then[] else Ot (ML b).2.1.value) else[])++b.drop (ML b).2.2.toNat∧
  (ML b).2.1.dead=⟨0,0⟩:=by
 have he:(Ad b).2.2=0:=by
  unfold ML at h
  rw[Bool.cond_eq_ite] at h
  split at h
  ·rename_i h1
   simp only[Bool.and_eq_true,beq_iff_eq] at h1
   exact h1.1
  ·simpa using h
 obtain⟨r0,h1,h2,h3⟩:=ZC he
 have ar:0≤(Ad b).2.1:=by rw[h2];omega
 have f9:b.drop (Ad b).2.1.toNat=r0:=by
  generalize Ad b=g at*
  subst h3
  exact Ui h2
 have e0:((Ad b).2.2==(0:Int))=true:=by rw[he];rfl
 unfold ML at h⊢
 rw[e0] at h⊢
 cases b0:Dm (Ad b).1 0 with
 |false=>
  simp only[Bool.and_false,cond_false,List.append_nil]
  refine⟨h1,ar,h2,?_,rfl⟩
  rw[f9]
  exact h3
 | true=>
  rw[b0] at h
  cases b1:Dm (Ad b).1 1 with
  | true=>
   rw[b1] at h
   simp only[Bool.and_true,cond_true,Bool.not_true,cond_false,Bool.true_and,Bool.and_eq_true,beq_iff_eq,List.append_nil] at h⊢
   obtain⟨s1,s2,r1,s3,s4⟩:=ZT rdS ar h.1
   have dj:0≤(Ad b).2.1+(BB (b.drop (Ad b).2.1.toNat)).2.1:=by omega
   obtain⟨v1,v2,r2,v3,v4⟩:=ZT rdV dj h.2
   refine⟨h1,by omega,?_,?_,trivial⟩
   ·rw[List.length_append,List.length_append];omega
   ·rw[v4]
    rw[s4] at v3
    rw[f9] at s3
    conv=>lhs;rw[h3,s3,v3]
    rw[s4,f9]
    simp only[List.append_assoc]
  | false=>
   rw[b1] at h
   simp only[Bool.and_true,cond_true,Bool.not_false,cond_false,Bool.true_and,Bool.and_eq_true,beq_iff_eq] at h⊢
   obtain⟨s1,s2,r1,s3,s4⟩:=ZT rdS ar h.1.1
   have dj:0≤(Ad b).2.1+(BB (b.drop (Ad b).2.1.toNat)).2.1:=by omega
   obtain⟨v1,v2,r2,v3,v4⟩:=ZT rdV dj h.1.2
   have cy:0≤(Ad b).2.1+(BB (b.drop (Ad b).2.1.toNat)).2.1+(AB (b.drop ((Ad b).2.1+(BB (b.drop (Ad b).2.1.toNat)).2.1).toNat)).2.1:=by omega
   obtain⟨t1,t2,r3,t3,t4⟩:=ZT (rdT (m:=64) (by decide)) cy h.2
   refine⟨h1,by omega,?_,?_,trivial⟩
   ·rw[List.length_append,List.length_append,List.length_append];omega
   ·rw[t4]
    rw[v4] at t3
    rw[s4] at v3
    rw[f9] at s3
    conv=>lhs;rw[h3,s3,v3,t3]
    rw[v4,s4,f9]
    simp only[List.append_assoc]
theorem Adi {b:Ae} {p:Int} {c:Ax} {k:Int} (h:IF b p=(c,k,0)):Gs p c=true∧k=((Mx p c).length:Int)∧∃r,b=Mx p c++r:=by
 unfold IF at h
 rw[Bool.cond_eq_ite] at h
 split at h
 ·injection h with e1 e2;injection e2 with e2 e3;cases e3
 ·rename_i hc
  have hc:=Bool.eq_false_iff.2 hc
  simp only[Bool.or_eq_false_iff,Bool.not_eq_false'] at hc
  obtain⟨⟨hB,hR⟩,hG⟩:=hc
  injection h with e1 e2
  injection e2 with e2 e3
  rw[e1] at hR hG
  refine⟨hG,?_⟩
  rw[Bkh hG]
  unfold Y1 at hR
  simp only[Bool.and_eq_true,beq_iff_eq,decide_eq_true_eq] at hR
  obtain⟨⟨⟨r7,r0⟩,r1⟩,r2⟩:=hR
  have hA:(ML b).1=true:=by
   unfold ZZ at hB
   rw[Bool.cond_eq_ite] at hB
   split at hB
   ·simp only[Bool.and_eq_true] at hB;exact hB.1
   ·exact hB
  obtain⟨a1,a2,a3,a4,a5⟩:=B20 hA
  have hn:=Bqx a1.1 r7 r0 r1 r2
  unfold ZZ at e1 e2 hB
  rw[hA] at e1 e2 hB
  unfold V9
  rw[←hn,←r0,←r1]
  have hz:IE c.dead=!Dm (Ad b).1 2:=by rw[r2,Bool.not_not]
  rw[hz]
  cases b2:Dm (Ad b).1 2 with
  | true=>
   rw[b2] at e1 e2 hB
   simp only[Bool.and_true,cond_true,Bool.true_and,beq_iff_eq] at e1 e2 hB
   obtain⟨v1,v2,r,v3,v4⟩:=ZT rdV a2 hB
   subst e1
   simp only[Bool.not_true,cond_false]
   refine⟨?_,r,?_⟩
   ·rw[←e2,v2,a3,←List.append_assoc,List.length_append (bs:=Nz _)]
    exact(Int.natCast_add _ _).symm
   ·rw[←List.append_assoc,List.append_assoc _ _ r,←v3]
    exact a4
  |false=>
   rw[b2] at e1 e2 hB
   simp only[Bool.and_false,cond_false] at e1 e2 hB
   subst e1
   simp only[Bool.not_false,cond_true,List.append_nil]
   exact⟨by rw[←e2];exact a3,_,a4⟩
theorem Ajh {p:Int} {c:Ax} (h:Gs p c=true) (r:Ae):IF (Mx p c++r) p=(c,((Mx p c).length:Int),0):=by
 have g:=Az7.1 h
 obtain⟨f1,f2,f3,f4,f5⟩:=Bqy c
 rw[Bkh h]
 generalize hb:FO (JQ c)++V9 c++r=b
 have hN:Ad b=(JQ c,((FO (JQ c)).length:Int),0):=by rw[←hb,List.append_assoc];exact rdN.back _ _ f1
 have f9:b.drop (Ad b).2.1.toNat=V9 c++r:=by
  rw[hN,←hb,List.append_assoc]
  exact Ui rfl
 have e0:((Ad b).2.2==(0:Int))=true:=by rw[hN];rfl
 have q0:Dm (Ad b).1 0=Fv c:=by rw[hN];exact f3
 have q1:Dm (Ad b).1 1=c.gone:=by rw[hN];exact f4
 have q2:Dm (Ad b).1 2=!IE c.dead:=by rw[hN];exact f5
 have ar:(Ad b).2.1=((FO (JQ c)).length:Int):=by rw[hN]
 have hA:ML b=(true,{c with dead:=⟨0,0⟩},((FO (JQ c)++(bif Fv c then X8 c.stamp++Nz c.vec++(bif c.gone then[] else Ot c.value) else[])).length:Int))∧
   b.drop (ML b).2.2.toNat=(bif IE c.dead then[] else Nz c.dead)++r:=by
  unfold ML
  rw[e0,q0,q1]
  cases hw:Fv c with
  | false=>
   simp only[Bool.and_false,cond_false,List.append_nil]
   obtain⟨w1,w2,w3,w4⟩:=A9j hw
   refine⟨?_,?_⟩
   ·unfold Ok
    rw[w1,w2,w3,w4,ar]
   ·rw[f9]
    unfold V9
    rw[hw]
    rfl
  | true=>
   obtain⟨g1,g2,g3,g4,g5⟩:=g.st hw
   have nv:V9 c=X8 c.stamp++(Nz c.vec++((bif c.gone then[] else Ot c.value)++(bif IE c.dead then[] else Nz c.dead))):=by
    unfold V9
    rw[hw]
    simp only[cond_true,List.append_assoc]
   rw[nv,List.append_assoc,List.append_assoc] at f9
   have hS:BB (b.drop (Ad b).2.1.toNat)=(c.stamp,((X8 c.stamp).length:Int),0):=by rw[f9];exact rdS.back _ _ g1
   have qc:0≤(Ad b).2.1:=by omega
   have l6:b.drop ((Ad b).2.1+(BB (b.drop (Ad b).2.1.toNat)).2.1).toNat=Nz c.vec++((bif c.gone then[] else Ot c.value)++(bif IE c.dead then[] else Nz c.dead)++r):=Af5 f9 qc (by rw[hS])
   have hV:AB (b.drop ((Ad b).2.1+(BB (b.drop (Ad b).2.1.toNat)).2.1).toNat)=(c.vec,((Nz c.vec).length:Int),0):=by rw[l6];exact rdV.back _ _ g3
   have d7:0≤(Ad b).2.1+(BB (b.drop (Ad b).2.1.toNat)).2.1:=by rw[hS];show 0≤(Ad b).2.1+((X8 c.stamp).length:Int);omega
   have jv:b.drop ((Ad b).2.1+(BB (b.drop (Ad b).2.1.toNat)).2.1+(AB (b.drop ((Ad b).2.1+(BB (b.drop (Ad b).2.1.toNat)).2.1).toNat)).2.1).toNat=(bif c.gone then[] else Ot c.value)++(bif IE c.dead then[] else Nz c.dead)++r:=Af5 l6 d7 (by rw[hV])
   cases hg:c.gone with
   |true=>
    rw[hg] at jv
    simp only[Bool.and_true,cond_true,Bool.not_true,cond_false,List.append_nil]
    rw[jv,hV,hS,ar]
    refine⟨?_,rfl⟩
    have hv:c.value=ByteArray.mk #[]:=Bzs (g5 hg)
    rw[List.length_append,List.length_append,←hv,←hg]
    simp only[beq_self_eq_true,Bool.and_true,Prod.mk.injEq,true_and]
    omega
   |false=>
    rw[hg] at jv
    simp only[Bool.and_true,cond_true,Bool.not_false,cond_false]
    have i9:=jv
    simp only[cond_false,List.append_assoc] at i9
    have hT:=(rdT (m:=64) (by decide)).back c.value ((bif IE c.dead then[] else Nz c.dead)++r) g4
    have fi:0≤(Ad b).2.1+(BB (b.drop (Ad b).2.1.toNat)).2.1+(AB (b.drop ((Ad b).2.1+(BB (b.drop (Ad b).2.1.toNat)).2.1).toNat)).2.1:=by rw[hV];show 0≤(Ad b).2.1+(BB (b.drop (Ad b).2.1.toNat)).2.1+((Nz c.vec).length:Int);omega
    have ug:Bm (b.drop ((Ad b).2.1+(BB (b.drop (Ad b).2.1.toNat)).2.1+(AB (b.drop ((Ad b).2.1+(BB (b.drop (Ad b).2.1.toNat)).2.1).toNat)).2.1).toNat) 64=(c.value,((Ot c.value).length:Int),0):=by rw[i9];exact hT
    have xi:=Af5 i9 fi (j:=(Bm (b.drop ((Ad b).2.1+(BB (b.drop (Ad b).2.1.toNat)).2.1+(AB (b.drop ((Ad b).2.1+(BB (b.drop (Ad b).2.1.toNat)).2.1).toNat)).2.1).toNat) 64).2.1) (by rw[ug])
    rw[xi]
    refine⟨?_,rfl⟩
    rw[ug,hV,hS,ar,List.length_append,List.length_append,List.length_append,←hg]
    simp only[beq_self_eq_true,Bool.and_true,Prod.mk.injEq,true_and]
    omega
 obtain⟨ub,uc⟩:=hA
 have hB:ZZ b=(true,c,((FO (JQ c)++V9 c).length:Int)):=by
  unfold ZZ
  rw[q2]
  cases hz:IE c.dead with
  |true=>
   rw[ub]
   simp only[Bool.not_true,Bool.and_false,cond_false]
   unfold V9
   rw[hz,←A1r.1 hz]
   simp only[cond_true,List.append_nil]
  |false=>
   rw[hz] at uc
   have hV:AB (b.drop (ML b).2.2.toNat)=(c.dead,((Nz c.dead).length:Int),0):=by rw[uc];exact rdV.back _ _ g.dead
   rw[hV,ub]
   simp only[Bool.not_false,Bool.and_true,cond_true,beq_self_eq_true]
   unfold V9
   rw[hz]
   simp only[cond_false,←List.append_assoc]
   rw[List.length_append (bs:=Nz c.dead)]
   simp only[Prod.mk.injEq,true_and]
   exact(Int.natCast_add _ _).symm
 unfold IF
 have hr:Y1 (Ad b).1 c=true:=by
  unfold Y1
  rw[q0,q1,q2]
  have:decide ((Ad b).1≤7)=true:=decide_eq_true (by rw[hN];exact f2)
  rw[this]
  simp
 rw[hB]
 simp only[hr,h]
 rfl
theorem Bq2 (b:Ae) (p:Int):(IF b p).2.2=0∨IF b p=(Ok,0,80):=by
 unfold IF
 rw[Bool.cond_eq_ite]
 split
 ·exact .inr rfl
 ·exact .inl rfl
theorem Az6 {b:Ae} {p:Int} {x:Ax×Int×Int} (h1:x.2.2=0→Gs p x.1=true∧x.2.1=((Mx p x.1).length:Int)∧∃r,b=Mx p x.1++r) (h2:x.2.2≠0→x=(Ok,0,80)∧∀c r,Gs p c=true→b≠Mx p c++r):x=IF b p:=by
 by_cases hx:x.2.2=0
 ·obtain⟨g1,g2,r,g3⟩:=h1 hx
  have:=Ajh g1 r
  rw[←g3] at this
  rw[this,←g2,←hx]
 ·obtain⟨g1,g2⟩:=h2 hx
  rcases Bq2 b p with he|he
  ·obtain⟨k1,k2,r,k3⟩:=Adi (b:=b) (p:=p) (c:=(IF b p).1) (k:=(IF b p).2.1) (by rw[←he])
   exact absurd k3 (g2 _ _ k1)
  ·rw[he,g1]
theorem Awe (n:Int):Pg n=(n==1||n==2):=by
 unfold Pg Rt
 cases n==1<;>cases n==2<;>rfl
theorem TT (s:A1):Ga s=HA s:=by
 unfold Ga HA
 rw[Awe]
 rfl
theorem WR (x:Int):(MN x==x)=(decide (0≤x)&&decide (x≤1099511627776)):=by
 unfold MN
 rw[Bool.eq_iff_iff]
 simp only[beq_iff_eq,Bool.and_eq_true,decide_eq_true_eq]
 omega
theorem PC (v:BE):FX v=FK v:=by
 unfold FX FK
 rw[WR,WR]
theorem Adz (n:Int):(FO n).length≤8:=by
 rw[Nj]
 rcases UT n with h|⟨_,_,h⟩
 ·omega
 ·unfold szs at h;omega
theorem B2i (s:A1):(X8 s).length≤8:=by
 unfold X8
 cases HA s with
 |true=>exact Adz _
 |false=>exact Nat.zero_le _
theorem Bw1 (v:BE):(Nz v).length≤16:=by
 unfold Nz
 cases FK v with
 |true=>
  rw[cond_true,List.length_append]
  have h1:=Adz v.a
  have h2:=Adz v.b
  omega
 |false=>exact Nat.zero_le _
theorem B2j (t:ByteArray):(Ot t).length≤8+t.size:=by
 unfold Ot
 rw[List.length_append]
 have h1:=Adz (t.size:Int)
 have hs:t.data.toList.length=t.size:=Array.length_toList
 omega
def K8 (a0:Ax):Bool:=!(a0.1.1==0&&a0.1.2==0&&(a0.2.1==0&&a0.2.2==0&&(a0.3==false&&(a0.4.toList==(ByteArray.mk #[]).toList&&true))))
def Ar6 (a0:Ax):A:=.v (.bool (K8 a0))
def Aph (_a0:Ax):List Prop:=[]
theorem Ail:Gw AP 96 (Cy [.t .cell] 0 Ar6 (fun _=>[]) Aph):=Az fun a0 hp=>AN (u:=9) (Au Cb.2 AF) (by kernel_rfl) hp
def B3g:=DM Ail Cb
def RS (a0:Int) (a1:Ax):Bool:=bif bif a0==1 then !(a1.5.1==0&&a1.5.2==0) else !a0==2||(a1.3||!FX a1.5) then bif a0==1 then false else bif a0==2 then false else false else bif !K8 a1 then true else decide (a1.1.1 >0)&&Ga a1.1&&FX a1.2&&decide ((a1.4.size:Int)≤64)&&!(a1.3&&!a1.4.toList==(ByteArray.mk #[]).toList)
def Amd (a0:Int) (a1:Ax):A:=.v (.bool (RS a0 a1))
def Afv (_a0:Int) (_a1:Ax):List Prop:=[]
theorem Amc (a0:Int) (a1:Ax) (hp:∀p∈Afv a0 a1,p):An AP 94 [AA .i64 a0,AA .cell a1] 0 [] 1 (Amd a0 a1) 0 []:=AN (u:=9) (Au B3g.2 AF) (by kernel_rfl) hp
theorem Awx:Gw AP 94 (Cy [.t .i64,.t .cell] 0 Amd (fun _ _=>[]) Afv):=Az Amc
def B6x:=DM Awx B3g
theorem Wa (c:Ax):K8 c=Fv c:=by
 unfold K8 Fv
 have hg:(c.3==false)=!c.gone:=by show(c.gone==false)=!c.gone;cases c.gone<;>rfl
 rw[VD,Bool.and_true,hg]
 simp only[Bool.and_assoc]
theorem Afu (p:Int) (c:Ax):RS p c=Gs p c:=by
 unfold RS Gs IE
 rw[Wa,PC,PC,TT,VD]
 have hw:(bif !Fv c then true else decide (c.1.1 >(0:Int))&&HA c.1&&FK c.2&&decide (((c.4.size:Nat):Int)≤(64:Int))&&!(c.3&&!c.4.size==0))=bif !Fv c then true else HA c.stamp&&decide (0 <c.stamp.n)&&FK c.vec&&decide ((c.value.size:Int)≤64)&&!(c.gone&&!(c.value.size==0)):=by
  rw[Bool.and_comm (decide (c.1.1 >(0:Int)))]
 rw[hw]
 generalize (bif !Fv c then true else HA c.stamp&&decide (0 <c.stamp.n)&&FK c.vec&&decide ((c.value.size:Int)≤64)&&!(c.gone&&!(c.value.size==0)))=X
 by_cases h1:p=1
 ·subst h1
  show(bif !(c.5.1==(0:Int)&&c.5.2==(0:Int)) then false else X)=bif !(c.5.1==(0:Int)&&c.5.2==(0:Int))||false then false else X
  rw[Bool.or_false]
 ·have e1:(p==1)=false:=by simpa using h1
  rw[e1]
  by_cases h2:p=2
  ·subst h2
   show(bif c.3||!FK c.5 then false else X)=bif(c.3||!FK c.5)||false then false else X
   rw[Bool.or_false]
  ·have e2:(p==2)=false:=by simpa using h2
   rw[e2]
   rfl
abbrev B6y:=B6x
abbrev B6z:=B6y
abbrev B60:=B6z
abbrev B3i:=B60
def Og (a0:Ae):Bool:=(Ad a0).1==0
def Oe (a0:Ae):Bool:=(Ad a0).2.2 !=0
def Od (a0:Ae):Bool:=!Ga (A1.mk ((Ad a0).1.fdiv 2) (IntKind.i64.wrap (IntKind.i64.wrap (↑(BitVec.ofInt 64 (Ad a0).1 &&& BitVec.ofInt 64 1).toNat:Int)+1)))
def Th (a0:Ae):A1:=A1.mk (bif(Oe a0) then 0 else bif(Og a0) then 0 else bif(Od a0) then 0 else(Ad a0).1.fdiv 2) (bif(Oe a0) then 0 else bif(Og a0) then 0 else bif(Od a0) then 0 else IntKind.i64.wrap (IntKind.i64.wrap (↑(BitVec.ofInt 64 (Ad a0).1 &&& BitVec.ofInt 64 1).toNat:Int)+1))
def Y9 (a0:Ae):Int:=bif(Oe a0) then 0 else bif(Og a0) then(Ad a0).2.1 else bif(Od a0) then 0 else(Ad a0).2.1
def Za (a0:Ae):Int:=bif(Oe a0) then(Ad a0).2.2 else bif(Og a0) then 0 else bif(Od a0) then 11 else 0
def Zb (a0:Ae):A:=.v (.tuple ⟨[.agg ⟨[.int .i64 ((Th a0).n),.int .i64 ((Th a0).site)]⟩,.int .i64 (Y9 a0),.int .i64 (Za a0)]⟩)
def A5x (_a0:Ae):List Prop:=[]
theorem Bb6 (a0:Ae) (hp:∀p∈A5x a0,p):An AP 80 [AA .bytes a0] 0 [] 1 (Zb a0) 0 []:=AN (u:=9) (Au B3i.2 AF) (by kernel_rfl) hp
def Qj (a0:Ae):A:=.v (.tuple ⟨[.agg ⟨[.int .i64 (BB a0).1.n,.int .i64 (BB a0).1.site]⟩,.int .i64 (BB a0).2.1,.int .i64 (BB a0).2.2]⟩)
def Ab0 (_a0:Ae):List Prop:=[]
theorem A5w (b:Ae):(Th b,Y9 b,Za b)=BB b:=by
 obtain⟨_,_,_,eg,kz⟩:=AZ b
 have fx:okN (Ad b).1:=⟨eg,kz⟩
 unfold Th Y9 Za Od Oe Og BB Asm
 rw[Bu4 fx,TT,Int.fdiv_eq_ediv_of_nonneg _ (by decide)]
 by_cases he:(Ad b).2.2=0
 ·have e1:((Ad b).2.2 !=(0:Int))=false:=by rw[he];rfl
  rw[e1,if_neg (by rw[he];simp)]
  by_cases hz:(Ad b).1=0
  ·have e2:((Ad b).1==(0:Int))=true:=by rw[hz];rfl
   rw[e2,if_pos hz]
   rfl
  ·have e2:((Ad b).1==(0:Int))=false:=by simpa using hz
   rw[e2,if_neg hz]
   cases hg:HA ⟨(Ad b).1 / 2,1+(Ad b).1 % 2⟩ with
   |true=>rfl
   |false=>rfl
 ·have e1:((Ad b).2.2 !=(0:Int))=true:=by simpa using he
  rw[e1,if_pos he]
  rfl
theorem A5v (a0:Ae) (_hp:∀p∈Ab0 a0,p):An AP 80 [AA .bytes a0] 0 [] 1 (Qj a0) 0 []:=by
 have h:=Bb6 a0 Ag
 have hr:Zb a0=Qj a0:=by unfold Zb Qj;rw[←A5w]
 rw[hr] at h
 exact h
theorem Ay5:Gw AP 80 (Cy [.t .bytes] 0 Qj (fun _=>[]) Ab0):=Az A5v
def Bzy:=DM Ay5 B3i
def Nf (a0:Ae):=Ad (List.take ((a0.length:Int).toNat - 0) (List.drop 0 a0))
def J4 (a0:Ae):Bool:=(Nf a0).2.2 !=0
def Nd (a0:Ae):Int:=IntKind.i64.wrap (0+(Nf a0).2.1)
def V4 (a0:Ae):Int:=bif(J4 a0) then 0 else 0
def Rx (a0:Ae):=Ad (List.take ((a0.length:Int).toNat - (Nd a0).toNat) (List.drop (Nd a0).toNat a0))
def Rw (a0:Ae):Int:=(Rx a0).2.2
def Rv (a0:Ae):Bool:=!FX (BE.mk (Nf a0).1 (Rx a0).1)
def Ru (a0:Ae):Bool:=(J4 a0)||(Rw a0) !=0
def Z4 (a0:Ae):BE:=BE.mk (bif(Ru a0) then(V4 a0) else bif(Rv a0) then 0 else(Nf a0).1) (bif(Ru a0) then(V4 a0) else bif(Rv a0) then 0 else(Rx a0).1)
def Alw (a0:Ae):Int:=bif(Ru a0) then(V4 a0) else bif(Rv a0) then 0 else IntKind.i64.wrap ((Nd a0)+(Rx a0).2.1)
def Alx (a0:Ae):Int:=bif(Ru a0) then bif(J4 a0) then(Nf a0).2.2 else(Rw a0) else bif(Rv a0) then 11 else 0
def Z5 (a0:Ae):A:=.v (.tuple ⟨[.agg ⟨[.int .i64 ((Z4 a0).a),.int .i64 ((Z4 a0).b)]⟩,.int .i64 (Alw a0),.int .i64 (Alx a0)]⟩)
def Awl (a0:Ae):=(!(J4 a0))=true→0≤(Nd a0)∧(Nd a0)≤(a0.length:Int)∧(a0.length:Int)≤(a0.length:Int)
def Awk (a0:Ae):List Prop:=[(Awl a0)]
theorem Bhn (a0:Ae):RL (Co Bzy.1 L0) 9 82 [AA .bytes a0] 0 []=some (1,Z5 a0,0,[],[((0:Int)≤0∧0≤(a0.length:Int)∧(a0.length:Int)≤(a0.length:Int)),((!(J4 a0))=true→(0:Int)≤0∧(0:Int) <2),((!(J4 a0))=true→(0:Nat) <2),(Awl a0),((!(J4 a0))=true→(!(Rw a0) !=0)=true→(0:Int)≤1∧(1:Int) <2),((!(J4 a0))=true→(!(Rw a0) !=0)=true→(1:Nat) <2)]):=by kernel_rfl
theorem Boa (a0:Ae) (hp:∀p∈Awk a0,p):An AP 82 [AA .bytes a0] 0 [] 1 (Z5 a0) 0 []:=
  AN (Au Bzy.2 AF) (Bhn a0) (Aa (by omega) (Aa (by omega) (Aa (by omega) (nT hp fun _=>Aa (by omega) (Aa (by omega) Ag)))))
def V5 (a0:Ae):A:=.v (.tuple ⟨[.agg ⟨[.int .i64 (AB a0).1.a,.int .i64 (AB a0).1.b]⟩,.int .i64 (AB a0).2.1,.int .i64 (AB a0).2.2]⟩)
def Ao8 (_a0:Ae):List Prop:=[]
theorem BG {b:Ae} {k:Int}:List.take (((b.length:Nat):Int).toNat - k.toNat) (List.drop k.toNat b)=b.drop k.toNat:=by
 rw[Int.toNat_natCast]
 exact List.take_of_length_le (by rw[List.length_drop];exact Nat.le_refl _)
theorem Bhm (b:Ae):(∀p∈Awk b,p)∧(Z4 b,Alw b,Alx b)=AB b:=by
 obtain⟨ar,dj,cy,eg,kz⟩:=AZ b
 have e0:List.take (((b.length:Nat):Int).toNat - (0:Nat)) (List.drop (0:Nat) b)=b:=by
  simp
 have k4:Nd b=(Ad b).2.1:=by
  unfold Nd Nf
  rw[e0,i64_in (by omega)]
  omega
 refine⟨Aa (fun _=>?_) Ag,?_⟩
 ·rw[k4];omega
 ·unfold Z4 Alw Alx Ru Rv Rw V4 J4 AB Rx Nf
  rw[k4,e0,BG,PC]
  obtain⟨r8,jz,j4,u5,se⟩:=AZ (b.drop (Ad b).2.1.toNat)
  rw[i64_in (n:=(Ad b).2.1+_) (by omega)]
  by_cases he:(Ad b).2.2=0
  ·have e1:((Ad b).2.2 !=(0:Int))=false:=by rw[he];rfl
   rw[e1,if_neg (by rw[he];simp)]
   by_cases ep:(Ad (b.drop (Ad b).2.1.toNat)).2.2=0
   ·have e2:((Ad (b.drop (Ad b).2.1.toNat)).2.2 !=(0:Int))=false:=by rw[ep];rfl
    rw[e2,if_neg (by rw[ep];simp)]
    cases hg:FK ⟨(Ad b).1,(Ad (b.drop (Ad b).2.1.toNat)).1⟩ with
    |true=>rfl
    |false=>rfl
   ·have e2:((Ad (b.drop (Ad b).2.1.toNat)).2.2 !=(0:Int))=true:=by simpa using ep
    rw[e2,if_pos ep]
    rfl
  ·have e1:((Ad b).2.2 !=(0:Int))=true:=by simpa using he
   rw[e1,if_pos he]
   rfl
theorem Bhl (a0:Ae) (_hp:∀p∈Ao8 a0,p):An AP 82 [AA .bytes a0] 0 [] 1 (V5 a0) 0 []:=by
 obtain⟨h1,h2⟩:=Bhm a0
 have h:=Boa a0 h1
 have hr:Z5 a0=V5 a0:=by unfold Z5 V5;rw[←h2]
 rw[hr] at h
 exact h
theorem Ao9:Gw AP 82 (Cy [.t .bytes] 0 V5 (fun _=>[]) Ao8):=Az Bhl
def B3j:=DM Ao9 Bzy
def IY (a0:Ae):Bool:=(Ad a0).2.2 !=0
def IX (a0:Ae):Int:=IntKind.i64.wrap ((Ad a0).2.1+(Ad a0).1)
def IW (a0:Ae) (a1:Int):Bool:=decide ((Ad a0).1 >a1)
def IV (a0:Ae) (a1:Int):Bool:=(IY a0)||((IW a0 a1)||decide (IntKind.i64.wrap ((a0.length:Int) - (Ad a0).2.1) <(Ad a0).1))
def TA (a0:Ae) (a1:Int):ByteArray:=bif(IV a0 a1) then bif(IY a0) then ByteArray.mk #[] else bif(IW a0 a1) then ByteArray.mk #[] else ByteArray.mk #[] else ByteArray.mk (List.take ((IX a0).toNat - (Ad a0).2.1.toNat) (List.drop (Ad a0).2.1.toNat a0)).toArray
def TB (a0:Ae) (a1:Int):Int:=bif(IV a0 a1) then bif(IY a0) then 0 else bif(IW a0 a1) then 0 else 0 else(IX a0)
def TD (a0:Ae) (a1:Int):Int:=bif(IV a0 a1) then bif(IY a0) then(Ad a0).2.2 else bif(IW a0 a1) then 3 else 10 else 0
def TE (a0:Ae) (a1:Int):A:=.v (.tuple ⟨[.string (TA a0 a1),.int .i64 (TB a0 a1),.int .i64 (TD a0 a1)]⟩)
def XP (a0:Ae) (a1:Int):List Prop:=[((!(IV a0 a1))=true→0≤(Ad a0).2.1∧(Ad a0).2.1≤(IX a0)∧(IX a0)≤(a0.length:Int))]
theorem Axe (a0:Ae) (a1:Int) (hp:∀p∈XP a0 a1,p):An AP 108 [AA .bytes a0,AA .i64 a1] 0 [] 1 (TE a0 a1) 0 []:=AN (u:=9) (Au B3j.2 AF) (by kernel_rfl) hp
def NM (a0:Ae) (a1:Int):A:=.v (.tuple ⟨[.string (Bm a0 a1).1,.int .i64 (Bm a0 a1).2.1,.int .i64 (Bm a0 a1).2.2]⟩)
def Wl (a0:Ae) (_a1:Int):List Prop:=[Af a0.length]
theorem At0 (b:Ae) (m:Int) (hb:Af b.length):(∀p∈XP b m,p)∧(TA b m,TB b m,TD b m)=Bm b m:=by
 obtain⟨ar,dj,cy,eg,kz⟩:=AZ b
 unfold Af at hb
 have k2:IX b=(Ad b).2.1+(Ad b).1:=by
  unfold IX
  exact i64_in (by omega)
 have k0:IV b m=((Ad b).2.2 !=0||(decide ((Ad b).1 >m)||decide ((b.length:Int) - (Ad b).2.1 <(Ad b).1))):=by
  unfold IV IW IY
  rw[i64_in (by omega)]
 refine⟨Aa (fun h=>?_) Ag,?_⟩
 ·rw[k0] at h
  rw[k2]
  simp only[Bool.not_eq_true',Bool.or_eq_false_iff,decide_eq_false_iff_not] at h
  omega
 ·unfold TA TB TD IW IY Bm
  rw[k0,k2]
  by_cases he:(Ad b).2.2=0
  ·have e1:((Ad b).2.2 !=(0:Int))=false:=by rw[he];rfl
   rw[e1,if_neg (by rw[he];simp)]
   by_cases hm:(Ad b).1 >m
   ·rw[decide_eq_true hm,if_pos hm];rfl
   ·rw[decide_eq_false hm,if_neg hm]
    by_cases hc:(b.length:Int) - (Ad b).2.1 <(Ad b).1
    ·rw[decide_eq_true hc,if_pos hc];rfl
    ·rw[decide_eq_false hc,if_neg hc]
     have e3:((Ad b).2.1+(Ad b).1).toNat - (Ad b).2.1.toNat=(Ad b).1.toNat:=by omega
     rw[e3]
     rfl
  ·have e1:((Ad b).2.2 !=(0:Int))=true:=by simpa using he
   rw[e1,if_pos he]
   rfl
theorem Atz (a0:Ae) (a1:Int) (hp:∀p∈Wl a0 a1,p):An AP 108 [AA .bytes a0,AA .i64 a1] 0 [] 1 (NM a0 a1) 0 []:=by
 obtain⟨h1,h2⟩:=At0 a0 a1 (hp _ (List.mem_cons_self ..))
 have h:=Axe a0 a1 h1
 have hr:TE a0 a1=NM a0 a1:=by unfold TE NM;rw[←h2]
 rw[hr] at h
 exact h
theorem Apr:Gw AP 108 (Cy [.t .bytes,.t .i64] 0 NM (fun _ _=>[]) Wl):=Az Atz
def B3k:=DM Apr B3j
def Byj:=DM (M0 (Au B3k.2 AF) 9 118) B3k
def H0 (a0:Ae):Int:=IntKind.i64.wrap (0+(Ad a0).2.1)
def JM (a0:Ae):Int:=IntKind.i64.wrap ((H0 a0)+(BB (List.take ((a0.length:Int).toNat - (H0 a0).toNat) (List.drop (H0 a0).toNat a0))).2.1)
def HZ (a0:Ae):Int:=bif(Ad a0).2.2==0&&decide (IntKind.i64.wrap (↑(BitVec.ofInt 64 (Ad a0).1 &&& BitVec.ofInt 64 1).toNat:Int) >0) then bif !decide (IntKind.i64.wrap (↑(BitVec.ofInt 64 (Ad a0).1 &&& BitVec.ofInt 64 2).toNat:Int) >0) then(AB (List.take ((a0.length:Int).toNat - (JM a0).toNat) (List.drop (JM a0).toNat a0))).1.2 else(AB (List.take ((a0.length:Int).toNat - (JM a0).toNat) (List.drop (JM a0).toNat a0))).1.2 else 0
def JE (a0:Ae):Int:=bif(Ad a0).2.2==0&&decide (IntKind.i64.wrap (↑(BitVec.ofInt 64 (Ad a0).1 &&& BitVec.ofInt 64 1).toNat:Int) >0) then bif !decide (IntKind.i64.wrap (↑(BitVec.ofInt 64 (Ad a0).1 &&& BitVec.ofInt 64 2).toNat:Int) >0) then(AB (List.take ((a0.length:Int).toNat - (JM a0).toNat) (List.drop (JM a0).toNat a0))).1.1 else(AB (List.take ((a0.length:Int).toNat - (JM a0).toNat) (List.drop (JM a0).toNat a0))).1.1 else 0
def JD (a0:Ae):Int:=bif(Ad a0).2.2==0&&decide (IntKind.i64.wrap (↑(BitVec.ofInt 64 (Ad a0).1 &&& BitVec.ofInt 64 1).toNat:Int) >0) then bif !decide (IntKind.i64.wrap (↑(BitVec.ofInt 64 (Ad a0).1 &&& BitVec.ofInt 64 2).toNat:Int) >0) then(BB (List.take ((a0.length:Int).toNat - (H0 a0).toNat) (List.drop (H0 a0).toNat a0))).1.2 else(BB (List.take ((a0.length:Int).toNat - (H0 a0).toNat) (List.drop (H0 a0).toNat a0))).1.2 else 0
def JC (a0:Ae):Int:=bif(Ad a0).2.2==0&&decide (IntKind.i64.wrap (↑(BitVec.ofInt 64 (Ad a0).1 &&& BitVec.ofInt 64 1).toNat:Int) >0) then bif !decide (IntKind.i64.wrap (↑(BitVec.ofInt 64 (Ad a0).1 &&& BitVec.ofInt 64 2).toNat:Int) >0) then(BB (List.take ((a0.length:Int).toNat - (H0 a0).toNat) (List.drop (H0 a0).toNat a0))).1.1 else(BB (List.take ((a0.length:Int).toNat - (H0 a0).toNat) (List.drop (H0 a0).toNat a0))).1.1 else 0
def GR (a0:Ae):Int:=bif(Ad a0).2.2==0&&decide (IntKind.i64.wrap (↑(BitVec.ofInt 64 (Ad a0).1 &&& BitVec.ofInt 64 1).toNat:Int) >0) then bif !decide (IntKind.i64.wrap (↑(BitVec.ofInt 64 (Ad a0).1 &&& BitVec.ofInt 64 2).toNat:Int) >0) then 0 else 0 else 0
def JB (a0:Ae):Int:=IntKind.i64.wrap ((JM a0)+(AB (List.take ((a0.length:Int).toNat - (JM a0).toNat) (List.drop (JM a0).toNat a0))).2.1)
def GQ (a0:Ae):Bool:=bif(Ad a0).2.2==0&&decide (IntKind.i64.wrap (↑(BitVec.ofInt 64 (Ad a0).1 &&& BitVec.ofInt 64 1).toNat:Int) >0) then bif !decide (IntKind.i64.wrap (↑(BitVec.ofInt 64 (Ad a0).1 &&& BitVec.ofInt 64 2).toNat:Int) >0) then decide (IntKind.i64.wrap (↑(BitVec.ofInt 64 (Ad a0).1 &&& BitVec.ofInt 64 2).toNat:Int) >0) else decide (IntKind.i64.wrap (↑(BitVec.ofInt 64 (Ad a0).1 &&& BitVec.ofInt 64 2).toNat:Int) >0) else false
def JA (a0:Ae):ByteArray:=bif(Ad a0).2.2==0&&decide (IntKind.i64.wrap (↑(BitVec.ofInt 64 (Ad a0).1 &&& BitVec.ofInt 64 1).toNat:Int) >0) then bif !decide (IntKind.i64.wrap (↑(BitVec.ofInt 64 (Ad a0).1 &&& BitVec.ofInt 64 2).toNat:Int) >0) then(Bm (List.take ((a0.length:Int).toNat - (JB a0).toNat) (List.drop (JB a0).toNat a0)) 64).1 else ByteArray.mk #[] else ByteArray.mk #[]
def Jz (a0:Ae):Int:=bif(Ad a0).2.2==0&&decide (IntKind.i64.wrap (↑(BitVec.ofInt 64 (Ad a0).1 &&& BitVec.ofInt 64 1).toNat:Int) >0) then bif !decide (IntKind.i64.wrap (↑(BitVec.ofInt 64 (Ad a0).1 &&& BitVec.ofInt 64 2).toNat:Int) >0) then IntKind.i64.wrap ((JB a0)+(Bm (List.take ((a0.length:Int).toNat - (JB a0).toNat) (List.drop (JB a0).toNat a0)) 64).2.1) else(JB a0) else(H0 a0)
def AY (a0:Ae):Bool:=(bif(Ad a0).2.2==0&&decide (IntKind.i64.wrap (↑(BitVec.ofInt 64 (Ad a0).1 &&& BitVec.ofInt 64 1).toNat:Int) >0) then bif !decide (IntKind.i64.wrap (↑(BitVec.ofInt 64 (Ad a0).1 &&& BitVec.ofInt 64 2).toNat:Int) >0) then(Ad a0).2.2==0&&(BB (List.take ((a0.length:Int).toNat - (H0 a0).toNat) (List.drop (H0 a0).toNat a0))).2.2==0&&(AB (List.take ((a0.length:Int).toNat - (JM a0).toNat) (List.drop (JM a0).toNat a0))).2.2==0&&(Bm (List.take ((a0.length:Int).toNat - (JB a0).toNat) (List.drop (JB a0).toNat a0)) 64).2.2==0 else(Ad a0).2.2==0&&(BB (List.take ((a0.length:Int).toNat - (H0 a0).toNat) (List.drop (H0 a0).toNat a0))).2.2==0&&(AB (List.take ((a0.length:Int).toNat - (JM a0).toNat) (List.drop (JM a0).toNat a0))).2.2==0 else(Ad a0).2.2==0)&&decide (IntKind.i64.wrap (↑(BitVec.ofInt 64 (Ad a0).1 &&& BitVec.ofInt 64 4).toNat:Int) >0)
def Fx (a0:Ae) (a1:Int):Bool:=(!bif(AY a0) then(bif(Ad a0).2.2==0&&decide (IntKind.i64.wrap (↑(BitVec.ofInt 64 (Ad a0).1 &&& BitVec.ofInt 64 1).toNat:Int) >0) then bif !decide (IntKind.i64.wrap (↑(BitVec.ofInt 64 (Ad a0).1 &&& BitVec.ofInt 64 2).toNat:Int) >0) then(Ad a0).2.2==0&&(BB (List.take ((a0.length:Int).toNat - (H0 a0).toNat) (List.drop (H0 a0).toNat a0))).2.2==0&&(AB (List.take ((a0.length:Int).toNat - (JM a0).toNat) (List.drop (JM a0).toNat a0))).2.2==0&&(Bm (List.take ((a0.length:Int).toNat - (JB a0).toNat) (List.drop (JB a0).toNat a0)) 64).2.2==0 else(Ad a0).2.2==0&&(BB (List.take ((a0.length:Int).toNat - (H0 a0).toNat) (List.drop (H0 a0).toNat a0))).2.2==0&&(AB (List.take ((a0.length:Int).toNat - (JM a0).toNat) (List.drop (JM a0).toNat a0))).2.2==0 else(Ad a0).2.2==0)&&(AB (List.take ((a0.length:Int).toNat - (Jz a0).toNat) (List.drop (Jz a0).toNat a0))).2.2==0 else bif(Ad a0).2.2==0&&decide (IntKind.i64.wrap (↑(BitVec.ofInt 64 (Ad a0).1 &&& BitVec.ofInt 64 1).toNat:Int) >0) then bif !decide (IntKind.i64.wrap (↑(BitVec.ofInt 64 (Ad a0).1 &&& BitVec.ofInt 64 2).toNat:Int) >0) then(Ad a0).2.2==0&&(BB (List.take ((a0.length:Int).toNat - (H0 a0).toNat) (List.drop (H0 a0).toNat a0))).2.2==0&&(AB (List.take ((a0.length:Int).toNat - (JM a0).toNat) (List.drop (JM a0).toNat a0))).2.2==0&&(Bm (List.take ((a0.length:Int).toNat - (JB a0).toNat) (List.drop (JB a0).toNat a0)) 64).2.2==0 else(Ad a0).2.2==0&&(BB (List.take ((a0.length:Int).toNat - (H0 a0).toNat) (List.drop (H0 a0).toNat a0))).2.2==0&&(AB (List.take ((a0.length:Int).toNat - (JM a0).toNat) (List.drop (JM a0).toNat a0))).2.2==0 else(Ad a0).2.2==0)||!((decide ((Ad a0).1≤7)&&decide (IntKind.i64.wrap (↑(BitVec.ofInt 64 (Ad a0).1 &&& BitVec.ofInt 64 1).toNat:Int) >0)==K8 (Ax.mk (A1.mk (bif(AY a0) then(JC a0) else(JC a0)) (bif(AY a0) then(JD a0) else(JD a0))) (BE.mk (bif(AY a0) then(JE a0) else(JE a0)) (bif(AY a0) then(HZ a0) else(HZ a0))) (bif(AY a0) then(GQ a0) else(GQ a0)) (bif(AY a0) then(JA a0) else(JA a0)) (BE.mk (bif(AY a0) then(AB (List.take ((a0.length:Int).toNat - (Jz a0).toNat) (List.drop (Jz a0).toNat a0))).1.1 else(GR a0)) (bif(AY a0) then(AB (List.take ((a0.length:Int).toNat - (Jz a0).toNat) (List.drop (Jz a0).toNat a0))).1.2 else(GR a0))))&&decide (IntKind.i64.wrap (↑(BitVec.ofInt 64 (Ad a0).1 &&& BitVec.ofInt 64 2).toNat:Int) >0)==bif(AY a0) then(GQ a0) else(GQ a0))&&decide (IntKind.i64.wrap (↑(BitVec.ofInt 64 (Ad a0).1 &&& BitVec.ofInt 64 4).toNat:Int) >0)==!((bif(AY a0) then(AB (List.take ((a0.length:Int).toNat - (Jz a0).toNat) (List.drop (Jz a0).toNat a0))).1.1 else(GR a0))==0&&(bif(AY a0) then(AB (List.take ((a0.length:Int).toNat - (Jz a0).toNat) (List.drop (Jz a0).toNat a0))).1.2 else(GR a0))==0))||!RS a1 (Ax.mk (A1.mk (bif(AY a0) then(JC a0) else(JC a0)) (bif(AY a0) then(JD a0) else(JD a0))) (BE.mk (bif(AY a0) then(JE a0) else(JE a0)) (bif(AY a0) then(HZ a0) else(HZ a0))) (bif(AY a0) then(GQ a0) else(GQ a0)) (bif(AY a0) then(JA a0) else(JA a0)) (BE.mk (bif(AY a0) then(AB (List.take ((a0.length:Int).toNat - (Jz a0).toNat) (List.drop (Jz a0).toNat a0))).1.1 else(GR a0)) (bif(AY a0) then(AB (List.take ((a0.length:Int).toNat - (Jz a0).toNat) (List.drop (Jz a0).toNat a0))).1.2 else(GR a0))))
def Ik (a0:Ae) (a1:Int):Ax:=Ax.mk (A1.mk (bif(Fx a0 a1) then 0 else bif(AY a0) then(JC a0) else(JC a0)) (bif(Fx a0 a1) then 0 else bif(AY a0) then(JD a0) else(JD a0))) (BE.mk (bif(Fx a0 a1) then 0 else bif(AY a0) then(JE a0) else(JE a0)) (bif(Fx a0 a1) then 0 else bif(AY a0) then(HZ a0) else(HZ a0))) (bif(Fx a0 a1) then false else bif(AY a0) then(GQ a0) else(GQ a0)) (bif(Fx a0 a1) then ByteArray.mk #[] else bif(AY a0) then(JA a0) else(JA a0)) (BE.mk (bif(Fx a0 a1) then 0 else bif(AY a0) then(AB (List.take ((a0.length:Int).toNat - (Jz a0).toNat) (List.drop (Jz a0).toNat a0))).1.1 else(GR a0)) (bif(Fx a0 a1) then 0 else bif(AY a0) then(AB (List.take ((a0.length:Int).toNat - (Jz a0).toNat) (List.drop (Jz a0).toNat a0))).1.2 else(GR a0)))
def Acf (a0:Ae) (a1:Int):Int:=bif(Fx a0 a1) then 0 else bif(AY a0) then IntKind.i64.wrap ((Jz a0)+(AB (List.take ((a0.length:Int).toNat - (Jz a0).toNat) (List.drop (Jz a0).toNat a0))).2.1) else(Jz a0)
def Acg (a0:Ae) (a1:Int):Int:=bif(Fx a0 a1) then 80 else 0
def Ach (a0:Ae) (a1:Int):A:=.v (.tuple ⟨[.agg ⟨[.int .i64 ((Ik a0 a1).stamp.n),.int .i64 ((Ik a0 a1).stamp.site),.int .i64 ((Ik a0 a1).vec.a),.int .i64 ((Ik a0 a1).vec.b),.bool ((Ik a0 a1).gone),.string ((Ik a0 a1).value),.int .i64 ((Ik a0 a1).dead.a),.int .i64 ((Ik a0 a1).dead.b)]⟩,.int .i64 (Acf a0 a1),.int .i64 (Acg a0 a1)]⟩)
def Amb (a0:Ae) (_a1:Int):List Prop:=[(((Ad a0).2.2==0&&decide (IntKind.i64.wrap (↑(BitVec.ofInt 64 (Ad a0).1 &&& BitVec.ofInt 64 1).toNat:Int) >0))=true→0≤(H0 a0)∧(H0 a0)≤(a0.length:Int)∧(a0.length:Int)≤(a0.length:Int)),(((Ad a0).2.2==0&&decide (IntKind.i64.wrap (↑(BitVec.ofInt 64 (Ad a0).1 &&& BitVec.ofInt 64 1).toNat:Int) >0))=true→0≤(JM a0)∧(JM a0)≤(a0.length:Int)∧(a0.length:Int)≤(a0.length:Int)),(((Ad a0).2.2==0&&decide (IntKind.i64.wrap (↑(BitVec.ofInt 64 (Ad a0).1 &&& BitVec.ofInt 64 1).toNat:Int) >0))=true→(!decide (IntKind.i64.wrap (↑(BitVec.ofInt 64 (Ad a0).1 &&& BitVec.ofInt 64 2).toNat:Int) >0))=true→0≤(JB a0)∧(JB a0)≤(a0.length:Int)∧(a0.length:Int)≤(a0.length:Int)),(((Ad a0).2.2==0&&decide (IntKind.i64.wrap (↑(BitVec.ofInt 64 (Ad a0).1 &&& BitVec.ofInt 64 1).toNat:Int) >0))=true→(!decide (IntKind.i64.wrap (↑(BitVec.ofInt 64 (Ad a0).1 &&& BitVec.ofInt 64 2).toNat:Int) >0))=true→Af (List.take ((a0.length:Int).toNat - (JB a0).toNat) (List.drop (JB a0).toNat a0)).length),((AY a0)=true→0≤(Jz a0)∧(Jz a0)≤(a0.length:Int)∧(a0.length:Int)≤(a0.length:Int))]
theorem Bdc (a0:Ae) (a1:Int) (hp:∀p∈Amb a0 a1,p):An AP 109 [AA .bytes a0,AA .i64 a1] 0 [] 1 (Ach a0 a1) 0 []:=AN (u:=9) (Au Byj.2 AF) (by kernel_rfl) hp
def RR (a0:Ae) (a1:Int):A:=.v (.tuple ⟨[.agg ⟨[.int .i64 (IF a0 a1).1.stamp.n,.int .i64 (IF a0 a1).1.stamp.site,.int .i64 (IF a0 a1).1.vec.a,.int .i64 (IF a0 a1).1.vec.b,.bool (IF a0 a1).1.gone,.string (IF a0 a1).1.value,.int .i64 (IF a0 a1).1.dead.a,.int .i64 (IF a0 a1).1.dead.b]⟩,.int .i64 (IF a0 a1).2.1,.int .i64 (IF a0 a1).2.2]⟩)
def Aft (a0:Ae) (_a1:Int):List Prop:=[Af a0.length]
theorem Po (b:Ae):0≤(BB b).2.1∧(BB b).2.1≤(b.length:Int):=by
 obtain⟨h1,h2,_⟩:=AZ b
 unfold BB
 split
 ·exact⟨Int.le_refl _,by show(0:Int)≤(b.length:Int);omega⟩
 ·split
  ·exact⟨h1,h2⟩
  ·exact⟨Int.le_refl _,by show(0:Int)≤(b.length:Int);omega⟩
theorem GW (b:Ae):0≤(AB b).2.1∧(AB b).2.1≤(b.length:Int):=by
 obtain⟨h1,h2,_⟩:=AZ b
 obtain⟨h3,h4,_⟩:=AZ (b.drop (Ad b).2.1.toNat)
 rw[List.length_drop] at h4
 unfold AB
 split
 ·exact⟨Int.le_refl _,by show(0:Int)≤(b.length:Int);omega⟩
 ·split
  ·exact⟨Int.le_refl _,by show(0:Int)≤(b.length:Int);omega⟩
  ·split
   ·exact⟨by show 0≤(Ad b).2.1+_;omega,by show(Ad b).2.1+_≤(b.length:Int);omega⟩
   ·exact⟨Int.le_refl _,by show(0:Int)≤(b.length:Int);omega⟩
theorem Gd (b:Ae) (m:Int):0≤(Bm b m).2.1∧(Bm b m).2.1≤(b.length:Int):=by
 obtain⟨h1,h2,_,h3,_⟩:=AZ b
 unfold Bm
 split
 ·exact⟨Int.le_refl _,by show(0:Int)≤(b.length:Int);omega⟩
 ·split
  ·exact⟨Int.le_refl _,by show(0:Int)≤(b.length:Int);omega⟩
  ·split
   ·exact⟨Int.le_refl _,by show(0:Int)≤(b.length:Int);omega⟩
   ·exact⟨by show 0≤(Ad b).2.1+_;omega,by show(Ad b).2.1+_≤(b.length:Int);omega⟩
theorem A7l (b:Ae) (p:Int) (hb:Af b.length):(∀q∈Amb b p,q)∧(Ik b p,Acf b p,Acg b p)=IF b p:=by
 unfold Af at hb
 obtain⟨a1,a2,_,a3,a4⟩:=AZ b
 have fx:okN (Ad b).1:=⟨a3,a4⟩
 have B1:=A10 fx 0 1 rfl (by decide)
 have B2:=A10 fx 1 2 rfl (by decide)
 have B4:=A10 fx 2 4 rfl (by decide)
 have na:H0 b=(Ad b).2.1:=by
  unfold H0
  rw[i64_in (by omega)];omega
 obtain⟨s1,s2⟩:=Po (b.drop (Ad b).2.1.toNat)
 rw[List.length_drop] at s2
 have nu:JM b=(Ad b).2.1+(BB (b.drop (Ad b).2.1.toNat)).2.1:=by
  unfold JM
  rw[na,BG,i64_in (by omega)]
 obtain⟨v1,v2⟩:=GW (b.drop ((Ad b).2.1+(BB (b.drop (Ad b).2.1.toNat)).2.1).toNat)
 rw[List.length_drop] at v2
 have e5:JB b=(Ad b).2.1+(BB (b.drop (Ad b).2.1.toNat)).2.1+(AB (b.drop ((Ad b).2.1+(BB (b.drop (Ad b).2.1.toNat)).2.1).toNat)).2.1:=by
  unfold JB
  rw[nu,BG,i64_in (by omega)]
 obtain⟨t1,t2⟩:=Gd (b.drop ((Ad b).2.1+(BB (b.drop (Ad b).2.1.toNat)).2.1+(AB (b.drop ((Ad b).2.1+(BB (b.drop (Ad b).2.1.toNat)).2.1).toNat)).2.1).toNat) 64
 rw[List.length_drop] at t2
 have e2:Jz b=(ML b).2.2∧0≤(ML b).2.2∧(ML b).2.2≤(b.length:Int):=by
  unfold Jz ML
  rw[e5,na,BG,B1,B2]
  show(bif(Ad b).2.2==0&&Dm (Ad b).1 0 then bif !Dm (Ad b).1 1 then _ else _ else _)=_∧_
  rw[i64_in (by omega)]
  cases((Ad b).2.2==0&&Dm (Ad b).1 0)<;>cases Dm (Ad b).1 1<;>refine⟨rfl,?_,?_⟩<;>(first|exact a1|exact a2|(simp only[cond_true,cond_false,Bool.not_true,Bool.not_false];omega))
 obtain⟨e2,e2a,e2b⟩:=e2
 obtain⟨d1,d2⟩:=GW (b.drop (ML b).2.2.toNat)
 rw[List.length_drop] at d2
 have cq:(ML b).2.1=⟨⟨JC b,JD b⟩,⟨JE b,HZ b⟩,GQ b,JA b,⟨0,0⟩⟩:=by
  unfold JC JD JE HZ GQ JA ML
  rw[nu,e5,na,BG,BG,BG,B1,B2]
  show _=Ax.mk (A1.mk (bif(Ad b).2.2==0&&Dm (Ad b).1 0 then bif !Dm (Ad b).1 1 then _ else _ else _) _) _ _ _ _
  show(bif(Ad b).2.2==0&&Dm (Ad b).1 0 then bif !Dm (Ad b).1 1 then _ else _ else _:Bool×Ax×Int).2.1=Ax.mk (A1.mk (bif(Ad b).2.2==0&&Dm (Ad b).1 0 then bif !Dm (Ad b).1 1 then _ else _ else _) (bif(Ad b).2.2==0&&Dm (Ad b).1 0 then bif !Dm (Ad b).1 1 then _ else _ else _)) (BE.mk (bif(Ad b).2.2==0&&Dm (Ad b).1 0 then bif !Dm (Ad b).1 1 then _ else _ else _) (bif(Ad b).2.2==0&&Dm (Ad b).1 0 then bif !Dm (Ad b).1 1 then _ else _ else _)) (bif(Ad b).2.2==0&&Dm (Ad b).1 0 then bif !Dm (Ad b).1 1 then Dm (Ad b).1 1 else Dm (Ad b).1 1 else _) (bif(Ad b).2.2==0&&Dm (Ad b).1 0 then bif !Dm (Ad b).1 1 then _ else _ else _) _
  cases((Ad b).2.2==0&&Dm (Ad b).1 0)<;>cases Dm (Ad b).1 1<;>rfl
 have oz:(bif(Ad b).2.2==0&&Dm (Ad b).1 0 then bif !Dm (Ad b).1 1 then(Ad b).2.2==0&&(BB (b.drop (Ad b).2.1.toNat)).2.2==0&&(AB (b.drop ((Ad b).2.1+(BB (b.drop (Ad b).2.1.toNat)).2.1).toNat)).2.2==0&&(Bm (b.drop ((Ad b).2.1+(BB (b.drop (Ad b).2.1.toNat)).2.1+(AB (b.drop ((Ad b).2.1+(BB (b.drop (Ad b).2.1.toNat)).2.1).toNat)).2.1).toNat) 64).2.2==0
   else(Ad b).2.2==0&&(BB (b.drop (Ad b).2.1.toNat)).2.2==0&&(AB (b.drop ((Ad b).2.1+(BB (b.drop (Ad b).2.1.toNat)).2.1).toNat)).2.2==0 else(Ad b).2.2==0)=(ML b).1:=by
  unfold ML
  cases((Ad b).2.2==0&&Dm (Ad b).1 0)<;>cases Dm (Ad b).1 1<;>rfl
 have e1:AY b=((ML b).1&&Dm (Ad b).1 2):=by
  unfold AY
  rw[nu,e5,na,BG,BG,BG,B1,B2,B4]
  show((bif(Ad b).2.2==0&&Dm (Ad b).1 0 then bif !Dm (Ad b).1 1 then _ else _ else _)&&Dm (Ad b).1 2)=_
  rw[oz]
 have e6:GR b=0:=by
  unfold GR
  cases((Ad b).2.2==0&&decide (IntKind.i64.wrap (↑(BitVec.ofInt (64:Nat) (Ad b).1 &&& BitVec.ofInt (64:Nat) (1:Int)).toNat:Int) >(0:Int)))<;>cases decide (IntKind.i64.wrap (↑(BitVec.ofInt (64:Nat) (Ad b).1 &&& BitVec.ofInt (64:Nat) (2:Int)).toNat:Int) >(0:Int))<;>rfl
 refine⟨Aa (fun _=>by rw[na];omega) (Aa (fun _=>by rw[nu];omega) (Aa (fun _ _=>by rw[e5];omega) (Aa (fun _ _=>by rw[e5,BG,List.length_drop];unfold Af;omega) (Aa (fun _=>by rw[e2];omega) Ag)))),?_⟩
 have hB1:(ZZ b).1=bif(ML b).1&&Dm (Ad b).1 2 then(ML b).1&&(AB (b.drop (ML b).2.2.toNat)).2.2==0 else(ML b).1:=by unfold ZZ;cases((ML b).1&&Dm (Ad b).1 2)<;>rfl
 have hB2:(ZZ b).2.1=Ax.mk (A1.mk (bif AY b then JC b else JC b) (bif AY b then JD b else JD b)) (BE.mk (bif AY b then JE b else JE b) (bif AY b then HZ b else HZ b)) (bif AY b then GQ b else GQ b) (bif AY b then JA b else JA b) (BE.mk (bif AY b then(AB (b.drop (ML b).2.2.toNat)).1.1 else GR b) (bif AY b then(AB (b.drop (ML b).2.2.toNat)).1.2 else GR b)):=by
  rw[e1]
  unfold ZZ
  cases((ML b).1&&Dm (Ad b).1 2) with
  |true=>simp only[cond_true];rw[cq]
  |false=>simp only[cond_false];rw[cq,e6]
 have kh:(ZZ b).2.2=bif AY b then(ML b).2.2+(AB (b.drop (ML b).2.2.toNat)).2.1 else(ML b).2.2:=by
  rw[e1]
  unfold ZZ
  cases((ML b).1&&Dm (Ad b).1 2)<;>rfl
 have e0:Fx b p=(!(ZZ b).1||!Y1 (Ad b).1 (ZZ b).2.1||!Gs p (ZZ b).2.1):=by
  unfold Fx
  rw[e2,nu,e5,na,BG,BG,BG,BG,Afu,Wa,←hB2]
  rw[B1,B2,B4]
  show((!bif AY b then(bif(Ad b).2.2==0&&Dm (Ad b).1 0 then bif !Dm (Ad b).1 1 then _ else _ else _)&&_ else(bif(Ad b).2.2==0&&Dm (Ad b).1 0 then bif !Dm (Ad b).1 1 then _ else _ else _))||_||_)=_
  rw[oz,hB1,←e1]
  unfold Y1
  rw[hB2]
  rfl
 unfold Ik Acf Acg IF
 rw[e0]
 cases(!(ZZ b).1||!Y1 (Ad b).1 (ZZ b).2.1||!Gs p (ZZ b).2.1) with
 |true=>rfl
 |false=>
  simp only[cond_false]
  rw[kh,e2,BG,hB2,i64_in (by omega)]
theorem A7k (a0:Ae) (a1:Int) (hp:∀p∈Aft a0 a1,p):An AP 109 [AA .bytes a0,AA .i64 a1] 0 [] 1 (RR a0 a1) 0 []:=by
 obtain⟨h1,h2⟩:=A7l a0 a1 (hp _ (List.mem_cons_self ..))
 have h:=Bdc a0 a1 h1
 have hr:Ach a0 a1=RR a0 a1:=by unfold Ach RR;rw[←h2]
 rw[hr] at h
 exact h
theorem A18:Gw AP 109 (Cy [.t .bytes,.t .i64] 0 RR (fun _ _=>[]) Aft):=Az A7k
def B3h:=DM A18 Byj
abbrev Cd:=B3h
def Bf0 (a0:BE):A:=.v (.bool (a0.1==0&&a0.2==0))
def Bao (_a0:BE):List Prop:=[]
theorem A4s:Gw AP 116 (Cy [.t .vec] 0 Bf0 (fun _=>[]) Bao):=Az fun a0 hp=>AN (u:=9) (Au Cd.2 AF) (by kernel_rfl) hp
def B37:=DM A4s Cd
def BS (a0:Ax):Bool:=a0.1.1 !=0||a0.1.2 !=0||a0.2.1 !=0||a0.2.2 !=0||a0.3||!a0.4.toList==(ByteArray.mk #[]).toList
def Axz (a0:Ax):A:=.v (.bool (BS a0))
def Avd (_a0:Ax):List Prop:=[]
theorem Ap8:Gw AP 115 (Cy [.t .cell] 0 Axz (fun _=>[]) Avd):=Az fun a0 hp=>AN (u:=9) (Au B37.2 AF) (by kernel_rfl) hp
def B38:=DM Ap8 B37
def Ea (a0:Int) (a1:Ax):Bool:=bif a0==1&&!(a1.5.1==0&&a1.5.2==0)||a0==2&&(a1.3||!DI a1.5)||a0 !=1&&a0 !=2 then false else bif !BS a1 then true else GA a1.1&&decide (a1.1.1 >0)&&DI a1.2&&decide ((a1.4.size:Int)≤64)&&(!a1.3||a1.4.toList==(ByteArray.mk #[]).toList)
def Bfu (a0:Int) (a1:Ax):A:=.v (.bool (Ea a0 a1))
def Bal (_a0:Int) (_a1:Ax):List Prop:=[]
theorem A4q:Gw AP 105 (Cy [.t .i64,.t .cell] 0 Bfu (fun _ _=>[]) Bal):=Az fun a0 a1 hp=>AN (u:=9) (Au B38.2 AF) (by kernel_rfl) hp
def B62:=DM A4q B38
theorem S0 (s:A1):GA s=HA s:=rfl
theorem Nl (v:BE):DI v=FK v:=by
 unfold DI FK
 rw[Bool.and_assoc]
theorem NW (c:Ax):BS c=Fv c:=by
 unfold BS Fv bne
 rw[VD]
 generalize (c.1.1==(0:Int))=a
 generalize (c.1.2==(0:Int))=b
 generalize (c.2.1==(0:Int))=d
 generalize (c.2.2==(0:Int))=e
 show(!a||!b||!d||!e||c.gone||!(c.4.size==0))=!(a&&b&&(d&&e)&&(!c.gone&&c.value.size==0))
 cases a<;>cases b<;>cases d<;>cases e<;>cases c.gone<;>simp
theorem No (p:Int) (c:Ax):Ea p c=Gs p c:=by
 unfold Ea Gs bne
 rw[NW,Nl,Nl,S0,VD]
 have h1:(p==(1:Int)&&!(c.5.1==(0:Int)&&c.5.2==(0:Int))||p==(2:Int)&&(c.3||!FK c.5)||!(p==(1:Int))&&!(p==(2:Int)))=(p==1&&!IE c.dead||(p==2&&(c.gone||!FK c.dead)||!(p==1||p==2))):=by
  rw[Bool.or_assoc,Bool.not_or]
  rfl
 have h2:(!c.3||c.4.size==0)=!(c.gone&&!(c.value.size==0)):=by rw[Bool.not_and,Bool.not_not]
 rw[h1,h2]
abbrev Cf:=B62
abbrev Cz:Type:=ByteArray×Nat
def Agv (x:Cz):St:=⟨36,2,[(26,.own 1 0)],[(1,some (.sit x.1 x.2))]⟩
def Q5:St→Option Cz
 |⟨36,2,[(26,.own 1 0)],[(1,some (.sit z0 z1))]⟩=>some (z0,z1)
 |_=>none
def Agu:Em:=⟨2,2,[26],[],[(1,1)],[1],[2],[1]⟩
def Agt:EQ:=⟨[],[(1,1)],[26],[1]⟩
def H3 (a0:ByteArray) (a1:Nat):Bool:=!!decide (a1 <a0.size)
def DH (a0:ByteArray) (a1:Nat):Bool:=(H3 a0 a1)&&(decide ((↑(Utf8.decode a0 a1).1:Int) <97)||decide ((↑(Utf8.decode a0 a1).1:Int) >122))
def Aac (a0:ByteArray) (a1:Nat):Nat:=bif decide (a1 <a0.size) then a1+(Utf8.decode a0 a1).2 else a1
def Aad (a0:ByteArray) (a1:Nat):Bool:=(H3 a0 a1)&&!(DH a0 a1)
def Aae (a0:ByteArray) (a1:Nat):Nat:=bif decide (a1 <a0.size) then a1+(Utf8.decode a0 a1).2 else a1
def Aaf (a0:ByteArray) (a1:Nat):Nat:=bif decide (a1 <a0.size) then a1+(Utf8.decode a0 a1).2 else a1
def Gg (x:Cz):Cz:=(x.1,Aac x.1 x.2)
def Gf (x:Cz):El:=some (Aad x.1 x.2)
def P3 (x:Cz):List Prop:=[((H3 x.1 x.2)=true→decide (x.2 <x.1.size)=true)]
def Hp (_x:Cz):List Prop:=[]
def X6 (x:Cz):BD:=[(some 0,some (!decide (x.2 <x.1.size)),⟨36,2,[(2,.dead)],[(1,some (.sit x.1 (Aae x.1 x.2)))]⟩),(none,some ((DH x.1 x.2)),⟨36,2,[(2,.v (.bool (false)))],[(1,some (.sit x.1 (Aaf x.1 x.2)))]⟩)]
def Ge (x:Cz):Nat:=x.1.size - x.2
def Mw (x:Cz):Cz:=Bh Gg Gf (Ge x) x
theorem Ady (a0:ByteArray) (a1:Nat) (_hp:∀p∈Hp (a0,a1),p):∀p∈P3 (a0,a1),p:=
  (Aa (by intro h;exact(Bool.not_not _).symm.trans h) Ag)
def Aag:=Jt (Co Cf.1 L0) (Aw AP 64 0) Agu Agt Q5 Ge Gg Gf Hp X6
def SV:=V8 0 (g:=Aag) (BX (T:=Agv) (psA:=P3) Cf.2 AF (u:=9) (by kernel_rfl) (by decide) (fun⟨a0,a1⟩=>by kernel_rfl) (fun⟨a0,a1⟩=>Ady a0 a1) (fun s x h=>by unfold Q5 at h;split at h<;>first|(cases h;rfl)|cases h) (fun _=>A9 (n:=36) rfl) fun _ _=>rfl) ⟨L0,AF⟩
def HH (a0:Ab):Bool:=a0.1.toList==(ByteArray.mk #[]).toList||decide ((a0.1.size:Int) >12)||a0.2 !=1&&a0.2 !=2
def Q4 (a0:Ab):Bool:=bif(HH a0) then false else bif DH (Mw (a0.1,0)).1 (Mw (a0.1,0)).2 then false else true
def Q6 (a0:Ab):A:=.v (.bool (Q4 a0))
def Wo (a0:Ab):List Prop:=[((!(HH a0))=true→A8 Gg Gf Hp (Ge (a0.1,0)) (a0.1,0))]
theorem Apv (a0:Ab):RL (Co Cf.1 SV.1) 9 64 [AA .group a0] 0 []=some (1,Q6 a0,0,[],[((!(HH a0))=true→Aw AP (64:FuncId) 0=Aw AP (64:FuncId) 0),((!(HH a0))=true→A8 Gg Gf Hp (Ge (a0.1,0)) (a0.1,0))]):=by kernel_rfl
theorem Auj (a0:Ab) (hp:∀p∈Wo a0,p):An AP 64 [AA .group a0] 0 [] 1 (Q6 a0) 0 []:=
  AN (Au Cf.2 SV.2) (Apv a0) (Aa (by intros;rfl) (nT hp fun _=>Ag))
def Wp (a0:Ab):A:=.v (.bool (Mu a0.name&&Z9 a0.policy))
def UG (_a0:Ab):List Prop:=[]
theorem Wn (g:Ab):(∀p∈Wo g,p)∧Q4 g=(Mu g.name&&Z9 g.policy):=by
 have ar:∀i,DH g.1 i=(decide (i <g.1.size)&&!XK (g.1.data.toList.getD i 0)):=fun i=>by
  unfold DH H3
  rw[nn]
  by_cases h:i <g.1.size
  ·rw[decide_eq_true h,Bool.true_and,Bool.true_and];exact(Bbz g.1 i h).1
  ·rw[decide_eq_false h];rfl
 obtain⟨h1,k,hk,hx,hs,hst⟩:=Bg7 (fun i=>((g.1,i):ByteArray×Nat)) g.1.size (fun i=>!XK (g.1.data.toList.getD i 0)) Gg Gf Hp (Ge (g.1,0)) (g.1,0) rfl (Nat.le_refl _)
  (fun i _ _=>by
   show((!!decide (i <g.1.size))&&!DH g.1 i)=_
   rw[ar,nn]
   cases decide (i <g.1.size)<;>rfl)
  (fun i hi hj=>by
   show(g.1,(bif decide (i <g.1.size) then i+(Utf8.decode g.1 i).2 else i))=(g.1,i+1)
   have h2:=hj i (Nat.lt_succ_self i)
   rw[decide_eq_true hi,cond_true,(Bbz g.1 i hi).2 (by simpa using h2)])
  (fun _ _ _=>Ag)
 refine⟨Aa (fun _=>h1) Ag,?_⟩
 have hr:Mw (g.1,0)=(g.1,k):=hx
 have ha:g.1.data.toList.all XK=decide (¬k <g.1.size):=by
  have:=A65 g.1.data.toList 0 XK k (by rw[Nx];exact hk) (fun j hj=>by simpa using hs j hj) (fun h=>by rw[Nx] at h;simpa using hst h)
  rw[Nx] at this
  exact this
 unfold Q4
 rw[hr]
 show(bif HH g then false else bif DH g.1 k then false else true)=_
 rw[ar]
 unfold HH Mu Z9
 rw[VD]
 show _=(g.1.data.toList.all XK&&(decide (1≤g.1.size)&&decide (g.1.size≤12))&&(g.2==1||g.2==2))
 rw[ha]
 have e1:(g.1.size==0)=!decide (1≤g.1.size):=B7h _
 have e2:decide ((g.1.size:Int) >12)=!decide (g.1.size≤12):=by
  rw[←decide_not];exact decide_eq_decide.2 (by generalize g.1.size=m;omega)
 have e3:(g.2 !=1&&g.2 !=2)=!(g.2==1||g.2==2):=by simp[bne]
 rw[e1,e2,e3]
 by_cases h:k <g.1.size
 ·have:=hst h
  rw[this,decide_eq_true h,decide_eq_false (not_not_intro h)]
  simp
 ·rw[decide_eq_false h,decide_eq_true h]
  cases decide (1≤g.1.size)<;>cases decide (g.1.size≤12)<;>cases(g.2==1||g.2==2)<;>rfl
theorem Apu (a0:Ab) (_hp:∀p∈UG a0,p):An AP 64 [AA .group a0] 0 [] 1 (Wp a0) 0 []:=by
 have h:=Auj a0 (Wn a0).1
 unfold Q6 at h
 rw[(Wn a0).2] at h
 exact h
theorem Aj4:Gw AP 64 (Cy [.t .group] 0 Wp (fun _=>[]) UG):=Az Apu
def Bop:=DM Aj4 Cf
abbrev BV:Type:=(List Ab)×Int×Int×(List (U .str×U .i64))
def Aj3 (x:BV):St:=⟨35,1,[(3,.mp 0),(15,.sl .group x.1),(16,iV (x.2.1)),(17,iV (x.2.2.1))],[(0,some (.map .str .i64 x.2.2.2))]⟩
def SU:St→Option BV
 |⟨35,1,[(3,.mp 0),(15,.sl .group z0),(16,.v (.int .i64 z1)),(17,.v (.int .i64 z2))],[(0,some (.map .str .i64 z3))]⟩=>some (z0,z1,z2,z3)
 |_=>none
def Aj2:Em:=⟨1,1,[3,15,16,17],[],[(0,0)],[0],[2],[0]⟩
def Aj1:EQ:=⟨[],[(0,0)],[3,15,16,17],[0]⟩
def Fw (a0:List Ab) (a2:Int) (a3:List (U .str×U .i64)):List (ByteArray×Int):=Aak a3 (a0.getD a2.toNat (Av TC.group)).1 (IntKind.i64.wrap (MF a3 (a0.getD a2.toNat (Av TC.group)).1+1))
def D9 (a0:List Ab) (a1 a2:Int) (a3:List (U .str×U .i64)):Bool:=!!decide (a2 <a1)&&(!(Mu (a0.getD a2.toNat (Av TC.group)).1&&Z9 (a0.getD a2.toNat (Av TC.group)).2)||decide (MF (Fw a0 a2 a3) (a0.getD a2.toNat (Av TC.group)).1 >1))
def Adv (a0:List Ab) (a2:Int) (a3:List (U .str×U .i64)):List (U .str×U .i64):=(Fw a0 a2 a3)
def Adw (a0:List Ab) (a1 a2:Int) (a3:List (U .str×U .i64)):Bool:=!!decide (a2 <a1)&&!(D9 a0 a1 a2 a3)
def JY (a0:List Ab) (a2:Int):Int:=bif !(Mu (a0.getD a2.toNat (Av TC.group)).1&&Z9 (a0.getD a2.toNat (Av TC.group)).2) then 2 else 70
def Aaa (a0:List Ab) (a2:Int) (a3:List (U .str×U .i64)):List (U .str×U .i64):=bif !(Mu (a0.getD a2.toNat (Av TC.group)).1&&Z9 (a0.getD a2.toNat (Av TC.group)).2) then a3 else(Fw a0 a2 a3)
def GI:BV→BV
  |(a0,a1,a2,a3)=>(a0,a1,IntKind.i64.wrap (a2+1),Adv a0 a2 a3)
def GH (x:BV):El:=some (Adw x.1 x.2.1 x.2.2.1 x.2.2.2)
def Q2:BV→List Prop
  |(a0,a1,a2,_)=>[((!!decide (a2 <a1))=true→0≤a2∧a2 <(a0.length:Int))]
abbrev KF:BV→List Prop:=Q2
def Aab:BV→BD
  |(a0,a1,a2,a3)=>[(some 1,some (!decide (a2 <a1)),⟨35,1,[(2,.dead)],[(0,some (.map .str .i64 a3))]⟩),(none,some ((D9 a0 a1 a2 a3)),⟨35,2,[(2,.v (.int .i64 (JY a0 a2)))],[(0,some (.map .str .i64 (Aaa a0 a2 a3)))]⟩)]
def GG (x:BV):Nat:=(x.2.1 - x.2.2.1).toNat
def Q3 (x:BV):BV:=Bh GI GH (GG x) x
def Adx:=Jt (Co Bop.1 L0) (Aw AP 25 1) Aj2 Aj1 SU GG GI GH KF Aab
def UF:=V8 1 (g:=Adx) (BX (T:=Aj3) (psA:=Q2) Bop.2 AF (u:=9) (by kernel_rfl) (by decide) (fun⟨a0,a1,a2,a3⟩=>by kernel_rfl) (fun _ h=>h) (fun s x h=>by unfold SU at h;split at h<;>first|(cases h;rfl)|cases h) (fun _=>A9 (n:=35) rfl) fun _ _=>rfl) ⟨L0,AF⟩
def Ho (a0:List Ab):Bool:=(a0.length:Int)==0||decide ((a0.length:Int) >4)
def Lg (a0:List Ab):=Q3 (a0,(a0.length:Int),0,[])
def Q1 (a0:List Ab):List Ab:=(Lg a0).1
def X2 (a0:List Ab):Int:=(Lg a0).2.1
def X1 (a0:List Ab):List (U TC.str×U TC.i64):=(Lg a0).2.2.2
def Q0 (a0:List Ab):Int:=(Lg a0).2.2.1
def MJ (a0:List Ab):Int:=bif(Ho a0) then bif(a0.length:Int)==0 then 2 else 3 else bif D9 (Q1 a0) (X2 a0) (Q0 a0) (X1 a0) then JY (Q1 a0) (Q0 a0) else 0
def TF (a0:List Ab):A:=iV ((MJ a0))
def X4 (a0:List Ab):=(!(Ho a0))=true→A8 GI GH KF (GG (a0,(a0.length:Int),0,[])) (a0,(a0.length:Int),0,[])
def X3 (a0:List Ab):List Prop:=[(X4 a0)]
theorem Aui (a0:List Ab):RL (Co Bop.1 UF.1) 9 25 [.sl .group a0] 0 []=some (1,TF a0,0,[],[((!(Ho a0))=true→Aw AP (25:FuncId) 1=Aw AP (25:FuncId) 1),(X4 a0)]):=by kernel_rfl
theorem Axg (a0:List Ab) (hp:∀p∈X3 a0,p):An AP 25 [.sl .group a0] 0 [] 1 (TF a0) 0 []:=
  AN (Au Bop.2 UF.2) (Aui a0) (Aa (by intros;rfl) (nT hp fun _=>Ag))
def X5 (a0:List Ab):A:=iV ((AI a0))
def Wm (_a0:List Ab):List Prop:=[]
theorem X0 (l:List Ab):(∀p∈X3 l,p)∧MJ l=AI l:=by
 have e4:Ho l=(l.length==0||decide (4 <l.length)):=by
  unfold Ho
  rw[A7b]
  congr 1
  exact dgt l.length 4
 have main:Ho l=false→A8 GI GH KF (GG (l,(l.length:Int),0,[])) (l,(l.length:Int),0,[])∧MJ l=AI l:=fun h4=>by
  have si:l.length≤4:=by
   rw[e4] at h4
   have:=of_decide_eq_false (Bool.or_eq_false_iff.1 h4).2
   omega
  have ar:∀i,i≤l.length→(∀j,j <i→WQ l j=false)→D9 l (l.length:Int) (i:Int) (Wj l i)=(decide (i <l.length)&&WQ l i):=fun i hi hs=>by
   unfold D9 Fw
   rw[Int.toNat_natCast,Asy,if_pos rfl,Asx l i hi hs,nn,T4]
   unfold WQ
   congr 2
   cases((l.take i).map (·.name)).any (fun s=>s==(l.getD i (Av TC.group)).1)<;>rfl
  obtain⟨h1,k,hk,hx,hs,hst⟩:=Bg7 (fun i=>((l,(l.length:Int),(i:Int),Wj l i):BV)) l.length (WQ l) GI GH KF (GG (l,(l.length:Int),0,[])) ((l,(l.length:Int),0,[]):BV) rfl
   (by show l.length≤((l.length:Int) - 0).toNat;omega)
   (fun i hi hs=>by
    show((!!decide ((i:Int) <(l.length:Int)))&&!D9 l (l.length:Int) (i:Int) (Wj l i))=_
    rw[ar i hi hs,nn,T4]
    cases decide (i <l.length)<;>rfl)
   (fun i hi hs=>by
    show(l,(l.length:Int),IntKind.i64.wrap ((i:Int)+1),Fw l (i:Int) (Wj l i))=(l,(l.length:Int),((i+1:Nat):Int),Wj l (i+1))
    rw[MO (by omega)]
    unfold Fw
    rw[Int.toNat_natCast]
    rfl)
   (fun i hi hs=>Aa (fun h=>by
    have h':(!!decide ((i:Int) <(l.length:Int)))=true:=h
    rw[nn] at h'
    have:=of_decide_eq_true h'
    show(0:Int)≤(i:Int)∧(i:Int) <(l.length:Int)
    omega) Ag)
  refine⟨h1,?_⟩
  have hr:Q3 (l,(l.length:Int),0,[])=(l,(l.length:Int),(k:Int),Wj l k):=hx
  unfold MJ Q1 X2 X1 Q0 Lg
  rw[hr,h4,cond_false]
  show(bif D9 l (l.length:Int) (k:Int) (Wj l k) then JY l (k:Int) else 0)=_
  rw[ar k hk hs]
  rw[e4] at h4
  obtain⟨h5,h6⟩:=Bool.or_eq_false_iff.1 h4
  unfold AI
  rw[h5,h6,cond_false,cond_false,Az8 l k [] (fun j hj hl=>by
   have:=hs j hj
   unfold WQ at this
   obtain⟨q1,q2⟩:=Bool.or_eq_false_iff.1 this
   exact⟨by rw[Bool.not_eq_false'] at q1;exact q1,by simpa using q2⟩),List.nil_append]
  by_cases fg:k <l.length
  ·have eo:=hst fg
   rw[eo,decide_eq_true fg,Bool.and_true,cond_true]
   have hd:l.drop k=l.getD k (Av TC.group)::l.drop (k+1):=by
    rw[List.getD_eq_getElem?_getD,List.getElem?_eq_getElem fg,Option.getD_some]
    exact List.drop_eq_getElem_cons fg
   rw[hd]
   unfold XA JY
   rw[Int.toNat_natCast]
   unfold WQ at eo
   show(bif !(Mu (l.getD k (Av TC.group)).1&&Z9 (l.getD k (Av TC.group)).2) then(2:Int) else 70)=bif !(Mu (l.getD k (Av TC.group)).1&&Z9 (l.getD k (Av TC.group)).2) then 2 else _
   cases hq:!(Mu (l.getD k (Av TC.group)).1&&Z9 (l.getD k (Av TC.group)).2) with
   |true=>rfl
   |false=>
    rw[hq,Bool.false_or] at eo
    have jf:((l.take k).map (·.name)).any (fun s=>s==(l.getD k (Av TC.group)).name)=true:=eo
    rw[cond_false,cond_false,jf]
    rfl
  ·rw[decide_eq_false fg,Bool.false_and,cond_false,List.drop_eq_nil_of_le (by omega)]
   rfl
 cases h4:Ho l with
 |false=>
  obtain⟨g1,g2⟩:=main h4
  exact⟨Aa (fun _=>g1) Ag,g2⟩
 | true=>
  refine⟨Aa (fun h=>by rw[h4] at h;cases h) Ag,?_⟩
  unfold MJ AI
  rw[h4,cond_true,A7b]
  rw[e4] at h4
  cases h5:l.length==0 with
  |true=>rfl
  |false=>
   rw[h5,Bool.false_or] at h4
   rw[h4]
   rfl
theorem XZ (a0:List Ab) (_hp:∀p∈Wm a0,p):An AP 25 [.sl .group a0] 0 [] 1 (X5 a0) 0 []:=by
 have h:=Axg a0 (X0 a0).1
 unfold TF at h
 rw[(X0 a0).2] at h
 exact h
theorem MP:Gw AP 25 (Cy [.l .group] 0 X5 (fun _=>[]) Wm):=Az XZ
def Boq:=DM MP Bop
abbrev Eu:Type:=ByteArray×Int
def Axy (x:Eu):St:=⟨28,0,[(0,.v (.string x.1)),(3,iV (x.2))],[]⟩
def Yq:St→Option Eu
 |⟨28,0,[(0,.v (.string z0)),(3,.v (.int .i64 z1))],[]⟩=>some (z0,z1)
 |_=>none
def Axx:Em:=⟨0,0,[0,3],[],[],[],[2],[]⟩
def Axw:EQ:=⟨[],[],[0,3],[]⟩
def Jc (a0:ByteArray) (a1:Int):Bool:=!!decide (a1 <(a0.size:Int))
def FQ (a0:ByteArray) (a1:Int):Bool:=(Jc a0 a1)&&(decide ((↑(a0.data.toList.getD a1.toNat (0:UInt8)).toNat:Int) <97)||decide ((↑(a0.data.toList.getD a1.toNat (0:UInt8)).toNat:Int) >122))
def Ap6 (a0:ByteArray) (a1:Int):Bool:=(Jc a0 a1)&&!(FQ a0 a1)
def Jf (x:Eu):Eu:=(x.1,IntKind.i64.wrap (x.2+1))
def Je (x:Eu):El:=some (Ap6 x.1 x.2)
def Wy:Eu→List Prop
  |(a0,a1)=>[((Jc a0 a1)=true→0≤a1∧a1 <(a0.size:Int)),((Jc a0 a1)=true→decide ((↑(a0.data.toList.getD a1.toNat (0:UInt8)).toNat:Int) <97)=false→0≤a1∧a1 <(a0.size:Int))]
abbrev NV:Eu→List Prop:=Wy
def Akm (x:Eu):BD:=[(some 0,some (!decide (x.2 <(x.1.size:Int))),⟨28,0,[(2,.dead)],[]⟩),(none,some ((FQ x.1 x.2)),⟨28,0,[(2,.v (.bool (false)))],[]⟩)]
def Jd (x:Eu):Nat:=((x.1.size:Int) - x.2).toNat
def PK (x:Eu):Eu:=Bh Jf Je (Jd x) x
def Ap7:=Jt (Co Boq.1 L0) (Aw AP 71 0) Axx Axw Yq Jd Jf Je NV Akm
def Abi:=V8 0 (g:=Ap7) (BX (T:=Axy) (psA:=Wy) Boq.2 AF (u:=9) (by kernel_rfl) (by decide) (fun⟨a0,a1⟩=>by kernel_rfl) (fun _ h=>h) (fun s x h=>by unfold Yq at h;split at h<;>first|(cases h;rfl)|cases h) (fun _=>A9 (n:=28) rfl) fun _ _=>rfl) ⟨L0,AF⟩
def Ad8 (a0:ByteArray):Bool:=bif FQ (PK (a0,0)).1 (PK (a0,0)).2 then false else decide ((a0.size:Int)≥1)&&decide ((a0.size:Int)≤12)
def Ad9 (a0:ByteArray):A:=.v (.bool (Ad8 a0))
def Anj (a0:ByteArray):List Prop:=[(A8 Jf Je NV (Jd (a0,0)) (a0,0))]
theorem Bak (a0:ByteArray):RL (Co Boq.1 Abi.1) 9 71 [AA .str a0] 0 []=some (1,Ad9 a0,0,[],[(Aw AP (71:FuncId) 0=Aw AP (71:FuncId) 0),(A8 Jf Je NV (Jd (a0,0)) (a0,0))]):=by kernel_rfl
theorem Bfq (a0:ByteArray) (hp:∀p∈Anj a0,p):An AP 71 [AA .str a0] 0 [] 1 (Ad9 a0) 0 []:=
  AN (Au Boq.2 Abi.2) (Bak a0) (Aa rfl (nT hp fun _=>Ag))
def Ank (a0:ByteArray):A:=.v (.bool (Mu a0))
def Ag6 (a0:ByteArray):List Prop:=[AJ a0.size]
theorem Ani (g:ByteArray) (hb:AJ g.size):(∀p∈Anj g,p)∧Ad8 g=Mu g:=by
 unfold AJ at hb
 have sd:∀i,(decide ((((g.data.toList.getD i 0).toNat:Nat):Int) <97)||decide ((((g.data.toList.getD i 0).toNat:Nat):Int) >122))=!XK (g.data.toList.getD i 0):=fun i=>by
  unfold XK
  rw[Bool.not_and,←decide_not,←decide_not]
  congr 1<;>exact decide_eq_decide.2 (by omega)
 have ar:∀i:Nat,FQ g (i:Int)=(decide (i <g.size)&&!XK (g.data.toList.getD i 0)):=fun i=>by
  unfold FQ Jc
  rw[nn,T4,Int.toNat_natCast,sd]
 obtain⟨h1,k,hk,hx,hs,hst⟩:=Bg7 (fun i=>((g,(i:Int)):ByteArray×Int)) g.size (fun i=>!XK (g.data.toList.getD i 0)) Jf Je NV (Jd (g,0)) (g,0) rfl (by show g.size≤((g.size:Int) - 0).toNat;omega)
  (fun i _ _=>by
   show((!!decide ((i:Int) <(g.size:Int)))&&!FQ g i)=_
   rw[ar,nn,T4]
   cases decide (i <g.size)<;>rfl)
  (fun i hi hj=>by
   show(g,IntKind.i64.wrap ((i:Int)+1))=(g,((i+1:Nat):Int))
   rw[MO (by omega)])
  (fun i _ _=>Aa (fun h=>by
    have h':(!!decide ((i:Int) <(g.size:Int)))=true:=h
    rw[nn] at h'
    have:=of_decide_eq_true h'
    show(0:Int)≤(i:Int)∧(i:Int) <(g.size:Int)
    omega) (Aa (fun h _=>by
    have h':(!!decide ((i:Int) <(g.size:Int)))=true:=h
    rw[nn] at h'
    have:=of_decide_eq_true h'
    show(0:Int)≤(i:Int)∧(i:Int) <(g.size:Int)
    omega) Ag))
 refine⟨Aa h1 Ag,?_⟩
 have hr:PK (g,0)=(g,(k:Int)):=hx
 have ha:g.data.toList.all XK=decide (¬k <g.size):=by
  have:=A65 g.data.toList 0 XK k (by rw[Nx];exact hk) (fun j hj=>by simpa using hs j hj) (fun h=>by rw[Nx] at h;simpa using hst h)
  rw[Nx] at this
  exact this
 unfold Ad8
 rw[hr]
 show(bif FQ g (k:Int) then false else decide ((g.size:Int)≥1)&&decide ((g.size:Int)≤12))=_
 rw[ar]
 unfold Mu
 rw[ha,show decide ((g.size:Int)≥1)=decide (1≤g.size) from decide_eq_decide.2 (by omega),show decide ((g.size:Int)≤12)=decide (g.size≤12) from decide_eq_decide.2 (by omega)]
 by_cases h:k <g.size
 ·rw[hst h,decide_eq_true h,decide_eq_false (not_not_intro h)]
  rfl
 ·rw[decide_eq_false h,decide_eq_true h]
  rfl
theorem Baj (a0:ByteArray) (hp:∀p∈Ag6 a0,p):An AP 71 [AA .str a0] 0 [] 1 (Ank a0) 0 []:=by
 have hb:AJ a0.size:=hp _ (List.mem_cons_self ..)
 have h:=Bfq a0 (Ani a0 hb).1
 unfold Ad9 at h
 rw[(Ani a0 hb).2] at h
 exact h
theorem A4p:Gw AP 71 (Cy [.t .str] 0 Ank (fun _=>[]) Ag6):=Az Baj
def Bcp:=DM A4p Boq
abbrev DO:Type:=(List Ab)×Int×Int
def Axv (x:DO):St:=⟨56,0,[(0,.sl .group x.1),(3,iV (x.2.1)),(4,iV (x.2.2))],[]⟩
def Yp:St→Option DO
 |⟨56,0,[(0,.sl .group z0),(3,.v (.int .i64 z1)),(4,.v (.int .i64 z2))],[]⟩=>some (z0,z1,z2)
 |_=>none
def Axu:Em:=⟨0,0,[0,3,4],[],[],[],[2],[]⟩
def Axt:EQ:=⟨[],[],[0,3,4],[]⟩
def ES (a0:List Ab) (a1 a2:Int):Bool:=!!decide (a2 <a1)&&(a0.getD a2.toNat (Av TC.group)).1.toList==(a0.getD a1.toNat (Av TC.group)).1.toList
def Ap4 (a0:List Ab) (a1 a2:Int):Bool:=!!decide (a2 <a1)&&!(ES a0 a1 a2)
def Jb (x:DO):DO:=(x.1,x.2.1,IntKind.i64.wrap (x.2.2+1))
def Ja (x:DO):El:=some (Ap4 x.1 x.2.1 x.2.2)
def Wx:DO→List Prop
  |(a0,a1,a2)=>[((!!decide (a2 <a1))=true→0≤a2∧a2 <(a0.length:Int)),((!!decide (a2 <a1))=true→0≤a1∧a1 <(a0.length:Int))]
abbrev NU:DO→List Prop:=Wx
def Akl (x:DO):BD:=[(some 2,some (!decide (x.2.2 <x.2.1)),⟨56,0,[(2,.dead)],[]⟩),(none,some ((ES x.1 x.2.1 x.2.2)),⟨56,0,[(2,iV 70)],[]⟩)]
def I9 (x:DO):Nat:=(x.2.1 - x.2.2).toNat
def GB (x:DO):DO:=Bh Jb Ja (I9 x) x
def Ap5:=Jt (Co Bcp.1 L0) (Aw AP 32 2) Axu Axt Yp I9 Jb Ja NU Akl
def TL:=V8 2 (g:=Ap5) (BX (T:=Axv) (psA:=Wx) Bcp.2 AF (u:=9) (by kernel_rfl) (by decide) (fun⟨a0,a1,a2⟩=>by kernel_rfl) (fun _ h=>h) (fun s x h=>by unfold Yp at h;split at h<;>first|(cases h;rfl)|cases h) (fun _=>A9 (n:=56) rfl) fun _ _=>rfl) ⟨L0,AF⟩
abbrev Dr:Type:=(List Ab)×Int
def Axs (x:Dr):St:=⟨56,0,[(0,.sl .group x.1),(3,iV (x.2))],[]⟩
def Yo:St→Option Dr
 |⟨56,0,[(0,.sl .group z0),(3,.v (.int .i64 z1))],[]⟩=>some (z0,z1)
 |_=>none
def Axr:Em:=⟨0,0,[0,3],[],[],[],[2],[]⟩
def Axq:EQ:=⟨[],[],[0,3],[]⟩
def Cv (a0:List Ab) (a1:Int):Bool:=!!decide (a1 <(a0.length:Int))
def Et (a0:List Ab) (a1:Int):=a0.getD a1.toNat (Av TC.group)
def Hb (a0:List Ab) (a1:Int):Bool:=!Mu (Et a0 a1).1||(Et a0 a1).2 !=1&&(Et a0 a1).2 !=2
def FP (a0:List Ab) (a1:Int):Bool:=(Cv a0 a1)&&((Hb a0 a1)||ES (GB (a0,a1,0)).1 (GB (a0,a1,0)).2.1 (GB (a0,a1,0)).2.2)
def Ap2 (a0:List Ab) (a1:Int):Bool:=(Cv a0 a1)&&!(FP a0 a1)
def LV (a0:List Ab) (a1:Int):Int:=bif(Hb a0 a1) then 2 else 70
def I8 (x:Dr):Dr:=(x.1,IntKind.i64.wrap (x.2+1))
def I7 (x:Dr):El:=some (Ap2 x.1 x.2)
def Ym (a0:List Ab) (a1:Int):=(Cv a0 a1)=true→(!(Hb a0 a1))=true→A8 Jb Ja NU (I9 (a0,a1,0)) (a0,a1,0)
def Yn (a0:List Ab) (a1:Int):=(Cv a0 a1)=true→((Et a0 a1).2 !=1)=true→(!Mu (Et a0 a1).1)=false→0≤a1∧a1 <(a0.length:Int)
def Ww:Dr→List Prop
  |(a0,a1)=>[((Cv a0 a1)=true→0≤a1∧a1 <(a0.length:Int)),((Cv a0 a1)=true→AJ (Et a0 a1).1.size),((Cv a0 a1)=true→(!Mu (Et a0 a1).1)=false→0≤a1∧a1 <(a0.length:Int)),(Yn a0 a1),((Cv a0 a1)=true→(!(Hb a0 a1))=true→Aw AP (32:FuncId) 2=Aw AP (32:FuncId) 2),(Ym a0 a1)]
def Lo:Dr→List Prop
  |(a0,a1)=>[((Cv a0 a1)=true→0≤a1∧a1 <(a0.length:Int)),((Cv a0 a1)=true→AJ (Et a0 a1).1.size),((Cv a0 a1)=true→(!Mu (Et a0 a1).1)=false→0≤a1∧a1 <(a0.length:Int)),(Yn a0 a1),(Ym a0 a1)]
def Akk (x:Dr):BD:=[(some 0,some (!decide (x.2 <(x.1.length:Int))),⟨56,0,[(2,.dead)],[]⟩),(none,some ((FP x.1 x.2)),⟨56,0,[(2,iV ((LV x.1 x.2)))],[]⟩)]
def I6 (x:Dr):Nat:=((x.1.length:Int) - x.2).toNat
def PJ (x:Dr):Dr:=Bh I8 I7 (I6 x) x
theorem Au9 (a0:List Ab) (a1:Int) (hp:∀p∈Lo (a0,a1),p):∀p∈Ww (a0,a1),p:=
  (nT hp fun hp=>nT hp fun hp=>nT hp fun hp=>nT hp fun hp=>Aa (by intros;rfl) (nT hp fun _=>Ag))
def Ap3:=Jt (Co Bcp.1 TL.1) (Aw AP 32 0) Axr Axq Yo I6 I8 I7 Lo Akk
def Abh:=V8 0 (g:=Ap3) (BX (T:=Axs) (psA:=Ww) Bcp.2 TL.2 (u:=9) (by kernel_rfl) (by decide) (fun⟨a0,a1⟩=>by kernel_rfl) (fun⟨a0,a1⟩=>Au9 a0 a1) (fun s x h=>by unfold Yo at h;split at h<;>first|(cases h;rfl)|cases h) (fun _=>A9 (n:=56) rfl) fun _ _=>rfl) TL
def Yl (a0:List Ab):Int:=(PJ (a0,0)).2
def Yk (a0:List Ab):List Ab:=(PJ (a0,0)).1
def Ln (a0:List Ab):Bool:=(a0.length:Int)==0
def Nn (a0:List Ab):Bool:=decide ((a0.length:Int) >4)
def OL (a0:List Ab):Int:=bif(Ln a0) then 2 else bif(Nn a0) then 3 else bif FP (Yk a0) (Yl a0) then LV (Yk a0) (Yl a0) else 0
def Ad7 (a0:List Ab):A:=iV ((OL a0))
def Ang (a0:List Ab):=(!(Ln a0))=true→(!(Nn a0))=true→A8 I8 I7 Lo (I6 (a0,0)) (a0,0)
def Anf (a0:List Ab):List Prop:=[(Ang a0)]
theorem Bai (a0:List Ab):RL (Co Bcp.1 Abh.1) 9 32 [.sl .group a0] 0 []=some (1,Ad7 a0,0,[],[((!(Ln a0))=true→(!(Nn a0))=true→Aw AP (32:FuncId) 0=Aw AP (32:FuncId) 0),(Ang a0)]):=by kernel_rfl
theorem Bfp (a0:List Ab) (hp:∀p∈Anf a0,p):An AP 32 [.sl .group a0] 0 [] 1 (Ad7 a0) 0 []:=
  AN (Au Bcp.2 Abh.2) (Bai a0) (Aa (by intros;rfl) (nT hp fun _=>Ag))
def Anh (a0:List Ab):A:=iV ((AI a0))
def Ag5 (a0:List Ab):List Prop:=[∀g∈a0,AJ g.name.size]
theorem tlb (a b:ByteArray):(a.toList==b.toList)=(a==b):=by
 rw[Bool.eq_iff_iff,Ard,beq_iff_eq]
theorem Bln (l:List Ab) (x:ByteArray) (i k:Nat) (_hi:i≤l.length) (_hk:k≤i) (h1:∀j,j <k→((l.getD j (Av TC.group)).1==x)=false) (h2:k <i→((l.getD k (Av TC.group)).1==x)=true):((l.take i).map (·.name)).any (fun s=>s==x)=decide (k <i):=by
 rw[List.any_map]
 by_cases h:k <i
 ·rw[decide_eq_true h]
  refine List.any_eq_true.2 ⟨l.getD k (Av TC.group),?_,h2 h⟩
  rw[List.getD_eq_getElem?_getD,List.getElem?_eq_getElem (by omega),Option.getD_some]
  exact List.mem_take_iff_getElem.2 ⟨k,by omega,rfl⟩
 ·rw[decide_eq_false h]
  refine Bool.eq_false_iff.2 fun ha=>?_
  obtain⟨g,hg,hx⟩:=List.any_eq_true.1 ha
  obtain⟨j,hj,rfl⟩:=List.mem_take_iff_getElem.1 hg
  have:=h1 j (by omega)
  rw[List.getD_eq_getElem?_getD,List.getElem?_eq_getElem (by omega),Option.getD_some] at this
  have hx':(l[j].1==x)=true:=hx
  rw[this] at hx'
  cases hx'
theorem A06 (l:List Ab) (_hl:l.length≤4) (i:Nat) (_hi:i <l.length):
  A8 Jb Ja NU (I9 (l,(i:Int),0)) (l,(i:Int),0)∧
  ES (GB (l,(i:Int),0)).1 (GB (l,(i:Int),0)).2.1 (GB (l,(i:Int),0)).2.2=((l.take i).map (·.name)).any (fun s=>s==(l.getD i (Av TC.group)).1):=by
 have ar:∀k:Nat,ES l (i:Int) (k:Int)=(decide (k <i)&&((l.getD k (Av TC.group)).1==(l.getD i (Av TC.group)).1)):=fun k=>by
  unfold ES
  rw[nn,T4,Int.toNat_natCast,Int.toNat_natCast,tlb]
 obtain⟨h1,k,hk,hx,hs,hst⟩:=Bg7 (fun k=>((l,(i:Int),(k:Int)):DO)) i (fun k=>(l.getD k (Av TC.group)).1==(l.getD i (Av TC.group)).1) Jb Ja NU (I9 (l,(i:Int),0)) (l,(i:Int),0) rfl (by show i≤((i:Int) - 0).toNat;omega)
  (fun k _ _=>by
   show((!!decide ((k:Int) <(i:Int)))&&!ES l i k)=_
   rw[ar,nn,T4]
   cases decide (k <i)<;>rfl)
  (fun k hk _=>by
   show(l,(i:Int),IntKind.i64.wrap ((k:Int)+1))=(l,(i:Int),((k+1:Nat):Int))
   rw[MO (by omega)])
  (fun k _ _=>Aa (fun h=>by
    have h':(!!decide ((k:Int) <(i:Int)))=true:=h
    rw[nn] at h'
    have:=of_decide_eq_true h'
    show(0:Int)≤(k:Int)∧(k:Int) <(l.length:Int)
    omega) (Aa (fun _=>by
    show(0:Int)≤(i:Int)∧(i:Int) <(l.length:Int)
    omega) Ag))
 refine⟨h1,?_⟩
 have hr:GB (l,(i:Int),0)=(l,(i:Int),(k:Int)):=hx
 rw[hr]
 show ES l (i:Int) (k:Int)=_
 rw[ar,Bln l _ i k (by omega) hk hs hst]
 by_cases h:k <i
 ·rw[hst h,Bool.and_true]
 ·rw[decide_eq_false h,Bool.false_and]
theorem Ane (l:List Ab) (hb:∀g∈l,AJ g.name.size):(∀p∈Anf l,p)∧OL l=AI l:=by
 have main:Ln l=false→Nn l=false→A8 I8 I7 Lo (I6 (l,0)) (l,0)∧OL l=AI l:=fun h1 h0=>by
  have si:l.length≤4:=by have h:=of_decide_eq_false h0;omega
  have hf1:∀i:Nat,Hb l (i:Int)=!(Mu (l.getD i (Av TC.group)).1&&Z9 (l.getD i (Av TC.group)).2):=fun i=>by
   unfold Hb Z9 Et
   rw[Int.toNat_natCast,Bool.not_and]
   congr 1
   simp[bne]
  have ar:∀i:Nat,FP l (i:Int)=(decide (i <l.length)&&WQ l i):=fun i=>by
   unfold FP Cv
   rw[hf1,nn,T4]
   by_cases hi:i <l.length
   ·rw[(A06 l si i hi).2];rfl
   ·rw[decide_eq_false hi];rfl
  obtain⟨g1,k,hk,hx,hs,hst⟩:=Bg7 (fun i=>((l,(i:Int)):Dr)) l.length (WQ l) I8 I7 Lo (I6 (l,0)) ((l,0):Dr) rfl
   (by show l.length≤((l.length:Int) - 0).toNat;omega)
   (fun i hi hs=>by
    show((!!decide ((i:Int) <(l.length:Int)))&&!FP l (i:Int))=_
    rw[ar i,nn,T4]
    cases decide (i <l.length)<;>rfl)
   (fun i hi hs=>by
    show(l,IntKind.i64.wrap ((i:Int)+1))=(l,((i+1:Nat):Int))
    rw[MO (by omega)])
   (fun i hi hs=>by
    have ae:(!!decide ((i:Int) <(l.length:Int)))=true→i <l.length:=fun h=>by
     rw[nn] at h
     have:=of_decide_eq_true h
     omega
    have au:(!!decide ((i:Int) <(l.length:Int)))=true→(0:Int)≤(i:Int)∧(i:Int) <(l.length:Int):=fun h=>by
     have:=ae h
     omega
    exact Aa au (Aa (fun h=>by
     have:=ae h
     show AJ (l.getD i (Av TC.group)).1.size
     rw[List.getD_eq_getElem?_getD,List.getElem?_eq_getElem this,Option.getD_some]
     exact hb _ (List.getElem_mem this)) (Aa (fun h _=>au h) (Aa (fun h _ _=>au h) (Aa (fun h _=>(A06 l si i (ae h)).1) Ag)))))
  refine⟨g1,?_⟩
  have hr:PJ (l,0)=(l,(k:Int)):=hx
  unfold OL Yl Yk
  rw[hr,h1,h0,cond_false,cond_false]
  show(bif FP l (k:Int) then LV l (k:Int) else 0)=_
  rw[ar k]
  have e1:(l.length==0)=false:=by rw[←A7b];exact h1
  have e2:decide (4 <l.length)=false:=decide_eq_false (by omega)
  unfold AI
  rw[e1,e2,cond_false,cond_false,Az8 l k [] (fun j hj hl=>by
   have:=hs j hj
   unfold WQ at this
   obtain⟨q1,q2⟩:=Bool.or_eq_false_iff.1 this
   exact⟨by rw[Bool.not_eq_false'] at q1;exact q1,by simpa using q2⟩),List.nil_append]
  by_cases fg:k <l.length
  ·have eo:=hst fg
   rw[eo,decide_eq_true fg,Bool.and_true,cond_true]
   have hd:l.drop k=l.getD k (Av TC.group)::l.drop (k+1):=by
    rw[List.getD_eq_getElem?_getD,List.getElem?_eq_getElem fg,Option.getD_some]
    exact List.drop_eq_getElem_cons fg
   rw[hd]
   unfold XA LV
   rw[hf1]
   unfold WQ at eo
   show(bif !(Mu (l.getD k (Av TC.group)).1&&Z9 (l.getD k (Av TC.group)).2) then(2:Int) else 70)=bif !(Mu (l.getD k (Av TC.group)).1&&Z9 (l.getD k (Av TC.group)).2) then 2 else _
   cases hq:!(Mu (l.getD k (Av TC.group)).1&&Z9 (l.getD k (Av TC.group)).2) with
   |true=>rfl
   |false=>
    rw[hq,Bool.false_or] at eo
    have jf:((l.take k).map (·.name)).any (fun s=>s==(l.getD k (Av TC.group)).name)=true:=eo
    rw[cond_false,cond_false,jf]
    rfl
  ·rw[decide_eq_false fg,Bool.false_and,cond_false,List.drop_eq_nil_of_le (by omega)]
   rfl
 cases h1:Ln l with
 |true=>
  refine⟨Aa (fun h=>by rw[h1] at h;cases h) Ag,?_⟩
  unfold OL AI
  rw[h1,cond_true,←A7b]
  unfold Ln at h1
  rw[h1]
  rfl
 | false=>
  cases h0:Nn l with
  |true=>
   refine⟨Aa (fun _ h=>by rw[h0] at h;cases h) Ag,?_⟩
   unfold OL AI
   rw[h1,h0,cond_false,cond_true,←A7b]
   unfold Ln at h1
   rw[h1,cond_false,←dgt l.length 4]
   unfold Nn at h0
   rw[show(decide ((l.length:Int) >((4:Nat):Int)))=true from h0]
   rfl
  |false=>
   obtain⟨g1,g2⟩:=main h1 h0
   exact⟨Aa (fun _ _=>g1) Ag,g2⟩
theorem Bah (a0:List Ab) (hp:∀p∈Ag5 a0,p):An AP 32 [.sl .group a0] 0 [] 1 (Anh a0) 0 []:=by
 have hb:∀g∈a0,AJ g.name.size:=hp _ (List.mem_cons_self ..)
 have h:=Bfp a0 (Ane a0 hb).1
 unfold Ad7 at h
 rw[(Ane a0 hb).2] at h
 exact h
theorem Qe:Gw AP 32 (Cy [.l .group] 0 Anh (fun _=>[]) Ag5):=Az Bah
def B64:=DM Qe Bcp
abbrev Ch:=B64
end Go.Proofs.YtifkbgkbajncjaaGreatDoor
namespace Go.Proofs.YtifkbgkbajncjaaGreatDoor
open Go.RowKit Go.Shelf
attribute [local go_sem] Oper.semAt_some
def gV (g:Ab):Value:=.agg #[.string g.name,.int .i64 g.policy]
def cV (c:Ax):Value:=.agg #[.int .i64 c.stamp.n,.int .i64 c.stamp.site,.int .i64 c.vec.a,.int .i64 c.vec.b,.bool c.gone,.string c.value,.int .i64 c.dead.a,.int .i64 c.dead.b]
structure KB (n₀ X:Nat) (W W':World):Prop where
 os:W'.os=W.os
 tape:W'.tape=W.tape
 output:W'.output=W.output
 size:W.heap.size≤W'.heap.size
 block:∀k,k <n₀→k≠X→W'.heap[k]?=W.heap[k]?
theorem KB.refl (n₀ X:Nat) (W:World):KB n₀ X W W:=⟨rfl,rfl,rfl,Nat.le_refl _,fun _ _ _=>rfl⟩
theorem KB.trans {n₀ X:Nat} {A B C:World} (h:KB n₀ X A B) (k:KB n₀ X B C):KB n₀ X A C:=
 ⟨k.os.trans h.os,k.tape.trans h.tape,k.output.trans h.output,Nat.le_trans h.size k.size,fun i h1 h2=>(k.block i h1 h2).trans (h.block i h1 h2)⟩
theorem KB.of_below {n₀ X:Nat} {A B:World} (h:Below n₀ A B):KB n₀ X A B:=⟨h.os,h.tape,h.output,h.size,fun k hk _=>h.block k hk⟩
theorem KB.cell {n₀ X:Nat} {A B:World} {p:Addr} (h:KB n₀ X A B) (hp:p.block <n₀) (hx:p.block≠X):B.cell? p=A.cell? p:=World.cell?_of_block (h.block _ hp hx)
theorem KB.putObj {n₀ X:Nat} {w:World} (hn:n₀≤w.heap.size) (W:World) (l:Nat) (o o':Obj) (hl:w.heap.size≤l) (h:W.heap[l]?=some o) (h1:o.isCells=false) (h2:o.isWalk=false):KB n₀ X W (W.putObj l o'):=
 KB.of_below (belowK_b hn W l o o' hl h h1 h2)
def A6z (n₀ X:Nat) (W:World) (b off:Nat) (l:List Ab):Prop:=(b <n₀∧b≠X)∧∀j g,l[j]?=some g→W.cell? ⟨b,off+j*2,none⟩=some (.string g.name)∧W.cell? ⟨b,off+j*2+1,none⟩=some (.int .i64 g.policy)
def A6r (n₀ X:Nat) (W:World) (b off:Nat) (l:List Ax):Prop:=(b <n₀∧b≠X)∧∀j c,l[j]?=some c→W.cell? ⟨b,off+j*8,none⟩=some (.int .i64 c.stamp.n)∧W.cell? ⟨b,off+j*8+1,none⟩=some (.int .i64 c.stamp.site)∧W.cell? ⟨b,off+j*8+2,none⟩=some (.int .i64 c.vec.a)∧W.cell? ⟨b,off+j*8+3,none⟩=some (.int .i64 c.vec.b)∧W.cell? ⟨b,off+j*8+4,none⟩=some (.bool c.gone)∧W.cell? ⟨b,off+j*8+5,none⟩=some (.string c.value)∧W.cell? ⟨b,off+j*8+6,none⟩=some (.int .i64 c.dead.a)∧W.cell? ⟨b,off+j*8+7,none⟩=some (.int .i64 c.dead.b)
theorem A6z.kept {n₀ X:Nat} {W W':World} {b off:Nat} {l:List Ab} (h:A6z n₀ X W b off l) (hb:KB n₀ X W W'):A6z n₀ X W' b off l:=
 ⟨h.1,fun j g hg=>⟨(hb.cell (p:=⟨b,_,none⟩) h.1.1 h.1.2).trans (h.2 j g hg).1,(hb.cell (p:=⟨b,_,none⟩) h.1.1 h.1.2).trans (h.2 j g hg).2⟩⟩
theorem A6r.kept {n₀ X:Nat} {W W':World} {b off:Nat} {l:List Ax} (h:A6r n₀ X W b off l) (hb:KB n₀ X W W'):A6r n₀ X W' b off l:=by
 refine⟨h.1,fun j c hc=>?_⟩
 obtain⟨h0,h1,h2,h3,h4,h5,h6,h7⟩:=h.2 j c hc
 have k:∀o,W'.cell? ⟨b,o,none⟩=W.cell? ⟨b,o,none⟩:=fun o=>hb.cell (p:=⟨b,o,none⟩) h.1.1 h.1.2
 exact⟨(k _).trans h0,(k _).trans h1,(k _).trans h2,(k _).trans h3,(k _).trans h4,(k _).trans h5,(k _).trans h6,(k _).trans h7⟩
theorem Bd6 {W W':World} (h:Below W.heap.size W W'):W.grownBy W' none:=⟨h.os,h.tape,h.output,h.size,fun k hk _=>h.block k hk⟩
def Bvo (x:Ab×Ax):Array Value:=#[gV x.1,cV x.2]
theorem Bun {α β:Type} (l:List α) (r:List β) (k:Nat) (x:α) (y:β) (hx:l[k]?=some x) (hy:r[k]?=some y):(l.zip r).take (k+1)=(l.zip r).take k++[(x,y)]:=by
 rw[List.take_add_one,(List.getElem?_zip_eq_some (z:=(x,y))).2 ⟨hx,hy⟩]
 rfl
set_option maxHeartbeats 4000000 in
theorem Bmx (n:Nat) (hn:1≤n) (l B2 B3 n₀ b off cap b' br i6 X:Nat) (gs:List Ab) (cs:List Ax) (_hlen:cs.length=gs.length) (_hl4:gs.length≤4) (J Jx:List (Ab×Ax)→World→Prop) (n1:Nat) (kz:n₀≤n1) (wy:AbidesFrom n1 J) (hY:∀pre x W,J pre W→pre.length <gs.length→YieldAt Fence.wide (n - 1) Tryz.prog l (Bvo x) W fun e W'=>
      (e=.returned (.bool true)∧J (pre++[x]) W'∧KB n₀ X W W')∨(e=.returned (.bool false)∧Jx (pre++[x]) W')) (W:World) (xd:n1=W.heap.size) (h2:W.cell? ⟨B2,0,none⟩=some (.slice (some ⟨b,off,none⟩) gs.length cap)) (h3:W.cell? ⟨B3,1,none⟩=some (.slice (some ⟨b',br,none⟩) cs.length i6)) (hB2:B2 <n₀∧B2≠X) (kh:B3 <n₀∧B3≠X) (hg:A6z n₀ X W b off gs) (hc:A6r n₀ X W b' br cs) (h0:J [] W):
    CallsIn Fence.wide n Tryz.prog 95 #[.func (.yield l) #[] #[],.pointer (some ⟨B2,0,none⟩),.pointer (some ⟨B3,0,none⟩)] W fun e W'=>(∃v,e=.returned v)∧
      ((∃ys,ys=gs.zip cs∧J ys W')∨(∃pre,(∃k,k≤gs.length∧pre=(gs.zip cs).take k)∧Jx pre W')):=by
  refine callsIn_of_wp Tryz.func95 rfl trivial ?_ rfl
  simp only[Tryz.ntmps95,List.size_toArray,List.length_cons,List.length_nil,Nat.reduceAdd,Nat.reduceSub,Array.replicate_succ,Array.replicate_zero,List.push_toArray,List.append_toArray,List.nil_append,List.cons_append]
  gi_wp2
  gi_loopw [8] (fun i wr=>∃k:Nat,k≤gs.length∧i=.int .i64 k∧J ((gs.zip cs).take k) wr∧KB n₀ X W wr∧W.heap.size≤wr.heap.size) (fun i _=>gs.length - (intOf i).toNat)
  case atStart=>exact⟨0,Nat.zero_le _,rfl,h0,KB.refl _ _ _,Nat.le_refl _⟩
  case round=>
    obtain⟨k,hk,rfl,qy,hnx,bc⟩:=hrel
    by_cases ae:k <gs.length
    · have bu:k <cs.length:=by omega
      obtain⟨hg1,pw⟩:=(hg.kept hnx).2 k gs[k] (List.getElem?_eq_getElem ae)
      have et:=(hnx.cell (p:=⟨B2,0,none⟩) hB2.1 hB2.2).trans h2
      gi_wp2
      have hb3:Below wr.heap.size wr (wr.alloc (.cells #[.string gs[k].name,.int .i64 gs[k].policy] 106)):=(Below.refl _ wr).alloc (Nat.le_refl _) _
      have hv:wr.heap.size=wr.heap.size:=rfl
      have hn:=World.alloc_heap_new wr (.cells #[.string gs[k].name,.int .i64 gs[k].policy] 106)
      generalize wr.alloc (.cells #[.string gs[k].name,.int .i64 gs[k].policy] 106)=W3 at hb3 hn⊢
      have hb4:KB n₀ X wr W3:=KB.of_below (hb3.mono (Nat.le_trans kz (by rw[xd];exact bc)))
      have xh:KB n₀ X W3 W3.drew:=KB.of_below ((Below.refl _ W3).drew)
      obtain⟨uk,hc1,um,hc3,hc4,pt,hc6,hc7⟩:=((hc.kept hnx).kept hb4).2 k cs[k] (List.getElem?_eq_getElem bu)
      have ef:=((hnx.trans hb4).cell (p:=⟨B3,1,none⟩) kh.1 kh.2).trans h3
      have hz:((gs.zip cs).take k).length <gs.length:=by rw[List.length_take,List.length_zip];omega
      have wx:J ((gs.zip cs).take k) W3.drew:=wy _ wr _ none qy (Bd6 hb3.drew) (fun r e=>by cases e)
      obtain⟨fn,tmps,assign,body,hy,hR⟩:=hY _ (gs[k],cs[k]) _ wx hz
      have hR2:RoundIn Fence.wide (n - 1) Tryz.prog l fn tmps assign body W3.drew fun e W'=>∃q:Bool,e=.returned (.bool q)∧(q=true→J ((gs.zip cs).take (k+1)) W'∧KB n₀ X wr W')∧(q=false→Jx ((gs.zip cs).take (k+1)) W'):=by
        refine hR.mono ?_
        rw[←Bun gs cs k gs[k] cs[k] (List.getElem?_eq_getElem ae) (List.getElem?_eq_getElem bu)]
        rintro e W' (⟨rfl,h1,h2⟩|⟨rfl,h1⟩)
        ·exact⟨true,rfl,⟨fun _=>⟨h1,(hb4.trans xh).trans h2⟩,fun h=>by cases h⟩⟩
        ·exact⟨false,rfl,⟨fun h=>(by cases h),fun _=>h1⟩⟩
      clear hR
      have hm:Tryz.prog.follows .mixedOrders=true:=by kernel_rfl
      dsimp only[Bvo,gV,cV] at hy
      obtain⟨eg,hn1'⟩:=cb2 hn
      gi_region_with_o (refine hR2.mono ?_;rintro e W4 ⟨q,rfl,jo,ka⟩)
      all_goals (cases q)
      all_goals gi_wp2
      all_goals first
        |(refine bodyPost_ret (results_none rfl _ _ _) rfl ?_;exact⟨⟨_,rfl⟩,.inr ⟨_,⟨k+1,by omega,rfl⟩,ka (by trivial)⟩⟩)
        | (obtain⟨q1,q2⟩:=jo (by trivial)
           exact⟨⟨k+1,by omega,rfl,q1,hnx.trans q2,Nat.le_trans bc q2.size⟩,by simp[intOf];omega⟩)
    · obtain rfl:k=gs.length:=by omega
      gi_wp2
      go_end0
      exact⟨⟨_,rfl⟩,.inl ⟨_,rfl,by rw[List.take_of_length_le (by rw[List.length_zip];omega)] at qy;exact qy⟩⟩
set_option maxHeartbeats 1000000 in
theorem Bsg (n:Nat) (a:Option Addr) (len cap:Nat) (v1:Value) (key:ByteArray) (w:World):
  CallsIn Fence.wide n Tryz.prog 55 #[.slice a len cap,.agg #[.string key,v1]] w fun e w'=>e=.returned (.func (.func 95) #[] #[.pointer (some ⟨w.heap.size,0,none⟩),.pointer (some ⟨w.heap.size+1,0,none⟩)])∧w'=(w.alloc (.cells #[.slice a len cap] 22)).alloc (.cells #[.string key,v1] 62):=by
 refine callsIn_of_wp Tryz.func55 rfl trivial ?_ rfl
 simp only[Tryz.ntmps55,List.size_toArray,List.length_cons,List.length_nil,Nat.reduceAdd,Nat.reduceSub,Array.replicate_succ,Array.replicate_zero,List.push_toArray,List.append_toArray,List.nil_append,List.cons_append]
 gi_wp2
 go_ret
 exact⟨rfl,rfl⟩
theorem A9r (n:Nat) (hn:1≤n) (B2 B3 n₀ X b off cap b' br i6:Nat) (gs:List Ab) (cs:List Ax) (hlen:cs.length=gs.length) (p9:gs.length≤4) (w:World) (hn₀:n₀≤w.heap.size) (h2:w.cell? ⟨B2,0,none⟩=some (.slice (some ⟨b,off,none⟩) gs.length cap)) (h3:w.cell? ⟨B3,1,none⟩=some (.slice (some ⟨b',br,none⟩) cs.length i6)) (hB2:B2 <n₀∧B2≠X) (kh:B3 <n₀∧B3≠X) (hg:A6z n₀ X w b off gs) (hc:A6r n₀ X w b' br cs):
  SeqStopsK Fence.wide n Tryz.prog 95 #[.pointer (some ⟨B2,0,none⟩),.pointer (some ⟨B3,0,none⟩)] Bvo (KB n₀ X) (fun ys=>ys=gs.zip cs) (fun pre=>∃k,k≤gs.length∧pre=(gs.zip cs).take k) gs.length w:=fun l J Jx W hW hJ _ hY h0=>by
 have hk:KB n₀ X w W:=KB.of_below (hW.mono hn₀)
 exact Bmx n hn l B2 B3 n₀ b off cap b' br i6 X gs cs hlen p9 J Jx W.heap.size (Nat.le_trans hn₀ hW.size) hJ hY W rfl ((hk.cell (p:=⟨B2,0,none⟩) hB2.1 hB2.2).trans h2) ((hk.cell (p:=⟨B3,1,none⟩) kh.1 kh.2).trans h3) hB2 kh (hg.kept hk) (hc.kept hk) h0
def Ut (p:Int) (G:Int→Ax→Bool) (gs:List Ab) (key:ByteArray) (cs:List Ax):Int:=
 if(p !=0)=true then p else if key.toList.isEmpty=true then 2 else if 32 <(key.size:Int) then 3 else if((cs.length:Int) !=(gs.length:Int))=true then 100 else bif(gs.zip cs).all (fun x=>G x.1.policy x.2) then 0 else 80
theorem Aq9 {β:Type} (B:Nat) (cs:Array Value) (t:TypeId):Own (fun(_:β) W=>W.heap[B]?=some (.cells cs t (0,0))):=fun s W W' row hs hg hr=>by
 refine(hg.block B (KA hs) fun e=>?_).trans hs
 obtain⟨o,h1,h2⟩:=hr B e.symm
 rw[hs] at h1
 cases h1
 cases h2
theorem PG (B:Nat) {W W':World} (h:Below W.heap.size W W'):KeepsFrom B W W':=⟨h.size,fun k _ _ hk _=>(h.block k (KA hk)).trans hk⟩
theorem Ags {β:Type} (B n:Nat):OwnFrom B (fun(_:β) W=>n≤W.heap.size):=fun _ _ _ _ hs hg _=>Nat.le_trans hs hg.size
set_option maxHeartbeats 4000000 in
theorem Bbr (w:World) (a0 a1:Option Addr) (gs:List Ab) (cs:List Ax) (key:ByteArray) (cw cp:Nat) (p:Int) (G:Int→Ax→Bool) (hP:∀W,Below w.heap.size w W→Calls Tryz.prog 25 #[.slice a0 gs.length cw] W fun e W'=>e=.returned (.int .i64 p)∧Below W.heap.size W W') (qc:p=0→1≤gs.length∧gs.length≤4) (hC:∀(q:Int) (c:Ax) W,Below w.heap.size w W→Calls Tryz.prog 94 #[.int .i64 q,cV c] W fun e W'=>e=.returned (.bool (G q c))∧Below W.heap.size W W') (hG:0 <gs.length→∃b off,a0=some ⟨b,off,none⟩∧A6z w.heap.size w.heap.size w b off gs) (hS:0 <cs.length→∃b off,a1=some ⟨b,off,none⟩∧A6r w.heap.size w.heap.size w b off cs):
    Calls Tryz.prog 54 #[.slice a0 gs.length cw,.agg #[.string key,.slice a1 cs.length cp]] w fun e W'=>e=.returned (.int .i64 (Ut p G gs key cs))∧Below w.heap.size w W':=by
  refine(callsIn_wide (n:=5)).1 ?_
  refine callsIn_of_wp_marks Tryz.func54 rfl trivial ?_ rfl
  simp only[Tryz.ntmps54,List.size_toArray,List.length_cons,List.length_nil,Nat.reduceAdd,Nat.reduceSub,Array.replicate_succ,Array.replicate_zero,List.push_toArray,List.append_toArray,List.nil_append,List.cons_append]
  have hw2:Below w.heap.size w ((w.alloc (.cells #[.string key,.slice a1 cs.length cp] 62)).alloc (.cells #[.int .i64 0] 38)):=((Below.refl _ w).alloc (Nat.le_refl _) _).alloc (by simp) _
  have qd:=Aij (.cells #[.int .i64 0] 38) (Qr (w:=w) (.cells #[.string key,.slice a1 cs.length cp] 62) rfl)
  have mi:=Qr (w:=w.alloc (.cells #[.string key,.slice a1 cs.length cp] 62)) (.cells #[.int .i64 0] 38) (n:=w.heap.size+1) (by simp)
  gi_wp2_with (first
    |(refine⟨trivial,?_⟩;gi_at_call 25;refine(callsIn_wide.2 (hP _ hw2)).mono ?_;rintro e W1 ⟨rfl,hb1⟩;have hx1:=IR qd hb1;have ft:=IR mi hb1;obtain⟨c0,c1⟩:=cb2 hx1;have d0:=cb1 ft;have f0:=fb1 ft;have hB1:Below w.heap.size w W1:=hw2.trans (hb1.mono (by simp;omega));clear qd mi hb1)
    |(refine⟨trivial,?_⟩;gi_at_call 55;refine(Bsg _ _ _ _ _ _ _).mono ?_;rintro e W2 ⟨rfl,rfl⟩))
  · have h1:(p !=0)=true:=by assumption
    have e:Ut p G gs key cs=p:=by unfold Ut;rw[if_pos h1]
    have hc:=cb1 (Y7 (i:=0) ft (.int .i64 p))
    exact⟨.int .i64 p,by simp[results,Tryz.f54,go_sem,hc],by rw[e],hB1.setCell (p:=⟨w.heap.size+1,0,none⟩) (by simp) _⟩
  · have h1:(p !=0)=false:=by assumption
    have h2:key.toList.isEmpty=true:=by assumption
    have e:Ut p G gs key cs=2:=by unfold Ut;rw[if_neg (by rw[h1];simp),if_pos h2]
    have hc:=cb1 (Y7 (i:=0) ft (.int .i64 2))
    exact⟨.int .i64 2,by simp[results,Tryz.f54,go_sem,hc],by rw[e],hB1.setCell (p:=⟨w.heap.size+1,0,none⟩) (by simp) _⟩
  · have h1:(p !=0)=false:=by assumption
    have h2:key.toList.isEmpty=false:=by assumption
    have h3:32 <(key.size:Int):=by assumption
    have e:Ut p G gs key cs=3:=by unfold Ut;rw[if_neg (by rw[h1];simp),if_neg (by rw[h2];simp),if_pos h3]
    have hc:=cb1 (Y7 (i:=0) ft (.int .i64 3))
    exact⟨.int .i64 3,by simp[results,Tryz.f54,go_sem,hc],by rw[e],hB1.setCell (p:=⟨w.heap.size+1,0,none⟩) (by simp) _⟩
  · have h1:(p !=0)=false:=by assumption
    have h2:key.toList.isEmpty=false:=by assumption
    have h3:(key.size:Int)≤32:=by assumption
    have h4:((cs.length:Int) !=(gs.length:Int))=true:=by assumption
    have e:Ut p G gs key cs=100:=by unfold Ut;rw[if_neg (by rw[h1];simp),if_neg (by rw[h2];simp),if_neg (by omega),if_pos h4]
    have hc:=cb1 (Y7 (i:=0) ft (.int .i64 100))
    exact⟨.int .i64 100,by simp[results,Tryz.f54,go_sem,hc],by rw[e],hB1.setCell (p:=⟨w.heap.size+1,0,none⟩) (by simp) _⟩
  have h1:(p !=0)=false:=by assumption
  have h2:key.toList.isEmpty=false:=by assumption
  have h3:(key.size:Int)≤32:=by assumption
  have h4:((cs.length:Int) !=(gs.length:Int))=false:=by assumption
  have e:Ut p G gs key cs=bif(gs.zip cs).all (fun x=>G x.1.policy x.2) then 0 else 80:=by unfold Ut;rw[if_neg (by rw[h1];simp),if_neg (by rw[h2];simp),if_neg (by omega),if_neg (by rw[h4];simp)]
  have hp:p=0:=by simpa using h1
  clear h1
  subst hp
  have hlen : cs.length = gs.length := by have:(cs.length:Int)=gs.length:=by simpa using h4
                                          omega
  obtain⟨hl1,p9⟩:=qc rfl
  obtain⟨b,off,rfl,hg⟩:=hG (by omega)
  obtain⟨b',br,rfl,hc⟩:=hS (by omega)
  have hW2:Below W1.heap.size W1 ((W1.alloc (.cells #[.slice (some ⟨b,off,none⟩) gs.length cw] 22)).alloc (.cells #[.string key,.slice (some ⟨b',br,none⟩) cs.length cp] 62)):=((Below.refl _ W1).alloc (Nat.le_refl _) _).alloc (by simp) _
  have vb:=Aij (.cells #[.string key,.slice (some ⟨b',br,none⟩) cs.length cp] 62) (Qr (w:=W1) (.cells #[.slice (some ⟨b,off,none⟩) gs.length cw] 22) rfl)
  have ta:=Qr (w:=W1.alloc (.cells #[.slice (some ⟨b,off,none⟩) gs.length cw] 22)) (.cells #[.string key,.slice (some ⟨b',br,none⟩) cs.length cp] 62) (n:=W1.heap.size+1) (by simp)
  have vc:=IR ft hW2
  have lf:=KA ft
  have qe:=KA ta
  have hB2:=hB1.trans (hW2.mono hB1.size)
  generalize (W1.alloc (.cells #[.slice (some ⟨b,off,none⟩) gs.length cw] 22)).alloc (.cells #[.string key,.slice (some ⟨b',br,none⟩) cs.length cp] 62)=W2 at hW2 vb ta vc qe hB2⊢
  have pw:A6z W2.heap.size W2.heap.size W2 b off gs:=⟨⟨by have:=hg.1.1;omega,by have:=hg.1.1;omega⟩,fun j g hj=>⟨(hB2.cell (p:=⟨b,_,none⟩) hg.1.1).trans (hg.2 j g hj).1,(hB2.cell (p:=⟨b,_,none⟩) hg.1.1).trans (hg.2 j g hj).2⟩⟩
  have um:A6r W2.heap.size W2.heap.size W2 b' br cs:=by
    refine⟨⟨by have:=hc.1.1;omega,by have:=hc.1.1;omega⟩,fun j c hj=>?_⟩
    have k:∀o,W2.cell? ⟨b',o,none⟩=w.cell? ⟨b',o,none⟩:=fun o=>hB2.cell (p:=⟨b',o,none⟩) hc.1.1
    simp only[k]
    exact hc.2 j c hj
  refine wpIn_rangeFunc_ownH (F:=Fence.wide) rfl (by omega) (gf:=95) (lb:=#[.pointer (some ⟨W1.heap.size,0,none⟩),.pointer (some ⟨W1.heap.size+1,0,none⟩)]) rfl trivial (enters_of Tryz.func95 (by kernel_rfl) rfl)
    (A9r _ (by omega) W1.heap.size (W1.heap.size+1) W2.heap.size W2.heap.size b off cw b' br cp gs cs hlen p9 W2 (Nat.le_refl _) (cb1 vb) (cb2 ta).2 ⟨by omega,by omega⟩ ⟨by omega,by omega⟩ pw um)
    KB.trans (KB.putObj (Nat.le_refl _)) (Below.refl _ _) (fun _=>rfl)
    (fun pre W=>((∀x∈pre,G x.1.policy x.2=true)∧W.heap[w.heap.size+1]?=some (.cells #[.int .i64 0] 38 (0,0)))∧Below w.heap.size w W∧W2.heap.size≤W.heap.size)
    (fun c pre W=>((c=.ret∧∃x∈pre,G x.1.policy x.2=false)∧W.heap[w.heap.size+1]?=some (.cells #[.int .i64 80] 38 (0,0)))∧Below w.heap.size w W∧W2.heap.size≤W.heap.size)
    (OwnFrom.and (OwnFrom.and (ownFrom_pure _ _) (Own.from (Aq9 _ _ _) _)) (OwnFrom.and (ownFrom_below (Nat.le_refl _) hB2.size) (Ags _ _)))
    (fun c=>OwnFrom.and (OwnFrom.and (ownFrom_pure _ _) (Own.from (Aq9 _ _ _) _)) (OwnFrom.and (ownFrom_below (Nat.le_refl _) hB2.size) (Ags _ _)))
    ⟨⟨by simp,vc⟩,hB2,Nat.le_refl _⟩
    (fun x a' W=>(∃B6 B7,a'={tmps:=#[Value.slice (some ⟨b,off,none⟩) gs.length cw,Value.agg #[Value.string key,Value.slice (some ⟨b',br,none⟩) cs.length cp],undef,
          Value.pointer (some {block:=w.heap.size,off:=0}),
          Value.pointer (some {block:=w.heap.size+1,off:=0}),Value.int IntKind.i64 0,Value.pointer (some ⟨B6,0,none⟩),Value.pointer (some ⟨B7,0,none⟩),
          Value.slice (some ⟨b,off,none⟩) gs.length cw,Value.int IntKind.i64 0,Value.int IntKind.i64 0,Value.bool false,undef,
          Value.bool false,Value.pointer (some {block:=w.heap.size,off:=0}),Value.string key,Value.bool false,
          Value.bool (decide (32 <(key.size:Int))),Value.pointer (some {block:=w.heap.size,off:=0}),
          Value.string key,Value.int IntKind.i64 key.size,Value.bool (decide (32 <(key.size:Int))),Value.bool false,
          Value.pointer (some {block:=w.heap.size,off:=1}),Value.slice (some ⟨b',br,none⟩) cs.length cp,
          Value.int IntKind.i64 cs.length,Value.slice (some ⟨b,off,none⟩) gs.length cw,Value.int IntKind.i64 gs.length,
          Value.bool false,Value.slice (some ⟨b,off,none⟩) gs.length cw,Value.agg #[Value.string key,Value.slice (some ⟨b',br,none⟩) cs.length cp],
          Value.func (Fn.func 95) #[] #[Value.pointer (some {block:=W1.heap.size,off:=0}),Value.pointer (some {block:=W1.heap.size+1,off:=0})],
          gV x.1,cV x.2,undef,undef,undef,undef,undef],defers:=[]}∧
        (W.heap[B6]?=some (.cells #[.string x.1.name,.int .i64 x.1.policy] 106 (0,0))∧W.heap[B7]?=some (.cells #[.int .i64 x.2.stamp.n,.int .i64 x.2.stamp.site,.int .i64 x.2.vec.a,.int .i64 x.2.vec.b,.bool x.2.gone,.string x.2.value,.int .i64 x.2.dead.a,.int .i64 x.2.dead.b] 104 (0,0)))))
    (fun x a'=>Own.from (fun s X Y row hs uw hr=>by
      obtain⟨B6,B7,e1,e2,e3⟩:=hs
      exact⟨B6,B7,e1,Aq9 B6 _ _ s X Y row e2 uw hr,Aq9 B7 _ _ s X Y row e3 uw hr⟩) _) ?assign ?body ?done ?stop
  case assign=>
    rintro l pre x W K ⟨⟨i1,i2⟩,i3,i4⟩ hK
    clear hlen h4
    dsimp only[Bvo,gV,cV] at hK⊢
    gi_wp2
    have hb:Below W.heap.size W ((W.alloc (.cells #[.string x.1.name,.int .i64 x.1.policy] 106)).alloc (.cells #[.int .i64 x.2.stamp.n,.int .i64 x.2.stamp.site,.int .i64 x.2.vec.a,.int .i64 x.2.vec.b,.bool x.2.gone,.string x.2.value,.int .i64 x.2.dead.a,.int .i64 x.2.dead.b] 104)):=((Below.refl _ W).alloc (Nat.le_refl _) _).alloc (by simp) _
    exact hK _ _ (PG _ hb) (KB.of_below (hb.mono i4)) ⟨⟨i1,IR i2 hb⟩,i3.trans (hb.mono i3.size),Nat.le_trans i4 hb.size⟩ ⟨W.heap.size,W.heap.size+1,rfl,Aij _ (Qr _ rfl),Qr _ (by simp)⟩
  case body=>
    rintro l pre x a' W hl hr ⟨⟨i1,i2⟩,i3,i5⟩ ⟨B6,B7,rfl,e6,e7⟩ ae
    obtain⟨k0,k1⟩:=cb2 e6
    obtain⟨m0,m1,m2,m3,m4,m5,m6,m7⟩:=cb8 e7
    have d0:=cb1 i2
    have f0:=fb1 i2
    cases ng:G x.1.policy x.2 with
    | true=>
      gi_wp2_with (refine⟨trivial,?_⟩;gi_at_call 94;refine(CallsIn.inRound l (callsIn_wide.2 (hC x.1.policy x.2 _ i3))).mono ?_;rw[ng];rintro e W' ⟨rfl,hb⟩)
      exact⟨PG _ hb,KB.of_below (hb.mono i5),⟨fun y hy=>(List.mem_append.1 hy).elim (i1 y) (fun e=>by simp at e;subst e;exact ng),IR i2 hb⟩,i3.trans (hb.mono i3.size),Nat.le_trans i5 hb.size⟩
    | false=>
      gi_wp2_with (refine⟨trivial,?_⟩;gi_at_call 94;refine(CallsIn.inRound l (callsIn_wide.2 (hC x.1.policy x.2 _ i3))).mono ?_;rw[ng];rintro e W' ⟨rfl,hb⟩;have i4:=IR i2 hb;have d4:=cb1 i4;have f4:=fb1 i4)
      exact⟨(PG _ hb).trans ((KeepsOthers.setCell _ _ _).from _),⟨⟨rfl,x,by simp,ng⟩,Y7 (i:=0) i4 (.int .i64 80)⟩,(i3.trans (hb.mono i3.size)).setCell (p:=⟨w.heap.size+1,0,none⟩) (by simp) _,Nat.le_trans i5 (by rw[Bb1];exact hb.size)⟩
  case done=>
    rintro D ys W hD rfl ⟨⟨i1,i2⟩,i3,i5⟩ hK
    have d0:=cb1 i2
    have f0:=fb1 i2
    gi_wp2
    have qz:=(KeepsOthers.setCell W ⟨w.heap.size+1,0,none⟩ (.int .i64 0)).same D _ hK rfl
    refine⟨by simp,.inl ⟨_,_,rfl,run_takeDeferred qz,?_⟩⟩
    have pt:=cell_kept (World.cell?_setCell_same' W ⟨w.heap.size+1,0,none⟩ (.int .i64 0) (by rw[d0];rfl)) (grownBy_putObj' _ D (.deferred none)) (fun r e=>by cases e;exact⟨_,qz,rfl⟩)
    refine⟨.int .i64 0,?_,?_,(i3.setCell (p:=⟨w.heap.size+1,0,none⟩) (by simp) _).trans (belowK_b (w:=w) (Nat.le_refl _) _ D _ _ (by have:=hB2.size;omega) qz rfl rfl)⟩
    ·simp[results,Tryz.f54,go_sem,pt]
    ·rw[List.all_eq_true.2 (fun x hx=>i1 x hx)];rfl
  case stop=>
    rintro D c pre W hD ⟨k,hk,rfl⟩ ⟨⟨⟨rfl,x,hx,ng⟩,i2⟩,i3,i5⟩ hK
    gi_wp2
    refine⟨by simp,.inl ⟨_,_,rfl,run_takeDeferred hK,?_⟩⟩
    have pt:=cell_kept (cb1 i2) (grownBy_putObj' _ D (.deferred none)) (fun r e=>by cases e;exact⟨_,hK,rfl⟩)
    refine⟨.int .i64 80,?_,?_,i3.trans (belowK_b (w:=w) (Nat.le_refl _) W D _ _ (by have:=hB2.size;omega) hK rfl rfl)⟩
    ·simp[results,Tryz.f54,go_sem,pt]
    · have:(gs.zip cs).all (fun x=>G x.1.policy x.2)=false:=by
        cases ha:(gs.zip cs).all (fun x=>G x.1.policy x.2) with
        |false=>rfl
        |true=>have:=(List.all_eq_true.1 ha) x (List.mem_of_mem_take hx);rw[ng] at this;cases this
      rw[this];rfl
end Go.Proofs.YtifkbgkbajncjaaGreatDoor
namespace Go.Proofs.YtifkbgkbajncjaaGreatDoor
open Go.RowKit
def BO (l:List Ab) (r:AR):Int:=bif AI l !=0 then AI l else bif r.key.size==0 then 2 else bif decide (32 <r.key.size) then 3 else bif r.cells.length !=l.length then 100 else bif(l.zip r.cells).all (fun x=>Gs x.1.policy x.2) then 0 else 80
def Ao2 (a0:List Ab) (a1:AR):A:=iV ((BO a0 a1))
def Ah1 (_a0:List Ab) (_a1:AR):List Prop:=[]
theorem A25 (k:ByteArray):k.toList.isEmpty=(k.size==0):=by
 rw[ByteArray.toList_eq,Bool.eq_iff_iff,List.isEmpty_iff,beq_iff_eq,←Nx]
 exact⟨fun h=>by rw[h];rfl,fun h=>List.eq_nil_of_length_eq_zero h⟩
theorem Bra (l:List Ab) (key:ByteArray) (cs:List Ax):Ut (AI l) Gs l key cs=BO l ⟨key,cs⟩:=by
 unfold Ut BO
 rw[A25]
 have e3:decide (32 <((key.size:Nat):Int))=decide (32 <key.size):=decide_eq_decide.2 (by omega)
 have e4:(((cs.length:Nat):Int) !=(l.length:Int))=(cs.length !=l.length):=by
  rw[Bool.eq_iff_iff,bne_iff_ne,bne_iff_ne];omega
 simp only[Bool.cond_eq_ite,e4,decide_eq_true_eq,show(32 <((key.size:Nat):Int))=(32 <key.size) from propext (by omega)]
theorem A1i {R:World} {ad:Addr} {v:Value} (h:R.cell? ad=some v):ad=⟨ad.block,ad.off,none⟩:=by
 cases ad with|mk b o s=>
 cases s with
 |none=>rfl
 |some q=>
  exfalso
  unfold World.cell? at h
  cases hb:R.heap[b]? with
  |none=>simp only[hb] at h;cases h
  |some ob=>cases ob<;>simp[hb] at h
theorem Bux (b o k j:Nat):((⟨b,o,none⟩:Addr).add k).add j=⟨b,o+k+j,none⟩:=by
 rw[D7,D7]
section
variable {F:Nat→Prop} {N:Nm} {nx:Nat} {R:World}
theorem HC.at0 {l:List A} {b o k j:Nat} {x:Value} (h:HC F N nx R l ((⟨b,o,none⟩:Addr).add k)) (hx:l[j]?=some (.v x)):R.cell? ⟨b,o+k+j,none⟩=some x:=by
 obtain⟨y,h1,h2⟩:=h j _ hx
 rw[Bux] at h1
 rw[h1,h2.v_inv]
theorem B50 {gs:List Ab} {v:Value} (hF:∀g,F g→g <R.heap.size) (h:Hv F N nx R (.sl .group gs) v):
  ∃a cap,v=.slice a gs.length cap∧(0 <gs.length→∃b off,a=some ⟨b,off,none⟩∧A6z R.heap.size R.heap.size R b off gs):=by
 obtain⟨a,cap,e,_,h2⟩:=h.sl_inv
 refine⟨a,cap,e,fun hn=>?_⟩
 obtain⟨ad,rfl,hb,h3⟩:=h2 hn
 have ae:=hF _ hb
 obtain⟨y,hy,_⟩:=h3 0 gs[0] (List.getElem?_eq_getElem hn) 0 (.v (.string gs[0].name)) rfl
 rw[Nat.zero_mul,add_zero,add_zero] at hy
 have hs:=A1i hy
 rw[hs] at h3⊢
 refine⟨ad.block,ad.off,rfl,⟨ae,Nat.ne_of_lt ae⟩,fun j g hj=>?_⟩
 have h4:=h3 j g hj
 exact⟨h4.at0 (j:=0) (x:=.string g.name) rfl,h4.at0 (j:=1) (x:=.int .i64 g.policy) rfl⟩
theorem B5b {cs:List Ax} {v:Value} (hF:∀g,F g→g <R.heap.size) (h:Hv F N nx R (.sl .cell cs) v):
  ∃a cap,v=.slice a cs.length cap∧(0 <cs.length→∃b off,a=some ⟨b,off,none⟩∧A6r R.heap.size R.heap.size R b off cs):=by
 obtain⟨a,cap,e,_,h2⟩:=h.sl_inv
 refine⟨a,cap,e,fun hn=>?_⟩
 obtain⟨ad,rfl,hb,h3⟩:=h2 hn
 have ae:=hF _ hb
 obtain⟨y,hy,_⟩:=h3 0 cs[0] (List.getElem?_eq_getElem hn) 0 (iV (cs[0].stamp.n)) rfl
 rw[Nat.zero_mul,add_zero,add_zero] at hy
 have hs:=A1i hy
 rw[hs] at h3⊢
 refine⟨ad.block,ad.off,rfl,⟨ae,Nat.ne_of_lt ae⟩,fun j c hj=>?_⟩
 have h4:=h3 j c hj
 exact⟨h4.at0 (j:=0) (x:=.int .i64 c.stamp.n) rfl,h4.at0 (j:=1) (x:=.int .i64 c.stamp.site) rfl,h4.at0 (j:=2) (x:=.int .i64 c.vec.a) rfl,h4.at0 (j:=3) (x:=.int .i64 c.vec.b) rfl,h4.at0 (j:=4) (x:=.bool c.gone) rfl,h4.at0 (j:=5) (x:=.string c.value) rfl,h4.at0 (j:=6) (x:=.int .i64 c.dead.a) rfl,h4.at0 (j:=7) (x:=.int .i64 c.dead.b) rfl⟩
theorem Bp.bare (hF:∀g,F g→g <R.heap.size) (hg:U1 F R):Bp F N 0 [] R:=⟨hF,fun _ _ h=>(by cases h),fun _ _ _ h=>(by cases h),fun _ _ _ _ _ h=>(by cases h),hg⟩
end
theorem An.plain {P:Program} {f:FuncId} {args:List A} {x:Value} (h:An P f args 0 [] 1 (.v x) 0 []) {F:Nat→Prop} {N:Nm} {R:World} {vs:List Value} (hF:∀g,F g→g <R.heap.size) (hg:U1 F R) (hv:HL F N 0 R args vs):
  Calls P f vs.toArray R fun e R'=>e=.returned x∧Below R.heap.size R R':=
 (h F N R vs (Bp.bare hF hg) hv).mono fun e R' ⟨y,F',N',e1,_,_,h4,h5⟩=>⟨by rw[e1,h4.v_inv],h5 (Nat.le_refl _)⟩
theorem Bbx (a0:List Ab) (a1:AR) (_hp:∀p∈Ah1 a0 a1,p):An AP 54 [.sl .group a0,AA .row a1] 0 [] 1 (Ao2 a0 a1) 0 []:=by
 intro F N R vs hR hv
 obtain⟨v0,vs,rfl,h0,hv⟩:=hv.inv
 obtain⟨v1,vs,rfl,h1,hv⟩:=hv.inv
 rw[hv.inv0]
 obtain⟨us,rfl,h2⟩:=Hv.agg_inv (xs:=[.v (.string a1.key),.sl .cell a1.cells]) h1
 clear h1
 have h1:=h2
 obtain⟨u0,us,rfl,k0,h1⟩:=h1.inv
 obtain⟨u1,us,rfl,k1,h1⟩:=h1.inv
 rw[h1.inv0]
 rw[k0.v_inv]
 obtain⟨aa,cw,rfl,g0⟩:=B50 hR.flt h0
 obtain⟨ab,cp,rfl,g1⟩:=B5b hR.flt k1
 refine(Bbr R aa ab a0 a1.cells a1.key cw cp (AI a0) Gs ?_ SI ?_ g0 g1).mono ?_
 ·intro W hW
  exact(XZ a0 (fun _ h=>by cases h)).plain (F:=F) (N:=N) (vs:=[_]) (hR.grow hW).1.flt (hR.grow hW).1.gl (HL.cons (h0.step (hR.grow hW).2) HL.nil)
 ·intro q c W hW
  have h:=(Amc q c (fun _ h=>by cases h)).plain (F:=F) (N:=N) (R:=W) (vs:=[.int .i64 q,cV c]) (hR.grow hW).1.flt (hR.grow hW).1.gl (HL.cons (.v _) (HL.cons (.v _) HL.nil))
  rw[Afu] at h
  exact h
 ·rintro e W ⟨rfl,hb⟩
  rw[Bra]
  exact⟨_,F,N,rfl,(hR.grow hb).1,Step.of_below hb,.v _,fun _=>hb⟩
theorem A5p:Gw AP 54 (Cy [.l .group,.t .row] 0 Ao2 (fun _ _=>[]) Ah1):=Az Bbx
def B65:=DM A5p Ch
abbrev Ci:=B65
def Aw8 (k:ByteArray):Int:=bif k.size==0 then 2 else bif decide (32 <k.size) then 3 else 0
def eqC (a b:Ax):Bool:=a.stamp.n==b.stamp.n&&a.stamp.site==b.stamp.site&&(a.vec.a==b.vec.a&&a.vec.b==b.vec.b)&&a.gone==b.gone&&a.value==b.value&&(a.dead.a==b.dead.a&&a.dead.b==b.dead.b)
def Ast:List Ax→List Ax→Bool
 | [],[]=>true
 |x::xs,y::ys=>eqC x y&&Ast xs ys
 |_,_=>false
def Aw2 (a b:AR):Bool:=a.key==b.key&&Ast a.cells b.cells
def QC (r:AR):Bool:=r.cells.all fun c=>eqC c Ok
def Akz (a0:ByteArray):Int:=bif a0.toList==(ByteArray.mk #[]).toList then 2 else bif decide ((a0.size:Int) >32) then 3 else 0
def A07 (a0:ByteArray):A:=iV ((Akz a0))
def Bgb (_a0:ByteArray):List Prop:=[]
theorem Bno (a0:ByteArray) (hp:∀p∈Bgb a0,p):An AP 104 [AA .str a0] 0 [] 1 (A07 a0) 0 []:=AN (u:=9) (Au Ci.2 AF) (by kernel_rfl) hp
def Avo (a0:ByteArray):A:=iV ((Aw8 a0))
def An0 (_a0:ByteArray):List Prop:=[]
theorem A2y {a b:Ax}:eqC a b=true↔a=b:=by
 unfold eqC
 simp only[Bool.and_eq_true,beq_iff_eq]
 constructor
 ·rintro⟨⟨⟨⟨⟨h1,h2⟩,h3,h4⟩,h5⟩,h6⟩,h7,h8⟩
  cases a with|mk s v g t d=>cases b with|mk s' v' g' t' d'=>
  cases s;cases s';cases v;cases v';cases d;cases d'
  cases h1;cases h2;cases h3;cases h4;cases h5;cases h6;cases h7;cases h8
  rfl
 ·rintro rfl
  exact⟨⟨⟨⟨⟨rfl,rfl⟩,rfl,rfl⟩,rfl⟩,rfl⟩,rfl,rfl⟩
theorem Af7:∀{a b:List Ax},Ast a b=true↔a=b
 | [],[]=>by simp[Ast]
 | [],_::_=>by simp[Ast]
 |_::_,[]=>by simp[Ast]
 |x::xs,y::ys=>by
  unfold Ast
  rw[Bool.and_eq_true,A2y,Af7]
  simp
theorem Bqq {a b:AR}:Aw2 a b=true↔a=b:=by
 unfold Aw2
 rw[Bool.and_eq_true,beq_iff_eq,Af7]
 cases a;cases b
 simp
theorem B1o:∀(a b:List Ax),a.length=b.length→Ast a b=Kz a.length (fun i=>eqC (a.getD i (Av TC.cell)) (b.getD i (Av TC.cell))):=fun a b h=>by
 rw[Bool.eq_iff_iff,Af7,Hj]
 constructor
 ·rintro rfl i _
  exact A2y.2 rfl
 ·intro g
  refine List.ext_getElem h fun i h1 h2=>?_
  have:=A2y.1 (g i h1)
  rw[List.getD_eq_getElem?_getD,List.getD_eq_getElem?_getD,List.getElem?_eq_getElem h1,List.getElem?_eq_getElem h2] at this
  exact this
theorem Bga (k:ByteArray):Akz k=Aw8 k:=by
 unfold Akz Aw8
 rw[VD]
 congr 2
 exact dgt k.size 32
theorem Bf9 (a0:ByteArray) (_hp:∀p∈An0 a0,p):An AP 104 [AA .str a0] 0 [] 1 (Avo a0) 0 []:=by
 have h:=Bno a0 (fun _ h=>by cases h)
 unfold A07 at h
 rw[Bga] at h
 exact h
theorem Bax:Gw AP 104 (Cy [.t .str] 0 Avo (fun _=>[]) An0):=Az Bf9
def Bor:=DM Bax Ci
abbrev Ds:Type:=(List Ab)×Int×AR
def Ax5 (x:Ds):St:=⟨42,1,[(0,.sl .group x.1),(3,.own 0 0),(6,iV (x.2.1))],[(0,some (.box 62 [.v (.string x.2.2.key),.sl .cell x.2.2.cells]))]⟩
def Yv:St→Option Ds
 |⟨42,1,[(0,.sl .group z0),(3,.own 0 0),(6,.v (.int .i64 z1))],[(0,some (.box 62 [.v (.string z2),.sl .cell z3]))]⟩=>some (z0,z1,⟨z2,z3⟩)
 |_=>none
def Ax4:Em:=⟨1,1,[0,3,6],[],[(0,0)],[0],[4],[0]⟩
def Ax3:EQ:=⟨[],[(0,0)],[0,3,6],[0]⟩
def Jj (a0:List Ab) (a1:Int):Bool:=!!decide (a1 <(a0.length:Int))
def ET (a0:List Ab) (a1:Int) (a2:AR):Bool:=(Jj a0 a1)&&!Ea (a0.getD a1.toNat (Av TC.group)).2 (a2.2.getD a1.toNat (Av TC.cell))
def Aqd (a0:List Ab) (a1:Int) (a2:AR):Bool:=(Jj a0 a1)&&!(ET a0 a1 a2)
def Jm (x:Ds):Ds:=(x.1,IntKind.i64.wrap (x.2.1+1),x.2.2)
def Jl (x:Ds):El:=some (Aqd x.1 x.2.1 x.2.2)
def WB:Ds→List Prop
  |(a0,a1,a2)=>[((Jj a0 a1)=true→0≤a1∧a1 <(a0.length:Int)),((Jj a0 a1)=true→0≤a1∧a1 <(a2.2.length:Int))]
abbrev N6:Ds→List Prop:=WB
def Aky:Ds→BD
  |(a0,a1,a2)=>[(some 0,some (!decide (a1 <(a0.length:Int))),⟨42,1,[(4,.dead)],[(0,some (.box 62 [.v (.string a2.1),.sl .cell a2.2]))]⟩),(none,some ((ET a0 a1 a2)),⟨42,1,[(4,.v (.int .i64 80))],[(0,some (.box 62 [.v (.string a2.1),.sl .cell a2.2]))]⟩)]
def Jk (x:Ds):Nat:=((x.1.length:Int) - x.2.1).toNat
def Aqf (x:Ds):Ds:=Bh Jm Jl (Jk x) x
def Aqe:=Jt (Co Bor.1 L0) (Aw AP 75 0) Ax4 Ax3 Yv Jk Jm Jl N6 Aky
def Abm:=V8 0 (g:=Aqe) (BX (T:=Ax5) (psA:=WB) Bor.2 AF (u:=9) (by kernel_rfl) (by decide) (fun⟨a0,a1,a2⟩=>by kernel_rfl) (fun _ h=>h) (fun s x h=>by unfold Yv at h;split at h<;>first|(cases h;rfl)|cases h) (fun _=>A9 (n:=42) rfl) fun _ _=>rfl) ⟨L0,AF⟩
def Px (a1:AR):Bool:=Aw8 a1.1 !=0
def Nr (a0:List Ab):Bool:=AI a0 !=0
def Ls (a0:List Ab) (a1:AR):Ds:=Aqf (a0,0,a1)
def Nq (a0:List Ab) (a1:AR):Bool:=(a1.2.length:Int) !=(a0.length:Int)
def Aeh (a0:List Ab) (a1:AR):Int:=bif(Nr a0) then AI a0 else bif(Px a1) then Aw8 a1.1 else bif(Nq a0 a1) then 100 else bif ET (Ls a0 a1).1 (Ls a0 a1).2.1 (Ls a0 a1).2.2 then 80 else 0
def Aei (a0:List Ab) (a1:AR):A:=iV ((Aeh a0 a1))
def Anx (a0:List Ab) (a1:AR):List Prop:=[(∀(g:Ab),g∈a0→AJ g.1.size),((!(Nr a0))=true→(!(Px a1))=true→(!(Nq a0 a1))=true→A8 Jm Jl N6 (Jk (a0,0,a1)) (a0,0,a1))]
theorem Baw (a0:List Ab) (a1:AR):RL (Co Bor.1 Abm.1) 9 75 [.sl .group a0,AA .row a1] 0 []=some (1,Aei a0 a1,0,[],[(∀(g:Ab),g∈a0→AJ g.1.size),((!(Nr a0))=true→(!(Px a1))=true→(!(Nq a0 a1))=true→Aw AP (75:FuncId) 0=Aw AP (75:FuncId) 0),((!(Nr a0))=true→(!(Px a1))=true→(!(Nq a0 a1))=true→A8 Jm Jl N6 (Jk (a0,0,a1)) (a0,0,a1))]):=by kernel_rfl
theorem Bf8 (a0:List Ab) (a1:AR) (hp:∀p∈Anx a0 a1,p):An AP 75 [.sl .group a0,AA .row a1] 0 [] 1 (Aei a0 a1) 0 []:=
  AN (Au Bor.2 Abm.2) (Baw a0 a1) (nT hp fun hp=>Aa (by intros;rfl) (nT hp fun _=>Ag))
def Anz (a0:List Ab) (a1:AR):A:=iV ((BO a0 a1))
def Ahc (a0:List Ab) (_a1:AR):List Prop:=[∀g∈a0,AJ g.name.size]
theorem Anw (l:List Ab) (r:AR) (hb:∀g∈l,AJ g.name.size):(∀p∈Anx l r,p)∧Aeh l r=BO l r:=by
 have cy:Nr l=(AI l !=0):=rfl
 have kp:Px r=(Aw8 r.key !=0):=rfl
 have ar:Nq l r=(r.cells.length !=l.length):=by
  show((r.cells.length:Int) !=(l.length:Int))=_
  rw[Bool.eq_iff_iff,bne_iff_ne,bne_iff_ne];omega
 have main:Nr l=false→Nq l r=false→A8 Jm Jl N6 (Jk (l,0,r)) (l,0,r)∧ET (Ls l r).1 (Ls l r).2.1 (Ls l r).2.2=!(l.zip r.cells).all (fun x=>Gs x.1.policy x.2):=fun h2 h0=>by
  rw[ar] at h0
  have hlen:r.cells.length=l.length:=by simpa using h0
  have p9:l.length≤4:=(SI (by rw[cy] at h2;simpa using h2)).2
  have hf:∀i:Nat,ET l (i:Int) r=(decide (i <l.length)&&!Gs (l.getD i (Av TC.group)).2 (r.2.getD i (Av TC.cell))):=fun i=>by
   unfold ET Jj
   rw[nn,T4,Int.toNat_natCast,No]
  obtain⟨h1,k,hk,hx,_,_,aq⟩:=Tg (fun i=>((l,(i:Int),r):Ds)) l.length (fun i=>!Gs (l.getD i (Av TC.group)).2 (r.2.getD i (Av TC.cell))) Jm Jl N6 (Jk (l,0,r)) (l,0,r) rfl (by show l.length≤((l.length:Int) - 0).toNat;omega)
   (fun i _ _=>by
    show((!!decide ((i:Int) <(l.length:Int)))&&!ET l i r)=_
    rw[hf,nn,T4]
    cases decide (i <l.length)<;>rfl)
   (fun i hi _=>by
    show(l,IntKind.i64.wrap ((i:Int)+1),r)=(l,((i+1:Nat):Int),r)
    rw[MO (by omega)])
   (fun i _ _=>by
    have au:(!!decide ((i:Int) <(l.length:Int)))=true→(i:Int) <(l.length:Int):=fun h=>by rw[nn] at h;exact of_decide_eq_true h
    exact Aa (fun h=>⟨by show(0:Int)≤(i:Int);omega,au h⟩) (Aa (fun h=>⟨by show(0:Int)≤(i:Int);omega,by have:=au h;show(i:Int) <(r.cells.length:Int);omega⟩) Ag))
  refine⟨h1,?_⟩
  have hr:Ls l r=(l,(k:Int),r):=hx
  rw[hr]
  show ET l (k:Int) r=_
  rw[hf,aq,Bzw l r.cells (Av TC.group) (Av TC.cell) (fun g c=>Gs g.policy c) hlen]
  congr 1
  exact MT fun i _=>Bool.not_not _
 refine⟨Aa hb (Aa (fun h1 _ h3=>(main (by simpa using h1) (by simpa using h3)).1) Ag),?_⟩
 unfold Aeh BO
 have ek:Aw8 r.key=bif r.key.size==0 then 2 else bif decide (32 <r.key.size) then 3 else 0:=rfl
 cases h2:Nr l with
 |true=>rw[cy] at h2;rw[h2];rfl
 | false=>
  rw[cy] at h2
  rw[h2,cond_false,cond_false]
  cases h3:Px r with
  | true=>
   rw[cond_true]
   rw[kp,ek] at h3
   rw[ek]
   cases h5:r.key.size==0 with
   |true=>rfl
   |false=>
    rw[h5] at h3
    cases h6:decide (32 <r.key.size) with
    |true=>rfl
    |false=>rw[h6] at h3;cases h3
  | false=>
   rw[kp,ek] at h3
   have h5:(r.key.size==0)=false:=by
    cases h5:r.key.size==0 with
    |false=>rfl
    |true=>rw[h5] at h3;cases h3
   rw[h5] at h3
   have h6:decide (32 <r.key.size)=false:=by
    cases h6:decide (32 <r.key.size) with
    |false=>rfl
    |true=>rw[h6] at h3;cases h3
   rw[h5,h6,cond_false,cond_false,cond_false]
   cases h0:Nq l r with
   |true=>rw[ar] at h0;rw[h0];rfl
   |false=>
    rw[cond_false,(main (by rw[cy];exact h2) h0).2]
    rw[ar] at h0
    rw[h0,cond_false]
    cases(l.zip r.cells).all (fun x=>Gs x.1.policy x.2)<;>rfl
theorem Bav (a0:List Ab) (a1:AR) (hp:∀p∈Ahc a0 a1,p):An AP 75 [.sl .group a0,AA .row a1] 0 [] 1 (Anz a0 a1) 0 []:=by
 have hb:∀g∈a0,AJ g.name.size:=hp _ (List.mem_cons_self ..)
 have h:=Bf8 a0 a1 (Anw a0 a1 hb).1
 unfold Aei at h
 rw[(Anw a0 a1 hb).2] at h
 exact h
theorem A42:Gw AP 75 (Cy [.l .group,.t .row] 0 Anz (fun _ _=>[]) Ahc):=Az Bav
def B4a:=DM A42 Bor
def Aea (a0 a1:Ax):Bool:=a0.1.1==a1.1.1&&a0.1.2==a1.1.2&&(a0.2.1==a1.2.1&&a0.2.2==a1.2.2)&&a0.3==a1.3&&a0.4.toList==a1.4.toList&&(a0.5.1==a1.5.1&&a0.5.2==a1.5.2)
def Avc (a0 a1:Ax):A:=.v (.bool (Aea a0 a1))
def Ban (_a0 _a1:Ax):List Prop:=[]
theorem Bfz (a0 a1:Ax) (hp:∀p∈Ban a0 a1,p):An AP 106 [AA .cell a0,AA .cell a1] 0 [] 1 (Avc a0 a1) 0 []:=AN (u:=9) (Au B4a.2 AF) (by kernel_rfl) hp
def Anp (a0 a1:Ax):A:=.v (.bool (eqC a0 a1))
def Ag7 (_a0 _a1:Ax):List Prop:=[]
theorem Bam (a0 a1:Ax) (_hp:∀p∈Ag7 a0 a1,p):An AP 106 [AA .cell a0,AA .cell a1] 0 [] 1 (Anp a0 a1) 0 []:=by
 have h:=Bfz a0 a1 (fun _ h=>by cases h)
 have e:Aea a0 a1=eqC a0 a1:=by unfold Aea;rw[tlb];rfl
 unfold Avc at h
 rw[e] at h
 exact h
theorem A4r:Gw AP 106 (Cy [.t .cell,.t .cell] 0 Anp (fun _ _=>[]) Ag7):=Az Bam
def Bos:=DM A4r B4a
abbrev Dt:Type:=Int×AR×AR
def Ax8 (x:Dt):St:=⟨39,2,[(2,.own 0 0),(3,.own 1 0),(5,iV (x.1))],[(0,some (.box 62 [.v (.string x.2.1.key),.sl .cell x.2.1.cells])),(1,some (.box 62 [.v (.string x.2.2.key),.sl .cell x.2.2.cells]))]⟩
def Yw:St→Option Dt
 |⟨39,2,[(2,.own 0 0),(3,.own 1 0),(5,.v (.int .i64 z0))],[(0,some (.box 62 [.v (.string z1),.sl .cell z2])),(1,some (.box 62 [.v (.string z3),.sl .cell z4]))]⟩=>some (z0,⟨z1,z2⟩,⟨z3,z4⟩)
 |_=>none
def Ax7:Em:=⟨2,2,[2,3,5],[],[(0,0),(1,1)],[0,1],[4],[0,1]⟩
def Ax6:EQ:=⟨[],[(0,0),(1,1)],[2,3,5],[0,1]⟩
def Jn (a0:Int) (a1:AR):Bool:=!!decide (a0 <(a1.2.length:Int))
def EU (a0:Int) (a1 a2:AR):Bool:=(Jn a0 a1)&&!eqC (a1.2.getD a0.toNat (Av TC.cell)) (a2.2.getD a0.toNat (Av TC.cell))
def Aqg (a0:Int) (a1 a2:AR):Bool:=(Jn a0 a1)&&!(EU a0 a1 a2)
def Hf (x:Dt):Dt:=(IntKind.i64.wrap (x.1+1),x.2.1,x.2.2)
def He (x:Dt):El:=some (Aqg x.1 x.2.1 x.2.2)
def WC:Dt→List Prop
  |(a0,a1,a2)=>[((Jn a0 a1)=true→0≤a0∧a0 <(a1.2.length:Int)),((Jn a0 a1)=true→0≤a0∧a0 <(a2.2.length:Int))]
abbrev Lv:Dt→List Prop:=WC
def Ak0:Dt→BD
  |(a0,a1,a2)=>[(some 0,some (!decide (a0 <(a1.2.length:Int))),⟨39,2,[(4,.dead)],[(0,some (.box 62 [.v (.string a1.1),.sl .cell a1.2])),(1,some (.box 62 [.v (.string a2.1),.sl .cell a2.2]))]⟩),(none,some ((EU a0 a1 a2)),⟨39,2,[(4,.v (.bool (false)))],[(0,some (.box 62 [.v (.string a1.1),.sl .cell a1.2])),(1,some (.box 62 [.v (.string a2.1),.sl .cell a2.2]))]⟩)]
def Hd (x:Dt):Nat:=((x.2.1.2.length:Int) - x.1).toNat
def Aqi (x:Dt):Dt:=Bh Hf He (Hd x) x
def Aqh:=Jt (Co Bos.1 L0) (Aw AP 93 0) Ax7 Ax6 Yw Hd Hf He Lv Ak0
def Abn:=V8 0 (g:=Aqh) (BX (T:=Ax8) (psA:=WC) Bos.2 AF (u:=9) (by kernel_rfl) (by decide) (fun⟨a0,a1,a2⟩=>by kernel_rfl) (fun _ h=>h) (fun s x h=>by unfold Yw at h;split at h<;>first|(cases h;rfl)|cases h) (fun _=>A9 (n:=39) rfl) fun _ _=>rfl) ⟨L0,AF⟩
def Lu (a0 a1:AR):Dt:=Aqi (0,a0,a1)
def Lt (a0 a1:AR):Bool:=!a0.1.toList==a1.1.toList||(a0.2.length:Int) !=(a1.2.length:Int)
def Aej (a0 a1:AR):Bool:=bif(Lt a0 a1) then false else bif EU (Lu a0 a1).1 (Lu a0 a1).2.1 (Lu a0 a1).2.2 then false else true
def Aek (a0 a1:AR):A:=.v (.bool (Aej a0 a1))
def An2 (a0 a1:AR):List Prop:=[((!(Lt a0 a1))=true→A8 Hf He Lv (Hd (0,a0,a1)) (0,a0,a1))]
theorem Baz (a0 a1:AR):RL (Co Bos.1 Abn.1) 9 93 [AA .row a0,AA .row a1] 0 []=some (1,Aek a0 a1,0,[],[((!(Lt a0 a1))=true→Aw AP (93:FuncId) 0=Aw AP (93:FuncId) 0),((!(Lt a0 a1))=true→A8 Hf He Lv (Hd (0,a0,a1)) (0,a0,a1))]):=by kernel_rfl
theorem Bgc (a0 a1:AR) (hp:∀p∈An2 a0 a1,p):An AP 93 [AA .row a0,AA .row a1] 0 [] 1 (Aek a0 a1) 0 []:=
  AN (Au Bos.2 Abn.2) (Baz a0 a1) (Aa (by intros;rfl) (nT hp fun _=>Ag))
def An3 (a0 a1:AR):A:=.v (.bool (Aw2 a0 a1))
def Ahd (a0 _a1:AR):List Prop:=[Af a0.cells.length]
theorem An1 (a b:AR) (hb:Af a.cells.length):(∀p∈An2 a b,p)∧Aej a b=Aw2 a b:=by
 unfold Af at hb
 have ar:Lt a b=(!(a.key==b.key)||a.cells.length !=b.cells.length):=by
  show(!(a.key.toList==b.key.toList)||((a.cells.length:Int) !=(b.cells.length:Int)))=_
  rw[tlb]
  congr 1
  rw[Bool.eq_iff_iff,bne_iff_ne,bne_iff_ne];omega
 have main:Lt a b=false→A8 Hf He Lv (Hd (0,a,b)) (0,a,b)∧EU (Lu a b).1 (Lu a b).2.1 (Lu a b).2.2=!Ast a.cells b.cells:=fun h0=>by
  rw[ar] at h0
  have hlen:a.cells.length=b.cells.length:=by simpa using(Bool.or_eq_false_iff.1 h0).2
  have hf:∀i:Nat,EU (i:Int) a b=(decide (i <a.cells.length)&&!eqC (a.2.getD i (Av TC.cell)) (b.2.getD i (Av TC.cell))):=fun i=>by
   unfold EU Jn
   rw[nn,T4,Int.toNat_natCast]
  obtain⟨h1,k,hk,hx,_,_,aq⟩:=Tg (fun i=>(((i:Int),a,b):Dt)) a.cells.length (fun i=>!eqC (a.2.getD i (Av TC.cell)) (b.2.getD i (Av TC.cell))) Hf He Lv (Hd (0,a,b)) (0,a,b) rfl (by show a.cells.length≤((a.cells.length:Int) - 0).toNat;omega)
   (fun i _ _=>by
    show((!!decide ((i:Int) <(a.cells.length:Int)))&&!EU i a b)=_
    rw[hf,nn,T4]
    cases decide (i <a.cells.length)<;>rfl)
   (fun i hi _=>by
    show(IntKind.i64.wrap ((i:Int)+1),a,b)=(((i+1:Nat):Int),a,b)
    rw[MO (by omega)])
   (fun i _ _=>by
    have au:(!!decide ((i:Int) <(a.cells.length:Int)))=true→(i:Int) <(a.cells.length:Int):=fun h=>by rw[nn] at h;exact of_decide_eq_true h
    exact Aa (fun h=>⟨by show(0:Int)≤(i:Int);omega,au h⟩) (Aa (fun h=>⟨by show(0:Int)≤(i:Int);omega,by have:=au h;show(i:Int) <(b.cells.length:Int);omega⟩) Ag))
  refine⟨h1,?_⟩
  have hr:Lu a b=((k:Int),a,b):=hx
  rw[hr]
  show EU (k:Int) a b=_
  rw[hf,aq,B1o _ _ hlen]
  congr 1
  exact MT fun i _=>Bool.not_not _
 refine⟨Aa (fun h=>(main (by simpa using h)).1) Ag,?_⟩
 unfold Aej Aw2
 cases h0:Lt a b with
 | true=>
  rw[ar] at h0
  rw[cond_true]
  cases hk:a.key==b.key with
  |false=>rfl
  |true=>
   rw[hk] at h0
   have ao:a.cells.length≠b.cells.length:=by simpa using h0
   cases he:Ast a.cells b.cells with
   |false=>rfl
   |true=>exact absurd (congrArg List.length (Af7.1 he)) ao
 |false=>
  rw[cond_false,(main h0).2]
  rw[ar] at h0
  have:(a.key==b.key)=true:=by simpa using(Bool.or_eq_false_iff.1 h0).1
  rw[this,Bool.true_and]
  cases Ast a.cells b.cells<;>rfl
theorem Bay (a0 a1:AR) (hp:∀p∈Ahd a0 a1,p):An AP 93 [AA .row a0,AA .row a1] 0 [] 1 (An3 a0 a1) 0 []:=by
 have hb:Af a0.cells.length:=hp _ (List.mem_cons_self ..)
 have h:=Bgc a0 a1 (An1 a0 a1 hb).1
 unfold Aek at h
 rw[(An1 a0 a1 hb).2] at h
 exact h
theorem A43:Gw AP 93 (Cy [.t .row,.t .row] 0 An3 (fun _ _=>[]) Ahd):=Az Bay
def Bot:=DM A43 Bos
abbrev DP:Type:=Int×AR
def Ax2 (x:DP):St:=⟨19,1,[(1,.own 0 0),(3,iV (x.1))],[(0,some (.box 62 [.v (.string x.2.key),.sl .cell x.2.cells]))]⟩
def Ys:St→Option DP
 |⟨19,1,[(1,.own 0 0),(3,.v (.int .i64 z0))],[(0,some (.box 62 [.v (.string z1),.sl .cell z2]))]⟩=>some (z0,⟨z1,z2⟩)
 |_=>none
def Ax1:Em:=⟨1,1,[1,3],[],[(0,0)],[0],[2],[0]⟩
def Ax0:EQ:=⟨[],[(0,0)],[1,3],[0]⟩
def LW (a0:Int) (a1:AR):Bool:=!!decide (a0 <(a1.2.length:Int))
def FS (a0:Int) (a1:AR):Bool:=(LW a0 a1)&&!eqC (a1.2.getD a0.toNat (Av TC.cell)) (Ax.mk (A1.mk 0 0) (BE.mk 0 0) false (ByteArray.mk #[]) (BE.mk 0 0))
def Aqa (a0:Int) (a1:AR):Bool:=(LW a0 a1)&&!(FS a0 a1)
def Ji (x:DP):DP:=(IntKind.i64.wrap (x.1+1),x.2)
def Jh (x:DP):El:=some (Aqa x.1 x.2)
def Wz (x:DP):List Prop:=[((LW x.1 x.2)=true→0≤x.1∧x.1 <(x.2.2.length:Int))]
abbrev N5:DP→List Prop:=Wz
def Akr (x:DP):BD:=[(some 0,some (!decide (x.1 <(x.2.2.length:Int))),⟨19,1,[(2,.dead)],[(0,some (.box 62 [.v (.string x.2.1),.sl .cell x.2.2]))]⟩),(none,some ((FS x.1 x.2)),⟨19,1,[(2,.v (.bool (false)))],[(0,some (.box 62 [.v (.string x.2.1),.sl .cell x.2.2]))]⟩)]
def Jg (x:DP):Nat:=((x.2.2.length:Int) - x.1).toNat
def PL (x:DP):DP:=Bh Ji Jh (Jg x) x
def Aqb:=Jt (Co Bot.1 L0) (Aw AP 76 0) Ax1 Ax0 Ys Jg Ji Jh N5 Akr
def Abk:=V8 0 (g:=Aqb) (BX (T:=Ax2) (psA:=Wz) Bot.2 AF (u:=9) (by kernel_rfl) (by decide) (fun⟨a0,a1⟩=>by kernel_rfl) (fun _ h=>h) (fun s x h=>by unfold Ys at h;split at h<;>first|(cases h;rfl)|cases h) (fun _=>A9 (n:=19) rfl) fun _ _=>rfl) ⟨L0,AF⟩
def Aed (a0:AR):Bool:=bif FS (PL (0,a0)).1 (PL (0,a0)).2 then false else true
def Aee (a0:AR):A:=.v (.bool (Aed a0))
def Ant (a0:AR):List Prop:=[(A8 Ji Jh N5 (Jg (0,a0)) (0,a0))]
theorem Bat (a0:AR):RL (Co Bot.1 Abk.1) 9 76 [AA .row a0] 0 []=some (1,Aee a0,0,[],[(Aw AP (76:FuncId) 0=Aw AP (76:FuncId) 0),(A8 Ji Jh N5 (Jg (0,a0)) (0,a0))]):=by kernel_rfl
theorem Bf4 (a0:AR) (hp:∀p∈Ant a0,p):An AP 76 [AA .row a0] 0 [] 1 (Aee a0) 0 []:=
  AN (Au Bot.2 Abk.2) (Bat a0) (Aa rfl (nT hp fun _=>Ag))
def Anu (a0:AR):A:=.v (.bool (QC a0))
def Aha (a0:AR):List Prop:=[Af a0.cells.length]
theorem Ans (a:AR) (hb:Af a.cells.length):(∀p∈Ant a,p)∧Aed a=QC a:=by
 unfold Af at hb
 have hf:∀i:Nat,FS (i:Int) a=(decide (i <a.cells.length)&&!eqC (a.2.getD i (Av TC.cell)) Ok):=fun i=>by
  unfold FS LW
  rw[nn,T4,Int.toNat_natCast]
  rfl
 obtain⟨h1,k,hk,hx,_,_,aq⟩:=Tg (fun i=>(((i:Int),a):DP)) a.cells.length (fun i=>!eqC (a.2.getD i (Av TC.cell)) Ok) Ji Jh N5 (Jg (0,a)) (0,a) rfl (by show a.cells.length≤((a.cells.length:Int) - 0).toNat;omega)
  (fun i _ _=>by
   show((!!decide ((i:Int) <(a.cells.length:Int)))&&!FS i a)=_
   rw[hf,nn,T4]
   cases decide (i <a.cells.length)<;>rfl)
  (fun i hi _=>by
   show(IntKind.i64.wrap ((i:Int)+1),a)=(((i+1:Nat):Int),a)
   rw[MO (by omega)])
  (fun i _ _=>Aa (fun h=>⟨by show(0:Int)≤(i:Int);omega,by
   have h':(!!decide ((i:Int) <(a.cells.length:Int)))=true:=h
   rw[nn] at h';exact of_decide_eq_true h'⟩) Ag)
 refine⟨Aa h1 Ag,?_⟩
 have hr:PL (0,a)=((k:Int),a):=hx
 unfold Aed
 rw[hr]
 show(bif FS (k:Int) a then false else true)=_
 rw[hf,aq]
 unfold QC
 rw[Bpj a.cells (Av TC.cell)]
 rw[show Kz a.cells.length (fun i=>!!eqC (a.2.getD i (Av TC.cell)) Ok)=Kz a.cells.length (fun i=>eqC (a.cells.getD i (Av TC.cell)) Ok) from MT fun i _=>Bool.not_not _]
 cases Kz a.cells.length (fun i=>eqC (a.cells.getD i (Av TC.cell)) Ok)<;>rfl
theorem Bas (a0:AR) (hp:∀p∈Aha a0,p):An AP 76 [AA .row a0] 0 [] 1 (Anu a0) 0 []:=by
 have hb:Af a0.cells.length:=hp _ (List.mem_cons_self ..)
 have h:=Bf4 a0 (Ans a0 hb).1
 unfold Aee at h
 rw[(Ans a0 hb).2] at h
 exact h
theorem A4x:Gw AP 76 (Cy [.t .row] 0 Anu (fun _=>[]) Aha):=Az Bas
def Bou:=DM A4x Bot
abbrev Dv:Type:=(List Ax)×Int×Int
def Ay1 (x:Dv):St:=⟨16,1,[(6,.sl .cell x.1),(7,iV (x.2.1)),(8,iV (x.2.2))],[]⟩
def Y2:St→Option Dv
 |⟨16,1,[(6,.sl .cell z0),(7,.v (.int .i64 z1)),(8,.v (.int .i64 z2))],[]⟩=>some (z0,z1,z2)
 |_=>none
def Ay0:Em:=⟨1,1,[6,7,8],[],[],[],[2],[]⟩
def Ayz:EQ:=⟨[],[],[6,7,8],[]⟩
def Fr (a0:List Ax) (a2:Int):=a0.getD a2.toNat (Av TC.cell)
def FW (a0:List Ax) (a1 a2:Int):Bool:=!!decide (a2 <a1)&&!((Fr a0 a2).1.1==0&&(Fr a0 a2).1.2==0&&((Fr a0 a2).2.1==0&&(Fr a0 a2).2.2==0&&((Fr a0 a2).3==false&&((Fr a0 a2).4.toList==(ByteArray.mk #[]).toList&&((Fr a0 a2).5.1==0&&(Fr a0 a2).5.2==0)))))
def Aq1 (a0:List Ax) (a1 a2:Int):Bool:=!!decide (a2 <a1)&&!(FW a0 a1 a2)
def Jw (x:Dv):Dv:=(x.1,x.2.1,IntKind.i64.wrap (x.2.2+1))
def Jv (x:Dv):El:=some (Aq1 x.1 x.2.1 x.2.2)
def WO (x:Dv):List Prop:=[((!!decide (x.2.2 <x.2.1))=true→0≤x.2.2∧x.2.2 <(x.1.length:Int))]
abbrev Oa:Dv→List Prop:=WO
def Ali (x:Dv):BD:=[(some 0,some (!decide (x.2.2 <x.2.1)),⟨16,1,[(2,.dead)],[]⟩),(none,some ((FW x.1 x.2.1 x.2.2)),⟨16,2,[(2,.v (.bool (false)))],[]⟩)]
def Ju (x:Dv):Nat:=(x.2.1 - x.2.2).toNat
def Aq3 (x:Dv):Dv:=Bh Jw Jv (Ju x) x
def Aq2:=Jt (Co Bou.1 L0) (Aw AP 70 0) Ay0 Ayz Y2 Ju Jw Jv Oa Ali
def Abx:=V8 0 (g:=Aq2) (BX (T:=Ay1) (psA:=WO) Bou.2 AF (u:=9) (by kernel_rfl) (by decide) (fun⟨a0,a1,a2⟩=>by kernel_rfl) (fun _ h=>h) (fun s x h=>by unfold Y2 at h;split at h<;>first|(cases h;rfl)|cases h) (fun _=>A9 (n:=16) rfl) fun _ _=>rfl) ⟨L0,AF⟩
def Tf (a0:AR):Dv:=Aq3 (a0.2,(a0.2.length:Int),0)
def Ae8 (a0:AR):Bool:=bif FW (Tf a0).1 (Tf a0).2.1 (Tf a0).2.2 then false else true
def Ae9 (a0:AR):A:=.v (.bool (Ae8 a0))
def Aoy (a0:AR):List Prop:=[(A8 Jw Jv Oa (Ju (a0.2,(a0.2.length:Int),0)) (a0.2,(a0.2.length:Int),0))]
theorem Bbw (a0:AR):RL (Co Bou.1 Abx.1) 9 70 [AA .row a0] 0 []=some (1,Ae9 a0,0,[],[(Aw AP (70:FuncId) 0=Aw AP (70:FuncId) 0),(A8 Jw Jv Oa (Ju (a0.2,(a0.2.length:Int),0)) (a0.2,(a0.2.length:Int),0))]):=by kernel_rfl
theorem Bg3 (a0:AR) (hp:∀p∈Aoy a0,p):An AP 70 [AA .row a0] 0 [] 1 (Ae9 a0) 0 []:=
  AN (Au Bou.2 Abx.2) (Bbw a0) (Aa rfl (nT hp fun _=>Ag))
def Aoz (a0:AR):A:=.v (.bool (QC a0))
def Ahz (a0:AR):List Prop:=[Af a0.cells.length]
theorem Aox (a:AR) (hb:Af a.cells.length):(∀p∈Aoy a,p)∧Ae8 a=QC a:=by
 unfold Af at hb
 have hz:∀c:Ax,(c.1.1==(0:Int)&&c.1.2==(0:Int)&&(c.2.1==(0:Int)&&c.2.2==(0:Int)&&(c.3==false&&(c.4.toList==(ByteArray.mk #[]).toList&&(c.5.1==(0:Int)&&c.5.2==(0:Int))))))=eqC c Ok:=fun c=>by
  rw[tlb]
  unfold eqC Ok
  simp only[Bool.and_assoc]
 have hf:∀i:Nat,FW a.2 (a.2.length:Int) (i:Int)=(decide (i <a.cells.length)&&!eqC (a.2.getD i (Av TC.cell)) Ok):=fun i=>by
  unfold FW Fr
  rw[nn,T4,Int.toNat_natCast,hz]
 obtain⟨h1,k,hk,hx,_,_,aq⟩:=Tg (fun i=>((a.2,(a.2.length:Int),(i:Int)):Dv)) a.cells.length (fun i=>!eqC (a.2.getD i (Av TC.cell)) Ok) Jw Jv Oa (Ju (a.2,(a.2.length:Int),0)) (a.2,(a.2.length:Int),0) rfl (by show a.cells.length≤((a.cells.length:Int) - 0).toNat;omega)
  (fun i _ _=>by
   show((!!decide ((i:Int) <(a.cells.length:Int)))&&!FW a.2 (a.2.length:Int) i)=_
   rw[hf,nn,T4]
   cases decide (i <a.cells.length)<;>rfl)
  (fun i hi _=>by
   show(a.2,(a.2.length:Int),IntKind.i64.wrap ((i:Int)+1))=(a.2,(a.2.length:Int),((i+1:Nat):Int))
   rw[MO (by omega)])
  (fun i _ _=>Aa (fun h=>⟨by show(0:Int)≤(i:Int);omega,by
   have h':(!!decide ((i:Int) <(a.cells.length:Int)))=true:=h
   rw[nn] at h';exact of_decide_eq_true h'⟩) Ag)
 refine⟨Aa h1 Ag,?_⟩
 have hr:Tf a=(a.2,(a.2.length:Int),(k:Int)):=hx
 unfold Ae8
 rw[hr]
 show(bif FW a.2 (a.2.length:Int) (k:Int) then false else true)=_
 rw[hf,aq]
 unfold QC
 rw[Bpj a.cells (Av TC.cell)]
 rw[show Kz a.cells.length (fun i=>!!eqC (a.2.getD i (Av TC.cell)) Ok)=Kz a.cells.length (fun i=>eqC (a.cells.getD i (Av TC.cell)) Ok) from MT fun i _=>Bool.not_not _]
 cases Kz a.cells.length (fun i=>eqC (a.cells.getD i (Av TC.cell)) Ok)<;>rfl
theorem Bbv (a0:AR) (hp:∀p∈Ahz a0,p):An AP 70 [AA .row a0] 0 [] 1 (Aoz a0) 0 []:=by
 have hb:Af a0.cells.length:=hp _ (List.mem_cons_self ..)
 have h:=Bg3 a0 (Aox a0 hb).1
 unfold Ae9 at h
 rw[(Aox a0 hb).2] at h
 exact h
theorem A5k:Gw AP 70 (Cy [.t .row] 0 Aoz (fun _=>[]) Ahz):=Az Bbv
def B66:=DM A5k Bou
abbrev Cj:=B66
abbrev Ck:=Cj
theorem ZD {l:List Ab} {r:AR} (h:BO l r=0):AI l=0∧r.cells.length=l.length∧r.key.size≠0∧r.key.size≤32∧(l.zip r.cells).all (fun x=>Gs x.1.policy x.2)=true:=by
 unfold BO at h
 cases h1:AI l !=0 with
 |true=>rw[h1,cond_true] at h;rw[h] at h1;cases h1
 | false=>
  rw[h1,cond_false] at h
  cases h2:r.key.size==0 with
  |true=>rw[h2] at h;cases h
  | false=>
   rw[h2,cond_false] at h
   cases h3:decide (32 <r.key.size) with
   |true=>rw[h3] at h;cases h
   | false=>
    rw[h3,cond_false] at h
    cases h4:r.cells.length !=l.length with
    |true=>rw[h4] at h;cases h
    | false=>
     rw[h4,cond_false] at h
     cases h5:(l.zip r.cells).all (fun x=>Gs x.1.policy x.2) with
     |false=>rw[h5] at h;cases h
     |true=>
      have:=of_decide_eq_false h3
      exact⟨by simpa using h1,by simpa using h4,by simpa using h2,by omega,rfl⟩
abbrev Cl:=Ck
end Go.Proofs.YtifkbgkbajncjaaGreatDoor
namespace Go.Proofs.YtifkbgkbajncjaaGreatDoor
open Go.RowKit Go.Shelf
attribute [local go_sem] Oper.semAt_some
def Aih (base:Nat) (W:World) (y:Value) (bs:Ae):Prop:=PE W 5 1 y bs.length (bs.map BN)∧∀g,Hz y=some g→base≤g
theorem Aih.keep {base:Nat} {W W':World} {y:Value} {bs:Ae} (h:Aih base W y bs) (hk:∀g,base≤g→Hz y=some g→W'.heap[g]?=W.heap[g]?):Aih base W' y bs:=⟨h.1.keep fun g hg=>hk g (h.2 g hg) hg,h.2⟩
theorem Aih.mono {b b':Nat} {W:World} {y:Value} {bs:Ae} (h:Aih b W y bs) (hb:b'≤b):Aih b' W y bs:=⟨h.1,fun g hg=>Nat.le_trans hb (h.2 g hg)⟩
theorem Aih.form {base:Nat} {W:World} {y:Value} {bs:Ae} (h:Aih base W y bs):∃a n c,y=.slice a n c:=by
 obtain⟨a,c,e,_⟩:=h.1.form
 exact⟨a,_,c,e⟩
theorem KB.setCell {n₀ X:Nat} (W:World) (v:Value):KB n₀ X W (W.setCell ⟨X,0,none⟩ v):=
 ⟨rfl,rfl,rfl,by rw[Bb1];exact Nat.le_refl _,fun k _ hk=>Below.heap_setCell W ⟨X,0,none⟩ v k hk⟩
end Go.Proofs.YtifkbgkbajncjaaGreatDoor
namespace Go.Proofs.YtifkbgkbajncjaaGreatDoor
open Go.RowKit
def Bev (l:List Ab) (r:AR):Ae:=Ot r.key++(l.zip r.cells).flatMap (fun x=>Mx x.1.policy x.2)
def Q7 (l:List Ab) (r:AR):Ae:=bif BO l r==0 then Bev l r else[]
section
variable {F:Nat→Prop} {N:Nm} {nx:Nat} {R:World}
theorem Azo:∀{l:Ae} {zs:List Value},zs.length=l.length→(∀k,k <l.length→HL F N nx R [.v (BN (l.getD k 0))] ((zs.drop (k*1)).take 1))→zs=l.map BN
 | [],[],_,_=>rfl
 | [],_::_,h,_=>by cases h
 |_::_,[],h,_=>by cases h
 | x::l,z::zs,h,g=>by
  have h0:=g 0 (Nat.succ_pos _)
  obtain⟨v,vs,e1,e2,e3⟩:=h0.inv
  have hz:z=BN x:=by
   have qo:[z]=v::vs:=e1
   injection qo with qo _
   rw[qo]
   exact e2.v_inv
  rw[List.map_cons,←hz,Azo (l:=l) (zs:=zs) (by simpa using h) fun k hk=>by
   have:=g (k+1) (Nat.succ_lt_succ hk)
   simpa[Nat.mul_one] using this]
theorem Bnw {l:Ae} {k:Nat} (hk:k <l.length):HL F N nx R [.v (BN (l.getD k 0))] (((l.map BN).drop (k*1)).take 1):=by
 rw[Nat.mul_one,List.drop_eq_getElem_cons (by simpa using hk),List.take_succ_cons,List.take_zero,List.getElem_map,List.getD_eq_getElem?_getD,List.getElem?_eq_getElem hk]
 exact HL.cons (.v _) HL.nil
theorem Aih.sl {base:Nat} {y:Value} {bs:Ae} (h:Aih base R y bs) (N:Nm):(∀g,Hz y=some g→g <R.heap.size)∧Hv (fun g=>Hz y=some g) N 0 R (.sl .u8 bs) y:=by
 refine⟨fun g hg=>h.1.lt hg,?_⟩
 obtain⟨hl,h2⟩:=h.1
 rcases h2 with⟨a,e1,e2⟩|⟨g,cap,cur,e1,e2,e3,_,e5,e6⟩
 ·obtain rfl:bs=[]:=List.eq_nil_of_length_eq_zero e2
  rw[e1]
  exact Hv.sl_nil rfl
 ·rw[e1]
  refine Hv.of_sl e3 fun hn=>⟨⟨g,0,none⟩,rfl,?_,fun i d hd j x hx=>?_⟩
  ·obtain⟨m,hm⟩:∃m,bs.length=m+1:=⟨bs.length - 1,by omega⟩
   rw[hm]
   rfl
  ·cases j with
   |succ j=>cases hx
   |zero=>
    have hi:=(List.getElem?_eq_some_iff.1 hd).1
    have hz:(bs.map BN)[i]?=some (BN d):=by rw[List.getElem?_map,hd];rfl
    rw[←e6,List.getElem?_take_of_lt (by omega)] at hz
    obtain rfl:A.v (BN d)=x:=Option.some.inj hx
    refine⟨BN d,?_,.v _⟩
    rw[Fa,D7,D6 e2]
    show cur[0+(i*1+0)]?=_
    rw[Nat.zero_add,Nat.add_zero,Nat.mul_one]
    simpa using hz
end
theorem An.bytes {P:Program} {f:FuncId} {args:List A} {bs:Ae} (h:An P f args 0 [] 1 (.sq 0) 1 [(0,some (.arr 5 1 (.ty .u8 bs)))]) {F:Nat→Prop} {N:Nm} {R:World} {vs:List Value} (hF:∀g,F g→g <R.heap.size) (rr:U1 F R) (hv:HL F N 0 R args vs):
  Calls P f vs.toArray R fun e R'=>∃y,e=.returned y∧Below R.heap.size R R'∧Aih R.heap.size R' y bs:=by
 refine(h F N R vs (Bp.bare hF rr) hv).mono fun e R' ⟨y,F',N',e1,h2,h3,h4,h5⟩=>⟨y,e1,h5 (Nat.le_refl _),?_⟩
 obtain rfl:y=N'.q 0:=by cases h4;rfl
 obtain⟨_,zs,g1,g2⟩:=h2.ob 0 _ rfl
 have e:zs=bs.map BN:=Azo (F:=F') (N:=N') (nx:=1) (R:=R') (by rw[g1.1];exact Nat.mul_one _) g2
 rw[e] at g1
 refine⟨g1,fun g hg=>?_⟩
 rcases h3.foot g ⟨0,_,rfl,hg⟩ with⟨i,ob,hl,_⟩|h
 ·cases hl
 ·exact h
theorem Aih.made {P:Program} {f:FuncId} {F:Nat→Prop} {N:Nm} {R:World} {vs:List Value} {bs:Ae} (hR:Bp F N 0 [] R)
  (h:Calls P f vs.toArray R fun e R'=>∃y,e=.returned y∧Below R.heap.size R R'∧Aih R.heap.size R' y bs):
  Calls P f vs.toArray R fun e R'=>∃y F' N',e=.returned y∧Bp F' N' 1 [(0,some (.arr 5 1 (.ty .u8 bs)))] R'∧Step F N 0 [] R F' N' 1 [(0,some (.arr 5 1 (.ty .u8 bs)))] R'∧Hv F' N' 1 R' (.sq 0) y∧(1≤1→Below R.heap.size R R'):=by
 refine h.mono fun e R' ⟨y,e1,hb,h2,h3⟩=>⟨y,F,N.setQ 0 y,e1,?_,?_,?_,fun _=>hb⟩
 ·have hq:(N.setQ 0 y).q 0=y:=by show Kq N.q 0 y 0=y;exact C2 _ _ _
  have one:∀i ob,Ai i [(0,some (Ob.arr 5 1 (.ty .u8 bs)))]=some ob→i=0∧ob=.arr 5 1 (.ty .u8 bs):=fun i ob hl=>by
   cases i with
   |zero=>cases hl;exact⟨rfl,rfl⟩
   |succ i=>cases hl
  refine⟨fun g hg=>Nat.lt_of_lt_of_le (hR.flt g hg) hb.size,fun i ob hl=>?_,fun i ob g hl hg hF=>?_,fun i j x z g hl bm _ _=>(one i x hl).1.trans (one j z bm).1.symm,fun x hx=>⟨(hR.gl x hx).1,by rw[hb.block _ (hR.flt _ (hR.gl x hx).1)];exact(hR.gl x hx).2⟩⟩
  ·obtain⟨rfl,rfl⟩:=one i ob hl
   exact⟨Nat.succ_pos _,bs.map BN,by rw[hq];exact h2,fun k hk=>Bnw hk⟩
  ·obtain⟨rfl,rfl⟩:=one i ob hl
   have ah:Hz ((N.setQ 0 y).q 0)=some g:=hg
   rw[hq] at ah
   have:=hR.flt g hF
   have:=h3 g ah
   omega
 ·refine⟨Nat.zero_le _,fun i hi=>absurd hi (Nat.not_lt_zero _),fun i hi=>absurd hi (Nat.not_lt_zero _),fun _ h=>h,fun _ h=> .inl h,fun g ⟨i,ob,hl,hg⟩=> .inr ?_,hb.os,hb.tape,hb.output,hb.size,fun g hg _=>hb.block g hg⟩
  cases i with
  |succ i=>cases hl
  |zero=>
   cases hl
   have ah:Hz ((N.setQ 0 y).q 0)=some g:=hg
   rw[show(N.setQ 0 y).q 0=y by show Kq N.q 0 y 0=y;exact C2 _ _ _] at ah
   exact h3 g ah
 ·have hq:(N.setQ 0 y).q 0=y:=by show Kq N.q 0 y 0=y;exact C2 _ _ _
  have:=Hv.sq (F:=F) (N:=N.setQ 0 y) (nx:=1) (R:=R') (i:=0) (Nat.succ_pos _)
  rw[hq] at this
  exact this
theorem getD_in {α:Type} (l:List α) (d:α) (i:Nat) (h:i <l.length):l.getD i d∈l:=by
 rw[List.getD_eq_getElem?_getD,List.getElem?_eq_getElem h]
 exact List.getElem_mem h
def CX (a0:Int):Int:=bif decide (a0 <0)||decide (a0 >4611686018427387903) then 0 else bif decide (a0 <64) then 1 else bif decide (a0 <16384) then 2 else bif decide (a0 <1073741824) then 4 else 8
def Be4 (a0:Int):A:=iV ((CX a0))
def A93 (_a0:Int):List Prop:=[]
theorem A4g:Gw AP 98 (Cy [.t .i64] 0 Be4 (fun _=>[]) A93):=Az fun a0 hp=>AN (u:=9) (Au Cf.2 AF) (by kernel_rfl) hp
def Boo:=DM A4g Cf
abbrev Fh:Type:=Int×Int×Int×Ae
def A4f (x:Fh):St:=⟨48,2,[(1,iV (x.1)),(5,.sq 1),(6,iV (x.2.1)),(7,iV (x.2.2.1))],[(1,some (.arr 5 1 (.ty .u8 x.2.2.2)))]⟩
def Abf:St→Option Fh
 |⟨48,2,[(1,.v (.int .i64 z0)),(5,.sq 1),(6,.v (.int .i64 z1)),(7,.v (.int .i64 z2))],[(1,some (.arr 5 1 (.ty .u8 z3)))]⟩=>some (z0,z1,z2,z3)
 |_=>none
def A4e:Em:=⟨1,2,[1,5,6,7],[],[(3,1)],[3],[5],[1]⟩
def A4d:EQ:=⟨[],[(0,1)],[1,5,6,7],[0]⟩
def HJ (a2:Int):Bool:=!!decide (a2≥0)
def Da (a0 a1 a2:Int) (_a3:Ae):Int:=bif a2==IntKind.i64.wrap (a1 - (1:Int)) then bif a1==(8:Int) then IntKind.u8.wrap ((bif a1==(4:Int) then IntKind.u8.wrap ((bif a1==(2:Int) then IntKind.u8.wrap (IntKind.u8.wrap (IntKind.i64.wrap (↑(BitVec.ofInt (64:Nat) (a0.fdiv ((2:Int)^min (IntKind.u64.wrap (IntKind.i64.wrap ((8:Int)*a2))).toNat (64:Nat))) &&& BitVec.ofInt (64:Nat) (255:Int)).toNat:Int))+(64:Int)) else IntKind.u8.wrap (IntKind.i64.wrap (↑(BitVec.ofInt (64:Nat) (a0.fdiv ((2:Int)^min (IntKind.u64.wrap (IntKind.i64.wrap ((8:Int)*a2))).toNat (64:Nat))) &&& BitVec.ofInt (64:Nat) (255:Int)).toNat:Int)))+(128:Int)) else bif a1==(2:Int) then IntKind.u8.wrap (IntKind.u8.wrap (IntKind.i64.wrap (↑(BitVec.ofInt (64:Nat) (a0.fdiv ((2:Int)^min (IntKind.u64.wrap (IntKind.i64.wrap ((8:Int)*a2))).toNat (64:Nat))) &&& BitVec.ofInt (64:Nat) (255:Int)).toNat:Int))+(64:Int)) else IntKind.u8.wrap (IntKind.i64.wrap (↑(BitVec.ofInt (64:Nat) (a0.fdiv ((2:Int)^min (IntKind.u64.wrap (IntKind.i64.wrap ((8:Int)*a2))).toNat (64:Nat))) &&& BitVec.ofInt (64:Nat) (255:Int)).toNat:Int)))+(192:Int)) else bif a1==(4:Int) then IntKind.u8.wrap ((bif a1==(2:Int) then IntKind.u8.wrap (IntKind.u8.wrap (IntKind.i64.wrap (↑(BitVec.ofInt (64:Nat) (a0.fdiv ((2:Int)^min (IntKind.u64.wrap (IntKind.i64.wrap ((8:Int)*a2))).toNat (64:Nat))) &&& BitVec.ofInt (64:Nat) (255:Int)).toNat:Int))+(64:Int)) else IntKind.u8.wrap (IntKind.i64.wrap (↑(BitVec.ofInt (64:Nat) (a0.fdiv ((2:Int)^min (IntKind.u64.wrap (IntKind.i64.wrap ((8:Int)*a2))).toNat (64:Nat))) &&& BitVec.ofInt (64:Nat) (255:Int)).toNat:Int)))+(128:Int)) else bif a1==(2:Int) then IntKind.u8.wrap (IntKind.u8.wrap (IntKind.i64.wrap (↑(BitVec.ofInt (64:Nat) (a0.fdiv ((2:Int)^min (IntKind.u64.wrap (IntKind.i64.wrap ((8:Int)*a2))).toNat (64:Nat))) &&& BitVec.ofInt (64:Nat) (255:Int)).toNat:Int))+(64:Int)) else IntKind.u8.wrap (IntKind.i64.wrap (↑(BitVec.ofInt (64:Nat) (a0.fdiv ((2:Int)^min (IntKind.u64.wrap (IntKind.i64.wrap ((8:Int)*a2))).toNat (64:Nat))) &&& BitVec.ofInt (64:Nat) (255:Int)).toNat:Int)) else IntKind.u8.wrap (IntKind.i64.wrap (↑(BitVec.ofInt (64:Nat) (a0.fdiv ((2:Int)^min (IntKind.u64.wrap (IntKind.i64.wrap ((8:Int)*a2))).toNat (64:Nat))) &&& BitVec.ofInt (64:Nat) (255:Int)).toNat:Int))
def Aux (a0 a1 a2:Int) (a3:Ae):Ae:=a3++[UInt8.ofNat (Da a0 a1 a2 a3).toNat]
def HN:Fh→Fh
  |(a0,a1,a2,a3)=>(a0,a1,IntKind.i64.wrap (a2 - 1),Aux a0 a1 a2 a3)
def HM (x:Fh):El:=some ((HJ x.2.2.1))
def Yg:Fh→List Prop
  |(a0,a1,a2,a3)=>[((HJ a2)=true→0≤IntKind.u64.wrap (IntKind.i64.wrap (8*a2))),((HJ a2)=true→Af (a3.length+1)),((HJ a2)=true→0≤(Da a0 a1 a2 a3)∧(Da a0 a1 a2 a3) <256)]
def Ku:Fh→List Prop
  |(a0,a1,a2,a3)=>[((HJ a2)=true→Af (a3.length+1)),((HJ a2)=true→0≤(Da a0 a1 a2 a3)∧(Da a0 a1 a2 a3) <256)]
def Ap0 (x:Fh):BD:=[(some 0,some (!decide (x.2.2.1≥0)),⟨48,2,[(5,.sq 1)],[(1,some (.arr 5 1 (.ty .u8 x.2.2.2)))]⟩)]
def HK (x:Fh):Nat:=(x.2.2.1+1).toNat
def Rb (x:Fh):Fh:=Bh HN HM (HK x) x
theorem Axn (a0 a1 a2:Int) (a3:Ae) (hp:∀p∈Ku (a0,a1,a2,a3),p):∀p∈Yg (a0,a1,a2,a3),p:=
  (Aa (by intros;exact Blk _) (nT hp fun hp=>nT hp fun _=>Ag))
def Auy:=Jt (Co Boo.1 L0) (Aw AP 58 0) A4e A4d Abf HK HN HM Ku Ap0
def Agz:=V8 0 (g:=Auy) (BX (T:=A4f) (psA:=Yg) Boo.2 AF (u:=9) (by kernel_rfl) (by decide) (fun⟨a0,a1,a2,a3⟩=>by kernel_rfl) (fun⟨a0,a1,a2,a3⟩=>Axn a0 a1 a2 a3) (fun s x h=>by unfold Abf at h;split at h<;>first|(cases h;rfl)|cases h) (fun _=>A9 (n:=48) rfl) fun _ _=>rfl) ⟨L0,AF⟩
def A0y (a0:Ae) (a1:Int):Ae:=(Rb (a1,CX a1,IntKind.i64.wrap (CX a1 - 1),[]++a0)).2.2.2
def A0z (_a0:Ae) (_a1:Int):A:=.sq 0
def ZM (a0:Ae) (a1:Int):AE:=[(0,some (.arr 5 1 (.ty .u8 (A0y a0 a1))))]
def Be3 (a0:Ae) (a1:Int):List Prop:=[(Af (0+a0.length)),(A8 HN HM Ku (HK (a1,CX a1,IntKind.i64.wrap (CX a1 - 1),[]++a0)) (a1,CX a1,IntKind.i64.wrap (CX a1 - 1),[]++a0))]
theorem Be2 (a0:Ae) (a1:Int):RL (Co Boo.1 Agz.1) 9 58 [AA .bytes a0,AA .i64 a1] 0 []=some (1,A0z a0 a1,1,ZM a0 a1,[(Af (0+a0.length)),(Aw AP (58:FuncId) 0=Aw AP (58:FuncId) 0),(A8 HN HM Ku (HK (a1,CX a1,IntKind.i64.wrap (CX a1 - 1),[]++a0)) (a1,CX a1,IntKind.i64.wrap (CX a1 - 1),[]++a0))]):=by kernel_rfl
theorem Bm8 (a0:Ae) (a1:Int) (hp:∀p∈Be3 a0 a1,p):An AP 58 [AA .bytes a0,AA .i64 a1] 0 [] 1 (A0z a0 a1) 1 (ZM a0 a1):=
  AN (Au Boo.2 Agz.2) (Be2 a0 a1) (nT hp fun hp=>Aa rfl (nT hp fun _=>Ag))
def Auz (_a0:Ae) (_a1:Int):A:=.sq 0
def VM (a0:Ae) (a1:Int):AE:=[(0,some (.arr 5 1 (.ty .u8 (a0++FO a1))))]
def Amz (a0:Ae) (_a1:Int):List Prop:=[Af (a0.length+8)]
theorem Am0 (n:Int):CX n=(E3 n:Int):=by
 unfold CX E3
 by_cases h0:n <0∨n >4611686018427387903
 ·have e:(decide (n <0)||decide (n >4611686018427387903))=true:=by simpa using h0
  rw[e,if_pos h0];rfl
 ·have e:(decide (n <0)||decide (n >4611686018427387903))=false:=by
   rw[Bool.eq_false_iff]
   intro hh
   exact h0 (by simpa using hh)
  rw[e,if_neg h0]
  by_cases h1:n <64
  ·rw[decide_eq_true h1,if_neg (by omega),if_neg (by omega),if_neg (by omega)];rfl
  ·rw[decide_eq_false h1]
   by_cases h2:n <16384
   ·rw[decide_eq_true h2,if_neg (by omega),if_neg (by omega),if_pos (by omega)];rfl
   ·rw[decide_eq_false h2]
    by_cases h3:n <1073741824
    ·rw[decide_eq_true h3,if_neg (by omega),if_pos (by omega)];rfl
    ·rw[decide_eq_false h3,if_pos (by omega)];rfl
theorem Bpq {q:Nat} (_hq:q <4611686018427387904):IntKind.u8.wrap (IntKind.i64.wrap ((BitVec.ofInt 64 (q:Int) &&& BitVec.ofInt 64 255).toNat:Int))=((q % 256:Nat):Int):=by
 have e:(BitVec.ofInt 64 (q:Int) &&& BitVec.ofInt 64 255).toNat=q % 256:=by
  rw[BitVec.toNat_and,BitVec.toNat_ofInt,BitVec.toNat_ofInt]
  have m1:(((q:Nat):Int) % ((2^64:Nat):Int)).toNat=q:=by omega
  have m2:((255:Int) % ((2^64:Nat):Int)).toNat=2^8 - 1:=by decide
  rw[m1,m2,Nat.and_two_pow_sub_one_eq_mod]
 rw[e,i64_in (by omega),IntWalk.u8_in _ (by omega)]
theorem Bsv {n:Int} (hn:okN n) {i:Nat} (_hi:i <8):IntKind.u8.wrap (IntKind.i64.wrap (↑(BitVec.ofInt (64:Nat) (n.fdiv ((2:Int)^min (IntKind.u64.wrap (IntKind.i64.wrap ((8:Int)*(i:Int)))).toNat (64:Nat))) &&& BitVec.ofInt (64:Nat) (255:Int)).toNat:Int))=((n.toNat / 256^i % 256:Nat):Int):=by
 have e1:IntKind.u64.wrap (IntKind.i64.wrap ((8:Int)*(i:Int)))=((8*i:Nat):Int):=by
  rw[i64_in (by omega),IntWalk.u64_in _ (by omega)]
  omega
 have e2:n=(n.toNat:Int):=(Int.toNat_of_nonneg hn.1).symm
 have e3:n.fdiv ((256^i:Nat):Int)=((n.toNat / 256^i:Nat):Int):=by
  rw[Int.fdiv_eq_ediv_of_nonneg _ (Int.natCast_nonneg _)]
  conv=>lhs;rw[e2]
  exact(Int.natCast_ediv _ _).symm
 rw[e1,Int.toNat_natCast,Nat.min_eq_left (by omega),Bkc,e3]
 refine Bpq ?_
 have h1:=Nat.div_le_self n.toNat (256^i)
 have h2:=hn.2
 omega
theorem B2k {n:Int} (hn:okN n) {i:Nat} (hi:i <E3 n) (l:Ae):Da n (E3 n:Int) (i:Int) l=(((n.toNat+Ah5 (E3 n)*(64*256^(E3 n - 1))) / 256^i % 256:Nat):Int):=by
 obtain⟨hs,ae⟩:=Bb9 hn.1 hn.2
 have h8:E3 n≤8:=by unfold szs at hs;omega
 unfold Da
 rw[Bsv hn (show i <8 by omega),i64_in (n:=(E3 n:Int) - 1) (by omega)]
 by_cases jx:i=E3 n - 1
 ·have e:((i:Int)==(E3 n:Int) - 1)=true:=by rw[beq_iff_eq];omega
  rw[e,cond_true]
  have hp:0 <256^i:=Nat.pow_pos (by decide)
  have hq:(n.toNat+Ah5 (E3 n)*(64*256^(E3 n - 1))) / 256^i=n.toNat / 256^i+Ah5 (E3 n)*64:=by
   rw[←jx,←Nat.mul_assoc,Nat.add_mul_div_right _ _ hp]
  have hd:n.toNat / 256^i <64:=by rw[Nat.div_lt_iff_lt_mul hp,jx];exact ae
  rw[hq]
  generalize n.toNat / 256^i=d at*
  clear hq ae jx e hi
  generalize E3 n=k at*
  rcases hs with rfl|rfl|rfl|rfl
  ·show((d % 256:Nat):Int)=(((d+0*64) % 256:Nat):Int)
   rw[Nat.zero_mul,Nat.add_zero]
  ·show IntKind.u8.wrap (((d % 256:Nat):Int)+64)=(((d+1*64) % 256:Nat):Int)
   rw[IntWalk.u8_in _ (by omega)];omega
  ·show IntKind.u8.wrap (((d % 256:Nat):Int)+128)=(((d+2*64) % 256:Nat):Int)
   rw[IntWalk.u8_in _ (by omega)];omega
  ·show IntKind.u8.wrap (((d % 256:Nat):Int)+192)=(((d+3*64) % 256:Nat):Int)
   rw[IntWalk.u8_in _ (by omega)];omega
 ·have e:((i:Int)==(E3 n:Int) - 1)=false:=by rw[Bool.eq_false_iff,Ne,beq_iff_eq];omega
  rw[e,cond_false]
  have hp:0 <256^i:=Nat.pow_pos (by decide)
  have hq:(n.toNat+Ah5 (E3 n)*(64*256^(E3 n - 1))) / 256^i=n.toNat / 256^i+Ah5 (E3 n)*(64*256^(E3 n - 1 - i)):=by
   have:256^(E3 n - 1)=256^(E3 n - 1 - i)*256^i:=by rw[←Nat.pow_add];congr 1;omega
   rw[this,←Nat.mul_assoc 64,←Nat.mul_assoc (Ah5 _),Nat.add_mul_div_right _ _ hp]
  rw[hq]
  have h2:256^(E3 n - 1 - i)=256^(E3 n - 1 - i - 1)*256:=by rw[←Nat.pow_succ];congr 1;omega
  rw[h2,←Nat.mul_assoc 64,←Nat.mul_assoc (Ah5 _),Nat.add_mul_mod_self_right]
theorem Bsw (b:Ae) (n:Int) (_hb:Af (b.length+8)):
  A8 HN HM Ku (HK (n,CX n,IntKind.i64.wrap (CX n - (1:Int)),[]++b)) (n,CX n,IntKind.i64.wrap (CX n - (1:Int)),[]++b)∧
  (Rb (n,CX n,IntKind.i64.wrap (CX n - (1:Int)),[]++b)).2.2.2=b++FO n:=by
 have uy:E3 n≤8:=by
  rcases UT n with h|⟨_,_,h⟩
  ·omega
  ·unfold szs at h;omega
 rw[Am0,i64_in (by omega)]
 obtain⟨h1,⟨j,hj,h2⟩,h3⟩:=QW (next:=HN) (goes:=HM) (ps:=Ku)
  (fun x=>∃j:Nat,j≤E3 n∧x=(n,(E3 n:Int),(E3 n:Int) - 1 - (j:Int),b++(FO n).take j)) HK (by
   rintro x ⟨j,hj,rfl⟩
   have key:(!!decide ((E3 n:Int) - 1 - (j:Int)≥0))=true→j <E3 n∧okN n:=fun h=>by
    have h':(E3 n:Int) - 1 - (j:Int)≥0:=by simpa using h
    have ae:j <E3 n:=by omega
    refine⟨ae,?_⟩
    rcases UT n with hz|⟨g1,g2,_⟩
    ·omega
    ·exact⟨g1,g2⟩
   have byte:j <E3 n→okN n→Da n (E3 n:Int) ((E3 n:Int) - 1 - (j:Int)) (b++(FO n).take j)=(((n.toNat+Ah5 (E3 n)*(64*256^(E3 n - 1))) / 256^(E3 n - 1 - j) % 256:Nat):Int):=fun ae hn=>by
    have e:(E3 n:Int) - 1 - (j:Int)=((E3 n - 1 - j:Nat):Int):=by omega
    rw[e]
    exact B2k hn (by omega) _
   refine⟨Aa (fun h=>?_) (Aa (fun h=>?_) Ag),fun hg=>?_⟩
   ·obtain⟨ae,_⟩:=key h
    show Af ((b++(FO n).take j).length+1)
    unfold Af at*
    rw[List.length_append,List.length_take]
    omega
   ·obtain⟨ae,hn⟩:=key h
    show(0:Int)≤Da n (E3 n:Int) ((E3 n:Int) - 1 - (j:Int)) (b++(FO n).take j)∧Da n (E3 n:Int) ((E3 n:Int) - 1 - (j:Int)) (b++(FO n).take j) <256
    rw[byte ae hn]
    omega
   ·obtain⟨ae,hn⟩:=key hg
    refine⟨⟨j+1,ae,?_⟩,?_⟩
    ·show(n,(E3 n:Int),IntKind.i64.wrap ((E3 n:Int) - 1 - (j:Int) - 1),(b++(FO n).take j)++[UInt8.ofNat (Da n (E3 n:Int) ((E3 n:Int) - 1 - (j:Int)) (b++(FO n).take j)).toNat])=_
     rw[byte ae hn,i64_in (by omega),Int.toNat_natCast]
     have ht:(FO n).take (j+1)=(FO n).take j++[UInt8.ofNat ((n.toNat+Ah5 (E3 n)*(64*256^(E3 n - 1))) / 256^(E3 n - 1 - j) % 256)]:=by
      unfold FO
      rw[Bh8 ae]
      congr 2
      apply UInt8.toNat_inj.1
      rw[UInt8.toNat_ofNat',UInt8.toNat_ofNat']
      omega
     rw[ht,List.append_assoc]
     simp only[Prod.mk.injEq,true_and,and_true]
     omega
    ·show(IntKind.i64.wrap ((E3 n:Int) - 1 - (j:Int) - 1)+1).toNat <((E3 n:Int) - 1 - (j:Int)+1).toNat
     rw[i64_in (by omega)]
     omega) _ (n,(E3 n:Int),(E3 n:Int) - 1,[]++b) ⟨0,Nat.zero_le _,by simp⟩ (Nat.le_refl _)
 refine⟨h1,?_⟩
 have h4:Rb (n,(E3 n:Int),(E3 n:Int) - 1,[]++b)=_:=h2
 rw[h2] at h3
 have ef:(!!decide ((E3 n:Int) - 1 - (j:Int)≥0))=false:=h3
 have hn:¬((E3 n:Int) - 1 - (j:Int)≥0):=by simpa using ef
 obtain rfl:j=E3 n:=by omega
 rw[h4,List.take_of_length_le (by rw[Nj];exact Nat.le_refl _)]
theorem Be1 (a0:Ae) (a1:Int) (hp:∀p∈Amz a0 a1,p):An AP 58 [AA .bytes a0,AA .i64 a1] 0 [] 1 (Auz a0 a1) 1 (VM a0 a1):=by
 have hb:Af (a0.length+8):=hp _ (List.mem_cons_self ..)
 obtain⟨h1,h2⟩:=Bsw a0 a1 hb
 have h:=Bm8 a0 a1 (Aa (by unfold Af at*;omega) (Aa h1 Ag))
 have ho:ZM a0 a1=VM a0 a1:=by unfold ZM VM A0y;rw[h2]
 rw[ho] at h
 exact h
theorem A92:Gw AP 58 (Cy [.t .bytes,.t .i64] 1 Auz VM Amz):=Az Be1
def Bco:=DM A92 Boo
abbrev Ff:Type:=Ae×Int×Int
def A38 (x:Ff):St:=⟨51,0,[(0,.sl .u8 x.1),(5,iV (x.2.1)),(6,iV (x.2.2))],[]⟩
def Abb:St→Option Ff
 |⟨51,0,[(0,.sl .u8 z0),(5,.v (.int .i64 z1)),(6,.v (.int .i64 z2))],[]⟩=>some (z0,z1,z2)
 |_=>none
def A37:Em:=⟨0,0,[0,5,6],[],[],[],[5],[]⟩
def A36:EQ:=⟨[],[],[0,5,6],[]⟩
def HI (a0:Ae) (_a1 a2:Int):Bool:=!decide (a2 <IntKind.i64.wrap (IntKind.u8.wrap ((↑(UInt8.toNat (a0.getD (0:Nat) (Av TC.u8))):Int).tdiv (64:Int))))
def Kf (x:Ff):Ff:=(x.1,IntKind.i64.wrap (2*x.2.1),IntKind.i64.wrap (x.2.2+1))
def Ke (x:Ff):El:=some (!(HI x.1 x.2.1 x.2.2))
def Yb (x:Ff):List Prop:=[((0:Int)≤0∧0 <(x.1.length:Int))]
abbrev Pb:Ff→List Prop:=Yb
def Apw (x:Ff):BD:=[(some 0,some ((HI x.1 x.2.1 x.2.2)),⟨51,0,[(5,iV (x.2.1))],[]⟩)]
def Kc (x:Ff):Nat:=(IntKind.i64.wrap (IntKind.u8.wrap ((↑(UInt8.toNat (x.1.getD 0 (Av TC.u8))):Int).tdiv 64)) - x.2.2).toNat
def Q9 (x:Ff):Ff:=Bh Kf Ke (Kc x) x
def Auo:=Jt (Co Bco.1 L0) (Aw AP 86 0) A37 A36 Abb Kc Kf Ke Pb Apw
def VJ:=V8 0 (g:=Auo) (BX (T:=A38) (psA:=Yb) Bco.2 AF (u:=9) (by kernel_rfl) (by decide) (fun⟨a0,a1,a2⟩=>by kernel_rfl) (fun _ h=>h) (fun s x h=>by unfold Abb at h;split at h<;>first|(cases h;rfl)|cases h) (fun _=>A9 (n:=51) rfl) fun _ _=>rfl) ⟨L0,AF⟩
abbrev Fg:Type:=Ae×Int×Int×Int
def A4b (x:Fg):St:=⟨51,0,[(0,.sl .u8 x.1),(5,iV (x.2.1)),(7,iV (x.2.2.1)),(8,iV (x.2.2.2))],[]⟩
def Abc:St→Option Fg
 |⟨51,0,[(0,.sl .u8 z0),(5,.v (.int .i64 z1)),(7,.v (.int .i64 z2)),(8,.v (.int .i64 z3))],[]⟩=>some (z0,z1,z2,z3)
 |_=>none
def A4a:Em:=⟨0,0,[0,5,7,8],[],[],[],[7],[]⟩
def A39:EQ:=⟨[],[],[0,5,7,8],[]⟩
def Aup (a0:Ae) (a2 a3:Int):Int:=IntKind.i64.wrap (IntKind.i64.wrap (256*a2)+IntKind.i64.wrap (↑(UInt8.toNat (a0.getD a3.toNat (Av TC.u8))):Int))
def Ki:Fg→Fg
  |(a0,a1,a2,a3)=>(a0,a1,Aup a0 a2 a3,IntKind.i64.wrap (a3+1))
def Kh (x:Fg):El:=some (!!decide (x.2.2.2 <x.2.1))
def Yc:Fg→List Prop
  |(a0,a1,_,a3)=>[((!!decide (a3 <a1))=true→0≤a3∧a3 <(a0.length:Int))]
abbrev Pc:Fg→List Prop:=Yc
def Apx (x:Fg):BD:=[(some 2,some (!decide (x.2.2.2 <x.2.1)),⟨51,0,[(7,iV (x.2.2.1))],[]⟩)]
def Kg (x:Fg):Nat:=(x.2.1 - x.2.2.2).toNat
def Ra (x:Fg):Fg:=Bh Ki Kh (Kg x) x
def Auq:=Jt (Co Bco.1 VJ.1) (Aw AP 86 2) A4a A39 Abc Kg Ki Kh Pc Apx
def Agx:=V8 2 (g:=Auq) (BX (T:=A4b) (psA:=Yc) Bco.2 VJ.2 (u:=9) (by kernel_rfl) (by decide) (fun⟨a0,a1,a2,a3⟩=>by kernel_rfl) (fun _ h=>h) (fun s x h=>by unfold Abc at h;split at h<;>first|(cases h;rfl)|cases h) (fun _=>A9 (n:=51) rfl) fun _ _=>rfl) VJ
def Hq (a0:Ae):Bool:=(a0.length:Int)==0
def Lk (a0:Ae):Int:=(Q9 (a0,1,0)).2.1
def Lj (a0:Ae):Bool:=decide ((a0.length:Int) <(Lk a0))
def VK (a0:Ae):=Ra (a0,(Lk a0),IntKind.i64.wrap ((↑(UInt8.toNat (a0.getD 0 (Av TC.u8))):Int).tmod 64),1)
def Q8 (a0:Ae):Bool:=CX (VK a0).2.2.1 !=(Lk a0)
def Aj6 (a0:Ae):Int:=bif(Hq a0) then 0 else bif(Lj a0) then 0 else bif(Q8 a0) then 0 else(VK a0).2.2.1
def Aj7 (a0:Ae):Int:=bif(Hq a0) then 0 else bif(Lj a0) then 0 else bif(Q8 a0) then 0 else(Lk a0)
def Aj8 (a0:Ae):Int:=bif(Hq a0) then 10 else bif(Lj a0) then 10 else bif(Q8 a0) then 11 else 0
def ZL (a0:Ae):A:=.v (.tuple ⟨[.int .i64 (Aj6 a0),.int .i64 (Aj7 a0),.int .i64 (Aj8 a0)]⟩)
def Aus (a0:Ae):=(!(Hq a0))=true→(!(Lj a0))=true→A8 Ki Kh Pc (Kg (a0,(Lk a0),IntKind.i64.wrap ((↑(UInt8.toNat (a0.getD 0 (Av TC.u8))):Int).tmod 64),1)) (a0,(Lk a0),IntKind.i64.wrap ((↑(UInt8.toNat (a0.getD 0 (Av TC.u8))):Int).tmod 64),1)
def Aut (a0:Ae):=(!(Hq a0))=true→A8 Kf Ke Pb (Kc (a0,1,0)) (a0,1,0)
def Aur (a0:Ae):List Prop:=[(Aut a0),((!(Hq a0))=true→(!(Lj a0))=true→(0:Int)≤0∧0 <(a0.length:Int)),(Aus a0)]
theorem Bez (a0:Ae):RL (Co Bco.1 Agx.1) 9 86 [AA .bytes a0] 0 []=some (1,ZL a0,0,[],[((!(Hq a0))=true→Aw AP (86:FuncId) 0=Aw AP (86:FuncId) 0),(Aut a0),((!(Hq a0))=true→(!(Lj a0))=true→(0:Int)≤0∧0 <(a0.length:Int)),((!(Hq a0))=true→(!(Lj a0))=true→Aw AP (86:FuncId) 2=Aw AP (86:FuncId) 2),(Aus a0)]):=by kernel_rfl
theorem Bm7 (a0:Ae) (hp:∀p∈Aur a0,p):An AP 86 [AA .bytes a0] 0 [] 1 (ZL a0) 0 []:=
  AN (Au Bco.2 Agx.2) (Bez a0) (Aa (by intros;rfl) (nT hp fun hp=>nT hp fun hp=>Aa (by intros;rfl) (nT hp fun _=>Ag)))
def VL (a0:Ae):A:=.v (.tuple ⟨[.int .i64 (Ad a0).1,.int .i64 (Ad a0).2.1,.int .i64 (Ad a0).2.2]⟩)
def Amv (_a0:Ae):List Prop:=[]
theorem Bkm (x:UInt8):IntKind.i64.wrap (IntKind.u8.wrap ((((x.toNat:Nat):Int)).tdiv (64:Int)))=((x.toNat / 64:Nat):Int):=by
 have hx:x.toNat <256:=x.toNat_lt
 rw[Int.tdiv_eq_ediv_of_nonneg (by omega),IntWalk.u8_in _ (by omega),i64_in (by omega)]
 omega
theorem Bw3 (x:UInt8):IntKind.i64.wrap ((((x.toNat:Nat):Int)).tmod (64:Int))=((x.toNat % 64:Nat):Int):=by
 have hx:x.toNat <256:=x.toNat_lt
 rw[Int.tmod_eq_emod_of_nonneg (by omega),i64_in (by omega)]
 omega
theorem Bm9 (x:UInt8) (r:Ae):
  A8 Kf Ke Pb (Kc (x::r,(1:Int),(0:Int))) (x::r,(1:Int),(0:Int))∧
  (Q9 (x::r,(1:Int),(0:Int))).2.1=((2^(x.toNat / 64):Nat):Int):=by
 have hx:x.toNat <256:=x.toNat_lt
 have hf:∀k i:Int,HI (x::r) k i=!decide (i <((x.toNat / 64:Nat):Int)):=fun k i=>by
  unfold HI
  show(!decide (i <IntKind.i64.wrap (IntKind.u8.wrap ((((x.toNat:Nat):Int)).tdiv (64:Int)))))=_
  rw[Bkm]
 obtain⟨h1,⟨i,hi,h2⟩,h3⟩:=QW (next:=Kf) (goes:=Ke) (ps:=Pb)
  (fun y=>∃i:Nat,i≤x.toNat / 64∧y=(x::r,((2^i:Nat):Int),(i:Int))) Kc (by
   rintro y ⟨i,hi,rfl⟩
   refine⟨Aa ⟨Int.le_refl _,by show(0:Int) <((r.length+1:Nat):Int);omega⟩ Ag,fun hg=>?_⟩
   have ah:(!(HI (x::r) ((2^i:Nat):Int) (i:Int)))=true:=hg
   rw[hf] at ah
   have ae:i <x.toNat / 64:=by
    have:(i:Int) <((x.toNat / 64:Nat):Int):=by simpa using ah
    omega
   have h2i:2^i≤2^3:=Nat.pow_le_pow_right (by decide) (by omega)
   refine⟨⟨i+1,ae,?_⟩,?_⟩
   ·show(x::r,IntKind.i64.wrap ((2:Int)*((2^i:Nat):Int)),IntKind.i64.wrap ((i:Int)+1))=_
    rw[Nat.pow_succ]
    generalize 2^i=q at*
    rw[i64_in (by omega),i64_in (by omega)]
    simp only[Prod.mk.injEq,true_and]
    omega
   ·show(IntKind.i64.wrap (IntKind.u8.wrap ((((x.toNat:Nat):Int)).tdiv (64:Int))) - IntKind.i64.wrap ((i:Int)+1)).toNat <(IntKind.i64.wrap (IntKind.u8.wrap ((((x.toNat:Nat):Int)).tdiv (64:Int))) - (i:Int)).toNat
    rw[Bkm,i64_in (by omega)]
    omega) _ (x::r,(1:Int),(0:Int)) ⟨0,Nat.zero_le _,rfl⟩ (Nat.le_refl _)
 refine⟨h1,?_⟩
 have h4:Q9 (x::r,(1:Int),(0:Int))=_:=h2
 rw[h2] at h3
 have ef:(!(HI (x::r) ((2^i:Nat):Int) (i:Int)))=false:=h3
 rw[hf] at ef
 have hn:¬((i:Int) <((x.toNat / 64:Nat):Int)):=by simpa using ef
 obtain rfl:i=x.toNat / 64:=by omega
 rw[h4]
theorem A00 (x:UInt8) (r:Ae) (K:Nat) (_hK:1≤K) (_h8:K≤8) (_hl:K≤r.length+1):
  A8 Ki Kh Pc (Kg (x::r,(K:Int),((x.toNat % 64:Nat):Int),(1:Int))) (x::r,(K:Int),((x.toNat % 64:Nat):Int),(1:Int))∧
  (Ra (x::r,(K:Int),((x.toNat % 64:Nat):Int),(1:Int))).2.2.1=(val (x.toNat % 64) (r.take (K - 1)):Int):=by
 obtain⟨h1,⟨i,hi,h2⟩,h3⟩:=QW (next:=Ki) (goes:=Kh) (ps:=Pc)
  (fun y=>∃i:Nat,i≤K - 1∧y=(x::r,(K:Int),(val (x.toNat % 64) (r.take i):Int),((i+1:Nat):Int))) Kg (by
   rintro y ⟨i,hi,rfl⟩
   have key:(!!decide (((i+1:Nat):Int) <(K:Int)))=true→i <K - 1:=fun h=>by
    have:((i+1:Nat):Int) <(K:Int):=by simpa using h
    omega
   refine⟨Aa (fun h=>?_) Ag,fun hg=>?_⟩
   ·have:=key h
    show(0:Int)≤((i+1:Nat):Int)∧((i+1:Nat):Int) <((r.length+1:Nat):Int)
    omega
   ·have ae:=key hg
    have hv:=Qk (r.take i) (x.toNat % 64)
    have lh:=Alv (r.take i)
    have e:(r.take i).length=i:=by rw[List.length_take];omega
    rw[e] at hv lh
    have hm:256^i≤256^6:=Nat.pow_le_pow_right (by decide) (by omega)
    have hq:=Nat.mul_le_mul_right (256^i) (show x.toNat % 64+1≤64 by omega)
    rw[Nat.add_mul,Nat.one_mul] at hq
    have ka:=Nat.mul_le_mul_left 64 hm
    have h6:64*256^6=18014398509481984:=by decide
    have hb:val (x.toNat % 64) (r.take i) <18014398509481984:=by omega
    have hd:((x::r).getD ((i+1:Nat):Int).toNat (Av TC.u8))=r.getD i (Av TC.u8):=by rw[Int.toNat_natCast];rfl
    have hy:(r.getD i (Av TC.u8)).toNat <256:=(r.getD i (Av TC.u8)).toNat_lt
    refine⟨⟨i+1,ae,?_⟩,?_⟩
    ·show(x::r,(K:Int),IntKind.i64.wrap (IntKind.i64.wrap ((256:Int)*(val (x.toNat % 64) (r.take i):Int))+IntKind.i64.wrap (((((x::r).getD ((i+1:Nat):Int).toNat (Av TC.u8)).toNat:Nat):Int))),IntKind.i64.wrap (((i+1:Nat):Int)+1))=_
     rw[hd,←Bcc (x.toNat % 64) r i (by omega) (d:=Av TC.u8)]
     clear hv lh hq ka hm h6 e
     generalize val (x.toNat % 64) (r.take i)=v at*
     generalize (r.getD i (Av TC.u8)).toNat=y at*
     rw[i64_in (n:=(256:Int)*(v:Int)) (by omega),i64_in (n:=((y:Nat):Int)) (by omega),i64_in (by omega),i64_in (by omega)]
     simp only[Prod.mk.injEq,true_and]
     omega
    ·show((K:Int) - IntKind.i64.wrap (((i+1:Nat):Int)+1)).toNat <((K:Int) - ((i+1:Nat):Int)).toNat
     rw[i64_in (by omega)]
     omega) _ (x::r,(K:Int),((x.toNat % 64:Nat):Int),(1:Int)) ⟨0,Nat.zero_le _,rfl⟩ (Nat.le_refl _)
 refine⟨h1,?_⟩
 have h4:Ra (x::r,(K:Int),((x.toNat % 64:Nat):Int),(1:Int))=_:=h2
 rw[h2] at h3
 have ef:(!!decide (((i+1:Nat):Int) <(K:Int)))=false:=h3
 have hn:¬(((i+1:Nat):Int) <(K:Int)):=by simpa using ef
 obtain rfl:i=K - 1:=by omega
 rw[h4]
theorem Bey (b:Ae):(∀p∈Aur b,p)∧(Aj6 b,Aj7 b,Aj8 b)=Ad b:=by
 cases b with
 |nil=>
  have no:(!(Hq []))=true→False:=by intro h;cases h
  exact⟨Aa (fun h=>(no h).elim) (Aa (fun h=>(no h).elim) (Aa (fun h=>(no h).elim) Ag)),rfl⟩
 | cons x r=>
  have hx:x.toNat <256:=x.toNat_lt
  have k3:Hq (x::r)=false:=by
   show(((r.length+1:Nat):Int)==0)=false
   rw[Bool.eq_false_iff,Ne,beq_iff_eq]
   omega
  obtain⟨n1,n2⟩:=Bm9 x r
  have k2:Lk (x::r)=((2^(x.toNat / 64):Nat):Int):=n2
  have hK:=(Bhh (show x.toNat / 64≤3 by omega)).1
  have mj:IntKind.i64.wrap ((↑(UInt8.toNat ((x::r).getD (0:Nat) (Av TC.u8))):Int).tmod (64:Int))=((x.toNat % 64:Nat):Int):=Bw3 x
  generalize hKK:2^(x.toNat / 64)=K at*
  have k1:Lj (x::r)=decide (r.length+1 <K):=by
   show decide (((r.length+1:Nat):Int) <Lk (x::r))=_
   rw[k2]
   exact decide_eq_decide.2 Int.ofNat_lt
  refine⟨Aa (fun _=>n1) (Aa (fun _ _=>⟨Int.le_refl _,by show(0:Int) <((r.length+1:Nat):Int);omega⟩) (Aa (fun _ h=>?_) Ag)),?_⟩
  ·rw[k1] at h
   have hc:¬(r.length+1 <K):=by simpa using h
   rw[mj,k2]
   exact(A00 x r K (by unfold szs at hK;omega) (by unfold szs at hK;omega) (by omega)).1
  ·unfold Aj6 Aj7 Aj8 VK
   rw[k3,k1,Uo,hKK]
   by_cases c1:r.length+1 <K
   ·rw[if_pos c1,decide_eq_true c1];rfl
   ·rw[if_neg c1,decide_eq_false c1]
    obtain⟨m1,m2⟩:=A00 x r K (by unfold szs at hK;omega) (by unfold szs at hK;omega) (by omega)
    have k0:Q8 (x::r)=decide (E3 (val (x.toNat % 64) (r.take (K - 1))) <K):=by
     unfold Q8 VK
     rw[mj,k2,m2,Am0]
     have hv:=Qk (r.take (K - 1)) (x.toNat % 64)
     have lh:=Alv (r.take (K - 1))
     have e:(r.take (K - 1)).length=K - 1:=by rw[List.length_take];omega
     rw[e] at hv lh
     have hq:=Nat.mul_le_mul_right (256^(K - 1)) (show x.toNat % 64+1≤64 by omega)
     rw[Nat.add_mul,Nat.one_mul] at hq
     have hle:=(Bzu hK (show val (x.toNat % 64) (r.take (K - 1)) <64*256^(K - 1) by omega)).1
     rw[Bool.eq_iff_iff,bne_iff_ne,decide_eq_true_eq]
     constructor
     ·intro h
      have:E3 (val (x.toNat % 64) (r.take (K - 1)))≠K:=fun h'=>h (by rw[h'])
      omega
     ·intro h h'
      omega
    rw[k0,mj,k2,m2]
    by_cases c2:E3 (val (x.toNat % 64) (r.take (K - 1))) <K
    ·rw[if_pos c2,decide_eq_true c2];rfl
    ·rw[if_neg c2,decide_eq_false c2];rfl
theorem Bex (a0:Ae) (_hp:∀p∈Amv a0,p):An AP 86 [AA .bytes a0] 0 [] 1 (VL a0) 0 []:=by
 obtain⟨h1,h2⟩:=Bey a0
 have h:=Bm7 a0 h1
 have hr:ZL a0=VL a0:=by unfold ZL VL;rw[←h2]
 rw[hr] at h
 exact h
theorem Amw:Gw AP 86 (Cy [.t .bytes] 0 VL (fun _=>[]) Amv):=Az Bex
def B30:=DM Amw Bco
def NR (a0:Ae) (a1:ByteArray):Ae:=a0++FO (a1.size:Int)
def Abe (a0:Ae) (a1:ByteArray):Ae:=(NR a0 a1)++a1.data.toList
def Axm (_a0:Ae) (_a1:ByteArray):A:=.sq 0
def TK (a0:Ae) (a1:ByteArray):AE:=[(0,some (.arr 5 1 (.ty .u8 (Abe a0 a1))))]
def Auw (a0:Ae) (a1:ByteArray):List Prop:=[(Af (a0.length+8)),(Af ((NR a0 a1).length+a1.data.toList.length))]
theorem Axl (a0:Ae) (a1:ByteArray) (hp:∀p∈Auw a0 a1,p):An AP 100 [AA .bytes a0,AA .str a1] 0 [] 1 (Axm a0 a1) 1 (TK a0 a1):=AN (u:=9) (Au B30.2 AF) (by kernel_rfl) hp
def Yf (_a0:Ae) (_a1:ByteArray):A:=.sq 0
def NS (a0:Ae) (a1:ByteArray):AE:=[(0,some (.arr 5 1 (.ty .u8 (a0++Ot a1))))]
def Wt (a0:Ae) (a1:ByteArray):List Prop:=[Af (a0.length+8+a1.size)]
theorem Auv (a0:Ae) (a1:ByteArray) (hp:∀p∈Wt a0 a1,p):An AP 100 [AA .bytes a0,AA .str a1] 0 [] 1 (Yf a0 a1) 1 (NS a0 a1):=by
 have hb:Af (a0.length+8+a1.size):=hp _ (List.mem_cons_self ..)
 have h:=Axl a0 a1 (Aa (by unfold Af at*;omega) (Aa (by
  have:=Adz (a1.size:Int)
  have hs:a1.data.toList.length=a1.size:=Array.length_toList
  unfold NR Af at*
  rw[List.length_append,hs]
  omega) Ag))
 have ho:TK a0 a1=NS a0 a1:=by unfold TK NS Abe NR Ot;rw[List.append_assoc]
 rw[ho] at h
 exact h
theorem Wu:Gw AP 100 (Cy [.t .bytes,.t .str] 1 Yf NS Wt):=Az Auv
def B31:=DM Wu B30
def Li (a0:Ae):Bool:=(Ad a0).2.2 !=0
def I1 (a0:Ae):Int:=IntKind.i64.wrap ((Ad a0).2.1+(Ad a0).1)
def Lh (a0:Ae) (a1:Int):Bool:=decide ((Ad a0).1 >a1)
def I0 (a0:Ae):Bool:=decide (IntKind.i64.wrap ((a0.length:Int) - (Ad a0).2.1) <(Ad a0).1)
def TG (a0:Ae) (a1:Int):ByteArray:=bif(Li a0) then ByteArray.mk #[] else bif(Lh a0 a1) then ByteArray.mk #[] else bif(I0 a0) then ByteArray.mk #[] else ByteArray.mk (List.take ((I1 a0).toNat - (Ad a0).2.1.toNat) (List.drop (Ad a0).2.1.toNat a0)).toArray
def TH (a0:Ae) (a1:Int):Int:=bif(Li a0) then 0 else bif(Lh a0 a1) then 0 else bif(I0 a0) then 0 else(I1 a0)
def TI (a0:Ae) (a1:Int):Int:=bif(Li a0) then(Ad a0).2.2 else bif(Lh a0 a1) then 3 else bif(I0 a0) then 10 else 0
def TJ (a0:Ae) (a1:Int):A:=.v (.tuple ⟨[.string (TG a0 a1),.int .i64 (TH a0 a1),.int .i64 (TI a0 a1)]⟩)
def Ya (a0:Ae) (a1:Int):List Prop:=[((!(Li a0))=true→(!(Lh a0 a1))=true→(!(I0 a0))=true→0≤(Ad a0).2.1∧(Ad a0).2.1≤(I1 a0)∧(I1 a0)≤(a0.length:Int))]
theorem Axh (a0:Ae) (a1:Int) (hp:∀p∈Ya a0 a1,p):An AP 121 [AA .bytes a0,AA .i64 a1] 0 [] 1 (TJ a0 a1) 0 []:=AN (u:=9) (Au B31.2 AF) (by kernel_rfl) hp
def NP (a0:Ae) (a1:Int):A:=.v (.tuple ⟨[.string (Bm a0 a1).1,.int .i64 (Bm a0 a1).2.1,.int .i64 (Bm a0 a1).2.2]⟩)
def Wq (a0:Ae) (_a1:Int):List Prop:=[Af a0.length]
theorem Aun (b:Ae) (m:Int) (hb:Af b.length):(∀p∈Ya b m,p)∧(TG b m,TH b m,TI b m)=Bm b m:=by
 obtain⟨ar,dj,cy,eg,kz⟩:=AZ b
 unfold Af at hb
 have k2:I1 b=(Ad b).2.1+(Ad b).1:=by
  unfold I1
  exact i64_in (by omega)
 have k0:I0 b=decide ((b.length:Int) - (Ad b).2.1 <(Ad b).1):=by
  unfold I0
  rw[i64_in (by omega)]
 refine⟨Aa (fun _ _ h=>?_) Ag,?_⟩
 ·rw[k0] at h
  rw[k2]
  have h':¬((b.length:Int) - (Ad b).2.1 <(Ad b).1):=by simpa using h
  omega
 ·unfold TG TH TI Lh Li Bm
  rw[k0,k2]
  by_cases he:(Ad b).2.2=0
  ·have e1:((Ad b).2.2 !=(0:Int))=false:=by rw[he];rfl
   rw[e1,if_neg (by rw[he];simp)]
   by_cases hm:(Ad b).1 >m
   ·rw[decide_eq_true hm,if_pos hm];rfl
   ·rw[decide_eq_false hm,if_neg hm]
    by_cases hc:(b.length:Int) - (Ad b).2.1 <(Ad b).1
    ·rw[decide_eq_true hc,if_pos hc];rfl
    ·rw[decide_eq_false hc,if_neg hc]
     have e3:((Ad b).2.1+(Ad b).1).toNat - (Ad b).2.1.toNat=(Ad b).1.toNat:=by omega
     rw[e3]
     rfl
  ·have e1:((Ad b).2.2 !=(0:Int))=true:=by simpa using he
   rw[e1,if_pos he]
   rfl
theorem Aum (a0:Ae) (a1:Int) (hp:∀p∈Wq a0 a1,p):An AP 121 [AA .bytes a0,AA .i64 a1] 0 [] 1 (NP a0 a1) 0 []:=by
 obtain⟨h1,h2⟩:=Aun a0 a1 (hp _ (List.mem_cons_self ..))
 have h:=Axh a0 a1 h1
 have hr:TJ a0 a1=NP a0 a1:=by unfold TJ NP;rw[←h2]
 rw[hr] at h
 exact h
theorem Wr:Gw AP 121 (Cy [.t .bytes,.t .i64] 0 NP (fun _ _=>[]) Wq):=Az Aum
def B32:=DM Wr B31
def VO (a0:A1):Int:=bif a0.1==0 then 0 else IntKind.i64.wrap (IntKind.i64.wrap (IntKind.i64.wrap (2*a0.1)+a0.2) - 1)
def Bfd (a0:A1):A:=iV ((VO a0))
def Bab (_a0:A1):List Prop:=[]
theorem A4m:Gw AP 114 (Cy [.t .stamp] 0 Bfd (fun _=>[]) Bab):=Az fun a0 hp=>AN (u:=9) (Au B32.2 AF) (by kernel_rfl) hp
def B33:=DM A4m B32
def A04 (a0:Ae) (a1:A1):Ae:=bif !GA a1 then[]++a0 else a0++FO (VO a1)
def Bnf (_a0:Ae) (_a1:A1):A:=.sq 0
def Akf (a0:Ae) (a1:A1):AE:=[(0,some (.arr 5 1 (.ty .u8 (A04 a0 a1))))]
def Bfj (a0:Ae) (a1:A1):List Prop:=[((!GA a1)=true→Af (0+a0.length)),((!!GA a1)=true→Af (a0.length+8))]
theorem Bne (a0:Ae) (a1:A1) (hp:∀p∈Bfj a0 a1,p):An AP 99 [AA .bytes a0,AA .stamp a1] 0 [] 1 (Bnf a0 a1) 1 (Akf a0 a1):=AN (u:=9) (Au B33.2 AF) (by kernel_rfl) hp
def Au6 (_a0:Ae) (_a1:A1):A:=.sq 0
def VQ (a0:Ae) (a1:A1):AE:=[(0,some (.arr 5 1 (.ty .u8 (a0++X8 a1))))]
def Am9 (a0:Ae) (_a1:A1):List Prop:=[Af (a0.length+8)]
theorem Baa (s:A1) (h:HA s=true):VO s=Aas s:=by
 have h':=Aji.1 h
 unfold VO Aas
 cases s.1==0 with
 |true=>rfl
 |false=>rw[cond_false,cond_false,i64_in (n:=2*s.1) (by omega),i64_in (n:=2*s.1+s.2) (by omega),i64_in (by omega)]
theorem Bfi (a0:Ae) (a1:A1) (hp:∀p∈Am9 a0 a1,p):An AP 99 [AA .bytes a0,AA .stamp a1] 0 [] 1 (Au6 a0 a1) 1 (VQ a0 a1):=by
 have hb:Af (a0.length+8):=hp _ (List.mem_cons_self ..)
 have h:=Bne a0 a1 (Aa (fun _=>by unfold Af at*;omega) (Aa (fun _=>hb) Ag))
 have ho:Akf a0 a1=VQ a0 a1:=by
  unfold Akf VQ A04 X8
  rw[S0]
  cases hg:HA a1 with
  |true=>rw[Baa a1 hg];rfl
  |false=>simp
 rw[ho] at h
 exact h
theorem Bae:Gw AP 99 (Cy [.t .bytes,.t .stamp] 1 Au6 VQ Am9):=Az Bfi
def B34:=DM Bae B33
def Rf (a0:Ae):Bool:=(Ad a0).2.2 !=0
def Re (a0:Ae):Bool:=decide ((Ad a0).1 >0)
def Rc (a0:Ae):Bool:=!GA (A1.mk (bif(Re a0) then IntKind.i64.wrap ((Ad a0).1.tdiv 2) else 0) (bif(Re a0) then IntKind.i64.wrap (1+(Ad a0).1.tmod 2) else 0))
def ZO (a0:Ae):A1:=A1.mk (bif(Rf a0) then 0 else bif(Rc a0) then 0 else bif(Re a0) then IntKind.i64.wrap ((Ad a0).1.tdiv 2) else 0) (bif(Rf a0) then 0 else bif(Rc a0) then 0 else bif(Re a0) then IntKind.i64.wrap (1+(Ad a0).1.tmod 2) else 0)
def Akc (a0:Ae):Int:=bif(Rf a0) then 0 else bif(Rc a0) then 0 else(Ad a0).2.1
def Akd (a0:Ae):Int:=bif(Rf a0) then(Ad a0).2.2 else bif(Rc a0) then 11 else 0
def Ake (a0:Ae):A:=.v (.tuple ⟨[.agg ⟨[.int .i64 ((ZO a0).n),.int .i64 ((ZO a0).site)]⟩,.int .i64 (Akc a0),.int .i64 (Akd a0)]⟩)
def Bfg (_a0:Ae):List Prop:=[]
theorem Bnd (a0:Ae) (hp:∀p∈Bfg a0,p):An AP 119 [AA .bytes a0] 0 [] 1 (Ake a0) 0 []:=AN (u:=9) (Au B34.2 AF) (by kernel_rfl) hp
def VP (a0:Ae):A:=.v (.tuple ⟨[.agg ⟨[.int .i64 (BB a0).1.n,.int .i64 (BB a0).1.site]⟩,.int .i64 (BB a0).2.1,.int .i64 (BB a0).2.2]⟩)
def Am8 (_a0:Ae):List Prop:=[]
theorem Bff (b:Ae):(ZO b,Akc b,Akd b)=BB b:=by
 obtain⟨_,_,_,eg,kz⟩:=AZ b
 have e1:(Ad b).1.tdiv 2=(Ad b).1 / 2:=Int.tdiv_eq_ediv_of_nonneg eg
 have e2:(Ad b).1.tmod 2=(Ad b).1 % 2:=Int.tmod_eq_emod_of_nonneg eg
 have hd:A1.mk (bif decide ((Ad b).1 >0) then(Ad b).1 / 2 else 0) (bif decide ((Ad b).1 >0) then 1+(Ad b).1 % 2 else 0)=Asm (Ad b).1:=by
  unfold Asm
  by_cases h0:(Ad b).1=0
  ·rw[if_pos h0,decide_eq_false (by omega)];rfl
  ·rw[if_neg h0,decide_eq_true (by omega)];rfl
 unfold ZO Akc Akd Rc Re Rf BB
 rw[e1,e2,i64_in (n:=(Ad b).1 / 2) (by omega),i64_in (by omega),S0,hd]
 by_cases he:(Ad b).2.2=0
 ·have e1:((Ad b).2.2 !=(0:Int))=false:=by rw[he];rfl
  rw[e1,if_neg (by rw[he];simp)]
  cases hg:HA (Asm (Ad b).1) with
  |true=>rw[←hd];rfl
  |false=>rfl
 ·have e1:((Ad b).2.2 !=(0:Int))=true:=by simpa using he
  rw[e1,if_pos he]
  rfl
theorem Bfe (a0:Ae) (_hp:∀p∈Am8 a0,p):An AP 119 [AA .bytes a0] 0 [] 1 (VP a0) 0 []:=by
 have h:=Bnd a0 Ag
 have hr:Ake a0=VP a0:=by unfold Ake VP;rw[←Bff]
 rw[hr] at h
 exact h
theorem Bac:Gw AP 119 (Cy [.t .bytes] 0 VP (fun _=>[]) Am8):=Az Bfe
def B35:=DM Bac B34
def VS (a0:Ae) (a1:BE):Ae:=a0++FO a1.1
def A05 (a0:Ae) (a1:BE):Ae:=bif !DI a1 then[]++a0 else(VS a0 a1)++FO a1.2
def Bni (_a0:Ae) (_a1:BE):A:=.sq 0
def Akj (a0:Ae) (a1:BE):AE:=[(0,some (.arr 5 1 (.ty .u8 (A05 a0 a1))))]
def Bfo (a0:Ae) (a1:BE):List Prop:=[((!DI a1)=true→Af (0+a0.length)),((!!DI a1)=true→Af (a0.length+8)),((!!DI a1)=true→Af ((VS a0 a1).length+8))]
theorem Bnh (a0:Ae) (a1:BE) (hp:∀p∈Bfo a0 a1,p):An AP 61 [AA .bytes a0,AA .vec a1] 0 [] 1 (Bni a0 a1) 1 (Akj a0 a1):=AN (u:=9) (Au B35.2 AF) (by kernel_rfl) hp
def Au8 (_a0:Ae) (_a1:BE):A:=.sq 0
def VT (a0:Ae) (a1:BE):AE:=[(0,some (.arr 5 1 (.ty .u8 (a0++Nz a1))))]
def Anc (a0:Ae) (_a1:BE):List Prop:=[Af (a0.length+16)]
theorem Bfn (a0:Ae) (a1:BE) (hp:∀p∈Anc a0 a1,p):An AP 61 [AA .bytes a0,AA .vec a1] 0 [] 1 (Au8 a0 a1) 1 (VT a0 a1):=by
 have hb:Af (a0.length+16):=hp _ (List.mem_cons_self ..)
 have h:=Bnh a0 a1 (Aa (fun _=>by unfold Af at*;omega) (Aa (fun _=>by unfold Af at*;omega) (Aa (fun _=>by
  have:=Adz a1.1
  unfold VS Af at*
  rw[List.length_append]
  omega) Ag)))
 have ho:Akj a0 a1=VT a0 a1:=by
  unfold Akj VT A05 VS Nz
  rw[Nl]
  cases FK a1<;>simp
 rw[ho] at h
 exact h
theorem Bag:Gw AP 61 (Cy [.t .bytes,.t .vec] 1 Au8 VT Anc):=Az Bfn
def B36:=DM Bag B35
def OJ (a0:Ae):Bool:=(Ad a0).2.2 !=0
def OK (a0:Ae):=Ad (List.take ((a0.length:Int).toNat - (Ad a0).2.1.toNat) (List.drop (Ad a0).2.1.toNat a0))
def Rh (a0:Ae):Bool:=!DI (BE.mk (Ad a0).1 (OK a0).1)
def Rg (a0:Ae):Bool:=(OK a0).2.2 !=0
def ZP (a0:Ae):BE:=BE.mk (bif(OJ a0) then 0 else bif(Rg a0) then 0 else bif(Rh a0) then 0 else(Ad a0).1) (bif(OJ a0) then 0 else bif(Rg a0) then 0 else bif(Rh a0) then 0 else(OK a0).1)
def Akg (a0:Ae):Int:=bif(OJ a0) then 0 else bif(Rg a0) then 0 else bif(Rh a0) then 0 else IntKind.i64.wrap ((Ad a0).2.1+(OK a0).2.1)
def Akh (a0:Ae):Int:=bif(OJ a0) then(Ad a0).2.2 else bif(Rg a0) then(OK a0).2.2 else bif(Rh a0) then 11 else 0
def Aki (a0:Ae):A:=.v (.tuple ⟨[.agg ⟨[.int .i64 ((ZP a0).a),.int .i64 ((ZP a0).b)]⟩,.int .i64 (Akg a0),.int .i64 (Akh a0)]⟩)
def Au7 (a0:Ae):List Prop:=[((!(OJ a0))=true→0≤(Ad a0).2.1∧(Ad a0).2.1≤(a0.length:Int)∧(a0.length:Int)≤(a0.length:Int))]
theorem Bng (a0:Ae) (hp:∀p∈Au7 a0,p):An AP 111 [AA .bytes a0] 0 [] 1 (Aki a0) 0 []:=AN (u:=9) (Au B36.2 AF) (by kernel_rfl) hp
def VR (a0:Ae):A:=.v (.tuple ⟨[.agg ⟨[.int .i64 (AB a0).1.a,.int .i64 (AB a0).1.b]⟩,.int .i64 (AB a0).2.1,.int .i64 (AB a0).2.2]⟩)
def Ana (_a0:Ae):List Prop:=[]
theorem Bfl (b:Ae):(∀p∈Au7 b,p)∧(ZP b,Akg b,Akh b)=AB b:=by
 obtain⟨ar,dj,cy,eg,kz⟩:=AZ b
 obtain⟨r8,jz,j4,u5,se⟩:=AZ (b.drop (Ad b).2.1.toNat)
 refine⟨Aa (fun _=>by omega) Ag,?_⟩
 unfold ZP Akg Akh Rg Rh OJ AB OK
 rw[BG,Nl,i64_in (n:=(Ad b).2.1+_) (by omega)]
 by_cases he:(Ad b).2.2=0
 ·have e1:((Ad b).2.2 !=(0:Int))=false:=by rw[he];rfl
  rw[e1,if_neg (by rw[he];simp)]
  by_cases ep:(Ad (b.drop (Ad b).2.1.toNat)).2.2=0
  ·have e2:((Ad (b.drop (Ad b).2.1.toNat)).2.2 !=(0:Int))=false:=by rw[ep];rfl
   rw[e2,if_neg (by rw[ep];simp)]
   cases hg:FK ⟨(Ad b).1,(Ad (b.drop (Ad b).2.1.toNat)).1⟩ with
   |true=>rfl
   |false=>rfl
  ·have e2:((Ad (b.drop (Ad b).2.1.toNat)).2.2 !=(0:Int))=true:=by simpa using ep
   rw[e2,if_pos ep]
   rfl
 ·have e1:((Ad b).2.2 !=(0:Int))=true:=by simpa using he
  rw[e1,if_pos he]
  rfl
theorem Bfk (a0:Ae) (_hp:∀p∈Ana a0,p):An AP 111 [AA .bytes a0] 0 [] 1 (VR a0) 0 []:=by
 obtain⟨h1,h2⟩:=Bfl a0
 have h:=Bng a0 h1
 have hr:Aki a0=VR a0:=by unfold Aki VR;rw[←h2]
 rw[hr] at h
 exact h
theorem Anb:Gw AP 111 (Cy [.t .bytes] 0 VR (fun _=>[]) Ana):=Az Bfk
def B3z:=DM Anb B36
abbrev Ce:=B3z
end Go.Proofs.YtifkbgkbajncjaaGreatDoor

