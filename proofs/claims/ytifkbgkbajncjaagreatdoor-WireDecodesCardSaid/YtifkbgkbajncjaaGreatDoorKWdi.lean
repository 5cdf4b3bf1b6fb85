/- made by a program (rowgen.py): WireDecodes: for every input the law returns true, and each argument reads behind the call as it read before. -/
import Derived.Test.YtifkbgkbajncjaaGreatDoorKWdh
import Derived.Test.YtifkbgkbajncjaaGreatDoorRows

set_option maxRecDepth 100000
noncomputable section
namespace Go.Proofs.YtifkbgkbajncjaaGreatDoor
open Go.RowKit
theorem A0i (i:Nat):∀(d:AE),(∃z,∀o,Ai i (d++o)=z)∨∀o,Ai i (d++o)=Ai i o
 | []=> .inr fun _=>rfl
 | (k,x)::r=>by
  by_cases e:i=k
  ·exact .inl ⟨x,fun o=>by rw[List.cons_append,AG,if_pos e]⟩
  ·rcases A0i i r with⟨z,h⟩|h
   ·exact .inl ⟨z,fun o=>by rw[List.cons_append,AG,if_neg e,h]⟩
   ·exact .inr fun o=>by rw[List.cons_append,AG,if_neg e,h]
theorem Ar3 {P:Program} {f:FuncId} {args:List A} {nx k nx':Nat} {o1 o1' d o:AE} {x:A} (h:An P f args nx o1 k x nx' o1') (hd:∀i ob,Ai i (d++o1)=some ob→Ai i o1'=some ob) (hs:∀i ob,Ai i o1=some ob→Ai i o=some ob):An P f args nx o k x nx' (d++o):=fun F N R vs hh ha=>by
 refine(h F N R vs (hh.weak hs) ha).mono fun _ R' ⟨y,F',N',e1,e2,e3,e4,e5⟩=>?_
 obtain⟨q1,q2⟩:=hh.frame (o':=d++o) hs e3 e2 fun i ob hi=>by
  rcases A0i i d with⟨z,hz⟩|hz
  ·exact .inl (hd i ob (by rw[hz];rw[hz] at hi;exact hi))
  ·rw[hz] at hi
   cases h1:Ai i o1 with
   |none=>exact .inr ⟨hi,rfl⟩
   |some pf=>
    have:=hs i pf h1
    rw[hi] at this
    cases this
    exact .inl (hd i ob (by rw[hz];exact h1))
 exact⟨y,F',N',e1,q1,q2,e4,e5⟩
theorem BK {i k:Nat} {z:Option Ob} {ob:Ob} {r:AE} (h:Ai i ((k,z)::r)=some ob):(i=k∧z=some ob)∨(i≠k∧Ai i r=some ob):=by
 rw[AG] at h
 by_cases e:i=k
 ·rw[if_pos e] at h;exact .inl ⟨e,h⟩
 ·rw[if_neg e] at h;exact .inr ⟨e,h⟩
theorem Bi3 (b:Ae) (l:List Ab):0≤Qb b l∧Qb b l≤(b.length:Int):=by
 have z:(0:Int)≤0∧(0:Int)≤(b.length:Int):=⟨Int.le_refl _,by omega⟩
 unfold Qb
 cases h3:NJ b l==0 with
 |false=>exact z
 | true=>
  have h3:NJ b l=0:=by simpa using h3
  have ai:∀i,i <l.length→On b l (Bm b 32).2.1 i=false:=fun i hi=>by
   unfold NJ at h3
   cases hg:AI l !=0 with
   |true=>rw[hg,cond_true] at h3;rw[h3] at hg;cases hg
   | false=>
    rw[hg,cond_false] at h3
    cases hk:Uv b with
    |false=>rw[hk] at h3;cases h3
    |true=>
     rw[hk] at h3
     cases ha:Kz l.length (fun i=>!On b l (Bm b 32).2.1 i) with
     |true=>simpa using Hj.1 ha i hi
     |false=>rw[ha] at h3;cases h3
  exact Azk (Gd b 32) l.length ai
theorem QE {b:Ae} (n:Nat) (_h:Af b.length):Af (b.drop n).length:=by
 unfold Af at*
 rw[List.length_drop]
 omega
theorem Bjn (n:Int) (l:List Ab) (k0 s0:Int) (pa:List Int) (u0 u1:Int) (bk:Bool):∀(m:Nat) (i:Int) (b:Ae) (bad:Bool) (rs:List AR),m=(n - i).toNat→0≤i→n≤256→(rs.length:Int)+m≤256→Af b.length→
  A8 Lb Io Atc m (n,i,b,l,bad,k0,s0,pa,u0,u1,bk,rs)∧
  ∃i',Bh Lb Io m (n,i,b,l,bad,k0,s0,pa,u0,u1,bk,rs)=(n,i',(Ab2 (wG (QR l)) m rs b bad).2.1,l,(Ab2 (wG (QR l)) m rs b bad).2.2,k0,s0,pa,u0,u1,bk,(Ab2 (wG (QR l)) m rs b bad).1)
 |0,i,b,bad,rs,hm,hi,hn,hl,hb=>by
  have hd:decide (i <n)=false:=decide_eq_false (by omega)
  have hf:∀q:Prop,(!!decide (i <n))=true→q:=fun q h=>by rw[hd] at h;cases h
  refine⟨⟨Aa (hf _) (Aa (hf _) (Aa (hf _) Ag)),?_⟩,i,rfl⟩
  show(!!decide (i <n)&&!(!!decide (i <n)&&bad))=false
  rw[hd]
  rfl
 | m+1,i,b,true,rs,hm,hi,hn,hl,hb=>by
  have hf:∀q:Prop,(!!decide (i <n))=true→(!true)=true→q:=fun q _ h=>by cases h
  have bz:BJ (Io (n,i,b,l,true,k0,s0,pa,u0,u1,bk,rs))=false:=by
   show(!!decide (i <n)&&!(!!decide (i <n)&&true))=false
   cases decide (i <n)<;>rfl
  refine⟨⟨Aa (hf _) (Aa (hf _) (Aa (hf _) Ag)),fun h=>by rw[bz] at h;cases h⟩,i,?_⟩
  show(bif BJ (Io (n,i,b,l,true,k0,s0,pa,u0,u1,bk,rs)) then _ else _)=_
  rw[bz]
  rfl
 | m+1,i,b,false,rs,hm,hi,hn,hl,hb=>by
  have ae:i <n:=by omega
  have hd:decide (i <n)=true:=decide_eq_true ae
  obtain⟨g1,g2⟩:=Bi3 b l
  have bz:BJ (Io (n,i,b,l,false,k0,s0,pa,u0,u1,bk,rs))=true:=by
   show(!!decide (i <n)&&!(!!decide (i <n)&&false))=true
   rw[hd]
   rfl
  have hnx:Lb (n,i,b,l,false,k0,s0,pa,u0,u1,bk,rs)=(n,(i+1),(b.drop (Qb b l).toNat),l,(false||NJ b l !=0),k0,s0,pa,u0,u1,bk,(rs++[(QR l b).1])):=by
   show(n,IntKind.i64.wrap (i+1),Ajn b l,l,_,k0,s0,pa,u0,u1,bk,Adm b l rs)=_
   unfold Ajn Adm
   rw[A5,i64_in (by omega)]
   rfl
  obtain⟨j1,i',j2⟩:=Bjn n l k0 s0 pa u0 u1 bk m (i+1) (b.drop (Qb b l).toNat) (false||NJ b l !=0) (rs++[(QR l b).1]) (by omega) (by omega) hn (by rw[List.length_append];simp only[List.length_cons,List.length_nil];omega) (QE _ hb)
  refine⟨⟨Aa (fun _ _=>hb) (Aa (fun _ _=>⟨g1,g2,Int.le_refl _⟩) (Aa (fun _ _=>by show Af (rs.length+1);unfold Af;omega) Ag)),fun _=>by rw[hnx];exact j1⟩,i',?_⟩
  show(bif BJ (Io (n,i,b,l,false,k0,s0,pa,u0,u1,bk,rs)) then Bh Lb Io m (Lb (n,i,b,l,false,k0,s0,pa,u0,u1,bk,rs)) else _)=_
  rw[bz,hnx,cond_true,j2]
  rfl
theorem Biu (l:List Ab) (bad:Bool) (k0 s0 c0 c1 c2 c3 c4 c5 q0 o0:Int) (pa:List Int) (u0 u1:Int) (bk:Bool):∀(m:Nat) (b:Ae) (ss:List Ae),m=b.length / 32→Af b.length→ss.length+m≤549755813888→
  A8 JP MX Xq m (k0,s0,c0,c1,c2,c3,c4,c5,q0,o0,pa,u0,u1,bk,b,l,bad,ss)∧Bh JP MX m (k0,s0,c0,c1,c2,c3,c4,c5,q0,o0,pa,u0,u1,bk,b,l,bad,ss)=(k0,s0,c0,c1,c2,c3,c4,c5,q0,o0,pa,u0,u1,bk,(b.drop (32*(b.length / 32))),l,bad,(ss++dgs b))
 | 0,b,ss,hm,hb,hl=>by
  have ae:b.length <32:=by omega
  have lv:Ap b=false:=by
   unfold Ap
   rw[decide_eq_false_iff_not]
   omega
  have h2:MW b=false:=by
   unfold MW
   rw[lv]
   rfl
  have hf:∀q:Prop,Ap b=true→q:=fun q h=>by rw[lv] at h;cases h
  refine⟨⟨Aa (hf _) (Aa (hf _) (Aa (hf _) (Aa (fun h=>by rw[h2] at h;cases h) Ag))),h2⟩,?_⟩
  show(k0,s0,c0,c1,c2,c3,c4,c5,q0,o0,pa,u0,u1,bk,b,l,bad,ss)=_
  rw[Biv ae,List.append_nil,Nat.div_eq_of_lt ae]
  rfl
 | m+1,b,ss,hm,hb,hl=>by
  have dz:32≤b.length:=by omega
  have hr:(0:Int)≤(32:Int)∧(32:Int)≤(b.length:Int)∧(b.length:Int)≤(b.length:Int):=by omega
  have lv:Ap b=true:=by
   unfold Ap
   rw[decide_eq_true_eq]
   omega
  have h2:MW b=true:=by
   unfold MW
   rw[lv]
   rfl
  have ht:32≤(List.take 32 (List.drop 0 b)).length:=by rw[List.drop_zero,List.length_take];omega
  have hnx:JP (k0,s0,c0,c1,c2,c3,c4,c5,q0,o0,pa,u0,u1,bk,b,l,bad,ss)=(k0,s0,c0,c1,c2,c3,c4,c5,q0,o0,pa,u0,u1,bk,(b.drop 32),l,bad,(ss++[b.take 32])):=by
   show(Aiv k0 b,Aiw s0 b,Aix c0 b,Aiy c1 b,Aiz c2 b,Ai0 c3 b,Ai1 c4 b,Ai2 c5 b,Ai3 q0 b,Ai4 o0 b,Acu pa b,Acv u0 b,Acw u1 b,Acx bk b,Acy b,l,bad,Acz k0 s0 c0 c1 c2 c3 c4 c5 q0 o0 pa u0 u1 bk b l bad ss)=_
   unfold Aiv Aiw Aix Aiy Aiz Ai0 Ai1 Ai2 Ai3 Ai4 Acu Acv Acw Acx Acy Acz Vd Ve Vf Vg Vh Vi Vj Vk Vl RY RZ R4 R5 R6 R7 R8 R9 Sa Sb Sc Sd Se Sf Sg Sh Si Sj Sk Sl Sm Sn So Sp Sq Ss Su Sv Sw Sy Sz SA SB SC SD SE SF SG BA
   simp only[lv,cond_true,A51]
   have e1:=Bzf ht
   rw[List.drop_zero,List.take_take] at e1
   rw[show List.take ((b.length:Int).toNat - 32) (List.drop 32 b)=b.drop 32 from List.take_of_length_le (by rw[List.length_drop];omega)]
   exact congrArg (fun z=>(k0,s0,c0,c1,c2,c3,c4,c5,q0,o0,pa,u0,u1,bk,b.drop 32,l,bad,ss++[z])) e1
  obtain⟨j1,j2⟩:=Biu l bad k0 s0 c0 c1 c2 c3 c4 c5 q0 o0 pa u0 u1 bk m (b.drop 32) (ss++[b.take 32]) (by rw[List.length_drop];omega) (QE _ hb) (by rw[List.length_append];simp only[List.length_cons,List.length_nil];omega)
  refine⟨⟨Aa (fun _=>⟨by omega,by omega,hr.2.1⟩) (Aa (fun _=>ht) (Aa (fun _=>by show Af (ss.length+1);unfold Af;omega) (Aa (fun _=>hr) Ag))),fun _=>by rw[hnx];exact j1⟩,?_⟩
  show(bif MW b then Bh JP MX m (JP (k0,s0,c0,c1,c2,c3,c4,c5,q0,o0,pa,u0,u1,bk,b,l,bad,ss)) else _)=_
  rw[h2,hnx,cond_true,j2,A74 dz,List.drop_drop,List.append_assoc,List.length_drop,show 32+32*((b.length - 32) / 32)=32*(b.length / 32) by omega]
  rfl
theorem Bk0 (l:List Ab) (b:Ae) (n k0 s0:Int) (pa:List Int) (u0 u1:Int) (bk:Bool) (hw:∀g∈l,AJ g.name.size):∀(m:Nat) (p i:Int) (rs:List AR),m=(n - i).toNat→Ol b p→0≤i→(rs.length:Int)+m≤256→n≤256→
  A8 LG J3 Ahy m (l,b,p,n,i,k0,s0,pa,u0,u1,bk,rs)∧
  ∃p' i' qm,Bh LG J3 m (l,b,p,n,i,k0,s0,pa,u0,u1,bk,rs)=(l,b,p',n,i',k0,s0,pa,u0,u1,bk,qm)∧Ol b p'∧
   ((Ps.many (Ps.ofG (QR l)) m (b.drop p.toNat)=none∧Hx l b p' n i'=true)∨(∃t,Ps.many (Ps.ofG (QR l)) m (b.drop p.toNat)=some (t,b.drop p'.toNat)∧qm=rs++t∧Hx l b p' n i'=false))
 | 0,p,i,rs,hm,hp,hi,hl,hn=>by
  have hd:decide (i <n)=false:=decide_eq_false (by omega)
  have hk:Hx l b p n i=false:=by
   unfold Hx
   rw[hd]
   rfl
  have hf:∀q:Prop,(!!decide (i <n))=true→q:=fun q h=>by rw[hd] at h;cases h
  refine⟨⟨Aa (hf _) (Aa (hf _) (Aa (fun h=>hf _ h) Ag)),?_⟩,p,i,rs,rfl,hp,.inr ⟨[],rfl,(List.append_nil _).symm,hk⟩⟩
  show(!!decide (i <n)&&!Hx l b p n i)=false
  rw[hd]
  rfl
 | m+1,p,i,rs,hm,hp,hi,hl,hn=>by
  have ae:i <n:=by omega
  have hd:decide (i <n)=true:=decide_eq_true ae
  have hb:=QE p.toNat hp.2.2
  obtain⟨we,wg⟩:=Bi3 (b.drop p.toNat) l
  have dj:LF b p=b.drop p.toNat:=by unfold LF;rw[A5]
  have ar:Hx l b p n i=(NJ (b.drop p.toNat) l !=0):=by
   unfold Hx
   rw[hd,dj]
   rfl
  have bz:J3 (l,b,p,n,i,k0,s0,pa,u0,u1,bk,rs)=some (!(NJ (b.drop p.toNat) l !=0)):=by
   show some (!!decide (i <n)&&!Hx l b p n i)=_
   rw[ar,hd]
   rfl
  have cu:∀q∈Ahy (l,b,p,n,i,k0,s0,pa,u0,u1,bk,rs),q:=Aa (fun _=>Es hp) (Aa (fun _=>⟨by rw[dj];exact hb,hw⟩) (Aa (fun _ _=>by show Af (rs.length+1);unfold Af;omega) Ag))
  by_cases hc:NJ (b.drop p.toNat) l=0
  case neg=>
   have e:(NJ (b.drop p.toNat) l !=0)=true:=by simpa using hc
   rw[e] at bz ar
   refine⟨⟨cu,fun h=>by rw[bz] at h;cases h⟩,p,i,rs,?_,hp,.inl ⟨A3a (JX (get:=QR l) hc),ar⟩⟩
   show(bif BJ (J3 (l,b,p,n,i,k0,s0,pa,u0,u1,bk,rs)) then _ else _)=_
   rw[bz]
   rfl
  have e:(NJ (b.drop p.toNat) l !=0)=false:=by simpa using hc
  rw[e] at bz
  obtain⟨q1,q2⟩:=Bpg (r:=(b.drop p.toNat).drop (Qb (b.drop p.toNat) l).toNat) hp ⟨we,wg,hb⟩ rfl
  have hnx:LG (l,b,p,n,i,k0,s0,pa,u0,u1,bk,rs)=(l,b,(p+Qb (b.drop p.toNat) l),n,(i+1),k0,s0,pa,u0,u1,bk,(rs++[(QR l (b.drop p.toNat)).1])):=by
   show(l,b,Alf l b p,n,IntKind.i64.wrap (i+1),k0,s0,pa,u0,u1,bk,Ae6 l b p rs)=_
   unfold Alf Ae6
   rw[dj,FL q1,i64_in (by omega)]
   rfl
  obtain⟨i1,p',i',l',i2,i3,i4⟩:=Bk0 l b n k0 s0 pa u0 u1 bk hw m _ (i+1) (rs++[(QR l (b.drop p.toNat)).1]) (by omega) q1 (by omega) (by rw[List.length_append];simp only[List.length_cons,List.length_nil];omega) hn
  refine⟨⟨cu,fun _=>by rw[hnx];exact i1⟩,p',i',l',?_,i3,?_⟩
  ·show(bif BJ (J3 (l,b,p,n,i,k0,s0,pa,u0,u1,bk,rs)) then Bh LG J3 m (LG (l,b,p,n,i,k0,s0,pa,u0,u1,bk,rs)) else _)=_
   rw[bz,hnx,i2]
   rfl
  ·rw[A3b (Gt (get:=QR l) hc),show(b.drop p.toNat).drop (QR l (b.drop p.toNat)).2.1.toNat=b.drop (p+Qb (b.drop p.toNat) l).toNat from q2.symm]
   rcases i4 with⟨j1,j2⟩|⟨t,j1,j2,j3⟩
   ·exact .inl ⟨by rw[j1],j2⟩
   ·exact .inr ⟨_::t,by rw[j1],by rw[j2,List.append_assoc];rfl,j3⟩
theorem emp {x:Ae} {q:Int} (h:Ol x q):(q==(x.length:Int))=(x.drop q.toNat).isEmpty:=by
 obtain⟨h1,h2,_⟩:=h
 by_cases e:q=(x.length:Int)
 ·rw[List.drop_eq_nil_of_le (by omega)]
  simpa using e
 ·have:x.drop q.toNat≠[]:=fun h=>by
   have:=congrArg List.length h
   rw[List.length_drop] at this
   simp only[List.length_nil] at this
   omega
  cases hd:x.drop q.toNat with
  |nil=>exact absurd hd this
  |cons y r=>simpa using e
def Bkt (l:List Ab) (b:Ae):Prop:=match psM l b with
 |some (m,r)=>Bd l b=r.isEmpty∧(⟨Is l b,It l b,⟨Iu l b,Iv l b,⟨Iw l b,Ix l b⟩,⟨Iy l b,Iz l b⟩,IA l b⟩,IB l b,G1 l b,G2 l b,G3 b,G7 l b,⟨G4 l b,G5 l b⟩,G6 l b⟩:Bk)=m
 |none=>Bd l b=false
theorem Aoo (l:List Ab) (b:Ae) (hb:Af b.length) (hw:∀g∈l,AJ g.name.size):(∀p∈YV l b,p)∧Bkt l b:=by
 have h0:Ol b 0:=⟨Int.le_refl _,by omega,hb⟩
 have gN:∀b,0≤(Ad b).2.1∧(Ad b).2.1≤(b.length:Int):=fun b=>⟨(AZ b).1,(AZ b).2.1⟩
 obtain⟨a1,d1⟩:=adv gN h0
 rw[show(0:Int)+(Ad (b.drop (0:Int).toNat)).2.1=(Ad b).2.1 from Int.zero_add _] at a1 d1
 obtain⟨a2,d2⟩:=adv gN a1
 have yy:(J2 b)=(Ad b).2.1+(Ad (b.drop (Ad b).2.1.toNat)).2.1:=by unfold J2 Md;rw[A5];exact FL a2
 rw[←yy] at a2 d2
 have vg:(Aq b)=b.drop (J2 b).toNat:=by unfold Aq;rw[A5]
 have hR:Af (Aq b).length:=by rw[vg];exact QE _ hb
 have vv:(AT b)=((Ad b).2.2 !=0):=rfl
 have zb:(Cr b)=(Ad (b.drop (Ad b).2.1.toNat)).1:=by unfold Cr Md;rw[A5]
 have vu:(AS b)=((Ad (b.drop (Ad b).2.1.toNat)).2.2 !=0):=by unfold AS Md;rw[A5]
 have r0:Ol (Aq b) 0:=⟨Int.le_refl _,by omega,hR⟩
 obtain⟨b1,f1⟩:=adv gN r0
 rw[show(0:Int)+(Ad ((Aq b).drop (0:Int).toNat)).2.1=(Ad (Aq b)).2.1 from Int.zero_add _] at b1 f1
 have k29:(GO b)=(Ad (Aq b)).2.1:=rfl
 obtain⟨b2,f2⟩:=adv gN b1
 -- the path
 have jl:Ol (Aq b) (F9 b):=by
  show Ol (Aq b) (gpF (Aq b)).2.1
  unfold gpF
  cases h:Aj5 (Aq b) with
  |none=>exact r0
  |some y=>
   obtain⟨p,r⟩:=y
   have:=congrArg List.length (Bkg.front _ _ _ h).2
   rw[List.length_append] at this
   exact⟨by show(0:Int)≤((Aq b).length:Int) - (r.length:Int);omega,by show((Aq b).length:Int) - (r.length:Int)≤_;omega,hR⟩
 have vf:(Aj b)=(Aq b).drop (F9 b).toNat:=by unfold Aj CE;rw[A5]
 have hQ:Af (Aj b).length:=by rw[vf];exact QE _ hR
 have q0:Ol (Aj b) 0:=⟨Int.le_refl _,by omega,hQ⟩
 obtain⟨v1,g1⟩:=adv GW q0
 rw[show(0:Int)+(AB ((Aj b).drop (0:Int).toNat)).2.1=(AB (Aj b)).2.1 from Int.zero_add _] at v1 g1
 have k22:(GN b)=(AB (Aj b)).2.1:=rfl
 obtain⟨v2,g2⟩:=adv gN v1
 have yx:(Ba b)=(AB (Aj b)).2.1+(Ad ((Aj b).drop (AB (Aj b)).2.1.toNat)).2.1:=by unfold Ba Lz GN CD;rw[A5];exact FL v2
 rw[←yx] at v2 g2
 obtain⟨v3,g3⟩:=adv gN v2
 have w3:=FL v3
 have za:(GM b)=((Ad ((Aj b).drop (AB (Aj b)).2.1.toNat)).1==1):=by unfold GM Lz GN CD;rw[A5]
 have tg:(CB b)=((Ad ((Aj b).drop (AB (Aj b)).2.1.toNat)).2.2 !=0||decide ((Ad ((Aj b).drop (AB (Aj b)).2.1.toNat)).1 >1)):=by unfold CB Lz GN CD;rw[A5]
 have s1:(DC b)=((Ad ((Aj b).drop (Ba b).toNat)).2.2 !=0||decide ((Ad ((Aj b).drop (Ba b).toNat)).1 >256)):=by unfold DC Bf CD;rw[A5]
 have uv:=(AZ ((Aj b).drop (Ba b).toNat)).2.2.1
 have kx:=fun(h:(Ad ((Aj b).drop (Ba b).toNat)).1≤256)=>Bk0 l (Aj b) (Ad ((Aj b).drop (Ba b).toNat)).1 (Ad b).1 (Cr b) (EE b) (AB (Aj b)).1.1 (AB (Aj b)).1.2 (GM b) hw ((Ad ((Aj b).drop (Ba b).toNat)).1 - 0).toNat _ 0 [] rfl v3 (Int.le_refl _) (by simp only[List.length_nil];omega) h
 have fh:∀p∈YV l b,p:=by
  refine Aa (fun _=>Es a1) (Aa (fun _ _=>Es a2) (Aa (fun _ _ _=>⟨hR,hw⟩) (Aa (fun _ _ _ _ _=>Es b1) (Aa (fun _ _ _ _=>hR) (Aa (fun _ _ _ _ _ _=>Es jl) (Aa (fun _ _ _ _ _ _ _=>Es v1) (Aa (fun _ _ _ _ _ _ _ _=>Es v2) (Aa (fun _ _ _ _ _ _ _ _ h=>?_) (Aa (fun _ _ _ _ _ _=>Es jl) (Aa (fun _ _ _ _ _ _=>hQ) Ag))))))))))
  rw[s1,Bool.not_or,Bool.and_eq_true] at h
  have h8:=of_decide_eq_false (by simpa using h.2:decide ((Ad ((Aj b).drop (Ba b).toNat)).1 >256)=false)
  simp only[A5,w3,Bf,CD]
  exact(kx (by omega)).1
 refine⟨fh,?_⟩
 unfold Bkt psM
 by_cases c1:(Ad b).2.2=0
 case neg=>
  have dn:(AT b)=true:=by rw[vv];simpa using c1
  rw[E2 (JX c1)]
  simp only[Bd,dn,cond_true,A6,Bf,Br]
 have dn:(AT b)=false:=by rw[vv];simpa using c1
 rw[Ps.bind_at (Gt c1)]
 by_cases c2:(Ad (b.drop (Ad b).2.1.toNat)).2.2=0
 case neg=>
  have dv:(AS b)=true:=by rw[vu];simpa using c2
  rw[E2 (JX c2)]
  simp only[Bd,dn,dv,cond_true,cond_false,A6,Bf,Br]
 have dv:(AS b)=false:=by rw[vu];simpa using c2
 rw[Ps.bind_at (Gt c2),←d2,←vg,←zb]
 by_cases h1:(Ad b).1=1
 ·have dy:(AV b)=true:=by unfold AV;rw[h1];rfl
  rw[if_pos h1]
  cases hc:OI l (Aq b) with
  | none=>
   rw[E2 hc]
   have he:(Cs l (Aq b)).2.2≠0:=fun h=>by
    obtain⟨c,r,h2⟩:=A24.1 h
    rw[hc] at h2
    cases h2
   have he:((Cs l (Aq b)).2.2==0)=false:=by simpa using he
   simp only[Bd,dn,dv,dy,cond_true,cond_false,he,Bool.false_and,A6,Bf,Br]
  | some y=>
   obtain⟨c,r⟩:=y
   rw[Ps.bind_at hc]
   have hg:Cs l (Aq b)=(c,((Aq b).length:Int) - (r.length:Int),0):=by unfold Cs;rw[hc]
   have hl:=congrArg List.length ((A9u l).front _ _ _ hc).2
   rw[List.length_append] at hl
   refine⟨?_,?_⟩
   ·simp only[Bd,dn,dv,dy,cond_true,cond_false,hg,A6,Bf,Br]
    show(true&&(((Aq b).length:Int) - (r.length:Int)==((Aq b).length:Int)))=r.isEmpty
    cases r with
    |nil=>simp
    |cons y r=>
     simp only[List.length_cons,List.isEmpty_cons,Bool.true_and,beq_eq_false_iff_ne]
     omega
   ·simp only[Is,It,Iu,Iv,Iw,Ix,Iy,Iz,IA,IB,G1,G2,G3,G4,G5,G6,G7,G8,Ly,Ig,dn,dv,dy,cond_true,cond_false,hg,h1,Br]
 have dy:(AV b)=false:=by unfold AV;simpa using h1
 rw[if_neg h1]
 by_cases h2:(Ad b).1=2
 ·have ez:(Bg b)=true:=by unfold Bg;rw[h2];rfl
  rw[if_pos h2]
  by_cases c3:(Ad (Aq b)).2.2=0
  case neg=>
   have ew:(ED b)=true:=by unfold ED;simpa using c3
   rw[E2 (JX c3)]
   simp only[Bd,dn,dv,dy,ez,ew,cond_true,cond_false,A6,Bf,Br]
  have ew:(ED b)=false:=by unfold ED;simpa using c3
  rw[Ps.bind_at (Gt c3)]
  by_cases c4:(Ad ((Aq b).drop (Ad (Aq b)).2.1.toNat)).2.2=0
  case neg=>
   have e4:((Ad ((Aq b).drop (Ad (Aq b)).2.1.toNat)).2.2==0)=false:=by simpa using c4
   rw[E2 (JX c4)]
   simp only[Bd,CE,GO,dn,dv,dy,ez,ew,cond_true,cond_false,A5,e4,Bool.false_and,A6,Bf,Br]
  rw[Ps.bind_at (Gt c4)]
  refine⟨?_,?_⟩
  ·simp only[Bd,CE,GO,dn,dv,dy,ez,ew,cond_true,cond_false,A5,c4,FL b2,A6,Bf,Br]
   rw[emp b2,f2]
   rfl
  ·simp only[Is,It,Iu,Iv,Iw,Ix,Iy,Iz,IA,IB,G1,G2,G3,G4,G5,G6,G7,G8,Ly,Ig,CE,GO,Ig,dn,dv,dy,ez,ew,cond_true,cond_false,A5,h2,Br]
   rfl
 have ez:(Bg b)=false:=by unfold Bg;simpa using h2
 rw[if_neg h2]
 cases hp:Aj5 (Aq b) with
 |none=>
  have hg:gpF (Aq b)=([],0,false):=by unfold gpF;rw[hp]
  have dm:(By b)=true:=by unfold By;rw[hg];rfl
  rw[E2 hp]
  simp only[Bd,dn,dv,dy,ez,dm,cond_true,cond_false,A6,Bf,Br]
 | some y=>
  obtain⟨p,r⟩:=y
  have hg:gpF (Aq b)=(p,((Aq b).length:Int) - (r.length:Int),true):=by unfold gpF;rw[hp]
  have dm:(By b)=false:=by unfold By;rw[hg];rfl
  have ua:(EE b)=p:=by unfold EE;rw[hg]
  have hr:(Aj b)=r:=by
   rw[vf,show(F9 b)=((Aq b).length:Int) - (r.length:Int) by unfold F9;rw[hg]]
   obtain⟨_,hx⟩:=Bkg.front _ _ _ hp
   have hl:=congrArg List.length hx
   rw[List.length_append] at hl
   rw[show(((Aq b).length:Int) - (r.length:Int)).toNat=(Bkk p).length by omega]
   conv=>lhs;rw[hx]
   exact List.drop_left
  rw[Ps.bind_at hp]
  show match(if(Ad b).1=5 then Bsp l (Ad b).1 (Cr b) p else Ps.bind A30 fun d=>Ps.pure ⟨(Ad b).1,(Cr b),IG.change,0,0,p,d,[],⟨0,0⟩,false⟩) r with
   |some (m,r)=>Bd l b=r.isEmpty∧(⟨Is l b,It l b,⟨Iu l b,Iv l b,⟨Iw l b,Ix l b⟩,⟨Iy l b,Iz l b⟩,IA l b⟩,IB l b,G1 l b,G2 l b,G3 b,G7 l b,⟨G4 l b,G5 l b⟩,G6 l b⟩:Bk)=m
   |none=>Bd l b=false
  rw[←hr]
  by_cases h5:(Ad b).1=5
  ·have iu:(Bz b)=true:=by unfold Bz;rw[h5];rfl
   rw[if_pos h5]
   unfold Bsp
   by_cases c3:(AB (Aj b)).2.2=0
   case neg=>
    have eu:(CC b)=true:=by unfold CC;simpa using c3
    rw[E2 (JX c3)]
    simp only[Bd,dn,dv,dy,ez,dm,iu,eu,cond_true,cond_false,A6,Bf,Br]
   have eu:(CC b)=false:=by unfold CC;simpa using c3
   rw[Ps.bind_at (Gt c3)]
   by_cases c4:(Ad ((Aj b).drop (AB (Aj b)).2.1.toNat)).2.2=0
   case neg=>
    have js:(CB b)=true:=by rw[tg];simp[c4]
    rw[E2 (JX c4)]
    simp only[Bd,dn,dv,dy,ez,dm,iu,eu,js,cond_true,cond_false,A6,Bf,Br]
   rw[Ps.bind_at (Gt c4),←g2]
   by_cases c5:1 <(Ad ((Aj b).drop (AB (Aj b)).2.1.toNat)).1
   ·have js:(CB b)=true:=by rw[tg,decide_eq_true (by omega),Bool.or_true]
    rw[if_pos c5]
    show Bd l b=false
    simp only[Bd,dn,dv,dy,ez,dm,iu,eu,js,cond_true,cond_false,A6,Bf,Br]
   have js:(CB b)=false:=by rw[tg,c4,decide_eq_false (by omega)];rfl
   rw[if_neg c5]
   by_cases c6:(Ad ((Aj b).drop (Ba b).toNat)).2.2=0
   case neg=>
    have jw:(DC b)=true:=by rw[s1];simp[c6]
    rw[E2 (JX c6)]
    simp only[Bd,dn,dv,dy,ez,dm,iu,eu,js,jw,cond_true,cond_false,A6,Bf,Br]
   rw[Ps.bind_at (Gt c6),←g3]
   by_cases c7:256 <(Ad ((Aj b).drop (Ba b).toNat)).1
   ·have jw:(DC b)=true:=by rw[s1,decide_eq_true (by omega),Bool.or_true]
    rw[if_pos c7]
    show Bd l b=false
    simp only[Bd,dn,dv,dy,ez,dm,iu,eu,js,jw,cond_true,cond_false,A6,Bf,Br]
   have jw:(DC b)=false:=by rw[s1,c6,decide_eq_false (by omega)];rfl
   rw[if_neg c7]
   obtain⟨_,p',i',qm,t1,t2,t3⟩:=kx (by omega)
   rw[show((Ad ((Aj b).drop (Ba b).toNat)).1 - 0).toNat=(Ad ((Aj b).drop (Ba b).toNat)).1.toNat by rw[Int.sub_zero]] at t3
   have af:A1c (l,(Aj b),IntKind.i64.wrap ((Ba b)+(Ad (List.take ((CD b).toNat - (Ba b).toNat) (List.drop (Ba b).toNat (Aj b)))).2.1),(Ad (List.take ((CD b).toNat - (Ba b).toNat) (List.drop (Ba b).toNat (Aj b)))).1,(0:Int),(Ad b).1,(Cr b),(EE b),(AB (Aj b)).1.1,(AB (Aj b)).1.2,(GM b),[])=(l,(Aj b),p',(Ad ((Aj b).drop (Ba b).toNat)).1,i',(Ad b).1,(Cr b),(EE b),(AB (Aj b)).1.1,(AB (Aj b)).1.2,(GM b),qm):=by
    unfold CD
    simp only[A5,w3]
    exact t1
   have fe:(Gk l b)=Hx l (Aj b) p' (Ad ((Aj b).drop (Ba b).toNat)).1 i':=by
    unfold Gk
    rw[show A6 l b=_ from af]
    rfl
   rcases t3 with⟨j1,j2⟩|⟨t,j1,j2,j3⟩
   ·rw[j2] at fe
    rw[E2 j1]
    simp only[Bd,dn,dv,dy,ez,dm,iu,eu,js,jw,fe,cond_true,cond_false,A6,Bf,Br]
   ·rw[j3] at fe
    rw[Ps.bind_at j1]
    refine⟨?_,?_⟩
    ·simp only[Bd,dn,dv,dy,ez,dm,iu,eu,js,jw,fe,cond_true,cond_false,af,A6,Bf,Br]
     exact emp t2
    ·simp only[Is,It,Iu,Iv,Iw,Ix,Iy,Iz,IA,IB,G1,G2,G3,G4,G5,G6,G7,G8,Ly,Ig,S7,S8,S9,Ta,Tb,Tc,Qg,dn,dv,dy,ez,dm,iu,eu,js,jw,fe,cond_true,cond_false,af,Br,A6,Bf]
     rw[ua,za,j2]
     rfl
  ·have iu:(Bz b)=false:=by unfold Bz;simpa using h5
   rw[if_neg h5]
   by_cases c3:(Aj b).length % 32=0
   ·have h20:(Mc b)=true:=by unfold Mc;exact decide_eq_true c3
    rw[Ps.bind_at (show A30 (Aj b)=some (dgs (Aj b),[]) by unfold A30;rw[if_pos c3])]
    refine⟨?_,?_⟩
    ·simp only[Bd,dn,dv,dy,ez,dm,iu,h20,cond_false,A6,Bf,Br]
     rfl
    ·simp only[Is,It,Iu,Iv,Iw,Ix,Iy,Iz,IA,IB,G1,G2,G3,G4,G5,G6,G7,G8,Ly,Ig,dn,dv,dy,ez,dm,iu,h20,ua,cond_true,cond_false,Br]
     rfl
   ·have h20:(Mc b)=false:=by unfold Mc;exact decide_eq_false c3
    rw[E2 (show A30 (Aj b)=none by unfold A30;rw[if_neg c3])]
    simp only[Bd,dn,dv,dy,ez,dm,iu,h20,cond_false,A6,Bf,Br]
def Bhy:List Int→Bool
 | []=>true
 |x::l=>decide (x=0)&&Bhy l
theorem Blh {m:Int} (h:0≤m) (b:Ae) (bad:Bool):(Cm m b bad).1≤m:=by
 show(bif decide (m <(Ad b).1) then(0:Int) else(Ad b).1)≤m
 cases hd:decide (m <(Ad b).1) with
 |true=>exact h
 |false=>
  have:=of_decide_eq_false hd
  show(Ad b).1≤m
  omega
theorem Aly (m:Int) {b:Ae} (bad:Bool) (h:Af b.length):Af (Cm m b bad).2.1.length:=QE _ h
theorem B53 (b:Ae) (l:List Ab) (bad:Bool) (k0 s0:Int) (p:List Int) (hb:Af b.length):(∀q∈Brw b l bad k0 s0 p,q)∧Ai 5 (Brv b l bad k0 s0 p)=some (.arr 62 2 (.ty .row (wLf l 0 0 [] b bad).1.rows))∧Ai 1 (Brv b l bad k0 s0 p)=some (.box 81 [.sl .u8 (wLf l 0 0 [] b bad).2.1,.sl .group l,.v (.bool (wLf l 0 0 [] b bad).2.2)])∧Ai 2 (Brv b l bad k0 s0 p)=some (.box 34 [iV k0,iV s0,iV 0,iV 0,iV 0,iV 0,iV 0,iV 0,.v (.slice none 0 0),iV 0,iV 0,.sl .i64 p,.v (.slice none 0 0),.sq 5,iV ((wLf l 0 0 [] b bad).1.know.a),iV ((wLf l 0 0 [] b bad).1.know.b),.v (.bool (wLf l 0 0 [] b bad).1.back)]):=by
 have gv:=GW b
 have hb1:=QE (AB b).2.1.toNat hb
 have az:=Aly 256 (Cm 1 (b.drop (AB b).2.1.toNat) (bad||(AB b).2.2 !=0)).2.2 (Aly 1 (bad||(AB b).2.2 !=0) hb1)
 have hn:=Blh (m:=256) (by decide) (Cm 1 (b.drop (AB b).2.1.toNat) (bad||(AB b).2.2 !=0)).2.1 (Cm 1 (b.drop (AB b).2.1.toNat) (bad||(AB b).2.2 !=0)).2.2
 obtain⟨q1,i',q2⟩:=Bjn _ l k0 s0 p (AB b).1.a (AB b).1.b ((Cm 1 (b.drop (AB b).2.1.toNat) (bad||(AB b).2.2 !=0)).1==1) _ 0 (Cm 256 (Cm 1 (b.drop (AB b).2.1.toNat) (bad||(AB b).2.2 !=0)).2.1 (Cm 1 (b.drop (AB b).2.1.toNat) (bad||(AB b).2.2 !=0)).2.2).2.1 (Cm 256 (Cm 1 (b.drop (AB b).2.1.toNat) (bad||(AB b).2.2 !=0)).2.1 (Cm 1 (b.drop (AB b).2.1.toNat) (bad||(AB b).2.2 !=0)).2.2).2.2 [] rfl (Int.le_refl _) hn (by simp only[List.length_nil];omega) az
 have hk:A0h ((Cm (256:Int) (Cm (1:Int) (List.take ((b.length:Int).toNat - (AB b).2.1.toNat) (List.drop (AB b).2.1.toNat b)) (bad||(AB b).2.2 !=(0:Int))).2.1 (Cm (1:Int) (List.take ((b.length:Int).toNat - (AB b).2.1.toNat) (List.drop (AB b).2.1.toNat b)) (bad||(AB b).2.2 !=(0:Int))).2.2).1,(0:Int),(Cm (256:Int) (Cm (1:Int) (List.take ((b.length:Int).toNat - (AB b).2.1.toNat) (List.drop (AB b).2.1.toNat b)) (bad||(AB b).2.2 !=(0:Int))).2.1 (Cm (1:Int) (List.take ((b.length:Int).toNat - (AB b).2.1.toNat) (List.drop (AB b).2.1.toNat b)) (bad||(AB b).2.2 !=(0:Int))).2.2).2.1,l,(Cm (256:Int) (Cm (1:Int) (List.take ((b.length:Int).toNat - (AB b).2.1.toNat) (List.drop (AB b).2.1.toNat b)) (bad||(AB b).2.2 !=(0:Int))).2.1 (Cm (1:Int) (List.take ((b.length:Int).toNat - (AB b).2.1.toNat) (List.drop (AB b).2.1.toNat b)) (bad||(AB b).2.2 !=(0:Int))).2.2).2.2,k0,s0,p,(AB b).1.1,(AB b).1.2,(Cm (1:Int) (List.take ((b.length:Int).toNat - (AB b).2.1.toNat) (List.drop (AB b).2.1.toNat b)) (bad||(AB b).2.2 !=(0:Int))).1==(1:Int),[])=((Cm 256 (Cm 1 (b.drop (AB b).2.1.toNat) (bad||(AB b).2.2 !=0)).2.1 (Cm 1 (b.drop (AB b).2.1.toNat) (bad||(AB b).2.2 !=0)).2.2).1,i',(Ab2 (wG (QR l)) ((Cm 256 (Cm 1 (b.drop (AB b).2.1.toNat) (bad||(AB b).2.2 !=0)).2.1 (Cm 1 (b.drop (AB b).2.1.toNat) (bad||(AB b).2.2 !=0)).2.2).1 - 0).toNat [] (Cm 256 (Cm 1 (b.drop (AB b).2.1.toNat) (bad||(AB b).2.2 !=0)).2.1 (Cm 1 (b.drop (AB b).2.1.toNat) (bad||(AB b).2.2 !=0)).2.2).2.1 (Cm 256 (Cm 1 (b.drop (AB b).2.1.toNat) (bad||(AB b).2.2 !=0)).2.1 (Cm 1 (b.drop (AB b).2.1.toNat) (bad||(AB b).2.2 !=0)).2.2).2.2).2.1,l,(Ab2 (wG (QR l)) ((Cm 256 (Cm 1 (b.drop (AB b).2.1.toNat) (bad||(AB b).2.2 !=0)).2.1 (Cm 1 (b.drop (AB b).2.1.toNat) (bad||(AB b).2.2 !=0)).2.2).1 - 0).toNat [] (Cm 256 (Cm 1 (b.drop (AB b).2.1.toNat) (bad||(AB b).2.2 !=0)).2.1 (Cm 1 (b.drop (AB b).2.1.toNat) (bad||(AB b).2.2 !=0)).2.2).2.1 (Cm 256 (Cm 1 (b.drop (AB b).2.1.toNat) (bad||(AB b).2.2 !=0)).2.1 (Cm 1 (b.drop (AB b).2.1.toNat) (bad||(AB b).2.2 !=0)).2.2).2.2).2.2,k0,s0,p,(AB b).1.a,(AB b).1.b,(Cm 1 (b.drop (AB b).2.1.toNat) (bad||(AB b).2.2 !=0)).1==1,(Ab2 (wG (QR l)) ((Cm 256 (Cm 1 (b.drop (AB b).2.1.toNat) (bad||(AB b).2.2 !=0)).2.1 (Cm 1 (b.drop (AB b).2.1.toNat) (bad||(AB b).2.2 !=0)).2.2).1 - 0).toNat [] (Cm 256 (Cm 1 (b.drop (AB b).2.1.toNat) (bad||(AB b).2.2 !=0)).2.1 (Cm 1 (b.drop (AB b).2.1.toNat) (bad||(AB b).2.2 !=0)).2.2).2.1 (Cm 256 (Cm 1 (b.drop (AB b).2.1.toNat) (bad||(AB b).2.2 !=0)).2.1 (Cm 1 (b.drop (AB b).2.1.toNat) (bad||(AB b).2.2 !=0)).2.2).2.2).1):=by
  rw[A5]
  exact q2
 have ps:∀q∈Brw b l bad k0 s0 p,q:=by
  refine Aa ⟨gv.1,gv.2,Int.le_refl _⟩ (Aa ?_ Ag)
  unfold Bze Wi Amj
  rw[A5]
  exact q1
 rw[Int.sub_zero] at hk
 refine⟨ps,?_,?_,?_⟩
 ·show some (Ob.arr 62 2 (.ty .row (B13 b l bad k0 s0 p)))=_
  simp only[hk,Bool.cond_self,B13,SM,A82,A0f,Amj,QV,Wi]
  rfl
 ·show some (Ob.box 81 [.sl .u8 (B14 b l bad k0 s0 p),.sl .group (B15 b l bad k0 s0 p),.v (.bool (B16 b l bad k0 s0 p))])=_
  simp only[hk,Bool.cond_self,B14,B15,B16,SM,As9,As8,A0f,Amj,QV,Wi]
  rfl
 ·show some (Ob.box 34 [iV (B17 b l bad k0 s0 p),iV (B18 b l bad k0 s0 p),iV (Pp b l bad k0 s0 p),iV (Pp b l bad k0 s0 p),iV (Pp b l bad k0 s0 p),iV (Pp b l bad k0 s0 p),iV (Pp b l bad k0 s0 p),iV (Pp b l bad k0 s0 p),.v (.slice none 0 0),iV (Pp b l bad k0 s0 p),iV (Pp b l bad k0 s0 p),.sl .i64 (Brr b l bad k0 s0 p),.v (.slice none 0 0),.sq 5,iV (Brs b l bad k0 s0 p),iV (Brt b l bad k0 s0 p),.v (.bool (Bru b l bad k0 s0 p))])=_
  simp only[hk,Bool.cond_self,B17,B18,Brr,Brs,Brt,Bru,Pp,SM,A88,A87,A86,A85,A84,A83,A0f,Amj,QV,Wi]
  rfl
def Bzd:KD
 | [.own 1 0,.own 2 0],5,o=>match Ai 1 o,Ai 2 o,Ai 4 o with
  |some (.box t1 [.sl .u8 b,.sl .group l,.v (.bool bad)]),some (.box t2 [.v (.int .i64 k0),.v (.int .i64 s0),.v (.int .i64 c0),.v (.int .i64 c1),.v (.int .i64 c2),.v (.int .i64 c3),.v (.int .i64 c4),.v (.int .i64 c5),.v (.slice none 0 0),.v (.int .i64 q0),.v (.int .i64 o0),.sq 4,.v (.slice none 0 0),.v (.slice none 0 0),.v (.int .i64 u0),.v (.int .i64 u1),.v (.bool bk)]),some (.arr t3 1 (.ty .i64 p))=>bif(Nat.beq t1 81&&(Nat.beq t2 34&&Nat.beq t3 3))&&(Bhy [c0,c1,c2,c3,c4,c5,q0,o0,u0,u1]&&!bk) then some (2,.v (.tuple ⟨[]⟩),6,(5,some (.arr 62 2 (.ty .row (wLf l 0 0 [] b bad).1.rows)))::(1,some (.box 81 [.sl .u8 (wLf l 0 0 [] b bad).2.1,.sl .group l,.v (.bool (wLf l 0 0 [] b bad).2.2)]))::(2,some (.box 34 [.v (.int .i64 k0),.v (.int .i64 s0),.v (.int .i64 0),.v (.int .i64 0),.v (.int .i64 0),.v (.int .i64 0),.v (.int .i64 0),.v (.int .i64 0),.v (.slice none 0 0),.v (.int .i64 0),.v (.int .i64 0),.sl .i64 p,.v (.slice none 0 0),.sq 5,.v (.int .i64 (wLf l 0 0 [] b bad).1.know.a),.v (.int .i64 (wLf l 0 0 [] b bad).1.know.b),.v (.bool (wLf l 0 0 [] b bad).1.back)]))::(4,none)::o,[Af b.length]) else none
  |_,_,_=>none
 |_,_,_=>none
theorem Bmr:Gw AP 42 Bzd:=fun args nx o k x nx' o' ps h=>by
 unfold Bzd at h
 split at h<;>try(cases h;done)
 ·split at h<;>try(cases h;done)
  rename_i t1 b l bad t2 k0 s0 c0 c1 c2 c3 c4 c5 q0 o0 u0 u1 bk t3 p e1 e2 e4
  cases hb:(Nat.beq t1 81&&(Nat.beq t2 34&&Nat.beq t3 3))&&(Bhy [c0,c1,c2,c3,c4,c5,q0,o0,u0,u1]&&!bk) with
  |false=>rw[hb] at h;cases h
  | true=>
   rw[hb] at h
   simp only[Bhy,Bool.and_eq_true,decide_eq_true_eq,Bool.not_eq_true'] at hb
   obtain⟨⟨r1,r2,r3⟩,⟨rfl,rfl,rfl,rfl,rfl,rfl,rfl,rfl,rfl,rfl,_⟩,rfl⟩:=hb
   obtain rfl:=Nat.eq_of_beq_eq_true r1
   obtain rfl:=Nat.eq_of_beq_eq_true r2
   obtain rfl:=Nat.eq_of_beq_eq_true r3
   cases h
   refine⟨fun hp=>?_,[_,_,_,_],rfl⟩
   obtain⟨h1,L5,L1,L2⟩:=B53 b l bad k0 s0 p (hp _ (List.mem_cons_self ..))
   refine Ar3 (d:=(5,some (.arr 62 2 (.ty .row (wLf l 0 0 [] b bad).1.rows)))::(1,some (.box 81 [.sl .u8 (wLf l 0 0 [] b bad).2.1,.sl .group l,.v (.bool (wLf l 0 0 [] b bad).2.2)]))::(2,some (.box 34 [.v (.int .i64 k0),.v (.int .i64 s0),.v (.int .i64 0),.v (.int .i64 0),.v (.int .i64 0),.v (.int .i64 0),.v (.int .i64 0),.v (.int .i64 0),.v (.slice none 0 0),.v (.int .i64 0),.v (.int .i64 0),.sl .i64 p,.v (.slice none 0 0),.sq 5,.v (.int .i64 (wLf l 0 0 [] b bad).1.know.a),.v (.int .i64 (wLf l 0 0 [] b bad).1.know.b),.v (.bool (wLf l 0 0 [] b bad).1.back)]))::(4,none)::[]) (B7o b l bad k0 s0 p h1) ?_ ?_
   ·intro i ob hi
    rcases BK hi with⟨e0,e⟩|⟨n5,hi⟩
    ·rw[e0,←e];exact L5
    rcases BK hi with⟨e0,e⟩|⟨n1,hi⟩
    ·rw[e0,←e];exact L1
    rcases BK hi with⟨e0,e⟩|⟨n2,hi⟩
    ·rw[e0,←e];exact L2
    rcases BK hi with⟨_,e⟩|⟨n4,hi⟩
    ·cases e
    rcases BK hi with⟨e0,e⟩|⟨_,hi⟩
    ·exact absurd e0 n1
    rcases BK hi with⟨e0,e⟩|⟨_,hi⟩
    ·exact absurd e0 n2
    rcases BK hi with⟨e0,e⟩|⟨_,hi⟩
    ·exact absurd e0 n4
    cases hi
   ·intro i ob hi
    rcases BK hi with⟨e0,e⟩|⟨_,hi⟩
    ·rw[e0,←e];exact e1
    rcases BK hi with⟨e0,e⟩|⟨_,hi⟩
    ·rw[e0,←e];exact e2
    rcases BK hi with⟨e0,e⟩|⟨_,hi⟩
    ·rw[e0,←e];exact e4
    cases hi
def Bzz:=DM Bmr Cdh
theorem B5e (b:Ae) (l:List Ab) (bad:Bool) (k0 s0:Int) (p:List Int) (hb:Af b.length):(∀q∈Bqd b l bad k0 s0 p,q)∧Ai 7 (Bdw b l bad k0 s0 p)=some (.arr 58 32 (.ty .digest (dgs b)))∧Ai 6 (Bdw b l bad k0 s0 p)=some (.lp 13 3 [11] [.own 2 0] 0)∧Ai 2 (Bdw b l bad k0 s0 p)=some (.box 34 [iV k0,iV s0,iV 0,iV 0,iV 0,iV 0,iV 0,iV 0,.v (.slice none 0 0),iV 0,iV 0,.sl .i64 p,.sq 7,.v (.slice none 0 0),iV 0,iV 0,.v (.bool false)])∧Ai 1 (Bdw b l bad k0 s0 p)=some (.box 81 [.sl .u8 (b.drop (32*(b.length / 32))),.sl .group l,.v (.bool bad)])∧Ai 5 (Bdw b l bad k0 s0 p)=some (.box 79 [.own 1 0]):=by
 have aq:=hb
 unfold Af at aq
 obtain⟨q1,q2⟩:=Biu l bad k0 s0 0 0 0 0 0 0 0 0 p 0 0 false _ b [] rfl hb (by simp only[List.length_nil];omega)
 have hk:Azy (k0,s0,(0:Int),(0:Int),(0:Int),(0:Int),(0:Int),(0:Int),(0:Int),(0:Int),p,(0:Int),(0:Int),false,b,l,bad,[])=_:=q2
 have ps:∀q∈Bqd b l bad k0 s0 p,q:=Aa q1 Ag
 have ae:(b.drop (32*(b.length / 32))).length <32:=by rw[List.length_drop];omega
 have lv:Ap (b.drop (32*(b.length / 32)))=false:=by
  unfold Ap
  rw[decide_eq_false_iff_not]
  omega
 refine⟨ps,?_,rfl,?_,?_,rfl⟩
 ·show some (Ob.arr 58 32 (.ty .digest (B08 b l bad k0 s0 p)))=_
  unfold B08 A2s A2r A2q A2p A2o A2n A2m A2l Bir Biq Bip Bio Bin Bim NE A71 Azw Bqb ME
  simp only[hk]
  unfold Adf Vd
  simp only[lv,cond_false,List.nil_append]
 ·show some (Ob.box 34 [iV (B09 b l bad k0 s0 p),iV (B1a b l bad k0 s0 p),iV (B1b b l bad k0 s0 p),iV (B1c b l bad k0 s0 p),iV (B1d b l bad k0 s0 p),iV (B1e b l bad k0 s0 p),iV (B1f b l bad k0 s0 p),iV (B1g b l bad k0 s0 p),.v (.slice none 0 0),iV (B1h b l bad k0 s0 p),iV (Bp4 b l bad k0 s0 p),.sl .i64 (Bp5 b l bad k0 s0 p),.sq 7,.v (.slice none 0 0),iV (Bp6 b l bad k0 s0 p),iV (Bp7 b l bad k0 s0 p),.v (.bool (Bp8 b l bad k0 s0 p))])=_
  simp only[hk,Bool.cond_self,B09,B1a,B1b,B1c,B1d,B1e,B1f,B1g,B1h,Bp4,Bp5,Bp6,Bp7,Bp8,A2s,A2r,A2q,A2p,A2o,A2n,A2m,A2l,Bir,Biq,Bip,Bio,Bin,Bim,NE,ME,Ac0,Ac1,Ac2,Ac3,Ac4,Ac5,Ac6,Ac7,Ac8,Ac9,Ada,Adb,Adc,Ade,Ve,Vf,Vg,Vh,Vi,Vj,Vk,Vl,RY,RZ,R4,R5,R6,R7]
 ·show some (Ob.box 81 [.sl .u8 (Bp9 b l bad k0 s0 p),.sl .group (Bqa b l bad k0 s0 p),.v (.bool (Azw b l bad k0 s0 p))])=_
  unfold Bp9 Bqa Azw NE A71 ME
  simp only[hk]
def By5:KD
 | [.yl 6,.own 5 0],7,o=>match Ai 1 o,Ai 2 o,Ai 4 o,Ai 5 o,Ai 6 o with
  |some (.box t1 [.sl .u8 b,.sl .group l,.v (.bool bad)]),some (.box t2 [.v (.int .i64 k0),.v (.int .i64 s0),.v (.int .i64 c0),.v (.int .i64 c1),.v (.int .i64 c2),.v (.int .i64 c3),.v (.int .i64 c4),.v (.int .i64 c5),.v (.slice none 0 0),.v (.int .i64 q0),.v (.int .i64 o0),.sq 4,.v (.slice none 0 0),.v (.slice none 0 0),.v (.int .i64 u0),.v (.int .i64 u1),.v (.bool bk)]),some (.arr t3 1 (.ty .i64 p)),some (.box t4 [.own 1 0]),some (.lp f b3 [11] [.own 2 0] 0)=>bif((Nat.beq t1 81&&(Nat.beq t2 34&&Nat.beq t3 3))&&(Nat.beq t4 79&&(Nat.beq f 13&&Nat.beq b3 3)))&&(Bhy [c0,c1,c2,c3,c4,c5,q0,o0,u0,u1]&&!bk) then some (2,.v (.tuple ⟨[]⟩),8,(7,some (.arr 58 32 (.ty .digest (dgs b))))::(6,some (.lp 13 3 [11] [.own 2 0] 0))::(2,some (.box 34 [.v (.int .i64 k0),.v (.int .i64 s0),.v (.int .i64 0),.v (.int .i64 0),.v (.int .i64 0),.v (.int .i64 0),.v (.int .i64 0),.v (.int .i64 0),.v (.slice none 0 0),.v (.int .i64 0),.v (.int .i64 0),.sl .i64 p,.sq 7,.v (.slice none 0 0),.v (.int .i64 0),.v (.int .i64 0),.v (.bool false)]))::(1,some (.box 81 [.sl .u8 (b.drop (32*(b.length / 32))),.sl .group l,.v (.bool bad)]))::(4,none)::o,[Af b.length]) else none
  |_,_,_,_,_=>none
 |_,_,_=>none
theorem Bl8:Gw AP 85 By5:=fun args nx o k x nx' o' ps h=>by
 unfold By5 at h
 split at h<;>try(cases h;done)
 ·split at h<;>try(cases h;done)
  rename_i t1 b l bad t2 k0 s0 c0 c1 c2 c3 c4 c5 q0 o0 u0 u1 bk t3 p t4 f b3 e1 e2 e4 e5 e6
  cases hb:((Nat.beq t1 81&&(Nat.beq t2 34&&Nat.beq t3 3))&&(Nat.beq t4 79&&(Nat.beq f 13&&Nat.beq b3 3)))&&(Bhy [c0,c1,c2,c3,c4,c5,q0,o0,u0,u1]&&!bk) with
  |false=>rw[hb] at h;cases h
  | true=>
   rw[hb] at h
   simp only[Bhy,Bool.and_eq_true,decide_eq_true_eq,Bool.not_eq_true'] at hb
   obtain⟨⟨⟨r1,r2,r3⟩,r4,r5,r6⟩,⟨rfl,rfl,rfl,rfl,rfl,rfl,rfl,rfl,rfl,rfl,_⟩,rfl⟩:=hb
   obtain rfl:=Nat.eq_of_beq_eq_true r1
   obtain rfl:=Nat.eq_of_beq_eq_true r2
   obtain rfl:=Nat.eq_of_beq_eq_true r3
   obtain rfl:=Nat.eq_of_beq_eq_true r4
   obtain rfl:=Nat.eq_of_beq_eq_true r5
   obtain rfl:=Nat.eq_of_beq_eq_true r6
   cases h
   refine⟨fun hp=>?_,[_,_,_,_,_],rfl⟩
   obtain⟨h1,L7,L6,L2,L1,L5⟩:=B5e b l bad k0 s0 p (hp _ (List.mem_cons_self ..))
   refine Ar3 (d:=(7,some (.arr 58 32 (.ty .digest (dgs b))))::(6,some (.lp 13 3 [11] [.own 2 0] 0))::(2,some (.box 34 [.v (.int .i64 k0),.v (.int .i64 s0),.v (.int .i64 0),.v (.int .i64 0),.v (.int .i64 0),.v (.int .i64 0),.v (.int .i64 0),.v (.int .i64 0),.v (.slice none 0 0),.v (.int .i64 0),.v (.int .i64 0),.sl .i64 p,.sq 7,.v (.slice none 0 0),.v (.int .i64 0),.v (.int .i64 0),.v (.bool false)]))::(1,some (.box 81 [.sl .u8 (b.drop (32*(b.length / 32))),.sl .group l,.v (.bool bad)]))::(4,none)::[]) (B7i b l bad k0 s0 p h1) ?_ ?_
   ·intro i ob hi
    rcases BK hi with⟨e0,e⟩|⟨n7,hi⟩
    ·rw[e0,←e];exact L7
    rcases BK hi with⟨e0,e⟩|⟨n6,hi⟩
    ·rw[e0,←e];exact L6
    rcases BK hi with⟨e0,e⟩|⟨n2,hi⟩
    ·rw[e0,←e];exact L2
    rcases BK hi with⟨e0,e⟩|⟨n1,hi⟩
    ·rw[e0,←e];exact L1
    rcases BK hi with⟨_,e⟩|⟨n4,hi⟩
    ·cases e
    rcases BK hi with⟨e0,e⟩|⟨_,hi⟩
    ·exact absurd e0 n1
    rcases BK hi with⟨e0,e⟩|⟨_,hi⟩
    ·exact absurd e0 n2
    rcases BK hi with⟨e0,e⟩|⟨_,hi⟩
    ·exact absurd e0 n4
    rcases BK hi with⟨e0,e⟩|⟨_,hi⟩
    ·rw[e0,←e];exact L5
    rcases BK hi with⟨e0,e⟩|⟨_,hi⟩
    ·exact absurd e0 n6
    cases hi
   ·intro i ob hi
    rcases BK hi with⟨e0,e⟩|⟨_,hi⟩
    ·rw[e0,←e];exact e1
    rcases BK hi with⟨e0,e⟩|⟨_,hi⟩
    ·rw[e0,←e];exact e2
    rcases BK hi with⟨e0,e⟩|⟨_,hi⟩
    ·rw[e0,←e];exact e4
    rcases BK hi with⟨e0,e⟩|⟨_,hi⟩
    ·rw[e0,←e];exact e5
    rcases BK hi with⟨e0,e⟩|⟨_,hi⟩
    ·rw[e0,←e];exact e6
    cases hi
def Bz0:=DM Bl8 Bzz
abbrev B3w:=Bz0
def Byk:=DM (M0 (Au B3w.2 AF) 20 41) B3w
def A6q:=DM (M0 (Au Byk.2 AF) 20 43) Byk
def O3:=aRf 3 (B2q A6q.2 13 3 (.tmp 65) [11]) ⟨L0,AF⟩
abbrev C3:Type:=Int×Int×Ae×(List Ab)×Bool×Int×Int×(List Int)
def UY:C3→St
  |(a0,a1,a2,a3,a4,a5,a6,a7)=>⟨119,5,[(10,.own 1 0),(11,.own 2 0),(48,.v (.int .i64 a0)),(49,.v (.int .i64 a1))],[(1,some (.box 81 [.sl .u8 a2,.sl .group a3,.v (.bool a4)])),(2,some (.box 34 [.v (.int .i64 a5),.v (.int .i64 a6),.v (.int .i64 0),.v (.int .i64 0),.v (.int .i64 0),.v (.int .i64 0),.v (.int .i64 0),.v (.int .i64 0),.v (.slice none 0 0),.v (.int .i64 0),.v (.int .i64 0),.sq 4,.v (.slice none 0 0),.v (.slice none 0 0),.v (.int .i64 0),.v (.int .i64 0),.v (.bool (false))])),(4,some (.arr 3 1 (.ty .i64 a7)))]⟩
def Oh:St→Option C3
 |⟨119,5,[(10,.own 1 0),(11,.own 2 0),(48,.v (.int .i64 z0)),(49,.v (.int .i64 z1))],[(1,some (.box 81 [.sl .u8 z2,.sl .group z3,.v (.bool z4)])),(2,some (.box 34 [.v (.int .i64 z5),.v (.int .i64 z6),.v (.int .i64 (w0)),.v (.int .i64 (w1)),.v (.int .i64 (w2)),.v (.int .i64 (w3)),.v (.int .i64 (w4)),.v (.int .i64 (w5)),.v (.slice none 0 0),.v (.int .i64 (w6)),.v (.int .i64 (w7)),.sq 4,.v (.slice none 0 0),.v (.slice none 0 0),.v (.int .i64 (w8)),.v (.int .i64 (w9)),.v (.bool (false))])),(4,some (.arr 3 1 (.ty .i64 z7)))]⟩=>if w0=0∧w1=0∧w2=0∧w3=0∧w4=0∧w5=0∧w6=0∧w7=0∧w8=0∧w9=0 then some (z0,z1,z2,z3,z4,z5,z6,z7) else none
 |_=>none
theorem Aam:∀s x,Oh s=some x→s=UY x:=fun s x h=>by
 unfold Oh at h
 split at h
 ·split at h
  ·rename_i hw
   obtain⟨rfl,rfl,rfl,rfl,rfl,rfl,rfl,rfl,rfl,rfl⟩:=hw
   cases h;rfl
  ·cases h
 ·cases h
def Al0:Em:=⟨4,5,[10,11,48,49],[],[(1,1),(2,2),(6,4)],[1,2,6],[],[1,2,4]⟩
def Alz:EQ:=⟨[.nilB 2 11 3 .i64],[(1,1),(2,2),(3,4)],[10,11,48,49],[1,2,3]⟩
def Afj (a2:Ae) (a4:Bool):Ae:=(Cm 15 a2 a4).2.1
def Afk (a2:Ae) (a4:Bool) (a7:List Int):List Int:=a7++[(Cm 15 a2 a4).1]
def CL:C3→C3
  |(a0,a1,a2,a3,a4,a5,a6,a7)=>(a0,IntKind.i64.wrap (a1+1),Afj a2 a4,a3,(Cm 15 a2 a4).2.2,a5,a6,Afk a2 a4 a7)
def CK (x:C3):El:=some (!!decide (x.2.1 <x.1))
def RG (x:C3):List Prop:=[((!!decide (x.2.1 <x.1))=true→Af (x.2.2.2.2.2.2.2.length+1))]
abbrev K5:C3→List Prop:=RG
def Aal:C3→BD
  |(a0,a1,a2,a3,a4,a5,a6,a7)=>[(some 1,some (!decide (a1 <a0)),⟨119,5,[],[(1,some (.box 81 [.sl .u8 a2,.sl .group a3,.v (.bool a4)])),(2,some (.box 34 [.v (.int .i64 a5),.v (.int .i64 a6),.v (.int .i64 0),.v (.int .i64 0),.v (.int .i64 0),.v (.int .i64 0),.v (.int .i64 0),.v (.int .i64 0),.v (.slice none 0 0),.v (.int .i64 0),.v (.int .i64 0),.sq 4,.v (.slice none 0 0),.v (.slice none 0 0),.v (.int .i64 0),.v (.int .i64 0),.v (.bool (false))])),(4,some (.arr 3 1 (.ty .i64 a7)))]⟩)]
def IP (x:C3):Nat:=(x.1 - x.2.1).toNat
def J5 (x:C3):C3:=Bh CL CK (IP x) x
set_option maxHeartbeats 8000000 in
def Afl:=Jt (Co A6q.1 O3.1) (Aw AP 13 1) Al0 Alz Oh IP CL CK K5 Aal
def UX:=V8 1 (g:=Afl) (BX (T:=UY) (psA:=RG) A6q.2 O3.2 (u:=9) (by kernel_rfl) (by decide) (fun⟨a0,a1,a2,a3,a4,a5,a6,a7⟩=>by kernel_rfl) (fun _ h=>h) Aam (fun _=>A9 (n:=119) rfl) fun _ _=>rfl) O3
def AO (a1:Ae):Bool:=GF a1 !=0
def AL (a0:List Ab):Bool:=AI a0 !=0
def Bb (a1:Ae):=Cm 5 (AM a1) (Bo a1 !=(a1.length:Int))
def AD (a1:Ae):Bool:=(Bb a1).1==2
def Ay (a1:Ae):Bool:=(Bb a1).1==1
def BM (a1:Ae):=Cm 2 (Bb a1).2.1 (Bb a1).2.2
def Ak (a1:Ae):Bool:=(BM a1).2.2
def Ah (a1:Ae):Ae:=(BM a1).2.1
def GE (a1:Ae):Int:=(↑(Ah a1).length:Int)
def Bv (a0:List Ab) (a1:Ae):=Cs a0 (Ah a1)
def EG (a0:List Ab) (a1:Ae):Int:=(Bv a0 a1).2.1
def Bq (a1:Ae):=Cm 2 (Ah a1) (Ak a1)
def Bn (a0:List Ab) (a1:Ae):=J5 ((Bq a1).1,0,(Bq a1).2.1,a0,(Bq a1).2.2,(Bb a1).1,(BM a1).1,[])
def Bu (a0:List Ab) (a1:Ae):Ae:=(Bn a0 a1).2.2.1
def FE (a0:List Ab) (a1:Ae):Bool:=(Bn a0 a1).2.2.2.2.1
def HY (a0:List Ab) (a1:Ae):Bool:=(Bn a0 a1).2.2.2.2.2.1==5
def AC (a0:List Ab) (a1:Ae):Bool:=!(Ay a1)&&(!(AD a1)&&(HY a0 a1))
def C4 (a0:List Ab) (a1:Ae):=wLf (Bn a0 a1).2.2.2.1 0 0 [] (Bu a0 a1) (FE a0 a1)
def CW (a0:List Ab) (a1:Ae):List AR:=bif(AC a0 a1) then(C4 a0 a1).1.8 else[]
def CV (a0:List Ab) (a1:Ae):List AU:=bif(AC a0 a1) then[] else bif(Ay a1) then(Bv a0 a1).1.5 else[]
def CU (a0:List Ab) (a1:Ae):Bool:=bif(AC a0 a1) then(C4 a0 a1).1.10 else bif(Ay a1) then false else bif(AD a1) then false else false
def CT (a0:List Ab) (a1:Ae):Int:=bif(AC a0 a1) then(C4 a0 a1).1.9.2 else bif(Ay a1) then 0 else bif(AD a1) then 0 else 0
def CS (a0:List Ab) (a1:Ae):Int:=bif(AC a0 a1) then(C4 a0 a1).1.9.1 else bif(Ay a1) then 0 else bif(AD a1) then 0 else 0
def CR (a0:List Ab) (a1:Ae):Int:=bif(AC a0 a1) then 0 else bif(Ay a1) then(Bv a0 a1).1.4.2 else bif(AD a1) then 0 else 0
def CQ (a0:List Ab) (a1:Ae):Int:=bif(AC a0 a1) then 0 else bif(Ay a1) then(Bv a0 a1).1.4.1 else bif(AD a1) then 0 else 0
def CP (a0:List Ab) (a1:Ae):Int:=bif(AC a0 a1) then 0 else bif(Ay a1) then(Bv a0 a1).1.3.2 else bif(AD a1) then 0 else 0
def Dl (a0:List Ab) (a1:Ae):Int:=bif(AC a0 a1) then 0 else bif(Ay a1) then(Bv a0 a1).1.3.1 else bif(AD a1) then 0 else 0
def Dk (a0:List Ab) (a1:Ae):Int:=bif(AC a0 a1) then 0 else bif(Ay a1) then(Bv a0 a1).1.2 else bif(AD a1) then 0 else 0
def Dj (a0:List Ab) (a1:Ae):Int:=bif(AC a0 a1) then 0 else bif(Ay a1) then(Bv a0 a1).1.1 else bif(AD a1) then 0 else 0
def FF (a1:Ae):=Cm 1099511627776 (Ah a1) (Ak a1)
def Di (a0:List Ab) (a1:Ae):Int:=bif(AC a0 a1) then 0 else bif(Ay a1) then 0 else bif(AD a1) then(FF a1).1 else 0
def Ez (a1:Ae):=Cm 1099511627776 (FF a1).2.1 (FF a1).2.2
def Dh (a0:List Ab) (a1:Ae):Int:=bif(AC a0 a1) then 0 else bif(Ay a1) then 0 else bif(AD a1) then(Ez a1).1 else 0
def Dg (a0:List Ab) (a1:Ae):List Ae:=bif(AC a0 a1) then[] else bif(Ay a1) then[] else bif(AD a1) then[] else dgs (Bu a0 a1)
def Df (a0:List Ab) (a1:Ae):List Int:=bif(AC a0 a1) then(Bn a0 a1).2.2.2.2.2.2.2 else bif(Ay a1) then[] else bif(AD a1) then[] else(Bn a0 a1).2.2.2.2.2.2.2
def De (a0:List Ab) (a1:Ae):Int:=bif(AC a0 a1) then(Bn a0 a1).2.2.2.2.2.1 else bif(Ay a1) then(Bb a1).1 else bif(AD a1) then(Bb a1).1 else(Bn a0 a1).2.2.2.2.2.1
def Dd (a0:List Ab) (a1:Ae):Int:=bif(AC a0 a1) then(Bn a0 a1).2.2.2.2.2.2.1 else bif(Ay a1) then(BM a1).1 else bif(AD a1) then(BM a1).1 else(Bn a0 a1).2.2.2.2.2.2.1
def RH (a0:List Ab) (a1:Ae):=Bk.mk (De a0 a1) (Dd a0 a1) (Ao.mk (Dj a0 a1) (Dk a0 a1) (A1.mk (Dl a0 a1) (CP a0 a1)) (BE.mk (CQ a0 a1) (CR a0 a1)) (CV a0 a1)) (Di a0 a1) (Dh a0 a1) (Df a0 a1) (Dg a0 a1) (CW a0 a1) (BE.mk (CS a0 a1) (CT a0 a1)) (CU a0 a1)
def Bj (a0:List Ab) (a1:Ae):Bool:=(bif(AC a0 a1) then(C4 a0 a1).2.2 else bif(Ay a1) then(Ak a1)||(Bv a0 a1).2.2 !=0 else bif(AD a1) then(Ez a1).2.2 else(FE a0 a1))||decide ((↑(bif(AC a0 a1) then(C4 a0 a1).2.1 else bif(Ay a1) then List.take ((GE a1).toNat - (EG a0 a1).toNat) (List.drop (EG a0 a1).toNat (Ah a1)) else bif(AD a1) then(Ez a1).2.1 else List.drop (32*((Bu a0 a1).length / 32)) (Bu a0 a1)).length:Int) >0)||JF a0 (RH a0 a1) !=0
def TU (a0:List Ab) (a1:Ae):Int:=bif(AL a0) then 0 else bif(AO a1) then 0 else bif(Bj a0 a1) then 0 else(De a0 a1)
def TV (a0:List Ab) (a1:Ae):Int:=bif(AL a0) then 0 else bif(AO a1) then 0 else bif(Bj a0 a1) then 0 else(Dd a0 a1)
def TW (a0:List Ab) (a1:Ae):Int:=bif(AL a0) then 0 else bif(AO a1) then 0 else bif(Bj a0 a1) then 0 else(Dj a0 a1)
def TX (a0:List Ab) (a1:Ae):Int:=bif(AL a0) then 0 else bif(AO a1) then 0 else bif(Bj a0 a1) then 0 else(Dk a0 a1)
def TY (a0:List Ab) (a1:Ae):Int:=bif(AL a0) then 0 else bif(AO a1) then 0 else bif(Bj a0 a1) then 0 else(Dl a0 a1)
def TZ (a0:List Ab) (a1:Ae):Int:=bif(AL a0) then 0 else bif(AO a1) then 0 else bif(Bj a0 a1) then 0 else(CP a0 a1)
def T0 (a0:List Ab) (a1:Ae):Int:=bif(AL a0) then 0 else bif(AO a1) then 0 else bif(Bj a0 a1) then 0 else(CQ a0 a1)
def T1 (a0:List Ab) (a1:Ae):Int:=bif(AL a0) then 0 else bif(AO a1) then 0 else bif(Bj a0 a1) then 0 else(CR a0 a1)
def T2 (a0:List Ab) (a1:Ae):List AU:=bif(AL a0) then[] else bif(AO a1) then[] else bif(Bj a0 a1) then[] else(CV a0 a1)
def T3 (a0:List Ab) (a1:Ae):Int:=bif(AL a0) then 0 else bif(AO a1) then 0 else bif(Bj a0 a1) then 0 else(Di a0 a1)
def Ry (a0:List Ab) (a1:Ae):Int:=bif(AL a0) then 0 else bif(AO a1) then 0 else bif(Bj a0 a1) then 0 else(Dh a0 a1)
def Rz (a0:List Ab) (a1:Ae):List Int:=bif(AL a0) then[] else bif(AO a1) then[] else bif(Bj a0 a1) then[] else(Df a0 a1)
def RA (a0:List Ab) (a1:Ae):Int:=bif(AL a0) then 0 else bif(AO a1) then 0 else bif(Bj a0 a1) then 0 else(CS a0 a1)
def RB (a0:List Ab) (a1:Ae):Int:=bif(AL a0) then 0 else bif(AO a1) then 0 else bif(Bj a0 a1) then 0 else(CT a0 a1)
def RC (a0:List Ab) (a1:Ae):Bool:=bif(AL a0) then false else bif(AO a1) then false else bif(Bj a0 a1) then false else(CU a0 a1)
def RD (a0:List Ab) (a1:Ae):Int:=bif(AL a0) then AI a0 else bif(AO a1) then GF a1 else bif(Bj a0 a1) then 140 else 0
def RE (a0:List Ab) (a1:Ae):List Ae:=bif(AL a0) then[] else bif(AO a1) then[] else bif(Bj a0 a1) then[] else(Dg a0 a1)
def RF (a0:List Ab) (a1:Ae):List AR:=bif(AL a0) then[] else bif(AO a1) then[] else bif(Bj a0 a1) then[] else(CW a0 a1)
def Ab5 (a0:List Ab) (a1:Ae):A:=.tup [.agg [iV (TU a0 a1),iV (TV a0 a1),iV (TW a0 a1),iV (TX a0 a1),iV (TY a0 a1),iV (TZ a0 a1),iV (T0 a0 a1),iV (T1 a0 a1),.sl .write (T2 a0 a1),iV (T3 a0 a1),iV (Ry a0 a1),.sl .i64 (Rz a0 a1),.sq 0,.sq 1,iV (RA a0 a1),iV (RB a0 a1),.v (.bool (RC a0 a1))],iV (RD a0 a1)]
def Ab4 (a0:List Ab) (a1:Ae):AE:=[(0,some (.arr 58 32 (.ty .digest (RE a0 a1)))),(1,some (.arr 62 2 (.ty .row (RF a0 a1))))]
def Ze (a0:List Ab) (a1:Ae):=(!(AL a0))=true→(!(AO a1))=true→((bif(AC a0 a1) then(C4 a0 a1).2.2 else bif(Ay a1) then(Ak a1)||(Bv a0 a1).2.2 !=0 else bif(AD a1) then(Ez a1).2.2 else(FE a0 a1))||decide ((↑(bif(AC a0 a1) then(C4 a0 a1).2.1 else bif(Ay a1) then List.take ((GE a1).toNat - (EG a0 a1).toNat) (List.drop (EG a0 a1).toNat (Ah a1)) else bif(AD a1) then(Ez a1).2.1 else List.drop (32*((Bu a0 a1).length / 32)) (Bu a0 a1)).length:Int) >0))=false→JL (RH a0 a1)
def Zf (a0:List Ab) (a1:Ae):=(!(AL a0))=true→(!(AO a1))=true→(Ay a1)=false→(AD a1)=false→A8 CL CK K5 (IP ((Bq a1).1,0,(Bq a1).2.1,a0,(Bq a1).2.2,(Bb a1).1,(BM a1).1,[])) ((Bq a1).1,0,(Bq a1).2.1,a0,(Bq a1).2.2,(Bb a1).1,(BM a1).1,[])
def Zg (a0:List Ab) (a1:Ae):=(!(AL a0))=true→(!(AO a1))=true→(Ay a1)=true→0≤(EG a0 a1)∧(EG a0 a1)≤(GE a1)∧(GE a1)≤(GE a1)
def WS (a0:List Ab) (a1:Ae):=(!(AL a0))=true→(!(AO a1))=true→(Ay a1)=false→(AD a1)=false→(!(HY a0 a1))=true→Af (Bu a0 a1).length
def WT (a0:List Ab) (a1:Ae):=(!(AL a0))=true→(!(AO a1))=true→(Ay a1)=false→(AD a1)=false→(HY a0 a1)=true→Af (Bu a0 a1).length
def WU (a0:List Ab) (a1:Ae):=(!(AL a0))=true→(!(AO a1))=true→(Ay a1)=true→Af (Ah a1).length
def Zd (a0:List Ab) (a1:Ae):List Prop:=[((!(AL a0))=true→Af a1.length),(WU a0 a1),(Zg a0 a1),(Zf a0 a1),(WT a0 a1),(WS a0 a1),(Ze a0 a1)]
set_option maxHeartbeats 8000000 in
theorem Awn (a0:List Ab) (a1:Ae):RL (Co A6q.1 UX.1) 9 13 [.sl .group a0,AA .bytes a1] 0 []=some (1,Ab5 a0 a1,2,Ab4 a0 a1,[((!(AL a0))=true→Af a1.length),(WU a0 a1),(Zg a0 a1),((!(AL a0))=true→(!(AO a1))=true→(Ay a1)=false→(AD a1)=false→Aw AP 13 1=Aw AP 13 1),(Zf a0 a1),(WT a0 a1),((!(AL a0))=true→(!(AO a1))=true→(Ay a1)=false→(AD a1)=false→(!(HY a0 a1))=true→Code.rangeFunc (Operand.tmp (65:Tmp)) (K6 13 3).ps (K6 13 3).assign (K6 13 3).body=Code.rangeFunc (Operand.tmp (65:Tmp)) (K6 13 3).ps (K6 13 3).assign (K6 13 3).body),(WS a0 a1),(Ze a0 a1)]):=by kernel_rfl
theorem Azb (a0:List Ab) (a1:Ae) (hp:∀p∈Zd a0 a1,p):An AP 13 [.sl .group a0,AA .bytes a1] 0 [] 1 (Ab5 a0 a1) 2 (Ab4 a0 a1):=
  AN (Au A6q.2 UX.2) (Awn a0 a1) (nT hp fun hp=>nT hp fun hp=>nT hp fun hp=>Aa (by intros;rfl) (nT hp fun hp=>nT hp fun hp=>Aa (by intros;rfl) (nT hp fun hp=>nT hp fun _=>Ag)))
end Go.Proofs.YtifkbgkbajncjaaGreatDoor
namespace Go.Proofs.YtifkbgkbajncjaaGreatDoor
open Go.RowKit
theorem Bxi {l:List Ab} {r:AR} (h:BO l r=0):AI l=0∧r.cells.length=l.length:=by
 unfold BO at h
 cases h1:AI l !=0 with
 |true=>
  rw[h1,cond_true] at h
  rw[h] at h1
  cases h1
 | false=>
  rw[h1,cond_false] at h
  refine⟨by simpa using h1,?_⟩
  cases h2:(r.key.size==0) with
  |true=>rw[h2] at h;cases h
  | false=>
   cases h3:decide (32 <r.key.size) with
   |true=>rw[h2,h3] at h;cases h
   |false=>
    cases h4:(r.cells.length !=l.length) with
    |true=>rw[h2,h3,h4] at h;cases h
    |false=>simpa using h4
theorem Auk {l:List Ab} {b r:Ae} {m:Bk} (hb:Af b.length) (h:psM l b=some (m,r)):JL m:=by
 unfold Af at hb
 obtain⟨k,r1,a1,e1⟩:=Ps.bind_is h
 obtain⟨s,r2,a2,e2⟩:=Ps.bind_is e1
 have l1:=congrArg List.length (W6.front _ _ _ a1).2
 have l2:=congrArg List.length (W6.front _ _ _ a2).2
 rw[List.length_append] at l1 l2
 have z0:AJ 0:=Nat.zero_le _
 split at e2
 ·obtain⟨c,r3,a3,e3⟩:=Ps.bind_is e2
  cases e3
  have hc:c.writes.length≤8:=by
   obtain⟨c',r4,a4,e4⟩:=Ps.bind_is a3
   split at e4<;>try(cases e4;done)
   cases e4
   exact(Bw0.front _ _ _ a4).1.2.2.2.2.1
  exact⟨by show AJ c.writes.length;unfold AJ;omega,z0,z0,z0,fun _ h=>by cases h⟩
 ·split at e2
  ·obtain⟨a,r3,a3,e3⟩:=Ps.bind_is e2
   obtain⟨o,r4,a4,e4⟩:=Ps.bind_is e3
   cases e4
   exact⟨z0,z0,z0,z0,fun _ h=>by cases h⟩
  ·obtain⟨p,r3,a3,e3⟩:=Ps.bind_is e2
   have hp:p.length≤2:=(Bkg.front _ _ _ a3).1.1
   have l3:=congrArg List.length (Bkg.front _ _ _ a3).2
   rw[List.length_append] at l3
   have wp:AJ p.length:=by unfold AJ;omega
   split at e3
   ·obtain⟨v,r4,a4,e4⟩:=Ps.bind_is e3
    obtain⟨o,r5,a5,e5⟩:=Ps.bind_is e4
    split at e5<;>try(cases e5;done)
    obtain⟨n,r6,a6,e6⟩:=Ps.bind_is e5
    split at e6<;>try(cases e6;done)
    obtain⟨rs,r7,a7,e7⟩:=Ps.bind_is e6
    cases e7
    obtain⟨q1,q2⟩:=(((B7t l).many n.toNat).front _ _ _ a7).1
    refine⟨z0,wp,z0,by show AJ rs.length;unfold AJ;omega,fun r hr=>?_⟩
    obtain⟨g1,g2⟩:=Bxi (q2 r hr)
    have:=(SI g1).2
    unfold Af
    omega
   ·obtain⟨d,r4,a4,e4⟩:=Ps.bind_is e3
    cases e4
    unfold A30 at a4
    split at a4<;>try(cases a4;done)
    cases a4
    refine⟨z0,wp,?_,z0,fun _ h=>by cases h⟩
    show AJ (dgs r3).length
    unfold dgs AJ
    rw[List.length_map,List.length_range]
    omega
theorem Bj4 (n:Int) (l:List Ab) (k0 s0:Int):∀(m:Nat) (i:Int) (b:Ae) (bad:Bool) (rs:List Int),m=(n - i).toNat→0≤i→n≤2→(rs.length:Int)+m≤2→
  A8 CL CK K5 m (n,i,b,l,bad,k0,s0,rs)∧
  ∃i',Bh CL CK m (n,i,b,l,bad,k0,s0,rs)=(n,i',(Ah7 (Cm 15) m rs b bad).2.1,l,(Ah7 (Cm 15) m rs b bad).2.2,k0,s0,(Ah7 (Cm 15) m rs b bad).1)
 |0,i,b,bad,rs,hm,hi,hn,hl=>by
  have hd:decide (i <n)=false:=decide_eq_false (by omega)
  have hf:∀q:Prop,(!!decide (i <n))=true→q:=fun q h=>by rw[hd] at h;cases h
  refine⟨⟨Aa (hf _) Ag,?_⟩,i,rfl⟩
  show(!!decide (i <n))=false
  rw[hd]
  rfl
 | m+1,i,b,bad,rs,hm,hi,hn,hl=>by
  have ae:i <n:=by omega
  have hd:decide (i <n)=true:=decide_eq_true ae
  have bz:BJ (CK (n,i,b,l,bad,k0,s0,rs))=true:=by
   show(!!decide (i <n))=true
   rw[hd]
   rfl
  have hnx:CL (n,i,b,l,bad,k0,s0,rs)=(n,(i+1),(Cm 15 b bad).2.1,l,(Cm 15 b bad).2.2,k0,s0,(rs++[(Cm 15 b bad).1])):=by
   show(n,IntKind.i64.wrap (i+1),_,l,_,k0,s0,_)=_
   rw[i64_in (by omega)]
   rfl
  obtain⟨j1,i',j2⟩:=Bj4 n l k0 s0 m (i+1) (Cm 15 b bad).2.1 (Cm 15 b bad).2.2 (rs++[(Cm 15 b bad).1]) (by omega) (by omega) hn (by rw[List.length_append];simp only[List.length_cons,List.length_nil];omega)
  refine⟨⟨Aa (fun _=>by show Af (rs.length+1);unfold Af;omega) Ag,fun _=>by rw[hnx];exact j1⟩,i',?_⟩
  show(bif BJ (CK (n,i,b,l,bad,k0,s0,rs)) then Bh CL CK m (CL (n,i,b,l,bad,k0,s0,rs)) else _)=_
  rw[bz,hnx,cond_true,j2]
  rfl
theorem XU {b:Ae} (_h:Af b.length):Af (AM b).length:=by
 unfold AM
 cases GF b==0 with
 |false=>exact Nat.zero_le _
 |true=>
  show Af ((b.drop _).take _).length
  unfold Af at*
  rw[List.length_take,List.length_drop]
  omega
theorem Bml (l:List Ab) (b:Ae):0≤(Cs l b).2.1∧(Cs l b).2.1≤(b.length:Int):=by
 unfold Cs
 cases h:OI l b with
 |none=>exact⟨Int.le_refl _,by show(0:Int)≤(b.length:Int);omega⟩
 |some y=>
  obtain⟨c,r⟩:=y
  have hl:=congrArg List.length ((A9u l).front _ _ _ h).2
  rw[List.length_append] at hl
  show(0:Int)≤(b.length:Int) - (r.length:Int)∧(b.length:Int) - (r.length:Int)≤(b.length:Int)
  omega
theorem Apb (m:Int):∀(n:Nat) (l:List Int) (b:Ae) (bad:Bool),Af b.length→Af (Ah7 (Cm m) n l b bad).2.1.length
 |0,_,_,_,h=>h
 |n+1,_,_,bad,h=>Apb m n _ _ _ (Aly m bad h)
theorem Bob {b:Ae} (bad:Bool) (h:Af b.length):Af (wPa b bad).2.1.length:=Apb 15 _ _ _ _ (Aly 2 bad h)
theorem Bil (l:List Ab) (b:Ae):A8 CL CK K5 (IP ((Cm (2:Int) (Ah b) (Ak b)).1,(0:Int),(Cm (2:Int) (Ah b) (Ak b)).2.1,l,(Cm (2:Int) (Ah b) (Ak b)).2.2,(Cm (5:Int) (AM b) (Bo b !=(b.length:Int))).1,(Cm (2:Int) (Cm (5:Int) (AM b) (Bo b !=(b.length:Int))).2.1 (Cm (5:Int) (AM b) (Bo b !=(b.length:Int))).2.2).1,[])) ((Cm (2:Int) (Ah b) (Ak b)).1,(0:Int),(Cm (2:Int) (Ah b) (Ak b)).2.1,l,(Cm (2:Int) (Ah b) (Ak b)).2.2,(Cm (5:Int) (AM b) (Bo b !=(b.length:Int))).1,(Cm (2:Int) (Cm (5:Int) (AM b) (Bo b !=(b.length:Int))).2.1 (Cm (5:Int) (AM b) (Bo b !=(b.length:Int))).2.2).1,[])∧∃i',J5 ((Cm (2:Int) (Ah b) (Ak b)).1,(0:Int),(Cm (2:Int) (Ah b) (Ak b)).2.1,l,(Cm (2:Int) (Ah b) (Ak b)).2.2,(Cm (5:Int) (AM b) (Bo b !=(b.length:Int))).1,(Cm (2:Int) (Cm (5:Int) (AM b) (Bo b !=(b.length:Int))).2.1 (Cm (5:Int) (AM b) (Bo b !=(b.length:Int))).2.2).1,[])=((Cm (2:Int) (Ah b) (Ak b)).1,i',(wPa (Ah b) (Ak b)).2.1,l,(wPa (Ah b) (Ak b)).2.2,(Cm (5:Int) (AM b) (Bo b !=(b.length:Int))).1,(Cm (2:Int) (Cm (5:Int) (AM b) (Bo b !=(b.length:Int))).2.1 (Cm (5:Int) (AM b) (Bo b !=(b.length:Int))).2.2).1,(wPa (Ah b) (Ak b)).1):=by
 have hn:=Blh (m:=2) (by decide) (Ah b) (Ak b)
 obtain⟨q1,i',q2⟩:=(Bj4 (Cm (2:Int) (Ah b) (Ak b)).1 l (Cm (5:Int) (AM b) (Bo b !=(b.length:Int))).1 (Cm (2:Int) (Cm (5:Int) (AM b) (Bo b !=(b.length:Int))).2.1 (Cm (5:Int) (AM b) (Bo b !=(b.length:Int))).2.2).1 ((Cm (2:Int) (Ah b) (Ak b)).1 - 0).toNat 0 (Cm (2:Int) (Ah b) (Ak b)).2.1 (Cm (2:Int) (Ah b) (Ak b)).2.2 [] rfl (Int.le_refl _) hn (by simp only[List.length_nil];omega))
 refine⟨q1,i',?_⟩
 rw[show wPa (Ah b) (Ak b)=Ah7 (Cm 15) ((Cm (2:Int) (Ah b) (Ak b)).1 - 0).toNat [] (Cm (2:Int) (Ah b) (Ak b)).2.1 (Cm (2:Int) (Ah b) (Ak b)).2.2 by rw[Int.sub_zero];rfl]
 exact q2
theorem Bik (l:List Ab) (b:Ae):(Bk.mk (De l b) (Dd l b) (Ao.mk (Dj l b) (Dk l b) (A1.mk (Dl l b) (CP l b)) (BE.mk (CQ l b) (CR l b)) (CV l b)) (Di l b) (Dh l b) (Df l b) (Dg l b) (CW l b) (BE.mk (CS l b) (CT l b)) (CU l b))=(wM l (AM b) (Bo b !=(b.length:Int))).1∧((bif(AC l b) then(wLf (J5 ((Cm (2:Int) (Ah b) (Ak b)).1,(0:Int),(Cm (2:Int) (Ah b) (Ak b)).2.1,l,(Cm (2:Int) (Ah b) (Ak b)).2.2,(Cm (5:Int) (AM b) (Bo b !=(b.length:Int))).1,(Cm (2:Int) (Cm (5:Int) (AM b) (Bo b !=(b.length:Int))).2.1 (Cm (5:Int) (AM b) (Bo b !=(b.length:Int))).2.2).1,[])).2.2.2.1 (0:Int) (0:Int) [] (Bu l b) (FE l b)).2.2 else bif(Ay b) then(Ak b)||(Cs l (Ah b)).2.2 !=(0:Int) else bif(AD b) then(Cm (1099511627776:Int) (Cm (1099511627776:Int) (Ah b) (Ak b)).2.1 (Cm (1099511627776:Int) (Ah b) (Ak b)).2.2).2.2 else(FE l b))||decide ((↑(bif(AC l b) then(wLf (J5 ((Cm (2:Int) (Ah b) (Ak b)).1,(0:Int),(Cm (2:Int) (Ah b) (Ak b)).2.1,l,(Cm (2:Int) (Ah b) (Ak b)).2.2,(Cm (5:Int) (AM b) (Bo b !=(b.length:Int))).1,(Cm (2:Int) (Cm (5:Int) (AM b) (Bo b !=(b.length:Int))).2.1 (Cm (5:Int) (AM b) (Bo b !=(b.length:Int))).2.2).1,[])).2.2.2.1 (0:Int) (0:Int) [] (Bu l b) (FE l b)).2.1 else bif(Ay b) then List.take ((GE b).toNat - (EG l b).toNat) (List.drop (EG l b).toNat (Ah b)) else bif(AD b) then(Cm (1099511627776:Int) (Cm (1099511627776:Int) (Ah b) (Ak b)).2.1 (Cm (1099511627776:Int) (Ah b) (Ak b)).2.2).2.1 else List.drop ((32:Nat)*((Bu l b).length / (32:Nat))) (Bu l b)).length:Int) >(0:Int)))=((wM l (AM b) (Bo b !=(b.length:Int))).2.2||decide (0 <(wM l (AM b) (Bo b !=(b.length:Int))).2.1.length)):=by
 obtain⟨_,i',af⟩:=Bil l b
 have dp:∀n:Nat,decide ((n:Int) >0)=decide (0 <n):=fun n=>dgt n 0
 have hK:(wM l (AM b) (Bo b !=(b.length:Int)))=wTl l (Cm (5:Int) (AM b) (Bo b !=(b.length:Int))).1 (Cm (2:Int) (Cm (5:Int) (AM b) (Bo b !=(b.length:Int))).2.1 (Cm (5:Int) (AM b) (Bo b !=(b.length:Int))).2.2).1 (Ah b) (Ak b):=rfl
 have t7:HY l b=((Cm (5:Int) (AM b) (Bo b !=(b.length:Int))).1==5):=by unfold HY Bn BM Bb Bq;rw[af]
 have h20:FE l b=(wPa (Ah b) (Ak b)).2.2:=by unfold FE Bn BM Bb Bq;rw[af]
 have eu:Bu l b=(wPa (Ah b) (Ak b)).2.1:=by unfold Bu Bn BM Bb Bq;rw[af]
 by_cases h1:(Cm (5:Int) (AM b) (Bo b !=(b.length:Int))).1=1
 ·have ew:Ay b=true:=by unfold Ay Bb;rw[h1];rfl
  have i7:AC l b=false:=by unfold AC;rw[ew];rfl
  have hW:(wM l (AM b) (Bo b !=(b.length:Int)))=(⟨(Cm (5:Int) (AM b) (Bo b !=(b.length:Int))).1,(Cm (2:Int) (Cm (5:Int) (AM b) (Bo b !=(b.length:Int))).2.1 (Cm (5:Int) (AM b) (Bo b !=(b.length:Int))).2.2).1,(Cs l (Ah b)).1,0,0,[],[],[],⟨0,0⟩,false⟩,(Ah b).drop (Cs l (Ah b)).2.1.toNat,(Ak b)||(Cs l (Ah b)).2.2 !=0):=by
   rw[hK]
   unfold wTl
   rw[if_pos h1]
   rfl
  have hM:(Bk.mk (De l b) (Dd l b) (Ao.mk (Dj l b) (Dk l b) (A1.mk (Dl l b) (CP l b)) (BE.mk (CQ l b) (CR l b)) (CV l b)) (Di l b) (Dh l b) (Df l b) (Dg l b) (CW l b) (BE.mk (CS l b) (CT l b)) (CU l b))=(wM l (AM b) (Bo b !=(b.length:Int))).1:=by
   rw[hW]
   simp only[Dd,De,Df,Dg,Dh,Di,Dj,Dk,Dl,CP,CQ,CR,CS,CT,CU,CV,CW,i7,ew,cond_true,cond_false,Bn,Bb,BM,Bq,Ez,FF,Bv,C4]
  refine⟨hM,?_⟩
  rw[i7,ew,cond_false,cond_true,cond_false,cond_true,dp,hW]
  unfold EG GE Bv
  rw[A5]
 have ew:Ay b=false:=by unfold Ay Bb;simpa using h1
 by_cases h2:(Cm (5:Int) (AM b) (Bo b !=(b.length:Int))).1=2
 ·have dm:AD b=true:=by unfold AD Bb;rw[h2];rfl
  have i7:AC l b=false:=by unfold AC;rw[ew,dm];rfl
  have hW:(wM l (AM b) (Bo b !=(b.length:Int)))=(⟨(Cm (5:Int) (AM b) (Bo b !=(b.length:Int))).1,(Cm (2:Int) (Cm (5:Int) (AM b) (Bo b !=(b.length:Int))).2.1 (Cm (5:Int) (AM b) (Bo b !=(b.length:Int))).2.2).1,IG.change,(Cm 1099511627776 (Ah b) (Ak b)).1,(Cm 1099511627776 (Cm 1099511627776 (Ah b) (Ak b)).2.1 (Cm 1099511627776 (Ah b) (Ak b)).2.2).1,[],[],[],⟨0,0⟩,false⟩,(Cm 1099511627776 (Cm 1099511627776 (Ah b) (Ak b)).2.1 (Cm 1099511627776 (Ah b) (Ak b)).2.2).2):=by
   rw[hK]
   unfold wTl
   rw[if_neg h1,if_pos h2]
  have hM:(Bk.mk (De l b) (Dd l b) (Ao.mk (Dj l b) (Dk l b) (A1.mk (Dl l b) (CP l b)) (BE.mk (CQ l b) (CR l b)) (CV l b)) (Di l b) (Dh l b) (Df l b) (Dg l b) (CW l b) (BE.mk (CS l b) (CT l b)) (CU l b))=(wM l (AM b) (Bo b !=(b.length:Int))).1:=by
   rw[hW]
   simp only[Dd,De,Df,Dg,Dh,Di,Dj,Dk,Dl,CP,CQ,CR,CS,CT,CU,CV,CW,i7,ew,dm,cond_true,cond_false,Bn,Bb,BM,Bq,Ez,FF,Bv,C4]
   rfl
  refine⟨hM,?_⟩
  rw[i7,ew,dm,cond_false,cond_false,cond_true,cond_false,cond_false,cond_true,dp,hW]
 have dm:AD b=false:=by unfold AD Bb;simpa using h2
 by_cases h5:(Cm (5:Int) (AM b) (Bo b !=(b.length:Int))).1=5
 ·have i7:AC l b=true:=by unfold AC;rw[ew,dm,t7,h5];rfl
  have hW:(wM l (AM b) (Bo b !=(b.length:Int)))=wLf l (Cm (5:Int) (AM b) (Bo b !=(b.length:Int))).1 (Cm (2:Int) (Cm (5:Int) (AM b) (Bo b !=(b.length:Int))).2.1 (Cm (5:Int) (AM b) (Bo b !=(b.length:Int))).2.2).1 (wPa (Ah b) (Ak b)).1 (wPa (Ah b) (Ak b)).2.1 (wPa (Ah b) (Ak b)).2.2:=by
   rw[hK]
   unfold wTl
   rw[if_neg h1,if_neg h2]
   exact if_pos h5
  have hM:(Bk.mk (De l b) (Dd l b) (Ao.mk (Dj l b) (Dk l b) (A1.mk (Dl l b) (CP l b)) (BE.mk (CQ l b) (CR l b)) (CV l b)) (Di l b) (Dh l b) (Df l b) (Dg l b) (CW l b) (BE.mk (CS l b) (CT l b)) (CU l b))=(wM l (AM b) (Bo b !=(b.length:Int))).1:=by
   rw[hW]
   simp only[Dd,De,Df,Dg,Dh,Di,Dj,Dk,Dl,CP,CQ,CR,CS,CT,CU,CV,CW,i7,af,h20,eu,cond_true,Bn,Bb,BM,Bq,Ez,FF,Bv,C4]
   rfl
  refine⟨hM,?_⟩
  rw[i7,cond_true,cond_true,af,h20,eu,dp,hW]
  rfl
 ·have i7:AC l b=false:=by unfold AC;rw[ew,dm,t7];simpa using h5
  have hW:(wM l (AM b) (Bo b !=(b.length:Int)))=(⟨(Cm (5:Int) (AM b) (Bo b !=(b.length:Int))).1,(Cm (2:Int) (Cm (5:Int) (AM b) (Bo b !=(b.length:Int))).2.1 (Cm (5:Int) (AM b) (Bo b !=(b.length:Int))).2.2).1,IG.change,0,0,(wPa (Ah b) (Ak b)).1,dgs (wPa (Ah b) (Ak b)).2.1,[],⟨0,0⟩,false⟩,(wPa (Ah b) (Ak b)).2.1.drop (32*((wPa (Ah b) (Ak b)).2.1.length / 32)),(wPa (Ah b) (Ak b)).2.2):=by
   rw[hK]
   unfold wTl
   rw[if_neg h1,if_neg h2]
   exact if_neg h5
  have hM:(Bk.mk (De l b) (Dd l b) (Ao.mk (Dj l b) (Dk l b) (A1.mk (Dl l b) (CP l b)) (BE.mk (CQ l b) (CR l b)) (CV l b)) (Di l b) (Dh l b) (Df l b) (Dg l b) (CW l b) (BE.mk (CS l b) (CT l b)) (CU l b))=(wM l (AM b) (Bo b !=(b.length:Int))).1:=by
   rw[hW]
   simp only[Dd,De,Df,Dg,Dh,Di,Dj,Dk,Dl,CP,CQ,CR,CS,CT,CU,CV,CW,i7,ew,dm,af,eu,cond_false,Bn,Bb,BM,Bq,Ez,FF,Bv,C4]
   rfl
  refine⟨hM,?_⟩
  rw[i7,ew,dm,cond_false,cond_false,cond_false,cond_false,cond_false,cond_false,h20,eu,dp,hW]
theorem B07 (l:List Ab) (b:Ae):Bj l b=((wM l (AM b) (Bo b !=(b.length:Int))).2.2||decide (0 <(wM l (AM b) (Bo b !=(b.length:Int))).2.1.length)||JF l (wM l (AM b) (Bo b !=(b.length:Int))).1 !=0):=by
 obtain⟨h1,h2⟩:=Bik l b
 exact congr (congrArg (fun x y=>x||JF l y !=0) h2) h1
theorem Bx4 {l:List Ab} {x:Ae} {bad:Bool} (hb:Af x.length) (h:((wM l x bad).2.2||decide (0 <(wM l x bad).2.1.length))=false):JL (wM l x bad).1:=by
 rw[Bool.or_eq_false_iff] at h
 obtain⟨h1,h2⟩:=h
 cases bad with
 |true=>rw[(Ale l).bad] at h1;cases h1
 | false=>
  cases hp:prM l x with
  |none=>rw[(Ale l).none _ hp] at h1;cases h1
  | some y=>
   obtain⟨m,r⟩:=y
   have e:=(Ale l).some _ m r hp
   rw[e] at h2
   have hr:r=[]:=by
    have:¬0 <r.length:=of_decide_eq_false h2
    exact List.length_eq_zero_iff.1 (by omega)
   subst hr
   rw[e]
   exact Auk hb (A3y hp)
theorem B28 (l:List Ab) (b:Ae) (hb:Af b.length):(∀p∈Zd l b,p)∧(⟨TU l b,TV l b,⟨TW l b,TX l b,⟨TY l b,TZ l b⟩,⟨T0 l b,T1 l b⟩,T2 l b⟩,T3 l b,Ry l b,Rz l b,RE l b,RF l b,⟨RA l b,RB l b⟩,RC l b⟩:Bk)=(Pn l b).1∧RD l b=(Pn l b).2:=by
 obtain⟨m1,m2⟩:=Bik l b
 obtain⟨n1,i',af⟩:=Bil l b
 have hB:Af (AM b).length:=XU hb
 have t9:Af (Ah b).length:=Aly 2 _ (Aly 5 _ hB)
 have l5:=Bml l (Ah b)
 have eu:Af (Bu l b).length:=by
  unfold Bu Bn BM Bb Bq
  rw[af]
  exact Bob (Ak b) t9
 refine⟨Aa (fun _=>hb) (Aa (fun _ _ _=>t9) (Aa (fun _ _ _=>⟨l5.1,l5.2,Int.le_refl _⟩) (Aa (fun _ _ _ _=>n1) (Aa (fun _ _ _ _ _=>eu) (Aa (fun _ _ _ _ _=>eu) (Aa (fun _ _ h=>?_) Ag)))))),?_⟩
 ·exact(congrArg JL m1).mpr (Bx4 hB (m2.symm.trans h))
 ·have hk:=B07 l b
  have v9:AL l=(AI l !=0):=rfl
  have wa:AO b=(GF b !=0):=rfl
  unfold Pn TU TV TW TX TY TZ T0 T1 T2 T3 Ry Rz RA RB RC RD RE RF
  rw[v9,wa,hk,←m1]
  generalize (AI l !=0)=g1
  generalize (GF b !=0)=g2
  generalize ((wM l (AM b) (Bo b !=(b.length:Int))).2.2||decide (0 <(wM l (AM b) (Bo b !=(b.length:Int))).2.1.length)||JF l (Bk.mk (De l b) (Dd l b) (Ao.mk (Dj l b) (Dk l b) (A1.mk (Dl l b) (CP l b)) (BE.mk (CQ l b) (CR l b)) (CV l b)) (Di l b) (Dh l b) (Df l b) (Dg l b) (CW l b) (BE.mk (CS l b) (CT l b)) (CU l b)) !=0)=g3
  cases g1<;>cases g2<;>cases g3<;>exact⟨rfl,rfl⟩
def B4w:=DM Xm Cwc
def Byp:=DM Tn B4w
def Byq:=DM (M0 (Vn Byp.2) 1040 17) Byp
def Byr:=DM (M0 (Vn Byq.2) 1040 22) Byq
def Bys:=DM (M0 (Vn Byr.2) 1040 7) Byr
def Byt:=DM (M0 (Vn Bys.2) 1040 38) Bys
def Byu:=DM (M0 (Vn Byt.2) 1040 41) Byt
def Byv:=DM (M0 (Vn Byu.2) 1040 39) Byu
def Bo6:=DM (M0 (Vn Byv.2) 1040 13) Byv
def Brz:A:=.v (.bool (true))
def Brx:AE:=[]
def Bry:List Prop:=[(JL (Bk.mk 2 2 (Ao.mk 0 0 (A1.mk 0 0) (BE.mk 0 0) []) 3 1 [] [] [] (BE.mk 0 0) false)),(true=true→JL (Bk.mk 2 2 (Ao.mk 0 0 (A1.mk 0 0) (BE.mk 0 0) []) 3 1 [] [] [] (BE.mk 0 0) false))]
theorem B2a:RL (Co Bo6.1 L0) 1040 6 [] 0 []=some (1,Brz,0,Brx,[(JL (Bk.mk 2 2 (Ao.mk 0 0 (A1.mk 0 0) (BE.mk 0 0) []) 3 1 [] [] [] (BE.mk 0 0) false)),(Af 8),(Af 9),(Af 10),(Af 11),((0:Int)≤181∧(181:Int) <256),(Af 9),(Af 6),(Af 10),(Af 10),(Af 4),(JL (Bk.mk 2 2 (Ao.mk 0 0 (A1.mk 0 0) (BE.mk 0 0) []) 3 1 [] [] [] (BE.mk 0 0) false)),(true=true→(0:Int)≤2∧(2:Int)≤6∧(6:Int)≤10),(true=true→JL (Bk.mk 2 2 (Ao.mk 0 0 (A1.mk 0 0) (BE.mk 0 0) []) 3 1 [] [] [] (BE.mk 0 0) false))]):=by kernel_rfl
theorem B56 (hp:∀p∈Bry,p):An AP 6 [] 0 [] 1 (Brz) 0 (Brx):=by
 have n0:(JL (Bk.mk (2:Int) (2:Int) (Ao.mk (0:Int) (0:Int) (A1.mk (0:Int) (0:Int)) (BE.mk (0:Int) (0:Int)) []) (3:Int) (1:Int) [] [] [] (BE.mk (0:Int) (0:Int)) false)):=N0 hp
 have n1:(Af (8:Nat)):=by first|rfl|decide+kernel
 have n2:(Af (9:Nat)):=by first|rfl|decide+kernel
 have n3:(Af (10:Nat)):=by first|rfl|decide+kernel
 have n4:(Af (11:Nat)):=by first|rfl|decide+kernel
 have n5:((0:Int)≤(181:Int)∧(181:Int) <(256:Int)):=by first|rfl|decide+kernel
 have n7:(Af (6:Nat)):=by first|rfl|decide+kernel
 have yz:(Af (4:Nat)):=by first|rfl|decide+kernel
 have te:(true=true→(0:Int)≤(2:Int)∧(2:Int)≤(6:Int)∧(6:Int)≤(10:Int)):=by first|rfl|decide+kernel
 have my:=N0 (N1 hp)
 exact AN (Au Bo6.2 AF) (B2a) (Aa n0 (Aa n1 (Aa n2 (Aa n3 (Aa n4 (Aa n5 (Aa n2 (Aa n7 (Aa n3 (Aa n3 (Aa yz (Aa n0 (Aa te (Aa my Ag))))))))))))))
theorem Bwf:Gw AP 6 (Cy [] 0 Brz Brx Bry):=Az B56
def B0m:=DM Bwf Bo6
theorem Ah9 (a b c d:Int):JL ⟨a,b,⟨0,0,⟨0,0⟩,⟨0,0⟩,[]⟩,c,d,[],[],[],⟨0,0⟩,false⟩:=by
 have n0:AJ 0:=Nat.zero_le _
 exact⟨n0,n0,n0,n0,fun r hr=>by cases hr⟩
abbrev Cwz:=B0m
def Bhr (a0:List Ab) (a1:Ae):A:=.tup [.agg [iV ((Pn a0 a1).1.kind),iV ((Pn a0 a1).1.site),iV ((Pn a0 a1).1.change.site),iV ((Pn a0 a1).1.change.seq),iV ((Pn a0 a1).1.change.stamp.n),iV ((Pn a0 a1).1.change.stamp.site),iV ((Pn a0 a1).1.change.vec.a),iV ((Pn a0 a1).1.change.vec.b),.sl .write (Pn a0 a1).1.change.writes,iV ((Pn a0 a1).1.ack),iV ((Pn a0 a1).1.own),.sl .i64 (Pn a0 a1).1.path,.sq 0,.sq 1,iV ((Pn a0 a1).1.know.a),iV ((Pn a0 a1).1.know.b),.v (.bool (Pn a0 a1).1.back)],iV ((Pn a0 a1).2)]
def Bhq (a0:List Ab) (a1:Ae):AE:=[(0,some (.arr 58 32 (.ty .digest (Pn a0 a1).1.sums))),(1,some (.arr 62 2 (.ty .row (Pn a0 a1).1.rows)))]
def Bli (_a0:List Ab) (a1:Ae):List Prop:=[Af a1.length]
theorem B27 (a0:List Ab) (a1:Ae) (hp:∀p∈Bli a0 a1,p):An AP 13 [.sl .group a0,AA .bytes a1] 0 [] 1 (Bhr a0 a1) 2 (Bhq a0 a1):=by
 obtain⟨h1,h2,h3⟩:=B28 a0 a1 (hp _ (List.mem_cons_self ..))
 have h:=Azb a0 a1 h1
 unfold Bhr Bhq
 rw[←h2,←h3]
 exact h
theorem A55:Gw AP 13 (Cy [.l .group,.t .bytes] 2 Bhr Bhq Bli):=Az B27
def B3x:=DM A55 Cwz
def B3y:=DM (O7 A55) B3x
abbrev Cds:=B3y
def B0c:=DM Qe Cds
def B0d:=DM (O7 A4l) B0c
def Btc (a0:List Ab) (a1:Ae):A:=Ae0 a0 a1
def Btb (a0:List Ab) (a1:Ae):AE:=Aez a0 a1
def Bk3 (a0:List Ab) (a1:Ae):List Prop:=[Af a1.length∧∀g∈a0,AJ g.name.size]
theorem B2t (a0:List Ab) (a1:Ae) (hp:∀p∈Bk3 a0 a1,p):An AP 45 [.sl .group a0,AA .bytes a1] 0 [] 1 (Btc a0 a1) 1 (Btb a0 a1):=by
 obtain⟨h1,h2⟩:=hp _ (List.mem_cons_self ..)
 exact Bgq a0 a1 (Aoo a0 a1 h1 h2).1
theorem Bk4:Gw AP 45 (Cy [.l .group,.t .bytes] 1 Btc Btb Bk3):=Az B2t
def B0e:=DM Bk4 B0d
def B0f:=DM (O7 Bk4) B0e
def B0g:=DM Ahn B0f
def A3 (a1:Ae):Bool:=GF a1 !=0
def AX (a0:List Ab):Bool:=AI a0 !=0
def Abu (a0:List Ab) (a1:Ae):=Bk.mk (Is a0 (AM a1)) (It a0 (AM a1)) (Ao.mk (Iu a0 (AM a1)) (Iv a0 (AM a1)) (A1.mk (Iw a0 (AM a1)) (Ix a0 (AM a1))) (BE.mk (Iy a0 (AM a1)) (Iz a0 (AM a1))) (IA a0 (AM a1))) (IB a0 (AM a1)) (G1 a0 (AM a1)) (G2 a0 (AM a1)) (G3 (AM a1)) (G7 a0 (AM a1)) (BE.mk (G4 a0 (AM a1)) (G5 a0 (AM a1))) (G6 a0 (AM a1))
def Bc (a0:List Ab) (a1:Ae):Bool:=Bo a1 !=(a1.length:Int)||!Bd a0 (AM a1)||JF a0 (Abu a0 a1) !=0
def BF (a0:List Ab) (a1:Ae):Bk:=Bk.mk (bif(AX a0) then 0 else bif(A3 a1) then 0 else bif(Bc a0 a1) then 0 else Is a0 (AM a1)) (bif(AX a0) then 0 else bif(A3 a1) then 0 else bif(Bc a0 a1) then 0 else It a0 (AM a1)) (Ao.mk (bif(AX a0) then 0 else bif(A3 a1) then 0 else bif(Bc a0 a1) then 0 else Iu a0 (AM a1)) (bif(AX a0) then 0 else bif(A3 a1) then 0 else bif(Bc a0 a1) then 0 else Iv a0 (AM a1)) (A1.mk (bif(AX a0) then 0 else bif(A3 a1) then 0 else bif(Bc a0 a1) then 0 else Iw a0 (AM a1)) (bif(AX a0) then 0 else bif(A3 a1) then 0 else bif(Bc a0 a1) then 0 else Ix a0 (AM a1))) (BE.mk (bif(AX a0) then 0 else bif(A3 a1) then 0 else bif(Bc a0 a1) then 0 else Iy a0 (AM a1)) (bif(AX a0) then 0 else bif(A3 a1) then 0 else bif(Bc a0 a1) then 0 else Iz a0 (AM a1))) (bif(AX a0) then[] else bif(A3 a1) then[] else bif(Bc a0 a1) then[] else IA a0 (AM a1))) (bif(AX a0) then 0 else bif(A3 a1) then 0 else bif(Bc a0 a1) then 0 else IB a0 (AM a1)) (bif(AX a0) then 0 else bif(A3 a1) then 0 else bif(Bc a0 a1) then 0 else G1 a0 (AM a1)) (bif(AX a0) then[] else bif(A3 a1) then[] else bif(Bc a0 a1) then[] else G2 a0 (AM a1)) (bif(AX a0) then[] else bif(A3 a1) then[] else bif(Bc a0 a1) then[] else G3 (AM a1)) (bif(AX a0) then[] else bif(A3 a1) then[] else bif(Bc a0 a1) then[] else G7 a0 (AM a1)) (BE.mk (bif(AX a0) then 0 else bif(A3 a1) then 0 else bif(Bc a0 a1) then 0 else G4 a0 (AM a1)) (bif(AX a0) then 0 else bif(A3 a1) then 0 else bif(Bc a0 a1) then 0 else G5 a0 (AM a1))) (bif(AX a0) then false else bif(A3 a1) then false else bif(Bc a0 a1) then false else G6 a0 (AM a1))
def Qf (a0:List Ab) (a1:Ae):Int:=bif(AX a0) then AI a0 else bif(A3 a1) then GF a1 else bif(Bc a0 a1) then 140 else 0
def A49 (a0:List Ab) (a1:Ae):A:=.tup [.agg [iV (((BF a0 a1).kind)),iV (((BF a0 a1).site)),iV (((BF a0 a1).change.site)),iV (((BF a0 a1).change.seq)),iV (((BF a0 a1).change.stamp.n)),iV (((BF a0 a1).change.stamp.site)),iV (((BF a0 a1).change.vec.a)),iV (((BF a0 a1).change.vec.b)),.sl .write ((BF a0 a1).change.writes),iV (((BF a0 a1).ack)),iV (((BF a0 a1).own)),.sl .i64 ((BF a0 a1).path),.sl .digest ((BF a0 a1).sums),.sl .row ((BF a0 a1).rows),iV (((BF a0 a1).know.a)),iV (((BF a0 a1).know.b)),.v (.bool ((BF a0 a1).back))],iV (Qf a0 a1)]
def Abt (a0:List Ab) (a1:Ae):List Prop:=[(∀(g:Ab),g∈a0→AJ g.1.size),((!(AX a0))=true→Af a1.length),((!(AX a0))=true→(!(A3 a1))=true→Af (AM a1).length∧∀(g:Ab),g∈a0→AJ g.1.size),((!(AX a0))=true→(!(A3 a1))=true→(Bo a1 !=(a1.length:Int)||!Bd a0 (AM a1))=false→JL (Abu a0 a1)∧∀(g:Ab),g∈a0→AJ g.1.size)]
theorem A48 (a0:List Ab) (a1:Ae) (hp:∀p∈Abt a0 a1,p):An AP 14 [.sl .group a0,AA .bytes a1] 0 [] 1 (A49 a0 a1) 0 []:=AN (u:=9) (Au B0g.2 AF) (by kernel_rfl) hp
def mR (l:List Ab) (b:Ae):Bk:=⟨Is l b,It l b,⟨Iu l b,Iv l b,⟨Iw l b,Ix l b⟩,⟨Iy l b,Iz l b⟩,IA l b⟩,IB l b,G1 l b,G2 l b,G3 b,G7 l b,⟨G4 l b,G5 l b⟩,G6 l b⟩
theorem Ayn (l:List Ab) (b:Ae) (hb:Af b.length) (hw:∀g∈l,AJ g.1.size):(∀p∈Abt l b,p)∧BF l b=Oo l b∧Qf l b=Vc l b:=by
 have hB:Af (AM b).length:=XU hb
 have hr:match psM l (AM b) with
  |some (m,r)=>Bd l (AM b)=r.isEmpty∧mR l (AM b)=m
  |none=>Bd l (AM b)=false:=(Aoo l (AM b) hB hw).2
 refine⟨Aa hw (Aa (fun _=>hb) (Aa (fun _ _=>⟨hB,hw⟩) (Aa (fun _ _ h=>⟨?_,hw⟩) Ag))),?_⟩
 ·rw[Bool.or_eq_false_iff] at h
  obtain⟨_,h2⟩:=h
  show JL (mR l (AM b))
  cases hp:psM l (AM b) with
  |none=>rw[hp] at hr;rw[hr] at h2;cases h2
  |some y=>
   obtain⟨m,r⟩:=y
   rw[hp] at hr
   rw[hr.2]
   exact Auk hB hp
 have k0:Bc l b=(Bo b !=(b.length:Int)||!Bd l (AM b)||JF l (mR l (AM b)) !=0):=rfl
 have key:(bif Bc l b then(IG,(140:Int)) else(mR l (AM b),0))=match Tq l b with
   |some m=>(m,0)
   |none=>(IG,140):=by
  rw[k0]
  unfold Tq
  by_cases hk:Bo b=(b.length:Int)
  ·rw [if_pos hk,show(Bo b !=(b.length:Int))=false by simpa using hk]
   unfold Bl5
   cases hp:psM l (AM b) with
   |none=>rw[hp] at hr;rw[hr];rfl
   | some y=>
    obtain⟨m,r⟩:=y
    rw[hp] at hr
    rw[hr.1,hr.2]
    cases r with
    | nil=>
     by_cases hg:JF l m=0
     ·simp only[if_pos hg]
      rw[hg]
      rfl
     ·simp only[if_neg hg]
      rw[show(JF l m !=0)=true by simpa using hg]
      rfl
    |cons z r=>rfl
  ·rw[if_neg hk,show(Bo b !=(b.length:Int))=true by simpa using hk]
   rfl
 have e0:BF l b=bif AX l then IG else bif A3 b then IG else(bif Bc l b then(IG,(140:Int)) else(mR l (AM b),0)).1:=by
  unfold BF mR
  cases AX l<;>cases A3 b<;>cases Bc l b<;>rfl
 have e1:Qf l b=bif AX l then AI l else bif A3 b then GF b else(bif Bc l b then(IG,(140:Int)) else(mR l (AM b),0)).2:=by
  unfold Qf
  cases AX l<;>cases A3 b<;>cases Bc l b<;>rfl
 rw[e0,e1,key]
 have ee:Vc l b=bif AX l then AI l else bif A3 b then GF b else match Tq l b with
   |some _=>0
   |none=>140:=rfl
 have s1:AX l=(AI l !=0):=rfl
 have s2:A3 b=(GF b !=0):=rfl
 unfold Oo
 rw[ee]
 cases h1:AX l with
 |true=>
  rw[s1] at h1
  have bt:AI l≠0:=by simpa using h1
  simp only[cond_true]
  rw[show(AI l==0)=false by simpa using bt]
  exact⟨rfl,trivial⟩
 | false=>
  cases h2:A3 b with
  |true=>
   rw[s2] at h2
   have et:GF b≠0:=by simpa using h2
   simp only[cond_true,cond_false]
   rw[show(GF b==0)=false by simpa using et]
   exact⟨rfl,trivial⟩
  |false=>
   simp only[cond_false]
   cases Tq l b with
   |some m=>exact⟨rfl,rfl⟩
   |none=>exact⟨rfl,rfl⟩
def Bgt (a0:List Ab) (a1:Ae):A:=.tup [.agg [iV ((Oo a0 a1).kind),iV ((Oo a0 a1).site),iV ((Oo a0 a1).change.site),iV ((Oo a0 a1).change.seq),iV ((Oo a0 a1).change.stamp.n),iV ((Oo a0 a1).change.stamp.site),iV ((Oo a0 a1).change.vec.a),iV ((Oo a0 a1).change.vec.b),.sl .write (Oo a0 a1).change.writes,iV ((Oo a0 a1).ack),iV ((Oo a0 a1).own),.sl .i64 (Oo a0 a1).path,.sl .digest (Oo a0 a1).sums,.sl .row (Oo a0 a1).rows,iV ((Oo a0 a1).know.a),iV ((Oo a0 a1).know.b),.v (.bool (Oo a0 a1).back)],iV (Vc a0 a1)]
def Bks (a0:List Ab) (a1:Ae):List Prop:=[Af a1.length∧∀g∈a0,AJ g.1.size]
theorem B2m (a0:List Ab) (a1:Ae) (hp:∀p∈Bks a0 a1,p):An AP 14 [.sl .group a0,AA .bytes a1] 0 [] 1 (Bgt a0 a1) 0 []:=by
 obtain⟨q1,q2⟩:=hp _ (List.mem_cons_self ..)
 obtain⟨h1,h2,h3⟩:=Ayn a0 a1 q1 q2
 have h:=A48 a0 a1 h1
 unfold Bgt
 rw[←h2,←h3]
 exact h
theorem Bw7:Gw AP 14 (Cy [.l .group,.t .bytes] 0 Bgt (fun _ _=>[]) Bks):=Az B2m
def B0h:=DM Bw7 Cds
def B0i:=DM (O7 A55) B0h
def JR (a0:List Ab) (a1:Ae):Bool:=eqM (Pn a0 a1).1 (Oo a0 a1)&&(Pn a0 a1).2==Vc a0 a1
def B5 (a0:List Ab) (a1:Ae):Bool:=decide ((a0.length:Int) >100)||decide ((a1.length:Int) >20000)
def KE (a0:List Ab) (a1:Ae):Bool:=bif(B5 a0 a1) then true else(JR a0 a1)&&true
def SL (a0:List Ab) (a1:Ae):A:=.v (.bool (KE a0 a1))
def QU (a0:List Ab) (a1:Ae):List Prop:=[((B5 a0 a1)=true→JL (Bk.mk 2 2 (Ao.mk 0 0 (A1.mk 0 0) (BE.mk 0 0) []) 3 1 [] [] [] (BE.mk 0 0) false)),((B5 a0 a1)=true→true=true→JL (Bk.mk 2 2 (Ao.mk 0 0 (A1.mk 0 0) (BE.mk 0 0) []) 3 1 [] [] [] (BE.mk 0 0) false)),((!(B5 a0 a1))=true→Af a1.length),((!(B5 a0 a1))=true→Af a1.length∧∀(g:Ab),g∈a0→AJ g.1.size),((!(B5 a0 a1))=true→JL (Pn a0 a1).1),((!(B5 a0 a1))=true→(JR a0 a1)=true→JL (Bk.mk 2 2 (Ao.mk 0 0 (A1.mk 0 0) (BE.mk 0 0) []) 3 1 [] [] [] (BE.mk 0 0) false)),((!(B5 a0 a1))=true→(JR a0 a1)=true→true=true→JL (Bk.mk 2 2 (Ao.mk 0 0 (A1.mk 0 0) (BE.mk 0 0) []) 3 1 [] [] [] (BE.mk 0 0) false))]
theorem Agi (a0:List Ab) (a1:Ae) (hp:∀p∈QU a0 a1,p):An AP 4 [.sl .group a0,AA .bytes a1] 0 [] 1 (SL a0 a1) 0 []:=AN (u:=9) (Au B0i.2 AF) (by kernel_rfl) hp
theorem Bl6 {l:List Ab} {b:Ae} (hb:Af b.length):JL (Oo l b):=by
 have h0:JL IG:=Ah9 ..
 unfold Oo
 cases Vc l b==0 with
 |false=>exact h0
 | true=>
  show JL ((Tq l b).getD IG)
  cases hd:Tq l b with
  |none=>exact h0
  |some m=>
   unfold Tq at hd
   split at hd
   ·exact Auk (XU hb) (Arc hd).1
   ·cases hd
theorem Bx6 (a0:List Ab) (a1:Ae) (w0:a0.length≤maxLen∧∀y∈a0,Wfd .group y):(∀p∈QU a0 a1,p)∧KE a0 a1=true:=by
 have hg:∀g∈a0,AJ g.1.size:=fun g hg=>(w0.2 g hg).1
 have hb:(!(B5 a0 a1))=true→Af a1.length:=fun h=>by
  unfold B5 at h
  rw[Bool.not_or,Bool.and_eq_true] at h
  have:=of_decide_eq_false (by simpa using h.2:decide ((a1.length:Int) >(20000:Int))=false)
  unfold Af
  omega
 have e:=Bvh a0 a1
 refine⟨Aa (fun _=>Ah9 ..) (Aa (fun _ _=>Ah9 ..) (Aa hb (Aa (fun h=>⟨hb h,hg⟩) (Aa (fun h=>?_) (Aa (fun _ _=>Ah9 ..) (Aa (fun _ _ _=>Ah9 ..) Ag)))))),?_⟩
 ·rw[e]
  exact Bl6 (hb h)
 ·unfold KE JR
  rw[e,Bqo,beq_self_eq_true]
  cases B5 a0 a1<;>rfl
set_option maxRecDepth 100000
theorem op3:Opn Tryz.prog .i64 3:=Bws Tryz.underlying3
theorem op5:Opn Tryz.prog .u8 5:=B2e Tryz.underlying5
theorem op9:Opn Tryz.prog .str 9:=Bwt Tryz.underlying9
theorem B58:Opn Tryz.prog .group 106:=fun en w base spare held m cs y h=>by
 obtain⟨xs,n,_,_,hl,hz,hg⟩:=DataW.trod_struct Tryz.underlying106 h
 have hz:xs.length=2:=hz
 have hl:cs.length=2:=hl.trans (by kernel_rfl)
 obtain⟨x0,w0,g0⟩:=B5k (i:=0) (o:=0) (k:=1) op9 rfl rfl rfl (by kernel_rfl) (by omega) hg
 obtain⟨x1,w1,g1⟩:=B5k (i:=1) (o:=1) (k:=1) op3 rfl rfl rfl (by kernel_rfl) (by omega) hg
 exact⟨⟨x0,x1⟩,⟨w0,w1⟩,fun F N nx hF=>HLd (o:=0) (k:=1) (g0 F N nx hF) (HLd (o:=1) (k:=1) (g1 F N nx hF) (HLe (o:=2) hl))⟩
theorem B59:Bh4 Tryz.prog .group 22:=A9p Tryz.underlying22 (by kernel_rfl) B58
theorem B6a:Bh4 Tryz.prog .u8 37:=A9p Tryz.underlying37 (by kernel_rfl) op5
end Go.Proofs.YtifkbgkbajncjaaGreatDoor
namespace Go.Proofs.YtifkbgkbajncjaaGreatDoor
open Go.ChangeShapes Go.WideShapes Go.ChangeAt Go.RowKit
theorem own:ownKnob Tryz.prog.godebug=none:=by kernel_rfl
theorem Bv9:laidOutB Tryz.prog=true:=by kernel_rfl
section
variable {P:Program} {H:Type} {enc:TypeId×Value→H} {w:World} {base:Nat} {spare:Nat→Bool} {held:Bool} {v:Value} {d:DataW H} {p:List MemPlace}
end
theorem Aan {H:Type} {enc:TypeId×Value→H} {W W':World} (hb:Below W.heap.size W W'):∀(ts:List TypeId) (vs:List Value) (ds:List (DataW H)) (ps:List MemPlace),
  (∀t∈ts,Tryz.prog.readableRec t=true∧t <Tryz.prog.types.size)→DataW.TrodAll enc Tryz.prog W 0 (fun _=>true) true ts vs ds ps→(∀x∈ps,x.block <W.heap.size)→
  DataW.TrodAll enc Tryz.prog W' 0 (fun b=>decide (b <W.heap.size)) true ts vs ds ps
 | [],vs,ds,ps,_,h,_=>by
  obtain⟨rfl,rfl,rfl⟩:=trodAll_nil h
  exact trodAll_mk0
 | t::ts,vs,ds,ps,hr,h,ae=>by
  obtain⟨v,vs',d,vz,p,q,rfl,rfl,rfl,h0,h1⟩:=trodAll_cons h
  exact trodAll_cons_mk (Below.trod Bv9 (hr t (by simp)).1 (hr t (by simp)).2 h0 hb fun x hx=>ae x (by simp[hx]))
   (Aan hb ts vs' vz q (fun t' sy=>hr t' (by simp[sy])) h1 fun x hx=>ae x (by simp[hx]))
end Go.Proofs.YtifkbgkbajncjaaGreatDoor
namespace Go.Proofs.YtifkbgkbajncjaaGreatDoor
open Go.RowKit Go.WideShapes Go.ChangeShapes
section
variable {H:Type} {en:TypeId×Value→H} {P:Program} {w:World} {base:Nat} {spare:Nat→Bool} {held:Bool} {t e:TypeId} {v:Value} {d:DataW H} {p:List MemPlace} {r:Reach} {b0:Nat} {c:TC}
theorem A69 (ht:P.underlying t=some (.slice e)) (ho:Bh4 P c t) (hv:Value.okWide P w r b0 t v) (h:DataW.Trod en P w base spare held t v d p):
  ∃l:List (U c),(l.length≤maxLen∧∀x∈l,Wfd c x)∧∀(F:Nat→Prop) (N:Nm) (nx:Nat),FB w F→Hv F N nx w (.sl c l) v:=by
 obtain⟨a,len,cap,rfl⟩:=okWide_slice ht hv
 obtain⟨fuel,hf⟩:=h
 obtain⟨l,h1,h2⟩:=ho en w base spare held fuel _ _ hf
 refine⟨l,h1,fun F N nx hF=>?_⟩
 obtain⟨y,ys,e,h3,_⟩:=(h2 F N nx hF).inv
 have e':[Value.slice a len cap]=y::ys:=e
 cases e'
 exact h3
end
theorem Blx {P:Program} {f:FuncId} {args:List A} {nx':Nat} {o':AE} {b:Bool} (h:An P f args 0 [] 1 (.v (.bool b)) nx' o') (W:World) (rr:U1 (fun b=>b <W.heap.size) W) (vs:List Value) (ha:∀(F:Nat→Prop) (N:Nm) (nx:Nat),FB W F→HL F N nx W args vs):
  Calls P f vs.toArray W fun e W'=>e=.returned (.bool b)∧Below W.heap.size W W':=by
 have hr:Bp (fun b=>b <W.heap.size) ⟨fun _=>0,fun _=> .nilFunc⟩ 0 [] W:=⟨fun g hg=>hg,fun i ob hi=>(by cases hi),fun i ob g hi=>(by cases hi),fun i j x y g hi=>(by cases hi),rr⟩
 refine(h _ _ W vs hr (ha _ _ _ fun b hb=>hb)).mono fun e W' ⟨y,F',N',he,_,_,hy,hb⟩=>?_
 rw[hy.v_inv] at he
 exact⟨he,hb (Nat.le_refl _)⟩
end Go.Proofs.YtifkbgkbajncjaaGreatDoor
namespace Go.Proofs.YtifkbgkbajncjaaGreatDoor
open Go.RowKit Go.ChangeShapes Go.WideShapes Go.ChangeAt
theorem Bmq {P:Program} {t e:TypeId} {n:Nat} {H:Type} {en:TypeId×Value→H} {W:World} {base:Nat} {spare:Nat→Bool} {held:Bool} {fuel:Nat} (hu:P.underlying t=some (.array n e)) (he:P.underlying e=some .string) (hc:P.cellsOf e=1) (ht:P.cellsOf t=n) {cs:List Value} {l:List ByteArray} {p:List MemPlace} (h:DataW.trod en P W base spare held fuel t cs=some (.agg (l.map fun x=> .lit (.string x.data.toList)),p)):cs=l.map Value.string:=by
 obtain⟨xs,m,_,hx,hl,hn,hg⟩:=DataW.trod_array hu h
 rw[ht] at hl
 rw[hc] at hg
 have e1:xs.map (·.1)=l.map fun x=>DataW.lit (.string x.data.toList):=by
  have:=congrArg Prod.fst hx
  simpa using this.symm
 have kv:l.length=n:=by
  have:=congrArg List.length e1
  simpa[hn] using this.symm
 refine List.ext_getElem? fun i=>?_
 by_cases hi:i <n
 ·have h1:=hg i hi
  have va:xs[i]?=some xs[i]:=List.getElem?_eq_getElem (by omega)
  rw[va] at h1
  obtain⟨m',e2,e3,_⟩:=DataW.trod_string he h1
  have e4:=congrArg (·[i]?) e1
  simp only[List.getElem?_map,va,Option.map_some] at e4
  have u4:l[i]?=some l[i]:=List.getElem?_eq_getElem (by omega)
  rw[u4,Option.map_some,e3] at e4
  have e5:m'=l[i]:=by
   have:m'.data.toList=l[i].data.toList:=by simpa using e4
   have h2:=Array.toList_inj.1 this
   cases m'
   generalize l[i]=z at h2
   cases z
   exact congrArg ByteArray.mk h2
  rw[List.getElem?_map,u4,Option.map_some,←e5]
  have e6:((cs.drop (i*1)).take 1)[0]?=some (Value.string m'):=by rw[e2];rfl
  rw[List.getElem?_take_of_lt (by omega),List.getElem?_drop] at e6
  simpa using e6
 ·rw[List.getElem?_eq_none (by omega),List.getElem?_eq_none (by rw[List.length_map];omega)]
abbrev A8y:List (String×DataW Unit):=[("gemel/wire.names",Rows.laid_gemel_wire_names)]
theorem Bqg (os:Os) (args:Array Value):laidMetH Tryz.prog A8y ((World.doorLaid Tryz.prog 400 os).forCall (fun _ _=>0) ⟨#[],args,[]⟩).memory:=
 laidMetH_of_parts3 (fuel:=8) (laidMet_of_run' 8 (by kernel_rfl) (by kernel_rfl)) (by kernel_rfl) (by kernel_rfl)
def gIx:Nat:=match Aay with
 | [(i,_)]=>i
 |_=>0
theorem By7:Tryz.prog.globalNamed "gemel/wire.names" =some gIx:=by kernel_rfl
theorem B5u:(Tryz.prog.globals[gIx]?).map (·.type)=some 76:=by kernel_rfl
def A3m:List ByteArray:=match Aay with
 | [(_,⟨.str,_,l⟩)]=>l
 |_=>[]
theorem Bwa:(Rows.laid_gemel_wire_names:DataW Unit)=.agg (A3m.map fun x=> .lit (.string x.data.toList)):=by kernel_rfl
theorem Bq9:Aay=[(gIx,⟨.str,rfl,A3m⟩)]:=by kernel_rfl
theorem Bv6 {W:World} (h:laidMetH Tryz.prog A8y W):U1 (fun b=>b <W.heap.size) W:=by
 rw[MakeChecks.laidMetH_plain _ _ _ (by kernel_rfl)] at h
 obtain⟨ps,⟨g0,t0,cs0,f0,p0,q0,xp,yn,qh,f9,_,cu⟩,_,cq⟩:=h
 obtain rfl:=Option.some.inj (By7.symm.trans xp)
 obtain rfl:=Option.some.inj (B5u.symm.trans yn)
 rw[Bwa] at f9
 have cn:=Bmq (l:=A3m) Tryz.underlying76 Tryz.underlying9 (by kernel_rfl) (by kernel_rfl) f9
 have hlen:cs0.toList.length=6:=by rw[cn,List.length_map];kernel_rfl
 have bc:cs0.size=6:=by rw[←Array.length_toList];exact hlen
 have hm:MemPlace.cell gIx 0∈ps:=by
  rw[cu]
  refine List.mem_append.2 (.inl (List.mem_append.2 (.inl ?_)))
  unfold MemPlace.row
  rw[bc]
  exact List.mem_map.2 ⟨0,List.mem_range.2 (by decide),rfl⟩
 obtain⟨⟨c,t,hc⟩,_⟩:=cq gIx 0 hm
 have nz:c=cs0:=by
  unfold World.var? at qh
  rw[By7] at qh
  simp only[Option.bind_some,hc] at qh
  exact Option.some.inj qh
 subst nz
 intro x hx
 rw[Bq9] at hx
 obtain rfl:=List.mem_singleton.1 hx
 refine⟨KA hc,t,?_⟩
 show W.heap[gIx]?=some (.cells (A3m.map (sv .str)).toArray t (0,0))
 rw[hc]
 congr 2
 apply Array.ext'
 rw[cn]
 rfl
end Go.Proofs.YtifkbgkbajncjaaGreatDoor
namespace Go.Proofs.YtifkbgkbajncjaaGreatDoor.wireDecodes
open Go.ChangeShapes Go.WideShapes Go.ChangeAt Go.RowKit
theorem lifted (os:Os) (started:os.Started) (H:Type) (enc:TypeId×Value→H):
  ReturnsInHanded {} Tryz.checked os 4 .any (fun w args=>(Rows.wireDecodesSpec.pre enc Tryz.prog Tryz.f4 [] false w args∧laidMetH Tryz.prog A8y w)∧sizedMet enc Tryz.prog Tryz.f4 (OpenSpec.ofChange Rows.wireDecodesSpec) false w args)
   (Rows.wireDecodesSpec.post enc Tryz.prog Tryz.f4 false true false false):=by
 refine returnsInHanded_of_change_and (C:=Tryz.checked) (X:=fun w _=>laidMetH Tryz.prog A8y w) (fun _ _ _ hh h=>h.of_heap hh) own started (by kernel_rfl) Tryz.func4
  (ChangeSpec.witness_shaped (enc:=enc) (C:=Tryz.checked) (os:=os) (X:=fun w _=>laidMetH Tryz.prog A8y w) false (World.doorLaid Tryz.prog 400 os) #[.slice none 0 0,.slice none 0 0] 8 rfl (World.shaped_of_RefB (by kernel_rfl) (by kernel_rfl)) (by kernel_rfl) (by kernel_rfl) (by kernel_rfl) (Bqg os _)) ?_
 intro W base args ds gs before pd hW _ _ hL _
 have mr:∀(j:Nat) t v,Tryz.f4.params[j]?=some t→args[j]?=some v→Value.okWide Tryz.prog W .any base t v:=pd
 have xc:=hW
 have ae:∀x∈before,x.block <W.heap.size:=fun x hx=>hW.lt x hx
 obtain⟨p,q,wo,hV,rfl,hfz,hnd⟩:=hW
 have hA:DataW.TrodAll enc Tryz.prog W 0 (fun _=>true) true Tryz.f4.params.toList args.toList ds p:=wo
 rw[Tryz.params4] at hA mr
 have qt:=hA
 obtain⟨v0,vy,d0,ds0,p0,q0,bx,rfl,rfl,h0,r0⟩:=trodAll_cons hA
 obtain⟨v1,vs1,d1,ds1,p1,q1,rfl,rfl,rfl,h1,r1⟩:=trodAll_cons r0
 obtain⟨rfl,rfl,rfl⟩:=trodAll_nil r1
 obtain rfl:args=#[v0,v1]:=by cases args;simp_all
 obtain⟨rfl,rfl⟩:=trodVars_none hV
 obtain⟨a0,w0,g0⟩:=A69 Tryz.underlying22 B59 (mr 0 22 v0 rfl rfl) h0
 obtain⟨a1,w1,g1⟩:=A69 Tryz.underlying37 B6a (mr 1 37 v1 rfl rfl) h1
 obtain⟨hn,ht⟩:=Bx6 a0 a1 w0
 have hc:=Agi a0 a1 hn
 have hr:SL a0 a1=.v (.bool true):=by show A.v (.bool (KE a0 a1))=_;rw[ht]
 rw[hr] at hc
 refine(Blx hc W (Bv6 hL) [v0,v1] fun F N nx hF=>HL.cons (g0 F N nx hF) (HL.cons (g1 F N nx hF) (HL.nil))).mono fun e W' ⟨he,bel⟩=>?_
 subst he
 have gq:∀t∈[22,37],Tryz.prog.readableRec t=true∧t <Tryz.prog.types.size:=by
  intro t ht
  simp only[List.mem_cons,List.not_mem_nil,or_false] at ht
  rcases ht with rfl|rfl
  all_goals exact⟨by kernel_rfl,of_decide_eq_true (by kernel_rfl)⟩
 exact⟨_,rfl,_,_,_,[],_,[],xc,trodAll_mk1 (shut_bool Tryz.underlying4 _),
  Aan bel _ _ _ _ gq qt (fun x hx=>ae x (by simpa using hx)),rfl,bel.frame _,fun h=>by cases h⟩
theorem tA:Tryz.prog.funcNamed Rows.wireDecodesRow.func=some 4:=by kernel_rfl
theorem b0:(Rows.wireDecodesRow.wf (OpenSpec.ofChange Rows.wireDecodesSpec))=true:=by kernel_rfl
theorem b1:(laidOutB Tryz.prog)=true:=by kernel_rfl
theorem b2:(mapsRowed Tryz.prog)=true:=by kernel_rfl
theorem b3:(Tryz.f4.params.all (Tryz.prog.readableRec ·))=true:=by kernel_rfl
theorem b4:(namedTie Tryz.prog Rows.wireDecodesRow.named Rows.wireDecodesSpec.vars)=true:=by kernel_rfl
theorem b5:((Rows.wireDecodesRow.stops==[]))=true:=by kernel_rfl
theorem b6:((Tryz.prog.stops==[]))=true:=by kernel_rfl
theorem b7:((Rows.wireDecodesRow.knobs==[]))=true:=by kernel_rfl
theorem b8:((Tryz.prog.stopKnobs==[]))=true:=by kernel_rfl
theorem b9:((Rows.wireDecodesRow.inPlace==Tryz.prog.inPlace 4))=true:=by kernel_rfl
theorem b10:((Rows.wireDecodesRow.unfollowed==Tryz.prog.unfollowed 4))=true:=by kernel_rfl
theorem b11:((Rows.wireDecodesRow.recurses==Tryz.prog.recurses 4))=true:=by kernel_rfl
theorem b12:((Rows.wireDecodesRow.named==Tryz.prog.varsNamed 4))=true:=by kernel_rfl
theorem b13:((Rows.wireDecodesRow.maps==(Tryz.f4.params.toList++Rows.wireDecodesSpec.plain.varTypes Tryz.prog).any (Tryz.prog.mapsRec ·)))=true:=by kernel_rfl
theorem b14:((Rows.wireDecodesRow.ifaces==(Tryz.f4.params.toList++Rows.wireDecodesSpec.plain.varTypes Tryz.prog).any (Tryz.prog.ifacesRec ·)))=true:=by kernel_rfl
theorem b15:((Rows.wireDecodesRow.mapsOut==Tryz.prog.mapsAmong Tryz.f4.resultTypes.toList))=true:=by kernel_rfl
theorem b16:((Rows.wireDecodesRow.loops==(Tryz.f4.params.toList++Rows.wireDecodesSpec.plain.varTypes Tryz.prog).any (Tryz.prog.loopsFrom ·)))=true:=by kernel_rfl
theorem b17:((Rows.wireDecodesRow.wideKeys==(Tryz.f4.params.toList++Rows.wireDecodesSpec.plain.varTypes Tryz.prog++Tryz.f4.resultTypes.toList).any (Tryz.prog.wideKeysFrom ·)))=true:=by kernel_rfl
theorem b18:(Rows.wireDecodesSpec.vars.all (Tryz.prog.varReadable ·))=true:=by kernel_rfl
theorem b19:(Tryz.f4.resultTypes.all (fun t=>Tryz.prog.readableRec t&&decide (t <Tryz.prog.types.size)))=true:=by kernel_rfl
theorem b20:((Rows.wireDecodesRow.ifacesOut==Tryz.f4.resultTypes.toList.any (Tryz.prog.ifacesRec ·)))=true:=by kernel_rfl
theorem b21:((Rows.wireDecodesRow.loopsOut==Tryz.f4.resultTypes.toList.any (Tryz.prog.loopsFrom ·)))=true:=by kernel_rfl
theorem b22:((Rows.wireDecodesRow.plainKeys==Tryz.prog.plainKeys))=true:=by kernel_rfl
theorem b23:(Rows.wireDecodesRow.shortTexts.isNone)=true:=by kernel_rfl
theorem b24:(Tryz.prog.stopsHeard)=true:=by kernel_rfl
theorem b25:(Tryz.prog.mayEnter)=true:=by kernel_rfl
theorem b26:((Rows.wireDecodesRow.lifted==Tryz.prog.liftsFinal))=true:=by kernel_rfl
theorem b27:((Tryz.prog.make==some Rows.wireDecodesRow.make))=true:=by kernel_rfl
theorem b28:((Rows.wireDecodesRow.kinds==(if Rows.wireDecodesRow.domain.isEmpty then[] else Tryz.f4.params.toList.map fun t=>match Tryz.prog.underlying t with|some (.int k)=>some k|_=>none)))=true:=by kernel_rfl
theorem b29:((Rows.wireDecodesRow.pinned==Rows.wireDecodesRow.pinnedBy))=true:=by kernel_rfl
theorem b30:((Rows.wireDecodesRow.veiled==(Tryz.f4.params.toList++Rows.wireDecodesSpec.plain.varTypes Tryz.prog++Tryz.f4.resultTypes.toList).any (Tryz.prog.veiledRec ·)))=true:=by kernel_rfl
theorem b31:(Rows.wireDecodesRow.veiledFits Tryz.prog Tryz.f4.params.toList (Tryz.f4.params.toList++Rows.wireDecodesSpec.plain.varTypes Tryz.prog++Tryz.f4.resultTypes.toList))=true:=by kernel_rfl
theorem MU {a b:Bool} (h:a=true) (g:b=true):(a&&b)=true:=by rw[h,g];rfl
theorem tB:joinedFacts Tryz.prog 4 Tryz.f4 Rows.wireDecodesSpec Rows.wireDecodesRow=true:=by
 unfold joinedFacts
 exact(MU (MU (MU (MU (MU (MU (MU (MU (MU (MU (MU (MU (MU (MU (MU (MU (MU (MU (MU (MU (MU (MU (MU (MU (MU (MU (MU (MU (MU (MU (MU b0 b1) b2) b3) b4) b5) b6) b7) b8) b9) b10) b11) b12) b13) b14) b15) b16) b17) b18) b19) b20) b21) b22) b23) b24) b25) b26) b27) b28) b29) b30) b31)
theorem tC:Tryz.f4.isInstance Tryz.prog Rows.wireDecodesRow.origin Rows.wireDecodesRow.targs:=of_decide_eq_true (by kernel_rfl)
theorem tD0:decide (Check.packageOf Tryz.f4.name= "main")=false:=by kernel_rfl
theorem tD:Tryz.f4.isWrapper Tryz.prog Rows.wireDecodesRow.wrapper Rows.wireDecodesRow.mainSum:=by
 unfold Func.isWrapper
 rw[if_neg (of_decide_eq_false tD0)]
 exact⟨rfl,rfl⟩
theorem over:Rows.wireDecodesRow.holds Tryz.pinned (OpenSpec.ofChange Rows.wireDecodesSpec):=
 OpenClaim.holds_of_wide 4 Tryz.f4 rfl rfl rfl rfl rfl rfl rfl ⟨rfl,rfl,rfl,rfl,rfl⟩ rfl rfl rfl rfl rfl tA Tryz.func4 tB tC tD
  (fun os started H enc _=>lifted os started H enc)
theorem proved:Rows.WireDecodesCardSaid:=
 Claim7.holds_tied_plain_at .later [] [.data] true (true,"2fb6bcba11d488c1df56cd33c71823d0f37048f48772d3dc1280b67036d87f5a") false
  over (fun _ h=>by cases h) (by kernel_rfl) (fun _ h=>by cases h) wireDecodes_row_tie rfl ⟨rfl,rfl⟩ (by kernel_rfl) rfl
  (fun f fn hf xm=>by
   obtain rfl:f=4:=Option.some.inj ((show Tryz.prog.funcNamed "gemel/gemellaw14.WireDecodes" =some 4 by kernel_rfl).symm.trans hf) |>.symm
   obtain rfl:fn=Tryz.f4:=(Option.some.inj (Tryz.func4.symm.trans xm)).symm
   exact⟨by kernel_rfl,fun j t ht=>by
    rw[Tryz.params4] at ht
    have hm:t∈[22,37]:=by simpa using Array.mem_of_getElem? ht
    have ai:([22,37].all fun u=>!Tryz.prog.wantsStandIn u)=true:=by kernel_rfl
    exact(show Tryz.prog.wantsStandIn t=false by simpa using List.all_eq_true.1 ai t hm)⟩)
  (by kernel_rfl)
end Go.Proofs.YtifkbgkbajncjaaGreatDoor.wireDecodes

