/- made by a program (rowgen.py): WireBack: for every input the law returns true, and each argument reads behind the call as it read before. -/
import Derived.Test.YtifkbgkbajncjaaDoorKWbg
import Derived.Test.YtifkbgkbajncjaaDoorRows

set_option maxRecDepth 100000
noncomputable section
namespace Go.Proofs.YtifkbgkbajncjaaDoor
open Go.RowKit
theorem Bkq {b:Ak} (_h:32≤b.length):[b.getD 0 0,b.getD 1 0,b.getD 2 0,b.getD 3 0,b.getD 4 0,b.getD 5 0,b.getD 6 0,b.getD 7 0,b.getD 8 0,b.getD 9 0,b.getD 10 0,b.getD 11 0,b.getD 12 0,b.getD 13 0,b.getD 14 0,b.getD 15 0,b.getD 16 0,b.getD 17 0,b.getD 18 0,b.getD 19 0,b.getD 20 0,b.getD 21 0,b.getD 22 0,b.getD 23 0,b.getD 24 0,b.getD 25 0,b.getD 26 0,b.getD 27 0,b.getD 28 0,b.getD 29 0,b.getD 30 0,b.getD 31 0]=b.take 32:=by
 have:(List.range 32).map (fun k=>b.getD k 0)=b.take 32:=by
  refine List.ext_getElem (by rw[List.length_map,List.length_range,List.length_take];omega) fun i h1 h2=>?_
  rw[List.length_map,List.length_range] at h1
  rw[List.getElem_map,List.getElem_range,List.getElem_take,List.getD_eq_getElem?_getD,List.getElem?_eq_getElem (by omega)]
  rfl
 exact this
theorem A58 {b:Ak} (_h:32≤b.length):dgs b=b.take 32::dgs (b.drop 32):=by
 conv=>lhs;rw[←List.take_append_drop 32 b]
 exact Aeq (by rw[List.length_take];omega) _
theorem Bbh {b:Ak} (h:b.length <32):dgs b=[]:=by
 unfold dgs
 rw[Nat.div_eq_of_lt h]
 rfl
theorem Bdu (x:UInt8):UInt8.ofNat ((x.toNat:Int)).toNat=x:=by rw[Int.toNat_natCast,UInt8.ofNat_toNat]
theorem Ak6 (i:Nat):∀(d:AJ),(∃z,∀o,Aq i (d++o)=z)∨∀o,Aq i (d++o)=Aq i o
 | []=> .inr fun _=>rfl
 | (k,x)::r=>by
  by_cases e:i=k
  ·exact .inl ⟨x,fun o=>by rw[List.cons_append,AI,if_pos e]⟩
  ·rcases Ak6 i r with⟨z,h⟩|h
   ·exact .inl ⟨z,fun o=>by rw[List.cons_append,AI,if_neg e,h]⟩
   ·exact .inr fun o=>by rw[List.cons_append,AI,if_neg e,h]
theorem Ad7 {P:Program} {f:FuncId} {args:List A} {nx k nx':Nat} {o1 o1' d o:AJ} {x:A} (h:Ax P f args nx o1 k x nx' o1') (hd:∀i ob,Aq i (d++o1)=some ob→Aq i o1'=some ob) (hs:∀i ob,Aq i o1=some ob→Aq i o=some ob):Ax P f args nx o k x nx' (d++o):=fun F N R vs hh ha=>by
 refine(h F N R vs (hh.weak hs) ha).mono fun _ R' ⟨y,F',N',e1,e2,e3,e4,e5⟩=>?_
 obtain⟨q1,q2⟩:=hh.frame (o':=d++o) hs e3 e2 fun i ob hi=>by
  rcases Ak6 i d with⟨z,hz⟩|hz
  ·exact .inl (hd i ob (by rw[hz];rw[hz] at hi;exact hi))
  ·rw[hz] at hi
   cases h1:Aq i o1 with
   |none=>exact .inr ⟨hi,rfl⟩
   |some pe=>
    have:=hs i pe h1
    rw[hi] at this
    cases this
    exact .inl (hd i ob (by rw[hz];exact h1))
 exact⟨y,F',N',e1,q1,q2,e4,e5⟩
theorem Bq {i k:Nat} {z:Option Ob} {ob:Ob} {r:AJ} (h:Aq i ((k,z)::r)=some ob):(i=k∧z=some ob)∨(i≠k∧Aq i r=some ob):=by
 rw[AI] at h
 by_cases e:i=k
 ·rw[if_pos e] at h;exact .inl ⟨e,h⟩
 ·rw[if_neg e] at h;exact .inr ⟨e,h⟩
theorem Bb0 (b:Ak) (l:List Ae):0≤R7 b l∧R7 b l≤(b.length:Int):=by
 have z:(0:Int)≤0∧(0:Int)≤(b.length:Int):=⟨Int.le_refl _,by omega⟩
 unfold R7
 cases h3:Qr b l==0 with
 |false=>exact z
 | true=>
  have h3:Qr b l=0:=by simpa using h3
  have aj:∀i,i <l.length→O1 b l (CA b 32).2.1 i=false:=fun i hi=>by
   unfold Qr at h3
   cases hg:A1 l !=0 with
   |true=>rw[hg,cond_true] at h3;rw[h3] at hg;cases hg
   | false=>
    rw[hg,cond_false] at h3
    cases hk:UD b with
    |false=>rw[hk] at h3;cases h3
    |true=>
     rw[hk] at h3
     cases ha:JL l.length (fun i=>!O1 b l (CA b 32).2.1 i) with
     |true=>simpa using Fp.1 ha i hi
     |false=>rw[ha] at h3;cases h3
  exact Azb (JF b 32) l.length aj
theorem WG {b:Ak} (n:Nat) (_h:Ai b.length):Ai (b.drop n).length:=by
 unfold Ai at*
 rw[List.length_drop]
 omega
theorem A0o (n:Int) (l:List Ae) (k0 s0:Int) (pa:List Int) (u0 u1:Int) (bk:Bool):∀(m:Nat) (i:Int) (b:Ak) (bad:Bool) (rs:List AW),m=(n - i).toNat→0≤i→n≤256→(rs.length:Int)+m≤256→Ai b.length→
  A3 Hw FV Xy m (n,i,b,l,bad,k0,s0,pa,u0,u1,bk,rs)∧
  ∃i',Bj Hw FV m (n,i,b,l,bad,k0,s0,pa,u0,u1,bk,rs)=(n,i',(U1 (wG (T2 l)) m rs b bad).2.1,l,(U1 (wG (T2 l)) m rs b bad).2.2,k0,s0,pa,u0,u1,bk,(U1 (wG (T2 l)) m rs b bad).1)
 |0,i,b,bad,rs,hm,hi,hn,hl,hb=>by
  have hd:decide (i <n)=false:=decide_eq_false (by omega)
  have hf:∀q:Prop,(!!decide (i <n))=true→q:=fun q h=>by rw[hd] at h;cases h
  refine⟨⟨Aa (hf _) (Aa (hf _) (Aa (hf _) An)),?_⟩,i,rfl⟩
  show(!!decide (i <n)&&!(!!decide (i <n)&&bad))=false
  rw[hd]
  rfl
 | m+1,i,b,true,rs,hm,hi,hn,hl,hb=>by
  have hf:∀q:Prop,(!!decide (i <n))=true→(!true)=true→q:=fun q _ h=>by cases h
  have cp:Br (FV (n,i,b,l,true,k0,s0,pa,u0,u1,bk,rs))=false:=by
   show(!!decide (i <n)&&!(!!decide (i <n)&&true))=false
   cases decide (i <n)<;>rfl
  refine⟨⟨Aa (hf _) (Aa (hf _) (Aa (hf _) An)),fun h=>by rw[cp] at h;cases h⟩,i,?_⟩
  show(bif Br (FV (n,i,b,l,true,k0,s0,pa,u0,u1,bk,rs)) then _ else _)=_
  rw[cp]
  rfl
 | m+1,i,b,false,rs,hm,hi,hn,hl,hb=>by
  have ae:i <n:=by omega
  have hd:decide (i <n)=true:=decide_eq_true ae
  obtain⟨g1,g2⟩:=Bb0 b l
  have cp:Br (FV (n,i,b,l,false,k0,s0,pa,u0,u1,bk,rs))=true:=by
   show(!!decide (i <n)&&!(!!decide (i <n)&&false))=true
   rw[hd]
   rfl
  have hnx:Hw (n,i,b,l,false,k0,s0,pa,u0,u1,bk,rs)=(n,(i+1),(b.drop (R7 b l).toNat),l,(false||Qr b l !=0),k0,s0,pa,u0,u1,bk,(rs++[(T2 l b).1])):=by
   show(n,IntKind.i64.wrap (i+1),Y8 n i b l false k0 s0 pa u0 u1 bk rs,l,_,k0,s0,pa,u0,u1,bk,VX n i b l false k0 s0 pa u0 u1 bk rs)=_
   unfold Y8 VX
   rw[G3,i64_in (by omega)]
   rfl
  obtain⟨j1,i',j2⟩:=A0o n l k0 s0 pa u0 u1 bk m (i+1) (b.drop (R7 b l).toNat) (false||Qr b l !=0) (rs++[(T2 l b).1]) (by omega) (by omega) hn (by rw[List.length_append];simp only[List.length_cons,List.length_nil];omega) (WG _ hb)
  refine⟨⟨Aa (fun _ _=>hb) (Aa (fun _ _=>⟨g1,g2,Int.le_refl _⟩) (Aa (fun _ _=>by show Ai (rs.length+1);unfold Ai;omega) An)),fun _=>by rw[hnx];exact j1⟩,i',?_⟩
  show(bif Br (FV (n,i,b,l,false,k0,s0,pa,u0,u1,bk,rs)) then Bj Hw FV m (Hw (n,i,b,l,false,k0,s0,pa,u0,u1,bk,rs)) else _)=_
  rw[cp,hnx,cond_true,j2]
  rfl
theorem Azx (l:List Ae) (bad:Bool) (k0 s0 c0 c1 c2 c3 c4 c5 q0 o0:Int) (pa:List Int) (u0 u1:Int) (bk:Bool):∀(m:Nat) (b:Ak) (ss:List Ak),m=b.length / 32→Ai b.length→ss.length+m≤549755813888→
  A3 Hr Jr RW m (k0,s0,c0,c1,c2,c3,c4,c5,q0,o0,pa,u0,u1,bk,b,l,bad,ss)∧Bj Hr Jr m (k0,s0,c0,c1,c2,c3,c4,c5,q0,o0,pa,u0,u1,bk,b,l,bad,ss)=(k0,s0,c0,c1,c2,c3,c4,c5,q0,o0,pa,u0,u1,bk,(b.drop (32*(b.length / 32))),l,bad,(ss++dgs b))
 | 0,b,ss,hm,hb,hl=>by
  have ae:b.length <32:=by omega
  have j7:As k0 s0 c0 c1 c2 c3 c4 c5 q0 o0 pa u0 u1 bk b l bad ss=false:=by
   unfold As
   rw[decide_eq_false_iff_not]
   omega
  have h2:H4 k0 s0 c0 c1 c2 c3 c4 c5 q0 o0 pa u0 u1 bk b l bad ss=false:=by
   unfold H4
   rw[j7]
   rfl
  have hf:∀q:Prop,As k0 s0 c0 c1 c2 c3 c4 c5 q0 o0 pa u0 u1 bk b l bad ss=true→q:=fun q h=>by rw[j7] at h;cases h
  refine⟨⟨Aa (hf _) (Aa (hf _) (Aa (hf _) (Aa (fun h=>by rw[h2] at h;cases h) An))),h2⟩,?_⟩
  show(k0,s0,c0,c1,c2,c3,c4,c5,q0,o0,pa,u0,u1,bk,b,l,bad,ss)=_
  rw[Bbh ae,List.append_nil,Nat.div_eq_of_lt ae]
  rfl
 | m+1,b,ss,hm,hb,hl=>by
  have dm:32≤b.length:=by omega
  have hr:(0:Int)≤(32:Int)∧(32:Int)≤(b.length:Int)∧(b.length:Int)≤(b.length:Int):=by omega
  have j7:As k0 s0 c0 c1 c2 c3 c4 c5 q0 o0 pa u0 u1 bk b l bad ss=true:=by
   unfold As
   rw[decide_eq_true_eq]
   omega
  have h2:H4 k0 s0 c0 c1 c2 c3 c4 c5 q0 o0 pa u0 u1 bk b l bad ss=true:=by
   unfold H4
   rw[j7]
   rfl
  have ht:32≤(List.take 32 (List.drop 0 b)).length:=by rw[List.drop_zero,List.length_take];omega
  have hnx:Hr (k0,s0,c0,c1,c2,c3,c4,c5,q0,o0,pa,u0,u1,bk,b,l,bad,ss)=(k0,s0,c0,c1,c2,c3,c4,c5,q0,o0,pa,u0,u1,bk,(b.drop 32),l,bad,(ss++[b.take 32])):=by
   show(Yz k0 s0 c0 c1 c2 c3 c4 c5 q0 o0 pa u0 u1 bk b l bad ss,YA k0 s0 c0 c1 c2 c3 c4 c5 q0 o0 pa u0 u1 bk b l bad ss,YB k0 s0 c0 c1 c2 c3 c4 c5 q0 o0 pa u0 u1 bk b l bad ss,YC k0 s0 c0 c1 c2 c3 c4 c5 q0 o0 pa u0 u1 bk b l bad ss,YD k0 s0 c0 c1 c2 c3 c4 c5 q0 o0 pa u0 u1 bk b l bad ss,YE k0 s0 c0 c1 c2 c3 c4 c5 q0 o0 pa u0 u1 bk b l bad ss,YF k0 s0 c0 c1 c2 c3 c4 c5 q0 o0 pa u0 u1 bk b l bad ss,YG k0 s0 c0 c1 c2 c3 c4 c5 q0 o0 pa u0 u1 bk b l bad ss,YH k0 s0 c0 c1 c2 c3 c4 c5 q0 o0 pa u0 u1 bk b l bad ss,YI k0 s0 c0 c1 c2 c3 c4 c5 q0 o0 pa u0 u1 bk b l bad ss,Vw k0 s0 c0 c1 c2 c3 c4 c5 q0 o0 pa u0 u1 bk b l bad ss,Vx k0 s0 c0 c1 c2 c3 c4 c5 q0 o0 pa u0 u1 bk b l bad ss,Vy k0 s0 c0 c1 c2 c3 c4 c5 q0 o0 pa u0 u1 bk b l bad ss,Vz k0 s0 c0 c1 c2 c3 c4 c5 q0 o0 pa u0 u1 bk b l bad ss,VA k0 s0 c0 c1 c2 c3 c4 c5 q0 o0 pa u0 u1 bk b l bad ss,l,bad,VB k0 s0 c0 c1 c2 c3 c4 c5 q0 o0 pa u0 u1 bk b l bad ss)=_
   unfold Yz YA YB YC YD YE YF YG YH YI Vw Vx Vy Vz VA VB P9 Qa Qb Qc Qd Qe Qf Qg Qh M6 M7 M8 M9 Na Nb Nc Nd Nf Ng Nh Ni Nj Nk Nl Nn No Np Nq Nr Ns Nt Nu Nv Nw Ny Nz NA NB NC ND NE NF NG NH NI NJ NK
   simp only[j7,cond_true,Bdu]
   have e1:=Bkq ht
   rw[List.drop_zero,List.take_take] at e1
   rw[show List.take ((b.length:Int).toNat - 32) (List.drop 32 b)=b.drop 32 from List.take_of_length_le (by rw[List.length_drop];omega)]
   exact congrArg (fun z=>(k0,s0,c0,c1,c2,c3,c4,c5,q0,o0,pa,u0,u1,bk,b.drop 32,l,bad,ss++[z])) e1
  obtain⟨j1,j2⟩:=Azx l bad k0 s0 c0 c1 c2 c3 c4 c5 q0 o0 pa u0 u1 bk m (b.drop 32) (ss++[b.take 32]) (by rw[List.length_drop];omega) (WG _ hb) (by rw[List.length_append];simp only[List.length_cons,List.length_nil];omega)
  refine⟨⟨Aa (fun _=>⟨by omega,by omega,hr.2.1⟩) (Aa (fun _=>ht) (Aa (fun _=>by show Ai (ss.length+1);unfold Ai;omega) (Aa (fun _=>hr) An))),fun _=>by rw[hnx];exact j1⟩,?_⟩
  show(bif H4 k0 s0 c0 c1 c2 c3 c4 c5 q0 o0 pa u0 u1 bk b l bad ss then Bj Hr Jr m (Hr (k0,s0,c0,c1,c2,c3,c4,c5,q0,o0,pa,u0,u1,bk,b,l,bad,ss)) else _)=_
  rw[h2,hnx,cond_true,j2,A58 dm,List.drop_drop,List.append_assoc,List.length_drop,show 32+32*((b.length - 32) / 32)=32*(b.length / 32) by omega]
  rfl
def Ay3:List Int→Bool
 | []=>true
 |x::l=>decide (x=0)&&Ay3 l
theorem A1t {m:Int} (h:0≤m) (b:Ak) (bad:Bool):(Av m b bad).1≤m:=by
 show(bif decide (m <(Am b).1) then(0:Int) else(Am b).1)≤m
 cases hd:decide (m <(Am b).1) with
 |true=>exact h
 |false=>
  have:=of_decide_eq_false hd
  show(Am b).1≤m
  omega
theorem ZR (m:Int) {b:Ak} (bad:Bool) (h:Ai b.length):Ai (Av m b bad).2.1.length:=WG _ h
theorem Bkn (b:Ak) (l:List Ae) (bad:Bool) (k0 s0:Int) (p:List Int) (hb:Ai b.length):(∀q∈A7u b l bad k0 s0 p,q)∧Aq 5 (A7t b l bad k0 s0 p)=some (.arr 60 2 (.ty .row (Uf l 0 0 [] b bad).1.rows))∧Aq 1 (A7t b l bad k0 s0 p)=some (.box 68 [.sl .u8 (Uf l 0 0 [] b bad).2.1,.sl .group l,.v (.bool (Uf l 0 0 [] b bad).2.2)])∧Aq 2 (A7t b l bad k0 s0 p)=some (.box 34 [iV k0,iV s0,iV 0,iV 0,iV 0,iV 0,iV 0,iV 0,.v (.slice none 0 0),iV 0,iV 0,.sl .i64 p,.v (.slice none 0 0),.sq 5,iV ((Uf l 0 0 [] b bad).1.know.a),iV ((Uf l 0 0 [] b bad).1.know.b),.v (.bool (Uf l 0 0 [] b bad).1.back)]):=by
 have gv:=NN b
 have hb1:=WG (Ah b).2.1.toNat hb
 have hb2:=ZR 256 (Av 1 (b.drop (Ah b).2.1.toNat) (bad||(Ah b).2.2 !=0)).2.2 (ZR 1 (bad||(Ah b).2.2 !=0) hb1)
 have hn:=A1t (m:=256) (by decide) (Av 1 (b.drop (Ah b).2.1.toNat) (bad||(Ah b).2.2 !=0)).2.1 (Av 1 (b.drop (Ah b).2.1.toNat) (bad||(Ah b).2.2 !=0)).2.2
 obtain⟨q1,i',q2⟩:=A0o _ l k0 s0 p (Ah b).1.a (Ah b).1.b ((Av 1 (b.drop (Ah b).2.1.toNat) (bad||(Ah b).2.2 !=0)).1==1) _ 0 (Av 256 (Av 1 (b.drop (Ah b).2.1.toNat) (bad||(Ah b).2.2 !=0)).2.1 (Av 1 (b.drop (Ah b).2.1.toNat) (bad||(Ah b).2.2 !=0)).2.2).2.1 (Av 256 (Av 1 (b.drop (Ah b).2.1.toNat) (bad||(Ah b).2.2 !=0)).2.1 (Av 1 (b.drop (Ah b).2.1.toNat) (bad||(Ah b).2.2 !=0)).2.2).2.2 [] rfl (Int.le_refl _) hn (by simp only[List.length_nil];omega) hb2
 have hk:FM ((Av (256:Int) (Av (1:Int) (List.take ((b.length:Int).toNat - (Ah b).2.1.toNat) (List.drop (Ah b).2.1.toNat b)) (bad||(Ah b).2.2 !=(0:Int))).2.1 (Av (1:Int) (List.take ((b.length:Int).toNat - (Ah b).2.1.toNat) (List.drop (Ah b).2.1.toNat b)) (bad||(Ah b).2.2 !=(0:Int))).2.2).1,(0:Int),(Av (256:Int) (Av (1:Int) (List.take ((b.length:Int).toNat - (Ah b).2.1.toNat) (List.drop (Ah b).2.1.toNat b)) (bad||(Ah b).2.2 !=(0:Int))).2.1 (Av (1:Int) (List.take ((b.length:Int).toNat - (Ah b).2.1.toNat) (List.drop (Ah b).2.1.toNat b)) (bad||(Ah b).2.2 !=(0:Int))).2.2).2.1,l,(Av (256:Int) (Av (1:Int) (List.take ((b.length:Int).toNat - (Ah b).2.1.toNat) (List.drop (Ah b).2.1.toNat b)) (bad||(Ah b).2.2 !=(0:Int))).2.1 (Av (1:Int) (List.take ((b.length:Int).toNat - (Ah b).2.1.toNat) (List.drop (Ah b).2.1.toNat b)) (bad||(Ah b).2.2 !=(0:Int))).2.2).2.2,k0,s0,p,(Ah b).1.1,(Ah b).1.2,(Av (1:Int) (List.take ((b.length:Int).toNat - (Ah b).2.1.toNat) (List.drop (Ah b).2.1.toNat b)) (bad||(Ah b).2.2 !=(0:Int))).1==(1:Int),[])=((Av 256 (Av 1 (b.drop (Ah b).2.1.toNat) (bad||(Ah b).2.2 !=0)).2.1 (Av 1 (b.drop (Ah b).2.1.toNat) (bad||(Ah b).2.2 !=0)).2.2).1,i',(U1 (wG (T2 l)) ((Av 256 (Av 1 (b.drop (Ah b).2.1.toNat) (bad||(Ah b).2.2 !=0)).2.1 (Av 1 (b.drop (Ah b).2.1.toNat) (bad||(Ah b).2.2 !=0)).2.2).1 - 0).toNat [] (Av 256 (Av 1 (b.drop (Ah b).2.1.toNat) (bad||(Ah b).2.2 !=0)).2.1 (Av 1 (b.drop (Ah b).2.1.toNat) (bad||(Ah b).2.2 !=0)).2.2).2.1 (Av 256 (Av 1 (b.drop (Ah b).2.1.toNat) (bad||(Ah b).2.2 !=0)).2.1 (Av 1 (b.drop (Ah b).2.1.toNat) (bad||(Ah b).2.2 !=0)).2.2).2.2).2.1,l,(U1 (wG (T2 l)) ((Av 256 (Av 1 (b.drop (Ah b).2.1.toNat) (bad||(Ah b).2.2 !=0)).2.1 (Av 1 (b.drop (Ah b).2.1.toNat) (bad||(Ah b).2.2 !=0)).2.2).1 - 0).toNat [] (Av 256 (Av 1 (b.drop (Ah b).2.1.toNat) (bad||(Ah b).2.2 !=0)).2.1 (Av 1 (b.drop (Ah b).2.1.toNat) (bad||(Ah b).2.2 !=0)).2.2).2.1 (Av 256 (Av 1 (b.drop (Ah b).2.1.toNat) (bad||(Ah b).2.2 !=0)).2.1 (Av 1 (b.drop (Ah b).2.1.toNat) (bad||(Ah b).2.2 !=0)).2.2).2.2).2.2,k0,s0,p,(Ah b).1.a,(Ah b).1.b,(Av 1 (b.drop (Ah b).2.1.toNat) (bad||(Ah b).2.2 !=0)).1==1,(U1 (wG (T2 l)) ((Av 256 (Av 1 (b.drop (Ah b).2.1.toNat) (bad||(Ah b).2.2 !=0)).2.1 (Av 1 (b.drop (Ah b).2.1.toNat) (bad||(Ah b).2.2 !=0)).2.2).1 - 0).toNat [] (Av 256 (Av 1 (b.drop (Ah b).2.1.toNat) (bad||(Ah b).2.2 !=0)).2.1 (Av 1 (b.drop (Ah b).2.1.toNat) (bad||(Ah b).2.2 !=0)).2.2).2.1 (Av 256 (Av 1 (b.drop (Ah b).2.1.toNat) (bad||(Ah b).2.2 !=0)).2.1 (Av 1 (b.drop (Ah b).2.1.toNat) (bad||(Ah b).2.2 !=0)).2.2).2.2).1):=by
  rw[G3]
  exact q2
 have ps:∀q∈A7u b l bad k0 s0 p,q:=by
  refine Aa ⟨gv.1,gv.2,Int.le_refl _⟩ (Aa ?_ An)
  rw[G3]
  exact q1
 rw[Int.sub_zero] at hk
 refine⟨ps,?_,?_,?_⟩
 ·show some (Ob.arr 60 2 (.ty .row (Bhm b l bad k0 s0 p)))=_
  unfold Bhm NR Ass Afw Afv Ak4 Asy Asx Asw Asv Asu Ast
  simp only[hk,Bool.cond_self]
  rfl
 ·show some (Ob.box 68 [.sl .u8 (Bhn b l bad k0 s0 p),.sl .group (Bho b l bad k0 s0 p),.v (.bool (Bhp b l bad k0 s0 p))])=_
  unfold Bhn Bho Bhp NR Afw Afv Ak4 Asy Asx Asw Asv Asu Ast Ass
  simp only[hk,Bool.cond_self]
  rfl
 ·show some (Ob.box 34 [iV ((Bhq b l bad k0 s0 p)),iV ((Bhr b l bad k0 s0 p)),iV ((KY b l bad k0 s0 p)),iV ((KY b l bad k0 s0 p)),iV ((KY b l bad k0 s0 p)),iV ((KY b l bad k0 s0 p)),iV ((KY b l bad k0 s0 p)),iV ((KY b l bad k0 s0 p)),.v (.slice none 0 0),iV ((KY b l bad k0 s0 p)),iV ((KY b l bad k0 s0 p)),.sl .i64 (A7p b l bad k0 s0 p),.v (.slice none 0 0),.sq 5,iV ((A7q b l bad k0 s0 p)),iV ((A7r b l bad k0 s0 p)),.v (.bool (A7s b l bad k0 s0 p))])=_
  unfold Bhq Bhr A7p A7q A7r A7s KY NR Asy Asx Asw Asv Asu Ast Afw Afv Ak4 Ass
  simp only[hk,Bool.cond_self]
  rfl
def Bfj:HU
 | [.own 1 0,.own 2 0],5,o=>match Aq 1 o,Aq 2 o,Aq 4 o with
  |some (.box t1 [.sl .u8 b,.sl .group l,.v (.bool bad)]),some (.box t2 [.v (.int .i64 k0),.v (.int .i64 s0),.v (.int .i64 c0),.v (.int .i64 c1),.v (.int .i64 c2),.v (.int .i64 c3),.v (.int .i64 c4),.v (.int .i64 c5),.v (.slice none 0 0),.v (.int .i64 q0),.v (.int .i64 o0),.sq 4,.v (.slice none 0 0),.v (.slice none 0 0),.v (.int .i64 u0),.v (.int .i64 u1),.v (.bool bk)]),some (.arr t3 1 (.ty .i64 p))=>bif(Nat.beq t1 68&&(Nat.beq t2 34&&Nat.beq t3 3))&&(Ay3 [c0,c1,c2,c3,c4,c5,q0,o0,u0,u1]&&!bk) then some (2,.v (.tuple ⟨[]⟩),6,(5,some (.arr 60 2 (.ty .row (Uf l 0 0 [] b bad).1.rows)))::(1,some (.box 68 [.sl .u8 (Uf l 0 0 [] b bad).2.1,.sl .group l,.v (.bool (Uf l 0 0 [] b bad).2.2)]))::(2,some (.box 34 [.v (.int .i64 k0),.v (.int .i64 s0),.v (.int .i64 0),.v (.int .i64 0),.v (.int .i64 0),.v (.int .i64 0),.v (.int .i64 0),.v (.int .i64 0),.v (.slice none 0 0),.v (.int .i64 0),.v (.int .i64 0),.sl .i64 p,.v (.slice none 0 0),.sq 5,.v (.int .i64 (Uf l 0 0 [] b bad).1.know.a),.v (.int .i64 (Uf l 0 0 [] b bad).1.know.b),.v (.bool (Uf l 0 0 [] b bad).1.back)]))::(4,none)::o,[Ai b.length]) else none
  |_,_,_=>none
 |_,_,_=>none
theorem A3a:IE Bb 24 Bfj:=fun args nx o k x nx' o' ps h=>by
 unfold Bfj at h
 split at h<;>try (cases h;done)
 ·split at h<;>try (cases h;done)
  rename_i t1 b l bad t2 k0 s0 c0 c1 c2 c3 c4 c5 q0 o0 u0 u1 bk t3 p e1 e2 e4
  cases hb:(Nat.beq t1 68&&(Nat.beq t2 34&&Nat.beq t3 3))&&(Ay3 [c0,c1,c2,c3,c4,c5,q0,o0,u0,u1]&&!bk) with
  |false=>rw[hb] at h;cases h
  | true=>
   rw[hb] at h
   simp only[Ay3,Bool.and_eq_true,decide_eq_true_eq,Bool.not_eq_true'] at hb
   obtain⟨⟨r1,r2,r3⟩,⟨rfl,rfl,rfl,rfl,rfl,rfl,rfl,rfl,rfl,rfl,_⟩,rfl⟩:=hb
   obtain rfl:=Nat.eq_of_beq_eq_true r1
   obtain rfl:=Nat.eq_of_beq_eq_true r2
   obtain rfl:=Nat.eq_of_beq_eq_true r3
   cases h
   refine⟨fun hp=>?_,[_,_,_,_],rfl⟩
   obtain⟨h1,L5,L1,L2⟩:=Bkn b l bad k0 s0 p (hp _ (List.mem_cons_self ..))
   refine Ad7 (d:=(5,some (.arr 60 2 (.ty .row (Uf l 0 0 [] b bad).1.rows)))::(1,some (.box 68 [.sl .u8 (Uf l 0 0 [] b bad).2.1,.sl .group l,.v (.bool (Uf l 0 0 [] b bad).2.2)]))::(2,some (.box 34 [.v (.int .i64 k0),.v (.int .i64 s0),.v (.int .i64 0),.v (.int .i64 0),.v (.int .i64 0),.v (.int .i64 0),.v (.int .i64 0),.v (.int .i64 0),.v (.slice none 0 0),.v (.int .i64 0),.v (.int .i64 0),.sl .i64 p,.v (.slice none 0 0),.sq 5,.v (.int .i64 (Uf l 0 0 [] b bad).1.know.a),.v (.int .i64 (Uf l 0 0 [] b bad).1.know.b),.v (.bool (Uf l 0 0 [] b bad).1.back)]))::(4,none)::[]) (Bl8 b l bad k0 s0 p h1) ?_ ?_
   ·intro i ob hi
    rcases Bq hi with⟨e0,e⟩|⟨n5,hi⟩
    ·rw[e0,←e];exact L5
    rcases Bq hi with⟨e0,e⟩|⟨n1,hi⟩
    ·rw[e0,←e];exact L1
    rcases Bq hi with⟨e0,e⟩|⟨n2,hi⟩
    ·rw[e0,←e];exact L2
    rcases Bq hi with⟨_,e⟩|⟨n4,hi⟩
    ·cases e
    rcases Bq hi with⟨e0,e⟩|⟨_,hi⟩
    ·exact absurd e0 n1
    rcases Bq hi with⟨e0,e⟩|⟨_,hi⟩
    ·exact absurd e0 n2
    rcases Bq hi with⟨e0,e⟩|⟨_,hi⟩
    ·exact absurd e0 n4
    cases hi
   ·intro i ob hi
    rcases Bq hi with⟨e0,e⟩|⟨_,hi⟩
    ·rw[e0,←e];exact e1
    rcases Bq hi with⟨e0,e⟩|⟨_,hi⟩
    ·rw[e0,←e];exact e2
    rcases Bq hi with⟨e0,e⟩|⟨_,hi⟩
    ·rw[e0,←e];exact e4
    cases hi
def Bf0:=Gi A3a Cdh
theorem Bj0 (b:Ak) (l:List Ae) (bad:Bool) (k0 s0:Int) (p:List Int) (hb:Ai b.length):(∀q∈A57 b l bad k0 s0 p,q)∧Aq 7 (Awj b l bad k0 s0 p)=some (.arr 56 32 (.ty .digest (dgs b)))∧Aq 6 (Awj b l bad k0 s0 p)=some (.lp 8 3 [11] [.own 2 0] 0)∧Aq 2 (Awj b l bad k0 s0 p)=some (.box 34 [iV k0,iV s0,iV 0,iV 0,iV 0,iV 0,iV 0,iV 0,.v (.slice none 0 0),iV 0,iV 0,.sl .i64 p,.sq 7,.v (.slice none 0 0),iV 0,iV 0,.v (.bool false)])∧Aq 1 (Awj b l bad k0 s0 p)=some (.box 68 [.sl .u8 (b.drop (32*(b.length / 32))),.sl .group l,.v (.bool bad)])∧Aq 5 (Awj b l bad k0 s0 p)=some (.box 66 [.own 1 0]):=by
 have aq:=hb
 unfold Ai at aq
 obtain⟨q1,q2⟩:=Azx l bad k0 s0 0 0 0 0 0 0 0 0 p 0 0 false _ b [] rfl hb (by simp only[List.length_nil];omega)
 have hk:C2 (k0,s0,(0:Int),(0:Int),(0:Int),(0:Int),(0:Int),(0:Int),(0:Int),(0:Int),p,(0:Int),(0:Int),false,b,l,bad,[])=_:=q2
 have ps:∀q∈A57 b l bad k0 s0 p,q:=Aa q1 An
 have ae:(b.drop (32*(b.length / 32))).length <32:=by rw[List.length_drop];omega
 have j7:∀ss,As k0 s0 0 0 0 0 0 0 0 0 p 0 0 false (b.drop (32*(b.length / 32))) l bad ss=false:=fun ss=>by
  unfold As
  rw[decide_eq_false_iff_not]
  omega
 refine⟨ps,?_,rfl,?_,?_,rfl⟩
 ·show some (Ob.arr 56 32 (.ty .digest (Bgq b l bad k0 s0 p)))=_
  unfold Bgq Am5 Am4 Am3 Am2 Am1 Am0 Amz Amy Azv Azu Azt Azs Azr Azq JP Aro Akq A55
  simp only[hk]
  unfold VQ P9
  simp only[j7,cond_false,List.nil_append]
 ·show some (Ob.box 34 [iV ((Bgr b l bad k0 s0 p)),iV ((Bgs b l bad k0 s0 p)),iV ((Bgt b l bad k0 s0 p)),iV ((Bgu b l bad k0 s0 p)),iV ((Bgv b l bad k0 s0 p)),iV ((Bgw b l bad k0 s0 p)),iV ((Bgx b l bad k0 s0 p)),iV ((Bgy b l bad k0 s0 p)),.v (.slice none 0 0),iV ((Bgz b l bad k0 s0 p)),iV ((A5y b l bad k0 s0 p)),.sl .i64 (A5z b l bad k0 s0 p),.sq 7,.v (.slice none 0 0),iV ((A50 b l bad k0 s0 p)),iV ((A51 b l bad k0 s0 p)),.v (.bool (A52 b l bad k0 s0 p))])=_
  unfold Bgr Bgs Bgt Bgu Bgv Bgw Bgx Bgy Bgz A5y A5z A50 A51 A52 Am5 Am4 Am3 Am2 Am1 Am0 Amz Amy Azv Azu Azt Azs Azr Azq JP Aro Akq A55
  simp only[hk]
  unfold VC VD VE VF VG VH VI VJ VK VL VM VN VO VP Qa Qb Qc Qd Qe Qf Qg Qh M6 M7 M8 M9 Na Nb
  simp only[Bool.cond_self]
 ·show some (Ob.box 68 [.sl .u8 (A53 b l bad k0 s0 p),.sl .group (A54 b l bad k0 s0 p),.v (.bool (Akq b l bad k0 s0 p))])=_
  unfold A53 A54 Akq JP Aro
  simp only[hk]
def Be9:HU
 | [.yl 6,.own 5 0],7,o=>match Aq 1 o,Aq 2 o,Aq 4 o,Aq 5 o,Aq 6 o with
  |some (.box t1 [.sl .u8 b,.sl .group l,.v (.bool bad)]),some (.box t2 [.v (.int .i64 k0),.v (.int .i64 s0),.v (.int .i64 c0),.v (.int .i64 c1),.v (.int .i64 c2),.v (.int .i64 c3),.v (.int .i64 c4),.v (.int .i64 c5),.v (.slice none 0 0),.v (.int .i64 q0),.v (.int .i64 o0),.sq 4,.v (.slice none 0 0),.v (.slice none 0 0),.v (.int .i64 u0),.v (.int .i64 u1),.v (.bool bk)]),some (.arr t3 1 (.ty .i64 p)),some (.box t4 [.own 1 0]),some (.lp f b3 [11] [.own 2 0] 0)=>bif((Nat.beq t1 68&&(Nat.beq t2 34&&Nat.beq t3 3))&&(Nat.beq t4 66&&(Nat.beq f 8&&Nat.beq b3 3)))&&(Ay3 [c0,c1,c2,c3,c4,c5,q0,o0,u0,u1]&&!bk) then some (2,.v (.tuple ⟨[]⟩),8,(7,some (.arr 56 32 (.ty .digest (dgs b))))::(6,some (.lp 8 3 [11] [.own 2 0] 0))::(2,some (.box 34 [.v (.int .i64 k0),.v (.int .i64 s0),.v (.int .i64 0),.v (.int .i64 0),.v (.int .i64 0),.v (.int .i64 0),.v (.int .i64 0),.v (.int .i64 0),.v (.slice none 0 0),.v (.int .i64 0),.v (.int .i64 0),.sl .i64 p,.sq 7,.v (.slice none 0 0),.v (.int .i64 0),.v (.int .i64 0),.v (.bool false)]))::(1,some (.box 68 [.sl .u8 (b.drop (32*(b.length / 32))),.sl .group l,.v (.bool bad)]))::(4,none)::o,[Ai b.length]) else none
  |_,_,_,_,_=>none
 |_,_,_=>none
theorem A2m:IE Bb 53 Be9:=fun args nx o k x nx' o' ps h=>by
 unfold Be9 at h
 split at h<;>try (cases h;done)
 ·split at h<;>try (cases h;done)
  rename_i t1 b l bad t2 k0 s0 c0 c1 c2 c3 c4 c5 q0 o0 u0 u1 bk t3 p t4 f b3 e1 e2 e4 e5 e6
  cases hb:((Nat.beq t1 68&&(Nat.beq t2 34&&Nat.beq t3 3))&&(Nat.beq t4 66&&(Nat.beq f 8&&Nat.beq b3 3)))&&(Ay3 [c0,c1,c2,c3,c4,c5,q0,o0,u0,u1]&&!bk) with
  |false=>rw[hb] at h;cases h
  | true=>
   rw[hb] at h
   simp only[Ay3,Bool.and_eq_true,decide_eq_true_eq,Bool.not_eq_true'] at hb
   obtain⟨⟨⟨r1,r2,r3⟩,r4,r5,r6⟩,⟨rfl,rfl,rfl,rfl,rfl,rfl,rfl,rfl,rfl,rfl,_⟩,rfl⟩:=hb
   obtain rfl:=Nat.eq_of_beq_eq_true r1
   obtain rfl:=Nat.eq_of_beq_eq_true r2
   obtain rfl:=Nat.eq_of_beq_eq_true r3
   obtain rfl:=Nat.eq_of_beq_eq_true r4
   obtain rfl:=Nat.eq_of_beq_eq_true r5
   obtain rfl:=Nat.eq_of_beq_eq_true r6
   cases h
   refine⟨fun hp=>?_,[_,_,_,_,_],rfl⟩
   obtain⟨h1,L7,L6,L2,L1,L5⟩:=Bj0 b l bad k0 s0 p (hp _ (List.mem_cons_self ..))
   refine Ad7 (d:=(7,some (.arr 56 32 (.ty .digest (dgs b))))::(6,some (.lp 8 3 [11] [.own 2 0] 0))::(2,some (.box 34 [.v (.int .i64 k0),.v (.int .i64 s0),.v (.int .i64 0),.v (.int .i64 0),.v (.int .i64 0),.v (.int .i64 0),.v (.int .i64 0),.v (.int .i64 0),.v (.slice none 0 0),.v (.int .i64 0),.v (.int .i64 0),.sl .i64 p,.sq 7,.v (.slice none 0 0),.v (.int .i64 0),.v (.int .i64 0),.v (.bool false)]))::(1,some (.box 68 [.sl .u8 (b.drop (32*(b.length / 32))),.sl .group l,.v (.bool bad)]))::(4,none)::[]) (Bl1 b l bad k0 s0 p h1) ?_ ?_
   ·intro i ob hi
    rcases Bq hi with⟨e0,e⟩|⟨n7,hi⟩
    ·rw[e0,←e];exact L7
    rcases Bq hi with⟨e0,e⟩|⟨n6,hi⟩
    ·rw[e0,←e];exact L6
    rcases Bq hi with⟨e0,e⟩|⟨n2,hi⟩
    ·rw[e0,←e];exact L2
    rcases Bq hi with⟨e0,e⟩|⟨n1,hi⟩
    ·rw[e0,←e];exact L1
    rcases Bq hi with⟨_,e⟩|⟨n4,hi⟩
    ·cases e
    rcases Bq hi with⟨e0,e⟩|⟨_,hi⟩
    ·exact absurd e0 n1
    rcases Bq hi with⟨e0,e⟩|⟨_,hi⟩
    ·exact absurd e0 n2
    rcases Bq hi with⟨e0,e⟩|⟨_,hi⟩
    ·exact absurd e0 n4
    rcases Bq hi with⟨e0,e⟩|⟨_,hi⟩
    ·rw[e0,←e];exact L5
    rcases Bq hi with⟨e0,e⟩|⟨_,hi⟩
    ·exact absurd e0 n6
    cases hi
   ·intro i ob hi
    rcases Bq hi with⟨e0,e⟩|⟨_,hi⟩
    ·rw[e0,←e];exact e1
    rcases Bq hi with⟨e0,e⟩|⟨_,hi⟩
    ·rw[e0,←e];exact e2
    rcases Bq hi with⟨e0,e⟩|⟨_,hi⟩
    ·rw[e0,←e];exact e4
    rcases Bq hi with⟨e0,e⟩|⟨_,hi⟩
    ·rw[e0,←e];exact e5
    rcases Bq hi with⟨e0,e⟩|⟨_,hi⟩
    ·rw[e0,←e];exact e6
    cases hi
def Bf1:=Gi A2m Bf0
abbrev Bi8:=Bf1
def Bek:=Gi (JV (AU Bi8.2 A9) 20 23) Bi8
def Aqg:=Gi (JV (AU Bek.2 A9) 20 25) Bek
def KA:=aRf 3 (Bh6 Aqg.2 8 3 (.tmp 65) [11]) ⟨L0,A9⟩
abbrev Cr:Type:=Int×Int×Ak×(List Ae)×Bool×Int×Int×(List Int)
def PS:Cr→St
  |(a0,a1,a2,a3,a4,a5,a6,a7)=>⟨119,5,[(10,.own 1 0),(11,.own 2 0),(48,.v (.int .i64 a0)),(49,.v (.int .i64 a1))],[(1,some (.box 68 [.sl .u8 a2,.sl .group a3,.v (.bool a4)])),(2,some (.box 34 [.v (.int .i64 a5),.v (.int .i64 a6),.v (.int .i64 0),.v (.int .i64 0),.v (.int .i64 0),.v (.int .i64 0),.v (.int .i64 0),.v (.int .i64 0),.v (.slice none 0 0),.v (.int .i64 0),.v (.int .i64 0),.sq 4,.v (.slice none 0 0),.v (.slice none 0 0),.v (.int .i64 0),.v (.int .i64 0),.v (.bool (false))])),(4,some (.arr 3 1 (.ty .i64 a7)))]⟩
def J8:St→Option Cr
 |⟨119,5,[(10,.own 1 0),(11,.own 2 0),(48,.v (.int .i64 z0)),(49,.v (.int .i64 z1))],[(1,some (.box 68 [.sl .u8 z2,.sl .group z3,.v (.bool z4)])),(2,some (.box 34 [.v (.int .i64 z5),.v (.int .i64 z6),.v (.int .i64 (w0)),.v (.int .i64 (w1)),.v (.int .i64 (w2)),.v (.int .i64 (w3)),.v (.int .i64 (w4)),.v (.int .i64 (w5)),.v (.slice none 0 0),.v (.int .i64 (w6)),.v (.int .i64 (w7)),.sq 4,.v (.slice none 0 0),.v (.slice none 0 0),.v (.int .i64 (w8)),.v (.int .i64 (w9)),.v (.bool (false))])),(4,some (.arr 3 1 (.ty .i64 z7)))]⟩=>if w0=0∧w1=0∧w2=0∧w3=0∧w4=0∧w5=0∧w6=0∧w7=0∧w8=0∧w9=0 then some (z0,z1,z2,z3,z4,z5,z6,z7) else none
 |_=>none
theorem Uh:∀s x,J8 s=some x→s=PS x:=fun s x h=>by
 unfold J8 at h
 split at h
 ·split at h
  ·rename_i hw
   obtain⟨rfl,rfl,rfl,rfl,rfl,rfl,rfl,rfl,rfl,rfl⟩:=hw
   cases h;rfl
  ·cases h
 ·cases h
def ZT:E2:=⟨4,5,[10,11,48,49],[],[(1,1),(2,2),(6,4)],[1,2,6],[],[1,2,4]⟩
def ZS:Fz:=⟨[.nilB 2 11 3 .i64],[(1,1),(2,2),(3,4)],[10,11,48,49],[1,2,3]⟩
def Wr (a2:Ak) (a4:Bool):Ak:=(Av 15 a2 a4).2.1
def Ws (a2:Ak) (a4:Bool) (a7:List Int):List Int:=a7++[(Av 15 a2 a4).1]
def BL:Cr→Cr
  |(a0,a1,a2,a3,a4,a5,a6,a7)=>(a0,IntKind.i64.wrap (a1+1),Wr a2 a4,a3,(Av 15 a2 a4).2.2,a5,a6,Ws a2 a4 a7)
def BK (x:Cr):DB:=some (!!decide (x.2.1 <x.1))
def MM (x:Cr):List Prop:=[((!!decide (x.2.1 <x.1))=true→Ai (x.2.2.2.2.2.2.2.length+1))]
abbrev GL:Cr→List Prop:=MM
def Ug:Cr→BG
  |(a0,a1,a2,a3,a4,a5,a6,a7)=>[(some 1,some (!decide (a1 <a0)),⟨119,5,[],[(1,some (.box 68 [.sl .u8 a2,.sl .group a3,.v (.bool a4)])),(2,some (.box 34 [.v (.int .i64 a5),.v (.int .i64 a6),.v (.int .i64 0),.v (.int .i64 0),.v (.int .i64 0),.v (.int .i64 0),.v (.int .i64 0),.v (.int .i64 0),.v (.slice none 0 0),.v (.int .i64 0),.v (.int .i64 0),.sq 4,.v (.slice none 0 0),.v (.slice none 0 0),.v (.int .i64 0),.v (.int .i64 0),.v (.bool (false))])),(4,some (.arr 3 1 (.ty .i64 a7)))]⟩)]
def Fv (x:Cr):Nat:=(x.1 - x.2.1).toNat
def AP (x:Cr):Cr:=Bj BL BK (Fv x) x
set_option maxHeartbeats 8000000 in
def Wt:=Jg (CP Aqg.1 KA.1) (AQ Bb 8 1) ZT ZS J8 Fv BL BK GL Ug
def PR:=WA 1 (g:=Wt) (CR (T:=PS) (psA:=MM) Aqg.2 KA.2 (u:=9) (by kernel_rfl) (by decide) (fun⟨a0,a1,a2,a3,a4,a5,a6,a7⟩=>by kernel_rfl) (fun _ h=>h) Uh (fun _=>Bm (n:=119) rfl) fun _ _=>rfl) KA
def AD (a1:Ak):Bool:=GG a1 !=0
def AB (a0:List Ae):Bool:=A1 a0 !=0
def Ay (a1:Ak):Bool:=(Av 5 (Az a1) (AA a1 !=(a1.length:Int))).1==2
def Au (a1:Ak):Bool:=(Av 5 (Az a1) (AA a1 !=(a1.length:Int))).1==1
def Ag (a1:Ak):Bool:=(Av 2 (Av 5 (Az a1) (AA a1 !=(a1.length:Int))).2.1 (Av 5 (Az a1) (AA a1 !=(a1.length:Int))).2.2).2.2
def Ad (a1:Ak):Ak:=(Av 2 (Av 5 (Az a1) (AA a1 !=(a1.length:Int))).2.1 (Av 5 (Az a1) (AA a1 !=(a1.length:Int))).2.2).2.1
def CH (a1:Ak):Int:=(↑(Ad a1).length:Int)
def BN (a0:List Ae) (a1:Ak):Int:=(Dx a0 (Ad a1)).2.1
def AK (a0:List Ae) (a1:Ak):Ak:=(AP ((Av 2 (Ad a1) (Ag a1)).1,0,(Av 2 (Ad a1) (Ag a1)).2.1,a0,(Av 2 (Ad a1) (Ag a1)).2.2,(Av 5 (Az a1) (AA a1 !=(a1.length:Int))).1,(Av 2 (Av 5 (Az a1) (AA a1 !=(a1.length:Int))).2.1 (Av 5 (Az a1) (AA a1 !=(a1.length:Int))).2.2).1,[])).2.2.1
def Be (a0:List Ae) (a1:Ak):Bool:=(AP ((Av 2 (Ad a1) (Ag a1)).1,0,(Av 2 (Ad a1) (Ag a1)).2.1,a0,(Av 2 (Ad a1) (Ag a1)).2.2,(Av 5 (Az a1) (AA a1 !=(a1.length:Int))).1,(Av 2 (Av 5 (Az a1) (AA a1 !=(a1.length:Int))).2.1 (Av 5 (Az a1) (AA a1 !=(a1.length:Int))).2.2).1,[])).2.2.2.2.1
def Em (a0:List Ae) (a1:Ak):Bool:=(AP ((Av 2 (Ad a1) (Ag a1)).1,0,(Av 2 (Ad a1) (Ag a1)).2.1,a0,(Av 2 (Ad a1) (Ag a1)).2.2,(Av 5 (Az a1) (AA a1 !=(a1.length:Int))).1,(Av 2 (Av 5 (Az a1) (AA a1 !=(a1.length:Int))).2.1 (Av 5 (Az a1) (AA a1 !=(a1.length:Int))).2.2).1,[])).2.2.2.2.2.1==5
def AC (a0:List Ae) (a1:Ak):Bool:=!(Au a1)&&(!(Ay a1)&&(Em a0 a1))
def BF (a0:List Ae) (a1:Ak):List AW:=bif(AC a0 a1) then(Uf (AP ((Av 2 (Ad a1) (Ag a1)).1,0,(Av 2 (Ad a1) (Ag a1)).2.1,a0,(Av 2 (Ad a1) (Ag a1)).2.2,(Av 5 (Az a1) (AA a1 !=(a1.length:Int))).1,(Av 2 (Av 5 (Az a1) (AA a1 !=(a1.length:Int))).2.1 (Av 5 (Az a1) (AA a1 !=(a1.length:Int))).2.2).1,[])).2.2.2.1 0 0 [] (AK a0 a1) (Be a0 a1)).1.8 else[]
def BE (a0:List Ae) (a1:Ak):List AY:=bif(AC a0 a1) then[] else bif(Au a1) then(Dx a0 (Ad a1)).1.5 else[]
def BD (a0:List Ae) (a1:Ak):Bool:=bif(AC a0 a1) then(Uf (AP ((Av 2 (Ad a1) (Ag a1)).1,0,(Av 2 (Ad a1) (Ag a1)).2.1,a0,(Av 2 (Ad a1) (Ag a1)).2.2,(Av 5 (Az a1) (AA a1 !=(a1.length:Int))).1,(Av 2 (Av 5 (Az a1) (AA a1 !=(a1.length:Int))).2.1 (Av 5 (Az a1) (AA a1 !=(a1.length:Int))).2.2).1,[])).2.2.2.1 0 0 [] (AK a0 a1) (Be a0 a1)).1.10 else bif(Au a1) then false else bif(Ay a1) then false else false
def BC (a0:List Ae) (a1:Ak):Int:=bif(AC a0 a1) then(Uf (AP ((Av 2 (Ad a1) (Ag a1)).1,0,(Av 2 (Ad a1) (Ag a1)).2.1,a0,(Av 2 (Ad a1) (Ag a1)).2.2,(Av 5 (Az a1) (AA a1 !=(a1.length:Int))).1,(Av 2 (Av 5 (Az a1) (AA a1 !=(a1.length:Int))).2.1 (Av 5 (Az a1) (AA a1 !=(a1.length:Int))).2.2).1,[])).2.2.2.1 0 0 [] (AK a0 a1) (Be a0 a1)).1.9.2 else bif(Au a1) then 0 else bif(Ay a1) then 0 else 0
def BB (a0:List Ae) (a1:Ak):Int:=bif(AC a0 a1) then(Uf (AP ((Av 2 (Ad a1) (Ag a1)).1,0,(Av 2 (Ad a1) (Ag a1)).2.1,a0,(Av 2 (Ad a1) (Ag a1)).2.2,(Av 5 (Az a1) (AA a1 !=(a1.length:Int))).1,(Av 2 (Av 5 (Az a1) (AA a1 !=(a1.length:Int))).2.1 (Av 5 (Az a1) (AA a1 !=(a1.length:Int))).2.2).1,[])).2.2.2.1 0 0 [] (AK a0 a1) (Be a0 a1)).1.9.1 else bif(Au a1) then 0 else bif(Ay a1) then 0 else 0
def BA (a0:List Ae) (a1:Ak):Int:=bif(AC a0 a1) then 0 else bif(Au a1) then(Dx a0 (Ad a1)).1.4.2 else bif(Ay a1) then 0 else 0
def Bz (a0:List Ae) (a1:Ak):Int:=bif(AC a0 a1) then 0 else bif(Au a1) then(Dx a0 (Ad a1)).1.4.1 else bif(Ay a1) then 0 else 0
def By (a0:List Ae) (a1:Ak):Int:=bif(AC a0 a1) then 0 else bif(Au a1) then(Dx a0 (Ad a1)).1.3.2 else bif(Ay a1) then 0 else 0
def B5 (a0:List Ae) (a1:Ak):Int:=bif(AC a0 a1) then 0 else bif(Au a1) then(Dx a0 (Ad a1)).1.3.1 else bif(Ay a1) then 0 else 0
def BZ (a0:List Ae) (a1:Ak):Int:=bif(AC a0 a1) then 0 else bif(Au a1) then(Dx a0 (Ad a1)).1.2 else bif(Ay a1) then 0 else 0
def BY (a0:List Ae) (a1:Ak):Int:=bif(AC a0 a1) then 0 else bif(Au a1) then(Dx a0 (Ad a1)).1.1 else bif(Ay a1) then 0 else 0
def BX (a0:List Ae) (a1:Ak):Int:=bif(AC a0 a1) then 0 else bif(Au a1) then 0 else bif(Ay a1) then(Av 1099511627776 (Ad a1) (Ag a1)).1 else 0
def BW (a0:List Ae) (a1:Ak):Int:=bif(AC a0 a1) then 0 else bif(Au a1) then 0 else bif(Ay a1) then(Av 1099511627776 (Av 1099511627776 (Ad a1) (Ag a1)).2.1 (Av 1099511627776 (Ad a1) (Ag a1)).2.2).1 else 0
def BV (a0:List Ae) (a1:Ak):List Ak:=bif(AC a0 a1) then[] else bif(Au a1) then[] else bif(Ay a1) then[] else dgs (AK a0 a1)
def BU (a0:List Ae) (a1:Ak):List Int:=bif(AC a0 a1) then(AP ((Av 2 (Ad a1) (Ag a1)).1,0,(Av 2 (Ad a1) (Ag a1)).2.1,a0,(Av 2 (Ad a1) (Ag a1)).2.2,(Av 5 (Az a1) (AA a1 !=(a1.length:Int))).1,(Av 2 (Av 5 (Az a1) (AA a1 !=(a1.length:Int))).2.1 (Av 5 (Az a1) (AA a1 !=(a1.length:Int))).2.2).1,[])).2.2.2.2.2.2.2 else bif(Au a1) then[] else bif(Ay a1) then[] else(AP ((Av 2 (Ad a1) (Ag a1)).1,0,(Av 2 (Ad a1) (Ag a1)).2.1,a0,(Av 2 (Ad a1) (Ag a1)).2.2,(Av 5 (Az a1) (AA a1 !=(a1.length:Int))).1,(Av 2 (Av 5 (Az a1) (AA a1 !=(a1.length:Int))).2.1 (Av 5 (Az a1) (AA a1 !=(a1.length:Int))).2.2).1,[])).2.2.2.2.2.2.2
def BT (a0:List Ae) (a1:Ak):Int:=bif(AC a0 a1) then(AP ((Av 2 (Ad a1) (Ag a1)).1,0,(Av 2 (Ad a1) (Ag a1)).2.1,a0,(Av 2 (Ad a1) (Ag a1)).2.2,(Av 5 (Az a1) (AA a1 !=(a1.length:Int))).1,(Av 2 (Av 5 (Az a1) (AA a1 !=(a1.length:Int))).2.1 (Av 5 (Az a1) (AA a1 !=(a1.length:Int))).2.2).1,[])).2.2.2.2.2.1 else bif(Au a1) then(Av 5 (Az a1) (AA a1 !=(a1.length:Int))).1 else bif(Ay a1) then(Av 5 (Az a1) (AA a1 !=(a1.length:Int))).1 else(AP ((Av 2 (Ad a1) (Ag a1)).1,0,(Av 2 (Ad a1) (Ag a1)).2.1,a0,(Av 2 (Ad a1) (Ag a1)).2.2,(Av 5 (Az a1) (AA a1 !=(a1.length:Int))).1,(Av 2 (Av 5 (Az a1) (AA a1 !=(a1.length:Int))).2.1 (Av 5 (Az a1) (AA a1 !=(a1.length:Int))).2.2).1,[])).2.2.2.2.2.1
def BS (a0:List Ae) (a1:Ak):Int:=bif(AC a0 a1) then(AP ((Av 2 (Ad a1) (Ag a1)).1,0,(Av 2 (Ad a1) (Ag a1)).2.1,a0,(Av 2 (Ad a1) (Ag a1)).2.2,(Av 5 (Az a1) (AA a1 !=(a1.length:Int))).1,(Av 2 (Av 5 (Az a1) (AA a1 !=(a1.length:Int))).2.1 (Av 5 (Az a1) (AA a1 !=(a1.length:Int))).2.2).1,[])).2.2.2.2.2.2.1 else bif(Au a1) then(Av 2 (Av 5 (Az a1) (AA a1 !=(a1.length:Int))).2.1 (Av 5 (Az a1) (AA a1 !=(a1.length:Int))).2.2).1 else bif(Ay a1) then(Av 2 (Av 5 (Az a1) (AA a1 !=(a1.length:Int))).2.1 (Av 5 (Az a1) (AA a1 !=(a1.length:Int))).2.2).1 else(AP ((Av 2 (Ad a1) (Ag a1)).1,0,(Av 2 (Ad a1) (Ag a1)).2.1,a0,(Av 2 (Ad a1) (Ag a1)).2.2,(Av 5 (Az a1) (AA a1 !=(a1.length:Int))).1,(Av 2 (Av 5 (Az a1) (AA a1 !=(a1.length:Int))).2.1 (Av 5 (Az a1) (AA a1 !=(a1.length:Int))).2.2).1,[])).2.2.2.2.2.2.1
def Bc (a0:List Ae) (a1:Ak):Bool:=(bif(AC a0 a1) then(Uf (AP ((Av 2 (Ad a1) (Ag a1)).1,0,(Av 2 (Ad a1) (Ag a1)).2.1,a0,(Av 2 (Ad a1) (Ag a1)).2.2,(Av 5 (Az a1) (AA a1 !=(a1.length:Int))).1,(Av 2 (Av 5 (Az a1) (AA a1 !=(a1.length:Int))).2.1 (Av 5 (Az a1) (AA a1 !=(a1.length:Int))).2.2).1,[])).2.2.2.1 0 0 [] (AK a0 a1) (Be a0 a1)).2.2 else bif(Au a1) then(Ag a1)||(Dx a0 (Ad a1)).2.2 !=0 else bif(Ay a1) then(Av 1099511627776 (Av 1099511627776 (Ad a1) (Ag a1)).2.1 (Av 1099511627776 (Ad a1) (Ag a1)).2.2).2.2 else(Be a0 a1))||decide ((↑(bif(AC a0 a1) then(Uf (AP ((Av 2 (Ad a1) (Ag a1)).1,0,(Av 2 (Ad a1) (Ag a1)).2.1,a0,(Av 2 (Ad a1) (Ag a1)).2.2,(Av 5 (Az a1) (AA a1 !=(a1.length:Int))).1,(Av 2 (Av 5 (Az a1) (AA a1 !=(a1.length:Int))).2.1 (Av 5 (Az a1) (AA a1 !=(a1.length:Int))).2.2).1,[])).2.2.2.1 0 0 [] (AK a0 a1) (Be a0 a1)).2.1 else bif(Au a1) then List.take ((CH a1).toNat - (BN a0 a1).toNat) (List.drop (BN a0 a1).toNat (Ad a1)) else bif(Ay a1) then(Av 1099511627776 (Av 1099511627776 (Ad a1) (Ag a1)).2.1 (Av 1099511627776 (Ad a1) (Ag a1)).2.2).2.1 else List.drop (32*((AK a0 a1).length / 32)) (AK a0 a1)).length:Int) >0)||Dn a0 (AS.mk (BT a0 a1) (BS a0 a1) (Ar.mk (BY a0 a1) (BZ a0 a1) (Ba.mk (B5 a0 a1) (By a0 a1)) (Bu.mk (Bz a0 a1) (BA a0 a1)) (BE a0 a1)) (BX a0 a1) (BW a0 a1) (BU a0 a1) (BV a0 a1) (BF a0 a1) (Bu.mk (BB a0 a1) (BC a0 a1)) (BD a0 a1)) !=0
def OJ (a0:List Ae) (a1:Ak):Int:=bif(AB a0) then 0 else bif(AD a1) then 0 else bif(Bc a0 a1) then 0 else(BT a0 a1)
def OK (a0:List Ae) (a1:Ak):Int:=bif(AB a0) then 0 else bif(AD a1) then 0 else bif(Bc a0 a1) then 0 else(BS a0 a1)
def OL (a0:List Ae) (a1:Ak):Int:=bif(AB a0) then 0 else bif(AD a1) then 0 else bif(Bc a0 a1) then 0 else(BY a0 a1)
def OM (a0:List Ae) (a1:Ak):Int:=bif(AB a0) then 0 else bif(AD a1) then 0 else bif(Bc a0 a1) then 0 else(BZ a0 a1)
def ON (a0:List Ae) (a1:Ak):Int:=bif(AB a0) then 0 else bif(AD a1) then 0 else bif(Bc a0 a1) then 0 else(B5 a0 a1)
def OO (a0:List Ae) (a1:Ak):Int:=bif(AB a0) then 0 else bif(AD a1) then 0 else bif(Bc a0 a1) then 0 else(By a0 a1)
def OP (a0:List Ae) (a1:Ak):Int:=bif(AB a0) then 0 else bif(AD a1) then 0 else bif(Bc a0 a1) then 0 else(Bz a0 a1)
def OQ (a0:List Ae) (a1:Ak):Int:=bif(AB a0) then 0 else bif(AD a1) then 0 else bif(Bc a0 a1) then 0 else(BA a0 a1)
def OR (a0:List Ae) (a1:Ak):List AY:=bif(AB a0) then[] else bif(AD a1) then[] else bif(Bc a0 a1) then[] else(BE a0 a1)
def OS (a0:List Ae) (a1:Ak):Int:=bif(AB a0) then 0 else bif(AD a1) then 0 else bif(Bc a0 a1) then 0 else(BX a0 a1)
def ME (a0:List Ae) (a1:Ak):Int:=bif(AB a0) then 0 else bif(AD a1) then 0 else bif(Bc a0 a1) then 0 else(BW a0 a1)
def MF (a0:List Ae) (a1:Ak):List Int:=bif(AB a0) then[] else bif(AD a1) then[] else bif(Bc a0 a1) then[] else(BU a0 a1)
def MG (a0:List Ae) (a1:Ak):Int:=bif(AB a0) then 0 else bif(AD a1) then 0 else bif(Bc a0 a1) then 0 else(BB a0 a1)
def MH (a0:List Ae) (a1:Ak):Int:=bif(AB a0) then 0 else bif(AD a1) then 0 else bif(Bc a0 a1) then 0 else(BC a0 a1)
def MI (a0:List Ae) (a1:Ak):Bool:=bif(AB a0) then false else bif(AD a1) then false else bif(Bc a0 a1) then false else(BD a0 a1)
def MJ (a0:List Ae) (a1:Ak):Int:=bif(AB a0) then A1 a0 else bif(AD a1) then GG a1 else bif(Bc a0 a1) then 140 else 0
def MK (a0:List Ae) (a1:Ak):List Ak:=bif(AB a0) then[] else bif(AD a1) then[] else bif(Bc a0 a1) then[] else(BV a0 a1)
def ML (a0:List Ae) (a1:Ak):List AW:=bif(AB a0) then[] else bif(AD a1) then[] else bif(Bc a0 a1) then[] else(BF a0 a1)
def U5 (a0:List Ae) (a1:Ak):A:=.tup [.agg [iV ((OJ a0 a1)),iV ((OK a0 a1)),iV ((OL a0 a1)),iV ((OM a0 a1)),iV ((ON a0 a1)),iV ((OO a0 a1)),iV ((OP a0 a1)),iV ((OQ a0 a1)),.sl .write (OR a0 a1),iV ((OS a0 a1)),iV ((ME a0 a1)),.sl .i64 (MF a0 a1),.sq 0,.sq 1,iV ((MG a0 a1)),iV ((MH a0 a1)),.v (.bool (MI a0 a1))],iV ((MJ a0 a1))]
def U4 (a0:List Ae) (a1:Ak):AJ:=[(0,some (.arr 56 32 (.ty .digest (MK a0 a1)))),(1,some (.arr 60 2 (.ty .row (ML a0 a1))))]
def Tb (a0:List Ae) (a1:Ak):List Prop:=[((!(AB a0))=true→Ai a1.length),((!(AB a0))=true→(!(AD a1))=true→(Au a1)=true→Ai (Ad a1).length),((!(AB a0))=true→(!(AD a1))=true→(Au a1)=true→0≤(BN a0 a1)∧(BN a0 a1)≤(CH a1)∧(CH a1)≤(CH a1)),((!(AB a0))=true→(!(AD a1))=true→(Au a1)=false→(Ay a1)=false→A3 BL BK GL (Fv ((Av 2 (Ad a1) (Ag a1)).1,0,(Av 2 (Ad a1) (Ag a1)).2.1,a0,(Av 2 (Ad a1) (Ag a1)).2.2,(Av 5 (Az a1) (AA a1 !=(a1.length:Int))).1,(Av 2 (Av 5 (Az a1) (AA a1 !=(a1.length:Int))).2.1 (Av 5 (Az a1) (AA a1 !=(a1.length:Int))).2.2).1,[])) ((Av 2 (Ad a1) (Ag a1)).1,0,(Av 2 (Ad a1) (Ag a1)).2.1,a0,(Av 2 (Ad a1) (Ag a1)).2.2,(Av 5 (Az a1) (AA a1 !=(a1.length:Int))).1,(Av 2 (Av 5 (Az a1) (AA a1 !=(a1.length:Int))).2.1 (Av 5 (Az a1) (AA a1 !=(a1.length:Int))).2.2).1,[])),((!(AB a0))=true→(!(AD a1))=true→(Au a1)=false→(Ay a1)=false→(Em a0 a1)=true→Ai (AK a0 a1).length),((!(AB a0))=true→(!(AD a1))=true→(Au a1)=false→(Ay a1)=false→(!(Em a0 a1))=true→Ai (AK a0 a1).length),((!(AB a0))=true→(!(AD a1))=true→((bif(AC a0 a1) then(Uf (AP ((Av 2 (Ad a1) (Ag a1)).1,0,(Av 2 (Ad a1) (Ag a1)).2.1,a0,(Av 2 (Ad a1) (Ag a1)).2.2,(Av 5 (Az a1) (AA a1 !=(a1.length:Int))).1,(Av 2 (Av 5 (Az a1) (AA a1 !=(a1.length:Int))).2.1 (Av 5 (Az a1) (AA a1 !=(a1.length:Int))).2.2).1,[])).2.2.2.1 0 0 [] (AK a0 a1) (Be a0 a1)).2.2 else bif(Au a1) then(Ag a1)||(Dx a0 (Ad a1)).2.2 !=0 else bif(Ay a1) then(Av 1099511627776 (Av 1099511627776 (Ad a1) (Ag a1)).2.1 (Av 1099511627776 (Ad a1) (Ag a1)).2.2).2.2 else(Be a0 a1))||decide ((↑(bif(AC a0 a1) then(Uf (AP ((Av 2 (Ad a1) (Ag a1)).1,0,(Av 2 (Ad a1) (Ag a1)).2.1,a0,(Av 2 (Ad a1) (Ag a1)).2.2,(Av 5 (Az a1) (AA a1 !=(a1.length:Int))).1,(Av 2 (Av 5 (Az a1) (AA a1 !=(a1.length:Int))).2.1 (Av 5 (Az a1) (AA a1 !=(a1.length:Int))).2.2).1,[])).2.2.2.1 0 0 [] (AK a0 a1) (Be a0 a1)).2.1 else bif(Au a1) then List.take ((CH a1).toNat - (BN a0 a1).toNat) (List.drop (BN a0 a1).toNat (Ad a1)) else bif(Ay a1) then(Av 1099511627776 (Av 1099511627776 (Ad a1) (Ag a1)).2.1 (Av 1099511627776 (Ad a1) (Ag a1)).2.2).2.1 else List.drop (32*((AK a0 a1).length / 32)) (AK a0 a1)).length:Int) >0))=false→ED (AS.mk (BT a0 a1) (BS a0 a1) (Ar.mk (BY a0 a1) (BZ a0 a1) (Ba.mk (B5 a0 a1) (By a0 a1)) (Bu.mk (Bz a0 a1) (BA a0 a1)) (BE a0 a1)) (BX a0 a1) (BW a0 a1) (BU a0 a1) (BV a0 a1) (BF a0 a1) (Bu.mk (BB a0 a1) (BC a0 a1)) (BD a0 a1)))]
set_option maxHeartbeats 8000000 in
theorem Ah8 (a0:List Ae) (a1:Ak):Tx (CP Aqg.1 PR.1) 9 8 [.sl .group a0,AX .bytes a1] 0 []=some (1,U5 a0 a1,2,U4 a0 a1,[((!(AB a0))=true→Ai a1.length),((!(AB a0))=true→(!(AD a1))=true→(Au a1)=true→Ai (Ad a1).length),((!(AB a0))=true→(!(AD a1))=true→(Au a1)=true→0≤(BN a0 a1)∧(BN a0 a1)≤(CH a1)∧(CH a1)≤(CH a1)),((!(AB a0))=true→(!(AD a1))=true→(Au a1)=false→(Ay a1)=false→AQ Bb (8:FuncId) 1=AQ Bb (8:FuncId) 1),((!(AB a0))=true→(!(AD a1))=true→(Au a1)=false→(Ay a1)=false→A3 BL BK GL (Fv ((Av 2 (Ad a1) (Ag a1)).1,0,(Av 2 (Ad a1) (Ag a1)).2.1,a0,(Av 2 (Ad a1) (Ag a1)).2.2,(Av 5 (Az a1) (AA a1 !=(a1.length:Int))).1,(Av 2 (Av 5 (Az a1) (AA a1 !=(a1.length:Int))).2.1 (Av 5 (Az a1) (AA a1 !=(a1.length:Int))).2.2).1,[])) ((Av 2 (Ad a1) (Ag a1)).1,0,(Av 2 (Ad a1) (Ag a1)).2.1,a0,(Av 2 (Ad a1) (Ag a1)).2.2,(Av 5 (Az a1) (AA a1 !=(a1.length:Int))).1,(Av 2 (Av 5 (Az a1) (AA a1 !=(a1.length:Int))).2.1 (Av 5 (Az a1) (AA a1 !=(a1.length:Int))).2.2).1,[])),((!(AB a0))=true→(!(AD a1))=true→(Au a1)=false→(Ay a1)=false→(Em a0 a1)=true→Ai (AK a0 a1).length),((!(AB a0))=true→(!(AD a1))=true→(Au a1)=false→(Ay a1)=false→(!(Em a0 a1))=true→Code.rangeFunc (Operand.tmp (65:Tmp)) (HX 8 3).ps (HX 8 3).assign (HX 8 3).body=Code.rangeFunc (Operand.tmp (65:Tmp)) (HX 8 3).ps (HX 8 3).assign (HX 8 3).body),((!(AB a0))=true→(!(AD a1))=true→(Au a1)=false→(Ay a1)=false→(!(Em a0 a1))=true→Ai (AK a0 a1).length),((!(AB a0))=true→(!(AD a1))=true→((bif(AC a0 a1) then(Uf (AP ((Av 2 (Ad a1) (Ag a1)).1,0,(Av 2 (Ad a1) (Ag a1)).2.1,a0,(Av 2 (Ad a1) (Ag a1)).2.2,(Av 5 (Az a1) (AA a1 !=(a1.length:Int))).1,(Av 2 (Av 5 (Az a1) (AA a1 !=(a1.length:Int))).2.1 (Av 5 (Az a1) (AA a1 !=(a1.length:Int))).2.2).1,[])).2.2.2.1 0 0 [] (AK a0 a1) (Be a0 a1)).2.2 else bif(Au a1) then(Ag a1)||(Dx a0 (Ad a1)).2.2 !=0 else bif(Ay a1) then(Av 1099511627776 (Av 1099511627776 (Ad a1) (Ag a1)).2.1 (Av 1099511627776 (Ad a1) (Ag a1)).2.2).2.2 else(Be a0 a1))||decide ((↑(bif(AC a0 a1) then(Uf (AP ((Av 2 (Ad a1) (Ag a1)).1,0,(Av 2 (Ad a1) (Ag a1)).2.1,a0,(Av 2 (Ad a1) (Ag a1)).2.2,(Av 5 (Az a1) (AA a1 !=(a1.length:Int))).1,(Av 2 (Av 5 (Az a1) (AA a1 !=(a1.length:Int))).2.1 (Av 5 (Az a1) (AA a1 !=(a1.length:Int))).2.2).1,[])).2.2.2.1 0 0 [] (AK a0 a1) (Be a0 a1)).2.1 else bif(Au a1) then List.take ((CH a1).toNat - (BN a0 a1).toNat) (List.drop (BN a0 a1).toNat (Ad a1)) else bif(Ay a1) then(Av 1099511627776 (Av 1099511627776 (Ad a1) (Ag a1)).2.1 (Av 1099511627776 (Ad a1) (Ag a1)).2.2).2.1 else List.drop (32*((AK a0 a1).length / 32)) (AK a0 a1)).length:Int) >0))=false→ED (AS.mk (BT a0 a1) (BS a0 a1) (Ar.mk (BY a0 a1) (BZ a0 a1) (Ba.mk (B5 a0 a1) (By a0 a1)) (Bu.mk (Bz a0 a1) (BA a0 a1)) (BE a0 a1)) (BX a0 a1) (BW a0 a1) (BU a0 a1) (BV a0 a1) (BF a0 a1) (Bu.mk (BB a0 a1) (BC a0 a1)) (BD a0 a1)))]):=by kernel_rfl
theorem Aj2 (a0:List Ae) (a1:Ak) (hp:∀p∈Tb a0 a1,p):Ax Bb 8 [.sl .group a0,AX .bytes a1] 0 [] 1 (U5 a0 a1) 2 (U4 a0 a1):=
  Bh (AU Aqg.2 PR.2) (Ah8 a0 a1) (nT hp fun hp=>nT hp fun hp=>nT hp fun hp=>Aa (by intros;rfl) (nT hp fun hp=>nT hp fun hp=>Aa (by intros;rfl) (nT hp fun hp=>nT hp fun _=>An)))
end Go.Proofs.YtifkbgkbajncjaaDoor
namespace Go.Proofs.YtifkbgkbajncjaaDoor
open Go.RowKit
theorem Bdb {l:List Ae} {r:AW} (h:BJ l r=0):A1 l=0∧r.cells.length=l.length:=by
 unfold BJ at h
 cases h1:A1 l !=0 with
 |true=>
  rw[h1,cond_true] at h
  rw[h] at h1
  cases h1
 | false=>
  rw[h1,cond_false] at h
  refine⟨by simpa using h1,?_⟩
  cases h2:(r.key.size==0) with
  |true=>rw[h2] at h;cases h
  | false=>
   cases h3:decide (32 <r.key.size) with
   |true=>rw[h2,h3] at h;cases h
   |false=>
    cases h4:(r.cells.length !=l.length) with
    |true=>rw[h2,h3,h4] at h;cases h
    |false=>simpa using h4
theorem Atn {l:List Ae} {b r:Ak} {m:AS} (hb:Ai b.length) (h:psM l b=some (m,r)):ED m:=by
 unfold Ai at hb
 obtain⟨k,r1,a1,e1⟩:=Ps.bind_is h
 obtain⟨s,r2,a2,e2⟩:=Ps.bind_is e1
 have l1:=congrArg List.length (HZ.front _ _ _ a1).2
 have l2:=congrArg List.length (HZ.front _ _ _ a2).2
 rw[List.length_append] at l1 l2
 have z0:AT 0:=Nat.zero_le _
 split at e2
 ·obtain⟨c,r3,a3,e3⟩:=Ps.bind_is e2
  cases e3
  have hc:c.writes.length≤8:=by
   obtain⟨c',r4,a4,e4⟩:=Ps.bind_is a3
   split at e4<;>try (cases e4;done)
   cases e4
   exact(Bh0.front _ _ _ a4).1.2.2.2.2.1
  exact⟨by show AT c.writes.length;unfold AT;omega,z0,z0,z0,fun _ h=>by cases h⟩
 ·split at e2
  ·obtain⟨a,r3,a3,e3⟩:=Ps.bind_is e2
   obtain⟨o,r4,a4,e4⟩:=Ps.bind_is e3
   cases e4
   exact⟨z0,z0,z0,z0,fun _ h=>by cases h⟩
  ·obtain⟨p,r3,a3,e3⟩:=Ps.bind_is e2
   have hp:p.length≤2:=(Ato.front _ _ _ a3).1.1
   have l3:=congrArg List.length (Ato.front _ _ _ a3).2
   rw[List.length_append] at l3
   have wp:AT p.length:=by unfold AT;omega
   split at e3
   ·obtain⟨v,r4,a4,e4⟩:=Ps.bind_is e3
    obtain⟨o,r5,a5,e5⟩:=Ps.bind_is e4
    split at e5<;>try (cases e5;done)
    obtain⟨n,r6,a6,e6⟩:=Ps.bind_is e5
    split at e6<;>try (cases e6;done)
    obtain⟨rs,r7,a7,e7⟩:=Ps.bind_is e6
    cases e7
    obtain⟨q1,q2⟩:=(((Bh1 l).many n.toNat).front _ _ _ a7).1
    refine⟨z0,wp,z0,by show AT rs.length;unfold AT;omega,fun r hr=>?_⟩
    obtain⟨g1,g2⟩:=Bdb (q2 r hr)
    have:=(Qu g1).2
    unfold Ai
    omega
   ·obtain⟨d,r4,a4,e4⟩:=Ps.bind_is e3
    cases e4
    unfold Axl at a4
    split at a4<;>try (cases a4;done)
    cases a4
    refine⟨z0,wp,?_,z0,fun _ h=>by cases h⟩
    show AT (dgs r3).length
    unfold dgs AT
    rw[List.length_map,List.length_range]
    omega
theorem A03 (n:Int) (l:List Ae) (k0 s0:Int):∀(m:Nat) (i:Int) (b:Ak) (bad:Bool) (rs:List Int),m=(n - i).toNat→0≤i→n≤2→(rs.length:Int)+m≤2→
  A3 BL BK GL m (n,i,b,l,bad,k0,s0,rs)∧
  ∃i',Bj BL BK m (n,i,b,l,bad,k0,s0,rs)=(n,i',(X8 (Av 15) m rs b bad).2.1,l,(X8 (Av 15) m rs b bad).2.2,k0,s0,(X8 (Av 15) m rs b bad).1)
 |0,i,b,bad,rs,hm,hi,hn,hl=>by
  have hd:decide (i <n)=false:=decide_eq_false (by omega)
  have hf:∀q:Prop,(!!decide (i <n))=true→q:=fun q h=>by rw[hd] at h;cases h
  refine⟨⟨Aa (hf _) An,?_⟩,i,rfl⟩
  show(!!decide (i <n))=false
  rw[hd]
  rfl
 | m+1,i,b,bad,rs,hm,hi,hn,hl=>by
  have ae:i <n:=by omega
  have hd:decide (i <n)=true:=decide_eq_true ae
  have cp:Br (BK (n,i,b,l,bad,k0,s0,rs))=true:=by
   show(!!decide (i <n))=true
   rw[hd]
   rfl
  have hnx:BL (n,i,b,l,bad,k0,s0,rs)=(n,(i+1),(Av 15 b bad).2.1,l,(Av 15 b bad).2.2,k0,s0,(rs++[(Av 15 b bad).1])):=by
   show(n,IntKind.i64.wrap (i+1),_,l,_,k0,s0,_)=_
   rw[i64_in (by omega)]
   rfl
  obtain⟨j1,i',j2⟩:=A03 n l k0 s0 m (i+1) (Av 15 b bad).2.1 (Av 15 b bad).2.2 (rs++[(Av 15 b bad).1]) (by omega) (by omega) hn (by rw[List.length_append];simp only[List.length_cons,List.length_nil];omega)
  refine⟨⟨Aa (fun _=>by show Ai (rs.length+1);unfold Ai;omega) An,fun _=>by rw[hnx];exact j1⟩,i',?_⟩
  show(bif Br (BK (n,i,b,l,bad,k0,s0,rs)) then Bj BL BK m (BL (n,i,b,l,bad,k0,s0,rs)) else _)=_
  rw[cp,hnx,cond_true,j2]
  rfl
theorem Aax {b:Ak} (_h:Ai b.length):Ai (Az b).length:=by
 unfold Az
 cases GG b==0 with
 |false=>exact Nat.zero_le _
 |true=>
  show Ai ((b.drop _).take _).length
  unfold Ai at*
  rw[List.length_take,List.length_drop]
  omega
theorem A22 (l:List Ae) (b:Ak):0≤(Dx l b).2.1∧(Dx l b).2.1≤(b.length:Int):=by
 unfold Dx
 cases h:QH l b with
 |none=>exact⟨Int.le_refl _,by show(0:Int)≤(b.length:Int);omega⟩
 |some y=>
  obtain⟨c,r⟩:=y
  have hl:=congrArg List.length ((Alj l).front _ _ _ h).2
  rw[List.length_append] at hl
  show(0:Int)≤(b.length:Int) - (r.length:Int)∧(b.length:Int) - (r.length:Int)≤(b.length:Int)
  omega
theorem Abv (m:Int):∀(n:Nat) (l:List Int) (b:Ak) (bad:Bool),Ai b.length→Ai (X8 (Av m) n l b bad).2.1.length
 |0,_,_,_,h=>h
 |n+1,_,_,bad,h=>Abv m n _ _ _ (ZR m bad h)
theorem A4j {b:Ak} (bad:Bool) (h:Ai b.length):Ai (wPa b bad).2.1.length:=Abv 15 _ _ _ _ (ZR 2 bad h)
theorem Azp (l:List Ae) (b:Ak):A3 BL BK GL (Fv ((Av (2:Int) (Ad b) (Ag b)).1,(0:Int),(Av (2:Int) (Ad b) (Ag b)).2.1,l,(Av (2:Int) (Ad b) (Ag b)).2.2,(Av (5:Int) (Az b) (AA b !=(b.length:Int))).1,(Av (2:Int) (Av (5:Int) (Az b) (AA b !=(b.length:Int))).2.1 (Av (5:Int) (Az b) (AA b !=(b.length:Int))).2.2).1,[])) ((Av (2:Int) (Ad b) (Ag b)).1,(0:Int),(Av (2:Int) (Ad b) (Ag b)).2.1,l,(Av (2:Int) (Ad b) (Ag b)).2.2,(Av (5:Int) (Az b) (AA b !=(b.length:Int))).1,(Av (2:Int) (Av (5:Int) (Az b) (AA b !=(b.length:Int))).2.1 (Av (5:Int) (Az b) (AA b !=(b.length:Int))).2.2).1,[])∧∃i',AP ((Av (2:Int) (Ad b) (Ag b)).1,(0:Int),(Av (2:Int) (Ad b) (Ag b)).2.1,l,(Av (2:Int) (Ad b) (Ag b)).2.2,(Av (5:Int) (Az b) (AA b !=(b.length:Int))).1,(Av (2:Int) (Av (5:Int) (Az b) (AA b !=(b.length:Int))).2.1 (Av (5:Int) (Az b) (AA b !=(b.length:Int))).2.2).1,[])=((Av (2:Int) (Ad b) (Ag b)).1,i',(wPa (Ad b) (Ag b)).2.1,l,(wPa (Ad b) (Ag b)).2.2,(Av (5:Int) (Az b) (AA b !=(b.length:Int))).1,(Av (2:Int) (Av (5:Int) (Az b) (AA b !=(b.length:Int))).2.1 (Av (5:Int) (Az b) (AA b !=(b.length:Int))).2.2).1,(wPa (Ad b) (Ag b)).1):=by
 have hn:=A1t (m:=2) (by decide) (Ad b) (Ag b)
 obtain⟨q1,i',q2⟩:=(A03 (Av (2:Int) (Ad b) (Ag b)).1 l (Av (5:Int) (Az b) (AA b !=(b.length:Int))).1 (Av (2:Int) (Av (5:Int) (Az b) (AA b !=(b.length:Int))).2.1 (Av (5:Int) (Az b) (AA b !=(b.length:Int))).2.2).1 ((Av (2:Int) (Ad b) (Ag b)).1 - 0).toNat 0 (Av (2:Int) (Ad b) (Ag b)).2.1 (Av (2:Int) (Ad b) (Ag b)).2.2 [] rfl (Int.le_refl _) hn (by simp only[List.length_nil];omega))
 refine⟨q1,i',?_⟩
 rw[show wPa (Ad b) (Ag b)=X8 (Av 15) ((Av (2:Int) (Ad b) (Ag b)).1 - 0).toNat [] (Av (2:Int) (Ad b) (Ag b)).2.1 (Av (2:Int) (Ad b) (Ag b)).2.2 by rw[Int.sub_zero];rfl]
 exact q2
theorem Azo (l:List Ae) (b:Ak):(AS.mk (BT l b) (BS l b) (Ar.mk (BY l b) (BZ l b) (Ba.mk (B5 l b) (By l b)) (Bu.mk (Bz l b) (BA l b)) (BE l b)) (BX l b) (BW l b) (BU l b) (BV l b) (BF l b) (Bu.mk (BB l b) (BC l b)) (BD l b))=(wM l (Az b) (AA b !=(b.length:Int))).1∧((bif(AC l b) then(Uf (AP ((Av (2:Int) (Ad b) (Ag b)).1,(0:Int),(Av (2:Int) (Ad b) (Ag b)).2.1,l,(Av (2:Int) (Ad b) (Ag b)).2.2,(Av (5:Int) (Az b) (AA b !=(b.length:Int))).1,(Av (2:Int) (Av (5:Int) (Az b) (AA b !=(b.length:Int))).2.1 (Av (5:Int) (Az b) (AA b !=(b.length:Int))).2.2).1,[])).2.2.2.1 (0:Int) (0:Int) [] (AK l b) (Be l b)).2.2 else bif(Au b) then(Ag b)||(Dx l (Ad b)).2.2 !=(0:Int) else bif(Ay b) then(Av (1099511627776:Int) (Av (1099511627776:Int) (Ad b) (Ag b)).2.1 (Av (1099511627776:Int) (Ad b) (Ag b)).2.2).2.2 else(Be l b))||decide ((↑(bif(AC l b) then(Uf (AP ((Av (2:Int) (Ad b) (Ag b)).1,(0:Int),(Av (2:Int) (Ad b) (Ag b)).2.1,l,(Av (2:Int) (Ad b) (Ag b)).2.2,(Av (5:Int) (Az b) (AA b !=(b.length:Int))).1,(Av (2:Int) (Av (5:Int) (Az b) (AA b !=(b.length:Int))).2.1 (Av (5:Int) (Az b) (AA b !=(b.length:Int))).2.2).1,[])).2.2.2.1 (0:Int) (0:Int) [] (AK l b) (Be l b)).2.1 else bif(Au b) then List.take ((CH b).toNat - (BN l b).toNat) (List.drop (BN l b).toNat (Ad b)) else bif(Ay b) then(Av (1099511627776:Int) (Av (1099511627776:Int) (Ad b) (Ag b)).2.1 (Av (1099511627776:Int) (Ad b) (Ag b)).2.2).2.1 else List.drop ((32:Nat)*((AK l b).length / (32:Nat))) (AK l b)).length:Int) >(0:Int)))=((wM l (Az b) (AA b !=(b.length:Int))).2.2||decide (0 <(wM l (Az b) (AA b !=(b.length:Int))).2.1.length)):=by
 obtain⟨_,i',ah⟩:=Azp l b
 have dp:∀n:Nat,decide ((n:Int) >0)=decide (0 <n):=fun n=>dgt n 0
 have hK:(wM l (Az b) (AA b !=(b.length:Int)))=wTl l (Av (5:Int) (Az b) (AA b !=(b.length:Int))).1 (Av (2:Int) (Av (5:Int) (Az b) (AA b !=(b.length:Int))).2.1 (Av (5:Int) (Az b) (AA b !=(b.length:Int))).2.2).1 (Ad b) (Ag b):=rfl
 have uc:Em l b=((Av (5:Int) (Az b) (AA b !=(b.length:Int))).1==5):=by unfold Em;rw[ah]
 have h20:Be l b=(wPa (Ad b) (Ag b)).2.2:=by unfold Be;rw[ah]
 have ld:AK l b=(wPa (Ad b) (Ag b)).2.1:=by unfold AK;rw[ah]
 by_cases h1:(Av (5:Int) (Az b) (AA b !=(b.length:Int))).1=1
 ·have ig:Au b=true:=by unfold Au;rw[h1];rfl
  have ic:AC l b=false:=by unfold AC;rw[ig];rfl
  have hW:(wM l (Az b) (AA b !=(b.length:Int)))=(⟨(Av (5:Int) (Az b) (AA b !=(b.length:Int))).1,(Av (2:Int) (Av (5:Int) (Az b) (AA b !=(b.length:Int))).2.1 (Av (5:Int) (Az b) (AA b !=(b.length:Int))).2.2).1,(Dx l (Ad b)).1,0,0,[],[],[],⟨0,0⟩,false⟩,(Ad b).drop (Dx l (Ad b)).2.1.toNat,(Ag b)||(Dx l (Ad b)).2.2 !=0):=by
   rw[hK]
   unfold wTl
   rw[if_pos h1]
   rfl
  have hM:(AS.mk (BT l b) (BS l b) (Ar.mk (BY l b) (BZ l b) (Ba.mk (B5 l b) (By l b)) (Bu.mk (Bz l b) (BA l b)) (BE l b)) (BX l b) (BW l b) (BU l b) (BV l b) (BF l b) (Bu.mk (BB l b) (BC l b)) (BD l b))=(wM l (Az b) (AA b !=(b.length:Int))).1:=by
   rw[hW]
   simp only[BS,BT,BU,BV,BW,BX,BY,BZ,B5,By,Bz,BA,BB,BC,BD,BE,BF,ic,ig,cond_true,cond_false]
  refine⟨hM,?_⟩
  rw[ic,ig,cond_false,cond_true,cond_false,cond_true,dp,hW]
  unfold BN CH
  rw[G3]
 have ig:Au b=false:=by unfold Au;simpa using h1
 by_cases h2:(Av (5:Int) (Az b) (AA b !=(b.length:Int))).1=2
 ·have j8:Ay b=true:=by unfold Ay;rw[h2];rfl
  have ic:AC l b=false:=by unfold AC;rw[ig,j8];rfl
  have hW:(wM l (Az b) (AA b !=(b.length:Int)))=(⟨(Av (5:Int) (Az b) (AA b !=(b.length:Int))).1,(Av (2:Int) (Av (5:Int) (Az b) (AA b !=(b.length:Int))).2.1 (Av (5:Int) (Az b) (AA b !=(b.length:Int))).2.2).1,HT.change,(Av 1099511627776 (Ad b) (Ag b)).1,(Av 1099511627776 (Av 1099511627776 (Ad b) (Ag b)).2.1 (Av 1099511627776 (Ad b) (Ag b)).2.2).1,[],[],[],⟨0,0⟩,false⟩,(Av 1099511627776 (Av 1099511627776 (Ad b) (Ag b)).2.1 (Av 1099511627776 (Ad b) (Ag b)).2.2).2):=by
   rw[hK]
   unfold wTl
   rw[if_neg h1,if_pos h2]
  have hM:(AS.mk (BT l b) (BS l b) (Ar.mk (BY l b) (BZ l b) (Ba.mk (B5 l b) (By l b)) (Bu.mk (Bz l b) (BA l b)) (BE l b)) (BX l b) (BW l b) (BU l b) (BV l b) (BF l b) (Bu.mk (BB l b) (BC l b)) (BD l b))=(wM l (Az b) (AA b !=(b.length:Int))).1:=by
   rw[hW]
   simp only[BS,BT,BU,BV,BW,BX,BY,BZ,B5,By,Bz,BA,BB,BC,BD,BE,BF,ic,ig,j8,cond_true,cond_false]
   rfl
  refine⟨hM,?_⟩
  rw[ic,ig,j8,cond_false,cond_false,cond_true,cond_false,cond_false,cond_true,dp,hW]
 have j8:Ay b=false:=by unfold Ay;simpa using h2
 by_cases h5:(Av (5:Int) (Az b) (AA b !=(b.length:Int))).1=5
 ·have ic:AC l b=true:=by unfold AC;rw[ig,j8,uc,h5];rfl
  have hW:(wM l (Az b) (AA b !=(b.length:Int)))=Uf l (Av (5:Int) (Az b) (AA b !=(b.length:Int))).1 (Av (2:Int) (Av (5:Int) (Az b) (AA b !=(b.length:Int))).2.1 (Av (5:Int) (Az b) (AA b !=(b.length:Int))).2.2).1 (wPa (Ad b) (Ag b)).1 (wPa (Ad b) (Ag b)).2.1 (wPa (Ad b) (Ag b)).2.2:=by
   rw[hK]
   unfold wTl
   rw[if_neg h1,if_neg h2]
   exact if_pos h5
  have hM:(AS.mk (BT l b) (BS l b) (Ar.mk (BY l b) (BZ l b) (Ba.mk (B5 l b) (By l b)) (Bu.mk (Bz l b) (BA l b)) (BE l b)) (BX l b) (BW l b) (BU l b) (BV l b) (BF l b) (Bu.mk (BB l b) (BC l b)) (BD l b))=(wM l (Az b) (AA b !=(b.length:Int))).1:=by
   rw[hW]
   simp only[BS,BT,BU,BV,BW,BX,BY,BZ,B5,By,Bz,BA,BB,BC,BD,BE,BF,ic,ah,h20,ld,cond_true]
   rfl
  refine⟨hM,?_⟩
  rw[ic,cond_true,cond_true,ah,h20,ld,dp,hW]
  rfl
 ·have ic:AC l b=false:=by unfold AC;rw[ig,j8,uc];simpa using h5
  have hW:(wM l (Az b) (AA b !=(b.length:Int)))=(⟨(Av (5:Int) (Az b) (AA b !=(b.length:Int))).1,(Av (2:Int) (Av (5:Int) (Az b) (AA b !=(b.length:Int))).2.1 (Av (5:Int) (Az b) (AA b !=(b.length:Int))).2.2).1,HT.change,0,0,(wPa (Ad b) (Ag b)).1,dgs (wPa (Ad b) (Ag b)).2.1,[],⟨0,0⟩,false⟩,(wPa (Ad b) (Ag b)).2.1.drop (32*((wPa (Ad b) (Ag b)).2.1.length / 32)),(wPa (Ad b) (Ag b)).2.2):=by
   rw[hK]
   unfold wTl
   rw[if_neg h1,if_neg h2]
   exact if_neg h5
  have hM:(AS.mk (BT l b) (BS l b) (Ar.mk (BY l b) (BZ l b) (Ba.mk (B5 l b) (By l b)) (Bu.mk (Bz l b) (BA l b)) (BE l b)) (BX l b) (BW l b) (BU l b) (BV l b) (BF l b) (Bu.mk (BB l b) (BC l b)) (BD l b))=(wM l (Az b) (AA b !=(b.length:Int))).1:=by
   rw[hW]
   simp only[BS,BT,BU,BV,BW,BX,BY,BZ,B5,By,Bz,BA,BB,BC,BD,BE,BF,ic,ig,j8,ah,ld,cond_false]
   rfl
  refine⟨hM,?_⟩
  rw[ic,ig,j8,cond_false,cond_false,cond_false,cond_false,cond_false,cond_false,h20,ld,dp,hW]
theorem Bgp (l:List Ae) (b:Ak):Bc l b=((wM l (Az b) (AA b !=(b.length:Int))).2.2||decide (0 <(wM l (Az b) (AA b !=(b.length:Int))).2.1.length)||Dn l (wM l (Az b) (AA b !=(b.length:Int))).1 !=0):=by
 obtain⟨h1,h2⟩:=Azo l b
 unfold Bc
 rw[h1,h2]
theorem Bdz {l:List Ae} {x:Ak} {bad:Bool} (hb:Ai x.length) (h:((wM l x bad).2.2||decide (0 <(wM l x bad).2.1.length))=false):ED (wM l x bad).1:=by
 rw[Bool.or_eq_false_iff] at h
 obtain⟨h1,h2⟩:=h
 cases bad with
 |true=>rw[(Zy l).bad] at h1;cases h1
 | false=>
  cases hp:prM l x with
  |none=>rw[(Zy l).none _ hp] at h1;cases h1
  | some y=>
   obtain⟨m,r⟩:=y
   have e:=(Zy l).some _ m r hp
   rw[e] at h2
   have hr:r=[]:=by
    have:¬0 <r.length:=of_decide_eq_false h2
    exact List.length_eq_zero_iff.1 (by omega)
   subst hr
   rw[e]
   exact Atn hb (Aoe hp)
theorem Bij (l:List Ae) (b:Ak) (hb:Ai b.length):(∀p∈Tb l b,p)∧(⟨OJ l b,OK l b,⟨OL l b,OM l b,⟨ON l b,OO l b⟩,⟨OP l b,OQ l b⟩,OR l b⟩,OS l b,ME l b,MF l b,MK l b,ML l b,⟨MG l b,MH l b⟩,MI l b⟩:AS)=(H3 l b).1∧MJ l b=(H3 l b).2:=by
 obtain⟨m1,m2⟩:=Azo l b
 obtain⟨n1,i',ah⟩:=Azp l b
 have hB:Ai (Az b).length:=Aax hb
 have ud:Ai (Ad b).length:=ZR 2 _ (ZR 5 _ hB)
 have ri:=A22 l (Ad b)
 have ld:Ai (AK l b).length:=by
  unfold AK
  rw[ah]
  exact A4j (Ag b) ud
 refine⟨Aa (fun _=>hb) (Aa (fun _ _ _=>ud) (Aa (fun _ _ _=>⟨ri.1,ri.2,Int.le_refl _⟩) (Aa (fun _ _ _ _=>n1) (Aa (fun _ _ _ _ _=>ld) (Aa (fun _ _ _ _ _=>ld) (Aa (fun _ _ h=>?_) An)))))),?_⟩
 ·rw[m2] at h
  rw[m1]
  exact Bdz hB h
 ·have hk:=Bgp l b
  have vo:AB l=(A1 l !=0):=rfl
  have vp:AD b=(GG b !=0):=rfl
  unfold H3 OJ OK OL OM ON OO OP OQ OR OS ME MF MG MH MI MJ MK ML
  rw[vo,vp,hk,←m1]
  generalize (A1 l !=0)=g1
  generalize (GG b !=0)=g2
  generalize ((wM l (Az b) (AA b !=(b.length:Int))).2.2||decide (0 <(wM l (Az b) (AA b !=(b.length:Int))).2.1.length)||Dn l (AS.mk (BT l b) (BS l b) (Ar.mk (BY l b) (BZ l b) (Ba.mk (B5 l b) (By l b)) (Bu.mk (Bz l b) (BA l b)) (BE l b)) (BX l b) (BW l b) (BU l b) (BV l b) (BF l b) (Bu.mk (BB l b) (BC l b)) (BD l b)) !=0)=g3
  cases g1<;>cases g2<;>cases g3<;>exact⟨rfl,rfl⟩
def Bjk:=Gi RS Cwc
def Beq:=Gi Uw Bjk
def Ber:=Gi (JV (Qj Beq.2) 1040 11) Beq
def Bes:=Gi (JV (Qj Ber.2) 1040 18) Ber
def Bet:=Gi (JV (Qj Bes.2) 1040 7) Bes
def Beu:=Gi (JV (Qj Bet.2) 1040 20) Bet
def Bev:=Gi (JV (Qj Beu.2) 1040 23) Beu
def Bew:=Gi (JV (Qj Bev.2) 1040 21) Bev
def A45:=Gi (JV (Qj Bew.2) 1040 8) Bew
def A7x:A:=.v (.bool (true))
def A7v:AJ:=[]
def A7w:List Prop:=[(ED (AS.mk 2 2 (Ar.mk 0 0 (Ba.mk 0 0) (Bu.mk 0 0) []) 3 1 [] [] [] (Bu.mk 0 0) false)),(true=true→ED (AS.mk 2 2 (Ar.mk 0 0 (Ba.mk 0 0) (Bu.mk 0 0) []) 3 1 [] [] [] (Bu.mk 0 0) false))]
theorem Bht:Tx (CP A45.1 L0) 1040 6 [] 0 []=some (1,A7x,0,A7v,[(ED (AS.mk 2 2 (Ar.mk 0 0 (Ba.mk 0 0) (Bu.mk 0 0) []) 3 1 [] [] [] (Bu.mk 0 0) false)),(Ai 8),(Ai 9),(Ai 10),(Ai 11),((0:Int)≤181∧(181:Int) <256),(Ai 9),(Ai 6),(Ai 10),(Ai 10),(Ai 4),(ED (AS.mk 2 2 (Ar.mk 0 0 (Ba.mk 0 0) (Bu.mk 0 0) []) 3 1 [] [] [] (Bu.mk 0 0) false)),(true=true→(0:Int)≤2∧(2:Int)≤6∧(6:Int)≤10),(true=true→ED (AS.mk 2 2 (Ar.mk 0 0 (Ba.mk 0 0) (Bu.mk 0 0) []) 3 1 [] [] [] (Bu.mk 0 0) false))]):=by kernel_rfl
theorem Bkr (hp:∀p∈A7w,p):Ax Bb 6 [] 0 [] 1 (A7x) 0 (A7v):=by
 have n0:(ED (AS.mk (2:Int) (2:Int) (Ar.mk (0:Int) (0:Int) (Ba.mk (0:Int) (0:Int)) (Bu.mk (0:Int) (0:Int)) []) (3:Int) (1:Int) [] [] [] (Bu.mk (0:Int) (0:Int)) false)):=N0 hp
 have n1:(Ai (8:Nat)):=by first|rfl|decide+kernel
 have n2:(Ai (9:Nat)):=by first|rfl|decide+kernel
 have n3:(Ai (10:Nat)):=by first|rfl|decide+kernel
 have n4:(Ai (11:Nat)):=by first|rfl|decide+kernel
 have n5:((0:Int)≤(181:Int)∧(181:Int) <(256:Int)):=by first|rfl|decide+kernel
 have n7:(Ai (6:Nat)):=by first|rfl|decide+kernel
 have zm:(Ai (4:Nat)):=by first|rfl|decide+kernel
 have te:(true=true→(0:Int)≤(2:Int)∧(2:Int)≤(6:Int)∧(6:Int)≤(10:Int)):=by first|rfl|decide+kernel
 have pd:=N0 (N1 hp)
 exact Bh (AU A45.2 A9) (Bht) (Aa n0 (Aa n1 (Aa n2 (Aa n3 (Aa n4 (Aa n5 (Aa n2 (Aa n7 (Aa n3 (Aa n3 (Aa zm (Aa n0 (Aa te (Aa pd An))))))))))))))
theorem Bcb:IE Bb 6 (Et [] 0 A7x A7v A7w):=A8 Bkr
def Bf3:=Gi Bcb A45
theorem Ya (a b c d:Int):ED ⟨a,b,⟨0,0,⟨0,0⟩,⟨0,0⟩,[]⟩,c,d,[],[],[],⟨0,0⟩,false⟩:=by
 have n0:AT 0:=Nat.zero_le _
 exact⟨n0,n0,n0,n0,fun r hr=>by cases hr⟩
abbrev Cwz:=Bf3
def Ayv (a0:List Ae) (a1:Ak):A:=.tup [.agg [iV ((H3 a0 a1).1.kind),iV ((H3 a0 a1).1.site),iV ((H3 a0 a1).1.change.site),iV ((H3 a0 a1).1.change.seq),iV ((H3 a0 a1).1.change.stamp.n),iV ((H3 a0 a1).1.change.stamp.site),iV ((H3 a0 a1).1.change.vec.a),iV ((H3 a0 a1).1.change.vec.b),.sl .write (H3 a0 a1).1.change.writes,iV ((H3 a0 a1).1.ack),iV ((H3 a0 a1).1.own),.sl .i64 (H3 a0 a1).1.path,.sq 0,.sq 1,iV ((H3 a0 a1).1.know.a),iV ((H3 a0 a1).1.know.b),.v (.bool (H3 a0 a1).1.back)],iV ((H3 a0 a1).2)]
def Ayu (a0:List Ae) (a1:Ak):AJ:=[(0,some (.arr 56 32 (.ty .digest (H3 a0 a1).1.sums))),(1,some (.arr 60 2 (.ty .row (H3 a0 a1).1.rows)))]
def A1u (_a0:List Ae) (a1:Ak):List Prop:=[Ai a1.length]
theorem Bii (a0:List Ae) (a1:Ak) (hp:∀p∈A1u a0 a1,p):Ax Bb 8 [.sl .group a0,AX .bytes a1] 0 [] 1 (Ayv a0 a1) 2 (Ayu a0 a1):=by
 obtain⟨h1,h2,h3⟩:=Bij a0 a1 (hp _ (List.mem_cons_self ..))
 have h:=Aj2 a0 a1 h1
 unfold Ayv Ayu
 rw[←h2,←h3]
 exact h
theorem A1v:IE Bb 8 (Et [.l .group,.t .bytes] 2 Ayv Ayu A1u):=A8 Bii
def Bi9:=Gi A1v Cwz
def Bja:=Gi (Anh A1v) Bi9
abbrev Cds:=Bja
def Hu (a1:AS):Bool:=decide ((a1.6.length:Int)≤100)&&decide ((a1.7.length:Int)≤100)
def Ht (a1:AS):Bool:=(Hu a1)&&true
def KX (a0:List Ae) (a1:AS):Bool:=bif(Ht a1) then NQ a0 [a1.3] [a1.8] else bif(Hu a1) then false else false
def Sg (a0:List Ae) (a1:AS):A:=.v (.bool (KX a0 a1))
def Xv (a0:List Ae) (a1:AS):List Prop:=[((Ht a1)=true→true=true→AT a0.length∧(AT 1∧∀(c:Ar),c∈[a1.3]→QV c)∧AT 1∧∀(x:List AW),x∈[a1.8]→AT x.length∧∀(r:AW),r∈x→U3 r)]
theorem Anp (a0:List Ae) (a1:AS):Tx (CP Cwe.1 L0) 9 5 [.sl .group a0,AX .msg a1] 0 []=some (1,Sg a0 a1,0,[],[((Ht a1)=true→true=true→AT a0.length∧(AT 1∧∀(c:Ar),c∈[a1.3]→QV c)∧AT 1∧∀(x:List AW),x∈[a1.8]→AT x.length∧∀(r:AW),r∈x→U3 r),((Hu a1)=true→false=false),(false=true→true=false),(false=false),((Hu a1)=true→false=false),(false=true→true=false),(false=false)]):=by kernel_rfl
theorem Asm (a0:List Ae) (a1:AS) (hp:∀p∈Xv a0 a1,p):Ax Bb 5 [.sl .group a0,AX .msg a1] 0 [] 1 (Sg a0 a1) 0 []:=
  Bh (AU Cwe.2 A9) (Anp a0 a1) (nT hp fun _=>Aa (by intros;rfl) (Aa (by first|rfl|decide+kernel) (Aa (by first|rfl|decide+kernel) (Aa (by intros;rfl) (Aa (by first|rfl|decide+kernel) (Aa (by first|rfl|decide+kernel) An))))))
theorem Ai4:IE Bb 5 (Et [.l .group,.t .msg] 0 Sg (fun _ _=>[]) Xv):=A8 Asm
theorem A4k {a:List AW} (w:a.length≤maxLen∧∀y∈a,Ay7 y):AT a.length∧∀r∈a,U3 r:=⟨w.1,fun r hr=>⟨(w.2 r hr).1,(w.2 r hr).2.1,fun c hc=>((w.2 r hr).2.2 c hc).2.2.2.1⟩⟩
theorem Al2 {l:List Ae} {m:AS} (w0:l.length≤maxLen∧∀y∈l,Wfd .group y) (w1:Wfd .msg m):AT l.length∧(AT (1:Nat)∧∀c∈[m.change],QV c)∧AT (1:Nat)∧∀x∈[m.rows],AT x.length∧∀r∈x,U3 r:=by
 obtain⟨_,_,hc,_,_,_,_,hr,_⟩:=w1
 refine⟨w0.1,⟨by unfold AT;omega,fun c h=>?_⟩,by unfold AT;omega,fun x h=>?_⟩
 ·rw[List.mem_singleton.1 h]
  obtain⟨_,_,_,_,h1,h2⟩:=hc
  exact⟨h1,fun w hw=>⟨(h2 w hw).1,(h2 w hw).2.2.2⟩⟩
 ·rw[List.mem_singleton.1 h]
  exact A4k hr
theorem Aw3 {l:List Ae} {m:AS} (w0:l.length≤maxLen∧∀y∈l,Wfd .group y) (w1:Wfd .msg m) (h:KX l m=true):ED m∧m.path.length≤100∧m.sums.length≤100∧m.rows.length≤6000∧l.length≤6000:=by
 have hw:=Al2 w0 w1
 unfold KX at h
 cases h0:Ht m with
 |false=>
  rw[h0,cond_false] at h
  cases h1:Hu m<;>rw[h1] at h<;>cases h
 | true=>
  rw[h0,cond_true] at h
  have h1:Hu m=true:=by
   unfold Ht at h0
   rwa[Bool.and_true] at h0
  unfold Hu at h1
  rw[Bool.and_eq_true,decide_eq_true_eq,decide_eq_true_eq] at h1
  have e6:(m.6.length:Int)=(m.path.length:Int):=rfl
  have e7:(m.7.length:Int)=(m.sums.length:Int):=rfl
  rw[e6,e7] at h1
  obtain⟨q0,q1,q2⟩:=(Af0 l [m.change] [m.rows] hw.1 hw.2.1 hw.2.2.1 hw.2.2.2).2 h
  have q3:=q2 m.rows (List.mem_singleton.2 rfl)
  have q4:=q1.2 m.change (List.mem_singleton.2 rfl)
  have q5:=q4.1
  refine⟨⟨by unfold AT;omega,by unfold AT;omega,by unfold AT;omega,by unfold AT;omega,fun r hr=>?_⟩,by omega,by omega,q3.1,q0⟩
  have:=(q3.2 r hr).2.1
  unfold Ai;omega
def Bfy:=Gi Rv Cds
def A4r:=Gi Ai4 Bfy
def Gp (a0:List Ae) (a1:AS):Ak:=[]++Lr a0 a1
def AH (a0:List Ae) (a1:AS) (a2:Ak):Bool:=!KX a0 a1||decide ((a2.length:Int) >20000)
def Fl (a0:List Ae) (a2:Ak):Bool:=(H3 a0 a2).2==0&&(Kc a0 (H3 a0 a2).1 !=0||!(ByteArray.mk (Lr a0 (H3 a0 a2).1).toArray).toList==(ByteArray.mk a2.toArray).toList)
def CG (a0:List Ae) (a1:AS):Bool:=Kc a0 a1==0&&((H3 a0 (Lr a0 a1)).2 !=0||!eqM a1 (H3 a0 (Lr a0 a1)).1||(H3 a0 ((Gp a0 a1)++[UInt8.ofNat 0])).2 !=140)
def JW (a0:List Ae) (a1:AS) (a2:Ak):Bool:=bif(AH a0 a1 a2) then true else bif(CG a0 a1) then false else bif(Fl a0 a2) then false else true
def Mg (a0:List Ae) (a1:AS) (a2:Ak):A:=.v (.bool (JW a0 a1 a2))
def Rb (a0:List Ae) (a1:AS) (a2:Ak):List Prop:=[(Ht a1=true→true=true→AT a0.length∧(AT 1∧∀(c:Ar),c∈[a1.3]→QV c)∧AT 1∧∀(x:List AW),x∈[a1.8]→AT x.length∧∀(r:AW),r∈x→U3 r),((AH a0 a1 a2)=true→ED (AS.mk 2 2 (Ar.mk 0 0 (Ba.mk 0 0) (Bu.mk 0 0) []) 3 1 [] [] [] (Bu.mk 0 0) false)),((AH a0 a1 a2)=true→true=true→ED (AS.mk 2 2 (Ar.mk 0 0 (Ba.mk 0 0) (Bu.mk 0 0) []) 3 1 [] [] [] (Bu.mk 0 0) false)),((!(AH a0 a1 a2))=true→ED a1),((!(AH a0 a1 a2))=true→(Kc a0 a1==0)=true→Ai (Lr a0 a1).length),((!(AH a0 a1 a2))=true→(Kc a0 a1==0)=true→Ai (0+(Lr a0 a1).length)),((!(AH a0 a1 a2))=true→(Kc a0 a1==0)=true→Ai ((Gp a0 a1).length+1)),((!(AH a0 a1 a2))=true→(Kc a0 a1==0)=true→Ai ((Gp a0 a1)++[UInt8.ofNat 0]).length),((!(AH a0 a1 a2))=true→(Kc a0 a1==0)=true→((H3 a0 (Lr a0 a1)).2 !=0)=false→ED a1),((!(AH a0 a1 a2))=true→(!(CG a0 a1))=true→Ai a2.length),((!(AH a0 a1 a2))=true→(!(CG a0 a1))=true→((H3 a0 a2).2==0)=true→ED (H3 a0 a2).1),((!(AH a0 a1 a2))=true→(!(CG a0 a1))=true→(!(Fl a0 a2))=true→ED (AS.mk 2 2 (Ar.mk 0 0 (Ba.mk 0 0) (Bu.mk 0 0) []) 3 1 [] [] [] (Bu.mk 0 0) false)),((!(AH a0 a1 a2))=true→(!(CG a0 a1))=true→(!(Fl a0 a2))=true→true=true→ED (AS.mk 2 2 (Ar.mk 0 0 (Ba.mk 0 0) (Bu.mk 0 0) []) 3 1 [] [] [] (Bu.mk 0 0) false))]
theorem Aci (a0:List Ae) (a1:AS) (a2:Ak):Tx (CP A4r.1 L0) 9 3 [.sl .group a0,AX .msg a1,AX .bytes a2] 0 []=some (1,Mg a0 a1 a2,0,[],[(Ht a1=true→true=true→AT a0.length∧(AT 1∧∀(c:Ar),c∈[a1.3]→QV c)∧AT 1∧∀(x:List AW),x∈[a1.8]→AT x.length∧∀(r:AW),r∈x→U3 r),((AH a0 a1 a2)=true→ED (AS.mk 2 2 (Ar.mk 0 0 (Ba.mk 0 0) (Bu.mk 0 0) []) 3 1 [] [] [] (Bu.mk 0 0) false)),((AH a0 a1 a2)=true→true=true→ED (AS.mk 2 2 (Ar.mk 0 0 (Ba.mk 0 0) (Bu.mk 0 0) []) 3 1 [] [] [] (Bu.mk 0 0) false)),((!(AH a0 a1 a2))=true→ED a1),((!(AH a0 a1 a2))=true→(Kc a0 a1==0)=true→Ai (Lr a0 a1).length),((!(AH a0 a1 a2))=true→(Kc a0 a1==0)=true→Ai (0+(Lr a0 a1).length)),((!(AH a0 a1 a2))=true→(Kc a0 a1==0)=true→Ai ((Gp a0 a1).length+1)),((!(AH a0 a1 a2))=true→(Kc a0 a1==0)=true→(0:Int)≤0∧(0:Int) <256),((!(AH a0 a1 a2))=true→(Kc a0 a1==0)=true→Ai ((Gp a0 a1)++[UInt8.ofNat 0]).length),((!(AH a0 a1 a2))=true→(Kc a0 a1==0)=true→((H3 a0 (Lr a0 a1)).2 !=0)=false→ED a1),((!(AH a0 a1 a2))=true→(!(CG a0 a1))=true→Ai a2.length),((!(AH a0 a1 a2))=true→(!(CG a0 a1))=true→((H3 a0 a2).2==0)=true→ED (H3 a0 a2).1),((!(AH a0 a1 a2))=true→(!(CG a0 a1))=true→(!(Fl a0 a2))=true→ED (AS.mk 2 2 (Ar.mk 0 0 (Ba.mk 0 0) (Bu.mk 0 0) []) 3 1 [] [] [] (Bu.mk 0 0) false)),((!(AH a0 a1 a2))=true→(!(CG a0 a1))=true→(!(Fl a0 a2))=true→true=true→ED (AS.mk 2 2 (Ar.mk 0 0 (Ba.mk 0 0) (Bu.mk 0 0) []) 3 1 [] [] [] (Bu.mk 0 0) false))]):=by kernel_rfl
theorem Aft (a0:List Ae) (a1:AS) (a2:Ak) (hp:∀p∈Rb a0 a1 a2,p):Ax Bb 3 [.sl .group a0,AX .msg a1,AX .bytes a2] 0 [] 1 (Mg a0 a1 a2) 0 []:=
  Bh (AU A4r.2 A9) (Aci a0 a1 a2) (nT hp fun hp=>nT hp fun hp=>nT hp fun hp=>nT hp fun hp=>nT hp fun hp=>nT hp fun hp=>nT hp fun hp=>Aa (by omega) (nT hp fun hp=>nT hp fun hp=>nT hp fun hp=>nT hp fun hp=>nT hp fun hp=>nT hp fun _=>An))
theorem Bbb {l:List Ae} {b:Ak} (hb:Ai b.length):ED (TZ l b):=by
 have h0:ED HT:=Ya ..
 unfold TZ
 cases L8 l b==0 with
 |false=>exact h0
 | true=>
  show ED ((MT l b).getD HT)
  cases hd:MT l b with
  |none=>exact h0
  |some m=>
   unfold MT at hd
   split at hd
   ·exact Atn (Aax hb) (W0 hd).1
   ·cases hd
theorem Bd1 (a0:List Ae) (a1:AS) (a2:Ak) (w0:a0.length≤maxLen∧∀y∈a0,Wfd .group y) (w1:Wfd .msg a1):(∀p∈Rb a0 a1 a2,p)∧JW a0 a1 a2=true:=by
 have hk:(!(AH a0 a1 a2))=true→KX a0 a1=true∧a2.length≤20000:=fun h=>by
  unfold AH at h
  rw[Bool.not_or,Bool.and_eq_true,Bool.not_not] at h
  have:=of_decide_eq_false (by simpa using h.2:decide ((a2.length:Int) >(20000:Int))=false)
  exact⟨h.1,by omega⟩
 have hm:(!(AH a0 a1 a2))=true→ED a1:=fun h=>(Aw3 w0 w1 (hk h).1).1
 have hb:(!(AH a0 a1 a2))=true→Ai a2.length:=fun h=>by
  have:=(hk h).2
  unfold Ai
  omega
 have hs:∀d∈a1.sums,d.length=32:=w1.2.2.2.2.2.2.1.2
 have hB:(Kc a0 a1==(0:Int))=true→(Lr a0 a1).length≤1048600:=fun h=>by
  obtain⟨_,q2,q3⟩:=Awn (by simpa using h:Kc a0 a1=0)
  rw[q3,Au6 q2]
  have:=(Auv (n:=((JE a0 a1).length:Int)) (by omega) (by omega)).1
  unfold szs at this
  omega
 refine⟨Aa (fun _ _=>Al2 w0 w1) (Aa (fun _=>Ya ..) (Aa (fun _ _=>Ya ..) (Aa hm (Aa (fun _ h=>?_) (Aa (fun _ h=>?_) (Aa (fun _ h=>?_) (Aa (fun _ h=>?_) (Aa (fun h _ _=>hm h) (Aa (fun h _=>hb h) (Aa (fun h _ _=>?_) (Aa (fun _ _ _=>Ya ..) (Aa (fun _ _ _ _=>Ya ..) An)))))))))))),?_⟩
 ·have:=hB h
  unfold Ai
  omega
 ·have:=hB h
  unfold Ai
  omega
 ·have:=hB h
  show Ai (([]++Lr a0 a1).length+1)
  rw[List.nil_append]
  unfold Ai
  omega
 ·have:=hB h
  show Ai (([]++Lr a0 a1)++[UInt8.ofNat 0]).length
  rw[List.nil_append,List.length_append]
  unfold Ai
  simp only[List.length_cons,List.length_nil]
  omega
 ·rw[Adh]
  exact Bbb (hb h)
 ·have k0:CG a0 a1=false:=by
   unfold CG Gp
   rw[List.nil_append,Adh,Adh]
   cases he:Kc a0 a1==0 with
   |false=>rfl
   |true=>
    obtain⟨b1,b2,b3⟩:=Bge (by simpa using he:Kc a0 a1=0) hs
    rw[b1,b2,show[UInt8.ofNat (0:Nat)]=[0] from rfl,b3,A6n]
    rfl
  have k1:Fl a0 a2=false:=by
   unfold Fl
   rw[Adh]
   cases he:L8 a0 a2==0 with
   |false=>rfl
   |true=>
    obtain⟨b1,b2⟩:=Bgf (by simpa using he:L8 a0 a2=0)
    rw[show((TZ a0 a2,L8 a0 a2):AS×Int).1=TZ a0 a2 from rfl,b1,b2,beq_self_eq_true]
    rfl
  unfold JW
  rw[k0,k1]
  cases AH a0 a1 a2<;>rfl
set_option maxRecDepth 100000
theorem op3:Opn Tryd.prog .i64 3:=Bcq Tryd.underlying3
theorem op4:Opn Tryd.prog .bool 4:=A79 Tryd.underlying4
theorem T3:Opn Tryd.prog .u8 5:=Bhx Tryd.underlying5
theorem op9:Opn Tryd.prog .str 9:=Bcr Tryd.underlying9
theorem Bmi:Opn Tryd.prog .group 89:=fun en w base spare held m cs y h=>by
 obtain⟨xs,n,_,_,hl,hz,hg⟩:=DataW.trod_struct Tryd.underlying89 h
 have hz:xs.length=2:=hz
 have hl:cs.length=2:=hl.trans (by kernel_rfl)
 obtain⟨x0,w0,g0⟩:=K9 (i:=0) (o:=0) (k:=1) op9 rfl rfl rfl (by kernel_rfl) (by omega) hg
 obtain⟨x1,w1,g1⟩:=K9 (i:=1) (o:=1) (k:=1) op3 rfl rfl rfl (by kernel_rfl) (by omega) hg
 exact⟨⟨x0,x1⟩,⟨w0,w1⟩,fun F N nx hF=>Jk (o:=0) (k:=1) (g0 F N nx hF) (Jk (o:=1) (k:=1) (g1 F N nx hF) (HLe (o:=2) hl))⟩
theorem Bkw:Um Tryd.prog .group 22:=Mk Tryd.underlying22 (by kernel_rfl) Bmi
theorem Bkv:Opn Tryd.prog .stamp 24:=fun en w base spare held m cs y h=>by
 obtain⟨xs,n,_,_,hl,hz,hg⟩:=DataW.trod_struct Tryd.underlying24 h
 have hz:xs.length=2:=hz
 have hl:cs.length=2:=hl.trans (by kernel_rfl)
 obtain⟨x0,w0,g0⟩:=K9 (i:=0) (o:=0) (k:=1) op3 rfl rfl rfl (by kernel_rfl) (by omega) hg
 obtain⟨x1,w1,g1⟩:=K9 (i:=1) (o:=1) (k:=1) op3 rfl rfl rfl (by kernel_rfl) (by omega) hg
 exact⟨⟨x0,x1⟩,⟨w0,w1⟩,fun F N nx hF=>Jk (o:=0) (k:=1) (g0 F N nx hF) (Jk (o:=1) (k:=1) (g1 F N nx hF) (HLe (o:=2) hl))⟩
theorem Bco:Opn Tryd.prog .vec 26:=fun en w base spare held m cs y h=>by
 obtain⟨xs,n,_,_,hl,hz,hg⟩:=DataW.trod_array Tryd.underlying26 h
 have hl:cs.length=2:=hl.trans (by kernel_rfl)
 obtain⟨x0,w0,g0⟩:=IF (i:=0) (k:=1) op3 (by kernel_rfl) (by omega) (by omega) hg
 obtain⟨x1,w1,g1⟩:=IF (i:=1) (k:=1) op3 (by kernel_rfl) (by omega) (by omega) hg
 exact⟨⟨x0,x1⟩,⟨w0,w1⟩,fun F N nx hF=>Jk (o:=0) (k:=1) (g0 F N nx hF) (Jk (o:=1) (k:=1) (g1 F N nx hF) (HLe (o:=2) hl))⟩
theorem Bmg:Opn Tryd.prog .write 85:=fun en w base spare held m cs y h=>by
 obtain⟨xs,n,_,_,hl,hz,hg⟩:=DataW.trod_struct Tryd.underlying85 h
 have hz:xs.length=4:=hz
 have hl:cs.length=4:=hl.trans (by kernel_rfl)
 obtain⟨x0,w0,g0⟩:=K9 (i:=0) (o:=0) (k:=1) op9 rfl rfl rfl (by kernel_rfl) (by omega) hg
 obtain⟨x1,w1,g1⟩:=K9 (i:=1) (o:=1) (k:=1) op3 rfl rfl rfl (by kernel_rfl) (by omega) hg
 obtain⟨x2,w2,g2⟩:=K9 (i:=2) (o:=2) (k:=1) op4 rfl rfl rfl (by kernel_rfl) (by omega) hg
 obtain⟨x3,w3,g3⟩:=K9 (i:=3) (o:=3) (k:=1) op9 rfl rfl rfl (by kernel_rfl) (by omega) hg
 exact⟨⟨x0,x1,x2,x3⟩,⟨w0,w1,w2,w3⟩,fun F N nx hF=>Jk (o:=0) (k:=1) (g0 F N nx hF) (Jk (o:=1) (k:=1) (g1 F N nx hF) (Jk (o:=2) (k:=1) (g2 F N nx hF) (Jk (o:=3) (k:=1) (g3 F N nx hF) (HLe (o:=4) hl))))⟩
theorem Bkx:Um Tryd.prog .write 27:=Mk Tryd.underlying27 (by kernel_rfl) Bmg
theorem Bmc:Opn Tryd.prog .change 29:=fun en w base spare held m cs y h=>by
 obtain⟨xs,n,_,_,hl,hz,hg⟩:=DataW.trod_struct Tryd.underlying29 h
 have hz:xs.length=5:=hz
 have hl:cs.length=7:=hl.trans (by kernel_rfl)
 obtain⟨x0,w0,g0⟩:=K9 (i:=0) (o:=0) (k:=1) op3 rfl rfl rfl (by kernel_rfl) (by omega) hg
 obtain⟨x1,w1,g1⟩:=K9 (i:=1) (o:=1) (k:=1) op3 rfl rfl rfl (by kernel_rfl) (by omega) hg
 obtain⟨x2,w2,g2⟩:=K9 (i:=2) (o:=2) (k:=2) Bkv rfl rfl rfl (by kernel_rfl) (by omega) hg
 obtain⟨x3,w3,g3⟩:=K9 (i:=3) (o:=4) (k:=2) Bco rfl rfl rfl (by kernel_rfl) (by omega) hg
 obtain⟨x4,w4,g4⟩:=A6y (i:=4) (o:=6) (k:=1) Bkx rfl rfl rfl (by kernel_rfl) (by omega) hg
 exact⟨⟨x0,x1,x2,x3,x4⟩,⟨w0,w1,w2,w3,w4⟩,fun F N nx hF=>Jk (o:=0) (k:=1) (g0 F N nx hF) (Jk (o:=1) (k:=1) (g1 F N nx hF) (Jk (o:=2) (k:=2) (g2 F N nx hF) (Jk (o:=4) (k:=2) (g3 F N nx hF) (Jk (o:=6) (k:=1) (g4 F N nx hF) (HLe (o:=7) hl)))))⟩
theorem Bky:Um Tryd.prog .i64 30:=Mk Tryd.underlying30 (by kernel_rfl) op3
theorem Bme:Opn Tryd.prog .digest 56:=fun en w base spare held m cs y h=>by
 obtain⟨xs,n,_,_,hl,hz,hg⟩:=DataW.trod_array Tryd.underlying56 h
 have hl:cs.length=32:=hl.trans (by kernel_rfl)
 obtain⟨x0,_,g0⟩:=IF (i:=0) (k:=1) T3 (by kernel_rfl) (by omega) (by omega) hg
 obtain⟨x1,_,g1⟩:=IF (i:=1) (k:=1) T3 (by kernel_rfl) (by omega) (by omega) hg
 obtain⟨x2,_,g2⟩:=IF (i:=2) (k:=1) T3 (by kernel_rfl) (by omega) (by omega) hg
 obtain⟨x3,_,g3⟩:=IF (i:=3) (k:=1) T3 (by kernel_rfl) (by omega) (by omega) hg
 obtain⟨x4,_,g4⟩:=IF (i:=4) (k:=1) T3 (by kernel_rfl) (by omega) (by omega) hg
 obtain⟨x5,_,g5⟩:=IF (i:=5) (k:=1) T3 (by kernel_rfl) (by omega) (by omega) hg
 obtain⟨x6,_,g6⟩:=IF (i:=6) (k:=1) T3 (by kernel_rfl) (by omega) (by omega) hg
 obtain⟨x7,_,g7⟩:=IF (i:=7) (k:=1) T3 (by kernel_rfl) (by omega) (by omega) hg
 obtain⟨x8,_,g8⟩:=IF (i:=8) (k:=1) T3 (by kernel_rfl) (by omega) (by omega) hg
 obtain⟨x9,_,g9⟩:=IF (i:=9) (k:=1) T3 (by kernel_rfl) (by omega) (by omega) hg
 obtain⟨ph,_,vx⟩:=IF (i:=10) (k:=1) T3 (by kernel_rfl) (by omega) (by omega) hg
 obtain⟨pj,_,vy⟩:=IF (i:=11) (k:=1) T3 (by kernel_rfl) (by omega) (by omega) hg
 obtain⟨pn,_,vz⟩:=IF (i:=12) (k:=1) T3 (by kernel_rfl) (by omega) (by omega) hg
 obtain⟨po,_,v8⟩:=IF (i:=13) (k:=1) T3 (by kernel_rfl) (by omega) (by omega) hg
 obtain⟨pq,_,v9⟩:=IF (i:=14) (k:=1) T3 (by kernel_rfl) (by omega) (by omega) hg
 obtain⟨pr,_,wa⟩:=IF (i:=15) (k:=1) T3 (by kernel_rfl) (by omega) (by omega) hg
 obtain⟨pt,_,wb⟩:=IF (i:=16) (k:=1) T3 (by kernel_rfl) (by omega) (by omega) hg
 obtain⟨th,_,wc⟩:=IF (i:=17) (k:=1) T3 (by kernel_rfl) (by omega) (by omega) hg
 obtain⟨ti,_,we⟩:=IF (i:=18) (k:=1) T3 (by kernel_rfl) (by omega) (by omega) hg
 obtain⟨tj,_,wg⟩:=IF (i:=19) (k:=1) T3 (by kernel_rfl) (by omega) (by omega) hg
 obtain⟨tk,_,wh⟩:=IF (i:=20) (k:=1) T3 (by kernel_rfl) (by omega) (by omega) hg
 obtain⟨tl,_,wi⟩:=IF (i:=21) (k:=1) T3 (by kernel_rfl) (by omega) (by omega) hg
 obtain⟨tn,_,wj⟩:=IF (i:=22) (k:=1) T3 (by kernel_rfl) (by omega) (by omega) hg
 obtain⟨tp,_,wk⟩:=IF (i:=23) (k:=1) T3 (by kernel_rfl) (by omega) (by omega) hg
 obtain⟨tq,_,wm⟩:=IF (i:=24) (k:=1) T3 (by kernel_rfl) (by omega) (by omega) hg
 obtain⟨tr,_,wo⟩:=IF (i:=25) (k:=1) T3 (by kernel_rfl) (by omega) (by omega) hg
 obtain⟨tu,_,wq⟩:=IF (i:=26) (k:=1) T3 (by kernel_rfl) (by omega) (by omega) hg
 obtain⟨tv,_,wu⟩:=IF (i:=27) (k:=1) T3 (by kernel_rfl) (by omega) (by omega) hg
 obtain⟨tw,_,wv⟩:=IF (i:=28) (k:=1) T3 (by kernel_rfl) (by omega) (by omega) hg
 obtain⟨tx,_,wx⟩:=IF (i:=29) (k:=1) T3 (by kernel_rfl) (by omega) (by omega) hg
 obtain⟨tz,_,wy⟩:=IF (i:=30) (k:=1) T3 (by kernel_rfl) (by omega) (by omega) hg
 obtain⟨t5,_,wz⟩:=IF (i:=31) (k:=1) T3 (by kernel_rfl) (by omega) (by omega) hg
 exact⟨[x0,x1,x2,x3,x4,x5,x6,x7,x8,x9,ph,pj,pn,po,pq,pr,pt,th,ti,tj,tk,tl,tn,tp,tq,tr,tu,tv,tw,tx,tz,t5],rfl,fun F N nx hF=>Jk (o:=0) (k:=1) (g0 F N nx hF) (Jk (o:=1) (k:=1) (g1 F N nx hF) (Jk (o:=2) (k:=1) (g2 F N nx hF) (Jk (o:=3) (k:=1) (g3 F N nx hF) (Jk (o:=4) (k:=1) (g4 F N nx hF) (Jk (o:=5) (k:=1) (g5 F N nx hF) (Jk (o:=6) (k:=1) (g6 F N nx hF) (Jk (o:=7) (k:=1) (g7 F N nx hF) (Jk (o:=8) (k:=1) (g8 F N nx hF) (Jk (o:=9) (k:=1) (g9 F N nx hF) (Jk (o:=10) (k:=1) (vx F N nx hF) (Jk (o:=11) (k:=1) (vy F N nx hF) (Jk (o:=12) (k:=1) (vz F N nx hF) (Jk (o:=13) (k:=1) (v8 F N nx hF) (Jk (o:=14) (k:=1) (v9 F N nx hF) (Jk (o:=15) (k:=1) (wa F N nx hF) (Jk (o:=16) (k:=1) (wb F N nx hF) (Jk (o:=17) (k:=1) (wc F N nx hF) (Jk (o:=18) (k:=1) (we F N nx hF) (Jk (o:=19) (k:=1) (wg F N nx hF) (Jk (o:=20) (k:=1) (wh F N nx hF) (Jk (o:=21) (k:=1) (wi F N nx hF) (Jk (o:=22) (k:=1) (wj F N nx hF) (Jk (o:=23) (k:=1) (wk F N nx hF) (Jk (o:=24) (k:=1) (wm F N nx hF) (Jk (o:=25) (k:=1) (wo F N nx hF) (Jk (o:=26) (k:=1) (wq F N nx hF) (Jk (o:=27) (k:=1) (wu F N nx hF) (Jk (o:=28) (k:=1) (wv F N nx hF) (Jk (o:=29) (k:=1) (wx F N nx hF) (Jk (o:=30) (k:=1) (wy F N nx hF) (Jk (o:=31) (k:=1) (wz F N nx hF) (HLe (o:=32) hl))))))))))))))))))))))))))))))))⟩
theorem Bkz:Um Tryd.prog .digest 31:=Mk Tryd.underlying31 (by kernel_rfl) Bme
theorem Bmh:Opn Tryd.prog .cell 87:=fun en w base spare held m cs y h=>by
 obtain⟨xs,n,_,_,hl,hz,hg⟩:=DataW.trod_struct Tryd.underlying87 h
 have hz:xs.length=5:=hz
 have hl:cs.length=8:=hl.trans (by kernel_rfl)
 obtain⟨x0,w0,g0⟩:=K9 (i:=0) (o:=0) (k:=2) Bkv rfl rfl rfl (by kernel_rfl) (by omega) hg
 obtain⟨x1,w1,g1⟩:=K9 (i:=1) (o:=2) (k:=2) Bco rfl rfl rfl (by kernel_rfl) (by omega) hg
 obtain⟨x2,w2,g2⟩:=K9 (i:=2) (o:=4) (k:=1) op4 rfl rfl rfl (by kernel_rfl) (by omega) hg
 obtain⟨x3,w3,g3⟩:=K9 (i:=3) (o:=5) (k:=1) op9 rfl rfl rfl (by kernel_rfl) (by omega) hg
 obtain⟨x4,w4,g4⟩:=K9 (i:=4) (o:=6) (k:=2) Bco rfl rfl rfl (by kernel_rfl) (by omega) hg
 exact⟨⟨x0,x1,x2,x3,x4⟩,⟨w0,w1,w2,w3,w4⟩,fun F N nx hF=>Jk (o:=0) (k:=2) (g0 F N nx hF) (Jk (o:=2) (k:=2) (g1 F N nx hF) (Jk (o:=4) (k:=1) (g2 F N nx hF) (Jk (o:=5) (k:=1) (g3 F N nx hF) (Jk (o:=6) (k:=2) (g4 F N nx hF) (HLe (o:=8) hl)))))⟩
theorem Bk2:Um Tryd.prog .cell 58:=Mk Tryd.underlying58 (by kernel_rfl) Bmh
theorem Bmf:Opn Tryd.prog .row 60:=fun en w base spare held m cs y h=>by
 obtain⟨xs,n,_,_,hl,hz,hg⟩:=DataW.trod_struct Tryd.underlying60 h
 have hz:xs.length=2:=hz
 have hl:cs.length=2:=hl.trans (by kernel_rfl)
 obtain⟨x0,w0,g0⟩:=K9 (i:=0) (o:=0) (k:=1) op9 rfl rfl rfl (by kernel_rfl) (by omega) hg
 obtain⟨x1,w1,g1⟩:=A6y (i:=1) (o:=1) (k:=1) Bk2 rfl rfl rfl (by kernel_rfl) (by omega) hg
 exact⟨⟨x0,x1⟩,⟨w0,w1⟩,fun F N nx hF=>Jk (o:=0) (k:=1) (g0 F N nx hF) (Jk (o:=1) (k:=1) (g1 F N nx hF) (HLe (o:=2) hl))⟩
theorem Bk0:Um Tryd.prog .row 32:=Mk Tryd.underlying32 (by kernel_rfl) Bmf
theorem Bmd:Opn Tryd.prog .msg 34:=fun en w base spare held m cs y h=>by
 obtain⟨xs,n,_,_,hl,hz,hg⟩:=DataW.trod_struct Tryd.underlying34 h
 have hz:xs.length=10:=hz
 have hl:cs.length=17:=hl.trans (by kernel_rfl)
 obtain⟨x0,w0,g0⟩:=K9 (i:=0) (o:=0) (k:=1) op3 rfl rfl rfl (by kernel_rfl) (by omega) hg
 obtain⟨x1,w1,g1⟩:=K9 (i:=1) (o:=1) (k:=1) op3 rfl rfl rfl (by kernel_rfl) (by omega) hg
 obtain⟨x2,w2,g2⟩:=K9 (i:=2) (o:=2) (k:=7) Bmc rfl rfl rfl (by kernel_rfl) (by omega) hg
 obtain⟨x3,w3,g3⟩:=K9 (i:=3) (o:=9) (k:=1) op3 rfl rfl rfl (by kernel_rfl) (by omega) hg
 obtain⟨x4,w4,g4⟩:=K9 (i:=4) (o:=10) (k:=1) op3 rfl rfl rfl (by kernel_rfl) (by omega) hg
 obtain⟨x5,w5,g5⟩:=A6y (i:=5) (o:=11) (k:=1) Bky rfl rfl rfl (by kernel_rfl) (by omega) hg
 obtain⟨x6,w6,g6⟩:=A6y (i:=6) (o:=12) (k:=1) Bkz rfl rfl rfl (by kernel_rfl) (by omega) hg
 obtain⟨x7,w7,g7⟩:=A6y (i:=7) (o:=13) (k:=1) Bk0 rfl rfl rfl (by kernel_rfl) (by omega) hg
 obtain⟨x8,w8,g8⟩:=K9 (i:=8) (o:=14) (k:=2) Bco rfl rfl rfl (by kernel_rfl) (by omega) hg
 obtain⟨x9,w9,g9⟩:=K9 (i:=9) (o:=16) (k:=1) op4 rfl rfl rfl (by kernel_rfl) (by omega) hg
 exact⟨⟨x0,x1,x2,x3,x4,x5,x6,x7,x8,x9⟩,⟨w0,w1,w2,w3,w4,w5,w6,w7,w8,w9⟩,fun F N nx hF=>Jk (o:=0) (k:=1) (g0 F N nx hF) (Jk (o:=1) (k:=1) (g1 F N nx hF) (Jk (o:=2) (k:=7) (g2 F N nx hF) (Jk (o:=9) (k:=1) (g3 F N nx hF) (Jk (o:=10) (k:=1) (g4 F N nx hF) (Jk (o:=11) (k:=1) (g5 F N nx hF) (Jk (o:=12) (k:=1) (g6 F N nx hF) (Jk (o:=13) (k:=1) (g7 F N nx hF) (Jk (o:=14) (k:=2) (g8 F N nx hF) (Jk (o:=16) (k:=1) (g9 F N nx hF) (HLe (o:=17) hl))))))))))⟩
theorem Bk1:Um Tryd.prog .u8 35:=Mk Tryd.underlying35 (by kernel_rfl) T3
end Go.Proofs.YtifkbgkbajncjaaDoor
namespace Go.Proofs.YtifkbgkbajncjaaDoor
open Go.ChangeShapes Go.WideShapes Go.ChangeAt Go.RowKit
theorem own:ownKnob Tryd.prog.godebug=none:=by kernel_rfl
theorem Bb7:laidOutB Tryd.prog=true:=by kernel_rfl
section
variable {P:Program} {H:Type} {enc:TypeId×Value→H} {w:World} {base:Nat} {spare:Nat→Bool} {held:Bool} {v:Value} {d:DataW H} {p:List MemPlace}
theorem Ail {r:Reach} {b0:Nat} {t:TypeId} {fs:Array Field} (hu:P.underlying t=some (.struct fs)) (h:Value.okWide P w r b0 t v):∃cs,v=.agg cs∧cs.size=P.cellsOf t:=by
 unfold Value.okWide at h
 rw[hu] at h
 obtain⟨cs,h1,h2,_⟩:=h
 exact⟨cs,h1,h2⟩
end
theorem Uq {H:Type} {enc:TypeId×Value→H} {W W':World} (hb:Below W.heap.size W W'):∀(ts:List TypeId) (vs:List Value) (ds:List (DataW H)) (ps:List MemPlace),
  (∀t∈ts,Tryd.prog.readableRec t=true∧t <Tryd.prog.types.size)→DataW.TrodAll enc Tryd.prog W 0 (fun _=>true) true ts vs ds ps→(∀x∈ps,x.block <W.heap.size)→
  DataW.TrodAll enc Tryd.prog W' 0 (fun b=>decide (b <W.heap.size)) true ts vs ds ps
 | [],vs,ds,ps,_,h,_=>by
  obtain⟨rfl,rfl,rfl⟩:=trodAll_nil h
  exact trodAll_mk0
 | t::ts,vs,ds,ps,hr,h,ae=>by
  obtain⟨v,vs',d,vn,p,q,rfl,rfl,rfl,h0,h1⟩:=trodAll_cons h
  exact trodAll_cons_mk (Below.trod Bb7 (hr t (by simp)).1 (hr t (by simp)).2 h0 hb fun x hx=>ae x (by simp[hx]))
   (Uq hb ts vs' vn q (fun t' su=>hr t' (by simp[su])) h1 fun x hx=>ae x (by simp[hx]))
end Go.Proofs.YtifkbgkbajncjaaDoor
namespace Go.Proofs.YtifkbgkbajncjaaDoor
open Go.RowKit Go.WideShapes Go.ChangeShapes
section
variable {H:Type} {en:TypeId×Value→H} {P:Program} {w:World} {base:Nat} {spare:Nat→Bool} {held:Bool} {t e:TypeId} {v:Value} {d:DataW H} {p:List MemPlace} {r:Reach} {b0:Nat} {c:TC}
theorem Aqw (ht:P.underlying t=some (.slice e)) (ho:Um P c t) (hv:Value.okWide P w r b0 t v) (h:DataW.Trod en P w base spare held t v d p):
  ∃l:List (U c),(l.length≤maxLen∧∀x∈l,Wfd c x)∧∀(F:Nat→Prop) (N:Nm) (nx:Nat),FB w F→Hv F N nx w (.sl c l) v:=by
 obtain⟨a,len,cap,rfl⟩:=okWide_slice ht hv
 obtain⟨fuel,hf⟩:=h
 obtain⟨l,h1,h2⟩:=ho en w base spare held fuel _ _ hf
 refine⟨l,h1,fun F N nx hF=>?_⟩
 obtain⟨y,ys,e,h3,_⟩:=(h2 F N nx hF).inv
 have e':[Value.slice a len cap]=y::ys:=e
 cases e'
 exact h3
theorem Bax {cs:Array Value} (ho:Opn P c t) (ha:c.isAgg=true) (hv:v=.agg cs) (h:DataW.Trod en P w base spare held t v d p):
  ∃x:U c,Wfd c x∧∀(F:Nat→Prop) (N:Nm) (nx:Nat),FB w F→Hv F N nx w (AX c x) v:=by
 subst hv
 obtain⟨fuel,hf⟩:=h
 obtain⟨x,h2,h3⟩:=ho en w base spare held fuel _ _ hf
 exact⟨x,h2,fun F N nx hF=>Awv (h3 F N nx hF) ha⟩
theorem Ave {fs:Array Field} (ht:P.underlying t=some (.struct fs)) (ho:Opn P c t) (ha:c.isAgg=true) (hv:Value.okWide P w r b0 t v) (h:DataW.Trod en P w base spare held t v d p):
  ∃x:U c,Wfd c x∧∀(F:Nat→Prop) (N:Nm) (nx:Nat),FB w F→Hv F N nx w (AX c x) v:=by
 obtain⟨cs,ca,_⟩:=Ail ht hv
 exact Bax ho ha ca h
end
theorem A2d {P:Program} {f:FuncId} {args:List A} {nx':Nat} {o':AJ} {b:Bool} (h:Ax P f args 0 [] 1 (.v (.bool b)) nx' o') (W:World) (ru:PV (fun b=>b <W.heap.size) W) (vs:List Value) (ha:∀(F:Nat→Prop) (N:Nm) (nx:Nat),FB W F→HL F N nx W args vs):
  Calls P f vs.toArray W fun e W'=>e=.returned (.bool b)∧Below W.heap.size W W':=by
 have hr:Bi (fun b=>b <W.heap.size) ⟨fun _=>0,fun _=> .nilFunc⟩ 0 [] W:=⟨fun g hg=>hg,fun i ob hi=>(by cases hi),fun i ob g hi=>(by cases hi),fun i j x y g hi=>(by cases hi),ru⟩
 refine(h _ _ W vs hr (ha _ _ _ fun b hb=>hb)).mono fun e W' ⟨y,F',N',he,_,_,hy,hb⟩=>?_
 rw[hy.v_inv] at he
 exact⟨he,hb (Nat.le_refl _)⟩
end Go.Proofs.YtifkbgkbajncjaaDoor
namespace Go.Proofs.YtifkbgkbajncjaaDoor
open Go.RowKit Go.ChangeShapes Go.WideShapes Go.ChangeAt
theorem A29 {P:Program} {t e:TypeId} {n:Nat} {H:Type} {en:TypeId×Value→H} {W:World} {base:Nat} {spare:Nat→Bool} {held:Bool} {fuel:Nat} (hu:P.underlying t=some (.array n e)) (he:P.underlying e=some .string) (hc:P.cellsOf e=1) (ht:P.cellsOf t=n) {cs:List Value} {l:List ByteArray} {p:List MemPlace} (h:DataW.trod en P W base spare held fuel t cs=some (.agg (l.map fun x=> .lit (.string x.data.toList)),p)):cs=l.map Value.string:=by
 obtain⟨xs,m,_,hx,hl,hn,hg⟩:=DataW.trod_array hu h
 rw[ht] at hl
 rw[hc] at hg
 have e1:xs.map (·.1)=l.map fun x=>DataW.lit (.string x.data.toList):=by
  have:=congrArg Prod.fst hx
  simpa using this.symm
 have kj:l.length=n:=by
  have:=congrArg List.length e1
  simpa[hn] using this.symm
 refine List.ext_getElem? fun i=>?_
 by_cases hi:i <n
 ·have h1:=hg i hi
  have vc:xs[i]?=some xs[i]:=List.getElem?_eq_getElem (by omega)
  rw[vc] at h1
  obtain⟨m',e2,e3,_⟩:=DataW.trod_string he h1
  have e4:=congrArg (·[i]?) e1
  simp only[List.getElem?_map,vc,Option.map_some] at e4
  have u6:l[i]?=some l[i]:=List.getElem?_eq_getElem (by omega)
  rw[u6,Option.map_some,e3] at e4
  have e5:m'=l[i]:=by
   have:m'.data.toList=l[i].data.toList:=by simpa using e4
   have h2:=Array.toList_inj.1 this
   cases m'
   generalize l[i]=z at h2
   cases z
   exact congrArg ByteArray.mk h2
  rw[List.getElem?_map,u6,Option.map_some,←e5]
  have e6:((cs.drop (i*1)).take 1)[0]?=some (Value.string m'):=by rw[e2];rfl
  rw[List.getElem?_take_of_lt (by omega),List.getElem?_drop] at e6
  simpa using e6
 ·rw[List.getElem?_eq_none (by omega),List.getElem?_eq_none (by rw[List.length_map];omega)]
abbrev Asn:List (String×DataW Unit):=[("gemel/wire.names",Rows.laid_gemel_wire_names)]
theorem A6a (os:Os) (args:Array Value):laidMetH Tryd.prog Asn ((World.doorLaid Tryd.prog 400 os).forCall (fun _ _=>0) ⟨#[],args,[]⟩).memory:=
 laidMetH_of_parts3 (fuel:=8) (laidMet_of_run' 8 (by kernel_rfl) (by kernel_rfl)) (by kernel_rfl) (by kernel_rfl)
def gIx:Nat:=match UC with
 | [(i,_)]=>i
 |_=>0
theorem Bfb:Tryd.prog.globalNamed "gemel/wire.names" =some gIx:=by kernel_rfl
theorem Bkf:(Tryd.prog.globals[gIx]?).map (·.type)=some 90:=by kernel_rfl
def An2:List ByteArray:=match UC with
 | [(_,⟨.str,_,l⟩)]=>l
 |_=>[]
theorem Bb8:(Rows.laid_gemel_wire_names:DataW Unit)=.agg (An2.map fun x=> .lit (.string x.data.toList)):=by kernel_rfl
theorem A68:UC=[(gIx,⟨.str,rfl,An2⟩)]:=by kernel_rfl
theorem Bb2 {W:World} (h:laidMetH Tryd.prog Asn W):PV (fun b=>b <W.heap.size) W:=by
 rw[MakeChecks.laidMetH_plain _ _ _ (by kernel_rfl)] at h
 obtain⟨ps,⟨g0,t0,cs0,f0,p0,q0,jo,zg,ma,fc,_,eu⟩,_,dk⟩:=h
 obtain rfl:=Option.some.inj (Bfb.symm.trans jo)
 obtain rfl:=Option.some.inj (Bkf.symm.trans zg)
 rw[Bb8] at fc
 have ca:=A29 (l:=An2) Tryd.underlying90 Tryd.underlying9 (by kernel_rfl) (by kernel_rfl) fc
 have hlen:cs0.toList.length=6:=by rw[ca,List.length_map];kernel_rfl
 have bc:cs0.size=6:=by rw[←Array.length_toList];exact hlen
 have hm:MemPlace.cell gIx 0∈ps:=by
  rw[eu]
  refine List.mem_append.2 (.inl (List.mem_append.2 (.inl ?_)))
  unfold MemPlace.row
  rw[bc]
  exact List.mem_map.2 ⟨0,List.mem_range.2 (by decide),rfl⟩
 obtain⟨⟨c,t,hc⟩,_⟩:=dk gIx 0 hm
 have ni:c=cs0:=by
  unfold World.var? at ma
  rw[Bfb] at ma
  simp only[Option.bind_some,hc] at ma
  exact Option.some.inj ma
 subst ni
 intro x hx
 rw[A68] at hx
 obtain rfl:=List.mem_singleton.1 hx
 refine⟨Fw hc,t,?_⟩
 show W.heap[gIx]?=some (.cells (An2.map (sv .str)).toArray t (0,0))
 rw[hc]
 congr 2
 apply Array.ext'
 rw[ca]
 rfl
end Go.Proofs.YtifkbgkbajncjaaDoor
namespace Go.Proofs.YtifkbgkbajncjaaDoor.wireBack
open Go.ChangeShapes Go.WideShapes Go.ChangeAt Go.RowKit
theorem lifted (os:Os) (started:os.Started) (H:Type) (enc:TypeId×Value→H):
  ReturnsInHanded {} Tryd.checked os 3 .any (fun w args=>(Rows.wireBackSpec.pre enc Tryd.prog Tryd.f3 [] false w args∧laidMetH Tryd.prog Asn w)∧sizedMet enc Tryd.prog Tryd.f3 (OpenSpec.ofChange Rows.wireBackSpec) false w args)
   (Rows.wireBackSpec.post enc Tryd.prog Tryd.f3 false true false false):=by
 refine returnsInHanded_of_change_and (C:=Tryd.checked) (X:=fun w _=>laidMetH Tryd.prog Asn w) (fun _ _ _ hh h=>h.of_heap hh) own started (by kernel_rfl) Tryd.func3
  (ChangeSpec.witness_shaped (enc:=enc) (C:=Tryd.checked) (os:=os) (X:=fun w _=>laidMetH Tryd.prog Asn w) false (World.doorLaid Tryd.prog 400 os) #[.slice none 0 0,.agg #[.int .i64 0,.int .i64 0,.int .i64 0,.int .i64 0,.int .i64 0,.int .i64 0,.int .i64 0,.int .i64 0,.slice none 0 0,.int .i64 0,.int .i64 0,.slice none 0 0,.slice none 0 0,.slice none 0 0,.int .i64 0,.int .i64 0,.bool false],.slice none 0 0] 8 rfl (World.shaped_of_RefB (by kernel_rfl) (by kernel_rfl)) (by kernel_rfl) (by kernel_rfl) (by kernel_rfl) (A6a os _)) ?_
 intro W base args ds gs before o7 hW _ _ hL _
 have j3:∀(j:Nat) t v,Tryd.f3.params[j]?=some t→args[j]?=some v→Value.okWide Tryd.prog W .any base t v:=o7
 have xq:=hW
 have ae:∀x∈before,x.block <W.heap.size:=fun x hx=>hW.lt x hx
 obtain⟨p,q,xe,hV,rfl,hfz,hnd⟩:=hW
 have hA:DataW.TrodAll enc Tryd.prog W 0 (fun _=>true) true Tryd.f3.params.toList args.toList ds p:=xe
 rw[Tryd.params3] at hA j3
 have qt:=hA
 obtain⟨v0,vm,d0,ds0,p0,q0,cb,rfl,rfl,h0,r0⟩:=trodAll_cons hA
 obtain⟨v1,vs1,d1,ds1,p1,q1,rfl,rfl,rfl,h1,r1⟩:=trodAll_cons r0
 obtain⟨v2,vs2,d2,ds2,p2,q2,rfl,rfl,rfl,h2,r2⟩:=trodAll_cons r1
 obtain⟨rfl,rfl,rfl⟩:=trodAll_nil r2
 obtain rfl:args=#[v0,v1,v2]:=by cases args;simp_all
 obtain⟨rfl,rfl⟩:=trodVars_none hV
 obtain⟨a0,w0,g0⟩:=Aqw Tryd.underlying22 Bkw (j3 0 22 v0 rfl rfl) h0
 obtain⟨a1,w1,g1⟩:=Ave Tryd.underlying34 Bmd rfl (j3 1 34 v1 rfl rfl) h1
 obtain⟨a2,w2,g2⟩:=Aqw Tryd.underlying35 Bk1 (j3 2 35 v2 rfl rfl) h2
 obtain⟨hn,ht⟩:=Bd1 a0 a1 a2 w0 w1
 have hc:=Aft a0 a1 a2 hn
 have hr:Mg a0 a1 a2=.v (.bool true):=by show A.v (.bool (JW a0 a1 a2))=_;rw[ht]
 rw[hr] at hc
 refine(A2d hc W (Bb2 hL) [v0,v1,v2] fun F N nx hF=>HL.cons (g0 F N nx hF) (HL.cons (g1 F N nx hF) (HL.cons (g2 F N nx hF) (HL.nil)))).mono fun e W' ⟨he,bel⟩=>?_
 subst he
 have fx:∀t∈[22,34,35],Tryd.prog.readableRec t=true∧t <Tryd.prog.types.size:=by
  intro t ht
  simp only[List.mem_cons,List.not_mem_nil,or_false] at ht
  rcases ht with rfl|rfl|rfl
  all_goals exact⟨by kernel_rfl,of_decide_eq_true (by kernel_rfl)⟩
 exact⟨_,rfl,_,_,_,[],_,[],xq,trodAll_mk1 (shut_bool Tryd.underlying4 _),
  Uq bel _ _ _ _ fx qt (fun x hx=>ae x (by simpa using hx)),rfl,bel.frame _,fun h=>by cases h⟩
theorem tA:Tryd.prog.funcNamed Rows.wireBackRow.func=some 3:=by kernel_rfl
theorem b0:(Rows.wireBackRow.wf (OpenSpec.ofChange Rows.wireBackSpec))=true:=by kernel_rfl
theorem b1:(laidOutB Tryd.prog)=true:=by kernel_rfl
theorem b2:(mapsRowed Tryd.prog)=true:=by kernel_rfl
theorem b3:(Tryd.f3.params.all (Tryd.prog.readableRec ·))=true:=by kernel_rfl
theorem b4:(namedTie Tryd.prog Rows.wireBackRow.named Rows.wireBackSpec.vars)=true:=by kernel_rfl
theorem b5:((Rows.wireBackRow.stops==[]))=true:=by kernel_rfl
theorem b6:((Tryd.prog.stops==[]))=true:=by kernel_rfl
theorem b7:((Rows.wireBackRow.knobs==[]))=true:=by kernel_rfl
theorem b8:((Tryd.prog.stopKnobs==[]))=true:=by kernel_rfl
theorem b9:((Rows.wireBackRow.inPlace==Tryd.prog.inPlace 3))=true:=by kernel_rfl
theorem b10:((Rows.wireBackRow.unfollowed==Tryd.prog.unfollowed 3))=true:=by kernel_rfl
theorem b11:((Rows.wireBackRow.recurses==Tryd.prog.recurses 3))=true:=by kernel_rfl
theorem b12:((Rows.wireBackRow.named==Tryd.prog.varsNamed 3))=true:=by kernel_rfl
theorem b13:((Rows.wireBackRow.maps==(Tryd.f3.params.toList++Rows.wireBackSpec.plain.varTypes Tryd.prog).any (Tryd.prog.mapsRec ·)))=true:=by kernel_rfl
theorem b14:((Rows.wireBackRow.ifaces==(Tryd.f3.params.toList++Rows.wireBackSpec.plain.varTypes Tryd.prog).any (Tryd.prog.ifacesRec ·)))=true:=by kernel_rfl
theorem b15:((Rows.wireBackRow.mapsOut==Tryd.prog.mapsAmong Tryd.f3.resultTypes.toList))=true:=by kernel_rfl
theorem b16:((Rows.wireBackRow.loops==(Tryd.f3.params.toList++Rows.wireBackSpec.plain.varTypes Tryd.prog).any (Tryd.prog.loopsFrom ·)))=true:=by kernel_rfl
theorem b17:((Rows.wireBackRow.wideKeys==(Tryd.f3.params.toList++Rows.wireBackSpec.plain.varTypes Tryd.prog++Tryd.f3.resultTypes.toList).any (Tryd.prog.wideKeysFrom ·)))=true:=by kernel_rfl
theorem b18:(Rows.wireBackSpec.vars.all (Tryd.prog.varReadable ·))=true:=by kernel_rfl
theorem b19:(Tryd.f3.resultTypes.all (fun t=>Tryd.prog.readableRec t&&decide (t <Tryd.prog.types.size)))=true:=by kernel_rfl
theorem b20:((Rows.wireBackRow.ifacesOut==Tryd.f3.resultTypes.toList.any (Tryd.prog.ifacesRec ·)))=true:=by kernel_rfl
theorem b21:((Rows.wireBackRow.loopsOut==Tryd.f3.resultTypes.toList.any (Tryd.prog.loopsFrom ·)))=true:=by kernel_rfl
theorem b22:((Rows.wireBackRow.plainKeys==Tryd.prog.plainKeys))=true:=by kernel_rfl
theorem b23:(Rows.wireBackRow.shortTexts.isNone)=true:=by kernel_rfl
theorem b24:(Tryd.prog.stopsHeard)=true:=by kernel_rfl
theorem b25:(Tryd.prog.mayEnter)=true:=by kernel_rfl
theorem b26:((Rows.wireBackRow.lifted==Tryd.prog.liftsFinal))=true:=by kernel_rfl
theorem b27:((Tryd.prog.make==some Rows.wireBackRow.make))=true:=by kernel_rfl
theorem b28:((Rows.wireBackRow.kinds==(if Rows.wireBackRow.domain.isEmpty then[] else Tryd.f3.params.toList.map fun t=>match Tryd.prog.underlying t with|some (.int k)=>some k|_=>none)))=true:=by kernel_rfl
theorem b29:((Rows.wireBackRow.pinned==Rows.wireBackRow.pinnedBy))=true:=by kernel_rfl
theorem b30:((Rows.wireBackRow.veiled==(Tryd.f3.params.toList++Rows.wireBackSpec.plain.varTypes Tryd.prog++Tryd.f3.resultTypes.toList).any (Tryd.prog.veiledRec ·)))=true:=by kernel_rfl
theorem b31:(Rows.wireBackRow.veiledFits Tryd.prog Tryd.f3.params.toList (Tryd.f3.params.toList++Rows.wireBackSpec.plain.varTypes Tryd.prog++Tryd.f3.resultTypes.toList))=true:=by kernel_rfl
theorem Jq {a b:Bool} (h:a=true) (g:b=true):(a&&b)=true:=by rw[h,g];rfl
theorem tB:joinedFacts Tryd.prog 3 Tryd.f3 Rows.wireBackSpec Rows.wireBackRow=true:=by
 unfold joinedFacts
 exact(Jq (Jq (Jq (Jq (Jq (Jq (Jq (Jq (Jq (Jq (Jq (Jq (Jq (Jq (Jq (Jq (Jq (Jq (Jq (Jq (Jq (Jq (Jq (Jq (Jq (Jq (Jq (Jq (Jq (Jq (Jq b0 b1) b2) b3) b4) b5) b6) b7) b8) b9) b10) b11) b12) b13) b14) b15) b16) b17) b18) b19) b20) b21) b22) b23) b24) b25) b26) b27) b28) b29) b30) b31)
theorem tC:Tryd.f3.isInstance Tryd.prog Rows.wireBackRow.origin Rows.wireBackRow.targs:=of_decide_eq_true (by kernel_rfl)
theorem tD0:decide (Check.packageOf Tryd.f3.name= "main")=false:=by kernel_rfl
theorem tD:Tryd.f3.isWrapper Tryd.prog Rows.wireBackRow.wrapper Rows.wireBackRow.mainSum:=by
 unfold Func.isWrapper
 rw[if_neg (of_decide_eq_false tD0)]
 exact⟨rfl,rfl⟩
theorem over:Rows.wireBackRow.holds Tryd.pinned (OpenSpec.ofChange Rows.wireBackSpec):=
 OpenClaim.holds_of_wide 3 Tryd.f3 rfl rfl rfl rfl rfl rfl rfl ⟨rfl,rfl,rfl,rfl,rfl⟩ rfl rfl rfl rfl rfl tA Tryd.func3 tB tC tD
  (fun os started H enc _=>lifted os started H enc)
theorem proved:Rows.WireBackCardSaid:=
 Claim7.holds_tied_plain_at .later [] [.data] true (true,"b7e3c53d803a3030933549e91460946446ac0896065c4cb6b58d0d73ac0e6dc3") false
  over (fun _ h=>by cases h) (by kernel_rfl) (fun _ h=>by cases h) wireBack_row_tie rfl ⟨rfl,rfl⟩ (by kernel_rfl) rfl
  (fun f fn hf yi=>by
   obtain rfl:f=3:=Option.some.inj ((show Tryd.prog.funcNamed "gemel/gemellaw14.WireBack" =some 3 by kernel_rfl).symm.trans hf) |>.symm
   obtain rfl:fn=Tryd.f3:=(Option.some.inj (Tryd.func3.symm.trans yi)).symm
   exact⟨by kernel_rfl,fun j t ht=>by
    rw[Tryd.params3] at ht
    have hm:t∈[22,34,35]:=by simpa using Array.mem_of_getElem? ht
    have aj:([22,34,35].all fun u=>!Tryd.prog.wantsStandIn u)=true:=by kernel_rfl
    exact(show Tryd.prog.wantsStandIn t=false by simpa using List.all_eq_true.1 aj t hm)⟩)
  (by kernel_rfl)
end Go.Proofs.YtifkbgkbajncjaaDoor.wireBack

