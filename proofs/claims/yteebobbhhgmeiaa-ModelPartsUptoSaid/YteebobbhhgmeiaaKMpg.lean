/- made by a program (rowgen.py): ModelParts: for every input the law returns true, and each argument reads behind the call as it read before. -/
import Derived.Test.YteebobbhhgmeiaaKMpf

set_option maxRecDepth 100000
namespace Go.Proofs.Yteebobbhhgmeiaa
open Go.RowKit
theorem Bb1 {X:Type} (mk:Nat→Int→X) (len:Nat) (step:Nat→Int→Int) (P:Nat→Prop) (m c:Int) (s:Bool) (next:X→X) (goes:X→Cnd) (ps:X→List Prop)
  (hs:∀i n,i <len→0≤n→0≤step i n∧(step i n≤m→n+c≤step i n∧P i)) (hc:0≤c)
  (hg:∀i n,i≤len→Bq (goes (mk i n))=(decide (i <len)&&(s||decide (n≤m)))) (hn:∀i n,i <len→0≤n→next (mk i n)=mk (i+1) (step i n))
  (hp:∀i n,i≤len→0≤n→∀p∈ps (mk i n),p):
  ∀(f i:Nat) (n:Int),i≤len→len≤i+f→0≤n→
  AL next goes ps f (mk i n)∧∃k n',Bg next goes f (mk i n)=mk k n'∧0≤n'∧(n'≤m→n+c*((len:Int) - (i:Int))≤n'∧∀j,i≤j→j <len→P j)
 |0,i,n,hi,hf,h0=>by
  obtain rfl:i=len:=by omega
  have hb:=hg i n (Nat.le_refl _)
  rw[decide_eq_false (Nat.lt_irrefl _),Bool.false_and] at hb
  exact⟨⟨hp i n hi h0,hb⟩,i,n,rfl,h0,fun _=>⟨by rw[Int.sub_self,Int.mul_zero];omega,fun j h1 h2=>by omega⟩⟩
 | f+1,i,n,hi,hf,h0=>by
  have hb:=hg i n hi
  cases hv:Bq (goes (mk i n)) with
  | false=>
   have e:Bg next goes (f+1) (mk i n)=mk i n:=by
    show(bif Bq (goes (mk i n)) then _ else mk i n)=_
    rw[hv];rfl
   rw[e]
   refine⟨⟨hp i n hi h0,fun h=>by rw[hv] at h;cases h⟩,i,n,rfl,h0,fun hm=>?_⟩
   rw[hv] at hb
   rw[decide_eq_true hm,Bool.or_true,Bool.and_true] at hb
   have:¬i <len:=of_decide_eq_false hb.symm
   obtain rfl:i=len:=by omega
   exact⟨by rw[Int.sub_self,Int.mul_zero];omega,fun j h1 h2=>by omega⟩
  | true=>
   rw[hv] at hb
   have hi':i <len:=by
    cases h:decide (i <len) with
    |true=>exact of_decide_eq_true h
    |false=>rw[h] at hb;cases hb
   obtain⟨s1,s2⟩:=hs i n hi' h0
   have e:Bg next goes (f+1) (mk i n)=Bg next goes f (mk (i+1) (step i n)):=by
    show(bif Bq (goes (mk i n)) then Bg next goes f (next (mk i n)) else mk i n)=_
    rw[hv,hn i n hi' h0];rfl
   obtain⟨g1,k,n',g2,g3,g4⟩:=Bb1 mk len step P m c s next goes ps hs hc hg hn hp f (i+1) (step i n) hi' (by omega) s1
   rw[e]
   refine⟨⟨hp i n hi h0,fun _=>by rw[hn i n hi' h0];exact g1⟩,k,n',g2,g3,fun hm=>?_⟩
   obtain⟨a1,a2⟩:=g4 hm
   have hpos:0≤c*((len:Int) - ((i+1:Nat):Int)):=Int.mul_nonneg hc (by omega)
   obtain⟨b1,b2⟩:=s2 (by omega)
   have hd:c*((len:Int) - (i:Int))=c*((len:Int) - ((i+1:Nat):Int))+c:=by
    rw[show((len:Int) - (i:Int))=((len:Int) - ((i+1:Nat):Int))+1 by omega,Int.mul_add,Int.mul_one]
   refine⟨by rw[hd];omega,fun j h1 h2=>?_⟩
   by_cases e:j=i
   ·subst e;exact b2
   ·exact a2 j (by omega) h2
theorem VP {X:Type} (mk:Nat→Int→X) (len:Nat) (step:Nat→Int→Int) (P:Nat→Prop) (m c:Int) (s:Bool) (next:X→X) (goes:X→Cnd) (ps:X→List Prop) (f:Nat) (x:X) (n0:Int) (hx:x=mk 0 n0) (hf:len≤f) (h0:0≤n0)
  (hs:∀i n,i <len→0≤n→0≤step i n∧(step i n≤m→n+c≤step i n∧P i)) (hc:0≤c)
  (hg:∀i n,i≤len→Bq (goes (mk i n))=(decide (i <len)&&(s||decide (n≤m)))) (hn:∀i n,i <len→0≤n→next (mk i n)=mk (i+1) (step i n))
  (hp:∀i n,i≤len→0≤n→∀p∈ps (mk i n),p):
  AL next goes ps f x∧∃k n',Bg next goes f x=mk k n'∧0≤n'∧(n'≤m→n0+c*(len:Int)≤n'∧∀j,j <len→P j):=by
 subst hx
 obtain⟨h1,k,n',h2,h3,h4⟩:=Bb1 mk len step P m c s next goes ps hs hc hg hn hp f 0 n0 (Nat.zero_le _) (by omega) h0
 refine⟨h1,k,n',h2,h3,fun h=>?_⟩
 obtain⟨h5,h6⟩:=h4 h
 rw[show((len:Int) - ((0:Nat):Int))=(len:Int) by omega] at h5
 exact⟨h5,fun j hj=>h6 j (Nat.zero_le _) hj⟩
theorem RW {α:Type} {l:List α} {d:α} {P:α→Prop} (h:∀j,j <l.length→P (l.getD j d)):∀x∈l,P x:=fun x hx=>by
 obtain⟨j,hj,rfl⟩:=List.mem_iff_getElem.1 hx
 have:=h j hj
 rw[List.getD_eq_getElem?_getD,List.getElem?_eq_getElem hj] at this
 exact this
end Go.Proofs.Yteebobbhhgmeiaa
namespace Go.Proofs.Yteebobbhhgmeiaa
open Go.RowKit
noncomputable def B14:=A7 111 Y2 Cl
theorem Bv5:Dd Try.prog B14:=Av Ape Bbk
noncomputable def Aj5:=A7 25 WN B14
theorem Tv:Dd Try.prog Aj5:=Av A12 Bv5
abbrev Cm:Type:=(List TChange)×Int×Int×Int
def Lq (x:Cm):St:=⟨122,0,[(1,.sl .change x.1),(7,.v (.int .i64 x.2.1)),(8,.v (.int .i64 x.2.2.1)),(9,.v (.int .i64 x.2.2.2))],[]⟩
def Nj:St→Option Cm
 |⟨122,0,[(1,.sl .change z0),(7,.v (.int .i64 z1)),(8,.v (.int .i64 z2)),(9,.v (.int .i64 z3))],[]⟩=>some (z0,z1,z2,z3)
 |_=>none
theorem Ag6:∀s x,Nj s=some x→s=Lq x:=fun s x h=>by
 unfold Nj at h
 split at h
 ·cases h;rfl
 ·cases h
def WE:Dj:=⟨0,0,[1,7,8,9],[],[],[],[7],[]⟩
def Awp:DB:=⟨[],[],[1,7,8,9],[]⟩
def Bs (a0:List TChange) (a1:Int) (a2:Int) (a3:Int):Bool:=!!(decide (a3 <(↑(a0.getD a2.toNat (Ae TC.change)).5.length:Int))&&decide (a1≤(6000:Int)))
def L7 (a0:List TChange) (a1:Int) (a2:Int) (a3:Int):Int:=Ax (Ax (Ax a1 (10:Int) (6000:Int)) (↑((a0.getD a2.toNat (Ae TC.change)).5.getD a3.toNat (Ae TC.write)).1.size:Int) (6000:Int)) (↑((a0.getD a2.toNat (Ae TC.change)).5.getD a3.toNat (Ae TC.write)).4.size:Int) (6000:Int)
def Ag5 (a0:List TChange) (a1:Int) (a2:Int) (a3:Int):Bool:=!(decide (a3 <(↑(a0.getD a2.toNat (Ae TC.change)).5.length:Int))&&decide (a1≤(6000:Int)))
def Ei (x:Cm):Cm:=(x.1,L7 x.1 x.2.1 x.2.2.1 x.2.2.2,x.2.2.1,IntKind.i64.wrap (x.2.2.2+(1:Int)))
def Eh (x:Cm):Cnd:=some ((Bs x.1 x.2.1 x.2.2.1 x.2.2.2))
def Sy (x:Cm):List Prop:=[((0:Int)≤x.2.2.1∧x.2.2.1 <(↑x.1.length:Int)),((Bs x.1 x.2.1 x.2.2.1 x.2.2.2)=true→(0:Int)≤x.2.2.1∧x.2.2.1 <(↑x.1.length:Int)),((Bs x.1 x.2.1 x.2.2.1 x.2.2.2)=true→(0:Int)≤x.2.2.2∧x.2.2.2 <(↑(x.1.getD x.2.2.1.toNat (Ae TC.change)).5.length:Int)),((Bs x.1 x.2.1 x.2.2.1 x.2.2.2)=true→(0:Int)≤x.2.2.1∧x.2.2.1 <(↑x.1.length:Int)),((Bs x.1 x.2.1 x.2.2.1 x.2.2.2)=true→(0:Int)≤x.2.2.2∧x.2.2.2 <(↑(x.1.getD x.2.2.1.toNat (Ae TC.change)).5.length:Int))]
def Hu (x:Cm):List Prop:=[((0:Int)≤x.2.2.1∧x.2.2.1 <(↑x.1.length:Int)),((Bs x.1 x.2.1 x.2.2.1 x.2.2.2)=true→(0:Int)≤x.2.2.1∧x.2.2.1 <(↑x.1.length:Int)),((Bs x.1 x.2.1 x.2.2.1 x.2.2.2)=true→(0:Int)≤x.2.2.2∧x.2.2.2 <(↑(x.1.getD x.2.2.1.toNat (Ae TC.change)).5.length:Int))]
def Qc (x:Cm):Bo:=[(some 2,some (Ag5 x.1 x.2.1 x.2.2.1 x.2.2.2),⟨122,0,[(7,.v (.int .i64 x.2.1))],[]⟩)]
def FL (x:Cm):Nat:=((↑(x.1.getD x.2.2.1.toNat (Ae TC.change)).5.length:Int) - x.2.2.2).toNat
def GJ (x:Cm):Cm:=Bg Ei Eh (FL x) x
theorem Ar4 (a0:List TChange) (a1:Int) (a2:Int) (a3:Int):Bz (AA Aj5 L0) 9 (Aj Try.prog 45 2) WE (Lq (a0,a1,a2,a3))=some (Sy (a0,a1,a2,a3),Qc (a0,a1,a2,a3),Eh (a0,a1,a2,a3),Lq (Ei (a0,a1,a2,a3))):=by kernel_rfl
theorem Ar5 (a0:List TChange) (a1:Int) (a2:Int) (a3:Int) (hp:∀p∈Hu (a0,a1,a2,a3),p):∀p∈Sy (a0,a1,a2,a3),p:=by
 have n0:=N0 hp
 have n1:((Bs a0 a1 a2 a3)=true→(0:Int)≤a2∧a2 <(↑a0.length:Int)):=N0 (N1 hp)
 have n2:((Bs a0 a1 a2 a3)=true→(0:Int)≤a3∧a3 <(↑(a0.getD a2.toNat (Ae TC.change)).5.length:Int)):=N0 (N1 (N1 hp))
 exact(Aa n0 (Aa n1 (Aa n2 (Aa n1 (Aa n2 Ab)))))
noncomputable def Sz:=H1 (AA Aj5 L0) (Aj Try.prog 45 2) WE Awp Nj FL Ei Eh Hu Qc
theorem Ak7:∀s b ps outs,Sz s=some (b,ps,outs)→Wf s ⟨ps,outs,none⟩∧Bx (AA C0 L0) b s ps outs:=
 Bm (T:=Lq) Tv AH (u:=9) (by kernel_rfl) (by decide) (fun⟨a0,a1,a2,a3⟩=>Ar4 a0 a1 a2 a3) (fun⟨a0,a1,a2,a3⟩=>Ar5 a0 a1 a2 a3) Ag6 (fun _=>AW (n:=122) rfl) fun _ _=>rfl
noncomputable def Lp:=DP 2 Sz L0
theorem Sw:Hr Lp:=A6 Ak7 AH
abbrev Cg:Type:=(List TChange)×Int×Int
def Lo (x:Cg):St:=⟨122,0,[(1,.sl .change x.1),(7,.v (.int .i64 x.2.1)),(8,.v (.int .i64 x.2.2))],[]⟩
def Ni:St→Option Cg
 |⟨122,0,[(1,.sl .change z0),(7,.v (.int .i64 z1)),(8,.v (.int .i64 z2))],[]⟩=>some (z0,z1,z2)
 |_=>none
theorem Ag4:∀s x,Ni s=some x→s=Lo x:=fun s x h=>by
 unfold Ni at h
 split at h
 ·cases h;rfl
 ·cases h
def WD:Dj:=⟨0,0,[1,7,8],[],[],[],[7],[]⟩
def Awo:DB:=⟨[],[],[1,7,8],[]⟩
def Dv (a0:List TChange) (a1:Int) (a2:Int):Bool:=!!(decide (a2 <(↑a0.length:Int))&&decide (a1≤(6000:Int)))
def JZ (a0:List TChange) (a1:Int) (a2:Int):Int:=(GJ (a0,Ax a1 (10:Int) (6000:Int),a2,(0:Int))).snd.fst
def Ak5 (a0:List TChange) (a1:Int) (a2:Int):Bool:=!(decide (a2 <(↑a0.length:Int))&&decide (a1≤(6000:Int)))
def Eg (x:Cg):Cg:=(x.1,JZ x.1 x.2.1 x.2.2,IntKind.i64.wrap (x.2.2+(1:Int)))
def Ef (x:Cg):Cnd:=some ((Dv x.1 x.2.1 x.2.2))
def Su (x:Cg):List Prop:=[((Dv x.1 x.2.1 x.2.2)=true→Aj Try.prog (45:FuncId) (2:Nat)=Aj Try.prog (45:FuncId) (2:Nat)),((Dv x.1 x.2.1 x.2.2)=true→AL Ei Eh Hu (FL (x.1,Ax x.2.1 (10:Int) (6000:Int),x.2.2,(0:Int))) (x.1,Ax x.2.1 (10:Int) (6000:Int),x.2.2,(0:Int)))]
def Ht (x:Cg):List Prop:=[((Dv x.1 x.2.1 x.2.2)=true→AL Ei Eh Hu (FL (x.1,Ax x.2.1 (10:Int) (6000:Int),x.2.2,(0:Int))) (x.1,Ax x.2.1 (10:Int) (6000:Int),x.2.2,(0:Int)))]
def Qb (x:Cg):Bo:=[(some 0,some (Ak5 x.1 x.2.1 x.2.2),⟨122,0,[(7,.v (.int .i64 x.2.1))],[]⟩)]
def FK (x:Cg):Nat:=((↑x.1.length:Int) - x.2.2).toNat
def Df (x:Cg):Cg:=Bg Eg Ef (FK x) x
theorem Ar2 (a0:List TChange) (a1:Int) (a2:Int):Bz (AA Aj5 Lp) 9 (Aj Try.prog 45 0) WD (Lo (a0,a1,a2))=some (Su (a0,a1,a2),Qb (a0,a1,a2),Ef (a0,a1,a2),Lo (Eg (a0,a1,a2))):=by kernel_rfl
theorem Ar3 (a0:List TChange) (a1:Int) (a2:Int) (hp:∀p∈Ht (a0,a1,a2),p):∀p∈Su (a0,a1,a2),p:=by
 have n0:((Dv a0 a1 a2)=true→Aj Try.prog (45:FuncId) (2:Nat)=Aj Try.prog (45:FuncId) (2:Nat)):=by intros;rfl
 have n1:=N0 hp
 exact(Aa n0 (Aa n1 Ab))
noncomputable def Sv:=H1 (AA Aj5 Lp) (Aj Try.prog 45 0) WD Awo Ni FK Eg Ef Ht Qb
theorem Ak6:∀s b ps outs,Sv s=some (b,ps,outs)→Wf s ⟨ps,outs,none⟩∧Bx (AA C0 L0) b s ps outs:=
 Bm (T:=Lo) Tv Sw (u:=9) (by kernel_rfl) (by decide) (fun⟨a0,a1,a2⟩=>Ar2 a0 a1 a2) (fun⟨a0,a1,a2⟩=>Ar3 a0 a1 a2) Ag4 (fun _=>AW (n:=122) rfl) fun _ _=>rfl
noncomputable def Ln:=DP 0 Sv Lp
theorem Ss:Hr Ln:=A6 Ak6 Sw
abbrev Cr:Type:=Int×(List TRow)×Int×Int
def Lv (x:Cr):St:=⟨122,0,[(7,.v (.int .i64 x.1)),(11,.sl .row x.2.1),(12,.v (.int .i64 x.2.2.1)),(13,.v (.int .i64 x.2.2.2))],[]⟩
def Nn:St→Option Cr
 |⟨122,0,[(7,.v (.int .i64 z0)),(11,.sl .row z1),(12,.v (.int .i64 z2)),(13,.v (.int .i64 z3))],[]⟩=>some (z0,z1,z2,z3)
 |_=>none
theorem Ag9:∀s x,Nn s=some x→s=Lv x:=fun s x h=>by
 unfold Nn at h
 split at h
 ·cases h;rfl
 ·cases h
def WI:Dj:=⟨0,0,[7,11,12,13],[],[],[],[7],[]⟩
def Aws:DB:=⟨[],[],[7,11,12,13],[]⟩
def Dy (a0:Int) (a1:List TRow) (a2:Int) (a3:Int):Bool:=!!(decide (a3 <(↑(a1.getD a2.toNat (Ae TC.row)).2.length:Int))&&decide (a0≤(6000:Int)))
def L9 (a0:Int) (a1:List TRow) (a2:Int) (a3:Int):Int:=Ax (Ax a0 (10:Int) (6000:Int)) (↑((a1.getD a2.toNat (Ae TC.row)).2.getD a3.toNat (Ae TC.cell)).4.size:Int) (6000:Int)
def Alc (a0:Int) (a1:List TRow) (a2:Int) (a3:Int):Bool:=!(decide (a3 <(↑(a1.getD a2.toNat (Ae TC.row)).2.length:Int))&&decide (a0≤(6000:Int)))
def DA (x:Cr):Cr:=(L9 x.1 x.2.1 x.2.2.1 x.2.2.2,x.2.1,x.2.2.1,IntKind.i64.wrap (x.2.2.2+(1:Int)))
def Dz (x:Cr):Cnd:=some ((Dy x.1 x.2.1 x.2.2.1 x.2.2.2))
def SG (x:Cr):List Prop:=[((0:Int)≤x.2.2.1∧x.2.2.1 <(↑x.2.1.length:Int)),((Dy x.1 x.2.1 x.2.2.1 x.2.2.2)=true→(0:Int)≤x.2.2.1∧x.2.2.1 <(↑x.2.1.length:Int)),((Dy x.1 x.2.1 x.2.2.1 x.2.2.2)=true→(0:Int)≤x.2.2.2∧x.2.2.2 <(↑(x.2.1.getD x.2.2.1.toNat (Ae TC.row)).2.length:Int))]
def F5 (x:Cr):List Prop:=[((0:Int)≤x.2.2.1∧x.2.2.1 <(↑x.2.1.length:Int)),((Dy x.1 x.2.1 x.2.2.1 x.2.2.2)=true→(0:Int)≤x.2.2.1∧x.2.2.1 <(↑x.2.1.length:Int)),((Dy x.1 x.2.1 x.2.2.1 x.2.2.2)=true→(0:Int)≤x.2.2.2∧x.2.2.2 <(↑(x.2.1.getD x.2.2.1.toNat (Ae TC.row)).2.length:Int))]
def Qf (x:Cr):Bo:=[(some 8,some (Alc x.1 x.2.1 x.2.2.1 x.2.2.2),⟨122,0,[(7,.v (.int .i64 x.1))],[]⟩)]
def Em (x:Cr):Nat:=((↑(x.2.1.getD x.2.2.1.toNat (Ae TC.row)).2.length:Int) - x.2.2.2).toNat
def GL (x:Cr):Cr:=Bg DA Dz (Em x) x
theorem Asa (a0:Int) (a1:List TRow) (a2:Int) (a3:Int):Bz (AA Aj5 Ln) 9 (Aj Try.prog 45 8) WI (Lv (a0,a1,a2,a3))=some (SG (a0,a1,a2,a3),Qf (a0,a1,a2,a3),Dz (a0,a1,a2,a3),Lv (DA (a0,a1,a2,a3))):=by kernel_rfl
theorem Asb (a0:Int) (a1:List TRow) (a2:Int) (a3:Int) (hp:∀p∈F5 (a0,a1,a2,a3),p):∀p∈SG (a0,a1,a2,a3),p:=by
 have n0:=N0 hp
 have n1:=N0 (N1 hp)
 have n2:=N0 (N1 (N1 hp))
 exact(Aa n0 (Aa n1 (Aa n2 Ab)))
noncomputable def SH:=H1 (AA Aj5 Ln) (Aj Try.prog 45 8) WI Aws Nn Em DA Dz F5 Qf
theorem Ald:∀s b ps outs,SH s=some (b,ps,outs)→Wf s ⟨ps,outs,none⟩∧Bx (AA C0 L0) b s ps outs:=
 Bm (T:=Lv) Tv Ss (u:=9) (by kernel_rfl) (by decide) (fun⟨a0,a1,a2,a3⟩=>Asa a0 a1 a2 a3) (fun⟨a0,a1,a2,a3⟩=>Asb a0 a1 a2 a3) Ag9 (fun _=>AW (n:=122) rfl) fun _ _=>rfl
noncomputable def Lu:=DP 8 SH Ln
theorem SF:Hr Lu:=A6 Ald Ss
abbrev Cp:Type:=Int×(List TRow)×Int
def Lt (x:Cp):St:=⟨122,0,[(7,.v (.int .i64 x.1)),(11,.sl .row x.2.1),(12,.v (.int .i64 x.2.2))],[]⟩
def Nl:St→Option Cp
 |⟨122,0,[(7,.v (.int .i64 z0)),(11,.sl .row z1),(12,.v (.int .i64 z2))],[]⟩=>some (z0,z1,z2)
 |_=>none
theorem Ag8:∀s x,Nl s=some x→s=Lt x:=fun s x h=>by
 unfold Nl at h
 split at h
 ·cases h;rfl
 ·cases h
def WH:Dj:=⟨0,0,[7,11,12],[],[],[],[7],[]⟩
def Awr:DB:=⟨[],[],[7,11,12],[]⟩
def BT (a0:Int) (a1:List TRow) (a2:Int):Bool:=!!(decide (a2 <(↑a1.length:Int))&&decide (a0≤(6000:Int)))
def J1 (a0:Int) (a1:List TRow) (a2:Int):Int:=(GL (Ax (Ax a0 (10:Int) (6000:Int)) (↑(a1.getD a2.toNat (Ae TC.row)).1.size:Int) (6000:Int),a1,a2,(0:Int))).fst
def Ala (a0:Int) (a1:List TRow) (a2:Int):Bool:=!(decide (a2 <(↑a1.length:Int))&&decide (a0≤(6000:Int)))
def Dx (x:Cp):Cp:=(J1 x.1 x.2.1 x.2.2,x.2.1,IntKind.i64.wrap (x.2.2+(1:Int)))
def Dw (x:Cp):Cnd:=some ((BT x.1 x.2.1 x.2.2))
def SD (x:Cp):List Prop:=[((BT x.1 x.2.1 x.2.2)=true→(0:Int)≤x.2.2∧x.2.2 <(↑x.2.1.length:Int)),((BT x.1 x.2.1 x.2.2)=true→Aj Try.prog (45:FuncId) (8:Nat)=Aj Try.prog (45:FuncId) (8:Nat)),((BT x.1 x.2.1 x.2.2)=true→AL DA Dz F5 (Em (Ax (Ax x.1 (10:Int) (6000:Int)) (↑(x.2.1.getD x.2.2.toNat (Ae TC.row)).1.size:Int) (6000:Int),x.2.1,x.2.2,(0:Int))) (Ax (Ax x.1 (10:Int) (6000:Int)) (↑(x.2.1.getD x.2.2.toNat (Ae TC.row)).1.size:Int) (6000:Int),x.2.1,x.2.2,(0:Int)))]
def F4 (x:Cp):List Prop:=[((BT x.1 x.2.1 x.2.2)=true→(0:Int)≤x.2.2∧x.2.2 <(↑x.2.1.length:Int)),((BT x.1 x.2.1 x.2.2)=true→AL DA Dz F5 (Em (Ax (Ax x.1 (10:Int) (6000:Int)) (↑(x.2.1.getD x.2.2.toNat (Ae TC.row)).1.size:Int) (6000:Int),x.2.1,x.2.2,(0:Int))) (Ax (Ax x.1 (10:Int) (6000:Int)) (↑(x.2.1.getD x.2.2.toNat (Ae TC.row)).1.size:Int) (6000:Int),x.2.1,x.2.2,(0:Int)))]
def Qe (x:Cp):Bo:=[(some 6,some (Ala x.1 x.2.1 x.2.2),⟨122,0,[(7,.v (.int .i64 x.1))],[]⟩)]
def El (x:Cp):Nat:=((↑x.2.1.length:Int) - x.2.2).toNat
def GK (x:Cp):Cp:=Bg Dx Dw (El x) x
theorem Ar8 (a0:Int) (a1:List TRow) (a2:Int):Bz (AA Aj5 Lu) 9 (Aj Try.prog 45 6) WH (Lt (a0,a1,a2))=some (SD (a0,a1,a2),Qe (a0,a1,a2),Dw (a0,a1,a2),Lt (Dx (a0,a1,a2))):=by kernel_rfl
theorem Ar9 (a0:Int) (a1:List TRow) (a2:Int) (hp:∀p∈F4 (a0,a1,a2),p):∀p∈SD (a0,a1,a2),p:=by
 have n0:=N0 hp
 have n1:((BT a0 a1 a2)=true→Aj Try.prog (45:FuncId) (8:Nat)=Aj Try.prog (45:FuncId) (8:Nat)):=by intros;rfl
 have n2:=N0 (N1 hp)
 exact(Aa n0 (Aa n1 (Aa n2 Ab)))
noncomputable def SE:=H1 (AA Aj5 Lu) (Aj Try.prog 45 6) WH Awr Nl El Dx Dw F4 Qe
theorem Alb:∀s b ps outs,SE s=some (b,ps,outs)→Wf s ⟨ps,outs,none⟩∧Bx (AA C0 L0) b s ps outs:=
 Bm (T:=Lt) Tv SF (u:=9) (by kernel_rfl) (by decide) (fun⟨a0,a1,a2⟩=>Ar8 a0 a1 a2) (fun⟨a0,a1,a2⟩=>Ar9 a0 a1 a2) Ag8 (fun _=>AW (n:=122) rfl) fun _ _=>rfl
noncomputable def Ls:=DP 6 SE Lu
theorem SC:Hr Ls:=A6 Alb SF
abbrev Co:Type:=Int×(List (List TRow))×Int×Int
def Lr (x:Co):St:=⟨122,0,[(7,.v (.int .i64 x.1)),(67,.sl .rows x.2.1),(68,.v (.int .i64 x.2.2.1)),(69,.v (.int .i64 x.2.2.2))],[]⟩
def Nk:St→Option Co
 |⟨122,0,[(7,.v (.int .i64 z0)),(67,.sl .rows z1),(68,.v (.int .i64 z2)),(69,.v (.int .i64 z3))],[]⟩=>some (z0,z1,z2,z3)
 |_=>none
theorem Ag7:∀s x,Nk s=some x→s=Lr x:=fun s x h=>by
 unfold Nk at h
 split at h
 ·cases h;rfl
 ·cases h
def WG:Dj:=⟨0,0,[7,67,68,69],[],[],[],[7],[]⟩
def Awq:DB:=⟨[],[],[7,67,68,69],[]⟩
def J0 (a0:Int) (a1:List (List TRow)) (_a2:Int) (a3:Int):Int:=(GK (a0,a1.getD a3.toNat (Ae TC.rows),(0:Int))).fst
def Ek (x:Co):Co:=(J0 x.1 x.2.1 x.2.2.1 x.2.2.2,x.2.1,x.2.2.1,IntKind.i64.wrap (x.2.2.2+(1:Int)))
def Ej (x:Co):Cnd:=some (!!decide (x.2.2.2 <x.2.2.1))
def SA (x:Co):List Prop:=[((!!decide (x.2.2.2 <x.2.2.1))=true→(0:Int)≤x.2.2.2∧x.2.2.2 <(↑x.2.1.length:Int)),((!!decide (x.2.2.2 <x.2.2.1))=true→Aj Try.prog (45:FuncId) (6:Nat)=Aj Try.prog (45:FuncId) (6:Nat)),((!!decide (x.2.2.2 <x.2.2.1))=true→AL Dx Dw F4 (El (x.1,x.2.1.getD x.2.2.2.toNat (Ae TC.rows),(0:Int))) (x.1,x.2.1.getD x.2.2.2.toNat (Ae TC.rows),(0:Int)))]
def Hw (x:Co):List Prop:=[((!!decide (x.2.2.2 <x.2.2.1))=true→(0:Int)≤x.2.2.2∧x.2.2.2 <(↑x.2.1.length:Int)),((!!decide (x.2.2.2 <x.2.2.1))=true→AL Dx Dw F4 (El (x.1,x.2.1.getD x.2.2.2.toNat (Ae TC.rows),(0:Int))) (x.1,x.2.1.getD x.2.2.2.toNat (Ae TC.rows),(0:Int)))]
def Qd (x:Co):Bo:=[(some 4,some (!decide (x.2.2.2 <x.2.2.1)),⟨122,0,[(7,.v (.int .i64 x.1))],[]⟩)]
def FM (x:Co):Nat:=(x.2.2.1 - x.2.2.2).toNat
def L8 (x:Co):Co:=Bg Ek Ej (FM x) x
theorem Ar6 (a0:Int) (a1:List (List TRow)) (a2:Int) (a3:Int):Bz (AA Aj5 Ls) 9 (Aj Try.prog 45 4) WG (Lr (a0,a1,a2,a3))=some (SA (a0,a1,a2,a3),Qd (a0,a1,a2,a3),Ej (a0,a1,a2,a3),Lr (Ek (a0,a1,a2,a3))):=by kernel_rfl
theorem Ar7 (a0:Int) (a1:List (List TRow)) (a2:Int) (a3:Int) (hp:∀p∈Hw (a0,a1,a2,a3),p):∀p∈SA (a0,a1,a2,a3),p:=by
 have n0:=N0 hp
 have n1:((!!decide (a3 <a2))=true→Aj Try.prog (45:FuncId) (6:Nat)=Aj Try.prog (45:FuncId) (6:Nat)):=by intros;rfl
 have n2:=N0 (N1 hp)
 exact(Aa n0 (Aa n1 (Aa n2 Ab)))
noncomputable def SB:=H1 (AA Aj5 Ls) (Aj Try.prog 45 4) WG Awq Nk FM Ek Ej Hw Qd
theorem Ak9:∀s b ps outs,SB s=some (b,ps,outs)→Wf s ⟨ps,outs,none⟩∧Bx (AA C0 L0) b s ps outs:=
 Bm (T:=Lr) Tv SC (u:=9) (by kernel_rfl) (by decide) (fun⟨a0,a1,a2,a3⟩=>Ar6 a0 a1 a2 a3) (fun⟨a0,a1,a2,a3⟩=>Ar7 a0 a1 a2 a3) Ag7 (fun _=>AW (n:=122) rfl) fun _ _=>rfl
noncomputable def WF:=DP 4 SB Ls
theorem Ak8:Hr WF:=A6 Ak9 SC
def MT (a0:List TGroup) (a1:List TChange) (a2:List (List TRow)):Bool:=decide ((L8 ((Df (a1,Ax (0:Int) (↑a0.length:Int) (6000:Int),(0:Int))).snd.fst,a2,(↑a2.length:Int),(0:Int))).fst≤(6000:Int))
def Aov (a0:List TGroup) (a1:List TChange) (a2:List (List TRow)):A:=.v (.bool (MT a0 a1 a2))
def Aou (_a0:List TGroup) (_a1:List TChange) (_a2:List (List TRow)):Objs:=[]
def Ahb (a0:List TGroup) (a1:List TChange) (a2:List (List TRow)):List Prop:=[(AL Eg Ef Ht (FK (a1,Ax (0:Int) (↑a0.length:Int) (6000:Int),(0:Int))) (a1,Ax (0:Int) (↑a0.length:Int) (6000:Int),(0:Int))),(AL Ek Ej Hw (FM ((Df (a1,Ax (0:Int) (↑a0.length:Int) (6000:Int),(0:Int))).snd.fst,a2,(↑a2.length:Int),(0:Int))) ((Df (a1,Ax (0:Int) (↑a0.length:Int) (6000:Int),(0:Int))).snd.fst,a2,(↑a2.length:Int),(0:Int)))]
theorem A7u (a0:List TGroup) (a1:List TChange) (a2:List (List TRow)):EQ (AA Aj5 WF) 9 45 [.sl .group a0,.sl .change a1,.sl .rows a2] 0 []=some (1,Aov a0 a1 a2,0,Aou a0 a1 a2,[(Aj Try.prog (45:FuncId) (0:Nat)=Aj Try.prog (45:FuncId) (0:Nat)),(AL Eg Ef Ht (FK (a1,Ax (0:Int) (↑a0.length:Int) (6000:Int),(0:Int))) (a1,Ax (0:Int) (↑a0.length:Int) (6000:Int),(0:Int))),(Aj Try.prog (45:FuncId) (4:Nat)=Aj Try.prog (45:FuncId) (4:Nat)),(AL Ek Ej Hw (FM ((Df (a1,Ax (0:Int) (↑a0.length:Int) (6000:Int),(0:Int))).snd.fst,a2,(↑a2.length:Int),(0:Int))) ((Df (a1,Ax (0:Int) (↑a0.length:Int) (6000:Int),(0:Int))).snd.fst,a2,(↑a2.length:Int),(0:Int)))]):=by kernel_rfl
theorem Bd2 (a0:List TGroup) (a1:List TChange) (a2:List (List TRow)) (hp:∀p∈Ahb a0 a1 a2,p):CallOk Try.prog 45 [.sl .group a0,.sl .change a1,.sl .rows a2] 0 [] 1 (Aov a0 a1 a2) 0 (Aou a0 a1 a2):=by
 have n1:=N0 hp
 have n3:=N0 (N1 hp)
 exact AI (Aw Tv Ak8) (A7u a0 a1 a2) (Aa rfl (Aa n1 (Aa rfl (Aa n3 Ab))))
def Ahc (a0:List TGroup) (a1:List TChange) (a2:List (List TRow)):A:=.v (.bool (MT a0 a1 a2))
def Aha (_a0:List TGroup) (_a1:List TChange) (_a2:List (List TRow)):Objs:=[]
def RV (c:TChange):Prop:=Az c.writes.length∧∀w∈c.writes,Az w.key.size∧Az w.value.size
def Ajr (c:TChange):Prop:=c.writes.length≤6000∧∀w∈c.writes,w.key.size≤6000∧w.value.size≤6000
def ZT (a0:List TGroup) (a1:List TChange) (a2:List (List TRow)):List Prop:=[Az a0.length∧(Az a1.length∧∀c∈a1,RV c)∧Az a2.length∧∀x∈a2,Az x.length∧∀r∈x,YE r]
theorem Ark {n k:Int} (hn:0≤n) (hk:0≤k∧k≤9223372036854775807):0≤Ax n k 6000∧(Ax n k 6000≤6000→n+k≤Ax n k 6000∧n+k≤6000):=by
 obtain⟨h1,h2,h3⟩:=Au3 (n:=n) (k:=k) (m:=6000) hn hk (by omega)
 exact⟨h2,fun h=>⟨by rw[h3 (h1 h)];omega,h1 h⟩⟩
theorem A13 (rows:List TRow) (i:Nat) (hi:i <rows.length) (n0:Int) (h0:0≤n0) (hl:Az (rows.getD i (Ae TC.row)).cells.length) (hw:∀c∈(rows.getD i (Ae TC.row)).cells,Az c.value.size):
  AL DA Dz F5 (Em (n0,rows,(i:Int),0)) (n0,rows,(i:Int),0)∧
  0≤(GL (n0,rows,(i:Int),0)).fst∧((GL (n0,rows,(i:Int),0)).fst≤6000→n0+10*((rows.getD i (Ae TC.row)).cells.length:Int)≤(GL (n0,rows,(i:Int),0)).fst∧∀c∈(rows.getD i (Ae TC.row)).cells,c.value.size≤6000):=by
 generalize hcs:(rows.getD i (Ae TC.row)).cells=cs at*
 have hcs2:(rows.getD i (Ae TC.row)).2=cs:=hcs
 have hgo:∀(k:Nat) (n:Int),Dy n rows (i:Int) (k:Int)=(decide (k <cs.length)&&(false||decide (n≤6000))):=fun k n=>by
  unfold Dy
  rw[Int.toNat_natCast,hcs2,nn,Mp,Bool.false_or]
 unfold Az at hl
 obtain⟨h1,k,n',hx,h2,h3⟩:=VP (fun k n=>((n,rows,(i:Int),(k:Int)):Cr)) cs.length (fun k n=>Ax (Ax n 10 6000) ((cs.getD k (Ae TC.cell)).4.size:Int) 6000) (fun k=>(cs.getD k (Ae TC.cell)).value.size≤6000) 6000 10 false DA Dz F5 (Em (n0,rows,(i:Int),0)) (n0,rows,(i:Int),0) n0 rfl
  (by show cs.length≤(((rows.getD ((i:Int)).toNat (Ae TC.row)).2.length:Int) - 0).toNat;rw[Int.toNat_natCast,hcs2];omega) h0
  (fun k n hk hn=>by
   obtain⟨a1,a2⟩:=Ark (k:=10) hn (by omega)
   obtain⟨b1,b2⟩:=Ark a1 (Abl (hw _ (getD_in cs (Ae TC.cell) k hk)))
   refine⟨b1,fun h=>?_⟩
   obtain⟨c1,c2⟩:=b2 h
   obtain⟨d1,d2⟩:=a2 (by omega)
   exact⟨by omega,by show(cs.getD k (Ae TC.cell)).4.size≤6000;omega⟩)
  (by omega)
  (fun k n _=>hgo k n)
  (fun k n hk _=>by
   show(L9 n rows (i:Int) (k:Int),rows,(i:Int),IntKind.i64.wrap ((k:Int)+1))=(_,rows,(i:Int),((k+1:Nat):Int))
   rw[Fp (by omega)]
   unfold L9
   rw[Int.toNat_natCast,Int.toNat_natCast,hcs2])
  (fun k n _ _=>Aa (by show(0:Int)≤(i:Int)∧(i:Int) <(rows.length:Int);omega) (Aa (fun _=>by show(0:Int)≤(i:Int)∧(i:Int) <(rows.length:Int);omega) (Aa (fun h=>by
   have h':Dy n rows (i:Int) (k:Int)=true:=h
   rw[hgo,Bool.and_eq_true] at h'
   have:=of_decide_eq_true h'.1
   show(0:Int)≤(k:Int)∧(k:Int) <((rows.getD ((i:Int)).toNat (Ae TC.row)).2.length:Int)
   rw[Int.toNat_natCast,hcs2]
   omega) Ab)))
 have hr:GL (n0,rows,(i:Int),0)=(n',rows,(i:Int),(k:Int)):=hx
 rw[hr]
 exact⟨h1,h2,fun h=>⟨(h3 h).1,RW (h3 h).2⟩⟩
theorem A72 (rows:List TRow) (n0:Int) (h0:0≤n0) (hl:Az rows.length) (hw:∀r∈rows,YE r):
  AL Dx Dw F4 (El (n0,rows,0)) (n0,rows,0)∧
  0≤(GK (n0,rows,0)).fst∧((GK (n0,rows,0)).fst≤6000→n0+10*(rows.length:Int)≤(GK (n0,rows,0)).fst∧∀r∈rows,Yu 6000 r):=by
 have hgo:∀(k:Nat) (n:Int),BT n rows (k:Int)=(decide (k <rows.length)&&(false||decide (n≤6000))):=fun k n=>by
  unfold BT
  rw[nn,Mp,Bool.false_or]
 unfold Az at hl
 have hin:∀(i:Nat) (n:Int),i <rows.length→0≤n→_:=fun i n hi hn=>
  A13 rows i hi (Ax (Ax n 10 6000) ((rows.getD i (Ae TC.row)).1.size:Int) 6000) (Ark (Ark hn (by omega)).1 (Abl (hw _ (getD_in rows (Ae TC.row) i hi)).1)).1 (hw _ (getD_in rows (Ae TC.row) i hi)).2.1 (hw _ (getD_in rows (Ae TC.row) i hi)).2.2
 obtain⟨h1,k,n',hx,h2,h3⟩:=VP (fun k n=>((n,rows,(k:Int)):Cp)) rows.length (fun k n=>J1 n rows (k:Int)) (fun k=>Yu 6000 (rows.getD k (Ae TC.row))) 6000 10 false Dx Dw F4 (El (n0,rows,0)) (n0,rows,0) n0 rfl
  (by show rows.length≤((rows.length:Int) - 0).toNat;omega) h0
  (fun k n hk hn=>by
   obtain⟨_,g2,g3⟩:=hin k n hk hn
   obtain⟨a1,a2⟩:=Ark (k:=10) hn (by omega)
   obtain⟨b1,b2⟩:=Ark a1 (Abl (hw _ (getD_in rows (Ae TC.row) k hk)).1)
   unfold J1
   rw[Int.toNat_natCast]
   refine⟨g2,fun h=>?_⟩
   obtain⟨c1,c2⟩:=g3 h
   have h':(GL (Ax (Ax n 10 6000) ((rows.getD k (Ae TC.row)).1.size:Int) 6000,rows,(k:Int),0)).fst≤6000:=h
   obtain⟨d1,d2⟩:=b2 (by omega)
   obtain⟨e1,e2⟩:=a2 (by omega)
   exact⟨by omega,by show(rows.getD k (Ae TC.row)).1.size≤6000;omega,by omega,c2⟩)
  (by omega)
  (fun k n _=>hgo k n)
  (fun k n hk _=>by
   show(J1 n rows (k:Int),rows,IntKind.i64.wrap ((k:Int)+1))=(_,rows,((k+1:Nat):Int))
   rw[Fp (by omega)])
  (fun k n hk hn=>by
   have hlt:BT n rows (k:Int)=true→k <rows.length:=fun h=>by
    rw[hgo,Bool.and_eq_true] at h
    exact of_decide_eq_true h.1
   refine Aa (fun h=>?_) (Aa (fun h=>?_) Ab)
   ·have:=hlt h
    show(0:Int)≤(k:Int)∧(k:Int) <(rows.length:Int)
    omega
   ·have:=(hin k n (hlt h) hn).1
    have e:((k:Int)).toNat=k:=Int.toNat_natCast k
    show AL DA Dz F5 (Em (Ax (Ax n 10 6000) ((rows.getD ((k:Int)).toNat (Ae TC.row)).1.size:Int) 6000,rows,(k:Int),0)) (Ax (Ax n 10 6000) ((rows.getD ((k:Int)).toNat (Ae TC.row)).1.size:Int) 6000,rows,(k:Int),0)
    rw[e]
    exact this)
 have hr:GK (n0,rows,0)=(n',rows,(k:Int)):=hx
 rw[hr]
 exact⟨h1,h2,fun h=>⟨(h3 h).1,RW (h3 h).2⟩⟩
theorem Beb (xs:List (List TRow)) (n0:Int) (h0:0≤n0) (hl:Az xs.length) (hw:∀x∈xs,Az x.length∧∀r∈x,YE r):
  AL Ek Ej Hw (FM (n0,xs,(xs.length:Int),0)) (n0,xs,(xs.length:Int),0)∧
  ((L8 (n0,xs,(xs.length:Int),0)).fst≤6000→n0≤6000∧∀x∈xs,x.length≤6000∧∀r∈x,Yu 6000 r):=by
 unfold Az at hl
 have hin:∀(i:Nat) (n:Int),i <xs.length→0≤n→_:=fun i n hi hn=>
  A72 (xs.getD i (Ae TC.rows)) n hn (hw _ (getD_in xs (Ae TC.rows) i hi)).1 (hw _ (getD_in xs (Ae TC.rows) i hi)).2
 obtain⟨h1,k,n',hx,h2,h3⟩:=VP (fun k n=>((n,xs,(xs.length:Int),(k:Int)):Co)) xs.length (fun k n=>J0 n xs (xs.length:Int) (k:Int)) (fun k=>(xs.getD k (Ae TC.rows)).length≤6000∧∀r∈xs.getD k (Ae TC.rows),Yu 6000 r) 6000 0 true Ek Ej Hw (FM (n0,xs,(xs.length:Int),0)) (n0,xs,(xs.length:Int),0) n0 rfl
  (by show xs.length≤((xs.length:Int) - 0).toNat;omega) h0
  (fun k n hk hn=>by
   obtain⟨_,g2,g3⟩:=hin k n hk hn
   unfold J0
   rw[Int.toNat_natCast]
   refine⟨g2,fun h=>?_⟩
   obtain⟨c1,c2⟩:=g3 h
   have h':(GK (n,xs.getD k (Ae TC.rows),0)).fst≤6000:=h
   exact⟨by omega,by omega,c2⟩)
  (Int.le_refl _)
  (fun k n _=>by
   show(!!decide ((k:Int) <(xs.length:Int)))=_
   rw[nn,Mp,Bool.true_or,Bool.and_true])
  (fun k n hk _=>by
   show(J0 n xs (xs.length:Int) (k:Int),xs,(xs.length:Int),IntKind.i64.wrap ((k:Int)+1))=(_,xs,(xs.length:Int),((k+1:Nat):Int))
   rw[Fp (by omega)])
  (fun k n hk hn=>by
   have hlt:(!!decide ((k:Int) <(xs.length:Int)))=true→k <xs.length:=fun h=>by
    rw[nn] at h
    have:=of_decide_eq_true h
    omega
   refine Aa (fun h=>?_) (Aa (fun h=>?_) Ab)
   ·have:=hlt h
    show(0:Int)≤(k:Int)∧(k:Int) <(xs.length:Int)
    omega
   ·have:=(hin k n (hlt h) hn).1
    have e:((k:Int)).toNat=k:=Int.toNat_natCast k
    show AL Dx Dw F4 (El (n,xs.getD ((k:Int)).toNat (Ae TC.rows),0)) (n,xs.getD ((k:Int)).toNat (Ae TC.rows),0)
    rw[e]
    exact this)
 have hr:L8 (n0,xs,(xs.length:Int),0)=(n',xs,(xs.length:Int),(k:Int)):=hx
 rw[hr]
 exact⟨h1,fun h=>⟨by have h':n'≤6000:=h;have:=(h3 h).1;omega,RW (h3 h).2⟩⟩
theorem Awx (cs:List TChange) (i:Nat) (hi:i <cs.length) (n0:Int) (h0:0≤n0) (hw:RV (cs.getD i (Ae TC.change))):
  AL Ei Eh Hu (FL (cs,n0,(i:Int),0)) (cs,n0,(i:Int),0)∧
  0≤(GJ (cs,n0,(i:Int),0)).snd.fst∧((GJ (cs,n0,(i:Int),0)).snd.fst≤6000→n0≤(GJ (cs,n0,(i:Int),0)).snd.fst∧Ajr (cs.getD i (Ae TC.change))):=by
 obtain⟨hl,hw⟩:=hw
 unfold Ajr
 generalize hcs:(cs.getD i (Ae TC.change)).writes=ws at*
 have hcs2:(cs.getD i (Ae TC.change)).5=ws:=hcs
 have hgo:∀(k:Nat) (n:Int),Bs cs n (i:Int) (k:Int)=(decide (k <ws.length)&&(false||decide (n≤6000))):=fun k n=>by
  unfold Bs
  rw[Int.toNat_natCast,hcs2,nn,Mp,Bool.false_or]
 unfold Az at hl
 obtain⟨h1,k,n',hx,h2,h3⟩:=VP (fun k n=>((cs,n,(i:Int),(k:Int)):Cm)) ws.length (fun k n=>Ax (Ax (Ax n 10 6000) ((ws.getD k (Ae TC.write)).1.size:Int) 6000) ((ws.getD k (Ae TC.write)).4.size:Int) 6000) (fun k=>(ws.getD k (Ae TC.write)).key.size≤6000∧(ws.getD k (Ae TC.write)).value.size≤6000) 6000 10 false Ei Eh Hu (FL (cs,n0,(i:Int),0)) (cs,n0,(i:Int),0) n0 rfl
  (by show ws.length≤(((cs.getD ((i:Int)).toNat (Ae TC.change)).5.length:Int) - 0).toNat;rw[Int.toNat_natCast,hcs2];omega) h0
  (fun k n hk hn=>by
   obtain⟨w1,w2⟩:=hw _ (getD_in ws (Ae TC.write) k hk)
   obtain⟨a1,a2⟩:=Ark (k:=10) hn (by omega)
   obtain⟨b1,b2⟩:=Ark a1 (Abl w1)
   obtain⟨f1,f2⟩:=Ark b1 (Abl w2)
   refine⟨f1,fun h=>?_⟩
   obtain⟨g1,g2⟩:=f2 h
   obtain⟨c1,c2⟩:=b2 (by omega)
   obtain⟨d1,d2⟩:=a2 (by omega)
   exact⟨by omega,by omega,by omega⟩)
  (by omega)
  (fun k n _=>hgo k n)
  (fun k n hk _=>by
   show(cs,L7 cs n (i:Int) (k:Int),(i:Int),IntKind.i64.wrap ((k:Int)+1))=(cs,_,(i:Int),((k+1:Nat):Int))
   rw[Fp (by omega)]
   unfold L7
   rw[Int.toNat_natCast,Int.toNat_natCast,hcs2])
  (fun k n _ _=>Aa (by show(0:Int)≤(i:Int)∧(i:Int) <(cs.length:Int);omega) (Aa (fun _=>by show(0:Int)≤(i:Int)∧(i:Int) <(cs.length:Int);omega) (Aa (fun h=>by
   have h':Bs cs n (i:Int) (k:Int)=true:=h
   rw[hgo,Bool.and_eq_true] at h'
   have:=of_decide_eq_true h'.1
   show(0:Int)≤(k:Int)∧(k:Int) <((cs.getD ((i:Int)).toNat (Ae TC.change)).5.length:Int)
   rw[Int.toNat_natCast,hcs2]
   omega) Ab)))
 have hr:GJ (cs,n0,(i:Int),0)=(cs,n',(i:Int),(k:Int)):=hx
 rw[hr]
 refine⟨h1,h2,fun h=>?_⟩
 have h':n'≤6000:=h
 obtain⟨q1,q2⟩:=h3 h
 refine⟨by show n0≤n';omega,by omega,?_⟩
 exact RW (P:=fun w:TWrite=>w.key.size≤6000∧w.value.size≤6000) q2
theorem Asc (cs:List TChange) (n0:Int) (h0:0≤n0) (hl:Az cs.length) (hw:∀c∈cs,RV c):
  AL Eg Ef Ht (FK (cs,n0,0)) (cs,n0,0)∧
  0≤(Df (cs,n0,0)).snd.fst∧((Df (cs,n0,0)).snd.fst≤6000→n0+10*(cs.length:Int)≤(Df (cs,n0,0)).snd.fst∧∀c∈cs,Ajr c):=by
 have hgo:∀(k:Nat) (n:Int),Dv cs n (k:Int)=(decide (k <cs.length)&&(false||decide (n≤6000))):=fun k n=>by
  unfold Dv
  rw[nn,Mp,Bool.false_or]
 unfold Az at hl
 have hin:∀(i:Nat) (n:Int),i <cs.length→0≤n→_:=fun i n hi hn=>
  Awx cs i hi (Ax n 10 6000) (Ark hn (by omega)).1 (hw _ (getD_in cs (Ae TC.change) i hi))
 obtain⟨h1,k,n',hx,h2,h3⟩:=VP (fun k n=>((cs,n,(k:Int)):Cg)) cs.length (fun k n=>JZ cs n (k:Int)) (fun k=>Ajr (cs.getD k (Ae TC.change))) 6000 10 false Eg Ef Ht (FK (cs,n0,0)) (cs,n0,0) n0 rfl
  (by show cs.length≤((cs.length:Int) - 0).toNat;omega) h0
  (fun k n hk hn=>by
   obtain⟨_,g2,g3⟩:=hin k n hk hn
   obtain⟨a1,a2⟩:=Ark (k:=10) hn (by omega)
   unfold JZ
   refine⟨g2,fun h=>?_⟩
   obtain⟨c1,c2⟩:=g3 h
   have h':(GJ (cs,Ax n 10 6000,(k:Int),0)).snd.fst≤6000:=h
   obtain⟨e1,e2⟩:=a2 (by omega)
   exact⟨by omega,c2⟩)
  (by omega)
  (fun k n _=>hgo k n)
  (fun k n hk _=>by
   show(cs,JZ cs n (k:Int),IntKind.i64.wrap ((k:Int)+1))=(cs,_,((k+1:Nat):Int))
   rw[Fp (by omega)])
  (fun k n hk hn=>Aa (fun h=>by
    have h':Dv cs n (k:Int)=true:=h
    rw[hgo,Bool.and_eq_true] at h'
    exact(hin k n (of_decide_eq_true h'.1) hn).1) Ab)
 have hr:Df (cs,n0,0)=(cs,n',(k:Int)):=hx
 rw[hr]
 exact⟨h1,h2,fun h=>⟨(h3 h).1,RW (h3 h).2⟩⟩
theorem Aww (l:List TGroup) (cs:List TChange) (xs:List (List TRow)) (hl:Az l.length) (hc:Az cs.length∧∀c∈cs,RV c) (hr:Az xs.length) (hw:∀x∈xs,Az x.length∧∀r∈x,YE r):(∀p∈Ahb l cs xs,p)∧
  (MT l cs xs=true→l.length≤6000∧(cs.length≤6000∧∀c∈cs,Ajr c)∧∀x∈xs,x.length≤6000∧∀r∈x,Yu 6000 r):=by
 obtain⟨a1,a2⟩:=Ark (n:=0) (k:=(l.length:Int)) (Int.le_refl _) (Abl hl)
 obtain⟨b1,b2,b3⟩:=Asc cs _ a1 hc.1 hc.2
 obtain⟨c1,c2⟩:=Beb xs _ b2 hr hw
 refine⟨Aa b1 (Aa c1 Ab),fun h=>?_⟩
 have h':=of_decide_eq_true h
 obtain⟨d1,d2⟩:=c2 h'
 obtain⟨e1,e2⟩:=b3 d1
 have:=a2 (by omega)
 exact⟨by omega,⟨by omega,e2⟩,d2⟩
theorem A7t (a0:List TGroup) (a1:List TChange) (a2:List (List TRow)) (hp:∀p∈ZT a0 a1 a2,p):CallOk Try.prog 45 [.sl .group a0,.sl .change a1,.sl .rows a2] 0 [] 1 (Ahc a0 a1 a2) 0 (Aha a0 a1 a2):=by
 obtain⟨h1,h2,h3,h4⟩:=hp _ (List.mem_cons_self ..)
 exact Bd2 a0 a1 a2 (Aww a0 a1 a2 h1 h2 h3 h4).1
def Qg:List A→Nat→Objs→Option Bb
 | [y0,y1,y2],nx,o=>match Kh .group y0,Kh .change y1,Kh .rows y2 with
  |some a0,some a1,some a2=>some (1,(Ahc a0 a1 a2).pk (AF nx),nx+0,AE nx (Aha a0 a1 a2)++o,ZT a0 a1 a2)
  |_,_,_=>none
 |_,_,_=>none
theorem ZU:Ft Try.prog 45 Qg:=fun args nx o k x nx' o' ps h=>by
 unfold Qg at h
 split at h<;>first|(cases h;done)|skip
 split at h<;>first|(cases h;done)|skip
 rename_i a0 a1 a2 e0 e1 e2
 cases h
 refine⟨fun hp=>?_,_,rfl⟩
 refine Ah (Ag (A7t a0 a1 a2 hp) (Nat.le_refl _) (Ac rfl (Ac rfl (Ac rfl Ao))) nx o) fun F N R vs hl=>?_
 obtain⟨v0,w0,rfl,h0,hl⟩:=hl.inv
 obtain⟨v1,w1,rfl,h1,hl⟩:=hl.inv
 obtain⟨v2,w2,rfl,h2,hl⟩:=hl.inv
 exact HL.cons (BX e0 h0) (HL.cons (BX e1 h1) (HL.cons (BX e2 h2) (hl)))
noncomputable def Brr:=A7 45 Qg Aj5
theorem A6c:Dd Try.prog Brr:=Av ZU Tv
abbrev BP:Type:=(List TGroup)×ByteArray×(List TRow)×Int×Int
def Kz (x:BP):St:=⟨38,0,[(0,.sl .group x.1),(6,.v (.string x.2.1)),(15,.sl .row x.2.2.1),(16,.v (.int .i64 x.2.2.2.1)),(17,.v (.int .i64 x.2.2.2.2))],[]⟩
def Mc:St→Option BP
 |⟨38,0,[(0,.sl .group z0),(6,.v (.string z1)),(15,.sl .row z2),(16,.v (.int .i64 z3)),(17,.v (.int .i64 z4))],[]⟩=>some (z0,z1,z2,z3,z4)
 |_=>none
theorem Acj:∀s x,Mc s=some x→s=Kz x:=fun s x h=>by
 unfold Mc at h
 split at h
 ·cases h;rfl
 ·cases h
def UN:Dj:=⟨0,0,[0,6,15,16,17],[],[],[],[4],[]⟩
def Asd:DB:=⟨[],[],[0,6,15,16,17],[]⟩
def ES (a0:List TGroup) (_a1:ByteArray) (a2:List TRow) (_a3:Int) (a4:Int):Bool:=Ap a0 (a2.getD a4.toNat (Ae TC.row)) !=(0:Int)
def DR (a0:List TGroup) (a1:ByteArray) (a2:List TRow) (a3:Int) (a4:Int):Bool:=!!decide (a4 <a3)&&((ES a0 a1 a2 a3 a4)||(FF (a2.getD a4.toNat (Ae TC.row))||(Op.bytesLess (a2.getD a4.toNat (Ae TC.row)).1.toList a1.toList||(a2.getD a4.toNat (Ae TC.row)).1.toList==a1.toList)))
def Ahp (_a0:List TGroup) (_a1:ByteArray) (a2:List TRow) (_a3:Int) (a4:Int):ByteArray:=(a2.getD a4.toNat (Ae TC.row)).1
def Ahq (a0:List TGroup) (a1:ByteArray) (a2:List TRow) (a3:Int) (a4:Int):Bool:=!!decide (a4 <a3)&&!(DR a0 a1 a2 a3 a4)
def He (a0:List TGroup) (a1:ByteArray) (a2:List TRow) (a3:Int) (a4:Int):Int:=bif(ES a0 a1 a2 a3 a4) then Ap a0 (a2.getD a4.toNat (Ae TC.row)) else(100:Int)
def EU (x:BP):BP:=(x.1,Ahp x.1 x.2.1 x.2.2.1 x.2.2.2.1 x.2.2.2.2,x.2.2.1,x.2.2.2.1,IntKind.i64.wrap (x.2.2.2.2+(1:Int)))
def ET (x:BP):Cnd:=some (Ahq x.1 x.2.1 x.2.2.1 x.2.2.2.1 x.2.2.2.2)
def Ql (x:BP):List Prop:=[((!!decide (x.2.2.2.2 <x.2.2.2.1))=true→(0:Int)≤x.2.2.2.2∧x.2.2.2.2 <(↑x.2.2.1.length:Int)),((!!decide (x.2.2.2.2 <x.2.2.2.1))=true→(!(ES x.1 x.2.1 x.2.2.1 x.2.2.2.1 x.2.2.2.2))=true→Ai (x.2.2.1.getD x.2.2.2.2.toNat (Ae TC.row)).2.length)]
def Ic (x:BP):List Prop:=[((!!decide (x.2.2.2.2 <x.2.2.2.1))=true→(0:Int)≤x.2.2.2.2∧x.2.2.2.2 <(↑x.2.2.1.length:Int)),((!!decide (x.2.2.2.2 <x.2.2.2.1))=true→(!(ES x.1 x.2.1 x.2.2.1 x.2.2.2.1 x.2.2.2.2))=true→Ai (x.2.2.1.getD x.2.2.2.2.toNat (Ae TC.row)).2.length)]
def OQ (x:BP):Bo:=[(some 0,some (!decide (x.2.2.2.2 <x.2.2.2.1)),⟨38,0,[(4,.dead)],[]⟩),(none,some ((DR x.1 x.2.1 x.2.2.1 x.2.2.2.1 x.2.2.2.2)),⟨38,1,[(4,.v (.int .i64 (He x.1 x.2.1 x.2.2.1 x.2.2.2.1 x.2.2.2.2)))],[]⟩)]
def Hf (x:BP):Nat:=(x.2.2.2.1 - x.2.2.2.2).toNat
def FN (x:BP):BP:=Bg EU ET (Hf x) x
theorem Alp (a0:List TGroup) (a1:ByteArray) (a2:List TRow) (a3:Int) (a4:Int):Bz (AA Brr L0) 9 (Aj Try.prog 84 0) UN (Kz (a0,a1,a2,a3,a4))=some (Ql (a0,a1,a2,a3,a4),OQ (a0,a1,a2,a3,a4),ET (a0,a1,a2,a3,a4),Kz (EU (a0,a1,a2,a3,a4))):=by kernel_rfl
theorem Alq (a0:List TGroup) (a1:ByteArray) (a2:List TRow) (a3:Int) (a4:Int) (hp:∀p∈Ic (a0,a1,a2,a3,a4),p):∀p∈Ql (a0,a1,a2,a3,a4),p:=by
 have n0:=N0 hp
 have n1:=N0 (N1 hp)
 exact(Aa n0 (Aa n1 Ab))
noncomputable def Qm:=H1 (AA Brr L0) (Aj Try.prog 84 0) UN Asd Mc Hf EU ET Ic OQ
theorem Ahr:∀s b ps outs,Qm s=some (b,ps,outs)→Wf s ⟨ps,outs,none⟩∧Bx (AA C0 L0) b s ps outs:=
 Bm (T:=Kz) A6c AH (u:=9) (by kernel_rfl) (by decide) (fun⟨a0,a1,a2,a3,a4⟩=>Alp a0 a1 a2 a3 a4) (fun⟨a0,a1,a2,a3,a4⟩=>Alq a0 a1 a2 a3 a4) Acj (fun _=>AW (n:=38) rfl) fun _ _=>rfl
noncomputable def UM:=DP 0 Qm L0
theorem Aho:Hr UM:=A6 Ahr AH
def Kn (a0:List TGroup) (_a1:List TRow):Bool:=AY a0 !=(0:Int)
def Rc (a0:List TGroup) (a1:List TRow):List TGroup:=(FN (a0,ByteArray.mk #[],a1,(↑a1.length:Int),(0:Int))).fst
def Rb (a0:List TGroup) (a1:List TRow):ByteArray:=(FN (a0,ByteArray.mk #[],a1,(↑a1.length:Int),(0:Int))).snd.fst
def Ra (a0:List TGroup) (a1:List TRow):List TRow:=(FN (a0,ByteArray.mk #[],a1,(↑a1.length:Int),(0:Int))).snd.snd.fst
def Q9 (a0:List TGroup) (a1:List TRow):Int:=(FN (a0,ByteArray.mk #[],a1,(↑a1.length:Int),(0:Int))).snd.snd.snd.snd
def Q8 (a0:List TGroup) (a1:List TRow):Int:=(FN (a0,ByteArray.mk #[],a1,(↑a1.length:Int),(0:Int))).snd.snd.snd.fst
def TZ (a0:List TGroup) (a1:List TRow):Int:=bif(Kn a0 a1) then AY a0 else bif DR (Rc a0 a1) (Rb a0 a1) (Ra a0 a1) (Q8 a0 a1) (Q9 a0 a1) then He (Rc a0 a1) (Rb a0 a1) (Ra a0 a1) (Q8 a0 a1) (Q9 a0 a1) else(0:Int)
def T0 (a0:List TGroup) (a1:List TRow):A:=.v (.int .i64 (TZ a0 a1))
def Ahs (_a0:List TGroup) (_a1:List TRow):Objs:=[]
def Z4 (a0:List TGroup) (a1:List TRow):List Prop:=[((!(Kn a0 a1))=true→AL EU ET Ic (Hf (a0,ByteArray.mk #[],a1,(↑a1.length:Int),(0:Int))) (a0,ByteArray.mk #[],a1,(↑a1.length:Int),(0:Int)))]
theorem A18 (a0:List TGroup) (a1:List TRow):EQ (AA Brr UM) 9 84 [.sl .group a0,Ak .rows a1] 0 []=some (1,T0 a0 a1,0,Ahs a0 a1,[((!(Kn a0 a1))=true→Aj Try.prog (84:FuncId) (0:Nat)=Aj Try.prog (84:FuncId) (0:Nat)),((!(Kn a0 a1))=true→AL EU ET Ic (Hf (a0,ByteArray.mk #[],a1,(↑a1.length:Int),(0:Int))) (a0,ByteArray.mk #[],a1,(↑a1.length:Int),(0:Int)))]):=by kernel_rfl
theorem A8f (a0:List TGroup) (a1:List TRow) (hp:∀p∈Z4 a0 a1,p):CallOk Try.prog 84 [.sl .group a0,Ak .rows a1] 0 [] 1 (T0 a0 a1) 0 (Ahs a0 a1):=by
 have n0:((!(Kn a0 a1))=true→Aj Try.prog (84:FuncId) (0:Nat)=Aj Try.prog (84:FuncId) (0:Nat)):=by intros;rfl
 have n1:=N0 hp
 exact AI (Aw A6c Aho) (A18 a0 a1) (Aa n0 (Aa n1 Ab))
def Z5 (a0:List TGroup) (a1:List TRow):A:=.v (.int .i64 (EI a0 a1))
def Z3 (_a0:List TGroup) (_a1:List TRow):Objs:=[]
def WX (_a0:List TGroup) (a1:List TRow):List Prop:=[Az a1.length]
theorem Aui (l:List TGroup) (rows:List TRow) (i:Nat):(VI l rows i !=0)=(Ap l (BJ rows i) !=0||(FF (BJ rows i)||leS (BJ rows i).key (OP rows i))):=by
 unfold VI
 cases h:Ap l (BJ rows i) !=0 with
 |true=>rw[cond_true,h,Bool.true_or]
 |false=>cases FF (BJ rows i)||leS (BJ rows i).key (OP rows i)<;>rfl
theorem Z2 (l:List TGroup) (rows:List TRow) (hb:Az rows.length):(∀p∈Z4 l rows,p)∧TZ l rows=EI l rows:=by
 unfold Az at hb
 have hf:∀i:Nat,DR l (OP rows i) rows (rows.length:Int) (i:Int)=(decide (i <rows.length)&&VI l rows i !=0):=fun i=>by
  rw[Aui]
  unfold DR ES leS IW
  rw[nn,Mp,Int.toNat_natCast,tlb]
  rfl
 obtain⟨h1,k,hk,hx,hs,hst,_⟩:=IJ (fun i=>((l,OP rows i,rows,(rows.length:Int),(i:Int)):BP)) rows.length (fun i=>VI l rows i !=0) EU ET Ic (Hf (l,ByteArray.mk #[],rows,(rows.length:Int),0)) (l,ByteArray.mk #[],rows,(rows.length:Int),0) rfl (by show rows.length≤((rows.length:Int) - 0).toNat;omega)
  (fun i _ _=>by
   show((!!decide ((i:Int) <(rows.length:Int)))&&!DR l (OP rows i) rows (rows.length:Int) (i:Int))=_
   rw[hf,nn,Mp]
   cases decide (i <rows.length)<;>rfl)
  (fun i hi _=>by
   show(l,(rows.getD ((i:Int)).toNat (Ae TC.row)).1,rows,(rows.length:Int),IntKind.i64.wrap ((i:Int)+1))=(l,OP rows (i+1),rows,(rows.length:Int),((i+1:Nat):Int))
   rw[Fp (by omega),Int.toNat_natCast]
   rfl)
  (fun i hi _=>by
   have hin:(!!decide ((i:Int) <(rows.length:Int)))=true→(i:Int) <(rows.length:Int):=fun h=>by rw[nn] at h;exact of_decide_eq_true h
   refine Aa (fun h=>⟨by show(0:Int)≤(i:Int);omega,hin h⟩) (Aa (fun _ h2=>?_) Ab)
   have h3:Ap l (rows.getD ((i:Int)).toNat (Ae TC.row))=0:=by
    have h4:(!(Ap l (rows.getD ((i:Int)).toNat (Ae TC.row)) !=0))=true:=h2
    simpa using h4
   obtain⟨g1,g2,_⟩:=AS h3
   have:=(Gu g1).2
   show Ai (rows.getD ((i:Int)).toNat (Ae TC.row)).cells.length
   unfold Ai
   omega)
 have hr:FN (l,ByteArray.mk #[],rows,(rows.length:Int),0)=(l,OP rows k,rows,(rows.length:Int),(k:Int)):=hx
 refine⟨Aa (fun _=>h1) Ab,?_⟩
 unfold TZ EI
 show(bif AY l !=0 then AY l else _)=_
 congr 1
 unfold Rc Rb Ra Q9 Q8
 rw[hr]
 show(bif DR l (OP rows k) rows (rows.length:Int) (k:Int) then He l (OP rows k) rows (rows.length:Int) (k:Int) else 0)=_
 rw[hf]
 have h0:Gt l rows k=0:=(Ago l rows k).2 fun i hi=>by simpa using hs i hi
 rcases Nat.lt_or_ge k rows.length with h|h
 ·have he:=hst h
  rw[decide_eq_true h,he]
  have e1:Gt l rows (k+1)=VI l rows k:=by
   show(bif Gt l rows k !=0 then Gt l rows k else VI l rows k)=_
   rw[h0];rfl
  have hne:Gt l rows (k+1)≠0:=by rw[e1];simpa using he
  rw[Wl hne rows.length h,e1]
  show He l (OP rows k) rows (rows.length:Int) (k:Int)=_
  unfold He ES
  rw[Int.toNat_natCast]
  rw[Aui] at he
  unfold VI
  show(bif Ap l (BJ rows k) !=0 then Ap l (BJ rows k) else 100)=_
  cases hg:Ap l (BJ rows k) !=0 with
  |true=>rfl
  |false=>
   rw[hg,Bool.false_or] at he
   rw[he]
   rfl
 ·obtain rfl:k=rows.length:=by omega
  rw[decide_eq_false (Nat.lt_irrefl _),h0]
  rfl
theorem A17 (a0:List TGroup) (a1:List TRow) (hp:∀p∈WX a0 a1,p):CallOk Try.prog 84 [.sl .group a0,Ak .rows a1] 0 [] 1 (Z5 a0 a1) 0 (Z3 a0 a1):=by
 have hb:Az a1.length:=hp _ (List.mem_cons_self ..)
 have h:=A8f a0 a1 (Z2 a0 a1 hb).1
 unfold T0 at h
 rw[(Z2 a0 a1 hb).2] at h
 exact h
def NS:List A→Nat→Objs→Option Bb
 | [y0,y1],nx,o=>match Kh .group y0,AQ .rows y1 with
  |some a0,some (a1,p1)=>some (1,(Z5 a0 a1).pk (AF nx),nx+0,AE nx (Z3 a0 a1)++o,p1++(WX a0 a1))
  |_,_=>none
 |_,_,_=>none
theorem WY:Ft Try.prog 84 NS:=fun args nx o k x nx' o' ps h=>by
 unfold NS at h
 split at h<;>first|(cases h;done)|skip
 split at h<;>first|(cases h;done)|skip
 rename_i a0 a1 p1 e0 e1
 cases h
 refine⟨fun hp=>?_,_,rfl⟩
 have q1:=fun p hm=>hp p (List.mem_append.2 (.inl hm))
 have r1:=fun p hm=>hp p (List.mem_append.2 (.inr hm))
 refine Ah (Ag (A17 a0 a1 r1) (Nat.le_refl _) (Ac rfl (Ac (Af _ _) Ao)) nx o) fun F N R vs hl=>?_
 obtain⟨v0,w0,rfl,h0,hl⟩:=hl.inv
 obtain⟨v1,w1,rfl,h1,hl⟩:=hl.inv
 exact HL.cons (BX e0 h0) (HL.cons (Am e1 q1 h1) (hl))
noncomputable def B0m:=A7 84 NS Brr
theorem Bl0:Dd Try.prog B0m:=Av WY A6c
def OC (a0:Int) (a1:TVec) (a2:TCell):Bool:=bif a2.1.1==(0:Int)&&a2.1.2==(0:Int)&&(a2.2.1==(0:Int)&&a2.2.2==(0:Int)&&(a2.3==false&&(a2.4.toList==(ByteArray.mk #[]).toList&&(a2.5.1==(0:Int)&&a2.5.2==(0:Int)))))||!AV a0 a2||!Ke a1 (K4 a2) then false else !GA a0 a2
def OD (a0:Int) (a1:TVec) (a2:TCell):A:=.v (.bool (OC a0 a1 a2))
def Wg (_a0:Int) (_a1:TVec) (_a2:TCell):Objs:=[]
def Art (_a0:Int) (_a1:TVec) (_a2:TCell):List Prop:=[]
theorem Ars (a0:Int) (a1:TVec) (a2:TCell):EQ (AA B0m L0) 9 50 [Ak .i64 a0,Ak .vec a1,Ak .cell a2] 0 []=some (1,OD a0 a1 a2,0,Wg a0 a1 a2,[]):=by kernel_rfl
theorem Av5 (a0:Int) (a1:TVec) (a2:TCell) (_hp:∀p∈Art a0 a1 a2,p):CallOk Try.prog 50 [Ak .i64 a0,Ak .vec a1,Ak .cell a2] 0 [] 1 (OD a0 a1 a2) 0 (Wg a0 a1 a2):=by
 exact AI (Aw Bl0 AH) (Ars a0 a1 a2) Ab
def UH (a0:Int) (a1:TVec) (a2:TCell):A:=.v (.bool (B1g a0 a1 a2))
def UG (_a0:Int) (_a1:TVec) (_a2:TCell):Objs:=[]
def Sf (_a0:Int) (_a1:TVec) (_a2:TCell):List Prop:=[]
theorem Byu (c:TCell):(c.1.1==(0:Int)&&c.1.2==(0:Int)&&(c.2.1==(0:Int)&&c.2.2==(0:Int)&&(c.3==false&&(c.4.toList==(ByteArray.mk #[]).toList&&(c.5.1==(0:Int)&&c.5.2==(0:Int))))))=eqC c zeroC:=by
 rw[tlb]
 unfold eqC zeroC
 simp only[Bool.and_assoc]
theorem Bok (a b:TVec):Ke a b=Bc5 a b:=by
 have hm:∀x y:Int,(min x y==y)=decide (y≤x):=fun x y=>by
  rw[Bool.eq_iff_iff,beq_iff_eq,decide_eq_true_eq];omega
 unfold Ke Bc5
 have h1:((JT a b).1==b.1)=decide (b.a≤a.a):=hm _ _
 have h2:((JT a b).2==b.2)=decide (b.b≤a.b):=hm _ _
 rw[h1,h2]
theorem Arr (p:Int) (st:TVec) (c:TCell):OC p st c=B1g p st c:=by
 unfold OC B1g
 rw[Byu,IK,Bok,(Afy p c).2]
 show(bif eqC c zeroC||!BA p c||!Bc5 st (Acf c) then false else !Tp p c)=_
 cases eqC c zeroC<;>cases BA p c<;>cases Bc5 st (Acf c)<;>rfl
theorem Arq (a0:Int) (a1:TVec) (a2:TCell) (_hp:∀p∈Sf a0 a1 a2,p):CallOk Try.prog 50 [Ak .i64 a0,Ak .vec a1,Ak .cell a2] 0 [] 1 (UH a0 a1 a2) 0 (UG a0 a1 a2):=by
 have h:=Av5 a0 a1 a2 (fun _ h=>by cases h)
 unfold OD at h
 rw[Arr] at h
 exact h
def OE:List A→Nat→Objs→Option Bb
 | [y0,y1,y2],nx,o=>match AQ .i64 y0,AQ .vec y1,AQ .cell y2 with
  |some (a0,p0),some (a1,p1),some (a2,p2)=>some (1,(UH a0 a1 a2).pk (AF nx),nx+0,AE nx (UG a0 a1 a2)++o,p0++(p1++(p2++(Sf a0 a1 a2))))
  |_,_,_=>none
 |_,_,_=>none
theorem Akq:Ft Try.prog 50 OE:=fun args nx o k x nx' o' ps h=>by
 unfold OE at h
 split at h<;>first|(cases h;done)|skip
 split at h<;>first|(cases h;done)|skip
 rename_i a0 p0 a1 p1 a2 p2 e0 e1 e2
 cases h
 refine⟨fun hp=>?_,_,rfl⟩
 have q0:=fun p hm=>hp p (List.mem_append.2 (.inl hm))
 have r0:=fun p hm=>hp p (List.mem_append.2 (.inr hm))
 have q1:=fun p hm=>r0 p (List.mem_append.2 (.inl hm))
 have r1:=fun p hm=>r0 p (List.mem_append.2 (.inr hm))
 have q2:=fun p hm=>r1 p (List.mem_append.2 (.inl hm))
 have r2:=fun p hm=>r1 p (List.mem_append.2 (.inr hm))
 refine Ah (Ag (Arq a0 a1 a2 r2) (Nat.le_refl _) (Ac (Af _ _) (Ac (Af _ _) (Ac (Af _ _) Ao))) nx o) fun F N R vs hl=>?_
 obtain⟨v0,w0,rfl,h0,hl⟩:=hl.inv
 obtain⟨v1,w1,rfl,h1,hl⟩:=hl.inv
 obtain⟨v2,w2,rfl,h2,hl⟩:=hl.inv
 exact HL.cons (Am e0 q0 h0) (HL.cons (Am e1 q1 h1) (HL.cons (Am e2 q2 h2) (hl)))
noncomputable def B15:=A7 50 OE B0m
theorem Bv6:Dd Try.prog B15:=Av Akq Bl0
noncomputable def Cn:=B15
theorem Bbz:Dd Try.prog Cn:=Bv6
end Go.Proofs.Yteebobbhhgmeiaa
namespace Go.Proofs.Yteebobbhhgmeiaa
open Go.RowKit
def wN (ws:List TWrite) (i:Nat):TWrite:=ws.getD i (Ae TC.write)
def QP (a b:TWrite):Bool:=IW a.key b.key||a.key==b.key&&decide (a.group <b.group)
def Uz (l:List TGroup) (w:TWrite):Bool:=!(w.key.size==0)&&decide (w.key.size≤32)&&decide (0≤w.group)&&decide (w.group <(l.length:Int))&&decide (w.value.size≤64)&&(!w.gone||w.value.size==0)
def Ib (c:TChange):Bool:=(c.site==1||c.site==2)&&decide (1≤c.seq)&&decide (c.seq≤1099511627776)&&c.stamp.site==c.site&&H3 c.stamp&&CI c.vec&&(bif c.site==1 then c.vec.a else c.vec.b)==c.seq
def PQ (l:List TGroup) (ws:List TWrite) (i:Nat):Bool:=!Uz l (wN ws i)||decide (0 <i)&&!QP (wN ws (i - 1)) (wN ws i)
def Ah8 (c:TChange):Bool:=decide (1≤c.writes.length)&&decide (c.writes.length≤8)
def N8 (l:List TGroup) (c:TChange):Int:=bif AY l !=0 then AY l else bif Ib c&&Ah8 c&&Jn c.writes.length (fun i=>!PQ l c.writes i) then 0 else 120
def Jr (a0:TWrite):TPlace:=TPlace.mk a0.1 a0.2
def V8 (a0:TWrite):A:=.v (.agg ⟨[.string ((Jr a0).key),.int .i64 ((Jr a0).group)]⟩)
def V7 (_a0:TWrite):Objs:=[]
def Af4 (_a0:TWrite):List Prop:=[]
theorem A6w (a0:TWrite):EQ (AA Cn L0) 9 174 [Ak .write a0] 0 []=some (1,V8 a0,0,V7 a0,[]):=by kernel_rfl
theorem Bcx (a0:TWrite) (_hp:∀p∈Af4 a0,p):CallOk Try.prog 174 [Ak .write a0] 0 [] 1 (V8 a0) 0 (V7 a0):=by
 exact AI (Aw Bbz AH) (A6w a0) Ab
def V9:List A→Nat→Objs→Option Bb
 | [y0],nx,o=>match AQ .write y0 with
  |some (a0,p0)=>some (1,(V8 a0).pk (AF nx),nx+0,AE nx (V7 a0)++o,p0++(Af4 a0))
  |_=>none
 |_,_,_=>none
theorem A1o:Ft Try.prog 174 V9:=fun args nx o k x nx' o' ps h=>by
 unfold V9 at h
 split at h<;>first|(cases h;done)|skip
 split at h<;>first|(cases h;done)|skip
 rename_i a0 p0 e0
 cases h
 refine⟨fun hp=>?_,_,rfl⟩
 have q0:=fun p hm=>hp p (List.mem_append.2 (.inl hm))
 have r0:=fun p hm=>hp p (List.mem_append.2 (.inr hm))
 refine Ah (Ag (Bcx a0 r0) (Nat.le_refl _) (Ac (Af _ _) Ao) nx o) fun F N R vs hl=>?_
 obtain⟨v0,w0,rfl,h0,hl⟩:=hl.inv
 exact HL.cons (Am e0 q0 h0) (hl)
noncomputable def Bqs:=A7 174 V9 Cn
theorem Bbb:Dd Try.prog Bqs:=Av A1o Bbz
def HI (a0:TPlace) (a1:TPlace):Bool:=Op.bytesLess a0.1.toList a1.1.toList||a0.1.toList==a1.1.toList&&decide (a0.2 <a1.2)
def Jt (a0:TPlace) (a1:TPlace):A:=.v (.bool (HI a0 a1))
def Js (_a0:TPlace) (_a1:TPlace):Objs:=[]
def LS (_a0:TPlace) (_a1:TPlace):List Prop:=[]
theorem VH (a0:TPlace) (a1:TPlace):EQ (AA Bqs L0) 9 175 [Ak .place a0,Ak .place a1] 0 []=some (1,Jt a0 a1,0,Js a0 a1,[]):=by kernel_rfl
theorem Wa (a0:TPlace) (a1:TPlace) (_hp:∀p∈LS a0 a1,p):CallOk Try.prog 175 [Ak .place a0,Ak .place a1] 0 [] 1 (Jt a0 a1) 0 (Js a0 a1):=by
 exact AI (Aw Bbb AH) (VH a0 a1) Ab
def Ju:List A→Nat→Objs→Option Bb
 | [y0,y1],nx,o=>match AQ .place y0,AQ .place y1 with
  |some (a0,p0),some (a1,p1)=>some (1,(Jt a0 a1).pk (AF nx),nx+0,AE nx (Js a0 a1)++o,p0++(p1++(LS a0 a1)))
  |_,_=>none
 |_,_,_=>none
theorem TF:Ft Try.prog 175 Ju:=fun args nx o k x nx' o' ps h=>by
 unfold Ju at h
 split at h<;>first|(cases h;done)|skip
 split at h<;>first|(cases h;done)|skip
 rename_i a0 p0 a1 p1 e0 e1
 cases h
 refine⟨fun hp=>?_,_,rfl⟩
 have q0:=fun p hm=>hp p (List.mem_append.2 (.inl hm))
 have r0:=fun p hm=>hp p (List.mem_append.2 (.inr hm))
 have q1:=fun p hm=>r0 p (List.mem_append.2 (.inl hm))
 have r1:=fun p hm=>r0 p (List.mem_append.2 (.inr hm))
 refine Ah (Ag (Wa a0 a1 r1) (Nat.le_refl _) (Ac (Af _ _) (Ac (Af _ _) Ao)) nx o) fun F N R vs hl=>?_
 obtain⟨v0,w0,rfl,h0,hl⟩:=hl.inv
 obtain⟨v1,w1,rfl,h1,hl⟩:=hl.inv
 exact HL.cons (Am e0 q0 h0) (HL.cons (Am e1 q1 h1) (hl))
noncomputable def Bqt:=A7 175 Ju Bqs
theorem Bbc:Dd Try.prog Bqt:=Av TF Bbb
def QG (a0:TWrite) (a1:TWrite):Bool:=bif !a0.1.toList==a1.1.toList then Op.bytesLess a0.1.toList a1.1.toList else decide (a0.2 <a1.2)
def X9 (a0:TWrite) (a1:TWrite):A:=.v (.bool (QG a0 a1))
def X8 (_a0:TWrite) (_a1:TWrite):Objs:=[]
def Ai9 (_a0:TWrite) (_a1:TWrite):List Prop:=[]
theorem A9p (a0:TWrite) (a1:TWrite):EQ (AA Bqt L0) 9 177 [Ak .write a0,Ak .write a1] 0 []=some (1,X9 a0 a1,0,X8 a0 a1,[]):=by kernel_rfl
theorem Bf7 (a0:TWrite) (a1:TWrite) (_hp:∀p∈Ai9 a0 a1,p):CallOk Try.prog 177 [Ak .write a0,Ak .write a1] 0 [] 1 (X9 a0 a1) 0 (X8 a0 a1):=by
 exact AI (Aw Bbc AH) (A9p a0 a1) Ab
def Ya:List A→Nat→Objs→Option Bb
 | [y0,y1],nx,o=>match AQ .write y0,AQ .write y1 with
  |some (a0,p0),some (a1,p1)=>some (1,(X9 a0 a1).pk (AF nx),nx+0,AE nx (X8 a0 a1)++o,p0++(p1++(Ai9 a0 a1)))
  |_,_=>none
 |_,_,_=>none
theorem A28:Ft Try.prog 177 Ya:=fun args nx o k x nx' o' ps h=>by
 unfold Ya at h
 split at h<;>first|(cases h;done)|skip
 split at h<;>first|(cases h;done)|skip
 rename_i a0 p0 a1 p1 e0 e1
 cases h
 refine⟨fun hp=>?_,_,rfl⟩
 have q0:=fun p hm=>hp p (List.mem_append.2 (.inl hm))
 have r0:=fun p hm=>hp p (List.mem_append.2 (.inr hm))
 have q1:=fun p hm=>r0 p (List.mem_append.2 (.inl hm))
 have r1:=fun p hm=>r0 p (List.mem_append.2 (.inr hm))
 refine Ah (Ag (Bf7 a0 a1 r1) (Nat.le_refl _) (Ac (Af _ _) (Ac (Af _ _) Ao)) nx o) fun F N R vs hl=>?_
 obtain⟨v0,w0,rfl,h0,hl⟩:=hl.inv
 obtain⟨v1,w1,rfl,h1,hl⟩:=hl.inv
 exact HL.cons (Am e0 q0 h0) (HL.cons (Am e1 q1 h1) (hl))
noncomputable def Bqu:=A7 177 Ya Bqt
theorem Bbd:Dd Try.prog Bqu:=Av A28 Bbc
def IG (a0:List TGroup) (a1:TWrite):Bool:=Sl a1.1==(0:Int)&&decide (a1.2≥(0:Int))&&decide (a1.2 <(↑a0.length:Int))&&decide ((↑a1.4.size:Int)≤(64:Int))&&(!a1.3||a1.4.toList==(ByteArray.mk #[]).toList)
def Yc (a0:List TGroup) (a1:TWrite):A:=.v (.bool (IG a0 a1))
def Yb (_a0:List TGroup) (_a1:TWrite):Objs:=[]
def Aja (_a0:List TGroup) (_a1:TWrite):List Prop:=[]
theorem A9q (a0:List TGroup) (a1:TWrite):EQ (AA Bqu L0) 9 176 [.sl .group a0,Ak .write a1] 0 []=some (1,Yc a0 a1,0,Yb a0 a1,[]):=by kernel_rfl
theorem Bf8 (a0:List TGroup) (a1:TWrite) (_hp:∀p∈Aja a0 a1,p):CallOk Try.prog 176 [.sl .group a0,Ak .write a1] 0 [] 1 (Yc a0 a1) 0 (Yb a0 a1):=by
 exact AI (Aw Bbd AH) (A9q a0 a1) Ab
def Yd:List A→Nat→Objs→Option Bb
 | [y0,y1],nx,o=>match Kh .group y0,AQ .write y1 with
  |some a0,some (a1,p1)=>some (1,(Yc a0 a1).pk (AF nx),nx+0,AE nx (Yb a0 a1)++o,p1++(Aja a0 a1))
  |_,_=>none
 |_,_,_=>none
theorem A29:Ft Try.prog 176 Yd:=fun args nx o k x nx' o' ps h=>by
 unfold Yd at h
 split at h<;>first|(cases h;done)|skip
 split at h<;>first|(cases h;done)|skip
 rename_i a0 a1 p1 e0 e1
 cases h
 refine⟨fun hp=>?_,_,rfl⟩
 have q1:=fun p hm=>hp p (List.mem_append.2 (.inl hm))
 have r1:=fun p hm=>hp p (List.mem_append.2 (.inr hm))
 refine Ah (Ag (Bf8 a0 a1 r1) (Nat.le_refl _) (Ac rfl (Ac (Af _ _) Ao)) nx o) fun F N R vs hl=>?_
 obtain⟨v0,w0,rfl,h0,hl⟩:=hl.inv
 obtain⟨v1,w1,rfl,h1,hl⟩:=hl.inv
 exact HL.cons (BX e0 h0) (HL.cons (Am e1 q1 h1) (hl))
noncomputable def Byz:=A7 176 Yd Bqu
theorem Bqv:Dd Try.prog Byz:=Av A29 Bbd
noncomputable def Bqw:=A7 36 YK Byz
theorem Bbe:Dd Try.prog Bqw:=Av Aof Bqv
def Ja (a0:Int) (_a1:TStamp) (_a2:TVec) (a3:Bool) (_a4:ByteArray):Bool:=a0==(2:Int)&&a3
def I9 (_a0:Int) (_a1:TStamp) (_a2:TVec) (_a3:Bool) (a4:ByteArray):Bool:=decide ((↑a4.size:Int) >(64:Int))
def Il (a0:Int) (a1:TStamp) (a2:TVec) (a3:Bool) (a4:ByteArray):Bool:=a0 !=(1:Int)&&a0 !=(2:Int)||!Hn a1||a1.1==(0:Int)||!EY a2||a3&&!a4.toList==(ByteArray.mk #[]).toList
def Kq (a0:Int) (a1:TStamp) (a2:TVec) (a3:Bool) (a4:ByteArray):TCell:=TCell.mk (TStamp.mk (bif(Il a0 a1 a2 a3 a4) then(0:Int) else bif(I9 a0 a1 a2 a3 a4) then(0:Int) else bif(Ja a0 a1 a2 a3 a4) then(0:Int) else a1.1) (bif(Il a0 a1 a2 a3 a4) then(0:Int) else bif(I9 a0 a1 a2 a3 a4) then(0:Int) else bif(Ja a0 a1 a2 a3 a4) then(0:Int) else a1.2)) (TVec.mk (bif(Il a0 a1 a2 a3 a4) then(0:Int) else bif(I9 a0 a1 a2 a3 a4) then(0:Int) else bif(Ja a0 a1 a2 a3 a4) then(0:Int) else a2.1) (bif(Il a0 a1 a2 a3 a4) then(0:Int) else bif(I9 a0 a1 a2 a3 a4) then(0:Int) else bif(Ja a0 a1 a2 a3 a4) then(0:Int) else a2.2)) (bif(Il a0 a1 a2 a3 a4) then false else bif(I9 a0 a1 a2 a3 a4) then false else bif(Ja a0 a1 a2 a3 a4) then false else a3) (bif(Il a0 a1 a2 a3 a4) then ByteArray.mk #[] else bif(I9 a0 a1 a2 a3 a4) then ByteArray.mk #[] else bif(Ja a0 a1 a2 a3 a4) then ByteArray.mk #[] else a4) (TVec.mk (bif(Il a0 a1 a2 a3 a4) then(0:Int) else bif(I9 a0 a1 a2 a3 a4) then(0:Int) else bif(Ja a0 a1 a2 a3 a4) then a2.1 else(0:Int)) (bif(Il a0 a1 a2 a3 a4) then(0:Int) else bif(I9 a0 a1 a2 a3 a4) then(0:Int) else bif(Ja a0 a1 a2 a3 a4) then a2.2 else(0:Int)))
def Bug (a0:Int) (a1:TStamp) (a2:TVec) (a3:Bool) (a4:ByteArray):Int:=bif(Il a0 a1 a2 a3 a4) then(2:Int) else bif(I9 a0 a1 a2 a3 a4) then(3:Int) else bif(Ja a0 a1 a2 a3 a4) then(0:Int) else(0:Int)
def Ay0 (a0:Int) (a1:TStamp) (a2:TVec) (a3:Bool) (a4:ByteArray):A:=.v (.tuple ⟨[.agg ⟨[.int .i64 ((Kq a0 a1 a2 a3 a4).stamp.n),.int .i64 ((Kq a0 a1 a2 a3 a4).stamp.site),.int .i64 ((Kq a0 a1 a2 a3 a4).vec.a),.int .i64 ((Kq a0 a1 a2 a3 a4).vec.b),.bool ((Kq a0 a1 a2 a3 a4).gone),.string ((Kq a0 a1 a2 a3 a4).value),.int .i64 ((Kq a0 a1 a2 a3 a4).dead.a),.int .i64 ((Kq a0 a1 a2 a3 a4).dead.b)]⟩,.int .i64 (Bug a0 a1 a2 a3 a4)]⟩)
def Ayz (_a0:Int) (_a1:TStamp) (_a2:TVec) (_a3:Bool) (_a4:ByteArray):Objs:=[]
def A49 (_a0:Int) (_a1:TStamp) (_a2:TVec) (_a3:Bool) (_a4:ByteArray):List Prop:=[]
theorem Bpc (a0:Int) (a1:TStamp) (a2:TVec) (a3:Bool) (a4:ByteArray):EQ (AA Bqw L0) 9 37 [Ak .i64 a0,Ak .stamp a1,Ak .vec a2,Ak .bool a3,Ak .str a4] 0 []=some (1,Ay0 a0 a1 a2 a3 a4,0,Ayz a0 a1 a2 a3 a4,[]):=by kernel_rfl
theorem Buh (a0:Int) (a1:TStamp) (a2:TVec) (a3:Bool) (a4:ByteArray) (_hp:∀p∈A49 a0 a1 a2 a3 a4,p):CallOk Try.prog 37 [Ak .i64 a0,Ak .stamp a1,Ak .vec a2,Ak .bool a3,Ak .str a4] 0 [] 1 (Ay0 a0 a1 a2 a3 a4) 0 (Ayz a0 a1 a2 a3 a4):=by
 exact AI (Aw Bbe AH) (Bpc a0 a1 a2 a3 a4) Ab
def Ay1:List A→Nat→Objs→Option Bb
 | [y0,y1,y2,y3,y4],nx,o=>match AQ .i64 y0,AQ .stamp y1,AQ .vec y2,AQ .bool y3,AQ .str y4 with
  |some (a0,p0),some (a1,p1),some (a2,p2),some (a3,p3),some (a4,p4)=>some (1,(Ay0 a0 a1 a2 a3 a4).pk (AF nx),nx+0,AE nx (Ayz a0 a1 a2 a3 a4)++o,p0++(p1++(p2++(p3++(p4++(A49 a0 a1 a2 a3 a4))))))
  |_,_,_,_,_=>none
 |_,_,_=>none
theorem Bje:Ft Try.prog 37 Ay1:=fun args nx o k x nx' o' ps h=>by
 unfold Ay1 at h
 split at h<;>first|(cases h;done)|skip
 split at h<;>first|(cases h;done)|skip
 rename_i a0 p0 a1 p1 a2 p2 a3 p3 a4 p4 e0 e1 e2 e3 e4
 cases h
 refine⟨fun hp=>?_,_,rfl⟩
 have q0:=fun p hm=>hp p (List.mem_append.2 (.inl hm))
 have r0:=fun p hm=>hp p (List.mem_append.2 (.inr hm))
 have q1:=fun p hm=>r0 p (List.mem_append.2 (.inl hm))
 have r1:=fun p hm=>r0 p (List.mem_append.2 (.inr hm))
 have q2:=fun p hm=>r1 p (List.mem_append.2 (.inl hm))
 have r2:=fun p hm=>r1 p (List.mem_append.2 (.inr hm))
 have q3:=fun p hm=>r2 p (List.mem_append.2 (.inl hm))
 have r3:=fun p hm=>r2 p (List.mem_append.2 (.inr hm))
 have q4:=fun p hm=>r3 p (List.mem_append.2 (.inl hm))
 have r4:=fun p hm=>r3 p (List.mem_append.2 (.inr hm))
 refine Ah (Ag (Buh a0 a1 a2 a3 a4 r4) (Nat.le_refl _) (Ac (Af _ _) (Ac (Af _ _) (Ac (Af _ _) (Ac (Af _ _) (Ac (Af _ _) Ao))))) nx o) fun F N R vs hl=>?_
 obtain⟨v0,w0,rfl,h0,hl⟩:=hl.inv
 obtain⟨v1,w1,rfl,h1,hl⟩:=hl.inv
 obtain⟨v2,w2,rfl,h2,hl⟩:=hl.inv
 obtain⟨v3,w3,rfl,h3,hl⟩:=hl.inv
 obtain⟨v4,w4,rfl,h4,hl⟩:=hl.inv
 exact HL.cons (Am e0 q0 h0) (HL.cons (Am e1 q1 h1) (HL.cons (Am e2 q2 h2) (HL.cons (Am e3 q3 h3) (HL.cons (Am e4 q4 h4) (hl)))))
noncomputable def Bbf:=A7 37 Ay1 Bqw
theorem Aus:Dd Try.prog Bbf:=Av Bje Bbe
abbrev BB:Type:=(List TGroup)×(List TWrite)×Int×Int×TChange
def JW (x:BB):St:=⟨132,1,[(0,.sl .group x.1),(3,.own 0 0),(73,.sl .write x.2.1),(74,.v (.int .i64 x.2.2.1)),(75,.v (.int .i64 x.2.2.2.1))],[(0,some (.box 136 [.v (.int .i64 x.2.2.2.2.site),.v (.int .i64 x.2.2.2.2.seq),.v (.int .i64 x.2.2.2.2.stamp.n),.v (.int .i64 x.2.2.2.2.stamp.site),.v (.int .i64 x.2.2.2.2.vec.a),.v (.int .i64 x.2.2.2.2.vec.b),.sl .write x.2.2.2.2.writes]))]⟩
def K5:St→Option BB
 |⟨132,1,[(0,.sl .group z0),(3,.own 0 0),(73,.sl .write z1),(74,.v (.int .i64 z2)),(75,.v (.int .i64 z3))],[(0,some (.box 136 [.v (.int .i64 z4),.v (.int .i64 z5),.v (.int .i64 z6),.v (.int .i64 z7),.v (.int .i64 z8),.v (.int .i64 z9),.sl .write z10]))]⟩=>some (z0,z1,z2,z3,⟨z4,z5,⟨z6,z7⟩,⟨z8,z9⟩,z10⟩)
 |_=>none
theorem Zc:∀s x,K5 s=some x→s=JW x:=fun s x h=>by
 unfold K5 at h
 split at h
 ·cases h;rfl
 ·cases h
def RZ:Dj:=⟨1,1,[0,3,73,74,75],[],[(0,0)],[0],[4],[0]⟩
def Ake:DB:=⟨[],[(0,0)],[0,3,73,74,75],[0]⟩
def Ew (_a0:List TGroup) (_a1:List TWrite) (_a2:Int) (a3:Int) (_a4:TChange):Int:=IntKind.i64.wrap (a3 - (1:Int))
def Gk (a0:List TGroup) (a1:List TWrite) (_a2:Int) (a3:Int) (_a4:TChange):Bool:=(a1.getD a3.toNat (Ae TC.write)).1.toList==(ByteArray.mk #[]).toList||decide ((↑(a1.getD a3.toNat (Ae TC.write)).1.size:Int) >(32:Int))||decide ((a1.getD a3.toNat (Ae TC.write)).2 <(0:Int))||decide ((a1.getD a3.toNat (Ae TC.write)).2≥(↑a0.length:Int))||decide ((↑(a1.getD a3.toNat (Ae TC.write)).4.size:Int) >(64:Int))||(a1.getD a3.toNat (Ae TC.write)).3&&!(a1.getD a3.toNat (Ae TC.write)).4.toList==(ByteArray.mk #[]).toList
def CD (a0:List TGroup) (a1:List TWrite) (a2:Int) (a3:Int) (a4:TChange):Bool:=!!decide (a3 <a2)&&((Gk a0 a1 a2 a3 a4)||decide (a3 >(0:Int))&&!HI (Jr (a4.5.getD (Ew a0 a1 a2 a3 a4).toNat (Ae TC.write))) (Jr (a1.getD a3.toNat (Ae TC.write))))
def Aby (a0:List TGroup) (a1:List TWrite) (a2:Int) (a3:Int) (a4:TChange):Bool:=!!decide (a3 <a2)&&!(CD a0 a1 a2 a3 a4)
def Ny (a0:List TGroup) (a1:List TWrite) (a2:Int) (a3:Int) (a4:TChange):Int:=bif(Gk a0 a1 a2 a3 a4) then(120:Int) else(120:Int)
def Ey (x:BB):BB:=(x.1,x.2.1,x.2.2.1,IntKind.i64.wrap (x.2.2.2.1+(1:Int)),x.2.2.2.2)
def Ex (x:BB):Cnd:=some (Aby x.1 x.2.1 x.2.2.1 x.2.2.2.1 x.2.2.2.2)
def Ou (x:BB):List Prop:=[((!!decide (x.2.2.2.1 <x.2.2.1))=true→(0:Int)≤x.2.2.2.1∧x.2.2.2.1 <(↑x.2.1.length:Int)),((!!decide (x.2.2.2.1 <x.2.2.1))=true→(!(Gk x.1 x.2.1 x.2.2.1 x.2.2.2.1 x.2.2.2.2))=true→decide (x.2.2.2.1 >(0:Int))=true→(0:Int)≤(Ew x.1 x.2.1 x.2.2.1 x.2.2.2.1 x.2.2.2.2)∧(Ew x.1 x.2.1 x.2.2.1 x.2.2.2.1 x.2.2.2.2) <(↑x.2.2.2.2.5.length:Int))]
def HH (x:BB):List Prop:=[((!!decide (x.2.2.2.1 <x.2.2.1))=true→(0:Int)≤x.2.2.2.1∧x.2.2.2.1 <(↑x.2.1.length:Int)),((!!decide (x.2.2.2.1 <x.2.2.1))=true→(!(Gk x.1 x.2.1 x.2.2.1 x.2.2.2.1 x.2.2.2.2))=true→decide (x.2.2.2.1 >(0:Int))=true→(0:Int)≤(Ew x.1 x.2.1 x.2.2.1 x.2.2.2.1 x.2.2.2.2)∧(Ew x.1 x.2.1 x.2.2.1 x.2.2.2.1 x.2.2.2.2) <(↑x.2.2.2.2.5.length:Int))]
def Nz (x:BB):Bo:=[(some 0,some (!decide (x.2.2.2.1 <x.2.2.1)),⟨132,1,[(4,.dead)],[(0,some (.box 136 [.v (.int .i64 x.2.2.2.2.1),.v (.int .i64 x.2.2.2.2.2),.v (.int .i64 x.2.2.2.2.3.1),.v (.int .i64 x.2.2.2.2.3.2),.v (.int .i64 x.2.2.2.2.4.1),.v (.int .i64 x.2.2.2.2.4.2),.sl .write x.2.2.2.2.5]))]⟩),(none,some ((CD x.1 x.2.1 x.2.2.1 x.2.2.2.1 x.2.2.2.2)),⟨132,2,[(4,.v (.int .i64 (Ny x.1 x.2.1 x.2.2.1 x.2.2.2.1 x.2.2.2.2)))],[(0,some (.box 136 [.v (.int .i64 x.2.2.2.2.1),.v (.int .i64 x.2.2.2.2.2),.v (.int .i64 x.2.2.2.2.3.1),.v (.int .i64 x.2.2.2.2.3.2),.v (.int .i64 x.2.2.2.2.4.1),.v (.int .i64 x.2.2.2.2.4.2),.sl .write x.2.2.2.2.5]))]⟩)]
def Gl (x:BB):Nat:=(x.2.2.1 - x.2.2.2.1).toNat
def ER (x:BB):BB:=Bg Ey Ex (Gl x) x
theorem Af0 (a0:List TGroup) (a1:List TWrite) (a2:Int) (a3:Int) (a4:TChange):Bz (AA Bbf L0) 9 (Aj Try.prog 169 0) RZ (JW (a0,a1,a2,a3,a4))=some (Ou (a0,a1,a2,a3,a4),Nz (a0,a1,a2,a3,a4),Ex (a0,a1,a2,a3,a4),JW (Ey (a0,a1,a2,a3,a4))):=by kernel_rfl
theorem Af1 (a0:List TGroup) (a1:List TWrite) (a2:Int) (a3:Int) (a4:TChange) (hp:∀p∈HH (a0,a1,a2,a3,a4),p):∀p∈Ou (a0,a1,a2,a3,a4),p:=by
 have n0:=N0 hp
 have n1:=N0 (N1 hp)
 exact(Aa n0 (Aa n1 Ab))
noncomputable def Ov:=H1 (AA Bbf L0) (Aj Try.prog 169 0) RZ Ake K5 Gl Ey Ex HH Nz
theorem Abz:∀s b ps outs,Ov s=some (b,ps,outs)→Wf s ⟨ps,outs,none⟩∧Bx (AA C0 L0) b s ps outs:=
 Bm (T:=JW) Aus AH (u:=9) (by kernel_rfl) (by decide) (fun⟨a0,a1,a2,a3,a4⟩=>Af0 a0 a1 a2 a3 a4) (fun⟨a0,a1,a2,a3,a4⟩=>Af1 a0 a1 a2 a3 a4) Zc (fun _=>AW (n:=132) rfl) fun _ _=>rfl
noncomputable def RY:=DP 0 Ov L0
theorem Abx:Hr RY:=A6 Abz AH
def DE (a0:List TGroup) (_a1:TChange):Bool:=AY a0 !=(0:Int)
def DD (_a0:List TGroup) (a1:TChange):Int:=IntKind.i64.wrap (a1.1 - (1:Int))
def Ot (a0:List TGroup) (a1:TChange):List TGroup:=(ER (a0,a1.5,(↑a1.5.length:Int),(0:Int),a1)).fst
def Hb (_a0:List TGroup) (a1:TChange):Bool:=decide ((↑a1.5.length:Int) <(1:Int))||decide ((↑a1.5.length:Int) >(8:Int))
def Oq (a0:List TGroup) (a1:TChange):List TWrite:=(ER (a0,a1.5,(↑a1.5.length:Int),(0:Int),a1)).snd.fst
def Oo (a0:List TGroup) (a1:TChange):Int:=(ER (a0,a1.5,(↑a1.5.length:Int),(0:Int),a1)).snd.snd.fst
def On (a0:List TGroup) (a1:TChange):TChange:=(ER (a0,a1.5,(↑a1.5.length:Int),(0:Int),a1)).snd.snd.snd.snd
def Om (a0:List TGroup) (a1:TChange):Int:=(ER (a0,a1.5,(↑a1.5.length:Int),(0:Int),a1)).snd.snd.snd.fst
def Ha (a0:List TGroup) (a1:TChange):Bool:=a1.1 !=(1:Int)&&a1.1 !=(2:Int)||decide (a1.2 <(1:Int))||decide (a1.2 >(1099511627776:Int))||a1.3.2 !=a1.1||!B9 a1.3||!Bv a1.4||(bif(DD a0 a1).toNat.beq (0:Nat) then a1.4.1 else a1.4.2) !=a1.2
def QU (a0:List TGroup) (a1:TChange):Int:=bif(DE a0 a1) then AY a0 else bif(Ha a0 a1) then(120:Int) else bif(Hb a0 a1) then(120:Int) else bif CD (Ot a0 a1) (Oq a0 a1) (Oo a0 a1) (Om a0 a1) (On a0 a1) then Ny (Ot a0 a1) (Oq a0 a1) (Oo a0 a1) (Om a0 a1) (On a0 a1) else(0:Int)
def QV (a0:List TGroup) (a1:TChange):A:=.v (.int .i64 (QU a0 a1))
def ZK (_a0:List TGroup) (_a1:TChange):Objs:=[]
def V3 (a0:List TGroup) (a1:TChange):List Prop:=[((!(DE a0 a1))=true→(a1.1 !=(1:Int)&&a1.1 !=(2:Int)||decide (a1.2 <(1:Int))||decide (a1.2 >(1099511627776:Int))||a1.3.2 !=a1.1||!B9 a1.3||!Bv a1.4)=false→(0:Int)≤(DD a0 a1)∧(DD a0 a1) <(2:Int)),((!(DE a0 a1))=true→(!(Ha a0 a1))=true→(!(Hb a0 a1))=true→AL Ey Ex HH (Gl (a0,a1.5,(↑a1.5.length:Int),(0:Int),a1)) (a0,a1.5,(↑a1.5.length:Int),(0:Int),a1))]
theorem Avr (a0:List TGroup) (a1:TChange):EQ (AA Bbf RY) 9 169 [.sl .group a0,Ak .change a1] 0 []=some (1,QV a0 a1,0,ZK a0 a1,[((!(DE a0 a1))=true→(a1.1 !=(1:Int)&&a1.1 !=(2:Int)||decide (a1.2 <(1:Int))||decide (a1.2 >(1099511627776:Int))||a1.3.2 !=a1.1||!B9 a1.3||!Bv a1.4)=false→(0:Int)≤(DD a0 a1)∧(DD a0 a1) <(2:Int)),((!(DE a0 a1))=true→(a1.1 !=(1:Int)&&a1.1 !=(2:Int)||decide (a1.2 <(1:Int))||decide (a1.2 >(1099511627776:Int))||a1.3.2 !=a1.1||!B9 a1.3||!Bv a1.4)=false→(DD a0 a1).toNat <(2:Nat)),((!(DE a0 a1))=true→(!(Ha a0 a1))=true→(!(Hb a0 a1))=true→Aj Try.prog (169:FuncId) (0:Nat)=Aj Try.prog (169:FuncId) (0:Nat)),((!(DE a0 a1))=true→(!(Ha a0 a1))=true→(!(Hb a0 a1))=true→AL Ey Ex HH (Gl (a0,a1.5,(↑a1.5.length:Int),(0:Int),a1)) (a0,a1.5,(↑a1.5.length:Int),(0:Int),a1))]):=by kernel_rfl
theorem A1m (a0:List TGroup) (a1:TChange) (hp:∀p∈V3 a0 a1,p):CallOk Try.prog 169 [.sl .group a0,Ak .change a1] 0 [] 1 (QV a0 a1) 0 (ZK a0 a1):=by
 have n0:((!(DE a0 a1))=true→(a1.1 !=(1:Int)&&a1.1 !=(2:Int)||decide (a1.2 <(1:Int))||decide (a1.2 >(1099511627776:Int))||a1.3.2 !=a1.1||!B9 a1.3||!Bv a1.4)=false→(0:Int)≤(DD a0 a1)∧(DD a0 a1) <(2:Int)):=N0 hp
 have n1:((!(DE a0 a1))=true→(a1.1 !=(1:Int)&&a1.1 !=(2:Int)||decide (a1.2 <(1:Int))||decide (a1.2 >(1099511627776:Int))||a1.3.2 !=a1.1||!B9 a1.3||!Bv a1.4)=false→(DD a0 a1).toNat <(2:Nat)):=by intro h0 h1;have g:=n0 h0 h1;omega
 have n2:((!(DE a0 a1))=true→(!(Ha a0 a1))=true→(!(Hb a0 a1))=true→Aj Try.prog (169:FuncId) (0:Nat)=Aj Try.prog (169:FuncId) (0:Nat)):=by intros;rfl
 have n3:=N0 (N1 hp)
 exact AI (Aw Aus Abx) (Avr a0 a1) (Aa n0 (Aa n1 (Aa n2 (Aa n3 Ab))))
def V4 (a0:List TGroup) (a1:TChange):A:=.v (.int .i64 (N8 a0 a1))
def V2 (_a0:List TGroup) (_a1:TChange):Objs:=[]
def UC (_a0:List TGroup) (a1:TChange):List Prop:=[Az a1.writes.length]
theorem Buo {c:TChange} (h:c.site=1∨c.site=2):(bif(IntKind.i64.wrap (c.site - 1)).toNat.beq 0 then c.vec.a else c.vec.b)=bif c.site==1 then c.vec.a else c.vec.b:=by
 rcases h with h|h<;>rw[h]<;>rfl
theorem Bnu {c:TChange} (h:c.site=1∨c.site=2):(0:Int)≤IntKind.i64.wrap (c.site - 1)∧IntKind.i64.wrap (c.site - 1) <(2:Int):=by
 rcases h with h|h<;>rw[h]<;>decide
theorem Bxl {n:Int}:(n !=1&&n !=2)=false↔n=1∨n=2:=by
 constructor
 ·intro h
  rcases Decidable.em (n=1) with e|e
  ·exact .inl e
  ·rcases Decidable.em (n=2) with e2|e2
   ·exact .inr e2
   ·have h1:(n !=1)=true:=bne_iff_ne.2 e
    have h2:(n !=2)=true:=bne_iff_ne.2 e2
    rw[h1,h2] at h
    cases h
 ·rintro(rfl|rfl)<;>rfl
theorem Bmy (c:TChange):Ib c=!(c.site !=1&&c.site !=2||decide (c.seq <1)||decide (c.seq >1099511627776)||c.stamp.site !=c.site||!H3 c.stamp||!CI c.vec||(bif(IntKind.i64.wrap (c.site - 1)).toNat.beq 0 then c.vec.a else c.vec.b) !=c.seq):=by
 unfold Ib
 cases h:c.site !=1&&c.site !=2 with
 |true=>
  rw[Bool.and_eq_true,bne_iff_ne,bne_iff_ne] at h
  rw[beq_eq_false_iff_ne.2 h.1,beq_eq_false_iff_ne.2 h.2]
  rfl
 | false=>
  have hs:=Bxl.1 h
  have h1:(c.site==1||c.site==2)=true:=by rcases hs with e|e<;>rw[e]<;>rfl
  have h2:decide (c.seq <1)=!decide (1≤c.seq):=by
   rw[←decide_not];exact decide_eq_decide.2 (by omega)
  have h3:decide (c.seq >1099511627776)=!decide (c.seq≤1099511627776):=by
   rw[←decide_not];exact decide_eq_decide.2 (by omega)
  rw[h1,Buo hs,h2,h3]
  unfold bne
  cases decide (1≤c.seq)<;>cases decide (c.seq≤1099511627776)<;>cases c.stamp.site==c.site<;>cases H3 c.stamp<;>cases CI c.vec<;>simp
theorem Bys (l:List TGroup) (w:TWrite):(w.1.toList==(ByteArray.mk #[]).toList||decide ((w.1.size:Int) >(32:Int))||decide (w.2 <(0:Int))||decide (w.2≥(l.length:Int))||decide ((w.4.size:Int) >(64:Int))||w.3&&!w.4.toList==(ByteArray.mk #[]).toList)=!Uz l w:=by
 have e1:(w.1.toList==(ByteArray.mk #[]).toList)=(w.key.size==0):=Rq _
 have e2:(w.4.toList==(ByteArray.mk #[]).toList)=(w.value.size==0):=Rq _
 have h1:decide ((w.1.size:Int) >(32:Int))=!decide (w.key.size≤32):=by rw[←decide_not];exact decide_eq_decide.2 (by omega)
 have h2:decide (w.2 <(0:Int))=!decide (0≤w.group):=by rw[←decide_not];exact decide_eq_decide.2 (by omega)
 have h3:decide (w.2≥(l.length:Int))=!decide (w.group <(l.length:Int)):=by rw[←decide_not];exact decide_eq_decide.2 (by omega)
 have h4:decide ((w.4.size:Int) >(64:Int))=!decide (w.value.size≤64):=by rw[←decide_not];exact decide_eq_decide.2 (by omega)
 rw[e1,e2,h1,h2,h3,h4]
 unfold Uz
 cases w.key.size==0<;>cases decide (w.key.size≤32)<;>cases decide (0≤w.group)<;>cases decide (w.group <(l.length:Int))<;>cases decide (w.value.size≤64)<;>cases w.gone<;>cases w.value.size==0<;>rfl
theorem Brw (a b:TWrite):HI (Jr a) (Jr b)=QP a b:=by
 unfold HI Jr QP IW
 rw[←tlb]
theorem Bmp (l:List TGroup) (c:TChange) (i:Nat) (hi:i≤9223372036854775807):CD l c.writes (c.writes.length:Int) (i:Int) c=(decide (i <c.writes.length)&&PQ l c.writes i):=by
 have e:CD l c.writes (c.writes.length:Int) (i:Int) c=(decide (i <c.writes.length)&&(!Uz l (wN c.writes i)||decide ((i:Int) >0)&&!QP (wN c.writes (IntKind.i64.wrap ((i:Int) - 1)).toNat) (wN c.writes i))):=by
  unfold CD Gk Ew
  rw[nn,Mp,Int.toNat_natCast,Brw,Bys]
  rfl
 rw[e]
 unfold PQ
 cases i with
 |zero=>rfl
 |succ j=>
  have h1:(IntKind.i64.wrap (((j+1:Nat):Int) - 1)).toNat=j+1 - 1:=by rw[i64_in (by omega)];omega
  have h2:decide (((j+1:Nat):Int) >0)=decide (0 <j+1):=decide_eq_decide.2 (by omega)
  rw[h1,h2]
theorem V0 (l:List TGroup) (c:TChange) (hb:Az c.writes.length):(∀p∈V3 l c,p)∧QU l c=N8 l c:=by
 unfold Az at hb
 obtain⟨h1,k,hk,hx,_,_,hb'⟩:=IJ (fun i=>((l,c.writes,(c.writes.length:Int),(i:Int),c):BB)) c.writes.length (fun i=>PQ l c.writes i) Ey Ex HH (Gl (l,c.writes,(c.writes.length:Int),0,c)) (l,c.writes,(c.writes.length:Int),0,c) rfl (by show c.writes.length≤((c.writes.length:Int) - 0).toNat;omega)
  (fun i hi _=>by
   show((!!decide ((i:Int) <(c.writes.length:Int)))&&!CD l c.writes (c.writes.length:Int) (i:Int) c)=_
   rw[Bmp l c i (by omega),nn,Mp]
   cases decide (i <c.writes.length)<;>rfl)
  (fun i hi _=>by
   show(l,c.writes,(c.writes.length:Int),IntKind.i64.wrap ((i:Int)+1),c)=(l,c.writes,(c.writes.length:Int),((i+1:Nat):Int),c)
   rw[Fp (by omega)])
  (fun i hi _=>by
   have hin:(!!decide ((i:Int) <(c.writes.length:Int)))=true→(i:Int) <(c.writes.length:Int):=fun h=>by rw[nn] at h;exact of_decide_eq_true h
   refine Aa (fun h=>⟨by show(0:Int)≤(i:Int);omega,hin h⟩) (Aa (fun h _ h3=>?_) Ab)
   have h4:(i:Int) >0:=of_decide_eq_true h3
   have h5:=hin h
   show(0:Int)≤IntKind.i64.wrap ((i:Int) - 1)∧IntKind.i64.wrap ((i:Int) - 1) <(c.writes.length:Int)
   rw[i64_in (by omega)]
   omega)
 have hr:ER (l,c.writes,(c.writes.length:Int),0,c)=(l,c.writes,(c.writes.length:Int),(k:Int),c):=hx
 refine⟨Aa (fun _ h=>Bnu (Bxl.1 (by
  cases hs:c.site !=1&&c.site !=2 with
  |false=>rfl
  |true=>
   have h':(c.site !=(1:Int)&&c.site !=(2:Int)||decide (c.seq <(1:Int))||decide (c.seq >(1099511627776:Int))||c.stamp.site !=c.site||!B9 c.stamp||!Bv c.vec)=false:=h
   rw[hs] at h'
   simp at h'))) (Aa (fun _ _ _=>h1) Ab),?_⟩
 unfold QU N8
 show(bif AY l !=0 then AY l else _)=_
 congr 1
 have e0:Ha l c=!Ib c:=by
  rw[Bmy,Bool.not_not]
  unfold Ha DD
  rw[Ku,K1]
 have e5:Hb l c=!Ah8 c:=by
  unfold Hb Ah8
  have h2:decide ((c.writes.length:Int) <(1:Int))=!decide (1≤c.writes.length):=by rw[←decide_not];exact decide_eq_decide.2 (by omega)
  have h3:decide ((c.writes.length:Int) >(8:Int))=!decide (c.writes.length≤8):=by rw[←decide_not];exact decide_eq_decide.2 (by omega)
  have h2':decide ((c.5.length:Int) <(1:Int))=!decide (1≤c.writes.length):=h2
  have h3':decide ((c.5.length:Int) >(8:Int))=!decide (c.writes.length≤8):=h3
  rw[h2',h3']
  cases decide (1≤c.writes.length)<;>cases decide (c.writes.length≤8)<;>rfl
 rw[e0,e5]
 unfold Ot Oq Oo Om On
 rw[hr]
 show(bif !Ib c then 120 else bif !Ah8 c then 120 else bif CD l c.writes (c.writes.length:Int) (k:Int) c then(bif _ then(120:Int) else 120) else 0)=_
 rw[Bmp l c k (Nat.le_trans hk hb),hb']
 have hc:∀b:Bool,(bif b then(120:Int) else 120)=120:=fun b=>by cases b<;>rfl
 rw[hc]
 cases Ib c<;>cases Ah8 c<;>cases Jn c.writes.length (fun i=>!PQ l c.writes i)<;>rfl
theorem Avq (a0:List TGroup) (a1:TChange) (hp:∀p∈UC a0 a1,p):CallOk Try.prog 169 [.sl .group a0,Ak .change a1] 0 [] 1 (V4 a0 a1) 0 (V2 a0 a1):=by
 have hb:Az a1.writes.length:=hp _ (List.mem_cons_self ..)
 have h:=A1m a0 a1 (V0 a0 a1 hb).1
 unfold QV at h
 rw[(V0 a0 a1 hb).2] at h
 exact h
def QW:List A→Nat→Objs→Option Bb
 | [y0,y1],nx,o=>match Kh .group y0,AQ .change y1 with
  |some a0,some (a1,p1)=>some (1,(V4 a0 a1).pk (AF nx),nx+0,AE nx (V2 a0 a1)++o,p1++(UC a0 a1))
  |_,_=>none
 |_,_,_=>none
theorem Arm:Ft Try.prog 169 QW:=fun args nx o k x nx' o' ps h=>by
 unfold QW at h
 split at h<;>first|(cases h;done)|skip
 split at h<;>first|(cases h;done)|skip
 rename_i a0 a1 p1 e0 e1
 cases h
 refine⟨fun hp=>?_,_,rfl⟩
 have q1:=fun p hm=>hp p (List.mem_append.2 (.inl hm))
 have r1:=fun p hm=>hp p (List.mem_append.2 (.inr hm))
 refine Ah (Ag (Avq a0 a1 r1) (Nat.le_refl _) (Ac rfl (Ac (Af _ _) Ao)) nx o) fun F N R vs hl=>?_
 obtain⟨v0,w0,rfl,h0,hl⟩:=hl.inv
 obtain⟨v1,w1,rfl,h1,hl⟩:=hl.inv
 exact HL.cons (BX e0 h0) (HL.cons (Am e1 q1 h1) (hl))
noncomputable def Bbg:=A7 169 QW Bbf
theorem Aut:Dd Try.prog Bbg:=Av Arm Aus
abbrev CB:Type:=(List TGroup)×Int×TChange
def ME (x:CB):St:=⟨107,1,[(0,.sl .group x.1),(3,.own 0 0),(6,.v (.int .i64 x.2.1))],[(0,some (.box 136 [.v (.int .i64 x.2.2.site),.v (.int .i64 x.2.2.seq),.v (.int .i64 x.2.2.stamp.n),.v (.int .i64 x.2.2.stamp.site),.v (.int .i64 x.2.2.vec.a),.v (.int .i64 x.2.2.vec.b),.sl .write x.2.2.writes]))]⟩
def Pz:St→Option CB
 |⟨107,1,[(0,.sl .group z0),(3,.own 0 0),(6,.v (.int .i64 z1))],[(0,some (.box 136 [.v (.int .i64 z2),.v (.int .i64 z3),.v (.int .i64 z4),.v (.int .i64 z5),.v (.int .i64 z6),.v (.int .i64 z7),.sl .write z8]))]⟩=>some (z0,z1,⟨z2,z3,⟨z4,z5⟩,⟨z6,z7⟩,z8⟩)
 |_=>none
theorem Anj:∀s x,Pz s=some x→s=ME x:=fun s x h=>by
 unfold Pz at h
 split at h
 ·cases h;rfl
 ·cases h
def Aa1:Dj:=⟨1,1,[0,3,6],[],[(0,0)],[0],[4],[0]⟩
def A27:DB:=⟨[],[(0,0)],[0,3,6],[0]⟩
def GX (_a0:List TGroup) (a1:Int) (_a2:TChange):Int:=IntKind.i64.wrap (a1 - (1:Int))
def Di (_a0:List TGroup) (a1:Int) (a2:TChange):Bool:=!!decide (a1 <(↑a2.5.length:Int))
def D6 (a0:List TGroup) (a1:Int) (a2:TChange):Bool:=(Di a0 a1 a2)&&(!IG a0 (a2.5.getD a1.toNat (Ae TC.write))||decide (a1 >(0:Int))&&!QG (a2.5.getD (GX a0 a1 a2).toNat (Ae TC.write)) (a2.5.getD a1.toNat (Ae TC.write)))
def Ats (a0:List TGroup) (a1:Int) (a2:TChange):Bool:=(Di a0 a1 a2)&&!(D6 a0 a1 a2)
def GZ (x:CB):CB:=(x.1,IntKind.i64.wrap (x.2.1+(1:Int)),x.2.2)
def GY (x:CB):Cnd:=some (Ats x.1 x.2.1 x.2.2)
def Vt (x:CB):List Prop:=[((Di x.1 x.2.1 x.2.2)=true→(0:Int)≤x.2.1∧x.2.1 <(↑x.2.2.5.length:Int)),((Di x.1 x.2.1 x.2.2)=true→decide (x.2.1 >(0:Int))=true→(!IG x.1 (x.2.2.5.getD x.2.1.toNat (Ae TC.write)))=false→(0:Int)≤(GX x.1 x.2.1 x.2.2)∧(GX x.1 x.2.1 x.2.2) <(↑x.2.2.5.length:Int)),((Di x.1 x.2.1 x.2.2)=true→decide (x.2.1 >(0:Int))=true→(!IG x.1 (x.2.2.5.getD x.2.1.toNat (Ae TC.write)))=false→(0:Int)≤x.2.1∧x.2.1 <(↑x.2.2.5.length:Int))]
def JP (x:CB):List Prop:=[((Di x.1 x.2.1 x.2.2)=true→(0:Int)≤x.2.1∧x.2.1 <(↑x.2.2.5.length:Int)),((Di x.1 x.2.1 x.2.2)=true→decide (x.2.1 >(0:Int))=true→(!IG x.1 (x.2.2.5.getD x.2.1.toNat (Ae TC.write)))=false→(0:Int)≤(GX x.1 x.2.1 x.2.2)∧(GX x.1 x.2.1 x.2.2) <(↑x.2.2.5.length:Int)),((Di x.1 x.2.1 x.2.2)=true→decide (x.2.1 >(0:Int))=true→(!IG x.1 (x.2.2.5.getD x.2.1.toNat (Ae TC.write)))=false→(0:Int)≤x.2.1∧x.2.1 <(↑x.2.2.5.length:Int))]
def Tf (x:CB):Bo:=[(some 0,some (!decide (x.2.1 <(↑x.2.2.5.length:Int))),⟨107,1,[(4,.dead)],[(0,some (.box 136 [.v (.int .i64 x.2.2.1),.v (.int .i64 x.2.2.2),.v (.int .i64 x.2.2.3.1),.v (.int .i64 x.2.2.3.2),.v (.int .i64 x.2.2.4.1),.v (.int .i64 x.2.2.4.2),.sl .write x.2.2.5]))]⟩),(none,some ((D6 x.1 x.2.1 x.2.2)),⟨107,1,[(4,.v (.int .i64 ((120:Int))))],[(0,some (.box 136 [.v (.int .i64 x.2.2.1),.v (.int .i64 x.2.2.2),.v (.int .i64 x.2.2.3.1),.v (.int .i64 x.2.2.3.2),.v (.int .i64 x.2.2.4.1),.v (.int .i64 x.2.2.4.2),.sl .write x.2.2.5]))]⟩)]
def It (x:CB):Nat:=((↑x.2.2.5.length:Int) - x.2.1).toNat
def Atu (x:CB):CB:=Bg GZ GY (It x) x
theorem Az8 (a0:List TGroup) (a1:Int) (a2:TChange):Bz (AA Bbg L0) 9 (Aj Try.prog 171 0) Aa1 (ME (a0,a1,a2))=some (Vt (a0,a1,a2),Tf (a0,a1,a2),GY (a0,a1,a2),ME (GZ (a0,a1,a2))):=by kernel_rfl
theorem Az9 (a0:List TGroup) (a1:Int) (a2:TChange) (hp:∀p∈JP (a0,a1,a2),p):∀p∈Vt (a0,a1,a2),p:=by
 have n0:=N0 hp
 have n1:=N0 (N1 hp)
 have n2:=N0 (N1 (N1 hp))
 exact(Aa n0 (Aa n1 (Aa n2 Ab)))
noncomputable def Vu:=H1 (AA Bbg L0) (Aj Try.prog 171 0) Aa1 A27 Pz It GZ GY JP Tf
theorem Att:∀s b ps outs,Vu s=some (b,ps,outs)→Wf s ⟨ps,outs,none⟩∧Bx (AA C0 L0) b s ps outs:=
 Bm (T:=ME) Aut AH (u:=9) (by kernel_rfl) (by decide) (fun⟨a0,a1,a2⟩=>Az8 a0 a1 a2) (fun⟨a0,a1,a2⟩=>Az9 a0 a1 a2) Anj (fun _=>AW (n:=107) rfl) fun _ _=>rfl
noncomputable def Aa0:=DP 0 Vu L0
theorem Atr:Hr Aa0:=A6 Att AH
def GE (a0:List TGroup) (_a1:TChange):Bool:=AY a0 !=(0:Int)
def GD (_a0:List TGroup) (a1:TChange):Int:=IntKind.i64.wrap (a1.1 - (1:Int))
def QF (a0:List TGroup) (a1:TChange):CB:=Atu (a0,(0:Int),a1)
def JO (a0:List TGroup) (a1:TChange):Bool:=a1.1 !=(1:Int)&&a1.1 !=(2:Int)||decide (a1.2 <(1:Int))||decide (a1.2 >(1099511627776:Int))||!Hn a1.3||a1.3.2 !=a1.1||!EY a1.4||(bif(GD a0 a1).toNat.beq (0:Nat) then a1.4.1 else a1.4.2) !=a1.2||decide ((↑a1.5.length:Int) <(1:Int))||decide ((↑a1.5.length:Int) >(8:Int))
def Aeq (a0:List TGroup) (a1:TChange):Int:=bif(GE a0 a1) then AY a0 else bif(JO a0 a1) then(120:Int) else bif D6 (QF a0 a1).fst (QF a0 a1).snd.fst (QF a0 a1).snd.snd then(120:Int) else(0:Int)
def Aer (a0:List TGroup) (a1:TChange):A:=.v (.int .i64 (Aeq a0 a1))
def A0a (_a0:List TGroup) (_a1:TChange):Objs:=[]
def Aqp (a0:List TGroup) (a1:TChange):List Prop:=[(∀(g:TGroup),g∈a0→Az g.1.size),((!(GE a0 a1))=true→(a1.1 !=(1:Int)&&a1.1 !=(2:Int)||decide (a1.2 <(1:Int))||decide (a1.2 >(1099511627776:Int))||!Hn a1.3||a1.3.2 !=a1.1||!EY a1.4)=false→(0:Int)≤(GD a0 a1)∧(GD a0 a1) <(2:Int)),((!(GE a0 a1))=true→(!(JO a0 a1))=true→AL GZ GY JP (It (a0,(0:Int),a1)) (a0,(0:Int),a1))]
theorem Bf6 (a0:List TGroup) (a1:TChange):EQ (AA Bbg Aa0) 9 171 [.sl .group a0,Ak .change a1] 0 []=some (1,Aer a0 a1,0,A0a a0 a1,[(∀(g:TGroup),g∈a0→Az g.1.size),((!(GE a0 a1))=true→(a1.1 !=(1:Int)&&a1.1 !=(2:Int)||decide (a1.2 <(1:Int))||decide (a1.2 >(1099511627776:Int))||!Hn a1.3||a1.3.2 !=a1.1||!EY a1.4)=false→(0:Int)≤(GD a0 a1)∧(GD a0 a1) <(2:Int)),((!(GE a0 a1))=true→(a1.1 !=(1:Int)&&a1.1 !=(2:Int)||decide (a1.2 <(1:Int))||decide (a1.2 >(1099511627776:Int))||!Hn a1.3||a1.3.2 !=a1.1||!EY a1.4)=false→(GD a0 a1).toNat <(2:Nat)),((!(GE a0 a1))=true→(!(JO a0 a1))=true→Aj Try.prog (171:FuncId) (0:Nat)=Aj Try.prog (171:FuncId) (0:Nat)),((!(GE a0 a1))=true→(!(JO a0 a1))=true→AL GZ GY JP (It (a0,(0:Int),a1)) (a0,(0:Int),a1))]):=by kernel_rfl
theorem Bj6 (a0:List TGroup) (a1:TChange) (hp:∀p∈Aqp a0 a1,p):CallOk Try.prog 171 [.sl .group a0,Ak .change a1] 0 [] 1 (Aer a0 a1) 0 (A0a a0 a1):=by
 have n0:=N0 hp
 have n1:((!(GE a0 a1))=true→(a1.1 !=(1:Int)&&a1.1 !=(2:Int)||decide (a1.2 <(1:Int))||decide (a1.2 >(1099511627776:Int))||!Hn a1.3||a1.3.2 !=a1.1||!EY a1.4)=false→(0:Int)≤(GD a0 a1)∧(GD a0 a1) <(2:Int)):=N0 (N1 hp)
 have n2:((!(GE a0 a1))=true→(a1.1 !=(1:Int)&&a1.1 !=(2:Int)||decide (a1.2 <(1:Int))||decide (a1.2 >(1099511627776:Int))||!Hn a1.3||a1.3.2 !=a1.1||!EY a1.4)=false→(GD a0 a1).toNat <(2:Nat)):=by intro h0 h1;have g:=n1 h0 h1;omega
 have n3:((!(GE a0 a1))=true→(!(JO a0 a1))=true→Aj Try.prog (171:FuncId) (0:Nat)=Aj Try.prog (171:FuncId) (0:Nat)):=by intros;rfl
 have n4:=N0 (N1 (N1 hp))
 exact AI (Aw Aut Atr) (Bf6 a0 a1) (Aa n0 (Aa n1 (Aa n2 (Aa n3 (Aa n4 Ab)))))
def Aqq (a0:List TGroup) (a1:TChange):A:=.v (.int .i64 (N8 a0 a1))
def Aqo (_a0:List TGroup) (_a1:TChange):Objs:=[]
def Ai8 (a0:List TGroup) (a1:TChange):List Prop:=[Az a1.writes.length,∀g∈a0,Az g.1.size]
theorem Bhi (a b:TWrite):QG a b=QP a b:=by
 unfold QG QP IW
 rw[tlb]
 cases h:a.key==b.key with
 |true=>
  obtain e:=eq_of_beq h
  have e':a.1=b.1:=e
  rw[e',Tw]
  rfl
 |false=>
  show Op.bytesLess a.1.toList b.1.toList=(Op.bytesLess a.1.toList b.1.toList||false)
  rw[Bool.or_false]
theorem Bk4 (l:List TGroup) (w:TWrite):IG l w=Uz l w:=by
 have e2:(w.4.toList==(ByteArray.mk #[]).toList)=(w.value.size==0):=Rq _
 unfold IG Uz
 rw[e2]
 have h1:(Sl w.1==(0:Int))=(!(w.key.size==0)&&decide (w.key.size≤32)):=by
  unfold Sl
  show((bif w.key.size==0 then(2:Int) else bif decide (32 <w.key.size) then 3 else 0)==0)=_
  have h2:decide (32 <w.key.size)=!decide (w.key.size≤32):=by rw[←decide_not];exact decide_eq_decide.2 (by omega)
  rw[h2]
  cases w.key.size==0<;>cases decide (w.key.size≤32)<;>rfl
 have h4:decide ((w.4.size:Int)≤(64:Int))=decide (w.value.size≤64):=decide_eq_decide.2 (by omega)
 have h3:decide (w.2≥(0:Int))=decide (0≤w.group):=rfl
 rw[h1,h4,h3]
theorem Bnl (l:List TGroup) (c:TChange) (i:Nat) (hi:i≤9223372036854775807):D6 l (i:Int) c=(decide (i <c.writes.length)&&PQ l c.writes i):=by
 have e:D6 l (i:Int) c=(decide (i <c.writes.length)&&(!Uz l (wN c.writes i)||decide ((i:Int) >0)&&!QP (wN c.writes (IntKind.i64.wrap ((i:Int) - 1)).toNat) (wN c.writes i))):=by
  unfold D6 Di GX
  rw[nn,Mp,Int.toNat_natCast,Bhi,Bk4]
  rfl
 rw[e]
 unfold PQ
 cases i with
 |zero=>rfl
 |succ j=>
  have h1:(IntKind.i64.wrap (((j+1:Nat):Int) - 1)).toNat=j+1 - 1:=by rw[i64_in (by omega)];omega
  have h2:decide (((j+1:Nat):Int) >0)=decide (0 <j+1):=decide_eq_decide.2 (by omega)
  rw[h1,h2]
theorem Aqn (l:List TGroup) (c:TChange) (hb:Az c.writes.length) (hw:∀g∈l,Az g.1.size):(∀p∈Aqp l c,p)∧Aeq l c=N8 l c:=by
 unfold Az at hb
 obtain⟨h1,k,hk,hx,_,_,hb'⟩:=IJ (fun i=>((l,(i:Int),c):CB)) c.writes.length (fun i=>PQ l c.writes i) GZ GY JP (It (l,0,c)) (l,0,c) rfl (by show c.writes.length≤((c.writes.length:Int) - 0).toNat;omega)
  (fun i hi _=>by
   show((!!decide ((i:Int) <(c.writes.length:Int)))&&!D6 l (i:Int) c)=_
   rw[Bnl l c i (by omega),nn,Mp]
   cases decide (i <c.writes.length)<;>rfl)
  (fun i hi _=>by
   show(l,IntKind.i64.wrap ((i:Int)+1),c)=(l,((i+1:Nat):Int),c)
   rw[Fp (by omega)])
  (fun i hi _=>by
   have hin:(!!decide ((i:Int) <(c.writes.length:Int)))=true→(i:Int) <(c.writes.length:Int):=fun h=>by rw[nn] at h;exact of_decide_eq_true h
   refine Aa (fun h=>⟨by show(0:Int)≤(i:Int);omega,hin h⟩) (Aa (fun h h3 _=>?_) (Aa (fun h _ _=>⟨by show(0:Int)≤(i:Int);omega,hin h⟩) Ab))
   have h4:(i:Int) >0:=of_decide_eq_true h3
   have h5:=hin h
   show(0:Int)≤IntKind.i64.wrap ((i:Int) - 1)∧IntKind.i64.wrap ((i:Int) - 1) <(c.writes.length:Int)
   rw[i64_in (by omega)]
   omega)
 have hr:QF l c=(l,(k:Int),c):=hx
 refine⟨Aa hw (Aa (fun _ h=>Bnu (Bxl.1 (by
  cases hs:c.site !=1&&c.site !=2 with
  |false=>rfl
  |true=>
   have h':(c.site !=(1:Int)&&c.site !=(2:Int)||decide (c.seq <(1:Int))||decide (c.seq >(1099511627776:Int))||!Hn c.stamp||c.stamp.site !=c.site||!EY c.vec)=false:=h
   rw[hs] at h'
   simp at h'))) (Aa (fun _ _=>h1) Ab)),?_⟩
 unfold Aeq N8
 show(bif AY l !=0 then AY l else _)=_
 congr 1
 have e0:JO l c=(!Ib c||!Ah8 c):=by
  rw[Bmy,Bool.not_not]
  unfold JO GD Ah8
  rw[XH,Qy]
  have h2:decide ((c.5.length:Int) <(1:Int))=!decide (1≤c.writes.length):=by rw[←decide_not];exact decide_eq_decide.2 (by show(c.writes.length:Int) <1↔_;omega)
  have h3:decide ((c.5.length:Int) >(8:Int))=!decide (c.writes.length≤8):=by rw[←decide_not];exact decide_eq_decide.2 (by show(c.writes.length:Int) >8↔_;omega)
  rw[h2,h3]
  show(_||_||_||!H3 c.stamp||c.stamp.site !=c.site||_||_||_||_)=(_||_||_||c.stamp.site !=c.site||!H3 c.stamp||_||_||_)
  cases H3 c.stamp<;>cases c.stamp.site !=c.site<;>cases decide (1≤c.writes.length)<;>cases decide (c.writes.length≤8)<;>simp
 rw[e0,hr]
 show(bif !Ib c||!Ah8 c then 120 else bif D6 l (k:Int) c then 120 else 0)=_
 rw[Bnl l c k (Nat.le_trans hk hb),hb']
 cases Ib c<;>cases Ah8 c<;>cases Jn c.writes.length (fun i=>!PQ l c.writes i)<;>rfl
theorem Bf5 (a0:List TGroup) (a1:TChange) (hp:∀p∈Ai8 a0 a1,p):CallOk Try.prog 171 [.sl .group a0,Ak .change a1] 0 [] 1 (Aqq a0 a1) 0 (Aqo a0 a1):=by
 have hb:Az a1.writes.length:=hp _ (List.mem_cons_self ..)
 have hw:∀g∈a0,Az g.1.size:=hp _ (List.mem_cons_of_mem _ (List.mem_cons_self ..))
 have h:=Bj6 a0 a1 (Aqn a0 a1 hb hw).1
 unfold Aer at h
 rw[(Aqn a0 a1 hb hw).2] at h
 exact h
def Aes:List A→Nat→Objs→Option Bb
 | [y0,y1],nx,o=>match Kh .group y0,AQ .change y1 with
  |some a0,some (a1,p1)=>some (1,(Aqq a0 a1).pk (AF nx),nx+0,AE nx (Aqo a0 a1)++o,p1++(Ai8 a0 a1))
  |_,_=>none
 |_,_,_=>none
theorem A9o:Ft Try.prog 171 Aes:=fun args nx o k x nx' o' ps h=>by
 unfold Aes at h
 split at h<;>first|(cases h;done)|skip
 split at h<;>first|(cases h;done)|skip
 rename_i a0 a1 p1 e0 e1
 cases h
 refine⟨fun hp=>?_,_,rfl⟩
 have q1:=fun p hm=>hp p (List.mem_append.2 (.inl hm))
 have r1:=fun p hm=>hp p (List.mem_append.2 (.inr hm))
 refine Ah (Ag (Bf5 a0 a1 r1) (Nat.le_refl _) (Ac rfl (Ac (Af _ _) Ao)) nx o) fun F N R vs hl=>?_
 obtain⟨v0,w0,rfl,h0,hl⟩:=hl.inv
 obtain⟨v1,w1,rfl,h1,hl⟩:=hl.inv
 exact HL.cons (BX e0 h0) (HL.cons (Am e1 q1 h1) (hl))
noncomputable def By0:=A7 171 Aes Bbg
theorem Bqx:Dd Try.prog By0:=Av A9o Aut
noncomputable def Cch:=By0
theorem Bqy:Dd Try.prog Cch:=Bqx
end Go.Proofs.Yteebobbhhgmeiaa
namespace Go.Proofs.Yteebobbhhgmeiaa
open Go.RowKit
def Au5 (z:Option TRow) (xs:List (Option TRow)):Option TRow:=xs.foldl MY z
section
variable {l:List TGroup} {k:ByteArray}
theorem A8o:∀{xs:List (Option TRow)} {z:Option TRow},OkO l k z→(∀x∈xs,OkO l k x)→OkO l k (Au5 z xs)
 | [],_,hz,_=>hz
 |x::xs,_,hz,hx=>A8o (xs:=xs) (Ber hz (hx x (List.mem_cons_self ..))) fun y hy=>hx y (List.mem_cons_of_mem _ hy)
def Inn (z x:Option TRow):Prop:=MY z x=z
theorem Bs6 {z x y:Option TRow} (hz:OkO l k z) (hx:OkO l k x) (hy:OkO l k y) (h:Inn z x):Inn (MY z y) x:=by
 show MY (MY z y) x=MY z y
 rw[T8 hz hy hx,A45 hy hx,←T8 hz hx hy,show MY z x=z from h]
theorem Bb3 (z:Option TRow) (xs ys:List (Option TRow)):Au5 z (xs++ys)=Au5 (Au5 z xs) ys:=List.foldl_append
theorem Abq:∀{xs:List (Option TRow)} {z:Option TRow},OkO l k z→(∀x∈xs,OkO l k x)→Au5 z xs=MY z (Au5 none xs)
 | [],z,_,_=>(Al4 z).symm
 |x::xs,z,hz,hx=>by
  have h1:=hx x (List.mem_cons_self ..)
  have h2:=fun y hy=>hx y (List.mem_cons_of_mem _ hy)
  show Au5 (MY z x) xs=MY z (Au5 (MY none x) xs)
  rw[Abq (Ber hz h1) h2,Abq (xs:=xs) (z:=MY none x) h1 h2]
  exact T8 hz h1 (A8o (z:=none) trivial h2)
end
def nb (rows:List TRow):List TRow:=rows.filter fun r=>!FF r
def stF (ss:List (List TRow)):List TRow:=ss.foldl (fun out rows=>mrg (out.length+(nb rows).length) out (nb rows)) []
def stG (z:List TRow) (ss:List (List TRow)):List TRow:=ss.foldl (fun out rows=>mrg (out.length+(nb rows).length) out (nb rows)) z
theorem B1i {l:List TGroup} {rows:List TRow} (hr:Og rows) (hg:∀r∈rows,Ap l r=0):Stt l (nb rows):=by
 refine⟨List.Pairwise.filter _ hr,fun r hm=>?_⟩
 obtain⟨h1,h2⟩:=List.mem_filter.1 hm
 exact⟨hg r h1,by simpa using h2⟩
theorem Bnv {l:List TGroup}:∀{ss:List (List TRow)} {z:List TRow},Stt l z→(∀s∈ss,Stt l (nb s))→Stt l (stG z ss)
 | [],_,hz,_=>hz
 |s::ss,_,hz,h=>Bnv (ss:=ss) (hz.mrg _ (h s (List.mem_cons_self ..))) fun t ht=>h t (List.mem_cons_of_mem _ ht)
theorem Bus {l:List TGroup} (k:ByteArray):∀{ss:List (List TRow)} {z:List TRow},Stt l z→(∀s∈ss,Stt l (nb s))→ML (stG z ss) k=Au5 (ML z k) (ss.map fun s=>ML (nb s) k)
 | [],_,_,_=>rfl
 |s::ss,z,hz,h=>by
  have h1:=h s (List.mem_cons_self ..)
  show ML (stG (mrg (z.length+(nb s).length) z (nb s)) ss) k=Au5 (MY (ML z k) (ML (nb s) k)) (ss.map fun s=>ML (nb s) k)
  rw[Bus k (ss:=ss) (hz.mrg _ h1) fun t ht=>h t (List.mem_cons_of_mem _ ht),Ko _ hz.rise h1.rise (Nat.le_refl _)]
theorem Ajs {l:List TGroup} {ss:List (List TRow)} (h:∀s∈ss,Stt l (nb s)):Stt l (stF ss):=Bnv (Ajw l) h
theorem Bkn {l:List TGroup} {ss:List (List TRow)} (h:∀s∈ss,Stt l (nb s)) (k:ByteArray):ML (stF ss) k=Au5 none (ss.map fun s=>ML (nb s) k):=Bus k (Ajw l) h
theorem Bkm {l:List TGroup} {ss ts:List (List TRow)} (hs:∀s∈ss,Stt l (nb s)) (ht:∀t∈ts,Stt l (nb t)) {n:Nat} (hn:(stF ss).length+(stF ts).length≤n):stF (ss++ts)=mrg n (stF ss) (stF ts):=by
 have ha:∀s∈ss++ts,Stt l (nb s):=fun s h=>by
  rcases List.mem_append.1 h with h|h
  ·exact hs s h
  ·exact ht s h
 refine A0g (Ajs ha).rise (MX n (Ajs hs).rise (Ajs ht).rise) fun k=>?_
 rw[Bkn ha,Ko n (Ajs hs).rise (Ajs ht).rise hn,Bkn hs,Bkn ht,List.map_append,Bb3]
 have o1:∀x∈ss.map (fun s=>ML (nb s) k),OkO l k x:=fun x hx=>by
  obtain⟨s,h1,rfl⟩:=List.mem_map.1 hx
  exact Xp (hs s h1) k
 have o2:∀x∈ts.map (fun s=>ML (nb s) k),OkO l k x:=fun x hx=>by
  obtain⟨s,h1,rfl⟩:=List.mem_map.1 hx
  exact Xp (ht s h1) k
 exact Abq (A8o (z:=none) trivial o1) o2
theorem Btr {l:List TGroup} {a b:List TRow} (ha:Stt l a) (hb:Stt l b) (h:∀k,Inn (ML b k) (ML a k)) {n:Nat} (hn:a.length+b.length≤n):mrg n a b=b:=by
 refine A0g (MX n ha.rise hb.rise) hb.rise fun k=>?_
 rw[Ko n ha.rise hb.rise hn,A45 (Xp ha k) (Xp hb k)]
 exact h k
theorem A7a {l:List TGroup} {a b:List TRow} (ha:Stt l a) (hb:Stt l b) {n:Nat} (hn:a.length+b.length≤n) (k:ByteArray):Inn (ML (mrg n a b) k) (ML a k):=by
 rw[Ko n ha.rise hb.rise hn]
 have h1:=Xp ha k
 have h2:=Xp hb k
 exact Bs6 h1 h1 h2 (A46 h1)
theorem A1r {l:List TGroup} {a b:List TRow} (ha:Stt l a) (hb:Stt l b) {n:Nat} (hn:a.length+b.length≤n) (k:ByteArray):Inn (ML (mrg n a b) k) (ML b k):=by
 rw[Ko n ha.rise hb.rise hn]
 have h1:=Xp ha k
 have h2:=Xp hb k
 show MY (MY (ML a k) (ML b k)) (ML b k)=_
 rw[T8 h1 h2 h2,A46 h2]
end Go.Proofs.Yteebobbhhgmeiaa
namespace Go.Proofs.Yteebobbhhgmeiaa
open Go.RowKit
def ofC (p:Int) (s:TStamp) (v:TVec) (g:Bool) (x:ByteArray):TCell:=bif p==2&&g then⟨⟨0,0⟩,⟨0,0⟩,false,⟨#[]⟩,v⟩ else⟨s,v,g,x,⟨0,0⟩⟩
def Afu (l:List TGroup) (c:TChange) (w:TWrite):TCell:=ofC (Acy l w.group.toNat) c.stamp c.vec w.gone w.value
def A8k (l:List TGroup) (k:ByteArray):TRow:=⟨k,List.replicate l.length zeroC⟩
def Aoy (o:List TRow):TRow:=BJ o (o.length - 1)
def KQ (l:List TGroup) (o:List TRow) (k:ByteArray):List TRow:=bif(o.length==0)||!((Aoy o).key==k) then o++[A8k l k] else o
def Bi4 (l:List TGroup) (c:TChange) (o:List TRow) (w:TWrite):List TRow:=o.set (o.length - 1) ⟨(Aoy o).key,(Aoy o).cells.set w.group.toNat (Afu l c w)⟩
def VE (l:List TGroup) (c:TChange) (o:List TRow) (w:TWrite):List TRow:=Bi4 l c (KQ l o w.key) w
def YL (l:List TGroup) (c:TChange):Nat→List TRow
 |0=>[]
 |i+1=>VE l c (YL l c i) (wN c.writes i)
def PU (l:List TGroup) (c:TChange):List TRow:=bif N8 l c==0 then YL l c c.writes.length else[]
theorem Bct {l:List TGroup} {c:TChange}:N8 l c=0↔AY l=0∧Ib c=true∧Ah8 c=true∧∀i,i <c.writes.length→PQ l c.writes i=false:=by
 unfold N8
 cases h:AY l !=0 with
 |true=>
  rw[cond_true]
  have h':AY l≠0:=by simpa using h
  exact⟨fun e=>absurd e h',fun e=>absurd e.1 h'⟩
 | false=>
  have h':AY l=0:=by simpa using h
  rw[cond_false]
  cases h1:Ib c with
  |false=>exact⟨fun e=>(by cases e),fun e=>by cases e.2.1⟩
  | true=>
   cases h2:Ah8 c with
   |false=>exact⟨fun e=>(by cases e),fun e=>by cases e.2.2.1⟩
   | true=>
    rw[Bool.true_and,Bool.true_and]
    cases h3:Jn c.writes.length (fun i=>!PQ l c.writes i) with
    |false=>
     refine⟨fun e=>(by cases e),fun e=>?_⟩
     have:Jn c.writes.length (fun i=>!PQ l c.writes i)=true:=HF.2 fun i hi=>by rw[e.2.2.2 i hi];rfl
     rw[this] at h3
     cases h3
    |true=>exact⟨fun _=>⟨h',rfl,rfl,fun i hi=>by simpa using HF.1 h3 i hi⟩,fun _=>rfl⟩
theorem Aj3 {l:List TGroup} {w:TWrite} (h:Uz l w=true):w.key.size≠0∧w.key.size≤32∧0≤w.group∧w.group <(l.length:Int)∧w.value.size≤64∧(w.gone=true→w.value.size=0):=by
 unfold Uz at h
 simp only[Bool.and_eq_true,Bool.not_eq_true',beq_eq_false_iff_ne,decide_eq_true_eq,Bool.or_eq_true,beq_iff_eq] at h
 obtain⟨⟨⟨⟨⟨h1,h2⟩,h3⟩,h4⟩,h5⟩,h6⟩:=h
 exact⟨h1,h2,h3,h4,h5,fun e=>by rcases h6 with h6|h6<;>first|exact h6|(rw[e] at h6;cases h6)⟩
theorem Au9 {l:List TGroup} {ws:List TWrite} {i:Nat} (h:PQ l ws i=false):Uz l (wN ws i)=true∧(0 <i→QP (wN ws (i - 1)) (wN ws i)=true):=by
 unfold PQ at h
 rw[Bool.or_eq_false_iff] at h
 refine⟨by simpa using h.1,fun hi=>?_⟩
 have:=h.2
 rw[decide_eq_true hi,Bool.true_and] at this
 simpa using this
theorem Aku {c:TChange} (h:Ib c=true):(c.site=1∨c.site=2)∧1≤c.seq∧c.seq≤1099511627776∧c.stamp.site=c.site∧H3 c.stamp=true∧CI c.vec=true:=by
 unfold Ib at h
 simp only[Bool.and_eq_true,Bool.or_eq_true,beq_iff_eq,decide_eq_true_eq] at h
 obtain⟨⟨⟨⟨⟨⟨h1,h2⟩,h3⟩,h4⟩,h5⟩,h6⟩,_⟩:=h
 exact⟨h1,h2,h3,h4,h5,h6⟩
theorem Bsz {c:TChange} (h:Ib c=true):0 <c.stamp.n:=by
 obtain⟨h1,_,_,h4,h5,_⟩:=Aku h
 unfold H3 at h5
 have hs:(c.stamp.site==0)=false:=beq_eq_false_iff_ne.2 (by rw[h4];rcases h1 with e|e<;>rw[e]<;>decide)
 rw[hs,Bool.and_false,cond_false] at h5
 simp only[Bool.and_eq_true,decide_eq_true_eq] at h5
 omega
theorem Bnk {l:List TGroup} (hp:AY l=0) {g:Nat} (hg:g <l.length):Acy l g=1∨Acy l g=2:=by
 have h:Ap l ⟨⟨#[1]⟩,List.replicate l.length zeroC⟩=0:=by
  rw[P3]
  unfold VL Sl
  rw[hp]
  rfl
 have h1:=Jw h hg
 unfold BA at h1
 by_cases e1:Acy l g=1
 ·exact .inl e1
 by_cases e2:Acy l g=2
 ·exact .inr e2
 ·have f1:(Acy l g==1)=false:=beq_eq_false_iff_ne.2 e1
  have f2:(Acy l g==2)=false:=beq_eq_false_iff_ne.2 e2
  simp[f1,f2] at h1
theorem Btx {p:Int} (hp:p=1∨p=2) {s:TStamp} {v:TVec} {g:Bool} {x:ByteArray} (hs:H3 s=true) (hn:0 <s.n) (hv:CI v=true) (hx:x.size≤64) (hg:g=true→x.size=0):BA p (ofC p s v g x)=true:=by
 have hw:∀d:TVec,Cx ⟨s,v,g,x,d⟩=true:=fun d=>by
  unfold Cx
  have:(s.n==0)=false:=beq_eq_false_iff_ne.2 (by omega)
  show(!(s.n==0&&_&&_&&_))=true
  rw[this]
  rfl
 have hgx:(g&&!(x.size==0))=false:=by
  cases g with
  |false=>rfl
  |true=>rw[hg rfl];rfl
 have hz:Hq ⟨0,0⟩=true:=rfl
 have hx':decide ((x.size:Int)≤64)=true:=decide_eq_true (by omega)
 rcases hp with rfl|rfl
 ·show BA 1 ⟨s,v,g,x,⟨0,0⟩⟩=true
  unfold BA
  rw[hw]
  show(bif(1:Int)==1&&!Hq ⟨0,0⟩||_ then false else bif !true then true else H3 s&&decide (0 <s.n)&&CI v&&decide ((x.size:Int)≤64)&&!(g&&!(x.size==0)))=true
  rw[hs,decide_eq_true hn,hv,hx',hgx]
  rfl
 ·unfold ofC
  cases g with
  |true=>
   show BA 2 ⟨⟨0,0⟩,⟨0,0⟩,false,⟨#[]⟩,v⟩=true
   unfold BA
   show(bif(2:Int)==1&&!Hq v||((2:Int)==2&&(false||!CI v)||!((2:Int)==1||(2:Int)==2)) then false else bif !Cx ⟨⟨0,0⟩,⟨0,0⟩,false,⟨#[]⟩,v⟩ then true else _)=true
   rw[hv]
   rfl
  |false=>
   show BA 2 ⟨s,v,false,x,⟨0,0⟩⟩=true
   unfold BA
   rw[hw]
   show(bif(2:Int)==1&&!Hq ⟨0,0⟩||((2:Int)==2&&(false||!CI ⟨0,0⟩)||!((2:Int)==1||(2:Int)==2)) then false else bif !true then true else H3 s&&decide (0 <s.n)&&CI v&&decide ((x.size:Int)≤64)&&!(false&&!(x.size==0)))=true
   rw[hs,decide_eq_true hn,hv,hx']
   rfl
theorem Abr {l:List TGroup} {c:TChange} {w:TWrite} (hp:AY l=0) (hh:Ib c=true) (hw:Uz l w=true):BA (Acy l w.group.toNat) (Afu l c w)=true:=by
 obtain⟨_,_,h3,h4,h5,h6⟩:=Aj3 hw
 obtain⟨_,_,_,_,s5,s6⟩:=Aku hh
 exact Btx (Bnk hp (by omega)) s5 (Bsz hh) s6 h5 h6
theorem Ali (pre:List TRow) (z:TRow):Aoy (pre++[z])=z:=by
 unfold Aoy BJ
 rw[List.length_append,List.length_singleton,Nat.add_sub_cancel,List.getD_eq_getElem?_getD,List.getElem?_append_right (Nat.le_refl _),Nat.sub_self]
 rfl
theorem Aym (l:List TGroup) (c:TChange) (pre:List TRow) (z:TRow) (w:TWrite):Bi4 l c (pre++[z]) w=pre++[⟨z.key,z.cells.set w.group.toNat (Afu l c w)⟩]:=by
 unfold Bi4
 rw[Ali,List.length_append,List.length_singleton,Nat.add_sub_cancel,List.set_append_right _ _ (Nat.le_refl _),Nat.sub_self]
 rfl
theorem Wm {l:List TGroup} {r:TRow} {g:Nat} {x:TCell} (h:Ap l r=0) (hx:BA (Acy l g) x=true):Ap l ⟨r.key,r.cells.set g x⟩=0:=by
 obtain⟨h1,h2,h3,h4,_⟩:=AS h
 have hl:(r.cells.set g x).length=l.length:=by rw[List.length_set];exact h2
 refine Awb h1 h3 h4 hl ((A68 hl).2 fun i hi=>?_)
 have e:Gj (r.cells.set g x) i=if g=i then x else Gj r.cells i:=by
  unfold Gj
  rw[List.getD_eq_getElem?_getD,List.getElem?_set]
  by_cases e:g=i
  ·subst e
   rw[if_pos rfl,if_pos rfl,if_pos (by omega)]
   rfl
  ·rw[if_neg e,if_neg e,←List.getD_eq_getElem?_getD]
 rw[e]
 by_cases e:g=i
 ·subst e
  rw[if_pos rfl]
  exact hx
 ·rw[if_neg e]
  exact Jw h hi
theorem Agp {l:List TGroup} {w:TWrite} (hp:AY l=0) (hw:Uz l w=true):Ap l (A8k l w.key)=0:=by
 obtain⟨h1,h2,_⟩:=Aj3 hw
 unfold A8k
 rw[P3]
 unfold VL Sl
 rw[hp,beq_eq_false_iff_ne.2 h1,decide_eq_false (by omega)]
 rfl
theorem A0f {pre:List TRow} {z:TRow}:Og (pre++[z])↔Og pre∧∀r∈pre,IW r.key z.key=true:=by
 unfold Og
 rw[List.pairwise_append]
 constructor
 ·rintro⟨h1,_,h3⟩
  exact⟨h1,fun r hr=>h3 r hr z (List.mem_singleton.2 rfl)⟩
 ·rintro⟨h1,h2⟩
  exact⟨h1,List.pairwise_singleton _ _,fun r hr y hy=>by rw[List.mem_singleton.1 hy];exact h2 r hr⟩
structure ChI (l:List TGroup) (o:List TRow) (k:ByteArray):Prop where
 last:∃pre z,o=pre++[z]∧z.key=k
 rise:Og o
 good:∀r∈o,Ap l r=0
theorem Bg0 {l:List TGroup} {c:TChange} {w:TWrite} (hp:AY l=0) (hh:Ib c=true) (hw:Uz l w=true):ChI l (VE l c [] w) w.key:=by
 have e:VE l c [] w=[]++[⟨w.key,(A8k l w.key).cells.set w.group.toNat (Afu l c w)⟩]:=Aym l c [] (A8k l w.key) w
 rw[e]
 refine⟨⟨[],_,rfl,rfl⟩,List.pairwise_singleton _ _,fun r hr=>?_⟩
 rw[List.mem_singleton.1 hr]
 exact Wm (Agp hp hw) (Abr hp hh hw)
theorem Bko {l:List TGroup} {c:TChange} {o:List TRow} {v w:TWrite} (hp:AY l=0) (hh:Ib c=true) (hw:Uz l w=true) (h:ChI l o v.key) (hv:QP v w=true):ChI l (VE l c o w) w.key:=by
 obtain⟨⟨pre,z,rfl,hz⟩,hr,hg⟩:=h
 have hn:((pre++[z]).length==0)=false:=beq_eq_false_iff_ne.2 (by rw[List.length_append,List.length_singleton];omega)
 obtain⟨r1,r2⟩:=A0f.1 hr
 by_cases hk:z.key=w.key
 ·have e:VE l c (pre++[z]) w=pre++[⟨z.key,z.cells.set w.group.toNat (Afu l c w)⟩]:=by
   unfold VE KQ
   rw[hn,Ali,hk,beq_self_eq_true]
   show Bi4 l c (pre++[z]) w=_
   rw[Aym,hk]
  rw[e]
  refine⟨⟨pre,_,rfl,hk⟩,A0f.2 ⟨r1,r2⟩,fun r hr=>?_⟩
  rcases List.mem_append.1 hr with hr|hr
  ·exact hg r (List.mem_append.2 (.inl hr))
  ·rw[List.mem_singleton.1 hr]
   exact Wm (hg z (List.mem_append.2 (.inr (List.mem_singleton.2 rfl)))) (Abr hp hh hw)
 ·have e:VE l c (pre++[z]) w=(pre++[z])++[⟨w.key,(A8k l w.key).cells.set w.group.toNat (Afu l c w)⟩]:=by
   unfold VE KQ
   rw[hn,Ali,beq_eq_false_iff_ne.2 hk]
   show Bi4 l c ((pre++[z])++[A8k l w.key]) w=_
   rw[Aym]
   rfl
  have hlt:IW z.key w.key=true:=by
   unfold QP at hv
   rw[←hz,beq_eq_false_iff_ne.2 hk,Bool.false_and,Bool.or_false] at hv
   exact hv
  rw[e]
  refine⟨⟨pre++[z],_,rfl,rfl⟩,A0f.2 ⟨hr,fun r hr=>?_⟩,fun r hr=>?_⟩
  ·rcases List.mem_append.1 hr with hr|hr
   ·exact KX (r2 r hr) hlt
   ·rw[List.mem_singleton.1 hr]
    exact hlt
  ·rcases List.mem_append.1 hr with hr|hr
   ·exact hg r hr
   ·rw[List.mem_singleton.1 hr]
    exact Wm (Agp hp hw) (Abr hp hh hw)
theorem Bmo {l:List TGroup} {c:TChange} (h:N8 l c=0):∀i,i <c.writes.length→ChI l (YL l c (i+1)) (wN c.writes i).key
 |0,hi=>by
  obtain⟨hp,hh,_,hb⟩:=Bct.1 h
  exact Bg0 hp hh (Au9 (hb 0 hi)).1
 |i+1,hi=>by
  obtain⟨hp,hh,_,hb⟩:=Bct.1 h
  obtain⟨h1,h2⟩:=Au9 (hb (i+1) hi)
  exact Bko hp hh h1 (Bmo h i (by omega)) (h2 (by omega))
theorem Bcu {l:List TGroup} {c:TChange} (h:N8 l c=0) (i:Nat) (hi:i≤c.writes.length):Og (YL l c i)∧∀r∈YL l c i,Ap l r=0:=by
 cases i with
 |zero=>exact⟨List.Pairwise.nil,fun r hr=>by cases hr⟩
 |succ i=>
  have:=Bmo h i hi
  exact⟨this.rise,this.good⟩
theorem Avn (l:List TGroup) (c:TChange):Og (PU l c)∧∀r∈PU l c,Ap l r=0:=by
 unfold PU
 cases h:N8 l c==0 with
 |false=>exact⟨List.Pairwise.nil,fun r hr=>by cases hr⟩
 |true=>exact Bcu (by simpa using h) _ (Nat.le_refl _)
theorem Bpy (l:List TGroup) (c:TChange) (o:List TRow) (w:TWrite):(VE l c o w).length≤o.length+1:=by
 unfold VE Bi4 KQ
 rw[List.length_set]
 cases(o.length==0)||!((Aoy o).key==w.key) with
 |true=>rw[cond_true,List.length_append];exact Nat.le_refl _
 |false=>exact Nat.le_succ _
theorem A6s (l:List TGroup) (c:TChange):∀i,(YL l c i).length≤i
 |0=>Nat.le_refl _
 |i+1=>Nat.le_trans (Bpy ..) (Nat.succ_le_succ (A6s l c i))
end Go.Proofs.Yteebobbhhgmeiaa
namespace Go.Proofs.Yteebobbhhgmeiaa
open Go.RowKit
def Bwc (a0:List TGroup) (a1:TChange):A:=.tup [.dq 0,.v (.int .i64 (N8 a0 a1))]
def Bwb (a0:List TGroup) (a1:TChange):Objs:=[(0,some (.deep 71 .row (PU a0 a1)))]
theorem Bxq {l:List TGroup} {c:TChange} {w:TWrite} (hp:AY l=0) (hh:Ib c=true) (hw:Uz l w=true):Kq (l.getD w.group.toNat (Ae TC.group)).2 c.stamp c.vec w.gone w.value=Afu l c w∧H7 (l.getD w.group.toNat (Ae TC.group)).2 c.stamp c.vec w.gone w.value=Afu l c w:=by
 obtain⟨_,_,g0,g1,hx,hg⟩:=Aj3 hw
 obtain⟨_,_,_,_,hs,hv⟩:=Aku hh
 have hn:0 <c.stamp.n:=Bsz hh
 have hpo:(l.getD w.group.toNat (Ae TC.group)).2=1∨(l.getD w.group.toNat (Ae TC.group)).2=2:=Bnk hp (by omega)
 unfold Afu Acy
 show _=ofC (l.getD w.group.toNat (Ae TC.group)).2 _ _ _ _∧_=ofC (l.getD w.group.toNat (Ae TC.group)).2 _ _ _ _
 generalize (l.getD w.group.toNat (Ae TC.group)).2=p at*
 generalize c.stamp=s at*
 generalize c.vec=v at*
 have h1:(p !=(1:Int)&&p !=(2:Int))=false:=Bxl.2 hpo
 have h2:(s.1==(0:Int))=false:=beq_eq_false_iff_ne.2 (by have:s.1=s.n:=rfl;omega)
 have h3:(w.gone&&!w.value.toList==(ByteArray.mk #[]).toList)=false:=by
  rw[Rq]
  cases h:w.gone with
  |false=>rfl
  |true=>rw[hg h];rfl
 have h4:decide ((w.value.size:Int) >(64:Int))=false:=decide_eq_false (by omega)
 constructor
 ·have k0:Il p s v w.gone w.value=false:=by
   unfold Il
   rw[XH,Qy,hs,hv,h1,h2,h3]
   rfl
  have k1:I9 p s v w.gone w.value=false:=h4
  have k2:Ja p s v w.gone w.value=(p==2&&w.gone):=rfl
  unfold Kq ofC
  rw[k0,k1,k2]
  cases p==2&&w.gone<;>rfl
 ·have k2:IL p s v w.gone w.value=false:=by
   unfold IL
   rw[Ku,K1,hs,hv,h1,h2,h3]
   rfl
  have k3:Jo p s v w.gone w.value=false:=h4
  have k1:G7 p s v w.gone w.value=(p==2&&w.gone):=by
   unfold G7
   rw[k2,k3]
   cases w.gone<;>cases p==2<;>rfl
  have k0:LU p s v w.gone w.value=0:=by
   unfold LU
   rw[k2,k3]
   rfl
  unfold H7 ofC
  rw[k1,k0,k2,k3]
  cases p==2&&w.gone<;>rfl
theorem Bd6 {n:Nat} (h:n≤100):(IntKind.i64.wrap ((n:Int) - 1)).toNat=n - 1:=by
 rw[i64_in (by omega)]
 omega
theorem Ayd (l:List TGroup) (o:List TRow) (k:ByteArray):1≤(KQ l o k).length∧(KQ l o k).length≤o.length+1:=by
 unfold KQ
 cases h:(o.length==0)||!((Aoy o).key==k) with
 |true=>rw[cond_true,List.length_append];exact⟨Nat.le_add_left _ _,Nat.le_refl _⟩
 |false=>
  rw[cond_false]
  have:(o.length==0)=false:=(Bool.or_eq_false_iff.1 h).1
  have:o.length≠0:=by simpa using this
  omega
theorem A8p {l:List TGroup} {o:List TRow} (k:ByteArray) (h:∀r∈o,Ap l r=0):∀r∈KQ l o k,r.cells.length=l.length:=fun r hr=>by
 have h1:∀r∈o,r.cells.length=l.length:=fun r hr=>(AS (h r hr)).2.1
 unfold KQ at hr
 cases hb:(o.length==0)||!((Aoy o).key==k) with
 | true=>
  rw[hb,cond_true] at hr
  rcases List.mem_append.1 hr with hr|hr
  ·exact h1 r hr
  ·rw[List.mem_singleton.1 hr]
   exact List.length_replicate
 |false=>rw[hb,cond_false] at hr;exact h1 r hr
theorem QR {l:List TGroup} {c:TChange} (h:N8 l c=0) {i:Nat} (hi:i <c.writes.length):AY l=0∧Ib c=true∧Uz l (wN c.writes i)=true∧c.writes.length≤8∧l.length≤4∧(YL l c i).length≤i∧∀r∈KQ l (YL l c i) (wN c.writes i).key,r.cells.length=l.length:=by
 obtain⟨hp,hh,hn,hb⟩:=Bct.1 h
 unfold Ah8 at hn
 rw[Bool.and_eq_true,decide_eq_true_eq,decide_eq_true_eq] at hn
 exact⟨hp,hh,(Au9 (hb i hi)).1,hn.2,(Gu hp).2,A6s l c i,A8p _ (Bcu h i (by omega)).2⟩
theorem Bwn {l:List TGroup} {c:TChange} (h:N8 l c=0):c.writes.length≤8:=by
 obtain⟨_,_,hn,_⟩:=Bct.1 h
 unfold Ah8 at hn
 rw[Bool.and_eq_true,decide_eq_true_eq,decide_eq_true_eq] at hn
 exact hn.2
theorem Btu {l:List TGroup} {w:TWrite} (hp:AY l=0) (hw:Uz l w=true):Ah7 l w.key=A8k l w.key:=by
 obtain⟨h1,h2,_⟩:=Aj3 hw
 have hk:Sl w.key=0:=by
  unfold Sl
  rw[show(w.key.size==0)=false by simpa using h1,decide_eq_false (by omega)]
  rfl
 have hn:VL l w.key=0:=by unfold VL;rw[hp,hk];rfl
 unfold Ah7 A8k
 rw[hn]
 rfl
abbrev BC:Type:=(List TGroup)×(List TWrite)×Int×Int×TChange×(List TRow)
def JX (x:BC):St:=⟨85,3,[(0,.sl .group x.1),(3,.own 0 0),(7,.dq 2),(22,.sl .write x.2.1),(23,.v (.int .i64 x.2.2.1)),(24,.v (.int .i64 x.2.2.2.1))],[(0,some (.box 136 [.v (.int .i64 x.2.2.2.2.1.site),.v (.int .i64 x.2.2.2.2.1.seq),.v (.int .i64 x.2.2.2.2.1.stamp.n),.v (.int .i64 x.2.2.2.2.1.stamp.site),.v (.int .i64 x.2.2.2.2.1.vec.a),.v (.int .i64 x.2.2.2.2.1.vec.b),.sl .write x.2.2.2.2.1.writes])),(2,some (.deep 71 .row x.2.2.2.2.2))]⟩
def K6:St→Option BC
 |⟨85,3,[(0,.sl .group z0),(3,.own 0 0),(7,.dq 2),(22,.sl .write z1),(23,.v (.int .i64 z2)),(24,.v (.int .i64 z3))],[(0,some (.box 136 [.v (.int .i64 z4),.v (.int .i64 z5),.v (.int .i64 z6),.v (.int .i64 z7),.v (.int .i64 z8),.v (.int .i64 z9),.sl .write z10])),(2,some (.deep 71 .row z11))]⟩=>some (z0,z1,z2,z3,⟨z4,z5,⟨z6,z7⟩,⟨z8,z9⟩,z10⟩,z11)
 |_=>none
theorem Zd:∀s x,K6 s=some x→s=JX x:=fun s x h=>by
 unfold K6 at h
 split at h
 ·cases h;rfl
 ·cases h
def R4:Dj:=⟨2,3,[0,3,7,22,23,24],[],[(0,0),(8,2)],[0,8],[7],[2,0]⟩
def Akf:DB:=⟨[.nilD 7 71 .row],[(0,0),(1,2)],[0,3,7,22,23,24],[0,1]⟩
def Bn (_a0:List TGroup) (_a1:List TWrite) (_a2:Int) (_a3:Int) (_a4:TChange) (a5:List TRow):Bool:=(↑a5.length:Int)==(0:Int)
def A4 (_a0:List TGroup) (_a1:List TWrite) (_a2:Int) (_a3:Int) (_a4:TChange) (a5:List TRow):Int:=IntKind.i64.wrap ((↑a5.length:Int) - (1:Int))
def AK (a0:List TGroup) (a1:List TWrite) (a2:Int) (a3:Int) (a4:TChange) (a5:List TRow):List TRow:=bif(Bn a0 a1 a2 a3 a4 a5)||!(a5.getD (A4 a0 a1 a2 a3 a4 a5).toNat (Ae TC.row)).1.toList==(a1.getD a3.toNat (Ae TC.write)).1.toList then a5++[ZD TC.row TC.cell (TRow.mk (Ah7 a0 (a1.getD a3.toNat (Ae TC.write)).1).1 []) (Ah7 a0 (a1.getD a3.toNat (Ae TC.write)).1).2] else a5
def AC (a0:List TGroup) (a1:List TWrite) (a2:Int) (a3:Int) (a4:TChange) (a5:List TRow):Int:=IntKind.i64.wrap ((↑(AK a0 a1 a2 a3 a4 a5).length:Int) - (1:Int))
def IM (a0:List TGroup) (a1:List TWrite) (a2:Int) (a3:Int) (a4:TChange) (a5:List TRow):List TRow:=(AK a0 a1 a2 a3 a4 a5).set (AC a0 a1 a2 a3 a4 a5).toNat (ZD TC.row TC.cell ((AK a0 a1 a2 a3 a4 a5).getD (AC a0 a1 a2 a3 a4 a5).toNat (Ae TC.row)) (((AK a0 a1 a2 a3 a4 a5).getD (AC a0 a1 a2 a3 a4 a5).toNat (Ae TC.row)).2.set (a1.getD a3.toNat (Ae TC.write)).2.toNat (H7 (a0.getD (a1.getD a3.toNat (Ae TC.write)).2.toNat (Ae TC.group)).2 a4.3 a4.4 (a1.getD a3.toNat (Ae TC.write)).3 (a1.getD a3.toNat (Ae TC.write)).4)))
def Dm (x:BC):BC:=(x.1,x.2.1,x.2.2.1,IntKind.i64.wrap (x.2.2.2.1+(1:Int)),x.2.2.2.2.1,IM x.1 x.2.1 x.2.2.1 x.2.2.2.1 x.2.2.2.2.1 x.2.2.2.2.2)
def Dl (x:BC):Cnd:=some (!!decide (x.2.2.2.1 <x.2.2.1))
def Ow (x:BC):List Prop:=[((!!decide (x.2.2.2.1 <x.2.2.1))=true→(0:Int)≤x.2.2.2.1∧x.2.2.2.1 <(↑x.2.1.length:Int)),((!!decide (x.2.2.2.1 <x.2.2.1))=true→(Bn x.1 x.2.1 x.2.2.1 x.2.2.2.1 x.2.2.2.2.1 x.2.2.2.2.2)=false→(0:Int)≤(A4 x.1 x.2.1 x.2.2.1 x.2.2.2.1 x.2.2.2.2.1 x.2.2.2.2.2)∧(A4 x.1 x.2.1 x.2.2.1 x.2.2.2.1 x.2.2.2.2.1 x.2.2.2.2.2) <(↑x.2.2.2.2.2.length:Int)),((!!decide (x.2.2.2.1 <x.2.2.1))=true→(Bn x.1 x.2.1 x.2.2.1 x.2.2.2.1 x.2.2.2.2.1 x.2.2.2.2.2)=false→(A4 x.1 x.2.1 x.2.2.1 x.2.2.2.1 x.2.2.2.2.1 x.2.2.2.2.2).toNat <x.2.2.2.2.2.length),((!!decide (x.2.2.2.1 <x.2.2.1))=true→((Bn x.1 x.2.1 x.2.2.1 x.2.2.2.1 x.2.2.2.2.1 x.2.2.2.2.2)||!(x.2.2.2.2.2.getD (A4 x.1 x.2.1 x.2.2.1 x.2.2.2.1 x.2.2.2.2.1 x.2.2.2.2.2).toNat (Ae TC.row)).1.toList==(x.2.1.getD x.2.2.2.1.toNat (Ae TC.write)).1.toList)=true→Ai x.1.length),((!!decide (x.2.2.2.1 <x.2.2.1))=true→((Bn x.1 x.2.1 x.2.2.1 x.2.2.2.1 x.2.2.2.2.1 x.2.2.2.2.2)||!(x.2.2.2.2.2.getD (A4 x.1 x.2.1 x.2.2.1 x.2.2.2.1 x.2.2.2.2.1 x.2.2.2.2.2).toNat (Ae TC.row)).1.toList==(x.2.1.getD x.2.2.2.1.toNat (Ae TC.write)).1.toList)=true→Ai (x.2.2.2.2.2.length+(1:Nat))),((!!decide (x.2.2.2.1 <x.2.2.1))=true→(0:Int)≤(x.2.1.getD x.2.2.2.1.toNat (Ae TC.write)).2∧(x.2.1.getD x.2.2.2.1.toNat (Ae TC.write)).2 <(↑x.1.length:Int)),((!!decide (x.2.2.2.1 <x.2.2.1))=true→(0:Int)≤(AC x.1 x.2.1 x.2.2.1 x.2.2.2.1 x.2.2.2.2.1 x.2.2.2.2.2)∧(AC x.1 x.2.1 x.2.2.1 x.2.2.2.1 x.2.2.2.2.1 x.2.2.2.2.2) <(↑(AK x.1 x.2.1 x.2.2.1 x.2.2.2.1 x.2.2.2.2.1 x.2.2.2.2.2).length:Int)),((!!decide (x.2.2.2.1 <x.2.2.1))=true→(AC x.1 x.2.1 x.2.2.1 x.2.2.2.1 x.2.2.2.2.1 x.2.2.2.2.2).toNat <(AK x.1 x.2.1 x.2.2.1 x.2.2.2.1 x.2.2.2.2.1 x.2.2.2.2.2).length),((!!decide (x.2.2.2.1 <x.2.2.1))=true→(AC x.1 x.2.1 x.2.2.1 x.2.2.2.1 x.2.2.2.2.1 x.2.2.2.2.2).toNat <(AK x.1 x.2.1 x.2.2.1 x.2.2.2.1 x.2.2.2.2.1 x.2.2.2.2.2).length∧(0:Int)≤(x.2.1.getD x.2.2.2.1.toNat (Ae TC.write)).2∧(x.2.1.getD x.2.2.2.1.toNat (Ae TC.write)).2 <(↑((AK x.1 x.2.1 x.2.2.1 x.2.2.2.1 x.2.2.2.2.1 x.2.2.2.2.2).getD (AC x.1 x.2.1 x.2.2.1 x.2.2.2.1 x.2.2.2.2.1 x.2.2.2.2.2).toNat (Ae TC.row)).2.length:Int)),((!!decide (x.2.2.2.1 <x.2.2.1))=true→(AC x.1 x.2.1 x.2.2.1 x.2.2.2.1 x.2.2.2.2.1 x.2.2.2.2.2).toNat <(AK x.1 x.2.1 x.2.2.1 x.2.2.2.1 x.2.2.2.2.1 x.2.2.2.2.2).length),((!!decide (x.2.2.2.1 <x.2.2.1))=true→(x.2.1.getD x.2.2.2.1.toNat (Ae TC.write)).2.toNat <((AK x.1 x.2.1 x.2.2.1 x.2.2.2.1 x.2.2.2.2.1 x.2.2.2.2.2).getD (AC x.1 x.2.1 x.2.2.1 x.2.2.2.1 x.2.2.2.2.1 x.2.2.2.2.2).toNat (Ae TC.row)).2.length)]
def FG (x:BC):List Prop:=[((!!decide (x.2.2.2.1 <x.2.2.1))=true→(0:Int)≤x.2.2.2.1∧x.2.2.2.1 <(↑x.2.1.length:Int)),((!!decide (x.2.2.2.1 <x.2.2.1))=true→(Bn x.1 x.2.1 x.2.2.1 x.2.2.2.1 x.2.2.2.2.1 x.2.2.2.2.2)=false→(0:Int)≤(A4 x.1 x.2.1 x.2.2.1 x.2.2.2.1 x.2.2.2.2.1 x.2.2.2.2.2)∧(A4 x.1 x.2.1 x.2.2.1 x.2.2.2.1 x.2.2.2.2.1 x.2.2.2.2.2) <(↑x.2.2.2.2.2.length:Int)),((!!decide (x.2.2.2.1 <x.2.2.1))=true→((Bn x.1 x.2.1 x.2.2.1 x.2.2.2.1 x.2.2.2.2.1 x.2.2.2.2.2)||!(x.2.2.2.2.2.getD (A4 x.1 x.2.1 x.2.2.1 x.2.2.2.1 x.2.2.2.2.1 x.2.2.2.2.2).toNat (Ae TC.row)).1.toList==(x.2.1.getD x.2.2.2.1.toNat (Ae TC.write)).1.toList)=true→Ai x.1.length),((!!decide (x.2.2.2.1 <x.2.2.1))=true→((Bn x.1 x.2.1 x.2.2.1 x.2.2.2.1 x.2.2.2.2.1 x.2.2.2.2.2)||!(x.2.2.2.2.2.getD (A4 x.1 x.2.1 x.2.2.1 x.2.2.2.1 x.2.2.2.2.1 x.2.2.2.2.2).toNat (Ae TC.row)).1.toList==(x.2.1.getD x.2.2.2.1.toNat (Ae TC.write)).1.toList)=true→Ai (x.2.2.2.2.2.length+(1:Nat))),((!!decide (x.2.2.2.1 <x.2.2.1))=true→(0:Int)≤(x.2.1.getD x.2.2.2.1.toNat (Ae TC.write)).2∧(x.2.1.getD x.2.2.2.1.toNat (Ae TC.write)).2 <(↑x.1.length:Int)),((!!decide (x.2.2.2.1 <x.2.2.1))=true→(0:Int)≤(AC x.1 x.2.1 x.2.2.1 x.2.2.2.1 x.2.2.2.2.1 x.2.2.2.2.2)∧(AC x.1 x.2.1 x.2.2.1 x.2.2.2.1 x.2.2.2.2.1 x.2.2.2.2.2) <(↑(AK x.1 x.2.1 x.2.2.1 x.2.2.2.1 x.2.2.2.2.1 x.2.2.2.2.2).length:Int)),((!!decide (x.2.2.2.1 <x.2.2.1))=true→(AC x.1 x.2.1 x.2.2.1 x.2.2.2.1 x.2.2.2.2.1 x.2.2.2.2.2).toNat <(AK x.1 x.2.1 x.2.2.1 x.2.2.2.1 x.2.2.2.2.1 x.2.2.2.2.2).length∧(0:Int)≤(x.2.1.getD x.2.2.2.1.toNat (Ae TC.write)).2∧(x.2.1.getD x.2.2.2.1.toNat (Ae TC.write)).2 <(↑((AK x.1 x.2.1 x.2.2.1 x.2.2.2.1 x.2.2.2.2.1 x.2.2.2.2.2).getD (AC x.1 x.2.1 x.2.2.1 x.2.2.2.1 x.2.2.2.2.1 x.2.2.2.2.2).toNat (Ae TC.row)).2.length:Int)),((!!decide (x.2.2.2.1 <x.2.2.1))=true→(x.2.1.getD x.2.2.2.1.toNat (Ae TC.write)).2.toNat <((AK x.1 x.2.1 x.2.2.1 x.2.2.2.1 x.2.2.2.2.1 x.2.2.2.2.2).getD (AC x.1 x.2.1 x.2.2.1 x.2.2.2.1 x.2.2.2.2.1 x.2.2.2.2.2).toNat (Ae TC.row)).2.length)]
def NA (x:BC):Bo:=[(some 0,some (!decide (x.2.2.2.1 <x.2.2.1)),⟨85,3,[(7,.dq 2)],[(2,some (.deep 71 .row x.2.2.2.2.2)),(0,some (.box 136 [.v (.int .i64 x.2.2.2.2.1.1),.v (.int .i64 x.2.2.2.2.1.2),.v (.int .i64 x.2.2.2.2.1.3.1),.v (.int .i64 x.2.2.2.2.1.3.2),.v (.int .i64 x.2.2.2.2.1.4.1),.v (.int .i64 x.2.2.2.2.1.4.2),.sl .write x.2.2.2.2.1.5]))]⟩)]
def Ez (x:BC):Nat:=(x.2.2.1 - x.2.2.2.1).toNat
def KJ (x:BC):BC:=Bg Dm Dl (Ez x) x
theorem Af2 (a0:List TGroup) (a1:List TWrite) (a2:Int) (a3:Int) (a4:TChange) (a5:List TRow):Bz (AA Cch L0) 9 (Aj Try.prog 142 0) R4 (JX (a0,a1,a2,a3,a4,a5))=some (Ow (a0,a1,a2,a3,a4,a5),NA (a0,a1,a2,a3,a4,a5),Dl (a0,a1,a2,a3,a4,a5),JX (Dm (a0,a1,a2,a3,a4,a5))):=by kernel_rfl
theorem Af3 (a0:List TGroup) (a1:List TWrite) (a2:Int) (a3:Int) (a4:TChange) (a5:List TRow) (hp:∀p∈FG (a0,a1,a2,a3,a4,a5),p):∀p∈Ow (a0,a1,a2,a3,a4,a5),p:=by
 have n0:=N0 hp
 have n1:((!!decide (a3 <a2))=true→(Bn a0 a1 a2 a3 a4 a5)=false→(0:Int)≤(A4 a0 a1 a2 a3 a4 a5)∧(A4 a0 a1 a2 a3 a4 a5) <(↑a5.length:Int)):=N0 (N1 hp)
 have n2:((!!decide (a3 <a2))=true→(Bn a0 a1 a2 a3 a4 a5)=false→(A4 a0 a1 a2 a3 a4 a5).toNat <a5.length):=by intro h0 h1;have g:=n1 h0 h1;omega
 have n3:=N0 (N1 (N1 hp))
 have n4:=N0 (N1 (N1 (N1 hp)))
 have n5:=N0 (N1 (N1 (N1 (N1 hp))))
 have n6:((!!decide (a3 <a2))=true→(0:Int)≤(AC a0 a1 a2 a3 a4 a5)∧(AC a0 a1 a2 a3 a4 a5) <(↑(AK a0 a1 a2 a3 a4 a5).length:Int)):=N0 (N1 (N1 (N1 (N1 (N1 hp)))))
 have n7:((!!decide (a3 <a2))=true→(AC a0 a1 a2 a3 a4 a5).toNat <(AK a0 a1 a2 a3 a4 a5).length):=by intro h0;have g:=n6 h0;omega
 have n8:=N0 (N1 (N1 (N1 (N1 (N1 (N1 hp))))))
 have n10:=N0 (N1 (N1 (N1 (N1 (N1 (N1 (N1 hp)))))))
 exact(Aa n0 (Aa n1 (Aa n2 (Aa n3 (Aa n4 (Aa n5 (Aa n6 (Aa n7 (Aa n8 (Aa n7 (Aa n10 Ab)))))))))))
noncomputable def Ox:=H1 (AA Cch L0) (Aj Try.prog 142 0) R4 Akf K6 Ez Dm Dl FG NA
theorem Ab1:∀s b ps outs,Ox s=some (b,ps,outs)→Wf s ⟨ps,outs,none⟩∧Bx (AA C0 L0) b s ps outs:=
 Bm (T:=JX) Bqy AH (u:=9) (by kernel_rfl) (by decide) (fun⟨a0,a1,a2,a3,a4,a5⟩=>Af2 a0 a1 a2 a3 a4 a5) (fun⟨a0,a1,a2,a3,a4,a5⟩=>Af3 a0 a1 a2 a3 a4 a5) Zd (fun _=>AW (n:=85) rfl) fun _ _=>rfl
noncomputable def R1:=DP 0 Ox L0
theorem Ab0:Hr R1:=A6 Ab1 AH
def Hc (a0:List TGroup) (a1:TChange):Bool:=N8 a0 a1 !=(0:Int)
def QX (a0:List TGroup) (a1:TChange):Int:=bif(Hc a0 a1) then N8 a0 a1 else(0:Int)
def QY (a0:List TGroup) (a1:TChange):List TRow:=bif(Hc a0 a1) then[] else(KJ (a0,a1.5,(↑a1.5.length:Int),(0:Int),a1,[])).snd.snd.snd.snd.snd
def Q0 (a0:List TGroup) (a1:TChange):A:=.tup [.dq 0,.v (.int .i64 (QX a0 a1))]
def QZ (a0:List TGroup) (a1:TChange):Objs:=[(0,some (.deep 71 .row (QY a0 a1)))]
def Avu (a0:List TGroup) (a1:TChange):List Prop:=[(Az a1.5.length),((!(Hc a0 a1))=true→AL Dm Dl FG (Ez (a0,a1.5,(↑a1.5.length:Int),(0:Int),a1,[])) (a0,a1.5,(↑a1.5.length:Int),(0:Int),a1,[]))]
theorem Avt (a0:List TGroup) (a1:TChange):EQ (AA Cch R1) 9 142 [.sl .group a0,Ak .change a1] 0 []=some (1,Q0 a0 a1,1,QZ a0 a1,[(Az a1.5.length),((!(Hc a0 a1))=true→Aj Try.prog (142:FuncId) (0:Nat)=Aj Try.prog (142:FuncId) (0:Nat)),((!(Hc a0 a1))=true→AL Dm Dl FG (Ez (a0,a1.5,(↑a1.5.length:Int),(0:Int),a1,[])) (a0,a1.5,(↑a1.5.length:Int),(0:Int),a1,[]))]):=by kernel_rfl
theorem A1n (a0:List TGroup) (a1:TChange) (hp:∀p∈Avu a0 a1,p):CallOk Try.prog 142 [.sl .group a0,Ak .change a1] 0 [] 1 (Q0 a0 a1) 1 (QZ a0 a1):=by
 have n0:=N0 hp
 have n1:((!(Hc a0 a1))=true→Aj Try.prog (142:FuncId) (0:Nat)=Aj Try.prog (142:FuncId) (0:Nat)):=by intros;rfl
 have n2:=N0 (N1 hp)
 exact AI (Aw Bqy Ab0) (Avt a0 a1) (Aa n0 (Aa n1 (Aa n2 Ab)))
def V6 (a0:List TGroup) (a1:TChange):A:=Bwc a0 a1
def V5 (a0:List TGroup) (a1:TChange):Objs:=Bwb a0 a1
def UD (_a0:List TGroup) (a1:TChange):List Prop:=[Az a1.writes.length]
theorem Bcy {l:List TGroup} (i:Nat) {c:TChange} (o:List TRow) (ho:o.length≤9) (hp:AY l=0) (hw:Uz l (wN c.writes i)=true):AK l c.writes (c.writes.length:Int) (i:Int) c o=KQ l o (wN c.writes i).key:=by
 have e:=Btu hp hw
 unfold AK Bn A4
 rw[Bd6 (by omega),tlb,Int.toNat_natCast,Bii]
 unfold KQ
 rw[←e]
 rfl
theorem Br9 {l:List TGroup} {c:TChange} (i:Nat) (o:List TRow) (ho:o.length≤8) (hp:AY l=0) (hh:Ib c=true) (hw:Uz l (wN c.writes i)=true):IM l c.writes (c.writes.length:Int) (i:Int) c o=VE l c o (wN c.writes i):=by
 have:=(Ayd l o (wN c.writes i).key).2
 unfold IM AC
 rw[Bcy i o (by omega) hp hw,Bd6 (by omega),Int.toNat_natCast]
 have e:=(Bxq hp hh hw).2
 unfold VE Bi4
 rw[←e]
 rfl
theorem R5 {l:List TGroup} {c:TChange} (h:N8 l c=0):
  AL Dm Dl FG (Ez (l,c.writes,(c.writes.length:Int),0,c,[])) (l,c.writes,(c.writes.length:Int),0,c,[])∧KJ (l,c.writes,(c.writes.length:Int),0,c,[])=(l,c.writes,(c.writes.length:Int),(c.writes.length:Int),c,YL l c c.writes.length):=by
 have h8:=Bwn h
 obtain⟨h1,k,hk,hx,_,hst,_⟩:=IJ (fun i=>(l,c.writes,(c.writes.length:Int),(i:Int),c,YL l c i):Nat→BC) c.writes.length (fun _=>false) Dm Dl FG (Ez (l,c.writes,(c.writes.length:Int),0,c,[])) (l,c.writes,(c.writes.length:Int),0,c,[]) rfl (by show c.writes.length≤((c.writes.length:Int) - 0).toNat;omega)
  (fun i _ _=>by
   show(!!decide ((i:Int) <(c.writes.length:Int)))=_
   rw[nn,Mp,Bool.not_false,Bool.and_true])
  (fun i hi _=>by
   obtain⟨hp,hh,hw,_,_,hl,_⟩:=QR h hi
   show(l,c.writes,(c.writes.length:Int),IntKind.i64.wrap ((i:Int)+1),c,IM l c.writes (c.writes.length:Int) (i:Int) c (YL l c i))=(l,c.writes,(c.writes.length:Int),((i+1:Nat):Int),c,YL l c (i+1))
   rw[Fp (by omega),Br9 i _ (by omega) hp hh hw]
   rfl)
  (fun i hi _=>by
   have hin:(!!decide ((i:Int) <(c.writes.length:Int)))=true→i <c.writes.length:=fun h=>by rw[nn] at h;have:=of_decide_eq_true h;omega
   have hop:i <c.writes.length→_:=fun hi=>Bcy i (YL l c i) (by have:=(QR h hi).2.2.2.2.2.1;omega) (QR h hi).1 (QR h hi).2.2.1
   have key:i <c.writes.length→_:=fun hi=>Ayd l (YL l c i) (wN c.writes i).key
   have hk0:i <c.writes.length→(AC l c.writes (c.writes.length:Int) (i:Int) c (YL l c i))=(((KQ l (YL l c i) (wN c.writes i).key).length - 1:Nat):Int):=fun hi=>by
    have:=key hi
    have:=(QR h hi).2.2.2.2.2.1
    unfold AC
    rw[hop hi,i64_in (by omega)]
    omega
   have hcl:i <c.writes.length→(((KQ l (YL l c i) (wN c.writes i).key).getD ((KQ l (YL l c i) (wN c.writes i).key).length - 1) (Ae TC.row)).2.length=l.length):=fun hi=>(QR h hi).2.2.2.2.2.2 _ (getD_in _ _ _ (by have:=key hi;omega))
   have hgr:i <c.writes.length→_:=fun hi=>Aj3 (QR h hi).2.2.1
   refine Aa (fun h=>⟨by show(0:Int)≤(i:Int);omega,by have:=hin h;show(i:Int) <(c.writes.length:Int);omega⟩) (Aa (fun h1 h2=>?_) (Aa (fun h1 _=>?_) (Aa (fun h1 _=>?_) (Aa (fun h1=>?_) (Aa (fun h1=>?_) (Aa (fun h1=>?_) (Aa (fun h1=>?_) Ab)))))))
   ·have h3:(((YL l c i).length:Int)==(0:Int))=false:=h2
    rw[Bii] at h3
    have h4:(YL l c i).length≠0:=by simpa using h3
    have:=(QR h (hin h1)).2.2.2.2.2.1
    show(0:Int)≤IntKind.i64.wrap (((YL l c i).length:Int) - 1)∧IntKind.i64.wrap (((YL l c i).length:Int) - 1) <((YL l c i).length:Int)
    rw[i64_in (by omega)]
    omega
   ·have:=(QR h (hin h1)).2.2.2.2.1
    show Ai l.length
    unfold Ai;omega
   ·have:=(QR h (hin h1)).2.2.2.2.2.1
    show Ai ((YL l c i).length+1)
    unfold Ai;omega
   ·obtain⟨_,_,g0,g1,_⟩:=hgr (hin h1)
    show(0:Int)≤(c.writes.getD ((i:Int)).toNat (Ae TC.write)).group∧(c.writes.getD ((i:Int)).toNat (Ae TC.write)).group <(l.length:Int)
    rw[Int.toNat_natCast]
    exact⟨g0,g1⟩
   ·have:=key (hin h1)
    show(0:Int)≤AC l c.writes (c.writes.length:Int) (i:Int) c (YL l c i)∧AC l c.writes (c.writes.length:Int) (i:Int) c (YL l c i) <((AK l c.writes (c.writes.length:Int) (i:Int) c (YL l c i)).length:Int)
    rw[hk0 (hin h1),hop (hin h1)]
    omega
   ·have:=key (hin h1)
    obtain⟨_,_,g0,g1,_⟩:=hgr (hin h1)
    show(AC l c.writes (c.writes.length:Int) (i:Int) c (YL l c i)).toNat <(AK l c.writes (c.writes.length:Int) (i:Int) c (YL l c i)).length∧(0:Int)≤(c.writes.getD ((i:Int)).toNat (Ae TC.write)).group∧(c.writes.getD ((i:Int)).toNat (Ae TC.write)).group <(((AK l c.writes (c.writes.length:Int) (i:Int) c (YL l c i)).getD (AC l c.writes (c.writes.length:Int) (i:Int) c (YL l c i)).toNat (Ae TC.row)).2.length:Int)
    rw[hk0 (hin h1),hop (hin h1),Int.toNat_natCast,Int.toNat_natCast,hcl (hin h1)]
    exact⟨by omega,g0,g1⟩
   ·obtain⟨_,_,g0,g1,_⟩:=hgr (hin h1)
    show(c.writes.getD ((i:Int)).toNat (Ae TC.write)).group.toNat <((AK l c.writes (c.writes.length:Int) (i:Int) c (YL l c i)).getD (AC l c.writes (c.writes.length:Int) (i:Int) c (YL l c i)).toNat (Ae TC.row)).2.length
    rw[hk0 (hin h1),hop (hin h1),Int.toNat_natCast,Int.toNat_natCast,hcl (hin h1)]
    have g2:(c.writes.getD i (Ae TC.write)).group <(l.length:Int):=g1
    have g3:0≤(c.writes.getD i (Ae TC.write)).group:=g0
    omega)
 have hkn:k=c.writes.length:=by
  rcases Nat.lt_or_ge k c.writes.length with h|h
  ·exact absurd (hst h) (by decide)
  ·omega
 subst hkn
 exact⟨h1,hx⟩
theorem Avs (a0:List TGroup) (a1:TChange) (hp:∀p∈UD a0 a1,p):CallOk Try.prog 142 [.sl .group a0,Ak .change a1] 0 [] 1 (V6 a0 a1) 1 (V5 a0 a1):=by
 have hb:Az a1.writes.length:=hp _ (List.mem_cons_self ..)
 have h:=A1n a0 a1 (Aa hb (Aa (fun h=>(R5 (show N8 a0 a1=0 by
  have h':(!(N8 a0 a1 !=0))=true:=h
  simpa using h')).1) Ab))
 have e:QX a0 a1=N8 a0 a1∧QY a0 a1=PU a0 a1:=by
  unfold QX QY Hc PU
  cases hc:N8 a0 a1 !=0 with
  |true=>
   have:(N8 a0 a1==0)=false:=by simpa using hc
   rw[this]
   exact⟨rfl,rfl⟩
  |false=>
   have h0:N8 a0 a1=0:=by simpa using hc
   have:(N8 a0 a1==0)=true:=by simpa using h0
   have q:KJ (a0,a1.5,(a1.5.length:Int),0,a1,[])=(a0,a1.writes,(a1.writes.length:Int),(a1.writes.length:Int),a1,YL a0 a1 a1.writes.length):=(R5 h0).2
   rw[this,q,cond_false]
   exact⟨h0.symm,rfl⟩
 unfold Q0 QZ at h
 rw[e.1,e.2] at h
 exact h
def Q1:List A→Nat→Objs→Option Bb
 | [y0,y1],nx,o=>match Kh .group y0,AQ .change y1 with
  |some a0,some (a1,p1)=>some (1,(V6 a0 a1).pk (AF nx),nx+1,AE nx (V5 a0 a1)++o,p1++(UD a0 a1))
  |_,_=>none
 |_,_,_=>none
theorem Arn:Ft Try.prog 142 Q1:=fun args nx o k x nx' o' ps h=>by
 unfold Q1 at h
 split at h<;>first|(cases h;done)|skip
 split at h<;>first|(cases h;done)|skip
 rename_i a0 a1 p1 e0 e1
 cases h
 refine⟨fun hp=>?_,_,rfl⟩
 have q1:=fun p hm=>hp p (List.mem_append.2 (.inl hm))
 have r1:=fun p hm=>hp p (List.mem_append.2 (.inr hm))
 refine Ah (Ag (Avs a0 a1 r1) (Nat.le_refl _) (Ac rfl (Ac (Af _ _) Ao)) nx o) fun F N R vs hl=>?_
 obtain⟨v0,w0,rfl,h0,hl⟩:=hl.inv
 obtain⟨v1,w1,rfl,h1,hl⟩:=hl.inv
 exact HL.cons (BX e0 h0) (HL.cons (Am e1 q1 h1) (hl))
end Go.Proofs.Yteebobbhhgmeiaa
namespace Go.Proofs.Yteebobbhhgmeiaa
open Go.RowKit
abbrev Da:Type:=(List TGroup)×(List TRow)×Int
def MF (x:Da):St:=⟨50,0,[(0,.sl .group x.1),(1,.sl .row x.2.1),(6,.v (.int .i64 x.2.2))],[]⟩
def PA:St→Option Da
 |⟨50,0,[(0,.sl .group z0),(1,.sl .row z1),(6,.v (.int .i64 z2))],[]⟩=>some (z0,z1,z2)
 |_=>none
theorem Anl:∀s x,PA s=some x→s=MF x:=fun s x h=>by
 unfold PA at h
 split at h
 ·cases h;rfl
 ·cases h
def Aa3:Dj:=⟨0,0,[0,1,6],[],[],[],[4,5],[]⟩
def A3a:DB:=⟨[],[],[0,1,6],[]⟩
def G0 (_a0:List TGroup) (_a1:List TRow) (a2:Int):Int:=IntKind.i64.wrap (a2 - (1:Int))
def BI (a0:List TGroup) (a1:List TRow) (a2:Int):Bool:=Ap a0 (a1.getD a2.toNat (Ae TC.row)) !=(0:Int)
def Bf (_a0:List TGroup) (a1:List TRow) (a2:Int):Bool:=!!decide (a2 <(↑a1.length:Int))
def D7 (a0:List TGroup) (a1:List TRow) (a2:Int):Bool:=(Bf a0 a1 a2)&&((BI a0 a1 a2)||(FF (a1.getD a2.toNat (Ae TC.row))||decide (a2 >(0:Int))&&!Op.bytesLess (a1.getD (G0 a0 a1 a2).toNat (Ae TC.row)).1.toList (a1.getD a2.toNat (Ae TC.row)).1.toList))
def Atw (a0:List TGroup) (a1:List TRow) (a2:Int):Bool:=(Bf a0 a1 a2)&&!(D7 a0 a1 a2)
def Iu (a0:List TGroup) (a1:List TRow) (a2:Int):Int:=bif(BI a0 a1 a2) then Ap a0 (a1.getD a2.toNat (Ae TC.row)) else(100:Int)
def Ank (a0:List TGroup) (a1:List TRow) (a2:Int):Int:=Ap a0 (a1.getD a2.toNat (Ae TC.row))
def G2 (x:Da):Da:=(x.1,x.2.1,IntKind.i64.wrap (x.2.2+(1:Int)))
def G1 (x:Da):Cnd:=some (Atw x.1 x.2.1 x.2.2)
def Vv (x:Da):List Prop:=[((Bf x.1 x.2.1 x.2.2)=true→(0:Int)≤x.2.2∧x.2.2 <(↑x.2.1.length:Int)),((Bf x.1 x.2.1 x.2.2)=true→∀(g:TGroup),g∈x.1→Az g.1.size),((Bf x.1 x.2.1 x.2.2)=true→(!(BI x.1 x.2.1 x.2.2))=true→(0:Int)≤x.2.2∧x.2.2 <(↑x.2.1.length:Int)),((Bf x.1 x.2.1 x.2.2)=true→(!(BI x.1 x.2.1 x.2.2))=true→Ai (x.2.1.getD x.2.2.toNat (Ae TC.row)).2.length),((Bf x.1 x.2.1 x.2.2)=true→(!(BI x.1 x.2.1 x.2.2))=true→decide (x.2.2 >(0:Int))=true→FF (x.2.1.getD x.2.2.toNat (Ae TC.row))=false→(0:Int)≤(G0 x.1 x.2.1 x.2.2)∧(G0 x.1 x.2.1 x.2.2) <(↑x.2.1.length:Int)),((Bf x.1 x.2.1 x.2.2)=true→(!(BI x.1 x.2.1 x.2.2))=true→decide (x.2.2 >(0:Int))=true→FF (x.2.1.getD x.2.2.toNat (Ae TC.row))=false→(0:Int)≤x.2.2∧x.2.2 <(↑x.2.1.length:Int))]
def JQ (x:Da):List Prop:=[((Bf x.1 x.2.1 x.2.2)=true→(0:Int)≤x.2.2∧x.2.2 <(↑x.2.1.length:Int)),((Bf x.1 x.2.1 x.2.2)=true→∀(g:TGroup),g∈x.1→Az g.1.size),((Bf x.1 x.2.1 x.2.2)=true→(!(BI x.1 x.2.1 x.2.2))=true→(0:Int)≤x.2.2∧x.2.2 <(↑x.2.1.length:Int)),((Bf x.1 x.2.1 x.2.2)=true→(!(BI x.1 x.2.1 x.2.2))=true→Ai (x.2.1.getD x.2.2.toNat (Ae TC.row)).2.length),((Bf x.1 x.2.1 x.2.2)=true→(!(BI x.1 x.2.1 x.2.2))=true→decide (x.2.2 >(0:Int))=true→FF (x.2.1.getD x.2.2.toNat (Ae TC.row))=false→(0:Int)≤(G0 x.1 x.2.1 x.2.2)∧(G0 x.1 x.2.1 x.2.2) <(↑x.2.1.length:Int)),((Bf x.1 x.2.1 x.2.2)=true→(!(BI x.1 x.2.1 x.2.2))=true→decide (x.2.2 >(0:Int))=true→FF (x.2.1.getD x.2.2.toNat (Ae TC.row))=false→(0:Int)≤x.2.2∧x.2.2 <(↑x.2.1.length:Int))]
def Tg (x:Da):Bo:=[(some 0,some (!decide (x.2.2 <(↑x.2.1.length:Int))),⟨50,0,[(4,.dead),(5,.dead)],[]⟩),(none,some ((D7 x.1 x.2.1 x.2.2)),⟨50,0,[(4,.v (.int .i64 (Iu x.1 x.2.1 x.2.2))),(5,.v (.int .i64 (Ank x.1 x.2.1 x.2.2)))],[]⟩)]
def Iv (x:Da):Nat:=((↑x.2.1.length:Int) - x.2.2).toNat
def KF (x:Da):Da:=Bg G2 G1 (Iv x) x
theorem A0b (a0:List TGroup) (a1:List TRow) (a2:Int):Bz (AA Cn L0) 9 (Aj Try.prog 93 0) Aa3 (MF (a0,a1,a2))=some (Vv (a0,a1,a2),Tg (a0,a1,a2),G1 (a0,a1,a2),MF (G2 (a0,a1,a2))):=by kernel_rfl
theorem A0c (a0:List TGroup) (a1:List TRow) (a2:Int) (hp:∀p∈JQ (a0,a1,a2),p):∀p∈Vv (a0,a1,a2),p:=by
 have n0:=N0 hp
 have n1:=N0 (N1 hp)
 have n2:=N0 (N1 (N1 hp))
 have n3:=N0 (N1 (N1 (N1 hp)))
 have n4:=N0 (N1 (N1 (N1 (N1 hp))))
 have n5:=N0 (N1 (N1 (N1 (N1 (N1 hp)))))
 exact(Aa n0 (Aa n1 (Aa n2 (Aa n3 (Aa n4 (Aa n5 Ab))))))
noncomputable def Vw:=H1 (AA Cn L0) (Aj Try.prog 93 0) Aa3 A3a PA Iv G2 G1 JQ Tg
theorem Atx:∀s b ps outs,Vw s=some (b,ps,outs)→Wf s ⟨ps,outs,none⟩∧Bx (AA C0 L0) b s ps outs:=
 Bm (T:=MF) Bbz AH (u:=9) (by kernel_rfl) (by decide) (fun⟨a0,a1,a2⟩=>A0b a0 a1 a2) (fun⟨a0,a1,a2⟩=>A0c a0 a1 a2) Anl (fun _=>AW (n:=50) rfl) fun _ _=>rfl
noncomputable def Aa2:=DP 0 Vw L0
theorem Atv:Hr Aa2:=A6 Atx AH
def M6 (a0:List TGroup) (_a1:List TRow):Bool:=AY a0 !=(0:Int)
def Yg (a0:List TGroup) (a1:List TRow):List TGroup:=(KF (a0,a1,(0:Int))).fst
def Yf (a0:List TGroup) (a1:List TRow):Int:=(KF (a0,a1,(0:Int))).snd.snd
def Ye (a0:List TGroup) (a1:List TRow):List TRow:=(KF (a0,a1,(0:Int))).snd.fst
def Aet (a0:List TGroup) (a1:List TRow):Int:=bif(M6 a0 a1) then AY a0 else bif D7 (Yg a0 a1) (Ye a0 a1) (Yf a0 a1) then Iu (Yg a0 a1) (Ye a0 a1) (Yf a0 a1) else(0:Int)
def Aeu (a0:List TGroup) (a1:List TRow):A:=.v (.int .i64 (Aet a0 a1))
def A0d (_a0:List TGroup) (_a1:List TRow):Objs:=[]
def Aqt (a0:List TGroup) (a1:List TRow):List Prop:=[(∀(g:TGroup),g∈a0→Az g.1.size),((!(M6 a0 a1))=true→AL G2 G1 JQ (Iv (a0,a1,(0:Int))) (a0,a1,(0:Int)))]
theorem Bga (a0:List TGroup) (a1:List TRow):EQ (AA Cn Aa2) 9 93 [.sl .group a0,Ak .rows a1] 0 []=some (1,Aeu a0 a1,0,A0d a0 a1,[(∀(g:TGroup),g∈a0→Az g.1.size),((!(M6 a0 a1))=true→Aj Try.prog (93:FuncId) (0:Nat)=Aj Try.prog (93:FuncId) (0:Nat)),((!(M6 a0 a1))=true→AL G2 G1 JQ (Iv (a0,a1,(0:Int))) (a0,a1,(0:Int)))]):=by kernel_rfl
theorem Bj7 (a0:List TGroup) (a1:List TRow) (hp:∀p∈Aqt a0 a1,p):CallOk Try.prog 93 [.sl .group a0,Ak .rows a1] 0 [] 1 (Aeu a0 a1) 0 (A0d a0 a1):=by
 have n0:=N0 hp
 have n1:((!(M6 a0 a1))=true→Aj Try.prog (93:FuncId) (0:Nat)=Aj Try.prog (93:FuncId) (0:Nat)):=by intros;rfl
 have n2:=N0 (N1 hp)
 exact AI (Aw Bbz Atv) (Bga a0 a1) (Aa n0 (Aa n1 (Aa n2 Ab)))
def Aqu (a0:List TGroup) (a1:List TRow):A:=.v (.int .i64 (EI a0 a1))
def Aqs (_a0:List TGroup) (_a1:List TRow):Objs:=[]
def Ajb (a0:List TGroup) (a1:List TRow):List Prop:=[Az a1.length,∀g∈a0,Az g.1.size]
theorem Bxd (a b:ByteArray):leS a b=!IW b a:=by
 unfold leS
 cases h:IW a b with
 |true=>
  cases g:IW b a with
  |true=>exact absurd rfl (TX (KX h g))
  |false=>rfl
 | false=>
  rw[Bool.false_or]
  cases g:a==b with
  |true=>
   obtain rfl:=eq_of_beq g
   rw[h]
   rfl
  |false=>
   rw[SN h (by simpa using g)]
   rfl
theorem Bxc {a:ByteArray} (h:a.size≠0):leS a ⟨#[]⟩=false:=by
 unfold leS
 rw[Bool.or_eq_false_iff]
 constructor
 ·show Op.bytesLess a.toList (ByteArray.mk #[]).toList=false
  rw[show(ByteArray.mk #[]).toList=[] by decide+kernel]
  cases a.toList<;>rfl
 ·refine beq_eq_false_iff_ne.2 fun e=>h ?_
  rw[e]
  rfl
theorem Bnm (l:List TGroup) (rows:List TRow) (i:Nat) (hi:i≤9223372036854775807):D7 l rows (i:Int)=(decide (i <rows.length)&&VI l rows i !=0):=by
 have e:D7 l rows (i:Int)=(decide (i <rows.length)&&(Ap l (BJ rows i) !=0||(FF (BJ rows i)||decide ((i:Int) >0)&&!IW (BJ rows (IntKind.i64.wrap ((i:Int) - 1)).toNat).key (BJ rows i).key))):=by
  unfold D7 Bf BI G0
  rw[nn,Mp,Int.toNat_natCast]
  rfl
 rw[e,Aui]
 cases h:Ap l (BJ rows i) !=0 with
 |true=>rfl
 | false=>
  have h0:Ap l (BJ rows i)=0:=by simpa using h
  rw[Bool.false_or,Bool.false_or]
  cases i with
  |zero=>
   have h1:leS (BJ rows 0).key (OP rows 0)=false:=Bxc (AS h0).2.2.1
   rw[h1]
   rfl
  |succ j=>
   have h1:(IntKind.i64.wrap (((j+1:Nat):Int) - 1)).toNat=j:=by rw[i64_in (by omega)];omega
   have h2:decide (((j+1:Nat):Int) >0)=true:=decide_eq_true (by omega)
   rw[h1,h2,Bxd,Bool.true_and]
   rfl
theorem Aqr (l:List TGroup) (rows:List TRow) (hb:Az rows.length) (hw:∀g∈l,Az g.1.size):(∀p∈Aqt l rows,p)∧Aet l rows=EI l rows:=by
 unfold Az at hb
 obtain⟨h1,k,hk,hx,hs,hst,_⟩:=IJ (fun i=>((l,rows,(i:Int)):Da)) rows.length (fun i=>VI l rows i !=0) G2 G1 JQ (Iv (l,rows,0)) (l,rows,0) rfl (by show rows.length≤((rows.length:Int) - 0).toNat;omega)
  (fun i hi _=>by
   show((!!decide ((i:Int) <(rows.length:Int)))&&!D7 l rows (i:Int))=_
   rw[Bnm l rows i (by omega),nn,Mp]
   cases decide (i <rows.length)<;>rfl)
  (fun i hi _=>by
   show(l,rows,IntKind.i64.wrap ((i:Int)+1))=(l,rows,((i+1:Nat):Int))
   rw[Fp (by omega)])
  (fun i hi _=>by
   have hin:(!!decide ((i:Int) <(rows.length:Int)))=true→(i:Int) <(rows.length:Int):=fun h=>by rw[nn] at h;exact of_decide_eq_true h
   refine Aa (fun h=>⟨by show(0:Int)≤(i:Int);omega,hin h⟩) (Aa (fun _=>hw) (Aa (fun h _=>⟨by show(0:Int)≤(i:Int);omega,hin h⟩) (Aa (fun _ h2=>?_) (Aa (fun h _ h3 _=>?_) (Aa (fun h _ _ _=>⟨by show(0:Int)≤(i:Int);omega,hin h⟩) Ab)))))
   ·have h3:Ap l (rows.getD ((i:Int)).toNat (Ae TC.row))=0:=by
     have h4:(!(Ap l (rows.getD ((i:Int)).toNat (Ae TC.row)) !=0))=true:=h2
     simpa using h4
    obtain⟨g1,g2,_⟩:=AS h3
    have:=(Gu g1).2
    show Ai (rows.getD ((i:Int)).toNat (Ae TC.row)).cells.length
    unfold Ai
    omega
   ·have h4:(i:Int) >0:=of_decide_eq_true h3
    have h5:=hin h
    show(0:Int)≤IntKind.i64.wrap ((i:Int) - 1)∧IntKind.i64.wrap ((i:Int) - 1) <(rows.length:Int)
    rw[i64_in (by omega)]
    omega)
 have hr:KF (l,rows,0)=(l,rows,(k:Int)):=hx
 refine⟨Aa hw (Aa (fun _=>h1) Ab),?_⟩
 unfold Aet EI
 show(bif AY l !=0 then AY l else _)=_
 congr 1
 unfold Yg Yf Ye
 rw[hr]
 show(bif D7 l rows (k:Int) then Iu l rows (k:Int) else 0)=_
 have hk9:k≤9223372036854775807:=Nat.le_trans hk (by omega)
 rw[Bnm l rows k hk9]
 have h0:Gt l rows k=0:=(Ago l rows k).2 fun i hi=>by simpa using hs i hi
 rcases Nat.lt_or_ge k rows.length with h|h
 ·have he:=hst h
  rw[decide_eq_true h,he]
  have e1:Gt l rows (k+1)=VI l rows k:=by
   show(bif Gt l rows k !=0 then Gt l rows k else VI l rows k)=_
   rw[h0];rfl
  have hne:Gt l rows (k+1)≠0:=by rw[e1];simpa using he
  rw[Wl hne rows.length h,e1]
  show Iu l rows (k:Int)=_
  unfold Iu BI
  rw[Int.toNat_natCast]
  rw[Aui] at he
  unfold VI
  show(bif Ap l (BJ rows k) !=0 then Ap l (BJ rows k) else 100)=_
  cases hg:Ap l (BJ rows k) !=0 with
  |true=>rfl
  |false=>
   rw[hg,Bool.false_or] at he
   rw[he]
   rfl
 ·obtain rfl:k=rows.length:=by omega
  rw[decide_eq_false (Nat.lt_irrefl _),h0]
  rfl
theorem Bf9 (a0:List TGroup) (a1:List TRow) (hp:∀p∈Ajb a0 a1,p):CallOk Try.prog 93 [.sl .group a0,Ak .rows a1] 0 [] 1 (Aqu a0 a1) 0 (Aqs a0 a1):=by
 have hb:Az a1.length:=hp _ (List.mem_cons_self ..)
 have hw:∀g∈a0,Az g.1.size:=hp _ (List.mem_cons_of_mem _ (List.mem_cons_self ..))
 have h:=Bj7 a0 a1 (Aqr a0 a1 hb hw).1
 unfold Aeu at h
 rw[(Aqr a0 a1 hb hw).2] at h
 exact h
def Aev:List A→Nat→Objs→Option Bb
 | [y0,y1],nx,o=>match Kh .group y0,AQ .rows y1 with
  |some a0,some (a1,p1)=>some (1,(Aqu a0 a1).pk (AF nx),nx+0,AE nx (Aqs a0 a1)++o,p1++(Ajb a0 a1))
  |_,_=>none
 |_,_,_=>none
theorem A9r:Ft Try.prog 93 Aev:=fun args nx o k x nx' o' ps h=>by
 unfold Aev at h
 split at h<;>first|(cases h;done)|skip
 split at h<;>first|(cases h;done)|skip
 rename_i a0 a1 p1 e0 e1
 cases h
 refine⟨fun hp=>?_,_,rfl⟩
 have q1:=fun p hm=>hp p (List.mem_append.2 (.inl hm))
 have r1:=fun p hm=>hp p (List.mem_append.2 (.inr hm))
 refine Ah (Ag (Bf9 a0 a1 r1) (Nat.le_refl _) (Ac rfl (Ac (Af _ _) Ao)) nx o) fun F N R vs hl=>?_
 obtain⟨v0,w0,rfl,h0,hl⟩:=hl.inv
 obtain⟨v1,w1,rfl,h1,hl⟩:=hl.inv
 exact HL.cons (BX e0 h0) (HL.cons (Am e1 q1 h1) (hl))
noncomputable def Blz:=A7 93 Aev Cn
theorem Bbl:Dd Try.prog Blz:=Av A9r Bbz
abbrev Dh:Type:=(List TRow)×(List TRow)×Int
def NX (x:Dh):St:=⟨27,0,[(0,.sl .row x.1),(1,.sl .row x.2.1),(5,.v (.int .i64 x.2.2))],[]⟩
def RE:St→Option Dh
 |⟨27,0,[(0,.sl .row z0),(1,.sl .row z1),(5,.v (.int .i64 z2))],[]⟩=>some (z0,z1,z2)
 |_=>none
theorem As1:∀s x,RE s=some x→s=NX x:=fun s x h=>by
 unfold RE at h
 split at h
 ·cases h;rfl
 ·cases h
def Aio:Dj:=⟨0,0,[0,1,5],[],[],[],[4],[]⟩
def A9a:DB:=⟨[],[],[0,1,5],[]⟩
def DL (a0:List TRow) (_a1:List TRow) (a2:Int):Bool:=!!decide (a2 <(↑a0.length:Int))
def DK (a0:List TRow) (a1:List TRow) (a2:Int):Bool:=(DL a0 a1 a2)&&!R9 (a0.getD a2.toNat (Ae TC.row)) (a1.getD a2.toNat (Ae TC.row))
def Ay8 (a0:List TRow) (a1:List TRow) (a2:Int):Bool:=(DL a0 a1 a2)&&!(DK a0 a1 a2)
def Ge (x:Dh):Dh:=(x.1,x.2.1,IntKind.i64.wrap (x.2.2+(1:Int)))
def Gd (x:Dh):Cnd:=some (Ay8 x.1 x.2.1 x.2.2)
def XQ (x:Dh):List Prop:=[((DL x.1 x.2.1 x.2.2)=true→(0:Int)≤x.2.2∧x.2.2 <(↑x.1.length:Int)),((DL x.1 x.2.1 x.2.2)=true→(0:Int)≤x.2.2∧x.2.2 <(↑x.2.1.length:Int)),((DL x.1 x.2.1 x.2.2)=true→Ai (x.1.getD x.2.2.toNat (Ae TC.row)).2.length)]
def Jc (x:Dh):List Prop:=[((DL x.1 x.2.1 x.2.2)=true→(0:Int)≤x.2.2∧x.2.2 <(↑x.1.length:Int)),((DL x.1 x.2.1 x.2.2)=true→(0:Int)≤x.2.2∧x.2.2 <(↑x.2.1.length:Int)),((DL x.1 x.2.1 x.2.2)=true→Ai (x.1.getD x.2.2.toNat (Ae TC.row)).2.length)]
def Vc (x:Dh):Bo:=[(some 0,some (!decide (x.2.2 <(↑x.1.length:Int))),⟨27,0,[(4,.dead)],[]⟩),(none,some ((DK x.1 x.2.1 x.2.2)),⟨27,0,[(4,.v (.bool (false)))],[]⟩)]
def Hz (x:Dh):Nat:=((↑x.1.length:Int) - x.2.2).toNat
def FA (x:Dh):Dh:=Bg Ge Gd (Hz x) x
theorem A2u (a0:List TRow) (a1:List TRow) (a2:Int):Bz (AA Blz L0) 9 (Aj Try.prog 49 0) Aio (NX (a0,a1,a2))=some (XQ (a0,a1,a2),Vc (a0,a1,a2),Gd (a0,a1,a2),NX (Ge (a0,a1,a2))):=by kernel_rfl
theorem A2v (a0:List TRow) (a1:List TRow) (a2:Int) (hp:∀p∈Jc (a0,a1,a2),p):∀p∈XQ (a0,a1,a2),p:=by
 have n0:=N0 hp
 have n1:=N0 (N1 hp)
 have n2:=N0 (N1 (N1 hp))
 exact(Aa n0 (Aa n1 (Aa n2 Ab)))
noncomputable def XR:=H1 (AA Blz L0) (Aj Try.prog 49 0) Aio A9a RE Hz Ge Gd Jc Vc
theorem Ay9:∀s b ps outs,XR s=some (b,ps,outs)→Wf s ⟨ps,outs,none⟩∧Bx (AA C0 L0) b s ps outs:=
 Bm (T:=NX) Bbl AH (u:=9) (by kernel_rfl) (by decide) (fun⟨a0,a1,a2⟩=>A2u a0 a1 a2) (fun⟨a0,a1,a2⟩=>A2v a0 a1 a2) As1 (fun _=>AW (n:=27) rfl) fun _ _=>rfl
noncomputable def Ain:=DP 0 XR L0
theorem Ay7:Hr Ain:=A6 Ay9 AH
def Ad0 (a0:List TRow) (a1:List TRow):Dh:=FA (a0,a1,(0:Int))
def JG (a0:List TRow) (a1:List TRow):Bool:=(↑a0.length:Int) !=(↑a1.length:Int)
def Amj (a0:List TRow) (a1:List TRow):Bool:=bif(JG a0 a1) then false else bif DK (Ad0 a0 a1).fst (Ad0 a0 a1).snd.fst (Ad0 a0 a1).snd.snd then false else true
def Amk (a0:List TRow) (a1:List TRow):A:=.v (.bool (Amj a0 a1))
def A5b (_a0:List TRow) (_a1:List TRow):Objs:=[]
def Azb (a0:List TRow) (a1:List TRow):List Prop:=[((!(JG a0 a1))=true→AL Ge Gd Jc (Hz (a0,a1,(0:Int))) (a0,a1,(0:Int)))]
theorem Bjo (a0:List TRow) (a1:List TRow):EQ (AA Blz Ain) 9 49 [Ak .rows a0,Ak .rows a1] 0 []=some (1,Amk a0 a1,0,A5b a0 a1,[((!(JG a0 a1))=true→Aj Try.prog (49:FuncId) (0:Nat)=Aj Try.prog (49:FuncId) (0:Nat)),((!(JG a0 a1))=true→AL Ge Gd Jc (Hz (a0,a1,(0:Int))) (a0,a1,(0:Int)))]):=by kernel_rfl
theorem Bpe (a0:List TRow) (a1:List TRow) (hp:∀p∈Azb a0 a1,p):CallOk Try.prog 49 [Ak .rows a0,Ak .rows a1] 0 [] 1 (Amk a0 a1) 0 (A5b a0 a1):=by
 have n0:((!(JG a0 a1))=true→Aj Try.prog (49:FuncId) (0:Nat)=Aj Try.prog (49:FuncId) (0:Nat)):=by intros;rfl
 have n1:=N0 hp
 exact AI (Aw Bbl Ay7) (Bjo a0 a1) (Aa n0 (Aa n1 Ab))
def A64 (a b:List TRow):Bool:=a.length==b.length&&Jn a.length fun i=>R9 (a.getD i (Ae TC.row)) (b.getD i (Ae TC.row))
def Azc (a0:List TRow) (a1:List TRow):A:=.v (.bool (A64 a0 a1))
def Aza (_a0:List TRow) (_a1:List TRow):Objs:=[]
def Apy (a0:List TRow) (_a1:List TRow):List Prop:=[Az a0.length,∀r∈a0,Ai r.cells.length]
theorem Ay6 (a b:List TRow) (hl:Az a.length) (hb:∀r∈a,Ai r.cells.length):(∀p∈Azb a b,p)∧Amj a b=A64 a b:=by
 unfold Az at hl
 have hk0:JG a b=(a.length !=b.length):=by
  show((a.length:Int) !=(b.length:Int))=_
  rw[Bool.eq_iff_iff,bne_iff_ne,bne_iff_ne];omega
 have main:JG a b=false→AL Ge Gd Jc (Hz (a,b,0)) (a,b,0)∧DK (FA (a,b,0)).1 (FA (a,b,0)).2.1 (FA (a,b,0)).2.2=!Jn a.length fun i=>R9 (a.getD i (Ae TC.row)) (b.getD i (Ae TC.row)):=fun h0=>by
  rw[hk0] at h0
  have hlen:a.length=b.length:=by simpa using h0
  have hf:∀i:Nat,DK a b (i:Int)=(decide (i <a.length)&&!R9 (a.getD i (Ae TC.row)) (b.getD i (Ae TC.row))):=fun i=>by
   unfold DK DL
   rw[nn,Mp,Int.toNat_natCast]
  obtain⟨h1,k,hk,hx,_,_,hb'⟩:=IJ (fun i=>((a,b,(i:Int)):Dh)) a.length (fun i=>!R9 (a.getD i (Ae TC.row)) (b.getD i (Ae TC.row))) Ge Gd Jc (Hz (a,b,0)) (a,b,0) rfl (by show a.length≤((a.length:Int) - 0).toNat;omega)
   (fun i _ _=>by
    show((!!decide ((i:Int) <(a.length:Int)))&&!DK a b (i:Int))=_
    rw[hf,nn,Mp]
    cases decide (i <a.length)<;>rfl)
   (fun i hi _=>by
    show(a,b,IntKind.i64.wrap ((i:Int)+1))=(a,b,((i+1:Nat):Int))
    rw[Fp (by omega)])
   (fun i hi _=>by
    have hin:(!!decide ((i:Int) <(a.length:Int)))=true→(i:Int) <(a.length:Int):=fun h=>by rw[nn] at h;exact of_decide_eq_true h
    refine Aa (fun h=>⟨by show(0:Int)≤(i:Int);omega,hin h⟩) (Aa (fun h=>⟨by show(0:Int)≤(i:Int);omega,by have:=hin h;show(i:Int) <(b.length:Int);omega⟩) (Aa (fun h=>?_) Ab))
    have h5:=hin h
    have e:((i:Int)).toNat=i:=Int.toNat_natCast i
    show Ai (a.getD ((i:Int)).toNat (Ae TC.row)).2.length
    rw[e]
    exact hb _ (getD_in a (Ae TC.row) i (by omega)))
  refine⟨h1,?_⟩
  have hr:FA (a,b,0)=(a,b,(k:Int)):=hx
  rw[hr]
  show DK a b (k:Int)=_
  rw[hf,hb']
  congr 1
  exact HV fun i _=>Bool.not_not _
 refine⟨Aa (fun h=>(main (by simpa using h)).1) Ab,?_⟩
 unfold Amj A64
 cases h0:JG a b with
 |true=>
  rw[hk0] at h0
  have e:(a.length==b.length)=false:=by simpa using h0
  rw[e]
  rfl
 |false=>
  have h1:=h0
  rw[hk0] at h1
  have e:(a.length==b.length)=true:=by simpa using h1
  rw[cond_false,e,Bool.true_and]
  have m:=(main h0).2
  show(!DK (FA (a,b,0)).1 (FA (a,b,0)).2.1 (FA (a,b,0)).2.2)=_
  rw[m,Bool.not_not]
theorem Bjn (a0:List TRow) (a1:List TRow) (hp:∀p∈Apy a0 a1,p):CallOk Try.prog 49 [Ak .rows a0,Ak .rows a1] 0 [] 1 (Azc a0 a1) 0 (Aza a0 a1):=by
 have hb:Az a0.length:=hp _ (List.mem_cons_self ..)
 have hc:∀r∈a0,Ai r.cells.length:=hp _ (List.mem_cons_of_mem _ (List.mem_cons_self ..))
 have h:=Bpe a0 a1 (Ay6 a0 a1 hb hc).1
 unfold Amk at h
 rw[(Ay6 a0 a1 hb hc).2] at h
 exact h
theorem Boq (a:List TRow):A64 a a=true:=by
 unfold A64
 rw[beq_self_eq_true,Bool.true_and,HF]
 exact fun i _=>Bdd.2 rfl
def Aml:List A→Nat→Objs→Option Bb
 | [y0,y1],nx,o=>match AQ .rows y0,AQ .rows y1 with
  |some (a0,p0),some (a1,p1)=>some (1,(Azc a0 a1).pk (AF nx),nx+0,AE nx (Aza a0 a1)++o,p0++(p1++(Apy a0 a1)))
  |_,_=>none
 |_,_,_=>none
theorem Bfl:Ft Try.prog 49 Aml:=fun args nx o k x nx' o' ps h=>by
 unfold Aml at h
 split at h<;>first|(cases h;done)|skip
 split at h<;>first|(cases h;done)|skip
 rename_i a0 p0 a1 p1 e0 e1
 cases h
 refine⟨fun hp=>?_,_,rfl⟩
 have q0:=fun p hm=>hp p (List.mem_append.2 (.inl hm))
 have r0:=fun p hm=>hp p (List.mem_append.2 (.inr hm))
 have q1:=fun p hm=>r0 p (List.mem_append.2 (.inl hm))
 have r1:=fun p hm=>r0 p (List.mem_append.2 (.inr hm))
 refine Ah (Ag (Bjn a0 a1 r1) (Nat.le_refl _) (Ac (Af _ _) (Ac (Af _ _) Ao)) nx o) fun F N R vs hl=>?_
 obtain⟨v0,w0,rfl,h0,hl⟩:=hl.inv
 obtain⟨v1,w1,rfl,h1,hl⟩:=hl.inv
 exact HL.cons (Am e0 q0 h0) (HL.cons (Am e1 q1 h1) (hl))
end Go.Proofs.Yteebobbhhgmeiaa
namespace Go.Proofs.Yteebobbhhgmeiaa
open Go.RowKit
def K2 (cs:List TChange) (i:Nat):TChange:=cs.getD i (Ae TC.change)
def stE (l:List TGroup) (cs:List TChange):Int:=bif AY l !=0 then AY l else bif Jn cs.length (fun i=>N8 l (K2 cs i)==0) then 0 else 120
def stN (l:List TGroup) (cs:List TChange):Nat→List TRow
 |0=>[]
 |i+1=>mrg ((stN l cs i).length+(nb (PU l (K2 cs i))).length) (stN l cs i) (nb (PU l (K2 cs i)))
def Mn (l:List TGroup) (cs:List TChange):List TRow:=bif stE l cs==0 then stN l cs cs.length else[]
theorem Bio (l:List TGroup) (c:TChange):Stt l (nb (PU l c)):=B1i (Avn l c).1 (Avn l c).2
theorem Baf (l:List TGroup) (cs:List TChange):∀i,Stt l (stN l cs i)
 |0=>Ajw l
 |i+1=>(Baf l cs i).mrg _ (Bio l _)
theorem Bny (l:List TGroup) (cs:List TChange):Stt l (Mn l cs):=by
 unfold Mn
 cases stE l cs==0 with
 |true=>exact Baf l cs _
 |false=>exact Ajw l
theorem A6t (l:List TGroup) (c:TChange):(PU l c).length≤8:=by
 unfold PU
 cases h:N8 l c==0 with
 |false=>exact Nat.zero_le _
 |true=>
  have h0:N8 l c=0:=by simpa using h
  obtain⟨_,_,hn,_⟩:=Bct.1 h0
  unfold Ah8 at hn
  rw[Bool.and_eq_true,decide_eq_true_eq,decide_eq_true_eq] at hn
  exact Nat.le_trans (A6s l c _) hn.2
theorem Bip (rows:List TRow):(nb rows).length≤rows.length:=List.length_filter_le _ _
theorem Bae (l:List TGroup) (cs:List TChange):∀i,(stN l cs i).length≤8*i
 |0=>Nat.le_refl _
 |i+1=>by
  have h1:=Bae l cs i
  have h2:=T4 ((stN l cs i).length+(nb (PU l (K2 cs i))).length) (stN l cs i) (nb (PU l (K2 cs i)))
  have h3:=Bip (PU l (K2 cs i))
  have h4:=A6t l (K2 cs i)
  show(mrg _ _ _).length≤_
  omega
theorem Bnw (l:List TGroup) (cs:List TChange):∀i,i≤cs.length→stN l cs i=stF ((cs.take i).map (PU l))
 |0,_=>rfl
 | i+1,h=>by
  rw[Ajy cs (Ae TC.change) i (by omega),List.map_append]
  have e:stF (((cs.take i).map (PU l))++[cs.getD i (Ae TC.change)].map (PU l))=mrg ((stF ((cs.take i).map (PU l))).length+(nb (PU l (K2 cs i))).length) (stF ((cs.take i).map (PU l))) (nb (PU l (K2 cs i))):=by
   unfold stF
   rw[List.foldl_append]
   rfl
  rw[e,←Bnw l cs i (by omega)]
  rfl
theorem A5m {l:List TGroup} {cs:List TChange}:stE l cs=0↔AY l=0∧∀c∈cs,N8 l c=0:=by
 unfold stE
 cases h:AY l !=0 with
 |true=>
  rw[cond_true]
  have h':AY l≠0:=by simpa using h
  exact⟨fun e=>absurd e h',fun e=>absurd e.1 h'⟩
 | false=>
  rw[cond_false]
  have h':AY l=0:=by simpa using h
  cases ha:Jn cs.length (fun i=>N8 l (K2 cs i)==0) with
  |true=>
   refine⟨fun _=>⟨h',fun c hc=>?_⟩,fun _=>rfl⟩
   obtain⟨i,hi,rfl⟩:=List.mem_iff_getElem.1 hc
   have h2:=HF.1 ha i hi
   have h3:N8 l (K2 cs i)=0:=by simpa using h2
   have h4:K2 cs i=cs[i]:=by unfold K2;rw[List.getD_eq_getElem?_getD,List.getElem?_eq_getElem hi];rfl
   rw[←h4]
   exact h3
  | false=>
   refine⟨fun e=>(by cases e),fun e=>?_⟩
   have:Jn cs.length (fun i=>N8 l (K2 cs i)==0)=true:=HF.2 fun i hi=>by
    have h2:N8 l (K2 cs i)=0:=e.2 _ (getD_in cs (Ae TC.change) i hi)
    rw[h2]
    rfl
   rw[ha] at this
   cases this
def mgE (l:List TGroup) (a b:List TRow):Int:=bif EI l a !=0 then EI l a else EI l b
def JC (l:List TGroup) (a b:List TRow):List TRow:=bif mgE l a b==0 then mrg (a.length+b.length) a b else[]
theorem Ia {l:List TGroup} {a:List TRow} (h:EI l a=0):AY l=0∧Stt l a:=⟨(Auj.1 h).1,(Bn0 (Auj.1 h).1).1 h⟩
theorem Bei {l:List TGroup} {a b:List TRow}:mgE l a b=0↔EI l a=0∧EI l b=0:=by
 unfold mgE
 cases h:EI l a !=0 with
 |true=>
  rw[cond_true]
  have h':EI l a≠0:=by simpa using h
  exact⟨fun e=>absurd e h',fun e=>absurd e.1 h'⟩
 |false=>
  rw[cond_false]
  have h':EI l a=0:=by simpa using h
  exact⟨fun e=>⟨h',e⟩,fun e=>e.2⟩
def wiB (l:List TGroup) (a b:List TRow):Bool:=mgE l a b==0&&(JC l a b).length==b.length&&Jn b.length fun i=>R9 (BJ (JC l a b) i) (BJ b i)
end Go.Proofs.Yteebobbhhgmeiaa
namespace Go.Proofs.Yteebobbhhgmeiaa
open Go.RowKit
noncomputable def By8:=A7 142 Q1 Cmg
theorem Brj:Dd Try.prog By8:=Av Arn B0k
noncomputable def Auy:=A7 84 NS By8
theorem Afm:Dd Try.prog Auy:=Av WY Brj
abbrev BE:Type:=(List TRow)×Int×Int×(List TRow)
def J5 (x:BE):St:=⟨55,6,[(11,.sq 5),(35,.sl .row x.1),(36,.v (.int .i64 x.2.1)),(37,.v (.int .i64 x.2.2.1))],[(5,some (.arr 71 2 (.ty .row x.2.2.2)))]⟩
def Ly:St→Option BE
 |⟨55,6,[(11,.sq 5),(35,.sl .row z0),(36,.v (.int .i64 z1)),(37,.v (.int .i64 z2))],[(5,some (.arr 71 2 (.ty .row z3)))]⟩=>some (z0,z1,z2,z3)
 |_=>none
theorem Zk:∀s x,Ly s=some x→s=J5 x:=fun s x h=>by
 unfold Ly at h
 split at h
 ·cases h;rfl
 ·cases h
def SS:Dj:=⟨5,6,[11,35,36,37],[],[(9,5)],[9],[11],[5]⟩
def Als:DB:=⟨[.frz 3,.nil 11 71 .row],[(4,5)],[11,35,36,37],[4]⟩
def KN (a0:List TRow) (_a1:Int) (a2:Int) (a3:List TRow):List TRow:=bif !FF (a0.getD a2.toNat (Ae TC.row)) then a3++[a0.getD a2.toNat (Ae TC.row)] else a3
def CG (x:BE):BE:=(x.1,x.2.1,IntKind.i64.wrap (x.2.2.1+(1:Int)),KN x.1 x.2.1 x.2.2.1 x.2.2.2)
def CF (x:BE):Cnd:=some (!!decide (x.2.2.1 <x.2.1))
def OV (x:BE):List Prop:=[((!!decide (x.2.2.1 <x.2.1))=true→(0:Int)≤x.2.2.1∧x.2.2.1 <(↑x.1.length:Int)),((!!decide (x.2.2.1 <x.2.1))=true→Ai (x.1.getD x.2.2.1.toNat (Ae TC.row)).2.length),((!!decide (x.2.2.1 <x.2.1))=true→(!FF (x.1.getD x.2.2.1.toNat (Ae TC.row)))=true→Ai (x.2.2.2.length+(1:Nat)))]
def Ep (x:BE):List Prop:=[((!!decide (x.2.2.1 <x.2.1))=true→(0:Int)≤x.2.2.1∧x.2.2.1 <(↑x.1.length:Int)),((!!decide (x.2.2.1 <x.2.1))=true→Ai (x.1.getD x.2.2.1.toNat (Ae TC.row)).2.length),((!!decide (x.2.2.1 <x.2.1))=true→(!FF (x.1.getD x.2.2.1.toNat (Ae TC.row)))=true→Ai (x.2.2.2.length+(1:Nat)))]
def ND (x:BE):Bo:=[(some 2,some (!decide (x.2.2.1 <x.2.1)),⟨55,6,[(11,.sq 5)],[(5,some (.arr 71 2 (.ty .row x.2.2.2)))]⟩)]
def Dq (x:BE):Nat:=(x.2.1 - x.2.2.1).toNat
def IN (x:BE):BE:=Bg CG CF (Dq x) x
theorem Ahv (a0:List TRow) (a1:Int) (a2:Int) (a3:List TRow):Bz (AA Auy L0) 9 (Aj Try.prog 82 2) SS (J5 (a0,a1,a2,a3))=some (OV (a0,a1,a2,a3),ND (a0,a1,a2,a3),CF (a0,a1,a2,a3),J5 (CG (a0,a1,a2,a3))):=by kernel_rfl
theorem Ahw (a0:List TRow) (a1:Int) (a2:Int) (a3:List TRow) (hp:∀p∈Ep (a0,a1,a2,a3),p):∀p∈OV (a0,a1,a2,a3),p:=by
 have n0:=N0 hp
 have n1:=N0 (N1 hp)
 have n2:=N0 (N1 (N1 hp))
 exact(Aa n0 (Aa n1 (Aa n2 Ab)))
noncomputable def OW:=H1 (AA Auy L0) (Aj Try.prog 82 2) SS Als Ly Dq CG CF Ep ND
theorem Acn:∀s b ps outs,OW s=some (b,ps,outs)→Wf s ⟨ps,outs,none⟩∧Bx (AA C0 L0) b s ps outs:=
 Bm (T:=J5) Afm AH (u:=9) (by kernel_rfl) (by decide) (fun⟨a0,a1,a2,a3⟩=>Ahv a0 a1 a2 a3) (fun⟨a0,a1,a2,a3⟩=>Ahw a0 a1 a2 a3) Zk (fun _=>AW (n:=55) rfl) fun _ _=>rfl
noncomputable def J4:=DP 2 OW L0
theorem OU:Hr J4:=A6 Acn AH
abbrev BD:Type:=(List TGroup)×(List TChange)×Int×Int×(List TRow)
def J3 (x:BD):St:=⟨55,2,[(0,.sl .group x.1),(4,.dq 1),(19,.sl .change x.2.1),(20,.v (.int .i64 x.2.2.1)),(21,.v (.int .i64 x.2.2.2.1))],[(1,some (.deep 71 .row x.2.2.2.2))]⟩
def Lx:St→Option BD
 |⟨55,2,[(0,.sl .group z0),(4,.dq 1),(19,.sl .change z1),(20,.v (.int .i64 z2)),(21,.v (.int .i64 z3))],[(1,some (.deep 71 .row z4))]⟩=>some (z0,z1,z2,z3,z4)
 |_=>none
theorem Zj:∀s x,Lx s=some x→s=J3 x:=fun s x h=>by
 unfold Lx at h
 split at h
 ·cases h;rfl
 ·cases h
def SR:Dj:=⟨1,2,[0,4,19,20,21],[],[(6,1)],[6],[4,5],[1]⟩
def Alr:DB:=⟨[.nilD 4 71 .row],[(0,1)],[0,4,19,20,21],[0]⟩
def CE (a0:List TGroup) (a1:List TChange) (a2:Int) (a3:Int) (_a4:List TRow):Bool:=!!decide (a3 <a2)&&N8 a0 (a1.getD a3.toNat (Ae TC.change)) !=(0:Int)
def By (a0:List TGroup) (a1:List TChange) (_a2:Int) (a3:Int) (_a4:List TRow):List TRow:=(IN (PU a0 (a1.getD a3.toNat (Ae TC.change)),(↑(PU a0 (a1.getD a3.toNat (Ae TC.change))).length:Int),(0:Int),[])).snd.snd.snd
def KM (a0:List TGroup) (a1:List TChange) (a2:Int) (a3:Int) (a4:List TRow):List TRow:=mrg (a4.length+(By a0 a1 a2 a3 a4).length) a4 (By a0 a1 a2 a3 a4)
def Acl (a0:List TGroup) (a1:List TChange) (a2:Int) (a3:Int) (a4:List TRow):Bool:=!!decide (a3 <a2)&&!(CE a0 a1 a2 a3 a4)
def Dp (x:BD):BD:=(x.1,x.2.1,x.2.2.1,IntKind.i64.wrap (x.2.2.2.1+(1:Int)),KM x.1 x.2.1 x.2.2.1 x.2.2.2.1 x.2.2.2.2)
def Dn (x:BD):Cnd:=some (Acl x.1 x.2.1 x.2.2.1 x.2.2.2.1 x.2.2.2.2)
def OS (x:BD):List Prop:=[((!!decide (x.2.2.2.1 <x.2.2.1))=true→(0:Int)≤x.2.2.2.1∧x.2.2.2.1 <(↑x.2.1.length:Int)),((!!decide (x.2.2.2.1 <x.2.2.1))=true→Az (x.2.1.getD x.2.2.2.1.toNat (Ae TC.change)).5.length),((!!decide (x.2.2.2.1 <x.2.2.1))=true→(!N8 x.1 (x.2.1.getD x.2.2.2.1.toNat (Ae TC.change)) !=(0:Int))=true→Aj Try.prog (82:FuncId) (2:Nat)=Aj Try.prog (82:FuncId) (2:Nat)),((!!decide (x.2.2.2.1 <x.2.2.1))=true→(!N8 x.1 (x.2.1.getD x.2.2.2.1.toNat (Ae TC.change)) !=(0:Int))=true→AL CG CF Ep (Dq (PU x.1 (x.2.1.getD x.2.2.2.1.toNat (Ae TC.change)),(↑(PU x.1 (x.2.1.getD x.2.2.2.1.toNat (Ae TC.change))).length:Int),(0:Int),[])) (PU x.1 (x.2.1.getD x.2.2.2.1.toNat (Ae TC.change)),(↑(PU x.1 (x.2.1.getD x.2.2.2.1.toNat (Ae TC.change))).length:Int),(0:Int),[])),((!!decide (x.2.2.2.1 <x.2.2.1))=true→(!N8 x.1 (x.2.1.getD x.2.2.2.1.toNat (Ae TC.change)) !=(0:Int))=true→Stt x.1 x.2.2.2.2∧Stt x.1 (By x.1 x.2.1 x.2.2.1 x.2.2.2.1 x.2.2.2.2)∧x.2.2.2.2.length+(By x.1 x.2.1 x.2.2.1 x.2.2.2.1 x.2.2.2.2).length≤(400000:Nat))]
def FO (x:BD):List Prop:=[((!!decide (x.2.2.2.1 <x.2.2.1))=true→(0:Int)≤x.2.2.2.1∧x.2.2.2.1 <(↑x.2.1.length:Int)),((!!decide (x.2.2.2.1 <x.2.2.1))=true→Az (x.2.1.getD x.2.2.2.1.toNat (Ae TC.change)).5.length),((!!decide (x.2.2.2.1 <x.2.2.1))=true→(!N8 x.1 (x.2.1.getD x.2.2.2.1.toNat (Ae TC.change)) !=(0:Int))=true→AL CG CF Ep (Dq (PU x.1 (x.2.1.getD x.2.2.2.1.toNat (Ae TC.change)),(↑(PU x.1 (x.2.1.getD x.2.2.2.1.toNat (Ae TC.change))).length:Int),(0:Int),[])) (PU x.1 (x.2.1.getD x.2.2.2.1.toNat (Ae TC.change)),(↑(PU x.1 (x.2.1.getD x.2.2.2.1.toNat (Ae TC.change))).length:Int),(0:Int),[])),((!!decide (x.2.2.2.1 <x.2.2.1))=true→(!N8 x.1 (x.2.1.getD x.2.2.2.1.toNat (Ae TC.change)) !=(0:Int))=true→Stt x.1 x.2.2.2.2∧Stt x.1 (By x.1 x.2.1 x.2.2.1 x.2.2.2.1 x.2.2.2.2)∧x.2.2.2.2.length+(By x.1 x.2.1 x.2.2.1 x.2.2.2.1 x.2.2.2.2).length≤(400000:Nat))]
def NC (x:BD):Bo:=[(some 0,some (!decide (x.2.2.2.1 <x.2.2.1)),⟨55,2,[(4,.dq 1),(5,.dead)],[(1,some (.deep 71 .row x.2.2.2.2))]⟩),(none,some ((CE x.1 x.2.1 x.2.2.1 x.2.2.2.1 x.2.2.2.2)),⟨55,4,[(4,.v (.slice none 0 0)),(5,.v (.int .i64 ((120:Int))))],[(1,some (.deep 71 .row x.2.2.2.2))]⟩)]
def EA (x:BD):Nat:=(x.2.2.1 - x.2.2.2.1).toNat
def Bc (x:BD):BD:=Bg Dp Dn (EA x) x
theorem Aht (a0:List TGroup) (a1:List TChange) (a2:Int) (a3:Int) (a4:List TRow):Bz (AA Auy J4) 9 (Aj Try.prog 82 0) SR (J3 (a0,a1,a2,a3,a4))=some (OS (a0,a1,a2,a3,a4),NC (a0,a1,a2,a3,a4),Dn (a0,a1,a2,a3,a4),J3 (Dp (a0,a1,a2,a3,a4))):=by kernel_rfl
theorem Ahu (a0:List TGroup) (a1:List TChange) (a2:Int) (a3:Int) (a4:List TRow) (hp:∀p∈FO (a0,a1,a2,a3,a4),p):∀p∈OS (a0,a1,a2,a3,a4),p:=by
 have n0:=N0 hp
 have n1:=N0 (N1 hp)
 have n2:((!!decide (a3 <a2))=true→(!N8 a0 (a1.getD a3.toNat (Ae TC.change)) !=(0:Int))=true→Aj Try.prog (82:FuncId) (2:Nat)=Aj Try.prog (82:FuncId) (2:Nat)):=by intros;rfl
 have n3:=N0 (N1 (N1 hp))
 have n4:=N0 (N1 (N1 (N1 hp)))
 exact(Aa n0 (Aa n1 (Aa n2 (Aa n3 (Aa n4 Ab)))))
noncomputable def OT:=H1 (AA Auy J4) (Aj Try.prog 82 0) SR Alr Lx EA Dp Dn FO NC
theorem Acm:∀s b ps outs,OT s=some (b,ps,outs)→Wf s ⟨ps,outs,none⟩∧Bx (AA C0 L0) b s ps outs:=
 Bm (T:=J3) Afm OU (u:=9) (by kernel_rfl) (by decide) (fun⟨a0,a1,a2,a3,a4⟩=>Aht a0 a1 a2 a3 a4) (fun⟨a0,a1,a2,a3,a4⟩=>Ahu a0 a1 a2 a3 a4) Zj (fun _=>AW (n:=55) rfl) fun _ _=>rfl
noncomputable def SQ:=DP 0 OT J4
theorem Ack:Hr SQ:=A6 Acm OU
def Hg (a0:List TGroup) (_a1:List TChange):Bool:=AY a0 !=(0:Int)
def OR (a0:List TGroup) (a1:List TChange):Bool:=CE (Bc (a0,a1,(↑a1.length:Int),(0:Int),[])).fst (Bc (a0,a1,(↑a1.length:Int),(0:Int),[])).snd.fst (Bc (a0,a1,(↑a1.length:Int),(0:Int),[])).snd.snd.fst (Bc (a0,a1,(↑a1.length:Int),(0:Int),[])).snd.snd.snd.fst (Bc (a0,a1,(↑a1.length:Int),(0:Int),[])).snd.snd.snd.snd
def Rj (a0:List TGroup) (a1:List TChange):Int:=bif(Hg a0 a1) then AY a0 else bif(OR a0 a1) then(120:Int) else(0:Int)
def Rk (a0:List TGroup) (a1:List TChange):List TRow:=bif(Hg a0 a1) then[] else bif(OR a0 a1) then[] else(Bc (a0,a1,(↑a1.length:Int),(0:Int),[])).snd.snd.snd.snd
def Rm (a0:List TGroup) (a1:List TChange):A:=.tup [.dq 0,.v (.int .i64 (Rj a0 a1))]
def Rl (a0:List TGroup) (a1:List TChange):Objs:=[(0,some (.deep 71 .row (Rk a0 a1)))]
def Axg (a0:List TGroup) (a1:List TChange):List Prop:=[((!(Hg a0 a1))=true→AL Dp Dn FO (EA (a0,a1,(↑a1.length:Int),(0:Int),[])) (a0,a1,(↑a1.length:Int),(0:Int),[]))]
theorem Axf (a0:List TGroup) (a1:List TChange):EQ (AA Auy SQ) 9 82 [.sl .group a0,.sl .change a1] 0 []=some (1,Rm a0 a1,1,Rl a0 a1,[((!(Hg a0 a1))=true→Aj Try.prog (82:FuncId) (0:Nat)=Aj Try.prog (82:FuncId) (0:Nat)),((!(Hg a0 a1))=true→AL Dp Dn FO (EA (a0,a1,(↑a1.length:Int),(0:Int),[])) (a0,a1,(↑a1.length:Int),(0:Int),[]))]):=by kernel_rfl
theorem A2a (a0:List TGroup) (a1:List TChange) (hp:∀p∈Axg a0 a1,p):CallOk Try.prog 82 [.sl .group a0,.sl .change a1] 0 [] 1 (Rm a0 a1) 1 (Rl a0 a1):=by
 have n0:((!(Hg a0 a1))=true→Aj Try.prog (82:FuncId) (0:Nat)=Aj Try.prog (82:FuncId) (0:Nat)):=by intros;rfl
 have n1:=N0 hp
 exact AI (Aw Afm Ack) (Axf a0 a1) (Aa n0 (Aa n1 Ab))
def W6 (a0:List TGroup) (a1:List TChange):A:=.tup [.dq 0,.v (.int .i64 (stE a0 a1))]
def W5 (a0:List TGroup) (a1:List TChange):Objs:=[(0,some (.deep 71 .row (Mn a0 a1)))]
def UP (_a0:List TGroup) (a1:List TChange):List Prop:=[a1.length≤7000∧∀c∈a1,Az c.writes.length]
theorem Bxk (rows:List TRow) (i:Nat) (h:i <rows.length):nb (rows.take (i+1))=bif !FF (BJ rows i) then nb (rows.take i)++[BJ rows i] else nb (rows.take i):=by
 unfold nb
 rw[Ajy rows (Ae TC.row) i h,List.filter_append]
 show _++List.filter _ [BJ rows i]=_
 rw[List.filter_cons]
 cases FF (BJ rows i) with
 |true=>exact List.append_nil _
 |false=>rfl
theorem Bem (rows:List TRow) (hb:rows.length≤100) (hc:∀r∈rows,r.cells.length≤4):
  AL CG CF Ep (Dq (rows,(rows.length:Int),0,[])) (rows,(rows.length:Int),0,[])∧IN (rows,(rows.length:Int),0,[])=(rows,(rows.length:Int),(rows.length:Int),nb rows):=by
 obtain⟨h1,hx⟩:=Bnq (fun i=>((rows,(rows.length:Int),(i:Int),nb (rows.take i)):BE)) rows.length CG CF Ep (Dq (rows,(rows.length:Int),0,[])) (rows,(rows.length:Int),0,[]) rfl (by show rows.length≤((rows.length:Int) - 0).toNat;omega)
  (fun i _=>by
   show(!!decide ((i:Int) <(rows.length:Int)))=_
   rw[nn,Mp])
  (fun i hi=>by
   show(rows,(rows.length:Int),IntKind.i64.wrap ((i:Int)+1),KN rows (rows.length:Int) (i:Int) (nb (rows.take i)))=(rows,(rows.length:Int),((i+1:Nat):Int),nb (rows.take (i+1)))
   rw[Fp (by omega),Bxk rows i hi]
   unfold KN
   rw[Int.toNat_natCast]
   rfl)
  (fun i hi=>by
   have hin:(!!decide ((i:Int) <(rows.length:Int)))=true→(i:Int) <(rows.length:Int):=fun h=>by rw[nn] at h;exact of_decide_eq_true h
   have hl:=Bip (rows.take i)
   rw[List.length_take] at hl
   refine Aa (fun h=>⟨by show(0:Int)≤(i:Int);omega,hin h⟩) (Aa (fun h=>?_) (Aa (fun _ _=>?_) Ab))
   ·have h2:=hin h
    have h3:(rows.getD ((i:Int)).toNat (Ae TC.row)).2.length≤4:=hc _ (getD_in rows (Ae TC.row) _ (by omega))
    show Ai (rows.getD ((i:Int)).toNat (Ae TC.row)).2.length
    unfold Ai
    omega
   ·show Ai ((nb (rows.take i)).length+1)
    unfold Ai
    omega)
 refine⟨h1,?_⟩
 have hx':IN (rows,(rows.length:Int),0,[])=(rows,(rows.length:Int),(rows.length:Int),nb (rows.take rows.length)):=hx
 rw[hx',List.take_length]
theorem YM (l:List TGroup) (c:TChange):(PU l c).length≤100∧∀r∈PU l c,r.cells.length≤4:=by
 refine⟨Nat.le_trans (A6t l c) (by omega),fun r hr=>?_⟩
 have g:=(Avn l c).2 r hr
 rw[(AS g).2.1]
 exact(Gu (AS g).1).2
theorem Bts (l:List TGroup) (cs:List TChange) (hb:cs.length≤7000) (hw:∀c∈cs,Az c.writes.length):
  AL Dp Dn FO (EA (l,cs,(cs.length:Int),0,[])) (l,cs,(cs.length:Int),0,[])∧
  CE (Bc (l,cs,(cs.length:Int),0,[])).fst (Bc (l,cs,(cs.length:Int),0,[])).snd.fst (Bc (l,cs,(cs.length:Int),0,[])).snd.snd.fst (Bc (l,cs,(cs.length:Int),0,[])).snd.snd.snd.fst (Bc (l,cs,(cs.length:Int),0,[])).snd.snd.snd.snd=!Jn cs.length (fun i=>N8 l (K2 cs i)==0)∧
  (Jn cs.length (fun i=>N8 l (K2 cs i)==0)=true→(Bc (l,cs,(cs.length:Int),0,[])).snd.snd.snd.snd=stN l cs cs.length):=by
 have hk1:∀(i:Nat) (o:List TRow),CE l cs (cs.length:Int) (i:Int) o=(decide (i <cs.length)&&!(N8 l (K2 cs i)==0)):=fun i o=>by
  unfold CE
  rw[nn,Mp,Int.toNat_natCast]
  rfl
 have hk0:∀(i:Nat) (o:List TRow),By l cs (cs.length:Int) (i:Int) o=nb (PU l (K2 cs i)):=fun i o=>by
  unfold By
  rw[Int.toNat_natCast]
  show(IN (PU l (K2 cs i),((PU l (K2 cs i)).length:Int),(0:Int),[])).snd.snd.snd=_
  rw[(Bem _ (YM l (K2 cs i)).1 (YM l (K2 cs i)).2).2]
 obtain⟨h1,k,hk,hx,_,hst,hb'⟩:=IJ (fun i=>(l,cs,(cs.length:Int),(i:Int),stN l cs i):Nat→BD) cs.length (fun i=>!(N8 l (K2 cs i)==0)) Dp Dn FO (EA (l,cs,(cs.length:Int),0,[])) (l,cs,(cs.length:Int),0,[]) rfl (by show cs.length≤((cs.length:Int) - 0).toNat;omega)
  (fun i _ _=>by
   show(!!decide ((i:Int) <(cs.length:Int))&&!CE l cs (cs.length:Int) (i:Int) (stN l cs i))=_
   rw[hk1,nn,Mp]
   cases decide (i <cs.length)<;>rfl)
  (fun i hi _=>by
   show(l,cs,(cs.length:Int),IntKind.i64.wrap ((i:Int)+1),KM l cs (cs.length:Int) (i:Int) (stN l cs i))=(l,cs,(cs.length:Int),((i+1:Nat):Int),stN l cs (i+1))
   unfold KM
   rw[Fp (by omega),hk0]
   rfl)
  (fun i hi _=>by
   have hin:(!!decide ((i:Int) <(cs.length:Int)))=true→i <cs.length:=fun h=>by rw[nn] at h;have:=of_decide_eq_true h;omega
   refine Aa (fun h=>⟨by show(0:Int)≤(i:Int);omega,by have:=hin h;show(i:Int) <(cs.length:Int);omega⟩) (Aa (fun h=>?_) (Aa (fun h _=>?_) (Aa (fun h _=>?_) Ab)))
   ·show Az (cs.getD ((i:Int)).toNat (Ae TC.change)).5.length
    rw[Int.toNat_natCast]
    exact hw _ (getD_in cs (Ae TC.change) i (hin h))
   ·show AL CG CF Ep (Dq (PU l (cs.getD ((i:Int)).toNat (Ae TC.change)),((PU l (cs.getD ((i:Int)).toNat (Ae TC.change))).length:Int),(0:Int),[])) (PU l (cs.getD ((i:Int)).toNat (Ae TC.change)),((PU l (cs.getD ((i:Int)).toNat (Ae TC.change))).length:Int),(0:Int),[])
    exact(Bem _ (YM l _).1 (YM l _).2).1
   ·have a1:=Bae l cs i
    have a2:=Bip (PU l (K2 cs i))
    have a3:=A6t l (K2 cs i)
    show Stt l (stN l cs i)∧Stt l (By l cs (cs.length:Int) (i:Int) (stN l cs i))∧(stN l cs i).length+(By l cs (cs.length:Int) (i:Int) (stN l cs i)).length≤400000
    rw[hk0]
    exact⟨Baf l cs i,Bio l _,by omega⟩)
 have hr:Bc (l,cs,(cs.length:Int),0,[])=(l,cs,(cs.length:Int),(k:Int),stN l cs k):=hx
 have hb2:(decide (k <cs.length)&&!(N8 l (K2 cs k)==0))=!Jn cs.length (fun i=>N8 l (K2 cs i)==0):=by
  rw[hb']
  congr 1
  exact HV fun i _=>Bool.not_not _
 rw[hr]
 refine⟨h1,?_,fun ha=>?_⟩
 ·show CE l cs (cs.length:Int) (k:Int) (stN l cs k)=_
  rw[hk1,hb2]
 ·show stN l cs k=_
  rw[ha] at hb2
  rcases Nat.lt_or_ge k cs.length with h|h
  ·have h2:=hst h
   rw[decide_eq_true h,h2] at hb2
   cases hb2
  ·rw[show k=cs.length by omega]
theorem Axe (a0:List TGroup) (a1:List TChange) (hp:∀p∈UP a0 a1,p):CallOk Try.prog 82 [.sl .group a0,.sl .change a1] 0 [] 1 (W6 a0 a1) 1 (W5 a0 a1):=by
 obtain⟨hb,hw⟩:=hp _ (List.mem_cons_self ..)
 obtain⟨h1,h2,h3⟩:=Bts a0 a1 hb hw
 have h:=A2a a0 a1 (Aa (fun _=>h1) Ab)
 have k0:OR a0 a1=!Jn a1.length (fun i=>N8 a0 (K2 a1 i)==0):=h2
 have e:Rj a0 a1=stE a0 a1∧Rk a0 a1=Mn a0 a1:=by
  unfold Rj Rk Hg Mn stE
  rw[k0]
  cases hg:AY a0 !=0 with
  |true=>
   have:(AY a0==0)=false:=by simpa using hg
   refine⟨rfl,?_⟩
   show[]=bif AY a0==0 then stN a0 a1 a1.length else[]
   rw[this]
   rfl
  |false=>
   cases ha:Jn a1.length (fun i=>N8 a0 (K2 a1 i)==0) with
   |true=>exact⟨rfl,h3 ha⟩
   |false=>exact⟨rfl,rfl⟩
 unfold Rm Rl at h
 rw[e.1,e.2] at h
 exact h
def Rn:List A→Nat→Objs→Option Bb
 | [y0,y1],nx,o=>match Kh .group y0,Kh .change y1 with
  |some a0,some a1=>some (1,(W6 a0 a1).pk (AF nx),nx+1,AE nx (W5 a0 a1)++o,UP a0 a1)
  |_,_=>none
 |_,_,_=>none
theorem Asf:Ft Try.prog 82 Rn:=fun args nx o k x nx' o' ps h=>by
 unfold Rn at h
 split at h<;>first|(cases h;done)|skip
 split at h<;>first|(cases h;done)|skip
 rename_i a0 a1 e0 e1
 cases h
 refine⟨fun hp=>?_,_,rfl⟩
 refine Ah (Ag (Axe a0 a1 hp) (Nat.le_refl _) (Ac rfl (Ac rfl Ao)) nx o) fun F N R vs hl=>?_
 obtain⟨v0,w0,rfl,h0,hl⟩:=hl.inv
 obtain⟨v1,w1,rfl,h1,hl⟩:=hl.inv
 exact HL.cons (BX e0 h0) (HL.cons (BX e1 h1) (hl))
noncomputable def Brk:=A7 82 Rn Auy
theorem Bbr:Dd Try.prog Brk:=Av Asf Afm
def Eo (a0:List TGroup) (a1:List TRow) (_a2:List TRow):Bool:=EI a0 a1 !=(0:Int)
def Ie (a0:List TGroup) (a1:List TRow) (a2:List TRow):Bool:=(Eo a0 a1 a2)||EI a0 a2 !=(0:Int)
def Re (a0:List TGroup) (a1:List TRow) (a2:List TRow):Int:=bif(Ie a0 a1 a2) then bif(Eo a0 a1 a2) then EI a0 a1 else EI a0 a2 else(0:Int)
def Rf (a0:List TGroup) (a1:List TRow) (a2:List TRow):List TRow:=bif(Ie a0 a1 a2) then[] else mrg (a1.length+a2.length) a1 a2
def Rh (a0:List TGroup) (a1:List TRow) (a2:List TRow):A:=.tup [.dq 0,.v (.int .i64 (Re a0 a1 a2))]
def Rg (a0:List TGroup) (a1:List TRow) (a2:List TRow):Objs:=[(0,some (.deep 71 .row (Rf a0 a1 a2)))]
def Axd (a0:List TGroup) (a1:List TRow) (a2:List TRow):List Prop:=[(Az a1.length),((!(Eo a0 a1 a2))=true→Az a2.length),((!(Ie a0 a1 a2))=true→Stt a0 a1∧Stt a0 a2∧a1.length+a2.length≤(400000:Nat))]
theorem Axc (a0:List TGroup) (a1:List TRow) (a2:List TRow):EQ (AA Brk L0) 9 91 [.sl .group a0,Ak .rows a1,Ak .rows a2] 0 []=some (1,Rh a0 a1 a2,1,Rg a0 a1 a2,[((0:Int)≤(0:Int)∧(0:Int) <(↑(2:Nat):Int)),((0:Nat) <(2:Nat)),(Az a1.length),((!(Eo a0 a1 a2))=true→(0:Int)≤(1:Int)∧(1:Int) <(↑(2:Nat):Int)),((!(Eo a0 a1 a2))=true→(1:Nat) <(2:Nat)),((!(Eo a0 a1 a2))=true→Az a2.length),((!(Ie a0 a1 a2))=true→Stt a0 a1∧Stt a0 a2∧a1.length+a2.length≤(400000:Nat))]):=by kernel_rfl
theorem A19 (a0:List TGroup) (a1:List TRow) (a2:List TRow) (hp:∀p∈Axd a0 a1 a2,p):CallOk Try.prog 91 [.sl .group a0,Ak .rows a1,Ak .rows a2] 0 [] 1 (Rh a0 a1 a2) 1 (Rg a0 a1 a2):=by
 have n0:((0:Int)≤(0:Int)∧(0:Int) <(↑(2:Nat):Int)):=by first|rfl|decide+kernel
 have n1:((0:Nat) <(2:Nat)):=by first|rfl|decide+kernel
 have n2:=N0 hp
 have n3:((!(Eo a0 a1 a2))=true→(0:Int)≤(1:Int)∧(1:Int) <(↑(2:Nat):Int)):=by omega
 have n4:((!(Eo a0 a1 a2))=true→(1:Nat) <(2:Nat)):=by omega
 have n5:=N0 (N1 hp)
 have n6:=N0 (N1 (N1 hp))
 exact AI (Aw Bbr AH) (Axc a0 a1 a2) (Aa n0 (Aa n1 (Aa n2 (Aa n3 (Aa n4 (Aa n5 (Aa n6 Ab)))))))
def W0 (a0:List TGroup) (a1 a2:List TRow):A:=.tup [.dq 0,.v (.int .i64 (mgE a0 a1 a2))]
def WZ (a0:List TGroup) (a1 a2:List TRow):Objs:=[(0,some (.deep 71 .row (JC a0 a1 a2)))]
def UO (_a0:List TGroup) (a1 a2:List TRow):List Prop:=[a1.length+a2.length≤400000]
theorem Axb (a0:List TGroup) (a1 a2:List TRow) (hp:∀p∈UO a0 a1 a2,p):CallOk Try.prog 91 [.sl .group a0,Ak .rows a1,Ak .rows a2] 0 [] 1 (W0 a0 a1 a2) 1 (WZ a0 a1 a2):=by
 have hb:a1.length+a2.length≤400000:=hp _ (List.mem_cons_self ..)
 have hk:Ie a0 a1 a2=!(mgE a0 a1 a2==0):=by
  unfold Ie Eo mgE
  cases h:EI a0 a1 !=0 with
  |true=>
   have:(EI a0 a1==0)=false:=by simpa using h
   rw[cond_true,this]
   rfl
  |false=>rfl
 have h:=A19 a0 a1 a2 (Aa (by unfold Az;omega) (Aa (fun _=>by unfold Az;omega) (Aa (fun h=>by
  rw[hk,Bool.not_not] at h
  obtain⟨g1,g2⟩:=Bei.1 (by simpa using h:mgE a0 a1 a2=0)
  exact⟨(Ia g1).2,(Ia g2).2,hb⟩) Ab)))
 have e:Re a0 a1 a2=mgE a0 a1 a2∧Rf a0 a1 a2=JC a0 a1 a2:=by
  unfold Re Rf JC
  rw[hk]
  cases h0:mgE a0 a1 a2==0 with
  |true=>
   have:mgE a0 a1 a2=0:=by simpa using h0
   rw[this]
   exact⟨rfl,rfl⟩
  |false=>exact⟨rfl,rfl⟩
 unfold Rh Rg at h
 rw[e.1,e.2] at h
 exact h
def Ri:List A→Nat→Objs→Option Bb
 | [y0,y1,y2],nx,o=>match Kh .group y0,AQ .rows y1,AQ .rows y2 with
  |some a0,some (a1,p1),some (a2,p2)=>some (1,(W0 a0 a1 a2).pk (AF nx),nx+1,AE nx (WZ a0 a1 a2)++o,p1++(p2++(UO a0 a1 a2)))
  |_,_,_=>none
 |_,_,_=>none
theorem Ase:Ft Try.prog 91 Ri:=fun args nx o k x nx' o' ps h=>by
 unfold Ri at h
 split at h<;>first|(cases h;done)|skip
 split at h<;>first|(cases h;done)|skip
 rename_i a0 a1 p1 a2 p2 e0 e1 e2
 cases h
 refine⟨fun hp=>?_,_,rfl⟩
 have q1:=fun p hm=>hp p (List.mem_append.2 (.inl hm))
 have r1:=fun p hm=>hp p (List.mem_append.2 (.inr hm))
 have q2:=fun p hm=>r1 p (List.mem_append.2 (.inl hm))
 have r2:=fun p hm=>r1 p (List.mem_append.2 (.inr hm))
 refine Ah (Ag (Axb a0 a1 a2 r2) (Nat.le_refl _) (Ac rfl (Ac (Af _ _) (Ac (Af _ _) Ao))) nx o) fun F N R vs hl=>?_
 obtain⟨v0,w0,rfl,h0,hl⟩:=hl.inv
 obtain⟨v1,w1,rfl,h1,hl⟩:=hl.inv
 obtain⟨v2,w2,rfl,h2,hl⟩:=hl.inv
 exact HL.cons (BX e0 h0) (HL.cons (Am e1 q1 h1) (HL.cons (Am e2 q2 h2) (hl)))
noncomputable def Bbs:=A7 91 Ri Brk
theorem Auz:Dd Try.prog Bbs:=Av Ase Bbr
abbrev BF:Type:=Int×Int×TRow×TRow
def KA (x:BF):St:=⟨38,2,[(2,.own 0 0),(3,.own 1 0),(22,.v (.int .i64 x.1)),(23,.v (.int .i64 x.2.1))],[(0,some (.box 71 [.v (.string x.2.2.1.key),.sl .cell x.2.2.1.cells])),(1,some (.box 71 [.v (.string x.2.2.2.key),.sl .cell x.2.2.2.cells]))]⟩
def Md:St→Option BF
 |⟨38,2,[(2,.own 0 0),(3,.own 1 0),(22,.v (.int .i64 z0)),(23,.v (.int .i64 z1))],[(0,some (.box 71 [.v (.string z2),.sl .cell z3])),(1,some (.box 71 [.v (.string z4),.sl .cell z5]))]⟩=>some (z0,z1,⟨z2,z3⟩,⟨z4,z5⟩)
 |_=>none
theorem Acu:∀s x,Md s=some x→s=KA x:=fun s x h=>by
 unfold Md at h
 split at h
 ·cases h;rfl
 ·cases h
def UV:Dj:=⟨2,2,[2,3,22,23],[],[(0,0),(1,1)],[0,1],[4],[0,1]⟩
def Asj:DB:=⟨[],[(0,0),(1,1)],[2,3,22,23],[0,1]⟩
def CX (a0:Int) (a1:Int) (a2:TRow) (a3:TRow):Bool:=!!decide (a1 <a0)&&!((a2.2.getD a1.toNat (Ae TC.cell)).1.1==(a3.2.getD a1.toNat (Ae TC.cell)).1.1&&(a2.2.getD a1.toNat (Ae TC.cell)).1.2==(a3.2.getD a1.toNat (Ae TC.cell)).1.2&&((a2.2.getD a1.toNat (Ae TC.cell)).2.1==(a3.2.getD a1.toNat (Ae TC.cell)).2.1&&(a2.2.getD a1.toNat (Ae TC.cell)).2.2==(a3.2.getD a1.toNat (Ae TC.cell)).2.2&&((a2.2.getD a1.toNat (Ae TC.cell)).3==(a3.2.getD a1.toNat (Ae TC.cell)).3&&((a2.2.getD a1.toNat (Ae TC.cell)).4.toList==(a3.2.getD a1.toNat (Ae TC.cell)).4.toList&&((a2.2.getD a1.toNat (Ae TC.cell)).5.1==(a3.2.getD a1.toNat (Ae TC.cell)).5.1&&(a2.2.getD a1.toNat (Ae TC.cell)).5.2==(a3.2.getD a1.toNat (Ae TC.cell)).5.2)))))
def Ah2 (a0:Int) (a1:Int) (a2:TRow) (a3:TRow):Bool:=!!decide (a1 <a0)&&!(CX a0 a1 a2 a3)
def DT (x:BF):BF:=(x.1,IntKind.i64.wrap (x.2.1+(1:Int)),x.2.2.1,x.2.2.2)
def DS (x:BF):Cnd:=some (Ah2 x.1 x.2.1 x.2.2.1 x.2.2.2)
def Qp (x:BF):List Prop:=[((!!decide (x.2.1 <x.1))=true→(0:Int)≤x.2.1∧x.2.1 <(↑x.2.2.1.2.length:Int)),((!!decide (x.2.1 <x.1))=true→(0:Int)≤x.2.1∧x.2.1 <(↑x.2.2.2.2.length:Int))]
def GM (x:BF):List Prop:=[((!!decide (x.2.1 <x.1))=true→(0:Int)≤x.2.1∧x.2.1 <(↑x.2.2.1.2.length:Int)),((!!decide (x.2.1 <x.1))=true→(0:Int)≤x.2.1∧x.2.1 <(↑x.2.2.2.2.length:Int))]
def O2 (x:BF):Bo:=[(some 0,some (!decide (x.2.1 <x.1)),⟨38,2,[(4,.dead)],[(0,some (.box 71 [.v (.string x.2.2.1.1),.sl .cell x.2.2.1.2])),(1,some (.box 71 [.v (.string x.2.2.2.1),.sl .cell x.2.2.2.2]))]⟩),(none,some ((CX x.1 x.2.1 x.2.2.1 x.2.2.2)),⟨38,2,[(4,.v (.bool (false)))],[(0,some (.box 71 [.v (.string x.2.2.1.1),.sl .cell x.2.2.1.2])),(1,some (.box 71 [.v (.string x.2.2.2.1),.sl .cell x.2.2.2.2]))]⟩)]
def EW (x:BF):Nat:=(x.1 - x.2.1).toNat
def Ah4 (x:BF):BF:=Bg DT DS (EW x) x
theorem Alv (a0:Int) (a1:Int) (a2:TRow) (a3:TRow):Bz (AA Bbs L0) 9 (Aj Try.prog 150 0) UV (KA (a0,a1,a2,a3))=some (Qp (a0,a1,a2,a3),O2 (a0,a1,a2,a3),DS (a0,a1,a2,a3),KA (DT (a0,a1,a2,a3))):=by kernel_rfl
theorem Alw (a0:Int) (a1:Int) (a2:TRow) (a3:TRow) (hp:∀p∈GM (a0,a1,a2,a3),p):∀p∈Qp (a0,a1,a2,a3),p:=by
 have n0:=N0 hp
 have n1:=N0 (N1 hp)
 exact(Aa n0 (Aa n1 Ab))
noncomputable def Qq:=H1 (AA Bbs L0) (Aj Try.prog 150 0) UV Asj Md EW DT DS GM O2
theorem Ah3:∀s b ps outs,Qq s=some (b,ps,outs)→Wf s ⟨ps,outs,none⟩∧Bx (AA C0 L0) b s ps outs:=
 Bm (T:=KA) Auz AH (u:=9) (by kernel_rfl) (by decide) (fun⟨a0,a1,a2,a3⟩=>Alv a0 a1 a2 a3) (fun⟨a0,a1,a2,a3⟩=>Alw a0 a1 a2 a3) Acu (fun _=>AW (n:=38) rfl) fun _ _=>rfl
noncomputable def UU:=DP 0 Qq L0
theorem Ah1:Hr UU:=A6 Ah3 AH
def Fs (a0:TRow) (a1:TRow):BF:=Ah4 ((↑a0.2.length:Int),(0:Int),a0,a1)
def GC (a0:TRow) (a1:TRow):Bool:=!a0.1.toList==a1.1.toList||(↑a0.2.length:Int) !=(↑a1.2.length:Int)
def T1 (a0:TRow) (a1:TRow):Bool:=bif(GC a0 a1) then false else bif CX (Fs a0 a1).fst (Fs a0 a1).snd.fst (Fs a0 a1).snd.snd.fst (Fs a0 a1).snd.snd.snd then false else true
def T2 (a0:TRow) (a1:TRow):A:=.v (.bool (T1 a0 a1))
def Ah5 (_a0:TRow) (_a1:TRow):Objs:=[]
def Aaa (a0:TRow) (a1:TRow):List Prop:=[((!(GC a0 a1))=true→AL DT DS GM (EW ((↑a0.2.length:Int),(0:Int),a0,a1)) ((↑a0.2.length:Int),(0:Int),a0,a1))]
theorem A2e (a0:TRow) (a1:TRow):EQ (AA Bbs UU) 9 150 [Ak .row a0,Ak .row a1] 0 []=some (1,T2 a0 a1,0,Ah5 a0 a1,[((!(GC a0 a1))=true→Aj Try.prog (150:FuncId) (0:Nat)=Aj Try.prog (150:FuncId) (0:Nat)),((!(GC a0 a1))=true→AL DT DS GM (EW ((↑a0.2.length:Int),(0:Int),a0,a1)) ((↑a0.2.length:Int),(0:Int),a0,a1))]):=by kernel_rfl
theorem A8h (a0:TRow) (a1:TRow) (hp:∀p∈Aaa a0 a1,p):CallOk Try.prog 150 [Ak .row a0,Ak .row a1] 0 [] 1 (T2 a0 a1) 0 (Ah5 a0 a1):=by
 have n0:((!(GC a0 a1))=true→Aj Try.prog (150:FuncId) (0:Nat)=Aj Try.prog (150:FuncId) (0:Nat)):=by intros;rfl
 have n1:=N0 hp
 exact AI (Aw Auz Ah1) (A2e a0 a1) (Aa n0 (Aa n1 Ab))
def Aab (a0:TRow) (a1:TRow):A:=.v (.bool (R9 a0 a1))
def Z9 (_a0:TRow) (_a1:TRow):Objs:=[]
def Xf (a0:TRow) (_a1:TRow):List Prop:=[Ai a0.cells.length]
theorem Z8 (a b:TRow) (hb:Ai a.cells.length):(∀p∈Aaa a b,p)∧T1 a b=R9 a b:=by
 unfold Ai at hb
 have hk0:GC a b=(!(a.key==b.key)||a.cells.length !=b.cells.length):=by
  show(!(a.key.toList==b.key.toList)||((a.cells.length:Int) !=(b.cells.length:Int)))=_
  rw[tlb]
  congr 1
  rw[Bool.eq_iff_iff,bne_iff_ne,bne_iff_ne];omega
 have main:GC a b=false→AL DT DS GM (EW ((a.2.length:Int),0,a,b)) ((a.2.length:Int),0,a,b)∧CX (Fs a b).fst (Fs a b).snd.fst (Fs a b).snd.snd.fst (Fs a b).snd.snd.snd=!Agb a.cells b.cells:=fun h0=>by
  rw[hk0] at h0
  have hlen:a.cells.length=b.cells.length:=by simpa using(Bool.or_eq_false_iff.1 h0).2
  have hf:∀i:Nat,CX (a.cells.length:Int) (i:Int) a b=(decide (i <a.cells.length)&&!eqC (a.2.getD i (Ae TC.cell)) (b.2.getD i (Ae TC.cell))):=fun i=>by
   unfold CX eqC
   rw[nn,Mp,Int.toNat_natCast,tlb]
   simp only[Bool.and_assoc]
  obtain⟨h1,k,hk,hx,_,_,hb'⟩:=IJ (fun i=>(((a.cells.length:Int),(i:Int),a,b):BF)) a.cells.length (fun i=>!eqC (a.2.getD i (Ae TC.cell)) (b.2.getD i (Ae TC.cell))) DT DS GM (EW ((a.cells.length:Int),0,a,b)) ((a.cells.length:Int),0,a,b) rfl (by show a.cells.length≤((a.cells.length:Int) - 0).toNat;omega)
   (fun i _ _=>by
    show((!!decide ((i:Int) <(a.cells.length:Int)))&&!CX (a.cells.length:Int) (i:Int) a b)=_
    rw[hf,nn,Mp]
    cases decide (i <a.cells.length)<;>rfl)
   (fun i hi _=>by
    show((a.cells.length:Int),IntKind.i64.wrap ((i:Int)+1),a,b)=((a.cells.length:Int),((i+1:Nat):Int),a,b)
    rw[Fp (by omega)])
   (fun i _ _=>by
    have hin:(!!decide ((i:Int) <(a.cells.length:Int)))=true→(i:Int) <(a.cells.length:Int):=fun h=>by rw[nn] at h;exact of_decide_eq_true h
    exact Aa (fun h=>⟨by show(0:Int)≤(i:Int);omega,hin h⟩) (Aa (fun h=>⟨by show(0:Int)≤(i:Int);omega,by have:=hin h;show(i:Int) <(b.cells.length:Int);omega⟩) Ab))
  refine⟨h1,?_⟩
  have hr:Fs a b=((a.cells.length:Int),(k:Int),a,b):=hx
  rw[hr]
  show CX (a.cells.length:Int) (k:Int) a b=_
  rw[hf,hb',Bsj _ _ hlen]
  congr 1
  exact HV fun i _=>Bool.not_not _
 refine⟨Aa (fun h=>(main (by simpa using h)).1) Ab,?_⟩
 unfold T1 R9
 cases h0:GC a b with
 | true=>
  rw[hk0] at h0
  rw[cond_true]
  cases hk:a.key==b.key with
  |false=>rfl
  |true=>
   rw[hk] at h0
   have hne:a.cells.length≠b.cells.length:=by simpa using h0
   cases he:Agb a.cells b.cells with
   |false=>rfl
   |true=>exact absurd (congrArg List.length (Wb.1 he)) hne
 |false=>
  rw[cond_false,(main h0).2]
  rw[hk0] at h0
  have:(a.key==b.key)=true:=by simpa using(Bool.or_eq_false_iff.1 h0).1
  rw[this,Bool.true_and]
  cases Agb a.cells b.cells<;>rfl
theorem A2d (a0:TRow) (a1:TRow) (hp:∀p∈Xf a0 a1,p):CallOk Try.prog 150 [Ak .row a0,Ak .row a1] 0 [] 1 (Aab a0 a1) 0 (Z9 a0 a1):=by
 have hb:Ai a0.cells.length:=hp _ (List.mem_cons_self ..)
 have h:=A8h a0 a1 (Z8 a0 a1 hb).1
 unfold T2 at h
 rw[(Z8 a0 a1 hb).2] at h
 exact h
def T3:List A→Nat→Objs→Option Bb
 | [y0,y1],nx,o=>match AQ .row y0,AQ .row y1 with
  |some (a0,p0),some (a1,p1)=>some (1,(Aab a0 a1).pk (AF nx),nx+0,AE nx (Z9 a0 a1)++o,p0++(p1++(Xf a0 a1)))
  |_,_=>none
 |_,_,_=>none
theorem Axl:Ft Try.prog 150 T3:=fun args nx o k x nx' o' ps h=>by
 unfold T3 at h
 split at h<;>first|(cases h;done)|skip
 split at h<;>first|(cases h;done)|skip
 rename_i a0 p0 a1 p1 e0 e1
 cases h
 refine⟨fun hp=>?_,_,rfl⟩
 have q0:=fun p hm=>hp p (List.mem_append.2 (.inl hm))
 have r0:=fun p hm=>hp p (List.mem_append.2 (.inr hm))
 have q1:=fun p hm=>r0 p (List.mem_append.2 (.inl hm))
 have r1:=fun p hm=>r0 p (List.mem_append.2 (.inr hm))
 refine Ah (Ag (A2d a0 a1 r1) (Nat.le_refl _) (Ac (Af _ _) (Ac (Af _ _) Ao)) nx o) fun F N R vs hl=>?_
 obtain⟨v0,w0,rfl,h0,hl⟩:=hl.inv
 obtain⟨v1,w1,rfl,h1,hl⟩:=hl.inv
 exact HL.cons (Am e0 q0 h0) (HL.cons (Am e1 q1 h1) (hl))
noncomputable def Bbt:=A7 150 T3 Bbs
theorem Au0:Dd Try.prog Bbt:=Av Axl Auz
abbrev Bi:Type:=(List TRow)×Int×Int×(List TRow)
def Jk (x:Bi):St:=⟨42,2,[(2,.sl .row x.1),(7,.dq 1),(27,.v (.int .i64 x.2.1)),(28,.v (.int .i64 x.2.2.1))],[(1,some (.deep 71 .row x.2.2.2))]⟩
def KO:St→Option Bi
 |⟨42,2,[(2,.sl .row z0),(7,.dq 1),(27,.v (.int .i64 z1)),(28,.v (.int .i64 z2))],[(1,some (.deep 71 .row z3))]⟩=>some (z0,z1,z2,z3)
 |_=>none
theorem W7:∀s x,KO s=some x→s=Jk x:=fun s x h=>by
 unfold KO at h
 split at h
 ·cases h;rfl
 ·cases h
def Qo:Dj:=⟨1,2,[2,7,27,28],[],[(1,1)],[1],[6],[1]⟩
def Ahx:DB:=⟨[],[(0,1)],[2,7,27,28],[0]⟩
def BU (a0:List TRow) (a1:Int) (a2:Int) (a3:List TRow):Bool:=!!decide (a2 <a1)&&!R9 (a3.getD a2.toNat (Ae TC.row)) (a0.getD a2.toNat (Ae TC.row))
def Zm (a0:List TRow) (a1:Int) (a2:Int) (a3:List TRow):Bool:=!!decide (a2 <a1)&&!(BU a0 a1 a2 a3)
def CW (x:Bi):Bi:=(x.1,x.2.1,IntKind.i64.wrap (x.2.2.1+(1:Int)),x.2.2.2)
def CV (x:Bi):Cnd:=some (Zm x.1 x.2.1 x.2.2.1 x.2.2.2)
def NE (x:Bi):List Prop:=[((!!decide (x.2.2.1 <x.2.1))=true→(0:Int)≤x.2.2.1∧x.2.2.1 <(↑x.2.2.2.length:Int)),((!!decide (x.2.2.1 <x.2.1))=true→x.2.2.1.toNat <x.2.2.2.length),((!!decide (x.2.2.1 <x.2.1))=true→(0:Int)≤x.2.2.1∧x.2.2.1 <(↑x.1.length:Int)),((!!decide (x.2.2.1 <x.2.1))=true→x.2.2.1.toNat <x.2.2.2.length),((!!decide (x.2.2.1 <x.2.1))=true→Ai (x.2.2.2.getD x.2.2.1.toNat (Ae TC.row)).2.length)]
def EV (x:Bi):List Prop:=[((!!decide (x.2.2.1 <x.2.1))=true→(0:Int)≤x.2.2.1∧x.2.2.1 <(↑x.2.2.2.length:Int)),((!!decide (x.2.2.1 <x.2.1))=true→(0:Int)≤x.2.2.1∧x.2.2.1 <(↑x.1.length:Int)),((!!decide (x.2.2.1 <x.2.1))=true→Ai (x.2.2.2.getD x.2.2.1.toNat (Ae TC.row)).2.length)]
def MW (x:Bi):Bo:=[(some 0,some (!decide (x.2.2.1 <x.2.1)),⟨42,2,[(6,.dead)],[(1,some (.deep 71 .row x.2.2.2))]⟩),(none,some ((BU x.1 x.2.1 x.2.2.1 x.2.2.2)),⟨42,2,[(6,.v (.bool (false)))],[(1,some (.deep 71 .row x.2.2.2))]⟩)]
def DX (x:Bi):Nat:=(x.2.1 - x.2.2.1).toNat
def Zo (x:Bi):Bi:=Bg CW CV (DX x) x
theorem Aco (a0:List TRow) (a1:Int) (a2:Int) (a3:List TRow):Bz (AA Bbt L0) 9 (Aj Try.prog 94 0) Qo (Jk (a0,a1,a2,a3))=some (NE (a0,a1,a2,a3),MW (a0,a1,a2,a3),CV (a0,a1,a2,a3),Jk (CW (a0,a1,a2,a3))):=by kernel_rfl
theorem Acp (a0:List TRow) (a1:Int) (a2:Int) (a3:List TRow) (hp:∀p∈EV (a0,a1,a2,a3),p):∀p∈NE (a0,a1,a2,a3),p:=by
 have n0:((!!decide (a2 <a1))=true→(0:Int)≤a2∧a2 <(↑a3.length:Int)):=N0 hp
 have n1:((!!decide (a2 <a1))=true→a2.toNat <a3.length):=by intro h0;have g:=n0 h0;omega
 have n2:=N0 (N1 hp)
 have n4:=N0 (N1 (N1 hp))
 exact(Aa n0 (Aa n1 (Aa n2 (Aa n1 (Aa n4 Ab)))))
noncomputable def NF:=H1 (AA Bbt L0) (Aj Try.prog 94 0) Qo Ahx KO DX CW CV EV MW
theorem Zn:∀s b ps outs,NF s=some (b,ps,outs)→Wf s ⟨ps,outs,none⟩∧Bx (AA C0 L0) b s ps outs:=
 Bm (T:=Jk) Au0 AH (u:=9) (by kernel_rfl) (by decide) (fun⟨a0,a1,a2,a3⟩=>Aco a0 a1 a2 a3) (fun⟨a0,a1,a2,a3⟩=>Acp a0 a1 a2 a3) W7 (fun _=>AW (n:=42) rfl) fun _ _=>rfl
noncomputable def Qn:=DP 0 NF L0
theorem Zl:Hr Qn:=A6 Zn AH
def DJ (a0:List TGroup) (a1:List TRow) (a2:List TRow):Bool:=mgE a0 a1 a2 !=(0:Int)||(↑(JC a0 a1 a2).length:Int) !=(↑a2.length:Int)
def DI (a0:List TGroup) (a1:List TRow) (a2:List TRow):Bi:=Zo (a2,(↑(JC a0 a1 a2).length:Int),(0:Int),JC a0 a1 a2)
def OX (a0:List TGroup) (a1:List TRow) (a2:List TRow):Bool:=bif(DJ a0 a1 a2) then false else bif BU (DI a0 a1 a2).fst (DI a0 a1 a2).snd.fst (DI a0 a1 a2).snd.snd.fst (DI a0 a1 a2).snd.snd.snd then false else true
def OY (a0:List TGroup) (a1:List TRow) (a2:List TRow):A:=.v (.bool (OX a0 a1 a2))
def W8 (_a0:List TGroup) (_a1:List TRow) (_a2:List TRow):Objs:=[]
def UR (a0:List TGroup) (a1:List TRow) (a2:List TRow):List Prop:=[(a1.length+a2.length≤(400000:Nat)),((!(DJ a0 a1 a2))=true→AL CW CV EV (DX (a2,(↑(JC a0 a1 a2).length:Int),(0:Int),JC a0 a1 a2)) (a2,(↑(JC a0 a1 a2).length:Int),(0:Int),JC a0 a1 a2))]
theorem Ash (a0:List TGroup) (a1:List TRow) (a2:List TRow):EQ (AA Bbt Qn) 9 94 [.sl .group a0,Ak .rows a1,Ak .rows a2] 0 []=some (1,OY a0 a1 a2,0,W8 a0 a1 a2,[(a1.length+a2.length≤(400000:Nat)),((!(DJ a0 a1 a2))=true→Aj Try.prog (94:FuncId) (0:Nat)=Aj Try.prog (94:FuncId) (0:Nat)),((!(DJ a0 a1 a2))=true→AL CW CV EV (DX (a2,(↑(JC a0 a1 a2).length:Int),(0:Int),JC a0 a1 a2)) (a2,(↑(JC a0 a1 a2).length:Int),(0:Int),JC a0 a1 a2))]):=by kernel_rfl
theorem Axh (a0:List TGroup) (a1:List TRow) (a2:List TRow) (hp:∀p∈UR a0 a1 a2,p):CallOk Try.prog 94 [.sl .group a0,Ak .rows a1,Ak .rows a2] 0 [] 1 (OY a0 a1 a2) 0 (W8 a0 a1 a2):=by
 have n0:=N0 hp
 have n1:((!(DJ a0 a1 a2))=true→Aj Try.prog (94:FuncId) (0:Nat)=Aj Try.prog (94:FuncId) (0:Nat)):=by intros;rfl
 have n2:=N0 (N1 hp)
 exact AI (Aw Au0 Zl) (Ash a0 a1 a2) (Aa n0 (Aa n1 (Aa n2 Ab)))
noncomputable def Cms:=Bbt
theorem Brl:Dd Try.prog Cms:=Au0
end Go.Proofs.Yteebobbhhgmeiaa
