/- made by a program (rowgen.py): ModelOrder: for every input the law returns true, and each argument reads behind the call as it read before. -/
import Derived.Test.YteebobbhhgmeiaaKMof

namespace Go.Proofs.Yteebobbhhgmeiaa
open Go.RowKit
theorem Bbv {X:Type} (mk:Nat→Int→X) (len:Nat) (step:Nat→Int→Int) (P:Nat→Prop) (m c:Int) (s:Bool) (next:X→X) (goes:X→Cnd) (ps:X→List Prop)
  (hs:∀i n,i <len→0≤n→0≤step i n∧(step i n≤m→n+c≤step i n∧P i)) (hc:0≤c)
  (hg:∀i n,i≤len→Bp (goes (mk i n))=(decide (i <len)&&(s||decide (n≤m)))) (hn:∀i n,i <len→0≤n→next (mk i n)=mk (i+1) (step i n))
  (hp:∀i n,i≤len→0≤n→∀p∈ps (mk i n),p):
  ∀(f i:Nat) (n:Int),i≤len→len≤i+f→0≤n→
  AL next goes ps f (mk i n)∧∃k n',A9 next goes f (mk i n)=mk k n'∧0≤n'∧(n'≤m→n+c*((len:Int) - (i:Int))≤n'∧∀j,i≤j→j <len→P j)
 |0,i,n,hi,hf,h0=>by
  obtain rfl:i=len:=by omega
  have hb:=hg i n (Nat.le_refl _)
  rw[decide_eq_false (Nat.lt_irrefl _),Bool.false_and] at hb
  exact⟨⟨hp i n hi h0,hb⟩,i,n,rfl,h0,fun _=>⟨by rw[Int.sub_self,Int.mul_zero];omega,fun j h1 h2=>by omega⟩⟩
 | f+1,i,n,hi,hf,h0=>by
  have hb:=hg i n hi
  cases hv:Bp (goes (mk i n)) with
  | false=>
   have e:A9 next goes (f+1) (mk i n)=mk i n:=by
    show(bif Bp (goes (mk i n)) then _ else mk i n)=_
    rw[hv];rfl
   rw[e]
   refine⟨⟨hp i n hi h0,fun h=>by rw[hv] at h;cases h⟩,i,n,rfl,h0,fun hm=>?_⟩
   rw[hv] at hb
   rw[decide_eq_true hm,Bool.or_true,Bool.and_true] at hb
   have:¬i <len:=of_decide_eq_false hb.symm
   obtain rfl:i=len:=by omega
   exact⟨by rw[Int.sub_self,Int.mul_zero];omega,fun j h1 h2=>by omega⟩
  | true=>
   rw[hv] at hb
   have hi':i <len:=by
    cases h:decide (i <len) with
    |true=>exact of_decide_eq_true h
    |false=>rw[h] at hb;cases hb
   obtain⟨s1,s2⟩:=hs i n hi' h0
   have e:A9 next goes (f+1) (mk i n)=A9 next goes f (mk (i+1) (step i n)):=by
    show(bif Bp (goes (mk i n)) then A9 next goes f (next (mk i n)) else mk i n)=_
    rw[hv,hn i n hi' h0];rfl
   obtain⟨g1,k,n',g2,g3,g4⟩:=Bbv mk len step P m c s next goes ps hs hc hg hn hp f (i+1) (step i n) hi' (by omega) s1
   rw[e]
   refine⟨⟨hp i n hi h0,fun _=>by rw[hn i n hi' h0];exact g1⟩,k,n',g2,g3,fun hm=>?_⟩
   obtain⟨a1,a2⟩:=g4 hm
   have hpos:0≤c*((len:Int) - ((i+1:Nat):Int)):=Int.mul_nonneg hc (by omega)
   obtain⟨b1,b2⟩:=s2 (by omega)
   have hd:c*((len:Int) - (i:Int))=c*((len:Int) - ((i+1:Nat):Int))+c:=by
    rw[show((len:Int) - (i:Int))=((len:Int) - ((i+1:Nat):Int))+1 by omega,Int.mul_add,Int.mul_one]
   refine⟨by rw[hd];omega,fun j h1 h2=>?_⟩
   by_cases e:j=i
   ·subst e;exact b2
   ·exact a2 j (by omega) h2
theorem VW {X:Type} (mk:Nat→Int→X) (len:Nat) (step:Nat→Int→Int) (P:Nat→Prop) (m c:Int) (s:Bool) (next:X→X) (goes:X→Cnd) (ps:X→List Prop) (f:Nat) (x:X) (n0:Int) (hx:x=mk 0 n0) (hf:len≤f) (h0:0≤n0)
  (hs:∀i n,i <len→0≤n→0≤step i n∧(step i n≤m→n+c≤step i n∧P i)) (hc:0≤c)
  (hg:∀i n,i≤len→Bp (goes (mk i n))=(decide (i <len)&&(s||decide (n≤m)))) (hn:∀i n,i <len→0≤n→next (mk i n)=mk (i+1) (step i n))
  (hp:∀i n,i≤len→0≤n→∀p∈ps (mk i n),p):
  AL next goes ps f x∧∃k n',A9 next goes f x=mk k n'∧0≤n'∧(n'≤m→n0+c*(len:Int)≤n'∧∀j,j <len→P j):=by
 subst hx
 obtain⟨h1,k,n',h2,h3,h4⟩:=Bbv mk len step P m c s next goes ps hs hc hg hn hp f 0 n0 (Nat.zero_le _) (by omega) h0
 refine⟨h1,k,n',h2,h3,fun h=>?_⟩
 obtain⟨h5,h6⟩:=h4 h
 rw[show((len:Int) - ((0:Nat):Int))=(len:Int) by omega] at h5
 exact⟨h5,fun j hj=>h6 j (Nat.zero_le _) hj⟩
theorem RY {α:Type} {l:List α} {d:α} {P:α→Prop} (h:∀j,j <l.length→P (l.getD j d)):∀x∈l,P x:=fun x hx=>by
 obtain⟨j,hj,rfl⟩:=List.mem_iff_getElem.1 hx
 have:=h j hj
 rw[List.getD_eq_getElem?_getD,List.getElem?_eq_getElem hj] at this
 exact this
end Go.Proofs.Yteebobbhhgmeiaa
namespace Go.Proofs.Yteebobbhhgmeiaa
open Go.RowKit
noncomputable def B14:=A5 111 Ze Cl
theorem Bv5:Df Try.prog B14:=Av Apk Bbf
noncomputable def Akb:=A5 25 WY B14
theorem Tz:Df Try.prog Akb:=Av A11 Bv5
abbrev Co:Type:=(List TChange)×Int×Int×Int
def Lt (x:Co):St:=⟨122,0,[(1,.sl .change x.1),(7,.v (.int .i64 x.2.1)),(8,.v (.int .i64 x.2.2.1)),(9,.v (.int .i64 x.2.2.2))],[]⟩
def Nq:St→Option Co
 |⟨122,0,[(1,.sl .change z0),(7,.v (.int .i64 z1)),(8,.v (.int .i64 z2)),(9,.v (.int .i64 z3))],[]⟩=>some (z0,z1,z2,z3)
 |_=>none
theorem Ahe:∀s x,Nq s=some x→s=Lt x:=fun s x h=>by
 unfold Nq at h
 split at h
 ·cases h;rfl
 ·cases h
def WL:De:=⟨0,0,[1,7,8,9],[],[],[],[7],[]⟩
def Awt:Dy:=⟨[],[],[1,7,8,9],[]⟩
def Br (a0:List TChange) (a1:Int) (a2:Int) (a3:Int):Bool:=!!(decide (a3 <(↑(a0.getD a2.toNat (Ae TC.change)).5.length:Int))&&decide (a1≤(6000:Int)))
def Mi (a0:List TChange) (a1:Int) (a2:Int) (a3:Int):Int:=Ax (Ax (Ax a1 (10:Int) (6000:Int)) (↑((a0.getD a2.toNat (Ae TC.change)).5.getD a3.toNat (Ae TC.write)).1.size:Int) (6000:Int)) (↑((a0.getD a2.toNat (Ae TC.change)).5.getD a3.toNat (Ae TC.write)).4.size:Int) (6000:Int)
def Ahd (a0:List TChange) (a1:Int) (a2:Int) (a3:Int):Bool:=!(decide (a3 <(↑(a0.getD a2.toNat (Ae TC.change)).5.length:Int))&&decide (a1≤(6000:Int)))
def El (x:Co):Co:=(x.1,Mi x.1 x.2.1 x.2.2.1 x.2.2.2,x.2.2.1,IntKind.i64.wrap (x.2.2.2+(1:Int)))
def Ek (x:Co):Cnd:=some ((Br x.1 x.2.1 x.2.2.1 x.2.2.2))
def Sz (x:Co):List Prop:=[((0:Int)≤x.2.2.1∧x.2.2.1 <(↑x.1.length:Int)),((Br x.1 x.2.1 x.2.2.1 x.2.2.2)=true→(0:Int)≤x.2.2.1∧x.2.2.1 <(↑x.1.length:Int)),((Br x.1 x.2.1 x.2.2.1 x.2.2.2)=true→(0:Int)≤x.2.2.2∧x.2.2.2 <(↑(x.1.getD x.2.2.1.toNat (Ae TC.change)).5.length:Int)),((Br x.1 x.2.1 x.2.2.1 x.2.2.2)=true→(0:Int)≤x.2.2.1∧x.2.2.1 <(↑x.1.length:Int)),((Br x.1 x.2.1 x.2.2.1 x.2.2.2)=true→(0:Int)≤x.2.2.2∧x.2.2.2 <(↑(x.1.getD x.2.2.1.toNat (Ae TC.change)).5.length:Int))]
def Hx (x:Co):List Prop:=[((0:Int)≤x.2.2.1∧x.2.2.1 <(↑x.1.length:Int)),((Br x.1 x.2.1 x.2.2.1 x.2.2.2)=true→(0:Int)≤x.2.2.1∧x.2.2.1 <(↑x.1.length:Int)),((Br x.1 x.2.1 x.2.2.1 x.2.2.2)=true→(0:Int)≤x.2.2.2∧x.2.2.2 <(↑(x.1.getD x.2.2.1.toNat (Ae TC.change)).5.length:Int))]
def Qh (x:Co):Bl:=[(some 2,some (Ahd x.1 x.2.1 x.2.2.1 x.2.2.2),⟨122,0,[(7,.v (.int .i64 x.2.1))],[]⟩)]
def FM (x:Co):Nat:=((↑(x.1.getD x.2.2.1.toNat (Ae TC.change)).5.length:Int) - x.2.2.2).toNat
def GK (x:Co):Co:=A9 El Ek (FM x) x
set_option maxRecDepth 100000 in
theorem Asa (a0:List TChange) (a1:Int) (a2:Int) (a3:Int):Bx (AA Akb L0) 9 (Aj Try.prog 45 2) WL (Lt (a0,a1,a2,a3))=some (Sz (a0,a1,a2,a3),Qh (a0,a1,a2,a3),Ek (a0,a1,a2,a3),Lt (El (a0,a1,a2,a3))):=by kernel_rfl
set_option maxRecDepth 100000 in
theorem Asb (a0:List TChange) (a1:Int) (a2:Int) (a3:Int) (hp:∀p∈Hx (a0,a1,a2,a3),p):∀p∈Sz (a0,a1,a2,a3),p:=by
 have n0:=N0 hp
 have n1:((Br a0 a1 a2 a3)=true→(0:Int)≤a2∧a2 <(↑a0.length:Int)):=N0 (N1 hp)
 have n2:((Br a0 a1 a2 a3)=true→(0:Int)≤a3∧a3 <(↑(a0.getD a2.toNat (Ae TC.change)).5.length:Int)):=N0 (N1 (N1 hp))
 exact(Aa n0 (Aa n1 (Aa n2 (Aa n1 (Aa n2 Ab)))))
noncomputable def SA:=HU (AA Akb L0) (Aj Try.prog 45 2) WL Awt Nq FM El Ek Hx Qh
theorem Alf:∀s b ps outs,SA s=some (b,ps,outs)→Wf s ⟨ps,outs,none⟩∧Bs (AA C0 L0) b s ps outs:=
 Bi (T:=Lt) Tz AG (u:=9) (by kernel_rfl) (by decide) (fun⟨a0,a1,a2,a3⟩=>Asa a0 a1 a2 a3) (fun⟨a0,a1,a2,a3⟩=>Asb a0 a1 a2 a3) Ahe (fun _=>AR (n:=122) rfl) fun _ _=>rfl
noncomputable def Ls:=DG 2 SA L0
theorem Sy:Hs Ls:=A3 Alf AG
abbrev Cm:Type:=(List TChange)×Int×Int
def Lr (x:Cm):St:=⟨122,0,[(1,.sl .change x.1),(7,.v (.int .i64 x.2.1)),(8,.v (.int .i64 x.2.2))],[]⟩
def Np:St→Option Cm
 |⟨122,0,[(1,.sl .change z0),(7,.v (.int .i64 z1)),(8,.v (.int .i64 z2))],[]⟩=>some (z0,z1,z2)
 |_=>none
theorem Ahc:∀s x,Np s=some x→s=Lr x:=fun s x h=>by
 unfold Np at h
 split at h
 ·cases h;rfl
 ·cases h
def WK:De:=⟨0,0,[1,7,8],[],[],[],[7],[]⟩
def Aws:Dy:=⟨[],[],[1,7,8],[]⟩
def DA (a0:List TChange) (a1:Int) (a2:Int):Bool:=!!(decide (a2 <(↑a0.length:Int))&&decide (a1≤(6000:Int)))
def J4 (a0:List TChange) (a1:Int) (a2:Int):Int:=(GK (a0,Ax a1 (10:Int) (6000:Int),a2,(0:Int))).snd.fst
def Ald (a0:List TChange) (a1:Int) (a2:Int):Bool:=!(decide (a2 <(↑a0.length:Int))&&decide (a1≤(6000:Int)))
def Ej (x:Cm):Cm:=(x.1,J4 x.1 x.2.1 x.2.2,IntKind.i64.wrap (x.2.2+(1:Int)))
def Ei (x:Cm):Cnd:=some ((DA x.1 x.2.1 x.2.2))
def Sv (x:Cm):List Prop:=[((DA x.1 x.2.1 x.2.2)=true→Aj Try.prog (45:FuncId) (2:Nat)=Aj Try.prog (45:FuncId) (2:Nat)),((DA x.1 x.2.1 x.2.2)=true→AL El Ek Hx (FM (x.1,Ax x.2.1 (10:Int) (6000:Int),x.2.2,(0:Int))) (x.1,Ax x.2.1 (10:Int) (6000:Int),x.2.2,(0:Int)))]
def Hw (x:Cm):List Prop:=[((DA x.1 x.2.1 x.2.2)=true→AL El Ek Hx (FM (x.1,Ax x.2.1 (10:Int) (6000:Int),x.2.2,(0:Int))) (x.1,Ax x.2.1 (10:Int) (6000:Int),x.2.2,(0:Int)))]
def Qg (x:Cm):Bl:=[(some 0,some (Ald x.1 x.2.1 x.2.2),⟨122,0,[(7,.v (.int .i64 x.2.1))],[]⟩)]
def FL (x:Cm):Nat:=((↑x.1.length:Int) - x.2.2).toNat
def Dh (x:Cm):Cm:=A9 Ej Ei (FL x) x
set_option maxRecDepth 100000 in
theorem Ar8 (a0:List TChange) (a1:Int) (a2:Int):Bx (AA Akb Ls) 9 (Aj Try.prog 45 0) WK (Lr (a0,a1,a2))=some (Sv (a0,a1,a2),Qg (a0,a1,a2),Ei (a0,a1,a2),Lr (Ej (a0,a1,a2))):=by kernel_rfl
set_option maxRecDepth 100000 in
theorem Ar9 (a0:List TChange) (a1:Int) (a2:Int) (hp:∀p∈Hw (a0,a1,a2),p):∀p∈Sv (a0,a1,a2),p:=by
 have n0:((DA a0 a1 a2)=true→Aj Try.prog (45:FuncId) (2:Nat)=Aj Try.prog (45:FuncId) (2:Nat)):=by intros;rfl
 have n1:=N0 hp
 exact(Aa n0 (Aa n1 Ab))
noncomputable def Sw:=HU (AA Akb Ls) (Aj Try.prog 45 0) WK Aws Np FL Ej Ei Hw Qg
theorem Ale:∀s b ps outs,Sw s=some (b,ps,outs)→Wf s ⟨ps,outs,none⟩∧Bs (AA C0 L0) b s ps outs:=
 Bi (T:=Lr) Tz Sy (u:=9) (by kernel_rfl) (by decide) (fun⟨a0,a1,a2⟩=>Ar8 a0 a1 a2) (fun⟨a0,a1,a2⟩=>Ar9 a0 a1 a2) Ahc (fun _=>AR (n:=122) rfl) fun _ _=>rfl
noncomputable def Lq:=DG 0 Sw Ls
theorem Su:Hs Lq:=A3 Ale Sy
abbrev Ct:Type:=Int×(List TRow)×Int×Int
def Ly (x:Ct):St:=⟨122,0,[(7,.v (.int .i64 x.1)),(11,.sl .row x.2.1),(12,.v (.int .i64 x.2.2.1)),(13,.v (.int .i64 x.2.2.2))],[]⟩
def Nt:St→Option Ct
 |⟨122,0,[(7,.v (.int .i64 z0)),(11,.sl .row z1),(12,.v (.int .i64 z2)),(13,.v (.int .i64 z3))],[]⟩=>some (z0,z1,z2,z3)
 |_=>none
theorem Ahh:∀s x,Nt s=some x→s=Ly x:=fun s x h=>by
 unfold Nt at h
 split at h
 ·cases h;rfl
 ·cases h
def WP:De:=⟨0,0,[7,11,12,13],[],[],[],[7],[]⟩
def Aww:Dy:=⟨[],[],[7,11,12,13],[]⟩
def DD (a0:Int) (a1:List TRow) (a2:Int) (a3:Int):Bool:=!!(decide (a3 <(↑(a1.getD a2.toNat (Ae TC.row)).2.length:Int))&&decide (a0≤(6000:Int)))
def Mk (a0:Int) (a1:List TRow) (a2:Int) (a3:Int):Int:=Ax (Ax a0 (10:Int) (6000:Int)) (↑((a1.getD a2.toNat (Ae TC.row)).2.getD a3.toNat (Ae TC.cell)).4.size:Int) (6000:Int)
def Alk (a0:Int) (a1:List TRow) (a2:Int) (a3:Int):Bool:=!(decide (a3 <(↑(a1.getD a2.toNat (Ae TC.row)).2.length:Int))&&decide (a0≤(6000:Int)))
def DF (x:Ct):Ct:=(Mk x.1 x.2.1 x.2.2.1 x.2.2.2,x.2.1,x.2.2.1,IntKind.i64.wrap (x.2.2.2+(1:Int)))
def DE (x:Ct):Cnd:=some ((DD x.1 x.2.1 x.2.2.1 x.2.2.2))
def SH (x:Ct):List Prop:=[((0:Int)≤x.2.2.1∧x.2.2.1 <(↑x.2.1.length:Int)),((DD x.1 x.2.1 x.2.2.1 x.2.2.2)=true→(0:Int)≤x.2.2.1∧x.2.2.1 <(↑x.2.1.length:Int)),((DD x.1 x.2.1 x.2.2.1 x.2.2.2)=true→(0:Int)≤x.2.2.2∧x.2.2.2 <(↑(x.2.1.getD x.2.2.1.toNat (Ae TC.row)).2.length:Int))]
def F6 (x:Ct):List Prop:=[((0:Int)≤x.2.2.1∧x.2.2.1 <(↑x.2.1.length:Int)),((DD x.1 x.2.1 x.2.2.1 x.2.2.2)=true→(0:Int)≤x.2.2.1∧x.2.2.1 <(↑x.2.1.length:Int)),((DD x.1 x.2.1 x.2.2.1 x.2.2.2)=true→(0:Int)≤x.2.2.2∧x.2.2.2 <(↑(x.2.1.getD x.2.2.1.toNat (Ae TC.row)).2.length:Int))]
def Qk (x:Ct):Bl:=[(some 8,some (Alk x.1 x.2.1 x.2.2.1 x.2.2.2),⟨122,0,[(7,.v (.int .i64 x.1))],[]⟩)]
def Er (x:Ct):Nat:=((↑(x.2.1.getD x.2.2.1.toNat (Ae TC.row)).2.length:Int) - x.2.2.2).toNat
def GM (x:Ct):Ct:=A9 DF DE (Er x) x
set_option maxRecDepth 100000 in
theorem Asg (a0:Int) (a1:List TRow) (a2:Int) (a3:Int):Bx (AA Akb Lq) 9 (Aj Try.prog 45 8) WP (Ly (a0,a1,a2,a3))=some (SH (a0,a1,a2,a3),Qk (a0,a1,a2,a3),DE (a0,a1,a2,a3),Ly (DF (a0,a1,a2,a3))):=by kernel_rfl
set_option maxRecDepth 100000 in
theorem Ash (a0:Int) (a1:List TRow) (a2:Int) (a3:Int) (hp:∀p∈F6 (a0,a1,a2,a3),p):∀p∈SH (a0,a1,a2,a3),p:=by
 have n0:=N0 hp
 have n1:=N0 (N1 hp)
 have n2:=N0 (N1 (N1 hp))
 exact(Aa n0 (Aa n1 (Aa n2 Ab)))
noncomputable def SI:=HU (AA Akb Lq) (Aj Try.prog 45 8) WP Aww Nt Er DF DE F6 Qk
theorem All:∀s b ps outs,SI s=some (b,ps,outs)→Wf s ⟨ps,outs,none⟩∧Bs (AA C0 L0) b s ps outs:=
 Bi (T:=Ly) Tz Su (u:=9) (by kernel_rfl) (by decide) (fun⟨a0,a1,a2,a3⟩=>Asg a0 a1 a2 a3) (fun⟨a0,a1,a2,a3⟩=>Ash a0 a1 a2 a3) Ahh (fun _=>AR (n:=122) rfl) fun _ _=>rfl
noncomputable def Lx:=DG 8 SI Lq
theorem SG:Hs Lx:=A3 All Su
abbrev Cr:Type:=Int×(List TRow)×Int
def Lw (x:Cr):St:=⟨122,0,[(7,.v (.int .i64 x.1)),(11,.sl .row x.2.1),(12,.v (.int .i64 x.2.2))],[]⟩
def Ns:St→Option Cr
 |⟨122,0,[(7,.v (.int .i64 z0)),(11,.sl .row z1),(12,.v (.int .i64 z2))],[]⟩=>some (z0,z1,z2)
 |_=>none
theorem Ahg:∀s x,Ns s=some x→s=Lw x:=fun s x h=>by
 unfold Ns at h
 split at h
 ·cases h;rfl
 ·cases h
def WO:De:=⟨0,0,[7,11,12],[],[],[],[7],[]⟩
def Awv:Dy:=⟨[],[],[7,11,12],[]⟩
def BR (a0:Int) (a1:List TRow) (a2:Int):Bool:=!!(decide (a2 <(↑a1.length:Int))&&decide (a0≤(6000:Int)))
def J6 (a0:Int) (a1:List TRow) (a2:Int):Int:=(GM (Ax (Ax a0 (10:Int) (6000:Int)) (↑(a1.getD a2.toNat (Ae TC.row)).1.size:Int) (6000:Int),a1,a2,(0:Int))).fst
def Ali (a0:Int) (a1:List TRow) (a2:Int):Bool:=!(decide (a2 <(↑a1.length:Int))&&decide (a0≤(6000:Int)))
def DC (x:Cr):Cr:=(J6 x.1 x.2.1 x.2.2,x.2.1,IntKind.i64.wrap (x.2.2+(1:Int)))
def DB (x:Cr):Cnd:=some ((BR x.1 x.2.1 x.2.2))
def SE (x:Cr):List Prop:=[((BR x.1 x.2.1 x.2.2)=true→(0:Int)≤x.2.2∧x.2.2 <(↑x.2.1.length:Int)),((BR x.1 x.2.1 x.2.2)=true→Aj Try.prog (45:FuncId) (8:Nat)=Aj Try.prog (45:FuncId) (8:Nat)),((BR x.1 x.2.1 x.2.2)=true→AL DF DE F6 (Er (Ax (Ax x.1 (10:Int) (6000:Int)) (↑(x.2.1.getD x.2.2.toNat (Ae TC.row)).1.size:Int) (6000:Int),x.2.1,x.2.2,(0:Int))) (Ax (Ax x.1 (10:Int) (6000:Int)) (↑(x.2.1.getD x.2.2.toNat (Ae TC.row)).1.size:Int) (6000:Int),x.2.1,x.2.2,(0:Int)))]
def F5 (x:Cr):List Prop:=[((BR x.1 x.2.1 x.2.2)=true→(0:Int)≤x.2.2∧x.2.2 <(↑x.2.1.length:Int)),((BR x.1 x.2.1 x.2.2)=true→AL DF DE F6 (Er (Ax (Ax x.1 (10:Int) (6000:Int)) (↑(x.2.1.getD x.2.2.toNat (Ae TC.row)).1.size:Int) (6000:Int),x.2.1,x.2.2,(0:Int))) (Ax (Ax x.1 (10:Int) (6000:Int)) (↑(x.2.1.getD x.2.2.toNat (Ae TC.row)).1.size:Int) (6000:Int),x.2.1,x.2.2,(0:Int)))]
def Qj (x:Cr):Bl:=[(some 6,some (Ali x.1 x.2.1 x.2.2),⟨122,0,[(7,.v (.int .i64 x.1))],[]⟩)]
def Ep (x:Cr):Nat:=((↑x.2.1.length:Int) - x.2.2).toNat
def GL (x:Cr):Cr:=A9 DC DB (Ep x) x
set_option maxRecDepth 100000 in
theorem Ase (a0:Int) (a1:List TRow) (a2:Int):Bx (AA Akb Lx) 9 (Aj Try.prog 45 6) WO (Lw (a0,a1,a2))=some (SE (a0,a1,a2),Qj (a0,a1,a2),DB (a0,a1,a2),Lw (DC (a0,a1,a2))):=by kernel_rfl
set_option maxRecDepth 100000 in
theorem Asf (a0:Int) (a1:List TRow) (a2:Int) (hp:∀p∈F5 (a0,a1,a2),p):∀p∈SE (a0,a1,a2),p:=by
 have n0:=N0 hp
 have n1:((BR a0 a1 a2)=true→Aj Try.prog (45:FuncId) (8:Nat)=Aj Try.prog (45:FuncId) (8:Nat)):=by intros;rfl
 have n2:=N0 (N1 hp)
 exact(Aa n0 (Aa n1 (Aa n2 Ab)))
noncomputable def SF:=HU (AA Akb Lx) (Aj Try.prog 45 6) WO Awv Ns Ep DC DB F5 Qj
theorem Alj:∀s b ps outs,SF s=some (b,ps,outs)→Wf s ⟨ps,outs,none⟩∧Bs (AA C0 L0) b s ps outs:=
 Bi (T:=Lw) Tz SG (u:=9) (by kernel_rfl) (by decide) (fun⟨a0,a1,a2⟩=>Ase a0 a1 a2) (fun⟨a0,a1,a2⟩=>Asf a0 a1 a2) Ahg (fun _=>AR (n:=122) rfl) fun _ _=>rfl
noncomputable def Lv:=DG 6 SF Lx
theorem SD:Hs Lv:=A3 Alj SG
abbrev Cp:Type:=Int×(List (List TRow))×Int×Int
def Lu (x:Cp):St:=⟨122,0,[(7,.v (.int .i64 x.1)),(67,.sl .rows x.2.1),(68,.v (.int .i64 x.2.2.1)),(69,.v (.int .i64 x.2.2.2))],[]⟩
def Nr:St→Option Cp
 |⟨122,0,[(7,.v (.int .i64 z0)),(67,.sl .rows z1),(68,.v (.int .i64 z2)),(69,.v (.int .i64 z3))],[]⟩=>some (z0,z1,z2,z3)
 |_=>none
theorem Ahf:∀s x,Nr s=some x→s=Lu x:=fun s x h=>by
 unfold Nr at h
 split at h
 ·cases h;rfl
 ·cases h
def WN:De:=⟨0,0,[7,67,68,69],[],[],[],[7],[]⟩
def Awu:Dy:=⟨[],[],[7,67,68,69],[]⟩
def J5 (a0:Int) (a1:List (List TRow)) (_a2:Int) (a3:Int):Int:=(GL (a0,a1.getD a3.toNat (Ae TC.rows),(0:Int))).fst
def Eo (x:Cp):Cp:=(J5 x.1 x.2.1 x.2.2.1 x.2.2.2,x.2.1,x.2.2.1,IntKind.i64.wrap (x.2.2.2+(1:Int)))
def Em (x:Cp):Cnd:=some (!!decide (x.2.2.2 <x.2.2.1))
def SB (x:Cp):List Prop:=[((!!decide (x.2.2.2 <x.2.2.1))=true→(0:Int)≤x.2.2.2∧x.2.2.2 <(↑x.2.1.length:Int)),((!!decide (x.2.2.2 <x.2.2.1))=true→Aj Try.prog (45:FuncId) (6:Nat)=Aj Try.prog (45:FuncId) (6:Nat)),((!!decide (x.2.2.2 <x.2.2.1))=true→AL DC DB F5 (Ep (x.1,x.2.1.getD x.2.2.2.toNat (Ae TC.rows),(0:Int))) (x.1,x.2.1.getD x.2.2.2.toNat (Ae TC.rows),(0:Int)))]
def Hy (x:Cp):List Prop:=[((!!decide (x.2.2.2 <x.2.2.1))=true→(0:Int)≤x.2.2.2∧x.2.2.2 <(↑x.2.1.length:Int)),((!!decide (x.2.2.2 <x.2.2.1))=true→AL DC DB F5 (Ep (x.1,x.2.1.getD x.2.2.2.toNat (Ae TC.rows),(0:Int))) (x.1,x.2.1.getD x.2.2.2.toNat (Ae TC.rows),(0:Int)))]
def Qi (x:Cp):Bl:=[(some 4,some (!decide (x.2.2.2 <x.2.2.1)),⟨122,0,[(7,.v (.int .i64 x.1))],[]⟩)]
def FN (x:Cp):Nat:=(x.2.2.1 - x.2.2.2).toNat
def Mj (x:Cp):Cp:=A9 Eo Em (FN x) x
set_option maxRecDepth 100000 in
theorem Asc (a0:Int) (a1:List (List TRow)) (a2:Int) (a3:Int):Bx (AA Akb Lv) 9 (Aj Try.prog 45 4) WN (Lu (a0,a1,a2,a3))=some (SB (a0,a1,a2,a3),Qi (a0,a1,a2,a3),Em (a0,a1,a2,a3),Lu (Eo (a0,a1,a2,a3))):=by kernel_rfl
set_option maxRecDepth 100000 in
theorem Asd (a0:Int) (a1:List (List TRow)) (a2:Int) (a3:Int) (hp:∀p∈Hy (a0,a1,a2,a3),p):∀p∈SB (a0,a1,a2,a3),p:=by
 have n0:=N0 hp
 have n1:((!!decide (a3 <a2))=true→Aj Try.prog (45:FuncId) (6:Nat)=Aj Try.prog (45:FuncId) (6:Nat)):=by intros;rfl
 have n2:=N0 (N1 hp)
 exact(Aa n0 (Aa n1 (Aa n2 Ab)))
noncomputable def SC:=HU (AA Akb Lv) (Aj Try.prog 45 4) WN Awu Nr FN Eo Em Hy Qi
theorem Alh:∀s b ps outs,SC s=some (b,ps,outs)→Wf s ⟨ps,outs,none⟩∧Bs (AA C0 L0) b s ps outs:=
 Bi (T:=Lu) Tz SD (u:=9) (by kernel_rfl) (by decide) (fun⟨a0,a1,a2,a3⟩=>Asc a0 a1 a2 a3) (fun⟨a0,a1,a2,a3⟩=>Asd a0 a1 a2 a3) Ahf (fun _=>AR (n:=122) rfl) fun _ _=>rfl
noncomputable def WM:=DG 4 SC Lv
theorem Alg:Hs WM:=A3 Alh SD
def M2 (a0:List TGroup) (a1:List TChange) (a2:List (List TRow)):Bool:=decide ((Mj ((Dh (a1,Ax (0:Int) (↑a0.length:Int) (6000:Int),(0:Int))).snd.fst,a2,(↑a2.length:Int),(0:Int))).fst≤(6000:Int))
def Ao1 (a0:List TGroup) (a1:List TChange) (a2:List (List TRow)):A:=.v (.bool (M2 a0 a1 a2))
def Ao0 (_a0:List TGroup) (_a1:List TChange) (_a2:List (List TRow)):Objs:=[]
def Ahj (a0:List TGroup) (a1:List TChange) (a2:List (List TRow)):List Prop:=[(AL Ej Ei Hw (FL (a1,Ax (0:Int) (↑a0.length:Int) (6000:Int),(0:Int))) (a1,Ax (0:Int) (↑a0.length:Int) (6000:Int),(0:Int))),(AL Eo Em Hy (FN ((Dh (a1,Ax (0:Int) (↑a0.length:Int) (6000:Int),(0:Int))).snd.fst,a2,(↑a2.length:Int),(0:Int))) ((Dh (a1,Ax (0:Int) (↑a0.length:Int) (6000:Int),(0:Int))).snd.fst,a2,(↑a2.length:Int),(0:Int)))]
set_option maxRecDepth 100000 in
theorem A7r (a0:List TGroup) (a1:List TChange) (a2:List (List TRow)):EU (AA Akb WM) 9 45 [.sl .group a0,.sl .change a1,.sl .rows a2] 0 []=some (1,Ao1 a0 a1 a2,0,Ao0 a0 a1 a2,[(Aj Try.prog (45:FuncId) (0:Nat)=Aj Try.prog (45:FuncId) (0:Nat)),(AL Ej Ei Hw (FL (a1,Ax (0:Int) (↑a0.length:Int) (6000:Int),(0:Int))) (a1,Ax (0:Int) (↑a0.length:Int) (6000:Int),(0:Int))),(Aj Try.prog (45:FuncId) (4:Nat)=Aj Try.prog (45:FuncId) (4:Nat)),(AL Eo Em Hy (FN ((Dh (a1,Ax (0:Int) (↑a0.length:Int) (6000:Int),(0:Int))).snd.fst,a2,(↑a2.length:Int),(0:Int))) ((Dh (a1,Ax (0:Int) (↑a0.length:Int) (6000:Int),(0:Int))).snd.fst,a2,(↑a2.length:Int),(0:Int)))]):=by kernel_rfl
set_option maxRecDepth 100000 in
theorem Bdt (a0:List TGroup) (a1:List TChange) (a2:List (List TRow)) (hp:∀p∈Ahj a0 a1 a2,p):CallOk Try.prog 45 [.sl .group a0,.sl .change a1,.sl .rows a2] 0 [] 1 (Ao1 a0 a1 a2) 0 (Ao0 a0 a1 a2):=by
 have n1:=N0 hp
 have n3:=N0 (N1 hp)
 exact AH (Aw Tz Alg) (A7r a0 a1 a2) (Aa rfl (Aa n1 (Aa rfl (Aa n3 Ab))))
def Ahk (a0:List TGroup) (a1:List TChange) (a2:List (List TRow)):A:=.v (.bool (M2 a0 a1 a2))
def Ahi (_a0:List TGroup) (_a1:List TChange) (_a2:List (List TRow)):Objs:=[]
def UF (c:TChange):Prop:=Az c.writes.length∧∀w∈c.writes,Az w.key.size∧Az w.value.size
def Ajz (c:TChange):Prop:=c.writes.length≤6000∧∀w∈c.writes,w.key.size≤6000∧w.value.size≤6000
def Z4 (a0:List TGroup) (a1:List TChange) (a2:List (List TRow)):List Prop:=[Az a0.length∧(Az a1.length∧∀c∈a1,UF c)∧Az a2.length∧∀x∈a2,Az x.length∧∀r∈x,YN r]
theorem Arq {n k:Int} (hn:0≤n) (hk:0≤k∧k≤9223372036854775807):0≤Ax n k 6000∧(Ax n k 6000≤6000→n+k≤Ax n k 6000∧n+k≤6000):=by
 obtain⟨h1,h2,h3⟩:=Au9 (n:=n) (k:=k) (m:=6000) hn hk (by omega)
 exact⟨h2,fun h=>⟨by rw[h3 (h1 h)];omega,h1 h⟩⟩
theorem A12 (rows:List TRow) (i:Nat) (hi:i <rows.length) (n0:Int) (h0:0≤n0) (hl:Az (rows.getD i (Ae TC.row)).cells.length) (hw:∀c∈(rows.getD i (Ae TC.row)).cells,Az c.value.size):
  AL DF DE F6 (Er (n0,rows,(i:Int),0)) (n0,rows,(i:Int),0)∧
  0≤(GM (n0,rows,(i:Int),0)).fst∧((GM (n0,rows,(i:Int),0)).fst≤6000→n0+10*((rows.getD i (Ae TC.row)).cells.length:Int)≤(GM (n0,rows,(i:Int),0)).fst∧∀c∈(rows.getD i (Ae TC.row)).cells,c.value.size≤6000):=by
 generalize hcs:(rows.getD i (Ae TC.row)).cells=cs at*
 have hcs2:(rows.getD i (Ae TC.row)).2=cs:=hcs
 have hgo:∀(k:Nat) (n:Int),DD n rows (i:Int) (k:Int)=(decide (k <cs.length)&&(false||decide (n≤6000))):=fun k n=>by
  unfold DD
  rw[Int.toNat_natCast,hcs2,nn,MA,Bool.false_or]
 unfold Az at hl
 obtain⟨h1,k,n',hx,h2,h3⟩:=VW (fun k n=>((n,rows,(i:Int),(k:Int)):Ct)) cs.length (fun k n=>Ax (Ax n 10 6000) ((cs.getD k (Ae TC.cell)).4.size:Int) 6000) (fun k=>(cs.getD k (Ae TC.cell)).value.size≤6000) 6000 10 false DF DE F6 (Er (n0,rows,(i:Int),0)) (n0,rows,(i:Int),0) n0 rfl
  (by show cs.length≤(((rows.getD ((i:Int)).toNat (Ae TC.row)).2.length:Int) - 0).toNat;rw[Int.toNat_natCast,hcs2];omega) h0
  (fun k n hk hn=>by
   obtain⟨a1,a2⟩:=Arq (k:=10) hn (by omega)
   obtain⟨b1,b2⟩:=Arq a1 (Abv (hw _ (getD_in cs (Ae TC.cell) k hk)))
   refine⟨b1,fun h=>?_⟩
   obtain⟨c1,c2⟩:=b2 h
   obtain⟨d1,d2⟩:=a2 (by omega)
   exact⟨by omega,by show(cs.getD k (Ae TC.cell)).4.size≤6000;omega⟩)
  (by omega)
  (fun k n _=>hgo k n)
  (fun k n hk _=>by
   show(Mk n rows (i:Int) (k:Int),rows,(i:Int),IntKind.i64.wrap ((k:Int)+1))=(_,rows,(i:Int),((k+1:Nat):Int))
   rw[ES (by omega)]
   unfold Mk
   rw[Int.toNat_natCast,Int.toNat_natCast,hcs2])
  (fun k n _ _=>Aa (by show(0:Int)≤(i:Int)∧(i:Int) <(rows.length:Int);omega) (Aa (fun _=>by show(0:Int)≤(i:Int)∧(i:Int) <(rows.length:Int);omega) (Aa (fun h=>by
   have h':DD n rows (i:Int) (k:Int)=true:=h
   rw[hgo,Bool.and_eq_true] at h'
   have:=of_decide_eq_true h'.1
   show(0:Int)≤(k:Int)∧(k:Int) <((rows.getD ((i:Int)).toNat (Ae TC.row)).2.length:Int)
   rw[Int.toNat_natCast,hcs2]
   omega) Ab)))
 have hr:GM (n0,rows,(i:Int),0)=(n',rows,(i:Int),(k:Int)):=hx
 rw[hr]
 exact⟨h1,h2,fun h=>⟨(h3 h).1,RY (h3 h).2⟩⟩
theorem A7z (rows:List TRow) (n0:Int) (h0:0≤n0) (hl:Az rows.length) (hw:∀r∈rows,YN r):
  AL DC DB F5 (Ep (n0,rows,0)) (n0,rows,0)∧
  0≤(GL (n0,rows,0)).fst∧((GL (n0,rows,0)).fst≤6000→n0+10*(rows.length:Int)≤(GL (n0,rows,0)).fst∧∀r∈rows,YD 6000 r):=by
 have hgo:∀(k:Nat) (n:Int),BR n rows (k:Int)=(decide (k <rows.length)&&(false||decide (n≤6000))):=fun k n=>by
  unfold BR
  rw[nn,MA,Bool.false_or]
 unfold Az at hl
 have hin:∀(i:Nat) (n:Int),i <rows.length→0≤n→_:=fun i n hi hn=>
  A12 rows i hi (Ax (Ax n 10 6000) ((rows.getD i (Ae TC.row)).1.size:Int) 6000) (Arq (Arq hn (by omega)).1 (Abv (hw _ (getD_in rows (Ae TC.row) i hi)).1)).1 (hw _ (getD_in rows (Ae TC.row) i hi)).2.1 (hw _ (getD_in rows (Ae TC.row) i hi)).2.2
 obtain⟨h1,k,n',hx,h2,h3⟩:=VW (fun k n=>((n,rows,(k:Int)):Cr)) rows.length (fun k n=>J6 n rows (k:Int)) (fun k=>YD 6000 (rows.getD k (Ae TC.row))) 6000 10 false DC DB F5 (Ep (n0,rows,0)) (n0,rows,0) n0 rfl
  (by show rows.length≤((rows.length:Int) - 0).toNat;omega) h0
  (fun k n hk hn=>by
   obtain⟨_,g2,g3⟩:=hin k n hk hn
   obtain⟨a1,a2⟩:=Arq (k:=10) hn (by omega)
   obtain⟨b1,b2⟩:=Arq a1 (Abv (hw _ (getD_in rows (Ae TC.row) k hk)).1)
   unfold J6
   rw[Int.toNat_natCast]
   refine⟨g2,fun h=>?_⟩
   obtain⟨c1,c2⟩:=g3 h
   have h':(GM (Ax (Ax n 10 6000) ((rows.getD k (Ae TC.row)).1.size:Int) 6000,rows,(k:Int),0)).fst≤6000:=h
   obtain⟨d1,d2⟩:=b2 (by omega)
   obtain⟨e1,e2⟩:=a2 (by omega)
   exact⟨by omega,by show(rows.getD k (Ae TC.row)).1.size≤6000;omega,by omega,c2⟩)
  (by omega)
  (fun k n _=>hgo k n)
  (fun k n hk _=>by
   show(J6 n rows (k:Int),rows,IntKind.i64.wrap ((k:Int)+1))=(_,rows,((k+1:Nat):Int))
   rw[ES (by omega)])
  (fun k n hk hn=>by
   have hlt:BR n rows (k:Int)=true→k <rows.length:=fun h=>by
    rw[hgo,Bool.and_eq_true] at h
    exact of_decide_eq_true h.1
   refine Aa (fun h=>?_) (Aa (fun h=>?_) Ab)
   ·have:=hlt h
    show(0:Int)≤(k:Int)∧(k:Int) <(rows.length:Int)
    omega
   ·have:=(hin k n (hlt h) hn).1
    have e:((k:Int)).toNat=k:=Int.toNat_natCast k
    show AL DF DE F6 (Er (Ax (Ax n 10 6000) ((rows.getD ((k:Int)).toNat (Ae TC.row)).1.size:Int) 6000,rows,(k:Int),0)) (Ax (Ax n 10 6000) ((rows.getD ((k:Int)).toNat (Ae TC.row)).1.size:Int) 6000,rows,(k:Int),0)
    rw[e]
    exact this)
 have hr:GL (n0,rows,0)=(n',rows,(k:Int)):=hx
 rw[hr]
 exact⟨h1,h2,fun h=>⟨(h3 h).1,RY (h3 h).2⟩⟩
theorem Bd3 (xs:List (List TRow)) (n0:Int) (h0:0≤n0) (hl:Az xs.length) (hw:∀x∈xs,Az x.length∧∀r∈x,YN r):
  AL Eo Em Hy (FN (n0,xs,(xs.length:Int),0)) (n0,xs,(xs.length:Int),0)∧
  ((Mj (n0,xs,(xs.length:Int),0)).fst≤6000→n0≤6000∧∀x∈xs,x.length≤6000∧∀r∈x,YD 6000 r):=by
 unfold Az at hl
 have hin:∀(i:Nat) (n:Int),i <xs.length→0≤n→_:=fun i n hi hn=>
  A7z (xs.getD i (Ae TC.rows)) n hn (hw _ (getD_in xs (Ae TC.rows) i hi)).1 (hw _ (getD_in xs (Ae TC.rows) i hi)).2
 obtain⟨h1,k,n',hx,h2,h3⟩:=VW (fun k n=>((n,xs,(xs.length:Int),(k:Int)):Cp)) xs.length (fun k n=>J5 n xs (xs.length:Int) (k:Int)) (fun k=>(xs.getD k (Ae TC.rows)).length≤6000∧∀r∈xs.getD k (Ae TC.rows),YD 6000 r) 6000 0 true Eo Em Hy (FN (n0,xs,(xs.length:Int),0)) (n0,xs,(xs.length:Int),0) n0 rfl
  (by show xs.length≤((xs.length:Int) - 0).toNat;omega) h0
  (fun k n hk hn=>by
   obtain⟨_,g2,g3⟩:=hin k n hk hn
   unfold J5
   rw[Int.toNat_natCast]
   refine⟨g2,fun h=>?_⟩
   obtain⟨c1,c2⟩:=g3 h
   have h':(GL (n,xs.getD k (Ae TC.rows),0)).fst≤6000:=h
   exact⟨by omega,by omega,c2⟩)
  (Int.le_refl _)
  (fun k n _=>by
   show(!!decide ((k:Int) <(xs.length:Int)))=_
   rw[nn,MA,Bool.true_or,Bool.and_true])
  (fun k n hk _=>by
   show(J5 n xs (xs.length:Int) (k:Int),xs,(xs.length:Int),IntKind.i64.wrap ((k:Int)+1))=(_,xs,(xs.length:Int),((k+1:Nat):Int))
   rw[ES (by omega)])
  (fun k n hk hn=>by
   have hlt:(!!decide ((k:Int) <(xs.length:Int)))=true→k <xs.length:=fun h=>by
    rw[nn] at h
    have:=of_decide_eq_true h
    omega
   refine Aa (fun h=>?_) (Aa (fun h=>?_) Ab)
   ·have:=hlt h
    show(0:Int)≤(k:Int)∧(k:Int) <(xs.length:Int)
    omega
   ·have:=(hin k n (hlt h) hn).1
    have e:((k:Int)).toNat=k:=Int.toNat_natCast k
    show AL DC DB F5 (Ep (n,xs.getD ((k:Int)).toNat (Ae TC.rows),0)) (n,xs.getD ((k:Int)).toNat (Ae TC.rows),0)
    rw[e]
    exact this)
 have hr:Mj (n0,xs,(xs.length:Int),0)=(n',xs,(xs.length:Int),(k:Int)):=hx
 rw[hr]
 exact⟨h1,fun h=>⟨by have h':n'≤6000:=h;have:=(h3 h).1;omega,RY (h3 h).2⟩⟩
theorem Aw1 (cs:List TChange) (i:Nat) (hi:i <cs.length) (n0:Int) (h0:0≤n0) (hw:UF (cs.getD i (Ae TC.change))):
  AL El Ek Hx (FM (cs,n0,(i:Int),0)) (cs,n0,(i:Int),0)∧
  0≤(GK (cs,n0,(i:Int),0)).snd.fst∧((GK (cs,n0,(i:Int),0)).snd.fst≤6000→n0≤(GK (cs,n0,(i:Int),0)).snd.fst∧Ajz (cs.getD i (Ae TC.change))):=by
 obtain⟨hl,hw⟩:=hw
 unfold Ajz
 generalize hcs:(cs.getD i (Ae TC.change)).writes=ws at*
 have hcs2:(cs.getD i (Ae TC.change)).5=ws:=hcs
 have hgo:∀(k:Nat) (n:Int),Br cs n (i:Int) (k:Int)=(decide (k <ws.length)&&(false||decide (n≤6000))):=fun k n=>by
  unfold Br
  rw[Int.toNat_natCast,hcs2,nn,MA,Bool.false_or]
 unfold Az at hl
 obtain⟨h1,k,n',hx,h2,h3⟩:=VW (fun k n=>((cs,n,(i:Int),(k:Int)):Co)) ws.length (fun k n=>Ax (Ax (Ax n 10 6000) ((ws.getD k (Ae TC.write)).1.size:Int) 6000) ((ws.getD k (Ae TC.write)).4.size:Int) 6000) (fun k=>(ws.getD k (Ae TC.write)).key.size≤6000∧(ws.getD k (Ae TC.write)).value.size≤6000) 6000 10 false El Ek Hx (FM (cs,n0,(i:Int),0)) (cs,n0,(i:Int),0) n0 rfl
  (by show ws.length≤(((cs.getD ((i:Int)).toNat (Ae TC.change)).5.length:Int) - 0).toNat;rw[Int.toNat_natCast,hcs2];omega) h0
  (fun k n hk hn=>by
   obtain⟨w1,w2⟩:=hw _ (getD_in ws (Ae TC.write) k hk)
   obtain⟨a1,a2⟩:=Arq (k:=10) hn (by omega)
   obtain⟨b1,b2⟩:=Arq a1 (Abv w1)
   obtain⟨f1,f2⟩:=Arq b1 (Abv w2)
   refine⟨f1,fun h=>?_⟩
   obtain⟨g1,g2⟩:=f2 h
   obtain⟨c1,c2⟩:=b2 (by omega)
   obtain⟨d1,d2⟩:=a2 (by omega)
   exact⟨by omega,by omega,by omega⟩)
  (by omega)
  (fun k n _=>hgo k n)
  (fun k n hk _=>by
   show(cs,Mi cs n (i:Int) (k:Int),(i:Int),IntKind.i64.wrap ((k:Int)+1))=(cs,_,(i:Int),((k+1:Nat):Int))
   rw[ES (by omega)]
   unfold Mi
   rw[Int.toNat_natCast,Int.toNat_natCast,hcs2])
  (fun k n _ _=>Aa (by show(0:Int)≤(i:Int)∧(i:Int) <(cs.length:Int);omega) (Aa (fun _=>by show(0:Int)≤(i:Int)∧(i:Int) <(cs.length:Int);omega) (Aa (fun h=>by
   have h':Br cs n (i:Int) (k:Int)=true:=h
   rw[hgo,Bool.and_eq_true] at h'
   have:=of_decide_eq_true h'.1
   show(0:Int)≤(k:Int)∧(k:Int) <((cs.getD ((i:Int)).toNat (Ae TC.change)).5.length:Int)
   rw[Int.toNat_natCast,hcs2]
   omega) Ab)))
 have hr:GK (cs,n0,(i:Int),0)=(cs,n',(i:Int),(k:Int)):=hx
 rw[hr]
 refine⟨h1,h2,fun h=>?_⟩
 have h':n'≤6000:=h
 obtain⟨q1,q2⟩:=h3 h
 refine⟨by show n0≤n';omega,by omega,?_⟩
 exact RY (P:=fun w:TWrite=>w.key.size≤6000∧w.value.size≤6000) q2
theorem Asi (cs:List TChange) (n0:Int) (h0:0≤n0) (hl:Az cs.length) (hw:∀c∈cs,UF c):
  AL Ej Ei Hw (FL (cs,n0,0)) (cs,n0,0)∧
  0≤(Dh (cs,n0,0)).snd.fst∧((Dh (cs,n0,0)).snd.fst≤6000→n0+10*(cs.length:Int)≤(Dh (cs,n0,0)).snd.fst∧∀c∈cs,Ajz c):=by
 have hgo:∀(k:Nat) (n:Int),DA cs n (k:Int)=(decide (k <cs.length)&&(false||decide (n≤6000))):=fun k n=>by
  unfold DA
  rw[nn,MA,Bool.false_or]
 unfold Az at hl
 have hin:∀(i:Nat) (n:Int),i <cs.length→0≤n→_:=fun i n hi hn=>
  Aw1 cs i hi (Ax n 10 6000) (Arq hn (by omega)).1 (hw _ (getD_in cs (Ae TC.change) i hi))
 obtain⟨h1,k,n',hx,h2,h3⟩:=VW (fun k n=>((cs,n,(k:Int)):Cm)) cs.length (fun k n=>J4 cs n (k:Int)) (fun k=>Ajz (cs.getD k (Ae TC.change))) 6000 10 false Ej Ei Hw (FL (cs,n0,0)) (cs,n0,0) n0 rfl
  (by show cs.length≤((cs.length:Int) - 0).toNat;omega) h0
  (fun k n hk hn=>by
   obtain⟨_,g2,g3⟩:=hin k n hk hn
   obtain⟨a1,a2⟩:=Arq (k:=10) hn (by omega)
   unfold J4
   refine⟨g2,fun h=>?_⟩
   obtain⟨c1,c2⟩:=g3 h
   have h':(GK (cs,Ax n 10 6000,(k:Int),0)).snd.fst≤6000:=h
   obtain⟨e1,e2⟩:=a2 (by omega)
   exact⟨by omega,c2⟩)
  (by omega)
  (fun k n _=>hgo k n)
  (fun k n hk _=>by
   show(cs,J4 cs n (k:Int),IntKind.i64.wrap ((k:Int)+1))=(cs,_,((k+1:Nat):Int))
   rw[ES (by omega)])
  (fun k n hk hn=>Aa (fun h=>by
    have h':DA cs n (k:Int)=true:=h
    rw[hgo,Bool.and_eq_true] at h'
    exact(hin k n (of_decide_eq_true h'.1) hn).1) Ab)
 have hr:Dh (cs,n0,0)=(cs,n',(k:Int)):=hx
 rw[hr]
 exact⟨h1,h2,fun h=>⟨(h3 h).1,RY (h3 h).2⟩⟩
theorem Aw0 (l:List TGroup) (cs:List TChange) (xs:List (List TRow)) (hl:Az l.length) (hc:Az cs.length∧∀c∈cs,UF c) (hr:Az xs.length) (hw:∀x∈xs,Az x.length∧∀r∈x,YN r):(∀p∈Ahj l cs xs,p)∧
  (M2 l cs xs=true→l.length≤6000∧(cs.length≤6000∧∀c∈cs,Ajz c)∧∀x∈xs,x.length≤6000∧∀r∈x,YD 6000 r):=by
 obtain⟨a1,a2⟩:=Arq (n:=0) (k:=(l.length:Int)) (Int.le_refl _) (Abv hl)
 obtain⟨b1,b2,b3⟩:=Asi cs _ a1 hc.1 hc.2
 obtain⟨c1,c2⟩:=Bd3 xs _ b2 hr hw
 refine⟨Aa b1 (Aa c1 Ab),fun h=>?_⟩
 have h':=of_decide_eq_true h
 obtain⟨d1,d2⟩:=c2 h'
 obtain⟨e1,e2⟩:=b3 d1
 have:=a2 (by omega)
 exact⟨by omega,⟨by omega,e2⟩,d2⟩
theorem A7q (a0:List TGroup) (a1:List TChange) (a2:List (List TRow)) (hp:∀p∈Z4 a0 a1 a2,p):CallOk Try.prog 45 [.sl .group a0,.sl .change a1,.sl .rows a2] 0 [] 1 (Ahk a0 a1 a2) 0 (Ahi a0 a1 a2):=by
 obtain⟨h1,h2,h3,h4⟩:=hp _ (List.mem_cons_self ..)
 exact Bdt a0 a1 a2 (Aw0 a0 a1 a2 h1 h2 h3 h4).1
def Ql:List A→Nat→Objs→Option A8
 | [y0,y1,y2],nx,o=>match Kp .group y0,Kp .change y1,Kp .rows y2 with
  |some a0,some a1,some a2=>some (1,(Ahk a0 a1 a2).pk (AF nx),nx+0,AE nx (Ahi a0 a1 a2)++o,Z4 a0 a1 a2)
  |_,_,_=>none
 |_,_,_=>none
theorem Z5:Fu Try.prog 45 Ql:=fun args nx o k x nx' o' ps h=>by
 unfold Ql at h
 split at h<;>first|(cases h;done)|skip
 split at h<;>first|(cases h;done)|skip
 rename_i a0 a1 a2 e0 e1 e2
 cases h
 refine⟨fun hp=>?_,_,rfl⟩
 refine Ah (Ag (A7q a0 a1 a2 hp) (Nat.le_refl _) (Ac rfl (Ac rfl (Ac rfl Ao))) nx o) fun F N R vs hl=>?_
 obtain⟨v0,w0,rfl,h0,hl⟩:=hl.inv
 obtain⟨v1,w1,rfl,h1,hl⟩:=hl.inv
 obtain⟨v2,w2,rfl,h2,hl⟩:=hl.inv
 exact HL.cons (Cx e0 h0) (HL.cons (Cx e1 h1) (HL.cons (Cx e2 h2) (hl)))
noncomputable def Bro:=A5 45 Ql Akb
theorem A6a:Df Try.prog Bro:=Av Z5 Tz
abbrev BN:Type:=(List TGroup)×ByteArray×(List TRow)×Int×Int
def KE (x:BN):St:=⟨38,0,[(0,.sl .group x.1),(6,.v (.string x.2.1)),(15,.sl .row x.2.2.1),(16,.v (.int .i64 x.2.2.2.1)),(17,.v (.int .i64 x.2.2.2.2))],[]⟩
def Mn:St→Option BN
 |⟨38,0,[(0,.sl .group z0),(6,.v (.string z1)),(15,.sl .row z2),(16,.v (.int .i64 z3)),(17,.v (.int .i64 z4))],[]⟩=>some (z0,z1,z2,z3,z4)
 |_=>none
theorem Acu:∀s x,Mn s=some x→s=KE x:=fun s x h=>by
 unfold Mn at h
 split at h
 ·cases h;rfl
 ·cases h
def UU:De:=⟨0,0,[0,6,15,16,17],[],[],[],[4],[]⟩
def Asj:Dy:=⟨[],[],[0,6,15,16,17],[]⟩
def EV (a0:List TGroup) (_a1:ByteArray) (a2:List TRow) (_a3:Int) (a4:Int):Bool:=Ap a0 (a2.getD a4.toNat (Ae TC.row)) !=(0:Int)
def DT (a0:List TGroup) (a1:ByteArray) (a2:List TRow) (a3:Int) (a4:Int):Bool:=!!decide (a4 <a3)&&((EV a0 a1 a2 a3 a4)||(FG (a2.getD a4.toNat (Ae TC.row))||(Op.bytesLess (a2.getD a4.toNat (Ae TC.row)).1.toList a1.toList||(a2.getD a4.toNat (Ae TC.row)).1.toList==a1.toList)))
def Ahx (_a0:List TGroup) (_a1:ByteArray) (a2:List TRow) (_a3:Int) (a4:Int):ByteArray:=(a2.getD a4.toNat (Ae TC.row)).1
def Ahy (a0:List TGroup) (a1:ByteArray) (a2:List TRow) (a3:Int) (a4:Int):Bool:=!!decide (a4 <a3)&&!(DT a0 a1 a2 a3 a4)
def Hf (a0:List TGroup) (a1:ByteArray) (a2:List TRow) (a3:Int) (a4:Int):Int:=bif(EV a0 a1 a2 a3 a4) then Ap a0 (a2.getD a4.toNat (Ae TC.row)) else(100:Int)
def EX (x:BN):BN:=(x.1,Ahx x.1 x.2.1 x.2.2.1 x.2.2.2.1 x.2.2.2.2,x.2.2.1,x.2.2.2.1,IntKind.i64.wrap (x.2.2.2.2+(1:Int)))
def EW (x:BN):Cnd:=some (Ahy x.1 x.2.1 x.2.2.1 x.2.2.2.1 x.2.2.2.2)
def Qq (x:BN):List Prop:=[((!!decide (x.2.2.2.2 <x.2.2.2.1))=true→(0:Int)≤x.2.2.2.2∧x.2.2.2.2 <(↑x.2.2.1.length:Int)),((!!decide (x.2.2.2.2 <x.2.2.2.1))=true→(!(EV x.1 x.2.1 x.2.2.1 x.2.2.2.1 x.2.2.2.2))=true→Ai (x.2.2.1.getD x.2.2.2.2.toNat (Ae TC.row)).2.length)]
def Ie (x:BN):List Prop:=[((!!decide (x.2.2.2.2 <x.2.2.2.1))=true→(0:Int)≤x.2.2.2.2∧x.2.2.2.2 <(↑x.2.2.1.length:Int)),((!!decide (x.2.2.2.2 <x.2.2.2.1))=true→(!(EV x.1 x.2.1 x.2.2.1 x.2.2.2.1 x.2.2.2.2))=true→Ai (x.2.2.1.getD x.2.2.2.2.toNat (Ae TC.row)).2.length)]
def OX (x:BN):Bl:=[(some 0,some (!decide (x.2.2.2.2 <x.2.2.2.1)),⟨38,0,[(4,.dead)],[]⟩),(none,some ((DT x.1 x.2.1 x.2.2.1 x.2.2.2.1 x.2.2.2.2)),⟨38,1,[(4,.v (.int .i64 (Hf x.1 x.2.1 x.2.2.1 x.2.2.2.1 x.2.2.2.2)))],[]⟩)]
def Hg (x:BN):Nat:=(x.2.2.2.1 - x.2.2.2.2).toNat
def FO (x:BN):BN:=A9 EX EW (Hg x) x
set_option maxRecDepth 100000 in
theorem Alx (a0:List TGroup) (a1:ByteArray) (a2:List TRow) (a3:Int) (a4:Int):Bx (AA Bro L0) 9 (Aj Try.prog 84 0) UU (KE (a0,a1,a2,a3,a4))=some (Qq (a0,a1,a2,a3,a4),OX (a0,a1,a2,a3,a4),EW (a0,a1,a2,a3,a4),KE (EX (a0,a1,a2,a3,a4))):=by kernel_rfl
set_option maxRecDepth 100000 in
theorem Aly (a0:List TGroup) (a1:ByteArray) (a2:List TRow) (a3:Int) (a4:Int) (hp:∀p∈Ie (a0,a1,a2,a3,a4),p):∀p∈Qq (a0,a1,a2,a3,a4),p:=by
 have n0:=N0 hp
 have n1:=N0 (N1 hp)
 exact(Aa n0 (Aa n1 Ab))
noncomputable def Qr:=HU (AA Bro L0) (Aj Try.prog 84 0) UU Asj Mn Hg EX EW Ie OX
theorem Ahz:∀s b ps outs,Qr s=some (b,ps,outs)→Wf s ⟨ps,outs,none⟩∧Bs (AA C0 L0) b s ps outs:=
 Bi (T:=KE) A6a AG (u:=9) (by kernel_rfl) (by decide) (fun⟨a0,a1,a2,a3,a4⟩=>Alx a0 a1 a2 a3 a4) (fun⟨a0,a1,a2,a3,a4⟩=>Aly a0 a1 a2 a3 a4) Acu (fun _=>AR (n:=38) rfl) fun _ _=>rfl
noncomputable def UT:=DG 0 Qr L0
theorem Ahw:Hs UT:=A3 Ahz AG
def Ks (a0:List TGroup) (_a1:List TRow):Bool:=AY a0 !=(0:Int)
def Rg (a0:List TGroup) (a1:List TRow):List TGroup:=(FO (a0,ByteArray.mk #[],a1,(↑a1.length:Int),(0:Int))).fst
def Rf (a0:List TGroup) (a1:List TRow):ByteArray:=(FO (a0,ByteArray.mk #[],a1,(↑a1.length:Int),(0:Int))).snd.fst
def Re (a0:List TGroup) (a1:List TRow):List TRow:=(FO (a0,ByteArray.mk #[],a1,(↑a1.length:Int),(0:Int))).snd.snd.fst
def Rc (a0:List TGroup) (a1:List TRow):Int:=(FO (a0,ByteArray.mk #[],a1,(↑a1.length:Int),(0:Int))).snd.snd.snd.snd
def Rb (a0:List TGroup) (a1:List TRow):Int:=(FO (a0,ByteArray.mk #[],a1,(↑a1.length:Int),(0:Int))).snd.snd.snd.fst
def T6 (a0:List TGroup) (a1:List TRow):Int:=bif(Ks a0 a1) then AY a0 else bif DT (Rg a0 a1) (Rf a0 a1) (Re a0 a1) (Rb a0 a1) (Rc a0 a1) then Hf (Rg a0 a1) (Rf a0 a1) (Re a0 a1) (Rb a0 a1) (Rc a0 a1) else(0:Int)
def T7 (a0:List TGroup) (a1:List TRow):A:=.v (.int .i64 (T6 a0 a1))
def Ah0 (_a0:List TGroup) (_a1:List TRow):Objs:=[]
def Aae (a0:List TGroup) (a1:List TRow):List Prop:=[((!(Ks a0 a1))=true→AL EX EW Ie (Hg (a0,ByteArray.mk #[],a1,(↑a1.length:Int),(0:Int))) (a0,ByteArray.mk #[],a1,(↑a1.length:Int),(0:Int)))]
set_option maxRecDepth 100000 in
theorem A17 (a0:List TGroup) (a1:List TRow):EU (AA Bro UT) 9 84 [.sl .group a0,Ak .rows a1] 0 []=some (1,T7 a0 a1,0,Ah0 a0 a1,[((!(Ks a0 a1))=true→Aj Try.prog (84:FuncId) (0:Nat)=Aj Try.prog (84:FuncId) (0:Nat)),((!(Ks a0 a1))=true→AL EX EW Ie (Hg (a0,ByteArray.mk #[],a1,(↑a1.length:Int),(0:Int))) (a0,ByteArray.mk #[],a1,(↑a1.length:Int),(0:Int)))]):=by kernel_rfl
set_option maxRecDepth 100000 in
theorem A8c (a0:List TGroup) (a1:List TRow) (hp:∀p∈Aae a0 a1,p):CallOk Try.prog 84 [.sl .group a0,Ak .rows a1] 0 [] 1 (T7 a0 a1) 0 (Ah0 a0 a1):=by
 have n0:((!(Ks a0 a1))=true→Aj Try.prog (84:FuncId) (0:Nat)=Aj Try.prog (84:FuncId) (0:Nat)):=by intros;rfl
 have n1:=N0 hp
 exact AH (Aw A6a Ahw) (A17 a0 a1) (Aa n0 (Aa n1 Ab))
def Aaf (a0:List TGroup) (a1:List TRow):A:=.v (.int .i64 (Gq a0 a1))
def Aad (_a0:List TGroup) (_a1:List TRow):Objs:=[]
def Xc (_a0:List TGroup) (a1:List TRow):List Prop:=[Az a1.length]
theorem Aum (l:List TGroup) (rows:List TRow) (i:Nat):(VM l rows i !=0)=(Ap l (BU rows i) !=0||(FG (BU rows i)||leS (BU rows i).key (OW rows i))):=by
 unfold VM
 cases h:Ap l (BU rows i) !=0 with
 |true=>rw[cond_true,h,Bool.true_or]
 |false=>cases FG (BU rows i)||leS (BU rows i).key (OW rows i)<;>rfl
theorem Aac (l:List TGroup) (rows:List TRow) (hb:Az rows.length):(∀p∈Aae l rows,p)∧T6 l rows=Gq l rows:=by
 unfold Az at hb
 have hf:∀i:Nat,DT l (OW rows i) rows (rows.length:Int) (i:Int)=(decide (i <rows.length)&&VM l rows i !=0):=fun i=>by
  rw[Aum]
  unfold DT EV leS IY
  rw[nn,MA,Int.toNat_natCast,tlb]
  rfl
 obtain⟨h1,k,hk,hx,hs,hst,_⟩:=I6 (fun i=>((l,OW rows i,rows,(rows.length:Int),(i:Int)):BN)) rows.length (fun i=>VM l rows i !=0) EX EW Ie (Hg (l,ByteArray.mk #[],rows,(rows.length:Int),0)) (l,ByteArray.mk #[],rows,(rows.length:Int),0) rfl (by show rows.length≤((rows.length:Int) - 0).toNat;omega)
  (fun i _ _=>by
   show((!!decide ((i:Int) <(rows.length:Int)))&&!DT l (OW rows i) rows (rows.length:Int) (i:Int))=_
   rw[hf,nn,MA]
   cases decide (i <rows.length)<;>rfl)
  (fun i hi _=>by
   show(l,(rows.getD ((i:Int)).toNat (Ae TC.row)).1,rows,(rows.length:Int),IntKind.i64.wrap ((i:Int)+1))=(l,OW rows (i+1),rows,(rows.length:Int),((i+1:Nat):Int))
   rw[ES (by omega),Int.toNat_natCast]
   rfl)
  (fun i hi _=>by
   have hin:(!!decide ((i:Int) <(rows.length:Int)))=true→(i:Int) <(rows.length:Int):=fun h=>by rw[nn] at h;exact of_decide_eq_true h
   refine Aa (fun h=>⟨by show(0:Int)≤(i:Int);omega,hin h⟩) (Aa (fun _ h2=>?_) Ab)
   have h3:Ap l (rows.getD ((i:Int)).toNat (Ae TC.row))=0:=by
    have h4:(!(Ap l (rows.getD ((i:Int)).toNat (Ae TC.row)) !=0))=true:=h2
    simpa using h4
   obtain⟨g1,g2,_⟩:=AV h3
   have:=(Hr g1).2
   show Ai (rows.getD ((i:Int)).toNat (Ae TC.row)).cells.length
   unfold Ai
   omega)
 have hr:FO (l,ByteArray.mk #[],rows,(rows.length:Int),0)=(l,OW rows k,rows,(rows.length:Int),(k:Int)):=hx
 refine⟨Aa (fun _=>h1) Ab,?_⟩
 unfold T6 Gq
 show(bif AY l !=0 then AY l else _)=_
 congr 1
 unfold Rg Rf Re Rc Rb
 rw[hr]
 show(bif DT l (OW rows k) rows (rows.length:Int) (k:Int) then Hf l (OW rows k) rows (rows.length:Int) (k:Int) else 0)=_
 rw[hf]
 have h0:Gv l rows k=0:=(Agw l rows k).2 fun i hi=>by simpa using hs i hi
 rcases Nat.lt_or_ge k rows.length with h|h
 ·have he:=hst h
  rw[decide_eq_true h,he]
  have e1:Gv l rows (k+1)=VM l rows k:=by
   show(bif Gv l rows k !=0 then Gv l rows k else VM l rows k)=_
   rw[h0];rfl
  have hne:Gv l rows (k+1)≠0:=by rw[e1];simpa using he
  rw[Ws hne rows.length h,e1]
  show Hf l (OW rows k) rows (rows.length:Int) (k:Int)=_
  unfold Hf EV
  rw[Int.toNat_natCast]
  rw[Aum] at he
  unfold VM
  show(bif Ap l (BU rows k) !=0 then Ap l (BU rows k) else 100)=_
  cases hg:Ap l (BU rows k) !=0 with
  |true=>rfl
  |false=>
   rw[hg,Bool.false_or] at he
   rw[he]
   rfl
 ·obtain rfl:k=rows.length:=by omega
  rw[decide_eq_false (Nat.lt_irrefl _),h0]
  rfl
theorem A16 (a0:List TGroup) (a1:List TRow) (hp:∀p∈Xc a0 a1,p):CallOk Try.prog 84 [.sl .group a0,Ak .rows a1] 0 [] 1 (Aaf a0 a1) 0 (Aad a0 a1):=by
 have hb:Az a1.length:=hp _ (List.mem_cons_self ..)
 have h:=A8c a0 a1 (Aac a0 a1 hb).1
 unfold T7 at h
 rw[(Aac a0 a1 hb).2] at h
 exact h
def N3:List A→Nat→Objs→Option A8
 | [y0,y1],nx,o=>match Kp .group y0,AP .rows y1 with
  |some a0,some (a1,p1)=>some (1,(Aaf a0 a1).pk (AF nx),nx+0,AE nx (Aad a0 a1)++o,p1++(Xc a0 a1))
  |_,_=>none
 |_,_,_=>none
theorem Xd:Fu Try.prog 84 N3:=fun args nx o k x nx' o' ps h=>by
 unfold N3 at h
 split at h<;>first|(cases h;done)|skip
 split at h<;>first|(cases h;done)|skip
 rename_i a0 a1 p1 e0 e1
 cases h
 refine⟨fun hp=>?_,_,rfl⟩
 have q1:=fun p hm=>hp p (List.mem_append.2 (.inl hm))
 have r1:=fun p hm=>hp p (List.mem_append.2 (.inr hm))
 refine Ah (Ag (A16 a0 a1 r1) (Nat.le_refl _) (Ac rfl (Ac (Af _ _) Ao)) nx o) fun F N R vs hl=>?_
 obtain⟨v0,w0,rfl,h0,hl⟩:=hl.inv
 obtain⟨v1,w1,rfl,h1,hl⟩:=hl.inv
 exact HL.cons (Cx e0 h0) (HL.cons (Am e1 q1 h1) (hl))
noncomputable def B0k:=A5 84 N3 Bro
theorem Bls:Df Try.prog B0k:=Av Xd A6a
def OJ (a0:Int) (a1:TVec) (a2:TCell):Bool:=bif a2.1.1==(0:Int)&&a2.1.2==(0:Int)&&(a2.2.1==(0:Int)&&a2.2.2==(0:Int)&&(a2.3==false&&(a2.4.toList==(ByteArray.mk #[]).toList&&(a2.5.1==(0:Int)&&a2.5.2==(0:Int)))))||!AT a0 a2||!Ki a1 (K7 a2) then false else !GB a0 a2
def OK (a0:Int) (a1:TVec) (a2:TCell):A:=.v (.bool (OJ a0 a1 a2))
def Wn (_a0:Int) (_a1:TVec) (_a2:TCell):Objs:=[]
def Arz (_a0:Int) (_a1:TVec) (_a2:TCell):List Prop:=[]
set_option maxRecDepth 100000 in
theorem Ary (a0:Int) (a1:TVec) (a2:TCell):EU (AA B0k L0) 9 50 [Ak .i64 a0,Ak .vec a1,Ak .cell a2] 0 []=some (1,OK a0 a1 a2,0,Wn a0 a1 a2,[]):=by kernel_rfl
set_option maxRecDepth 100000 in
theorem Av9 (a0:Int) (a1:TVec) (a2:TCell) (_hp:∀p∈Arz a0 a1 a2,p):CallOk Try.prog 50 [Ak .i64 a0,Ak .vec a1,Ak .cell a2] 0 [] 1 (OK a0 a1 a2) 0 (Wn a0 a1 a2):=by
 exact AH (Aw Bls AG) (Ary a0 a1 a2) Ab
def UO (a0:Int) (a1:TVec) (a2:TCell):A:=.v (.bool (B1e a0 a1 a2))
def UN (_a0:Int) (_a1:TVec) (_a2:TCell):Objs:=[]
def Sg (_a0:Int) (_a1:TVec) (_a2:TCell):List Prop:=[]
theorem Byu (c:TCell):(c.1.1==(0:Int)&&c.1.2==(0:Int)&&(c.2.1==(0:Int)&&c.2.2==(0:Int)&&(c.3==false&&(c.4.toList==(ByteArray.mk #[]).toList&&(c.5.1==(0:Int)&&c.5.2==(0:Int))))))=eqC c zeroC:=by
 rw[tlb]
 unfold eqC zeroC
 simp only[Bool.and_assoc]
theorem Bof (a b:TVec):Ki a b=Bcx a b:=by
 have hm:∀x y:Int,(min x y==y)=decide (y≤x):=fun x y=>by
  rw[Bool.eq_iff_iff,beq_iff_eq,decide_eq_true_eq];omega
 unfold Ki Bcx
 have h1:((JY a b).1==b.1)=decide (b.a≤a.a):=hm _ _
 have h2:((JY a b).2==b.2)=decide (b.b≤a.b):=hm _ _
 rw[h1,h2]
theorem Arx (p:Int) (st:TVec) (c:TCell):OJ p st c=B1e p st c:=by
 unfold OJ B1e
 rw[Byu,IL,Bof,(Af6 p c).2]
 show(bif eqC c zeroC||!Bz p c||!Bcx st (Acp c) then false else !Ts p c)=_
 cases eqC c zeroC<;>cases Bz p c<;>cases Bcx st (Acp c)<;>rfl
theorem Arw (a0:Int) (a1:TVec) (a2:TCell) (_hp:∀p∈Sg a0 a1 a2,p):CallOk Try.prog 50 [Ak .i64 a0,Ak .vec a1,Ak .cell a2] 0 [] 1 (UO a0 a1 a2) 0 (UN a0 a1 a2):=by
 have h:=Av9 a0 a1 a2 (fun _ h=>by cases h)
 unfold OK at h
 rw[Arx] at h
 exact h
def OL:List A→Nat→Objs→Option A8
 | [y0,y1,y2],nx,o=>match AP .i64 y0,AP .vec y1,AP .cell y2 with
  |some (a0,p0),some (a1,p1),some (a2,p2)=>some (1,(UO a0 a1 a2).pk (AF nx),nx+0,AE nx (UN a0 a1 a2)++o,p0++(p1++(p2++(Sg a0 a1 a2))))
  |_,_,_=>none
 |_,_,_=>none
theorem Akx:Fu Try.prog 50 OL:=fun args nx o k x nx' o' ps h=>by
 unfold OL at h
 split at h<;>first|(cases h;done)|skip
 split at h<;>first|(cases h;done)|skip
 rename_i a0 p0 a1 p1 a2 p2 e0 e1 e2
 cases h
 refine⟨fun hp=>?_,_,rfl⟩
 have q0:=fun p hm=>hp p (List.mem_append.2 (.inl hm))
 have r0:=fun p hm=>hp p (List.mem_append.2 (.inr hm))
 have q1:=fun p hm=>r0 p (List.mem_append.2 (.inl hm))
 have r1:=fun p hm=>r0 p (List.mem_append.2 (.inr hm))
 have q2:=fun p hm=>r1 p (List.mem_append.2 (.inl hm))
 have r2:=fun p hm=>r1 p (List.mem_append.2 (.inr hm))
 refine Ah (Ag (Arw a0 a1 a2 r2) (Nat.le_refl _) (Ac (Af _ _) (Ac (Af _ _) (Ac (Af _ _) Ao))) nx o) fun F N R vs hl=>?_
 obtain⟨v0,w0,rfl,h0,hl⟩:=hl.inv
 obtain⟨v1,w1,rfl,h1,hl⟩:=hl.inv
 obtain⟨v2,w2,rfl,h2,hl⟩:=hl.inv
 exact HL.cons (Am e0 q0 h0) (HL.cons (Am e1 q1 h1) (HL.cons (Am e2 q2 h2) (hl)))
noncomputable def B15:=A5 50 OL B0k
theorem Bv6:Df Try.prog B15:=Av Akx Bls
noncomputable def Cn:=B15
theorem Bbt:Df Try.prog Cn:=Bv6
end Go.Proofs.Yteebobbhhgmeiaa
namespace Go.Proofs.Yteebobbhhgmeiaa
open Go.RowKit
def wN (ws:List TWrite) (i:Nat):TWrite:=ws.getD i (Ae TC.write)
def QS (a b:TWrite):Bool:=IY a.key b.key||a.key==b.key&&decide (a.group <b.group)
def UG (l:List TGroup) (w:TWrite):Bool:=!(w.key.size==0)&&decide (w.key.size≤32)&&decide (0≤w.group)&&decide (w.group <(l.length:Int))&&decide (w.value.size≤64)&&(!w.gone||w.value.size==0)
def Ic (c:TChange):Bool:=(c.site==1||c.site==2)&&decide (1≤c.seq)&&decide (c.seq≤1099511627776)&&c.stamp.site==c.site&&H2 c.stamp&&CL c.vec&&(bif c.site==1 then c.vec.a else c.vec.b)==c.seq
def PW (l:List TGroup) (ws:List TWrite) (i:Nat):Bool:=!UG l (wN ws i)||decide (0 <i)&&!QS (wN ws (i - 1)) (wN ws i)
def Aif (c:TChange):Bool:=decide (1≤c.writes.length)&&decide (c.writes.length≤8)
def NV (l:List TGroup) (c:TChange):Int:=bif AY l !=0 then AY l else bif Ic c&&Aif c&&Ko c.writes.length (fun i=>!PW l c.writes i) then 0 else 120
def Jv (a0:TWrite):TPlace:=TPlace.mk a0.1 a0.2
def Wg (a0:TWrite):A:=.v (.agg ⟨[.string ((Jv a0).key),.int .i64 ((Jv a0).group)]⟩)
def We (_a0:TWrite):Objs:=[]
def Agc (_a0:TWrite):List Prop:=[]
set_option maxRecDepth 100000 in
theorem A6u (a0:TWrite):EU (AA Cn L0) 9 174 [Ak .write a0] 0 []=some (1,Wg a0,0,We a0,[]):=by kernel_rfl
set_option maxRecDepth 100000 in
theorem Bcp (a0:TWrite) (_hp:∀p∈Agc a0,p):CallOk Try.prog 174 [Ak .write a0] 0 [] 1 (Wg a0) 0 (We a0):=by
 exact AH (Aw Bbt AG) (A6u a0) Ab
def Wh:List A→Nat→Objs→Option A8
 | [y0],nx,o=>match AP .write y0 with
  |some (a0,p0)=>some (1,(Wg a0).pk (AF nx),nx+0,AE nx (We a0)++o,p0++(Agc a0))
  |_=>none
 |_,_,_=>none
theorem A1o:Fu Try.prog 174 Wh:=fun args nx o k x nx' o' ps h=>by
 unfold Wh at h
 split at h<;>first|(cases h;done)|skip
 split at h<;>first|(cases h;done)|skip
 rename_i a0 p0 e0
 cases h
 refine⟨fun hp=>?_,_,rfl⟩
 have q0:=fun p hm=>hp p (List.mem_append.2 (.inl hm))
 have r0:=fun p hm=>hp p (List.mem_append.2 (.inr hm))
 refine Ah (Ag (Bcp a0 r0) (Nat.le_refl _) (Ac (Af _ _) Ao) nx o) fun F N R vs hl=>?_
 obtain⟨v0,w0,rfl,h0,hl⟩:=hl.inv
 exact HL.cons (Am e0 q0 h0) (hl)
noncomputable def Bqo:=A5 174 Wh Cn
theorem Ba6:Df Try.prog Bqo:=Av A1o Bbt
def HJ (a0:TPlace) (a1:TPlace):Bool:=Op.bytesLess a0.1.toList a1.1.toList||a0.1.toList==a1.1.toList&&decide (a0.2 <a1.2)
def Jy (a0:TPlace) (a1:TPlace):A:=.v (.bool (HJ a0 a1))
def Jw (_a0:TPlace) (_a1:TPlace):Objs:=[]
def LY (_a0:TPlace) (_a1:TPlace):List Prop:=[]
set_option maxRecDepth 100000 in
theorem VL (a0:TPlace) (a1:TPlace):EU (AA Bqo L0) 9 175 [Ak .place a0,Ak .place a1] 0 []=some (1,Jy a0 a1,0,Jw a0 a1,[]):=by kernel_rfl
set_option maxRecDepth 100000 in
theorem Wi (a0:TPlace) (a1:TPlace) (_hp:∀p∈LY a0 a1,p):CallOk Try.prog 175 [Ak .place a0,Ak .place a1] 0 [] 1 (Jy a0 a1) 0 (Jw a0 a1):=by
 exact AH (Aw Ba6 AG) (VL a0 a1) Ab
def Jz:List A→Nat→Objs→Option A8
 | [y0,y1],nx,o=>match AP .place y0,AP .place y1 with
  |some (a0,p0),some (a1,p1)=>some (1,(Jy a0 a1).pk (AF nx),nx+0,AE nx (Jw a0 a1)++o,p0++(p1++(LY a0 a1)))
  |_,_=>none
 |_,_,_=>none
theorem TK:Fu Try.prog 175 Jz:=fun args nx o k x nx' o' ps h=>by
 unfold Jz at h
 split at h<;>first|(cases h;done)|skip
 split at h<;>first|(cases h;done)|skip
 rename_i a0 p0 a1 p1 e0 e1
 cases h
 refine⟨fun hp=>?_,_,rfl⟩
 have q0:=fun p hm=>hp p (List.mem_append.2 (.inl hm))
 have r0:=fun p hm=>hp p (List.mem_append.2 (.inr hm))
 have q1:=fun p hm=>r0 p (List.mem_append.2 (.inl hm))
 have r1:=fun p hm=>r0 p (List.mem_append.2 (.inr hm))
 refine Ah (Ag (Wi a0 a1 r1) (Nat.le_refl _) (Ac (Af _ _) (Ac (Af _ _) Ao)) nx o) fun F N R vs hl=>?_
 obtain⟨v0,w0,rfl,h0,hl⟩:=hl.inv
 obtain⟨v1,w1,rfl,h1,hl⟩:=hl.inv
 exact HL.cons (Am e0 q0 h0) (HL.cons (Am e1 q1 h1) (hl))
noncomputable def Bqp:=A5 175 Jz Bqo
theorem Ba7:Df Try.prog Bqp:=Av TK Ba6
def QJ (a0:TWrite) (a1:TWrite):Bool:=bif !a0.1.toList==a1.1.toList then Op.bytesLess a0.1.toList a1.1.toList else decide (a0.2 <a1.2)
def Yi (a0:TWrite) (a1:TWrite):A:=.v (.bool (QJ a0 a1))
def Yh (_a0:TWrite) (_a1:TWrite):Objs:=[]
def Ajh (_a0:TWrite) (_a1:TWrite):List Prop:=[]
set_option maxRecDepth 100000 in
theorem A9m (a0:TWrite) (a1:TWrite):EU (AA Bqp L0) 9 177 [Ak .write a0,Ak .write a1] 0 []=some (1,Yi a0 a1,0,Yh a0 a1,[]):=by kernel_rfl
set_option maxRecDepth 100000 in
theorem Bfx (a0:TWrite) (a1:TWrite) (_hp:∀p∈Ajh a0 a1,p):CallOk Try.prog 177 [Ak .write a0,Ak .write a1] 0 [] 1 (Yi a0 a1) 0 (Yh a0 a1):=by
 exact AH (Aw Ba7 AG) (A9m a0 a1) Ab
def Yj:List A→Nat→Objs→Option A8
 | [y0,y1],nx,o=>match AP .write y0,AP .write y1 with
  |some (a0,p0),some (a1,p1)=>some (1,(Yi a0 a1).pk (AF nx),nx+0,AE nx (Yh a0 a1)++o,p0++(p1++(Ajh a0 a1)))
  |_,_=>none
 |_,_,_=>none
theorem A27:Fu Try.prog 177 Yj:=fun args nx o k x nx' o' ps h=>by
 unfold Yj at h
 split at h<;>first|(cases h;done)|skip
 split at h<;>first|(cases h;done)|skip
 rename_i a0 p0 a1 p1 e0 e1
 cases h
 refine⟨fun hp=>?_,_,rfl⟩
 have q0:=fun p hm=>hp p (List.mem_append.2 (.inl hm))
 have r0:=fun p hm=>hp p (List.mem_append.2 (.inr hm))
 have q1:=fun p hm=>r0 p (List.mem_append.2 (.inl hm))
 have r1:=fun p hm=>r0 p (List.mem_append.2 (.inr hm))
 refine Ah (Ag (Bfx a0 a1 r1) (Nat.le_refl _) (Ac (Af _ _) (Ac (Af _ _) Ao)) nx o) fun F N R vs hl=>?_
 obtain⟨v0,w0,rfl,h0,hl⟩:=hl.inv
 obtain⟨v1,w1,rfl,h1,hl⟩:=hl.inv
 exact HL.cons (Am e0 q0 h0) (HL.cons (Am e1 q1 h1) (hl))
noncomputable def Bqq:=A5 177 Yj Bqp
theorem Ba8:Df Try.prog Bqq:=Av A27 Ba7
def IH (a0:List TGroup) (a1:TWrite):Bool:=Sm a1.1==(0:Int)&&decide (a1.2≥(0:Int))&&decide (a1.2 <(↑a0.length:Int))&&decide ((↑a1.4.size:Int)≤(64:Int))&&(!a1.3||a1.4.toList==(ByteArray.mk #[]).toList)
def Yl (a0:List TGroup) (a1:TWrite):A:=.v (.bool (IH a0 a1))
def Yk (_a0:List TGroup) (_a1:TWrite):Objs:=[]
def Aji (_a0:List TGroup) (_a1:TWrite):List Prop:=[]
set_option maxRecDepth 100000 in
theorem A9n (a0:List TGroup) (a1:TWrite):EU (AA Bqq L0) 9 176 [.sl .group a0,Ak .write a1] 0 []=some (1,Yl a0 a1,0,Yk a0 a1,[]):=by kernel_rfl
set_option maxRecDepth 100000 in
theorem Bfy (a0:List TGroup) (a1:TWrite) (_hp:∀p∈Aji a0 a1,p):CallOk Try.prog 176 [.sl .group a0,Ak .write a1] 0 [] 1 (Yl a0 a1) 0 (Yk a0 a1):=by
 exact AH (Aw Ba8 AG) (A9n a0 a1) Ab
def Ym:List A→Nat→Objs→Option A8
 | [y0,y1],nx,o=>match Kp .group y0,AP .write y1 with
  |some a0,some (a1,p1)=>some (1,(Yl a0 a1).pk (AF nx),nx+0,AE nx (Yk a0 a1)++o,p1++(Aji a0 a1))
  |_,_=>none
 |_,_,_=>none
theorem A28:Fu Try.prog 176 Ym:=fun args nx o k x nx' o' ps h=>by
 unfold Ym at h
 split at h<;>first|(cases h;done)|skip
 split at h<;>first|(cases h;done)|skip
 rename_i a0 a1 p1 e0 e1
 cases h
 refine⟨fun hp=>?_,_,rfl⟩
 have q1:=fun p hm=>hp p (List.mem_append.2 (.inl hm))
 have r1:=fun p hm=>hp p (List.mem_append.2 (.inr hm))
 refine Ah (Ag (Bfy a0 a1 r1) (Nat.le_refl _) (Ac rfl (Ac (Af _ _) Ao)) nx o) fun F N R vs hl=>?_
 obtain⟨v0,w0,rfl,h0,hl⟩:=hl.inv
 obtain⟨v1,w1,rfl,h1,hl⟩:=hl.inv
 exact HL.cons (Cx e0 h0) (HL.cons (Am e1 q1 h1) (hl))
noncomputable def Byz:=A5 176 Ym Bqq
theorem Bqr:Df Try.prog Byz:=Av A28 Ba8
noncomputable def Bqs:=A5 36 YT Byz
theorem Ba9:Df Try.prog Bqs:=Av Aol Bqr
def Jd (a0:Int) (_a1:TStamp) (_a2:TVec) (a3:Bool) (_a4:ByteArray):Bool:=a0==(2:Int)&&a3
def Jc (_a0:Int) (_a1:TStamp) (_a2:TVec) (_a3:Bool) (a4:ByteArray):Bool:=decide ((↑a4.size:Int) >(64:Int))
def Im (a0:Int) (a1:TStamp) (a2:TVec) (a3:Bool) (a4:ByteArray):Bool:=a0 !=(1:Int)&&a0 !=(2:Int)||!Ho a1||a1.1==(0:Int)||!E0 a2||a3&&!a4.toList==(ByteArray.mk #[]).toList
def Ku (a0:Int) (a1:TStamp) (a2:TVec) (a3:Bool) (a4:ByteArray):TCell:=TCell.mk (TStamp.mk (bif(Im a0 a1 a2 a3 a4) then(0:Int) else bif(Jc a0 a1 a2 a3 a4) then(0:Int) else bif(Jd a0 a1 a2 a3 a4) then(0:Int) else a1.1) (bif(Im a0 a1 a2 a3 a4) then(0:Int) else bif(Jc a0 a1 a2 a3 a4) then(0:Int) else bif(Jd a0 a1 a2 a3 a4) then(0:Int) else a1.2)) (TVec.mk (bif(Im a0 a1 a2 a3 a4) then(0:Int) else bif(Jc a0 a1 a2 a3 a4) then(0:Int) else bif(Jd a0 a1 a2 a3 a4) then(0:Int) else a2.1) (bif(Im a0 a1 a2 a3 a4) then(0:Int) else bif(Jc a0 a1 a2 a3 a4) then(0:Int) else bif(Jd a0 a1 a2 a3 a4) then(0:Int) else a2.2)) (bif(Im a0 a1 a2 a3 a4) then false else bif(Jc a0 a1 a2 a3 a4) then false else bif(Jd a0 a1 a2 a3 a4) then false else a3) (bif(Im a0 a1 a2 a3 a4) then ByteArray.mk #[] else bif(Jc a0 a1 a2 a3 a4) then ByteArray.mk #[] else bif(Jd a0 a1 a2 a3 a4) then ByteArray.mk #[] else a4) (TVec.mk (bif(Im a0 a1 a2 a3 a4) then(0:Int) else bif(Jc a0 a1 a2 a3 a4) then(0:Int) else bif(Jd a0 a1 a2 a3 a4) then a2.1 else(0:Int)) (bif(Im a0 a1 a2 a3 a4) then(0:Int) else bif(Jc a0 a1 a2 a3 a4) then(0:Int) else bif(Jd a0 a1 a2 a3 a4) then a2.2 else(0:Int)))
def Bud (a0:Int) (a1:TStamp) (a2:TVec) (a3:Bool) (a4:ByteArray):Int:=bif(Im a0 a1 a2 a3 a4) then(2:Int) else bif(Jc a0 a1 a2 a3 a4) then(3:Int) else bif(Jd a0 a1 a2 a3 a4) then(0:Int) else(0:Int)
def Ay2 (a0:Int) (a1:TStamp) (a2:TVec) (a3:Bool) (a4:ByteArray):A:=.v (.tuple ⟨[.agg ⟨[.int .i64 ((Ku a0 a1 a2 a3 a4).stamp.n),.int .i64 ((Ku a0 a1 a2 a3 a4).stamp.site),.int .i64 ((Ku a0 a1 a2 a3 a4).vec.a),.int .i64 ((Ku a0 a1 a2 a3 a4).vec.b),.bool ((Ku a0 a1 a2 a3 a4).gone),.string ((Ku a0 a1 a2 a3 a4).value),.int .i64 ((Ku a0 a1 a2 a3 a4).dead.a),.int .i64 ((Ku a0 a1 a2 a3 a4).dead.b)]⟩,.int .i64 (Bud a0 a1 a2 a3 a4)]⟩)
def Ay1 (_a0:Int) (_a1:TStamp) (_a2:TVec) (_a3:Bool) (_a4:ByteArray):Objs:=[]
def A47 (_a0:Int) (_a1:TStamp) (_a2:TVec) (_a3:Bool) (_a4:ByteArray):List Prop:=[]
set_option maxRecDepth 100000 in
theorem Bo9 (a0:Int) (a1:TStamp) (a2:TVec) (a3:Bool) (a4:ByteArray):EU (AA Bqs L0) 9 37 [Ak .i64 a0,Ak .stamp a1,Ak .vec a2,Ak .bool a3,Ak .str a4] 0 []=some (1,Ay2 a0 a1 a2 a3 a4,0,Ay1 a0 a1 a2 a3 a4,[]):=by kernel_rfl
set_option maxRecDepth 100000 in
theorem Bue (a0:Int) (a1:TStamp) (a2:TVec) (a3:Bool) (a4:ByteArray) (_hp:∀p∈A47 a0 a1 a2 a3 a4,p):CallOk Try.prog 37 [Ak .i64 a0,Ak .stamp a1,Ak .vec a2,Ak .bool a3,Ak .str a4] 0 [] 1 (Ay2 a0 a1 a2 a3 a4) 0 (Ay1 a0 a1 a2 a3 a4):=by
 exact AH (Aw Ba9 AG) (Bo9 a0 a1 a2 a3 a4) Ab
def Ay3:List A→Nat→Objs→Option A8
 | [y0,y1,y2,y3,y4],nx,o=>match AP .i64 y0,AP .stamp y1,AP .vec y2,AP .bool y3,AP .str y4 with
  |some (a0,p0),some (a1,p1),some (a2,p2),some (a3,p3),some (a4,p4)=>some (1,(Ay2 a0 a1 a2 a3 a4).pk (AF nx),nx+0,AE nx (Ay1 a0 a1 a2 a3 a4)++o,p0++(p1++(p2++(p3++(p4++(A47 a0 a1 a2 a3 a4))))))
  |_,_,_,_,_=>none
 |_,_,_=>none
theorem Bi6:Fu Try.prog 37 Ay3:=fun args nx o k x nx' o' ps h=>by
 unfold Ay3 at h
 split at h<;>first|(cases h;done)|skip
 split at h<;>first|(cases h;done)|skip
 rename_i a0 p0 a1 p1 a2 p2 a3 p3 a4 p4 e0 e1 e2 e3 e4
 cases h
 refine⟨fun hp=>?_,_,rfl⟩
 have q0:=fun p hm=>hp p (List.mem_append.2 (.inl hm))
 have r0:=fun p hm=>hp p (List.mem_append.2 (.inr hm))
 have q1:=fun p hm=>r0 p (List.mem_append.2 (.inl hm))
 have r1:=fun p hm=>r0 p (List.mem_append.2 (.inr hm))
 have q2:=fun p hm=>r1 p (List.mem_append.2 (.inl hm))
 have r2:=fun p hm=>r1 p (List.mem_append.2 (.inr hm))
 have q3:=fun p hm=>r2 p (List.mem_append.2 (.inl hm))
 have r3:=fun p hm=>r2 p (List.mem_append.2 (.inr hm))
 have q4:=fun p hm=>r3 p (List.mem_append.2 (.inl hm))
 have r4:=fun p hm=>r3 p (List.mem_append.2 (.inr hm))
 refine Ah (Ag (Bue a0 a1 a2 a3 a4 r4) (Nat.le_refl _) (Ac (Af _ _) (Ac (Af _ _) (Ac (Af _ _) (Ac (Af _ _) (Ac (Af _ _) Ao))))) nx o) fun F N R vs hl=>?_
 obtain⟨v0,w0,rfl,h0,hl⟩:=hl.inv
 obtain⟨v1,w1,rfl,h1,hl⟩:=hl.inv
 obtain⟨v2,w2,rfl,h2,hl⟩:=hl.inv
 obtain⟨v3,w3,rfl,h3,hl⟩:=hl.inv
 obtain⟨v4,w4,rfl,h4,hl⟩:=hl.inv
 exact HL.cons (Am e0 q0 h0) (HL.cons (Am e1 q1 h1) (HL.cons (Am e2 q2 h2) (HL.cons (Am e3 q3 h3) (HL.cons (Am e4 q4 h4) (hl)))))
noncomputable def Bba:=A5 37 Ay3 Bqs
theorem Aux:Df Try.prog Bba:=Av Bi6 Ba9
abbrev BA:Type:=(List TGroup)×(List TWrite)×Int×Int×TChange
def J1 (x:BA):St:=⟨132,1,[(0,.sl .group x.1),(3,.own 0 0),(73,.sl .write x.2.1),(74,.v (.int .i64 x.2.2.1)),(75,.v (.int .i64 x.2.2.2.1))],[(0,some (.box 136 [.v (.int .i64 x.2.2.2.2.site),.v (.int .i64 x.2.2.2.2.seq),.v (.int .i64 x.2.2.2.2.stamp.n),.v (.int .i64 x.2.2.2.2.stamp.site),.v (.int .i64 x.2.2.2.2.vec.a),.v (.int .i64 x.2.2.2.2.vec.b),.sl .write x.2.2.2.2.writes]))]⟩
def K8:St→Option BA
 |⟨132,1,[(0,.sl .group z0),(3,.own 0 0),(73,.sl .write z1),(74,.v (.int .i64 z2)),(75,.v (.int .i64 z3))],[(0,some (.box 136 [.v (.int .i64 z4),.v (.int .i64 z5),.v (.int .i64 z6),.v (.int .i64 z7),.v (.int .i64 z8),.v (.int .i64 z9),.sl .write z10]))]⟩=>some (z0,z1,z2,z3,⟨z4,z5,⟨z6,z7⟩,⟨z8,z9⟩,z10⟩)
 |_=>none
theorem Zo:∀s x,K8 s=some x→s=J1 x:=fun s x h=>by
 unfold K8 at h
 split at h
 ·cases h;rfl
 ·cases h
def R4:De:=⟨1,1,[0,3,73,74,75],[],[(0,0)],[0],[4],[0]⟩
def Akk:Dy:=⟨[],[(0,0)],[0,3,73,74,75],[0]⟩
def Ez (_a0:List TGroup) (_a1:List TWrite) (_a2:Int) (a3:Int) (_a4:TChange):Int:=IntKind.i64.wrap (a3 - (1:Int))
def Gl (a0:List TGroup) (a1:List TWrite) (_a2:Int) (a3:Int) (_a4:TChange):Bool:=(a1.getD a3.toNat (Ae TC.write)).1.toList==(ByteArray.mk #[]).toList||decide ((↑(a1.getD a3.toNat (Ae TC.write)).1.size:Int) >(32:Int))||decide ((a1.getD a3.toNat (Ae TC.write)).2 <(0:Int))||decide ((a1.getD a3.toNat (Ae TC.write)).2≥(↑a0.length:Int))||decide ((↑(a1.getD a3.toNat (Ae TC.write)).4.size:Int) >(64:Int))||(a1.getD a3.toNat (Ae TC.write)).3&&!(a1.getD a3.toNat (Ae TC.write)).4.toList==(ByteArray.mk #[]).toList
def CF (a0:List TGroup) (a1:List TWrite) (a2:Int) (a3:Int) (a4:TChange):Bool:=!!decide (a3 <a2)&&((Gl a0 a1 a2 a3 a4)||decide (a3 >(0:Int))&&!HJ (Jv (a4.5.getD (Ez a0 a1 a2 a3 a4).toNat (Ae TC.write))) (Jv (a1.getD a3.toNat (Ae TC.write))))
def Ab7 (a0:List TGroup) (a1:List TWrite) (a2:Int) (a3:Int) (a4:TChange):Bool:=!!decide (a3 <a2)&&!(CF a0 a1 a2 a3 a4)
def NE (a0:List TGroup) (a1:List TWrite) (a2:Int) (a3:Int) (a4:TChange):Int:=bif(Gl a0 a1 a2 a3 a4) then(120:Int) else(120:Int)
def EB (x:BA):BA:=(x.1,x.2.1,x.2.2.1,IntKind.i64.wrap (x.2.2.2.1+(1:Int)),x.2.2.2.2)
def EA (x:BA):Cnd:=some (Ab7 x.1 x.2.1 x.2.2.1 x.2.2.2.1 x.2.2.2.2)
def OB (x:BA):List Prop:=[((!!decide (x.2.2.2.1 <x.2.2.1))=true→(0:Int)≤x.2.2.2.1∧x.2.2.2.1 <(↑x.2.1.length:Int)),((!!decide (x.2.2.2.1 <x.2.2.1))=true→(!(Gl x.1 x.2.1 x.2.2.1 x.2.2.2.1 x.2.2.2.2))=true→decide (x.2.2.2.1 >(0:Int))=true→(0:Int)≤(Ez x.1 x.2.1 x.2.2.1 x.2.2.2.1 x.2.2.2.2)∧(Ez x.1 x.2.1 x.2.2.1 x.2.2.2.1 x.2.2.2.2) <(↑x.2.2.2.2.5.length:Int))]
def HI (x:BA):List Prop:=[((!!decide (x.2.2.2.1 <x.2.2.1))=true→(0:Int)≤x.2.2.2.1∧x.2.2.2.1 <(↑x.2.1.length:Int)),((!!decide (x.2.2.2.1 <x.2.2.1))=true→(!(Gl x.1 x.2.1 x.2.2.1 x.2.2.2.1 x.2.2.2.2))=true→decide (x.2.2.2.1 >(0:Int))=true→(0:Int)≤(Ez x.1 x.2.1 x.2.2.1 x.2.2.2.1 x.2.2.2.2)∧(Ez x.1 x.2.1 x.2.2.1 x.2.2.2.1 x.2.2.2.2) <(↑x.2.2.2.2.5.length:Int))]
def NF (x:BA):Bl:=[(some 0,some (!decide (x.2.2.2.1 <x.2.2.1)),⟨132,1,[(4,.dead)],[(0,some (.box 136 [.v (.int .i64 x.2.2.2.2.1),.v (.int .i64 x.2.2.2.2.2),.v (.int .i64 x.2.2.2.2.3.1),.v (.int .i64 x.2.2.2.2.3.2),.v (.int .i64 x.2.2.2.2.4.1),.v (.int .i64 x.2.2.2.2.4.2),.sl .write x.2.2.2.2.5]))]⟩),(none,some ((CF x.1 x.2.1 x.2.2.1 x.2.2.2.1 x.2.2.2.2)),⟨132,2,[(4,.v (.int .i64 (NE x.1 x.2.1 x.2.2.1 x.2.2.2.1 x.2.2.2.2)))],[(0,some (.box 136 [.v (.int .i64 x.2.2.2.2.1),.v (.int .i64 x.2.2.2.2.2),.v (.int .i64 x.2.2.2.2.3.1),.v (.int .i64 x.2.2.2.2.3.2),.v (.int .i64 x.2.2.2.2.4.1),.v (.int .i64 x.2.2.2.2.4.2),.sl .write x.2.2.2.2.5]))]⟩)]
def Gm (x:BA):Nat:=(x.2.2.1 - x.2.2.2.1).toNat
def ET (x:BA):BA:=A9 EB EA (Gm x) x
set_option maxRecDepth 100000 in
theorem Af8 (a0:List TGroup) (a1:List TWrite) (a2:Int) (a3:Int) (a4:TChange):Bx (AA Bba L0) 9 (Aj Try.prog 169 0) R4 (J1 (a0,a1,a2,a3,a4))=some (OB (a0,a1,a2,a3,a4),NF (a0,a1,a2,a3,a4),EA (a0,a1,a2,a3,a4),J1 (EB (a0,a1,a2,a3,a4))):=by kernel_rfl
set_option maxRecDepth 100000 in
theorem Af9 (a0:List TGroup) (a1:List TWrite) (a2:Int) (a3:Int) (a4:TChange) (hp:∀p∈HI (a0,a1,a2,a3,a4),p):∀p∈OB (a0,a1,a2,a3,a4),p:=by
 have n0:=N0 hp
 have n1:=N0 (N1 hp)
 exact(Aa n0 (Aa n1 Ab))
noncomputable def OC:=HU (AA Bba L0) (Aj Try.prog 169 0) R4 Akk K8 Gm EB EA HI NF
theorem Ab8:∀s b ps outs,OC s=some (b,ps,outs)→Wf s ⟨ps,outs,none⟩∧Bs (AA C0 L0) b s ps outs:=
 Bi (T:=J1) Aux AG (u:=9) (by kernel_rfl) (by decide) (fun⟨a0,a1,a2,a3,a4⟩=>Af8 a0 a1 a2 a3 a4) (fun⟨a0,a1,a2,a3,a4⟩=>Af9 a0 a1 a2 a3 a4) Zo (fun _=>AR (n:=132) rfl) fun _ _=>rfl
noncomputable def R1:=DG 0 OC L0
theorem Ab6:Hs R1:=A3 Ab8 AG
def DJ (a0:List TGroup) (_a1:TChange):Bool:=AY a0 !=(0:Int)
def DI (_a0:List TGroup) (a1:TChange):Int:=IntKind.i64.wrap (a1.1 - (1:Int))
def OA (a0:List TGroup) (a1:TChange):List TGroup:=(ET (a0,a1.5,(↑a1.5.length:Int),(0:Int),a1)).fst
def Hc (_a0:List TGroup) (a1:TChange):Bool:=decide ((↑a1.5.length:Int) <(1:Int))||decide ((↑a1.5.length:Int) >(8:Int))
def Oz (a0:List TGroup) (a1:TChange):List TWrite:=(ET (a0,a1.5,(↑a1.5.length:Int),(0:Int),a1)).snd.fst
def Oy (a0:List TGroup) (a1:TChange):Int:=(ET (a0,a1.5,(↑a1.5.length:Int),(0:Int),a1)).snd.snd.fst
def Ox (a0:List TGroup) (a1:TChange):TChange:=(ET (a0,a1.5,(↑a1.5.length:Int),(0:Int),a1)).snd.snd.snd.snd
def Ow (a0:List TGroup) (a1:TChange):Int:=(ET (a0,a1.5,(↑a1.5.length:Int),(0:Int),a1)).snd.snd.snd.fst
def Hb (a0:List TGroup) (a1:TChange):Bool:=a1.1 !=(1:Int)&&a1.1 !=(2:Int)||decide (a1.2 <(1:Int))||decide (a1.2 >(1099511627776:Int))||a1.3.2 !=a1.1||!Cc a1.3||!Bv a1.4||(bif(DI a0 a1).toNat.beq (0:Nat) then a1.4.1 else a1.4.2) !=a1.2
def QX (a0:List TGroup) (a1:TChange):Int:=bif(DJ a0 a1) then AY a0 else bif(Hb a0 a1) then(120:Int) else bif(Hc a0 a1) then(120:Int) else bif CF (OA a0 a1) (Oz a0 a1) (Oy a0 a1) (Ow a0 a1) (Ox a0 a1) then NE (OA a0 a1) (Oz a0 a1) (Oy a0 a1) (Ow a0 a1) (Ox a0 a1) else(0:Int)
def QY (a0:List TGroup) (a1:TChange):A:=.v (.int .i64 (QX a0 a1))
def ZU (_a0:List TGroup) (_a1:TChange):Objs:=[]
def Wa (a0:List TGroup) (a1:TChange):List Prop:=[((!(DJ a0 a1))=true→(a1.1 !=(1:Int)&&a1.1 !=(2:Int)||decide (a1.2 <(1:Int))||decide (a1.2 >(1099511627776:Int))||a1.3.2 !=a1.1||!Cc a1.3||!Bv a1.4)=false→(0:Int)≤(DI a0 a1)∧(DI a0 a1) <(2:Int)),((!(DJ a0 a1))=true→(!(Hb a0 a1))=true→(!(Hc a0 a1))=true→AL EB EA HI (Gm (a0,a1.5,(↑a1.5.length:Int),(0:Int),a1)) (a0,a1.5,(↑a1.5.length:Int),(0:Int),a1))]
set_option maxRecDepth 100000 in
theorem Avv (a0:List TGroup) (a1:TChange):EU (AA Bba R1) 9 169 [.sl .group a0,Ak .change a1] 0 []=some (1,QY a0 a1,0,ZU a0 a1,[((!(DJ a0 a1))=true→(a1.1 !=(1:Int)&&a1.1 !=(2:Int)||decide (a1.2 <(1:Int))||decide (a1.2 >(1099511627776:Int))||a1.3.2 !=a1.1||!Cc a1.3||!Bv a1.4)=false→(0:Int)≤(DI a0 a1)∧(DI a0 a1) <(2:Int)),((!(DJ a0 a1))=true→(a1.1 !=(1:Int)&&a1.1 !=(2:Int)||decide (a1.2 <(1:Int))||decide (a1.2 >(1099511627776:Int))||a1.3.2 !=a1.1||!Cc a1.3||!Bv a1.4)=false→(DI a0 a1).toNat <(2:Nat)),((!(DJ a0 a1))=true→(!(Hb a0 a1))=true→(!(Hc a0 a1))=true→Aj Try.prog (169:FuncId) (0:Nat)=Aj Try.prog (169:FuncId) (0:Nat)),((!(DJ a0 a1))=true→(!(Hb a0 a1))=true→(!(Hc a0 a1))=true→AL EB EA HI (Gm (a0,a1.5,(↑a1.5.length:Int),(0:Int),a1)) (a0,a1.5,(↑a1.5.length:Int),(0:Int),a1))]):=by kernel_rfl
set_option maxRecDepth 100000 in
theorem A1m (a0:List TGroup) (a1:TChange) (hp:∀p∈Wa a0 a1,p):CallOk Try.prog 169 [.sl .group a0,Ak .change a1] 0 [] 1 (QY a0 a1) 0 (ZU a0 a1):=by
 have n0:((!(DJ a0 a1))=true→(a1.1 !=(1:Int)&&a1.1 !=(2:Int)||decide (a1.2 <(1:Int))||decide (a1.2 >(1099511627776:Int))||a1.3.2 !=a1.1||!Cc a1.3||!Bv a1.4)=false→(0:Int)≤(DI a0 a1)∧(DI a0 a1) <(2:Int)):=N0 hp
 have n1:((!(DJ a0 a1))=true→(a1.1 !=(1:Int)&&a1.1 !=(2:Int)||decide (a1.2 <(1:Int))||decide (a1.2 >(1099511627776:Int))||a1.3.2 !=a1.1||!Cc a1.3||!Bv a1.4)=false→(DI a0 a1).toNat <(2:Nat)):=by intro h0 h1;have g:=n0 h0 h1;omega
 have n2:((!(DJ a0 a1))=true→(!(Hb a0 a1))=true→(!(Hc a0 a1))=true→Aj Try.prog (169:FuncId) (0:Nat)=Aj Try.prog (169:FuncId) (0:Nat)):=by intros;rfl
 have n3:=N0 (N1 hp)
 exact AH (Aw Aux Ab6) (Avv a0 a1) (Aa n0 (Aa n1 (Aa n2 (Aa n3 Ab))))
def Wb (a0:List TGroup) (a1:TChange):A:=.v (.int .i64 (NV a0 a1))
def V9 (_a0:List TGroup) (_a1:TChange):Objs:=[]
def UJ (_a0:List TGroup) (a1:TChange):List Prop:=[Az a1.writes.length]
theorem Bul {c:TChange} (h:c.site=1∨c.site=2):(bif(IntKind.i64.wrap (c.site - 1)).toNat.beq 0 then c.vec.a else c.vec.b)=bif c.site==1 then c.vec.a else c.vec.b:=by
 rcases h with h|h<;>rw[h]<;>rfl
theorem Bnp {c:TChange} (h:c.site=1∨c.site=2):(0:Int)≤IntKind.i64.wrap (c.site - 1)∧IntKind.i64.wrap (c.site - 1) <(2:Int):=by
 rcases h with h|h<;>rw[h]<;>decide
theorem Bxj {n:Int}:(n !=1&&n !=2)=false↔n=1∨n=2:=by
 constructor
 ·intro h
  rcases Decidable.em (n=1) with e|e
  ·exact .inl e
  ·rcases Decidable.em (n=2) with e2|e2
   ·exact .inr e2
   ·have h1:(n !=1)=true:=bne_iff_ne.2 e
    have h2:(n !=2)=true:=bne_iff_ne.2 e2
    rw[h1,h2] at h
    cases h
 ·rintro(rfl|rfl)<;>rfl
theorem Bmr (c:TChange):Ic c=!(c.site !=1&&c.site !=2||decide (c.seq <1)||decide (c.seq >1099511627776)||c.stamp.site !=c.site||!H2 c.stamp||!CL c.vec||(bif(IntKind.i64.wrap (c.site - 1)).toNat.beq 0 then c.vec.a else c.vec.b) !=c.seq):=by
 unfold Ic
 cases h:c.site !=1&&c.site !=2 with
 |true=>
  rw[Bool.and_eq_true,bne_iff_ne,bne_iff_ne] at h
  rw[beq_eq_false_iff_ne.2 h.1,beq_eq_false_iff_ne.2 h.2]
  rfl
 | false=>
  have hs:=Bxj.1 h
  have h1:(c.site==1||c.site==2)=true:=by rcases hs with e|e<;>rw[e]<;>rfl
  have h2:decide (c.seq <1)=!decide (1≤c.seq):=by
   rw[←decide_not];exact decide_eq_decide.2 (by omega)
  have h3:decide (c.seq >1099511627776)=!decide (c.seq≤1099511627776):=by
   rw[←decide_not];exact decide_eq_decide.2 (by omega)
  rw[h1,Bul hs,h2,h3]
  unfold bne
  cases decide (1≤c.seq)<;>cases decide (c.seq≤1099511627776)<;>cases c.stamp.site==c.site<;>cases H2 c.stamp<;>cases CL c.vec<;>simp
theorem Bys (l:List TGroup) (w:TWrite):(w.1.toList==(ByteArray.mk #[]).toList||decide ((w.1.size:Int) >(32:Int))||decide (w.2 <(0:Int))||decide (w.2≥(l.length:Int))||decide ((w.4.size:Int) >(64:Int))||w.3&&!w.4.toList==(ByteArray.mk #[]).toList)=!UG l w:=by
 have e1:(w.1.toList==(ByteArray.mk #[]).toList)=(w.key.size==0):=Rt _
 have e2:(w.4.toList==(ByteArray.mk #[]).toList)=(w.value.size==0):=Rt _
 have h1:decide ((w.1.size:Int) >(32:Int))=!decide (w.key.size≤32):=by rw[←decide_not];exact decide_eq_decide.2 (by omega)
 have h2:decide (w.2 <(0:Int))=!decide (0≤w.group):=by rw[←decide_not];exact decide_eq_decide.2 (by omega)
 have h3:decide (w.2≥(l.length:Int))=!decide (w.group <(l.length:Int)):=by rw[←decide_not];exact decide_eq_decide.2 (by omega)
 have h4:decide ((w.4.size:Int) >(64:Int))=!decide (w.value.size≤64):=by rw[←decide_not];exact decide_eq_decide.2 (by omega)
 rw[e1,e2,h1,h2,h3,h4]
 unfold UG
 cases w.key.size==0<;>cases decide (w.key.size≤32)<;>cases decide (0≤w.group)<;>cases decide (w.group <(l.length:Int))<;>cases decide (w.value.size≤64)<;>cases w.gone<;>cases w.value.size==0<;>rfl
theorem Brr (a b:TWrite):HJ (Jv a) (Jv b)=QS a b:=by
 unfold HJ Jv QS IY
 rw[←tlb]
theorem Bmi (l:List TGroup) (c:TChange) (i:Nat) (hi:i≤9223372036854775807):CF l c.writes (c.writes.length:Int) (i:Int) c=(decide (i <c.writes.length)&&PW l c.writes i):=by
 have e:CF l c.writes (c.writes.length:Int) (i:Int) c=(decide (i <c.writes.length)&&(!UG l (wN c.writes i)||decide ((i:Int) >0)&&!QS (wN c.writes (IntKind.i64.wrap ((i:Int) - 1)).toNat) (wN c.writes i))):=by
  unfold CF Gl Ez
  rw[nn,MA,Int.toNat_natCast,Brr,Bys]
  rfl
 rw[e]
 unfold PW
 cases i with
 |zero=>rfl
 |succ j=>
  have h1:(IntKind.i64.wrap (((j+1:Nat):Int) - 1)).toNat=j+1 - 1:=by rw[i64_in (by omega)];omega
  have h2:decide (((j+1:Nat):Int) >0)=decide (0 <j+1):=decide_eq_decide.2 (by omega)
  rw[h1,h2]
theorem V8 (l:List TGroup) (c:TChange) (hb:Az c.writes.length):(∀p∈Wa l c,p)∧QX l c=NV l c:=by
 unfold Az at hb
 obtain⟨h1,k,hk,hx,_,_,hb'⟩:=I6 (fun i=>((l,c.writes,(c.writes.length:Int),(i:Int),c):BA)) c.writes.length (fun i=>PW l c.writes i) EB EA HI (Gm (l,c.writes,(c.writes.length:Int),0,c)) (l,c.writes,(c.writes.length:Int),0,c) rfl (by show c.writes.length≤((c.writes.length:Int) - 0).toNat;omega)
  (fun i hi _=>by
   show((!!decide ((i:Int) <(c.writes.length:Int)))&&!CF l c.writes (c.writes.length:Int) (i:Int) c)=_
   rw[Bmi l c i (by omega),nn,MA]
   cases decide (i <c.writes.length)<;>rfl)
  (fun i hi _=>by
   show(l,c.writes,(c.writes.length:Int),IntKind.i64.wrap ((i:Int)+1),c)=(l,c.writes,(c.writes.length:Int),((i+1:Nat):Int),c)
   rw[ES (by omega)])
  (fun i hi _=>by
   have hin:(!!decide ((i:Int) <(c.writes.length:Int)))=true→(i:Int) <(c.writes.length:Int):=fun h=>by rw[nn] at h;exact of_decide_eq_true h
   refine Aa (fun h=>⟨by show(0:Int)≤(i:Int);omega,hin h⟩) (Aa (fun h _ h3=>?_) Ab)
   have h4:(i:Int) >0:=of_decide_eq_true h3
   have h5:=hin h
   show(0:Int)≤IntKind.i64.wrap ((i:Int) - 1)∧IntKind.i64.wrap ((i:Int) - 1) <(c.writes.length:Int)
   rw[i64_in (by omega)]
   omega)
 have hr:ET (l,c.writes,(c.writes.length:Int),0,c)=(l,c.writes,(c.writes.length:Int),(k:Int),c):=hx
 refine⟨Aa (fun _ h=>Bnp (Bxj.1 (by
  cases hs:c.site !=1&&c.site !=2 with
  |false=>rfl
  |true=>
   have h':(c.site !=(1:Int)&&c.site !=(2:Int)||decide (c.seq <(1:Int))||decide (c.seq >(1099511627776:Int))||c.stamp.site !=c.site||!Cc c.stamp||!Bv c.vec)=false:=h
   rw[hs] at h'
   simp at h'))) (Aa (fun _ _ _=>h1) Ab),?_⟩
 unfold QX NV
 show(bif AY l !=0 then AY l else _)=_
 congr 1
 have e0:Hb l c=!Ic c:=by
  rw[Bmr,Bool.not_not]
  unfold Hb DI
  rw[Ky,K5]
 have e5:Hc l c=!Aif c:=by
  unfold Hc Aif
  have h2:decide ((c.writes.length:Int) <(1:Int))=!decide (1≤c.writes.length):=by rw[←decide_not];exact decide_eq_decide.2 (by omega)
  have h3:decide ((c.writes.length:Int) >(8:Int))=!decide (c.writes.length≤8):=by rw[←decide_not];exact decide_eq_decide.2 (by omega)
  have h2':decide ((c.5.length:Int) <(1:Int))=!decide (1≤c.writes.length):=h2
  have h3':decide ((c.5.length:Int) >(8:Int))=!decide (c.writes.length≤8):=h3
  rw[h2',h3']
  cases decide (1≤c.writes.length)<;>cases decide (c.writes.length≤8)<;>rfl
 rw[e0,e5]
 unfold OA Oz Oy Ow Ox
 rw[hr]
 show(bif !Ic c then 120 else bif !Aif c then 120 else bif CF l c.writes (c.writes.length:Int) (k:Int) c then(bif _ then(120:Int) else 120) else 0)=_
 rw[Bmi l c k (Nat.le_trans hk hb),hb']
 have hc:∀b:Bool,(bif b then(120:Int) else 120)=120:=fun b=>by cases b<;>rfl
 rw[hc]
 cases Ic c<;>cases Aif c<;>cases Ko c.writes.length (fun i=>!PW l c.writes i)<;>rfl
theorem Avu (a0:List TGroup) (a1:TChange) (hp:∀p∈UJ a0 a1,p):CallOk Try.prog 169 [.sl .group a0,Ak .change a1] 0 [] 1 (Wb a0 a1) 0 (V9 a0 a1):=by
 have hb:Az a1.writes.length:=hp _ (List.mem_cons_self ..)
 have h:=A1m a0 a1 (V8 a0 a1 hb).1
 unfold QY at h
 rw[(V8 a0 a1 hb).2] at h
 exact h
def QZ:List A→Nat→Objs→Option A8
 | [y0,y1],nx,o=>match Kp .group y0,AP .change y1 with
  |some a0,some (a1,p1)=>some (1,(Wb a0 a1).pk (AF nx),nx+0,AE nx (V9 a0 a1)++o,p1++(UJ a0 a1))
  |_,_=>none
 |_,_,_=>none
theorem Ars:Fu Try.prog 169 QZ:=fun args nx o k x nx' o' ps h=>by
 unfold QZ at h
 split at h<;>first|(cases h;done)|skip
 split at h<;>first|(cases h;done)|skip
 rename_i a0 a1 p1 e0 e1
 cases h
 refine⟨fun hp=>?_,_,rfl⟩
 have q1:=fun p hm=>hp p (List.mem_append.2 (.inl hm))
 have r1:=fun p hm=>hp p (List.mem_append.2 (.inr hm))
 refine Ah (Ag (Avu a0 a1 r1) (Nat.le_refl _) (Ac rfl (Ac (Af _ _) Ao)) nx o) fun F N R vs hl=>?_
 obtain⟨v0,w0,rfl,h0,hl⟩:=hl.inv
 obtain⟨v1,w1,rfl,h1,hl⟩:=hl.inv
 exact HL.cons (Cx e0 h0) (HL.cons (Am e1 q1 h1) (hl))
noncomputable def Bbb:=A5 169 QZ Bba
theorem Auy:Df Try.prog Bbb:=Av Ars Aux
abbrev CD:Type:=(List TGroup)×Int×TChange
def MO (x:CD):St:=⟨107,1,[(0,.sl .group x.1),(3,.own 0 0),(6,.v (.int .i64 x.2.1))],[(0,some (.box 136 [.v (.int .i64 x.2.2.site),.v (.int .i64 x.2.2.seq),.v (.int .i64 x.2.2.stamp.n),.v (.int .i64 x.2.2.stamp.site),.v (.int .i64 x.2.2.vec.a),.v (.int .i64 x.2.2.vec.b),.sl .write x.2.2.writes]))]⟩
def PD:St→Option CD
 |⟨107,1,[(0,.sl .group z0),(3,.own 0 0),(6,.v (.int .i64 z1))],[(0,some (.box 136 [.v (.int .i64 z2),.v (.int .i64 z3),.v (.int .i64 z4),.v (.int .i64 z5),.v (.int .i64 z6),.v (.int .i64 z7),.sl .write z8]))]⟩=>some (z0,z1,⟨z2,z3,⟨z4,z5⟩,⟨z6,z7⟩,z8⟩)
 |_=>none
theorem Anp:∀s x,PD s=some x→s=MO x:=fun s x h=>by
 unfold PD at h
 split at h
 ·cases h;rfl
 ·cases h
def Abb:De:=⟨1,1,[0,3,6],[],[(0,0)],[0],[4],[0]⟩
def A26:Dy:=⟨[],[(0,0)],[0,3,6],[0]⟩
def GY (_a0:List TGroup) (a1:Int) (_a2:TChange):Int:=IntKind.i64.wrap (a1 - (1:Int))
def Dn (_a0:List TGroup) (a1:Int) (a2:TChange):Bool:=!!decide (a1 <(↑a2.5.length:Int))
def D9 (a0:List TGroup) (a1:Int) (a2:TChange):Bool:=(Dn a0 a1 a2)&&(!IH a0 (a2.5.getD a1.toNat (Ae TC.write))||decide (a1 >(0:Int))&&!QJ (a2.5.getD (GY a0 a1 a2).toNat (Ae TC.write)) (a2.5.getD a1.toNat (Ae TC.write)))
def Atw (a0:List TGroup) (a1:Int) (a2:TChange):Bool:=(Dn a0 a1 a2)&&!(D9 a0 a1 a2)
def G0 (x:CD):CD:=(x.1,IntKind.i64.wrap (x.2.1+(1:Int)),x.2.2)
def GZ (x:CD):Cnd:=some (Atw x.1 x.2.1 x.2.2)
def Vx (x:CD):List Prop:=[((Dn x.1 x.2.1 x.2.2)=true→(0:Int)≤x.2.1∧x.2.1 <(↑x.2.2.5.length:Int)),((Dn x.1 x.2.1 x.2.2)=true→decide (x.2.1 >(0:Int))=true→(!IH x.1 (x.2.2.5.getD x.2.1.toNat (Ae TC.write)))=false→(0:Int)≤(GY x.1 x.2.1 x.2.2)∧(GY x.1 x.2.1 x.2.2) <(↑x.2.2.5.length:Int)),((Dn x.1 x.2.1 x.2.2)=true→decide (x.2.1 >(0:Int))=true→(!IH x.1 (x.2.2.5.getD x.2.1.toNat (Ae TC.write)))=false→(0:Int)≤x.2.1∧x.2.1 <(↑x.2.2.5.length:Int))]
def JU (x:CD):List Prop:=[((Dn x.1 x.2.1 x.2.2)=true→(0:Int)≤x.2.1∧x.2.1 <(↑x.2.2.5.length:Int)),((Dn x.1 x.2.1 x.2.2)=true→decide (x.2.1 >(0:Int))=true→(!IH x.1 (x.2.2.5.getD x.2.1.toNat (Ae TC.write)))=false→(0:Int)≤(GY x.1 x.2.1 x.2.2)∧(GY x.1 x.2.1 x.2.2) <(↑x.2.2.5.length:Int)),((Dn x.1 x.2.1 x.2.2)=true→decide (x.2.1 >(0:Int))=true→(!IH x.1 (x.2.2.5.getD x.2.1.toNat (Ae TC.write)))=false→(0:Int)≤x.2.1∧x.2.1 <(↑x.2.2.5.length:Int))]
def Ti (x:CD):Bl:=[(some 0,some (!decide (x.2.1 <(↑x.2.2.5.length:Int))),⟨107,1,[(4,.dead)],[(0,some (.box 136 [.v (.int .i64 x.2.2.1),.v (.int .i64 x.2.2.2),.v (.int .i64 x.2.2.3.1),.v (.int .i64 x.2.2.3.2),.v (.int .i64 x.2.2.4.1),.v (.int .i64 x.2.2.4.2),.sl .write x.2.2.5]))]⟩),(none,some ((D9 x.1 x.2.1 x.2.2)),⟨107,1,[(4,.v (.int .i64 ((120:Int))))],[(0,some (.box 136 [.v (.int .i64 x.2.2.1),.v (.int .i64 x.2.2.2),.v (.int .i64 x.2.2.3.1),.v (.int .i64 x.2.2.3.2),.v (.int .i64 x.2.2.4.1),.v (.int .i64 x.2.2.4.2),.sl .write x.2.2.5]))]⟩)]
def Iu (x:CD):Nat:=((↑x.2.2.5.length:Int) - x.2.1).toNat
def Aty (x:CD):CD:=A9 G0 GZ (Iu x) x
set_option maxRecDepth 100000 in
theorem A0a (a0:List TGroup) (a1:Int) (a2:TChange):Bx (AA Bbb L0) 9 (Aj Try.prog 171 0) Abb (MO (a0,a1,a2))=some (Vx (a0,a1,a2),Ti (a0,a1,a2),GZ (a0,a1,a2),MO (G0 (a0,a1,a2))):=by kernel_rfl
set_option maxRecDepth 100000 in
theorem A0b (a0:List TGroup) (a1:Int) (a2:TChange) (hp:∀p∈JU (a0,a1,a2),p):∀p∈Vx (a0,a1,a2),p:=by
 have n0:=N0 hp
 have n1:=N0 (N1 hp)
 have n2:=N0 (N1 (N1 hp))
 exact(Aa n0 (Aa n1 (Aa n2 Ab)))
noncomputable def Vy:=HU (AA Bbb L0) (Aj Try.prog 171 0) Abb A26 PD Iu G0 GZ JU Ti
theorem Atx:∀s b ps outs,Vy s=some (b,ps,outs)→Wf s ⟨ps,outs,none⟩∧Bs (AA C0 L0) b s ps outs:=
 Bi (T:=MO) Auy AG (u:=9) (by kernel_rfl) (by decide) (fun⟨a0,a1,a2⟩=>A0a a0 a1 a2) (fun⟨a0,a1,a2⟩=>A0b a0 a1 a2) Anp (fun _=>AR (n:=107) rfl) fun _ _=>rfl
noncomputable def Aba:=DG 0 Vy L0
theorem Atv:Hs Aba:=A3 Atx AG
def GF (a0:List TGroup) (_a1:TChange):Bool:=AY a0 !=(0:Int)
def GE (_a0:List TGroup) (a1:TChange):Int:=IntKind.i64.wrap (a1.1 - (1:Int))
def QI (a0:List TGroup) (a1:TChange):CD:=Aty (a0,(0:Int),a1)
def JT (a0:List TGroup) (a1:TChange):Bool:=a1.1 !=(1:Int)&&a1.1 !=(2:Int)||decide (a1.2 <(1:Int))||decide (a1.2 >(1099511627776:Int))||!Ho a1.3||a1.3.2 !=a1.1||!E0 a1.4||(bif(GE a0 a1).toNat.beq (0:Nat) then a1.4.1 else a1.4.2) !=a1.2||decide ((↑a1.5.length:Int) <(1:Int))||decide ((↑a1.5.length:Int) >(8:Int))
def Aey (a0:List TGroup) (a1:TChange):Int:=bif(GF a0 a1) then AY a0 else bif(JT a0 a1) then(120:Int) else bif D9 (QI a0 a1).fst (QI a0 a1).snd.fst (QI a0 a1).snd.snd then(120:Int) else(0:Int)
def Aez (a0:List TGroup) (a1:TChange):A:=.v (.int .i64 (Aey a0 a1))
def A0c (_a0:List TGroup) (_a1:TChange):Objs:=[]
def Aqv (a0:List TGroup) (a1:TChange):List Prop:=[(∀(g:TGroup),g∈a0→Az g.1.size),((!(GF a0 a1))=true→(a1.1 !=(1:Int)&&a1.1 !=(2:Int)||decide (a1.2 <(1:Int))||decide (a1.2 >(1099511627776:Int))||!Ho a1.3||a1.3.2 !=a1.1||!E0 a1.4)=false→(0:Int)≤(GE a0 a1)∧(GE a0 a1) <(2:Int)),((!(GF a0 a1))=true→(!(JT a0 a1))=true→AL G0 GZ JU (Iu (a0,(0:Int),a1)) (a0,(0:Int),a1))]
set_option maxRecDepth 100000 in
theorem Bfw (a0:List TGroup) (a1:TChange):EU (AA Bbb Aba) 9 171 [.sl .group a0,Ak .change a1] 0 []=some (1,Aez a0 a1,0,A0c a0 a1,[(∀(g:TGroup),g∈a0→Az g.1.size),((!(GF a0 a1))=true→(a1.1 !=(1:Int)&&a1.1 !=(2:Int)||decide (a1.2 <(1:Int))||decide (a1.2 >(1099511627776:Int))||!Ho a1.3||a1.3.2 !=a1.1||!E0 a1.4)=false→(0:Int)≤(GE a0 a1)∧(GE a0 a1) <(2:Int)),((!(GF a0 a1))=true→(a1.1 !=(1:Int)&&a1.1 !=(2:Int)||decide (a1.2 <(1:Int))||decide (a1.2 >(1099511627776:Int))||!Ho a1.3||a1.3.2 !=a1.1||!E0 a1.4)=false→(GE a0 a1).toNat <(2:Nat)),((!(GF a0 a1))=true→(!(JT a0 a1))=true→Aj Try.prog (171:FuncId) (0:Nat)=Aj Try.prog (171:FuncId) (0:Nat)),((!(GF a0 a1))=true→(!(JT a0 a1))=true→AL G0 GZ JU (Iu (a0,(0:Int),a1)) (a0,(0:Int),a1))]):=by kernel_rfl
set_option maxRecDepth 100000 in
theorem Bjy (a0:List TGroup) (a1:TChange) (hp:∀p∈Aqv a0 a1,p):CallOk Try.prog 171 [.sl .group a0,Ak .change a1] 0 [] 1 (Aez a0 a1) 0 (A0c a0 a1):=by
 have n0:=N0 hp
 have n1:((!(GF a0 a1))=true→(a1.1 !=(1:Int)&&a1.1 !=(2:Int)||decide (a1.2 <(1:Int))||decide (a1.2 >(1099511627776:Int))||!Ho a1.3||a1.3.2 !=a1.1||!E0 a1.4)=false→(0:Int)≤(GE a0 a1)∧(GE a0 a1) <(2:Int)):=N0 (N1 hp)
 have n2:((!(GF a0 a1))=true→(a1.1 !=(1:Int)&&a1.1 !=(2:Int)||decide (a1.2 <(1:Int))||decide (a1.2 >(1099511627776:Int))||!Ho a1.3||a1.3.2 !=a1.1||!E0 a1.4)=false→(GE a0 a1).toNat <(2:Nat)):=by intro h0 h1;have g:=n1 h0 h1;omega
 have n3:((!(GF a0 a1))=true→(!(JT a0 a1))=true→Aj Try.prog (171:FuncId) (0:Nat)=Aj Try.prog (171:FuncId) (0:Nat)):=by intros;rfl
 have n4:=N0 (N1 (N1 hp))
 exact AH (Aw Auy Atv) (Bfw a0 a1) (Aa n0 (Aa n1 (Aa n2 (Aa n3 (Aa n4 Ab)))))
def Aqw (a0:List TGroup) (a1:TChange):A:=.v (.int .i64 (NV a0 a1))
def Aqu (_a0:List TGroup) (_a1:TChange):Objs:=[]
def Ajg (a0:List TGroup) (a1:TChange):List Prop:=[Az a1.writes.length,∀g∈a0,Az g.1.size]
theorem Bha (a b:TWrite):QJ a b=QS a b:=by
 unfold QJ QS IY
 rw[tlb]
 cases h:a.key==b.key with
 |true=>
  obtain e:=eq_of_beq h
  have e':a.1=b.1:=e
  rw[e',TB]
  rfl
 |false=>
  show Op.bytesLess a.1.toList b.1.toList=(Op.bytesLess a.1.toList b.1.toList||false)
  rw[Bool.or_false]
theorem Bkw (l:List TGroup) (w:TWrite):IH l w=UG l w:=by
 have e2:(w.4.toList==(ByteArray.mk #[]).toList)=(w.value.size==0):=Rt _
 unfold IH UG
 rw[e2]
 have h1:(Sm w.1==(0:Int))=(!(w.key.size==0)&&decide (w.key.size≤32)):=by
  unfold Sm
  show((bif w.key.size==0 then(2:Int) else bif decide (32 <w.key.size) then 3 else 0)==0)=_
  have h2:decide (32 <w.key.size)=!decide (w.key.size≤32):=by rw[←decide_not];exact decide_eq_decide.2 (by omega)
  rw[h2]
  cases w.key.size==0<;>cases decide (w.key.size≤32)<;>rfl
 have h4:decide ((w.4.size:Int)≤(64:Int))=decide (w.value.size≤64):=decide_eq_decide.2 (by omega)
 have h3:decide (w.2≥(0:Int))=decide (0≤w.group):=rfl
 rw[h1,h4,h3]
theorem Bnh (l:List TGroup) (c:TChange) (i:Nat) (hi:i≤9223372036854775807):D9 l (i:Int) c=(decide (i <c.writes.length)&&PW l c.writes i):=by
 have e:D9 l (i:Int) c=(decide (i <c.writes.length)&&(!UG l (wN c.writes i)||decide ((i:Int) >0)&&!QS (wN c.writes (IntKind.i64.wrap ((i:Int) - 1)).toNat) (wN c.writes i))):=by
  unfold D9 Dn GY
  rw[nn,MA,Int.toNat_natCast,Bha,Bkw]
  rfl
 rw[e]
 unfold PW
 cases i with
 |zero=>rfl
 |succ j=>
  have h1:(IntKind.i64.wrap (((j+1:Nat):Int) - 1)).toNat=j+1 - 1:=by rw[i64_in (by omega)];omega
  have h2:decide (((j+1:Nat):Int) >0)=decide (0 <j+1):=decide_eq_decide.2 (by omega)
  rw[h1,h2]
theorem Aqt (l:List TGroup) (c:TChange) (hb:Az c.writes.length) (hw:∀g∈l,Az g.1.size):(∀p∈Aqv l c,p)∧Aey l c=NV l c:=by
 unfold Az at hb
 obtain⟨h1,k,hk,hx,_,_,hb'⟩:=I6 (fun i=>((l,(i:Int),c):CD)) c.writes.length (fun i=>PW l c.writes i) G0 GZ JU (Iu (l,0,c)) (l,0,c) rfl (by show c.writes.length≤((c.writes.length:Int) - 0).toNat;omega)
  (fun i hi _=>by
   show((!!decide ((i:Int) <(c.writes.length:Int)))&&!D9 l (i:Int) c)=_
   rw[Bnh l c i (by omega),nn,MA]
   cases decide (i <c.writes.length)<;>rfl)
  (fun i hi _=>by
   show(l,IntKind.i64.wrap ((i:Int)+1),c)=(l,((i+1:Nat):Int),c)
   rw[ES (by omega)])
  (fun i hi _=>by
   have hin:(!!decide ((i:Int) <(c.writes.length:Int)))=true→(i:Int) <(c.writes.length:Int):=fun h=>by rw[nn] at h;exact of_decide_eq_true h
   refine Aa (fun h=>⟨by show(0:Int)≤(i:Int);omega,hin h⟩) (Aa (fun h h3 _=>?_) (Aa (fun h _ _=>⟨by show(0:Int)≤(i:Int);omega,hin h⟩) Ab))
   have h4:(i:Int) >0:=of_decide_eq_true h3
   have h5:=hin h
   show(0:Int)≤IntKind.i64.wrap ((i:Int) - 1)∧IntKind.i64.wrap ((i:Int) - 1) <(c.writes.length:Int)
   rw[i64_in (by omega)]
   omega)
 have hr:QI l c=(l,(k:Int),c):=hx
 refine⟨Aa hw (Aa (fun _ h=>Bnp (Bxj.1 (by
  cases hs:c.site !=1&&c.site !=2 with
  |false=>rfl
  |true=>
   have h':(c.site !=(1:Int)&&c.site !=(2:Int)||decide (c.seq <(1:Int))||decide (c.seq >(1099511627776:Int))||!Ho c.stamp||c.stamp.site !=c.site||!E0 c.vec)=false:=h
   rw[hs] at h'
   simp at h'))) (Aa (fun _ _=>h1) Ab)),?_⟩
 unfold Aey NV
 show(bif AY l !=0 then AY l else _)=_
 congr 1
 have e0:JT l c=(!Ic c||!Aif c):=by
  rw[Bmr,Bool.not_not]
  unfold JT GE Aif
  rw[XQ,QB]
  have h2:decide ((c.5.length:Int) <(1:Int))=!decide (1≤c.writes.length):=by rw[←decide_not];exact decide_eq_decide.2 (by show(c.writes.length:Int) <1↔_;omega)
  have h3:decide ((c.5.length:Int) >(8:Int))=!decide (c.writes.length≤8):=by rw[←decide_not];exact decide_eq_decide.2 (by show(c.writes.length:Int) >8↔_;omega)
  rw[h2,h3]
  show(_||_||_||!H2 c.stamp||c.stamp.site !=c.site||_||_||_||_)=(_||_||_||c.stamp.site !=c.site||!H2 c.stamp||_||_||_)
  cases H2 c.stamp<;>cases c.stamp.site !=c.site<;>cases decide (1≤c.writes.length)<;>cases decide (c.writes.length≤8)<;>simp
 rw[e0,hr]
 show(bif !Ic c||!Aif c then 120 else bif D9 l (k:Int) c then 120 else 0)=_
 rw[Bnh l c k (Nat.le_trans hk hb),hb']
 cases Ic c<;>cases Aif c<;>cases Ko c.writes.length (fun i=>!PW l c.writes i)<;>rfl
theorem Bfv (a0:List TGroup) (a1:TChange) (hp:∀p∈Ajg a0 a1,p):CallOk Try.prog 171 [.sl .group a0,Ak .change a1] 0 [] 1 (Aqw a0 a1) 0 (Aqu a0 a1):=by
 have hb:Az a1.writes.length:=hp _ (List.mem_cons_self ..)
 have hw:∀g∈a0,Az g.1.size:=hp _ (List.mem_cons_of_mem _ (List.mem_cons_self ..))
 have h:=Bjy a0 a1 (Aqt a0 a1 hb hw).1
 unfold Aez at h
 rw[(Aqt a0 a1 hb hw).2] at h
 exact h
def Ae0:List A→Nat→Objs→Option A8
 | [y0,y1],nx,o=>match Kp .group y0,AP .change y1 with
  |some a0,some (a1,p1)=>some (1,(Aqw a0 a1).pk (AF nx),nx+0,AE nx (Aqu a0 a1)++o,p1++(Ajg a0 a1))
  |_,_=>none
 |_,_,_=>none
theorem A9l:Fu Try.prog 171 Ae0:=fun args nx o k x nx' o' ps h=>by
 unfold Ae0 at h
 split at h<;>first|(cases h;done)|skip
 split at h<;>first|(cases h;done)|skip
 rename_i a0 a1 p1 e0 e1
 cases h
 refine⟨fun hp=>?_,_,rfl⟩
 have q1:=fun p hm=>hp p (List.mem_append.2 (.inl hm))
 have r1:=fun p hm=>hp p (List.mem_append.2 (.inr hm))
 refine Ah (Ag (Bfv a0 a1 r1) (Nat.le_refl _) (Ac rfl (Ac (Af _ _) Ao)) nx o) fun F N R vs hl=>?_
 obtain⟨v0,w0,rfl,h0,hl⟩:=hl.inv
 obtain⟨v1,w1,rfl,h1,hl⟩:=hl.inv
 exact HL.cons (Cx e0 h0) (HL.cons (Am e1 q1 h1) (hl))
noncomputable def By0:=A5 171 Ae0 Bbb
theorem Bqt:Df Try.prog By0:=Av A9l Auy
noncomputable def Cch:=By0
theorem Bqu:Df Try.prog Cch:=Bqt
end Go.Proofs.Yteebobbhhgmeiaa
namespace Go.Proofs.Yteebobbhhgmeiaa
open Go.RowKit
def TA (z:Option TRow) (xs:List (Option TRow)):Option TRow:=xs.foldl LI z
section
variable {l:List TGroup} {k:ByteArray}
theorem A8l:∀{xs:List (Option TRow)} {z:Option TRow},OkO l k z→(∀x∈xs,OkO l k x)→OkO l k (TA z xs)
 | [],_,hz,_=>hz
 |x::xs,_,hz,hx=>A8l (xs:=xs) (Xz hz (hx x (List.mem_cons_self ..))) fun y hy=>hx y (List.mem_cons_of_mem _ hy)
def Inn (z x:Option TRow):Prop:=LI z x=z
theorem Bs2 {z x y:Option TRow} (hz:OkO l k z) (hx:OkO l k x) (hy:OkO l k y) (h:Inn z x):Inn (LI z y) x:=by
 show LI (LI z y) x=LI z y
 rw[Ue hz hy hx,A44 hy hx,←Ue hz hx hy,show LI z x=z from h]
theorem Bmt:∀{xs:List (Option TRow)} {z x:Option TRow},OkO l k z→OkO l k x→(∀y∈xs,OkO l k y)→Inn z x→Inn (TA z xs) x
 | [],_,_,_,_,_,h=>h
 |y::xs,_,_,hz,hx,hy,h=>Bmt (xs:=xs) (Xz hz (hy y (List.mem_cons_self ..))) hx (fun w hw=>hy w (List.mem_cons_of_mem _ hw)) (Bs2 hz hx (hy y (List.mem_cons_self ..)) h)
theorem A67:∀{xs:List (Option TRow)} {z x:Option TRow},OkO l k z→(∀y∈xs,OkO l k y)→x∈xs→Inn (TA z xs) x
 | y::xs,z,x,hz,hy,hm=>by
  have h1:=hy y (List.mem_cons_self ..)
  have h2:=fun w hw=>hy w (List.mem_cons_of_mem _ hw)
  rcases List.mem_cons.1 hm with rfl|hm
  ·refine Bmt (xs:=xs) (z:=LI z x) (Xz hz h1) h1 h2 ?_
   show LI (LI z x) x=LI z x
   rw[Ue hz h1 h1,Boz h1]
  ·exact A67 (xs:=xs) (z:=LI z y) (Xz hz h1) h2 hm
theorem Acn:∀{xs:List (Option TRow)} {u z:Option TRow},OkO l k u→OkO l k z→(∀y∈xs,OkO l k y)→Inn u z→(∀y∈xs,Inn u y)→Inn u (TA z xs)
 | [],_,_,_,_,_,h,_=>h
 |y::xs,u,z,hu,hz,hy,h,hi=>by
  have h1:=hy y (List.mem_cons_self ..)
  refine Acn (xs:=xs) hu (Xz hz h1) (fun w hw=>hy w (List.mem_cons_of_mem _ hw)) ?_ fun w hw=>hi w (List.mem_cons_of_mem _ hw)
  show LI u (LI z y)=u
  rw[←Ue hu hz h1,show LI u z=u from h]
  exact hi y (List.mem_cons_self ..)
theorem Bn2 {xs ys:List (Option TRow)} (hx:∀x∈xs,OkO l k x) (hy:∀y∈ys,OkO l k y) (h:∀z,z∈xs↔z∈ys):TA none xs=TA none ys:=by
 have n:OkO l k none:=trivial
 have o1:=A8l (z:=none) n hx
 have o2:=A8l (z:=none) n hy
 have a1:Inn (TA none xs) (TA none ys):=Acn o1 n hy (Zc _) fun y hm=>A67 n hx ((h y).2 hm)
 have a2:Inn (TA none ys) (TA none xs):=Acn o2 n hx (Zc _) fun y hm=>A67 n hy ((h y).1 hm)
 have b1:LI (TA none xs) (TA none ys)=TA none xs:=a1
 have b2:LI (TA none ys) (TA none xs)=TA none ys:=a2
 rw[←b1,A44 o1 o2,b2]
end
def nb (rows:List TRow):List TRow:=rows.filter fun r=>!FG r
def stF (ss:List (List TRow)):List TRow:=ss.foldl (fun out rows=>mrg (out.length+(nb rows).length) out (nb rows)) []
def stG (z:List TRow) (ss:List (List TRow)):List TRow:=ss.foldl (fun out rows=>mrg (out.length+(nb rows).length) out (nb rows)) z
theorem B1g {l:List TGroup} {rows:List TRow} (hr:On rows) (hg:∀r∈rows,Ap l r=0):Stt l (nb rows):=by
 refine⟨List.Pairwise.filter _ hr,fun r hm=>?_⟩
 obtain⟨h1,h2⟩:=List.mem_filter.1 hm
 exact⟨hg r h1,by simpa using h2⟩
theorem Bnr {l:List TGroup}:∀{ss:List (List TRow)} {z:List TRow},Stt l z→(∀s∈ss,Stt l (nb s))→Stt l (stG z ss)
 | [],_,hz,_=>hz
 |s::ss,_,hz,h=>Bnr (ss:=ss) (hz.mrg _ (h s (List.mem_cons_self ..))) fun t ht=>h t (List.mem_cons_of_mem _ ht)
theorem Bur {l:List TGroup} (k:ByteArray):∀{ss:List (List TRow)} {z:List TRow},Stt l z→(∀s∈ss,Stt l (nb s))→Tw (stG z ss) k=TA (Tw z k) (ss.map fun s=>Tw (nb s) k)
 | [],_,_,_=>rfl
 |s::ss,z,hz,h=>by
  have h1:=h s (List.mem_cons_self ..)
  show Tw (stG (mrg (z.length+(nb s).length) z (nb s)) ss) k=TA (LI (Tw z k) (Tw (nb s) k)) (ss.map fun s=>Tw (nb s) k)
  rw[Bur k (ss:=ss) (hz.mrg _ h1) fun t ht=>h t (List.mem_cons_of_mem _ ht),SW _ hz.rise h1.rise (Nat.le_refl _)]
theorem Bnq {l:List TGroup} {ss:List (List TRow)} (h:∀s∈ss,Stt l (nb s)):Stt l (stF ss):=Bnr (Auw l) h
theorem Bup {l:List TGroup} {ss:List (List TRow)} (h:∀s∈ss,Stt l (nb s)) (k:ByteArray):Tw (stF ss) k=TA none (ss.map fun s=>Tw (nb s) k):=Bur k (Auw l) h
theorem Buq {l:List TGroup} {ss ts:List (List TRow)} (hs:∀s∈ss,Stt l (nb s)) (ht:∀t∈ts,Stt l (nb t)) (h:∀z,z∈ss↔z∈ts):stF ss=stF ts:=by
 refine Bf2 (Bnq hs).rise (Bnq ht).rise fun k=>?_
 rw[Bup hs,Bup ht]
 refine Bn2 (l:=l) (k:=k) (fun x hx=>?_) (fun x hx=>?_) fun x=>?_
 ·obtain⟨s,h1,rfl⟩:=List.mem_map.1 hx
  exact Btu (hs s h1) k
 ·obtain⟨s,h1,rfl⟩:=List.mem_map.1 hx
  exact Btu (ht s h1) k
 ·rw[List.mem_map,List.mem_map]
  constructor
  ·rintro⟨s,h1,h2⟩;exact⟨s,(h s).1 h1,h2⟩
  ·rintro⟨s,h1,h2⟩;exact⟨s,(h s).2 h1,h2⟩
end Go.Proofs.Yteebobbhhgmeiaa
namespace Go.Proofs.Yteebobbhhgmeiaa
open Go.RowKit
def ofC (p:Int) (s:TStamp) (v:TVec) (g:Bool) (x:ByteArray):TCell:=bif p==2&&g then⟨⟨0,0⟩,⟨0,0⟩,false,⟨#[]⟩,v⟩ else⟨s,v,g,x,⟨0,0⟩⟩
def Af2 (l:List TGroup) (c:TChange) (w:TWrite):TCell:=ofC (Ac6 l w.group.toNat) c.stamp c.vec w.gone w.value
def A8h (l:List TGroup) (k:ByteArray):TRow:=⟨k,List.replicate l.length zeroC⟩
def Ao4 (o:List TRow):TRow:=BU o (o.length - 1)
def KU (l:List TGroup) (o:List TRow) (k:ByteArray):List TRow:=bif(o.length==0)||!((Ao4 o).key==k) then o++[A8h l k] else o
def Biw (l:List TGroup) (c:TChange) (o:List TRow) (w:TWrite):List TRow:=o.set (o.length - 1) ⟨(Ao4 o).key,(Ao4 o).cells.set w.group.toNat (Af2 l c w)⟩
def VI (l:List TGroup) (c:TChange) (o:List TRow) (w:TWrite):List TRow:=Biw l c (KU l o w.key) w
def YU (l:List TGroup) (c:TChange):Nat→List TRow
 |0=>[]
 |i+1=>VI l c (YU l c i) (wN c.writes i)
def PR (l:List TGroup) (c:TChange):List TRow:=bif NV l c==0 then YU l c c.writes.length else[]
theorem Bcl {l:List TGroup} {c:TChange}:NV l c=0↔AY l=0∧Ic c=true∧Aif c=true∧∀i,i <c.writes.length→PW l c.writes i=false:=by
 unfold NV
 cases h:AY l !=0 with
 |true=>
  rw[cond_true]
  have h':AY l≠0:=by simpa using h
  exact⟨fun e=>absurd e h',fun e=>absurd e.1 h'⟩
 | false=>
  have h':AY l=0:=by simpa using h
  rw[cond_false]
  cases h1:Ic c with
  |false=>exact⟨fun e=>(by cases e),fun e=>by cases e.2.1⟩
  | true=>
   cases h2:Aif c with
   |false=>exact⟨fun e=>(by cases e),fun e=>by cases e.2.2.1⟩
   | true=>
    rw[Bool.true_and,Bool.true_and]
    cases h3:Ko c.writes.length (fun i=>!PW l c.writes i) with
    |false=>
     refine⟨fun e=>(by cases e),fun e=>?_⟩
     have:Ko c.writes.length (fun i=>!PW l c.writes i)=true:=IU.2 fun i hi=>by rw[e.2.2.2 i hi];rfl
     rw[this] at h3
     cases h3
    |true=>exact⟨fun _=>⟨h',rfl,rfl,fun i hi=>by simpa using IU.1 h3 i hi⟩,fun _=>rfl⟩
theorem Aj9 {l:List TGroup} {w:TWrite} (h:UG l w=true):w.key.size≠0∧w.key.size≤32∧0≤w.group∧w.group <(l.length:Int)∧w.value.size≤64∧(w.gone=true→w.value.size=0):=by
 unfold UG at h
 simp only[Bool.and_eq_true,Bool.not_eq_true',beq_eq_false_iff_ne,decide_eq_true_eq,Bool.or_eq_true,beq_iff_eq] at h
 obtain⟨⟨⟨⟨⟨h1,h2⟩,h3⟩,h4⟩,h5⟩,h6⟩:=h
 exact⟨h1,h2,h3,h4,h5,fun e=>by rcases h6 with h6|h6<;>first|exact h6|(rw[e] at h6;cases h6)⟩
theorem Avd {l:List TGroup} {ws:List TWrite} {i:Nat} (h:PW l ws i=false):UG l (wN ws i)=true∧(0 <i→QS (wN ws (i - 1)) (wN ws i)=true):=by
 unfold PW at h
 rw[Bool.or_eq_false_iff] at h
 refine⟨by simpa using h.1,fun hi=>?_⟩
 have:=h.2
 rw[decide_eq_true hi,Bool.true_and] at this
 simpa using this
theorem Ak2 {c:TChange} (h:Ic c=true):(c.site=1∨c.site=2)∧1≤c.seq∧c.seq≤1099511627776∧c.stamp.site=c.site∧H2 c.stamp=true∧CL c.vec=true:=by
 unfold Ic at h
 simp only[Bool.and_eq_true,Bool.or_eq_true,beq_iff_eq,decide_eq_true_eq] at h
 obtain⟨⟨⟨⟨⟨⟨h1,h2⟩,h3⟩,h4⟩,h5⟩,h6⟩,_⟩:=h
 exact⟨h1,h2,h3,h4,h5,h6⟩
theorem Bsv {c:TChange} (h:Ic c=true):0 <c.stamp.n:=by
 obtain⟨h1,_,_,h4,h5,_⟩:=Ak2 h
 unfold H2 at h5
 have hs:(c.stamp.site==0)=false:=beq_eq_false_iff_ne.2 (by rw[h4];rcases h1 with e|e<;>rw[e]<;>decide)
 rw[hs,Bool.and_false,cond_false] at h5
 simp only[Bool.and_eq_true,decide_eq_true_eq] at h5
 omega
theorem Bng {l:List TGroup} (hp:AY l=0) {g:Nat} (hg:g <l.length):Ac6 l g=1∨Ac6 l g=2:=by
 have h:Ap l ⟨⟨#[1]⟩,List.replicate l.length zeroC⟩=0:=by
  rw[P8]
  unfold VS Sm
  rw[hp]
  rfl
 have h1:=JB h hg
 unfold Bz at h1
 by_cases e1:Ac6 l g=1
 ·exact .inl e1
 by_cases e2:Ac6 l g=2
 ·exact .inr e2
 ·have f1:(Ac6 l g==1)=false:=beq_eq_false_iff_ne.2 e1
  have f2:(Ac6 l g==2)=false:=beq_eq_false_iff_ne.2 e2
  simp[f1,f2] at h1
theorem Btt {p:Int} (hp:p=1∨p=2) {s:TStamp} {v:TVec} {g:Bool} {x:ByteArray} (hs:H2 s=true) (hn:0 <s.n) (hv:CL v=true) (hx:x.size≤64) (hg:g=true→x.size=0):Bz p (ofC p s v g x)=true:=by
 have hw:∀d:TVec,Cz ⟨s,v,g,x,d⟩=true:=fun d=>by
  unfold Cz
  have:(s.n==0)=false:=beq_eq_false_iff_ne.2 (by omega)
  show(!(s.n==0&&_&&_&&_))=true
  rw[this]
  rfl
 have hgx:(g&&!(x.size==0))=false:=by
  cases g with
  |false=>rfl
  |true=>rw[hg rfl];rfl
 have hz:Ht ⟨0,0⟩=true:=rfl
 have hx':decide ((x.size:Int)≤64)=true:=decide_eq_true (by omega)
 rcases hp with rfl|rfl
 ·show Bz 1 ⟨s,v,g,x,⟨0,0⟩⟩=true
  unfold Bz
  rw[hw]
  show(bif(1:Int)==1&&!Ht ⟨0,0⟩||_ then false else bif !true then true else H2 s&&decide (0 <s.n)&&CL v&&decide ((x.size:Int)≤64)&&!(g&&!(x.size==0)))=true
  rw[hs,decide_eq_true hn,hv,hx',hgx]
  rfl
 ·unfold ofC
  cases g with
  |true=>
   show Bz 2 ⟨⟨0,0⟩,⟨0,0⟩,false,⟨#[]⟩,v⟩=true
   unfold Bz
   show(bif(2:Int)==1&&!Ht v||((2:Int)==2&&(false||!CL v)||!((2:Int)==1||(2:Int)==2)) then false else bif !Cz ⟨⟨0,0⟩,⟨0,0⟩,false,⟨#[]⟩,v⟩ then true else _)=true
   rw[hv]
   rfl
  |false=>
   show Bz 2 ⟨s,v,false,x,⟨0,0⟩⟩=true
   unfold Bz
   rw[hw]
   show(bif(2:Int)==1&&!Ht ⟨0,0⟩||((2:Int)==2&&(false||!CL ⟨0,0⟩)||!((2:Int)==1||(2:Int)==2)) then false else bif !true then true else H2 s&&decide (0 <s.n)&&CL v&&decide ((x.size:Int)≤64)&&!(false&&!(x.size==0)))=true
   rw[hs,decide_eq_true hn,hv,hx']
   rfl
theorem Ab0 {l:List TGroup} {c:TChange} {w:TWrite} (hp:AY l=0) (hh:Ic c=true) (hw:UG l w=true):Bz (Ac6 l w.group.toNat) (Af2 l c w)=true:=by
 obtain⟨_,_,h3,h4,h5,h6⟩:=Aj9 hw
 obtain⟨_,_,_,_,s5,s6⟩:=Ak2 hh
 exact Btt (Bng hp (by omega)) s5 (Bsv hh) s6 h5 h6
theorem Alq (pre:List TRow) (z:TRow):Ao4 (pre++[z])=z:=by
 unfold Ao4 BU
 rw[List.length_append,List.length_singleton,Nat.add_sub_cancel,List.getD_eq_getElem?_getD,List.getElem?_append_right (Nat.le_refl _),Nat.sub_self]
 rfl
theorem Ayo (l:List TGroup) (c:TChange) (pre:List TRow) (z:TRow) (w:TWrite):Biw l c (pre++[z]) w=pre++[⟨z.key,z.cells.set w.group.toNat (Af2 l c w)⟩]:=by
 unfold Biw
 rw[Alq,List.length_append,List.length_singleton,Nat.add_sub_cancel,List.set_append_right _ _ (Nat.le_refl _),Nat.sub_self]
 rfl
theorem Wt {l:List TGroup} {r:TRow} {g:Nat} {x:TCell} (h:Ap l r=0) (hx:Bz (Ac6 l g) x=true):Ap l ⟨r.key,r.cells.set g x⟩=0:=by
 obtain⟨h1,h2,h3,h4,_⟩:=AV h
 have hl:(r.cells.set g x).length=l.length:=by rw[List.length_set];exact h2
 refine Awf h1 h3 h4 hl ((A65 hl).2 fun i hi=>?_)
 have e:Gk (r.cells.set g x) i=if g=i then x else Gk r.cells i:=by
  unfold Gk
  rw[List.getD_eq_getElem?_getD,List.getElem?_set]
  by_cases e:g=i
  ·subst e
   rw[if_pos rfl,if_pos rfl,if_pos (by omega)]
   rfl
  ·rw[if_neg e,if_neg e,←List.getD_eq_getElem?_getD]
 rw[e]
 by_cases e:g=i
 ·subst e
  rw[if_pos rfl]
  exact hx
 ·rw[if_neg e]
  exact JB h hi
theorem Agx {l:List TGroup} {w:TWrite} (hp:AY l=0) (hw:UG l w=true):Ap l (A8h l w.key)=0:=by
 obtain⟨h1,h2,_⟩:=Aj9 hw
 unfold A8h
 rw[P8]
 unfold VS Sm
 rw[hp,beq_eq_false_iff_ne.2 h1,decide_eq_false (by omega)]
 rfl
theorem A0h {pre:List TRow} {z:TRow}:On (pre++[z])↔On pre∧∀r∈pre,IY r.key z.key=true:=by
 unfold On
 rw[List.pairwise_append]
 constructor
 ·rintro⟨h1,_,h3⟩
  exact⟨h1,fun r hr=>h3 r hr z (List.mem_singleton.2 rfl)⟩
 ·rintro⟨h1,h2⟩
  exact⟨h1,List.pairwise_singleton _ _,fun r hr y hy=>by rw[List.mem_singleton.1 hy];exact h2 r hr⟩
structure ChI (l:List TGroup) (o:List TRow) (k:ByteArray):Prop where
 last:∃pre z,o=pre++[z]∧z.key=k
 rise:On o
 good:∀r∈o,Ap l r=0
theorem Bgs {l:List TGroup} {c:TChange} {w:TWrite} (hp:AY l=0) (hh:Ic c=true) (hw:UG l w=true):ChI l (VI l c [] w) w.key:=by
 have e:VI l c [] w=[]++[⟨w.key,(A8h l w.key).cells.set w.group.toNat (Af2 l c w)⟩]:=Ayo l c [] (A8h l w.key) w
 rw[e]
 refine⟨⟨[],_,rfl,rfl⟩,List.pairwise_singleton _ _,fun r hr=>?_⟩
 rw[List.mem_singleton.1 hr]
 exact Wt (Agx hp hw) (Ab0 hp hh hw)
theorem Bke {l:List TGroup} {c:TChange} {o:List TRow} {v w:TWrite} (hp:AY l=0) (hh:Ic c=true) (hw:UG l w=true) (h:ChI l o v.key) (hv:QS v w=true):ChI l (VI l c o w) w.key:=by
 obtain⟨⟨pre,z,rfl,hz⟩,hr,hg⟩:=h
 have hn:((pre++[z]).length==0)=false:=beq_eq_false_iff_ne.2 (by rw[List.length_append,List.length_singleton];omega)
 obtain⟨r1,r2⟩:=A0h.1 hr
 by_cases hk:z.key=w.key
 ·have e:VI l c (pre++[z]) w=pre++[⟨z.key,z.cells.set w.group.toNat (Af2 l c w)⟩]:=by
   unfold VI KU
   rw[hn,Alq,hk,beq_self_eq_true]
   show Biw l c (pre++[z]) w=_
   rw[Ayo,hk]
  rw[e]
  refine⟨⟨pre,_,rfl,hk⟩,A0h.2 ⟨r1,r2⟩,fun r hr=>?_⟩
  rcases List.mem_append.1 hr with hr|hr
  ·exact hg r (List.mem_append.2 (.inl hr))
  ·rw[List.mem_singleton.1 hr]
   exact Wt (hg z (List.mem_append.2 (.inr (List.mem_singleton.2 rfl)))) (Ab0 hp hh hw)
 ·have e:VI l c (pre++[z]) w=(pre++[z])++[⟨w.key,(A8h l w.key).cells.set w.group.toNat (Af2 l c w)⟩]:=by
   unfold VI KU
   rw[hn,Alq,beq_eq_false_iff_ne.2 hk]
   show Biw l c ((pre++[z])++[A8h l w.key]) w=_
   rw[Ayo]
   rfl
  have hlt:IY z.key w.key=true:=by
   unfold QS at hv
   rw[←hz,beq_eq_false_iff_ne.2 hk,Bool.false_and,Bool.or_false] at hv
   exact hv
  rw[e]
  refine⟨⟨pre++[z],_,rfl,rfl⟩,A0h.2 ⟨hr,fun r hr=>?_⟩,fun r hr=>?_⟩
  ·rcases List.mem_append.1 hr with hr|hr
   ·exact K1 (r2 r hr) hlt
   ·rw[List.mem_singleton.1 hr]
    exact hlt
  ·rcases List.mem_append.1 hr with hr|hr
   ·exact hg r hr
   ·rw[List.mem_singleton.1 hr]
    exact Wt (Agx hp hw) (Ab0 hp hh hw)
theorem Bmh {l:List TGroup} {c:TChange} (h:NV l c=0):∀i,i <c.writes.length→ChI l (YU l c (i+1)) (wN c.writes i).key
 |0,hi=>by
  obtain⟨hp,hh,_,hb⟩:=Bcl.1 h
  exact Bgs hp hh (Avd (hb 0 hi)).1
 |i+1,hi=>by
  obtain⟨hp,hh,_,hb⟩:=Bcl.1 h
  obtain⟨h1,h2⟩:=Avd (hb (i+1) hi)
  exact Bke hp hh h1 (Bmh h i (by omega)) (h2 (by omega))
theorem Bcm {l:List TGroup} {c:TChange} (h:NV l c=0) (i:Nat) (hi:i≤c.writes.length):On (YU l c i)∧∀r∈YU l c i,Ap l r=0:=by
 cases i with
 |zero=>exact⟨List.Pairwise.nil,fun r hr=>by cases hr⟩
 |succ i=>
  have:=Bmh h i hi
  exact⟨this.rise,this.good⟩
theorem Avr (l:List TGroup) (c:TChange):On (PR l c)∧∀r∈PR l c,Ap l r=0:=by
 unfold PR
 cases h:NV l c==0 with
 |false=>exact⟨List.Pairwise.nil,fun r hr=>by cases hr⟩
 |true=>exact Bcm (by simpa using h) _ (Nat.le_refl _)
theorem Bpv (l:List TGroup) (c:TChange) (o:List TRow) (w:TWrite):(VI l c o w).length≤o.length+1:=by
 unfold VI Biw KU
 rw[List.length_set]
 cases(o.length==0)||!((Ao4 o).key==w.key) with
 |true=>rw[cond_true,List.length_append];exact Nat.le_refl _
 |false=>exact Nat.le_succ _
theorem A6q (l:List TGroup) (c:TChange):∀i,(YU l c i).length≤i
 |0=>Nat.le_refl _
 |i+1=>Nat.le_trans (Bpv ..) (Nat.succ_le_succ (A6q l c i))
end Go.Proofs.Yteebobbhhgmeiaa
namespace Go.Proofs.Yteebobbhhgmeiaa
open Go.RowKit
def Bwc (a0:List TGroup) (a1:TChange):A:=.tup [.dq 0,.v (.int .i64 (NV a0 a1))]
def Bwb (a0:List TGroup) (a1:TChange):Objs:=[(0,some (.deep 71 .row (PR a0 a1)))]
theorem Bxo {l:List TGroup} {c:TChange} {w:TWrite} (hp:AY l=0) (hh:Ic c=true) (hw:UG l w=true):Ku (l.getD w.group.toNat (Ae TC.group)).2 c.stamp c.vec w.gone w.value=Af2 l c w∧H9 (l.getD w.group.toNat (Ae TC.group)).2 c.stamp c.vec w.gone w.value=Af2 l c w:=by
 obtain⟨_,_,g0,g1,hx,hg⟩:=Aj9 hw
 obtain⟨_,_,_,_,hs,hv⟩:=Ak2 hh
 have hn:0 <c.stamp.n:=Bsv hh
 have hpo:(l.getD w.group.toNat (Ae TC.group)).2=1∨(l.getD w.group.toNat (Ae TC.group)).2=2:=Bng hp (by omega)
 unfold Af2 Ac6
 show _=ofC (l.getD w.group.toNat (Ae TC.group)).2 _ _ _ _∧_=ofC (l.getD w.group.toNat (Ae TC.group)).2 _ _ _ _
 generalize (l.getD w.group.toNat (Ae TC.group)).2=p at*
 generalize c.stamp=s at*
 generalize c.vec=v at*
 have h1:(p !=(1:Int)&&p !=(2:Int))=false:=Bxj.2 hpo
 have h2:(s.1==(0:Int))=false:=beq_eq_false_iff_ne.2 (by have:s.1=s.n:=rfl;omega)
 have h3:(w.gone&&!w.value.toList==(ByteArray.mk #[]).toList)=false:=by
  rw[Rt]
  cases h:w.gone with
  |false=>rfl
  |true=>rw[hg h];rfl
 have h4:decide ((w.value.size:Int) >(64:Int))=false:=decide_eq_false (by omega)
 constructor
 ·have k0:Im p s v w.gone w.value=false:=by
   unfold Im
   rw[XQ,QB,hs,hv,h1,h2,h3]
   rfl
  have k1:Jc p s v w.gone w.value=false:=h4
  have k2:Jd p s v w.gone w.value=(p==2&&w.gone):=rfl
  unfold Ku ofC
  rw[k0,k1,k2]
  cases p==2&&w.gone<;>rfl
 ·have k2:IM p s v w.gone w.value=false:=by
   unfold IM
   rw[Ky,K5,hs,hv,h1,h2,h3]
   rfl
  have k3:Js p s v w.gone w.value=false:=h4
  have k1:G8 p s v w.gone w.value=(p==2&&w.gone):=by
   unfold G8
   rw[k2,k3]
   cases w.gone<;>cases p==2<;>rfl
  have k0:L6 p s v w.gone w.value=0:=by
   unfold L6
   rw[k2,k3]
   rfl
  unfold H9 ofC
  rw[k1,k0,k2,k3]
  cases p==2&&w.gone<;>rfl
theorem Bdx {n:Nat} (h:n≤100):(IntKind.i64.wrap ((n:Int) - 1)).toNat=n - 1:=by
 rw[i64_in (by omega)]
 omega
theorem Ayg (l:List TGroup) (o:List TRow) (k:ByteArray):1≤(KU l o k).length∧(KU l o k).length≤o.length+1:=by
 unfold KU
 cases h:(o.length==0)||!((Ao4 o).key==k) with
 |true=>rw[cond_true,List.length_append];exact⟨Nat.le_add_left _ _,Nat.le_refl _⟩
 |false=>
  rw[cond_false]
  have:(o.length==0)=false:=(Bool.or_eq_false_iff.1 h).1
  have:o.length≠0:=by simpa using this
  omega
theorem A8m {l:List TGroup} {o:List TRow} (k:ByteArray) (h:∀r∈o,Ap l r=0):∀r∈KU l o k,r.cells.length=l.length:=fun r hr=>by
 have h1:∀r∈o,r.cells.length=l.length:=fun r hr=>(AV (h r hr)).2.1
 unfold KU at hr
 cases hb:(o.length==0)||!((Ao4 o).key==k) with
 | true=>
  rw[hb,cond_true] at hr
  rcases List.mem_append.1 hr with hr|hr
  ·exact h1 r hr
  ·rw[List.mem_singleton.1 hr]
   exact List.length_replicate
 |false=>rw[hb,cond_false] at hr;exact h1 r hr
theorem QU {l:List TGroup} {c:TChange} (h:NV l c=0) {i:Nat} (hi:i <c.writes.length):AY l=0∧Ic c=true∧UG l (wN c.writes i)=true∧c.writes.length≤8∧l.length≤4∧(YU l c i).length≤i∧∀r∈KU l (YU l c i) (wN c.writes i).key,r.cells.length=l.length:=by
 obtain⟨hp,hh,hn,hb⟩:=Bcl.1 h
 unfold Aif at hn
 rw[Bool.and_eq_true,decide_eq_true_eq,decide_eq_true_eq] at hn
 exact⟨hp,hh,(Avd (hb i hi)).1,hn.2,(Hr hp).2,A6q l c i,A8m _ (Bcm h i (by omega)).2⟩
theorem Bwm {l:List TGroup} {c:TChange} (h:NV l c=0):c.writes.length≤8:=by
 obtain⟨_,_,hn,_⟩:=Bcl.1 h
 unfold Aif at hn
 rw[Bool.and_eq_true,decide_eq_true_eq,decide_eq_true_eq] at hn
 exact hn.2
theorem Btq {l:List TGroup} {w:TWrite} (hp:AY l=0) (hw:UG l w=true):Aie l w.key=A8h l w.key:=by
 obtain⟨h1,h2,_⟩:=Aj9 hw
 have hk:Sm w.key=0:=by
  unfold Sm
  rw[show(w.key.size==0)=false by simpa using h1,decide_eq_false (by omega)]
  rfl
 have hn:VS l w.key=0:=by unfold VS;rw[hp,hk];rfl
 unfold Aie A8h
 rw[hn]
 rfl
abbrev BB:Type:=(List TGroup)×(List TWrite)×Int×Int×TChange×(List TRow)
def J2 (x:BB):St:=⟨85,3,[(0,.sl .group x.1),(3,.own 0 0),(7,.dq 2),(22,.sl .write x.2.1),(23,.v (.int .i64 x.2.2.1)),(24,.v (.int .i64 x.2.2.2.1))],[(0,some (.box 136 [.v (.int .i64 x.2.2.2.2.1.site),.v (.int .i64 x.2.2.2.2.1.seq),.v (.int .i64 x.2.2.2.2.1.stamp.n),.v (.int .i64 x.2.2.2.2.1.stamp.site),.v (.int .i64 x.2.2.2.2.1.vec.a),.v (.int .i64 x.2.2.2.2.1.vec.b),.sl .write x.2.2.2.2.1.writes])),(2,some (.deep 71 .row x.2.2.2.2.2))]⟩
def K9:St→Option BB
 |⟨85,3,[(0,.sl .group z0),(3,.own 0 0),(7,.dq 2),(22,.sl .write z1),(23,.v (.int .i64 z2)),(24,.v (.int .i64 z3))],[(0,some (.box 136 [.v (.int .i64 z4),.v (.int .i64 z5),.v (.int .i64 z6),.v (.int .i64 z7),.v (.int .i64 z8),.v (.int .i64 z9),.sl .write z10])),(2,some (.deep 71 .row z11))]⟩=>some (z0,z1,z2,z3,⟨z4,z5,⟨z6,z7⟩,⟨z8,z9⟩,z10⟩,z11)
 |_=>none
theorem Zp:∀s x,K9 s=some x→s=J2 x:=fun s x h=>by
 unfold K9 at h
 split at h
 ·cases h;rfl
 ·cases h
def R6:De:=⟨2,3,[0,3,7,22,23,24],[],[(0,0),(8,2)],[0,8],[7],[2,0]⟩
def Akl:Dy:=⟨[.nilD 7 71 .row],[(0,0),(1,2)],[0,3,7,22,23,24],[0,1]⟩
def Bm (_a0:List TGroup) (_a1:List TWrite) (_a2:Int) (_a3:Int) (_a4:TChange) (a5:List TRow):Bool:=(↑a5.length:Int)==(0:Int)
def A1 (_a0:List TGroup) (_a1:List TWrite) (_a2:Int) (_a3:Int) (_a4:TChange) (a5:List TRow):Int:=IntKind.i64.wrap ((↑a5.length:Int) - (1:Int))
def AK (a0:List TGroup) (a1:List TWrite) (a2:Int) (a3:Int) (a4:TChange) (a5:List TRow):List TRow:=bif(Bm a0 a1 a2 a3 a4 a5)||!(a5.getD (A1 a0 a1 a2 a3 a4 a5).toNat (Ae TC.row)).1.toList==(a1.getD a3.toNat (Ae TC.write)).1.toList then a5++[ZN TC.row TC.cell (TRow.mk (Aie a0 (a1.getD a3.toNat (Ae TC.write)).1).1 []) (Aie a0 (a1.getD a3.toNat (Ae TC.write)).1).2] else a5
def AC (a0:List TGroup) (a1:List TWrite) (a2:Int) (a3:Int) (a4:TChange) (a5:List TRow):Int:=IntKind.i64.wrap ((↑(AK a0 a1 a2 a3 a4 a5).length:Int) - (1:Int))
def IN (a0:List TGroup) (a1:List TWrite) (a2:Int) (a3:Int) (a4:TChange) (a5:List TRow):List TRow:=(AK a0 a1 a2 a3 a4 a5).set (AC a0 a1 a2 a3 a4 a5).toNat (ZN TC.row TC.cell ((AK a0 a1 a2 a3 a4 a5).getD (AC a0 a1 a2 a3 a4 a5).toNat (Ae TC.row)) (((AK a0 a1 a2 a3 a4 a5).getD (AC a0 a1 a2 a3 a4 a5).toNat (Ae TC.row)).2.set (a1.getD a3.toNat (Ae TC.write)).2.toNat (H9 (a0.getD (a1.getD a3.toNat (Ae TC.write)).2.toNat (Ae TC.group)).2 a4.3 a4.4 (a1.getD a3.toNat (Ae TC.write)).3 (a1.getD a3.toNat (Ae TC.write)).4)))
def Dr (x:BB):BB:=(x.1,x.2.1,x.2.2.1,IntKind.i64.wrap (x.2.2.2.1+(1:Int)),x.2.2.2.2.1,IN x.1 x.2.1 x.2.2.1 x.2.2.2.1 x.2.2.2.2.1 x.2.2.2.2.2)
def Dq (x:BB):Cnd:=some (!!decide (x.2.2.2.1 <x.2.2.1))
def OD (x:BB):List Prop:=[((!!decide (x.2.2.2.1 <x.2.2.1))=true→(0:Int)≤x.2.2.2.1∧x.2.2.2.1 <(↑x.2.1.length:Int)),((!!decide (x.2.2.2.1 <x.2.2.1))=true→(Bm x.1 x.2.1 x.2.2.1 x.2.2.2.1 x.2.2.2.2.1 x.2.2.2.2.2)=false→(0:Int)≤(A1 x.1 x.2.1 x.2.2.1 x.2.2.2.1 x.2.2.2.2.1 x.2.2.2.2.2)∧(A1 x.1 x.2.1 x.2.2.1 x.2.2.2.1 x.2.2.2.2.1 x.2.2.2.2.2) <(↑x.2.2.2.2.2.length:Int)),((!!decide (x.2.2.2.1 <x.2.2.1))=true→(Bm x.1 x.2.1 x.2.2.1 x.2.2.2.1 x.2.2.2.2.1 x.2.2.2.2.2)=false→(A1 x.1 x.2.1 x.2.2.1 x.2.2.2.1 x.2.2.2.2.1 x.2.2.2.2.2).toNat <x.2.2.2.2.2.length),((!!decide (x.2.2.2.1 <x.2.2.1))=true→((Bm x.1 x.2.1 x.2.2.1 x.2.2.2.1 x.2.2.2.2.1 x.2.2.2.2.2)||!(x.2.2.2.2.2.getD (A1 x.1 x.2.1 x.2.2.1 x.2.2.2.1 x.2.2.2.2.1 x.2.2.2.2.2).toNat (Ae TC.row)).1.toList==(x.2.1.getD x.2.2.2.1.toNat (Ae TC.write)).1.toList)=true→Ai x.1.length),((!!decide (x.2.2.2.1 <x.2.2.1))=true→((Bm x.1 x.2.1 x.2.2.1 x.2.2.2.1 x.2.2.2.2.1 x.2.2.2.2.2)||!(x.2.2.2.2.2.getD (A1 x.1 x.2.1 x.2.2.1 x.2.2.2.1 x.2.2.2.2.1 x.2.2.2.2.2).toNat (Ae TC.row)).1.toList==(x.2.1.getD x.2.2.2.1.toNat (Ae TC.write)).1.toList)=true→Ai (x.2.2.2.2.2.length+(1:Nat))),((!!decide (x.2.2.2.1 <x.2.2.1))=true→(0:Int)≤(x.2.1.getD x.2.2.2.1.toNat (Ae TC.write)).2∧(x.2.1.getD x.2.2.2.1.toNat (Ae TC.write)).2 <(↑x.1.length:Int)),((!!decide (x.2.2.2.1 <x.2.2.1))=true→(0:Int)≤(AC x.1 x.2.1 x.2.2.1 x.2.2.2.1 x.2.2.2.2.1 x.2.2.2.2.2)∧(AC x.1 x.2.1 x.2.2.1 x.2.2.2.1 x.2.2.2.2.1 x.2.2.2.2.2) <(↑(AK x.1 x.2.1 x.2.2.1 x.2.2.2.1 x.2.2.2.2.1 x.2.2.2.2.2).length:Int)),((!!decide (x.2.2.2.1 <x.2.2.1))=true→(AC x.1 x.2.1 x.2.2.1 x.2.2.2.1 x.2.2.2.2.1 x.2.2.2.2.2).toNat <(AK x.1 x.2.1 x.2.2.1 x.2.2.2.1 x.2.2.2.2.1 x.2.2.2.2.2).length),((!!decide (x.2.2.2.1 <x.2.2.1))=true→(AC x.1 x.2.1 x.2.2.1 x.2.2.2.1 x.2.2.2.2.1 x.2.2.2.2.2).toNat <(AK x.1 x.2.1 x.2.2.1 x.2.2.2.1 x.2.2.2.2.1 x.2.2.2.2.2).length∧(0:Int)≤(x.2.1.getD x.2.2.2.1.toNat (Ae TC.write)).2∧(x.2.1.getD x.2.2.2.1.toNat (Ae TC.write)).2 <(↑((AK x.1 x.2.1 x.2.2.1 x.2.2.2.1 x.2.2.2.2.1 x.2.2.2.2.2).getD (AC x.1 x.2.1 x.2.2.1 x.2.2.2.1 x.2.2.2.2.1 x.2.2.2.2.2).toNat (Ae TC.row)).2.length:Int)),((!!decide (x.2.2.2.1 <x.2.2.1))=true→(AC x.1 x.2.1 x.2.2.1 x.2.2.2.1 x.2.2.2.2.1 x.2.2.2.2.2).toNat <(AK x.1 x.2.1 x.2.2.1 x.2.2.2.1 x.2.2.2.2.1 x.2.2.2.2.2).length),((!!decide (x.2.2.2.1 <x.2.2.1))=true→(x.2.1.getD x.2.2.2.1.toNat (Ae TC.write)).2.toNat <((AK x.1 x.2.1 x.2.2.1 x.2.2.2.1 x.2.2.2.2.1 x.2.2.2.2.2).getD (AC x.1 x.2.1 x.2.2.1 x.2.2.2.1 x.2.2.2.2.1 x.2.2.2.2.2).toNat (Ae TC.row)).2.length)]
def FH (x:BB):List Prop:=[((!!decide (x.2.2.2.1 <x.2.2.1))=true→(0:Int)≤x.2.2.2.1∧x.2.2.2.1 <(↑x.2.1.length:Int)),((!!decide (x.2.2.2.1 <x.2.2.1))=true→(Bm x.1 x.2.1 x.2.2.1 x.2.2.2.1 x.2.2.2.2.1 x.2.2.2.2.2)=false→(0:Int)≤(A1 x.1 x.2.1 x.2.2.1 x.2.2.2.1 x.2.2.2.2.1 x.2.2.2.2.2)∧(A1 x.1 x.2.1 x.2.2.1 x.2.2.2.1 x.2.2.2.2.1 x.2.2.2.2.2) <(↑x.2.2.2.2.2.length:Int)),((!!decide (x.2.2.2.1 <x.2.2.1))=true→((Bm x.1 x.2.1 x.2.2.1 x.2.2.2.1 x.2.2.2.2.1 x.2.2.2.2.2)||!(x.2.2.2.2.2.getD (A1 x.1 x.2.1 x.2.2.1 x.2.2.2.1 x.2.2.2.2.1 x.2.2.2.2.2).toNat (Ae TC.row)).1.toList==(x.2.1.getD x.2.2.2.1.toNat (Ae TC.write)).1.toList)=true→Ai x.1.length),((!!decide (x.2.2.2.1 <x.2.2.1))=true→((Bm x.1 x.2.1 x.2.2.1 x.2.2.2.1 x.2.2.2.2.1 x.2.2.2.2.2)||!(x.2.2.2.2.2.getD (A1 x.1 x.2.1 x.2.2.1 x.2.2.2.1 x.2.2.2.2.1 x.2.2.2.2.2).toNat (Ae TC.row)).1.toList==(x.2.1.getD x.2.2.2.1.toNat (Ae TC.write)).1.toList)=true→Ai (x.2.2.2.2.2.length+(1:Nat))),((!!decide (x.2.2.2.1 <x.2.2.1))=true→(0:Int)≤(x.2.1.getD x.2.2.2.1.toNat (Ae TC.write)).2∧(x.2.1.getD x.2.2.2.1.toNat (Ae TC.write)).2 <(↑x.1.length:Int)),((!!decide (x.2.2.2.1 <x.2.2.1))=true→(0:Int)≤(AC x.1 x.2.1 x.2.2.1 x.2.2.2.1 x.2.2.2.2.1 x.2.2.2.2.2)∧(AC x.1 x.2.1 x.2.2.1 x.2.2.2.1 x.2.2.2.2.1 x.2.2.2.2.2) <(↑(AK x.1 x.2.1 x.2.2.1 x.2.2.2.1 x.2.2.2.2.1 x.2.2.2.2.2).length:Int)),((!!decide (x.2.2.2.1 <x.2.2.1))=true→(AC x.1 x.2.1 x.2.2.1 x.2.2.2.1 x.2.2.2.2.1 x.2.2.2.2.2).toNat <(AK x.1 x.2.1 x.2.2.1 x.2.2.2.1 x.2.2.2.2.1 x.2.2.2.2.2).length∧(0:Int)≤(x.2.1.getD x.2.2.2.1.toNat (Ae TC.write)).2∧(x.2.1.getD x.2.2.2.1.toNat (Ae TC.write)).2 <(↑((AK x.1 x.2.1 x.2.2.1 x.2.2.2.1 x.2.2.2.2.1 x.2.2.2.2.2).getD (AC x.1 x.2.1 x.2.2.1 x.2.2.2.1 x.2.2.2.2.1 x.2.2.2.2.2).toNat (Ae TC.row)).2.length:Int)),((!!decide (x.2.2.2.1 <x.2.2.1))=true→(x.2.1.getD x.2.2.2.1.toNat (Ae TC.write)).2.toNat <((AK x.1 x.2.1 x.2.2.1 x.2.2.2.1 x.2.2.2.2.1 x.2.2.2.2.2).getD (AC x.1 x.2.1 x.2.2.1 x.2.2.2.1 x.2.2.2.2.1 x.2.2.2.2.2).toNat (Ae TC.row)).2.length)]
def NG (x:BB):Bl:=[(some 0,some (!decide (x.2.2.2.1 <x.2.2.1)),⟨85,3,[(7,.dq 2)],[(2,some (.deep 71 .row x.2.2.2.2.2)),(0,some (.box 136 [.v (.int .i64 x.2.2.2.2.1.1),.v (.int .i64 x.2.2.2.2.1.2),.v (.int .i64 x.2.2.2.2.1.3.1),.v (.int .i64 x.2.2.2.2.1.3.2),.v (.int .i64 x.2.2.2.2.1.4.1),.v (.int .i64 x.2.2.2.2.1.4.2),.sl .write x.2.2.2.2.1.5]))]⟩)]
def EC (x:BB):Nat:=(x.2.2.1 - x.2.2.2.1).toNat
def KN (x:BB):BB:=A9 Dr Dq (EC x) x
set_option maxRecDepth 100000 in
theorem Aga (a0:List TGroup) (a1:List TWrite) (a2:Int) (a3:Int) (a4:TChange) (a5:List TRow):Bx (AA Cch L0) 9 (Aj Try.prog 142 0) R6 (J2 (a0,a1,a2,a3,a4,a5))=some (OD (a0,a1,a2,a3,a4,a5),NG (a0,a1,a2,a3,a4,a5),Dq (a0,a1,a2,a3,a4,a5),J2 (Dr (a0,a1,a2,a3,a4,a5))):=by kernel_rfl
set_option maxRecDepth 100000 in
theorem Agb (a0:List TGroup) (a1:List TWrite) (a2:Int) (a3:Int) (a4:TChange) (a5:List TRow) (hp:∀p∈FH (a0,a1,a2,a3,a4,a5),p):∀p∈OD (a0,a1,a2,a3,a4,a5),p:=by
 have n0:=N0 hp
 have n1:((!!decide (a3 <a2))=true→(Bm a0 a1 a2 a3 a4 a5)=false→(0:Int)≤(A1 a0 a1 a2 a3 a4 a5)∧(A1 a0 a1 a2 a3 a4 a5) <(↑a5.length:Int)):=N0 (N1 hp)
 have n2:((!!decide (a3 <a2))=true→(Bm a0 a1 a2 a3 a4 a5)=false→(A1 a0 a1 a2 a3 a4 a5).toNat <a5.length):=by intro h0 h1;have g:=n1 h0 h1;omega
 have n3:=N0 (N1 (N1 hp))
 have n4:=N0 (N1 (N1 (N1 hp)))
 have n5:=N0 (N1 (N1 (N1 (N1 hp))))
 have n6:((!!decide (a3 <a2))=true→(0:Int)≤(AC a0 a1 a2 a3 a4 a5)∧(AC a0 a1 a2 a3 a4 a5) <(↑(AK a0 a1 a2 a3 a4 a5).length:Int)):=N0 (N1 (N1 (N1 (N1 (N1 hp)))))
 have n7:((!!decide (a3 <a2))=true→(AC a0 a1 a2 a3 a4 a5).toNat <(AK a0 a1 a2 a3 a4 a5).length):=by intro h0;have g:=n6 h0;omega
 have n8:=N0 (N1 (N1 (N1 (N1 (N1 (N1 hp))))))
 have n10:=N0 (N1 (N1 (N1 (N1 (N1 (N1 (N1 hp)))))))
 exact(Aa n0 (Aa n1 (Aa n2 (Aa n3 (Aa n4 (Aa n5 (Aa n6 (Aa n7 (Aa n8 (Aa n7 (Aa n10 Ab)))))))))))
noncomputable def OE:=HU (AA Cch L0) (Aj Try.prog 142 0) R6 Akl K9 EC Dr Dq FH NG
theorem Aca:∀s b ps outs,OE s=some (b,ps,outs)→Wf s ⟨ps,outs,none⟩∧Bs (AA C0 L0) b s ps outs:=
 Bi (T:=J2) Bqu AG (u:=9) (by kernel_rfl) (by decide) (fun⟨a0,a1,a2,a3,a4,a5⟩=>Aga a0 a1 a2 a3 a4 a5) (fun⟨a0,a1,a2,a3,a4,a5⟩=>Agb a0 a1 a2 a3 a4 a5) Zp (fun _=>AR (n:=85) rfl) fun _ _=>rfl
noncomputable def R5:=DG 0 OE L0
theorem Ab9:Hs R5:=A3 Aca AG
def Hd (a0:List TGroup) (a1:TChange):Bool:=NV a0 a1 !=(0:Int)
def Q0 (a0:List TGroup) (a1:TChange):Int:=bif(Hd a0 a1) then NV a0 a1 else(0:Int)
def Q1 (a0:List TGroup) (a1:TChange):List TRow:=bif(Hd a0 a1) then[] else(KN (a0,a1.5,(↑a1.5.length:Int),(0:Int),a1,[])).snd.snd.snd.snd.snd
def Q3 (a0:List TGroup) (a1:TChange):A:=.tup [.dq 0,.v (.int .i64 (Q0 a0 a1))]
def Q2 (a0:List TGroup) (a1:TChange):Objs:=[(0,some (.deep 71 .row (Q1 a0 a1)))]
def Avy (a0:List TGroup) (a1:TChange):List Prop:=[(Az a1.5.length),((!(Hd a0 a1))=true→AL Dr Dq FH (EC (a0,a1.5,(↑a1.5.length:Int),(0:Int),a1,[])) (a0,a1.5,(↑a1.5.length:Int),(0:Int),a1,[]))]
set_option maxRecDepth 100000 in
theorem Avx (a0:List TGroup) (a1:TChange):EU (AA Cch R5) 9 142 [.sl .group a0,Ak .change a1] 0 []=some (1,Q3 a0 a1,1,Q2 a0 a1,[(Az a1.5.length),((!(Hd a0 a1))=true→Aj Try.prog (142:FuncId) (0:Nat)=Aj Try.prog (142:FuncId) (0:Nat)),((!(Hd a0 a1))=true→AL Dr Dq FH (EC (a0,a1.5,(↑a1.5.length:Int),(0:Int),a1,[])) (a0,a1.5,(↑a1.5.length:Int),(0:Int),a1,[]))]):=by kernel_rfl
set_option maxRecDepth 100000 in
theorem A1n (a0:List TGroup) (a1:TChange) (hp:∀p∈Avy a0 a1,p):CallOk Try.prog 142 [.sl .group a0,Ak .change a1] 0 [] 1 (Q3 a0 a1) 1 (Q2 a0 a1):=by
 have n0:=N0 hp
 have n1:((!(Hd a0 a1))=true→Aj Try.prog (142:FuncId) (0:Nat)=Aj Try.prog (142:FuncId) (0:Nat)):=by intros;rfl
 have n2:=N0 (N1 hp)
 exact AH (Aw Bqu Ab9) (Avx a0 a1) (Aa n0 (Aa n1 (Aa n2 Ab)))
def Wd (a0:List TGroup) (a1:TChange):A:=Bwc a0 a1
def Wc (a0:List TGroup) (a1:TChange):Objs:=Bwb a0 a1
def UK (_a0:List TGroup) (a1:TChange):List Prop:=[Az a1.writes.length]
theorem Bcq {l:List TGroup} (i:Nat) {c:TChange} (o:List TRow) (ho:o.length≤9) (hp:AY l=0) (hw:UG l (wN c.writes i)=true):AK l c.writes (c.writes.length:Int) (i:Int) c o=KU l o (wN c.writes i).key:=by
 have e:=Btq hp hw
 unfold AK Bm A1
 rw[Bdx (by omega),tlb,Int.toNat_natCast,Bdy]
 unfold KU
 rw[←e]
 rfl
theorem Br4 {l:List TGroup} {c:TChange} (i:Nat) (o:List TRow) (ho:o.length≤8) (hp:AY l=0) (hh:Ic c=true) (hw:UG l (wN c.writes i)=true):IN l c.writes (c.writes.length:Int) (i:Int) c o=VI l c o (wN c.writes i):=by
 have:=(Ayg l o (wN c.writes i).key).2
 unfold IN AC
 rw[Bcq i o (by omega) hp hw,Bdx (by omega),Int.toNat_natCast]
 have e:=(Bxo hp hh hw).2
 unfold VI Biw
 rw[←e]
 rfl
theorem R7 {l:List TGroup} {c:TChange} (h:NV l c=0):
  AL Dr Dq FH (EC (l,c.writes,(c.writes.length:Int),0,c,[])) (l,c.writes,(c.writes.length:Int),0,c,[])∧KN (l,c.writes,(c.writes.length:Int),0,c,[])=(l,c.writes,(c.writes.length:Int),(c.writes.length:Int),c,YU l c c.writes.length):=by
 have h8:=Bwm h
 obtain⟨h1,k,hk,hx,_,hst,_⟩:=I6 (fun i=>(l,c.writes,(c.writes.length:Int),(i:Int),c,YU l c i):Nat→BB) c.writes.length (fun _=>false) Dr Dq FH (EC (l,c.writes,(c.writes.length:Int),0,c,[])) (l,c.writes,(c.writes.length:Int),0,c,[]) rfl (by show c.writes.length≤((c.writes.length:Int) - 0).toNat;omega)
  (fun i _ _=>by
   show(!!decide ((i:Int) <(c.writes.length:Int)))=_
   rw[nn,MA,Bool.not_false,Bool.and_true])
  (fun i hi _=>by
   obtain⟨hp,hh,hw,_,_,hl,_⟩:=QU h hi
   show(l,c.writes,(c.writes.length:Int),IntKind.i64.wrap ((i:Int)+1),c,IN l c.writes (c.writes.length:Int) (i:Int) c (YU l c i))=(l,c.writes,(c.writes.length:Int),((i+1:Nat):Int),c,YU l c (i+1))
   rw[ES (by omega),Br4 i _ (by omega) hp hh hw]
   rfl)
  (fun i hi _=>by
   have hin:(!!decide ((i:Int) <(c.writes.length:Int)))=true→i <c.writes.length:=fun h=>by rw[nn] at h;have:=of_decide_eq_true h;omega
   have hop:i <c.writes.length→_:=fun hi=>Bcq i (YU l c i) (by have:=(QU h hi).2.2.2.2.2.1;omega) (QU h hi).1 (QU h hi).2.2.1
   have key:i <c.writes.length→_:=fun hi=>Ayg l (YU l c i) (wN c.writes i).key
   have hk0:i <c.writes.length→(AC l c.writes (c.writes.length:Int) (i:Int) c (YU l c i))=(((KU l (YU l c i) (wN c.writes i).key).length - 1:Nat):Int):=fun hi=>by
    have:=key hi
    have:=(QU h hi).2.2.2.2.2.1
    unfold AC
    rw[hop hi,i64_in (by omega)]
    omega
   have hcl:i <c.writes.length→(((KU l (YU l c i) (wN c.writes i).key).getD ((KU l (YU l c i) (wN c.writes i).key).length - 1) (Ae TC.row)).2.length=l.length):=fun hi=>(QU h hi).2.2.2.2.2.2 _ (getD_in _ _ _ (by have:=key hi;omega))
   have hgr:i <c.writes.length→_:=fun hi=>Aj9 (QU h hi).2.2.1
   refine Aa (fun h=>⟨by show(0:Int)≤(i:Int);omega,by have:=hin h;show(i:Int) <(c.writes.length:Int);omega⟩) (Aa (fun h1 h2=>?_) (Aa (fun h1 _=>?_) (Aa (fun h1 _=>?_) (Aa (fun h1=>?_) (Aa (fun h1=>?_) (Aa (fun h1=>?_) (Aa (fun h1=>?_) Ab)))))))
   ·have h3:(((YU l c i).length:Int)==(0:Int))=false:=h2
    rw[Bdy] at h3
    have h4:(YU l c i).length≠0:=by simpa using h3
    have:=(QU h (hin h1)).2.2.2.2.2.1
    show(0:Int)≤IntKind.i64.wrap (((YU l c i).length:Int) - 1)∧IntKind.i64.wrap (((YU l c i).length:Int) - 1) <((YU l c i).length:Int)
    rw[i64_in (by omega)]
    omega
   ·have:=(QU h (hin h1)).2.2.2.2.1
    show Ai l.length
    unfold Ai;omega
   ·have:=(QU h (hin h1)).2.2.2.2.2.1
    show Ai ((YU l c i).length+1)
    unfold Ai;omega
   ·obtain⟨_,_,g0,g1,_⟩:=hgr (hin h1)
    show(0:Int)≤(c.writes.getD ((i:Int)).toNat (Ae TC.write)).group∧(c.writes.getD ((i:Int)).toNat (Ae TC.write)).group <(l.length:Int)
    rw[Int.toNat_natCast]
    exact⟨g0,g1⟩
   ·have:=key (hin h1)
    show(0:Int)≤AC l c.writes (c.writes.length:Int) (i:Int) c (YU l c i)∧AC l c.writes (c.writes.length:Int) (i:Int) c (YU l c i) <((AK l c.writes (c.writes.length:Int) (i:Int) c (YU l c i)).length:Int)
    rw[hk0 (hin h1),hop (hin h1)]
    omega
   ·have:=key (hin h1)
    obtain⟨_,_,g0,g1,_⟩:=hgr (hin h1)
    show(AC l c.writes (c.writes.length:Int) (i:Int) c (YU l c i)).toNat <(AK l c.writes (c.writes.length:Int) (i:Int) c (YU l c i)).length∧(0:Int)≤(c.writes.getD ((i:Int)).toNat (Ae TC.write)).group∧(c.writes.getD ((i:Int)).toNat (Ae TC.write)).group <(((AK l c.writes (c.writes.length:Int) (i:Int) c (YU l c i)).getD (AC l c.writes (c.writes.length:Int) (i:Int) c (YU l c i)).toNat (Ae TC.row)).2.length:Int)
    rw[hk0 (hin h1),hop (hin h1),Int.toNat_natCast,Int.toNat_natCast,hcl (hin h1)]
    exact⟨by omega,g0,g1⟩
   ·obtain⟨_,_,g0,g1,_⟩:=hgr (hin h1)
    show(c.writes.getD ((i:Int)).toNat (Ae TC.write)).group.toNat <((AK l c.writes (c.writes.length:Int) (i:Int) c (YU l c i)).getD (AC l c.writes (c.writes.length:Int) (i:Int) c (YU l c i)).toNat (Ae TC.row)).2.length
    rw[hk0 (hin h1),hop (hin h1),Int.toNat_natCast,Int.toNat_natCast,hcl (hin h1)]
    have g2:(c.writes.getD i (Ae TC.write)).group <(l.length:Int):=g1
    have g3:0≤(c.writes.getD i (Ae TC.write)).group:=g0
    omega)
 have hkn:k=c.writes.length:=by
  rcases Nat.lt_or_ge k c.writes.length with h|h
  ·exact absurd (hst h) (by decide)
  ·omega
 subst hkn
 exact⟨h1,hx⟩
theorem Avw (a0:List TGroup) (a1:TChange) (hp:∀p∈UK a0 a1,p):CallOk Try.prog 142 [.sl .group a0,Ak .change a1] 0 [] 1 (Wd a0 a1) 1 (Wc a0 a1):=by
 have hb:Az a1.writes.length:=hp _ (List.mem_cons_self ..)
 have h:=A1n a0 a1 (Aa hb (Aa (fun h=>(R7 (show NV a0 a1=0 by
  have h':(!(NV a0 a1 !=0))=true:=h
  simpa using h')).1) Ab))
 have e:Q0 a0 a1=NV a0 a1∧Q1 a0 a1=PR a0 a1:=by
  unfold Q0 Q1 Hd PR
  cases hc:NV a0 a1 !=0 with
  |true=>
   have:(NV a0 a1==0)=false:=by simpa using hc
   rw[this]
   exact⟨rfl,rfl⟩
  |false=>
   have h0:NV a0 a1=0:=by simpa using hc
   have:(NV a0 a1==0)=true:=by simpa using h0
   have q:KN (a0,a1.5,(a1.5.length:Int),0,a1,[])=(a0,a1.writes,(a1.writes.length:Int),(a1.writes.length:Int),a1,YU a0 a1 a1.writes.length):=(R7 h0).2
   rw[this,q,cond_false]
   exact⟨h0.symm,rfl⟩
 unfold Q3 Q2 at h
 rw[e.1,e.2] at h
 exact h
def Q4:List A→Nat→Objs→Option A8
 | [y0,y1],nx,o=>match Kp .group y0,AP .change y1 with
  |some a0,some (a1,p1)=>some (1,(Wd a0 a1).pk (AF nx),nx+1,AE nx (Wc a0 a1)++o,p1++(UK a0 a1))
  |_,_=>none
 |_,_,_=>none
theorem Art:Fu Try.prog 142 Q4:=fun args nx o k x nx' o' ps h=>by
 unfold Q4 at h
 split at h<;>first|(cases h;done)|skip
 split at h<;>first|(cases h;done)|skip
 rename_i a0 a1 p1 e0 e1
 cases h
 refine⟨fun hp=>?_,_,rfl⟩
 have q1:=fun p hm=>hp p (List.mem_append.2 (.inl hm))
 have r1:=fun p hm=>hp p (List.mem_append.2 (.inr hm))
 refine Ah (Ag (Avw a0 a1 r1) (Nat.le_refl _) (Ac rfl (Ac (Af _ _) Ao)) nx o) fun F N R vs hl=>?_
 obtain⟨v0,w0,rfl,h0,hl⟩:=hl.inv
 obtain⟨v1,w1,rfl,h1,hl⟩:=hl.inv
 exact HL.cons (Cx e0 h0) (HL.cons (Am e1 q1 h1) (hl))
end Go.Proofs.Yteebobbhhgmeiaa
namespace Go.Proofs.Yteebobbhhgmeiaa
open Go.RowKit
abbrev Db:Type:=(List TGroup)×(List TRow)×Int
def MP (x:Db):St:=⟨50,0,[(0,.sl .group x.1),(1,.sl .row x.2.1),(6,.v (.int .i64 x.2.2))],[]⟩
def PE:St→Option Db
 |⟨50,0,[(0,.sl .group z0),(1,.sl .row z1),(6,.v (.int .i64 z2))],[]⟩=>some (z0,z1,z2)
 |_=>none
theorem Anr:∀s x,PE s=some x→s=MP x:=fun s x h=>by
 unfold PE at h
 split at h
 ·cases h;rfl
 ·cases h
def Abd:De:=⟨0,0,[0,1,6],[],[],[],[4,5],[]⟩
def A29:Dy:=⟨[],[],[0,1,6],[]⟩
def G1 (_a0:List TGroup) (_a1:List TRow) (a2:Int):Int:=IntKind.i64.wrap (a2 - (1:Int))
def BH (a0:List TGroup) (a1:List TRow) (a2:Int):Bool:=Ap a0 (a1.getD a2.toNat (Ae TC.row)) !=(0:Int)
def Bd (_a0:List TGroup) (a1:List TRow) (a2:Int):Bool:=!!decide (a2 <(↑a1.length:Int))
def Ea (a0:List TGroup) (a1:List TRow) (a2:Int):Bool:=(Bd a0 a1 a2)&&((BH a0 a1 a2)||(FG (a1.getD a2.toNat (Ae TC.row))||decide (a2 >(0:Int))&&!Op.bytesLess (a1.getD (G1 a0 a1 a2).toNat (Ae TC.row)).1.toList (a1.getD a2.toNat (Ae TC.row)).1.toList))
def At0 (a0:List TGroup) (a1:List TRow) (a2:Int):Bool:=(Bd a0 a1 a2)&&!(Ea a0 a1 a2)
def Iv (a0:List TGroup) (a1:List TRow) (a2:Int):Int:=bif(BH a0 a1 a2) then Ap a0 (a1.getD a2.toNat (Ae TC.row)) else(100:Int)
def Anq (a0:List TGroup) (a1:List TRow) (a2:Int):Int:=Ap a0 (a1.getD a2.toNat (Ae TC.row))
def G3 (x:Db):Db:=(x.1,x.2.1,IntKind.i64.wrap (x.2.2+(1:Int)))
def G2 (x:Db):Cnd:=some (At0 x.1 x.2.1 x.2.2)
def Vz (x:Db):List Prop:=[((Bd x.1 x.2.1 x.2.2)=true→(0:Int)≤x.2.2∧x.2.2 <(↑x.2.1.length:Int)),((Bd x.1 x.2.1 x.2.2)=true→∀(g:TGroup),g∈x.1→Az g.1.size),((Bd x.1 x.2.1 x.2.2)=true→(!(BH x.1 x.2.1 x.2.2))=true→(0:Int)≤x.2.2∧x.2.2 <(↑x.2.1.length:Int)),((Bd x.1 x.2.1 x.2.2)=true→(!(BH x.1 x.2.1 x.2.2))=true→Ai (x.2.1.getD x.2.2.toNat (Ae TC.row)).2.length),((Bd x.1 x.2.1 x.2.2)=true→(!(BH x.1 x.2.1 x.2.2))=true→decide (x.2.2 >(0:Int))=true→FG (x.2.1.getD x.2.2.toNat (Ae TC.row))=false→(0:Int)≤(G1 x.1 x.2.1 x.2.2)∧(G1 x.1 x.2.1 x.2.2) <(↑x.2.1.length:Int)),((Bd x.1 x.2.1 x.2.2)=true→(!(BH x.1 x.2.1 x.2.2))=true→decide (x.2.2 >(0:Int))=true→FG (x.2.1.getD x.2.2.toNat (Ae TC.row))=false→(0:Int)≤x.2.2∧x.2.2 <(↑x.2.1.length:Int))]
def JV (x:Db):List Prop:=[((Bd x.1 x.2.1 x.2.2)=true→(0:Int)≤x.2.2∧x.2.2 <(↑x.2.1.length:Int)),((Bd x.1 x.2.1 x.2.2)=true→∀(g:TGroup),g∈x.1→Az g.1.size),((Bd x.1 x.2.1 x.2.2)=true→(!(BH x.1 x.2.1 x.2.2))=true→(0:Int)≤x.2.2∧x.2.2 <(↑x.2.1.length:Int)),((Bd x.1 x.2.1 x.2.2)=true→(!(BH x.1 x.2.1 x.2.2))=true→Ai (x.2.1.getD x.2.2.toNat (Ae TC.row)).2.length),((Bd x.1 x.2.1 x.2.2)=true→(!(BH x.1 x.2.1 x.2.2))=true→decide (x.2.2 >(0:Int))=true→FG (x.2.1.getD x.2.2.toNat (Ae TC.row))=false→(0:Int)≤(G1 x.1 x.2.1 x.2.2)∧(G1 x.1 x.2.1 x.2.2) <(↑x.2.1.length:Int)),((Bd x.1 x.2.1 x.2.2)=true→(!(BH x.1 x.2.1 x.2.2))=true→decide (x.2.2 >(0:Int))=true→FG (x.2.1.getD x.2.2.toNat (Ae TC.row))=false→(0:Int)≤x.2.2∧x.2.2 <(↑x.2.1.length:Int))]
def Tj (x:Db):Bl:=[(some 0,some (!decide (x.2.2 <(↑x.2.1.length:Int))),⟨50,0,[(4,.dead),(5,.dead)],[]⟩),(none,some ((Ea x.1 x.2.1 x.2.2)),⟨50,0,[(4,.v (.int .i64 (Iv x.1 x.2.1 x.2.2))),(5,.v (.int .i64 (Anq x.1 x.2.1 x.2.2)))],[]⟩)]
def Iw (x:Db):Nat:=((↑x.2.1.length:Int) - x.2.2).toNat
def KJ (x:Db):Db:=A9 G3 G2 (Iw x) x
set_option maxRecDepth 100000 in
theorem A0d (a0:List TGroup) (a1:List TRow) (a2:Int):Bx (AA Cn L0) 9 (Aj Try.prog 93 0) Abd (MP (a0,a1,a2))=some (Vz (a0,a1,a2),Tj (a0,a1,a2),G2 (a0,a1,a2),MP (G3 (a0,a1,a2))):=by kernel_rfl
set_option maxRecDepth 100000 in
theorem A0e (a0:List TGroup) (a1:List TRow) (a2:Int) (hp:∀p∈JV (a0,a1,a2),p):∀p∈Vz (a0,a1,a2),p:=by
 have n0:=N0 hp
 have n1:=N0 (N1 hp)
 have n2:=N0 (N1 (N1 hp))
 have n3:=N0 (N1 (N1 (N1 hp)))
 have n4:=N0 (N1 (N1 (N1 (N1 hp))))
 have n5:=N0 (N1 (N1 (N1 (N1 (N1 hp)))))
 exact(Aa n0 (Aa n1 (Aa n2 (Aa n3 (Aa n4 (Aa n5 Ab))))))
noncomputable def VA:=HU (AA Cn L0) (Aj Try.prog 93 0) Abd A29 PE Iw G3 G2 JV Tj
theorem At1:∀s b ps outs,VA s=some (b,ps,outs)→Wf s ⟨ps,outs,none⟩∧Bs (AA C0 L0) b s ps outs:=
 Bi (T:=MP) Bbt AG (u:=9) (by kernel_rfl) (by decide) (fun⟨a0,a1,a2⟩=>A0d a0 a1 a2) (fun⟨a0,a1,a2⟩=>A0e a0 a1 a2) Anr (fun _=>AR (n:=50) rfl) fun _ _=>rfl
noncomputable def Abc:=DG 0 VA L0
theorem Atz:Hs Abc:=A3 At1 AG
def Nc (a0:List TGroup) (_a1:List TRow):Bool:=AY a0 !=(0:Int)
def Yp (a0:List TGroup) (a1:List TRow):List TGroup:=(KJ (a0,a1,(0:Int))).fst
def Yo (a0:List TGroup) (a1:List TRow):Int:=(KJ (a0,a1,(0:Int))).snd.snd
def Yn (a0:List TGroup) (a1:List TRow):List TRow:=(KJ (a0,a1,(0:Int))).snd.fst
def Ae1 (a0:List TGroup) (a1:List TRow):Int:=bif(Nc a0 a1) then AY a0 else bif Ea (Yp a0 a1) (Yn a0 a1) (Yo a0 a1) then Iv (Yp a0 a1) (Yn a0 a1) (Yo a0 a1) else(0:Int)
def Ae2 (a0:List TGroup) (a1:List TRow):A:=.v (.int .i64 (Ae1 a0 a1))
def A0f (_a0:List TGroup) (_a1:List TRow):Objs:=[]
def Aqz (a0:List TGroup) (a1:List TRow):List Prop:=[(∀(g:TGroup),g∈a0→Az g.1.size),((!(Nc a0 a1))=true→AL G3 G2 JV (Iw (a0,a1,(0:Int))) (a0,a1,(0:Int)))]
set_option maxRecDepth 100000 in
theorem Bf0 (a0:List TGroup) (a1:List TRow):EU (AA Cn Abc) 9 93 [.sl .group a0,Ak .rows a1] 0 []=some (1,Ae2 a0 a1,0,A0f a0 a1,[(∀(g:TGroup),g∈a0→Az g.1.size),((!(Nc a0 a1))=true→Aj Try.prog (93:FuncId) (0:Nat)=Aj Try.prog (93:FuncId) (0:Nat)),((!(Nc a0 a1))=true→AL G3 G2 JV (Iw (a0,a1,(0:Int))) (a0,a1,(0:Int)))]):=by kernel_rfl
set_option maxRecDepth 100000 in
theorem Bjz (a0:List TGroup) (a1:List TRow) (hp:∀p∈Aqz a0 a1,p):CallOk Try.prog 93 [.sl .group a0,Ak .rows a1] 0 [] 1 (Ae2 a0 a1) 0 (A0f a0 a1):=by
 have n0:=N0 hp
 have n1:((!(Nc a0 a1))=true→Aj Try.prog (93:FuncId) (0:Nat)=Aj Try.prog (93:FuncId) (0:Nat)):=by intros;rfl
 have n2:=N0 (N1 hp)
 exact AH (Aw Bbt Atz) (Bf0 a0 a1) (Aa n0 (Aa n1 (Aa n2 Ab)))
def Aq0 (a0:List TGroup) (a1:List TRow):A:=.v (.int .i64 (Gq a0 a1))
def Aqy (_a0:List TGroup) (_a1:List TRow):Objs:=[]
def Ajj (a0:List TGroup) (a1:List TRow):List Prop:=[Az a1.length,∀g∈a0,Az g.1.size]
theorem Bxc (a b:ByteArray):leS a b=!IY b a:=by
 unfold leS
 cases h:IY a b with
 |true=>
  cases g:IY b a with
  |true=>exact absurd rfl (T4 (K1 h g))
  |false=>rfl
 | false=>
  rw[Bool.false_or]
  cases g:a==b with
  |true=>
   obtain rfl:=eq_of_beq g
   rw[h]
   rfl
  |false=>
   rw[SO h (by simpa using g)]
   rfl
theorem Bxb {a:ByteArray} (h:a.size≠0):leS a ⟨#[]⟩=false:=by
 unfold leS
 rw[Bool.or_eq_false_iff]
 constructor
 ·show Op.bytesLess a.toList (ByteArray.mk #[]).toList=false
  rw[show(ByteArray.mk #[]).toList=[] by decide+kernel]
  cases a.toList<;>rfl
 ·refine beq_eq_false_iff_ne.2 fun e=>h ?_
  rw[e]
  rfl
theorem Bni (l:List TGroup) (rows:List TRow) (i:Nat) (hi:i≤9223372036854775807):Ea l rows (i:Int)=(decide (i <rows.length)&&VM l rows i !=0):=by
 have e:Ea l rows (i:Int)=(decide (i <rows.length)&&(Ap l (BU rows i) !=0||(FG (BU rows i)||decide ((i:Int) >0)&&!IY (BU rows (IntKind.i64.wrap ((i:Int) - 1)).toNat).key (BU rows i).key))):=by
  unfold Ea Bd BH G1
  rw[nn,MA,Int.toNat_natCast]
  rfl
 rw[e,Aum]
 cases h:Ap l (BU rows i) !=0 with
 |true=>rfl
 | false=>
  have h0:Ap l (BU rows i)=0:=by simpa using h
  rw[Bool.false_or,Bool.false_or]
  cases i with
  |zero=>
   have h1:leS (BU rows 0).key (OW rows 0)=false:=Bxb (AV h0).2.2.1
   rw[h1]
   rfl
  |succ j=>
   have h1:(IntKind.i64.wrap (((j+1:Nat):Int) - 1)).toNat=j:=by rw[i64_in (by omega)];omega
   have h2:decide (((j+1:Nat):Int) >0)=true:=decide_eq_true (by omega)
   rw[h1,h2,Bxc,Bool.true_and]
   rfl
theorem Aqx (l:List TGroup) (rows:List TRow) (hb:Az rows.length) (hw:∀g∈l,Az g.1.size):(∀p∈Aqz l rows,p)∧Ae1 l rows=Gq l rows:=by
 unfold Az at hb
 obtain⟨h1,k,hk,hx,hs,hst,_⟩:=I6 (fun i=>((l,rows,(i:Int)):Db)) rows.length (fun i=>VM l rows i !=0) G3 G2 JV (Iw (l,rows,0)) (l,rows,0) rfl (by show rows.length≤((rows.length:Int) - 0).toNat;omega)
  (fun i hi _=>by
   show((!!decide ((i:Int) <(rows.length:Int)))&&!Ea l rows (i:Int))=_
   rw[Bni l rows i (by omega),nn,MA]
   cases decide (i <rows.length)<;>rfl)
  (fun i hi _=>by
   show(l,rows,IntKind.i64.wrap ((i:Int)+1))=(l,rows,((i+1:Nat):Int))
   rw[ES (by omega)])
  (fun i hi _=>by
   have hin:(!!decide ((i:Int) <(rows.length:Int)))=true→(i:Int) <(rows.length:Int):=fun h=>by rw[nn] at h;exact of_decide_eq_true h
   refine Aa (fun h=>⟨by show(0:Int)≤(i:Int);omega,hin h⟩) (Aa (fun _=>hw) (Aa (fun h _=>⟨by show(0:Int)≤(i:Int);omega,hin h⟩) (Aa (fun _ h2=>?_) (Aa (fun h _ h3 _=>?_) (Aa (fun h _ _ _=>⟨by show(0:Int)≤(i:Int);omega,hin h⟩) Ab)))))
   ·have h3:Ap l (rows.getD ((i:Int)).toNat (Ae TC.row))=0:=by
     have h4:(!(Ap l (rows.getD ((i:Int)).toNat (Ae TC.row)) !=0))=true:=h2
     simpa using h4
    obtain⟨g1,g2,_⟩:=AV h3
    have:=(Hr g1).2
    show Ai (rows.getD ((i:Int)).toNat (Ae TC.row)).cells.length
    unfold Ai
    omega
   ·have h4:(i:Int) >0:=of_decide_eq_true h3
    have h5:=hin h
    show(0:Int)≤IntKind.i64.wrap ((i:Int) - 1)∧IntKind.i64.wrap ((i:Int) - 1) <(rows.length:Int)
    rw[i64_in (by omega)]
    omega)
 have hr:KJ (l,rows,0)=(l,rows,(k:Int)):=hx
 refine⟨Aa hw (Aa (fun _=>h1) Ab),?_⟩
 unfold Ae1 Gq
 show(bif AY l !=0 then AY l else _)=_
 congr 1
 unfold Yp Yo Yn
 rw[hr]
 show(bif Ea l rows (k:Int) then Iv l rows (k:Int) else 0)=_
 have hk9:k≤9223372036854775807:=Nat.le_trans hk (by omega)
 rw[Bni l rows k hk9]
 have h0:Gv l rows k=0:=(Agw l rows k).2 fun i hi=>by simpa using hs i hi
 rcases Nat.lt_or_ge k rows.length with h|h
 ·have he:=hst h
  rw[decide_eq_true h,he]
  have e1:Gv l rows (k+1)=VM l rows k:=by
   show(bif Gv l rows k !=0 then Gv l rows k else VM l rows k)=_
   rw[h0];rfl
  have hne:Gv l rows (k+1)≠0:=by rw[e1];simpa using he
  rw[Ws hne rows.length h,e1]
  show Iv l rows (k:Int)=_
  unfold Iv BH
  rw[Int.toNat_natCast]
  rw[Aum] at he
  unfold VM
  show(bif Ap l (BU rows k) !=0 then Ap l (BU rows k) else 100)=_
  cases hg:Ap l (BU rows k) !=0 with
  |true=>rfl
  |false=>
   rw[hg,Bool.false_or] at he
   rw[he]
   rfl
 ·obtain rfl:k=rows.length:=by omega
  rw[decide_eq_false (Nat.lt_irrefl _),h0]
  rfl
theorem Bfz (a0:List TGroup) (a1:List TRow) (hp:∀p∈Ajj a0 a1,p):CallOk Try.prog 93 [.sl .group a0,Ak .rows a1] 0 [] 1 (Aq0 a0 a1) 0 (Aqy a0 a1):=by
 have hb:Az a1.length:=hp _ (List.mem_cons_self ..)
 have hw:∀g∈a0,Az g.1.size:=hp _ (List.mem_cons_of_mem _ (List.mem_cons_self ..))
 have h:=Bjz a0 a1 (Aqx a0 a1 hb hw).1
 unfold Ae2 at h
 rw[(Aqx a0 a1 hb hw).2] at h
 exact h
def Ae3:List A→Nat→Objs→Option A8
 | [y0,y1],nx,o=>match Kp .group y0,AP .rows y1 with
  |some a0,some (a1,p1)=>some (1,(Aq0 a0 a1).pk (AF nx),nx+0,AE nx (Aqy a0 a1)++o,p1++(Ajj a0 a1))
  |_,_=>none
 |_,_,_=>none
theorem A9o:Fu Try.prog 93 Ae3:=fun args nx o k x nx' o' ps h=>by
 unfold Ae3 at h
 split at h<;>first|(cases h;done)|skip
 split at h<;>first|(cases h;done)|skip
 rename_i a0 a1 p1 e0 e1
 cases h
 refine⟨fun hp=>?_,_,rfl⟩
 have q1:=fun p hm=>hp p (List.mem_append.2 (.inl hm))
 have r1:=fun p hm=>hp p (List.mem_append.2 (.inr hm))
 refine Ah (Ag (Bfz a0 a1 r1) (Nat.le_refl _) (Ac rfl (Ac (Af _ _) Ao)) nx o) fun F N R vs hl=>?_
 obtain⟨v0,w0,rfl,h0,hl⟩:=hl.inv
 obtain⟨v1,w1,rfl,h1,hl⟩:=hl.inv
 exact HL.cons (Cx e0 h0) (HL.cons (Am e1 q1 h1) (hl))
noncomputable def Blr:=A5 93 Ae3 Cn
theorem Bbg:Df Try.prog Blr:=Av A9o Bbt
abbrev Dm:Type:=(List TRow)×(List TRow)×Int
def N8 (x:Dm):St:=⟨27,0,[(0,.sl .row x.1),(1,.sl .row x.2.1),(5,.v (.int .i64 x.2.2))],[]⟩
def RH:St→Option Dm
 |⟨27,0,[(0,.sl .row z0),(1,.sl .row z1),(5,.v (.int .i64 z2))],[]⟩=>some (z0,z1,z2)
 |_=>none
theorem As5:∀s x,RH s=some x→s=N8 x:=fun s x h=>by
 unfold RH at h
 split at h
 ·cases h;rfl
 ·cases h
def Aiw:De:=⟨0,0,[0,1,5],[],[],[],[4],[]⟩
def A87:Dy:=⟨[],[],[0,1,5],[]⟩
def DO (a0:List TRow) (_a1:List TRow) (a2:Int):Bool:=!!decide (a2 <(↑a0.length:Int))
def DN (a0:List TRow) (a1:List TRow) (a2:Int):Bool:=(DO a0 a1 a2)&&!Ako (a0.getD a2.toNat (Ae TC.row)) (a1.getD a2.toNat (Ae TC.row))
def Aza (a0:List TRow) (a1:List TRow) (a2:Int):Bool:=(DO a0 a1 a2)&&!(DN a0 a1 a2)
def Gf (x:Dm):Dm:=(x.1,x.2.1,IntKind.i64.wrap (x.2.2+(1:Int)))
def Ge (x:Dm):Cnd:=some (Aza x.1 x.2.1 x.2.2)
def XZ (x:Dm):List Prop:=[((DO x.1 x.2.1 x.2.2)=true→(0:Int)≤x.2.2∧x.2.2 <(↑x.1.length:Int)),((DO x.1 x.2.1 x.2.2)=true→(0:Int)≤x.2.2∧x.2.2 <(↑x.2.1.length:Int)),((DO x.1 x.2.1 x.2.2)=true→Ai (x.1.getD x.2.2.toNat (Ae TC.row)).2.length)]
def Jf (x:Dm):List Prop:=[((DO x.1 x.2.1 x.2.2)=true→(0:Int)≤x.2.2∧x.2.2 <(↑x.1.length:Int)),((DO x.1 x.2.1 x.2.2)=true→(0:Int)≤x.2.2∧x.2.2 <(↑x.2.1.length:Int)),((DO x.1 x.2.1 x.2.2)=true→Ai (x.1.getD x.2.2.toNat (Ae TC.row)).2.length)]
def Vg (x:Dm):Bl:=[(some 0,some (!decide (x.2.2 <(↑x.1.length:Int))),⟨27,0,[(4,.dead)],[]⟩),(none,some ((DN x.1 x.2.1 x.2.2)),⟨27,0,[(4,.v (.bool (false)))],[]⟩)]
def HB (x:Dm):Nat:=((↑x.1.length:Int) - x.2.2).toNat
def FC (x:Dm):Dm:=A9 Gf Ge (HB x) x
set_option maxRecDepth 100000 in
theorem A2t (a0:List TRow) (a1:List TRow) (a2:Int):Bx (AA Blr L0) 9 (Aj Try.prog 49 0) Aiw (N8 (a0,a1,a2))=some (XZ (a0,a1,a2),Vg (a0,a1,a2),Ge (a0,a1,a2),N8 (Gf (a0,a1,a2))):=by kernel_rfl
set_option maxRecDepth 100000 in
theorem A2u (a0:List TRow) (a1:List TRow) (a2:Int) (hp:∀p∈Jf (a0,a1,a2),p):∀p∈XZ (a0,a1,a2),p:=by
 have n0:=N0 hp
 have n1:=N0 (N1 hp)
 have n2:=N0 (N1 (N1 hp))
 exact(Aa n0 (Aa n1 (Aa n2 Ab)))
noncomputable def X0:=HU (AA Blr L0) (Aj Try.prog 49 0) Aiw A87 RH HB Gf Ge Jf Vg
theorem Azb:∀s b ps outs,X0 s=some (b,ps,outs)→Wf s ⟨ps,outs,none⟩∧Bs (AA C0 L0) b s ps outs:=
 Bi (T:=N8) Bbg AG (u:=9) (by kernel_rfl) (by decide) (fun⟨a0,a1,a2⟩=>A2t a0 a1 a2) (fun⟨a0,a1,a2⟩=>A2u a0 a1 a2) As5 (fun _=>AR (n:=27) rfl) fun _ _=>rfl
noncomputable def Aiv:=DG 0 X0 L0
theorem Ay9:Hs Aiv:=A3 Azb AG
def Ad8 (a0:List TRow) (a1:List TRow):Dm:=FC (a0,a1,(0:Int))
def JL (a0:List TRow) (a1:List TRow):Bool:=(↑a0.length:Int) !=(↑a1.length:Int)
def Amp (a0:List TRow) (a1:List TRow):Bool:=bif(JL a0 a1) then false else bif DN (Ad8 a0 a1).fst (Ad8 a0 a1).snd.fst (Ad8 a0 a1).snd.snd then false else true
def Amq (a0:List TRow) (a1:List TRow):A:=.v (.bool (Amp a0 a1))
def A49 (_a0:List TRow) (_a1:List TRow):Objs:=[]
def Azd (a0:List TRow) (a1:List TRow):List Prop:=[((!(JL a0 a1))=true→AL Gf Ge Jf (HB (a0,a1,(0:Int))) (a0,a1,(0:Int)))]
set_option maxRecDepth 100000 in
theorem Bjg (a0:List TRow) (a1:List TRow):EU (AA Blr Aiv) 9 49 [Ak .rows a0,Ak .rows a1] 0 []=some (1,Amq a0 a1,0,A49 a0 a1,[((!(JL a0 a1))=true→Aj Try.prog (49:FuncId) (0:Nat)=Aj Try.prog (49:FuncId) (0:Nat)),((!(JL a0 a1))=true→AL Gf Ge Jf (HB (a0,a1,(0:Int))) (a0,a1,(0:Int)))]):=by kernel_rfl
set_option maxRecDepth 100000 in
theorem Bpb (a0:List TRow) (a1:List TRow) (hp:∀p∈Azd a0 a1,p):CallOk Try.prog 49 [Ak .rows a0,Ak .rows a1] 0 [] 1 (Amq a0 a1) 0 (A49 a0 a1):=by
 have n0:((!(JL a0 a1))=true→Aj Try.prog (49:FuncId) (0:Nat)=Aj Try.prog (49:FuncId) (0:Nat)):=by intros;rfl
 have n1:=N0 hp
 exact AH (Aw Bbg Ay9) (Bjg a0 a1) (Aa n0 (Aa n1 Ab))
def Bol (a b:List TRow):Bool:=a.length==b.length&&Ko a.length fun i=>Ako (a.getD i (Ae TC.row)) (b.getD i (Ae TC.row))
def Aze (a0:List TRow) (a1:List TRow):A:=.v (.bool (Bol a0 a1))
def Azc (_a0:List TRow) (_a1:List TRow):Objs:=[]
def Ap4 (a0:List TRow) (_a1:List TRow):List Prop:=[Az a0.length,∀r∈a0,Ai r.cells.length]
theorem Ay8 (a b:List TRow) (hl:Az a.length) (hb:∀r∈a,Ai r.cells.length):(∀p∈Azd a b,p)∧Amp a b=Bol a b:=by
 unfold Az at hl
 have hk0:JL a b=(a.length !=b.length):=by
  show((a.length:Int) !=(b.length:Int))=_
  rw[Bool.eq_iff_iff,bne_iff_ne,bne_iff_ne];omega
 have main:JL a b=false→AL Gf Ge Jf (HB (a,b,0)) (a,b,0)∧DN (FC (a,b,0)).1 (FC (a,b,0)).2.1 (FC (a,b,0)).2.2=!Ko a.length fun i=>Ako (a.getD i (Ae TC.row)) (b.getD i (Ae TC.row)):=fun h0=>by
  rw[hk0] at h0
  have hlen:a.length=b.length:=by simpa using h0
  have hf:∀i:Nat,DN a b (i:Int)=(decide (i <a.length)&&!Ako (a.getD i (Ae TC.row)) (b.getD i (Ae TC.row))):=fun i=>by
   unfold DN DO
   rw[nn,MA,Int.toNat_natCast]
  obtain⟨h1,k,hk,hx,_,_,hb'⟩:=I6 (fun i=>((a,b,(i:Int)):Dm)) a.length (fun i=>!Ako (a.getD i (Ae TC.row)) (b.getD i (Ae TC.row))) Gf Ge Jf (HB (a,b,0)) (a,b,0) rfl (by show a.length≤((a.length:Int) - 0).toNat;omega)
   (fun i _ _=>by
    show((!!decide ((i:Int) <(a.length:Int)))&&!DN a b (i:Int))=_
    rw[hf,nn,MA]
    cases decide (i <a.length)<;>rfl)
   (fun i hi _=>by
    show(a,b,IntKind.i64.wrap ((i:Int)+1))=(a,b,((i+1:Nat):Int))
    rw[ES (by omega)])
   (fun i hi _=>by
    have hin:(!!decide ((i:Int) <(a.length:Int)))=true→(i:Int) <(a.length:Int):=fun h=>by rw[nn] at h;exact of_decide_eq_true h
    refine Aa (fun h=>⟨by show(0:Int)≤(i:Int);omega,hin h⟩) (Aa (fun h=>⟨by show(0:Int)≤(i:Int);omega,by have:=hin h;show(i:Int) <(b.length:Int);omega⟩) (Aa (fun h=>?_) Ab))
    have h5:=hin h
    have e:((i:Int)).toNat=i:=Int.toNat_natCast i
    show Ai (a.getD ((i:Int)).toNat (Ae TC.row)).2.length
    rw[e]
    exact hb _ (getD_in a (Ae TC.row) i (by omega)))
  refine⟨h1,?_⟩
  have hr:FC (a,b,0)=(a,b,(k:Int)):=hx
  rw[hr]
  show DN a b (k:Int)=_
  rw[hf,hb']
  congr 1
  exact IK fun i _=>Bool.not_not _
 refine⟨Aa (fun h=>(main (by simpa using h)).1) Ab,?_⟩
 unfold Amp Bol
 cases h0:JL a b with
 |true=>
  rw[hk0] at h0
  have e:(a.length==b.length)=false:=by simpa using h0
  rw[e]
  rfl
 |false=>
  have h1:=h0
  rw[hk0] at h1
  have e:(a.length==b.length)=true:=by simpa using h1
  rw[cond_false,e,Bool.true_and]
  have m:=(main h0).2
  show(!DN (FC (a,b,0)).1 (FC (a,b,0)).2.1 (FC (a,b,0)).2.2)=_
  rw[m,Bool.not_not]
theorem Bjf (a0:List TRow) (a1:List TRow) (hp:∀p∈Ap4 a0 a1,p):CallOk Try.prog 49 [Ak .rows a0,Ak .rows a1] 0 [] 1 (Aze a0 a1) 0 (Azc a0 a1):=by
 have hb:Az a0.length:=hp _ (List.mem_cons_self ..)
 have hc:∀r∈a0,Ai r.cells.length:=hp _ (List.mem_cons_of_mem _ (List.mem_cons_self ..))
 have h:=Bpb a0 a1 (Ay8 a0 a1 hb hc).1
 unfold Amq at h
 rw[(Ay8 a0 a1 hb hc).2] at h
 exact h
theorem Bom (a:List TRow):Bol a a=true:=by
 unfold Bol
 rw[beq_self_eq_true,Bool.true_and,IU]
 exact fun i _=>Bsg.2 rfl
def Amr:List A→Nat→Objs→Option A8
 | [y0,y1],nx,o=>match AP .rows y0,AP .rows y1 with
  |some (a0,p0),some (a1,p1)=>some (1,(Aze a0 a1).pk (AF nx),nx+0,AE nx (Azc a0 a1)++o,p0++(p1++(Ap4 a0 a1)))
  |_,_=>none
 |_,_,_=>none
theorem Bfb:Fu Try.prog 49 Amr:=fun args nx o k x nx' o' ps h=>by
 unfold Amr at h
 split at h<;>first|(cases h;done)|skip
 split at h<;>first|(cases h;done)|skip
 rename_i a0 p0 a1 p1 e0 e1
 cases h
 refine⟨fun hp=>?_,_,rfl⟩
 have q0:=fun p hm=>hp p (List.mem_append.2 (.inl hm))
 have r0:=fun p hm=>hp p (List.mem_append.2 (.inr hm))
 have q1:=fun p hm=>r0 p (List.mem_append.2 (.inl hm))
 have r1:=fun p hm=>r0 p (List.mem_append.2 (.inr hm))
 refine Ah (Ag (Bjf a0 a1 r1) (Nat.le_refl _) (Ac (Af _ _) (Ac (Af _ _) Ao)) nx o) fun F N R vs hl=>?_
 obtain⟨v0,w0,rfl,h0,hl⟩:=hl.inv
 obtain⟨v1,w1,rfl,h1,hl⟩:=hl.inv
 exact HL.cons (Am e0 q0 h0) (HL.cons (Am e1 q1 h1) (hl))
end Go.Proofs.Yteebobbhhgmeiaa
namespace Go.Proofs.Yteebobbhhgmeiaa
open Go.RowKit
def KO (cs:List TChange) (i:Nat):TChange:=cs.getD i (Ae TC.change)
def stE (l:List TGroup) (cs:List TChange):Int:=bif AY l !=0 then AY l else bif Ko cs.length (fun i=>NV l (KO cs i)==0) then 0 else 120
def stN (l:List TGroup) (cs:List TChange):Nat→List TRow
 |0=>[]
 |i+1=>mrg ((stN l cs i).length+(nb (PR l (KO cs i))).length) (stN l cs i) (nb (PR l (KO cs i)))
def stR (l:List TGroup) (cs:List TChange):List TRow:=bif stE l cs==0 then stN l cs cs.length else[]
theorem Bif (l:List TGroup) (c:TChange):Stt l (nb (PR l c)):=B1g (Avr l c).1 (Avr l c).2
theorem Bab (l:List TGroup) (cs:List TChange):∀i,Stt l (stN l cs i)
 |0=>Auw l
 |i+1=>(Bab l cs i).mrg _ (Bif l _)
theorem Byd (l:List TGroup) (cs:List TChange):Stt l (stR l cs):=by
 unfold stR
 cases stE l cs==0 with
 |true=>exact Bab l cs _
 |false=>exact Auw l
theorem A6r (l:List TGroup) (c:TChange):(PR l c).length≤8:=by
 unfold PR
 cases h:NV l c==0 with
 |false=>exact Nat.zero_le _
 |true=>
  have h0:NV l c=0:=by simpa using h
  obtain⟨_,_,hn,_⟩:=Bcl.1 h0
  unfold Aif at hn
  rw[Bool.and_eq_true,decide_eq_true_eq,decide_eq_true_eq] at hn
  exact Nat.le_trans (A6q l c _) hn.2
theorem Big (rows:List TRow):(nb rows).length≤rows.length:=List.length_filter_le _ _
theorem Baa (l:List TGroup) (cs:List TChange):∀i,(stN l cs i).length≤8*i
 |0=>Nat.le_refl _
 |i+1=>by
  have h1:=Baa l cs i
  have h2:=Y7 ((stN l cs i).length+(nb (PR l (KO cs i))).length) (stN l cs i) (nb (PR l (KO cs i)))
  have h3:=Big (PR l (KO cs i))
  have h4:=A6r l (KO cs i)
  show(mrg _ _ _).length≤_
  omega
theorem Bnt (l:List TGroup) (cs:List TChange):∀i,i≤cs.length→stN l cs i=stF ((cs.take i).map (PR l))
 |0,_=>rfl
 | i+1,h=>by
  rw[Aj4 cs (Ae TC.change) i (by omega),List.map_append]
  have e:stF (((cs.take i).map (PR l))++[cs.getD i (Ae TC.change)].map (PR l))=mrg ((stF ((cs.take i).map (PR l))).length+(nb (PR l (KO cs i))).length) (stF ((cs.take i).map (PR l))) (nb (PR l (KO cs i))):=by
   unfold stF
   rw[List.foldl_append]
   rfl
  rw[e,←Bnt l cs i (by omega)]
  rfl
def mgE (l:List TGroup) (a b:List TRow):Int:=bif Gq l a !=0 then Gq l a else Gq l b
def mgR (l:List TGroup) (a b:List TRow):List TRow:=bif mgE l a b==0 then mrg (a.length+b.length) a b else[]
theorem Ak1 {l:List TGroup} {a:List TRow} (h:Gq l a=0):AY l=0∧Stt l a:=⟨(Aun.1 h).1,(Bye (Aun.1 h).1).1 h⟩
theorem B2y {l:List TGroup} {a b:List TRow}:mgE l a b=0↔Gq l a=0∧Gq l b=0:=by
 unfold mgE
 cases h:Gq l a !=0 with
 |true=>
  rw[cond_true]
  have h':Gq l a≠0:=by simpa using h
  exact⟨fun e=>absurd e h',fun e=>absurd e.1 h'⟩
 |false=>
  rw[cond_false]
  have h':Gq l a=0:=by simpa using h
  exact⟨fun e=>⟨h',e⟩,fun e=>e.2⟩
end Go.Proofs.Yteebobbhhgmeiaa
namespace Go.Proofs.Yteebobbhhgmeiaa
open Go.RowKit
noncomputable def By8:=A5 142 Q4 Cmg
theorem Brf:Df Try.prog By8:=Av Art B0i
noncomputable def Au3:=A5 84 N3 By8
theorem Afu:Df Try.prog Au3:=Av Xd Brf
abbrev BD:Type:=(List TRow)×Int×Int×(List TRow)
def Ka (x:BD):St:=⟨55,6,[(11,.sq 5),(35,.sl .row x.1),(36,.v (.int .i64 x.2.1)),(37,.v (.int .i64 x.2.2.1))],[(5,some (.arr 71 2 (.ty .row x.2.2.2)))]⟩
def LD:St→Option BD
 |⟨55,6,[(11,.sq 5),(35,.sl .row z0),(36,.v (.int .i64 z1)),(37,.v (.int .i64 z2))],[(5,some (.arr 71 2 (.ty .row z3)))]⟩=>some (z0,z1,z2,z3)
 |_=>none
theorem Zy:∀s x,LD s=some x→s=Ka x:=fun s x h=>by
 unfold LD at h
 split at h
 ·cases h;rfl
 ·cases h
def ST:De:=⟨5,6,[11,35,36,37],[],[(9,5)],[9],[11],[5]⟩
def Al0:Dy:=⟨[.frz 3,.nil 11 71 .row],[(4,5)],[11,35,36,37],[4]⟩
def KS (a0:List TRow) (_a1:Int) (a2:Int) (a3:List TRow):List TRow:=bif !FG (a0.getD a2.toNat (Ae TC.row)) then a3++[a0.getD a2.toNat (Ae TC.row)] else a3
def CI (x:BD):BD:=(x.1,x.2.1,IntKind.i64.wrap (x.2.2.1+(1:Int)),KS x.1 x.2.1 x.2.2.1 x.2.2.2)
def CH (x:BD):Cnd:=some (!!decide (x.2.2.1 <x.2.1))
def O2 (x:BD):List Prop:=[((!!decide (x.2.2.1 <x.2.1))=true→(0:Int)≤x.2.2.1∧x.2.2.1 <(↑x.1.length:Int)),((!!decide (x.2.2.1 <x.2.1))=true→Ai (x.1.getD x.2.2.1.toNat (Ae TC.row)).2.length),((!!decide (x.2.2.1 <x.2.1))=true→(!FG (x.1.getD x.2.2.1.toNat (Ae TC.row)))=true→Ai (x.2.2.2.length+(1:Nat)))]
def Et (x:BD):List Prop:=[((!!decide (x.2.2.1 <x.2.1))=true→(0:Int)≤x.2.2.1∧x.2.2.1 <(↑x.1.length:Int)),((!!decide (x.2.2.1 <x.2.1))=true→Ai (x.1.getD x.2.2.1.toNat (Ae TC.row)).2.length),((!!decide (x.2.2.1 <x.2.1))=true→(!FG (x.1.getD x.2.2.1.toNat (Ae TC.row)))=true→Ai (x.2.2.2.length+(1:Nat)))]
def NM (x:BD):Bl:=[(some 2,some (!decide (x.2.2.1 <x.2.1)),⟨55,6,[(11,.sq 5)],[(5,some (.arr 71 2 (.ty .row x.2.2.2)))]⟩)]
def Du (x:BD):Nat:=(x.2.1 - x.2.2.1).toNat
def IP (x:BD):BD:=A9 CI CH (Du x) x
set_option maxRecDepth 100000 in
theorem Ah3 (a0:List TRow) (a1:Int) (a2:Int) (a3:List TRow):Bx (AA Au3 L0) 9 (Aj Try.prog 82 2) ST (Ka (a0,a1,a2,a3))=some (O2 (a0,a1,a2,a3),NM (a0,a1,a2,a3),CH (a0,a1,a2,a3),Ka (CI (a0,a1,a2,a3))):=by kernel_rfl
set_option maxRecDepth 100000 in
theorem Ah4 (a0:List TRow) (a1:Int) (a2:Int) (a3:List TRow) (hp:∀p∈Et (a0,a1,a2,a3),p):∀p∈O2 (a0,a1,a2,a3),p:=by
 have n0:=N0 hp
 have n1:=N0 (N1 hp)
 have n2:=N0 (N1 (N1 hp))
 exact(Aa n0 (Aa n1 (Aa n2 Ab)))
noncomputable def O3:=HU (AA Au3 L0) (Aj Try.prog 82 2) ST Al0 LD Du CI CH Et NM
theorem Acy:∀s b ps outs,O3 s=some (b,ps,outs)→Wf s ⟨ps,outs,none⟩∧Bs (AA C0 L0) b s ps outs:=
 Bi (T:=Ka) Afu AG (u:=9) (by kernel_rfl) (by decide) (fun⟨a0,a1,a2,a3⟩=>Ah3 a0 a1 a2 a3) (fun⟨a0,a1,a2,a3⟩=>Ah4 a0 a1 a2 a3) Zy (fun _=>AR (n:=55) rfl) fun _ _=>rfl
noncomputable def J9:=DG 2 O3 L0
theorem O1:Hs J9:=A3 Acy AG
abbrev BC:Type:=(List TGroup)×(List TChange)×Int×Int×(List TRow)
def J8 (x:BC):St:=⟨55,2,[(0,.sl .group x.1),(4,.dq 1),(19,.sl .change x.2.1),(20,.v (.int .i64 x.2.2.1)),(21,.v (.int .i64 x.2.2.2.1))],[(1,some (.deep 71 .row x.2.2.2.2))]⟩
def LC:St→Option BC
 |⟨55,2,[(0,.sl .group z0),(4,.dq 1),(19,.sl .change z1),(20,.v (.int .i64 z2)),(21,.v (.int .i64 z3))],[(1,some (.deep 71 .row z4))]⟩=>some (z0,z1,z2,z3,z4)
 |_=>none
theorem Zx:∀s x,LC s=some x→s=J8 x:=fun s x h=>by
 unfold LC at h
 split at h
 ·cases h;rfl
 ·cases h
def SS:De:=⟨1,2,[0,4,19,20,21],[],[(6,1)],[6],[4,5],[1]⟩
def Alz:Dy:=⟨[.nilD 4 71 .row],[(0,1)],[0,4,19,20,21],[0]⟩
def CG (a0:List TGroup) (a1:List TChange) (a2:Int) (a3:Int) (_a4:List TRow):Bool:=!!decide (a3 <a2)&&NV a0 (a1.getD a3.toNat (Ae TC.change)) !=(0:Int)
def By (a0:List TGroup) (a1:List TChange) (_a2:Int) (a3:Int) (_a4:List TRow):List TRow:=(IP (PR a0 (a1.getD a3.toNat (Ae TC.change)),(↑(PR a0 (a1.getD a3.toNat (Ae TC.change))).length:Int),(0:Int),[])).snd.snd.snd
def KR (a0:List TGroup) (a1:List TChange) (a2:Int) (a3:Int) (a4:List TRow):List TRow:=mrg (a4.length+(By a0 a1 a2 a3 a4).length) a4 (By a0 a1 a2 a3 a4)
def Acw (a0:List TGroup) (a1:List TChange) (a2:Int) (a3:Int) (a4:List TRow):Bool:=!!decide (a3 <a2)&&!(CG a0 a1 a2 a3 a4)
def Dt (x:BC):BC:=(x.1,x.2.1,x.2.2.1,IntKind.i64.wrap (x.2.2.2.1+(1:Int)),KR x.1 x.2.1 x.2.2.1 x.2.2.2.1 x.2.2.2.2)
def Ds (x:BC):Cnd:=some (Acw x.1 x.2.1 x.2.2.1 x.2.2.2.1 x.2.2.2.2)
def OZ (x:BC):List Prop:=[((!!decide (x.2.2.2.1 <x.2.2.1))=true→(0:Int)≤x.2.2.2.1∧x.2.2.2.1 <(↑x.2.1.length:Int)),((!!decide (x.2.2.2.1 <x.2.2.1))=true→Az (x.2.1.getD x.2.2.2.1.toNat (Ae TC.change)).5.length),((!!decide (x.2.2.2.1 <x.2.2.1))=true→(!NV x.1 (x.2.1.getD x.2.2.2.1.toNat (Ae TC.change)) !=(0:Int))=true→Aj Try.prog (82:FuncId) (2:Nat)=Aj Try.prog (82:FuncId) (2:Nat)),((!!decide (x.2.2.2.1 <x.2.2.1))=true→(!NV x.1 (x.2.1.getD x.2.2.2.1.toNat (Ae TC.change)) !=(0:Int))=true→AL CI CH Et (Du (PR x.1 (x.2.1.getD x.2.2.2.1.toNat (Ae TC.change)),(↑(PR x.1 (x.2.1.getD x.2.2.2.1.toNat (Ae TC.change))).length:Int),(0:Int),[])) (PR x.1 (x.2.1.getD x.2.2.2.1.toNat (Ae TC.change)),(↑(PR x.1 (x.2.1.getD x.2.2.2.1.toNat (Ae TC.change))).length:Int),(0:Int),[])),((!!decide (x.2.2.2.1 <x.2.2.1))=true→(!NV x.1 (x.2.1.getD x.2.2.2.1.toNat (Ae TC.change)) !=(0:Int))=true→Stt x.1 x.2.2.2.2∧Stt x.1 (By x.1 x.2.1 x.2.2.1 x.2.2.2.1 x.2.2.2.2)∧x.2.2.2.2.length+(By x.1 x.2.1 x.2.2.1 x.2.2.2.1 x.2.2.2.2).length≤(400000:Nat))]
def FP (x:BC):List Prop:=[((!!decide (x.2.2.2.1 <x.2.2.1))=true→(0:Int)≤x.2.2.2.1∧x.2.2.2.1 <(↑x.2.1.length:Int)),((!!decide (x.2.2.2.1 <x.2.2.1))=true→Az (x.2.1.getD x.2.2.2.1.toNat (Ae TC.change)).5.length),((!!decide (x.2.2.2.1 <x.2.2.1))=true→(!NV x.1 (x.2.1.getD x.2.2.2.1.toNat (Ae TC.change)) !=(0:Int))=true→AL CI CH Et (Du (PR x.1 (x.2.1.getD x.2.2.2.1.toNat (Ae TC.change)),(↑(PR x.1 (x.2.1.getD x.2.2.2.1.toNat (Ae TC.change))).length:Int),(0:Int),[])) (PR x.1 (x.2.1.getD x.2.2.2.1.toNat (Ae TC.change)),(↑(PR x.1 (x.2.1.getD x.2.2.2.1.toNat (Ae TC.change))).length:Int),(0:Int),[])),((!!decide (x.2.2.2.1 <x.2.2.1))=true→(!NV x.1 (x.2.1.getD x.2.2.2.1.toNat (Ae TC.change)) !=(0:Int))=true→Stt x.1 x.2.2.2.2∧Stt x.1 (By x.1 x.2.1 x.2.2.1 x.2.2.2.1 x.2.2.2.2)∧x.2.2.2.2.length+(By x.1 x.2.1 x.2.2.1 x.2.2.2.1 x.2.2.2.2).length≤(400000:Nat))]
def NL (x:BC):Bl:=[(some 0,some (!decide (x.2.2.2.1 <x.2.2.1)),⟨55,2,[(4,.dq 1),(5,.dead)],[(1,some (.deep 71 .row x.2.2.2.2))]⟩),(none,some ((CG x.1 x.2.1 x.2.2.1 x.2.2.2.1 x.2.2.2.2)),⟨55,4,[(4,.v (.slice none 0 0)),(5,.v (.int .i64 ((120:Int))))],[(1,some (.deep 71 .row x.2.2.2.2))]⟩)]
def ED (x:BC):Nat:=(x.2.2.1 - x.2.2.2.1).toNat
def Ba (x:BC):BC:=A9 Dt Ds (ED x) x
set_option maxRecDepth 100000 in
theorem Ah1 (a0:List TGroup) (a1:List TChange) (a2:Int) (a3:Int) (a4:List TRow):Bx (AA Au3 J9) 9 (Aj Try.prog 82 0) SS (J8 (a0,a1,a2,a3,a4))=some (OZ (a0,a1,a2,a3,a4),NL (a0,a1,a2,a3,a4),Ds (a0,a1,a2,a3,a4),J8 (Dt (a0,a1,a2,a3,a4))):=by kernel_rfl
set_option maxRecDepth 100000 in
theorem Ah2 (a0:List TGroup) (a1:List TChange) (a2:Int) (a3:Int) (a4:List TRow) (hp:∀p∈FP (a0,a1,a2,a3,a4),p):∀p∈OZ (a0,a1,a2,a3,a4),p:=by
 have n0:=N0 hp
 have n1:=N0 (N1 hp)
 have n2:((!!decide (a3 <a2))=true→(!NV a0 (a1.getD a3.toNat (Ae TC.change)) !=(0:Int))=true→Aj Try.prog (82:FuncId) (2:Nat)=Aj Try.prog (82:FuncId) (2:Nat)):=by intros;rfl
 have n3:=N0 (N1 (N1 hp))
 have n4:=N0 (N1 (N1 (N1 hp)))
 exact(Aa n0 (Aa n1 (Aa n2 (Aa n3 (Aa n4 Ab)))))
noncomputable def O0:=HU (AA Au3 J9) (Aj Try.prog 82 0) SS Alz LC ED Dt Ds FP NL
theorem Acx:∀s b ps outs,O0 s=some (b,ps,outs)→Wf s ⟨ps,outs,none⟩∧Bs (AA C0 L0) b s ps outs:=
 Bi (T:=J8) Afu O1 (u:=9) (by kernel_rfl) (by decide) (fun⟨a0,a1,a2,a3,a4⟩=>Ah1 a0 a1 a2 a3 a4) (fun⟨a0,a1,a2,a3,a4⟩=>Ah2 a0 a1 a2 a3 a4) Zx (fun _=>AR (n:=55) rfl) fun _ _=>rfl
noncomputable def SR:=DG 0 O0 J9
theorem Acv:Hs SR:=A3 Acx O1
def Hh (a0:List TGroup) (_a1:List TChange):Bool:=AY a0 !=(0:Int)
def OY (a0:List TGroup) (a1:List TChange):Bool:=CG (Ba (a0,a1,(↑a1.length:Int),(0:Int),[])).fst (Ba (a0,a1,(↑a1.length:Int),(0:Int),[])).snd.fst (Ba (a0,a1,(↑a1.length:Int),(0:Int),[])).snd.snd.fst (Ba (a0,a1,(↑a1.length:Int),(0:Int),[])).snd.snd.snd.fst (Ba (a0,a1,(↑a1.length:Int),(0:Int),[])).snd.snd.snd.snd
def Rm (a0:List TGroup) (a1:List TChange):Int:=bif(Hh a0 a1) then AY a0 else bif(OY a0 a1) then(120:Int) else(0:Int)
def Rn (a0:List TGroup) (a1:List TChange):List TRow:=bif(Hh a0 a1) then[] else bif(OY a0 a1) then[] else(Ba (a0,a1,(↑a1.length:Int),(0:Int),[])).snd.snd.snd.snd
def Rp (a0:List TGroup) (a1:List TChange):A:=.tup [.dq 0,.v (.int .i64 (Rm a0 a1))]
def Ro (a0:List TGroup) (a1:List TChange):Objs:=[(0,some (.deep 71 .row (Rn a0 a1)))]
def Axk (a0:List TGroup) (a1:List TChange):List Prop:=[((!(Hh a0 a1))=true→AL Dt Ds FP (ED (a0,a1,(↑a1.length:Int),(0:Int),[])) (a0,a1,(↑a1.length:Int),(0:Int),[]))]
set_option maxRecDepth 100000 in
theorem Axj (a0:List TGroup) (a1:List TChange):EU (AA Au3 SR) 9 82 [.sl .group a0,.sl .change a1] 0 []=some (1,Rp a0 a1,1,Ro a0 a1,[((!(Hh a0 a1))=true→Aj Try.prog (82:FuncId) (0:Nat)=Aj Try.prog (82:FuncId) (0:Nat)),((!(Hh a0 a1))=true→AL Dt Ds FP (ED (a0,a1,(↑a1.length:Int),(0:Int),[])) (a0,a1,(↑a1.length:Int),(0:Int),[]))]):=by kernel_rfl
set_option maxRecDepth 100000 in
theorem A19 (a0:List TGroup) (a1:List TChange) (hp:∀p∈Axk a0 a1,p):CallOk Try.prog 82 [.sl .group a0,.sl .change a1] 0 [] 1 (Rp a0 a1) 1 (Ro a0 a1):=by
 have n0:((!(Hh a0 a1))=true→Aj Try.prog (82:FuncId) (0:Nat)=Aj Try.prog (82:FuncId) (0:Nat)):=by intros;rfl
 have n1:=N0 hp
 exact AH (Aw Afu Acv) (Axj a0 a1) (Aa n0 (Aa n1 Ab))
def Xh (a0:List TGroup) (a1:List TChange):A:=.tup [.dq 0,.v (.int .i64 (stE a0 a1))]
def Xg (a0:List TGroup) (a1:List TChange):Objs:=[(0,some (.deep 71 .row (stR a0 a1)))]
def UW (_a0:List TGroup) (a1:List TChange):List Prop:=[a1.length≤7000∧∀c∈a1,Az c.writes.length]
theorem Bxi (rows:List TRow) (i:Nat) (h:i <rows.length):nb (rows.take (i+1))=bif !FG (BU rows i) then nb (rows.take i)++[BU rows i] else nb (rows.take i):=by
 unfold nb
 rw[Aj4 rows (Ae TC.row) i h,List.filter_append]
 show _++List.filter _ [BU rows i]=_
 rw[List.filter_cons]
 cases FG (BU rows i) with
 |true=>exact List.append_nil _
 |false=>rfl
theorem Bed (rows:List TRow) (hb:rows.length≤100) (hc:∀r∈rows,r.cells.length≤4):
  AL CI CH Et (Du (rows,(rows.length:Int),0,[])) (rows,(rows.length:Int),0,[])∧IP (rows,(rows.length:Int),0,[])=(rows,(rows.length:Int),(rows.length:Int),nb rows):=by
 obtain⟨h1,hx⟩:=Auu (fun i=>((rows,(rows.length:Int),(i:Int),nb (rows.take i)):BD)) rows.length CI CH Et (Du (rows,(rows.length:Int),0,[])) (rows,(rows.length:Int),0,[]) rfl (by show rows.length≤((rows.length:Int) - 0).toNat;omega)
  (fun i _=>by
   show(!!decide ((i:Int) <(rows.length:Int)))=_
   rw[nn,MA])
  (fun i hi=>by
   show(rows,(rows.length:Int),IntKind.i64.wrap ((i:Int)+1),KS rows (rows.length:Int) (i:Int) (nb (rows.take i)))=(rows,(rows.length:Int),((i+1:Nat):Int),nb (rows.take (i+1)))
   rw[ES (by omega),Bxi rows i hi]
   unfold KS
   rw[Int.toNat_natCast]
   rfl)
  (fun i hi=>by
   have hin:(!!decide ((i:Int) <(rows.length:Int)))=true→(i:Int) <(rows.length:Int):=fun h=>by rw[nn] at h;exact of_decide_eq_true h
   have hl:=Big (rows.take i)
   rw[List.length_take] at hl
   refine Aa (fun h=>⟨by show(0:Int)≤(i:Int);omega,hin h⟩) (Aa (fun h=>?_) (Aa (fun _ _=>?_) Ab))
   ·have h2:=hin h
    have h3:(rows.getD ((i:Int)).toNat (Ae TC.row)).2.length≤4:=hc _ (getD_in rows (Ae TC.row) _ (by omega))
    show Ai (rows.getD ((i:Int)).toNat (Ae TC.row)).2.length
    unfold Ai
    omega
   ·show Ai ((nb (rows.take i)).length+1)
    unfold Ai
    omega)
 refine⟨h1,?_⟩
 have hx':IP (rows,(rows.length:Int),0,[])=(rows,(rows.length:Int),(rows.length:Int),nb (rows.take rows.length)):=hx
 rw[hx',List.take_length]
theorem YV (l:List TGroup) (c:TChange):(PR l c).length≤100∧∀r∈PR l c,r.cells.length≤4:=by
 refine⟨Nat.le_trans (A6r l c) (by omega),fun r hr=>?_⟩
 have g:=(Avr l c).2 r hr
 rw[(AV g).2.1]
 exact(Hr (AV g).1).2
theorem Bto (l:List TGroup) (cs:List TChange) (hb:cs.length≤7000) (hw:∀c∈cs,Az c.writes.length):
  AL Dt Ds FP (ED (l,cs,(cs.length:Int),0,[])) (l,cs,(cs.length:Int),0,[])∧
  CG (Ba (l,cs,(cs.length:Int),0,[])).fst (Ba (l,cs,(cs.length:Int),0,[])).snd.fst (Ba (l,cs,(cs.length:Int),0,[])).snd.snd.fst (Ba (l,cs,(cs.length:Int),0,[])).snd.snd.snd.fst (Ba (l,cs,(cs.length:Int),0,[])).snd.snd.snd.snd=!Ko cs.length (fun i=>NV l (KO cs i)==0)∧
  (Ko cs.length (fun i=>NV l (KO cs i)==0)=true→(Ba (l,cs,(cs.length:Int),0,[])).snd.snd.snd.snd=stN l cs cs.length):=by
 have hk1:∀(i:Nat) (o:List TRow),CG l cs (cs.length:Int) (i:Int) o=(decide (i <cs.length)&&!(NV l (KO cs i)==0)):=fun i o=>by
  unfold CG
  rw[nn,MA,Int.toNat_natCast]
  rfl
 have hk0:∀(i:Nat) (o:List TRow),By l cs (cs.length:Int) (i:Int) o=nb (PR l (KO cs i)):=fun i o=>by
  unfold By
  rw[Int.toNat_natCast]
  show(IP (PR l (KO cs i),((PR l (KO cs i)).length:Int),(0:Int),[])).snd.snd.snd=_
  rw[(Bed _ (YV l (KO cs i)).1 (YV l (KO cs i)).2).2]
 obtain⟨h1,k,hk,hx,_,hst,hb'⟩:=I6 (fun i=>(l,cs,(cs.length:Int),(i:Int),stN l cs i):Nat→BC) cs.length (fun i=>!(NV l (KO cs i)==0)) Dt Ds FP (ED (l,cs,(cs.length:Int),0,[])) (l,cs,(cs.length:Int),0,[]) rfl (by show cs.length≤((cs.length:Int) - 0).toNat;omega)
  (fun i _ _=>by
   show(!!decide ((i:Int) <(cs.length:Int))&&!CG l cs (cs.length:Int) (i:Int) (stN l cs i))=_
   rw[hk1,nn,MA]
   cases decide (i <cs.length)<;>rfl)
  (fun i hi _=>by
   show(l,cs,(cs.length:Int),IntKind.i64.wrap ((i:Int)+1),KR l cs (cs.length:Int) (i:Int) (stN l cs i))=(l,cs,(cs.length:Int),((i+1:Nat):Int),stN l cs (i+1))
   unfold KR
   rw[ES (by omega),hk0]
   rfl)
  (fun i hi _=>by
   have hin:(!!decide ((i:Int) <(cs.length:Int)))=true→i <cs.length:=fun h=>by rw[nn] at h;have:=of_decide_eq_true h;omega
   refine Aa (fun h=>⟨by show(0:Int)≤(i:Int);omega,by have:=hin h;show(i:Int) <(cs.length:Int);omega⟩) (Aa (fun h=>?_) (Aa (fun h _=>?_) (Aa (fun h _=>?_) Ab)))
   ·show Az (cs.getD ((i:Int)).toNat (Ae TC.change)).5.length
    rw[Int.toNat_natCast]
    exact hw _ (getD_in cs (Ae TC.change) i (hin h))
   ·show AL CI CH Et (Du (PR l (cs.getD ((i:Int)).toNat (Ae TC.change)),((PR l (cs.getD ((i:Int)).toNat (Ae TC.change))).length:Int),(0:Int),[])) (PR l (cs.getD ((i:Int)).toNat (Ae TC.change)),((PR l (cs.getD ((i:Int)).toNat (Ae TC.change))).length:Int),(0:Int),[])
    exact(Bed _ (YV l _).1 (YV l _).2).1
   ·have a1:=Baa l cs i
    have a2:=Big (PR l (KO cs i))
    have a3:=A6r l (KO cs i)
    show Stt l (stN l cs i)∧Stt l (By l cs (cs.length:Int) (i:Int) (stN l cs i))∧(stN l cs i).length+(By l cs (cs.length:Int) (i:Int) (stN l cs i)).length≤400000
    rw[hk0]
    exact⟨Bab l cs i,Bif l _,by omega⟩)
 have hr:Ba (l,cs,(cs.length:Int),0,[])=(l,cs,(cs.length:Int),(k:Int),stN l cs k):=hx
 have hb2:(decide (k <cs.length)&&!(NV l (KO cs k)==0))=!Ko cs.length (fun i=>NV l (KO cs i)==0):=by
  rw[hb']
  congr 1
  exact IK fun i _=>Bool.not_not _
 rw[hr]
 refine⟨h1,?_,fun ha=>?_⟩
 ·show CG l cs (cs.length:Int) (k:Int) (stN l cs k)=_
  rw[hk1,hb2]
 ·show stN l cs k=_
  rw[ha] at hb2
  rcases Nat.lt_or_ge k cs.length with h|h
  ·have h2:=hst h
   rw[decide_eq_true h,h2] at hb2
   cases hb2
  ·rw[show k=cs.length by omega]
theorem Axi (a0:List TGroup) (a1:List TChange) (hp:∀p∈UW a0 a1,p):CallOk Try.prog 82 [.sl .group a0,.sl .change a1] 0 [] 1 (Xh a0 a1) 1 (Xg a0 a1):=by
 obtain⟨hb,hw⟩:=hp _ (List.mem_cons_self ..)
 obtain⟨h1,h2,h3⟩:=Bto a0 a1 hb hw
 have h:=A19 a0 a1 (Aa (fun _=>h1) Ab)
 have k0:OY a0 a1=!Ko a1.length (fun i=>NV a0 (KO a1 i)==0):=h2
 have e:Rm a0 a1=stE a0 a1∧Rn a0 a1=stR a0 a1:=by
  unfold Rm Rn Hh stR stE
  rw[k0]
  cases hg:AY a0 !=0 with
  |true=>
   have:(AY a0==0)=false:=by simpa using hg
   refine⟨rfl,?_⟩
   show[]=bif AY a0==0 then stN a0 a1 a1.length else[]
   rw[this]
   rfl
  |false=>
   cases ha:Ko a1.length (fun i=>NV a0 (KO a1 i)==0) with
   |true=>exact⟨rfl,h3 ha⟩
   |false=>exact⟨rfl,rfl⟩
 unfold Rp Ro at h
 rw[e.1,e.2] at h
 exact h
def Rq:List A→Nat→Objs→Option A8
 | [y0,y1],nx,o=>match Kp .group y0,Kp .change y1 with
  |some a0,some a1=>some (1,(Xh a0 a1).pk (AF nx),nx+1,AE nx (Xg a0 a1)++o,UW a0 a1)
  |_,_=>none
 |_,_,_=>none
theorem Asl:Fu Try.prog 82 Rq:=fun args nx o k x nx' o' ps h=>by
 unfold Rq at h
 split at h<;>first|(cases h;done)|skip
 split at h<;>first|(cases h;done)|skip
 rename_i a0 a1 e0 e1
 cases h
 refine⟨fun hp=>?_,_,rfl⟩
 refine Ah (Ag (Axi a0 a1 hp) (Nat.le_refl _) (Ac rfl (Ac rfl Ao)) nx o) fun F N R vs hl=>?_
 obtain⟨v0,w0,rfl,h0,hl⟩:=hl.inv
 obtain⟨v1,w1,rfl,h1,hl⟩:=hl.inv
 exact HL.cons (Cx e0 h0) (HL.cons (Cx e1 h1) (hl))
noncomputable def Brg:=A5 82 Rq Au3
theorem Bbm:Df Try.prog Brg:=Av Asl Afu
def Es (a0:List TGroup) (a1:List TRow) (_a2:List TRow):Bool:=Gq a0 a1 !=(0:Int)
def Ig (a0:List TGroup) (a1:List TRow) (a2:List TRow):Bool:=(Es a0 a1 a2)||Gq a0 a2 !=(0:Int)
def Rh (a0:List TGroup) (a1:List TRow) (a2:List TRow):Int:=bif(Ig a0 a1 a2) then bif(Es a0 a1 a2) then Gq a0 a1 else Gq a0 a2 else(0:Int)
def Ri (a0:List TGroup) (a1:List TRow) (a2:List TRow):List TRow:=bif(Ig a0 a1 a2) then[] else mrg (a1.length+a2.length) a1 a2
def Rk (a0:List TGroup) (a1:List TRow) (a2:List TRow):A:=.tup [.dq 0,.v (.int .i64 (Rh a0 a1 a2))]
def Rj (a0:List TGroup) (a1:List TRow) (a2:List TRow):Objs:=[(0,some (.deep 71 .row (Ri a0 a1 a2)))]
def Axh (a0:List TGroup) (a1:List TRow) (a2:List TRow):List Prop:=[(Az a1.length),((!(Es a0 a1 a2))=true→Az a2.length),((!(Ig a0 a1 a2))=true→Stt a0 a1∧Stt a0 a2∧a1.length+a2.length≤(400000:Nat))]
set_option maxRecDepth 100000 in
theorem Axg (a0:List TGroup) (a1:List TRow) (a2:List TRow):EU (AA Brg L0) 9 91 [.sl .group a0,Ak .rows a1,Ak .rows a2] 0 []=some (1,Rk a0 a1 a2,1,Rj a0 a1 a2,[((0:Int)≤(0:Int)∧(0:Int) <(↑(2:Nat):Int)),((0:Nat) <(2:Nat)),(Az a1.length),((!(Es a0 a1 a2))=true→(0:Int)≤(1:Int)∧(1:Int) <(↑(2:Nat):Int)),((!(Es a0 a1 a2))=true→(1:Nat) <(2:Nat)),((!(Es a0 a1 a2))=true→Az a2.length),((!(Ig a0 a1 a2))=true→Stt a0 a1∧Stt a0 a2∧a1.length+a2.length≤(400000:Nat))]):=by kernel_rfl
set_option maxRecDepth 100000 in
theorem A18 (a0:List TGroup) (a1:List TRow) (a2:List TRow) (hp:∀p∈Axh a0 a1 a2,p):CallOk Try.prog 91 [.sl .group a0,Ak .rows a1,Ak .rows a2] 0 [] 1 (Rk a0 a1 a2) 1 (Rj a0 a1 a2):=by
 have n0:((0:Int)≤(0:Int)∧(0:Int) <(↑(2:Nat):Int)):=by first|rfl|decide+kernel
 have n1:((0:Nat) <(2:Nat)):=by first|rfl|decide+kernel
 have n2:=N0 hp
 have n3:((!(Es a0 a1 a2))=true→(0:Int)≤(1:Int)∧(1:Int) <(↑(2:Nat):Int)):=by omega
 have n4:((!(Es a0 a1 a2))=true→(1:Nat) <(2:Nat)):=by omega
 have n5:=N0 (N1 hp)
 have n6:=N0 (N1 (N1 hp))
 exact AH (Aw Bbm AG) (Axg a0 a1 a2) (Aa n0 (Aa n1 (Aa n2 (Aa n3 (Aa n4 (Aa n5 (Aa n6 Ab)))))))
def Xf (a0:List TGroup) (a1 a2:List TRow):A:=.tup [.dq 0,.v (.int .i64 (mgE a0 a1 a2))]
def Xe (a0:List TGroup) (a1 a2:List TRow):Objs:=[(0,some (.deep 71 .row (mgR a0 a1 a2)))]
def UV (_a0:List TGroup) (a1 a2:List TRow):List Prop:=[a1.length+a2.length≤400000]
theorem Axf (a0:List TGroup) (a1 a2:List TRow) (hp:∀p∈UV a0 a1 a2,p):CallOk Try.prog 91 [.sl .group a0,Ak .rows a1,Ak .rows a2] 0 [] 1 (Xf a0 a1 a2) 1 (Xe a0 a1 a2):=by
 have hb:a1.length+a2.length≤400000:=hp _ (List.mem_cons_self ..)
 have hk:Ig a0 a1 a2=!(mgE a0 a1 a2==0):=by
  unfold Ig Es mgE
  cases h:Gq a0 a1 !=0 with
  |true=>
   have:(Gq a0 a1==0)=false:=by simpa using h
   rw[cond_true,this]
   rfl
  |false=>rfl
 have h:=A18 a0 a1 a2 (Aa (by unfold Az;omega) (Aa (fun _=>by unfold Az;omega) (Aa (fun h=>by
  rw[hk,Bool.not_not] at h
  obtain⟨g1,g2⟩:=B2y.1 (by simpa using h:mgE a0 a1 a2=0)
  exact⟨(Ak1 g1).2,(Ak1 g2).2,hb⟩) Ab)))
 have e:Rh a0 a1 a2=mgE a0 a1 a2∧Ri a0 a1 a2=mgR a0 a1 a2:=by
  unfold Rh Ri mgR
  rw[hk]
  cases h0:mgE a0 a1 a2==0 with
  |true=>
   have:mgE a0 a1 a2=0:=by simpa using h0
   rw[this]
   exact⟨rfl,rfl⟩
  |false=>exact⟨rfl,rfl⟩
 unfold Rk Rj at h
 rw[e.1,e.2] at h
 exact h
def Rl:List A→Nat→Objs→Option A8
 | [y0,y1,y2],nx,o=>match Kp .group y0,AP .rows y1,AP .rows y2 with
  |some a0,some (a1,p1),some (a2,p2)=>some (1,(Xf a0 a1 a2).pk (AF nx),nx+1,AE nx (Xe a0 a1 a2)++o,p1++(p2++(UV a0 a1 a2)))
  |_,_,_=>none
 |_,_,_=>none
theorem Ask:Fu Try.prog 91 Rl:=fun args nx o k x nx' o' ps h=>by
 unfold Rl at h
 split at h<;>first|(cases h;done)|skip
 split at h<;>first|(cases h;done)|skip
 rename_i a0 a1 p1 a2 p2 e0 e1 e2
 cases h
 refine⟨fun hp=>?_,_,rfl⟩
 have q1:=fun p hm=>hp p (List.mem_append.2 (.inl hm))
 have r1:=fun p hm=>hp p (List.mem_append.2 (.inr hm))
 have q2:=fun p hm=>r1 p (List.mem_append.2 (.inl hm))
 have r2:=fun p hm=>r1 p (List.mem_append.2 (.inr hm))
 refine Ah (Ag (Axf a0 a1 a2 r2) (Nat.le_refl _) (Ac rfl (Ac (Af _ _) (Ac (Af _ _) Ao))) nx o) fun F N R vs hl=>?_
 obtain⟨v0,w0,rfl,h0,hl⟩:=hl.inv
 obtain⟨v1,w1,rfl,h1,hl⟩:=hl.inv
 obtain⟨v2,w2,rfl,h2,hl⟩:=hl.inv
 exact HL.cons (Cx e0 h0) (HL.cons (Am e1 q1 h1) (HL.cons (Am e2 q2 h2) (hl)))
noncomputable def Bbn:=A5 91 Rl Brg
theorem Au4:Df Try.prog Bbn:=Av Ask Bbm
abbrev BE:Type:=Int×Int×TRow×TRow
def KF (x:BE):St:=⟨38,2,[(2,.own 0 0),(3,.own 1 0),(22,.v (.int .i64 x.1)),(23,.v (.int .i64 x.2.1))],[(0,some (.box 71 [.v (.string x.2.2.1.key),.sl .cell x.2.2.1.cells])),(1,some (.box 71 [.v (.string x.2.2.2.key),.sl .cell x.2.2.2.cells]))]⟩
def Mo:St→Option BE
 |⟨38,2,[(2,.own 0 0),(3,.own 1 0),(22,.v (.int .i64 z0)),(23,.v (.int .i64 z1))],[(0,some (.box 71 [.v (.string z2),.sl .cell z3])),(1,some (.box 71 [.v (.string z4),.sl .cell z5]))]⟩=>some (z0,z1,⟨z2,z3⟩,⟨z4,z5⟩)
 |_=>none
theorem Ac2:∀s x,Mo s=some x→s=KF x:=fun s x h=>by
 unfold Mo at h
 split at h
 ·cases h;rfl
 ·cases h
def UZ:De:=⟨2,2,[2,3,22,23],[],[(0,0),(1,1)],[0,1],[4],[0,1]⟩
def Asn:Dy:=⟨[],[(0,0),(1,1)],[2,3,22,23],[0,1]⟩
def CY (a0:Int) (a1:Int) (a2:TRow) (a3:TRow):Bool:=!!decide (a1 <a0)&&!((a2.2.getD a1.toNat (Ae TC.cell)).1.1==(a3.2.getD a1.toNat (Ae TC.cell)).1.1&&(a2.2.getD a1.toNat (Ae TC.cell)).1.2==(a3.2.getD a1.toNat (Ae TC.cell)).1.2&&((a2.2.getD a1.toNat (Ae TC.cell)).2.1==(a3.2.getD a1.toNat (Ae TC.cell)).2.1&&(a2.2.getD a1.toNat (Ae TC.cell)).2.2==(a3.2.getD a1.toNat (Ae TC.cell)).2.2&&((a2.2.getD a1.toNat (Ae TC.cell)).3==(a3.2.getD a1.toNat (Ae TC.cell)).3&&((a2.2.getD a1.toNat (Ae TC.cell)).4.toList==(a3.2.getD a1.toNat (Ae TC.cell)).4.toList&&((a2.2.getD a1.toNat (Ae TC.cell)).5.1==(a3.2.getD a1.toNat (Ae TC.cell)).5.1&&(a2.2.getD a1.toNat (Ae TC.cell)).5.2==(a3.2.getD a1.toNat (Ae TC.cell)).5.2)))))
def Ah9 (a0:Int) (a1:Int) (a2:TRow) (a3:TRow):Bool:=!!decide (a1 <a0)&&!(CY a0 a1 a2 a3)
def DV (x:BE):BE:=(x.1,IntKind.i64.wrap (x.2.1+(1:Int)),x.2.2.1,x.2.2.2)
def DU (x:BE):Cnd:=some (Ah9 x.1 x.2.1 x.2.2.1 x.2.2.2)
def Qs (x:BE):List Prop:=[((!!decide (x.2.1 <x.1))=true→(0:Int)≤x.2.1∧x.2.1 <(↑x.2.2.1.2.length:Int)),((!!decide (x.2.1 <x.1))=true→(0:Int)≤x.2.1∧x.2.1 <(↑x.2.2.2.2.length:Int))]
def GN (x:BE):List Prop:=[((!!decide (x.2.1 <x.1))=true→(0:Int)≤x.2.1∧x.2.1 <(↑x.2.2.1.2.length:Int)),((!!decide (x.2.1 <x.1))=true→(0:Int)≤x.2.1∧x.2.1 <(↑x.2.2.2.2.length:Int))]
def O6 (x:BE):Bl:=[(some 0,some (!decide (x.2.1 <x.1)),⟨38,2,[(4,.dead)],[(0,some (.box 71 [.v (.string x.2.2.1.1),.sl .cell x.2.2.1.2])),(1,some (.box 71 [.v (.string x.2.2.2.1),.sl .cell x.2.2.2.2]))]⟩),(none,some ((CY x.1 x.2.1 x.2.2.1 x.2.2.2)),⟨38,2,[(4,.v (.bool (false)))],[(0,some (.box 71 [.v (.string x.2.2.1.1),.sl .cell x.2.2.1.2])),(1,some (.box 71 [.v (.string x.2.2.2.1),.sl .cell x.2.2.2.2]))]⟩)]
def EY (x:BE):Nat:=(x.1 - x.2.1).toNat
def Aib (x:BE):BE:=A9 DV DU (EY x) x
set_option maxRecDepth 100000 in
theorem Al2 (a0:Int) (a1:Int) (a2:TRow) (a3:TRow):Bx (AA Bbn L0) 9 (Aj Try.prog 150 0) UZ (KF (a0,a1,a2,a3))=some (Qs (a0,a1,a2,a3),O6 (a0,a1,a2,a3),DU (a0,a1,a2,a3),KF (DV (a0,a1,a2,a3))):=by kernel_rfl
set_option maxRecDepth 100000 in
theorem Al3 (a0:Int) (a1:Int) (a2:TRow) (a3:TRow) (hp:∀p∈GN (a0,a1,a2,a3),p):∀p∈Qs (a0,a1,a2,a3),p:=by
 have n0:=N0 hp
 have n1:=N0 (N1 hp)
 exact(Aa n0 (Aa n1 Ab))
noncomputable def Qt:=HU (AA Bbn L0) (Aj Try.prog 150 0) UZ Asn Mo EY DV DU GN O6
theorem Aia:∀s b ps outs,Qt s=some (b,ps,outs)→Wf s ⟨ps,outs,none⟩∧Bs (AA C0 L0) b s ps outs:=
 Bi (T:=KF) Au4 AG (u:=9) (by kernel_rfl) (by decide) (fun⟨a0,a1,a2,a3⟩=>Al2 a0 a1 a2 a3) (fun⟨a0,a1,a2,a3⟩=>Al3 a0 a1 a2 a3) Ac2 (fun _=>AR (n:=38) rfl) fun _ _=>rfl
noncomputable def UY:=DG 0 Qt L0
theorem Ah8:Hs UY:=A3 Aia AG
def Ft (a0:TRow) (a1:TRow):BE:=Aib ((↑a0.2.length:Int),(0:Int),a0,a1)
def GD (a0:TRow) (a1:TRow):Bool:=!a0.1.toList==a1.1.toList||(↑a0.2.length:Int) !=(↑a1.2.length:Int)
def T8 (a0:TRow) (a1:TRow):Bool:=bif(GD a0 a1) then false else bif CY (Ft a0 a1).fst (Ft a0 a1).snd.fst (Ft a0 a1).snd.snd.fst (Ft a0 a1).snd.snd.snd then false else true
def T9 (a0:TRow) (a1:TRow):A:=.v (.bool (T8 a0 a1))
def Aic (_a0:TRow) (_a1:TRow):Objs:=[]
def Aak (a0:TRow) (a1:TRow):List Prop:=[((!(GD a0 a1))=true→AL DV DU GN (EY ((↑a0.2.length:Int),(0:Int),a0,a1)) ((↑a0.2.length:Int),(0:Int),a0,a1))]
set_option maxRecDepth 100000 in
theorem A2d (a0:TRow) (a1:TRow):EU (AA Bbn UY) 9 150 [Ak .row a0,Ak .row a1] 0 []=some (1,T9 a0 a1,0,Aic a0 a1,[((!(GD a0 a1))=true→Aj Try.prog (150:FuncId) (0:Nat)=Aj Try.prog (150:FuncId) (0:Nat)),((!(GD a0 a1))=true→AL DV DU GN (EY ((↑a0.2.length:Int),(0:Int),a0,a1)) ((↑a0.2.length:Int),(0:Int),a0,a1))]):=by kernel_rfl
set_option maxRecDepth 100000 in
theorem A8e (a0:TRow) (a1:TRow) (hp:∀p∈Aak a0 a1,p):CallOk Try.prog 150 [Ak .row a0,Ak .row a1] 0 [] 1 (T9 a0 a1) 0 (Aic a0 a1):=by
 have n0:((!(GD a0 a1))=true→Aj Try.prog (150:FuncId) (0:Nat)=Aj Try.prog (150:FuncId) (0:Nat)):=by intros;rfl
 have n1:=N0 hp
 exact AH (Aw Au4 Ah8) (A2d a0 a1) (Aa n0 (Aa n1 Ab))
def Aal (a0:TRow) (a1:TRow):A:=.v (.bool (Ako a0 a1))
def Aaj (_a0:TRow) (_a1:TRow):Objs:=[]
def Xo (a0:TRow) (_a1:TRow):List Prop:=[Ai a0.cells.length]
theorem Aai (a b:TRow) (hb:Ai a.cells.length):(∀p∈Aak a b,p)∧T8 a b=Ako a b:=by
 unfold Ai at hb
 have hk0:GD a b=(!(a.key==b.key)||a.cells.length !=b.cells.length):=by
  show(!(a.key.toList==b.key.toList)||((a.cells.length:Int) !=(b.cells.length:Int)))=_
  rw[tlb]
  congr 1
  rw[Bool.eq_iff_iff,bne_iff_ne,bne_iff_ne];omega
 have main:GD a b=false→AL DV DU GN (EY ((a.2.length:Int),0,a,b)) ((a.2.length:Int),0,a,b)∧CY (Ft a b).fst (Ft a b).snd.fst (Ft a b).snd.snd.fst (Ft a b).snd.snd.snd=!Agj a.cells b.cells:=fun h0=>by
  rw[hk0] at h0
  have hlen:a.cells.length=b.cells.length:=by simpa using(Bool.or_eq_false_iff.1 h0).2
  have hf:∀i:Nat,CY (a.cells.length:Int) (i:Int) a b=(decide (i <a.cells.length)&&!eqC (a.2.getD i (Ae TC.cell)) (b.2.getD i (Ae TC.cell))):=fun i=>by
   unfold CY eqC
   rw[nn,MA,Int.toNat_natCast,tlb]
   simp only[Bool.and_assoc]
  obtain⟨h1,k,hk,hx,_,_,hb'⟩:=I6 (fun i=>(((a.cells.length:Int),(i:Int),a,b):BE)) a.cells.length (fun i=>!eqC (a.2.getD i (Ae TC.cell)) (b.2.getD i (Ae TC.cell))) DV DU GN (EY ((a.cells.length:Int),0,a,b)) ((a.cells.length:Int),0,a,b) rfl (by show a.cells.length≤((a.cells.length:Int) - 0).toNat;omega)
   (fun i _ _=>by
    show((!!decide ((i:Int) <(a.cells.length:Int)))&&!CY (a.cells.length:Int) (i:Int) a b)=_
    rw[hf,nn,MA]
    cases decide (i <a.cells.length)<;>rfl)
   (fun i hi _=>by
    show((a.cells.length:Int),IntKind.i64.wrap ((i:Int)+1),a,b)=((a.cells.length:Int),((i+1:Nat):Int),a,b)
    rw[ES (by omega)])
   (fun i _ _=>by
    have hin:(!!decide ((i:Int) <(a.cells.length:Int)))=true→(i:Int) <(a.cells.length:Int):=fun h=>by rw[nn] at h;exact of_decide_eq_true h
    exact Aa (fun h=>⟨by show(0:Int)≤(i:Int);omega,hin h⟩) (Aa (fun h=>⟨by show(0:Int)≤(i:Int);omega,by have:=hin h;show(i:Int) <(b.cells.length:Int);omega⟩) Ab))
  refine⟨h1,?_⟩
  have hr:Ft a b=((a.cells.length:Int),(k:Int),a,b):=hx
  rw[hr]
  show CY (a.cells.length:Int) (k:Int) a b=_
  rw[hf,hb',Bse _ _ hlen]
  congr 1
  exact IK fun i _=>Bool.not_not _
 refine⟨Aa (fun h=>(main (by simpa using h)).1) Ab,?_⟩
 unfold T8 Ako
 cases h0:GD a b with
 | true=>
  rw[hk0] at h0
  rw[cond_true]
  cases hk:a.key==b.key with
  |false=>rfl
  |true=>
   rw[hk] at h0
   have hne:a.cells.length≠b.cells.length:=by simpa using h0
   cases he:Agj a.cells b.cells with
   |false=>rfl
   |true=>exact absurd (congrArg List.length (Wj.1 he)) hne
 |false=>
  rw[cond_false,(main h0).2]
  rw[hk0] at h0
  have:(a.key==b.key)=true:=by simpa using(Bool.or_eq_false_iff.1 h0).1
  rw[this,Bool.true_and]
  cases Agj a.cells b.cells<;>rfl
theorem A2c (a0:TRow) (a1:TRow) (hp:∀p∈Xo a0 a1,p):CallOk Try.prog 150 [Ak .row a0,Ak .row a1] 0 [] 1 (Aal a0 a1) 0 (Aaj a0 a1):=by
 have hb:Ai a0.cells.length:=hp _ (List.mem_cons_self ..)
 have h:=A8e a0 a1 (Aai a0 a1 hb).1
 unfold T9 at h
 rw[(Aai a0 a1 hb).2] at h
 exact h
def Ua:List A→Nat→Objs→Option A8
 | [y0,y1],nx,o=>match AP .row y0,AP .row y1 with
  |some (a0,p0),some (a1,p1)=>some (1,(Aal a0 a1).pk (AF nx),nx+0,AE nx (Aaj a0 a1)++o,p0++(p1++(Xo a0 a1)))
  |_,_=>none
 |_,_,_=>none
theorem Axo:Fu Try.prog 150 Ua:=fun args nx o k x nx' o' ps h=>by
 unfold Ua at h
 split at h<;>first|(cases h;done)|skip
 split at h<;>first|(cases h;done)|skip
 rename_i a0 p0 a1 p1 e0 e1
 cases h
 refine⟨fun hp=>?_,_,rfl⟩
 have q0:=fun p hm=>hp p (List.mem_append.2 (.inl hm))
 have r0:=fun p hm=>hp p (List.mem_append.2 (.inr hm))
 have q1:=fun p hm=>r0 p (List.mem_append.2 (.inl hm))
 have r1:=fun p hm=>r0 p (List.mem_append.2 (.inr hm))
 refine Ah (Ag (A2c a0 a1 r1) (Nat.le_refl _) (Ac (Af _ _) (Ac (Af _ _) Ao)) nx o) fun F N R vs hl=>?_
 obtain⟨v0,w0,rfl,h0,hl⟩:=hl.inv
 obtain⟨v1,w1,rfl,h1,hl⟩:=hl.inv
 exact HL.cons (Am e0 q0 h0) (HL.cons (Am e1 q1 h1) (hl))
noncomputable def By9:=A5 150 Ua Bbn
theorem Brh:Df Try.prog By9:=Av Axo Au4
noncomputable def Cms:=By9
theorem Bri:Df Try.prog Cms:=Brh
end Go.Proofs.Yteebobbhhgmeiaa
