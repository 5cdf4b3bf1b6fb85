/- made by a program (rowgen.py): ModelStates: for every input the law returns true, and each argument reads behind the call as it read before. -/
import Derived.Test.YteebobbhhgmeiaaKMsf

namespace Go.Proofs.Yteebobbhhgmeiaa
open Go.RowKit
theorem Bd1 {X:Type} (mk:Nat→Int→X) (len:Nat) (step:Nat→Int→Int) (P:Nat→Prop) (m c:Int) (s:Bool) (next:X→X) (goes:X→Cnd) (ps:X→List Prop)
  (hs:∀i n,i <len→0≤n→0≤step i n∧(step i n≤m→n+c≤step i n∧P i)) (hc:0≤c)
  (hg:∀i n,i≤len→Bs (goes (mk i n))=(decide (i <len)&&(s||decide (n≤m)))) (hn:∀i n,i <len→0≤n→next (mk i n)=mk (i+1) (step i n))
  (hp:∀i n,i≤len→0≤n→∀p∈ps (mk i n),p):
  ∀(f i:Nat) (n:Int),i≤len→len≤i+f→0≤n→
  AK next goes ps f (mk i n)∧∃k n',Bc next goes f (mk i n)=mk k n'∧0≤n'∧(n'≤m→n+c*((len:Int) - (i:Int))≤n'∧∀j,i≤j→j <len→P j)
 |0,i,n,hi,hf,h0=>by
  obtain rfl:i=len:=by omega
  have hb:=hg i n (Nat.le_refl _)
  rw[decide_eq_false (Nat.lt_irrefl _),Bool.false_and] at hb
  exact⟨⟨hp i n hi h0,hb⟩,i,n,rfl,h0,fun _=>⟨by rw[Int.sub_self,Int.mul_zero];omega,fun j h1 h2=>by omega⟩⟩
 | f+1,i,n,hi,hf,h0=>by
  have hb:=hg i n hi
  cases hv:Bs (goes (mk i n)) with
  | false=>
   have e:Bc next goes (f+1) (mk i n)=mk i n:=by
    show(bif Bs (goes (mk i n)) then _ else mk i n)=_
    rw[hv];rfl
   rw[e]
   refine⟨⟨hp i n hi h0,fun h=>by rw[hv] at h;cases h⟩,i,n,rfl,h0,fun hm=>?_⟩
   rw[hv] at hb
   rw[decide_eq_true hm,Bool.or_true,Bool.and_true] at hb
   have:¬i <len:=of_decide_eq_false hb.symm
   obtain rfl:i=len:=by omega
   exact⟨by rw[Int.sub_self,Int.mul_zero];omega,fun j h1 h2=>by omega⟩
  | true=>
   rw[hv] at hb
   have hi':i <len:=by
    cases h:decide (i <len) with
    |true=>exact of_decide_eq_true h
    |false=>rw[h] at hb;cases hb
   obtain⟨s1,s2⟩:=hs i n hi' h0
   have e:Bc next goes (f+1) (mk i n)=Bc next goes f (mk (i+1) (step i n)):=by
    show(bif Bs (goes (mk i n)) then Bc next goes f (next (mk i n)) else mk i n)=_
    rw[hv,hn i n hi' h0];rfl
   obtain⟨g1,k,n',g2,g3,g4⟩:=Bd1 mk len step P m c s next goes ps hs hc hg hn hp f (i+1) (step i n) hi' (by omega) s1
   rw[e]
   refine⟨⟨hp i n hi h0,fun _=>by rw[hn i n hi' h0];exact g1⟩,k,n',g2,g3,fun hm=>?_⟩
   obtain⟨a1,a2⟩:=g4 hm
   have hpos:0≤c*((len:Int) - ((i+1:Nat):Int)):=Int.mul_nonneg hc (by omega)
   obtain⟨b1,b2⟩:=s2 (by omega)
   have hd:c*((len:Int) - (i:Int))=c*((len:Int) - ((i+1:Nat):Int))+c:=by
    rw[show((len:Int) - (i:Int))=((len:Int) - ((i+1:Nat):Int))+1 by omega,Int.mul_add,Int.mul_one]
   refine⟨by rw[hd];omega,fun j h1 h2=>?_⟩
   by_cases e:j=i
   ·subst e;exact b2
   ·exact a2 j (by omega) h2
theorem Wg {X:Type} (mk:Nat→Int→X) (len:Nat) (step:Nat→Int→Int) (P:Nat→Prop) (m c:Int) (s:Bool) (next:X→X) (goes:X→Cnd) (ps:X→List Prop) (f:Nat) (x:X) (n0:Int) (hx:x=mk 0 n0) (hf:len≤f) (h0:0≤n0)
  (hs:∀i n,i <len→0≤n→0≤step i n∧(step i n≤m→n+c≤step i n∧P i)) (hc:0≤c)
  (hg:∀i n,i≤len→Bs (goes (mk i n))=(decide (i <len)&&(s||decide (n≤m)))) (hn:∀i n,i <len→0≤n→next (mk i n)=mk (i+1) (step i n))
  (hp:∀i n,i≤len→0≤n→∀p∈ps (mk i n),p):
  AK next goes ps f x∧∃k n',Bc next goes f x=mk k n'∧0≤n'∧(n'≤m→n0+c*(len:Int)≤n'∧∀j,j <len→P j):=by
 subst hx
 obtain⟨h1,k,n',h2,h3,h4⟩:=Bd1 mk len step P m c s next goes ps hs hc hg hn hp f 0 n0 (Nat.zero_le _) (by omega) h0
 refine⟨h1,k,n',h2,h3,fun h=>?_⟩
 obtain⟨h5,h6⟩:=h4 h
 rw[show((len:Int) - ((0:Nat):Int))=(len:Int) by omega] at h5
 exact⟨h5,fun j hj=>h6 j (Nat.zero_le _) hj⟩
theorem Sh {α:Type} {l:List α} {d:α} {P:α→Prop} (h:∀j,j <l.length→P (l.getD j d)):∀x∈l,P x:=fun x hx=>by
 obtain⟨j,hj,rfl⟩:=List.mem_iff_getElem.1 hx
 have:=h j hj
 rw[List.getD_eq_getElem?_getD,List.getElem?_eq_getElem hj] at this
 exact this
end Go.Proofs.Yteebobbhhgmeiaa
namespace Go.Proofs.Yteebobbhhgmeiaa
open Go.RowKit
noncomputable def B4c:=A7 111 Zx Cl
theorem Byi:CU Try.prog B4c:=Aw Aq0 Bdi
noncomputable def Alj:=A7 25 Xf B4c
theorem TP:CU Try.prog Alj:=Aw A3x Byi
abbrev Cu:Type:=(List TChange)×Int×Int×Int
def LI (x:Cu):St:=⟨122,0,[(1,.sl .change x.1),(7,.v (.int .i64 x.2.1)),(8,.v (.int .i64 x.2.2.1)),(9,.v (.int .i64 x.2.2.2))],[]⟩
def NB:St→Option Cu
 |⟨122,0,[(1,.sl .change z0),(7,.v (.int .i64 z1)),(8,.v (.int .i64 z2)),(9,.v (.int .i64 z3))],[]⟩=>some (z0,z1,z2,z3)
 |_=>none
theorem Aie:∀s x,NB s=some x→s=LI x:=fun s x h=>by
 unfold NB at h
 split at h
 ·cases h;rfl
 ·cases h
def W6:CX:=⟨0,0,[1,7,8,9],[],[],[],[7],[]⟩
def Ayk:Dp:=⟨[],[],[1,7,8,9],[]⟩
def Bv (a0:List TChange) (a1:Int) (a2:Int) (a3:Int):Bool:=!!(decide (a3 <(↑(a0.getD a2.toNat (Ae TC.change)).5.length:Int))&&decide (a1≤(6000:Int)))
def Ms (a0:List TChange) (a1:Int) (a2:Int) (a3:Int):Int:=Ay (Ay (Ay a1 (10:Int) (6000:Int)) (↑((a0.getD a2.toNat (Ae TC.change)).5.getD a3.toNat (Ae TC.write)).1.size:Int) (6000:Int)) (↑((a0.getD a2.toNat (Ae TC.change)).5.getD a3.toNat (Ae TC.write)).4.size:Int) (6000:Int)
def Aid (a0:List TChange) (a1:Int) (a2:Int) (a3:Int):Bool:=!(decide (a3 <(↑(a0.getD a2.toNat (Ae TC.change)).5.length:Int))&&decide (a1≤(6000:Int)))
def Ej (x:Cu):Cu:=(x.1,Ms x.1 x.2.1 x.2.2.1 x.2.2.2,x.2.2.1,IntKind.i64.wrap (x.2.2.2+(1:Int)))
def Ei (x:Cu):Cnd:=some ((Bv x.1 x.2.1 x.2.2.1 x.2.2.2))
def SP (x:Cu):List Prop:=[((0:Int)≤x.2.2.1∧x.2.2.1 <(↑x.1.length:Int)),((Bv x.1 x.2.1 x.2.2.1 x.2.2.2)=true→(0:Int)≤x.2.2.1∧x.2.2.1 <(↑x.1.length:Int)),((Bv x.1 x.2.1 x.2.2.1 x.2.2.2)=true→(0:Int)≤x.2.2.2∧x.2.2.2 <(↑(x.1.getD x.2.2.1.toNat (Ae TC.change)).5.length:Int)),((Bv x.1 x.2.1 x.2.2.1 x.2.2.2)=true→(0:Int)≤x.2.2.1∧x.2.2.1 <(↑x.1.length:Int)),((Bv x.1 x.2.1 x.2.2.1 x.2.2.2)=true→(0:Int)≤x.2.2.2∧x.2.2.2 <(↑(x.1.getD x.2.2.1.toNat (Ae TC.change)).5.length:Int))]
def HI (x:Cu):List Prop:=[((0:Int)≤x.2.2.1∧x.2.2.1 <(↑x.1.length:Int)),((Bv x.1 x.2.1 x.2.2.1 x.2.2.2)=true→(0:Int)≤x.2.2.1∧x.2.2.1 <(↑x.1.length:Int)),((Bv x.1 x.2.1 x.2.2.1 x.2.2.2)=true→(0:Int)≤x.2.2.2∧x.2.2.2 <(↑(x.1.getD x.2.2.1.toNat (Ae TC.change)).5.length:Int))]
def Qt (x:Cu):Bo:=[(some 2,some (Aid x.1 x.2.1 x.2.2.1 x.2.2.2),⟨122,0,[(7,.v (.int .i64 x.2.1))],[]⟩)]
def FT (x:Cu):Nat:=((↑(x.1.getD x.2.2.1.toNat (Ae TC.change)).5.length:Int) - x.2.2.2).toNat
def GQ (x:Cu):Cu:=Bc Ej Ei (FT x) x
set_option maxRecDepth 100000 in
theorem Att (a0:List TChange) (a1:Int) (a2:Int) (a3:Int):By (AA Alj L0) 9 (Aj Try.prog 45 2) W6 (LI (a0,a1,a2,a3))=some (SP (a0,a1,a2,a3),Qt (a0,a1,a2,a3),Ei (a0,a1,a2,a3),LI (Ej (a0,a1,a2,a3))):=by kernel_rfl
set_option maxRecDepth 100000 in
theorem Atu (a0:List TChange) (a1:Int) (a2:Int) (a3:Int) (hp:∀p∈HI (a0,a1,a2,a3),p):∀p∈SP (a0,a1,a2,a3),p:=by
 have n0:=N0 hp
 have n1:((Bv a0 a1 a2 a3)=true→(0:Int)≤a2∧a2 <(↑a0.length:Int)):=N0 (N1 hp)
 have n2:((Bv a0 a1 a2 a3)=true→(0:Int)≤a3∧a3 <(↑(a0.getD a2.toNat (Ae TC.change)).5.length:Int)):=N0 (N1 (N1 hp))
 exact(Aa n0 (Aa n1 (Aa n2 (Aa n1 (Aa n2 Ab)))))
noncomputable def SQ:=HF (AA Alj L0) (Aj Try.prog 45 2) W6 Ayk NB FT Ej Ei HI Qt
theorem Amn:∀s b ps outs,SQ s=some (b,ps,outs)→Wf s ⟨ps,outs,none⟩∧Br (AA C0 L0) b s ps outs:=
 Bh (T:=LI) TP AG (u:=9) (by kernel_rfl) (by decide) (fun⟨a0,a1,a2,a3⟩=>Att a0 a1 a2 a3) (fun⟨a0,a1,a2,a3⟩=>Atu a0 a1 a2 a3) Aie (fun _=>AU (n:=122) rfl) fun _ _=>rfl
noncomputable def LH:=Dz 2 SQ L0
theorem SO:Hf LH:=A5 Amn AG
abbrev Ct:Type:=(List TChange)×Int×Int
def LG (x:Ct):St:=⟨122,0,[(1,.sl .change x.1),(7,.v (.int .i64 x.2.1)),(8,.v (.int .i64 x.2.2))],[]⟩
def NA:St→Option Ct
 |⟨122,0,[(1,.sl .change z0),(7,.v (.int .i64 z1)),(8,.v (.int .i64 z2))],[]⟩=>some (z0,z1,z2)
 |_=>none
theorem Aic:∀s x,NA s=some x→s=LG x:=fun s x h=>by
 unfold NA at h
 split at h
 ·cases h;rfl
 ·cases h
def W5:CX:=⟨0,0,[1,7,8],[],[],[],[7],[]⟩
def Ayj:Dp:=⟨[],[],[1,7,8],[]⟩
def DB (a0:List TChange) (a1:Int) (a2:Int):Bool:=!!(decide (a2 <(↑a0.length:Int))&&decide (a1≤(6000:Int)))
def Ki (a0:List TChange) (a1:Int) (a2:Int):Int:=(GQ (a0,Ay a1 (10:Int) (6000:Int),a2,(0:Int))).snd.fst
def Aml (a0:List TChange) (a1:Int) (a2:Int):Bool:=!(decide (a2 <(↑a0.length:Int))&&decide (a1≤(6000:Int)))
def Eh (x:Ct):Ct:=(x.1,Ki x.1 x.2.1 x.2.2,IntKind.i64.wrap (x.2.2+(1:Int)))
def Eg (x:Ct):Cnd:=some ((DB x.1 x.2.1 x.2.2))
def SM (x:Ct):List Prop:=[((DB x.1 x.2.1 x.2.2)=true→Aj Try.prog (45:FuncId) (2:Nat)=Aj Try.prog (45:FuncId) (2:Nat)),((DB x.1 x.2.1 x.2.2)=true→AK Ej Ei HI (FT (x.1,Ay x.2.1 (10:Int) (6000:Int),x.2.2,(0:Int))) (x.1,Ay x.2.1 (10:Int) (6000:Int),x.2.2,(0:Int)))]
def HH (x:Ct):List Prop:=[((DB x.1 x.2.1 x.2.2)=true→AK Ej Ei HI (FT (x.1,Ay x.2.1 (10:Int) (6000:Int),x.2.2,(0:Int))) (x.1,Ay x.2.1 (10:Int) (6000:Int),x.2.2,(0:Int)))]
def Qs (x:Ct):Bo:=[(some 0,some (Aml x.1 x.2.1 x.2.2),⟨122,0,[(7,.v (.int .i64 x.2.1))],[]⟩)]
def FS (x:Ct):Nat:=((↑x.1.length:Int) - x.2.2).toNat
def Dk (x:Ct):Ct:=Bc Eh Eg (FS x) x
set_option maxRecDepth 100000 in
theorem Atr (a0:List TChange) (a1:Int) (a2:Int):By (AA Alj LH) 9 (Aj Try.prog 45 0) W5 (LG (a0,a1,a2))=some (SM (a0,a1,a2),Qs (a0,a1,a2),Eg (a0,a1,a2),LG (Eh (a0,a1,a2))):=by kernel_rfl
set_option maxRecDepth 100000 in
theorem Ats (a0:List TChange) (a1:Int) (a2:Int) (hp:∀p∈HH (a0,a1,a2),p):∀p∈SM (a0,a1,a2),p:=by
 have n0:((DB a0 a1 a2)=true→Aj Try.prog (45:FuncId) (2:Nat)=Aj Try.prog (45:FuncId) (2:Nat)):=by intros;rfl
 have n1:=N0 hp
 exact(Aa n0 (Aa n1 Ab))
noncomputable def SN:=HF (AA Alj LH) (Aj Try.prog 45 0) W5 Ayj NA FS Eh Eg HH Qs
theorem Amm:∀s b ps outs,SN s=some (b,ps,outs)→Wf s ⟨ps,outs,none⟩∧Br (AA C0 L0) b s ps outs:=
 Bh (T:=LG) TP SO (u:=9) (by kernel_rfl) (by decide) (fun⟨a0,a1,a2⟩=>Atr a0 a1 a2) (fun⟨a0,a1,a2⟩=>Ats a0 a1 a2) Aic (fun _=>AU (n:=122) rfl) fun _ _=>rfl
noncomputable def LF:=Dz 0 SN LH
theorem SL:Hf LF:=A5 Amm SO
abbrev Cx:Type:=Int×(List TRow)×Int×Int
def LN (x:Cx):St:=⟨122,0,[(7,.v (.int .i64 x.1)),(11,.sl .row x.2.1),(12,.v (.int .i64 x.2.2.1)),(13,.v (.int .i64 x.2.2.2))],[]⟩
def NE:St→Option Cx
 |⟨122,0,[(7,.v (.int .i64 z0)),(11,.sl .row z1),(12,.v (.int .i64 z2)),(13,.v (.int .i64 z3))],[]⟩=>some (z0,z1,z2,z3)
 |_=>none
theorem Aih:∀s x,NE s=some x→s=LN x:=fun s x h=>by
 unfold NE at h
 split at h
 ·cases h;rfl
 ·cases h
def Xa:CX:=⟨0,0,[7,11,12,13],[],[],[],[7],[]⟩
def Ayn:Dp:=⟨[],[],[7,11,12,13],[]⟩
def DE (a0:Int) (a1:List TRow) (a2:Int) (a3:Int):Bool:=!!(decide (a3 <(↑(a1.getD a2.toNat (Ae TC.row)).2.length:Int))&&decide (a0≤(6000:Int)))
def Mu (a0:Int) (a1:List TRow) (a2:Int) (a3:Int):Int:=Ay (Ay a0 (10:Int) (6000:Int)) (↑((a1.getD a2.toNat (Ae TC.row)).2.getD a3.toNat (Ae TC.cell)).4.size:Int) (6000:Int)
def Ams (a0:Int) (a1:List TRow) (a2:Int) (a3:Int):Bool:=!(decide (a3 <(↑(a1.getD a2.toNat (Ae TC.row)).2.length:Int))&&decide (a0≤(6000:Int)))
def DG (x:Cx):Cx:=(Mu x.1 x.2.1 x.2.2.1 x.2.2.2,x.2.1,x.2.2.1,IntKind.i64.wrap (x.2.2.2+(1:Int)))
def DF (x:Cx):Cnd:=some ((DE x.1 x.2.1 x.2.2.1 x.2.2.2))
def SX (x:Cx):List Prop:=[((0:Int)≤x.2.2.1∧x.2.2.1 <(↑x.2.1.length:Int)),((DE x.1 x.2.1 x.2.2.1 x.2.2.2)=true→(0:Int)≤x.2.2.1∧x.2.2.1 <(↑x.2.1.length:Int)),((DE x.1 x.2.1 x.2.2.1 x.2.2.2)=true→(0:Int)≤x.2.2.2∧x.2.2.2 <(↑(x.2.1.getD x.2.2.1.toNat (Ae TC.row)).2.length:Int))]
def Ge (x:Cx):List Prop:=[((0:Int)≤x.2.2.1∧x.2.2.1 <(↑x.2.1.length:Int)),((DE x.1 x.2.1 x.2.2.1 x.2.2.2)=true→(0:Int)≤x.2.2.1∧x.2.2.1 <(↑x.2.1.length:Int)),((DE x.1 x.2.1 x.2.2.1 x.2.2.2)=true→(0:Int)≤x.2.2.2∧x.2.2.2 <(↑(x.2.1.getD x.2.2.1.toNat (Ae TC.row)).2.length:Int))]
def Qw (x:Cx):Bo:=[(some 8,some (Ams x.1 x.2.1 x.2.2.1 x.2.2.2),⟨122,0,[(7,.v (.int .i64 x.1))],[]⟩)]
def Eo (x:Cx):Nat:=((↑(x.2.1.getD x.2.2.1.toNat (Ae TC.row)).2.length:Int) - x.2.2.2).toNat
def GS (x:Cx):Cx:=Bc DG DF (Eo x) x
set_option maxRecDepth 100000 in
theorem Atz (a0:Int) (a1:List TRow) (a2:Int) (a3:Int):By (AA Alj LF) 9 (Aj Try.prog 45 8) Xa (LN (a0,a1,a2,a3))=some (SX (a0,a1,a2,a3),Qw (a0,a1,a2,a3),DF (a0,a1,a2,a3),LN (DG (a0,a1,a2,a3))):=by kernel_rfl
set_option maxRecDepth 100000 in
theorem At0 (a0:Int) (a1:List TRow) (a2:Int) (a3:Int) (hp:∀p∈Ge (a0,a1,a2,a3),p):∀p∈SX (a0,a1,a2,a3),p:=by
 have n0:=N0 hp
 have n1:=N0 (N1 hp)
 have n2:=N0 (N1 (N1 hp))
 exact(Aa n0 (Aa n1 (Aa n2 Ab)))
noncomputable def SY:=HF (AA Alj LF) (Aj Try.prog 45 8) Xa Ayn NE Eo DG DF Ge Qw
theorem Amt:∀s b ps outs,SY s=some (b,ps,outs)→Wf s ⟨ps,outs,none⟩∧Br (AA C0 L0) b s ps outs:=
 Bh (T:=LN) TP SL (u:=9) (by kernel_rfl) (by decide) (fun⟨a0,a1,a2,a3⟩=>Atz a0 a1 a2 a3) (fun⟨a0,a1,a2,a3⟩=>At0 a0 a1 a2 a3) Aih (fun _=>AU (n:=122) rfl) fun _ _=>rfl
noncomputable def LM:=Dz 8 SY LF
theorem SW:Hf LM:=A5 Amt SL
abbrev Cw:Type:=Int×(List TRow)×Int
def LL (x:Cw):St:=⟨122,0,[(7,.v (.int .i64 x.1)),(11,.sl .row x.2.1),(12,.v (.int .i64 x.2.2))],[]⟩
def ND:St→Option Cw
 |⟨122,0,[(7,.v (.int .i64 z0)),(11,.sl .row z1),(12,.v (.int .i64 z2))],[]⟩=>some (z0,z1,z2)
 |_=>none
theorem Aig:∀s x,ND s=some x→s=LL x:=fun s x h=>by
 unfold ND at h
 split at h
 ·cases h;rfl
 ·cases h
def W9:CX:=⟨0,0,[7,11,12],[],[],[],[7],[]⟩
def Aym:Dp:=⟨[],[],[7,11,12],[]⟩
def BZ (a0:Int) (a1:List TRow) (a2:Int):Bool:=!!(decide (a2 <(↑a1.length:Int))&&decide (a0≤(6000:Int)))
def Kk (a0:Int) (a1:List TRow) (a2:Int):Int:=(GS (Ay (Ay a0 (10:Int) (6000:Int)) (↑(a1.getD a2.toNat (Ae TC.row)).1.size:Int) (6000:Int),a1,a2,(0:Int))).fst
def Amq (a0:Int) (a1:List TRow) (a2:Int):Bool:=!(decide (a2 <(↑a1.length:Int))&&decide (a0≤(6000:Int)))
def DD (x:Cw):Cw:=(Kk x.1 x.2.1 x.2.2,x.2.1,IntKind.i64.wrap (x.2.2+(1:Int)))
def DC (x:Cw):Cnd:=some ((BZ x.1 x.2.1 x.2.2))
def SU (x:Cw):List Prop:=[((BZ x.1 x.2.1 x.2.2)=true→(0:Int)≤x.2.2∧x.2.2 <(↑x.2.1.length:Int)),((BZ x.1 x.2.1 x.2.2)=true→Aj Try.prog (45:FuncId) (8:Nat)=Aj Try.prog (45:FuncId) (8:Nat)),((BZ x.1 x.2.1 x.2.2)=true→AK DG DF Ge (Eo (Ay (Ay x.1 (10:Int) (6000:Int)) (↑(x.2.1.getD x.2.2.toNat (Ae TC.row)).1.size:Int) (6000:Int),x.2.1,x.2.2,(0:Int))) (Ay (Ay x.1 (10:Int) (6000:Int)) (↑(x.2.1.getD x.2.2.toNat (Ae TC.row)).1.size:Int) (6000:Int),x.2.1,x.2.2,(0:Int)))]
def Gd (x:Cw):List Prop:=[((BZ x.1 x.2.1 x.2.2)=true→(0:Int)≤x.2.2∧x.2.2 <(↑x.2.1.length:Int)),((BZ x.1 x.2.1 x.2.2)=true→AK DG DF Ge (Eo (Ay (Ay x.1 (10:Int) (6000:Int)) (↑(x.2.1.getD x.2.2.toNat (Ae TC.row)).1.size:Int) (6000:Int),x.2.1,x.2.2,(0:Int))) (Ay (Ay x.1 (10:Int) (6000:Int)) (↑(x.2.1.getD x.2.2.toNat (Ae TC.row)).1.size:Int) (6000:Int),x.2.1,x.2.2,(0:Int)))]
def Qv (x:Cw):Bo:=[(some 6,some (Amq x.1 x.2.1 x.2.2),⟨122,0,[(7,.v (.int .i64 x.1))],[]⟩)]
def Em (x:Cw):Nat:=((↑x.2.1.length:Int) - x.2.2).toNat
def GR (x:Cw):Cw:=Bc DD DC (Em x) x
set_option maxRecDepth 100000 in
theorem Atx (a0:Int) (a1:List TRow) (a2:Int):By (AA Alj LM) 9 (Aj Try.prog 45 6) W9 (LL (a0,a1,a2))=some (SU (a0,a1,a2),Qv (a0,a1,a2),DC (a0,a1,a2),LL (DD (a0,a1,a2))):=by kernel_rfl
set_option maxRecDepth 100000 in
theorem Aty (a0:Int) (a1:List TRow) (a2:Int) (hp:∀p∈Gd (a0,a1,a2),p):∀p∈SU (a0,a1,a2),p:=by
 have n0:=N0 hp
 have n1:((BZ a0 a1 a2)=true→Aj Try.prog (45:FuncId) (8:Nat)=Aj Try.prog (45:FuncId) (8:Nat)):=by intros;rfl
 have n2:=N0 (N1 hp)
 exact(Aa n0 (Aa n1 (Aa n2 Ab)))
noncomputable def SV:=HF (AA Alj LM) (Aj Try.prog 45 6) W9 Aym ND Em DD DC Gd Qv
theorem Amr:∀s b ps outs,SV s=some (b,ps,outs)→Wf s ⟨ps,outs,none⟩∧Br (AA C0 L0) b s ps outs:=
 Bh (T:=LL) TP SW (u:=9) (by kernel_rfl) (by decide) (fun⟨a0,a1,a2⟩=>Atx a0 a1 a2) (fun⟨a0,a1,a2⟩=>Aty a0 a1 a2) Aig (fun _=>AU (n:=122) rfl) fun _ _=>rfl
noncomputable def LK:=Dz 6 SV LM
theorem ST:Hf LK:=A5 Amr SW
abbrev Cv:Type:=Int×(List (List TRow))×Int×Int
def LJ (x:Cv):St:=⟨122,0,[(7,.v (.int .i64 x.1)),(67,.sl .rows x.2.1),(68,.v (.int .i64 x.2.2.1)),(69,.v (.int .i64 x.2.2.2))],[]⟩
def NC:St→Option Cv
 |⟨122,0,[(7,.v (.int .i64 z0)),(67,.sl .rows z1),(68,.v (.int .i64 z2)),(69,.v (.int .i64 z3))],[]⟩=>some (z0,z1,z2,z3)
 |_=>none
theorem Aif:∀s x,NC s=some x→s=LJ x:=fun s x h=>by
 unfold NC at h
 split at h
 ·cases h;rfl
 ·cases h
def W8:CX:=⟨0,0,[7,67,68,69],[],[],[],[7],[]⟩
def Ayl:Dp:=⟨[],[],[7,67,68,69],[]⟩
def Kj (a0:Int) (a1:List (List TRow)) (_a2:Int) (a3:Int):Int:=(GR (a0,a1.getD a3.toNat (Ae TC.rows),(0:Int))).fst
def El (x:Cv):Cv:=(Kj x.1 x.2.1 x.2.2.1 x.2.2.2,x.2.1,x.2.2.1,IntKind.i64.wrap (x.2.2.2+(1:Int)))
def Ek (x:Cv):Cnd:=some (!!decide (x.2.2.2 <x.2.2.1))
def SR (x:Cv):List Prop:=[((!!decide (x.2.2.2 <x.2.2.1))=true→(0:Int)≤x.2.2.2∧x.2.2.2 <(↑x.2.1.length:Int)),((!!decide (x.2.2.2 <x.2.2.1))=true→Aj Try.prog (45:FuncId) (6:Nat)=Aj Try.prog (45:FuncId) (6:Nat)),((!!decide (x.2.2.2 <x.2.2.1))=true→AK DD DC Gd (Em (x.1,x.2.1.getD x.2.2.2.toNat (Ae TC.rows),(0:Int))) (x.1,x.2.1.getD x.2.2.2.toNat (Ae TC.rows),(0:Int)))]
def HJ (x:Cv):List Prop:=[((!!decide (x.2.2.2 <x.2.2.1))=true→(0:Int)≤x.2.2.2∧x.2.2.2 <(↑x.2.1.length:Int)),((!!decide (x.2.2.2 <x.2.2.1))=true→AK DD DC Gd (Em (x.1,x.2.1.getD x.2.2.2.toNat (Ae TC.rows),(0:Int))) (x.1,x.2.1.getD x.2.2.2.toNat (Ae TC.rows),(0:Int)))]
def Qu (x:Cv):Bo:=[(some 4,some (!decide (x.2.2.2 <x.2.2.1)),⟨122,0,[(7,.v (.int .i64 x.1))],[]⟩)]
def FU (x:Cv):Nat:=(x.2.2.1 - x.2.2.2).toNat
def Mt (x:Cv):Cv:=Bc El Ek (FU x) x
set_option maxRecDepth 100000 in
theorem Atv (a0:Int) (a1:List (List TRow)) (a2:Int) (a3:Int):By (AA Alj LK) 9 (Aj Try.prog 45 4) W8 (LJ (a0,a1,a2,a3))=some (SR (a0,a1,a2,a3),Qu (a0,a1,a2,a3),Ek (a0,a1,a2,a3),LJ (El (a0,a1,a2,a3))):=by kernel_rfl
set_option maxRecDepth 100000 in
theorem Atw (a0:Int) (a1:List (List TRow)) (a2:Int) (a3:Int) (hp:∀p∈HJ (a0,a1,a2,a3),p):∀p∈SR (a0,a1,a2,a3),p:=by
 have n0:=N0 hp
 have n1:((!!decide (a3 <a2))=true→Aj Try.prog (45:FuncId) (6:Nat)=Aj Try.prog (45:FuncId) (6:Nat)):=by intros;rfl
 have n2:=N0 (N1 hp)
 exact(Aa n0 (Aa n1 (Aa n2 Ab)))
noncomputable def SS:=HF (AA Alj LK) (Aj Try.prog 45 4) W8 Ayl NC FU El Ek HJ Qu
theorem Amp:∀s b ps outs,SS s=some (b,ps,outs)→Wf s ⟨ps,outs,none⟩∧Br (AA C0 L0) b s ps outs:=
 Bh (T:=LJ) TP ST (u:=9) (by kernel_rfl) (by decide) (fun⟨a0,a1,a2,a3⟩=>Atv a0 a1 a2 a3) (fun⟨a0,a1,a2,a3⟩=>Atw a0 a1 a2 a3) Aif (fun _=>AU (n:=122) rfl) fun _ _=>rfl
noncomputable def W7:=Dz 4 SS LK
theorem Amo:Hf W7:=A5 Amp ST
def BN (a0:List TGroup) (a1:List TChange) (a2:List (List TRow)):Bool:=decide ((Mt ((Dk (a1,Ay (0:Int) (↑a0.length:Int) (6000:Int),(0:Int))).snd.fst,a2,(↑a2.length:Int),(0:Int))).fst≤(6000:Int))
def Aqh (a0:List TGroup) (a1:List TChange) (a2:List (List TRow)):A:=.v (.bool (BN a0 a1 a2))
def Aqg (_a0:List TGroup) (_a1:List TChange) (_a2:List (List TRow)):Objs:=[]
def Aij (a0:List TGroup) (a1:List TChange) (a2:List (List TRow)):List Prop:=[(AK Eh Eg HH (FS (a1,Ay (0:Int) (↑a0.length:Int) (6000:Int),(0:Int))) (a1,Ay (0:Int) (↑a0.length:Int) (6000:Int),(0:Int))),(AK El Ek HJ (FU ((Dk (a1,Ay (0:Int) (↑a0.length:Int) (6000:Int),(0:Int))).snd.fst,a2,(↑a2.length:Int),(0:Int))) ((Dk (a1,Ay (0:Int) (↑a0.length:Int) (6000:Int),(0:Int))).snd.fst,a2,(↑a2.length:Int),(0:Int)))]
set_option maxRecDepth 100000 in
theorem A9p (a0:List TGroup) (a1:List TChange) (a2:List (List TRow)):ER (AA Alj W7) 9 45 [.sl .group a0,.sl .change a1,.sl .rows a2] 0 []=some (1,Aqh a0 a1 a2,0,Aqg a0 a1 a2,[(Aj Try.prog (45:FuncId) (0:Nat)=Aj Try.prog (45:FuncId) (0:Nat)),(AK Eh Eg HH (FS (a1,Ay (0:Int) (↑a0.length:Int) (6000:Int),(0:Int))) (a1,Ay (0:Int) (↑a0.length:Int) (6000:Int),(0:Int))),(Aj Try.prog (45:FuncId) (4:Nat)=Aj Try.prog (45:FuncId) (4:Nat)),(AK El Ek HJ (FU ((Dk (a1,Ay (0:Int) (↑a0.length:Int) (6000:Int),(0:Int))).snd.fst,a2,(↑a2.length:Int),(0:Int))) ((Dk (a1,Ay (0:Int) (↑a0.length:Int) (6000:Int),(0:Int))).snd.fst,a2,(↑a2.length:Int),(0:Int)))]):=by kernel_rfl
set_option maxRecDepth 100000 in
theorem Bf1 (a0:List TGroup) (a1:List TChange) (a2:List (List TRow)) (hp:∀p∈Aij a0 a1 a2,p):CallOk Try.prog 45 [.sl .group a0,.sl .change a1,.sl .rows a2] 0 [] 1 (Aqh a0 a1 a2) 0 (Aqg a0 a1 a2):=by
 have n1:=N0 hp
 have n3:=N0 (N1 hp)
 exact AH (Ax TP Amo) (A9p a0 a1 a2) (Aa rfl (Aa n1 (Aa rfl (Aa n3 Ab))))
def Aik (a0:List TGroup) (a1:List TChange) (a2:List (List TRow)):A:=.v (.bool (BN a0 a1 a2))
def Aii (_a0:List TGroup) (_a1:List TChange) (_a2:List (List TRow)):Objs:=[]
def UU (c:TChange):Prop:=Av c.writes.length∧∀w∈c.writes,Av w.key.size∧Av w.value.size
def Ak7 (c:TChange):Prop:=c.writes.length≤6000∧∀w∈c.writes,w.key.size≤6000∧w.value.size≤6000
def Aan (a0:List TGroup) (a1:List TChange) (a2:List (List TRow)):List Prop:=[Av a0.length∧(Av a1.length∧∀c∈a1,UU c)∧Av a2.length∧∀x∈a2,Av x.length∧∀r∈x,Y7 r]
theorem Ata {n k:Int} (hn:0≤n) (hk:0≤k∧k≤9223372036854775807):0≤Ay n k 6000∧(Ay n k 6000≤6000→n+k≤Ay n k 6000∧n+k≤6000):=by
 obtain⟨h1,h2,h3⟩:=Awx (n:=n) (k:=k) (m:=6000) hn hk (by omega)
 exact⟨h2,fun h=>⟨by rw[h3 (h1 h)];omega,h1 h⟩⟩
theorem A3y (rows:List TRow) (i:Nat) (hi:i <rows.length) (n0:Int) (h0:0≤n0) (hl:Av (rows.getD i (Ae TC.row)).cells.length) (hw:∀c∈(rows.getD i (Ae TC.row)).cells,Av c.value.size):
  AK DG DF Ge (Eo (n0,rows,(i:Int),0)) (n0,rows,(i:Int),0)∧
  0≤(GS (n0,rows,(i:Int),0)).fst∧((GS (n0,rows,(i:Int),0)).fst≤6000→n0+10*((rows.getD i (Ae TC.row)).cells.length:Int)≤(GS (n0,rows,(i:Int),0)).fst∧∀c∈(rows.getD i (Ae TC.row)).cells,c.value.size≤6000):=by
 generalize hcs:(rows.getD i (Ae TC.row)).cells=cs at*
 have hcs2:(rows.getD i (Ae TC.row)).2=cs:=hcs
 have hgo:∀(k:Nat) (n:Int),DE n rows (i:Int) (k:Int)=(decide (k <cs.length)&&(false||decide (n≤6000))):=fun k n=>by
  unfold DE
  rw[Int.toNat_natCast,hcs2,nn,Me,Bool.false_or]
 unfold Av at hl
 obtain⟨h1,k,n',hx,h2,h3⟩:=Wg (fun k n=>((n,rows,(i:Int),(k:Int)):Cx)) cs.length (fun k n=>Ay (Ay n 10 6000) ((cs.getD k (Ae TC.cell)).4.size:Int) 6000) (fun k=>(cs.getD k (Ae TC.cell)).value.size≤6000) 6000 10 false DG DF Ge (Eo (n0,rows,(i:Int),0)) (n0,rows,(i:Int),0) n0 rfl
  (by show cs.length≤(((rows.getD ((i:Int)).toNat (Ae TC.row)).2.length:Int) - 0).toNat;rw[Int.toNat_natCast,hcs2];omega) h0
  (fun k n hk hn=>by
   obtain⟨a1,a2⟩:=Ata (k:=10) hn (by omega)
   obtain⟨b1,b2⟩:=Ata a1 (Acl (hw _ (getD_in cs (Ae TC.cell) k hk)))
   refine⟨b1,fun h=>?_⟩
   obtain⟨c1,c2⟩:=b2 h
   obtain⟨d1,d2⟩:=a2 (by omega)
   exact⟨by omega,by show(cs.getD k (Ae TC.cell)).4.size≤6000;omega⟩)
  (by omega)
  (fun k n _=>hgo k n)
  (fun k n hk _=>by
   show(Mu n rows (i:Int) (k:Int),rows,(i:Int),IntKind.i64.wrap ((k:Int)+1))=(_,rows,(i:Int),((k+1:Nat):Int))
   rw[EQ (by omega)]
   unfold Mu
   rw[Int.toNat_natCast,Int.toNat_natCast,hcs2])
  (fun k n _ _=>Aa (by show(0:Int)≤(i:Int)∧(i:Int) <(rows.length:Int);omega) (Aa (fun _=>by show(0:Int)≤(i:Int)∧(i:Int) <(rows.length:Int);omega) (Aa (fun h=>by
   have h':DE n rows (i:Int) (k:Int)=true:=h
   rw[hgo,Bool.and_eq_true] at h'
   have:=of_decide_eq_true h'.1
   show(0:Int)≤(k:Int)∧(k:Int) <((rows.getD ((i:Int)).toNat (Ae TC.row)).2.length:Int)
   rw[Int.toNat_natCast,hcs2]
   omega) Ab)))
 have hr:GS (n0,rows,(i:Int),0)=(n',rows,(i:Int),(k:Int)):=hx
 rw[hr]
 exact⟨h1,h2,fun h=>⟨(h3 h).1,Sh (h3 h).2⟩⟩
theorem A9y (rows:List TRow) (n0:Int) (h0:0≤n0) (hl:Av rows.length) (hw:∀r∈rows,Y7 r):
  AK DD DC Gd (Em (n0,rows,0)) (n0,rows,0)∧
  0≤(GR (n0,rows,0)).fst∧((GR (n0,rows,0)).fst≤6000→n0+10*(rows.length:Int)≤(GR (n0,rows,0)).fst∧∀r∈rows,YX 6000 r):=by
 have hgo:∀(k:Nat) (n:Int),BZ n rows (k:Int)=(decide (k <rows.length)&&(false||decide (n≤6000))):=fun k n=>by
  unfold BZ
  rw[nn,Me,Bool.false_or]
 unfold Av at hl
 have hin:∀(i:Nat) (n:Int),i <rows.length→0≤n→_:=fun i n hi hn=>
  A3y rows i hi (Ay (Ay n 10 6000) ((rows.getD i (Ae TC.row)).1.size:Int) 6000) (Ata (Ata hn (by omega)).1 (Acl (hw _ (getD_in rows (Ae TC.row) i hi)).1)).1 (hw _ (getD_in rows (Ae TC.row) i hi)).2.1 (hw _ (getD_in rows (Ae TC.row) i hi)).2.2
 obtain⟨h1,k,n',hx,h2,h3⟩:=Wg (fun k n=>((n,rows,(k:Int)):Cw)) rows.length (fun k n=>Kk n rows (k:Int)) (fun k=>YX 6000 (rows.getD k (Ae TC.row))) 6000 10 false DD DC Gd (Em (n0,rows,0)) (n0,rows,0) n0 rfl
  (by show rows.length≤((rows.length:Int) - 0).toNat;omega) h0
  (fun k n hk hn=>by
   obtain⟨_,g2,g3⟩:=hin k n hk hn
   obtain⟨a1,a2⟩:=Ata (k:=10) hn (by omega)
   obtain⟨b1,b2⟩:=Ata a1 (Acl (hw _ (getD_in rows (Ae TC.row) k hk)).1)
   unfold Kk
   rw[Int.toNat_natCast]
   refine⟨g2,fun h=>?_⟩
   obtain⟨c1,c2⟩:=g3 h
   have h':(GS (Ay (Ay n 10 6000) ((rows.getD k (Ae TC.row)).1.size:Int) 6000,rows,(k:Int),0)).fst≤6000:=h
   obtain⟨d1,d2⟩:=b2 (by omega)
   obtain⟨e1,e2⟩:=a2 (by omega)
   exact⟨by omega,by show(rows.getD k (Ae TC.row)).1.size≤6000;omega,by omega,c2⟩)
  (by omega)
  (fun k n _=>hgo k n)
  (fun k n hk _=>by
   show(Kk n rows (k:Int),rows,IntKind.i64.wrap ((k:Int)+1))=(_,rows,((k+1:Nat):Int))
   rw[EQ (by omega)])
  (fun k n hk hn=>by
   have hlt:BZ n rows (k:Int)=true→k <rows.length:=fun h=>by
    rw[hgo,Bool.and_eq_true] at h
    exact of_decide_eq_true h.1
   refine Aa (fun h=>?_) (Aa (fun h=>?_) Ab)
   ·have:=hlt h
    show(0:Int)≤(k:Int)∧(k:Int) <(rows.length:Int)
    omega
   ·have:=(hin k n (hlt h) hn).1
    have e:((k:Int)).toNat=k:=Int.toNat_natCast k
    show AK DG DF Ge (Eo (Ay (Ay n 10 6000) ((rows.getD ((k:Int)).toNat (Ae TC.row)).1.size:Int) 6000,rows,(k:Int),0)) (Ay (Ay n 10 6000) ((rows.getD ((k:Int)).toNat (Ae TC.row)).1.size:Int) 6000,rows,(k:Int),0)
    rw[e]
    exact this)
 have hr:GR (n0,rows,0)=(n',rows,(k:Int)):=hx
 rw[hr]
 exact⟨h1,h2,fun h=>⟨(h3 h).1,Sh (h3 h).2⟩⟩
theorem Bf9 (xs:List (List TRow)) (n0:Int) (h0:0≤n0) (hl:Av xs.length) (hw:∀x∈xs,Av x.length∧∀r∈x,Y7 r):
  AK El Ek HJ (FU (n0,xs,(xs.length:Int),0)) (n0,xs,(xs.length:Int),0)∧
  ((Mt (n0,xs,(xs.length:Int),0)).fst≤6000→n0≤6000∧∀x∈xs,x.length≤6000∧∀r∈x,YX 6000 r):=by
 unfold Av at hl
 have hin:∀(i:Nat) (n:Int),i <xs.length→0≤n→_:=fun i n hi hn=>
  A9y (xs.getD i (Ae TC.rows)) n hn (hw _ (getD_in xs (Ae TC.rows) i hi)).1 (hw _ (getD_in xs (Ae TC.rows) i hi)).2
 obtain⟨h1,k,n',hx,h2,h3⟩:=Wg (fun k n=>((n,xs,(xs.length:Int),(k:Int)):Cv)) xs.length (fun k n=>Kj n xs (xs.length:Int) (k:Int)) (fun k=>(xs.getD k (Ae TC.rows)).length≤6000∧∀r∈xs.getD k (Ae TC.rows),YX 6000 r) 6000 0 true El Ek HJ (FU (n0,xs,(xs.length:Int),0)) (n0,xs,(xs.length:Int),0) n0 rfl
  (by show xs.length≤((xs.length:Int) - 0).toNat;omega) h0
  (fun k n hk hn=>by
   obtain⟨_,g2,g3⟩:=hin k n hk hn
   unfold Kj
   rw[Int.toNat_natCast]
   refine⟨g2,fun h=>?_⟩
   obtain⟨c1,c2⟩:=g3 h
   have h':(GR (n,xs.getD k (Ae TC.rows),0)).fst≤6000:=h
   exact⟨by omega,by omega,c2⟩)
  (Int.le_refl _)
  (fun k n _=>by
   show(!!decide ((k:Int) <(xs.length:Int)))=_
   rw[nn,Me,Bool.true_or,Bool.and_true])
  (fun k n hk _=>by
   show(Kj n xs (xs.length:Int) (k:Int),xs,(xs.length:Int),IntKind.i64.wrap ((k:Int)+1))=(_,xs,(xs.length:Int),((k+1:Nat):Int))
   rw[EQ (by omega)])
  (fun k n hk hn=>by
   have hlt:(!!decide ((k:Int) <(xs.length:Int)))=true→k <xs.length:=fun h=>by
    rw[nn] at h
    have:=of_decide_eq_true h
    omega
   refine Aa (fun h=>?_) (Aa (fun h=>?_) Ab)
   ·have:=hlt h
    show(0:Int)≤(k:Int)∧(k:Int) <(xs.length:Int)
    omega
   ·have:=(hin k n (hlt h) hn).1
    have e:((k:Int)).toNat=k:=Int.toNat_natCast k
    show AK DD DC Gd (Em (n,xs.getD ((k:Int)).toNat (Ae TC.rows),0)) (n,xs.getD ((k:Int)).toNat (Ae TC.rows),0)
    rw[e]
    exact this)
 have hr:Mt (n0,xs,(xs.length:Int),0)=(n',xs,(xs.length:Int),(k:Int)):=hx
 rw[hr]
 exact⟨h1,fun h=>⟨by have h':n'≤6000:=h;have:=(h3 h).1;omega,Sh (h3 h).2⟩⟩
theorem Ays (cs:List TChange) (i:Nat) (hi:i <cs.length) (n0:Int) (h0:0≤n0) (hw:UU (cs.getD i (Ae TC.change))):
  AK Ej Ei HI (FT (cs,n0,(i:Int),0)) (cs,n0,(i:Int),0)∧
  0≤(GQ (cs,n0,(i:Int),0)).snd.fst∧((GQ (cs,n0,(i:Int),0)).snd.fst≤6000→n0≤(GQ (cs,n0,(i:Int),0)).snd.fst∧Ak7 (cs.getD i (Ae TC.change))):=by
 obtain⟨hl,hw⟩:=hw
 unfold Ak7
 generalize hcs:(cs.getD i (Ae TC.change)).writes=ws at*
 have hcs2:(cs.getD i (Ae TC.change)).5=ws:=hcs
 have hgo:∀(k:Nat) (n:Int),Bv cs n (i:Int) (k:Int)=(decide (k <ws.length)&&(false||decide (n≤6000))):=fun k n=>by
  unfold Bv
  rw[Int.toNat_natCast,hcs2,nn,Me,Bool.false_or]
 unfold Av at hl
 obtain⟨h1,k,n',hx,h2,h3⟩:=Wg (fun k n=>((cs,n,(i:Int),(k:Int)):Cu)) ws.length (fun k n=>Ay (Ay (Ay n 10 6000) ((ws.getD k (Ae TC.write)).1.size:Int) 6000) ((ws.getD k (Ae TC.write)).4.size:Int) 6000) (fun k=>(ws.getD k (Ae TC.write)).key.size≤6000∧(ws.getD k (Ae TC.write)).value.size≤6000) 6000 10 false Ej Ei HI (FT (cs,n0,(i:Int),0)) (cs,n0,(i:Int),0) n0 rfl
  (by show ws.length≤(((cs.getD ((i:Int)).toNat (Ae TC.change)).5.length:Int) - 0).toNat;rw[Int.toNat_natCast,hcs2];omega) h0
  (fun k n hk hn=>by
   obtain⟨w1,w2⟩:=hw _ (getD_in ws (Ae TC.write) k hk)
   obtain⟨a1,a2⟩:=Ata (k:=10) hn (by omega)
   obtain⟨b1,b2⟩:=Ata a1 (Acl w1)
   obtain⟨f1,f2⟩:=Ata b1 (Acl w2)
   refine⟨f1,fun h=>?_⟩
   obtain⟨g1,g2⟩:=f2 h
   obtain⟨c1,c2⟩:=b2 (by omega)
   obtain⟨d1,d2⟩:=a2 (by omega)
   exact⟨by omega,by omega,by omega⟩)
  (by omega)
  (fun k n _=>hgo k n)
  (fun k n hk _=>by
   show(cs,Ms cs n (i:Int) (k:Int),(i:Int),IntKind.i64.wrap ((k:Int)+1))=(cs,_,(i:Int),((k+1:Nat):Int))
   rw[EQ (by omega)]
   unfold Ms
   rw[Int.toNat_natCast,Int.toNat_natCast,hcs2])
  (fun k n _ _=>Aa (by show(0:Int)≤(i:Int)∧(i:Int) <(cs.length:Int);omega) (Aa (fun _=>by show(0:Int)≤(i:Int)∧(i:Int) <(cs.length:Int);omega) (Aa (fun h=>by
   have h':Bv cs n (i:Int) (k:Int)=true:=h
   rw[hgo,Bool.and_eq_true] at h'
   have:=of_decide_eq_true h'.1
   show(0:Int)≤(k:Int)∧(k:Int) <((cs.getD ((i:Int)).toNat (Ae TC.change)).5.length:Int)
   rw[Int.toNat_natCast,hcs2]
   omega) Ab)))
 have hr:GQ (cs,n0,(i:Int),0)=(cs,n',(i:Int),(k:Int)):=hx
 rw[hr]
 refine⟨h1,h2,fun h=>?_⟩
 have h':n'≤6000:=h
 obtain⟨q1,q2⟩:=h3 h
 refine⟨by show n0≤n';omega,by omega,?_⟩
 exact Sh (P:=fun w:TWrite=>w.key.size≤6000∧w.value.size≤6000) q2
theorem At1 (cs:List TChange) (n0:Int) (h0:0≤n0) (hl:Av cs.length) (hw:∀c∈cs,UU c):
  AK Eh Eg HH (FS (cs,n0,0)) (cs,n0,0)∧
  0≤(Dk (cs,n0,0)).snd.fst∧((Dk (cs,n0,0)).snd.fst≤6000→n0+10*(cs.length:Int)≤(Dk (cs,n0,0)).snd.fst∧∀c∈cs,Ak7 c):=by
 have hgo:∀(k:Nat) (n:Int),DB cs n (k:Int)=(decide (k <cs.length)&&(false||decide (n≤6000))):=fun k n=>by
  unfold DB
  rw[nn,Me,Bool.false_or]
 unfold Av at hl
 have hin:∀(i:Nat) (n:Int),i <cs.length→0≤n→_:=fun i n hi hn=>
  Ays cs i hi (Ay n 10 6000) (Ata hn (by omega)).1 (hw _ (getD_in cs (Ae TC.change) i hi))
 obtain⟨h1,k,n',hx,h2,h3⟩:=Wg (fun k n=>((cs,n,(k:Int)):Ct)) cs.length (fun k n=>Ki cs n (k:Int)) (fun k=>Ak7 (cs.getD k (Ae TC.change))) 6000 10 false Eh Eg HH (FS (cs,n0,0)) (cs,n0,0) n0 rfl
  (by show cs.length≤((cs.length:Int) - 0).toNat;omega) h0
  (fun k n hk hn=>by
   obtain⟨_,g2,g3⟩:=hin k n hk hn
   obtain⟨a1,a2⟩:=Ata (k:=10) hn (by omega)
   unfold Ki
   refine⟨g2,fun h=>?_⟩
   obtain⟨c1,c2⟩:=g3 h
   have h':(GQ (cs,Ay n 10 6000,(k:Int),0)).snd.fst≤6000:=h
   obtain⟨e1,e2⟩:=a2 (by omega)
   exact⟨by omega,c2⟩)
  (by omega)
  (fun k n _=>hgo k n)
  (fun k n hk _=>by
   show(cs,Ki cs n (k:Int),IntKind.i64.wrap ((k:Int)+1))=(cs,_,((k+1:Nat):Int))
   rw[EQ (by omega)])
  (fun k n hk hn=>Aa (fun h=>by
    have h':DB cs n (k:Int)=true:=h
    rw[hgo,Bool.and_eq_true] at h'
    exact(hin k n (of_decide_eq_true h'.1) hn).1) Ab)
 have hr:Dk (cs,n0,0)=(cs,n',(k:Int)):=hx
 rw[hr]
 exact⟨h1,h2,fun h=>⟨(h3 h).1,Sh (h3 h).2⟩⟩
theorem Ayr (l:List TGroup) (cs:List TChange) (xs:List (List TRow)) (hl:Av l.length) (hc:Av cs.length∧∀c∈cs,UU c) (hr:Av xs.length) (hw:∀x∈xs,Av x.length∧∀r∈x,Y7 r):(∀p∈Aij l cs xs,p)∧
  (BN l cs xs=true→l.length≤6000∧(cs.length≤6000∧∀c∈cs,Ak7 c)∧∀x∈xs,x.length≤6000∧∀r∈x,YX 6000 r):=by
 obtain⟨a1,a2⟩:=Ata (n:=0) (k:=(l.length:Int)) (Int.le_refl _) (Acl hl)
 obtain⟨b1,b2,b3⟩:=At1 cs _ a1 hc.1 hc.2
 obtain⟨c1,c2⟩:=Bf9 xs _ b2 hr hw
 refine⟨Aa b1 (Aa c1 Ab),fun h=>?_⟩
 have h':=of_decide_eq_true h
 obtain⟨d1,d2⟩:=c2 h'
 obtain⟨e1,e2⟩:=b3 d1
 have:=a2 (by omega)
 exact⟨by omega,⟨by omega,e2⟩,d2⟩
theorem A9o (a0:List TGroup) (a1:List TChange) (a2:List (List TRow)) (hp:∀p∈Aan a0 a1 a2,p):CallOk Try.prog 45 [.sl .group a0,.sl .change a1,.sl .rows a2] 0 [] 1 (Aik a0 a1 a2) 0 (Aii a0 a1 a2):=by
 obtain⟨h1,h2,h3,h4⟩:=hp _ (List.mem_cons_self ..)
 exact Bf1 a0 a1 a2 (Ayr a0 a1 a2 h1 h2 h3 h4).1
def Qx:List A→Nat→Objs→Option A9
 | [y0,y1,y2],nx,o=>match Jt .group y0,Jt .change y1,Jt .rows y2 with
  |some a0,some a1,some a2=>some (1,(Aik a0 a1 a2).pk (AC nx),nx+0,AB nx (Aii a0 a1 a2)++o,Aan a0 a1 a2)
  |_,_,_=>none
 |_,_,_=>none
theorem Aao:EV Try.prog 45 Qx:=fun args nx o k x nx' o' ps h=>by
 unfold Qx at h
 split at h<;>first|(cases h;done)|skip
 split at h<;>first|(cases h;done)|skip
 rename_i a0 a1 a2 e0 e1 e2
 cases h
 refine⟨fun hp=>?_,_,rfl⟩
 refine Ah (Ag (A9o a0 a1 a2 hp) (Nat.le_refl _) (Ac rfl (Ac rfl (Ac rfl An))) nx o) fun F N R vs hl=>?_
 obtain⟨v0,w0,rfl,h0,hl⟩:=hl.inv
 obtain⟨v1,w1,rfl,h1,hl⟩:=hl.inv
 obtain⟨v2,w2,rfl,h2,hl⟩:=hl.inv
 exact HL.cons (BL e0 h0) (HL.cons (BL e1 h1) (HL.cons (BL e2 h2) (hl)))
noncomputable def Bt1:=A7 45 Qx Alj
theorem A78:CU Try.prog Bt1:=Aw Aao TP
abbrev BT:Type:=(List TGroup)×ByteArray×(List TRow)×Int×Int
def KQ (x:BT):St:=⟨38,0,[(0,.sl .group x.1),(6,.v (.string x.2.1)),(15,.sl .row x.2.2.1),(16,.v (.int .i64 x.2.2.2.1)),(17,.v (.int .i64 x.2.2.2.2))],[]⟩
def Mx:St→Option BT
 |⟨38,0,[(0,.sl .group z0),(6,.v (.string z1)),(15,.sl .row z2),(16,.v (.int .i64 z3)),(17,.v (.int .i64 z4))],[]⟩=>some (z0,z1,z2,z3,z4)
 |_=>none
theorem Adl:∀s x,Mx s=some x→s=KQ x:=fun s x h=>by
 unfold Mx at h
 split at h
 ·cases h;rfl
 ·cases h
def U9:CX:=⟨0,0,[0,6,15,16,17],[],[],[],[4],[]⟩
def At2:Dp:=⟨[],[],[0,6,15,16,17],[]⟩
def EX (a0:List TGroup) (_a1:ByteArray) (a2:List TRow) (_a3:Int) (a4:Int):Bool:=Ap a0 (a2.getD a4.toNat (Ae TC.row)) !=(0:Int)
def DT (a0:List TGroup) (a1:ByteArray) (a2:List TRow) (a3:Int) (a4:Int):Bool:=!!decide (a4 <a3)&&((EX a0 a1 a2 a3 a4)||(Bu (a2.getD a4.toNat (Ae TC.row))||(Op.bytesLess (a2.getD a4.toNat (Ae TC.row)).1.toList a1.toList||(a2.getD a4.toNat (Ae TC.row)).1.toList==a1.toList)))
def Aiy (_a0:List TGroup) (_a1:ByteArray) (a2:List TRow) (_a3:Int) (a4:Int):ByteArray:=(a2.getD a4.toNat (Ae TC.row)).1
def Aiz (a0:List TGroup) (a1:ByteArray) (a2:List TRow) (a3:Int) (a4:Int):Bool:=!!decide (a4 <a3)&&!(DT a0 a1 a2 a3 a4)
def Hp (a0:List TGroup) (a1:ByteArray) (a2:List TRow) (a3:Int) (a4:Int):Int:=bif(EX a0 a1 a2 a3 a4) then Ap a0 (a2.getD a4.toNat (Ae TC.row)) else(100:Int)
def EZ (x:BT):BT:=(x.1,Aiy x.1 x.2.1 x.2.2.1 x.2.2.2.1 x.2.2.2.2,x.2.2.1,x.2.2.2.1,IntKind.i64.wrap (x.2.2.2.2+(1:Int)))
def EY (x:BT):Cnd:=some (Aiz x.1 x.2.1 x.2.2.1 x.2.2.2.1 x.2.2.2.2)
def QC (x:BT):List Prop:=[((!!decide (x.2.2.2.2 <x.2.2.2.1))=true→(0:Int)≤x.2.2.2.2∧x.2.2.2.2 <(↑x.2.2.1.length:Int)),((!!decide (x.2.2.2.2 <x.2.2.2.1))=true→(!(EX x.1 x.2.1 x.2.2.1 x.2.2.2.1 x.2.2.2.2))=true→Ai (x.2.2.1.getD x.2.2.2.2.toNat (Ae TC.row)).2.length)]
def Iq (x:BT):List Prop:=[((!!decide (x.2.2.2.2 <x.2.2.2.1))=true→(0:Int)≤x.2.2.2.2∧x.2.2.2.2 <(↑x.2.2.1.length:Int)),((!!decide (x.2.2.2.2 <x.2.2.2.1))=true→(!(EX x.1 x.2.1 x.2.2.1 x.2.2.2.1 x.2.2.2.2))=true→Ai (x.2.2.1.getD x.2.2.2.2.toNat (Ae TC.row)).2.length)]
def O7 (x:BT):Bo:=[(some 0,some (!decide (x.2.2.2.2 <x.2.2.2.1)),⟨38,0,[(4,.dead)],[]⟩),(none,some ((DT x.1 x.2.1 x.2.2.1 x.2.2.2.1 x.2.2.2.2)),⟨38,1,[(4,.v (.int .i64 (Hp x.1 x.2.1 x.2.2.1 x.2.2.2.1 x.2.2.2.2)))],[]⟩)]
def Hq (x:BT):Nat:=(x.2.2.2.1 - x.2.2.2.2).toNat
def FV (x:BT):BT:=Bc EZ EY (Hq x) x
set_option maxRecDepth 100000 in
theorem Am4 (a0:List TGroup) (a1:ByteArray) (a2:List TRow) (a3:Int) (a4:Int):By (AA Bt1 L0) 9 (Aj Try.prog 84 0) U9 (KQ (a0,a1,a2,a3,a4))=some (QC (a0,a1,a2,a3,a4),O7 (a0,a1,a2,a3,a4),EY (a0,a1,a2,a3,a4),KQ (EZ (a0,a1,a2,a3,a4))):=by kernel_rfl
set_option maxRecDepth 100000 in
theorem Am5 (a0:List TGroup) (a1:ByteArray) (a2:List TRow) (a3:Int) (a4:Int) (hp:∀p∈Iq (a0,a1,a2,a3,a4),p):∀p∈QC (a0,a1,a2,a3,a4),p:=by
 have n0:=N0 hp
 have n1:=N0 (N1 hp)
 exact(Aa n0 (Aa n1 Ab))
noncomputable def QD:=HF (AA Bt1 L0) (Aj Try.prog 84 0) U9 At2 Mx Hq EZ EY Iq O7
theorem Ai0:∀s b ps outs,QD s=some (b,ps,outs)→Wf s ⟨ps,outs,none⟩∧Br (AA C0 L0) b s ps outs:=
 Bh (T:=KQ) A78 AG (u:=9) (by kernel_rfl) (by decide) (fun⟨a0,a1,a2,a3,a4⟩=>Am4 a0 a1 a2 a3 a4) (fun⟨a0,a1,a2,a3,a4⟩=>Am5 a0 a1 a2 a3 a4) Adl (fun _=>AU (n:=38) rfl) fun _ _=>rfl
noncomputable def U8:=Dz 0 QD L0
theorem Aix:Hf U8:=A5 Ai0 AG
def KG (a0:List TGroup) (_a1:List TRow):Bool:=AX a0 !=(0:Int)
def Rw (a0:List TGroup) (a1:List TRow):List TGroup:=(FV (a0,ByteArray.mk #[],a1,(↑a1.length:Int),(0:Int))).fst
def Rv (a0:List TGroup) (a1:List TRow):ByteArray:=(FV (a0,ByteArray.mk #[],a1,(↑a1.length:Int),(0:Int))).snd.fst
def Ru (a0:List TGroup) (a1:List TRow):List TRow:=(FV (a0,ByteArray.mk #[],a1,(↑a1.length:Int),(0:Int))).snd.snd.fst
def Rt (a0:List TGroup) (a1:List TRow):Int:=(FV (a0,ByteArray.mk #[],a1,(↑a1.length:Int),(0:Int))).snd.snd.snd.snd
def Rs (a0:List TGroup) (a1:List TRow):Int:=(FV (a0,ByteArray.mk #[],a1,(↑a1.length:Int),(0:Int))).snd.snd.snd.fst
def Ug (a0:List TGroup) (a1:List TRow):Int:=bif(KG a0 a1) then AX a0 else bif DT (Rw a0 a1) (Rv a0 a1) (Ru a0 a1) (Rs a0 a1) (Rt a0 a1) then Hp (Rw a0 a1) (Rv a0 a1) (Ru a0 a1) (Rs a0 a1) (Rt a0 a1) else(0:Int)
def Uh (a0:List TGroup) (a1:List TRow):A:=.v (.int .i64 (Ug a0 a1))
def Ai1 (_a0:List TGroup) (_a1:List TRow):Objs:=[]
def Aax (a0:List TGroup) (a1:List TRow):List Prop:=[((!(KG a0 a1))=true→AK EZ EY Iq (Hq (a0,ByteArray.mk #[],a1,(↑a1.length:Int),(0:Int))) (a0,ByteArray.mk #[],a1,(↑a1.length:Int),(0:Int)))]
set_option maxRecDepth 100000 in
theorem A33 (a0:List TGroup) (a1:List TRow):ER (AA Bt1 U8) 9 84 [.sl .group a0,Ak .rows a1] 0 []=some (1,Uh a0 a1,0,Ai1 a0 a1,[((!(KG a0 a1))=true→Aj Try.prog (84:FuncId) (0:Nat)=Aj Try.prog (84:FuncId) (0:Nat)),((!(KG a0 a1))=true→AK EZ EY Iq (Hq (a0,ByteArray.mk #[],a1,(↑a1.length:Int),(0:Int))) (a0,ByteArray.mk #[],a1,(↑a1.length:Int),(0:Int)))]):=by kernel_rfl
set_option maxRecDepth 100000 in
theorem Bab (a0:List TGroup) (a1:List TRow) (hp:∀p∈Aax a0 a1,p):CallOk Try.prog 84 [.sl .group a0,Ak .rows a1] 0 [] 1 (Uh a0 a1) 0 (Ai1 a0 a1):=by
 have n0:((!(KG a0 a1))=true→Aj Try.prog (84:FuncId) (0:Nat)=Aj Try.prog (84:FuncId) (0:Nat)):=by intros;rfl
 have n1:=N0 hp
 exact AH (Ax A78 Aix) (A33 a0 a1) (Aa n0 (Aa n1 Ab))
def Aay (a0:List TGroup) (a1:List TRow):A:=.v (.int .i64 (Fy a0 a1))
def Aaw (_a0:List TGroup) (_a1:List TRow):Objs:=[]
def Xp (_a0:List TGroup) (a1:List TRow):List Prop:=[Av a1.length]
theorem Awc (l:List TGroup) (rows:List TRow) (i:Nat):(V7 l rows i !=0)=(Ap l (B5 rows i) !=0||(Bu (B5 rows i)||leS (B5 rows i).key (O5 rows i))):=by
 unfold V7
 cases h:Ap l (B5 rows i) !=0 with
 |true=>rw[cond_true,h,Bool.true_or]
 |false=>cases Bu (B5 rows i)||leS (B5 rows i).key (O5 rows i)<;>rfl
theorem Aav (l:List TGroup) (rows:List TRow) (hb:Av rows.length):(∀p∈Aax l rows,p)∧Ug l rows=Fy l rows:=by
 unfold Av at hb
 have hf:∀i:Nat,DT l (O5 rows i) rows (rows.length:Int) (i:Int)=(decide (i <rows.length)&&V7 l rows i !=0):=fun i=>by
  rw[Awc]
  unfold DT EX leS Ii
  rw[nn,Me,Int.toNat_natCast,tlb]
  rfl
 obtain⟨h1,k,hk,hx,hs,hst,_⟩:=IN (fun i=>((l,O5 rows i,rows,(rows.length:Int),(i:Int)):BT)) rows.length (fun i=>V7 l rows i !=0) EZ EY Iq (Hq (l,ByteArray.mk #[],rows,(rows.length:Int),0)) (l,ByteArray.mk #[],rows,(rows.length:Int),0) rfl (by show rows.length≤((rows.length:Int) - 0).toNat;omega)
  (fun i _ _=>by
   show((!!decide ((i:Int) <(rows.length:Int)))&&!DT l (O5 rows i) rows (rows.length:Int) (i:Int))=_
   rw[hf,nn,Me]
   cases decide (i <rows.length)<;>rfl)
  (fun i hi _=>by
   show(l,(rows.getD ((i:Int)).toNat (Ae TC.row)).1,rows,(rows.length:Int),IntKind.i64.wrap ((i:Int)+1))=(l,O5 rows (i+1),rows,(rows.length:Int),((i+1:Nat):Int))
   rw[EQ (by omega),Int.toNat_natCast]
   rfl)
  (fun i hi _=>by
   have hin:(!!decide ((i:Int) <(rows.length:Int)))=true→(i:Int) <(rows.length:Int):=fun h=>by rw[nn] at h;exact of_decide_eq_true h
   refine Aa (fun h=>⟨by show(0:Int)≤(i:Int);omega,hin h⟩) (Aa (fun _ h2=>?_) Ab)
   have h3:Ap l (rows.getD ((i:Int)).toNat (Ae TC.row))=0:=by
    have h4:(!(Ap l (rows.getD ((i:Int)).toNat (Ae TC.row)) !=0))=true:=h2
    simpa using h4
   obtain⟨g1,g2,_⟩:=AT h3
   have:=(FP g1).2
   show Ai (rows.getD ((i:Int)).toNat (Ae TC.row)).cells.length
   unfold Ai
   omega)
 have hr:FV (l,ByteArray.mk #[],rows,(rows.length:Int),0)=(l,O5 rows k,rows,(rows.length:Int),(k:Int)):=hx
 refine⟨Aa (fun _=>h1) Ab,?_⟩
 unfold Ug Fy
 show(bif AX l !=0 then AX l else _)=_
 congr 1
 unfold Rw Rv Ru Rt Rs
 rw[hr]
 show(bif DT l (O5 rows k) rows (rows.length:Int) (k:Int) then Hp l (O5 rows k) rows (rows.length:Int) (k:Int) else 0)=_
 rw[hf]
 have h0:GB l rows k=0:=(Ahw l rows k).2 fun i hi=>by simpa using hs i hi
 rcases Nat.lt_or_ge k rows.length with h|h
 ·have he:=hst h
  rw[decide_eq_true h,he]
  have e1:GB l rows (k+1)=V7 l rows k:=by
   show(bif GB l rows k !=0 then GB l rows k else V7 l rows k)=_
   rw[h0];rfl
  have hne:GB l rows (k+1)≠0:=by rw[e1];simpa using he
  rw[WK hne rows.length h,e1]
  show Hp l (O5 rows k) rows (rows.length:Int) (k:Int)=_
  unfold Hp EX
  rw[Int.toNat_natCast]
  rw[Awc] at he
  unfold V7
  show(bif Ap l (B5 rows k) !=0 then Ap l (B5 rows k) else 100)=_
  cases hg:Ap l (B5 rows k) !=0 with
  |true=>rfl
  |false=>
   rw[hg,Bool.false_or] at he
   rw[he]
   rfl
 ·obtain rfl:k=rows.length:=by omega
  rw[decide_eq_false (Nat.lt_irrefl _),h0]
  rfl
theorem A32 (a0:List TGroup) (a1:List TRow) (hp:∀p∈Xp a0 a1,p):CallOk Try.prog 84 [.sl .group a0,Ak .rows a1] 0 [] 1 (Aay a0 a1) 0 (Aaw a0 a1):=by
 have hb:Av a1.length:=hp _ (List.mem_cons_self ..)
 have h:=Bab a0 a1 (Aav a0 a1 hb).1
 unfold Uh at h
 rw[(Aav a0 a1 hb).2] at h
 exact h
def Oa:List A→Nat→Objs→Option A9
 | [y0,y1],nx,o=>match Jt .group y0,AQ .rows y1 with
  |some a0,some (a1,p1)=>some (1,(Aay a0 a1).pk (AC nx),nx+0,AB nx (Aaw a0 a1)++o,p1++(Xp a0 a1))
  |_,_=>none
 |_,_,_=>none
theorem Xq:EV Try.prog 84 Oa:=fun args nx o k x nx' o' ps h=>by
 unfold Oa at h
 split at h<;>first|(cases h;done)|skip
 split at h<;>first|(cases h;done)|skip
 rename_i a0 a1 p1 e0 e1
 cases h
 refine⟨fun hp=>?_,_,rfl⟩
 have q1:=fun p hm=>hp p (List.mem_append.2 (.inl hm))
 have r1:=fun p hm=>hp p (List.mem_append.2 (.inr hm))
 refine Ah (Ag (A32 a0 a1 r1) (Nat.le_refl _) (Ac rfl (Ac (Af _ _) An)) nx o) fun F N R vs hl=>?_
 obtain⟨v0,w0,rfl,h0,hl⟩:=hl.inv
 obtain⟨v1,w1,rfl,h1,hl⟩:=hl.inv
 exact HL.cons (BL e0 h0) (HL.cons (Am e1 q1 h1) (hl))
noncomputable def B2u:=A7 84 Oa Bt1
theorem Bn4:CU Try.prog B2u:=Aw Xq A78
def OR (a0:Int) (a1:TVec) (a2:TCell):Bool:=bif a2.1.1==(0:Int)&&a2.1.2==(0:Int)&&(a2.2.1==(0:Int)&&a2.2.2==(0:Int)&&(a2.3==false&&(a2.4.toList==(ByteArray.mk #[]).toList&&(a2.5.1==(0:Int)&&a2.5.2==(0:Int)))))||!AY a0 a2||!Kw a1 (Lm a2) then false else !GH a0 a2
def OS (a0:Int) (a1:TVec) (a2:TCell):A:=.v (.bool (OR a0 a1 a2))
def WF (_a0:Int) (_a1:TVec) (_a2:TCell):Objs:=[]
def Ati (_a0:Int) (_a1:TVec) (_a2:TCell):List Prop:=[]
set_option maxRecDepth 100000 in
theorem Ath (a0:Int) (a1:TVec) (a2:TCell):ER (AA B2u L0) 9 50 [Ak .i64 a0,Ak .vec a1,Ak .cell a2] 0 []=some (1,OS a0 a1 a2,0,WF a0 a1 a2,[]):=by kernel_rfl
set_option maxRecDepth 100000 in
theorem Axx (a0:Int) (a1:TVec) (a2:TCell) (_hp:∀p∈Ati a0 a1 a2,p):CallOk Try.prog 50 [Ak .i64 a0,Ak .vec a1,Ak .cell a2] 0 [] 1 (OS a0 a1 a2) 0 (WF a0 a1 a2):=by
 exact AH (Ax Bn4 AG) (Ath a0 a1 a2) Ab
def U3 (a0:Int) (a1:TVec) (a2:TCell):A:=.v (.bool (B3o a0 a1 a2))
def U2 (_a0:Int) (_a1:TVec) (_a2:TCell):Objs:=[]
def Sy (_a0:Int) (_a1:TVec) (_a2:TCell):List Prop:=[]
theorem B01 (c:TCell):(c.1.1==(0:Int)&&c.1.2==(0:Int)&&(c.2.1==(0:Int)&&c.2.2==(0:Int)&&(c.3==false&&(c.4.toList==(ByteArray.mk #[]).toList&&(c.5.1==(0:Int)&&c.5.2==(0:Int))))))=eqC c zeroC:=by
 rw[tlb]
 unfold eqC zeroC
 simp only[Bool.and_assoc]
theorem Bql (a b:TVec):Kw a b=Be4 a b:=by
 have hm:∀x y:Int,(min x y==y)=decide (y≤x):=fun x y=>by
  rw[Bool.eq_iff_iff,beq_iff_eq,decide_eq_true_eq];omega
 unfold Kw Be4
 have h1:((Kc a b).1==b.1)=decide (b.a≤a.a):=hm _ _
 have h2:((Kc a b).2==b.2)=decide (b.b≤a.b):=hm _ _
 rw[h1,h2]
theorem Atg (p:Int) (st:TVec) (c:TCell):OR p st c=B3o p st c:=by
 unfold OR B3o
 rw[B01,IZ,Bql,(Ag5 p c).2]
 show(bif eqC c zeroC||!BC p c||!Be4 st (Adg c) then false else !TI p c)=_
 cases eqC c zeroC<;>cases BC p c<;>cases Be4 st (Adg c)<;>rfl
theorem Atf (a0:Int) (a1:TVec) (a2:TCell) (_hp:∀p∈Sy a0 a1 a2,p):CallOk Try.prog 50 [Ak .i64 a0,Ak .vec a1,Ak .cell a2] 0 [] 1 (U3 a0 a1 a2) 0 (U2 a0 a1 a2):=by
 have h:=Axx a0 a1 a2 (fun _ h=>by cases h)
 unfold OS at h
 rw[Atg] at h
 exact h
def OT:List A→Nat→Objs→Option A9
 | [y0,y1,y2],nx,o=>match AQ .i64 y0,AQ .vec y1,AQ .cell y2 with
  |some (a0,p0),some (a1,p1),some (a2,p2)=>some (1,(U3 a0 a1 a2).pk (AC nx),nx+0,AB nx (U2 a0 a1 a2)++o,p0++(p1++(p2++(Sy a0 a1 a2))))
  |_,_,_=>none
 |_,_,_=>none
theorem Al5:EV Try.prog 50 OT:=fun args nx o k x nx' o' ps h=>by
 unfold OT at h
 split at h<;>first|(cases h;done)|skip
 split at h<;>first|(cases h;done)|skip
 rename_i a0 p0 a1 p1 a2 p2 e0 e1 e2
 cases h
 refine⟨fun hp=>?_,_,rfl⟩
 have q0:=fun p hm=>hp p (List.mem_append.2 (.inl hm))
 have r0:=fun p hm=>hp p (List.mem_append.2 (.inr hm))
 have q1:=fun p hm=>r0 p (List.mem_append.2 (.inl hm))
 have r1:=fun p hm=>r0 p (List.mem_append.2 (.inr hm))
 have q2:=fun p hm=>r1 p (List.mem_append.2 (.inl hm))
 have r2:=fun p hm=>r1 p (List.mem_append.2 (.inr hm))
 refine Ah (Ag (Atf a0 a1 a2 r2) (Nat.le_refl _) (Ac (Af _ _) (Ac (Af _ _) (Ac (Af _ _) An))) nx o) fun F N R vs hl=>?_
 obtain⟨v0,w0,rfl,h0,hl⟩:=hl.inv
 obtain⟨v1,w1,rfl,h1,hl⟩:=hl.inv
 obtain⟨v2,w2,rfl,h2,hl⟩:=hl.inv
 exact HL.cons (Am e0 q0 h0) (HL.cons (Am e1 q1 h1) (HL.cons (Am e2 q2 h2) (hl)))
noncomputable def B4d:=A7 50 OT B2u
theorem Byj:CU Try.prog B4d:=Aw Al5 Bn4
noncomputable def Cn:=B4d
theorem Bdz:CU Try.prog Cn:=Byj
end Go.Proofs.Yteebobbhhgmeiaa
namespace Go.Proofs.Yteebobbhhgmeiaa
open Go.RowKit
def wN (ws:List TWrite) (i:Nat):TWrite:=ws.getD i (Ae TC.write)
def Ra (a b:TWrite):Bool:=Ii a.key b.key||a.key==b.key&&decide (a.group <b.group)
def TM (l:List TGroup) (w:TWrite):Bool:=!(w.key.size==0)&&decide (w.key.size≤32)&&decide (0≤w.group)&&decide (w.group <(l.length:Int))&&decide (w.value.size≤64)&&(!w.gone||w.value.size==0)
def Ib (c:TChange):Bool:=(c.site==1||c.site==2)&&decide (1≤c.seq)&&decide (c.seq≤1099511627776)&&c.stamp.site==c.site&&Ih c.stamp&&CO c.vec&&(bif c.site==1 then c.vec.a else c.vec.b)==c.seq
def Qb (l:List TGroup) (ws:List TWrite) (i:Nat):Bool:=!TM l (wN ws i)||decide (0 <i)&&!Ra (wN ws (i - 1)) (wN ws i)
def Ajg (c:TChange):Bool:=decide (1≤c.writes.length)&&decide (c.writes.length≤8)
def Kx (l:List TGroup) (c:TChange):Int:=bif AX l !=0 then AX l else bif Ib c&&Ajg c&&JH c.writes.length (fun i=>!Qb l c.writes i) then 0 else 120
def JL (a0:TWrite):TPlace:=TPlace.mk a0.1 a0.2
def Wy (a0:TWrite):A:=.v (.agg ⟨[.string ((JL a0).key),.int .i64 ((JL a0).group)]⟩)
def Wx (_a0:TWrite):Objs:=[]
def Ahc (_a0:TWrite):List Prop:=[]
set_option maxRecDepth 100000 in
theorem A8r (a0:TWrite):ER (AA Cn L0) 9 174 [Ak .write a0] 0 []=some (1,Wy a0,0,Wx a0,[]):=by kernel_rfl
set_option maxRecDepth 100000 in
theorem Bew (a0:TWrite) (_hp:∀p∈Ahc a0,p):CallOk Try.prog 174 [Ak .write a0] 0 [] 1 (Wy a0) 0 (Wx a0):=by
 exact AH (Ax Bdz AG) (A8r a0) Ab
def Wz:List A→Nat→Objs→Option A9
 | [y0],nx,o=>match AQ .write y0 with
  |some (a0,p0)=>some (1,(Wy a0).pk (AC nx),nx+0,AB nx (Wx a0)++o,p0++(Ahc a0))
  |_=>none
 |_,_,_=>none
theorem A3k:EV Try.prog 174 Wz:=fun args nx o k x nx' o' ps h=>by
 unfold Wz at h
 split at h<;>first|(cases h;done)|skip
 split at h<;>first|(cases h;done)|skip
 rename_i a0 p0 e0
 cases h
 refine⟨fun hp=>?_,_,rfl⟩
 have q0:=fun p hm=>hp p (List.mem_append.2 (.inl hm))
 have r0:=fun p hm=>hp p (List.mem_append.2 (.inr hm))
 refine Ah (Ag (Bew a0 r0) (Nat.le_refl _) (Ac (Af _ _) An) nx o) fun F N R vs hl=>?_
 obtain⟨v0,w0,rfl,h0,hl⟩:=hl.inv
 exact HL.cons (Am e0 q0 h0) (hl)
noncomputable def Bsy:=A7 174 Wz Cn
theorem Bc8:CU Try.prog Bsy:=Aw A3k Bdz
def HW (a0:TPlace) (a1:TPlace):Bool:=Op.bytesLess a0.1.toList a1.1.toList||a0.1.toList==a1.1.toList&&decide (a0.2 <a1.2)
def JN (a0:TPlace) (a1:TPlace):A:=.v (.bool (HW a0 a1))
def JM (_a0:TPlace) (_a1:TPlace):Objs:=[]
def Md (_a0:TPlace) (_a1:TPlace):List Prop:=[]
set_option maxRecDepth 100000 in
theorem V6 (a0:TPlace) (a1:TPlace):ER (AA Bsy L0) 9 175 [Ak .place a0,Ak .place a1] 0 []=some (1,JN a0 a1,0,JM a0 a1,[]):=by kernel_rfl
set_option maxRecDepth 100000 in
theorem WA (a0:TPlace) (a1:TPlace) (_hp:∀p∈Md a0 a1,p):CallOk Try.prog 175 [Ak .place a0,Ak .place a1] 0 [] 1 (JN a0 a1) 0 (JM a0 a1):=by
 exact AH (Ax Bc8 AG) (V6 a0 a1) Ab
def JO:List A→Nat→Objs→Option A9
 | [y0,y1],nx,o=>match AQ .place y0,AQ .place y1 with
  |some (a0,p0),some (a1,p1)=>some (1,(JN a0 a1).pk (AC nx),nx+0,AB nx (JM a0 a1)++o,p0++(p1++(Md a0 a1)))
  |_,_=>none
 |_,_,_=>none
theorem TY:EV Try.prog 175 JO:=fun args nx o k x nx' o' ps h=>by
 unfold JO at h
 split at h<;>first|(cases h;done)|skip
 split at h<;>first|(cases h;done)|skip
 rename_i a0 p0 a1 p1 e0 e1
 cases h
 refine⟨fun hp=>?_,_,rfl⟩
 have q0:=fun p hm=>hp p (List.mem_append.2 (.inl hm))
 have r0:=fun p hm=>hp p (List.mem_append.2 (.inr hm))
 have q1:=fun p hm=>r0 p (List.mem_append.2 (.inl hm))
 have r1:=fun p hm=>r0 p (List.mem_append.2 (.inr hm))
 refine Ah (Ag (WA a0 a1 r1) (Nat.le_refl _) (Ac (Af _ _) (Ac (Af _ _) An)) nx o) fun F N R vs hl=>?_
 obtain⟨v0,w0,rfl,h0,hl⟩:=hl.inv
 obtain⟨v1,w1,rfl,h1,hl⟩:=hl.inv
 exact HL.cons (Am e0 q0 h0) (HL.cons (Am e1 q1 h1) (hl))
noncomputable def Bsz:=A7 175 JO Bsy
theorem Bc9:CU Try.prog Bsz:=Aw TY Bc8
def QV (a0:TWrite) (a1:TWrite):Bool:=bif !a0.1.toList==a1.1.toList then Op.bytesLess a0.1.toList a1.1.toList else decide (a0.2 <a1.2)
def Yu (a0:TWrite) (a1:TWrite):A:=.v (.bool (QV a0 a1))
def Yt (_a0:TWrite) (_a1:TWrite):Objs:=[]
def Aki (_a0:TWrite) (_a1:TWrite):List Prop:=[]
set_option maxRecDepth 100000 in
theorem Bbm (a0:TWrite) (a1:TWrite):ER (AA Bsz L0) 9 177 [Ak .write a0,Ak .write a1] 0 []=some (1,Yu a0 a1,0,Yt a0 a1,[]):=by kernel_rfl
set_option maxRecDepth 100000 in
theorem Bh6 (a0:TWrite) (a1:TWrite) (_hp:∀p∈Aki a0 a1,p):CallOk Try.prog 177 [Ak .write a0,Ak .write a1] 0 [] 1 (Yu a0 a1) 0 (Yt a0 a1):=by
 exact AH (Ax Bc9 AG) (Bbm a0 a1) Ab
def Yv:List A→Nat→Objs→Option A9
 | [y0,y1],nx,o=>match AQ .write y0,AQ .write y1 with
  |some (a0,p0),some (a1,p1)=>some (1,(Yu a0 a1).pk (AC nx),nx+0,AB nx (Yt a0 a1)++o,p0++(p1++(Aki a0 a1)))
  |_,_=>none
 |_,_,_=>none
theorem A44:EV Try.prog 177 Yv:=fun args nx o k x nx' o' ps h=>by
 unfold Yv at h
 split at h<;>first|(cases h;done)|skip
 split at h<;>first|(cases h;done)|skip
 rename_i a0 p0 a1 p1 e0 e1
 cases h
 refine⟨fun hp=>?_,_,rfl⟩
 have q0:=fun p hm=>hp p (List.mem_append.2 (.inl hm))
 have r0:=fun p hm=>hp p (List.mem_append.2 (.inr hm))
 have q1:=fun p hm=>r0 p (List.mem_append.2 (.inl hm))
 have r1:=fun p hm=>r0 p (List.mem_append.2 (.inr hm))
 refine Ah (Ag (Bh6 a0 a1 r1) (Nat.le_refl _) (Ac (Af _ _) (Ac (Af _ _) An)) nx o) fun F N R vs hl=>?_
 obtain⟨v0,w0,rfl,h0,hl⟩:=hl.inv
 obtain⟨v1,w1,rfl,h1,hl⟩:=hl.inv
 exact HL.cons (Am e0 q0 h0) (HL.cons (Am e1 q1 h1) (hl))
noncomputable def Bs0:=A7 177 Yv Bsz
theorem Bda:CU Try.prog Bs0:=Aw A44 Bc9
def IW (a0:List TGroup) (a1:TWrite):Bool:=SE a1.1==(0:Int)&&decide (a1.2≥(0:Int))&&decide (a1.2 <(↑a0.length:Int))&&decide ((↑a1.4.size:Int)≤(64:Int))&&(!a1.3||a1.4.toList==(ByteArray.mk #[]).toList)
def Yx (a0:List TGroup) (a1:TWrite):A:=.v (.bool (IW a0 a1))
def Yw (_a0:List TGroup) (_a1:TWrite):Objs:=[]
def Akj (_a0:List TGroup) (_a1:TWrite):List Prop:=[]
set_option maxRecDepth 100000 in
theorem Bbn (a0:List TGroup) (a1:TWrite):ER (AA Bs0 L0) 9 176 [.sl .group a0,Ak .write a1] 0 []=some (1,Yx a0 a1,0,Yw a0 a1,[]):=by kernel_rfl
set_option maxRecDepth 100000 in
theorem Bh8 (a0:List TGroup) (a1:TWrite) (_hp:∀p∈Akj a0 a1,p):CallOk Try.prog 176 [.sl .group a0,Ak .write a1] 0 [] 1 (Yx a0 a1) 0 (Yw a0 a1):=by
 exact AH (Ax Bda AG) (Bbn a0 a1) Ab
def Yy:List A→Nat→Objs→Option A9
 | [y0,y1],nx,o=>match Jt .group y0,AQ .write y1 with
  |some a0,some (a1,p1)=>some (1,(Yx a0 a1).pk (AC nx),nx+0,AB nx (Yw a0 a1)++o,p1++(Akj a0 a1))
  |_,_=>none
 |_,_,_=>none
theorem A45:EV Try.prog 176 Yy:=fun args nx o k x nx' o' ps h=>by
 unfold Yy at h
 split at h<;>first|(cases h;done)|skip
 split at h<;>first|(cases h;done)|skip
 rename_i a0 a1 p1 e0 e1
 cases h
 refine⟨fun hp=>?_,_,rfl⟩
 have q1:=fun p hm=>hp p (List.mem_append.2 (.inl hm))
 have r1:=fun p hm=>hp p (List.mem_append.2 (.inr hm))
 refine Ah (Ag (Bh8 a0 a1 r1) (Nat.le_refl _) (Ac rfl (Ac (Af _ _) An)) nx o) fun F N R vs hl=>?_
 obtain⟨v0,w0,rfl,h0,hl⟩:=hl.inv
 obtain⟨v1,w1,rfl,h1,hl⟩:=hl.inv
 exact HL.cons (BL e0 h0) (HL.cons (Am e1 q1 h1) (hl))
noncomputable def B06:=A7 176 Yy Bs0
theorem Bs1:CU Try.prog B06:=Aw A45 Bda
noncomputable def Bs2:=A7 36 Zd B06
theorem Bdb:CU Try.prog Bs2:=Aw Apz Bs1
def Jp (a0:Int) (_a1:TStamp) (_a2:TVec) (a3:Bool) (_a4:ByteArray):Bool:=a0==(2:Int)&&a3
def Jo (_a0:Int) (_a1:TStamp) (_a2:TVec) (_a3:Bool) (a4:ByteArray):Bool:=decide ((↑a4.size:Int) >(64:Int))
def Ix (a0:Int) (a1:TStamp) (a2:TVec) (a3:Bool) (a4:ByteArray):Bool:=a0 !=(1:Int)&&a0 !=(2:Int)||!Hz a1||a1.1==(0:Int)||!E2 a2||a3&&!a4.toList==(ByteArray.mk #[]).toList
def JX (a0:Int) (a1:TStamp) (a2:TVec) (a3:Bool) (a4:ByteArray):TCell:=TCell.mk (TStamp.mk (bif(Ix a0 a1 a2 a3 a4) then(0:Int) else bif(Jo a0 a1 a2 a3 a4) then(0:Int) else bif(Jp a0 a1 a2 a3 a4) then(0:Int) else a1.1) (bif(Ix a0 a1 a2 a3 a4) then(0:Int) else bif(Jo a0 a1 a2 a3 a4) then(0:Int) else bif(Jp a0 a1 a2 a3 a4) then(0:Int) else a1.2)) (TVec.mk (bif(Ix a0 a1 a2 a3 a4) then(0:Int) else bif(Jo a0 a1 a2 a3 a4) then(0:Int) else bif(Jp a0 a1 a2 a3 a4) then(0:Int) else a2.1) (bif(Ix a0 a1 a2 a3 a4) then(0:Int) else bif(Jo a0 a1 a2 a3 a4) then(0:Int) else bif(Jp a0 a1 a2 a3 a4) then(0:Int) else a2.2)) (bif(Ix a0 a1 a2 a3 a4) then false else bif(Jo a0 a1 a2 a3 a4) then false else bif(Jp a0 a1 a2 a3 a4) then false else a3) (bif(Ix a0 a1 a2 a3 a4) then ByteArray.mk #[] else bif(Jo a0 a1 a2 a3 a4) then ByteArray.mk #[] else bif(Jp a0 a1 a2 a3 a4) then ByteArray.mk #[] else a4) (TVec.mk (bif(Ix a0 a1 a2 a3 a4) then(0:Int) else bif(Jo a0 a1 a2 a3 a4) then(0:Int) else bif(Jp a0 a1 a2 a3 a4) then a2.1 else(0:Int)) (bif(Ix a0 a1 a2 a3 a4) then(0:Int) else bif(Jo a0 a1 a2 a3 a4) then(0:Int) else bif(Jp a0 a1 a2 a3 a4) then a2.2 else(0:Int)))
def Bwo (a0:Int) (a1:TStamp) (a2:TVec) (a3:Bool) (a4:ByteArray):Int:=bif(Ix a0 a1 a2 a3 a4) then(2:Int) else bif(Jo a0 a1 a2 a3 a4) then(3:Int) else bif(Jp a0 a1 a2 a3 a4) then(0:Int) else(0:Int)
def A0t (a0:Int) (a1:TStamp) (a2:TVec) (a3:Bool) (a4:ByteArray):A:=.v (.tuple ⟨[.agg ⟨[.int .i64 ((JX a0 a1 a2 a3 a4).stamp.n),.int .i64 ((JX a0 a1 a2 a3 a4).stamp.site),.int .i64 ((JX a0 a1 a2 a3 a4).vec.a),.int .i64 ((JX a0 a1 a2 a3 a4).vec.b),.bool ((JX a0 a1 a2 a3 a4).gone),.string ((JX a0 a1 a2 a3 a4).value),.int .i64 ((JX a0 a1 a2 a3 a4).dead.a),.int .i64 ((JX a0 a1 a2 a3 a4).dead.b)]⟩,.int .i64 (Bwo a0 a1 a2 a3 a4)]⟩)
def A0s (_a0:Int) (_a1:TStamp) (_a2:TVec) (_a3:Bool) (_a4:ByteArray):Objs:=[]
def A67 (_a0:Int) (_a1:TStamp) (_a2:TVec) (_a3:Bool) (_a4:ByteArray):List Prop:=[]
set_option maxRecDepth 100000 in
theorem Brg (a0:Int) (a1:TStamp) (a2:TVec) (a3:Bool) (a4:ByteArray):ER (AA Bs2 L0) 9 37 [Ak .i64 a0,Ak .stamp a1,Ak .vec a2,Ak .bool a3,Ak .str a4] 0 []=some (1,A0t a0 a1 a2 a3 a4,0,A0s a0 a1 a2 a3 a4,[]):=by kernel_rfl
set_option maxRecDepth 100000 in
theorem Bwp (a0:Int) (a1:TStamp) (a2:TVec) (a3:Bool) (a4:ByteArray) (_hp:∀p∈A67 a0 a1 a2 a3 a4,p):CallOk Try.prog 37 [Ak .i64 a0,Ak .stamp a1,Ak .vec a2,Ak .bool a3,Ak .str a4] 0 [] 1 (A0t a0 a1 a2 a3 a4) 0 (A0s a0 a1 a2 a3 a4):=by
 exact AH (Ax Bdb AG) (Brg a0 a1 a2 a3 a4) Ab
def A0u:List A→Nat→Objs→Option A9
 | [y0,y1,y2,y3,y4],nx,o=>match AQ .i64 y0,AQ .stamp y1,AQ .vec y2,AQ .bool y3,AQ .str y4 with
  |some (a0,p0),some (a1,p1),some (a2,p2),some (a3,p3),some (a4,p4)=>some (1,(A0t a0 a1 a2 a3 a4).pk (AC nx),nx+0,AB nx (A0s a0 a1 a2 a3 a4)++o,p0++(p1++(p2++(p3++(p4++(A67 a0 a1 a2 a3 a4))))))
  |_,_,_,_,_=>none
 |_,_,_=>none
theorem Blf:EV Try.prog 37 A0u:=fun args nx o k x nx' o' ps h=>by
 unfold A0u at h
 split at h<;>first|(cases h;done)|skip
 split at h<;>first|(cases h;done)|skip
 rename_i a0 p0 a1 p1 a2 p2 a3 p3 a4 p4 e0 e1 e2 e3 e4
 cases h
 refine⟨fun hp=>?_,_,rfl⟩
 have q0:=fun p hm=>hp p (List.mem_append.2 (.inl hm))
 have r0:=fun p hm=>hp p (List.mem_append.2 (.inr hm))
 have q1:=fun p hm=>r0 p (List.mem_append.2 (.inl hm))
 have r1:=fun p hm=>r0 p (List.mem_append.2 (.inr hm))
 have q2:=fun p hm=>r1 p (List.mem_append.2 (.inl hm))
 have r2:=fun p hm=>r1 p (List.mem_append.2 (.inr hm))
 have q3:=fun p hm=>r2 p (List.mem_append.2 (.inl hm))
 have r3:=fun p hm=>r2 p (List.mem_append.2 (.inr hm))
 have q4:=fun p hm=>r3 p (List.mem_append.2 (.inl hm))
 have r4:=fun p hm=>r3 p (List.mem_append.2 (.inr hm))
 refine Ah (Ag (Bwp a0 a1 a2 a3 a4 r4) (Nat.le_refl _) (Ac (Af _ _) (Ac (Af _ _) (Ac (Af _ _) (Ac (Af _ _) (Ac (Af _ _) An))))) nx o) fun F N R vs hl=>?_
 obtain⟨v0,w0,rfl,h0,hl⟩:=hl.inv
 obtain⟨v1,w1,rfl,h1,hl⟩:=hl.inv
 obtain⟨v2,w2,rfl,h2,hl⟩:=hl.inv
 obtain⟨v3,w3,rfl,h3,hl⟩:=hl.inv
 obtain⟨v4,w4,rfl,h4,hl⟩:=hl.inv
 exact HL.cons (Am e0 q0 h0) (HL.cons (Am e1 q1 h1) (HL.cons (Am e2 q2 h2) (HL.cons (Am e3 q3 h3) (HL.cons (Am e4 q4 h4) (hl)))))
noncomputable def Bdc:=A7 37 A0u Bs2
theorem Awm:CU Try.prog Bdc:=Aw Blf Bdb
abbrev BD:Type:=(List TGroup)×(List TWrite)×Int×Int×TChange
def Kf (x:BD):St:=⟨132,1,[(0,.sl .group x.1),(3,.own 0 0),(73,.sl .write x.2.1),(74,.v (.int .i64 x.2.2.1)),(75,.v (.int .i64 x.2.2.2.1))],[(0,some (.box 136 [.v (.int .i64 x.2.2.2.2.site),.v (.int .i64 x.2.2.2.2.seq),.v (.int .i64 x.2.2.2.2.stamp.n),.v (.int .i64 x.2.2.2.2.stamp.site),.v (.int .i64 x.2.2.2.2.vec.a),.v (.int .i64 x.2.2.2.2.vec.b),.sl .write x.2.2.2.2.writes]))]⟩
def Ln:St→Option BD
 |⟨132,1,[(0,.sl .group z0),(3,.own 0 0),(73,.sl .write z1),(74,.v (.int .i64 z2)),(75,.v (.int .i64 z3))],[(0,some (.box 136 [.v (.int .i64 z4),.v (.int .i64 z5),.v (.int .i64 z6),.v (.int .i64 z7),.v (.int .i64 z8),.v (.int .i64 z9),.sl .write z10]))]⟩=>some (z0,z1,z2,z3,⟨z4,z5,⟨z6,z7⟩,⟨z8,z9⟩,z10⟩)
 |_=>none
theorem ZK:∀s x,Ln s=some x→s=Kf x:=fun s x h=>by
 unfold Ln at h
 split at h
 ·cases h;rfl
 ·cases h
def Sk:CX:=⟨1,1,[0,3,73,74,75],[],[(0,0)],[0],[4],[0]⟩
def Als:Dp:=⟨[],[(0,0)],[0,3,73,74,75],[0]⟩
def EA (_a0:List TGroup) (_a1:List TWrite) (_a2:Int) (a3:Int) (_a4:TChange):Int:=IntKind.i64.wrap (a3 - (1:Int))
def Gt (a0:List TGroup) (a1:List TWrite) (_a2:Int) (a3:Int) (_a4:TChange):Bool:=(a1.getD a3.toNat (Ae TC.write)).1.toList==(ByteArray.mk #[]).toList||decide ((↑(a1.getD a3.toNat (Ae TC.write)).1.size:Int) >(32:Int))||decide ((a1.getD a3.toNat (Ae TC.write)).2 <(0:Int))||decide ((a1.getD a3.toNat (Ae TC.write)).2≥(↑a0.length:Int))||decide ((↑(a1.getD a3.toNat (Ae TC.write)).4.size:Int) >(64:Int))||(a1.getD a3.toNat (Ae TC.write)).3&&!(a1.getD a3.toNat (Ae TC.write)).4.toList==(ByteArray.mk #[]).toList
def CJ (a0:List TGroup) (a1:List TWrite) (a2:Int) (a3:Int) (a4:TChange):Bool:=!!decide (a3 <a2)&&((Gt a0 a1 a2 a3 a4)||decide (a3 >(0:Int))&&!HW (JL (a4.5.getD (EA a0 a1 a2 a3 a4).toNat (Ae TC.write))) (JL (a1.getD a3.toNat (Ae TC.write))))
def Acy (a0:List TGroup) (a1:List TWrite) (a2:Int) (a3:Int) (a4:TChange):Bool:=!!decide (a3 <a2)&&!(CJ a0 a1 a2 a3 a4)
def NP (a0:List TGroup) (a1:List TWrite) (a2:Int) (a3:Int) (a4:TChange):Int:=bif(Gt a0 a1 a2 a3 a4) then(120:Int) else(120:Int)
def EC (x:BD):BD:=(x.1,x.2.1,x.2.2.1,IntKind.i64.wrap (x.2.2.2.1+(1:Int)),x.2.2.2.2)
def EB (x:BD):Cnd:=some (Acy x.1 x.2.1 x.2.2.1 x.2.2.2.1 x.2.2.2.2)
def OJ (x:BD):List Prop:=[((!!decide (x.2.2.2.1 <x.2.2.1))=true→(0:Int)≤x.2.2.2.1∧x.2.2.2.1 <(↑x.2.1.length:Int)),((!!decide (x.2.2.2.1 <x.2.2.1))=true→(!(Gt x.1 x.2.1 x.2.2.1 x.2.2.2.1 x.2.2.2.2))=true→decide (x.2.2.2.1 >(0:Int))=true→(0:Int)≤(EA x.1 x.2.1 x.2.2.1 x.2.2.2.1 x.2.2.2.2)∧(EA x.1 x.2.1 x.2.2.1 x.2.2.2.1 x.2.2.2.2) <(↑x.2.2.2.2.5.length:Int))]
def HV (x:BD):List Prop:=[((!!decide (x.2.2.2.1 <x.2.2.1))=true→(0:Int)≤x.2.2.2.1∧x.2.2.2.1 <(↑x.2.1.length:Int)),((!!decide (x.2.2.2.1 <x.2.2.1))=true→(!(Gt x.1 x.2.1 x.2.2.1 x.2.2.2.1 x.2.2.2.2))=true→decide (x.2.2.2.1 >(0:Int))=true→(0:Int)≤(EA x.1 x.2.1 x.2.2.1 x.2.2.2.1 x.2.2.2.2)∧(EA x.1 x.2.1 x.2.2.1 x.2.2.2.1 x.2.2.2.2) <(↑x.2.2.2.2.5.length:Int))]
def NQ (x:BD):Bo:=[(some 0,some (!decide (x.2.2.2.1 <x.2.2.1)),⟨132,1,[(4,.dead)],[(0,some (.box 136 [.v (.int .i64 x.2.2.2.2.1),.v (.int .i64 x.2.2.2.2.2),.v (.int .i64 x.2.2.2.2.3.1),.v (.int .i64 x.2.2.2.2.3.2),.v (.int .i64 x.2.2.2.2.4.1),.v (.int .i64 x.2.2.2.2.4.2),.sl .write x.2.2.2.2.5]))]⟩),(none,some ((CJ x.1 x.2.1 x.2.2.1 x.2.2.2.1 x.2.2.2.2)),⟨132,2,[(4,.v (.int .i64 (NP x.1 x.2.1 x.2.2.1 x.2.2.2.1 x.2.2.2.2)))],[(0,some (.box 136 [.v (.int .i64 x.2.2.2.2.1),.v (.int .i64 x.2.2.2.2.2),.v (.int .i64 x.2.2.2.2.3.1),.v (.int .i64 x.2.2.2.2.3.2),.v (.int .i64 x.2.2.2.2.4.1),.v (.int .i64 x.2.2.2.2.4.2),.sl .write x.2.2.2.2.5]))]⟩)]
def Gu (x:BD):Nat:=(x.2.2.1 - x.2.2.2.1).toNat
def EW (x:BD):BD:=Bc EC EB (Gu x) x
set_option maxRecDepth 100000 in
theorem Ag8 (a0:List TGroup) (a1:List TWrite) (a2:Int) (a3:Int) (a4:TChange):By (AA Bdc L0) 9 (Aj Try.prog 169 0) Sk (Kf (a0,a1,a2,a3,a4))=some (OJ (a0,a1,a2,a3,a4),NQ (a0,a1,a2,a3,a4),EB (a0,a1,a2,a3,a4),Kf (EC (a0,a1,a2,a3,a4))):=by kernel_rfl
set_option maxRecDepth 100000 in
theorem Ag9 (a0:List TGroup) (a1:List TWrite) (a2:Int) (a3:Int) (a4:TChange) (hp:∀p∈HV (a0,a1,a2,a3,a4),p):∀p∈OJ (a0,a1,a2,a3,a4),p:=by
 have n0:=N0 hp
 have n1:=N0 (N1 hp)
 exact(Aa n0 (Aa n1 Ab))
noncomputable def OK:=HF (AA Bdc L0) (Aj Try.prog 169 0) Sk Als Ln Gu EC EB HV NQ
theorem Acz:∀s b ps outs,OK s=some (b,ps,outs)→Wf s ⟨ps,outs,none⟩∧Br (AA C0 L0) b s ps outs:=
 Bh (T:=Kf) Awm AG (u:=9) (by kernel_rfl) (by decide) (fun⟨a0,a1,a2,a3,a4⟩=>Ag8 a0 a1 a2 a3 a4) (fun⟨a0,a1,a2,a3,a4⟩=>Ag9 a0 a1 a2 a3 a4) ZK (fun _=>AU (n:=132) rfl) fun _ _=>rfl
noncomputable def Sj:=Dz 0 OK L0
theorem Acx:Hf Sj:=A5 Acz AG
def DJ (a0:List TGroup) (_a1:TChange):Bool:=AX a0 !=(0:Int)
def DI (_a0:List TGroup) (a1:TChange):Int:=IntKind.i64.wrap (a1.1 - (1:Int))
def OI (a0:List TGroup) (a1:TChange):List TGroup:=(EW (a0,a1.5,(↑a1.5.length:Int),(0:Int),a1)).fst
def Hk (_a0:List TGroup) (a1:TChange):Bool:=decide ((↑a1.5.length:Int) <(1:Int))||decide ((↑a1.5.length:Int) >(8:Int))
def OH (a0:List TGroup) (a1:TChange):List TWrite:=(EW (a0,a1.5,(↑a1.5.length:Int),(0:Int),a1)).snd.fst
def OG (a0:List TGroup) (a1:TChange):Int:=(EW (a0,a1.5,(↑a1.5.length:Int),(0:Int),a1)).snd.snd.fst
def OF (a0:List TGroup) (a1:TChange):TChange:=(EW (a0,a1.5,(↑a1.5.length:Int),(0:Int),a1)).snd.snd.snd.snd
def OE (a0:List TGroup) (a1:TChange):Int:=(EW (a0,a1.5,(↑a1.5.length:Int),(0:Int),a1)).snd.snd.snd.fst
def Hj (a0:List TGroup) (a1:TChange):Bool:=a1.1 !=(1:Int)&&a1.1 !=(2:Int)||decide (a1.2 <(1:Int))||decide (a1.2 >(1099511627776:Int))||a1.3.2 !=a1.1||!Co a1.3||!Bz a1.4||(bif(DI a0 a1).toNat.beq (0:Nat) then a1.4.1 else a1.4.2) !=a1.2
def Rf (a0:List TGroup) (a1:TChange):Int:=bif(DJ a0 a1) then AX a0 else bif(Hj a0 a1) then(120:Int) else bif(Hk a0 a1) then(120:Int) else bif CJ (OI a0 a1) (OH a0 a1) (OG a0 a1) (OE a0 a1) (OF a0 a1) then NP (OI a0 a1) (OH a0 a1) (OG a0 a1) (OE a0 a1) (OF a0 a1) else(0:Int)
def Rg (a0:List TGroup) (a1:TChange):A:=.v (.int .i64 (Rf a0 a1))
def Aae (_a0:List TGroup) (_a1:TChange):Objs:=[]
def Wt (a0:List TGroup) (a1:TChange):List Prop:=[((!(DJ a0 a1))=true→(a1.1 !=(1:Int)&&a1.1 !=(2:Int)||decide (a1.2 <(1:Int))||decide (a1.2 >(1099511627776:Int))||a1.3.2 !=a1.1||!Co a1.3||!Bz a1.4)=false→(0:Int)≤(DI a0 a1)∧(DI a0 a1) <(2:Int)),((!(DJ a0 a1))=true→(!(Hj a0 a1))=true→(!(Hk a0 a1))=true→AK EC EB HV (Gu (a0,a1.5,(↑a1.5.length:Int),(0:Int),a1)) (a0,a1.5,(↑a1.5.length:Int),(0:Int),a1))]
set_option maxRecDepth 100000 in
theorem Axi (a0:List TGroup) (a1:TChange):ER (AA Bdc Sj) 9 169 [.sl .group a0,Ak .change a1] 0 []=some (1,Rg a0 a1,0,Aae a0 a1,[((!(DJ a0 a1))=true→(a1.1 !=(1:Int)&&a1.1 !=(2:Int)||decide (a1.2 <(1:Int))||decide (a1.2 >(1099511627776:Int))||a1.3.2 !=a1.1||!Co a1.3||!Bz a1.4)=false→(0:Int)≤(DI a0 a1)∧(DI a0 a1) <(2:Int)),((!(DJ a0 a1))=true→(a1.1 !=(1:Int)&&a1.1 !=(2:Int)||decide (a1.2 <(1:Int))||decide (a1.2 >(1099511627776:Int))||a1.3.2 !=a1.1||!Co a1.3||!Bz a1.4)=false→(DI a0 a1).toNat <(2:Nat)),((!(DJ a0 a1))=true→(!(Hj a0 a1))=true→(!(Hk a0 a1))=true→Aj Try.prog (169:FuncId) (0:Nat)=Aj Try.prog (169:FuncId) (0:Nat)),((!(DJ a0 a1))=true→(!(Hj a0 a1))=true→(!(Hk a0 a1))=true→AK EC EB HV (Gu (a0,a1.5,(↑a1.5.length:Int),(0:Int),a1)) (a0,a1.5,(↑a1.5.length:Int),(0:Int),a1))]):=by kernel_rfl
set_option maxRecDepth 100000 in
theorem A3i (a0:List TGroup) (a1:TChange) (hp:∀p∈Wt a0 a1,p):CallOk Try.prog 169 [.sl .group a0,Ak .change a1] 0 [] 1 (Rg a0 a1) 0 (Aae a0 a1):=by
 have n0:((!(DJ a0 a1))=true→(a1.1 !=(1:Int)&&a1.1 !=(2:Int)||decide (a1.2 <(1:Int))||decide (a1.2 >(1099511627776:Int))||a1.3.2 !=a1.1||!Co a1.3||!Bz a1.4)=false→(0:Int)≤(DI a0 a1)∧(DI a0 a1) <(2:Int)):=N0 hp
 have n1:((!(DJ a0 a1))=true→(a1.1 !=(1:Int)&&a1.1 !=(2:Int)||decide (a1.2 <(1:Int))||decide (a1.2 >(1099511627776:Int))||a1.3.2 !=a1.1||!Co a1.3||!Bz a1.4)=false→(DI a0 a1).toNat <(2:Nat)):=by intro h0 h1;have g:=n0 h0 h1;omega
 have n2:((!(DJ a0 a1))=true→(!(Hj a0 a1))=true→(!(Hk a0 a1))=true→Aj Try.prog (169:FuncId) (0:Nat)=Aj Try.prog (169:FuncId) (0:Nat)):=by intros;rfl
 have n3:=N0 (N1 hp)
 exact AH (Ax Awm Acx) (Axi a0 a1) (Aa n0 (Aa n1 (Aa n2 (Aa n3 Ab))))
def Wu (a0:List TGroup) (a1:TChange):A:=.v (.int .i64 (Kx a0 a1))
def Ws (_a0:List TGroup) (_a1:TChange):Objs:=[]
def UX (_a0:List TGroup) (a1:TChange):List Prop:=[Av a1.writes.length]
theorem Bwy {c:TChange} (h:c.site=1∨c.site=2):(bif(IntKind.i64.wrap (c.site - 1)).toNat.beq 0 then c.vec.a else c.vec.b)=bif c.site==1 then c.vec.a else c.vec.b:=by
 rcases h with h|h<;>rw[h]<;>rfl
theorem Bp0 {c:TChange} (h:c.site=1∨c.site=2):(0:Int)≤IntKind.i64.wrap (c.site - 1)∧IntKind.i64.wrap (c.site - 1) <(2:Int):=by
 rcases h with h|h<;>rw[h]<;>decide
theorem Bzr {n:Int}:(n !=1&&n !=2)=false↔n=1∨n=2:=by
 constructor
 ·intro h
  rcases Decidable.em (n=1) with e|e
  ·exact .inl e
  ·rcases Decidable.em (n=2) with e2|e2
   ·exact .inr e2
   ·have h1:(n !=1)=true:=bne_iff_ne.2 e
    have h2:(n !=2)=true:=bne_iff_ne.2 e2
    rw[h1,h2] at h
    cases h
 ·rintro(rfl|rfl)<;>rfl
theorem Bo4 (c:TChange):Ib c=!(c.site !=1&&c.site !=2||decide (c.seq <1)||decide (c.seq >1099511627776)||c.stamp.site !=c.site||!Ih c.stamp||!CO c.vec||(bif(IntKind.i64.wrap (c.site - 1)).toNat.beq 0 then c.vec.a else c.vec.b) !=c.seq):=by
 unfold Ib
 cases h:c.site !=1&&c.site !=2 with
 |true=>
  rw[Bool.and_eq_true,bne_iff_ne,bne_iff_ne] at h
  rw[beq_eq_false_iff_ne.2 h.1,beq_eq_false_iff_ne.2 h.2]
  rfl
 | false=>
  have hs:=Bzr.1 h
  have h1:(c.site==1||c.site==2)=true:=by rcases hs with e|e<;>rw[e]<;>rfl
  have h2:decide (c.seq <1)=!decide (1≤c.seq):=by
   rw[←decide_not];exact decide_eq_decide.2 (by omega)
  have h3:decide (c.seq >1099511627776)=!decide (c.seq≤1099511627776):=by
   rw[←decide_not];exact decide_eq_decide.2 (by omega)
  rw[h1,Bwy hs,h2,h3]
  unfold bne
  cases decide (1≤c.seq)<;>cases decide (c.seq≤1099511627776)<;>cases c.stamp.site==c.site<;>cases Ih c.stamp<;>cases CO c.vec<;>simp
theorem B0z (l:List TGroup) (w:TWrite):(w.1.toList==(ByteArray.mk #[]).toList||decide ((w.1.size:Int) >(32:Int))||decide (w.2 <(0:Int))||decide (w.2≥(l.length:Int))||decide ((w.4.size:Int) >(64:Int))||w.3&&!w.4.toList==(ByteArray.mk #[]).toList)=!TM l w:=by
 have e1:(w.1.toList==(ByteArray.mk #[]).toList)=(w.key.size==0):=RJ _
 have e2:(w.4.toList==(ByteArray.mk #[]).toList)=(w.value.size==0):=RJ _
 have h1:decide ((w.1.size:Int) >(32:Int))=!decide (w.key.size≤32):=by rw[←decide_not];exact decide_eq_decide.2 (by omega)
 have h2:decide (w.2 <(0:Int))=!decide (0≤w.group):=by rw[←decide_not];exact decide_eq_decide.2 (by omega)
 have h3:decide (w.2≥(l.length:Int))=!decide (w.group <(l.length:Int)):=by rw[←decide_not];exact decide_eq_decide.2 (by omega)
 have h4:decide ((w.4.size:Int) >(64:Int))=!decide (w.value.size≤64):=by rw[←decide_not];exact decide_eq_decide.2 (by omega)
 rw[e1,e2,h1,h2,h3,h4]
 unfold TM
 cases w.key.size==0<;>cases decide (w.key.size≤32)<;>cases decide (0≤w.group)<;>cases decide (w.group <(l.length:Int))<;>cases decide (w.value.size≤64)<;>cases w.gone<;>cases w.value.size==0<;>rfl
theorem Bt6 (a b:TWrite):HW (JL a) (JL b)=Ra a b:=by
 unfold HW JL Ra Ii
 rw[←tlb]
theorem Bov (l:List TGroup) (c:TChange) (i:Nat) (hi:i≤9223372036854775807):CJ l c.writes (c.writes.length:Int) (i:Int) c=(decide (i <c.writes.length)&&Qb l c.writes i):=by
 have e:CJ l c.writes (c.writes.length:Int) (i:Int) c=(decide (i <c.writes.length)&&(!TM l (wN c.writes i)||decide ((i:Int) >0)&&!Ra (wN c.writes (IntKind.i64.wrap ((i:Int) - 1)).toNat) (wN c.writes i))):=by
  unfold CJ Gt EA
  rw[nn,Me,Int.toNat_natCast,Bt6,B0z]
  rfl
 rw[e]
 unfold Qb
 cases i with
 |zero=>rfl
 |succ j=>
  have h1:(IntKind.i64.wrap (((j+1:Nat):Int) - 1)).toNat=j+1 - 1:=by rw[i64_in (by omega)];omega
  have h2:decide (((j+1:Nat):Int) >0)=decide (0 <j+1):=decide_eq_decide.2 (by omega)
  rw[h1,h2]
theorem Wr (l:List TGroup) (c:TChange) (hb:Av c.writes.length):(∀p∈Wt l c,p)∧Rf l c=Kx l c:=by
 unfold Av at hb
 obtain⟨h1,k,hk,hx,_,_,hb'⟩:=IN (fun i=>((l,c.writes,(c.writes.length:Int),(i:Int),c):BD)) c.writes.length (fun i=>Qb l c.writes i) EC EB HV (Gu (l,c.writes,(c.writes.length:Int),0,c)) (l,c.writes,(c.writes.length:Int),0,c) rfl (by show c.writes.length≤((c.writes.length:Int) - 0).toNat;omega)
  (fun i hi _=>by
   show((!!decide ((i:Int) <(c.writes.length:Int)))&&!CJ l c.writes (c.writes.length:Int) (i:Int) c)=_
   rw[Bov l c i (by omega),nn,Me]
   cases decide (i <c.writes.length)<;>rfl)
  (fun i hi _=>by
   show(l,c.writes,(c.writes.length:Int),IntKind.i64.wrap ((i:Int)+1),c)=(l,c.writes,(c.writes.length:Int),((i+1:Nat):Int),c)
   rw[EQ (by omega)])
  (fun i hi _=>by
   have hin:(!!decide ((i:Int) <(c.writes.length:Int)))=true→(i:Int) <(c.writes.length:Int):=fun h=>by rw[nn] at h;exact of_decide_eq_true h
   refine Aa (fun h=>⟨by show(0:Int)≤(i:Int);omega,hin h⟩) (Aa (fun h _ h3=>?_) Ab)
   have h4:(i:Int) >0:=of_decide_eq_true h3
   have h5:=hin h
   show(0:Int)≤IntKind.i64.wrap ((i:Int) - 1)∧IntKind.i64.wrap ((i:Int) - 1) <(c.writes.length:Int)
   rw[i64_in (by omega)]
   omega)
 have hr:EW (l,c.writes,(c.writes.length:Int),0,c)=(l,c.writes,(c.writes.length:Int),(k:Int),c):=hx
 refine⟨Aa (fun _ h=>Bp0 (Bzr.1 (by
  cases hs:c.site !=1&&c.site !=2 with
  |false=>rfl
  |true=>
   have h':(c.site !=(1:Int)&&c.site !=(2:Int)||decide (c.seq <(1:Int))||decide (c.seq >(1099511627776:Int))||c.stamp.site !=c.site||!Co c.stamp||!Bz c.vec)=false:=h
   rw[hs] at h'
   simp at h'))) (Aa (fun _ _ _=>h1) Ab),?_⟩
 unfold Rf Kx
 show(bif AX l !=0 then AX l else _)=_
 congr 1
 have e0:Hj l c=!Ib c:=by
  rw[Bo4,Bool.not_not]
  unfold Hj DI
  rw[KL,Lh]
 have e5:Hk l c=!Ajg c:=by
  unfold Hk Ajg
  have h2:decide ((c.writes.length:Int) <(1:Int))=!decide (1≤c.writes.length):=by rw[←decide_not];exact decide_eq_decide.2 (by omega)
  have h3:decide ((c.writes.length:Int) >(8:Int))=!decide (c.writes.length≤8):=by rw[←decide_not];exact decide_eq_decide.2 (by omega)
  have h2':decide ((c.5.length:Int) <(1:Int))=!decide (1≤c.writes.length):=h2
  have h3':decide ((c.5.length:Int) >(8:Int))=!decide (c.writes.length≤8):=h3
  rw[h2',h3']
  cases decide (1≤c.writes.length)<;>cases decide (c.writes.length≤8)<;>rfl
 rw[e0,e5]
 unfold OI OH OG OE OF
 rw[hr]
 show(bif !Ib c then 120 else bif !Ajg c then 120 else bif CJ l c.writes (c.writes.length:Int) (k:Int) c then(bif _ then(120:Int) else 120) else 0)=_
 rw[Bov l c k (Nat.le_trans hk hb),hb']
 have hc:∀b:Bool,(bif b then(120:Int) else 120)=120:=fun b=>by cases b<;>rfl
 rw[hc]
 cases Ib c<;>cases Ajg c<;>cases JH c.writes.length (fun i=>!Qb l c.writes i)<;>rfl
theorem Axh (a0:List TGroup) (a1:TChange) (hp:∀p∈UX a0 a1,p):CallOk Try.prog 169 [.sl .group a0,Ak .change a1] 0 [] 1 (Wu a0 a1) 0 (Ws a0 a1):=by
 have hb:Av a1.writes.length:=hp _ (List.mem_cons_self ..)
 have h:=A3i a0 a1 (Wr a0 a1 hb).1
 unfold Rg at h
 rw[(Wr a0 a1 hb).2] at h
 exact h
def Rh:List A→Nat→Objs→Option A9
 | [y0,y1],nx,o=>match Jt .group y0,AQ .change y1 with
  |some a0,some (a1,p1)=>some (1,(Wu a0 a1).pk (AC nx),nx+0,AB nx (Ws a0 a1)++o,p1++(UX a0 a1))
  |_,_=>none
 |_,_,_=>none
theorem Atc:EV Try.prog 169 Rh:=fun args nx o k x nx' o' ps h=>by
 unfold Rh at h
 split at h<;>first|(cases h;done)|skip
 split at h<;>first|(cases h;done)|skip
 rename_i a0 a1 p1 e0 e1
 cases h
 refine⟨fun hp=>?_,_,rfl⟩
 have q1:=fun p hm=>hp p (List.mem_append.2 (.inl hm))
 have r1:=fun p hm=>hp p (List.mem_append.2 (.inr hm))
 refine Ah (Ag (Axh a0 a1 r1) (Nat.le_refl _) (Ac rfl (Ac (Af _ _) An)) nx o) fun F N R vs hl=>?_
 obtain⟨v0,w0,rfl,h0,hl⟩:=hl.inv
 obtain⟨v1,w1,rfl,h1,hl⟩:=hl.inv
 exact HL.cons (BL e0 h0) (HL.cons (Am e1 q1 h1) (hl))
noncomputable def Bdd:=A7 169 Rh Bdc
theorem Awn:CU Try.prog Bdd:=Aw Atc Awm
abbrev CH:Type:=(List TGroup)×Int×TChange
def MY (x:CH):St:=⟨107,1,[(0,.sl .group x.1),(3,.own 0 0),(6,.v (.int .i64 x.2.1))],[(0,some (.box 136 [.v (.int .i64 x.2.2.site),.v (.int .i64 x.2.2.seq),.v (.int .i64 x.2.2.stamp.n),.v (.int .i64 x.2.2.stamp.site),.v (.int .i64 x.2.2.vec.a),.v (.int .i64 x.2.2.vec.b),.sl .write x.2.2.writes]))]⟩
def PO:St→Option CH
 |⟨107,1,[(0,.sl .group z0),(3,.own 0 0),(6,.v (.int .i64 z1))],[(0,some (.box 136 [.v (.int .i64 z2),.v (.int .i64 z3),.v (.int .i64 z4),.v (.int .i64 z5),.v (.int .i64 z6),.v (.int .i64 z7),.sl .write z8]))]⟩=>some (z0,z1,⟨z2,z3,⟨z4,z5⟩,⟨z6,z7⟩,z8⟩)
 |_=>none
theorem Aov:∀s x,PO s=some x→s=MY x:=fun s x h=>by
 unfold PO at h
 split at h
 ·cases h;rfl
 ·cases h
def Abu:CX:=⟨1,1,[0,3,6],[],[(0,0)],[0],[4],[0]⟩
def A42:Dp:=⟨[],[(0,0)],[0,3,6],[0]⟩
def G4 (_a0:List TGroup) (a1:Int) (_a2:TChange):Int:=IntKind.i64.wrap (a1 - (1:Int))
def Dn (_a0:List TGroup) (a1:Int) (a2:TChange):Bool:=!!decide (a1 <(↑a2.5.length:Int))
def D7 (a0:List TGroup) (a1:Int) (a2:TChange):Bool:=(Dn a0 a1 a2)&&(!IW a0 (a2.5.getD a1.toNat (Ae TC.write))||decide (a1 >(0:Int))&&!QV (a2.5.getD (G4 a0 a1 a2).toNat (Ae TC.write)) (a2.5.getD a1.toNat (Ae TC.write)))
def Avf (a0:List TGroup) (a1:Int) (a2:TChange):Bool:=(Dn a0 a1 a2)&&!(D7 a0 a1 a2)
def G6 (x:CH):CH:=(x.1,IntKind.i64.wrap (x.2.1+(1:Int)),x.2.2)
def G5 (x:CH):Cnd:=some (Avf x.1 x.2.1 x.2.2)
def VM (x:CH):List Prop:=[((Dn x.1 x.2.1 x.2.2)=true→(0:Int)≤x.2.1∧x.2.1 <(↑x.2.2.5.length:Int)),((Dn x.1 x.2.1 x.2.2)=true→decide (x.2.1 >(0:Int))=true→(!IW x.1 (x.2.2.5.getD x.2.1.toNat (Ae TC.write)))=false→(0:Int)≤(G4 x.1 x.2.1 x.2.2)∧(G4 x.1 x.2.1 x.2.2) <(↑x.2.2.5.length:Int)),((Dn x.1 x.2.1 x.2.2)=true→decide (x.2.1 >(0:Int))=true→(!IW x.1 (x.2.2.5.getD x.2.1.toNat (Ae TC.write)))=false→(0:Int)≤x.2.1∧x.2.1 <(↑x.2.2.5.length:Int))]
def J7 (x:CH):List Prop:=[((Dn x.1 x.2.1 x.2.2)=true→(0:Int)≤x.2.1∧x.2.1 <(↑x.2.2.5.length:Int)),((Dn x.1 x.2.1 x.2.2)=true→decide (x.2.1 >(0:Int))=true→(!IW x.1 (x.2.2.5.getD x.2.1.toNat (Ae TC.write)))=false→(0:Int)≤(G4 x.1 x.2.1 x.2.2)∧(G4 x.1 x.2.1 x.2.2) <(↑x.2.2.5.length:Int)),((Dn x.1 x.2.1 x.2.2)=true→decide (x.2.1 >(0:Int))=true→(!IW x.1 (x.2.2.5.getD x.2.1.toNat (Ae TC.write)))=false→(0:Int)≤x.2.1∧x.2.1 <(↑x.2.2.5.length:Int))]
def Tu (x:CH):Bo:=[(some 0,some (!decide (x.2.1 <(↑x.2.2.5.length:Int))),⟨107,1,[(4,.dead)],[(0,some (.box 136 [.v (.int .i64 x.2.2.1),.v (.int .i64 x.2.2.2),.v (.int .i64 x.2.2.3.1),.v (.int .i64 x.2.2.3.2),.v (.int .i64 x.2.2.4.1),.v (.int .i64 x.2.2.4.2),.sl .write x.2.2.5]))]⟩),(none,some ((D7 x.1 x.2.1 x.2.2)),⟨107,1,[(4,.v (.int .i64 ((120:Int))))],[(0,some (.box 136 [.v (.int .i64 x.2.2.1),.v (.int .i64 x.2.2.2),.v (.int .i64 x.2.2.3.1),.v (.int .i64 x.2.2.3.2),.v (.int .i64 x.2.2.4.1),.v (.int .i64 x.2.2.4.2),.sl .write x.2.2.5]))]⟩)]
def IF (x:CH):Nat:=((↑x.2.2.5.length:Int) - x.2.1).toNat
def Avh (x:CH):CH:=Bc G6 G5 (IF x) x
set_option maxRecDepth 100000 in
theorem A11 (a0:List TGroup) (a1:Int) (a2:TChange):By (AA Bdd L0) 9 (Aj Try.prog 171 0) Abu (MY (a0,a1,a2))=some (VM (a0,a1,a2),Tu (a0,a1,a2),G5 (a0,a1,a2),MY (G6 (a0,a1,a2))):=by kernel_rfl
set_option maxRecDepth 100000 in
theorem A12 (a0:List TGroup) (a1:Int) (a2:TChange) (hp:∀p∈J7 (a0,a1,a2),p):∀p∈VM (a0,a1,a2),p:=by
 have n0:=N0 hp
 have n1:=N0 (N1 hp)
 have n2:=N0 (N1 (N1 hp))
 exact(Aa n0 (Aa n1 (Aa n2 Ab)))
noncomputable def VN:=HF (AA Bdd L0) (Aj Try.prog 171 0) Abu A42 PO IF G6 G5 J7 Tu
theorem Avg:∀s b ps outs,VN s=some (b,ps,outs)→Wf s ⟨ps,outs,none⟩∧Br (AA C0 L0) b s ps outs:=
 Bh (T:=MY) Awn AG (u:=9) (by kernel_rfl) (by decide) (fun⟨a0,a1,a2⟩=>A11 a0 a1 a2) (fun⟨a0,a1,a2⟩=>A12 a0 a1 a2) Aov (fun _=>AU (n:=107) rfl) fun _ _=>rfl
noncomputable def Abt:=Dz 0 VN L0
theorem Ave:Hf Abt:=A5 Avg AG
def GL (a0:List TGroup) (_a1:TChange):Bool:=AX a0 !=(0:Int)
def GK (_a0:List TGroup) (a1:TChange):Int:=IntKind.i64.wrap (a1.1 - (1:Int))
def QU (a0:List TGroup) (a1:TChange):CH:=Avh (a0,(0:Int),a1)
def J6 (a0:List TGroup) (a1:TChange):Bool:=a1.1 !=(1:Int)&&a1.1 !=(2:Int)||decide (a1.2 <(1:Int))||decide (a1.2 >(1099511627776:Int))||!Hz a1.3||a1.3.2 !=a1.1||!E2 a1.4||(bif(GK a0 a1).toNat.beq (0:Nat) then a1.4.1 else a1.4.2) !=a1.2||decide ((↑a1.5.length:Int) <(1:Int))||decide ((↑a1.5.length:Int) >(8:Int))
def Afo (a0:List TGroup) (a1:TChange):Int:=bif(GL a0 a1) then AX a0 else bif(J6 a0 a1) then(120:Int) else bif D7 (QU a0 a1).fst (QU a0 a1).snd.fst (QU a0 a1).snd.snd then(120:Int) else(0:Int)
def Afp (a0:List TGroup) (a1:TChange):A:=.v (.int .i64 (Afo a0 a1))
def A13 (_a0:List TGroup) (_a1:TChange):Objs:=[]
def Asc (a0:List TGroup) (a1:TChange):List Prop:=[(∀(g:TGroup),g∈a0→Av g.1.size),((!(GL a0 a1))=true→(a1.1 !=(1:Int)&&a1.1 !=(2:Int)||decide (a1.2 <(1:Int))||decide (a1.2 >(1099511627776:Int))||!Hz a1.3||a1.3.2 !=a1.1||!E2 a1.4)=false→(0:Int)≤(GK a0 a1)∧(GK a0 a1) <(2:Int)),((!(GL a0 a1))=true→(!(J6 a0 a1))=true→AK G6 G5 J7 (IF (a0,(0:Int),a1)) (a0,(0:Int),a1))]
set_option maxRecDepth 100000 in
theorem Bh2 (a0:List TGroup) (a1:TChange):ER (AA Bdd Abt) 9 171 [.sl .group a0,Ak .change a1] 0 []=some (1,Afp a0 a1,0,A13 a0 a1,[(∀(g:TGroup),g∈a0→Av g.1.size),((!(GL a0 a1))=true→(a1.1 !=(1:Int)&&a1.1 !=(2:Int)||decide (a1.2 <(1:Int))||decide (a1.2 >(1099511627776:Int))||!Hz a1.3||a1.3.2 !=a1.1||!E2 a1.4)=false→(0:Int)≤(GK a0 a1)∧(GK a0 a1) <(2:Int)),((!(GL a0 a1))=true→(a1.1 !=(1:Int)&&a1.1 !=(2:Int)||decide (a1.2 <(1:Int))||decide (a1.2 >(1099511627776:Int))||!Hz a1.3||a1.3.2 !=a1.1||!E2 a1.4)=false→(GK a0 a1).toNat <(2:Nat)),((!(GL a0 a1))=true→(!(J6 a0 a1))=true→Aj Try.prog (171:FuncId) (0:Nat)=Aj Try.prog (171:FuncId) (0:Nat)),((!(GL a0 a1))=true→(!(J6 a0 a1))=true→AK G6 G5 J7 (IF (a0,(0:Int),a1)) (a0,(0:Int),a1))]):=by kernel_rfl
set_option maxRecDepth 100000 in
theorem Bl7 (a0:List TGroup) (a1:TChange) (hp:∀p∈Asc a0 a1,p):CallOk Try.prog 171 [.sl .group a0,Ak .change a1] 0 [] 1 (Afp a0 a1) 0 (A13 a0 a1):=by
 have n0:=N0 hp
 have n1:((!(GL a0 a1))=true→(a1.1 !=(1:Int)&&a1.1 !=(2:Int)||decide (a1.2 <(1:Int))||decide (a1.2 >(1099511627776:Int))||!Hz a1.3||a1.3.2 !=a1.1||!E2 a1.4)=false→(0:Int)≤(GK a0 a1)∧(GK a0 a1) <(2:Int)):=N0 (N1 hp)
 have n2:((!(GL a0 a1))=true→(a1.1 !=(1:Int)&&a1.1 !=(2:Int)||decide (a1.2 <(1:Int))||decide (a1.2 >(1099511627776:Int))||!Hz a1.3||a1.3.2 !=a1.1||!E2 a1.4)=false→(GK a0 a1).toNat <(2:Nat)):=by intro h0 h1;have g:=n1 h0 h1;omega
 have n3:((!(GL a0 a1))=true→(!(J6 a0 a1))=true→Aj Try.prog (171:FuncId) (0:Nat)=Aj Try.prog (171:FuncId) (0:Nat)):=by intros;rfl
 have n4:=N0 (N1 (N1 hp))
 exact AH (Ax Awn Ave) (Bh2 a0 a1) (Aa n0 (Aa n1 (Aa n2 (Aa n3 (Aa n4 Ab)))))
def Asd (a0:List TGroup) (a1:TChange):A:=.v (.int .i64 (Kx a0 a1))
def Asb (_a0:List TGroup) (_a1:TChange):Objs:=[]
def Akg (a0:List TGroup) (a1:TChange):List Prop:=[Av a1.writes.length,∀g∈a0,Av g.1.size]
theorem Bjm (a b:TWrite):QV a b=Ra a b:=by
 unfold QV Ra Ii
 rw[tlb]
 cases h:a.key==b.key with
 |true=>
  obtain e:=eq_of_beq h
  have e':a.1=b.1:=e
  rw[e',TQ]
  rfl
 |false=>
  show Op.bytesLess a.1.toList b.1.toList=(Op.bytesLess a.1.toList b.1.toList||false)
  rw[Bool.or_false]
theorem Bm6 (l:List TGroup) (w:TWrite):IW l w=TM l w:=by
 have e2:(w.4.toList==(ByteArray.mk #[]).toList)=(w.value.size==0):=RJ _
 unfold IW TM
 rw[e2]
 have h1:(SE w.1==(0:Int))=(!(w.key.size==0)&&decide (w.key.size≤32)):=by
  unfold SE
  show((bif w.key.size==0 then(2:Int) else bif decide (32 <w.key.size) then 3 else 0)==0)=_
  have h2:decide (32 <w.key.size)=!decide (w.key.size≤32):=by rw[←decide_not];exact decide_eq_decide.2 (by omega)
  rw[h2]
  cases w.key.size==0<;>cases decide (w.key.size≤32)<;>rfl
 have h4:decide ((w.4.size:Int)≤(64:Int))=decide (w.value.size≤64):=decide_eq_decide.2 (by omega)
 have h3:decide (w.2≥(0:Int))=decide (0≤w.group):=rfl
 rw[h1,h4,h3]
theorem Bpr (l:List TGroup) (c:TChange) (i:Nat) (hi:i≤9223372036854775807):D7 l (i:Int) c=(decide (i <c.writes.length)&&Qb l c.writes i):=by
 have e:D7 l (i:Int) c=(decide (i <c.writes.length)&&(!TM l (wN c.writes i)||decide ((i:Int) >0)&&!Ra (wN c.writes (IntKind.i64.wrap ((i:Int) - 1)).toNat) (wN c.writes i))):=by
  unfold D7 Dn G4
  rw[nn,Me,Int.toNat_natCast,Bjm,Bm6]
  rfl
 rw[e]
 unfold Qb
 cases i with
 |zero=>rfl
 |succ j=>
  have h1:(IntKind.i64.wrap (((j+1:Nat):Int) - 1)).toNat=j+1 - 1:=by rw[i64_in (by omega)];omega
  have h2:decide (((j+1:Nat):Int) >0)=decide (0 <j+1):=decide_eq_decide.2 (by omega)
  rw[h1,h2]
theorem Asa (l:List TGroup) (c:TChange) (hb:Av c.writes.length) (hw:∀g∈l,Av g.1.size):(∀p∈Asc l c,p)∧Afo l c=Kx l c:=by
 unfold Av at hb
 obtain⟨h1,k,hk,hx,_,_,hb'⟩:=IN (fun i=>((l,(i:Int),c):CH)) c.writes.length (fun i=>Qb l c.writes i) G6 G5 J7 (IF (l,0,c)) (l,0,c) rfl (by show c.writes.length≤((c.writes.length:Int) - 0).toNat;omega)
  (fun i hi _=>by
   show((!!decide ((i:Int) <(c.writes.length:Int)))&&!D7 l (i:Int) c)=_
   rw[Bpr l c i (by omega),nn,Me]
   cases decide (i <c.writes.length)<;>rfl)
  (fun i hi _=>by
   show(l,IntKind.i64.wrap ((i:Int)+1),c)=(l,((i+1:Nat):Int),c)
   rw[EQ (by omega)])
  (fun i hi _=>by
   have hin:(!!decide ((i:Int) <(c.writes.length:Int)))=true→(i:Int) <(c.writes.length:Int):=fun h=>by rw[nn] at h;exact of_decide_eq_true h
   refine Aa (fun h=>⟨by show(0:Int)≤(i:Int);omega,hin h⟩) (Aa (fun h h3 _=>?_) (Aa (fun h _ _=>⟨by show(0:Int)≤(i:Int);omega,hin h⟩) Ab))
   have h4:(i:Int) >0:=of_decide_eq_true h3
   have h5:=hin h
   show(0:Int)≤IntKind.i64.wrap ((i:Int) - 1)∧IntKind.i64.wrap ((i:Int) - 1) <(c.writes.length:Int)
   rw[i64_in (by omega)]
   omega)
 have hr:QU l c=(l,(k:Int),c):=hx
 refine⟨Aa hw (Aa (fun _ h=>Bp0 (Bzr.1 (by
  cases hs:c.site !=1&&c.site !=2 with
  |false=>rfl
  |true=>
   have h':(c.site !=(1:Int)&&c.site !=(2:Int)||decide (c.seq <(1:Int))||decide (c.seq >(1099511627776:Int))||!Hz c.stamp||c.stamp.site !=c.site||!E2 c.vec)=false:=h
   rw[hs] at h'
   simp at h'))) (Aa (fun _ _=>h1) Ab)),?_⟩
 unfold Afo Kx
 show(bif AX l !=0 then AX l else _)=_
 congr 1
 have e0:J6 l c=(!Ib c||!Ajg c):=by
  rw[Bo4,Bool.not_not]
  unfold J6 GK Ajg
  rw[X2,QN]
  have h2:decide ((c.5.length:Int) <(1:Int))=!decide (1≤c.writes.length):=by rw[←decide_not];exact decide_eq_decide.2 (by show(c.writes.length:Int) <1↔_;omega)
  have h3:decide ((c.5.length:Int) >(8:Int))=!decide (c.writes.length≤8):=by rw[←decide_not];exact decide_eq_decide.2 (by show(c.writes.length:Int) >8↔_;omega)
  rw[h2,h3]
  show(_||_||_||!Ih c.stamp||c.stamp.site !=c.site||_||_||_||_)=(_||_||_||c.stamp.site !=c.site||!Ih c.stamp||_||_||_)
  cases Ih c.stamp<;>cases c.stamp.site !=c.site<;>cases decide (1≤c.writes.length)<;>cases decide (c.writes.length≤8)<;>simp
 rw[e0,hr]
 show(bif !Ib c||!Ajg c then 120 else bif D7 l (k:Int) c then 120 else 0)=_
 rw[Bpr l c k (Nat.le_trans hk hb),hb']
 cases Ib c<;>cases Ajg c<;>cases JH c.writes.length (fun i=>!Qb l c.writes i)<;>rfl
theorem Bh1 (a0:List TGroup) (a1:TChange) (hp:∀p∈Akg a0 a1,p):CallOk Try.prog 171 [.sl .group a0,Ak .change a1] 0 [] 1 (Asd a0 a1) 0 (Asb a0 a1):=by
 have hb:Av a1.writes.length:=hp _ (List.mem_cons_self ..)
 have hw:∀g∈a0,Av g.1.size:=hp _ (List.mem_cons_of_mem _ (List.mem_cons_self ..))
 have h:=Bl7 a0 a1 (Asa a0 a1 hb hw).1
 unfold Afp at h
 rw[(Asa a0 a1 hb hw).2] at h
 exact h
def Afq:List A→Nat→Objs→Option A9
 | [y0,y1],nx,o=>match Jt .group y0,AQ .change y1 with
  |some a0,some (a1,p1)=>some (1,(Asd a0 a1).pk (AC nx),nx+0,AB nx (Asb a0 a1)++o,p1++(Akg a0 a1))
  |_,_=>none
 |_,_,_=>none
theorem Bbk:EV Try.prog 171 Afq:=fun args nx o k x nx' o' ps h=>by
 unfold Afq at h
 split at h<;>first|(cases h;done)|skip
 split at h<;>first|(cases h;done)|skip
 rename_i a0 a1 p1 e0 e1
 cases h
 refine⟨fun hp=>?_,_,rfl⟩
 have q1:=fun p hm=>hp p (List.mem_append.2 (.inl hm))
 have r1:=fun p hm=>hp p (List.mem_append.2 (.inr hm))
 refine Ah (Ag (Bh1 a0 a1 r1) (Nat.le_refl _) (Ac rfl (Ac (Af _ _) An)) nx o) fun F N R vs hl=>?_
 obtain⟨v0,w0,rfl,h0,hl⟩:=hl.inv
 obtain⟨v1,w1,rfl,h1,hl⟩:=hl.inv
 exact HL.cons (BL e0 h0) (HL.cons (Am e1 q1 h1) (hl))
noncomputable def B07:=A7 171 Afq Bdd
theorem Bs3:CU Try.prog B07:=Aw Bbk Awn
noncomputable def Cch:=B07
theorem Bjg:CU Try.prog Cch:=Bs3
end Go.Proofs.Yteebobbhhgmeiaa
namespace Go.Proofs.Yteebobbhhgmeiaa
open Go.RowKit
section
variable {l:List TGroup} {k:ByteArray}
end
def nb (rows:List TRow):List TRow:=rows.filter fun r=>!Bu r
theorem B3q {l:List TGroup} {rows:List TRow} (hr:Js rows) (hg:∀r∈rows,Ap l r=0):Stt l (nb rows):=by
 refine⟨List.Pairwise.filter _ hr,fun r hm=>?_⟩
 obtain⟨h1,h2⟩:=List.mem_filter.1 hm
 exact⟨hg r h1,by simpa using h2⟩
end Go.Proofs.Yteebobbhhgmeiaa
namespace Go.Proofs.Yteebobbhhgmeiaa
open Go.RowKit
def ofC (p:Int) (s:TStamp) (v:TVec) (g:Bool) (x:ByteArray):TCell:=bif p==2&&g then⟨⟨0,0⟩,⟨0,0⟩,false,⟨#[]⟩,v⟩ else⟨s,v,g,x,⟨0,0⟩⟩
def Ag1 (l:List TGroup) (c:TChange) (w:TWrite):TCell:=ofC (Adx l w.group.toNat) c.stamp c.vec w.gone w.value
def Bah (l:List TGroup) (k:ByteArray):TRow:=⟨k,List.replicate l.length zeroC⟩
def Aqk (o:List TRow):TRow:=B5 o (o.length - 1)
def I4 (l:List TGroup) (o:List TRow) (k:ByteArray):List TRow:=bif(o.length==0)||!((Aqk o).key==k) then o++[Bah l k] else o
def Bgw (l:List TGroup) (c:TChange) (o:List TRow) (w:TWrite):List TRow:=o.set (o.length - 1) ⟨(Aqk o).key,(Aqk o).cells.set w.group.toNat (Ag1 l c w)⟩
def Q9 (l:List TGroup) (c:TChange) (o:List TRow) (w:TWrite):List TRow:=Bgw l c (I4 l o w.key) w
def Ll (l:List TGroup) (c:TChange):Nat→List TRow
 |0=>[]
 |i+1=>Q9 l c (Ll l c i) (wN c.writes i)
def P6 (l:List TGroup) (c:TChange):List TRow:=bif Kx l c==0 then Ll l c c.writes.length else[]
theorem Bes {l:List TGroup} {c:TChange}:Kx l c=0↔AX l=0∧Ib c=true∧Ajg c=true∧∀i,i <c.writes.length→Qb l c.writes i=false:=by
 unfold Kx
 cases h:AX l !=0 with
 |true=>
  rw[cond_true]
  have h':AX l≠0:=by simpa using h
  exact⟨fun e=>absurd e h',fun e=>absurd e.1 h'⟩
 | false=>
  have h':AX l=0:=by simpa using h
  rw[cond_false]
  cases h1:Ib c with
  |false=>exact⟨fun e=>(by cases e),fun e=>by cases e.2.1⟩
  | true=>
   cases h2:Ajg c with
   |false=>exact⟨fun e=>(by cases e),fun e=>by cases e.2.2.1⟩
   | true=>
    rw[Bool.true_and,Bool.true_and]
    cases h3:JH c.writes.length (fun i=>!Qb l c.writes i) with
    |false=>
     refine⟨fun e=>(by cases e),fun e=>?_⟩
     have:JH c.writes.length (fun i=>!Qb l c.writes i)=true:=Il.2 fun i hi=>by rw[e.2.2.2 i hi];rfl
     rw[this] at h3
     cases h3
    |true=>exact⟨fun _=>⟨h',rfl,rfl,fun i hi=>by simpa using Il.1 h3 i hi⟩,fun _=>rfl⟩
theorem ZI {l:List TGroup} {w:TWrite} (h:TM l w=true):w.key.size≠0∧w.key.size≤32∧0≤w.group∧w.group <(l.length:Int)∧w.value.size≤64∧(w.gone=true→w.value.size=0):=by
 unfold TM at h
 simp only[Bool.and_eq_true,Bool.not_eq_true',beq_eq_false_iff_ne,decide_eq_true_eq,Bool.or_eq_true,beq_iff_eq] at h
 obtain⟨⟨⟨⟨⟨h1,h2⟩,h3⟩,h4⟩,h5⟩,h6⟩:=h
 exact⟨h1,h2,h3,h4,h5,fun e=>by rcases h6 with h6|h6<;>first|exact h6|(rw[e] at h6;cases h6)⟩
theorem Aw1 {l:List TGroup} {ws:List TWrite} {i:Nat} (h:Qb l ws i=false):TM l (wN ws i)=true∧(0 <i→Ra (wN ws (i - 1)) (wN ws i)=true):=by
 unfold Qb at h
 rw[Bool.or_eq_false_iff] at h
 refine⟨by simpa using h.1,fun hi=>?_⟩
 have:=h.2
 rw[decide_eq_true hi,Bool.true_and] at this
 simpa using this
theorem Ama {c:TChange} (h:Ib c=true):(c.site=1∨c.site=2)∧1≤c.seq∧c.seq≤1099511627776∧c.stamp.site=c.site∧Ih c.stamp=true∧CO c.vec=true:=by
 unfold Ib at h
 simp only[Bool.and_eq_true,Bool.or_eq_true,beq_iff_eq,decide_eq_true_eq] at h
 obtain⟨⟨⟨⟨⟨⟨h1,h2⟩,h3⟩,h4⟩,h5⟩,h6⟩,_⟩:=h
 exact⟨h1,h2,h3,h4,h5,h6⟩
theorem Bva {c:TChange} (h:Ib c=true):0 <c.stamp.n:=by
 obtain⟨h1,_,_,h4,h5,_⟩:=Ama h
 unfold Ih at h5
 have hs:(c.stamp.site==0)=false:=beq_eq_false_iff_ne.2 (by rw[h4];rcases h1 with e|e<;>rw[e]<;>decide)
 rw[hs,Bool.and_false,cond_false] at h5
 simp only[Bool.and_eq_true,decide_eq_true_eq] at h5
 omega
theorem Bpq {l:List TGroup} (hp:AX l=0) {g:Nat} (hg:g <l.length):Adx l g=1∨Adx l g=2:=by
 have h:Ap l ⟨⟨#[1]⟩,List.replicate l.length zeroC⟩=0:=by
  rw[Ql]
  unfold Wa SE
  rw[hp]
  rfl
 have h1:=K3 h hg
 unfold BC at h1
 by_cases e1:Adx l g=1
 ·exact .inl e1
 by_cases e2:Adx l g=2
 ·exact .inr e2
 ·have f1:(Adx l g==1)=false:=beq_eq_false_iff_ne.2 e1
  have f2:(Adx l g==2)=false:=beq_eq_false_iff_ne.2 e2
  simp[f1,f2] at h1
theorem Bv5 {p:Int} (hp:p=1∨p=2) {s:TStamp} {v:TVec} {g:Bool} {x:ByteArray} (hs:Ih s=true) (hn:0 <s.n) (hv:CO v=true) (hx:x.size≤64) (hg:g=true→x.size=0):BC p (ofC p s v g x)=true:=by
 have hw:∀d:TVec,CD ⟨s,v,g,x,d⟩=true:=fun d=>by
  unfold CD
  have:(s.n==0)=false:=beq_eq_false_iff_ne.2 (by omega)
  show(!(s.n==0&&_&&_&&_))=true
  rw[this]
  rfl
 have hgx:(g&&!(x.size==0))=false:=by
  cases g with
  |false=>rfl
  |true=>rw[hg rfl];rfl
 have hz:HE ⟨0,0⟩=true:=rfl
 have hx':decide ((x.size:Int)≤64)=true:=decide_eq_true (by omega)
 rcases hp with rfl|rfl
 ·show BC 1 ⟨s,v,g,x,⟨0,0⟩⟩=true
  unfold BC
  rw[hw]
  show(bif(1:Int)==1&&!HE ⟨0,0⟩||_ then false else bif !true then true else Ih s&&decide (0 <s.n)&&CO v&&decide ((x.size:Int)≤64)&&!(g&&!(x.size==0)))=true
  rw[hs,decide_eq_true hn,hv,hx',hgx]
  rfl
 ·unfold ofC
  cases g with
  |true=>
   show BC 2 ⟨⟨0,0⟩,⟨0,0⟩,false,⟨#[]⟩,v⟩=true
   unfold BC
   show(bif(2:Int)==1&&!HE v||((2:Int)==2&&(false||!CO v)||!((2:Int)==1||(2:Int)==2)) then false else bif !CD ⟨⟨0,0⟩,⟨0,0⟩,false,⟨#[]⟩,v⟩ then true else _)=true
   rw[hv]
   rfl
  |false=>
   show BC 2 ⟨s,v,false,x,⟨0,0⟩⟩=true
   unfold BC
   rw[hw]
   show(bif(2:Int)==1&&!HE ⟨0,0⟩||((2:Int)==2&&(false||!CO ⟨0,0⟩)||!((2:Int)==1||(2:Int)==2)) then false else bif !true then true else Ih s&&decide (0 <s.n)&&CO v&&decide ((x.size:Int)≤64)&&!(false&&!(x.size==0)))=true
   rw[hs,decide_eq_true hn,hv,hx']
   rfl
theorem Acq {l:List TGroup} {c:TChange} {w:TWrite} (hp:AX l=0) (hh:Ib c=true) (hw:TM l w=true):BC (Adx l w.group.toNat) (Ag1 l c w)=true:=by
 obtain⟨_,_,h3,h4,h5,h6⟩:=ZI hw
 obtain⟨_,_,_,_,s5,s6⟩:=Ama hh
 exact Bv5 (Bpq hp (by omega)) s5 (Bva hh) s6 h5 h6
theorem Amx (pre:List TRow) (z:TRow):Aqk (pre++[z])=z:=by
 unfold Aqk B5
 rw[List.length_append,List.length_singleton,Nat.add_sub_cancel,List.getD_eq_getElem?_getD,List.getElem?_append_right (Nat.le_refl _),Nat.sub_self]
 rfl
theorem A0f (l:List TGroup) (c:TChange) (pre:List TRow) (z:TRow) (w:TWrite):Bgw l c (pre++[z]) w=pre++[⟨z.key,z.cells.set w.group.toNat (Ag1 l c w)⟩]:=by
 unfold Bgw
 rw[Amx,List.length_append,List.length_singleton,Nat.add_sub_cancel,List.set_append_right _ _ (Nat.le_refl _),Nat.sub_self]
 rfl
theorem WL {l:List TGroup} {r:TRow} {g:Nat} {x:TCell} (h:Ap l r=0) (hx:BC (Adx l g) x=true):Ap l ⟨r.key,r.cells.set g x⟩=0:=by
 obtain⟨h1,h2,h3,h4,_⟩:=AT h
 have hl:(r.cells.set g x).length=l.length:=by rw[List.length_set];exact h2
 refine Ax3 h1 h3 h4 hl ((A82 hl).2 fun i hi=>?_)
 have e:Ig (r.cells.set g x) i=if g=i then x else Ig r.cells i:=by
  unfold Ig
  rw[List.getD_eq_getElem?_getD,List.getElem?_set]
  by_cases e:g=i
  ·subst e
   rw[if_pos rfl,if_pos rfl,if_pos (by omega)]
   rfl
  ·rw[if_neg e,if_neg e,←List.getD_eq_getElem?_getD]
 rw[e]
 by_cases e:g=i
 ·subst e
  rw[if_pos rfl]
  exact hx
 ·rw[if_neg e]
  exact K3 h hi
theorem Ahx {l:List TGroup} {w:TWrite} (hp:AX l=0) (hw:TM l w=true):Ap l (Bah l w.key)=0:=by
 obtain⟨h1,h2,_⟩:=ZI hw
 unfold Bah
 rw[Ql]
 unfold Wa SE
 rw[hp,beq_eq_false_iff_ne.2 h1,decide_eq_false (by omega)]
 rfl
theorem A2c {pre:List TRow} {z:TRow}:Js (pre++[z])↔Js pre∧∀r∈pre,Ii r.key z.key=true:=by
 unfold Js
 rw[List.pairwise_append]
 constructor
 ·rintro⟨h1,_,h3⟩
  exact⟨h1,fun r hr=>h3 r hr z (List.mem_singleton.2 rfl)⟩
 ·rintro⟨h1,h2⟩
  exact⟨h1,List.pairwise_singleton _ _,fun r hr y hy=>by rw[List.mem_singleton.1 hy];exact h2 r hr⟩
structure ChI (l:List TGroup) (o:List TRow) (k:ByteArray):Prop where
 last:∃pre z,o=pre++[z]∧z.key=k
 rise:Js o
 good:∀r∈o,Ap l r=0
theorem Bi5 {l:List TGroup} {c:TChange} {w:TWrite} (hp:AX l=0) (hh:Ib c=true) (hw:TM l w=true):ChI l (Q9 l c [] w) w.key:=by
 have e:Q9 l c [] w=[]++[⟨w.key,(Bah l w.key).cells.set w.group.toNat (Ag1 l c w)⟩]:=A0f l c [] (Bah l w.key) w
 rw[e]
 refine⟨⟨[],_,rfl,rfl⟩,List.pairwise_singleton _ _,fun r hr=>?_⟩
 rw[List.mem_singleton.1 hr]
 exact WL (Ahx hp hw) (Acq hp hh hw)
theorem Bmq {l:List TGroup} {c:TChange} {o:List TRow} {v w:TWrite} (hp:AX l=0) (hh:Ib c=true) (hw:TM l w=true) (h:ChI l o v.key) (hv:Ra v w=true):ChI l (Q9 l c o w) w.key:=by
 obtain⟨⟨pre,z,rfl,hz⟩,hr,hg⟩:=h
 have hn:((pre++[z]).length==0)=false:=beq_eq_false_iff_ne.2 (by rw[List.length_append,List.length_singleton];omega)
 obtain⟨r1,r2⟩:=A2c.1 hr
 by_cases hk:z.key=w.key
 ·have e:Q9 l c (pre++[z]) w=pre++[⟨z.key,z.cells.set w.group.toNat (Ag1 l c w)⟩]:=by
   unfold Q9 I4
   rw[hn,Amx,hk,beq_self_eq_true]
   show Bgw l c (pre++[z]) w=_
   rw[A0f,hk]
  rw[e]
  refine⟨⟨pre,_,rfl,hk⟩,A2c.2 ⟨r1,r2⟩,fun r hr=>?_⟩
  rcases List.mem_append.1 hr with hr|hr
  ·exact hg r (List.mem_append.2 (.inl hr))
  ·rw[List.mem_singleton.1 hr]
   exact WL (hg z (List.mem_append.2 (.inr (List.mem_singleton.2 rfl)))) (Acq hp hh hw)
 ·have e:Q9 l c (pre++[z]) w=(pre++[z])++[⟨w.key,(Bah l w.key).cells.set w.group.toNat (Ag1 l c w)⟩]:=by
   unfold Q9 I4
   rw[hn,Amx,beq_eq_false_iff_ne.2 hk]
   show Bgw l c ((pre++[z])++[Bah l w.key]) w=_
   rw[A0f]
   rfl
  have hlt:Ii z.key w.key=true:=by
   unfold Ra at hv
   rw[←hz,beq_eq_false_iff_ne.2 hk,Bool.false_and,Bool.or_false] at hv
   exact hv
  rw[e]
  refine⟨⟨pre++[z],_,rfl,rfl⟩,A2c.2 ⟨hr,fun r hr=>?_⟩,fun r hr=>?_⟩
  ·rcases List.mem_append.1 hr with hr|hr
   ·exact Kl (r2 r hr) hlt
   ·rw[List.mem_singleton.1 hr]
    exact hlt
  ·rcases List.mem_append.1 hr with hr|hr
   ·exact hg r hr
   ·rw[List.mem_singleton.1 hr]
    exact WL (Ahx hp hw) (Acq hp hh hw)
theorem Bou {l:List TGroup} {c:TChange} (h:Kx l c=0):∀i,i <c.writes.length→ChI l (Ll l c (i+1)) (wN c.writes i).key
 |0,hi=>by
  obtain⟨hp,hh,_,hb⟩:=Bes.1 h
  exact Bi5 hp hh (Aw1 (hb 0 hi)).1
 |i+1,hi=>by
  obtain⟨hp,hh,_,hb⟩:=Bes.1 h
  obtain⟨h1,h2⟩:=Aw1 (hb (i+1) hi)
  exact Bmq hp hh h1 (Bou h i (by omega)) (h2 (by omega))
theorem Bet {l:List TGroup} {c:TChange} (h:Kx l c=0) (i:Nat) (hi:i≤c.writes.length):Js (Ll l c i)∧∀r∈Ll l c i,Ap l r=0:=by
 cases i with
 |zero=>exact⟨List.Pairwise.nil,fun r hr=>by cases hr⟩
 |succ i=>
  have:=Bou h i hi
  exact⟨this.rise,this.good⟩
theorem Ag7 (l:List TGroup) (c:TChange):Js (P6 l c)∧∀r∈P6 l c,Ap l r=0:=by
 unfold P6
 cases h:Kx l c==0 with
 |false=>exact⟨List.Pairwise.nil,fun r hr=>by cases hr⟩
 |true=>exact Bet (by simpa using h) _ (Nat.le_refl _)
theorem Br2 (l:List TGroup) (c:TChange) (o:List TRow) (w:TWrite):(Q9 l c o w).length≤o.length+1:=by
 unfold Q9 Bgw I4
 rw[List.length_set]
 cases(o.length==0)||!((Aqk o).key==w.key) with
 |true=>rw[cond_true,List.length_append];exact Nat.le_refl _
 |false=>exact Nat.le_succ _
theorem A8o (l:List TGroup) (c:TChange):∀i,(Ll l c i).length≤i
 |0=>Nat.le_refl _
 |i+1=>Nat.le_trans (Br2 ..) (Nat.succ_le_succ (A8o l c i))
end Go.Proofs.Yteebobbhhgmeiaa
namespace Go.Proofs.Yteebobbhhgmeiaa
open Go.RowKit
def Boi (a0:List TGroup) (a1:TChange):A:=.tup [.dq 0,.v (.int .i64 (Kx a0 a1))]
def Boh (a0:List TGroup) (a1:TChange):Objs:=[(0,some (.deep 71 .row (P6 a0 a1)))]
theorem Bpl {l:List TGroup} {c:TChange} {w:TWrite} (hp:AX l=0) (hh:Ib c=true) (hw:TM l w=true):JX (l.getD w.group.toNat (Ae TC.group)).2 c.stamp c.vec w.gone w.value=Ag1 l c w∧In (l.getD w.group.toNat (Ae TC.group)).2 c.stamp c.vec w.gone w.value=Ag1 l c w:=by
 obtain⟨_,_,g0,g1,hx,hg⟩:=ZI hw
 obtain⟨_,_,_,_,hs,hv⟩:=Ama hh
 have hn:0 <c.stamp.n:=Bva hh
 have hpo:(l.getD w.group.toNat (Ae TC.group)).2=1∨(l.getD w.group.toNat (Ae TC.group)).2=2:=Bpq hp (by omega)
 unfold Ag1 Adx
 show _=ofC (l.getD w.group.toNat (Ae TC.group)).2 _ _ _ _∧_=ofC (l.getD w.group.toNat (Ae TC.group)).2 _ _ _ _
 generalize (l.getD w.group.toNat (Ae TC.group)).2=p at*
 generalize c.stamp=s at*
 generalize c.vec=v at*
 have h1:(p !=(1:Int)&&p !=(2:Int))=false:=Bzr.2 hpo
 have h2:(s.1==(0:Int))=false:=beq_eq_false_iff_ne.2 (by have:s.1=s.n:=rfl;omega)
 have h3:(w.gone&&!w.value.toList==(ByteArray.mk #[]).toList)=false:=by
  rw[RJ]
  cases h:w.gone with
  |false=>rfl
  |true=>rw[hg h];rfl
 have h4:decide ((w.value.size:Int) >(64:Int))=false:=decide_eq_false (by omega)
 constructor
 ·have k0:Ix p s v w.gone w.value=false:=by
   unfold Ix
   rw[X2,QN,hs,hv,h1,h2,h3]
   rfl
  have k1:Jo p s v w.gone w.value=false:=h4
  have k2:Jp p s v w.gone w.value=(p==2&&w.gone):=rfl
  unfold JX ofC
  rw[k0,k1,k2]
  cases p==2&&w.gone<;>rfl
 ·have k2:I0 p s v w.gone w.value=false:=by
   unfold I0
   rw[KL,Lh,hs,hv,h1,h2,h3]
   rfl
  have k3:JI p s v w.gone w.value=false:=h4
  have k1:Hg p s v w.gone w.value=(p==2&&w.gone):=by
   unfold Hg
   rw[k2,k3]
   cases w.gone<;>cases p==2<;>rfl
  have k0:Mg p s v w.gone w.value=0:=by
   unfold Mg
   rw[k2,k3]
   rfl
  unfold In ofC
  rw[k1,k0,k2,k3]
  cases p==2&&w.gone<;>rfl
theorem Air {n:Nat} (h:n≤100):(IntKind.i64.wrap ((n:Int) - 1)).toNat=n - 1:=by
 rw[i64_in (by omega)]
 omega
theorem Uo (l:List TGroup) (o:List TRow) (k:ByteArray):1≤(I4 l o k).length∧(I4 l o k).length≤o.length+1:=by
 unfold I4
 cases h:(o.length==0)||!((Aqk o).key==k) with
 |true=>rw[cond_true,List.length_append];exact⟨Nat.le_add_left _ _,Nat.le_refl _⟩
 |false=>
  rw[cond_false]
  have:(o.length==0)=false:=(Bool.or_eq_false_iff.1 h).1
  have:o.length≠0:=by simpa using this
  omega
theorem Bal {l:List TGroup} {o:List TRow} (k:ByteArray) (h:∀r∈o,Ap l r=0):∀r∈I4 l o k,r.cells.length=l.length:=fun r hr=>by
 have h1:∀r∈o,r.cells.length=l.length:=fun r hr=>(AT (h r hr)).2.1
 unfold I4 at hr
 cases hb:(o.length==0)||!((Aqk o).key==k) with
 | true=>
  rw[hb,cond_true] at hr
  rcases List.mem_append.1 hr with hr|hr
  ·exact h1 r hr
  ·rw[List.mem_singleton.1 hr]
   exact List.length_replicate
 |false=>rw[hb,cond_false] at hr;exact h1 r hr
theorem Ju {l:List TGroup} {c:TChange} (h:Kx l c=0) {i:Nat} (hi:i <c.writes.length):AX l=0∧Ib c=true∧TM l (wN c.writes i)=true∧c.writes.length≤8∧l.length≤4∧(Ll l c i).length≤i∧∀r∈I4 l (Ll l c i) (wN c.writes i).key,r.cells.length=l.length:=by
 obtain⟨hp,hh,hn,hb⟩:=Bes.1 h
 unfold Ajg at hn
 rw[Bool.and_eq_true,decide_eq_true_eq,decide_eq_true_eq] at hn
 exact⟨hp,hh,(Aw1 (hb i hi)).1,hn.2,(FP hp).2,A8o l c i,Bal _ (Bet h i (by omega)).2⟩
theorem Bos {l:List TGroup} {c:TChange} (h:Kx l c=0):c.writes.length≤8:=by
 obtain⟨_,_,hn,_⟩:=Bes.1 h
 unfold Ajg at hn
 rw[Bool.and_eq_true,decide_eq_true_eq,decide_eq_true_eq] at hn
 exact hn.2
theorem Bv2 {l:List TGroup} {w:TWrite} (hp:AX l=0) (hw:TM l w=true):Ajf l w.key=Bah l w.key:=by
 obtain⟨h1,h2,_⟩:=ZI hw
 have hk:SE w.key=0:=by
  unfold SE
  rw[show(w.key.size==0)=false by simpa using h1,decide_eq_false (by omega)]
  rfl
 have hn:Wa l w.key=0:=by unfold Wa;rw[hp,hk];rfl
 unfold Ajf Bah
 rw[hn]
 rfl
abbrev BE:Type:=(List TGroup)×(List TWrite)×Int×Int×TChange×(List TRow)
def Kg (x:BE):St:=⟨85,3,[(0,.sl .group x.1),(3,.own 0 0),(7,.dq 2),(22,.sl .write x.2.1),(23,.v (.int .i64 x.2.2.1)),(24,.v (.int .i64 x.2.2.2.1))],[(0,some (.box 136 [.v (.int .i64 x.2.2.2.2.1.site),.v (.int .i64 x.2.2.2.2.1.seq),.v (.int .i64 x.2.2.2.2.1.stamp.n),.v (.int .i64 x.2.2.2.2.1.stamp.site),.v (.int .i64 x.2.2.2.2.1.vec.a),.v (.int .i64 x.2.2.2.2.1.vec.b),.sl .write x.2.2.2.2.1.writes])),(2,some (.deep 71 .row x.2.2.2.2.2))]⟩
def Lo:St→Option BE
 |⟨85,3,[(0,.sl .group z0),(3,.own 0 0),(7,.dq 2),(22,.sl .write z1),(23,.v (.int .i64 z2)),(24,.v (.int .i64 z3))],[(0,some (.box 136 [.v (.int .i64 z4),.v (.int .i64 z5),.v (.int .i64 z6),.v (.int .i64 z7),.v (.int .i64 z8),.v (.int .i64 z9),.sl .write z10])),(2,some (.deep 71 .row z11))]⟩=>some (z0,z1,z2,z3,⟨z4,z5,⟨z6,z7⟩,⟨z8,z9⟩,z10⟩,z11)
 |_=>none
theorem ZL:∀s x,Lo s=some x→s=Kg x:=fun s x h=>by
 unfold Lo at h
 split at h
 ·cases h;rfl
 ·cases h
def Sm:CX:=⟨2,3,[0,3,7,22,23,24],[],[(0,0),(8,2)],[0,8],[7],[2,0]⟩
def Alt:Dp:=⟨[.nilD 7 71 .row],[(0,0),(1,2)],[0,3,7,22,23,24],[0,1]⟩
def Bp (_a0:List TGroup) (_a1:List TWrite) (_a2:Int) (_a3:Int) (_a4:TChange) (a5:List TRow):Bool:=(↑a5.length:Int)==(0:Int)
def A6 (_a0:List TGroup) (_a1:List TWrite) (_a2:Int) (_a3:Int) (_a4:TChange) (a5:List TRow):Int:=IntKind.i64.wrap ((↑a5.length:Int) - (1:Int))
def AJ (a0:List TGroup) (a1:List TWrite) (a2:Int) (a3:Int) (a4:TChange) (a5:List TRow):List TRow:=bif(Bp a0 a1 a2 a3 a4 a5)||!(a5.getD (A6 a0 a1 a2 a3 a4 a5).toNat (Ae TC.row)).1.toList==(a1.getD a3.toNat (Ae TC.write)).1.toList then a5++[Wb TC.row TC.cell (TRow.mk (Ajf a0 (a1.getD a3.toNat (Ae TC.write)).1).1 []) (Ajf a0 (a1.getD a3.toNat (Ae TC.write)).1).2] else a5
def AE (a0:List TGroup) (a1:List TWrite) (a2:Int) (a3:Int) (a4:TChange) (a5:List TRow):Int:=IntKind.i64.wrap ((↑(AJ a0 a1 a2 a3 a4 a5).length:Int) - (1:Int))
def I1 (a0:List TGroup) (a1:List TWrite) (a2:Int) (a3:Int) (a4:TChange) (a5:List TRow):List TRow:=(AJ a0 a1 a2 a3 a4 a5).set (AE a0 a1 a2 a3 a4 a5).toNat (Wb TC.row TC.cell ((AJ a0 a1 a2 a3 a4 a5).getD (AE a0 a1 a2 a3 a4 a5).toNat (Ae TC.row)) (((AJ a0 a1 a2 a3 a4 a5).getD (AE a0 a1 a2 a3 a4 a5).toNat (Ae TC.row)).2.set (a1.getD a3.toNat (Ae TC.write)).2.toNat (In (a0.getD (a1.getD a3.toNat (Ae TC.write)).2.toNat (Ae TC.group)).2 a4.3 a4.4 (a1.getD a3.toNat (Ae TC.write)).3 (a1.getD a3.toNat (Ae TC.write)).4)))
def Ds (x:BE):BE:=(x.1,x.2.1,x.2.2.1,IntKind.i64.wrap (x.2.2.2.1+(1:Int)),x.2.2.2.2.1,I1 x.1 x.2.1 x.2.2.1 x.2.2.2.1 x.2.2.2.2.1 x.2.2.2.2.2)
def Dr (x:BE):Cnd:=some (!!decide (x.2.2.2.1 <x.2.2.1))
def OL (x:BE):List Prop:=[((!!decide (x.2.2.2.1 <x.2.2.1))=true→(0:Int)≤x.2.2.2.1∧x.2.2.2.1 <(↑x.2.1.length:Int)),((!!decide (x.2.2.2.1 <x.2.2.1))=true→(Bp x.1 x.2.1 x.2.2.1 x.2.2.2.1 x.2.2.2.2.1 x.2.2.2.2.2)=false→(0:Int)≤(A6 x.1 x.2.1 x.2.2.1 x.2.2.2.1 x.2.2.2.2.1 x.2.2.2.2.2)∧(A6 x.1 x.2.1 x.2.2.1 x.2.2.2.1 x.2.2.2.2.1 x.2.2.2.2.2) <(↑x.2.2.2.2.2.length:Int)),((!!decide (x.2.2.2.1 <x.2.2.1))=true→(Bp x.1 x.2.1 x.2.2.1 x.2.2.2.1 x.2.2.2.2.1 x.2.2.2.2.2)=false→(A6 x.1 x.2.1 x.2.2.1 x.2.2.2.1 x.2.2.2.2.1 x.2.2.2.2.2).toNat <x.2.2.2.2.2.length),((!!decide (x.2.2.2.1 <x.2.2.1))=true→((Bp x.1 x.2.1 x.2.2.1 x.2.2.2.1 x.2.2.2.2.1 x.2.2.2.2.2)||!(x.2.2.2.2.2.getD (A6 x.1 x.2.1 x.2.2.1 x.2.2.2.1 x.2.2.2.2.1 x.2.2.2.2.2).toNat (Ae TC.row)).1.toList==(x.2.1.getD x.2.2.2.1.toNat (Ae TC.write)).1.toList)=true→Ai x.1.length),((!!decide (x.2.2.2.1 <x.2.2.1))=true→((Bp x.1 x.2.1 x.2.2.1 x.2.2.2.1 x.2.2.2.2.1 x.2.2.2.2.2)||!(x.2.2.2.2.2.getD (A6 x.1 x.2.1 x.2.2.1 x.2.2.2.1 x.2.2.2.2.1 x.2.2.2.2.2).toNat (Ae TC.row)).1.toList==(x.2.1.getD x.2.2.2.1.toNat (Ae TC.write)).1.toList)=true→Ai (x.2.2.2.2.2.length+(1:Nat))),((!!decide (x.2.2.2.1 <x.2.2.1))=true→(0:Int)≤(x.2.1.getD x.2.2.2.1.toNat (Ae TC.write)).2∧(x.2.1.getD x.2.2.2.1.toNat (Ae TC.write)).2 <(↑x.1.length:Int)),((!!decide (x.2.2.2.1 <x.2.2.1))=true→(0:Int)≤(AE x.1 x.2.1 x.2.2.1 x.2.2.2.1 x.2.2.2.2.1 x.2.2.2.2.2)∧(AE x.1 x.2.1 x.2.2.1 x.2.2.2.1 x.2.2.2.2.1 x.2.2.2.2.2) <(↑(AJ x.1 x.2.1 x.2.2.1 x.2.2.2.1 x.2.2.2.2.1 x.2.2.2.2.2).length:Int)),((!!decide (x.2.2.2.1 <x.2.2.1))=true→(AE x.1 x.2.1 x.2.2.1 x.2.2.2.1 x.2.2.2.2.1 x.2.2.2.2.2).toNat <(AJ x.1 x.2.1 x.2.2.1 x.2.2.2.1 x.2.2.2.2.1 x.2.2.2.2.2).length),((!!decide (x.2.2.2.1 <x.2.2.1))=true→(AE x.1 x.2.1 x.2.2.1 x.2.2.2.1 x.2.2.2.2.1 x.2.2.2.2.2).toNat <(AJ x.1 x.2.1 x.2.2.1 x.2.2.2.1 x.2.2.2.2.1 x.2.2.2.2.2).length∧(0:Int)≤(x.2.1.getD x.2.2.2.1.toNat (Ae TC.write)).2∧(x.2.1.getD x.2.2.2.1.toNat (Ae TC.write)).2 <(↑((AJ x.1 x.2.1 x.2.2.1 x.2.2.2.1 x.2.2.2.2.1 x.2.2.2.2.2).getD (AE x.1 x.2.1 x.2.2.1 x.2.2.2.1 x.2.2.2.2.1 x.2.2.2.2.2).toNat (Ae TC.row)).2.length:Int)),((!!decide (x.2.2.2.1 <x.2.2.1))=true→(AE x.1 x.2.1 x.2.2.1 x.2.2.2.1 x.2.2.2.2.1 x.2.2.2.2.2).toNat <(AJ x.1 x.2.1 x.2.2.1 x.2.2.2.1 x.2.2.2.2.1 x.2.2.2.2.2).length),((!!decide (x.2.2.2.1 <x.2.2.1))=true→(x.2.1.getD x.2.2.2.1.toNat (Ae TC.write)).2.toNat <((AJ x.1 x.2.1 x.2.2.1 x.2.2.2.1 x.2.2.2.2.1 x.2.2.2.2.2).getD (AE x.1 x.2.1 x.2.2.1 x.2.2.2.1 x.2.2.2.2.1 x.2.2.2.2.2).toNat (Ae TC.row)).2.length)]
def FN (x:BE):List Prop:=[((!!decide (x.2.2.2.1 <x.2.2.1))=true→(0:Int)≤x.2.2.2.1∧x.2.2.2.1 <(↑x.2.1.length:Int)),((!!decide (x.2.2.2.1 <x.2.2.1))=true→(Bp x.1 x.2.1 x.2.2.1 x.2.2.2.1 x.2.2.2.2.1 x.2.2.2.2.2)=false→(0:Int)≤(A6 x.1 x.2.1 x.2.2.1 x.2.2.2.1 x.2.2.2.2.1 x.2.2.2.2.2)∧(A6 x.1 x.2.1 x.2.2.1 x.2.2.2.1 x.2.2.2.2.1 x.2.2.2.2.2) <(↑x.2.2.2.2.2.length:Int)),((!!decide (x.2.2.2.1 <x.2.2.1))=true→((Bp x.1 x.2.1 x.2.2.1 x.2.2.2.1 x.2.2.2.2.1 x.2.2.2.2.2)||!(x.2.2.2.2.2.getD (A6 x.1 x.2.1 x.2.2.1 x.2.2.2.1 x.2.2.2.2.1 x.2.2.2.2.2).toNat (Ae TC.row)).1.toList==(x.2.1.getD x.2.2.2.1.toNat (Ae TC.write)).1.toList)=true→Ai x.1.length),((!!decide (x.2.2.2.1 <x.2.2.1))=true→((Bp x.1 x.2.1 x.2.2.1 x.2.2.2.1 x.2.2.2.2.1 x.2.2.2.2.2)||!(x.2.2.2.2.2.getD (A6 x.1 x.2.1 x.2.2.1 x.2.2.2.1 x.2.2.2.2.1 x.2.2.2.2.2).toNat (Ae TC.row)).1.toList==(x.2.1.getD x.2.2.2.1.toNat (Ae TC.write)).1.toList)=true→Ai (x.2.2.2.2.2.length+(1:Nat))),((!!decide (x.2.2.2.1 <x.2.2.1))=true→(0:Int)≤(x.2.1.getD x.2.2.2.1.toNat (Ae TC.write)).2∧(x.2.1.getD x.2.2.2.1.toNat (Ae TC.write)).2 <(↑x.1.length:Int)),((!!decide (x.2.2.2.1 <x.2.2.1))=true→(0:Int)≤(AE x.1 x.2.1 x.2.2.1 x.2.2.2.1 x.2.2.2.2.1 x.2.2.2.2.2)∧(AE x.1 x.2.1 x.2.2.1 x.2.2.2.1 x.2.2.2.2.1 x.2.2.2.2.2) <(↑(AJ x.1 x.2.1 x.2.2.1 x.2.2.2.1 x.2.2.2.2.1 x.2.2.2.2.2).length:Int)),((!!decide (x.2.2.2.1 <x.2.2.1))=true→(AE x.1 x.2.1 x.2.2.1 x.2.2.2.1 x.2.2.2.2.1 x.2.2.2.2.2).toNat <(AJ x.1 x.2.1 x.2.2.1 x.2.2.2.1 x.2.2.2.2.1 x.2.2.2.2.2).length∧(0:Int)≤(x.2.1.getD x.2.2.2.1.toNat (Ae TC.write)).2∧(x.2.1.getD x.2.2.2.1.toNat (Ae TC.write)).2 <(↑((AJ x.1 x.2.1 x.2.2.1 x.2.2.2.1 x.2.2.2.2.1 x.2.2.2.2.2).getD (AE x.1 x.2.1 x.2.2.1 x.2.2.2.1 x.2.2.2.2.1 x.2.2.2.2.2).toNat (Ae TC.row)).2.length:Int)),((!!decide (x.2.2.2.1 <x.2.2.1))=true→(x.2.1.getD x.2.2.2.1.toNat (Ae TC.write)).2.toNat <((AJ x.1 x.2.1 x.2.2.1 x.2.2.2.1 x.2.2.2.2.1 x.2.2.2.2.2).getD (AE x.1 x.2.1 x.2.2.1 x.2.2.2.1 x.2.2.2.2.1 x.2.2.2.2.2).toNat (Ae TC.row)).2.length)]
def NR (x:BE):Bo:=[(some 0,some (!decide (x.2.2.2.1 <x.2.2.1)),⟨85,3,[(7,.dq 2)],[(2,some (.deep 71 .row x.2.2.2.2.2)),(0,some (.box 136 [.v (.int .i64 x.2.2.2.2.1.1),.v (.int .i64 x.2.2.2.2.1.2),.v (.int .i64 x.2.2.2.2.1.3.1),.v (.int .i64 x.2.2.2.2.1.3.2),.v (.int .i64 x.2.2.2.2.1.4.1),.v (.int .i64 x.2.2.2.2.1.4.2),.sl .write x.2.2.2.2.1.5]))]⟩)]
def ED (x:BE):Nat:=(x.2.2.1 - x.2.2.2.1).toNat
def K1 (x:BE):BE:=Bc Ds Dr (ED x) x
set_option maxRecDepth 100000 in
theorem Aha (a0:List TGroup) (a1:List TWrite) (a2:Int) (a3:Int) (a4:TChange) (a5:List TRow):By (AA Cch L0) 9 (Aj Try.prog 142 0) Sm (Kg (a0,a1,a2,a3,a4,a5))=some (OL (a0,a1,a2,a3,a4,a5),NR (a0,a1,a2,a3,a4,a5),Dr (a0,a1,a2,a3,a4,a5),Kg (Ds (a0,a1,a2,a3,a4,a5))):=by kernel_rfl
set_option maxRecDepth 100000 in
theorem Ahb (a0:List TGroup) (a1:List TWrite) (a2:Int) (a3:Int) (a4:TChange) (a5:List TRow) (hp:∀p∈FN (a0,a1,a2,a3,a4,a5),p):∀p∈OL (a0,a1,a2,a3,a4,a5),p:=by
 have n0:=N0 hp
 have n1:((!!decide (a3 <a2))=true→(Bp a0 a1 a2 a3 a4 a5)=false→(0:Int)≤(A6 a0 a1 a2 a3 a4 a5)∧(A6 a0 a1 a2 a3 a4 a5) <(↑a5.length:Int)):=N0 (N1 hp)
 have n2:((!!decide (a3 <a2))=true→(Bp a0 a1 a2 a3 a4 a5)=false→(A6 a0 a1 a2 a3 a4 a5).toNat <a5.length):=by intro h0 h1;have g:=n1 h0 h1;omega
 have n3:=N0 (N1 (N1 hp))
 have n4:=N0 (N1 (N1 (N1 hp)))
 have n5:=N0 (N1 (N1 (N1 (N1 hp))))
 have n6:((!!decide (a3 <a2))=true→(0:Int)≤(AE a0 a1 a2 a3 a4 a5)∧(AE a0 a1 a2 a3 a4 a5) <(↑(AJ a0 a1 a2 a3 a4 a5).length:Int)):=N0 (N1 (N1 (N1 (N1 (N1 hp)))))
 have n7:((!!decide (a3 <a2))=true→(AE a0 a1 a2 a3 a4 a5).toNat <(AJ a0 a1 a2 a3 a4 a5).length):=by intro h0;have g:=n6 h0;omega
 have n8:=N0 (N1 (N1 (N1 (N1 (N1 (N1 hp))))))
 have n10:=N0 (N1 (N1 (N1 (N1 (N1 (N1 (N1 hp)))))))
 exact(Aa n0 (Aa n1 (Aa n2 (Aa n3 (Aa n4 (Aa n5 (Aa n6 (Aa n7 (Aa n8 (Aa n7 (Aa n10 Ab)))))))))))
noncomputable def OM:=HF (AA Cch L0) (Aj Try.prog 142 0) Sm Alt Lo ED Ds Dr FN NR
theorem Ac1:∀s b ps outs,OM s=some (b,ps,outs)→Wf s ⟨ps,outs,none⟩∧Br (AA C0 L0) b s ps outs:=
 Bh (T:=Kg) Bjg AG (u:=9) (by kernel_rfl) (by decide) (fun⟨a0,a1,a2,a3,a4,a5⟩=>Aha a0 a1 a2 a3 a4 a5) (fun⟨a0,a1,a2,a3,a4,a5⟩=>Ahb a0 a1 a2 a3 a4 a5) ZL (fun _=>AU (n:=85) rfl) fun _ _=>rfl
noncomputable def Sl:=Dz 0 OM L0
theorem Ac0:Hf Sl:=A5 Ac1 AG
def Hl (a0:List TGroup) (a1:TChange):Bool:=Kx a0 a1 !=(0:Int)
def Ri (a0:List TGroup) (a1:TChange):Int:=bif(Hl a0 a1) then Kx a0 a1 else(0:Int)
def Rj (a0:List TGroup) (a1:TChange):List TRow:=bif(Hl a0 a1) then[] else(K1 (a0,a1.5,(↑a1.5.length:Int),(0:Int),a1,[])).snd.snd.snd.snd.snd
def Rl (a0:List TGroup) (a1:TChange):A:=.tup [.dq 0,.v (.int .i64 (Ri a0 a1))]
def Rk (a0:List TGroup) (a1:TChange):Objs:=[(0,some (.deep 71 .row (Rj a0 a1)))]
def Axl (a0:List TGroup) (a1:TChange):List Prop:=[(Av a1.5.length),((!(Hl a0 a1))=true→AK Ds Dr FN (ED (a0,a1.5,(↑a1.5.length:Int),(0:Int),a1,[])) (a0,a1.5,(↑a1.5.length:Int),(0:Int),a1,[]))]
set_option maxRecDepth 100000 in
theorem Axk (a0:List TGroup) (a1:TChange):ER (AA Cch Sl) 9 142 [.sl .group a0,Ak .change a1] 0 []=some (1,Rl a0 a1,1,Rk a0 a1,[(Av a1.5.length),((!(Hl a0 a1))=true→Aj Try.prog (142:FuncId) (0:Nat)=Aj Try.prog (142:FuncId) (0:Nat)),((!(Hl a0 a1))=true→AK Ds Dr FN (ED (a0,a1.5,(↑a1.5.length:Int),(0:Int),a1,[])) (a0,a1.5,(↑a1.5.length:Int),(0:Int),a1,[]))]):=by kernel_rfl
set_option maxRecDepth 100000 in
theorem A3j (a0:List TGroup) (a1:TChange) (hp:∀p∈Axl a0 a1,p):CallOk Try.prog 142 [.sl .group a0,Ak .change a1] 0 [] 1 (Rl a0 a1) 1 (Rk a0 a1):=by
 have n0:=N0 hp
 have n1:((!(Hl a0 a1))=true→Aj Try.prog (142:FuncId) (0:Nat)=Aj Try.prog (142:FuncId) (0:Nat)):=by intros;rfl
 have n2:=N0 (N1 hp)
 exact AH (Ax Bjg Ac0) (Axk a0 a1) (Aa n0 (Aa n1 (Aa n2 Ab)))
def Ww (a0:List TGroup) (a1:TChange):A:=Boi a0 a1
def Wv (a0:List TGroup) (a1:TChange):Objs:=Boh a0 a1
def UY (_a0:List TGroup) (a1:TChange):List Prop:=[Av a1.writes.length]
theorem Bex {l:List TGroup} (i:Nat) {c:TChange} (o:List TRow) (ho:o.length≤9) (hp:AX l=0) (hw:TM l (wN c.writes i)=true):AJ l c.writes (c.writes.length:Int) (i:Int) c o=I4 l o (wN c.writes i).key:=by
 have e:=Bv2 hp hw
 unfold AJ Bp A6
 rw[Air (by omega),tlb,Int.toNat_natCast,A9x]
 unfold I4
 rw[←e]
 rfl
theorem Bui {l:List TGroup} {c:TChange} (i:Nat) (o:List TRow) (ho:o.length≤8) (hp:AX l=0) (hh:Ib c=true) (hw:TM l (wN c.writes i)=true):I1 l c.writes (c.writes.length:Int) (i:Int) c o=Q9 l c o (wN c.writes i):=by
 have:=(Uo l o (wN c.writes i).key).2
 unfold I1 AE
 rw[Bex i o (by omega) hp hw,Air (by omega),Int.toNat_natCast]
 have e:=(Bpl hp hh hw).2
 unfold Q9 Bgw
 rw[←e]
 rfl
theorem Sn {l:List TGroup} {c:TChange} (h:Kx l c=0):
  AK Ds Dr FN (ED (l,c.writes,(c.writes.length:Int),0,c,[])) (l,c.writes,(c.writes.length:Int),0,c,[])∧K1 (l,c.writes,(c.writes.length:Int),0,c,[])=(l,c.writes,(c.writes.length:Int),(c.writes.length:Int),c,Ll l c c.writes.length):=by
 have h8:=Bos h
 obtain⟨h1,k,hk,hx,_,hst,_⟩:=IN (fun i=>(l,c.writes,(c.writes.length:Int),(i:Int),c,Ll l c i):Nat→BE) c.writes.length (fun _=>false) Ds Dr FN (ED (l,c.writes,(c.writes.length:Int),0,c,[])) (l,c.writes,(c.writes.length:Int),0,c,[]) rfl (by show c.writes.length≤((c.writes.length:Int) - 0).toNat;omega)
  (fun i _ _=>by
   show(!!decide ((i:Int) <(c.writes.length:Int)))=_
   rw[nn,Me,Bool.not_false,Bool.and_true])
  (fun i hi _=>by
   obtain⟨hp,hh,hw,_,_,hl,_⟩:=Ju h hi
   show(l,c.writes,(c.writes.length:Int),IntKind.i64.wrap ((i:Int)+1),c,I1 l c.writes (c.writes.length:Int) (i:Int) c (Ll l c i))=(l,c.writes,(c.writes.length:Int),((i+1:Nat):Int),c,Ll l c (i+1))
   rw[EQ (by omega),Bui i _ (by omega) hp hh hw]
   rfl)
  (fun i hi _=>by
   have hin:(!!decide ((i:Int) <(c.writes.length:Int)))=true→i <c.writes.length:=fun h=>by rw[nn] at h;have:=of_decide_eq_true h;omega
   have hop:i <c.writes.length→_:=fun hi=>Bex i (Ll l c i) (by have:=(Ju h hi).2.2.2.2.2.1;omega) (Ju h hi).1 (Ju h hi).2.2.1
   have key:i <c.writes.length→_:=fun hi=>Uo l (Ll l c i) (wN c.writes i).key
   have hk0:i <c.writes.length→(AE l c.writes (c.writes.length:Int) (i:Int) c (Ll l c i))=(((I4 l (Ll l c i) (wN c.writes i).key).length - 1:Nat):Int):=fun hi=>by
    have:=key hi
    have:=(Ju h hi).2.2.2.2.2.1
    unfold AE
    rw[hop hi,i64_in (by omega)]
    omega
   have hcl:i <c.writes.length→(((I4 l (Ll l c i) (wN c.writes i).key).getD ((I4 l (Ll l c i) (wN c.writes i).key).length - 1) (Ae TC.row)).2.length=l.length):=fun hi=>(Ju h hi).2.2.2.2.2.2 _ (getD_in _ _ _ (by have:=key hi;omega))
   have hgr:i <c.writes.length→_:=fun hi=>ZI (Ju h hi).2.2.1
   refine Aa (fun h=>⟨by show(0:Int)≤(i:Int);omega,by have:=hin h;show(i:Int) <(c.writes.length:Int);omega⟩) (Aa (fun h1 h2=>?_) (Aa (fun h1 _=>?_) (Aa (fun h1 _=>?_) (Aa (fun h1=>?_) (Aa (fun h1=>?_) (Aa (fun h1=>?_) (Aa (fun h1=>?_) Ab)))))))
   ·have h3:(((Ll l c i).length:Int)==(0:Int))=false:=h2
    rw[A9x] at h3
    have h4:(Ll l c i).length≠0:=by simpa using h3
    have:=(Ju h (hin h1)).2.2.2.2.2.1
    show(0:Int)≤IntKind.i64.wrap (((Ll l c i).length:Int) - 1)∧IntKind.i64.wrap (((Ll l c i).length:Int) - 1) <((Ll l c i).length:Int)
    rw[i64_in (by omega)]
    omega
   ·have:=(Ju h (hin h1)).2.2.2.2.1
    show Ai l.length
    unfold Ai;omega
   ·have:=(Ju h (hin h1)).2.2.2.2.2.1
    show Ai ((Ll l c i).length+1)
    unfold Ai;omega
   ·obtain⟨_,_,g0,g1,_⟩:=hgr (hin h1)
    show(0:Int)≤(c.writes.getD ((i:Int)).toNat (Ae TC.write)).group∧(c.writes.getD ((i:Int)).toNat (Ae TC.write)).group <(l.length:Int)
    rw[Int.toNat_natCast]
    exact⟨g0,g1⟩
   ·have:=key (hin h1)
    show(0:Int)≤AE l c.writes (c.writes.length:Int) (i:Int) c (Ll l c i)∧AE l c.writes (c.writes.length:Int) (i:Int) c (Ll l c i) <((AJ l c.writes (c.writes.length:Int) (i:Int) c (Ll l c i)).length:Int)
    rw[hk0 (hin h1),hop (hin h1)]
    omega
   ·have:=key (hin h1)
    obtain⟨_,_,g0,g1,_⟩:=hgr (hin h1)
    show(AE l c.writes (c.writes.length:Int) (i:Int) c (Ll l c i)).toNat <(AJ l c.writes (c.writes.length:Int) (i:Int) c (Ll l c i)).length∧(0:Int)≤(c.writes.getD ((i:Int)).toNat (Ae TC.write)).group∧(c.writes.getD ((i:Int)).toNat (Ae TC.write)).group <(((AJ l c.writes (c.writes.length:Int) (i:Int) c (Ll l c i)).getD (AE l c.writes (c.writes.length:Int) (i:Int) c (Ll l c i)).toNat (Ae TC.row)).2.length:Int)
    rw[hk0 (hin h1),hop (hin h1),Int.toNat_natCast,Int.toNat_natCast,hcl (hin h1)]
    exact⟨by omega,g0,g1⟩
   ·obtain⟨_,_,g0,g1,_⟩:=hgr (hin h1)
    show(c.writes.getD ((i:Int)).toNat (Ae TC.write)).group.toNat <((AJ l c.writes (c.writes.length:Int) (i:Int) c (Ll l c i)).getD (AE l c.writes (c.writes.length:Int) (i:Int) c (Ll l c i)).toNat (Ae TC.row)).2.length
    rw[hk0 (hin h1),hop (hin h1),Int.toNat_natCast,Int.toNat_natCast,hcl (hin h1)]
    have g2:(c.writes.getD i (Ae TC.write)).group <(l.length:Int):=g1
    have g3:0≤(c.writes.getD i (Ae TC.write)).group:=g0
    omega)
 have hkn:k=c.writes.length:=by
  rcases Nat.lt_or_ge k c.writes.length with h|h
  ·exact absurd (hst h) (by decide)
  ·omega
 subst hkn
 exact⟨h1,hx⟩
theorem Axj (a0:List TGroup) (a1:TChange) (hp:∀p∈UY a0 a1,p):CallOk Try.prog 142 [.sl .group a0,Ak .change a1] 0 [] 1 (Ww a0 a1) 1 (Wv a0 a1):=by
 have hb:Av a1.writes.length:=hp _ (List.mem_cons_self ..)
 have h:=A3j a0 a1 (Aa hb (Aa (fun h=>(Sn (show Kx a0 a1=0 by
  have h':(!(Kx a0 a1 !=0))=true:=h
  simpa using h')).1) Ab))
 have e:Ri a0 a1=Kx a0 a1∧Rj a0 a1=P6 a0 a1:=by
  unfold Ri Rj Hl P6
  cases hc:Kx a0 a1 !=0 with
  |true=>
   have:(Kx a0 a1==0)=false:=by simpa using hc
   rw[this]
   exact⟨rfl,rfl⟩
  |false=>
   have h0:Kx a0 a1=0:=by simpa using hc
   have:(Kx a0 a1==0)=true:=by simpa using h0
   have q:K1 (a0,a1.5,(a1.5.length:Int),0,a1,[])=(a0,a1.writes,(a1.writes.length:Int),(a1.writes.length:Int),a1,Ll a0 a1 a1.writes.length):=(Sn h0).2
   rw[this,q,cond_false]
   exact⟨h0.symm,rfl⟩
 unfold Rl Rk at h
 rw[e.1,e.2] at h
 exact h
def MK:List A→Nat→Objs→Option A9
 | [y0,y1],nx,o=>match Jt .group y0,AQ .change y1 with
  |some a0,some (a1,p1)=>some (1,(Ww a0 a1).pk (AC nx),nx+1,AB nx (Wv a0 a1)++o,p1++(UY a0 a1))
  |_,_=>none
 |_,_,_=>none
theorem UZ:EV Try.prog 142 MK:=fun args nx o k x nx' o' ps h=>by
 unfold MK at h
 split at h<;>first|(cases h;done)|skip
 split at h<;>first|(cases h;done)|skip
 rename_i a0 a1 p1 e0 e1
 cases h
 refine⟨fun hp=>?_,_,rfl⟩
 have q1:=fun p hm=>hp p (List.mem_append.2 (.inl hm))
 have r1:=fun p hm=>hp p (List.mem_append.2 (.inr hm))
 refine Ah (Ag (Axj a0 a1 r1) (Nat.le_refl _) (Ac rfl (Ac (Af _ _) An)) nx o) fun F N R vs hl=>?_
 obtain⟨v0,w0,rfl,h0,hl⟩:=hl.inv
 obtain⟨v1,w1,rfl,h1,hl⟩:=hl.inv
 exact HL.cons (BL e0 h0) (HL.cons (Am e1 q1 h1) (hl))
noncomputable def Bnh:=A7 142 MK Cch
theorem Bde:CU Try.prog Bnh:=Aw UZ Bjg
abbrev Df:Type:=(List TGroup)×Int×TChange×(List TRow)
def MZ (x:Df):St:=⟨82,3,[(0,.sl .group x.1),(3,.own 0 0),(7,.dq 2),(8,.v (.int .i64 x.2.1))],[(0,some (.box 136 [.v (.int .i64 x.2.2.1.site),.v (.int .i64 x.2.2.1.seq),.v (.int .i64 x.2.2.1.stamp.n),.v (.int .i64 x.2.2.1.stamp.site),.v (.int .i64 x.2.2.1.vec.a),.v (.int .i64 x.2.2.1.vec.b),.sl .write x.2.2.1.writes])),(2,some (.deep 71 .row x.2.2.2))]⟩
def PP:St→Option Df
 |⟨82,3,[(0,.sl .group z0),(3,.own 0 0),(7,.dq 2),(8,.v (.int .i64 z1))],[(0,some (.box 136 [.v (.int .i64 z2),.v (.int .i64 z3),.v (.int .i64 z4),.v (.int .i64 z5),.v (.int .i64 z6),.v (.int .i64 z7),.sl .write z8])),(2,some (.deep 71 .row z9))]⟩=>some (z0,z1,⟨z2,z3,⟨z4,z5⟩,⟨z6,z7⟩,z8⟩,z9)
 |_=>none
theorem Aow:∀s x,PP s=some x→s=MZ x:=fun s x h=>by
 unfold PP at h
 split at h
 ·cases h;rfl
 ·cases h
def Abw:CX:=⟨2,3,[0,3,7,8],[],[(0,0),(7,2)],[0,7],[7],[2,0]⟩
def A43:Dp:=⟨[.nilD 7 71 .row],[(0,0),(1,2)],[0,3,7,8],[0,1]⟩
def BX (_a0:List TGroup) (_a1:Int) (_a2:TChange) (a3:List TRow):Bool:=(↑a3.length:Int)==(0:Int)
def Bk (_a0:List TGroup) (_a1:Int) (_a2:TChange) (a3:List TRow):Int:=IntKind.i64.wrap ((↑a3.length:Int) - (1:Int))
def AM (_a0:List TGroup) (a1:Int) (a2:TChange) (_a3:List TRow):Bool:=!!decide (a1 <(↑a2.5.length:Int))
def AR (a0:List TGroup) (a1:Int) (a2:TChange) (a3:List TRow):List TRow:=bif(BX a0 a1 a2 a3)||!(a3.getD (Bk a0 a1 a2 a3).toNat (Ae TC.row)).1.toList==(a2.5.getD a1.toNat (Ae TC.write)).1.toList then a3++[Wb TC.row TC.cell (TRow.mk (a2.5.getD a1.toNat (Ae TC.write)).1 []) (List.replicate a0.length zeroC)] else a3
def AL (a0:List TGroup) (a1:Int) (a2:TChange) (a3:List TRow):Int:=IntKind.i64.wrap ((↑(AR a0 a1 a2 a3).length:Int) - (1:Int))
def KV (a0:List TGroup) (a1:Int) (a2:TChange) (a3:List TRow):List TRow:=(AR a0 a1 a2 a3).set (AL a0 a1 a2 a3).toNat (Wb TC.row TC.cell ((AR a0 a1 a2 a3).getD (AL a0 a1 a2 a3).toNat (Ae TC.row)) (((AR a0 a1 a2 a3).getD (AL a0 a1 a2 a3).toNat (Ae TC.row)).2.set (a2.5.getD a1.toNat (Ae TC.write)).2.toNat (JX (a0.getD (a2.5.getD a1.toNat (Ae TC.write)).2.toNat (Ae TC.group)).2 a2.3 a2.4 (a2.5.getD a1.toNat (Ae TC.write)).3 (a2.5.getD a1.toNat (Ae TC.write)).4)))
def Fp (x:Df):Df:=(x.1,IntKind.i64.wrap (x.2.1+(1:Int)),x.2.2.1,KV x.1 x.2.1 x.2.2.1 x.2.2.2)
def Fo (x:Df):Cnd:=some ((AM x.1 x.2.1 x.2.2.1 x.2.2.2))
def VO (x:Df):List Prop:=[((AM x.1 x.2.1 x.2.2.1 x.2.2.2)=true→(0:Int)≤x.2.1∧x.2.1 <(↑x.2.2.1.5.length:Int)),((AM x.1 x.2.1 x.2.2.1 x.2.2.2)=true→(BX x.1 x.2.1 x.2.2.1 x.2.2.2)=false→(0:Int)≤(Bk x.1 x.2.1 x.2.2.1 x.2.2.2)∧(Bk x.1 x.2.1 x.2.2.1 x.2.2.2) <(↑x.2.2.2.length:Int)),((AM x.1 x.2.1 x.2.2.1 x.2.2.2)=true→(BX x.1 x.2.1 x.2.2.1 x.2.2.2)=false→(Bk x.1 x.2.1 x.2.2.1 x.2.2.2).toNat <x.2.2.2.length),((AM x.1 x.2.1 x.2.2.1 x.2.2.2)=true→((BX x.1 x.2.1 x.2.2.1 x.2.2.2)||!(x.2.2.2.getD (Bk x.1 x.2.1 x.2.2.1 x.2.2.2).toNat (Ae TC.row)).1.toList==(x.2.2.1.5.getD x.2.1.toNat (Ae TC.write)).1.toList)=true→Ai x.1.length),((AM x.1 x.2.1 x.2.2.1 x.2.2.2)=true→((BX x.1 x.2.1 x.2.2.1 x.2.2.2)||!(x.2.2.2.getD (Bk x.1 x.2.1 x.2.2.1 x.2.2.2).toNat (Ae TC.row)).1.toList==(x.2.2.1.5.getD x.2.1.toNat (Ae TC.write)).1.toList)=true→Ai (x.2.2.2.length+(1:Nat))),((AM x.1 x.2.1 x.2.2.1 x.2.2.2)=true→(0:Int)≤(x.2.2.1.5.getD x.2.1.toNat (Ae TC.write)).2∧(x.2.2.1.5.getD x.2.1.toNat (Ae TC.write)).2 <(↑x.1.length:Int)),((AM x.1 x.2.1 x.2.2.1 x.2.2.2)=true→(0:Int)≤(AL x.1 x.2.1 x.2.2.1 x.2.2.2)∧(AL x.1 x.2.1 x.2.2.1 x.2.2.2) <(↑(AR x.1 x.2.1 x.2.2.1 x.2.2.2).length:Int)),((AM x.1 x.2.1 x.2.2.1 x.2.2.2)=true→(AL x.1 x.2.1 x.2.2.1 x.2.2.2).toNat <(AR x.1 x.2.1 x.2.2.1 x.2.2.2).length),((AM x.1 x.2.1 x.2.2.1 x.2.2.2)=true→(AL x.1 x.2.1 x.2.2.1 x.2.2.2).toNat <(AR x.1 x.2.1 x.2.2.1 x.2.2.2).length∧(0:Int)≤(x.2.2.1.5.getD x.2.1.toNat (Ae TC.write)).2∧(x.2.2.1.5.getD x.2.1.toNat (Ae TC.write)).2 <(↑((AR x.1 x.2.1 x.2.2.1 x.2.2.2).getD (AL x.1 x.2.1 x.2.2.1 x.2.2.2).toNat (Ae TC.row)).2.length:Int)),((AM x.1 x.2.1 x.2.2.1 x.2.2.2)=true→(AL x.1 x.2.1 x.2.2.1 x.2.2.2).toNat <(AR x.1 x.2.1 x.2.2.1 x.2.2.2).length),((AM x.1 x.2.1 x.2.2.1 x.2.2.2)=true→(x.2.2.1.5.getD x.2.1.toNat (Ae TC.write)).2.toNat <((AR x.1 x.2.1 x.2.2.1 x.2.2.2).getD (AL x.1 x.2.1 x.2.2.1 x.2.2.2).toNat (Ae TC.row)).2.length)]
def IG (x:Df):List Prop:=[((AM x.1 x.2.1 x.2.2.1 x.2.2.2)=true→(0:Int)≤x.2.1∧x.2.1 <(↑x.2.2.1.5.length:Int)),((AM x.1 x.2.1 x.2.2.1 x.2.2.2)=true→(BX x.1 x.2.1 x.2.2.1 x.2.2.2)=false→(0:Int)≤(Bk x.1 x.2.1 x.2.2.1 x.2.2.2)∧(Bk x.1 x.2.1 x.2.2.1 x.2.2.2) <(↑x.2.2.2.length:Int)),((AM x.1 x.2.1 x.2.2.1 x.2.2.2)=true→((BX x.1 x.2.1 x.2.2.1 x.2.2.2)||!(x.2.2.2.getD (Bk x.1 x.2.1 x.2.2.1 x.2.2.2).toNat (Ae TC.row)).1.toList==(x.2.2.1.5.getD x.2.1.toNat (Ae TC.write)).1.toList)=true→Ai x.1.length),((AM x.1 x.2.1 x.2.2.1 x.2.2.2)=true→((BX x.1 x.2.1 x.2.2.1 x.2.2.2)||!(x.2.2.2.getD (Bk x.1 x.2.1 x.2.2.1 x.2.2.2).toNat (Ae TC.row)).1.toList==(x.2.2.1.5.getD x.2.1.toNat (Ae TC.write)).1.toList)=true→Ai (x.2.2.2.length+(1:Nat))),((AM x.1 x.2.1 x.2.2.1 x.2.2.2)=true→(0:Int)≤(x.2.2.1.5.getD x.2.1.toNat (Ae TC.write)).2∧(x.2.2.1.5.getD x.2.1.toNat (Ae TC.write)).2 <(↑x.1.length:Int)),((AM x.1 x.2.1 x.2.2.1 x.2.2.2)=true→(0:Int)≤(AL x.1 x.2.1 x.2.2.1 x.2.2.2)∧(AL x.1 x.2.1 x.2.2.1 x.2.2.2) <(↑(AR x.1 x.2.1 x.2.2.1 x.2.2.2).length:Int)),((AM x.1 x.2.1 x.2.2.1 x.2.2.2)=true→(AL x.1 x.2.1 x.2.2.1 x.2.2.2).toNat <(AR x.1 x.2.1 x.2.2.1 x.2.2.2).length∧(0:Int)≤(x.2.2.1.5.getD x.2.1.toNat (Ae TC.write)).2∧(x.2.2.1.5.getD x.2.1.toNat (Ae TC.write)).2 <(↑((AR x.1 x.2.1 x.2.2.1 x.2.2.2).getD (AL x.1 x.2.1 x.2.2.1 x.2.2.2).toNat (Ae TC.row)).2.length:Int)),((AM x.1 x.2.1 x.2.2.1 x.2.2.2)=true→(x.2.2.1.5.getD x.2.1.toNat (Ae TC.write)).2.toNat <((AR x.1 x.2.1 x.2.2.1 x.2.2.2).getD (AL x.1 x.2.1 x.2.2.1 x.2.2.2).toNat (Ae TC.row)).2.length)]
def Tv (x:Df):Bo:=[(some 0,some (!decide (x.2.1 <(↑x.2.2.1.5.length:Int))),⟨82,3,[(7,.dq 2)],[(2,some (.deep 71 .row x.2.2.2)),(0,some (.box 136 [.v (.int .i64 x.2.2.1.1),.v (.int .i64 x.2.2.1.2),.v (.int .i64 x.2.2.1.3.1),.v (.int .i64 x.2.2.1.3.2),.v (.int .i64 x.2.2.1.4.1),.v (.int .i64 x.2.2.1.4.2),.sl .write x.2.2.1.5]))]⟩)]
def G7 (x:Df):Nat:=((↑x.2.2.1.5.length:Int) - x.2.1).toNat
def VQ (x:Df):Df:=Bc Fp Fo (G7 x) x
set_option maxRecDepth 100000 in
theorem A14 (a0:List TGroup) (a1:Int) (a2:TChange) (a3:List TRow):By (AA Bnh L0) 9 (Aj Try.prog 144 0) Abw (MZ (a0,a1,a2,a3))=some (VO (a0,a1,a2,a3),Tv (a0,a1,a2,a3),Fo (a0,a1,a2,a3),MZ (Fp (a0,a1,a2,a3))):=by kernel_rfl
set_option maxRecDepth 100000 in
theorem A15 (a0:List TGroup) (a1:Int) (a2:TChange) (a3:List TRow) (hp:∀p∈IG (a0,a1,a2,a3),p):∀p∈VO (a0,a1,a2,a3),p:=by
 have n0:=N0 hp
 have n1:((AM a0 a1 a2 a3)=true→(BX a0 a1 a2 a3)=false→(0:Int)≤(Bk a0 a1 a2 a3)∧(Bk a0 a1 a2 a3) <(↑a3.length:Int)):=N0 (N1 hp)
 have n2:((AM a0 a1 a2 a3)=true→(BX a0 a1 a2 a3)=false→(Bk a0 a1 a2 a3).toNat <a3.length):=by intro h0 h1;have g:=n1 h0 h1;omega
 have n3:=N0 (N1 (N1 hp))
 have n4:=N0 (N1 (N1 (N1 hp)))
 have n5:=N0 (N1 (N1 (N1 (N1 hp))))
 have n6:((AM a0 a1 a2 a3)=true→(0:Int)≤(AL a0 a1 a2 a3)∧(AL a0 a1 a2 a3) <(↑(AR a0 a1 a2 a3).length:Int)):=N0 (N1 (N1 (N1 (N1 (N1 hp)))))
 have n7:((AM a0 a1 a2 a3)=true→(AL a0 a1 a2 a3).toNat <(AR a0 a1 a2 a3).length):=by intro h0;have g:=n6 h0;omega
 have n8:=N0 (N1 (N1 (N1 (N1 (N1 (N1 hp))))))
 have n10:=N0 (N1 (N1 (N1 (N1 (N1 (N1 (N1 hp)))))))
 exact(Aa n0 (Aa n1 (Aa n2 (Aa n3 (Aa n4 (Aa n5 (Aa n6 (Aa n7 (Aa n8 (Aa n7 (Aa n10 Ab)))))))))))
noncomputable def VP:=HF (AA Bnh L0) (Aj Try.prog 144 0) Abw A43 PP G7 Fp Fo IG Tv
theorem Avj:∀s b ps outs,VP s=some (b,ps,outs)→Wf s ⟨ps,outs,none⟩∧Br (AA C0 L0) b s ps outs:=
 Bh (T:=MZ) Bde AG (u:=9) (by kernel_rfl) (by decide) (fun⟨a0,a1,a2,a3⟩=>A14 a0 a1 a2 a3) (fun⟨a0,a1,a2,a3⟩=>A15 a0 a1 a2 a3) Aow (fun _=>AU (n:=82) rfl) fun _ _=>rfl
noncomputable def Abv:=Dz 0 VP L0
theorem Avi:Hf Abv:=A5 Avj AG
def J8 (a0:List TGroup) (a1:TChange):Bool:=Kx a0 a1 !=(0:Int)
def Afr (a0:List TGroup) (a1:TChange):Int:=bif(J8 a0 a1) then Kx a0 a1 else(0:Int)
def Afs (a0:List TGroup) (a1:TChange):List TRow:=bif(J8 a0 a1) then[] else(VQ (a0,(0:Int),a1,[])).snd.snd.snd
def Afu (a0:List TGroup) (a1:TChange):A:=.tup [.dq 0,.v (.int .i64 (Afr a0 a1))]
def Aft (a0:List TGroup) (a1:TChange):Objs:=[(0,some (.deep 71 .row (Afs a0 a1)))]
def Bh5 (a0:List TGroup) (a1:TChange):List Prop:=[(Av a1.5.length),(∀(g:TGroup),g∈a0→Av g.1.size),((!(J8 a0 a1))=true→AK Fp Fo IG (G7 (a0,(0:Int),a1,[])) (a0,(0:Int),a1,[]))]
set_option maxRecDepth 100000 in
theorem Bh4 (a0:List TGroup) (a1:TChange):ER (AA Bnh Abv) 9 144 [.sl .group a0,Ak .change a1] 0 []=some (1,Afu a0 a1,1,Aft a0 a1,[(Av a1.5.length),(∀(g:TGroup),g∈a0→Av g.1.size),((!(J8 a0 a1))=true→Aj Try.prog (144:FuncId) (0:Nat)=Aj Try.prog (144:FuncId) (0:Nat)),((!(J8 a0 a1))=true→AK Fp Fo IG (G7 (a0,(0:Int),a1,[])) (a0,(0:Int),a1,[]))]):=by kernel_rfl
set_option maxRecDepth 100000 in
theorem Bl8 (a0:List TGroup) (a1:TChange) (hp:∀p∈Bh5 a0 a1,p):CallOk Try.prog 144 [.sl .group a0,Ak .change a1] 0 [] 1 (Afu a0 a1) 1 (Aft a0 a1):=by
 have n0:=N0 hp
 have n1:=N0 (N1 hp)
 have n2:((!(J8 a0 a1))=true→Aj Try.prog (144:FuncId) (0:Nat)=Aj Try.prog (144:FuncId) (0:Nat)):=by intros;rfl
 have n3:=N0 (N1 (N1 hp))
 exact AH (Ax Bde Avi) (Bh4 a0 a1) (Aa n0 (Aa n1 (Aa n2 (Aa n3 Ab))))
def Asf (a0:List TGroup) (a1:TChange):A:=Boi a0 a1
def Ase (a0:List TGroup) (a1:TChange):Objs:=Boh a0 a1
def Akh (a0:List TGroup) (a1:TChange):List Prop:=[Av a1.writes.length,∀g∈a0,Av g.1.size]
theorem Bh7 (l:List TGroup) (i:Nat) (c:TChange) (o:List TRow) (ho:o.length≤9):AR l (i:Int) c o=I4 l o (wN c.writes i).key:=by
 unfold AR BX Bk
 rw[Air (by omega),tlb,Int.toNat_natCast,A9x]
 rfl
theorem Bwq {l:List TGroup} {c:TChange} (i:Nat) (o:List TRow) (ho:o.length≤8) (hp:AX l=0) (hh:Ib c=true) (hw:TM l (wN c.writes i)=true):KV l (i:Int) c o=Q9 l c o (wN c.writes i):=by
 have:=(Uo l o (wN c.writes i).key).2
 unfold KV AL
 rw[Bh7 l i c o (by omega),Air (by omega),Int.toNat_natCast]
 have e:=(Bpl hp hh hw).1
 unfold Q9 Bgw
 rw[←e]
 rfl
theorem Abx {l:List TGroup} {c:TChange} (h:Kx l c=0):
  AK Fp Fo IG (G7 (l,0,c,[])) (l,0,c,[])∧VQ (l,0,c,[])=(l,(c.writes.length:Int),c,Ll l c c.writes.length):=by
 have h8:=Bos h
 obtain⟨h1,k,hk,hx,_,hst,_⟩:=IN (fun i=>(l,(i:Int),c,Ll l c i):Nat→Df) c.writes.length (fun _=>false) Fp Fo IG (G7 (l,0,c,[])) (l,0,c,[]) rfl (by show c.writes.length≤((c.writes.length:Int) - 0).toNat;omega)
  (fun i _ _=>by
   show(!!decide ((i:Int) <(c.writes.length:Int)))=_
   rw[nn,Me,Bool.not_false,Bool.and_true])
  (fun i hi _=>by
   obtain⟨hp,hh,hw,_,_,hl,_⟩:=Ju h hi
   show(l,IntKind.i64.wrap ((i:Int)+1),c,KV l (i:Int) c (Ll l c i))=(l,((i+1:Nat):Int),c,Ll l c (i+1))
   rw[EQ (by omega),Bwq i _ (by omega) hp hh hw]
   rfl)
  (fun i hi _=>by
   have hin:AM l (i:Int) c (Ll l c i)=true→i <c.writes.length:=fun h=>by unfold AM at h;rw[nn] at h;have:=of_decide_eq_true h;have:(c.5.length:Int)=(c.writes.length:Int):=rfl;omega
   have hop:i <c.writes.length→_:=fun hi=>Bh7 l i c (Ll l c i) (by have:=(Ju h hi).2.2.2.2.2.1;omega)
   have key:i <c.writes.length→_:=fun hi=>Uo l (Ll l c i) (wN c.writes i).key
   have hk0:i <c.writes.length→(AL l (i:Int) c (Ll l c i))=(((I4 l (Ll l c i) (wN c.writes i).key).length - 1:Nat):Int):=fun hi=>by
    have:=key hi
    have:=(Ju h hi).2.2.2.2.2.1
    unfold AL
    rw[hop hi,i64_in (by omega)]
    omega
   have hcl:i <c.writes.length→(((I4 l (Ll l c i) (wN c.writes i).key).getD ((I4 l (Ll l c i) (wN c.writes i).key).length - 1) (Ae TC.row)).2.length=l.length):=fun hi=>(Ju h hi).2.2.2.2.2.2 _ (getD_in _ _ _ (by have:=key hi;omega))
   have hgr:i <c.writes.length→_:=fun hi=>ZI (Ju h hi).2.2.1
   refine Aa (fun h=>⟨by show(0:Int)≤(i:Int);omega,by have:=hin h;show(i:Int) <(c.writes.length:Int);omega⟩) (Aa (fun h1 h2=>?_) (Aa (fun h1 _=>?_) (Aa (fun h1 _=>?_) (Aa (fun h1=>?_) (Aa (fun h1=>?_) (Aa (fun h1=>?_) (Aa (fun h1=>?_) Ab)))))))
   ·have h3:(((Ll l c i).length:Int)==(0:Int))=false:=h2
    rw[A9x] at h3
    have h4:(Ll l c i).length≠0:=by simpa using h3
    have:=(Ju h (hin h1)).2.2.2.2.2.1
    show(0:Int)≤IntKind.i64.wrap (((Ll l c i).length:Int) - 1)∧IntKind.i64.wrap (((Ll l c i).length:Int) - 1) <((Ll l c i).length:Int)
    rw[i64_in (by omega)]
    omega
   ·have:=(Ju h (hin h1)).2.2.2.2.1
    show Ai l.length
    unfold Ai;omega
   ·have:=(Ju h (hin h1)).2.2.2.2.2.1
    show Ai ((Ll l c i).length+1)
    unfold Ai;omega
   ·obtain⟨_,_,g0,g1,_⟩:=hgr (hin h1)
    show(0:Int)≤(c.writes.getD ((i:Int)).toNat (Ae TC.write)).group∧(c.writes.getD ((i:Int)).toNat (Ae TC.write)).group <(l.length:Int)
    rw[Int.toNat_natCast]
    exact⟨g0,g1⟩
   ·have:=key (hin h1)
    show(0:Int)≤AL l (i:Int) c (Ll l c i)∧AL l (i:Int) c (Ll l c i) <((AR l (i:Int) c (Ll l c i)).length:Int)
    rw[hk0 (hin h1),hop (hin h1)]
    omega
   ·have:=key (hin h1)
    obtain⟨_,_,g0,g1,_⟩:=hgr (hin h1)
    show(AL l (i:Int) c (Ll l c i)).toNat <(AR l (i:Int) c (Ll l c i)).length∧(0:Int)≤(c.writes.getD ((i:Int)).toNat (Ae TC.write)).group∧(c.writes.getD ((i:Int)).toNat (Ae TC.write)).group <(((AR l (i:Int) c (Ll l c i)).getD (AL l (i:Int) c (Ll l c i)).toNat (Ae TC.row)).2.length:Int)
    rw[hk0 (hin h1),hop (hin h1),Int.toNat_natCast,Int.toNat_natCast,hcl (hin h1)]
    exact⟨by omega,g0,g1⟩
   ·obtain⟨_,_,g0,g1,_⟩:=hgr (hin h1)
    show(c.writes.getD ((i:Int)).toNat (Ae TC.write)).group.toNat <((AR l (i:Int) c (Ll l c i)).getD (AL l (i:Int) c (Ll l c i)).toNat (Ae TC.row)).2.length
    rw[hk0 (hin h1),hop (hin h1),Int.toNat_natCast,Int.toNat_natCast,hcl (hin h1)]
    have g2:(c.writes.getD i (Ae TC.write)).group <(l.length:Int):=g1
    have g3:0≤(c.writes.getD i (Ae TC.write)).group:=g0
    omega)
 have hkn:k=c.writes.length:=by
  rcases Nat.lt_or_ge k c.writes.length with h|h
  ·exact absurd (hst h) (by decide)
  ·omega
 subst hkn
 exact⟨h1,hx⟩
theorem Bh3 (a0:List TGroup) (a1:TChange) (hp:∀p∈Akh a0 a1,p):CallOk Try.prog 144 [.sl .group a0,Ak .change a1] 0 [] 1 (Asf a0 a1) 1 (Ase a0 a1):=by
 have hb:Av a1.writes.length:=hp _ (List.mem_cons_self ..)
 have hw:∀g∈a0,Av g.1.size:=hp _ (List.mem_cons_of_mem _ (List.mem_cons_self ..))
 have h:=Bl8 a0 a1 (Aa hb (Aa hw (Aa (fun h=>(Abx (show Kx a0 a1=0 by
  have h':(!(Kx a0 a1 !=0))=true:=h
  simpa using h')).1) Ab)))
 have e:Afr a0 a1=Kx a0 a1∧Afs a0 a1=P6 a0 a1:=by
  unfold Afr Afs J8 P6
  cases hc:Kx a0 a1 !=0 with
  |true=>
   have:(Kx a0 a1==0)=false:=by simpa using hc
   rw[this]
   exact⟨rfl,rfl⟩
  |false=>
   have h0:Kx a0 a1=0:=by simpa using hc
   have:(Kx a0 a1==0)=true:=by simpa using h0
   rw[this,(Abx h0).2,cond_false]
   exact⟨h0.symm,rfl⟩
 unfold Afu Aft at h
 rw[e.1,e.2] at h
 exact h
def Afv:List A→Nat→Objs→Option A9
 | [y0,y1],nx,o=>match Jt .group y0,AQ .change y1 with
  |some a0,some (a1,p1)=>some (1,(Asf a0 a1).pk (AC nx),nx+1,AB nx (Ase a0 a1)++o,p1++(Akh a0 a1))
  |_,_=>none
 |_,_,_=>none
theorem Bbl:EV Try.prog 144 Afv:=fun args nx o k x nx' o' ps h=>by
 unfold Afv at h
 split at h<;>first|(cases h;done)|skip
 split at h<;>first|(cases h;done)|skip
 rename_i a0 a1 p1 e0 e1
 cases h
 refine⟨fun hp=>?_,_,rfl⟩
 have q1:=fun p hm=>hp p (List.mem_append.2 (.inl hm))
 have r1:=fun p hm=>hp p (List.mem_append.2 (.inr hm))
 refine Ah (Ag (Bh3 a0 a1 r1) (Nat.le_refl _) (Ac rfl (Ac (Af _ _) An)) nx o) fun F N R vs hl=>?_
 obtain⟨v0,w0,rfl,h0,hl⟩:=hl.inv
 obtain⟨v1,w1,rfl,h1,hl⟩:=hl.inv
 exact HL.cons (BL e0 h0) (HL.cons (Am e1 q1 h1) (hl))
end Go.Proofs.Yteebobbhhgmeiaa
namespace Go.Proofs.Yteebobbhhgmeiaa
open Go.RowKit
abbrev Dg:Type:=(List TGroup)×(List TRow)×Int
def M0 (x:Dg):St:=⟨50,0,[(0,.sl .group x.1),(1,.sl .row x.2.1),(6,.v (.int .i64 x.2.2))],[]⟩
def PQ:St→Option Dg
 |⟨50,0,[(0,.sl .group z0),(1,.sl .row z1),(6,.v (.int .i64 z2))],[]⟩=>some (z0,z1,z2)
 |_=>none
theorem Aoy:∀s x,PQ s=some x→s=M0 x:=fun s x h=>by
 unfold PQ at h
 split at h
 ·cases h;rfl
 ·cases h
def Abz:CX:=⟨0,0,[0,1,6],[],[],[],[4,5],[]⟩
def A46:Dp:=⟨[],[],[0,1,6],[]⟩
def G8 (_a0:List TGroup) (_a1:List TRow) (a2:Int):Int:=IntKind.i64.wrap (a2 - (1:Int))
def BK (a0:List TGroup) (a1:List TRow) (a2:Int):Bool:=Ap a0 (a1.getD a2.toNat (Ae TC.row)) !=(0:Int)
def Bg (_a0:List TGroup) (a1:List TRow) (a2:Int):Bool:=!!decide (a2 <(↑a1.length:Int))
def D8 (a0:List TGroup) (a1:List TRow) (a2:Int):Bool:=(Bg a0 a1 a2)&&((BK a0 a1 a2)||(Bu (a1.getD a2.toNat (Ae TC.row))||decide (a2 >(0:Int))&&!Op.bytesLess (a1.getD (G8 a0 a1 a2).toNat (Ae TC.row)).1.toList (a1.getD a2.toNat (Ae TC.row)).1.toList))
def Avl (a0:List TGroup) (a1:List TRow) (a2:Int):Bool:=(Bg a0 a1 a2)&&!(D8 a0 a1 a2)
def IH (a0:List TGroup) (a1:List TRow) (a2:Int):Int:=bif(BK a0 a1 a2) then Ap a0 (a1.getD a2.toNat (Ae TC.row)) else(100:Int)
def Aox (a0:List TGroup) (a1:List TRow) (a2:Int):Int:=Ap a0 (a1.getD a2.toNat (Ae TC.row))
def Ha (x:Dg):Dg:=(x.1,x.2.1,IntKind.i64.wrap (x.2.2+(1:Int)))
def G9 (x:Dg):Cnd:=some (Avl x.1 x.2.1 x.2.2)
def VR (x:Dg):List Prop:=[((Bg x.1 x.2.1 x.2.2)=true→(0:Int)≤x.2.2∧x.2.2 <(↑x.2.1.length:Int)),((Bg x.1 x.2.1 x.2.2)=true→∀(g:TGroup),g∈x.1→Av g.1.size),((Bg x.1 x.2.1 x.2.2)=true→(!(BK x.1 x.2.1 x.2.2))=true→(0:Int)≤x.2.2∧x.2.2 <(↑x.2.1.length:Int)),((Bg x.1 x.2.1 x.2.2)=true→(!(BK x.1 x.2.1 x.2.2))=true→Ai (x.2.1.getD x.2.2.toNat (Ae TC.row)).2.length),((Bg x.1 x.2.1 x.2.2)=true→(!(BK x.1 x.2.1 x.2.2))=true→decide (x.2.2 >(0:Int))=true→Bu (x.2.1.getD x.2.2.toNat (Ae TC.row))=false→(0:Int)≤(G8 x.1 x.2.1 x.2.2)∧(G8 x.1 x.2.1 x.2.2) <(↑x.2.1.length:Int)),((Bg x.1 x.2.1 x.2.2)=true→(!(BK x.1 x.2.1 x.2.2))=true→decide (x.2.2 >(0:Int))=true→Bu (x.2.1.getD x.2.2.toNat (Ae TC.row))=false→(0:Int)≤x.2.2∧x.2.2 <(↑x.2.1.length:Int))]
def J9 (x:Dg):List Prop:=[((Bg x.1 x.2.1 x.2.2)=true→(0:Int)≤x.2.2∧x.2.2 <(↑x.2.1.length:Int)),((Bg x.1 x.2.1 x.2.2)=true→∀(g:TGroup),g∈x.1→Av g.1.size),((Bg x.1 x.2.1 x.2.2)=true→(!(BK x.1 x.2.1 x.2.2))=true→(0:Int)≤x.2.2∧x.2.2 <(↑x.2.1.length:Int)),((Bg x.1 x.2.1 x.2.2)=true→(!(BK x.1 x.2.1 x.2.2))=true→Ai (x.2.1.getD x.2.2.toNat (Ae TC.row)).2.length),((Bg x.1 x.2.1 x.2.2)=true→(!(BK x.1 x.2.1 x.2.2))=true→decide (x.2.2 >(0:Int))=true→Bu (x.2.1.getD x.2.2.toNat (Ae TC.row))=false→(0:Int)≤(G8 x.1 x.2.1 x.2.2)∧(G8 x.1 x.2.1 x.2.2) <(↑x.2.1.length:Int)),((Bg x.1 x.2.1 x.2.2)=true→(!(BK x.1 x.2.1 x.2.2))=true→decide (x.2.2 >(0:Int))=true→Bu (x.2.1.getD x.2.2.toNat (Ae TC.row))=false→(0:Int)≤x.2.2∧x.2.2 <(↑x.2.1.length:Int))]
def Tw (x:Dg):Bo:=[(some 0,some (!decide (x.2.2 <(↑x.2.1.length:Int))),⟨50,0,[(4,.dead),(5,.dead)],[]⟩),(none,some ((D8 x.1 x.2.1 x.2.2)),⟨50,0,[(4,.v (.int .i64 (IH x.1 x.2.1 x.2.2))),(5,.v (.int .i64 (Aox x.1 x.2.1 x.2.2)))],[]⟩)]
def II (x:Dg):Nat:=((↑x.2.1.length:Int) - x.2.2).toNat
def KW (x:Dg):Dg:=Bc Ha G9 (II x) x
set_option maxRecDepth 100000 in
theorem A16 (a0:List TGroup) (a1:List TRow) (a2:Int):By (AA Cn L0) 9 (Aj Try.prog 93 0) Abz (M0 (a0,a1,a2))=some (VR (a0,a1,a2),Tw (a0,a1,a2),G9 (a0,a1,a2),M0 (Ha (a0,a1,a2))):=by kernel_rfl
set_option maxRecDepth 100000 in
theorem A17 (a0:List TGroup) (a1:List TRow) (a2:Int) (hp:∀p∈J9 (a0,a1,a2),p):∀p∈VR (a0,a1,a2),p:=by
 have n0:=N0 hp
 have n1:=N0 (N1 hp)
 have n2:=N0 (N1 (N1 hp))
 have n3:=N0 (N1 (N1 (N1 hp)))
 have n4:=N0 (N1 (N1 (N1 (N1 hp))))
 have n5:=N0 (N1 (N1 (N1 (N1 (N1 hp)))))
 exact(Aa n0 (Aa n1 (Aa n2 (Aa n3 (Aa n4 (Aa n5 Ab))))))
noncomputable def VS:=HF (AA Cn L0) (Aj Try.prog 93 0) Abz A46 PQ II Ha G9 J9 Tw
theorem Avm:∀s b ps outs,VS s=some (b,ps,outs)→Wf s ⟨ps,outs,none⟩∧Br (AA C0 L0) b s ps outs:=
 Bh (T:=M0) Bdz AG (u:=9) (by kernel_rfl) (by decide) (fun⟨a0,a1,a2⟩=>A16 a0 a1 a2) (fun⟨a0,a1,a2⟩=>A17 a0 a1 a2) Aoy (fun _=>AU (n:=50) rfl) fun _ _=>rfl
noncomputable def Aby:=Dz 0 VS L0
theorem Avk:Hf Aby:=A5 Avm AG
def No (a0:List TGroup) (_a1:List TRow):Bool:=AX a0 !=(0:Int)
def YB (a0:List TGroup) (a1:List TRow):List TGroup:=(KW (a0,a1,(0:Int))).fst
def YA (a0:List TGroup) (a1:List TRow):Int:=(KW (a0,a1,(0:Int))).snd.snd
def Yz (a0:List TGroup) (a1:List TRow):List TRow:=(KW (a0,a1,(0:Int))).snd.fst
def Afw (a0:List TGroup) (a1:List TRow):Int:=bif(No a0 a1) then AX a0 else bif D8 (YB a0 a1) (Yz a0 a1) (YA a0 a1) then IH (YB a0 a1) (Yz a0 a1) (YA a0 a1) else(0:Int)
def Afx (a0:List TGroup) (a1:List TRow):A:=.v (.int .i64 (Afw a0 a1))
def A18 (_a0:List TGroup) (_a1:List TRow):Objs:=[]
def Asi (a0:List TGroup) (a1:List TRow):List Prop:=[(∀(g:TGroup),g∈a0→Av g.1.size),((!(No a0 a1))=true→AK Ha G9 J9 (II (a0,a1,(0:Int))) (a0,a1,(0:Int)))]
set_option maxRecDepth 100000 in
theorem Bia (a0:List TGroup) (a1:List TRow):ER (AA Cn Aby) 9 93 [.sl .group a0,Ak .rows a1] 0 []=some (1,Afx a0 a1,0,A18 a0 a1,[(∀(g:TGroup),g∈a0→Av g.1.size),((!(No a0 a1))=true→Aj Try.prog (93:FuncId) (0:Nat)=Aj Try.prog (93:FuncId) (0:Nat)),((!(No a0 a1))=true→AK Ha G9 J9 (II (a0,a1,(0:Int))) (a0,a1,(0:Int)))]):=by kernel_rfl
set_option maxRecDepth 100000 in
theorem Bl9 (a0:List TGroup) (a1:List TRow) (hp:∀p∈Asi a0 a1,p):CallOk Try.prog 93 [.sl .group a0,Ak .rows a1] 0 [] 1 (Afx a0 a1) 0 (A18 a0 a1):=by
 have n0:=N0 hp
 have n1:((!(No a0 a1))=true→Aj Try.prog (93:FuncId) (0:Nat)=Aj Try.prog (93:FuncId) (0:Nat)):=by intros;rfl
 have n2:=N0 (N1 hp)
 exact AH (Ax Bdz Avk) (Bia a0 a1) (Aa n0 (Aa n1 (Aa n2 Ab)))
def Asj (a0:List TGroup) (a1:List TRow):A:=.v (.int .i64 (Fy a0 a1))
def Ash (_a0:List TGroup) (_a1:List TRow):Objs:=[]
def Akk (a0:List TGroup) (a1:List TRow):List Prop:=[Av a1.length,∀g∈a0,Av g.1.size]
theorem Bzl (a b:ByteArray):leS a b=!Ii b a:=by
 unfold leS
 cases h:Ii a b with
 |true=>
  cases g:Ii b a with
  |true=>exact absurd rfl (O6 (Kl h g))
  |false=>rfl
 | false=>
  rw[Bool.false_or]
  cases g:a==b with
  |true=>
   obtain rfl:=eq_of_beq g
   rw[h]
   rfl
  |false=>
   rw[Ov h (by simpa using g)]
   rfl
theorem Bzk {a:ByteArray} (h:a.size≠0):leS a ⟨#[]⟩=false:=by
 unfold leS
 rw[Bool.or_eq_false_iff]
 constructor
 ·show Op.bytesLess a.toList (ByteArray.mk #[]).toList=false
  rw[show(ByteArray.mk #[]).toList=[] by decide+kernel]
  cases a.toList<;>rfl
 ·refine beq_eq_false_iff_ne.2 fun e=>h ?_
  rw[e]
  rfl
theorem Bps (l:List TGroup) (rows:List TRow) (i:Nat) (hi:i≤9223372036854775807):D8 l rows (i:Int)=(decide (i <rows.length)&&V7 l rows i !=0):=by
 have e:D8 l rows (i:Int)=(decide (i <rows.length)&&(Ap l (B5 rows i) !=0||(Bu (B5 rows i)||decide ((i:Int) >0)&&!Ii (B5 rows (IntKind.i64.wrap ((i:Int) - 1)).toNat).key (B5 rows i).key))):=by
  unfold D8 Bg BK G8
  rw[nn,Me,Int.toNat_natCast]
  rfl
 rw[e,Awc]
 cases h:Ap l (B5 rows i) !=0 with
 |true=>rfl
 | false=>
  have h0:Ap l (B5 rows i)=0:=by simpa using h
  rw[Bool.false_or,Bool.false_or]
  cases i with
  |zero=>
   have h1:leS (B5 rows 0).key (O5 rows 0)=false:=Bzk (AT h0).2.2.1
   rw[h1]
   rfl
  |succ j=>
   have h1:(IntKind.i64.wrap (((j+1:Nat):Int) - 1)).toNat=j:=by rw[i64_in (by omega)];omega
   have h2:decide (((j+1:Nat):Int) >0)=true:=decide_eq_true (by omega)
   rw[h1,h2,Bzl,Bool.true_and]
   rfl
theorem Asg (l:List TGroup) (rows:List TRow) (hb:Av rows.length) (hw:∀g∈l,Av g.1.size):(∀p∈Asi l rows,p)∧Afw l rows=Fy l rows:=by
 unfold Av at hb
 obtain⟨h1,k,hk,hx,hs,hst,_⟩:=IN (fun i=>((l,rows,(i:Int)):Dg)) rows.length (fun i=>V7 l rows i !=0) Ha G9 J9 (II (l,rows,0)) (l,rows,0) rfl (by show rows.length≤((rows.length:Int) - 0).toNat;omega)
  (fun i hi _=>by
   show((!!decide ((i:Int) <(rows.length:Int)))&&!D8 l rows (i:Int))=_
   rw[Bps l rows i (by omega),nn,Me]
   cases decide (i <rows.length)<;>rfl)
  (fun i hi _=>by
   show(l,rows,IntKind.i64.wrap ((i:Int)+1))=(l,rows,((i+1:Nat):Int))
   rw[EQ (by omega)])
  (fun i hi _=>by
   have hin:(!!decide ((i:Int) <(rows.length:Int)))=true→(i:Int) <(rows.length:Int):=fun h=>by rw[nn] at h;exact of_decide_eq_true h
   refine Aa (fun h=>⟨by show(0:Int)≤(i:Int);omega,hin h⟩) (Aa (fun _=>hw) (Aa (fun h _=>⟨by show(0:Int)≤(i:Int);omega,hin h⟩) (Aa (fun _ h2=>?_) (Aa (fun h _ h3 _=>?_) (Aa (fun h _ _ _=>⟨by show(0:Int)≤(i:Int);omega,hin h⟩) Ab)))))
   ·have h3:Ap l (rows.getD ((i:Int)).toNat (Ae TC.row))=0:=by
     have h4:(!(Ap l (rows.getD ((i:Int)).toNat (Ae TC.row)) !=0))=true:=h2
     simpa using h4
    obtain⟨g1,g2,_⟩:=AT h3
    have:=(FP g1).2
    show Ai (rows.getD ((i:Int)).toNat (Ae TC.row)).cells.length
    unfold Ai
    omega
   ·have h4:(i:Int) >0:=of_decide_eq_true h3
    have h5:=hin h
    show(0:Int)≤IntKind.i64.wrap ((i:Int) - 1)∧IntKind.i64.wrap ((i:Int) - 1) <(rows.length:Int)
    rw[i64_in (by omega)]
    omega)
 have hr:KW (l,rows,0)=(l,rows,(k:Int)):=hx
 refine⟨Aa hw (Aa (fun _=>h1) Ab),?_⟩
 unfold Afw Fy
 show(bif AX l !=0 then AX l else _)=_
 congr 1
 unfold YB YA Yz
 rw[hr]
 show(bif D8 l rows (k:Int) then IH l rows (k:Int) else 0)=_
 have hk9:k≤9223372036854775807:=Nat.le_trans hk (by omega)
 rw[Bps l rows k hk9]
 have h0:GB l rows k=0:=(Ahw l rows k).2 fun i hi=>by simpa using hs i hi
 rcases Nat.lt_or_ge k rows.length with h|h
 ·have he:=hst h
  rw[decide_eq_true h,he]
  have e1:GB l rows (k+1)=V7 l rows k:=by
   show(bif GB l rows k !=0 then GB l rows k else V7 l rows k)=_
   rw[h0];rfl
  have hne:GB l rows (k+1)≠0:=by rw[e1];simpa using he
  rw[WK hne rows.length h,e1]
  show IH l rows (k:Int)=_
  unfold IH BK
  rw[Int.toNat_natCast]
  rw[Awc] at he
  unfold V7
  show(bif Ap l (B5 rows k) !=0 then Ap l (B5 rows k) else 100)=_
  cases hg:Ap l (B5 rows k) !=0 with
  |true=>rfl
  |false=>
   rw[hg,Bool.false_or] at he
   rw[he]
   rfl
 ·obtain rfl:k=rows.length:=by omega
  rw[decide_eq_false (Nat.lt_irrefl _),h0]
  rfl
theorem Bh9 (a0:List TGroup) (a1:List TRow) (hp:∀p∈Akk a0 a1,p):CallOk Try.prog 93 [.sl .group a0,Ak .rows a1] 0 [] 1 (Asj a0 a1) 0 (Ash a0 a1):=by
 have hb:Av a1.length:=hp _ (List.mem_cons_self ..)
 have hw:∀g∈a0,Av g.1.size:=hp _ (List.mem_cons_of_mem _ (List.mem_cons_self ..))
 have h:=Bl9 a0 a1 (Asg a0 a1 hb hw).1
 unfold Afx at h
 rw[(Asg a0 a1 hb hw).2] at h
 exact h
def Uw:List A→Nat→Objs→Option A9
 | [y0,y1],nx,o=>match Jt .group y0,AQ .rows y1 with
  |some a0,some (a1,p1)=>some (1,(Asj a0 a1).pk (AC nx),nx+0,AB nx (Ash a0 a1)++o,p1++(Akk a0 a1))
  |_,_=>none
 |_,_,_=>none
theorem Akl:EV Try.prog 93 Uw:=fun args nx o k x nx' o' ps h=>by
 unfold Uw at h
 split at h<;>first|(cases h;done)|skip
 split at h<;>first|(cases h;done)|skip
 rename_i a0 a1 p1 e0 e1
 cases h
 refine⟨fun hp=>?_,_,rfl⟩
 have q1:=fun p hm=>hp p (List.mem_append.2 (.inl hm))
 have r1:=fun p hm=>hp p (List.mem_append.2 (.inr hm))
 refine Ah (Ag (Bh9 a0 a1 r1) (Nat.le_refl _) (Ac rfl (Ac (Af _ _) An)) nx o) fun F N R vs hl=>?_
 obtain⟨v0,w0,rfl,h0,hl⟩:=hl.inv
 obtain⟨v1,w1,rfl,h1,hl⟩:=hl.inv
 exact HL.cons (BL e0 h0) (HL.cons (Am e1 q1 h1) (hl))
noncomputable def Bn2:=A7 93 Uw Cn
theorem Bdj:CU Try.prog Bn2:=Aw Akl Bdz
abbrev Dm:Type:=(List TRow)×(List TRow)×Int
def Oi (x:Dm):St:=⟨27,0,[(0,.sl .row x.1),(1,.sl .row x.2.1),(5,.v (.int .i64 x.2.2))],[]⟩
def RX:St→Option Dm
 |⟨27,0,[(0,.sl .row z0),(1,.sl .row z1),(5,.v (.int .i64 z2))],[]⟩=>some (z0,z1,z2)
 |_=>none
theorem Auo:∀s x,RX s=some x→s=Oi x:=fun s x h=>by
 unfold RX at h
 split at h
 ·cases h;rfl
 ·cases h
def Ajw:CX:=⟨0,0,[0,1,5],[],[],[],[4],[]⟩
def Ba6:Dp:=⟨[],[],[0,1,5],[]⟩
def DO (a0:List TRow) (_a1:List TRow) (a2:Int):Bool:=!!decide (a2 <(↑a0.length:Int))
def DN (a0:List TRow) (a1:List TRow) (a2:Int):Bool:=(DO a0 a1 a2)&&!Alw (a0.getD a2.toNat (Ae TC.row)) (a1.getD a2.toNat (Ae TC.row))
def A01 (a0:List TRow) (a1:List TRow) (a2:Int):Bool:=(DO a0 a1 a2)&&!(DN a0 a1 a2)
def Gn (x:Dm):Dm:=(x.1,x.2.1,IntKind.i64.wrap (x.2.2+(1:Int)))
def Gm (x:Dm):Cnd:=some (A01 x.1 x.2.1 x.2.2)
def Yb (x:Dm):List Prop:=[((DO x.1 x.2.1 x.2.2)=true→(0:Int)≤x.2.2∧x.2.2 <(↑x.1.length:Int)),((DO x.1 x.2.1 x.2.2)=true→(0:Int)≤x.2.2∧x.2.2 <(↑x.2.1.length:Int)),((DO x.1 x.2.1 x.2.2)=true→Ai (x.1.getD x.2.2.toNat (Ae TC.row)).2.length)]
def Jr (x:Dm):List Prop:=[((DO x.1 x.2.1 x.2.2)=true→(0:Int)≤x.2.2∧x.2.2 <(↑x.1.length:Int)),((DO x.1 x.2.1 x.2.2)=true→(0:Int)≤x.2.2∧x.2.2 <(↑x.2.1.length:Int)),((DO x.1 x.2.1 x.2.2)=true→Ai (x.1.getD x.2.2.toNat (Ae TC.row)).2.length)]
def Vv (x:Dm):Bo:=[(some 0,some (!decide (x.2.2 <(↑x.1.length:Int))),⟨27,0,[(4,.dead)],[]⟩),(none,some ((DN x.1 x.2.1 x.2.2)),⟨27,0,[(4,.v (.bool (false)))],[]⟩)]
def HN (x:Dm):Nat:=((↑x.1.length:Int) - x.2.2).toNat
def FJ (x:Dm):Dm:=Bc Gn Gm (HN x) x
set_option maxRecDepth 100000 in
theorem A4p (a0:List TRow) (a1:List TRow) (a2:Int):By (AA Bn2 L0) 9 (Aj Try.prog 49 0) Ajw (Oi (a0,a1,a2))=some (Yb (a0,a1,a2),Vv (a0,a1,a2),Gm (a0,a1,a2),Oi (Gn (a0,a1,a2))):=by kernel_rfl
set_option maxRecDepth 100000 in
theorem A4q (a0:List TRow) (a1:List TRow) (a2:Int) (hp:∀p∈Jr (a0,a1,a2),p):∀p∈Yb (a0,a1,a2),p:=by
 have n0:=N0 hp
 have n1:=N0 (N1 hp)
 have n2:=N0 (N1 (N1 hp))
 exact(Aa n0 (Aa n1 (Aa n2 Ab)))
noncomputable def Yc:=HF (AA Bn2 L0) (Aj Try.prog 49 0) Ajw Ba6 RX HN Gn Gm Jr Vv
theorem A02:∀s b ps outs,Yc s=some (b,ps,outs)→Wf s ⟨ps,outs,none⟩∧Br (AA C0 L0) b s ps outs:=
 Bh (T:=Oi) Bdj AG (u:=9) (by kernel_rfl) (by decide) (fun⟨a0,a1,a2⟩=>A4p a0 a1 a2) (fun⟨a0,a1,a2⟩=>A4q a0 a1 a2) Auo (fun _=>AU (n:=27) rfl) fun _ _=>rfl
noncomputable def Ajv:=Dz 0 Yc L0
theorem A00:Hf Ajv:=A5 A02 AG
def Aey (a0:List TRow) (a1:List TRow):Dm:=FJ (a0,a1,(0:Int))
def JY (a0:List TRow) (a1:List TRow):Bool:=(↑a0.length:Int) !=(↑a1.length:Int)
def Anx (a0:List TRow) (a1:List TRow):Bool:=bif(JY a0 a1) then false else bif DN (Aey a0 a1).fst (Aey a0 a1).snd.fst (Aey a0 a1).snd.snd then false else true
def Any (a0:List TRow) (a1:List TRow):A:=.v (.bool (Anx a0 a1))
def A69 (_a0:List TRow) (_a1:List TRow):Objs:=[]
def A04 (a0:List TRow) (a1:List TRow):List Prop:=[((!(JY a0 a1))=true→AK Gn Gm Jr (HN (a0,a1,(0:Int))) (a0,a1,(0:Int)))]
set_option maxRecDepth 100000 in
theorem Blp (a0:List TRow) (a1:List TRow):ER (AA Bn2 Ajv) 9 49 [Ak .rows a0,Ak .rows a1] 0 []=some (1,Any a0 a1,0,A69 a0 a1,[((!(JY a0 a1))=true→Aj Try.prog (49:FuncId) (0:Nat)=Aj Try.prog (49:FuncId) (0:Nat)),((!(JY a0 a1))=true→AK Gn Gm Jr (HN (a0,a1,(0:Int))) (a0,a1,(0:Int)))]):=by kernel_rfl
set_option maxRecDepth 100000 in
theorem Bri (a0:List TRow) (a1:List TRow) (hp:∀p∈A04 a0 a1,p):CallOk Try.prog 49 [Ak .rows a0,Ak .rows a1] 0 [] 1 (Any a0 a1) 0 (A69 a0 a1):=by
 have n0:((!(JY a0 a1))=true→Aj Try.prog (49:FuncId) (0:Nat)=Aj Try.prog (49:FuncId) (0:Nat)):=by intros;rfl
 have n1:=N0 hp
 exact AH (Ax Bdj A00) (Blp a0 a1) (Aa n0 (Aa n1 Ab))
def Bqr (a b:List TRow):Bool:=a.length==b.length&&JH a.length fun i=>Alw (a.getD i (Ae TC.row)) (b.getD i (Ae TC.row))
def A05 (a0:List TRow) (a1:List TRow):A:=.v (.bool (Bqr a0 a1))
def A03 (_a0:List TRow) (_a1:List TRow):Objs:=[]
def Ark (a0:List TRow) (_a1:List TRow):List Prop:=[Av a0.length,∀r∈a0,Ai r.cells.length]
theorem A0z (a b:List TRow) (hl:Av a.length) (hb:∀r∈a,Ai r.cells.length):(∀p∈A04 a b,p)∧Anx a b=Bqr a b:=by
 unfold Av at hl
 have hk0:JY a b=(a.length !=b.length):=by
  show((a.length:Int) !=(b.length:Int))=_
  rw[Bool.eq_iff_iff,bne_iff_ne,bne_iff_ne];omega
 have main:JY a b=false→AK Gn Gm Jr (HN (a,b,0)) (a,b,0)∧DN (FJ (a,b,0)).1 (FJ (a,b,0)).2.1 (FJ (a,b,0)).2.2=!JH a.length fun i=>Alw (a.getD i (Ae TC.row)) (b.getD i (Ae TC.row)):=fun h0=>by
  rw[hk0] at h0
  have hlen:a.length=b.length:=by simpa using h0
  have hf:∀i:Nat,DN a b (i:Int)=(decide (i <a.length)&&!Alw (a.getD i (Ae TC.row)) (b.getD i (Ae TC.row))):=fun i=>by
   unfold DN DO
   rw[nn,Me,Int.toNat_natCast]
  obtain⟨h1,k,hk,hx,_,_,hb'⟩:=IN (fun i=>((a,b,(i:Int)):Dm)) a.length (fun i=>!Alw (a.getD i (Ae TC.row)) (b.getD i (Ae TC.row))) Gn Gm Jr (HN (a,b,0)) (a,b,0) rfl (by show a.length≤((a.length:Int) - 0).toNat;omega)
   (fun i _ _=>by
    show((!!decide ((i:Int) <(a.length:Int)))&&!DN a b (i:Int))=_
    rw[hf,nn,Me]
    cases decide (i <a.length)<;>rfl)
   (fun i hi _=>by
    show(a,b,IntKind.i64.wrap ((i:Int)+1))=(a,b,((i+1:Nat):Int))
    rw[EQ (by omega)])
   (fun i hi _=>by
    have hin:(!!decide ((i:Int) <(a.length:Int)))=true→(i:Int) <(a.length:Int):=fun h=>by rw[nn] at h;exact of_decide_eq_true h
    refine Aa (fun h=>⟨by show(0:Int)≤(i:Int);omega,hin h⟩) (Aa (fun h=>⟨by show(0:Int)≤(i:Int);omega,by have:=hin h;show(i:Int) <(b.length:Int);omega⟩) (Aa (fun h=>?_) Ab))
    have h5:=hin h
    have e:((i:Int)).toNat=i:=Int.toNat_natCast i
    show Ai (a.getD ((i:Int)).toNat (Ae TC.row)).2.length
    rw[e]
    exact hb _ (getD_in a (Ae TC.row) i (by omega)))
  refine⟨h1,?_⟩
  have hr:FJ (a,b,0)=(a,b,(k:Int)):=hx
  rw[hr]
  show DN a b (k:Int)=_
  rw[hf,hb']
  congr 1
  exact H6 fun i _=>Bool.not_not _
 refine⟨Aa (fun h=>(main (by simpa using h)).1) Ab,?_⟩
 unfold Anx Bqr
 cases h0:JY a b with
 |true=>
  rw[hk0] at h0
  have e:(a.length==b.length)=false:=by simpa using h0
  rw[e]
  rfl
 |false=>
  have h1:=h0
  rw[hk0] at h1
  have e:(a.length==b.length)=true:=by simpa using h1
  rw[cond_false,e,Bool.true_and]
  have m:=(main h0).2
  show(!DN (FJ (a,b,0)).1 (FJ (a,b,0)).2.1 (FJ (a,b,0)).2.2)=_
  rw[m,Bool.not_not]
theorem Blo (a0:List TRow) (a1:List TRow) (hp:∀p∈Ark a0 a1,p):CallOk Try.prog 49 [Ak .rows a0,Ak .rows a1] 0 [] 1 (A05 a0 a1) 0 (A03 a0 a1):=by
 have hb:Av a0.length:=hp _ (List.mem_cons_self ..)
 have hc:∀r∈a0,Ai r.cells.length:=hp _ (List.mem_cons_of_mem _ (List.mem_cons_self ..))
 have h:=Bri a0 a1 (A0z a0 a1 hb hc).1
 unfold Any at h
 rw[(A0z a0 a1 hb hc).2] at h
 exact h
theorem Bqs (a:List TRow):Bqr a a=true:=by
 unfold Bqr
 rw[beq_self_eq_true,Bool.true_and,Il]
 exact fun i _=>Buu.2 rfl
def Zy:List A→Nat→Objs→Option A9
 | [y0,y1],nx,o=>match AQ .rows y0,AQ .rows y1 with
  |some (a0,p0),some (a1,p1)=>some (1,(A05 a0 a1).pk (AC nx),nx+0,AB nx (A03 a0 a1)++o,p0++(p1++(Ark a0 a1)))
  |_,_=>none
 |_,_,_=>none
theorem Arl:EV Try.prog 49 Zy:=fun args nx o k x nx' o' ps h=>by
 unfold Zy at h
 split at h<;>first|(cases h;done)|skip
 split at h<;>first|(cases h;done)|skip
 rename_i a0 p0 a1 p1 e0 e1
 cases h
 refine⟨fun hp=>?_,_,rfl⟩
 have q0:=fun p hm=>hp p (List.mem_append.2 (.inl hm))
 have r0:=fun p hm=>hp p (List.mem_append.2 (.inr hm))
 have q1:=fun p hm=>r0 p (List.mem_append.2 (.inl hm))
 have r1:=fun p hm=>r0 p (List.mem_append.2 (.inr hm))
 refine Ah (Ag (Blo a0 a1 r1) (Nat.le_refl _) (Ac (Af _ _) (Ac (Af _ _) An)) nx o) fun F N R vs hl=>?_
 obtain⟨v0,w0,rfl,h0,hl⟩:=hl.inv
 obtain⟨v1,w1,rfl,h1,hl⟩:=hl.inv
 exact HL.cons (Am e0 q0 h0) (HL.cons (Am e1 q1 h1) (hl))
end Go.Proofs.Yteebobbhhgmeiaa
namespace Go.Proofs.Yteebobbhhgmeiaa
open Go.RowKit
def JG (cs:List TChange) (i:Nat):TChange:=cs.getD i (Ae TC.change)
def stE (l:List TGroup) (cs:List TChange):Int:=bif AX l !=0 then AX l else bif JH cs.length (fun i=>Kx l (JG cs i)==0) then 0 else 120
def ZC (l:List TGroup) (cs:List TChange):Nat→List TRow
 |0=>[]
 |i+1=>mrg ((ZC l cs i).length+(nb (P6 l (JG cs i))).length) (ZC l cs i) (nb (P6 l (JG cs i)))
def stR (l:List TGroup) (cs:List TChange):List TRow:=bif stE l cs==0 then ZC l cs cs.length else[]
theorem Baf (l:List TGroup) (c:TChange):Stt l (nb (P6 l c)):=B3q (Ag7 l c).1 (Ag7 l c).2
theorem Ak8 (l:List TGroup) (cs:List TChange):∀i,Stt l (ZC l cs i)
 |0=>Bp3 l
 |i+1=>(Ak8 l cs i).mrg _ (Baf l _)
theorem Bp1 (l:List TGroup) (cs:List TChange):Stt l (stR l cs):=by
 unfold stR
 cases stE l cs==0 with
 |true=>exact Ak8 l cs _
 |false=>exact Bp3 l
theorem Awb (l:List TGroup) (c:TChange):(P6 l c).length≤8:=by
 unfold P6
 cases h:Kx l c==0 with
 |false=>exact Nat.zero_le _
 |true=>
  have h0:Kx l c=0:=by simpa using h
  obtain⟨_,_,hn,_⟩:=Bes.1 h0
  unfold Ajg at hn
  rw[Bool.and_eq_true,decide_eq_true_eq,decide_eq_true_eq] at hn
  exact Nat.le_trans (A8o l c _) hn.2
theorem Bks (rows:List TRow):(nb rows).length≤rows.length:=List.length_filter_le _ _
theorem Awl (l:List TGroup) (cs:List TChange):∀i,(ZC l cs i).length≤8*i
 |0=>Nat.le_refl _
 |i+1=>by
  have h1:=Awl l cs i
  have h2:=Zr ((ZC l cs i).length+(nb (P6 l (JG cs i))).length) (ZC l cs i) (nb (P6 l (JG cs i)))
  have h3:=Bks (P6 l (JG cs i))
  have h4:=Awb l (JG cs i)
  show(mrg _ _ _).length≤_
  omega
theorem Ayc:∀(b a:List TRow),CW a b=CW a (nb b)
 | [],_=>rfl
 | y::b,a=>by
  have ih:=Ayc b
  show CW (Li a y) b=CW a (List.filter _ (y::b))
  rw[List.filter_cons]
  cases hb:Bu y with
  |true=>
   have:Li a y=a:=by unfold Li;rw[hb];rfl
   rw[this,ih a]
   rfl
  |false=>
   rw[ih (Li a y)]
   rfl
theorem Bqz (l:List TGroup) (cs:List TChange) (i:Nat):CW (ZC l cs i) (P6 l (JG cs i))=ZC l cs (i+1):=by
 rw[Ayc]
 exact Bkl (Ak8 l cs i).rise (Baf l _).rise (fun r hr=>((Baf l _).good r hr).2) (Nat.le_refl _)
theorem B5f {l:List TGroup} {cs:List TChange}:stE l cs=0↔AX l=0∧∀c∈cs,Kx l c=0:=by
 unfold stE
 cases h:AX l !=0 with
 |true=>
  rw[cond_true]
  have h':AX l≠0:=by simpa using h
  exact⟨fun e=>absurd e h',fun e=>absurd e.1 h'⟩
 | false=>
  rw[cond_false]
  have h':AX l=0:=by simpa using h
  cases ha:JH cs.length (fun i=>Kx l (JG cs i)==0) with
  |true=>
   refine⟨fun _=>⟨h',fun c hc=>?_⟩,fun _=>rfl⟩
   obtain⟨i,hi,rfl⟩:=List.mem_iff_getElem.1 hc
   have h2:=Il.1 ha i hi
   have h3:Kx l (JG cs i)=0:=by simpa using h2
   have h4:JG cs i=cs[i]:=by unfold JG;rw[List.getD_eq_getElem?_getD,List.getElem?_eq_getElem hi];rfl
   rw[←h4]
   exact h3
  | false=>
   refine⟨fun e=>(by cases e),fun e=>?_⟩
   have:JH cs.length (fun i=>Kx l (JG cs i)==0)=true:=Il.2 fun i hi=>by
    have h2:Kx l (JG cs i)=0:=e.2 _ (getD_in cs (Ae TC.change) i hi)
    rw[h2]
    rfl
   rw[ha] at this
   cases this
def mgE (l:List TGroup) (a b:List TRow):Int:=bif Fy l a !=0 then Fy l a else Fy l b
def mgR (l:List TGroup) (a b:List TRow):List TRow:=bif mgE l a b==0 then mrg (a.length+b.length) a b else[]
theorem Al9 {l:List TGroup} {a:List TRow} (h:Fy l a=0):AX l=0∧Stt l a:=⟨(Awd.1 h).1,(Bp2 (Awd.1 h).1).1 h⟩
theorem B45 {l:List TGroup} {a b:List TRow}:mgE l a b=0↔Fy l a=0∧Fy l b=0:=by
 unfold mgE
 cases h:Fy l a !=0 with
 |true=>
  rw[cond_true]
  have h':Fy l a≠0:=by simpa using h
  exact⟨fun e=>absurd e h',fun e=>absurd e.1 h'⟩
 |false=>
  rw[cond_false]
  have h':Fy l a=0:=by simpa using h
  exact⟨fun e=>⟨h',e⟩,fun e=>e.2⟩
end Go.Proofs.Yteebobbhhgmeiaa
namespace Go.Proofs.Yteebobbhhgmeiaa
open Go.RowKit
noncomputable def B1h:=A7 142 MK Cmg
theorem Bts:CU Try.prog B1h:=Aw UZ Bto
noncomputable def Awt:=A7 84 Oa B1h
theorem Agt:CU Try.prog Awt:=Aw Xq Bts
abbrev BG:Type:=(List TRow)×Int×Int×(List TRow)
def Ko (x:BG):St:=⟨55,6,[(11,.sq 5),(35,.sl .row x.1),(36,.v (.int .i64 x.2.1)),(37,.v (.int .i64 x.2.2.1))],[(5,some (.arr 71 2 (.ty .row x.2.2.2)))]⟩
def LR:St→Option BG
 |⟨55,6,[(11,.sq 5),(35,.sl .row z0),(36,.v (.int .i64 z1)),(37,.v (.int .i64 z2))],[(5,some (.arr 71 2 (.ty .row z3)))]⟩=>some (z0,z1,z2,z3)
 |_=>none
theorem ZS:∀s x,LR s=some x→s=Ko x:=fun s x h=>by
 unfold LR at h
 split at h
 ·cases h;rfl
 ·cases h
def S7:CX:=⟨5,6,[11,35,36,37],[],[(9,5)],[9],[11],[5]⟩
def Am7:Dp:=⟨[.frz 3,.nil 11 71 .row],[(4,5)],[11,35,36,37],[4]⟩
def K6 (a0:List TRow) (_a1:Int) (a2:Int) (a3:List TRow):List TRow:=bif !Bu (a0.getD a2.toNat (Ae TC.row)) then a3++[a0.getD a2.toNat (Ae TC.row)] else a3
def CM (x:BG):BG:=(x.1,x.2.1,IntKind.i64.wrap (x.2.2.1+(1:Int)),K6 x.1 x.2.1 x.2.2.1 x.2.2.2)
def CL (x:BG):Cnd:=some (!!decide (x.2.2.1 <x.2.1))
def Pc (x:BG):List Prop:=[((!!decide (x.2.2.1 <x.2.1))=true→(0:Int)≤x.2.2.1∧x.2.2.1 <(↑x.1.length:Int)),((!!decide (x.2.2.1 <x.2.1))=true→Ai (x.1.getD x.2.2.1.toNat (Ae TC.row)).2.length),((!!decide (x.2.2.1 <x.2.1))=true→(!Bu (x.1.getD x.2.2.1.toNat (Ae TC.row)))=true→Ai (x.2.2.2.length+(1:Nat)))]
def Er (x:BG):List Prop:=[((!!decide (x.2.2.1 <x.2.1))=true→(0:Int)≤x.2.2.1∧x.2.2.1 <(↑x.1.length:Int)),((!!decide (x.2.2.1 <x.2.1))=true→Ai (x.1.getD x.2.2.1.toNat (Ae TC.row)).2.length),((!!decide (x.2.2.1 <x.2.1))=true→(!Bu (x.1.getD x.2.2.1.toNat (Ae TC.row)))=true→Ai (x.2.2.2.length+(1:Nat)))]
def NU (x:BG):Bo:=[(some 2,some (!decide (x.2.2.1 <x.2.1)),⟨55,6,[(11,.sq 5)],[(5,some (.arr 71 2 (.ty .row x.2.2.2)))]⟩)]
def Dv (x:BG):Nat:=(x.2.1 - x.2.2.1).toNat
def I2 (x:BG):BG:=Bc CM CL (Dv x) x
set_option maxRecDepth 100000 in
theorem Ai4 (a0:List TRow) (a1:Int) (a2:Int) (a3:List TRow):By (AA Awt L0) 9 (Aj Try.prog 82 2) S7 (Ko (a0,a1,a2,a3))=some (Pc (a0,a1,a2,a3),NU (a0,a1,a2,a3),CL (a0,a1,a2,a3),Ko (CM (a0,a1,a2,a3))):=by kernel_rfl
set_option maxRecDepth 100000 in
theorem Ai5 (a0:List TRow) (a1:Int) (a2:Int) (a3:List TRow) (hp:∀p∈Er (a0,a1,a2,a3),p):∀p∈Pc (a0,a1,a2,a3),p:=by
 have n0:=N0 hp
 have n1:=N0 (N1 hp)
 have n2:=N0 (N1 (N1 hp))
 exact(Aa n0 (Aa n1 (Aa n2 Ab)))
noncomputable def Pd:=HF (AA Awt L0) (Aj Try.prog 82 2) S7 Am7 LR Dv CM CL Er NU
theorem Adp:∀s b ps outs,Pd s=some (b,ps,outs)→Wf s ⟨ps,outs,none⟩∧Br (AA C0 L0) b s ps outs:=
 Bh (T:=Ko) Agt AG (u:=9) (by kernel_rfl) (by decide) (fun⟨a0,a1,a2,a3⟩=>Ai4 a0 a1 a2 a3) (fun⟨a0,a1,a2,a3⟩=>Ai5 a0 a1 a2 a3) ZS (fun _=>AU (n:=55) rfl) fun _ _=>rfl
noncomputable def Kn:=Dz 2 Pd L0
theorem Pb:Hf Kn:=A5 Adp AG
abbrev BF:Type:=(List TGroup)×(List TChange)×Int×Int×(List TRow)
def Km (x:BF):St:=⟨55,2,[(0,.sl .group x.1),(4,.dq 1),(19,.sl .change x.2.1),(20,.v (.int .i64 x.2.2.1)),(21,.v (.int .i64 x.2.2.2.1))],[(1,some (.deep 71 .row x.2.2.2.2))]⟩
def LQ:St→Option BF
 |⟨55,2,[(0,.sl .group z0),(4,.dq 1),(19,.sl .change z1),(20,.v (.int .i64 z2)),(21,.v (.int .i64 z3))],[(1,some (.deep 71 .row z4))]⟩=>some (z0,z1,z2,z3,z4)
 |_=>none
theorem ZR:∀s x,LQ s=some x→s=Km x:=fun s x h=>by
 unfold LQ at h
 split at h
 ·cases h;rfl
 ·cases h
def S6:CX:=⟨1,2,[0,4,19,20,21],[],[(6,1)],[6],[4,5],[1]⟩
def Am6:Dp:=⟨[.nilD 4 71 .row],[(0,1)],[0,4,19,20,21],[0]⟩
def CK (a0:List TGroup) (a1:List TChange) (a2:Int) (a3:Int) (_a4:List TRow):Bool:=!!decide (a3 <a2)&&Kx a0 (a1.getD a3.toNat (Ae TC.change)) !=(0:Int)
def BB (a0:List TGroup) (a1:List TChange) (_a2:Int) (a3:Int) (_a4:List TRow):List TRow:=(I2 (P6 a0 (a1.getD a3.toNat (Ae TC.change)),(↑(P6 a0 (a1.getD a3.toNat (Ae TC.change))).length:Int),(0:Int),[])).snd.snd.snd
def K5 (a0:List TGroup) (a1:List TChange) (a2:Int) (a3:Int) (a4:List TRow):List TRow:=mrg (a4.length+(BB a0 a1 a2 a3 a4).length) a4 (BB a0 a1 a2 a3 a4)
def Adn (a0:List TGroup) (a1:List TChange) (a2:Int) (a3:Int) (a4:List TRow):Bool:=!!decide (a3 <a2)&&!(CK a0 a1 a2 a3 a4)
def Du (x:BF):BF:=(x.1,x.2.1,x.2.2.1,IntKind.i64.wrap (x.2.2.2.1+(1:Int)),K5 x.1 x.2.1 x.2.2.1 x.2.2.2.1 x.2.2.2.2)
def Dt (x:BF):Cnd:=some (Adn x.1 x.2.1 x.2.2.1 x.2.2.2.1 x.2.2.2.2)
def O9 (x:BF):List Prop:=[((!!decide (x.2.2.2.1 <x.2.2.1))=true→(0:Int)≤x.2.2.2.1∧x.2.2.2.1 <(↑x.2.1.length:Int)),((!!decide (x.2.2.2.1 <x.2.2.1))=true→Av (x.2.1.getD x.2.2.2.1.toNat (Ae TC.change)).5.length),((!!decide (x.2.2.2.1 <x.2.2.1))=true→(!Kx x.1 (x.2.1.getD x.2.2.2.1.toNat (Ae TC.change)) !=(0:Int))=true→Aj Try.prog (82:FuncId) (2:Nat)=Aj Try.prog (82:FuncId) (2:Nat)),((!!decide (x.2.2.2.1 <x.2.2.1))=true→(!Kx x.1 (x.2.1.getD x.2.2.2.1.toNat (Ae TC.change)) !=(0:Int))=true→AK CM CL Er (Dv (P6 x.1 (x.2.1.getD x.2.2.2.1.toNat (Ae TC.change)),(↑(P6 x.1 (x.2.1.getD x.2.2.2.1.toNat (Ae TC.change))).length:Int),(0:Int),[])) (P6 x.1 (x.2.1.getD x.2.2.2.1.toNat (Ae TC.change)),(↑(P6 x.1 (x.2.1.getD x.2.2.2.1.toNat (Ae TC.change))).length:Int),(0:Int),[])),((!!decide (x.2.2.2.1 <x.2.2.1))=true→(!Kx x.1 (x.2.1.getD x.2.2.2.1.toNat (Ae TC.change)) !=(0:Int))=true→Stt x.1 x.2.2.2.2∧Stt x.1 (BB x.1 x.2.1 x.2.2.1 x.2.2.2.1 x.2.2.2.2)∧x.2.2.2.2.length+(BB x.1 x.2.1 x.2.2.1 x.2.2.2.1 x.2.2.2.2).length≤(400000:Nat))]
def FW (x:BF):List Prop:=[((!!decide (x.2.2.2.1 <x.2.2.1))=true→(0:Int)≤x.2.2.2.1∧x.2.2.2.1 <(↑x.2.1.length:Int)),((!!decide (x.2.2.2.1 <x.2.2.1))=true→Av (x.2.1.getD x.2.2.2.1.toNat (Ae TC.change)).5.length),((!!decide (x.2.2.2.1 <x.2.2.1))=true→(!Kx x.1 (x.2.1.getD x.2.2.2.1.toNat (Ae TC.change)) !=(0:Int))=true→AK CM CL Er (Dv (P6 x.1 (x.2.1.getD x.2.2.2.1.toNat (Ae TC.change)),(↑(P6 x.1 (x.2.1.getD x.2.2.2.1.toNat (Ae TC.change))).length:Int),(0:Int),[])) (P6 x.1 (x.2.1.getD x.2.2.2.1.toNat (Ae TC.change)),(↑(P6 x.1 (x.2.1.getD x.2.2.2.1.toNat (Ae TC.change))).length:Int),(0:Int),[])),((!!decide (x.2.2.2.1 <x.2.2.1))=true→(!Kx x.1 (x.2.1.getD x.2.2.2.1.toNat (Ae TC.change)) !=(0:Int))=true→Stt x.1 x.2.2.2.2∧Stt x.1 (BB x.1 x.2.1 x.2.2.1 x.2.2.2.1 x.2.2.2.2)∧x.2.2.2.2.length+(BB x.1 x.2.1 x.2.2.1 x.2.2.2.1 x.2.2.2.2).length≤(400000:Nat))]
def NT (x:BF):Bo:=[(some 0,some (!decide (x.2.2.2.1 <x.2.2.1)),⟨55,2,[(4,.dq 1),(5,.dead)],[(1,some (.deep 71 .row x.2.2.2.2))]⟩),(none,some ((CK x.1 x.2.1 x.2.2.1 x.2.2.2.1 x.2.2.2.2)),⟨55,4,[(4,.v (.slice none 0 0)),(5,.v (.int .i64 ((120:Int))))],[(1,some (.deep 71 .row x.2.2.2.2))]⟩)]
def EE (x:BF):Nat:=(x.2.2.1 - x.2.2.2.1).toNat
def Bd (x:BF):BF:=Bc Du Dt (EE x) x
set_option maxRecDepth 100000 in
theorem Ai2 (a0:List TGroup) (a1:List TChange) (a2:Int) (a3:Int) (a4:List TRow):By (AA Awt Kn) 9 (Aj Try.prog 82 0) S6 (Km (a0,a1,a2,a3,a4))=some (O9 (a0,a1,a2,a3,a4),NT (a0,a1,a2,a3,a4),Dt (a0,a1,a2,a3,a4),Km (Du (a0,a1,a2,a3,a4))):=by kernel_rfl
set_option maxRecDepth 100000 in
theorem Ai3 (a0:List TGroup) (a1:List TChange) (a2:Int) (a3:Int) (a4:List TRow) (hp:∀p∈FW (a0,a1,a2,a3,a4),p):∀p∈O9 (a0,a1,a2,a3,a4),p:=by
 have n0:=N0 hp
 have n1:=N0 (N1 hp)
 have n2:((!!decide (a3 <a2))=true→(!Kx a0 (a1.getD a3.toNat (Ae TC.change)) !=(0:Int))=true→Aj Try.prog (82:FuncId) (2:Nat)=Aj Try.prog (82:FuncId) (2:Nat)):=by intros;rfl
 have n3:=N0 (N1 (N1 hp))
 have n4:=N0 (N1 (N1 (N1 hp)))
 exact(Aa n0 (Aa n1 (Aa n2 (Aa n3 (Aa n4 Ab)))))
noncomputable def Pa:=HF (AA Awt Kn) (Aj Try.prog 82 0) S6 Am6 LQ EE Du Dt FW NT
theorem Ado:∀s b ps outs,Pa s=some (b,ps,outs)→Wf s ⟨ps,outs,none⟩∧Br (AA C0 L0) b s ps outs:=
 Bh (T:=Km) Agt Pb (u:=9) (by kernel_rfl) (by decide) (fun⟨a0,a1,a2,a3,a4⟩=>Ai2 a0 a1 a2 a3 a4) (fun⟨a0,a1,a2,a3,a4⟩=>Ai3 a0 a1 a2 a3 a4) ZR (fun _=>AU (n:=55) rfl) fun _ _=>rfl
noncomputable def S5:=Dz 0 Pa Kn
theorem Adm:Hf S5:=A5 Ado Pb
def Hr (a0:List TGroup) (_a1:List TChange):Bool:=AX a0 !=(0:Int)
def O8 (a0:List TGroup) (a1:List TChange):Bool:=CK (Bd (a0,a1,(↑a1.length:Int),(0:Int),[])).fst (Bd (a0,a1,(↑a1.length:Int),(0:Int),[])).snd.fst (Bd (a0,a1,(↑a1.length:Int),(0:Int),[])).snd.snd.fst (Bd (a0,a1,(↑a1.length:Int),(0:Int),[])).snd.snd.snd.fst (Bd (a0,a1,(↑a1.length:Int),(0:Int),[])).snd.snd.snd.snd
def RC (a0:List TGroup) (a1:List TChange):Int:=bif(Hr a0 a1) then AX a0 else bif(O8 a0 a1) then(120:Int) else(0:Int)
def RD (a0:List TGroup) (a1:List TChange):List TRow:=bif(Hr a0 a1) then[] else bif(O8 a0 a1) then[] else(Bd (a0,a1,(↑a1.length:Int),(0:Int),[])).snd.snd.snd.snd
def RF (a0:List TGroup) (a1:List TChange):A:=.tup [.dq 0,.v (.int .i64 (RC a0 a1))]
def RE (a0:List TGroup) (a1:List TChange):Objs:=[(0,some (.deep 71 .row (RD a0 a1)))]
def Azb (a0:List TGroup) (a1:List TChange):List Prop:=[((!(Hr a0 a1))=true→AK Du Dt FW (EE (a0,a1,(↑a1.length:Int),(0:Int),[])) (a0,a1,(↑a1.length:Int),(0:Int),[]))]
set_option maxRecDepth 100000 in
theorem Aza (a0:List TGroup) (a1:List TChange):ER (AA Awt S5) 9 82 [.sl .group a0,.sl .change a1] 0 []=some (1,RF a0 a1,1,RE a0 a1,[((!(Hr a0 a1))=true→Aj Try.prog (82:FuncId) (0:Nat)=Aj Try.prog (82:FuncId) (0:Nat)),((!(Hr a0 a1))=true→AK Du Dt FW (EE (a0,a1,(↑a1.length:Int),(0:Int),[])) (a0,a1,(↑a1.length:Int),(0:Int),[]))]):=by kernel_rfl
set_option maxRecDepth 100000 in
theorem A35 (a0:List TGroup) (a1:List TChange) (hp:∀p∈Azb a0 a1,p):CallOk Try.prog 82 [.sl .group a0,.sl .change a1] 0 [] 1 (RF a0 a1) 1 (RE a0 a1):=by
 have n0:((!(Hr a0 a1))=true→Aj Try.prog (82:FuncId) (0:Nat)=Aj Try.prog (82:FuncId) (0:Nat)):=by intros;rfl
 have n1:=N0 hp
 exact AH (Ax Agt Adm) (Aza a0 a1) (Aa n0 (Aa n1 Ab))
def Xv (a0:List TGroup) (a1:List TChange):A:=.tup [.dq 0,.v (.int .i64 (stE a0 a1))]
def Xu (a0:List TGroup) (a1:List TChange):Objs:=[(0,some (.deep 71 .row (stR a0 a1)))]
def Vb (_a0:List TGroup) (a1:List TChange):List Prop:=[a1.length≤7000∧∀c∈a1,Av c.writes.length]
theorem Bzq (rows:List TRow) (i:Nat) (h:i <rows.length):nb (rows.take (i+1))=bif !Bu (B5 rows i) then nb (rows.take i)++[B5 rows i] else nb (rows.take i):=by
 unfold nb
 rw[Ald rows (Ae TC.row) i h,List.filter_append]
 show _++List.filter _ [B5 rows i]=_
 rw[List.filter_cons]
 cases Bu (B5 rows i) with
 |true=>exact List.append_nil _
 |false=>rfl
theorem Bgj (rows:List TRow) (hb:rows.length≤100) (hc:∀r∈rows,r.cells.length≤4):
  AK CM CL Er (Dv (rows,(rows.length:Int),0,[])) (rows,(rows.length:Int),0,[])∧I2 (rows,(rows.length:Int),0,[])=(rows,(rows.length:Int),(rows.length:Int),nb rows):=by
 obtain⟨h1,hx⟩:=Bca (fun i=>((rows,(rows.length:Int),(i:Int),nb (rows.take i)):BG)) rows.length CM CL Er (Dv (rows,(rows.length:Int),0,[])) (rows,(rows.length:Int),0,[]) rfl (by show rows.length≤((rows.length:Int) - 0).toNat;omega)
  (fun i _=>by
   show(!!decide ((i:Int) <(rows.length:Int)))=_
   rw[nn,Me])
  (fun i hi=>by
   show(rows,(rows.length:Int),IntKind.i64.wrap ((i:Int)+1),K6 rows (rows.length:Int) (i:Int) (nb (rows.take i)))=(rows,(rows.length:Int),((i+1:Nat):Int),nb (rows.take (i+1)))
   rw[EQ (by omega),Bzq rows i hi]
   unfold K6
   rw[Int.toNat_natCast]
   rfl)
  (fun i hi=>by
   have hin:(!!decide ((i:Int) <(rows.length:Int)))=true→(i:Int) <(rows.length:Int):=fun h=>by rw[nn] at h;exact of_decide_eq_true h
   have hl:=Bks (rows.take i)
   rw[List.length_take] at hl
   refine Aa (fun h=>⟨by show(0:Int)≤(i:Int);omega,hin h⟩) (Aa (fun h=>?_) (Aa (fun _ _=>?_) Ab))
   ·have h2:=hin h
    have h3:(rows.getD ((i:Int)).toNat (Ae TC.row)).2.length≤4:=hc _ (getD_in rows (Ae TC.row) _ (by omega))
    show Ai (rows.getD ((i:Int)).toNat (Ae TC.row)).2.length
    unfold Ai
    omega
   ·show Ai ((nb (rows.take i)).length+1)
    unfold Ai
    omega)
 refine⟨h1,?_⟩
 have hx':I2 (rows,(rows.length:Int),0,[])=(rows,(rows.length:Int),(rows.length:Int),nb (rows.take rows.length)):=hx
 rw[hx',List.take_length]
theorem Ze (l:List TGroup) (c:TChange):(P6 l c).length≤100∧∀r∈P6 l c,r.cells.length≤4:=by
 refine⟨Nat.le_trans (Awb l c) (by omega),fun r hr=>?_⟩
 have g:=(Ag7 l c).2 r hr
 rw[(AT g).2.1]
 exact(FP (AT g).1).2
theorem Bvz (l:List TGroup) (cs:List TChange) (hb:cs.length≤7000) (hw:∀c∈cs,Av c.writes.length):
  AK Du Dt FW (EE (l,cs,(cs.length:Int),0,[])) (l,cs,(cs.length:Int),0,[])∧
  CK (Bd (l,cs,(cs.length:Int),0,[])).fst (Bd (l,cs,(cs.length:Int),0,[])).snd.fst (Bd (l,cs,(cs.length:Int),0,[])).snd.snd.fst (Bd (l,cs,(cs.length:Int),0,[])).snd.snd.snd.fst (Bd (l,cs,(cs.length:Int),0,[])).snd.snd.snd.snd=!JH cs.length (fun i=>Kx l (JG cs i)==0)∧
  (JH cs.length (fun i=>Kx l (JG cs i)==0)=true→(Bd (l,cs,(cs.length:Int),0,[])).snd.snd.snd.snd=ZC l cs cs.length):=by
 have hk1:∀(i:Nat) (o:List TRow),CK l cs (cs.length:Int) (i:Int) o=(decide (i <cs.length)&&!(Kx l (JG cs i)==0)):=fun i o=>by
  unfold CK
  rw[nn,Me,Int.toNat_natCast]
  rfl
 have hk0:∀(i:Nat) (o:List TRow),BB l cs (cs.length:Int) (i:Int) o=nb (P6 l (JG cs i)):=fun i o=>by
  unfold BB
  rw[Int.toNat_natCast]
  show(I2 (P6 l (JG cs i),((P6 l (JG cs i)).length:Int),(0:Int),[])).snd.snd.snd=_
  rw[(Bgj _ (Ze l (JG cs i)).1 (Ze l (JG cs i)).2).2]
 obtain⟨h1,k,hk,hx,_,hst,hb'⟩:=IN (fun i=>(l,cs,(cs.length:Int),(i:Int),ZC l cs i):Nat→BF) cs.length (fun i=>!(Kx l (JG cs i)==0)) Du Dt FW (EE (l,cs,(cs.length:Int),0,[])) (l,cs,(cs.length:Int),0,[]) rfl (by show cs.length≤((cs.length:Int) - 0).toNat;omega)
  (fun i _ _=>by
   show(!!decide ((i:Int) <(cs.length:Int))&&!CK l cs (cs.length:Int) (i:Int) (ZC l cs i))=_
   rw[hk1,nn,Me]
   cases decide (i <cs.length)<;>rfl)
  (fun i hi _=>by
   show(l,cs,(cs.length:Int),IntKind.i64.wrap ((i:Int)+1),K5 l cs (cs.length:Int) (i:Int) (ZC l cs i))=(l,cs,(cs.length:Int),((i+1:Nat):Int),ZC l cs (i+1))
   unfold K5
   rw[EQ (by omega),hk0]
   rfl)
  (fun i hi _=>by
   have hin:(!!decide ((i:Int) <(cs.length:Int)))=true→i <cs.length:=fun h=>by rw[nn] at h;have:=of_decide_eq_true h;omega
   refine Aa (fun h=>⟨by show(0:Int)≤(i:Int);omega,by have:=hin h;show(i:Int) <(cs.length:Int);omega⟩) (Aa (fun h=>?_) (Aa (fun h _=>?_) (Aa (fun h _=>?_) Ab)))
   ·show Av (cs.getD ((i:Int)).toNat (Ae TC.change)).5.length
    rw[Int.toNat_natCast]
    exact hw _ (getD_in cs (Ae TC.change) i (hin h))
   ·show AK CM CL Er (Dv (P6 l (cs.getD ((i:Int)).toNat (Ae TC.change)),((P6 l (cs.getD ((i:Int)).toNat (Ae TC.change))).length:Int),(0:Int),[])) (P6 l (cs.getD ((i:Int)).toNat (Ae TC.change)),((P6 l (cs.getD ((i:Int)).toNat (Ae TC.change))).length:Int),(0:Int),[])
    exact(Bgj _ (Ze l _).1 (Ze l _).2).1
   ·have a1:=Awl l cs i
    have a2:=Bks (P6 l (JG cs i))
    have a3:=Awb l (JG cs i)
    show Stt l (ZC l cs i)∧Stt l (BB l cs (cs.length:Int) (i:Int) (ZC l cs i))∧(ZC l cs i).length+(BB l cs (cs.length:Int) (i:Int) (ZC l cs i)).length≤400000
    rw[hk0]
    exact⟨Ak8 l cs i,Baf l _,by omega⟩)
 have hr:Bd (l,cs,(cs.length:Int),0,[])=(l,cs,(cs.length:Int),(k:Int),ZC l cs k):=hx
 have hb2:(decide (k <cs.length)&&!(Kx l (JG cs k)==0))=!JH cs.length (fun i=>Kx l (JG cs i)==0):=by
  rw[hb']
  congr 1
  exact H6 fun i _=>Bool.not_not _
 rw[hr]
 refine⟨h1,?_,fun ha=>?_⟩
 ·show CK l cs (cs.length:Int) (k:Int) (ZC l cs k)=_
  rw[hk1,hb2]
 ·show ZC l cs k=_
  rw[ha] at hb2
  rcases Nat.lt_or_ge k cs.length with h|h
  ·have h2:=hst h
   rw[decide_eq_true h,h2] at hb2
   cases hb2
  ·rw[show k=cs.length by omega]
theorem Ay9 (a0:List TGroup) (a1:List TChange) (hp:∀p∈Vb a0 a1,p):CallOk Try.prog 82 [.sl .group a0,.sl .change a1] 0 [] 1 (Xv a0 a1) 1 (Xu a0 a1):=by
 obtain⟨hb,hw⟩:=hp _ (List.mem_cons_self ..)
 obtain⟨h1,h2,h3⟩:=Bvz a0 a1 hb hw
 have h:=A35 a0 a1 (Aa (fun _=>h1) Ab)
 have k0:O8 a0 a1=!JH a1.length (fun i=>Kx a0 (JG a1 i)==0):=h2
 have e:RC a0 a1=stE a0 a1∧RD a0 a1=stR a0 a1:=by
  unfold RC RD Hr stR stE
  rw[k0]
  cases hg:AX a0 !=0 with
  |true=>
   have:(AX a0==0)=false:=by simpa using hg
   refine⟨rfl,?_⟩
   show[]=bif AX a0==0 then ZC a0 a1 a1.length else[]
   rw[this]
   rfl
  |false=>
   cases ha:JH a1.length (fun i=>Kx a0 (JG a1 i)==0) with
   |true=>exact⟨rfl,h3 ha⟩
   |false=>exact⟨rfl,rfl⟩
 unfold RF RE at h
 rw[e.1,e.2] at h
 exact h
def RG:List A→Nat→Objs→Option A9
 | [y0,y1],nx,o=>match Jt .group y0,Jt .change y1 with
  |some a0,some a1=>some (1,(Xv a0 a1).pk (AC nx),nx+1,AB nx (Xu a0 a1)++o,Vb a0 a1)
  |_,_=>none
 |_,_,_=>none
theorem At4:EV Try.prog 82 RG:=fun args nx o k x nx' o' ps h=>by
 unfold RG at h
 split at h<;>first|(cases h;done)|skip
 split at h<;>first|(cases h;done)|skip
 rename_i a0 a1 e0 e1
 cases h
 refine⟨fun hp=>?_,_,rfl⟩
 refine Ah (Ag (Ay9 a0 a1 hp) (Nat.le_refl _) (Ac rfl (Ac rfl An)) nx o) fun F N R vs hl=>?_
 obtain⟨v0,w0,rfl,h0,hl⟩:=hl.inv
 obtain⟨v1,w1,rfl,h1,hl⟩:=hl.inv
 exact HL.cons (BL e0 h0) (HL.cons (BL e1 h1) (hl))
noncomputable def Btt:=A7 82 RG Awt
theorem Bds:CU Try.prog Btt:=Aw At4 Agt
def Ep (a0:List TGroup) (a1:List TRow) (_a2:List TRow):Bool:=Fy a0 a1 !=(0:Int)
def Ir (a0:List TGroup) (a1:List TRow) (a2:List TRow):Bool:=(Ep a0 a1 a2)||Fy a0 a2 !=(0:Int)
def Rx (a0:List TGroup) (a1:List TRow) (a2:List TRow):Int:=bif(Ir a0 a1 a2) then bif(Ep a0 a1 a2) then Fy a0 a1 else Fy a0 a2 else(0:Int)
def Ry (a0:List TGroup) (a1:List TRow) (a2:List TRow):List TRow:=bif(Ir a0 a1 a2) then[] else mrg (a1.length+a2.length) a1 a2
def RA (a0:List TGroup) (a1:List TRow) (a2:List TRow):A:=.tup [.dq 0,.v (.int .i64 (Rx a0 a1 a2))]
def Rz (a0:List TGroup) (a1:List TRow) (a2:List TRow):Objs:=[(0,some (.deep 71 .row (Ry a0 a1 a2)))]
def Ay8 (a0:List TGroup) (a1:List TRow) (a2:List TRow):List Prop:=[(Av a1.length),((!(Ep a0 a1 a2))=true→Av a2.length),((!(Ir a0 a1 a2))=true→Stt a0 a1∧Stt a0 a2∧a1.length+a2.length≤(400000:Nat))]
set_option maxRecDepth 100000 in
theorem Ay7 (a0:List TGroup) (a1:List TRow) (a2:List TRow):ER (AA Btt L0) 9 91 [.sl .group a0,Ak .rows a1,Ak .rows a2] 0 []=some (1,RA a0 a1 a2,1,Rz a0 a1 a2,[((0:Int)≤(0:Int)∧(0:Int) <(↑(2:Nat):Int)),((0:Nat) <(2:Nat)),(Av a1.length),((!(Ep a0 a1 a2))=true→(0:Int)≤(1:Int)∧(1:Int) <(↑(2:Nat):Int)),((!(Ep a0 a1 a2))=true→(1:Nat) <(2:Nat)),((!(Ep a0 a1 a2))=true→Av a2.length),((!(Ir a0 a1 a2))=true→Stt a0 a1∧Stt a0 a2∧a1.length+a2.length≤(400000:Nat))]):=by kernel_rfl
set_option maxRecDepth 100000 in
theorem A34 (a0:List TGroup) (a1:List TRow) (a2:List TRow) (hp:∀p∈Ay8 a0 a1 a2,p):CallOk Try.prog 91 [.sl .group a0,Ak .rows a1,Ak .rows a2] 0 [] 1 (RA a0 a1 a2) 1 (Rz a0 a1 a2):=by
 have n0:((0:Int)≤(0:Int)∧(0:Int) <(↑(2:Nat):Int)):=by first|rfl|decide+kernel
 have n1:((0:Nat) <(2:Nat)):=by first|rfl|decide+kernel
 have n2:=N0 hp
 have n3:((!(Ep a0 a1 a2))=true→(0:Int)≤(1:Int)∧(1:Int) <(↑(2:Nat):Int)):=by omega
 have n4:((!(Ep a0 a1 a2))=true→(1:Nat) <(2:Nat)):=by omega
 have n5:=N0 (N1 hp)
 have n6:=N0 (N1 (N1 hp))
 exact AH (Ax Bds AG) (Ay7 a0 a1 a2) (Aa n0 (Aa n1 (Aa n2 (Aa n3 (Aa n4 (Aa n5 (Aa n6 Ab)))))))
def Xs (a0:List TGroup) (a1 a2:List TRow):A:=.tup [.dq 0,.v (.int .i64 (mgE a0 a1 a2))]
def Xr (a0:List TGroup) (a1 a2:List TRow):Objs:=[(0,some (.deep 71 .row (mgR a0 a1 a2)))]
def Va (_a0:List TGroup) (a1 a2:List TRow):List Prop:=[a1.length+a2.length≤400000]
theorem Ay6 (a0:List TGroup) (a1 a2:List TRow) (hp:∀p∈Va a0 a1 a2,p):CallOk Try.prog 91 [.sl .group a0,Ak .rows a1,Ak .rows a2] 0 [] 1 (Xs a0 a1 a2) 1 (Xr a0 a1 a2):=by
 have hb:a1.length+a2.length≤400000:=hp _ (List.mem_cons_self ..)
 have hk:Ir a0 a1 a2=!(mgE a0 a1 a2==0):=by
  unfold Ir Ep mgE
  cases h:Fy a0 a1 !=0 with
  |true=>
   have:(Fy a0 a1==0)=false:=by simpa using h
   rw[cond_true,this]
   rfl
  |false=>rfl
 have h:=A34 a0 a1 a2 (Aa (by unfold Av;omega) (Aa (fun _=>by unfold Av;omega) (Aa (fun h=>by
  rw[hk,Bool.not_not] at h
  obtain⟨g1,g2⟩:=B45.1 (by simpa using h:mgE a0 a1 a2=0)
  exact⟨(Al9 g1).2,(Al9 g2).2,hb⟩) Ab)))
 have e:Rx a0 a1 a2=mgE a0 a1 a2∧Ry a0 a1 a2=mgR a0 a1 a2:=by
  unfold Rx Ry mgR
  rw[hk]
  cases h0:mgE a0 a1 a2==0 with
  |true=>
   have:mgE a0 a1 a2=0:=by simpa using h0
   rw[this]
   exact⟨rfl,rfl⟩
  |false=>exact⟨rfl,rfl⟩
 unfold RA Rz at h
 rw[e.1,e.2] at h
 exact h
def RB:List A→Nat→Objs→Option A9
 | [y0,y1,y2],nx,o=>match Jt .group y0,AQ .rows y1,AQ .rows y2 with
  |some a0,some (a1,p1),some (a2,p2)=>some (1,(Xs a0 a1 a2).pk (AC nx),nx+1,AB nx (Xr a0 a1 a2)++o,p1++(p2++(Va a0 a1 a2)))
  |_,_,_=>none
 |_,_,_=>none
theorem At3:EV Try.prog 91 RB:=fun args nx o k x nx' o' ps h=>by
 unfold RB at h
 split at h<;>first|(cases h;done)|skip
 split at h<;>first|(cases h;done)|skip
 rename_i a0 a1 p1 a2 p2 e0 e1 e2
 cases h
 refine⟨fun hp=>?_,_,rfl⟩
 have q1:=fun p hm=>hp p (List.mem_append.2 (.inl hm))
 have r1:=fun p hm=>hp p (List.mem_append.2 (.inr hm))
 have q2:=fun p hm=>r1 p (List.mem_append.2 (.inl hm))
 have r2:=fun p hm=>r1 p (List.mem_append.2 (.inr hm))
 refine Ah (Ag (Ay6 a0 a1 a2 r2) (Nat.le_refl _) (Ac rfl (Ac (Af _ _) (Ac (Af _ _) An))) nx o) fun F N R vs hl=>?_
 obtain⟨v0,w0,rfl,h0,hl⟩:=hl.inv
 obtain⟨v1,w1,rfl,h1,hl⟩:=hl.inv
 obtain⟨v2,w2,rfl,h2,hl⟩:=hl.inv
 exact HL.cons (BL e0 h0) (HL.cons (Am e1 q1 h1) (HL.cons (Am e2 q2 h2) (hl)))
noncomputable def Bdt:=A7 91 RB Btt
theorem Awu:CU Try.prog Bdt:=Aw At3 Bds
abbrev BH:Type:=Int×Int×TRow×TRow
def KR (x:BH):St:=⟨38,2,[(2,.own 0 0),(3,.own 1 0),(22,.v (.int .i64 x.1)),(23,.v (.int .i64 x.2.1))],[(0,some (.box 71 [.v (.string x.2.2.1.key),.sl .cell x.2.2.1.cells])),(1,some (.box 71 [.v (.string x.2.2.2.key),.sl .cell x.2.2.2.cells]))]⟩
def My:St→Option BH
 |⟨38,2,[(2,.own 0 0),(3,.own 1 0),(22,.v (.int .i64 z0)),(23,.v (.int .i64 z1))],[(0,some (.box 71 [.v (.string z2),.sl .cell z3])),(1,some (.box 71 [.v (.string z4),.sl .cell z5]))]⟩=>some (z0,z1,⟨z2,z3⟩,⟨z4,z5⟩)
 |_=>none
theorem Adt:∀s x,My s=some x→s=KR x:=fun s x h=>by
 unfold My at h
 split at h
 ·cases h;rfl
 ·cases h
def Ve:CX:=⟨2,2,[2,3,22,23],[],[(0,0),(1,1)],[0,1],[4],[0,1]⟩
def At6:Dp:=⟨[],[(0,0),(1,1)],[2,3,22,23],[0,1]⟩
def C3 (a0:Int) (a1:Int) (a2:TRow) (a3:TRow):Bool:=!!decide (a1 <a0)&&!((a2.2.getD a1.toNat (Ae TC.cell)).1.1==(a3.2.getD a1.toNat (Ae TC.cell)).1.1&&(a2.2.getD a1.toNat (Ae TC.cell)).1.2==(a3.2.getD a1.toNat (Ae TC.cell)).1.2&&((a2.2.getD a1.toNat (Ae TC.cell)).2.1==(a3.2.getD a1.toNat (Ae TC.cell)).2.1&&(a2.2.getD a1.toNat (Ae TC.cell)).2.2==(a3.2.getD a1.toNat (Ae TC.cell)).2.2&&((a2.2.getD a1.toNat (Ae TC.cell)).3==(a3.2.getD a1.toNat (Ae TC.cell)).3&&((a2.2.getD a1.toNat (Ae TC.cell)).4.toList==(a3.2.getD a1.toNat (Ae TC.cell)).4.toList&&((a2.2.getD a1.toNat (Ae TC.cell)).5.1==(a3.2.getD a1.toNat (Ae TC.cell)).5.1&&(a2.2.getD a1.toNat (Ae TC.cell)).5.2==(a3.2.getD a1.toNat (Ae TC.cell)).5.2)))))
def Aja (a0:Int) (a1:Int) (a2:TRow) (a3:TRow):Bool:=!!decide (a1 <a0)&&!(C3 a0 a1 a2 a3)
def DV (x:BH):BH:=(x.1,IntKind.i64.wrap (x.2.1+(1:Int)),x.2.2.1,x.2.2.2)
def DU (x:BH):Cnd:=some (Aja x.1 x.2.1 x.2.2.1 x.2.2.2)
def QE (x:BH):List Prop:=[((!!decide (x.2.1 <x.1))=true→(0:Int)≤x.2.1∧x.2.1 <(↑x.2.2.1.2.length:Int)),((!!decide (x.2.1 <x.1))=true→(0:Int)≤x.2.1∧x.2.1 <(↑x.2.2.2.2.length:Int))]
def GT (x:BH):List Prop:=[((!!decide (x.2.1 <x.1))=true→(0:Int)≤x.2.1∧x.2.1 <(↑x.2.2.1.2.length:Int)),((!!decide (x.2.1 <x.1))=true→(0:Int)≤x.2.1∧x.2.1 <(↑x.2.2.2.2.length:Int))]
def Pg (x:BH):Bo:=[(some 0,some (!decide (x.2.1 <x.1)),⟨38,2,[(4,.dead)],[(0,some (.box 71 [.v (.string x.2.2.1.1),.sl .cell x.2.2.1.2])),(1,some (.box 71 [.v (.string x.2.2.2.1),.sl .cell x.2.2.2.2]))]⟩),(none,some ((C3 x.1 x.2.1 x.2.2.1 x.2.2.2)),⟨38,2,[(4,.v (.bool (false)))],[(0,some (.box 71 [.v (.string x.2.2.1.1),.sl .cell x.2.2.1.2])),(1,some (.box 71 [.v (.string x.2.2.2.1),.sl .cell x.2.2.2.2]))]⟩)]
def E0 (x:BH):Nat:=(x.1 - x.2.1).toNat
def Ajc (x:BH):BH:=Bc DV DU (E0 x) x
set_option maxRecDepth 100000 in
theorem Am9 (a0:Int) (a1:Int) (a2:TRow) (a3:TRow):By (AA Bdt L0) 9 (Aj Try.prog 150 0) Ve (KR (a0,a1,a2,a3))=some (QE (a0,a1,a2,a3),Pg (a0,a1,a2,a3),DU (a0,a1,a2,a3),KR (DV (a0,a1,a2,a3))):=by kernel_rfl
set_option maxRecDepth 100000 in
theorem Ana (a0:Int) (a1:Int) (a2:TRow) (a3:TRow) (hp:∀p∈GT (a0,a1,a2,a3),p):∀p∈QE (a0,a1,a2,a3),p:=by
 have n0:=N0 hp
 have n1:=N0 (N1 hp)
 exact(Aa n0 (Aa n1 Ab))
noncomputable def QF:=HF (AA Bdt L0) (Aj Try.prog 150 0) Ve At6 My E0 DV DU GT Pg
theorem Ajb:∀s b ps outs,QF s=some (b,ps,outs)→Wf s ⟨ps,outs,none⟩∧Br (AA C0 L0) b s ps outs:=
 Bh (T:=KR) Awu AG (u:=9) (by kernel_rfl) (by decide) (fun⟨a0,a1,a2,a3⟩=>Am9 a0 a1 a2 a3) (fun⟨a0,a1,a2,a3⟩=>Ana a0 a1 a2 a3) Adt (fun _=>AU (n:=38) rfl) fun _ _=>rfl
noncomputable def Vd:=Dz 0 QF L0
theorem Ai9:Hf Vd:=A5 Ajb AG
def FC (a0:TRow) (a1:TRow):BH:=Ajc ((↑a0.2.length:Int),(0:Int),a0,a1)
def GJ (a0:TRow) (a1:TRow):Bool:=!a0.1.toList==a1.1.toList||(↑a0.2.length:Int) !=(↑a1.2.length:Int)
def Ui (a0:TRow) (a1:TRow):Bool:=bif(GJ a0 a1) then false else bif C3 (FC a0 a1).fst (FC a0 a1).snd.fst (FC a0 a1).snd.snd.fst (FC a0 a1).snd.snd.snd then false else true
def Uj (a0:TRow) (a1:TRow):A:=.v (.bool (Ui a0 a1))
def Ajd (_a0:TRow) (_a1:TRow):Objs:=[]
def Aa3 (a0:TRow) (a1:TRow):List Prop:=[((!(GJ a0 a1))=true→AK DV DU GT (E0 ((↑a0.2.length:Int),(0:Int),a0,a1)) ((↑a0.2.length:Int),(0:Int),a0,a1))]
set_option maxRecDepth 100000 in
theorem A39 (a0:TRow) (a1:TRow):ER (AA Bdt Vd) 9 150 [Ak .row a0,Ak .row a1] 0 []=some (1,Uj a0 a1,0,Ajd a0 a1,[((!(GJ a0 a1))=true→Aj Try.prog (150:FuncId) (0:Nat)=Aj Try.prog (150:FuncId) (0:Nat)),((!(GJ a0 a1))=true→AK DV DU GT (E0 ((↑a0.2.length:Int),(0:Int),a0,a1)) ((↑a0.2.length:Int),(0:Int),a0,a1))]):=by kernel_rfl
set_option maxRecDepth 100000 in
theorem Bad (a0:TRow) (a1:TRow) (hp:∀p∈Aa3 a0 a1,p):CallOk Try.prog 150 [Ak .row a0,Ak .row a1] 0 [] 1 (Uj a0 a1) 0 (Ajd a0 a1):=by
 have n0:((!(GJ a0 a1))=true→Aj Try.prog (150:FuncId) (0:Nat)=Aj Try.prog (150:FuncId) (0:Nat)):=by intros;rfl
 have n1:=N0 hp
 exact AH (Ax Awu Ai9) (A39 a0 a1) (Aa n0 (Aa n1 Ab))
def Aa4 (a0:TRow) (a1:TRow):A:=.v (.bool (Alw a0 a1))
def Aa2 (_a0:TRow) (_a1:TRow):Objs:=[]
def XC (a0:TRow) (_a1:TRow):List Prop:=[Ai a0.cells.length]
theorem Aa1 (a b:TRow) (hb:Ai a.cells.length):(∀p∈Aa3 a b,p)∧Ui a b=Alw a b:=by
 unfold Ai at hb
 have hk0:GJ a b=(!(a.key==b.key)||a.cells.length !=b.cells.length):=by
  show(!(a.key.toList==b.key.toList)||((a.cells.length:Int) !=(b.cells.length:Int)))=_
  rw[tlb]
  congr 1
  rw[Bool.eq_iff_iff,bne_iff_ne,bne_iff_ne];omega
 have main:GJ a b=false→AK DV DU GT (E0 ((a.2.length:Int),0,a,b)) ((a.2.length:Int),0,a,b)∧C3 (FC a b).fst (FC a b).snd.fst (FC a b).snd.snd.fst (FC a b).snd.snd.snd=!Ahj a.cells b.cells:=fun h0=>by
  rw[hk0] at h0
  have hlen:a.cells.length=b.cells.length:=by simpa using(Bool.or_eq_false_iff.1 h0).2
  have hf:∀i:Nat,C3 (a.cells.length:Int) (i:Int) a b=(decide (i <a.cells.length)&&!eqC (a.2.getD i (Ae TC.cell)) (b.2.getD i (Ae TC.cell))):=fun i=>by
   unfold C3 eqC
   rw[nn,Me,Int.toNat_natCast,tlb]
   simp only[Bool.and_assoc]
  obtain⟨h1,k,hk,hx,_,_,hb'⟩:=IN (fun i=>(((a.cells.length:Int),(i:Int),a,b):BH)) a.cells.length (fun i=>!eqC (a.2.getD i (Ae TC.cell)) (b.2.getD i (Ae TC.cell))) DV DU GT (E0 ((a.cells.length:Int),0,a,b)) ((a.cells.length:Int),0,a,b) rfl (by show a.cells.length≤((a.cells.length:Int) - 0).toNat;omega)
   (fun i _ _=>by
    show((!!decide ((i:Int) <(a.cells.length:Int)))&&!C3 (a.cells.length:Int) (i:Int) a b)=_
    rw[hf,nn,Me]
    cases decide (i <a.cells.length)<;>rfl)
   (fun i hi _=>by
    show((a.cells.length:Int),IntKind.i64.wrap ((i:Int)+1),a,b)=((a.cells.length:Int),((i+1:Nat):Int),a,b)
    rw[EQ (by omega)])
   (fun i _ _=>by
    have hin:(!!decide ((i:Int) <(a.cells.length:Int)))=true→(i:Int) <(a.cells.length:Int):=fun h=>by rw[nn] at h;exact of_decide_eq_true h
    exact Aa (fun h=>⟨by show(0:Int)≤(i:Int);omega,hin h⟩) (Aa (fun h=>⟨by show(0:Int)≤(i:Int);omega,by have:=hin h;show(i:Int) <(b.cells.length:Int);omega⟩) Ab))
  refine⟨h1,?_⟩
  have hr:FC a b=((a.cells.length:Int),(k:Int),a,b):=hx
  rw[hr]
  show C3 (a.cells.length:Int) (k:Int) a b=_
  rw[hf,hb',Bus _ _ hlen]
  congr 1
  exact H6 fun i _=>Bool.not_not _
 refine⟨Aa (fun h=>(main (by simpa using h)).1) Ab,?_⟩
 unfold Ui Alw
 cases h0:GJ a b with
 | true=>
  rw[hk0] at h0
  rw[cond_true]
  cases hk:a.key==b.key with
  |false=>rfl
  |true=>
   rw[hk] at h0
   have hne:a.cells.length≠b.cells.length:=by simpa using h0
   cases he:Ahj a.cells b.cells with
   |false=>rfl
   |true=>exact absurd (congrArg List.length (WB.1 he)) hne
 |false=>
  rw[cond_false,(main h0).2]
  rw[hk0] at h0
  have:(a.key==b.key)=true:=by simpa using(Bool.or_eq_false_iff.1 h0).1
  rw[this,Bool.true_and]
  cases Ahj a.cells b.cells<;>rfl
theorem A38 (a0:TRow) (a1:TRow) (hp:∀p∈XC a0 a1,p):CallOk Try.prog 150 [Ak .row a0,Ak .row a1] 0 [] 1 (Aa4 a0 a1) 0 (Aa2 a0 a1):=by
 have hb:Ai a0.cells.length:=hp _ (List.mem_cons_self ..)
 have h:=Bad a0 a1 (Aa1 a0 a1 hb).1
 unfold Uj at h
 rw[(Aa1 a0 a1 hb).2] at h
 exact h
def Uk:List A→Nat→Objs→Option A9
 | [y0,y1],nx,o=>match AQ .row y0,AQ .row y1 with
  |some (a0,p0),some (a1,p1)=>some (1,(Aa4 a0 a1).pk (AC nx),nx+0,AB nx (Aa2 a0 a1)++o,p0++(p1++(XC a0 a1)))
  |_,_=>none
 |_,_,_=>none
theorem Azf:EV Try.prog 150 Uk:=fun args nx o k x nx' o' ps h=>by
 unfold Uk at h
 split at h<;>first|(cases h;done)|skip
 split at h<;>first|(cases h;done)|skip
 rename_i a0 p0 a1 p1 e0 e1
 cases h
 refine⟨fun hp=>?_,_,rfl⟩
 have q0:=fun p hm=>hp p (List.mem_append.2 (.inl hm))
 have r0:=fun p hm=>hp p (List.mem_append.2 (.inr hm))
 have q1:=fun p hm=>r0 p (List.mem_append.2 (.inl hm))
 have r1:=fun p hm=>r0 p (List.mem_append.2 (.inr hm))
 refine Ah (Ag (A38 a0 a1 r1) (Nat.le_refl _) (Ac (Af _ _) (Ac (Af _ _) An)) nx o) fun F N R vs hl=>?_
 obtain⟨v0,w0,rfl,h0,hl⟩:=hl.inv
 obtain⟨v1,w1,rfl,h1,hl⟩:=hl.inv
 exact HL.cons (Am e0 q0 h0) (HL.cons (Am e1 q1 h1) (hl))
noncomputable def B1i:=A7 150 Uk Bdt
theorem Btu:CU Try.prog B1i:=Aw Azf Awu
noncomputable def Cms:=B1i
theorem Btv:CU Try.prog Cms:=Btu
end Go.Proofs.Yteebobbhhgmeiaa
