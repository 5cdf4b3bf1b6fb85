/- made by a program (rowgen.py): ModelStates: for every input the law returns true, and each argument reads behind the call as it read before. -/
import Derived.Test.YteebobbhhgmeiaaKMsd

namespace Go.Proofs.Yteebobbhhgmeiaa
open Go.RowKit
abbrev BO:Type:=ByteArray×Nat
def JE (x:BO):St:=⟨36,2,[(26,.own 1 0)],[(1,some (.sit x.1 x.2))]⟩
def K8:St→Option BO
 |⟨36,2,[(26,.own 1 0)],[(1,some (.sit z0 z1))]⟩=>some (z0,z1)
 |_=>none
theorem XX:∀s x,K8 s=some x→s=JE x:=fun s x h=>by
 unfold K8 at h
 split at h
 ·cases h;rfl
 ·cases h
def QL:CX:=⟨2,2,[26],[],[(1,1)],[1],[2],[1]⟩
def Ajp:Dp:=⟨[],[(1,1)],[26],[1]⟩
def FH (a0:ByteArray) (a1:Nat):Bool:=!!decide (a1 <a0.size)
def C6 (a0:ByteArray) (a1:Nat):Bool:=(FH a0 a1)&&(decide ((↑(Utf8.decode a0 a1).fst:Int) <(97:Int))||decide ((↑(Utf8.decode a0 a1).fst:Int) >(122:Int)))
def ZX (a0:ByteArray) (a1:Nat):Nat:=bif decide (a1 <a0.size) then a1+(Utf8.decode a0 a1).snd else a1
def ZY (a0:ByteArray) (a1:Nat):Bool:=(FH a0 a1)&&!(C6 a0 a1)
def ZZ (a0:ByteArray) (a1:Nat):Nat:=bif decide (a1 <a0.size) then a1+(Utf8.decode a0 a1).snd else a1
def Z1 (a0:ByteArray) (a1:Nat):Nat:=bif decide (a1 <a0.size) then a1+(Utf8.decode a0 a1).snd else a1
def D0 (x:BO):BO:=(x.1,ZX x.1 x.2)
def DZ (x:BO):Cnd:=some (ZY x.1 x.2)
def NY (x:BO):List Prop:=[((FH x.1 x.2)=true→decide (x.2 <x.1.size)=true)]
def Hx (_x:BO):List Prop:=[]
def Ni (x:BO):Bo:=[(some 0,some (!decide (x.2 <x.1.size)),⟨36,2,[(2,.dead)],[(1,some (.sit x.1 (ZZ x.1 x.2)))]⟩),(none,some ((C6 x.1 x.2)),⟨36,2,[(2,.v (.bool (false)))],[(1,some (.sit x.1 (Z1 x.1 x.2)))]⟩)]
def FI (x:BO):Nat:=x.1.size - x.2
def KC (x:BO):BO:=Bc D0 DZ (FI x) x
set_option maxRecDepth 100000 in
theorem Ad2 (a0:ByteArray) (a1:Nat):By (AA Cf L0) 9 (Aj Try.prog 164 0) QL (JE (a0,a1))=some (NY (a0,a1),Ni (a0,a1),DZ (a0,a1),JE (D0 (a0,a1))):=by kernel_rfl
set_option maxRecDepth 100000 in
theorem Ad3 (a0:ByteArray) (a1:Nat) (_hp:∀p∈Hx (a0,a1),p):∀p∈NY (a0,a1),p:=by
 have n0:((FH a0 a1)=true→decide (a1 <a0.size)=true):=by intro h;exact(Bool.not_not _).symm.trans h
 exact(Aa n0 Ab)
noncomputable def NZ:=HF (AA Cf L0) (Aj Try.prog 164 0) QL Ajp K8 FI D0 DZ Hx Ni
theorem Z2:∀s b ps outs,NZ s=some (b,ps,outs)→Wf s ⟨ps,outs,none⟩∧Br (AA C0 L0) b s ps outs:=
 Bh (T:=JE) Bs8 AG (u:=9) (by kernel_rfl) (by decide) (fun⟨a0,a1⟩=>Ad2 a0 a1) (fun⟨a0,a1⟩=>Ad3 a0 a1) XX (fun _=>AU (n:=36) rfl) fun _ _=>rfl
noncomputable def QK:=Dz 0 NZ L0
theorem ZW:Hf QK:=A5 Z2 AG
def Gk (a0:TGroup):Bool:=a0.1.toList==(ByteArray.mk #[]).toList||decide ((↑a0.1.size:Int) >(12:Int))||a0.2 !=(1:Int)&&a0.2 !=(2:Int)
def Pt (a0:TGroup):Bool:=bif(Gk a0) then false else bif C6 (KC (a0.1,(0:Nat))).fst (KC (a0.1,(0:Nat))).snd then false else true
def Pu (a0:TGroup):A:=.v (.bool (Pt a0))
def XY (_a0:TGroup):Objs:=[]
def Vm (a0:TGroup):List Prop:=[((!(Gk a0))=true→AK D0 DZ Hx (FI (a0.1,(0:Nat))) (a0.1,(0:Nat)))]
set_option maxRecDepth 100000 in
theorem Aud (a0:TGroup):ER (AA Cf QK) 9 164 [Ak .group a0] 0 []=some (1,Pu a0,0,XY a0,[((!(Gk a0))=true→Aj Try.prog (164:FuncId) (0:Nat)=Aj Try.prog (164:FuncId) (0:Nat)),((!(Gk a0))=true→AK D0 DZ Hx (FI (a0.1,(0:Nat))) (a0.1,(0:Nat)))]):=by kernel_rfl
set_option maxRecDepth 100000 in
theorem A0d (a0:TGroup) (hp:∀p∈Vm a0,p):CallOk Try.prog 164 [Ak .group a0] 0 [] 1 (Pu a0) 0 (XY a0):=by
 have n0:((!(Gk a0))=true→Aj Try.prog (164:FuncId) (0:Nat)=Aj Try.prog (164:FuncId) (0:Nat)):=by intros;rfl
 have n1:=N0 hp
 exact AH (Ax Bs8 ZW) (Aud a0) (Aa n0 (Aa n1 Ab))
def Vn (a0:TGroup):A:=.v (.bool (IQ a0.name&&Pm a0.policy))
def Vl (_a0:TGroup):Objs:=[]
def Tf (_a0:TGroup):List Prop:=[]
theorem Vk (g:TGroup):(∀p∈Vm g,p)∧Pt g=(IQ g.name&&Pm g.policy):=by
 have hk0:∀i,C6 g.1 i=(decide (i <g.1.size)&&!Xj (g.1.data.toList.getD i 0)):=fun i=>by
  unfold C6 FH
  rw[nn]
  by_cases h:i <g.1.size
  ·rw[decide_eq_true h,Bool.true_and,Bool.true_and];exact(Biw g.1 i h).1
  ·rw[decide_eq_false h];rfl
 obtain⟨h1,k,hk,hx,hs,hst⟩:=Brt (fun i=>((g.1,i):ByteArray×Nat)) g.1.size (fun i=>!Xj (g.1.data.toList.getD i 0)) D0 DZ Hx (FI (g.1,0)) (g.1,0) rfl (Nat.le_refl _)
  (fun i _ _=>by
   show((!!decide (i <g.1.size))&&!C6 g.1 i)=_
   rw[hk0,nn]
   cases decide (i <g.1.size)<;>rfl)
  (fun i hi hj=>by
   show(g.1,(bif decide (i <g.1.size) then i+(Utf8.decode g.1 i).snd else i))=(g.1,i+1)
   have h2:=hj i (Nat.lt_succ_self i)
   rw[decide_eq_true hi,cond_true,(Biw g.1 i hi).2 (by simpa using h2)])
  (fun _ _ _=>Ab)
 refine⟨Aa (fun _=>h1) Ab,?_⟩
 have hr:KC (g.1,0)=(g.1,k):=hx
 have ha:g.1.data.toList.all Xj=decide (¬k <g.1.size):=by
  have:=Bd3 g.1.data.toList 0 Xj k (by rw[Lf];exact hk) (fun j hj=>by simpa using hs j hj) (fun h=>by rw[Lf] at h;simpa using hst h)
  rw[Lf] at this
  exact this
 unfold Pt
 rw[hr]
 show(bif Gk g then false else bif C6 g.1 k then false else true)=_
 rw[hk0]
 unfold Gk IQ Pm
 rw[RJ]
 show _=(g.1.data.toList.all Xj&&(decide (1≤g.1.size)&&decide (g.1.size≤12))&&(g.2==1||g.2==2))
 rw[ha]
 have e1:(g.1.size==0)=!decide (1≤g.1.size):=B5m _
 have e2:decide ((g.1.size:Int) >12)=!decide (g.1.size≤12):=by
  rw[←decide_not];exact decide_eq_decide.2 (by generalize g.1.size=m;omega)
 have e3:(g.2 !=1&&g.2 !=2)=!(g.2==1||g.2==2):=by simp[bne]
 rw[e1,e2,e3]
 by_cases h:k <g.1.size
 ·have:=hst h
  rw[this,decide_eq_true h,decide_eq_false (not_not_intro h)]
  simp
 ·rw[decide_eq_false h,decide_eq_true h]
  cases decide (1≤g.1.size)<;>cases decide (g.1.size≤12)<;>cases(g.2==1||g.2==2)<;>rfl
theorem Auc (a0:TGroup) (_hp:∀p∈Tf a0,p):CallOk Try.prog 164 [Ak .group a0] 0 [] 1 (Vn a0) 0 (Vl a0):=by
 have h:=A0d a0 (Vk a0).1
 unfold Pu at h
 rw[(Vk a0).2] at h
 exact h
def Pv:List A→Nat→Objs→Option A9
 | [y0],nx,o=>match AQ .group y0 with
  |some (a0,p0)=>some (1,(Vn a0).pk (AC nx),nx+0,AB nx (Vl a0)++o,p0++(Tf a0))
  |_=>none
 |_,_,_=>none
theorem Anm:EV Try.prog 164 Pv:=fun args nx o k x nx' o' ps h=>by
 unfold Pv at h
 split at h<;>first|(cases h;done)|skip
 split at h<;>first|(cases h;done)|skip
 rename_i a0 p0 e0
 cases h
 refine⟨fun hp=>?_,_,rfl⟩
 have q0:=fun p hm=>hp p (List.mem_append.2 (.inl hm))
 have r0:=fun p hm=>hp p (List.mem_append.2 (.inr hm))
 refine Ah (Ag (Auc a0 r0) (Nat.le_refl _) (Ac (Af _ _) An) nx o) fun F N R vs hl=>?_
 obtain⟨v0,w0,rfl,h0,hl⟩:=hl.inv
 exact HL.cons (Am e0 q0 h0) (hl)
noncomputable def Bs9:=A7 164 Pv Cf
theorem A7w:CU Try.prog Bs9:=Aw Anm Bs8
abbrev Bt:Type:=(List TGroup)×Int×Int×(List (U .str×U .i64))
def Kr (x:Bt):St:=⟨35,1,[(3,.mp 0),(15,.sl .group x.1),(16,.v (.int .i64 x.2.1)),(17,.v (.int .i64 x.2.2.1))],[(0,some (.map .str .i64 x.2.2.2))]⟩
def LW:St→Option Bt
 |⟨35,1,[(3,.mp 0),(15,.sl .group z0),(16,.v (.int .i64 z1)),(17,.v (.int .i64 z2))],[(0,some (.map .str .i64 z3))]⟩=>some (z0,z1,z2,z3)
 |_=>none
theorem ZV:∀s x,LW s=some x→s=Kr x:=fun s x h=>by
 unfold LW at h
 split at h
 ·cases h;rfl
 ·cases h
def Te:CX:=⟨1,1,[3,15,16,17],[],[(0,0)],[0],[2],[0]⟩
def Anl:Dp:=⟨[],[(0,0)],[3,15,16,17],[0]⟩
def EF (a0:List TGroup) (_a1:Int) (a2:Int) (a3:List (U .str×U .i64)):List (ByteArray×Int):=Z8 a3 (a0.getD a2.toNat (Ae TC.group)).1 (IntKind.i64.wrap (KE a3 (a0.getD a2.toNat (Ae TC.group)).1+(1:Int)))
def Dw (a0:List TGroup) (a1:Int) (a2:Int) (a3:List (U .str×U .i64)):Bool:=!!decide (a2 <a1)&&(!(IQ (a0.getD a2.toNat (Ae TC.group)).1&&Pm (a0.getD a2.toNat (Ae TC.group)).2)||decide (KE (EF a0 a1 a2 a3) (a0.getD a2.toNat (Ae TC.group)).1 >(1:Int)))
def Adz (a0:List TGroup) (a1:Int) (a2:Int) (a3:List (U .str×U .i64)):List (U .str×U .i64):=(EF a0 a1 a2 a3)
def Ad0 (a0:List TGroup) (a1:Int) (a2:Int) (a3:List (U .str×U .i64)):Bool:=!!decide (a2 <a1)&&!(Dw a0 a1 a2 a3)
def I5 (a0:List TGroup) (_a1:Int) (a2:Int) (_a3:List (U .str×U .i64)):Int:=bif !(IQ (a0.getD a2.toNat (Ae TC.group)).1&&Pm (a0.getD a2.toNat (Ae TC.group)).2) then(2:Int) else(70:Int)
def ZU (a0:List TGroup) (a1:Int) (a2:Int) (a3:List (U .str×U .i64)):List (U .str×U .i64):=bif !(IQ (a0.getD a2.toNat (Ae TC.group)).1&&Pm (a0.getD a2.toNat (Ae TC.group)).2) then a3 else(EF a0 a1 a2 a3)
def Dy (x:Bt):Bt:=(x.1,x.2.1,IntKind.i64.wrap (x.2.2.1+(1:Int)),Adz x.1 x.2.1 x.2.2.1 x.2.2.2)
def Dx (x:Bt):Cnd:=some (Ad0 x.1 x.2.1 x.2.2.1 x.2.2.2)
def Pr (x:Bt):List Prop:=[((!!decide (x.2.2.1 <x.2.1))=true→(0:Int)≤x.2.2.1∧x.2.2.1 <(↑x.1.length:Int))]
def FY (x:Bt):List Prop:=[((!!decide (x.2.2.1 <x.2.1))=true→(0:Int)≤x.2.2.1∧x.2.2.1 <(↑x.1.length:Int))]
def NX (x:Bt):Bo:=[(some 1,some (!decide (x.2.2.1 <x.2.1)),⟨35,1,[(2,.dead)],[(0,some (.map .str .i64 x.2.2.2))]⟩),(none,some ((Dw x.1 x.2.1 x.2.2.1 x.2.2.2)),⟨35,2,[(2,.v (.int .i64 (I5 x.1 x.2.1 x.2.2.1 x.2.2.2)))],[(0,some (.map .str .i64 (ZU x.1 x.2.1 x.2.2.1 x.2.2.2)))]⟩)]
def EG (x:Bt):Nat:=(x.2.1 - x.2.2.1).toNat
def Hw (x:Bt):Bt:=Bc Dy Dx (EG x) x
set_option maxRecDepth 100000 in
theorem Ajm (a0:List TGroup) (a1:Int) (a2:Int) (a3:List (U .str×U .i64)):By (AA Bs9 L0) 9 (Aj Try.prog 131 1) Te (Kr (a0,a1,a2,a3))=some (Pr (a0,a1,a2,a3),NX (a0,a1,a2,a3),Dx (a0,a1,a2,a3),Kr (Dy (a0,a1,a2,a3))):=by kernel_rfl
set_option maxRecDepth 100000 in
theorem Ajn (a0:List TGroup) (a1:Int) (a2:Int) (a3:List (U .str×U .i64)) (hp:∀p∈FY (a0,a1,a2,a3),p):∀p∈Pr (a0,a1,a2,a3),p:=by
 have n0:=N0 hp
 exact(Aa n0 Ab)
noncomputable def Ps:=HF (AA Bs9 L0) (Aj Try.prog 131 1) Te Anl LW EG Dy Dx FY NX
theorem Ad1:∀s b ps outs,Ps s=some (b,ps,outs)→Wf s ⟨ps,outs,none⟩∧Br (AA C0 L0) b s ps outs:=
 Bh (T:=Kr) A7w AG (u:=9) (by kernel_rfl) (by decide) (fun⟨a0,a1,a2,a3⟩=>Ajm a0 a1 a2 a3) (fun⟨a0,a1,a2,a3⟩=>Ajn a0 a1 a2 a3) ZV (fun _=>AU (n:=35) rfl) fun _ _=>rfl
noncomputable def Td:=Dz 1 Ps L0
theorem Ady:Hf Td:=A5 Ad1 AG
def Ev (a0:List TGroup):Bool:=(↑a0.length:Int)==(0:Int)||decide ((↑a0.length:Int) >(4:Int))
def Pq (a0:List TGroup):List TGroup:=(Hw (a0,(↑a0.length:Int),(0:Int),[])).fst
def Pp (a0:List TGroup):Int:=(Hw (a0,(↑a0.length:Int),(0:Int),[])).snd.fst
def Po (a0:List TGroup):List (U TC.str×U TC.i64):=(Hw (a0,(↑a0.length:Int),(0:Int),[])).snd.snd.snd
def Pn (a0:List TGroup):Int:=(Hw (a0,(↑a0.length:Int),(0:Int),[])).snd.snd.fst
def KH (a0:List TGroup):Int:=bif(Ev a0) then bif(↑a0.length:Int)==(0:Int) then(2:Int) else(3:Int) else bif Dw (Pq a0) (Pp a0) (Pn a0) (Po a0) then I5 (Pq a0) (Pp a0) (Pn a0) (Po a0) else(0:Int)
def RS (a0:List TGroup):A:=.v (.int .i64 (KH a0))
def Aa9 (_a0:List TGroup):Objs:=[]
def XS (a0:List TGroup):List Prop:=[((!(Ev a0))=true→AK Dy Dx FY (EG (a0,(↑a0.length:Int),(0:Int),[])) (a0,(↑a0.length:Int),(0:Int),[]))]
set_option maxRecDepth 100000 in
theorem A0c (a0:List TGroup):ER (AA Bs9 Td) 9 131 [.sl .group a0] 0 []=some (1,RS a0,0,Aa9 a0,[((!(Ev a0))=true→Aj Try.prog (131:FuncId) (1:Nat)=Aj Try.prog (131:FuncId) (1:Nat)),((!(Ev a0))=true→AK Dy Dx FY (EG (a0,(↑a0.length:Int),(0:Int),[])) (a0,(↑a0.length:Int),(0:Int),[]))]):=by kernel_rfl
set_option maxRecDepth 100000 in
theorem A4h (a0:List TGroup) (hp:∀p∈XS a0,p):CallOk Try.prog 131 [.sl .group a0] 0 [] 1 (RS a0) 0 (Aa9 a0):=by
 have n0:((!(Ev a0))=true→Aj Try.prog (131:FuncId) (1:Nat)=Aj Try.prog (131:FuncId) (1:Nat)):=by intros;rfl
 have n1:=N0 hp
 exact AH (Ax A7w Ady) (A0c a0) (Aa n0 (Aa n1 Ab))
def XT (a0:List TGroup):A:=.v (.int .i64 (AX a0))
def XR (_a0:List TGroup):Objs:=[]
def Vj (_a0:List TGroup):List Prop:=[]
theorem XQ (l:List TGroup):(∀p∈XS l,p)∧KH l=AX l:=by
 have e4:Ev l=(l.length==0||decide (4 <l.length)):=by
  unfold Ev
  rw[Aw2]
  congr 1
  exact dgt l.length 4
 have main:Ev l=false→AK Dy Dx FY (EG (l,(l.length:Int),0,[])) (l,(l.length:Int),0,[])∧KH l=AX l:=fun h4=>by
  have hn4:l.length≤4:=by
   rw[e4] at h4
   have:=of_decide_eq_false (Bool.or_eq_false_iff.1 h4).2
   omega
  have hk0:∀i,i≤l.length→(∀j,j <i→V4 l j=false)→Dw l (l.length:Int) (i:Int) (S3 l i)=(decide (i <l.length)&&V4 l i):=fun i hi hs=>by
   unfold Dw EF
   rw[Int.toNat_natCast,Axv,if_pos rfl,Axu l i hi hs,nn,Me]
   unfold V4
   congr 2
   cases((l.take i).map (·.name)).any (fun s=>s==(l.getD i (Ae TC.group)).1)<;>rfl
  obtain⟨h1,k,hk,hx,hs,hst⟩:=Brt (fun i=>((l,(l.length:Int),(i:Int),S3 l i):Bt)) l.length (V4 l) Dy Dx FY (EG (l,(l.length:Int),0,[])) ((l,(l.length:Int),0,[]):Bt) rfl
   (by show l.length≤((l.length:Int) - 0).toNat;omega)
   (fun i hi hs=>by
    show((!!decide ((i:Int) <(l.length:Int)))&&!Dw l (l.length:Int) (i:Int) (S3 l i))=_
    rw[hk0 i hi hs,nn,Me]
    cases decide (i <l.length)<;>rfl)
   (fun i hi hs=>by
    show(l,(l.length:Int),IntKind.i64.wrap ((i:Int)+1),EF l (l.length:Int) (i:Int) (S3 l i))=(l,(l.length:Int),((i+1:Nat):Int),S3 l (i+1))
    rw[EQ (by omega)]
    unfold EF
    rw[Int.toNat_natCast]
    rfl)
   (fun i hi hs=>Aa (fun h=>by
    have h':(!!decide ((i:Int) <(l.length:Int)))=true:=h
    rw[nn] at h'
    have:=of_decide_eq_true h'
    show(0:Int)≤(i:Int)∧(i:Int) <(l.length:Int)
    omega) Ab)
  refine⟨h1,?_⟩
  have hr:Hw (l,(l.length:Int),0,[])=(l,(l.length:Int),(k:Int),S3 l k):=hx
  unfold KH Pq Pp Po Pn
  rw[hr,h4,cond_false]
  show(bif Dw l (l.length:Int) (k:Int) (S3 l k) then I5 l (l.length:Int) (k:Int) (S3 l k) else 0)=_
  rw[hk0 k hk hs]
  rw[e4] at h4
  obtain⟨h5,h6⟩:=Bool.or_eq_false_iff.1 h4
  unfold AX
  rw[h5,h6,cond_false,cond_false,A6n l k [] (fun j hj hl=>by
   have:=hs j hj
   unfold V4 at this
   obtain⟨q1,q2⟩:=Bool.or_eq_false_iff.1 this
   exact⟨by rw[Bool.not_eq_false'] at q1;exact q1,by simpa using q2⟩),List.nil_append]
  by_cases hkl:k <l.length
  ·have hst':=hst hkl
   rw[hst',decide_eq_true hkl,Bool.and_true,cond_true]
   have hd:l.drop k=l.getD k (Ae TC.group)::l.drop (k+1):=by
    rw[List.getD_eq_getElem?_getD,List.getElem?_eq_getElem hkl,Option.getD_some]
    exact List.drop_eq_getElem_cons hkl
   rw[hd]
   unfold Rp I5
   rw[Int.toNat_natCast]
   unfold V4 at hst'
   show(bif !(IQ (l.getD k (Ae TC.group)).1&&Pm (l.getD k (Ae TC.group)).2) then(2:Int) else 70)=bif !(IQ (l.getD k (Ae TC.group)).1&&Pm (l.getD k (Ae TC.group)).2) then 2 else _
   cases hq:!(IQ (l.getD k (Ae TC.group)).1&&Pm (l.getD k (Ae TC.group)).2) with
   |true=>rfl
   |false=>
    rw[hq,Bool.false_or] at hst'
    have hst2:((l.take k).map (·.name)).any (fun s=>s==(l.getD k (Ae TC.group)).name)=true:=hst'
    rw[cond_false,cond_false,hst2]
    rfl
  ·rw[decide_eq_false hkl,Bool.false_and,cond_false,List.drop_eq_nil_of_le (by omega)]
   rfl
 cases h4:Ev l with
 |false=>
  obtain⟨g1,g2⟩:=main h4
  exact⟨Aa (fun _=>g1) Ab,g2⟩
 | true=>
  refine⟨Aa (fun h=>by rw[h4] at h;cases h) Ab,?_⟩
  unfold KH AX
  rw[h4,cond_true,Aw2]
  rw[e4] at h4
  cases h5:l.length==0 with
  |true=>rfl
  |false=>
   rw[h5,Bool.false_or] at h4
   rw[h4]
   rfl
theorem XP (a0:List TGroup) (_hp:∀p∈Vj a0,p):CallOk Try.prog 131 [.sl .group a0] 0 [] 1 (XT a0) 0 (XR a0):=by
 have h:=A4h a0 (XQ a0).1
 unfold RS at h
 rw[(XQ a0).2] at h
 exact h
def RT:List A→Nat→Objs→Option A9
 | [y0],nx,o=>match Jt .group y0 with
  |some a0=>some (1,(XT a0).pk (AC nx),nx+0,AB nx (XR a0)++o,Vj a0)
  |_=>none
 |_,_,_=>none
theorem Aub:EV Try.prog 131 RT:=fun args nx o k x nx' o' ps h=>by
 unfold RT at h
 split at h<;>first|(cases h;done)|skip
 split at h<;>first|(cases h;done)|skip
 rename_i a0 e0
 cases h
 refine⟨fun hp=>?_,_,rfl⟩
 refine Ah (Ag (XP a0 hp) (Nat.le_refl _) (Ac rfl An) nx o) fun F N R vs hl=>?_
 obtain⟨v0,w0,rfl,h0,hl⟩:=hl.inv
 exact HL.cons (BL e0 h0) (hl)
noncomputable def Bta:=A7 131 RT Bs9
theorem A7x:CU Try.prog Bta:=Aw Aub A7w
abbrev DL:Type:=ByteArray×Int
def MS (x:DL):St:=⟨28,0,[(0,.v (.string x.1)),(3,.v (.int .i64 x.2))],[]⟩
def Py:St→Option DL
 |⟨28,0,[(0,.v (.string z0)),(3,.v (.int .i64 z1))],[]⟩=>some (z0,z1)
 |_=>none
theorem Anu:∀s x,Py s=some x→s=MS x:=fun s x h=>by
 unfold Py at h
 split at h
 ·cases h;rfl
 ·cases h
def Abf:CX:=⟨0,0,[0,3],[],[],[],[2],[]⟩
def A4m:Dp:=⟨[],[],[0,3],[]⟩
def E9 (a0:ByteArray) (a1:Int):Bool:=!!decide (a1 <(↑a0.size:Int))
def E8 (a0:ByteArray) (a1:Int):Bool:=(E9 a0 a1)&&(decide ((↑(a0.data.toList.getD a1.toNat (0:UInt8)).toNat:Int) <(97:Int))||decide ((↑(a0.data.toList.getD a1.toNat (0:UInt8)).toNat:Int) >(122:Int)))
def Aul (a0:ByteArray) (a1:Int):Bool:=(E9 a0 a1)&&!(E8 a0 a1)
def GX (x:DL):DL:=(x.1,IntKind.i64.wrap (x.2+(1:Int)))
def GW (x:DL):Cnd:=some (Aul x.1 x.2)
def Vt (x:DL):List Prop:=[((E9 x.1 x.2)=true→(0:Int)≤x.2∧x.2 <(↑x.1.size:Int)),((E9 x.1 x.2)=true→decide ((↑(x.1.data.toList.getD x.2.toNat (0:UInt8)).toNat:Int) <(97:Int))=false→(0:Int)≤x.2∧x.2 <(↑x.1.size:Int))]
def JW (x:DL):List Prop:=[((E9 x.1 x.2)=true→(0:Int)≤x.2∧x.2 <(↑x.1.size:Int)),((E9 x.1 x.2)=true→decide ((↑(x.1.data.toList.getD x.2.toNat (0:UInt8)).toNat:Int) <(97:Int))=false→(0:Int)≤x.2∧x.2 <(↑x.1.size:Int))]
def Tj (x:DL):Bo:=[(some 0,some (!decide (x.2 <(↑x.1.size:Int))),⟨28,0,[(2,.dead)],[]⟩),(none,some ((E8 x.1 x.2)),⟨28,0,[(2,.v (.bool (false)))],[]⟩)]
def Iw (x:DL):Nat:=((↑x.1.size:Int) - x.2).toNat
def NG (x:DL):DL:=Bc GX GW (Iw x) x
set_option maxRecDepth 100000 in
theorem A0p (a0:ByteArray) (a1:Int):By (AA Bta L0) 9 (Aj Try.prog 163 0) Abf (MS (a0,a1))=some (Vt (a0,a1),Tj (a0,a1),GW (a0,a1),MS (GX (a0,a1))):=by kernel_rfl
set_option maxRecDepth 100000 in
theorem A0q (a0:ByteArray) (a1:Int) (hp:∀p∈JW (a0,a1),p):∀p∈Vt (a0,a1),p:=by
 have n0:=N0 hp
 have n1:=N0 (N1 hp)
 exact(Aa n0 (Aa n1 Ab))
noncomputable def Vu:=HF (AA Bta L0) (Aj Try.prog 163 0) Abf A4m Py Iw GX GW JW Tj
theorem Aum:∀s b ps outs,Vu s=some (b,ps,outs)→Wf s ⟨ps,outs,none⟩∧Br (AA C0 L0) b s ps outs:=
 Bh (T:=MS) A7x AG (u:=9) (by kernel_rfl) (by decide) (fun⟨a0,a1⟩=>A0p a0 a1) (fun⟨a0,a1⟩=>A0q a0 a1) Anu (fun _=>AU (n:=28) rfl) fun _ _=>rfl
noncomputable def Abe:=Dz 0 Vu L0
theorem Auk:Hf Abe:=A5 Aum AG
def Aeg (a0:ByteArray):Bool:=bif E8 (NG (a0,(0:Int))).fst (NG (a0,(0:Int))).snd then false else decide ((↑a0.size:Int)≥(1:Int))&&decide ((↑a0.size:Int)≤(12:Int))
def Aeh (a0:ByteArray):A:=.v (.bool (Aeg a0))
def A0r (_a0:ByteArray):Objs:=[]
def Ara (a0:ByteArray):List Prop:=[(AK GX GW JW (Iw (a0,(0:Int))) (a0,(0:Int)))]
set_option maxRecDepth 100000 in
theorem Bg6 (a0:ByteArray):ER (AA Bta Abe) 9 163 [Ak .str a0] 0 []=some (1,Aeh a0,0,A0r a0,[(Aj Try.prog (163:FuncId) (0:Nat)=Aj Try.prog (163:FuncId) (0:Nat)),(AK GX GW JW (Iw (a0,(0:Int))) (a0,(0:Int)))]):=by kernel_rfl
set_option maxRecDepth 100000 in
theorem Bld (a0:ByteArray) (hp:∀p∈Ara a0,p):CallOk Try.prog 163 [Ak .str a0] 0 [] 1 (Aeh a0) 0 (A0r a0):=by
 have n1:=N0 hp
 exact AH (Ax A7x Auk) (Bg6 a0) (Aa rfl (Aa n1 Ab))
def Arb (a0:ByteArray):A:=.v (.bool (IQ a0))
def Aq9 (_a0:ByteArray):Objs:=[]
def Ajs (a0:ByteArray):List Prop:=[Av a0.size]
theorem Aq8 (g:ByteArray) (hb:Av g.size):(∀p∈Ara g,p)∧Aeg g=IQ g:=by
 unfold Av at hb
 have hlow:∀i,(decide ((((g.data.toList.getD i 0).toNat:Nat):Int) <97)||decide ((((g.data.toList.getD i 0).toNat:Nat):Int) >122))=!Xj (g.data.toList.getD i 0):=fun i=>by
  unfold Xj
  rw[Bool.not_and,←decide_not,←decide_not]
  congr 1<;>exact decide_eq_decide.2 (by omega)
 have hk0:∀i:Nat,E8 g (i:Int)=(decide (i <g.size)&&!Xj (g.data.toList.getD i 0)):=fun i=>by
  unfold E8 E9
  rw[nn,Me,Int.toNat_natCast,hlow]
 obtain⟨h1,k,hk,hx,hs,hst⟩:=Brt (fun i=>((g,(i:Int)):ByteArray×Int)) g.size (fun i=>!Xj (g.data.toList.getD i 0)) GX GW JW (Iw (g,0)) (g,0) rfl (by show g.size≤((g.size:Int) - 0).toNat;omega)
  (fun i _ _=>by
   show((!!decide ((i:Int) <(g.size:Int)))&&!E8 g i)=_
   rw[hk0,nn,Me]
   cases decide (i <g.size)<;>rfl)
  (fun i hi hj=>by
   show(g,IntKind.i64.wrap ((i:Int)+1))=(g,((i+1:Nat):Int))
   rw[EQ (by omega)])
  (fun i _ _=>Aa (fun h=>by
    have h':(!!decide ((i:Int) <(g.size:Int)))=true:=h
    rw[nn] at h'
    have:=of_decide_eq_true h'
    show(0:Int)≤(i:Int)∧(i:Int) <(g.size:Int)
    omega) (Aa (fun h _=>by
    have h':(!!decide ((i:Int) <(g.size:Int)))=true:=h
    rw[nn] at h'
    have:=of_decide_eq_true h'
    show(0:Int)≤(i:Int)∧(i:Int) <(g.size:Int)
    omega) Ab))
 refine⟨Aa h1 Ab,?_⟩
 have hr:NG (g,0)=(g,(k:Int)):=hx
 have ha:g.data.toList.all Xj=decide (¬k <g.size):=by
  have:=Bd3 g.data.toList 0 Xj k (by rw[Lf];exact hk) (fun j hj=>by simpa using hs j hj) (fun h=>by rw[Lf] at h;simpa using hst h)
  rw[Lf] at this
  exact this
 unfold Aeg
 rw[hr]
 show(bif E8 g (k:Int) then false else decide ((g.size:Int)≥1)&&decide ((g.size:Int)≤12))=_
 rw[hk0]
 unfold IQ
 rw[ha,show decide ((g.size:Int)≥1)=decide (1≤g.size) from decide_eq_decide.2 (by omega),show decide ((g.size:Int)≤12)=decide (g.size≤12) from decide_eq_decide.2 (by omega)]
 by_cases h:k <g.size
 ·rw[hst h,decide_eq_true h,decide_eq_false (not_not_intro h)]
  rfl
 ·rw[decide_eq_false h,decide_eq_true h]
  rfl
theorem Bg5 (a0:ByteArray) (hp:∀p∈Ajs a0,p):CallOk Try.prog 163 [Ak .str a0] 0 [] 1 (Arb a0) 0 (Aq9 a0):=by
 have hb:Av a0.size:=hp _ (List.mem_cons_self ..)
 have h:=Bld a0 (Aq8 a0 hb).1
 unfold Aeh at h
 rw[(Aq8 a0 hb).2] at h
 exact h
def Aei:List A→Nat→Objs→Option A9
 | [y0],nx,o=>match AQ .str y0 with
  |some (a0,p0)=>some (1,(Arb a0).pk (AC nx),nx+0,AB nx (Aq9 a0)++o,p0++(Ajs a0))
  |_=>none
 |_,_,_=>none
theorem Baz:EV Try.prog 163 Aei:=fun args nx o k x nx' o' ps h=>by
 unfold Aei at h
 split at h<;>first|(cases h;done)|skip
 split at h<;>first|(cases h;done)|skip
 rename_i a0 p0 e0
 cases h
 refine⟨fun hp=>?_,_,rfl⟩
 have q0:=fun p hm=>hp p (List.mem_append.2 (.inl hm))
 have r0:=fun p hm=>hp p (List.mem_append.2 (.inr hm))
 refine Ah (Ag (Bg5 a0 r0) (Nat.le_refl _) (Ac (Af _ _) An) nx o) fun F N R vs hl=>?_
 obtain⟨v0,w0,rfl,h0,hl⟩:=hl.inv
 exact HL.cons (Am e0 q0 h0) (hl)
noncomputable def Bjh:=A7 163 Aei Bta
theorem Av7:CU Try.prog Bjh:=Aw Baz A7x
abbrev Db:Type:=(List TGroup)×Int×Int
def MR (x:Db):St:=⟨56,0,[(0,.sl .group x.1),(3,.v (.int .i64 x.2.1)),(4,.v (.int .i64 x.2.2))],[]⟩
def Px:St→Option Db
 |⟨56,0,[(0,.sl .group z0),(3,.v (.int .i64 z1)),(4,.v (.int .i64 z2))],[]⟩=>some (z0,z1,z2)
 |_=>none
theorem Ant:∀s x,Px s=some x→s=MR x:=fun s x h=>by
 unfold Px at h
 split at h
 ·cases h;rfl
 ·cases h
def Abd:CX:=⟨0,0,[0,3,4],[],[],[],[2],[]⟩
def A4l:Dp:=⟨[],[],[0,3,4],[]⟩
def D2 (a0:List TGroup) (a1:Int) (a2:Int):Bool:=!!decide (a2 <a1)&&(a0.getD a2.toNat (Ae TC.group)).1.toList==(a0.getD a1.toNat (Ae TC.group)).1.toList
def Aui (a0:List TGroup) (a1:Int) (a2:Int):Bool:=!!decide (a2 <a1)&&!(D2 a0 a1 a2)
def E7 (x:Db):Db:=(x.1,x.2.1,IntKind.i64.wrap (x.2.2+(1:Int)))
def E6 (x:Db):Cnd:=some (Aui x.1 x.2.1 x.2.2)
def Vr (x:Db):List Prop:=[((!!decide (x.2.2 <x.2.1))=true→(0:Int)≤x.2.2∧x.2.2 <(↑x.1.length:Int)),((!!decide (x.2.2 <x.2.1))=true→(0:Int)≤x.2.1∧x.2.1 <(↑x.1.length:Int))]
def Iv (x:Db):List Prop:=[((!!decide (x.2.2 <x.2.1))=true→(0:Int)≤x.2.2∧x.2.2 <(↑x.1.length:Int)),((!!decide (x.2.2 <x.2.1))=true→(0:Int)≤x.2.1∧x.2.1 <(↑x.1.length:Int))]
def Ti (x:Db):Bo:=[(some 2,some (!decide (x.2.2 <x.2.1)),⟨56,0,[(2,.dead)],[]⟩),(none,some ((D2 x.1 x.2.1 x.2.2)),⟨56,0,[(2,.v (.int .i64 ((70:Int))))],[]⟩)]
def GV (x:Db):Nat:=(x.2.1 - x.2.2).toNat
def Gl (x:Db):Db:=Bc E7 E6 (GV x) x
set_option maxRecDepth 100000 in
theorem A0m (a0:List TGroup) (a1:Int) (a2:Int):By (AA Bjh L0) 9 (Aj Try.prog 128 2) Abd (MR (a0,a1,a2))=some (Vr (a0,a1,a2),Ti (a0,a1,a2),E6 (a0,a1,a2),MR (E7 (a0,a1,a2))):=by kernel_rfl
set_option maxRecDepth 100000 in
theorem A0n (a0:List TGroup) (a1:Int) (a2:Int) (hp:∀p∈Iv (a0,a1,a2),p):∀p∈Vr (a0,a1,a2),p:=by
 have n0:=N0 hp
 have n1:=N0 (N1 hp)
 exact(Aa n0 (Aa n1 Ab))
noncomputable def Vs:=HF (AA Bjh L0) (Aj Try.prog 128 2) Abd A4l Px GV E7 E6 Iv Ti
theorem Auj:∀s b ps outs,Vs s=some (b,ps,outs)→Wf s ⟨ps,outs,none⟩∧Br (AA C0 L0) b s ps outs:=
 Bh (T:=MR) Av7 AG (u:=9) (by kernel_rfl) (by decide) (fun⟨a0,a1,a2⟩=>A0m a0 a1 a2) (fun⟨a0,a1,a2⟩=>A0n a0 a1 a2) Ant (fun _=>AU (n:=56) rfl) fun _ _=>rfl
noncomputable def MQ:=Dz 2 Vs L0
theorem Vq:Hf MQ:=A5 Auj AG
abbrev CE:Type:=(List TGroup)×Int
def MP (x:CE):St:=⟨56,0,[(0,.sl .group x.1),(3,.v (.int .i64 x.2))],[]⟩
def Pw:St→Option CE
 |⟨56,0,[(0,.sl .group z0),(3,.v (.int .i64 z1))],[]⟩=>some (z0,z1)
 |_=>none
theorem Ans:∀s x,Pw s=some x→s=MP x:=fun s x h=>by
 unfold Pw at h
 split at h
 ·cases h;rfl
 ·cases h
def Abc:CX:=⟨0,0,[0,3],[],[],[],[2],[]⟩
def A4k:Dp:=⟨[],[],[0,3],[]⟩
def Bf (a0:List TGroup) (a1:Int):Bool:=!!decide (a1 <(↑a0.length:Int))
def D1 (a0:List TGroup) (a1:Int):Bool:=!IQ (a0.getD a1.toNat (Ae TC.group)).1||(a0.getD a1.toNat (Ae TC.group)).2 !=(1:Int)&&(a0.getD a1.toNat (Ae TC.group)).2 !=(2:Int)
def E3 (a0:List TGroup) (a1:Int):Bool:=(Bf a0 a1)&&((D1 a0 a1)||D2 (Gl (a0,a1,(0:Int))).fst (Gl (a0,a1,(0:Int))).snd.fst (Gl (a0,a1,(0:Int))).snd.snd)
def Aug (a0:List TGroup) (a1:Int):Bool:=(Bf a0 a1)&&!(E3 a0 a1)
def Ks (a0:List TGroup) (a1:Int):Int:=bif(D1 a0 a1) then(2:Int) else(70:Int)
def E5 (x:CE):CE:=(x.1,IntKind.i64.wrap (x.2+(1:Int)))
def E4 (x:CE):Cnd:=some (Aug x.1 x.2)
def Vo (x:CE):List Prop:=[((Bf x.1 x.2)=true→(0:Int)≤x.2∧x.2 <(↑x.1.length:Int)),((Bf x.1 x.2)=true→Av (x.1.getD x.2.toNat (Ae TC.group)).1.size),((Bf x.1 x.2)=true→(!IQ (x.1.getD x.2.toNat (Ae TC.group)).1)=false→(0:Int)≤x.2∧x.2 <(↑x.1.length:Int)),((Bf x.1 x.2)=true→((x.1.getD x.2.toNat (Ae TC.group)).2 !=(1:Int))=true→(!IQ (x.1.getD x.2.toNat (Ae TC.group)).1)=false→(0:Int)≤x.2∧x.2 <(↑x.1.length:Int)),((Bf x.1 x.2)=true→(!(D1 x.1 x.2))=true→Aj Try.prog (128:FuncId) (2:Nat)=Aj Try.prog (128:FuncId) (2:Nat)),((Bf x.1 x.2)=true→(!(D1 x.1 x.2))=true→AK E7 E6 Iv (GV (x.1,x.2,(0:Int))) (x.1,x.2,(0:Int)))]
def Iu (x:CE):List Prop:=[((Bf x.1 x.2)=true→(0:Int)≤x.2∧x.2 <(↑x.1.length:Int)),((Bf x.1 x.2)=true→Av (x.1.getD x.2.toNat (Ae TC.group)).1.size),((Bf x.1 x.2)=true→(!IQ (x.1.getD x.2.toNat (Ae TC.group)).1)=false→(0:Int)≤x.2∧x.2 <(↑x.1.length:Int)),((Bf x.1 x.2)=true→((x.1.getD x.2.toNat (Ae TC.group)).2 !=(1:Int))=true→(!IQ (x.1.getD x.2.toNat (Ae TC.group)).1)=false→(0:Int)≤x.2∧x.2 <(↑x.1.length:Int)),((Bf x.1 x.2)=true→(!(D1 x.1 x.2))=true→AK E7 E6 Iv (GV (x.1,x.2,(0:Int))) (x.1,x.2,(0:Int)))]
def Th (x:CE):Bo:=[(some 0,some (!decide (x.2 <(↑x.1.length:Int))),⟨56,0,[(2,.dead)],[]⟩),(none,some ((E3 x.1 x.2)),⟨56,0,[(2,.v (.int .i64 (Ks x.1 x.2)))],[]⟩)]
def GU (x:CE):Nat:=((↑x.1.length:Int) - x.2).toNat
def NF (x:CE):CE:=Bc E5 E4 (GU x) x
set_option maxRecDepth 100000 in
theorem A0k (a0:List TGroup) (a1:Int):By (AA Bjh MQ) 9 (Aj Try.prog 128 0) Abc (MP (a0,a1))=some (Vo (a0,a1),Th (a0,a1),E4 (a0,a1),MP (E5 (a0,a1))):=by kernel_rfl
set_option maxRecDepth 100000 in
theorem A0l (a0:List TGroup) (a1:Int) (hp:∀p∈Iu (a0,a1),p):∀p∈Vo (a0,a1),p:=by
 have n0:=N0 hp
 have n1:=N0 (N1 hp)
 have n2:=N0 (N1 (N1 hp))
 have n3:=N0 (N1 (N1 (N1 hp)))
 have n4:((Bf a0 a1)=true→(!(D1 a0 a1))=true→Aj Try.prog (128:FuncId) (2:Nat)=Aj Try.prog (128:FuncId) (2:Nat)):=by intros;rfl
 have n5:=N0 (N1 (N1 (N1 (N1 hp))))
 exact(Aa n0 (Aa n1 (Aa n2 (Aa n3 (Aa n4 (Aa n5 Ab))))))
noncomputable def Vp:=HF (AA Bjh MQ) (Aj Try.prog 128 0) Abc A4k Pw GU E5 E4 Iu Th
theorem Auh:∀s b ps outs,Vp s=some (b,ps,outs)→Wf s ⟨ps,outs,none⟩∧Br (AA C0 L0) b s ps outs:=
 Bh (T:=MP) Av7 Vq (u:=9) (by kernel_rfl) (by decide) (fun⟨a0,a1⟩=>A0k a0 a1) (fun⟨a0,a1⟩=>A0l a0 a1) Ans (fun _=>AU (n:=56) rfl) fun _ _=>rfl
noncomputable def Abb:=Dz 0 Vp MQ
theorem Auf:Hf Abb:=A5 Auh Vq
def X4 (a0:List TGroup):Int:=(NF (a0,(0:Int))).snd
def X3 (a0:List TGroup):List TGroup:=(NF (a0,(0:Int))).fst
def H2 (a0:List TGroup):Bool:=(↑a0.length:Int)==(0:Int)
def IR (a0:List TGroup):Bool:=decide ((↑a0.length:Int) >(4:Int))
def MC (a0:List TGroup):Int:=bif(H2 a0) then(2:Int) else bif(IR a0) then(3:Int) else bif E3 (X3 a0) (X4 a0) then Ks (X3 a0) (X4 a0) else(0:Int)
def Aee (a0:List TGroup):A:=.v (.int .i64 (MC a0))
def A0o (_a0:List TGroup):Objs:=[]
def Aq6 (a0:List TGroup):List Prop:=[((!(H2 a0))=true→(!(IR a0))=true→AK E5 E4 Iu (GU (a0,(0:Int))) (a0,(0:Int)))]
set_option maxRecDepth 100000 in
theorem Bg4 (a0:List TGroup):ER (AA Bjh Abb) 9 128 [.sl .group a0] 0 []=some (1,Aee a0,0,A0o a0,[((!(H2 a0))=true→(!(IR a0))=true→Aj Try.prog (128:FuncId) (0:Nat)=Aj Try.prog (128:FuncId) (0:Nat)),((!(H2 a0))=true→(!(IR a0))=true→AK E5 E4 Iu (GU (a0,(0:Int))) (a0,(0:Int)))]):=by kernel_rfl
set_option maxRecDepth 100000 in
theorem Blc (a0:List TGroup) (hp:∀p∈Aq6 a0,p):CallOk Try.prog 128 [.sl .group a0] 0 [] 1 (Aee a0) 0 (A0o a0):=by
 have n0:((!(H2 a0))=true→(!(IR a0))=true→Aj Try.prog (128:FuncId) (0:Nat)=Aj Try.prog (128:FuncId) (0:Nat)):=by intros;rfl
 have n1:=N0 hp
 exact AH (Ax Av7 Auf) (Bg4 a0) (Aa n0 (Aa n1 Ab))
def Aq7 (a0:List TGroup):A:=.v (.int .i64 (AX a0))
def Aq5 (_a0:List TGroup):Objs:=[]
def Ajr (a0:List TGroup):List Prop:=[∀g∈a0,Av g.name.size]
theorem tlb (a b:ByteArray):(a.toList==b.toList)=(a==b):=by
 rw[Bool.eq_iff_iff,A8y,beq_iff_eq]
theorem Bqa (l:List TGroup) (x:ByteArray) (i k:Nat) (hi:i≤l.length) (hk:k≤i) (h1:∀j,j <k→((l.getD j (Ae TC.group)).1==x)=false) (h2:k <i→((l.getD k (Ae TC.group)).1==x)=true):((l.take i).map (·.name)).any (fun s=>s==x)=decide (k <i):=by
 rw[List.any_map]
 by_cases h:k <i
 ·rw[decide_eq_true h]
  refine List.any_eq_true.2 ⟨l.getD k (Ae TC.group),?_,h2 h⟩
  rw[List.getD_eq_getElem?_getD,List.getElem?_eq_getElem (by omega),Option.getD_some]
  exact List.mem_take_iff_getElem.2 ⟨k,by omega,rfl⟩
 ·rw[decide_eq_false h]
  refine Bool.eq_false_iff.2 fun ha=>?_
  obtain⟨g,hg,hx⟩:=List.any_eq_true.1 ha
  obtain⟨j,hj,rfl⟩:=List.mem_take_iff_getElem.1 hg
  have:=h1 j (by omega)
  rw[List.getD_eq_getElem?_getD,List.getElem?_eq_getElem (by omega),Option.getD_some] at this
  have hx':(l[j].1==x)=true:=hx
  rw[this] at hx'
  cases hx'
theorem A66 (l:List TGroup) (hl:l.length≤4) (i:Nat) (hi:i <l.length):
  AK E7 E6 Iv (GV (l,(i:Int),0)) (l,(i:Int),0)∧
  D2 (Gl (l,(i:Int),0)).fst (Gl (l,(i:Int),0)).snd.fst (Gl (l,(i:Int),0)).snd.snd=((l.take i).map (·.name)).any (fun s=>s==(l.getD i (Ae TC.group)).1):=by
 have hk0:∀k:Nat,D2 l (i:Int) (k:Int)=(decide (k <i)&&((l.getD k (Ae TC.group)).1==(l.getD i (Ae TC.group)).1)):=fun k=>by
  unfold D2
  rw[nn,Me,Int.toNat_natCast,Int.toNat_natCast,tlb]
 obtain⟨h1,k,hk,hx,hs,hst⟩:=Brt (fun k=>((l,(i:Int),(k:Int)):Db)) i (fun k=>(l.getD k (Ae TC.group)).1==(l.getD i (Ae TC.group)).1) E7 E6 Iv (GV (l,(i:Int),0)) (l,(i:Int),0) rfl (by show i≤((i:Int) - 0).toNat;omega)
  (fun k _ _=>by
   show((!!decide ((k:Int) <(i:Int)))&&!D2 l i k)=_
   rw[hk0,nn,Me]
   cases decide (k <i)<;>rfl)
  (fun k hk _=>by
   show(l,(i:Int),IntKind.i64.wrap ((k:Int)+1))=(l,(i:Int),((k+1:Nat):Int))
   rw[EQ (by omega)])
  (fun k _ _=>Aa (fun h=>by
    have h':(!!decide ((k:Int) <(i:Int)))=true:=h
    rw[nn] at h'
    have:=of_decide_eq_true h'
    show(0:Int)≤(k:Int)∧(k:Int) <(l.length:Int)
    omega) (Aa (fun _=>by
    show(0:Int)≤(i:Int)∧(i:Int) <(l.length:Int)
    omega) Ab))
 refine⟨h1,?_⟩
 have hr:Gl (l,(i:Int),0)=(l,(i:Int),(k:Int)):=hx
 rw[hr]
 show D2 l (i:Int) (k:Int)=_
 rw[hk0,Bqa l _ i k (by omega) hk hs hst]
 by_cases h:k <i
 ·rw[hst h,Bool.and_true]
 ·rw[decide_eq_false h,Bool.false_and]
theorem Aq4 (l:List TGroup) (hb:∀g∈l,Av g.name.size):(∀p∈Aq6 l,p)∧MC l=AX l:=by
 have main:H2 l=false→IR l=false→AK E5 E4 Iu (GU (l,0)) (l,0)∧MC l=AX l:=fun h1 h0=>by
  have hn4:l.length≤4:=by have h:=of_decide_eq_false h0;omega
  have hf1:∀i:Nat,D1 l (i:Int)=!(IQ (l.getD i (Ae TC.group)).1&&Pm (l.getD i (Ae TC.group)).2):=fun i=>by
   unfold D1 Pm
   rw[Int.toNat_natCast,Bool.not_and]
   congr 1
   simp[bne]
  have hk0:∀i:Nat,E3 l (i:Int)=(decide (i <l.length)&&V4 l i):=fun i=>by
   unfold E3 Bf
   rw[hf1,nn,Me]
   by_cases hi:i <l.length
   ·rw[(A66 l hn4 i hi).2];rfl
   ·rw[decide_eq_false hi];rfl
  obtain⟨g1,k,hk,hx,hs,hst⟩:=Brt (fun i=>((l,(i:Int)):CE)) l.length (V4 l) E5 E4 Iu (GU (l,0)) ((l,0):CE) rfl
   (by show l.length≤((l.length:Int) - 0).toNat;omega)
   (fun i hi hs=>by
    show((!!decide ((i:Int) <(l.length:Int)))&&!E3 l (i:Int))=_
    rw[hk0 i,nn,Me]
    cases decide (i <l.length)<;>rfl)
   (fun i hi hs=>by
    show(l,IntKind.i64.wrap ((i:Int)+1))=(l,((i+1:Nat):Int))
    rw[EQ (by omega)])
   (fun i hi hs=>by
    have hlt:(!!decide ((i:Int) <(l.length:Int)))=true→i <l.length:=fun h=>by
     rw[nn] at h
     have:=of_decide_eq_true h
     omega
    have hin:(!!decide ((i:Int) <(l.length:Int)))=true→(0:Int)≤(i:Int)∧(i:Int) <(l.length:Int):=fun h=>by
     have:=hlt h
     omega
    exact Aa hin (Aa (fun h=>by
     have:=hlt h
     show Av (l.getD i (Ae TC.group)).1.size
     rw[List.getD_eq_getElem?_getD,List.getElem?_eq_getElem this,Option.getD_some]
     exact hb _ (List.getElem_mem this)) (Aa (fun h _=>hin h) (Aa (fun h _ _=>hin h) (Aa (fun h _=>(A66 l hn4 i (hlt h)).1) Ab)))))
  refine⟨g1,?_⟩
  have hr:NF (l,0)=(l,(k:Int)):=hx
  unfold MC X4 X3
  rw[hr,h1,h0,cond_false,cond_false]
  show(bif E3 l (k:Int) then Ks l (k:Int) else 0)=_
  rw[hk0 k]
  have e1:(l.length==0)=false:=by rw[←Aw2];exact h1
  have e2:decide (4 <l.length)=false:=decide_eq_false (by omega)
  unfold AX
  rw[e1,e2,cond_false,cond_false,A6n l k [] (fun j hj hl=>by
   have:=hs j hj
   unfold V4 at this
   obtain⟨q1,q2⟩:=Bool.or_eq_false_iff.1 this
   exact⟨by rw[Bool.not_eq_false'] at q1;exact q1,by simpa using q2⟩),List.nil_append]
  by_cases hkl:k <l.length
  ·have hst':=hst hkl
   rw[hst',decide_eq_true hkl,Bool.and_true,cond_true]
   have hd:l.drop k=l.getD k (Ae TC.group)::l.drop (k+1):=by
    rw[List.getD_eq_getElem?_getD,List.getElem?_eq_getElem hkl,Option.getD_some]
    exact List.drop_eq_getElem_cons hkl
   rw[hd]
   unfold Rp Ks
   rw[hf1]
   unfold V4 at hst'
   show(bif !(IQ (l.getD k (Ae TC.group)).1&&Pm (l.getD k (Ae TC.group)).2) then(2:Int) else 70)=bif !(IQ (l.getD k (Ae TC.group)).1&&Pm (l.getD k (Ae TC.group)).2) then 2 else _
   cases hq:!(IQ (l.getD k (Ae TC.group)).1&&Pm (l.getD k (Ae TC.group)).2) with
   |true=>rfl
   |false=>
    rw[hq,Bool.false_or] at hst'
    have hst2:((l.take k).map (·.name)).any (fun s=>s==(l.getD k (Ae TC.group)).name)=true:=hst'
    rw[cond_false,cond_false,hst2]
    rfl
  ·rw[decide_eq_false hkl,Bool.false_and,cond_false,List.drop_eq_nil_of_le (by omega)]
   rfl
 cases h1:H2 l with
 |true=>
  refine⟨Aa (fun h=>by rw[h1] at h;cases h) Ab,?_⟩
  unfold MC AX
  rw[h1,cond_true,←Aw2]
  unfold H2 at h1
  rw[h1]
  rfl
 | false=>
  cases h0:IR l with
  |true=>
   refine⟨Aa (fun _ h=>by rw[h0] at h;cases h) Ab,?_⟩
   unfold MC AX
   rw[h1,h0,cond_false,cond_true,←Aw2]
   unfold H2 at h1
   rw[h1,cond_false,←dgt l.length 4]
   unfold IR at h0
   rw[show(decide ((l.length:Int) >((4:Nat):Int)))=true from h0]
   rfl
  |false=>
   obtain⟨g1,g2⟩:=main h1 h0
   exact⟨Aa (fun _ _=>g1) Ab,g2⟩
theorem Bg3 (a0:List TGroup) (hp:∀p∈Ajr a0,p):CallOk Try.prog 128 [.sl .group a0] 0 [] 1 (Aq7 a0) 0 (Aq5 a0):=by
 have hb:∀g∈a0,Av g.name.size:=hp _ (List.mem_cons_self ..)
 have h:=Blc a0 (Aq4 a0 hb).1
 unfold Aee at h
 rw[(Aq4 a0 hb).2] at h
 exact h
def Aef:List A→Nat→Objs→Option A9
 | [y0],nx,o=>match Jt .group y0 with
  |some a0=>some (1,(Aq7 a0).pk (AC nx),nx+0,AB nx (Aq5 a0)++o,Ajr a0)
  |_=>none
 |_,_,_=>none
theorem Bay:EV Try.prog 128 Aef:=fun args nx o k x nx' o' ps h=>by
 unfold Aef at h
 split at h<;>first|(cases h;done)|skip
 split at h<;>first|(cases h;done)|skip
 rename_i a0 e0
 cases h
 refine⟨fun hp=>?_,_,rfl⟩
 refine Ah (Ag (Bg3 a0 hp) (Nat.le_refl _) (Ac rfl An) nx o) fun F N R vs hl=>?_
 obtain⟨v0,w0,rfl,h0,hl⟩:=hl.inv
 exact HL.cons (BL e0 h0) (hl)
noncomputable def B36:=A7 128 Aef Bjh
theorem Byd:CU Try.prog B36:=Aw Bay Av7
noncomputable def Ch:=B36
theorem B37:CU Try.prog Ch:=Byd
end Go.Proofs.Yteebobbhhgmeiaa
namespace Go.Proofs.Yteebobbhhgmeiaa
open Go.RowKit Go.Shelf
attribute [local go_sem] Oper.semAt_some
def gV (g:TGroup):Value:=.agg #[.string g.name,.int .i64 g.policy]
def cV (c:TCell):Value:=.agg #[.int .i64 c.stamp.n,.int .i64 c.stamp.site,.int .i64 c.vec.a,.int .i64 c.vec.b,.bool c.gone,.string c.value,.int .i64 c.dead.a,.int .i64 c.dead.b]
structure KB (n₀ X:Nat) (W W':World):Prop where
 os:W'.os=W.os
 tape:W'.tape=W.tape
 output:W'.output=W.output
 size:W.heap.size≤W'.heap.size
 block:∀k,k <n₀→k≠X→W'.heap[k]?=W.heap[k]?
theorem KB.refl (n₀ X:Nat) (W:World):KB n₀ X W W:=⟨rfl,rfl,rfl,Nat.le_refl _,fun _ _ _=>rfl⟩
theorem KB.trans {n₀ X:Nat} {A B C:World} (h:KB n₀ X A B) (k:KB n₀ X B C):KB n₀ X A C:=
 ⟨k.os.trans h.os,k.tape.trans h.tape,k.output.trans h.output,Nat.le_trans h.size k.size,fun i h1 h2=>(k.block i h1 h2).trans (h.block i h1 h2)⟩
theorem KB.of_below {n₀ X:Nat} {A B:World} (h:Below n₀ A B):KB n₀ X A B:=⟨h.os,h.tape,h.output,h.size,fun k hk _=>h.block k hk⟩
theorem KB.cell {n₀ X:Nat} {A B:World} {p:Addr} (h:KB n₀ X A B) (hp:p.block <n₀) (hx:p.block≠X):B.cell? p=A.cell? p:=World.cell?_of_block (h.block _ hp hx)
theorem KB.putObj {n₀ X:Nat} {w:World} (hn:n₀≤w.heap.size) (W:World) (l:Nat) (o o':Obj) (hl:w.heap.size≤l) (h:W.heap[l]?=some o) (h1:o.isCells=false) (h2:o.isWalk=false):KB n₀ X W (W.putObj l o'):=
 KB.of_below (belowK_b hn W l o o' hl h h1 h2)
def GsAt (n₀ X:Nat) (W:World) (b off:Nat) (l:List TGroup):Prop:=(b <n₀∧b≠X)∧∀j g,l[j]?=some g→W.cell? ⟨b,off+j*2,none⟩=some (.string g.name)∧W.cell? ⟨b,off+j*2+1,none⟩=some (.int .i64 g.policy)
def CsAt (n₀ X:Nat) (W:World) (b off:Nat) (l:List TCell):Prop:=(b <n₀∧b≠X)∧∀j c,l[j]?=some c→W.cell? ⟨b,off+j*8,none⟩=some (.int .i64 c.stamp.n)∧W.cell? ⟨b,off+j*8+1,none⟩=some (.int .i64 c.stamp.site)∧W.cell? ⟨b,off+j*8+2,none⟩=some (.int .i64 c.vec.a)∧W.cell? ⟨b,off+j*8+3,none⟩=some (.int .i64 c.vec.b)∧W.cell? ⟨b,off+j*8+4,none⟩=some (.bool c.gone)∧W.cell? ⟨b,off+j*8+5,none⟩=some (.string c.value)∧W.cell? ⟨b,off+j*8+6,none⟩=some (.int .i64 c.dead.a)∧W.cell? ⟨b,off+j*8+7,none⟩=some (.int .i64 c.dead.b)
theorem GsAt.kept {n₀ X:Nat} {W W':World} {b off:Nat} {l:List TGroup} (h:GsAt n₀ X W b off l) (hb:KB n₀ X W W'):GsAt n₀ X W' b off l:=
 ⟨h.1,fun j g hg=>⟨(hb.cell (p:=⟨b,_,none⟩) h.1.1 h.1.2).trans (h.2 j g hg).1,(hb.cell (p:=⟨b,_,none⟩) h.1.1 h.1.2).trans (h.2 j g hg).2⟩⟩
theorem CsAt.kept {n₀ X:Nat} {W W':World} {b off:Nat} {l:List TCell} (h:CsAt n₀ X W b off l) (hb:KB n₀ X W W'):CsAt n₀ X W' b off l:=by
 refine⟨h.1,fun j c hc=>?_⟩
 obtain⟨h0,h1,h2,h3,h4,h5,h6,h7⟩:=h.2 j c hc
 have k:∀o,W'.cell? ⟨b,o,none⟩=W.cell? ⟨b,o,none⟩:=fun o=>hb.cell (p:=⟨b,o,none⟩) h.1.1 h.1.2
 exact⟨(k _).trans h0,(k _).trans h1,(k _).trans h2,(k _).trans h3,(k _).trans h4,(k _).trans h5,(k _).trans h6,(k _).trans h7⟩
theorem Bkg {W W':World} (h:Below W.heap.size W W'):W.grownBy W' none:=⟨h.os,h.tape,h.output,h.size,fun k hk _=>h.block k hk⟩
def Bur (x:TGroup×TCell):Array Value:=#[gV x.1,cV x.2]
theorem Bx9 {α β:Type} (l:List α) (r:List β) (k:Nat) (x:α) (y:β) (hx:l[k]?=some x) (hy:r[k]?=some y):(l.zip r).take (k+1)=(l.zip r).take k++[(x,y)]:=by
 rw[List.take_add_one,(List.getElem?_zip_eq_some (z:=(x,y))).2 ⟨hx,hy⟩]
 rfl
set_option maxRecDepth 100000 in
set_option maxHeartbeats 4000000 in
theorem Bq7 (n:Nat) (hn:1≤n) (l B2 B3 n₀ b off cap b' off' cap' X:Nat) (gs:List TGroup) (cs:List TCell) (hlen:cs.length=gs.length) (hl4:gs.length≤4)
    (J Jx:List (TGroup×TCell)→World→Prop) (n1:Nat) (hn1:n₀≤n1)
    (hJa:AbidesFrom n1 J)
    (hY:∀pre x W,J pre W→pre.length <gs.length→YieldAt Fence.wide (n - 1) Try.prog l (Bur x) W fun e W'=>
      (e=.returned (.bool true)∧J (pre++[x]) W'∧KB n₀ X W W')∨(e=.returned (.bool false)∧Jx (pre++[x]) W'))
    (W:World) (hW1:n1=W.heap.size) (h2:W.cell? ⟨B2,0,none⟩=some (.slice (some ⟨b,off,none⟩) gs.length cap)) (h3:W.cell? ⟨B3,1,none⟩=some (.slice (some ⟨b',off',none⟩) cs.length cap')) (hB2:B2 <n₀∧B2≠X) (hB3:B3 <n₀∧B3≠X)
    (hg:GsAt n₀ X W b off gs) (hc:CsAt n₀ X W b' off' cs) (h0:J [] W):
    CallsIn Fence.wide n Try.prog 165 #[.func (.yield l) #[] #[],.pointer (some ⟨B2,0,none⟩),.pointer (some ⟨B3,0,none⟩)] W fun e W'=>(∃v,e=.returned v)∧
      ((∃ys,ys=gs.zip cs∧J ys W')∨(∃pre,(∃k,k≤gs.length∧pre=(gs.zip cs).take k)∧Jx pre W')):=by
  refine callsIn_of_wp Try.func165 rfl trivial ?_ rfl
  simp only[Try.ntmps165,List.size_toArray,List.length_cons,List.length_nil,Nat.reduceAdd,Nat.reduceSub,Array.replicate_succ,Array.replicate_zero,List.push_toArray,List.append_toArray,List.nil_append,List.cons_append]
  gi_wp2
  gi_loopw [8] (fun i wr=>∃k:Nat,k≤gs.length∧i=.int .i64 k∧J ((gs.zip cs).take k) wr∧KB n₀ X W wr∧W.heap.size≤wr.heap.size) (fun i _=>gs.length - (intOf i).toNat)
  case atStart=>exact⟨0,Nat.zero_le _,rfl,h0,KB.refl _ _ _,Nat.le_refl _⟩
  case round=>
    obtain⟨k,hk,rfl,hJs,hnx,hsz⟩:=hrel
    by_cases hlt:k <gs.length
    · have hlt':k <cs.length:=by omega
      obtain⟨hg1,hg2⟩:=(hg.kept hnx).2 k gs[k] (List.getElem?_eq_getElem hlt)
      have h2':=(hnx.cell (p:=⟨B2,0,none⟩) hB2.1 hB2.2).trans h2
      gi_wp2
      have hb3:Below wr.heap.size wr (wr.alloc (.cells #[.string gs[k].name,.int .i64 gs[k].policy] 79)):=(Below.refl _ wr).alloc (Nat.le_refl _) _
      have hv:wr.heap.size=wr.heap.size:=rfl
      have hn:=World.alloc_heap_new wr (.cells #[.string gs[k].name,.int .i64 gs[k].policy] 79)
      generalize wr.alloc (.cells #[.string gs[k].name,.int .i64 gs[k].policy] 79)=W3 at hb3 hn⊢
      have hb4:KB n₀ X wr W3:=KB.of_below (hb3.mono (Nat.le_trans hn1 (by rw[hW1];exact hsz)))
      have hb5:KB n₀ X W3 W3.drew:=KB.of_below ((Below.refl _ W3).drew)
      obtain⟨hc0,hc1,hc2,hc3,hc4,hc5,hc6,hc7⟩:=((hc.kept hnx).kept hb4).2 k cs[k] (List.getElem?_eq_getElem hlt')
      have h3':=((hnx.trans hb4).cell (p:=⟨B3,1,none⟩) hB3.1 hB3.2).trans h3
      have hz:((gs.zip cs).take k).length <gs.length:=by rw[List.length_take,List.length_zip];omega
      have hJ3:J ((gs.zip cs).take k) W3.drew:=hJa _ wr _ none hJs (Bkg hb3.drew) (fun r e=>by cases e)
      obtain⟨fn,tmps,assign,body,hy,hR⟩:=hY _ (gs[k],cs[k]) _ hJ3 hz
      have hR2:RoundIn Fence.wide (n - 1) Try.prog l fn tmps assign body W3.drew fun e W'=>∃q:Bool,e=.returned (.bool q)∧(q=true→J ((gs.zip cs).take (k+1)) W'∧KB n₀ X wr W')∧(q=false→Jx ((gs.zip cs).take (k+1)) W'):=by
        refine hR.mono ?_
        rw[←Bx9 gs cs k gs[k] cs[k] (List.getElem?_eq_getElem hlt) (List.getElem?_eq_getElem hlt')]
        rintro e W' (⟨rfl,h1,h2⟩|⟨rfl,h1⟩)
        ·exact⟨true,rfl,⟨fun _=>⟨h1,(hb4.trans hb5).trans h2⟩,fun h=>by cases h⟩⟩
        ·exact⟨false,rfl,⟨fun h=>(by cases h),fun _=>h1⟩⟩
      clear hR
      have hm:Try.prog.follows .mixedOrders=true:=by kernel_rfl
      dsimp only[Bur,gV,cV] at hy
      obtain⟨hn0,hn1'⟩:=cb2 hn
      gi_region_with_o (refine hR2.mono ?_;rintro e W4 ⟨q,rfl,hq1,hq2⟩)
      all_goals (cases q)
      all_goals gi_wp2
      all_goals first
        |(refine bodyPost_ret (results_none rfl _ _ _) rfl ?_;exact⟨⟨_,rfl⟩,.inr ⟨_,⟨k+1,by omega,rfl⟩,hq2 (by trivial)⟩⟩)
        | (obtain⟨q1,q2⟩:=hq1 (by trivial)
           exact⟨⟨k+1,by omega,rfl,q1,hnx.trans q2,Nat.le_trans hsz q2.size⟩,by simp[intOf];omega⟩)
    · obtain rfl:k=gs.length:=by omega
      gi_wp2
      go_end0
      exact⟨⟨_,rfl⟩,.inl ⟨_,rfl,by rw[List.take_of_length_le (by rw[List.length_zip];omega)] at hJs;exact hJs⟩⟩
set_option maxHeartbeats 1000000 in
theorem Bgr (n:Nat) (a:Option Addr) (len cap:Nat) (v1:Value) (key:ByteArray) (w:World):
  CallsIn Fence.wide n Try.prog 132 #[.slice a len cap,.agg #[.string key,v1]] w fun e w'=>e=.returned (.func (.func 165) #[] #[.pointer (some ⟨w.heap.size,0,none⟩),.pointer (some ⟨w.heap.size+1,0,none⟩)])∧w'=(w.alloc (.cells #[.slice a len cap] 66)).alloc (.cells #[.string key,v1] 71):=by
 refine callsIn_of_wp Try.func132 rfl trivial ?_ rfl
 simp only[Try.ntmps132,List.size_toArray,List.length_cons,List.length_nil,Nat.reduceAdd,Nat.reduceSub,Array.replicate_succ,Array.replicate_zero,List.push_toArray,List.append_toArray,List.nil_append,List.cons_append]
 gi_wp2
 go_ret
 exact⟨rfl,rfl⟩
theorem Aqw (n:Nat) (hn:1≤n) (B2 B3 n₀ X b off cap b' off' cap':Nat) (gs:List TGroup) (cs:List TCell) (hlen:cs.length=gs.length) (hl4:gs.length≤4) (w:World) (hn₀:n₀≤w.heap.size)
  (h2:w.cell? ⟨B2,0,none⟩=some (.slice (some ⟨b,off,none⟩) gs.length cap)) (h3:w.cell? ⟨B3,1,none⟩=some (.slice (some ⟨b',off',none⟩) cs.length cap')) (hB2:B2 <n₀∧B2≠X) (hB3:B3 <n₀∧B3≠X)
  (hg:GsAt n₀ X w b off gs) (hc:CsAt n₀ X w b' off' cs):
  SeqStopsK Fence.wide n Try.prog 165 #[.pointer (some ⟨B2,0,none⟩),.pointer (some ⟨B3,0,none⟩)] Bur (KB n₀ X) (fun ys=>ys=gs.zip cs) (fun pre=>∃k,k≤gs.length∧pre=(gs.zip cs).take k) gs.length w:=fun l J Jx W hW hJ _ hY h0=>by
 have hk:KB n₀ X w W:=KB.of_below (hW.mono hn₀)
 exact Bq7 n hn l B2 B3 n₀ b off cap b' off' cap' X gs cs hlen hl4 J Jx W.heap.size (Nat.le_trans hn₀ hW.size) hJ hY W rfl ((hk.cell (p:=⟨B2,0,none⟩) hB2.1 hB2.2).trans h2) ((hk.cell (p:=⟨B3,1,none⟩) hB3.1 hB3.2).trans h3) hB2 hB3 (hg.kept hk) (hc.kept hk) h0
def SC (p:Int) (G:Int→TCell→Bool) (gs:List TGroup) (key:ByteArray) (cs:List TCell):Int:=
 if(p !=0)=true then p else if key.toList.isEmpty=true then 2 else if 32 <(key.size:Int) then 3 else if((cs.length:Int) !=(gs.length:Int))=true then 100 else bif(gs.zip cs).all (fun x=>G x.1.policy x.2) then 0 else 80
theorem Zb {β:Type} (B:Nat) (cs:Array Value) (t:TypeId):Own (fun(_:β) W=>W.heap[B]?=some (.cells cs t (0,0))):=fun s W W' row hs hg hr=>by
 refine(hg.block B (Im hs) fun e=>?_).trans hs
 obtain⟨o,h1,h2⟩:=hr B e.symm
 rw[hs] at h1
 cases h1
 cases h2
theorem Ja (B:Nat) {W W':World} (h:Below W.heap.size W W'):KeepsFrom B W W':=⟨h.size,fun k _ _ hk _=>(h.block k (Im hk)).trans hk⟩
theorem Up {β:Type} (B n:Nat):OwnFrom B (fun(_:β) W=>n≤W.heap.size):=fun _ _ _ _ hs hg _=>Nat.le_trans hs hg.size
set_option maxRecDepth 100000 in
set_option maxHeartbeats 4000000 in
theorem Bid (w:World) (a0 a1:Option Addr) (gs:List TGroup) (cs:List TCell) (key:ByteArray) (cap0 cap1:Nat) (p:Int) (G:Int→TCell→Bool)
    (hP:∀W,Below w.heap.size w W→Calls Try.prog 131 #[.slice a0 gs.length cap0] W fun e W'=>e=.returned (.int .i64 p)∧Below W.heap.size W W')
    (hp0:p=0→1≤gs.length∧gs.length≤4)
    (hC:∀(q:Int) (c:TCell) W,Calls Try.prog 38 #[.int .i64 q,cV c] W fun e W'=>e=.returned (.bool (G q c))∧Below W.heap.size W W')
    (hG:0 <gs.length→∃b off,a0=some ⟨b,off,none⟩∧GsAt w.heap.size w.heap.size w b off gs)
    (hS:0 <cs.length→∃b off,a1=some ⟨b,off,none⟩∧CsAt w.heap.size w.heap.size w b off cs):
    Calls Try.prog 65 #[.slice a0 gs.length cap0,.agg #[.string key,.slice a1 cs.length cap1]] w fun e W'=>e=.returned (.int .i64 (SC p G gs key cs))∧Below w.heap.size w W':=by
  refine(callsIn_wide (n:=5)).1 ?_
  refine callsIn_of_wp_marks Try.func65 rfl trivial ?_ rfl
  simp only[Try.ntmps65,List.size_toArray,List.length_cons,List.length_nil,Nat.reduceAdd,Nat.reduceSub,Array.replicate_succ,Array.replicate_zero,List.push_toArray,List.append_toArray,List.nil_append,List.cons_append]
  have hw2:Below w.heap.size w ((w.alloc (.cells #[.string key,.slice a1 cs.length cap1] 71)).alloc (.cells #[.int .i64 0] 26)):=((Below.refl _ w).alloc (Nat.le_refl _) _).alloc (by simp) _
  have hr1:=Oq (.cells #[.int .i64 0] 26) (HG (w:=w) (.cells #[.string key,.slice a1 cs.length cap1] 71) rfl)
  have hr2:=HG (w:=w.alloc (.cells #[.string key,.slice a1 cs.length cap1] 71)) (.cells #[.int .i64 0] 26) (n:=w.heap.size+1) (by simp)
  gi_wp2_with (first
    |(refine⟨trivial,?_⟩;gi_at_call 131;refine(callsIn_wide.2 (hP _ hw2)).mono ?_;rintro e W1 ⟨rfl,hb1⟩;have hx1:=FE hr1 hb1;have hx2:=FE hr2 hb1;obtain⟨c0,c1⟩:=cb2 hx1;have d0:=cb1 hx2;have f0:=fb1 hx2;have hB1:Below w.heap.size w W1:=hw2.trans (hb1.mono (by simp;omega));clear hr1 hr2 hb1)
    |(refine⟨trivial,?_⟩;gi_at_call 132;refine(Bgr _ _ _ _ _ _ _).mono ?_;rintro e W2 ⟨rfl,rfl⟩))
  · have h1:(p !=0)=true:=by assumption
    have e:SC p G gs key cs=p:=by unfold SC;rw[if_pos h1]
    have hc:=cb1 (PX (i:=0) hx2 (.int .i64 p))
    exact⟨.int .i64 p,by simp[results,Try.f65,go_sem,hc],by rw[e],hB1.setCell (p:=⟨w.heap.size+1,0,none⟩) (by simp) _⟩
  · have h1:(p !=0)=false:=by assumption
    have h2:key.toList.isEmpty=true:=by assumption
    have e:SC p G gs key cs=2:=by unfold SC;rw[if_neg (by rw[h1];simp),if_pos h2]
    have hc:=cb1 (PX (i:=0) hx2 (.int .i64 2))
    exact⟨.int .i64 2,by simp[results,Try.f65,go_sem,hc],by rw[e],hB1.setCell (p:=⟨w.heap.size+1,0,none⟩) (by simp) _⟩
  · have h1:(p !=0)=false:=by assumption
    have h2:key.toList.isEmpty=false:=by assumption
    have h3:32 <(key.size:Int):=by assumption
    have e:SC p G gs key cs=3:=by unfold SC;rw[if_neg (by rw[h1];simp),if_neg (by rw[h2];simp),if_pos h3]
    have hc:=cb1 (PX (i:=0) hx2 (.int .i64 3))
    exact⟨.int .i64 3,by simp[results,Try.f65,go_sem,hc],by rw[e],hB1.setCell (p:=⟨w.heap.size+1,0,none⟩) (by simp) _⟩
  · have h1:(p !=0)=false:=by assumption
    have h2:key.toList.isEmpty=false:=by assumption
    have h3:(key.size:Int)≤32:=by assumption
    have h4:((cs.length:Int) !=(gs.length:Int))=true:=by assumption
    have e:SC p G gs key cs=100:=by unfold SC;rw[if_neg (by rw[h1];simp),if_neg (by rw[h2];simp),if_neg (by omega),if_pos h4]
    have hc:=cb1 (PX (i:=0) hx2 (.int .i64 100))
    exact⟨.int .i64 100,by simp[results,Try.f65,go_sem,hc],by rw[e],hB1.setCell (p:=⟨w.heap.size+1,0,none⟩) (by simp) _⟩
  have h1:(p !=0)=false:=by assumption
  have h2:key.toList.isEmpty=false:=by assumption
  have h3:(key.size:Int)≤32:=by assumption
  have h4:((cs.length:Int) !=(gs.length:Int))=false:=by assumption
  have e:SC p G gs key cs=bif(gs.zip cs).all (fun x=>G x.1.policy x.2) then 0 else 80:=by unfold SC;rw[if_neg (by rw[h1];simp),if_neg (by rw[h2];simp),if_neg (by omega),if_neg (by rw[h4];simp)]
  have hp:p=0:=by simpa using h1
  clear h1
  subst hp
  have hlen : cs.length = gs.length := by have:(cs.length:Int)=gs.length:=by simpa using h4
                                          omega
  obtain⟨hl1,hl4⟩:=hp0 rfl
  obtain⟨b,off,rfl,hg⟩:=hG (by omega)
  obtain⟨b',off',rfl,hc⟩:=hS (by omega)
  have hW2:Below W1.heap.size W1 ((W1.alloc (.cells #[.slice (some ⟨b,off,none⟩) gs.length cap0] 66)).alloc (.cells #[.string key,.slice (some ⟨b',off',none⟩) cs.length cap1] 71)):=((Below.refl _ W1).alloc (Nat.le_refl _) _).alloc (by simp) _
  have hy2:=Oq (.cells #[.string key,.slice (some ⟨b',off',none⟩) cs.length cap1] 71) (HG (w:=W1) (.cells #[.slice (some ⟨b,off,none⟩) gs.length cap0] 66) rfl)
  have hy3:=HG (w:=W1.alloc (.cells #[.slice (some ⟨b,off,none⟩) gs.length cap0] 66)) (.cells #[.string key,.slice (some ⟨b',off',none⟩) cs.length cap1] 71) (n:=W1.heap.size+1) (by simp)
  have hz2:=FE hx2 hW2
  have hs1:=Im hx2
  have hs2:=Im hy3
  have hB2:=hB1.trans (hW2.mono hB1.size)
  generalize (W1.alloc (.cells #[.slice (some ⟨b,off,none⟩) gs.length cap0] 66)).alloc (.cells #[.string key,.slice (some ⟨b',off',none⟩) cs.length cap1] 71)=W2 at hW2 hy2 hy3 hz2 hs2 hB2⊢
  have hg2:GsAt W2.heap.size W2.heap.size W2 b off gs:=⟨⟨by have:=hg.1.1;omega,by have:=hg.1.1;omega⟩,fun j g hj=>⟨(hB2.cell (p:=⟨b,_,none⟩) hg.1.1).trans (hg.2 j g hj).1,(hB2.cell (p:=⟨b,_,none⟩) hg.1.1).trans (hg.2 j g hj).2⟩⟩
  have hc2:CsAt W2.heap.size W2.heap.size W2 b' off' cs:=by
    refine⟨⟨by have:=hc.1.1;omega,by have:=hc.1.1;omega⟩,fun j c hj=>?_⟩
    have k:∀o,W2.cell? ⟨b',o,none⟩=w.cell? ⟨b',o,none⟩:=fun o=>hB2.cell (p:=⟨b',o,none⟩) hc.1.1
    simp only[k]
    exact hc.2 j c hj
  refine wpIn_rangeFunc_ownH (F:=Fence.wide) rfl (by omega) (gf:=165) (lb:=#[.pointer (some ⟨W1.heap.size,0,none⟩),.pointer (some ⟨W1.heap.size+1,0,none⟩)]) rfl trivial (enters_of Try.func165 (by kernel_rfl) rfl)
    (Aqw _ (by omega) W1.heap.size (W1.heap.size+1) W2.heap.size W2.heap.size b off cap0 b' off' cap1 gs cs hlen hl4 W2 (Nat.le_refl _) (cb1 hy2) (cb2 hy3).2 ⟨by omega,by omega⟩ ⟨by omega,by omega⟩ hg2 hc2)
    KB.trans (KB.putObj (Nat.le_refl _)) (Below.refl _ _) (fun _=>rfl)
    (fun pre W=>((∀x∈pre,G x.1.policy x.2=true)∧W.heap[w.heap.size+1]?=some (.cells #[.int .i64 0] 26 (0,0)))∧Below w.heap.size w W∧W2.heap.size≤W.heap.size)
    (fun c pre W=>((c=.ret∧∃x∈pre,G x.1.policy x.2=false)∧W.heap[w.heap.size+1]?=some (.cells #[.int .i64 80] 26 (0,0)))∧Below w.heap.size w W∧W2.heap.size≤W.heap.size)
    (OwnFrom.and (OwnFrom.and (ownFrom_pure _ _) (Own.from (Zb _ _ _) _)) (OwnFrom.and (ownFrom_below (Nat.le_refl _) hB2.size) (Up _ _)))
    (fun c=>OwnFrom.and (OwnFrom.and (ownFrom_pure _ _) (Own.from (Zb _ _ _) _)) (OwnFrom.and (ownFrom_below (Nat.le_refl _) hB2.size) (Up _ _)))
    ⟨⟨by simp,hz2⟩,hB2,Nat.le_refl _⟩
    (fun x a' W=>(∃B6 B7,a'={tmps:=#[Value.slice (some ⟨b,off,none⟩) gs.length cap0,Value.agg #[Value.string key,Value.slice (some ⟨b',off',none⟩) cs.length cap1],undef,
          Value.pointer (some {block:=w.heap.size,off:=0}),
          Value.pointer (some {block:=w.heap.size+1,off:=0}),Value.int IntKind.i64 0,Value.pointer (some ⟨B6,0,none⟩),Value.pointer (some ⟨B7,0,none⟩),
          Value.slice (some ⟨b,off,none⟩) gs.length cap0,Value.int IntKind.i64 0,Value.int IntKind.i64 0,Value.bool false,undef,
          Value.bool false,Value.pointer (some {block:=w.heap.size,off:=0}),Value.string key,Value.bool false,
          Value.bool (decide (32 <(key.size:Int))),Value.pointer (some {block:=w.heap.size,off:=0}),
          Value.string key,Value.int IntKind.i64 key.size,Value.bool (decide (32 <(key.size:Int))),Value.bool false,
          Value.pointer (some {block:=w.heap.size,off:=1}),Value.slice (some ⟨b',off',none⟩) cs.length cap1,
          Value.int IntKind.i64 cs.length,Value.slice (some ⟨b,off,none⟩) gs.length cap0,Value.int IntKind.i64 gs.length,
          Value.bool false,Value.slice (some ⟨b,off,none⟩) gs.length cap0,Value.agg #[Value.string key,Value.slice (some ⟨b',off',none⟩) cs.length cap1],
          Value.func (Fn.func 165) #[] #[Value.pointer (some {block:=W1.heap.size,off:=0}),Value.pointer (some {block:=W1.heap.size+1,off:=0})],
          gV x.1,cV x.2,undef,undef,undef,undef,undef],defers:=[]}∧
        (W.heap[B6]?=some (.cells #[.string x.1.name,.int .i64 x.1.policy] 79 (0,0))∧W.heap[B7]?=some (.cells #[.int .i64 x.2.stamp.n,.int .i64 x.2.stamp.site,.int .i64 x.2.vec.a,.int .i64 x.2.vec.b,.bool x.2.gone,.string x.2.value,.int .i64 x.2.dead.a,.int .i64 x.2.dead.b] 55 (0,0)))))
    (fun x a'=>Own.from (fun s X Y row hs hgr hr=>by
      obtain⟨B6,B7,e1,e2,e3⟩:=hs
      exact⟨B6,B7,e1,Zb B6 _ _ s X Y row e2 hgr hr,Zb B7 _ _ s X Y row e3 hgr hr⟩) _) ?assign ?body ?done ?stop
  case assign=>
    rintro l pre x W K ⟨⟨i1,i2⟩,i3,i4⟩ hK
    clear hlen h4
    dsimp only[Bur,gV,cV] at hK⊢
    gi_wp2
    have hb:Below W.heap.size W ((W.alloc (.cells #[.string x.1.name,.int .i64 x.1.policy] 79)).alloc (.cells #[.int .i64 x.2.stamp.n,.int .i64 x.2.stamp.site,.int .i64 x.2.vec.a,.int .i64 x.2.vec.b,.bool x.2.gone,.string x.2.value,.int .i64 x.2.dead.a,.int .i64 x.2.dead.b] 55)):=((Below.refl _ W).alloc (Nat.le_refl _) _).alloc (by simp) _
    exact hK _ _ (Ja _ hb) (KB.of_below (hb.mono i4)) ⟨⟨i1,FE i2 hb⟩,i3.trans (hb.mono i3.size),Nat.le_trans i4 hb.size⟩ ⟨W.heap.size,W.heap.size+1,rfl,Oq _ (HG _ rfl),HG _ (by simp)⟩
  case body=>
    rintro l pre x a' W hl hr ⟨⟨i1,i2⟩,i3,i5⟩ ⟨B6,B7,rfl,e6,e7⟩ hlt
    obtain⟨k0,k1⟩:=cb2 e6
    obtain⟨m0,m1,m2,m3,m4,m5,m6,m7⟩:=cb8 e7
    have d0:=cb1 i2
    have f0:=fb1 i2
    cases hGx:G x.1.policy x.2 with
    | true=>
      gi_wp2_with (refine⟨trivial,?_⟩;gi_at_call 38;refine(CallsIn.inRound l (callsIn_wide.2 (hC x.1.policy x.2 _))).mono ?_;rw[hGx];rintro e W' ⟨rfl,hb⟩)
      exact⟨Ja _ hb,KB.of_below (hb.mono i5),⟨fun y hy=>(List.mem_append.1 hy).elim (i1 y) (fun e=>by simp at e;subst e;exact hGx),FE i2 hb⟩,i3.trans (hb.mono i3.size),Nat.le_trans i5 hb.size⟩
    | false=>
      gi_wp2_with (refine⟨trivial,?_⟩;gi_at_call 38;refine(CallsIn.inRound l (callsIn_wide.2 (hC x.1.policy x.2 _))).mono ?_;rw[hGx];rintro e W' ⟨rfl,hb⟩;have i4:=FE i2 hb;have d4:=cb1 i4;have f4:=fb1 i4)
      exact⟨(Ja _ hb).trans ((KeepsOthers.setCell _ _ _).from _),⟨⟨rfl,x,by simp,hGx⟩,PX (i:=0) i4 (.int .i64 80)⟩,(i3.trans (hb.mono i3.size)).setCell (p:=⟨w.heap.size+1,0,none⟩) (by simp) _,Nat.le_trans i5 (by rw[Ak5];exact hb.size)⟩
  case done=>
    rintro D ys W hD rfl ⟨⟨i1,i2⟩,i3,i5⟩ hK
    have d0:=cb1 i2
    have f0:=fb1 i2
    gi_wp2
    have hK':=(KeepsOthers.setCell W ⟨w.heap.size+1,0,none⟩ (.int .i64 0)).same D _ hK rfl
    refine⟨by simp,.inl ⟨_,_,rfl,run_takeDeferred hK',?_⟩⟩
    have hc5:=cell_kept (World.cell?_setCell_same' W ⟨w.heap.size+1,0,none⟩ (.int .i64 0) (by rw[d0];rfl)) (grownBy_putObj' _ D (.deferred none)) (fun r e=>by cases e;exact⟨_,hK',rfl⟩)
    refine⟨.int .i64 0,?_,?_,(i3.setCell (p:=⟨w.heap.size+1,0,none⟩) (by simp) _).trans (belowK_b (w:=w) (Nat.le_refl _) _ D _ _ (by have:=hB2.size;omega) hK' rfl rfl)⟩
    ·simp[results,Try.f65,go_sem,hc5]
    ·rw[List.all_eq_true.2 (fun x hx=>i1 x hx)];rfl
  case stop=>
    rintro D c pre W hD ⟨k,hk,rfl⟩ ⟨⟨⟨rfl,x,hx,hGx⟩,i2⟩,i3,i5⟩ hK
    gi_wp2
    refine⟨by simp,.inl ⟨_,_,rfl,run_takeDeferred hK,?_⟩⟩
    have hc5:=cell_kept (cb1 i2) (grownBy_putObj' _ D (.deferred none)) (fun r e=>by cases e;exact⟨_,hK,rfl⟩)
    refine⟨.int .i64 80,?_,?_,i3.trans (belowK_b (w:=w) (Nat.le_refl _) W D _ _ (by have:=hB2.size;omega) hK rfl rfl)⟩
    ·simp[results,Try.f65,go_sem,hc5]
    · have:(gs.zip cs).all (fun x=>G x.1.policy x.2)=false:=by
        cases ha:(gs.zip cs).all (fun x=>G x.1.policy x.2) with
        |false=>rfl
        |true=>have:=(List.all_eq_true.1 ha) x (List.mem_of_mem_take hx);rw[hGx] at this;cases this
      rw[this];rfl
end Go.Proofs.Yteebobbhhgmeiaa
namespace Go.Proofs.Yteebobbhhgmeiaa
open Go.RowKit
def Ap (l:List TGroup) (r:TRow):Int:=bif AX l !=0 then AX l else bif r.key.size==0 then 2 else bif decide (32 <r.key.size) then 3 else bif r.cells.length !=l.length then 100 else bif(l.zip r.cells).all (fun x=>BC x.1.policy x.2) then 0 else 80
def Asr (a0:List TGroup) (a1:TRow):A:=.v (.int .i64 (Ap a0 a1))
def Asq (_a0:List TGroup) (_a1:TRow):Objs:=[]
def Akt (_a0:List TGroup) (_a1:TRow):List Prop:=[]
theorem A84 (k:ByteArray):k.toList.isEmpty=(k.size==0):=by
 rw[ByteArray.toList_eq,Bool.eq_iff_iff,List.isEmpty_iff,beq_iff_eq,←Lf]
 exact⟨fun h=>by rw[h];rfl,fun h=>List.eq_nil_of_length_eq_zero h⟩
theorem Bu7 (l:List TGroup) (key:ByteArray) (cs:List TCell):SC (AX l) BC l key cs=Ap l ⟨key,cs⟩:=by
 unfold SC Ap
 rw[A84]
 have e3:decide (32 <((key.size:Nat):Int))=decide (32 <key.size):=decide_eq_decide.2 (by omega)
 have e4:(((cs.length:Nat):Int) !=(l.length:Int))=(cs.length !=l.length):=by
  rw[Bool.eq_iff_iff,bne_iff_ne,bne_iff_ne];omega
 simp only[Bool.cond_eq_ite,e4,decide_eq_true_eq,show(32 <((key.size:Nat):Int))=(32 <key.size) from propext (by omega)]
theorem A7j {R:World} {ad:Addr} {v:Value} (h:R.cell? ad=some v):ad=⟨ad.block,ad.off,none⟩:=by
 cases ad with|mk b o s=>
 cases s with
 |none=>rfl
 |some q=>
  exfalso
  unfold World.cell? at h
  cases hb:R.heap[b]? with
  |none=>simp only[hb] at h;cases h
  |some ob=>cases ob<;>simp[hb] at h
theorem Byr (b o k j:Nat):((⟨b,o,none⟩:Addr).add k).add j=⟨b,o+k+j,none⟩:=by
 rw[FD,FD]
section
variable {F:Nat→Prop} {N:Nm} {nx:Nat} {R:World}
theorem HC.at0 {l:List A} {b o k j:Nat} {x:Value} (h:HC F N nx R l ((⟨b,o,none⟩:Addr).add k)) (hx:l[j]?=some (.v x)):R.cell? ⟨b,o+k+j,none⟩=some x:=by
 obtain⟨y,h1,h2⟩:=h j _ hx
 rw[Byr] at h1
 rw[h1,h2.v_inv]
theorem B1s {gs:List TGroup} {v:Value} (hF:∀g,F g→g <R.heap.size) (h:Hv F N nx R (.sl .group gs) v):
  ∃a cap,v=.slice a gs.length cap∧(0 <gs.length→∃b off,a=some ⟨b,off,none⟩∧GsAt R.heap.size R.heap.size R b off gs):=by
 obtain⟨a,cap,e,_,h2⟩:=h.sl_inv
 refine⟨a,cap,e,fun hn=>?_⟩
 obtain⟨ad,rfl,hb,h3⟩:=h2 hn
 have hlt:=hF _ hb
 obtain⟨y,hy,_⟩:=h3 0 gs[0] (List.getElem?_eq_getElem hn) 0 (.v (.string gs[0].name)) rfl
 rw[Nat.zero_mul,add_zero,add_zero] at hy
 have hs:=A7j hy
 rw[hs] at h3⊢
 refine⟨ad.block,ad.off,rfl,⟨hlt,Nat.ne_of_lt hlt⟩,fun j g hj=>?_⟩
 have h4:=h3 j g hj
 exact⟨h4.at0 (j:=0) (x:=.string g.name) rfl,h4.at0 (j:=1) (x:=.int .i64 g.policy) rfl⟩
theorem B1q {cs:List TCell} {v:Value} (hF:∀g,F g→g <R.heap.size) (h:Hv F N nx R (.sl .cell cs) v):
  ∃a cap,v=.slice a cs.length cap∧(0 <cs.length→∃b off,a=some ⟨b,off,none⟩∧CsAt R.heap.size R.heap.size R b off cs):=by
 obtain⟨a,cap,e,_,h2⟩:=h.sl_inv
 refine⟨a,cap,e,fun hn=>?_⟩
 obtain⟨ad,rfl,hb,h3⟩:=h2 hn
 have hlt:=hF _ hb
 obtain⟨y,hy,_⟩:=h3 0 cs[0] (List.getElem?_eq_getElem hn) 0 (.v (.int .i64 cs[0].stamp.n)) rfl
 rw[Nat.zero_mul,add_zero,add_zero] at hy
 have hs:=A7j hy
 rw[hs] at h3⊢
 refine⟨ad.block,ad.off,rfl,⟨hlt,Nat.ne_of_lt hlt⟩,fun j c hj=>?_⟩
 have h4:=h3 j c hj
 exact⟨h4.at0 (j:=0) (x:=.int .i64 c.stamp.n) rfl,h4.at0 (j:=1) (x:=.int .i64 c.stamp.site) rfl,h4.at0 (j:=2) (x:=.int .i64 c.vec.a) rfl,h4.at0 (j:=3) (x:=.int .i64 c.vec.b) rfl,h4.at0 (j:=4) (x:=.bool c.gone) rfl,h4.at0 (j:=5) (x:=.string c.value) rfl,h4.at0 (j:=6) (x:=.int .i64 c.dead.a) rfl,h4.at0 (j:=7) (x:=.int .i64 c.dead.b) rfl⟩
theorem HRel.bare (hF:∀g,F g→g <R.heap.size):HRel F N 0 [] R:=⟨hF,fun _ _ h=>(by cases h),fun _ _ _ h=>(by cases h),fun _ _ _ _ _ h=>(by cases h)⟩
end
theorem CallOk.plain {P:Program} {f:FuncId} {args:List A} {x:Value} (h:CallOk P f args 0 [] 1 (.v x) 0 []) {F:Nat→Prop} {N:Nm} {R:World} {vs:List Value} (hF:∀g,F g→g <R.heap.size) (hv:HL F N 0 R args vs):
  Calls P f vs.toArray R fun e R'=>e=.returned x∧Below R.heap.size R R':=
 (h F N R vs (HRel.bare hF) hv).mono fun e R' ⟨y,F',N',e1,_,_,h4,h5⟩=>⟨by rw[e1,h4.v_inv],h5 (Nat.le_refl _)⟩
theorem Asp (a0:List TGroup) (a1:TRow) (_hp:∀p∈Akt a0 a1,p):CallOk Try.prog 65 [.sl .group a0,Ak .row a1] 0 [] 1 (Asr a0 a1) 0 (Asq a0 a1):=by
 intro F N R vs hR hv
 obtain⟨v0,vs,rfl,h0,hv⟩:=hv.inv
 obtain⟨v1,vs,rfl,h1,hv⟩:=hv.inv
 rw[hv.inv0]
 obtain⟨us,rfl,h2⟩:=Hv.agg_inv (xs:=[.v (.string a1.key),.sl .cell a1.cells]) h1
 clear h1
 have h1:=h2
 obtain⟨u0,us,rfl,k0,h1⟩:=h1.inv
 obtain⟨u1,us,rfl,k1,h1⟩:=h1.inv
 rw[h1.inv0]
 rw[k0.v_inv]
 obtain⟨aa,cap0,rfl,g0⟩:=B1s hR.flt h0
 obtain⟨ab,cap1,rfl,g1⟩:=B1q hR.flt k1
 refine(Bid R aa ab a0 a1.cells a1.key cap0 cap1 (AX a0) BC ?_ FP ?_ g0 g1).mono ?_
 ·intro W hW
  exact(XP a0 (fun _ h=>by cases h)).plain (F:=F) (N:=N) (vs:=[_]) (fun g hg=>Nat.lt_of_lt_of_le (hR.flt g hg) hW.size) (HL.cons (h0.step (hR.grow hW).2) HL.nil)
 ·intro q c W
  have h:=(Apy q c (fun _ h=>by cases h)).plain (F:=fun _=>False) (N:=N) (R:=W) (vs:=[.int .i64 q,cV c]) (fun g hg=>hg.elim) (HL.cons (.v _) (HL.cons (.v _) HL.nil))
  rw[IZ] at h
  exact h
 ·rintro e W ⟨rfl,hb⟩
  rw[Bu7]
  exact⟨_,F,N,rfl,(hR.grow hb).1,Step.of_below hb,.v _,fun _=>hb⟩
def Af5:List A→Nat→Objs→Option A9
 | [y0,y1],nx,o=>match Jt .group y0,AQ .row y1 with
  |some a0,some (a1,p1)=>some (1,(Asr a0 a1).pk (AC nx),nx+0,AB nx (Asq a0 a1)++o,p1++(Akt a0 a1))
  |_,_=>none
 |_,_,_=>none
theorem Bby:EV Try.prog 65 Af5:=fun args nx o k x nx' o' ps h=>by
 unfold Af5 at h
 split at h<;>first|(cases h;done)|skip
 split at h<;>first|(cases h;done)|skip
 rename_i a0 a1 p1 e0 e1
 cases h
 refine⟨fun hp=>?_,_,rfl⟩
 have q1:=fun p hm=>hp p (List.mem_append.2 (.inl hm))
 have r1:=fun p hm=>hp p (List.mem_append.2 (.inr hm))
 refine Ah (Ag (Asp a0 a1 r1) (Nat.le_refl _) (Ac rfl (Ac (Af _ _) An)) nx o) fun F N R vs hl=>?_
 obtain⟨v0,w0,rfl,h0,hl⟩:=hl.inv
 obtain⟨v1,w1,rfl,h1,hl⟩:=hl.inv
 exact HL.cons (BL e0 h0) (HL.cons (Am e1 q1 h1) (hl))
noncomputable def B38:=A7 65 Af5 Ch
theorem Bye:CU Try.prog B38:=Aw Bby B37
noncomputable def Ci:=B38
theorem B1a:CU Try.prog Ci:=Bye
end Go.Proofs.Yteebobbhhgmeiaa
namespace Go.Proofs.Yteebobbhhgmeiaa
open Go.RowKit
def SE (k:ByteArray):Int:=bif k.size==0 then 2 else bif decide (32 <k.size) then 3 else 0
def eqC (a b:TCell):Bool:=a.stamp.n==b.stamp.n&&a.stamp.site==b.stamp.site&&(a.vec.a==b.vec.a&&a.vec.b==b.vec.b)&&a.gone==b.gone&&a.value==b.value&&(a.dead.a==b.dead.a&&a.dead.b==b.dead.b)
def Ahj:List TCell→List TCell→Bool
 | [],[]=>true
 |x::xs,y::ys=>eqC x y&&Ahj xs ys
 |_,_=>false
def Alw (a b:TRow):Bool:=a.key==b.key&&Ahj a.cells b.cells
def Bu (r:TRow):Bool:=r.cells.all fun c=>eqC c zeroC
def An5 (a0:ByteArray):Int:=bif a0.toList==(ByteArray.mk #[]).toList then(2:Int) else bif decide ((↑a0.size:Int) >(32:Int)) then(3:Int) else(0:Int)
def An6 (a0:ByteArray):A:=.v (.int .i64 (An5 a0))
def A7a (_a0:ByteArray):Objs:=[]
def Blx (_a0:ByteArray):List Prop:=[]
set_option maxRecDepth 100000 in
theorem Blw (a0:ByteArray):ER (AA Ci L0) 9 129 [Ak .str a0] 0 []=some (1,An6 a0,0,A7a a0,[]):=by kernel_rfl
set_option maxRecDepth 100000 in
theorem Brj (a0:ByteArray) (_hp:∀p∈Blx a0,p):CallOk Try.prog 129 [Ak .str a0] 0 [] 1 (An6 a0) 0 (A7a a0):=by
 exact AH (Ax B1a AG) (Blw a0) Ab
def A1g (a0:ByteArray):A:=.v (.int .i64 (SE a0))
def A1f (_a0:ByteArray):Objs:=[]
def Arz (_a0:ByteArray):List Prop:=[]
theorem Ahi {a b:TCell}:eqC a b=true↔a=b:=by
 unfold eqC
 simp only[Bool.and_eq_true,beq_iff_eq]
 constructor
 ·rintro⟨⟨⟨⟨⟨h1,h2⟩,h3,h4⟩,h5⟩,h6⟩,h7,h8⟩
  cases a with|mk s v g t d=>cases b with|mk s' v' g' t' d'=>
  cases s;cases s';cases v;cases v';cases d;cases d'
  cases h1;cases h2;cases h3;cases h4;cases h5;cases h6;cases h7;cases h8
  rfl
 ·rintro rfl
  exact⟨⟨⟨⟨⟨rfl,rfl⟩,rfl,rfl⟩,rfl⟩,rfl⟩,rfl,rfl⟩
theorem WB:∀{a b:List TCell},Ahj a b=true↔a=b
 | [],[]=>by simp[Ahj]
 | [],_::_=>by simp[Ahj]
 |_::_,[]=>by simp[Ahj]
 |x::xs,y::ys=>by
  unfold Ahj
  rw[Bool.and_eq_true,Ahi,WB]
  simp
theorem Buu {a b:TRow}:Alw a b=true↔a=b:=by
 unfold Alw
 rw[Bool.and_eq_true,beq_iff_eq,WB]
 cases a;cases b
 simp
theorem Bus:∀(a b:List TCell),a.length=b.length→Ahj a b=JH a.length (fun i=>eqC (a.getD i (Ae TC.cell)) (b.getD i (Ae TC.cell))):=fun a b h=>by
 rw[Bool.eq_iff_iff,WB,Il]
 constructor
 ·rintro rfl i _
  exact Ahi.2 rfl
 ·intro g
  refine List.ext_getElem h fun i h1 h2=>?_
  have:=Ahi.1 (g i h1)
  rw[List.getD_eq_getElem?_getD,List.getD_eq_getElem?_getD,List.getElem?_eq_getElem h1,List.getElem?_eq_getElem h2] at this
  exact this
theorem Blv (k:ByteArray):An5 k=SE k:=by
 unfold An5 SE
 rw[RJ]
 congr 2
 exact dgt k.size 32
theorem Blu (a0:ByteArray) (_hp:∀p∈Arz a0,p):CallOk Try.prog 129 [Ak .str a0] 0 [] 1 (A1g a0) 0 (A1f a0):=by
 have h:=Brj a0 (fun _ h=>by cases h)
 unfold An6 at h
 rw[Blv] at h
 exact h
def An7:List A→Nat→Objs→Option A9
 | [y0],nx,o=>match AQ .str y0 with
  |some (a0,p0)=>some (1,(A1g a0).pk (AC nx),nx+0,AB nx (A1f a0)++o,p0++(Arz a0))
  |_=>none
 |_,_,_=>none
theorem Bhr:EV Try.prog 129 An7:=fun args nx o k x nx' o' ps h=>by
 unfold An7 at h
 split at h<;>first|(cases h;done)|skip
 split at h<;>first|(cases h;done)|skip
 rename_i a0 p0 e0
 cases h
 refine⟨fun hp=>?_,_,rfl⟩
 have q0:=fun p hm=>hp p (List.mem_append.2 (.inl hm))
 have r0:=fun p hm=>hp p (List.mem_append.2 (.inr hm))
 refine Ah (Ag (Blu a0 r0) (Nat.le_refl _) (Ac (Af _ _) An) nx o) fun F N R vs hl=>?_
 obtain⟨v0,w0,rfl,h0,hl⟩:=hl.inv
 exact HL.cons (Am e0 q0 h0) (hl)
noncomputable def Btb:=A7 129 An7 Ci
theorem A7y:CU Try.prog Btb:=Aw Bhr B1a
abbrev CF:Type:=(List TGroup)×Int×TRow
def MU (x:CF):St:=⟨42,1,[(0,.sl .group x.1),(3,.own 0 0),(6,.v (.int .i64 x.2.1))],[(0,some (.box 71 [.v (.string x.2.2.key),.sl .cell x.2.2.cells]))]⟩
def PC:St→Option CF
 |⟨42,1,[(0,.sl .group z0),(3,.own 0 0),(6,.v (.int .i64 z1))],[(0,some (.box 71 [.v (.string z2),.sl .cell z3]))]⟩=>some (z0,z1,⟨z2,z3⟩)
 |_=>none
theorem An3:∀s x,PC s=some x→s=MU x:=fun s x h=>by
 unfold PC at h
 split at h
 ·cases h;rfl
 ·cases h
def Abk:CX:=⟨1,1,[0,3,6],[],[(0,0)],[0],[4],[0]⟩
def A4t:Dp:=⟨[],[(0,0)],[0,3,6],[0]⟩
def Fb (a0:List TGroup) (a1:Int) (_a2:TRow):Bool:=!!decide (a1 <(↑a0.length:Int))
def D3 (a0:List TGroup) (a1:Int) (a2:TRow):Bool:=(Fb a0 a1 a2)&&!Pz (a0.getD a1.toNat (Ae TC.group)).2 (a2.2.getD a1.toNat (Ae TC.cell))
def Auv (a0:List TGroup) (a1:Int) (a2:TRow):Bool:=(Fb a0 a1 a2)&&!(D3 a0 a1 a2)
def Fd (x:CF):CF:=(x.1,IntKind.i64.wrap (x.2.1+(1:Int)),x.2.2)
def Fc (x:CF):Cnd:=some (Auv x.1 x.2.1 x.2.2)
def Vy (x:CF):List Prop:=[((Fb x.1 x.2.1 x.2.2)=true→(0:Int)≤x.2.1∧x.2.1 <(↑x.1.length:Int)),((Fb x.1 x.2.1 x.2.2)=true→(0:Int)≤x.2.1∧x.2.1 <(↑x.2.2.2.length:Int))]
def IB (x:CF):List Prop:=[((Fb x.1 x.2.1 x.2.2)=true→(0:Int)≤x.2.1∧x.2.1 <(↑x.1.length:Int)),((Fb x.1 x.2.1 x.2.2)=true→(0:Int)≤x.2.1∧x.2.1 <(↑x.2.2.2.length:Int))]
def Tn (x:CF):Bo:=[(some 0,some (!decide (x.2.1 <(↑x.1.length:Int))),⟨42,1,[(4,.dead)],[(0,some (.box 71 [.v (.string x.2.2.1),.sl .cell x.2.2.2]))]⟩),(none,some ((D3 x.1 x.2.1 x.2.2)),⟨42,1,[(4,.v (.int .i64 ((80:Int))))],[(0,some (.box 71 [.v (.string x.2.2.1),.sl .cell x.2.2.2]))]⟩)]
def G0 (x:CF):Nat:=((↑x.1.length:Int) - x.2.1).toNat
def Aux (x:CF):CF:=Bc Fd Fc (G0 x) x
set_option maxRecDepth 100000 in
theorem A1a (a0:List TGroup) (a1:Int) (a2:TRow):By (AA Btb L0) 9 (Aj Try.prog 66 0) Abk (MU (a0,a1,a2))=some (Vy (a0,a1,a2),Tn (a0,a1,a2),Fc (a0,a1,a2),MU (Fd (a0,a1,a2))):=by kernel_rfl
set_option maxRecDepth 100000 in
theorem A1b (a0:List TGroup) (a1:Int) (a2:TRow) (hp:∀p∈IB (a0,a1,a2),p):∀p∈Vy (a0,a1,a2),p:=by
 have n0:=N0 hp
 have n1:=N0 (N1 hp)
 exact(Aa n0 (Aa n1 Ab))
noncomputable def Vz:=HF (AA Btb L0) (Aj Try.prog 66 0) Abk A4t PC G0 Fd Fc IB Tn
theorem Auw:∀s b ps outs,Vz s=some (b,ps,outs)→Wf s ⟨ps,outs,none⟩∧Br (AA C0 L0) b s ps outs:=
 Bh (T:=MU) A7y AG (u:=9) (by kernel_rfl) (by decide) (fun⟨a0,a1,a2⟩=>A1a a0 a1 a2) (fun⟨a0,a1,a2⟩=>A1b a0 a1 a2) An3 (fun _=>AU (n:=42) rfl) fun _ _=>rfl
noncomputable def Abj:=Dz 0 Vz L0
theorem Auu:Hf Abj:=A5 Auw AG
def J1 (_a0:List TGroup) (a1:TRow):Bool:=SE a1.1 !=(0:Int)
def IT (a0:List TGroup) (_a1:TRow):Bool:=AX a0 !=(0:Int)
def J0 (a0:List TGroup) (a1:TRow):CF:=Aux (a0,(0:Int),a1)
def IS (a0:List TGroup) (a1:TRow):Bool:=(↑a1.2.length:Int) !=(↑a0.length:Int)
def Ae5 (a0:List TGroup) (a1:TRow):Int:=bif(IT a0 a1) then AX a0 else bif(J1 a0 a1) then SE a1.1 else bif(IS a0 a1) then(100:Int) else bif D3 (J0 a0 a1).fst (J0 a0 a1).snd.fst (J0 a0 a1).snd.snd then(80:Int) else(0:Int)
def Ae6 (a0:List TGroup) (a1:TRow):A:=.v (.int .i64 (Ae5 a0 a1))
def A1c (_a0:List TGroup) (_a1:TRow):Objs:=[]
def Arv (a0:List TGroup) (a1:TRow):List Prop:=[(∀(g:TGroup),g∈a0→Av g.1.size),((!(IT a0 a1))=true→(!(J1 a0 a1))=true→(!(IS a0 a1))=true→AK Fd Fc IB (G0 (a0,(0:Int),a1)) (a0,(0:Int),a1))]
set_option maxRecDepth 100000 in
theorem Bhn (a0:List TGroup) (a1:TRow):ER (AA Btb Abj) 9 66 [.sl .group a0,Ak .row a1] 0 []=some (1,Ae6 a0 a1,0,A1c a0 a1,[(∀(g:TGroup),g∈a0→Av g.1.size),((!(IT a0 a1))=true→(!(J1 a0 a1))=true→(!(IS a0 a1))=true→Aj Try.prog (66:FuncId) (0:Nat)=Aj Try.prog (66:FuncId) (0:Nat)),((!(IT a0 a1))=true→(!(J1 a0 a1))=true→(!(IS a0 a1))=true→AK Fd Fc IB (G0 (a0,(0:Int),a1)) (a0,(0:Int),a1))]):=by kernel_rfl
set_option maxRecDepth 100000 in
theorem Bls (a0:List TGroup) (a1:TRow) (hp:∀p∈Arv a0 a1,p):CallOk Try.prog 66 [.sl .group a0,Ak .row a1] 0 [] 1 (Ae6 a0 a1) 0 (A1c a0 a1):=by
 have n0:=N0 hp
 have n1:((!(IT a0 a1))=true→(!(J1 a0 a1))=true→(!(IS a0 a1))=true→Aj Try.prog (66:FuncId) (0:Nat)=Aj Try.prog (66:FuncId) (0:Nat)):=by intros;rfl
 have n2:=N0 (N1 hp)
 exact AH (Ax A7y Auu) (Bhn a0 a1) (Aa n0 (Aa n1 (Aa n2 Ab)))
def Arw (a0:List TGroup) (a1:TRow):A:=.v (.int .i64 (Ap a0 a1))
def Aru (_a0:List TGroup) (_a1:TRow):Objs:=[]
def Aj2 (a0:List TGroup) (_a1:TRow):List Prop:=[∀g∈a0,Av g.name.size]
theorem Art (l:List TGroup) (r:TRow) (hb:∀g∈l,Av g.name.size):(∀p∈Arv l r,p)∧Ae5 l r=Ap l r:=by
 have hk2:IT l r=(AX l !=0):=rfl
 have hk3:J1 l r=(SE r.key !=0):=rfl
 have hk0:IS l r=(r.cells.length !=l.length):=by
  show((r.cells.length:Int) !=(l.length:Int))=_
  rw[Bool.eq_iff_iff,bne_iff_ne,bne_iff_ne];omega
 have main:IT l r=false→IS l r=false→AK Fd Fc IB (G0 (l,0,r)) (l,0,r)∧D3 (J0 l r).fst (J0 l r).snd.fst (J0 l r).snd.snd=!(l.zip r.cells).all (fun x=>BC x.1.policy x.2):=fun h2 h0=>by
  rw[hk0] at h0
  have hlen:r.cells.length=l.length:=by simpa using h0
  have hl4:l.length≤4:=(FP (by rw[hk2] at h2;simpa using h2)).2
  have hf:∀i:Nat,D3 l (i:Int) r=(decide (i <l.length)&&!BC (l.getD i (Ae TC.group)).2 (r.2.getD i (Ae TC.cell))):=fun i=>by
   unfold D3 Fb
   rw[nn,Me,Int.toNat_natCast,Arc]
  obtain⟨h1,k,hk,hx,_,_,hb'⟩:=IN (fun i=>((l,(i:Int),r):CF)) l.length (fun i=>!BC (l.getD i (Ae TC.group)).2 (r.2.getD i (Ae TC.cell))) Fd Fc IB (G0 (l,0,r)) (l,0,r) rfl (by show l.length≤((l.length:Int) - 0).toNat;omega)
   (fun i _ _=>by
    show((!!decide ((i:Int) <(l.length:Int)))&&!D3 l i r)=_
    rw[hf,nn,Me]
    cases decide (i <l.length)<;>rfl)
   (fun i hi _=>by
    show(l,IntKind.i64.wrap ((i:Int)+1),r)=(l,((i+1:Nat):Int),r)
    rw[EQ (by omega)])
   (fun i _ _=>by
    have hin:(!!decide ((i:Int) <(l.length:Int)))=true→(i:Int) <(l.length:Int):=fun h=>by rw[nn] at h;exact of_decide_eq_true h
    exact Aa (fun h=>⟨by show(0:Int)≤(i:Int);omega,hin h⟩) (Aa (fun h=>⟨by show(0:Int)≤(i:Int);omega,by have:=hin h;show(i:Int) <(r.cells.length:Int);omega⟩) Ab))
  refine⟨h1,?_⟩
  have hr:J0 l r=(l,(k:Int),r):=hx
  rw[hr]
  show D3 l (k:Int) r=_
  rw[hf,hb',B1z l r.cells (Ae TC.group) (Ae TC.cell) (fun g c=>BC g.policy c) hlen]
  congr 1
  exact H6 fun i _=>Bool.not_not _
 refine⟨Aa hb (Aa (fun h1 _ h3=>(main (by simpa using h1) (by simpa using h3)).1) Ab),?_⟩
 unfold Ae5 Ap
 have ek:SE r.key=bif r.key.size==0 then 2 else bif decide (32 <r.key.size) then 3 else 0:=rfl
 cases h2:IT l r with
 |true=>rw[hk2] at h2;rw[h2];rfl
 | false=>
  rw[hk2] at h2
  rw[h2,cond_false,cond_false]
  cases h3:J1 l r with
  | true=>
   rw[cond_true]
   rw[hk3,ek] at h3
   rw[ek]
   cases h5:r.key.size==0 with
   |true=>rfl
   |false=>
    rw[h5] at h3
    cases h6:decide (32 <r.key.size) with
    |true=>rfl
    |false=>rw[h6] at h3;cases h3
  | false=>
   rw[hk3,ek] at h3
   have h5:(r.key.size==0)=false:=by
    cases h5:r.key.size==0 with
    |false=>rfl
    |true=>rw[h5] at h3;cases h3
   rw[h5] at h3
   have h6:decide (32 <r.key.size)=false:=by
    cases h6:decide (32 <r.key.size) with
    |false=>rfl
    |true=>rw[h6] at h3;cases h3
   rw[h5,h6,cond_false,cond_false,cond_false]
   cases h0:IS l r with
   |true=>rw[hk0] at h0;rw[h0];rfl
   |false=>
    rw[cond_false,(main (by rw[hk2];exact h2) h0).2]
    rw[hk0] at h0
    rw[h0,cond_false]
    cases(l.zip r.cells).all (fun x=>BC x.1.policy x.2)<;>rfl
theorem Bhm (a0:List TGroup) (a1:TRow) (hp:∀p∈Aj2 a0 a1,p):CallOk Try.prog 66 [.sl .group a0,Ak .row a1] 0 [] 1 (Arw a0 a1) 0 (Aru a0 a1):=by
 have hb:∀g∈a0,Av g.name.size:=hp _ (List.mem_cons_self ..)
 have h:=Bls a0 a1 (Art a0 a1 hb).1
 unfold Ae6 at h
 rw[(Art a0 a1 hb).2] at h
 exact h
def Ae7:List A→Nat→Objs→Option A9
 | [y0,y1],nx,o=>match Jt .group y0,AQ .row y1 with
  |some a0,some (a1,p1)=>some (1,(Arw a0 a1).pk (AC nx),nx+0,AB nx (Aru a0 a1)++o,p1++(Aj2 a0 a1))
  |_,_=>none
 |_,_,_=>none
theorem Bbc:EV Try.prog 66 Ae7:=fun args nx o k x nx' o' ps h=>by
 unfold Ae7 at h
 split at h<;>first|(cases h;done)|skip
 split at h<;>first|(cases h;done)|skip
 rename_i a0 a1 p1 e0 e1
 cases h
 refine⟨fun hp=>?_,_,rfl⟩
 have q1:=fun p hm=>hp p (List.mem_append.2 (.inl hm))
 have r1:=fun p hm=>hp p (List.mem_append.2 (.inr hm))
 refine Ah (Ag (Bhm a0 a1 r1) (Nat.le_refl _) (Ac rfl (Ac (Af _ _) An)) nx o) fun F N R vs hl=>?_
 obtain⟨v0,w0,rfl,h0,hl⟩:=hl.inv
 obtain⟨v1,w1,rfl,h1,hl⟩:=hl.inv
 exact HL.cons (BL e0 h0) (HL.cons (Am e1 q1 h1) (hl))
noncomputable def B2k:=A7 66 Ae7 Btb
theorem Bnt:CU Try.prog B2k:=Aw Bbc A7y
def Aem (a0:TCell) (a1:TCell):Bool:=a0.1.1==a1.1.1&&a0.1.2==a1.1.2&&(a0.2.1==a1.2.1&&a0.2.2==a1.2.2)&&a0.3==a1.3&&a0.4.toList==a1.4.toList&&(a0.5.1==a1.5.1&&a0.5.2==a1.5.2)
def Aen (a0:TCell) (a1:TCell):A:=.v (.bool (Aem a0 a1))
def A0v (_a0:TCell) (_a1:TCell):Objs:=[]
def Bhb (_a0:TCell) (_a1:TCell):List Prop:=[]
set_option maxRecDepth 100000 in
theorem Bha (a0:TCell) (a1:TCell):ER (AA B2k L0) 9 76 [Ak .cell a0,Ak .cell a1] 0 []=some (1,Aen a0 a1,0,A0v a0 a1,[]):=by kernel_rfl
set_option maxRecDepth 100000 in
theorem Blg (a0:TCell) (a1:TCell) (_hp:∀p∈Bhb a0 a1,p):CallOk Try.prog 76 [Ak .cell a0,Ak .cell a1] 0 [] 1 (Aen a0 a1) 0 (A0v a0 a1):=by
 exact AH (Ax Bnt AG) (Bha a0 a1) Ab
def Arf (a0:TCell) (a1:TCell):A:=.v (.bool (eqC a0 a1))
def Are (_a0:TCell) (_a1:TCell):Objs:=[]
def Aju (_a0:TCell) (_a1:TCell):List Prop:=[]
theorem Bg9 (a0:TCell) (a1:TCell) (_hp:∀p∈Aju a0 a1,p):CallOk Try.prog 76 [Ak .cell a0,Ak .cell a1] 0 [] 1 (Arf a0 a1) 0 (Are a0 a1):=by
 have h:=Blg a0 a1 (fun _ h=>by cases h)
 have e:Aem a0 a1=eqC a0 a1:=by unfold Aem;rw[tlb];rfl
 unfold Aen at h
 rw[e] at h
 exact h
def Aeo:List A→Nat→Objs→Option A9
 | [y0,y1],nx,o=>match AQ .cell y0,AQ .cell y1 with
  |some (a0,p0),some (a1,p1)=>some (1,(Arf a0 a1).pk (AC nx),nx+0,AB nx (Are a0 a1)++o,p0++(p1++(Aju a0 a1)))
  |_,_=>none
 |_,_,_=>none
theorem Ba2:EV Try.prog 76 Aeo:=fun args nx o k x nx' o' ps h=>by
 unfold Aeo at h
 split at h<;>first|(cases h;done)|skip
 split at h<;>first|(cases h;done)|skip
 rename_i a0 p0 a1 p1 e0 e1
 cases h
 refine⟨fun hp=>?_,_,rfl⟩
 have q0:=fun p hm=>hp p (List.mem_append.2 (.inl hm))
 have r0:=fun p hm=>hp p (List.mem_append.2 (.inr hm))
 have q1:=fun p hm=>r0 p (List.mem_append.2 (.inl hm))
 have r1:=fun p hm=>r0 p (List.mem_append.2 (.inr hm))
 refine Ah (Ag (Bg9 a0 a1 r1) (Nat.le_refl _) (Ac (Af _ _) (Ac (Af _ _) An)) nx o) fun F N R vs hl=>?_
 obtain⟨v0,w0,rfl,h0,hl⟩:=hl.inv
 obtain⟨v1,w1,rfl,h1,hl⟩:=hl.inv
 exact HL.cons (Am e0 q0 h0) (HL.cons (Am e1 q1 h1) (hl))
noncomputable def Btc:=A7 76 Aeo B2k
theorem A7z:CU Try.prog Btc:=Aw Ba2 Bnt
abbrev CG:Type:=Int×TRow×TRow
def MW (x:CG):St:=⟨39,2,[(2,.own 0 0),(3,.own 1 0),(5,.v (.int .i64 x.1))],[(0,some (.box 71 [.v (.string x.2.1.key),.sl .cell x.2.1.cells])),(1,some (.box 71 [.v (.string x.2.2.key),.sl .cell x.2.2.cells]))]⟩
def PH:St→Option CG
 |⟨39,2,[(2,.own 0 0),(3,.own 1 0),(5,.v (.int .i64 z0))],[(0,some (.box 71 [.v (.string z1),.sl .cell z2])),(1,some (.box 71 [.v (.string z3),.sl .cell z4]))]⟩=>some (z0,⟨z1,z2⟩,⟨z3,z4⟩)
 |_=>none
theorem Aoi:∀s x,PH s=some x→s=MW x:=fun s x h=>by
 unfold PH at h
 split at h
 ·cases h;rfl
 ·cases h
def Abp:CX:=⟨2,2,[2,3,5],[],[(0,0),(1,1)],[0,1],[4],[0,1]⟩
def A4w:Dp:=⟨[],[(0,0),(1,1)],[2,3,5],[0,1]⟩
def Fh (a0:Int) (a1:TRow) (_a2:TRow):Bool:=!!decide (a0 <(↑a1.2.length:Int))
def D6 (a0:Int) (a1:TRow) (a2:TRow):Bool:=(Fh a0 a1 a2)&&!eqC (a1.2.getD a0.toNat (Ae TC.cell)) (a2.2.getD a0.toNat (Ae TC.cell))
def Au5 (a0:Int) (a1:TRow) (a2:TRow):Bool:=(Fh a0 a1 a2)&&!(D6 a0 a1 a2)
def Fj (x:CG):CG:=(IntKind.i64.wrap (x.1+(1:Int)),x.2.1,x.2.2)
def Fi (x:CG):Cnd:=some (Au5 x.1 x.2.1 x.2.2)
def VG (x:CG):List Prop:=[((Fh x.1 x.2.1 x.2.2)=true→(0:Int)≤x.1∧x.1 <(↑x.2.1.2.length:Int)),((Fh x.1 x.2.1 x.2.2)=true→(0:Int)≤x.1∧x.1 <(↑x.2.2.2.length:Int))]
def ID (x:CG):List Prop:=[((Fh x.1 x.2.1 x.2.2)=true→(0:Int)≤x.1∧x.1 <(↑x.2.1.2.length:Int)),((Fh x.1 x.2.1 x.2.2)=true→(0:Int)≤x.1∧x.1 <(↑x.2.2.2.length:Int))]
def Ts (x:CG):Bo:=[(some 0,some (!decide (x.1 <(↑x.2.1.2.length:Int))),⟨39,2,[(4,.dead)],[(0,some (.box 71 [.v (.string x.2.1.1),.sl .cell x.2.1.2])),(1,some (.box 71 [.v (.string x.2.2.1),.sl .cell x.2.2.2]))]⟩),(none,some ((D6 x.1 x.2.1 x.2.2)),⟨39,2,[(4,.v (.bool (false)))],[(0,some (.box 71 [.v (.string x.2.1.1),.sl .cell x.2.1.2])),(1,some (.box 71 [.v (.string x.2.2.1),.sl .cell x.2.2.2]))]⟩)]
def G2 (x:CG):Nat:=((↑x.2.1.2.length:Int) - x.1).toNat
def Au7 (x:CG):CG:=Bc Fj Fi (G2 x) x
set_option maxRecDepth 100000 in
theorem A1l (a0:Int) (a1:TRow) (a2:TRow):By (AA Btc L0) 9 (Aj Try.prog 67 0) Abp (MW (a0,a1,a2))=some (VG (a0,a1,a2),Ts (a0,a1,a2),Fi (a0,a1,a2),MW (Fj (a0,a1,a2))):=by kernel_rfl
set_option maxRecDepth 100000 in
theorem A1m (a0:Int) (a1:TRow) (a2:TRow) (hp:∀p∈ID (a0,a1,a2),p):∀p∈VG (a0,a1,a2),p:=by
 have n0:=N0 hp
 have n1:=N0 (N1 hp)
 exact(Aa n0 (Aa n1 Ab))
noncomputable def VH:=HF (AA Btc L0) (Aj Try.prog 67 0) Abp A4w PH G2 Fj Fi ID Ts
theorem Au6:∀s b ps outs,VH s=some (b,ps,outs)→Wf s ⟨ps,outs,none⟩∧Br (AA C0 L0) b s ps outs:=
 Bh (T:=MW) A7z AG (u:=9) (by kernel_rfl) (by decide) (fun⟨a0,a1,a2⟩=>A1l a0 a1 a2) (fun⟨a0,a1,a2⟩=>A1m a0 a1 a2) Aoi (fun _=>AU (n:=39) rfl) fun _ _=>rfl
noncomputable def Abo:=Dz 0 VH L0
theorem Au4:Hf Abo:=A5 Au6 AG
def J4 (a0:TRow) (a1:TRow):CG:=Au7 ((0:Int),a0,a1)
def IU (a0:TRow) (a1:TRow):Bool:=!a0.1.toList==a1.1.toList||(↑a0.2.length:Int) !=(↑a1.2.length:Int)
def Aff (a0:TRow) (a1:TRow):Bool:=bif(IU a0 a1) then false else bif D6 (J4 a0 a1).fst (J4 a0 a1).snd.fst (J4 a0 a1).snd.snd then false else true
def Afg (a0:TRow) (a1:TRow):A:=.v (.bool (Aff a0 a1))
def A1n (_a0:TRow) (_a1:TRow):Objs:=[]
def Ar4 (a0:TRow) (a1:TRow):List Prop:=[((!(IU a0 a1))=true→AK Fj Fi ID (G2 ((0:Int),a0,a1)) ((0:Int),a0,a1))]
set_option maxRecDepth 100000 in
theorem Bhv (a0:TRow) (a1:TRow):ER (AA Btc Abo) 9 67 [Ak .row a0,Ak .row a1] 0 []=some (1,Afg a0 a1,0,A1n a0 a1,[((!(IU a0 a1))=true→Aj Try.prog (67:FuncId) (0:Nat)=Aj Try.prog (67:FuncId) (0:Nat)),((!(IU a0 a1))=true→AK Fj Fi ID (G2 ((0:Int),a0,a1)) ((0:Int),a0,a1))]):=by kernel_rfl
set_option maxRecDepth 100000 in
theorem Bl1 (a0:TRow) (a1:TRow) (hp:∀p∈Ar4 a0 a1,p):CallOk Try.prog 67 [Ak .row a0,Ak .row a1] 0 [] 1 (Afg a0 a1) 0 (A1n a0 a1):=by
 have n0:((!(IU a0 a1))=true→Aj Try.prog (67:FuncId) (0:Nat)=Aj Try.prog (67:FuncId) (0:Nat)):=by intros;rfl
 have n1:=N0 hp
 exact AH (Ax A7z Au4) (Bhv a0 a1) (Aa n0 (Aa n1 Ab))
def Ar5 (a0:TRow) (a1:TRow):A:=.v (.bool (Alw a0 a1))
def Ar3 (_a0:TRow) (_a1:TRow):Objs:=[]
def Aka (a0:TRow) (_a1:TRow):List Prop:=[Ai a0.cells.length]
theorem Ar2 (a b:TRow) (hb:Ai a.cells.length):(∀p∈Ar4 a b,p)∧Aff a b=Alw a b:=by
 unfold Ai at hb
 have hk0:IU a b=(!(a.key==b.key)||a.cells.length !=b.cells.length):=by
  show(!(a.key.toList==b.key.toList)||((a.cells.length:Int) !=(b.cells.length:Int)))=_
  rw[tlb]
  congr 1
  rw[Bool.eq_iff_iff,bne_iff_ne,bne_iff_ne];omega
 have main:IU a b=false→AK Fj Fi ID (G2 (0,a,b)) (0,a,b)∧D6 (J4 a b).fst (J4 a b).snd.fst (J4 a b).snd.snd=!Ahj a.cells b.cells:=fun h0=>by
  rw[hk0] at h0
  have hlen:a.cells.length=b.cells.length:=by simpa using(Bool.or_eq_false_iff.1 h0).2
  have hf:∀i:Nat,D6 (i:Int) a b=(decide (i <a.cells.length)&&!eqC (a.2.getD i (Ae TC.cell)) (b.2.getD i (Ae TC.cell))):=fun i=>by
   unfold D6 Fh
   rw[nn,Me,Int.toNat_natCast]
  obtain⟨h1,k,hk,hx,_,_,hb'⟩:=IN (fun i=>(((i:Int),a,b):CG)) a.cells.length (fun i=>!eqC (a.2.getD i (Ae TC.cell)) (b.2.getD i (Ae TC.cell))) Fj Fi ID (G2 (0,a,b)) (0,a,b) rfl (by show a.cells.length≤((a.cells.length:Int) - 0).toNat;omega)
   (fun i _ _=>by
    show((!!decide ((i:Int) <(a.cells.length:Int)))&&!D6 i a b)=_
    rw[hf,nn,Me]
    cases decide (i <a.cells.length)<;>rfl)
   (fun i hi _=>by
    show(IntKind.i64.wrap ((i:Int)+1),a,b)=(((i+1:Nat):Int),a,b)
    rw[EQ (by omega)])
   (fun i _ _=>by
    have hin:(!!decide ((i:Int) <(a.cells.length:Int)))=true→(i:Int) <(a.cells.length:Int):=fun h=>by rw[nn] at h;exact of_decide_eq_true h
    exact Aa (fun h=>⟨by show(0:Int)≤(i:Int);omega,hin h⟩) (Aa (fun h=>⟨by show(0:Int)≤(i:Int);omega,by have:=hin h;show(i:Int) <(b.cells.length:Int);omega⟩) Ab))
  refine⟨h1,?_⟩
  have hr:J4 a b=((k:Int),a,b):=hx
  rw[hr]
  show D6 (k:Int) a b=_
  rw[hf,hb',Bus _ _ hlen]
  congr 1
  exact H6 fun i _=>Bool.not_not _
 refine⟨Aa (fun h=>(main (by simpa using h)).1) Ab,?_⟩
 unfold Aff Alw
 cases h0:IU a b with
 | true=>
  rw[hk0] at h0
  rw[cond_true]
  cases hk:a.key==b.key with
  |false=>rfl
  |true=>
   rw[hk] at h0
   have hne:a.cells.length≠b.cells.length:=by simpa using h0
   cases he:Ahj a.cells b.cells with
   |false=>rfl
   |true=>exact absurd (congrArg List.length (WB.1 he)) hne
 |false=>
  rw[cond_false,(main h0).2]
  rw[hk0] at h0
  have:(a.key==b.key)=true:=by simpa using(Bool.or_eq_false_iff.1 h0).1
  rw[this,Bool.true_and]
  cases Ahj a.cells b.cells<;>rfl
theorem Bhu (a0:TRow) (a1:TRow) (hp:∀p∈Aka a0 a1,p):CallOk Try.prog 67 [Ak .row a0,Ak .row a1] 0 [] 1 (Ar5 a0 a1) 0 (Ar3 a0 a1):=by
 have hb:Ai a0.cells.length:=hp _ (List.mem_cons_self ..)
 have h:=Bl1 a0 a1 (Ar2 a0 a1 hb).1
 unfold Afg at h
 rw[(Ar2 a0 a1 hb).2] at h
 exact h
def Afh:List A→Nat→Objs→Option A9
 | [y0,y1],nx,o=>match AQ .row y0,AQ .row y1 with
  |some (a0,p0),some (a1,p1)=>some (1,(Ar5 a0 a1).pk (AC nx),nx+0,AB nx (Ar3 a0 a1)++o,p0++(p1++(Aka a0 a1)))
  |_,_=>none
 |_,_,_=>none
theorem Bbg:EV Try.prog 67 Afh:=fun args nx o k x nx' o' ps h=>by
 unfold Afh at h
 split at h<;>first|(cases h;done)|skip
 split at h<;>first|(cases h;done)|skip
 rename_i a0 p0 a1 p1 e0 e1
 cases h
 refine⟨fun hp=>?_,_,rfl⟩
 have q0:=fun p hm=>hp p (List.mem_append.2 (.inl hm))
 have r0:=fun p hm=>hp p (List.mem_append.2 (.inr hm))
 have q1:=fun p hm=>r0 p (List.mem_append.2 (.inl hm))
 have r1:=fun p hm=>r0 p (List.mem_append.2 (.inr hm))
 refine Ah (Ag (Bhu a0 a1 r1) (Nat.le_refl _) (Ac (Af _ _) (Ac (Af _ _) An)) nx o) fun F N R vs hl=>?_
 obtain⟨v0,w0,rfl,h0,hl⟩:=hl.inv
 obtain⟨v1,w1,rfl,h1,hl⟩:=hl.inv
 exact HL.cons (Am e0 q0 h0) (HL.cons (Am e1 q1 h1) (hl))
noncomputable def Btd:=A7 67 Afh Btc
theorem A70:CU Try.prog Btd:=Aw Bbg A7z
abbrev Dc:Type:=Int×TRow
def MT (x:Dc):St:=⟨19,1,[(1,.own 0 0),(3,.v (.int .i64 x.1))],[(0,some (.box 71 [.v (.string x.2.key),.sl .cell x.2.cells]))]⟩
def PB:St→Option Dc
 |⟨19,1,[(1,.own 0 0),(3,.v (.int .i64 z0))],[(0,some (.box 71 [.v (.string z1),.sl .cell z2]))]⟩=>some (z0,⟨z1,z2⟩)
 |_=>none
theorem Anz:∀s x,PB s=some x→s=MT x:=fun s x h=>by
 unfold PB at h
 split at h
 ·cases h;rfl
 ·cases h
def Abh:CX:=⟨1,1,[1,3],[],[(0,0)],[0],[2],[0]⟩
def A4r:Dp:=⟨[],[(0,0)],[1,3],[0]⟩
def Iy (a0:Int) (a1:TRow):Bool:=!!decide (a0 <(↑a1.2.length:Int))
def Fa (a0:Int) (a1:TRow):Bool:=(Iy a0 a1)&&!eqC (a1.2.getD a0.toNat (Ae TC.cell)) (TCell.mk (TStamp.mk (0:Int) (0:Int)) (TVec.mk (0:Int) (0:Int)) false (ByteArray.mk #[]) (TVec.mk (0:Int) (0:Int)))
def Auq (a0:Int) (a1:TRow):Bool:=(Iy a0 a1)&&!(Fa a0 a1)
def GZ (x:Dc):Dc:=(IntKind.i64.wrap (x.1+(1:Int)),x.2)
def GY (x:Dc):Cnd:=some (Auq x.1 x.2)
def Vw (x:Dc):List Prop:=[((Iy x.1 x.2)=true→(0:Int)≤x.1∧x.1 <(↑x.2.2.length:Int))]
def JZ (x:Dc):List Prop:=[((Iy x.1 x.2)=true→(0:Int)≤x.1∧x.1 <(↑x.2.2.length:Int))]
def Tk (x:Dc):Bo:=[(some 0,some (!decide (x.1 <(↑x.2.2.length:Int))),⟨19,1,[(2,.dead)],[(0,some (.box 71 [.v (.string x.2.1),.sl .cell x.2.2]))]⟩),(none,some ((Fa x.1 x.2)),⟨19,1,[(2,.v (.bool (false)))],[(0,some (.box 71 [.v (.string x.2.1),.sl .cell x.2.2]))]⟩)]
def Iz (x:Dc):Nat:=((↑x.2.2.length:Int) - x.1).toNat
def NH (x:Dc):Dc:=Bc GZ GY (Iz x) x
set_option maxRecDepth 100000 in
theorem A06 (a0:Int) (a1:TRow):By (AA Btd L0) 9 (Aj Try.prog 68 0) Abh (MT (a0,a1))=some (Vw (a0,a1),Tk (a0,a1),GY (a0,a1),MT (GZ (a0,a1))):=by kernel_rfl
set_option maxRecDepth 100000 in
theorem A07 (a0:Int) (a1:TRow) (hp:∀p∈JZ (a0,a1),p):∀p∈Vw (a0,a1),p:=by
 have n0:=N0 hp
 exact(Aa n0 Ab)
noncomputable def Vx:=HF (AA Btd L0) (Aj Try.prog 68 0) Abh A4r PB Iz GZ GY JZ Tk
theorem Aur:∀s b ps outs,Vx s=some (b,ps,outs)→Wf s ⟨ps,outs,none⟩∧Br (AA C0 L0) b s ps outs:=
 Bh (T:=MT) A70 AG (u:=9) (by kernel_rfl) (by decide) (fun⟨a0,a1⟩=>A06 a0 a1) (fun⟨a0,a1⟩=>A07 a0 a1) Anz (fun _=>AU (n:=19) rfl) fun _ _=>rfl
noncomputable def Abg:=Dz 0 Vx L0
theorem Aup:Hf Abg:=A5 Aur AG
def Aez (a0:TRow):Bool:=bif Fa (NH ((0:Int),a0)).fst (NH ((0:Int),a0)).snd then false else true
def Ae0 (a0:TRow):A:=.v (.bool (Aez a0))
def A08 (_a0:TRow):Objs:=[]
def Aro (a0:TRow):List Prop:=[(AK GZ GY JZ (Iz ((0:Int),a0)) ((0:Int),a0))]
set_option maxRecDepth 100000 in
theorem Bhj (a0:TRow):ER (AA Btd Abg) 9 68 [Ak .row a0] 0 []=some (1,Ae0 a0,0,A08 a0,[(Aj Try.prog (68:FuncId) (0:Nat)=Aj Try.prog (68:FuncId) (0:Nat)),(AK GZ GY JZ (Iz ((0:Int),a0)) ((0:Int),a0))]):=by kernel_rfl
set_option maxRecDepth 100000 in
theorem Blq (a0:TRow) (hp:∀p∈Aro a0,p):CallOk Try.prog 68 [Ak .row a0] 0 [] 1 (Ae0 a0) 0 (A08 a0):=by
 have n1:=N0 hp
 exact AH (Ax A70 Aup) (Bhj a0) (Aa rfl (Aa n1 Ab))
def Arp (a0:TRow):A:=.v (.bool (Bu a0))
def Arn (_a0:TRow):Objs:=[]
def Ajx (a0:TRow):List Prop:=[Ai a0.cells.length]
theorem Arm (a:TRow) (hb:Ai a.cells.length):(∀p∈Aro a,p)∧Aez a=Bu a:=by
 unfold Ai at hb
 have hf:∀i:Nat,Fa (i:Int) a=(decide (i <a.cells.length)&&!eqC (a.2.getD i (Ae TC.cell)) zeroC):=fun i=>by
  unfold Fa Iy
  rw[nn,Me,Int.toNat_natCast]
  rfl
 obtain⟨h1,k,hk,hx,_,_,hb'⟩:=IN (fun i=>(((i:Int),a):Dc)) a.cells.length (fun i=>!eqC (a.2.getD i (Ae TC.cell)) zeroC) GZ GY JZ (Iz (0,a)) (0,a) rfl (by show a.cells.length≤((a.cells.length:Int) - 0).toNat;omega)
  (fun i _ _=>by
   show((!!decide ((i:Int) <(a.cells.length:Int)))&&!Fa i a)=_
   rw[hf,nn,Me]
   cases decide (i <a.cells.length)<;>rfl)
  (fun i hi _=>by
   show(IntKind.i64.wrap ((i:Int)+1),a)=(((i+1:Nat):Int),a)
   rw[EQ (by omega)])
  (fun i _ _=>Aa (fun h=>⟨by show(0:Int)≤(i:Int);omega,by
   have h':(!!decide ((i:Int) <(a.cells.length:Int)))=true:=h
   rw[nn] at h';exact of_decide_eq_true h'⟩) Ab)
 refine⟨Aa h1 Ab,?_⟩
 have hr:NH (0,a)=((k:Int),a):=hx
 unfold Aez
 rw[hr]
 show(bif Fa (k:Int) a then false else true)=_
 rw[hf,hb']
 unfold Bu
 rw[Bt7 a.cells (Ae TC.cell)]
 rw[show JH a.cells.length (fun i=>!!eqC (a.2.getD i (Ae TC.cell)) zeroC)=JH a.cells.length (fun i=>eqC (a.cells.getD i (Ae TC.cell)) zeroC) from H6 fun i _=>Bool.not_not _]
 cases JH a.cells.length (fun i=>eqC (a.cells.getD i (Ae TC.cell)) zeroC)<;>rfl
theorem Bhi (a0:TRow) (hp:∀p∈Ajx a0,p):CallOk Try.prog 68 [Ak .row a0] 0 [] 1 (Arp a0) 0 (Arn a0):=by
 have hb:Ai a0.cells.length:=hp _ (List.mem_cons_self ..)
 have h:=Blq a0 (Arm a0 hb).1
 unfold Ae0 at h
 rw[(Arm a0 hb).2] at h
 exact h
def Ae1:List A→Nat→Objs→Option A9
 | [y0],nx,o=>match AQ .row y0 with
  |some (a0,p0)=>some (1,(Arp a0).pk (AC nx),nx+0,AB nx (Arn a0)++o,p0++(Ajx a0))
  |_=>none
 |_,_,_=>none
theorem Ba7:EV Try.prog 68 Ae1:=fun args nx o k x nx' o' ps h=>by
 unfold Ae1 at h
 split at h<;>first|(cases h;done)|skip
 split at h<;>first|(cases h;done)|skip
 rename_i a0 p0 e0
 cases h
 refine⟨fun hp=>?_,_,rfl⟩
 have q0:=fun p hm=>hp p (List.mem_append.2 (.inl hm))
 have r0:=fun p hm=>hp p (List.mem_append.2 (.inr hm))
 refine Ah (Ag (Bhi a0 r0) (Nat.le_refl _) (Ac (Af _ _) An) nx o) fun F N R vs hl=>?_
 obtain⟨v0,w0,rfl,h0,hl⟩:=hl.inv
 exact HL.cons (Am e0 q0 h0) (hl)
noncomputable def Bte:=A7 68 Ae1 Btd
theorem A71:CU Try.prog Bte:=Aw Ba7 A70
abbrev CI:Type:=(List TCell)×Int×Int
def M1 (x:CI):St:=⟨16,1,[(6,.sl .cell x.1),(7,.v (.int .i64 x.2.1)),(8,.v (.int .i64 x.2.2))],[]⟩
def PS:St→Option CI
 |⟨16,1,[(6,.sl .cell z0),(7,.v (.int .i64 z1)),(8,.v (.int .i64 z2))],[]⟩=>some (z0,z1,z2)
 |_=>none
theorem Ao5:∀s x,PS s=some x→s=M1 x:=fun s x h=>by
 unfold PS at h
 split at h
 ·cases h;rfl
 ·cases h
def Ab7:CX:=⟨1,1,[6,7,8],[],[],[],[2],[]⟩
def A5a:Dp:=⟨[],[],[6,7,8],[]⟩
def Ft (a0:List TCell) (a1:Int) (a2:Int):Bool:=!!decide (a2 <a1)&&!((a0.getD a2.toNat (Ae TC.cell)).1.1==(0:Int)&&(a0.getD a2.toNat (Ae TC.cell)).1.2==(0:Int)&&((a0.getD a2.toNat (Ae TC.cell)).2.1==(0:Int)&&(a0.getD a2.toNat (Ae TC.cell)).2.2==(0:Int)&&((a0.getD a2.toNat (Ae TC.cell)).3==false&&((a0.getD a2.toNat (Ae TC.cell)).4.toList==(ByteArray.mk #[]).toList&&((a0.getD a2.toNat (Ae TC.cell)).5.1==(0:Int)&&(a0.getD a2.toNat (Ae TC.cell)).5.2==(0:Int))))))
def Avr (a0:List TCell) (a1:Int) (a2:Int):Bool:=!!decide (a2 <a1)&&!(Ft a0 a1 a2)
def Hc (x:CI):CI:=(x.1,x.2.1,IntKind.i64.wrap (x.2.2+(1:Int)))
def Hb (x:CI):Cnd:=some (Avr x.1 x.2.1 x.2.2)
def VV (x:CI):List Prop:=[((!!decide (x.2.2 <x.2.1))=true→(0:Int)≤x.2.2∧x.2.2 <(↑x.1.length:Int))]
def Ka (x:CI):List Prop:=[((!!decide (x.2.2 <x.2.1))=true→(0:Int)≤x.2.2∧x.2.2 <(↑x.1.length:Int))]
def TD (x:CI):Bo:=[(some 0,some (!decide (x.2.2 <x.2.1)),⟨16,1,[(2,.dead)],[]⟩),(none,some ((Ft x.1 x.2.1 x.2.2)),⟨16,2,[(2,.v (.bool (false)))],[]⟩)]
def IK (x:CI):Nat:=(x.2.1 - x.2.2).toNat
def Avt (x:CI):CI:=Bc Hc Hb (IK x) x
set_option maxRecDepth 100000 in
theorem A2d (a0:List TCell) (a1:Int) (a2:Int):By (AA Bte L0) 9 (Aj Try.prog 52 0) Ab7 (M1 (a0,a1,a2))=some (VV (a0,a1,a2),TD (a0,a1,a2),Hb (a0,a1,a2),M1 (Hc (a0,a1,a2))):=by kernel_rfl
set_option maxRecDepth 100000 in
theorem A2e (a0:List TCell) (a1:Int) (a2:Int) (hp:∀p∈Ka (a0,a1,a2),p):∀p∈VV (a0,a1,a2),p:=by
 have n0:=N0 hp
 exact(Aa n0 Ab)
noncomputable def VW:=HF (AA Bte L0) (Aj Try.prog 52 0) Ab7 A5a PS IK Hc Hb Ka TD
theorem Avs:∀s b ps outs,VW s=some (b,ps,outs)→Wf s ⟨ps,outs,none⟩∧Br (AA C0 L0) b s ps outs:=
 Bh (T:=M1) A71 AG (u:=9) (by kernel_rfl) (by decide) (fun⟨a0,a1,a2⟩=>A2d a0 a1 a2) (fun⟨a0,a1,a2⟩=>A2e a0 a1 a2) Ao5 (fun _=>AU (n:=16) rfl) fun _ _=>rfl
noncomputable def Ab6:=Dz 0 VW L0
theorem Avq:Hf Ab6:=A5 Avs AG
def Q2 (a0:TRow):CI:=Avt (a0.2,(↑a0.2.length:Int),(0:Int))
def Af2 (a0:TRow):Bool:=bif Ft (Q2 a0).fst (Q2 a0).snd.fst (Q2 a0).snd.snd then false else true
def Af3 (a0:TRow):A:=.v (.bool (Af2 a0))
def A2f (_a0:TRow):Objs:=[]
def Asn (a0:TRow):List Prop:=[(AK Hc Hb Ka (IK (a0.2,(↑a0.2.length:Int),(0:Int))) (a0.2,(↑a0.2.length:Int),(0:Int)))]
set_option maxRecDepth 100000 in
theorem Bih (a0:TRow):ER (AA Bte Ab6) 9 52 [Ak .row a0] 0 []=some (1,Af3 a0,0,A2f a0,[(Aj Try.prog (52:FuncId) (0:Nat)=Aj Try.prog (52:FuncId) (0:Nat)),(AK Hc Hb Ka (IK (a0.2,(↑a0.2.length:Int),(0:Int))) (a0.2,(↑a0.2.length:Int),(0:Int)))]):=by kernel_rfl
set_option maxRecDepth 100000 in
theorem Bme (a0:TRow) (hp:∀p∈Asn a0,p):CallOk Try.prog 52 [Ak .row a0] 0 [] 1 (Af3 a0) 0 (A2f a0):=by
 have n1:=N0 hp
 exact AH (Ax A71 Avq) (Bih a0) (Aa rfl (Aa n1 Ab))
def Aso (a0:TRow):A:=.v (.bool (Bu a0))
def Asm (_a0:TRow):Objs:=[]
def Aks (a0:TRow):List Prop:=[Ai a0.cells.length]
theorem Asl (a:TRow) (hb:Ai a.cells.length):(∀p∈Asn a,p)∧Af2 a=Bu a:=by
 unfold Ai at hb
 have hz:∀c:TCell,(c.1.1==(0:Int)&&c.1.2==(0:Int)&&(c.2.1==(0:Int)&&c.2.2==(0:Int)&&(c.3==false&&(c.4.toList==(ByteArray.mk #[]).toList&&(c.5.1==(0:Int)&&c.5.2==(0:Int))))))=eqC c zeroC:=fun c=>by
  rw[tlb]
  unfold eqC zeroC
  simp only[Bool.and_assoc]
 have hf:∀i:Nat,Ft a.2 (a.2.length:Int) (i:Int)=(decide (i <a.cells.length)&&!eqC (a.2.getD i (Ae TC.cell)) zeroC):=fun i=>by
  unfold Ft
  rw[nn,Me,Int.toNat_natCast,hz]
 obtain⟨h1,k,hk,hx,_,_,hb'⟩:=IN (fun i=>((a.2,(a.2.length:Int),(i:Int)):CI)) a.cells.length (fun i=>!eqC (a.2.getD i (Ae TC.cell)) zeroC) Hc Hb Ka (IK (a.2,(a.2.length:Int),0)) (a.2,(a.2.length:Int),0) rfl (by show a.cells.length≤((a.cells.length:Int) - 0).toNat;omega)
  (fun i _ _=>by
   show((!!decide ((i:Int) <(a.cells.length:Int)))&&!Ft a.2 (a.2.length:Int) i)=_
   rw[hf,nn,Me]
   cases decide (i <a.cells.length)<;>rfl)
  (fun i hi _=>by
   show(a.2,(a.2.length:Int),IntKind.i64.wrap ((i:Int)+1))=(a.2,(a.2.length:Int),((i+1:Nat):Int))
   rw[EQ (by omega)])
  (fun i _ _=>Aa (fun h=>⟨by show(0:Int)≤(i:Int);omega,by
   have h':(!!decide ((i:Int) <(a.cells.length:Int)))=true:=h
   rw[nn] at h';exact of_decide_eq_true h'⟩) Ab)
 refine⟨Aa h1 Ab,?_⟩
 have hr:Q2 a=(a.2,(a.2.length:Int),(k:Int)):=hx
 unfold Af2
 rw[hr]
 show(bif Ft a.2 (a.2.length:Int) (k:Int) then false else true)=_
 rw[hf,hb']
 unfold Bu
 rw[Bt7 a.cells (Ae TC.cell)]
 rw[show JH a.cells.length (fun i=>!!eqC (a.2.getD i (Ae TC.cell)) zeroC)=JH a.cells.length (fun i=>eqC (a.cells.getD i (Ae TC.cell)) zeroC) from H6 fun i _=>Bool.not_not _]
 cases JH a.cells.length (fun i=>eqC (a.cells.getD i (Ae TC.cell)) zeroC)<;>rfl
theorem Big (a0:TRow) (hp:∀p∈Aks a0,p):CallOk Try.prog 52 [Ak .row a0] 0 [] 1 (Aso a0) 0 (Asm a0):=by
 have hb:Ai a0.cells.length:=hp _ (List.mem_cons_self ..)
 have h:=Bme a0 (Asl a0 hb).1
 unfold Af3 at h
 rw[(Asl a0 hb).2] at h
 exact h
def Af4:List A→Nat→Objs→Option A9
 | [y0],nx,o=>match AQ .row y0 with
  |some (a0,p0)=>some (1,(Aso a0).pk (AC nx),nx+0,AB nx (Asm a0)++o,p0++(Aks a0))
  |_=>none
 |_,_,_=>none
theorem Bbx:EV Try.prog 52 Af4:=fun args nx o k x nx' o' ps h=>by
 unfold Af4 at h
 split at h<;>first|(cases h;done)|skip
 split at h<;>first|(cases h;done)|skip
 rename_i a0 p0 e0
 cases h
 refine⟨fun hp=>?_,_,rfl⟩
 have q0:=fun p hm=>hp p (List.mem_append.2 (.inl hm))
 have r0:=fun p hm=>hp p (List.mem_append.2 (.inr hm))
 refine Ah (Ag (Big a0 r0) (Nat.le_refl _) (Ac (Af _ _) An) nx o) fun F N R vs hl=>?_
 obtain⟨v0,w0,rfl,h0,hl⟩:=hl.inv
 exact HL.cons (Am e0 q0 h0) (hl)
noncomputable def B39:=A7 52 Af4 Bte
theorem Byf:CU Try.prog B39:=Aw Bbx A71
noncomputable def Cj:=B39
theorem B1b:CU Try.prog Cj:=Byf
end Go.Proofs.Yteebobbhhgmeiaa
namespace Go.Proofs.Yteebobbhhgmeiaa
open Go.RowKit
def Nr (a b:TVec):TVec:=⟨max (max 0 a.a) b.a,max (max 0 a.b) b.b⟩
def Adg (c:TCell):TVec:=Nr c.vec c.dead
def JQ (cs:List TCell):TVec:=cs.foldl (fun v c=>Nr v (Adg c)) ⟨0,0⟩
def Wa (l:List TGroup) (k:ByteArray):Int:=bif AX l !=0 then AX l else SE k
def Ajf (l:List TGroup) (k:ByteArray):TRow:=⟨bif Wa l k !=0 then⟨#[]⟩ else k,bif Wa l k !=0 then[] else List.replicate l.length zeroC⟩
noncomputable def B2l:=A7 155 (inl (AA Cj L0) 4 155) Cj
theorem Bnu:CU Try.prog B2l:=Aw (Ade (Ax B1b AG) 4 155) B1b
noncomputable def B2m:=A7 109 (inl (AA B2l L0) 4 109) B2l
theorem Bnv:CU Try.prog B2m:=Aw (Ade (Ax Bnu AG) 4 109) Bnu
def Tg (a0:TVec) (a1:TVec):TVec:=TVec.mk (max (max (0:Int) a0.1) a1.1) (max (max (0:Int) a0.2) a1.2)
def Anq (a0:TVec) (a1:TVec):A:=.v (.agg ⟨[.int .i64 ((Tg a0 a1).a),.int .i64 ((Tg a0 a1).b)]⟩)
def Anp (_a0:TVec) (_a1:TVec):Objs:=[]
def A0j (_a0:TVec) (_a1:TVec):List Prop:=[]
set_option maxRecDepth 100000 in
theorem Blb (a0:TVec) (a1:TVec):ER (AA B2m L0) 9 110 [Ak .vec a0,Ak .vec a1] 0 []=some (1,Anq a0 a1,0,Anp a0 a1,[((0:Int)≤(0:Int)∧(0:Int) <(↑(2:Nat):Int)),((0:Nat) <(2:Nat)),((0:Int)≤(0:Int)∧(0:Int) <(↑(2:Nat):Int)),((0:Nat) <(2:Nat)),((0:Int)≤(1:Int)∧(1:Int) <(↑(2:Nat):Int)),((1:Nat) <(2:Nat)),((0:Int)≤(1:Int)∧(1:Int) <(↑(2:Nat):Int)),((1:Nat) <(2:Nat))]):=by kernel_rfl
set_option maxRecDepth 100000 in
theorem Brf (a0:TVec) (a1:TVec) (_hp:∀p∈A0j a0 a1,p):CallOk Try.prog 110 [Ak .vec a0,Ak .vec a1] 0 [] 1 (Anq a0 a1) 0 (Anp a0 a1):=by
 have n0:((0:Int)≤(0:Int)∧(0:Int) <(↑(2:Nat):Int)):=by first|rfl|decide+kernel
 have n1:((0:Nat) <(2:Nat)):=by first|rfl|decide+kernel
 have n4:((0:Int)≤(1:Int)∧(1:Int) <(↑(2:Nat):Int)):=by first|rfl|decide+kernel
 have n5:((1:Nat) <(2:Nat)):=by first|rfl|decide+kernel
 exact AH (Ax Bnv AG) (Blb a0 a1) (Aa n0 (Aa n1 (Aa n0 (Aa n1 (Aa n4 (Aa n5 (Aa n4 (Aa n5 Ab))))))))
def Anr:List A→Nat→Objs→Option A9
 | [y0,y1],nx,o=>match AQ .vec y0,AQ .vec y1 with
  |some (a0,p0),some (a1,p1)=>some (1,(Anq a0 a1).pk (AC nx),nx+0,AB nx (Anp a0 a1)++o,p0++(p1++(A0j a0 a1)))
  |_,_=>none
 |_,_,_=>none
theorem Bg2:EV Try.prog 110 Anr:=fun args nx o k x nx' o' ps h=>by
 unfold Anr at h
 split at h<;>first|(cases h;done)|skip
 split at h<;>first|(cases h;done)|skip
 rename_i a0 p0 a1 p1 e0 e1
 cases h
 refine⟨fun hp=>?_,_,rfl⟩
 have q0:=fun p hm=>hp p (List.mem_append.2 (.inl hm))
 have r0:=fun p hm=>hp p (List.mem_append.2 (.inr hm))
 have q1:=fun p hm=>r0 p (List.mem_append.2 (.inl hm))
 have r1:=fun p hm=>r0 p (List.mem_append.2 (.inr hm))
 refine Ah (Ag (Brf a0 a1 r1) (Nat.le_refl _) (Ac (Af _ _) (Ac (Af _ _) An)) nx o) fun F N R vs hl=>?_
 obtain⟨v0,w0,rfl,h0,hl⟩:=hl.inv
 obtain⟨v1,w1,rfl,h1,hl⟩:=hl.inv
 exact HL.cons (Am e0 q0 h0) (HL.cons (Am e1 q1 h1) (hl))
noncomputable def B2n:=A7 110 Anr B2m
theorem Bnw:CU Try.prog B2n:=Aw Bg2 Bnv
def X5 (a0:TCell):TVec:=Tg a0.2 a0.5
def X7 (a0:TCell):A:=.v (.agg ⟨[.int .i64 ((X5 a0).a),.int .i64 ((X5 a0).b)]⟩)
def X6 (_a0:TCell):Objs:=[]
def Ajt (_a0:TCell):List Prop:=[]
set_option maxRecDepth 100000 in
theorem Ba1 (a0:TCell):ER (AA B2n L0) 9 44 [Ak .cell a0] 0 []=some (1,X7 a0,0,X6 a0,[]):=by kernel_rfl
set_option maxRecDepth 100000 in
theorem Bg8 (a0:TCell) (_hp:∀p∈Ajt a0,p):CallOk Try.prog 44 [Ak .cell a0] 0 [] 1 (X7 a0) 0 (X6 a0):=by
 exact AH (Ax Bnw AG) (Ba1 a0) Ab
def X8:List A→Nat→Objs→Option A9
 | [y0],nx,o=>match AQ .cell y0 with
  |some (a0,p0)=>some (1,(X7 a0).pk (AC nx),nx+0,AB nx (X6 a0)++o,p0++(Ajt a0))
  |_=>none
 |_,_,_=>none
theorem A4n:EV Try.prog 44 X8:=fun args nx o k x nx' o' ps h=>by
 unfold X8 at h
 split at h<;>first|(cases h;done)|skip
 split at h<;>first|(cases h;done)|skip
 rename_i a0 p0 e0
 cases h
 refine⟨fun hp=>?_,_,rfl⟩
 have q0:=fun p hm=>hp p (List.mem_append.2 (.inl hm))
 have r0:=fun p hm=>hp p (List.mem_append.2 (.inr hm))
 refine Ah (Ag (Bg8 a0 r0) (Nat.le_refl _) (Ac (Af _ _) An) nx o) fun F N R vs hl=>?_
 obtain⟨v0,w0,rfl,h0,hl⟩:=hl.inv
 exact HL.cons (Am e0 q0 h0) (hl)
noncomputable def B2o:=A7 44 X8 B2n
theorem Bnx:CU Try.prog B2o:=Aw A4n Bnw
def Lm (a0:TCell):TVec:=TVec.mk (max (max (0:Int) a0.2.1) a0.5.1) (max (max (0:Int) a0.2.2) a0.5.2)
def TU (a0:TCell):A:=.v (.agg ⟨[.int .i64 ((Lm a0).a),.int .i64 ((Lm a0).b)]⟩)
def TT (_a0:TCell):Objs:=[]
def Aab (_a0:TCell):List Prop:=[]
set_option maxRecDepth 100000 in
theorem A3e (a0:TCell):ER (AA B2o L0) 9 43 [Ak .cell a0] 0 []=some (1,TU a0,0,TT a0,[((0:Int)≤(0:Int)∧(0:Int) <(↑(2:Nat):Int)),((0:Nat) <(2:Nat)),((0:Int)≤(0:Int)∧(0:Int) <(2:Int)),((0:Nat) <(2:Nat)),((0:Int)≤(0:Int)∧(0:Int) <(2:Int)),((0:Nat) <(2:Nat)),((0:Int)≤(0:Int)∧(0:Int) <(2:Int)),((0:Nat) <(2:Nat)),((0:Int)≤(1:Int)∧(1:Int) <(2:Int)),((1:Nat) <(2:Nat)),((0:Int)≤(1:Int)∧(1:Int) <(2:Int)),((1:Nat) <(2:Nat)),((0:Int)≤(1:Int)∧(1:Int) <(2:Int)),((1:Nat) <(2:Nat)),((0:Int)≤(1:Int)∧(1:Int) <(↑(2:Nat):Int)),((1:Nat) <(2:Nat)),((0:Int)≤(0:Int)∧(0:Int) <(2:Int)),((0:Nat) <(2:Nat)),((0:Int)≤(0:Int)∧(0:Int) <(2:Int)),((0:Nat) <(2:Nat)),((0:Int)≤(0:Int)∧(0:Int) <(2:Int)),((0:Nat) <(2:Nat)),((0:Int)≤(1:Int)∧(1:Int) <(2:Int)),((1:Nat) <(2:Nat)),((0:Int)≤(1:Int)∧(1:Int) <(2:Int)),((1:Nat) <(2:Nat)),((0:Int)≤(1:Int)∧(1:Int) <(2:Int)),((1:Nat) <(2:Nat))]):=by kernel_rfl
set_option maxRecDepth 100000 in
theorem A8l (a0:TCell) (_hp:∀p∈Aab a0,p):CallOk Try.prog 43 [Ak .cell a0] 0 [] 1 (TU a0) 0 (TT a0):=by
 have n0:((0:Int)≤(0:Int)∧(0:Int) <(↑(2:Nat):Int)):=by first|rfl|decide+kernel
 have n1:((0:Nat) <(2:Nat)):=by first|rfl|decide+kernel
 have n2:((0:Int)≤(0:Int)∧(0:Int) <(2:Int)):=by first|rfl|decide+kernel
 have n8:((0:Int)≤(1:Int)∧(1:Int) <(2:Int)):=by first|rfl|decide+kernel
 have n9:((1:Nat) <(2:Nat)):=by first|rfl|decide+kernel
 have n14:((0:Int)≤(1:Int)∧(1:Int) <(↑(2:Nat):Int)):=by first|rfl|decide+kernel
 exact AH (Ax Bnx AG) (A3e a0) (Aa n0 (Aa n1 (Aa n2 (Aa n1 (Aa n2 (Aa n1 (Aa n2 (Aa n1 (Aa n8 (Aa n9 (Aa n8 (Aa n9 (Aa n8 (Aa n9 (Aa n14 (Aa n9 (Aa n2 (Aa n1 (Aa n2 (Aa n1 (Aa n2 (Aa n1 (Aa n8 (Aa n9 (Aa n8 (Aa n9 (Aa n8 (Aa n9 Ab))))))))))))))))))))))))))))
def TV:List A→Nat→Objs→Option A9
 | [y0],nx,o=>match AQ .cell y0 with
  |some (a0,p0)=>some (1,(TU a0).pk (AC nx),nx+0,AB nx (TT a0)++o,p0++(Aab a0))
  |_=>none
 |_,_,_=>none
theorem Axa:EV Try.prog 43 TV:=fun args nx o k x nx' o' ps h=>by
 unfold TV at h
 split at h<;>first|(cases h;done)|skip
 split at h<;>first|(cases h;done)|skip
 rename_i a0 p0 e0
 cases h
 refine⟨fun hp=>?_,_,rfl⟩
 have q0:=fun p hm=>hp p (List.mem_append.2 (.inl hm))
 have r0:=fun p hm=>hp p (List.mem_append.2 (.inr hm))
 refine Ah (Ag (A8l a0 r0) (Nat.le_refl _) (Ac (Af _ _) An) nx o) fun F N R vs hl=>?_
 obtain⟨v0,w0,rfl,h0,hl⟩:=hl.inv
 exact HL.cons (Am e0 q0 h0) (hl)
noncomputable def Btg:=A7 43 TV B2o
theorem A72:CU Try.prog Btg:=Aw Axa Bnx
abbrev Cz:Type:=Int×TRow×TVec
def LZ (x:Cz):St:=⟨21,3,[(1,.own 0 0),(3,.own 2 0),(4,.v (.int .i64 x.1))],[(0,some (.box 71 [.v (.string x.2.1.key),.sl .cell x.2.1.cells])),(2,some (.box 31 [.v (.int .i64 x.2.2.a),.v (.int .i64 x.2.2.b)]))]⟩
def NK:St→Option Cz
 |⟨21,3,[(1,.own 0 0),(3,.own 2 0),(4,.v (.int .i64 z0))],[(0,some (.box 71 [.v (.string z1),.sl .cell z2])),(2,some (.box 31 [.v (.int .i64 z3),.v (.int .i64 z4)]))]⟩=>some (z0,⟨z1,z2⟩,⟨z3,z4⟩)
 |_=>none
theorem Aj5:∀s x,NK s=some x→s=LZ x:=fun s x h=>by
 unfold NK at h
 split at h
 ·cases h;rfl
 ·cases h
def Yk:CX:=⟨3,3,[1,3,4],[],[(0,0),(2,2)],[0,2],[],[0,2]⟩
def A1h:Dp:=⟨[],[(0,0),(2,2)],[1,3,4],[0,2]⟩
def L1 (a0:Int) (a1:TRow) (_a2:TVec):Bool:=!!decide (a0 <(↑a1.2.length:Int))
def An9 (a0:Int) (a1:TRow) (a2:TVec):TVec:=Tg a2 (X5 (a1.2.getD a0.toNat (Ae TC.cell)))
def F5 (x:Cz):Cz:=(IntKind.i64.wrap (x.1+(1:Int)),x.2.1,An9 x.1 x.2.1 x.2.2)
def F4 (x:Cz):Cnd:=some ((L1 x.1 x.2.1 x.2.2))
def Tp (x:Cz):List Prop:=[((L1 x.1 x.2.1 x.2.2)=true→(0:Int)≤x.1∧x.1 <(↑x.2.1.2.length:Int))]
def Jf (x:Cz):List Prop:=[((L1 x.1 x.2.1 x.2.2)=true→(0:Int)≤x.1∧x.1 <(↑x.2.1.2.length:Int))]
def QQ (x:Cz):Bo:=[(some 0,some (!decide (x.1 <(↑x.2.1.2.length:Int))),⟨21,3,[],[(0,some (.box 71 [.v (.string x.2.1.1),.sl .cell x.2.1.2])),(2,some (.box 31 [.v (.int .i64 x.2.2.1),.v (.int .i64 x.2.2.2)]))]⟩)]
def H4 (x:Cz):Nat:=((↑x.2.1.2.length:Int) - x.1).toNat
def MD (x:Cz):Cz:=Bc F5 F4 (H4 x) x
set_option maxRecDepth 100000 in
theorem Au0 (a0:Int) (a1:TRow) (a2:TVec):By (AA Btg L0) 9 (Aj Try.prog 70 0) Yk (LZ (a0,a1,a2))=some (Tp (a0,a1,a2),QQ (a0,a1,a2),F4 (a0,a1,a2),LZ (F5 (a0,a1,a2))):=by kernel_rfl
set_option maxRecDepth 100000 in
theorem Au1 (a0:Int) (a1:TRow) (a2:TVec) (hp:∀p∈Jf (a0,a1,a2),p):∀p∈Tp (a0,a1,a2),p:=by
 have n0:=N0 hp
 exact(Aa n0 Ab)
noncomputable def Tq:=HF (AA Btg L0) (Aj Try.prog 70 0) Yk A1h NK H4 F5 F4 Jf QQ
theorem Aoa:∀s b ps outs,Tq s=some (b,ps,outs)→Wf s ⟨ps,outs,none⟩∧Br (AA C0 L0) b s ps outs:=
 Bh (T:=LZ) A72 AG (u:=9) (by kernel_rfl) (by decide) (fun⟨a0,a1,a2⟩=>Au0 a0 a1 a2) (fun⟨a0,a1,a2⟩=>Au1 a0 a1 a2) Aj5 (fun _=>AU (n:=21) rfl) fun _ _=>rfl
noncomputable def Yj:=Dz 0 Tq L0
theorem An8:Hf Yj:=A5 Aoa AG
def Yi (a0:TRow):TVec:=(MD ((0:Int),a0,TVec.mk (0:Int) (0:Int))).snd.snd
def Yl (a0:TRow):A:=.v (.agg ⟨[.int .i64 ((Yi a0).a),.int .i64 ((Yi a0).b)]⟩)
def Ar0 (_a0:TRow):Objs:=[]
def Aj7 (a0:TRow):List Prop:=[(AK F5 F4 Jf (H4 ((0:Int),a0,TVec.mk (0:Int) (0:Int))) ((0:Int),a0,TVec.mk (0:Int) (0:Int)))]
set_option maxRecDepth 100000 in
theorem Bbf (a0:TRow):ER (AA Btg Yj) 9 70 [Ak .row a0] 0 []=some (1,Yl a0,0,Ar0 a0,[(Aj Try.prog (70:FuncId) (0:Nat)=Aj Try.prog (70:FuncId) (0:Nat)),(AK F5 F4 Jf (H4 ((0:Int),a0,TVec.mk (0:Int) (0:Int))) ((0:Int),a0,TVec.mk (0:Int) (0:Int)))]):=by kernel_rfl
set_option maxRecDepth 100000 in
theorem Bhs (a0:TRow) (hp:∀p∈Aj7 a0,p):CallOk Try.prog 70 [Ak .row a0] 0 [] 1 (Yl a0) 0 (Ar0 a0):=by
 have n1:=N0 hp
 exact AH (Ax A72 An8) (Bbf a0) (Aa rfl (Aa n1 Ab))
def Aj8 (a0:TRow):A:=.v (.agg ⟨[.int .i64 (JQ a0.cells).a,.int .i64 (JQ a0.cells).b]⟩)
def Aj6 (_a0:TRow):Objs:=[]
def Abn (a0:TRow):List Prop:=[Av a0.cells.length]
theorem Aqd (cs:List TCell) (i:Nat) (h:i <cs.length):JQ (cs.take (i+1))=Nr (JQ (cs.take i)) (Adg (cs.getD i (Ae TC.cell))):=by
 unfold JQ
 rw[List.take_add_one,List.getElem?_eq_getElem h,List.getD_eq_getElem?_getD,List.getElem?_eq_getElem h,List.foldl_append]
 rfl
theorem Aj4 (a:TRow) (hb:Av a.cells.length):(∀p∈Aj7 a,p)∧Yi a=JQ a.cells:=by
 unfold Av at hb
 obtain⟨h1,k,hk,hx,_,hst,_⟩:=IN (fun i=>(((i:Int),a,JQ (a.cells.take i)):Cz)) a.cells.length (fun _=>false) F5 F4 Jf (H4 (0,a,⟨0,0⟩)) (0,a,⟨0,0⟩) rfl (by show a.cells.length≤((a.cells.length:Int) - 0).toNat;omega)
  (fun i _ _=>by
   show(!!decide ((i:Int) <(a.cells.length:Int)))=_
   rw[nn,Me,Bool.not_false,Bool.and_true])
  (fun i hi _=>by
   show(IntKind.i64.wrap ((i:Int)+1),a,Nr (JQ (a.cells.take i)) (Adg (a.cells.getD ((i:Int)).toNat (Ae TC.cell))))=(((i+1:Nat):Int),a,JQ (a.cells.take (i+1)))
   rw[EQ (by omega),Int.toNat_natCast,Aqd _ _ hi])
  (fun i _ _=>Aa (fun h=>⟨by show(0:Int)≤(i:Int);omega,by
   have h':(!!decide ((i:Int) <(a.cells.length:Int)))=true:=h
   rw[nn] at h';exact of_decide_eq_true h'⟩) Ab)
 refine⟨Aa h1 Ab,?_⟩
 have hkn:k=a.cells.length:=by
  rcases Nat.lt_or_ge k a.cells.length with h|h
  ·exact absurd (hst h) (by decide)
  ·omega
 have hr:MD (0,a,⟨0,0⟩)=((k:Int),a,JQ (a.cells.take k)):=hx
 show(MD (0,a,⟨0,0⟩)).snd.snd=_
 rw[hr,hkn,List.take_length]
theorem Bbe (a0:TRow) (hp:∀p∈Abn a0,p):CallOk Try.prog 70 [Ak .row a0] 0 [] 1 (Aj8 a0) 0 (Aj6 a0):=by
 have hb:Av a0.cells.length:=hp _ (List.mem_cons_self ..)
 have h:=Bhs a0 (Aj4 a0 hb).1
 unfold Yl at h
 rw[(Aj4 a0 hb).2] at h
 exact h
def Ym:List A→Nat→Objs→Option A9
 | [y0],nx,o=>match AQ .row y0 with
  |some (a0,p0)=>some (1,(Aj8 a0).pk (AC nx),nx+0,AB nx (Aj6 a0)++o,p0++(Abn a0))
  |_=>none
 |_,_,_=>none
theorem A4v:EV Try.prog 70 Ym:=fun args nx o k x nx' o' ps h=>by
 unfold Ym at h
 split at h<;>first|(cases h;done)|skip
 split at h<;>first|(cases h;done)|skip
 rename_i a0 p0 e0
 cases h
 refine⟨fun hp=>?_,_,rfl⟩
 have q0:=fun p hm=>hp p (List.mem_append.2 (.inl hm))
 have r0:=fun p hm=>hp p (List.mem_append.2 (.inr hm))
 refine Ah (Ag (Bbe a0 r0) (Nat.le_refl _) (Ac (Af _ _) An) nx o) fun F N R vs hl=>?_
 obtain⟨v0,w0,rfl,h0,hl⟩:=hl.inv
 exact HL.cons (Am e0 q0 h0) (hl)
noncomputable def Bth:=A7 70 Ym Btg
theorem A73:CU Try.prog Bth:=Aw A4v A72
abbrev CB:Type:=(List TCell)×Int×Int×TVec
def L7 (x:CB):St:=⟨19,2,[(2,.own 1 0),(6,.sl .cell x.1),(7,.v (.int .i64 x.2.1)),(8,.v (.int .i64 x.2.2.1))],[(1,some (.box 31 [.v (.int .i64 x.2.2.2.a),.v (.int .i64 x.2.2.2.b)]))]⟩
def NO:St→Option CB
 |⟨19,2,[(2,.own 1 0),(6,.sl .cell z0),(7,.v (.int .i64 z1)),(8,.v (.int .i64 z2))],[(1,some (.box 31 [.v (.int .i64 z3),.v (.int .i64 z4)]))]⟩=>some (z0,z1,z2,⟨z3,z4⟩)
 |_=>none
theorem Akw:∀s x,NO s=some x→s=L7 x:=fun s x h=>by
 unfold NO at h
 split at h
 ·cases h;rfl
 ·cases h
def YL:CX:=⟨2,2,[2,6,7,8],[],[(1,1)],[1],[],[1]⟩
def A2i:Dp:=⟨[],[(1,1)],[2,6,7,8],[1]⟩
def Ao8 (a0:List TCell) (_a1:Int) (a2:Int) (a3:TVec):TVec:=TVec.mk (max (max (0:Int) a3.1) (Lm (a0.getD a2.toNat (Ae TC.cell))).1) (max (max (0:Int) a3.2) (Lm (a0.getD a2.toNat (Ae TC.cell))).2)
def F8 (x:CB):CB:=(x.1,x.2.1,IntKind.i64.wrap (x.2.2.1+(1:Int)),Ao8 x.1 x.2.1 x.2.2.1 x.2.2.2)
def F7 (x:CB):Cnd:=some (!!decide (x.2.2.1 <x.2.1))
def TF (x:CB):List Prop:=[((!!decide (x.2.2.1 <x.2.1))=true→(0:Int)≤x.2.2.1∧x.2.2.1 <(↑x.1.length:Int)),((!!decide (x.2.2.1 <x.2.1))=true→(0:Int)≤(0:Int)∧(0:Int) <(↑(2:Nat):Int)),((!!decide (x.2.2.1 <x.2.1))=true→(0:Nat) <(2:Nat)),((!!decide (x.2.2.1 <x.2.1))=true→(0:Int)≤(0:Int)∧(0:Int) <(2:Int)),((!!decide (x.2.2.1 <x.2.1))=true→(0:Nat) <(2:Nat)),((!!decide (x.2.2.1 <x.2.1))=true→(0:Int)≤(0:Int)∧(0:Int) <(2:Int)),((!!decide (x.2.2.1 <x.2.1))=true→(0:Nat) <(2:Nat)),((!!decide (x.2.2.1 <x.2.1))=true→(0:Int)≤(0:Int)∧(0:Int) <(2:Int)),((!!decide (x.2.2.1 <x.2.1))=true→(0:Nat) <(2:Nat)),((!!decide (x.2.2.1 <x.2.1))=true→(0:Int)≤(1:Int)∧(1:Int) <(2:Int)),((!!decide (x.2.2.1 <x.2.1))=true→(1:Nat) <(2:Nat)),((!!decide (x.2.2.1 <x.2.1))=true→(0:Int)≤(1:Int)∧(1:Int) <(2:Int)),((!!decide (x.2.2.1 <x.2.1))=true→(1:Nat) <(2:Nat)),((!!decide (x.2.2.1 <x.2.1))=true→(0:Int)≤(1:Int)∧(1:Int) <(2:Int)),((!!decide (x.2.2.1 <x.2.1))=true→(1:Nat) <(2:Nat)),((!!decide (x.2.2.1 <x.2.1))=true→(0:Int)≤(1:Int)∧(1:Int) <(↑(2:Nat):Int)),((!!decide (x.2.2.1 <x.2.1))=true→(1:Nat) <(2:Nat)),((!!decide (x.2.2.1 <x.2.1))=true→(0:Int)≤(0:Int)∧(0:Int) <(2:Int)),((!!decide (x.2.2.1 <x.2.1))=true→(0:Nat) <(2:Nat)),((!!decide (x.2.2.1 <x.2.1))=true→(0:Int)≤(0:Int)∧(0:Int) <(2:Int)),((!!decide (x.2.2.1 <x.2.1))=true→(0:Nat) <(2:Nat)),((!!decide (x.2.2.1 <x.2.1))=true→(0:Int)≤(0:Int)∧(0:Int) <(2:Int)),((!!decide (x.2.2.1 <x.2.1))=true→(0:Nat) <(2:Nat)),((!!decide (x.2.2.1 <x.2.1))=true→(0:Int)≤(1:Int)∧(1:Int) <(2:Int)),((!!decide (x.2.2.1 <x.2.1))=true→(1:Nat) <(2:Nat)),((!!decide (x.2.2.1 <x.2.1))=true→(0:Int)≤(1:Int)∧(1:Int) <(2:Int)),((!!decide (x.2.2.1 <x.2.1))=true→(1:Nat) <(2:Nat)),((!!decide (x.2.2.1 <x.2.1))=true→(0:Int)≤(1:Int)∧(1:Int) <(2:Int)),((!!decide (x.2.2.1 <x.2.1))=true→(1:Nat) <(2:Nat))]
def Ji (x:CB):List Prop:=[((!!decide (x.2.2.1 <x.2.1))=true→(0:Int)≤x.2.2.1∧x.2.2.1 <(↑x.1.length:Int))]
def Q3 (x:CB):Bo:=[(some 0,some (!decide (x.2.2.1 <x.2.1)),⟨19,2,[],[(1,some (.box 31 [.v (.int .i64 x.2.2.2.1),.v (.int .i64 x.2.2.2.2)]))]⟩)]
def H5 (x:CB):Nat:=(x.2.1 - x.2.2.1).toNat
def MH (x:CB):CB:=Bc F8 F7 (H5 x) x
set_option maxRecDepth 100000 in
theorem Avw (a0:List TCell) (a1:Int) (a2:Int) (a3:TVec):By (AA Bth L0) 9 (Aj Try.prog 69 0) YL (L7 (a0,a1,a2,a3))=some (TF (a0,a1,a2,a3),Q3 (a0,a1,a2,a3),F7 (a0,a1,a2,a3),L7 (F8 (a0,a1,a2,a3))):=by kernel_rfl
set_option maxRecDepth 100000 in
theorem Avx (a0:List TCell) (a1:Int) (a2:Int) (a3:TVec) (hp:∀p∈Ji (a0,a1,a2,a3),p):∀p∈TF (a0,a1,a2,a3),p:=by
 have n0:=N0 hp
 have n1:((!!decide (a2 <a1))=true→(0:Int)≤(0:Int)∧(0:Int) <(↑(2:Nat):Int)):=by omega
 have n2:((!!decide (a2 <a1))=true→(0:Nat) <(2:Nat)):=by omega
 have n3:((!!decide (a2 <a1))=true→(0:Int)≤(0:Int)∧(0:Int) <(2:Int)):=by omega
 have n9:((!!decide (a2 <a1))=true→(0:Int)≤(1:Int)∧(1:Int) <(2:Int)):=by omega
 have n10:((!!decide (a2 <a1))=true→(1:Nat) <(2:Nat)):=by omega
 have n15:((!!decide (a2 <a1))=true→(0:Int)≤(1:Int)∧(1:Int) <(↑(2:Nat):Int)):=by omega
 exact(Aa n0 (Aa n1 (Aa n2 (Aa n3 (Aa n2 (Aa n3 (Aa n2 (Aa n3 (Aa n2 (Aa n9 (Aa n10 (Aa n9 (Aa n10 (Aa n9 (Aa n10 (Aa n15 (Aa n10 (Aa n3 (Aa n2 (Aa n3 (Aa n2 (Aa n3 (Aa n2 (Aa n9 (Aa n10 (Aa n9 (Aa n10 (Aa n9 (Aa n10 Ab)))))))))))))))))))))))))))))
noncomputable def TG:=HF (AA Bth L0) (Aj Try.prog 69 0) YL A2i NO H5 F8 F7 Ji Q3
theorem Ao9:∀s b ps outs,TG s=some (b,ps,outs)→Wf s ⟨ps,outs,none⟩∧Br (AA C0 L0) b s ps outs:=
 Bh (T:=L7) A73 AG (u:=9) (by kernel_rfl) (by decide) (fun⟨a0,a1,a2,a3⟩=>Avw a0 a1 a2 a3) (fun⟨a0,a1,a2,a3⟩=>Avx a0 a1 a2 a3) Akw (fun _=>AU (n:=19) rfl) fun _ _=>rfl
noncomputable def YK:=Dz 0 TG L0
theorem Ao7:Hf YK:=A5 Ao9 AG
def YJ (a0:TRow):TVec:=(MH (a0.2,(↑a0.2.length:Int),(0:Int),TVec.mk (0:Int) (0:Int))).snd.snd.snd
def YM (a0:TRow):A:=.v (.agg ⟨[.int .i64 ((YJ a0).a),.int .i64 ((YJ a0).b)]⟩)
def Asu (_a0:TRow):Objs:=[]
def Aky (a0:TRow):List Prop:=[(AK F8 F7 Ji (H5 (a0.2,(↑a0.2.length:Int),(0:Int),TVec.mk (0:Int) (0:Int))) (a0.2,(↑a0.2.length:Int),(0:Int),TVec.mk (0:Int) (0:Int)))]
set_option maxRecDepth 100000 in
theorem Bb1 (a0:TRow):ER (AA Bth YK) 9 69 [Ak .row a0] 0 []=some (1,YM a0,0,Asu a0,[(Aj Try.prog (69:FuncId) (0:Nat)=Aj Try.prog (69:FuncId) (0:Nat)),(AK F8 F7 Ji (H5 (a0.2,(↑a0.2.length:Int),(0:Int),TVec.mk (0:Int) (0:Int))) (a0.2,(↑a0.2.length:Int),(0:Int),TVec.mk (0:Int) (0:Int)))]):=by kernel_rfl
set_option maxRecDepth 100000 in
theorem Bil (a0:TRow) (hp:∀p∈Aky a0,p):CallOk Try.prog 69 [Ak .row a0] 0 [] 1 (YM a0) 0 (Asu a0):=by
 have n1:=N0 hp
 exact AH (Ax A73 Ao7) (Bb1 a0) (Aa rfl (Aa n1 Ab))
def Akz (a0:TRow):A:=.v (.agg ⟨[.int .i64 (JQ a0.cells).a,.int .i64 (JQ a0.cells).b]⟩)
def Akx (_a0:TRow):Objs:=[]
def Aca (a0:TRow):List Prop:=[Av a0.cells.length]
theorem Akv (a:TRow) (hb:Av a.cells.length):(∀p∈Aky a,p)∧YJ a=JQ a.cells:=by
 unfold Av at hb
 obtain⟨h1,k,hk,hx,_,hst,_⟩:=IN (fun i=>((a.2,(a.2.length:Int),(i:Int),JQ (a.cells.take i)):CB)) a.cells.length (fun _=>false) F8 F7 Ji (H5 (a.2,(a.2.length:Int),0,⟨0,0⟩)) (a.2,(a.2.length:Int),0,⟨0,0⟩) rfl (by show a.cells.length≤((a.cells.length:Int) - 0).toNat;omega)
  (fun i _ _=>by
   show(!!decide ((i:Int) <(a.cells.length:Int)))=_
   rw[nn,Me,Bool.not_false,Bool.and_true])
  (fun i hi _=>by
   show(a.2,(a.2.length:Int),IntKind.i64.wrap ((i:Int)+1),Nr (JQ (a.cells.take i)) (Adg (a.cells.getD ((i:Int)).toNat (Ae TC.cell))))=(a.2,(a.2.length:Int),((i+1:Nat):Int),JQ (a.cells.take (i+1)))
   rw[EQ (by omega),Int.toNat_natCast,Aqd _ _ hi])
  (fun i _ _=>Aa (fun h=>⟨by show(0:Int)≤(i:Int);omega,by
   have h':(!!decide ((i:Int) <(a.cells.length:Int)))=true:=h
   rw[nn] at h';exact of_decide_eq_true h'⟩) Ab)
 refine⟨Aa h1 Ab,?_⟩
 have hkn:k=a.cells.length:=by
  rcases Nat.lt_or_ge k a.cells.length with h|h
  ·exact absurd (hst h) (by decide)
  ·omega
 have hr:MH (a.2,(a.2.length:Int),0,⟨0,0⟩)=(a.2,(a.2.length:Int),(k:Int),JQ (a.cells.take k)):=hx
 show(MH (a.2,(a.2.length:Int),0,⟨0,0⟩)).snd.snd.snd=_
 rw[hr,hkn,List.take_length]
theorem Bb0 (a0:TRow) (hp:∀p∈Aca a0,p):CallOk Try.prog 69 [Ak .row a0] 0 [] 1 (Akz a0) 0 (Akx a0):=by
 have hb:Av a0.cells.length:=hp _ (List.mem_cons_self ..)
 have h:=Bil a0 (Akv a0 hb).1
 unfold YM at h
 rw[(Akv a0 hb).2] at h
 exact h
def YN:List A→Nat→Objs→Option A9
 | [y0],nx,o=>match AQ .row y0 with
  |some (a0,p0)=>some (1,(Akz a0).pk (AC nx),nx+0,AB nx (Akx a0)++o,p0++(Aca a0))
  |_=>none
 |_,_,_=>none
theorem A5d:EV Try.prog 69 YN:=fun args nx o k x nx' o' ps h=>by
 unfold YN at h
 split at h<;>first|(cases h;done)|skip
 split at h<;>first|(cases h;done)|skip
 rename_i a0 p0 e0
 cases h
 refine⟨fun hp=>?_,_,rfl⟩
 have q0:=fun p hm=>hp p (List.mem_append.2 (.inl hm))
 have r0:=fun p hm=>hp p (List.mem_append.2 (.inr hm))
 refine Ah (Ag (Bb0 a0 r0) (Nat.le_refl _) (Ac (Af _ _) An) nx o) fun F N R vs hl=>?_
 obtain⟨v0,w0,rfl,h0,hl⟩:=hl.inv
 exact HL.cons (Am e0 q0 h0) (hl)
noncomputable def Bti:=A7 69 YN Bth
theorem A74:CU Try.prog Bti:=Aw A5d A73
abbrev Cy:Type:=(List TGroup)×Int×ByteArray×(List TCell)
def LX (x:Cy):St:=⟨22,4,[(0,.sl .group x.1),(5,.own 1 0),(6,.v (.int .i64 x.2.1))],[(1,some (.box 71 [.v (.string x.2.2.1),.sq 3])),(3,some (.arr 55 8 (.ty .cell x.2.2.2)))]⟩
def NI:St→Option Cy
 |⟨22,4,[(0,.sl .group z0),(5,.own 1 0),(6,.v (.int .i64 z1))],[(1,some (.box 71 [.v (.string z2),.sq 3])),(3,some (.arr 55 8 (.ty .cell z3)))]⟩=>some (z0,z1,z2,z3)
 |_=>none
theorem Ajy:∀s x,NI s=some x→s=LX x:=fun s x h=>by
 unfold NI at h
 split at h
 ·cases h;rfl
 ·cases h
def Ye:CX:=⟨3,4,[0,5,6],[],[(1,1),(5,3)],[1,5],[],[1,3]⟩
def A09:Dp:=⟨[.nilB 1 1 55 .cell],[(1,1),(2,3)],[0,5,6],[1,2]⟩
def LY (a0:List TGroup) (a1:Int) (_a2:ByteArray) (_a3:List TCell):Bool:=!!decide (a1 <(↑a0.length:Int))
def An1 (_a0:List TGroup) (_a1:Int) (_a2:ByteArray) (a3:List TCell):List TCell:=a3++[TCell.mk (TStamp.mk (0:Int) (0:Int)) (TVec.mk (0:Int) (0:Int)) false (ByteArray.mk #[]) (TVec.mk (0:Int) (0:Int))]
def F3 (x:Cy):Cy:=(x.1,IntKind.i64.wrap (x.2.1+(1:Int)),x.2.2.1,An1 x.1 x.2.1 x.2.2.1 x.2.2.2)
def FZ (x:Cy):Cnd:=some ((LY x.1 x.2.1 x.2.2.1 x.2.2.2))
def Tl (x:Cy):List Prop:=[((LY x.1 x.2.1 x.2.2.1 x.2.2.2)=true→Ai (x.2.2.2.length+(1:Nat)))]
def Jd (x:Cy):List Prop:=[((LY x.1 x.2.1 x.2.2.1 x.2.2.2)=true→Ai (x.2.2.2.length+(1:Nat)))]
def QP (x:Cy):Bo:=[(some 0,some (!decide (x.2.1 <(↑x.1.length:Int))),⟨22,4,[],[(1,some (.box 71 [.v (.string x.2.2.1),.sq 3])),(3,some (.arr 55 8 (.ty .cell x.2.2.2)))]⟩)]
def H3 (x:Cy):Nat:=((↑x.1.length:Int) - x.2.1).toNat
def IA (x:Cy):Cy:=Bc F3 FZ (H3 x) x
set_option maxRecDepth 100000 in
theorem Aus (a0:List TGroup) (a1:Int) (a2:ByteArray) (a3:List TCell):By (AA Bti L0) 9 (Aj Try.prog 130 0) Ye (LX (a0,a1,a2,a3))=some (Tl (a0,a1,a2,a3),QP (a0,a1,a2,a3),FZ (a0,a1,a2,a3),LX (F3 (a0,a1,a2,a3))):=by kernel_rfl
set_option maxRecDepth 100000 in
theorem Aut (a0:List TGroup) (a1:Int) (a2:ByteArray) (a3:List TCell) (hp:∀p∈Jd (a0,a1,a2,a3),p):∀p∈Tl (a0,a1,a2,a3),p:=by
 have n0:=N0 hp
 exact(Aa n0 Ab)
noncomputable def Tm:=HF (AA Bti L0) (Aj Try.prog 130 0) Ye A09 NI H3 F3 FZ Jd QP
theorem An2:∀s b ps outs,Tm s=some (b,ps,outs)→Wf s ⟨ps,outs,none⟩∧Br (AA C0 L0) b s ps outs:=
 Bh (T:=LX) A74 AG (u:=9) (by kernel_rfl) (by decide) (fun⟨a0,a1,a2,a3⟩=>Aus a0 a1 a2 a3) (fun⟨a0,a1,a2,a3⟩=>Aut a0 a1 a2 a3) Ajy (fun _=>AU (n:=22) rfl) fun _ _=>rfl
noncomputable def Yd:=Dz 0 Tm L0
theorem An0:Hf Yd:=A5 An2 AG
def Arr (a0:List TGroup) (a1:ByteArray):ByteArray:=(IA (a0,(0:Int),a1,[])).snd.snd.fst
def Ars (a0:List TGroup) (a1:ByteArray):List TCell:=(IA (a0,(0:Int),a1,[])).snd.snd.snd
def Yg (a0:List TGroup) (a1:ByteArray):A:=.agg [.v (.string (Arr a0 a1)),.sq 0]
def Yf (a0:List TGroup) (a1:ByteArray):Objs:=[(0,some (.arr 55 8 (.ty .cell (Ars a0 a1))))]
def Aj0 (a0:List TGroup) (a1:ByteArray):List Prop:=[(AK F3 FZ Jd (H3 (a0,(0:Int),a1,[])) (a0,(0:Int),a1,[]))]
set_option maxRecDepth 100000 in
theorem Bbb (a0:List TGroup) (a1:ByteArray):ER (AA Bti Yd) 9 130 [.sl .group a0,Ak .str a1] 0 []=some (1,Yg a0 a1,1,Yf a0 a1,[(Aj Try.prog (130:FuncId) (0:Nat)=Aj Try.prog (130:FuncId) (0:Nat)),(AK F3 FZ Jd (H3 (a0,(0:Int),a1,[])) (a0,(0:Int),a1,[]))]):=by kernel_rfl
set_option maxRecDepth 100000 in
theorem Bhl (a0:List TGroup) (a1:ByteArray) (hp:∀p∈Aj0 a0 a1,p):CallOk Try.prog 130 [.sl .group a0,Ak .str a1] 0 [] 1 (Yg a0 a1) 1 (Yf a0 a1):=by
 have n1:=N0 hp
 exact AH (Ax A74 An0) (Bbb a0 a1) (Aa rfl (Aa n1 Ab))
def Aj1 (_a0:List TGroup) (a1:ByteArray):A:=.agg [.v (.string a1),.sq 0]
def Ajz (a0:List TGroup) (_a1:ByteArray):Objs:=[(0,some (.arr 55 8 (.ty .cell (List.replicate a0.length zeroC))))]
def Abi (a0:List TGroup) (_a1:ByteArray):List Prop:=[Ai a0.length]
theorem Bba (l:List TGroup) (k:ByteArray) (hb:Ai l.length):(∀p∈Aj0 l k,p)∧Arr l k=k∧Ars l k=List.replicate l.length zeroC:=by
 unfold Ai at hb
 obtain⟨h1,n,hn,hx,_,hst,_⟩:=IN (fun i=>((l,(i:Int),k,List.replicate i zeroC):Cy)) l.length (fun _=>false) F3 FZ Jd (H3 (l,0,k,[])) (l,0,k,[]) rfl (by show l.length≤((l.length:Int) - 0).toNat;omega)
  (fun i _ _=>by
   show(!!decide ((i:Int) <(l.length:Int)))=_
   rw[nn,Me,Bool.not_false,Bool.and_true])
  (fun i hi _=>by
   show(l,IntKind.i64.wrap ((i:Int)+1),k,List.replicate i zeroC++[zeroC])=(l,((i+1:Nat):Int),k,List.replicate (i+1) zeroC)
   rw[EQ (by omega),List.replicate_succ'])
  (fun i hi _=>Aa (fun h=>by
   have h':(!!decide ((i:Int) <(l.length:Int)))=true:=h
   rw[nn] at h'
   have:=of_decide_eq_true h'
   show Ai ((List.replicate i zeroC).length+1)
   rw[List.length_replicate];unfold Ai;omega) Ab)
 have hkn:n=l.length:=by
  rcases Nat.lt_or_ge n l.length with h|h
  ·exact absurd (hst h) (by decide)
  ·omega
 have hr:IA (l,0,k,[])=(l,(n:Int),k,List.replicate n zeroC):=hx
 refine⟨Aa h1 Ab,?_,?_⟩
 ·show(IA (l,0,k,[])).snd.snd.fst=_
  rw[hr]
 ·show(IA (l,0,k,[])).snd.snd.snd=_
  rw[hr,hkn]
theorem Ba9 (a0:List TGroup) (a1:ByteArray) (hp:∀p∈Abi a0 a1,p):CallOk Try.prog 130 [.sl .group a0,Ak .str a1] 0 [] 1 (Aj1 a0 a1) 1 (Ajz a0 a1):=by
 have hb:Ai a0.length:=hp _ (List.mem_cons_self ..)
 obtain⟨e1,e2,e3⟩:=Bba a0 a1 hb
 have h:=Bhl a0 a1 e1
 unfold Yg Yf at h
 rw[e2,e3] at h
 exact h
def Yh:List A→Nat→Objs→Option A9
 | [y0,y1],nx,o=>match Jt .group y0,AQ .str y1 with
  |some a0,some (a1,p1)=>some (1,(Aj1 a0 a1).pk (AC nx),nx+1,AB nx (Ajz a0 a1)++o,p1++(Abi a0 a1))
  |_,_=>none
 |_,_,_=>none
theorem A4s:EV Try.prog 130 Yh:=fun args nx o k x nx' o' ps h=>by
 unfold Yh at h
 split at h<;>first|(cases h;done)|skip
 split at h<;>first|(cases h;done)|skip
 rename_i a0 a1 p1 e0 e1
 cases h
 refine⟨fun hp=>?_,_,rfl⟩
 have q1:=fun p hm=>hp p (List.mem_append.2 (.inl hm))
 have r1:=fun p hm=>hp p (List.mem_append.2 (.inr hm))
 refine Ah (Ag (Ba9 a0 a1 r1) (Nat.le_refl _) (Ac rfl (Ac (Af _ _) An)) nx o) fun F N R vs hl=>?_
 obtain⟨v0,w0,rfl,h0,hl⟩:=hl.inv
 obtain⟨v1,w1,rfl,h1,hl⟩:=hl.inv
 exact HL.cons (BL e0 h0) (HL.cons (Am e1 q1 h1) (hl))
noncomputable def B2p:=A7 130 Yh Bti
theorem Bny:CU Try.prog B2p:=Aw A4s A74
def J3 (_a0:List TGroup) (a1:ByteArray):Bool:=SE a1 !=(0:Int)
def J2 (a0:List TGroup) (_a1:ByteArray):Bool:=AX a0 !=(0:Int)
def Aob (a0:List TGroup) (a1:ByteArray):ByteArray:=bif(J2 a0 a1) then ByteArray.mk #[] else bif(J3 a0 a1) then ByteArray.mk #[] else a1
def Aoc (a0:List TGroup) (a1:ByteArray):Int:=bif(J2 a0 a1) then AX a0 else bif(J3 a0 a1) then SE a1 else(0:Int)
def Aod (a0:List TGroup) (a1:ByteArray):List TCell:=bif(J2 a0 a1) then[] else bif(J3 a0 a1) then[] else List.replicate a0.length zeroC
def Aof (a0:List TGroup) (a1:ByteArray):A:=.tup [.agg [.v (.string (Aob a0 a1)),.sq 0],.v (.int .i64 (Aoc a0 a1))]
def Aoe (a0:List TGroup) (a1:ByteArray):Objs:=[(0,some (.arr 55 8 (.ty .cell (Aod a0 a1))))]
def Bl0 (a0:List TGroup) (a1:ByteArray):List Prop:=[(∀(g:TGroup),g∈a0→Av g.1.size),((!(J2 a0 a1))=true→(!(J3 a0 a1))=true→Ai a0.length)]
set_option maxRecDepth 100000 in
theorem Blz (a0:List TGroup) (a1:ByteArray):ER (AA B2p L0) 9 63 [.sl .group a0,Ak .str a1] 0 []=some (1,Aof a0 a1,1,Aoe a0 a1,[(∀(g:TGroup),g∈a0→Av g.1.size),((!(J2 a0 a1))=true→(!(J3 a0 a1))=true→Ai a0.length)]):=by kernel_rfl
set_option maxRecDepth 100000 in
theorem Brk (a0:List TGroup) (a1:ByteArray) (hp:∀p∈Bl0 a0 a1,p):CallOk Try.prog 63 [.sl .group a0,Ak .str a1] 0 [] 1 (Aof a0 a1) 1 (Aoe a0 a1):=by
 have n0:=N0 hp
 have n1:=N0 (N1 hp)
 exact AH (Ax Bny AG) (Blz a0 a1) (Aa n0 (Aa n1 Ab))
def A1j (a0:List TGroup) (a1:ByteArray):A:=.tup [.agg [.v (.string (Ajf a0 a1).key),.sq 0],.v (.int .i64 (Wa a0 a1))]
def A1i (a0:List TGroup) (a1:ByteArray):Objs:=[(0,some (.arr 55 8 (.ty .cell (Ajf a0 a1).cells)))]
def Ar1 (a0:List TGroup) (_a1:ByteArray):List Prop:=[∀g∈a0,Av g.name.size]
theorem Bly (a0:List TGroup) (a1:ByteArray) (hp:∀p∈Ar1 a0 a1,p):CallOk Try.prog 63 [.sl .group a0,Ak .str a1] 0 [] 1 (A1j a0 a1) 1 (A1i a0 a1):=by
 have hb:∀g∈a0,Av g.name.size:=hp _ (List.mem_cons_self ..)
 have h:=Brk a0 a1 (Aa hb (Aa (fun h1 _=>by
  have h1':AX a0=0:=by
   have:(!(AX a0 !=0))=true:=h1
   simpa using this
  have:=(FP h1').2
  unfold Ai;omega) Ab))
 have e1:Aoc a0 a1=Wa a0 a1:=by
  unfold Aoc J2 J3 Wa
  cases AX a0 !=0 with
  |true=>rfl
  |false=>
   rw[cond_false,cond_false]
   cases hk:SE a1 !=0 with
   |true=>rfl
   |false=>rw[cond_false];exact(by simpa using hk:SE a1=0).symm
 have e0:Aob a0 a1=(Ajf a0 a1).key:=by
  unfold Aob J2 J3 Ajf Wa
  cases hg:AX a0 !=0 with
  |true=>simp only[cond_true,hg]
  |false=>rw[cond_false,cond_false]
 have e2:Aod a0 a1=(Ajf a0 a1).cells:=by
  unfold Aod J2 J3 Ajf Wa
  cases hg:AX a0 !=0 with
  |true=>simp only[cond_true,hg]
  |false=>rw[cond_false,cond_false]
 unfold Aof Aoe at h
 rw[e0,e1,e2] at h
 exact h
def Aog:List A→Nat→Objs→Option A9
 | [y0,y1],nx,o=>match Jt .group y0,AQ .str y1 with
  |some a0,some (a1,p1)=>some (1,(A1j a0 a1).pk (AC nx),nx+1,AB nx (A1i a0 a1)++o,p1++(Ar1 a0 a1))
  |_,_=>none
 |_,_,_=>none
theorem Bht:EV Try.prog 63 Aog:=fun args nx o k x nx' o' ps h=>by
 unfold Aog at h
 split at h<;>first|(cases h;done)|skip
 split at h<;>first|(cases h;done)|skip
 rename_i a0 a1 p1 e0 e1
 cases h
 refine⟨fun hp=>?_,_,rfl⟩
 have q1:=fun p hm=>hp p (List.mem_append.2 (.inl hm))
 have r1:=fun p hm=>hp p (List.mem_append.2 (.inr hm))
 refine Ah (Ag (Bly a0 a1 r1) (Nat.le_refl _) (Ac rfl (Ac (Af _ _) An)) nx o) fun F N R vs hl=>?_
 obtain⟨v0,w0,rfl,h0,hl⟩:=hl.inv
 obtain⟨v1,w1,rfl,h1,hl⟩:=hl.inv
 exact HL.cons (BL e0 h0) (HL.cons (Am e1 q1 h1) (hl))
noncomputable def B2q:=A7 63 Aog B2p
theorem Bnz:CU Try.prog B2q:=Aw Bht Bny
def PV (a0:List TGroup) (_a1:ByteArray):List TCell:=List.replicate (↑a0.length:Int).toNat (Ae TC.cell)
def PU (a0:List TGroup) (a1:ByteArray):Bool:=Ap a0 (TRow.mk a1 (PV a0 a1)) !=(0:Int)
def Apa (a0:List TGroup) (a1:ByteArray):ByteArray:=bif(PU a0 a1) then ByteArray.mk #[] else a1
def Apb (a0:List TGroup) (a1:ByteArray):Int:=bif(PU a0 a1) then Ap a0 (TRow.mk a1 (PV a0 a1)) else(0:Int)
def Apc (a0:List TGroup) (a1:ByteArray):List TCell:=bif(PU a0 a1) then[] else(PV a0 a1)
def Ape (a0:List TGroup) (a1:ByteArray):A:=.tup [.agg [.v (.string (Apa a0 a1)),.sq 0],.v (.int .i64 (Apb a0 a1))]
def Apd (a0:List TGroup) (a1:ByteArray):Objs:=[(0,some (.arr 55 8 (.ty .cell (Apc a0 a1))))]
def Bmi (a0:List TGroup) (_a1:ByteArray):List Prop:=[((0:Int)≤(↑a0.length:Int)∧(↑a0.length:Int)≤(↑a0.length:Int)∧(↑a0.length:Int)≤(549755813888:Int))]
set_option maxRecDepth 100000 in
theorem Bmh (a0:List TGroup) (a1:ByteArray):ER (AA B2q L0) 9 62 [.sl .group a0,Ak .str a1] 0 []=some (1,Ape a0 a1,1,Apd a0 a1,[((0:Int)≤(↑a0.length:Int)∧(↑a0.length:Int)≤(↑a0.length:Int)∧(↑a0.length:Int)≤(549755813888:Int))]):=by kernel_rfl
set_option maxRecDepth 100000 in
theorem Brp (a0:List TGroup) (a1:ByteArray) (hp:∀p∈Bmi a0 a1,p):CallOk Try.prog 62 [.sl .group a0,Ak .str a1] 0 [] 1 (Ape a0 a1) 1 (Apd a0 a1):=by
 have n0:=N0 hp
 exact AH (Ax Bnz AG) (Bmh a0 a1) (Aa n0 Ab)
def A2k (a0:List TGroup) (a1:ByteArray):A:=.tup [.agg [.v (.string (Ajf a0 a1).key),.sq 0],.v (.int .i64 (Wa a0 a1))]
def A2j (a0:List TGroup) (a1:ByteArray):Objs:=[(0,some (.arr 55 8 (.ty .cell (Ajf a0 a1).cells)))]
def Asv (a0:List TGroup) (_a1:ByteArray):List Prop:=[Ai a0.length]
theorem Ax2:∀(l:List TGroup) (seen:List ByteArray),Rp seen l=0→∀g∈l,Pm g.policy=true
 | [],_,_,g,hg=>by cases hg
 | x::r,seen,h,g,hg=>by
  unfold Rp at h
  cases h1:(IQ x.name&&Pm x.policy) with
  |false=>rw[h1] at h;cases h
  | true=>
   rw[h1] at h
   cases h2:seen.any (fun s=>s==x.name) with
   |true=>rw[h2] at h;cases h
   |false=>
    rw[h2] at h
    rcases List.mem_cons.1 hg with rfl|hg
    ·exact(Bool.and_eq_true_iff.1 h1).2
    ·exact Ax2 r _ h g hg
theorem Bqu {l:List TGroup} (h:AX l=0):∀g∈l,Pm g.policy=true:=by
 have h4:=FP h
 unfold AX at h
 rw[show(l.length==0)=false by simpa using(by omega:l.length≠0),decide_eq_false (show ¬4 <l.length by omega)] at h
 exact Ax2 l [] h
theorem Bkf {p:Int} (h:Pm p=true):BC p zeroC=true:=by
 unfold Pm at h
 rcases(by simpa using h:p=1∨p=2) with rfl|rfl<;>rfl
theorem Ql (l:List TGroup) (k:ByteArray):Ap l ⟨k,List.replicate l.length zeroC⟩=Wa l k:=by
 unfold Ap Wa SE
 cases h:AX l !=0 with
 |true=>rfl
 | false=>
  rw[cond_false,cond_false]
  cases k.size==0 with
  |true=>rfl
  | false=>
   rw[cond_false,cond_false]
   cases decide (32 <k.size) with
   |true=>rfl
   | false=>
    rw[cond_false,cond_false]
    have hl:((TRow.mk k (List.replicate l.length zeroC)).cells.length !=l.length)=false:=by simp
    rw[hl,cond_false]
    have ha:(l.zip (TRow.mk k (List.replicate l.length zeroC)).cells).all (fun x=>BC x.1.policy x.2)=true:=by
     rw[List.all_eq_true]
     rintro⟨g,c⟩ hx
     have h1:=List.of_mem_zip hx
     have h2:c=zeroC:=List.eq_of_mem_replicate h1.2
     subst h2
     exact Bkf (Bqu (by simpa using h) g h1.1)
    rw[ha]
    rfl
theorem Bmg (a0:List TGroup) (a1:ByteArray) (hp:∀p∈Asv a0 a1,p):CallOk Try.prog 62 [.sl .group a0,Ak .str a1] 0 [] 1 (A2k a0 a1) 1 (A2j a0 a1):=by
 have hb:Ai a0.length:=hp _ (List.mem_cons_self ..)
 unfold Ai at hb
 have h:=Brp a0 a1 (Aa ⟨by omega,Int.le_refl _,by omega⟩ Ab)
 have ek:PV a0 a1=List.replicate a0.length zeroC:=by unfold PV;rw[Int.toNat_natCast];rfl
 have k0:PU a0 a1=(Wa a0 a1 !=0):=by
  unfold PU
  rw[ek,Ql]
 have e1:Apb a0 a1=Wa a0 a1:=by
  unfold Apb
  rw[k0,ek,Ql]
  cases hk:Wa a0 a1 !=0 with
  |true=>rfl
  |false=>rw[cond_false];exact(by simpa using hk:Wa a0 a1=0).symm
 have e0:Apa a0 a1=(Ajf a0 a1).key:=by
  unfold Apa
  rw[k0]
  rfl
 have e2:Apc a0 a1=(Ajf a0 a1).cells:=by
  unfold Apc
  rw[k0,ek]
  rfl
 unfold Ape Apd at h
 rw[e0,e1,e2] at h
 exact h
def Apf:List A→Nat→Objs→Option A9
 | [y0,y1],nx,o=>match Jt .group y0,AQ .str y1 with
  |some a0,some (a1,p1)=>some (1,(A2k a0 a1).pk (AC nx),nx+1,AB nx (A2j a0 a1)++o,p1++(Asv a0 a1))
  |_,_=>none
 |_,_,_=>none
theorem Bim:EV Try.prog 62 Apf:=fun args nx o k x nx' o' ps h=>by
 unfold Apf at h
 split at h<;>first|(cases h;done)|skip
 split at h<;>first|(cases h;done)|skip
 rename_i a0 a1 p1 e0 e1
 cases h
 refine⟨fun hp=>?_,_,rfl⟩
 have q1:=fun p hm=>hp p (List.mem_append.2 (.inl hm))
 have r1:=fun p hm=>hp p (List.mem_append.2 (.inr hm))
 refine Ah (Ag (Bmg a0 a1 r1) (Nat.le_refl _) (Ac rfl (Ac (Af _ _) An)) nx o) fun F N R vs hl=>?_
 obtain⟨v0,w0,rfl,h0,hl⟩:=hl.inv
 obtain⟨v1,w1,rfl,h1,hl⟩:=hl.inv
 exact HL.cons (BL e0 h0) (HL.cons (Am e1 q1 h1) (hl))
noncomputable def B1c:=A7 62 Apf B2q
theorem Btf:CU Try.prog B1c:=Aw Bim Bnz
noncomputable def Ck:=B1c
theorem B1d:CU Try.prog Ck:=Btf
end Go.Proofs.Yteebobbhhgmeiaa
namespace Go.Proofs.Yteebobbhhgmeiaa
open Go.RowKit
def Be4 (a b:TVec):Bool:=decide (b.a≤a.a)&&decide (b.b≤a.b)
def TI (p:Int) (c:TCell):Bool:=BC p c&&CD c&&!c.gone&&Be4 c.vec c.dead
def Bix (p:Int) (c:TCell):ByteArray:=bif TI p c then c.value else⟨#[]⟩
def CC (l:List TGroup) (cs:List TCell):Nat→List TField
 |0=>[]
 |i+1=>bif TI (l.getD i (Ae TC.group)).policy (cs.getD i (Ae TC.cell)) then CC l cs i++[⟨(i:Int),Bix (l.getD i (Ae TC.group)).policy (cs.getD i (Ae TC.cell))⟩] else CC l cs i
def KN (l:List TGroup) (r:TRow):Bool:=Ap l r==0&&!((CC l r.cells l.length).length==0)
def Alg (l:List TGroup) (r:TRow):ByteArray:=bif KN l r then r.key else⟨#[]⟩
def Alf (l:List TGroup) (r:TRow):List TField:=bif KN l r then CC l r.cells l.length else[]
def Axr:List TField→List TField→Bool
 | [],[]=>true
 |x::xs,y::ys=>x.group==y.group&&x.value==y.value&&Axr xs ys
 |_,_=>false
def B3g (a b:TView):Bool:=a.key==b.key&&Axr a.fields b.fields
def QO (a0:Int) (a1:TCell):Bool:=!Pz a0 a1||!KI a1||a1.3||!Ur a1.2 a1.5
def PA (a0:Int) (a1:TCell):ByteArray:=bif(QO a0 a1) then ByteArray.mk #[] else a1.4
def I6 (a0:Int) (a1:TCell):Bool:=bif(QO a0 a1) then false else true
def Aeq (a0:Int) (a1:TCell):A:=.v (.tuple ⟨[.string (PA a0 a1),.bool (I6 a0 a1)]⟩)
def Aep (_a0:Int) (_a1:TCell):Objs:=[]
def Arg (_a0:Int) (_a1:TCell):List Prop:=[]
set_option maxRecDepth 100000 in
theorem Bhd (a0:Int) (a1:TCell):ER (AA Ck L0) 9 41 [Ak .i64 a0,Ak .cell a1] 0 []=some (1,Aeq a0 a1,0,Aep a0 a1,[]):=by kernel_rfl
set_option maxRecDepth 100000 in
theorem Blh (a0:Int) (a1:TCell) (_hp:∀p∈Arg a0 a1,p):CallOk Try.prog 41 [Ak .i64 a0,Ak .cell a1] 0 [] 1 (Aeq a0 a1) 0 (Aep a0 a1):=by
 exact AH (Ax B1d AG) (Bhd a0 a1) Ab
def Aer:List A→Nat→Objs→Option A9
 | [y0,y1],nx,o=>match AQ .i64 y0,AQ .cell y1 with
  |some (a0,p0),some (a1,p1)=>some (1,(Aeq a0 a1).pk (AC nx),nx+0,AB nx (Aep a0 a1)++o,p0++(p1++(Arg a0 a1)))
  |_,_=>none
 |_,_,_=>none
theorem Ba3:EV Try.prog 41 Aer:=fun args nx o k x nx' o' ps h=>by
 unfold Aer at h
 split at h<;>first|(cases h;done)|skip
 split at h<;>first|(cases h;done)|skip
 rename_i a0 p0 a1 p1 e0 e1
 cases h
 refine⟨fun hp=>?_,_,rfl⟩
 have q0:=fun p hm=>hp p (List.mem_append.2 (.inl hm))
 have r0:=fun p hm=>hp p (List.mem_append.2 (.inr hm))
 have q1:=fun p hm=>r0 p (List.mem_append.2 (.inl hm))
 have r1:=fun p hm=>r0 p (List.mem_append.2 (.inr hm))
 refine Ah (Ag (Blh a0 a1 r1) (Nat.le_refl _) (Ac (Af _ _) (Ac (Af _ _) An)) nx o) fun F N R vs hl=>?_
 obtain⟨v0,w0,rfl,h0,hl⟩:=hl.inv
 obtain⟨v1,w1,rfl,h1,hl⟩:=hl.inv
 exact HL.cons (Am e0 q0 h0) (HL.cons (Am e1 q1 h1) (hl))
noncomputable def Btj:=A7 41 Aer Ck
theorem A75:CU Try.prog Btj:=Aw Ba3 B1d
theorem Bhc (p:Int) (c:TCell):PA p c=Bix p c∧I6 p c=TI p c:=by
 have hk:QO p c=!TI p c:=by
  unfold QO TI Be4 Ur
  rw[Arc,X9]
  show(!BC p c||!CD c||c.gone||!(decide (c.vec.a≥c.dead.a)&&decide (c.vec.b≥c.dead.b)))=_
  cases BC p c<;>cases CD c<;>cases c.gone<;>rfl
 unfold PA I6 Bix
 rw[hk]
 cases TI p c<;>exact⟨rfl,rfl⟩
theorem Ag5 (p:Int) (c:TCell):M8 p c=Bix p c∧GH p c=TI p c:=by
 have hm:∀x y:Int,(min x y==y)=decide (y≤x):=fun x y=>by
  rw[Bool.eq_iff_iff,beq_iff_eq,decide_eq_true_eq];omega
 have hk:N5 p c=!TI p c:=by
  unfold N5 TI Be4 Kw
  rw[IZ,KO]
  have h1:((Kc c.2 c.5).1==c.5.1)=decide (c.dead.a≤c.vec.a):=hm _ _
  have h2:((Kc c.2 c.5).2==c.5.2)=decide (c.dead.b≤c.vec.b):=hm _ _
  rw[h1,h2]
  show(!BC p c||!CD c||c.gone||!(decide (c.dead.a≤c.vec.a)&&decide (c.dead.b≤c.vec.b)))=_
  cases BC p c<;>cases CD c<;>cases c.gone<;>rfl
 unfold M8 GH Bix
 rw[hk]
 cases TI p c<;>exact⟨rfl,rfl⟩
theorem AT {l:List TGroup} {r:TRow} (h:Ap l r=0):AX l=0∧r.cells.length=l.length∧r.key.size≠0∧r.key.size≤32∧(l.zip r.cells).all (fun x=>BC x.1.policy x.2)=true:=by
 unfold Ap at h
 cases h1:AX l !=0 with
 |true=>rw[h1,cond_true] at h;rw[h] at h1;cases h1
 | false=>
  rw[h1,cond_false] at h
  cases h2:r.key.size==0 with
  |true=>rw[h2] at h;cases h
  | false=>
   rw[h2,cond_false] at h
   cases h3:decide (32 <r.key.size) with
   |true=>rw[h3] at h;cases h
   | false=>
    rw[h3,cond_false] at h
    cases h4:r.cells.length !=l.length with
    |true=>rw[h4] at h;cases h
    | false=>
     rw[h4,cond_false] at h
     cases h5:(l.zip r.cells).all (fun x=>BC x.1.policy x.2) with
     |false=>rw[h5] at h;cases h
     |true=>
      have:=of_decide_eq_false h3
      exact⟨by simpa using h1,by simpa using h4,by simpa using h2,by omega,rfl⟩
theorem WD (l:List TGroup) (cs:List TCell):∀i,(CC l cs i).length≤i
 |0=>Nat.le_refl _
 |i+1=>by
  have:=WD l cs i
  unfold CC
  cases TI (l.getD i (Ae TC.group)).policy (cs.getD i (Ae TC.cell)) with
  |true=>rw[cond_true,List.length_append];simp;omega
  |false=>rw[cond_false];omega
abbrev De:Type:=(List TGroup)×Int×TRow×ByteArray×(List TField)
def MX (x:De):St:=⟨53,5,[(0,.sl .group x.1),(3,.own 0 0),(6,.own 2 0),(7,.v (.int .i64 x.2.1))],[(0,some (.box 71 [.v (.string x.2.2.1.key),.sl .cell x.2.2.1.cells])),(2,some (.box 94 [.v (.string x.2.2.2.1),.sq 4])),(4,some (.arr 142 2 (.ty .field x.2.2.2.2)))]⟩
def PI:St→Option De
 |⟨53,5,[(0,.sl .group z0),(3,.own 0 0),(6,.own 2 0),(7,.v (.int .i64 z1))],[(0,some (.box 71 [.v (.string z2),.sl .cell z3])),(2,some (.box 94 [.v (.string z4),.sq 4])),(4,some (.arr 142 2 (.ty .field z5)))]⟩=>some (z0,z1,⟨z2,z3⟩,z4,z5)
 |_=>none
theorem Aoj:∀s x,PI s=some x→s=MX x:=fun s x h=>by
 unfold PI at h
 split at h
 ·cases h;rfl
 ·cases h
def Abr:CX:=⟨4,5,[0,3,6,7],[],[(0,0),(2,2),(7,4)],[0,2,7],[],[0,2,4]⟩
def A4x:Dp:=⟨[.nilB 2 1 142 .field],[(0,0),(2,2),(3,4)],[0,3,6,7],[0,2,3]⟩
def Fk (a0:List TGroup) (a1:Int) (_a2:TRow) (_a3:ByteArray) (_a4:List TField):Bool:=!!decide (a1 <(↑a0.length:Int))
def Au9 (a0:List TGroup) (a1:Int) (a2:TRow) (a3:ByteArray) (_a4:List TField):ByteArray:=bif I6 (a0.getD a1.toNat (Ae TC.group)).2 (a2.2.getD a1.toNat (Ae TC.cell)) then a3 else a3
def Ava (a0:List TGroup) (a1:Int) (a2:TRow) (_a3:ByteArray) (a4:List TField):List TField:=bif I6 (a0.getD a1.toNat (Ae TC.group)).2 (a2.2.getD a1.toNat (Ae TC.cell)) then a4++[TField.mk a1 (PA (a0.getD a1.toNat (Ae TC.group)).2 (a2.2.getD a1.toNat (Ae TC.cell)))] else a4
def Fm (x:De):De:=(x.1,IntKind.i64.wrap (x.2.1+(1:Int)),x.2.2.1,Au9 x.1 x.2.1 x.2.2.1 x.2.2.2.1 x.2.2.2.2,Ava x.1 x.2.1 x.2.2.1 x.2.2.2.1 x.2.2.2.2)
def Fl (x:De):Cnd:=some ((Fk x.1 x.2.1 x.2.2.1 x.2.2.2.1 x.2.2.2.2))
def VI (x:De):List Prop:=[((Fk x.1 x.2.1 x.2.2.1 x.2.2.2.1 x.2.2.2.2)=true→(0:Int)≤x.2.1∧x.2.1 <(↑x.1.length:Int)),((Fk x.1 x.2.1 x.2.2.1 x.2.2.2.1 x.2.2.2.2)=true→(0:Int)≤x.2.1∧x.2.1 <(↑x.2.2.1.2.length:Int)),((Fk x.1 x.2.1 x.2.2.1 x.2.2.2.1 x.2.2.2.2)=true→I6 (x.1.getD x.2.1.toNat (Ae TC.group)).2 (x.2.2.1.2.getD x.2.1.toNat (Ae TC.cell))=true→Ai (x.2.2.2.2.length+(1:Nat)))]
def IE (x:De):List Prop:=[((Fk x.1 x.2.1 x.2.2.1 x.2.2.2.1 x.2.2.2.2)=true→(0:Int)≤x.2.1∧x.2.1 <(↑x.1.length:Int)),((Fk x.1 x.2.1 x.2.2.1 x.2.2.2.1 x.2.2.2.2)=true→(0:Int)≤x.2.1∧x.2.1 <(↑x.2.2.1.2.length:Int)),((Fk x.1 x.2.1 x.2.2.1 x.2.2.2.1 x.2.2.2.2)=true→I6 (x.1.getD x.2.1.toNat (Ae TC.group)).2 (x.2.2.1.2.getD x.2.1.toNat (Ae TC.cell))=true→Ai (x.2.2.2.2.length+(1:Nat)))]
def Tt (x:De):Bo:=[(some 0,some (!decide (x.2.1 <(↑x.1.length:Int))),⟨53,5,[],[(0,some (.box 71 [.v (.string x.2.2.1.1),.sl .cell x.2.2.1.2])),(2,some (.box 94 [.v (.string x.2.2.2.1),.sq 4])),(4,some (.arr 142 2 (.ty .field x.2.2.2.2)))]⟩)]
def G3 (x:De):Nat:=((↑x.1.length:Int) - x.2.1).toNat
def KS (x:De):De:=Bc Fm Fl (G3 x) x
set_option maxRecDepth 100000 in
theorem A1o (a0:List TGroup) (a1:Int) (a2:TRow) (a3:ByteArray) (a4:List TField):By (AA Btj L0) 9 (Aj Try.prog 64 0) Abr (MX (a0,a1,a2,a3,a4))=some (VI (a0,a1,a2,a3,a4),Tt (a0,a1,a2,a3,a4),Fl (a0,a1,a2,a3,a4),MX (Fm (a0,a1,a2,a3,a4))):=by kernel_rfl
set_option maxRecDepth 100000 in
theorem A1p (a0:List TGroup) (a1:Int) (a2:TRow) (a3:ByteArray) (a4:List TField) (hp:∀p∈IE (a0,a1,a2,a3,a4),p):∀p∈VI (a0,a1,a2,a3,a4),p:=by
 have n0:=N0 hp
 have n1:=N0 (N1 hp)
 have n2:=N0 (N1 (N1 hp))
 exact(Aa n0 (Aa n1 (Aa n2 Ab)))
noncomputable def VJ:=HF (AA Btj L0) (Aj Try.prog 64 0) Abr A4x PI G3 Fm Fl IE Tt
theorem Avb:∀s b ps outs,VJ s=some (b,ps,outs)→Wf s ⟨ps,outs,none⟩∧Br (AA C0 L0) b s ps outs:=
 Bh (T:=MX) A75 AG (u:=9) (by kernel_rfl) (by decide) (fun⟨a0,a1,a2,a3,a4⟩=>A1o a0 a1 a2 a3 a4) (fun⟨a0,a1,a2,a3,a4⟩=>A1p a0 a1 a2 a3 a4) Aoj (fun _=>AU (n:=53) rfl) fun _ _=>rfl
noncomputable def Abq:=Dz 0 VJ L0
theorem Au8:Hf Abq:=A5 Avb AG
def IV (a0:List TGroup) (a1:TRow):Bool:=Ap a0 a1 !=(0:Int)
def QT (a0:List TGroup) (a1:TRow):Bool:=(↑(KS (a0,(0:Int),a1,a1.1,[])).snd.snd.snd.snd.length:Int)==(0:Int)
def Afi (a0:List TGroup) (a1:TRow):ByteArray:=bif(IV a0 a1) then ByteArray.mk #[] else bif(QT a0 a1) then ByteArray.mk #[] else(KS (a0,(0:Int),a1,a1.1,[])).snd.snd.snd.fst
def Afj (a0:List TGroup) (a1:TRow):Bool:=bif(IV a0 a1) then false else bif(QT a0 a1) then false else true
def Afk (a0:List TGroup) (a1:TRow):List TField:=bif(IV a0 a1) then[] else bif(QT a0 a1) then[] else(KS (a0,(0:Int),a1,a1.1,[])).snd.snd.snd.snd
def Afm (a0:List TGroup) (a1:TRow):A:=.tup [.agg [.v (.string (Afi a0 a1)),.sq 0],.v (.bool (Afj a0 a1))]
def Afl (a0:List TGroup) (a1:TRow):Objs:=[(0,some (.arr 142 2 (.ty .field (Afk a0 a1))))]
def Bhy (a0:List TGroup) (a1:TRow):List Prop:=[(∀(g:TGroup),g∈a0→Av g.1.size),((!(IV a0 a1))=true→AK Fm Fl IE (G3 (a0,(0:Int),a1,a1.1,[])) (a0,(0:Int),a1,a1.1,[]))]
set_option maxRecDepth 100000 in
theorem Bhx (a0:List TGroup) (a1:TRow):ER (AA Btj Abq) 9 64 [.sl .group a0,Ak .row a1] 0 []=some (1,Afm a0 a1,1,Afl a0 a1,[(∀(g:TGroup),g∈a0→Av g.1.size),((!(IV a0 a1))=true→Aj Try.prog (64:FuncId) (0:Nat)=Aj Try.prog (64:FuncId) (0:Nat)),((!(IV a0 a1))=true→AK Fm Fl IE (G3 (a0,(0:Int),a1,a1.1,[])) (a0,(0:Int),a1,a1.1,[]))]):=by kernel_rfl
set_option maxRecDepth 100000 in
theorem Bl2 (a0:List TGroup) (a1:TRow) (hp:∀p∈Bhy a0 a1,p):CallOk Try.prog 64 [.sl .group a0,Ak .row a1] 0 [] 1 (Afm a0 a1) 1 (Afl a0 a1):=by
 have n0:=N0 hp
 have n1:((!(IV a0 a1))=true→Aj Try.prog (64:FuncId) (0:Nat)=Aj Try.prog (64:FuncId) (0:Nat)):=by intros;rfl
 have n2:=N0 (N1 hp)
 exact AH (Ax A75 Au8) (Bhx a0 a1) (Aa n0 (Aa n1 (Aa n2 Ab)))
def Ar7 (a0:List TGroup) (a1:TRow):A:=.tup [.agg [.v (.string (Alg a0 a1)),.sq 0],.v (.bool (KN a0 a1))]
def Ar6 (a0:List TGroup) (a1:TRow):Objs:=[(0,some (.arr 142 2 (.ty .field (Alf a0 a1))))]
def Akb (a0:List TGroup) (_a1:TRow):List Prop:=[∀g∈a0,Av g.name.size]
theorem Abs (l:List TGroup) (r:TRow) (h0:Ap l r=0):
  AK Fm Fl IE (G3 (l,0,r,r.1,[])) (l,0,r,r.1,[])∧KS (l,0,r,r.1,[])=(l,(l.length:Int),r,r.1,CC l r.cells l.length):=by
 obtain⟨hp,hlen,_⟩:=AT h0
 have hl4:=(FP hp).2
 obtain⟨h1,k,hk,hx,_,hst,_⟩:=IN (fun i=>((l,(i:Int),r,r.1,CC l r.cells i):De)) l.length (fun _=>false) Fm Fl IE (G3 (l,0,r,r.1,[])) (l,0,r,r.1,[]) rfl (by show l.length≤((l.length:Int) - 0).toNat;omega)
  (fun i _ _=>by
   show(!!decide ((i:Int) <(l.length:Int)))=_
   rw[nn,Me,Bool.not_false,Bool.and_true])
  (fun i hi _=>by
   have hs:=Bhc (l.getD i (Ae TC.group)).2 (r.2.getD i (Ae TC.cell))
   show(l,IntKind.i64.wrap ((i:Int)+1),r,(bif I6 (l.getD ((i:Int)).toNat (Ae TC.group)).2 (r.2.getD ((i:Int)).toNat (Ae TC.cell)) then r.1 else r.1),(bif I6 (l.getD ((i:Int)).toNat (Ae TC.group)).2 (r.2.getD ((i:Int)).toNat (Ae TC.cell)) then CC l r.cells i++[TField.mk (i:Int) (PA (l.getD ((i:Int)).toNat (Ae TC.group)).2 (r.2.getD ((i:Int)).toNat (Ae TC.cell)))] else CC l r.cells i))=(l,((i+1:Nat):Int),r,r.1,CC l r.cells (i+1))
   rw[EQ (by omega),Int.toNat_natCast,hs.1,hs.2]
   have:∀b:Bool,(bif b then r.1 else r.1)=r.1:=fun b=>by cases b<;>rfl
   rw[this]
   rfl)
  (fun i hi _=>by
   have hin:(!!decide ((i:Int) <(l.length:Int)))=true→(i:Int) <(l.length:Int):=fun h=>by rw[nn] at h;exact of_decide_eq_true h
   exact Aa (fun h=>⟨by show(0:Int)≤(i:Int);omega,hin h⟩) (Aa (fun h=>⟨by show(0:Int)≤(i:Int);omega,by have:=hin h;show(i:Int) <(r.cells.length:Int);omega⟩) (Aa (fun _ _=>by
    have:=WD l r.cells i
    show Ai ((CC l r.cells i).length+1)
    unfold Ai;omega) Ab)))
 have hkn:k=l.length:=by
  rcases Nat.lt_or_ge k l.length with h|h
  ·exact absurd (hst h) (by decide)
  ·omega
 subst hkn
 exact⟨h1,hx⟩
theorem Bhw (a0:List TGroup) (a1:TRow) (hp:∀p∈Akb a0 a1,p):CallOk Try.prog 64 [.sl .group a0,Ak .row a1] 0 [] 1 (Ar7 a0 a1) 1 (Ar6 a0 a1):=by
 have hb:∀g∈a0,Av g.name.size:=hp _ (List.mem_cons_self ..)
 have hz:(!(Ap a0 a1 !=0))=true→Ap a0 a1=0:=fun h=>by simpa using h
 have h:=Bl2 a0 a1 (Aa hb (Aa (fun h1=>(Abs a0 a1 (hz h1)).1) Ab))
 have hk1:IV a0 a1=(Ap a0 a1 !=0):=rfl
 have e:Afi a0 a1=Alg a0 a1∧Afj a0 a1=KN a0 a1∧Afk a0 a1=Alf a0 a1:=by
  unfold Afi Afj Afk Alg Alf
  have hv:KN a0 a1=(Ap a0 a1==0&&!((CC a0 a1.cells a0.length).length==0)):=rfl
  cases hg:Ap a0 a1 !=0 with
  | true=>
   rw[hk1,hg]
   have:KN a0 a1=false:=by
    rw[hv,show(Ap a0 a1==0)=false by simpa using hg]
    rfl
   rw[this]
   exact⟨rfl,rfl,rfl⟩
  |false=>
   have h0:Ap a0 a1=0:=by simpa using hg
   unfold QT
   rw[hk1,hg,(Abs a0 a1 h0).2]
   have:KN a0 a1=!((CC a0 a1.cells a0.length).length==0):=by rw[hv,h0];rfl
   rw[this]
   show(bif((CC a0 a1.cells a0.length).length:Int)==0 then _ else _)=_∧(bif((CC a0 a1.cells a0.length).length:Int)==0 then _ else _)=_∧(bif((CC a0 a1.cells a0.length).length:Int)==0 then _ else _)=_
   rw[Aw2]
   cases(CC a0 a1.cells a0.length).length==0<;>exact⟨rfl,rfl,rfl⟩
 unfold Afm Afl at h
 rw[e.1,e.2.1,e.2.2] at h
 exact h
def Afn:List A→Nat→Objs→Option A9
 | [y0,y1],nx,o=>match Jt .group y0,AQ .row y1 with
  |some a0,some (a1,p1)=>some (1,(Ar7 a0 a1).pk (AC nx),nx+1,AB nx (Ar6 a0 a1)++o,p1++(Akb a0 a1))
  |_,_=>none
 |_,_,_=>none
theorem Bbh:EV Try.prog 64 Afn:=fun args nx o k x nx' o' ps h=>by
 unfold Afn at h
 split at h<;>first|(cases h;done)|skip
 split at h<;>first|(cases h;done)|skip
 rename_i a0 a1 p1 e0 e1
 cases h
 refine⟨fun hp=>?_,_,rfl⟩
 have q1:=fun p hm=>hp p (List.mem_append.2 (.inl hm))
 have r1:=fun p hm=>hp p (List.mem_append.2 (.inr hm))
 refine Ah (Ag (Bhw a0 a1 r1) (Nat.le_refl _) (Ac rfl (Ac (Af _ _) An)) nx o) fun F N R vs hl=>?_
 obtain⟨v0,w0,rfl,h0,hl⟩:=hl.inv
 obtain⟨v1,w1,rfl,h1,hl⟩:=hl.inv
 exact HL.cons (BL e0 h0) (HL.cons (Am e1 q1 h1) (hl))
noncomputable def Btk:=A7 64 Afn Btj
theorem A76:CU Try.prog Btk:=Aw Bbh A75
abbrev Di:Type:=(List TGroup)×Int×Int×TRow×ByteArray×(List TField)
def M3 (x:Di):St:=⟨53,5,[(3,.own 0 0),(6,.own 2 0),(19,.sl .group x.1),(20,.v (.int .i64 x.2.1)),(21,.v (.int .i64 x.2.2.1))],[(0,some (.box 71 [.v (.string x.2.2.2.1.key),.sl .cell x.2.2.2.1.cells])),(2,some (.box 94 [.v (.string x.2.2.2.2.1),.sq 4])),(4,some (.arr 142 2 (.ty .field x.2.2.2.2.2)))]⟩
def PW:St→Option Di
 |⟨53,5,[(3,.own 0 0),(6,.own 2 0),(19,.sl .group z0),(20,.v (.int .i64 z1)),(21,.v (.int .i64 z2))],[(0,some (.box 71 [.v (.string z3),.sl .cell z4])),(2,some (.box 94 [.v (.string z5),.sq 4])),(4,some (.arr 142 2 (.ty .field z6)))]⟩=>some (z0,z1,z2,⟨z3,z4⟩,z5,z6)
 |_=>none
theorem Aph:∀s x,PW s=some x→s=M3 x:=fun s x h=>by
 unfold PW at h
 split at h
 ·cases h;rfl
 ·cases h
def Acc:CX:=⟨4,5,[3,6,19,20,21],[],[(0,0),(2,2),(8,4)],[0,2,8],[],[0,2,4]⟩
def A5e:Dp:=⟨[.nilB 2 1 142 .field],[(0,0),(2,2),(3,4)],[3,6,19,20,21],[0,2,3]⟩
def Avz (a0:List TGroup) (_a1:Int) (a2:Int) (a3:TRow) (a4:ByteArray) (_a5:List TField):ByteArray:=bif GH (a0.getD a2.toNat (Ae TC.group)).2 (a3.2.getD a2.toNat (Ae TC.cell)) then a4 else a4
def Av0 (a0:List TGroup) (_a1:Int) (a2:Int) (a3:TRow) (_a4:ByteArray) (a5:List TField):List TField:=bif GH (a0.getD a2.toNat (Ae TC.group)).2 (a3.2.getD a2.toNat (Ae TC.cell)) then a5++[TField.mk a2 (M8 (a0.getD a2.toNat (Ae TC.group)).2 (a3.2.getD a2.toNat (Ae TC.cell)))] else a5
def Fx (x:Di):Di:=(x.1,x.2.1,IntKind.i64.wrap (x.2.2.1+(1:Int)),x.2.2.2.1,Avz x.1 x.2.1 x.2.2.1 x.2.2.2.1 x.2.2.2.2.1 x.2.2.2.2.2,Av0 x.1 x.2.1 x.2.2.1 x.2.2.2.1 x.2.2.2.2.1 x.2.2.2.2.2)
def Fw (x:Di):Cnd:=some (!!decide (x.2.2.1 <x.2.1))
def VZ (x:Di):List Prop:=[((!!decide (x.2.2.1 <x.2.1))=true→(0:Int)≤x.2.2.1∧x.2.2.1 <(↑x.1.length:Int)),((!!decide (x.2.2.1 <x.2.1))=true→(0:Int)≤x.2.2.1∧x.2.2.1 <(↑x.2.2.2.1.2.length:Int)),((!!decide (x.2.2.1 <x.2.1))=true→GH (x.1.getD x.2.2.1.toNat (Ae TC.group)).2 (x.2.2.2.1.2.getD x.2.2.1.toNat (Ae TC.cell))=true→Ai (x.2.2.2.2.2.length+(1:Nat)))]
def IM (x:Di):List Prop:=[((!!decide (x.2.2.1 <x.2.1))=true→(0:Int)≤x.2.2.1∧x.2.2.1 <(↑x.1.length:Int)),((!!decide (x.2.2.1 <x.2.1))=true→(0:Int)≤x.2.2.1∧x.2.2.1 <(↑x.2.2.2.1.2.length:Int)),((!!decide (x.2.2.1 <x.2.1))=true→GH (x.1.getD x.2.2.1.toNat (Ae TC.group)).2 (x.2.2.2.1.2.getD x.2.2.1.toNat (Ae TC.cell))=true→Ai (x.2.2.2.2.2.length+(1:Nat)))]
def TH (x:Di):Bo:=[(some 0,some (!decide (x.2.2.1 <x.2.1)),⟨53,5,[],[(0,some (.box 71 [.v (.string x.2.2.2.1.1),.sl .cell x.2.2.2.1.2])),(2,some (.box 94 [.v (.string x.2.2.2.2.1),.sq 4])),(4,some (.arr 142 2 (.ty .field x.2.2.2.2.2)))]⟩)]
def He (x:Di):Nat:=(x.2.1 - x.2.2.1).toNat
def KY (x:Di):Di:=Bc Fx Fw (He x) x
set_option maxRecDepth 100000 in
theorem A2m (a0:List TGroup) (a1:Int) (a2:Int) (a3:TRow) (a4:ByteArray) (a5:List TField):By (AA Btk L0) 9 (Aj Try.prog 58 0) Acc (M3 (a0,a1,a2,a3,a4,a5))=some (VZ (a0,a1,a2,a3,a4,a5),TH (a0,a1,a2,a3,a4,a5),Fw (a0,a1,a2,a3,a4,a5),M3 (Fx (a0,a1,a2,a3,a4,a5))):=by kernel_rfl
set_option maxRecDepth 100000 in
theorem A2n (a0:List TGroup) (a1:Int) (a2:Int) (a3:TRow) (a4:ByteArray) (a5:List TField) (hp:∀p∈IM (a0,a1,a2,a3,a4,a5),p):∀p∈VZ (a0,a1,a2,a3,a4,a5),p:=by
 have n0:=N0 hp
 have n1:=N0 (N1 hp)
 have n2:=N0 (N1 (N1 hp))
 exact(Aa n0 (Aa n1 (Aa n2 Ab)))
noncomputable def V0:=HF (AA Btk L0) (Aj Try.prog 58 0) Acc A5e PW He Fx Fw IM TH
theorem Av1:∀s b ps outs,V0 s=some (b,ps,outs)→Wf s ⟨ps,outs,none⟩∧Br (AA C0 L0) b s ps outs:=
 Bh (T:=M3) A76 AG (u:=9) (by kernel_rfl) (by decide) (fun⟨a0,a1,a2,a3,a4,a5⟩=>A2m a0 a1 a2 a3 a4 a5) (fun⟨a0,a1,a2,a3,a4,a5⟩=>A2n a0 a1 a2 a3 a4 a5) Aph (fun _=>AU (n:=53) rfl) fun _ _=>rfl
noncomputable def Acb:=Dz 0 V0 L0
theorem Avy:Hf Acb:=A5 Av1 AG
def IY (a0:List TGroup) (a1:TRow):Bool:=Ap a0 a1 !=(0:Int)
def Q4 (a0:List TGroup) (a1:TRow):Bool:=(↑(KY (a0,(↑a0.length:Int),(0:Int),a1,a1.1,[])).snd.snd.snd.snd.snd.length:Int)==(0:Int)
def Agc (a0:List TGroup) (a1:TRow):ByteArray:=bif(IY a0 a1) then ByteArray.mk #[] else bif(Q4 a0 a1) then ByteArray.mk #[] else(KY (a0,(↑a0.length:Int),(0:Int),a1,a1.1,[])).snd.snd.snd.snd.fst
def Agd (a0:List TGroup) (a1:TRow):Bool:=bif(IY a0 a1) then false else bif(Q4 a0 a1) then false else true
def Age (a0:List TGroup) (a1:TRow):List TField:=bif(IY a0 a1) then[] else bif(Q4 a0 a1) then[] else(KY (a0,(↑a0.length:Int),(0:Int),a1,a1.1,[])).snd.snd.snd.snd.snd
def Agg (a0:List TGroup) (a1:TRow):A:=.tup [.agg [.v (.string (Agc a0 a1)),.sq 0],.v (.bool (Agd a0 a1))]
def Agf (a0:List TGroup) (a1:TRow):Objs:=[(0,some (.arr 142 2 (.ty .field (Age a0 a1))))]
def Biq (a0:List TGroup) (a1:TRow):List Prop:=[((!(IY a0 a1))=true→AK Fx Fw IM (He (a0,(↑a0.length:Int),(0:Int),a1,a1.1,[])) (a0,(↑a0.length:Int),(0:Int),a1,a1.1,[]))]
set_option maxRecDepth 100000 in
theorem Bip (a0:List TGroup) (a1:TRow):ER (AA Btk Acb) 9 58 [.sl .group a0,Ak .row a1] 0 []=some (1,Agg a0 a1,1,Agf a0 a1,[((!(IY a0 a1))=true→Aj Try.prog (58:FuncId) (0:Nat)=Aj Try.prog (58:FuncId) (0:Nat)),((!(IY a0 a1))=true→AK Fx Fw IM (He (a0,(↑a0.length:Int),(0:Int),a1,a1.1,[])) (a0,(↑a0.length:Int),(0:Int),a1,a1.1,[]))]):=by kernel_rfl
set_option maxRecDepth 100000 in
theorem Bmm (a0:List TGroup) (a1:TRow) (hp:∀p∈Biq a0 a1,p):CallOk Try.prog 58 [.sl .group a0,Ak .row a1] 0 [] 1 (Agg a0 a1) 1 (Agf a0 a1):=by
 have n0:((!(IY a0 a1))=true→Aj Try.prog (58:FuncId) (0:Nat)=Aj Try.prog (58:FuncId) (0:Nat)):=by intros;rfl
 have n1:=N0 hp
 exact AH (Ax A76 Avy) (Bip a0 a1) (Aa n0 (Aa n1 Ab))
def Asy (a0:List TGroup) (a1:TRow):A:=.tup [.agg [.v (.string (Alg a0 a1)),.sq 0],.v (.bool (KN a0 a1))]
def Asx (a0:List TGroup) (a1:TRow):Objs:=[(0,some (.arr 142 2 (.ty .field (Alf a0 a1))))]
def Ak0 (_a0:List TGroup) (_a1:TRow):List Prop:=[]
theorem Acd (l:List TGroup) (r:TRow) (h0:Ap l r=0):
  AK Fx Fw IM (He (l,(l.length:Int),0,r,r.1,[])) (l,(l.length:Int),0,r,r.1,[])∧KY (l,(l.length:Int),0,r,r.1,[])=(l,(l.length:Int),(l.length:Int),r,r.1,CC l r.cells l.length):=by
 obtain⟨hp,hlen,_⟩:=AT h0
 have hl4:=(FP hp).2
 obtain⟨h1,k,hk,hx,_,hst,_⟩:=IN (fun i=>((l,(l.length:Int),(i:Int),r,r.1,CC l r.cells i):Di)) l.length (fun _=>false) Fx Fw IM (He (l,(l.length:Int),0,r,r.1,[])) (l,(l.length:Int),0,r,r.1,[]) rfl (by show l.length≤((l.length:Int) - 0).toNat;omega)
  (fun i _ _=>by
   show(!!decide ((i:Int) <(l.length:Int)))=_
   rw[nn,Me,Bool.not_false,Bool.and_true])
  (fun i hi _=>by
   have hs:=Ag5 (l.getD i (Ae TC.group)).2 (r.2.getD i (Ae TC.cell))
   show(l,(l.length:Int),IntKind.i64.wrap ((i:Int)+1),r,(bif GH (l.getD ((i:Int)).toNat (Ae TC.group)).2 (r.2.getD ((i:Int)).toNat (Ae TC.cell)) then r.1 else r.1),(bif GH (l.getD ((i:Int)).toNat (Ae TC.group)).2 (r.2.getD ((i:Int)).toNat (Ae TC.cell)) then CC l r.cells i++[TField.mk (i:Int) (M8 (l.getD ((i:Int)).toNat (Ae TC.group)).2 (r.2.getD ((i:Int)).toNat (Ae TC.cell)))] else CC l r.cells i))=(l,(l.length:Int),((i+1:Nat):Int),r,r.1,CC l r.cells (i+1))
   rw[EQ (by omega),Int.toNat_natCast,hs.1,hs.2]
   have:∀b:Bool,(bif b then r.1 else r.1)=r.1:=fun b=>by cases b<;>rfl
   rw[this]
   rfl)
  (fun i hi _=>by
   have hin:(!!decide ((i:Int) <(l.length:Int)))=true→(i:Int) <(l.length:Int):=fun h=>by rw[nn] at h;exact of_decide_eq_true h
   exact Aa (fun h=>⟨by show(0:Int)≤(i:Int);omega,hin h⟩) (Aa (fun h=>⟨by show(0:Int)≤(i:Int);omega,by have:=hin h;show(i:Int) <(r.cells.length:Int);omega⟩) (Aa (fun _ _=>by
    have:=WD l r.cells i
    show Ai ((CC l r.cells i).length+1)
    unfold Ai;omega) Ab)))
 have hkn:k=l.length:=by
  rcases Nat.lt_or_ge k l.length with h|h
  ·exact absurd (hst h) (by decide)
  ·omega
 subst hkn
 exact⟨h1,hx⟩
theorem Bio (a0:List TGroup) (a1:TRow) (_hp:∀p∈Ak0 a0 a1,p):CallOk Try.prog 58 [.sl .group a0,Ak .row a1] 0 [] 1 (Asy a0 a1) 1 (Asx a0 a1):=by
 have hz:(!(Ap a0 a1 !=0))=true→Ap a0 a1=0:=fun h=>by simpa using h
 have h:=Bmm a0 a1 (Aa (fun h1=>(Acd a0 a1 (hz h1)).1) Ab)
 have hk1:IY a0 a1=(Ap a0 a1 !=0):=rfl
 have e:Agc a0 a1=Alg a0 a1∧Agd a0 a1=KN a0 a1∧Age a0 a1=Alf a0 a1:=by
  unfold Agc Agd Age Alg Alf
  have hv:KN a0 a1=(Ap a0 a1==0&&!((CC a0 a1.cells a0.length).length==0)):=rfl
  cases hg:Ap a0 a1 !=0 with
  | true=>
   rw[hk1,hg]
   have:KN a0 a1=false:=by
    rw[hv,show(Ap a0 a1==0)=false by simpa using hg]
    rfl
   rw[this]
   exact⟨rfl,rfl,rfl⟩
  |false=>
   have h0:Ap a0 a1=0:=by simpa using hg
   unfold Q4
   rw[hk1,hg,(Acd a0 a1 h0).2]
   have:KN a0 a1=!((CC a0 a1.cells a0.length).length==0):=by rw[hv,h0];rfl
   rw[this]
   show(bif((CC a0 a1.cells a0.length).length:Int)==0 then _ else _)=_∧(bif((CC a0 a1.cells a0.length).length:Int)==0 then _ else _)=_∧(bif((CC a0 a1.cells a0.length).length:Int)==0 then _ else _)=_
   rw[Aw2]
   cases(CC a0 a1.cells a0.length).length==0<;>exact⟨rfl,rfl,rfl⟩
 unfold Agg Agf at h
 rw[e.1,e.2.1,e.2.2] at h
 exact h
def Agh:List A→Nat→Objs→Option A9
 | [y0,y1],nx,o=>match Jt .group y0,AQ .row y1 with
  |some a0,some (a1,p1)=>some (1,(Asy a0 a1).pk (AC nx),nx+1,AB nx (Asx a0 a1)++o,p1++(Ak0 a0 a1))
  |_,_=>none
 |_,_,_=>none
theorem Bb2:EV Try.prog 58 Agh:=fun args nx o k x nx' o' ps h=>by
 unfold Agh at h
 split at h<;>first|(cases h;done)|skip
 split at h<;>first|(cases h;done)|skip
 rename_i a0 a1 p1 e0 e1
 cases h
 refine⟨fun hp=>?_,_,rfl⟩
 have q1:=fun p hm=>hp p (List.mem_append.2 (.inl hm))
 have r1:=fun p hm=>hp p (List.mem_append.2 (.inr hm))
 refine Ah (Ag (Bio a0 a1 r1) (Nat.le_refl _) (Ac rfl (Ac (Af _ _) An)) nx o) fun F N R vs hl=>?_
 obtain⟨v0,w0,rfl,h0,hl⟩:=hl.inv
 obtain⟨v1,w1,rfl,h1,hl⟩:=hl.inv
 exact HL.cons (BL e0 h0) (HL.cons (Am e1 q1 h1) (hl))
noncomputable def Btl:=A7 58 Agh Btk
theorem A77:CU Try.prog Btl:=Aw Bb2 A76
abbrev Bj:Type:=Int×TView×TView
def JF (x:Bj):St:=⟨38,2,[(2,.own 0 0),(3,.own 1 0),(5,.v (.int .i64 x.1))],[(0,some (.box 94 [.v (.string x.2.1.key),.sl .field x.2.1.fields])),(1,some (.box 94 [.v (.string x.2.2.key),.sl .field x.2.2.fields]))]⟩
def K9:St→Option Bj
 |⟨38,2,[(2,.own 0 0),(3,.own 1 0),(5,.v (.int .i64 z0))],[(0,some (.box 94 [.v (.string z1),.sl .field z2])),(1,some (.box 94 [.v (.string z3),.sl .field z4]))]⟩=>some (z0,⟨z1,z2⟩,⟨z3,z4⟩)
 |_=>none
theorem Yn:∀s x,K9 s=some x→s=JF x:=fun s x h=>by
 unfold K9 at h
 split at h
 ·cases h;rfl
 ·cases h
def QS:CX:=⟨2,2,[2,3,5],[],[(0,0),(1,1)],[0,1],[4],[0,1]⟩
def Aj9:Dp:=⟨[],[(0,0),(1,1)],[2,3,5],[0,1]⟩
def C8 (a0:Int) (a1:TView) (_a2:TView):Bool:=!!decide (a0 <(↑a1.2.length:Int))
def B9 (a0:Int) (a1:TView) (a2:TView):Bool:=(C8 a0 a1 a2)&&!((a1.2.getD a0.toNat (Ae TC.field)).1==(a2.2.getD a0.toNat (Ae TC.field)).1&&(a1.2.getD a0.toNat (Ae TC.field)).2.toList==(a2.2.getD a0.toNat (Ae TC.field)).2.toList)
def Z4 (a0:Int) (a1:TView) (a2:TView):Bool:=(C8 a0 a1 a2)&&!(B9 a0 a1 a2)
def Da (x:Bj):Bj:=(IntKind.i64.wrap (x.1+(1:Int)),x.2.1,x.2.2)
def C9 (x:Bj):Cnd:=some (Z4 x.1 x.2.1 x.2.2)
def N3 (x:Bj):List Prop:=[((C8 x.1 x.2.1 x.2.2)=true→(0:Int)≤x.1∧x.1 <(↑x.2.1.2.length:Int)),((C8 x.1 x.2.1 x.2.2)=true→(0:Int)≤x.1∧x.1 <(↑x.2.2.2.length:Int))]
def Fg (x:Bj):List Prop:=[((C8 x.1 x.2.1 x.2.2)=true→(0:Int)≤x.1∧x.1 <(↑x.2.1.2.length:Int)),((C8 x.1 x.2.1 x.2.2)=true→(0:Int)≤x.1∧x.1 <(↑x.2.2.2.length:Int))]
def Nn (x:Bj):Bo:=[(some 0,some (!decide (x.1 <(↑x.2.1.2.length:Int))),⟨38,2,[(4,.dead)],[(0,some (.box 94 [.v (.string x.2.1.1),.sl .field x.2.1.2])),(1,some (.box 94 [.v (.string x.2.2.1),.sl .field x.2.2.2]))]⟩),(none,some ((B9 x.1 x.2.1 x.2.2)),⟨38,2,[(4,.v (.bool (false)))],[(0,some (.box 94 [.v (.string x.2.1.1),.sl .field x.2.1.2])),(1,some (.box 94 [.v (.string x.2.2.1),.sl .field x.2.2.2]))]⟩)]
def D5 (x:Bj):Nat:=((↑x.2.1.2.length:Int) - x.1).toNat
def Z6 (x:Bj):Bj:=Bc Da C9 (D5 x) x
set_option maxRecDepth 100000 in
theorem Afd (a0:Int) (a1:TView) (a2:TView):By (AA Btl L0) 9 (Aj Try.prog 59 0) QS (JF (a0,a1,a2))=some (N3 (a0,a1,a2),Nn (a0,a1,a2),C9 (a0,a1,a2),JF (Da (a0,a1,a2))):=by kernel_rfl
set_option maxRecDepth 100000 in
theorem Afe (a0:Int) (a1:TView) (a2:TView) (hp:∀p∈Fg (a0,a1,a2),p):∀p∈N3 (a0,a1,a2),p:=by
 have n0:=N0 hp
 have n1:=N0 (N1 hp)
 exact(Aa n0 (Aa n1 Ab))
noncomputable def N4:=HF (AA Btl L0) (Aj Try.prog 59 0) QS Aj9 K9 D5 Da C9 Fg Nn
theorem Z5:∀s b ps outs,N4 s=some (b,ps,outs)→Wf s ⟨ps,outs,none⟩∧Br (AA C0 L0) b s ps outs:=
 Bh (T:=JF) A77 AG (u:=9) (by kernel_rfl) (by decide) (fun⟨a0,a1,a2⟩=>Afd a0 a1 a2) (fun⟨a0,a1,a2⟩=>Afe a0 a1 a2) Yn (fun _=>AU (n:=38) rfl) fun _ _=>rfl
noncomputable def QR:=Dz 0 N4 L0
theorem Z3:Hf QR:=A5 Z5 AG
def Gp (a0:TView) (a1:TView):Bj:=Z6 ((0:Int),a0,a1)
def EO (a0:TView) (a1:TView):Bool:=!a0.1.toList==a1.1.toList||(↑a0.2.length:Int) !=(↑a1.2.length:Int)
def PE (a0:TView) (a1:TView):Bool:=bif(EO a0 a1) then false else bif B9 (Gp a0 a1).fst (Gp a0 a1).snd.fst (Gp a0 a1).snd.snd then false else true
def PF (a0:TView) (a1:TView):A:=.v (.bool (PE a0 a1))
def Yo (_a0:TView) (_a1:TView):Objs:=[]
def VE (a0:TView) (a1:TView):List Prop:=[((!(EO a0 a1))=true→AK Da C9 Fg (D5 ((0:Int),a0,a1)) ((0:Int),a0,a1))]
set_option maxRecDepth 100000 in
theorem Au3 (a0:TView) (a1:TView):ER (AA Btl QR) 9 59 [Ak .view a0,Ak .view a1] 0 []=some (1,PF a0 a1,0,Yo a0 a1,[((!(EO a0 a1))=true→Aj Try.prog (59:FuncId) (0:Nat)=Aj Try.prog (59:FuncId) (0:Nat)),((!(EO a0 a1))=true→AK Da C9 Fg (D5 ((0:Int),a0,a1)) ((0:Int),a0,a1))]):=by kernel_rfl
set_option maxRecDepth 100000 in
theorem A1k (a0:TView) (a1:TView) (hp:∀p∈VE a0 a1,p):CallOk Try.prog 59 [Ak .view a0,Ak .view a1] 0 [] 1 (PF a0 a1) 0 (Yo a0 a1):=by
 have n0:((!(EO a0 a1))=true→Aj Try.prog (59:FuncId) (0:Nat)=Aj Try.prog (59:FuncId) (0:Nat)):=by intros;rfl
 have n1:=N0 hp
 exact AH (Ax A77 Z3) (Au3 a0 a1) (Aa n0 (Aa n1 Ab))
def VF (a0:TView) (a1:TView):A:=.v (.bool (B3g a0 a1))
def VD (_a0:TView) (_a1:TView):Objs:=[]
def Tr (a0:TView) (_a1:TView):List Prop:=[Av a0.fields.length]
theorem Axs:∀{a b:List TField},Axr a b=true↔a=b
 | [],[]=>by simp[Axr]
 | [],_::_=>by simp[Axr]
 |_::_,[]=>by simp[Axr]
 |⟨g,v⟩::xs,⟨g',v'⟩::ys=>by
  unfold Axr
  rw[Bool.and_eq_true,Bool.and_eq_true,beq_iff_eq,beq_iff_eq,Axs]
  simp
theorem B3f:∀(a b:List TField),a.length=b.length→Axr a b=JH a.length (fun i=>(a.getD i (Ae TC.field)).1==(b.getD i (Ae TC.field)).1&&(a.getD i (Ae TC.field)).2==(b.getD i (Ae TC.field)).2):=fun a b h=>by
 rw[Bool.eq_iff_iff,Axs,Il]
 constructor
 ·rintro rfl i _
  simp
 ·intro g
  refine List.ext_getElem h fun i h1 h2=>?_
  have:=g i h1
  rw[List.getD_eq_getElem?_getD,List.getD_eq_getElem?_getD,List.getElem?_eq_getElem h1,List.getElem?_eq_getElem h2,Option.getD_some,Option.getD_some,Bool.and_eq_true,beq_iff_eq,beq_iff_eq] at this
  revert this
  generalize a[i]=x
  generalize b[i]=y
  cases x;cases y
  rintro⟨rfl,rfl⟩
  rfl
theorem VC (a b:TView) (hb:Av a.fields.length):(∀p∈VE a b,p)∧PE a b=B3g a b:=by
 unfold Av at hb
 have hk0:EO a b=(!(a.key==b.key)||a.fields.length !=b.fields.length):=by
  show(!(a.key.toList==b.key.toList)||((a.fields.length:Int) !=(b.fields.length:Int)))=_
  rw[tlb]
  congr 1
  rw[Bool.eq_iff_iff,bne_iff_ne,bne_iff_ne];omega
 have main:EO a b=false→AK Da C9 Fg (D5 (0,a,b)) (0,a,b)∧B9 (Gp a b).fst (Gp a b).snd.fst (Gp a b).snd.snd=!Axr a.fields b.fields:=fun h0=>by
  rw[hk0] at h0
  have hlen:a.fields.length=b.fields.length:=by simpa using(Bool.or_eq_false_iff.1 h0).2
  have hf:∀i:Nat,B9 (i:Int) a b=(decide (i <a.fields.length)&&!((a.fields.getD i (Ae TC.field)).1==(b.fields.getD i (Ae TC.field)).1&&(a.fields.getD i (Ae TC.field)).2==(b.fields.getD i (Ae TC.field)).2)):=fun i=>by
   unfold B9 C8
   rw[nn,Me,Int.toNat_natCast,tlb]
  obtain⟨h1,k,hk,hx,_,_,hb'⟩:=IN (fun i=>(((i:Int),a,b):Bj)) a.fields.length (fun i=>!((a.fields.getD i (Ae TC.field)).1==(b.fields.getD i (Ae TC.field)).1&&(a.fields.getD i (Ae TC.field)).2==(b.fields.getD i (Ae TC.field)).2)) Da C9 Fg (D5 (0,a,b)) (0,a,b) rfl (by show a.fields.length≤((a.fields.length:Int) - 0).toNat;omega)
   (fun i _ _=>by
    show((!!decide ((i:Int) <(a.fields.length:Int)))&&!B9 i a b)=_
    rw[hf,nn,Me]
    cases decide (i <a.fields.length)<;>rfl)
   (fun i hi _=>by
    show(IntKind.i64.wrap ((i:Int)+1),a,b)=(((i+1:Nat):Int),a,b)
    rw[EQ (by omega)])
   (fun i _ _=>by
    have hin:(!!decide ((i:Int) <(a.fields.length:Int)))=true→(i:Int) <(a.fields.length:Int):=fun h=>by rw[nn] at h;exact of_decide_eq_true h
    exact Aa (fun h=>⟨by show(0:Int)≤(i:Int);omega,hin h⟩) (Aa (fun h=>⟨by show(0:Int)≤(i:Int);omega,by have:=hin h;show(i:Int) <(b.fields.length:Int);omega⟩) Ab))
  refine⟨h1,?_⟩
  have hr:Gp a b=((k:Int),a,b):=hx
  rw[hr]
  show B9 (k:Int) a b=_
  rw[hf,hb',B3f _ _ hlen]
  congr 1
  exact H6 fun i _=>Bool.not_not _
 refine⟨Aa (fun h=>(main (by simpa using h)).1) Ab,?_⟩
 unfold PE B3g
 cases h0:EO a b with
 | true=>
  rw[hk0] at h0
  rw[cond_true]
  cases hk:a.key==b.key with
  |false=>rfl
  |true=>
   rw[hk] at h0
   have hne:a.fields.length≠b.fields.length:=by simpa using h0
   cases he:Axr a.fields b.fields with
   |false=>rfl
   |true=>exact absurd (congrArg List.length (Axs.1 he)) hne
 |false=>
  rw[cond_false,(main h0).2]
  rw[hk0] at h0
  have:(a.key==b.key)=true:=by simpa using(Bool.or_eq_false_iff.1 h0).1
  rw[this,Bool.true_and]
  cases Axr a.fields b.fields<;>rfl
theorem Au2 (a0:TView) (a1:TView) (hp:∀p∈Tr a0 a1,p):CallOk Try.prog 59 [Ak .view a0,Ak .view a1] 0 [] 1 (VF a0 a1) 0 (VD a0 a1):=by
 have hb:Av a0.fields.length:=hp _ (List.mem_cons_self ..)
 have h:=A1k a0 a1 (VC a0 a1 hb).1
 unfold PF at h
 rw[(VC a0 a1 hb).2] at h
 exact h
def PG:List A→Nat→Objs→Option A9
 | [y0,y1],nx,o=>match AQ .view y0,AQ .view y1 with
  |some (a0,p0),some (a1,p1)=>some (1,(VF a0 a1).pk (AC nx),nx+0,AB nx (VD a0 a1)++o,p0++(p1++(Tr a0 a1)))
  |_,_=>none
 |_,_,_=>none
theorem Aoh:EV Try.prog 59 PG:=fun args nx o k x nx' o' ps h=>by
 unfold PG at h
 split at h<;>first|(cases h;done)|skip
 split at h<;>first|(cases h;done)|skip
 rename_i a0 p0 a1 p1 e0 e1
 cases h
 refine⟨fun hp=>?_,_,rfl⟩
 have q0:=fun p hm=>hp p (List.mem_append.2 (.inl hm))
 have r0:=fun p hm=>hp p (List.mem_append.2 (.inr hm))
 have q1:=fun p hm=>r0 p (List.mem_append.2 (.inl hm))
 have r1:=fun p hm=>r0 p (List.mem_append.2 (.inr hm))
 refine Ah (Ag (Au2 a0 a1 r1) (Nat.le_refl _) (Ac (Af _ _) (Ac (Af _ _) An)) nx o) fun F N R vs hl=>?_
 obtain⟨v0,w0,rfl,h0,hl⟩:=hl.inv
 obtain⟨v1,w1,rfl,h1,hl⟩:=hl.inv
 exact HL.cons (Am e0 q0 h0) (HL.cons (Am e1 q1 h1) (hl))
noncomputable def B4a:=A7 59 PG Btl
theorem Byg:CU Try.prog B4a:=Aw Aoh A77
noncomputable def Cl:=B4a
theorem Bdi:CU Try.prog Cl:=Byg
end Go.Proofs.Yteebobbhhgmeiaa
namespace Go.Proofs.Yteebobbhhgmeiaa
open Go.RowKit Go.Shelf
attribute [local go_sem] Oper.semAt_some
def OwnB (base:Nat) (W:World) (y:Value) (bs:List UInt8):Prop:=OwnR W 5 1 y bs.length (bs.map Bw)∧∀g,CY y=some g→base≤g
theorem OwnB.keep {base:Nat} {W W':World} {y:Value} {bs:List UInt8} (h:OwnB base W y bs) (hk:∀g,base≤g→CY y=some g→W'.heap[g]?=W.heap[g]?):OwnB base W' y bs:=⟨h.1.keep fun g hg=>hk g (h.2 g hg) hg,h.2⟩
theorem OwnB.mono {b b':Nat} {W:World} {y:Value} {bs:List UInt8} (h:OwnB b W y bs) (hb:b'≤b):OwnB b' W y bs:=⟨h.1,fun g hg=>Nat.le_trans hb (h.2 g hg)⟩
theorem Bv9 (b0 b:Nat) (t:TypeId) (f:List (TGroup×TCell)→List UInt8):Own (fun s W=>∃y,W.heap[b0]?=some (.cells #[y] t (0,0))∧OwnB b W y (f s)):=fun s W W' row ⟨y,h1,h2⟩ hg hr=>by
 have key:∀(g:Nat) (o:Obj),W.heap[g]?=some o→o.isCells=true→W'.heap[g]?=W.heap[g]?:=fun g o ho hc=>by
  refine hg.block g (Im ho) fun e=>?_
  obtain⟨o',h3,h4⟩:=hr g e.symm
  rw[ho] at h3
  cases h3
  rw[hc] at h4
  cases h4
 refine⟨y,(key b0 _ h1 rfl).trans h1,h2.keep fun g _ hgy=>?_⟩
 rcases h2.1.2 with⟨a,e1,_⟩|⟨g',cap,cur,e1,e3,_⟩
 ·rw[e1] at hgy;cases a<;>cases hgy
 ·rw[e1] at hgy
  cases hgy
  exact key _ _ e3 rfl
theorem OwnB.form {base:Nat} {W:World} {y:Value} {bs:List UInt8} (h:OwnB base W y bs):∃a n c,y=.slice a n c:=by
 obtain⟨a,c,e,_⟩:=h.1.form
 exact⟨a,_,c,e⟩
theorem KB.setCell {n₀ X:Nat} (W:World) (v:Value):KB n₀ X W (W.setCell ⟨X,0,none⟩ v):=
 ⟨rfl,rfl,rfl,by rw[Ak5];exact Nat.le_refl _,fun k _ hk=>Below.heap_setCell W ⟨X,0,none⟩ v k hk⟩
theorem Bfj {α:Type} (F:α→List UInt8) (n:Nat) (h:∀x,(F x).length≤n):∀l:List α,(l.flatMap F).length≤l.length*n
 | []=>by simp
 |x::r=>by
  have:=Bfj F n h r
  have:=h x
  rw[List.flatMap_cons,List.length_append,List.length_cons,Nat.succ_mul]
  omega
set_option maxRecDepth 100000 in
set_option maxHeartbeats 1000000 in
theorem Bmn (w:World) (a0 a1:Option Addr) (gs:List TGroup) (cs:List TCell) (key:ByteArray) (cap0 cap1:Nat) (na ncap:Nat) (ab:Option Addr) (b0:List UInt8) (pc:Int→TCell→List UInt8) (Nx:Nat)
  (hpc:∀q c,(pc q c).length≤Nx)
  (hGd:∀W,Below w.heap.size w W→Calls Try.prog 65 #[.slice a0 gs.length cap0,.agg #[.string key,.slice a1 cs.length cap1]] W fun e W'=>e=.returned (.int .i64 0)∧Below W.heap.size W W')
  (hl1:1≤gs.length) (hl4:gs.length≤4) (hlen0:Nat.beq cs.length gs.length=true)
  (hPT:∀W,Below w.heap.size w W→Calls Try.prog 122 #[.slice ab na ncap,.string key] W fun e W'=>∃y,e=.returned y∧Below W.heap.size W W'∧OwnB W.heap.size W' y b0)
  (hCP:∀W v bs q c base,OwnB base W v bs→bs.length≤b0.length+4*Nx→Calls Try.prog 56 #[v,.int .i64 q,cV c] W fun e W'=>∃y,e=.returned y∧Below W.heap.size W W'∧OwnB W.heap.size W' y (bs++pc q c))
  (hG:0 <gs.length→∃b off,a0=some ⟨b,off,none⟩∧GsAt w.heap.size w.heap.size w b off gs)
  (hS:0 <cs.length→∃b off,a1=some ⟨b,off,none⟩∧CsAt w.heap.size w.heap.size w b off cs):
  Calls Try.prog 79 #[.slice ab na ncap,.slice a0 gs.length cap0,.agg #[.string key,.slice a1 cs.length cap1]] w fun e W'=>∃y,e=.returned y∧Below w.heap.size w W'∧OwnB w.heap.size W' y (b0++(gs.zip cs).flatMap (fun x=>pc x.1.policy x.2)):=by
 refine(callsIn_wide (n:=5)).1 ?_
 refine callsIn_of_wp_marks Try.func79 rfl trivial ?_ rfl
 simp only[Try.ntmps79,List.size_toArray,List.length_cons,List.length_nil,Nat.reduceAdd,Nat.reduceSub,Array.replicate_succ,Array.replicate_zero,List.push_toArray,List.append_toArray,List.nil_append,List.cons_append]
 have hw2:Below w.heap.size w ((w.alloc (.cells #[.slice ab na ncap] 84)).alloc (.cells #[.string key,.slice a1 cs.length cap1] 71)):=((Below.refl _ w).alloc (Nat.le_refl _) _).alloc (by simp) _
 have hr1:=Oq (.cells #[.string key,.slice a1 cs.length cap1] 71) (HG (w:=w) (.cells #[.slice ab na ncap] 84) rfl)
 have hr2:=HG (w:=w.alloc (.cells #[.slice ab na ncap] 84)) (.cells #[.string key,.slice a1 cs.length cap1] 71) (n:=w.heap.size+1) (by simp)
 obtain⟨k0,k1⟩:=cb2 hr2
 have k2:=cb1 hr1
 gi_wp2_with (first
  |(refine⟨trivial,?_⟩;gi_at_call 65;refine(callsIn_wide.2 (hGd _ hw2)).mono ?_;rintro e W1 ⟨rfl,hb1⟩;have hx1:=FE hr1 hb1;have hx2:=FE hr2 hb1;have d0:=cb1 hx1;have f0:=fb1 hx1;obtain⟨c0,c1⟩:=cb2 hx2;have hB1:Below w.heap.size w W1:=hw2.trans (hb1.mono (by simp;omega));clear hr1 hr2 hb1 k0 k1 k2)
  |(refine⟨trivial,?_⟩;gi_at_call 122;refine(callsIn_wide.2 (hPT _ hB1)).mono ?_;rintro e W2 ⟨y0,rfl,hb2,hy0⟩;obtain⟨ya,yc,rfl,hyc⟩:=hy0.1.form;have hz1:=FE hx1 hb2;have hz2:=FE hx2 hb2;have d2:=cb1 hz1;have f2:=fb1 hz1;obtain⟨c2,c3⟩:=cb2 hz2;have hB2:Below w.heap.size w W2:=hB1.trans (hb2.mono hB1.size);clear d0 f0 c0 c1)
  |(refine⟨trivial,?_⟩;gi_at_call 132;refine(Bgr _ _ _ _ _ _ _).mono ?_;rintro e W3 ⟨rfl,rfl⟩))
 have hlen:cs.length=gs.length:=Nat.eq_of_beq_eq_true hlen0
 have hy1:=PX (i:=0) hz1 (.slice ya b0.length yc)
 have hy2:=B0h hz2 (p:=⟨w.heap.size,0,none⟩) (by simp) (.slice ya b0.length yc)
 have hB3:Below w.heap.size w (W2.setCell ⟨w.heap.size,0,none⟩ (.slice ya b0.length yc)):=hB2.setCell (p:=⟨w.heap.size,0,none⟩) (Nat.le_refl _) _
 have hs1:=Im hx2
 have hs2:=Im hy2
 have hyo:OwnB (w.heap.size+1) (W2.setCell ⟨w.heap.size,0,none⟩ (.slice ya b0.length yc)) (.slice ya b0.length yc) b0:=(hy0.mono (Nat.le_of_lt hs1)).keep fun g hg _=>Below.heap_setCell W2 ⟨w.heap.size,0,none⟩ _ g (by simp;omega)
 have hVs:(W2.setCell ⟨w.heap.size,0,none⟩ (.slice ya b0.length yc)).heap.size=W2.heap.size:=Ak5 _ _ _
 rw[←hVs]
 generalize W2.setCell ⟨w.heap.size,0,none⟩ (.slice ya b0.length yc)=V at hy1 hy2 hB3 hs2 hyo⊢
 clear hVs
 clear hz1 hz2 d2 f2 c2 c3 hx1 hx2 hb2 hy0
 obtain⟨b,off,rfl,hg⟩:=hG (by omega)
 obtain⟨b',off',rfl,hc⟩:=hS (by omega)
 have hW2:Below V.heap.size V ((V.alloc (.cells #[.slice (some ⟨b,off,none⟩) gs.length cap0] 66)).alloc (.cells #[.string key,.slice (some ⟨b',off',none⟩) cs.length cap1] 71)):=((Below.refl _ V).alloc (Nat.le_refl _) _).alloc (by simp) _
 have hv2:=Oq (.cells #[.string key,.slice (some ⟨b',off',none⟩) cs.length cap1] 71) (HG (w:=V) (.cells #[.slice (some ⟨b,off,none⟩) gs.length cap0] 66) rfl)
 have hv3:=HG (w:=V.alloc (.cells #[.slice (some ⟨b,off,none⟩) gs.length cap0] 66)) (.cells #[.string key,.slice (some ⟨b',off',none⟩) cs.length cap1] 71) (n:=V.heap.size+1) (by simp)
 have hz1:=FE hy1 hW2
 have hz3:=Im hv3
 have hB4:=hB3.trans (hW2.mono hB3.size)
 have hyo2:OwnB (w.heap.size+1) ((V.alloc (.cells #[.slice (some ⟨b,off,none⟩) gs.length cap0] 66)).alloc (.cells #[.string key,.slice (some ⟨b',off',none⟩) cs.length cap1] 71)) (.slice ya b0.length yc) b0:=hyo.keep fun g _ hgy=>hW2.block g (hyo.1.lt hgy)
 clear hyo hs1
 rw[show V.heap.size=V.heap.size from rfl] at hv2
 generalize hVW:(V.alloc (.cells #[.slice (some ⟨b,off,none⟩) gs.length cap0] 66)).alloc (.cells #[.string key,.slice (some ⟨b',off',none⟩) cs.length cap1] 71)=W2 at hW2 hv2 hv3 hz1 hz3 hB4 hyo2⊢
 have hlt0:=Im hy1
 have hg2:GsAt W2.heap.size w.heap.size W2 b off gs:=⟨⟨by have:=hg.1.1;omega,by have:=hg.1.1;omega⟩,fun j g hj=>⟨(hB4.cell (p:=⟨b,_,none⟩) hg.1.1).trans (hg.2 j g hj).1,(hB4.cell (p:=⟨b,_,none⟩) hg.1.1).trans (hg.2 j g hj).2⟩⟩
 have hc2:CsAt W2.heap.size w.heap.size W2 b' off' cs:=by
  refine⟨⟨by have:=hc.1.1;omega,by have:=hc.1.1;omega⟩,fun j c hj=>?_⟩
  have k:∀o,W2.cell? ⟨b',o,none⟩=w.cell? ⟨b',o,none⟩:=fun o=>hB4.cell (p:=⟨b',o,none⟩) hc.1.1
  simp only[k]
  exact hc.2 j c hj
 refine wpIn_rangeFunc_ownH (F:=Fence.wide) rfl (by omega) (gf:=165) (lb:=#[.pointer (some ⟨V.heap.size,0,none⟩),.pointer (some ⟨V.heap.size+1,0,none⟩)]) rfl trivial (enters_of Try.func165 (by kernel_rfl) rfl)
  (Aqw _ (by omega) V.heap.size (V.heap.size+1) W2.heap.size w.heap.size b off cap0 b' off' cap1 gs cs hlen hl4 W2 (Nat.le_refl _) (cb1 hv2) (cb2 hv3).2 ⟨by omega,by omega⟩ ⟨by omega,by omega⟩ hg2 hc2)
  KB.trans (KB.putObj (Nat.le_refl _)) (Below.refl _ _) (fun _=>rfl)
  (fun pre W=>(∃y,W.heap[w.heap.size]?=some (.cells #[y] 84 (0,0))∧OwnB (w.heap.size+1) W y (b0++pre.flatMap (fun x=>pc x.1.policy x.2)))∧Below w.heap.size w W∧W2.heap.size≤W.heap.size)
  (fun _ _ _=>False)
  (OwnFrom.and (Own.from (Bv9 w.heap.size (w.heap.size+1) 84 (fun pre=>b0++pre.flatMap (fun x=>pc x.1.policy x.2))) _) (OwnFrom.and (ownFrom_below (Nat.le_refl _) hB4.size) (Up _ _)))
  (fun _ _ _ _ _ hs _ _=>hs)
  ⟨⟨_,hz1,by simpa using hyo2⟩,hB4,Nat.le_refl _⟩
  (fun x a' W=>(∃B6 B7,a'={tmps:=#[Value.slice ab na ncap,Value.slice (some ⟨b,off,none⟩) gs.length cap0,
     Value.agg #[Value.string key,Value.slice (some ⟨b',off',none⟩) cs.length cap1],
     Value.pointer (some {block:=w.heap.size,off:=0}),undef,
     Value.pointer (some {block:=w.heap.size+1,off:=0}),Value.slice none 0 0,Value.pointer (some ⟨B6,0,none⟩),Value.pointer (some ⟨B7,0,none⟩),
     Value.slice (some ⟨b,off,none⟩) gs.length cap0,Value.agg #[Value.string key,Value.slice (some ⟨b',off',none⟩) cs.length cap1],
     Value.int IntKind.i64 0,Value.bool false,undef,undef,undef,Value.slice ab na ncap,
     Value.pointer (some {block:=w.heap.size+1,off:=0}),Value.string key,Value.slice ya b0.length yc,
     Value.slice (some ⟨b,off,none⟩) gs.length cap0,Value.agg #[Value.string key,Value.slice (some ⟨b',off',none⟩) cs.length cap1],
     Value.func (Fn.func 165) #[] #[Value.pointer (some {block:=V.heap.size,off:=0}),Value.pointer (some {block:=V.heap.size+1,off:=0})],
     gV x.1,cV x.2,undef,undef,undef,undef,undef,undef],defers:=[]}∧
    (W.heap[B6]?=some (.cells #[.string x.1.name,.int .i64 x.1.policy] 79 (0,0))∧W.heap[B7]?=some (.cells #[.int .i64 x.2.stamp.n,.int .i64 x.2.stamp.site,.int .i64 x.2.vec.a,.int .i64 x.2.vec.b,.bool x.2.gone,.string x.2.value,.int .i64 x.2.dead.a,.int .i64 x.2.dead.b] 55 (0,0)))))
  (fun x a'=>Own.from (fun s X Y row hs hgr hr=>by
   obtain⟨B6,B7,e1,e2,e3⟩:=hs
   exact⟨B6,B7,e1,Zb B6 _ _ s X Y row e2 hgr hr,Zb B7 _ _ s X Y row e3 hgr hr⟩) _) ?assign ?body ?done ?stop
 case assign=>
  rintro l pre x W K ⟨⟨y,i1,i2⟩,i3,i4⟩ hK
  clear hlen hlen0
  dsimp only[Bur,gV,cV] at hK⊢
  gi_wp2
  have hb:Below W.heap.size W ((W.alloc (.cells #[.string x.1.name,.int .i64 x.1.policy] 79)).alloc (.cells #[.int .i64 x.2.stamp.n,.int .i64 x.2.stamp.site,.int .i64 x.2.vec.a,.int .i64 x.2.vec.b,.bool x.2.gone,.string x.2.value,.int .i64 x.2.dead.a,.int .i64 x.2.dead.b] 55)):=((Below.refl _ W).alloc (Nat.le_refl _) _).alloc (by simp) _
  exact hK _ _ (Ja _ hb) (KB.of_below (hb.mono i4)) ⟨⟨y,FE i1 hb,i2.keep fun g _ hgy=>hb.block g (i2.1.lt hgy)⟩,i3.trans (hb.mono i3.size),Nat.le_trans i4 hb.size⟩ ⟨W.heap.size,W.heap.size+1,rfl,Oq _ (HG _ rfl),HG _ (by simp)⟩
 case body=>
  rintro l pre x a' W hl hr ⟨⟨y,i1,i2⟩,i3,i4⟩ ⟨B6,B7,rfl,e6,e7⟩ hlt
  obtain⟨yb,ym,yd,rfl⟩:=i2.form
  obtain⟨k0,k1⟩:=cb2 e6
  obtain⟨m0,m1,m2,m3,m4,m5,m6,m7⟩:=cb8 e7
  have d0:=cb1 i1
  have hbl:(b0++pre.flatMap (fun x=>pc x.1.policy x.2)).length≤b0.length+4*Nx:=by
   have:=Bfj (fun x:TGroup×TCell=>pc x.1.policy x.2) Nx (fun x=>hpc _ _) pre
   have h2:pre.length*Nx≤4*Nx:=Nat.mul_le_mul_right _ (by omega)
   rw[List.length_append]
   omega
  clear hlen hlen0
  generalize hbe:b0++pre.flatMap (fun x=>pc x.1.policy x.2)=bs at*
  gi_wp2_with (refine⟨trivial,?_⟩;gi_at_call 56;refine(CallsIn.inRound l (callsIn_wide.2 (hCP _ _ bs x.1.policy x.2 _ i2 hbl))).mono ?_;rintro e W' ⟨y',rfl,hb,hy'⟩;obtain⟨ye,yn,yf,rfl⟩:=hy'.form;have q1:=FE i1 hb;have d4:=cb1 q1;have f4:=fb1 q1)
  have hw:=Im i1
  refine⟨(Ja _ hb).trans ((KeepsOthers.setCell _ _ _).from _),(KB.of_below (hb.mono i4)).trans (KB.setCell _ _),⟨_,PX (i:=0) q1 _,?_⟩,(i3.trans (hb.mono i3.size)).setCell (p:=⟨w.heap.size,0,none⟩) (Nat.le_refl _) _,Nat.le_trans i4 (by rw[Ak5];exact hb.size)⟩
  rw[List.flatMap_append,←List.append_assoc,hbe]
  simp only[List.flatMap_cons,List.flatMap_nil,List.append_nil]
  exact(hy'.mono (b':=w.heap.size+1) (by omega)).keep fun g hg _=>Below.heap_setCell W' ⟨w.heap.size,0,none⟩ _ g (by simp;omega)
 case done=>
  rintro D ys W hD rfl ⟨⟨y,i1,i2⟩,i3,i4⟩ hK
  obtain⟨yb,ym,yd,rfl⟩:=i2.form
  have d0:=cb1 i1
  clear hlen hlen0
  gi_wp2
  refine⟨by simp,.inl ⟨_,_,rfl,run_takeDeferred hK,?_⟩⟩
  refine⟨_,results_tmp rfl _ _ _,_,rfl,i3.trans (belowK_b (w:=w) (Nat.le_refl _) W D _ _ (by have:=hB4.size;omega) hK rfl rfl),(i2.mono (Nat.le_succ _)).keep fun g _ hgy=>?_⟩
  refine World.putObj_heap_other fun e=>?_
  subst e
  rcases i2.1.2 with⟨a,e1,_⟩|⟨g',cap,cur,e1,e3,_⟩
  ·rw[e1] at hgy;cases a<;>cases hgy
  ·rw[e1] at hgy
   cases hgy
   rw[hK] at e3
   cases e3
 case stop=>
  rintro D c pre W hD _ h _
  exact h.elim
end Go.Proofs.Yteebobbhhgmeiaa
