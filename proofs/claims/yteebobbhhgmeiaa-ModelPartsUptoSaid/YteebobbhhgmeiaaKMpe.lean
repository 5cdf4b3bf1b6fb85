/- made by a program (rowgen.py): ModelParts: for every input the law returns true, and each argument reads behind the call as it read before. -/
import Derived.Test.YteebobbhhgmeiaaKMpd

set_option maxRecDepth 100000
namespace Go.Proofs.Yteebobbhhgmeiaa
open Go.RowKit
abbrev BK:Type:=ByteArray×Nat
def Jl (x:BK):St:=⟨36,2,[(26,.own 1 0)],[(1,some (.sit x.1 x.2))]⟩
def KR:St→Option BK
 |⟨36,2,[(26,.own 1 0)],[(1,some (.sit z0 z1))]⟩=>some (z0,z1)
 |_=>none
theorem XC:∀s x,KR s=some x→s=Jl x:=fun s x h=>by
 unfold KR at h
 split at h
 ·cases h;rfl
 ·cases h
def Qw:Dj:=⟨2,2,[26],[],[(1,1)],[1],[2],[1]⟩
def Aih:DB:=⟨[],[(1,1)],[26],[1]⟩
def Fy (a0:ByteArray) (a1:Nat):Bool:=!!decide (a1 <a0.size)
def C1 (a0:ByteArray) (a1:Nat):Bool:=(Fy a0 a1)&&(decide ((↑(Utf8.decode a0 a1).fst:Int) <(97:Int))||decide ((↑(Utf8.decode a0 a1).fst:Int) >(122:Int)))
def Zt (a0:ByteArray) (a1:Nat):Nat:=bif decide (a1 <a0.size) then a1+(Utf8.decode a0 a1).snd else a1
def Zu (a0:ByteArray) (a1:Nat):Bool:=(Fy a0 a1)&&!(C1 a0 a1)
def Zv (a0:ByteArray) (a1:Nat):Nat:=bif decide (a1 <a0.size) then a1+(Utf8.decode a0 a1).snd else a1
def Zw (a0:ByteArray) (a1:Nat):Nat:=bif decide (a1 <a0.size) then a1+(Utf8.decode a0 a1).snd else a1
def DZ (x:BK):BK:=(x.1,Zt x.1 x.2)
def DY (x:BK):Cnd:=some (Zu x.1 x.2)
def NJ (x:BK):List Prop:=[((Fy x.1 x.2)=true→decide (x.2 <x.1.size)=true)]
def Hl (_x:BK):List Prop:=[]
def M1 (x:BK):Bo:=[(some 0,some (!decide (x.2 <x.1.size)),⟨36,2,[(2,.dead)],[(1,some (.sit x.1 (Zv x.1 x.2)))]⟩),(none,some ((C1 x.1 x.2)),⟨36,2,[(2,.v (.bool (false)))],[(1,some (.sit x.1 (Zw x.1 x.2)))]⟩)]
def Fz (x:BK):Nat:=x.1.size - x.2
def Kj (x:BK):BK:=Bg DZ DY (Fz x) x
theorem Ac3 (a0:ByteArray) (a1:Nat):Bz (AA Cf L0) 9 (Aj Try.prog 164 0) Qw (Jl (a0,a1))=some (NJ (a0,a1),M1 (a0,a1),DY (a0,a1),Jl (DZ (a0,a1))):=by kernel_rfl
theorem Ac4 (a0:ByteArray) (a1:Nat) (_hp:∀p∈Hl (a0,a1),p):∀p∈NJ (a0,a1),p:=by
 have n0:((Fy a0 a1)=true→decide (a1 <a0.size)=true):=by intro h;exact(Bool.not_not _).symm.trans h
 exact(Aa n0 Ab)
noncomputable def NK:=H1 (AA Cf L0) (Aj Try.prog 164 0) Qw Aih KR Fz DZ DY Hl M1
theorem Zx:∀s b ps outs,NK s=some (b,ps,outs)→Wf s ⟨ps,outs,none⟩∧Bx (AA C0 L0) b s ps outs:=
 Bm (T:=Jl) Bq3 AH (u:=9) (by kernel_rfl) (by decide) (fun⟨a0,a1⟩=>Ac3 a0 a1) (fun⟨a0,a1⟩=>Ac4 a0 a1) XC (fun _=>AW (n:=36) rfl) fun _ _=>rfl
noncomputable def Qv:=DP 0 NK L0
theorem Zs:Hr Qv:=A6 Zx AH
def Gb (a0:TGroup):Bool:=a0.1.toList==(ByteArray.mk #[]).toList||decide ((↑a0.1.size:Int) >(12:Int))||a0.2 !=(1:Int)&&a0.2 !=(2:Int)
def Pd (a0:TGroup):Bool:=bif(Gb a0) then false else bif C1 (Kj (a0.1,(0:Nat))).fst (Kj (a0.1,(0:Nat))).snd then false else true
def Pe (a0:TGroup):A:=.v (.bool (Pd a0))
def XD (_a0:TGroup):Objs:=[]
def U3 (a0:TGroup):List Prop:=[((!(Gb a0))=true→AL DZ DY Hl (Fz (a0.1,(0:Nat))) (a0.1,(0:Nat)))]
theorem Asq (a0:TGroup):EQ (AA Cf Qv) 9 164 [Ak .group a0] 0 []=some (1,Pe a0,0,XD a0,[((!(Gb a0))=true→Aj Try.prog (164:FuncId) (0:Nat)=Aj Try.prog (164:FuncId) (0:Nat)),((!(Gb a0))=true→AL DZ DY Hl (Fz (a0.1,(0:Nat))) (a0.1,(0:Nat)))]):=by kernel_rfl
theorem Ayk (a0:TGroup) (hp:∀p∈U3 a0,p):CallOk Try.prog 164 [Ak .group a0] 0 [] 1 (Pe a0) 0 (XD a0):=by
 have n0:((!(Gb a0))=true→Aj Try.prog (164:FuncId) (0:Nat)=Aj Try.prog (164:FuncId) (0:Nat)):=by intros;rfl
 have n1:=N0 hp
 exact AI (Aw Bq3 Zs) (Asq a0) (Aa n0 (Aa n1 Ab))
def U4 (a0:TGroup):A:=.v (.bool (IA a0.name&&O6 a0.policy))
def U2 (_a0:TGroup):Objs:=[]
def S0 (_a0:TGroup):List Prop:=[]
theorem U1 (g:TGroup):(∀p∈U3 g,p)∧Pd g=(IA g.name&&O6 g.policy):=by
 have hk0:∀i,C1 g.1 i=(decide (i <g.1.size)&&!WR (g.1.data.toList.getD i 0)):=fun i=>by
  unfold C1 Fy
  rw[nn]
  by_cases h:i <g.1.size
  ·rw[decide_eq_true h,Bool.true_and,Bool.true_and];exact(Bgs g.1 i h).1
  ·rw[decide_eq_false h];rfl
 obtain⟨h1,k,hk,hx,hs,hst⟩:=Bpp (fun i=>((g.1,i):ByteArray×Nat)) g.1.size (fun i=>!WR (g.1.data.toList.getD i 0)) DZ DY Hl (Fz (g.1,0)) (g.1,0) rfl (Nat.le_refl _)
  (fun i _ _=>by
   show((!!decide (i <g.1.size))&&!C1 g.1 i)=_
   rw[hk0,nn]
   cases decide (i <g.1.size)<;>rfl)
  (fun i hi hj=>by
   show(g.1,(bif decide (i <g.1.size) then i+(Utf8.decode g.1 i).snd else i))=(g.1,i+1)
   have h2:=hj i (Nat.lt_succ_self i)
   rw[decide_eq_true hi,cond_true,(Bgs g.1 i hi).2 (by simpa using h2)])
  (fun _ _ _=>Ab)
 refine⟨Aa (fun _=>h1) Ab,?_⟩
 have hr:Kj (g.1,0)=(g.1,k):=hx
 have ha:g.1.data.toList.all WR=decide (¬k <g.1.size):=by
  have:=Bb4 g.1.data.toList 0 WR k (by rw[KZ];exact hk) (fun j hj=>by simpa using hs j hj) (fun h=>by rw[KZ] at h;simpa using hst h)
  rw[KZ] at this
  exact this
 unfold Pd
 rw[hr]
 show(bif Gb g then false else bif C1 g.1 k then false else true)=_
 rw[hk0]
 unfold Gb IA O6
 rw[Rq]
 show _=(g.1.data.toList.all WR&&(decide (1≤g.1.size)&&decide (g.1.size≤12))&&(g.2==1||g.2==2))
 rw[ha]
 have e1:(g.1.size==0)=!decide (1≤g.1.size):=B3f _
 have e2:decide ((g.1.size:Int) >12)=!decide (g.1.size≤12):=by
  rw[←decide_not];exact decide_eq_decide.2 (by generalize g.1.size=m;omega)
 have e3:(g.2 !=1&&g.2 !=2)=!(g.2==1||g.2==2):=by simp[bne]
 rw[e1,e2,e3]
 by_cases h:k <g.1.size
 ·have:=hst h
  rw[this,decide_eq_true h,decide_eq_false (not_not_intro h)]
  simp
 ·rw[decide_eq_false h,decide_eq_true h]
  cases decide (1≤g.1.size)<;>cases decide (g.1.size≤12)<;>cases(g.2==1||g.2==2)<;>rfl
theorem Asp (a0:TGroup) (_hp:∀p∈S0 a0,p):CallOk Try.prog 164 [Ak .group a0] 0 [] 1 (U4 a0) 0 (U2 a0):=by
 have h:=Ayk a0 (U1 a0).1
 unfold Pe at h
 rw[(U1 a0).2] at h
 exact h
def Pf:List A→Nat→Objs→Option Bb
 | [y0],nx,o=>match AQ .group y0 with
  |some (a0,p0)=>some (1,(U4 a0).pk (AF nx),nx+0,AE nx (U2 a0)++o,p0++(S0 a0))
  |_=>none
 |_,_,_=>none
theorem Al8:Ft Try.prog 164 Pf:=fun args nx o k x nx' o' ps h=>by
 unfold Pf at h
 split at h<;>first|(cases h;done)|skip
 split at h<;>first|(cases h;done)|skip
 rename_i a0 p0 e0
 cases h
 refine⟨fun hp=>?_,_,rfl⟩
 have q0:=fun p hm=>hp p (List.mem_append.2 (.inl hm))
 have r0:=fun p hm=>hp p (List.mem_append.2 (.inr hm))
 refine Ah (Ag (Asp a0 r0) (Nat.le_refl _) (Ac (Af _ _) Ao) nx o) fun F N R vs hl=>?_
 obtain⟨v0,w0,rfl,h0,hl⟩:=hl.inv
 exact HL.cons (Am e0 q0 h0) (hl)
noncomputable def Bq4:=A7 164 Pf Cf
theorem A50:Dd Try.prog Bq4:=Av Al8 Bq3
abbrev Br:Type:=(List TGroup)×Int×Int×(List (U .str×U .i64))
def J8 (x:Br):St:=⟨35,1,[(3,.mp 0),(15,.sl .group x.1),(16,.v (.int .i64 x.2.1)),(17,.v (.int .i64 x.2.2.1))],[(0,some (.map .str .i64 x.2.2.2))]⟩
def LD:St→Option Br
 |⟨35,1,[(3,.mp 0),(15,.sl .group z0),(16,.v (.int .i64 z1)),(17,.v (.int .i64 z2))],[(0,some (.map .str .i64 z3))]⟩=>some (z0,z1,z2,z3)
 |_=>none
theorem Zr:∀s x,LD s=some x→s=J8 x:=fun s x h=>by
 unfold LD at h
 split at h
 ·cases h;rfl
 ·cases h
def SZ:Dj:=⟨1,1,[3,15,16,17],[],[(0,0)],[0],[2],[0]⟩
def Al7:DB:=⟨[],[(0,0)],[3,15,16,17],[0]⟩
def EB (a0:List TGroup) (_a1:Int) (a2:Int) (a3:List (U .str×U .i64)):List (ByteArray×Int):=ZE a3 (a0.getD a2.toNat (Ae TC.group)).1 (IntKind.i64.wrap (Kl a3 (a0.getD a2.toNat (Ae TC.group)).1+(1:Int)))
def Dr (a0:List TGroup) (a1:Int) (a2:Int) (a3:List (U .str×U .i64)):Bool:=!!decide (a2 <a1)&&(!(IA (a0.getD a2.toNat (Ae TC.group)).1&&O6 (a0.getD a2.toNat (Ae TC.group)).2)||decide (Kl (EB a0 a1 a2 a3) (a0.getD a2.toNat (Ae TC.group)).1 >(1:Int)))
def Ac0 (a0:List TGroup) (a1:Int) (a2:Int) (a3:List (U .str×U .i64)):List (U .str×U .i64):=(EB a0 a1 a2 a3)
def Ac1 (a0:List TGroup) (a1:Int) (a2:Int) (a3:List (U .str×U .i64)):Bool:=!!decide (a2 <a1)&&!(Dr a0 a1 a2 a3)
def IQ (a0:List TGroup) (_a1:Int) (a2:Int) (_a3:List (U .str×U .i64)):Int:=bif !(IA (a0.getD a2.toNat (Ae TC.group)).1&&O6 (a0.getD a2.toNat (Ae TC.group)).2) then(2:Int) else(70:Int)
def Zq (a0:List TGroup) (a1:Int) (a2:Int) (a3:List (U .str×U .i64)):List (U .str×U .i64):=bif !(IA (a0.getD a2.toNat (Ae TC.group)).1&&O6 (a0.getD a2.toNat (Ae TC.group)).2) then a3 else(EB a0 a1 a2 a3)
def Dt (x:Br):Br:=(x.1,x.2.1,IntKind.i64.wrap (x.2.2.1+(1:Int)),Ac0 x.1 x.2.1 x.2.2.1 x.2.2.2)
def Ds (x:Br):Cnd:=some (Ac1 x.1 x.2.1 x.2.2.1 x.2.2.2)
def Pb (x:Br):List Prop:=[((!!decide (x.2.2.1 <x.2.1))=true→(0:Int)≤x.2.2.1∧x.2.2.1 <(↑x.1.length:Int))]
def FQ (x:Br):List Prop:=[((!!decide (x.2.2.1 <x.2.1))=true→(0:Int)≤x.2.2.1∧x.2.2.1 <(↑x.1.length:Int))]
def NI (x:Br):Bo:=[(some 1,some (!decide (x.2.2.1 <x.2.1)),⟨35,1,[(2,.dead)],[(0,some (.map .str .i64 x.2.2.2))]⟩),(none,some ((Dr x.1 x.2.1 x.2.2.1 x.2.2.2)),⟨35,2,[(2,.v (.int .i64 (IQ x.1 x.2.1 x.2.2.1 x.2.2.2)))],[(0,some (.map .str .i64 (Zq x.1 x.2.1 x.2.2.1 x.2.2.2)))]⟩)]
def EC (x:Br):Nat:=(x.2.1 - x.2.2.1).toNat
def Hk (x:Br):Br:=Bg Dt Ds (EC x) x
theorem Aie (a0:List TGroup) (a1:Int) (a2:Int) (a3:List (U .str×U .i64)):Bz (AA Bq4 L0) 9 (Aj Try.prog 131 1) SZ (J8 (a0,a1,a2,a3))=some (Pb (a0,a1,a2,a3),NI (a0,a1,a2,a3),Ds (a0,a1,a2,a3),J8 (Dt (a0,a1,a2,a3))):=by kernel_rfl
theorem Aif (a0:List TGroup) (a1:Int) (a2:Int) (a3:List (U .str×U .i64)) (hp:∀p∈FQ (a0,a1,a2,a3),p):∀p∈Pb (a0,a1,a2,a3),p:=by
 have n0:=N0 hp
 exact(Aa n0 Ab)
noncomputable def Pc:=H1 (AA Bq4 L0) (Aj Try.prog 131 1) SZ Al7 LD EC Dt Ds FQ NI
theorem Ac2:∀s b ps outs,Pc s=some (b,ps,outs)→Wf s ⟨ps,outs,none⟩∧Bx (AA C0 L0) b s ps outs:=
 Bm (T:=J8) A50 AH (u:=9) (by kernel_rfl) (by decide) (fun⟨a0,a1,a2,a3⟩=>Aie a0 a1 a2 a3) (fun⟨a0,a1,a2,a3⟩=>Aif a0 a1 a2 a3) Zr (fun _=>AW (n:=35) rfl) fun _ _=>rfl
noncomputable def SY:=DP 1 Pc L0
theorem Acz:Hr SY:=A6 Ac2 AH
def Eu (a0:List TGroup):Bool:=(↑a0.length:Int)==(0:Int)||decide ((↑a0.length:Int) >(4:Int))
def Pa (a0:List TGroup):List TGroup:=(Hk (a0,(↑a0.length:Int),(0:Int),[])).fst
def O9 (a0:List TGroup):Int:=(Hk (a0,(↑a0.length:Int),(0:Int),[])).snd.fst
def O8 (a0:List TGroup):List (U TC.str×U TC.i64):=(Hk (a0,(↑a0.length:Int),(0:Int),[])).snd.snd.snd
def O7 (a0:List TGroup):Int:=(Hk (a0,(↑a0.length:Int),(0:Int),[])).snd.snd.fst
def Kp (a0:List TGroup):Int:=bif(Eu a0) then bif(↑a0.length:Int)==(0:Int) then(2:Int) else(3:Int) else bif Dr (Pa a0) (O9 a0) (O7 a0) (O8 a0) then IQ (Pa a0) (O9 a0) (O7 a0) (O8 a0) else(0:Int)
def Rz (a0:List TGroup):A:=.v (.int .i64 (Kp a0))
def Aag (_a0:List TGroup):Objs:=[]
def Xx (a0:List TGroup):List Prop:=[((!(Eu a0))=true→AL Dt Ds FQ (EC (a0,(↑a0.length:Int),(0:Int),[])) (a0,(↑a0.length:Int),(0:Int),[]))]
theorem Ayj (a0:List TGroup):EQ (AA Bq4 SY) 9 131 [.sl .group a0] 0 []=some (1,Rz a0,0,Aag a0,[((!(Eu a0))=true→Aj Try.prog (131:FuncId) (1:Nat)=Aj Try.prog (131:FuncId) (1:Nat)),((!(Eu a0))=true→AL Dt Ds FQ (EC (a0,(↑a0.length:Int),(0:Int),[])) (a0,(↑a0.length:Int),(0:Int),[]))]):=by kernel_rfl
theorem A2m (a0:List TGroup) (hp:∀p∈Xx a0,p):CallOk Try.prog 131 [.sl .group a0] 0 [] 1 (Rz a0) 0 (Aag a0):=by
 have n0:((!(Eu a0))=true→Aj Try.prog (131:FuncId) (1:Nat)=Aj Try.prog (131:FuncId) (1:Nat)):=by intros;rfl
 have n1:=N0 hp
 exact AI (Aw A50 Acz) (Ayj a0) (Aa n0 (Aa n1 Ab))
def Xy (a0:List TGroup):A:=.v (.int .i64 (AY a0))
def Xw (_a0:List TGroup):Objs:=[]
def U0 (_a0:List TGroup):List Prop:=[]
theorem Xv (l:List TGroup):(∀p∈Xx l,p)∧Kp l=AY l:=by
 have e4:Eu l=(l.length==0||decide (4 <l.length)):=by
  unfold Eu
  rw[Ava]
  congr 1
  exact dgt l.length 4
 have main:Eu l=false→AL Dt Ds FQ (EC (l,(l.length:Int),0,[])) (l,(l.length:Int),0,[])∧Kp l=AY l:=fun h4=>by
  have hn4:l.length≤4:=by
   rw[e4] at h4
   have:=of_decide_eq_false (Bool.or_eq_false_iff.1 h4).2
   omega
  have hk0:∀i,i≤l.length→(∀j,j <i→VF l j=false)→Dr l (l.length:Int) (i:Int) (SO l i)=(decide (i <l.length)&&VF l i):=fun i hi hs=>by
   unfold Dr EB
   rw[Int.toNat_natCast,Av4,if_pos rfl,Av3 l i hi hs,nn,Mp]
   unfold VF
   congr 2
   cases((l.take i).map (·.name)).any (fun s=>s==(l.getD i (Ae TC.group)).1)<;>rfl
  obtain⟨h1,k,hk,hx,hs,hst⟩:=Bpp (fun i=>((l,(l.length:Int),(i:Int),SO l i):Br)) l.length (VF l) Dt Ds FQ (EC (l,(l.length:Int),0,[])) ((l,(l.length:Int),0,[]):Br) rfl
   (by show l.length≤((l.length:Int) - 0).toNat;omega)
   (fun i hi hs=>by
    show((!!decide ((i:Int) <(l.length:Int)))&&!Dr l (l.length:Int) (i:Int) (SO l i))=_
    rw[hk0 i hi hs,nn,Mp]
    cases decide (i <l.length)<;>rfl)
   (fun i hi hs=>by
    show(l,(l.length:Int),IntKind.i64.wrap ((i:Int)+1),EB l (l.length:Int) (i:Int) (SO l i))=(l,(l.length:Int),((i+1:Nat):Int),SO l (i+1))
    rw[Fp (by omega)]
    unfold EB
    rw[Int.toNat_natCast]
    rfl)
   (fun i hi hs=>Aa (fun h=>by
    have h':(!!decide ((i:Int) <(l.length:Int)))=true:=h
    rw[nn] at h'
    have:=of_decide_eq_true h'
    show(0:Int)≤(i:Int)∧(i:Int) <(l.length:Int)
    omega) Ab)
  refine⟨h1,?_⟩
  have hr:Hk (l,(l.length:Int),0,[])=(l,(l.length:Int),(k:Int),SO l k):=hx
  unfold Kp Pa O9 O8 O7
  rw[hr,h4,cond_false]
  show(bif Dr l (l.length:Int) (k:Int) (SO l k) then IQ l (l.length:Int) (k:Int) (SO l k) else 0)=_
  rw[hk0 k hk hs]
  rw[e4] at h4
  obtain⟨h5,h6⟩:=Bool.or_eq_false_iff.1 h4
  unfold AY
  rw[h5,h6,cond_false,cond_false,A4n l k [] (fun j hj hl=>by
   have:=hs j hj
   unfold VF at this
   obtain⟨q1,q2⟩:=Bool.or_eq_false_iff.1 this
   exact⟨by rw[Bool.not_eq_false'] at q1;exact q1,by simpa using q2⟩),List.nil_append]
  by_cases hkl:k <l.length
  ·have hst':=hst hkl
   rw[hst',decide_eq_true hkl,Bool.and_true,cond_true]
   have hd:l.drop k=l.getD k (Ae TC.group)::l.drop (k+1):=by
    rw[List.getD_eq_getElem?_getD,List.getElem?_eq_getElem hkl,Option.getD_some]
    exact List.drop_eq_getElem_cons hkl
   rw[hd]
   unfold Q5 IQ
   rw[Int.toNat_natCast]
   unfold VF at hst'
   show(bif !(IA (l.getD k (Ae TC.group)).1&&O6 (l.getD k (Ae TC.group)).2) then(2:Int) else 70)=bif !(IA (l.getD k (Ae TC.group)).1&&O6 (l.getD k (Ae TC.group)).2) then 2 else _
   cases hq:!(IA (l.getD k (Ae TC.group)).1&&O6 (l.getD k (Ae TC.group)).2) with
   |true=>rfl
   |false=>
    rw[hq,Bool.false_or] at hst'
    have hst2:((l.take k).map (·.name)).any (fun s=>s==(l.getD k (Ae TC.group)).name)=true:=hst'
    rw[cond_false,cond_false,hst2]
    rfl
  ·rw[decide_eq_false hkl,Bool.false_and,cond_false,List.drop_eq_nil_of_le (by omega)]
   rfl
 cases h4:Eu l with
 |false=>
  obtain⟨g1,g2⟩:=main h4
  exact⟨Aa (fun _=>g1) Ab,g2⟩
 | true=>
  refine⟨Aa (fun h=>by rw[h4] at h;cases h) Ab,?_⟩
  unfold Kp AY
  rw[h4,cond_true,Ava]
  rw[e4] at h4
  cases h5:l.length==0 with
  |true=>rfl
  |false=>
   rw[h5,Bool.false_or] at h4
   rw[h4]
   rfl
theorem Xu (a0:List TGroup) (_hp:∀p∈U0 a0,p):CallOk Try.prog 131 [.sl .group a0] 0 [] 1 (Xy a0) 0 (Xw a0):=by
 have h:=A2m a0 (Xv a0).1
 unfold Rz at h
 rw[(Xv a0).2] at h
 exact h
def RA:List A→Nat→Objs→Option Bb
 | [y0],nx,o=>match Kh .group y0 with
  |some a0=>some (1,(Xy a0).pk (AF nx),nx+0,AE nx (Xw a0)++o,U0 a0)
  |_=>none
 |_,_,_=>none
theorem Aso:Ft Try.prog 131 RA:=fun args nx o k x nx' o' ps h=>by
 unfold RA at h
 split at h<;>first|(cases h;done)|skip
 split at h<;>first|(cases h;done)|skip
 rename_i a0 e0
 cases h
 refine⟨fun hp=>?_,_,rfl⟩
 refine Ah (Ag (Xu a0 hp) (Nat.le_refl _) (Ac rfl Ao) nx o) fun F N R vs hl=>?_
 obtain⟨v0,w0,rfl,h0,hl⟩:=hl.inv
 exact HL.cons (BX e0 h0) (hl)
noncomputable def Bq5:=A7 131 RA Bq4
theorem A51:Dd Try.prog Bq5:=Av Aso A50
abbrev DG:Type:=ByteArray×Int
def My (x:DG):St:=⟨28,0,[(0,.v (.string x.1)),(3,.v (.int .i64 x.2))],[]⟩
def Pi:St→Option DG
 |⟨28,0,[(0,.v (.string z0)),(3,.v (.int .i64 z1))],[]⟩=>some (z0,z1)
 |_=>none
theorem Amg:∀s x,Pi s=some x→s=My x:=fun s x h=>by
 unfold Pi at h
 split at h
 ·cases h;rfl
 ·cases h
def Aam:Dj:=⟨0,0,[0,3],[],[],[],[2],[]⟩
def A2r:DB:=⟨[],[],[0,3],[]⟩
def E5 (a0:ByteArray) (a1:Int):Bool:=!!decide (a1 <(↑a0.size:Int))
def E4 (a0:ByteArray) (a1:Int):Bool:=(E5 a0 a1)&&(decide ((↑(a0.data.toList.getD a1.toNat (0:UInt8)).toNat:Int) <(97:Int))||decide ((↑(a0.data.toList.getD a1.toNat (0:UInt8)).toNat:Int) >(122:Int)))
def Asy (a0:ByteArray) (a1:Int):Bool:=(E5 a0 a1)&&!(E4 a0 a1)
def GQ (x:DG):DG:=(x.1,IntKind.i64.wrap (x.2+(1:Int)))
def GP (x:DG):Cnd:=some (Asy x.1 x.2)
def Va (x:DG):List Prop:=[((E5 x.1 x.2)=true→(0:Int)≤x.2∧x.2 <(↑x.1.size:Int)),((E5 x.1 x.2)=true→decide ((↑(x.1.data.toList.getD x.2.toNat (0:UInt8)).toNat:Int) <(97:Int))=false→(0:Int)≤x.2∧x.2 <(↑x.1.size:Int))]
def JF (x:DG):List Prop:=[((E5 x.1 x.2)=true→(0:Int)≤x.2∧x.2 <(↑x.1.size:Int)),((E5 x.1 x.2)=true→decide ((↑(x.1.data.toList.getD x.2.toNat (0:UInt8)).toNat:Int) <(97:Int))=false→(0:Int)≤x.2∧x.2 <(↑x.1.size:Int))]
def S4 (x:DG):Bo:=[(some 0,some (!decide (x.2 <(↑x.1.size:Int))),⟨28,0,[(2,.dead)],[]⟩),(none,some ((E4 x.1 x.2)),⟨28,0,[(2,.v (.bool (false)))],[]⟩)]
def Ik (x:DG):Nat:=((↑x.1.size:Int) - x.2).toNat
def Np (x:DG):DG:=Bg GQ GP (Ik x) x
theorem Ayw (a0:ByteArray) (a1:Int):Bz (AA Bq5 L0) 9 (Aj Try.prog 163 0) Aam (My (a0,a1))=some (Va (a0,a1),S4 (a0,a1),GP (a0,a1),My (GQ (a0,a1))):=by kernel_rfl
theorem Ayx (a0:ByteArray) (a1:Int) (hp:∀p∈JF (a0,a1),p):∀p∈Va (a0,a1),p:=by
 have n0:=N0 hp
 have n1:=N0 (N1 hp)
 exact(Aa n0 (Aa n1 Ab))
noncomputable def Vb:=H1 (AA Bq5 L0) (Aj Try.prog 163 0) Aam A2r Pi Ik GQ GP JF S4
theorem Asz:∀s b ps outs,Vb s=some (b,ps,outs)→Wf s ⟨ps,outs,none⟩∧Bx (AA C0 L0) b s ps outs:=
 Bm (T:=My) A51 AH (u:=9) (by kernel_rfl) (by decide) (fun⟨a0,a1⟩=>Ayw a0 a1) (fun⟨a0,a1⟩=>Ayx a0 a1) Amg (fun _=>AW (n:=28) rfl) fun _ _=>rfl
noncomputable def Aal:=DP 0 Vb L0
theorem Asx:Hr Aal:=A6 Asz AH
def Adi (a0:ByteArray):Bool:=bif E4 (Np (a0,(0:Int))).fst (Np (a0,(0:Int))).snd then false else decide ((↑a0.size:Int)≥(1:Int))&&decide ((↑a0.size:Int)≤(12:Int))
def Adj (a0:ByteArray):A:=.v (.bool (Adi a0))
def Ayy (_a0:ByteArray):Objs:=[]
def Apo (a0:ByteArray):List Prop:=[(AL GQ GP JF (Ik (a0,(0:Int))) (a0,(0:Int)))]
theorem Be9 (a0:ByteArray):EQ (AA Bq5 Aal) 9 163 [Ak .str a0] 0 []=some (1,Adj a0,0,Ayy a0,[(Aj Try.prog (163:FuncId) (0:Nat)=Aj Try.prog (163:FuncId) (0:Nat)),(AL GQ GP JF (Ik (a0,(0:Int))) (a0,(0:Int)))]):=by kernel_rfl
theorem Bjc (a0:ByteArray) (hp:∀p∈Apo a0,p):CallOk Try.prog 163 [Ak .str a0] 0 [] 1 (Adj a0) 0 (Ayy a0):=by
 have n1:=N0 hp
 exact AI (Aw A51 Asx) (Be9 a0) (Aa rfl (Aa n1 Ab))
def App (a0:ByteArray):A:=.v (.bool (IA a0))
def Apn (_a0:ByteArray):Objs:=[]
def Aik (a0:ByteArray):List Prop:=[Az a0.size]
theorem Apm (g:ByteArray) (hb:Az g.size):(∀p∈Apo g,p)∧Adi g=IA g:=by
 unfold Az at hb
 have hlow:∀i,(decide ((((g.data.toList.getD i 0).toNat:Nat):Int) <97)||decide ((((g.data.toList.getD i 0).toNat:Nat):Int) >122))=!WR (g.data.toList.getD i 0):=fun i=>by
  unfold WR
  rw[Bool.not_and,←decide_not,←decide_not]
  congr 1<;>exact decide_eq_decide.2 (by omega)
 have hk0:∀i:Nat,E4 g (i:Int)=(decide (i <g.size)&&!WR (g.data.toList.getD i 0)):=fun i=>by
  unfold E4 E5
  rw[nn,Mp,Int.toNat_natCast,hlow]
 obtain⟨h1,k,hk,hx,hs,hst⟩:=Bpp (fun i=>((g,(i:Int)):ByteArray×Int)) g.size (fun i=>!WR (g.data.toList.getD i 0)) GQ GP JF (Ik (g,0)) (g,0) rfl (by show g.size≤((g.size:Int) - 0).toNat;omega)
  (fun i _ _=>by
   show((!!decide ((i:Int) <(g.size:Int)))&&!E4 g i)=_
   rw[hk0,nn,Mp]
   cases decide (i <g.size)<;>rfl)
  (fun i hi hj=>by
   show(g,IntKind.i64.wrap ((i:Int)+1))=(g,((i+1:Nat):Int))
   rw[Fp (by omega)])
  (fun i _ _=>Aa (fun h=>by
    have h':(!!decide ((i:Int) <(g.size:Int)))=true:=h
    rw[nn] at h'
    have:=of_decide_eq_true h'
    show(0:Int)≤(i:Int)∧(i:Int) <(g.size:Int)
    omega) (Aa (fun h _=>by
    have h':(!!decide ((i:Int) <(g.size:Int)))=true:=h
    rw[nn] at h'
    have:=of_decide_eq_true h'
    show(0:Int)≤(i:Int)∧(i:Int) <(g.size:Int)
    omega) Ab))
 refine⟨Aa h1 Ab,?_⟩
 have hr:Np (g,0)=(g,(k:Int)):=hx
 have ha:g.data.toList.all WR=decide (¬k <g.size):=by
  have:=Bb4 g.data.toList 0 WR k (by rw[KZ];exact hk) (fun j hj=>by simpa using hs j hj) (fun h=>by rw[KZ] at h;simpa using hst h)
  rw[KZ] at this
  exact this
 unfold Adi
 rw[hr]
 show(bif E4 g (k:Int) then false else decide ((g.size:Int)≥1)&&decide ((g.size:Int)≤12))=_
 rw[hk0]
 unfold IA
 rw[ha,show decide ((g.size:Int)≥1)=decide (1≤g.size) from decide_eq_decide.2 (by omega),show decide ((g.size:Int)≤12)=decide (g.size≤12) from decide_eq_decide.2 (by omega)]
 by_cases h:k <g.size
 ·rw[hst h,decide_eq_true h,decide_eq_false (not_not_intro h)]
  rfl
 ·rw[decide_eq_false h,decide_eq_true h]
  rfl
theorem Be8 (a0:ByteArray) (hp:∀p∈Aik a0,p):CallOk Try.prog 163 [Ak .str a0] 0 [] 1 (App a0) 0 (Apn a0):=by
 have hb:Az a0.size:=hp _ (List.mem_cons_self ..)
 have h:=Bjc a0 (Apm a0 hb).1
 unfold Adj at h
 rw[(Apm a0 hb).2] at h
 exact h
def Adk:List A→Nat→Objs→Option Bb
 | [y0],nx,o=>match AQ .str y0 with
  |some (a0,p0)=>some (1,(App a0).pk (AF nx),nx+0,AE nx (Apn a0)++o,p0++(Aik a0))
  |_=>none
 |_,_,_=>none
theorem A83:Ft Try.prog 163 Adk:=fun args nx o k x nx' o' ps h=>by
 unfold Adk at h
 split at h<;>first|(cases h;done)|skip
 split at h<;>first|(cases h;done)|skip
 rename_i a0 p0 e0
 cases h
 refine⟨fun hp=>?_,_,rfl⟩
 have q0:=fun p hm=>hp p (List.mem_append.2 (.inl hm))
 have r0:=fun p hm=>hp p (List.mem_append.2 (.inr hm))
 refine Ah (Ag (Be8 a0 r0) (Nat.le_refl _) (Ac (Af _ _) Ao) nx o) fun F N R vs hl=>?_
 obtain⟨v0,w0,rfl,h0,hl⟩:=hl.inv
 exact HL.cons (Am e0 q0 h0) (hl)
noncomputable def Bhd:=A7 163 Adk Bq5
theorem Auf:Dd Try.prog Bhd:=Av A83 A51
abbrev C6:Type:=(List TGroup)×Int×Int
def Mx (x:C6):St:=⟨56,0,[(0,.sl .group x.1),(3,.v (.int .i64 x.2.1)),(4,.v (.int .i64 x.2.2))],[]⟩
def Ph:St→Option C6
 |⟨56,0,[(0,.sl .group z0),(3,.v (.int .i64 z1)),(4,.v (.int .i64 z2))],[]⟩=>some (z0,z1,z2)
 |_=>none
theorem Amf:∀s x,Ph s=some x→s=Mx x:=fun s x h=>by
 unfold Ph at h
 split at h
 ·cases h;rfl
 ·cases h
def Aak:Dj:=⟨0,0,[0,3,4],[],[],[],[2],[]⟩
def A2q:DB:=⟨[],[],[0,3,4],[]⟩
def D1 (a0:List TGroup) (a1:Int) (a2:Int):Bool:=!!decide (a2 <a1)&&(a0.getD a2.toNat (Ae TC.group)).1.toList==(a0.getD a1.toNat (Ae TC.group)).1.toList
def Asv (a0:List TGroup) (a1:Int) (a2:Int):Bool:=!!decide (a2 <a1)&&!(D1 a0 a1 a2)
def E3 (x:C6):C6:=(x.1,x.2.1,IntKind.i64.wrap (x.2.2+(1:Int)))
def E2 (x:C6):Cnd:=some (Asv x.1 x.2.1 x.2.2)
def U8 (x:C6):List Prop:=[((!!decide (x.2.2 <x.2.1))=true→(0:Int)≤x.2.2∧x.2.2 <(↑x.1.length:Int)),((!!decide (x.2.2 <x.2.1))=true→(0:Int)≤x.2.1∧x.2.1 <(↑x.1.length:Int))]
def Ij (x:C6):List Prop:=[((!!decide (x.2.2 <x.2.1))=true→(0:Int)≤x.2.2∧x.2.2 <(↑x.1.length:Int)),((!!decide (x.2.2 <x.2.1))=true→(0:Int)≤x.2.1∧x.2.1 <(↑x.1.length:Int))]
def S3 (x:C6):Bo:=[(some 2,some (!decide (x.2.2 <x.2.1)),⟨56,0,[(2,.dead)],[]⟩),(none,some ((D1 x.1 x.2.1 x.2.2)),⟨56,0,[(2,.v (.int .i64 ((70:Int))))],[]⟩)]
def GO (x:C6):Nat:=(x.2.1 - x.2.2).toNat
def Gc (x:C6):C6:=Bg E3 E2 (GO x) x
theorem Ayt (a0:List TGroup) (a1:Int) (a2:Int):Bz (AA Bhd L0) 9 (Aj Try.prog 128 2) Aak (Mx (a0,a1,a2))=some (U8 (a0,a1,a2),S3 (a0,a1,a2),E2 (a0,a1,a2),Mx (E3 (a0,a1,a2))):=by kernel_rfl
theorem Ayu (a0:List TGroup) (a1:Int) (a2:Int) (hp:∀p∈Ij (a0,a1,a2),p):∀p∈U8 (a0,a1,a2),p:=by
 have n0:=N0 hp
 have n1:=N0 (N1 hp)
 exact(Aa n0 (Aa n1 Ab))
noncomputable def U9:=H1 (AA Bhd L0) (Aj Try.prog 128 2) Aak A2q Ph GO E3 E2 Ij S3
theorem Asw:∀s b ps outs,U9 s=some (b,ps,outs)→Wf s ⟨ps,outs,none⟩∧Bx (AA C0 L0) b s ps outs:=
 Bm (T:=Mx) Auf AH (u:=9) (by kernel_rfl) (by decide) (fun⟨a0,a1,a2⟩=>Ayt a0 a1 a2) (fun⟨a0,a1,a2⟩=>Ayu a0 a1 a2) Amf (fun _=>AW (n:=56) rfl) fun _ _=>rfl
noncomputable def Mw:=DP 2 U9 L0
theorem U7:Hr Mw:=A6 Asw AH
abbrev Cy:Type:=(List TGroup)×Int
def Mu (x:Cy):St:=⟨56,0,[(0,.sl .group x.1),(3,.v (.int .i64 x.2))],[]⟩
def Pg:St→Option Cy
 |⟨56,0,[(0,.sl .group z0),(3,.v (.int .i64 z1))],[]⟩=>some (z0,z1)
 |_=>none
theorem Ame:∀s x,Pg s=some x→s=Mu x:=fun s x h=>by
 unfold Pg at h
 split at h
 ·cases h;rfl
 ·cases h
def Aaj:Dj:=⟨0,0,[0,3],[],[],[],[2],[]⟩
def A2p:DB:=⟨[],[],[0,3],[]⟩
def Be (a0:List TGroup) (a1:Int):Bool:=!!decide (a1 <(↑a0.length:Int))
def D0 (a0:List TGroup) (a1:Int):Bool:=!IA (a0.getD a1.toNat (Ae TC.group)).1||(a0.getD a1.toNat (Ae TC.group)).2 !=(1:Int)&&(a0.getD a1.toNat (Ae TC.group)).2 !=(2:Int)
def EZ (a0:List TGroup) (a1:Int):Bool:=(Be a0 a1)&&((D0 a0 a1)||D1 (Gc (a0,a1,(0:Int))).fst (Gc (a0,a1,(0:Int))).snd.fst (Gc (a0,a1,(0:Int))).snd.snd)
def Ast (a0:List TGroup) (a1:Int):Bool:=(Be a0 a1)&&!(EZ a0 a1)
def J9 (a0:List TGroup) (a1:Int):Int:=bif(D0 a0 a1) then(2:Int) else(70:Int)
def E1 (x:Cy):Cy:=(x.1,IntKind.i64.wrap (x.2+(1:Int)))
def E0 (x:Cy):Cnd:=some (Ast x.1 x.2)
def U5 (x:Cy):List Prop:=[((Be x.1 x.2)=true→(0:Int)≤x.2∧x.2 <(↑x.1.length:Int)),((Be x.1 x.2)=true→Az (x.1.getD x.2.toNat (Ae TC.group)).1.size),((Be x.1 x.2)=true→(!IA (x.1.getD x.2.toNat (Ae TC.group)).1)=false→(0:Int)≤x.2∧x.2 <(↑x.1.length:Int)),((Be x.1 x.2)=true→((x.1.getD x.2.toNat (Ae TC.group)).2 !=(1:Int))=true→(!IA (x.1.getD x.2.toNat (Ae TC.group)).1)=false→(0:Int)≤x.2∧x.2 <(↑x.1.length:Int)),((Be x.1 x.2)=true→(!(D0 x.1 x.2))=true→Aj Try.prog (128:FuncId) (2:Nat)=Aj Try.prog (128:FuncId) (2:Nat)),((Be x.1 x.2)=true→(!(D0 x.1 x.2))=true→AL E3 E2 Ij (GO (x.1,x.2,(0:Int))) (x.1,x.2,(0:Int)))]
def Ii (x:Cy):List Prop:=[((Be x.1 x.2)=true→(0:Int)≤x.2∧x.2 <(↑x.1.length:Int)),((Be x.1 x.2)=true→Az (x.1.getD x.2.toNat (Ae TC.group)).1.size),((Be x.1 x.2)=true→(!IA (x.1.getD x.2.toNat (Ae TC.group)).1)=false→(0:Int)≤x.2∧x.2 <(↑x.1.length:Int)),((Be x.1 x.2)=true→((x.1.getD x.2.toNat (Ae TC.group)).2 !=(1:Int))=true→(!IA (x.1.getD x.2.toNat (Ae TC.group)).1)=false→(0:Int)≤x.2∧x.2 <(↑x.1.length:Int)),((Be x.1 x.2)=true→(!(D0 x.1 x.2))=true→AL E3 E2 Ij (GO (x.1,x.2,(0:Int))) (x.1,x.2,(0:Int)))]
def S2 (x:Cy):Bo:=[(some 0,some (!decide (x.2 <(↑x.1.length:Int))),⟨56,0,[(2,.dead)],[]⟩),(none,some ((EZ x.1 x.2)),⟨56,0,[(2,.v (.int .i64 (J9 x.1 x.2)))],[]⟩)]
def GN (x:Cy):Nat:=((↑x.1.length:Int) - x.2).toNat
def No (x:Cy):Cy:=Bg E1 E0 (GN x) x
theorem Ayr (a0:List TGroup) (a1:Int):Bz (AA Bhd Mw) 9 (Aj Try.prog 128 0) Aaj (Mu (a0,a1))=some (U5 (a0,a1),S2 (a0,a1),E0 (a0,a1),Mu (E1 (a0,a1))):=by kernel_rfl
theorem Ays (a0:List TGroup) (a1:Int) (hp:∀p∈Ii (a0,a1),p):∀p∈U5 (a0,a1),p:=by
 have n0:=N0 hp
 have n1:=N0 (N1 hp)
 have n2:=N0 (N1 (N1 hp))
 have n3:=N0 (N1 (N1 (N1 hp)))
 have n4:((Be a0 a1)=true→(!(D0 a0 a1))=true→Aj Try.prog (128:FuncId) (2:Nat)=Aj Try.prog (128:FuncId) (2:Nat)):=by intros;rfl
 have n5:=N0 (N1 (N1 (N1 (N1 hp))))
 exact(Aa n0 (Aa n1 (Aa n2 (Aa n3 (Aa n4 (Aa n5 Ab))))))
noncomputable def U6:=H1 (AA Bhd Mw) (Aj Try.prog 128 0) Aaj A2p Pg GN E1 E0 Ii S2
theorem Asu:∀s b ps outs,U6 s=some (b,ps,outs)→Wf s ⟨ps,outs,none⟩∧Bx (AA C0 L0) b s ps outs:=
 Bm (T:=Mu) Auf U7 (u:=9) (by kernel_rfl) (by decide) (fun⟨a0,a1⟩=>Ayr a0 a1) (fun⟨a0,a1⟩=>Ays a0 a1) Ame (fun _=>AW (n:=56) rfl) fun _ _=>rfl
noncomputable def Aai:=DP 0 U6 Mw
theorem Ass:Hr Aai:=A6 Asu U7
def XJ (a0:List TGroup):Int:=(No (a0,(0:Int))).snd
def XI (a0:List TGroup):List TGroup:=(No (a0,(0:Int))).fst
def HQ (a0:List TGroup):Bool:=(↑a0.length:Int)==(0:Int)
def IB (a0:List TGroup):Bool:=decide ((↑a0.length:Int) >(4:Int))
def Mh (a0:List TGroup):Int:=bif(HQ a0) then(2:Int) else bif(IB a0) then(3:Int) else bif EZ (XI a0) (XJ a0) then J9 (XI a0) (XJ a0) else(0:Int)
def Adg (a0:List TGroup):A:=.v (.int .i64 (Mh a0))
def Ayv (_a0:List TGroup):Objs:=[]
def Apk (a0:List TGroup):List Prop:=[((!(HQ a0))=true→(!(IB a0))=true→AL E1 E0 Ii (GN (a0,(0:Int))) (a0,(0:Int)))]
theorem Be7 (a0:List TGroup):EQ (AA Bhd Aai) 9 128 [.sl .group a0] 0 []=some (1,Adg a0,0,Ayv a0,[((!(HQ a0))=true→(!(IB a0))=true→Aj Try.prog (128:FuncId) (0:Nat)=Aj Try.prog (128:FuncId) (0:Nat)),((!(HQ a0))=true→(!(IB a0))=true→AL E1 E0 Ii (GN (a0,(0:Int))) (a0,(0:Int)))]):=by kernel_rfl
theorem Bjb (a0:List TGroup) (hp:∀p∈Apk a0,p):CallOk Try.prog 128 [.sl .group a0] 0 [] 1 (Adg a0) 0 (Ayv a0):=by
 have n0:((!(HQ a0))=true→(!(IB a0))=true→Aj Try.prog (128:FuncId) (0:Nat)=Aj Try.prog (128:FuncId) (0:Nat)):=by intros;rfl
 have n1:=N0 hp
 exact AI (Aw Auf Ass) (Be7 a0) (Aa n0 (Aa n1 Ab))
def Apl (a0:List TGroup):A:=.v (.int .i64 (AY a0))
def Apj (_a0:List TGroup):Objs:=[]
def Aij (a0:List TGroup):List Prop:=[∀g∈a0,Az g.name.size]
theorem tlb (a b:ByteArray):(a.toList==b.toList)=(a==b):=by
 rw[Bool.eq_iff_iff,A63,beq_iff_eq]
theorem Bn8 (l:List TGroup) (x:ByteArray) (i k:Nat) (hi:i≤l.length) (hk:k≤i) (h1:∀j,j <k→((l.getD j (Ae TC.group)).1==x)=false) (h2:k <i→((l.getD k (Ae TC.group)).1==x)=true):((l.take i).map (·.name)).any (fun s=>s==x)=decide (k <i):=by
 rw[List.any_map]
 by_cases h:k <i
 ·rw[decide_eq_true h]
  refine List.any_eq_true.2 ⟨l.getD k (Ae TC.group),?_,h2 h⟩
  rw[List.getD_eq_getElem?_getD,List.getElem?_eq_getElem (by omega),Option.getD_some]
  exact List.mem_take_iff_getElem.2 ⟨k,by omega,rfl⟩
 ·rw[decide_eq_false h]
  refine Bool.eq_false_iff.2 fun ha=>?_
  obtain⟨g,hg,hx⟩:=List.any_eq_true.1 ha
  obtain⟨j,hj,rfl⟩:=List.mem_take_iff_getElem.1 hg
  have:=h1 j (by omega)
  rw[List.getD_eq_getElem?_getD,List.getElem?_eq_getElem (by omega),Option.getD_some] at this
  have hx':(l[j].1==x)=true:=hx
  rw[this] at hx'
  cases hx'
theorem A48 (l:List TGroup) (hl:l.length≤4) (i:Nat) (hi:i <l.length):
  AL E3 E2 Ij (GO (l,(i:Int),0)) (l,(i:Int),0)∧
  D1 (Gc (l,(i:Int),0)).fst (Gc (l,(i:Int),0)).snd.fst (Gc (l,(i:Int),0)).snd.snd=((l.take i).map (·.name)).any (fun s=>s==(l.getD i (Ae TC.group)).1):=by
 have hk0:∀k:Nat,D1 l (i:Int) (k:Int)=(decide (k <i)&&((l.getD k (Ae TC.group)).1==(l.getD i (Ae TC.group)).1)):=fun k=>by
  unfold D1
  rw[nn,Mp,Int.toNat_natCast,Int.toNat_natCast,tlb]
 obtain⟨h1,k,hk,hx,hs,hst⟩:=Bpp (fun k=>((l,(i:Int),(k:Int)):C6)) i (fun k=>(l.getD k (Ae TC.group)).1==(l.getD i (Ae TC.group)).1) E3 E2 Ij (GO (l,(i:Int),0)) (l,(i:Int),0) rfl (by show i≤((i:Int) - 0).toNat;omega)
  (fun k _ _=>by
   show((!!decide ((k:Int) <(i:Int)))&&!D1 l i k)=_
   rw[hk0,nn,Mp]
   cases decide (k <i)<;>rfl)
  (fun k hk _=>by
   show(l,(i:Int),IntKind.i64.wrap ((k:Int)+1))=(l,(i:Int),((k+1:Nat):Int))
   rw[Fp (by omega)])
  (fun k _ _=>Aa (fun h=>by
    have h':(!!decide ((k:Int) <(i:Int)))=true:=h
    rw[nn] at h'
    have:=of_decide_eq_true h'
    show(0:Int)≤(k:Int)∧(k:Int) <(l.length:Int)
    omega) (Aa (fun _=>by
    show(0:Int)≤(i:Int)∧(i:Int) <(l.length:Int)
    omega) Ab))
 refine⟨h1,?_⟩
 have hr:Gc (l,(i:Int),0)=(l,(i:Int),(k:Int)):=hx
 rw[hr]
 show D1 l (i:Int) (k:Int)=_
 rw[hk0,Bn8 l _ i k (by omega) hk hs hst]
 by_cases h:k <i
 ·rw[hst h,Bool.and_true]
 ·rw[decide_eq_false h,Bool.false_and]
theorem Api (l:List TGroup) (hb:∀g∈l,Az g.name.size):(∀p∈Apk l,p)∧Mh l=AY l:=by
 have main:HQ l=false→IB l=false→AL E1 E0 Ii (GN (l,0)) (l,0)∧Mh l=AY l:=fun h1 h0=>by
  have hn4:l.length≤4:=by have h:=of_decide_eq_false h0;omega
  have hf1:∀i:Nat,D0 l (i:Int)=!(IA (l.getD i (Ae TC.group)).1&&O6 (l.getD i (Ae TC.group)).2):=fun i=>by
   unfold D0 O6
   rw[Int.toNat_natCast,Bool.not_and]
   congr 1
   simp[bne]
  have hk0:∀i:Nat,EZ l (i:Int)=(decide (i <l.length)&&VF l i):=fun i=>by
   unfold EZ Be
   rw[hf1,nn,Mp]
   by_cases hi:i <l.length
   ·rw[(A48 l hn4 i hi).2];rfl
   ·rw[decide_eq_false hi];rfl
  obtain⟨g1,k,hk,hx,hs,hst⟩:=Bpp (fun i=>((l,(i:Int)):Cy)) l.length (VF l) E1 E0 Ii (GN (l,0)) ((l,0):Cy) rfl
   (by show l.length≤((l.length:Int) - 0).toNat;omega)
   (fun i hi hs=>by
    show((!!decide ((i:Int) <(l.length:Int)))&&!EZ l (i:Int))=_
    rw[hk0 i,nn,Mp]
    cases decide (i <l.length)<;>rfl)
   (fun i hi hs=>by
    show(l,IntKind.i64.wrap ((i:Int)+1))=(l,((i+1:Nat):Int))
    rw[Fp (by omega)])
   (fun i hi hs=>by
    have hlt:(!!decide ((i:Int) <(l.length:Int)))=true→i <l.length:=fun h=>by
     rw[nn] at h
     have:=of_decide_eq_true h
     omega
    have hin:(!!decide ((i:Int) <(l.length:Int)))=true→(0:Int)≤(i:Int)∧(i:Int) <(l.length:Int):=fun h=>by
     have:=hlt h
     omega
    exact Aa hin (Aa (fun h=>by
     have:=hlt h
     show Az (l.getD i (Ae TC.group)).1.size
     rw[List.getD_eq_getElem?_getD,List.getElem?_eq_getElem this,Option.getD_some]
     exact hb _ (List.getElem_mem this)) (Aa (fun h _=>hin h) (Aa (fun h _ _=>hin h) (Aa (fun h _=>(A48 l hn4 i (hlt h)).1) Ab)))))
  refine⟨g1,?_⟩
  have hr:No (l,0)=(l,(k:Int)):=hx
  unfold Mh XJ XI
  rw[hr,h1,h0,cond_false,cond_false]
  show(bif EZ l (k:Int) then J9 l (k:Int) else 0)=_
  rw[hk0 k]
  have e1:(l.length==0)=false:=by rw[←Ava];exact h1
  have e2:decide (4 <l.length)=false:=decide_eq_false (by omega)
  unfold AY
  rw[e1,e2,cond_false,cond_false,A4n l k [] (fun j hj hl=>by
   have:=hs j hj
   unfold VF at this
   obtain⟨q1,q2⟩:=Bool.or_eq_false_iff.1 this
   exact⟨by rw[Bool.not_eq_false'] at q1;exact q1,by simpa using q2⟩),List.nil_append]
  by_cases hkl:k <l.length
  ·have hst':=hst hkl
   rw[hst',decide_eq_true hkl,Bool.and_true,cond_true]
   have hd:l.drop k=l.getD k (Ae TC.group)::l.drop (k+1):=by
    rw[List.getD_eq_getElem?_getD,List.getElem?_eq_getElem hkl,Option.getD_some]
    exact List.drop_eq_getElem_cons hkl
   rw[hd]
   unfold Q5 J9
   rw[hf1]
   unfold VF at hst'
   show(bif !(IA (l.getD k (Ae TC.group)).1&&O6 (l.getD k (Ae TC.group)).2) then(2:Int) else 70)=bif !(IA (l.getD k (Ae TC.group)).1&&O6 (l.getD k (Ae TC.group)).2) then 2 else _
   cases hq:!(IA (l.getD k (Ae TC.group)).1&&O6 (l.getD k (Ae TC.group)).2) with
   |true=>rfl
   |false=>
    rw[hq,Bool.false_or] at hst'
    have hst2:((l.take k).map (·.name)).any (fun s=>s==(l.getD k (Ae TC.group)).name)=true:=hst'
    rw[cond_false,cond_false,hst2]
    rfl
  ·rw[decide_eq_false hkl,Bool.false_and,cond_false,List.drop_eq_nil_of_le (by omega)]
   rfl
 cases h1:HQ l with
 |true=>
  refine⟨Aa (fun h=>by rw[h1] at h;cases h) Ab,?_⟩
  unfold Mh AY
  rw[h1,cond_true,←Ava]
  unfold HQ at h1
  rw[h1]
  rfl
 | false=>
  cases h0:IB l with
  |true=>
   refine⟨Aa (fun _ h=>by rw[h0] at h;cases h) Ab,?_⟩
   unfold Mh AY
   rw[h1,h0,cond_false,cond_true,←Ava]
   unfold HQ at h1
   rw[h1,cond_false,←dgt l.length 4]
   unfold IB at h0
   rw[show(decide ((l.length:Int) >((4:Nat):Int)))=true from h0]
   rfl
  |false=>
   obtain⟨g1,g2⟩:=main h1 h0
   exact⟨Aa (fun _ _=>g1) Ab,g2⟩
theorem Be6 (a0:List TGroup) (hp:∀p∈Aij a0,p):CallOk Try.prog 128 [.sl .group a0] 0 [] 1 (Apl a0) 0 (Apj a0):=by
 have hb:∀g∈a0,Az g.name.size:=hp _ (List.mem_cons_self ..)
 have h:=Bjb a0 (Api a0 hb).1
 unfold Adg at h
 rw[(Api a0 hb).2] at h
 exact h
def Adh:List A→Nat→Objs→Option Bb
 | [y0],nx,o=>match Kh .group y0 with
  |some a0=>some (1,(Apl a0).pk (AF nx),nx+0,AE nx (Apj a0)++o,Aij a0)
  |_=>none
 |_,_,_=>none
theorem A82:Ft Try.prog 128 Adh:=fun args nx o k x nx' o' ps h=>by
 unfold Adh at h
 split at h<;>first|(cases h;done)|skip
 split at h<;>first|(cases h;done)|skip
 rename_i a0 e0
 cases h
 refine⟨fun hp=>?_,_,rfl⟩
 refine Ah (Ag (Be6 a0 hp) (Nat.le_refl _) (Ac rfl Ao) nx o) fun F N R vs hl=>?_
 obtain⟨v0,w0,rfl,h0,hl⟩:=hl.inv
 exact HL.cons (BX e0 h0) (hl)
noncomputable def B1y:=A7 128 Adh Bhd
theorem Bv0:Dd Try.prog B1y:=Av A82 Auf
noncomputable def Ch:=B1y
theorem B1z:Dd Try.prog Ch:=Bv0
end Go.Proofs.Yteebobbhhgmeiaa
namespace Go.Proofs.Yteebobbhhgmeiaa
open Go.RowKit Go.Shelf
attribute [local go_sem] Oper.semAt_some
def gV (g:TGroup):Value:=.agg #[.string g.name,.int .i64 g.policy]
def cV (c:TCell):Value:=.agg #[.int .i64 c.stamp.n,.int .i64 c.stamp.site,.int .i64 c.vec.a,.int .i64 c.vec.b,.bool c.gone,.string c.value,.int .i64 c.dead.a,.int .i64 c.dead.b]
structure KB (n₀ X:Nat) (W W':World):Prop where
 os:W'.os=W.os
 tape:W'.tape=W.tape
 output:W'.output=W.output
 size:W.heap.size≤W'.heap.size
 block:∀k,k <n₀→k≠X→W'.heap[k]?=W.heap[k]?
theorem KB.refl (n₀ X:Nat) (W:World):KB n₀ X W W:=⟨rfl,rfl,rfl,Nat.le_refl _,fun _ _ _=>rfl⟩
theorem KB.trans {n₀ X:Nat} {A B C:World} (h:KB n₀ X A B) (k:KB n₀ X B C):KB n₀ X A C:=
 ⟨k.os.trans h.os,k.tape.trans h.tape,k.output.trans h.output,Nat.le_trans h.size k.size,fun i h1 h2=>(k.block i h1 h2).trans (h.block i h1 h2)⟩
theorem KB.of_below {n₀ X:Nat} {A B:World} (h:Below n₀ A B):KB n₀ X A B:=⟨h.os,h.tape,h.output,h.size,fun k hk _=>h.block k hk⟩
theorem KB.cell {n₀ X:Nat} {A B:World} {p:Addr} (h:KB n₀ X A B) (hp:p.block <n₀) (hx:p.block≠X):B.cell? p=A.cell? p:=World.cell?_of_block (h.block _ hp hx)
theorem KB.putObj {n₀ X:Nat} {w:World} (hn:n₀≤w.heap.size) (W:World) (l:Nat) (o o':Obj) (hl:w.heap.size≤l) (h:W.heap[l]?=some o) (h1:o.isCells=false) (h2:o.isWalk=false):KB n₀ X W (W.putObj l o'):=
 KB.of_below (belowK_b hn W l o o' hl h h1 h2)
def GsAt (n₀ X:Nat) (W:World) (b off:Nat) (l:List TGroup):Prop:=(b <n₀∧b≠X)∧∀j g,l[j]?=some g→W.cell? ⟨b,off+j*2,none⟩=some (.string g.name)∧W.cell? ⟨b,off+j*2+1,none⟩=some (.int .i64 g.policy)
def CsAt (n₀ X:Nat) (W:World) (b off:Nat) (l:List TCell):Prop:=(b <n₀∧b≠X)∧∀j c,l[j]?=some c→W.cell? ⟨b,off+j*8,none⟩=some (.int .i64 c.stamp.n)∧W.cell? ⟨b,off+j*8+1,none⟩=some (.int .i64 c.stamp.site)∧W.cell? ⟨b,off+j*8+2,none⟩=some (.int .i64 c.vec.a)∧W.cell? ⟨b,off+j*8+3,none⟩=some (.int .i64 c.vec.b)∧W.cell? ⟨b,off+j*8+4,none⟩=some (.bool c.gone)∧W.cell? ⟨b,off+j*8+5,none⟩=some (.string c.value)∧W.cell? ⟨b,off+j*8+6,none⟩=some (.int .i64 c.dead.a)∧W.cell? ⟨b,off+j*8+7,none⟩=some (.int .i64 c.dead.b)
theorem GsAt.kept {n₀ X:Nat} {W W':World} {b off:Nat} {l:List TGroup} (h:GsAt n₀ X W b off l) (hb:KB n₀ X W W'):GsAt n₀ X W' b off l:=
 ⟨h.1,fun j g hg=>⟨(hb.cell (p:=⟨b,_,none⟩) h.1.1 h.1.2).trans (h.2 j g hg).1,(hb.cell (p:=⟨b,_,none⟩) h.1.1 h.1.2).trans (h.2 j g hg).2⟩⟩
theorem CsAt.kept {n₀ X:Nat} {W W':World} {b off:Nat} {l:List TCell} (h:CsAt n₀ X W b off l) (hb:KB n₀ X W W'):CsAt n₀ X W' b off l:=by
 refine⟨h.1,fun j c hc=>?_⟩
 obtain⟨h0,h1,h2,h3,h4,h5,h6,h7⟩:=h.2 j c hc
 have k:∀o,W'.cell? ⟨b,o,none⟩=W.cell? ⟨b,o,none⟩:=fun o=>hb.cell (p:=⟨b,o,none⟩) h.1.1 h.1.2
 exact⟨(k _).trans h0,(k _).trans h1,(k _).trans h2,(k _).trans h3,(k _).trans h4,(k _).trans h5,(k _).trans h6,(k _).trans h7⟩
theorem Bic {W W':World} (h:Below W.heap.size W W'):W.grownBy W' none:=⟨h.os,h.tape,h.output,h.size,fun k hk _=>h.block k hk⟩
def Bsi (x:TGroup×TCell):Array Value:=#[gV x.1,cV x.2]
theorem Bvw {α β:Type} (l:List α) (r:List β) (k:Nat) (x:α) (y:β) (hx:l[k]?=some x) (hy:r[k]?=some y):(l.zip r).take (k+1)=(l.zip r).take k++[(x,y)]:=by
 rw[List.take_add_one,(List.getElem?_zip_eq_some (z:=(x,y))).2 ⟨hx,hy⟩]
 rfl
set_option maxHeartbeats 4000000 in
theorem Bo3 (n:Nat) (hn:1≤n) (l B2 B3 n₀ b off cap b' off' cap' X:Nat) (gs:List TGroup) (cs:List TCell) (hlen:cs.length=gs.length) (hl4:gs.length≤4)
    (J Jx:List (TGroup×TCell)→World→Prop) (n1:Nat) (hn1:n₀≤n1)
    (hJa:AbidesFrom n1 J)
    (hY:∀pre x W,J pre W→pre.length <gs.length→YieldAt Fence.wide (n - 1) Try.prog l (Bsi x) W fun e W'=>
      (e=.returned (.bool true)∧J (pre++[x]) W'∧KB n₀ X W W')∨(e=.returned (.bool false)∧Jx (pre++[x]) W'))
    (W:World) (hW1:n1=W.heap.size) (h2:W.cell? ⟨B2,0,none⟩=some (.slice (some ⟨b,off,none⟩) gs.length cap)) (h3:W.cell? ⟨B3,1,none⟩=some (.slice (some ⟨b',off',none⟩) cs.length cap')) (hB2:B2 <n₀∧B2≠X) (hB3:B3 <n₀∧B3≠X)
    (hg:GsAt n₀ X W b off gs) (hc:CsAt n₀ X W b' off' cs) (h0:J [] W):
    CallsIn Fence.wide n Try.prog 165 #[.func (.yield l) #[] #[],.pointer (some ⟨B2,0,none⟩),.pointer (some ⟨B3,0,none⟩)] W fun e W'=>(∃v,e=.returned v)∧
      ((∃ys,ys=gs.zip cs∧J ys W')∨(∃pre,(∃k,k≤gs.length∧pre=(gs.zip cs).take k)∧Jx pre W')):=by
  refine callsIn_of_wp Try.func165 rfl trivial ?_ rfl
  simp only[Try.ntmps165,List.size_toArray,List.length_cons,List.length_nil,Nat.reduceAdd,Nat.reduceSub,Array.replicate_succ,Array.replicate_zero,List.push_toArray,List.append_toArray,List.nil_append,List.cons_append]
  gi_wp2
  gi_loopw [8] (fun i wr=>∃k:Nat,k≤gs.length∧i=.int .i64 k∧J ((gs.zip cs).take k) wr∧KB n₀ X W wr∧W.heap.size≤wr.heap.size) (fun i _=>gs.length - (intOf i).toNat)
  case atStart=>exact⟨0,Nat.zero_le _,rfl,h0,KB.refl _ _ _,Nat.le_refl _⟩
  case round=>
    obtain⟨k,hk,rfl,hJs,hnx,hsz⟩:=hrel
    by_cases hlt:k <gs.length
    · have hlt':k <cs.length:=by omega
      obtain⟨hg1,hg2⟩:=(hg.kept hnx).2 k gs[k] (List.getElem?_eq_getElem hlt)
      have h2':=(hnx.cell (p:=⟨B2,0,none⟩) hB2.1 hB2.2).trans h2
      gi_wp2
      have hb3:Below wr.heap.size wr (wr.alloc (.cells #[.string gs[k].name,.int .i64 gs[k].policy] 79)):=(Below.refl _ wr).alloc (Nat.le_refl _) _
      have hv:wr.heap.size=wr.heap.size:=rfl
      have hn:=World.alloc_heap_new wr (.cells #[.string gs[k].name,.int .i64 gs[k].policy] 79)
      generalize wr.alloc (.cells #[.string gs[k].name,.int .i64 gs[k].policy] 79)=W3 at hb3 hn⊢
      have hb4:KB n₀ X wr W3:=KB.of_below (hb3.mono (Nat.le_trans hn1 (by rw[hW1];exact hsz)))
      have hb5:KB n₀ X W3 W3.drew:=KB.of_below ((Below.refl _ W3).drew)
      obtain⟨hc0,hc1,hc2,hc3,hc4,hc5,hc6,hc7⟩:=((hc.kept hnx).kept hb4).2 k cs[k] (List.getElem?_eq_getElem hlt')
      have h3':=((hnx.trans hb4).cell (p:=⟨B3,1,none⟩) hB3.1 hB3.2).trans h3
      have hz:((gs.zip cs).take k).length <gs.length:=by rw[List.length_take,List.length_zip];omega
      have hJ3:J ((gs.zip cs).take k) W3.drew:=hJa _ wr _ none hJs (Bic hb3.drew) (fun r e=>by cases e)
      obtain⟨fn,tmps,assign,body,hy,hR⟩:=hY _ (gs[k],cs[k]) _ hJ3 hz
      have hR2:RoundIn Fence.wide (n - 1) Try.prog l fn tmps assign body W3.drew fun e W'=>∃q:Bool,e=.returned (.bool q)∧(q=true→J ((gs.zip cs).take (k+1)) W'∧KB n₀ X wr W')∧(q=false→Jx ((gs.zip cs).take (k+1)) W'):=by
        refine hR.mono ?_
        rw[←Bvw gs cs k gs[k] cs[k] (List.getElem?_eq_getElem hlt) (List.getElem?_eq_getElem hlt')]
        rintro e W' (⟨rfl,h1,h2⟩|⟨rfl,h1⟩)
        ·exact⟨true,rfl,⟨fun _=>⟨h1,(hb4.trans hb5).trans h2⟩,fun h=>by cases h⟩⟩
        ·exact⟨false,rfl,⟨fun h=>(by cases h),fun _=>h1⟩⟩
      clear hR
      have hm:Try.prog.follows .mixedOrders=true:=by kernel_rfl
      dsimp only[Bsi,gV,cV] at hy
      obtain⟨hn0,hn1'⟩:=cb2 hn
      gi_region_with_o (refine hR2.mono ?_;rintro e W4 ⟨q,rfl,hq1,hq2⟩)
      all_goals (cases q)
      all_goals gi_wp2
      all_goals first
        |(refine bodyPost_ret (results_none rfl _ _ _) rfl ?_;exact⟨⟨_,rfl⟩,.inr ⟨_,⟨k+1,by omega,rfl⟩,hq2 (by trivial)⟩⟩)
        | (obtain⟨q1,q2⟩:=hq1 (by trivial)
           exact⟨⟨k+1,by omega,rfl,q1,hnx.trans q2,Nat.le_trans hsz q2.size⟩,by simp[intOf];omega⟩)
    · obtain rfl:k=gs.length:=by omega
      gi_wp2
      go_end0
      exact⟨⟨_,rfl⟩,.inl ⟨_,rfl,by rw[List.take_of_length_le (by rw[List.length_zip];omega)] at hJs;exact hJs⟩⟩
set_option maxHeartbeats 1000000 in
theorem Bev (n:Nat) (a:Option Addr) (len cap:Nat) (v1:Value) (key:ByteArray) (w:World):
  CallsIn Fence.wide n Try.prog 132 #[.slice a len cap,.agg #[.string key,v1]] w fun e w'=>e=.returned (.func (.func 165) #[] #[.pointer (some ⟨w.heap.size,0,none⟩),.pointer (some ⟨w.heap.size+1,0,none⟩)])∧w'=(w.alloc (.cells #[.slice a len cap] 66)).alloc (.cells #[.string key,v1] 71):=by
 refine callsIn_of_wp Try.func132 rfl trivial ?_ rfl
 simp only[Try.ntmps132,List.size_toArray,List.length_cons,List.length_nil,Nat.reduceAdd,Nat.reduceSub,Array.replicate_succ,Array.replicate_zero,List.push_toArray,List.append_toArray,List.nil_append,List.cons_append]
 gi_wp2
 go_ret
 exact⟨rfl,rfl⟩
theorem Apa (n:Nat) (hn:1≤n) (B2 B3 n₀ X b off cap b' off' cap':Nat) (gs:List TGroup) (cs:List TCell) (hlen:cs.length=gs.length) (hl4:gs.length≤4) (w:World) (hn₀:n₀≤w.heap.size)
  (h2:w.cell? ⟨B2,0,none⟩=some (.slice (some ⟨b,off,none⟩) gs.length cap)) (h3:w.cell? ⟨B3,1,none⟩=some (.slice (some ⟨b',off',none⟩) cs.length cap')) (hB2:B2 <n₀∧B2≠X) (hB3:B3 <n₀∧B3≠X)
  (hg:GsAt n₀ X w b off gs) (hc:CsAt n₀ X w b' off' cs):
  SeqStopsK Fence.wide n Try.prog 165 #[.pointer (some ⟨B2,0,none⟩),.pointer (some ⟨B3,0,none⟩)] Bsi (KB n₀ X) (fun ys=>ys=gs.zip cs) (fun pre=>∃k,k≤gs.length∧pre=(gs.zip cs).take k) gs.length w:=fun l J Jx W hW hJ _ hY h0=>by
 have hk:KB n₀ X w W:=KB.of_below (hW.mono hn₀)
 exact Bo3 n hn l B2 B3 n₀ b off cap b' off' cap' X gs cs hlen hl4 J Jx W.heap.size (Nat.le_trans hn₀ hW.size) hJ hY W rfl ((hk.cell (p:=⟨B2,0,none⟩) hB2.1 hB2.2).trans h2) ((hk.cell (p:=⟨B3,1,none⟩) hB3.1 hB3.2).trans h3) hB2 hB3 (hg.kept hk) (hc.kept hk) h0
def Sj (p:Int) (G:Int→TCell→Bool) (gs:List TGroup) (key:ByteArray) (cs:List TCell):Int:=
 if(p !=0)=true then p else if key.toList.isEmpty=true then 2 else if 32 <(key.size:Int) then 3 else if((cs.length:Int) !=(gs.length:Int))=true then 100 else bif(gs.zip cs).all (fun x=>G x.1.policy x.2) then 0 else 80
theorem YI {β:Type} (B:Nat) (cs:Array Value) (t:TypeId):Own (fun(_:β) W=>W.heap[B]?=some (.cells cs t (0,0))):=fun s W W' row hs hg hr=>by
 refine(hg.block B (H6 hs) fun e=>?_).trans hs
 obtain⟨o,h1,h2⟩:=hr B e.symm
 rw[hs] at h1
 cases h1
 cases h2
theorem IU (B:Nat) {W W':World} (h:Below W.heap.size W W'):KeepsFrom B W W':=⟨h.size,fun k _ _ hk _=>(h.block k (H6 hk)).trans hk⟩
theorem T9 {β:Type} (B n:Nat):OwnFrom B (fun(_:β) W=>n≤W.heap.size):=fun _ _ _ _ hs hg _=>Nat.le_trans hs hg.size
set_option maxHeartbeats 4000000 in
theorem Bgb (w:World) (a0 a1:Option Addr) (gs:List TGroup) (cs:List TCell) (key:ByteArray) (cap0 cap1:Nat) (p:Int) (G:Int→TCell→Bool)
    (hP:∀W,Below w.heap.size w W→Calls Try.prog 131 #[.slice a0 gs.length cap0] W fun e W'=>e=.returned (.int .i64 p)∧Below W.heap.size W W')
    (hp0:p=0→1≤gs.length∧gs.length≤4)
    (hC:∀(q:Int) (c:TCell) W,Calls Try.prog 38 #[.int .i64 q,cV c] W fun e W'=>e=.returned (.bool (G q c))∧Below W.heap.size W W')
    (hG:0 <gs.length→∃b off,a0=some ⟨b,off,none⟩∧GsAt w.heap.size w.heap.size w b off gs)
    (hS:0 <cs.length→∃b off,a1=some ⟨b,off,none⟩∧CsAt w.heap.size w.heap.size w b off cs):
    Calls Try.prog 65 #[.slice a0 gs.length cap0,.agg #[.string key,.slice a1 cs.length cap1]] w fun e W'=>e=.returned (.int .i64 (Sj p G gs key cs))∧Below w.heap.size w W':=by
  refine(callsIn_wide (n:=5)).1 ?_
  refine callsIn_of_wp_marks Try.func65 rfl trivial ?_ rfl
  simp only[Try.ntmps65,List.size_toArray,List.length_cons,List.length_nil,Nat.reduceAdd,Nat.reduceSub,Array.replicate_succ,Array.replicate_zero,List.push_toArray,List.append_toArray,List.nil_append,List.cons_append]
  have hw2:Below w.heap.size w ((w.alloc (.cells #[.string key,.slice a1 cs.length cap1] 71)).alloc (.cells #[.int .i64 0] 26)):=((Below.refl _ w).alloc (Nat.le_refl _) _).alloc (by simp) _
  have hr1:=N6 (.cells #[.int .i64 0] 26) (Hs (w:=w) (.cells #[.string key,.slice a1 cs.length cap1] 71) rfl)
  have hr2:=Hs (w:=w.alloc (.cells #[.string key,.slice a1 cs.length cap1] 71)) (.cells #[.int .i64 0] 26) (n:=w.heap.size+1) (by simp)
  gi_wp2_with (first
    |(refine⟨trivial,?_⟩;gi_at_call 131;refine(callsIn_wide.2 (hP _ hw2)).mono ?_;rintro e W1 ⟨rfl,hb1⟩;have hx1:=Fv hr1 hb1;have hx2:=Fv hr2 hb1;obtain⟨c0,c1⟩:=cb2 hx1;have d0:=cb1 hx2;have f0:=fb1 hx2;have hB1:Below w.heap.size w W1:=hw2.trans (hb1.mono (by simp;omega));clear hr1 hr2 hb1)
    |(refine⟨trivial,?_⟩;gi_at_call 132;refine(Bev _ _ _ _ _ _ _).mono ?_;rintro e W2 ⟨rfl,rfl⟩))
  · have h1:(p !=0)=true:=by assumption
    have e:Sj p G gs key cs=p:=by unfold Sj;rw[if_pos h1]
    have hc:=cb1 (PG (i:=0) hx2 (.int .i64 p))
    exact⟨.int .i64 p,by simp[results,Try.f65,go_sem,hc],by rw[e],hB1.setCell (p:=⟨w.heap.size+1,0,none⟩) (by simp) _⟩
  · have h1:(p !=0)=false:=by assumption
    have h2:key.toList.isEmpty=true:=by assumption
    have e:Sj p G gs key cs=2:=by unfold Sj;rw[if_neg (by rw[h1];simp),if_pos h2]
    have hc:=cb1 (PG (i:=0) hx2 (.int .i64 2))
    exact⟨.int .i64 2,by simp[results,Try.f65,go_sem,hc],by rw[e],hB1.setCell (p:=⟨w.heap.size+1,0,none⟩) (by simp) _⟩
  · have h1:(p !=0)=false:=by assumption
    have h2:key.toList.isEmpty=false:=by assumption
    have h3:32 <(key.size:Int):=by assumption
    have e:Sj p G gs key cs=3:=by unfold Sj;rw[if_neg (by rw[h1];simp),if_neg (by rw[h2];simp),if_pos h3]
    have hc:=cb1 (PG (i:=0) hx2 (.int .i64 3))
    exact⟨.int .i64 3,by simp[results,Try.f65,go_sem,hc],by rw[e],hB1.setCell (p:=⟨w.heap.size+1,0,none⟩) (by simp) _⟩
  · have h1:(p !=0)=false:=by assumption
    have h2:key.toList.isEmpty=false:=by assumption
    have h3:(key.size:Int)≤32:=by assumption
    have h4:((cs.length:Int) !=(gs.length:Int))=true:=by assumption
    have e:Sj p G gs key cs=100:=by unfold Sj;rw[if_neg (by rw[h1];simp),if_neg (by rw[h2];simp),if_neg (by omega),if_pos h4]
    have hc:=cb1 (PG (i:=0) hx2 (.int .i64 100))
    exact⟨.int .i64 100,by simp[results,Try.f65,go_sem,hc],by rw[e],hB1.setCell (p:=⟨w.heap.size+1,0,none⟩) (by simp) _⟩
  have h1:(p !=0)=false:=by assumption
  have h2:key.toList.isEmpty=false:=by assumption
  have h3:(key.size:Int)≤32:=by assumption
  have h4:((cs.length:Int) !=(gs.length:Int))=false:=by assumption
  have e:Sj p G gs key cs=bif(gs.zip cs).all (fun x=>G x.1.policy x.2) then 0 else 80:=by unfold Sj;rw[if_neg (by rw[h1];simp),if_neg (by rw[h2];simp),if_neg (by omega),if_neg (by rw[h4];simp)]
  have hp:p=0:=by simpa using h1
  clear h1
  subst hp
  have hlen : cs.length = gs.length := by have:(cs.length:Int)=gs.length:=by simpa using h4
                                          omega
  obtain⟨hl1,hl4⟩:=hp0 rfl
  obtain⟨b,off,rfl,hg⟩:=hG (by omega)
  obtain⟨b',off',rfl,hc⟩:=hS (by omega)
  have hW2:Below W1.heap.size W1 ((W1.alloc (.cells #[.slice (some ⟨b,off,none⟩) gs.length cap0] 66)).alloc (.cells #[.string key,.slice (some ⟨b',off',none⟩) cs.length cap1] 71)):=((Below.refl _ W1).alloc (Nat.le_refl _) _).alloc (by simp) _
  have hy2:=N6 (.cells #[.string key,.slice (some ⟨b',off',none⟩) cs.length cap1] 71) (Hs (w:=W1) (.cells #[.slice (some ⟨b,off,none⟩) gs.length cap0] 66) rfl)
  have hy3:=Hs (w:=W1.alloc (.cells #[.slice (some ⟨b,off,none⟩) gs.length cap0] 66)) (.cells #[.string key,.slice (some ⟨b',off',none⟩) cs.length cap1] 71) (n:=W1.heap.size+1) (by simp)
  have hz2:=Fv hx2 hW2
  have hs1:=H6 hx2
  have hs2:=H6 hy3
  have hB2:=hB1.trans (hW2.mono hB1.size)
  generalize (W1.alloc (.cells #[.slice (some ⟨b,off,none⟩) gs.length cap0] 66)).alloc (.cells #[.string key,.slice (some ⟨b',off',none⟩) cs.length cap1] 71)=W2 at hW2 hy2 hy3 hz2 hs2 hB2⊢
  have hg2:GsAt W2.heap.size W2.heap.size W2 b off gs:=⟨⟨by have:=hg.1.1;omega,by have:=hg.1.1;omega⟩,fun j g hj=>⟨(hB2.cell (p:=⟨b,_,none⟩) hg.1.1).trans (hg.2 j g hj).1,(hB2.cell (p:=⟨b,_,none⟩) hg.1.1).trans (hg.2 j g hj).2⟩⟩
  have hc2:CsAt W2.heap.size W2.heap.size W2 b' off' cs:=by
    refine⟨⟨by have:=hc.1.1;omega,by have:=hc.1.1;omega⟩,fun j c hj=>?_⟩
    have k:∀o,W2.cell? ⟨b',o,none⟩=w.cell? ⟨b',o,none⟩:=fun o=>hB2.cell (p:=⟨b',o,none⟩) hc.1.1
    simp only[k]
    exact hc.2 j c hj
  refine wpIn_rangeFunc_ownH (F:=Fence.wide) rfl (by omega) (gf:=165) (lb:=#[.pointer (some ⟨W1.heap.size,0,none⟩),.pointer (some ⟨W1.heap.size+1,0,none⟩)]) rfl trivial (enters_of Try.func165 (by kernel_rfl) rfl)
    (Apa _ (by omega) W1.heap.size (W1.heap.size+1) W2.heap.size W2.heap.size b off cap0 b' off' cap1 gs cs hlen hl4 W2 (Nat.le_refl _) (cb1 hy2) (cb2 hy3).2 ⟨by omega,by omega⟩ ⟨by omega,by omega⟩ hg2 hc2)
    KB.trans (KB.putObj (Nat.le_refl _)) (Below.refl _ _) (fun _=>rfl)
    (fun pre W=>((∀x∈pre,G x.1.policy x.2=true)∧W.heap[w.heap.size+1]?=some (.cells #[.int .i64 0] 26 (0,0)))∧Below w.heap.size w W∧W2.heap.size≤W.heap.size)
    (fun c pre W=>((c=.ret∧∃x∈pre,G x.1.policy x.2=false)∧W.heap[w.heap.size+1]?=some (.cells #[.int .i64 80] 26 (0,0)))∧Below w.heap.size w W∧W2.heap.size≤W.heap.size)
    (OwnFrom.and (OwnFrom.and (ownFrom_pure _ _) (Own.from (YI _ _ _) _)) (OwnFrom.and (ownFrom_below (Nat.le_refl _) hB2.size) (T9 _ _)))
    (fun c=>OwnFrom.and (OwnFrom.and (ownFrom_pure _ _) (Own.from (YI _ _ _) _)) (OwnFrom.and (ownFrom_below (Nat.le_refl _) hB2.size) (T9 _ _)))
    ⟨⟨by simp,hz2⟩,hB2,Nat.le_refl _⟩
    (fun x a' W=>(∃B6 B7,a'={tmps:=#[Value.slice (some ⟨b,off,none⟩) gs.length cap0,Value.agg #[Value.string key,Value.slice (some ⟨b',off',none⟩) cs.length cap1],undef,
          Value.pointer (some {block:=w.heap.size,off:=0}),
          Value.pointer (some {block:=w.heap.size+1,off:=0}),Value.int IntKind.i64 0,Value.pointer (some ⟨B6,0,none⟩),Value.pointer (some ⟨B7,0,none⟩),
          Value.slice (some ⟨b,off,none⟩) gs.length cap0,Value.int IntKind.i64 0,Value.int IntKind.i64 0,Value.bool false,undef,
          Value.bool false,Value.pointer (some {block:=w.heap.size,off:=0}),Value.string key,Value.bool false,
          Value.bool (decide (32 <(key.size:Int))),Value.pointer (some {block:=w.heap.size,off:=0}),
          Value.string key,Value.int IntKind.i64 key.size,Value.bool (decide (32 <(key.size:Int))),Value.bool false,
          Value.pointer (some {block:=w.heap.size,off:=1}),Value.slice (some ⟨b',off',none⟩) cs.length cap1,
          Value.int IntKind.i64 cs.length,Value.slice (some ⟨b,off,none⟩) gs.length cap0,Value.int IntKind.i64 gs.length,
          Value.bool false,Value.slice (some ⟨b,off,none⟩) gs.length cap0,Value.agg #[Value.string key,Value.slice (some ⟨b',off',none⟩) cs.length cap1],
          Value.func (Fn.func 165) #[] #[Value.pointer (some {block:=W1.heap.size,off:=0}),Value.pointer (some {block:=W1.heap.size+1,off:=0})],
          gV x.1,cV x.2,undef,undef,undef,undef,undef],defers:=[]}∧
        (W.heap[B6]?=some (.cells #[.string x.1.name,.int .i64 x.1.policy] 79 (0,0))∧W.heap[B7]?=some (.cells #[.int .i64 x.2.stamp.n,.int .i64 x.2.stamp.site,.int .i64 x.2.vec.a,.int .i64 x.2.vec.b,.bool x.2.gone,.string x.2.value,.int .i64 x.2.dead.a,.int .i64 x.2.dead.b] 55 (0,0)))))
    (fun x a'=>Own.from (fun s X Y row hs hgr hr=>by
      obtain⟨B6,B7,e1,e2,e3⟩:=hs
      exact⟨B6,B7,e1,YI B6 _ _ s X Y row e2 hgr hr,YI B7 _ _ s X Y row e3 hgr hr⟩) _) ?assign ?body ?done ?stop
  case assign=>
    rintro l pre x W K ⟨⟨i1,i2⟩,i3,i4⟩ hK
    clear hlen h4
    dsimp only[Bsi,gV,cV] at hK⊢
    gi_wp2
    have hb:Below W.heap.size W ((W.alloc (.cells #[.string x.1.name,.int .i64 x.1.policy] 79)).alloc (.cells #[.int .i64 x.2.stamp.n,.int .i64 x.2.stamp.site,.int .i64 x.2.vec.a,.int .i64 x.2.vec.b,.bool x.2.gone,.string x.2.value,.int .i64 x.2.dead.a,.int .i64 x.2.dead.b] 55)):=((Below.refl _ W).alloc (Nat.le_refl _) _).alloc (by simp) _
    exact hK _ _ (IU _ hb) (KB.of_below (hb.mono i4)) ⟨⟨i1,Fv i2 hb⟩,i3.trans (hb.mono i3.size),Nat.le_trans i4 hb.size⟩ ⟨W.heap.size,W.heap.size+1,rfl,N6 _ (Hs _ rfl),Hs _ (by simp)⟩
  case body=>
    rintro l pre x a' W hl hr ⟨⟨i1,i2⟩,i3,i5⟩ ⟨B6,B7,rfl,e6,e7⟩ hlt
    obtain⟨k0,k1⟩:=cb2 e6
    obtain⟨m0,m1,m2,m3,m4,m5,m6,m7⟩:=cb8 e7
    have d0:=cb1 i2
    have f0:=fb1 i2
    cases hGx:G x.1.policy x.2 with
    | true=>
      gi_wp2_with (refine⟨trivial,?_⟩;gi_at_call 38;refine(CallsIn.inRound l (callsIn_wide.2 (hC x.1.policy x.2 _))).mono ?_;rw[hGx];rintro e W' ⟨rfl,hb⟩)
      exact⟨IU _ hb,KB.of_below (hb.mono i5),⟨fun y hy=>(List.mem_append.1 hy).elim (i1 y) (fun e=>by simp at e;subst e;exact hGx),Fv i2 hb⟩,i3.trans (hb.mono i3.size),Nat.le_trans i5 hb.size⟩
    | false=>
      gi_wp2_with (refine⟨trivial,?_⟩;gi_at_call 38;refine(CallsIn.inRound l (callsIn_wide.2 (hC x.1.policy x.2 _))).mono ?_;rw[hGx];rintro e W' ⟨rfl,hb⟩;have i4:=Fv i2 hb;have d4:=cb1 i4;have f4:=fb1 i4)
      exact⟨(IU _ hb).trans ((KeepsOthers.setCell _ _ _).from _),⟨⟨rfl,x,by simp,hGx⟩,PG (i:=0) i4 (.int .i64 80)⟩,(i3.trans (hb.mono i3.size)).setCell (p:=⟨w.heap.size+1,0,none⟩) (by simp) _,Nat.le_trans i5 (by rw[Ajp];exact hb.size)⟩
  case done=>
    rintro D ys W hD rfl ⟨⟨i1,i2⟩,i3,i5⟩ hK
    have d0:=cb1 i2
    have f0:=fb1 i2
    gi_wp2
    have hK':=(KeepsOthers.setCell W ⟨w.heap.size+1,0,none⟩ (.int .i64 0)).same D _ hK rfl
    refine⟨by simp,.inl ⟨_,_,rfl,run_takeDeferred hK',?_⟩⟩
    have hc5:=cell_kept (World.cell?_setCell_same' W ⟨w.heap.size+1,0,none⟩ (.int .i64 0) (by rw[d0];rfl)) (grownBy_putObj' _ D (.deferred none)) (fun r e=>by cases e;exact⟨_,hK',rfl⟩)
    refine⟨.int .i64 0,?_,?_,(i3.setCell (p:=⟨w.heap.size+1,0,none⟩) (by simp) _).trans (belowK_b (w:=w) (Nat.le_refl _) _ D _ _ (by have:=hB2.size;omega) hK' rfl rfl)⟩
    ·simp[results,Try.f65,go_sem,hc5]
    ·rw[List.all_eq_true.2 (fun x hx=>i1 x hx)];rfl
  case stop=>
    rintro D c pre W hD ⟨k,hk,rfl⟩ ⟨⟨⟨rfl,x,hx,hGx⟩,i2⟩,i3,i5⟩ hK
    gi_wp2
    refine⟨by simp,.inl ⟨_,_,rfl,run_takeDeferred hK,?_⟩⟩
    have hc5:=cell_kept (cb1 i2) (grownBy_putObj' _ D (.deferred none)) (fun r e=>by cases e;exact⟨_,hK,rfl⟩)
    refine⟨.int .i64 80,?_,?_,i3.trans (belowK_b (w:=w) (Nat.le_refl _) W D _ _ (by have:=hB2.size;omega) hK rfl rfl)⟩
    ·simp[results,Try.f65,go_sem,hc5]
    · have:(gs.zip cs).all (fun x=>G x.1.policy x.2)=false:=by
        cases ha:(gs.zip cs).all (fun x=>G x.1.policy x.2) with
        |false=>rfl
        |true=>have:=(List.all_eq_true.1 ha) x (List.mem_of_mem_take hx);rw[hGx] at this;cases this
      rw[this];rfl
end Go.Proofs.Yteebobbhhgmeiaa
namespace Go.Proofs.Yteebobbhhgmeiaa
open Go.RowKit
def Ap (l:List TGroup) (r:TRow):Int:=bif AY l !=0 then AY l else bif r.key.size==0 then 2 else bif decide (32 <r.key.size) then 3 else bif r.cells.length !=l.length then 100 else bif(l.zip r.cells).all (fun x=>BA x.1.policy x.2) then 0 else 80
def Aq1 (a0:List TGroup) (a1:TRow):A:=.v (.int .i64 (Ap a0 a1))
def Aq0 (_a0:List TGroup) (_a1:TRow):Objs:=[]
def Ajd (_a0:List TGroup) (_a1:TRow):List Prop:=[]
theorem A7b (k:ByteArray):k.toList.isEmpty=(k.size==0):=by
 rw[ByteArray.toList_eq,Bool.eq_iff_iff,List.isEmpty_iff,beq_iff_eq,←KZ]
 exact⟨fun h=>by rw[h];rfl,fun h=>List.eq_nil_of_length_eq_zero h⟩
theorem Bsw (l:List TGroup) (key:ByteArray) (cs:List TCell):Sj (AY l) BA l key cs=Ap l ⟨key,cs⟩:=by
 unfold Sj Ap
 rw[A7b]
 have e3:decide (32 <((key.size:Nat):Int))=decide (32 <key.size):=decide_eq_decide.2 (by omega)
 have e4:(((cs.length:Nat):Int) !=(l.length:Int))=(cs.length !=l.length):=by
  rw[Bool.eq_iff_iff,bne_iff_ne,bne_iff_ne];omega
 simp only[Bool.cond_eq_ite,e4,decide_eq_true_eq,show(32 <((key.size:Nat):Int))=(32 <key.size) from propext (by omega)]
theorem A5k {R:World} {ad:Addr} {v:Value} (h:R.cell? ad=some v):ad=⟨ad.block,ad.off,none⟩:=by
 cases ad with|mk b o s=>
 cases s with
 |none=>rfl
 |some q=>
  exfalso
  unfold World.cell? at h
  cases hb:R.heap[b]? with
  |none=>simp only[hb] at h;cases h
  |some ob=>cases ob<;>simp[hb] at h
theorem Bwg (b o k j:Nat):((⟨b,o,none⟩:Addr).add k).add j=⟨b,o+k+j,none⟩:=by
 rw[Fu,Fu]
section
variable {F:Nat→Prop} {N:Nm} {nx:Nat} {R:World}
theorem HC.at0 {l:List A} {b o k j:Nat} {x:Value} (h:HC F N nx R l ((⟨b,o,none⟩:Addr).add k)) (hx:l[j]?=some (.v x)):R.cell? ⟨b,o+k+j,none⟩=some x:=by
 obtain⟨y,h1,h2⟩:=h j _ hx
 rw[Bwg] at h1
 rw[h1,h2.v_inv]
theorem Bzi {gs:List TGroup} {v:Value} (hF:∀g,F g→g <R.heap.size) (h:Hv F N nx R (.sl .group gs) v):
  ∃a cap,v=.slice a gs.length cap∧(0 <gs.length→∃b off,a=some ⟨b,off,none⟩∧GsAt R.heap.size R.heap.size R b off gs):=by
 obtain⟨a,cap,e,_,h2⟩:=h.sl_inv
 refine⟨a,cap,e,fun hn=>?_⟩
 obtain⟨ad,rfl,hb,h3⟩:=h2 hn
 have hlt:=hF _ hb
 obtain⟨y,hy,_⟩:=h3 0 gs[0] (List.getElem?_eq_getElem hn) 0 (.v (.string gs[0].name)) rfl
 rw[Nat.zero_mul,add_zero,add_zero] at hy
 have hs:=A5k hy
 rw[hs] at h3⊢
 refine⟨ad.block,ad.off,rfl,⟨hlt,Nat.ne_of_lt hlt⟩,fun j g hj=>?_⟩
 have h4:=h3 j g hj
 exact⟨h4.at0 (j:=0) (x:=.string g.name) rfl,h4.at0 (j:=1) (x:=.int .i64 g.policy) rfl⟩
theorem Bzg {cs:List TCell} {v:Value} (hF:∀g,F g→g <R.heap.size) (h:Hv F N nx R (.sl .cell cs) v):
  ∃a cap,v=.slice a cs.length cap∧(0 <cs.length→∃b off,a=some ⟨b,off,none⟩∧CsAt R.heap.size R.heap.size R b off cs):=by
 obtain⟨a,cap,e,_,h2⟩:=h.sl_inv
 refine⟨a,cap,e,fun hn=>?_⟩
 obtain⟨ad,rfl,hb,h3⟩:=h2 hn
 have hlt:=hF _ hb
 obtain⟨y,hy,_⟩:=h3 0 cs[0] (List.getElem?_eq_getElem hn) 0 (.v (.int .i64 cs[0].stamp.n)) rfl
 rw[Nat.zero_mul,add_zero,add_zero] at hy
 have hs:=A5k hy
 rw[hs] at h3⊢
 refine⟨ad.block,ad.off,rfl,⟨hlt,Nat.ne_of_lt hlt⟩,fun j c hj=>?_⟩
 have h4:=h3 j c hj
 exact⟨h4.at0 (j:=0) (x:=.int .i64 c.stamp.n) rfl,h4.at0 (j:=1) (x:=.int .i64 c.stamp.site) rfl,h4.at0 (j:=2) (x:=.int .i64 c.vec.a) rfl,h4.at0 (j:=3) (x:=.int .i64 c.vec.b) rfl,h4.at0 (j:=4) (x:=.bool c.gone) rfl,h4.at0 (j:=5) (x:=.string c.value) rfl,h4.at0 (j:=6) (x:=.int .i64 c.dead.a) rfl,h4.at0 (j:=7) (x:=.int .i64 c.dead.b) rfl⟩
theorem HRel.bare (hF:∀g,F g→g <R.heap.size):HRel F N 0 [] R:=⟨hF,fun _ _ h=>(by cases h),fun _ _ _ h=>(by cases h),fun _ _ _ _ _ h=>(by cases h)⟩
end
theorem CallOk.plain {P:Program} {f:FuncId} {args:List A} {x:Value} (h:CallOk P f args 0 [] 1 (.v x) 0 []) {F:Nat→Prop} {N:Nm} {R:World} {vs:List Value} (hF:∀g,F g→g <R.heap.size) (hv:HL F N 0 R args vs):
  Calls P f vs.toArray R fun e R'=>e=.returned x∧Below R.heap.size R R':=
 (h F N R vs (HRel.bare hF) hv).mono fun e R' ⟨y,F',N',e1,_,_,h4,h5⟩=>⟨by rw[e1,h4.v_inv],h5 (Nat.le_refl _)⟩
theorem Aqz (a0:List TGroup) (a1:TRow) (_hp:∀p∈Ajd a0 a1,p):CallOk Try.prog 65 [.sl .group a0,Ak .row a1] 0 [] 1 (Aq1 a0 a1) 0 (Aq0 a0 a1):=by
 intro F N R vs hR hv
 obtain⟨v0,vs,rfl,h0,hv⟩:=hv.inv
 obtain⟨v1,vs,rfl,h1,hv⟩:=hv.inv
 rw[hv.inv0]
 obtain⟨us,rfl,h2⟩:=Hv.agg_inv (xs:=[.v (.string a1.key),.sl .cell a1.cells]) h1
 clear h1
 have h1:=h2
 obtain⟨u0,us,rfl,k0,h1⟩:=h1.inv
 obtain⟨u1,us,rfl,k1,h1⟩:=h1.inv
 rw[h1.inv0]
 rw[k0.v_inv]
 obtain⟨aa,cap0,rfl,g0⟩:=Bzi hR.flt h0
 obtain⟨ab,cap1,rfl,g1⟩:=Bzg hR.flt k1
 refine(Bgb R aa ab a0 a1.cells a1.key cap0 cap1 (AY a0) BA ?_ Gu ?_ g0 g1).mono ?_
 ·intro W hW
  exact(Xu a0 (fun _ h=>by cases h)).plain (F:=F) (N:=N) (vs:=[_]) (fun g hg=>Nat.lt_of_lt_of_le (hR.flt g hg) hW.size) (HL.cons (h0.step (hR.grow hW).2) HL.nil)
 ·intro q c W
  have h:=(Aoe q c (fun _ h=>by cases h)).plain (F:=fun _=>False) (N:=N) (R:=W) (vs:=[.int .i64 q,cV c]) (fun g hg=>hg.elim) (HL.cons (.v _) (HL.cons (.v _) HL.nil))
  rw[IK] at h
  exact h
 ·rintro e W ⟨rfl,hb⟩
  rw[Bsw]
  exact⟨_,F,N,rfl,(hR.grow hb).1,Step.of_below hb,.v _,fun _=>hb⟩
def Aez:List A→Nat→Objs→Option Bb
 | [y0,y1],nx,o=>match Kh .group y0,AQ .row y1 with
  |some a0,some (a1,p1)=>some (1,(Aq1 a0 a1).pk (AF nx),nx+0,AE nx (Aq0 a0 a1)++o,p1++(Ajd a0 a1))
  |_,_=>none
 |_,_,_=>none
theorem A9x:Ft Try.prog 65 Aez:=fun args nx o k x nx' o' ps h=>by
 unfold Aez at h
 split at h<;>first|(cases h;done)|skip
 split at h<;>first|(cases h;done)|skip
 rename_i a0 a1 p1 e0 e1
 cases h
 refine⟨fun hp=>?_,_,rfl⟩
 have q1:=fun p hm=>hp p (List.mem_append.2 (.inl hm))
 have r1:=fun p hm=>hp p (List.mem_append.2 (.inr hm))
 refine Ah (Ag (Aqz a0 a1 r1) (Nat.le_refl _) (Ac rfl (Ac (Af _ _) Ao)) nx o) fun F N R vs hl=>?_
 obtain⟨v0,w0,rfl,h0,hl⟩:=hl.inv
 obtain⟨v1,w1,rfl,h1,hl⟩:=hl.inv
 exact HL.cons (BX e0 h0) (HL.cons (Am e1 q1 h1) (hl))
noncomputable def B10:=A7 65 Aez Ch
theorem Bv1:Dd Try.prog B10:=Av A9x B1z
noncomputable def Ci:=B10
theorem By3:Dd Try.prog Ci:=Bv1
end Go.Proofs.Yteebobbhhgmeiaa
namespace Go.Proofs.Yteebobbhhgmeiaa
open Go.RowKit
def Sl (k:ByteArray):Int:=bif k.size==0 then 2 else bif decide (32 <k.size) then 3 else 0
def eqC (a b:TCell):Bool:=a.stamp.n==b.stamp.n&&a.stamp.site==b.stamp.site&&(a.vec.a==b.vec.a&&a.vec.b==b.vec.b)&&a.gone==b.gone&&a.value==b.value&&(a.dead.a==b.dead.a&&a.dead.b==b.dead.b)
def Agb:List TCell→List TCell→Bool
 | [],[]=>true
 |x::xs,y::ys=>eqC x y&&Agb xs ys
 |_,_=>false
def R9 (a b:TRow):Bool:=a.key==b.key&&Agb a.cells b.cells
def FF (r:TRow):Bool:=r.cells.all fun c=>eqC c zeroC
def Ams (a0:ByteArray):Int:=bif a0.toList==(ByteArray.mk #[]).toList then(2:Int) else bif decide ((↑a0.size:Int) >(32:Int)) then(3:Int) else(0:Int)
def Amt (a0:ByteArray):A:=.v (.int .i64 (Ams a0))
def A5c (_a0:ByteArray):Objs:=[]
def Bjw (_a0:ByteArray):List Prop:=[]
theorem Bjv (a0:ByteArray):EQ (AA Ci L0) 9 129 [Ak .str a0] 0 []=some (1,Amt a0,0,A5c a0,[]):=by kernel_rfl
theorem Bpf (a0:ByteArray) (_hp:∀p∈Bjw a0,p):CallOk Try.prog 129 [Ak .str a0] 0 [] 1 (Amt a0) 0 (A5c a0):=by
 exact AI (Aw By3 AH) (Bjv a0) Ab
def Azn (a0:ByteArray):A:=.v (.int .i64 (Sl a0))
def Azm (_a0:ByteArray):Objs:=[]
def Aqc (_a0:ByteArray):List Prop:=[]
theorem Aga {a b:TCell}:eqC a b=true↔a=b:=by
 unfold eqC
 simp only[Bool.and_eq_true,beq_iff_eq]
 constructor
 ·rintro⟨⟨⟨⟨⟨h1,h2⟩,h3,h4⟩,h5⟩,h6⟩,h7,h8⟩
  cases a with|mk s v g t d=>cases b with|mk s' v' g' t' d'=>
  cases s;cases s';cases v;cases v';cases d;cases d'
  cases h1;cases h2;cases h3;cases h4;cases h5;cases h6;cases h7;cases h8
  rfl
 ·rintro rfl
  exact⟨⟨⟨⟨⟨rfl,rfl⟩,rfl,rfl⟩,rfl⟩,rfl⟩,rfl,rfl⟩
theorem Wb:∀{a b:List TCell},Agb a b=true↔a=b
 | [],[]=>by simp[Agb]
 | [],_::_=>by simp[Agb]
 |_::_,[]=>by simp[Agb]
 |x::xs,y::ys=>by
  unfold Agb
  rw[Bool.and_eq_true,Aga,Wb]
  simp
theorem Bdd {a b:TRow}:R9 a b=true↔a=b:=by
 unfold R9
 rw[Bool.and_eq_true,beq_iff_eq,Wb]
 cases a;cases b
 simp
theorem Bsj:∀(a b:List TCell),a.length=b.length→Agb a b=Jn a.length (fun i=>eqC (a.getD i (Ae TC.cell)) (b.getD i (Ae TC.cell))):=fun a b h=>by
 rw[Bool.eq_iff_iff,Wb,HF]
 constructor
 ·rintro rfl i _
  exact Aga.2 rfl
 ·intro g
  refine List.ext_getElem h fun i h1 h2=>?_
  have:=Aga.1 (g i h1)
  rw[List.getD_eq_getElem?_getD,List.getD_eq_getElem?_getD,List.getElem?_eq_getElem h1,List.getElem?_eq_getElem h2] at this
  exact this
theorem Bju (k:ByteArray):Ams k=Sl k:=by
 unfold Ams Sl
 rw[Rq]
 congr 2
 exact dgt k.size 32
theorem Bjt (a0:ByteArray) (_hp:∀p∈Aqc a0,p):CallOk Try.prog 129 [Ak .str a0] 0 [] 1 (Azn a0) 0 (Azm a0):=by
 have h:=Bpf a0 (fun _ h=>by cases h)
 unfold Amt at h
 rw[Bju] at h
 exact h
def Amu:List A→Nat→Objs→Option Bb
 | [y0],nx,o=>match AQ .str y0 with
  |some (a0,p0)=>some (1,(Azn a0).pk (AF nx),nx+0,AE nx (Azm a0)++o,p0++(Aqc a0))
  |_=>none
 |_,_,_=>none
theorem Bfv:Ft Try.prog 129 Amu:=fun args nx o k x nx' o' ps h=>by
 unfold Amu at h
 split at h<;>first|(cases h;done)|skip
 split at h<;>first|(cases h;done)|skip
 rename_i a0 p0 e0
 cases h
 refine⟨fun hp=>?_,_,rfl⟩
 have q0:=fun p hm=>hp p (List.mem_append.2 (.inl hm))
 have r0:=fun p hm=>hp p (List.mem_append.2 (.inr hm))
 refine Ah (Ag (Bjt a0 r0) (Nat.le_refl _) (Ac (Af _ _) Ao) nx o) fun F N R vs hl=>?_
 obtain⟨v0,w0,rfl,h0,hl⟩:=hl.inv
 exact HL.cons (Am e0 q0 h0) (hl)
noncomputable def Bq6:=A7 129 Amu Ci
theorem A52:Dd Try.prog Bq6:=Av Bfv By3
abbrev Cz:Type:=(List TGroup)×Int×TRow
def MA (x:Cz):St:=⟨42,1,[(0,.sl .group x.1),(3,.own 0 0),(6,.v (.int .i64 x.2.1))],[(0,some (.box 71 [.v (.string x.2.2.key),.sl .cell x.2.2.cells]))]⟩
def Pn:St→Option Cz
 |⟨42,1,[(0,.sl .group z0),(3,.own 0 0),(6,.v (.int .i64 z1))],[(0,some (.box 71 [.v (.string z2),.sl .cell z3]))]⟩=>some (z0,z1,⟨z2,z3⟩)
 |_=>none
theorem Amq:∀s x,Pn s=some x→s=MA x:=fun s x h=>by
 unfold Pn at h
 split at h
 ·cases h;rfl
 ·cases h
def Aar:Dj:=⟨1,1,[0,3,6],[],[(0,0)],[0],[4],[0]⟩
def A2y:DB:=⟨[],[(0,0)],[0,3,6],[0]⟩
def E7 (a0:List TGroup) (a1:Int) (_a2:TRow):Bool:=!!decide (a1 <(↑a0.length:Int))
def D2 (a0:List TGroup) (a1:Int) (a2:TRow):Bool:=(E7 a0 a1 a2)&&!Pj (a0.getD a1.toNat (Ae TC.group)).2 (a2.2.getD a1.toNat (Ae TC.cell))
def As8 (a0:List TGroup) (a1:Int) (a2:TRow):Bool:=(E7 a0 a1 a2)&&!(D2 a0 a1 a2)
def E9 (x:Cz):Cz:=(x.1,IntKind.i64.wrap (x.2.1+(1:Int)),x.2.2)
def E8 (x:Cz):Cnd:=some (As8 x.1 x.2.1 x.2.2)
def Vf (x:Cz):List Prop:=[((E7 x.1 x.2.1 x.2.2)=true→(0:Int)≤x.2.1∧x.2.1 <(↑x.1.length:Int)),((E7 x.1 x.2.1 x.2.2)=true→(0:Int)≤x.2.1∧x.2.1 <(↑x.2.2.2.length:Int))]
def Ip (x:Cz):List Prop:=[((E7 x.1 x.2.1 x.2.2)=true→(0:Int)≤x.2.1∧x.2.1 <(↑x.1.length:Int)),((E7 x.1 x.2.1 x.2.2)=true→(0:Int)≤x.2.1∧x.2.1 <(↑x.2.2.2.length:Int))]
def S8 (x:Cz):Bo:=[(some 0,some (!decide (x.2.1 <(↑x.1.length:Int))),⟨42,1,[(4,.dead)],[(0,some (.box 71 [.v (.string x.2.2.1),.sl .cell x.2.2.2]))]⟩),(none,some ((D2 x.1 x.2.1 x.2.2)),⟨42,1,[(4,.v (.int .i64 ((80:Int))))],[(0,some (.box 71 [.v (.string x.2.2.1),.sl .cell x.2.2.2]))]⟩)]
def GT (x:Cz):Nat:=((↑x.1.length:Int) - x.2.1).toNat
def Ata (x:Cz):Cz:=Bg E9 E8 (GT x) x
theorem Azh (a0:List TGroup) (a1:Int) (a2:TRow):Bz (AA Bq6 L0) 9 (Aj Try.prog 66 0) Aar (MA (a0,a1,a2))=some (Vf (a0,a1,a2),S8 (a0,a1,a2),E8 (a0,a1,a2),MA (E9 (a0,a1,a2))):=by kernel_rfl
theorem Azi (a0:List TGroup) (a1:Int) (a2:TRow) (hp:∀p∈Ip (a0,a1,a2),p):∀p∈Vf (a0,a1,a2),p:=by
 have n0:=N0 hp
 have n1:=N0 (N1 hp)
 exact(Aa n0 (Aa n1 Ab))
noncomputable def Vg:=H1 (AA Bq6 L0) (Aj Try.prog 66 0) Aar A2y Pn GT E9 E8 Ip S8
theorem As9:∀s b ps outs,Vg s=some (b,ps,outs)→Wf s ⟨ps,outs,none⟩∧Bx (AA C0 L0) b s ps outs:=
 Bm (T:=MA) A52 AH (u:=9) (by kernel_rfl) (by decide) (fun⟨a0,a1,a2⟩=>Azh a0 a1 a2) (fun⟨a0,a1,a2⟩=>Azi a0 a1 a2) Amq (fun _=>AW (n:=42) rfl) fun _ _=>rfl
noncomputable def Aaq:=DP 0 Vg L0
theorem As7:Hr Aaq:=A6 As9 AH
def JJ (_a0:List TGroup) (a1:TRow):Bool:=Sl a1.1 !=(0:Int)
def ID (a0:List TGroup) (_a1:TRow):Bool:=AY a0 !=(0:Int)
def JI (a0:List TGroup) (a1:TRow):Cz:=Ata (a0,(0:Int),a1)
def IC (a0:List TGroup) (a1:TRow):Bool:=(↑a1.2.length:Int) !=(↑a0.length:Int)
def Ad7 (a0:List TGroup) (a1:TRow):Int:=bif(ID a0 a1) then AY a0 else bif(JJ a0 a1) then Sl a1.1 else bif(IC a0 a1) then(100:Int) else bif D2 (JI a0 a1).fst (JI a0 a1).snd.fst (JI a0 a1).snd.snd then(80:Int) else(0:Int)
def Ad8 (a0:List TGroup) (a1:TRow):A:=.v (.int .i64 (Ad7 a0 a1))
def Azj (_a0:List TGroup) (_a1:TRow):Objs:=[]
def Ap8 (a0:List TGroup) (a1:TRow):List Prop:=[(∀(g:TGroup),g∈a0→Az g.1.size),((!(ID a0 a1))=true→(!(JJ a0 a1))=true→(!(IC a0 a1))=true→AL E9 E8 Ip (GT (a0,(0:Int),a1)) (a0,(0:Int),a1))]
theorem Bfr (a0:List TGroup) (a1:TRow):EQ (AA Bq6 Aaq) 9 66 [.sl .group a0,Ak .row a1] 0 []=some (1,Ad8 a0 a1,0,Azj a0 a1,[(∀(g:TGroup),g∈a0→Az g.1.size),((!(ID a0 a1))=true→(!(JJ a0 a1))=true→(!(IC a0 a1))=true→Aj Try.prog (66:FuncId) (0:Nat)=Aj Try.prog (66:FuncId) (0:Nat)),((!(ID a0 a1))=true→(!(JJ a0 a1))=true→(!(IC a0 a1))=true→AL E9 E8 Ip (GT (a0,(0:Int),a1)) (a0,(0:Int),a1))]):=by kernel_rfl
theorem Bjr (a0:List TGroup) (a1:TRow) (hp:∀p∈Ap8 a0 a1,p):CallOk Try.prog 66 [.sl .group a0,Ak .row a1] 0 [] 1 (Ad8 a0 a1) 0 (Azj a0 a1):=by
 have n0:=N0 hp
 have n1:((!(ID a0 a1))=true→(!(JJ a0 a1))=true→(!(IC a0 a1))=true→Aj Try.prog (66:FuncId) (0:Nat)=Aj Try.prog (66:FuncId) (0:Nat)):=by intros;rfl
 have n2:=N0 (N1 hp)
 exact AI (Aw A52 As7) (Bfr a0 a1) (Aa n0 (Aa n1 (Aa n2 Ab)))
def Ap9 (a0:List TGroup) (a1:TRow):A:=.v (.int .i64 (Ap a0 a1))
def Ap7 (_a0:List TGroup) (_a1:TRow):Objs:=[]
def Aiu (a0:List TGroup) (_a1:TRow):List Prop:=[∀g∈a0,Az g.name.size]
theorem Ap6 (l:List TGroup) (r:TRow) (hb:∀g∈l,Az g.name.size):(∀p∈Ap8 l r,p)∧Ad7 l r=Ap l r:=by
 have hk2:ID l r=(AY l !=0):=rfl
 have hk3:JJ l r=(Sl r.key !=0):=rfl
 have hk0:IC l r=(r.cells.length !=l.length):=by
  show((r.cells.length:Int) !=(l.length:Int))=_
  rw[Bool.eq_iff_iff,bne_iff_ne,bne_iff_ne];omega
 have main:ID l r=false→IC l r=false→AL E9 E8 Ip (GT (l,0,r)) (l,0,r)∧D2 (JI l r).fst (JI l r).snd.fst (JI l r).snd.snd=!(l.zip r.cells).all (fun x=>BA x.1.policy x.2):=fun h2 h0=>by
  rw[hk0] at h0
  have hlen:r.cells.length=l.length:=by simpa using h0
  have hl4:l.length≤4:=(Gu (by rw[hk2] at h2;simpa using h2)).2
  have hf:∀i:Nat,D2 l (i:Int) r=(decide (i <l.length)&&!BA (l.getD i (Ae TC.group)).2 (r.2.getD i (Ae TC.cell))):=fun i=>by
   unfold D2 E7
   rw[nn,Mp,Int.toNat_natCast,Apq]
  obtain⟨h1,k,hk,hx,_,_,hb'⟩:=IJ (fun i=>((l,(i:Int),r):Cz)) l.length (fun i=>!BA (l.getD i (Ae TC.group)).2 (r.2.getD i (Ae TC.cell))) E9 E8 Ip (GT (l,0,r)) (l,0,r) rfl (by show l.length≤((l.length:Int) - 0).toNat;omega)
   (fun i _ _=>by
    show((!!decide ((i:Int) <(l.length:Int)))&&!D2 l i r)=_
    rw[hf,nn,Mp]
    cases decide (i <l.length)<;>rfl)
   (fun i hi _=>by
    show(l,IntKind.i64.wrap ((i:Int)+1),r)=(l,((i+1:Nat):Int),r)
    rw[Fp (by omega)])
   (fun i _ _=>by
    have hin:(!!decide ((i:Int) <(l.length:Int)))=true→(i:Int) <(l.length:Int):=fun h=>by rw[nn] at h;exact of_decide_eq_true h
    exact Aa (fun h=>⟨by show(0:Int)≤(i:Int);omega,hin h⟩) (Aa (fun h=>⟨by show(0:Int)≤(i:Int);omega,by have:=hin h;show(i:Int) <(r.cells.length:Int);omega⟩) Ab))
  refine⟨h1,?_⟩
  have hr:JI l r=(l,(k:Int),r):=hx
  rw[hr]
  show D2 l (k:Int) r=_
  rw[hf,hb',Bzq l r.cells (Ae TC.group) (Ae TC.cell) (fun g c=>BA g.policy c) hlen]
  congr 1
  exact HV fun i _=>Bool.not_not _
 refine⟨Aa hb (Aa (fun h1 _ h3=>(main (by simpa using h1) (by simpa using h3)).1) Ab),?_⟩
 unfold Ad7 Ap
 have ek:Sl r.key=bif r.key.size==0 then 2 else bif decide (32 <r.key.size) then 3 else 0:=rfl
 cases h2:ID l r with
 |true=>rw[hk2] at h2;rw[h2];rfl
 | false=>
  rw[hk2] at h2
  rw[h2,cond_false,cond_false]
  cases h3:JJ l r with
  | true=>
   rw[cond_true]
   rw[hk3,ek] at h3
   rw[ek]
   cases h5:r.key.size==0 with
   |true=>rfl
   |false=>
    rw[h5] at h3
    cases h6:decide (32 <r.key.size) with
    |true=>rfl
    |false=>rw[h6] at h3;cases h3
  | false=>
   rw[hk3,ek] at h3
   have h5:(r.key.size==0)=false:=by
    cases h5:r.key.size==0 with
    |false=>rfl
    |true=>rw[h5] at h3;cases h3
   rw[h5] at h3
   have h6:decide (32 <r.key.size)=false:=by
    cases h6:decide (32 <r.key.size) with
    |false=>rfl
    |true=>rw[h6] at h3;cases h3
   rw[h5,h6,cond_false,cond_false,cond_false]
   cases h0:IC l r with
   |true=>rw[hk0] at h0;rw[h0];rfl
   |false=>
    rw[cond_false,(main (by rw[hk2];exact h2) h0).2]
    rw[hk0] at h0
    rw[h0,cond_false]
    cases(l.zip r.cells).all (fun x=>BA x.1.policy x.2)<;>rfl
theorem Bfq (a0:List TGroup) (a1:TRow) (hp:∀p∈Aiu a0 a1,p):CallOk Try.prog 66 [.sl .group a0,Ak .row a1] 0 [] 1 (Ap9 a0 a1) 0 (Ap7 a0 a1):=by
 have hb:∀g∈a0,Az g.name.size:=hp _ (List.mem_cons_self ..)
 have h:=Bjr a0 a1 (Ap6 a0 a1 hb).1
 unfold Ad8 at h
 rw[(Ap6 a0 a1 hb).2] at h
 exact h
def Ad9:List A→Nat→Objs→Option Bb
 | [y0,y1],nx,o=>match Kh .group y0,AQ .row y1 with
  |some a0,some (a1,p1)=>some (1,(Ap9 a0 a1).pk (AF nx),nx+0,AE nx (Ap7 a0 a1)++o,p1++(Aiu a0 a1))
  |_,_=>none
 |_,_,_=>none
theorem A9g:Ft Try.prog 66 Ad9:=fun args nx o k x nx' o' ps h=>by
 unfold Ad9 at h
 split at h<;>first|(cases h;done)|skip
 split at h<;>first|(cases h;done)|skip
 rename_i a0 a1 p1 e0 e1
 cases h
 refine⟨fun hp=>?_,_,rfl⟩
 have q1:=fun p hm=>hp p (List.mem_append.2 (.inl hm))
 have r1:=fun p hm=>hp p (List.mem_append.2 (.inr hm))
 refine Ah (Ag (Bfq a0 a1 r1) (Nat.le_refl _) (Ac rfl (Ac (Af _ _) Ao)) nx o) fun F N R vs hl=>?_
 obtain⟨v0,w0,rfl,h0,hl⟩:=hl.inv
 obtain⟨v1,w1,rfl,h1,hl⟩:=hl.inv
 exact HL.cons (BX e0 h0) (HL.cons (Am e1 q1 h1) (hl))
noncomputable def B0b:=A7 66 Ad9 Bq6
theorem Blq:Dd Try.prog B0b:=Av A9g A52
def Ado (a0:TCell) (a1:TCell):Bool:=a0.1.1==a1.1.1&&a0.1.2==a1.1.2&&(a0.2.1==a1.2.1&&a0.2.2==a1.2.2)&&a0.3==a1.3&&a0.4.toList==a1.4.toList&&(a0.5.1==a1.5.1&&a0.5.2==a1.5.2)
def Adp (a0:TCell) (a1:TCell):A:=.v (.bool (Ado a0 a1))
def Ay2 (_a0:TCell) (_a1:TCell):Objs:=[]
def Bfe (_a0:TCell) (_a1:TCell):List Prop:=[]
theorem Bfd (a0:TCell) (a1:TCell):EQ (AA B0b L0) 9 76 [Ak .cell a0,Ak .cell a1] 0 []=some (1,Adp a0 a1,0,Ay2 a0 a1,[]):=by kernel_rfl
theorem Bjf (a0:TCell) (a1:TCell) (_hp:∀p∈Bfe a0 a1,p):CallOk Try.prog 76 [Ak .cell a0,Ak .cell a1] 0 [] 1 (Adp a0 a1) 0 (Ay2 a0 a1):=by
 exact AI (Aw Blq AH) (Bfd a0 a1) Ab
def Apt (a0:TCell) (a1:TCell):A:=.v (.bool (eqC a0 a1))
def Aps (_a0:TCell) (_a1:TCell):Objs:=[]
def Aim (_a0:TCell) (_a1:TCell):List Prop:=[]
theorem Bfc (a0:TCell) (a1:TCell) (_hp:∀p∈Aim a0 a1,p):CallOk Try.prog 76 [Ak .cell a0,Ak .cell a1] 0 [] 1 (Apt a0 a1) 0 (Aps a0 a1):=by
 have h:=Bjf a0 a1 (fun _ h=>by cases h)
 have e:Ado a0 a1=eqC a0 a1:=by unfold Ado;rw[tlb];rfl
 unfold Adp at h
 rw[e] at h
 exact h
def Adq:List A→Nat→Objs→Option Bb
 | [y0,y1],nx,o=>match AQ .cell y0,AQ .cell y1 with
  |some (a0,p0),some (a1,p1)=>some (1,(Apt a0 a1).pk (AF nx),nx+0,AE nx (Aps a0 a1)++o,p0++(p1++(Aim a0 a1)))
  |_,_=>none
 |_,_,_=>none
theorem A86:Ft Try.prog 76 Adq:=fun args nx o k x nx' o' ps h=>by
 unfold Adq at h
 split at h<;>first|(cases h;done)|skip
 split at h<;>first|(cases h;done)|skip
 rename_i a0 p0 a1 p1 e0 e1
 cases h
 refine⟨fun hp=>?_,_,rfl⟩
 have q0:=fun p hm=>hp p (List.mem_append.2 (.inl hm))
 have r0:=fun p hm=>hp p (List.mem_append.2 (.inr hm))
 have q1:=fun p hm=>r0 p (List.mem_append.2 (.inl hm))
 have r1:=fun p hm=>r0 p (List.mem_append.2 (.inr hm))
 refine Ah (Ag (Bfc a0 a1 r1) (Nat.le_refl _) (Ac (Af _ _) (Ac (Af _ _) Ao)) nx o) fun F N R vs hl=>?_
 obtain⟨v0,w0,rfl,h0,hl⟩:=hl.inv
 obtain⟨v1,w1,rfl,h1,hl⟩:=hl.inv
 exact HL.cons (Am e0 q0 h0) (HL.cons (Am e1 q1 h1) (hl))
noncomputable def Bq7:=A7 76 Adq B0b
theorem A53:Dd Try.prog Bq7:=Av A86 Blq
abbrev CA:Type:=Int×TRow×TRow
def MC (x:CA):St:=⟨39,2,[(2,.own 0 0),(3,.own 1 0),(5,.v (.int .i64 x.1))],[(0,some (.box 71 [.v (.string x.2.1.key),.sl .cell x.2.1.cells])),(1,some (.box 71 [.v (.string x.2.2.key),.sl .cell x.2.2.cells]))]⟩
def Ps:St→Option CA
 |⟨39,2,[(2,.own 0 0),(3,.own 1 0),(5,.v (.int .i64 z0))],[(0,some (.box 71 [.v (.string z1),.sl .cell z2])),(1,some (.box 71 [.v (.string z3),.sl .cell z4]))]⟩=>some (z0,⟨z1,z2⟩,⟨z3,z4⟩)
 |_=>none
theorem Am5:∀s x,Ps s=some x→s=MC x:=fun s x h=>by
 unfold Ps at h
 split at h
 ·cases h;rfl
 ·cases h
def Aaw:Dj:=⟨2,2,[2,3,5],[],[(0,0),(1,1)],[0,1],[4],[0,1]⟩
def A21:DB:=⟨[],[(0,0),(1,1)],[2,3,5],[0,1]⟩
def Fd (a0:Int) (a1:TRow) (_a2:TRow):Bool:=!!decide (a0 <(↑a1.2.length:Int))
def D5 (a0:Int) (a1:TRow) (a2:TRow):Bool:=(Fd a0 a1 a2)&&!eqC (a1.2.getD a0.toNat (Ae TC.cell)) (a2.2.getD a0.toNat (Ae TC.cell))
def Ati (a0:Int) (a1:TRow) (a2:TRow):Bool:=(Fd a0 a1 a2)&&!(D5 a0 a1 a2)
def Ff (x:CA):CA:=(IntKind.i64.wrap (x.1+(1:Int)),x.2.1,x.2.2)
def Fe (x:CA):Cnd:=some (Ati x.1 x.2.1 x.2.2)
def Vn (x:CA):List Prop:=[((Fd x.1 x.2.1 x.2.2)=true→(0:Int)≤x.1∧x.1 <(↑x.2.1.2.length:Int)),((Fd x.1 x.2.1 x.2.2)=true→(0:Int)≤x.1∧x.1 <(↑x.2.2.2.length:Int))]
def Ir (x:CA):List Prop:=[((Fd x.1 x.2.1 x.2.2)=true→(0:Int)≤x.1∧x.1 <(↑x.2.1.2.length:Int)),((Fd x.1 x.2.1 x.2.2)=true→(0:Int)≤x.1∧x.1 <(↑x.2.2.2.length:Int))]
def Td (x:CA):Bo:=[(some 0,some (!decide (x.1 <(↑x.2.1.2.length:Int))),⟨39,2,[(4,.dead)],[(0,some (.box 71 [.v (.string x.2.1.1),.sl .cell x.2.1.2])),(1,some (.box 71 [.v (.string x.2.2.1),.sl .cell x.2.2.2]))]⟩),(none,some ((D5 x.1 x.2.1 x.2.2)),⟨39,2,[(4,.v (.bool (false)))],[(0,some (.box 71 [.v (.string x.2.1.1),.sl .cell x.2.1.2])),(1,some (.box 71 [.v (.string x.2.2.1),.sl .cell x.2.2.2]))]⟩)]
def GV (x:CA):Nat:=((↑x.2.1.2.length:Int) - x.1).toNat
def Atk (x:CA):CA:=Bg Ff Fe (GV x) x
theorem Azs (a0:Int) (a1:TRow) (a2:TRow):Bz (AA Bq7 L0) 9 (Aj Try.prog 67 0) Aaw (MC (a0,a1,a2))=some (Vn (a0,a1,a2),Td (a0,a1,a2),Fe (a0,a1,a2),MC (Ff (a0,a1,a2))):=by kernel_rfl
theorem Azt (a0:Int) (a1:TRow) (a2:TRow) (hp:∀p∈Ir (a0,a1,a2),p):∀p∈Vn (a0,a1,a2),p:=by
 have n0:=N0 hp
 have n1:=N0 (N1 hp)
 exact(Aa n0 (Aa n1 Ab))
noncomputable def Vo:=H1 (AA Bq7 L0) (Aj Try.prog 67 0) Aaw A21 Ps GV Ff Fe Ir Td
theorem Atj:∀s b ps outs,Vo s=some (b,ps,outs)→Wf s ⟨ps,outs,none⟩∧Bx (AA C0 L0) b s ps outs:=
 Bm (T:=MC) A53 AH (u:=9) (by kernel_rfl) (by decide) (fun⟨a0,a1,a2⟩=>Azs a0 a1 a2) (fun⟨a0,a1,a2⟩=>Azt a0 a1 a2) Am5 (fun _=>AW (n:=39) rfl) fun _ _=>rfl
noncomputable def Aav:=DP 0 Vo L0
theorem Ath:Hr Aav:=A6 Atj AH
def JM (a0:TRow) (a1:TRow):CA:=Atk ((0:Int),a0,a1)
def IE (a0:TRow) (a1:TRow):Bool:=!a0.1.toList==a1.1.toList||(↑a0.2.length:Int) !=(↑a1.2.length:Int)
def Aeh (a0:TRow) (a1:TRow):Bool:=bif(IE a0 a1) then false else bif D5 (JM a0 a1).fst (JM a0 a1).snd.fst (JM a0 a1).snd.snd then false else true
def Aei (a0:TRow) (a1:TRow):A:=.v (.bool (Aeh a0 a1))
def Azu (_a0:TRow) (_a1:TRow):Objs:=[]
def Aqh (a0:TRow) (a1:TRow):List Prop:=[((!(IE a0 a1))=true→AL Ff Fe Ir (GV ((0:Int),a0,a1)) ((0:Int),a0,a1))]
theorem Bfz (a0:TRow) (a1:TRow):EQ (AA Bq7 Aav) 9 67 [Ak .row a0,Ak .row a1] 0 []=some (1,Aei a0 a1,0,Azu a0 a1,[((!(IE a0 a1))=true→Aj Try.prog (67:FuncId) (0:Nat)=Aj Try.prog (67:FuncId) (0:Nat)),((!(IE a0 a1))=true→AL Ff Fe Ir (GV ((0:Int),a0,a1)) ((0:Int),a0,a1))]):=by kernel_rfl
theorem Bj0 (a0:TRow) (a1:TRow) (hp:∀p∈Aqh a0 a1,p):CallOk Try.prog 67 [Ak .row a0,Ak .row a1] 0 [] 1 (Aei a0 a1) 0 (Azu a0 a1):=by
 have n0:((!(IE a0 a1))=true→Aj Try.prog (67:FuncId) (0:Nat)=Aj Try.prog (67:FuncId) (0:Nat)):=by intros;rfl
 have n1:=N0 hp
 exact AI (Aw A53 Ath) (Bfz a0 a1) (Aa n0 (Aa n1 Ab))
def Aqi (a0:TRow) (a1:TRow):A:=.v (.bool (R9 a0 a1))
def Aqg (_a0:TRow) (_a1:TRow):Objs:=[]
def Ai2 (a0:TRow) (_a1:TRow):List Prop:=[Ai a0.cells.length]
theorem Aqf (a b:TRow) (hb:Ai a.cells.length):(∀p∈Aqh a b,p)∧Aeh a b=R9 a b:=by
 unfold Ai at hb
 have hk0:IE a b=(!(a.key==b.key)||a.cells.length !=b.cells.length):=by
  show(!(a.key.toList==b.key.toList)||((a.cells.length:Int) !=(b.cells.length:Int)))=_
  rw[tlb]
  congr 1
  rw[Bool.eq_iff_iff,bne_iff_ne,bne_iff_ne];omega
 have main:IE a b=false→AL Ff Fe Ir (GV (0,a,b)) (0,a,b)∧D5 (JM a b).fst (JM a b).snd.fst (JM a b).snd.snd=!Agb a.cells b.cells:=fun h0=>by
  rw[hk0] at h0
  have hlen:a.cells.length=b.cells.length:=by simpa using(Bool.or_eq_false_iff.1 h0).2
  have hf:∀i:Nat,D5 (i:Int) a b=(decide (i <a.cells.length)&&!eqC (a.2.getD i (Ae TC.cell)) (b.2.getD i (Ae TC.cell))):=fun i=>by
   unfold D5 Fd
   rw[nn,Mp,Int.toNat_natCast]
  obtain⟨h1,k,hk,hx,_,_,hb'⟩:=IJ (fun i=>(((i:Int),a,b):CA)) a.cells.length (fun i=>!eqC (a.2.getD i (Ae TC.cell)) (b.2.getD i (Ae TC.cell))) Ff Fe Ir (GV (0,a,b)) (0,a,b) rfl (by show a.cells.length≤((a.cells.length:Int) - 0).toNat;omega)
   (fun i _ _=>by
    show((!!decide ((i:Int) <(a.cells.length:Int)))&&!D5 i a b)=_
    rw[hf,nn,Mp]
    cases decide (i <a.cells.length)<;>rfl)
   (fun i hi _=>by
    show(IntKind.i64.wrap ((i:Int)+1),a,b)=(((i+1:Nat):Int),a,b)
    rw[Fp (by omega)])
   (fun i _ _=>by
    have hin:(!!decide ((i:Int) <(a.cells.length:Int)))=true→(i:Int) <(a.cells.length:Int):=fun h=>by rw[nn] at h;exact of_decide_eq_true h
    exact Aa (fun h=>⟨by show(0:Int)≤(i:Int);omega,hin h⟩) (Aa (fun h=>⟨by show(0:Int)≤(i:Int);omega,by have:=hin h;show(i:Int) <(b.cells.length:Int);omega⟩) Ab))
  refine⟨h1,?_⟩
  have hr:JM a b=((k:Int),a,b):=hx
  rw[hr]
  show D5 (k:Int) a b=_
  rw[hf,hb',Bsj _ _ hlen]
  congr 1
  exact HV fun i _=>Bool.not_not _
 refine⟨Aa (fun h=>(main (by simpa using h)).1) Ab,?_⟩
 unfold Aeh R9
 cases h0:IE a b with
 | true=>
  rw[hk0] at h0
  rw[cond_true]
  cases hk:a.key==b.key with
  |false=>rfl
  |true=>
   rw[hk] at h0
   have hne:a.cells.length≠b.cells.length:=by simpa using h0
   cases he:Agb a.cells b.cells with
   |false=>rfl
   |true=>exact absurd (congrArg List.length (Wb.1 he)) hne
 |false=>
  rw[cond_false,(main h0).2]
  rw[hk0] at h0
  have:(a.key==b.key)=true:=by simpa using(Bool.or_eq_false_iff.1 h0).1
  rw[this,Bool.true_and]
  cases Agb a.cells b.cells<;>rfl
theorem Bfy (a0:TRow) (a1:TRow) (hp:∀p∈Ai2 a0 a1,p):CallOk Try.prog 67 [Ak .row a0,Ak .row a1] 0 [] 1 (Aqi a0 a1) 0 (Aqg a0 a1):=by
 have hb:Ai a0.cells.length:=hp _ (List.mem_cons_self ..)
 have h:=Bj0 a0 a1 (Aqf a0 a1 hb).1
 unfold Aei at h
 rw[(Aqf a0 a1 hb).2] at h
 exact h
def Aej:List A→Nat→Objs→Option Bb
 | [y0,y1],nx,o=>match AQ .row y0,AQ .row y1 with
  |some (a0,p0),some (a1,p1)=>some (1,(Aqi a0 a1).pk (AF nx),nx+0,AE nx (Aqg a0 a1)++o,p0++(p1++(Ai2 a0 a1)))
  |_,_=>none
 |_,_,_=>none
theorem A9k:Ft Try.prog 67 Aej:=fun args nx o k x nx' o' ps h=>by
 unfold Aej at h
 split at h<;>first|(cases h;done)|skip
 split at h<;>first|(cases h;done)|skip
 rename_i a0 p0 a1 p1 e0 e1
 cases h
 refine⟨fun hp=>?_,_,rfl⟩
 have q0:=fun p hm=>hp p (List.mem_append.2 (.inl hm))
 have r0:=fun p hm=>hp p (List.mem_append.2 (.inr hm))
 have q1:=fun p hm=>r0 p (List.mem_append.2 (.inl hm))
 have r1:=fun p hm=>r0 p (List.mem_append.2 (.inr hm))
 refine Ah (Ag (Bfy a0 a1 r1) (Nat.le_refl _) (Ac (Af _ _) (Ac (Af _ _) Ao)) nx o) fun F N R vs hl=>?_
 obtain⟨v0,w0,rfl,h0,hl⟩:=hl.inv
 obtain⟨v1,w1,rfl,h1,hl⟩:=hl.inv
 exact HL.cons (Am e0 q0 h0) (HL.cons (Am e1 q1 h1) (hl))
noncomputable def Bq8:=A7 67 Aej Bq7
theorem A54:Dd Try.prog Bq8:=Av A9k A53
abbrev C7:Type:=Int×TRow
def Mz (x:C7):St:=⟨19,1,[(1,.own 0 0),(3,.v (.int .i64 x.1))],[(0,some (.box 71 [.v (.string x.2.key),.sl .cell x.2.cells]))]⟩
def Pm:St→Option C7
 |⟨19,1,[(1,.own 0 0),(3,.v (.int .i64 z0))],[(0,some (.box 71 [.v (.string z1),.sl .cell z2]))]⟩=>some (z0,⟨z1,z2⟩)
 |_=>none
theorem Amm:∀s x,Pm s=some x→s=Mz x:=fun s x h=>by
 unfold Pm at h
 split at h
 ·cases h;rfl
 ·cases h
def Aao:Dj:=⟨1,1,[1,3],[],[(0,0)],[0],[2],[0]⟩
def A2w:DB:=⟨[],[(0,0)],[1,3],[0]⟩
def Im (a0:Int) (a1:TRow):Bool:=!!decide (a0 <(↑a1.2.length:Int))
def E6 (a0:Int) (a1:TRow):Bool:=(Im a0 a1)&&!eqC (a1.2.getD a0.toNat (Ae TC.cell)) (TCell.mk (TStamp.mk (0:Int) (0:Int)) (TVec.mk (0:Int) (0:Int)) false (ByteArray.mk #[]) (TVec.mk (0:Int) (0:Int)))
def As3 (a0:Int) (a1:TRow):Bool:=(Im a0 a1)&&!(E6 a0 a1)
def GS (x:C7):C7:=(IntKind.i64.wrap (x.1+(1:Int)),x.2)
def GR (x:C7):Cnd:=some (As3 x.1 x.2)
def Vd (x:C7):List Prop:=[((Im x.1 x.2)=true→(0:Int)≤x.1∧x.1 <(↑x.2.2.length:Int))]
def JH (x:C7):List Prop:=[((Im x.1 x.2)=true→(0:Int)≤x.1∧x.1 <(↑x.2.2.length:Int))]
def S5 (x:C7):Bo:=[(some 0,some (!decide (x.1 <(↑x.2.2.length:Int))),⟨19,1,[(2,.dead)],[(0,some (.box 71 [.v (.string x.2.1),.sl .cell x.2.2]))]⟩),(none,some ((E6 x.1 x.2)),⟨19,1,[(2,.v (.bool (false)))],[(0,some (.box 71 [.v (.string x.2.1),.sl .cell x.2.2]))]⟩)]
def In (x:C7):Nat:=((↑x.2.2.length:Int) - x.1).toNat
def Nq (x:C7):C7:=Bg GS GR (In x) x
theorem Azd (a0:Int) (a1:TRow):Bz (AA Bq8 L0) 9 (Aj Try.prog 68 0) Aao (Mz (a0,a1))=some (Vd (a0,a1),S5 (a0,a1),GR (a0,a1),Mz (GS (a0,a1))):=by kernel_rfl
theorem Aze (a0:Int) (a1:TRow) (hp:∀p∈JH (a0,a1),p):∀p∈Vd (a0,a1),p:=by
 have n0:=N0 hp
 exact(Aa n0 Ab)
noncomputable def Ve:=H1 (AA Bq8 L0) (Aj Try.prog 68 0) Aao A2w Pm In GS GR JH S5
theorem As4:∀s b ps outs,Ve s=some (b,ps,outs)→Wf s ⟨ps,outs,none⟩∧Bx (AA C0 L0) b s ps outs:=
 Bm (T:=Mz) A54 AH (u:=9) (by kernel_rfl) (by decide) (fun⟨a0,a1⟩=>Azd a0 a1) (fun⟨a0,a1⟩=>Aze a0 a1) Amm (fun _=>AW (n:=19) rfl) fun _ _=>rfl
noncomputable def Aan:=DP 0 Ve L0
theorem As2:Hr Aan:=A6 As4 AH
def Ad1 (a0:TRow):Bool:=bif E6 (Nq ((0:Int),a0)).fst (Nq ((0:Int),a0)).snd then false else true
def Ad2 (a0:TRow):A:=.v (.bool (Ad1 a0))
def Azf (_a0:TRow):Objs:=[]
def Ap1 (a0:TRow):List Prop:=[(AL GS GR JH (In ((0:Int),a0)) ((0:Int),a0))]
theorem Bfn (a0:TRow):EQ (AA Bq8 Aan) 9 68 [Ak .row a0] 0 []=some (1,Ad2 a0,0,Azf a0,[(Aj Try.prog (68:FuncId) (0:Nat)=Aj Try.prog (68:FuncId) (0:Nat)),(AL GS GR JH (In ((0:Int),a0)) ((0:Int),a0))]):=by kernel_rfl
theorem Bjp (a0:TRow) (hp:∀p∈Ap1 a0,p):CallOk Try.prog 68 [Ak .row a0] 0 [] 1 (Ad2 a0) 0 (Azf a0):=by
 have n1:=N0 hp
 exact AI (Aw A54 As2) (Bfn a0) (Aa rfl (Aa n1 Ab))
def Ap2 (a0:TRow):A:=.v (.bool (FF a0))
def Ap0 (_a0:TRow):Objs:=[]
def Aip (a0:TRow):List Prop:=[Ai a0.cells.length]
theorem Apz (a:TRow) (hb:Ai a.cells.length):(∀p∈Ap1 a,p)∧Ad1 a=FF a:=by
 unfold Ai at hb
 have hf:∀i:Nat,E6 (i:Int) a=(decide (i <a.cells.length)&&!eqC (a.2.getD i (Ae TC.cell)) zeroC):=fun i=>by
  unfold E6 Im
  rw[nn,Mp,Int.toNat_natCast]
  rfl
 obtain⟨h1,k,hk,hx,_,_,hb'⟩:=IJ (fun i=>(((i:Int),a):C7)) a.cells.length (fun i=>!eqC (a.2.getD i (Ae TC.cell)) zeroC) GS GR JH (In (0,a)) (0,a) rfl (by show a.cells.length≤((a.cells.length:Int) - 0).toNat;omega)
  (fun i _ _=>by
   show((!!decide ((i:Int) <(a.cells.length:Int)))&&!E6 i a)=_
   rw[hf,nn,Mp]
   cases decide (i <a.cells.length)<;>rfl)
  (fun i hi _=>by
   show(IntKind.i64.wrap ((i:Int)+1),a)=(((i+1:Nat):Int),a)
   rw[Fp (by omega)])
  (fun i _ _=>Aa (fun h=>⟨by show(0:Int)≤(i:Int);omega,by
   have h':(!!decide ((i:Int) <(a.cells.length:Int)))=true:=h
   rw[nn] at h';exact of_decide_eq_true h'⟩) Ab)
 refine⟨Aa h1 Ab,?_⟩
 have hr:Nq (0,a)=((k:Int),a):=hx
 unfold Ad1
 rw[hr]
 show(bif E6 (k:Int) a then false else true)=_
 rw[hf,hb']
 unfold FF
 rw[Brx a.cells (Ae TC.cell)]
 rw[show Jn a.cells.length (fun i=>!!eqC (a.2.getD i (Ae TC.cell)) zeroC)=Jn a.cells.length (fun i=>eqC (a.cells.getD i (Ae TC.cell)) zeroC) from HV fun i _=>Bool.not_not _]
 cases Jn a.cells.length (fun i=>eqC (a.cells.getD i (Ae TC.cell)) zeroC)<;>rfl
theorem Bfm (a0:TRow) (hp:∀p∈Aip a0,p):CallOk Try.prog 68 [Ak .row a0] 0 [] 1 (Ap2 a0) 0 (Ap0 a0):=by
 have hb:Ai a0.cells.length:=hp _ (List.mem_cons_self ..)
 have h:=Bjp a0 (Apz a0 hb).1
 unfold Ad2 at h
 rw[(Apz a0 hb).2] at h
 exact h
def Ad3:List A→Nat→Objs→Option Bb
 | [y0],nx,o=>match AQ .row y0 with
  |some (a0,p0)=>some (1,(Ap2 a0).pk (AF nx),nx+0,AE nx (Ap0 a0)++o,p0++(Aip a0))
  |_=>none
 |_,_,_=>none
theorem A9b:Ft Try.prog 68 Ad3:=fun args nx o k x nx' o' ps h=>by
 unfold Ad3 at h
 split at h<;>first|(cases h;done)|skip
 split at h<;>first|(cases h;done)|skip
 rename_i a0 p0 e0
 cases h
 refine⟨fun hp=>?_,_,rfl⟩
 have q0:=fun p hm=>hp p (List.mem_append.2 (.inl hm))
 have r0:=fun p hm=>hp p (List.mem_append.2 (.inr hm))
 refine Ah (Ag (Bfm a0 r0) (Nat.le_refl _) (Ac (Af _ _) Ao) nx o) fun F N R vs hl=>?_
 obtain⟨v0,w0,rfl,h0,hl⟩:=hl.inv
 exact HL.cons (Am e0 q0 h0) (hl)
noncomputable def Bq9:=A7 68 Ad3 Bq8
theorem A55:Dd Try.prog Bq9:=Av A9b A54
abbrev CC:Type:=(List TCell)×Int×Int
def MG (x:CC):St:=⟨16,1,[(6,.sl .cell x.1),(7,.v (.int .i64 x.2.1)),(8,.v (.int .i64 x.2.2))],[]⟩
def PB:St→Option CC
 |⟨16,1,[(6,.sl .cell z0),(7,.v (.int .i64 z1)),(8,.v (.int .i64 z2))],[]⟩=>some (z0,z1,z2)
 |_=>none
theorem Anm:∀s x,PB s=some x→s=MG x:=fun s x h=>by
 unfold PB at h
 split at h
 ·cases h;rfl
 ·cases h
def Aa7:Dj:=⟨1,1,[6,7,8],[],[],[],[2],[]⟩
def A3b:DB:=⟨[],[],[6,7,8],[]⟩
def Fj (a0:List TCell) (a1:Int) (a2:Int):Bool:=!!decide (a2 <a1)&&!((a0.getD a2.toNat (Ae TC.cell)).1.1==(0:Int)&&(a0.getD a2.toNat (Ae TC.cell)).1.2==(0:Int)&&((a0.getD a2.toNat (Ae TC.cell)).2.1==(0:Int)&&(a0.getD a2.toNat (Ae TC.cell)).2.2==(0:Int)&&((a0.getD a2.toNat (Ae TC.cell)).3==false&&((a0.getD a2.toNat (Ae TC.cell)).4.toList==(ByteArray.mk #[]).toList&&((a0.getD a2.toNat (Ae TC.cell)).5.1==(0:Int)&&(a0.getD a2.toNat (Ae TC.cell)).5.2==(0:Int))))))
def Atz (a0:List TCell) (a1:Int) (a2:Int):Bool:=!!decide (a2 <a1)&&!(Fj a0 a1 a2)
def G4 (x:CC):CC:=(x.1,x.2.1,IntKind.i64.wrap (x.2.2+(1:Int)))
def G3 (x:CC):Cnd:=some (Atz x.1 x.2.1 x.2.2)
def Vx (x:CC):List Prop:=[((!!decide (x.2.2 <x.2.1))=true→(0:Int)≤x.2.2∧x.2.2 <(↑x.1.length:Int))]
def JR (x:CC):List Prop:=[((!!decide (x.2.2 <x.2.1))=true→(0:Int)≤x.2.2∧x.2.2 <(↑x.1.length:Int))]
def Tk (x:CC):Bo:=[(some 0,some (!decide (x.2.2 <x.2.1)),⟨16,1,[(2,.dead)],[]⟩),(none,some ((Fj x.1 x.2.1 x.2.2)),⟨16,2,[(2,.v (.bool (false)))],[]⟩)]
def Iw (x:CC):Nat:=(x.2.1 - x.2.2).toNat
def At1 (x:CC):CC:=Bg G4 G3 (Iw x) x
theorem A0h (a0:List TCell) (a1:Int) (a2:Int):Bz (AA Bq9 L0) 9 (Aj Try.prog 52 0) Aa7 (MG (a0,a1,a2))=some (Vx (a0,a1,a2),Tk (a0,a1,a2),G3 (a0,a1,a2),MG (G4 (a0,a1,a2))):=by kernel_rfl
theorem A0i (a0:List TCell) (a1:Int) (a2:Int) (hp:∀p∈JR (a0,a1,a2),p):∀p∈Vx (a0,a1,a2),p:=by
 have n0:=N0 hp
 exact(Aa n0 Ab)
noncomputable def Vy:=H1 (AA Bq9 L0) (Aj Try.prog 52 0) Aa7 A3b PB Iw G4 G3 JR Tk
theorem At0:∀s b ps outs,Vy s=some (b,ps,outs)→Wf s ⟨ps,outs,none⟩∧Bx (AA C0 L0) b s ps outs:=
 Bm (T:=MG) A55 AH (u:=9) (by kernel_rfl) (by decide) (fun⟨a0,a1,a2⟩=>A0h a0 a1 a2) (fun⟨a0,a1,a2⟩=>A0i a0 a1 a2) Anm (fun _=>AW (n:=16) rfl) fun _ _=>rfl
noncomputable def Aa6:=DP 0 Vy L0
theorem Aty:Hr Aa6:=A6 At0 AH
def QI (a0:TRow):CC:=At1 (a0.2,(↑a0.2.length:Int),(0:Int))
def Aew (a0:TRow):Bool:=bif Fj (QI a0).fst (QI a0).snd.fst (QI a0).snd.snd then false else true
def Aex (a0:TRow):A:=.v (.bool (Aew a0))
def A0j (_a0:TRow):Objs:=[]
def Aqx (a0:TRow):List Prop:=[(AL G4 G3 JR (Iw (a0.2,(↑a0.2.length:Int),(0:Int))) (a0.2,(↑a0.2.length:Int),(0:Int)))]
theorem Bge (a0:TRow):EQ (AA Bq9 Aa6) 9 52 [Ak .row a0] 0 []=some (1,Aex a0,0,A0j a0,[(Aj Try.prog (52:FuncId) (0:Nat)=Aj Try.prog (52:FuncId) (0:Nat)),(AL G4 G3 JR (Iw (a0.2,(↑a0.2.length:Int),(0:Int))) (a0.2,(↑a0.2.length:Int),(0:Int)))]):=by kernel_rfl
theorem Bkb (a0:TRow) (hp:∀p∈Aqx a0,p):CallOk Try.prog 52 [Ak .row a0] 0 [] 1 (Aex a0) 0 (A0j a0):=by
 have n1:=N0 hp
 exact AI (Aw A55 Aty) (Bge a0) (Aa rfl (Aa n1 Ab))
def Aqy (a0:TRow):A:=.v (.bool (FF a0))
def Aqw (_a0:TRow):Objs:=[]
def Ajc (a0:TRow):List Prop:=[Ai a0.cells.length]
theorem Aqv (a:TRow) (hb:Ai a.cells.length):(∀p∈Aqx a,p)∧Aew a=FF a:=by
 unfold Ai at hb
 have hz:∀c:TCell,(c.1.1==(0:Int)&&c.1.2==(0:Int)&&(c.2.1==(0:Int)&&c.2.2==(0:Int)&&(c.3==false&&(c.4.toList==(ByteArray.mk #[]).toList&&(c.5.1==(0:Int)&&c.5.2==(0:Int))))))=eqC c zeroC:=fun c=>by
  rw[tlb]
  unfold eqC zeroC
  simp only[Bool.and_assoc]
 have hf:∀i:Nat,Fj a.2 (a.2.length:Int) (i:Int)=(decide (i <a.cells.length)&&!eqC (a.2.getD i (Ae TC.cell)) zeroC):=fun i=>by
  unfold Fj
  rw[nn,Mp,Int.toNat_natCast,hz]
 obtain⟨h1,k,hk,hx,_,_,hb'⟩:=IJ (fun i=>((a.2,(a.2.length:Int),(i:Int)):CC)) a.cells.length (fun i=>!eqC (a.2.getD i (Ae TC.cell)) zeroC) G4 G3 JR (Iw (a.2,(a.2.length:Int),0)) (a.2,(a.2.length:Int),0) rfl (by show a.cells.length≤((a.cells.length:Int) - 0).toNat;omega)
  (fun i _ _=>by
   show((!!decide ((i:Int) <(a.cells.length:Int)))&&!Fj a.2 (a.2.length:Int) i)=_
   rw[hf,nn,Mp]
   cases decide (i <a.cells.length)<;>rfl)
  (fun i hi _=>by
   show(a.2,(a.2.length:Int),IntKind.i64.wrap ((i:Int)+1))=(a.2,(a.2.length:Int),((i+1:Nat):Int))
   rw[Fp (by omega)])
  (fun i _ _=>Aa (fun h=>⟨by show(0:Int)≤(i:Int);omega,by
   have h':(!!decide ((i:Int) <(a.cells.length:Int)))=true:=h
   rw[nn] at h';exact of_decide_eq_true h'⟩) Ab)
 refine⟨Aa h1 Ab,?_⟩
 have hr:QI a=(a.2,(a.2.length:Int),(k:Int)):=hx
 unfold Aew
 rw[hr]
 show(bif Fj a.2 (a.2.length:Int) (k:Int) then false else true)=_
 rw[hf,hb']
 unfold FF
 rw[Brx a.cells (Ae TC.cell)]
 rw[show Jn a.cells.length (fun i=>!!eqC (a.2.getD i (Ae TC.cell)) zeroC)=Jn a.cells.length (fun i=>eqC (a.cells.getD i (Ae TC.cell)) zeroC) from HV fun i _=>Bool.not_not _]
 cases Jn a.cells.length (fun i=>eqC (a.cells.getD i (Ae TC.cell)) zeroC)<;>rfl
theorem Bgd (a0:TRow) (hp:∀p∈Ajc a0,p):CallOk Try.prog 52 [Ak .row a0] 0 [] 1 (Aqy a0) 0 (Aqw a0):=by
 have hb:Ai a0.cells.length:=hp _ (List.mem_cons_self ..)
 have h:=Bkb a0 (Aqv a0 hb).1
 unfold Aex at h
 rw[(Aqv a0 hb).2] at h
 exact h
def Aey:List A→Nat→Objs→Option Bb
 | [y0],nx,o=>match AQ .row y0 with
  |some (a0,p0)=>some (1,(Aqy a0).pk (AF nx),nx+0,AE nx (Aqw a0)++o,p0++(Ajc a0))
  |_=>none
 |_,_,_=>none
theorem A9w:Ft Try.prog 52 Aey:=fun args nx o k x nx' o' ps h=>by
 unfold Aey at h
 split at h<;>first|(cases h;done)|skip
 split at h<;>first|(cases h;done)|skip
 rename_i a0 p0 e0
 cases h
 refine⟨fun hp=>?_,_,rfl⟩
 have q0:=fun p hm=>hp p (List.mem_append.2 (.inl hm))
 have r0:=fun p hm=>hp p (List.mem_append.2 (.inr hm))
 refine Ah (Ag (Bgd a0 r0) (Nat.le_refl _) (Ac (Af _ _) Ao) nx o) fun F N R vs hl=>?_
 obtain⟨v0,w0,rfl,h0,hl⟩:=hl.inv
 exact HL.cons (Am e0 q0 h0) (hl)
noncomputable def B11:=A7 52 Aey Bq9
theorem Bv2:Dd Try.prog B11:=Av A9w A55
noncomputable def Cj:=B11
theorem By4:Dd Try.prog Cj:=Bv2
end Go.Proofs.Yteebobbhhgmeiaa
namespace Go.Proofs.Yteebobbhhgmeiaa
open Go.RowKit
def M9 (a b:TVec):TVec:=⟨max (max 0 a.a) b.a,max (max 0 a.b) b.b⟩
def Acf (c:TCell):TVec:=M9 c.vec c.dead
def Jy (cs:List TCell):TVec:=cs.foldl (fun v c=>M9 v (Acf c)) ⟨0,0⟩
def VL (l:List TGroup) (k:ByteArray):Int:=bif AY l !=0 then AY l else Sl k
def Ah7 (l:List TGroup) (k:ByteArray):TRow:=⟨bif VL l k !=0 then⟨#[]⟩ else k,bif VL l k !=0 then[] else List.replicate l.length zeroC⟩
noncomputable def B0c:=A7 155 (inl (AA Cj L0) 4 155) Cj
theorem Blr:Dd Try.prog B0c:=Av (Acd (Aw By4 AH) 4 155) By4
noncomputable def B0d:=A7 109 (inl (AA B0c L0) 4 109) B0c
theorem Bls:Dd Try.prog B0d:=Av (Acd (Aw Blr AH) 4 109) Blr
def S1 (a0:TVec) (a1:TVec):TVec:=TVec.mk (max (max (0:Int) a0.1) a1.1) (max (max (0:Int) a0.2) a1.2)
def Amc (a0:TVec) (a1:TVec):A:=.v (.agg ⟨[.int .i64 ((S1 a0 a1).a),.int .i64 ((S1 a0 a1).b)]⟩)
def Amb (_a0:TVec) (_a1:TVec):Objs:=[]
def Ayq (_a0:TVec) (_a1:TVec):List Prop:=[]
theorem Bja (a0:TVec) (a1:TVec):EQ (AA B0d L0) 9 110 [Ak .vec a0,Ak .vec a1] 0 []=some (1,Amc a0 a1,0,Amb a0 a1,[((0:Int)≤(0:Int)∧(0:Int) <(↑(2:Nat):Int)),((0:Nat) <(2:Nat)),((0:Int)≤(0:Int)∧(0:Int) <(↑(2:Nat):Int)),((0:Nat) <(2:Nat)),((0:Int)≤(1:Int)∧(1:Int) <(↑(2:Nat):Int)),((1:Nat) <(2:Nat)),((0:Int)≤(1:Int)∧(1:Int) <(↑(2:Nat):Int)),((1:Nat) <(2:Nat))]):=by kernel_rfl
theorem Bpb (a0:TVec) (a1:TVec) (_hp:∀p∈Ayq a0 a1,p):CallOk Try.prog 110 [Ak .vec a0,Ak .vec a1] 0 [] 1 (Amc a0 a1) 0 (Amb a0 a1):=by
 have n0:((0:Int)≤(0:Int)∧(0:Int) <(↑(2:Nat):Int)):=by first|rfl|decide+kernel
 have n1:((0:Nat) <(2:Nat)):=by first|rfl|decide+kernel
 have n4:((0:Int)≤(1:Int)∧(1:Int) <(↑(2:Nat):Int)):=by first|rfl|decide+kernel
 have n5:((1:Nat) <(2:Nat)):=by first|rfl|decide+kernel
 exact AI (Aw Bls AH) (Bja a0 a1) (Aa n0 (Aa n1 (Aa n0 (Aa n1 (Aa n4 (Aa n5 (Aa n4 (Aa n5 Ab))))))))
def Amd:List A→Nat→Objs→Option Bb
 | [y0,y1],nx,o=>match AQ .vec y0,AQ .vec y1 with
  |some (a0,p0),some (a1,p1)=>some (1,(Amc a0 a1).pk (AF nx),nx+0,AE nx (Amb a0 a1)++o,p0++(p1++(Ayq a0 a1)))
  |_,_=>none
 |_,_,_=>none
theorem Be5:Ft Try.prog 110 Amd:=fun args nx o k x nx' o' ps h=>by
 unfold Amd at h
 split at h<;>first|(cases h;done)|skip
 split at h<;>first|(cases h;done)|skip
 rename_i a0 p0 a1 p1 e0 e1
 cases h
 refine⟨fun hp=>?_,_,rfl⟩
 have q0:=fun p hm=>hp p (List.mem_append.2 (.inl hm))
 have r0:=fun p hm=>hp p (List.mem_append.2 (.inr hm))
 have q1:=fun p hm=>r0 p (List.mem_append.2 (.inl hm))
 have r1:=fun p hm=>r0 p (List.mem_append.2 (.inr hm))
 refine Ah (Ag (Bpb a0 a1 r1) (Nat.le_refl _) (Ac (Af _ _) (Ac (Af _ _) Ao)) nx o) fun F N R vs hl=>?_
 obtain⟨v0,w0,rfl,h0,hl⟩:=hl.inv
 obtain⟨v1,w1,rfl,h1,hl⟩:=hl.inv
 exact HL.cons (Am e0 q0 h0) (HL.cons (Am e1 q1 h1) (hl))
noncomputable def B0e:=A7 110 Amd B0d
theorem Blt:Dd Try.prog B0e:=Av Be5 Bls
def XK (a0:TCell):TVec:=S1 a0.2 a0.5
def XM (a0:TCell):A:=.v (.agg ⟨[.int .i64 ((XK a0).a),.int .i64 ((XK a0).b)]⟩)
def XL (_a0:TCell):Objs:=[]
def Ail (_a0:TCell):List Prop:=[]
theorem A85 (a0:TCell):EQ (AA B0e L0) 9 44 [Ak .cell a0] 0 []=some (1,XM a0,0,XL a0,[]):=by kernel_rfl
theorem Bfb (a0:TCell) (_hp:∀p∈Ail a0,p):CallOk Try.prog 44 [Ak .cell a0] 0 [] 1 (XM a0) 0 (XL a0):=by
 exact AI (Aw Blt AH) (A85 a0) Ab
def XN:List A→Nat→Objs→Option Bb
 | [y0],nx,o=>match AQ .cell y0 with
  |some (a0,p0)=>some (1,(XM a0).pk (AF nx),nx+0,AE nx (XL a0)++o,p0++(Ail a0))
  |_=>none
 |_,_,_=>none
theorem A2s:Ft Try.prog 44 XN:=fun args nx o k x nx' o' ps h=>by
 unfold XN at h
 split at h<;>first|(cases h;done)|skip
 split at h<;>first|(cases h;done)|skip
 rename_i a0 p0 e0
 cases h
 refine⟨fun hp=>?_,_,rfl⟩
 have q0:=fun p hm=>hp p (List.mem_append.2 (.inl hm))
 have r0:=fun p hm=>hp p (List.mem_append.2 (.inr hm))
 refine Ah (Ag (Bfb a0 r0) (Nat.le_refl _) (Ac (Af _ _) Ao) nx o) fun F N R vs hl=>?_
 obtain⟨v0,w0,rfl,h0,hl⟩:=hl.inv
 exact HL.cons (Am e0 q0 h0) (hl)
noncomputable def B0f:=A7 44 XN B0e
theorem Blu:Dd Try.prog B0f:=Av A2s Blt
def K4 (a0:TCell):TVec:=TVec.mk (max (max (0:Int) a0.2.1) a0.5.1) (max (max (0:Int) a0.2.2) a0.5.2)
def TA (a0:TCell):A:=.v (.agg ⟨[.int .i64 ((K4 a0).a),.int .i64 ((K4 a0).b)]⟩)
def Tz (_a0:TCell):Objs:=[]
def ZH (_a0:TCell):List Prop:=[]
theorem A1i (a0:TCell):EQ (AA B0f L0) 9 43 [Ak .cell a0] 0 []=some (1,TA a0,0,Tz a0,[((0:Int)≤(0:Int)∧(0:Int) <(↑(2:Nat):Int)),((0:Nat) <(2:Nat)),((0:Int)≤(0:Int)∧(0:Int) <(2:Int)),((0:Nat) <(2:Nat)),((0:Int)≤(0:Int)∧(0:Int) <(2:Int)),((0:Nat) <(2:Nat)),((0:Int)≤(0:Int)∧(0:Int) <(2:Int)),((0:Nat) <(2:Nat)),((0:Int)≤(1:Int)∧(1:Int) <(2:Int)),((1:Nat) <(2:Nat)),((0:Int)≤(1:Int)∧(1:Int) <(2:Int)),((1:Nat) <(2:Nat)),((0:Int)≤(1:Int)∧(1:Int) <(2:Int)),((1:Nat) <(2:Nat)),((0:Int)≤(1:Int)∧(1:Int) <(↑(2:Nat):Int)),((1:Nat) <(2:Nat)),((0:Int)≤(0:Int)∧(0:Int) <(2:Int)),((0:Nat) <(2:Nat)),((0:Int)≤(0:Int)∧(0:Int) <(2:Int)),((0:Nat) <(2:Nat)),((0:Int)≤(0:Int)∧(0:Int) <(2:Int)),((0:Nat) <(2:Nat)),((0:Int)≤(1:Int)∧(1:Int) <(2:Int)),((1:Nat) <(2:Nat)),((0:Int)≤(1:Int)∧(1:Int) <(2:Int)),((1:Nat) <(2:Nat)),((0:Int)≤(1:Int)∧(1:Int) <(2:Int)),((1:Nat) <(2:Nat))]):=by kernel_rfl
theorem A6p (a0:TCell) (_hp:∀p∈ZH a0,p):CallOk Try.prog 43 [Ak .cell a0] 0 [] 1 (TA a0) 0 (Tz a0):=by
 have n0:((0:Int)≤(0:Int)∧(0:Int) <(↑(2:Nat):Int)):=by first|rfl|decide+kernel
 have n1:((0:Nat) <(2:Nat)):=by first|rfl|decide+kernel
 have n2:((0:Int)≤(0:Int)∧(0:Int) <(2:Int)):=by first|rfl|decide+kernel
 have n8:((0:Int)≤(1:Int)∧(1:Int) <(2:Int)):=by first|rfl|decide+kernel
 have n9:((1:Nat) <(2:Nat)):=by first|rfl|decide+kernel
 have n14:((0:Int)≤(1:Int)∧(1:Int) <(↑(2:Nat):Int)):=by first|rfl|decide+kernel
 exact AI (Aw Blu AH) (A1i a0) (Aa n0 (Aa n1 (Aa n2 (Aa n1 (Aa n2 (Aa n1 (Aa n2 (Aa n1 (Aa n8 (Aa n9 (Aa n8 (Aa n9 (Aa n8 (Aa n9 (Aa n14 (Aa n9 (Aa n2 (Aa n1 (Aa n2 (Aa n1 (Aa n2 (Aa n1 (Aa n8 (Aa n9 (Aa n8 (Aa n9 (Aa n8 (Aa n9 Ab))))))))))))))))))))))))))))
def TB:List A→Nat→Objs→Option Bb
 | [y0],nx,o=>match AQ .cell y0 with
  |some (a0,p0)=>some (1,(TA a0).pk (AF nx),nx+0,AE nx (Tz a0)++o,p0++(ZH a0))
  |_=>none
 |_,_,_=>none
theorem Avi:Ft Try.prog 43 TB:=fun args nx o k x nx' o' ps h=>by
 unfold TB at h
 split at h<;>first|(cases h;done)|skip
 split at h<;>first|(cases h;done)|skip
 rename_i a0 p0 e0
 cases h
 refine⟨fun hp=>?_,_,rfl⟩
 have q0:=fun p hm=>hp p (List.mem_append.2 (.inl hm))
 have r0:=fun p hm=>hp p (List.mem_append.2 (.inr hm))
 refine Ah (Ag (A6p a0 r0) (Nat.le_refl _) (Ac (Af _ _) Ao) nx o) fun F N R vs hl=>?_
 obtain⟨v0,w0,rfl,h0,hl⟩:=hl.inv
 exact HL.cons (Am e0 q0 h0) (hl)
noncomputable def Brb:=A7 43 TB B0f
theorem A56:Dd Try.prog Brb:=Av Avi Blu
abbrev Cu:Type:=Int×TRow×TVec
def LG (x:Cu):St:=⟨21,3,[(1,.own 0 0),(3,.own 2 0),(4,.v (.int .i64 x.1))],[(0,some (.box 71 [.v (.string x.2.1.key),.sl .cell x.2.1.cells])),(2,some (.box 31 [.v (.int .i64 x.2.2.a),.v (.int .i64 x.2.2.b)]))]⟩
def Nt:St→Option Cu
 |⟨21,3,[(1,.own 0 0),(3,.own 2 0),(4,.v (.int .i64 z0))],[(0,some (.box 71 [.v (.string z1),.sl .cell z2])),(2,some (.box 31 [.v (.int .i64 z3),.v (.int .i64 z4)]))]⟩=>some (z0,⟨z1,z2⟩,⟨z3,z4⟩)
 |_=>none
theorem Aix:∀s x,Nt s=some x→s=LG x:=fun s x h=>by
 unfold Nt at h
 split at h
 ·cases h;rfl
 ·cases h
def XZ:Dj:=⟨3,3,[1,3,4],[],[(0,0),(2,2)],[0,2],[],[0,2]⟩
def Azo:DB:=⟨[],[(0,0),(2,2)],[1,3,4],[0,2]⟩
def LH (a0:Int) (a1:TRow) (_a2:TVec):Bool:=!!decide (a0 <(↑a1.2.length:Int))
def Amw (a0:Int) (a1:TRow) (a2:TVec):TVec:=S1 a2 (XK (a1.2.getD a0.toNat (Ae TC.cell)))
def FU (x:Cu):Cu:=(IntKind.i64.wrap (x.1+(1:Int)),x.2.1,Amw x.1 x.2.1 x.2.2)
def FT (x:Cu):Cnd:=some ((LH x.1 x.2.1 x.2.2))
def Ta (x:Cu):List Prop:=[((LH x.1 x.2.1 x.2.2)=true→(0:Int)≤x.1∧x.1 <(↑x.2.1.2.length:Int))]
def I0 (x:Cu):List Prop:=[((LH x.1 x.2.1 x.2.2)=true→(0:Int)≤x.1∧x.1 <(↑x.2.1.2.length:Int))]
def QB (x:Cu):Bo:=[(some 0,some (!decide (x.1 <(↑x.2.1.2.length:Int))),⟨21,3,[],[(0,some (.box 71 [.v (.string x.2.1.1),.sl .cell x.2.1.2])),(2,some (.box 31 [.v (.int .i64 x.2.2.1),.v (.int .i64 x.2.2.2)]))]⟩)]
def HT (x:Cu):Nat:=((↑x.2.1.2.length:Int) - x.1).toNat
def Mi (x:Cu):Cu:=Bg FU FT (HT x) x
theorem Atd (a0:Int) (a1:TRow) (a2:TVec):Bz (AA Brb L0) 9 (Aj Try.prog 70 0) XZ (LG (a0,a1,a2))=some (Ta (a0,a1,a2),QB (a0,a1,a2),FT (a0,a1,a2),LG (FU (a0,a1,a2))):=by kernel_rfl
theorem Ate (a0:Int) (a1:TRow) (a2:TVec) (hp:∀p∈I0 (a0,a1,a2),p):∀p∈Ta (a0,a1,a2),p:=by
 have n0:=N0 hp
 exact(Aa n0 Ab)
noncomputable def Tb:=H1 (AA Brb L0) (Aj Try.prog 70 0) XZ Azo Nt HT FU FT I0 QB
theorem Amx:∀s b ps outs,Tb s=some (b,ps,outs)→Wf s ⟨ps,outs,none⟩∧Bx (AA C0 L0) b s ps outs:=
 Bm (T:=LG) A56 AH (u:=9) (by kernel_rfl) (by decide) (fun⟨a0,a1,a2⟩=>Atd a0 a1 a2) (fun⟨a0,a1,a2⟩=>Ate a0 a1 a2) Aix (fun _=>AW (n:=21) rfl) fun _ _=>rfl
noncomputable def XY:=DP 0 Tb L0
theorem Amv:Hr XY:=A6 Amx AH
def XX (a0:TRow):TVec:=(Mi ((0:Int),a0,TVec.mk (0:Int) (0:Int))).snd.snd
def X0 (a0:TRow):A:=.v (.agg ⟨[.int .i64 ((XX a0).a),.int .i64 ((XX a0).b)]⟩)
def Aqd (_a0:TRow):Objs:=[]
def Aiz (a0:TRow):List Prop:=[(AL FU FT I0 (HT ((0:Int),a0,TVec.mk (0:Int) (0:Int))) ((0:Int),a0,TVec.mk (0:Int) (0:Int)))]
theorem A9j (a0:TRow):EQ (AA Brb XY) 9 70 [Ak .row a0] 0 []=some (1,X0 a0,0,Aqd a0,[(Aj Try.prog (70:FuncId) (0:Nat)=Aj Try.prog (70:FuncId) (0:Nat)),(AL FU FT I0 (HT ((0:Int),a0,TVec.mk (0:Int) (0:Int))) ((0:Int),a0,TVec.mk (0:Int) (0:Int)))]):=by kernel_rfl
theorem Bfw (a0:TRow) (hp:∀p∈Aiz a0,p):CallOk Try.prog 70 [Ak .row a0] 0 [] 1 (X0 a0) 0 (Aqd a0):=by
 have n1:=N0 hp
 exact AI (Aw A56 Amv) (A9j a0) (Aa rfl (Aa n1 Ab))
def Ai0 (a0:TRow):A:=.v (.agg ⟨[.int .i64 (Jy a0.cells).a,.int .i64 (Jy a0.cells).b]⟩)
def Aiy (_a0:TRow):Objs:=[]
def Aau (a0:TRow):List Prop:=[Az a0.cells.length]
theorem Aor (cs:List TCell) (i:Nat) (h:i <cs.length):Jy (cs.take (i+1))=M9 (Jy (cs.take i)) (Acf (cs.getD i (Ae TC.cell))):=by
 unfold Jy
 rw[List.take_add_one,List.getElem?_eq_getElem h,List.getD_eq_getElem?_getD,List.getElem?_eq_getElem h,List.foldl_append]
 rfl
theorem Aiw (a:TRow) (hb:Az a.cells.length):(∀p∈Aiz a,p)∧XX a=Jy a.cells:=by
 unfold Az at hb
 obtain⟨h1,k,hk,hx,_,hst,_⟩:=IJ (fun i=>(((i:Int),a,Jy (a.cells.take i)):Cu)) a.cells.length (fun _=>false) FU FT I0 (HT (0,a,⟨0,0⟩)) (0,a,⟨0,0⟩) rfl (by show a.cells.length≤((a.cells.length:Int) - 0).toNat;omega)
  (fun i _ _=>by
   show(!!decide ((i:Int) <(a.cells.length:Int)))=_
   rw[nn,Mp,Bool.not_false,Bool.and_true])
  (fun i hi _=>by
   show(IntKind.i64.wrap ((i:Int)+1),a,M9 (Jy (a.cells.take i)) (Acf (a.cells.getD ((i:Int)).toNat (Ae TC.cell))))=(((i+1:Nat):Int),a,Jy (a.cells.take (i+1)))
   rw[Fp (by omega),Int.toNat_natCast,Aor _ _ hi])
  (fun i _ _=>Aa (fun h=>⟨by show(0:Int)≤(i:Int);omega,by
   have h':(!!decide ((i:Int) <(a.cells.length:Int)))=true:=h
   rw[nn] at h';exact of_decide_eq_true h'⟩) Ab)
 refine⟨Aa h1 Ab,?_⟩
 have hkn:k=a.cells.length:=by
  rcases Nat.lt_or_ge k a.cells.length with h|h
  ·exact absurd (hst h) (by decide)
  ·omega
 have hr:Mi (0,a,⟨0,0⟩)=((k:Int),a,Jy (a.cells.take k)):=hx
 show(Mi (0,a,⟨0,0⟩)).snd.snd=_
 rw[hr,hkn,List.take_length]
theorem A9i (a0:TRow) (hp:∀p∈Aau a0,p):CallOk Try.prog 70 [Ak .row a0] 0 [] 1 (Ai0 a0) 0 (Aiy a0):=by
 have hb:Az a0.cells.length:=hp _ (List.mem_cons_self ..)
 have h:=Bfw a0 (Aiw a0 hb).1
 unfold X0 at h
 rw[(Aiw a0 hb).2] at h
 exact h
def X1:List A→Nat→Objs→Option Bb
 | [y0],nx,o=>match AQ .row y0 with
  |some (a0,p0)=>some (1,(Ai0 a0).pk (AF nx),nx+0,AE nx (Aiy a0)++o,p0++(Aau a0))
  |_=>none
 |_,_,_=>none
theorem A20:Ft Try.prog 70 X1:=fun args nx o k x nx' o' ps h=>by
 unfold X1 at h
 split at h<;>first|(cases h;done)|skip
 split at h<;>first|(cases h;done)|skip
 rename_i a0 p0 e0
 cases h
 refine⟨fun hp=>?_,_,rfl⟩
 have q0:=fun p hm=>hp p (List.mem_append.2 (.inl hm))
 have r0:=fun p hm=>hp p (List.mem_append.2 (.inr hm))
 refine Ah (Ag (A9i a0 r0) (Nat.le_refl _) (Ac (Af _ _) Ao) nx o) fun F N R vs hl=>?_
 obtain⟨v0,w0,rfl,h0,hl⟩:=hl.inv
 exact HL.cons (Am e0 q0 h0) (hl)
noncomputable def Brc:=A7 70 X1 Brb
theorem A57:Dd Try.prog Brc:=Av A20 A56
abbrev Cv:Type:=(List TCell)×Int×Int×TVec
def LL (x:Cv):St:=⟨19,2,[(2,.own 1 0),(6,.sl .cell x.1),(7,.v (.int .i64 x.2.1)),(8,.v (.int .i64 x.2.2.1))],[(1,some (.box 31 [.v (.int .i64 x.2.2.2.a),.v (.int .i64 x.2.2.2.b)]))]⟩
def Nw:St→Option Cv
 |⟨19,2,[(2,.own 1 0),(6,.sl .cell z0),(7,.v (.int .i64 z1)),(8,.v (.int .i64 z2))],[(1,some (.box 31 [.v (.int .i64 z3),.v (.int .i64 z4)]))]⟩=>some (z0,z1,z2,⟨z3,z4⟩)
 |_=>none
theorem Ajg:∀s x,Nw s=some x→s=LL x:=fun s x h=>by
 unfold Nw at h
 split at h
 ·cases h;rfl
 ·cases h
def Yj:Dj:=⟨2,2,[2,6,7,8],[],[(1,1)],[1],[],[1]⟩
def A0m:DB:=⟨[],[(1,1)],[2,6,7,8],[1]⟩
def Anp (a0:List TCell) (_a1:Int) (a2:Int) (a3:TVec):TVec:=TVec.mk (max (max (0:Int) a3.1) (K4 (a0.getD a2.toNat (Ae TC.cell))).1) (max (max (0:Int) a3.2) (K4 (a0.getD a2.toNat (Ae TC.cell))).2)
def FW (x:Cv):Cv:=(x.1,x.2.1,IntKind.i64.wrap (x.2.2.1+(1:Int)),Anp x.1 x.2.1 x.2.2.1 x.2.2.2)
def FV (x:Cv):Cnd:=some (!!decide (x.2.2.1 <x.2.1))
def Tm (x:Cv):List Prop:=[((!!decide (x.2.2.1 <x.2.1))=true→(0:Int)≤x.2.2.1∧x.2.2.1 <(↑x.1.length:Int)),((!!decide (x.2.2.1 <x.2.1))=true→(0:Int)≤(0:Int)∧(0:Int) <(↑(2:Nat):Int)),((!!decide (x.2.2.1 <x.2.1))=true→(0:Nat) <(2:Nat)),((!!decide (x.2.2.1 <x.2.1))=true→(0:Int)≤(0:Int)∧(0:Int) <(2:Int)),((!!decide (x.2.2.1 <x.2.1))=true→(0:Nat) <(2:Nat)),((!!decide (x.2.2.1 <x.2.1))=true→(0:Int)≤(0:Int)∧(0:Int) <(2:Int)),((!!decide (x.2.2.1 <x.2.1))=true→(0:Nat) <(2:Nat)),((!!decide (x.2.2.1 <x.2.1))=true→(0:Int)≤(0:Int)∧(0:Int) <(2:Int)),((!!decide (x.2.2.1 <x.2.1))=true→(0:Nat) <(2:Nat)),((!!decide (x.2.2.1 <x.2.1))=true→(0:Int)≤(1:Int)∧(1:Int) <(2:Int)),((!!decide (x.2.2.1 <x.2.1))=true→(1:Nat) <(2:Nat)),((!!decide (x.2.2.1 <x.2.1))=true→(0:Int)≤(1:Int)∧(1:Int) <(2:Int)),((!!decide (x.2.2.1 <x.2.1))=true→(1:Nat) <(2:Nat)),((!!decide (x.2.2.1 <x.2.1))=true→(0:Int)≤(1:Int)∧(1:Int) <(2:Int)),((!!decide (x.2.2.1 <x.2.1))=true→(1:Nat) <(2:Nat)),((!!decide (x.2.2.1 <x.2.1))=true→(0:Int)≤(1:Int)∧(1:Int) <(↑(2:Nat):Int)),((!!decide (x.2.2.1 <x.2.1))=true→(1:Nat) <(2:Nat)),((!!decide (x.2.2.1 <x.2.1))=true→(0:Int)≤(0:Int)∧(0:Int) <(2:Int)),((!!decide (x.2.2.1 <x.2.1))=true→(0:Nat) <(2:Nat)),((!!decide (x.2.2.1 <x.2.1))=true→(0:Int)≤(0:Int)∧(0:Int) <(2:Int)),((!!decide (x.2.2.1 <x.2.1))=true→(0:Nat) <(2:Nat)),((!!decide (x.2.2.1 <x.2.1))=true→(0:Int)≤(0:Int)∧(0:Int) <(2:Int)),((!!decide (x.2.2.1 <x.2.1))=true→(0:Nat) <(2:Nat)),((!!decide (x.2.2.1 <x.2.1))=true→(0:Int)≤(1:Int)∧(1:Int) <(2:Int)),((!!decide (x.2.2.1 <x.2.1))=true→(1:Nat) <(2:Nat)),((!!decide (x.2.2.1 <x.2.1))=true→(0:Int)≤(1:Int)∧(1:Int) <(2:Int)),((!!decide (x.2.2.1 <x.2.1))=true→(1:Nat) <(2:Nat)),((!!decide (x.2.2.1 <x.2.1))=true→(0:Int)≤(1:Int)∧(1:Int) <(2:Int)),((!!decide (x.2.2.1 <x.2.1))=true→(1:Nat) <(2:Nat))]
def I3 (x:Cv):List Prop:=[((!!decide (x.2.2.1 <x.2.1))=true→(0:Int)≤x.2.2.1∧x.2.2.1 <(↑x.1.length:Int))]
def QJ (x:Cv):Bo:=[(some 0,some (!decide (x.2.2.1 <x.2.1)),⟨19,2,[],[(1,some (.box 31 [.v (.int .i64 x.2.2.2.1),.v (.int .i64 x.2.2.2.2)]))]⟩)]
def HU (x:Cv):Nat:=(x.2.1 - x.2.2.1).toNat
def Ml (x:Cv):Cv:=Bg FW FV (HU x) x
theorem At4 (a0:List TCell) (a1:Int) (a2:Int) (a3:TVec):Bz (AA Brc L0) 9 (Aj Try.prog 69 0) Yj (LL (a0,a1,a2,a3))=some (Tm (a0,a1,a2,a3),QJ (a0,a1,a2,a3),FV (a0,a1,a2,a3),LL (FW (a0,a1,a2,a3))):=by kernel_rfl
theorem At5 (a0:List TCell) (a1:Int) (a2:Int) (a3:TVec) (hp:∀p∈I3 (a0,a1,a2,a3),p):∀p∈Tm (a0,a1,a2,a3),p:=by
 have n0:=N0 hp
 have n1:((!!decide (a2 <a1))=true→(0:Int)≤(0:Int)∧(0:Int) <(↑(2:Nat):Int)):=by omega
 have n2:((!!decide (a2 <a1))=true→(0:Nat) <(2:Nat)):=by omega
 have n3:((!!decide (a2 <a1))=true→(0:Int)≤(0:Int)∧(0:Int) <(2:Int)):=by omega
 have n9:((!!decide (a2 <a1))=true→(0:Int)≤(1:Int)∧(1:Int) <(2:Int)):=by omega
 have n10:((!!decide (a2 <a1))=true→(1:Nat) <(2:Nat)):=by omega
 have n15:((!!decide (a2 <a1))=true→(0:Int)≤(1:Int)∧(1:Int) <(↑(2:Nat):Int)):=by omega
 exact(Aa n0 (Aa n1 (Aa n2 (Aa n3 (Aa n2 (Aa n3 (Aa n2 (Aa n3 (Aa n2 (Aa n9 (Aa n10 (Aa n9 (Aa n10 (Aa n9 (Aa n10 (Aa n15 (Aa n10 (Aa n3 (Aa n2 (Aa n3 (Aa n2 (Aa n3 (Aa n2 (Aa n9 (Aa n10 (Aa n9 (Aa n10 (Aa n9 (Aa n10 Ab)))))))))))))))))))))))))))))
noncomputable def Tn:=H1 (AA Brc L0) (Aj Try.prog 69 0) Yj A0m Nw HU FW FV I3 QJ
theorem Anq:∀s b ps outs,Tn s=some (b,ps,outs)→Wf s ⟨ps,outs,none⟩∧Bx (AA C0 L0) b s ps outs:=
 Bm (T:=LL) A57 AH (u:=9) (by kernel_rfl) (by decide) (fun⟨a0,a1,a2,a3⟩=>At4 a0 a1 a2 a3) (fun⟨a0,a1,a2,a3⟩=>At5 a0 a1 a2 a3) Ajg (fun _=>AW (n:=19) rfl) fun _ _=>rfl
noncomputable def Yi:=DP 0 Tn L0
theorem Ano:Hr Yi:=A6 Anq AH
def Yh (a0:TRow):TVec:=(Ml (a0.2,(↑a0.2.length:Int),(0:Int),TVec.mk (0:Int) (0:Int))).snd.snd.snd
def Yk (a0:TRow):A:=.v (.agg ⟨[.int .i64 ((Yh a0).a),.int .i64 ((Yh a0).b)]⟩)
def Aq4 (_a0:TRow):Objs:=[]
def Aji (a0:TRow):List Prop:=[(AL FW FV I3 (HU (a0.2,(↑a0.2.length:Int),(0:Int),TVec.mk (0:Int) (0:Int))) (a0.2,(↑a0.2.length:Int),(0:Int),TVec.mk (0:Int) (0:Int)))]
theorem A90 (a0:TRow):EQ (AA Brc Yi) 9 69 [Ak .row a0] 0 []=some (1,Yk a0,0,Aq4 a0,[(Aj Try.prog (69:FuncId) (0:Nat)=Aj Try.prog (69:FuncId) (0:Nat)),(AL FW FV I3 (HU (a0.2,(↑a0.2.length:Int),(0:Int),TVec.mk (0:Int) (0:Int))) (a0.2,(↑a0.2.length:Int),(0:Int),TVec.mk (0:Int) (0:Int)))]):=by kernel_rfl
theorem Bgi (a0:TRow) (hp:∀p∈Aji a0,p):CallOk Try.prog 69 [Ak .row a0] 0 [] 1 (Yk a0) 0 (Aq4 a0):=by
 have n1:=N0 hp
 exact AI (Aw A57 Ano) (A90 a0) (Aa rfl (Aa n1 Ab))
def Ajj (a0:TRow):A:=.v (.agg ⟨[.int .i64 (Jy a0.cells).a,.int .i64 (Jy a0.cells).b]⟩)
def Ajh (_a0:TRow):Objs:=[]
def Aba (a0:TRow):List Prop:=[Az a0.cells.length]
theorem Ajf (a:TRow) (hb:Az a.cells.length):(∀p∈Aji a,p)∧Yh a=Jy a.cells:=by
 unfold Az at hb
 obtain⟨h1,k,hk,hx,_,hst,_⟩:=IJ (fun i=>((a.2,(a.2.length:Int),(i:Int),Jy (a.cells.take i)):Cv)) a.cells.length (fun _=>false) FW FV I3 (HU (a.2,(a.2.length:Int),0,⟨0,0⟩)) (a.2,(a.2.length:Int),0,⟨0,0⟩) rfl (by show a.cells.length≤((a.cells.length:Int) - 0).toNat;omega)
  (fun i _ _=>by
   show(!!decide ((i:Int) <(a.cells.length:Int)))=_
   rw[nn,Mp,Bool.not_false,Bool.and_true])
  (fun i hi _=>by
   show(a.2,(a.2.length:Int),IntKind.i64.wrap ((i:Int)+1),M9 (Jy (a.cells.take i)) (Acf (a.cells.getD ((i:Int)).toNat (Ae TC.cell))))=(a.2,(a.2.length:Int),((i+1:Nat):Int),Jy (a.cells.take (i+1)))
   rw[Fp (by omega),Int.toNat_natCast,Aor _ _ hi])
  (fun i _ _=>Aa (fun h=>⟨by show(0:Int)≤(i:Int);omega,by
   have h':(!!decide ((i:Int) <(a.cells.length:Int)))=true:=h
   rw[nn] at h';exact of_decide_eq_true h'⟩) Ab)
 refine⟨Aa h1 Ab,?_⟩
 have hkn:k=a.cells.length:=by
  rcases Nat.lt_or_ge k a.cells.length with h|h
  ·exact absurd (hst h) (by decide)
  ·omega
 have hr:Ml (a.2,(a.2.length:Int),0,⟨0,0⟩)=(a.2,(a.2.length:Int),(k:Int),Jy (a.cells.take k)):=hx
 show(Ml (a.2,(a.2.length:Int),0,⟨0,0⟩)).snd.snd.snd=_
 rw[hr,hkn,List.take_length]
theorem A9z (a0:TRow) (hp:∀p∈Aba a0,p):CallOk Try.prog 69 [Ak .row a0] 0 [] 1 (Ajj a0) 0 (Ajh a0):=by
 have hb:Az a0.cells.length:=hp _ (List.mem_cons_self ..)
 have h:=Bgi a0 (Ajf a0 hb).1
 unfold Yk at h
 rw[(Ajf a0 hb).2] at h
 exact h
def Yl:List A→Nat→Objs→Option Bb
 | [y0],nx,o=>match AQ .row y0 with
  |some (a0,p0)=>some (1,(Ajj a0).pk (AF nx),nx+0,AE nx (Ajh a0)++o,p0++(Aba a0))
  |_=>none
 |_,_,_=>none
theorem A3e:Ft Try.prog 69 Yl:=fun args nx o k x nx' o' ps h=>by
 unfold Yl at h
 split at h<;>first|(cases h;done)|skip
 split at h<;>first|(cases h;done)|skip
 rename_i a0 p0 e0
 cases h
 refine⟨fun hp=>?_,_,rfl⟩
 have q0:=fun p hm=>hp p (List.mem_append.2 (.inl hm))
 have r0:=fun p hm=>hp p (List.mem_append.2 (.inr hm))
 refine Ah (Ag (A9z a0 r0) (Nat.le_refl _) (Ac (Af _ _) Ao) nx o) fun F N R vs hl=>?_
 obtain⟨v0,w0,rfl,h0,hl⟩:=hl.inv
 exact HL.cons (Am e0 q0 h0) (hl)
noncomputable def Brd:=A7 69 Yl Brc
theorem A58:Dd Try.prog Brd:=Av A3e A57
abbrev Ct:Type:=(List TGroup)×Int×ByteArray×(List TCell)
def LE (x:Ct):St:=⟨22,4,[(0,.sl .group x.1),(5,.own 1 0),(6,.v (.int .i64 x.2.1))],[(1,some (.box 71 [.v (.string x.2.2.1),.sq 3])),(3,some (.arr 55 8 (.ty .cell x.2.2.2)))]⟩
def Nr:St→Option Ct
 |⟨22,4,[(0,.sl .group z0),(5,.own 1 0),(6,.v (.int .i64 z1))],[(1,some (.box 71 [.v (.string z2),.sq 3])),(3,some (.arr 55 8 (.ty .cell z3)))]⟩=>some (z0,z1,z2,z3)
 |_=>none
theorem Aiq:∀s x,Nr s=some x→s=LE x:=fun s x h=>by
 unfold Nr at h
 split at h
 ·cases h;rfl
 ·cases h
def XT:Dj:=⟨3,4,[0,5,6],[],[(1,1),(5,3)],[1,5],[],[1,3]⟩
def Azg:DB:=⟨[.nilB 1 1 55 .cell],[(1,1),(2,3)],[0,5,6],[1,2]⟩
def LF (a0:List TGroup) (a1:Int) (_a2:ByteArray) (_a3:List TCell):Bool:=!!decide (a1 <(↑a0.length:Int))
def Amo (_a0:List TGroup) (_a1:Int) (_a2:ByteArray) (a3:List TCell):List TCell:=a3++[TCell.mk (TStamp.mk (0:Int) (0:Int)) (TVec.mk (0:Int) (0:Int)) false (ByteArray.mk #[]) (TVec.mk (0:Int) (0:Int))]
def FS (x:Ct):Ct:=(x.1,IntKind.i64.wrap (x.2.1+(1:Int)),x.2.2.1,Amo x.1 x.2.1 x.2.2.1 x.2.2.2)
def FR (x:Ct):Cnd:=some ((LF x.1 x.2.1 x.2.2.1 x.2.2.2))
def S6 (x:Ct):List Prop:=[((LF x.1 x.2.1 x.2.2.1 x.2.2.2)=true→Ai (x.2.2.2.length+(1:Nat)))]
def IY (x:Ct):List Prop:=[((LF x.1 x.2.1 x.2.2.1 x.2.2.2)=true→Ai (x.2.2.2.length+(1:Nat)))]
def QA (x:Ct):Bo:=[(some 0,some (!decide (x.2.1 <(↑x.1.length:Int))),⟨22,4,[],[(1,some (.box 71 [.v (.string x.2.2.1),.sq 3])),(3,some (.arr 55 8 (.ty .cell x.2.2.2)))]⟩)]
def HR (x:Ct):Nat:=((↑x.1.length:Int) - x.2.1).toNat
def Io (x:Ct):Ct:=Bg FS FR (HR x) x
theorem As5 (a0:List TGroup) (a1:Int) (a2:ByteArray) (a3:List TCell):Bz (AA Brd L0) 9 (Aj Try.prog 130 0) XT (LE (a0,a1,a2,a3))=some (S6 (a0,a1,a2,a3),QA (a0,a1,a2,a3),FR (a0,a1,a2,a3),LE (FS (a0,a1,a2,a3))):=by kernel_rfl
theorem As6 (a0:List TGroup) (a1:Int) (a2:ByteArray) (a3:List TCell) (hp:∀p∈IY (a0,a1,a2,a3),p):∀p∈S6 (a0,a1,a2,a3),p:=by
 have n0:=N0 hp
 exact(Aa n0 Ab)
noncomputable def S7:=H1 (AA Brd L0) (Aj Try.prog 130 0) XT Azg Nr HR FS FR IY QA
theorem Amp:∀s b ps outs,S7 s=some (b,ps,outs)→Wf s ⟨ps,outs,none⟩∧Bx (AA C0 L0) b s ps outs:=
 Bm (T:=LE) A58 AH (u:=9) (by kernel_rfl) (by decide) (fun⟨a0,a1,a2,a3⟩=>As5 a0 a1 a2 a3) (fun⟨a0,a1,a2,a3⟩=>As6 a0 a1 a2 a3) Aiq (fun _=>AW (n:=22) rfl) fun _ _=>rfl
noncomputable def XS:=DP 0 S7 L0
theorem Amn:Hr XS:=A6 Amp AH
def Ap4 (a0:List TGroup) (a1:ByteArray):ByteArray:=(Io (a0,(0:Int),a1,[])).snd.snd.fst
def Ap5 (a0:List TGroup) (a1:ByteArray):List TCell:=(Io (a0,(0:Int),a1,[])).snd.snd.snd
def XV (a0:List TGroup) (a1:ByteArray):A:=.agg [.v (.string (Ap4 a0 a1)),.sq 0]
def XU (a0:List TGroup) (a1:ByteArray):Objs:=[(0,some (.arr 55 8 (.ty .cell (Ap5 a0 a1))))]
def Ais (a0:List TGroup) (a1:ByteArray):List Prop:=[(AL FS FR IY (HR (a0,(0:Int),a1,[])) (a0,(0:Int),a1,[]))]
theorem A9f (a0:List TGroup) (a1:ByteArray):EQ (AA Brd XS) 9 130 [.sl .group a0,Ak .str a1] 0 []=some (1,XV a0 a1,1,XU a0 a1,[(Aj Try.prog (130:FuncId) (0:Nat)=Aj Try.prog (130:FuncId) (0:Nat)),(AL FS FR IY (HR (a0,(0:Int),a1,[])) (a0,(0:Int),a1,[]))]):=by kernel_rfl
theorem Bfp (a0:List TGroup) (a1:ByteArray) (hp:∀p∈Ais a0 a1,p):CallOk Try.prog 130 [.sl .group a0,Ak .str a1] 0 [] 1 (XV a0 a1) 1 (XU a0 a1):=by
 have n1:=N0 hp
 exact AI (Aw A58 Amn) (A9f a0 a1) (Aa rfl (Aa n1 Ab))
def Ait (_a0:List TGroup) (a1:ByteArray):A:=.agg [.v (.string a1),.sq 0]
def Air (a0:List TGroup) (_a1:ByteArray):Objs:=[(0,some (.arr 55 8 (.ty .cell (List.replicate a0.length zeroC))))]
def Aap (a0:List TGroup) (_a1:ByteArray):List Prop:=[Ai a0.length]
theorem A9e (l:List TGroup) (k:ByteArray) (hb:Ai l.length):(∀p∈Ais l k,p)∧Ap4 l k=k∧Ap5 l k=List.replicate l.length zeroC:=by
 unfold Ai at hb
 obtain⟨h1,n,hn,hx,_,hst,_⟩:=IJ (fun i=>((l,(i:Int),k,List.replicate i zeroC):Ct)) l.length (fun _=>false) FS FR IY (HR (l,0,k,[])) (l,0,k,[]) rfl (by show l.length≤((l.length:Int) - 0).toNat;omega)
  (fun i _ _=>by
   show(!!decide ((i:Int) <(l.length:Int)))=_
   rw[nn,Mp,Bool.not_false,Bool.and_true])
  (fun i hi _=>by
   show(l,IntKind.i64.wrap ((i:Int)+1),k,List.replicate i zeroC++[zeroC])=(l,((i+1:Nat):Int),k,List.replicate (i+1) zeroC)
   rw[Fp (by omega),List.replicate_succ'])
  (fun i hi _=>Aa (fun h=>by
   have h':(!!decide ((i:Int) <(l.length:Int)))=true:=h
   rw[nn] at h'
   have:=of_decide_eq_true h'
   show Ai ((List.replicate i zeroC).length+1)
   rw[List.length_replicate];unfold Ai;omega) Ab)
 have hkn:n=l.length:=by
  rcases Nat.lt_or_ge n l.length with h|h
  ·exact absurd (hst h) (by decide)
  ·omega
 have hr:Io (l,0,k,[])=(l,(n:Int),k,List.replicate n zeroC):=hx
 refine⟨Aa h1 Ab,?_,?_⟩
 ·show(Io (l,0,k,[])).snd.snd.fst=_
  rw[hr]
 ·show(Io (l,0,k,[])).snd.snd.snd=_
  rw[hr,hkn]
theorem A9d (a0:List TGroup) (a1:ByteArray) (hp:∀p∈Aap a0 a1,p):CallOk Try.prog 130 [.sl .group a0,Ak .str a1] 0 [] 1 (Ait a0 a1) 1 (Air a0 a1):=by
 have hb:Ai a0.length:=hp _ (List.mem_cons_self ..)
 obtain⟨e1,e2,e3⟩:=A9e a0 a1 hb
 have h:=Bfp a0 a1 e1
 unfold XV XU at h
 rw[e2,e3] at h
 exact h
def XW:List A→Nat→Objs→Option Bb
 | [y0,y1],nx,o=>match Kh .group y0,AQ .str y1 with
  |some a0,some (a1,p1)=>some (1,(Ait a0 a1).pk (AF nx),nx+1,AE nx (Air a0 a1)++o,p1++(Aap a0 a1))
  |_,_=>none
 |_,_,_=>none
theorem A2x:Ft Try.prog 130 XW:=fun args nx o k x nx' o' ps h=>by
 unfold XW at h
 split at h<;>first|(cases h;done)|skip
 split at h<;>first|(cases h;done)|skip
 rename_i a0 a1 p1 e0 e1
 cases h
 refine⟨fun hp=>?_,_,rfl⟩
 have q1:=fun p hm=>hp p (List.mem_append.2 (.inl hm))
 have r1:=fun p hm=>hp p (List.mem_append.2 (.inr hm))
 refine Ah (Ag (A9d a0 a1 r1) (Nat.le_refl _) (Ac rfl (Ac (Af _ _) Ao)) nx o) fun F N R vs hl=>?_
 obtain⟨v0,w0,rfl,h0,hl⟩:=hl.inv
 obtain⟨v1,w1,rfl,h1,hl⟩:=hl.inv
 exact HL.cons (BX e0 h0) (HL.cons (Am e1 q1 h1) (hl))
noncomputable def B0g:=A7 130 XW Brd
theorem Blv:Dd Try.prog B0g:=Av A2x A58
def JL (_a0:List TGroup) (a1:ByteArray):Bool:=Sl a1 !=(0:Int)
def JK (a0:List TGroup) (_a1:ByteArray):Bool:=AY a0 !=(0:Int)
def Amy (a0:List TGroup) (a1:ByteArray):ByteArray:=bif(JK a0 a1) then ByteArray.mk #[] else bif(JL a0 a1) then ByteArray.mk #[] else a1
def Amz (a0:List TGroup) (a1:ByteArray):Int:=bif(JK a0 a1) then AY a0 else bif(JL a0 a1) then Sl a1 else(0:Int)
def Am0 (a0:List TGroup) (a1:ByteArray):List TCell:=bif(JK a0 a1) then[] else bif(JL a0 a1) then[] else List.replicate a0.length zeroC
def Am2 (a0:List TGroup) (a1:ByteArray):A:=.tup [.agg [.v (.string (Amy a0 a1)),.sq 0],.v (.int .i64 (Amz a0 a1))]
def Am1 (a0:List TGroup) (a1:ByteArray):Objs:=[(0,some (.arr 55 8 (.ty .cell (Am0 a0 a1))))]
def Bjz (a0:List TGroup) (a1:ByteArray):List Prop:=[(∀(g:TGroup),g∈a0→Az g.1.size),((!(JK a0 a1))=true→(!(JL a0 a1))=true→Ai a0.length)]
theorem Bjy (a0:List TGroup) (a1:ByteArray):EQ (AA B0g L0) 9 63 [.sl .group a0,Ak .str a1] 0 []=some (1,Am2 a0 a1,1,Am1 a0 a1,[(∀(g:TGroup),g∈a0→Az g.1.size),((!(JK a0 a1))=true→(!(JL a0 a1))=true→Ai a0.length)]):=by kernel_rfl
theorem Bpg (a0:List TGroup) (a1:ByteArray) (hp:∀p∈Bjz a0 a1,p):CallOk Try.prog 63 [.sl .group a0,Ak .str a1] 0 [] 1 (Am2 a0 a1) 1 (Am1 a0 a1):=by
 have n0:=N0 hp
 have n1:=N0 (N1 hp)
 exact AI (Aw Blv AH) (Bjy a0 a1) (Aa n0 (Aa n1 Ab))
def Azq (a0:List TGroup) (a1:ByteArray):A:=.tup [.agg [.v (.string (Ah7 a0 a1).key),.sq 0],.v (.int .i64 (VL a0 a1))]
def Azp (a0:List TGroup) (a1:ByteArray):Objs:=[(0,some (.arr 55 8 (.ty .cell (Ah7 a0 a1).cells)))]
def Aqe (a0:List TGroup) (_a1:ByteArray):List Prop:=[∀g∈a0,Az g.name.size]
theorem Bjx (a0:List TGroup) (a1:ByteArray) (hp:∀p∈Aqe a0 a1,p):CallOk Try.prog 63 [.sl .group a0,Ak .str a1] 0 [] 1 (Azq a0 a1) 1 (Azp a0 a1):=by
 have hb:∀g∈a0,Az g.name.size:=hp _ (List.mem_cons_self ..)
 have h:=Bpg a0 a1 (Aa hb (Aa (fun h1 _=>by
  have h1':AY a0=0:=by
   have:(!(AY a0 !=0))=true:=h1
   simpa using this
  have:=(Gu h1').2
  unfold Ai;omega) Ab))
 have e1:Amz a0 a1=VL a0 a1:=by
  unfold Amz JK JL VL
  cases AY a0 !=0 with
  |true=>rfl
  |false=>
   rw[cond_false,cond_false]
   cases hk:Sl a1 !=0 with
   |true=>rfl
   |false=>rw[cond_false];exact(by simpa using hk:Sl a1=0).symm
 have e0:Amy a0 a1=(Ah7 a0 a1).key:=by
  unfold Amy JK JL Ah7 VL
  cases hg:AY a0 !=0 with
  |true=>simp only[cond_true,hg]
  |false=>rw[cond_false,cond_false]
 have e2:Am0 a0 a1=(Ah7 a0 a1).cells:=by
  unfold Am0 JK JL Ah7 VL
  cases hg:AY a0 !=0 with
  |true=>simp only[cond_true,hg]
  |false=>rw[cond_false,cond_false]
 unfold Am2 Am1 at h
 rw[e0,e1,e2] at h
 exact h
def Am3:List A→Nat→Objs→Option Bb
 | [y0,y1],nx,o=>match Kh .group y0,AQ .str y1 with
  |some a0,some (a1,p1)=>some (1,(Azq a0 a1).pk (AF nx),nx+1,AE nx (Azp a0 a1)++o,p1++(Aqe a0 a1))
  |_,_=>none
 |_,_,_=>none
theorem Bfx:Ft Try.prog 63 Am3:=fun args nx o k x nx' o' ps h=>by
 unfold Am3 at h
 split at h<;>first|(cases h;done)|skip
 split at h<;>first|(cases h;done)|skip
 rename_i a0 a1 p1 e0 e1
 cases h
 refine⟨fun hp=>?_,_,rfl⟩
 have q1:=fun p hm=>hp p (List.mem_append.2 (.inl hm))
 have r1:=fun p hm=>hp p (List.mem_append.2 (.inr hm))
 refine Ah (Ag (Bjx a0 a1 r1) (Nat.le_refl _) (Ac rfl (Ac (Af _ _) Ao)) nx o) fun F N R vs hl=>?_
 obtain⟨v0,w0,rfl,h0,hl⟩:=hl.inv
 obtain⟨v1,w1,rfl,h1,hl⟩:=hl.inv
 exact HL.cons (BX e0 h0) (HL.cons (Am e1 q1 h1) (hl))
noncomputable def B0h:=A7 63 Am3 B0g
theorem Blw:Dd Try.prog B0h:=Av Bfx Blv
def PE (a0:List TGroup) (_a1:ByteArray):List TCell:=List.replicate (↑a0.length:Int).toNat (Ae TC.cell)
def PD (a0:List TGroup) (a1:ByteArray):Bool:=Ap a0 (TRow.mk a1 (PE a0 a1)) !=(0:Int)
def Anr (a0:List TGroup) (a1:ByteArray):ByteArray:=bif(PD a0 a1) then ByteArray.mk #[] else a1
def Ans (a0:List TGroup) (a1:ByteArray):Int:=bif(PD a0 a1) then Ap a0 (TRow.mk a1 (PE a0 a1)) else(0:Int)
def Ant (a0:List TGroup) (a1:ByteArray):List TCell:=bif(PD a0 a1) then[] else(PE a0 a1)
def Anv (a0:List TGroup) (a1:ByteArray):A:=.tup [.agg [.v (.string (Anr a0 a1)),.sq 0],.v (.int .i64 (Ans a0 a1))]
def Anu (a0:List TGroup) (a1:ByteArray):Objs:=[(0,some (.arr 55 8 (.ty .cell (Ant a0 a1))))]
def Bkf (a0:List TGroup) (_a1:ByteArray):List Prop:=[((0:Int)≤(↑a0.length:Int)∧(↑a0.length:Int)≤(↑a0.length:Int)∧(↑a0.length:Int)≤(549755813888:Int))]
theorem Bke (a0:List TGroup) (a1:ByteArray):EQ (AA B0h L0) 9 62 [.sl .group a0,Ak .str a1] 0 []=some (1,Anv a0 a1,1,Anu a0 a1,[((0:Int)≤(↑a0.length:Int)∧(↑a0.length:Int)≤(↑a0.length:Int)∧(↑a0.length:Int)≤(549755813888:Int))]):=by kernel_rfl
theorem Bpl (a0:List TGroup) (a1:ByteArray) (hp:∀p∈Bkf a0 a1,p):CallOk Try.prog 62 [.sl .group a0,Ak .str a1] 0 [] 1 (Anv a0 a1) 1 (Anu a0 a1):=by
 have n0:=N0 hp
 exact AI (Aw Blw AH) (Bke a0 a1) (Aa n0 Ab)
def A0o (a0:List TGroup) (a1:ByteArray):A:=.tup [.agg [.v (.string (Ah7 a0 a1).key),.sq 0],.v (.int .i64 (VL a0 a1))]
def A0n (a0:List TGroup) (a1:ByteArray):Objs:=[(0,some (.arr 55 8 (.ty .cell (Ah7 a0 a1).cells)))]
def Aq5 (a0:List TGroup) (_a1:ByteArray):List Prop:=[Ai a0.length]
theorem Awa:∀(l:List TGroup) (seen:List ByteArray),Q5 seen l=0→∀g∈l,O6 g.policy=true
 | [],_,_,g,hg=>by cases hg
 | x::r,seen,h,g,hg=>by
  unfold Q5 at h
  cases h1:(IA x.name&&O6 x.policy) with
  |false=>rw[h1] at h;cases h
  | true=>
   rw[h1] at h
   cases h2:seen.any (fun s=>s==x.name) with
   |true=>rw[h2] at h;cases h
   |false=>
    rw[h2] at h
    rcases List.mem_cons.1 hg with rfl|hg
    ·exact(Bool.and_eq_true_iff.1 h1).2
    ·exact Awa r _ h g hg
theorem Bos {l:List TGroup} (h:AY l=0):∀g∈l,O6 g.policy=true:=by
 have h4:=Gu h
 unfold AY at h
 rw[show(l.length==0)=false by simpa using(by omega:l.length≠0),decide_eq_false (show ¬4 <l.length by omega)] at h
 exact Awa l [] h
theorem Bib {p:Int} (h:O6 p=true):BA p zeroC=true:=by
 unfold O6 at h
 rcases(by simpa using h:p=1∨p=2) with rfl|rfl<;>rfl
theorem P3 (l:List TGroup) (k:ByteArray):Ap l ⟨k,List.replicate l.length zeroC⟩=VL l k:=by
 unfold Ap VL Sl
 cases h:AY l !=0 with
 |true=>rfl
 | false=>
  rw[cond_false,cond_false]
  cases k.size==0 with
  |true=>rfl
  | false=>
   rw[cond_false,cond_false]
   cases decide (32 <k.size) with
   |true=>rfl
   | false=>
    rw[cond_false,cond_false]
    have hl:((TRow.mk k (List.replicate l.length zeroC)).cells.length !=l.length)=false:=by simp
    rw[hl,cond_false]
    have ha:(l.zip (TRow.mk k (List.replicate l.length zeroC)).cells).all (fun x=>BA x.1.policy x.2)=true:=by
     rw[List.all_eq_true]
     rintro⟨g,c⟩ hx
     have h1:=List.of_mem_zip hx
     have h2:c=zeroC:=List.eq_of_mem_replicate h1.2
     subst h2
     exact Bib (Bos (by simpa using h) g h1.1)
    rw[ha]
    rfl
theorem Bkd (a0:List TGroup) (a1:ByteArray) (hp:∀p∈Aq5 a0 a1,p):CallOk Try.prog 62 [.sl .group a0,Ak .str a1] 0 [] 1 (A0o a0 a1) 1 (A0n a0 a1):=by
 have hb:Ai a0.length:=hp _ (List.mem_cons_self ..)
 unfold Ai at hb
 have h:=Bpl a0 a1 (Aa ⟨by omega,Int.le_refl _,by omega⟩ Ab)
 have ek:PE a0 a1=List.replicate a0.length zeroC:=by unfold PE;rw[Int.toNat_natCast];rfl
 have k0:PD a0 a1=(VL a0 a1 !=0):=by
  unfold PD
  rw[ek,P3]
 have e1:Ans a0 a1=VL a0 a1:=by
  unfold Ans
  rw[k0,ek,P3]
  cases hk:VL a0 a1 !=0 with
  |true=>rfl
  |false=>rw[cond_false];exact(by simpa using hk:VL a0 a1=0).symm
 have e0:Anr a0 a1=(Ah7 a0 a1).key:=by
  unfold Anr
  rw[k0]
  rfl
 have e2:Ant a0 a1=(Ah7 a0 a1).cells:=by
  unfold Ant
  rw[k0,ek]
  rfl
 unfold Anv Anu at h
 rw[e0,e1,e2] at h
 exact h
def Anw:List A→Nat→Objs→Option Bb
 | [y0,y1],nx,o=>match Kh .group y0,AQ .str y1 with
  |some a0,some (a1,p1)=>some (1,(A0o a0 a1).pk (AF nx),nx+1,AE nx (A0n a0 a1)++o,p1++(Aq5 a0 a1))
  |_,_=>none
 |_,_,_=>none
theorem Bgj:Ft Try.prog 62 Anw:=fun args nx o k x nx' o' ps h=>by
 unfold Anw at h
 split at h<;>first|(cases h;done)|skip
 split at h<;>first|(cases h;done)|skip
 rename_i a0 a1 p1 e0 e1
 cases h
 refine⟨fun hp=>?_,_,rfl⟩
 have q1:=fun p hm=>hp p (List.mem_append.2 (.inl hm))
 have r1:=fun p hm=>hp p (List.mem_append.2 (.inr hm))
 refine Ah (Ag (Bkd a0 a1 r1) (Nat.le_refl _) (Ac rfl (Ac (Af _ _) Ao)) nx o) fun F N R vs hl=>?_
 obtain⟨v0,w0,rfl,h0,hl⟩:=hl.inv
 obtain⟨v1,w1,rfl,h1,hl⟩:=hl.inv
 exact HL.cons (BX e0 h0) (HL.cons (Am e1 q1 h1) (hl))
noncomputable def By5:=A7 62 Anw B0h
theorem Bra:Dd Try.prog By5:=Av Bgj Blw
noncomputable def Ck:=By5
theorem By6:Dd Try.prog Ck:=Bra
end Go.Proofs.Yteebobbhhgmeiaa
namespace Go.Proofs.Yteebobbhhgmeiaa
open Go.RowKit
def Bc5 (a b:TVec):Bool:=decide (b.a≤a.a)&&decide (b.b≤a.b)
def Tp (p:Int) (c:TCell):Bool:=BA p c&&Cx c&&!c.gone&&Bc5 c.vec c.dead
def Bgt (p:Int) (c:TCell):ByteArray:=bif Tp p c then c.value else⟨#[]⟩
def Cw (l:List TGroup) (cs:List TCell):Nat→List TField
 |0=>[]
 |i+1=>bif Tp (l.getD i (Ae TC.group)).policy (cs.getD i (Ae TC.cell)) then Cw l cs i++[⟨(i:Int),Bgt (l.getD i (Ae TC.group)).policy (cs.getD i (Ae TC.cell))⟩] else Cw l cs i
def Kw (l:List TGroup) (r:TRow):Bool:=Ap l r==0&&!((Cw l r.cells l.length).length==0)
def Aj1 (l:List TGroup) (r:TRow):ByteArray:=bif Kw l r then r.key else⟨#[]⟩
def Aj0 (l:List TGroup) (r:TRow):List TField:=bif Kw l r then Cw l r.cells l.length else[]
def Av0:List TField→List TField→Bool
 | [],[]=>true
 |x::xs,y::ys=>x.group==y.group&&x.value==y.value&&Av0 xs ys
 |_,_=>false
def B08 (a b:TView):Bool:=a.key==b.key&&Av0 a.fields b.fields
def Qz (a0:Int) (a1:TCell):Bool:=!Pj a0 a1||!Kr a1||a1.3||!Ub a1.2 a1.5
def Pl (a0:Int) (a1:TCell):ByteArray:=bif(Qz a0 a1) then ByteArray.mk #[] else a1.4
def IR (a0:Int) (a1:TCell):Bool:=bif(Qz a0 a1) then false else true
def Ads (a0:Int) (a1:TCell):A:=.v (.tuple ⟨[.string (Pl a0 a1),.bool (IR a0 a1)]⟩)
def Adr (_a0:Int) (_a1:TCell):Objs:=[]
def Apu (_a0:Int) (_a1:TCell):List Prop:=[]
theorem Bfg (a0:Int) (a1:TCell):EQ (AA Ck L0) 9 41 [Ak .i64 a0,Ak .cell a1] 0 []=some (1,Ads a0 a1,0,Adr a0 a1,[]):=by kernel_rfl
theorem Bjg (a0:Int) (a1:TCell) (_hp:∀p∈Apu a0 a1,p):CallOk Try.prog 41 [Ak .i64 a0,Ak .cell a1] 0 [] 1 (Ads a0 a1) 0 (Adr a0 a1):=by
 exact AI (Aw By6 AH) (Bfg a0 a1) Ab
def Adt:List A→Nat→Objs→Option Bb
 | [y0,y1],nx,o=>match AQ .i64 y0,AQ .cell y1 with
  |some (a0,p0),some (a1,p1)=>some (1,(Ads a0 a1).pk (AF nx),nx+0,AE nx (Adr a0 a1)++o,p0++(p1++(Apu a0 a1)))
  |_,_=>none
 |_,_,_=>none
theorem A87:Ft Try.prog 41 Adt:=fun args nx o k x nx' o' ps h=>by
 unfold Adt at h
 split at h<;>first|(cases h;done)|skip
 split at h<;>first|(cases h;done)|skip
 rename_i a0 p0 a1 p1 e0 e1
 cases h
 refine⟨fun hp=>?_,_,rfl⟩
 have q0:=fun p hm=>hp p (List.mem_append.2 (.inl hm))
 have r0:=fun p hm=>hp p (List.mem_append.2 (.inr hm))
 have q1:=fun p hm=>r0 p (List.mem_append.2 (.inl hm))
 have r1:=fun p hm=>r0 p (List.mem_append.2 (.inr hm))
 refine Ah (Ag (Bjg a0 a1 r1) (Nat.le_refl _) (Ac (Af _ _) (Ac (Af _ _) Ao)) nx o) fun F N R vs hl=>?_
 obtain⟨v0,w0,rfl,h0,hl⟩:=hl.inv
 obtain⟨v1,w1,rfl,h1,hl⟩:=hl.inv
 exact HL.cons (Am e0 q0 h0) (HL.cons (Am e1 q1 h1) (hl))
noncomputable def Bre:=A7 41 Adt Ck
theorem A59:Dd Try.prog Bre:=Av A87 By6
theorem Bff (p:Int) (c:TCell):Pl p c=Bgt p c∧IR p c=Tp p c:=by
 have hk:Qz p c=!Tp p c:=by
  unfold Qz Tp Bc5 Ub
  rw[Apq,XO]
  show(!BA p c||!Cx c||c.gone||!(decide (c.vec.a≥c.dead.a)&&decide (c.vec.b≥c.dead.b)))=_
  cases BA p c<;>cases Cx c<;>cases c.gone<;>rfl
 unfold Pl IR Bgt
 rw[hk]
 cases Tp p c<;>exact⟨rfl,rfl⟩
theorem Afy (p:Int) (c:TCell):MO p c=Bgt p c∧GA p c=Tp p c:=by
 have hm:∀x y:Int,(min x y==y)=decide (y≤x):=fun x y=>by
  rw[Bool.eq_iff_iff,beq_iff_eq,decide_eq_true_eq];omega
 have hk:NN p c=!Tp p c:=by
  unfold NN Tp Bc5 Ke
  rw[IK,Kx]
  have h1:((JT c.2 c.5).1==c.5.1)=decide (c.dead.a≤c.vec.a):=hm _ _
  have h2:((JT c.2 c.5).2==c.5.2)=decide (c.dead.b≤c.vec.b):=hm _ _
  rw[h1,h2]
  show(!BA p c||!Cx c||c.gone||!(decide (c.dead.a≤c.vec.a)&&decide (c.dead.b≤c.vec.b)))=_
  cases BA p c<;>cases Cx c<;>cases c.gone<;>rfl
 unfold MO GA Bgt
 rw[hk]
 cases Tp p c<;>exact⟨rfl,rfl⟩
theorem AS {l:List TGroup} {r:TRow} (h:Ap l r=0):AY l=0∧r.cells.length=l.length∧r.key.size≠0∧r.key.size≤32∧(l.zip r.cells).all (fun x=>BA x.1.policy x.2)=true:=by
 unfold Ap at h
 cases h1:AY l !=0 with
 |true=>rw[h1,cond_true] at h;rw[h] at h1;cases h1
 | false=>
  rw[h1,cond_false] at h
  cases h2:r.key.size==0 with
  |true=>rw[h2] at h;cases h
  | false=>
   rw[h2,cond_false] at h
   cases h3:decide (32 <r.key.size) with
   |true=>rw[h3] at h;cases h
   | false=>
    rw[h3,cond_false] at h
    cases h4:r.cells.length !=l.length with
    |true=>rw[h4] at h;cases h
    | false=>
     rw[h4,cond_false] at h
     cases h5:(l.zip r.cells).all (fun x=>BA x.1.policy x.2) with
     |false=>rw[h5] at h;cases h
     |true=>
      have:=of_decide_eq_false h3
      exact⟨by simpa using h1,by simpa using h4,by simpa using h2,by omega,rfl⟩
theorem Wd (l:List TGroup) (cs:List TCell):∀i,(Cw l cs i).length≤i
 |0=>Nat.le_refl _
 |i+1=>by
  have:=Wd l cs i
  unfold Cw
  cases Tp (l.getD i (Ae TC.group)).policy (cs.getD i (Ae TC.cell)) with
  |true=>rw[cond_true,List.length_append];simp;omega
  |false=>rw[cond_false];omega
abbrev C9:Type:=(List TGroup)×Int×TRow×ByteArray×(List TField)
def MD (x:C9):St:=⟨53,5,[(0,.sl .group x.1),(3,.own 0 0),(6,.own 2 0),(7,.v (.int .i64 x.2.1))],[(0,some (.box 71 [.v (.string x.2.2.1.key),.sl .cell x.2.2.1.cells])),(2,some (.box 94 [.v (.string x.2.2.2.1),.sq 4])),(4,some (.arr 142 2 (.ty .field x.2.2.2.2)))]⟩
def Pt:St→Option C9
 |⟨53,5,[(0,.sl .group z0),(3,.own 0 0),(6,.own 2 0),(7,.v (.int .i64 z1))],[(0,some (.box 71 [.v (.string z2),.sl .cell z3])),(2,some (.box 94 [.v (.string z4),.sq 4])),(4,some (.arr 142 2 (.ty .field z5)))]⟩=>some (z0,z1,⟨z2,z3⟩,z4,z5)
 |_=>none
theorem Am6:∀s x,Pt s=some x→s=MD x:=fun s x h=>by
 unfold Pt at h
 split at h
 ·cases h;rfl
 ·cases h
def Aay:Dj:=⟨4,5,[0,3,6,7],[],[(0,0),(2,2),(7,4)],[0,2,7],[],[0,2,4]⟩
def A22:DB:=⟨[.nilB 2 1 142 .field],[(0,0),(2,2),(3,4)],[0,3,6,7],[0,2,3]⟩
def Fg (a0:List TGroup) (a1:Int) (_a2:TRow) (_a3:ByteArray) (_a4:List TField):Bool:=!!decide (a1 <(↑a0.length:Int))
def Atm (a0:List TGroup) (a1:Int) (a2:TRow) (a3:ByteArray) (_a4:List TField):ByteArray:=bif IR (a0.getD a1.toNat (Ae TC.group)).2 (a2.2.getD a1.toNat (Ae TC.cell)) then a3 else a3
def Atn (a0:List TGroup) (a1:Int) (a2:TRow) (_a3:ByteArray) (a4:List TField):List TField:=bif IR (a0.getD a1.toNat (Ae TC.group)).2 (a2.2.getD a1.toNat (Ae TC.cell)) then a4++[TField.mk a1 (Pl (a0.getD a1.toNat (Ae TC.group)).2 (a2.2.getD a1.toNat (Ae TC.cell)))] else a4
def Fi (x:C9):C9:=(x.1,IntKind.i64.wrap (x.2.1+(1:Int)),x.2.2.1,Atm x.1 x.2.1 x.2.2.1 x.2.2.2.1 x.2.2.2.2,Atn x.1 x.2.1 x.2.2.1 x.2.2.2.1 x.2.2.2.2)
def Fh (x:C9):Cnd:=some ((Fg x.1 x.2.1 x.2.2.1 x.2.2.2.1 x.2.2.2.2))
def Vp (x:C9):List Prop:=[((Fg x.1 x.2.1 x.2.2.1 x.2.2.2.1 x.2.2.2.2)=true→(0:Int)≤x.2.1∧x.2.1 <(↑x.1.length:Int)),((Fg x.1 x.2.1 x.2.2.1 x.2.2.2.1 x.2.2.2.2)=true→(0:Int)≤x.2.1∧x.2.1 <(↑x.2.2.1.2.length:Int)),((Fg x.1 x.2.1 x.2.2.1 x.2.2.2.1 x.2.2.2.2)=true→IR (x.1.getD x.2.1.toNat (Ae TC.group)).2 (x.2.2.1.2.getD x.2.1.toNat (Ae TC.cell))=true→Ai (x.2.2.2.2.length+(1:Nat)))]
def Is (x:C9):List Prop:=[((Fg x.1 x.2.1 x.2.2.1 x.2.2.2.1 x.2.2.2.2)=true→(0:Int)≤x.2.1∧x.2.1 <(↑x.1.length:Int)),((Fg x.1 x.2.1 x.2.2.1 x.2.2.2.1 x.2.2.2.2)=true→(0:Int)≤x.2.1∧x.2.1 <(↑x.2.2.1.2.length:Int)),((Fg x.1 x.2.1 x.2.2.1 x.2.2.2.1 x.2.2.2.2)=true→IR (x.1.getD x.2.1.toNat (Ae TC.group)).2 (x.2.2.1.2.getD x.2.1.toNat (Ae TC.cell))=true→Ai (x.2.2.2.2.length+(1:Nat)))]
def Te (x:C9):Bo:=[(some 0,some (!decide (x.2.1 <(↑x.1.length:Int))),⟨53,5,[],[(0,some (.box 71 [.v (.string x.2.2.1.1),.sl .cell x.2.2.1.2])),(2,some (.box 94 [.v (.string x.2.2.2.1),.sq 4])),(4,some (.arr 142 2 (.ty .field x.2.2.2.2)))]⟩)]
def GW (x:C9):Nat:=((↑x.1.length:Int) - x.2.1).toNat
def KC (x:C9):C9:=Bg Fi Fh (GW x) x
theorem Azv (a0:List TGroup) (a1:Int) (a2:TRow) (a3:ByteArray) (a4:List TField):Bz (AA Bre L0) 9 (Aj Try.prog 64 0) Aay (MD (a0,a1,a2,a3,a4))=some (Vp (a0,a1,a2,a3,a4),Te (a0,a1,a2,a3,a4),Fh (a0,a1,a2,a3,a4),MD (Fi (a0,a1,a2,a3,a4))):=by kernel_rfl
theorem Azw (a0:List TGroup) (a1:Int) (a2:TRow) (a3:ByteArray) (a4:List TField) (hp:∀p∈Is (a0,a1,a2,a3,a4),p):∀p∈Vp (a0,a1,a2,a3,a4),p:=by
 have n0:=N0 hp
 have n1:=N0 (N1 hp)
 have n2:=N0 (N1 (N1 hp))
 exact(Aa n0 (Aa n1 (Aa n2 Ab)))
noncomputable def Vq:=H1 (AA Bre L0) (Aj Try.prog 64 0) Aay A22 Pt GW Fi Fh Is Te
theorem Ato:∀s b ps outs,Vq s=some (b,ps,outs)→Wf s ⟨ps,outs,none⟩∧Bx (AA C0 L0) b s ps outs:=
 Bm (T:=MD) A59 AH (u:=9) (by kernel_rfl) (by decide) (fun⟨a0,a1,a2,a3,a4⟩=>Azv a0 a1 a2 a3 a4) (fun⟨a0,a1,a2,a3,a4⟩=>Azw a0 a1 a2 a3 a4) Am6 (fun _=>AW (n:=53) rfl) fun _ _=>rfl
noncomputable def Aax:=DP 0 Vq L0
theorem Atl:Hr Aax:=A6 Ato AH
def IF (a0:List TGroup) (a1:TRow):Bool:=Ap a0 a1 !=(0:Int)
def QE (a0:List TGroup) (a1:TRow):Bool:=(↑(KC (a0,(0:Int),a1,a1.1,[])).snd.snd.snd.snd.length:Int)==(0:Int)
def Aek (a0:List TGroup) (a1:TRow):ByteArray:=bif(IF a0 a1) then ByteArray.mk #[] else bif(QE a0 a1) then ByteArray.mk #[] else(KC (a0,(0:Int),a1,a1.1,[])).snd.snd.snd.fst
def Ael (a0:List TGroup) (a1:TRow):Bool:=bif(IF a0 a1) then false else bif(QE a0 a1) then false else true
def Aem (a0:List TGroup) (a1:TRow):List TField:=bif(IF a0 a1) then[] else bif(QE a0 a1) then[] else(KC (a0,(0:Int),a1,a1.1,[])).snd.snd.snd.snd
def Aeo (a0:List TGroup) (a1:TRow):A:=.tup [.agg [.v (.string (Aek a0 a1)),.sq 0],.v (.bool (Ael a0 a1))]
def Aen (a0:List TGroup) (a1:TRow):Objs:=[(0,some (.arr 142 2 (.ty .field (Aem a0 a1))))]
def Bf2 (a0:List TGroup) (a1:TRow):List Prop:=[(∀(g:TGroup),g∈a0→Az g.1.size),((!(IF a0 a1))=true→AL Fi Fh Is (GW (a0,(0:Int),a1,a1.1,[])) (a0,(0:Int),a1,a1.1,[]))]
theorem Bf1 (a0:List TGroup) (a1:TRow):EQ (AA Bre Aax) 9 64 [.sl .group a0,Ak .row a1] 0 []=some (1,Aeo a0 a1,1,Aen a0 a1,[(∀(g:TGroup),g∈a0→Az g.1.size),((!(IF a0 a1))=true→Aj Try.prog (64:FuncId) (0:Nat)=Aj Try.prog (64:FuncId) (0:Nat)),((!(IF a0 a1))=true→AL Fi Fh Is (GW (a0,(0:Int),a1,a1.1,[])) (a0,(0:Int),a1,a1.1,[]))]):=by kernel_rfl
theorem Bj1 (a0:List TGroup) (a1:TRow) (hp:∀p∈Bf2 a0 a1,p):CallOk Try.prog 64 [.sl .group a0,Ak .row a1] 0 [] 1 (Aeo a0 a1) 1 (Aen a0 a1):=by
 have n0:=N0 hp
 have n1:((!(IF a0 a1))=true→Aj Try.prog (64:FuncId) (0:Nat)=Aj Try.prog (64:FuncId) (0:Nat)):=by intros;rfl
 have n2:=N0 (N1 hp)
 exact AI (Aw A59 Atl) (Bf1 a0 a1) (Aa n0 (Aa n1 (Aa n2 Ab)))
def Aqk (a0:List TGroup) (a1:TRow):A:=.tup [.agg [.v (.string (Aj1 a0 a1)),.sq 0],.v (.bool (Kw a0 a1))]
def Aqj (a0:List TGroup) (a1:TRow):Objs:=[(0,some (.arr 142 2 (.ty .field (Aj0 a0 a1))))]
def Ai3 (a0:List TGroup) (_a1:TRow):List Prop:=[∀g∈a0,Az g.name.size]
theorem Aaz (l:List TGroup) (r:TRow) (h0:Ap l r=0):
  AL Fi Fh Is (GW (l,0,r,r.1,[])) (l,0,r,r.1,[])∧KC (l,0,r,r.1,[])=(l,(l.length:Int),r,r.1,Cw l r.cells l.length):=by
 obtain⟨hp,hlen,_⟩:=AS h0
 have hl4:=(Gu hp).2
 obtain⟨h1,k,hk,hx,_,hst,_⟩:=IJ (fun i=>((l,(i:Int),r,r.1,Cw l r.cells i):C9)) l.length (fun _=>false) Fi Fh Is (GW (l,0,r,r.1,[])) (l,0,r,r.1,[]) rfl (by show l.length≤((l.length:Int) - 0).toNat;omega)
  (fun i _ _=>by
   show(!!decide ((i:Int) <(l.length:Int)))=_
   rw[nn,Mp,Bool.not_false,Bool.and_true])
  (fun i hi _=>by
   have hs:=Bff (l.getD i (Ae TC.group)).2 (r.2.getD i (Ae TC.cell))
   show(l,IntKind.i64.wrap ((i:Int)+1),r,(bif IR (l.getD ((i:Int)).toNat (Ae TC.group)).2 (r.2.getD ((i:Int)).toNat (Ae TC.cell)) then r.1 else r.1),(bif IR (l.getD ((i:Int)).toNat (Ae TC.group)).2 (r.2.getD ((i:Int)).toNat (Ae TC.cell)) then Cw l r.cells i++[TField.mk (i:Int) (Pl (l.getD ((i:Int)).toNat (Ae TC.group)).2 (r.2.getD ((i:Int)).toNat (Ae TC.cell)))] else Cw l r.cells i))=(l,((i+1:Nat):Int),r,r.1,Cw l r.cells (i+1))
   rw[Fp (by omega),Int.toNat_natCast,hs.1,hs.2]
   have:∀b:Bool,(bif b then r.1 else r.1)=r.1:=fun b=>by cases b<;>rfl
   rw[this]
   rfl)
  (fun i hi _=>by
   have hin:(!!decide ((i:Int) <(l.length:Int)))=true→(i:Int) <(l.length:Int):=fun h=>by rw[nn] at h;exact of_decide_eq_true h
   exact Aa (fun h=>⟨by show(0:Int)≤(i:Int);omega,hin h⟩) (Aa (fun h=>⟨by show(0:Int)≤(i:Int);omega,by have:=hin h;show(i:Int) <(r.cells.length:Int);omega⟩) (Aa (fun _ _=>by
    have:=Wd l r.cells i
    show Ai ((Cw l r.cells i).length+1)
    unfold Ai;omega) Ab)))
 have hkn:k=l.length:=by
  rcases Nat.lt_or_ge k l.length with h|h
  ·exact absurd (hst h) (by decide)
  ·omega
 subst hkn
 exact⟨h1,hx⟩
theorem Bf0 (a0:List TGroup) (a1:TRow) (hp:∀p∈Ai3 a0 a1,p):CallOk Try.prog 64 [.sl .group a0,Ak .row a1] 0 [] 1 (Aqk a0 a1) 1 (Aqj a0 a1):=by
 have hb:∀g∈a0,Az g.name.size:=hp _ (List.mem_cons_self ..)
 have hz:(!(Ap a0 a1 !=0))=true→Ap a0 a1=0:=fun h=>by simpa using h
 have h:=Bj1 a0 a1 (Aa hb (Aa (fun h1=>(Aaz a0 a1 (hz h1)).1) Ab))
 have hk1:IF a0 a1=(Ap a0 a1 !=0):=rfl
 have e:Aek a0 a1=Aj1 a0 a1∧Ael a0 a1=Kw a0 a1∧Aem a0 a1=Aj0 a0 a1:=by
  unfold Aek Ael Aem Aj1 Aj0
  have hv:Kw a0 a1=(Ap a0 a1==0&&!((Cw a0 a1.cells a0.length).length==0)):=rfl
  cases hg:Ap a0 a1 !=0 with
  | true=>
   rw[hk1,hg]
   have:Kw a0 a1=false:=by
    rw[hv,show(Ap a0 a1==0)=false by simpa using hg]
    rfl
   rw[this]
   exact⟨rfl,rfl,rfl⟩
  |false=>
   have h0:Ap a0 a1=0:=by simpa using hg
   unfold QE
   rw[hk1,hg,(Aaz a0 a1 h0).2]
   have:Kw a0 a1=!((Cw a0 a1.cells a0.length).length==0):=by rw[hv,h0];rfl
   rw[this]
   show(bif((Cw a0 a1.cells a0.length).length:Int)==0 then _ else _)=_∧(bif((Cw a0 a1.cells a0.length).length:Int)==0 then _ else _)=_∧(bif((Cw a0 a1.cells a0.length).length:Int)==0 then _ else _)=_
   rw[Ava]
   cases(Cw a0 a1.cells a0.length).length==0<;>exact⟨rfl,rfl,rfl⟩
 unfold Aeo Aen at h
 rw[e.1,e.2.1,e.2.2] at h
 exact h
def Aep:List A→Nat→Objs→Option Bb
 | [y0,y1],nx,o=>match Kh .group y0,AQ .row y1 with
  |some a0,some (a1,p1)=>some (1,(Aqk a0 a1).pk (AF nx),nx+1,AE nx (Aqj a0 a1)++o,p1++(Ai3 a0 a1))
  |_,_=>none
 |_,_,_=>none
theorem A9l:Ft Try.prog 64 Aep:=fun args nx o k x nx' o' ps h=>by
 unfold Aep at h
 split at h<;>first|(cases h;done)|skip
 split at h<;>first|(cases h;done)|skip
 rename_i a0 a1 p1 e0 e1
 cases h
 refine⟨fun hp=>?_,_,rfl⟩
 have q1:=fun p hm=>hp p (List.mem_append.2 (.inl hm))
 have r1:=fun p hm=>hp p (List.mem_append.2 (.inr hm))
 refine Ah (Ag (Bf0 a0 a1 r1) (Nat.le_refl _) (Ac rfl (Ac (Af _ _) Ao)) nx o) fun F N R vs hl=>?_
 obtain⟨v0,w0,rfl,h0,hl⟩:=hl.inv
 obtain⟨v1,w1,rfl,h1,hl⟩:=hl.inv
 exact HL.cons (BX e0 h0) (HL.cons (Am e1 q1 h1) (hl))
noncomputable def Brf:=A7 64 Aep Bre
theorem A6a:Dd Try.prog Brf:=Av A9l A59
abbrev Dc:Type:=(List TGroup)×Int×Int×TRow×ByteArray×(List TField)
def MI (x:Dc):St:=⟨53,5,[(3,.own 0 0),(6,.own 2 0),(19,.sl .group x.1),(20,.v (.int .i64 x.2.1)),(21,.v (.int .i64 x.2.2.1))],[(0,some (.box 71 [.v (.string x.2.2.2.1.key),.sl .cell x.2.2.2.1.cells])),(2,some (.box 94 [.v (.string x.2.2.2.2.1),.sq 4])),(4,some (.arr 142 2 (.ty .field x.2.2.2.2.2)))]⟩
def PF:St→Option Dc
 |⟨53,5,[(3,.own 0 0),(6,.own 2 0),(19,.sl .group z0),(20,.v (.int .i64 z1)),(21,.v (.int .i64 z2))],[(0,some (.box 71 [.v (.string z3),.sl .cell z4])),(2,some (.box 94 [.v (.string z5),.sq 4])),(4,some (.arr 142 2 (.ty .field z6)))]⟩=>some (z0,z1,z2,⟨z3,z4⟩,z5,z6)
 |_=>none
theorem Any:∀s x,PF s=some x→s=MI x:=fun s x h=>by
 unfold PF at h
 split at h
 ·cases h;rfl
 ·cases h
def Abc:Dj:=⟨4,5,[3,6,19,20,21],[],[(0,0),(2,2),(8,4)],[0,2,8],[],[0,2,4]⟩
def A3f:DB:=⟨[.nilB 2 1 142 .field],[(0,0),(2,2),(3,4)],[3,6,19,20,21],[0,2,3]⟩
def At7 (a0:List TGroup) (_a1:Int) (a2:Int) (a3:TRow) (a4:ByteArray) (_a5:List TField):ByteArray:=bif GA (a0.getD a2.toNat (Ae TC.group)).2 (a3.2.getD a2.toNat (Ae TC.cell)) then a4 else a4
def At8 (a0:List TGroup) (_a1:Int) (a2:Int) (a3:TRow) (_a4:ByteArray) (a5:List TField):List TField:=bif GA (a0.getD a2.toNat (Ae TC.group)).2 (a3.2.getD a2.toNat (Ae TC.cell)) then a5++[TField.mk a2 (MO (a0.getD a2.toNat (Ae TC.group)).2 (a3.2.getD a2.toNat (Ae TC.cell)))] else a5
def Fo (x:Dc):Dc:=(x.1,x.2.1,IntKind.i64.wrap (x.2.2.1+(1:Int)),x.2.2.2.1,At7 x.1 x.2.1 x.2.2.1 x.2.2.2.1 x.2.2.2.2.1 x.2.2.2.2.2,At8 x.1 x.2.1 x.2.2.1 x.2.2.2.1 x.2.2.2.2.1 x.2.2.2.2.2)
def Fm (x:Dc):Cnd:=some (!!decide (x.2.2.1 <x.2.1))
def VB (x:Dc):List Prop:=[((!!decide (x.2.2.1 <x.2.1))=true→(0:Int)≤x.2.2.1∧x.2.2.1 <(↑x.1.length:Int)),((!!decide (x.2.2.1 <x.2.1))=true→(0:Int)≤x.2.2.1∧x.2.2.1 <(↑x.2.2.2.1.2.length:Int)),((!!decide (x.2.2.1 <x.2.1))=true→GA (x.1.getD x.2.2.1.toNat (Ae TC.group)).2 (x.2.2.2.1.2.getD x.2.2.1.toNat (Ae TC.cell))=true→Ai (x.2.2.2.2.2.length+(1:Nat)))]
def Iy (x:Dc):List Prop:=[((!!decide (x.2.2.1 <x.2.1))=true→(0:Int)≤x.2.2.1∧x.2.2.1 <(↑x.1.length:Int)),((!!decide (x.2.2.1 <x.2.1))=true→(0:Int)≤x.2.2.1∧x.2.2.1 <(↑x.2.2.2.1.2.length:Int)),((!!decide (x.2.2.1 <x.2.1))=true→GA (x.1.getD x.2.2.1.toNat (Ae TC.group)).2 (x.2.2.2.1.2.getD x.2.2.1.toNat (Ae TC.cell))=true→Ai (x.2.2.2.2.2.length+(1:Nat)))]
def To (x:Dc):Bo:=[(some 0,some (!decide (x.2.2.1 <x.2.1)),⟨53,5,[],[(0,some (.box 71 [.v (.string x.2.2.2.1.1),.sl .cell x.2.2.2.1.2])),(2,some (.box 94 [.v (.string x.2.2.2.2.1),.sq 4])),(4,some (.arr 142 2 (.ty .field x.2.2.2.2.2)))]⟩)]
def G6 (x:Dc):Nat:=(x.2.1 - x.2.2.1).toNat
def KG (x:Dc):Dc:=Bg Fo Fm (G6 x) x
theorem A0q (a0:List TGroup) (a1:Int) (a2:Int) (a3:TRow) (a4:ByteArray) (a5:List TField):Bz (AA Brf L0) 9 (Aj Try.prog 58 0) Abc (MI (a0,a1,a2,a3,a4,a5))=some (VB (a0,a1,a2,a3,a4,a5),To (a0,a1,a2,a3,a4,a5),Fm (a0,a1,a2,a3,a4,a5),MI (Fo (a0,a1,a2,a3,a4,a5))):=by kernel_rfl
theorem A0r (a0:List TGroup) (a1:Int) (a2:Int) (a3:TRow) (a4:ByteArray) (a5:List TField) (hp:∀p∈Iy (a0,a1,a2,a3,a4,a5),p):∀p∈VB (a0,a1,a2,a3,a4,a5),p:=by
 have n0:=N0 hp
 have n1:=N0 (N1 hp)
 have n2:=N0 (N1 (N1 hp))
 exact(Aa n0 (Aa n1 (Aa n2 Ab)))
noncomputable def VC:=H1 (AA Brf L0) (Aj Try.prog 58 0) Abc A3f PF G6 Fo Fm Iy To
theorem At9:∀s b ps outs,VC s=some (b,ps,outs)→Wf s ⟨ps,outs,none⟩∧Bx (AA C0 L0) b s ps outs:=
 Bm (T:=MI) A6a AH (u:=9) (by kernel_rfl) (by decide) (fun⟨a0,a1,a2,a3,a4,a5⟩=>A0q a0 a1 a2 a3 a4 a5) (fun⟨a0,a1,a2,a3,a4,a5⟩=>A0r a0 a1 a2 a3 a4 a5) Any (fun _=>AW (n:=53) rfl) fun _ _=>rfl
noncomputable def Abb:=DP 0 VC L0
theorem At6:Hr Abb:=A6 At9 AH
def II (a0:List TGroup) (a1:TRow):Bool:=Ap a0 a1 !=(0:Int)
def QK (a0:List TGroup) (a1:TRow):Bool:=(↑(KG (a0,(↑a0.length:Int),(0:Int),a1,a1.1,[])).snd.snd.snd.snd.snd.length:Int)==(0:Int)
def Ae6 (a0:List TGroup) (a1:TRow):ByteArray:=bif(II a0 a1) then ByteArray.mk #[] else bif(QK a0 a1) then ByteArray.mk #[] else(KG (a0,(↑a0.length:Int),(0:Int),a1,a1.1,[])).snd.snd.snd.snd.fst
def Ae7 (a0:List TGroup) (a1:TRow):Bool:=bif(II a0 a1) then false else bif(QK a0 a1) then false else true
def Ae8 (a0:List TGroup) (a1:TRow):List TField:=bif(II a0 a1) then[] else bif(QK a0 a1) then[] else(KG (a0,(↑a0.length:Int),(0:Int),a1,a1.1,[])).snd.snd.snd.snd.snd
def Afa (a0:List TGroup) (a1:TRow):A:=.tup [.agg [.v (.string (Ae6 a0 a1)),.sq 0],.v (.bool (Ae7 a0 a1))]
def Ae9 (a0:List TGroup) (a1:TRow):Objs:=[(0,some (.arr 142 2 (.ty .field (Ae8 a0 a1))))]
def Bgn (a0:List TGroup) (a1:TRow):List Prop:=[((!(II a0 a1))=true→AL Fo Fm Iy (G6 (a0,(↑a0.length:Int),(0:Int),a1,a1.1,[])) (a0,(↑a0.length:Int),(0:Int),a1,a1.1,[]))]
theorem Bgm (a0:List TGroup) (a1:TRow):EQ (AA Brf Abb) 9 58 [.sl .group a0,Ak .row a1] 0 []=some (1,Afa a0 a1,1,Ae9 a0 a1,[((!(II a0 a1))=true→Aj Try.prog (58:FuncId) (0:Nat)=Aj Try.prog (58:FuncId) (0:Nat)),((!(II a0 a1))=true→AL Fo Fm Iy (G6 (a0,(↑a0.length:Int),(0:Int),a1,a1.1,[])) (a0,(↑a0.length:Int),(0:Int),a1,a1.1,[]))]):=by kernel_rfl
theorem Bkj (a0:List TGroup) (a1:TRow) (hp:∀p∈Bgn a0 a1,p):CallOk Try.prog 58 [.sl .group a0,Ak .row a1] 0 [] 1 (Afa a0 a1) 1 (Ae9 a0 a1):=by
 have n0:((!(II a0 a1))=true→Aj Try.prog (58:FuncId) (0:Nat)=Aj Try.prog (58:FuncId) (0:Nat)):=by intros;rfl
 have n1:=N0 hp
 exact AI (Aw A6a At6) (Bgm a0 a1) (Aa n0 (Aa n1 Ab))
def Aq8 (a0:List TGroup) (a1:TRow):A:=.tup [.agg [.v (.string (Aj1 a0 a1)),.sq 0],.v (.bool (Kw a0 a1))]
def Aq7 (a0:List TGroup) (a1:TRow):Objs:=[(0,some (.arr 142 2 (.ty .field (Aj0 a0 a1))))]
def Ajk (_a0:List TGroup) (_a1:TRow):List Prop:=[]
theorem Abd (l:List TGroup) (r:TRow) (h0:Ap l r=0):
  AL Fo Fm Iy (G6 (l,(l.length:Int),0,r,r.1,[])) (l,(l.length:Int),0,r,r.1,[])∧KG (l,(l.length:Int),0,r,r.1,[])=(l,(l.length:Int),(l.length:Int),r,r.1,Cw l r.cells l.length):=by
 obtain⟨hp,hlen,_⟩:=AS h0
 have hl4:=(Gu hp).2
 obtain⟨h1,k,hk,hx,_,hst,_⟩:=IJ (fun i=>((l,(l.length:Int),(i:Int),r,r.1,Cw l r.cells i):Dc)) l.length (fun _=>false) Fo Fm Iy (G6 (l,(l.length:Int),0,r,r.1,[])) (l,(l.length:Int),0,r,r.1,[]) rfl (by show l.length≤((l.length:Int) - 0).toNat;omega)
  (fun i _ _=>by
   show(!!decide ((i:Int) <(l.length:Int)))=_
   rw[nn,Mp,Bool.not_false,Bool.and_true])
  (fun i hi _=>by
   have hs:=Afy (l.getD i (Ae TC.group)).2 (r.2.getD i (Ae TC.cell))
   show(l,(l.length:Int),IntKind.i64.wrap ((i:Int)+1),r,(bif GA (l.getD ((i:Int)).toNat (Ae TC.group)).2 (r.2.getD ((i:Int)).toNat (Ae TC.cell)) then r.1 else r.1),(bif GA (l.getD ((i:Int)).toNat (Ae TC.group)).2 (r.2.getD ((i:Int)).toNat (Ae TC.cell)) then Cw l r.cells i++[TField.mk (i:Int) (MO (l.getD ((i:Int)).toNat (Ae TC.group)).2 (r.2.getD ((i:Int)).toNat (Ae TC.cell)))] else Cw l r.cells i))=(l,(l.length:Int),((i+1:Nat):Int),r,r.1,Cw l r.cells (i+1))
   rw[Fp (by omega),Int.toNat_natCast,hs.1,hs.2]
   have:∀b:Bool,(bif b then r.1 else r.1)=r.1:=fun b=>by cases b<;>rfl
   rw[this]
   rfl)
  (fun i hi _=>by
   have hin:(!!decide ((i:Int) <(l.length:Int)))=true→(i:Int) <(l.length:Int):=fun h=>by rw[nn] at h;exact of_decide_eq_true h
   exact Aa (fun h=>⟨by show(0:Int)≤(i:Int);omega,hin h⟩) (Aa (fun h=>⟨by show(0:Int)≤(i:Int);omega,by have:=hin h;show(i:Int) <(r.cells.length:Int);omega⟩) (Aa (fun _ _=>by
    have:=Wd l r.cells i
    show Ai ((Cw l r.cells i).length+1)
    unfold Ai;omega) Ab)))
 have hkn:k=l.length:=by
  rcases Nat.lt_or_ge k l.length with h|h
  ·exact absurd (hst h) (by decide)
  ·omega
 subst hkn
 exact⟨h1,hx⟩
theorem Bgl (a0:List TGroup) (a1:TRow) (_hp:∀p∈Ajk a0 a1,p):CallOk Try.prog 58 [.sl .group a0,Ak .row a1] 0 [] 1 (Aq8 a0 a1) 1 (Aq7 a0 a1):=by
 have hz:(!(Ap a0 a1 !=0))=true→Ap a0 a1=0:=fun h=>by simpa using h
 have h:=Bkj a0 a1 (Aa (fun h1=>(Abd a0 a1 (hz h1)).1) Ab)
 have hk1:II a0 a1=(Ap a0 a1 !=0):=rfl
 have e:Ae6 a0 a1=Aj1 a0 a1∧Ae7 a0 a1=Kw a0 a1∧Ae8 a0 a1=Aj0 a0 a1:=by
  unfold Ae6 Ae7 Ae8 Aj1 Aj0
  have hv:Kw a0 a1=(Ap a0 a1==0&&!((Cw a0 a1.cells a0.length).length==0)):=rfl
  cases hg:Ap a0 a1 !=0 with
  | true=>
   rw[hk1,hg]
   have:Kw a0 a1=false:=by
    rw[hv,show(Ap a0 a1==0)=false by simpa using hg]
    rfl
   rw[this]
   exact⟨rfl,rfl,rfl⟩
  |false=>
   have h0:Ap a0 a1=0:=by simpa using hg
   unfold QK
   rw[hk1,hg,(Abd a0 a1 h0).2]
   have:Kw a0 a1=!((Cw a0 a1.cells a0.length).length==0):=by rw[hv,h0];rfl
   rw[this]
   show(bif((Cw a0 a1.cells a0.length).length:Int)==0 then _ else _)=_∧(bif((Cw a0 a1.cells a0.length).length:Int)==0 then _ else _)=_∧(bif((Cw a0 a1.cells a0.length).length:Int)==0 then _ else _)=_
   rw[Ava]
   cases(Cw a0 a1.cells a0.length).length==0<;>exact⟨rfl,rfl,rfl⟩
 unfold Afa Ae9 at h
 rw[e.1,e.2.1,e.2.2] at h
 exact h
def Afb:List A→Nat→Objs→Option Bb
 | [y0,y1],nx,o=>match Kh .group y0,AQ .row y1 with
  |some a0,some (a1,p1)=>some (1,(Aq8 a0 a1).pk (AF nx),nx+1,AE nx (Aq7 a0 a1)++o,p1++(Ajk a0 a1))
  |_,_=>none
 |_,_,_=>none
theorem A91:Ft Try.prog 58 Afb:=fun args nx o k x nx' o' ps h=>by
 unfold Afb at h
 split at h<;>first|(cases h;done)|skip
 split at h<;>first|(cases h;done)|skip
 rename_i a0 a1 p1 e0 e1
 cases h
 refine⟨fun hp=>?_,_,rfl⟩
 have q1:=fun p hm=>hp p (List.mem_append.2 (.inl hm))
 have r1:=fun p hm=>hp p (List.mem_append.2 (.inr hm))
 refine Ah (Ag (Bgl a0 a1 r1) (Nat.le_refl _) (Ac rfl (Ac (Af _ _) Ao)) nx o) fun F N R vs hl=>?_
 obtain⟨v0,w0,rfl,h0,hl⟩:=hl.inv
 obtain⟨v1,w1,rfl,h1,hl⟩:=hl.inv
 exact HL.cons (BX e0 h0) (HL.cons (Am e1 q1 h1) (hl))
noncomputable def Brg:=A7 58 Afb Brf
theorem A6b:Dd Try.prog Brg:=Av A91 A6a
abbrev Bj:Type:=Int×TView×TView
def Jm (x:Bj):St:=⟨38,2,[(2,.own 0 0),(3,.own 1 0),(5,.v (.int .i64 x.1))],[(0,some (.box 94 [.v (.string x.2.1.key),.sl .field x.2.1.fields])),(1,some (.box 94 [.v (.string x.2.2.key),.sl .field x.2.2.fields]))]⟩
def KS:St→Option Bj
 |⟨38,2,[(2,.own 0 0),(3,.own 1 0),(5,.v (.int .i64 z0))],[(0,some (.box 94 [.v (.string z1),.sl .field z2])),(1,some (.box 94 [.v (.string z3),.sl .field z4]))]⟩=>some (z0,⟨z1,z2⟩,⟨z3,z4⟩)
 |_=>none
theorem X2:∀s x,KS s=some x→s=Jm x:=fun s x h=>by
 unfold KS at h
 split at h
 ·cases h;rfl
 ·cases h
def QD:Dj:=⟨2,2,[2,3,5],[],[(0,0),(1,1)],[0,1],[4],[0,1]⟩
def Ai1:DB:=⟨[],[(0,0),(1,1)],[2,3,5],[0,1]⟩
def C3 (a0:Int) (a1:TView) (_a2:TView):Bool:=!!decide (a0 <(↑a1.2.length:Int))
def BW (a0:Int) (a1:TView) (a2:TView):Bool:=(C3 a0 a1 a2)&&!((a1.2.getD a0.toNat (Ae TC.field)).1==(a2.2.getD a0.toNat (Ae TC.field)).1&&(a1.2.getD a0.toNat (Ae TC.field)).2.toList==(a2.2.getD a0.toNat (Ae TC.field)).2.toList)
def Zz (a0:Int) (a1:TView) (a2:TView):Bool:=(C3 a0 a1 a2)&&!(BW a0 a1 a2)
def C5 (x:Bj):Bj:=(IntKind.i64.wrap (x.1+(1:Int)),x.2.1,x.2.2)
def C4 (x:Bj):Cnd:=some (Zz x.1 x.2.1 x.2.2)
def NL (x:Bj):List Prop:=[((C3 x.1 x.2.1 x.2.2)=true→(0:Int)≤x.1∧x.1 <(↑x.2.1.2.length:Int)),((C3 x.1 x.2.1 x.2.2)=true→(0:Int)≤x.1∧x.1 <(↑x.2.2.2.length:Int))]
def Fc (x:Bj):List Prop:=[((C3 x.1 x.2.1 x.2.2)=true→(0:Int)≤x.1∧x.1 <(↑x.2.1.2.length:Int)),((C3 x.1 x.2.1 x.2.2)=true→(0:Int)≤x.1∧x.1 <(↑x.2.2.2.length:Int))]
def M5 (x:Bj):Bo:=[(some 0,some (!decide (x.1 <(↑x.2.1.2.length:Int))),⟨38,2,[(4,.dead)],[(0,some (.box 94 [.v (.string x.2.1.1),.sl .field x.2.1.2])),(1,some (.box 94 [.v (.string x.2.2.1),.sl .field x.2.2.2]))]⟩),(none,some ((BW x.1 x.2.1 x.2.2)),⟨38,2,[(4,.v (.bool (false)))],[(0,some (.box 94 [.v (.string x.2.1.1),.sl .field x.2.1.2])),(1,some (.box 94 [.v (.string x.2.2.1),.sl .field x.2.2.2]))]⟩)]
def D4 (x:Bj):Nat:=((↑x.2.1.2.length:Int) - x.1).toNat
def ZB (x:Bj):Bj:=Bg C5 C4 (D4 x) x
theorem Aef (a0:Int) (a1:TView) (a2:TView):Bz (AA Brg L0) 9 (Aj Try.prog 59 0) QD (Jm (a0,a1,a2))=some (NL (a0,a1,a2),M5 (a0,a1,a2),C4 (a0,a1,a2),Jm (C5 (a0,a1,a2))):=by kernel_rfl
theorem Aeg (a0:Int) (a1:TView) (a2:TView) (hp:∀p∈Fc (a0,a1,a2),p):∀p∈NL (a0,a1,a2),p:=by
 have n0:=N0 hp
 have n1:=N0 (N1 hp)
 exact(Aa n0 (Aa n1 Ab))
noncomputable def NM:=H1 (AA Brg L0) (Aj Try.prog 59 0) QD Ai1 KS D4 C5 C4 Fc M5
theorem ZA:∀s b ps outs,NM s=some (b,ps,outs)→Wf s ⟨ps,outs,none⟩∧Bx (AA C0 L0) b s ps outs:=
 Bm (T:=Jm) A6b AH (u:=9) (by kernel_rfl) (by decide) (fun⟨a0,a1,a2⟩=>Aef a0 a1 a2) (fun⟨a0,a1,a2⟩=>Aeg a0 a1 a2) X2 (fun _=>AW (n:=38) rfl) fun _ _=>rfl
noncomputable def QC:=DP 0 NM L0
theorem Zy:Hr QC:=A6 ZA AH
def Gf (a0:TView) (a1:TView):Bj:=ZB ((0:Int),a0,a1)
def EL (a0:TView) (a1:TView):Bool:=!a0.1.toList==a1.1.toList||(↑a0.2.length:Int) !=(↑a1.2.length:Int)
def Pp (a0:TView) (a1:TView):Bool:=bif(EL a0 a1) then false else bif BW (Gf a0 a1).fst (Gf a0 a1).snd.fst (Gf a0 a1).snd.snd then false else true
def Pq (a0:TView) (a1:TView):A:=.v (.bool (Pp a0 a1))
def X3 (_a0:TView) (_a1:TView):Objs:=[]
def Vl (a0:TView) (a1:TView):List Prop:=[((!(EL a0 a1))=true→AL C5 C4 Fc (D4 ((0:Int),a0,a1)) ((0:Int),a0,a1))]
theorem Atg (a0:TView) (a1:TView):EQ (AA Brg QC) 9 59 [Ak .view a0,Ak .view a1] 0 []=some (1,Pq a0 a1,0,X3 a0 a1,[((!(EL a0 a1))=true→Aj Try.prog (59:FuncId) (0:Nat)=Aj Try.prog (59:FuncId) (0:Nat)),((!(EL a0 a1))=true→AL C5 C4 Fc (D4 ((0:Int),a0,a1)) ((0:Int),a0,a1))]):=by kernel_rfl
theorem Azr (a0:TView) (a1:TView) (hp:∀p∈Vl a0 a1,p):CallOk Try.prog 59 [Ak .view a0,Ak .view a1] 0 [] 1 (Pq a0 a1) 0 (X3 a0 a1):=by
 have n0:((!(EL a0 a1))=true→Aj Try.prog (59:FuncId) (0:Nat)=Aj Try.prog (59:FuncId) (0:Nat)):=by intros;rfl
 have n1:=N0 hp
 exact AI (Aw A6b Zy) (Atg a0 a1) (Aa n0 (Aa n1 Ab))
def Vm (a0:TView) (a1:TView):A:=.v (.bool (B08 a0 a1))
def Vk (_a0:TView) (_a1:TView):Objs:=[]
def Tc (a0:TView) (_a1:TView):List Prop:=[Az a0.fields.length]
theorem Av1:∀{a b:List TField},Av0 a b=true↔a=b
 | [],[]=>by simp[Av0]
 | [],_::_=>by simp[Av0]
 |_::_,[]=>by simp[Av0]
 |⟨g,v⟩::xs,⟨g',v'⟩::ys=>by
  unfold Av0
  rw[Bool.and_eq_true,Bool.and_eq_true,beq_iff_eq,beq_iff_eq,Av1]
  simp
theorem B07:∀(a b:List TField),a.length=b.length→Av0 a b=Jn a.length (fun i=>(a.getD i (Ae TC.field)).1==(b.getD i (Ae TC.field)).1&&(a.getD i (Ae TC.field)).2==(b.getD i (Ae TC.field)).2):=fun a b h=>by
 rw[Bool.eq_iff_iff,Av1,HF]
 constructor
 ·rintro rfl i _
  simp
 ·intro g
  refine List.ext_getElem h fun i h1 h2=>?_
  have:=g i h1
  rw[List.getD_eq_getElem?_getD,List.getD_eq_getElem?_getD,List.getElem?_eq_getElem h1,List.getElem?_eq_getElem h2,Option.getD_some,Option.getD_some,Bool.and_eq_true,beq_iff_eq,beq_iff_eq] at this
  revert this
  generalize a[i]=x
  generalize b[i]=y
  cases x;cases y
  rintro⟨rfl,rfl⟩
  rfl
theorem Vj (a b:TView) (hb:Az a.fields.length):(∀p∈Vl a b,p)∧Pp a b=B08 a b:=by
 unfold Az at hb
 have hk0:EL a b=(!(a.key==b.key)||a.fields.length !=b.fields.length):=by
  show(!(a.key.toList==b.key.toList)||((a.fields.length:Int) !=(b.fields.length:Int)))=_
  rw[tlb]
  congr 1
  rw[Bool.eq_iff_iff,bne_iff_ne,bne_iff_ne];omega
 have main:EL a b=false→AL C5 C4 Fc (D4 (0,a,b)) (0,a,b)∧BW (Gf a b).fst (Gf a b).snd.fst (Gf a b).snd.snd=!Av0 a.fields b.fields:=fun h0=>by
  rw[hk0] at h0
  have hlen:a.fields.length=b.fields.length:=by simpa using(Bool.or_eq_false_iff.1 h0).2
  have hf:∀i:Nat,BW (i:Int) a b=(decide (i <a.fields.length)&&!((a.fields.getD i (Ae TC.field)).1==(b.fields.getD i (Ae TC.field)).1&&(a.fields.getD i (Ae TC.field)).2==(b.fields.getD i (Ae TC.field)).2)):=fun i=>by
   unfold BW C3
   rw[nn,Mp,Int.toNat_natCast,tlb]
  obtain⟨h1,k,hk,hx,_,_,hb'⟩:=IJ (fun i=>(((i:Int),a,b):Bj)) a.fields.length (fun i=>!((a.fields.getD i (Ae TC.field)).1==(b.fields.getD i (Ae TC.field)).1&&(a.fields.getD i (Ae TC.field)).2==(b.fields.getD i (Ae TC.field)).2)) C5 C4 Fc (D4 (0,a,b)) (0,a,b) rfl (by show a.fields.length≤((a.fields.length:Int) - 0).toNat;omega)
   (fun i _ _=>by
    show((!!decide ((i:Int) <(a.fields.length:Int)))&&!BW i a b)=_
    rw[hf,nn,Mp]
    cases decide (i <a.fields.length)<;>rfl)
   (fun i hi _=>by
    show(IntKind.i64.wrap ((i:Int)+1),a,b)=(((i+1:Nat):Int),a,b)
    rw[Fp (by omega)])
   (fun i _ _=>by
    have hin:(!!decide ((i:Int) <(a.fields.length:Int)))=true→(i:Int) <(a.fields.length:Int):=fun h=>by rw[nn] at h;exact of_decide_eq_true h
    exact Aa (fun h=>⟨by show(0:Int)≤(i:Int);omega,hin h⟩) (Aa (fun h=>⟨by show(0:Int)≤(i:Int);omega,by have:=hin h;show(i:Int) <(b.fields.length:Int);omega⟩) Ab))
  refine⟨h1,?_⟩
  have hr:Gf a b=((k:Int),a,b):=hx
  rw[hr]
  show BW (k:Int) a b=_
  rw[hf,hb',B07 _ _ hlen]
  congr 1
  exact HV fun i _=>Bool.not_not _
 refine⟨Aa (fun h=>(main (by simpa using h)).1) Ab,?_⟩
 unfold Pp B08
 cases h0:EL a b with
 | true=>
  rw[hk0] at h0
  rw[cond_true]
  cases hk:a.key==b.key with
  |false=>rfl
  |true=>
   rw[hk] at h0
   have hne:a.fields.length≠b.fields.length:=by simpa using h0
   cases he:Av0 a.fields b.fields with
   |false=>rfl
   |true=>exact absurd (congrArg List.length (Av1.1 he)) hne
 |false=>
  rw[cond_false,(main h0).2]
  rw[hk0] at h0
  have:(a.key==b.key)=true:=by simpa using(Bool.or_eq_false_iff.1 h0).1
  rw[this,Bool.true_and]
  cases Av0 a.fields b.fields<;>rfl
theorem Atf (a0:TView) (a1:TView) (hp:∀p∈Tc a0 a1,p):CallOk Try.prog 59 [Ak .view a0,Ak .view a1] 0 [] 1 (Vm a0 a1) 0 (Vk a0 a1):=by
 have hb:Az a0.fields.length:=hp _ (List.mem_cons_self ..)
 have h:=Azr a0 a1 (Vj a0 a1 hb).1
 unfold Pq at h
 rw[(Vj a0 a1 hb).2] at h
 exact h
def Pr:List A→Nat→Objs→Option Bb
 | [y0,y1],nx,o=>match AQ .view y0,AQ .view y1 with
  |some (a0,p0),some (a1,p1)=>some (1,(Vm a0 a1).pk (AF nx),nx+0,AE nx (Vk a0 a1)++o,p0++(p1++(Tc a0 a1)))
  |_,_=>none
 |_,_,_=>none
theorem Am4:Ft Try.prog 59 Pr:=fun args nx o k x nx' o' ps h=>by
 unfold Pr at h
 split at h<;>first|(cases h;done)|skip
 split at h<;>first|(cases h;done)|skip
 rename_i a0 p0 a1 p1 e0 e1
 cases h
 refine⟨fun hp=>?_,_,rfl⟩
 have q0:=fun p hm=>hp p (List.mem_append.2 (.inl hm))
 have r0:=fun p hm=>hp p (List.mem_append.2 (.inr hm))
 have q1:=fun p hm=>r0 p (List.mem_append.2 (.inl hm))
 have r1:=fun p hm=>r0 p (List.mem_append.2 (.inr hm))
 refine Ah (Ag (Atf a0 a1 r1) (Nat.le_refl _) (Ac (Af _ _) (Ac (Af _ _) Ao)) nx o) fun F N R vs hl=>?_
 obtain⟨v0,w0,rfl,h0,hl⟩:=hl.inv
 obtain⟨v1,w1,rfl,h1,hl⟩:=hl.inv
 exact HL.cons (Am e0 q0 h0) (HL.cons (Am e1 q1 h1) (hl))
noncomputable def B12:=A7 59 Pr Brg
theorem Bv3:Dd Try.prog B12:=Av Am4 A6b
noncomputable def Cl:=B12
theorem Bbk:Dd Try.prog Cl:=Bv3
end Go.Proofs.Yteebobbhhgmeiaa
namespace Go.Proofs.Yteebobbhhgmeiaa
open Go.RowKit Go.Shelf
attribute [local go_sem] Oper.semAt_some
def OwnB (base:Nat) (W:World) (y:Value) (bs:List UInt8):Prop:=OwnR W 5 1 y bs.length (bs.map Bt)∧∀g,CR y=some g→base≤g
theorem OwnB.keep {base:Nat} {W W':World} {y:Value} {bs:List UInt8} (h:OwnB base W y bs) (hk:∀g,base≤g→CR y=some g→W'.heap[g]?=W.heap[g]?):OwnB base W' y bs:=⟨h.1.keep fun g hg=>hk g (h.2 g hg) hg,h.2⟩
theorem OwnB.mono {b b':Nat} {W:World} {y:Value} {bs:List UInt8} (h:OwnB b W y bs) (hb:b'≤b):OwnB b' W y bs:=⟨h.1,fun g hg=>Nat.le_trans hb (h.2 g hg)⟩
theorem Bt1 (b0 b:Nat) (t:TypeId) (f:List (TGroup×TCell)→List UInt8):Own (fun s W=>∃y,W.heap[b0]?=some (.cells #[y] t (0,0))∧OwnB b W y (f s)):=fun s W W' row ⟨y,h1,h2⟩ hg hr=>by
 have key:∀(g:Nat) (o:Obj),W.heap[g]?=some o→o.isCells=true→W'.heap[g]?=W.heap[g]?:=fun g o ho hc=>by
  refine hg.block g (H6 ho) fun e=>?_
  obtain⟨o',h3,h4⟩:=hr g e.symm
  rw[ho] at h3
  cases h3
  rw[hc] at h4
  cases h4
 refine⟨y,(key b0 _ h1 rfl).trans h1,h2.keep fun g _ hgy=>?_⟩
 rcases h2.1.2 with⟨a,e1,_⟩|⟨g',cap,cur,e1,e3,_⟩
 ·rw[e1] at hgy;cases a<;>cases hgy
 ·rw[e1] at hgy
  cases hgy
  exact key _ _ e3 rfl
theorem OwnB.form {base:Nat} {W:World} {y:Value} {bs:List UInt8} (h:OwnB base W y bs):∃a n c,y=.slice a n c:=by
 obtain⟨a,c,e,_⟩:=h.1.form
 exact⟨a,_,c,e⟩
theorem KB.setCell {n₀ X:Nat} (W:World) (v:Value):KB n₀ X W (W.setCell ⟨X,0,none⟩ v):=
 ⟨rfl,rfl,rfl,by rw[Ajp];exact Nat.le_refl _,fun k _ hk=>Below.heap_setCell W ⟨X,0,none⟩ v k hk⟩
theorem Bdl {α:Type} (F:α→List UInt8) (n:Nat) (h:∀x,(F x).length≤n):∀l:List α,(l.flatMap F).length≤l.length*n
 | []=>by simp
 |x::r=>by
  have:=Bdl F n h r
  have:=h x
  rw[List.flatMap_cons,List.length_append,List.length_cons,Nat.succ_mul]
  omega
set_option maxHeartbeats 1000000 in
theorem Bkk (w:World) (a0 a1:Option Addr) (gs:List TGroup) (cs:List TCell) (key:ByteArray) (cap0 cap1:Nat) (na ncap:Nat) (ab:Option Addr) (b0:List UInt8) (pc:Int→TCell→List UInt8) (Nx:Nat)
  (hpc:∀q c,(pc q c).length≤Nx)
  (hGd:∀W,Below w.heap.size w W→Calls Try.prog 65 #[.slice a0 gs.length cap0,.agg #[.string key,.slice a1 cs.length cap1]] W fun e W'=>e=.returned (.int .i64 0)∧Below W.heap.size W W')
  (hl1:1≤gs.length) (hl4:gs.length≤4) (hlen0:Nat.beq cs.length gs.length=true)
  (hPT:∀W,Below w.heap.size w W→Calls Try.prog 122 #[.slice ab na ncap,.string key] W fun e W'=>∃y,e=.returned y∧Below W.heap.size W W'∧OwnB W.heap.size W' y b0)
  (hCP:∀W v bs q c base,OwnB base W v bs→bs.length≤b0.length+4*Nx→Calls Try.prog 56 #[v,.int .i64 q,cV c] W fun e W'=>∃y,e=.returned y∧Below W.heap.size W W'∧OwnB W.heap.size W' y (bs++pc q c))
  (hG:0 <gs.length→∃b off,a0=some ⟨b,off,none⟩∧GsAt w.heap.size w.heap.size w b off gs)
  (hS:0 <cs.length→∃b off,a1=some ⟨b,off,none⟩∧CsAt w.heap.size w.heap.size w b off cs):
  Calls Try.prog 79 #[.slice ab na ncap,.slice a0 gs.length cap0,.agg #[.string key,.slice a1 cs.length cap1]] w fun e W'=>∃y,e=.returned y∧Below w.heap.size w W'∧OwnB w.heap.size W' y (b0++(gs.zip cs).flatMap (fun x=>pc x.1.policy x.2)):=by
 refine(callsIn_wide (n:=5)).1 ?_
 refine callsIn_of_wp_marks Try.func79 rfl trivial ?_ rfl
 simp only[Try.ntmps79,List.size_toArray,List.length_cons,List.length_nil,Nat.reduceAdd,Nat.reduceSub,Array.replicate_succ,Array.replicate_zero,List.push_toArray,List.append_toArray,List.nil_append,List.cons_append]
 have hw2:Below w.heap.size w ((w.alloc (.cells #[.slice ab na ncap] 84)).alloc (.cells #[.string key,.slice a1 cs.length cap1] 71)):=((Below.refl _ w).alloc (Nat.le_refl _) _).alloc (by simp) _
 have hr1:=N6 (.cells #[.string key,.slice a1 cs.length cap1] 71) (Hs (w:=w) (.cells #[.slice ab na ncap] 84) rfl)
 have hr2:=Hs (w:=w.alloc (.cells #[.slice ab na ncap] 84)) (.cells #[.string key,.slice a1 cs.length cap1] 71) (n:=w.heap.size+1) (by simp)
 obtain⟨k0,k1⟩:=cb2 hr2
 have k2:=cb1 hr1
 gi_wp2_with (first
  |(refine⟨trivial,?_⟩;gi_at_call 65;refine(callsIn_wide.2 (hGd _ hw2)).mono ?_;rintro e W1 ⟨rfl,hb1⟩;have hx1:=Fv hr1 hb1;have hx2:=Fv hr2 hb1;have d0:=cb1 hx1;have f0:=fb1 hx1;obtain⟨c0,c1⟩:=cb2 hx2;have hB1:Below w.heap.size w W1:=hw2.trans (hb1.mono (by simp;omega));clear hr1 hr2 hb1 k0 k1 k2)
  |(refine⟨trivial,?_⟩;gi_at_call 122;refine(callsIn_wide.2 (hPT _ hB1)).mono ?_;rintro e W2 ⟨y0,rfl,hb2,hy0⟩;obtain⟨ya,yc,rfl,hyc⟩:=hy0.1.form;have hz1:=Fv hx1 hb2;have hz2:=Fv hx2 hb2;have d2:=cb1 hz1;have f2:=fb1 hz1;obtain⟨c2,c3⟩:=cb2 hz2;have hB2:Below w.heap.size w W2:=hB1.trans (hb2.mono hB1.size);clear d0 f0 c0 c1)
  |(refine⟨trivial,?_⟩;gi_at_call 132;refine(Bev _ _ _ _ _ _ _).mono ?_;rintro e W3 ⟨rfl,rfl⟩))
 have hlen:cs.length=gs.length:=Nat.eq_of_beq_eq_true hlen0
 have hy1:=PG (i:=0) hz1 (.slice ya b0.length yc)
 have hy2:=Byb hz2 (p:=⟨w.heap.size,0,none⟩) (by simp) (.slice ya b0.length yc)
 have hB3:Below w.heap.size w (W2.setCell ⟨w.heap.size,0,none⟩ (.slice ya b0.length yc)):=hB2.setCell (p:=⟨w.heap.size,0,none⟩) (Nat.le_refl _) _
 have hs1:=H6 hx2
 have hs2:=H6 hy2
 have hyo:OwnB (w.heap.size+1) (W2.setCell ⟨w.heap.size,0,none⟩ (.slice ya b0.length yc)) (.slice ya b0.length yc) b0:=(hy0.mono (Nat.le_of_lt hs1)).keep fun g hg _=>Below.heap_setCell W2 ⟨w.heap.size,0,none⟩ _ g (by simp;omega)
 have hVs:(W2.setCell ⟨w.heap.size,0,none⟩ (.slice ya b0.length yc)).heap.size=W2.heap.size:=Ajp _ _ _
 rw[←hVs]
 generalize W2.setCell ⟨w.heap.size,0,none⟩ (.slice ya b0.length yc)=V at hy1 hy2 hB3 hs2 hyo⊢
 clear hVs
 clear hz1 hz2 d2 f2 c2 c3 hx1 hx2 hb2 hy0
 obtain⟨b,off,rfl,hg⟩:=hG (by omega)
 obtain⟨b',off',rfl,hc⟩:=hS (by omega)
 have hW2:Below V.heap.size V ((V.alloc (.cells #[.slice (some ⟨b,off,none⟩) gs.length cap0] 66)).alloc (.cells #[.string key,.slice (some ⟨b',off',none⟩) cs.length cap1] 71)):=((Below.refl _ V).alloc (Nat.le_refl _) _).alloc (by simp) _
 have hv2:=N6 (.cells #[.string key,.slice (some ⟨b',off',none⟩) cs.length cap1] 71) (Hs (w:=V) (.cells #[.slice (some ⟨b,off,none⟩) gs.length cap0] 66) rfl)
 have hv3:=Hs (w:=V.alloc (.cells #[.slice (some ⟨b,off,none⟩) gs.length cap0] 66)) (.cells #[.string key,.slice (some ⟨b',off',none⟩) cs.length cap1] 71) (n:=V.heap.size+1) (by simp)
 have hz1:=Fv hy1 hW2
 have hz3:=H6 hv3
 have hB4:=hB3.trans (hW2.mono hB3.size)
 have hyo2:OwnB (w.heap.size+1) ((V.alloc (.cells #[.slice (some ⟨b,off,none⟩) gs.length cap0] 66)).alloc (.cells #[.string key,.slice (some ⟨b',off',none⟩) cs.length cap1] 71)) (.slice ya b0.length yc) b0:=hyo.keep fun g _ hgy=>hW2.block g (hyo.1.lt hgy)
 clear hyo hs1
 rw[show V.heap.size=V.heap.size from rfl] at hv2
 generalize hVW:(V.alloc (.cells #[.slice (some ⟨b,off,none⟩) gs.length cap0] 66)).alloc (.cells #[.string key,.slice (some ⟨b',off',none⟩) cs.length cap1] 71)=W2 at hW2 hv2 hv3 hz1 hz3 hB4 hyo2⊢
 have hlt0:=H6 hy1
 have hg2:GsAt W2.heap.size w.heap.size W2 b off gs:=⟨⟨by have:=hg.1.1;omega,by have:=hg.1.1;omega⟩,fun j g hj=>⟨(hB4.cell (p:=⟨b,_,none⟩) hg.1.1).trans (hg.2 j g hj).1,(hB4.cell (p:=⟨b,_,none⟩) hg.1.1).trans (hg.2 j g hj).2⟩⟩
 have hc2:CsAt W2.heap.size w.heap.size W2 b' off' cs:=by
  refine⟨⟨by have:=hc.1.1;omega,by have:=hc.1.1;omega⟩,fun j c hj=>?_⟩
  have k:∀o,W2.cell? ⟨b',o,none⟩=w.cell? ⟨b',o,none⟩:=fun o=>hB4.cell (p:=⟨b',o,none⟩) hc.1.1
  simp only[k]
  exact hc.2 j c hj
 refine wpIn_rangeFunc_ownH (F:=Fence.wide) rfl (by omega) (gf:=165) (lb:=#[.pointer (some ⟨V.heap.size,0,none⟩),.pointer (some ⟨V.heap.size+1,0,none⟩)]) rfl trivial (enters_of Try.func165 (by kernel_rfl) rfl)
  (Apa _ (by omega) V.heap.size (V.heap.size+1) W2.heap.size w.heap.size b off cap0 b' off' cap1 gs cs hlen hl4 W2 (Nat.le_refl _) (cb1 hv2) (cb2 hv3).2 ⟨by omega,by omega⟩ ⟨by omega,by omega⟩ hg2 hc2)
  KB.trans (KB.putObj (Nat.le_refl _)) (Below.refl _ _) (fun _=>rfl)
  (fun pre W=>(∃y,W.heap[w.heap.size]?=some (.cells #[y] 84 (0,0))∧OwnB (w.heap.size+1) W y (b0++pre.flatMap (fun x=>pc x.1.policy x.2)))∧Below w.heap.size w W∧W2.heap.size≤W.heap.size)
  (fun _ _ _=>False)
  (OwnFrom.and (Own.from (Bt1 w.heap.size (w.heap.size+1) 84 (fun pre=>b0++pre.flatMap (fun x=>pc x.1.policy x.2))) _) (OwnFrom.and (ownFrom_below (Nat.le_refl _) hB4.size) (T9 _ _)))
  (fun _ _ _ _ _ hs _ _=>hs)
  ⟨⟨_,hz1,by simpa using hyo2⟩,hB4,Nat.le_refl _⟩
  (fun x a' W=>(∃B6 B7,a'={tmps:=#[Value.slice ab na ncap,Value.slice (some ⟨b,off,none⟩) gs.length cap0,
     Value.agg #[Value.string key,Value.slice (some ⟨b',off',none⟩) cs.length cap1],
     Value.pointer (some {block:=w.heap.size,off:=0}),undef,
     Value.pointer (some {block:=w.heap.size+1,off:=0}),Value.slice none 0 0,Value.pointer (some ⟨B6,0,none⟩),Value.pointer (some ⟨B7,0,none⟩),
     Value.slice (some ⟨b,off,none⟩) gs.length cap0,Value.agg #[Value.string key,Value.slice (some ⟨b',off',none⟩) cs.length cap1],
     Value.int IntKind.i64 0,Value.bool false,undef,undef,undef,Value.slice ab na ncap,
     Value.pointer (some {block:=w.heap.size+1,off:=0}),Value.string key,Value.slice ya b0.length yc,
     Value.slice (some ⟨b,off,none⟩) gs.length cap0,Value.agg #[Value.string key,Value.slice (some ⟨b',off',none⟩) cs.length cap1],
     Value.func (Fn.func 165) #[] #[Value.pointer (some {block:=V.heap.size,off:=0}),Value.pointer (some {block:=V.heap.size+1,off:=0})],
     gV x.1,cV x.2,undef,undef,undef,undef,undef,undef],defers:=[]}∧
    (W.heap[B6]?=some (.cells #[.string x.1.name,.int .i64 x.1.policy] 79 (0,0))∧W.heap[B7]?=some (.cells #[.int .i64 x.2.stamp.n,.int .i64 x.2.stamp.site,.int .i64 x.2.vec.a,.int .i64 x.2.vec.b,.bool x.2.gone,.string x.2.value,.int .i64 x.2.dead.a,.int .i64 x.2.dead.b] 55 (0,0)))))
  (fun x a'=>Own.from (fun s X Y row hs hgr hr=>by
   obtain⟨B6,B7,e1,e2,e3⟩:=hs
   exact⟨B6,B7,e1,YI B6 _ _ s X Y row e2 hgr hr,YI B7 _ _ s X Y row e3 hgr hr⟩) _) ?assign ?body ?done ?stop
 case assign=>
  rintro l pre x W K ⟨⟨y,i1,i2⟩,i3,i4⟩ hK
  clear hlen hlen0
  dsimp only[Bsi,gV,cV] at hK⊢
  gi_wp2
  have hb:Below W.heap.size W ((W.alloc (.cells #[.string x.1.name,.int .i64 x.1.policy] 79)).alloc (.cells #[.int .i64 x.2.stamp.n,.int .i64 x.2.stamp.site,.int .i64 x.2.vec.a,.int .i64 x.2.vec.b,.bool x.2.gone,.string x.2.value,.int .i64 x.2.dead.a,.int .i64 x.2.dead.b] 55)):=((Below.refl _ W).alloc (Nat.le_refl _) _).alloc (by simp) _
  exact hK _ _ (IU _ hb) (KB.of_below (hb.mono i4)) ⟨⟨y,Fv i1 hb,i2.keep fun g _ hgy=>hb.block g (i2.1.lt hgy)⟩,i3.trans (hb.mono i3.size),Nat.le_trans i4 hb.size⟩ ⟨W.heap.size,W.heap.size+1,rfl,N6 _ (Hs _ rfl),Hs _ (by simp)⟩
 case body=>
  rintro l pre x a' W hl hr ⟨⟨y,i1,i2⟩,i3,i4⟩ ⟨B6,B7,rfl,e6,e7⟩ hlt
  obtain⟨yb,ym,yd,rfl⟩:=i2.form
  obtain⟨k0,k1⟩:=cb2 e6
  obtain⟨m0,m1,m2,m3,m4,m5,m6,m7⟩:=cb8 e7
  have d0:=cb1 i1
  have hbl:(b0++pre.flatMap (fun x=>pc x.1.policy x.2)).length≤b0.length+4*Nx:=by
   have:=Bdl (fun x:TGroup×TCell=>pc x.1.policy x.2) Nx (fun x=>hpc _ _) pre
   have h2:pre.length*Nx≤4*Nx:=Nat.mul_le_mul_right _ (by omega)
   rw[List.length_append]
   omega
  clear hlen hlen0
  generalize hbe:b0++pre.flatMap (fun x=>pc x.1.policy x.2)=bs at*
  gi_wp2_with (refine⟨trivial,?_⟩;gi_at_call 56;refine(CallsIn.inRound l (callsIn_wide.2 (hCP _ _ bs x.1.policy x.2 _ i2 hbl))).mono ?_;rintro e W' ⟨y',rfl,hb,hy'⟩;obtain⟨ye,yn,yf,rfl⟩:=hy'.form;have q1:=Fv i1 hb;have d4:=cb1 q1;have f4:=fb1 q1)
  have hw:=H6 i1
  refine⟨(IU _ hb).trans ((KeepsOthers.setCell _ _ _).from _),(KB.of_below (hb.mono i4)).trans (KB.setCell _ _),⟨_,PG (i:=0) q1 _,?_⟩,(i3.trans (hb.mono i3.size)).setCell (p:=⟨w.heap.size,0,none⟩) (Nat.le_refl _) _,Nat.le_trans i4 (by rw[Ajp];exact hb.size)⟩
  rw[List.flatMap_append,←List.append_assoc,hbe]
  simp only[List.flatMap_cons,List.flatMap_nil,List.append_nil]
  exact(hy'.mono (b':=w.heap.size+1) (by omega)).keep fun g hg _=>Below.heap_setCell W' ⟨w.heap.size,0,none⟩ _ g (by simp;omega)
 case done=>
  rintro D ys W hD rfl ⟨⟨y,i1,i2⟩,i3,i4⟩ hK
  obtain⟨yb,ym,yd,rfl⟩:=i2.form
  have d0:=cb1 i1
  clear hlen hlen0
  gi_wp2
  refine⟨by simp,.inl ⟨_,_,rfl,run_takeDeferred hK,?_⟩⟩
  refine⟨_,results_tmp rfl _ _ _,_,rfl,i3.trans (belowK_b (w:=w) (Nat.le_refl _) W D _ _ (by have:=hB4.size;omega) hK rfl rfl),(i2.mono (Nat.le_succ _)).keep fun g _ hgy=>?_⟩
  refine World.putObj_heap_other fun e=>?_
  subst e
  rcases i2.1.2 with⟨a,e1,_⟩|⟨g',cap,cur,e1,e3,_⟩
  ·rw[e1] at hgy;cases a<;>cases hgy
  ·rw[e1] at hgy
   cases hgy
   rw[hK] at e3
   cases e3
 case stop=>
  rintro D c pre W hD _ h _
  exact h.elim
end Go.Proofs.Yteebobbhhgmeiaa
