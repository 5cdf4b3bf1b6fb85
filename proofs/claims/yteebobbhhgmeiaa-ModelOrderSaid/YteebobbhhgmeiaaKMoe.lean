/- made by a program (rowgen.py): ModelOrder: for every input the law returns true, and each argument reads behind the call as it read before. -/
import Derived.Test.YteebobbhhgmeiaaKMod

namespace Go.Proofs.Yteebobbhhgmeiaa
open Go.RowKit
abbrev BI:Type:=ByteArray×Nat
def Jq (x:BI):St:=⟨36,2,[(26,.own 1 0)],[(1,some (.sit x.1 x.2))]⟩
def KV:St→Option BI
 |⟨36,2,[(26,.own 1 0)],[(1,some (.sit z0 z1))]⟩=>some (z0,z1)
 |_=>none
theorem XL:∀s x,KV s=some x→s=Jq x:=fun s x h=>by
 unfold KV at h
 split at h
 ·cases h;rfl
 ·cases h
def Qz:De:=⟨2,2,[26],[],[(1,1)],[1],[2],[1]⟩
def Aip:Dy:=⟨[],[(1,1)],[26],[1]⟩
def Fz (a0:ByteArray) (a1:Nat):Bool:=!!decide (a1 <a0.size)
def C2 (a0:ByteArray) (a1:Nat):Bool:=(Fz a0 a1)&&(decide ((↑(Utf8.decode a0 a1).fst:Int) <(97:Int))||decide ((↑(Utf8.decode a0 a1).fst:Int) >(122:Int)))
def ZD (a0:ByteArray) (a1:Nat):Nat:=bif decide (a1 <a0.size) then a1+(Utf8.decode a0 a1).snd else a1
def ZE (a0:ByteArray) (a1:Nat):Bool:=(Fz a0 a1)&&!(C2 a0 a1)
def ZF (a0:ByteArray) (a1:Nat):Nat:=bif decide (a1 <a0.size) then a1+(Utf8.decode a0 a1).snd else a1
def ZG (a0:ByteArray) (a1:Nat):Nat:=bif decide (a1 <a0.size) then a1+(Utf8.decode a0 a1).snd else a1
def D2 (x:BI):BI:=(x.1,ZD x.1 x.2)
def D1 (x:BI):Cnd:=some (ZE x.1 x.2)
def NQ (x:BI):List Prop:=[((Fz x.1 x.2)=true→decide (x.2 <x.1.size)=true)]
def Hm (_x:BI):List Prop:=[]
def M7 (x:BI):Bl:=[(some 0,some (!decide (x.2 <x.1.size)),⟨36,2,[(2,.dead)],[(1,some (.sit x.1 (ZF x.1 x.2)))]⟩),(none,some ((C2 x.1 x.2)),⟨36,2,[(2,.v (.bool (false)))],[(1,some (.sit x.1 (ZG x.1 x.2)))]⟩)]
def FA (x:BI):Nat:=x.1.size - x.2
def Km (x:BI):BI:=A9 D2 D1 (FA x) x
set_option maxRecDepth 100000 in
theorem Adb (a0:ByteArray) (a1:Nat):Bx (AA Cf L0) 9 (Aj Try.prog 164 0) Qz (Jq (a0,a1))=some (NQ (a0,a1),M7 (a0,a1),D1 (a0,a1),Jq (D2 (a0,a1))):=by kernel_rfl
set_option maxRecDepth 100000 in
theorem Adc (a0:ByteArray) (a1:Nat) (_hp:∀p∈Hm (a0,a1),p):∀p∈NQ (a0,a1),p:=by
 have n0:((Fz a0 a1)=true→decide (a1 <a0.size)=true):=by intro h;exact(Bool.not_not _).symm.trans h
 exact(Aa n0 Ab)
noncomputable def NR:=HU (AA Cf L0) (Aj Try.prog 164 0) Qz Aip KV FA D2 D1 Hm M7
theorem ZH:∀s b ps outs,NR s=some (b,ps,outs)→Wf s ⟨ps,outs,none⟩∧Bs (AA C0 L0) b s ps outs:=
 Bi (T:=Jq) Bqz AG (u:=9) (by kernel_rfl) (by decide) (fun⟨a0,a1⟩=>Adb a0 a1) (fun⟨a0,a1⟩=>Adc a0 a1) XL (fun _=>AR (n:=36) rfl) fun _ _=>rfl
noncomputable def Qy:=DG 0 NR L0
theorem ZC:Hs Qy:=A3 ZH AG
def Gc (a0:TGroup):Bool:=a0.1.toList==(ByteArray.mk #[]).toList||decide ((↑a0.1.size:Int) >(12:Int))||a0.2 !=(1:Int)&&a0.2 !=(2:Int)
def Ph (a0:TGroup):Bool:=bif(Gc a0) then false else bif C2 (Km (a0.1,(0:Nat))).fst (Km (a0.1,(0:Nat))).snd then false else true
def Pi (a0:TGroup):A:=.v (.bool (Ph a0))
def XM (_a0:TGroup):Objs:=[]
def U7 (a0:TGroup):List Prop:=[((!(Gc a0))=true→AL D2 D1 Hm (FA (a0.1,(0:Nat))) (a0.1,(0:Nat)))]
set_option maxRecDepth 100000 in
theorem Asu (a0:TGroup):EU (AA Cf Qy) 9 164 [Ak .group a0] 0 []=some (1,Pi a0,0,XM a0,[((!(Gc a0))=true→Aj Try.prog (164:FuncId) (0:Nat)=Aj Try.prog (164:FuncId) (0:Nat)),((!(Gc a0))=true→AL D2 D1 Hm (FA (a0.1,(0:Nat))) (a0.1,(0:Nat)))]):=by kernel_rfl
set_option maxRecDepth 100000 in
theorem Aym (a0:TGroup) (hp:∀p∈U7 a0,p):CallOk Try.prog 164 [Ak .group a0] 0 [] 1 (Pi a0) 0 (XM a0):=by
 have n0:((!(Gc a0))=true→Aj Try.prog (164:FuncId) (0:Nat)=Aj Try.prog (164:FuncId) (0:Nat)):=by intros;rfl
 have n1:=N0 hp
 exact AH (Aw Bqz ZC) (Asu a0) (Aa n0 (Aa n1 Ab))
def U8 (a0:TGroup):A:=.v (.bool (IB a0.name&&Pa a0.policy))
def U6 (_a0:TGroup):Objs:=[]
def S3 (_a0:TGroup):List Prop:=[]
theorem U5 (g:TGroup):(∀p∈U7 g,p)∧Ph g=(IB g.name&&Pa g.policy):=by
 have hk0:∀i,C2 g.1 i=(decide (i <g.1.size)&&!W6 (g.1.data.toList.getD i 0)):=fun i=>by
  unfold C2 Fz
  rw[nn]
  by_cases h:i <g.1.size
  ·rw[decide_eq_true h,Bool.true_and,Bool.true_and];exact(Bgj g.1 i h).1
  ·rw[decide_eq_false h];rfl
 obtain⟨h1,k,hk,hx,hs,hst⟩:=Bpm (fun i=>((g.1,i):ByteArray×Nat)) g.1.size (fun i=>!W6 (g.1.data.toList.getD i 0)) D2 D1 Hm (FA (g.1,0)) (g.1,0) rfl (Nat.le_refl _)
  (fun i _ _=>by
   show((!!decide (i <g.1.size))&&!C2 g.1 i)=_
   rw[hk0,nn]
   cases decide (i <g.1.size)<;>rfl)
  (fun i hi hj=>by
   show(g.1,(bif decide (i <g.1.size) then i+(Utf8.decode g.1 i).snd else i))=(g.1,i+1)
   have h2:=hj i (Nat.lt_succ_self i)
   rw[decide_eq_true hi,cond_true,(Bgj g.1 i hi).2 (by simpa using h2)])
  (fun _ _ _=>Ab)
 refine⟨Aa (fun _=>h1) Ab,?_⟩
 have hr:Km (g.1,0)=(g.1,k):=hx
 have ha:g.1.data.toList.all W6=decide (¬k <g.1.size):=by
  have:=Bbx g.1.data.toList 0 W6 k (by rw[K3];exact hk) (fun j hj=>by simpa using hs j hj) (fun h=>by rw[K3] at h;simpa using hst h)
  rw[K3] at this
  exact this
 unfold Ph
 rw[hr]
 show(bif Gc g then false else bif C2 g.1 k then false else true)=_
 rw[hk0]
 unfold Gc IB Pa
 rw[Rt]
 show _=(g.1.data.toList.all W6&&(decide (1≤g.1.size)&&decide (g.1.size≤12))&&(g.2==1||g.2==2))
 rw[ha]
 have e1:(g.1.size==0)=!decide (1≤g.1.size):=B3e _
 have e2:decide ((g.1.size:Int) >12)=!decide (g.1.size≤12):=by
  rw[←decide_not];exact decide_eq_decide.2 (by generalize g.1.size=m;omega)
 have e3:(g.2 !=1&&g.2 !=2)=!(g.2==1||g.2==2):=by simp[bne]
 rw[e1,e2,e3]
 by_cases h:k <g.1.size
 ·have:=hst h
  rw[this,decide_eq_true h,decide_eq_false (not_not_intro h)]
  simp
 ·rw[decide_eq_false h,decide_eq_true h]
  cases decide (1≤g.1.size)<;>cases decide (g.1.size≤12)<;>cases(g.2==1||g.2==2)<;>rfl
theorem Ast (a0:TGroup) (_hp:∀p∈S3 a0,p):CallOk Try.prog 164 [Ak .group a0] 0 [] 1 (U8 a0) 0 (U6 a0):=by
 have h:=Aym a0 (U5 a0).1
 unfold Pi at h
 rw[(U5 a0).2] at h
 exact h
def Pj:List A→Nat→Objs→Option A8
 | [y0],nx,o=>match AP .group y0 with
  |some (a0,p0)=>some (1,(U8 a0).pk (AF nx),nx+0,AE nx (U6 a0)++o,p0++(S3 a0))
  |_=>none
 |_,_,_=>none
theorem Ame:Fu Try.prog 164 Pj:=fun args nx o k x nx' o' ps h=>by
 unfold Pj at h
 split at h<;>first|(cases h;done)|skip
 split at h<;>first|(cases h;done)|skip
 rename_i a0 p0 e0
 cases h
 refine⟨fun hp=>?_,_,rfl⟩
 have q0:=fun p hm=>hp p (List.mem_append.2 (.inl hm))
 have r0:=fun p hm=>hp p (List.mem_append.2 (.inr hm))
 refine Ah (Ag (Ast a0 r0) (Nat.le_refl _) (Ac (Af _ _) Ao) nx o) fun F N R vs hl=>?_
 obtain⟨v0,w0,rfl,h0,hl⟩:=hl.inv
 exact HL.cons (Am e0 q0 h0) (hl)
noncomputable def Bq0:=A5 164 Pj Cf
theorem A5y:Df Try.prog Bq0:=Av Ame Bqz
abbrev Bq:Type:=(List TGroup)×Int×Int×(List (U .str×U .i64))
def Kd (x:Bq):St:=⟨35,1,[(3,.mp 0),(15,.sl .group x.1),(16,.v (.int .i64 x.2.1)),(17,.v (.int .i64 x.2.2.1))],[(0,some (.map .str .i64 x.2.2.2))]⟩
def LJ:St→Option Bq
 |⟨35,1,[(3,.mp 0),(15,.sl .group z0),(16,.v (.int .i64 z1)),(17,.v (.int .i64 z2))],[(0,some (.map .str .i64 z3))]⟩=>some (z0,z1,z2,z3)
 |_=>none
theorem ZB:∀s x,LJ s=some x→s=Kd x:=fun s x h=>by
 unfold LJ at h
 split at h
 ·cases h;rfl
 ·cases h
def S2:De:=⟨1,1,[3,15,16,17],[],[(0,0)],[0],[2],[0]⟩
def Amd:Dy:=⟨[],[(0,0)],[3,15,16,17],[0]⟩
def EE (a0:List TGroup) (_a1:Int) (a2:Int) (a3:List (U .str×U .i64)):List (ByteArray×Int):=ZO a3 (a0.getD a2.toNat (Ae TC.group)).1 (IntKind.i64.wrap (Kq a3 (a0.getD a2.toNat (Ae TC.group)).1+(1:Int)))
def Dv (a0:List TGroup) (a1:Int) (a2:Int) (a3:List (U .str×U .i64)):Bool:=!!decide (a2 <a1)&&(!(IB (a0.getD a2.toNat (Ae TC.group)).1&&Pa (a0.getD a2.toNat (Ae TC.group)).2)||decide (Kq (EE a0 a1 a2 a3) (a0.getD a2.toNat (Ae TC.group)).1 >(1:Int)))
def Ac8 (a0:List TGroup) (a1:Int) (a2:Int) (a3:List (U .str×U .i64)):List (U .str×U .i64):=(EE a0 a1 a2 a3)
def Ac9 (a0:List TGroup) (a1:Int) (a2:Int) (a3:List (U .str×U .i64)):Bool:=!!decide (a2 <a1)&&!(Dv a0 a1 a2 a3)
def IR (a0:List TGroup) (_a1:Int) (a2:Int) (_a3:List (U .str×U .i64)):Int:=bif !(IB (a0.getD a2.toNat (Ae TC.group)).1&&Pa (a0.getD a2.toNat (Ae TC.group)).2) then(2:Int) else(70:Int)
def ZA (a0:List TGroup) (a1:Int) (a2:Int) (a3:List (U .str×U .i64)):List (U .str×U .i64):=bif !(IB (a0.getD a2.toNat (Ae TC.group)).1&&Pa (a0.getD a2.toNat (Ae TC.group)).2) then a3 else(EE a0 a1 a2 a3)
def Dx (x:Bq):Bq:=(x.1,x.2.1,IntKind.i64.wrap (x.2.2.1+(1:Int)),Ac8 x.1 x.2.1 x.2.2.1 x.2.2.2)
def Dw (x:Bq):Cnd:=some (Ac9 x.1 x.2.1 x.2.2.1 x.2.2.2)
def Pf (x:Bq):List Prop:=[((!!decide (x.2.2.1 <x.2.1))=true→(0:Int)≤x.2.2.1∧x.2.2.1 <(↑x.1.length:Int))]
def FR (x:Bq):List Prop:=[((!!decide (x.2.2.1 <x.2.1))=true→(0:Int)≤x.2.2.1∧x.2.2.1 <(↑x.1.length:Int))]
def NP (x:Bq):Bl:=[(some 1,some (!decide (x.2.2.1 <x.2.1)),⟨35,1,[(2,.dead)],[(0,some (.map .str .i64 x.2.2.2))]⟩),(none,some ((Dv x.1 x.2.1 x.2.2.1 x.2.2.2)),⟨35,2,[(2,.v (.int .i64 (IR x.1 x.2.1 x.2.2.1 x.2.2.2)))],[(0,some (.map .str .i64 (ZA x.1 x.2.1 x.2.2.1 x.2.2.2)))]⟩)]
def EF (x:Bq):Nat:=(x.2.1 - x.2.2.1).toNat
def Hl (x:Bq):Bq:=A9 Dx Dw (EF x) x
set_option maxRecDepth 100000 in
theorem Aim (a0:List TGroup) (a1:Int) (a2:Int) (a3:List (U .str×U .i64)):Bx (AA Bq0 L0) 9 (Aj Try.prog 131 1) S2 (Kd (a0,a1,a2,a3))=some (Pf (a0,a1,a2,a3),NP (a0,a1,a2,a3),Dw (a0,a1,a2,a3),Kd (Dx (a0,a1,a2,a3))):=by kernel_rfl
set_option maxRecDepth 100000 in
theorem Ain (a0:List TGroup) (a1:Int) (a2:Int) (a3:List (U .str×U .i64)) (hp:∀p∈FR (a0,a1,a2,a3),p):∀p∈Pf (a0,a1,a2,a3),p:=by
 have n0:=N0 hp
 exact(Aa n0 Ab)
noncomputable def Pg:=HU (AA Bq0 L0) (Aj Try.prog 131 1) S2 Amd LJ EF Dx Dw FR NP
theorem Ada:∀s b ps outs,Pg s=some (b,ps,outs)→Wf s ⟨ps,outs,none⟩∧Bs (AA C0 L0) b s ps outs:=
 Bi (T:=Kd) A5y AG (u:=9) (by kernel_rfl) (by decide) (fun⟨a0,a1,a2,a3⟩=>Aim a0 a1 a2 a3) (fun⟨a0,a1,a2,a3⟩=>Ain a0 a1 a2 a3) ZB (fun _=>AR (n:=35) rfl) fun _ _=>rfl
noncomputable def S1:=DG 1 Pg L0
theorem Ac7:Hs S1:=A3 Ada AG
def Ex (a0:List TGroup):Bool:=(↑a0.length:Int)==(0:Int)||decide ((↑a0.length:Int) >(4:Int))
def Pe (a0:List TGroup):List TGroup:=(Hl (a0,(↑a0.length:Int),(0:Int),[])).fst
def Pd (a0:List TGroup):Int:=(Hl (a0,(↑a0.length:Int),(0:Int),[])).snd.fst
def Pc (a0:List TGroup):List (U TC.str×U TC.i64):=(Hl (a0,(↑a0.length:Int),(0:Int),[])).snd.snd.snd
def Pb (a0:List TGroup):Int:=(Hl (a0,(↑a0.length:Int),(0:Int),[])).snd.snd.fst
def Kt (a0:List TGroup):Int:=bif(Ex a0) then bif(↑a0.length:Int)==(0:Int) then(2:Int) else(3:Int) else bif Dv (Pe a0) (Pd a0) (Pb a0) (Pc a0) then IR (Pe a0) (Pd a0) (Pb a0) (Pc a0) else(0:Int)
def RC (a0:List TGroup):A:=.v (.int .i64 (Kt a0))
def Aaq (_a0:List TGroup):Objs:=[]
def XG (a0:List TGroup):List Prop:=[((!(Ex a0))=true→AL Dx Dw FR (EF (a0,(↑a0.length:Int),(0:Int),[])) (a0,(↑a0.length:Int),(0:Int),[]))]
set_option maxRecDepth 100000 in
theorem Ayl (a0:List TGroup):EU (AA Bq0 S1) 9 131 [.sl .group a0] 0 []=some (1,RC a0,0,Aaq a0,[((!(Ex a0))=true→Aj Try.prog (131:FuncId) (1:Nat)=Aj Try.prog (131:FuncId) (1:Nat)),((!(Ex a0))=true→AL Dx Dw FR (EF (a0,(↑a0.length:Int),(0:Int),[])) (a0,(↑a0.length:Int),(0:Int),[]))]):=by kernel_rfl
set_option maxRecDepth 100000 in
theorem A2l (a0:List TGroup) (hp:∀p∈XG a0,p):CallOk Try.prog 131 [.sl .group a0] 0 [] 1 (RC a0) 0 (Aaq a0):=by
 have n0:((!(Ex a0))=true→Aj Try.prog (131:FuncId) (1:Nat)=Aj Try.prog (131:FuncId) (1:Nat)):=by intros;rfl
 have n1:=N0 hp
 exact AH (Aw A5y Ac7) (Ayl a0) (Aa n0 (Aa n1 Ab))
def XH (a0:List TGroup):A:=.v (.int .i64 (AY a0))
def XF (_a0:List TGroup):Objs:=[]
def U4 (_a0:List TGroup):List Prop:=[]
theorem XE (l:List TGroup):(∀p∈XG l,p)∧Kt l=AY l:=by
 have e4:Ex l=(l.length==0||decide (4 <l.length)):=by
  unfold Ex
  rw[Ave]
  congr 1
  exact dgt l.length 4
 have main:Ex l=false→AL Dx Dw FR (EF (l,(l.length:Int),0,[])) (l,(l.length:Int),0,[])∧Kt l=AY l:=fun h4=>by
  have hn4:l.length≤4:=by
   rw[e4] at h4
   have:=of_decide_eq_false (Bool.or_eq_false_iff.1 h4).2
   omega
  have hk0:∀i,i≤l.length→(∀j,j <i→VJ l j=false)→Dv l (l.length:Int) (i:Int) (SP l i)=(decide (i <l.length)&&VJ l i):=fun i hi hs=>by
   unfold Dv EE
   rw[Int.toNat_natCast,Av8,if_pos rfl,Av7 l i hi hs,nn,MA]
   unfold VJ
   congr 2
   cases((l.take i).map (·.name)).any (fun s=>s==(l.getD i (Ae TC.group)).1)<;>rfl
  obtain⟨h1,k,hk,hx,hs,hst⟩:=Bpm (fun i=>((l,(l.length:Int),(i:Int),SP l i):Bq)) l.length (VJ l) Dx Dw FR (EF (l,(l.length:Int),0,[])) ((l,(l.length:Int),0,[]):Bq) rfl
   (by show l.length≤((l.length:Int) - 0).toNat;omega)
   (fun i hi hs=>by
    show((!!decide ((i:Int) <(l.length:Int)))&&!Dv l (l.length:Int) (i:Int) (SP l i))=_
    rw[hk0 i hi hs,nn,MA]
    cases decide (i <l.length)<;>rfl)
   (fun i hi hs=>by
    show(l,(l.length:Int),IntKind.i64.wrap ((i:Int)+1),EE l (l.length:Int) (i:Int) (SP l i))=(l,(l.length:Int),((i+1:Nat):Int),SP l (i+1))
    rw[ES (by omega)]
    unfold EE
    rw[Int.toNat_natCast]
    rfl)
   (fun i hi hs=>Aa (fun h=>by
    have h':(!!decide ((i:Int) <(l.length:Int)))=true:=h
    rw[nn] at h'
    have:=of_decide_eq_true h'
    show(0:Int)≤(i:Int)∧(i:Int) <(l.length:Int)
    omega) Ab)
  refine⟨h1,?_⟩
  have hr:Hl (l,(l.length:Int),0,[])=(l,(l.length:Int),(k:Int),SP l k):=hx
  unfold Kt Pe Pd Pc Pb
  rw[hr,h4,cond_false]
  show(bif Dv l (l.length:Int) (k:Int) (SP l k) then IR l (l.length:Int) (k:Int) (SP l k) else 0)=_
  rw[hk0 k hk hs]
  rw[e4] at h4
  obtain⟨h5,h6⟩:=Bool.or_eq_false_iff.1 h4
  unfold AY
  rw[h5,h6,cond_false,cond_false,A4m l k [] (fun j hj hl=>by
   have:=hs j hj
   unfold VJ at this
   obtain⟨q1,q2⟩:=Bool.or_eq_false_iff.1 this
   exact⟨by rw[Bool.not_eq_false'] at q1;exact q1,by simpa using q2⟩),List.nil_append]
  by_cases hkl:k <l.length
  ·have hst':=hst hkl
   rw[hst',decide_eq_true hkl,Bool.and_true,cond_true]
   have hd:l.drop k=l.getD k (Ae TC.group)::l.drop (k+1):=by
    rw[List.getD_eq_getElem?_getD,List.getElem?_eq_getElem hkl,Option.getD_some]
    exact List.drop_eq_getElem_cons hkl
   rw[hd]
   unfold Q8 IR
   rw[Int.toNat_natCast]
   unfold VJ at hst'
   show(bif !(IB (l.getD k (Ae TC.group)).1&&Pa (l.getD k (Ae TC.group)).2) then(2:Int) else 70)=bif !(IB (l.getD k (Ae TC.group)).1&&Pa (l.getD k (Ae TC.group)).2) then 2 else _
   cases hq:!(IB (l.getD k (Ae TC.group)).1&&Pa (l.getD k (Ae TC.group)).2) with
   |true=>rfl
   |false=>
    rw[hq,Bool.false_or] at hst'
    have hst2:((l.take k).map (·.name)).any (fun s=>s==(l.getD k (Ae TC.group)).name)=true:=hst'
    rw[cond_false,cond_false,hst2]
    rfl
  ·rw[decide_eq_false hkl,Bool.false_and,cond_false,List.drop_eq_nil_of_le (by omega)]
   rfl
 cases h4:Ex l with
 |false=>
  obtain⟨g1,g2⟩:=main h4
  exact⟨Aa (fun _=>g1) Ab,g2⟩
 | true=>
  refine⟨Aa (fun h=>by rw[h4] at h;cases h) Ab,?_⟩
  unfold Kt AY
  rw[h4,cond_true,Ave]
  rw[e4] at h4
  cases h5:l.length==0 with
  |true=>rfl
  |false=>
   rw[h5,Bool.false_or] at h4
   rw[h4]
   rfl
theorem XD (a0:List TGroup) (_hp:∀p∈U4 a0,p):CallOk Try.prog 131 [.sl .group a0] 0 [] 1 (XH a0) 0 (XF a0):=by
 have h:=A2l a0 (XE a0).1
 unfold RC at h
 rw[(XE a0).2] at h
 exact h
def RD:List A→Nat→Objs→Option A8
 | [y0],nx,o=>match Kp .group y0 with
  |some a0=>some (1,(XH a0).pk (AF nx),nx+0,AE nx (XF a0)++o,U4 a0)
  |_=>none
 |_,_,_=>none
theorem Ass:Fu Try.prog 131 RD:=fun args nx o k x nx' o' ps h=>by
 unfold RD at h
 split at h<;>first|(cases h;done)|skip
 split at h<;>first|(cases h;done)|skip
 rename_i a0 e0
 cases h
 refine⟨fun hp=>?_,_,rfl⟩
 refine Ah (Ag (XD a0 hp) (Nat.le_refl _) (Ac rfl Ao) nx o) fun F N R vs hl=>?_
 obtain⟨v0,w0,rfl,h0,hl⟩:=hl.inv
 exact HL.cons (Cx e0 h0) (hl)
noncomputable def Bq1:=A5 131 RD Bq0
theorem A5z:Df Try.prog Bq1:=Av Ass A5y
abbrev DL:Type:=ByteArray×Int
def MI (x:DL):St:=⟨28,0,[(0,.v (.string x.1)),(3,.v (.int .i64 x.2))],[]⟩
def Pn:St→Option DL
 |⟨28,0,[(0,.v (.string z0)),(3,.v (.int .i64 z1))],[]⟩=>some (z0,z1)
 |_=>none
theorem Amm:∀s x,Pn s=some x→s=MI x:=fun s x h=>by
 unfold Pn at h
 split at h
 ·cases h;rfl
 ·cases h
def Aaw:De:=⟨0,0,[0,3],[],[],[],[2],[]⟩
def A2q:Dy:=⟨[],[],[0,3],[]⟩
def E7 (a0:ByteArray) (a1:Int):Bool:=!!decide (a1 <(↑a0.size:Int))
def E6 (a0:ByteArray) (a1:Int):Bool:=(E7 a0 a1)&&(decide ((↑(a0.data.toList.getD a1.toNat (0:UInt8)).toNat:Int) <(97:Int))||decide ((↑(a0.data.toList.getD a1.toNat (0:UInt8)).toNat:Int) >(122:Int)))
def As2 (a0:ByteArray) (a1:Int):Bool:=(E7 a0 a1)&&!(E6 a0 a1)
def GR (x:DL):DL:=(x.1,IntKind.i64.wrap (x.2+(1:Int)))
def GQ (x:DL):Cnd:=some (As2 x.1 x.2)
def Ve (x:DL):List Prop:=[((E7 x.1 x.2)=true→(0:Int)≤x.2∧x.2 <(↑x.1.size:Int)),((E7 x.1 x.2)=true→decide ((↑(x.1.data.toList.getD x.2.toNat (0:UInt8)).toNat:Int) <(97:Int))=false→(0:Int)≤x.2∧x.2 <(↑x.1.size:Int))]
def JK (x:DL):List Prop:=[((E7 x.1 x.2)=true→(0:Int)≤x.2∧x.2 <(↑x.1.size:Int)),((E7 x.1 x.2)=true→decide ((↑(x.1.data.toList.getD x.2.toNat (0:UInt8)).toNat:Int) <(97:Int))=false→(0:Int)≤x.2∧x.2 <(↑x.1.size:Int))]
def S7 (x:DL):Bl:=[(some 0,some (!decide (x.2 <(↑x.1.size:Int))),⟨28,0,[(2,.dead)],[]⟩),(none,some ((E6 x.1 x.2)),⟨28,0,[(2,.v (.bool (false)))],[]⟩)]
def Il (x:DL):Nat:=((↑x.1.size:Int) - x.2).toNat
def Nv (x:DL):DL:=A9 GR GQ (Il x) x
set_option maxRecDepth 100000 in
theorem Ayy (a0:ByteArray) (a1:Int):Bx (AA Bq1 L0) 9 (Aj Try.prog 163 0) Aaw (MI (a0,a1))=some (Ve (a0,a1),S7 (a0,a1),GQ (a0,a1),MI (GR (a0,a1))):=by kernel_rfl
set_option maxRecDepth 100000 in
theorem Ayz (a0:ByteArray) (a1:Int) (hp:∀p∈JK (a0,a1),p):∀p∈Ve (a0,a1),p:=by
 have n0:=N0 hp
 have n1:=N0 (N1 hp)
 exact(Aa n0 (Aa n1 Ab))
noncomputable def Vf:=HU (AA Bq1 L0) (Aj Try.prog 163 0) Aaw A2q Pn Il GR GQ JK S7
theorem As3:∀s b ps outs,Vf s=some (b,ps,outs)→Wf s ⟨ps,outs,none⟩∧Bs (AA C0 L0) b s ps outs:=
 Bi (T:=MI) A5z AG (u:=9) (by kernel_rfl) (by decide) (fun⟨a0,a1⟩=>Ayy a0 a1) (fun⟨a0,a1⟩=>Ayz a0 a1) Amm (fun _=>AR (n:=28) rfl) fun _ _=>rfl
noncomputable def Aav:=DG 0 Vf L0
theorem As1:Hs Aav:=A3 As3 AG
def Adq (a0:ByteArray):Bool:=bif E6 (Nv (a0,(0:Int))).fst (Nv (a0,(0:Int))).snd then false else decide ((↑a0.size:Int)≥(1:Int))&&decide ((↑a0.size:Int)≤(12:Int))
def Adr (a0:ByteArray):A:=.v (.bool (Adq a0))
def Ay0 (_a0:ByteArray):Objs:=[]
def Apu (a0:ByteArray):List Prop:=[(AL GR GQ JK (Il (a0,(0:Int))) (a0,(0:Int)))]
set_option maxRecDepth 100000 in
theorem Bez (a0:ByteArray):EU (AA Bq1 Aav) 9 163 [Ak .str a0] 0 []=some (1,Adr a0,0,Ay0 a0,[(Aj Try.prog (163:FuncId) (0:Nat)=Aj Try.prog (163:FuncId) (0:Nat)),(AL GR GQ JK (Il (a0,(0:Int))) (a0,(0:Int)))]):=by kernel_rfl
set_option maxRecDepth 100000 in
theorem Bi4 (a0:ByteArray) (hp:∀p∈Apu a0,p):CallOk Try.prog 163 [Ak .str a0] 0 [] 1 (Adr a0) 0 (Ay0 a0):=by
 have n1:=N0 hp
 exact AH (Aw A5z As1) (Bez a0) (Aa rfl (Aa n1 Ab))
def Apv (a0:ByteArray):A:=.v (.bool (IB a0))
def Apt (_a0:ByteArray):Objs:=[]
def Ais (a0:ByteArray):List Prop:=[Az a0.size]
theorem Aps (g:ByteArray) (hb:Az g.size):(∀p∈Apu g,p)∧Adq g=IB g:=by
 unfold Az at hb
 have hlow:∀i,(decide ((((g.data.toList.getD i 0).toNat:Nat):Int) <97)||decide ((((g.data.toList.getD i 0).toNat:Nat):Int) >122))=!W6 (g.data.toList.getD i 0):=fun i=>by
  unfold W6
  rw[Bool.not_and,←decide_not,←decide_not]
  congr 1<;>exact decide_eq_decide.2 (by omega)
 have hk0:∀i:Nat,E6 g (i:Int)=(decide (i <g.size)&&!W6 (g.data.toList.getD i 0)):=fun i=>by
  unfold E6 E7
  rw[nn,MA,Int.toNat_natCast,hlow]
 obtain⟨h1,k,hk,hx,hs,hst⟩:=Bpm (fun i=>((g,(i:Int)):ByteArray×Int)) g.size (fun i=>!W6 (g.data.toList.getD i 0)) GR GQ JK (Il (g,0)) (g,0) rfl (by show g.size≤((g.size:Int) - 0).toNat;omega)
  (fun i _ _=>by
   show((!!decide ((i:Int) <(g.size:Int)))&&!E6 g i)=_
   rw[hk0,nn,MA]
   cases decide (i <g.size)<;>rfl)
  (fun i hi hj=>by
   show(g,IntKind.i64.wrap ((i:Int)+1))=(g,((i+1:Nat):Int))
   rw[ES (by omega)])
  (fun i _ _=>Aa (fun h=>by
    have h':(!!decide ((i:Int) <(g.size:Int)))=true:=h
    rw[nn] at h'
    have:=of_decide_eq_true h'
    show(0:Int)≤(i:Int)∧(i:Int) <(g.size:Int)
    omega) (Aa (fun h _=>by
    have h':(!!decide ((i:Int) <(g.size:Int)))=true:=h
    rw[nn] at h'
    have:=of_decide_eq_true h'
    show(0:Int)≤(i:Int)∧(i:Int) <(g.size:Int)
    omega) Ab))
 refine⟨Aa h1 Ab,?_⟩
 have hr:Nv (g,0)=(g,(k:Int)):=hx
 have ha:g.data.toList.all W6=decide (¬k <g.size):=by
  have:=Bbx g.data.toList 0 W6 k (by rw[K3];exact hk) (fun j hj=>by simpa using hs j hj) (fun h=>by rw[K3] at h;simpa using hst h)
  rw[K3] at this
  exact this
 unfold Adq
 rw[hr]
 show(bif E6 g (k:Int) then false else decide ((g.size:Int)≥1)&&decide ((g.size:Int)≤12))=_
 rw[hk0]
 unfold IB
 rw[ha,show decide ((g.size:Int)≥1)=decide (1≤g.size) from decide_eq_decide.2 (by omega),show decide ((g.size:Int)≤12)=decide (g.size≤12) from decide_eq_decide.2 (by omega)]
 by_cases h:k <g.size
 ·rw[hst h,decide_eq_true h,decide_eq_false (not_not_intro h)]
  rfl
 ·rw[decide_eq_false h,decide_eq_true h]
  rfl
theorem Bey (a0:ByteArray) (hp:∀p∈Ais a0,p):CallOk Try.prog 163 [Ak .str a0] 0 [] 1 (Apv a0) 0 (Apt a0):=by
 have hb:Az a0.size:=hp _ (List.mem_cons_self ..)
 have h:=Bi4 a0 (Aps a0 hb).1
 unfold Adr at h
 rw[(Aps a0 hb).2] at h
 exact h
def Ads:List A→Nat→Objs→Option A8
 | [y0],nx,o=>match AP .str y0 with
  |some (a0,p0)=>some (1,(Apv a0).pk (AF nx),nx+0,AE nx (Apt a0)++o,p0++(Ais a0))
  |_=>none
 |_,_,_=>none
theorem A80:Fu Try.prog 163 Ads:=fun args nx o k x nx' o' ps h=>by
 unfold Ads at h
 split at h<;>first|(cases h;done)|skip
 split at h<;>first|(cases h;done)|skip
 rename_i a0 p0 e0
 cases h
 refine⟨fun hp=>?_,_,rfl⟩
 have q0:=fun p hm=>hp p (List.mem_append.2 (.inl hm))
 have r0:=fun p hm=>hp p (List.mem_append.2 (.inr hm))
 refine Ah (Ag (Bey a0 r0) (Nat.le_refl _) (Ac (Af _ _) Ao) nx o) fun F N R vs hl=>?_
 obtain⟨v0,w0,rfl,h0,hl⟩:=hl.inv
 exact HL.cons (Am e0 q0 h0) (hl)
noncomputable def Bg5:=A5 163 Ads Bq1
theorem Auj:Df Try.prog Bg5:=Av A80 A5z
abbrev C7:Type:=(List TGroup)×Int×Int
def MH (x:C7):St:=⟨56,0,[(0,.sl .group x.1),(3,.v (.int .i64 x.2.1)),(4,.v (.int .i64 x.2.2))],[]⟩
def Pm:St→Option C7
 |⟨56,0,[(0,.sl .group z0),(3,.v (.int .i64 z1)),(4,.v (.int .i64 z2))],[]⟩=>some (z0,z1,z2)
 |_=>none
theorem Aml:∀s x,Pm s=some x→s=MH x:=fun s x h=>by
 unfold Pm at h
 split at h
 ·cases h;rfl
 ·cases h
def Aau:De:=⟨0,0,[0,3,4],[],[],[],[2],[]⟩
def A2p:Dy:=⟨[],[],[0,3,4],[]⟩
def D4 (a0:List TGroup) (a1:Int) (a2:Int):Bool:=!!decide (a2 <a1)&&(a0.getD a2.toNat (Ae TC.group)).1.toList==(a0.getD a1.toNat (Ae TC.group)).1.toList
def Asz (a0:List TGroup) (a1:Int) (a2:Int):Bool:=!!decide (a2 <a1)&&!(D4 a0 a1 a2)
def E5 (x:C7):C7:=(x.1,x.2.1,IntKind.i64.wrap (x.2.2+(1:Int)))
def E4 (x:C7):Cnd:=some (Asz x.1 x.2.1 x.2.2)
def Vc (x:C7):List Prop:=[((!!decide (x.2.2 <x.2.1))=true→(0:Int)≤x.2.2∧x.2.2 <(↑x.1.length:Int)),((!!decide (x.2.2 <x.2.1))=true→(0:Int)≤x.2.1∧x.2.1 <(↑x.1.length:Int))]
def Ik (x:C7):List Prop:=[((!!decide (x.2.2 <x.2.1))=true→(0:Int)≤x.2.2∧x.2.2 <(↑x.1.length:Int)),((!!decide (x.2.2 <x.2.1))=true→(0:Int)≤x.2.1∧x.2.1 <(↑x.1.length:Int))]
def S6 (x:C7):Bl:=[(some 2,some (!decide (x.2.2 <x.2.1)),⟨56,0,[(2,.dead)],[]⟩),(none,some ((D4 x.1 x.2.1 x.2.2)),⟨56,0,[(2,.v (.int .i64 ((70:Int))))],[]⟩)]
def GP (x:C7):Nat:=(x.2.1 - x.2.2).toNat
def Gd (x:C7):C7:=A9 E5 E4 (GP x) x
set_option maxRecDepth 100000 in
theorem Ayv (a0:List TGroup) (a1:Int) (a2:Int):Bx (AA Bg5 L0) 9 (Aj Try.prog 128 2) Aau (MH (a0,a1,a2))=some (Vc (a0,a1,a2),S6 (a0,a1,a2),E4 (a0,a1,a2),MH (E5 (a0,a1,a2))):=by kernel_rfl
set_option maxRecDepth 100000 in
theorem Ayw (a0:List TGroup) (a1:Int) (a2:Int) (hp:∀p∈Ik (a0,a1,a2),p):∀p∈Vc (a0,a1,a2),p:=by
 have n0:=N0 hp
 have n1:=N0 (N1 hp)
 exact(Aa n0 (Aa n1 Ab))
noncomputable def Vd:=HU (AA Bg5 L0) (Aj Try.prog 128 2) Aau A2p Pm GP E5 E4 Ik S6
theorem As0:∀s b ps outs,Vd s=some (b,ps,outs)→Wf s ⟨ps,outs,none⟩∧Bs (AA C0 L0) b s ps outs:=
 Bi (T:=MH) Auj AG (u:=9) (by kernel_rfl) (by decide) (fun⟨a0,a1,a2⟩=>Ayv a0 a1 a2) (fun⟨a0,a1,a2⟩=>Ayw a0 a1 a2) Aml (fun _=>AR (n:=56) rfl) fun _ _=>rfl
noncomputable def MG:=DG 2 Vd L0
theorem Vb:Hs MG:=A3 As0 AG
abbrev CA:Type:=(List TGroup)×Int
def MF (x:CA):St:=⟨56,0,[(0,.sl .group x.1),(3,.v (.int .i64 x.2))],[]⟩
def Pl:St→Option CA
 |⟨56,0,[(0,.sl .group z0),(3,.v (.int .i64 z1))],[]⟩=>some (z0,z1)
 |_=>none
theorem Amk:∀s x,Pl s=some x→s=MF x:=fun s x h=>by
 unfold Pl at h
 split at h
 ·cases h;rfl
 ·cases h
def Aat:De:=⟨0,0,[0,3],[],[],[],[2],[]⟩
def A2o:Dy:=⟨[],[],[0,3],[]⟩
def Bc (a0:List TGroup) (a1:Int):Bool:=!!decide (a1 <(↑a0.length:Int))
def D3 (a0:List TGroup) (a1:Int):Bool:=!IB (a0.getD a1.toNat (Ae TC.group)).1||(a0.getD a1.toNat (Ae TC.group)).2 !=(1:Int)&&(a0.getD a1.toNat (Ae TC.group)).2 !=(2:Int)
def E1 (a0:List TGroup) (a1:Int):Bool:=(Bc a0 a1)&&((D3 a0 a1)||D4 (Gd (a0,a1,(0:Int))).fst (Gd (a0,a1,(0:Int))).snd.fst (Gd (a0,a1,(0:Int))).snd.snd)
def Asx (a0:List TGroup) (a1:Int):Bool:=(Bc a0 a1)&&!(E1 a0 a1)
def Ke (a0:List TGroup) (a1:Int):Int:=bif(D3 a0 a1) then(2:Int) else(70:Int)
def E3 (x:CA):CA:=(x.1,IntKind.i64.wrap (x.2+(1:Int)))
def E2 (x:CA):Cnd:=some (Asx x.1 x.2)
def U9 (x:CA):List Prop:=[((Bc x.1 x.2)=true→(0:Int)≤x.2∧x.2 <(↑x.1.length:Int)),((Bc x.1 x.2)=true→Az (x.1.getD x.2.toNat (Ae TC.group)).1.size),((Bc x.1 x.2)=true→(!IB (x.1.getD x.2.toNat (Ae TC.group)).1)=false→(0:Int)≤x.2∧x.2 <(↑x.1.length:Int)),((Bc x.1 x.2)=true→((x.1.getD x.2.toNat (Ae TC.group)).2 !=(1:Int))=true→(!IB (x.1.getD x.2.toNat (Ae TC.group)).1)=false→(0:Int)≤x.2∧x.2 <(↑x.1.length:Int)),((Bc x.1 x.2)=true→(!(D3 x.1 x.2))=true→Aj Try.prog (128:FuncId) (2:Nat)=Aj Try.prog (128:FuncId) (2:Nat)),((Bc x.1 x.2)=true→(!(D3 x.1 x.2))=true→AL E5 E4 Ik (GP (x.1,x.2,(0:Int))) (x.1,x.2,(0:Int)))]
def Ij (x:CA):List Prop:=[((Bc x.1 x.2)=true→(0:Int)≤x.2∧x.2 <(↑x.1.length:Int)),((Bc x.1 x.2)=true→Az (x.1.getD x.2.toNat (Ae TC.group)).1.size),((Bc x.1 x.2)=true→(!IB (x.1.getD x.2.toNat (Ae TC.group)).1)=false→(0:Int)≤x.2∧x.2 <(↑x.1.length:Int)),((Bc x.1 x.2)=true→((x.1.getD x.2.toNat (Ae TC.group)).2 !=(1:Int))=true→(!IB (x.1.getD x.2.toNat (Ae TC.group)).1)=false→(0:Int)≤x.2∧x.2 <(↑x.1.length:Int)),((Bc x.1 x.2)=true→(!(D3 x.1 x.2))=true→AL E5 E4 Ik (GP (x.1,x.2,(0:Int))) (x.1,x.2,(0:Int)))]
def S5 (x:CA):Bl:=[(some 0,some (!decide (x.2 <(↑x.1.length:Int))),⟨56,0,[(2,.dead)],[]⟩),(none,some ((E1 x.1 x.2)),⟨56,0,[(2,.v (.int .i64 (Ke x.1 x.2)))],[]⟩)]
def GO (x:CA):Nat:=((↑x.1.length:Int) - x.2).toNat
def Nu (x:CA):CA:=A9 E3 E2 (GO x) x
set_option maxRecDepth 100000 in
theorem Ayt (a0:List TGroup) (a1:Int):Bx (AA Bg5 MG) 9 (Aj Try.prog 128 0) Aat (MF (a0,a1))=some (U9 (a0,a1),S5 (a0,a1),E2 (a0,a1),MF (E3 (a0,a1))):=by kernel_rfl
set_option maxRecDepth 100000 in
theorem Ayu (a0:List TGroup) (a1:Int) (hp:∀p∈Ij (a0,a1),p):∀p∈U9 (a0,a1),p:=by
 have n0:=N0 hp
 have n1:=N0 (N1 hp)
 have n2:=N0 (N1 (N1 hp))
 have n3:=N0 (N1 (N1 (N1 hp)))
 have n4:((Bc a0 a1)=true→(!(D3 a0 a1))=true→Aj Try.prog (128:FuncId) (2:Nat)=Aj Try.prog (128:FuncId) (2:Nat)):=by intros;rfl
 have n5:=N0 (N1 (N1 (N1 (N1 hp))))
 exact(Aa n0 (Aa n1 (Aa n2 (Aa n3 (Aa n4 (Aa n5 Ab))))))
noncomputable def Va:=HU (AA Bg5 MG) (Aj Try.prog 128 0) Aat A2o Pl GO E3 E2 Ij S5
theorem Asy:∀s b ps outs,Va s=some (b,ps,outs)→Wf s ⟨ps,outs,none⟩∧Bs (AA C0 L0) b s ps outs:=
 Bi (T:=MF) Auj Vb (u:=9) (by kernel_rfl) (by decide) (fun⟨a0,a1⟩=>Ayt a0 a1) (fun⟨a0,a1⟩=>Ayu a0 a1) Amk (fun _=>AR (n:=56) rfl) fun _ _=>rfl
noncomputable def Aas:=DG 0 Va MG
theorem Asw:Hs Aas:=A3 Asy Vb
def XS (a0:List TGroup):Int:=(Nu (a0,(0:Int))).snd
def XR (a0:List TGroup):List TGroup:=(Nu (a0,(0:Int))).fst
def HQ (a0:List TGroup):Bool:=(↑a0.length:Int)==(0:Int)
def IC (a0:List TGroup):Bool:=decide ((↑a0.length:Int) >(4:Int))
def Ms (a0:List TGroup):Int:=bif(HQ a0) then(2:Int) else bif(IC a0) then(3:Int) else bif E1 (XR a0) (XS a0) then Ke (XR a0) (XS a0) else(0:Int)
def Ado (a0:List TGroup):A:=.v (.int .i64 (Ms a0))
def Ayx (_a0:List TGroup):Objs:=[]
def Apq (a0:List TGroup):List Prop:=[((!(HQ a0))=true→(!(IC a0))=true→AL E3 E2 Ij (GO (a0,(0:Int))) (a0,(0:Int)))]
set_option maxRecDepth 100000 in
theorem Bex (a0:List TGroup):EU (AA Bg5 Aas) 9 128 [.sl .group a0] 0 []=some (1,Ado a0,0,Ayx a0,[((!(HQ a0))=true→(!(IC a0))=true→Aj Try.prog (128:FuncId) (0:Nat)=Aj Try.prog (128:FuncId) (0:Nat)),((!(HQ a0))=true→(!(IC a0))=true→AL E3 E2 Ij (GO (a0,(0:Int))) (a0,(0:Int)))]):=by kernel_rfl
set_option maxRecDepth 100000 in
theorem Bi3 (a0:List TGroup) (hp:∀p∈Apq a0,p):CallOk Try.prog 128 [.sl .group a0] 0 [] 1 (Ado a0) 0 (Ayx a0):=by
 have n0:((!(HQ a0))=true→(!(IC a0))=true→Aj Try.prog (128:FuncId) (0:Nat)=Aj Try.prog (128:FuncId) (0:Nat)):=by intros;rfl
 have n1:=N0 hp
 exact AH (Aw Auj Asw) (Bex a0) (Aa n0 (Aa n1 Ab))
def Apr (a0:List TGroup):A:=.v (.int .i64 (AY a0))
def App (_a0:List TGroup):Objs:=[]
def Air (a0:List TGroup):List Prop:=[∀g∈a0,Az g.name.size]
theorem tlb (a b:ByteArray):(a.toList==b.toList)=(a==b):=by
 rw[Bool.eq_iff_iff,A61,beq_iff_eq]
theorem Bn3 (l:List TGroup) (x:ByteArray) (i k:Nat) (hi:i≤l.length) (hk:k≤i) (h1:∀j,j <k→((l.getD j (Ae TC.group)).1==x)=false) (h2:k <i→((l.getD k (Ae TC.group)).1==x)=true):((l.take i).map (·.name)).any (fun s=>s==x)=decide (k <i):=by
 rw[List.any_map]
 by_cases h:k <i
 ·rw[decide_eq_true h]
  refine List.any_eq_true.2 ⟨l.getD k (Ae TC.group),?_,h2 h⟩
  rw[List.getD_eq_getElem?_getD,List.getElem?_eq_getElem (by omega),Option.getD_some]
  exact List.mem_take_iff_getElem.2 ⟨k,by omega,rfl⟩
 ·rw[decide_eq_false h]
  refine Bool.eq_false_iff.2 fun ha=>?_
  obtain⟨g,hg,hx⟩:=List.any_eq_true.1 ha
  obtain⟨j,hj,rfl⟩:=List.mem_take_iff_getElem.1 hg
  have:=h1 j (by omega)
  rw[List.getD_eq_getElem?_getD,List.getElem?_eq_getElem (by omega),Option.getD_some] at this
  have hx':(l[j].1==x)=true:=hx
  rw[this] at hx'
  cases hx'
theorem A46 (l:List TGroup) (hl:l.length≤4) (i:Nat) (hi:i <l.length):
  AL E5 E4 Ik (GP (l,(i:Int),0)) (l,(i:Int),0)∧
  D4 (Gd (l,(i:Int),0)).fst (Gd (l,(i:Int),0)).snd.fst (Gd (l,(i:Int),0)).snd.snd=((l.take i).map (·.name)).any (fun s=>s==(l.getD i (Ae TC.group)).1):=by
 have hk0:∀k:Nat,D4 l (i:Int) (k:Int)=(decide (k <i)&&((l.getD k (Ae TC.group)).1==(l.getD i (Ae TC.group)).1)):=fun k=>by
  unfold D4
  rw[nn,MA,Int.toNat_natCast,Int.toNat_natCast,tlb]
 obtain⟨h1,k,hk,hx,hs,hst⟩:=Bpm (fun k=>((l,(i:Int),(k:Int)):C7)) i (fun k=>(l.getD k (Ae TC.group)).1==(l.getD i (Ae TC.group)).1) E5 E4 Ik (GP (l,(i:Int),0)) (l,(i:Int),0) rfl (by show i≤((i:Int) - 0).toNat;omega)
  (fun k _ _=>by
   show((!!decide ((k:Int) <(i:Int)))&&!D4 l i k)=_
   rw[hk0,nn,MA]
   cases decide (k <i)<;>rfl)
  (fun k hk _=>by
   show(l,(i:Int),IntKind.i64.wrap ((k:Int)+1))=(l,(i:Int),((k+1:Nat):Int))
   rw[ES (by omega)])
  (fun k _ _=>Aa (fun h=>by
    have h':(!!decide ((k:Int) <(i:Int)))=true:=h
    rw[nn] at h'
    have:=of_decide_eq_true h'
    show(0:Int)≤(k:Int)∧(k:Int) <(l.length:Int)
    omega) (Aa (fun _=>by
    show(0:Int)≤(i:Int)∧(i:Int) <(l.length:Int)
    omega) Ab))
 refine⟨h1,?_⟩
 have hr:Gd (l,(i:Int),0)=(l,(i:Int),(k:Int)):=hx
 rw[hr]
 show D4 l (i:Int) (k:Int)=_
 rw[hk0,Bn3 l _ i k (by omega) hk hs hst]
 by_cases h:k <i
 ·rw[hst h,Bool.and_true]
 ·rw[decide_eq_false h,Bool.false_and]
theorem Apo (l:List TGroup) (hb:∀g∈l,Az g.name.size):(∀p∈Apq l,p)∧Ms l=AY l:=by
 have main:HQ l=false→IC l=false→AL E3 E2 Ij (GO (l,0)) (l,0)∧Ms l=AY l:=fun h1 h0=>by
  have hn4:l.length≤4:=by have h:=of_decide_eq_false h0;omega
  have hf1:∀i:Nat,D3 l (i:Int)=!(IB (l.getD i (Ae TC.group)).1&&Pa (l.getD i (Ae TC.group)).2):=fun i=>by
   unfold D3 Pa
   rw[Int.toNat_natCast,Bool.not_and]
   congr 1
   simp[bne]
  have hk0:∀i:Nat,E1 l (i:Int)=(decide (i <l.length)&&VJ l i):=fun i=>by
   unfold E1 Bc
   rw[hf1,nn,MA]
   by_cases hi:i <l.length
   ·rw[(A46 l hn4 i hi).2];rfl
   ·rw[decide_eq_false hi];rfl
  obtain⟨g1,k,hk,hx,hs,hst⟩:=Bpm (fun i=>((l,(i:Int)):CA)) l.length (VJ l) E3 E2 Ij (GO (l,0)) ((l,0):CA) rfl
   (by show l.length≤((l.length:Int) - 0).toNat;omega)
   (fun i hi hs=>by
    show((!!decide ((i:Int) <(l.length:Int)))&&!E1 l (i:Int))=_
    rw[hk0 i,nn,MA]
    cases decide (i <l.length)<;>rfl)
   (fun i hi hs=>by
    show(l,IntKind.i64.wrap ((i:Int)+1))=(l,((i+1:Nat):Int))
    rw[ES (by omega)])
   (fun i hi hs=>by
    have hlt:(!!decide ((i:Int) <(l.length:Int)))=true→i <l.length:=fun h=>by
     rw[nn] at h
     have:=of_decide_eq_true h
     omega
    have hin:(!!decide ((i:Int) <(l.length:Int)))=true→(0:Int)≤(i:Int)∧(i:Int) <(l.length:Int):=fun h=>by
     have:=hlt h
     omega
    exact Aa hin (Aa (fun h=>by
     have:=hlt h
     show Az (l.getD i (Ae TC.group)).1.size
     rw[List.getD_eq_getElem?_getD,List.getElem?_eq_getElem this,Option.getD_some]
     exact hb _ (List.getElem_mem this)) (Aa (fun h _=>hin h) (Aa (fun h _ _=>hin h) (Aa (fun h _=>(A46 l hn4 i (hlt h)).1) Ab)))))
  refine⟨g1,?_⟩
  have hr:Nu (l,0)=(l,(k:Int)):=hx
  unfold Ms XS XR
  rw[hr,h1,h0,cond_false,cond_false]
  show(bif E1 l (k:Int) then Ke l (k:Int) else 0)=_
  rw[hk0 k]
  have e1:(l.length==0)=false:=by rw[←Ave];exact h1
  have e2:decide (4 <l.length)=false:=decide_eq_false (by omega)
  unfold AY
  rw[e1,e2,cond_false,cond_false,A4m l k [] (fun j hj hl=>by
   have:=hs j hj
   unfold VJ at this
   obtain⟨q1,q2⟩:=Bool.or_eq_false_iff.1 this
   exact⟨by rw[Bool.not_eq_false'] at q1;exact q1,by simpa using q2⟩),List.nil_append]
  by_cases hkl:k <l.length
  ·have hst':=hst hkl
   rw[hst',decide_eq_true hkl,Bool.and_true,cond_true]
   have hd:l.drop k=l.getD k (Ae TC.group)::l.drop (k+1):=by
    rw[List.getD_eq_getElem?_getD,List.getElem?_eq_getElem hkl,Option.getD_some]
    exact List.drop_eq_getElem_cons hkl
   rw[hd]
   unfold Q8 Ke
   rw[hf1]
   unfold VJ at hst'
   show(bif !(IB (l.getD k (Ae TC.group)).1&&Pa (l.getD k (Ae TC.group)).2) then(2:Int) else 70)=bif !(IB (l.getD k (Ae TC.group)).1&&Pa (l.getD k (Ae TC.group)).2) then 2 else _
   cases hq:!(IB (l.getD k (Ae TC.group)).1&&Pa (l.getD k (Ae TC.group)).2) with
   |true=>rfl
   |false=>
    rw[hq,Bool.false_or] at hst'
    have hst2:((l.take k).map (·.name)).any (fun s=>s==(l.getD k (Ae TC.group)).name)=true:=hst'
    rw[cond_false,cond_false,hst2]
    rfl
  ·rw[decide_eq_false hkl,Bool.false_and,cond_false,List.drop_eq_nil_of_le (by omega)]
   rfl
 cases h1:HQ l with
 |true=>
  refine⟨Aa (fun h=>by rw[h1] at h;cases h) Ab,?_⟩
  unfold Ms AY
  rw[h1,cond_true,←Ave]
  unfold HQ at h1
  rw[h1]
  rfl
 | false=>
  cases h0:IC l with
  |true=>
   refine⟨Aa (fun _ h=>by rw[h0] at h;cases h) Ab,?_⟩
   unfold Ms AY
   rw[h1,h0,cond_false,cond_true,←Ave]
   unfold HQ at h1
   rw[h1,cond_false,←dgt l.length 4]
   unfold IC at h0
   rw[show(decide ((l.length:Int) >((4:Nat):Int)))=true from h0]
   rfl
  |false=>
   obtain⟨g1,g2⟩:=main h1 h0
   exact⟨Aa (fun _ _=>g1) Ab,g2⟩
theorem Bew (a0:List TGroup) (hp:∀p∈Air a0,p):CallOk Try.prog 128 [.sl .group a0] 0 [] 1 (Apr a0) 0 (App a0):=by
 have hb:∀g∈a0,Az g.name.size:=hp _ (List.mem_cons_self ..)
 have h:=Bi3 a0 (Apo a0 hb).1
 unfold Ado at h
 rw[(Apo a0 hb).2] at h
 exact h
def Adp:List A→Nat→Objs→Option A8
 | [y0],nx,o=>match Kp .group y0 with
  |some a0=>some (1,(Apr a0).pk (AF nx),nx+0,AE nx (App a0)++o,Air a0)
  |_=>none
 |_,_,_=>none
theorem A8z:Fu Try.prog 128 Adp:=fun args nx o k x nx' o' ps h=>by
 unfold Adp at h
 split at h<;>first|(cases h;done)|skip
 split at h<;>first|(cases h;done)|skip
 rename_i a0 e0
 cases h
 refine⟨fun hp=>?_,_,rfl⟩
 refine Ah (Ag (Bew a0 hp) (Nat.le_refl _) (Ac rfl Ao) nx o) fun F N R vs hl=>?_
 obtain⟨v0,w0,rfl,h0,hl⟩:=hl.inv
 exact HL.cons (Cx e0 h0) (hl)
noncomputable def B1y:=A5 128 Adp Bg5
theorem Bv0:Df Try.prog B1y:=Av A8z Auj
noncomputable def Ch:=B1y
theorem B1z:Df Try.prog Ch:=Bv0
end Go.Proofs.Yteebobbhhgmeiaa
namespace Go.Proofs.Yteebobbhhgmeiaa
open Go.RowKit Go.Shelf
attribute [local go_sem] Oper.semAt_some
def gV (g:TGroup):Value:=.agg #[.string g.name,.int .i64 g.policy]
def cV (c:TCell):Value:=.agg #[.int .i64 c.stamp.n,.int .i64 c.stamp.site,.int .i64 c.vec.a,.int .i64 c.vec.b,.bool c.gone,.string c.value,.int .i64 c.dead.a,.int .i64 c.dead.b]
structure KB (n₀ X:Nat) (W W':World):Prop where
 os:W'.os=W.os
 tape:W'.tape=W.tape
 output:W'.output=W.output
 size:W.heap.size≤W'.heap.size
 block:∀k,k <n₀→k≠X→W'.heap[k]?=W.heap[k]?
theorem KB.refl (n₀ X:Nat) (W:World):KB n₀ X W W:=⟨rfl,rfl,rfl,Nat.le_refl _,fun _ _ _=>rfl⟩
theorem KB.trans {n₀ X:Nat} {A B C:World} (h:KB n₀ X A B) (k:KB n₀ X B C):KB n₀ X A C:=
 ⟨k.os.trans h.os,k.tape.trans h.tape,k.output.trans h.output,Nat.le_trans h.size k.size,fun i h1 h2=>(k.block i h1 h2).trans (h.block i h1 h2)⟩
theorem KB.of_below {n₀ X:Nat} {A B:World} (h:Below n₀ A B):KB n₀ X A B:=⟨h.os,h.tape,h.output,h.size,fun k hk _=>h.block k hk⟩
theorem KB.cell {n₀ X:Nat} {A B:World} {p:Addr} (h:KB n₀ X A B) (hp:p.block <n₀) (hx:p.block≠X):B.cell? p=A.cell? p:=World.cell?_of_block (h.block _ hp hx)
theorem KB.putObj {n₀ X:Nat} {w:World} (hn:n₀≤w.heap.size) (W:World) (l:Nat) (o o':Obj) (hl:w.heap.size≤l) (h:W.heap[l]?=some o) (h1:o.isCells=false) (h2:o.isWalk=false):KB n₀ X W (W.putObj l o'):=
 KB.of_below (belowK_b hn W l o o' hl h h1 h2)
def GsAt (n₀ X:Nat) (W:World) (b off:Nat) (l:List TGroup):Prop:=(b <n₀∧b≠X)∧∀j g,l[j]?=some g→W.cell? ⟨b,off+j*2,none⟩=some (.string g.name)∧W.cell? ⟨b,off+j*2+1,none⟩=some (.int .i64 g.policy)
def CsAt (n₀ X:Nat) (W:World) (b off:Nat) (l:List TCell):Prop:=(b <n₀∧b≠X)∧∀j c,l[j]?=some c→W.cell? ⟨b,off+j*8,none⟩=some (.int .i64 c.stamp.n)∧W.cell? ⟨b,off+j*8+1,none⟩=some (.int .i64 c.stamp.site)∧W.cell? ⟨b,off+j*8+2,none⟩=some (.int .i64 c.vec.a)∧W.cell? ⟨b,off+j*8+3,none⟩=some (.int .i64 c.vec.b)∧W.cell? ⟨b,off+j*8+4,none⟩=some (.bool c.gone)∧W.cell? ⟨b,off+j*8+5,none⟩=some (.string c.value)∧W.cell? ⟨b,off+j*8+6,none⟩=some (.int .i64 c.dead.a)∧W.cell? ⟨b,off+j*8+7,none⟩=some (.int .i64 c.dead.b)
theorem GsAt.kept {n₀ X:Nat} {W W':World} {b off:Nat} {l:List TGroup} (h:GsAt n₀ X W b off l) (hb:KB n₀ X W W'):GsAt n₀ X W' b off l:=
 ⟨h.1,fun j g hg=>⟨(hb.cell (p:=⟨b,_,none⟩) h.1.1 h.1.2).trans (h.2 j g hg).1,(hb.cell (p:=⟨b,_,none⟩) h.1.1 h.1.2).trans (h.2 j g hg).2⟩⟩
theorem CsAt.kept {n₀ X:Nat} {W W':World} {b off:Nat} {l:List TCell} (h:CsAt n₀ X W b off l) (hb:KB n₀ X W W'):CsAt n₀ X W' b off l:=by
 refine⟨h.1,fun j c hc=>?_⟩
 obtain⟨h0,h1,h2,h3,h4,h5,h6,h7⟩:=h.2 j c hc
 have k:∀o,W'.cell? ⟨b,o,none⟩=W.cell? ⟨b,o,none⟩:=fun o=>hb.cell (p:=⟨b,o,none⟩) h.1.1 h.1.2
 exact⟨(k _).trans h0,(k _).trans h1,(k _).trans h2,(k _).trans h3,(k _).trans h4,(k _).trans h5,(k _).trans h6,(k _).trans h7⟩
theorem Bh4 {W W':World} (h:Below W.heap.size W W'):W.grownBy W' none:=⟨h.os,h.tape,h.output,h.size,fun k hk _=>h.block k hk⟩
def Bsd (x:TGroup×TCell):Array Value:=#[gV x.1,cV x.2]
theorem Bvw {α β:Type} (l:List α) (r:List β) (k:Nat) (x:α) (y:β) (hx:l[k]?=some x) (hy:r[k]?=some y):(l.zip r).take (k+1)=(l.zip r).take k++[(x,y)]:=by
 rw[List.take_add_one,(List.getElem?_zip_eq_some (z:=(x,y))).2 ⟨hx,hy⟩]
 rfl
set_option maxRecDepth 100000 in
set_option maxHeartbeats 4000000 in
theorem Bo0 (n:Nat) (hn:1≤n) (l B2 B3 n₀ b off cap b' off' cap' X:Nat) (gs:List TGroup) (cs:List TCell) (hlen:cs.length=gs.length) (hl4:gs.length≤4)
    (J Jx:List (TGroup×TCell)→World→Prop) (n1:Nat) (hn1:n₀≤n1)
    (hJa:AbidesFrom n1 J)
    (hY:∀pre x W,J pre W→pre.length <gs.length→YieldAt Fence.wide (n - 1) Try.prog l (Bsd x) W fun e W'=>
      (e=.returned (.bool true)∧J (pre++[x]) W'∧KB n₀ X W W')∨(e=.returned (.bool false)∧Jx (pre++[x]) W'))
    (W:World) (hW1:n1=W.heap.size) (h2:W.cell? ⟨B2,0,none⟩=some (.slice (some ⟨b,off,none⟩) gs.length cap)) (h3:W.cell? ⟨B3,1,none⟩=some (.slice (some ⟨b',off',none⟩) cs.length cap')) (hB2:B2 <n₀∧B2≠X) (hB3:B3 <n₀∧B3≠X)
    (hg:GsAt n₀ X W b off gs) (hc:CsAt n₀ X W b' off' cs) (h0:J [] W):
    CallsIn Fence.wide n Try.prog 165 #[.func (.yield l) #[] #[],.pointer (some ⟨B2,0,none⟩),.pointer (some ⟨B3,0,none⟩)] W fun e W'=>(∃v,e=.returned v)∧
      ((∃ys,ys=gs.zip cs∧J ys W')∨(∃pre,(∃k,k≤gs.length∧pre=(gs.zip cs).take k)∧Jx pre W')):=by
  refine callsIn_of_wp Try.func165 rfl trivial ?_ rfl
  simp only[Try.ntmps165,List.size_toArray,List.length_cons,List.length_nil,Nat.reduceAdd,Nat.reduceSub,Array.replicate_succ,Array.replicate_zero,List.push_toArray,List.append_toArray,List.nil_append,List.cons_append]
  gi_wp2
  gi_loopw [8] (fun i wr=>∃k:Nat,k≤gs.length∧i=.int .i64 k∧J ((gs.zip cs).take k) wr∧KB n₀ X W wr∧W.heap.size≤wr.heap.size) (fun i _=>gs.length - (intOf i).toNat)
  case atStart=>exact⟨0,Nat.zero_le _,rfl,h0,KB.refl _ _ _,Nat.le_refl _⟩
  case round=>
    obtain⟨k,hk,rfl,hJs,hnx,hsz⟩:=hrel
    by_cases hlt:k <gs.length
    · have hlt':k <cs.length:=by omega
      obtain⟨hg1,hg2⟩:=(hg.kept hnx).2 k gs[k] (List.getElem?_eq_getElem hlt)
      have h2':=(hnx.cell (p:=⟨B2,0,none⟩) hB2.1 hB2.2).trans h2
      gi_wp2
      have hb3:Below wr.heap.size wr (wr.alloc (.cells #[.string gs[k].name,.int .i64 gs[k].policy] 79)):=(Below.refl _ wr).alloc (Nat.le_refl _) _
      have hv:wr.heap.size=wr.heap.size:=rfl
      have hn:=World.alloc_heap_new wr (.cells #[.string gs[k].name,.int .i64 gs[k].policy] 79)
      generalize wr.alloc (.cells #[.string gs[k].name,.int .i64 gs[k].policy] 79)=W3 at hb3 hn⊢
      have hb4:KB n₀ X wr W3:=KB.of_below (hb3.mono (Nat.le_trans hn1 (by rw[hW1];exact hsz)))
      have hb5:KB n₀ X W3 W3.drew:=KB.of_below ((Below.refl _ W3).drew)
      obtain⟨hc0,hc1,hc2,hc3,hc4,hc5,hc6,hc7⟩:=((hc.kept hnx).kept hb4).2 k cs[k] (List.getElem?_eq_getElem hlt')
      have h3':=((hnx.trans hb4).cell (p:=⟨B3,1,none⟩) hB3.1 hB3.2).trans h3
      have hz:((gs.zip cs).take k).length <gs.length:=by rw[List.length_take,List.length_zip];omega
      have hJ3:J ((gs.zip cs).take k) W3.drew:=hJa _ wr _ none hJs (Bh4 hb3.drew) (fun r e=>by cases e)
      obtain⟨fn,tmps,assign,body,hy,hR⟩:=hY _ (gs[k],cs[k]) _ hJ3 hz
      have hR2:RoundIn Fence.wide (n - 1) Try.prog l fn tmps assign body W3.drew fun e W'=>∃q:Bool,e=.returned (.bool q)∧(q=true→J ((gs.zip cs).take (k+1)) W'∧KB n₀ X wr W')∧(q=false→Jx ((gs.zip cs).take (k+1)) W'):=by
        refine hR.mono ?_
        rw[←Bvw gs cs k gs[k] cs[k] (List.getElem?_eq_getElem hlt) (List.getElem?_eq_getElem hlt')]
        rintro e W' (⟨rfl,h1,h2⟩|⟨rfl,h1⟩)
        ·exact⟨true,rfl,⟨fun _=>⟨h1,(hb4.trans hb5).trans h2⟩,fun h=>by cases h⟩⟩
        ·exact⟨false,rfl,⟨fun h=>(by cases h),fun _=>h1⟩⟩
      clear hR
      have hm:Try.prog.follows .mixedOrders=true:=by kernel_rfl
      dsimp only[Bsd,gV,cV] at hy
      obtain⟨hn0,hn1'⟩:=cb2 hn
      gi_region_with_o (refine hR2.mono ?_;rintro e W4 ⟨q,rfl,hq1,hq2⟩)
      all_goals (cases q)
      all_goals gi_wp2
      all_goals first
        |(refine bodyPost_ret (results_none rfl _ _ _) rfl ?_;exact⟨⟨_,rfl⟩,.inr ⟨_,⟨k+1,by omega,rfl⟩,hq2 (by trivial)⟩⟩)
        | (obtain⟨q1,q2⟩:=hq1 (by trivial)
           exact⟨⟨k+1,by omega,rfl,q1,hnx.trans q2,Nat.le_trans hsz q2.size⟩,by simp[intOf];omega⟩)
    · obtain rfl:k=gs.length:=by omega
      gi_wp2
      go_end0
      exact⟨⟨_,rfl⟩,.inl ⟨_,rfl,by rw[List.take_of_length_le (by rw[List.length_zip];omega)] at hJs;exact hJs⟩⟩
set_option maxHeartbeats 1000000 in
theorem Bel (n:Nat) (a:Option Addr) (len cap:Nat) (v1:Value) (key:ByteArray) (w:World):
  CallsIn Fence.wide n Try.prog 132 #[.slice a len cap,.agg #[.string key,v1]] w fun e w'=>e=.returned (.func (.func 165) #[] #[.pointer (some ⟨w.heap.size,0,none⟩),.pointer (some ⟨w.heap.size+1,0,none⟩)])∧w'=(w.alloc (.cells #[.slice a len cap] 66)).alloc (.cells #[.string key,v1] 71):=by
 refine callsIn_of_wp Try.func132 rfl trivial ?_ rfl
 simp only[Try.ntmps132,List.size_toArray,List.length_cons,List.length_nil,Nat.reduceAdd,Nat.reduceSub,Array.replicate_succ,Array.replicate_zero,List.push_toArray,List.append_toArray,List.nil_append,List.cons_append]
 gi_wp2
 go_ret
 exact⟨rfl,rfl⟩
theorem Apg (n:Nat) (hn:1≤n) (B2 B3 n₀ X b off cap b' off' cap':Nat) (gs:List TGroup) (cs:List TCell) (hlen:cs.length=gs.length) (hl4:gs.length≤4) (w:World) (hn₀:n₀≤w.heap.size)
  (h2:w.cell? ⟨B2,0,none⟩=some (.slice (some ⟨b,off,none⟩) gs.length cap)) (h3:w.cell? ⟨B3,1,none⟩=some (.slice (some ⟨b',off',none⟩) cs.length cap')) (hB2:B2 <n₀∧B2≠X) (hB3:B3 <n₀∧B3≠X)
  (hg:GsAt n₀ X w b off gs) (hc:CsAt n₀ X w b' off' cs):
  SeqStopsK Fence.wide n Try.prog 165 #[.pointer (some ⟨B2,0,none⟩),.pointer (some ⟨B3,0,none⟩)] Bsd (KB n₀ X) (fun ys=>ys=gs.zip cs) (fun pre=>∃k,k≤gs.length∧pre=(gs.zip cs).take k) gs.length w:=fun l J Jx W hW hJ _ hY h0=>by
 have hk:KB n₀ X w W:=KB.of_below (hW.mono hn₀)
 exact Bo0 n hn l B2 B3 n₀ b off cap b' off' cap' X gs cs hlen hl4 J Jx W.heap.size (Nat.le_trans hn₀ hW.size) hJ hY W rfl ((hk.cell (p:=⟨B2,0,none⟩) hB2.1 hB2.2).trans h2) ((hk.cell (p:=⟨B3,1,none⟩) hB3.1 hB3.2).trans h3) hB2 hB3 (hg.kept hk) (hc.kept hk) h0
def Sk (p:Int) (G:Int→TCell→Bool) (gs:List TGroup) (key:ByteArray) (cs:List TCell):Int:=
 if(p !=0)=true then p else if key.toList.isEmpty=true then 2 else if 32 <(key.size:Int) then 3 else if((cs.length:Int) !=(gs.length:Int))=true then 100 else bif(gs.zip cs).all (fun x=>G x.1.policy x.2) then 0 else 80
theorem YR {β:Type} (B:Nat) (cs:Array Value) (t:TypeId):Own (fun(_:β) W=>W.heap[B]?=some (.cells cs t (0,0))):=fun s W W' row hs hg hr=>by
 refine(hg.block B (H8 hs) fun e=>?_).trans hs
 obtain⟨o,h1,h2⟩:=hr B e.symm
 rw[hs] at h1
 cases h1
 cases h2
theorem IW (B:Nat) {W W':World} (h:Below W.heap.size W W'):KeepsFrom B W W':=⟨h.size,fun k _ _ hk _=>(h.block k (H8 hk)).trans hk⟩
theorem Uf {β:Type} (B n:Nat):OwnFrom B (fun(_:β) W=>n≤W.heap.size):=fun _ _ _ _ hs hg _=>Nat.le_trans hs hg.size
set_option maxRecDepth 100000 in
set_option maxHeartbeats 4000000 in
theorem Bf1 (w:World) (a0 a1:Option Addr) (gs:List TGroup) (cs:List TCell) (key:ByteArray) (cap0 cap1:Nat) (p:Int) (G:Int→TCell→Bool)
    (hP:∀W,Below w.heap.size w W→Calls Try.prog 131 #[.slice a0 gs.length cap0] W fun e W'=>e=.returned (.int .i64 p)∧Below W.heap.size W W')
    (hp0:p=0→1≤gs.length∧gs.length≤4)
    (hC:∀(q:Int) (c:TCell) W,Calls Try.prog 38 #[.int .i64 q,cV c] W fun e W'=>e=.returned (.bool (G q c))∧Below W.heap.size W W')
    (hG:0 <gs.length→∃b off,a0=some ⟨b,off,none⟩∧GsAt w.heap.size w.heap.size w b off gs)
    (hS:0 <cs.length→∃b off,a1=some ⟨b,off,none⟩∧CsAt w.heap.size w.heap.size w b off cs):
    Calls Try.prog 65 #[.slice a0 gs.length cap0,.agg #[.string key,.slice a1 cs.length cap1]] w fun e W'=>e=.returned (.int .i64 (Sk p G gs key cs))∧Below w.heap.size w W':=by
  refine(callsIn_wide (n:=5)).1 ?_
  refine callsIn_of_wp_marks Try.func65 rfl trivial ?_ rfl
  simp only[Try.ntmps65,List.size_toArray,List.length_cons,List.length_nil,Nat.reduceAdd,Nat.reduceSub,Array.replicate_succ,Array.replicate_zero,List.push_toArray,List.append_toArray,List.nil_append,List.cons_append]
  have hw2:Below w.heap.size w ((w.alloc (.cells #[.string key,.slice a1 cs.length cap1] 71)).alloc (.cells #[.int .i64 0] 26)):=((Below.refl _ w).alloc (Nat.le_refl _) _).alloc (by simp) _
  have hr1:=Oh (.cells #[.int .i64 0] 26) (Hu (w:=w) (.cells #[.string key,.slice a1 cs.length cap1] 71) rfl)
  have hr2:=Hu (w:=w.alloc (.cells #[.string key,.slice a1 cs.length cap1] 71)) (.cells #[.int .i64 0] 26) (n:=w.heap.size+1) (by simp)
  gi_wp2_with (first
    |(refine⟨trivial,?_⟩;gi_at_call 131;refine(callsIn_wide.2 (hP _ hw2)).mono ?_;rintro e W1 ⟨rfl,hb1⟩;have hx1:=Fw hr1 hb1;have hx2:=Fw hr2 hb1;obtain⟨c0,c1⟩:=cb2 hx1;have d0:=cb1 hx2;have f0:=fb1 hx2;have hB1:Below w.heap.size w W1:=hw2.trans (hb1.mono (by simp;omega));clear hr1 hr2 hb1)
    |(refine⟨trivial,?_⟩;gi_at_call 132;refine(Bel _ _ _ _ _ _ _).mono ?_;rintro e W2 ⟨rfl,rfl⟩))
  · have h1:(p !=0)=true:=by assumption
    have e:Sk p G gs key cs=p:=by unfold Sk;rw[if_pos h1]
    have hc:=cb1 (PK (i:=0) hx2 (.int .i64 p))
    exact⟨.int .i64 p,by simp[results,Try.f65,go_sem,hc],by rw[e],hB1.setCell (p:=⟨w.heap.size+1,0,none⟩) (by simp) _⟩
  · have h1:(p !=0)=false:=by assumption
    have h2:key.toList.isEmpty=true:=by assumption
    have e:Sk p G gs key cs=2:=by unfold Sk;rw[if_neg (by rw[h1];simp),if_pos h2]
    have hc:=cb1 (PK (i:=0) hx2 (.int .i64 2))
    exact⟨.int .i64 2,by simp[results,Try.f65,go_sem,hc],by rw[e],hB1.setCell (p:=⟨w.heap.size+1,0,none⟩) (by simp) _⟩
  · have h1:(p !=0)=false:=by assumption
    have h2:key.toList.isEmpty=false:=by assumption
    have h3:32 <(key.size:Int):=by assumption
    have e:Sk p G gs key cs=3:=by unfold Sk;rw[if_neg (by rw[h1];simp),if_neg (by rw[h2];simp),if_pos h3]
    have hc:=cb1 (PK (i:=0) hx2 (.int .i64 3))
    exact⟨.int .i64 3,by simp[results,Try.f65,go_sem,hc],by rw[e],hB1.setCell (p:=⟨w.heap.size+1,0,none⟩) (by simp) _⟩
  · have h1:(p !=0)=false:=by assumption
    have h2:key.toList.isEmpty=false:=by assumption
    have h3:(key.size:Int)≤32:=by assumption
    have h4:((cs.length:Int) !=(gs.length:Int))=true:=by assumption
    have e:Sk p G gs key cs=100:=by unfold Sk;rw[if_neg (by rw[h1];simp),if_neg (by rw[h2];simp),if_neg (by omega),if_pos h4]
    have hc:=cb1 (PK (i:=0) hx2 (.int .i64 100))
    exact⟨.int .i64 100,by simp[results,Try.f65,go_sem,hc],by rw[e],hB1.setCell (p:=⟨w.heap.size+1,0,none⟩) (by simp) _⟩
  have h1:(p !=0)=false:=by assumption
  have h2:key.toList.isEmpty=false:=by assumption
  have h3:(key.size:Int)≤32:=by assumption
  have h4:((cs.length:Int) !=(gs.length:Int))=false:=by assumption
  have e:Sk p G gs key cs=bif(gs.zip cs).all (fun x=>G x.1.policy x.2) then 0 else 80:=by unfold Sk;rw[if_neg (by rw[h1];simp),if_neg (by rw[h2];simp),if_neg (by omega),if_neg (by rw[h4];simp)]
  have hp:p=0:=by simpa using h1
  clear h1
  subst hp
  have hlen : cs.length = gs.length := by have:(cs.length:Int)=gs.length:=by simpa using h4
                                          omega
  obtain⟨hl1,hl4⟩:=hp0 rfl
  obtain⟨b,off,rfl,hg⟩:=hG (by omega)
  obtain⟨b',off',rfl,hc⟩:=hS (by omega)
  have hW2:Below W1.heap.size W1 ((W1.alloc (.cells #[.slice (some ⟨b,off,none⟩) gs.length cap0] 66)).alloc (.cells #[.string key,.slice (some ⟨b',off',none⟩) cs.length cap1] 71)):=((Below.refl _ W1).alloc (Nat.le_refl _) _).alloc (by simp) _
  have hy2:=Oh (.cells #[.string key,.slice (some ⟨b',off',none⟩) cs.length cap1] 71) (Hu (w:=W1) (.cells #[.slice (some ⟨b,off,none⟩) gs.length cap0] 66) rfl)
  have hy3:=Hu (w:=W1.alloc (.cells #[.slice (some ⟨b,off,none⟩) gs.length cap0] 66)) (.cells #[.string key,.slice (some ⟨b',off',none⟩) cs.length cap1] 71) (n:=W1.heap.size+1) (by simp)
  have hz2:=Fw hx2 hW2
  have hs1:=H8 hx2
  have hs2:=H8 hy3
  have hB2:=hB1.trans (hW2.mono hB1.size)
  generalize (W1.alloc (.cells #[.slice (some ⟨b,off,none⟩) gs.length cap0] 66)).alloc (.cells #[.string key,.slice (some ⟨b',off',none⟩) cs.length cap1] 71)=W2 at hW2 hy2 hy3 hz2 hs2 hB2⊢
  have hg2:GsAt W2.heap.size W2.heap.size W2 b off gs:=⟨⟨by have:=hg.1.1;omega,by have:=hg.1.1;omega⟩,fun j g hj=>⟨(hB2.cell (p:=⟨b,_,none⟩) hg.1.1).trans (hg.2 j g hj).1,(hB2.cell (p:=⟨b,_,none⟩) hg.1.1).trans (hg.2 j g hj).2⟩⟩
  have hc2:CsAt W2.heap.size W2.heap.size W2 b' off' cs:=by
    refine⟨⟨by have:=hc.1.1;omega,by have:=hc.1.1;omega⟩,fun j c hj=>?_⟩
    have k:∀o,W2.cell? ⟨b',o,none⟩=w.cell? ⟨b',o,none⟩:=fun o=>hB2.cell (p:=⟨b',o,none⟩) hc.1.1
    simp only[k]
    exact hc.2 j c hj
  refine wpIn_rangeFunc_ownH (F:=Fence.wide) rfl (by omega) (gf:=165) (lb:=#[.pointer (some ⟨W1.heap.size,0,none⟩),.pointer (some ⟨W1.heap.size+1,0,none⟩)]) rfl trivial (enters_of Try.func165 (by kernel_rfl) rfl)
    (Apg _ (by omega) W1.heap.size (W1.heap.size+1) W2.heap.size W2.heap.size b off cap0 b' off' cap1 gs cs hlen hl4 W2 (Nat.le_refl _) (cb1 hy2) (cb2 hy3).2 ⟨by omega,by omega⟩ ⟨by omega,by omega⟩ hg2 hc2)
    KB.trans (KB.putObj (Nat.le_refl _)) (Below.refl _ _) (fun _=>rfl)
    (fun pre W=>((∀x∈pre,G x.1.policy x.2=true)∧W.heap[w.heap.size+1]?=some (.cells #[.int .i64 0] 26 (0,0)))∧Below w.heap.size w W∧W2.heap.size≤W.heap.size)
    (fun c pre W=>((c=.ret∧∃x∈pre,G x.1.policy x.2=false)∧W.heap[w.heap.size+1]?=some (.cells #[.int .i64 80] 26 (0,0)))∧Below w.heap.size w W∧W2.heap.size≤W.heap.size)
    (OwnFrom.and (OwnFrom.and (ownFrom_pure _ _) (Own.from (YR _ _ _) _)) (OwnFrom.and (ownFrom_below (Nat.le_refl _) hB2.size) (Uf _ _)))
    (fun c=>OwnFrom.and (OwnFrom.and (ownFrom_pure _ _) (Own.from (YR _ _ _) _)) (OwnFrom.and (ownFrom_below (Nat.le_refl _) hB2.size) (Uf _ _)))
    ⟨⟨by simp,hz2⟩,hB2,Nat.le_refl _⟩
    (fun x a' W=>(∃B6 B7,a'={tmps:=#[Value.slice (some ⟨b,off,none⟩) gs.length cap0,Value.agg #[Value.string key,Value.slice (some ⟨b',off',none⟩) cs.length cap1],undef,
          Value.pointer (some {block:=w.heap.size,off:=0}),
          Value.pointer (some {block:=w.heap.size+1,off:=0}),Value.int IntKind.i64 0,Value.pointer (some ⟨B6,0,none⟩),Value.pointer (some ⟨B7,0,none⟩),
          Value.slice (some ⟨b,off,none⟩) gs.length cap0,Value.int IntKind.i64 0,Value.int IntKind.i64 0,Value.bool false,undef,
          Value.bool false,Value.pointer (some {block:=w.heap.size,off:=0}),Value.string key,Value.bool false,
          Value.bool (decide (32 <(key.size:Int))),Value.pointer (some {block:=w.heap.size,off:=0}),
          Value.string key,Value.int IntKind.i64 key.size,Value.bool (decide (32 <(key.size:Int))),Value.bool false,
          Value.pointer (some {block:=w.heap.size,off:=1}),Value.slice (some ⟨b',off',none⟩) cs.length cap1,
          Value.int IntKind.i64 cs.length,Value.slice (some ⟨b,off,none⟩) gs.length cap0,Value.int IntKind.i64 gs.length,
          Value.bool false,Value.slice (some ⟨b,off,none⟩) gs.length cap0,Value.agg #[Value.string key,Value.slice (some ⟨b',off',none⟩) cs.length cap1],
          Value.func (Fn.func 165) #[] #[Value.pointer (some {block:=W1.heap.size,off:=0}),Value.pointer (some {block:=W1.heap.size+1,off:=0})],
          gV x.1,cV x.2,undef,undef,undef,undef,undef],defers:=[]}∧
        (W.heap[B6]?=some (.cells #[.string x.1.name,.int .i64 x.1.policy] 79 (0,0))∧W.heap[B7]?=some (.cells #[.int .i64 x.2.stamp.n,.int .i64 x.2.stamp.site,.int .i64 x.2.vec.a,.int .i64 x.2.vec.b,.bool x.2.gone,.string x.2.value,.int .i64 x.2.dead.a,.int .i64 x.2.dead.b] 55 (0,0)))))
    (fun x a'=>Own.from (fun s X Y row hs hgr hr=>by
      obtain⟨B6,B7,e1,e2,e3⟩:=hs
      exact⟨B6,B7,e1,YR B6 _ _ s X Y row e2 hgr hr,YR B7 _ _ s X Y row e3 hgr hr⟩) _) ?assign ?body ?done ?stop
  case assign=>
    rintro l pre x W K ⟨⟨i1,i2⟩,i3,i4⟩ hK
    clear hlen h4
    dsimp only[Bsd,gV,cV] at hK⊢
    gi_wp2
    have hb:Below W.heap.size W ((W.alloc (.cells #[.string x.1.name,.int .i64 x.1.policy] 79)).alloc (.cells #[.int .i64 x.2.stamp.n,.int .i64 x.2.stamp.site,.int .i64 x.2.vec.a,.int .i64 x.2.vec.b,.bool x.2.gone,.string x.2.value,.int .i64 x.2.dead.a,.int .i64 x.2.dead.b] 55)):=((Below.refl _ W).alloc (Nat.le_refl _) _).alloc (by simp) _
    exact hK _ _ (IW _ hb) (KB.of_below (hb.mono i4)) ⟨⟨i1,Fw i2 hb⟩,i3.trans (hb.mono i3.size),Nat.le_trans i4 hb.size⟩ ⟨W.heap.size,W.heap.size+1,rfl,Oh _ (Hu _ rfl),Hu _ (by simp)⟩
  case body=>
    rintro l pre x a' W hl hr ⟨⟨i1,i2⟩,i3,i5⟩ ⟨B6,B7,rfl,e6,e7⟩ hlt
    obtain⟨k0,k1⟩:=cb2 e6
    obtain⟨m0,m1,m2,m3,m4,m5,m6,m7⟩:=cb8 e7
    have d0:=cb1 i2
    have f0:=fb1 i2
    cases hGx:G x.1.policy x.2 with
    | true=>
      gi_wp2_with (refine⟨trivial,?_⟩;gi_at_call 38;refine(CallsIn.inRound l (callsIn_wide.2 (hC x.1.policy x.2 _))).mono ?_;rw[hGx];rintro e W' ⟨rfl,hb⟩)
      exact⟨IW _ hb,KB.of_below (hb.mono i5),⟨fun y hy=>(List.mem_append.1 hy).elim (i1 y) (fun e=>by simp at e;subst e;exact hGx),Fw i2 hb⟩,i3.trans (hb.mono i3.size),Nat.le_trans i5 hb.size⟩
    | false=>
      gi_wp2_with (refine⟨trivial,?_⟩;gi_at_call 38;refine(CallsIn.inRound l (callsIn_wide.2 (hC x.1.policy x.2 _))).mono ?_;rw[hGx];rintro e W' ⟨rfl,hb⟩;have i4:=Fw i2 hb;have d4:=cb1 i4;have f4:=fb1 i4)
      exact⟨(IW _ hb).trans ((KeepsOthers.setCell _ _ _).from _),⟨⟨rfl,x,by simp,hGx⟩,PK (i:=0) i4 (.int .i64 80)⟩,(i3.trans (hb.mono i3.size)).setCell (p:=⟨w.heap.size+1,0,none⟩) (by simp) _,Nat.le_trans i5 (by rw[Ajx];exact hb.size)⟩
  case done=>
    rintro D ys W hD rfl ⟨⟨i1,i2⟩,i3,i5⟩ hK
    have d0:=cb1 i2
    have f0:=fb1 i2
    gi_wp2
    have hK':=(KeepsOthers.setCell W ⟨w.heap.size+1,0,none⟩ (.int .i64 0)).same D _ hK rfl
    refine⟨by simp,.inl ⟨_,_,rfl,run_takeDeferred hK',?_⟩⟩
    have hc5:=cell_kept (World.cell?_setCell_same' W ⟨w.heap.size+1,0,none⟩ (.int .i64 0) (by rw[d0];rfl)) (grownBy_putObj' _ D (.deferred none)) (fun r e=>by cases e;exact⟨_,hK',rfl⟩)
    refine⟨.int .i64 0,?_,?_,(i3.setCell (p:=⟨w.heap.size+1,0,none⟩) (by simp) _).trans (belowK_b (w:=w) (Nat.le_refl _) _ D _ _ (by have:=hB2.size;omega) hK' rfl rfl)⟩
    ·simp[results,Try.f65,go_sem,hc5]
    ·rw[List.all_eq_true.2 (fun x hx=>i1 x hx)];rfl
  case stop=>
    rintro D c pre W hD ⟨k,hk,rfl⟩ ⟨⟨⟨rfl,x,hx,hGx⟩,i2⟩,i3,i5⟩ hK
    gi_wp2
    refine⟨by simp,.inl ⟨_,_,rfl,run_takeDeferred hK,?_⟩⟩
    have hc5:=cell_kept (cb1 i2) (grownBy_putObj' _ D (.deferred none)) (fun r e=>by cases e;exact⟨_,hK,rfl⟩)
    refine⟨.int .i64 80,?_,?_,i3.trans (belowK_b (w:=w) (Nat.le_refl _) W D _ _ (by have:=hB2.size;omega) hK rfl rfl)⟩
    ·simp[results,Try.f65,go_sem,hc5]
    · have:(gs.zip cs).all (fun x=>G x.1.policy x.2)=false:=by
        cases ha:(gs.zip cs).all (fun x=>G x.1.policy x.2) with
        |false=>rfl
        |true=>have:=(List.all_eq_true.1 ha) x (List.mem_of_mem_take hx);rw[hGx] at this;cases this
      rw[this];rfl
end Go.Proofs.Yteebobbhhgmeiaa
namespace Go.Proofs.Yteebobbhhgmeiaa
open Go.RowKit
def Ap (l:List TGroup) (r:TRow):Int:=bif AY l !=0 then AY l else bif r.key.size==0 then 2 else bif decide (32 <r.key.size) then 3 else bif r.cells.length !=l.length then 100 else bif(l.zip r.cells).all (fun x=>Bz x.1.policy x.2) then 0 else 80
def Aq7 (a0:List TGroup) (a1:TRow):A:=.v (.int .i64 (Ap a0 a1))
def Aq6 (_a0:List TGroup) (_a1:TRow):Objs:=[]
def Ajl (_a0:List TGroup) (_a1:TRow):List Prop:=[]
theorem A68 (k:ByteArray):k.toList.isEmpty=(k.size==0):=by
 rw[ByteArray.toList_eq,Bool.eq_iff_iff,List.isEmpty_iff,beq_iff_eq,←K3]
 exact⟨fun h=>by rw[h];rfl,fun h=>List.eq_nil_of_length_eq_zero h⟩
theorem Bss (l:List TGroup) (key:ByteArray) (cs:List TCell):Sk (AY l) Bz l key cs=Ap l ⟨key,cs⟩:=by
 unfold Sk Ap
 rw[A68]
 have e3:decide (32 <((key.size:Nat):Int))=decide (32 <key.size):=decide_eq_decide.2 (by omega)
 have e4:(((cs.length:Nat):Int) !=(l.length:Int))=(cs.length !=l.length):=by
  rw[Bool.eq_iff_iff,bne_iff_ne,bne_iff_ne];omega
 simp only[Bool.cond_eq_ite,e4,decide_eq_true_eq,show(32 <((key.size:Nat):Int))=(32 <key.size) from propext (by omega)]
theorem A5i {R:World} {ad:Addr} {v:Value} (h:R.cell? ad=some v):ad=⟨ad.block,ad.off,none⟩:=by
 cases ad with|mk b o s=>
 cases s with
 |none=>rfl
 |some q=>
  exfalso
  unfold World.cell? at h
  cases hb:R.heap[b]? with
  |none=>simp only[hb] at h;cases h
  |some ob=>cases ob<;>simp[hb] at h
theorem Bwg (b o k j:Nat):((⟨b,o,none⟩:Addr).add k).add j=⟨b,o+k+j,none⟩:=by
 rw[Fv,Fv]
section
variable {F:Nat→Prop} {N:Nm} {nx:Nat} {R:World}
theorem HC.at0 {l:List A} {b o k j:Nat} {x:Value} (h:HC F N nx R l ((⟨b,o,none⟩:Addr).add k)) (hx:l[j]?=some (.v x)):R.cell? ⟨b,o+k+j,none⟩=some x:=by
 obtain⟨y,h1,h2⟩:=h j _ hx
 rw[Bwg] at h1
 rw[h1,h2.v_inv]
theorem Bzh {gs:List TGroup} {v:Value} (hF:∀g,F g→g <R.heap.size) (h:Hv F N nx R (.sl .group gs) v):
  ∃a cap,v=.slice a gs.length cap∧(0 <gs.length→∃b off,a=some ⟨b,off,none⟩∧GsAt R.heap.size R.heap.size R b off gs):=by
 obtain⟨a,cap,e,_,h2⟩:=h.sl_inv
 refine⟨a,cap,e,fun hn=>?_⟩
 obtain⟨ad,rfl,hb,h3⟩:=h2 hn
 have hlt:=hF _ hb
 obtain⟨y,hy,_⟩:=h3 0 gs[0] (List.getElem?_eq_getElem hn) 0 (.v (.string gs[0].name)) rfl
 rw[Nat.zero_mul,add_zero,add_zero] at hy
 have hs:=A5i hy
 rw[hs] at h3⊢
 refine⟨ad.block,ad.off,rfl,⟨hlt,Nat.ne_of_lt hlt⟩,fun j g hj=>?_⟩
 have h4:=h3 j g hj
 exact⟨h4.at0 (j:=0) (x:=.string g.name) rfl,h4.at0 (j:=1) (x:=.int .i64 g.policy) rfl⟩
theorem Bzf {cs:List TCell} {v:Value} (hF:∀g,F g→g <R.heap.size) (h:Hv F N nx R (.sl .cell cs) v):
  ∃a cap,v=.slice a cs.length cap∧(0 <cs.length→∃b off,a=some ⟨b,off,none⟩∧CsAt R.heap.size R.heap.size R b off cs):=by
 obtain⟨a,cap,e,_,h2⟩:=h.sl_inv
 refine⟨a,cap,e,fun hn=>?_⟩
 obtain⟨ad,rfl,hb,h3⟩:=h2 hn
 have hlt:=hF _ hb
 obtain⟨y,hy,_⟩:=h3 0 cs[0] (List.getElem?_eq_getElem hn) 0 (.v (.int .i64 cs[0].stamp.n)) rfl
 rw[Nat.zero_mul,add_zero,add_zero] at hy
 have hs:=A5i hy
 rw[hs] at h3⊢
 refine⟨ad.block,ad.off,rfl,⟨hlt,Nat.ne_of_lt hlt⟩,fun j c hj=>?_⟩
 have h4:=h3 j c hj
 exact⟨h4.at0 (j:=0) (x:=.int .i64 c.stamp.n) rfl,h4.at0 (j:=1) (x:=.int .i64 c.stamp.site) rfl,h4.at0 (j:=2) (x:=.int .i64 c.vec.a) rfl,h4.at0 (j:=3) (x:=.int .i64 c.vec.b) rfl,h4.at0 (j:=4) (x:=.bool c.gone) rfl,h4.at0 (j:=5) (x:=.string c.value) rfl,h4.at0 (j:=6) (x:=.int .i64 c.dead.a) rfl,h4.at0 (j:=7) (x:=.int .i64 c.dead.b) rfl⟩
theorem HRel.bare (hF:∀g,F g→g <R.heap.size):HRel F N 0 [] R:=⟨hF,fun _ _ h=>(by cases h),fun _ _ _ h=>(by cases h),fun _ _ _ _ _ h=>(by cases h)⟩
end
theorem CallOk.plain {P:Program} {f:FuncId} {args:List A} {x:Value} (h:CallOk P f args 0 [] 1 (.v x) 0 []) {F:Nat→Prop} {N:Nm} {R:World} {vs:List Value} (hF:∀g,F g→g <R.heap.size) (hv:HL F N 0 R args vs):
  Calls P f vs.toArray R fun e R'=>e=.returned x∧Below R.heap.size R R':=
 (h F N R vs (HRel.bare hF) hv).mono fun e R' ⟨y,F',N',e1,_,_,h4,h5⟩=>⟨by rw[e1,h4.v_inv],h5 (Nat.le_refl _)⟩
theorem Aq5 (a0:List TGroup) (a1:TRow) (_hp:∀p∈Ajl a0 a1,p):CallOk Try.prog 65 [.sl .group a0,Ak .row a1] 0 [] 1 (Aq7 a0 a1) 0 (Aq6 a0 a1):=by
 intro F N R vs hR hv
 obtain⟨v0,vs,rfl,h0,hv⟩:=hv.inv
 obtain⟨v1,vs,rfl,h1,hv⟩:=hv.inv
 rw[hv.inv0]
 obtain⟨us,rfl,h2⟩:=Hv.agg_inv (xs:=[.v (.string a1.key),.sl .cell a1.cells]) h1
 clear h1
 have h1:=h2
 obtain⟨u0,us,rfl,k0,h1⟩:=h1.inv
 obtain⟨u1,us,rfl,k1,h1⟩:=h1.inv
 rw[h1.inv0]
 rw[k0.v_inv]
 obtain⟨aa,cap0,rfl,g0⟩:=Bzh hR.flt h0
 obtain⟨ab,cap1,rfl,g1⟩:=Bzf hR.flt k1
 refine(Bf1 R aa ab a0 a1.cells a1.key cap0 cap1 (AY a0) Bz ?_ Hr ?_ g0 g1).mono ?_
 ·intro W hW
  exact(XD a0 (fun _ h=>by cases h)).plain (F:=F) (N:=N) (vs:=[_]) (fun g hg=>Nat.lt_of_lt_of_le (hR.flt g hg) hW.size) (HL.cons (h0.step (hR.grow hW).2) HL.nil)
 ·intro q c W
  have h:=(Aok q c (fun _ h=>by cases h)).plain (F:=fun _=>False) (N:=N) (R:=W) (vs:=[.int .i64 q,cV c]) (fun g hg=>hg.elim) (HL.cons (.v _) (HL.cons (.v _) HL.nil))
  rw[IL] at h
  exact h
 ·rintro e W ⟨rfl,hb⟩
  rw[Bss]
  exact⟨_,F,N,rfl,(hR.grow hb).1,Step.of_below hb,.v _,fun _=>hb⟩
def Ae7:List A→Nat→Objs→Option A8
 | [y0,y1],nx,o=>match Kp .group y0,AP .row y1 with
  |some a0,some (a1,p1)=>some (1,(Aq7 a0 a1).pk (AF nx),nx+0,AE nx (Aq6 a0 a1)++o,p1++(Ajl a0 a1))
  |_,_=>none
 |_,_,_=>none
theorem A9u:Fu Try.prog 65 Ae7:=fun args nx o k x nx' o' ps h=>by
 unfold Ae7 at h
 split at h<;>first|(cases h;done)|skip
 split at h<;>first|(cases h;done)|skip
 rename_i a0 a1 p1 e0 e1
 cases h
 refine⟨fun hp=>?_,_,rfl⟩
 have q1:=fun p hm=>hp p (List.mem_append.2 (.inl hm))
 have r1:=fun p hm=>hp p (List.mem_append.2 (.inr hm))
 refine Ah (Ag (Aq5 a0 a1 r1) (Nat.le_refl _) (Ac rfl (Ac (Af _ _) Ao)) nx o) fun F N R vs hl=>?_
 obtain⟨v0,w0,rfl,h0,hl⟩:=hl.inv
 obtain⟨v1,w1,rfl,h1,hl⟩:=hl.inv
 exact HL.cons (Cx e0 h0) (HL.cons (Am e1 q1 h1) (hl))
noncomputable def B10:=A5 65 Ae7 Ch
theorem Bv1:Df Try.prog B10:=Av A9u B1z
noncomputable def Ci:=B10
theorem By3:Df Try.prog Ci:=Bv1
end Go.Proofs.Yteebobbhhgmeiaa
namespace Go.Proofs.Yteebobbhhgmeiaa
open Go.RowKit
def Sm (k:ByteArray):Int:=bif k.size==0 then 2 else bif decide (32 <k.size) then 3 else 0
def eqC (a b:TCell):Bool:=a.stamp.n==b.stamp.n&&a.stamp.site==b.stamp.site&&(a.vec.a==b.vec.a&&a.vec.b==b.vec.b)&&a.gone==b.gone&&a.value==b.value&&(a.dead.a==b.dead.a&&a.dead.b==b.dead.b)
def Agj:List TCell→List TCell→Bool
 | [],[]=>true
 |x::xs,y::ys=>eqC x y&&Agj xs ys
 |_,_=>false
def Ako (a b:TRow):Bool:=a.key==b.key&&Agj a.cells b.cells
def FG (r:TRow):Bool:=r.cells.all fun c=>eqC c zeroC
def Amy (a0:ByteArray):Int:=bif a0.toList==(ByteArray.mk #[]).toList then(2:Int) else bif decide ((↑a0.size:Int) >(32:Int)) then(3:Int) else(0:Int)
def Amz (a0:ByteArray):A:=.v (.int .i64 (Amy a0))
def A5a (_a0:ByteArray):Objs:=[]
def Bjo (_a0:ByteArray):List Prop:=[]
set_option maxRecDepth 100000 in
theorem Bjn (a0:ByteArray):EU (AA Ci L0) 9 129 [Ak .str a0] 0 []=some (1,Amz a0,0,A5a a0,[]):=by kernel_rfl
set_option maxRecDepth 100000 in
theorem Bpc (a0:ByteArray) (_hp:∀p∈Bjo a0,p):CallOk Try.prog 129 [Ak .str a0] 0 [] 1 (Amz a0) 0 (A5a a0):=by
 exact AH (Aw By3 AG) (Bjn a0) Ab
def Azp (a0:ByteArray):A:=.v (.int .i64 (Sm a0))
def Azo (_a0:ByteArray):Objs:=[]
def Aqi (_a0:ByteArray):List Prop:=[]
theorem Agi {a b:TCell}:eqC a b=true↔a=b:=by
 unfold eqC
 simp only[Bool.and_eq_true,beq_iff_eq]
 constructor
 ·rintro⟨⟨⟨⟨⟨h1,h2⟩,h3,h4⟩,h5⟩,h6⟩,h7,h8⟩
  cases a with|mk s v g t d=>cases b with|mk s' v' g' t' d'=>
  cases s;cases s';cases v;cases v';cases d;cases d'
  cases h1;cases h2;cases h3;cases h4;cases h5;cases h6;cases h7;cases h8
  rfl
 ·rintro rfl
  exact⟨⟨⟨⟨⟨rfl,rfl⟩,rfl,rfl⟩,rfl⟩,rfl⟩,rfl,rfl⟩
theorem Wj:∀{a b:List TCell},Agj a b=true↔a=b
 | [],[]=>by simp[Agj]
 | [],_::_=>by simp[Agj]
 |_::_,[]=>by simp[Agj]
 |x::xs,y::ys=>by
  unfold Agj
  rw[Bool.and_eq_true,Agi,Wj]
  simp
theorem Bsg {a b:TRow}:Ako a b=true↔a=b:=by
 unfold Ako
 rw[Bool.and_eq_true,beq_iff_eq,Wj]
 cases a;cases b
 simp
theorem Bse:∀(a b:List TCell),a.length=b.length→Agj a b=Ko a.length (fun i=>eqC (a.getD i (Ae TC.cell)) (b.getD i (Ae TC.cell))):=fun a b h=>by
 rw[Bool.eq_iff_iff,Wj,IU]
 constructor
 ·rintro rfl i _
  exact Agi.2 rfl
 ·intro g
  refine List.ext_getElem h fun i h1 h2=>?_
  have:=Agi.1 (g i h1)
  rw[List.getD_eq_getElem?_getD,List.getD_eq_getElem?_getD,List.getElem?_eq_getElem h1,List.getElem?_eq_getElem h2] at this
  exact this
theorem Bjm (k:ByteArray):Amy k=Sm k:=by
 unfold Amy Sm
 rw[Rt]
 congr 2
 exact dgt k.size 32
theorem Bjl (a0:ByteArray) (_hp:∀p∈Aqi a0,p):CallOk Try.prog 129 [Ak .str a0] 0 [] 1 (Azp a0) 0 (Azo a0):=by
 have h:=Bpc a0 (fun _ h=>by cases h)
 unfold Amz at h
 rw[Bjm] at h
 exact h
def Am0:List A→Nat→Objs→Option A8
 | [y0],nx,o=>match AP .str y0 with
  |some (a0,p0)=>some (1,(Azp a0).pk (AF nx),nx+0,AE nx (Azo a0)++o,p0++(Aqi a0))
  |_=>none
 |_,_,_=>none
theorem Bfl:Fu Try.prog 129 Am0:=fun args nx o k x nx' o' ps h=>by
 unfold Am0 at h
 split at h<;>first|(cases h;done)|skip
 split at h<;>first|(cases h;done)|skip
 rename_i a0 p0 e0
 cases h
 refine⟨fun hp=>?_,_,rfl⟩
 have q0:=fun p hm=>hp p (List.mem_append.2 (.inl hm))
 have r0:=fun p hm=>hp p (List.mem_append.2 (.inr hm))
 refine Ah (Ag (Bjl a0 r0) (Nat.le_refl _) (Ac (Af _ _) Ao) nx o) fun F N R vs hl=>?_
 obtain⟨v0,w0,rfl,h0,hl⟩:=hl.inv
 exact HL.cons (Am e0 q0 h0) (hl)
noncomputable def Bq2:=A5 129 Am0 Ci
theorem A50:Df Try.prog Bq2:=Av Bfl By3
abbrev CB:Type:=(List TGroup)×Int×TRow
def MK (x:CB):St:=⟨42,1,[(0,.sl .group x.1),(3,.own 0 0),(6,.v (.int .i64 x.2.1))],[(0,some (.box 71 [.v (.string x.2.2.key),.sl .cell x.2.2.cells]))]⟩
def Pr:St→Option CB
 |⟨42,1,[(0,.sl .group z0),(3,.own 0 0),(6,.v (.int .i64 z1))],[(0,some (.box 71 [.v (.string z2),.sl .cell z3]))]⟩=>some (z0,z1,⟨z2,z3⟩)
 |_=>none
theorem Amw:∀s x,Pr s=some x→s=MK x:=fun s x h=>by
 unfold Pr at h
 split at h
 ·cases h;rfl
 ·cases h
def Aa1:De:=⟨1,1,[0,3,6],[],[(0,0)],[0],[4],[0]⟩
def A2x:Dy:=⟨[],[(0,0)],[0,3,6],[0]⟩
def E9 (a0:List TGroup) (a1:Int) (_a2:TRow):Bool:=!!decide (a1 <(↑a0.length:Int))
def D5 (a0:List TGroup) (a1:Int) (a2:TRow):Bool:=(E9 a0 a1 a2)&&!Po (a0.getD a1.toNat (Ae TC.group)).2 (a2.2.getD a1.toNat (Ae TC.cell))
def Atc (a0:List TGroup) (a1:Int) (a2:TRow):Bool:=(E9 a0 a1 a2)&&!(D5 a0 a1 a2)
def Fb (x:CB):CB:=(x.1,IntKind.i64.wrap (x.2.1+(1:Int)),x.2.2)
def Fa (x:CB):Cnd:=some (Atc x.1 x.2.1 x.2.2)
def Vj (x:CB):List Prop:=[((E9 x.1 x.2.1 x.2.2)=true→(0:Int)≤x.2.1∧x.2.1 <(↑x.1.length:Int)),((E9 x.1 x.2.1 x.2.2)=true→(0:Int)≤x.2.1∧x.2.1 <(↑x.2.2.2.length:Int))]
def Iq (x:CB):List Prop:=[((E9 x.1 x.2.1 x.2.2)=true→(0:Int)≤x.2.1∧x.2.1 <(↑x.1.length:Int)),((E9 x.1 x.2.1 x.2.2)=true→(0:Int)≤x.2.1∧x.2.1 <(↑x.2.2.2.length:Int))]
def Tb (x:CB):Bl:=[(some 0,some (!decide (x.2.1 <(↑x.1.length:Int))),⟨42,1,[(4,.dead)],[(0,some (.box 71 [.v (.string x.2.2.1),.sl .cell x.2.2.2]))]⟩),(none,some ((D5 x.1 x.2.1 x.2.2)),⟨42,1,[(4,.v (.int .i64 ((80:Int))))],[(0,some (.box 71 [.v (.string x.2.2.1),.sl .cell x.2.2.2]))]⟩)]
def GU (x:CB):Nat:=((↑x.1.length:Int) - x.2.1).toNat
def Ate (x:CB):CB:=A9 Fb Fa (GU x) x
set_option maxRecDepth 100000 in
theorem Azj (a0:List TGroup) (a1:Int) (a2:TRow):Bx (AA Bq2 L0) 9 (Aj Try.prog 66 0) Aa1 (MK (a0,a1,a2))=some (Vj (a0,a1,a2),Tb (a0,a1,a2),Fa (a0,a1,a2),MK (Fb (a0,a1,a2))):=by kernel_rfl
set_option maxRecDepth 100000 in
theorem Azk (a0:List TGroup) (a1:Int) (a2:TRow) (hp:∀p∈Iq (a0,a1,a2),p):∀p∈Vj (a0,a1,a2),p:=by
 have n0:=N0 hp
 have n1:=N0 (N1 hp)
 exact(Aa n0 (Aa n1 Ab))
noncomputable def Vk:=HU (AA Bq2 L0) (Aj Try.prog 66 0) Aa1 A2x Pr GU Fb Fa Iq Tb
theorem Atd:∀s b ps outs,Vk s=some (b,ps,outs)→Wf s ⟨ps,outs,none⟩∧Bs (AA C0 L0) b s ps outs:=
 Bi (T:=MK) A50 AG (u:=9) (by kernel_rfl) (by decide) (fun⟨a0,a1,a2⟩=>Azj a0 a1 a2) (fun⟨a0,a1,a2⟩=>Azk a0 a1 a2) Amw (fun _=>AR (n:=42) rfl) fun _ _=>rfl
noncomputable def Aa0:=DG 0 Vk L0
theorem Atb:Hs Aa0:=A3 Atd AG
def JO (_a0:List TGroup) (a1:TRow):Bool:=Sm a1.1 !=(0:Int)
def IE (a0:List TGroup) (_a1:TRow):Bool:=AY a0 !=(0:Int)
def JN (a0:List TGroup) (a1:TRow):CB:=Ate (a0,(0:Int),a1)
def ID (a0:List TGroup) (a1:TRow):Bool:=(↑a1.2.length:Int) !=(↑a0.length:Int)
def Aef (a0:List TGroup) (a1:TRow):Int:=bif(IE a0 a1) then AY a0 else bif(JO a0 a1) then Sm a1.1 else bif(ID a0 a1) then(100:Int) else bif D5 (JN a0 a1).fst (JN a0 a1).snd.fst (JN a0 a1).snd.snd then(80:Int) else(0:Int)
def Aeg (a0:List TGroup) (a1:TRow):A:=.v (.int .i64 (Aef a0 a1))
def Azl (_a0:List TGroup) (_a1:TRow):Objs:=[]
def Aqe (a0:List TGroup) (a1:TRow):List Prop:=[(∀(g:TGroup),g∈a0→Az g.1.size),((!(IE a0 a1))=true→(!(JO a0 a1))=true→(!(ID a0 a1))=true→AL Fb Fa Iq (GU (a0,(0:Int),a1)) (a0,(0:Int),a1))]
set_option maxRecDepth 100000 in
theorem Bfh (a0:List TGroup) (a1:TRow):EU (AA Bq2 Aa0) 9 66 [.sl .group a0,Ak .row a1] 0 []=some (1,Aeg a0 a1,0,Azl a0 a1,[(∀(g:TGroup),g∈a0→Az g.1.size),((!(IE a0 a1))=true→(!(JO a0 a1))=true→(!(ID a0 a1))=true→Aj Try.prog (66:FuncId) (0:Nat)=Aj Try.prog (66:FuncId) (0:Nat)),((!(IE a0 a1))=true→(!(JO a0 a1))=true→(!(ID a0 a1))=true→AL Fb Fa Iq (GU (a0,(0:Int),a1)) (a0,(0:Int),a1))]):=by kernel_rfl
set_option maxRecDepth 100000 in
theorem Bjj (a0:List TGroup) (a1:TRow) (hp:∀p∈Aqe a0 a1,p):CallOk Try.prog 66 [.sl .group a0,Ak .row a1] 0 [] 1 (Aeg a0 a1) 0 (Azl a0 a1):=by
 have n0:=N0 hp
 have n1:((!(IE a0 a1))=true→(!(JO a0 a1))=true→(!(ID a0 a1))=true→Aj Try.prog (66:FuncId) (0:Nat)=Aj Try.prog (66:FuncId) (0:Nat)):=by intros;rfl
 have n2:=N0 (N1 hp)
 exact AH (Aw A50 Atb) (Bfh a0 a1) (Aa n0 (Aa n1 (Aa n2 Ab)))
def Aqf (a0:List TGroup) (a1:TRow):A:=.v (.int .i64 (Ap a0 a1))
def Aqd (_a0:List TGroup) (_a1:TRow):Objs:=[]
def Ai2 (a0:List TGroup) (_a1:TRow):List Prop:=[∀g∈a0,Az g.name.size]
theorem Aqc (l:List TGroup) (r:TRow) (hb:∀g∈l,Az g.name.size):(∀p∈Aqe l r,p)∧Aef l r=Ap l r:=by
 have hk2:IE l r=(AY l !=0):=rfl
 have hk3:JO l r=(Sm r.key !=0):=rfl
 have hk0:ID l r=(r.cells.length !=l.length):=by
  show((r.cells.length:Int) !=(l.length:Int))=_
  rw[Bool.eq_iff_iff,bne_iff_ne,bne_iff_ne];omega
 have main:IE l r=false→ID l r=false→AL Fb Fa Iq (GU (l,0,r)) (l,0,r)∧D5 (JN l r).fst (JN l r).snd.fst (JN l r).snd.snd=!(l.zip r.cells).all (fun x=>Bz x.1.policy x.2):=fun h2 h0=>by
  rw[hk0] at h0
  have hlen:r.cells.length=l.length:=by simpa using h0
  have hl4:l.length≤4:=(Hr (by rw[hk2] at h2;simpa using h2)).2
  have hf:∀i:Nat,D5 l (i:Int) r=(decide (i <l.length)&&!Bz (l.getD i (Ae TC.group)).2 (r.2.getD i (Ae TC.cell))):=fun i=>by
   unfold D5 E9
   rw[nn,MA,Int.toNat_natCast,Apw]
  obtain⟨h1,k,hk,hx,_,_,hb'⟩:=I6 (fun i=>((l,(i:Int),r):CB)) l.length (fun i=>!Bz (l.getD i (Ae TC.group)).2 (r.2.getD i (Ae TC.cell))) Fb Fa Iq (GU (l,0,r)) (l,0,r) rfl (by show l.length≤((l.length:Int) - 0).toNat;omega)
   (fun i _ _=>by
    show((!!decide ((i:Int) <(l.length:Int)))&&!D5 l i r)=_
    rw[hf,nn,MA]
    cases decide (i <l.length)<;>rfl)
   (fun i hi _=>by
    show(l,IntKind.i64.wrap ((i:Int)+1),r)=(l,((i+1:Nat):Int),r)
    rw[ES (by omega)])
   (fun i _ _=>by
    have hin:(!!decide ((i:Int) <(l.length:Int)))=true→(i:Int) <(l.length:Int):=fun h=>by rw[nn] at h;exact of_decide_eq_true h
    exact Aa (fun h=>⟨by show(0:Int)≤(i:Int);omega,hin h⟩) (Aa (fun h=>⟨by show(0:Int)≤(i:Int);omega,by have:=hin h;show(i:Int) <(r.cells.length:Int);omega⟩) Ab))
  refine⟨h1,?_⟩
  have hr:JN l r=(l,(k:Int),r):=hx
  rw[hr]
  show D5 l (k:Int) r=_
  rw[hf,hb',Bzo l r.cells (Ae TC.group) (Ae TC.cell) (fun g c=>Bz g.policy c) hlen]
  congr 1
  exact IK fun i _=>Bool.not_not _
 refine⟨Aa hb (Aa (fun h1 _ h3=>(main (by simpa using h1) (by simpa using h3)).1) Ab),?_⟩
 unfold Aef Ap
 have ek:Sm r.key=bif r.key.size==0 then 2 else bif decide (32 <r.key.size) then 3 else 0:=rfl
 cases h2:IE l r with
 |true=>rw[hk2] at h2;rw[h2];rfl
 | false=>
  rw[hk2] at h2
  rw[h2,cond_false,cond_false]
  cases h3:JO l r with
  | true=>
   rw[cond_true]
   rw[hk3,ek] at h3
   rw[ek]
   cases h5:r.key.size==0 with
   |true=>rfl
   |false=>
    rw[h5] at h3
    cases h6:decide (32 <r.key.size) with
    |true=>rfl
    |false=>rw[h6] at h3;cases h3
  | false=>
   rw[hk3,ek] at h3
   have h5:(r.key.size==0)=false:=by
    cases h5:r.key.size==0 with
    |false=>rfl
    |true=>rw[h5] at h3;cases h3
   rw[h5] at h3
   have h6:decide (32 <r.key.size)=false:=by
    cases h6:decide (32 <r.key.size) with
    |false=>rfl
    |true=>rw[h6] at h3;cases h3
   rw[h5,h6,cond_false,cond_false,cond_false]
   cases h0:ID l r with
   |true=>rw[hk0] at h0;rw[h0];rfl
   |false=>
    rw[cond_false,(main (by rw[hk2];exact h2) h0).2]
    rw[hk0] at h0
    rw[h0,cond_false]
    cases(l.zip r.cells).all (fun x=>Bz x.1.policy x.2)<;>rfl
theorem Bfg (a0:List TGroup) (a1:TRow) (hp:∀p∈Ai2 a0 a1,p):CallOk Try.prog 66 [.sl .group a0,Ak .row a1] 0 [] 1 (Aqf a0 a1) 0 (Aqd a0 a1):=by
 have hb:∀g∈a0,Az g.name.size:=hp _ (List.mem_cons_self ..)
 have h:=Bjj a0 a1 (Aqc a0 a1 hb).1
 unfold Aeg at h
 rw[(Aqc a0 a1 hb).2] at h
 exact h
def Aeh:List A→Nat→Objs→Option A8
 | [y0,y1],nx,o=>match Kp .group y0,AP .row y1 with
  |some a0,some (a1,p1)=>some (1,(Aqf a0 a1).pk (AF nx),nx+0,AE nx (Aqd a0 a1)++o,p1++(Ai2 a0 a1))
  |_,_=>none
 |_,_,_=>none
theorem A9d:Fu Try.prog 66 Aeh:=fun args nx o k x nx' o' ps h=>by
 unfold Aeh at h
 split at h<;>first|(cases h;done)|skip
 split at h<;>first|(cases h;done)|skip
 rename_i a0 a1 p1 e0 e1
 cases h
 refine⟨fun hp=>?_,_,rfl⟩
 have q1:=fun p hm=>hp p (List.mem_append.2 (.inl hm))
 have r1:=fun p hm=>hp p (List.mem_append.2 (.inr hm))
 refine Ah (Ag (Bfg a0 a1 r1) (Nat.le_refl _) (Ac rfl (Ac (Af _ _) Ao)) nx o) fun F N R vs hl=>?_
 obtain⟨v0,w0,rfl,h0,hl⟩:=hl.inv
 obtain⟨v1,w1,rfl,h1,hl⟩:=hl.inv
 exact HL.cons (Cx e0 h0) (HL.cons (Am e1 q1 h1) (hl))
noncomputable def Bz9:=A5 66 Aeh Bq2
theorem Bli:Df Try.prog Bz9:=Av A9d A50
def Adw (a0:TCell) (a1:TCell):Bool:=a0.1.1==a1.1.1&&a0.1.2==a1.1.2&&(a0.2.1==a1.2.1&&a0.2.2==a1.2.2)&&a0.3==a1.3&&a0.4.toList==a1.4.toList&&(a0.5.1==a1.5.1&&a0.5.2==a1.5.2)
def Adx (a0:TCell) (a1:TCell):A:=.v (.bool (Adw a0 a1))
def Ay4 (_a0:TCell) (_a1:TCell):Objs:=[]
def Be4 (_a0:TCell) (_a1:TCell):List Prop:=[]
set_option maxRecDepth 100000 in
theorem Be3 (a0:TCell) (a1:TCell):EU (AA Bz9 L0) 9 76 [Ak .cell a0,Ak .cell a1] 0 []=some (1,Adx a0 a1,0,Ay4 a0 a1,[]):=by kernel_rfl
set_option maxRecDepth 100000 in
theorem Bi7 (a0:TCell) (a1:TCell) (_hp:∀p∈Be4 a0 a1,p):CallOk Try.prog 76 [Ak .cell a0,Ak .cell a1] 0 [] 1 (Adx a0 a1) 0 (Ay4 a0 a1):=by
 exact AH (Aw Bli AG) (Be3 a0 a1) Ab
def Apz (a0:TCell) (a1:TCell):A:=.v (.bool (eqC a0 a1))
def Apy (_a0:TCell) (_a1:TCell):Objs:=[]
def Aiu (_a0:TCell) (_a1:TCell):List Prop:=[]
theorem Be2 (a0:TCell) (a1:TCell) (_hp:∀p∈Aiu a0 a1,p):CallOk Try.prog 76 [Ak .cell a0,Ak .cell a1] 0 [] 1 (Apz a0 a1) 0 (Apy a0 a1):=by
 have h:=Bi7 a0 a1 (fun _ h=>by cases h)
 have e:Adw a0 a1=eqC a0 a1:=by unfold Adw;rw[tlb];rfl
 unfold Adx at h
 rw[e] at h
 exact h
def Ady:List A→Nat→Objs→Option A8
 | [y0,y1],nx,o=>match AP .cell y0,AP .cell y1 with
  |some (a0,p0),some (a1,p1)=>some (1,(Apz a0 a1).pk (AF nx),nx+0,AE nx (Apy a0 a1)++o,p0++(p1++(Aiu a0 a1)))
  |_,_=>none
 |_,_,_=>none
theorem A83:Fu Try.prog 76 Ady:=fun args nx o k x nx' o' ps h=>by
 unfold Ady at h
 split at h<;>first|(cases h;done)|skip
 split at h<;>first|(cases h;done)|skip
 rename_i a0 p0 a1 p1 e0 e1
 cases h
 refine⟨fun hp=>?_,_,rfl⟩
 have q0:=fun p hm=>hp p (List.mem_append.2 (.inl hm))
 have r0:=fun p hm=>hp p (List.mem_append.2 (.inr hm))
 have q1:=fun p hm=>r0 p (List.mem_append.2 (.inl hm))
 have r1:=fun p hm=>r0 p (List.mem_append.2 (.inr hm))
 refine Ah (Ag (Be2 a0 a1 r1) (Nat.le_refl _) (Ac (Af _ _) (Ac (Af _ _) Ao)) nx o) fun F N R vs hl=>?_
 obtain⟨v0,w0,rfl,h0,hl⟩:=hl.inv
 obtain⟨v1,w1,rfl,h1,hl⟩:=hl.inv
 exact HL.cons (Am e0 q0 h0) (HL.cons (Am e1 q1 h1) (hl))
noncomputable def Bq3:=A5 76 Ady Bz9
theorem A51:Df Try.prog Bq3:=Av A83 Bli
abbrev CC:Type:=Int×TRow×TRow
def MM (x:CC):St:=⟨39,2,[(2,.own 0 0),(3,.own 1 0),(5,.v (.int .i64 x.1))],[(0,some (.box 71 [.v (.string x.2.1.key),.sl .cell x.2.1.cells])),(1,some (.box 71 [.v (.string x.2.2.key),.sl .cell x.2.2.cells]))]⟩
def Pw:St→Option CC
 |⟨39,2,[(2,.own 0 0),(3,.own 1 0),(5,.v (.int .i64 z0))],[(0,some (.box 71 [.v (.string z1),.sl .cell z2])),(1,some (.box 71 [.v (.string z3),.sl .cell z4]))]⟩=>some (z0,⟨z1,z2⟩,⟨z3,z4⟩)
 |_=>none
theorem Anb:∀s x,Pw s=some x→s=MM x:=fun s x h=>by
 unfold Pw at h
 split at h
 ·cases h;rfl
 ·cases h
def Aa6:De:=⟨2,2,[2,3,5],[],[(0,0),(1,1)],[0,1],[4],[0,1]⟩
def A20:Dy:=⟨[],[(0,0),(1,1)],[2,3,5],[0,1]⟩
def Ff (a0:Int) (a1:TRow) (_a2:TRow):Bool:=!!decide (a0 <(↑a1.2.length:Int))
def D8 (a0:Int) (a1:TRow) (a2:TRow):Bool:=(Ff a0 a1 a2)&&!eqC (a1.2.getD a0.toNat (Ae TC.cell)) (a2.2.getD a0.toNat (Ae TC.cell))
def Atm (a0:Int) (a1:TRow) (a2:TRow):Bool:=(Ff a0 a1 a2)&&!(D8 a0 a1 a2)
def Fh (x:CC):CC:=(IntKind.i64.wrap (x.1+(1:Int)),x.2.1,x.2.2)
def Fg (x:CC):Cnd:=some (Atm x.1 x.2.1 x.2.2)
def Vr (x:CC):List Prop:=[((Ff x.1 x.2.1 x.2.2)=true→(0:Int)≤x.1∧x.1 <(↑x.2.1.2.length:Int)),((Ff x.1 x.2.1 x.2.2)=true→(0:Int)≤x.1∧x.1 <(↑x.2.2.2.length:Int))]
def Is (x:CC):List Prop:=[((Ff x.1 x.2.1 x.2.2)=true→(0:Int)≤x.1∧x.1 <(↑x.2.1.2.length:Int)),((Ff x.1 x.2.1 x.2.2)=true→(0:Int)≤x.1∧x.1 <(↑x.2.2.2.length:Int))]
def Tg (x:CC):Bl:=[(some 0,some (!decide (x.1 <(↑x.2.1.2.length:Int))),⟨39,2,[(4,.dead)],[(0,some (.box 71 [.v (.string x.2.1.1),.sl .cell x.2.1.2])),(1,some (.box 71 [.v (.string x.2.2.1),.sl .cell x.2.2.2]))]⟩),(none,some ((D8 x.1 x.2.1 x.2.2)),⟨39,2,[(4,.v (.bool (false)))],[(0,some (.box 71 [.v (.string x.2.1.1),.sl .cell x.2.1.2])),(1,some (.box 71 [.v (.string x.2.2.1),.sl .cell x.2.2.2]))]⟩)]
def GW (x:CC):Nat:=((↑x.2.1.2.length:Int) - x.1).toNat
def Ato (x:CC):CC:=A9 Fh Fg (GW x) x
set_option maxRecDepth 100000 in
theorem Azu (a0:Int) (a1:TRow) (a2:TRow):Bx (AA Bq3 L0) 9 (Aj Try.prog 67 0) Aa6 (MM (a0,a1,a2))=some (Vr (a0,a1,a2),Tg (a0,a1,a2),Fg (a0,a1,a2),MM (Fh (a0,a1,a2))):=by kernel_rfl
set_option maxRecDepth 100000 in
theorem Azv (a0:Int) (a1:TRow) (a2:TRow) (hp:∀p∈Is (a0,a1,a2),p):∀p∈Vr (a0,a1,a2),p:=by
 have n0:=N0 hp
 have n1:=N0 (N1 hp)
 exact(Aa n0 (Aa n1 Ab))
noncomputable def Vs:=HU (AA Bq3 L0) (Aj Try.prog 67 0) Aa6 A20 Pw GW Fh Fg Is Tg
theorem Atn:∀s b ps outs,Vs s=some (b,ps,outs)→Wf s ⟨ps,outs,none⟩∧Bs (AA C0 L0) b s ps outs:=
 Bi (T:=MM) A51 AG (u:=9) (by kernel_rfl) (by decide) (fun⟨a0,a1,a2⟩=>Azu a0 a1 a2) (fun⟨a0,a1,a2⟩=>Azv a0 a1 a2) Anb (fun _=>AR (n:=39) rfl) fun _ _=>rfl
noncomputable def Aa5:=DG 0 Vs L0
theorem Atl:Hs Aa5:=A3 Atn AG
def JR (a0:TRow) (a1:TRow):CC:=Ato ((0:Int),a0,a1)
def IF (a0:TRow) (a1:TRow):Bool:=!a0.1.toList==a1.1.toList||(↑a0.2.length:Int) !=(↑a1.2.length:Int)
def Aep (a0:TRow) (a1:TRow):Bool:=bif(IF a0 a1) then false else bif D8 (JR a0 a1).fst (JR a0 a1).snd.fst (JR a0 a1).snd.snd then false else true
def Aeq (a0:TRow) (a1:TRow):A:=.v (.bool (Aep a0 a1))
def Azw (_a0:TRow) (_a1:TRow):Objs:=[]
def Aqn (a0:TRow) (a1:TRow):List Prop:=[((!(IF a0 a1))=true→AL Fh Fg Is (GW ((0:Int),a0,a1)) ((0:Int),a0,a1))]
set_option maxRecDepth 100000 in
theorem Bfp (a0:TRow) (a1:TRow):EU (AA Bq3 Aa5) 9 67 [Ak .row a0,Ak .row a1] 0 []=some (1,Aeq a0 a1,0,Azw a0 a1,[((!(IF a0 a1))=true→Aj Try.prog (67:FuncId) (0:Nat)=Aj Try.prog (67:FuncId) (0:Nat)),((!(IF a0 a1))=true→AL Fh Fg Is (GW ((0:Int),a0,a1)) ((0:Int),a0,a1))]):=by kernel_rfl
set_option maxRecDepth 100000 in
theorem Bjs (a0:TRow) (a1:TRow) (hp:∀p∈Aqn a0 a1,p):CallOk Try.prog 67 [Ak .row a0,Ak .row a1] 0 [] 1 (Aeq a0 a1) 0 (Azw a0 a1):=by
 have n0:((!(IF a0 a1))=true→Aj Try.prog (67:FuncId) (0:Nat)=Aj Try.prog (67:FuncId) (0:Nat)):=by intros;rfl
 have n1:=N0 hp
 exact AH (Aw A51 Atl) (Bfp a0 a1) (Aa n0 (Aa n1 Ab))
def Aqo (a0:TRow) (a1:TRow):A:=.v (.bool (Ako a0 a1))
def Aqm (_a0:TRow) (_a1:TRow):Objs:=[]
def Aja (a0:TRow) (_a1:TRow):List Prop:=[Ai a0.cells.length]
theorem Aql (a b:TRow) (hb:Ai a.cells.length):(∀p∈Aqn a b,p)∧Aep a b=Ako a b:=by
 unfold Ai at hb
 have hk0:IF a b=(!(a.key==b.key)||a.cells.length !=b.cells.length):=by
  show(!(a.key.toList==b.key.toList)||((a.cells.length:Int) !=(b.cells.length:Int)))=_
  rw[tlb]
  congr 1
  rw[Bool.eq_iff_iff,bne_iff_ne,bne_iff_ne];omega
 have main:IF a b=false→AL Fh Fg Is (GW (0,a,b)) (0,a,b)∧D8 (JR a b).fst (JR a b).snd.fst (JR a b).snd.snd=!Agj a.cells b.cells:=fun h0=>by
  rw[hk0] at h0
  have hlen:a.cells.length=b.cells.length:=by simpa using(Bool.or_eq_false_iff.1 h0).2
  have hf:∀i:Nat,D8 (i:Int) a b=(decide (i <a.cells.length)&&!eqC (a.2.getD i (Ae TC.cell)) (b.2.getD i (Ae TC.cell))):=fun i=>by
   unfold D8 Ff
   rw[nn,MA,Int.toNat_natCast]
  obtain⟨h1,k,hk,hx,_,_,hb'⟩:=I6 (fun i=>(((i:Int),a,b):CC)) a.cells.length (fun i=>!eqC (a.2.getD i (Ae TC.cell)) (b.2.getD i (Ae TC.cell))) Fh Fg Is (GW (0,a,b)) (0,a,b) rfl (by show a.cells.length≤((a.cells.length:Int) - 0).toNat;omega)
   (fun i _ _=>by
    show((!!decide ((i:Int) <(a.cells.length:Int)))&&!D8 i a b)=_
    rw[hf,nn,MA]
    cases decide (i <a.cells.length)<;>rfl)
   (fun i hi _=>by
    show(IntKind.i64.wrap ((i:Int)+1),a,b)=(((i+1:Nat):Int),a,b)
    rw[ES (by omega)])
   (fun i _ _=>by
    have hin:(!!decide ((i:Int) <(a.cells.length:Int)))=true→(i:Int) <(a.cells.length:Int):=fun h=>by rw[nn] at h;exact of_decide_eq_true h
    exact Aa (fun h=>⟨by show(0:Int)≤(i:Int);omega,hin h⟩) (Aa (fun h=>⟨by show(0:Int)≤(i:Int);omega,by have:=hin h;show(i:Int) <(b.cells.length:Int);omega⟩) Ab))
  refine⟨h1,?_⟩
  have hr:JR a b=((k:Int),a,b):=hx
  rw[hr]
  show D8 (k:Int) a b=_
  rw[hf,hb',Bse _ _ hlen]
  congr 1
  exact IK fun i _=>Bool.not_not _
 refine⟨Aa (fun h=>(main (by simpa using h)).1) Ab,?_⟩
 unfold Aep Ako
 cases h0:IF a b with
 | true=>
  rw[hk0] at h0
  rw[cond_true]
  cases hk:a.key==b.key with
  |false=>rfl
  |true=>
   rw[hk] at h0
   have hne:a.cells.length≠b.cells.length:=by simpa using h0
   cases he:Agj a.cells b.cells with
   |false=>rfl
   |true=>exact absurd (congrArg List.length (Wj.1 he)) hne
 |false=>
  rw[cond_false,(main h0).2]
  rw[hk0] at h0
  have:(a.key==b.key)=true:=by simpa using(Bool.or_eq_false_iff.1 h0).1
  rw[this,Bool.true_and]
  cases Agj a.cells b.cells<;>rfl
theorem Bfo (a0:TRow) (a1:TRow) (hp:∀p∈Aja a0 a1,p):CallOk Try.prog 67 [Ak .row a0,Ak .row a1] 0 [] 1 (Aqo a0 a1) 0 (Aqm a0 a1):=by
 have hb:Ai a0.cells.length:=hp _ (List.mem_cons_self ..)
 have h:=Bjs a0 a1 (Aql a0 a1 hb).1
 unfold Aeq at h
 rw[(Aql a0 a1 hb).2] at h
 exact h
def Aer:List A→Nat→Objs→Option A8
 | [y0,y1],nx,o=>match AP .row y0,AP .row y1 with
  |some (a0,p0),some (a1,p1)=>some (1,(Aqo a0 a1).pk (AF nx),nx+0,AE nx (Aqm a0 a1)++o,p0++(p1++(Aja a0 a1)))
  |_,_=>none
 |_,_,_=>none
theorem A9h:Fu Try.prog 67 Aer:=fun args nx o k x nx' o' ps h=>by
 unfold Aer at h
 split at h<;>first|(cases h;done)|skip
 split at h<;>first|(cases h;done)|skip
 rename_i a0 p0 a1 p1 e0 e1
 cases h
 refine⟨fun hp=>?_,_,rfl⟩
 have q0:=fun p hm=>hp p (List.mem_append.2 (.inl hm))
 have r0:=fun p hm=>hp p (List.mem_append.2 (.inr hm))
 have q1:=fun p hm=>r0 p (List.mem_append.2 (.inl hm))
 have r1:=fun p hm=>r0 p (List.mem_append.2 (.inr hm))
 refine Ah (Ag (Bfo a0 a1 r1) (Nat.le_refl _) (Ac (Af _ _) (Ac (Af _ _) Ao)) nx o) fun F N R vs hl=>?_
 obtain⟨v0,w0,rfl,h0,hl⟩:=hl.inv
 obtain⟨v1,w1,rfl,h1,hl⟩:=hl.inv
 exact HL.cons (Am e0 q0 h0) (HL.cons (Am e1 q1 h1) (hl))
noncomputable def Bq4:=A5 67 Aer Bq3
theorem A52:Df Try.prog Bq4:=Av A9h A51
abbrev C8:Type:=Int×TRow
def MJ (x:C8):St:=⟨19,1,[(1,.own 0 0),(3,.v (.int .i64 x.1))],[(0,some (.box 71 [.v (.string x.2.key),.sl .cell x.2.cells]))]⟩
def Pq:St→Option C8
 |⟨19,1,[(1,.own 0 0),(3,.v (.int .i64 z0))],[(0,some (.box 71 [.v (.string z1),.sl .cell z2]))]⟩=>some (z0,⟨z1,z2⟩)
 |_=>none
theorem Ams:∀s x,Pq s=some x→s=MJ x:=fun s x h=>by
 unfold Pq at h
 split at h
 ·cases h;rfl
 ·cases h
def Aay:De:=⟨1,1,[1,3],[],[(0,0)],[0],[2],[0]⟩
def A2v:Dy:=⟨[],[(0,0)],[1,3],[0]⟩
def In (a0:Int) (a1:TRow):Bool:=!!decide (a0 <(↑a1.2.length:Int))
def E8 (a0:Int) (a1:TRow):Bool:=(In a0 a1)&&!eqC (a1.2.getD a0.toNat (Ae TC.cell)) (TCell.mk (TStamp.mk (0:Int) (0:Int)) (TVec.mk (0:Int) (0:Int)) false (ByteArray.mk #[]) (TVec.mk (0:Int) (0:Int)))
def As7 (a0:Int) (a1:TRow):Bool:=(In a0 a1)&&!(E8 a0 a1)
def GT (x:C8):C8:=(IntKind.i64.wrap (x.1+(1:Int)),x.2)
def GS (x:C8):Cnd:=some (As7 x.1 x.2)
def Vh (x:C8):List Prop:=[((In x.1 x.2)=true→(0:Int)≤x.1∧x.1 <(↑x.2.2.length:Int))]
def JM (x:C8):List Prop:=[((In x.1 x.2)=true→(0:Int)≤x.1∧x.1 <(↑x.2.2.length:Int))]
def S8 (x:C8):Bl:=[(some 0,some (!decide (x.1 <(↑x.2.2.length:Int))),⟨19,1,[(2,.dead)],[(0,some (.box 71 [.v (.string x.2.1),.sl .cell x.2.2]))]⟩),(none,some ((E8 x.1 x.2)),⟨19,1,[(2,.v (.bool (false)))],[(0,some (.box 71 [.v (.string x.2.1),.sl .cell x.2.2]))]⟩)]
def Io (x:C8):Nat:=((↑x.2.2.length:Int) - x.1).toNat
def Nw (x:C8):C8:=A9 GT GS (Io x) x
set_option maxRecDepth 100000 in
theorem Azf (a0:Int) (a1:TRow):Bx (AA Bq4 L0) 9 (Aj Try.prog 68 0) Aay (MJ (a0,a1))=some (Vh (a0,a1),S8 (a0,a1),GS (a0,a1),MJ (GT (a0,a1))):=by kernel_rfl
set_option maxRecDepth 100000 in
theorem Azg (a0:Int) (a1:TRow) (hp:∀p∈JM (a0,a1),p):∀p∈Vh (a0,a1),p:=by
 have n0:=N0 hp
 exact(Aa n0 Ab)
noncomputable def Vi:=HU (AA Bq4 L0) (Aj Try.prog 68 0) Aay A2v Pq Io GT GS JM S8
theorem As8:∀s b ps outs,Vi s=some (b,ps,outs)→Wf s ⟨ps,outs,none⟩∧Bs (AA C0 L0) b s ps outs:=
 Bi (T:=MJ) A52 AG (u:=9) (by kernel_rfl) (by decide) (fun⟨a0,a1⟩=>Azf a0 a1) (fun⟨a0,a1⟩=>Azg a0 a1) Ams (fun _=>AR (n:=19) rfl) fun _ _=>rfl
noncomputable def Aax:=DG 0 Vi L0
theorem As6:Hs Aax:=A3 As8 AG
def Ad9 (a0:TRow):Bool:=bif E8 (Nw ((0:Int),a0)).fst (Nw ((0:Int),a0)).snd then false else true
def Aea (a0:TRow):A:=.v (.bool (Ad9 a0))
def Azh (_a0:TRow):Objs:=[]
def Ap7 (a0:TRow):List Prop:=[(AL GT GS JM (Io ((0:Int),a0)) ((0:Int),a0))]
set_option maxRecDepth 100000 in
theorem Bfd (a0:TRow):EU (AA Bq4 Aax) 9 68 [Ak .row a0] 0 []=some (1,Aea a0,0,Azh a0,[(Aj Try.prog (68:FuncId) (0:Nat)=Aj Try.prog (68:FuncId) (0:Nat)),(AL GT GS JM (Io ((0:Int),a0)) ((0:Int),a0))]):=by kernel_rfl
set_option maxRecDepth 100000 in
theorem Bjh (a0:TRow) (hp:∀p∈Ap7 a0,p):CallOk Try.prog 68 [Ak .row a0] 0 [] 1 (Aea a0) 0 (Azh a0):=by
 have n1:=N0 hp
 exact AH (Aw A52 As6) (Bfd a0) (Aa rfl (Aa n1 Ab))
def Ap8 (a0:TRow):A:=.v (.bool (FG a0))
def Ap6 (_a0:TRow):Objs:=[]
def Aix (a0:TRow):List Prop:=[Ai a0.cells.length]
theorem Ap5 (a:TRow) (hb:Ai a.cells.length):(∀p∈Ap7 a,p)∧Ad9 a=FG a:=by
 unfold Ai at hb
 have hf:∀i:Nat,E8 (i:Int) a=(decide (i <a.cells.length)&&!eqC (a.2.getD i (Ae TC.cell)) zeroC):=fun i=>by
  unfold E8 In
  rw[nn,MA,Int.toNat_natCast]
  rfl
 obtain⟨h1,k,hk,hx,_,_,hb'⟩:=I6 (fun i=>(((i:Int),a):C8)) a.cells.length (fun i=>!eqC (a.2.getD i (Ae TC.cell)) zeroC) GT GS JM (Io (0,a)) (0,a) rfl (by show a.cells.length≤((a.cells.length:Int) - 0).toNat;omega)
  (fun i _ _=>by
   show((!!decide ((i:Int) <(a.cells.length:Int)))&&!E8 i a)=_
   rw[hf,nn,MA]
   cases decide (i <a.cells.length)<;>rfl)
  (fun i hi _=>by
   show(IntKind.i64.wrap ((i:Int)+1),a)=(((i+1:Nat):Int),a)
   rw[ES (by omega)])
  (fun i _ _=>Aa (fun h=>⟨by show(0:Int)≤(i:Int);omega,by
   have h':(!!decide ((i:Int) <(a.cells.length:Int)))=true:=h
   rw[nn] at h';exact of_decide_eq_true h'⟩) Ab)
 refine⟨Aa h1 Ab,?_⟩
 have hr:Nw (0,a)=((k:Int),a):=hx
 unfold Ad9
 rw[hr]
 show(bif E8 (k:Int) a then false else true)=_
 rw[hf,hb']
 unfold FG
 rw[Brs a.cells (Ae TC.cell)]
 rw[show Ko a.cells.length (fun i=>!!eqC (a.2.getD i (Ae TC.cell)) zeroC)=Ko a.cells.length (fun i=>eqC (a.cells.getD i (Ae TC.cell)) zeroC) from IK fun i _=>Bool.not_not _]
 cases Ko a.cells.length (fun i=>eqC (a.cells.getD i (Ae TC.cell)) zeroC)<;>rfl
theorem Bfc (a0:TRow) (hp:∀p∈Aix a0,p):CallOk Try.prog 68 [Ak .row a0] 0 [] 1 (Ap8 a0) 0 (Ap6 a0):=by
 have hb:Ai a0.cells.length:=hp _ (List.mem_cons_self ..)
 have h:=Bjh a0 (Ap5 a0 hb).1
 unfold Aea at h
 rw[(Ap5 a0 hb).2] at h
 exact h
def Aeb:List A→Nat→Objs→Option A8
 | [y0],nx,o=>match AP .row y0 with
  |some (a0,p0)=>some (1,(Ap8 a0).pk (AF nx),nx+0,AE nx (Ap6 a0)++o,p0++(Aix a0))
  |_=>none
 |_,_,_=>none
theorem A88:Fu Try.prog 68 Aeb:=fun args nx o k x nx' o' ps h=>by
 unfold Aeb at h
 split at h<;>first|(cases h;done)|skip
 split at h<;>first|(cases h;done)|skip
 rename_i a0 p0 e0
 cases h
 refine⟨fun hp=>?_,_,rfl⟩
 have q0:=fun p hm=>hp p (List.mem_append.2 (.inl hm))
 have r0:=fun p hm=>hp p (List.mem_append.2 (.inr hm))
 refine Ah (Ag (Bfc a0 r0) (Nat.le_refl _) (Ac (Af _ _) Ao) nx o) fun F N R vs hl=>?_
 obtain⟨v0,w0,rfl,h0,hl⟩:=hl.inv
 exact HL.cons (Am e0 q0 h0) (hl)
noncomputable def Bq5:=A5 68 Aeb Bq4
theorem A53:Df Try.prog Bq5:=Av A88 A52
abbrev CE:Type:=(List TCell)×Int×Int
def MQ (x:CE):St:=⟨16,1,[(6,.sl .cell x.1),(7,.v (.int .i64 x.2.1)),(8,.v (.int .i64 x.2.2))],[]⟩
def PF:St→Option CE
 |⟨16,1,[(6,.sl .cell z0),(7,.v (.int .i64 z1)),(8,.v (.int .i64 z2))],[]⟩=>some (z0,z1,z2)
 |_=>none
theorem Ans:∀s x,PF s=some x→s=MQ x:=fun s x h=>by
 unfold PF at h
 split at h
 ·cases h;rfl
 ·cases h
def Abh:De:=⟨1,1,[6,7,8],[],[],[],[2],[]⟩
def A3a:Dy:=⟨[],[],[6,7,8],[]⟩
def Fl (a0:List TCell) (a1:Int) (a2:Int):Bool:=!!decide (a2 <a1)&&!((a0.getD a2.toNat (Ae TC.cell)).1.1==(0:Int)&&(a0.getD a2.toNat (Ae TC.cell)).1.2==(0:Int)&&((a0.getD a2.toNat (Ae TC.cell)).2.1==(0:Int)&&(a0.getD a2.toNat (Ae TC.cell)).2.2==(0:Int)&&((a0.getD a2.toNat (Ae TC.cell)).3==false&&((a0.getD a2.toNat (Ae TC.cell)).4.toList==(ByteArray.mk #[]).toList&&((a0.getD a2.toNat (Ae TC.cell)).5.1==(0:Int)&&(a0.getD a2.toNat (Ae TC.cell)).5.2==(0:Int))))))
def At3 (a0:List TCell) (a1:Int) (a2:Int):Bool:=!!decide (a2 <a1)&&!(Fl a0 a1 a2)
def G5 (x:CE):CE:=(x.1,x.2.1,IntKind.i64.wrap (x.2.2+(1:Int)))
def G4 (x:CE):Cnd:=some (At3 x.1 x.2.1 x.2.2)
def VB (x:CE):List Prop:=[((!!decide (x.2.2 <x.2.1))=true→(0:Int)≤x.2.2∧x.2.2 <(↑x.1.length:Int))]
def JW (x:CE):List Prop:=[((!!decide (x.2.2 <x.2.1))=true→(0:Int)≤x.2.2∧x.2.2 <(↑x.1.length:Int))]
def Tn (x:CE):Bl:=[(some 0,some (!decide (x.2.2 <x.2.1)),⟨16,1,[(2,.dead)],[]⟩),(none,some ((Fl x.1 x.2.1 x.2.2)),⟨16,2,[(2,.v (.bool (false)))],[]⟩)]
def Ix (x:CE):Nat:=(x.2.1 - x.2.2).toNat
def At5 (x:CE):CE:=A9 G5 G4 (Ix x) x
set_option maxRecDepth 100000 in
theorem A0i (a0:List TCell) (a1:Int) (a2:Int):Bx (AA Bq5 L0) 9 (Aj Try.prog 52 0) Abh (MQ (a0,a1,a2))=some (VB (a0,a1,a2),Tn (a0,a1,a2),G4 (a0,a1,a2),MQ (G5 (a0,a1,a2))):=by kernel_rfl
set_option maxRecDepth 100000 in
theorem A0j (a0:List TCell) (a1:Int) (a2:Int) (hp:∀p∈JW (a0,a1,a2),p):∀p∈VB (a0,a1,a2),p:=by
 have n0:=N0 hp
 exact(Aa n0 Ab)
noncomputable def VC:=HU (AA Bq5 L0) (Aj Try.prog 52 0) Abh A3a PF Ix G5 G4 JW Tn
theorem At4:∀s b ps outs,VC s=some (b,ps,outs)→Wf s ⟨ps,outs,none⟩∧Bs (AA C0 L0) b s ps outs:=
 Bi (T:=MQ) A53 AG (u:=9) (by kernel_rfl) (by decide) (fun⟨a0,a1,a2⟩=>A0i a0 a1 a2) (fun⟨a0,a1,a2⟩=>A0j a0 a1 a2) Ans (fun _=>AR (n:=16) rfl) fun _ _=>rfl
noncomputable def Abg:=DG 0 VC L0
theorem At2:Hs Abg:=A3 At4 AG
def QL (a0:TRow):CE:=At5 (a0.2,(↑a0.2.length:Int),(0:Int))
def Ae4 (a0:TRow):Bool:=bif Fl (QL a0).fst (QL a0).snd.fst (QL a0).snd.snd then false else true
def Ae5 (a0:TRow):A:=.v (.bool (Ae4 a0))
def A0k (_a0:TRow):Objs:=[]
def Aq3 (a0:TRow):List Prop:=[(AL G5 G4 JW (Ix (a0.2,(↑a0.2.length:Int),(0:Int))) (a0.2,(↑a0.2.length:Int),(0:Int)))]
set_option maxRecDepth 100000 in
theorem Bf5 (a0:TRow):EU (AA Bq5 Abg) 9 52 [Ak .row a0] 0 []=some (1,Ae5 a0,0,A0k a0,[(Aj Try.prog (52:FuncId) (0:Nat)=Aj Try.prog (52:FuncId) (0:Nat)),(AL G5 G4 JW (Ix (a0.2,(↑a0.2.length:Int),(0:Int))) (a0.2,(↑a0.2.length:Int),(0:Int)))]):=by kernel_rfl
set_option maxRecDepth 100000 in
theorem Bj3 (a0:TRow) (hp:∀p∈Aq3 a0,p):CallOk Try.prog 52 [Ak .row a0] 0 [] 1 (Ae5 a0) 0 (A0k a0):=by
 have n1:=N0 hp
 exact AH (Aw A53 At2) (Bf5 a0) (Aa rfl (Aa n1 Ab))
def Aq4 (a0:TRow):A:=.v (.bool (FG a0))
def Aq2 (_a0:TRow):Objs:=[]
def Ajk (a0:TRow):List Prop:=[Ai a0.cells.length]
theorem Aq1 (a:TRow) (hb:Ai a.cells.length):(∀p∈Aq3 a,p)∧Ae4 a=FG a:=by
 unfold Ai at hb
 have hz:∀c:TCell,(c.1.1==(0:Int)&&c.1.2==(0:Int)&&(c.2.1==(0:Int)&&c.2.2==(0:Int)&&(c.3==false&&(c.4.toList==(ByteArray.mk #[]).toList&&(c.5.1==(0:Int)&&c.5.2==(0:Int))))))=eqC c zeroC:=fun c=>by
  rw[tlb]
  unfold eqC zeroC
  simp only[Bool.and_assoc]
 have hf:∀i:Nat,Fl a.2 (a.2.length:Int) (i:Int)=(decide (i <a.cells.length)&&!eqC (a.2.getD i (Ae TC.cell)) zeroC):=fun i=>by
  unfold Fl
  rw[nn,MA,Int.toNat_natCast,hz]
 obtain⟨h1,k,hk,hx,_,_,hb'⟩:=I6 (fun i=>((a.2,(a.2.length:Int),(i:Int)):CE)) a.cells.length (fun i=>!eqC (a.2.getD i (Ae TC.cell)) zeroC) G5 G4 JW (Ix (a.2,(a.2.length:Int),0)) (a.2,(a.2.length:Int),0) rfl (by show a.cells.length≤((a.cells.length:Int) - 0).toNat;omega)
  (fun i _ _=>by
   show((!!decide ((i:Int) <(a.cells.length:Int)))&&!Fl a.2 (a.2.length:Int) i)=_
   rw[hf,nn,MA]
   cases decide (i <a.cells.length)<;>rfl)
  (fun i hi _=>by
   show(a.2,(a.2.length:Int),IntKind.i64.wrap ((i:Int)+1))=(a.2,(a.2.length:Int),((i+1:Nat):Int))
   rw[ES (by omega)])
  (fun i _ _=>Aa (fun h=>⟨by show(0:Int)≤(i:Int);omega,by
   have h':(!!decide ((i:Int) <(a.cells.length:Int)))=true:=h
   rw[nn] at h';exact of_decide_eq_true h'⟩) Ab)
 refine⟨Aa h1 Ab,?_⟩
 have hr:QL a=(a.2,(a.2.length:Int),(k:Int)):=hx
 unfold Ae4
 rw[hr]
 show(bif Fl a.2 (a.2.length:Int) (k:Int) then false else true)=_
 rw[hf,hb']
 unfold FG
 rw[Brs a.cells (Ae TC.cell)]
 rw[show Ko a.cells.length (fun i=>!!eqC (a.2.getD i (Ae TC.cell)) zeroC)=Ko a.cells.length (fun i=>eqC (a.cells.getD i (Ae TC.cell)) zeroC) from IK fun i _=>Bool.not_not _]
 cases Ko a.cells.length (fun i=>eqC (a.cells.getD i (Ae TC.cell)) zeroC)<;>rfl
theorem Bf4 (a0:TRow) (hp:∀p∈Ajk a0,p):CallOk Try.prog 52 [Ak .row a0] 0 [] 1 (Aq4 a0) 0 (Aq2 a0):=by
 have hb:Ai a0.cells.length:=hp _ (List.mem_cons_self ..)
 have h:=Bj3 a0 (Aq1 a0 hb).1
 unfold Ae5 at h
 rw[(Aq1 a0 hb).2] at h
 exact h
def Ae6:List A→Nat→Objs→Option A8
 | [y0],nx,o=>match AP .row y0 with
  |some (a0,p0)=>some (1,(Aq4 a0).pk (AF nx),nx+0,AE nx (Aq2 a0)++o,p0++(Ajk a0))
  |_=>none
 |_,_,_=>none
theorem A9t:Fu Try.prog 52 Ae6:=fun args nx o k x nx' o' ps h=>by
 unfold Ae6 at h
 split at h<;>first|(cases h;done)|skip
 split at h<;>first|(cases h;done)|skip
 rename_i a0 p0 e0
 cases h
 refine⟨fun hp=>?_,_,rfl⟩
 have q0:=fun p hm=>hp p (List.mem_append.2 (.inl hm))
 have r0:=fun p hm=>hp p (List.mem_append.2 (.inr hm))
 refine Ah (Ag (Bf4 a0 r0) (Nat.le_refl _) (Ac (Af _ _) Ao) nx o) fun F N R vs hl=>?_
 obtain⟨v0,w0,rfl,h0,hl⟩:=hl.inv
 exact HL.cons (Am e0 q0 h0) (hl)
noncomputable def B11:=A5 52 Ae6 Bq5
theorem Bv2:Df Try.prog B11:=Av A9t A53
noncomputable def Cj:=B11
theorem By4:Df Try.prog Cj:=Bv2
end Go.Proofs.Yteebobbhhgmeiaa
namespace Go.Proofs.Yteebobbhhgmeiaa
open Go.RowKit
def Ng (a b:TVec):TVec:=⟨max (max 0 a.a) b.a,max (max 0 a.b) b.b⟩
def Acp (c:TCell):TVec:=Ng c.vec c.dead
def JC (cs:List TCell):TVec:=cs.foldl (fun v c=>Ng v (Acp c)) ⟨0,0⟩
def VS (l:List TGroup) (k:ByteArray):Int:=bif AY l !=0 then AY l else Sm k
def Aie (l:List TGroup) (k:ByteArray):TRow:=⟨bif VS l k !=0 then⟨#[]⟩ else k,bif VS l k !=0 then[] else List.replicate l.length zeroC⟩
noncomputable def B0a:=A5 155 (inl (AA Cj L0) 4 155) Cj
theorem Blj:Df Try.prog B0a:=Av (Acm (Aw By4 AG) 4 155) By4
noncomputable def B0b:=A5 109 (inl (AA B0a L0) 4 109) B0a
theorem Blk:Df Try.prog B0b:=Av (Acm (Aw Blj AG) 4 109) Blj
def S4 (a0:TVec) (a1:TVec):TVec:=TVec.mk (max (max (0:Int) a0.1) a1.1) (max (max (0:Int) a0.2) a1.2)
def Ami (a0:TVec) (a1:TVec):A:=.v (.agg ⟨[.int .i64 ((S4 a0 a1).a),.int .i64 ((S4 a0 a1).b)]⟩)
def Amh (_a0:TVec) (_a1:TVec):Objs:=[]
def Ays (_a0:TVec) (_a1:TVec):List Prop:=[]
set_option maxRecDepth 100000 in
theorem Bi2 (a0:TVec) (a1:TVec):EU (AA B0b L0) 9 110 [Ak .vec a0,Ak .vec a1] 0 []=some (1,Ami a0 a1,0,Amh a0 a1,[((0:Int)≤(0:Int)∧(0:Int) <(↑(2:Nat):Int)),((0:Nat) <(2:Nat)),((0:Int)≤(0:Int)∧(0:Int) <(↑(2:Nat):Int)),((0:Nat) <(2:Nat)),((0:Int)≤(1:Int)∧(1:Int) <(↑(2:Nat):Int)),((1:Nat) <(2:Nat)),((0:Int)≤(1:Int)∧(1:Int) <(↑(2:Nat):Int)),((1:Nat) <(2:Nat))]):=by kernel_rfl
set_option maxRecDepth 100000 in
theorem Bo8 (a0:TVec) (a1:TVec) (_hp:∀p∈Ays a0 a1,p):CallOk Try.prog 110 [Ak .vec a0,Ak .vec a1] 0 [] 1 (Ami a0 a1) 0 (Amh a0 a1):=by
 have n0:((0:Int)≤(0:Int)∧(0:Int) <(↑(2:Nat):Int)):=by first|rfl|decide+kernel
 have n1:((0:Nat) <(2:Nat)):=by first|rfl|decide+kernel
 have n4:((0:Int)≤(1:Int)∧(1:Int) <(↑(2:Nat):Int)):=by first|rfl|decide+kernel
 have n5:((1:Nat) <(2:Nat)):=by first|rfl|decide+kernel
 exact AH (Aw Blk AG) (Bi2 a0 a1) (Aa n0 (Aa n1 (Aa n0 (Aa n1 (Aa n4 (Aa n5 (Aa n4 (Aa n5 Ab))))))))
def Amj:List A→Nat→Objs→Option A8
 | [y0,y1],nx,o=>match AP .vec y0,AP .vec y1 with
  |some (a0,p0),some (a1,p1)=>some (1,(Ami a0 a1).pk (AF nx),nx+0,AE nx (Amh a0 a1)++o,p0++(p1++(Ays a0 a1)))
  |_,_=>none
 |_,_,_=>none
theorem Bev:Fu Try.prog 110 Amj:=fun args nx o k x nx' o' ps h=>by
 unfold Amj at h
 split at h<;>first|(cases h;done)|skip
 split at h<;>first|(cases h;done)|skip
 rename_i a0 p0 a1 p1 e0 e1
 cases h
 refine⟨fun hp=>?_,_,rfl⟩
 have q0:=fun p hm=>hp p (List.mem_append.2 (.inl hm))
 have r0:=fun p hm=>hp p (List.mem_append.2 (.inr hm))
 have q1:=fun p hm=>r0 p (List.mem_append.2 (.inl hm))
 have r1:=fun p hm=>r0 p (List.mem_append.2 (.inr hm))
 refine Ah (Ag (Bo8 a0 a1 r1) (Nat.le_refl _) (Ac (Af _ _) (Ac (Af _ _) Ao)) nx o) fun F N R vs hl=>?_
 obtain⟨v0,w0,rfl,h0,hl⟩:=hl.inv
 obtain⟨v1,w1,rfl,h1,hl⟩:=hl.inv
 exact HL.cons (Am e0 q0 h0) (HL.cons (Am e1 q1 h1) (hl))
noncomputable def B0c:=A5 110 Amj B0b
theorem Bll:Df Try.prog B0c:=Av Bev Blk
def XT (a0:TCell):TVec:=S4 a0.2 a0.5
def XV (a0:TCell):A:=.v (.agg ⟨[.int .i64 ((XT a0).a),.int .i64 ((XT a0).b)]⟩)
def XU (_a0:TCell):Objs:=[]
def Ait (_a0:TCell):List Prop:=[]
set_option maxRecDepth 100000 in
theorem A82 (a0:TCell):EU (AA B0c L0) 9 44 [Ak .cell a0] 0 []=some (1,XV a0,0,XU a0,[]):=by kernel_rfl
set_option maxRecDepth 100000 in
theorem Be1 (a0:TCell) (_hp:∀p∈Ait a0,p):CallOk Try.prog 44 [Ak .cell a0] 0 [] 1 (XV a0) 0 (XU a0):=by
 exact AH (Aw Bll AG) (A82 a0) Ab
def XW:List A→Nat→Objs→Option A8
 | [y0],nx,o=>match AP .cell y0 with
  |some (a0,p0)=>some (1,(XV a0).pk (AF nx),nx+0,AE nx (XU a0)++o,p0++(Ait a0))
  |_=>none
 |_,_,_=>none
theorem A2r:Fu Try.prog 44 XW:=fun args nx o k x nx' o' ps h=>by
 unfold XW at h
 split at h<;>first|(cases h;done)|skip
 split at h<;>first|(cases h;done)|skip
 rename_i a0 p0 e0
 cases h
 refine⟨fun hp=>?_,_,rfl⟩
 have q0:=fun p hm=>hp p (List.mem_append.2 (.inl hm))
 have r0:=fun p hm=>hp p (List.mem_append.2 (.inr hm))
 refine Ah (Ag (Be1 a0 r0) (Nat.le_refl _) (Ac (Af _ _) Ao) nx o) fun F N R vs hl=>?_
 obtain⟨v0,w0,rfl,h0,hl⟩:=hl.inv
 exact HL.cons (Am e0 q0 h0) (hl)
noncomputable def B0d:=A5 44 XW B0c
theorem Blm:Df Try.prog B0d:=Av A2r Bll
def K7 (a0:TCell):TVec:=TVec.mk (max (max (0:Int) a0.2.1) a0.5.1) (max (max (0:Int) a0.2.2) a0.5.2)
def TG (a0:TCell):A:=.v (.agg ⟨[.int .i64 ((K7 a0).a),.int .i64 ((K7 a0).b)]⟩)
def TF (_a0:TCell):Objs:=[]
def ZR (_a0:TCell):List Prop:=[]
set_option maxRecDepth 100000 in
theorem A1i (a0:TCell):EU (AA B0d L0) 9 43 [Ak .cell a0] 0 []=some (1,TG a0,0,TF a0,[((0:Int)≤(0:Int)∧(0:Int) <(↑(2:Nat):Int)),((0:Nat) <(2:Nat)),((0:Int)≤(0:Int)∧(0:Int) <(2:Int)),((0:Nat) <(2:Nat)),((0:Int)≤(0:Int)∧(0:Int) <(2:Int)),((0:Nat) <(2:Nat)),((0:Int)≤(0:Int)∧(0:Int) <(2:Int)),((0:Nat) <(2:Nat)),((0:Int)≤(1:Int)∧(1:Int) <(2:Int)),((1:Nat) <(2:Nat)),((0:Int)≤(1:Int)∧(1:Int) <(2:Int)),((1:Nat) <(2:Nat)),((0:Int)≤(1:Int)∧(1:Int) <(2:Int)),((1:Nat) <(2:Nat)),((0:Int)≤(1:Int)∧(1:Int) <(↑(2:Nat):Int)),((1:Nat) <(2:Nat)),((0:Int)≤(0:Int)∧(0:Int) <(2:Int)),((0:Nat) <(2:Nat)),((0:Int)≤(0:Int)∧(0:Int) <(2:Int)),((0:Nat) <(2:Nat)),((0:Int)≤(0:Int)∧(0:Int) <(2:Int)),((0:Nat) <(2:Nat)),((0:Int)≤(1:Int)∧(1:Int) <(2:Int)),((1:Nat) <(2:Nat)),((0:Int)≤(1:Int)∧(1:Int) <(2:Int)),((1:Nat) <(2:Nat)),((0:Int)≤(1:Int)∧(1:Int) <(2:Int)),((1:Nat) <(2:Nat))]):=by kernel_rfl
set_option maxRecDepth 100000 in
theorem A6n (a0:TCell) (_hp:∀p∈ZR a0,p):CallOk Try.prog 43 [Ak .cell a0] 0 [] 1 (TG a0) 0 (TF a0):=by
 have n0:((0:Int)≤(0:Int)∧(0:Int) <(↑(2:Nat):Int)):=by first|rfl|decide+kernel
 have n1:((0:Nat) <(2:Nat)):=by first|rfl|decide+kernel
 have n2:((0:Int)≤(0:Int)∧(0:Int) <(2:Int)):=by first|rfl|decide+kernel
 have n8:((0:Int)≤(1:Int)∧(1:Int) <(2:Int)):=by first|rfl|decide+kernel
 have n9:((1:Nat) <(2:Nat)):=by first|rfl|decide+kernel
 have n14:((0:Int)≤(1:Int)∧(1:Int) <(↑(2:Nat):Int)):=by first|rfl|decide+kernel
 exact AH (Aw Blm AG) (A1i a0) (Aa n0 (Aa n1 (Aa n2 (Aa n1 (Aa n2 (Aa n1 (Aa n2 (Aa n1 (Aa n8 (Aa n9 (Aa n8 (Aa n9 (Aa n8 (Aa n9 (Aa n14 (Aa n9 (Aa n2 (Aa n1 (Aa n2 (Aa n1 (Aa n2 (Aa n1 (Aa n8 (Aa n9 (Aa n8 (Aa n9 (Aa n8 (Aa n9 Ab))))))))))))))))))))))))))))
def TH:List A→Nat→Objs→Option A8
 | [y0],nx,o=>match AP .cell y0 with
  |some (a0,p0)=>some (1,(TG a0).pk (AF nx),nx+0,AE nx (TF a0)++o,p0++(ZR a0))
  |_=>none
 |_,_,_=>none
theorem Avm:Fu Try.prog 43 TH:=fun args nx o k x nx' o' ps h=>by
 unfold TH at h
 split at h<;>first|(cases h;done)|skip
 split at h<;>first|(cases h;done)|skip
 rename_i a0 p0 e0
 cases h
 refine⟨fun hp=>?_,_,rfl⟩
 have q0:=fun p hm=>hp p (List.mem_append.2 (.inl hm))
 have r0:=fun p hm=>hp p (List.mem_append.2 (.inr hm))
 refine Ah (Ag (A6n a0 r0) (Nat.le_refl _) (Ac (Af _ _) Ao) nx o) fun F N R vs hl=>?_
 obtain⟨v0,w0,rfl,h0,hl⟩:=hl.inv
 exact HL.cons (Am e0 q0 h0) (hl)
noncomputable def Bq7:=A5 43 TH B0d
theorem A54:Df Try.prog Bq7:=Av Avm Blm
abbrev Cv:Type:=Int×TRow×TVec
def LM (x:Cv):St:=⟨21,3,[(1,.own 0 0),(3,.own 2 0),(4,.v (.int .i64 x.1))],[(0,some (.box 71 [.v (.string x.2.1.key),.sl .cell x.2.1.cells])),(2,some (.box 31 [.v (.int .i64 x.2.2.a),.v (.int .i64 x.2.2.b)]))]⟩
def NA:St→Option Cv
 |⟨21,3,[(1,.own 0 0),(3,.own 2 0),(4,.v (.int .i64 z0))],[(0,some (.box 71 [.v (.string z1),.sl .cell z2])),(2,some (.box 31 [.v (.int .i64 z3),.v (.int .i64 z4)]))]⟩=>some (z0,⟨z1,z2⟩,⟨z3,z4⟩)
 |_=>none
theorem Ai5:∀s x,NA s=some x→s=LM x:=fun s x h=>by
 unfold NA at h
 split at h
 ·cases h;rfl
 ·cases h
def X8:De:=⟨3,3,[1,3,4],[],[(0,0),(2,2)],[0,2],[],[0,2]⟩
def Azq:Dy:=⟨[],[(0,0),(2,2)],[1,3,4],[0,2]⟩
def LN (a0:Int) (a1:TRow) (_a2:TVec):Bool:=!!decide (a0 <(↑a1.2.length:Int))
def Am2 (a0:Int) (a1:TRow) (a2:TVec):TVec:=S4 a2 (XT (a1.2.getD a0.toNat (Ae TC.cell)))
def FV (x:Cv):Cv:=(IntKind.i64.wrap (x.1+(1:Int)),x.2.1,Am2 x.1 x.2.1 x.2.2)
def FU (x:Cv):Cnd:=some ((LN x.1 x.2.1 x.2.2))
def Td (x:Cv):List Prop:=[((LN x.1 x.2.1 x.2.2)=true→(0:Int)≤x.1∧x.1 <(↑x.2.1.2.length:Int))]
def I2 (x:Cv):List Prop:=[((LN x.1 x.2.1 x.2.2)=true→(0:Int)≤x.1∧x.1 <(↑x.2.1.2.length:Int))]
def QE (x:Cv):Bl:=[(some 0,some (!decide (x.1 <(↑x.2.1.2.length:Int))),⟨21,3,[],[(0,some (.box 71 [.v (.string x.2.1.1),.sl .cell x.2.1.2])),(2,some (.box 31 [.v (.int .i64 x.2.2.1),.v (.int .i64 x.2.2.2)]))]⟩)]
def HT (x:Cv):Nat:=((↑x.2.1.2.length:Int) - x.1).toNat
def Mt (x:Cv):Cv:=A9 FV FU (HT x) x
set_option maxRecDepth 100000 in
theorem Ath (a0:Int) (a1:TRow) (a2:TVec):Bx (AA Bq7 L0) 9 (Aj Try.prog 70 0) X8 (LM (a0,a1,a2))=some (Td (a0,a1,a2),QE (a0,a1,a2),FU (a0,a1,a2),LM (FV (a0,a1,a2))):=by kernel_rfl
set_option maxRecDepth 100000 in
theorem Ati (a0:Int) (a1:TRow) (a2:TVec) (hp:∀p∈I2 (a0,a1,a2),p):∀p∈Td (a0,a1,a2),p:=by
 have n0:=N0 hp
 exact(Aa n0 Ab)
noncomputable def Te:=HU (AA Bq7 L0) (Aj Try.prog 70 0) X8 Azq NA HT FV FU I2 QE
theorem Am3:∀s b ps outs,Te s=some (b,ps,outs)→Wf s ⟨ps,outs,none⟩∧Bs (AA C0 L0) b s ps outs:=
 Bi (T:=LM) A54 AG (u:=9) (by kernel_rfl) (by decide) (fun⟨a0,a1,a2⟩=>Ath a0 a1 a2) (fun⟨a0,a1,a2⟩=>Ati a0 a1 a2) Ai5 (fun _=>AR (n:=21) rfl) fun _ _=>rfl
noncomputable def X7:=DG 0 Te L0
theorem Am1:Hs X7:=A3 Am3 AG
def X6 (a0:TRow):TVec:=(Mt ((0:Int),a0,TVec.mk (0:Int) (0:Int))).snd.snd
def X9 (a0:TRow):A:=.v (.agg ⟨[.int .i64 ((X6 a0).a),.int .i64 ((X6 a0).b)]⟩)
def Aqj (_a0:TRow):Objs:=[]
def Ai7 (a0:TRow):List Prop:=[(AL FV FU I2 (HT ((0:Int),a0,TVec.mk (0:Int) (0:Int))) ((0:Int),a0,TVec.mk (0:Int) (0:Int)))]
set_option maxRecDepth 100000 in
theorem A9g (a0:TRow):EU (AA Bq7 X7) 9 70 [Ak .row a0] 0 []=some (1,X9 a0,0,Aqj a0,[(Aj Try.prog (70:FuncId) (0:Nat)=Aj Try.prog (70:FuncId) (0:Nat)),(AL FV FU I2 (HT ((0:Int),a0,TVec.mk (0:Int) (0:Int))) ((0:Int),a0,TVec.mk (0:Int) (0:Int)))]):=by kernel_rfl
set_option maxRecDepth 100000 in
theorem Bfm (a0:TRow) (hp:∀p∈Ai7 a0,p):CallOk Try.prog 70 [Ak .row a0] 0 [] 1 (X9 a0) 0 (Aqj a0):=by
 have n1:=N0 hp
 exact AH (Aw A54 Am1) (A9g a0) (Aa rfl (Aa n1 Ab))
def Ai8 (a0:TRow):A:=.v (.agg ⟨[.int .i64 (JC a0.cells).a,.int .i64 (JC a0.cells).b]⟩)
def Ai6 (_a0:TRow):Objs:=[]
def Aa4 (a0:TRow):List Prop:=[Az a0.cells.length]
theorem Aox (cs:List TCell) (i:Nat) (h:i <cs.length):JC (cs.take (i+1))=Ng (JC (cs.take i)) (Acp (cs.getD i (Ae TC.cell))):=by
 unfold JC
 rw[List.take_add_one,List.getElem?_eq_getElem h,List.getD_eq_getElem?_getD,List.getElem?_eq_getElem h,List.foldl_append]
 rfl
theorem Ai4 (a:TRow) (hb:Az a.cells.length):(∀p∈Ai7 a,p)∧X6 a=JC a.cells:=by
 unfold Az at hb
 obtain⟨h1,k,hk,hx,_,hst,_⟩:=I6 (fun i=>(((i:Int),a,JC (a.cells.take i)):Cv)) a.cells.length (fun _=>false) FV FU I2 (HT (0,a,⟨0,0⟩)) (0,a,⟨0,0⟩) rfl (by show a.cells.length≤((a.cells.length:Int) - 0).toNat;omega)
  (fun i _ _=>by
   show(!!decide ((i:Int) <(a.cells.length:Int)))=_
   rw[nn,MA,Bool.not_false,Bool.and_true])
  (fun i hi _=>by
   show(IntKind.i64.wrap ((i:Int)+1),a,Ng (JC (a.cells.take i)) (Acp (a.cells.getD ((i:Int)).toNat (Ae TC.cell))))=(((i+1:Nat):Int),a,JC (a.cells.take (i+1)))
   rw[ES (by omega),Int.toNat_natCast,Aox _ _ hi])
  (fun i _ _=>Aa (fun h=>⟨by show(0:Int)≤(i:Int);omega,by
   have h':(!!decide ((i:Int) <(a.cells.length:Int)))=true:=h
   rw[nn] at h';exact of_decide_eq_true h'⟩) Ab)
 refine⟨Aa h1 Ab,?_⟩
 have hkn:k=a.cells.length:=by
  rcases Nat.lt_or_ge k a.cells.length with h|h
  ·exact absurd (hst h) (by decide)
  ·omega
 have hr:Mt (0,a,⟨0,0⟩)=((k:Int),a,JC (a.cells.take k)):=hx
 show(Mt (0,a,⟨0,0⟩)).snd.snd=_
 rw[hr,hkn,List.take_length]
theorem A9f (a0:TRow) (hp:∀p∈Aa4 a0,p):CallOk Try.prog 70 [Ak .row a0] 0 [] 1 (Ai8 a0) 0 (Ai6 a0):=by
 have hb:Az a0.cells.length:=hp _ (List.mem_cons_self ..)
 have h:=Bfm a0 (Ai4 a0 hb).1
 unfold X9 at h
 rw[(Ai4 a0 hb).2] at h
 exact h
def Ya:List A→Nat→Objs→Option A8
 | [y0],nx,o=>match AP .row y0 with
  |some (a0,p0)=>some (1,(Ai8 a0).pk (AF nx),nx+0,AE nx (Ai6 a0)++o,p0++(Aa4 a0))
  |_=>none
 |_,_,_=>none
theorem A2z:Fu Try.prog 70 Ya:=fun args nx o k x nx' o' ps h=>by
 unfold Ya at h
 split at h<;>first|(cases h;done)|skip
 split at h<;>first|(cases h;done)|skip
 rename_i a0 p0 e0
 cases h
 refine⟨fun hp=>?_,_,rfl⟩
 have q0:=fun p hm=>hp p (List.mem_append.2 (.inl hm))
 have r0:=fun p hm=>hp p (List.mem_append.2 (.inr hm))
 refine Ah (Ag (A9f a0 r0) (Nat.le_refl _) (Ac (Af _ _) Ao) nx o) fun F N R vs hl=>?_
 obtain⟨v0,w0,rfl,h0,hl⟩:=hl.inv
 exact HL.cons (Am e0 q0 h0) (hl)
noncomputable def Bq8:=A5 70 Ya Bq7
theorem A55:Df Try.prog Bq8:=Av A2z A54
abbrev Cw:Type:=(List TCell)×Int×Int×TVec
def LR (x:Cw):St:=⟨19,2,[(2,.own 1 0),(6,.sl .cell x.1),(7,.v (.int .i64 x.2.1)),(8,.v (.int .i64 x.2.2.1))],[(1,some (.box 31 [.v (.int .i64 x.2.2.2.a),.v (.int .i64 x.2.2.2.b)]))]⟩
def ND:St→Option Cw
 |⟨19,2,[(2,.own 1 0),(6,.sl .cell z0),(7,.v (.int .i64 z1)),(8,.v (.int .i64 z2))],[(1,some (.box 31 [.v (.int .i64 z3),.v (.int .i64 z4)]))]⟩=>some (z0,z1,z2,⟨z3,z4⟩)
 |_=>none
theorem Ajo:∀s x,ND s=some x→s=LR x:=fun s x h=>by
 unfold ND at h
 split at h
 ·cases h;rfl
 ·cases h
def Ys:De:=⟨2,2,[2,6,7,8],[],[(1,1)],[1],[],[1]⟩
def A0n:Dy:=⟨[],[(1,1)],[2,6,7,8],[1]⟩
def Anv (a0:List TCell) (_a1:Int) (a2:Int) (a3:TVec):TVec:=TVec.mk (max (max (0:Int) a3.1) (K7 (a0.getD a2.toNat (Ae TC.cell))).1) (max (max (0:Int) a3.2) (K7 (a0.getD a2.toNat (Ae TC.cell))).2)
def FX (x:Cw):Cw:=(x.1,x.2.1,IntKind.i64.wrap (x.2.2.1+(1:Int)),Anv x.1 x.2.1 x.2.2.1 x.2.2.2)
def FW (x:Cw):Cnd:=some (!!decide (x.2.2.1 <x.2.1))
def Tp (x:Cw):List Prop:=[((!!decide (x.2.2.1 <x.2.1))=true→(0:Int)≤x.2.2.1∧x.2.2.1 <(↑x.1.length:Int)),((!!decide (x.2.2.1 <x.2.1))=true→(0:Int)≤(0:Int)∧(0:Int) <(↑(2:Nat):Int)),((!!decide (x.2.2.1 <x.2.1))=true→(0:Nat) <(2:Nat)),((!!decide (x.2.2.1 <x.2.1))=true→(0:Int)≤(0:Int)∧(0:Int) <(2:Int)),((!!decide (x.2.2.1 <x.2.1))=true→(0:Nat) <(2:Nat)),((!!decide (x.2.2.1 <x.2.1))=true→(0:Int)≤(0:Int)∧(0:Int) <(2:Int)),((!!decide (x.2.2.1 <x.2.1))=true→(0:Nat) <(2:Nat)),((!!decide (x.2.2.1 <x.2.1))=true→(0:Int)≤(0:Int)∧(0:Int) <(2:Int)),((!!decide (x.2.2.1 <x.2.1))=true→(0:Nat) <(2:Nat)),((!!decide (x.2.2.1 <x.2.1))=true→(0:Int)≤(1:Int)∧(1:Int) <(2:Int)),((!!decide (x.2.2.1 <x.2.1))=true→(1:Nat) <(2:Nat)),((!!decide (x.2.2.1 <x.2.1))=true→(0:Int)≤(1:Int)∧(1:Int) <(2:Int)),((!!decide (x.2.2.1 <x.2.1))=true→(1:Nat) <(2:Nat)),((!!decide (x.2.2.1 <x.2.1))=true→(0:Int)≤(1:Int)∧(1:Int) <(2:Int)),((!!decide (x.2.2.1 <x.2.1))=true→(1:Nat) <(2:Nat)),((!!decide (x.2.2.1 <x.2.1))=true→(0:Int)≤(1:Int)∧(1:Int) <(↑(2:Nat):Int)),((!!decide (x.2.2.1 <x.2.1))=true→(1:Nat) <(2:Nat)),((!!decide (x.2.2.1 <x.2.1))=true→(0:Int)≤(0:Int)∧(0:Int) <(2:Int)),((!!decide (x.2.2.1 <x.2.1))=true→(0:Nat) <(2:Nat)),((!!decide (x.2.2.1 <x.2.1))=true→(0:Int)≤(0:Int)∧(0:Int) <(2:Int)),((!!decide (x.2.2.1 <x.2.1))=true→(0:Nat) <(2:Nat)),((!!decide (x.2.2.1 <x.2.1))=true→(0:Int)≤(0:Int)∧(0:Int) <(2:Int)),((!!decide (x.2.2.1 <x.2.1))=true→(0:Nat) <(2:Nat)),((!!decide (x.2.2.1 <x.2.1))=true→(0:Int)≤(1:Int)∧(1:Int) <(2:Int)),((!!decide (x.2.2.1 <x.2.1))=true→(1:Nat) <(2:Nat)),((!!decide (x.2.2.1 <x.2.1))=true→(0:Int)≤(1:Int)∧(1:Int) <(2:Int)),((!!decide (x.2.2.1 <x.2.1))=true→(1:Nat) <(2:Nat)),((!!decide (x.2.2.1 <x.2.1))=true→(0:Int)≤(1:Int)∧(1:Int) <(2:Int)),((!!decide (x.2.2.1 <x.2.1))=true→(1:Nat) <(2:Nat))]
def I5 (x:Cw):List Prop:=[((!!decide (x.2.2.1 <x.2.1))=true→(0:Int)≤x.2.2.1∧x.2.2.1 <(↑x.1.length:Int))]
def QM (x:Cw):Bl:=[(some 0,some (!decide (x.2.2.1 <x.2.1)),⟨19,2,[],[(1,some (.box 31 [.v (.int .i64 x.2.2.2.1),.v (.int .i64 x.2.2.2.2)]))]⟩)]
def HV (x:Cw):Nat:=(x.2.1 - x.2.2.1).toNat
def Mx (x:Cw):Cw:=A9 FX FW (HV x) x
set_option maxRecDepth 100000 in
theorem At8 (a0:List TCell) (a1:Int) (a2:Int) (a3:TVec):Bx (AA Bq8 L0) 9 (Aj Try.prog 69 0) Ys (LR (a0,a1,a2,a3))=some (Tp (a0,a1,a2,a3),QM (a0,a1,a2,a3),FW (a0,a1,a2,a3),LR (FX (a0,a1,a2,a3))):=by kernel_rfl
set_option maxRecDepth 100000 in
theorem At9 (a0:List TCell) (a1:Int) (a2:Int) (a3:TVec) (hp:∀p∈I5 (a0,a1,a2,a3),p):∀p∈Tp (a0,a1,a2,a3),p:=by
 have n0:=N0 hp
 have n1:((!!decide (a2 <a1))=true→(0:Int)≤(0:Int)∧(0:Int) <(↑(2:Nat):Int)):=by omega
 have n2:((!!decide (a2 <a1))=true→(0:Nat) <(2:Nat)):=by omega
 have n3:((!!decide (a2 <a1))=true→(0:Int)≤(0:Int)∧(0:Int) <(2:Int)):=by omega
 have n9:((!!decide (a2 <a1))=true→(0:Int)≤(1:Int)∧(1:Int) <(2:Int)):=by omega
 have n10:((!!decide (a2 <a1))=true→(1:Nat) <(2:Nat)):=by omega
 have n15:((!!decide (a2 <a1))=true→(0:Int)≤(1:Int)∧(1:Int) <(↑(2:Nat):Int)):=by omega
 exact(Aa n0 (Aa n1 (Aa n2 (Aa n3 (Aa n2 (Aa n3 (Aa n2 (Aa n3 (Aa n2 (Aa n9 (Aa n10 (Aa n9 (Aa n10 (Aa n9 (Aa n10 (Aa n15 (Aa n10 (Aa n3 (Aa n2 (Aa n3 (Aa n2 (Aa n3 (Aa n2 (Aa n9 (Aa n10 (Aa n9 (Aa n10 (Aa n9 (Aa n10 Ab)))))))))))))))))))))))))))))
noncomputable def Tq:=HU (AA Bq8 L0) (Aj Try.prog 69 0) Ys A0n ND HV FX FW I5 QM
theorem Anw:∀s b ps outs,Tq s=some (b,ps,outs)→Wf s ⟨ps,outs,none⟩∧Bs (AA C0 L0) b s ps outs:=
 Bi (T:=LR) A55 AG (u:=9) (by kernel_rfl) (by decide) (fun⟨a0,a1,a2,a3⟩=>At8 a0 a1 a2 a3) (fun⟨a0,a1,a2,a3⟩=>At9 a0 a1 a2 a3) Ajo (fun _=>AR (n:=19) rfl) fun _ _=>rfl
noncomputable def Yr:=DG 0 Tq L0
theorem Anu:Hs Yr:=A3 Anw AG
def Yq (a0:TRow):TVec:=(Mx (a0.2,(↑a0.2.length:Int),(0:Int),TVec.mk (0:Int) (0:Int))).snd.snd.snd
def Yt (a0:TRow):A:=.v (.agg ⟨[.int .i64 ((Yq a0).a),.int .i64 ((Yq a0).b)]⟩)
def Ara (_a0:TRow):Objs:=[]
def Ajq (a0:TRow):List Prop:=[(AL FX FW I5 (HV (a0.2,(↑a0.2.length:Int),(0:Int),TVec.mk (0:Int) (0:Int))) (a0.2,(↑a0.2.length:Int),(0:Int),TVec.mk (0:Int) (0:Int)))]
set_option maxRecDepth 100000 in
theorem A9x (a0:TRow):EU (AA Bq8 Yr) 9 69 [Ak .row a0] 0 []=some (1,Yt a0,0,Ara a0,[(Aj Try.prog (69:FuncId) (0:Nat)=Aj Try.prog (69:FuncId) (0:Nat)),(AL FX FW I5 (HV (a0.2,(↑a0.2.length:Int),(0:Int),TVec.mk (0:Int) (0:Int))) (a0.2,(↑a0.2.length:Int),(0:Int),TVec.mk (0:Int) (0:Int)))]):=by kernel_rfl
set_option maxRecDepth 100000 in
theorem Bf9 (a0:TRow) (hp:∀p∈Ajq a0,p):CallOk Try.prog 69 [Ak .row a0] 0 [] 1 (Yt a0) 0 (Ara a0):=by
 have n1:=N0 hp
 exact AH (Aw A55 Anu) (A9x a0) (Aa rfl (Aa n1 Ab))
def Ajr (a0:TRow):A:=.v (.agg ⟨[.int .i64 (JC a0.cells).a,.int .i64 (JC a0.cells).b]⟩)
def Ajp (_a0:TRow):Objs:=[]
def Abk (a0:TRow):List Prop:=[Az a0.cells.length]
theorem Ajn (a:TRow) (hb:Az a.cells.length):(∀p∈Ajq a,p)∧Yq a=JC a.cells:=by
 unfold Az at hb
 obtain⟨h1,k,hk,hx,_,hst,_⟩:=I6 (fun i=>((a.2,(a.2.length:Int),(i:Int),JC (a.cells.take i)):Cw)) a.cells.length (fun _=>false) FX FW I5 (HV (a.2,(a.2.length:Int),0,⟨0,0⟩)) (a.2,(a.2.length:Int),0,⟨0,0⟩) rfl (by show a.cells.length≤((a.cells.length:Int) - 0).toNat;omega)
  (fun i _ _=>by
   show(!!decide ((i:Int) <(a.cells.length:Int)))=_
   rw[nn,MA,Bool.not_false,Bool.and_true])
  (fun i hi _=>by
   show(a.2,(a.2.length:Int),IntKind.i64.wrap ((i:Int)+1),Ng (JC (a.cells.take i)) (Acp (a.cells.getD ((i:Int)).toNat (Ae TC.cell))))=(a.2,(a.2.length:Int),((i+1:Nat):Int),JC (a.cells.take (i+1)))
   rw[ES (by omega),Int.toNat_natCast,Aox _ _ hi])
  (fun i _ _=>Aa (fun h=>⟨by show(0:Int)≤(i:Int);omega,by
   have h':(!!decide ((i:Int) <(a.cells.length:Int)))=true:=h
   rw[nn] at h';exact of_decide_eq_true h'⟩) Ab)
 refine⟨Aa h1 Ab,?_⟩
 have hkn:k=a.cells.length:=by
  rcases Nat.lt_or_ge k a.cells.length with h|h
  ·exact absurd (hst h) (by decide)
  ·omega
 have hr:Mx (a.2,(a.2.length:Int),0,⟨0,0⟩)=(a.2,(a.2.length:Int),(k:Int),JC (a.cells.take k)):=hx
 show(Mx (a.2,(a.2.length:Int),0,⟨0,0⟩)).snd.snd.snd=_
 rw[hr,hkn,List.take_length]
theorem A9w (a0:TRow) (hp:∀p∈Abk a0,p):CallOk Try.prog 69 [Ak .row a0] 0 [] 1 (Ajr a0) 0 (Ajp a0):=by
 have hb:Az a0.cells.length:=hp _ (List.mem_cons_self ..)
 have h:=Bf9 a0 (Ajn a0 hb).1
 unfold Yt at h
 rw[(Ajn a0 hb).2] at h
 exact h
def Yu:List A→Nat→Objs→Option A8
 | [y0],nx,o=>match AP .row y0 with
  |some (a0,p0)=>some (1,(Ajr a0).pk (AF nx),nx+0,AE nx (Ajp a0)++o,p0++(Abk a0))
  |_=>none
 |_,_,_=>none
theorem A3d:Fu Try.prog 69 Yu:=fun args nx o k x nx' o' ps h=>by
 unfold Yu at h
 split at h<;>first|(cases h;done)|skip
 split at h<;>first|(cases h;done)|skip
 rename_i a0 p0 e0
 cases h
 refine⟨fun hp=>?_,_,rfl⟩
 have q0:=fun p hm=>hp p (List.mem_append.2 (.inl hm))
 have r0:=fun p hm=>hp p (List.mem_append.2 (.inr hm))
 refine Ah (Ag (A9w a0 r0) (Nat.le_refl _) (Ac (Af _ _) Ao) nx o) fun F N R vs hl=>?_
 obtain⟨v0,w0,rfl,h0,hl⟩:=hl.inv
 exact HL.cons (Am e0 q0 h0) (hl)
noncomputable def Bq9:=A5 69 Yu Bq8
theorem A56:Df Try.prog Bq9:=Av A3d A55
abbrev Cu:Type:=(List TGroup)×Int×ByteArray×(List TCell)
def LK (x:Cu):St:=⟨22,4,[(0,.sl .group x.1),(5,.own 1 0),(6,.v (.int .i64 x.2.1))],[(1,some (.box 71 [.v (.string x.2.2.1),.sq 3])),(3,some (.arr 55 8 (.ty .cell x.2.2.2)))]⟩
def Ny:St→Option Cu
 |⟨22,4,[(0,.sl .group z0),(5,.own 1 0),(6,.v (.int .i64 z1))],[(1,some (.box 71 [.v (.string z2),.sq 3])),(3,some (.arr 55 8 (.ty .cell z3)))]⟩=>some (z0,z1,z2,z3)
 |_=>none
theorem Aiy:∀s x,Ny s=some x→s=LK x:=fun s x h=>by
 unfold Ny at h
 split at h
 ·cases h;rfl
 ·cases h
def X2:De:=⟨3,4,[0,5,6],[],[(1,1),(5,3)],[1,5],[],[1,3]⟩
def Azi:Dy:=⟨[.nilB 1 1 55 .cell],[(1,1),(2,3)],[0,5,6],[1,2]⟩
def LL (a0:List TGroup) (a1:Int) (_a2:ByteArray) (_a3:List TCell):Bool:=!!decide (a1 <(↑a0.length:Int))
def Amu (_a0:List TGroup) (_a1:Int) (_a2:ByteArray) (a3:List TCell):List TCell:=a3++[TCell.mk (TStamp.mk (0:Int) (0:Int)) (TVec.mk (0:Int) (0:Int)) false (ByteArray.mk #[]) (TVec.mk (0:Int) (0:Int))]
def FT (x:Cu):Cu:=(x.1,IntKind.i64.wrap (x.2.1+(1:Int)),x.2.2.1,Amu x.1 x.2.1 x.2.2.1 x.2.2.2)
def FS (x:Cu):Cnd:=some ((LL x.1 x.2.1 x.2.2.1 x.2.2.2))
def S9 (x:Cu):List Prop:=[((LL x.1 x.2.1 x.2.2.1 x.2.2.2)=true→Ai (x.2.2.2.length+(1:Nat)))]
def I0 (x:Cu):List Prop:=[((LL x.1 x.2.1 x.2.2.1 x.2.2.2)=true→Ai (x.2.2.2.length+(1:Nat)))]
def QD (x:Cu):Bl:=[(some 0,some (!decide (x.2.1 <(↑x.1.length:Int))),⟨22,4,[],[(1,some (.box 71 [.v (.string x.2.2.1),.sq 3])),(3,some (.arr 55 8 (.ty .cell x.2.2.2)))]⟩)]
def HR (x:Cu):Nat:=((↑x.1.length:Int) - x.2.1).toNat
def Ip (x:Cu):Cu:=A9 FT FS (HR x) x
set_option maxRecDepth 100000 in
theorem As9 (a0:List TGroup) (a1:Int) (a2:ByteArray) (a3:List TCell):Bx (AA Bq9 L0) 9 (Aj Try.prog 130 0) X2 (LK (a0,a1,a2,a3))=some (S9 (a0,a1,a2,a3),QD (a0,a1,a2,a3),FS (a0,a1,a2,a3),LK (FT (a0,a1,a2,a3))):=by kernel_rfl
set_option maxRecDepth 100000 in
theorem Ata (a0:List TGroup) (a1:Int) (a2:ByteArray) (a3:List TCell) (hp:∀p∈I0 (a0,a1,a2,a3),p):∀p∈S9 (a0,a1,a2,a3),p:=by
 have n0:=N0 hp
 exact(Aa n0 Ab)
noncomputable def Ta:=HU (AA Bq9 L0) (Aj Try.prog 130 0) X2 Azi Ny HR FT FS I0 QD
theorem Amv:∀s b ps outs,Ta s=some (b,ps,outs)→Wf s ⟨ps,outs,none⟩∧Bs (AA C0 L0) b s ps outs:=
 Bi (T:=LK) A56 AG (u:=9) (by kernel_rfl) (by decide) (fun⟨a0,a1,a2,a3⟩=>As9 a0 a1 a2 a3) (fun⟨a0,a1,a2,a3⟩=>Ata a0 a1 a2 a3) Aiy (fun _=>AR (n:=22) rfl) fun _ _=>rfl
noncomputable def X1:=DG 0 Ta L0
theorem Amt:Hs X1:=A3 Amv AG
def Aqa (a0:List TGroup) (a1:ByteArray):ByteArray:=(Ip (a0,(0:Int),a1,[])).snd.snd.fst
def Aqb (a0:List TGroup) (a1:ByteArray):List TCell:=(Ip (a0,(0:Int),a1,[])).snd.snd.snd
def X4 (a0:List TGroup) (a1:ByteArray):A:=.agg [.v (.string (Aqa a0 a1)),.sq 0]
def X3 (a0:List TGroup) (a1:ByteArray):Objs:=[(0,some (.arr 55 8 (.ty .cell (Aqb a0 a1))))]
def Ai0 (a0:List TGroup) (a1:ByteArray):List Prop:=[(AL FT FS I0 (HR (a0,(0:Int),a1,[])) (a0,(0:Int),a1,[]))]
set_option maxRecDepth 100000 in
theorem A9c (a0:List TGroup) (a1:ByteArray):EU (AA Bq9 X1) 9 130 [.sl .group a0,Ak .str a1] 0 []=some (1,X4 a0 a1,1,X3 a0 a1,[(Aj Try.prog (130:FuncId) (0:Nat)=Aj Try.prog (130:FuncId) (0:Nat)),(AL FT FS I0 (HR (a0,(0:Int),a1,[])) (a0,(0:Int),a1,[]))]):=by kernel_rfl
set_option maxRecDepth 100000 in
theorem Bff (a0:List TGroup) (a1:ByteArray) (hp:∀p∈Ai0 a0 a1,p):CallOk Try.prog 130 [.sl .group a0,Ak .str a1] 0 [] 1 (X4 a0 a1) 1 (X3 a0 a1):=by
 have n1:=N0 hp
 exact AH (Aw A56 Amt) (A9c a0 a1) (Aa rfl (Aa n1 Ab))
def Ai1 (_a0:List TGroup) (a1:ByteArray):A:=.agg [.v (.string a1),.sq 0]
def Aiz (a0:List TGroup) (_a1:ByteArray):Objs:=[(0,some (.arr 55 8 (.ty .cell (List.replicate a0.length zeroC))))]
def Aaz (a0:List TGroup) (_a1:ByteArray):List Prop:=[Ai a0.length]
theorem A9b (l:List TGroup) (k:ByteArray) (hb:Ai l.length):(∀p∈Ai0 l k,p)∧Aqa l k=k∧Aqb l k=List.replicate l.length zeroC:=by
 unfold Ai at hb
 obtain⟨h1,n,hn,hx,_,hst,_⟩:=I6 (fun i=>((l,(i:Int),k,List.replicate i zeroC):Cu)) l.length (fun _=>false) FT FS I0 (HR (l,0,k,[])) (l,0,k,[]) rfl (by show l.length≤((l.length:Int) - 0).toNat;omega)
  (fun i _ _=>by
   show(!!decide ((i:Int) <(l.length:Int)))=_
   rw[nn,MA,Bool.not_false,Bool.and_true])
  (fun i hi _=>by
   show(l,IntKind.i64.wrap ((i:Int)+1),k,List.replicate i zeroC++[zeroC])=(l,((i+1:Nat):Int),k,List.replicate (i+1) zeroC)
   rw[ES (by omega),List.replicate_succ'])
  (fun i hi _=>Aa (fun h=>by
   have h':(!!decide ((i:Int) <(l.length:Int)))=true:=h
   rw[nn] at h'
   have:=of_decide_eq_true h'
   show Ai ((List.replicate i zeroC).length+1)
   rw[List.length_replicate];unfold Ai;omega) Ab)
 have hkn:n=l.length:=by
  rcases Nat.lt_or_ge n l.length with h|h
  ·exact absurd (hst h) (by decide)
  ·omega
 have hr:Ip (l,0,k,[])=(l,(n:Int),k,List.replicate n zeroC):=hx
 refine⟨Aa h1 Ab,?_,?_⟩
 ·show(Ip (l,0,k,[])).snd.snd.fst=_
  rw[hr]
 ·show(Ip (l,0,k,[])).snd.snd.snd=_
  rw[hr,hkn]
theorem A9a (a0:List TGroup) (a1:ByteArray) (hp:∀p∈Aaz a0 a1,p):CallOk Try.prog 130 [.sl .group a0,Ak .str a1] 0 [] 1 (Ai1 a0 a1) 1 (Aiz a0 a1):=by
 have hb:Ai a0.length:=hp _ (List.mem_cons_self ..)
 obtain⟨e1,e2,e3⟩:=A9b a0 a1 hb
 have h:=Bff a0 a1 e1
 unfold X4 X3 at h
 rw[e2,e3] at h
 exact h
def X5:List A→Nat→Objs→Option A8
 | [y0,y1],nx,o=>match Kp .group y0,AP .str y1 with
  |some a0,some (a1,p1)=>some (1,(Ai1 a0 a1).pk (AF nx),nx+1,AE nx (Aiz a0 a1)++o,p1++(Aaz a0 a1))
  |_,_=>none
 |_,_,_=>none
theorem A2w:Fu Try.prog 130 X5:=fun args nx o k x nx' o' ps h=>by
 unfold X5 at h
 split at h<;>first|(cases h;done)|skip
 split at h<;>first|(cases h;done)|skip
 rename_i a0 a1 p1 e0 e1
 cases h
 refine⟨fun hp=>?_,_,rfl⟩
 have q1:=fun p hm=>hp p (List.mem_append.2 (.inl hm))
 have r1:=fun p hm=>hp p (List.mem_append.2 (.inr hm))
 refine Ah (Ag (A9a a0 a1 r1) (Nat.le_refl _) (Ac rfl (Ac (Af _ _) Ao)) nx o) fun F N R vs hl=>?_
 obtain⟨v0,w0,rfl,h0,hl⟩:=hl.inv
 obtain⟨v1,w1,rfl,h1,hl⟩:=hl.inv
 exact HL.cons (Cx e0 h0) (HL.cons (Am e1 q1 h1) (hl))
noncomputable def B0e:=A5 130 X5 Bq9
theorem Bln:Df Try.prog B0e:=Av A2w A56
def JQ (_a0:List TGroup) (a1:ByteArray):Bool:=Sm a1 !=(0:Int)
def JP (a0:List TGroup) (_a1:ByteArray):Bool:=AY a0 !=(0:Int)
def Am4 (a0:List TGroup) (a1:ByteArray):ByteArray:=bif(JP a0 a1) then ByteArray.mk #[] else bif(JQ a0 a1) then ByteArray.mk #[] else a1
def Am5 (a0:List TGroup) (a1:ByteArray):Int:=bif(JP a0 a1) then AY a0 else bif(JQ a0 a1) then Sm a1 else(0:Int)
def Am6 (a0:List TGroup) (a1:ByteArray):List TCell:=bif(JP a0 a1) then[] else bif(JQ a0 a1) then[] else List.replicate a0.length zeroC
def Am8 (a0:List TGroup) (a1:ByteArray):A:=.tup [.agg [.v (.string (Am4 a0 a1)),.sq 0],.v (.int .i64 (Am5 a0 a1))]
def Am7 (a0:List TGroup) (a1:ByteArray):Objs:=[(0,some (.arr 55 8 (.ty .cell (Am6 a0 a1))))]
def Bjr (a0:List TGroup) (a1:ByteArray):List Prop:=[(∀(g:TGroup),g∈a0→Az g.1.size),((!(JP a0 a1))=true→(!(JQ a0 a1))=true→Ai a0.length)]
set_option maxRecDepth 100000 in
theorem Bjq (a0:List TGroup) (a1:ByteArray):EU (AA B0e L0) 9 63 [.sl .group a0,Ak .str a1] 0 []=some (1,Am8 a0 a1,1,Am7 a0 a1,[(∀(g:TGroup),g∈a0→Az g.1.size),((!(JP a0 a1))=true→(!(JQ a0 a1))=true→Ai a0.length)]):=by kernel_rfl
set_option maxRecDepth 100000 in
theorem Bpd (a0:List TGroup) (a1:ByteArray) (hp:∀p∈Bjr a0 a1,p):CallOk Try.prog 63 [.sl .group a0,Ak .str a1] 0 [] 1 (Am8 a0 a1) 1 (Am7 a0 a1):=by
 have n0:=N0 hp
 have n1:=N0 (N1 hp)
 exact AH (Aw Bln AG) (Bjq a0 a1) (Aa n0 (Aa n1 Ab))
def Azs (a0:List TGroup) (a1:ByteArray):A:=.tup [.agg [.v (.string (Aie a0 a1).key),.sq 0],.v (.int .i64 (VS a0 a1))]
def Azr (a0:List TGroup) (a1:ByteArray):Objs:=[(0,some (.arr 55 8 (.ty .cell (Aie a0 a1).cells)))]
def Aqk (a0:List TGroup) (_a1:ByteArray):List Prop:=[∀g∈a0,Az g.name.size]
theorem Bjp (a0:List TGroup) (a1:ByteArray) (hp:∀p∈Aqk a0 a1,p):CallOk Try.prog 63 [.sl .group a0,Ak .str a1] 0 [] 1 (Azs a0 a1) 1 (Azr a0 a1):=by
 have hb:∀g∈a0,Az g.name.size:=hp _ (List.mem_cons_self ..)
 have h:=Bpd a0 a1 (Aa hb (Aa (fun h1 _=>by
  have h1':AY a0=0:=by
   have:(!(AY a0 !=0))=true:=h1
   simpa using this
  have:=(Hr h1').2
  unfold Ai;omega) Ab))
 have e1:Am5 a0 a1=VS a0 a1:=by
  unfold Am5 JP JQ VS
  cases AY a0 !=0 with
  |true=>rfl
  |false=>
   rw[cond_false,cond_false]
   cases hk:Sm a1 !=0 with
   |true=>rfl
   |false=>rw[cond_false];exact(by simpa using hk:Sm a1=0).symm
 have e0:Am4 a0 a1=(Aie a0 a1).key:=by
  unfold Am4 JP JQ Aie VS
  cases hg:AY a0 !=0 with
  |true=>simp only[cond_true,hg]
  |false=>rw[cond_false,cond_false]
 have e2:Am6 a0 a1=(Aie a0 a1).cells:=by
  unfold Am6 JP JQ Aie VS
  cases hg:AY a0 !=0 with
  |true=>simp only[cond_true,hg]
  |false=>rw[cond_false,cond_false]
 unfold Am8 Am7 at h
 rw[e0,e1,e2] at h
 exact h
def Am9:List A→Nat→Objs→Option A8
 | [y0,y1],nx,o=>match Kp .group y0,AP .str y1 with
  |some a0,some (a1,p1)=>some (1,(Azs a0 a1).pk (AF nx),nx+1,AE nx (Azr a0 a1)++o,p1++(Aqk a0 a1))
  |_,_=>none
 |_,_,_=>none
theorem Bfn:Fu Try.prog 63 Am9:=fun args nx o k x nx' o' ps h=>by
 unfold Am9 at h
 split at h<;>first|(cases h;done)|skip
 split at h<;>first|(cases h;done)|skip
 rename_i a0 a1 p1 e0 e1
 cases h
 refine⟨fun hp=>?_,_,rfl⟩
 have q1:=fun p hm=>hp p (List.mem_append.2 (.inl hm))
 have r1:=fun p hm=>hp p (List.mem_append.2 (.inr hm))
 refine Ah (Ag (Bjp a0 a1 r1) (Nat.le_refl _) (Ac rfl (Ac (Af _ _) Ao)) nx o) fun F N R vs hl=>?_
 obtain⟨v0,w0,rfl,h0,hl⟩:=hl.inv
 obtain⟨v1,w1,rfl,h1,hl⟩:=hl.inv
 exact HL.cons (Cx e0 h0) (HL.cons (Am e1 q1 h1) (hl))
noncomputable def B0f:=A5 63 Am9 B0e
theorem Blo:Df Try.prog B0f:=Av Bfn Bln
def PI (a0:List TGroup) (_a1:ByteArray):List TCell:=List.replicate (↑a0.length:Int).toNat (Ae TC.cell)
def PH (a0:List TGroup) (a1:ByteArray):Bool:=Ap a0 (TRow.mk a1 (PI a0 a1)) !=(0:Int)
def Anx (a0:List TGroup) (a1:ByteArray):ByteArray:=bif(PH a0 a1) then ByteArray.mk #[] else a1
def Any (a0:List TGroup) (a1:ByteArray):Int:=bif(PH a0 a1) then Ap a0 (TRow.mk a1 (PI a0 a1)) else(0:Int)
def Anz (a0:List TGroup) (a1:ByteArray):List TCell:=bif(PH a0 a1) then[] else(PI a0 a1)
def An1 (a0:List TGroup) (a1:ByteArray):A:=.tup [.agg [.v (.string (Anx a0 a1)),.sq 0],.v (.int .i64 (Any a0 a1))]
def An0 (a0:List TGroup) (a1:ByteArray):Objs:=[(0,some (.arr 55 8 (.ty .cell (Anz a0 a1))))]
def Bj7 (a0:List TGroup) (_a1:ByteArray):List Prop:=[((0:Int)≤(↑a0.length:Int)∧(↑a0.length:Int)≤(↑a0.length:Int)∧(↑a0.length:Int)≤(549755813888:Int))]
set_option maxRecDepth 100000 in
theorem Bj6 (a0:List TGroup) (a1:ByteArray):EU (AA B0f L0) 9 62 [.sl .group a0,Ak .str a1] 0 []=some (1,An1 a0 a1,1,An0 a0 a1,[((0:Int)≤(↑a0.length:Int)∧(↑a0.length:Int)≤(↑a0.length:Int)∧(↑a0.length:Int)≤(549755813888:Int))]):=by kernel_rfl
set_option maxRecDepth 100000 in
theorem Bpi (a0:List TGroup) (a1:ByteArray) (hp:∀p∈Bj7 a0 a1,p):CallOk Try.prog 62 [.sl .group a0,Ak .str a1] 0 [] 1 (An1 a0 a1) 1 (An0 a0 a1):=by
 have n0:=N0 hp
 exact AH (Aw Blo AG) (Bj6 a0 a1) (Aa n0 Ab)
def A0p (a0:List TGroup) (a1:ByteArray):A:=.tup [.agg [.v (.string (Aie a0 a1).key),.sq 0],.v (.int .i64 (VS a0 a1))]
def A0o (a0:List TGroup) (a1:ByteArray):Objs:=[(0,some (.arr 55 8 (.ty .cell (Aie a0 a1).cells)))]
def Arb (a0:List TGroup) (_a1:ByteArray):List Prop:=[Ai a0.length]
theorem Awe:∀(l:List TGroup) (seen:List ByteArray),Q8 seen l=0→∀g∈l,Pa g.policy=true
 | [],_,_,g,hg=>by cases hg
 | x::r,seen,h,g,hg=>by
  unfold Q8 at h
  cases h1:(IB x.name&&Pa x.policy) with
  |false=>rw[h1] at h;cases h
  | true=>
   rw[h1] at h
   cases h2:seen.any (fun s=>s==x.name) with
   |true=>rw[h2] at h;cases h
   |false=>
    rw[h2] at h
    rcases List.mem_cons.1 hg with rfl|hg
    ·exact(Bool.and_eq_true_iff.1 h1).2
    ·exact Awe r _ h g hg
theorem Boo {l:List TGroup} (h:AY l=0):∀g∈l,Pa g.policy=true:=by
 have h4:=Hr h
 unfold AY at h
 rw[show(l.length==0)=false by simpa using(by omega:l.length≠0),decide_eq_false (show ¬4 <l.length by omega)] at h
 exact Awe l [] h
theorem Bh3 {p:Int} (h:Pa p=true):Bz p zeroC=true:=by
 unfold Pa at h
 rcases(by simpa using h:p=1∨p=2) with rfl|rfl<;>rfl
theorem P8 (l:List TGroup) (k:ByteArray):Ap l ⟨k,List.replicate l.length zeroC⟩=VS l k:=by
 unfold Ap VS Sm
 cases h:AY l !=0 with
 |true=>rfl
 | false=>
  rw[cond_false,cond_false]
  cases k.size==0 with
  |true=>rfl
  | false=>
   rw[cond_false,cond_false]
   cases decide (32 <k.size) with
   |true=>rfl
   | false=>
    rw[cond_false,cond_false]
    have hl:((TRow.mk k (List.replicate l.length zeroC)).cells.length !=l.length)=false:=by simp
    rw[hl,cond_false]
    have ha:(l.zip (TRow.mk k (List.replicate l.length zeroC)).cells).all (fun x=>Bz x.1.policy x.2)=true:=by
     rw[List.all_eq_true]
     rintro⟨g,c⟩ hx
     have h1:=List.of_mem_zip hx
     have h2:c=zeroC:=List.eq_of_mem_replicate h1.2
     subst h2
     exact Bh3 (Boo (by simpa using h) g h1.1)
    rw[ha]
    rfl
theorem Bj5 (a0:List TGroup) (a1:ByteArray) (hp:∀p∈Arb a0 a1,p):CallOk Try.prog 62 [.sl .group a0,Ak .str a1] 0 [] 1 (A0p a0 a1) 1 (A0o a0 a1):=by
 have hb:Ai a0.length:=hp _ (List.mem_cons_self ..)
 unfold Ai at hb
 have h:=Bpi a0 a1 (Aa ⟨by omega,Int.le_refl _,by omega⟩ Ab)
 have ek:PI a0 a1=List.replicate a0.length zeroC:=by unfold PI;rw[Int.toNat_natCast];rfl
 have k0:PH a0 a1=(VS a0 a1 !=0):=by
  unfold PH
  rw[ek,P8]
 have e1:Any a0 a1=VS a0 a1:=by
  unfold Any
  rw[k0,ek,P8]
  cases hk:VS a0 a1 !=0 with
  |true=>rfl
  |false=>rw[cond_false];exact(by simpa using hk:VS a0 a1=0).symm
 have e0:Anx a0 a1=(Aie a0 a1).key:=by
  unfold Anx
  rw[k0]
  rfl
 have e2:Anz a0 a1=(Aie a0 a1).cells:=by
  unfold Anz
  rw[k0,ek]
  rfl
 unfold An1 An0 at h
 rw[e0,e1,e2] at h
 exact h
def An2:List A→Nat→Objs→Option A8
 | [y0,y1],nx,o=>match Kp .group y0,AP .str y1 with
  |some a0,some (a1,p1)=>some (1,(A0p a0 a1).pk (AF nx),nx+1,AE nx (A0o a0 a1)++o,p1++(Arb a0 a1))
  |_,_=>none
 |_,_,_=>none
theorem Bga:Fu Try.prog 62 An2:=fun args nx o k x nx' o' ps h=>by
 unfold An2 at h
 split at h<;>first|(cases h;done)|skip
 split at h<;>first|(cases h;done)|skip
 rename_i a0 a1 p1 e0 e1
 cases h
 refine⟨fun hp=>?_,_,rfl⟩
 have q1:=fun p hm=>hp p (List.mem_append.2 (.inl hm))
 have r1:=fun p hm=>hp p (List.mem_append.2 (.inr hm))
 refine Ah (Ag (Bj5 a0 a1 r1) (Nat.le_refl _) (Ac rfl (Ac (Af _ _) Ao)) nx o) fun F N R vs hl=>?_
 obtain⟨v0,w0,rfl,h0,hl⟩:=hl.inv
 obtain⟨v1,w1,rfl,h1,hl⟩:=hl.inv
 exact HL.cons (Cx e0 h0) (HL.cons (Am e1 q1 h1) (hl))
noncomputable def By5:=A5 62 An2 B0f
theorem Bq6:Df Try.prog By5:=Av Bga Blo
noncomputable def Ck:=By5
theorem By6:Df Try.prog Ck:=Bq6
end Go.Proofs.Yteebobbhhgmeiaa
namespace Go.Proofs.Yteebobbhhgmeiaa
open Go.RowKit
def Bcx (a b:TVec):Bool:=decide (b.a≤a.a)&&decide (b.b≤a.b)
def Ts (p:Int) (c:TCell):Bool:=Bz p c&&Cz c&&!c.gone&&Bcx c.vec c.dead
def Bgk (p:Int) (c:TCell):ByteArray:=bif Ts p c then c.value else⟨#[]⟩
def Cy (l:List TGroup) (cs:List TCell):Nat→List TField
 |0=>[]
 |i+1=>bif Ts (l.getD i (Ae TC.group)).policy (cs.getD i (Ae TC.cell)) then Cy l cs i++[⟨(i:Int),Bgk (l.getD i (Ae TC.group)).policy (cs.getD i (Ae TC.cell))⟩] else Cy l cs i
def KA (l:List TGroup) (r:TRow):Bool:=Ap l r==0&&!((Cy l r.cells l.length).length==0)
def Aj7 (l:List TGroup) (r:TRow):ByteArray:=bif KA l r then r.key else⟨#[]⟩
def Aj6 (l:List TGroup) (r:TRow):List TField:=bif KA l r then Cy l r.cells l.length else[]
def Av4:List TField→List TField→Bool
 | [],[]=>true
 |x::xs,y::ys=>x.group==y.group&&x.value==y.value&&Av4 xs ys
 |_,_=>false
def B06 (a b:TView):Bool:=a.key==b.key&&Av4 a.fields b.fields
def QC (a0:Int) (a1:TCell):Bool:=!Po a0 a1||!Kv a1||a1.3||!Uh a1.2 a1.5
def Pp (a0:Int) (a1:TCell):ByteArray:=bif(QC a0 a1) then ByteArray.mk #[] else a1.4
def IS (a0:Int) (a1:TCell):Bool:=bif(QC a0 a1) then false else true
def Ad0 (a0:Int) (a1:TCell):A:=.v (.tuple ⟨[.string (Pp a0 a1),.bool (IS a0 a1)]⟩)
def Adz (_a0:Int) (_a1:TCell):Objs:=[]
def Ap0 (_a0:Int) (_a1:TCell):List Prop:=[]
set_option maxRecDepth 100000 in
theorem Be6 (a0:Int) (a1:TCell):EU (AA Ck L0) 9 41 [Ak .i64 a0,Ak .cell a1] 0 []=some (1,Ad0 a0 a1,0,Adz a0 a1,[]):=by kernel_rfl
set_option maxRecDepth 100000 in
theorem Bi8 (a0:Int) (a1:TCell) (_hp:∀p∈Ap0 a0 a1,p):CallOk Try.prog 41 [Ak .i64 a0,Ak .cell a1] 0 [] 1 (Ad0 a0 a1) 0 (Adz a0 a1):=by
 exact AH (Aw By6 AG) (Be6 a0 a1) Ab
def Ad1:List A→Nat→Objs→Option A8
 | [y0,y1],nx,o=>match AP .i64 y0,AP .cell y1 with
  |some (a0,p0),some (a1,p1)=>some (1,(Ad0 a0 a1).pk (AF nx),nx+0,AE nx (Adz a0 a1)++o,p0++(p1++(Ap0 a0 a1)))
  |_,_=>none
 |_,_,_=>none
theorem A84:Fu Try.prog 41 Ad1:=fun args nx o k x nx' o' ps h=>by
 unfold Ad1 at h
 split at h<;>first|(cases h;done)|skip
 split at h<;>first|(cases h;done)|skip
 rename_i a0 p0 a1 p1 e0 e1
 cases h
 refine⟨fun hp=>?_,_,rfl⟩
 have q0:=fun p hm=>hp p (List.mem_append.2 (.inl hm))
 have r0:=fun p hm=>hp p (List.mem_append.2 (.inr hm))
 have q1:=fun p hm=>r0 p (List.mem_append.2 (.inl hm))
 have r1:=fun p hm=>r0 p (List.mem_append.2 (.inr hm))
 refine Ah (Ag (Bi8 a0 a1 r1) (Nat.le_refl _) (Ac (Af _ _) (Ac (Af _ _) Ao)) nx o) fun F N R vs hl=>?_
 obtain⟨v0,w0,rfl,h0,hl⟩:=hl.inv
 obtain⟨v1,w1,rfl,h1,hl⟩:=hl.inv
 exact HL.cons (Am e0 q0 h0) (HL.cons (Am e1 q1 h1) (hl))
noncomputable def Bra:=A5 41 Ad1 Ck
theorem A57:Df Try.prog Bra:=Av A84 By6
theorem Be5 (p:Int) (c:TCell):Pp p c=Bgk p c∧IS p c=Ts p c:=by
 have hk:QC p c=!Ts p c:=by
  unfold QC Ts Bcx Uh
  rw[Apw,XX]
  show(!Bz p c||!Cz c||c.gone||!(decide (c.vec.a≥c.dead.a)&&decide (c.vec.b≥c.dead.b)))=_
  cases Bz p c<;>cases Cz c<;>cases c.gone<;>rfl
 unfold Pp IS Bgk
 rw[hk]
 cases Ts p c<;>exact⟨rfl,rfl⟩
theorem Af6 (p:Int) (c:TCell):MX p c=Bgk p c∧GB p c=Ts p c:=by
 have hm:∀x y:Int,(min x y==y)=decide (y≤x):=fun x y=>by
  rw[Bool.eq_iff_iff,beq_iff_eq,decide_eq_true_eq];omega
 have hk:NU p c=!Ts p c:=by
  unfold NU Ts Bcx Ki
  rw[IL,KC]
  have h1:((JY c.2 c.5).1==c.5.1)=decide (c.dead.a≤c.vec.a):=hm _ _
  have h2:((JY c.2 c.5).2==c.5.2)=decide (c.dead.b≤c.vec.b):=hm _ _
  rw[h1,h2]
  show(!Bz p c||!Cz c||c.gone||!(decide (c.dead.a≤c.vec.a)&&decide (c.dead.b≤c.vec.b)))=_
  cases Bz p c<;>cases Cz c<;>cases c.gone<;>rfl
 unfold MX GB Bgk
 rw[hk]
 cases Ts p c<;>exact⟨rfl,rfl⟩
theorem AV {l:List TGroup} {r:TRow} (h:Ap l r=0):AY l=0∧r.cells.length=l.length∧r.key.size≠0∧r.key.size≤32∧(l.zip r.cells).all (fun x=>Bz x.1.policy x.2)=true:=by
 unfold Ap at h
 cases h1:AY l !=0 with
 |true=>rw[h1,cond_true] at h;rw[h] at h1;cases h1
 | false=>
  rw[h1,cond_false] at h
  cases h2:r.key.size==0 with
  |true=>rw[h2] at h;cases h
  | false=>
   rw[h2,cond_false] at h
   cases h3:decide (32 <r.key.size) with
   |true=>rw[h3] at h;cases h
   | false=>
    rw[h3,cond_false] at h
    cases h4:r.cells.length !=l.length with
    |true=>rw[h4] at h;cases h
    | false=>
     rw[h4,cond_false] at h
     cases h5:(l.zip r.cells).all (fun x=>Bz x.1.policy x.2) with
     |false=>rw[h5] at h;cases h
     |true=>
      have:=of_decide_eq_false h3
      exact⟨by simpa using h1,by simpa using h4,by simpa using h2,by omega,rfl⟩
theorem Wl (l:List TGroup) (cs:List TCell):∀i,(Cy l cs i).length≤i
 |0=>Nat.le_refl _
 |i+1=>by
  have:=Wl l cs i
  unfold Cy
  cases Ts (l.getD i (Ae TC.group)).policy (cs.getD i (Ae TC.cell)) with
  |true=>rw[cond_true,List.length_append];simp;omega
  |false=>rw[cond_false];omega
abbrev Da:Type:=(List TGroup)×Int×TRow×ByteArray×(List TField)
def MN (x:Da):St:=⟨53,5,[(0,.sl .group x.1),(3,.own 0 0),(6,.own 2 0),(7,.v (.int .i64 x.2.1))],[(0,some (.box 71 [.v (.string x.2.2.1.key),.sl .cell x.2.2.1.cells])),(2,some (.box 94 [.v (.string x.2.2.2.1),.sq 4])),(4,some (.arr 142 2 (.ty .field x.2.2.2.2)))]⟩
def Px:St→Option Da
 |⟨53,5,[(0,.sl .group z0),(3,.own 0 0),(6,.own 2 0),(7,.v (.int .i64 z1))],[(0,some (.box 71 [.v (.string z2),.sl .cell z3])),(2,some (.box 94 [.v (.string z4),.sq 4])),(4,some (.arr 142 2 (.ty .field z5)))]⟩=>some (z0,z1,⟨z2,z3⟩,z4,z5)
 |_=>none
theorem Anc:∀s x,Px s=some x→s=MN x:=fun s x h=>by
 unfold Px at h
 split at h
 ·cases h;rfl
 ·cases h
def Aa8:De:=⟨4,5,[0,3,6,7],[],[(0,0),(2,2),(7,4)],[0,2,7],[],[0,2,4]⟩
def A21:Dy:=⟨[.nilB 2 1 142 .field],[(0,0),(2,2),(3,4)],[0,3,6,7],[0,2,3]⟩
def Fi (a0:List TGroup) (a1:Int) (_a2:TRow) (_a3:ByteArray) (_a4:List TField):Bool:=!!decide (a1 <(↑a0.length:Int))
def Atq (a0:List TGroup) (a1:Int) (a2:TRow) (a3:ByteArray) (_a4:List TField):ByteArray:=bif IS (a0.getD a1.toNat (Ae TC.group)).2 (a2.2.getD a1.toNat (Ae TC.cell)) then a3 else a3
def Atr (a0:List TGroup) (a1:Int) (a2:TRow) (_a3:ByteArray) (a4:List TField):List TField:=bif IS (a0.getD a1.toNat (Ae TC.group)).2 (a2.2.getD a1.toNat (Ae TC.cell)) then a4++[TField.mk a1 (Pp (a0.getD a1.toNat (Ae TC.group)).2 (a2.2.getD a1.toNat (Ae TC.cell)))] else a4
def Fk (x:Da):Da:=(x.1,IntKind.i64.wrap (x.2.1+(1:Int)),x.2.2.1,Atq x.1 x.2.1 x.2.2.1 x.2.2.2.1 x.2.2.2.2,Atr x.1 x.2.1 x.2.2.1 x.2.2.2.1 x.2.2.2.2)
def Fj (x:Da):Cnd:=some ((Fi x.1 x.2.1 x.2.2.1 x.2.2.2.1 x.2.2.2.2))
def Vt (x:Da):List Prop:=[((Fi x.1 x.2.1 x.2.2.1 x.2.2.2.1 x.2.2.2.2)=true→(0:Int)≤x.2.1∧x.2.1 <(↑x.1.length:Int)),((Fi x.1 x.2.1 x.2.2.1 x.2.2.2.1 x.2.2.2.2)=true→(0:Int)≤x.2.1∧x.2.1 <(↑x.2.2.1.2.length:Int)),((Fi x.1 x.2.1 x.2.2.1 x.2.2.2.1 x.2.2.2.2)=true→IS (x.1.getD x.2.1.toNat (Ae TC.group)).2 (x.2.2.1.2.getD x.2.1.toNat (Ae TC.cell))=true→Ai (x.2.2.2.2.length+(1:Nat)))]
def It (x:Da):List Prop:=[((Fi x.1 x.2.1 x.2.2.1 x.2.2.2.1 x.2.2.2.2)=true→(0:Int)≤x.2.1∧x.2.1 <(↑x.1.length:Int)),((Fi x.1 x.2.1 x.2.2.1 x.2.2.2.1 x.2.2.2.2)=true→(0:Int)≤x.2.1∧x.2.1 <(↑x.2.2.1.2.length:Int)),((Fi x.1 x.2.1 x.2.2.1 x.2.2.2.1 x.2.2.2.2)=true→IS (x.1.getD x.2.1.toNat (Ae TC.group)).2 (x.2.2.1.2.getD x.2.1.toNat (Ae TC.cell))=true→Ai (x.2.2.2.2.length+(1:Nat)))]
def Th (x:Da):Bl:=[(some 0,some (!decide (x.2.1 <(↑x.1.length:Int))),⟨53,5,[],[(0,some (.box 71 [.v (.string x.2.2.1.1),.sl .cell x.2.2.1.2])),(2,some (.box 94 [.v (.string x.2.2.2.1),.sq 4])),(4,some (.arr 142 2 (.ty .field x.2.2.2.2)))]⟩)]
def GX (x:Da):Nat:=((↑x.1.length:Int) - x.2.1).toNat
def KG (x:Da):Da:=A9 Fk Fj (GX x) x
set_option maxRecDepth 100000 in
theorem Azx (a0:List TGroup) (a1:Int) (a2:TRow) (a3:ByteArray) (a4:List TField):Bx (AA Bra L0) 9 (Aj Try.prog 64 0) Aa8 (MN (a0,a1,a2,a3,a4))=some (Vt (a0,a1,a2,a3,a4),Th (a0,a1,a2,a3,a4),Fj (a0,a1,a2,a3,a4),MN (Fk (a0,a1,a2,a3,a4))):=by kernel_rfl
set_option maxRecDepth 100000 in
theorem Azy (a0:List TGroup) (a1:Int) (a2:TRow) (a3:ByteArray) (a4:List TField) (hp:∀p∈It (a0,a1,a2,a3,a4),p):∀p∈Vt (a0,a1,a2,a3,a4),p:=by
 have n0:=N0 hp
 have n1:=N0 (N1 hp)
 have n2:=N0 (N1 (N1 hp))
 exact(Aa n0 (Aa n1 (Aa n2 Ab)))
noncomputable def Vu:=HU (AA Bra L0) (Aj Try.prog 64 0) Aa8 A21 Px GX Fk Fj It Th
theorem Ats:∀s b ps outs,Vu s=some (b,ps,outs)→Wf s ⟨ps,outs,none⟩∧Bs (AA C0 L0) b s ps outs:=
 Bi (T:=MN) A57 AG (u:=9) (by kernel_rfl) (by decide) (fun⟨a0,a1,a2,a3,a4⟩=>Azx a0 a1 a2 a3 a4) (fun⟨a0,a1,a2,a3,a4⟩=>Azy a0 a1 a2 a3 a4) Anc (fun _=>AR (n:=53) rfl) fun _ _=>rfl
noncomputable def Aa7:=DG 0 Vu L0
theorem Atp:Hs Aa7:=A3 Ats AG
def IG (a0:List TGroup) (a1:TRow):Bool:=Ap a0 a1 !=(0:Int)
def QH (a0:List TGroup) (a1:TRow):Bool:=(↑(KG (a0,(0:Int),a1,a1.1,[])).snd.snd.snd.snd.length:Int)==(0:Int)
def Aes (a0:List TGroup) (a1:TRow):ByteArray:=bif(IG a0 a1) then ByteArray.mk #[] else bif(QH a0 a1) then ByteArray.mk #[] else(KG (a0,(0:Int),a1,a1.1,[])).snd.snd.snd.fst
def Aet (a0:List TGroup) (a1:TRow):Bool:=bif(IG a0 a1) then false else bif(QH a0 a1) then false else true
def Aeu (a0:List TGroup) (a1:TRow):List TField:=bif(IG a0 a1) then[] else bif(QH a0 a1) then[] else(KG (a0,(0:Int),a1,a1.1,[])).snd.snd.snd.snd
def Aew (a0:List TGroup) (a1:TRow):A:=.tup [.agg [.v (.string (Aes a0 a1)),.sq 0],.v (.bool (Aet a0 a1))]
def Aev (a0:List TGroup) (a1:TRow):Objs:=[(0,some (.arr 142 2 (.ty .field (Aeu a0 a1))))]
def Bfs (a0:List TGroup) (a1:TRow):List Prop:=[(∀(g:TGroup),g∈a0→Az g.1.size),((!(IG a0 a1))=true→AL Fk Fj It (GX (a0,(0:Int),a1,a1.1,[])) (a0,(0:Int),a1,a1.1,[]))]
set_option maxRecDepth 100000 in
theorem Bfr (a0:List TGroup) (a1:TRow):EU (AA Bra Aa7) 9 64 [.sl .group a0,Ak .row a1] 0 []=some (1,Aew a0 a1,1,Aev a0 a1,[(∀(g:TGroup),g∈a0→Az g.1.size),((!(IG a0 a1))=true→Aj Try.prog (64:FuncId) (0:Nat)=Aj Try.prog (64:FuncId) (0:Nat)),((!(IG a0 a1))=true→AL Fk Fj It (GX (a0,(0:Int),a1,a1.1,[])) (a0,(0:Int),a1,a1.1,[]))]):=by kernel_rfl
set_option maxRecDepth 100000 in
theorem Bjt (a0:List TGroup) (a1:TRow) (hp:∀p∈Bfs a0 a1,p):CallOk Try.prog 64 [.sl .group a0,Ak .row a1] 0 [] 1 (Aew a0 a1) 1 (Aev a0 a1):=by
 have n0:=N0 hp
 have n1:((!(IG a0 a1))=true→Aj Try.prog (64:FuncId) (0:Nat)=Aj Try.prog (64:FuncId) (0:Nat)):=by intros;rfl
 have n2:=N0 (N1 hp)
 exact AH (Aw A57 Atp) (Bfr a0 a1) (Aa n0 (Aa n1 (Aa n2 Ab)))
def Aqq (a0:List TGroup) (a1:TRow):A:=.tup [.agg [.v (.string (Aj7 a0 a1)),.sq 0],.v (.bool (KA a0 a1))]
def Aqp (a0:List TGroup) (a1:TRow):Objs:=[(0,some (.arr 142 2 (.ty .field (Aj6 a0 a1))))]
def Ajb (a0:List TGroup) (_a1:TRow):List Prop:=[∀g∈a0,Az g.name.size]
theorem Aa9 (l:List TGroup) (r:TRow) (h0:Ap l r=0):
  AL Fk Fj It (GX (l,0,r,r.1,[])) (l,0,r,r.1,[])∧KG (l,0,r,r.1,[])=(l,(l.length:Int),r,r.1,Cy l r.cells l.length):=by
 obtain⟨hp,hlen,_⟩:=AV h0
 have hl4:=(Hr hp).2
 obtain⟨h1,k,hk,hx,_,hst,_⟩:=I6 (fun i=>((l,(i:Int),r,r.1,Cy l r.cells i):Da)) l.length (fun _=>false) Fk Fj It (GX (l,0,r,r.1,[])) (l,0,r,r.1,[]) rfl (by show l.length≤((l.length:Int) - 0).toNat;omega)
  (fun i _ _=>by
   show(!!decide ((i:Int) <(l.length:Int)))=_
   rw[nn,MA,Bool.not_false,Bool.and_true])
  (fun i hi _=>by
   have hs:=Be5 (l.getD i (Ae TC.group)).2 (r.2.getD i (Ae TC.cell))
   show(l,IntKind.i64.wrap ((i:Int)+1),r,(bif IS (l.getD ((i:Int)).toNat (Ae TC.group)).2 (r.2.getD ((i:Int)).toNat (Ae TC.cell)) then r.1 else r.1),(bif IS (l.getD ((i:Int)).toNat (Ae TC.group)).2 (r.2.getD ((i:Int)).toNat (Ae TC.cell)) then Cy l r.cells i++[TField.mk (i:Int) (Pp (l.getD ((i:Int)).toNat (Ae TC.group)).2 (r.2.getD ((i:Int)).toNat (Ae TC.cell)))] else Cy l r.cells i))=(l,((i+1:Nat):Int),r,r.1,Cy l r.cells (i+1))
   rw[ES (by omega),Int.toNat_natCast,hs.1,hs.2]
   have:∀b:Bool,(bif b then r.1 else r.1)=r.1:=fun b=>by cases b<;>rfl
   rw[this]
   rfl)
  (fun i hi _=>by
   have hin:(!!decide ((i:Int) <(l.length:Int)))=true→(i:Int) <(l.length:Int):=fun h=>by rw[nn] at h;exact of_decide_eq_true h
   exact Aa (fun h=>⟨by show(0:Int)≤(i:Int);omega,hin h⟩) (Aa (fun h=>⟨by show(0:Int)≤(i:Int);omega,by have:=hin h;show(i:Int) <(r.cells.length:Int);omega⟩) (Aa (fun _ _=>by
    have:=Wl l r.cells i
    show Ai ((Cy l r.cells i).length+1)
    unfold Ai;omega) Ab)))
 have hkn:k=l.length:=by
  rcases Nat.lt_or_ge k l.length with h|h
  ·exact absurd (hst h) (by decide)
  ·omega
 subst hkn
 exact⟨h1,hx⟩
theorem Bfq (a0:List TGroup) (a1:TRow) (hp:∀p∈Ajb a0 a1,p):CallOk Try.prog 64 [.sl .group a0,Ak .row a1] 0 [] 1 (Aqq a0 a1) 1 (Aqp a0 a1):=by
 have hb:∀g∈a0,Az g.name.size:=hp _ (List.mem_cons_self ..)
 have hz:(!(Ap a0 a1 !=0))=true→Ap a0 a1=0:=fun h=>by simpa using h
 have h:=Bjt a0 a1 (Aa hb (Aa (fun h1=>(Aa9 a0 a1 (hz h1)).1) Ab))
 have hk1:IG a0 a1=(Ap a0 a1 !=0):=rfl
 have e:Aes a0 a1=Aj7 a0 a1∧Aet a0 a1=KA a0 a1∧Aeu a0 a1=Aj6 a0 a1:=by
  unfold Aes Aet Aeu Aj7 Aj6
  have hv:KA a0 a1=(Ap a0 a1==0&&!((Cy a0 a1.cells a0.length).length==0)):=rfl
  cases hg:Ap a0 a1 !=0 with
  | true=>
   rw[hk1,hg]
   have:KA a0 a1=false:=by
    rw[hv,show(Ap a0 a1==0)=false by simpa using hg]
    rfl
   rw[this]
   exact⟨rfl,rfl,rfl⟩
  |false=>
   have h0:Ap a0 a1=0:=by simpa using hg
   unfold QH
   rw[hk1,hg,(Aa9 a0 a1 h0).2]
   have:KA a0 a1=!((Cy a0 a1.cells a0.length).length==0):=by rw[hv,h0];rfl
   rw[this]
   show(bif((Cy a0 a1.cells a0.length).length:Int)==0 then _ else _)=_∧(bif((Cy a0 a1.cells a0.length).length:Int)==0 then _ else _)=_∧(bif((Cy a0 a1.cells a0.length).length:Int)==0 then _ else _)=_
   rw[Ave]
   cases(Cy a0 a1.cells a0.length).length==0<;>exact⟨rfl,rfl,rfl⟩
 unfold Aew Aev at h
 rw[e.1,e.2.1,e.2.2] at h
 exact h
def Aex:List A→Nat→Objs→Option A8
 | [y0,y1],nx,o=>match Kp .group y0,AP .row y1 with
  |some a0,some (a1,p1)=>some (1,(Aqq a0 a1).pk (AF nx),nx+1,AE nx (Aqp a0 a1)++o,p1++(Ajb a0 a1))
  |_,_=>none
 |_,_,_=>none
theorem A9i:Fu Try.prog 64 Aex:=fun args nx o k x nx' o' ps h=>by
 unfold Aex at h
 split at h<;>first|(cases h;done)|skip
 split at h<;>first|(cases h;done)|skip
 rename_i a0 a1 p1 e0 e1
 cases h
 refine⟨fun hp=>?_,_,rfl⟩
 have q1:=fun p hm=>hp p (List.mem_append.2 (.inl hm))
 have r1:=fun p hm=>hp p (List.mem_append.2 (.inr hm))
 refine Ah (Ag (Bfq a0 a1 r1) (Nat.le_refl _) (Ac rfl (Ac (Af _ _) Ao)) nx o) fun F N R vs hl=>?_
 obtain⟨v0,w0,rfl,h0,hl⟩:=hl.inv
 obtain⟨v1,w1,rfl,h1,hl⟩:=hl.inv
 exact HL.cons (Cx e0 h0) (HL.cons (Am e1 q1 h1) (hl))
noncomputable def Brb:=A5 64 Aex Bra
theorem A58:Df Try.prog Brb:=Av A9i A57
abbrev Dd:Type:=(List TGroup)×Int×Int×TRow×ByteArray×(List TField)
def MS (x:Dd):St:=⟨53,5,[(3,.own 0 0),(6,.own 2 0),(19,.sl .group x.1),(20,.v (.int .i64 x.2.1)),(21,.v (.int .i64 x.2.2.1))],[(0,some (.box 71 [.v (.string x.2.2.2.1.key),.sl .cell x.2.2.2.1.cells])),(2,some (.box 94 [.v (.string x.2.2.2.2.1),.sq 4])),(4,some (.arr 142 2 (.ty .field x.2.2.2.2.2)))]⟩
def PJ:St→Option Dd
 |⟨53,5,[(3,.own 0 0),(6,.own 2 0),(19,.sl .group z0),(20,.v (.int .i64 z1)),(21,.v (.int .i64 z2))],[(0,some (.box 71 [.v (.string z3),.sl .cell z4])),(2,some (.box 94 [.v (.string z5),.sq 4])),(4,some (.arr 142 2 (.ty .field z6)))]⟩=>some (z0,z1,z2,⟨z3,z4⟩,z5,z6)
 |_=>none
theorem An4:∀s x,PJ s=some x→s=MS x:=fun s x h=>by
 unfold PJ at h
 split at h
 ·cases h;rfl
 ·cases h
def Abm:De:=⟨4,5,[3,6,19,20,21],[],[(0,0),(2,2),(8,4)],[0,2,8],[],[0,2,4]⟩
def A3e:Dy:=⟨[.nilB 2 1 142 .field],[(0,0),(2,2),(3,4)],[3,6,19,20,21],[0,2,3]⟩
def Aub (a0:List TGroup) (_a1:Int) (a2:Int) (a3:TRow) (a4:ByteArray) (_a5:List TField):ByteArray:=bif GB (a0.getD a2.toNat (Ae TC.group)).2 (a3.2.getD a2.toNat (Ae TC.cell)) then a4 else a4
def Auc (a0:List TGroup) (_a1:Int) (a2:Int) (a3:TRow) (_a4:ByteArray) (a5:List TField):List TField:=bif GB (a0.getD a2.toNat (Ae TC.group)).2 (a3.2.getD a2.toNat (Ae TC.cell)) then a5++[TField.mk a2 (MX (a0.getD a2.toNat (Ae TC.group)).2 (a3.2.getD a2.toNat (Ae TC.cell)))] else a5
def Fq (x:Dd):Dd:=(x.1,x.2.1,IntKind.i64.wrap (x.2.2.1+(1:Int)),x.2.2.2.1,Aub x.1 x.2.1 x.2.2.1 x.2.2.2.1 x.2.2.2.2.1 x.2.2.2.2.2,Auc x.1 x.2.1 x.2.2.1 x.2.2.2.1 x.2.2.2.2.1 x.2.2.2.2.2)
def Fp (x:Dd):Cnd:=some (!!decide (x.2.2.1 <x.2.1))
def VF (x:Dd):List Prop:=[((!!decide (x.2.2.1 <x.2.1))=true→(0:Int)≤x.2.2.1∧x.2.2.1 <(↑x.1.length:Int)),((!!decide (x.2.2.1 <x.2.1))=true→(0:Int)≤x.2.2.1∧x.2.2.1 <(↑x.2.2.2.1.2.length:Int)),((!!decide (x.2.2.1 <x.2.1))=true→GB (x.1.getD x.2.2.1.toNat (Ae TC.group)).2 (x.2.2.2.1.2.getD x.2.2.1.toNat (Ae TC.cell))=true→Ai (x.2.2.2.2.2.length+(1:Nat)))]
def Iz (x:Dd):List Prop:=[((!!decide (x.2.2.1 <x.2.1))=true→(0:Int)≤x.2.2.1∧x.2.2.1 <(↑x.1.length:Int)),((!!decide (x.2.2.1 <x.2.1))=true→(0:Int)≤x.2.2.1∧x.2.2.1 <(↑x.2.2.2.1.2.length:Int)),((!!decide (x.2.2.1 <x.2.1))=true→GB (x.1.getD x.2.2.1.toNat (Ae TC.group)).2 (x.2.2.2.1.2.getD x.2.2.1.toNat (Ae TC.cell))=true→Ai (x.2.2.2.2.2.length+(1:Nat)))]
def Tr (x:Dd):Bl:=[(some 0,some (!decide (x.2.2.1 <x.2.1)),⟨53,5,[],[(0,some (.box 71 [.v (.string x.2.2.2.1.1),.sl .cell x.2.2.2.1.2])),(2,some (.box 94 [.v (.string x.2.2.2.2.1),.sq 4])),(4,some (.arr 142 2 (.ty .field x.2.2.2.2.2)))]⟩)]
def G7 (x:Dd):Nat:=(x.2.1 - x.2.2.1).toNat
def KK (x:Dd):Dd:=A9 Fq Fp (G7 x) x
set_option maxRecDepth 100000 in
theorem A0r (a0:List TGroup) (a1:Int) (a2:Int) (a3:TRow) (a4:ByteArray) (a5:List TField):Bx (AA Brb L0) 9 (Aj Try.prog 58 0) Abm (MS (a0,a1,a2,a3,a4,a5))=some (VF (a0,a1,a2,a3,a4,a5),Tr (a0,a1,a2,a3,a4,a5),Fp (a0,a1,a2,a3,a4,a5),MS (Fq (a0,a1,a2,a3,a4,a5))):=by kernel_rfl
set_option maxRecDepth 100000 in
theorem A0s (a0:List TGroup) (a1:Int) (a2:Int) (a3:TRow) (a4:ByteArray) (a5:List TField) (hp:∀p∈Iz (a0,a1,a2,a3,a4,a5),p):∀p∈VF (a0,a1,a2,a3,a4,a5),p:=by
 have n0:=N0 hp
 have n1:=N0 (N1 hp)
 have n2:=N0 (N1 (N1 hp))
 exact(Aa n0 (Aa n1 (Aa n2 Ab)))
noncomputable def VG:=HU (AA Brb L0) (Aj Try.prog 58 0) Abm A3e PJ G7 Fq Fp Iz Tr
theorem Aud:∀s b ps outs,VG s=some (b,ps,outs)→Wf s ⟨ps,outs,none⟩∧Bs (AA C0 L0) b s ps outs:=
 Bi (T:=MS) A58 AG (u:=9) (by kernel_rfl) (by decide) (fun⟨a0,a1,a2,a3,a4,a5⟩=>A0r a0 a1 a2 a3 a4 a5) (fun⟨a0,a1,a2,a3,a4,a5⟩=>A0s a0 a1 a2 a3 a4 a5) An4 (fun _=>AR (n:=53) rfl) fun _ _=>rfl
noncomputable def Abl:=DG 0 VG L0
theorem Aua:Hs Abl:=A3 Aud AG
def IJ (a0:List TGroup) (a1:TRow):Bool:=Ap a0 a1 !=(0:Int)
def QN (a0:List TGroup) (a1:TRow):Bool:=(↑(KK (a0,(↑a0.length:Int),(0:Int),a1,a1.1,[])).snd.snd.snd.snd.snd.length:Int)==(0:Int)
def Afe (a0:List TGroup) (a1:TRow):ByteArray:=bif(IJ a0 a1) then ByteArray.mk #[] else bif(QN a0 a1) then ByteArray.mk #[] else(KK (a0,(↑a0.length:Int),(0:Int),a1,a1.1,[])).snd.snd.snd.snd.fst
def Aff (a0:List TGroup) (a1:TRow):Bool:=bif(IJ a0 a1) then false else bif(QN a0 a1) then false else true
def Afg (a0:List TGroup) (a1:TRow):List TField:=bif(IJ a0 a1) then[] else bif(QN a0 a1) then[] else(KK (a0,(↑a0.length:Int),(0:Int),a1,a1.1,[])).snd.snd.snd.snd.snd
def Afi (a0:List TGroup) (a1:TRow):A:=.tup [.agg [.v (.string (Afe a0 a1)),.sq 0],.v (.bool (Aff a0 a1))]
def Afh (a0:List TGroup) (a1:TRow):Objs:=[(0,some (.arr 142 2 (.ty .field (Afg a0 a1))))]
def Bge (a0:List TGroup) (a1:TRow):List Prop:=[((!(IJ a0 a1))=true→AL Fq Fp Iz (G7 (a0,(↑a0.length:Int),(0:Int),a1,a1.1,[])) (a0,(↑a0.length:Int),(0:Int),a1,a1.1,[]))]
set_option maxRecDepth 100000 in
theorem Bgd (a0:List TGroup) (a1:TRow):EU (AA Brb Abl) 9 58 [.sl .group a0,Ak .row a1] 0 []=some (1,Afi a0 a1,1,Afh a0 a1,[((!(IJ a0 a1))=true→Aj Try.prog (58:FuncId) (0:Nat)=Aj Try.prog (58:FuncId) (0:Nat)),((!(IJ a0 a1))=true→AL Fq Fp Iz (G7 (a0,(↑a0.length:Int),(0:Int),a1,a1.1,[])) (a0,(↑a0.length:Int),(0:Int),a1,a1.1,[]))]):=by kernel_rfl
set_option maxRecDepth 100000 in
theorem Bkb (a0:List TGroup) (a1:TRow) (hp:∀p∈Bge a0 a1,p):CallOk Try.prog 58 [.sl .group a0,Ak .row a1] 0 [] 1 (Afi a0 a1) 1 (Afh a0 a1):=by
 have n0:((!(IJ a0 a1))=true→Aj Try.prog (58:FuncId) (0:Nat)=Aj Try.prog (58:FuncId) (0:Nat)):=by intros;rfl
 have n1:=N0 hp
 exact AH (Aw A58 Aua) (Bgd a0 a1) (Aa n0 (Aa n1 Ab))
def Are (a0:List TGroup) (a1:TRow):A:=.tup [.agg [.v (.string (Aj7 a0 a1)),.sq 0],.v (.bool (KA a0 a1))]
def Ard (a0:List TGroup) (a1:TRow):Objs:=[(0,some (.arr 142 2 (.ty .field (Aj6 a0 a1))))]
def Ajs (_a0:List TGroup) (_a1:TRow):List Prop:=[]
theorem Abn (l:List TGroup) (r:TRow) (h0:Ap l r=0):
  AL Fq Fp Iz (G7 (l,(l.length:Int),0,r,r.1,[])) (l,(l.length:Int),0,r,r.1,[])∧KK (l,(l.length:Int),0,r,r.1,[])=(l,(l.length:Int),(l.length:Int),r,r.1,Cy l r.cells l.length):=by
 obtain⟨hp,hlen,_⟩:=AV h0
 have hl4:=(Hr hp).2
 obtain⟨h1,k,hk,hx,_,hst,_⟩:=I6 (fun i=>((l,(l.length:Int),(i:Int),r,r.1,Cy l r.cells i):Dd)) l.length (fun _=>false) Fq Fp Iz (G7 (l,(l.length:Int),0,r,r.1,[])) (l,(l.length:Int),0,r,r.1,[]) rfl (by show l.length≤((l.length:Int) - 0).toNat;omega)
  (fun i _ _=>by
   show(!!decide ((i:Int) <(l.length:Int)))=_
   rw[nn,MA,Bool.not_false,Bool.and_true])
  (fun i hi _=>by
   have hs:=Af6 (l.getD i (Ae TC.group)).2 (r.2.getD i (Ae TC.cell))
   show(l,(l.length:Int),IntKind.i64.wrap ((i:Int)+1),r,(bif GB (l.getD ((i:Int)).toNat (Ae TC.group)).2 (r.2.getD ((i:Int)).toNat (Ae TC.cell)) then r.1 else r.1),(bif GB (l.getD ((i:Int)).toNat (Ae TC.group)).2 (r.2.getD ((i:Int)).toNat (Ae TC.cell)) then Cy l r.cells i++[TField.mk (i:Int) (MX (l.getD ((i:Int)).toNat (Ae TC.group)).2 (r.2.getD ((i:Int)).toNat (Ae TC.cell)))] else Cy l r.cells i))=(l,(l.length:Int),((i+1:Nat):Int),r,r.1,Cy l r.cells (i+1))
   rw[ES (by omega),Int.toNat_natCast,hs.1,hs.2]
   have:∀b:Bool,(bif b then r.1 else r.1)=r.1:=fun b=>by cases b<;>rfl
   rw[this]
   rfl)
  (fun i hi _=>by
   have hin:(!!decide ((i:Int) <(l.length:Int)))=true→(i:Int) <(l.length:Int):=fun h=>by rw[nn] at h;exact of_decide_eq_true h
   exact Aa (fun h=>⟨by show(0:Int)≤(i:Int);omega,hin h⟩) (Aa (fun h=>⟨by show(0:Int)≤(i:Int);omega,by have:=hin h;show(i:Int) <(r.cells.length:Int);omega⟩) (Aa (fun _ _=>by
    have:=Wl l r.cells i
    show Ai ((Cy l r.cells i).length+1)
    unfold Ai;omega) Ab)))
 have hkn:k=l.length:=by
  rcases Nat.lt_or_ge k l.length with h|h
  ·exact absurd (hst h) (by decide)
  ·omega
 subst hkn
 exact⟨h1,hx⟩
theorem Bgc (a0:List TGroup) (a1:TRow) (_hp:∀p∈Ajs a0 a1,p):CallOk Try.prog 58 [.sl .group a0,Ak .row a1] 0 [] 1 (Are a0 a1) 1 (Ard a0 a1):=by
 have hz:(!(Ap a0 a1 !=0))=true→Ap a0 a1=0:=fun h=>by simpa using h
 have h:=Bkb a0 a1 (Aa (fun h1=>(Abn a0 a1 (hz h1)).1) Ab)
 have hk1:IJ a0 a1=(Ap a0 a1 !=0):=rfl
 have e:Afe a0 a1=Aj7 a0 a1∧Aff a0 a1=KA a0 a1∧Afg a0 a1=Aj6 a0 a1:=by
  unfold Afe Aff Afg Aj7 Aj6
  have hv:KA a0 a1=(Ap a0 a1==0&&!((Cy a0 a1.cells a0.length).length==0)):=rfl
  cases hg:Ap a0 a1 !=0 with
  | true=>
   rw[hk1,hg]
   have:KA a0 a1=false:=by
    rw[hv,show(Ap a0 a1==0)=false by simpa using hg]
    rfl
   rw[this]
   exact⟨rfl,rfl,rfl⟩
  |false=>
   have h0:Ap a0 a1=0:=by simpa using hg
   unfold QN
   rw[hk1,hg,(Abn a0 a1 h0).2]
   have:KA a0 a1=!((Cy a0 a1.cells a0.length).length==0):=by rw[hv,h0];rfl
   rw[this]
   show(bif((Cy a0 a1.cells a0.length).length:Int)==0 then _ else _)=_∧(bif((Cy a0 a1.cells a0.length).length:Int)==0 then _ else _)=_∧(bif((Cy a0 a1.cells a0.length).length:Int)==0 then _ else _)=_
   rw[Ave]
   cases(Cy a0 a1.cells a0.length).length==0<;>exact⟨rfl,rfl,rfl⟩
 unfold Afi Afh at h
 rw[e.1,e.2.1,e.2.2] at h
 exact h
def Afj:List A→Nat→Objs→Option A8
 | [y0,y1],nx,o=>match Kp .group y0,AP .row y1 with
  |some a0,some (a1,p1)=>some (1,(Are a0 a1).pk (AF nx),nx+1,AE nx (Ard a0 a1)++o,p1++(Ajs a0 a1))
  |_,_=>none
 |_,_,_=>none
theorem A9y:Fu Try.prog 58 Afj:=fun args nx o k x nx' o' ps h=>by
 unfold Afj at h
 split at h<;>first|(cases h;done)|skip
 split at h<;>first|(cases h;done)|skip
 rename_i a0 a1 p1 e0 e1
 cases h
 refine⟨fun hp=>?_,_,rfl⟩
 have q1:=fun p hm=>hp p (List.mem_append.2 (.inl hm))
 have r1:=fun p hm=>hp p (List.mem_append.2 (.inr hm))
 refine Ah (Ag (Bgc a0 a1 r1) (Nat.le_refl _) (Ac rfl (Ac (Af _ _) Ao)) nx o) fun F N R vs hl=>?_
 obtain⟨v0,w0,rfl,h0,hl⟩:=hl.inv
 obtain⟨v1,w1,rfl,h1,hl⟩:=hl.inv
 exact HL.cons (Cx e0 h0) (HL.cons (Am e1 q1 h1) (hl))
noncomputable def Brc:=A5 58 Afj Brb
theorem A59:Df Try.prog Brc:=Av A9y A58
abbrev Bh:Type:=Int×TView×TView
def Jr (x:Bh):St:=⟨38,2,[(2,.own 0 0),(3,.own 1 0),(5,.v (.int .i64 x.1))],[(0,some (.box 94 [.v (.string x.2.1.key),.sl .field x.2.1.fields])),(1,some (.box 94 [.v (.string x.2.2.key),.sl .field x.2.2.fields]))]⟩
def KW:St→Option Bh
 |⟨38,2,[(2,.own 0 0),(3,.own 1 0),(5,.v (.int .i64 z0))],[(0,some (.box 94 [.v (.string z1),.sl .field z2])),(1,some (.box 94 [.v (.string z3),.sl .field z4]))]⟩=>some (z0,⟨z1,z2⟩,⟨z3,z4⟩)
 |_=>none
theorem Yb:∀s x,KW s=some x→s=Jr x:=fun s x h=>by
 unfold KW at h
 split at h
 ·cases h;rfl
 ·cases h
def QG:De:=⟨2,2,[2,3,5],[],[(0,0),(1,1)],[0,1],[4],[0,1]⟩
def Ai9:Dy:=⟨[],[(0,0),(1,1)],[2,3,5],[0,1]⟩
def C4 (a0:Int) (a1:TView) (_a2:TView):Bool:=!!decide (a0 <(↑a1.2.length:Int))
def BT (a0:Int) (a1:TView) (a2:TView):Bool:=(C4 a0 a1 a2)&&!((a1.2.getD a0.toNat (Ae TC.field)).1==(a2.2.getD a0.toNat (Ae TC.field)).1&&(a1.2.getD a0.toNat (Ae TC.field)).2.toList==(a2.2.getD a0.toNat (Ae TC.field)).2.toList)
def ZJ (a0:Int) (a1:TView) (a2:TView):Bool:=(C4 a0 a1 a2)&&!(BT a0 a1 a2)
def C6 (x:Bh):Bh:=(IntKind.i64.wrap (x.1+(1:Int)),x.2.1,x.2.2)
def C5 (x:Bh):Cnd:=some (ZJ x.1 x.2.1 x.2.2)
def NS (x:Bh):List Prop:=[((C4 x.1 x.2.1 x.2.2)=true→(0:Int)≤x.1∧x.1 <(↑x.2.1.2.length:Int)),((C4 x.1 x.2.1 x.2.2)=true→(0:Int)≤x.1∧x.1 <(↑x.2.2.2.length:Int))]
def Fe (x:Bh):List Prop:=[((C4 x.1 x.2.1 x.2.2)=true→(0:Int)≤x.1∧x.1 <(↑x.2.1.2.length:Int)),((C4 x.1 x.2.1 x.2.2)=true→(0:Int)≤x.1∧x.1 <(↑x.2.2.2.length:Int))]
def Nb (x:Bh):Bl:=[(some 0,some (!decide (x.1 <(↑x.2.1.2.length:Int))),⟨38,2,[(4,.dead)],[(0,some (.box 94 [.v (.string x.2.1.1),.sl .field x.2.1.2])),(1,some (.box 94 [.v (.string x.2.2.1),.sl .field x.2.2.2]))]⟩),(none,some ((BT x.1 x.2.1 x.2.2)),⟨38,2,[(4,.v (.bool (false)))],[(0,some (.box 94 [.v (.string x.2.1.1),.sl .field x.2.1.2])),(1,some (.box 94 [.v (.string x.2.2.1),.sl .field x.2.2.2]))]⟩)]
def D7 (x:Bh):Nat:=((↑x.2.1.2.length:Int) - x.1).toNat
def ZL (x:Bh):Bh:=A9 C6 C5 (D7 x) x
set_option maxRecDepth 100000 in
theorem Aen (a0:Int) (a1:TView) (a2:TView):Bx (AA Brc L0) 9 (Aj Try.prog 59 0) QG (Jr (a0,a1,a2))=some (NS (a0,a1,a2),Nb (a0,a1,a2),C5 (a0,a1,a2),Jr (C6 (a0,a1,a2))):=by kernel_rfl
set_option maxRecDepth 100000 in
theorem Aeo (a0:Int) (a1:TView) (a2:TView) (hp:∀p∈Fe (a0,a1,a2),p):∀p∈NS (a0,a1,a2),p:=by
 have n0:=N0 hp
 have n1:=N0 (N1 hp)
 exact(Aa n0 (Aa n1 Ab))
noncomputable def NT:=HU (AA Brc L0) (Aj Try.prog 59 0) QG Ai9 KW D7 C6 C5 Fe Nb
theorem ZK:∀s b ps outs,NT s=some (b,ps,outs)→Wf s ⟨ps,outs,none⟩∧Bs (AA C0 L0) b s ps outs:=
 Bi (T:=Jr) A59 AG (u:=9) (by kernel_rfl) (by decide) (fun⟨a0,a1,a2⟩=>Aen a0 a1 a2) (fun⟨a0,a1,a2⟩=>Aeo a0 a1 a2) Yb (fun _=>AR (n:=38) rfl) fun _ _=>rfl
noncomputable def QF:=DG 0 NT L0
theorem ZI:Hs QF:=A3 ZK AG
def Gg (a0:TView) (a1:TView):Bh:=ZL ((0:Int),a0,a1)
def EN (a0:TView) (a1:TView):Bool:=!a0.1.toList==a1.1.toList||(↑a0.2.length:Int) !=(↑a1.2.length:Int)
def Pt (a0:TView) (a1:TView):Bool:=bif(EN a0 a1) then false else bif BT (Gg a0 a1).fst (Gg a0 a1).snd.fst (Gg a0 a1).snd.snd then false else true
def Pu (a0:TView) (a1:TView):A:=.v (.bool (Pt a0 a1))
def Yc (_a0:TView) (_a1:TView):Objs:=[]
def Vp (a0:TView) (a1:TView):List Prop:=[((!(EN a0 a1))=true→AL C6 C5 Fe (D7 ((0:Int),a0,a1)) ((0:Int),a0,a1))]
set_option maxRecDepth 100000 in
theorem Atk (a0:TView) (a1:TView):EU (AA Brc QF) 9 59 [Ak .view a0,Ak .view a1] 0 []=some (1,Pu a0 a1,0,Yc a0 a1,[((!(EN a0 a1))=true→Aj Try.prog (59:FuncId) (0:Nat)=Aj Try.prog (59:FuncId) (0:Nat)),((!(EN a0 a1))=true→AL C6 C5 Fe (D7 ((0:Int),a0,a1)) ((0:Int),a0,a1))]):=by kernel_rfl
set_option maxRecDepth 100000 in
theorem Azt (a0:TView) (a1:TView) (hp:∀p∈Vp a0 a1,p):CallOk Try.prog 59 [Ak .view a0,Ak .view a1] 0 [] 1 (Pu a0 a1) 0 (Yc a0 a1):=by
 have n0:((!(EN a0 a1))=true→Aj Try.prog (59:FuncId) (0:Nat)=Aj Try.prog (59:FuncId) (0:Nat)):=by intros;rfl
 have n1:=N0 hp
 exact AH (Aw A59 ZI) (Atk a0 a1) (Aa n0 (Aa n1 Ab))
def Vq (a0:TView) (a1:TView):A:=.v (.bool (B06 a0 a1))
def Vo (_a0:TView) (_a1:TView):Objs:=[]
def Tf (a0:TView) (_a1:TView):List Prop:=[Az a0.fields.length]
theorem Av5:∀{a b:List TField},Av4 a b=true↔a=b
 | [],[]=>by simp[Av4]
 | [],_::_=>by simp[Av4]
 |_::_,[]=>by simp[Av4]
 |⟨g,v⟩::xs,⟨g',v'⟩::ys=>by
  unfold Av4
  rw[Bool.and_eq_true,Bool.and_eq_true,beq_iff_eq,beq_iff_eq,Av5]
  simp
theorem B05:∀(a b:List TField),a.length=b.length→Av4 a b=Ko a.length (fun i=>(a.getD i (Ae TC.field)).1==(b.getD i (Ae TC.field)).1&&(a.getD i (Ae TC.field)).2==(b.getD i (Ae TC.field)).2):=fun a b h=>by
 rw[Bool.eq_iff_iff,Av5,IU]
 constructor
 ·rintro rfl i _
  simp
 ·intro g
  refine List.ext_getElem h fun i h1 h2=>?_
  have:=g i h1
  rw[List.getD_eq_getElem?_getD,List.getD_eq_getElem?_getD,List.getElem?_eq_getElem h1,List.getElem?_eq_getElem h2,Option.getD_some,Option.getD_some,Bool.and_eq_true,beq_iff_eq,beq_iff_eq] at this
  revert this
  generalize a[i]=x
  generalize b[i]=y
  cases x;cases y
  rintro⟨rfl,rfl⟩
  rfl
theorem Vn (a b:TView) (hb:Az a.fields.length):(∀p∈Vp a b,p)∧Pt a b=B06 a b:=by
 unfold Az at hb
 have hk0:EN a b=(!(a.key==b.key)||a.fields.length !=b.fields.length):=by
  show(!(a.key.toList==b.key.toList)||((a.fields.length:Int) !=(b.fields.length:Int)))=_
  rw[tlb]
  congr 1
  rw[Bool.eq_iff_iff,bne_iff_ne,bne_iff_ne];omega
 have main:EN a b=false→AL C6 C5 Fe (D7 (0,a,b)) (0,a,b)∧BT (Gg a b).fst (Gg a b).snd.fst (Gg a b).snd.snd=!Av4 a.fields b.fields:=fun h0=>by
  rw[hk0] at h0
  have hlen:a.fields.length=b.fields.length:=by simpa using(Bool.or_eq_false_iff.1 h0).2
  have hf:∀i:Nat,BT (i:Int) a b=(decide (i <a.fields.length)&&!((a.fields.getD i (Ae TC.field)).1==(b.fields.getD i (Ae TC.field)).1&&(a.fields.getD i (Ae TC.field)).2==(b.fields.getD i (Ae TC.field)).2)):=fun i=>by
   unfold BT C4
   rw[nn,MA,Int.toNat_natCast,tlb]
  obtain⟨h1,k,hk,hx,_,_,hb'⟩:=I6 (fun i=>(((i:Int),a,b):Bh)) a.fields.length (fun i=>!((a.fields.getD i (Ae TC.field)).1==(b.fields.getD i (Ae TC.field)).1&&(a.fields.getD i (Ae TC.field)).2==(b.fields.getD i (Ae TC.field)).2)) C6 C5 Fe (D7 (0,a,b)) (0,a,b) rfl (by show a.fields.length≤((a.fields.length:Int) - 0).toNat;omega)
   (fun i _ _=>by
    show((!!decide ((i:Int) <(a.fields.length:Int)))&&!BT i a b)=_
    rw[hf,nn,MA]
    cases decide (i <a.fields.length)<;>rfl)
   (fun i hi _=>by
    show(IntKind.i64.wrap ((i:Int)+1),a,b)=(((i+1:Nat):Int),a,b)
    rw[ES (by omega)])
   (fun i _ _=>by
    have hin:(!!decide ((i:Int) <(a.fields.length:Int)))=true→(i:Int) <(a.fields.length:Int):=fun h=>by rw[nn] at h;exact of_decide_eq_true h
    exact Aa (fun h=>⟨by show(0:Int)≤(i:Int);omega,hin h⟩) (Aa (fun h=>⟨by show(0:Int)≤(i:Int);omega,by have:=hin h;show(i:Int) <(b.fields.length:Int);omega⟩) Ab))
  refine⟨h1,?_⟩
  have hr:Gg a b=((k:Int),a,b):=hx
  rw[hr]
  show BT (k:Int) a b=_
  rw[hf,hb',B05 _ _ hlen]
  congr 1
  exact IK fun i _=>Bool.not_not _
 refine⟨Aa (fun h=>(main (by simpa using h)).1) Ab,?_⟩
 unfold Pt B06
 cases h0:EN a b with
 | true=>
  rw[hk0] at h0
  rw[cond_true]
  cases hk:a.key==b.key with
  |false=>rfl
  |true=>
   rw[hk] at h0
   have hne:a.fields.length≠b.fields.length:=by simpa using h0
   cases he:Av4 a.fields b.fields with
   |false=>rfl
   |true=>exact absurd (congrArg List.length (Av5.1 he)) hne
 |false=>
  rw[cond_false,(main h0).2]
  rw[hk0] at h0
  have:(a.key==b.key)=true:=by simpa using(Bool.or_eq_false_iff.1 h0).1
  rw[this,Bool.true_and]
  cases Av4 a.fields b.fields<;>rfl
theorem Atj (a0:TView) (a1:TView) (hp:∀p∈Tf a0 a1,p):CallOk Try.prog 59 [Ak .view a0,Ak .view a1] 0 [] 1 (Vq a0 a1) 0 (Vo a0 a1):=by
 have hb:Az a0.fields.length:=hp _ (List.mem_cons_self ..)
 have h:=Azt a0 a1 (Vn a0 a1 hb).1
 unfold Pu at h
 rw[(Vn a0 a1 hb).2] at h
 exact h
def Pv:List A→Nat→Objs→Option A8
 | [y0,y1],nx,o=>match AP .view y0,AP .view y1 with
  |some (a0,p0),some (a1,p1)=>some (1,(Vq a0 a1).pk (AF nx),nx+0,AE nx (Vo a0 a1)++o,p0++(p1++(Tf a0 a1)))
  |_,_=>none
 |_,_,_=>none
theorem Ana:Fu Try.prog 59 Pv:=fun args nx o k x nx' o' ps h=>by
 unfold Pv at h
 split at h<;>first|(cases h;done)|skip
 split at h<;>first|(cases h;done)|skip
 rename_i a0 p0 a1 p1 e0 e1
 cases h
 refine⟨fun hp=>?_,_,rfl⟩
 have q0:=fun p hm=>hp p (List.mem_append.2 (.inl hm))
 have r0:=fun p hm=>hp p (List.mem_append.2 (.inr hm))
 have q1:=fun p hm=>r0 p (List.mem_append.2 (.inl hm))
 have r1:=fun p hm=>r0 p (List.mem_append.2 (.inr hm))
 refine Ah (Ag (Atj a0 a1 r1) (Nat.le_refl _) (Ac (Af _ _) (Ac (Af _ _) Ao)) nx o) fun F N R vs hl=>?_
 obtain⟨v0,w0,rfl,h0,hl⟩:=hl.inv
 obtain⟨v1,w1,rfl,h1,hl⟩:=hl.inv
 exact HL.cons (Am e0 q0 h0) (HL.cons (Am e1 q1 h1) (hl))
noncomputable def B12:=A5 59 Pv Brc
theorem Bv3:Df Try.prog B12:=Av Ana A59
noncomputable def Cl:=B12
theorem Bbf:Df Try.prog Cl:=Bv3
end Go.Proofs.Yteebobbhhgmeiaa
namespace Go.Proofs.Yteebobbhhgmeiaa
open Go.RowKit Go.Shelf
attribute [local go_sem] Oper.semAt_some
def OwnB (base:Nat) (W:World) (y:Value) (bs:List UInt8):Prop:=OwnR W 5 1 y bs.length (bs.map Bt)∧∀g,CU y=some g→base≤g
theorem OwnB.keep {base:Nat} {W W':World} {y:Value} {bs:List UInt8} (h:OwnB base W y bs) (hk:∀g,base≤g→CU y=some g→W'.heap[g]?=W.heap[g]?):OwnB base W' y bs:=⟨h.1.keep fun g hg=>hk g (h.2 g hg) hg,h.2⟩
theorem OwnB.mono {b b':Nat} {W:World} {y:Value} {bs:List UInt8} (h:OwnB b W y bs) (hb:b'≤b):OwnB b' W y bs:=⟨h.1,fun g hg=>Nat.le_trans hb (h.2 g hg)⟩
theorem Btx (b0 b:Nat) (t:TypeId) (f:List (TGroup×TCell)→List UInt8):Own (fun s W=>∃y,W.heap[b0]?=some (.cells #[y] t (0,0))∧OwnB b W y (f s)):=fun s W W' row ⟨y,h1,h2⟩ hg hr=>by
 have key:∀(g:Nat) (o:Obj),W.heap[g]?=some o→o.isCells=true→W'.heap[g]?=W.heap[g]?:=fun g o ho hc=>by
  refine hg.block g (H8 ho) fun e=>?_
  obtain⟨o',h3,h4⟩:=hr g e.symm
  rw[ho] at h3
  cases h3
  rw[hc] at h4
  cases h4
 refine⟨y,(key b0 _ h1 rfl).trans h1,h2.keep fun g _ hgy=>?_⟩
 rcases h2.1.2 with⟨a,e1,_⟩|⟨g',cap,cur,e1,e3,_⟩
 ·rw[e1] at hgy;cases a<;>cases hgy
 ·rw[e1] at hgy
  cases hgy
  exact key _ _ e3 rfl
theorem OwnB.form {base:Nat} {W:World} {y:Value} {bs:List UInt8} (h:OwnB base W y bs):∃a n c,y=.slice a n c:=by
 obtain⟨a,c,e,_⟩:=h.1.form
 exact⟨a,_,c,e⟩
theorem KB.setCell {n₀ X:Nat} (W:World) (v:Value):KB n₀ X W (W.setCell ⟨X,0,none⟩ v):=
 ⟨rfl,rfl,rfl,by rw[Ajx];exact Nat.le_refl _,fun k _ hk=>Below.heap_setCell W ⟨X,0,none⟩ v k hk⟩
theorem Bdc {α:Type} (F:α→List UInt8) (n:Nat) (h:∀x,(F x).length≤n):∀l:List α,(l.flatMap F).length≤l.length*n
 | []=>by simp
 |x::r=>by
  have:=Bdc F n h r
  have:=h x
  rw[List.flatMap_cons,List.length_append,List.length_cons,Nat.succ_mul]
  omega
set_option maxRecDepth 100000 in
set_option maxHeartbeats 1000000 in
theorem Bkc (w:World) (a0 a1:Option Addr) (gs:List TGroup) (cs:List TCell) (key:ByteArray) (cap0 cap1:Nat) (na ncap:Nat) (ab:Option Addr) (b0:List UInt8) (pc:Int→TCell→List UInt8) (Nx:Nat)
  (hpc:∀q c,(pc q c).length≤Nx)
  (hGd:∀W,Below w.heap.size w W→Calls Try.prog 65 #[.slice a0 gs.length cap0,.agg #[.string key,.slice a1 cs.length cap1]] W fun e W'=>e=.returned (.int .i64 0)∧Below W.heap.size W W')
  (hl1:1≤gs.length) (hl4:gs.length≤4) (hlen0:Nat.beq cs.length gs.length=true)
  (hPT:∀W,Below w.heap.size w W→Calls Try.prog 122 #[.slice ab na ncap,.string key] W fun e W'=>∃y,e=.returned y∧Below W.heap.size W W'∧OwnB W.heap.size W' y b0)
  (hCP:∀W v bs q c base,OwnB base W v bs→bs.length≤b0.length+4*Nx→Calls Try.prog 56 #[v,.int .i64 q,cV c] W fun e W'=>∃y,e=.returned y∧Below W.heap.size W W'∧OwnB W.heap.size W' y (bs++pc q c))
  (hG:0 <gs.length→∃b off,a0=some ⟨b,off,none⟩∧GsAt w.heap.size w.heap.size w b off gs)
  (hS:0 <cs.length→∃b off,a1=some ⟨b,off,none⟩∧CsAt w.heap.size w.heap.size w b off cs):
  Calls Try.prog 79 #[.slice ab na ncap,.slice a0 gs.length cap0,.agg #[.string key,.slice a1 cs.length cap1]] w fun e W'=>∃y,e=.returned y∧Below w.heap.size w W'∧OwnB w.heap.size W' y (b0++(gs.zip cs).flatMap (fun x=>pc x.1.policy x.2)):=by
 refine(callsIn_wide (n:=5)).1 ?_
 refine callsIn_of_wp_marks Try.func79 rfl trivial ?_ rfl
 simp only[Try.ntmps79,List.size_toArray,List.length_cons,List.length_nil,Nat.reduceAdd,Nat.reduceSub,Array.replicate_succ,Array.replicate_zero,List.push_toArray,List.append_toArray,List.nil_append,List.cons_append]
 have hw2:Below w.heap.size w ((w.alloc (.cells #[.slice ab na ncap] 84)).alloc (.cells #[.string key,.slice a1 cs.length cap1] 71)):=((Below.refl _ w).alloc (Nat.le_refl _) _).alloc (by simp) _
 have hr1:=Oh (.cells #[.string key,.slice a1 cs.length cap1] 71) (Hu (w:=w) (.cells #[.slice ab na ncap] 84) rfl)
 have hr2:=Hu (w:=w.alloc (.cells #[.slice ab na ncap] 84)) (.cells #[.string key,.slice a1 cs.length cap1] 71) (n:=w.heap.size+1) (by simp)
 obtain⟨k0,k1⟩:=cb2 hr2
 have k2:=cb1 hr1
 gi_wp2_with (first
  |(refine⟨trivial,?_⟩;gi_at_call 65;refine(callsIn_wide.2 (hGd _ hw2)).mono ?_;rintro e W1 ⟨rfl,hb1⟩;have hx1:=Fw hr1 hb1;have hx2:=Fw hr2 hb1;have d0:=cb1 hx1;have f0:=fb1 hx1;obtain⟨c0,c1⟩:=cb2 hx2;have hB1:Below w.heap.size w W1:=hw2.trans (hb1.mono (by simp;omega));clear hr1 hr2 hb1 k0 k1 k2)
  |(refine⟨trivial,?_⟩;gi_at_call 122;refine(callsIn_wide.2 (hPT _ hB1)).mono ?_;rintro e W2 ⟨y0,rfl,hb2,hy0⟩;obtain⟨ya,yc,rfl,hyc⟩:=hy0.1.form;have hz1:=Fw hx1 hb2;have hz2:=Fw hx2 hb2;have d2:=cb1 hz1;have f2:=fb1 hz1;obtain⟨c2,c3⟩:=cb2 hz2;have hB2:Below w.heap.size w W2:=hB1.trans (hb2.mono hB1.size);clear d0 f0 c0 c1)
  |(refine⟨trivial,?_⟩;gi_at_call 132;refine(Bel _ _ _ _ _ _ _).mono ?_;rintro e W3 ⟨rfl,rfl⟩))
 have hlen:cs.length=gs.length:=Nat.eq_of_beq_eq_true hlen0
 have hy1:=PK (i:=0) hz1 (.slice ya b0.length yc)
 have hy2:=Bx9 hz2 (p:=⟨w.heap.size,0,none⟩) (by simp) (.slice ya b0.length yc)
 have hB3:Below w.heap.size w (W2.setCell ⟨w.heap.size,0,none⟩ (.slice ya b0.length yc)):=hB2.setCell (p:=⟨w.heap.size,0,none⟩) (Nat.le_refl _) _
 have hs1:=H8 hx2
 have hs2:=H8 hy2
 have hyo:OwnB (w.heap.size+1) (W2.setCell ⟨w.heap.size,0,none⟩ (.slice ya b0.length yc)) (.slice ya b0.length yc) b0:=(hy0.mono (Nat.le_of_lt hs1)).keep fun g hg _=>Below.heap_setCell W2 ⟨w.heap.size,0,none⟩ _ g (by simp;omega)
 have hVs:(W2.setCell ⟨w.heap.size,0,none⟩ (.slice ya b0.length yc)).heap.size=W2.heap.size:=Ajx _ _ _
 rw[←hVs]
 generalize W2.setCell ⟨w.heap.size,0,none⟩ (.slice ya b0.length yc)=V at hy1 hy2 hB3 hs2 hyo⊢
 clear hVs
 clear hz1 hz2 d2 f2 c2 c3 hx1 hx2 hb2 hy0
 obtain⟨b,off,rfl,hg⟩:=hG (by omega)
 obtain⟨b',off',rfl,hc⟩:=hS (by omega)
 have hW2:Below V.heap.size V ((V.alloc (.cells #[.slice (some ⟨b,off,none⟩) gs.length cap0] 66)).alloc (.cells #[.string key,.slice (some ⟨b',off',none⟩) cs.length cap1] 71)):=((Below.refl _ V).alloc (Nat.le_refl _) _).alloc (by simp) _
 have hv2:=Oh (.cells #[.string key,.slice (some ⟨b',off',none⟩) cs.length cap1] 71) (Hu (w:=V) (.cells #[.slice (some ⟨b,off,none⟩) gs.length cap0] 66) rfl)
 have hv3:=Hu (w:=V.alloc (.cells #[.slice (some ⟨b,off,none⟩) gs.length cap0] 66)) (.cells #[.string key,.slice (some ⟨b',off',none⟩) cs.length cap1] 71) (n:=V.heap.size+1) (by simp)
 have hz1:=Fw hy1 hW2
 have hz3:=H8 hv3
 have hB4:=hB3.trans (hW2.mono hB3.size)
 have hyo2:OwnB (w.heap.size+1) ((V.alloc (.cells #[.slice (some ⟨b,off,none⟩) gs.length cap0] 66)).alloc (.cells #[.string key,.slice (some ⟨b',off',none⟩) cs.length cap1] 71)) (.slice ya b0.length yc) b0:=hyo.keep fun g _ hgy=>hW2.block g (hyo.1.lt hgy)
 clear hyo hs1
 rw[show V.heap.size=V.heap.size from rfl] at hv2
 generalize hVW:(V.alloc (.cells #[.slice (some ⟨b,off,none⟩) gs.length cap0] 66)).alloc (.cells #[.string key,.slice (some ⟨b',off',none⟩) cs.length cap1] 71)=W2 at hW2 hv2 hv3 hz1 hz3 hB4 hyo2⊢
 have hlt0:=H8 hy1
 have hg2:GsAt W2.heap.size w.heap.size W2 b off gs:=⟨⟨by have:=hg.1.1;omega,by have:=hg.1.1;omega⟩,fun j g hj=>⟨(hB4.cell (p:=⟨b,_,none⟩) hg.1.1).trans (hg.2 j g hj).1,(hB4.cell (p:=⟨b,_,none⟩) hg.1.1).trans (hg.2 j g hj).2⟩⟩
 have hc2:CsAt W2.heap.size w.heap.size W2 b' off' cs:=by
  refine⟨⟨by have:=hc.1.1;omega,by have:=hc.1.1;omega⟩,fun j c hj=>?_⟩
  have k:∀o,W2.cell? ⟨b',o,none⟩=w.cell? ⟨b',o,none⟩:=fun o=>hB4.cell (p:=⟨b',o,none⟩) hc.1.1
  simp only[k]
  exact hc.2 j c hj
 refine wpIn_rangeFunc_ownH (F:=Fence.wide) rfl (by omega) (gf:=165) (lb:=#[.pointer (some ⟨V.heap.size,0,none⟩),.pointer (some ⟨V.heap.size+1,0,none⟩)]) rfl trivial (enters_of Try.func165 (by kernel_rfl) rfl)
  (Apg _ (by omega) V.heap.size (V.heap.size+1) W2.heap.size w.heap.size b off cap0 b' off' cap1 gs cs hlen hl4 W2 (Nat.le_refl _) (cb1 hv2) (cb2 hv3).2 ⟨by omega,by omega⟩ ⟨by omega,by omega⟩ hg2 hc2)
  KB.trans (KB.putObj (Nat.le_refl _)) (Below.refl _ _) (fun _=>rfl)
  (fun pre W=>(∃y,W.heap[w.heap.size]?=some (.cells #[y] 84 (0,0))∧OwnB (w.heap.size+1) W y (b0++pre.flatMap (fun x=>pc x.1.policy x.2)))∧Below w.heap.size w W∧W2.heap.size≤W.heap.size)
  (fun _ _ _=>False)
  (OwnFrom.and (Own.from (Btx w.heap.size (w.heap.size+1) 84 (fun pre=>b0++pre.flatMap (fun x=>pc x.1.policy x.2))) _) (OwnFrom.and (ownFrom_below (Nat.le_refl _) hB4.size) (Uf _ _)))
  (fun _ _ _ _ _ hs _ _=>hs)
  ⟨⟨_,hz1,by simpa using hyo2⟩,hB4,Nat.le_refl _⟩
  (fun x a' W=>(∃B6 B7,a'={tmps:=#[Value.slice ab na ncap,Value.slice (some ⟨b,off,none⟩) gs.length cap0,
     Value.agg #[Value.string key,Value.slice (some ⟨b',off',none⟩) cs.length cap1],
     Value.pointer (some {block:=w.heap.size,off:=0}),undef,
     Value.pointer (some {block:=w.heap.size+1,off:=0}),Value.slice none 0 0,Value.pointer (some ⟨B6,0,none⟩),Value.pointer (some ⟨B7,0,none⟩),
     Value.slice (some ⟨b,off,none⟩) gs.length cap0,Value.agg #[Value.string key,Value.slice (some ⟨b',off',none⟩) cs.length cap1],
     Value.int IntKind.i64 0,Value.bool false,undef,undef,undef,Value.slice ab na ncap,
     Value.pointer (some {block:=w.heap.size+1,off:=0}),Value.string key,Value.slice ya b0.length yc,
     Value.slice (some ⟨b,off,none⟩) gs.length cap0,Value.agg #[Value.string key,Value.slice (some ⟨b',off',none⟩) cs.length cap1],
     Value.func (Fn.func 165) #[] #[Value.pointer (some {block:=V.heap.size,off:=0}),Value.pointer (some {block:=V.heap.size+1,off:=0})],
     gV x.1,cV x.2,undef,undef,undef,undef,undef,undef],defers:=[]}∧
    (W.heap[B6]?=some (.cells #[.string x.1.name,.int .i64 x.1.policy] 79 (0,0))∧W.heap[B7]?=some (.cells #[.int .i64 x.2.stamp.n,.int .i64 x.2.stamp.site,.int .i64 x.2.vec.a,.int .i64 x.2.vec.b,.bool x.2.gone,.string x.2.value,.int .i64 x.2.dead.a,.int .i64 x.2.dead.b] 55 (0,0)))))
  (fun x a'=>Own.from (fun s X Y row hs hgr hr=>by
   obtain⟨B6,B7,e1,e2,e3⟩:=hs
   exact⟨B6,B7,e1,YR B6 _ _ s X Y row e2 hgr hr,YR B7 _ _ s X Y row e3 hgr hr⟩) _) ?assign ?body ?done ?stop
 case assign=>
  rintro l pre x W K ⟨⟨y,i1,i2⟩,i3,i4⟩ hK
  clear hlen hlen0
  dsimp only[Bsd,gV,cV] at hK⊢
  gi_wp2
  have hb:Below W.heap.size W ((W.alloc (.cells #[.string x.1.name,.int .i64 x.1.policy] 79)).alloc (.cells #[.int .i64 x.2.stamp.n,.int .i64 x.2.stamp.site,.int .i64 x.2.vec.a,.int .i64 x.2.vec.b,.bool x.2.gone,.string x.2.value,.int .i64 x.2.dead.a,.int .i64 x.2.dead.b] 55)):=((Below.refl _ W).alloc (Nat.le_refl _) _).alloc (by simp) _
  exact hK _ _ (IW _ hb) (KB.of_below (hb.mono i4)) ⟨⟨y,Fw i1 hb,i2.keep fun g _ hgy=>hb.block g (i2.1.lt hgy)⟩,i3.trans (hb.mono i3.size),Nat.le_trans i4 hb.size⟩ ⟨W.heap.size,W.heap.size+1,rfl,Oh _ (Hu _ rfl),Hu _ (by simp)⟩
 case body=>
  rintro l pre x a' W hl hr ⟨⟨y,i1,i2⟩,i3,i4⟩ ⟨B6,B7,rfl,e6,e7⟩ hlt
  obtain⟨yb,ym,yd,rfl⟩:=i2.form
  obtain⟨k0,k1⟩:=cb2 e6
  obtain⟨m0,m1,m2,m3,m4,m5,m6,m7⟩:=cb8 e7
  have d0:=cb1 i1
  have hbl:(b0++pre.flatMap (fun x=>pc x.1.policy x.2)).length≤b0.length+4*Nx:=by
   have:=Bdc (fun x:TGroup×TCell=>pc x.1.policy x.2) Nx (fun x=>hpc _ _) pre
   have h2:pre.length*Nx≤4*Nx:=Nat.mul_le_mul_right _ (by omega)
   rw[List.length_append]
   omega
  clear hlen hlen0
  generalize hbe:b0++pre.flatMap (fun x=>pc x.1.policy x.2)=bs at*
  gi_wp2_with (refine⟨trivial,?_⟩;gi_at_call 56;refine(CallsIn.inRound l (callsIn_wide.2 (hCP _ _ bs x.1.policy x.2 _ i2 hbl))).mono ?_;rintro e W' ⟨y',rfl,hb,hy'⟩;obtain⟨ye,yn,yf,rfl⟩:=hy'.form;have q1:=Fw i1 hb;have d4:=cb1 q1;have f4:=fb1 q1)
  have hw:=H8 i1
  refine⟨(IW _ hb).trans ((KeepsOthers.setCell _ _ _).from _),(KB.of_below (hb.mono i4)).trans (KB.setCell _ _),⟨_,PK (i:=0) q1 _,?_⟩,(i3.trans (hb.mono i3.size)).setCell (p:=⟨w.heap.size,0,none⟩) (Nat.le_refl _) _,Nat.le_trans i4 (by rw[Ajx];exact hb.size)⟩
  rw[List.flatMap_append,←List.append_assoc,hbe]
  simp only[List.flatMap_cons,List.flatMap_nil,List.append_nil]
  exact(hy'.mono (b':=w.heap.size+1) (by omega)).keep fun g hg _=>Below.heap_setCell W' ⟨w.heap.size,0,none⟩ _ g (by simp;omega)
 case done=>
  rintro D ys W hD rfl ⟨⟨y,i1,i2⟩,i3,i4⟩ hK
  obtain⟨yb,ym,yd,rfl⟩:=i2.form
  have d0:=cb1 i1
  clear hlen hlen0
  gi_wp2
  refine⟨by simp,.inl ⟨_,_,rfl,run_takeDeferred hK,?_⟩⟩
  refine⟨_,results_tmp rfl _ _ _,_,rfl,i3.trans (belowK_b (w:=w) (Nat.le_refl _) W D _ _ (by have:=hB4.size;omega) hK rfl rfl),(i2.mono (Nat.le_succ _)).keep fun g _ hgy=>?_⟩
  refine World.putObj_heap_other fun e=>?_
  subst e
  rcases i2.1.2 with⟨a,e1,_⟩|⟨g',cap,cur,e1,e3,_⟩
  ·rw[e1] at hgy;cases a<;>cases hgy
  ·rw[e1] at hgy
   cases hgy
   rw[hK] at e3
   cases e3
 case stop=>
  rintro D c pre W hD _ h _
  exact h.elim
end Go.Proofs.Yteebobbhhgmeiaa
