/- made by a program (rowgen.py): FrontierSweeps: for every input the law returns true, and each argument reads behind the call as it read before. -/
import Derived.Test.YteebobbhhgmeiaaKFsd

namespace Go.Proofs.Yteebobbhhgmeiaa
open Go.RowKit
abbrev BG:Type:=ByteArray×Nat
def H5 (x:BG):St:=⟨36,2,[(26,.own 1 0)],[(1,some (.sit x.1 x.2))]⟩
def Js:St→Option BG
 |⟨36,2,[(26,.own 1 0)],[(1,some (.sit z0 z1))]⟩=>some (z0,z1)
 |_=>none
theorem TL:∀s x,Js s=some x→s=H5 x:=fun s x h=>by
 unfold Js at h
 split at h
 ·cases h;rfl
 ·cases h
def Ou:DS:=⟨2,2,[26],[],[(1,1)],[1],[2],[1]⟩
def Y7:Eh:=⟨[],[(1,1)],[26],[1]⟩
def EU (a0:ByteArray) (a1:Nat):Bool:=!!decide (a1 <a0.size)
def CS (a0:ByteArray) (a1:Nat):Bool:=(EU a0 a1)&&(decide ((↑(Utf8.decode a0 a1).fst:Int) <(97:Int))||decide ((↑(Utf8.decode a0 a1).fst:Int) >(122:Int)))
def Vd (a0:ByteArray) (a1:Nat):Nat:=bif decide (a1 <a0.size) then a1+(Utf8.decode a0 a1).snd else a1
def Ve (a0:ByteArray) (a1:Nat):Bool:=(EU a0 a1)&&!(CS a0 a1)
def Vf (a0:ByteArray) (a1:Nat):Nat:=bif decide (a1 <a0.size) then a1+(Utf8.decode a0 a1).snd else a1
def Vg (a0:ByteArray) (a1:Nat):Nat:=bif decide (a1 <a0.size) then a1+(Utf8.decode a0 a1).snd else a1
def DC (x:BG):BG:=(x.1,Vd x.1 x.2)
def DB (x:BG):Cnd:=some (Ve x.1 x.2)
def Mi (x:BG):List Prop:=[((EU x.1 x.2)=true→decide (x.2 <x.1.size)=true)]
def Gq (_x:BG):List Prop:=[]
def LG (x:BG):Bw:=[(some 0,some (!decide (x.2 <x.1.size)),⟨36,2,[(2,.dead)],[(1,some (.sit x.1 (Vf x.1 x.2)))]⟩),(none,some ((CS x.1 x.2)),⟨36,2,[(2,.v (.bool (false)))],[(1,some (.sit x.1 (Vg x.1 x.2)))]⟩)]
def EV (x:BG):Nat:=x.1.size - x.2
def I5 (x:BG):BG:=BA DC DB (EV x) x
set_option maxRecDepth 100000 in
theorem WN (a0:ByteArray) (a1:Nat):Ce (Ay Cf L0) 9 (Ah Try.prog 164 0) Ou (H5 (a0,a1))=some (Mi (a0,a1),LG (a0,a1),DB (a0,a1),H5 (DC (a0,a1))):=by kernel_rfl
set_option maxRecDepth 100000 in
theorem WO (a0:ByteArray) (a1:Nat) (_hp:∀p∈Gq (a0,a1),p):∀p∈Mi (a0,a1),p:=by
 have n0:((EU a0 a1)=true→decide (a1 <a0.size)=true):=by intro h;exact(Bool.not_not _).symm.trans h
 exact(Aa n0 Ad)
noncomputable def Mj:=HZ (Ay Cf L0) (Ah Try.prog 164 0) Ou Y7 Js EV DC DB Gq LG
theorem Vh:∀s b ps outs,Mj s=some (b,ps,outs)→Wf s ⟨ps,outs,none⟩∧BY (Ay C0 L0) b s ps outs:=
 BL (T:=H5) A6k AM (u:=9) (by kernel_rfl) (by decide) (fun⟨a0,a1⟩=>WN a0 a1) (fun⟨a0,a1⟩=>WO a0 a1) TL (fun _=>AV (n:=36) rfl) fun _ _=>rfl
noncomputable def Ot:=EO 0 Mj L0
theorem Vc:Ht Ot:=Bf Vh AM
def Fy (a0:Ab):Bool:=a0.1.toList==(ByteArray.mk #[]).toList||decide ((↑a0.1.size:Int) >(12:Int))||a0.2 !=(1:Int)&&a0.2 !=(2:Int)
def Nh (a0:Ab):Bool:=bif(Fy a0) then false else bif CS (I5 (a0.1,(0:Nat))).fst (I5 (a0.1,(0:Nat))).snd then false else true
def Ni (a0:Ab):A:=.v (.bool (Nh a0))
def TM (_a0:Ab):Objs:=[]
def RU (a0:Ab):List Prop:=[((!(Fy a0))=true→AE DC DB Gq (EV (a0.1,(0:Nat))) (a0.1,(0:Nat)))]
set_option maxRecDepth 100000 in
theorem Agn (a0:Ab):Hx (Ay Cf Ot) 9 164 [Aq .group a0] 0 []=some (1,Ni a0,0,TM a0,[((!(Fy a0))=true→Ah Try.prog (164:FuncId) (0:Nat)=Ah Try.prog (164:FuncId) (0:Nat)),((!(Fy a0))=true→AE DC DB Gq (EV (a0.1,(0:Nat))) (a0.1,(0:Nat)))]):=by kernel_rfl
set_option maxRecDepth 100000 in
theorem Aky (a0:Ab) (hp:∀p∈RU a0,p):CallOk Try.prog 164 [Aq .group a0] 0 [] 1 (Ni a0) 0 (TM a0):=by
 have n0:((!(Fy a0))=true→Ah Try.prog (164:FuncId) (0:Nat)=Ah Try.prog (164:FuncId) (0:Nat)):=by intros;rfl
 have n1:=N0 hp
 exact AJ (Aw A6k Vc) (Agn a0) (Aa n0 (Aa n1 Ad))
def RV (a0:Ab):A:=.v (.bool (Hm a0.name&&M9 a0.policy))
def RT (_a0:Ab):Objs:=[]
def Qs (_a0:Ab):List Prop:=[]
theorem RS (g:Ab):(∀p∈RU g,p)∧Nh g=(Hm g.name&&M9 g.policy):=by
 have hk0:∀i,CS g.1 i=(decide (i <g.1.size)&&!To (g.1.data.toList.getD i 0)):=fun i=>by
  unfold CS EU
  rw[nn]
  by_cases h:i <g.1.size
  ·rw[decide_eq_true h,Bool.true_and,Bool.true_and];exact(Ax5 g.1 i h).1
  ·rw[decide_eq_false h];rfl
 obtain⟨h1,k,hk,hx,hs,hst⟩:=A5i (fun i=>((g.1,i):ByteArray×Nat)) g.1.size (fun i=>!To (g.1.data.toList.getD i 0)) DC DB Gq (EV (g.1,0)) (g.1,0) rfl (Nat.le_refl _)
  (fun i _ _=>by
   show((!!decide (i <g.1.size))&&!CS g.1 i)=_
   rw[hk0,nn]
   cases decide (i <g.1.size)<;>rfl)
  (fun i hi hj=>by
   show(g.1,(bif decide (i <g.1.size) then i+(Utf8.decode g.1 i).snd else i))=(g.1,i+1)
   have h2:=hj i (Nat.lt_succ_self i)
   rw[decide_eq_true hi,cond_true,(Ax5 g.1 i hi).2 (by simpa using h2)])
  (fun _ _ _=>Ad)
 refine⟨Aa (fun _=>h1) Ad,?_⟩
 have hr:I5 (g.1,0)=(g.1,k):=hx
 have ha:g.1.data.toList.all To=decide (¬k <g.1.size):=by
  have:=Aun g.1.data.toList 0 To k (by rw[JK];exact hk) (fun j hj=>by simpa using hs j hj) (fun h=>by rw[JK] at h;simpa using hst h)
  rw[JK] at this
  exact this
 unfold Nh
 rw[hr]
 show(bif Fy g then false else bif CS g.1 k then false else true)=_
 rw[hk0]
 unfold Fy Hm M9
 rw[Aa4]
 show _=(g.1.data.toList.all To&&(decide (1≤g.1.size)&&decide (g.1.size≤12))&&(g.2==1||g.2==2))
 rw[ha]
 have e1:(g.1.size==0)=!decide (1≤g.1.size):=Bgh _
 have e2:decide ((g.1.size:Int) >12)=!decide (g.1.size≤12):=by
  rw[←decide_not];exact decide_eq_decide.2 (by generalize g.1.size=m;omega)
 have e3:(g.2 !=1&&g.2 !=2)=!(g.2==1||g.2==2):=by simp[bne]
 rw[e1,e2,e3]
 by_cases h:k <g.1.size
 ·have:=hst h
  rw[this,decide_eq_true h,decide_eq_false (not_not_intro h)]
  simp
 ·rw[decide_eq_false h,decide_eq_true h]
  cases decide (1≤g.1.size)<;>cases decide (g.1.size≤12)<;>cases(g.2==1||g.2==2)<;>rfl
theorem Agm (a0:Ab) (_hp:∀p∈Qs a0,p):CallOk Try.prog 164 [Aq .group a0] 0 [] 1 (RV a0) 0 (RT a0):=by
 have h:=Aky a0 (RS a0).1
 unfold Ni at h
 rw[(RS a0).2] at h
 exact h
def Nj:List A→Nat→Objs→Option BP
 | [y0],nx,o=>match A3 .group y0 with
  |some (a0,p0)=>some (1,(RV a0).pk (AH nx),nx+0,AG nx (RT a0)++o,p0++(Qs a0))
  |_=>none
 |_,_,_=>none
theorem Abf:HO Try.prog 164 Nj:=fun args nx o k x nx' o' ps h=>by
 unfold Nj at h
 split at h<;>first|(cases h;done)|skip
 split at h<;>first|(cases h;done)|skip
 rename_i a0 p0 e0
 cases h
 refine⟨fun hp=>?_,_,rfl⟩
 have q0:=fun p hm=>hp p (List.mem_append.2 (.inl hm))
 have r0:=fun p hm=>hp p (List.mem_append.2 (.inr hm))
 refine Ao (Ai (Agm a0 r0) (Nat.le_refl _) (Af (Ag _ _) Au) nx o) fun F N R vs hl=>?_
 obtain⟨v0,w0,rfl,h0,hl⟩:=hl.inv
 exact HL.cons (Ar e0 q0 h0) (hl)
noncomputable def A6l:=B5 164 Nj Cf
theorem Aqo:Gg Try.prog A6l:=Ax Abf A6k
abbrev Bm:Type:=(List Ab)×Int×Int×(List (U .str×U .i64))
def IH (x:Bm):St:=⟨35,1,[(3,.mp 0),(15,.sl .group x.1),(16,.v (.int .i64 x.2.1)),(17,.v (.int .i64 x.2.2.1))],[(0,some (.map .str .i64 x.2.2.2))]⟩
def Ki:St→Option Bm
 |⟨35,1,[(3,.mp 0),(15,.sl .group z0),(16,.v (.int .i64 z1)),(17,.v (.int .i64 z2))],[(0,some (.map .str .i64 z3))]⟩=>some (z0,z1,z2,z3)
 |_=>none
theorem Vb:∀s x,Ki s=some x→s=IH x:=fun s x h=>by
 unfold Ki at h
 split at h
 ·cases h;rfl
 ·cases h
def Qr:DS:=⟨1,1,[3,15,16,17],[],[(0,0)],[0],[2],[0]⟩
def Abe:Eh:=⟨[],[(0,0)],[3,15,16,17],[0]⟩
def D8 (a0:List Ab) (_a1:Int) (a2:Int) (a3:List (U .str×U .i64)):List (ByteArray×Int):=Vo a3 (a0.getD a2.toNat (Ae TC.group)).1 (IntKind.i64.wrap (I7 a3 (a0.getD a2.toNat (Ae TC.group)).1+(1:Int)))
def C9 (a0:List Ab) (a1:Int) (a2:Int) (a3:List (U .str×U .i64)):Bool:=!!decide (a2 <a1)&&(!(Hm (a0.getD a2.toNat (Ae TC.group)).1&&M9 (a0.getD a2.toNat (Ae TC.group)).2)||decide (I7 (D8 a0 a1 a2 a3) (a0.getD a2.toNat (Ae TC.group)).1 >(1:Int)))
def WK (a0:List Ab) (a1:Int) (a2:Int) (a3:List (U .str×U .i64)):List (U .str×U .i64):=(D8 a0 a1 a2 a3)
def WL (a0:List Ab) (a1:Int) (a2:Int) (a3:List (U .str×U .i64)):Bool:=!!decide (a2 <a1)&&!(C9 a0 a1 a2 a3)
def Hz (a0:List Ab) (_a1:Int) (a2:Int) (_a3:List (U .str×U .i64)):Int:=bif !(Hm (a0.getD a2.toNat (Ae TC.group)).1&&M9 (a0.getD a2.toNat (Ae TC.group)).2) then(2:Int) else(70:Int)
def Va (a0:List Ab) (a1:Int) (a2:Int) (a3:List (U .str×U .i64)):List (U .str×U .i64):=bif !(Hm (a0.getD a2.toNat (Ae TC.group)).1&&M9 (a0.getD a2.toNat (Ae TC.group)).2) then a3 else(D8 a0 a1 a2 a3)
def Db (x:Bm):Bm:=(x.1,x.2.1,IntKind.i64.wrap (x.2.2.1+(1:Int)),WK x.1 x.2.1 x.2.2.1 x.2.2.2)
def Da (x:Bm):Cnd:=some (WL x.1 x.2.1 x.2.2.1 x.2.2.2)
def Nf (x:Bm):List Prop:=[((!!decide (x.2.2.1 <x.2.1))=true→(0:Int)≤x.2.2.1∧x.2.2.1 <(↑x.1.length:Int))]
def Fe (x:Bm):List Prop:=[((!!decide (x.2.2.1 <x.2.1))=true→(0:Int)≤x.2.2.1∧x.2.2.1 <(↑x.1.length:Int))]
def Mh (x:Bm):Bw:=[(some 1,some (!decide (x.2.2.1 <x.2.1)),⟨35,1,[(2,.dead)],[(0,some (.map .str .i64 x.2.2.2))]⟩),(none,some ((C9 x.1 x.2.1 x.2.2.1 x.2.2.2)),⟨35,2,[(2,.v (.int .i64 (Hz x.1 x.2.1 x.2.2.1 x.2.2.2)))],[(0,some (.map .str .i64 (Va x.1 x.2.1 x.2.2.1 x.2.2.2)))]⟩)]
def D9 (x:Bm):Nat:=(x.2.1 - x.2.2.1).toNat
def Gp (x:Bm):Bm:=BA Db Da (D9 x) x
set_option maxRecDepth 100000 in
theorem Y5 (a0:List Ab) (a1:Int) (a2:Int) (a3:List (U .str×U .i64)):Ce (Ay A6l L0) 9 (Ah Try.prog 131 1) Qr (IH (a0,a1,a2,a3))=some (Nf (a0,a1,a2,a3),Mh (a0,a1,a2,a3),Da (a0,a1,a2,a3),IH (Db (a0,a1,a2,a3))):=by kernel_rfl
set_option maxRecDepth 100000 in
theorem Y6 (a0:List Ab) (a1:Int) (a2:Int) (a3:List (U .str×U .i64)) (hp:∀p∈Fe (a0,a1,a2,a3),p):∀p∈Nf (a0,a1,a2,a3),p:=by
 have n0:=N0 hp
 exact(Aa n0 Ad)
noncomputable def Ng:=HZ (Ay A6l L0) (Ah Try.prog 131 1) Qr Abe Ki D9 Db Da Fe Mh
theorem WM:∀s b ps outs,Ng s=some (b,ps,outs)→Wf s ⟨ps,outs,none⟩∧BY (Ay C0 L0) b s ps outs:=
 BL (T:=IH) Aqo AM (u:=9) (by kernel_rfl) (by decide) (fun⟨a0,a1,a2,a3⟩=>Y5 a0 a1 a2 a3) (fun⟨a0,a1,a2,a3⟩=>Y6 a0 a1 a2 a3) Vb (fun _=>AV (n:=35) rfl) fun _ _=>rfl
noncomputable def Qq:=EO 1 Ng L0
theorem WJ:Ht Qq:=Bf WM AM
def D3 (a0:List Ab):Bool:=(↑a0.length:Int)==(0:Int)||decide ((↑a0.length:Int) >(4:Int))
def Nd (a0:List Ab):List Ab:=(Gp (a0,(↑a0.length:Int),(0:Int),[])).fst
def Nc (a0:List Ab):Int:=(Gp (a0,(↑a0.length:Int),(0:Int),[])).snd.fst
def Nb (a0:List Ab):List (U TC.str×U TC.i64):=(Gp (a0,(↑a0.length:Int),(0:Int),[])).snd.snd.snd
def Na (a0:List Ab):Int:=(Gp (a0,(↑a0.length:Int),(0:Int),[])).snd.snd.fst
def Ja (a0:List Ab):Int:=bif(D3 a0) then bif(↑a0.length:Int)==(0:Int) then(2:Int) else(3:Int) else bif C9 (Nd a0) (Nc a0) (Na a0) (Nb a0) then Hz (Nd a0) (Nc a0) (Na a0) (Nb a0) else(0:Int)
def Pi (a0:List Ab):A:=.v (.int .i64 (Ja a0))
def VG (_a0:List Ab):Objs:=[]
def TJ (a0:List Ab):List Prop:=[((!(D3 a0))=true→AE Db Da Fe (D9 (a0,(↑a0.length:Int),(0:Int),[])) (a0,(↑a0.length:Int),(0:Int),[]))]
set_option maxRecDepth 100000 in
theorem Akx (a0:List Ab):Hx (Ay A6l Qq) 9 131 [.sl .group a0] 0 []=some (1,Pi a0,0,VG a0,[((!(D3 a0))=true→Ah Try.prog (131:FuncId) (1:Nat)=Ah Try.prog (131:FuncId) (1:Nat)),((!(D3 a0))=true→AE Db Da Fe (D9 (a0,(↑a0.length:Int),(0:Int),[])) (a0,(↑a0.length:Int),(0:Int),[]))]):=by kernel_rfl
set_option maxRecDepth 100000 in
theorem Anw (a0:List Ab) (hp:∀p∈TJ a0,p):CallOk Try.prog 131 [.sl .group a0] 0 [] 1 (Pi a0) 0 (VG a0):=by
 have n0:((!(D3 a0))=true→Ah Try.prog (131:FuncId) (1:Nat)=Ah Try.prog (131:FuncId) (1:Nat)):=by intros;rfl
 have n1:=N0 hp
 exact AJ (Aw Aqo WJ) (Akx a0) (Aa n0 (Aa n1 Ad))
def TK (a0:List Ab):A:=.v (.int .i64 (CI a0))
def TI (_a0:List Ab):Objs:=[]
def RR (_a0:List Ab):List Prop:=[]
theorem TH (l:List Ab):(∀p∈TJ l,p)∧Ja l=CI l:=by
 have e4:D3 l=(l.length==0||decide (4 <l.length)):=by
  unfold D3
  rw[Ac4]
  congr 1
  exact dgt l.length 4
 have main:D3 l=false→AE Db Da Fe (D9 (l,(l.length:Int),0,[])) (l,(l.length:Int),0,[])∧Ja l=CI l:=fun h4=>by
  have hn4:l.length≤4:=by
   rw[e4] at h4
   have:=of_decide_eq_false (Bool.or_eq_false_iff.1 h4).2
   omega
  have hk0:∀i,i≤l.length→(∀j,j <i→Sq l j=false)→C9 l (l.length:Int) (i:Int) (Ql l i)=(decide (i <l.length)&&Sq l i):=fun i hi hs=>by
   unfold C9 D8
   rw[Int.toNat_natCast,Ai4,if_pos rfl,Ai3 l i hi hs,nn,PE]
   unfold Sq
   congr 2
   cases((l.take i).map (·.name)).any (fun s=>s==(l.getD i (Ae TC.group)).1)<;>rfl
  obtain⟨h1,k,hk,hx,hs,hst⟩:=A5i (fun i=>((l,(l.length:Int),(i:Int),Ql l i):Bm)) l.length (Sq l) Db Da Fe (D9 (l,(l.length:Int),0,[])) ((l,(l.length:Int),0,[]):Bm) rfl
   (by show l.length≤((l.length:Int) - 0).toNat;omega)
   (fun i hi hs=>by
    show((!!decide ((i:Int) <(l.length:Int)))&&!C9 l (l.length:Int) (i:Int) (Ql l i))=_
    rw[hk0 i hi hs,nn,PE]
    cases decide (i <l.length)<;>rfl)
   (fun i hi hs=>by
    show(l,(l.length:Int),IntKind.i64.wrap ((i:Int)+1),D8 l (l.length:Int) (i:Int) (Ql l i))=(l,(l.length:Int),((i+1:Nat):Int),Ql l (i+1))
    rw[FS (by omega)]
    unfold D8
    rw[Int.toNat_natCast]
    rfl)
   (fun i hi hs=>Aa (fun h=>by
    have h':(!!decide ((i:Int) <(l.length:Int)))=true:=h
    rw[nn] at h'
    have:=of_decide_eq_true h'
    show(0:Int)≤(i:Int)∧(i:Int) <(l.length:Int)
    omega) Ad)
  refine⟨h1,?_⟩
  have hr:Gp (l,(l.length:Int),0,[])=(l,(l.length:Int),(k:Int),Ql l k):=hx
  unfold Ja Nd Nc Nb Na
  rw[hr,h4,cond_false]
  show(bif C9 l (l.length:Int) (k:Int) (Ql l k) then Hz l (l.length:Int) (k:Int) (Ql l k) else 0)=_
  rw[hk0 k hk hs]
  rw[e4] at h4
  obtain⟨h5,h6⟩:=Bool.or_eq_false_iff.1 h4
  unfold CI
  rw[h5,h6,cond_false,cond_false,Apf l k [] (fun j hj hl=>by
   have:=hs j hj
   unfold Sq at this
   obtain⟨q1,q2⟩:=Bool.or_eq_false_iff.1 this
   exact⟨by rw[Bool.not_eq_false'] at q1;exact q1,by simpa using q2⟩),List.nil_append]
  by_cases hkl:k <l.length
  ·have hst':=hst hkl
   rw[hst',decide_eq_true hkl,Bool.and_true,cond_true]
   have hd:l.drop k=l.getD k (Ae TC.group)::l.drop (k+1):=by
    rw[List.getD_eq_getElem?_getD,List.getElem?_eq_getElem hkl,Option.getD_some]
    exact List.drop_eq_getElem_cons hkl
   rw[hd]
   unfold OR Hz
   rw[Int.toNat_natCast]
   unfold Sq at hst'
   show(bif !(Hm (l.getD k (Ae TC.group)).1&&M9 (l.getD k (Ae TC.group)).2) then(2:Int) else 70)=bif !(Hm (l.getD k (Ae TC.group)).1&&M9 (l.getD k (Ae TC.group)).2) then 2 else _
   cases hq:!(Hm (l.getD k (Ae TC.group)).1&&M9 (l.getD k (Ae TC.group)).2) with
   |true=>rfl
   |false=>
    rw[hq,Bool.false_or] at hst'
    have hst2:((l.take k).map (·.name)).any (fun s=>s==(l.getD k (Ae TC.group)).name)=true:=hst'
    rw[cond_false,cond_false,hst2]
    rfl
  ·rw[decide_eq_false hkl,Bool.false_and,cond_false,List.drop_eq_nil_of_le (by omega)]
   rfl
 cases h4:D3 l with
 |false=>
  obtain⟨g1,g2⟩:=main h4
  exact⟨Aa (fun _=>g1) Ad,g2⟩
 | true=>
  refine⟨Aa (fun h=>by rw[h4] at h;cases h) Ad,?_⟩
  unfold Ja CI
  rw[h4,cond_true,Ac4]
  rw[e4] at h4
  cases h5:l.length==0 with
  |true=>rfl
  |false=>
   rw[h5,Bool.false_or] at h4
   rw[h4]
   rfl
theorem TG (a0:List Ab) (_hp:∀p∈RR a0,p):CallOk Try.prog 131 [.sl .group a0] 0 [] 1 (TK a0) 0 (TI a0):=by
 have h:=Anw a0 (TH a0).1
 unfold Pi at h
 rw[(TH a0).2] at h
 exact h
def Pj:List A→Nat→Objs→Option BP
 | [y0],nx,o=>match QX .group y0 with
  |some a0=>some (1,(TK a0).pk (AH nx),nx+0,AG nx (TI a0)++o,RR a0)
  |_=>none
 |_,_,_=>none
theorem Agl:HO Try.prog 131 Pj:=fun args nx o k x nx' o' ps h=>by
 unfold Pj at h
 split at h<;>first|(cases h;done)|skip
 split at h<;>first|(cases h;done)|skip
 rename_i a0 e0
 cases h
 refine⟨fun hp=>?_,_,rfl⟩
 refine Ao (Ai (TG a0 hp) (Nat.le_refl _) (Af rfl Au) nx o) fun F N R vs hl=>?_
 obtain⟨v0,w0,rfl,h0,hl⟩:=hl.inv
 exact HL.cons (GD e0 h0) (hl)
noncomputable def A6m:=B5 131 Pj A6l
theorem Aqp:Gg Try.prog A6m:=Ax Agl Aqo
abbrev Dp:Type:=ByteArray×Int
def Lj (x:Dp):St:=⟨28,0,[(0,.v (.string x.1)),(3,.v (.int .i64 x.2))],[]⟩
def Nn:St→Option Dp
 |⟨28,0,[(0,.v (.string z0)),(3,.v (.int .i64 z1))],[]⟩=>some (z0,z1)
 |_=>none
theorem Abo:∀s x,Nn s=some x→s=Lj x:=fun s x h=>by
 unfold Nn at h
 split at h
 ·cases h;rfl
 ·cases h
def VM:DS:=⟨0,0,[0,3],[],[],[],[2],[]⟩
def An0:Eh:=⟨[],[],[0,3],[]⟩
def Ex (a0:ByteArray) (a1:Int):Bool:=!!decide (a1 <(↑a0.size:Int))
def Ew (a0:ByteArray) (a1:Int):Bool:=(Ex a0 a1)&&(decide ((↑(a0.data.toList.getD a1.toNat (0:UInt8)).toNat:Int) <(97:Int))||decide ((↑(a0.data.toList.getD a1.toNat (0:UInt8)).toNat:Int) >(122:Int)))
def Agv (a0:ByteArray) (a1:Int):Bool:=(Ex a0 a1)&&!(Ew a0 a1)
def F4 (x:Dp):Dp:=(x.1,IntKind.i64.wrap (x.2+(1:Int)))
def F3 (x:Dp):Cnd:=some (Agv x.1 x.2)
def R4 (x:Dp):List Prop:=[((Ex x.1 x.2)=true→(0:Int)≤x.2∧x.2 <(↑x.1.size:Int)),((Ex x.1 x.2)=true→decide ((↑(x.1.data.toList.getD x.2.toNat (0:UInt8)).toNat:Int) <(97:Int))=false→(0:Int)≤x.2∧x.2 <(↑x.1.size:Int))]
def Io (x:Dp):List Prop:=[((Ex x.1 x.2)=true→(0:Int)≤x.2∧x.2 <(↑x.1.size:Int)),((Ex x.1 x.2)=true→decide ((↑(x.1.data.toList.getD x.2.toNat (0:UInt8)).toNat:Int) <(97:Int))=false→(0:Int)≤x.2∧x.2 <(↑x.1.size:Int))]
def Qv (x:Dp):Bw:=[(some 0,some (!decide (x.2 <(↑x.1.size:Int))),⟨28,0,[(2,.dead)],[]⟩),(none,some ((Ew x.1 x.2)),⟨28,0,[(2,.v (.bool (false)))],[]⟩)]
def Ha (x:Dp):Nat:=((↑x.1.size:Int) - x.2).toNat
def L2 (x:Dp):Dp:=BA F4 F3 (Ha x) x
set_option maxRecDepth 100000 in
theorem Ak8 (a0:ByteArray) (a1:Int):Ce (Ay A6m L0) 9 (Ah Try.prog 163 0) VM (Lj (a0,a1))=some (R4 (a0,a1),Qv (a0,a1),F3 (a0,a1),Lj (F4 (a0,a1))):=by kernel_rfl
set_option maxRecDepth 100000 in
theorem Ak9 (a0:ByteArray) (a1:Int) (hp:∀p∈Io (a0,a1),p):∀p∈R4 (a0,a1),p:=by
 have n0:=N0 hp
 have n1:=N0 (N1 hp)
 exact(Aa n0 (Aa n1 Ad))
noncomputable def R5:=HZ (Ay A6m L0) (Ah Try.prog 163 0) VM An0 Nn Ha F4 F3 Io Qv
theorem Agw:∀s b ps outs,R5 s=some (b,ps,outs)→Wf s ⟨ps,outs,none⟩∧BY (Ay C0 L0) b s ps outs:=
 BL (T:=Lj) Aqp AM (u:=9) (by kernel_rfl) (by decide) (fun⟨a0,a1⟩=>Ak8 a0 a1) (fun⟨a0,a1⟩=>Ak9 a0 a1) Abo (fun _=>AV (n:=28) rfl) fun _ _=>rfl
noncomputable def VL:=EO 0 R5 L0
theorem Agu:Ht VL:=Bf Agw AM
def WZ (a0:ByteArray):Bool:=bif Ew (L2 (a0,(0:Int))).fst (L2 (a0,(0:Int))).snd then false else decide ((↑a0.size:Int)≥(1:Int))&&decide ((↑a0.size:Int)≤(12:Int))
def W0 (a0:ByteArray):A:=.v (.bool (WZ a0))
def Ala (_a0:ByteArray):Objs:=[]
def Aea (a0:ByteArray):List Prop:=[(AE F4 F3 Io (Ha (a0,(0:Int))) (a0,(0:Int)))]
set_option maxRecDepth 100000 in
theorem Aw2 (a0:ByteArray):Hx (Ay A6m VL) 9 163 [Aq .str a0] 0 []=some (1,W0 a0,0,Ala a0,[(Ah Try.prog (163:FuncId) (0:Nat)=Ah Try.prog (163:FuncId) (0:Nat)),(AE F4 F3 Io (Ha (a0,(0:Int))) (a0,(0:Int)))]):=by kernel_rfl
set_option maxRecDepth 100000 in
theorem A0i (a0:ByteArray) (hp:∀p∈Aea a0,p):CallOk Try.prog 163 [Aq .str a0] 0 [] 1 (W0 a0) 0 (Ala a0):=by
 have n1:=N0 hp
 exact AJ (Aw Aqp Agu) (Aw2 a0) (Aa rfl (Aa n1 Ad))
def Aeb (a0:ByteArray):A:=.v (.bool (Hm a0))
def Ad9 (_a0:ByteArray):Objs:=[]
def Za (a0:ByteArray):List Prop:=[AC a0.size]
theorem Ad8 (g:ByteArray) (hb:AC g.size):(∀p∈Aea g,p)∧WZ g=Hm g:=by
 unfold AC at hb
 have hlow:∀i,(decide ((((g.data.toList.getD i 0).toNat:Nat):Int) <97)||decide ((((g.data.toList.getD i 0).toNat:Nat):Int) >122))=!To (g.data.toList.getD i 0):=fun i=>by
  unfold To
  rw[Bool.not_and,←decide_not,←decide_not]
  congr 1<;>exact decide_eq_decide.2 (by omega)
 have hk0:∀i:Nat,Ew g (i:Int)=(decide (i <g.size)&&!To (g.data.toList.getD i 0)):=fun i=>by
  unfold Ew Ex
  rw[nn,PE,Int.toNat_natCast,hlow]
 obtain⟨h1,k,hk,hx,hs,hst⟩:=A5i (fun i=>((g,(i:Int)):ByteArray×Int)) g.size (fun i=>!To (g.data.toList.getD i 0)) F4 F3 Io (Ha (g,0)) (g,0) rfl (by show g.size≤((g.size:Int) - 0).toNat;omega)
  (fun i _ _=>by
   show((!!decide ((i:Int) <(g.size:Int)))&&!Ew g i)=_
   rw[hk0,nn,PE]
   cases decide (i <g.size)<;>rfl)
  (fun i hi hj=>by
   show(g,IntKind.i64.wrap ((i:Int)+1))=(g,((i+1:Nat):Int))
   rw[FS (by omega)])
  (fun i _ _=>Aa (fun h=>by
    have h':(!!decide ((i:Int) <(g.size:Int)))=true:=h
    rw[nn] at h'
    have:=of_decide_eq_true h'
    show(0:Int)≤(i:Int)∧(i:Int) <(g.size:Int)
    omega) (Aa (fun h _=>by
    have h':(!!decide ((i:Int) <(g.size:Int)))=true:=h
    rw[nn] at h'
    have:=of_decide_eq_true h'
    show(0:Int)≤(i:Int)∧(i:Int) <(g.size:Int)
    omega) Ad))
 refine⟨Aa h1 Ad,?_⟩
 have hr:L2 (g,0)=(g,(k:Int)):=hx
 have ha:g.data.toList.all To=decide (¬k <g.size):=by
  have:=Aun g.data.toList 0 To k (by rw[JK];exact hk) (fun j hj=>by simpa using hs j hj) (fun h=>by rw[JK] at h;simpa using hst h)
  rw[JK] at this
  exact this
 unfold WZ
 rw[hr]
 show(bif Ew g (k:Int) then false else decide ((g.size:Int)≥1)&&decide ((g.size:Int)≤12))=_
 rw[hk0]
 unfold Hm
 rw[ha,show decide ((g.size:Int)≥1)=decide (1≤g.size) from decide_eq_decide.2 (by omega),show decide ((g.size:Int)≤12)=decide (g.size≤12) from decide_eq_decide.2 (by omega)]
 by_cases h:k <g.size
 ·rw[hst h,decide_eq_true h,decide_eq_false (not_not_intro h)]
  rfl
 ·rw[decide_eq_false h,decide_eq_true h]
  rfl
theorem Aw1 (a0:ByteArray) (hp:∀p∈Za a0,p):CallOk Try.prog 163 [Aq .str a0] 0 [] 1 (Aeb a0) 0 (Ad9 a0):=by
 have hb:AC a0.size:=hp _ (List.mem_cons_self ..)
 have h:=A0i a0 (Ad8 a0 hb).1
 unfold W0 at h
 rw[(Ad8 a0 hb).2] at h
 exact h
def W5:List A→Nat→Objs→Option BP
 | [y0],nx,o=>match A3 .str y0 with
  |some (a0,p0)=>some (1,(Aeb a0).pk (AH nx),nx+0,AG nx (Ad9 a0)++o,p0++(Za a0))
  |_=>none
 |_,_,_=>none
theorem Asn:HO Try.prog 163 W5:=fun args nx o k x nx' o' ps h=>by
 unfold W5 at h
 split at h<;>first|(cases h;done)|skip
 split at h<;>first|(cases h;done)|skip
 rename_i a0 p0 e0
 cases h
 refine⟨fun hp=>?_,_,rfl⟩
 have q0:=fun p hm=>hp p (List.mem_append.2 (.inl hm))
 have r0:=fun p hm=>hp p (List.mem_append.2 (.inr hm))
 refine Ao (Ai (Aw1 a0 r0) (Nat.le_refl _) (Af (Ag _ _) Au) nx o) fun F N R vs hl=>?_
 obtain⟨v0,w0,rfl,h0,hl⟩:=hl.inv
 exact HL.cons (Ar e0 q0 h0) (hl)
noncomputable def Ayp:=B5 163 W5 A6m
theorem Ah6:Gg Try.prog Ayp:=Ax Asn Aqp
abbrev CW:Type:=(List Ab)×Int×Int
def Li (x:CW):St:=⟨56,0,[(0,.sl .group x.1),(3,.v (.int .i64 x.2.1)),(4,.v (.int .i64 x.2.2))],[]⟩
def Nl:St→Option CW
 |⟨56,0,[(0,.sl .group z0),(3,.v (.int .i64 z1)),(4,.v (.int .i64 z2))],[]⟩=>some (z0,z1,z2)
 |_=>none
theorem Abn:∀s x,Nl s=some x→s=Li x:=fun s x h=>by
 unfold Nl at h
 split at h
 ·cases h;rfl
 ·cases h
def VK:DS:=⟨0,0,[0,3,4],[],[],[],[2],[]⟩
def Anz:Eh:=⟨[],[],[0,3,4],[]⟩
def DE (a0:List Ab) (a1:Int) (a2:Int):Bool:=!!decide (a2 <a1)&&(a0.getD a2.toNat (Ae TC.group)).1.toList==(a0.getD a1.toNat (Ae TC.group)).1.toList
def Ags (a0:List Ab) (a1:Int) (a2:Int):Bool:=!!decide (a2 <a1)&&!(DE a0 a1 a2)
def Ev (x:CW):CW:=(x.1,x.2.1,IntKind.i64.wrap (x.2.2+(1:Int)))
def Eu (x:CW):Cnd:=some (Ags x.1 x.2.1 x.2.2)
def RZ (x:CW):List Prop:=[((!!decide (x.2.2 <x.2.1))=true→(0:Int)≤x.2.2∧x.2.2 <(↑x.1.length:Int)),((!!decide (x.2.2 <x.2.1))=true→(0:Int)≤x.2.1∧x.2.1 <(↑x.1.length:Int))]
def G9 (x:CW):List Prop:=[((!!decide (x.2.2 <x.2.1))=true→(0:Int)≤x.2.2∧x.2.2 <(↑x.1.length:Int)),((!!decide (x.2.2 <x.2.1))=true→(0:Int)≤x.2.1∧x.2.1 <(↑x.1.length:Int))]
def Qu (x:CW):Bw:=[(some 2,some (!decide (x.2.2 <x.2.1)),⟨56,0,[(2,.dead)],[]⟩),(none,some ((DE x.1 x.2.1 x.2.2)),⟨56,0,[(2,.v (.int .i64 ((70:Int))))],[]⟩)]
def FZ (x:CW):Nat:=(x.2.1 - x.2.2).toNat
def Fz (x:CW):CW:=BA Ev Eu (FZ x) x
set_option maxRecDepth 100000 in
theorem Ak5 (a0:List Ab) (a1:Int) (a2:Int):Ce (Ay Ayp L0) 9 (Ah Try.prog 128 2) VK (Li (a0,a1,a2))=some (RZ (a0,a1,a2),Qu (a0,a1,a2),Eu (a0,a1,a2),Li (Ev (a0,a1,a2))):=by kernel_rfl
set_option maxRecDepth 100000 in
theorem Ak6 (a0:List Ab) (a1:Int) (a2:Int) (hp:∀p∈G9 (a0,a1,a2),p):∀p∈RZ (a0,a1,a2),p:=by
 have n0:=N0 hp
 have n1:=N0 (N1 hp)
 exact(Aa n0 (Aa n1 Ad))
noncomputable def R1:=HZ (Ay Ayp L0) (Ah Try.prog 128 2) VK Anz Nl FZ Ev Eu G9 Qu
theorem Agt:∀s b ps outs,R1 s=some (b,ps,outs)→Wf s ⟨ps,outs,none⟩∧BY (Ay C0 L0) b s ps outs:=
 BL (T:=Li) Ah6 AM (u:=9) (by kernel_rfl) (by decide) (fun⟨a0,a1,a2⟩=>Ak5 a0 a1 a2) (fun⟨a0,a1,a2⟩=>Ak6 a0 a1 a2) Abn (fun _=>AV (n:=56) rfl) fun _ _=>rfl
noncomputable def Lh:=EO 2 R1 L0
theorem RY:Ht Lh:=Bf Agt AM
abbrev CB:Type:=(List Ab)×Int
def Lg (x:CB):St:=⟨56,0,[(0,.sl .group x.1),(3,.v (.int .i64 x.2))],[]⟩
def Nk:St→Option CB
 |⟨56,0,[(0,.sl .group z0),(3,.v (.int .i64 z1))],[]⟩=>some (z0,z1)
 |_=>none
theorem Abm:∀s x,Nk s=some x→s=Lg x:=fun s x h=>by
 unfold Nk at h
 split at h
 ·cases h;rfl
 ·cases h
def VJ:DS:=⟨0,0,[0,3],[],[],[],[2],[]⟩
def Any:Eh:=⟨[],[],[0,3],[]⟩
def A7 (a0:List Ab) (a1:Int):Bool:=!!decide (a1 <(↑a0.length:Int))
def DD (a0:List Ab) (a1:Int):Bool:=!Hm (a0.getD a1.toNat (Ae TC.group)).1||(a0.getD a1.toNat (Ae TC.group)).2 !=(1:Int)&&(a0.getD a1.toNat (Ae TC.group)).2 !=(2:Int)
def Er (a0:List Ab) (a1:Int):Bool:=(A7 a0 a1)&&((DD a0 a1)||DE (Fz (a0,a1,(0:Int))).fst (Fz (a0,a1,(0:Int))).snd.fst (Fz (a0,a1,(0:Int))).snd.snd)
def Agq (a0:List Ab) (a1:Int):Bool:=(A7 a0 a1)&&!(Er a0 a1)
def II (a0:List Ab) (a1:Int):Int:=bif(DD a0 a1) then(2:Int) else(70:Int)
def Et (x:CB):CB:=(x.1,IntKind.i64.wrap (x.2+(1:Int)))
def Es (x:CB):Cnd:=some (Agq x.1 x.2)
def RW (x:CB):List Prop:=[((A7 x.1 x.2)=true→(0:Int)≤x.2∧x.2 <(↑x.1.length:Int)),((A7 x.1 x.2)=true→AC (x.1.getD x.2.toNat (Ae TC.group)).1.size),((A7 x.1 x.2)=true→(!Hm (x.1.getD x.2.toNat (Ae TC.group)).1)=false→(0:Int)≤x.2∧x.2 <(↑x.1.length:Int)),((A7 x.1 x.2)=true→((x.1.getD x.2.toNat (Ae TC.group)).2 !=(1:Int))=true→(!Hm (x.1.getD x.2.toNat (Ae TC.group)).1)=false→(0:Int)≤x.2∧x.2 <(↑x.1.length:Int)),((A7 x.1 x.2)=true→(!(DD x.1 x.2))=true→Ah Try.prog (128:FuncId) (2:Nat)=Ah Try.prog (128:FuncId) (2:Nat)),((A7 x.1 x.2)=true→(!(DD x.1 x.2))=true→AE Ev Eu G9 (FZ (x.1,x.2,(0:Int))) (x.1,x.2,(0:Int)))]
def G8 (x:CB):List Prop:=[((A7 x.1 x.2)=true→(0:Int)≤x.2∧x.2 <(↑x.1.length:Int)),((A7 x.1 x.2)=true→AC (x.1.getD x.2.toNat (Ae TC.group)).1.size),((A7 x.1 x.2)=true→(!Hm (x.1.getD x.2.toNat (Ae TC.group)).1)=false→(0:Int)≤x.2∧x.2 <(↑x.1.length:Int)),((A7 x.1 x.2)=true→((x.1.getD x.2.toNat (Ae TC.group)).2 !=(1:Int))=true→(!Hm (x.1.getD x.2.toNat (Ae TC.group)).1)=false→(0:Int)≤x.2∧x.2 <(↑x.1.length:Int)),((A7 x.1 x.2)=true→(!(DD x.1 x.2))=true→AE Ev Eu G9 (FZ (x.1,x.2,(0:Int))) (x.1,x.2,(0:Int)))]
def Qt (x:CB):Bw:=[(some 0,some (!decide (x.2 <(↑x.1.length:Int))),⟨56,0,[(2,.dead)],[]⟩),(none,some ((Er x.1 x.2)),⟨56,0,[(2,.v (.int .i64 (II x.1 x.2)))],[]⟩)]
def FY (x:CB):Nat:=((↑x.1.length:Int) - x.2).toNat
def L1 (x:CB):CB:=BA Et Es (FY x) x
set_option maxRecDepth 100000 in
theorem Ak3 (a0:List Ab) (a1:Int):Ce (Ay Ayp Lh) 9 (Ah Try.prog 128 0) VJ (Lg (a0,a1))=some (RW (a0,a1),Qt (a0,a1),Es (a0,a1),Lg (Et (a0,a1))):=by kernel_rfl
set_option maxRecDepth 100000 in
theorem Ak4 (a0:List Ab) (a1:Int) (hp:∀p∈G8 (a0,a1),p):∀p∈RW (a0,a1),p:=by
 have n0:=N0 hp
 have n1:=N0 (N1 hp)
 have n2:=N0 (N1 (N1 hp))
 have n3:=N0 (N1 (N1 (N1 hp)))
 have n4:((A7 a0 a1)=true→(!(DD a0 a1))=true→Ah Try.prog (128:FuncId) (2:Nat)=Ah Try.prog (128:FuncId) (2:Nat)):=by intros;rfl
 have n5:=N0 (N1 (N1 (N1 (N1 hp))))
 exact(Aa n0 (Aa n1 (Aa n2 (Aa n3 (Aa n4 (Aa n5 Ad))))))
noncomputable def RX:=HZ (Ay Ayp Lh) (Ah Try.prog 128 0) VJ Any Nk FY Et Es G8 Qt
theorem Agr:∀s b ps outs,RX s=some (b,ps,outs)→Wf s ⟨ps,outs,none⟩∧BY (Ay C0 L0) b s ps outs:=
 BL (T:=Lg) Ah6 RY (u:=9) (by kernel_rfl) (by decide) (fun⟨a0,a1⟩=>Ak3 a0 a1) (fun⟨a0,a1⟩=>Ak4 a0 a1) Abm (fun _=>AV (n:=56) rfl) fun _ _=>rfl
noncomputable def VI:=EO 0 RX Lh
theorem Agp:Ht VI:=Bf Agr RY
def TR (a0:List Ab):Int:=(L1 (a0,(0:Int))).snd
def TQ (a0:List Ab):List Ab:=(L1 (a0,(0:Int))).fst
def GI (a0:List Ab):Bool:=(↑a0.length:Int)==(0:Int)
def Hn (a0:List Ab):Bool:=decide ((↑a0.length:Int) >(4:Int))
def K1 (a0:List Ab):Int:=bif(GI a0) then(2:Int) else bif(Hn a0) then(3:Int) else bif Er (TQ a0) (TR a0) then II (TQ a0) (TR a0) else(0:Int)
def WX (a0:List Ab):A:=.v (.int .i64 (K1 a0))
def Ak7 (_a0:List Ab):Objs:=[]
def Ad6 (a0:List Ab):List Prop:=[((!(GI a0))=true→(!(Hn a0))=true→AE Et Es G8 (FY (a0,(0:Int))) (a0,(0:Int)))]
set_option maxRecDepth 100000 in
theorem Aw0 (a0:List Ab):Hx (Ay Ayp VI) 9 128 [.sl .group a0] 0 []=some (1,WX a0,0,Ak7 a0,[((!(GI a0))=true→(!(Hn a0))=true→Ah Try.prog (128:FuncId) (0:Nat)=Ah Try.prog (128:FuncId) (0:Nat)),((!(GI a0))=true→(!(Hn a0))=true→AE Et Es G8 (FY (a0,(0:Int))) (a0,(0:Int)))]):=by kernel_rfl
set_option maxRecDepth 100000 in
theorem A0h (a0:List Ab) (hp:∀p∈Ad6 a0,p):CallOk Try.prog 128 [.sl .group a0] 0 [] 1 (WX a0) 0 (Ak7 a0):=by
 have n0:((!(GI a0))=true→(!(Hn a0))=true→Ah Try.prog (128:FuncId) (0:Nat)=Ah Try.prog (128:FuncId) (0:Nat)):=by intros;rfl
 have n1:=N0 hp
 exact AJ (Aw Ah6 Agp) (Aw0 a0) (Aa n0 (Aa n1 Ad))
def Ad7 (a0:List Ab):A:=.v (.int .i64 (CI a0))
def Ad5 (_a0:List Ab):Objs:=[]
def Y9 (a0:List Ab):List Prop:=[∀g∈a0,AC g.name.size]
theorem tlb (a b:ByteArray):(a.toList==b.toList)=(a==b):=by
 rw[Bool.eq_iff_iff,A27,beq_iff_eq]
theorem A4a (l:List Ab) (x:ByteArray) (i k:Nat) (hi:i≤l.length) (hk:k≤i) (h1:∀j,j <k→((l.getD j (Ae TC.group)).1==x)=false) (h2:k <i→((l.getD k (Ae TC.group)).1==x)=true):((l.take i).map (·.name)).any (fun s=>s==x)=decide (k <i):=by
 rw[List.any_map]
 by_cases h:k <i
 ·rw[decide_eq_true h]
  refine List.any_eq_true.2 ⟨l.getD k (Ae TC.group),?_,h2 h⟩
  rw[List.getD_eq_getElem?_getD,List.getElem?_eq_getElem (by omega),Option.getD_some]
  exact List.mem_take_iff_getElem.2 ⟨k,by omega,rfl⟩
 ·rw[decide_eq_false h]
  refine Bool.eq_false_iff.2 fun ha=>?_
  obtain⟨g,hg,hx⟩:=List.any_eq_true.1 ha
  obtain⟨j,hj,rfl⟩:=List.mem_take_iff_getElem.1 hg
  have:=h1 j (by omega)
  rw[List.getD_eq_getElem?_getD,List.getElem?_eq_getElem (by omega),Option.getD_some] at this
  have hx':(l[j].1==x)=true:=hx
  rw[this] at hx'
  cases hx'
theorem Apy (l:List Ab) (hl:l.length≤4) (i:Nat) (hi:i <l.length):
  AE Ev Eu G9 (FZ (l,(i:Int),0)) (l,(i:Int),0)∧
  DE (Fz (l,(i:Int),0)).fst (Fz (l,(i:Int),0)).snd.fst (Fz (l,(i:Int),0)).snd.snd=((l.take i).map (·.name)).any (fun s=>s==(l.getD i (Ae TC.group)).1):=by
 have hk0:∀k:Nat,DE l (i:Int) (k:Int)=(decide (k <i)&&((l.getD k (Ae TC.group)).1==(l.getD i (Ae TC.group)).1)):=fun k=>by
  unfold DE
  rw[nn,PE,Int.toNat_natCast,Int.toNat_natCast,tlb]
 obtain⟨h1,k,hk,hx,hs,hst⟩:=A5i (fun k=>((l,(i:Int),(k:Int)):CW)) i (fun k=>(l.getD k (Ae TC.group)).1==(l.getD i (Ae TC.group)).1) Ev Eu G9 (FZ (l,(i:Int),0)) (l,(i:Int),0) rfl (by show i≤((i:Int) - 0).toNat;omega)
  (fun k _ _=>by
   show((!!decide ((k:Int) <(i:Int)))&&!DE l i k)=_
   rw[hk0,nn,PE]
   cases decide (k <i)<;>rfl)
  (fun k hk _=>by
   show(l,(i:Int),IntKind.i64.wrap ((k:Int)+1))=(l,(i:Int),((k+1:Nat):Int))
   rw[FS (by omega)])
  (fun k _ _=>Aa (fun h=>by
    have h':(!!decide ((k:Int) <(i:Int)))=true:=h
    rw[nn] at h'
    have:=of_decide_eq_true h'
    show(0:Int)≤(k:Int)∧(k:Int) <(l.length:Int)
    omega) (Aa (fun _=>by
    show(0:Int)≤(i:Int)∧(i:Int) <(l.length:Int)
    omega) Ad))
 refine⟨h1,?_⟩
 have hr:Fz (l,(i:Int),0)=(l,(i:Int),(k:Int)):=hx
 rw[hr]
 show DE l (i:Int) (k:Int)=_
 rw[hk0,A4a l _ i k (by omega) hk hs hst]
 by_cases h:k <i
 ·rw[hst h,Bool.and_true]
 ·rw[decide_eq_false h,Bool.false_and]
theorem Ad4 (l:List Ab) (hb:∀g∈l,AC g.name.size):(∀p∈Ad6 l,p)∧K1 l=CI l:=by
 have main:GI l=false→Hn l=false→AE Et Es G8 (FY (l,0)) (l,0)∧K1 l=CI l:=fun h1 h0=>by
  have hn4:l.length≤4:=by have h:=of_decide_eq_false h0;omega
  have hf1:∀i:Nat,DD l (i:Int)=!(Hm (l.getD i (Ae TC.group)).1&&M9 (l.getD i (Ae TC.group)).2):=fun i=>by
   unfold DD M9
   rw[Int.toNat_natCast,Bool.not_and]
   congr 1
   simp[bne]
  have hk0:∀i:Nat,Er l (i:Int)=(decide (i <l.length)&&Sq l i):=fun i=>by
   unfold Er A7
   rw[hf1,nn,PE]
   by_cases hi:i <l.length
   ·rw[(Apy l hn4 i hi).2];rfl
   ·rw[decide_eq_false hi];rfl
  obtain⟨g1,k,hk,hx,hs,hst⟩:=A5i (fun i=>((l,(i:Int)):CB)) l.length (Sq l) Et Es G8 (FY (l,0)) ((l,0):CB) rfl
   (by show l.length≤((l.length:Int) - 0).toNat;omega)
   (fun i hi hs=>by
    show((!!decide ((i:Int) <(l.length:Int)))&&!Er l (i:Int))=_
    rw[hk0 i,nn,PE]
    cases decide (i <l.length)<;>rfl)
   (fun i hi hs=>by
    show(l,IntKind.i64.wrap ((i:Int)+1))=(l,((i+1:Nat):Int))
    rw[FS (by omega)])
   (fun i hi hs=>by
    have hlt:(!!decide ((i:Int) <(l.length:Int)))=true→i <l.length:=fun h=>by
     rw[nn] at h
     have:=of_decide_eq_true h
     omega
    have hin:(!!decide ((i:Int) <(l.length:Int)))=true→(0:Int)≤(i:Int)∧(i:Int) <(l.length:Int):=fun h=>by
     have:=hlt h
     omega
    exact Aa hin (Aa (fun h=>by
     have:=hlt h
     show AC (l.getD i (Ae TC.group)).1.size
     rw[List.getD_eq_getElem?_getD,List.getElem?_eq_getElem this,Option.getD_some]
     exact hb _ (List.getElem_mem this)) (Aa (fun h _=>hin h) (Aa (fun h _ _=>hin h) (Aa (fun h _=>(Apy l hn4 i (hlt h)).1) Ad)))))
  refine⟨g1,?_⟩
  have hr:L1 (l,0)=(l,(k:Int)):=hx
  unfold K1 TR TQ
  rw[hr,h1,h0,cond_false,cond_false]
  show(bif Er l (k:Int) then II l (k:Int) else 0)=_
  rw[hk0 k]
  have e1:(l.length==0)=false:=by rw[←Ac4];exact h1
  have e2:decide (4 <l.length)=false:=decide_eq_false (by omega)
  unfold CI
  rw[e1,e2,cond_false,cond_false,Apf l k [] (fun j hj hl=>by
   have:=hs j hj
   unfold Sq at this
   obtain⟨q1,q2⟩:=Bool.or_eq_false_iff.1 this
   exact⟨by rw[Bool.not_eq_false'] at q1;exact q1,by simpa using q2⟩),List.nil_append]
  by_cases hkl:k <l.length
  ·have hst':=hst hkl
   rw[hst',decide_eq_true hkl,Bool.and_true,cond_true]
   have hd:l.drop k=l.getD k (Ae TC.group)::l.drop (k+1):=by
    rw[List.getD_eq_getElem?_getD,List.getElem?_eq_getElem hkl,Option.getD_some]
    exact List.drop_eq_getElem_cons hkl
   rw[hd]
   unfold OR II
   rw[hf1]
   unfold Sq at hst'
   show(bif !(Hm (l.getD k (Ae TC.group)).1&&M9 (l.getD k (Ae TC.group)).2) then(2:Int) else 70)=bif !(Hm (l.getD k (Ae TC.group)).1&&M9 (l.getD k (Ae TC.group)).2) then 2 else _
   cases hq:!(Hm (l.getD k (Ae TC.group)).1&&M9 (l.getD k (Ae TC.group)).2) with
   |true=>rfl
   |false=>
    rw[hq,Bool.false_or] at hst'
    have hst2:((l.take k).map (·.name)).any (fun s=>s==(l.getD k (Ae TC.group)).name)=true:=hst'
    rw[cond_false,cond_false,hst2]
    rfl
  ·rw[decide_eq_false hkl,Bool.false_and,cond_false,List.drop_eq_nil_of_le (by omega)]
   rfl
 cases h1:GI l with
 |true=>
  refine⟨Aa (fun h=>by rw[h1] at h;cases h) Ad,?_⟩
  unfold K1 CI
  rw[h1,cond_true,←Ac4]
  unfold GI at h1
  rw[h1]
  rfl
 | false=>
  cases h0:Hn l with
  |true=>
   refine⟨Aa (fun _ h=>by rw[h0] at h;cases h) Ad,?_⟩
   unfold K1 CI
   rw[h1,h0,cond_false,cond_true,←Ac4]
   unfold GI at h1
   rw[h1,cond_false,←dgt l.length 4]
   unfold Hn at h0
   rw[show(decide ((l.length:Int) >((4:Nat):Int)))=true from h0]
   rfl
  |false=>
   obtain⟨g1,g2⟩:=main h1 h0
   exact⟨Aa (fun _ _=>g1) Ad,g2⟩
theorem Awz (a0:List Ab) (hp:∀p∈Y9 a0,p):CallOk Try.prog 128 [.sl .group a0] 0 [] 1 (Ad7 a0) 0 (Ad5 a0):=by
 have hb:∀g∈a0,AC g.name.size:=hp _ (List.mem_cons_self ..)
 have h:=A0h a0 (Ad4 a0 hb).1
 unfold WX at h
 rw[(Ad4 a0 hb).2] at h
 exact h
def WY:List A→Nat→Objs→Option BP
 | [y0],nx,o=>match QX .group y0 with
  |some a0=>some (1,(Ad7 a0).pk (AH nx),nx+0,AG nx (Ad5 a0)++o,Y9 a0)
  |_=>none
 |_,_,_=>none
theorem Asm:HO Try.prog 128 WY:=fun args nx o k x nx' o' ps h=>by
 unfold WY at h
 split at h<;>first|(cases h;done)|skip
 split at h<;>first|(cases h;done)|skip
 rename_i a0 e0
 cases h
 refine⟨fun hp=>?_,_,rfl⟩
 refine Ao (Ai (Awz a0 hp) (Nat.le_refl _) (Af rfl Au) nx o) fun F N R vs hl=>?_
 obtain⟨v0,w0,rfl,h0,hl⟩:=hl.inv
 exact HL.cons (GD e0 h0) (hl)
noncomputable def Be5:=B5 128 WY Ayp
theorem Bag:Gg Try.prog Be5:=Ax Asm Ah6
noncomputable def Ch:=Be5
theorem Be6:Gg Try.prog Ch:=Bag
end Go.Proofs.Yteebobbhhgmeiaa
namespace Go.Proofs.Yteebobbhhgmeiaa
open Go.RowKit Go.Shelf
attribute [local go_sem] Oper.semAt_some
def gV (g:Ab):Value:=.agg #[.string g.name,.int .i64 g.policy]
def cV (c:TCell):Value:=.agg #[.int .i64 c.stamp.n,.int .i64 c.stamp.site,.int .i64 c.vec.a,.int .i64 c.vec.b,.bool c.gone,.string c.value,.int .i64 c.dead.a,.int .i64 c.dead.b]
structure KB (n₀ X:Nat) (W W':World):Prop where
 os:W'.os=W.os
 tape:W'.tape=W.tape
 output:W'.output=W.output
 size:W.heap.size≤W'.heap.size
 block:∀k,k <n₀→k≠X→W'.heap[k]?=W.heap[k]?
theorem KB.refl (n₀ X:Nat) (W:World):KB n₀ X W W:=⟨rfl,rfl,rfl,Nat.le_refl _,fun _ _ _=>rfl⟩
theorem KB.trans {n₀ X:Nat} {A B C:World} (h:KB n₀ X A B) (k:KB n₀ X B C):KB n₀ X A C:=
 ⟨k.os.trans h.os,k.tape.trans h.tape,k.output.trans h.output,Nat.le_trans h.size k.size,fun i h1 h2=>(k.block i h1 h2).trans (h.block i h1 h2)⟩
theorem KB.of_below {n₀ X:Nat} {A B:World} (h:Below n₀ A B):KB n₀ X A B:=⟨h.os,h.tape,h.output,h.size,fun k hk _=>h.block k hk⟩
theorem KB.cell {n₀ X:Nat} {A B:World} {p:Addr} (h:KB n₀ X A B) (hp:p.block <n₀) (hx:p.block≠X):B.cell? p=A.cell? p:=World.cell?_of_block (h.block _ hp hx)
theorem KB.putObj {n₀ X:Nat} {w:World} (hn:n₀≤w.heap.size) (W:World) (l:Nat) (o o':Obj) (hl:w.heap.size≤l) (h:W.heap[l]?=some o) (h1:o.isCells=false) (h2:o.isWalk=false):KB n₀ X W (W.putObj l o'):=
 KB.of_below (belowK_b hn W l o o' hl h h1 h2)
def GsAt (n₀ X:Nat) (W:World) (b off:Nat) (l:List Ab):Prop:=(b <n₀∧b≠X)∧∀j g,l[j]?=some g→W.cell? ⟨b,off+j*2,none⟩=some (.string g.name)∧W.cell? ⟨b,off+j*2+1,none⟩=some (.int .i64 g.policy)
def CsAt (n₀ X:Nat) (W:World) (b off:Nat) (l:List TCell):Prop:=(b <n₀∧b≠X)∧∀j c,l[j]?=some c→W.cell? ⟨b,off+j*8,none⟩=some (.int .i64 c.stamp.n)∧W.cell? ⟨b,off+j*8+1,none⟩=some (.int .i64 c.stamp.site)∧W.cell? ⟨b,off+j*8+2,none⟩=some (.int .i64 c.vec.a)∧W.cell? ⟨b,off+j*8+3,none⟩=some (.int .i64 c.vec.b)∧W.cell? ⟨b,off+j*8+4,none⟩=some (.bool c.gone)∧W.cell? ⟨b,off+j*8+5,none⟩=some (.string c.value)∧W.cell? ⟨b,off+j*8+6,none⟩=some (.int .i64 c.dead.a)∧W.cell? ⟨b,off+j*8+7,none⟩=some (.int .i64 c.dead.b)
theorem GsAt.kept {n₀ X:Nat} {W W':World} {b off:Nat} {l:List Ab} (h:GsAt n₀ X W b off l) (hb:KB n₀ X W W'):GsAt n₀ X W' b off l:=
 ⟨h.1,fun j g hg=>⟨(hb.cell (p:=⟨b,_,none⟩) h.1.1 h.1.2).trans (h.2 j g hg).1,(hb.cell (p:=⟨b,_,none⟩) h.1.1 h.1.2).trans (h.2 j g hg).2⟩⟩
theorem CsAt.kept {n₀ X:Nat} {W W':World} {b off:Nat} {l:List TCell} (h:CsAt n₀ X W b off l) (hb:KB n₀ X W W'):CsAt n₀ X W' b off l:=by
 refine⟨h.1,fun j c hc=>?_⟩
 obtain⟨h0,h1,h2,h3,h4,h5,h6,h7⟩:=h.2 j c hc
 have k:∀o,W'.cell? ⟨b,o,none⟩=W.cell? ⟨b,o,none⟩:=fun o=>hb.cell (p:=⟨b,o,none⟩) h.1.1 h.1.2
 exact⟨(k _).trans h0,(k _).trans h1,(k _).trans h2,(k _).trans h3,(k _).trans h4,(k _).trans h5,(k _).trans h6,(k _).trans h7⟩
theorem Azn {W W':World} (h:Below W.heap.size W W'):W.grownBy W' none:=⟨h.os,h.tape,h.output,h.size,fun k hk _=>h.block k hk⟩
def A7j (x:Ab×TCell):Array Value:=#[gV x.1,cV x.2]
theorem Bac {α β:Type} (l:List α) (r:List β) (k:Nat) (x:α) (y:β) (hx:l[k]?=some x) (hy:r[k]?=some y):(l.zip r).take (k+1)=(l.zip r).take k++[(x,y)]:=by
 rw[List.take_add_one,(List.getElem?_zip_eq_some (z:=(x,y))).2 ⟨hx,hy⟩]
 rfl
set_option maxRecDepth 100000 in
set_option maxHeartbeats 4000000 in
theorem A40 (n:Nat) (hn:1≤n) (l B2 B3 n₀ b off cap b' off' cap' X:Nat) (gs:List Ab) (cs:List TCell) (hlen:cs.length=gs.length) (hl4:gs.length≤4)
    (J Jx:List (Ab×TCell)→World→Prop) (n1:Nat) (hn1:n₀≤n1)
    (hJa:AbidesFrom n1 J)
    (hY:∀pre x W,J pre W→pre.length <gs.length→YieldAt Fence.wide (n - 1) Try.prog l (A7j x) W fun e W'=>
      (e=.returned (.bool true)∧J (pre++[x]) W'∧KB n₀ X W W')∨(e=.returned (.bool false)∧Jx (pre++[x]) W'))
    (W:World) (hW1:n1=W.heap.size) (h2:W.cell? ⟨B2,0,none⟩=some (.slice (some ⟨b,off,none⟩) gs.length cap)) (h3:W.cell? ⟨B3,1,none⟩=some (.slice (some ⟨b',off',none⟩) cs.length cap')) (hB2:B2 <n₀∧B2≠X) (hB3:B3 <n₀∧B3≠X)
    (hg:GsAt n₀ X W b off gs) (hc:CsAt n₀ X W b' off' cs) (h0:J [] W):
    CallsIn Fence.wide n Try.prog 165 #[.func (.yield l) #[] #[],.pointer (some ⟨B2,0,none⟩),.pointer (some ⟨B3,0,none⟩)] W fun e W'=>(∃v,e=.returned v)∧
      ((∃ys,ys=gs.zip cs∧J ys W')∨(∃pre,(∃k,k≤gs.length∧pre=(gs.zip cs).take k)∧Jx pre W')):=by
  refine callsIn_of_wp Try.func165 rfl trivial ?_ rfl
  simp only[Try.ntmps165,List.size_toArray,List.length_cons,List.length_nil,Nat.reduceAdd,Nat.reduceSub,Array.replicate_succ,Array.replicate_zero,List.push_toArray,List.append_toArray,List.nil_append,List.cons_append]
  gi_wp2
  gi_loopw [8] (fun i wr=>∃k:Nat,k≤gs.length∧i=.int .i64 k∧J ((gs.zip cs).take k) wr∧KB n₀ X W wr∧W.heap.size≤wr.heap.size) (fun i _=>gs.length - (intOf i).toNat)
  case atStart=>exact⟨0,Nat.zero_le _,rfl,h0,KB.refl _ _ _,Nat.le_refl _⟩
  case round=>
    obtain⟨k,hk,rfl,hJs,hnx,hsz⟩:=hrel
    by_cases hlt:k <gs.length
    · have hlt':k <cs.length:=by omega
      obtain⟨hg1,hg2⟩:=(hg.kept hnx).2 k gs[k] (List.getElem?_eq_getElem hlt)
      have h2':=(hnx.cell (p:=⟨B2,0,none⟩) hB2.1 hB2.2).trans h2
      gi_wp2
      have hb3:Below wr.heap.size wr (wr.alloc (.cells #[.string gs[k].name,.int .i64 gs[k].policy] 79)):=(Below.refl _ wr).alloc (Nat.le_refl _) _
      have hv:wr.heap.size=wr.heap.size:=rfl
      have hn:=World.alloc_heap_new wr (.cells #[.string gs[k].name,.int .i64 gs[k].policy] 79)
      generalize wr.alloc (.cells #[.string gs[k].name,.int .i64 gs[k].policy] 79)=W3 at hb3 hn⊢
      have hb4:KB n₀ X wr W3:=KB.of_below (hb3.mono (Nat.le_trans hn1 (by rw[hW1];exact hsz)))
      have hb5:KB n₀ X W3 W3.drew:=KB.of_below ((Below.refl _ W3).drew)
      obtain⟨hc0,hc1,hc2,hc3,hc4,hc5,hc6,hc7⟩:=((hc.kept hnx).kept hb4).2 k cs[k] (List.getElem?_eq_getElem hlt')
      have h3':=((hnx.trans hb4).cell (p:=⟨B3,1,none⟩) hB3.1 hB3.2).trans h3
      have hz:((gs.zip cs).take k).length <gs.length:=by rw[List.length_take,List.length_zip];omega
      have hJ3:J ((gs.zip cs).take k) W3.drew:=hJa _ wr _ none hJs (Azn hb3.drew) (fun r e=>by cases e)
      obtain⟨fn,tmps,assign,body,hy,hR⟩:=hY _ (gs[k],cs[k]) _ hJ3 hz
      have hR2:RoundIn Fence.wide (n - 1) Try.prog l fn tmps assign body W3.drew fun e W'=>∃q:Bool,e=.returned (.bool q)∧(q=true→J ((gs.zip cs).take (k+1)) W'∧KB n₀ X wr W')∧(q=false→Jx ((gs.zip cs).take (k+1)) W'):=by
        refine hR.mono ?_
        rw[←Bac gs cs k gs[k] cs[k] (List.getElem?_eq_getElem hlt) (List.getElem?_eq_getElem hlt')]
        rintro e W' (⟨rfl,h1,h2⟩|⟨rfl,h1⟩)
        ·exact⟨true,rfl,⟨fun _=>⟨h1,(hb4.trans hb5).trans h2⟩,fun h=>by cases h⟩⟩
        ·exact⟨false,rfl,⟨fun h=>(by cases h),fun _=>h1⟩⟩
      clear hR
      have hm:Try.prog.follows .mixedOrders=true:=by kernel_rfl
      dsimp only[A7j,gV,cV] at hy
      obtain⟨hn0,hn1'⟩:=cb2 hn
      gi_region_with_o (refine hR2.mono ?_;rintro e W4 ⟨q,rfl,hq1,hq2⟩)
      all_goals (cases q)
      all_goals gi_wp2
      all_goals first
        |(refine bodyPost_ret (results_none rfl _ _ _) rfl ?_;exact⟨⟨_,rfl⟩,.inr ⟨_,⟨k+1,by omega,rfl⟩,hq2 (by trivial)⟩⟩)
        | (obtain⟨q1,q2⟩:=hq1 (by trivial)
           exact⟨⟨k+1,by omega,rfl,q1,hnx.trans q2,Nat.le_trans hsz q2.size⟩,by simp[intOf];omega⟩)
    · obtain rfl:k=gs.length:=by omega
      gi_wp2
      go_end0
      exact⟨⟨_,rfl⟩,.inl ⟨_,rfl,by rw[List.take_of_length_le (by rw[List.length_zip];omega)] at hJs;exact hJs⟩⟩
set_option maxHeartbeats 1000000 in
theorem Awo (n:Nat) (a:Option Addr) (len cap:Nat) (v1:Value) (key:ByteArray) (w:World):
  CallsIn Fence.wide n Try.prog 132 #[.slice a len cap,.agg #[.string key,v1]] w fun e w'=>e=.returned (.func (.func 165) #[] #[.pointer (some ⟨w.heap.size,0,none⟩),.pointer (some ⟨w.heap.size+1,0,none⟩)])∧w'=(w.alloc (.cells #[.slice a len cap] 66)).alloc (.cells #[.string key,v1] 71):=by
 refine callsIn_of_wp Try.func132 rfl trivial ?_ rfl
 simp only[Try.ntmps132,List.size_toArray,List.length_cons,List.length_nil,Nat.reduceAdd,Nat.reduceSub,Array.replicate_succ,Array.replicate_zero,List.push_toArray,List.append_toArray,List.nil_append,List.cons_append]
 gi_wp2
 go_ret
 exact⟨rfl,rfl⟩
theorem Adz (n:Nat) (hn:1≤n) (B2 B3 n₀ X b off cap b' off' cap':Nat) (gs:List Ab) (cs:List TCell) (hlen:cs.length=gs.length) (hl4:gs.length≤4) (w:World) (hn₀:n₀≤w.heap.size)
  (h2:w.cell? ⟨B2,0,none⟩=some (.slice (some ⟨b,off,none⟩) gs.length cap)) (h3:w.cell? ⟨B3,1,none⟩=some (.slice (some ⟨b',off',none⟩) cs.length cap')) (hB2:B2 <n₀∧B2≠X) (hB3:B3 <n₀∧B3≠X)
  (hg:GsAt n₀ X w b off gs) (hc:CsAt n₀ X w b' off' cs):
  SeqStopsK Fence.wide n Try.prog 165 #[.pointer (some ⟨B2,0,none⟩),.pointer (some ⟨B3,0,none⟩)] A7j (KB n₀ X) (fun ys=>ys=gs.zip cs) (fun pre=>∃k,k≤gs.length∧pre=(gs.zip cs).take k) gs.length w:=fun l J Jx W hW hJ _ hY h0=>by
 have hk:KB n₀ X w W:=KB.of_below (hW.mono hn₀)
 exact A40 n hn l B2 B3 n₀ b off cap b' off' cap' X gs cs hlen hl4 J Jx W.heap.size (Nat.le_trans hn₀ hW.size) hJ hY W rfl ((hk.cell (p:=⟨B2,0,none⟩) hB2.1 hB2.2).trans h2) ((hk.cell (p:=⟨B3,1,none⟩) hB3.1 hB3.2).trans h3) hB2 hB3 (hg.kept hk) (hc.kept hk) h0
def PU (p:Int) (G:Int→TCell→Bool) (gs:List Ab) (key:ByteArray) (cs:List TCell):Int:=
 if(p !=0)=true then p else if key.toList.isEmpty=true then 2 else if 32 <(key.size:Int) then 3 else if((cs.length:Int) !=(gs.length:Int))=true then 100 else bif(gs.zip cs).all (fun x=>G x.1.policy x.2) then 0 else 80
theorem UE {β:Type} (B:Nat) (cs:Array Value) (t:TypeId):Own (fun(_:β) W=>W.heap[B]?=some (.cells cs t (0,0))):=fun s W W' row hs hg hr=>by
 refine(hg.block B (G3 hs) fun e=>?_).trans hs
 obtain⟨o,h1,h2⟩:=hr B e.symm
 rw[hs] at h1
 cases h1
 cases h2
theorem HD (B:Nat) {W W':World} (h:Below W.heap.size W W'):KeepsFrom B W W':=⟨h.size,fun k _ _ hk _=>(h.block k (G3 hk)).trans hk⟩
theorem Rn {β:Type} (B n:Nat):OwnFrom B (fun(_:β) W=>n≤W.heap.size):=fun _ _ _ _ hs hg _=>Nat.le_trans hs hg.size
set_option maxRecDepth 100000 in
set_option maxHeartbeats 4000000 in
theorem Axt (w:World) (a0 a1:Option Addr) (gs:List Ab) (cs:List TCell) (key:ByteArray) (cap0 cap1:Nat) (p:Int) (G:Int→TCell→Bool)
    (hP:∀W,Below w.heap.size w W→Calls Try.prog 131 #[.slice a0 gs.length cap0] W fun e W'=>e=.returned (.int .i64 p)∧Below W.heap.size W W')
    (hp0:p=0→1≤gs.length∧gs.length≤4)
    (hC:∀(q:Int) (c:TCell) W,Calls Try.prog 38 #[.int .i64 q,cV c] W fun e W'=>e=.returned (.bool (G q c))∧Below W.heap.size W W')
    (hG:0 <gs.length→∃b off,a0=some ⟨b,off,none⟩∧GsAt w.heap.size w.heap.size w b off gs)
    (hS:0 <cs.length→∃b off,a1=some ⟨b,off,none⟩∧CsAt w.heap.size w.heap.size w b off cs):
    Calls Try.prog 65 #[.slice a0 gs.length cap0,.agg #[.string key,.slice a1 cs.length cap1]] w fun e W'=>e=.returned (.int .i64 (PU p G gs key cs))∧Below w.heap.size w W':=by
  refine(callsIn_wide (n:=5)).1 ?_
  refine callsIn_of_wp_marks Try.func65 rfl trivial ?_ rfl
  simp only[Try.ntmps65,List.size_toArray,List.length_cons,List.length_nil,Nat.reduceAdd,Nat.reduceSub,Array.replicate_succ,Array.replicate_zero,List.push_toArray,List.append_toArray,List.nil_append,List.cons_append]
  have hw2:Below w.heap.size w ((w.alloc (.cells #[.string key,.slice a1 cs.length cap1] 71)).alloc (.cells #[.int .i64 0] 26)):=((Below.refl _ w).alloc (Nat.le_refl _) _).alloc (by simp) _
  have hr1:=Mx (.cells #[.int .i64 0] 26) (Gv (w:=w) (.cells #[.string key,.slice a1 cs.length cap1] 71) rfl)
  have hr2:=Gv (w:=w.alloc (.cells #[.string key,.slice a1 cs.length cap1] 71)) (.cells #[.int .i64 0] 26) (n:=w.heap.size+1) (by simp)
  gi_wp2_with (first
    |(refine⟨trivial,?_⟩;gi_at_call 131;refine(callsIn_wide.2 (hP _ hw2)).mono ?_;rintro e W1 ⟨rfl,hb1⟩;have hx1:=ER hr1 hb1;have hx2:=ER hr2 hb1;obtain⟨c0,c1⟩:=cb2 hx1;have d0:=cb1 hx2;have f0:=fb1 hx2;have hB1:Below w.heap.size w W1:=hw2.trans (hb1.mono (by simp;omega));clear hr1 hr2 hb1)
    |(refine⟨trivial,?_⟩;gi_at_call 132;refine(Awo _ _ _ _ _ _ _).mono ?_;rintro e W2 ⟨rfl,rfl⟩))
  · have h1:(p !=0)=true:=by assumption
    have e:PU p G gs key cs=p:=by unfold PU;rw[if_pos h1]
    have hc:=cb1 (ND (i:=0) hx2 (.int .i64 p))
    exact⟨.int .i64 p,by simp[results,Try.f65,go_sem,hc],by rw[e],hB1.setCell (p:=⟨w.heap.size+1,0,none⟩) (by simp) _⟩
  · have h1:(p !=0)=false:=by assumption
    have h2:key.toList.isEmpty=true:=by assumption
    have e:PU p G gs key cs=2:=by unfold PU;rw[if_neg (by rw[h1];simp),if_pos h2]
    have hc:=cb1 (ND (i:=0) hx2 (.int .i64 2))
    exact⟨.int .i64 2,by simp[results,Try.f65,go_sem,hc],by rw[e],hB1.setCell (p:=⟨w.heap.size+1,0,none⟩) (by simp) _⟩
  · have h1:(p !=0)=false:=by assumption
    have h2:key.toList.isEmpty=false:=by assumption
    have h3:32 <(key.size:Int):=by assumption
    have e:PU p G gs key cs=3:=by unfold PU;rw[if_neg (by rw[h1];simp),if_neg (by rw[h2];simp),if_pos h3]
    have hc:=cb1 (ND (i:=0) hx2 (.int .i64 3))
    exact⟨.int .i64 3,by simp[results,Try.f65,go_sem,hc],by rw[e],hB1.setCell (p:=⟨w.heap.size+1,0,none⟩) (by simp) _⟩
  · have h1:(p !=0)=false:=by assumption
    have h2:key.toList.isEmpty=false:=by assumption
    have h3:(key.size:Int)≤32:=by assumption
    have h4:((cs.length:Int) !=(gs.length:Int))=true:=by assumption
    have e:PU p G gs key cs=100:=by unfold PU;rw[if_neg (by rw[h1];simp),if_neg (by rw[h2];simp),if_neg (by omega),if_pos h4]
    have hc:=cb1 (ND (i:=0) hx2 (.int .i64 100))
    exact⟨.int .i64 100,by simp[results,Try.f65,go_sem,hc],by rw[e],hB1.setCell (p:=⟨w.heap.size+1,0,none⟩) (by simp) _⟩
  have h1:(p !=0)=false:=by assumption
  have h2:key.toList.isEmpty=false:=by assumption
  have h3:(key.size:Int)≤32:=by assumption
  have h4:((cs.length:Int) !=(gs.length:Int))=false:=by assumption
  have e:PU p G gs key cs=bif(gs.zip cs).all (fun x=>G x.1.policy x.2) then 0 else 80:=by unfold PU;rw[if_neg (by rw[h1];simp),if_neg (by rw[h2];simp),if_neg (by omega),if_neg (by rw[h4];simp)]
  have hp:p=0:=by simpa using h1
  clear h1
  subst hp
  have hlen : cs.length = gs.length := by have:(cs.length:Int)=gs.length:=by simpa using h4
                                          omega
  obtain⟨hl1,hl4⟩:=hp0 rfl
  obtain⟨b,off,rfl,hg⟩:=hG (by omega)
  obtain⟨b',off',rfl,hc⟩:=hS (by omega)
  have hW2:Below W1.heap.size W1 ((W1.alloc (.cells #[.slice (some ⟨b,off,none⟩) gs.length cap0] 66)).alloc (.cells #[.string key,.slice (some ⟨b',off',none⟩) cs.length cap1] 71)):=((Below.refl _ W1).alloc (Nat.le_refl _) _).alloc (by simp) _
  have hy2:=Mx (.cells #[.string key,.slice (some ⟨b',off',none⟩) cs.length cap1] 71) (Gv (w:=W1) (.cells #[.slice (some ⟨b,off,none⟩) gs.length cap0] 66) rfl)
  have hy3:=Gv (w:=W1.alloc (.cells #[.slice (some ⟨b,off,none⟩) gs.length cap0] 66)) (.cells #[.string key,.slice (some ⟨b',off',none⟩) cs.length cap1] 71) (n:=W1.heap.size+1) (by simp)
  have hz2:=ER hx2 hW2
  have hs1:=G3 hx2
  have hs2:=G3 hy3
  have hB2:=hB1.trans (hW2.mono hB1.size)
  generalize (W1.alloc (.cells #[.slice (some ⟨b,off,none⟩) gs.length cap0] 66)).alloc (.cells #[.string key,.slice (some ⟨b',off',none⟩) cs.length cap1] 71)=W2 at hW2 hy2 hy3 hz2 hs2 hB2⊢
  have hg2:GsAt W2.heap.size W2.heap.size W2 b off gs:=⟨⟨by have:=hg.1.1;omega,by have:=hg.1.1;omega⟩,fun j g hj=>⟨(hB2.cell (p:=⟨b,_,none⟩) hg.1.1).trans (hg.2 j g hj).1,(hB2.cell (p:=⟨b,_,none⟩) hg.1.1).trans (hg.2 j g hj).2⟩⟩
  have hc2:CsAt W2.heap.size W2.heap.size W2 b' off' cs:=by
    refine⟨⟨by have:=hc.1.1;omega,by have:=hc.1.1;omega⟩,fun j c hj=>?_⟩
    have k:∀o,W2.cell? ⟨b',o,none⟩=w.cell? ⟨b',o,none⟩:=fun o=>hB2.cell (p:=⟨b',o,none⟩) hc.1.1
    simp only[k]
    exact hc.2 j c hj
  refine wpIn_rangeFunc_ownH (F:=Fence.wide) rfl (by omega) (gf:=165) (lb:=#[.pointer (some ⟨W1.heap.size,0,none⟩),.pointer (some ⟨W1.heap.size+1,0,none⟩)]) rfl trivial (enters_of Try.func165 (by kernel_rfl) rfl)
    (Adz _ (by omega) W1.heap.size (W1.heap.size+1) W2.heap.size W2.heap.size b off cap0 b' off' cap1 gs cs hlen hl4 W2 (Nat.le_refl _) (cb1 hy2) (cb2 hy3).2 ⟨by omega,by omega⟩ ⟨by omega,by omega⟩ hg2 hc2)
    KB.trans (KB.putObj (Nat.le_refl _)) (Below.refl _ _) (fun _=>rfl)
    (fun pre W=>((∀x∈pre,G x.1.policy x.2=true)∧W.heap[w.heap.size+1]?=some (.cells #[.int .i64 0] 26 (0,0)))∧Below w.heap.size w W∧W2.heap.size≤W.heap.size)
    (fun c pre W=>((c=.ret∧∃x∈pre,G x.1.policy x.2=false)∧W.heap[w.heap.size+1]?=some (.cells #[.int .i64 80] 26 (0,0)))∧Below w.heap.size w W∧W2.heap.size≤W.heap.size)
    (OwnFrom.and (OwnFrom.and (ownFrom_pure _ _) (Own.from (UE _ _ _) _)) (OwnFrom.and (ownFrom_below (Nat.le_refl _) hB2.size) (Rn _ _)))
    (fun c=>OwnFrom.and (OwnFrom.and (ownFrom_pure _ _) (Own.from (UE _ _ _) _)) (OwnFrom.and (ownFrom_below (Nat.le_refl _) hB2.size) (Rn _ _)))
    ⟨⟨by simp,hz2⟩,hB2,Nat.le_refl _⟩
    (fun x a' W=>(∃B6 B7,a'={tmps:=#[Value.slice (some ⟨b,off,none⟩) gs.length cap0,Value.agg #[Value.string key,Value.slice (some ⟨b',off',none⟩) cs.length cap1],undef,
          Value.pointer (some {block:=w.heap.size,off:=0}),
          Value.pointer (some {block:=w.heap.size+1,off:=0}),Value.int IntKind.i64 0,Value.pointer (some ⟨B6,0,none⟩),Value.pointer (some ⟨B7,0,none⟩),
          Value.slice (some ⟨b,off,none⟩) gs.length cap0,Value.int IntKind.i64 0,Value.int IntKind.i64 0,Value.bool false,undef,
          Value.bool false,Value.pointer (some {block:=w.heap.size,off:=0}),Value.string key,Value.bool false,
          Value.bool (decide (32 <(key.size:Int))),Value.pointer (some {block:=w.heap.size,off:=0}),
          Value.string key,Value.int IntKind.i64 key.size,Value.bool (decide (32 <(key.size:Int))),Value.bool false,
          Value.pointer (some {block:=w.heap.size,off:=1}),Value.slice (some ⟨b',off',none⟩) cs.length cap1,
          Value.int IntKind.i64 cs.length,Value.slice (some ⟨b,off,none⟩) gs.length cap0,Value.int IntKind.i64 gs.length,
          Value.bool false,Value.slice (some ⟨b,off,none⟩) gs.length cap0,Value.agg #[Value.string key,Value.slice (some ⟨b',off',none⟩) cs.length cap1],
          Value.func (Fn.func 165) #[] #[Value.pointer (some {block:=W1.heap.size,off:=0}),Value.pointer (some {block:=W1.heap.size+1,off:=0})],
          gV x.1,cV x.2,undef,undef,undef,undef,undef],defers:=[]}∧
        (W.heap[B6]?=some (.cells #[.string x.1.name,.int .i64 x.1.policy] 79 (0,0))∧W.heap[B7]?=some (.cells #[.int .i64 x.2.stamp.n,.int .i64 x.2.stamp.site,.int .i64 x.2.vec.a,.int .i64 x.2.vec.b,.bool x.2.gone,.string x.2.value,.int .i64 x.2.dead.a,.int .i64 x.2.dead.b] 55 (0,0)))))
    (fun x a'=>Own.from (fun s X Y row hs hgr hr=>by
      obtain⟨B6,B7,e1,e2,e3⟩:=hs
      exact⟨B6,B7,e1,UE B6 _ _ s X Y row e2 hgr hr,UE B7 _ _ s X Y row e3 hgr hr⟩) _) ?assign ?body ?done ?stop
  case assign=>
    rintro l pre x W K ⟨⟨i1,i2⟩,i3,i4⟩ hK
    clear hlen h4
    dsimp only[A7j,gV,cV] at hK⊢
    gi_wp2
    have hb:Below W.heap.size W ((W.alloc (.cells #[.string x.1.name,.int .i64 x.1.policy] 79)).alloc (.cells #[.int .i64 x.2.stamp.n,.int .i64 x.2.stamp.site,.int .i64 x.2.vec.a,.int .i64 x.2.vec.b,.bool x.2.gone,.string x.2.value,.int .i64 x.2.dead.a,.int .i64 x.2.dead.b] 55)):=((Below.refl _ W).alloc (Nat.le_refl _) _).alloc (by simp) _
    exact hK _ _ (HD _ hb) (KB.of_below (hb.mono i4)) ⟨⟨i1,ER i2 hb⟩,i3.trans (hb.mono i3.size),Nat.le_trans i4 hb.size⟩ ⟨W.heap.size,W.heap.size+1,rfl,Mx _ (Gv _ rfl),Gv _ (by simp)⟩
  case body=>
    rintro l pre x a' W hl hr ⟨⟨i1,i2⟩,i3,i5⟩ ⟨B6,B7,rfl,e6,e7⟩ hlt
    obtain⟨k0,k1⟩:=cb2 e6
    obtain⟨m0,m1,m2,m3,m4,m5,m6,m7⟩:=cb8 e7
    have d0:=cb1 i2
    have f0:=fb1 i2
    cases hGx:G x.1.policy x.2 with
    | true=>
      gi_wp2_with (refine⟨trivial,?_⟩;gi_at_call 38;refine(CallsIn.inRound l (callsIn_wide.2 (hC x.1.policy x.2 _))).mono ?_;rw[hGx];rintro e W' ⟨rfl,hb⟩)
      exact⟨HD _ hb,KB.of_below (hb.mono i5),⟨fun y hy=>(List.mem_append.1 hy).elim (i1 y) (fun e=>by simp at e;subst e;exact hGx),ER i2 hb⟩,i3.trans (hb.mono i3.size),Nat.le_trans i5 hb.size⟩
    | false=>
      gi_wp2_with (refine⟨trivial,?_⟩;gi_at_call 38;refine(CallsIn.inRound l (callsIn_wide.2 (hC x.1.policy x.2 _))).mono ?_;rw[hGx];rintro e W' ⟨rfl,hb⟩;have i4:=ER i2 hb;have d4:=cb1 i4;have f4:=fb1 i4)
      exact⟨(HD _ hb).trans ((KeepsOthers.setCell _ _ _).from _),⟨⟨rfl,x,by simp,hGx⟩,ND (i:=0) i4 (.int .i64 80)⟩,(i3.trans (hb.mono i3.size)).setCell (p:=⟨w.heap.size+1,0,none⟩) (by simp) _,Nat.le_trans i5 (by rw[ZI];exact hb.size)⟩
  case done=>
    rintro D ys W hD rfl ⟨⟨i1,i2⟩,i3,i5⟩ hK
    have d0:=cb1 i2
    have f0:=fb1 i2
    gi_wp2
    have hK':=(KeepsOthers.setCell W ⟨w.heap.size+1,0,none⟩ (.int .i64 0)).same D _ hK rfl
    refine⟨by simp,.inl ⟨_,_,rfl,run_takeDeferred hK',?_⟩⟩
    have hc5:=cell_kept (World.cell?_setCell_same' W ⟨w.heap.size+1,0,none⟩ (.int .i64 0) (by rw[d0];rfl)) (grownBy_putObj' _ D (.deferred none)) (fun r e=>by cases e;exact⟨_,hK',rfl⟩)
    refine⟨.int .i64 0,?_,?_,(i3.setCell (p:=⟨w.heap.size+1,0,none⟩) (by simp) _).trans (belowK_b (w:=w) (Nat.le_refl _) _ D _ _ (by have:=hB2.size;omega) hK' rfl rfl)⟩
    ·simp[results,Try.f65,go_sem,hc5]
    ·rw[List.all_eq_true.2 (fun x hx=>i1 x hx)];rfl
  case stop=>
    rintro D c pre W hD ⟨k,hk,rfl⟩ ⟨⟨⟨rfl,x,hx,hGx⟩,i2⟩,i3,i5⟩ hK
    gi_wp2
    refine⟨by simp,.inl ⟨_,_,rfl,run_takeDeferred hK,?_⟩⟩
    have hc5:=cell_kept (cb1 i2) (grownBy_putObj' _ D (.deferred none)) (fun r e=>by cases e;exact⟨_,hK,rfl⟩)
    refine⟨.int .i64 80,?_,?_,i3.trans (belowK_b (w:=w) (Nat.le_refl _) W D _ _ (by have:=hB2.size;omega) hK rfl rfl)⟩
    ·simp[results,Try.f65,go_sem,hc5]
    · have:(gs.zip cs).all (fun x=>G x.1.policy x.2)=false:=by
        cases ha:(gs.zip cs).all (fun x=>G x.1.policy x.2) with
        |false=>rfl
        |true=>have:=(List.all_eq_true.1 ha) x (List.mem_of_mem_take hx);rw[hGx] at this;cases this
      rw[this];rfl
end Go.Proofs.Yteebobbhhgmeiaa
namespace Go.Proofs.Yteebobbhhgmeiaa
open Go.RowKit
def AF (l:List Ab) (r:TRow):Int:=bif CI l !=0 then CI l else bif r.key.size==0 then 2 else bif decide (32 <r.key.size) then 3 else bif r.cells.length !=l.length then 100 else bif(l.zip r.cells).all (fun x=>EZ x.1.policy x.2) then 0 else 80
def Afe (a0:List Ab) (a1:TRow):A:=.v (.int .i64 (AF a0 a1))
def Afd (_a0:List Ab) (_a1:TRow):Objs:=[]
def Zz (_a0:List Ab) (_a1:TRow):List Prop:=[]
theorem Arq (k:ByteArray):k.toList.isEmpty=(k.size==0):=by
 rw[ByteArray.toList_eq,Bool.eq_iff_iff,List.isEmpty_iff,beq_iff_eq,←JK]
 exact⟨fun h=>by rw[h];rfl,fun h=>List.eq_nil_of_length_eq_zero h⟩
theorem A7y (l:List Ab) (key:ByteArray) (cs:List TCell):PU (CI l) EZ l key cs=AF l ⟨key,cs⟩:=by
 unfold PU AF
 rw[Arq]
 have e3:decide (32 <((key.size:Nat):Int))=decide (32 <key.size):=decide_eq_decide.2 (by omega)
 have e4:(((cs.length:Nat):Int) !=(l.length:Int))=(cs.length !=l.length):=by
  rw[Bool.eq_iff_iff,bne_iff_ne,bne_iff_ne];omega
 simp only[Bool.cond_eq_ite,e4,decide_eq_true_eq,show(32 <((key.size:Nat):Int))=(32 <key.size) from propext (by omega)]
theorem Ap8 {R:World} {ad:Addr} {v:Value} (h:R.cell? ad=some v):ad=⟨ad.block,ad.off,none⟩:=by
 cases ad with|mk b o s=>
 cases s with
 |none=>rfl
 |some q=>
  exfalso
  unfold World.cell? at h
  cases hb:R.heap[b]? with
  |none=>simp only[hb] at h;cases h
  |some ob=>cases ob<;>simp[hb] at h
theorem Bar (b o k j:Nat):((⟨b,o,none⟩:Addr).add k).add j=⟨b,o+k+j,none⟩:=by
 rw[EQ,EQ]
section
variable {F:Nat→Prop} {N:Nm} {nx:Nat} {R:World}
theorem HC.at0 {l:List A} {b o k j:Nat} {x:Value} (h:HC F N nx R l ((⟨b,o,none⟩:Addr).add k)) (hx:l[j]?=some (.v x)):R.cell? ⟨b,o+k+j,none⟩=some x:=by
 obtain⟨y,h1,h2⟩:=h j _ hx
 rw[Bar] at h1
 rw[h1,h2.v_inv]
theorem Bc9 {gs:List Ab} {v:Value} (hF:∀g,F g→g <R.heap.size) (h:Hv F N nx R (.sl .group gs) v):
  ∃a cap,v=.slice a gs.length cap∧(0 <gs.length→∃b off,a=some ⟨b,off,none⟩∧GsAt R.heap.size R.heap.size R b off gs):=by
 obtain⟨a,cap,e,_,h2⟩:=h.sl_inv
 refine⟨a,cap,e,fun hn=>?_⟩
 obtain⟨ad,rfl,hb,h3⟩:=h2 hn
 have hlt:=hF _ hb
 obtain⟨y,hy,_⟩:=h3 0 gs[0] (List.getElem?_eq_getElem hn) 0 (.v (.string gs[0].name)) rfl
 rw[Nat.zero_mul,add_zero,add_zero] at hy
 have hs:=Ap8 hy
 rw[hs] at h3⊢
 refine⟨ad.block,ad.off,rfl,⟨hlt,Nat.ne_of_lt hlt⟩,fun j g hj=>?_⟩
 have h4:=h3 j g hj
 exact⟨h4.at0 (j:=0) (x:=.string g.name) rfl,h4.at0 (j:=1) (x:=.int .i64 g.policy) rfl⟩
theorem Bc7 {cs:List TCell} {v:Value} (hF:∀g,F g→g <R.heap.size) (h:Hv F N nx R (.sl .cell cs) v):
  ∃a cap,v=.slice a cs.length cap∧(0 <cs.length→∃b off,a=some ⟨b,off,none⟩∧CsAt R.heap.size R.heap.size R b off cs):=by
 obtain⟨a,cap,e,_,h2⟩:=h.sl_inv
 refine⟨a,cap,e,fun hn=>?_⟩
 obtain⟨ad,rfl,hb,h3⟩:=h2 hn
 have hlt:=hF _ hb
 obtain⟨y,hy,_⟩:=h3 0 cs[0] (List.getElem?_eq_getElem hn) 0 (.v (.int .i64 cs[0].stamp.n)) rfl
 rw[Nat.zero_mul,add_zero,add_zero] at hy
 have hs:=Ap8 hy
 rw[hs] at h3⊢
 refine⟨ad.block,ad.off,rfl,⟨hlt,Nat.ne_of_lt hlt⟩,fun j c hj=>?_⟩
 have h4:=h3 j c hj
 exact⟨h4.at0 (j:=0) (x:=.int .i64 c.stamp.n) rfl,h4.at0 (j:=1) (x:=.int .i64 c.stamp.site) rfl,h4.at0 (j:=2) (x:=.int .i64 c.vec.a) rfl,h4.at0 (j:=3) (x:=.int .i64 c.vec.b) rfl,h4.at0 (j:=4) (x:=.bool c.gone) rfl,h4.at0 (j:=5) (x:=.string c.value) rfl,h4.at0 (j:=6) (x:=.int .i64 c.dead.a) rfl,h4.at0 (j:=7) (x:=.int .i64 c.dead.b) rfl⟩
theorem HRel.bare (hF:∀g,F g→g <R.heap.size):HRel F N 0 [] R:=⟨hF,fun _ _ h=>(by cases h),fun _ _ _ h=>(by cases h),fun _ _ _ _ _ h=>(by cases h)⟩
end
theorem CallOk.plain {P:Program} {f:FuncId} {args:List A} {x:Value} (h:CallOk P f args 0 [] 1 (.v x) 0 []) {F:Nat→Prop} {N:Nm} {R:World} {vs:List Value} (hF:∀g,F g→g <R.heap.size) (hv:HL F N 0 R args vs):
  Calls P f vs.toArray R fun e R'=>e=.returned x∧Below R.heap.size R R':=
 (h F N R vs (HRel.bare hF) hv).mono fun e R' ⟨y,F',N',e1,_,_,h4,h5⟩=>⟨by rw[e1,h4.v_inv],h5 (Nat.le_refl _)⟩
theorem Afc (a0:List Ab) (a1:TRow) (_hp:∀p∈Zz a0 a1,p):CallOk Try.prog 65 [.sl .group a0,Aq .row a1] 0 [] 1 (Afe a0 a1) 0 (Afd a0 a1):=by
 intro F N R vs hR hv
 obtain⟨v0,vs,rfl,h0,hv⟩:=hv.inv
 obtain⟨v1,vs,rfl,h1,hv⟩:=hv.inv
 rw[hv.inv0]
 obtain⟨us,rfl,h2⟩:=Hv.agg_inv (xs:=[.v (.string a1.key),.sl .cell a1.cells]) h1
 clear h1
 have h1:=h2
 obtain⟨u0,us,rfl,k0,h1⟩:=h1.inv
 obtain⟨u1,us,rfl,k1,h1⟩:=h1.inv
 rw[h1.inv0]
 rw[k0.v_inv]
 obtain⟨aa,cap0,rfl,g0⟩:=Bc9 hR.flt h0
 obtain⟨ab,cap1,rfl,g1⟩:=Bc7 hR.flt k1
 refine(Axt R aa ab a0 a1.cells a1.key cap0 cap1 (CI a0) EZ ?_ J4 ?_ g0 g1).mono ?_
 ·intro W hW
  exact(TG a0 (fun _ h=>by cases h)).plain (F:=F) (N:=N) (vs:=[_]) (fun g hg=>Nat.lt_of_lt_of_le (hR.flt g hg) hW.size) (HL.cons (h0.step (hR.grow hW).2) HL.nil)
 ·intro q c W
  have h:=(Adb q c (fun _ h=>by cases h)).plain (F:=fun _=>False) (N:=N) (R:=W) (vs:=[.int .i64 q,cV c]) (fun g hg=>hg.elim) (HL.cons (.v _) (HL.cons (.v _) HL.nil))
  rw[IB] at h
  exact h
 ·rintro e W ⟨rfl,hb⟩
  rw[A7y]
  exact⟨_,F,N,rfl,(hR.grow hb).1,Step.of_below hb,.v _,fun _=>hb⟩
def XK:List A→Nat→Objs→Option BP
 | [y0,y1],nx,o=>match QX .group y0,A3 .row y1 with
  |some a0,some (a1,p1)=>some (1,(Afe a0 a1).pk (AH nx),nx+0,AG nx (Afd a0 a1)++o,p1++(Zz a0 a1))
  |_,_=>none
 |_,_,_=>none
theorem Atd:HO Try.prog 65 XK:=fun args nx o k x nx' o' ps h=>by
 unfold XK at h
 split at h<;>first|(cases h;done)|skip
 split at h<;>first|(cases h;done)|skip
 rename_i a0 a1 p1 e0 e1
 cases h
 refine⟨fun hp=>?_,_,rfl⟩
 have q1:=fun p hm=>hp p (List.mem_append.2 (.inl hm))
 have r1:=fun p hm=>hp p (List.mem_append.2 (.inr hm))
 refine Ao (Ai (Afc a0 a1 r1) (Nat.le_refl _) (Af rfl (Af (Ag _ _) Au)) nx o) fun F N R vs hl=>?_
 obtain⟨v0,w0,rfl,h0,hl⟩:=hl.inv
 obtain⟨v1,w1,rfl,h1,hl⟩:=hl.inv
 exact HL.cons (GD e0 h0) (HL.cons (Ar e1 q1 h1) (hl))
noncomputable def Be7:=B5 65 XK Ch
theorem Bah:Gg Try.prog Be7:=Ax Atd Be6
noncomputable def Ci:=Be7
theorem Bcz:Gg Try.prog Ci:=Bah
end Go.Proofs.Yteebobbhhgmeiaa
namespace Go.Proofs.Yteebobbhhgmeiaa
open Go.RowKit
def Aak (k:ByteArray):Int:=bif k.size==0 then 2 else bif decide (32 <k.size) then 3 else 0
def Wq (a b:TCell):Bool:=a.stamp.n==b.stamp.n&&a.stamp.site==b.stamp.site&&(a.vec.a==b.vec.a&&a.vec.b==b.vec.b)&&a.gone==b.gone&&a.value==b.value&&(a.dead.a==b.dead.a&&a.dead.b==b.dead.b)
def Aiz:List TCell→List TCell→Bool
 | [],[]=>true
 |x::xs,y::ys=>Wq x y&&Aiz xs ys
 |_,_=>false
def Anb (a b:TRow):Bool:=a.key==b.key&&Aiz a.cells b.cells
def JQ (r:TRow):Bool:=r.cells.all fun c=>Wq c Dq
def Abx (a0:ByteArray):Int:=bif a0.toList==(ByteArray.mk #[]).toList then(2:Int) else bif decide ((↑a0.size:Int) >(32:Int)) then(3:Int) else(0:Int)
def Aby (a0:ByteArray):A:=.v (.int .i64 (Abx a0))
def Ap0 (_a0:ByteArray):Objs:=[]
def A0v (_a0:ByteArray):List Prop:=[]
set_option maxRecDepth 100000 in
theorem A0u (a0:ByteArray):Hx (Ay Ci L0) 9 129 [Aq .str a0] 0 []=some (1,Aby a0,0,Ap0 a0,[]):=by kernel_rfl
set_option maxRecDepth 100000 in
theorem A5a (a0:ByteArray) (_hp:∀p∈A0v a0,p):CallOk Try.prog 129 [Aq .str a0] 0 [] 1 (Aby a0) 0 (Ap0 a0):=by
 exact AJ (Aw Bcz AM) (A0u a0) Ad
def Als (a0:ByteArray):A:=.v (.int .i64 (Aak a0))
def Alr (_a0:ByteArray):Objs:=[]
def Aeu (_a0:ByteArray):List Prop:=[]
theorem Arl {a b:TCell}:Wq a b=true↔a=b:=by
 unfold Wq
 simp only[Bool.and_eq_true,beq_iff_eq]
 constructor
 ·rintro⟨⟨⟨⟨⟨h1,h2⟩,h3,h4⟩,h5⟩,h6⟩,h7,h8⟩
  cases a with|mk s v g t d=>cases b with|mk s' v' g' t' d'=>
  cases s;cases s';cases v;cases v';cases d;cases d'
  cases h1;cases h2;cases h3;cases h4;cases h5;cases h6;cases h7;cases h8
  rfl
 ·rintro rfl
  exact⟨⟨⟨⟨⟨rfl,rfl⟩,rfl,rfl⟩,rfl⟩,rfl⟩,rfl,rfl⟩
theorem Yn:∀{a b:List TCell},Aiz a b=true↔a=b
 | [],[]=>by simp[Aiz]
 | [],_::_=>by simp[Aiz]
 |_::_,[]=>by simp[Aiz]
 |x::xs,y::ys=>by
  unfold Aiz
  rw[Bool.and_eq_true,Arl,Yn]
  simp
theorem A7l {a b:TRow}:Anb a b=true↔a=b:=by
 unfold Anb
 rw[Bool.and_eq_true,beq_iff_eq,Yn]
 cases a;cases b
 simp
theorem Bef:∀(a b:List TCell),a.length=b.length→Aiz a b=Sv a.length (fun i=>Wq (a.getD i (Ae TC.cell)) (b.getD i (Ae TC.cell))):=fun a b h=>by
 rw[Bool.eq_iff_iff,Yn,Lt]
 constructor
 ·rintro rfl i _
  exact Arl.2 rfl
 ·intro g
  refine List.ext_getElem h fun i h1 h2=>?_
  have:=Arl.1 (g i h1)
  rw[List.getD_eq_getElem?_getD,List.getD_eq_getElem?_getD,List.getElem?_eq_getElem h1,List.getElem?_eq_getElem h2] at this
  exact this
theorem A0t (k:ByteArray):Abx k=Aak k:=by
 unfold Abx Aak
 rw[Aa4]
 congr 2
 exact dgt k.size 32
theorem A0s (a0:ByteArray) (_hp:∀p∈Aeu a0,p):CallOk Try.prog 129 [Aq .str a0] 0 [] 1 (Als a0) 0 (Alr a0):=by
 have h:=A5a a0 (fun _ h=>by cases h)
 unfold Aby at h
 rw[A0t] at h
 exact h
def Abz:List A→Nat→Objs→Option BP
 | [y0],nx,o=>match A3 .str y0 with
  |some (a0,p0)=>some (1,(Als a0).pk (AH nx),nx+0,AG nx (Alr a0)++o,p0++(Aeu a0))
  |_=>none
 |_,_,_=>none
theorem Axh:HO Try.prog 129 Abz:=fun args nx o k x nx' o' ps h=>by
 unfold Abz at h
 split at h<;>first|(cases h;done)|skip
 split at h<;>first|(cases h;done)|skip
 rename_i a0 p0 e0
 cases h
 refine⟨fun hp=>?_,_,rfl⟩
 have q0:=fun p hm=>hp p (List.mem_append.2 (.inl hm))
 have r0:=fun p hm=>hp p (List.mem_append.2 (.inr hm))
 refine Ao (Ai (A0s a0 r0) (Nat.le_refl _) (Af (Ag _ _) Au) nx o) fun F N R vs hl=>?_
 obtain⟨v0,w0,rfl,h0,hl⟩:=hl.inv
 exact HL.cons (Ar e0 q0 h0) (hl)
noncomputable def A6n:=B5 129 Abz Ci
theorem Aqq:Gg Try.prog A6n:=Ax Axh Bcz
abbrev CC:Type:=(List Ab)×Int×TRow
def Ll (x:CC):St:=⟨42,1,[(0,.sl .group x.1),(3,.own 0 0),(6,.v (.int .i64 x.2.1))],[(0,some (.box 71 [.v (.string x.2.2.key),.sl .cell x.2.2.cells]))]⟩
def Nq:St→Option CC
 |⟨42,1,[(0,.sl .group z0),(3,.own 0 0),(6,.v (.int .i64 z1))],[(0,some (.box 71 [.v (.string z2),.sl .cell z3]))]⟩=>some (z0,z1,⟨z2,z3⟩)
 |_=>none
theorem Abw:∀s x,Nq s=some x→s=Ll x:=fun s x h=>by
 unfold Nq at h
 split at h
 ·cases h;rfl
 ·cases h
def VR:DS:=⟨1,1,[0,3,6],[],[(0,0)],[0],[4],[0]⟩
def An7:Eh:=⟨[],[(0,0)],[0,3,6],[0]⟩
def Ez (a0:List Ab) (a1:Int) (_a2:TRow):Bool:=!!decide (a1 <(↑a0.length:Int))
def DF (a0:List Ab) (a1:Int) (a2:TRow):Bool:=(Ez a0 a1 a2)&&!K2 (a0.getD a1.toNat (Ae TC.group)).2 (a2.2.getD a1.toNat (Ae TC.cell))
def Ag5 (a0:List Ab) (a1:Int) (a2:TRow):Bool:=(Ez a0 a1 a2)&&!(DF a0 a1 a2)
def EB (x:CC):CC:=(x.1,IntKind.i64.wrap (x.2.1+(1:Int)),x.2.2)
def EA (x:CC):Cnd:=some (Ag5 x.1 x.2.1 x.2.2)
def R9 (x:CC):List Prop:=[((Ez x.1 x.2.1 x.2.2)=true→(0:Int)≤x.2.1∧x.2.1 <(↑x.1.length:Int)),((Ez x.1 x.2.1 x.2.2)=true→(0:Int)≤x.2.1∧x.2.1 <(↑x.2.2.2.length:Int))]
def He (x:CC):List Prop:=[((Ez x.1 x.2.1 x.2.2)=true→(0:Int)≤x.2.1∧x.2.1 <(↑x.1.length:Int)),((Ez x.1 x.2.1 x.2.2)=true→(0:Int)≤x.2.1∧x.2.1 <(↑x.2.2.2.length:Int))]
def Qz (x:CC):Bw:=[(some 0,some (!decide (x.2.1 <(↑x.1.length:Int))),⟨42,1,[(4,.dead)],[(0,some (.box 71 [.v (.string x.2.2.1),.sl .cell x.2.2.2]))]⟩),(none,some ((DF x.1 x.2.1 x.2.2)),⟨42,1,[(4,.v (.int .i64 ((80:Int))))],[(0,some (.box 71 [.v (.string x.2.2.1),.sl .cell x.2.2.2]))]⟩)]
def F7 (x:CC):Nat:=((↑x.1.length:Int) - x.2.1).toNat
def Ag7 (x:CC):CC:=BA EB EA (F7 x) x
set_option maxRecDepth 100000 in
theorem Alo (a0:List Ab) (a1:Int) (a2:TRow):Ce (Ay A6n L0) 9 (Ah Try.prog 66 0) VR (Ll (a0,a1,a2))=some (R9 (a0,a1,a2),Qz (a0,a1,a2),EA (a0,a1,a2),Ll (EB (a0,a1,a2))):=by kernel_rfl
set_option maxRecDepth 100000 in
theorem Alp (a0:List Ab) (a1:Int) (a2:TRow) (hp:∀p∈He (a0,a1,a2),p):∀p∈R9 (a0,a1,a2),p:=by
 have n0:=N0 hp
 have n1:=N0 (N1 hp)
 exact(Aa n0 (Aa n1 Ad))
noncomputable def Sa:=HZ (Ay A6n L0) (Ah Try.prog 66 0) VR An7 Nq F7 EB EA He Qz
theorem Ag6:∀s b ps outs,Sa s=some (b,ps,outs)→Wf s ⟨ps,outs,none⟩∧BY (Ay C0 L0) b s ps outs:=
 BL (T:=Ll) Aqq AM (u:=9) (by kernel_rfl) (by decide) (fun⟨a0,a1,a2⟩=>Alo a0 a1 a2) (fun⟨a0,a1,a2⟩=>Alp a0 a1 a2) Abw (fun _=>AV (n:=42) rfl) fun _ _=>rfl
noncomputable def VQ:=EO 0 Sa L0
theorem Ag4:Ht VQ:=Bf Ag6 AM
def Is (_a0:List Ab) (a1:TRow):Bool:=Aak a1.1 !=(0:Int)
def Hp (a0:List Ab) (_a1:TRow):Bool:=CI a0 !=(0:Int)
def Ir (a0:List Ab) (a1:TRow):CC:=Ag7 (a0,(0:Int),a1)
def Ho (a0:List Ab) (a1:TRow):Bool:=(↑a1.2.length:Int) !=(↑a0.length:Int)
def Xp (a0:List Ab) (a1:TRow):Int:=bif(Hp a0 a1) then CI a0 else bif(Is a0 a1) then Aak a1.1 else bif(Ho a0 a1) then(100:Int) else bif DF (Ir a0 a1).fst (Ir a0 a1).snd.fst (Ir a0 a1).snd.snd then(80:Int) else(0:Int)
def Xq (a0:List Ab) (a1:TRow):A:=.v (.int .i64 (Xp a0 a1))
def Alq (_a0:List Ab) (_a1:TRow):Objs:=[]
def Aes (a0:List Ab) (a1:TRow):List Prop:=[(∀(g:Ab),g∈a0→AC g.1.size),((!(Hp a0 a1))=true→(!(Is a0 a1))=true→(!(Ho a0 a1))=true→AE EB EA He (F7 (a0,(0:Int),a1)) (a0,(0:Int),a1))]
set_option maxRecDepth 100000 in
theorem Axg (a0:List Ab) (a1:TRow):Hx (Ay A6n VQ) 9 66 [.sl .group a0,Aq .row a1] 0 []=some (1,Xq a0 a1,0,Alq a0 a1,[(∀(g:Ab),g∈a0→AC g.1.size),((!(Hp a0 a1))=true→(!(Is a0 a1))=true→(!(Ho a0 a1))=true→Ah Try.prog (66:FuncId) (0:Nat)=Ah Try.prog (66:FuncId) (0:Nat)),((!(Hp a0 a1))=true→(!(Is a0 a1))=true→(!(Ho a0 a1))=true→AE EB EA He (F7 (a0,(0:Int),a1)) (a0,(0:Int),a1))]):=by kernel_rfl
set_option maxRecDepth 100000 in
theorem A0r (a0:List Ab) (a1:TRow) (hp:∀p∈Aes a0 a1,p):CallOk Try.prog 66 [.sl .group a0,Aq .row a1] 0 [] 1 (Xq a0 a1) 0 (Alq a0 a1):=by
 have n0:=N0 hp
 have n1:((!(Hp a0 a1))=true→(!(Is a0 a1))=true→(!(Ho a0 a1))=true→Ah Try.prog (66:FuncId) (0:Nat)=Ah Try.prog (66:FuncId) (0:Nat)):=by intros;rfl
 have n2:=N0 (N1 hp)
 exact AJ (Aw Aqq Ag4) (Axg a0 a1) (Aa n0 (Aa n1 (Aa n2 Ad)))
def Aet (a0:List Ab) (a1:TRow):A:=.v (.int .i64 (AF a0 a1))
def Aer (_a0:List Ab) (_a1:TRow):Objs:=[]
def Zk (a0:List Ab) (_a1:TRow):List Prop:=[∀g∈a0,AC g.name.size]
theorem Aeq (l:List Ab) (r:TRow) (hb:∀g∈l,AC g.name.size):(∀p∈Aes l r,p)∧Xp l r=AF l r:=by
 have hk2:Hp l r=(CI l !=0):=rfl
 have hk3:Is l r=(Aak r.key !=0):=rfl
 have hk0:Ho l r=(r.cells.length !=l.length):=by
  show((r.cells.length:Int) !=(l.length:Int))=_
  rw[Bool.eq_iff_iff,bne_iff_ne,bne_iff_ne];omega
 have main:Hp l r=false→Ho l r=false→AE EB EA He (F7 (l,0,r)) (l,0,r)∧DF (Ir l r).fst (Ir l r).snd.fst (Ir l r).snd.snd=!(l.zip r.cells).all (fun x=>EZ x.1.policy x.2):=fun h2 h0=>by
  rw[hk0] at h0
  have hlen:r.cells.length=l.length:=by simpa using h0
  have hl4:l.length≤4:=(J4 (by rw[hk2] at h2;simpa using h2)).2
  have hf:∀i:Nat,DF l (i:Int) r=(decide (i <l.length)&&!EZ (l.getD i (Ae TC.group)).2 (r.2.getD i (Ae TC.cell))):=fun i=>by
   unfold DF Ez
   rw[nn,PE,Int.toNat_natCast,TS]
  obtain⟨h1,k,hk,hx,_,_,hb'⟩:=JJ (fun i=>((l,(i:Int),r):CC)) l.length (fun i=>!EZ (l.getD i (Ae TC.group)).2 (r.2.getD i (Ae TC.cell))) EB EA He (F7 (l,0,r)) (l,0,r) rfl (by show l.length≤((l.length:Int) - 0).toNat;omega)
   (fun i _ _=>by
    show((!!decide ((i:Int) <(l.length:Int)))&&!DF l i r)=_
    rw[hf,nn,PE]
    cases decide (i <l.length)<;>rfl)
   (fun i hi _=>by
    show(l,IntKind.i64.wrap ((i:Int)+1),r)=(l,((i+1:Nat):Int),r)
    rw[FS (by omega)])
   (fun i _ _=>by
    have hin:(!!decide ((i:Int) <(l.length:Int)))=true→(i:Int) <(l.length:Int):=fun h=>by rw[nn] at h;exact of_decide_eq_true h
    exact Aa (fun h=>⟨by show(0:Int)≤(i:Int);omega,hin h⟩) (Aa (fun h=>⟨by show(0:Int)≤(i:Int);omega,by have:=hin h;show(i:Int) <(r.cells.length:Int);omega⟩) Ad))
  refine⟨h1,?_⟩
  have hr:Ir l r=(l,(k:Int),r):=hx
  rw[hr]
  show DF l (k:Int) r=_
  rw[hf,hb',Bgd l r.cells (Ae TC.group) (Ae TC.cell) (fun g c=>EZ g.policy c) hlen]
  congr 1
  exact Jl fun i _=>Bool.not_not _
 refine⟨Aa hb (Aa (fun h1 _ h3=>(main (by simpa using h1) (by simpa using h3)).1) Ad),?_⟩
 unfold Xp AF
 have ek:Aak r.key=bif r.key.size==0 then 2 else bif decide (32 <r.key.size) then 3 else 0:=rfl
 cases h2:Hp l r with
 |true=>rw[hk2] at h2;rw[h2];rfl
 | false=>
  rw[hk2] at h2
  rw[h2,cond_false,cond_false]
  cases h3:Is l r with
  | true=>
   rw[cond_true]
   rw[hk3,ek] at h3
   rw[ek]
   cases h5:r.key.size==0 with
   |true=>rfl
   |false=>
    rw[h5] at h3
    cases h6:decide (32 <r.key.size) with
    |true=>rfl
    |false=>rw[h6] at h3;cases h3
  | false=>
   rw[hk3,ek] at h3
   have h5:(r.key.size==0)=false:=by
    cases h5:r.key.size==0 with
    |false=>rfl
    |true=>rw[h5] at h3;cases h3
   rw[h5] at h3
   have h6:decide (32 <r.key.size)=false:=by
    cases h6:decide (32 <r.key.size) with
    |false=>rfl
    |true=>rw[h6] at h3;cases h3
   rw[h5,h6,cond_false,cond_false,cond_false]
   cases h0:Ho l r with
   |true=>rw[hk0] at h0;rw[h0];rfl
   |false=>
    rw[cond_false,(main (by rw[hk2];exact h2) h0).2]
    rw[hk0] at h0
    rw[h0,cond_false]
    cases(l.zip r.cells).all (fun x=>EZ x.1.policy x.2)<;>rfl
theorem Axf (a0:List Ab) (a1:TRow) (hp:∀p∈Zk a0 a1,p):CallOk Try.prog 66 [.sl .group a0,Aq .row a1] 0 [] 1 (Aet a0 a1) 0 (Aer a0 a1):=by
 have hb:∀g∈a0,AC g.name.size:=hp _ (List.mem_cons_self ..)
 have h:=A0r a0 a1 (Aeq a0 a1 hb).1
 unfold Xq at h
 rw[(Aeq a0 a1 hb).2] at h
 exact h
def Xr:List A→Nat→Objs→Option BP
 | [y0,y1],nx,o=>match QX .group y0,A3 .row y1 with
  |some a0,some (a1,p1)=>some (1,(Aet a0 a1).pk (AH nx),nx+0,AG nx (Aer a0 a1)++o,p1++(Zk a0 a1))
  |_,_=>none
 |_,_,_=>none
theorem Asz:HO Try.prog 66 Xr:=fun args nx o k x nx' o' ps h=>by
 unfold Xr at h
 split at h<;>first|(cases h;done)|skip
 split at h<;>first|(cases h;done)|skip
 rename_i a0 a1 p1 e0 e1
 cases h
 refine⟨fun hp=>?_,_,rfl⟩
 have q1:=fun p hm=>hp p (List.mem_append.2 (.inl hm))
 have r1:=fun p hm=>hp p (List.mem_append.2 (.inr hm))
 refine Ao (Ai (Axf a0 a1 r1) (Nat.le_refl _) (Af rfl (Af (Ag _ _) Au)) nx o) fun F N R vs hl=>?_
 obtain⟨v0,w0,rfl,h0,hl⟩:=hl.inv
 obtain⟨v1,w1,rfl,h1,hl⟩:=hl.inv
 exact HL.cons (GD e0 h0) (HL.cons (Ar e1 q1 h1) (hl))
noncomputable def Bdy:=B5 66 Xr A6n
theorem A2k:Gg Try.prog Bdy:=Ax Asz Aqq
def W9 (a0:TCell) (a1:TCell):Bool:=a0.1.1==a1.1.1&&a0.1.2==a1.1.2&&(a0.2.1==a1.2.1&&a0.2.2==a1.2.2)&&a0.3==a1.3&&a0.4.toList==a1.4.toList&&(a0.5.1==a1.5.1&&a0.5.2==a1.5.2)
def Xa (a0:TCell) (a1:TCell):A:=.v (.bool (W9 a0 a1))
def Alb (_a0:TCell) (_a1:TCell):Objs:=[]
def Aw7 (_a0:TCell) (_a1:TCell):List Prop:=[]
set_option maxRecDepth 100000 in
theorem Aw6 (a0:TCell) (a1:TCell):Hx (Ay Bdy L0) 9 76 [Aq .cell a0,Aq .cell a1] 0 []=some (1,Xa a0 a1,0,Alb a0 a1,[]):=by kernel_rfl
set_option maxRecDepth 100000 in
theorem A0k (a0:TCell) (a1:TCell) (_hp:∀p∈Aw7 a0 a1,p):CallOk Try.prog 76 [Aq .cell a0,Aq .cell a1] 0 [] 1 (Xa a0 a1) 0 (Alb a0 a1):=by
 exact AJ (Aw A2k AM) (Aw6 a0 a1) Ad
def Aee (a0:TCell) (a1:TCell):A:=.v (.bool (Wq a0 a1))
def Aed (_a0:TCell) (_a1:TCell):Objs:=[]
def Zc (_a0:TCell) (_a1:TCell):List Prop:=[]
theorem Aw5 (a0:TCell) (a1:TCell) (_hp:∀p∈Zc a0 a1,p):CallOk Try.prog 76 [Aq .cell a0,Aq .cell a1] 0 [] 1 (Aee a0 a1) 0 (Aed a0 a1):=by
 have h:=A0k a0 a1 (fun _ h=>by cases h)
 have e:W9 a0 a1=Wq a0 a1:=by unfold W9;rw[tlb];rfl
 unfold Xa at h
 rw[e] at h
 exact h
def Xb:List A→Nat→Objs→Option BP
 | [y0,y1],nx,o=>match A3 .cell y0,A3 .cell y1 with
  |some (a0,p0),some (a1,p1)=>some (1,(Aee a0 a1).pk (AH nx),nx+0,AG nx (Aed a0 a1)++o,p0++(p1++(Zc a0 a1)))
  |_,_=>none
 |_,_,_=>none
theorem Asq:HO Try.prog 76 Xb:=fun args nx o k x nx' o' ps h=>by
 unfold Xb at h
 split at h<;>first|(cases h;done)|skip
 split at h<;>first|(cases h;done)|skip
 rename_i a0 p0 a1 p1 e0 e1
 cases h
 refine⟨fun hp=>?_,_,rfl⟩
 have q0:=fun p hm=>hp p (List.mem_append.2 (.inl hm))
 have r0:=fun p hm=>hp p (List.mem_append.2 (.inr hm))
 have q1:=fun p hm=>r0 p (List.mem_append.2 (.inl hm))
 have r1:=fun p hm=>r0 p (List.mem_append.2 (.inr hm))
 refine Ao (Ai (Aw5 a0 a1 r1) (Nat.le_refl _) (Af (Ag _ _) (Af (Ag _ _) Au)) nx o) fun F N R vs hl=>?_
 obtain⟨v0,w0,rfl,h0,hl⟩:=hl.inv
 obtain⟨v1,w1,rfl,h1,hl⟩:=hl.inv
 exact HL.cons (Ar e0 q0 h0) (HL.cons (Ar e1 q1 h1) (hl))
noncomputable def A6o:=B5 76 Xb Bdy
theorem Aqr:Gg Try.prog A6o:=Ax Asq A2k
abbrev CD:Type:=Int×TRow×TRow
def Lm (x:CD):St:=⟨39,2,[(2,.own 0 0),(3,.own 1 0),(5,.v (.int .i64 x.1))],[(0,some (.box 71 [.v (.string x.2.1.key),.sl .cell x.2.1.cells])),(1,some (.box 71 [.v (.string x.2.2.key),.sl .cell x.2.2.cells]))]⟩
def Nu:St→Option CD
 |⟨39,2,[(2,.own 0 0),(3,.own 1 0),(5,.v (.int .i64 z0))],[(0,some (.box 71 [.v (.string z1),.sl .cell z2])),(1,some (.box 71 [.v (.string z3),.sl .cell z4]))]⟩=>some (z0,⟨z1,z2⟩,⟨z3,z4⟩)
 |_=>none
theorem Aca:∀s x,Nu s=some x→s=Lm x:=fun s x h=>by
 unfold Nu at h
 split at h
 ·cases h;rfl
 ·cases h
def VU:DS:=⟨2,2,[2,3,5],[],[(0,0),(1,1)],[0,1],[4],[0,1]⟩
def An9:Eh:=⟨[],[(0,0),(1,1)],[2,3,5],[0,1]⟩
def ED (a0:Int) (a1:TRow) (_a2:TRow):Bool:=!!decide (a0 <(↑a1.2.length:Int))
def DH (a0:Int) (a1:TRow) (a2:TRow):Bool:=(ED a0 a1 a2)&&!Wq (a1.2.getD a0.toNat (Ae TC.cell)) (a2.2.getD a0.toNat (Ae TC.cell))
def Ahd (a0:Int) (a1:TRow) (a2:TRow):Bool:=(ED a0 a1 a2)&&!(DH a0 a1 a2)
def EF (x:CD):CD:=(IntKind.i64.wrap (x.1+(1:Int)),x.2.1,x.2.2)
def EE (x:CD):Cnd:=some (Ahd x.1 x.2.1 x.2.2)
def Sf (x:CD):List Prop:=[((ED x.1 x.2.1 x.2.2)=true→(0:Int)≤x.1∧x.1 <(↑x.2.1.2.length:Int)),((ED x.1 x.2.1 x.2.2)=true→(0:Int)≤x.1∧x.1 <(↑x.2.2.2.length:Int))]
def Hf (x:CD):List Prop:=[((ED x.1 x.2.1 x.2.2)=true→(0:Int)≤x.1∧x.1 <(↑x.2.1.2.length:Int)),((ED x.1 x.2.1 x.2.2)=true→(0:Int)≤x.1∧x.1 <(↑x.2.2.2.length:Int))]
def QD (x:CD):Bw:=[(some 0,some (!decide (x.1 <(↑x.2.1.2.length:Int))),⟨39,2,[(4,.dead)],[(0,some (.box 71 [.v (.string x.2.1.1),.sl .cell x.2.1.2])),(1,some (.box 71 [.v (.string x.2.2.1),.sl .cell x.2.2.2]))]⟩),(none,some ((DH x.1 x.2.1 x.2.2)),⟨39,2,[(4,.v (.bool (false)))],[(0,some (.box 71 [.v (.string x.2.1.1),.sl .cell x.2.1.2])),(1,some (.box 71 [.v (.string x.2.2.1),.sl .cell x.2.2.2]))]⟩)]
def F8 (x:CD):Nat:=((↑x.2.1.2.length:Int) - x.1).toNat
def Ahf (x:CD):CD:=BA EF EE (F8 x) x
set_option maxRecDepth 100000 in
theorem Alx (a0:Int) (a1:TRow) (a2:TRow):Ce (Ay A6o L0) 9 (Ah Try.prog 67 0) VU (Lm (a0,a1,a2))=some (Sf (a0,a1,a2),QD (a0,a1,a2),EE (a0,a1,a2),Lm (EF (a0,a1,a2))):=by kernel_rfl
set_option maxRecDepth 100000 in
theorem Aly (a0:Int) (a1:TRow) (a2:TRow) (hp:∀p∈Hf (a0,a1,a2),p):∀p∈Sf (a0,a1,a2),p:=by
 have n0:=N0 hp
 have n1:=N0 (N1 hp)
 exact(Aa n0 (Aa n1 Ad))
noncomputable def Sg:=HZ (Ay A6o L0) (Ah Try.prog 67 0) VU An9 Nu F8 EF EE Hf QD
theorem Ahe:∀s b ps outs,Sg s=some (b,ps,outs)→Wf s ⟨ps,outs,none⟩∧BY (Ay C0 L0) b s ps outs:=
 BL (T:=Lm) Aqr AM (u:=9) (by kernel_rfl) (by decide) (fun⟨a0,a1,a2⟩=>Alx a0 a1 a2) (fun⟨a0,a1,a2⟩=>Aly a0 a1 a2) Aca (fun _=>AV (n:=39) rfl) fun _ _=>rfl
noncomputable def VT:=EO 0 Sg L0
theorem Ahc:Ht VT:=Bf Ahe AM
def Iv (a0:TRow) (a1:TRow):CD:=Ahf ((0:Int),a0,a1)
def Hq (a0:TRow) (a1:TRow):Bool:=!a0.1.toList==a1.1.toList||(↑a0.2.length:Int) !=(↑a1.2.length:Int)
def Xv (a0:TRow) (a1:TRow):Bool:=bif(Hq a0 a1) then false else bif DH (Iv a0 a1).fst (Iv a0 a1).snd.fst (Iv a0 a1).snd.snd then false else true
def Xw (a0:TRow) (a1:TRow):A:=.v (.bool (Xv a0 a1))
def Alz (_a0:TRow) (_a1:TRow):Objs:=[]
def Aez (a0:TRow) (a1:TRow):List Prop:=[((!(Hq a0 a1))=true→AE EF EE Hf (F8 ((0:Int),a0,a1)) ((0:Int),a0,a1))]
set_option maxRecDepth 100000 in
theorem Axl (a0:TRow) (a1:TRow):Hx (Ay A6o VT) 9 67 [Aq .row a0,Aq .row a1] 0 []=some (1,Xw a0 a1,0,Alz a0 a1,[((!(Hq a0 a1))=true→Ah Try.prog (67:FuncId) (0:Nat)=Ah Try.prog (67:FuncId) (0:Nat)),((!(Hq a0 a1))=true→AE EF EE Hf (F8 ((0:Int),a0,a1)) ((0:Int),a0,a1))]):=by kernel_rfl
set_option maxRecDepth 100000 in
theorem A0z (a0:TRow) (a1:TRow) (hp:∀p∈Aez a0 a1,p):CallOk Try.prog 67 [Aq .row a0,Aq .row a1] 0 [] 1 (Xw a0 a1) 0 (Alz a0 a1):=by
 have n0:((!(Hq a0 a1))=true→Ah Try.prog (67:FuncId) (0:Nat)=Ah Try.prog (67:FuncId) (0:Nat)):=by intros;rfl
 have n1:=N0 hp
 exact AJ (Aw Aqr Ahc) (Axl a0 a1) (Aa n0 (Aa n1 Ad))
def Ae0 (a0:TRow) (a1:TRow):A:=.v (.bool (Anb a0 a1))
def Aey (_a0:TRow) (_a1:TRow):Objs:=[]
def Zr (a0:TRow) (_a1:TRow):List Prop:=[Aj a0.cells.length]
theorem Aex (a b:TRow) (hb:Aj a.cells.length):(∀p∈Aez a b,p)∧Xv a b=Anb a b:=by
 unfold Aj at hb
 have hk0:Hq a b=(!(a.key==b.key)||a.cells.length !=b.cells.length):=by
  show(!(a.key.toList==b.key.toList)||((a.cells.length:Int) !=(b.cells.length:Int)))=_
  rw[tlb]
  congr 1
  rw[Bool.eq_iff_iff,bne_iff_ne,bne_iff_ne];omega
 have main:Hq a b=false→AE EF EE Hf (F8 (0,a,b)) (0,a,b)∧DH (Iv a b).fst (Iv a b).snd.fst (Iv a b).snd.snd=!Aiz a.cells b.cells:=fun h0=>by
  rw[hk0] at h0
  have hlen:a.cells.length=b.cells.length:=by simpa using(Bool.or_eq_false_iff.1 h0).2
  have hf:∀i:Nat,DH (i:Int) a b=(decide (i <a.cells.length)&&!Wq (a.2.getD i (Ae TC.cell)) (b.2.getD i (Ae TC.cell))):=fun i=>by
   unfold DH ED
   rw[nn,PE,Int.toNat_natCast]
  obtain⟨h1,k,hk,hx,_,_,hb'⟩:=JJ (fun i=>(((i:Int),a,b):CD)) a.cells.length (fun i=>!Wq (a.2.getD i (Ae TC.cell)) (b.2.getD i (Ae TC.cell))) EF EE Hf (F8 (0,a,b)) (0,a,b) rfl (by show a.cells.length≤((a.cells.length:Int) - 0).toNat;omega)
   (fun i _ _=>by
    show((!!decide ((i:Int) <(a.cells.length:Int)))&&!DH i a b)=_
    rw[hf,nn,PE]
    cases decide (i <a.cells.length)<;>rfl)
   (fun i hi _=>by
    show(IntKind.i64.wrap ((i:Int)+1),a,b)=(((i+1:Nat):Int),a,b)
    rw[FS (by omega)])
   (fun i _ _=>by
    have hin:(!!decide ((i:Int) <(a.cells.length:Int)))=true→(i:Int) <(a.cells.length:Int):=fun h=>by rw[nn] at h;exact of_decide_eq_true h
    exact Aa (fun h=>⟨by show(0:Int)≤(i:Int);omega,hin h⟩) (Aa (fun h=>⟨by show(0:Int)≤(i:Int);omega,by have:=hin h;show(i:Int) <(b.cells.length:Int);omega⟩) Ad))
  refine⟨h1,?_⟩
  have hr:Iv a b=((k:Int),a,b):=hx
  rw[hr]
  show DH (k:Int) a b=_
  rw[hf,hb',Bef _ _ hlen]
  congr 1
  exact Jl fun i _=>Bool.not_not _
 refine⟨Aa (fun h=>(main (by simpa using h)).1) Ad,?_⟩
 unfold Xv Anb
 cases h0:Hq a b with
 | true=>
  rw[hk0] at h0
  rw[cond_true]
  cases hk:a.key==b.key with
  |false=>rfl
  |true=>
   rw[hk] at h0
   have hne:a.cells.length≠b.cells.length:=by simpa using h0
   cases he:Aiz a.cells b.cells with
   |false=>rfl
   |true=>exact absurd (congrArg List.length (Yn.1 he)) hne
 |false=>
  rw[cond_false,(main h0).2]
  rw[hk0] at h0
  have:(a.key==b.key)=true:=by simpa using(Bool.or_eq_false_iff.1 h0).1
  rw[this,Bool.true_and]
  cases Aiz a.cells b.cells<;>rfl
theorem Axk (a0:TRow) (a1:TRow) (hp:∀p∈Zr a0 a1,p):CallOk Try.prog 67 [Aq .row a0,Aq .row a1] 0 [] 1 (Ae0 a0 a1) 0 (Aey a0 a1):=by
 have hb:Aj a0.cells.length:=hp _ (List.mem_cons_self ..)
 have h:=A0z a0 a1 (Aex a0 a1 hb).1
 unfold Xw at h
 rw[(Aex a0 a1 hb).2] at h
 exact h
def Xx:List A→Nat→Objs→Option BP
 | [y0,y1],nx,o=>match A3 .row y0,A3 .row y1 with
  |some (a0,p0),some (a1,p1)=>some (1,(Ae0 a0 a1).pk (AH nx),nx+0,AG nx (Aey a0 a1)++o,p0++(p1++(Zr a0 a1)))
  |_,_=>none
 |_,_,_=>none
theorem As2:HO Try.prog 67 Xx:=fun args nx o k x nx' o' ps h=>by
 unfold Xx at h
 split at h<;>first|(cases h;done)|skip
 split at h<;>first|(cases h;done)|skip
 rename_i a0 p0 a1 p1 e0 e1
 cases h
 refine⟨fun hp=>?_,_,rfl⟩
 have q0:=fun p hm=>hp p (List.mem_append.2 (.inl hm))
 have r0:=fun p hm=>hp p (List.mem_append.2 (.inr hm))
 have q1:=fun p hm=>r0 p (List.mem_append.2 (.inl hm))
 have r1:=fun p hm=>r0 p (List.mem_append.2 (.inr hm))
 refine Ao (Ai (Axk a0 a1 r1) (Nat.le_refl _) (Af (Ag _ _) (Af (Ag _ _) Au)) nx o) fun F N R vs hl=>?_
 obtain⟨v0,w0,rfl,h0,hl⟩:=hl.inv
 obtain⟨v1,w1,rfl,h1,hl⟩:=hl.inv
 exact HL.cons (Ar e0 q0 h0) (HL.cons (Ar e1 q1 h1) (hl))
noncomputable def A6p:=B5 67 Xx A6o
theorem Aqs:Gg Try.prog A6p:=Ax As2 Aqr
abbrev CX:Type:=Int×TRow
def Lk (x:CX):St:=⟨19,1,[(1,.own 0 0),(3,.v (.int .i64 x.1))],[(0,some (.box 71 [.v (.string x.2.key),.sl .cell x.2.cells]))]⟩
def Np:St→Option CX
 |⟨19,1,[(1,.own 0 0),(3,.v (.int .i64 z0))],[(0,some (.box 71 [.v (.string z1),.sl .cell z2]))]⟩=>some (z0,⟨z1,z2⟩)
 |_=>none
theorem Abs:∀s x,Np s=some x→s=Lk x:=fun s x h=>by
 unfold Np at h
 split at h
 ·cases h;rfl
 ·cases h
def VO:DS:=⟨1,1,[1,3],[],[(0,0)],[0],[2],[0]⟩
def An5:Eh:=⟨[],[(0,0)],[1,3],[0]⟩
def Hb (a0:Int) (a1:TRow):Bool:=!!decide (a0 <(↑a1.2.length:Int))
def Ey (a0:Int) (a1:TRow):Bool:=(Hb a0 a1)&&!Wq (a1.2.getD a0.toNat (Ae TC.cell)) (TCell.mk (TStamp.mk (0:Int) (0:Int)) (TVec.mk (0:Int) (0:Int)) false (ByteArray.mk #[]) (TVec.mk (0:Int) (0:Int)))
def Ag0 (a0:Int) (a1:TRow):Bool:=(Hb a0 a1)&&!(Ey a0 a1)
def F6 (x:CX):CX:=(IntKind.i64.wrap (x.1+(1:Int)),x.2)
def F5 (x:CX):Cnd:=some (Ag0 x.1 x.2)
def R7 (x:CX):List Prop:=[((Hb x.1 x.2)=true→(0:Int)≤x.1∧x.1 <(↑x.2.2.length:Int))]
def Iq (x:CX):List Prop:=[((Hb x.1 x.2)=true→(0:Int)≤x.1∧x.1 <(↑x.2.2.length:Int))]
def Qw (x:CX):Bw:=[(some 0,some (!decide (x.1 <(↑x.2.2.length:Int))),⟨19,1,[(2,.dead)],[(0,some (.box 71 [.v (.string x.2.1),.sl .cell x.2.2]))]⟩),(none,some ((Ey x.1 x.2)),⟨19,1,[(2,.v (.bool (false)))],[(0,some (.box 71 [.v (.string x.2.1),.sl .cell x.2.2]))]⟩)]
def Hc (x:CX):Nat:=((↑x.2.2.length:Int) - x.1).toNat
def L3 (x:CX):CX:=BA F6 F5 (Hc x) x
set_option maxRecDepth 100000 in
theorem Alk (a0:Int) (a1:TRow):Ce (Ay A6p L0) 9 (Ah Try.prog 68 0) VO (Lk (a0,a1))=some (R7 (a0,a1),Qw (a0,a1),F5 (a0,a1),Lk (F6 (a0,a1))):=by kernel_rfl
set_option maxRecDepth 100000 in
theorem All (a0:Int) (a1:TRow) (hp:∀p∈Iq (a0,a1),p):∀p∈R7 (a0,a1),p:=by
 have n0:=N0 hp
 exact(Aa n0 Ad)
noncomputable def R8:=HZ (Ay A6p L0) (Ah Try.prog 68 0) VO An5 Np Hc F6 F5 Iq Qw
theorem Ag1:∀s b ps outs,R8 s=some (b,ps,outs)→Wf s ⟨ps,outs,none⟩∧BY (Ay C0 L0) b s ps outs:=
 BL (T:=Lk) Aqs AM (u:=9) (by kernel_rfl) (by decide) (fun⟨a0,a1⟩=>Alk a0 a1) (fun⟨a0,a1⟩=>All a0 a1) Abs (fun _=>AV (n:=19) rfl) fun _ _=>rfl
noncomputable def VN:=EO 0 R8 L0
theorem Agz:Ht VN:=Bf Ag1 AM
def Xj (a0:TRow):Bool:=bif Ey (L3 ((0:Int),a0)).fst (L3 ((0:Int),a0)).snd then false else true
def Xk (a0:TRow):A:=.v (.bool (Xj a0))
def Alm (_a0:TRow):Objs:=[]
def Ael (a0:TRow):List Prop:=[(AE F6 F5 Iq (Hc ((0:Int),a0)) ((0:Int),a0))]
set_option maxRecDepth 100000 in
theorem Axc (a0:TRow):Hx (Ay A6p VN) 9 68 [Aq .row a0] 0 []=some (1,Xk a0,0,Alm a0,[(Ah Try.prog (68:FuncId) (0:Nat)=Ah Try.prog (68:FuncId) (0:Nat)),(AE F6 F5 Iq (Hc ((0:Int),a0)) ((0:Int),a0))]):=by kernel_rfl
set_option maxRecDepth 100000 in
theorem A0p (a0:TRow) (hp:∀p∈Ael a0,p):CallOk Try.prog 68 [Aq .row a0] 0 [] 1 (Xk a0) 0 (Alm a0):=by
 have n1:=N0 hp
 exact AJ (Aw Aqs Agz) (Axc a0) (Aa rfl (Aa n1 Ad))
def Aem (a0:TRow):A:=.v (.bool (JQ a0))
def Aek (_a0:TRow):Objs:=[]
def Zf (a0:TRow):List Prop:=[Aj a0.cells.length]
theorem Aej (a:TRow) (hb:Aj a.cells.length):(∀p∈Ael a,p)∧Xj a=JQ a:=by
 unfold Aj at hb
 have hf:∀i:Nat,Ey (i:Int) a=(decide (i <a.cells.length)&&!Wq (a.2.getD i (Ae TC.cell)) Dq):=fun i=>by
  unfold Ey Hb
  rw[nn,PE,Int.toNat_natCast]
  rfl
 obtain⟨h1,k,hk,hx,_,_,hb'⟩:=JJ (fun i=>(((i:Int),a):CX)) a.cells.length (fun i=>!Wq (a.2.getD i (Ae TC.cell)) Dq) F6 F5 Iq (Hc (0,a)) (0,a) rfl (by show a.cells.length≤((a.cells.length:Int) - 0).toNat;omega)
  (fun i _ _=>by
   show((!!decide ((i:Int) <(a.cells.length:Int)))&&!Ey i a)=_
   rw[hf,nn,PE]
   cases decide (i <a.cells.length)<;>rfl)
  (fun i hi _=>by
   show(IntKind.i64.wrap ((i:Int)+1),a)=(((i+1:Nat):Int),a)
   rw[FS (by omega)])
  (fun i _ _=>Aa (fun h=>⟨by show(0:Int)≤(i:Int);omega,by
   have h':(!!decide ((i:Int) <(a.cells.length:Int)))=true:=h
   rw[nn] at h';exact of_decide_eq_true h'⟩) Ad)
 refine⟨Aa h1 Ad,?_⟩
 have hr:L3 (0,a)=((k:Int),a):=hx
 unfold Xj
 rw[hr]
 show(bif Ey (k:Int) a then false else true)=_
 rw[hf,hb']
 unfold JQ
 rw[A64 a.cells (Ae TC.cell)]
 rw[show Sv a.cells.length (fun i=>!!Wq (a.2.getD i (Ae TC.cell)) Dq)=Sv a.cells.length (fun i=>Wq (a.cells.getD i (Ae TC.cell)) Dq) from Jl fun i _=>Bool.not_not _]
 cases Sv a.cells.length (fun i=>Wq (a.cells.getD i (Ae TC.cell)) Dq)<;>rfl
theorem Axb (a0:TRow) (hp:∀p∈Zf a0,p):CallOk Try.prog 68 [Aq .row a0] 0 [] 1 (Aem a0) 0 (Aek a0):=by
 have hb:Aj a0.cells.length:=hp _ (List.mem_cons_self ..)
 have h:=A0p a0 (Aej a0 hb).1
 unfold Xk at h
 rw[(Aej a0 hb).2] at h
 exact h
def Xl:List A→Nat→Objs→Option BP
 | [y0],nx,o=>match A3 .row y0 with
  |some (a0,p0)=>some (1,(Aem a0).pk (AH nx),nx+0,AG nx (Aek a0)++o,p0++(Zf a0))
  |_=>none
 |_,_,_=>none
theorem Asu:HO Try.prog 68 Xl:=fun args nx o k x nx' o' ps h=>by
 unfold Xl at h
 split at h<;>first|(cases h;done)|skip
 split at h<;>first|(cases h;done)|skip
 rename_i a0 p0 e0
 cases h
 refine⟨fun hp=>?_,_,rfl⟩
 have q0:=fun p hm=>hp p (List.mem_append.2 (.inl hm))
 have r0:=fun p hm=>hp p (List.mem_append.2 (.inr hm))
 refine Ao (Ai (Axb a0 r0) (Nat.le_refl _) (Af (Ag _ _) Au) nx o) fun F N R vs hl=>?_
 obtain⟨v0,w0,rfl,h0,hl⟩:=hl.inv
 exact HL.cons (Ar e0 q0 h0) (hl)
noncomputable def A6q:=B5 68 Xl A6p
theorem Aqt:Gg Try.prog A6q:=Ax Asu Aqs
abbrev CE:Type:=(List TCell)×Int×Int
def Lp (x:CE):St:=⟨16,1,[(6,.sl .cell x.1),(7,.v (.int .i64 x.2.1)),(8,.v (.int .i64 x.2.2))],[]⟩
def Ny:St→Option CE
 |⟨16,1,[(6,.sl .cell z0),(7,.v (.int .i64 z1)),(8,.v (.int .i64 z2))],[]⟩=>some (z0,z1,z2)
 |_=>none
theorem Ack:∀s x,Ny s=some x→s=Lp x:=fun s x h=>by
 unfold Ny at h
 split at h
 ·cases h;rfl
 ·cases h
def V5:DS:=⟨1,1,[6,7,8],[],[],[],[2],[]⟩
def Aod:Eh:=⟨[],[],[6,7,8],[]⟩
def EL (a0:List TCell) (a1:Int) (a2:Int):Bool:=!!decide (a2 <a1)&&!((a0.getD a2.toNat (Ae TC.cell)).1.1==(0:Int)&&(a0.getD a2.toNat (Ae TC.cell)).1.2==(0:Int)&&((a0.getD a2.toNat (Ae TC.cell)).2.1==(0:Int)&&(a0.getD a2.toNat (Ae TC.cell)).2.2==(0:Int)&&((a0.getD a2.toNat (Ae TC.cell)).3==false&&((a0.getD a2.toNat (Ae TC.cell)).4.toList==(ByteArray.mk #[]).toList&&((a0.getD a2.toNat (Ae TC.cell)).5.1==(0:Int)&&(a0.getD a2.toNat (Ae TC.cell)).5.2==(0:Int))))))
def Ahs (a0:List TCell) (a1:Int) (a2:Int):Bool:=!!decide (a2 <a1)&&!(EL a0 a1 a2)
def Ge (x:CE):CE:=(x.1,x.2.1,IntKind.i64.wrap (x.2.2+(1:Int)))
def Gd (x:CE):Cnd:=some (Ahs x.1 x.2.1 x.2.2)
def Sl (x:CE):List Prop:=[((!!decide (x.2.2 <x.2.1))=true→(0:Int)≤x.2.2∧x.2.2 <(↑x.1.length:Int))]
def Ix (x:CE):List Prop:=[((!!decide (x.2.2 <x.2.1))=true→(0:Int)≤x.2.2∧x.2.2 <(↑x.1.length:Int))]
def QN (x:CE):Bw:=[(some 0,some (!decide (x.2.2 <x.2.1)),⟨16,1,[(2,.dead)],[]⟩),(none,some ((EL x.1 x.2.1 x.2.2)),⟨16,2,[(2,.v (.bool (false)))],[]⟩)]
def Hj (x:CE):Nat:=(x.2.1 - x.2.2).toNat
def Ahu (x:CE):CE:=BA Ge Gd (Hj x) x
set_option maxRecDepth 100000 in
theorem Ama (a0:List TCell) (a1:Int) (a2:Int):Ce (Ay A6q L0) 9 (Ah Try.prog 52 0) V5 (Lp (a0,a1,a2))=some (Sl (a0,a1,a2),QN (a0,a1,a2),Gd (a0,a1,a2),Lp (Ge (a0,a1,a2))):=by kernel_rfl
set_option maxRecDepth 100000 in
theorem Amb (a0:List TCell) (a1:Int) (a2:Int) (hp:∀p∈Ix (a0,a1,a2),p):∀p∈Sl (a0,a1,a2),p:=by
 have n0:=N0 hp
 exact(Aa n0 Ad)
noncomputable def Sm:=HZ (Ay A6q L0) (Ah Try.prog 52 0) V5 Aod Ny Hj Ge Gd Ix QN
theorem Aht:∀s b ps outs,Sm s=some (b,ps,outs)→Wf s ⟨ps,outs,none⟩∧BY (Ay C0 L0) b s ps outs:=
 BL (T:=Lp) Aqt AM (u:=9) (by kernel_rfl) (by decide) (fun⟨a0,a1,a2⟩=>Ama a0 a1 a2) (fun⟨a0,a1,a2⟩=>Amb a0 a1 a2) Ack (fun _=>AV (n:=16) rfl) fun _ _=>rfl
noncomputable def V4:=EO 0 Sm L0
theorem Ahr:Ht V4:=Bf Aht AM
def OG (a0:TRow):CE:=Ahu (a0.2,(↑a0.2.length:Int),(0:Int))
def XH (a0:TRow):Bool:=bif EL (OG a0).fst (OG a0).snd.fst (OG a0).snd.snd then false else true
def XI (a0:TRow):A:=.v (.bool (XH a0))
def Amc (_a0:TRow):Objs:=[]
def Afa (a0:TRow):List Prop:=[(AE Ge Gd Ix (Hj (a0.2,(↑a0.2.length:Int),(0:Int))) (a0.2,(↑a0.2.length:Int),(0:Int)))]
set_option maxRecDepth 100000 in
theorem Axw (a0:TRow):Hx (Ay A6q V4) 9 52 [Aq .row a0] 0 []=some (1,XI a0,0,Amc a0,[(Ah Try.prog (52:FuncId) (0:Nat)=Ah Try.prog (52:FuncId) (0:Nat)),(AE Ge Gd Ix (Hj (a0.2,(↑a0.2.length:Int),(0:Int))) (a0.2,(↑a0.2.length:Int),(0:Int)))]):=by kernel_rfl
set_option maxRecDepth 100000 in
theorem A09 (a0:TRow) (hp:∀p∈Afa a0,p):CallOk Try.prog 52 [Aq .row a0] 0 [] 1 (XI a0) 0 (Amc a0):=by
 have n1:=N0 hp
 exact AJ (Aw Aqt Ahr) (Axw a0) (Aa rfl (Aa n1 Ad))
def Afb (a0:TRow):A:=.v (.bool (JQ a0))
def Ae9 (_a0:TRow):Objs:=[]
def Zy (a0:TRow):List Prop:=[Aj a0.cells.length]
theorem Ae8 (a:TRow) (hb:Aj a.cells.length):(∀p∈Afa a,p)∧XH a=JQ a:=by
 unfold Aj at hb
 have hz:∀c:TCell,(c.1.1==(0:Int)&&c.1.2==(0:Int)&&(c.2.1==(0:Int)&&c.2.2==(0:Int)&&(c.3==false&&(c.4.toList==(ByteArray.mk #[]).toList&&(c.5.1==(0:Int)&&c.5.2==(0:Int))))))=Wq c Dq:=fun c=>by
  rw[tlb]
  unfold Wq Dq
  simp only[Bool.and_assoc]
 have hf:∀i:Nat,EL a.2 (a.2.length:Int) (i:Int)=(decide (i <a.cells.length)&&!Wq (a.2.getD i (Ae TC.cell)) Dq):=fun i=>by
  unfold EL
  rw[nn,PE,Int.toNat_natCast,hz]
 obtain⟨h1,k,hk,hx,_,_,hb'⟩:=JJ (fun i=>((a.2,(a.2.length:Int),(i:Int)):CE)) a.cells.length (fun i=>!Wq (a.2.getD i (Ae TC.cell)) Dq) Ge Gd Ix (Hj (a.2,(a.2.length:Int),0)) (a.2,(a.2.length:Int),0) rfl (by show a.cells.length≤((a.cells.length:Int) - 0).toNat;omega)
  (fun i _ _=>by
   show((!!decide ((i:Int) <(a.cells.length:Int)))&&!EL a.2 (a.2.length:Int) i)=_
   rw[hf,nn,PE]
   cases decide (i <a.cells.length)<;>rfl)
  (fun i hi _=>by
   show(a.2,(a.2.length:Int),IntKind.i64.wrap ((i:Int)+1))=(a.2,(a.2.length:Int),((i+1:Nat):Int))
   rw[FS (by omega)])
  (fun i _ _=>Aa (fun h=>⟨by show(0:Int)≤(i:Int);omega,by
   have h':(!!decide ((i:Int) <(a.cells.length:Int)))=true:=h
   rw[nn] at h';exact of_decide_eq_true h'⟩) Ad)
 refine⟨Aa h1 Ad,?_⟩
 have hr:OG a=(a.2,(a.2.length:Int),(k:Int)):=hx
 unfold XH
 rw[hr]
 show(bif EL a.2 (a.2.length:Int) (k:Int) then false else true)=_
 rw[hf,hb']
 unfold JQ
 rw[A64 a.cells (Ae TC.cell)]
 rw[show Sv a.cells.length (fun i=>!!Wq (a.2.getD i (Ae TC.cell)) Dq)=Sv a.cells.length (fun i=>Wq (a.cells.getD i (Ae TC.cell)) Dq) from Jl fun i _=>Bool.not_not _]
 cases Sv a.cells.length (fun i=>Wq (a.cells.getD i (Ae TC.cell)) Dq)<;>rfl
theorem Axv (a0:TRow) (hp:∀p∈Zy a0,p):CallOk Try.prog 52 [Aq .row a0] 0 [] 1 (Afb a0) 0 (Ae9 a0):=by
 have hb:Aj a0.cells.length:=hp _ (List.mem_cons_self ..)
 have h:=A09 a0 (Ae8 a0 hb).1
 unfold XI at h
 rw[(Ae8 a0 hb).2] at h
 exact h
def XJ:List A→Nat→Objs→Option BP
 | [y0],nx,o=>match A3 .row y0 with
  |some (a0,p0)=>some (1,(Afb a0).pk (AH nx),nx+0,AG nx (Ae9 a0)++o,p0++(Zy a0))
  |_=>none
 |_,_,_=>none
theorem Atc:HO Try.prog 52 XJ:=fun args nx o k x nx' o' ps h=>by
 unfold XJ at h
 split at h<;>first|(cases h;done)|skip
 split at h<;>first|(cases h;done)|skip
 rename_i a0 p0 e0
 cases h
 refine⟨fun hp=>?_,_,rfl⟩
 have q0:=fun p hm=>hp p (List.mem_append.2 (.inl hm))
 have r0:=fun p hm=>hp p (List.mem_append.2 (.inr hm))
 refine Ao (Ai (Axv a0 r0) (Nat.le_refl _) (Af (Ag _ _) Au) nx o) fun F N R vs hl=>?_
 obtain⟨v0,w0,rfl,h0,hl⟩:=hl.inv
 exact HL.cons (Ar e0 q0 h0) (hl)
noncomputable def Be8:=B5 52 XJ A6q
theorem Bai:Gg Try.prog Be8:=Ax Atc Aqt
noncomputable def Cj:=Be8
theorem Bc0:Gg Try.prog Cj:=Bai
end Go.Proofs.Yteebobbhhgmeiaa
namespace Go.Proofs.Yteebobbhhgmeiaa
open Go.RowKit
def Aym (a b:TVec):TVec:=⟨max (max 0 a.a) b.a,max (max 0 a.b) b.b⟩
def LT (c:TCell):TVec:=Aym c.vec c.dead
def Ic (cs:List TCell):TVec:=cs.foldl (fun v c=>Aym v (LT c)) ⟨0,0⟩
def Aa3 (l:List Ab) (k:ByteArray):Int:=bif CI l !=0 then CI l else Aak k
def Ano (l:List Ab) (k:ByteArray):TRow:=⟨bif Aa3 l k !=0 then⟨#[]⟩ else k,bif Aa3 l k !=0 then[] else List.replicate l.length Dq⟩
noncomputable def Bdz:=B5 155 (inl (Ay Cj L0) 4 155) Cj
theorem A2l:Gg Try.prog Bdz:=Ax (Arp (Aw Bc0 AM) 4 155) Bc0
noncomputable def Bd0:=B5 109 (inl (Ay Bdz L0) 4 109) Bdz
theorem A2m:Gg Try.prog Bd0:=Ax (Arp (Aw A2l AM) 4 109) A2l
def MB (a0:TVec) (a1:TVec):TVec:=TVec.mk (max (max (0:Int) a0.1) a1.1) (max (max (0:Int) a0.2) a1.2)
def Abk (a0:TVec) (a1:TVec):A:=.v (.agg ⟨[.int .i64 ((MB a0 a1).a),.int .i64 ((MB a0 a1).b)]⟩)
def Abj (_a0:TVec) (_a1:TVec):Objs:=[]
def Ak2 (_a0:TVec) (_a1:TVec):List Prop:=[]
set_option maxRecDepth 100000 in
theorem A0g (a0:TVec) (a1:TVec):Hx (Ay Bd0 L0) 9 110 [Aq .vec a0,Aq .vec a1] 0 []=some (1,Abk a0 a1,0,Abj a0 a1,[((0:Int)≤(0:Int)∧(0:Int) <(↑(2:Nat):Int)),((0:Nat) <(2:Nat)),((0:Int)≤(0:Int)∧(0:Int) <(↑(2:Nat):Int)),((0:Nat) <(2:Nat)),((0:Int)≤(1:Int)∧(1:Int) <(↑(2:Nat):Int)),((1:Nat) <(2:Nat)),((0:Int)≤(1:Int)∧(1:Int) <(↑(2:Nat):Int)),((1:Nat) <(2:Nat))]):=by kernel_rfl
set_option maxRecDepth 100000 in
theorem A48 (a0:TVec) (a1:TVec) (_hp:∀p∈Ak2 a0 a1,p):CallOk Try.prog 110 [Aq .vec a0,Aq .vec a1] 0 [] 1 (Abk a0 a1) 0 (Abj a0 a1):=by
 have n0:((0:Int)≤(0:Int)∧(0:Int) <(↑(2:Nat):Int)):=by first|rfl|decide+kernel
 have n1:((0:Nat) <(2:Nat)):=by first|rfl|decide+kernel
 have n4:((0:Int)≤(1:Int)∧(1:Int) <(↑(2:Nat):Int)):=by first|rfl|decide+kernel
 have n5:((1:Nat) <(2:Nat)):=by first|rfl|decide+kernel
 exact AJ (Aw A2m AM) (A0g a0 a1) (Aa n0 (Aa n1 (Aa n0 (Aa n1 (Aa n4 (Aa n5 (Aa n4 (Aa n5 Ad))))))))
def Abl:List A→Nat→Objs→Option BP
 | [y0,y1],nx,o=>match A3 .vec y0,A3 .vec y1 with
  |some (a0,p0),some (a1,p1)=>some (1,(Abk a0 a1).pk (AH nx),nx+0,AG nx (Abj a0 a1)++o,p0++(p1++(Ak2 a0 a1)))
  |_,_=>none
 |_,_,_=>none
theorem Awy:HO Try.prog 110 Abl:=fun args nx o k x nx' o' ps h=>by
 unfold Abl at h
 split at h<;>first|(cases h;done)|skip
 split at h<;>first|(cases h;done)|skip
 rename_i a0 p0 a1 p1 e0 e1
 cases h
 refine⟨fun hp=>?_,_,rfl⟩
 have q0:=fun p hm=>hp p (List.mem_append.2 (.inl hm))
 have r0:=fun p hm=>hp p (List.mem_append.2 (.inr hm))
 have q1:=fun p hm=>r0 p (List.mem_append.2 (.inl hm))
 have r1:=fun p hm=>r0 p (List.mem_append.2 (.inr hm))
 refine Ao (Ai (A48 a0 a1 r1) (Nat.le_refl _) (Af (Ag _ _) (Af (Ag _ _) Au)) nx o) fun F N R vs hl=>?_
 obtain⟨v0,w0,rfl,h0,hl⟩:=hl.inv
 obtain⟨v1,w1,rfl,h1,hl⟩:=hl.inv
 exact HL.cons (Ar e0 q0 h0) (HL.cons (Ar e1 q1 h1) (hl))
noncomputable def Bd1:=B5 110 Abl Bd0
theorem A2n:Gg Try.prog Bd1:=Ax Awy A2m
def JI (a0:TCell):TVec:=MB a0.2 a0.5
def TU (a0:TCell):A:=.v (.agg ⟨[.int .i64 ((JI a0).a),.int .i64 ((JI a0).b)]⟩)
def TT (_a0:TCell):Objs:=[]
def Zb (_a0:TCell):List Prop:=[]
set_option maxRecDepth 100000 in
theorem Asp (a0:TCell):Hx (Ay Bd1 L0) 9 44 [Aq .cell a0] 0 []=some (1,TU a0,0,TT a0,[]):=by kernel_rfl
set_option maxRecDepth 100000 in
theorem Aw4 (a0:TCell) (_hp:∀p∈Zb a0,p):CallOk Try.prog 44 [Aq .cell a0] 0 [] 1 (TU a0) 0 (TT a0):=by
 exact AJ (Aw A2n AM) (Asp a0) Ad
def TV:List A→Nat→Objs→Option BP
 | [y0],nx,o=>match A3 .cell y0 with
  |some (a0,p0)=>some (1,(TU a0).pk (AH nx),nx+0,AG nx (TT a0)++o,p0++(Zb a0))
  |_=>none
 |_,_,_=>none
theorem An1:HO Try.prog 44 TV:=fun args nx o k x nx' o' ps h=>by
 unfold TV at h
 split at h<;>first|(cases h;done)|skip
 split at h<;>first|(cases h;done)|skip
 rename_i a0 p0 e0
 cases h
 refine⟨fun hp=>?_,_,rfl⟩
 have q0:=fun p hm=>hp p (List.mem_append.2 (.inl hm))
 have r0:=fun p hm=>hp p (List.mem_append.2 (.inr hm))
 refine Ao (Ai (Aw4 a0 r0) (Nat.le_refl _) (Af (Ag _ _) Au) nx o) fun F N R vs hl=>?_
 obtain⟨v0,w0,rfl,h0,hl⟩:=hl.inv
 exact HL.cons (Ar e0 q0 h0) (hl)
noncomputable def Bd2:=B5 44 TV Bd1
theorem A2o:Gg Try.prog Bd2:=Ax An1 A2n
def Hu (a0:TCell):TVec:=TVec.mk (max (max (0:Int) a0.2.1) a0.5.1) (max (max (0:Int) a0.2.2) a0.5.2)
def Q1 (a0:TCell):A:=.v (.agg ⟨[.int .i64 ((Hu a0).a),.int .i64 ((Hu a0).b)]⟩)
def Q0 (_a0:TCell):Objs:=[]
def Vs (_a0:TCell):List Prop:=[]
set_option maxRecDepth 100000 in
theorem Am8 (a0:TCell):Hx (Ay Bd2 L0) 9 43 [Aq .cell a0] 0 []=some (1,Q1 a0,0,Q0 a0,[((0:Int)≤(0:Int)∧(0:Int) <(↑(2:Nat):Int)),((0:Nat) <(2:Nat)),((0:Int)≤(0:Int)∧(0:Int) <(2:Int)),((0:Nat) <(2:Nat)),((0:Int)≤(0:Int)∧(0:Int) <(2:Int)),((0:Nat) <(2:Nat)),((0:Int)≤(0:Int)∧(0:Int) <(2:Int)),((0:Nat) <(2:Nat)),((0:Int)≤(1:Int)∧(1:Int) <(2:Int)),((1:Nat) <(2:Nat)),((0:Int)≤(1:Int)∧(1:Int) <(2:Int)),((1:Nat) <(2:Nat)),((0:Int)≤(1:Int)∧(1:Int) <(2:Int)),((1:Nat) <(2:Nat)),((0:Int)≤(1:Int)∧(1:Int) <(↑(2:Nat):Int)),((1:Nat) <(2:Nat)),((0:Int)≤(0:Int)∧(0:Int) <(2:Int)),((0:Nat) <(2:Nat)),((0:Int)≤(0:Int)∧(0:Int) <(2:Int)),((0:Nat) <(2:Nat)),((0:Int)≤(0:Int)∧(0:Int) <(2:Int)),((0:Nat) <(2:Nat)),((0:Int)≤(1:Int)∧(1:Int) <(2:Int)),((1:Nat) <(2:Nat)),((0:Int)≤(1:Int)∧(1:Int) <(2:Int)),((1:Nat) <(2:Nat)),((0:Int)≤(1:Int)∧(1:Int) <(2:Int)),((1:Nat) <(2:Nat))]):=by kernel_rfl
set_option maxRecDepth 100000 in
theorem Ard (a0:TCell) (_hp:∀p∈Vs a0,p):CallOk Try.prog 43 [Aq .cell a0] 0 [] 1 (Q1 a0) 0 (Q0 a0):=by
 have n0:((0:Int)≤(0:Int)∧(0:Int) <(↑(2:Nat):Int)):=by first|rfl|decide+kernel
 have n1:((0:Nat) <(2:Nat)):=by first|rfl|decide+kernel
 have n2:((0:Int)≤(0:Int)∧(0:Int) <(2:Int)):=by first|rfl|decide+kernel
 have n8:((0:Int)≤(1:Int)∧(1:Int) <(2:Int)):=by first|rfl|decide+kernel
 have n9:((1:Nat) <(2:Nat)):=by first|rfl|decide+kernel
 have n14:((0:Int)≤(1:Int)∧(1:Int) <(↑(2:Nat):Int)):=by first|rfl|decide+kernel
 exact AJ (Aw A2o AM) (Am8 a0) (Aa n0 (Aa n1 (Aa n2 (Aa n1 (Aa n2 (Aa n1 (Aa n2 (Aa n1 (Aa n8 (Aa n9 (Aa n8 (Aa n9 (Aa n8 (Aa n9 (Aa n14 (Aa n9 (Aa n2 (Aa n1 (Aa n2 (Aa n1 (Aa n2 (Aa n1 (Aa n8 (Aa n9 (Aa n8 (Aa n9 (Aa n8 (Aa n9 Ad))))))))))))))))))))))))))))
def Q2:List A→Nat→Objs→Option BP
 | [y0],nx,o=>match A3 .cell y0 with
  |some (a0,p0)=>some (1,(Q1 a0).pk (AH nx),nx+0,AG nx (Q0 a0)++o,p0++(Vs a0))
  |_=>none
 |_,_,_=>none
theorem Aiq:HO Try.prog 43 Q2:=fun args nx o k x nx' o' ps h=>by
 unfold Q2 at h
 split at h<;>first|(cases h;done)|skip
 split at h<;>first|(cases h;done)|skip
 rename_i a0 p0 e0
 cases h
 refine⟨fun hp=>?_,_,rfl⟩
 have q0:=fun p hm=>hp p (List.mem_append.2 (.inl hm))
 have r0:=fun p hm=>hp p (List.mem_append.2 (.inr hm))
 refine Ao (Ai (Ard a0 r0) (Nat.le_refl _) (Af (Ag _ _) Au) nx o) fun F N R vs hl=>?_
 obtain⟨v0,w0,rfl,h0,hl⟩:=hl.inv
 exact HL.cons (Ar e0 q0 h0) (hl)
noncomputable def A6s:=B5 43 Q2 Bd2
theorem Aqu:Gg Try.prog A6s:=Ax Aiq A2o
abbrev Ct:Type:=Int×TRow×TVec
def Kl (x:Ct):St:=⟨21,3,[(1,.own 0 0),(3,.own 2 0),(4,.v (.int .i64 x.1))],[(0,some (.box 71 [.v (.string x.2.1.key),.sl .cell x.2.1.cells])),(2,some (.box 31 [.v (.int .i64 x.2.2.a),.v (.int .i64 x.2.2.b)]))]⟩
def L5:St→Option Ct
 |⟨21,3,[(1,.own 0 0),(3,.own 2 0),(4,.v (.int .i64 z0))],[(0,some (.box 71 [.v (.string z1),.sl .cell z2])),(2,some (.box 31 [.v (.int .i64 z3),.v (.int .i64 z4)]))]⟩=>some (z0,⟨z1,z2⟩,⟨z3,z4⟩)
 |_=>none
theorem Zm:∀s x,L5 s=some x→s=Kl x:=fun s x h=>by
 unfold L5 at h
 split at h
 ·cases h;rfl
 ·cases h
def T7:DS:=⟨3,3,[1,3,4],[],[(0,0),(2,2)],[0,2],[],[0,2]⟩
def Alt:Eh:=⟨[],[(0,0),(2,2)],[1,3,4],[0,2]⟩
def Km (a0:Int) (a1:TRow) (_a2:TVec):Bool:=!!decide (a0 <(↑a1.2.length:Int))
def Ab1 (a0:Int) (a1:TRow) (a2:TVec):TVec:=MB a2 (JI (a1.2.getD a0.toNat (Ae TC.cell)))
def Fi (x:Ct):Ct:=(IntKind.i64.wrap (x.1+(1:Int)),x.2.1,Ab1 x.1 x.2.1 x.2.2)
def Fh (x:Ct):Cnd:=some ((Km x.1 x.2.1 x.2.2))
def QA (x:Ct):List Prop:=[((Km x.1 x.2.1 x.2.2)=true→(0:Int)≤x.1∧x.1 <(↑x.2.1.2.length:Int))]
def HG (x:Ct):List Prop:=[((Km x.1 x.2.1 x.2.2)=true→(0:Int)≤x.1∧x.1 <(↑x.2.1.2.length:Int))]
def Oy (x:Ct):Bw:=[(some 0,some (!decide (x.1 <(↑x.2.1.2.length:Int))),⟨21,3,[],[(0,some (.box 71 [.v (.string x.2.1.1),.sl .cell x.2.1.2])),(2,some (.box 31 [.v (.int .i64 x.2.2.1),.v (.int .i64 x.2.2.2)]))]⟩)]
def GK (x:Ct):Nat:=((↑x.2.1.2.length:Int) - x.1).toNat
def K3 (x:Ct):Ct:=BA Fi Fh (GK x) x
set_option maxRecDepth 100000 in
theorem Ag8 (a0:Int) (a1:TRow) (a2:TVec):Ce (Ay A6s L0) 9 (Ah Try.prog 70 0) T7 (Kl (a0,a1,a2))=some (QA (a0,a1,a2),Oy (a0,a1,a2),Fh (a0,a1,a2),Kl (Fi (a0,a1,a2))):=by kernel_rfl
set_option maxRecDepth 100000 in
theorem Ag9 (a0:Int) (a1:TRow) (a2:TVec) (hp:∀p∈HG (a0,a1,a2),p):∀p∈QA (a0,a1,a2),p:=by
 have n0:=N0 hp
 exact(Aa n0 Ad)
noncomputable def QB:=HZ (Ay A6s L0) (Ah Try.prog 70 0) T7 Alt L5 GK Fi Fh HG Oy
theorem Ab2:∀s b ps outs,QB s=some (b,ps,outs)→Wf s ⟨ps,outs,none⟩∧BY (Ay C0 L0) b s ps outs:=
 BL (T:=Kl) Aqu AM (u:=9) (by kernel_rfl) (by decide) (fun⟨a0,a1,a2⟩=>Ag8 a0 a1 a2) (fun⟨a0,a1,a2⟩=>Ag9 a0 a1 a2) Zm (fun _=>AV (n:=21) rfl) fun _ _=>rfl
noncomputable def T6:=EO 0 QB L0
theorem Ab0:Ht T6:=Bf Ab2 AM
def T5 (a0:TRow):TVec:=(K3 ((0:Int),a0,TVec.mk (0:Int) (0:Int))).snd.snd
def T8 (a0:TRow):A:=.v (.agg ⟨[.int .i64 ((T5 a0).a),.int .i64 ((T5 a0).b)]⟩)
def Aev (_a0:TRow):Objs:=[]
def Zo (a0:TRow):List Prop:=[(AE Fi Fh HG (GK ((0:Int),a0,TVec.mk (0:Int) (0:Int))) ((0:Int),a0,TVec.mk (0:Int) (0:Int)))]
set_option maxRecDepth 100000 in
theorem As1 (a0:TRow):Hx (Ay A6s T6) 9 70 [Aq .row a0] 0 []=some (1,T8 a0,0,Aev a0,[(Ah Try.prog (70:FuncId) (0:Nat)=Ah Try.prog (70:FuncId) (0:Nat)),(AE Fi Fh HG (GK ((0:Int),a0,TVec.mk (0:Int) (0:Int))) ((0:Int),a0,TVec.mk (0:Int) (0:Int)))]):=by kernel_rfl
set_option maxRecDepth 100000 in
theorem Axi (a0:TRow) (hp:∀p∈Zo a0,p):CallOk Try.prog 70 [Aq .row a0] 0 [] 1 (T8 a0) 0 (Aev a0):=by
 have n1:=N0 hp
 exact AJ (Aw Aqu Ab0) (As1 a0) (Aa rfl (Aa n1 Ad))
def Zp (a0:TRow):A:=.v (.agg ⟨[.int .i64 (Ic a0.cells).a,.int .i64 (Ic a0.cells).b]⟩)
def Zn (_a0:TRow):Objs:=[]
def VS (a0:TRow):List Prop:=[AC a0.cells.length]
theorem Adm (cs:List TCell) (i:Nat) (h:i <cs.length):Ic (cs.take (i+1))=Aym (Ic (cs.take i)) (LT (cs.getD i (Ae TC.cell))):=by
 unfold Ic
 rw[List.take_add_one,List.getElem?_eq_getElem h,List.getD_eq_getElem?_getD,List.getElem?_eq_getElem h,List.foldl_append]
 rfl
theorem Zl (a:TRow) (hb:AC a.cells.length):(∀p∈Zo a,p)∧T5 a=Ic a.cells:=by
 unfold AC at hb
 obtain⟨h1,k,hk,hx,_,hst,_⟩:=JJ (fun i=>(((i:Int),a,Ic (a.cells.take i)):Ct)) a.cells.length (fun _=>false) Fi Fh HG (GK (0,a,⟨0,0⟩)) (0,a,⟨0,0⟩) rfl (by show a.cells.length≤((a.cells.length:Int) - 0).toNat;omega)
  (fun i _ _=>by
   show(!!decide ((i:Int) <(a.cells.length:Int)))=_
   rw[nn,PE,Bool.not_false,Bool.and_true])
  (fun i hi _=>by
   show(IntKind.i64.wrap ((i:Int)+1),a,Aym (Ic (a.cells.take i)) (LT (a.cells.getD ((i:Int)).toNat (Ae TC.cell))))=(((i+1:Nat):Int),a,Ic (a.cells.take (i+1)))
   rw[FS (by omega),Int.toNat_natCast,Adm _ _ hi])
  (fun i _ _=>Aa (fun h=>⟨by show(0:Int)≤(i:Int);omega,by
   have h':(!!decide ((i:Int) <(a.cells.length:Int)))=true:=h
   rw[nn] at h';exact of_decide_eq_true h'⟩) Ad)
 refine⟨Aa h1 Ad,?_⟩
 have hkn:k=a.cells.length:=by
  rcases Nat.lt_or_ge k a.cells.length with h|h
  ·exact absurd (hst h) (by decide)
  ·omega
 have hr:K3 (0,a,⟨0,0⟩)=((k:Int),a,Ic (a.cells.take k)):=hx
 show(K3 (0,a,⟨0,0⟩)).snd.snd=_
 rw[hr,hkn,List.take_length]
theorem As0 (a0:TRow) (hp:∀p∈VS a0,p):CallOk Try.prog 70 [Aq .row a0] 0 [] 1 (Zp a0) 0 (Zn a0):=by
 have hb:AC a0.cells.length:=hp _ (List.mem_cons_self ..)
 have h:=Axi a0 (Zl a0 hb).1
 unfold T8 at h
 rw[(Zl a0 hb).2] at h
 exact h
def T9:List A→Nat→Objs→Option BP
 | [y0],nx,o=>match A3 .row y0 with
  |some (a0,p0)=>some (1,(Zp a0).pk (AH nx),nx+0,AG nx (Zn a0)++o,p0++(VS a0))
  |_=>none
 |_,_,_=>none
theorem An8:HO Try.prog 70 T9:=fun args nx o k x nx' o' ps h=>by
 unfold T9 at h
 split at h<;>first|(cases h;done)|skip
 split at h<;>first|(cases h;done)|skip
 rename_i a0 p0 e0
 cases h
 refine⟨fun hp=>?_,_,rfl⟩
 have q0:=fun p hm=>hp p (List.mem_append.2 (.inl hm))
 have r0:=fun p hm=>hp p (List.mem_append.2 (.inr hm))
 refine Ao (Ai (As0 a0 r0) (Nat.le_refl _) (Af (Ag _ _) Au) nx o) fun F N R vs hl=>?_
 obtain⟨v0,w0,rfl,h0,hl⟩:=hl.inv
 exact HL.cons (Ar e0 q0 h0) (hl)
noncomputable def A6t:=B5 70 T9 A6s
theorem Aqv:Gg Try.prog A6t:=Ax An8 Aqu
abbrev Cw:Type:=(List TCell)×Int×Int×TVec
def Kq (x:Cw):St:=⟨19,2,[(2,.own 1 0),(6,.sl .cell x.1),(7,.v (.int .i64 x.2.1)),(8,.v (.int .i64 x.2.2.1))],[(1,some (.box 31 [.v (.int .i64 x.2.2.2.a),.v (.int .i64 x.2.2.2.b)]))]⟩
def L8:St→Option Cw
 |⟨19,2,[(2,.own 1 0),(6,.sl .cell z0),(7,.v (.int .i64 z1)),(8,.v (.int .i64 z2))],[(1,some (.box 31 [.v (.int .i64 z3),.v (.int .i64 z4)]))]⟩=>some (z0,z1,z2,⟨z3,z4⟩)
 |_=>none
theorem ZB:∀s x,L8 s=some x→s=Kq x:=fun s x h=>by
 unfold L8 at h
 split at h
 ·cases h;rfl
 ·cases h
def Up:DS:=⟨2,2,[2,6,7,8],[],[(1,1)],[1],[],[1]⟩
def Amd:Eh:=⟨[],[(1,1)],[2,6,7,8],[1]⟩
def Acm (a0:List TCell) (_a1:Int) (a2:Int) (a3:TVec):TVec:=TVec.mk (max (max (0:Int) a3.1) (Hu (a0.getD a2.toNat (Ae TC.cell))).1) (max (max (0:Int) a3.2) (Hu (a0.getD a2.toNat (Ae TC.cell))).2)
def Fl (x:Cw):Cw:=(x.1,x.2.1,IntKind.i64.wrap (x.2.2.1+(1:Int)),Acm x.1 x.2.1 x.2.2.1 x.2.2.2)
def Fk (x:Cw):Cnd:=some (!!decide (x.2.2.1 <x.2.1))
def QO (x:Cw):List Prop:=[((!!decide (x.2.2.1 <x.2.1))=true→(0:Int)≤x.2.2.1∧x.2.2.1 <(↑x.1.length:Int)),((!!decide (x.2.2.1 <x.2.1))=true→(0:Int)≤(0:Int)∧(0:Int) <(↑(2:Nat):Int)),((!!decide (x.2.2.1 <x.2.1))=true→(0:Nat) <(2:Nat)),((!!decide (x.2.2.1 <x.2.1))=true→(0:Int)≤(0:Int)∧(0:Int) <(2:Int)),((!!decide (x.2.2.1 <x.2.1))=true→(0:Nat) <(2:Nat)),((!!decide (x.2.2.1 <x.2.1))=true→(0:Int)≤(0:Int)∧(0:Int) <(2:Int)),((!!decide (x.2.2.1 <x.2.1))=true→(0:Nat) <(2:Nat)),((!!decide (x.2.2.1 <x.2.1))=true→(0:Int)≤(0:Int)∧(0:Int) <(2:Int)),((!!decide (x.2.2.1 <x.2.1))=true→(0:Nat) <(2:Nat)),((!!decide (x.2.2.1 <x.2.1))=true→(0:Int)≤(1:Int)∧(1:Int) <(2:Int)),((!!decide (x.2.2.1 <x.2.1))=true→(1:Nat) <(2:Nat)),((!!decide (x.2.2.1 <x.2.1))=true→(0:Int)≤(1:Int)∧(1:Int) <(2:Int)),((!!decide (x.2.2.1 <x.2.1))=true→(1:Nat) <(2:Nat)),((!!decide (x.2.2.1 <x.2.1))=true→(0:Int)≤(1:Int)∧(1:Int) <(2:Int)),((!!decide (x.2.2.1 <x.2.1))=true→(1:Nat) <(2:Nat)),((!!decide (x.2.2.1 <x.2.1))=true→(0:Int)≤(1:Int)∧(1:Int) <(↑(2:Nat):Int)),((!!decide (x.2.2.1 <x.2.1))=true→(1:Nat) <(2:Nat)),((!!decide (x.2.2.1 <x.2.1))=true→(0:Int)≤(0:Int)∧(0:Int) <(2:Int)),((!!decide (x.2.2.1 <x.2.1))=true→(0:Nat) <(2:Nat)),((!!decide (x.2.2.1 <x.2.1))=true→(0:Int)≤(0:Int)∧(0:Int) <(2:Int)),((!!decide (x.2.2.1 <x.2.1))=true→(0:Nat) <(2:Nat)),((!!decide (x.2.2.1 <x.2.1))=true→(0:Int)≤(0:Int)∧(0:Int) <(2:Int)),((!!decide (x.2.2.1 <x.2.1))=true→(0:Nat) <(2:Nat)),((!!decide (x.2.2.1 <x.2.1))=true→(0:Int)≤(1:Int)∧(1:Int) <(2:Int)),((!!decide (x.2.2.1 <x.2.1))=true→(1:Nat) <(2:Nat)),((!!decide (x.2.2.1 <x.2.1))=true→(0:Int)≤(1:Int)∧(1:Int) <(2:Int)),((!!decide (x.2.2.1 <x.2.1))=true→(1:Nat) <(2:Nat)),((!!decide (x.2.2.1 <x.2.1))=true→(0:Int)≤(1:Int)∧(1:Int) <(2:Int)),((!!decide (x.2.2.1 <x.2.1))=true→(1:Nat) <(2:Nat))]
def HH (x:Cw):List Prop:=[((!!decide (x.2.2.1 <x.2.1))=true→(0:Int)≤x.2.2.1∧x.2.2.1 <(↑x.1.length:Int))]
def OH (x:Cw):Bw:=[(some 0,some (!decide (x.2.2.1 <x.2.1)),⟨19,2,[],[(1,some (.box 31 [.v (.int .i64 x.2.2.2.1),.v (.int .i64 x.2.2.2.2)]))]⟩)]
def GL (x:Cw):Nat:=(x.2.1 - x.2.2.1).toNat
def La (x:Cw):Cw:=BA Fl Fk (GL x) x
set_option maxRecDepth 100000 in
theorem Ahv (a0:List TCell) (a1:Int) (a2:Int) (a3:TVec):Ce (Ay A6t L0) 9 (Ah Try.prog 69 0) Up (Kq (a0,a1,a2,a3))=some (QO (a0,a1,a2,a3),OH (a0,a1,a2,a3),Fk (a0,a1,a2,a3),Kq (Fl (a0,a1,a2,a3))):=by kernel_rfl
set_option maxRecDepth 100000 in
theorem Ahw (a0:List TCell) (a1:Int) (a2:Int) (a3:TVec) (hp:∀p∈HH (a0,a1,a2,a3),p):∀p∈QO (a0,a1,a2,a3),p:=by
 have n0:=N0 hp
 have n1:((!!decide (a2 <a1))=true→(0:Int)≤(0:Int)∧(0:Int) <(↑(2:Nat):Int)):=by omega
 have n2:((!!decide (a2 <a1))=true→(0:Nat) <(2:Nat)):=by omega
 have n3:((!!decide (a2 <a1))=true→(0:Int)≤(0:Int)∧(0:Int) <(2:Int)):=by omega
 have n9:((!!decide (a2 <a1))=true→(0:Int)≤(1:Int)∧(1:Int) <(2:Int)):=by omega
 have n10:((!!decide (a2 <a1))=true→(1:Nat) <(2:Nat)):=by omega
 have n15:((!!decide (a2 <a1))=true→(0:Int)≤(1:Int)∧(1:Int) <(↑(2:Nat):Int)):=by omega
 exact(Aa n0 (Aa n1 (Aa n2 (Aa n3 (Aa n2 (Aa n3 (Aa n2 (Aa n3 (Aa n2 (Aa n9 (Aa n10 (Aa n9 (Aa n10 (Aa n9 (Aa n10 (Aa n15 (Aa n10 (Aa n3 (Aa n2 (Aa n3 (Aa n2 (Aa n3 (Aa n2 (Aa n9 (Aa n10 (Aa n9 (Aa n10 (Aa n9 (Aa n10 Ad)))))))))))))))))))))))))))))
noncomputable def QP:=HZ (Ay A6t L0) (Ah Try.prog 69 0) Up Amd L8 GL Fl Fk HH OH
theorem Acn:∀s b ps outs,QP s=some (b,ps,outs)→Wf s ⟨ps,outs,none⟩∧BY (Ay C0 L0) b s ps outs:=
 BL (T:=Kq) Aqv AM (u:=9) (by kernel_rfl) (by decide) (fun⟨a0,a1,a2,a3⟩=>Ahv a0 a1 a2 a3) (fun⟨a0,a1,a2,a3⟩=>Ahw a0 a1 a2 a3) ZB (fun _=>AV (n:=19) rfl) fun _ _=>rfl
noncomputable def Uo:=EO 0 QP L0
theorem Acl:Ht Uo:=Bf Acn AM
def Un (a0:TRow):TVec:=(La (a0.2,(↑a0.2.length:Int),(0:Int),TVec.mk (0:Int) (0:Int))).snd.snd.snd
def Uq (a0:TRow):A:=.v (.agg ⟨[.int .i64 ((Un a0).a),.int .i64 ((Un a0).b)]⟩)
def Aff (_a0:TRow):Objs:=[]
def ZD (a0:TRow):List Prop:=[(AE Fl Fk HH (GL (a0.2,(↑a0.2.length:Int),(0:Int),TVec.mk (0:Int) (0:Int))) (a0.2,(↑a0.2.length:Int),(0:Int),TVec.mk (0:Int) (0:Int)))]
set_option maxRecDepth 100000 in
theorem Atf (a0:TRow):Hx (Ay A6t Uo) 9 69 [Aq .row a0] 0 []=some (1,Uq a0,0,Aff a0,[(Ah Try.prog (69:FuncId) (0:Nat)=Ah Try.prog (69:FuncId) (0:Nat)),(AE Fl Fk HH (GL (a0.2,(↑a0.2.length:Int),(0:Int),TVec.mk (0:Int) (0:Int))) (a0.2,(↑a0.2.length:Int),(0:Int),TVec.mk (0:Int) (0:Int)))]):=by kernel_rfl
set_option maxRecDepth 100000 in
theorem Axx (a0:TRow) (hp:∀p∈ZD a0,p):CallOk Try.prog 69 [Aq .row a0] 0 [] 1 (Uq a0) 0 (Aff a0):=by
 have n1:=N0 hp
 exact AJ (Aw Aqv Acl) (Atf a0) (Aa rfl (Aa n1 Ad))
def ZE (a0:TRow):A:=.v (.agg ⟨[.int .i64 (Ic a0.cells).a,.int .i64 (Ic a0.cells).b]⟩)
def ZC (_a0:TRow):Objs:=[]
def V6 (a0:TRow):List Prop:=[AC a0.cells.length]
theorem ZA (a:TRow) (hb:AC a.cells.length):(∀p∈ZD a,p)∧Un a=Ic a.cells:=by
 unfold AC at hb
 obtain⟨h1,k,hk,hx,_,hst,_⟩:=JJ (fun i=>((a.2,(a.2.length:Int),(i:Int),Ic (a.cells.take i)):Cw)) a.cells.length (fun _=>false) Fl Fk HH (GL (a.2,(a.2.length:Int),0,⟨0,0⟩)) (a.2,(a.2.length:Int),0,⟨0,0⟩) rfl (by show a.cells.length≤((a.cells.length:Int) - 0).toNat;omega)
  (fun i _ _=>by
   show(!!decide ((i:Int) <(a.cells.length:Int)))=_
   rw[nn,PE,Bool.not_false,Bool.and_true])
  (fun i hi _=>by
   show(a.2,(a.2.length:Int),IntKind.i64.wrap ((i:Int)+1),Aym (Ic (a.cells.take i)) (LT (a.cells.getD ((i:Int)).toNat (Ae TC.cell))))=(a.2,(a.2.length:Int),((i+1:Nat):Int),Ic (a.cells.take (i+1)))
   rw[FS (by omega),Int.toNat_natCast,Adm _ _ hi])
  (fun i _ _=>Aa (fun h=>⟨by show(0:Int)≤(i:Int);omega,by
   have h':(!!decide ((i:Int) <(a.cells.length:Int)))=true:=h
   rw[nn] at h';exact of_decide_eq_true h'⟩) Ad)
 refine⟨Aa h1 Ad,?_⟩
 have hkn:k=a.cells.length:=by
  rcases Nat.lt_or_ge k a.cells.length with h|h
  ·exact absurd (hst h) (by decide)
  ·omega
 have hr:La (a.2,(a.2.length:Int),0,⟨0,0⟩)=(a.2,(a.2.length:Int),(k:Int),Ic (a.cells.take k)):=hx
 show(La (a.2,(a.2.length:Int),0,⟨0,0⟩)).snd.snd.snd=_
 rw[hr,hkn,List.take_length]
theorem Ate (a0:TRow) (hp:∀p∈V6 a0,p):CallOk Try.prog 69 [Aq .row a0] 0 [] 1 (ZE a0) 0 (ZC a0):=by
 have hb:AC a0.cells.length:=hp _ (List.mem_cons_self ..)
 have h:=Axx a0 (ZA a0 hb).1
 unfold Uq at h
 rw[(ZA a0 hb).2] at h
 exact h
def Ur:List A→Nat→Objs→Option BP
 | [y0],nx,o=>match A3 .row y0 with
  |some (a0,p0)=>some (1,(ZE a0).pk (AH nx),nx+0,AG nx (ZC a0)++o,p0++(V6 a0))
  |_=>none
 |_,_,_=>none
theorem Aoe:HO Try.prog 69 Ur:=fun args nx o k x nx' o' ps h=>by
 unfold Ur at h
 split at h<;>first|(cases h;done)|skip
 split at h<;>first|(cases h;done)|skip
 rename_i a0 p0 e0
 cases h
 refine⟨fun hp=>?_,_,rfl⟩
 have q0:=fun p hm=>hp p (List.mem_append.2 (.inl hm))
 have r0:=fun p hm=>hp p (List.mem_append.2 (.inr hm))
 refine Ao (Ai (Ate a0 r0) (Nat.le_refl _) (Af (Ag _ _) Au) nx o) fun F N R vs hl=>?_
 obtain⟨v0,w0,rfl,h0,hl⟩:=hl.inv
 exact HL.cons (Ar e0 q0 h0) (hl)
noncomputable def A6u:=B5 69 Ur A6t
theorem Aqw:Gg Try.prog A6u:=Ax Aoe Aqv
abbrev Cs:Type:=(List Ab)×Int×ByteArray×(List TCell)
def Kj (x:Cs):St:=⟨22,4,[(0,.sl .group x.1),(5,.own 1 0),(6,.v (.int .i64 x.2.1))],[(1,some (.box 71 [.v (.string x.2.2.1),.sq 3])),(3,some (.arr 55 8 (.ty .cell x.2.2.2)))]⟩
def L4:St→Option Cs
 |⟨22,4,[(0,.sl .group z0),(5,.own 1 0),(6,.v (.int .i64 z1))],[(1,some (.box 71 [.v (.string z2),.sq 3])),(3,some (.arr 55 8 (.ty .cell z3)))]⟩=>some (z0,z1,z2,z3)
 |_=>none
theorem Zg:∀s x,L4 s=some x→s=Kj x:=fun s x h=>by
 unfold L4 at h
 split at h
 ·cases h;rfl
 ·cases h
def T1:DS:=⟨3,4,[0,5,6],[],[(1,1),(5,3)],[1,5],[],[1,3]⟩
def Aln:Eh:=⟨[.nilB 1 1 55 .cell],[(1,1),(2,3)],[0,5,6],[1,2]⟩
def Kk (a0:List Ab) (a1:Int) (_a2:ByteArray) (_a3:List TCell):Bool:=!!decide (a1 <(↑a0.length:Int))
def Abu (_a0:List Ab) (_a1:Int) (_a2:ByteArray) (a3:List TCell):List TCell:=a3++[TCell.mk (TStamp.mk (0:Int) (0:Int)) (TVec.mk (0:Int) (0:Int)) false (ByteArray.mk #[]) (TVec.mk (0:Int) (0:Int))]
def Fg (x:Cs):Cs:=(x.1,IntKind.i64.wrap (x.2.1+(1:Int)),x.2.2.1,Abu x.1 x.2.1 x.2.2.1 x.2.2.2)
def Ff (x:Cs):Cnd:=some ((Kk x.1 x.2.1 x.2.2.1 x.2.2.2))
def Qx (x:Cs):List Prop:=[((Kk x.1 x.2.1 x.2.2.1 x.2.2.2)=true→Aj (x.2.2.2.length+(1:Nat)))]
def HF (x:Cs):List Prop:=[((Kk x.1 x.2.1 x.2.2.1 x.2.2.2)=true→Aj (x.2.2.2.length+(1:Nat)))]
def Ox (x:Cs):Bw:=[(some 0,some (!decide (x.2.1 <(↑x.1.length:Int))),⟨22,4,[],[(1,some (.box 71 [.v (.string x.2.2.1),.sq 3])),(3,some (.arr 55 8 (.ty .cell x.2.2.2)))]⟩)]
def GJ (x:Cs):Nat:=((↑x.1.length:Int) - x.2.1).toNat
def Hd (x:Cs):Cs:=BA Fg Ff (GJ x) x
set_option maxRecDepth 100000 in
theorem Ag2 (a0:List Ab) (a1:Int) (a2:ByteArray) (a3:List TCell):Ce (Ay A6u L0) 9 (Ah Try.prog 130 0) T1 (Kj (a0,a1,a2,a3))=some (Qx (a0,a1,a2,a3),Ox (a0,a1,a2,a3),Ff (a0,a1,a2,a3),Kj (Fg (a0,a1,a2,a3))):=by kernel_rfl
set_option maxRecDepth 100000 in
theorem Ag3 (a0:List Ab) (a1:Int) (a2:ByteArray) (a3:List TCell) (hp:∀p∈HF (a0,a1,a2,a3),p):∀p∈Qx (a0,a1,a2,a3),p:=by
 have n0:=N0 hp
 exact(Aa n0 Ad)
noncomputable def Qy:=HZ (Ay A6u L0) (Ah Try.prog 130 0) T1 Aln L4 GJ Fg Ff HF Ox
theorem Abv:∀s b ps outs,Qy s=some (b,ps,outs)→Wf s ⟨ps,outs,none⟩∧BY (Ay C0 L0) b s ps outs:=
 BL (T:=Kj) Aqw AM (u:=9) (by kernel_rfl) (by decide) (fun⟨a0,a1,a2,a3⟩=>Ag2 a0 a1 a2 a3) (fun⟨a0,a1,a2,a3⟩=>Ag3 a0 a1 a2 a3) Zg (fun _=>AV (n:=22) rfl) fun _ _=>rfl
noncomputable def T0:=EO 0 Qy L0
theorem Abt:Ht T0:=Bf Abv AM
def Aeo (a0:List Ab) (a1:ByteArray):ByteArray:=(Hd (a0,(0:Int),a1,[])).snd.snd.fst
def Aep (a0:List Ab) (a1:ByteArray):List TCell:=(Hd (a0,(0:Int),a1,[])).snd.snd.snd
def T3 (a0:List Ab) (a1:ByteArray):A:=.agg [.v (.string (Aeo a0 a1)),.sq 0]
def T2 (a0:List Ab) (a1:ByteArray):Objs:=[(0,some (.arr 55 8 (.ty .cell (Aep a0 a1))))]
def Zi (a0:List Ab) (a1:ByteArray):List Prop:=[(AE Fg Ff HF (GJ (a0,(0:Int),a1,[])) (a0,(0:Int),a1,[]))]
set_option maxRecDepth 100000 in
theorem Asy (a0:List Ab) (a1:ByteArray):Hx (Ay A6u T0) 9 130 [.sl .group a0,Aq .str a1] 0 []=some (1,T3 a0 a1,1,T2 a0 a1,[(Ah Try.prog (130:FuncId) (0:Nat)=Ah Try.prog (130:FuncId) (0:Nat)),(AE Fg Ff HF (GJ (a0,(0:Int),a1,[])) (a0,(0:Int),a1,[]))]):=by kernel_rfl
set_option maxRecDepth 100000 in
theorem Axe (a0:List Ab) (a1:ByteArray) (hp:∀p∈Zi a0 a1,p):CallOk Try.prog 130 [.sl .group a0,Aq .str a1] 0 [] 1 (T3 a0 a1) 1 (T2 a0 a1):=by
 have n1:=N0 hp
 exact AJ (Aw Aqw Abt) (Asy a0 a1) (Aa rfl (Aa n1 Ad))
def Zj (_a0:List Ab) (a1:ByteArray):A:=.agg [.v (.string a1),.sq 0]
def Zh (a0:List Ab) (_a1:ByteArray):Objs:=[(0,some (.arr 55 8 (.ty .cell (List.replicate a0.length Dq))))]
def VP (a0:List Ab) (_a1:ByteArray):List Prop:=[Aj a0.length]
theorem Asx (l:List Ab) (k:ByteArray) (hb:Aj l.length):(∀p∈Zi l k,p)∧Aeo l k=k∧Aep l k=List.replicate l.length Dq:=by
 unfold Aj at hb
 obtain⟨h1,n,hn,hx,_,hst,_⟩:=JJ (fun i=>((l,(i:Int),k,List.replicate i Dq):Cs)) l.length (fun _=>false) Fg Ff HF (GJ (l,0,k,[])) (l,0,k,[]) rfl (by show l.length≤((l.length:Int) - 0).toNat;omega)
  (fun i _ _=>by
   show(!!decide ((i:Int) <(l.length:Int)))=_
   rw[nn,PE,Bool.not_false,Bool.and_true])
  (fun i hi _=>by
   show(l,IntKind.i64.wrap ((i:Int)+1),k,List.replicate i Dq++[Dq])=(l,((i+1:Nat):Int),k,List.replicate (i+1) Dq)
   rw[FS (by omega),List.replicate_succ'])
  (fun i hi _=>Aa (fun h=>by
   have h':(!!decide ((i:Int) <(l.length:Int)))=true:=h
   rw[nn] at h'
   have:=of_decide_eq_true h'
   show Aj ((List.replicate i Dq).length+1)
   rw[List.length_replicate];unfold Aj;omega) Ad)
 have hkn:n=l.length:=by
  rcases Nat.lt_or_ge n l.length with h|h
  ·exact absurd (hst h) (by decide)
  ·omega
 have hr:Hd (l,0,k,[])=(l,(n:Int),k,List.replicate n Dq):=hx
 refine⟨Aa h1 Ad,?_,?_⟩
 ·show(Hd (l,0,k,[])).snd.snd.fst=_
  rw[hr]
 ·show(Hd (l,0,k,[])).snd.snd.snd=_
  rw[hr,hkn]
theorem Asw (a0:List Ab) (a1:ByteArray) (hp:∀p∈VP a0 a1,p):CallOk Try.prog 130 [.sl .group a0,Aq .str a1] 0 [] 1 (Zj a0 a1) 1 (Zh a0 a1):=by
 have hb:Aj a0.length:=hp _ (List.mem_cons_self ..)
 obtain⟨e1,e2,e3⟩:=Asx a0 a1 hb
 have h:=Axe a0 a1 e1
 unfold T3 T2 at h
 rw[e2,e3] at h
 exact h
def T4:List A→Nat→Objs→Option BP
 | [y0,y1],nx,o=>match QX .group y0,A3 .str y1 with
  |some a0,some (a1,p1)=>some (1,(Zj a0 a1).pk (AH nx),nx+1,AG nx (Zh a0 a1)++o,p1++(VP a0 a1))
  |_,_=>none
 |_,_,_=>none
theorem An6:HO Try.prog 130 T4:=fun args nx o k x nx' o' ps h=>by
 unfold T4 at h
 split at h<;>first|(cases h;done)|skip
 split at h<;>first|(cases h;done)|skip
 rename_i a0 a1 p1 e0 e1
 cases h
 refine⟨fun hp=>?_,_,rfl⟩
 have q1:=fun p hm=>hp p (List.mem_append.2 (.inl hm))
 have r1:=fun p hm=>hp p (List.mem_append.2 (.inr hm))
 refine Ao (Ai (Asw a0 a1 r1) (Nat.le_refl _) (Af rfl (Af (Ag _ _) Au)) nx o) fun F N R vs hl=>?_
 obtain⟨v0,w0,rfl,h0,hl⟩:=hl.inv
 obtain⟨v1,w1,rfl,h1,hl⟩:=hl.inv
 exact HL.cons (GD e0 h0) (HL.cons (Ar e1 q1 h1) (hl))
noncomputable def Bd3:=B5 130 T4 A6u
theorem A2p:Gg Try.prog Bd3:=Ax An6 Aqw
def Iu (_a0:List Ab) (a1:ByteArray):Bool:=Aak a1 !=(0:Int)
def It (a0:List Ab) (_a1:ByteArray):Bool:=CI a0 !=(0:Int)
def Ab3 (a0:List Ab) (a1:ByteArray):ByteArray:=bif(It a0 a1) then ByteArray.mk #[] else bif(Iu a0 a1) then ByteArray.mk #[] else a1
def Ab4 (a0:List Ab) (a1:ByteArray):Int:=bif(It a0 a1) then CI a0 else bif(Iu a0 a1) then Aak a1 else(0:Int)
def Ab5 (a0:List Ab) (a1:ByteArray):List TCell:=bif(It a0 a1) then[] else bif(Iu a0 a1) then[] else List.replicate a0.length Dq
def Ab7 (a0:List Ab) (a1:ByteArray):A:=.tup [.agg [.v (.string (Ab3 a0 a1)),.sq 0],.v (.int .i64 (Ab4 a0 a1))]
def Ab6 (a0:List Ab) (a1:ByteArray):Objs:=[(0,some (.arr 55 8 (.ty .cell (Ab5 a0 a1))))]
def A0y (a0:List Ab) (a1:ByteArray):List Prop:=[(∀(g:Ab),g∈a0→AC g.1.size),((!(It a0 a1))=true→(!(Iu a0 a1))=true→Aj a0.length)]
set_option maxRecDepth 100000 in
theorem A0x (a0:List Ab) (a1:ByteArray):Hx (Ay Bd3 L0) 9 63 [.sl .group a0,Aq .str a1] 0 []=some (1,Ab7 a0 a1,1,Ab6 a0 a1,[(∀(g:Ab),g∈a0→AC g.1.size),((!(It a0 a1))=true→(!(Iu a0 a1))=true→Aj a0.length)]):=by kernel_rfl
set_option maxRecDepth 100000 in
theorem A5b (a0:List Ab) (a1:ByteArray) (hp:∀p∈A0y a0 a1,p):CallOk Try.prog 63 [.sl .group a0,Aq .str a1] 0 [] 1 (Ab7 a0 a1) 1 (Ab6 a0 a1):=by
 have n0:=N0 hp
 have n1:=N0 (N1 hp)
 exact AJ (Aw A2p AM) (A0x a0 a1) (Aa n0 (Aa n1 Ad))
def Alv (a0:List Ab) (a1:ByteArray):A:=.tup [.agg [.v (.string (Ano a0 a1).key),.sq 0],.v (.int .i64 (Aa3 a0 a1))]
def Alu (a0:List Ab) (a1:ByteArray):Objs:=[(0,some (.arr 55 8 (.ty .cell (Ano a0 a1).cells)))]
def Aew (a0:List Ab) (_a1:ByteArray):List Prop:=[∀g∈a0,AC g.name.size]
theorem A0w (a0:List Ab) (a1:ByteArray) (hp:∀p∈Aew a0 a1,p):CallOk Try.prog 63 [.sl .group a0,Aq .str a1] 0 [] 1 (Alv a0 a1) 1 (Alu a0 a1):=by
 have hb:∀g∈a0,AC g.name.size:=hp _ (List.mem_cons_self ..)
 have h:=A5b a0 a1 (Aa hb (Aa (fun h1 _=>by
  have h1':CI a0=0:=by
   have:(!(CI a0 !=0))=true:=h1
   simpa using this
  have:=(J4 h1').2
  unfold Aj;omega) Ad))
 have e1:Ab4 a0 a1=Aa3 a0 a1:=by
  unfold Ab4 It Iu Aa3
  cases CI a0 !=0 with
  |true=>rfl
  |false=>
   rw[cond_false,cond_false]
   cases hk:Aak a1 !=0 with
   |true=>rfl
   |false=>rw[cond_false];exact(by simpa using hk:Aak a1=0).symm
 have e0:Ab3 a0 a1=(Ano a0 a1).key:=by
  unfold Ab3 It Iu Ano Aa3
  cases hg:CI a0 !=0 with
  |true=>simp only[cond_true,hg]
  |false=>rw[cond_false,cond_false]
 have e2:Ab5 a0 a1=(Ano a0 a1).cells:=by
  unfold Ab5 It Iu Ano Aa3
  cases hg:CI a0 !=0 with
  |true=>simp only[cond_true,hg]
  |false=>rw[cond_false,cond_false]
 unfold Ab7 Ab6 at h
 rw[e0,e1,e2] at h
 exact h
def Ab8:List A→Nat→Objs→Option BP
 | [y0,y1],nx,o=>match QX .group y0,A3 .str y1 with
  |some a0,some (a1,p1)=>some (1,(Alv a0 a1).pk (AH nx),nx+1,AG nx (Alu a0 a1)++o,p1++(Aew a0 a1))
  |_,_=>none
 |_,_,_=>none
theorem Axj:HO Try.prog 63 Ab8:=fun args nx o k x nx' o' ps h=>by
 unfold Ab8 at h
 split at h<;>first|(cases h;done)|skip
 split at h<;>first|(cases h;done)|skip
 rename_i a0 a1 p1 e0 e1
 cases h
 refine⟨fun hp=>?_,_,rfl⟩
 have q1:=fun p hm=>hp p (List.mem_append.2 (.inl hm))
 have r1:=fun p hm=>hp p (List.mem_append.2 (.inr hm))
 refine Ao (Ai (A0w a0 a1 r1) (Nat.le_refl _) (Af rfl (Af (Ag _ _) Au)) nx o) fun F N R vs hl=>?_
 obtain⟨v0,w0,rfl,h0,hl⟩:=hl.inv
 obtain⟨v1,w1,rfl,h1,hl⟩:=hl.inv
 exact HL.cons (GD e0 h0) (HL.cons (Ar e1 q1 h1) (hl))
noncomputable def Bd4:=B5 63 Ab8 Bd3
theorem A2q:Gg Try.prog Bd4:=Ax Axj A2p
def NA (a0:List Ab) (_a1:ByteArray):List TCell:=List.replicate (↑a0.length:Int).toNat (Ae TC.cell)
def Nz (a0:List Ab) (a1:ByteArray):Bool:=AF a0 (TRow.mk a1 (NA a0 a1)) !=(0:Int)
def UV (a0:List Ab) (a1:ByteArray):TRow:=TRow.mk (bif(Nz a0 a1) then ByteArray.mk #[] else a1) (bif(Nz a0 a1) then[] else(NA a0 a1))
def Aco (a0:List Ab) (a1:ByteArray):Int:=bif(Nz a0 a1) then AF a0 (TRow.mk a1 (NA a0 a1)) else(0:Int)
def Acp (a0:List Ab) (a1:ByteArray):A:=.tup [.agg [.v (.string ((UV a0 a1).key)),.sl .cell ((UV a0 a1).cells)],.v (.int .i64 (Aco a0 a1))]
def Ap2 (_a0:List Ab) (_a1:ByteArray):Objs:=[]
def A1c (a0:List Ab) (_a1:ByteArray):List Prop:=[((0:Int)≤(↑a0.length:Int)∧(↑a0.length:Int)≤(↑a0.length:Int)∧(↑a0.length:Int)≤(549755813888:Int))]
set_option maxRecDepth 100000 in
theorem A1b (a0:List Ab) (a1:ByteArray):Hx (Ay Bd4 L0) 9 62 [.sl .group a0,Aq .str a1] 0 []=some (1,Acp a0 a1,0,Ap2 a0 a1,[((0:Int)≤(↑a0.length:Int)∧(↑a0.length:Int)≤(↑a0.length:Int)∧(↑a0.length:Int)≤(549755813888:Int))]):=by kernel_rfl
set_option maxRecDepth 100000 in
theorem A5e (a0:List Ab) (a1:ByteArray) (hp:∀p∈A1c a0 a1,p):CallOk Try.prog 62 [.sl .group a0,Aq .str a1] 0 [] 1 (Acp a0 a1) 0 (Ap2 a0 a1):=by
 have n0:=N0 hp
 exact AJ (Aw A2q AM) (A1b a0 a1) (Aa n0 Ad)
def Amf (a0:List Ab) (a1:ByteArray):A:=.tup [.agg [.v (.string (Ano a0 a1).key),.sl .cell (Ano a0 a1).cells],.v (.int .i64 (Aa3 a0 a1))]
def Ame (_a0:List Ab) (_a1:ByteArray):Objs:=[]
def Afg (a0:List Ab) (_a1:ByteArray):List Prop:=[Aj a0.length]
theorem Ai8:∀(l:List Ab) (seen:List ByteArray),OR seen l=0→∀g∈l,M9 g.policy=true
 | [],_,_,g,hg=>by cases hg
 | x::r,seen,h,g,hg=>by
  unfold OR at h
  cases h1:(Hm x.name&&M9 x.policy) with
  |false=>rw[h1] at h;cases h
  | true=>
   rw[h1] at h
   cases h2:seen.any (fun s=>s==x.name) with
   |true=>rw[h2] at h;cases h
   |false=>
    rw[h2] at h
    rcases List.mem_cons.1 hg with rfl|hg
    ·exact(Bool.and_eq_true_iff.1 h1).2
    ·exact Ai8 r _ h g hg
theorem A4r {l:List Ab} (h:CI l=0):∀g∈l,M9 g.policy=true:=by
 have h4:=J4 h
 unfold CI at h
 rw[show(l.length==0)=false by simpa using(by omega:l.length≠0),decide_eq_false (show ¬4 <l.length by omega)] at h
 exact Ai8 l [] h
theorem Azm {p:Int} (h:M9 p=true):EZ p Dq=true:=by
 unfold M9 at h
 rcases(by simpa using h:p=1∨p=2) with rfl|rfl<;>rfl
theorem Adj (l:List Ab) (k:ByteArray):AF l ⟨k,List.replicate l.length Dq⟩=Aa3 l k:=by
 unfold AF Aa3 Aak
 cases h:CI l !=0 with
 |true=>rfl
 | false=>
  rw[cond_false,cond_false]
  cases k.size==0 with
  |true=>rfl
  | false=>
   rw[cond_false,cond_false]
   cases decide (32 <k.size) with
   |true=>rfl
   | false=>
    rw[cond_false,cond_false]
    have hl:((TRow.mk k (List.replicate l.length Dq)).cells.length !=l.length)=false:=by simp
    rw[hl,cond_false]
    have ha:(l.zip (TRow.mk k (List.replicate l.length Dq)).cells).all (fun x=>EZ x.1.policy x.2)=true:=by
     rw[List.all_eq_true]
     rintro⟨g,c⟩ hx
     have h1:=List.of_mem_zip hx
     have h2:c=Dq:=List.eq_of_mem_replicate h1.2
     subst h2
     exact Azm (A4r (by simpa using h) g h1.1)
    rw[ha]
    rfl
theorem A1a (a0:List Ab) (a1:ByteArray) (hp:∀p∈Afg a0 a1,p):CallOk Try.prog 62 [.sl .group a0,Aq .str a1] 0 [] 1 (Amf a0 a1) 0 (Ame a0 a1):=by
 have hb:Aj a0.length:=hp _ (List.mem_cons_self ..)
 unfold Aj at hb
 have h:=A5e a0 a1 (Aa ⟨by omega,Int.le_refl _,by omega⟩ Ad)
 have ek:NA a0 a1=List.replicate a0.length Dq:=by unfold NA;rw[Int.toNat_natCast];rfl
 have e1:Aco a0 a1=Aa3 a0 a1:=by
  unfold Aco Nz
  rw[ek,Adj]
  cases hk:Aa3 a0 a1 !=0 with
  |true=>rfl
  |false=>rw[cond_false];exact(by simpa using hk:Aa3 a0 a1=0).symm
 have e0:UV a0 a1=Ano a0 a1:=by
  unfold UV Nz Ano
  rw[ek,Adj]
 unfold Acp at h
 rw[e0,e1] at h
 exact h
def Acq:List A→Nat→Objs→Option BP
 | [y0,y1],nx,o=>match QX .group y0,A3 .str y1 with
  |some a0,some (a1,p1)=>some (1,(Amf a0 a1).pk (AH nx),nx+0,AG nx (Ame a0 a1)++o,p1++(Afg a0 a1))
  |_,_=>none
 |_,_,_=>none
theorem Axy:HO Try.prog 62 Acq:=fun args nx o k x nx' o' ps h=>by
 unfold Acq at h
 split at h<;>first|(cases h;done)|skip
 split at h<;>first|(cases h;done)|skip
 rename_i a0 a1 p1 e0 e1
 cases h
 refine⟨fun hp=>?_,_,rfl⟩
 have q1:=fun p hm=>hp p (List.mem_append.2 (.inl hm))
 have r1:=fun p hm=>hp p (List.mem_append.2 (.inr hm))
 refine Ao (Ai (A1a a0 a1 r1) (Nat.le_refl _) (Af rfl (Af (Ag _ _) Au)) nx o) fun F N R vs hl=>?_
 obtain⟨v0,w0,rfl,h0,hl⟩:=hl.inv
 obtain⟨v1,w1,rfl,h1,hl⟩:=hl.inv
 exact HL.cons (GD e0 h0) (HL.cons (Ar e1 q1 h1) (hl))
noncomputable def Bc1:=B5 62 Acq Bd4
theorem A6r:Gg Try.prog Bc1:=Ax Axy A2q
noncomputable def Ck:=Bc1
theorem Bc2:Gg Try.prog Ck:=A6r
end Go.Proofs.Yteebobbhhgmeiaa
namespace Go.Proofs.Yteebobbhhgmeiaa
open Go.RowKit
def Ana (a b:TVec):Bool:=decide (b.a≤a.a)&&decide (b.b≤a.b)
def NC (p:Int) (c:TCell):Bool:=EZ p c&&DL c&&!c.gone&&Ana c.vec c.dead
def Ax6 (p:Int) (c:TCell):ByteArray:=bif NC p c then c.value else⟨#[]⟩
def Cx (l:List Ab) (cs:List TCell):Nat→List TField
 |0=>[]
 |i+1=>bif NC (l.getD i (Ae TC.group)).policy (cs.getD i (Ae TC.cell)) then Cx l cs i++[⟨(i:Int),Ax6 (l.getD i (Ae TC.group)).policy (cs.getD i (Ae TC.cell))⟩] else Cx l cs i
def Su (l:List Ab) (r:TRow):Bool:=AF l r==0&&!((Cx l r.cells l.length).length==0)
def Aqj (l:List Ab) (r:TRow):ByteArray:=bif Su l r then r.key else⟨#[]⟩
def Aqi (l:List Ab) (r:TRow):List TField:=bif Su l r then Cx l r.cells l.length else[]
def Ai0:List TField→List TField→Bool
 | [],[]=>true
 |x::xs,y::ys=>x.group==y.group&&x.value==y.value&&Ai0 xs ys
 |_,_=>false
def Beh (a b:Dc):Bool:=a.key==b.key&&Ai0 a.fields b.fields
def Ow (a0:Int) (a1:TCell):Bool:=!K2 a0 a1||!Jb a1||a1.3||!Ms a1.2 a1.5
def No (a0:Int) (a1:TCell):ByteArray:=bif(Ow a0 a1) then ByteArray.mk #[] else a1.4
def GX (a0:Int) (a1:TCell):Bool:=bif(Ow a0 a1) then false else true
def Xd (a0:Int) (a1:TCell):A:=.v (.tuple ⟨[.string (No a0 a1),.bool (GX a0 a1)]⟩)
def Xc (_a0:Int) (_a1:TCell):Objs:=[]
def Aeg (_a0:Int) (_a1:TCell):List Prop:=[]
set_option maxRecDepth 100000 in
theorem Aw8 (a0:Int) (a1:TCell):Hx (Ay Ck L0) 9 41 [Aq .i64 a0,Aq .cell a1] 0 []=some (1,Xd a0 a1,0,Xc a0 a1,[]):=by kernel_rfl
set_option maxRecDepth 100000 in
theorem A0l (a0:Int) (a1:TCell) (_hp:∀p∈Aeg a0 a1,p):CallOk Try.prog 41 [Aq .i64 a0,Aq .cell a1] 0 [] 1 (Xd a0 a1) 0 (Xc a0 a1):=by
 exact AJ (Aw Bc2 AM) (Aw8 a0 a1) Ad
def Xe:List A→Nat→Objs→Option BP
 | [y0,y1],nx,o=>match A3 .i64 y0,A3 .cell y1 with
  |some (a0,p0),some (a1,p1)=>some (1,(Xd a0 a1).pk (AH nx),nx+0,AG nx (Xc a0 a1)++o,p0++(p1++(Aeg a0 a1)))
  |_,_=>none
 |_,_,_=>none
theorem Asr:HO Try.prog 41 Xe:=fun args nx o k x nx' o' ps h=>by
 unfold Xe at h
 split at h<;>first|(cases h;done)|skip
 split at h<;>first|(cases h;done)|skip
 rename_i a0 p0 a1 p1 e0 e1
 cases h
 refine⟨fun hp=>?_,_,rfl⟩
 have q0:=fun p hm=>hp p (List.mem_append.2 (.inl hm))
 have r0:=fun p hm=>hp p (List.mem_append.2 (.inr hm))
 have q1:=fun p hm=>r0 p (List.mem_append.2 (.inl hm))
 have r1:=fun p hm=>r0 p (List.mem_append.2 (.inr hm))
 refine Ao (Ai (A0l a0 a1 r1) (Nat.le_refl _) (Af (Ag _ _) (Af (Ag _ _) Au)) nx o) fun F N R vs hl=>?_
 obtain⟨v0,w0,rfl,h0,hl⟩:=hl.inv
 obtain⟨v1,w1,rfl,h1,hl⟩:=hl.inv
 exact HL.cons (Ar e0 q0 h0) (HL.cons (Ar e1 q1 h1) (hl))
noncomputable def A6v:=B5 41 Xe Ck
theorem Aqx:Gg Try.prog A6v:=Ax Asr Bc2
theorem Aef (p:Int) (c:TCell):No p c=Ax6 p c∧GX p c=NC p c:=by
 have hk:Ow p c=!NC p c:=by
  unfold Ow NC Ana Ms
  rw[TS,TW]
  show(!EZ p c||!DL c||c.gone||!(decide (c.vec.a≥c.dead.a)&&decide (c.vec.b≥c.dead.b)))=_
  cases EZ p c<;>cases DL c<;>cases c.gone<;>rfl
 unfold No GX Ax6
 rw[hk]
 cases NC p c<;>exact⟨rfl,rfl⟩
theorem Yg (p:Int) (c:TCell):Lw p c=Ax6 p c∧FQ p c=NC p c:=by
 have hm:∀x y:Int,(min x y==y)=decide (y≤x):=fun x y=>by
  rw[Bool.eq_iff_iff,beq_iff_eq,decide_eq_true_eq];omega
 have hk:Mm p c=!NC p c:=by
  unfold Mm NC Ana IM
  rw[IB,Je]
  have h1:((Iz c.2 c.5).1==c.5.1)=decide (c.dead.a≤c.vec.a):=hm _ _
  have h2:((Iz c.2 c.5).2==c.5.2)=decide (c.dead.b≤c.vec.b):=hm _ _
  rw[h1,h2]
  show(!EZ p c||!DL c||c.gone||!(decide (c.dead.a≤c.vec.a)&&decide (c.dead.b≤c.vec.b)))=_
  cases EZ p c<;>cases DL c<;>cases c.gone<;>rfl
 unfold Lw FQ Ax6
 rw[hk]
 cases NC p c<;>exact⟨rfl,rfl⟩
theorem JA {l:List Ab} {r:TRow} (h:AF l r=0):CI l=0∧r.cells.length=l.length∧r.key.size≠0∧r.key.size≤32∧(l.zip r.cells).all (fun x=>EZ x.1.policy x.2)=true:=by
 unfold AF at h
 cases h1:CI l !=0 with
 |true=>rw[h1,cond_true] at h;rw[h] at h1;cases h1
 | false=>
  rw[h1,cond_false] at h
  cases h2:r.key.size==0 with
  |true=>rw[h2] at h;cases h
  | false=>
   rw[h2,cond_false] at h
   cases h3:decide (32 <r.key.size) with
   |true=>rw[h3] at h;cases h
   | false=>
    rw[h3,cond_false] at h
    cases h4:r.cells.length !=l.length with
    |true=>rw[h4] at h;cases h
    | false=>
     rw[h4,cond_false] at h
     cases h5:(l.zip r.cells).all (fun x=>EZ x.1.policy x.2) with
     |false=>rw[h5] at h;cases h
     |true=>
      have:=of_decide_eq_false h3
      exact⟨by simpa using h1,by simpa using h4,by simpa using h2,by omega,rfl⟩
theorem ST (l:List Ab) (cs:List TCell):∀i,(Cx l cs i).length≤i
 |0=>Nat.le_refl _
 |i+1=>by
  have:=ST l cs i
  unfold Cx
  cases NC (l.getD i (Ae TC.group)).policy (cs.getD i (Ae TC.cell)) with
  |true=>rw[cond_true,List.length_append];simp;omega
  |false=>rw[cond_false];omega
abbrev CY:Type:=(List Ab)×Int×TRow×ByteArray×(List TField)
def Ln (x:CY):St:=⟨53,5,[(0,.sl .group x.1),(3,.own 0 0),(6,.own 2 0),(7,.v (.int .i64 x.2.1))],[(0,some (.box 71 [.v (.string x.2.2.1.key),.sl .cell x.2.2.1.cells])),(2,some (.box 94 [.v (.string x.2.2.2.1),.sq 4])),(4,some (.arr 142 2 (.ty .field x.2.2.2.2)))]⟩
def Nv:St→Option CY
 |⟨53,5,[(0,.sl .group z0),(3,.own 0 0),(6,.own 2 0),(7,.v (.int .i64 z1))],[(0,some (.box 71 [.v (.string z2),.sl .cell z3])),(2,some (.box 94 [.v (.string z4),.sq 4])),(4,some (.arr 142 2 (.ty .field z5)))]⟩=>some (z0,z1,⟨z2,z3⟩,z4,z5)
 |_=>none
theorem Acb:∀s x,Nv s=some x→s=Ln x:=fun s x h=>by
 unfold Nv at h
 split at h
 ·cases h;rfl
 ·cases h
def VW:DS:=⟨4,5,[0,3,6,7],[],[(0,0),(2,2),(7,4)],[0,2,7],[],[0,2,4]⟩
def Aoa:Eh:=⟨[.nilB 2 1 142 .field],[(0,0),(2,2),(3,4)],[0,3,6,7],[0,2,3]⟩
def EG (a0:List Ab) (a1:Int) (_a2:TRow) (_a3:ByteArray) (_a4:List TField):Bool:=!!decide (a1 <(↑a0.length:Int))
def Ahh (a0:List Ab) (a1:Int) (a2:TRow) (a3:ByteArray) (_a4:List TField):ByteArray:=bif GX (a0.getD a1.toNat (Ae TC.group)).2 (a2.2.getD a1.toNat (Ae TC.cell)) then a3 else a3
def Ahi (a0:List Ab) (a1:Int) (a2:TRow) (_a3:ByteArray) (a4:List TField):List TField:=bif GX (a0.getD a1.toNat (Ae TC.group)).2 (a2.2.getD a1.toNat (Ae TC.cell)) then a4++[TField.mk a1 (No (a0.getD a1.toNat (Ae TC.group)).2 (a2.2.getD a1.toNat (Ae TC.cell)))] else a4
def EI (x:CY):CY:=(x.1,IntKind.i64.wrap (x.2.1+(1:Int)),x.2.2.1,Ahh x.1 x.2.1 x.2.2.1 x.2.2.2.1 x.2.2.2.2,Ahi x.1 x.2.1 x.2.2.1 x.2.2.2.1 x.2.2.2.2)
def EH (x:CY):Cnd:=some ((EG x.1 x.2.1 x.2.2.1 x.2.2.2.1 x.2.2.2.2))
def Sh (x:CY):List Prop:=[((EG x.1 x.2.1 x.2.2.1 x.2.2.2.1 x.2.2.2.2)=true→(0:Int)≤x.2.1∧x.2.1 <(↑x.1.length:Int)),((EG x.1 x.2.1 x.2.2.1 x.2.2.2.1 x.2.2.2.2)=true→(0:Int)≤x.2.1∧x.2.1 <(↑x.2.2.1.2.length:Int)),((EG x.1 x.2.1 x.2.2.1 x.2.2.2.1 x.2.2.2.2)=true→GX (x.1.getD x.2.1.toNat (Ae TC.group)).2 (x.2.2.1.2.getD x.2.1.toNat (Ae TC.cell))=true→Aj (x.2.2.2.2.length+(1:Nat)))]
def Hg (x:CY):List Prop:=[((EG x.1 x.2.1 x.2.2.1 x.2.2.2.1 x.2.2.2.2)=true→(0:Int)≤x.2.1∧x.2.1 <(↑x.1.length:Int)),((EG x.1 x.2.1 x.2.2.1 x.2.2.2.1 x.2.2.2.2)=true→(0:Int)≤x.2.1∧x.2.1 <(↑x.2.2.1.2.length:Int)),((EG x.1 x.2.1 x.2.2.1 x.2.2.2.1 x.2.2.2.2)=true→GX (x.1.getD x.2.1.toNat (Ae TC.group)).2 (x.2.2.1.2.getD x.2.1.toNat (Ae TC.cell))=true→Aj (x.2.2.2.2.length+(1:Nat)))]
def QE (x:CY):Bw:=[(some 0,some (!decide (x.2.1 <(↑x.1.length:Int))),⟨53,5,[],[(0,some (.box 71 [.v (.string x.2.2.1.1),.sl .cell x.2.2.1.2])),(2,some (.box 94 [.v (.string x.2.2.2.1),.sq 4])),(4,some (.arr 142 2 (.ty .field x.2.2.2.2)))]⟩)]
def F9 (x:CY):Nat:=((↑x.1.length:Int) - x.2.1).toNat
def Jh (x:CY):CY:=BA EI EH (F9 x) x
set_option maxRecDepth 100000 in
theorem Al0 (a0:List Ab) (a1:Int) (a2:TRow) (a3:ByteArray) (a4:List TField):Ce (Ay A6v L0) 9 (Ah Try.prog 64 0) VW (Ln (a0,a1,a2,a3,a4))=some (Sh (a0,a1,a2,a3,a4),QE (a0,a1,a2,a3,a4),EH (a0,a1,a2,a3,a4),Ln (EI (a0,a1,a2,a3,a4))):=by kernel_rfl
set_option maxRecDepth 100000 in
theorem Al1 (a0:List Ab) (a1:Int) (a2:TRow) (a3:ByteArray) (a4:List TField) (hp:∀p∈Hg (a0,a1,a2,a3,a4),p):∀p∈Sh (a0,a1,a2,a3,a4),p:=by
 have n0:=N0 hp
 have n1:=N0 (N1 hp)
 have n2:=N0 (N1 (N1 hp))
 exact(Aa n0 (Aa n1 (Aa n2 Ad)))
noncomputable def Si:=HZ (Ay A6v L0) (Ah Try.prog 64 0) VW Aoa Nv F9 EI EH Hg QE
theorem Ahj:∀s b ps outs,Si s=some (b,ps,outs)→Wf s ⟨ps,outs,none⟩∧BY (Ay C0 L0) b s ps outs:=
 BL (T:=Ln) Aqx AM (u:=9) (by kernel_rfl) (by decide) (fun⟨a0,a1,a2,a3,a4⟩=>Al0 a0 a1 a2 a3 a4) (fun⟨a0,a1,a2,a3,a4⟩=>Al1 a0 a1 a2 a3 a4) Acb (fun _=>AV (n:=53) rfl) fun _ _=>rfl
noncomputable def VV:=EO 0 Si L0
theorem Ahg:Ht VV:=Bf Ahj AM
def Hr (a0:List Ab) (a1:TRow):Bool:=AF a0 a1 !=(0:Int)
def OB (a0:List Ab) (a1:TRow):Bool:=(↑(Jh (a0,(0:Int),a1,a1.1,[])).snd.snd.snd.snd.length:Int)==(0:Int)
def Xy (a0:List Ab) (a1:TRow):ByteArray:=bif(Hr a0 a1) then ByteArray.mk #[] else bif(OB a0 a1) then ByteArray.mk #[] else(Jh (a0,(0:Int),a1,a1.1,[])).snd.snd.snd.fst
def Xz (a0:List Ab) (a1:TRow):Bool:=bif(Hr a0 a1) then false else bif(OB a0 a1) then false else true
def XA (a0:List Ab) (a1:TRow):List TField:=bif(Hr a0 a1) then[] else bif(OB a0 a1) then[] else(Jh (a0,(0:Int),a1,a1.1,[])).snd.snd.snd.snd
def XC (a0:List Ab) (a1:TRow):A:=.tup [.agg [.v (.string (Xy a0 a1)),.sq 0],.v (.bool (Xz a0 a1))]
def XB (a0:List Ab) (a1:TRow):Objs:=[(0,some (.arr 142 2 (.ty .field (XA a0 a1))))]
def Axo (a0:List Ab) (a1:TRow):List Prop:=[(∀(g:Ab),g∈a0→AC g.1.size),((!(Hr a0 a1))=true→AE EI EH Hg (F9 (a0,(0:Int),a1,a1.1,[])) (a0,(0:Int),a1,a1.1,[]))]
set_option maxRecDepth 100000 in
theorem Axn (a0:List Ab) (a1:TRow):Hx (Ay A6v VV) 9 64 [.sl .group a0,Aq .row a1] 0 []=some (1,XC a0 a1,1,XB a0 a1,[(∀(g:Ab),g∈a0→AC g.1.size),((!(Hr a0 a1))=true→Ah Try.prog (64:FuncId) (0:Nat)=Ah Try.prog (64:FuncId) (0:Nat)),((!(Hr a0 a1))=true→AE EI EH Hg (F9 (a0,(0:Int),a1,a1.1,[])) (a0,(0:Int),a1,a1.1,[]))]):=by kernel_rfl
set_option maxRecDepth 100000 in
theorem A00 (a0:List Ab) (a1:TRow) (hp:∀p∈Axo a0 a1,p):CallOk Try.prog 64 [.sl .group a0,Aq .row a1] 0 [] 1 (XC a0 a1) 1 (XB a0 a1):=by
 have n0:=N0 hp
 have n1:((!(Hr a0 a1))=true→Ah Try.prog (64:FuncId) (0:Nat)=Ah Try.prog (64:FuncId) (0:Nat)):=by intros;rfl
 have n2:=N0 (N1 hp)
 exact AJ (Aw Aqx Ahg) (Axn a0 a1) (Aa n0 (Aa n1 (Aa n2 Ad)))
def Ae2 (a0:List Ab) (a1:TRow):A:=.tup [.agg [.v (.string (Aqj a0 a1)),.sq 0],.v (.bool (Su a0 a1))]
def Ae1 (a0:List Ab) (a1:TRow):Objs:=[(0,some (.arr 142 2 (.ty .field (Aqi a0 a1))))]
def Zs (a0:List Ab) (_a1:TRow):List Prop:=[∀g∈a0,AC g.name.size]
theorem VX (l:List Ab) (r:TRow) (h0:AF l r=0):
  AE EI EH Hg (F9 (l,0,r,r.1,[])) (l,0,r,r.1,[])∧Jh (l,0,r,r.1,[])=(l,(l.length:Int),r,r.1,Cx l r.cells l.length):=by
 obtain⟨hp,hlen,_⟩:=JA h0
 have hl4:=(J4 hp).2
 obtain⟨h1,k,hk,hx,_,hst,_⟩:=JJ (fun i=>((l,(i:Int),r,r.1,Cx l r.cells i):CY)) l.length (fun _=>false) EI EH Hg (F9 (l,0,r,r.1,[])) (l,0,r,r.1,[]) rfl (by show l.length≤((l.length:Int) - 0).toNat;omega)
  (fun i _ _=>by
   show(!!decide ((i:Int) <(l.length:Int)))=_
   rw[nn,PE,Bool.not_false,Bool.and_true])
  (fun i hi _=>by
   have hs:=Aef (l.getD i (Ae TC.group)).2 (r.2.getD i (Ae TC.cell))
   show(l,IntKind.i64.wrap ((i:Int)+1),r,(bif GX (l.getD ((i:Int)).toNat (Ae TC.group)).2 (r.2.getD ((i:Int)).toNat (Ae TC.cell)) then r.1 else r.1),(bif GX (l.getD ((i:Int)).toNat (Ae TC.group)).2 (r.2.getD ((i:Int)).toNat (Ae TC.cell)) then Cx l r.cells i++[TField.mk (i:Int) (No (l.getD ((i:Int)).toNat (Ae TC.group)).2 (r.2.getD ((i:Int)).toNat (Ae TC.cell)))] else Cx l r.cells i))=(l,((i+1:Nat):Int),r,r.1,Cx l r.cells (i+1))
   rw[FS (by omega),Int.toNat_natCast,hs.1,hs.2]
   have:∀b:Bool,(bif b then r.1 else r.1)=r.1:=fun b=>by cases b<;>rfl
   rw[this]
   rfl)
  (fun i hi _=>by
   have hin:(!!decide ((i:Int) <(l.length:Int)))=true→(i:Int) <(l.length:Int):=fun h=>by rw[nn] at h;exact of_decide_eq_true h
   exact Aa (fun h=>⟨by show(0:Int)≤(i:Int);omega,hin h⟩) (Aa (fun h=>⟨by show(0:Int)≤(i:Int);omega,by have:=hin h;show(i:Int) <(r.cells.length:Int);omega⟩) (Aa (fun _ _=>by
    have:=ST l r.cells i
    show Aj ((Cx l r.cells i).length+1)
    unfold Aj;omega) Ad)))
 have hkn:k=l.length:=by
  rcases Nat.lt_or_ge k l.length with h|h
  ·exact absurd (hst h) (by decide)
  ·omega
 subst hkn
 exact⟨h1,hx⟩
theorem Axm (a0:List Ab) (a1:TRow) (hp:∀p∈Zs a0 a1,p):CallOk Try.prog 64 [.sl .group a0,Aq .row a1] 0 [] 1 (Ae2 a0 a1) 1 (Ae1 a0 a1):=by
 have hb:∀g∈a0,AC g.name.size:=hp _ (List.mem_cons_self ..)
 have hz:(!(AF a0 a1 !=0))=true→AF a0 a1=0:=fun h=>by simpa using h
 have h:=A00 a0 a1 (Aa hb (Aa (fun h1=>(VX a0 a1 (hz h1)).1) Ad))
 have hk1:Hr a0 a1=(AF a0 a1 !=0):=rfl
 have e:Xy a0 a1=Aqj a0 a1∧Xz a0 a1=Su a0 a1∧XA a0 a1=Aqi a0 a1:=by
  unfold Xy Xz XA Aqj Aqi
  have hv:Su a0 a1=(AF a0 a1==0&&!((Cx a0 a1.cells a0.length).length==0)):=rfl
  cases hg:AF a0 a1 !=0 with
  | true=>
   rw[hk1,hg]
   have:Su a0 a1=false:=by
    rw[hv,show(AF a0 a1==0)=false by simpa using hg]
    rfl
   rw[this]
   exact⟨rfl,rfl,rfl⟩
  |false=>
   have h0:AF a0 a1=0:=by simpa using hg
   unfold OB
   rw[hk1,hg,(VX a0 a1 h0).2]
   have:Su a0 a1=!((Cx a0 a1.cells a0.length).length==0):=by rw[hv,h0];rfl
   rw[this]
   show(bif((Cx a0 a1.cells a0.length).length:Int)==0 then _ else _)=_∧(bif((Cx a0 a1.cells a0.length).length:Int)==0 then _ else _)=_∧(bif((Cx a0 a1.cells a0.length).length:Int)==0 then _ else _)=_
   rw[Ac4]
   cases(Cx a0 a1.cells a0.length).length==0<;>exact⟨rfl,rfl,rfl⟩
 unfold XC XB at h
 rw[e.1,e.2.1,e.2.2] at h
 exact h
def XD:List A→Nat→Objs→Option BP
 | [y0,y1],nx,o=>match QX .group y0,A3 .row y1 with
  |some a0,some (a1,p1)=>some (1,(Ae2 a0 a1).pk (AH nx),nx+1,AG nx (Ae1 a0 a1)++o,p1++(Zs a0 a1))
  |_,_=>none
 |_,_,_=>none
theorem As3:HO Try.prog 64 XD:=fun args nx o k x nx' o' ps h=>by
 unfold XD at h
 split at h<;>first|(cases h;done)|skip
 split at h<;>first|(cases h;done)|skip
 rename_i a0 a1 p1 e0 e1
 cases h
 refine⟨fun hp=>?_,_,rfl⟩
 have q1:=fun p hm=>hp p (List.mem_append.2 (.inl hm))
 have r1:=fun p hm=>hp p (List.mem_append.2 (.inr hm))
 refine Ao (Ai (Axm a0 a1 r1) (Nat.le_refl _) (Af rfl (Af (Ag _ _) Au)) nx o) fun F N R vs hl=>?_
 obtain⟨v0,w0,rfl,h0,hl⟩:=hl.inv
 obtain⟨v1,w1,rfl,h1,hl⟩:=hl.inv
 exact HL.cons (GD e0 h0) (HL.cons (Ar e1 q1 h1) (hl))
noncomputable def A6w:=B5 64 XD A6v
theorem Aqy:Gg Try.prog A6w:=Ax As3 Aqx
abbrev C1:Type:=(List Ab)×Int×Int×TRow×ByteArray×(List TField)
def Lq (x:C1):St:=⟨53,5,[(3,.own 0 0),(6,.own 2 0),(19,.sl .group x.1),(20,.v (.int .i64 x.2.1)),(21,.v (.int .i64 x.2.2.1))],[(0,some (.box 71 [.v (.string x.2.2.2.1.key),.sl .cell x.2.2.2.1.cells])),(2,some (.box 94 [.v (.string x.2.2.2.2.1),.sq 4])),(4,some (.arr 142 2 (.ty .field x.2.2.2.2.2)))]⟩
def NB:St→Option C1
 |⟨53,5,[(3,.own 0 0),(6,.own 2 0),(19,.sl .group z0),(20,.v (.int .i64 z1)),(21,.v (.int .i64 z2))],[(0,some (.box 71 [.v (.string z3),.sl .cell z4])),(2,some (.box 94 [.v (.string z5),.sq 4])),(4,some (.arr 142 2 (.ty .field z6)))]⟩=>some (z0,z1,z2,⟨z3,z4⟩,z5,z6)
 |_=>none
theorem Acs:∀s x,NB s=some x→s=Lq x:=fun s x h=>by
 unfold NB at h
 split at h
 ·cases h;rfl
 ·cases h
def V8:DS:=⟨4,5,[3,6,19,20,21],[],[(0,0),(2,2),(8,4)],[0,2,8],[],[0,2,4]⟩
def Aof:Eh:=⟨[.nilB 2 1 142 .field],[(0,0),(2,2),(3,4)],[3,6,19,20,21],[0,2,3]⟩
def Ahy (a0:List Ab) (_a1:Int) (a2:Int) (a3:TRow) (a4:ByteArray) (_a5:List TField):ByteArray:=bif FQ (a0.getD a2.toNat (Ae TC.group)).2 (a3.2.getD a2.toNat (Ae TC.cell)) then a4 else a4
def Ahz (a0:List Ab) (_a1:Int) (a2:Int) (a3:TRow) (_a4:ByteArray) (a5:List TField):List TField:=bif FQ (a0.getD a2.toNat (Ae TC.group)).2 (a3.2.getD a2.toNat (Ae TC.cell)) then a5++[TField.mk a2 (Lw (a0.getD a2.toNat (Ae TC.group)).2 (a3.2.getD a2.toNat (Ae TC.cell)))] else a5
def EN (x:C1):C1:=(x.1,x.2.1,IntKind.i64.wrap (x.2.2.1+(1:Int)),x.2.2.2.1,Ahy x.1 x.2.1 x.2.2.1 x.2.2.2.1 x.2.2.2.2.1 x.2.2.2.2.2,Ahz x.1 x.2.1 x.2.2.1 x.2.2.2.1 x.2.2.2.2.1 x.2.2.2.2.2)
def EM (x:C1):Cnd:=some (!!decide (x.2.2.1 <x.2.1))
def Sn (x:C1):List Prop:=[((!!decide (x.2.2.1 <x.2.1))=true→(0:Int)≤x.2.2.1∧x.2.2.1 <(↑x.1.length:Int)),((!!decide (x.2.2.1 <x.2.1))=true→(0:Int)≤x.2.2.1∧x.2.2.1 <(↑x.2.2.2.1.2.length:Int)),((!!decide (x.2.2.1 <x.2.1))=true→FQ (x.1.getD x.2.2.1.toNat (Ae TC.group)).2 (x.2.2.2.1.2.getD x.2.2.1.toNat (Ae TC.cell))=true→Aj (x.2.2.2.2.2.length+(1:Nat)))]
def Hk (x:C1):List Prop:=[((!!decide (x.2.2.1 <x.2.1))=true→(0:Int)≤x.2.2.1∧x.2.2.1 <(↑x.1.length:Int)),((!!decide (x.2.2.1 <x.2.1))=true→(0:Int)≤x.2.2.1∧x.2.2.1 <(↑x.2.2.2.1.2.length:Int)),((!!decide (x.2.2.1 <x.2.1))=true→FQ (x.1.getD x.2.2.1.toNat (Ae TC.group)).2 (x.2.2.2.1.2.getD x.2.2.1.toNat (Ae TC.cell))=true→Aj (x.2.2.2.2.2.length+(1:Nat)))]
def QQ (x:C1):Bw:=[(some 0,some (!decide (x.2.2.1 <x.2.1)),⟨53,5,[],[(0,some (.box 71 [.v (.string x.2.2.2.1.1),.sl .cell x.2.2.2.1.2])),(2,some (.box 94 [.v (.string x.2.2.2.2.1),.sq 4])),(4,some (.arr 142 2 (.ty .field x.2.2.2.2.2)))]⟩)]
def Gf (x:C1):Nat:=(x.2.1 - x.2.2.1).toNat
def Jj (x:C1):C1:=BA EN EM (Gf x) x
set_option maxRecDepth 100000 in
theorem Amh (a0:List Ab) (a1:Int) (a2:Int) (a3:TRow) (a4:ByteArray) (a5:List TField):Ce (Ay A6w L0) 9 (Ah Try.prog 58 0) V8 (Lq (a0,a1,a2,a3,a4,a5))=some (Sn (a0,a1,a2,a3,a4,a5),QQ (a0,a1,a2,a3,a4,a5),EM (a0,a1,a2,a3,a4,a5),Lq (EN (a0,a1,a2,a3,a4,a5))):=by kernel_rfl
set_option maxRecDepth 100000 in
theorem Ami (a0:List Ab) (a1:Int) (a2:Int) (a3:TRow) (a4:ByteArray) (a5:List TField) (hp:∀p∈Hk (a0,a1,a2,a3,a4,a5),p):∀p∈Sn (a0,a1,a2,a3,a4,a5),p:=by
 have n0:=N0 hp
 have n1:=N0 (N1 hp)
 have n2:=N0 (N1 (N1 hp))
 exact(Aa n0 (Aa n1 (Aa n2 Ad)))
noncomputable def So:=HZ (Ay A6w L0) (Ah Try.prog 58 0) V8 Aof NB Gf EN EM Hk QQ
theorem Ah0:∀s b ps outs,So s=some (b,ps,outs)→Wf s ⟨ps,outs,none⟩∧BY (Ay C0 L0) b s ps outs:=
 BL (T:=Lq) Aqy AM (u:=9) (by kernel_rfl) (by decide) (fun⟨a0,a1,a2,a3,a4,a5⟩=>Amh a0 a1 a2 a3 a4 a5) (fun⟨a0,a1,a2,a3,a4,a5⟩=>Ami a0 a1 a2 a3 a4 a5) Acs (fun _=>AV (n:=53) rfl) fun _ _=>rfl
noncomputable def V7:=EO 0 So L0
theorem Ahx:Ht V7:=Bf Ah0 AM
def Hs (a0:List Ab) (a1:TRow):Bool:=AF a0 a1 !=(0:Int)
def OI (a0:List Ab) (a1:TRow):Bool:=(↑(Jj (a0,(↑a0.length:Int),(0:Int),a1,a1.1,[])).snd.snd.snd.snd.snd.length:Int)==(0:Int)
def XL (a0:List Ab) (a1:TRow):ByteArray:=bif(Hs a0 a1) then ByteArray.mk #[] else bif(OI a0 a1) then ByteArray.mk #[] else(Jj (a0,(↑a0.length:Int),(0:Int),a1,a1.1,[])).snd.snd.snd.snd.fst
def XM (a0:List Ab) (a1:TRow):Bool:=bif(Hs a0 a1) then false else bif(OI a0 a1) then false else true
def XN (a0:List Ab) (a1:TRow):List TField:=bif(Hs a0 a1) then[] else bif(OI a0 a1) then[] else(Jj (a0,(↑a0.length:Int),(0:Int),a1,a1.1,[])).snd.snd.snd.snd.snd
def XP (a0:List Ab) (a1:TRow):A:=.tup [.agg [.v (.string (XL a0 a1)),.sq 0],.v (.bool (XM a0 a1))]
def XO (a0:List Ab) (a1:TRow):Objs:=[(0,some (.arr 142 2 (.ty .field (XN a0 a1))))]
def Ax2 (a0:List Ab) (a1:TRow):List Prop:=[((!(Hs a0 a1))=true→AE EN EM Hk (Gf (a0,(↑a0.length:Int),(0:Int),a1,a1.1,[])) (a0,(↑a0.length:Int),(0:Int),a1,a1.1,[]))]
set_option maxRecDepth 100000 in
theorem Ax1 (a0:List Ab) (a1:TRow):Hx (Ay A6w V7) 9 58 [.sl .group a0,Aq .row a1] 0 []=some (1,XP a0 a1,1,XO a0 a1,[((!(Hs a0 a1))=true→Ah Try.prog (58:FuncId) (0:Nat)=Ah Try.prog (58:FuncId) (0:Nat)),((!(Hs a0 a1))=true→AE EN EM Hk (Gf (a0,(↑a0.length:Int),(0:Int),a1,a1.1,[])) (a0,(↑a0.length:Int),(0:Int),a1,a1.1,[]))]):=by kernel_rfl
set_option maxRecDepth 100000 in
theorem A1g (a0:List Ab) (a1:TRow) (hp:∀p∈Ax2 a0 a1,p):CallOk Try.prog 58 [.sl .group a0,Aq .row a1] 0 [] 1 (XP a0 a1) 1 (XO a0 a1):=by
 have n0:((!(Hs a0 a1))=true→Ah Try.prog (58:FuncId) (0:Nat)=Ah Try.prog (58:FuncId) (0:Nat)):=by intros;rfl
 have n1:=N0 hp
 exact AJ (Aw Aqy Ahx) (Ax1 a0 a1) (Aa n0 (Aa n1 Ad))
def Afj (a0:List Ab) (a1:TRow):A:=.tup [.agg [.v (.string (Aqj a0 a1)),.sq 0],.v (.bool (Su a0 a1))]
def Afi (a0:List Ab) (a1:TRow):Objs:=[(0,some (.arr 142 2 (.ty .field (Aqi a0 a1))))]
def ZF (_a0:List Ab) (_a1:TRow):List Prop:=[]
theorem V9 (l:List Ab) (r:TRow) (h0:AF l r=0):
  AE EN EM Hk (Gf (l,(l.length:Int),0,r,r.1,[])) (l,(l.length:Int),0,r,r.1,[])∧Jj (l,(l.length:Int),0,r,r.1,[])=(l,(l.length:Int),(l.length:Int),r,r.1,Cx l r.cells l.length):=by
 obtain⟨hp,hlen,_⟩:=JA h0
 have hl4:=(J4 hp).2
 obtain⟨h1,k,hk,hx,_,hst,_⟩:=JJ (fun i=>((l,(l.length:Int),(i:Int),r,r.1,Cx l r.cells i):C1)) l.length (fun _=>false) EN EM Hk (Gf (l,(l.length:Int),0,r,r.1,[])) (l,(l.length:Int),0,r,r.1,[]) rfl (by show l.length≤((l.length:Int) - 0).toNat;omega)
  (fun i _ _=>by
   show(!!decide ((i:Int) <(l.length:Int)))=_
   rw[nn,PE,Bool.not_false,Bool.and_true])
  (fun i hi _=>by
   have hs:=Yg (l.getD i (Ae TC.group)).2 (r.2.getD i (Ae TC.cell))
   show(l,(l.length:Int),IntKind.i64.wrap ((i:Int)+1),r,(bif FQ (l.getD ((i:Int)).toNat (Ae TC.group)).2 (r.2.getD ((i:Int)).toNat (Ae TC.cell)) then r.1 else r.1),(bif FQ (l.getD ((i:Int)).toNat (Ae TC.group)).2 (r.2.getD ((i:Int)).toNat (Ae TC.cell)) then Cx l r.cells i++[TField.mk (i:Int) (Lw (l.getD ((i:Int)).toNat (Ae TC.group)).2 (r.2.getD ((i:Int)).toNat (Ae TC.cell)))] else Cx l r.cells i))=(l,(l.length:Int),((i+1:Nat):Int),r,r.1,Cx l r.cells (i+1))
   rw[FS (by omega),Int.toNat_natCast,hs.1,hs.2]
   have:∀b:Bool,(bif b then r.1 else r.1)=r.1:=fun b=>by cases b<;>rfl
   rw[this]
   rfl)
  (fun i hi _=>by
   have hin:(!!decide ((i:Int) <(l.length:Int)))=true→(i:Int) <(l.length:Int):=fun h=>by rw[nn] at h;exact of_decide_eq_true h
   exact Aa (fun h=>⟨by show(0:Int)≤(i:Int);omega,hin h⟩) (Aa (fun h=>⟨by show(0:Int)≤(i:Int);omega,by have:=hin h;show(i:Int) <(r.cells.length:Int);omega⟩) (Aa (fun _ _=>by
    have:=ST l r.cells i
    show Aj ((Cx l r.cells i).length+1)
    unfold Aj;omega) Ad)))
 have hkn:k=l.length:=by
  rcases Nat.lt_or_ge k l.length with h|h
  ·exact absurd (hst h) (by decide)
  ·omega
 subst hkn
 exact⟨h1,hx⟩
theorem Ax0 (a0:List Ab) (a1:TRow) (_hp:∀p∈ZF a0 a1,p):CallOk Try.prog 58 [.sl .group a0,Aq .row a1] 0 [] 1 (Afj a0 a1) 1 (Afi a0 a1):=by
 have hz:(!(AF a0 a1 !=0))=true→AF a0 a1=0:=fun h=>by simpa using h
 have h:=A1g a0 a1 (Aa (fun h1=>(V9 a0 a1 (hz h1)).1) Ad)
 have hk1:Hs a0 a1=(AF a0 a1 !=0):=rfl
 have e:XL a0 a1=Aqj a0 a1∧XM a0 a1=Su a0 a1∧XN a0 a1=Aqi a0 a1:=by
  unfold XL XM XN Aqj Aqi
  have hv:Su a0 a1=(AF a0 a1==0&&!((Cx a0 a1.cells a0.length).length==0)):=rfl
  cases hg:AF a0 a1 !=0 with
  | true=>
   rw[hk1,hg]
   have:Su a0 a1=false:=by
    rw[hv,show(AF a0 a1==0)=false by simpa using hg]
    rfl
   rw[this]
   exact⟨rfl,rfl,rfl⟩
  |false=>
   have h0:AF a0 a1=0:=by simpa using hg
   unfold OI
   rw[hk1,hg,(V9 a0 a1 h0).2]
   have:Su a0 a1=!((Cx a0 a1.cells a0.length).length==0):=by rw[hv,h0];rfl
   rw[this]
   show(bif((Cx a0 a1.cells a0.length).length:Int)==0 then _ else _)=_∧(bif((Cx a0 a1.cells a0.length).length:Int)==0 then _ else _)=_∧(bif((Cx a0 a1.cells a0.length).length:Int)==0 then _ else _)=_
   rw[Ac4]
   cases(Cx a0 a1.cells a0.length).length==0<;>exact⟨rfl,rfl,rfl⟩
 unfold XP XO at h
 rw[e.1,e.2.1,e.2.2] at h
 exact h
def XQ:List A→Nat→Objs→Option BP
 | [y0,y1],nx,o=>match QX .group y0,A3 .row y1 with
  |some a0,some (a1,p1)=>some (1,(Afj a0 a1).pk (AH nx),nx+1,AG nx (Afi a0 a1)++o,p1++(ZF a0 a1))
  |_,_=>none
 |_,_,_=>none
theorem Atg:HO Try.prog 58 XQ:=fun args nx o k x nx' o' ps h=>by
 unfold XQ at h
 split at h<;>first|(cases h;done)|skip
 split at h<;>first|(cases h;done)|skip
 rename_i a0 a1 p1 e0 e1
 cases h
 refine⟨fun hp=>?_,_,rfl⟩
 have q1:=fun p hm=>hp p (List.mem_append.2 (.inl hm))
 have r1:=fun p hm=>hp p (List.mem_append.2 (.inr hm))
 refine Ao (Ai (Ax0 a0 a1 r1) (Nat.le_refl _) (Af rfl (Af (Ag _ _) Au)) nx o) fun F N R vs hl=>?_
 obtain⟨v0,w0,rfl,h0,hl⟩:=hl.inv
 obtain⟨v1,w1,rfl,h1,hl⟩:=hl.inv
 exact HL.cons (GD e0 h0) (HL.cons (Ar e1 q1 h1) (hl))
noncomputable def A6x:=B5 58 XQ A6w
theorem Aqz:Gg Try.prog A6x:=Ax Atg Aqy
abbrev Bh:Type:=Int×Dc×Dc
def H6 (x:Bh):St:=⟨38,2,[(2,.own 0 0),(3,.own 1 0),(5,.v (.int .i64 x.1))],[(0,some (.box 94 [.v (.string x.2.1.key),.sl .field x.2.1.fields])),(1,some (.box 94 [.v (.string x.2.2.key),.sl .field x.2.2.fields]))]⟩
def Jt:St→Option Bh
 |⟨38,2,[(2,.own 0 0),(3,.own 1 0),(5,.v (.int .i64 z0))],[(0,some (.box 94 [.v (.string z1),.sl .field z2])),(1,some (.box 94 [.v (.string z3),.sl .field z4]))]⟩=>some (z0,⟨z1,z2⟩,⟨z3,z4⟩)
 |_=>none
theorem Ua:∀s x,Jt s=some x→s=H6 x:=fun s x h=>by
 unfold Jt at h
 split at h
 ·cases h;rfl
 ·cases h
def OA:DS:=⟨2,2,[2,3,5],[],[(0,0),(1,1)],[0,1],[4],[0,1]⟩
def Zq:Eh:=⟨[],[(0,0),(1,1)],[2,3,5],[0,1]⟩
def CT (a0:Int) (a1:Dc) (_a2:Dc):Bool:=!!decide (a0 <(↑a1.2.length:Int))
def BZ (a0:Int) (a1:Dc) (a2:Dc):Bool:=(CT a0 a1 a2)&&!((a1.2.getD a0.toNat (Ae TC.field)).1==(a2.2.getD a0.toNat (Ae TC.field)).1&&(a1.2.getD a0.toNat (Ae TC.field)).2.toList==(a2.2.getD a0.toNat (Ae TC.field)).2.toList)
def Vj (a0:Int) (a1:Dc) (a2:Dc):Bool:=(CT a0 a1 a2)&&!(BZ a0 a1 a2)
def CV (x:Bh):Bh:=(IntKind.i64.wrap (x.1+(1:Int)),x.2.1,x.2.2)
def CU (x:Bh):Cnd:=some (Vj x.1 x.2.1 x.2.2)
def Mk (x:Bh):List Prop:=[((CT x.1 x.2.1 x.2.2)=true→(0:Int)≤x.1∧x.1 <(↑x.2.1.2.length:Int)),((CT x.1 x.2.1 x.2.2)=true→(0:Int)≤x.1∧x.1 <(↑x.2.2.2.length:Int))]
def EC (x:Bh):List Prop:=[((CT x.1 x.2.1 x.2.2)=true→(0:Int)≤x.1∧x.1 <(↑x.2.1.2.length:Int)),((CT x.1 x.2.1 x.2.2)=true→(0:Int)≤x.1∧x.1 <(↑x.2.2.2.length:Int))]
def LK (x:Bh):Bw:=[(some 0,some (!decide (x.1 <(↑x.2.1.2.length:Int))),⟨38,2,[(4,.dead)],[(0,some (.box 94 [.v (.string x.2.1.1),.sl .field x.2.1.2])),(1,some (.box 94 [.v (.string x.2.2.1),.sl .field x.2.2.2]))]⟩),(none,some ((BZ x.1 x.2.1 x.2.2)),⟨38,2,[(4,.v (.bool (false)))],[(0,some (.box 94 [.v (.string x.2.1.1),.sl .field x.2.1.2])),(1,some (.box 94 [.v (.string x.2.2.1),.sl .field x.2.2.2]))]⟩)]
def DG (x:Bh):Nat:=((↑x.2.1.2.length:Int) - x.1).toNat
def Vl (x:Bh):Bh:=BA CV CU (DG x) x
set_option maxRecDepth 100000 in
theorem Xs (a0:Int) (a1:Dc) (a2:Dc):Ce (Ay A6x L0) 9 (Ah Try.prog 59 0) OA (H6 (a0,a1,a2))=some (Mk (a0,a1,a2),LK (a0,a1,a2),CU (a0,a1,a2),H6 (CV (a0,a1,a2))):=by kernel_rfl
set_option maxRecDepth 100000 in
theorem Xu (a0:Int) (a1:Dc) (a2:Dc) (hp:∀p∈EC (a0,a1,a2),p):∀p∈Mk (a0,a1,a2),p:=by
 have n0:=N0 hp
 have n1:=N0 (N1 hp)
 exact(Aa n0 (Aa n1 Ad))
noncomputable def Ml:=HZ (Ay A6x L0) (Ah Try.prog 59 0) OA Zq Jt DG CV CU EC LK
theorem Vk:∀s b ps outs,Ml s=some (b,ps,outs)→Wf s ⟨ps,outs,none⟩∧BY (Ay C0 L0) b s ps outs:=
 BL (T:=H6) Aqz AM (u:=9) (by kernel_rfl) (by decide) (fun⟨a0,a1,a2⟩=>Xs a0 a1 a2) (fun⟨a0,a1,a2⟩=>Xu a0 a1 a2) Ua (fun _=>AV (n:=38) rfl) fun _ _=>rfl
noncomputable def Oz:=EO 0 Ml L0
theorem Vi:Ht Oz:=Bf Vk AM
def FD (a0:Dc) (a1:Dc):Bh:=Vl ((0:Int),a0,a1)
def Ee (a0:Dc) (a1:Dc):Bool:=!a0.1.toList==a1.1.toList||(↑a0.2.length:Int) !=(↑a1.2.length:Int)
def Nr (a0:Dc) (a1:Dc):Bool:=bif(Ee a0 a1) then false else bif BZ (FD a0 a1).fst (FD a0 a1).snd.fst (FD a0 a1).snd.snd then false else true
def Ns (a0:Dc) (a1:Dc):A:=.v (.bool (Nr a0 a1))
def Ub (_a0:Dc) (_a1:Dc):Objs:=[]
def Sd (a0:Dc) (a1:Dc):List Prop:=[((!(Ee a0 a1))=true→AE CV CU EC (DG ((0:Int),a0,a1)) ((0:Int),a0,a1))]
set_option maxRecDepth 100000 in
theorem Ahb (a0:Dc) (a1:Dc):Hx (Ay A6x Oz) 9 59 [Aq .view a0,Aq .view a1] 0 []=some (1,Ns a0 a1,0,Ub a0 a1,[((!(Ee a0 a1))=true→Ah Try.prog (59:FuncId) (0:Nat)=Ah Try.prog (59:FuncId) (0:Nat)),((!(Ee a0 a1))=true→AE CV CU EC (DG ((0:Int),a0,a1)) ((0:Int),a0,a1))]):=by kernel_rfl
set_option maxRecDepth 100000 in
theorem Alw (a0:Dc) (a1:Dc) (hp:∀p∈Sd a0 a1,p):CallOk Try.prog 59 [Aq .view a0,Aq .view a1] 0 [] 1 (Ns a0 a1) 0 (Ub a0 a1):=by
 have n0:((!(Ee a0 a1))=true→Ah Try.prog (59:FuncId) (0:Nat)=Ah Try.prog (59:FuncId) (0:Nat)):=by intros;rfl
 have n1:=N0 hp
 exact AJ (Aw Aqz Vi) (Ahb a0 a1) (Aa n0 (Aa n1 Ad))
def Se (a0:Dc) (a1:Dc):A:=.v (.bool (Beh a0 a1))
def Sc (_a0:Dc) (_a1:Dc):Objs:=[]
def QC (a0:Dc) (_a1:Dc):List Prop:=[AC a0.fields.length]
theorem Ai1:∀{a b:List TField},Ai0 a b=true↔a=b
 | [],[]=>by simp[Ai0]
 | [],_::_=>by simp[Ai0]
 |_::_,[]=>by simp[Ai0]
 |⟨g,v⟩::xs,⟨g',v'⟩::ys=>by
  unfold Ai0
  rw[Bool.and_eq_true,Bool.and_eq_true,beq_iff_eq,beq_iff_eq,Ai1]
  simp
theorem Beg:∀(a b:List TField),a.length=b.length→Ai0 a b=Sv a.length (fun i=>(a.getD i (Ae TC.field)).1==(b.getD i (Ae TC.field)).1&&(a.getD i (Ae TC.field)).2==(b.getD i (Ae TC.field)).2):=fun a b h=>by
 rw[Bool.eq_iff_iff,Ai1,Lt]
 constructor
 ·rintro rfl i _
  simp
 ·intro g
  refine List.ext_getElem h fun i h1 h2=>?_
  have:=g i h1
  rw[List.getD_eq_getElem?_getD,List.getD_eq_getElem?_getD,List.getElem?_eq_getElem h1,List.getElem?_eq_getElem h2,Option.getD_some,Option.getD_some,Bool.and_eq_true,beq_iff_eq,beq_iff_eq] at this
  revert this
  generalize a[i]=x
  generalize b[i]=y
  cases x;cases y
  rintro⟨rfl,rfl⟩
  rfl
theorem Sb (a b:Dc) (hb:AC a.fields.length):(∀p∈Sd a b,p)∧Nr a b=Beh a b:=by
 unfold AC at hb
 have hk0:Ee a b=(!(a.key==b.key)||a.fields.length !=b.fields.length):=by
  show(!(a.key.toList==b.key.toList)||((a.fields.length:Int) !=(b.fields.length:Int)))=_
  rw[tlb]
  congr 1
  rw[Bool.eq_iff_iff,bne_iff_ne,bne_iff_ne];omega
 have main:Ee a b=false→AE CV CU EC (DG (0,a,b)) (0,a,b)∧BZ (FD a b).fst (FD a b).snd.fst (FD a b).snd.snd=!Ai0 a.fields b.fields:=fun h0=>by
  rw[hk0] at h0
  have hlen:a.fields.length=b.fields.length:=by simpa using(Bool.or_eq_false_iff.1 h0).2
  have hf:∀i:Nat,BZ (i:Int) a b=(decide (i <a.fields.length)&&!((a.fields.getD i (Ae TC.field)).1==(b.fields.getD i (Ae TC.field)).1&&(a.fields.getD i (Ae TC.field)).2==(b.fields.getD i (Ae TC.field)).2)):=fun i=>by
   unfold BZ CT
   rw[nn,PE,Int.toNat_natCast,tlb]
  obtain⟨h1,k,hk,hx,_,_,hb'⟩:=JJ (fun i=>(((i:Int),a,b):Bh)) a.fields.length (fun i=>!((a.fields.getD i (Ae TC.field)).1==(b.fields.getD i (Ae TC.field)).1&&(a.fields.getD i (Ae TC.field)).2==(b.fields.getD i (Ae TC.field)).2)) CV CU EC (DG (0,a,b)) (0,a,b) rfl (by show a.fields.length≤((a.fields.length:Int) - 0).toNat;omega)
   (fun i _ _=>by
    show((!!decide ((i:Int) <(a.fields.length:Int)))&&!BZ i a b)=_
    rw[hf,nn,PE]
    cases decide (i <a.fields.length)<;>rfl)
   (fun i hi _=>by
    show(IntKind.i64.wrap ((i:Int)+1),a,b)=(((i+1:Nat):Int),a,b)
    rw[FS (by omega)])
   (fun i _ _=>by
    have hin:(!!decide ((i:Int) <(a.fields.length:Int)))=true→(i:Int) <(a.fields.length:Int):=fun h=>by rw[nn] at h;exact of_decide_eq_true h
    exact Aa (fun h=>⟨by show(0:Int)≤(i:Int);omega,hin h⟩) (Aa (fun h=>⟨by show(0:Int)≤(i:Int);omega,by have:=hin h;show(i:Int) <(b.fields.length:Int);omega⟩) Ad))
  refine⟨h1,?_⟩
  have hr:FD a b=((k:Int),a,b):=hx
  rw[hr]
  show BZ (k:Int) a b=_
  rw[hf,hb',Beg _ _ hlen]
  congr 1
  exact Jl fun i _=>Bool.not_not _
 refine⟨Aa (fun h=>(main (by simpa using h)).1) Ad,?_⟩
 unfold Nr Beh
 cases h0:Ee a b with
 | true=>
  rw[hk0] at h0
  rw[cond_true]
  cases hk:a.key==b.key with
  |false=>rfl
  |true=>
   rw[hk] at h0
   have hne:a.fields.length≠b.fields.length:=by simpa using h0
   cases he:Ai0 a.fields b.fields with
   |false=>rfl
   |true=>exact absurd (congrArg List.length (Ai1.1 he)) hne
 |false=>
  rw[cond_false,(main h0).2]
  rw[hk0] at h0
  have:(a.key==b.key)=true:=by simpa using(Bool.or_eq_false_iff.1 h0).1
  rw[this,Bool.true_and]
  cases Ai0 a.fields b.fields<;>rfl
theorem Aha (a0:Dc) (a1:Dc) (hp:∀p∈QC a0 a1,p):CallOk Try.prog 59 [Aq .view a0,Aq .view a1] 0 [] 1 (Se a0 a1) 0 (Sc a0 a1):=by
 have hb:AC a0.fields.length:=hp _ (List.mem_cons_self ..)
 have h:=Alw a0 a1 (Sb a0 a1 hb).1
 unfold Ns at h
 rw[(Sb a0 a1 hb).2] at h
 exact h
def Nt:List A→Nat→Objs→Option BP
 | [y0,y1],nx,o=>match A3 .view y0,A3 .view y1 with
  |some (a0,p0),some (a1,p1)=>some (1,(Se a0 a1).pk (AH nx),nx+0,AG nx (Sc a0 a1)++o,p0++(p1++(QC a0 a1)))
  |_,_=>none
 |_,_,_=>none
theorem Ab9:HO Try.prog 59 Nt:=fun args nx o k x nx' o' ps h=>by
 unfold Nt at h
 split at h<;>first|(cases h;done)|skip
 split at h<;>first|(cases h;done)|skip
 rename_i a0 p0 a1 p1 e0 e1
 cases h
 refine⟨fun hp=>?_,_,rfl⟩
 have q0:=fun p hm=>hp p (List.mem_append.2 (.inl hm))
 have r0:=fun p hm=>hp p (List.mem_append.2 (.inr hm))
 have q1:=fun p hm=>r0 p (List.mem_append.2 (.inl hm))
 have r1:=fun p hm=>r0 p (List.mem_append.2 (.inr hm))
 refine Ao (Ai (Aha a0 a1 r1) (Nat.le_refl _) (Af (Ag _ _) (Af (Ag _ _) Au)) nx o) fun F N R vs hl=>?_
 obtain⟨v0,w0,rfl,h0,hl⟩:=hl.inv
 obtain⟨v1,w1,rfl,h1,hl⟩:=hl.inv
 exact HL.cons (Ar e0 q0 h0) (HL.cons (Ar e1 q1 h1) (hl))
noncomputable def Be9:=B5 59 Nt A6x
theorem Baj:Gg Try.prog Be9:=Ax Ab9 Aqz
noncomputable def Cl:=Be9
theorem A6y:Gg Try.prog Cl:=Baj
end Go.Proofs.Yteebobbhhgmeiaa
namespace Go.Proofs.Yteebobbhhgmeiaa
open Go.RowKit Go.Shelf
attribute [local go_sem] Oper.semAt_some
def OwnB (base:Nat) (W:World) (y:Value) (bs:List UInt8):Prop:=OwnR W 5 1 y bs.length (bs.map Bo)∧∀g,Dd y=some g→base≤g
theorem OwnB.keep {base:Nat} {W W':World} {y:Value} {bs:List UInt8} (h:OwnB base W y bs) (hk:∀g,base≤g→Dd y=some g→W'.heap[g]?=W.heap[g]?):OwnB base W' y bs:=⟨h.1.keep fun g hg=>hk g (h.2 g hg) hg,h.2⟩
theorem OwnB.mono {b b':Nat} {W:World} {y:Value} {bs:List UInt8} (h:OwnB b W y bs) (hb:b'≤b):OwnB b' W y bs:=⟨h.1,fun g hg=>Nat.le_trans hb (h.2 g hg)⟩
theorem A8m (b0 b:Nat) (t:TypeId) (f:List (Ab×TCell)→List UInt8):Own (fun s W=>∃y,W.heap[b0]?=some (.cells #[y] t (0,0))∧OwnB b W y (f s)):=fun s W W' row ⟨y,h1,h2⟩ hg hr=>by
 have key:∀(g:Nat) (o:Obj),W.heap[g]?=some o→o.isCells=true→W'.heap[g]?=W.heap[g]?:=fun g o ho hc=>by
  refine hg.block g (G3 ho) fun e=>?_
  obtain⟨o',h3,h4⟩:=hr g e.symm
  rw[ho] at h3
  cases h3
  rw[hc] at h4
  cases h4
 refine⟨y,(key b0 _ h1 rfl).trans h1,h2.keep fun g _ hgy=>?_⟩
 rcases h2.1.2 with⟨a,e1,_⟩|⟨g',cap,cur,e1,e3,_⟩
 ·rw[e1] at hgy;cases a<;>cases hgy
 ·rw[e1] at hgy
  cases hgy
  exact key _ _ e3 rfl
theorem OwnB.form {base:Nat} {W:World} {y:Value} {bs:List UInt8} (h:OwnB base W y bs):∃a n c,y=.slice a n c:=by
 obtain⟨a,c,e,_⟩:=h.1.form
 exact⟨a,_,c,e⟩
theorem KB.setCell {n₀ X:Nat} (W:World) (v:Value):KB n₀ X W (W.setCell ⟨X,0,none⟩ v):=
 ⟨rfl,rfl,rfl,by rw[ZI];exact Nat.le_refl _,fun k _ hk=>Below.heap_setCell W ⟨X,0,none⟩ v k hk⟩
theorem Avu {α:Type} (F:α→List UInt8) (n:Nat) (h:∀x,(F x).length≤n):∀l:List α,(l.flatMap F).length≤l.length*n
 | []=>by simp
 |x::r=>by
  have:=Avu F n h r
  have:=h x
  rw[List.flatMap_cons,List.length_append,List.length_cons,Nat.succ_mul]
  omega
set_option maxRecDepth 100000 in
set_option maxHeartbeats 1000000 in
theorem A1h (w:World) (a0 a1:Option Addr) (gs:List Ab) (cs:List TCell) (key:ByteArray) (cap0 cap1:Nat) (na ncap:Nat) (ab:Option Addr) (b0:List UInt8) (pc:Int→TCell→List UInt8) (Nx:Nat)
  (hpc:∀q c,(pc q c).length≤Nx)
  (hGd:∀W,Below w.heap.size w W→Calls Try.prog 65 #[.slice a0 gs.length cap0,.agg #[.string key,.slice a1 cs.length cap1]] W fun e W'=>e=.returned (.int .i64 0)∧Below W.heap.size W W')
  (hl1:1≤gs.length) (hl4:gs.length≤4) (hlen0:Nat.beq cs.length gs.length=true)
  (hPT:∀W,Below w.heap.size w W→Calls Try.prog 122 #[.slice ab na ncap,.string key] W fun e W'=>∃y,e=.returned y∧Below W.heap.size W W'∧OwnB W.heap.size W' y b0)
  (hCP:∀W v bs q c base,OwnB base W v bs→bs.length≤b0.length+4*Nx→Calls Try.prog 56 #[v,.int .i64 q,cV c] W fun e W'=>∃y,e=.returned y∧Below W.heap.size W W'∧OwnB W.heap.size W' y (bs++pc q c))
  (hG:0 <gs.length→∃b off,a0=some ⟨b,off,none⟩∧GsAt w.heap.size w.heap.size w b off gs)
  (hS:0 <cs.length→∃b off,a1=some ⟨b,off,none⟩∧CsAt w.heap.size w.heap.size w b off cs):
  Calls Try.prog 79 #[.slice ab na ncap,.slice a0 gs.length cap0,.agg #[.string key,.slice a1 cs.length cap1]] w fun e W'=>∃y,e=.returned y∧Below w.heap.size w W'∧OwnB w.heap.size W' y (b0++(gs.zip cs).flatMap (fun x=>pc x.1.policy x.2)):=by
 refine(callsIn_wide (n:=5)).1 ?_
 refine callsIn_of_wp_marks Try.func79 rfl trivial ?_ rfl
 simp only[Try.ntmps79,List.size_toArray,List.length_cons,List.length_nil,Nat.reduceAdd,Nat.reduceSub,Array.replicate_succ,Array.replicate_zero,List.push_toArray,List.append_toArray,List.nil_append,List.cons_append]
 have hw2:Below w.heap.size w ((w.alloc (.cells #[.slice ab na ncap] 84)).alloc (.cells #[.string key,.slice a1 cs.length cap1] 71)):=((Below.refl _ w).alloc (Nat.le_refl _) _).alloc (by simp) _
 have hr1:=Mx (.cells #[.string key,.slice a1 cs.length cap1] 71) (Gv (w:=w) (.cells #[.slice ab na ncap] 84) rfl)
 have hr2:=Gv (w:=w.alloc (.cells #[.slice ab na ncap] 84)) (.cells #[.string key,.slice a1 cs.length cap1] 71) (n:=w.heap.size+1) (by simp)
 obtain⟨k0,k1⟩:=cb2 hr2
 have k2:=cb1 hr1
 gi_wp2_with (first
  |(refine⟨trivial,?_⟩;gi_at_call 65;refine(callsIn_wide.2 (hGd _ hw2)).mono ?_;rintro e W1 ⟨rfl,hb1⟩;have hx1:=ER hr1 hb1;have hx2:=ER hr2 hb1;have d0:=cb1 hx1;have f0:=fb1 hx1;obtain⟨c0,c1⟩:=cb2 hx2;have hB1:Below w.heap.size w W1:=hw2.trans (hb1.mono (by simp;omega));clear hr1 hr2 hb1 k0 k1 k2)
  |(refine⟨trivial,?_⟩;gi_at_call 122;refine(callsIn_wide.2 (hPT _ hB1)).mono ?_;rintro e W2 ⟨y0,rfl,hb2,hy0⟩;obtain⟨ya,yc,rfl,hyc⟩:=hy0.1.form;have hz1:=ER hx1 hb2;have hz2:=ER hx2 hb2;have d2:=cb1 hz1;have f2:=fb1 hz1;obtain⟨c2,c3⟩:=cb2 hz2;have hB2:Below w.heap.size w W2:=hB1.trans (hb2.mono hB1.size);clear d0 f0 c0 c1)
  |(refine⟨trivial,?_⟩;gi_at_call 132;refine(Awo _ _ _ _ _ _ _).mono ?_;rintro e W3 ⟨rfl,rfl⟩))
 have hlen:cs.length=gs.length:=Nat.eq_of_beq_eq_true hlen0
 have hy1:=ND (i:=0) hz1 (.slice ya b0.length yc)
 have hy2:=Bb8 hz2 (p:=⟨w.heap.size,0,none⟩) (by simp) (.slice ya b0.length yc)
 have hB3:Below w.heap.size w (W2.setCell ⟨w.heap.size,0,none⟩ (.slice ya b0.length yc)):=hB2.setCell (p:=⟨w.heap.size,0,none⟩) (Nat.le_refl _) _
 have hs1:=G3 hx2
 have hs2:=G3 hy2
 have hyo:OwnB (w.heap.size+1) (W2.setCell ⟨w.heap.size,0,none⟩ (.slice ya b0.length yc)) (.slice ya b0.length yc) b0:=(hy0.mono (Nat.le_of_lt hs1)).keep fun g hg _=>Below.heap_setCell W2 ⟨w.heap.size,0,none⟩ _ g (by simp;omega)
 have hVs:(W2.setCell ⟨w.heap.size,0,none⟩ (.slice ya b0.length yc)).heap.size=W2.heap.size:=ZI _ _ _
 rw[←hVs]
 generalize W2.setCell ⟨w.heap.size,0,none⟩ (.slice ya b0.length yc)=V at hy1 hy2 hB3 hs2 hyo⊢
 clear hVs
 clear hz1 hz2 d2 f2 c2 c3 hx1 hx2 hb2 hy0
 obtain⟨b,off,rfl,hg⟩:=hG (by omega)
 obtain⟨b',off',rfl,hc⟩:=hS (by omega)
 have hW2:Below V.heap.size V ((V.alloc (.cells #[.slice (some ⟨b,off,none⟩) gs.length cap0] 66)).alloc (.cells #[.string key,.slice (some ⟨b',off',none⟩) cs.length cap1] 71)):=((Below.refl _ V).alloc (Nat.le_refl _) _).alloc (by simp) _
 have hv2:=Mx (.cells #[.string key,.slice (some ⟨b',off',none⟩) cs.length cap1] 71) (Gv (w:=V) (.cells #[.slice (some ⟨b,off,none⟩) gs.length cap0] 66) rfl)
 have hv3:=Gv (w:=V.alloc (.cells #[.slice (some ⟨b,off,none⟩) gs.length cap0] 66)) (.cells #[.string key,.slice (some ⟨b',off',none⟩) cs.length cap1] 71) (n:=V.heap.size+1) (by simp)
 have hz1:=ER hy1 hW2
 have hz3:=G3 hv3
 have hB4:=hB3.trans (hW2.mono hB3.size)
 have hyo2:OwnB (w.heap.size+1) ((V.alloc (.cells #[.slice (some ⟨b,off,none⟩) gs.length cap0] 66)).alloc (.cells #[.string key,.slice (some ⟨b',off',none⟩) cs.length cap1] 71)) (.slice ya b0.length yc) b0:=hyo.keep fun g _ hgy=>hW2.block g (hyo.1.lt hgy)
 clear hyo hs1
 rw[show V.heap.size=V.heap.size from rfl] at hv2
 generalize hVW:(V.alloc (.cells #[.slice (some ⟨b,off,none⟩) gs.length cap0] 66)).alloc (.cells #[.string key,.slice (some ⟨b',off',none⟩) cs.length cap1] 71)=W2 at hW2 hv2 hv3 hz1 hz3 hB4 hyo2⊢
 have hlt0:=G3 hy1
 have hg2:GsAt W2.heap.size w.heap.size W2 b off gs:=⟨⟨by have:=hg.1.1;omega,by have:=hg.1.1;omega⟩,fun j g hj=>⟨(hB4.cell (p:=⟨b,_,none⟩) hg.1.1).trans (hg.2 j g hj).1,(hB4.cell (p:=⟨b,_,none⟩) hg.1.1).trans (hg.2 j g hj).2⟩⟩
 have hc2:CsAt W2.heap.size w.heap.size W2 b' off' cs:=by
  refine⟨⟨by have:=hc.1.1;omega,by have:=hc.1.1;omega⟩,fun j c hj=>?_⟩
  have k:∀o,W2.cell? ⟨b',o,none⟩=w.cell? ⟨b',o,none⟩:=fun o=>hB4.cell (p:=⟨b',o,none⟩) hc.1.1
  simp only[k]
  exact hc.2 j c hj
 refine wpIn_rangeFunc_ownH (F:=Fence.wide) rfl (by omega) (gf:=165) (lb:=#[.pointer (some ⟨V.heap.size,0,none⟩),.pointer (some ⟨V.heap.size+1,0,none⟩)]) rfl trivial (enters_of Try.func165 (by kernel_rfl) rfl)
  (Adz _ (by omega) V.heap.size (V.heap.size+1) W2.heap.size w.heap.size b off cap0 b' off' cap1 gs cs hlen hl4 W2 (Nat.le_refl _) (cb1 hv2) (cb2 hv3).2 ⟨by omega,by omega⟩ ⟨by omega,by omega⟩ hg2 hc2)
  KB.trans (KB.putObj (Nat.le_refl _)) (Below.refl _ _) (fun _=>rfl)
  (fun pre W=>(∃y,W.heap[w.heap.size]?=some (.cells #[y] 84 (0,0))∧OwnB (w.heap.size+1) W y (b0++pre.flatMap (fun x=>pc x.1.policy x.2)))∧Below w.heap.size w W∧W2.heap.size≤W.heap.size)
  (fun _ _ _=>False)
  (OwnFrom.and (Own.from (A8m w.heap.size (w.heap.size+1) 84 (fun pre=>b0++pre.flatMap (fun x=>pc x.1.policy x.2))) _) (OwnFrom.and (ownFrom_below (Nat.le_refl _) hB4.size) (Rn _ _)))
  (fun _ _ _ _ _ hs _ _=>hs)
  ⟨⟨_,hz1,by simpa using hyo2⟩,hB4,Nat.le_refl _⟩
  (fun x a' W=>(∃B6 B7,a'={tmps:=#[Value.slice ab na ncap,Value.slice (some ⟨b,off,none⟩) gs.length cap0,
     Value.agg #[Value.string key,Value.slice (some ⟨b',off',none⟩) cs.length cap1],
     Value.pointer (some {block:=w.heap.size,off:=0}),undef,
     Value.pointer (some {block:=w.heap.size+1,off:=0}),Value.slice none 0 0,Value.pointer (some ⟨B6,0,none⟩),Value.pointer (some ⟨B7,0,none⟩),
     Value.slice (some ⟨b,off,none⟩) gs.length cap0,Value.agg #[Value.string key,Value.slice (some ⟨b',off',none⟩) cs.length cap1],
     Value.int IntKind.i64 0,Value.bool false,undef,undef,undef,Value.slice ab na ncap,
     Value.pointer (some {block:=w.heap.size+1,off:=0}),Value.string key,Value.slice ya b0.length yc,
     Value.slice (some ⟨b,off,none⟩) gs.length cap0,Value.agg #[Value.string key,Value.slice (some ⟨b',off',none⟩) cs.length cap1],
     Value.func (Fn.func 165) #[] #[Value.pointer (some {block:=V.heap.size,off:=0}),Value.pointer (some {block:=V.heap.size+1,off:=0})],
     gV x.1,cV x.2,undef,undef,undef,undef,undef,undef],defers:=[]}∧
    (W.heap[B6]?=some (.cells #[.string x.1.name,.int .i64 x.1.policy] 79 (0,0))∧W.heap[B7]?=some (.cells #[.int .i64 x.2.stamp.n,.int .i64 x.2.stamp.site,.int .i64 x.2.vec.a,.int .i64 x.2.vec.b,.bool x.2.gone,.string x.2.value,.int .i64 x.2.dead.a,.int .i64 x.2.dead.b] 55 (0,0)))))
  (fun x a'=>Own.from (fun s X Y row hs hgr hr=>by
   obtain⟨B6,B7,e1,e2,e3⟩:=hs
   exact⟨B6,B7,e1,UE B6 _ _ s X Y row e2 hgr hr,UE B7 _ _ s X Y row e3 hgr hr⟩) _) ?assign ?body ?done ?stop
 case assign=>
  rintro l pre x W K ⟨⟨y,i1,i2⟩,i3,i4⟩ hK
  clear hlen hlen0
  dsimp only[A7j,gV,cV] at hK⊢
  gi_wp2
  have hb:Below W.heap.size W ((W.alloc (.cells #[.string x.1.name,.int .i64 x.1.policy] 79)).alloc (.cells #[.int .i64 x.2.stamp.n,.int .i64 x.2.stamp.site,.int .i64 x.2.vec.a,.int .i64 x.2.vec.b,.bool x.2.gone,.string x.2.value,.int .i64 x.2.dead.a,.int .i64 x.2.dead.b] 55)):=((Below.refl _ W).alloc (Nat.le_refl _) _).alloc (by simp) _
  exact hK _ _ (HD _ hb) (KB.of_below (hb.mono i4)) ⟨⟨y,ER i1 hb,i2.keep fun g _ hgy=>hb.block g (i2.1.lt hgy)⟩,i3.trans (hb.mono i3.size),Nat.le_trans i4 hb.size⟩ ⟨W.heap.size,W.heap.size+1,rfl,Mx _ (Gv _ rfl),Gv _ (by simp)⟩
 case body=>
  rintro l pre x a' W hl hr ⟨⟨y,i1,i2⟩,i3,i4⟩ ⟨B6,B7,rfl,e6,e7⟩ hlt
  obtain⟨yb,ym,yd,rfl⟩:=i2.form
  obtain⟨k0,k1⟩:=cb2 e6
  obtain⟨m0,m1,m2,m3,m4,m5,m6,m7⟩:=cb8 e7
  have d0:=cb1 i1
  have hbl:(b0++pre.flatMap (fun x=>pc x.1.policy x.2)).length≤b0.length+4*Nx:=by
   have:=Avu (fun x:Ab×TCell=>pc x.1.policy x.2) Nx (fun x=>hpc _ _) pre
   have h2:pre.length*Nx≤4*Nx:=Nat.mul_le_mul_right _ (by omega)
   rw[List.length_append]
   omega
  clear hlen hlen0
  generalize hbe:b0++pre.flatMap (fun x=>pc x.1.policy x.2)=bs at*
  gi_wp2_with (refine⟨trivial,?_⟩;gi_at_call 56;refine(CallsIn.inRound l (callsIn_wide.2 (hCP _ _ bs x.1.policy x.2 _ i2 hbl))).mono ?_;rintro e W' ⟨y',rfl,hb,hy'⟩;obtain⟨ye,yn,yf,rfl⟩:=hy'.form;have q1:=ER i1 hb;have d4:=cb1 q1;have f4:=fb1 q1)
  have hw:=G3 i1
  refine⟨(HD _ hb).trans ((KeepsOthers.setCell _ _ _).from _),(KB.of_below (hb.mono i4)).trans (KB.setCell _ _),⟨_,ND (i:=0) q1 _,?_⟩,(i3.trans (hb.mono i3.size)).setCell (p:=⟨w.heap.size,0,none⟩) (Nat.le_refl _) _,Nat.le_trans i4 (by rw[ZI];exact hb.size)⟩
  rw[List.flatMap_append,←List.append_assoc,hbe]
  simp only[List.flatMap_cons,List.flatMap_nil,List.append_nil]
  exact(hy'.mono (b':=w.heap.size+1) (by omega)).keep fun g hg _=>Below.heap_setCell W' ⟨w.heap.size,0,none⟩ _ g (by simp;omega)
 case done=>
  rintro D ys W hD rfl ⟨⟨y,i1,i2⟩,i3,i4⟩ hK
  obtain⟨yb,ym,yd,rfl⟩:=i2.form
  have d0:=cb1 i1
  clear hlen hlen0
  gi_wp2
  refine⟨by simp,.inl ⟨_,_,rfl,run_takeDeferred hK,?_⟩⟩
  refine⟨_,results_tmp rfl _ _ _,_,rfl,i3.trans (belowK_b (w:=w) (Nat.le_refl _) W D _ _ (by have:=hB4.size;omega) hK rfl rfl),(i2.mono (Nat.le_succ _)).keep fun g _ hgy=>?_⟩
  refine World.putObj_heap_other fun e=>?_
  subst e
  rcases i2.1.2 with⟨a,e1,_⟩|⟨g',cap,cur,e1,e3,_⟩
  ·rw[e1] at hgy;cases a<;>cases hgy
  ·rw[e1] at hgy
   cases hgy
   rw[hK] at e3
   cases e3
 case stop=>
  rintro D c pre W hD _ h _
  exact h.elim
end Go.Proofs.Yteebobbhhgmeiaa
