/- made by a program (rowgen.py): WireEncodes: for every input the law returns true, and each argument reads behind the call as it read before. -/
import Derived.Test.YtifkbgkbajncjaaGreatDoorKWef
import Derived.Test.YtifkbgkbajncjaaGreatDoorRows

set_option maxRecDepth 100000
namespace Go.Proofs.YtifkbgkbajncjaaGreatDoor
open Go.RowKit
def CB (d:List UInt8):List UInt8:=(List.range 32).map fun k=>d.getD k 0
theorem Rk (d:List UInt8):(CB d).length=32:=by unfold CB;rw[List.length_map,List.length_range]
def Bml (l:List Ab) (m:TMsg):List UInt8:=Ic m.know++(Ap (bif m.back then 1 else 0)++(Ap (m.rows.length:Int)++m.rows.flatMap (HE l)))
def Bnz (l:List Ab) (m:TMsg):List UInt8:=bif m.kind==1 then Le l m.change else bif m.kind==2 then Ap m.ack++Ap m.own else JR m.path++(m.sums.flatMap CB++bif m.kind==5 then Bml l m else[])
def Pi (l:List Ab) (m:TMsg):List UInt8:=Ap m.kind++(Ap m.site++Bnz l m)
def Au2 (l:List Ab) (m:TMsg):Int:=bif D7 l m !=0 then D7 l m else bif decide (1048576 <(Pi l m).length) then 3 else 0
def A52 (l:List Ab) (m:TMsg):List UInt8:=bif Au2 l m==0 then Ad4 (Pi l m) else[]
theorem Sh {l:List Ab} {m:TMsg}:D7 l m=0↔Bi l=0∧okW l m=true:=by
 unfold D7
 cases h:Bi l !=0 with
 |true=>
  have h':Bi l≠0:=by simpa using h
  exact⟨fun e=>absurd e h',fun e=>absurd e.1 h'⟩
 |false=>
  have h':Bi l=0:=by simpa using h
  rw[cond_false]
  cases okW l m with
  |true=>exact⟨fun _=>⟨h',rfl⟩,fun _=>rfl⟩
  |false=>exact⟨fun e=>(by cases e),fun e=>by cases e.2⟩
theorem U4 {l:List Ab} {m:TMsg} (h:okW l m=true):(m.site=1∨m.site=2)∧Ld m.path=true∧(m.kind=3∨m.kind=4∨m.sums=[])∧m.sums.length≤16∧
    (m.kind=1∧WT l m.change=0∧m.change.site=m.site∨m.kind=2∧A9k m.ack=true∧A9k m.own=true∨m.kind=3∧m.sums.length=1∨m.kind=4∧m.sums.length=16∧m.path.length <2∨
     m.kind=5∧m.path.length=2∧m.rows.length≤256∧G8 m.know=true∧S7 l m.rows=0):=by
  unfold okW at h
  simp only[Bool.and_eq_true] at h
  obtain⟨⟨⟨h1,h2⟩,h3⟩,h4⟩:=h
  have hs:m.site=1∨m.site=2:=by simpa using h3
  have hz:m.kind=3∨m.kind=4∨m.sums=[]:=by
    unfold Aac at h1
    simp only[Bool.and_eq_true] at h1
    obtain⟨⟨⟨⟨q,_⟩,_⟩,_⟩,_⟩:=h1
    simp only[Bool.or_eq_true,beq_iff_eq] at q
    rcases q with(q|q)|q
    ·exact .inl q
    ·exact .inr (.inl q)
    ·exact .inr (.inr (List.eq_nil_of_length_eq_zero q))
  have hk:(m.kind=1∧WT l m.change=0∧m.change.site=m.site∨m.kind=2∧A9k m.ack=true∧A9k m.own=true∨m.kind=3∧m.sums.length=1∨m.kind=4∧m.sums.length=16∧m.path.length <2∨
     m.kind=5∧m.path.length=2∧m.rows.length≤256∧G8 m.know=true∧S7 l m.rows=0):=by
    unfold A1f at h4
    rcases kinds m.kind with⟨e1,e2,e3,e4,e5⟩|⟨e1,e2,e3,e4,e5⟩|⟨e1,e2,e3,e4,e5⟩|⟨e1,e2,e3,e4,e5⟩|⟨e1,e2,e3,e4,e5⟩|⟨e1,e2,e3,e4,e5⟩<;>
      (rw[e1,e2,e3,e4,e5] at h4;simp only[cond_true,cond_false,Bool.and_eq_true,beq_iff_eq,decide_eq_true_eq] at h4 e1 e2 e3 e4 e5)
    ·exact .inl ⟨e1,h4.2,h4.1⟩
    ·exact .inr (.inl ⟨e2,h4.1,h4.2⟩)
    ·exact .inr (.inr (.inl ⟨e3,by omega⟩))
    ·exact .inr (.inr (.inr (.inl ⟨e4,by omega,by omega⟩)))
    · obtain⟨⟨⟨q1,q2⟩,q3⟩,q4⟩:=h4
      exact .inr (.inr (.inr (.inr ⟨e5,by omega,by omega,q3,q4⟩)))
    ·cases h4
  refine⟨hs,h2,hz,?_,hk⟩
  rcases hz with q|q|q
  ·rcases hk with k|k|k|k|k<;>first|(have:=k.1;omega)|(have:=k.2;omega)
  ·rcases hk with k|k|k|k|k<;>first|(have:=k.1;omega)|(have:=k.2.1;omega)
  ·rw[q];exact Nat.zero_le _
theorem A13 {p:List Int} (h:Ld p=true):p.length≤2:=by
 unfold Ld at h
 rw[Bool.and_eq_true] at h
 exact of_decide_eq_true h.2
end Go.Proofs.YtifkbgkbajncjaaGreatDoor
namespace Go.Proofs.YtifkbgkbajncjaaGreatDoor
open Go.RowKit
noncomputable def Bss:=AS 21 WM Cwc
theorem Bkr:Cr Tryz.prog Bss:=An VX Bt1
noncomputable def Bst:=AS 62 Aze Bss
theorem Bks:Cr Tryz.prog Bst:=An A8i Bkr
noncomputable def Z8:=AS 16 UI Bst
theorem TY:Cr Tryz.prog Z8:=An Xq Bks
abbrev Co:Type:=Int×Int×TMsg×(List UInt8)
def L4 (x:Co):St:=⟨96,6,[(3,.own 0 0),(5,.sq 5),(6,.v (.int .i64 x.1)),(7,.v (.int .i64 x.2.1))],[(0,some (.box 34 [.v (.int .i64 x.2.2.1.kind),.v (.int .i64 x.2.2.1.site),.v (.int .i64 x.2.2.1.change.site),.v (.int .i64 x.2.2.1.change.seq),.v (.int .i64 x.2.2.1.change.stamp.n),.v (.int .i64 x.2.2.1.change.stamp.site),.v (.int .i64 x.2.2.1.change.vec.a),.v (.int .i64 x.2.2.1.change.vec.b),.sl .write x.2.2.1.change.writes,.v (.int .i64 x.2.2.1.ack),.v (.int .i64 x.2.2.1.own),.sl .i64 x.2.2.1.path,.sl .digest x.2.2.1.sums,.sl .row x.2.2.1.rows,.v (.int .i64 x.2.2.1.know.a),.v (.int .i64 x.2.2.1.know.b),.v (.bool x.2.2.1.back)])),(5,some (.arr 5 1 (.ty .u8 x.2.2.2)))]⟩
def ON:St→Option Co
 |⟨96,6,[(3,.own 0 0),(5,.sq 5),(6,.v (.int .i64 z0)),(7,.v (.int .i64 z1))],[(0,some (.box 34 [.v (.int .i64 z2),.v (.int .i64 z3),.v (.int .i64 z4),.v (.int .i64 z5),.v (.int .i64 z6),.v (.int .i64 z7),.v (.int .i64 z8),.v (.int .i64 z9),.sl .write z10,.v (.int .i64 z11),.v (.int .i64 z12),.sl .i64 z13,.sl .digest z14,.sl .row z15,.v (.int .i64 z16),.v (.int .i64 z17),.v (.bool z18)])),(5,some (.arr 5 1 (.ty .u8 z19)))]⟩=>some (z0,z1,⟨z2,z3,⟨z4,z5,⟨z6,z7⟩,⟨z8,z9⟩,z10⟩,z11,z12,z13,z14,z15,⟨z16,z17⟩,z18⟩,z19)
 |_=>none
theorem Ago:∀s x,ON s=some x→s=L4 x:=fun s x h=>by
 unfold ON at h
 split at h
 ·cases h;rfl
 ·cases h
def X5:Cz:=⟨5,6,[3,5,6,7],[],[(0,0),(7,5)],[0,7],[5],[5,0]⟩
def Awh:CX:=⟨[],[(0,0),(4,5)],[3,5,6,7],[0,4]⟩
def H5 (_a0:Int) (a1:Int) (_a2:TMsg) (_a3:List UInt8):Bool:=!!decide (a1 <(32:Int))
def EE (a0:Int) (a1:Int) (a2:TMsg) (_a3:List UInt8):Int:=[(↑(List.getD (a2.7.getD a0.toNat (Ae TC.digest)) (0:Nat) (0:UInt8)).toNat:Int),(↑(List.getD (a2.7.getD a0.toNat (Ae TC.digest)) (1:Nat) (0:UInt8)).toNat:Int),(↑(List.getD (a2.7.getD a0.toNat (Ae TC.digest)) (2:Nat) (0:UInt8)).toNat:Int),(↑(List.getD (a2.7.getD a0.toNat (Ae TC.digest)) (3:Nat) (0:UInt8)).toNat:Int),(↑(List.getD (a2.7.getD a0.toNat (Ae TC.digest)) (4:Nat) (0:UInt8)).toNat:Int),(↑(List.getD (a2.7.getD a0.toNat (Ae TC.digest)) (5:Nat) (0:UInt8)).toNat:Int),(↑(List.getD (a2.7.getD a0.toNat (Ae TC.digest)) (6:Nat) (0:UInt8)).toNat:Int),(↑(List.getD (a2.7.getD a0.toNat (Ae TC.digest)) (7:Nat) (0:UInt8)).toNat:Int),(↑(List.getD (a2.7.getD a0.toNat (Ae TC.digest)) (8:Nat) (0:UInt8)).toNat:Int),(↑(List.getD (a2.7.getD a0.toNat (Ae TC.digest)) (9:Nat) (0:UInt8)).toNat:Int),(↑(List.getD (a2.7.getD a0.toNat (Ae TC.digest)) (10:Nat) (0:UInt8)).toNat:Int),(↑(List.getD (a2.7.getD a0.toNat (Ae TC.digest)) (11:Nat) (0:UInt8)).toNat:Int),(↑(List.getD (a2.7.getD a0.toNat (Ae TC.digest)) (12:Nat) (0:UInt8)).toNat:Int),(↑(List.getD (a2.7.getD a0.toNat (Ae TC.digest)) (13:Nat) (0:UInt8)).toNat:Int),(↑(List.getD (a2.7.getD a0.toNat (Ae TC.digest)) (14:Nat) (0:UInt8)).toNat:Int),(↑(List.getD (a2.7.getD a0.toNat (Ae TC.digest)) (15:Nat) (0:UInt8)).toNat:Int),(↑(List.getD (a2.7.getD a0.toNat (Ae TC.digest)) (16:Nat) (0:UInt8)).toNat:Int),(↑(List.getD (a2.7.getD a0.toNat (Ae TC.digest)) (17:Nat) (0:UInt8)).toNat:Int),(↑(List.getD (a2.7.getD a0.toNat (Ae TC.digest)) (18:Nat) (0:UInt8)).toNat:Int),(↑(List.getD (a2.7.getD a0.toNat (Ae TC.digest)) (19:Nat) (0:UInt8)).toNat:Int),(↑(List.getD (a2.7.getD a0.toNat (Ae TC.digest)) (20:Nat) (0:UInt8)).toNat:Int),(↑(List.getD (a2.7.getD a0.toNat (Ae TC.digest)) (21:Nat) (0:UInt8)).toNat:Int),(↑(List.getD (a2.7.getD a0.toNat (Ae TC.digest)) (22:Nat) (0:UInt8)).toNat:Int),(↑(List.getD (a2.7.getD a0.toNat (Ae TC.digest)) (23:Nat) (0:UInt8)).toNat:Int),(↑(List.getD (a2.7.getD a0.toNat (Ae TC.digest)) (24:Nat) (0:UInt8)).toNat:Int),(↑(List.getD (a2.7.getD a0.toNat (Ae TC.digest)) (25:Nat) (0:UInt8)).toNat:Int),(↑(List.getD (a2.7.getD a0.toNat (Ae TC.digest)) (26:Nat) (0:UInt8)).toNat:Int),(↑(List.getD (a2.7.getD a0.toNat (Ae TC.digest)) (27:Nat) (0:UInt8)).toNat:Int),(↑(List.getD (a2.7.getD a0.toNat (Ae TC.digest)) (28:Nat) (0:UInt8)).toNat:Int),(↑(List.getD (a2.7.getD a0.toNat (Ae TC.digest)) (29:Nat) (0:UInt8)).toNat:Int),(↑(List.getD (a2.7.getD a0.toNat (Ae TC.digest)) (30:Nat) (0:UInt8)).toNat:Int),(↑(List.getD (a2.7.getD a0.toNat (Ae TC.digest)) (31:Nat) (0:UInt8)).toNat:Int)].getD a1.toNat (0:Int)
def MX (a0:Int) (a1:Int) (a2:TMsg) (a3:List UInt8):List UInt8:=a3++[UInt8.ofNat (EE a0 a1 a2 a3).toNat]
def EG (x:Co):Co:=(x.1,IntKind.i64.wrap (x.2.1+(1:Int)),x.2.2.1,MX x.1 x.2.1 x.2.2.1 x.2.2.2)
def EF (x:Co):Cnd:=some ((H5 x.1 x.2.1 x.2.2.1 x.2.2.2))
def MY (x:Co):List Prop:=[((H5 x.1 x.2.1 x.2.2.1 x.2.2.2)=true→(0:Int)≤x.1∧x.1 <(↑x.2.2.1.7.length:Int)),((H5 x.1 x.2.1 x.2.2.1 x.2.2.2)=true→(0:Int)≤x.2.1∧x.2.1 <(32:Int)),((H5 x.1 x.2.1 x.2.2.1 x.2.2.2)=true→Ad (x.2.2.2.length+(1:Nat))),((H5 x.1 x.2.1 x.2.2.1 x.2.2.2)=true→(0:Int)≤(EE x.1 x.2.1 x.2.2.1 x.2.2.2)∧(EE x.1 x.2.1 x.2.2.1 x.2.2.2) <(256:Int))]
abbrev H6:Co→List Prop:=MY
def Rz (x:Co):AR:=[(some 3,some (!decide (x.2.1 <(32:Int))),⟨96,6,[(5,.sq 5)],[(5,some (.arr 5 1 (.ty .u8 x.2.2.2))),(0,some (.box 34 [.v (.int .i64 x.2.2.1.1),.v (.int .i64 x.2.2.1.2),.v (.int .i64 x.2.2.1.3.1),.v (.int .i64 x.2.2.1.3.2),.v (.int .i64 x.2.2.1.3.3.1),.v (.int .i64 x.2.2.1.3.3.2),.v (.int .i64 x.2.2.1.3.4.1),.v (.int .i64 x.2.2.1.3.4.2),.sl .write x.2.2.1.3.5,.v (.int .i64 x.2.2.1.4),.v (.int .i64 x.2.2.1.5),.sl .i64 x.2.2.1.6,.sl .digest x.2.2.1.7,.sl .row x.2.2.1.8,.v (.int .i64 x.2.2.1.9.1),.v (.int .i64 x.2.2.1.9.2),.v (.bool x.2.2.1.10)]))]⟩)]
def Ry (x:Co):Nat:=((32:Int) - x.2.1).toNat
def J1 (x:Co):Co:=AF EG EF (Ry x) x
theorem As8 (a0:Int) (a1:Int) (a2:TMsg) (a3:List UInt8):Ba (As Z8 L0) 9 (Ag Tryz.prog 23 3) X5 (L4 (a0,a1,a2,a3))=some (MY (a0,a1,a2,a3),Rz (a0,a1,a2,a3),EF (a0,a1,a2,a3),L4 (EG (a0,a1,a2,a3))):=by kernel_rfl
theorem As9 (a0:Int) (a1:Int) (a2:TMsg) (a3:List UInt8) (hp:∀p∈H6 (a0,a1,a2,a3),p):∀p∈MY (a0,a1,a2,a3),p:=hp
noncomputable def TJ:=HB (As Z8 L0) (Ag Tryz.prog 23 3) X5 Awh ON Ry EG EF H6 Rz
theorem Amt:∀s b ps outs,TJ s=some (b,ps,outs)→Wf s ⟨ps,outs,none⟩∧Bg (As C0 L0) b s ps outs:=
 AT (T:=L4) TY AA (u:=9) (by kernel_rfl) (by decide) (fun⟨a0,a1,a2,a3⟩=>As8 a0 a1 a2 a3) (fun⟨a0,a1,a2,a3⟩=>As9 a0 a1 a2 a3) Ago (fun _=>AD (n:=96) rfl) fun _ _=>rfl
noncomputable def L3:=Dd 3 TJ L0
theorem TI:G9 L3:=AH Amt AA
abbrev Cm:Type:=Int×TMsg×(List UInt8)
def L2 (x:Cm):St:=⟨96,5,[(3,.own 0 0),(5,.sq 4),(6,.v (.int .i64 x.1))],[(0,some (.box 34 [.v (.int .i64 x.2.1.kind),.v (.int .i64 x.2.1.site),.v (.int .i64 x.2.1.change.site),.v (.int .i64 x.2.1.change.seq),.v (.int .i64 x.2.1.change.stamp.n),.v (.int .i64 x.2.1.change.stamp.site),.v (.int .i64 x.2.1.change.vec.a),.v (.int .i64 x.2.1.change.vec.b),.sl .write x.2.1.change.writes,.v (.int .i64 x.2.1.ack),.v (.int .i64 x.2.1.own),.sl .i64 x.2.1.path,.sl .digest x.2.1.sums,.sl .row x.2.1.rows,.v (.int .i64 x.2.1.know.a),.v (.int .i64 x.2.1.know.b),.v (.bool x.2.1.back)])),(4,some (.arr 5 1 (.ty .u8 x.2.2)))]⟩
def OM:St→Option Cm
 |⟨96,5,[(3,.own 0 0),(5,.sq 4),(6,.v (.int .i64 z0))],[(0,some (.box 34 [.v (.int .i64 z1),.v (.int .i64 z2),.v (.int .i64 z3),.v (.int .i64 z4),.v (.int .i64 z5),.v (.int .i64 z6),.v (.int .i64 z7),.v (.int .i64 z8),.sl .write z9,.v (.int .i64 z10),.v (.int .i64 z11),.sl .i64 z12,.sl .digest z13,.sl .row z14,.v (.int .i64 z15),.v (.int .i64 z16),.v (.bool z17)])),(4,some (.arr 5 1 (.ty .u8 z18)))]⟩=>some (z0,⟨z1,z2,⟨z3,z4,⟨z5,z6⟩,⟨z7,z8⟩,z9⟩,z10,z11,z12,z13,z14,⟨z15,z16⟩,z17⟩,z18)
 |_=>none
theorem Agn:∀s x,OM s=some x→s=L2 x:=fun s x h=>by
 unfold OM at h
 split at h
 ·cases h;rfl
 ·cases h
def X4:Cz:=⟨4,5,[3,5,6],[],[(0,0),(5,4)],[0,5],[5],[4,0]⟩
def Awg:CX:=⟨[],[(0,0),(3,4)],[3,5,6],[0,3]⟩
def H3 (a0:Int) (a1:TMsg) (_a2:List UInt8):Bool:=!!decide (a0 <(↑a1.7.length:Int))
def MV (a0:Int) (a1:TMsg) (a2:List UInt8):TMsg:=(J1 (a0,(0:Int),a1,a2)).snd.snd.fst
def MW (a0:Int) (a1:TMsg) (a2:List UInt8):List UInt8:=(J1 (a0,(0:Int),a1,a2)).snd.snd.snd
def ED (x:Cm):Cm:=(IntKind.i64.wrap (x.1+(1:Int)),MV x.1 x.2.1 x.2.2,MW x.1 x.2.1 x.2.2)
def EC (x:Cm):Cnd:=some ((H3 x.1 x.2.1 x.2.2))
def TF (x:Cm):List Prop:=[((H3 x.1 x.2.1 x.2.2)=true→Ag Tryz.prog (23:FuncId) (3:Nat)=Ag Tryz.prog (23:FuncId) (3:Nat)),((H3 x.1 x.2.1 x.2.2)=true→Ax EG EF H6 (32:Nat) (x.1,(0:Int),x.2.1,x.2.2))]
def H4 (x:Cm):List Prop:=[((H3 x.1 x.2.1 x.2.2)=true→Ax EG EF H6 (32:Nat) (x.1,(0:Int),x.2.1,x.2.2))]
def Rx (x:Cm):AR:=[(some 1,some (!decide (x.1 <(↑x.2.1.7.length:Int))),⟨96,5,[(5,.sq 4)],[(4,some (.arr 5 1 (.ty .u8 x.2.2))),(0,some (.box 34 [.v (.int .i64 x.2.1.1),.v (.int .i64 x.2.1.2),.v (.int .i64 x.2.1.3.1),.v (.int .i64 x.2.1.3.2),.v (.int .i64 x.2.1.3.3.1),.v (.int .i64 x.2.1.3.3.2),.v (.int .i64 x.2.1.3.4.1),.v (.int .i64 x.2.1.3.4.2),.sl .write x.2.1.3.5,.v (.int .i64 x.2.1.4),.v (.int .i64 x.2.1.5),.sl .i64 x.2.1.6,.sl .digest x.2.1.7,.sl .row x.2.1.8,.v (.int .i64 x.2.1.9.1),.v (.int .i64 x.2.1.9.2),.v (.bool x.2.1.10)]))]⟩)]
def GI (x:Cm):Nat:=((↑x.2.1.7.length:Int) - x.1).toNat
def TH (x:Cm):Cm:=AF ED EC (GI x) x
theorem As6 (a0:Int) (a1:TMsg) (a2:List UInt8):Ba (As Z8 L3) 9 (Ag Tryz.prog 23 1) X4 (L2 (a0,a1,a2))=some (TF (a0,a1,a2),Rx (a0,a1,a2),EC (a0,a1,a2),L2 (ED (a0,a1,a2))):=by kernel_rfl
theorem As7 (a0:Int) (a1:TMsg) (a2:List UInt8) (hp:∀p∈H4 (a0,a1,a2),p):∀p∈TF (a0,a1,a2),p:=by
 have n0:((H3 a0 a1 a2)=true→Ag Tryz.prog (23:FuncId) (3:Nat)=Ag Tryz.prog (23:FuncId) (3:Nat)):=by intros;rfl
 have n1:=N0 hp
 exact(Aa n0 (Aa n1 Af))
noncomputable def TG:=HB (As Z8 L3) (Ag Tryz.prog 23 1) X4 Awg OM GI ED EC H4 Rx
theorem Ams:∀s b ps outs,TG s=some (b,ps,outs)→Wf s ⟨ps,outs,none⟩∧Bg (As C0 L0) b s ps outs:=
 AT (T:=L2) TY TI (u:=9) (by kernel_rfl) (by decide) (fun⟨a0,a1,a2⟩=>As6 a0 a1 a2) (fun⟨a0,a1,a2⟩=>As7 a0 a1 a2) Agn (fun _=>AD (n:=96) rfl) fun _ _=>rfl
noncomputable def L1:=Dd 1 TG L3
theorem TE:G9 L1:=AH Ams TI
abbrev Cp:Type:=(List Ab)×Int×TMsg×(List UInt8)
def L5 (x:Cp):St:=⟨96,8,[(0,.sl .group x.1),(3,.own 0 0),(5,.sq 7),(8,.v (.int .i64 x.2.1))],[(0,some (.box 34 [.v (.int .i64 x.2.2.1.kind),.v (.int .i64 x.2.2.1.site),.v (.int .i64 x.2.2.1.change.site),.v (.int .i64 x.2.2.1.change.seq),.v (.int .i64 x.2.2.1.change.stamp.n),.v (.int .i64 x.2.2.1.change.stamp.site),.v (.int .i64 x.2.2.1.change.vec.a),.v (.int .i64 x.2.2.1.change.vec.b),.sl .write x.2.2.1.change.writes,.v (.int .i64 x.2.2.1.ack),.v (.int .i64 x.2.2.1.own),.sl .i64 x.2.2.1.path,.sl .digest x.2.2.1.sums,.sl .row x.2.2.1.rows,.v (.int .i64 x.2.2.1.know.a),.v (.int .i64 x.2.2.1.know.b),.v (.bool x.2.2.1.back)])),(7,some (.arr 5 1 (.ty .u8 x.2.2.2)))]⟩
def OO:St→Option Cp
 |⟨96,8,[(0,.sl .group z0),(3,.own 0 0),(5,.sq 7),(8,.v (.int .i64 z1))],[(0,some (.box 34 [.v (.int .i64 z2),.v (.int .i64 z3),.v (.int .i64 z4),.v (.int .i64 z5),.v (.int .i64 z6),.v (.int .i64 z7),.v (.int .i64 z8),.v (.int .i64 z9),.sl .write z10,.v (.int .i64 z11),.v (.int .i64 z12),.sl .i64 z13,.sl .digest z14,.sl .row z15,.v (.int .i64 z16),.v (.int .i64 z17),.v (.bool z18)])),(7,some (.arr 5 1 (.ty .u8 z19)))]⟩=>some (z0,z1,⟨z2,z3,⟨z4,z5,⟨z6,z7⟩,⟨z8,z9⟩,z10⟩,z11,z12,z13,z14,z15,⟨z16,z17⟩,z18⟩,z19)
 |_=>none
theorem Agp:∀s x,OO s=some x→s=L5 x:=fun s x h=>by
 unfold OO at h
 split at h
 ·cases h;rfl
 ·cases h
def X7:Cz:=⟨7,8,[0,3,5,8],[],[(0,0),(8,7)],[0,8],[5],[7,0]⟩
def Awi:CX:=⟨[],[(0,0),(6,7)],[0,3,5,8],[0,6]⟩
def LB (_a0:List Ab) (a1:Int) (a2:TMsg) (_a3:List UInt8):Bool:=!!decide (a1 <(↑a2.8.length:Int))
def MZ (a0:List Ab) (a1:Int) (a2:TMsg) (a3:List UInt8):List UInt8:=a3++HE a0 (a2.8.getD a1.toNat (Ae TC.row))
def EI (x:Cp):Cp:=(x.1,IntKind.i64.wrap (x.2.1+(1:Int)),x.2.2.1,MZ x.1 x.2.1 x.2.2.1 x.2.2.2)
def EH (x:Cp):Cnd:=some ((LB x.1 x.2.1 x.2.2.1 x.2.2.2))
def M0 (x:Cp):List Prop:=[((LB x.1 x.2.1 x.2.2.1 x.2.2.2)=true→(0:Int)≤x.2.1∧x.2.1 <(↑x.2.2.1.8.length:Int)),((LB x.1 x.2.1 x.2.2.1 x.2.2.2)=true→Ad (x.2.2.2.length+(1024:Nat))∧∀(g:Ab),g∈x.1→Am g.1.size)]
abbrev H7:Cp→List Prop:=M0
def RA (x:Cp):AR:=[(some 5,some (!decide (x.2.1 <(↑x.2.2.1.8.length:Int))),⟨96,8,[(5,.sq 7)],[(7,some (.arr 5 1 (.ty .u8 x.2.2.2))),(0,some (.box 34 [.v (.int .i64 x.2.2.1.1),.v (.int .i64 x.2.2.1.2),.v (.int .i64 x.2.2.1.3.1),.v (.int .i64 x.2.2.1.3.2),.v (.int .i64 x.2.2.1.3.3.1),.v (.int .i64 x.2.2.1.3.3.2),.v (.int .i64 x.2.2.1.3.4.1),.v (.int .i64 x.2.2.1.3.4.2),.sl .write x.2.2.1.3.5,.v (.int .i64 x.2.2.1.4),.v (.int .i64 x.2.2.1.5),.sl .i64 x.2.2.1.6,.sl .digest x.2.2.1.7,.sl .row x.2.2.1.8,.v (.int .i64 x.2.2.1.9.1),.v (.int .i64 x.2.2.1.9.2),.v (.bool x.2.2.1.10)]))]⟩)]
def GJ (x:Cp):Nat:=((↑x.2.2.1.8.length:Int) - x.2.1).toNat
def TL (x:Cp):Cp:=AF EI EH (GJ x) x
theorem Ata (a0:List Ab) (a1:Int) (a2:TMsg) (a3:List UInt8):Ba (As Z8 L1) 9 (Ag Tryz.prog 23 5) X7 (L5 (a0,a1,a2,a3))=some (M0 (a0,a1,a2,a3),RA (a0,a1,a2,a3),EH (a0,a1,a2,a3),L5 (EI (a0,a1,a2,a3))):=by kernel_rfl
theorem Atb (a0:List Ab) (a1:Int) (a2:TMsg) (a3:List UInt8) (hp:∀p∈H7 (a0,a1,a2,a3),p):∀p∈M0 (a0,a1,a2,a3),p:=hp
noncomputable def TK:=HB (As Z8 L1) (Ag Tryz.prog 23 5) X7 Awi OO GJ EI EH H7 RA
theorem Amv:∀s b ps outs,TK s=some (b,ps,outs)→Wf s ⟨ps,outs,none⟩∧Bg (As C0 L0) b s ps outs:=
 AT (T:=L5) TY TE (u:=9) (by kernel_rfl) (by decide) (fun⟨a0,a1,a2,a3⟩=>Ata a0 a1 a2 a3) (fun⟨a0,a1,a2,a3⟩=>Atb a0 a1 a2 a3) Agp (fun _=>AD (n:=96) rfl) fun _ _=>rfl
noncomputable def X6:=Dd 5 TK L1
theorem Amu:G9 X6:=AH Amv TE
def A9 (_a0:List Ab) (a1:TMsg):List UInt8:=[]++Ap a1.1++Ap a1.2
def AP (a0:List Ab) (a1:TMsg):List UInt8:=(A9 a0 a1)++JR a1.6
def Ja (a0:List Ab) (a1:TMsg):List UInt8:=(A9 a0 a1)++Ap a1.4
def Bk (_a0:List Ab) (a1:TMsg):Bool:=a1.1==(1:Int)||(a1.1==(2:Int)||bif a1.1==(3:Int) then a1.1==(3:Int) else a1.1==(4:Int))
def D8 (a0:List Ab) (a1:TMsg):List UInt8:=bif a1.10 then(AP a0 a1)++Ic a1.9++Ap (1:Int) else(AP a0 a1)++Ic a1.9++Ap (0:Int)
def ZC (a0:List Ab) (a1:TMsg):List UInt8:=bif(Bk a0 a1) then bif a1.1==(1:Int) then(A9 a0 a1)++Le a0 a1.3 else bif a1.1==(2:Int) then(Ja a0 a1)++Ap a1.5 else(TH ((0:Int),a1,(AP a0 a1))).snd.snd else(TL (a0,(0:Int),TMsg.mk (bif a1.10 then a1.1 else a1.1) (bif a1.10 then a1.2 else a1.2) (TChange.mk (bif a1.10 then a1.3.1 else a1.3.1) (bif a1.10 then a1.3.2 else a1.3.2) (TStamp.mk (bif a1.10 then a1.3.3.1 else a1.3.3.1) (bif a1.10 then a1.3.3.2 else a1.3.3.2)) (TVec.mk (bif a1.10 then a1.3.4.1 else a1.3.4.1) (bif a1.10 then a1.3.4.2 else a1.3.4.2)) (bif a1.10 then a1.3.5 else a1.3.5)) (bif a1.10 then a1.4 else a1.4) (bif a1.10 then a1.5 else a1.5) (bif a1.10 then a1.6 else a1.6) (bif a1.10 then a1.7 else a1.7) (bif a1.10 then a1.8 else a1.8) (TVec.mk (bif a1.10 then a1.9.1 else a1.9.1) (bif a1.10 then a1.9.2 else a1.9.2)) (bif a1.10 then a1.10 else a1.10),(D8 a0 a1)++Ap (↑(bif a1.10 then a1.8 else a1.8).length:Int))).snd.snd.snd
def Atc (_a0:List Ab) (_a1:TMsg):A:=.sq 0
def ZD (a0:List Ab) (a1:TMsg):Objs:=[(0,some (.arr 5 1 (.ty .u8 (ZC a0 a1))))]
def Aju (a0:List Ab) (a1:TMsg):List Prop:=[(Ad (([]++Ap a1.1).length+(8:Nat))),((a1.1==(1:Int))=true→Am a1.3.5.length∧Ad ((A9 a0 a1).length+(2048:Nat))∧∀(g:Ab),g∈a0→Am g.1.size),((a1.1==(1:Int))=false→(a1.1==(2:Int))=true→Ad ((A9 a0 a1).length+(8:Nat))),((a1.1==(1:Int))=false→(a1.1==(2:Int))=true→Ad ((Ja a0 a1).length+(8:Nat))),((a1.1==(1:Int))=false→(a1.1==(2:Int))=false→(bif a1.1==(3:Int) then a1.1==(3:Int) else a1.1==(4:Int))=true→paP a1.6.length (A9 a0 a1).length),((a1.1==(1:Int))=false→(a1.1==(2:Int))=false→(bif a1.1==(3:Int) then a1.1==(3:Int) else a1.1==(4:Int))=true→Ax ED EC H4 (GI ((0:Int),a1,(AP a0 a1))) ((0:Int),a1,(AP a0 a1))),((!(Bk a0 a1))=true→paP a1.6.length (A9 a0 a1).length),((!(Bk a0 a1))=true→Ad ((AP a0 a1).length+(16:Nat))),((!(Bk a0 a1))=true→a1.10=true→Ad (((AP a0 a1)++Ic a1.9).length+(8:Nat))),((!(Bk a0 a1))=true→a1.10=false→Ad (((AP a0 a1)++Ic a1.9).length+(8:Nat))),((!(Bk a0 a1))=true→Ad ((D8 a0 a1).length+(8:Nat))),((!(Bk a0 a1))=true→Ax EI EH H7 (GJ (a0,(0:Int),TMsg.mk (bif a1.10 then a1.1 else a1.1) (bif a1.10 then a1.2 else a1.2) (TChange.mk (bif a1.10 then a1.3.1 else a1.3.1) (bif a1.10 then a1.3.2 else a1.3.2) (TStamp.mk (bif a1.10 then a1.3.3.1 else a1.3.3.1) (bif a1.10 then a1.3.3.2 else a1.3.3.2)) (TVec.mk (bif a1.10 then a1.3.4.1 else a1.3.4.1) (bif a1.10 then a1.3.4.2 else a1.3.4.2)) (bif a1.10 then a1.3.5 else a1.3.5)) (bif a1.10 then a1.4 else a1.4) (bif a1.10 then a1.5 else a1.5) (bif a1.10 then a1.6 else a1.6) (bif a1.10 then a1.7 else a1.7) (bif a1.10 then a1.8 else a1.8) (TVec.mk (bif a1.10 then a1.9.1 else a1.9.1) (bif a1.10 then a1.9.2 else a1.9.2)) (bif a1.10 then a1.10 else a1.10),(D8 a0 a1)++Ap (↑(bif a1.10 then a1.8 else a1.8).length:Int))) (a0,(0:Int),TMsg.mk (bif a1.10 then a1.1 else a1.1) (bif a1.10 then a1.2 else a1.2) (TChange.mk (bif a1.10 then a1.3.1 else a1.3.1) (bif a1.10 then a1.3.2 else a1.3.2) (TStamp.mk (bif a1.10 then a1.3.3.1 else a1.3.3.1) (bif a1.10 then a1.3.3.2 else a1.3.3.2)) (TVec.mk (bif a1.10 then a1.3.4.1 else a1.3.4.1) (bif a1.10 then a1.3.4.2 else a1.3.4.2)) (bif a1.10 then a1.3.5 else a1.3.5)) (bif a1.10 then a1.4 else a1.4) (bif a1.10 then a1.5 else a1.5) (bif a1.10 then a1.6 else a1.6) (bif a1.10 then a1.7 else a1.7) (bif a1.10 then a1.8 else a1.8) (TVec.mk (bif a1.10 then a1.9.1 else a1.9.1) (bif a1.10 then a1.9.2 else a1.9.2)) (bif a1.10 then a1.10 else a1.10),(D8 a0 a1)++Ap (↑(bif a1.10 then a1.8 else a1.8).length:Int)))]
theorem A8w (a0:List Ab) (a1:TMsg):Hz (As Z8 X6) 9 23 [.sl .group a0,Ai .msg a1] 0 []=some (1,Atc a0 a1,1,ZD a0 a1,[(Ad (8:Nat)),(Ad (([]++Ap a1.1).length+(8:Nat))),((a1.1==(1:Int))=true→Am a1.3.5.length∧Ad ((A9 a0 a1).length+(2048:Nat))∧∀(g:Ab),g∈a0→Am g.1.size),((a1.1==(1:Int))=false→(a1.1==(2:Int))=true→Ad ((A9 a0 a1).length+(8:Nat))),((a1.1==(1:Int))=false→(a1.1==(2:Int))=true→Ad ((Ja a0 a1).length+(8:Nat))),((a1.1==(1:Int))=false→(a1.1==(2:Int))=false→(bif a1.1==(3:Int) then a1.1==(3:Int) else a1.1==(4:Int))=true→paP a1.6.length (A9 a0 a1).length),((a1.1==(1:Int))=false→(a1.1==(2:Int))=false→(bif a1.1==(3:Int) then a1.1==(3:Int) else a1.1==(4:Int))=true→Ag Tryz.prog (23:FuncId) (1:Nat)=Ag Tryz.prog (23:FuncId) (1:Nat)),((a1.1==(1:Int))=false→(a1.1==(2:Int))=false→(bif a1.1==(3:Int) then a1.1==(3:Int) else a1.1==(4:Int))=true→Ax ED EC H4 (GI ((0:Int),a1,(AP a0 a1))) ((0:Int),a1,(AP a0 a1))),((!(Bk a0 a1))=true→paP a1.6.length (A9 a0 a1).length),((!(Bk a0 a1))=true→Ad ((AP a0 a1).length+(16:Nat))),((!(Bk a0 a1))=true→a1.10=true→Ad (((AP a0 a1)++Ic a1.9).length+(8:Nat))),((!(Bk a0 a1))=true→a1.10=false→Ad (((AP a0 a1)++Ic a1.9).length+(8:Nat))),((!(Bk a0 a1))=true→Ad ((D8 a0 a1).length+(8:Nat))),((!(Bk a0 a1))=true→Ag Tryz.prog (23:FuncId) (5:Nat)=Ag Tryz.prog (23:FuncId) (5:Nat)),((!(Bk a0 a1))=true→Ax EI EH H7 (GJ (a0,(0:Int),TMsg.mk (bif a1.10 then a1.1 else a1.1) (bif a1.10 then a1.2 else a1.2) (TChange.mk (bif a1.10 then a1.3.1 else a1.3.1) (bif a1.10 then a1.3.2 else a1.3.2) (TStamp.mk (bif a1.10 then a1.3.3.1 else a1.3.3.1) (bif a1.10 then a1.3.3.2 else a1.3.3.2)) (TVec.mk (bif a1.10 then a1.3.4.1 else a1.3.4.1) (bif a1.10 then a1.3.4.2 else a1.3.4.2)) (bif a1.10 then a1.3.5 else a1.3.5)) (bif a1.10 then a1.4 else a1.4) (bif a1.10 then a1.5 else a1.5) (bif a1.10 then a1.6 else a1.6) (bif a1.10 then a1.7 else a1.7) (bif a1.10 then a1.8 else a1.8) (TVec.mk (bif a1.10 then a1.9.1 else a1.9.1) (bif a1.10 then a1.9.2 else a1.9.2)) (bif a1.10 then a1.10 else a1.10),(D8 a0 a1)++Ap (↑(bif a1.10 then a1.8 else a1.8).length:Int))) (a0,(0:Int),TMsg.mk (bif a1.10 then a1.1 else a1.1) (bif a1.10 then a1.2 else a1.2) (TChange.mk (bif a1.10 then a1.3.1 else a1.3.1) (bif a1.10 then a1.3.2 else a1.3.2) (TStamp.mk (bif a1.10 then a1.3.3.1 else a1.3.3.1) (bif a1.10 then a1.3.3.2 else a1.3.3.2)) (TVec.mk (bif a1.10 then a1.3.4.1 else a1.3.4.1) (bif a1.10 then a1.3.4.2 else a1.3.4.2)) (bif a1.10 then a1.3.5 else a1.3.5)) (bif a1.10 then a1.4 else a1.4) (bif a1.10 then a1.5 else a1.5) (bif a1.10 then a1.6 else a1.6) (bif a1.10 then a1.7 else a1.7) (bif a1.10 then a1.8 else a1.8) (TVec.mk (bif a1.10 then a1.9.1 else a1.9.1) (bif a1.10 then a1.9.2 else a1.9.2)) (bif a1.10 then a1.10 else a1.10),(D8 a0 a1)++Ap (↑(bif a1.10 then a1.8 else a1.8).length:Int)))]):=by kernel_rfl
theorem Bdq (a0:List Ab) (a1:TMsg) (hp:∀p∈Aju a0 a1,p):CallOk Tryz.prog 23 [.sl .group a0,Ai .msg a1] 0 [] 1 (Atc a0 a1) 1 (ZD a0 a1):=by
 have n0:(Ad (8:Nat)):=by first|rfl|decide+kernel
 have n1:=N0 hp
 have n2:=N0 (N1 hp)
 have n3:=N0 (N1 (N1 hp))
 have n4:=N0 (N1 (N1 (N1 hp)))
 have n5:=N0 (N1 (N1 (N1 (N1 hp))))
 have n6:((a1.1==(1:Int))=false→(a1.1==(2:Int))=false→(bif a1.1==(3:Int) then a1.1==(3:Int) else a1.1==(4:Int))=true→Ag Tryz.prog (23:FuncId) (1:Nat)=Ag Tryz.prog (23:FuncId) (1:Nat)):=by intros;rfl
 have n7:=N0 (N1 (N1 (N1 (N1 (N1 hp)))))
 have n8:=N0 (N1 (N1 (N1 (N1 (N1 (N1 hp))))))
 have n9:=N0 (N1 (N1 (N1 (N1 (N1 (N1 (N1 hp)))))))
 have n10:=N0 (N1 (N1 (N1 (N1 (N1 (N1 (N1 (N1 hp))))))))
 have n11:=N0 (N1 (N1 (N1 (N1 (N1 (N1 (N1 (N1 (N1 hp)))))))))
 have n12:=N0 (N1 (N1 (N1 (N1 (N1 (N1 (N1 (N1 (N1 (N1 hp))))))))))
 have n13:((!(Bk a0 a1))=true→Ag Tryz.prog (23:FuncId) (5:Nat)=Ag Tryz.prog (23:FuncId) (5:Nat)):=by intros;rfl
 have n14:=N0 (N1 (N1 (N1 (N1 (N1 (N1 (N1 (N1 (N1 (N1 (N1 hp)))))))))))
 exact AB (Ar TY Amu) (A8w a0 a1) (Aa n0 (Aa n1 (Aa n2 (Aa n3 (Aa n4 (Aa n5 (Aa n6 (Aa n7 (Aa n8 (Aa n9 (Aa n10 (Aa n11 (Aa n12 (Aa n13 (Aa n14 Af)))))))))))))))
def Ajv (_a0:List Ab) (_a1:TMsg):A:=.sq 0
def Ajt (a0:List Ab) (a1:TMsg):Objs:=[(0,some (.arr 5 1 (.ty .u8 (Pi a0 a1))))]
def Ac0 (a0:List Ab) (a1:TMsg):List Prop:=[D7 a0 a1=0∧DD a1∧∀g∈a0,Am g.1.size]
theorem Bxl (d:List UInt8) (k:Nat) (hk:k <32):((List.range 32).map fun j=>((d.getD j 0).toNat:Int)).getD k 0=((d.getD k 0).toNat:Int):=by
 rw[List.getD_eq_getElem?_getD,List.getElem?_map,List.getElem?_range hk]
 rfl
theorem Bcb (d:List UInt8) (k:Nat) (hk:k <32):(CB d).take (k+1)=(CB d).take k++[d.getD k 0]:=by
 rw[List.take_add_one]
 congr 1
 unfold CB
 rw[List.getElem?_map,List.getElem?_range hk]
 rfl
theorem Btg (x:UInt8):UInt8.ofNat ((x.toNat:Nat):Int).toNat=x:=by rw[Int.toNat_natCast,UInt8.ofNat_toNat]
theorem Bfy (m:TMsg) (b:List UInt8) (i k:Nat) (hk:k <32):EE (i:Int) (k:Int) m b=(((m.sums.getD i (Ae TC.digest)).getD k 0).toNat:Int):=by
 rw[←Bxl _ k hk]
 unfold EE
 rw[Int.toNat_natCast,Int.toNat_natCast]
 rfl
theorem Bf0 (m:TMsg) (i:Nat) (hi:i <m.sums.length) (b:List UInt8) (hb:Ad (b.length+32)):
  Ax EG EF H6 32 ((i:Int),0,m,b)∧J1 ((i:Int),0,m,b)=((i:Int),32,m,b++CB (m.sums.getD i (Ae TC.digest))):=by
 unfold Ad at hb
 have hin:∀k:Nat,(!!decide ((k:Int) <32))=true→k <32:=fun k h=>by rw[nn] at h;have:=of_decide_eq_true h;omega
 obtain⟨h1,h2⟩:=Am8 (fun k=>(((i:Int),(k:Int),m,b++(CB (m.sums.getD i (Ae TC.digest))).take k):Co)) 32 EG EF H6 32 ((i:Int),0,m,b) (by simp) (Nat.le_refl _)
  (fun k _=>by
   show(!!decide ((k:Int) <32))=_
   rw[nn]
   exact Mu (n:=32))
  (fun k hk=>by
   show((i:Int),IntKind.i64.wrap ((k:Int)+1),m,MX (i:Int) (k:Int) m (b++(CB (m.sums.getD i (Ae TC.digest))).take k))=_
   unfold MX
   rw[Fz (by omega),Bfy m _ i k hk,Btg,Bcb _ k hk,List.append_assoc])
  (fun k hk=>by
   have hl:((CB (m.sums.getD i (Ae TC.digest))).take k).length≤32:=by rw[List.length_take,Rk];omega
   refine Aa (fun _=>by show(0:Int)≤(i:Int)∧(i:Int) <(m.sums.length:Int);omega) (Aa (fun h=>by have:=hin k h;show(0:Int)≤(k:Int)∧(k:Int) <32;omega) (Aa (fun h=>?_) (Aa (fun h=>?_) Af)))
   ·have h5:=hin k h
    show Ad ((b++(CB (m.sums.getD i (Ae TC.digest))).take k).length+1)
    have:((CB (m.sums.getD i (Ae TC.digest))).take k).length=k:=by rw[List.length_take,Rk];omega
    rw[List.length_append];unfold Ad;omega
   ·have h5:=hin k h
    show(0:Int)≤EE (i:Int) (k:Int) m _∧EE (i:Int) (k:Int) m _ <256
    rw[Bfy m _ i k h5]
    have:=((m.sums.getD i (Ae TC.digest)).getD k 0).toNat_lt
    omega)
 refine⟨h1,?_⟩
 have h3:J1 ((i:Int),0,m,b)=((i:Int),((32:Nat):Int),m,b++(CB (m.sums.getD i (Ae TC.digest))).take 32):=h2
 rw[h3,List.take_of_length_le (by rw[Rk];exact Nat.le_refl _)]
 rfl
theorem Bfv (l:List (List UInt8)) (i:Nat):((l.take i).flatMap CB).length≤32*l.length:=by
 have:=Nq CB 32 (l.take i) fun d _=>Nat.le_of_eq (Rk d)
 have h2:(l.take i).length≤l.length:=by rw[List.length_take];omega
 have:=Nat.mul_le_mul_left 32 h2
 omega
theorem Bqh (m:TMsg) (hl:m.sums.length≤16) (b:List UInt8) (hb:Ad (b.length+1024)):
  Ax ED EC H4 (GI (0,m,b)) (0,m,b)∧TH (0,m,b)=((m.sums.length:Int),m,b++m.sums.flatMap CB):=by
 unfold Ad at hb
 have hin:∀i:Nat,(!!decide ((i:Int) <(m.sums.length:Int)))=true→i <m.sums.length:=fun k h=>by rw[nn] at h;have:=of_decide_eq_true h;omega
 have hlen:∀i,(b++(m.sums.take i).flatMap CB).length+32≤b.length+1024:=fun i=>by
  have:=Bfv m.sums i
  rw[List.length_append]
  omega
 obtain⟨h1,h2⟩:=Am8 (fun i=>(((i:Int),m,b++(m.sums.take i).flatMap CB):Cm)) m.sums.length ED EC H4 (GI (0,m,b)) (0,m,b) (by simp) (by show m.sums.length≤((m.sums.length:Int) - 0).toNat;omega)
  (fun i _=>by
   show(!!decide ((i:Int) <(m.sums.length:Int)))=_
   rw[nn,Mu])
  (fun i hi=>by
   have h3:=(Bf0 m i hi (b++(m.sums.take i).flatMap CB) (by have:=hlen i;unfold Ad;omega)).2
   show(IntKind.i64.wrap ((i:Int)+1),MV (i:Int) m (b++(m.sums.take i).flatMap CB),MW (i:Int) m (b++(m.sums.take i).flatMap CB))=_
   unfold MV MW
   rw[h3,Fz (by omega),Me CB m.sums (Ae TC.digest) i hi,List.append_assoc])
  (fun i _=>Aa (fun h=>(Bf0 m i (hin i h) (b++(m.sums.take i).flatMap CB) (by have:=hlen i;unfold Ad;omega)).1) Af)
 exact⟨h1,by show AF _ _ _ _=_;rw[h2,List.take_length]⟩
theorem Bfw (l:List Ab) (rows:List Ak) (i:Nat):((rows.take i).flatMap (HE l)).length≤1024*rows.length:=by
 have:=Nq (HE l) 1024 (rows.take i) fun r _=>Biv l r
 have h2:(rows.take i).length≤rows.length:=by rw[List.length_take];omega
 have:=Nat.mul_le_mul_left 1024 h2
 omega
theorem Bqi (l:List Ab) (m:TMsg) (hl:m.rows.length≤256) (hg:∀g∈l,Am g.1.size) (b:List UInt8) (hb:Ad (b.length+300000)):
  Ax EI EH H7 (GJ (l,0,m,b)) (l,0,m,b)∧TL (l,0,m,b)=(l,(m.rows.length:Int),m,b++m.rows.flatMap (HE l)):=by
 unfold Ad at hb
 have hin:∀i:Nat,(!!decide ((i:Int) <(m.rows.length:Int)))=true→i <m.rows.length:=fun k h=>by rw[nn] at h;have:=of_decide_eq_true h;omega
 obtain⟨h1,h2⟩:=Am8 (fun i=>((l,(i:Int),m,b++(m.rows.take i).flatMap (HE l)):Cp)) m.rows.length EI EH H7 (GJ (l,0,m,b)) (l,0,m,b) (by simp) (by show m.rows.length≤((m.rows.length:Int) - 0).toNat;omega)
  (fun i _=>by
   show(!!decide ((i:Int) <(m.rows.length:Int)))=_
   rw[nn,Mu])
  (fun i hi=>by
   show(l,IntKind.i64.wrap ((i:Int)+1),m,MZ l (i:Int) m (b++(m.rows.take i).flatMap (HE l)))=_
   unfold MZ
   rw[Fz (by omega),Int.toNat_natCast,Me (HE l) m.rows (Ae TC.row) i hi,List.append_assoc])
  (fun i _=>by
   have hf:=Bfw l m.rows i
   refine Aa (fun h=>by have:=hin i h;show(0:Int)≤(i:Int)∧(i:Int) <(m.rows.length:Int);omega) (Aa (fun h=>⟨?_,hg⟩) Af)
   show Ad ((b++(m.rows.take i).flatMap (HE l)).length+1024)
   rw[List.length_append];unfold Ad;omega)
 exact⟨h1,by show AF _ _ _ _=_;rw[h2,List.take_length]⟩
theorem A68 (m:TMsg):TMsg.mk (bif m.10 then m.1 else m.1) (bif m.10 then m.2 else m.2) (TChange.mk (bif m.10 then m.3.1 else m.3.1) (bif m.10 then m.3.2 else m.3.2) (TStamp.mk (bif m.10 then m.3.3.1 else m.3.3.1) (bif m.10 then m.3.3.2 else m.3.3.2)) (TVec.mk (bif m.10 then m.3.4.1 else m.3.4.1) (bif m.10 then m.3.4.2 else m.3.4.2)) (bif m.10 then m.3.5 else m.3.5)) (bif m.10 then m.4 else m.4) (bif m.10 then m.5 else m.5) (bif m.10 then m.6 else m.6) (bif m.10 then m.7 else m.7) (bif m.10 then m.8 else m.8) (TVec.mk (bif m.10 then m.9.1 else m.9.1) (bif m.10 then m.9.2 else m.9.2)) (bif m.10 then m.10 else m.10)=m:=by
 cases m with|mk a b c d e f g h i q=>cases q<;>rfl
theorem Azm (m:TMsg):(bif m.10 then m.8 else m.8)=m.rows:=by cases m.10<;>rfl
theorem Bfz (l:List Ab) (m:TMsg):A9 l m=Ap m.kind++Ap m.site:=by unfold A9;rw[List.nil_append]
theorem A6m (l:List Ab) (m:TMsg):D8 l m=AP l m++(Ic m.know++Ap (bif m.back then 1 else 0)):=by
 unfold D8
 have e:m.10=m.back:=rfl
 rw[e]
 cases m.back<;>simp only[cond_true,cond_false,List.append_assoc]<;>rfl
theorem Bl9 (l:List Ab) (m:TMsg):(A9 l m).length≤16:=by
 rw[Bfz,List.length_append]
 have h1:=A3 m.kind
 have h2:=A3 m.site
 omega
theorem Biu {p:List Int} (h:p.length≤2):(JR p).length≤24:=by
 unfold JR
 rw[List.length_append]
 have h1:=A3 (p.length:Int)
 have h2:=Nq Ap 8 p fun n _=>A3 n
 omega
theorem A8v {l:List Ab} {m:TMsg} (h0:D7 l m=0) (hm:DD m) (hg:∀g∈l,Am g.1.size):(∀p∈Aju l m,p)∧ZC l m=Pi l m:=by
 obtain⟨_,hok⟩:=Sh.1 h0
 obtain⟨_,hpa,_,hsu,hk⟩:=U4 hok
 have hp2:=A13 hpa
 have h16:=Bl9 l m
 have hpp:=Biu hp2
 have h8:=A3 m.ack
 have hv:=Ny m.know
 have h9:=A3 (bif m.back then 1 else 0)
 have h10:=A3 (m.rows.length:Int)
 have k3:(AP l m).length=(A9 l m).length+(JR m.path).length:=by unfold AP;rw[List.length_append]
 have k2:(Ja l m).length=(A9 l m).length+(Ap m.ack).length:=by unfold Ja;rw[List.length_append]
 have k0:(D8 l m).length=(AP l m).length+((Ic m.know).length+(Ap (bif m.back then 1 else 0)).length):=by rw[A6m,List.length_append,List.length_append]
 have h5:(!(Bk l m))=true→m.rows.length≤256:=fun h=>by
  unfold Bk at h
  have e:m.1=m.kind:=rfl
  rw[e] at h
  rcases hk with k|k|k|k|k
  ·rw[k.1] at h;cases h
  ·rw[k.1] at h;cases h
  ·rw[k.1] at h;cases h
  ·rw[k.1] at h;cases h
  ·exact k.2.2.1
 have l1:=Bqh m hsu (AP l m) (by unfold Ad;omega)
 have l5:m.rows.length≤256→_:=fun h=>Bqi l m h hg (D8 l m++Ap (m.rows.length:Int)) (by rw[List.length_append,k0];unfold Ad;omega)
 refine⟨Aa (by rw[List.nil_append];have:=A3 m.kind;show Ad ((Ap m.kind).length+8);unfold Ad;omega) (Aa (fun _=>⟨hm.1,by unfold Ad;omega,hg⟩) (Aa (fun _ _=>by unfold Ad;omega) (Aa (fun _ _=>by rw[k2];unfold Ad;omega) (Aa (fun _ _ _=>⟨by show m.path.length≤_;omega,by omega⟩) (Aa (fun _ _ _=>l1.1) (Aa (fun _=>⟨by show m.path.length≤_;omega,by omega⟩) (Aa (fun _=>by rw[k3];unfold Ad;omega) (Aa (fun _ _=>?_) (Aa (fun _ _=>?_) (Aa (fun _=>by rw[k0];unfold Ad;omega) (Aa (fun h=>?_) Af))))))))))),?_⟩
 ·show Ad ((AP l m++Ic m.know).length+8);rw[List.length_append];unfold Ad;omega
 ·show Ad ((AP l m++Ic m.know).length+8);rw[List.length_append];unfold Ad;omega
 ·have:=(l5 (h5 h)).1
  rw[A68,Azm]
  exact this
 ·have hpre:A9 l m=Ap m.kind++Ap m.site:=Bfz l m
  unfold ZC
  rw[A68,Azm,l1.2]
  have e1:Bk l m=(m.kind==1||(m.kind==2||bif m.kind==3 then m.kind==3 else m.kind==4)):=rfl
  have e2:Ja l m=A9 l m++Ap m.ack:=rfl
  have e3:AP l m=A9 l m++JR m.path:=rfl
  rw[e1]
  unfold Pi Bnz Bml
  rcases hk with k|k|k|k|k
  ·rw[k.1]
   show A9 l m++Le l m.change=Ap 1++(Ap m.site++Le l m.change)
   rw[hpre,k.1,List.append_assoc]
  ·rw[k.1]
   show Ja l m++Ap m.own=Ap 2++(Ap m.site++(Ap m.ack++Ap m.own))
   rw[e2,hpre,k.1];simp only[List.append_assoc]
  ·rw[k.1]
   show AP l m++m.sums.flatMap CB=Ap 3++(Ap m.site++(JR m.path++(m.sums.flatMap CB++[])))
   rw[e3,hpre,k.1,List.append_nil];simp only[List.append_assoc]
  ·rw[k.1]
   show AP l m++m.sums.flatMap CB=Ap 4++(Ap m.site++(JR m.path++(m.sums.flatMap CB++[])))
   rw[e3,hpre,k.1,List.append_nil];simp only[List.append_assoc]
  ·have hs:m.sums=[]:=by
    rcases(U4 hok).2.2.1 with q|q|q
    ·have:=k.1;omega
    ·have:=k.1;omega
    ·exact q
   rw[(l5 k.2.2.1).2,k.1]
   show D8 l m++Ap (m.rows.length:Int)++m.rows.flatMap (HE l)=Ap 5++(Ap m.site++(JR m.path++(m.sums.flatMap CB++(Ic m.know++(Ap (bif m.back then 1 else 0)++(Ap (m.rows.length:Int)++m.rows.flatMap (HE l)))))))
   rw[A6m,e3,hpre,k.1,hs]
   simp only[List.append_assoc,List.flatMap_nil,List.nil_append]
theorem A8u (a0:List Ab) (a1:TMsg) (hp:∀p∈Ac0 a0 a1,p):CallOk Tryz.prog 23 [.sl .group a0,Ai .msg a1] 0 [] 1 (Ajv a0 a1) 1 (Ajt a0 a1):=by
 obtain⟨h0,hm,hg⟩:=hp _ (List.mem_cons_self ..)
 obtain⟨h1,h2⟩:=A8v h0 hm hg
 have h:=Bdq a0 a1 h1
 unfold ZD at h
 rw[h2] at h
 exact h
def Atd:List A→Nat→Objs→Option A6:=Bt [.l .group,.t .msg] 1 Ajv Ajt Ac0
theorem A2z:HF Tryz.prog 23 Atd:=Av (ks:=[.l .group,.t .msg]) A8u
noncomputable def Bkt:=AS 23 Atd Z8
theorem A4y:Cr Tryz.prog Bkt:=An A2z TY
def JT (a0:List Ab) (a1:TMsg):Bool:=D7 a0 a1 !=(0:Int)
def LZ (a0:List Ab) (a1:TMsg):Bool:=decide ((↑(Pi a0 a1).length:Int) >(1048576:Int))
def SL (a0:List Ab) (a1:TMsg):Int:=bif(JT a0 a1) then D7 a0 a1 else bif(LZ a0 a1) then(3:Int) else(0:Int)
def SM (a0:List Ab) (a1:TMsg):List UInt8:=bif(JT a0 a1) then[] else bif(LZ a0 a1) then[] else Ad4 (Pi a0 a1)
def SO (a0:List Ab) (a1:TMsg):A:=.tup [.sq 0,.v (.int .i64 (SL a0 a1))]
def SN (a0:List Ab) (a1:TMsg):Objs:=[(0,some (.arr 5 1 (.ty .u8 (SM a0 a1))))]
def X2 (a0:List Ab) (a1:TMsg):List Prop:=[(DD a1∧∀(g:Ab),g∈a0→Am g.1.size),((!(JT a0 a1))=true→D7 a0 a1=(0:Int)∧DD a1∧∀(g:Ab),g∈a0→Am g.1.size)]
theorem Awf (a0:List Ab) (a1:TMsg):Hz (As Bkt L0) 9 8 [.sl .group a0,Ai .msg a1] 0 []=some (1,SO a0 a1,1,SN a0 a1,X2 a0 a1):=by kernel_rfl
theorem A2y (a0:List Ab) (a1:TMsg) (hp:∀p∈X2 a0 a1,p):CallOk Tryz.prog 8 [.sl .group a0,Ai .msg a1] 0 [] 1 (SO a0 a1) 1 (SN a0 a1):=AB (Ar A4y AA) (Awf a0 a1) hp
def X3 (a0:List Ab) (a1:TMsg):A:=.tup [.sq 0,.v (.int .i64 (Au2 a0 a1))]
def X1 (a0:List Ab) (a1:TMsg):Objs:=[(0,some (.arr 5 1 (.ty .u8 (A52 a0 a1))))]
def VN (a0:List Ab) (a1:TMsg):List Prop:=[DD a1∧∀g∈a0,Am g.1.size]
theorem Bmm (n:Nat):decide ((n:Int) >1048576)=decide (1048576 <n):=decide_eq_decide.2 (by omega)
theorem A54 (l:List Ab) (m:TMsg):(bif D7 l m !=0 then[] else bif decide (1048576 <(Pi l m).length) then[] else Ad4 (Pi l m))=A52 l m:=by
 unfold A52 Au2
 cases h:D7 l m !=0 with
 |true=>
  have:(D7 l m==0)=false:=by simpa using h
  rw[cond_true,cond_true,this];rfl
 |false=>
  rw[cond_false,cond_false]
  cases decide (1048576 <(Pi l m).length)<;>rfl
theorem Awe (a0:List Ab) (a1:TMsg) (hp:∀p∈VN a0 a1,p):CallOk Tryz.prog 8 [.sl .group a0,Ai .msg a1] 0 [] 1 (X3 a0 a1) 1 (X1 a0 a1):=by
 obtain⟨hm,hg⟩:=hp _ (List.mem_cons_self ..)
 have h:=A2y a0 a1 (Aa ⟨hm,hg⟩ (Aa (fun h=>⟨by have h':(!(D7 a0 a1 !=0))=true:=h;simpa using h',hm,hg⟩) Af))
 have e0:SL a0 a1=Au2 a0 a1:=by
  unfold SL JT LZ Au2
  rw[Bmm]
 have e1:SM a0 a1=A52 a0 a1:=by
  rw[←A54]
  unfold SM JT LZ
  rw[Bmm]
 unfold SO SN at h
 rw[e0,e1] at h
 exact h
def Acz:List A→Nat→Objs→Option A6:=Bt [.l .group,.t .msg] 1 X3 X1 VN
theorem As5:HF Tryz.prog 8 Acz:=Av (ks:=[.l .group,.t .msg]) Awe
noncomputable def Bsu:=AS 8 Acz Bkt
theorem Bku:Cr Tryz.prog Bsu:=An As5 A4y
noncomputable def Cwd:=Bsu
theorem An8:Cr Tryz.prog Cwd:=Bku
end Go.Proofs.YtifkbgkbajncjaaGreatDoor
namespace Go.Proofs.YtifkbgkbajncjaaGreatDoor
open Go.RowKit
abbrev Bd:Type:=(List Int)×Int×Int×(List UInt8)
def JA (x:Bd):St:=⟨105,5,[(7,.sq 4),(35,.sl .i64 x.1),(36,.v (.int .i64 x.2.1)),(37,.v (.int .i64 x.2.2.1))],[(4,some (.arr 5 1 (.ty .u8 x.2.2.2)))]⟩
def K4:St→Option Bd
 |⟨105,5,[(7,.sq 4),(35,.sl .i64 z0),(36,.v (.int .i64 z1)),(37,.v (.int .i64 z2))],[(4,some (.arr 5 1 (.ty .u8 z3)))]⟩=>some (z0,z1,z2,z3)
 |_=>none
theorem Xe:∀s x,K4 s=some x→s=JA x:=fun s x h=>by
 unfold K4 at h
 split at h
 ·cases h;rfl
 ·cases h
def RN:Cz:=⟨4,5,[7,35,36,37],[],[(5,4)],[5],[7],[4]⟩
def Ag3:CX:=⟨[],[(3,4)],[7,35,36,37],[3]⟩
def Kg (a0:List Int) (_a1:Int) (a2:Int) (a3:List UInt8):List UInt8:=a3++Ap (a0.getD a2.toNat (Ae TC.i64))
def Bm (x:Bd):Bd:=(x.1,x.2.1,IntKind.i64.wrap (x.2.2.1+(1:Int)),Kg x.1 x.2.1 x.2.2.1 x.2.2.2)
def Bl (x:Bd):Cnd:=some (!!decide (x.2.2.1 <x.2.1))
def Kh (x:Bd):List Prop:=[((!!decide (x.2.2.1 <x.2.1))=true→(0:Int)≤x.2.2.1∧x.2.2.1 <(↑x.1.length:Int)),((!!decide (x.2.2.1 <x.2.1))=true→Ad (x.2.2.2.length+(8:Nat)))]
abbrev Ft:Bd→List Prop:=Kh
def Nj (x:Bd):AR:=[(some 1,some (!decide (x.2.2.1 <x.2.1)),⟨105,5,[(7,.sq 4)],[(4,some (.arr 5 1 (.ty .u8 x.2.2.2)))]⟩)]
def BS (x:Bd):Nat:=(x.2.1 - x.2.2.1).toNat
def B4 (x:Bd):Bd:=AF Bm Bl (BS x) x
theorem Adk (a0:List Int) (a1:Int) (a2:Int) (a3:List UInt8):Ba (As Cwd L0) 9 (Ag Tryz.prog 7 1) RN (JA (a0,a1,a2,a3))=some (Kh (a0,a1,a2,a3),Nj (a0,a1,a2,a3),Bl (a0,a1,a2,a3),JA (Bm (a0,a1,a2,a3))):=by kernel_rfl
theorem Adl (a0:List Int) (a1:Int) (a2:Int) (a3:List UInt8) (hp:∀p∈Ft (a0,a1,a2,a3),p):∀p∈Kh (a0,a1,a2,a3),p:=hp
noncomputable def OZ:=HB (As Cwd L0) (Ag Tryz.prog 7 1) RN Ag3 K4 BS Bm Bl Ft Nj
theorem Z1:∀s b ps outs,OZ s=some (b,ps,outs)→Wf s ⟨ps,outs,none⟩∧Bg (As C0 L0) b s ps outs:=
 AT (T:=JA) An8 AA (u:=9) (by kernel_rfl) (by decide) (fun⟨a0,a1,a2,a3⟩=>Adk a0 a1 a2 a3) (fun⟨a0,a1,a2,a3⟩=>Adl a0 a1 a2 a3) Xe (fun _=>AD (n:=105) rfl) fun _ _=>rfl
noncomputable def Jz:=Dd 1 OZ L0
theorem OY:G9 Jz:=AH Z1 AA
abbrev Be:Type:=(List (List UInt8))×Int×Int×(List UInt8)
def JC (x:Be):St:=⟨105,6,[(7,.sq 5),(46,.sl .digest x.1),(47,.v (.int .i64 x.2.1)),(48,.v (.int .i64 x.2.2.1))],[(5,some (.arr 5 1 (.ty .u8 x.2.2.2)))]⟩
def K5:St→Option Be
 |⟨105,6,[(7,.sq 5),(46,.sl .digest z0),(47,.v (.int .i64 z1)),(48,.v (.int .i64 z2))],[(5,some (.arr 5 1 (.ty .u8 z3)))]⟩=>some (z0,z1,z2,z3)
 |_=>none
theorem Xf:∀s x,K5 s=some x→s=JC x:=fun s x h=>by
 unfold K5 at h
 split at h
 ·cases h;rfl
 ·cases h
def RO:Cz:=⟨5,6,[7,46,47,48],[],[(7,5)],[7],[7],[5]⟩
def Ag4:CX:=⟨[],[(4,5)],[7,46,47,48],[4]⟩
def Fg (a0:List (List UInt8)) (_a1:Int) (a2:Int) (_a3:List UInt8):Int:=(↑(List.getD (a0.getD a2.toNat (Ae TC.digest)) (31:Nat) (0:UInt8)).toNat:Int)
def Ff (a0:List (List UInt8)) (_a1:Int) (a2:Int) (_a3:List UInt8):Int:=(↑(List.getD (a0.getD a2.toNat (Ae TC.digest)) (30:Nat) (0:UInt8)).toNat:Int)
def Fe (a0:List (List UInt8)) (_a1:Int) (a2:Int) (_a3:List UInt8):Int:=(↑(List.getD (a0.getD a2.toNat (Ae TC.digest)) (29:Nat) (0:UInt8)).toNat:Int)
def Fd (a0:List (List UInt8)) (_a1:Int) (a2:Int) (_a3:List UInt8):Int:=(↑(List.getD (a0.getD a2.toNat (Ae TC.digest)) (28:Nat) (0:UInt8)).toNat:Int)
def Fc (a0:List (List UInt8)) (_a1:Int) (a2:Int) (_a3:List UInt8):Int:=(↑(List.getD (a0.getD a2.toNat (Ae TC.digest)) (27:Nat) (0:UInt8)).toNat:Int)
def Fb (a0:List (List UInt8)) (_a1:Int) (a2:Int) (_a3:List UInt8):Int:=(↑(List.getD (a0.getD a2.toNat (Ae TC.digest)) (26:Nat) (0:UInt8)).toNat:Int)
def Fa (a0:List (List UInt8)) (_a1:Int) (a2:Int) (_a3:List UInt8):Int:=(↑(List.getD (a0.getD a2.toNat (Ae TC.digest)) (25:Nat) (0:UInt8)).toNat:Int)
def E9 (a0:List (List UInt8)) (_a1:Int) (a2:Int) (_a3:List UInt8):Int:=(↑(List.getD (a0.getD a2.toNat (Ae TC.digest)) (24:Nat) (0:UInt8)).toNat:Int)
def E8 (a0:List (List UInt8)) (_a1:Int) (a2:Int) (_a3:List UInt8):Int:=(↑(List.getD (a0.getD a2.toNat (Ae TC.digest)) (23:Nat) (0:UInt8)).toNat:Int)
def E7 (a0:List (List UInt8)) (_a1:Int) (a2:Int) (_a3:List UInt8):Int:=(↑(List.getD (a0.getD a2.toNat (Ae TC.digest)) (22:Nat) (0:UInt8)).toNat:Int)
def E6 (a0:List (List UInt8)) (_a1:Int) (a2:Int) (_a3:List UInt8):Int:=(↑(List.getD (a0.getD a2.toNat (Ae TC.digest)) (21:Nat) (0:UInt8)).toNat:Int)
def E5 (a0:List (List UInt8)) (_a1:Int) (a2:Int) (_a3:List UInt8):Int:=(↑(List.getD (a0.getD a2.toNat (Ae TC.digest)) (20:Nat) (0:UInt8)).toNat:Int)
def E4 (a0:List (List UInt8)) (_a1:Int) (a2:Int) (_a3:List UInt8):Int:=(↑(List.getD (a0.getD a2.toNat (Ae TC.digest)) (19:Nat) (0:UInt8)).toNat:Int)
def E3 (a0:List (List UInt8)) (_a1:Int) (a2:Int) (_a3:List UInt8):Int:=(↑(List.getD (a0.getD a2.toNat (Ae TC.digest)) (18:Nat) (0:UInt8)).toNat:Int)
def E2 (a0:List (List UInt8)) (_a1:Int) (a2:Int) (_a3:List UInt8):Int:=(↑(List.getD (a0.getD a2.toNat (Ae TC.digest)) (17:Nat) (0:UInt8)).toNat:Int)
def E1 (a0:List (List UInt8)) (_a1:Int) (a2:Int) (_a3:List UInt8):Int:=(↑(List.getD (a0.getD a2.toNat (Ae TC.digest)) (16:Nat) (0:UInt8)).toNat:Int)
def E0 (a0:List (List UInt8)) (_a1:Int) (a2:Int) (_a3:List UInt8):Int:=(↑(List.getD (a0.getD a2.toNat (Ae TC.digest)) (15:Nat) (0:UInt8)).toNat:Int)
def EZ (a0:List (List UInt8)) (_a1:Int) (a2:Int) (_a3:List UInt8):Int:=(↑(List.getD (a0.getD a2.toNat (Ae TC.digest)) (14:Nat) (0:UInt8)).toNat:Int)
def EY (a0:List (List UInt8)) (_a1:Int) (a2:Int) (_a3:List UInt8):Int:=(↑(List.getD (a0.getD a2.toNat (Ae TC.digest)) (13:Nat) (0:UInt8)).toNat:Int)
def EX (a0:List (List UInt8)) (_a1:Int) (a2:Int) (_a3:List UInt8):Int:=(↑(List.getD (a0.getD a2.toNat (Ae TC.digest)) (12:Nat) (0:UInt8)).toNat:Int)
def EW (a0:List (List UInt8)) (_a1:Int) (a2:Int) (_a3:List UInt8):Int:=(↑(List.getD (a0.getD a2.toNat (Ae TC.digest)) (11:Nat) (0:UInt8)).toNat:Int)
def EV (a0:List (List UInt8)) (_a1:Int) (a2:Int) (_a3:List UInt8):Int:=(↑(List.getD (a0.getD a2.toNat (Ae TC.digest)) (10:Nat) (0:UInt8)).toNat:Int)
def Gd (a0:List (List UInt8)) (_a1:Int) (a2:Int) (_a3:List UInt8):Int:=(↑(List.getD (a0.getD a2.toNat (Ae TC.digest)) (9:Nat) (0:UInt8)).toNat:Int)
def Gc (a0:List (List UInt8)) (_a1:Int) (a2:Int) (_a3:List UInt8):Int:=(↑(List.getD (a0.getD a2.toNat (Ae TC.digest)) (8:Nat) (0:UInt8)).toNat:Int)
def Gb (a0:List (List UInt8)) (_a1:Int) (a2:Int) (_a3:List UInt8):Int:=(↑(List.getD (a0.getD a2.toNat (Ae TC.digest)) (7:Nat) (0:UInt8)).toNat:Int)
def Ga (a0:List (List UInt8)) (_a1:Int) (a2:Int) (_a3:List UInt8):Int:=(↑(List.getD (a0.getD a2.toNat (Ae TC.digest)) (6:Nat) (0:UInt8)).toNat:Int)
def F9 (a0:List (List UInt8)) (_a1:Int) (a2:Int) (_a3:List UInt8):Int:=(↑(List.getD (a0.getD a2.toNat (Ae TC.digest)) (5:Nat) (0:UInt8)).toNat:Int)
def F8 (a0:List (List UInt8)) (_a1:Int) (a2:Int) (_a3:List UInt8):Int:=(↑(List.getD (a0.getD a2.toNat (Ae TC.digest)) (4:Nat) (0:UInt8)).toNat:Int)
def F7 (a0:List (List UInt8)) (_a1:Int) (a2:Int) (_a3:List UInt8):Int:=(↑(List.getD (a0.getD a2.toNat (Ae TC.digest)) (3:Nat) (0:UInt8)).toNat:Int)
def F6 (a0:List (List UInt8)) (_a1:Int) (a2:Int) (_a3:List UInt8):Int:=(↑(List.getD (a0.getD a2.toNat (Ae TC.digest)) (2:Nat) (0:UInt8)).toNat:Int)
def F5 (a0:List (List UInt8)) (_a1:Int) (a2:Int) (_a3:List UInt8):Int:=(↑(List.getD (a0.getD a2.toNat (Ae TC.digest)) (1:Nat) (0:UInt8)).toNat:Int)
def F4 (a0:List (List UInt8)) (_a1:Int) (a2:Int) (_a3:List UInt8):Int:=(↑(List.getD (a0.getD a2.toNat (Ae TC.digest)) (0:Nat) (0:UInt8)).toNat:Int)
def Ki (a0:List (List UInt8)) (a1:Int) (a2:Int) (a3:List UInt8):List UInt8:=a3++[UInt8.ofNat (F4 a0 a1 a2 a3).toNat,UInt8.ofNat (F5 a0 a1 a2 a3).toNat,UInt8.ofNat (F6 a0 a1 a2 a3).toNat,UInt8.ofNat (F7 a0 a1 a2 a3).toNat,UInt8.ofNat (F8 a0 a1 a2 a3).toNat,UInt8.ofNat (F9 a0 a1 a2 a3).toNat,UInt8.ofNat (Ga a0 a1 a2 a3).toNat,UInt8.ofNat (Gb a0 a1 a2 a3).toNat,UInt8.ofNat (Gc a0 a1 a2 a3).toNat,UInt8.ofNat (Gd a0 a1 a2 a3).toNat,UInt8.ofNat (EV a0 a1 a2 a3).toNat,UInt8.ofNat (EW a0 a1 a2 a3).toNat,UInt8.ofNat (EX a0 a1 a2 a3).toNat,UInt8.ofNat (EY a0 a1 a2 a3).toNat,UInt8.ofNat (EZ a0 a1 a2 a3).toNat,UInt8.ofNat (E0 a0 a1 a2 a3).toNat,UInt8.ofNat (E1 a0 a1 a2 a3).toNat,UInt8.ofNat (E2 a0 a1 a2 a3).toNat,UInt8.ofNat (E3 a0 a1 a2 a3).toNat,UInt8.ofNat (E4 a0 a1 a2 a3).toNat,UInt8.ofNat (E5 a0 a1 a2 a3).toNat,UInt8.ofNat (E6 a0 a1 a2 a3).toNat,UInt8.ofNat (E7 a0 a1 a2 a3).toNat,UInt8.ofNat (E8 a0 a1 a2 a3).toNat,UInt8.ofNat (E9 a0 a1 a2 a3).toNat,UInt8.ofNat (Fa a0 a1 a2 a3).toNat,UInt8.ofNat (Fb a0 a1 a2 a3).toNat,UInt8.ofNat (Fc a0 a1 a2 a3).toNat,UInt8.ofNat (Fd a0 a1 a2 a3).toNat,UInt8.ofNat (Fe a0 a1 a2 a3).toNat,UInt8.ofNat (Ff a0 a1 a2 a3).toNat,UInt8.ofNat (Fg a0 a1 a2 a3).toNat]
def CL (x:Be):Be:=(x.1,x.2.1,IntKind.i64.wrap (x.2.2.1+(1:Int)),Ki x.1 x.2.1 x.2.2.1 x.2.2.2)
def CK (x:Be):Cnd:=some (!!decide (x.2.2.1 <x.2.1))
def O1 (x:Be):List Prop:=[((!!decide (x.2.2.1 <x.2.1))=true→(0:Int)≤x.2.2.1∧x.2.2.1 <(↑x.1.length:Int)),((!!decide (x.2.2.1 <x.2.1))=true→(0:Int)≤(0:Int)∧(0:Int)≤(32:Int)),((!!decide (x.2.2.1 <x.2.1))=true→Ad (x.2.2.2.length+(32:Nat))),((!!decide (x.2.2.1 <x.2.1))=true→(0:Int)≤(F4 x.1 x.2.1 x.2.2.1 x.2.2.2)∧(F4 x.1 x.2.1 x.2.2.1 x.2.2.2) <(256:Int)),((!!decide (x.2.2.1 <x.2.1))=true→(0:Int)≤(F5 x.1 x.2.1 x.2.2.1 x.2.2.2)∧(F5 x.1 x.2.1 x.2.2.1 x.2.2.2) <(256:Int)),((!!decide (x.2.2.1 <x.2.1))=true→(0:Int)≤(F6 x.1 x.2.1 x.2.2.1 x.2.2.2)∧(F6 x.1 x.2.1 x.2.2.1 x.2.2.2) <(256:Int)),((!!decide (x.2.2.1 <x.2.1))=true→(0:Int)≤(F7 x.1 x.2.1 x.2.2.1 x.2.2.2)∧(F7 x.1 x.2.1 x.2.2.1 x.2.2.2) <(256:Int)),((!!decide (x.2.2.1 <x.2.1))=true→(0:Int)≤(F8 x.1 x.2.1 x.2.2.1 x.2.2.2)∧(F8 x.1 x.2.1 x.2.2.1 x.2.2.2) <(256:Int)),((!!decide (x.2.2.1 <x.2.1))=true→(0:Int)≤(F9 x.1 x.2.1 x.2.2.1 x.2.2.2)∧(F9 x.1 x.2.1 x.2.2.1 x.2.2.2) <(256:Int)),((!!decide (x.2.2.1 <x.2.1))=true→(0:Int)≤(Ga x.1 x.2.1 x.2.2.1 x.2.2.2)∧(Ga x.1 x.2.1 x.2.2.1 x.2.2.2) <(256:Int)),((!!decide (x.2.2.1 <x.2.1))=true→(0:Int)≤(Gb x.1 x.2.1 x.2.2.1 x.2.2.2)∧(Gb x.1 x.2.1 x.2.2.1 x.2.2.2) <(256:Int)),((!!decide (x.2.2.1 <x.2.1))=true→(0:Int)≤(Gc x.1 x.2.1 x.2.2.1 x.2.2.2)∧(Gc x.1 x.2.1 x.2.2.1 x.2.2.2) <(256:Int)),((!!decide (x.2.2.1 <x.2.1))=true→(0:Int)≤(Gd x.1 x.2.1 x.2.2.1 x.2.2.2)∧(Gd x.1 x.2.1 x.2.2.1 x.2.2.2) <(256:Int)),((!!decide (x.2.2.1 <x.2.1))=true→(0:Int)≤(EV x.1 x.2.1 x.2.2.1 x.2.2.2)∧(EV x.1 x.2.1 x.2.2.1 x.2.2.2) <(256:Int)),((!!decide (x.2.2.1 <x.2.1))=true→(0:Int)≤(EW x.1 x.2.1 x.2.2.1 x.2.2.2)∧(EW x.1 x.2.1 x.2.2.1 x.2.2.2) <(256:Int)),((!!decide (x.2.2.1 <x.2.1))=true→(0:Int)≤(EX x.1 x.2.1 x.2.2.1 x.2.2.2)∧(EX x.1 x.2.1 x.2.2.1 x.2.2.2) <(256:Int)),((!!decide (x.2.2.1 <x.2.1))=true→(0:Int)≤(EY x.1 x.2.1 x.2.2.1 x.2.2.2)∧(EY x.1 x.2.1 x.2.2.1 x.2.2.2) <(256:Int)),((!!decide (x.2.2.1 <x.2.1))=true→(0:Int)≤(EZ x.1 x.2.1 x.2.2.1 x.2.2.2)∧(EZ x.1 x.2.1 x.2.2.1 x.2.2.2) <(256:Int)),((!!decide (x.2.2.1 <x.2.1))=true→(0:Int)≤(E0 x.1 x.2.1 x.2.2.1 x.2.2.2)∧(E0 x.1 x.2.1 x.2.2.1 x.2.2.2) <(256:Int)),((!!decide (x.2.2.1 <x.2.1))=true→(0:Int)≤(E1 x.1 x.2.1 x.2.2.1 x.2.2.2)∧(E1 x.1 x.2.1 x.2.2.1 x.2.2.2) <(256:Int)),((!!decide (x.2.2.1 <x.2.1))=true→(0:Int)≤(E2 x.1 x.2.1 x.2.2.1 x.2.2.2)∧(E2 x.1 x.2.1 x.2.2.1 x.2.2.2) <(256:Int)),((!!decide (x.2.2.1 <x.2.1))=true→(0:Int)≤(E3 x.1 x.2.1 x.2.2.1 x.2.2.2)∧(E3 x.1 x.2.1 x.2.2.1 x.2.2.2) <(256:Int)),((!!decide (x.2.2.1 <x.2.1))=true→(0:Int)≤(E4 x.1 x.2.1 x.2.2.1 x.2.2.2)∧(E4 x.1 x.2.1 x.2.2.1 x.2.2.2) <(256:Int)),((!!decide (x.2.2.1 <x.2.1))=true→(0:Int)≤(E5 x.1 x.2.1 x.2.2.1 x.2.2.2)∧(E5 x.1 x.2.1 x.2.2.1 x.2.2.2) <(256:Int)),((!!decide (x.2.2.1 <x.2.1))=true→(0:Int)≤(E6 x.1 x.2.1 x.2.2.1 x.2.2.2)∧(E6 x.1 x.2.1 x.2.2.1 x.2.2.2) <(256:Int)),((!!decide (x.2.2.1 <x.2.1))=true→(0:Int)≤(E7 x.1 x.2.1 x.2.2.1 x.2.2.2)∧(E7 x.1 x.2.1 x.2.2.1 x.2.2.2) <(256:Int)),((!!decide (x.2.2.1 <x.2.1))=true→(0:Int)≤(E8 x.1 x.2.1 x.2.2.1 x.2.2.2)∧(E8 x.1 x.2.1 x.2.2.1 x.2.2.2) <(256:Int)),((!!decide (x.2.2.1 <x.2.1))=true→(0:Int)≤(E9 x.1 x.2.1 x.2.2.1 x.2.2.2)∧(E9 x.1 x.2.1 x.2.2.1 x.2.2.2) <(256:Int)),((!!decide (x.2.2.1 <x.2.1))=true→(0:Int)≤(Fa x.1 x.2.1 x.2.2.1 x.2.2.2)∧(Fa x.1 x.2.1 x.2.2.1 x.2.2.2) <(256:Int)),((!!decide (x.2.2.1 <x.2.1))=true→(0:Int)≤(Fb x.1 x.2.1 x.2.2.1 x.2.2.2)∧(Fb x.1 x.2.1 x.2.2.1 x.2.2.2) <(256:Int)),((!!decide (x.2.2.1 <x.2.1))=true→(0:Int)≤(Fc x.1 x.2.1 x.2.2.1 x.2.2.2)∧(Fc x.1 x.2.1 x.2.2.1 x.2.2.2) <(256:Int)),((!!decide (x.2.2.1 <x.2.1))=true→(0:Int)≤(Fd x.1 x.2.1 x.2.2.1 x.2.2.2)∧(Fd x.1 x.2.1 x.2.2.1 x.2.2.2) <(256:Int)),((!!decide (x.2.2.1 <x.2.1))=true→(0:Int)≤(Fe x.1 x.2.1 x.2.2.1 x.2.2.2)∧(Fe x.1 x.2.1 x.2.2.1 x.2.2.2) <(256:Int)),((!!decide (x.2.2.1 <x.2.1))=true→(0:Int)≤(Ff x.1 x.2.1 x.2.2.1 x.2.2.2)∧(Ff x.1 x.2.1 x.2.2.1 x.2.2.2) <(256:Int)),((!!decide (x.2.2.1 <x.2.1))=true→(0:Int)≤(Fg x.1 x.2.1 x.2.2.1 x.2.2.2)∧(Fg x.1 x.2.1 x.2.2.1 x.2.2.2) <(256:Int))]
def Fu (x:Be):List Prop:=[((!!decide (x.2.2.1 <x.2.1))=true→(0:Int)≤x.2.2.1∧x.2.2.1 <(↑x.1.length:Int)),((!!decide (x.2.2.1 <x.2.1))=true→Ad (x.2.2.2.length+(32:Nat))),((!!decide (x.2.2.1 <x.2.1))=true→(0:Int)≤(F4 x.1 x.2.1 x.2.2.1 x.2.2.2)∧(F4 x.1 x.2.1 x.2.2.1 x.2.2.2) <(256:Int)),((!!decide (x.2.2.1 <x.2.1))=true→(0:Int)≤(F5 x.1 x.2.1 x.2.2.1 x.2.2.2)∧(F5 x.1 x.2.1 x.2.2.1 x.2.2.2) <(256:Int)),((!!decide (x.2.2.1 <x.2.1))=true→(0:Int)≤(F6 x.1 x.2.1 x.2.2.1 x.2.2.2)∧(F6 x.1 x.2.1 x.2.2.1 x.2.2.2) <(256:Int)),((!!decide (x.2.2.1 <x.2.1))=true→(0:Int)≤(F7 x.1 x.2.1 x.2.2.1 x.2.2.2)∧(F7 x.1 x.2.1 x.2.2.1 x.2.2.2) <(256:Int)),((!!decide (x.2.2.1 <x.2.1))=true→(0:Int)≤(F8 x.1 x.2.1 x.2.2.1 x.2.2.2)∧(F8 x.1 x.2.1 x.2.2.1 x.2.2.2) <(256:Int)),((!!decide (x.2.2.1 <x.2.1))=true→(0:Int)≤(F9 x.1 x.2.1 x.2.2.1 x.2.2.2)∧(F9 x.1 x.2.1 x.2.2.1 x.2.2.2) <(256:Int)),((!!decide (x.2.2.1 <x.2.1))=true→(0:Int)≤(Ga x.1 x.2.1 x.2.2.1 x.2.2.2)∧(Ga x.1 x.2.1 x.2.2.1 x.2.2.2) <(256:Int)),((!!decide (x.2.2.1 <x.2.1))=true→(0:Int)≤(Gb x.1 x.2.1 x.2.2.1 x.2.2.2)∧(Gb x.1 x.2.1 x.2.2.1 x.2.2.2) <(256:Int)),((!!decide (x.2.2.1 <x.2.1))=true→(0:Int)≤(Gc x.1 x.2.1 x.2.2.1 x.2.2.2)∧(Gc x.1 x.2.1 x.2.2.1 x.2.2.2) <(256:Int)),((!!decide (x.2.2.1 <x.2.1))=true→(0:Int)≤(Gd x.1 x.2.1 x.2.2.1 x.2.2.2)∧(Gd x.1 x.2.1 x.2.2.1 x.2.2.2) <(256:Int)),((!!decide (x.2.2.1 <x.2.1))=true→(0:Int)≤(EV x.1 x.2.1 x.2.2.1 x.2.2.2)∧(EV x.1 x.2.1 x.2.2.1 x.2.2.2) <(256:Int)),((!!decide (x.2.2.1 <x.2.1))=true→(0:Int)≤(EW x.1 x.2.1 x.2.2.1 x.2.2.2)∧(EW x.1 x.2.1 x.2.2.1 x.2.2.2) <(256:Int)),((!!decide (x.2.2.1 <x.2.1))=true→(0:Int)≤(EX x.1 x.2.1 x.2.2.1 x.2.2.2)∧(EX x.1 x.2.1 x.2.2.1 x.2.2.2) <(256:Int)),((!!decide (x.2.2.1 <x.2.1))=true→(0:Int)≤(EY x.1 x.2.1 x.2.2.1 x.2.2.2)∧(EY x.1 x.2.1 x.2.2.1 x.2.2.2) <(256:Int)),((!!decide (x.2.2.1 <x.2.1))=true→(0:Int)≤(EZ x.1 x.2.1 x.2.2.1 x.2.2.2)∧(EZ x.1 x.2.1 x.2.2.1 x.2.2.2) <(256:Int)),((!!decide (x.2.2.1 <x.2.1))=true→(0:Int)≤(E0 x.1 x.2.1 x.2.2.1 x.2.2.2)∧(E0 x.1 x.2.1 x.2.2.1 x.2.2.2) <(256:Int)),((!!decide (x.2.2.1 <x.2.1))=true→(0:Int)≤(E1 x.1 x.2.1 x.2.2.1 x.2.2.2)∧(E1 x.1 x.2.1 x.2.2.1 x.2.2.2) <(256:Int)),((!!decide (x.2.2.1 <x.2.1))=true→(0:Int)≤(E2 x.1 x.2.1 x.2.2.1 x.2.2.2)∧(E2 x.1 x.2.1 x.2.2.1 x.2.2.2) <(256:Int)),((!!decide (x.2.2.1 <x.2.1))=true→(0:Int)≤(E3 x.1 x.2.1 x.2.2.1 x.2.2.2)∧(E3 x.1 x.2.1 x.2.2.1 x.2.2.2) <(256:Int)),((!!decide (x.2.2.1 <x.2.1))=true→(0:Int)≤(E4 x.1 x.2.1 x.2.2.1 x.2.2.2)∧(E4 x.1 x.2.1 x.2.2.1 x.2.2.2) <(256:Int)),((!!decide (x.2.2.1 <x.2.1))=true→(0:Int)≤(E5 x.1 x.2.1 x.2.2.1 x.2.2.2)∧(E5 x.1 x.2.1 x.2.2.1 x.2.2.2) <(256:Int)),((!!decide (x.2.2.1 <x.2.1))=true→(0:Int)≤(E6 x.1 x.2.1 x.2.2.1 x.2.2.2)∧(E6 x.1 x.2.1 x.2.2.1 x.2.2.2) <(256:Int)),((!!decide (x.2.2.1 <x.2.1))=true→(0:Int)≤(E7 x.1 x.2.1 x.2.2.1 x.2.2.2)∧(E7 x.1 x.2.1 x.2.2.1 x.2.2.2) <(256:Int)),((!!decide (x.2.2.1 <x.2.1))=true→(0:Int)≤(E8 x.1 x.2.1 x.2.2.1 x.2.2.2)∧(E8 x.1 x.2.1 x.2.2.1 x.2.2.2) <(256:Int)),((!!decide (x.2.2.1 <x.2.1))=true→(0:Int)≤(E9 x.1 x.2.1 x.2.2.1 x.2.2.2)∧(E9 x.1 x.2.1 x.2.2.1 x.2.2.2) <(256:Int)),((!!decide (x.2.2.1 <x.2.1))=true→(0:Int)≤(Fa x.1 x.2.1 x.2.2.1 x.2.2.2)∧(Fa x.1 x.2.1 x.2.2.1 x.2.2.2) <(256:Int)),((!!decide (x.2.2.1 <x.2.1))=true→(0:Int)≤(Fb x.1 x.2.1 x.2.2.1 x.2.2.2)∧(Fb x.1 x.2.1 x.2.2.1 x.2.2.2) <(256:Int)),((!!decide (x.2.2.1 <x.2.1))=true→(0:Int)≤(Fc x.1 x.2.1 x.2.2.1 x.2.2.2)∧(Fc x.1 x.2.1 x.2.2.1 x.2.2.2) <(256:Int)),((!!decide (x.2.2.1 <x.2.1))=true→(0:Int)≤(Fd x.1 x.2.1 x.2.2.1 x.2.2.2)∧(Fd x.1 x.2.1 x.2.2.1 x.2.2.2) <(256:Int)),((!!decide (x.2.2.1 <x.2.1))=true→(0:Int)≤(Fe x.1 x.2.1 x.2.2.1 x.2.2.2)∧(Fe x.1 x.2.1 x.2.2.1 x.2.2.2) <(256:Int)),((!!decide (x.2.2.1 <x.2.1))=true→(0:Int)≤(Ff x.1 x.2.1 x.2.2.1 x.2.2.2)∧(Ff x.1 x.2.1 x.2.2.1 x.2.2.2) <(256:Int)),((!!decide (x.2.2.1 <x.2.1))=true→(0:Int)≤(Fg x.1 x.2.1 x.2.2.1 x.2.2.2)∧(Fg x.1 x.2.1 x.2.2.1 x.2.2.2) <(256:Int))]
def Nk (x:Be):AR:=[(some 3,some (!decide (x.2.2.1 <x.2.1)),⟨105,6,[(7,.sq 5)],[(5,some (.arr 5 1 (.ty .u8 x.2.2.2)))]⟩)]
def D4 (x:Be):Nat:=(x.2.1 - x.2.2.1).toNat
def G7 (x:Be):Be:=AF CL CK (D4 x) x
theorem Adm (a0:List (List UInt8)) (a1:Int) (a2:Int) (a3:List UInt8):Ba (As Cwd Jz) 9 (Ag Tryz.prog 7 3) RO (JC (a0,a1,a2,a3))=some (O1 (a0,a1,a2,a3),Nk (a0,a1,a2,a3),CK (a0,a1,a2,a3),JC (CL (a0,a1,a2,a3))):=by kernel_rfl
theorem Adn (a0:List (List UInt8)) (a1:Int) (a2:Int) (a3:List UInt8) (hp:∀p∈Fu (a0,a1,a2,a3),p):∀p∈O1 (a0,a1,a2,a3),p:=by
 have n0:=N0 hp
 have n1:((!!decide (a2 <a1))=true→(0:Int)≤(0:Int)∧(0:Int)≤(32:Int)):=by omega
 have n2:=N0 (N1 hp)
 have n3:=N0 (N1 (N1 hp))
 have n4:=N0 (N1 (N1 (N1 hp)))
 have n5:=N0 (N1 (N1 (N1 (N1 hp))))
 have n6:=N0 (N1 (N1 (N1 (N1 (N1 hp)))))
 have n7:=N0 (N1 (N1 (N1 (N1 (N1 (N1 hp))))))
 have n8:=N0 (N1 (N1 (N1 (N1 (N1 (N1 (N1 hp)))))))
 have n9:=N0 (N1 (N1 (N1 (N1 (N1 (N1 (N1 (N1 hp))))))))
 have n10:=N0 (N1 (N1 (N1 (N1 (N1 (N1 (N1 (N1 (N1 hp)))))))))
 have n11:=N0 (N1 (N1 (N1 (N1 (N1 (N1 (N1 (N1 (N1 (N1 hp))))))))))
 have n12:=N0 (N1 (N1 (N1 (N1 (N1 (N1 (N1 (N1 (N1 (N1 (N1 hp)))))))))))
 have n13:=N0 (N1 (N1 (N1 (N1 (N1 (N1 (N1 (N1 (N1 (N1 (N1 (N1 hp))))))))))))
 have n14:=N0 (N1 (N1 (N1 (N1 (N1 (N1 (N1 (N1 (N1 (N1 (N1 (N1 (N1 hp)))))))))))))
 have n15:=N0 (N1 (N1 (N1 (N1 (N1 (N1 (N1 (N1 (N1 (N1 (N1 (N1 (N1 (N1 hp))))))))))))))
 have n16:=N0 (N1 (N1 (N1 (N1 (N1 (N1 (N1 (N1 (N1 (N1 (N1 (N1 (N1 (N1 (N1 hp)))))))))))))))
 have n17:=N0 (N1 (N1 (N1 (N1 (N1 (N1 (N1 (N1 (N1 (N1 (N1 (N1 (N1 (N1 (N1 (N1 hp))))))))))))))))
 have n18:=N0 (N1 (N1 (N1 (N1 (N1 (N1 (N1 (N1 (N1 (N1 (N1 (N1 (N1 (N1 (N1 (N1 (N1 hp)))))))))))))))))
 have n19:=N0 (N1 (N1 (N1 (N1 (N1 (N1 (N1 (N1 (N1 (N1 (N1 (N1 (N1 (N1 (N1 (N1 (N1 (N1 hp))))))))))))))))))
 have n20:=N0 (N1 (N1 (N1 (N1 (N1 (N1 (N1 (N1 (N1 (N1 (N1 (N1 (N1 (N1 (N1 (N1 (N1 (N1 (N1 hp)))))))))))))))))))
 have n21:=N0 (N1 (N1 (N1 (N1 (N1 (N1 (N1 (N1 (N1 (N1 (N1 (N1 (N1 (N1 (N1 (N1 (N1 (N1 (N1 (N1 hp))))))))))))))))))))
 have n22:=N0 (N1 (N1 (N1 (N1 (N1 (N1 (N1 (N1 (N1 (N1 (N1 (N1 (N1 (N1 (N1 (N1 (N1 (N1 (N1 (N1 (N1 hp)))))))))))))))))))))
 have n23:=N0 (N1 (N1 (N1 (N1 (N1 (N1 (N1 (N1 (N1 (N1 (N1 (N1 (N1 (N1 (N1 (N1 (N1 (N1 (N1 (N1 (N1 (N1 hp))))))))))))))))))))))
 have n24:=N0 (N1 (N1 (N1 (N1 (N1 (N1 (N1 (N1 (N1 (N1 (N1 (N1 (N1 (N1 (N1 (N1 (N1 (N1 (N1 (N1 (N1 (N1 (N1 hp)))))))))))))))))))))))
 have n25:=N0 (N1 (N1 (N1 (N1 (N1 (N1 (N1 (N1 (N1 (N1 (N1 (N1 (N1 (N1 (N1 (N1 (N1 (N1 (N1 (N1 (N1 (N1 (N1 (N1 hp))))))))))))))))))))))))
 have n26:=N0 (N1 (N1 (N1 (N1 (N1 (N1 (N1 (N1 (N1 (N1 (N1 (N1 (N1 (N1 (N1 (N1 (N1 (N1 (N1 (N1 (N1 (N1 (N1 (N1 (N1 hp)))))))))))))))))))))))))
 have n27:=N0 (N1 (N1 (N1 (N1 (N1 (N1 (N1 (N1 (N1 (N1 (N1 (N1 (N1 (N1 (N1 (N1 (N1 (N1 (N1 (N1 (N1 (N1 (N1 (N1 (N1 (N1 hp))))))))))))))))))))))))))
 have n28:=N0 (N1 (N1 (N1 (N1 (N1 (N1 (N1 (N1 (N1 (N1 (N1 (N1 (N1 (N1 (N1 (N1 (N1 (N1 (N1 (N1 (N1 (N1 (N1 (N1 (N1 (N1 (N1 hp)))))))))))))))))))))))))))
 have n29:=N0 (N1 (N1 (N1 (N1 (N1 (N1 (N1 (N1 (N1 (N1 (N1 (N1 (N1 (N1 (N1 (N1 (N1 (N1 (N1 (N1 (N1 (N1 (N1 (N1 (N1 (N1 (N1 (N1 hp))))))))))))))))))))))))))))
 have n30:=N0 (N1 (N1 (N1 (N1 (N1 (N1 (N1 (N1 (N1 (N1 (N1 (N1 (N1 (N1 (N1 (N1 (N1 (N1 (N1 (N1 (N1 (N1 (N1 (N1 (N1 (N1 (N1 (N1 (N1 hp)))))))))))))))))))))))))))))
 have n31:=N0 (N1 (N1 (N1 (N1 (N1 (N1 (N1 (N1 (N1 (N1 (N1 (N1 (N1 (N1 (N1 (N1 (N1 (N1 (N1 (N1 (N1 (N1 (N1 (N1 (N1 (N1 (N1 (N1 (N1 (N1 hp))))))))))))))))))))))))))))))
 have n32:=N0 (N1 (N1 (N1 (N1 (N1 (N1 (N1 (N1 (N1 (N1 (N1 (N1 (N1 (N1 (N1 (N1 (N1 (N1 (N1 (N1 (N1 (N1 (N1 (N1 (N1 (N1 (N1 (N1 (N1 (N1 (N1 hp)))))))))))))))))))))))))))))))
 have n33:=N0 (N1 (N1 (N1 (N1 (N1 (N1 (N1 (N1 (N1 (N1 (N1 (N1 (N1 (N1 (N1 (N1 (N1 (N1 (N1 (N1 (N1 (N1 (N1 (N1 (N1 (N1 (N1 (N1 (N1 (N1 (N1 (N1 hp))))))))))))))))))))))))))))))))
 have n34:=N0 (N1 (N1 (N1 (N1 (N1 (N1 (N1 (N1 (N1 (N1 (N1 (N1 (N1 (N1 (N1 (N1 (N1 (N1 (N1 (N1 (N1 (N1 (N1 (N1 (N1 (N1 (N1 (N1 (N1 (N1 (N1 (N1 (N1 hp)))))))))))))))))))))))))))))))))
 exact(Aa n0 (Aa n1 (Aa n2 (Aa n3 (Aa n4 (Aa n5 (Aa n6 (Aa n7 (Aa n8 (Aa n9 (Aa n10 (Aa n11 (Aa n12 (Aa n13 (Aa n14 (Aa n15 (Aa n16 (Aa n17 (Aa n18 (Aa n19 (Aa n20 (Aa n21 (Aa n22 (Aa n23 (Aa n24 (Aa n25 (Aa n26 (Aa n27 (Aa n28 (Aa n29 (Aa n30 (Aa n31 (Aa n32 (Aa n33 (Aa n34 Af)))))))))))))))))))))))))))))))))))
noncomputable def O2:=HB (As Cwd Jz) (Ag Tryz.prog 7 3) RO Ag4 K5 D4 CL CK Fu Nk
theorem Z2:∀s b ps outs,O2 s=some (b,ps,outs)→Wf s ⟨ps,outs,none⟩∧Bg (As C0 L0) b s ps outs:=
 AT (T:=JC) An8 OY (u:=9) (by kernel_rfl) (by decide) (fun⟨a0,a1,a2,a3⟩=>Adm a0 a1 a2 a3) (fun⟨a0,a1,a2,a3⟩=>Adn a0 a1 a2 a3) Xf (fun _=>AD (n:=105) rfl) fun _ _=>rfl
noncomputable def JB:=Dd 3 O2 Jz
theorem O0:G9 JB:=AH Z2 OY
abbrev Bf:Type:=(List Ab)×(List Ak)×Int×Int×(List UInt8)
def JD (x:Bf):St:=⟨105,12,[(0,.sl .group x.1),(7,.sq 11),(89,.sl .row x.2.1),(90,.v (.int .i64 x.2.2.1)),(91,.v (.int .i64 x.2.2.2.1))],[(11,some (.arr 5 1 (.ty .u8 x.2.2.2.2)))]⟩
def K6:St→Option Bf
 |⟨105,12,[(0,.sl .group z0),(7,.sq 11),(89,.sl .row z1),(90,.v (.int .i64 z2)),(91,.v (.int .i64 z3))],[(11,some (.arr 5 1 (.ty .u8 z4)))]⟩=>some (z0,z1,z2,z3,z4)
 |_=>none
theorem Xg:∀s x,K6 s=some x→s=JD x:=fun s x h=>by
 unfold K6 at h
 split at h
 ·cases h;rfl
 ·cases h
def RQ:Cz:=⟨11,12,[0,7,89,90,91],[],[(13,11)],[13],[7],[11]⟩
def Ag5:CX:=⟨[],[(10,11)],[0,7,89,90,91],[10]⟩
def Kj (a0:List Ab) (a1:List Ak) (_a2:Int) (a3:Int) (a4:List UInt8):List UInt8:=a4++HE a0 (a1.getD a3.toNat (Ae TC.row))
def CN (x:Bf):Bf:=(x.1,x.2.1,x.2.2.1,IntKind.i64.wrap (x.2.2.2.1+(1:Int)),Kj x.1 x.2.1 x.2.2.1 x.2.2.2.1 x.2.2.2.2)
def CM (x:Bf):Cnd:=some (!!decide (x.2.2.2.1 <x.2.2.1))
def Kk (x:Bf):List Prop:=[((!!decide (x.2.2.2.1 <x.2.2.1))=true→(0:Int)≤x.2.2.2.1∧x.2.2.2.1 <(↑x.2.1.length:Int)),((!!decide (x.2.2.2.1 <x.2.2.1))=true→Ad (x.2.2.2.2.length+(1024:Nat)))]
abbrev Fv:Bf→List Prop:=Kk
def Nl (x:Bf):AR:=[(some 5,some (!decide (x.2.2.2.1 <x.2.2.1)),⟨105,12,[(7,.sq 11)],[(11,some (.arr 5 1 (.ty .u8 x.2.2.2.2)))]⟩)]
def D5 (x:Bf):Nat:=(x.2.2.1 - x.2.2.2.1).toNat
def Iu (x:Bf):Bf:=AF CN CM (D5 x) x
theorem Ado (a0:List Ab) (a1:List Ak) (a2:Int) (a3:Int) (a4:List UInt8):Ba (As Cwd JB) 9 (Ag Tryz.prog 7 5) RQ (JD (a0,a1,a2,a3,a4))=some (Kk (a0,a1,a2,a3,a4),Nl (a0,a1,a2,a3,a4),CM (a0,a1,a2,a3,a4),JD (CN (a0,a1,a2,a3,a4))):=by kernel_rfl
theorem Adp (a0:List Ab) (a1:List Ak) (a2:Int) (a3:Int) (a4:List UInt8) (hp:∀p∈Fv (a0,a1,a2,a3,a4),p):∀p∈Kk (a0,a1,a2,a3,a4),p:=hp
noncomputable def O3:=HB (As Cwd JB) (Ag Tryz.prog 7 5) RQ Ag5 K6 D5 CN CM Fv Nl
theorem Z4:∀s b ps outs,O3 s=some (b,ps,outs)→Wf s ⟨ps,outs,none⟩∧Bg (As C0 L0) b s ps outs:=
 AT (T:=JD) An8 O0 (u:=9) (by kernel_rfl) (by decide) (fun⟨a0,a1,a2,a3,a4⟩=>Ado a0 a1 a2 a3 a4) (fun⟨a0,a1,a2,a3,a4⟩=>Adp a0 a1 a2 a3 a4) Xg (fun _=>AD (n:=105) rfl) fun _ _=>rfl
noncomputable def RP:=Dd 5 O3 JB
theorem Z3:G9 RP:=AH Z4 O0
def Aq (a0:List Ab) (a1:TMsg):Bool:=D7 a0 a1 !=(0:Int)
def Ao (_a0:List Ab) (a1:TMsg):List UInt8:=[]++Ap a1.1++Ap a1.2
def C6 (_a0:List Ab) (a1:TMsg):List Ak:=bif a1.1==(1:Int) then a1.8 else bif a1.1==(2:Int) then a1.8 else a1.8
def C5 (a0:List Ab) (a1:TMsg):Int:=(↑(C6 a0 a1).length:Int)
def AM (_a0:List Ab) (a1:TMsg):Bool:=(bif a1.1==(1:Int) then a1.1 else bif a1.1==(2:Int) then a1.1 else a1.1)==(5:Int)
def DV (a0:List Ab) (a1:TMsg):List UInt8:=Ap (C5 a0 a1)
def C4 (a0:List Ab) (a1:TMsg):List UInt8:=(Ao a0 a1)++Ap a1.4
def G6 (_a0:List Ab) (a1:TMsg):List UInt8:=Ic (TVec.mk (bif a1.1==(1:Int) then a1.9.1 else bif a1.1==(2:Int) then a1.9.1 else a1.9.1) (bif a1.1==(1:Int) then a1.9.2 else bif a1.1==(2:Int) then a1.9.2 else a1.9.2))
def Bu (a0:List Ab) (a1:TMsg):List UInt8:=bif a1.1==(1:Int) then(Ao a0 a1)++Le a0 a1.3 else bif a1.1==(2:Int) then(C4 a0 a1)++Ap a1.5 else(G7 (a1.7,(↑a1.7.length:Int),(0:Int),(B4 (a1.6,(↑a1.6.length:Int),(0:Int),(Ao a0 a1)++Ap (↑a1.6.length:Int))).snd.snd.snd)).snd.snd.snd
def BK (a0:List Ab) (a1:TMsg):List UInt8:=(Bu a0 a1)++(G6 a0 a1)++Ap (bif bif a1.1==(1:Int) then a1.10 else bif a1.1==(2:Int) then a1.10 else a1.10 then(1:Int) else(0:Int))
def Je (a0:List Ab) (a1:TMsg):Bool:=decide ((↑(bif(AM a0 a1) then(Iu (a0,(C6 a0 a1),(C5 a0 a1),(0:Int),(bif a1.1==(1:Int) then(Ao a0 a1)++Le a0 a1.3 else bif a1.1==(2:Int) then(C4 a0 a1)++Ap a1.5 else(G7 (a1.7,(↑a1.7.length:Int),(0:Int),(AF Bm Bl (BS (a1.6,(↑a1.6.length:Int),(0:Int),(Ao a0 a1)++Ap (↑a1.6.length:Int))) (a1.6,(↑a1.6.length:Int),(0:Int),(Ao a0 a1)++Ap (↑a1.6.length:Int))).snd.snd.snd)).snd.snd.snd)++(G6 a0 a1)++Ap (bif bif a1.1==(1:Int) then a1.10 else bif a1.1==(2:Int) then a1.10 else a1.10 then(1:Int) else(0:Int))++(DV a0 a1))).snd.snd.snd.snd else(Bu a0 a1)).length:Int) >(1048576:Int))
def Qu (a0:List Ab) (a1:TMsg):Int:=bif(Aq a0 a1) then D7 a0 a1 else bif(Je a0 a1) then(3:Int) else(0:Int)
def L9 (a0:List Ab) (a1:TMsg):List UInt8:=bif(Aq a0 a1) then[] else bif(Je a0 a1) then[] else Ad4 (bif(AM a0 a1) then(Iu (a0,(C6 a0 a1),(C5 a0 a1),(0:Int),(bif a1.1==(1:Int) then(Ao a0 a1)++Le a0 a1.3 else bif a1.1==(2:Int) then(C4 a0 a1)++Ap a1.5 else(G7 (a1.7,(↑a1.7.length:Int),(0:Int),(AF Bm Bl (BS (a1.6,(↑a1.6.length:Int),(0:Int),(Ao a0 a1)++Ap (↑a1.6.length:Int))) (a1.6,(↑a1.6.length:Int),(0:Int),(Ao a0 a1)++Ap (↑a1.6.length:Int))).snd.snd.snd)).snd.snd.snd)++(G6 a0 a1)++Ap (bif bif a1.1==(1:Int) then a1.10 else bif a1.1==(2:Int) then a1.10 else a1.10 then(1:Int) else(0:Int))++(DV a0 a1))).snd.snd.snd.snd else(Bu a0 a1))
def Qw (a0:List Ab) (a1:TMsg):A:=.tup [.sq 0,.v (.int .i64 (Qu a0 a1))]
def Qv (a0:List Ab) (a1:TMsg):Objs:=[(0,some (.arr 5 1 (.ty .u8 (L9 a0 a1))))]
def V2 (a0:List Ab) (a1:TMsg):List Prop:=[(DD a1),((!(Aq a0 a1))=true→Ad (([]++Ap a1.1).length+(8:Nat))),((!(Aq a0 a1))=true→(a1.1==(1:Int))=true→Am a1.3.5.length∧Ad ((Ao a0 a1).length+(2048:Nat))),((!(Aq a0 a1))=true→(a1.1==(1:Int))=false→(a1.1==(2:Int))=true→Ad ((Ao a0 a1).length+(8:Nat))),((!(Aq a0 a1))=true→(a1.1==(1:Int))=false→(a1.1==(2:Int))=true→Ad ((C4 a0 a1).length+(8:Nat))),((!(Aq a0 a1))=true→(a1.1==(1:Int))=false→(a1.1==(2:Int))=false→Ad ((Ao a0 a1).length+(8:Nat))),((!(Aq a0 a1))=true→(a1.1==(1:Int))=false→(a1.1==(2:Int))=false→Ax Bm Bl Ft (BS (a1.6,(↑a1.6.length:Int),(0:Int),(Ao a0 a1)++Ap (↑a1.6.length:Int))) (a1.6,(↑a1.6.length:Int),(0:Int),(Ao a0 a1)++Ap (↑a1.6.length:Int))),((!(Aq a0 a1))=true→(a1.1==(1:Int))=false→(a1.1==(2:Int))=false→Ax CL CK Fu (D4 (a1.7,(↑a1.7.length:Int),(0:Int),(B4 (a1.6,(↑a1.6.length:Int),(0:Int),(Ao a0 a1)++Ap (↑a1.6.length:Int))).snd.snd.snd)) (a1.7,(↑a1.7.length:Int),(0:Int),(B4 (a1.6,(↑a1.6.length:Int),(0:Int),(Ao a0 a1)++Ap (↑a1.6.length:Int))).snd.snd.snd)),((!(Aq a0 a1))=true→(AM a0 a1)=true→Ad ((Bu a0 a1).length+(16:Nat))),((!(Aq a0 a1))=true→(AM a0 a1)=true→Ad (((Bu a0 a1)++(G6 a0 a1)).length+(8:Nat))),((!(Aq a0 a1))=true→(AM a0 a1)=true→Ad ((BK a0 a1).length+(8:Nat))),((!(Aq a0 a1))=true→(AM a0 a1)=true→Ax CN CM Fv (D5 (a0,(C6 a0 a1),(C5 a0 a1),(0:Int),(BK a0 a1)++(DV a0 a1))) (a0,(C6 a0 a1),(C5 a0 a1),(0:Int),(BK a0 a1)++(DV a0 a1)))]
theorem Aun (a0:List Ab) (a1:TMsg):Hz (As Cwd RP) 9 7 [.sl .group a0,Ai .msg a1] 0 []=some (1,Qw a0 a1,1,Qv a0 a1,[(DD a1),((!(Aq a0 a1))=true→Ad (8:Nat)),((!(Aq a0 a1))=true→Ad (([]++Ap a1.1).length+(8:Nat))),((!(Aq a0 a1))=true→(a1.1==(1:Int))=true→Am a1.3.5.length∧Ad ((Ao a0 a1).length+(2048:Nat))),((!(Aq a0 a1))=true→(a1.1==(1:Int))=false→(a1.1==(2:Int))=true→Ad ((Ao a0 a1).length+(8:Nat))),((!(Aq a0 a1))=true→(a1.1==(1:Int))=false→(a1.1==(2:Int))=true→Ad ((C4 a0 a1).length+(8:Nat))),((!(Aq a0 a1))=true→(a1.1==(1:Int))=false→(a1.1==(2:Int))=false→Ad ((Ao a0 a1).length+(8:Nat))),((!(Aq a0 a1))=true→(a1.1==(1:Int))=false→(a1.1==(2:Int))=false→Ag Tryz.prog (7:FuncId) (1:Nat)=Ag Tryz.prog (7:FuncId) (1:Nat)),((!(Aq a0 a1))=true→(a1.1==(1:Int))=false→(a1.1==(2:Int))=false→Ax Bm Bl Ft (BS (a1.6,(↑a1.6.length:Int),(0:Int),(Ao a0 a1)++Ap (↑a1.6.length:Int))) (a1.6,(↑a1.6.length:Int),(0:Int),(Ao a0 a1)++Ap (↑a1.6.length:Int))),((!(Aq a0 a1))=true→(a1.1==(1:Int))=false→(a1.1==(2:Int))=false→Ag Tryz.prog (7:FuncId) (3:Nat)=Ag Tryz.prog (7:FuncId) (3:Nat)),((!(Aq a0 a1))=true→(a1.1==(1:Int))=false→(a1.1==(2:Int))=false→Ax CL CK Fu (D4 (a1.7,(↑a1.7.length:Int),(0:Int),(B4 (a1.6,(↑a1.6.length:Int),(0:Int),(Ao a0 a1)++Ap (↑a1.6.length:Int))).snd.snd.snd)) (a1.7,(↑a1.7.length:Int),(0:Int),(B4 (a1.6,(↑a1.6.length:Int),(0:Int),(Ao a0 a1)++Ap (↑a1.6.length:Int))).snd.snd.snd)),((!(Aq a0 a1))=true→(AM a0 a1)=true→Ad ((Bu a0 a1).length+(16:Nat))),((!(Aq a0 a1))=true→(AM a0 a1)=true→Ad (((Bu a0 a1)++(G6 a0 a1)).length+(8:Nat))),((!(Aq a0 a1))=true→(AM a0 a1)=true→Ad ((BK a0 a1).length+(8:Nat))),((!(Aq a0 a1))=true→(AM a0 a1)=true→Ag Tryz.prog (7:FuncId) (5:Nat)=Ag Tryz.prog (7:FuncId) (5:Nat)),((!(Aq a0 a1))=true→(AM a0 a1)=true→Ax CN CM Fv (D5 (a0,(C6 a0 a1),(C5 a0 a1),(0:Int),(BK a0 a1)++(DV a0 a1))) (a0,(C6 a0 a1),(C5 a0 a1),(0:Int),(BK a0 a1)++(DV a0 a1)))]):=by kernel_rfl
theorem Aww (a0:List Ab) (a1:TMsg) (hp:∀p∈V2 a0 a1,p):CallOk Tryz.prog 7 [.sl .group a0,Ai .msg a1] 0 [] 1 (Qw a0 a1) 1 (Qv a0 a1):=by
 have n0:=N0 hp
 have n1:((!(Aq a0 a1))=true→Ad (8:Nat)):=by intros;first|rfl|decide+kernel|exact⟨by decide,by decide⟩
 have n2:=N0 (N1 hp)
 have n3:=N0 (N1 (N1 hp))
 have n4:=N0 (N1 (N1 (N1 hp)))
 have n5:=N0 (N1 (N1 (N1 (N1 hp))))
 have n6:=N0 (N1 (N1 (N1 (N1 (N1 hp)))))
 have n7:((!(Aq a0 a1))=true→(a1.1==(1:Int))=false→(a1.1==(2:Int))=false→Ag Tryz.prog (7:FuncId) (1:Nat)=Ag Tryz.prog (7:FuncId) (1:Nat)):=by intros;rfl
 have n8:=N0 (N1 (N1 (N1 (N1 (N1 (N1 hp))))))
 have n9:((!(Aq a0 a1))=true→(a1.1==(1:Int))=false→(a1.1==(2:Int))=false→Ag Tryz.prog (7:FuncId) (3:Nat)=Ag Tryz.prog (7:FuncId) (3:Nat)):=by intros;rfl
 have n10:=N0 (N1 (N1 (N1 (N1 (N1 (N1 (N1 hp)))))))
 have n11:=N0 (N1 (N1 (N1 (N1 (N1 (N1 (N1 (N1 hp))))))))
 have n12:=N0 (N1 (N1 (N1 (N1 (N1 (N1 (N1 (N1 (N1 hp)))))))))
 have n13:=N0 (N1 (N1 (N1 (N1 (N1 (N1 (N1 (N1 (N1 (N1 hp))))))))))
 have n14:((!(Aq a0 a1))=true→(AM a0 a1)=true→Ag Tryz.prog (7:FuncId) (5:Nat)=Ag Tryz.prog (7:FuncId) (5:Nat)):=by intros;rfl
 have n15:=N0 (N1 (N1 (N1 (N1 (N1 (N1 (N1 (N1 (N1 (N1 (N1 hp)))))))))))
 exact AB (Ar An8 Z3) (Aun a0 a1) (Aa n0 (Aa n1 (Aa n2 (Aa n3 (Aa n4 (Aa n5 (Aa n6 (Aa n7 (Aa n8 (Aa n9 (Aa n10 (Aa n11 (Aa n12 (Aa n13 (Aa n14 (Aa n15 Af))))))))))))))))
def V3 (a0:List Ab) (a1:TMsg):A:=.tup [.sq 0,.v (.int .i64 (Au2 a0 a1))]
def V0 (a0:List Ab) (a1:TMsg):Objs:=[(0,some (.arr 5 1 (.ty .u8 (A52 a0 a1))))]
def TU (_a0:List Ab) (a1:TMsg):List Prop:=[DD a1]
theorem Gl (x:UInt8):(0:Int)≤(x.toNat:Int)∧(x.toNat:Int) <256:=by have:=x.toNat_lt;omega
theorem Br3 (p:List Int) (hl:p.length≤2) (b:List UInt8) (hb:Ad (b.length+64)):
  Ax Bm Bl Ft (BS (p,(p.length:Int),0,b)) (p,(p.length:Int),0,b)∧B4 (p,(p.length:Int),0,b)=(p,(p.length:Int),(p.length:Int),b++p.flatMap Ap):=by
 unfold Ad at hb
 have hin:∀i:Nat,(!!decide ((i:Int) <(p.length:Int)))=true→i <p.length:=fun k h=>by rw[nn] at h;have:=of_decide_eq_true h;omega
 obtain⟨h1,h2⟩:=Am8 (fun i=>((p,(p.length:Int),(i:Int),b++(p.take i).flatMap Ap):Bd)) p.length Bm Bl Ft (BS (p,(p.length:Int),0,b)) (p,(p.length:Int),0,b) (by simp) (by show p.length≤((p.length:Int) - 0).toNat;omega)
  (fun i _=>by
   show(!!decide ((i:Int) <(p.length:Int)))=_
   rw[nn,Mu])
  (fun i hi=>by
   show(p,(p.length:Int),IntKind.i64.wrap ((i:Int)+1),Kg p (p.length:Int) (i:Int) (b++(p.take i).flatMap Ap))=_
   unfold Kg
   rw[Fz (by omega),Int.toNat_natCast,Me Ap p (Ae TC.i64) i hi,List.append_assoc])
  (fun i hi=>by
   have hf:=Blw p i hi
   refine Aa (fun h=>by have:=hin i h;show(0:Int)≤(i:Int)∧(i:Int) <(p.length:Int);omega) (Aa (fun h=>?_) Af)
   show Ad ((b++(p.take i).flatMap Ap).length+8)
   rw[List.length_append];unfold Ad;omega)
 exact⟨h1,by show AF _ _ _ _=_;rw[h2,List.take_length]⟩
theorem Br4 (l:List (List UInt8)) (hl:l.length≤16) (b:List UInt8) (hb:Ad (b.length+1024)):
  Ax CL CK Fu (D4 (l,(l.length:Int),0,b)) (l,(l.length:Int),0,b)∧G7 (l,(l.length:Int),0,b)=(l,(l.length:Int),(l.length:Int),b++l.flatMap CB):=by
 unfold Ad at hb
 have hin:∀i:Nat,(!!decide ((i:Int) <(l.length:Int)))=true→i <l.length:=fun k h=>by rw[nn] at h;have:=of_decide_eq_true h;omega
 obtain⟨h1,h2⟩:=Am8 (fun i=>((l,(l.length:Int),(i:Int),b++(l.take i).flatMap CB):Be)) l.length CL CK Fu (D4 (l,(l.length:Int),0,b)) (l,(l.length:Int),0,b) (by simp) (by show l.length≤((l.length:Int) - 0).toNat;omega)
  (fun i _=>by
   show(!!decide ((i:Int) <(l.length:Int)))=_
   rw[nn,Mu])
  (fun i hi=>by
   have e:Ki l (l.length:Int) (i:Int) (b++(l.take i).flatMap CB)=(b++(l.take i).flatMap CB)++(List.range 32).map (fun j=>UInt8.ofNat ((((l.getD ((i:Int)).toNat (Ae TC.digest)).getD j 0).toNat:Nat):Int).toNat):=rfl
   have e2:(List.range 32).map (fun j=>UInt8.ofNat ((((l.getD ((i:Int)).toNat (Ae TC.digest)).getD j 0).toNat:Nat):Int).toNat)=CB (l.getD i (Ae TC.digest)):=by
    rw[Int.toNat_natCast]
    exact List.map_congr_left fun j _=>Btg _
   show(l,(l.length:Int),IntKind.i64.wrap ((i:Int)+1),Ki l (l.length:Int) (i:Int) (b++(l.take i).flatMap CB))=_
   rw[e,e2,Fz (by omega),Me CB l (Ae TC.digest) i hi,List.append_assoc])
  (fun i hi=>by
   have hf:=Bfv l i
   exact Aa (fun h=>by have:=hin i h;show(0:Int)≤(i:Int)∧(i:Int) <(l.length:Int);omega) (Aa (fun h=>by
    show Ad ((b++(l.take i).flatMap CB).length+32)
    rw[List.length_append];unfold Ad;omega) (Aa (fun _=>Gl _) (Aa (fun _=>Gl _) (Aa (fun _=>Gl _) (Aa (fun _=>Gl _) (Aa (fun _=>Gl _) (Aa (fun _=>Gl _) (Aa (fun _=>Gl _) (Aa (fun _=>Gl _) (Aa (fun _=>Gl _) (Aa (fun _=>Gl _) (Aa (fun _=>Gl _) (Aa (fun _=>Gl _) (Aa (fun _=>Gl _) (Aa (fun _=>Gl _) (Aa (fun _=>Gl _) (Aa (fun _=>Gl _) (Aa (fun _=>Gl _) (Aa (fun _=>Gl _) (Aa (fun _=>Gl _) (Aa (fun _=>Gl _) (Aa (fun _=>Gl _) (Aa (fun _=>Gl _) (Aa (fun _=>Gl _) (Aa (fun _=>Gl _) (Aa (fun _=>Gl _) (Aa (fun _=>Gl _) (Aa (fun _=>Gl _) (Aa (fun _=>Gl _) (Aa (fun _=>Gl _) (Aa (fun _=>Gl _) (Aa (fun _=>Gl _) (Aa (fun _=>Gl _) Af))))))))))))))))))))))))))))))))))
 exact⟨h1,by show AF _ _ _ _=_;rw[h2,List.take_length]⟩
theorem Br5 (l:List Ab) (rows:List Ak) (hl:rows.length≤256) (b:List UInt8) (hb:Ad (b.length+300000)):
  Ax CN CM Fv (D5 (l,rows,(rows.length:Int),0,b)) (l,rows,(rows.length:Int),0,b)∧Iu (l,rows,(rows.length:Int),0,b)=(l,rows,(rows.length:Int),(rows.length:Int),b++rows.flatMap (HE l)):=by
 unfold Ad at hb
 have hin:∀i:Nat,(!!decide ((i:Int) <(rows.length:Int)))=true→i <rows.length:=fun k h=>by rw[nn] at h;have:=of_decide_eq_true h;omega
 obtain⟨h1,h2⟩:=Am8 (fun i=>((l,rows,(rows.length:Int),(i:Int),b++(rows.take i).flatMap (HE l)):Bf)) rows.length CN CM Fv (D5 (l,rows,(rows.length:Int),0,b)) (l,rows,(rows.length:Int),0,b) (by simp) (by show rows.length≤((rows.length:Int) - 0).toNat;omega)
  (fun i _=>by
   show(!!decide ((i:Int) <(rows.length:Int)))=_
   rw[nn,Mu])
  (fun i hi=>by
   show(l,rows,(rows.length:Int),IntKind.i64.wrap ((i:Int)+1),Kj l rows (rows.length:Int) (i:Int) (b++(rows.take i).flatMap (HE l)))=_
   unfold Kj
   rw[Fz (by omega),Int.toNat_natCast,Me (HE l) rows (Ae TC.row) i hi,List.append_assoc])
  (fun i _=>by
   have hf:=Bfw l rows i
   refine Aa (fun h=>by have:=hin i h;show(0:Int)≤(i:Int)∧(i:Int) <(rows.length:Int);omega) (Aa (fun h=>?_) Af)
   show Ad ((b++(rows.take i).flatMap (HE l)).length+1024)
   rw[List.length_append];unfold Ad;omega)
 exact⟨h1,by show AF _ _ _ _=_;rw[h2,List.take_length]⟩
def Akq (l:List Ab) (m:TMsg):List UInt8:=bif AM l m then(Iu (l,C6 l m,C5 l m,0,BK l m++DV l m)).2.2.2.2 else Bu l m
theorem Bhk (l:List Ab) (m:TMsg):Ao l m=Ap m.kind++Ap m.site:=by unfold Ao;rw[List.nil_append]
theorem A3r (l:List Ab) (m:TMsg):AM l m=(m.kind==5):=by unfold AM;simp only[Aad]
theorem A3t (l:List Ab) (m:TMsg):C6 l m=m.rows:=by unfold C6;simp only[Aad]
theorem A3s (l:List Ab) (m:TMsg):C5 l m=(m.rows.length:Int):=by unfold C5;rw[A3t]
theorem Bhj (l:List Ab) (m:TMsg):DV l m=Ap (m.rows.length:Int):=by unfold DV;rw[A3s]
theorem Bhi (l:List Ab) (m:TMsg):G6 l m=Ic m.know:=by unfold G6;simp only[Aad]
theorem Bhh (l:List Ab) (m:TMsg):BK l m=Bu l m++Ic m.know++Ap (bif m.back then 1 else 0):=by unfold BK;rw[Bhi];simp only[Aad]
theorem Aum {l:List Ab} {m:TMsg} (hm:DD m):(∀p∈V2 l m,p)∧(D7 l m=0→Akq l m=Pi l m):=by
 have h16:(Ao l m).length≤16:=by
  rw[Bhk,List.length_append]
  have h1:=A3 m.kind
  have h2:=A3 m.site
  omega
 have h8:=A3 m.ack
 have h8':=A3 m.own
 have hv:=Ny m.know
 have h9:=A3 (bif m.back then 1 else 0)
 have h10:=A3 (m.rows.length:Int)
 have h11:=A3 (m.path.length:Int)
 have hch:=Bis l m.change
 have k4:(C4 l m).length=(Ao l m).length+(Ap m.ack).length:=by unfold C4;rw[List.length_append]
 have hg0:(!(Aq l m))=true→D7 l m=0:=fun h=>by
  have h':(!(D7 l m !=0))=true:=h
  simpa using h'
 have l1:D7 l m=0→_:=fun h=>Br3 m.path (A13 (U4 (Sh.1 h).2).2.1) (Ao l m++Ap (m.path.length:Int)) (by rw[List.length_append];unfold Ad;omega)
 have hf1:D7 l m=0→(m.path.flatMap Ap).length≤16:=fun h=>by
  have h2:=Nq Ap 8 m.path fun n _=>A3 n
  have:=A13 (U4 (Sh.1 h).2).2.1
  omega
 have l3:D7 l m=0→_:=fun h=>Br4 m.sums (U4 (Sh.1 h).2).2.2.2.1 ((Ao l m++Ap (m.path.length:Int))++m.path.flatMap Ap) (by have:=hf1 h;rw[List.length_append,List.length_append];unfold Ad;omega)
 have hf3:D7 l m=0→(m.sums.flatMap CB).length≤512:=fun h=>by
  have h2:=Nq CB 32 m.sums fun d _=>Nat.le_of_eq (Rk d)
  have:=(U4 (Sh.1 h).2).2.2.2.1
  omega
 have k2:D7 l m=0→Bu l m=bif m.kind==1 then Ao l m++Le l m.change else bif m.kind==2 then C4 l m++Ap m.own else Ao l m++JR m.path++m.sums.flatMap CB:=fun h=>by
  unfold Bu JR
  have e1:=(l1 h).2
  have e3:=(l3 h).2
  have e1':(B4 (m.6,(m.6.length:Int),0,Ao l m++Ap (m.6.length:Int))).2.2.2=(Ao l m++Ap (m.path.length:Int))++m.path.flatMap Ap:=congrArg (fun x=>x.2.2.2) e1
  rw[e1']
  have e3':(G7 (m.7,(m.7.length:Int),0,(Ao l m++Ap (m.path.length:Int))++m.path.flatMap Ap)).2.2.2=_:=congrArg (fun x=>x.2.2.2) e3
  rw[e3']
  simp only[List.append_assoc]
 have k2l:D7 l m=0→(Bu l m).length≤2000:=fun h=>by
  rw[k2 h]
  have q1:=hf1 h
  have q3:=hf3 h
  cases m.kind==1 with
  |true=>rw[cond_true,List.length_append];omega
  | false=>
   rw[cond_false]
   cases m.kind==2 with
   |true=>rw[cond_true,List.length_append,k4];omega
   |false=>
    unfold JR
    rw[cond_false,List.length_append,List.length_append,List.length_append];omega
 have h5:D7 l m=0→AM l m=true→m.rows.length≤256:=fun h h6=>by
  rw[A3r] at h6
  have h6':m.kind=5:=by simpa using h6
  rcases(U4 (Sh.1 h).2).2.2.2.2 with k|k|k|k|k
  ·have:=k.1;omega
  ·have:=k.1;omega
  ·have:=k.1;omega
  ·have:=k.1;omega
  ·exact k.2.2.1
 have k1l:(BK l m).length=(Bu l m).length+(Ic m.know).length+(Ap (bif m.back then 1 else 0)).length:=by rw[Bhh,List.length_append,List.length_append]
 have l5:D7 l m=0→AM l m=true→_:=fun h h6=>Br5 l m.rows (h5 h h6) (BK l m++Ap (m.rows.length:Int)) (by have:=k2l h;rw[List.length_append,k1l];unfold Ad;omega)
 refine⟨Aa hm (Aa (fun _=>by rw[List.nil_append];have:=A3 m.kind;show Ad ((Ap m.kind).length+8);unfold Ad;omega) (Aa (fun _ _=>⟨hm.1,by unfold Ad;omega⟩) (Aa (fun _ _ _=>by unfold Ad;omega) (Aa (fun _ _ _=>by rw[k4];unfold Ad;omega) (Aa (fun _ _ _=>by unfold Ad;omega) (Aa (fun h _ _=>(l1 (hg0 h)).1) (Aa (fun h _ _=>?_) (Aa (fun h _=>by have:=k2l (hg0 h);unfold Ad;omega) (Aa (fun h _=>?_) (Aa (fun h _=>by have:=k2l (hg0 h);rw[k1l];unfold Ad;omega) (Aa (fun h h6=>?_) Af))))))))))),fun h=>?_⟩
 ·have e1':(B4 (m.6,(m.6.length:Int),0,Ao l m++Ap (m.6.length:Int))).2.2.2=(Ao l m++Ap (m.path.length:Int))++m.path.flatMap Ap:=congrArg (fun x=>x.2.2.2) (l1 (hg0 h)).2
  rw[e1']
  exact(l3 (hg0 h)).1
 ·have:=k2l (hg0 h);rw[Bhi,List.length_append];unfold Ad;omega
 ·rw[A3t,A3s,Bhj]
  exact(l5 (hg0 h) h6).1
 ·have hpre:=Bhk l m
  unfold Akq
  rw[A3t,A3s,Bhj,A3r]
  have e2:C4 l m=Ao l m++Ap m.ack:=rfl
  unfold Pi Bnz Bml
  have hok:=U4 (Sh.1 h).2
  rcases hok.2.2.2.2 with k|k|k|k|k
  ·rw[k2 h,k.1]
   show Ao l m++Le l m.change=Ap 1++(Ap m.site++Le l m.change)
   rw[hpre,k.1,List.append_assoc]
  ·rw[k2 h,k.1]
   show C4 l m++Ap m.own=Ap 2++(Ap m.site++(Ap m.ack++Ap m.own))
   rw[e2,hpre,k.1];simp only[List.append_assoc]
  ·rw[k2 h,k.1]
   show Ao l m++JR m.path++m.sums.flatMap CB=Ap 3++(Ap m.site++(JR m.path++(m.sums.flatMap CB++[])))
   rw[hpre,k.1,List.append_nil];simp only[List.append_assoc]
  ·rw[k2 h,k.1]
   show Ao l m++JR m.path++m.sums.flatMap CB=Ap 4++(Ap m.site++(JR m.path++(m.sums.flatMap CB++[])))
   rw[hpre,k.1,List.append_nil];simp only[List.append_assoc]
  ·have h6:AM l m=true:=by rw[A3r,k.1];rfl
   have q:=congrArg (fun x=>x.2.2.2.2) (l5 h h6).2
   rw[show(m.kind==5)=true by rw[k.1];rfl,cond_true,cond_true]
   refine q.trans ?_
   show BK l m++Ap (m.rows.length:Int)++m.rows.flatMap (HE l)=_
   rw[Bhh,k2 h,k.1,hpre,k.1]
   show Ap 5++Ap m.site++JR m.path++m.sums.flatMap CB++Ic m.know++Ap (bif m.back then 1 else 0)++Ap (m.rows.length:Int)++m.rows.flatMap (HE l)=Ap 5++(Ap m.site++(JR m.path++(m.sums.flatMap CB++(Ic m.know++(Ap (bif m.back then 1 else 0)++(Ap (m.rows.length:Int)++m.rows.flatMap (HE l)))))))
   simp only[List.append_assoc]
theorem Br6 (l:List Ab) (m:TMsg):L9 l m=bif Aq l m then[] else bif Je l m then[] else Ad4 (Akq l m):=by
 unfold L9 Akq
 congr 3
theorem Bhg (l:List Ab) (m:TMsg):Je l m=decide (1048576 <(Akq l m).length):=by
 rw[←Bmm]
 unfold Je Akq
 congr 3
theorem Br2 {l:List Ab} {m:TMsg} (h2:D7 l m=0→Akq l m=Pi l m):L9 l m=A52 l m:=by
 rw[Br6,Bhg,←A54]
 unfold Aq
 cases hg:D7 l m !=0 with
 |true=>rw[cond_true,cond_true]
 |false=>rw[h2 (by simpa using hg)]
theorem Br1 {l:List Ab} {m:TMsg} (h2:D7 l m=0→Akq l m=Pi l m):Qu l m=Au2 l m:=by
 unfold Qu Au2
 rw[Bhg]
 unfold Aq
 cases hg:D7 l m !=0 with
 |true=>rw[cond_true,cond_true]
 |false=>rw[h2 (by simpa using hg)]
theorem Aul (a0:List Ab) (a1:TMsg) (hp:∀p∈TU a0 a1,p):CallOk Tryz.prog 7 [.sl .group a0,Ai .msg a1] 0 [] 1 (V3 a0 a1) 1 (V0 a0 a1):=by
 obtain⟨h1,h2⟩:=Aum (l:=a0) (hp _ (List.mem_cons_self ..))
 have h:=Aww a0 a1 h1
 have e1:=Br2 h2
 have e0:=Br1 h2
 unfold Qw Qv at h
 rw[e0,e1] at h
 exact h
def Yn:List A→Nat→Objs→Option A6:=Bt [.l .group,.t .msg] 1 V3 V0 TU
theorem Anb:HF Tryz.prog 7 Yn:=Av (ks:=[.l .group,.t .msg]) Aul
noncomputable def Bsv:=AS 7 Yn Cwd
theorem Bkv:Cr Tryz.prog Bsv:=An Anb An8
noncomputable def Cwe:=Bsv
theorem Bkw:Cr Tryz.prog Cwe:=Bkv
end Go.Proofs.YtifkbgkbajncjaaGreatDoor
namespace Go.Proofs.YtifkbgkbajncjaaGreatDoor
open Go.RowKit
def Hu (_a0:List Ab) (a1:TMsg):Bool:=decide ((↑a1.6.length:Int)≤(100:Int))&&decide ((↑a1.7.length:Int)≤(100:Int))
def In (a0:List Ab) (a1:TMsg):Bool:=(Hu a0 a1)&&true
def AQ (a0:List Ab) (a1:TMsg):Bool:=bif(In a0 a1) then Pm a0 [a1.3] [a1.8] else bif(Hu a0 a1) then false else false
def UK (a0:List Ab) (a1:TMsg):A:=.v (.bool (AQ a0 a1))
def UJ (_a0:List Ab) (_a1:TMsg):Objs:=[]
def Abm (a0:List Ab) (a1:TMsg):List Prop:=[((In a0 a1)=true→true=true→Am a0.length∧(Am (1:Nat)∧∀(c:TChange),c∈[a1.3]→SY c)∧Am (1:Nat)∧∀(x:List Ak),x∈[a1.8]→Am x.length∧∀(r:Ak),r∈x→Ym r)]
theorem A1i (a0:List Ab) (a1:TMsg):Hz (As Cwe L0) 9 5 [.sl .group a0,Ai .msg a1] 0 []=some (1,UK a0 a1,0,UJ a0 a1,[((In a0 a1)=true→true=true→Am a0.length∧(Am (1:Nat)∧∀(c:TChange),c∈[a1.3]→SY c)∧Am (1:Nat)∧∀(x:List Ak),x∈[a1.8]→Am x.length∧∀(r:Ak),r∈x→Ym r),((Hu a0 a1)=true→false=false),(false=true→true=false),(false=false),((Hu a0 a1)=true→false=false),(false=true→true=false),(false=false)]):=by kernel_rfl
theorem A6x (a0:List Ab) (a1:TMsg) (hp:∀p∈Abm a0 a1,p):CallOk Tryz.prog 5 [.sl .group a0,Ai .msg a1] 0 [] 1 (UK a0 a1) 0 (UJ a0 a1):=by
 have n0:=N0 hp
 have n1:((Hu a0 a1)=true→false=false):=by intros;rfl
 have n2:(false=true→true=false):=by first|rfl|decide+kernel
 have n3:(false=false):=by first|rfl|decide+kernel
 exact AB (Ar Bkw AA) (A1i a0 a1) (Aa n0 (Aa n1 (Aa n2 (Aa n3 (Aa n1 (Aa n2 (Aa n3 Af)))))))
def Ahw:List A→Nat→Objs→Option A6:=Bt [.l .group,.t .msg] 0 UK UJ Abm
theorem Avb:HF Tryz.prog 5 Ahw:=Av (ks:=[.l .group,.t .msg]) A6x
noncomputable def Bkx:=AS 5 Ahw Cwe
theorem Bho:Cr Tryz.prog Bkx:=An Avb Bkw
noncomputable def Bac:=AS 78 Aho Bkx
theorem Axc:Cr Tryz.prog Bac:=An Au0 Bho
noncomputable def Bad:=AS 17 (inl (Bia Bac) 1040 17) Bac
theorem Axd:Cr Tryz.prog Bad:=An (Aey (Aaz Axc) 1040 17) Axc
noncomputable def Bae:=AS 38 (inl (Bia Bad) 1040 38) Bad
theorem Axe:Cr Tryz.prog Bae:=An (Aey (Aaz Axd) 1040 38) Axd
noncomputable def Baf:=AS 41 (inl (Bia Bae) 1040 41) Bae
theorem Axf:Cr Tryz.prog Baf:=An (Aey (Aaz Axe) 1040 41) Axe
noncomputable def Bag:=AS 39 (inl (Bia Baf) 1040 39) Baf
theorem Axg:Cr Tryz.prog Bag:=An (Aey (Aaz Axf) 1040 39) Axf
noncomputable def Bah:=AS 13 (inl (Bia Bag) 1040 13) Bag
theorem Axh:Cr Tryz.prog Bah:=An (Aey (Aaz Axg) 1040 13) Axg
def UM:A:=.v (.bool (true))
def UL:Objs:=[]
def Abn:List Prop:=[(DD (TMsg.mk (2:Int) (2:Int) (TChange.mk (0:Int) (0:Int) (TStamp.mk (0:Int) (0:Int)) (TVec.mk (0:Int) (0:Int)) []) (3:Int) (1:Int) [] [] [] (TVec.mk (0:Int) (0:Int)) false)),(true=true→DD (TMsg.mk (2:Int) (2:Int) (TChange.mk (0:Int) (0:Int) (TStamp.mk (0:Int) (0:Int)) (TVec.mk (0:Int) (0:Int)) []) (3:Int) (1:Int) [] [] [] (TVec.mk (0:Int) (0:Int)) false))]
theorem A1j:Hz (As Bah L0) 1040 6 [] 0 []=some (1,UM,0,UL,[(DD (TMsg.mk (2:Int) (2:Int) (TChange.mk (0:Int) (0:Int) (TStamp.mk (0:Int) (0:Int)) (TVec.mk (0:Int) (0:Int)) []) (3:Int) (1:Int) [] [] [] (TVec.mk (0:Int) (0:Int)) false)),(Ad (10:Nat)),(Ad (4:Nat)),(DD (TMsg.mk (2:Int) (2:Int) (TChange.mk (0:Int) (0:Int) (TStamp.mk (0:Int) (0:Int)) (TVec.mk (0:Int) (0:Int)) []) (3:Int) (1:Int) [] [] [] (TVec.mk (0:Int) (0:Int)) false)),(true=true→(0:Int)≤(2:Int)∧(2:Int)≤(6:Int)∧(6:Int)≤(10:Int)),(true=true→DD (TMsg.mk (2:Int) (2:Int) (TChange.mk (0:Int) (0:Int) (TStamp.mk (0:Int) (0:Int)) (TVec.mk (0:Int) (0:Int)) []) (3:Int) (1:Int) [] [] [] (TVec.mk (0:Int) (0:Int)) false))]):=by kernel_rfl
theorem A6y (hp:∀p∈Abn,p):CallOk Tryz.prog 6 [] 0 [] 1 (UM) 0 (UL):=by
 have n0:(DD (TMsg.mk (2:Int) (2:Int) (TChange.mk (0:Int) (0:Int) (TStamp.mk (0:Int) (0:Int)) (TVec.mk (0:Int) (0:Int)) []) (3:Int) (1:Int) [] [] [] (TVec.mk (0:Int) (0:Int)) false)):=N0 hp
 have n1:(Ad (10:Nat)):=by first|rfl|decide+kernel
 have n2:(Ad (4:Nat)):=by first|rfl|decide+kernel
 have n4:(true=true→(0:Int)≤(2:Int)∧(2:Int)≤(6:Int)∧(6:Int)≤(10:Int)):=by first|rfl|decide+kernel
 have n5:=N0 (N1 hp)
 exact AB (Ar Axh AA) (A1j) (Aa n0 (Aa n1 (Aa n2 (Aa n0 (Aa n4 (Aa n5 Af))))))
def Ahx:List A→Nat→Objs→Option A6:=Bt [] 0 UM UL Abn
theorem Avc:HF Tryz.prog 6 Ahx:=Av (ks:=[]) A6y
noncomputable def Bky:=AS 6 Ahx Bah
theorem Bhp:Cr Tryz.prog Bky:=An Avc Axh
theorem Anw (a b c d:Int):DD ⟨a,b,⟨0,0,⟨0,0⟩,⟨0,0⟩,[]⟩,c,d,[],[],[],⟨0,0⟩,false⟩:=by
 have n0:Am 0:=Nat.zero_le _
 exact⟨n0,n0,n0,n0,fun r hr=>by cases hr⟩
noncomputable def Bvv:=Bky
theorem Bpb:Cr Tryz.prog Bvv:=Bhp
end Go.Proofs.YtifkbgkbajncjaaGreatDoor
namespace Go.Proofs.YtifkbgkbajncjaaGreatDoor
open Go.RowKit
def Eh (a0:List Ab) (a1:TMsg):Bool:=D7 a0 a1==D7 a0 a1&&(Aht a1.1).toList==(Aht a1.1).toList&&(ByteArray.mk (A52 a0 a1).toArray).toList==(ByteArray.mk (A52 a0 a1).toArray).toList&&Au2 a0 a1==Au2 a0 a1
def IQ (a0:List Ab) (a1:TMsg):Bool:=bif !AQ a0 a1 then true else(Eh a0 a1)&&true
def KO (a0:List Ab) (a1:TMsg):A:=.v (.bool (IQ a0 a1))
def Ps (_a0:List Ab) (_a1:TMsg):Objs:=[]
def Od (a0:List Ab) (a1:TMsg):List Prop:=[(In a0 a1=true→true=true→Am a0.length∧(Am (1:Nat)∧∀(c:TChange),c∈[a1.3]→SY c)∧Am (1:Nat)∧∀(x:List Ak),x∈[a1.8]→Am x.length∧∀(r:Ak),r∈x→Ym r),((!AQ a0 a1)=true→DD (TMsg.mk (2:Int) (2:Int) (TChange.mk (0:Int) (0:Int) (TStamp.mk (0:Int) (0:Int)) (TVec.mk (0:Int) (0:Int)) []) (3:Int) (1:Int) [] [] [] (TVec.mk (0:Int) (0:Int)) false)),((!AQ a0 a1)=true→true=true→DD (TMsg.mk (2:Int) (2:Int) (TChange.mk (0:Int) (0:Int) (TStamp.mk (0:Int) (0:Int)) (TVec.mk (0:Int) (0:Int)) []) (3:Int) (1:Int) [] [] [] (TVec.mk (0:Int) (0:Int)) false)),((!!AQ a0 a1)=true→DD a1),((!!AQ a0 a1)=true→DD a1∧∀(g:Ab),g∈a0→Am g.1.size),((!!AQ a0 a1)=true→(Eh a0 a1)=true→DD (TMsg.mk (2:Int) (2:Int) (TChange.mk (0:Int) (0:Int) (TStamp.mk (0:Int) (0:Int)) (TVec.mk (0:Int) (0:Int)) []) (3:Int) (1:Int) [] [] [] (TVec.mk (0:Int) (0:Int)) false)),((!!AQ a0 a1)=true→(Eh a0 a1)=true→true=true→DD (TMsg.mk (2:Int) (2:Int) (TChange.mk (0:Int) (0:Int) (TStamp.mk (0:Int) (0:Int)) (TVec.mk (0:Int) (0:Int)) []) (3:Int) (1:Int) [] [] [] (TVec.mk (0:Int) (0:Int)) false))]
theorem YO (a0:List Ab) (a1:TMsg):Hz (As Bvv L0) 9 3 [.sl .group a0,Ai .msg a1] 0 []=some (1,KO a0 a1,0,Ps a0 a1,[(In a0 a1=true→true=true→Am a0.length∧(Am (1:Nat)∧∀(c:TChange),c∈[a1.3]→SY c)∧Am (1:Nat)∧∀(x:List Ak),x∈[a1.8]→Am x.length∧∀(r:Ak),r∈x→Ym r),((!AQ a0 a1)=true→DD (TMsg.mk (2:Int) (2:Int) (TChange.mk (0:Int) (0:Int) (TStamp.mk (0:Int) (0:Int)) (TVec.mk (0:Int) (0:Int)) []) (3:Int) (1:Int) [] [] [] (TVec.mk (0:Int) (0:Int)) false)),((!AQ a0 a1)=true→true=true→DD (TMsg.mk (2:Int) (2:Int) (TChange.mk (0:Int) (0:Int) (TStamp.mk (0:Int) (0:Int)) (TVec.mk (0:Int) (0:Int)) []) (3:Int) (1:Int) [] [] [] (TVec.mk (0:Int) (0:Int)) false)),((!!AQ a0 a1)=true→DD a1),((!!AQ a0 a1)=true→DD a1∧∀(g:Ab),g∈a0→Am g.1.size),((!!AQ a0 a1)=true→DD a1),((!!AQ a0 a1)=true→DD a1∧∀(g:Ab),g∈a0→Am g.1.size),((!!AQ a0 a1)=true→(Eh a0 a1)=true→DD (TMsg.mk (2:Int) (2:Int) (TChange.mk (0:Int) (0:Int) (TStamp.mk (0:Int) (0:Int)) (TVec.mk (0:Int) (0:Int)) []) (3:Int) (1:Int) [] [] [] (TVec.mk (0:Int) (0:Int)) false)),((!!AQ a0 a1)=true→(Eh a0 a1)=true→true=true→DD (TMsg.mk (2:Int) (2:Int) (TChange.mk (0:Int) (0:Int) (TStamp.mk (0:Int) (0:Int)) (TVec.mk (0:Int) (0:Int)) []) (3:Int) (1:Int) [] [] [] (TVec.mk (0:Int) (0:Int)) false))]):=by kernel_rfl
theorem Abl (a0:List Ab) (a1:TMsg) (hp:∀p∈Od a0 a1,p):CallOk Tryz.prog 3 [.sl .group a0,Ai .msg a1] 0 [] 1 (KO a0 a1) 0 (Ps a0 a1):=by
 have n0:=N0 hp
 have n1:=N0 (N1 hp)
 have n2:=N0 (N1 (N1 hp))
 have n3:((!!AQ a0 a1)=true→DD a1):=N0 (N1 (N1 (N1 hp)))
 have n4:((!!AQ a0 a1)=true→DD a1∧∀(g:Ab),g∈a0→Am g.1.size):=N0 (N1 (N1 (N1 (N1 hp))))
 have n7:=N0 (N1 (N1 (N1 (N1 (N1 hp)))))
 have n8:=N0 (N1 (N1 (N1 (N1 (N1 (N1 hp))))))
 exact AB (Ar Bpb AA) (YO a0 a1) (Aa n0 (Aa n1 (Aa n2 (Aa n3 (Aa n4 (Aa n3 (Aa n4 (Aa n7 (Aa n8 Af)))))))))
end Go.Proofs.YtifkbgkbajncjaaGreatDoor
namespace Go.Proofs.YtifkbgkbajncjaaGreatDoor
open Go.RowKit
theorem Bjr {a:List Ak} (w:a.length≤maxLen∧∀y∈a,Axj y):Am a.length∧∀r∈a,Ym r:=⟨w.1,fun r hr=>⟨(w.2 r hr).1,(w.2 r hr).2.1,fun c hc=>((w.2 r hr).2.2 c hc).2.2.2.1⟩⟩
theorem Az2 {l:List Ab} {m:TMsg} (w0:l.length≤maxLen∧∀y∈l,Wfd .group y) (w1:Wfd .msg m):Am l.length∧(Am (1:Nat)∧∀c∈[m.change],SY c)∧Am (1:Nat)∧∀x∈[m.rows],Am x.length∧∀r∈x,Ym r:=by
 obtain⟨_,_,hc,_,_,_,_,hr,_⟩:=w1
 refine⟨w0.1,⟨by unfold Am;omega,fun c h=>?_⟩,by unfold Am;omega,fun x h=>?_⟩
 ·rw[List.mem_singleton.1 h]
  obtain⟨_,_,_,_,h1,h2⟩:=hc
  exact⟨h1,fun w hw=>⟨(h2 w hw).1,(h2 w hw).2.2.2⟩⟩
 ·rw[List.mem_singleton.1 h]
  exact Bjr hr
theorem Bbu {l:List Ab} {m:TMsg} (w0:l.length≤maxLen∧∀y∈l,Wfd .group y) (w1:Wfd .msg m) (h:AQ l m=true):DD m∧m.path.length≤100∧m.sums.length≤100∧m.rows.length≤6000∧l.length≤6000:=by
 have hw:=Az2 w0 w1
 unfold AQ at h
 cases h0:In l m with
 |false=>
  rw[h0,cond_false] at h
  cases h1:Hu l m<;>rw[h1] at h<;>cases h
 | true=>
  rw[h0,cond_true] at h
  have h1:Hu l m=true:=by
   unfold In at h0
   rwa[Bool.and_true] at h0
  unfold Hu at h1
  rw[Bool.and_eq_true,decide_eq_true_eq,decide_eq_true_eq] at h1
  have e6:(m.6.length:Int)=(m.path.length:Int):=rfl
  have e7:(m.7.length:Int)=(m.sums.length:Int):=rfl
  rw[e6,e7] at h1
  obtain⟨q0,q1,q2⟩:=(Apl l [m.change] [m.rows] hw.1 hw.2.1 hw.2.2.1 hw.2.2.2).2 h
  have q3:=q2 m.rows (List.mem_singleton.2 rfl)
  have q4:=q1.2 m.change (List.mem_singleton.2 rfl)
  have q5:=q4.1
  refine⟨⟨by unfold Am;omega,by unfold Am;omega,by unfold Am;omega,by unfold Am;omega,fun r hr=>?_⟩,by omega,by omega,q3.1,q0⟩
  have:=(q3.2 r hr).2.1
  unfold Ad;omega
end Go.Proofs.YtifkbgkbajncjaaGreatDoor
namespace Go.Proofs.YtifkbgkbajncjaaGreatDoor
open Go.RowKit
theorem Br0 (a0:List Ab) (a1:TMsg) (w0:a0.length≤maxLen∧∀y∈a0,Wfd .group y) (w1:Wfd .msg a1):(∀p∈Od a0 a1,p)∧IQ a0 a1=true:=by
 have hg:∀g∈a0,Am g.1.size:=fun g hg=>(w0.2 g hg).1
 have hl:(!!AQ a0 a1)=true→DD a1:=fun h=>(Bbu w0 w1 (by rwa[Bool.not_not] at h)).1
 refine⟨Aa (fun _ _=>Az2 w0 w1) (Aa (fun _=>Anw ..) (Aa (fun _ _=>Anw ..) (Aa hl (Aa (fun h=>⟨hl h,hg⟩) (Aa (fun _ _=>Anw ..) (Aa (fun _ _ _=>Anw ..) Af)))))),?_⟩
 unfold IQ Eh
 simp only[beq_self_eq_true,Bool.and_self]
 cases AQ a0 a1<;>rfl
end Go.Proofs.YtifkbgkbajncjaaGreatDoor
namespace Go.Proofs.YtifkbgkbajncjaaGreatDoor
open Go.RowKit
set_option maxRecDepth 100000
theorem op3:Opn Tryz.prog .i64 3:=Bq5 Tryz.underlying3
theorem op4:Opn Tryz.prog .bool 4:=Bm0 Tryz.underlying4
theorem XA:Opn Tryz.prog .u8 5:=Bus Tryz.underlying5
theorem op9:Opn Tryz.prog .str 9:=Bq6 Tryz.underlying9
theorem Bwt:Opn Tryz.prog .group 106:=fun en w base spare held m cs y h=>by
 obtain⟨xs,n,_,_,hl,hz,hg⟩:=DataW.trod_struct Tryz.underlying106 h
 have hz:xs.length=2:=hz
 have hl:cs.length=2:=hl.trans (by kernel_rfl)
 obtain⟨x0,w0,g0⟩:=MC (i:=0) (o:=0) (k:=1) op9 rfl rfl rfl (by kernel_rfl) (by omega) hg
 obtain⟨x1,w1,g1⟩:=MC (i:=1) (o:=1) (k:=1) op3 rfl rfl rfl (by kernel_rfl) (by omega) hg
 exact⟨⟨x0,x1⟩,⟨w0,w1⟩,fun F N nx hF=>JV (o:=0) (k:=1) (g0 F N nx hF) (JV (o:=1) (k:=1) (g1 F N nx hF) (HLe (o:=2) hl))⟩
theorem Bwv:Z9 Tryz.prog .group 22:=Rg Tryz.underlying22 (by kernel_rfl) Bwt
theorem Bwu:Opn Tryz.prog .stamp 24:=fun en w base spare held m cs y h=>by
 obtain⟨xs,n,_,_,hl,hz,hg⟩:=DataW.trod_struct Tryz.underlying24 h
 have hz:xs.length=2:=hz
 have hl:cs.length=2:=hl.trans (by kernel_rfl)
 obtain⟨x0,w0,g0⟩:=MC (i:=0) (o:=0) (k:=1) op3 rfl rfl rfl (by kernel_rfl) (by omega) hg
 obtain⟨x1,w1,g1⟩:=MC (i:=1) (o:=1) (k:=1) op3 rfl rfl rfl (by kernel_rfl) (by omega) hg
 exact⟨⟨x0,x1⟩,⟨w0,w1⟩,fun F N nx hF=>JV (o:=0) (k:=1) (g0 F N nx hF) (JV (o:=1) (k:=1) (g1 F N nx hF) (HLe (o:=2) hl))⟩
theorem Bq3:Opn Tryz.prog .vec 26:=fun en w base spare held m cs y h=>by
 obtain⟨xs,n,_,_,hl,hz,hg⟩:=DataW.trod_array Tryz.underlying26 h
 have hl:cs.length=2:=hl.trans (by kernel_rfl)
 obtain⟨x0,w0,g0⟩:=Jg (i:=0) (k:=1) op3 (by kernel_rfl) (by omega) (by omega) hg
 obtain⟨x1,w1,g1⟩:=Jg (i:=1) (k:=1) op3 (by kernel_rfl) (by omega) (by omega) hg
 exact⟨⟨x0,x1⟩,⟨w0,w1⟩,fun F N nx hF=>JV (o:=0) (k:=1) (g0 F N nx hF) (JV (o:=1) (k:=1) (g1 F N nx hF) (HLe (o:=2) hl))⟩
theorem Bwr:Opn Tryz.prog .write 102:=fun en w base spare held m cs y h=>by
 obtain⟨xs,n,_,_,hl,hz,hg⟩:=DataW.trod_struct Tryz.underlying102 h
 have hz:xs.length=4:=hz
 have hl:cs.length=4:=hl.trans (by kernel_rfl)
 obtain⟨x0,w0,g0⟩:=MC (i:=0) (o:=0) (k:=1) op9 rfl rfl rfl (by kernel_rfl) (by omega) hg
 obtain⟨x1,w1,g1⟩:=MC (i:=1) (o:=1) (k:=1) op3 rfl rfl rfl (by kernel_rfl) (by omega) hg
 obtain⟨x2,w2,g2⟩:=MC (i:=2) (o:=2) (k:=1) op4 rfl rfl rfl (by kernel_rfl) (by omega) hg
 obtain⟨x3,w3,g3⟩:=MC (i:=3) (o:=3) (k:=1) op9 rfl rfl rfl (by kernel_rfl) (by omega) hg
 exact⟨⟨x0,x1,x2,x3⟩,⟨w0,w1,w2,w3⟩,fun F N nx hF=>JV (o:=0) (k:=1) (g0 F N nx hF) (JV (o:=1) (k:=1) (g1 F N nx hF) (JV (o:=2) (k:=1) (g2 F N nx hF) (JV (o:=3) (k:=1) (g3 F N nx hF) (HLe (o:=4) hl))))⟩
theorem Bww:Z9 Tryz.prog .write 27:=Rg Tryz.underlying27 (by kernel_rfl) Bwr
theorem Bxp:Opn Tryz.prog .change 29:=fun en w base spare held m cs y h=>by
 obtain⟨xs,n,_,_,hl,hz,hg⟩:=DataW.trod_struct Tryz.underlying29 h
 have hz:xs.length=5:=hz
 have hl:cs.length=7:=hl.trans (by kernel_rfl)
 obtain⟨x0,w0,g0⟩:=MC (i:=0) (o:=0) (k:=1) op3 rfl rfl rfl (by kernel_rfl) (by omega) hg
 obtain⟨x1,w1,g1⟩:=MC (i:=1) (o:=1) (k:=1) op3 rfl rfl rfl (by kernel_rfl) (by omega) hg
 obtain⟨x2,w2,g2⟩:=MC (i:=2) (o:=2) (k:=2) Bwu rfl rfl rfl (by kernel_rfl) (by omega) hg
 obtain⟨x3,w3,g3⟩:=MC (i:=3) (o:=4) (k:=2) Bq3 rfl rfl rfl (by kernel_rfl) (by omega) hg
 obtain⟨x4,w4,g4⟩:=Blx (i:=4) (o:=6) (k:=1) Bww rfl rfl rfl (by kernel_rfl) (by omega) hg
 exact⟨⟨x0,x1,x2,x3,x4⟩,⟨w0,w1,w2,w3,w4⟩,fun F N nx hF=>JV (o:=0) (k:=1) (g0 F N nx hF) (JV (o:=1) (k:=1) (g1 F N nx hF) (JV (o:=2) (k:=2) (g2 F N nx hF) (JV (o:=4) (k:=2) (g3 F N nx hF) (JV (o:=6) (k:=1) (g4 F N nx hF) (HLe (o:=7) hl)))))⟩
theorem Bwx:Z9 Tryz.prog .i64 30:=Rg Tryz.underlying30 (by kernel_rfl) op3
theorem Bxr:Opn Tryz.prog .digest 58:=fun en w base spare held m cs y h=>by
 obtain⟨xs,n,_,_,hl,hz,hg⟩:=DataW.trod_array Tryz.underlying58 h
 have hl:cs.length=32:=hl.trans (by kernel_rfl)
 obtain⟨x0,_,g0⟩:=Jg (i:=0) (k:=1) XA (by kernel_rfl) (by omega) (by omega) hg
 obtain⟨x1,_,g1⟩:=Jg (i:=1) (k:=1) XA (by kernel_rfl) (by omega) (by omega) hg
 obtain⟨x2,_,g2⟩:=Jg (i:=2) (k:=1) XA (by kernel_rfl) (by omega) (by omega) hg
 obtain⟨x3,_,g3⟩:=Jg (i:=3) (k:=1) XA (by kernel_rfl) (by omega) (by omega) hg
 obtain⟨x4,_,g4⟩:=Jg (i:=4) (k:=1) XA (by kernel_rfl) (by omega) (by omega) hg
 obtain⟨x5,_,g5⟩:=Jg (i:=5) (k:=1) XA (by kernel_rfl) (by omega) (by omega) hg
 obtain⟨x6,_,g6⟩:=Jg (i:=6) (k:=1) XA (by kernel_rfl) (by omega) (by omega) hg
 obtain⟨x7,_,g7⟩:=Jg (i:=7) (k:=1) XA (by kernel_rfl) (by omega) (by omega) hg
 obtain⟨x8,_,g8⟩:=Jg (i:=8) (k:=1) XA (by kernel_rfl) (by omega) (by omega) hg
 obtain⟨x9,_,g9⟩:=Jg (i:=9) (k:=1) XA (by kernel_rfl) (by omega) (by omega) hg
 obtain⟨x10,_,g10⟩:=Jg (i:=10) (k:=1) XA (by kernel_rfl) (by omega) (by omega) hg
 obtain⟨x11,_,g11⟩:=Jg (i:=11) (k:=1) XA (by kernel_rfl) (by omega) (by omega) hg
 obtain⟨x12,_,g12⟩:=Jg (i:=12) (k:=1) XA (by kernel_rfl) (by omega) (by omega) hg
 obtain⟨x13,_,g13⟩:=Jg (i:=13) (k:=1) XA (by kernel_rfl) (by omega) (by omega) hg
 obtain⟨x14,_,g14⟩:=Jg (i:=14) (k:=1) XA (by kernel_rfl) (by omega) (by omega) hg
 obtain⟨x15,_,g15⟩:=Jg (i:=15) (k:=1) XA (by kernel_rfl) (by omega) (by omega) hg
 obtain⟨x16,_,g16⟩:=Jg (i:=16) (k:=1) XA (by kernel_rfl) (by omega) (by omega) hg
 obtain⟨x17,_,g17⟩:=Jg (i:=17) (k:=1) XA (by kernel_rfl) (by omega) (by omega) hg
 obtain⟨x18,_,g18⟩:=Jg (i:=18) (k:=1) XA (by kernel_rfl) (by omega) (by omega) hg
 obtain⟨x19,_,g19⟩:=Jg (i:=19) (k:=1) XA (by kernel_rfl) (by omega) (by omega) hg
 obtain⟨x20,_,g20⟩:=Jg (i:=20) (k:=1) XA (by kernel_rfl) (by omega) (by omega) hg
 obtain⟨x21,_,g21⟩:=Jg (i:=21) (k:=1) XA (by kernel_rfl) (by omega) (by omega) hg
 obtain⟨x22,_,g22⟩:=Jg (i:=22) (k:=1) XA (by kernel_rfl) (by omega) (by omega) hg
 obtain⟨x23,_,g23⟩:=Jg (i:=23) (k:=1) XA (by kernel_rfl) (by omega) (by omega) hg
 obtain⟨x24,_,g24⟩:=Jg (i:=24) (k:=1) XA (by kernel_rfl) (by omega) (by omega) hg
 obtain⟨x25,_,g25⟩:=Jg (i:=25) (k:=1) XA (by kernel_rfl) (by omega) (by omega) hg
 obtain⟨x26,_,g26⟩:=Jg (i:=26) (k:=1) XA (by kernel_rfl) (by omega) (by omega) hg
 obtain⟨x27,_,g27⟩:=Jg (i:=27) (k:=1) XA (by kernel_rfl) (by omega) (by omega) hg
 obtain⟨x28,_,g28⟩:=Jg (i:=28) (k:=1) XA (by kernel_rfl) (by omega) (by omega) hg
 obtain⟨x29,_,g29⟩:=Jg (i:=29) (k:=1) XA (by kernel_rfl) (by omega) (by omega) hg
 obtain⟨x30,_,g30⟩:=Jg (i:=30) (k:=1) XA (by kernel_rfl) (by omega) (by omega) hg
 obtain⟨x31,_,g31⟩:=Jg (i:=31) (k:=1) XA (by kernel_rfl) (by omega) (by omega) hg
 exact⟨[x0,x1,x2,x3,x4,x5,x6,x7,x8,x9,x10,x11,x12,x13,x14,x15,x16,x17,x18,x19,x20,x21,x22,x23,x24,x25,x26,x27,x28,x29,x30,x31],rfl,fun F N nx hF=>JV (o:=0) (k:=1) (g0 F N nx hF) (JV (o:=1) (k:=1) (g1 F N nx hF) (JV (o:=2) (k:=1) (g2 F N nx hF) (JV (o:=3) (k:=1) (g3 F N nx hF) (JV (o:=4) (k:=1) (g4 F N nx hF) (JV (o:=5) (k:=1) (g5 F N nx hF) (JV (o:=6) (k:=1) (g6 F N nx hF) (JV (o:=7) (k:=1) (g7 F N nx hF) (JV (o:=8) (k:=1) (g8 F N nx hF) (JV (o:=9) (k:=1) (g9 F N nx hF) (JV (o:=10) (k:=1) (g10 F N nx hF) (JV (o:=11) (k:=1) (g11 F N nx hF) (JV (o:=12) (k:=1) (g12 F N nx hF) (JV (o:=13) (k:=1) (g13 F N nx hF) (JV (o:=14) (k:=1) (g14 F N nx hF) (JV (o:=15) (k:=1) (g15 F N nx hF) (JV (o:=16) (k:=1) (g16 F N nx hF) (JV (o:=17) (k:=1) (g17 F N nx hF) (JV (o:=18) (k:=1) (g18 F N nx hF) (JV (o:=19) (k:=1) (g19 F N nx hF) (JV (o:=20) (k:=1) (g20 F N nx hF) (JV (o:=21) (k:=1) (g21 F N nx hF) (JV (o:=22) (k:=1) (g22 F N nx hF) (JV (o:=23) (k:=1) (g23 F N nx hF) (JV (o:=24) (k:=1) (g24 F N nx hF) (JV (o:=25) (k:=1) (g25 F N nx hF) (JV (o:=26) (k:=1) (g26 F N nx hF) (JV (o:=27) (k:=1) (g27 F N nx hF) (JV (o:=28) (k:=1) (g28 F N nx hF) (JV (o:=29) (k:=1) (g29 F N nx hF) (JV (o:=30) (k:=1) (g30 F N nx hF) (JV (o:=31) (k:=1) (g31 F N nx hF) (HLe (o:=32) hl))))))))))))))))))))))))))))))))⟩
theorem Bwy:Z9 Tryz.prog .digest 31:=Rg Tryz.underlying31 (by kernel_rfl) Bxr
theorem Bws:Opn Tryz.prog .cell 104:=fun en w base spare held m cs y h=>by
 obtain⟨xs,n,_,_,hl,hz,hg⟩:=DataW.trod_struct Tryz.underlying104 h
 have hz:xs.length=5:=hz
 have hl:cs.length=8:=hl.trans (by kernel_rfl)
 obtain⟨x0,w0,g0⟩:=MC (i:=0) (o:=0) (k:=2) Bwu rfl rfl rfl (by kernel_rfl) (by omega) hg
 obtain⟨x1,w1,g1⟩:=MC (i:=1) (o:=2) (k:=2) Bq3 rfl rfl rfl (by kernel_rfl) (by omega) hg
 obtain⟨x2,w2,g2⟩:=MC (i:=2) (o:=4) (k:=1) op4 rfl rfl rfl (by kernel_rfl) (by omega) hg
 obtain⟨x3,w3,g3⟩:=MC (i:=3) (o:=5) (k:=1) op9 rfl rfl rfl (by kernel_rfl) (by omega) hg
 obtain⟨x4,w4,g4⟩:=MC (i:=4) (o:=6) (k:=2) Bq3 rfl rfl rfl (by kernel_rfl) (by omega) hg
 exact⟨⟨x0,x1,x2,x3,x4⟩,⟨w0,w1,w2,w3,w4⟩,fun F N nx hF=>JV (o:=0) (k:=2) (g0 F N nx hF) (JV (o:=2) (k:=2) (g1 F N nx hF) (JV (o:=4) (k:=1) (g2 F N nx hF) (JV (o:=5) (k:=1) (g3 F N nx hF) (JV (o:=6) (k:=2) (g4 F N nx hF) (HLe (o:=8) hl)))))⟩
theorem Bw0:Z9 Tryz.prog .cell 60:=Rg Tryz.underlying60 (by kernel_rfl) Bws
theorem Bxs:Opn Tryz.prog .row 62:=fun en w base spare held m cs y h=>by
 obtain⟨xs,n,_,_,hl,hz,hg⟩:=DataW.trod_struct Tryz.underlying62 h
 have hz:xs.length=2:=hz
 have hl:cs.length=2:=hl.trans (by kernel_rfl)
 obtain⟨x0,w0,g0⟩:=MC (i:=0) (o:=0) (k:=1) op9 rfl rfl rfl (by kernel_rfl) (by omega) hg
 obtain⟨x1,w1,g1⟩:=Blx (i:=1) (o:=1) (k:=1) Bw0 rfl rfl rfl (by kernel_rfl) (by omega) hg
 exact⟨⟨x0,x1⟩,⟨w0,w1⟩,fun F N nx hF=>JV (o:=0) (k:=1) (g0 F N nx hF) (JV (o:=1) (k:=1) (g1 F N nx hF) (HLe (o:=2) hl))⟩
theorem Bwz:Z9 Tryz.prog .row 32:=Rg Tryz.underlying32 (by kernel_rfl) Bxs
theorem Bxq:Opn Tryz.prog .msg 34:=fun en w base spare held m cs y h=>by
 obtain⟨xs,n,_,_,hl,hz,hg⟩:=DataW.trod_struct Tryz.underlying34 h
 have hz:xs.length=10:=hz
 have hl:cs.length=17:=hl.trans (by kernel_rfl)
 obtain⟨x0,w0,g0⟩:=MC (i:=0) (o:=0) (k:=1) op3 rfl rfl rfl (by kernel_rfl) (by omega) hg
 obtain⟨x1,w1,g1⟩:=MC (i:=1) (o:=1) (k:=1) op3 rfl rfl rfl (by kernel_rfl) (by omega) hg
 obtain⟨x2,w2,g2⟩:=MC (i:=2) (o:=2) (k:=7) Bxp rfl rfl rfl (by kernel_rfl) (by omega) hg
 obtain⟨x3,w3,g3⟩:=MC (i:=3) (o:=9) (k:=1) op3 rfl rfl rfl (by kernel_rfl) (by omega) hg
 obtain⟨x4,w4,g4⟩:=MC (i:=4) (o:=10) (k:=1) op3 rfl rfl rfl (by kernel_rfl) (by omega) hg
 obtain⟨x5,w5,g5⟩:=Blx (i:=5) (o:=11) (k:=1) Bwx rfl rfl rfl (by kernel_rfl) (by omega) hg
 obtain⟨x6,w6,g6⟩:=Blx (i:=6) (o:=12) (k:=1) Bwy rfl rfl rfl (by kernel_rfl) (by omega) hg
 obtain⟨x7,w7,g7⟩:=Blx (i:=7) (o:=13) (k:=1) Bwz rfl rfl rfl (by kernel_rfl) (by omega) hg
 obtain⟨x8,w8,g8⟩:=MC (i:=8) (o:=14) (k:=2) Bq3 rfl rfl rfl (by kernel_rfl) (by omega) hg
 obtain⟨x9,w9,g9⟩:=MC (i:=9) (o:=16) (k:=1) op4 rfl rfl rfl (by kernel_rfl) (by omega) hg
 exact⟨⟨x0,x1,x2,x3,x4,x5,x6,x7,x8,x9⟩,⟨w0,w1,w2,w3,w4,w5,w6,w7,w8,w9⟩,fun F N nx hF=>JV (o:=0) (k:=1) (g0 F N nx hF) (JV (o:=1) (k:=1) (g1 F N nx hF) (JV (o:=2) (k:=7) (g2 F N nx hF) (JV (o:=9) (k:=1) (g3 F N nx hF) (JV (o:=10) (k:=1) (g4 F N nx hF) (JV (o:=11) (k:=1) (g5 F N nx hF) (JV (o:=12) (k:=1) (g6 F N nx hF) (JV (o:=13) (k:=1) (g7 F N nx hF) (JV (o:=14) (k:=2) (g8 F N nx hF) (JV (o:=16) (k:=1) (g9 F N nx hF) (HLe (o:=17) hl))))))))))⟩
end Go.Proofs.YtifkbgkbajncjaaGreatDoor
namespace Go.Proofs.YtifkbgkbajncjaaGreatDoor
open Go.ChangeShapes Go.WideShapes Go.ChangeAt Go.RowKit
theorem own:ownKnob Tryz.prog.godebug=none:=by kernel_rfl
theorem Bqo:laidOutB Tryz.prog=true:=by kernel_rfl
section
variable {P:Program} {H:Type} {enc:TypeId×Value→H} {w:World} {base:Nat} {spare:Nat→Bool} {held:Bool} {v:Value} {d:DataW H} {p:List MemPlace}
theorem Aus {r:Reach} {b0:Nat} {t:TypeId} {fs:Array Field} (hu:P.underlying t=some (.struct fs)) (h:Value.okWide P w r b0 t v):∃cs,v=.agg cs∧cs.size=P.cellsOf t:=by
 unfold Value.okWide at h
 rw[hu] at h
 obtain⟨cs,h1,h2,_⟩:=h
 exact⟨cs,h1,h2⟩
end
theorem Xh {H:Type} {enc:TypeId×Value→H} {W W':World} (hb:Below W.heap.size W W'):∀(ts:List TypeId) (vs:List Value) (ds:List (DataW H)) (ps:List MemPlace),
  (∀t∈ts,Tryz.prog.readableRec t=true∧t <Tryz.prog.types.size)→DataW.TrodAll enc Tryz.prog W 0 (fun _=>true) true ts vs ds ps→(∀x∈ps,x.block <W.heap.size)→
  DataW.TrodAll enc Tryz.prog W' 0 (fun b=>decide (b <W.heap.size)) true ts vs ds ps
 | [],vs,ds,ps,_,h,_=>by
  obtain⟨rfl,rfl,rfl⟩:=trodAll_nil h
  exact trodAll_mk0
 | t::ts,vs,ds,ps,hr,h,hlt=>by
  obtain⟨v,vs',d,ds',p,q,rfl,rfl,rfl,h0,h1⟩:=trodAll_cons h
  exact trodAll_cons_mk (Below.trod Bqo (hr t (by simp)).1 (hr t (by simp)).2 h0 hb fun x hx=>hlt x (by simp[hx]))
   (Xh hb ts vs' ds' q (fun t' ht'=>hr t' (by simp[ht'])) h1 fun x hx=>hlt x (by simp[hx]))
end Go.Proofs.YtifkbgkbajncjaaGreatDoor
namespace Go.Proofs.YtifkbgkbajncjaaGreatDoor
open Go.RowKit Go.WideShapes Go.ChangeShapes
section
variable {H:Type} {en:TypeId×Value→H} {P:Program} {w:World} {base:Nat} {spare:Nat→Bool} {held:Bool} {t e:TypeId} {v:Value} {d:DataW H} {p:List MemPlace} {r:Reach} {b0:Nat} {c:TC}
theorem Bk6 (ht:P.underlying t=some (.slice e)) (ho:Z9 P c t) (hv:Value.okWide P w r b0 t v) (h:DataW.Trod en P w base spare held t v d p):
  ∃l:List (U c),(l.length≤maxLen∧∀x∈l,Wfd c x)∧∀(F:Nat→Prop) (N:Nm) (nx:Nat),FB w F→Hv F N nx w (.sl c l) v:=by
 obtain⟨a,len,cap,rfl⟩:=okWide_slice ht hv
 obtain⟨fuel,hf⟩:=h
 obtain⟨l,h1,h2⟩:=ho en w base spare held fuel _ _ hf
 refine⟨l,h1,fun F N nx hF=>?_⟩
 obtain⟨y,ys,e,h3,_⟩:=(h2 F N nx hF).inv
 have e':[Value.slice a len cap]=y::ys:=e
 cases e'
 exact h3
theorem Bpt {cs:Array Value} (ho:Opn P c t) (ha:c.isAgg=true) (hv:v=.agg cs) (h:DataW.Trod en P w base spare held t v d p):
  ∃x:U c,Wfd c x∧∀(F:Nat→Prop) (N:Nm) (nx:Nat),FB w F→Hv F N nx w (Ai c x) v:=by
 subst hv
 obtain⟨fuel,hf⟩:=h
 obtain⟨x,h2,h3⟩:=ho en w base spare held fuel _ _ hf
 exact⟨x,h2,fun F N nx hF=>Bbp (h3 F N nx hF) ha⟩
theorem Bam {fs:Array Field} (ht:P.underlying t=some (.struct fs)) (ho:Opn P c t) (ha:c.isAgg=true) (hv:Value.okWide P w r b0 t v) (h:DataW.Trod en P w base spare held t v d p):
  ∃x:U c,Wfd c x∧∀(F:Nat→Prop) (N:Nm) (nx:Nat),FB w F→Hv F N nx w (Ai c x) v:=by
 obtain⟨cs,hcs,_⟩:=Aus ht hv
 exact Bpt ho ha hcs h
end
theorem Bhy {P:Program} {f:FuncId} {args:List A} {nx':Nat} {o':Objs} {b:Bool} (h:CallOk P f args 0 [] 1 (.v (.bool b)) nx' o') (W:World) (hgl:GlobOk (fun b=>b <W.heap.size) W) (vs:List Value) (ha:∀(F:Nat→Prop) (N:Nm) (nx:Nat),FB W F→HL F N nx W args vs):
  Calls P f vs.toArray W fun e W'=>e=.returned (.bool b)∧Below W.heap.size W W':=by
 have hr:HRel (fun b=>b <W.heap.size) ⟨fun _=>0,fun _=> .nilFunc⟩ 0 [] W:=⟨fun g hg=>hg,fun i ob hi=>(by cases hi),fun i ob g hi=>(by cases hi),fun i j x y g hi=>(by cases hi),hgl⟩
 refine(h _ _ W vs hr (ha _ _ _ fun b hb=>hb)).mono fun e W' ⟨y,F',N',he,_,_,hy,hb⟩=>?_
 rw[hy.v_inv] at he
 exact⟨he,hb (Nat.le_refl _)⟩
end Go.Proofs.YtifkbgkbajncjaaGreatDoor
namespace Go.Proofs.YtifkbgkbajncjaaGreatDoor
open Go.RowKit Go.ChangeShapes Go.WideShapes Go.ChangeAt
theorem Bik {P:Program} {t e:TypeId} {n:Nat} {H:Type} {en:TypeId×Value→H} {W:World} {base:Nat} {spare:Nat→Bool} {held:Bool} {fuel:Nat} (hu:P.underlying t=some (.array n e)) (he:P.underlying e=some .string) (hc:P.cellsOf e=1) (ht:P.cellsOf t=n) {cs:List Value} {l:List ByteArray} {p:List MemPlace}
  (h:DataW.trod en P W base spare held fuel t cs=some (.agg (l.map fun x=> .lit (.string x.data.toList)),p)):cs=l.map Value.string:=by
 obtain⟨xs,m,_,hx,hl,hn,hg⟩:=DataW.trod_array hu h
 rw[ht] at hl
 rw[hc] at hg
 have e1:xs.map (·.1)=l.map fun x=>DataW.lit (.string x.data.toList):=by
  have:=congrArg Prod.fst hx
  simpa using this.symm
 have hln:l.length=n:=by
  have:=congrArg List.length e1
  simpa[hn] using this.symm
 refine List.ext_getElem? fun i=>?_
 by_cases hi:i <n
 ·have h1:=hg i hi
  have hxi:xs[i]?=some xs[i]:=List.getElem?_eq_getElem (by omega)
  rw[hxi] at h1
  obtain⟨m',e2,e3,_⟩:=DataW.trod_string he h1
  have e4:=congrArg (·[i]?) e1
  simp only[List.getElem?_map,hxi,Option.map_some] at e4
  have hli:l[i]?=some l[i]:=List.getElem?_eq_getElem (by omega)
  rw[hli,Option.map_some,e3] at e4
  have e5:m'=l[i]:=by
   have:m'.data.toList=l[i].data.toList:=by simpa using e4
   have h2:=Array.toList_inj.1 this
   cases m'
   generalize l[i]=z at h2
   cases z
   exact congrArg ByteArray.mk h2
  rw[List.getElem?_map,hli,Option.map_some,←e5]
  have e6:((cs.drop (i*1)).take 1)[0]?=some (Value.string m'):=by rw[e2];rfl
  rw[List.getElem?_take_of_lt (by omega),List.getElem?_drop] at e6
  simpa using e6
 ·rw[List.getElem?_eq_none (by omega),List.getElem?_eq_none (by rw[List.length_map];omega)]
abbrev A6z:List (String×DataW Unit):=[("gemel/wire.names",Rows.laid_gemel_wire_names)]
theorem Blk (os:Os) (args:Array Value):laidMetH Tryz.prog A6z ((World.doorLaid Tryz.prog 400 os).forCall (fun _ _=>0) ⟨#[],args,[]⟩).memory:=
 laidMetH_of_parts3 (fuel:=8) (laidMet_of_run' 8 (by kernel_rfl) (by kernel_rfl)) (by kernel_rfl) (by kernel_rfl)
def gIx:Nat:=match Xo with
 | [(i,_)]=>i
 |_=>0
theorem gName:Tryz.prog.globalNamed "gemel/wire.names" =some gIx:=by kernel_rfl
theorem gType:(Tryz.prog.globals[gIx]?).map (·.type)=some 76:=by kernel_rfl
def namesL:List ByteArray:=match Xo with
 | [(_,⟨.str,_,l⟩)]=>l
 |_=>[]
theorem Bqp:(Rows.laid_gemel_wire_names:DataW Unit)=.agg (namesL.map fun x=> .lit (.string x.data.toList)):=by kernel_rfl
theorem Bl7:Xo=[(gIx,⟨.str,rfl,namesL⟩)]:=by kernel_rfl
theorem Bql {W:World} (h:laidMetH Tryz.prog A6z W):GlobOk (fun b=>b <W.heap.size) W:=by
 rw[MakeChecks.laidMetH_plain _ _ _ (by kernel_rfl)] at h
 obtain⟨ps,⟨g0,t0,cs0,f0,p0,q0,hg0,ht0,hv0,hd0,_,hps⟩,_,hcell⟩:=h
 obtain rfl:=Option.some.inj (gName.symm.trans hg0)
 obtain rfl:=Option.some.inj (gType.symm.trans ht0)
 rw[Bqp] at hd0
 have hcs:=Bik (l:=namesL) Tryz.underlying76 Tryz.underlying9 (by kernel_rfl) (by kernel_rfl) hd0
 have hlen:cs0.toList.length=6:=by rw[hcs,List.length_map];kernel_rfl
 have hsz:cs0.size=6:=by rw[←Array.length_toList];exact hlen
 have hm:MemPlace.cell gIx 0∈ps:=by
  rw[hps]
  refine List.mem_append.2 (.inl (List.mem_append.2 (.inl ?_)))
  unfold MemPlace.row
  rw[hsz]
  exact List.mem_map.2 ⟨0,List.mem_range.2 (by decide),rfl⟩
 obtain⟨⟨c,t,hc⟩,_⟩:=hcell gIx 0 hm
 have hcc:c=cs0:=by
  unfold World.var? at hv0
  rw[gName] at hv0
  simp only[Option.bind_some,hc] at hv0
  exact Option.some.inj hv0
 subst hcc
 intro x hx
 rw[Bl7] at hx
 obtain rfl:=List.mem_singleton.1 hx
 refine⟨GQ hc,t,?_⟩
 show W.heap[gIx]?=some (.cells (namesL.map (sv .str)).toArray t (0,0))
 rw[hc]
 congr 2
 apply Array.ext'
 rw[hcs]
 rfl
end Go.Proofs.YtifkbgkbajncjaaGreatDoor
namespace Go.Proofs.YtifkbgkbajncjaaGreatDoor.wireEncodes
open Go.ChangeShapes Go.WideShapes Go.ChangeAt Go.RowKit
theorem lifted (os:Os) (started:os.Started) (H:Type) (enc:TypeId×Value→H):
  ReturnsInHanded {} Tryz.checked os 3 .any (fun w args=>(Rows.wireEncodesSpec.pre enc Tryz.prog Tryz.f3 [] false w args∧laidMetH Tryz.prog A6z w)∧sizedMet enc Tryz.prog Tryz.f3 (OpenSpec.ofChange Rows.wireEncodesSpec) false w args)
   (Rows.wireEncodesSpec.post enc Tryz.prog Tryz.f3 false true false false):=by
 refine returnsInHanded_of_change_and (C:=Tryz.checked) (X:=fun w _=>laidMetH Tryz.prog A6z w) (fun _ _ _ hh h=>h.of_heap hh) own started (by kernel_rfl) Tryz.func3
  (ChangeSpec.witness_shaped (enc:=enc) (C:=Tryz.checked) (os:=os) (X:=fun w _=>laidMetH Tryz.prog A6z w) false (World.doorLaid Tryz.prog 400 os) #[.slice none 0 0,.agg #[.int .i64 0,.int .i64 0,.int .i64 0,.int .i64 0,.int .i64 0,.int .i64 0,.int .i64 0,.int .i64 0,.slice none 0 0,.int .i64 0,.int .i64 0,.slice none 0 0,.slice none 0 0,.slice none 0 0,.int .i64 0,.int .i64 0,.bool false]] 8 rfl (World.shaped_of_RefB (by kernel_rfl) (by kernel_rfl)) (by kernel_rfl) (by kernel_rfl) (by kernel_rfl) (Blk os _)) ?_
 intro W base args ds gs before hval0 hW _ _ hL _
 have hval:∀(j:Nat) t v,Tryz.f3.params[j]?=some t→args[j]?=some v→Value.okWide Tryz.prog W .any base t v:=hval0
 have hW':=hW
 have hlt:∀x∈before,x.block <W.heap.size:=fun x hx=>hW.lt x hx
 obtain⟨p,q,hA0,hV,rfl,hfz,hnd⟩:=hW
 have hA:DataW.TrodAll enc Tryz.prog W 0 (fun _=>true) true Tryz.f3.params.toList args.toList ds p:=hA0
 rw[Tryz.params3] at hA hval
 have hA':=hA
 obtain⟨v0,vs0,d0,ds0,p0,q0,hargs,rfl,rfl,h0,r0⟩:=trodAll_cons hA
 obtain⟨v1,vs1,d1,ds1,p1,q1,rfl,rfl,rfl,h1,r1⟩:=trodAll_cons r0
 obtain⟨rfl,rfl,rfl⟩:=trodAll_nil r1
 obtain rfl:args=#[v0,v1]:=by cases args;simp_all
 obtain⟨rfl,rfl⟩:=trodVars_none hV
 obtain⟨a0,w0,g0⟩:=Bk6 Tryz.underlying22 Bwv (hval 0 22 v0 rfl rfl) h0
 obtain⟨a1,w1,g1⟩:=Bam Tryz.underlying34 Bxq rfl (hval 1 34 v1 rfl rfl) h1
 obtain⟨hn,ht⟩:=Br0 a0 a1 w0 w1
 have hc:=Abl a0 a1 hn
 have hr:KO a0 a1=.v (.bool true):=by show A.v (.bool (IQ a0 a1))=_;rw[ht]
 rw[hr] at hc
 refine(Bhy hc W (Bql hL) [v0,v1] fun F N nx hF=>HL.cons (g0 F N nx hF) (HL.cons (g1 F N nx hF) (HL.nil))).mono fun e W' ⟨he,bel⟩=>?_
 subst he
 have hread:∀t∈[22,34],Tryz.prog.readableRec t=true∧t <Tryz.prog.types.size:=by
  intro t ht
  simp only[List.mem_cons,List.not_mem_nil,or_false] at ht
  rcases ht with rfl|rfl
  all_goals exact⟨by kernel_rfl,of_decide_eq_true (by kernel_rfl)⟩
 exact⟨_,rfl,_,_,_,[],_,[],hW',trodAll_mk1 (shut_bool Tryz.underlying4 _),
  Xh bel _ _ _ _ hread hA' (fun x hx=>hlt x (by simpa using hx)),rfl,bel.frame _,fun h=>by cases h⟩
theorem tA:Tryz.prog.funcNamed Rows.wireEncodesRow.func=some 3:=by kernel_rfl
theorem b0:(Rows.wireEncodesRow.wf (OpenSpec.ofChange Rows.wireEncodesSpec))=true:=by kernel_rfl
theorem b1:(laidOutB Tryz.prog)=true:=by kernel_rfl
theorem b2:(mapsRowed Tryz.prog)=true:=by kernel_rfl
theorem b3:(Tryz.f3.params.all (Tryz.prog.readableRec ·))=true:=by kernel_rfl
theorem b4:(namedTie Tryz.prog Rows.wireEncodesRow.named Rows.wireEncodesSpec.vars)=true:=by kernel_rfl
theorem b5:((Rows.wireEncodesRow.stops==[]))=true:=by kernel_rfl
theorem b6:((Tryz.prog.stops==[]))=true:=by kernel_rfl
theorem b7:((Rows.wireEncodesRow.knobs==[]))=true:=by kernel_rfl
theorem b8:((Tryz.prog.stopKnobs==[]))=true:=by kernel_rfl
theorem b9:((Rows.wireEncodesRow.inPlace==Tryz.prog.inPlace 3))=true:=by kernel_rfl
theorem b10:((Rows.wireEncodesRow.unfollowed==Tryz.prog.unfollowed 3))=true:=by kernel_rfl
theorem b11:((Rows.wireEncodesRow.recurses==Tryz.prog.recurses 3))=true:=by kernel_rfl
theorem b12:((Rows.wireEncodesRow.named==Tryz.prog.varsNamed 3))=true:=by kernel_rfl
theorem b13:((Rows.wireEncodesRow.maps==(Tryz.f3.params.toList++Rows.wireEncodesSpec.plain.varTypes Tryz.prog).any (Tryz.prog.mapsRec ·)))=true:=by kernel_rfl
theorem b14:((Rows.wireEncodesRow.ifaces==(Tryz.f3.params.toList++Rows.wireEncodesSpec.plain.varTypes Tryz.prog).any (Tryz.prog.ifacesRec ·)))=true:=by kernel_rfl
theorem b15:((Rows.wireEncodesRow.mapsOut==Tryz.prog.mapsAmong Tryz.f3.resultTypes.toList))=true:=by kernel_rfl
theorem b16:((Rows.wireEncodesRow.loops==(Tryz.f3.params.toList++Rows.wireEncodesSpec.plain.varTypes Tryz.prog).any (Tryz.prog.loopsFrom ·)))=true:=by kernel_rfl
theorem b17:((Rows.wireEncodesRow.wideKeys==(Tryz.f3.params.toList++Rows.wireEncodesSpec.plain.varTypes Tryz.prog++Tryz.f3.resultTypes.toList).any (Tryz.prog.wideKeysFrom ·)))=true:=by kernel_rfl
theorem b18:(Rows.wireEncodesSpec.vars.all (Tryz.prog.varReadable ·))=true:=by kernel_rfl
theorem b19:(Tryz.f3.resultTypes.all (fun t=>Tryz.prog.readableRec t&&decide (t <Tryz.prog.types.size)))=true:=by kernel_rfl
theorem b20:((Rows.wireEncodesRow.ifacesOut==Tryz.f3.resultTypes.toList.any (Tryz.prog.ifacesRec ·)))=true:=by kernel_rfl
theorem b21:((Rows.wireEncodesRow.loopsOut==Tryz.f3.resultTypes.toList.any (Tryz.prog.loopsFrom ·)))=true:=by kernel_rfl
theorem b22:((Rows.wireEncodesRow.plainKeys==Tryz.prog.plainKeys))=true:=by kernel_rfl
theorem b23:(Rows.wireEncodesRow.shortTexts.isNone)=true:=by kernel_rfl
theorem b24:(Tryz.prog.stopsHeard)=true:=by kernel_rfl
theorem b25:(Tryz.prog.mayEnter)=true:=by kernel_rfl
theorem b26:((Rows.wireEncodesRow.lifted==Tryz.prog.liftsFinal))=true:=by kernel_rfl
theorem b27:((Tryz.prog.make==some Rows.wireEncodesRow.make))=true:=by kernel_rfl
theorem b28:((Rows.wireEncodesRow.kinds==(if Rows.wireEncodesRow.domain.isEmpty then[] else Tryz.f3.params.toList.map fun t=>match Tryz.prog.underlying t with|some (.int k)=>some k|_=>none)))=true:=by kernel_rfl
theorem b29:((Rows.wireEncodesRow.pinned==Rows.wireEncodesRow.pinnedBy))=true:=by kernel_rfl
theorem b30:((Rows.wireEncodesRow.veiled==(Tryz.f3.params.toList++Rows.wireEncodesSpec.plain.varTypes Tryz.prog++Tryz.f3.resultTypes.toList).any (Tryz.prog.veiledRec ·)))=true:=by kernel_rfl
theorem b31:(Rows.wireEncodesRow.veiledFits Tryz.prog Tryz.f3.params.toList (Tryz.f3.params.toList++Rows.wireEncodesSpec.plain.varTypes Tryz.prog++Tryz.f3.resultTypes.toList))=true:=by kernel_rfl
theorem J4 {a b:Bool} (h:a=true) (g:b=true):(a&&b)=true:=by rw[h,g];rfl
theorem tB:joinedFacts Tryz.prog 3 Tryz.f3 Rows.wireEncodesSpec Rows.wireEncodesRow=true:=by
 unfold joinedFacts
 exact(J4 (J4 (J4 (J4 (J4 (J4 (J4 (J4 (J4 (J4 (J4 (J4 (J4 (J4 (J4 (J4 (J4 (J4 (J4 (J4 (J4 (J4 (J4 (J4 (J4 (J4 (J4 (J4 (J4 (J4 (J4 b0 b1) b2) b3) b4) b5) b6) b7) b8) b9) b10) b11) b12) b13) b14) b15) b16) b17) b18) b19) b20) b21) b22) b23) b24) b25) b26) b27) b28) b29) b30) b31)
theorem tC:Tryz.f3.isInstance Tryz.prog Rows.wireEncodesRow.origin Rows.wireEncodesRow.targs:=of_decide_eq_true (by kernel_rfl)
theorem tD0:decide (Check.packageOf Tryz.f3.name= "main")=false:=by kernel_rfl
theorem tD:Tryz.f3.isWrapper Tryz.prog Rows.wireEncodesRow.wrapper Rows.wireEncodesRow.mainSum:=by
 unfold Func.isWrapper
 rw[if_neg (of_decide_eq_false tD0)]
 exact⟨rfl,rfl⟩
theorem over:Rows.wireEncodesRow.holds Tryz.pinned (OpenSpec.ofChange Rows.wireEncodesSpec):=
 OpenClaim.holds_of_wide 3 Tryz.f3 rfl rfl rfl rfl rfl rfl rfl ⟨rfl,rfl,rfl,rfl,rfl⟩ rfl rfl rfl rfl rfl tA Tryz.func3 tB tC tD
  (fun os started H enc _=>lifted os started H enc)
theorem proved:Rows.WireEncodesCardSaid:=
 Claim7.holds_tied_plain_at .later [] [.data] true (true,"2fb6bcba11d488c1df56cd33c71823d0f37048f48772d3dc1280b67036d87f5a") false
  over (fun _ h=>by cases h) (by kernel_rfl) (fun _ h=>by cases h) wireEncodes_row_tie rfl ⟨rfl,rfl⟩ (by kernel_rfl) rfl
  (fun f fn hf hfn=>by
   obtain rfl:f=3:=Option.some.inj ((show Tryz.prog.funcNamed "gemel/gemellaw14.WireEncodes" =some 3 by kernel_rfl).symm.trans hf) |>.symm
   obtain rfl:fn=Tryz.f3:=(Option.some.inj (Tryz.func3.symm.trans hfn)).symm
   exact⟨by kernel_rfl,fun j t ht=>by
    rw[Tryz.params3] at ht
    have hm:t∈[22,34]:=by simpa using Array.mem_of_getElem? ht
    have hall:([22,34].all fun u=>!Tryz.prog.wantsStandIn u)=true:=by kernel_rfl
    exact(show Tryz.prog.wantsStandIn t=false by simpa using List.all_eq_true.1 hall t hm)⟩)
  (by kernel_rfl)
end Go.Proofs.YtifkbgkbajncjaaGreatDoor.wireEncodes
