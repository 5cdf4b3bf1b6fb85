/- made by a program (rowgen.py): WireTurned: for every input the law returns true, and each argument reads behind the call as it read before. -/
import Derived.Test.YtifkbgkbajncjaaDoorKWtf
import Derived.Test.YtifkbgkbajncjaaDoorRows

set_option maxRecDepth 100000
namespace Go.Proofs.YtifkbgkbajncjaaDoor
open Go.RowKit
theorem Axf {a:List Aq} (w:a.length≤maxLen∧∀y∈a,Agd y):AD a.length∧∀r∈a,SX r:=⟨w.1,fun r hr=>⟨(w.2 r hr).1,(w.2 r hr).2.1,fun c hc=>((w.2 r hr).2.2 c hc).2.2.2.1⟩⟩
theorem Aia {l:List Af} {m:TMsg} (w0:l.length≤maxLen∧∀y∈l,Wfd .group y) (w1:Wfd .msg m):AD l.length∧(AD (1:Nat)∧∀c∈[m.change],O1 c)∧AD (1:Nat)∧∀x∈[m.rows],AD x.length∧∀r∈x,SX r:=by
 obtain⟨_,_,hc,_,_,_,_,hr,_⟩:=w1
 refine⟨w0.1,⟨by unfold AD;omega,fun c h=>?_⟩,by unfold AD;omega,fun x h=>?_⟩
 ·rw[List.mem_singleton.1 h]
  obtain⟨_,_,_,_,h1,h2⟩:=hc
  exact⟨h1,fun w hw=>⟨(h2 w hw).1,(h2 w hw).2.2.2⟩⟩
 ·rw[List.mem_singleton.1 h]
  exact Axf hr
theorem Arj {l:List Af} {m:TMsg} (w0:l.length≤maxLen∧∀y∈l,Wfd .group y) (w1:Wfd .msg m) (h:Ag l m=true):DD m∧m.path.length≤100∧m.sums.length≤100∧m.rows.length≤6000∧l.length≤6000:=by
 have hw:=Aia w0 w1
 unfold Ag at h
 cases h0:GA l m with
 |false=>
  rw[h0,cond_false] at h
  cases h1:F8 l m<;>rw[h1] at h<;>cases h
 | true=>
  rw[h0,cond_true] at h
  have h1:F8 l m=true:=by
   unfold GA at h0
   rwa[Bool.and_true] at h0
  unfold F8 at h1
  rw[Bool.and_eq_true,decide_eq_true_eq,decide_eq_true_eq] at h1
  have e6:(m.6.length:Int)=(m.path.length:Int):=rfl
  have e7:(m.7.length:Int)=(m.sums.length:Int):=rfl
  rw[e6,e7] at h1
  obtain⟨q0,q1,q2⟩:=(Abi l [m.change] [m.rows] hw.1 hw.2.1 hw.2.2.1 hw.2.2.2).2 h
  have q3:=q2 m.rows (List.mem_singleton.2 rfl)
  have q4:=q1.2 m.change (List.mem_singleton.2 rfl)
  have q5:=q4.1
  refine⟨⟨by unfold AD;omega,by unfold AD;omega,by unfold AD;omega,by unfold AD;omega,fun r hr=>?_⟩,by omega,by omega,q3.1,q0⟩
  have:=(q3.2 r hr).2.1
  unfold Ai;omega
end Go.Proofs.YtifkbgkbajncjaaDoor
namespace Go.Proofs.YtifkbgkbajncjaaDoor
open Go.RowKit
noncomputable def A6e:=CA 5 Qn Cwe
theorem Aye:FM Tryd.prog A6e:=Az Sq Aii
noncomputable def A6f:=CA 6 XS A6e
theorem Ayf:FM Tryd.prog A6f:=Az Ae2 Aye
noncomputable def A6g:=CA 8 Wh A6f
theorem Ayg:FM Tryd.prog A6g:=Az Am2 Ayf
def Ac (a0:List Af) (a1:TMsg) (_a2:Int) (_a3:Int):Bool:=Mq a0 a1 !=(0:Int)
def AU (a0:List Af) (a1:TMsg) (a2:Int) (_a3:Int):Int:=IntKind.i64.wrap ((IntKind.u64.wrap a2).tmod (IntKind.u64.wrap (↑(FN a0 a1).length:Int)))
def DK (a0:List Af) (a1:TMsg) (_a2:Int) (_a3:Int):Bool:=(↑(FN a0 a1).length:Int)==(0:Int)
def AG (a0:List Af) (a1:TMsg) (_a2:Int) (_a3:Int):Int:=(↑(UInt8.toNat ((FN a0 a1).getD (1:Nat) (Aj TC.u8))):Int).fdiv (64:Int)
def BP (a0:List Af) (a1:TMsg) (a2:Int) (a3:Int):List UInt8:=List.take ((AU a0 a1 a2 a3).toNat - (0:Nat)) (List.drop (0:Nat) (FN a0 a1))
def Ae (a0:List Af) (a1:TMsg) (a2:Int) (a3:Int):Bool:=HK (BP a0 a1 a2 a3) !=(10:Int)
def Ay (a0:List Af) (a1:TMsg) (a2:Int) (a3:Int):Bool:=decide ((AG a0 a1 a2 a3) >(0:Int))
def AB (a0:List Af) (a1:TMsg) (a2:Int) (a3:Int):Int:=IntKind.i64.wrap (IntKind.i64.wrap ((bif(Ay a0 a1 a2 a3) then IntKind.i64.wrap ((1:Int)+IntKind.i64.wrap ((1:Int)*(2:Int)^min (AG a0 a1 a2 a3).toNat (64:Nat))) else(2:Int))+IntKind.i64.wrap ((IntKind.u64.wrap a2).tmod (IntKind.u64.wrap (IntKind.i64.wrap (IntKind.i64.wrap ((↑(FN a0 a1).length:Int) - bif(Ay a0 a1 a2 a3) then IntKind.i64.wrap ((1:Int)+IntKind.i64.wrap ((1:Int)*(2:Int)^min (AG a0 a1 a2 a3).toNat (64:Nat))) else(2:Int)) - (3:Int))))))+(3:Int))
def AH (a0:List Af) (a1:TMsg) (a2:Int) (a3:Int):Int:=IntKind.i64.wrap (IntKind.i64.wrap ((bif(Ay a0 a1 a2 a3) then IntKind.i64.wrap ((1:Int)+IntKind.i64.wrap ((1:Int)*(2:Int)^min (AG a0 a1 a2 a3).toNat (64:Nat))) else(2:Int))+IntKind.i64.wrap ((IntKind.u64.wrap a2).tmod (IntKind.u64.wrap (IntKind.i64.wrap (IntKind.i64.wrap ((↑(FN a0 a1).length:Int) - bif(Ay a0 a1 a2 a3) then IntKind.i64.wrap ((1:Int)+IntKind.i64.wrap ((1:Int)*(2:Int)^min (AG a0 a1 a2 a3).toNat (64:Nat))) else(2:Int)) - (3:Int))))))+(2:Int))
def As (a0:List Af) (a1:TMsg) (a2:Int) (a3:Int):Int:=IntKind.i64.wrap (IntKind.i64.wrap ((bif(Ay a0 a1 a2 a3) then IntKind.i64.wrap ((1:Int)+IntKind.i64.wrap ((1:Int)*(2:Int)^min (AG a0 a1 a2 a3).toNat (64:Nat))) else(2:Int))+IntKind.i64.wrap ((IntKind.u64.wrap a2).tmod (IntKind.u64.wrap (IntKind.i64.wrap (IntKind.i64.wrap ((↑(FN a0 a1).length:Int) - bif(Ay a0 a1 a2 a3) then IntKind.i64.wrap ((1:Int)+IntKind.i64.wrap ((1:Int)*(2:Int)^min (AG a0 a1 a2 a3).toNat (64:Nat))) else(2:Int)) - (3:Int))))))+(1:Int))
def AK (a0:List Af) (a1:TMsg) (a2:Int) (a3:Int):Int:=IntKind.i64.wrap (IntKind.i64.wrap ((bif(Ay a0 a1 a2 a3) then IntKind.i64.wrap ((1:Int)+IntKind.i64.wrap ((1:Int)*(2:Int)^min (AG a0 a1 a2 a3).toNat (64:Nat))) else(2:Int))+IntKind.i64.wrap ((IntKind.u64.wrap a2).tmod (IntKind.u64.wrap (IntKind.i64.wrap (IntKind.i64.wrap ((↑(FN a0 a1).length:Int) - bif(Ay a0 a1 a2 a3) then IntKind.i64.wrap ((1:Int)+IntKind.i64.wrap ((1:Int)*(2:Int)^min (AG a0 a1 a2 a3).toNat (64:Nat))) else(2:Int)) - (3:Int))))))+(0:Int))
def EB (a0:List Af) (a1:TMsg) (a2:Int) (a3:Int):Int:=IntKind.u8.wrap (↑(BitVec.ofInt (8:Nat) (↑(UInt8.toNat ((FN a0 a1).getD (AK a0 a1 a2 a3).toNat (Aj TC.u8))):Int)^^^BitVec.ofInt (8:Nat) (IntKind.u8.wrap (a3.fdiv (16777216:Int)))).toNat:Int)
def AC (a0:List Af) (a1:TMsg) (a2:Int) (a3:Int):List UInt8:=(FN a0 a1).set (AK a0 a1 a2 a3).toNat (UInt8.ofNat (EB a0 a1 a2 a3).toNat)
def AT (a0:List Af) (a1:TMsg) (a2:Int) (a3:Int):Int:=IntKind.u8.wrap (↑(BitVec.ofInt (8:Nat) (↑(UInt8.toNat ((AC a0 a1 a2 a3).getD (As a0 a1 a2 a3).toNat (Aj TC.u8))):Int)^^^BitVec.ofInt (8:Nat) (IntKind.u8.wrap (a3.fdiv (65536:Int)))).toNat:Int)
def Ad (a0:List Af) (a1:TMsg) (_a2:Int) (_a3:Int):Bool:=decide ((↑(FN a0 a1).length:Int) <(8:Int))
def EA (a0:List Af) (a1:TMsg) (a2:Int) (a3:Int):Int:=IntKind.u8.wrap (↑(BitVec.ofInt (8:Nat) (↑(UInt8.toNat (((AC a0 a1 a2 a3).set (As a0 a1 a2 a3).toNat (UInt8.ofNat (AT a0 a1 a2 a3).toNat)).getD (AH a0 a1 a2 a3).toNat (Aj TC.u8))):Int)^^^BitVec.ofInt (8:Nat) (IntKind.u8.wrap (a3.fdiv (256:Int)))).toNat:Int)
def AO (a0:List Af) (a1:TMsg) (a2:Int) (a3:Int):List UInt8:=((AC a0 a1 a2 a3).set (As a0 a1 a2 a3).toNat (UInt8.ofNat (AT a0 a1 a2 a3).toNat)).set (AH a0 a1 a2 a3).toNat (UInt8.ofNat (EA a0 a1 a2 a3).toNat)
def BN (a0:List Af) (a1:TMsg) (a2:Int) (a3:Int):Int:=IntKind.u8.wrap (↑(BitVec.ofInt (8:Nat) (↑(UInt8.toNat ((AO a0 a1 a2 a3).getD (AB a0 a1 a2 a3).toNat (Aj TC.u8))):Int)^^^BitVec.ofInt (8:Nat) (IntKind.u8.wrap (a3.fdiv (1:Int)))).toNat:Int)
def Dk (a0:List Af) (a1:TMsg) (a2:Int) (a3:Int):Int:=HK ((AO a0 a1 a2 a3).set (AB a0 a1 a2 a3).toNat (UInt8.ofNat (BN a0 a1 a2 a3).toNat))
def Ez (a0:List Af) (a1:TMsg) (a2:Int) (a3:Int):Bool:=(Dk a0 a1 a2 a3)==(31:Int)&&true
def Hl (a0:List Af) (a1:TMsg) (a2:Int) (a3:Int):Bool:=bif !Ag a0 a1 then true else bif(Ac a0 a1 a2 a3) then(DK a0 a1 a2 a3)&&true else bif(Ad a0 a1 a2 a3) then false else bif(Ae a0 a1 a2 a3) then false else bif a3==(0:Int) then true else(Ez a0 a1 a2 a3)&&true
def Jd (a0:List Af) (a1:TMsg) (a2:Int) (a3:Int):A:=.v (.bool (Hl a0 a1 a2 a3))
def Nz (_a0:List Af) (_a1:TMsg) (_a2:Int) (_a3:Int):Objs:=[]
def L5 (a0:List Af) (a1:TMsg) (a2:Int) (a3:Int):List Prop:=[(GA a0 a1=true→true=true→AD a0.length∧(AD (1:Nat)∧∀(c:TChange),c∈[a1.3]→O1 c)∧AD (1:Nat)∧∀(x:List Aq),x∈[a1.8]→AD x.length∧∀(r:Aq),r∈x→SX r),((!Ag a0 a1)=true→DD (TMsg.mk (2:Int) (2:Int) (TChange.mk (0:Int) (0:Int) (TStamp.mk (0:Int) (0:Int)) (TVec.mk (0:Int) (0:Int)) []) (3:Int) (1:Int) [] [] [] (TVec.mk (0:Int) (0:Int)) false)),((!Ag a0 a1)=true→true=true→DD (TMsg.mk (2:Int) (2:Int) (TChange.mk (0:Int) (0:Int) (TStamp.mk (0:Int) (0:Int)) (TVec.mk (0:Int) (0:Int)) []) (3:Int) (1:Int) [] [] [] (TVec.mk (0:Int) (0:Int)) false)),((!!Ag a0 a1)=true→DD a1),((!!Ag a0 a1)=true→(Ac a0 a1 a2 a3)=true→(DK a0 a1 a2 a3)=true→DD (TMsg.mk (2:Int) (2:Int) (TChange.mk (0:Int) (0:Int) (TStamp.mk (0:Int) (0:Int)) (TVec.mk (0:Int) (0:Int)) []) (3:Int) (1:Int) [] [] [] (TVec.mk (0:Int) (0:Int)) false)),((!!Ag a0 a1)=true→(Ac a0 a1 a2 a3)=true→(DK a0 a1 a2 a3)=true→true=true→DD (TMsg.mk (2:Int) (2:Int) (TChange.mk (0:Int) (0:Int) (TStamp.mk (0:Int) (0:Int)) (TVec.mk (0:Int) (0:Int)) []) (3:Int) (1:Int) [] [] [] (TVec.mk (0:Int) (0:Int)) false)),((!!Ag a0 a1)=true→(!(Ac a0 a1 a2 a3))=true→(!(Ad a0 a1 a2 a3))=true→IntKind.u64.wrap (↑(FN a0 a1).length:Int)≠(0:Int)),((!!Ag a0 a1)=true→(!(Ac a0 a1 a2 a3))=true→(!(Ad a0 a1 a2 a3))=true→(0:Int)≤(0:Int)∧(0:Int)≤(AU a0 a1 a2 a3)∧(AU a0 a1 a2 a3)≤(↑(FN a0 a1).length:Int)),((!!Ag a0 a1)=true→(!(Ac a0 a1 a2 a3))=true→(!(Ad a0 a1 a2 a3))=true→B1 a0=(0:Int)),((!!Ag a0 a1)=true→(!(Ac a0 a1 a2 a3))=true→(!(Ad a0 a1 a2 a3))=true→(0:Int) <HK (BP a0 a1 a2 a3)),((!!Ag a0 a1)=true→(!(Ac a0 a1 a2 a3))=true→(!(Ad a0 a1 a2 a3))=true→Ai (BP a0 a1 a2 a3).length),((!!Ag a0 a1)=true→(!(Ac a0 a1 a2 a3))=true→(!(Ad a0 a1 a2 a3))=true→(!(Ae a0 a1 a2 a3))=true→(a3==(0:Int))=true→DD (TMsg.mk (2:Int) (2:Int) (TChange.mk (0:Int) (0:Int) (TStamp.mk (0:Int) (0:Int)) (TVec.mk (0:Int) (0:Int)) []) (3:Int) (1:Int) [] [] [] (TVec.mk (0:Int) (0:Int)) false)),((!!Ag a0 a1)=true→(!(Ac a0 a1 a2 a3))=true→(!(Ad a0 a1 a2 a3))=true→(!(Ae a0 a1 a2 a3))=true→(a3==(0:Int))=true→true=true→DD (TMsg.mk (2:Int) (2:Int) (TChange.mk (0:Int) (0:Int) (TStamp.mk (0:Int) (0:Int)) (TVec.mk (0:Int) (0:Int)) []) (3:Int) (1:Int) [] [] [] (TVec.mk (0:Int) (0:Int)) false)),((!!Ag a0 a1)=true→(!(Ac a0 a1 a2 a3))=true→(!(Ad a0 a1 a2 a3))=true→(!(Ae a0 a1 a2 a3))=true→(!a3==(0:Int))=true→(0:Int)≤(1:Int)∧(1:Int) <(↑(FN a0 a1).length:Int)),((!!Ag a0 a1)=true→(!(Ac a0 a1 a2 a3))=true→(!(Ad a0 a1 a2 a3))=true→(!(Ae a0 a1 a2 a3))=true→(!a3==(0:Int))=true→(Ay a0 a1 a2 a3)=true→(0:Int)≤(1:Int)∧(1:Int) <(↑(FN a0 a1).length:Int)),((!!Ag a0 a1)=true→(!(Ac a0 a1 a2 a3))=true→(!(Ad a0 a1 a2 a3))=true→(!(Ae a0 a1 a2 a3))=true→(!a3==(0:Int))=true→(Ay a0 a1 a2 a3)=true→(0:Int)≤(AG a0 a1 a2 a3)),((!!Ag a0 a1)=true→(!(Ac a0 a1 a2 a3))=true→(!(Ad a0 a1 a2 a3))=true→(!(Ae a0 a1 a2 a3))=true→(!a3==(0:Int))=true→IntKind.u64.wrap (IntKind.i64.wrap (IntKind.i64.wrap ((↑(FN a0 a1).length:Int) - bif(Ay a0 a1 a2 a3) then IntKind.i64.wrap ((1:Int)+IntKind.i64.wrap ((1:Int)*(2:Int)^min (AG a0 a1 a2 a3).toNat (64:Nat))) else(2:Int)) - (3:Int)))≠(0:Int)),((!!Ag a0 a1)=true→(!(Ac a0 a1 a2 a3))=true→(!(Ad a0 a1 a2 a3))=true→(!(Ae a0 a1 a2 a3))=true→(!a3==(0:Int))=true→(0:Int)≤(AK a0 a1 a2 a3)∧(AK a0 a1 a2 a3) <(↑(FN a0 a1).length:Int)),((!!Ag a0 a1)=true→(!(Ac a0 a1 a2 a3))=true→(!(Ad a0 a1 a2 a3))=true→(!(Ae a0 a1 a2 a3))=true→(!a3==(0:Int))=true→(0:Int)≤(As a0 a1 a2 a3)∧(As a0 a1 a2 a3) <(↑(AC a0 a1 a2 a3).length:Int)),((!!Ag a0 a1)=true→(!(Ac a0 a1 a2 a3))=true→(!(Ad a0 a1 a2 a3))=true→(!(Ae a0 a1 a2 a3))=true→(!a3==(0:Int))=true→(0:Int)≤(AH a0 a1 a2 a3)∧(AH a0 a1 a2 a3) <(↑((AC a0 a1 a2 a3).set (As a0 a1 a2 a3).toNat (UInt8.ofNat (AT a0 a1 a2 a3).toNat)).length:Int)),((!!Ag a0 a1)=true→(!(Ac a0 a1 a2 a3))=true→(!(Ad a0 a1 a2 a3))=true→(!(Ae a0 a1 a2 a3))=true→(!a3==(0:Int))=true→(0:Int)≤(AB a0 a1 a2 a3)∧(AB a0 a1 a2 a3) <(↑(AO a0 a1 a2 a3).length:Int)),((!!Ag a0 a1)=true→(!(Ac a0 a1 a2 a3))=true→(!(Ad a0 a1 a2 a3))=true→(!(Ae a0 a1 a2 a3))=true→(!a3==(0:Int))=true→B1 a0=(0:Int)),((!!Ag a0 a1)=true→(!(Ac a0 a1 a2 a3))=true→(!(Ad a0 a1 a2 a3))=true→(!(Ae a0 a1 a2 a3))=true→(!a3==(0:Int))=true→(0:Int) <(Dk a0 a1 a2 a3)),((!!Ag a0 a1)=true→(!(Ac a0 a1 a2 a3))=true→(!(Ad a0 a1 a2 a3))=true→(!(Ae a0 a1 a2 a3))=true→(!a3==(0:Int))=true→Ai ((AO a0 a1 a2 a3).set (AB a0 a1 a2 a3).toNat (UInt8.ofNat (BN a0 a1 a2 a3).toNat)).length),((!!Ag a0 a1)=true→(!(Ac a0 a1 a2 a3))=true→(!(Ad a0 a1 a2 a3))=true→(!(Ae a0 a1 a2 a3))=true→(!a3==(0:Int))=true→((Dk a0 a1 a2 a3)==(31:Int))=true→DD (TMsg.mk (0:Int) (0:Int) (TChange.mk (0:Int) (0:Int) (TStamp.mk (0:Int) (0:Int)) (TVec.mk (0:Int) (0:Int)) []) (0:Int) (0:Int) [] [] [] (TVec.mk (0:Int) (0:Int)) false)),((!!Ag a0 a1)=true→(!(Ac a0 a1 a2 a3))=true→(!(Ad a0 a1 a2 a3))=true→(!(Ae a0 a1 a2 a3))=true→(!a3==(0:Int))=true→(Ez a0 a1 a2 a3)=true→DD (TMsg.mk (2:Int) (2:Int) (TChange.mk (0:Int) (0:Int) (TStamp.mk (0:Int) (0:Int)) (TVec.mk (0:Int) (0:Int)) []) (3:Int) (1:Int) [] [] [] (TVec.mk (0:Int) (0:Int)) false)),((!!Ag a0 a1)=true→(!(Ac a0 a1 a2 a3))=true→(!(Ad a0 a1 a2 a3))=true→(!(Ae a0 a1 a2 a3))=true→(!a3==(0:Int))=true→(Ez a0 a1 a2 a3)=true→true=true→DD (TMsg.mk (2:Int) (2:Int) (TChange.mk (0:Int) (0:Int) (TStamp.mk (0:Int) (0:Int)) (TVec.mk (0:Int) (0:Int)) []) (3:Int) (1:Int) [] [] [] (TVec.mk (0:Int) (0:Int)) false))]
theorem UT (a0:List Af) (a1:TMsg) (a2:Int) (a3:Int):I6 (AI A6g L0) 9 4 [.sl .group a0,Ar .msg a1,Ar .i64 a2,Ar .u32 a3] 0 []=some (1,Jd a0 a1 a2 a3,0,Nz a0 a1 a2 a3,[(GA a0 a1=true→true=true→AD a0.length∧(AD (1:Nat)∧∀(c:TChange),c∈[a1.3]→O1 c)∧AD (1:Nat)∧∀(x:List Aq),x∈[a1.8]→AD x.length∧∀(r:Aq),r∈x→SX r),((!Ag a0 a1)=true→DD (TMsg.mk (2:Int) (2:Int) (TChange.mk (0:Int) (0:Int) (TStamp.mk (0:Int) (0:Int)) (TVec.mk (0:Int) (0:Int)) []) (3:Int) (1:Int) [] [] [] (TVec.mk (0:Int) (0:Int)) false)),((!Ag a0 a1)=true→true=true→DD (TMsg.mk (2:Int) (2:Int) (TChange.mk (0:Int) (0:Int) (TStamp.mk (0:Int) (0:Int)) (TVec.mk (0:Int) (0:Int)) []) (3:Int) (1:Int) [] [] [] (TVec.mk (0:Int) (0:Int)) false)),((!!Ag a0 a1)=true→DD a1),((!!Ag a0 a1)=true→(Ac a0 a1 a2 a3)=true→(DK a0 a1 a2 a3)=true→DD (TMsg.mk (2:Int) (2:Int) (TChange.mk (0:Int) (0:Int) (TStamp.mk (0:Int) (0:Int)) (TVec.mk (0:Int) (0:Int)) []) (3:Int) (1:Int) [] [] [] (TVec.mk (0:Int) (0:Int)) false)),((!!Ag a0 a1)=true→(Ac a0 a1 a2 a3)=true→(DK a0 a1 a2 a3)=true→true=true→DD (TMsg.mk (2:Int) (2:Int) (TChange.mk (0:Int) (0:Int) (TStamp.mk (0:Int) (0:Int)) (TVec.mk (0:Int) (0:Int)) []) (3:Int) (1:Int) [] [] [] (TVec.mk (0:Int) (0:Int)) false)),((!!Ag a0 a1)=true→(!(Ac a0 a1 a2 a3))=true→(!(Ad a0 a1 a2 a3))=true→IntKind.u64.wrap (↑(FN a0 a1).length:Int)≠(0:Int)),((!!Ag a0 a1)=true→(!(Ac a0 a1 a2 a3))=true→(!(Ad a0 a1 a2 a3))=true→(0:Int)≤(0:Int)∧(0:Int)≤(AU a0 a1 a2 a3)∧(AU a0 a1 a2 a3)≤(↑(FN a0 a1).length:Int)),((!!Ag a0 a1)=true→(!(Ac a0 a1 a2 a3))=true→(!(Ad a0 a1 a2 a3))=true→(0:Nat)+((AU a0 a1 a2 a3).toNat - (0:Nat))≤(FN a0 a1).length),((!!Ag a0 a1)=true→(!(Ac a0 a1 a2 a3))=true→(!(Ad a0 a1 a2 a3))=true→B1 a0=(0:Int)),((!!Ag a0 a1)=true→(!(Ac a0 a1 a2 a3))=true→(!(Ad a0 a1 a2 a3))=true→(0:Int) <HK (BP a0 a1 a2 a3)),((!!Ag a0 a1)=true→(!(Ac a0 a1 a2 a3))=true→(!(Ad a0 a1 a2 a3))=true→Ai (BP a0 a1 a2 a3).length),((!!Ag a0 a1)=true→(!(Ac a0 a1 a2 a3))=true→(!(Ad a0 a1 a2 a3))=true→(!(Ae a0 a1 a2 a3))=true→(a3==(0:Int))=true→DD (TMsg.mk (2:Int) (2:Int) (TChange.mk (0:Int) (0:Int) (TStamp.mk (0:Int) (0:Int)) (TVec.mk (0:Int) (0:Int)) []) (3:Int) (1:Int) [] [] [] (TVec.mk (0:Int) (0:Int)) false)),((!!Ag a0 a1)=true→(!(Ac a0 a1 a2 a3))=true→(!(Ad a0 a1 a2 a3))=true→(!(Ae a0 a1 a2 a3))=true→(a3==(0:Int))=true→true=true→DD (TMsg.mk (2:Int) (2:Int) (TChange.mk (0:Int) (0:Int) (TStamp.mk (0:Int) (0:Int)) (TVec.mk (0:Int) (0:Int)) []) (3:Int) (1:Int) [] [] [] (TVec.mk (0:Int) (0:Int)) false)),((!!Ag a0 a1)=true→(!(Ac a0 a1 a2 a3))=true→(!(Ad a0 a1 a2 a3))=true→(!(Ae a0 a1 a2 a3))=true→(!a3==(0:Int))=true→(0:Int)≤(1:Int)∧(1:Int) <(↑(FN a0 a1).length:Int)),((!!Ag a0 a1)=true→(!(Ac a0 a1 a2 a3))=true→(!(Ad a0 a1 a2 a3))=true→(!(Ae a0 a1 a2 a3))=true→(!a3==(0:Int))=true→(1:Nat) <(FN a0 a1).length),((!!Ag a0 a1)=true→(!(Ac a0 a1 a2 a3))=true→(!(Ad a0 a1 a2 a3))=true→(!(Ae a0 a1 a2 a3))=true→(!a3==(0:Int))=true→(Ay a0 a1 a2 a3)=true→(0:Int)≤(1:Int)∧(1:Int) <(↑(FN a0 a1).length:Int)),((!!Ag a0 a1)=true→(!(Ac a0 a1 a2 a3))=true→(!(Ad a0 a1 a2 a3))=true→(!(Ae a0 a1 a2 a3))=true→(!a3==(0:Int))=true→(Ay a0 a1 a2 a3)=true→(1:Nat) <(FN a0 a1).length),((!!Ag a0 a1)=true→(!(Ac a0 a1 a2 a3))=true→(!(Ad a0 a1 a2 a3))=true→(!(Ae a0 a1 a2 a3))=true→(!a3==(0:Int))=true→(Ay a0 a1 a2 a3)=true→(0:Int)≤(AG a0 a1 a2 a3)),((!!Ag a0 a1)=true→(!(Ac a0 a1 a2 a3))=true→(!(Ad a0 a1 a2 a3))=true→(!(Ae a0 a1 a2 a3))=true→(!a3==(0:Int))=true→IntKind.u64.wrap (IntKind.i64.wrap (IntKind.i64.wrap ((↑(FN a0 a1).length:Int) - bif(Ay a0 a1 a2 a3) then IntKind.i64.wrap ((1:Int)+IntKind.i64.wrap ((1:Int)*(2:Int)^min (AG a0 a1 a2 a3).toNat (64:Nat))) else(2:Int)) - (3:Int)))≠(0:Int)),((!!Ag a0 a1)=true→(!(Ac a0 a1 a2 a3))=true→(!(Ad a0 a1 a2 a3))=true→(!(Ae a0 a1 a2 a3))=true→(!a3==(0:Int))=true→(0:Int)≤(AK a0 a1 a2 a3)∧(AK a0 a1 a2 a3) <(↑(FN a0 a1).length:Int)),((!!Ag a0 a1)=true→(!(Ac a0 a1 a2 a3))=true→(!(Ad a0 a1 a2 a3))=true→(!(Ae a0 a1 a2 a3))=true→(!a3==(0:Int))=true→(AK a0 a1 a2 a3).toNat <(FN a0 a1).length),((!!Ag a0 a1)=true→(!(Ac a0 a1 a2 a3))=true→(!(Ad a0 a1 a2 a3))=true→(!(Ae a0 a1 a2 a3))=true→(!a3==(0:Int))=true→(0:Int)≤(24:Int)),((!!Ag a0 a1)=true→(!(Ac a0 a1 a2 a3))=true→(!(Ad a0 a1 a2 a3))=true→(!(Ae a0 a1 a2 a3))=true→(!a3==(0:Int))=true→(0:Int)≤(AK a0 a1 a2 a3)∧(AK a0 a1 a2 a3) <(↑(FN a0 a1).length:Int)),((!!Ag a0 a1)=true→(!(Ac a0 a1 a2 a3))=true→(!(Ad a0 a1 a2 a3))=true→(!(Ae a0 a1 a2 a3))=true→(!a3==(0:Int))=true→(AK a0 a1 a2 a3).toNat <(FN a0 a1).length),((!!Ag a0 a1)=true→(!(Ac a0 a1 a2 a3))=true→(!(Ad a0 a1 a2 a3))=true→(!(Ae a0 a1 a2 a3))=true→(!a3==(0:Int))=true→(0:Int)≤(EB a0 a1 a2 a3)∧(EB a0 a1 a2 a3) <(256:Int)),((!!Ag a0 a1)=true→(!(Ac a0 a1 a2 a3))=true→(!(Ad a0 a1 a2 a3))=true→(!(Ae a0 a1 a2 a3))=true→(!a3==(0:Int))=true→(0:Int)≤(As a0 a1 a2 a3)∧(As a0 a1 a2 a3) <(↑(AC a0 a1 a2 a3).length:Int)),((!!Ag a0 a1)=true→(!(Ac a0 a1 a2 a3))=true→(!(Ad a0 a1 a2 a3))=true→(!(Ae a0 a1 a2 a3))=true→(!a3==(0:Int))=true→(As a0 a1 a2 a3).toNat <(AC a0 a1 a2 a3).length),((!!Ag a0 a1)=true→(!(Ac a0 a1 a2 a3))=true→(!(Ad a0 a1 a2 a3))=true→(!(Ae a0 a1 a2 a3))=true→(!a3==(0:Int))=true→(0:Int)≤(16:Int)),((!!Ag a0 a1)=true→(!(Ac a0 a1 a2 a3))=true→(!(Ad a0 a1 a2 a3))=true→(!(Ae a0 a1 a2 a3))=true→(!a3==(0:Int))=true→(0:Int)≤(As a0 a1 a2 a3)∧(As a0 a1 a2 a3) <(↑(AC a0 a1 a2 a3).length:Int)),((!!Ag a0 a1)=true→(!(Ac a0 a1 a2 a3))=true→(!(Ad a0 a1 a2 a3))=true→(!(Ae a0 a1 a2 a3))=true→(!a3==(0:Int))=true→(As a0 a1 a2 a3).toNat <(AC a0 a1 a2 a3).length),((!!Ag a0 a1)=true→(!(Ac a0 a1 a2 a3))=true→(!(Ad a0 a1 a2 a3))=true→(!(Ae a0 a1 a2 a3))=true→(!a3==(0:Int))=true→(0:Int)≤(AT a0 a1 a2 a3)∧(AT a0 a1 a2 a3) <(256:Int)),((!!Ag a0 a1)=true→(!(Ac a0 a1 a2 a3))=true→(!(Ad a0 a1 a2 a3))=true→(!(Ae a0 a1 a2 a3))=true→(!a3==(0:Int))=true→(0:Int)≤(AH a0 a1 a2 a3)∧(AH a0 a1 a2 a3) <(↑((AC a0 a1 a2 a3).set (As a0 a1 a2 a3).toNat (UInt8.ofNat (AT a0 a1 a2 a3).toNat)).length:Int)),((!!Ag a0 a1)=true→(!(Ac a0 a1 a2 a3))=true→(!(Ad a0 a1 a2 a3))=true→(!(Ae a0 a1 a2 a3))=true→(!a3==(0:Int))=true→(AH a0 a1 a2 a3).toNat <((AC a0 a1 a2 a3).set (As a0 a1 a2 a3).toNat (UInt8.ofNat (AT a0 a1 a2 a3).toNat)).length),((!!Ag a0 a1)=true→(!(Ac a0 a1 a2 a3))=true→(!(Ad a0 a1 a2 a3))=true→(!(Ae a0 a1 a2 a3))=true→(!a3==(0:Int))=true→(0:Int)≤(8:Int)),((!!Ag a0 a1)=true→(!(Ac a0 a1 a2 a3))=true→(!(Ad a0 a1 a2 a3))=true→(!(Ae a0 a1 a2 a3))=true→(!a3==(0:Int))=true→(0:Int)≤(AH a0 a1 a2 a3)∧(AH a0 a1 a2 a3) <(↑((AC a0 a1 a2 a3).set (As a0 a1 a2 a3).toNat (UInt8.ofNat (AT a0 a1 a2 a3).toNat)).length:Int)),((!!Ag a0 a1)=true→(!(Ac a0 a1 a2 a3))=true→(!(Ad a0 a1 a2 a3))=true→(!(Ae a0 a1 a2 a3))=true→(!a3==(0:Int))=true→(AH a0 a1 a2 a3).toNat <((AC a0 a1 a2 a3).set (As a0 a1 a2 a3).toNat (UInt8.ofNat (AT a0 a1 a2 a3).toNat)).length),((!!Ag a0 a1)=true→(!(Ac a0 a1 a2 a3))=true→(!(Ad a0 a1 a2 a3))=true→(!(Ae a0 a1 a2 a3))=true→(!a3==(0:Int))=true→(0:Int)≤(EA a0 a1 a2 a3)∧(EA a0 a1 a2 a3) <(256:Int)),((!!Ag a0 a1)=true→(!(Ac a0 a1 a2 a3))=true→(!(Ad a0 a1 a2 a3))=true→(!(Ae a0 a1 a2 a3))=true→(!a3==(0:Int))=true→(0:Int)≤(AB a0 a1 a2 a3)∧(AB a0 a1 a2 a3) <(↑(AO a0 a1 a2 a3).length:Int)),((!!Ag a0 a1)=true→(!(Ac a0 a1 a2 a3))=true→(!(Ad a0 a1 a2 a3))=true→(!(Ae a0 a1 a2 a3))=true→(!a3==(0:Int))=true→(AB a0 a1 a2 a3).toNat <(AO a0 a1 a2 a3).length),((!!Ag a0 a1)=true→(!(Ac a0 a1 a2 a3))=true→(!(Ad a0 a1 a2 a3))=true→(!(Ae a0 a1 a2 a3))=true→(!a3==(0:Int))=true→(0:Int)≤(0:Int)),((!!Ag a0 a1)=true→(!(Ac a0 a1 a2 a3))=true→(!(Ad a0 a1 a2 a3))=true→(!(Ae a0 a1 a2 a3))=true→(!a3==(0:Int))=true→(0:Int)≤(AB a0 a1 a2 a3)∧(AB a0 a1 a2 a3) <(↑(AO a0 a1 a2 a3).length:Int)),((!!Ag a0 a1)=true→(!(Ac a0 a1 a2 a3))=true→(!(Ad a0 a1 a2 a3))=true→(!(Ae a0 a1 a2 a3))=true→(!a3==(0:Int))=true→(AB a0 a1 a2 a3).toNat <(AO a0 a1 a2 a3).length),((!!Ag a0 a1)=true→(!(Ac a0 a1 a2 a3))=true→(!(Ad a0 a1 a2 a3))=true→(!(Ae a0 a1 a2 a3))=true→(!a3==(0:Int))=true→(0:Int)≤(BN a0 a1 a2 a3)∧(BN a0 a1 a2 a3) <(256:Int)),((!!Ag a0 a1)=true→(!(Ac a0 a1 a2 a3))=true→(!(Ad a0 a1 a2 a3))=true→(!(Ae a0 a1 a2 a3))=true→(!a3==(0:Int))=true→B1 a0=(0:Int)),((!!Ag a0 a1)=true→(!(Ac a0 a1 a2 a3))=true→(!(Ad a0 a1 a2 a3))=true→(!(Ae a0 a1 a2 a3))=true→(!a3==(0:Int))=true→(0:Int) <(Dk a0 a1 a2 a3)),((!!Ag a0 a1)=true→(!(Ac a0 a1 a2 a3))=true→(!(Ad a0 a1 a2 a3))=true→(!(Ae a0 a1 a2 a3))=true→(!a3==(0:Int))=true→Ai ((AO a0 a1 a2 a3).set (AB a0 a1 a2 a3).toNat (UInt8.ofNat (BN a0 a1 a2 a3).toNat)).length),((!!Ag a0 a1)=true→(!(Ac a0 a1 a2 a3))=true→(!(Ad a0 a1 a2 a3))=true→(!(Ae a0 a1 a2 a3))=true→(!a3==(0:Int))=true→((Dk a0 a1 a2 a3)==(31:Int))=true→DD (TMsg.mk (0:Int) (0:Int) (TChange.mk (0:Int) (0:Int) (TStamp.mk (0:Int) (0:Int)) (TVec.mk (0:Int) (0:Int)) []) (0:Int) (0:Int) [] [] [] (TVec.mk (0:Int) (0:Int)) false)),((!!Ag a0 a1)=true→(!(Ac a0 a1 a2 a3))=true→(!(Ad a0 a1 a2 a3))=true→(!(Ae a0 a1 a2 a3))=true→(!a3==(0:Int))=true→(Ez a0 a1 a2 a3)=true→DD (TMsg.mk (2:Int) (2:Int) (TChange.mk (0:Int) (0:Int) (TStamp.mk (0:Int) (0:Int)) (TVec.mk (0:Int) (0:Int)) []) (3:Int) (1:Int) [] [] [] (TVec.mk (0:Int) (0:Int)) false)),((!!Ag a0 a1)=true→(!(Ac a0 a1 a2 a3))=true→(!(Ad a0 a1 a2 a3))=true→(!(Ae a0 a1 a2 a3))=true→(!a3==(0:Int))=true→(Ez a0 a1 a2 a3)=true→true=true→DD (TMsg.mk (2:Int) (2:Int) (TChange.mk (0:Int) (0:Int) (TStamp.mk (0:Int) (0:Int)) (TVec.mk (0:Int) (0:Int)) []) (3:Int) (1:Int) [] [] [] (TVec.mk (0:Int) (0:Int)) false))]):=by kernel_rfl
theorem WI (a0:List Af) (a1:TMsg) (a2:Int) (a3:Int) (hp:∀p∈L5 a0 a1 a2 a3,p):CallOk Tryd.prog 4 [.sl .group a0,Ar .msg a1,Ar .i64 a2,Ar .u32 a3] 0 [] 1 (Jd a0 a1 a2 a3) 0 (Nz a0 a1 a2 a3):=by
 have n0:=N0 hp
 have n1:((!Ag a0 a1)=true→DD (TMsg.mk (2:Int) (2:Int) (TChange.mk (0:Int) (0:Int) (TStamp.mk (0:Int) (0:Int)) (TVec.mk (0:Int) (0:Int)) []) (3:Int) (1:Int) [] [] [] (TVec.mk (0:Int) (0:Int)) false)):=N0 (N1 hp)
 have n2:((!Ag a0 a1)=true→true=true→DD (TMsg.mk (2:Int) (2:Int) (TChange.mk (0:Int) (0:Int) (TStamp.mk (0:Int) (0:Int)) (TVec.mk (0:Int) (0:Int)) []) (3:Int) (1:Int) [] [] [] (TVec.mk (0:Int) (0:Int)) false)):=N0 (N1 (N1 hp))
 have n3:((!!Ag a0 a1)=true→DD a1):=N0 (N1 (N1 (N1 hp)))
 have n4:=N0 (N1 (N1 (N1 (N1 hp))))
 have n5:=N0 (N1 (N1 (N1 (N1 (N1 hp)))))
 have n6:=N0 (N1 (N1 (N1 (N1 (N1 (N1 hp))))))
 have n7:((!!Ag a0 a1)=true→(!(Ac a0 a1 a2 a3))=true→(!(Ad a0 a1 a2 a3))=true→(0:Int)≤(0:Int)∧(0:Int)≤(AU a0 a1 a2 a3)∧(AU a0 a1 a2 a3)≤(↑(FN a0 a1).length:Int)):=N0 (N1 (N1 (N1 (N1 (N1 (N1 (N1 hp)))))))
 have n8:((!!Ag a0 a1)=true→(!(Ac a0 a1 a2 a3))=true→(!(Ad a0 a1 a2 a3))=true→(0:Nat)+((AU a0 a1 a2 a3).toNat - (0:Nat))≤(FN a0 a1).length):=by intro h0 h1 h2;have g:=n7 h0 h1 h2;omega
 have n9:=N0 (N1 (N1 (N1 (N1 (N1 (N1 (N1 (N1 hp))))))))
 have n10:=N0 (N1 (N1 (N1 (N1 (N1 (N1 (N1 (N1 (N1 hp)))))))))
 have n11:=N0 (N1 (N1 (N1 (N1 (N1 (N1 (N1 (N1 (N1 (N1 hp))))))))))
 have n12:=N0 (N1 (N1 (N1 (N1 (N1 (N1 (N1 (N1 (N1 (N1 (N1 hp)))))))))))
 have n13:=N0 (N1 (N1 (N1 (N1 (N1 (N1 (N1 (N1 (N1 (N1 (N1 (N1 hp))))))))))))
 have n14:((!!Ag a0 a1)=true→(!(Ac a0 a1 a2 a3))=true→(!(Ad a0 a1 a2 a3))=true→(!(Ae a0 a1 a2 a3))=true→(!a3==(0:Int))=true→(0:Int)≤(1:Int)∧(1:Int) <(↑(FN a0 a1).length:Int)):=N0 (N1 (N1 (N1 (N1 (N1 (N1 (N1 (N1 (N1 (N1 (N1 (N1 (N1 hp)))))))))))))
 have n15:((!!Ag a0 a1)=true→(!(Ac a0 a1 a2 a3))=true→(!(Ad a0 a1 a2 a3))=true→(!(Ae a0 a1 a2 a3))=true→(!a3==(0:Int))=true→(1:Nat) <(FN a0 a1).length):=by intro h0 h1 h2 h3 h4;have g:=n14 h0 h1 h2 h3 h4;omega
 have n16:((!!Ag a0 a1)=true→(!(Ac a0 a1 a2 a3))=true→(!(Ad a0 a1 a2 a3))=true→(!(Ae a0 a1 a2 a3))=true→(!a3==(0:Int))=true→(Ay a0 a1 a2 a3)=true→(0:Int)≤(1:Int)∧(1:Int) <(↑(FN a0 a1).length:Int)):=N0 (N1 (N1 (N1 (N1 (N1 (N1 (N1 (N1 (N1 (N1 (N1 (N1 (N1 (N1 hp))))))))))))))
 have n17:((!!Ag a0 a1)=true→(!(Ac a0 a1 a2 a3))=true→(!(Ad a0 a1 a2 a3))=true→(!(Ae a0 a1 a2 a3))=true→(!a3==(0:Int))=true→(Ay a0 a1 a2 a3)=true→(1:Nat) <(FN a0 a1).length):=by intro h0 h1 h2 h3 h4 h5;have g:=n16 h0 h1 h2 h3 h4 h5;omega
 have n18:=N0 (N1 (N1 (N1 (N1 (N1 (N1 (N1 (N1 (N1 (N1 (N1 (N1 (N1 (N1 (N1 hp)))))))))))))))
 have n19:=N0 (N1 (N1 (N1 (N1 (N1 (N1 (N1 (N1 (N1 (N1 (N1 (N1 (N1 (N1 (N1 (N1 hp))))))))))))))))
 have n20:((!!Ag a0 a1)=true→(!(Ac a0 a1 a2 a3))=true→(!(Ad a0 a1 a2 a3))=true→(!(Ae a0 a1 a2 a3))=true→(!a3==(0:Int))=true→(0:Int)≤(AK a0 a1 a2 a3)∧(AK a0 a1 a2 a3) <(↑(FN a0 a1).length:Int)):=N0 (N1 (N1 (N1 (N1 (N1 (N1 (N1 (N1 (N1 (N1 (N1 (N1 (N1 (N1 (N1 (N1 (N1 hp)))))))))))))))))
 have n21:((!!Ag a0 a1)=true→(!(Ac a0 a1 a2 a3))=true→(!(Ad a0 a1 a2 a3))=true→(!(Ae a0 a1 a2 a3))=true→(!a3==(0:Int))=true→(AK a0 a1 a2 a3).toNat <(FN a0 a1).length):=by intro h0 h1 h2 h3 h4;have g:=n20 h0 h1 h2 h3 h4;omega
 have n22:((!!Ag a0 a1)=true→(!(Ac a0 a1 a2 a3))=true→(!(Ad a0 a1 a2 a3))=true→(!(Ae a0 a1 a2 a3))=true→(!a3==(0:Int))=true→(0:Int)≤(24:Int)):=by omega
 have n25:((!!Ag a0 a1)=true→(!(Ac a0 a1 a2 a3))=true→(!(Ad a0 a1 a2 a3))=true→(!(Ae a0 a1 a2 a3))=true→(!a3==(0:Int))=true→(0:Int)≤(EB a0 a1 a2 a3)∧(EB a0 a1 a2 a3) <(256:Int)):=by intros;exact Ki _
 have n26:((!!Ag a0 a1)=true→(!(Ac a0 a1 a2 a3))=true→(!(Ad a0 a1 a2 a3))=true→(!(Ae a0 a1 a2 a3))=true→(!a3==(0:Int))=true→(0:Int)≤(As a0 a1 a2 a3)∧(As a0 a1 a2 a3) <(↑(AC a0 a1 a2 a3).length:Int)):=N0 (N1 (N1 (N1 (N1 (N1 (N1 (N1 (N1 (N1 (N1 (N1 (N1 (N1 (N1 (N1 (N1 (N1 (N1 hp))))))))))))))))))
 have n27:((!!Ag a0 a1)=true→(!(Ac a0 a1 a2 a3))=true→(!(Ad a0 a1 a2 a3))=true→(!(Ae a0 a1 a2 a3))=true→(!a3==(0:Int))=true→(As a0 a1 a2 a3).toNat <(AC a0 a1 a2 a3).length):=by intro h0 h1 h2 h3 h4;have g:=n26 h0 h1 h2 h3 h4;omega
 have n28:((!!Ag a0 a1)=true→(!(Ac a0 a1 a2 a3))=true→(!(Ad a0 a1 a2 a3))=true→(!(Ae a0 a1 a2 a3))=true→(!a3==(0:Int))=true→(0:Int)≤(16:Int)):=by omega
 have n31:((!!Ag a0 a1)=true→(!(Ac a0 a1 a2 a3))=true→(!(Ad a0 a1 a2 a3))=true→(!(Ae a0 a1 a2 a3))=true→(!a3==(0:Int))=true→(0:Int)≤(AT a0 a1 a2 a3)∧(AT a0 a1 a2 a3) <(256:Int)):=by intros;exact Ki _
 have n32:((!!Ag a0 a1)=true→(!(Ac a0 a1 a2 a3))=true→(!(Ad a0 a1 a2 a3))=true→(!(Ae a0 a1 a2 a3))=true→(!a3==(0:Int))=true→(0:Int)≤(AH a0 a1 a2 a3)∧(AH a0 a1 a2 a3) <(↑((AC a0 a1 a2 a3).set (As a0 a1 a2 a3).toNat (UInt8.ofNat (AT a0 a1 a2 a3).toNat)).length:Int)):=N0 (N1 (N1 (N1 (N1 (N1 (N1 (N1 (N1 (N1 (N1 (N1 (N1 (N1 (N1 (N1 (N1 (N1 (N1 (N1 hp)))))))))))))))))))
 have n33:((!!Ag a0 a1)=true→(!(Ac a0 a1 a2 a3))=true→(!(Ad a0 a1 a2 a3))=true→(!(Ae a0 a1 a2 a3))=true→(!a3==(0:Int))=true→(AH a0 a1 a2 a3).toNat <((AC a0 a1 a2 a3).set (As a0 a1 a2 a3).toNat (UInt8.ofNat (AT a0 a1 a2 a3).toNat)).length):=by intro h0 h1 h2 h3 h4;have g:=n32 h0 h1 h2 h3 h4;omega
 have n34:((!!Ag a0 a1)=true→(!(Ac a0 a1 a2 a3))=true→(!(Ad a0 a1 a2 a3))=true→(!(Ae a0 a1 a2 a3))=true→(!a3==(0:Int))=true→(0:Int)≤(8:Int)):=by omega
 have n37:((!!Ag a0 a1)=true→(!(Ac a0 a1 a2 a3))=true→(!(Ad a0 a1 a2 a3))=true→(!(Ae a0 a1 a2 a3))=true→(!a3==(0:Int))=true→(0:Int)≤(EA a0 a1 a2 a3)∧(EA a0 a1 a2 a3) <(256:Int)):=by intros;exact Ki _
 have n38:((!!Ag a0 a1)=true→(!(Ac a0 a1 a2 a3))=true→(!(Ad a0 a1 a2 a3))=true→(!(Ae a0 a1 a2 a3))=true→(!a3==(0:Int))=true→(0:Int)≤(AB a0 a1 a2 a3)∧(AB a0 a1 a2 a3) <(↑(AO a0 a1 a2 a3).length:Int)):=N0 (N1 (N1 (N1 (N1 (N1 (N1 (N1 (N1 (N1 (N1 (N1 (N1 (N1 (N1 (N1 (N1 (N1 (N1 (N1 (N1 hp))))))))))))))))))))
 have n39:((!!Ag a0 a1)=true→(!(Ac a0 a1 a2 a3))=true→(!(Ad a0 a1 a2 a3))=true→(!(Ae a0 a1 a2 a3))=true→(!a3==(0:Int))=true→(AB a0 a1 a2 a3).toNat <(AO a0 a1 a2 a3).length):=by intro h0 h1 h2 h3 h4;have g:=n38 h0 h1 h2 h3 h4;omega
 have n40:((!!Ag a0 a1)=true→(!(Ac a0 a1 a2 a3))=true→(!(Ad a0 a1 a2 a3))=true→(!(Ae a0 a1 a2 a3))=true→(!a3==(0:Int))=true→(0:Int)≤(0:Int)):=by omega
 have n43:((!!Ag a0 a1)=true→(!(Ac a0 a1 a2 a3))=true→(!(Ad a0 a1 a2 a3))=true→(!(Ae a0 a1 a2 a3))=true→(!a3==(0:Int))=true→(0:Int)≤(BN a0 a1 a2 a3)∧(BN a0 a1 a2 a3) <(256:Int)):=by intros;exact Ki _
 have n44:=N0 (N1 (N1 (N1 (N1 (N1 (N1 (N1 (N1 (N1 (N1 (N1 (N1 (N1 (N1 (N1 (N1 (N1 (N1 (N1 (N1 (N1 hp)))))))))))))))))))))
 have n45:=N0 (N1 (N1 (N1 (N1 (N1 (N1 (N1 (N1 (N1 (N1 (N1 (N1 (N1 (N1 (N1 (N1 (N1 (N1 (N1 (N1 (N1 (N1 hp))))))))))))))))))))))
 have n46:=N0 (N1 (N1 (N1 (N1 (N1 (N1 (N1 (N1 (N1 (N1 (N1 (N1 (N1 (N1 (N1 (N1 (N1 (N1 (N1 (N1 (N1 (N1 (N1 hp)))))))))))))))))))))))
 have n47:=N0 (N1 (N1 (N1 (N1 (N1 (N1 (N1 (N1 (N1 (N1 (N1 (N1 (N1 (N1 (N1 (N1 (N1 (N1 (N1 (N1 (N1 (N1 (N1 (N1 hp))))))))))))))))))))))))
 have n48:=N0 (N1 (N1 (N1 (N1 (N1 (N1 (N1 (N1 (N1 (N1 (N1 (N1 (N1 (N1 (N1 (N1 (N1 (N1 (N1 (N1 (N1 (N1 (N1 (N1 (N1 hp)))))))))))))))))))))))))
 have n49:=N0 (N1 (N1 (N1 (N1 (N1 (N1 (N1 (N1 (N1 (N1 (N1 (N1 (N1 (N1 (N1 (N1 (N1 (N1 (N1 (N1 (N1 (N1 (N1 (N1 (N1 (N1 hp))))))))))))))))))))))))))
 exact AW (AJ Ayg AX) (UT a0 a1 a2 a3) (Aa n0 (Aa n1 (Aa n2 (Aa n3 (Aa n4 (Aa n5 (Aa n6 (Aa n7 (Aa n8 (Aa n9 (Aa n10 (Aa n11 (Aa n12 (Aa n13 (Aa n14 (Aa n15 (Aa n16 (Aa n17 (Aa n18 (Aa n19 (Aa n20 (Aa n21 (Aa n22 (Aa n20 (Aa n21 (Aa n25 (Aa n26 (Aa n27 (Aa n28 (Aa n26 (Aa n27 (Aa n31 (Aa n32 (Aa n33 (Aa n34 (Aa n32 (Aa n33 (Aa n37 (Aa n38 (Aa n39 (Aa n40 (Aa n38 (Aa n39 (Aa n43 (Aa n44 (Aa n45 (Aa n46 (Aa n47 (Aa n48 (Aa n49 Am))))))))))))))))))))))))))))))))))))))))))))))))))
end Go.Proofs.YtifkbgkbajncjaaDoor
namespace Go.Proofs.YtifkbgkbajncjaaDoor
open Go.RowKit
theorem A1b (B:List UInt8) (K:Nat) (h:K+4≤B.length):B=B.take K++[B.getD K 0,B.getD (K+1) 0,B.getD (K+2) 0,B.getD (K+3) 0]++B.drop (K+4):=by
 have g:∀j,(hj:j <B.length)→B.drop j=B.getD j 0::B.drop (j+1):=fun j hj=>by
  rw[List.drop_eq_getElem_cons hj,List.getD_eq_getElem?_getD,List.getElem?_eq_getElem hj,Option.getD_some]
 conv=>lhs;rw[←List.take_append_drop K B]
 rw[g K (by omega),g (K+1) (by omega),g (K+2) (by omega),g (K+3) (by omega),List.append_assoc]
 rfl
theorem Ba9 (B:List UInt8) (K:Nat) (h:K+4≤B.length) (y0 y1 y2 y3:UInt8):(((B.set K y0).set (K+1) y1).set (K+2) y2).set (K+3) y3=B.take K++[y0,y1,y2,y3]++B.drop (K+4):=by
 have hl:(B.take K).length=K:=by rw[List.length_take];omega
 conv=>lhs;rw[A1b B K h,List.append_assoc]
 rw[List.set_append_right _ _ (by omega),List.set_append_right _ _ (by omega),List.set_append_right _ _ (by omega),List.set_append_right _ _ (by omega),hl,Nat.sub_self,show K+1 - K=1 by omega,show K+2 - K=2 by omega,show K+3 - K=3 by omega,List.append_assoc]
 rfl
theorem Nd (B:List UInt8) {i j:Nat} (h:i≠j) (y:UInt8):(B.set i y).getD j 0=B.getD j 0:=by
 rw[List.getD_eq_getElem?_getD,List.getD_eq_getElem?_getD,List.getElem?_set_ne h]
theorem A8k {x:List UInt8} (hx:x.length≤1048576) {K:Nat} (h1:1+Fa (x.length:Int)≤K) (h2:K+4≤(BE x).length) {s:BitVec 32} (hs:s≠0#32):
  HK ((BE x).take K++[(BE x).getD K 0^^^UInt8.ofNat (s.toNat / 2^24),(BE x).getD (K+1) 0^^^UInt8.ofNat (s.toNat / 2^16),(BE x).getD (K+2) 0^^^UInt8.ofNat (s.toNat / 2^8),(BE x).getD (K+3) 0^^^UInt8.ofNat s.toNat]++(BE x).drop (K+4))=31:=by
 have hr:HD ((BE x).take K++[(BE x).getD K 0,(BE x).getD (K+1) 0,(BE x).getD (K+2) 0,(BE x).getD (K+3) 0]++(BE x).drop (K+4))=true:=by
  rw[←A1b _ _ h2]
  exact As3 hx
 have hb:=A9f ((BE x).take K) ((BE x).drop (K+4)) _ _ _ _ hs hr
 have hl:=Rl hx
 obtain⟨j,rfl⟩:∃j,K=1+Fa (x.length:Int)+j:=⟨K - (1+Fa (x.length:Int)),by omega⟩
 have hp:(BE x).take (1+Fa (x.length:Int)+j)=181::(Aw (x.length:Int)++(x++Asq (HO (181::(Aw (x.length:Int)++x)))).take j):=by
  rw[ZZ hx,show 1+Fa (x.length:Int)+j=(Fa (x.length:Int)+j)+1 by omega,List.take_succ_cons,List.take_append,Cy,List.take_of_length_le (by rw[Cy];omega),Nat.add_sub_cancel_left]
 generalize hy:[(BE x).getD (1+Fa (x.length:Int)+j) 0^^^UInt8.ofNat (s.toNat / 2^24),(BE x).getD (1+Fa (x.length:Int)+j+1) 0^^^UInt8.ofNat (s.toNat / 2^16),(BE x).getD (1+Fa (x.length:Int)+j+2) 0^^^UInt8.ofNat (s.toNat / 2^8),(BE x).getD (1+Fa (x.length:Int)+j+3) 0^^^UInt8.ofNat s.toNat]=ys at*
 have h4:ys.length=4:=by rw[←hy];rfl
 have e:(BE x).take (1+Fa (x.length:Int)+j)++ys++(BE x).drop (1+Fa (x.length:Int)+j+4)=181::(Aw (x.length:Int)++((x++Asq (HO (181::(Aw (x.length:Int)++x)))).take j++(ys++(BE x).drop (1+Fa (x.length:Int)+j+4)))):=by
  rw[hp]
  simp only[List.cons_append,List.append_assoc]
 rw[e] at hb⊢
 refine Awr (by omega) (by omega) ?_ hb
 rw[List.length_append,List.length_append,h4,List.length_drop,List.length_take,List.length_append,Ad9,hl]
 omega
theorem Alo (x:UInt8) (v:Int):UInt8.ofNat (IntKind.u8.wrap (((BitVec.ofInt 8 (x.toNat:Int)^^^BitVec.ofInt 8 (IntKind.u8.wrap v)).toNat:Nat):Int)).toNat=x^^^UInt8.ofNat (IntKind.u8.wrap v).toNat:=by
 have h0:0≤IntKind.u8.wrap v∧IntKind.u8.wrap v <256:=by show 0≤v % 2^8∧v % 2^8 <256;omega
 generalize IntKind.u8.wrap v=w at*
 have hx:x.toNat <256:=x.toNat_lt
 apply UInt8.toNat_inj.1
 have e:∀n:Nat,n <256→(UInt8.ofNat (IntKind.u8.wrap (n:Int)).toNat).toNat=n:=fun n hn=>by
  rw[UInt8.toNat_ofNat']
  show((n:Int) % 2^8).toNat % 2^8=n
  omega
 rw[e _ (BitVec.isLt _),BitVec.toNat_xor,UInt8.toNat_xor,BitVec.toNat_ofInt,BitVec.toNat_ofInt,UInt8.toNat_ofNat']
 congr 1<;>omega
theorem A7y {l:List Af} {m:TMsg} (h:FO l m=0):2≤(Lb l m).length:=by
 obtain⟨h1,_,_,_,h5⟩:=Tw (LV.1 h).2
 have hk:1≤(Aw m.kind).length:=by
  rw[Cy]
  rcases h5 with k|k|k|k|k<;>(rw[k.1];decide)
 have hs:1≤(Aw m.site).length:=by
  rw[Cy]
  rcases h1 with k|k<;>(rw[k];decide)
 unfold Lb
 rw[List.length_append,List.length_append]
 omega
theorem Ay8 {l:List Af} {m:TMsg} (h:Mq l m=0):FO l m=0∧(Lb l m).length≤1048576∧FN l m=BE (Lb l m):=by
 have hb:FN l m=BE (Lb l m):=by unfold FN;rw[h];rfl
 unfold Mq at h
 cases hg:FO l m !=0 with
 |true=>rw[hg,cond_true] at h;rw[h] at hg;cases hg
 |false=>
  rw[hg,cond_false] at h
  refine⟨by simpa using hg,?_,hb⟩
  cases hd:decide (1048576 <(Lb l m).length) with
  |true=>rw[hd] at h;cases h
  |false=>have:=of_decide_eq_false hd;omega
theorem Awi {x:List UInt8} (hx:x.length≤1048576):2^(((BE x).getD 1 0).toNat / 64)=Fa (x.length:Int):=by
 obtain⟨y,r,e,e1,_⟩:=Agz (n:=(x.length:Int)) (by omega) (by omega)
 rw[ZZ hx,e]
 exact e1
theorem A5x (a0:List Af) (a1:TMsg) (a2 a3:Int) (w0:a0.length≤maxLen∧∀y∈a0,Wfd .group y) (w1:Wfd .msg a1) (w3:Wfd .u32 a3):(∀p∈L5 a0 a1 a2 a3,p)∧Hl a0 a1 a2 a3=true:=by
 have hu:0≤a3∧a3 <4294967296:=by
  have h:(Lit.int .u32 a3).wf=true:=w3
  simp[Lit.wf,IntKind.min,IntKind.max,IntKind.signed,IntKind.bits] at h
  omega
 have hl:(!!Ag a0 a1)=true→DD a1:=fun h=>(Arj w0 w1 (by rwa[Bool.not_not] at h)).1
 generalize hB:FN a0 a1=B
 have e19:Ac a0 a1 a2 a3=(Mq a0 a1 !=0):=rfl
 have hok:(!(Ac a0 a1 a2 a3))=true→Mq a0 a1=0:=fun h=>by rw[e19] at h;simpa using h
 have big:Mq a0 a1=0→∃x,B=BE x∧x.length≤1048576∧2≤x.length∧B1 a0=0:=fun h=>by
  obtain⟨q1,q2,q3⟩:=Ay8 h
  exact⟨_,hB▸q3,q2,A7y q1,(LV.1 q1).1⟩
 have hlen:Mq a0 a1=0→8≤B.length∧B.length≤1048600:=fun h=>by
  obtain⟨x,rfl,q2,q3,_⟩:=big h
  rw[Rl q2]
  have:=(Ah6 (n:=(x.length:Int)) (by omega) (by omega)).1
  unfold szs at this
  omega
 -- the cut
 have uwrap:∀n:Int,0≤n→n≤9223372036854775807→IntKind.u64.wrap n=n:=fun n h1 h2=>by
  show n % 2^64=n
  omega
 have u0:∀n:Int,0≤IntKind.u64.wrap n:=fun n=>(Asw n).1
 have tmod:∀(a:Int) (D:Nat),0≤a→0 <D→(D:Int)≤9223372036854775807→0≤a.tmod (D:Int)∧a.tmod (D:Int) <D:=fun a D h1 h2 _=>by
  rw[Int.tmod_eq_emod_of_nonneg h1]
  exact⟨Int.emod_nonneg _ (by omega),Int.emod_lt_of_pos _ (by omega)⟩
 have k18:Mq a0 a1=0→0≤AU a0 a1 a2 a3∧AU a0 a1 a2 a3 <(B.length:Int):=fun h=>by
  obtain⟨q1,q2⟩:=hlen h
  unfold AU
  rw[hB,uwrap (B.length:Int) (by omega) (by omega)]
  obtain⟨r1,r2⟩:=tmod (IntKind.u64.wrap a2) B.length (u0 _) (by omega) (by omega)
  rw[i64_in (by omega)]
  exact⟨r1,r2⟩
 have k15:BP a0 a1 a2 a3=B.take (AU a0 a1 a2 a3).toNat:=by
  unfold BP
  rw[Nat.sub_zero,List.drop_zero,hB]
 have c15:Mq a0 a1=0→HK (BP a0 a1 a2 a3)=10:=fun h=>by
  obtain⟨x,e,q2,_,_⟩:=big h
  have:=k18 h
  rw[k15]
  rw[e] at this⊢
  exact A0h q2 (by omega)
 -- the turn
 have k16:AG a0 a1 a2 a3=(((B.getD 1 0).toNat / 64:Nat):Int):=by
  unfold AG
  rw[hB]
  show(((B.getD 1 0).toNat:Nat):Int).fdiv 64=_
  rw[Int.fdiv_eq_ediv_of_nonneg _ (by omega)]
  omega
 have hH:Mq a0 a1=0→∀x,B=BE x→x.length≤1048576→(bif Ay a0 a1 a2 a3 then IntKind.i64.wrap (1+IntKind.i64.wrap (1*2^min (AG a0 a1 a2 a3).toNat 64)) else 2)=((1+Fa (x.length:Int):Nat):Int):=fun h x e hx=>by
  have hb:=Awi hx
  rw[←e] at hb
  have ht:(B.getD 1 0).toNat / 64≤3:=by have:=(B.getD 1 0).toNat_lt;omega
  unfold Ay
  rw[k16,←hb]
  generalize (B.getD 1 0).toNat / 64=t at*
  match t,ht with
  |0,_=>rfl
  |1,_=>rfl
  |2,_=>rfl
  |3,_=>rfl
  |n+4,h=>omega
 have hD:Mq a0 a1=0→∀x,B=BE x→x.length≤1048576→IntKind.u64.wrap (IntKind.i64.wrap (IntKind.i64.wrap ((B.length:Int) - (bif Ay a0 a1 a2 a3 then IntKind.i64.wrap (1+IntKind.i64.wrap (1*2^min (AG a0 a1 a2 a3).toNat 64)) else 2)) - 3))=((x.length+1:Nat):Int):=fun h x e hx=>by
  have hl:=Rl hx
  rw[←e] at hl
  have:=hlen h
  have i1:IntKind.i64.wrap ((B.length:Int) - ((1+Fa (x.length:Int):Nat):Int))=((x.length+4:Nat):Int):=by rw[hl,i64_in (by omega)];omega
  rw[hH h x e hx,i1,i64_in (by omega),uwrap _ (by omega) (by omega)]
  omega
 have place:Mq a0 a1=0→∃(x:List UInt8) (K:Nat),B=BE x∧x.length≤1048576∧1+Fa (x.length:Int)≤K∧K+4≤B.length∧AK a0 a1 a2 a3=(K:Int)∧As a0 a1 a2 a3=((K+1:Nat):Int)∧AH a0 a1 a2 a3=((K+2:Nat):Int)∧AB a0 a1 a2 a3=((K+3:Nat):Int):=fun h=>by
  obtain⟨x,e,q2,_,_⟩:=big h
  have hl:=Rl q2
  rw[←e] at hl
  have hb:=hlen h
  obtain⟨r1,r2⟩:=tmod (IntKind.u64.wrap a2) (x.length+1) (u0 _) (by omega) (by omega)
  refine⟨x,1+Fa (x.length:Int)+((IntKind.u64.wrap a2).tmod ((x.length+1:Nat):Int)).toNat,e,q2,by omega,by omega,?_,?_,?_,?_⟩
  ·unfold AK
   rw[hB,hD h x e q2,hH h x e q2,i64_in (n:=(IntKind.u64.wrap a2).tmod ((x.length+1:Nat):Int)) (by omega),i64_in (n:=((1+Fa (x.length:Int):Nat):Int)+(IntKind.u64.wrap a2).tmod ((x.length+1:Nat):Int)) (by omega),i64_in (by omega)]
   omega
  ·unfold As
   rw[hB,hD h x e q2,hH h x e q2,i64_in (n:=(IntKind.u64.wrap a2).tmod ((x.length+1:Nat):Int)) (by omega),i64_in (n:=((1+Fa (x.length:Int):Nat):Int)+(IntKind.u64.wrap a2).tmod ((x.length+1:Nat):Int)) (by omega),i64_in (by omega)]
   omega
  ·unfold AH
   rw[hB,hD h x e q2,hH h x e q2,i64_in (n:=(IntKind.u64.wrap a2).tmod ((x.length+1:Nat):Int)) (by omega),i64_in (n:=((1+Fa (x.length:Int):Nat):Int)+(IntKind.u64.wrap a2).tmod ((x.length+1:Nat):Int)) (by omega),i64_in (by omega)]
   omega
  ·unfold AB
   rw[hB,hD h x e q2,hH h x e q2,i64_in (n:=(IntKind.u64.wrap a2).tmod ((x.length+1:Nat):Int)) (by omega),i64_in (n:=((1+Fa (x.length:Int):Nat):Int)+(IntKind.u64.wrap a2).tmod ((x.length+1:Nat):Int)) (by omega),i64_in (by omega)]
   omega
 have hsn:(BitVec.ofInt 32 a3).toNat=a3.toNat:=by rw[BitVec.toNat_ofInt];omega
 have hw3:wB (BitVec.ofInt 32 a3)=a3:=by unfold wB;rw[hsn];omega
 have b24:=PC (BitVec.ofInt 32 a3) 24
 have b16:=PC (BitVec.ofInt 32 a3) 16
 have b8:=PC (BitVec.ofInt 32 a3) 8
 have b0:=PC (BitVec.ofInt 32 a3) 0
 rw[hw3,show((2^24:Nat):Int)=16777216 from rfl] at b24
 rw[hw3,show((2^16:Nat):Int)=65536 from rfl] at b16
 rw[hw3,show((2^8:Nat):Int)=256 from rfl] at b8
 rw[hw3,show((2^0:Nat):Int)=1 from rfl,show 2^0=1 from rfl,Nat.div_one] at b0
 have sets:Mq a0 a1=0→∀(x:List UInt8) (K:Nat),B=BE x→K+4≤B.length→AK a0 a1 a2 a3=(K:Int)→As a0 a1 a2 a3=((K+1:Nat):Int)→AH a0 a1 a2 a3=((K+2:Nat):Int)→AB a0 a1 a2 a3=((K+3:Nat):Int)→
   AC a0 a1 a2 a3=B.set K (B.getD K 0^^^UInt8.ofNat ((BitVec.ofInt 32 a3).toNat / 2^24))∧AO a0 a1 a2 a3=((B.set K (B.getD K 0^^^UInt8.ofNat ((BitVec.ofInt 32 a3).toNat / 2^24))).set (K+1) (B.getD (K+1) 0^^^UInt8.ofNat ((BitVec.ofInt 32 a3).toNat / 2^16))).set (K+2) (B.getD (K+2) 0^^^UInt8.ofNat ((BitVec.ofInt 32 a3).toNat / 2^8))∧
   (AO a0 a1 a2 a3).set (AB a0 a1 a2 a3).toNat (UInt8.ofNat (BN a0 a1 a2 a3).toNat)=B.take K++[B.getD K 0^^^UInt8.ofNat ((BitVec.ofInt 32 a3).toNat / 2^24),B.getD (K+1) 0^^^UInt8.ofNat ((BitVec.ofInt 32 a3).toNat / 2^16),B.getD (K+2) 0^^^UInt8.ofNat ((BitVec.ofInt 32 a3).toNat / 2^8),B.getD (K+3) 0^^^UInt8.ofNat (BitVec.ofInt 32 a3).toNat]++B.drop (K+4):=fun h x K e h4 e9 e10 e11 e12=>by
  have s7:AC a0 a1 a2 a3=B.set K (B.getD K 0^^^UInt8.ofNat ((BitVec.ofInt 32 a3).toNat / 2^24)):=by
   unfold AC EB
   rw[hB,e9,Int.toNat_natCast,Alo,b24]
   rfl
  have s3:AO a0 a1 a2 a3=((B.set K (B.getD K 0^^^UInt8.ofNat ((BitVec.ofInt 32 a3).toNat / 2^24))).set (K+1) (B.getD (K+1) 0^^^UInt8.ofNat ((BitVec.ofInt 32 a3).toNat / 2^16))).set (K+2) (B.getD (K+2) 0^^^UInt8.ofNat ((BitVec.ofInt 32 a3).toNat / 2^8)):=by
   unfold AO EA AT
   rw[e10,e11,Int.toNat_natCast,Int.toNat_natCast,Alo,Alo,b16,b8,s7]
   show((B.set K _).set (K+1) ((B.set K _).getD (K+1) 0^^^_)).set (K+2) (((B.set K _).set (K+1) ((B.set K _).getD (K+1) 0^^^_)).getD (K+2) 0^^^_)=_
   rw[Nd _ (by omega),Nd _ (by omega),Nd _ (by omega)]
  refine⟨s7,s3,?_⟩
  unfold BN
  rw[e12,Int.toNat_natCast,Alo,b0,s3,←Ba9 B K h4]
  show List.set _ (K+3) ((List.set _ _ _).getD (K+3) 0^^^_)=_
  rw[Nd _ (by omega),Nd _ (by omega),Nd _ (by omega)]
 have hs:(!a3==(0:Int))=true→BitVec.ofInt 32 a3≠0#32:=fun h e=>by
  have h':a3≠0:=by simpa using h
  rw[e] at hsn
  have:a3.toNat=0:=hsn.symm
  omega
 have k1:Mq a0 a1=0→(!a3==(0:Int))=true→Dk a0 a1 a2 a3=31:=fun h hz=>by
  obtain⟨x,K,e,q1,q2,q3,e9,e10,e11,e12⟩:=place h
  unfold Dk
  rw[(sets h x K e q3 e9 e10 e11 e12).2.2,e]
  exact A8k q1 q2 (by rw[←e];exact q3) (hs hz)
 refine⟨Aa (fun _ _=>Aia w0 w1) (Aa (fun _=>KK ..) (Aa (fun _ _=>KK ..) (Aa hl (Aa (fun _ _ _=>KK ..) (Aa (fun _ _ _ _=>KK ..) (Aa (fun _ h _=>?_) (Aa (fun _ h _=>?_) (Aa (fun _ h _=>?_) (Aa (fun _ h _=>by rw[c15 (hok h)];decide) (Aa (fun _ h _=>?_) (Aa (fun _ _ _ _ _=>KK ..) (Aa (fun _ _ _ _ _ _=>KK ..)
  (Aa (fun _ h _ _ _=>?_) (Aa (fun _ h _ _ _ _=>?_) (Aa (fun _ _ _ _ _ _=>by rw[k16];omega) (Aa (fun _ h _ _ _=>?_) (Aa (fun _ h _ _ _=>?_) (Aa (fun _ h _ _ _=>?_) (Aa (fun _ h _ _ _=>?_) (Aa (fun _ h _ _ _=>?_) (Aa (fun _ h _ _ _=>?_) (Aa (fun _ h _ _ hz=>by rw[k1 (hok h) hz];decide) (Aa (fun _ h _ _ _=>?_) (Aa (fun _ _ _ _ _ _=>KK ..) (Aa (fun _ _ _ _ _ _=>KK ..) (Aa (fun _ _ _ _ _ _ _=>KK ..) Am)))))))))))))))))))))))))),?_⟩
 ·have:=hlen (hok h);rw[hB,uwrap _ (by omega) (by omega)];omega
 ·have:=k18 (hok h);rw[hB];omega
 ·exact(big (hok h)).choose_spec.2.2.2
 ·have:=hlen (hok h);rw[k15,List.length_take];unfold Ai;omega
 ·have:=hlen (hok h);rw[hB];omega
 ·have:=hlen (hok h);rw[hB];omega
 ·obtain⟨x,e,q2,_,_⟩:=big (hok h)
  rw[hB,hD (hok h) x e q2];omega
 ·obtain⟨x,K,e,q1,q2,q3,e9,e10,e11,e12⟩:=place (hok h)
  rw[hB,e9];omega
 ·obtain⟨x,K,e,q1,q2,q3,e9,e10,e11,e12⟩:=place (hok h)
  rw[e10,(sets (hok h) x K e q3 e9 e10 e11 e12).1,List.length_set];omega
 ·obtain⟨x,K,e,q1,q2,q3,e9,e10,e11,e12⟩:=place (hok h)
  rw[e11,List.length_set,(sets (hok h) x K e q3 e9 e10 e11 e12).1,List.length_set];omega
 ·obtain⟨x,K,e,q1,q2,q3,e9,e10,e11,e12⟩:=place (hok h)
  rw[e12,(sets (hok h) x K e q3 e9 e10 e11 e12).2.1,List.length_set,List.length_set,List.length_set];omega
 ·exact(big (hok h)).choose_spec.2.2.2
 ·have:=hlen (hok h)
  obtain⟨x,K,e,q1,q2,q3,e9,e10,e11,e12⟩:=place (hok h)
  rw[List.length_set,(sets (hok h) x K e q3 e9 e10 e11 e12).2.1,List.length_set,List.length_set,List.length_set];unfold Ai;omega
 ·unfold Hl
  cases Ag a0 a1 with
  |false=>rfl
  | true=>
   rw[Bool.not_true,cond_false]
   cases h19:Ac a0 a1 a2 a3 with
   |true=>
    rw[cond_true,Bool.and_true]
    rw[e19] at h19
    have:(Mq a0 a1==0)=false:=by unfold bne at h19;simpa using h19
    unfold DK FN
    rw[this]
    rfl
   | false=>
    have h:Mq a0 a1=0:=hok (by rw[h19];rfl)
    have e5:Ad a0 a1 a2 a3=false:=by
     unfold Ad
     rw[hB]
     have:=hlen h
     exact decide_eq_false (by omega)
    have e14:Ae a0 a1 a2 a3=false:=by unfold Ae;rw[c15 h];rfl
    rw[cond_false,e5,e14,cond_false,cond_false]
    cases hz:a3==(0:Int) with
    |true=>rfl
    |false=>
     unfold Ez
     rw[k1 h (by rw[hz];rfl)]
     rfl
end Go.Proofs.YtifkbgkbajncjaaDoor
namespace Go.Proofs.YtifkbgkbajncjaaDoor
open Go.RowKit
set_option maxRecDepth 100000
theorem op3:Xu Tryd.prog .i64 3:=A4l Tryd.underlying3
theorem op4:Xu Tryd.prog .bool 4:=A0i Tryd.underlying4
theorem SB:Xu Tryd.prog .u8 5:=A78 Tryd.underlying5
theorem op9:Xu Tryd.prog .str 9:=A4m Tryd.underlying9
theorem Ba6:Xu Tryd.prog .group 89:=fun en w base spare held m cs y h=>by
 obtain⟨xs,n,_,_,hl,hz,hg⟩:=DataW.trod_struct Tryd.underlying89 h
 have hz:xs.length=2:=hz
 have hl:cs.length=2:=hl.trans (by kernel_rfl)
 obtain⟨x0,w0,g0⟩:=J4 (i:=0) (o:=0) (k:=1) op9 rfl rfl rfl (by kernel_rfl) (by omega) hg
 obtain⟨x1,w1,g1⟩:=J4 (i:=1) (o:=1) (k:=1) op3 rfl rfl rfl (by kernel_rfl) (by omega) hg
 exact⟨⟨x0,x1⟩,⟨w0,w1⟩,fun F N nx hF=>HQ (o:=0) (k:=1) (g0 F N nx hF) (HQ (o:=1) (k:=1) (g1 F N nx hF) (HLe (o:=2) hl))⟩
theorem A91:T5 Tryd.prog .group 22:=NJ Tryd.underlying22 (by kernel_rfl) Ba6
theorem A90:Xu Tryd.prog .stamp 24:=fun en w base spare held m cs y h=>by
 obtain⟨xs,n,_,_,hl,hz,hg⟩:=DataW.trod_struct Tryd.underlying24 h
 have hz:xs.length=2:=hz
 have hl:cs.length=2:=hl.trans (by kernel_rfl)
 obtain⟨x0,w0,g0⟩:=J4 (i:=0) (o:=0) (k:=1) op3 rfl rfl rfl (by kernel_rfl) (by omega) hg
 obtain⟨x1,w1,g1⟩:=J4 (i:=1) (o:=1) (k:=1) op3 rfl rfl rfl (by kernel_rfl) (by omega) hg
 exact⟨⟨x0,x1⟩,⟨w0,w1⟩,fun F N nx hF=>HQ (o:=0) (k:=1) (g0 F N nx hF) (HQ (o:=1) (k:=1) (g1 F N nx hF) (HLe (o:=2) hl))⟩
theorem A4j:Xu Tryd.prog .vec 26:=fun en w base spare held m cs y h=>by
 obtain⟨xs,n,_,_,hl,hz,hg⟩:=DataW.trod_array Tryd.underlying26 h
 have hl:cs.length=2:=hl.trans (by kernel_rfl)
 obtain⟨x0,w0,g0⟩:=Hd (i:=0) (k:=1) op3 (by kernel_rfl) (by omega) (by omega) hg
 obtain⟨x1,w1,g1⟩:=Hd (i:=1) (k:=1) op3 (by kernel_rfl) (by omega) (by omega) hg
 exact⟨⟨x0,x1⟩,⟨w0,w1⟩,fun F N nx hF=>HQ (o:=0) (k:=1) (g0 F N nx hF) (HQ (o:=1) (k:=1) (g1 F N nx hF) (HLe (o:=2) hl))⟩
theorem Ba4:Xu Tryd.prog .write 85:=fun en w base spare held m cs y h=>by
 obtain⟨xs,n,_,_,hl,hz,hg⟩:=DataW.trod_struct Tryd.underlying85 h
 have hz:xs.length=4:=hz
 have hl:cs.length=4:=hl.trans (by kernel_rfl)
 obtain⟨x0,w0,g0⟩:=J4 (i:=0) (o:=0) (k:=1) op9 rfl rfl rfl (by kernel_rfl) (by omega) hg
 obtain⟨x1,w1,g1⟩:=J4 (i:=1) (o:=1) (k:=1) op3 rfl rfl rfl (by kernel_rfl) (by omega) hg
 obtain⟨x2,w2,g2⟩:=J4 (i:=2) (o:=2) (k:=1) op4 rfl rfl rfl (by kernel_rfl) (by omega) hg
 obtain⟨x3,w3,g3⟩:=J4 (i:=3) (o:=3) (k:=1) op9 rfl rfl rfl (by kernel_rfl) (by omega) hg
 exact⟨⟨x0,x1,x2,x3⟩,⟨w0,w1,w2,w3⟩,fun F N nx hF=>HQ (o:=0) (k:=1) (g0 F N nx hF) (HQ (o:=1) (k:=1) (g1 F N nx hF) (HQ (o:=2) (k:=1) (g2 F N nx hF) (HQ (o:=3) (k:=1) (g3 F N nx hF) (HLe (o:=4) hl))))⟩
theorem A92:T5 Tryd.prog .write 27:=NJ Tryd.underlying27 (by kernel_rfl) Ba4
theorem Baz:Xu Tryd.prog .change 29:=fun en w base spare held m cs y h=>by
 obtain⟨xs,n,_,_,hl,hz,hg⟩:=DataW.trod_struct Tryd.underlying29 h
 have hz:xs.length=5:=hz
 have hl:cs.length=7:=hl.trans (by kernel_rfl)
 obtain⟨x0,w0,g0⟩:=J4 (i:=0) (o:=0) (k:=1) op3 rfl rfl rfl (by kernel_rfl) (by omega) hg
 obtain⟨x1,w1,g1⟩:=J4 (i:=1) (o:=1) (k:=1) op3 rfl rfl rfl (by kernel_rfl) (by omega) hg
 obtain⟨x2,w2,g2⟩:=J4 (i:=2) (o:=2) (k:=2) A90 rfl rfl rfl (by kernel_rfl) (by omega) hg
 obtain⟨x3,w3,g3⟩:=J4 (i:=3) (o:=4) (k:=2) A4j rfl rfl rfl (by kernel_rfl) (by omega) hg
 obtain⟨x4,w4,g4⟩:=Azi (i:=4) (o:=6) (k:=1) A92 rfl rfl rfl (by kernel_rfl) (by omega) hg
 exact⟨⟨x0,x1,x2,x3,x4⟩,⟨w0,w1,w2,w3,w4⟩,fun F N nx hF=>HQ (o:=0) (k:=1) (g0 F N nx hF) (HQ (o:=1) (k:=1) (g1 F N nx hF) (HQ (o:=2) (k:=2) (g2 F N nx hF) (HQ (o:=4) (k:=2) (g3 F N nx hF) (HQ (o:=6) (k:=1) (g4 F N nx hF) (HLe (o:=7) hl)))))⟩
theorem A93:T5 Tryd.prog .i64 30:=NJ Tryd.underlying30 (by kernel_rfl) op3
theorem Ba2:Xu Tryd.prog .digest 56:=fun en w base spare held m cs y h=>by
 obtain⟨xs,n,_,_,hl,hz,hg⟩:=DataW.trod_array Tryd.underlying56 h
 have hl:cs.length=32:=hl.trans (by kernel_rfl)
 obtain⟨x0,_,g0⟩:=Hd (i:=0) (k:=1) SB (by kernel_rfl) (by omega) (by omega) hg
 obtain⟨x1,_,g1⟩:=Hd (i:=1) (k:=1) SB (by kernel_rfl) (by omega) (by omega) hg
 obtain⟨x2,_,g2⟩:=Hd (i:=2) (k:=1) SB (by kernel_rfl) (by omega) (by omega) hg
 obtain⟨x3,_,g3⟩:=Hd (i:=3) (k:=1) SB (by kernel_rfl) (by omega) (by omega) hg
 obtain⟨x4,_,g4⟩:=Hd (i:=4) (k:=1) SB (by kernel_rfl) (by omega) (by omega) hg
 obtain⟨x5,_,g5⟩:=Hd (i:=5) (k:=1) SB (by kernel_rfl) (by omega) (by omega) hg
 obtain⟨x6,_,g6⟩:=Hd (i:=6) (k:=1) SB (by kernel_rfl) (by omega) (by omega) hg
 obtain⟨x7,_,g7⟩:=Hd (i:=7) (k:=1) SB (by kernel_rfl) (by omega) (by omega) hg
 obtain⟨x8,_,g8⟩:=Hd (i:=8) (k:=1) SB (by kernel_rfl) (by omega) (by omega) hg
 obtain⟨x9,_,g9⟩:=Hd (i:=9) (k:=1) SB (by kernel_rfl) (by omega) (by omega) hg
 obtain⟨x10,_,g10⟩:=Hd (i:=10) (k:=1) SB (by kernel_rfl) (by omega) (by omega) hg
 obtain⟨x11,_,g11⟩:=Hd (i:=11) (k:=1) SB (by kernel_rfl) (by omega) (by omega) hg
 obtain⟨x12,_,g12⟩:=Hd (i:=12) (k:=1) SB (by kernel_rfl) (by omega) (by omega) hg
 obtain⟨x13,_,g13⟩:=Hd (i:=13) (k:=1) SB (by kernel_rfl) (by omega) (by omega) hg
 obtain⟨x14,_,g14⟩:=Hd (i:=14) (k:=1) SB (by kernel_rfl) (by omega) (by omega) hg
 obtain⟨x15,_,g15⟩:=Hd (i:=15) (k:=1) SB (by kernel_rfl) (by omega) (by omega) hg
 obtain⟨x16,_,g16⟩:=Hd (i:=16) (k:=1) SB (by kernel_rfl) (by omega) (by omega) hg
 obtain⟨x17,_,g17⟩:=Hd (i:=17) (k:=1) SB (by kernel_rfl) (by omega) (by omega) hg
 obtain⟨x18,_,g18⟩:=Hd (i:=18) (k:=1) SB (by kernel_rfl) (by omega) (by omega) hg
 obtain⟨x19,_,g19⟩:=Hd (i:=19) (k:=1) SB (by kernel_rfl) (by omega) (by omega) hg
 obtain⟨x20,_,g20⟩:=Hd (i:=20) (k:=1) SB (by kernel_rfl) (by omega) (by omega) hg
 obtain⟨x21,_,g21⟩:=Hd (i:=21) (k:=1) SB (by kernel_rfl) (by omega) (by omega) hg
 obtain⟨x22,_,g22⟩:=Hd (i:=22) (k:=1) SB (by kernel_rfl) (by omega) (by omega) hg
 obtain⟨x23,_,g23⟩:=Hd (i:=23) (k:=1) SB (by kernel_rfl) (by omega) (by omega) hg
 obtain⟨x24,_,g24⟩:=Hd (i:=24) (k:=1) SB (by kernel_rfl) (by omega) (by omega) hg
 obtain⟨x25,_,g25⟩:=Hd (i:=25) (k:=1) SB (by kernel_rfl) (by omega) (by omega) hg
 obtain⟨x26,_,g26⟩:=Hd (i:=26) (k:=1) SB (by kernel_rfl) (by omega) (by omega) hg
 obtain⟨x27,_,g27⟩:=Hd (i:=27) (k:=1) SB (by kernel_rfl) (by omega) (by omega) hg
 obtain⟨x28,_,g28⟩:=Hd (i:=28) (k:=1) SB (by kernel_rfl) (by omega) (by omega) hg
 obtain⟨x29,_,g29⟩:=Hd (i:=29) (k:=1) SB (by kernel_rfl) (by omega) (by omega) hg
 obtain⟨x30,_,g30⟩:=Hd (i:=30) (k:=1) SB (by kernel_rfl) (by omega) (by omega) hg
 obtain⟨x31,_,g31⟩:=Hd (i:=31) (k:=1) SB (by kernel_rfl) (by omega) (by omega) hg
 exact⟨[x0,x1,x2,x3,x4,x5,x6,x7,x8,x9,x10,x11,x12,x13,x14,x15,x16,x17,x18,x19,x20,x21,x22,x23,x24,x25,x26,x27,x28,x29,x30,x31],rfl,fun F N nx hF=>HQ (o:=0) (k:=1) (g0 F N nx hF) (HQ (o:=1) (k:=1) (g1 F N nx hF) (HQ (o:=2) (k:=1) (g2 F N nx hF) (HQ (o:=3) (k:=1) (g3 F N nx hF) (HQ (o:=4) (k:=1) (g4 F N nx hF) (HQ (o:=5) (k:=1) (g5 F N nx hF) (HQ (o:=6) (k:=1) (g6 F N nx hF) (HQ (o:=7) (k:=1) (g7 F N nx hF) (HQ (o:=8) (k:=1) (g8 F N nx hF) (HQ (o:=9) (k:=1) (g9 F N nx hF) (HQ (o:=10) (k:=1) (g10 F N nx hF) (HQ (o:=11) (k:=1) (g11 F N nx hF) (HQ (o:=12) (k:=1) (g12 F N nx hF) (HQ (o:=13) (k:=1) (g13 F N nx hF) (HQ (o:=14) (k:=1) (g14 F N nx hF) (HQ (o:=15) (k:=1) (g15 F N nx hF) (HQ (o:=16) (k:=1) (g16 F N nx hF) (HQ (o:=17) (k:=1) (g17 F N nx hF) (HQ (o:=18) (k:=1) (g18 F N nx hF) (HQ (o:=19) (k:=1) (g19 F N nx hF) (HQ (o:=20) (k:=1) (g20 F N nx hF) (HQ (o:=21) (k:=1) (g21 F N nx hF) (HQ (o:=22) (k:=1) (g22 F N nx hF) (HQ (o:=23) (k:=1) (g23 F N nx hF) (HQ (o:=24) (k:=1) (g24 F N nx hF) (HQ (o:=25) (k:=1) (g25 F N nx hF) (HQ (o:=26) (k:=1) (g26 F N nx hF) (HQ (o:=27) (k:=1) (g27 F N nx hF) (HQ (o:=28) (k:=1) (g28 F N nx hF) (HQ (o:=29) (k:=1) (g29 F N nx hF) (HQ (o:=30) (k:=1) (g30 F N nx hF) (HQ (o:=31) (k:=1) (g31 F N nx hF) (HLe (o:=32) hl))))))))))))))))))))))))))))))))⟩
theorem A94:T5 Tryd.prog .digest 31:=NJ Tryd.underlying31 (by kernel_rfl) Ba2
theorem Ba5:Xu Tryd.prog .cell 87:=fun en w base spare held m cs y h=>by
 obtain⟨xs,n,_,_,hl,hz,hg⟩:=DataW.trod_struct Tryd.underlying87 h
 have hz:xs.length=5:=hz
 have hl:cs.length=8:=hl.trans (by kernel_rfl)
 obtain⟨x0,w0,g0⟩:=J4 (i:=0) (o:=0) (k:=2) A90 rfl rfl rfl (by kernel_rfl) (by omega) hg
 obtain⟨x1,w1,g1⟩:=J4 (i:=1) (o:=2) (k:=2) A4j rfl rfl rfl (by kernel_rfl) (by omega) hg
 obtain⟨x2,w2,g2⟩:=J4 (i:=2) (o:=4) (k:=1) op4 rfl rfl rfl (by kernel_rfl) (by omega) hg
 obtain⟨x3,w3,g3⟩:=J4 (i:=3) (o:=5) (k:=1) op9 rfl rfl rfl (by kernel_rfl) (by omega) hg
 obtain⟨x4,w4,g4⟩:=J4 (i:=4) (o:=6) (k:=2) A4j rfl rfl rfl (by kernel_rfl) (by omega) hg
 exact⟨⟨x0,x1,x2,x3,x4⟩,⟨w0,w1,w2,w3,w4⟩,fun F N nx hF=>HQ (o:=0) (k:=2) (g0 F N nx hF) (HQ (o:=2) (k:=2) (g1 F N nx hF) (HQ (o:=4) (k:=1) (g2 F N nx hF) (HQ (o:=5) (k:=1) (g3 F N nx hF) (HQ (o:=6) (k:=2) (g4 F N nx hF) (HLe (o:=8) hl)))))⟩
theorem A96:T5 Tryd.prog .cell 58:=NJ Tryd.underlying58 (by kernel_rfl) Ba5
theorem Ba3:Xu Tryd.prog .row 60:=fun en w base spare held m cs y h=>by
 obtain⟨xs,n,_,_,hl,hz,hg⟩:=DataW.trod_struct Tryd.underlying60 h
 have hz:xs.length=2:=hz
 have hl:cs.length=2:=hl.trans (by kernel_rfl)
 obtain⟨x0,w0,g0⟩:=J4 (i:=0) (o:=0) (k:=1) op9 rfl rfl rfl (by kernel_rfl) (by omega) hg
 obtain⟨x1,w1,g1⟩:=Azi (i:=1) (o:=1) (k:=1) A96 rfl rfl rfl (by kernel_rfl) (by omega) hg
 exact⟨⟨x0,x1⟩,⟨w0,w1⟩,fun F N nx hF=>HQ (o:=0) (k:=1) (g0 F N nx hF) (HQ (o:=1) (k:=1) (g1 F N nx hF) (HLe (o:=2) hl))⟩
theorem A95:T5 Tryd.prog .row 32:=NJ Tryd.underlying32 (by kernel_rfl) Ba3
theorem Ba0:Xu Tryd.prog .msg 34:=fun en w base spare held m cs y h=>by
 obtain⟨xs,n,_,_,hl,hz,hg⟩:=DataW.trod_struct Tryd.underlying34 h
 have hz:xs.length=10:=hz
 have hl:cs.length=17:=hl.trans (by kernel_rfl)
 obtain⟨x0,w0,g0⟩:=J4 (i:=0) (o:=0) (k:=1) op3 rfl rfl rfl (by kernel_rfl) (by omega) hg
 obtain⟨x1,w1,g1⟩:=J4 (i:=1) (o:=1) (k:=1) op3 rfl rfl rfl (by kernel_rfl) (by omega) hg
 obtain⟨x2,w2,g2⟩:=J4 (i:=2) (o:=2) (k:=7) Baz rfl rfl rfl (by kernel_rfl) (by omega) hg
 obtain⟨x3,w3,g3⟩:=J4 (i:=3) (o:=9) (k:=1) op3 rfl rfl rfl (by kernel_rfl) (by omega) hg
 obtain⟨x4,w4,g4⟩:=J4 (i:=4) (o:=10) (k:=1) op3 rfl rfl rfl (by kernel_rfl) (by omega) hg
 obtain⟨x5,w5,g5⟩:=Azi (i:=5) (o:=11) (k:=1) A93 rfl rfl rfl (by kernel_rfl) (by omega) hg
 obtain⟨x6,w6,g6⟩:=Azi (i:=6) (o:=12) (k:=1) A94 rfl rfl rfl (by kernel_rfl) (by omega) hg
 obtain⟨x7,w7,g7⟩:=Azi (i:=7) (o:=13) (k:=1) A95 rfl rfl rfl (by kernel_rfl) (by omega) hg
 obtain⟨x8,w8,g8⟩:=J4 (i:=8) (o:=14) (k:=2) A4j rfl rfl rfl (by kernel_rfl) (by omega) hg
 obtain⟨x9,w9,g9⟩:=J4 (i:=9) (o:=16) (k:=1) op4 rfl rfl rfl (by kernel_rfl) (by omega) hg
 exact⟨⟨x0,x1,x2,x3,x4,x5,x6,x7,x8,x9⟩,⟨w0,w1,w2,w3,w4,w5,w6,w7,w8,w9⟩,fun F N nx hF=>HQ (o:=0) (k:=1) (g0 F N nx hF) (HQ (o:=1) (k:=1) (g1 F N nx hF) (HQ (o:=2) (k:=7) (g2 F N nx hF) (HQ (o:=9) (k:=1) (g3 F N nx hF) (HQ (o:=10) (k:=1) (g4 F N nx hF) (HQ (o:=11) (k:=1) (g5 F N nx hF) (HQ (o:=12) (k:=1) (g6 F N nx hF) (HQ (o:=13) (k:=1) (g7 F N nx hF) (HQ (o:=14) (k:=2) (g8 F N nx hF) (HQ (o:=16) (k:=1) (g9 F N nx hF) (HLe (o:=17) hl))))))))))⟩
theorem Ba1:Xu Tryd.prog .u32 45:=A4n Tryd.underlying45
end Go.Proofs.YtifkbgkbajncjaaDoor
namespace Go.Proofs.YtifkbgkbajncjaaDoor
open Go.ChangeShapes Go.WideShapes Go.ChangeAt Go.RowKit
theorem own:ownKnob Tryd.prog.godebug=none:=by kernel_rfl
theorem A35:laidOutB Tryd.prog=true:=by kernel_rfl
section
variable {P:Program} {H:Type} {enc:TypeId×Value→H} {w:World} {base:Nat} {spare:Nat→Bool} {held:Bool} {v:Value} {d:DataW H} {p:List MemPlace}
theorem Aek {r:Reach} {b0:Nat} {t:TypeId} {fs:Array Field} (hu:P.underlying t=some (.struct fs)) (h:Value.okWide P w r b0 t v):∃cs,v=.agg cs∧cs.size=P.cellsOf t:=by
 unfold Value.okWide at h
 rw[hu] at h
 obtain⟨cs,h1,h2,_⟩:=h
 exact⟨cs,h1,h2⟩
end
theorem Sc {H:Type} {enc:TypeId×Value→H} {W W':World} (hb:Below W.heap.size W W'):∀(ts:List TypeId) (vs:List Value) (ds:List (DataW H)) (ps:List MemPlace),
  (∀t∈ts,Tryd.prog.readableRec t=true∧t <Tryd.prog.types.size)→DataW.TrodAll enc Tryd.prog W 0 (fun _=>true) true ts vs ds ps→(∀x∈ps,x.block <W.heap.size)→
  DataW.TrodAll enc Tryd.prog W' 0 (fun b=>decide (b <W.heap.size)) true ts vs ds ps
 | [],vs,ds,ps,_,h,_=>by
  obtain⟨rfl,rfl,rfl⟩:=trodAll_nil h
  exact trodAll_mk0
 | t::ts,vs,ds,ps,hr,h,hlt=>by
  obtain⟨v,vs',d,ds',p,q,rfl,rfl,rfl,h0,h1⟩:=trodAll_cons h
  exact trodAll_cons_mk (Below.trod A35 (hr t (by simp)).1 (hr t (by simp)).2 h0 hb fun x hx=>hlt x (by simp[hx]))
   (Sc hb ts vs' ds' q (fun t' ht'=>hr t' (by simp[ht'])) h1 fun x hx=>hlt x (by simp[hx]))
end Go.Proofs.YtifkbgkbajncjaaDoor
namespace Go.Proofs.YtifkbgkbajncjaaDoor
open Go.RowKit Go.WideShapes Go.ChangeShapes
section
variable {H:Type} {en:TypeId×Value→H} {P:Program} {w:World} {base:Nat} {spare:Nat→Bool} {held:Bool} {t e:TypeId} {v:Value} {d:DataW H} {p:List MemPlace} {r:Reach} {b0:Nat} {c:TC}
theorem Aym (ht:P.underlying t=some (.slice e)) (ho:T5 P c t) (hv:Value.okWide P w r b0 t v) (h:DataW.Trod en P w base spare held t v d p):
  ∃l:List (U c),(l.length≤maxLen∧∀x∈l,Wfd c x)∧∀(F:Nat→Prop) (N:Nm) (nx:Nat),FB w F→Hv F N nx w (.sl c l) v:=by
 obtain⟨a,len,cap,rfl⟩:=okWide_slice ht hv
 obtain⟨fuel,hf⟩:=h
 obtain⟨l,h1,h2⟩:=ho en w base spare held fuel _ _ hf
 refine⟨l,h1,fun F N nx hF=>?_⟩
 obtain⟨y,ys,e,h3,_⟩:=(h2 F N nx hF).inv
 have e':[Value.slice a len cap]=y::ys:=e
 cases e'
 exact h3
theorem A23 (ho:Xu P c t) (ha:c.isAgg=false) (h1:v.cells.toList=[v]) (h:DataW.Trod en P w base spare held t v d p):
  ∃x:U c,Wfd c x∧∀(F:Nat→Prop) (N:Nm) (nx:Nat),FB w F→Hv F N nx w (Ar c x) v:=by
 obtain⟨fuel,hf⟩:=h
 rw[h1] at hf
 obtain⟨x,h2,h3⟩:=ho en w base spare held fuel _ _ hf
 exact⟨x,h2,fun F N nx hF=>Ard (h3 F N nx hF) ha rfl⟩
theorem Atr {k:IntKind} (ht:P.underlying t=some (.int k)) (ho:Xu P c t) (ha:c.isAgg=false) (hv:Value.okWide P w r b0 t v) (h:DataW.Trod en P w base spare held t v d p):
  ∃x:U c,Wfd c x∧∀(F:Nat→Prop) (N:Nm) (nx:Nat),FB w F→Hv F N nx w (Ar c x) v:=by
 obtain⟨n,rfl⟩:=okWide_int ht hv
 exact A23 ho ha rfl h
theorem A22 {cs:Array Value} (ho:Xu P c t) (ha:c.isAgg=true) (hv:v=.agg cs) (h:DataW.Trod en P w base spare held t v d p):
  ∃x:U c,Wfd c x∧∀(F:Nat→Prop) (N:Nm) (nx:Nat),FB w F→Hv F N nx w (Ar c x) v:=by
 subst hv
 obtain⟨fuel,hf⟩:=h
 obtain⟨x,h2,h3⟩:=ho en w base spare held fuel _ _ hf
 exact⟨x,h2,fun F N nx hF=>Arc (h3 F N nx hF) ha⟩
theorem Ap8 {fs:Array Field} (ht:P.underlying t=some (.struct fs)) (ho:Xu P c t) (ha:c.isAgg=true) (hv:Value.okWide P w r b0 t v) (h:DataW.Trod en P w base spare held t v d p):
  ∃x:U c,Wfd c x∧∀(F:Nat→Prop) (N:Nm) (nx:Nat),FB w F→Hv F N nx w (Ar c x) v:=by
 obtain⟨cs,hcs,_⟩:=Aek ht hv
 exact A22 ho ha hcs h
end
theorem Avw {P:Program} {f:FuncId} {args:List A} {nx':Nat} {o':Objs} {b:Bool} (h:CallOk P f args 0 [] 1 (.v (.bool b)) nx' o') (W:World) (hgl:GlobOk (fun b=>b <W.heap.size) W) (vs:List Value) (ha:∀(F:Nat→Prop) (N:Nm) (nx:Nat),FB W F→HL F N nx W args vs):
  Calls P f vs.toArray W fun e W'=>e=.returned (.bool b)∧Below W.heap.size W W':=by
 have hr:HRel (fun b=>b <W.heap.size) ⟨fun _=>0,fun _=> .nilFunc⟩ 0 [] W:=⟨fun g hg=>hg,fun i ob hi=>(by cases hi),fun i ob g hi=>(by cases hi),fun i j x y g hi=>(by cases hi),hgl⟩
 refine(h _ _ W vs hr (ha _ _ _ fun b hb=>hb)).mono fun e W' ⟨y,F',N',he,_,_,hy,hb⟩=>?_
 rw[hy.v_inv] at he
 exact⟨he,hb (Nat.le_refl _)⟩
end Go.Proofs.YtifkbgkbajncjaaDoor
namespace Go.Proofs.YtifkbgkbajncjaaDoor
open Go.RowKit Go.ChangeShapes Go.WideShapes Go.ChangeAt
theorem Awk {P:Program} {t e:TypeId} {n:Nat} {H:Type} {en:TypeId×Value→H} {W:World} {base:Nat} {spare:Nat→Bool} {held:Bool} {fuel:Nat} (hu:P.underlying t=some (.array n e)) (he:P.underlying e=some .string) (hc:P.cellsOf e=1) (ht:P.cellsOf t=n) {cs:List Value} {l:List ByteArray} {p:List MemPlace}
  (h:DataW.trod en P W base spare held fuel t cs=some (.agg (l.map fun x=> .lit (.string x.data.toList)),p)):cs=l.map Value.string:=by
 obtain⟨xs,m,_,hx,hl,hn,hg⟩:=DataW.trod_array hu h
 rw[ht] at hl
 rw[hc] at hg
 have e1:xs.map (·.1)=l.map fun x=>DataW.lit (.string x.data.toList):=by
  have:=congrArg Prod.fst hx
  simpa using this.symm
 have hln:l.length=n:=by
  have:=congrArg List.length e1
  simpa[hn] using this.symm
 refine List.ext_getElem? fun i=>?_
 by_cases hi:i <n
 ·have h1:=hg i hi
  have hxi:xs[i]?=some xs[i]:=List.getElem?_eq_getElem (by omega)
  rw[hxi] at h1
  obtain⟨m',e2,e3,_⟩:=DataW.trod_string he h1
  have e4:=congrArg (·[i]?) e1
  simp only[List.getElem?_map,hxi,Option.map_some] at e4
  have hli:l[i]?=some l[i]:=List.getElem?_eq_getElem (by omega)
  rw[hli,Option.map_some,e3] at e4
  have e5:m'=l[i]:=by
   have:m'.data.toList=l[i].data.toList:=by simpa using e4
   have h2:=Array.toList_inj.1 this
   cases m'
   generalize l[i]=z at h2
   cases z
   exact congrArg ByteArray.mk h2
  rw[List.getElem?_map,hli,Option.map_some,←e5]
  have e6:((cs.drop (i*1)).take 1)[0]?=some (Value.string m'):=by rw[e2];rfl
  rw[List.getElem?_take_of_lt (by omega),List.getElem?_drop] at e6
  simpa using e6
 ·rw[List.getElem?_eq_none (by omega),List.getElem?_eq_none (by rw[List.length_map];omega)]
abbrev An4:List (String×DataW Unit):=[("gemel/wire.names",Rows.laid_gemel_wire_names)]
theorem Ay1 (os:Os) (args:Array Value):laidMetH Tryd.prog An4 ((World.doorLaid Tryd.prog 400 os).forCall (fun _ _=>0) ⟨#[],args,[]⟩).memory:=
 laidMetH_of_parts3 (fuel:=8) (laidMet_of_run' 8 (by kernel_rfl) (by kernel_rfl)) (by kernel_rfl) (by kernel_rfl)
def gIx:Nat:=match Sn with
 | [(i,_)]=>i
 |_=>0
theorem gName:Tryd.prog.globalNamed "gemel/wire.names" =some gIx:=by kernel_rfl
theorem gType:(Tryd.prog.globals[gIx]?).map (·.type)=some 90:=by kernel_rfl
def namesL:List ByteArray:=match Sn with
 | [(_,⟨.str,_,l⟩)]=>l
 |_=>[]
theorem A36:(Rows.laid_gemel_wire_names:DataW Unit)=.agg (namesL.map fun x=> .lit (.string x.data.toList)):=by kernel_rfl
theorem Azt:Sn=[(gIx,⟨.str,rfl,namesL⟩)]:=by kernel_rfl
theorem A30 {W:World} (h:laidMetH Tryd.prog An4 W):GlobOk (fun b=>b <W.heap.size) W:=by
 rw[MakeChecks.laidMetH_plain _ _ _ (by kernel_rfl)] at h
 obtain⟨ps,⟨g0,t0,cs0,f0,p0,q0,hg0,ht0,hv0,hd0,_,hps⟩,_,hcell⟩:=h
 obtain rfl:=Option.some.inj (gName.symm.trans hg0)
 obtain rfl:=Option.some.inj (gType.symm.trans ht0)
 rw[A36] at hd0
 have hcs:=Awk (l:=namesL) Tryd.underlying90 Tryd.underlying9 (by kernel_rfl) (by kernel_rfl) hd0
 have hlen:cs0.toList.length=6:=by rw[hcs,List.length_map];kernel_rfl
 have hsz:cs0.size=6:=by rw[←Array.length_toList];exact hlen
 have hm:MemPlace.cell gIx 0∈ps:=by
  rw[hps]
  refine List.mem_append.2 (.inl (List.mem_append.2 (.inl ?_)))
  unfold MemPlace.row
  rw[hsz]
  exact List.mem_map.2 ⟨0,List.mem_range.2 (by decide),rfl⟩
 obtain⟨⟨c,t,hc⟩,_⟩:=hcell gIx 0 hm
 have hcc:c=cs0:=by
  unfold World.var? at hv0
  rw[gName] at hv0
  simp only[Option.bind_some,hc] at hv0
  exact Option.some.inj hv0
 subst hcc
 intro x hx
 rw[Azt] at hx
 obtain rfl:=List.mem_singleton.1 hx
 refine⟨Fv hc,t,?_⟩
 show W.heap[gIx]?=some (.cells (namesL.map (sv .str)).toArray t (0,0))
 rw[hc]
 congr 2
 apply Array.ext'
 rw[hcs]
 rfl
end Go.Proofs.YtifkbgkbajncjaaDoor
namespace Go.Proofs.YtifkbgkbajncjaaDoor.wireTurned
open Go.ChangeShapes Go.WideShapes Go.ChangeAt Go.RowKit
theorem lifted (os:Os) (started:os.Started) (H:Type) (enc:TypeId×Value→H):
  ReturnsInHanded {} Tryd.checked os 4 .any (fun w args=>(Rows.wireTurnedSpec.pre enc Tryd.prog Tryd.f4 [] false w args∧laidMetH Tryd.prog An4 w)∧sizedMet enc Tryd.prog Tryd.f4 (OpenSpec.ofChange Rows.wireTurnedSpec) false w args)
   (Rows.wireTurnedSpec.post enc Tryd.prog Tryd.f4 false true false false):=by
 refine returnsInHanded_of_change_and (C:=Tryd.checked) (X:=fun w _=>laidMetH Tryd.prog An4 w) (fun _ _ _ hh h=>h.of_heap hh) own started (by kernel_rfl) Tryd.func4
  (ChangeSpec.witness_shaped (enc:=enc) (C:=Tryd.checked) (os:=os) (X:=fun w _=>laidMetH Tryd.prog An4 w) false (World.doorLaid Tryd.prog 400 os) #[.slice none 0 0,.agg #[.int .i64 0,.int .i64 0,.int .i64 0,.int .i64 0,.int .i64 0,.int .i64 0,.int .i64 0,.int .i64 0,.slice none 0 0,.int .i64 0,.int .i64 0,.slice none 0 0,.slice none 0 0,.slice none 0 0,.int .i64 0,.int .i64 0,.bool false],.int .i64 0,.int .u32 0] 8 rfl (World.shaped_of_RefB (by kernel_rfl) (by kernel_rfl)) (by kernel_rfl) (by kernel_rfl) (by kernel_rfl) (Ay1 os _)) ?_
 intro W base args ds gs before hval0 hW _ _ hL _
 have hval:∀(j:Nat) t v,Tryd.f4.params[j]?=some t→args[j]?=some v→Value.okWide Tryd.prog W .any base t v:=hval0
 have hW':=hW
 have hlt:∀x∈before,x.block <W.heap.size:=fun x hx=>hW.lt x hx
 obtain⟨p,q,hA0,hV,rfl,hfz,hnd⟩:=hW
 have hA:DataW.TrodAll enc Tryd.prog W 0 (fun _=>true) true Tryd.f4.params.toList args.toList ds p:=hA0
 rw[Tryd.params4] at hA hval
 have hA':=hA
 obtain⟨v0,vs0,d0,ds0,p0,q0,hargs,rfl,rfl,h0,r0⟩:=trodAll_cons hA
 obtain⟨v1,vs1,d1,ds1,p1,q1,rfl,rfl,rfl,h1,r1⟩:=trodAll_cons r0
 obtain⟨v2,vs2,d2,ds2,p2,q2,rfl,rfl,rfl,h2,r2⟩:=trodAll_cons r1
 obtain⟨v3,vs3,d3,ds3,p3,q3,rfl,rfl,rfl,h3,r3⟩:=trodAll_cons r2
 obtain⟨rfl,rfl,rfl⟩:=trodAll_nil r3
 obtain rfl:args=#[v0,v1,v2,v3]:=by cases args;simp_all
 obtain⟨rfl,rfl⟩:=trodVars_none hV
 obtain⟨a0,w0,g0⟩:=Aym Tryd.underlying22 A91 (hval 0 22 v0 rfl rfl) h0
 obtain⟨a1,w1,g1⟩:=Ap8 Tryd.underlying34 Ba0 rfl (hval 1 34 v1 rfl rfl) h1
 obtain⟨a2,w2,g2⟩:=Atr Tryd.underlying3 op3 rfl (hval 2 3 v2 rfl rfl) h2
 obtain⟨a3,w3,g3⟩:=Atr Tryd.underlying45 Ba1 rfl (hval 3 45 v3 rfl rfl) h3
 obtain⟨hn,ht⟩:=A5x a0 a1 a2 a3 w0 w1 w3
 have hc:=WI a0 a1 a2 a3 hn
 have hr:Jd a0 a1 a2 a3=.v (.bool true):=by show A.v (.bool (Hl a0 a1 a2 a3))=_;rw[ht]
 rw[hr] at hc
 refine(Avw hc W (A30 hL) [v0,v1,v2,v3] fun F N nx hF=>HL.cons (g0 F N nx hF) (HL.cons (g1 F N nx hF) (HL.cons (g2 F N nx hF) (HL.cons (g3 F N nx hF) (HL.nil))))).mono fun e W' ⟨he,bel⟩=>?_
 subst he
 have hread:∀t∈[22,34,3,45],Tryd.prog.readableRec t=true∧t <Tryd.prog.types.size:=by
  intro t ht
  simp only[List.mem_cons,List.not_mem_nil,or_false] at ht
  rcases ht with rfl|rfl|rfl|rfl
  all_goals exact⟨by kernel_rfl,of_decide_eq_true (by kernel_rfl)⟩
 exact⟨_,rfl,_,_,_,[],_,[],hW',trodAll_mk1 (shut_bool Tryd.underlying4 _),
  Sc bel _ _ _ _ hread hA' (fun x hx=>hlt x (by simpa using hx)),rfl,bel.frame _,fun h=>by cases h⟩
theorem tA:Tryd.prog.funcNamed Rows.wireTurnedRow.func=some 4:=by kernel_rfl
theorem b0:(Rows.wireTurnedRow.wf (OpenSpec.ofChange Rows.wireTurnedSpec))=true:=by kernel_rfl
theorem b1:(laidOutB Tryd.prog)=true:=by kernel_rfl
theorem b2:(mapsRowed Tryd.prog)=true:=by kernel_rfl
theorem b3:(Tryd.f4.params.all (Tryd.prog.readableRec ·))=true:=by kernel_rfl
theorem b4:(namedTie Tryd.prog Rows.wireTurnedRow.named Rows.wireTurnedSpec.vars)=true:=by kernel_rfl
theorem b5:((Rows.wireTurnedRow.stops==[]))=true:=by kernel_rfl
theorem b6:((Tryd.prog.stops==[]))=true:=by kernel_rfl
theorem b7:((Rows.wireTurnedRow.knobs==[]))=true:=by kernel_rfl
theorem b8:((Tryd.prog.stopKnobs==[]))=true:=by kernel_rfl
theorem b9:((Rows.wireTurnedRow.inPlace==Tryd.prog.inPlace 4))=true:=by kernel_rfl
theorem b10:((Rows.wireTurnedRow.unfollowed==Tryd.prog.unfollowed 4))=true:=by kernel_rfl
theorem b11:((Rows.wireTurnedRow.recurses==Tryd.prog.recurses 4))=true:=by kernel_rfl
theorem b12:((Rows.wireTurnedRow.named==Tryd.prog.varsNamed 4))=true:=by kernel_rfl
theorem b13:((Rows.wireTurnedRow.maps==(Tryd.f4.params.toList++Rows.wireTurnedSpec.plain.varTypes Tryd.prog).any (Tryd.prog.mapsRec ·)))=true:=by kernel_rfl
theorem b14:((Rows.wireTurnedRow.ifaces==(Tryd.f4.params.toList++Rows.wireTurnedSpec.plain.varTypes Tryd.prog).any (Tryd.prog.ifacesRec ·)))=true:=by kernel_rfl
theorem b15:((Rows.wireTurnedRow.mapsOut==Tryd.prog.mapsAmong Tryd.f4.resultTypes.toList))=true:=by kernel_rfl
theorem b16:((Rows.wireTurnedRow.loops==(Tryd.f4.params.toList++Rows.wireTurnedSpec.plain.varTypes Tryd.prog).any (Tryd.prog.loopsFrom ·)))=true:=by kernel_rfl
theorem b17:((Rows.wireTurnedRow.wideKeys==(Tryd.f4.params.toList++Rows.wireTurnedSpec.plain.varTypes Tryd.prog++Tryd.f4.resultTypes.toList).any (Tryd.prog.wideKeysFrom ·)))=true:=by kernel_rfl
theorem b18:(Rows.wireTurnedSpec.vars.all (Tryd.prog.varReadable ·))=true:=by kernel_rfl
theorem b19:(Tryd.f4.resultTypes.all (fun t=>Tryd.prog.readableRec t&&decide (t <Tryd.prog.types.size)))=true:=by kernel_rfl
theorem b20:((Rows.wireTurnedRow.ifacesOut==Tryd.f4.resultTypes.toList.any (Tryd.prog.ifacesRec ·)))=true:=by kernel_rfl
theorem b21:((Rows.wireTurnedRow.loopsOut==Tryd.f4.resultTypes.toList.any (Tryd.prog.loopsFrom ·)))=true:=by kernel_rfl
theorem b22:((Rows.wireTurnedRow.plainKeys==Tryd.prog.plainKeys))=true:=by kernel_rfl
theorem b23:(Rows.wireTurnedRow.shortTexts.isNone)=true:=by kernel_rfl
theorem b24:(Tryd.prog.stopsHeard)=true:=by kernel_rfl
theorem b25:(Tryd.prog.mayEnter)=true:=by kernel_rfl
theorem b26:((Rows.wireTurnedRow.lifted==Tryd.prog.liftsFinal))=true:=by kernel_rfl
theorem b27:((Tryd.prog.make==some Rows.wireTurnedRow.make))=true:=by kernel_rfl
theorem b28:((Rows.wireTurnedRow.kinds==(if Rows.wireTurnedRow.domain.isEmpty then[] else Tryd.f4.params.toList.map fun t=>match Tryd.prog.underlying t with|some (.int k)=>some k|_=>none)))=true:=by kernel_rfl
theorem b29:((Rows.wireTurnedRow.pinned==Rows.wireTurnedRow.pinnedBy))=true:=by kernel_rfl
theorem b30:((Rows.wireTurnedRow.veiled==(Tryd.f4.params.toList++Rows.wireTurnedSpec.plain.varTypes Tryd.prog++Tryd.f4.resultTypes.toList).any (Tryd.prog.veiledRec ·)))=true:=by kernel_rfl
theorem b31:(Rows.wireTurnedRow.veiledFits Tryd.prog Tryd.f4.params.toList (Tryd.f4.params.toList++Rows.wireTurnedSpec.plain.varTypes Tryd.prog++Tryd.f4.resultTypes.toList))=true:=by kernel_rfl
theorem HX {a b:Bool} (h:a=true) (g:b=true):(a&&b)=true:=by rw[h,g];rfl
theorem tB:joinedFacts Tryd.prog 4 Tryd.f4 Rows.wireTurnedSpec Rows.wireTurnedRow=true:=by
 unfold joinedFacts
 exact(HX (HX (HX (HX (HX (HX (HX (HX (HX (HX (HX (HX (HX (HX (HX (HX (HX (HX (HX (HX (HX (HX (HX (HX (HX (HX (HX (HX (HX (HX (HX b0 b1) b2) b3) b4) b5) b6) b7) b8) b9) b10) b11) b12) b13) b14) b15) b16) b17) b18) b19) b20) b21) b22) b23) b24) b25) b26) b27) b28) b29) b30) b31)
theorem tC:Tryd.f4.isInstance Tryd.prog Rows.wireTurnedRow.origin Rows.wireTurnedRow.targs:=of_decide_eq_true (by kernel_rfl)
theorem tD0:decide (Check.packageOf Tryd.f4.name= "main")=false:=by kernel_rfl
theorem tD:Tryd.f4.isWrapper Tryd.prog Rows.wireTurnedRow.wrapper Rows.wireTurnedRow.mainSum:=by
 unfold Func.isWrapper
 rw[if_neg (of_decide_eq_false tD0)]
 exact⟨rfl,rfl⟩
theorem over:Rows.wireTurnedRow.holds Tryd.pinned (OpenSpec.ofChange Rows.wireTurnedSpec):=
 OpenClaim.holds_of_wide 4 Tryd.f4 rfl rfl rfl rfl rfl rfl rfl ⟨rfl,rfl,rfl,rfl,rfl⟩ rfl rfl rfl rfl rfl tA Tryd.func4 tB tC tD
  (fun os started H enc _=>lifted os started H enc)
theorem proved:Rows.WireTurnedCardSaid:=
 Claim7.holds_tied_plain_at .later [] [.data] true (true,"b7e3c53d803a3030933549e91460946446ac0896065c4cb6b58d0d73ac0e6dc3") false
  over (fun _ h=>by cases h) (by kernel_rfl) (fun _ h=>by cases h) wireTurned_row_tie rfl ⟨rfl,rfl⟩ (by kernel_rfl) rfl
  (fun f fn hf hfn=>by
   obtain rfl:f=4:=Option.some.inj ((show Tryd.prog.funcNamed "gemel/gemellaw14.WireTurned" =some 4 by kernel_rfl).symm.trans hf) |>.symm
   obtain rfl:fn=Tryd.f4:=(Option.some.inj (Tryd.func4.symm.trans hfn)).symm
   exact⟨by kernel_rfl,fun j t ht=>by
    rw[Tryd.params4] at ht
    have hm:t∈[22,34,3,45]:=by simpa using Array.mem_of_getElem? ht
    have hall:([22,34,3,45].all fun u=>!Tryd.prog.wantsStandIn u)=true:=by kernel_rfl
    exact(show Tryd.prog.wantsStandIn t=false by simpa using List.all_eq_true.1 hall t hm)⟩)
  (by kernel_rfl)
end Go.Proofs.YtifkbgkbajncjaaDoor.wireTurned
