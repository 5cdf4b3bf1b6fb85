/- made by a program (rowgen.py): WireEncodes: for every input the law returns true, and each argument reads behind the call as it read before. -/
import Derived.Test.YtifkbgkbajncjaaGreatDoorKWed

set_option maxRecDepth 100000
namespace Go.Proofs.YtifkbgkbajncjaaGreatDoor
open Go.RowKit
def Px (a0:Int):Bool:=!(decide (a0 <(0:Int))||decide (a0 >(4611686018427387903:Int)))&&(!decide (a0≥(1073741824:Int))&&decide (a0≥(16384:Int)))
def Pw (a0:Int):Bool:=!(decide (a0 <(0:Int))||decide (a0 >(4611686018427387903:Int)))&&(!decide (a0≥(1073741824:Int))&&(!decide (a0≥(16384:Int))&&decide (a0≥(64:Int))))
def U2 (a0:Int):Bool:=!(decide (a0 <(0:Int))||decide (a0 >(4611686018427387903:Int)))&&(!(!(decide (a0 <(0:Int))||decide (a0 >(4611686018427387903:Int)))&&decide (a0≥(1073741824:Int)))&&(!(Px a0)&&!(Pw a0)))
def AN (a0:Int):Int:=bif !(!(decide (a0 <(0:Int))||decide (a0 >(4611686018427387903:Int)))&&decide (a0≥(1073741824:Int)))&&(!(Px a0)&&(!(Pw a0)&&!(U2 a0))) then(0:Int) else IntKind.i64.wrap ((bif(U2 a0) then(0:Int) else IntKind.i64.wrap ((bif(Pw a0) then(0:Int) else IntKind.i64.wrap ((bif(Px a0) then(0:Int) else(4:Int))+(2:Int)))+(1:Int)))+(1:Int))
def YT (a0:Int):A:=.v (.int .i64 (AN a0))
def YS (_a0:Int):Objs:=[]
def U3 (_a0:Int):List Prop:=[]
theorem A7c (a0:Int):Hz (As C0 L0) 9 51 [Ai .i64 a0] 0 []=some (1,YT a0,0,YS a0,U3 a0):=by kernel_rfl
theorem Bb8 (a0:Int) (hp:∀p∈U3 a0,p):CallOk Tryz.prog 51 [Ai .i64 a0] 0 [] 1 (YT a0) 0 (YS a0):=AB (Ar Bem AA) (A7c a0) hp
def Aqh:List A→Nat→Objs→Option A6:=Bt [.t .i64] 0 YT YS U3
theorem A10:HF Tryz.prog 51 Aqh:=Av (ks:=[.t .i64]) Bb8
noncomputable def Bju:=AS 51 Aqh C0
theorem Az4:Cr Tryz.prog Bju:=An A10 Bem
abbrev DP:Type:=Int×Int×Int×Int×(List UInt8)
def Nu (x:DP):St:=⟨59,2,[(1,.v (.int .i64 x.1)),(5,.sq 1),(6,.v (.int .i64 x.2.1)),(16,.v (.int .i64 x.2.2.1)),(17,.v (.int .i64 x.2.2.2.1))],[(1,some (.arr 5 1 (.ty .u8 x.2.2.2.2)))]⟩
def P4:St→Option DP
 |⟨59,2,[(1,.v (.int .i64 z0)),(5,.sq 1),(6,.v (.int .i64 z1)),(16,.v (.int .i64 z2)),(17,.v (.int .i64 z3))],[(1,some (.arr 5 1 (.ty .u8 z4)))]⟩=>some (z0,z1,z2,z3,z4)
 |_=>none
theorem Alo:∀s x,P4 s=some x→s=Nu x:=fun s x h=>by
 unfold P4 at h
 split at h
 ·cases h;rfl
 ·cases h
def Abz:Cz:=⟨1,2,[1,5,6,16,17],[],[(3,1)],[3],[5],[1]⟩
def A1z:CX:=⟨[],[(0,1)],[1,5,6,16,17],[0]⟩
def Iz (a0:Int) (a1:Int) (_a2:Int) (a3:Int) (_a4:List UInt8):Int:=IntKind.u8.wrap (a0.fdiv ((2:Int)^min (IntKind.u64.wrap (IntKind.i64.wrap ((8:Int)*IntKind.i64.wrap (IntKind.i64.wrap (a1 - (1:Int)) - a3)))).toNat (64:Nat)))
def Aqd (a0:Int) (a1:Int) (a2:Int) (a3:Int) (a4:List UInt8):List UInt8:=a4++[UInt8.ofNat (Iz a0 a1 a2 a3 a4).toNat]
def FH (x:DP):DP:=(x.1,x.2.1,x.2.2.1,IntKind.i64.wrap (x.2.2.2.1+(1:Int)),Aqd x.1 x.2.1 x.2.2.1 x.2.2.2.1 x.2.2.2.2)
def FG (x:DP):Cnd:=some (!!decide (x.2.2.2.1 <x.2.2.1))
def U0 (x:DP):List Prop:=[((!!decide (x.2.2.2.1 <x.2.2.1))=true→(0:Int)≤IntKind.u64.wrap (IntKind.i64.wrap ((8:Int)*IntKind.i64.wrap (IntKind.i64.wrap (x.2.1 - (1:Int)) - x.2.2.2.1)))),((!!decide (x.2.2.2.1 <x.2.2.1))=true→Ad (x.2.2.2.2.length+(1:Nat))),((!!decide (x.2.2.2.1 <x.2.2.1))=true→(0:Int)≤(Iz x.1 x.2.1 x.2.2.1 x.2.2.2.1 x.2.2.2.2)∧(Iz x.1 x.2.1 x.2.2.1 x.2.2.2.1 x.2.2.2.2) <(256:Int))]
def IG (x:DP):List Prop:=[((!!decide (x.2.2.2.1 <x.2.2.1))=true→Ad (x.2.2.2.2.length+(1:Nat)))]
def Td (x:DP):AR:=[(some 0,some (!decide (x.2.2.2.1 <x.2.2.1)),⟨59,2,[(5,.sq 1)],[(1,some (.arr 5 1 (.ty .u8 x.2.2.2.2)))]⟩)]
def Hi (x:DP):Nat:=(x.2.2.1 - x.2.2.2.1).toNat
def Oi (x:DP):DP:=AF FH FG (Hi x) x
theorem Avm (a0:Int) (a1:Int) (a2:Int) (a3:Int) (a4:List UInt8):Ba (As Bju L0) 9 (Ag Tryz.prog 18 0) Abz (Nu (a0,a1,a2,a3,a4))=some (U0 (a0,a1,a2,a3,a4),Td (a0,a1,a2,a3,a4),FG (a0,a1,a2,a3,a4),Nu (FH (a0,a1,a2,a3,a4))):=by kernel_rfl
theorem Avn (a0:Int) (a1:Int) (a2:Int) (a3:Int) (a4:List UInt8) (hp:∀p∈IG (a0,a1,a2,a3,a4),p):∀p∈U0 (a0,a1,a2,a3,a4),p:=by
 have n0:((!!decide (a3 <a2))=true→(0:Int)≤IntKind.u64.wrap (IntKind.i64.wrap ((8:Int)*IntKind.i64.wrap (IntKind.i64.wrap (a1 - (1:Int)) - a3)))):=by intros;exact Bhm _
 have n1:=N0 hp
 have n2:((!!decide (a3 <a2))=true→(0:Int)≤(Iz a0 a1 a2 a3 a4)∧(Iz a0 a1 a2 a3 a4) <(256:Int)):=by intros;exact M6 _
 exact(Aa n0 (Aa n1 (Aa n2 Af)))
noncomputable def U1:=HB (As Bju L0) (Ag Tryz.prog 18 0) Abz A1z P4 Hi FH FG IG Td
theorem Aqe:∀s b ps outs,U1 s=some (b,ps,outs)→Wf s ⟨ps,outs,none⟩∧Bg (As C0 L0) b s ps outs:=
 AT (T:=Nu) Az4 AA (u:=9) (by kernel_rfl) (by decide) (fun⟨a0,a1,a2,a3,a4⟩=>Avm a0 a1 a2 a3 a4) (fun⟨a0,a1,a2,a3,a4⟩=>Avn a0 a1 a2 a3 a4) Alo (fun _=>AD (n:=59) rfl) fun _ _=>rfl
noncomputable def Aby:=Dd 0 U1 L0
theorem Aqc:G9 Aby:=AH Aqe AA
def GZ (_a0:List UInt8) (a1:Int):Bool:=AN a1==(8:Int)
def Br (_a0:List UInt8) (a1:Int):Bool:=AN a1==(4:Int)
def AJ (_a0:List UInt8) (a1:Int):Bool:=AN a1==(2:Int)
def Az (a0:List UInt8) (_a1:Int):Int:=(↑([]++a0).length:Int)
def AG (a0:List UInt8) (a1:Int):List UInt8:=(Oi (a1,AN a1,AN a1,(0:Int),[]++a0)).snd.snd.snd.snd
def Lw (a0:List UInt8) (a1:Int):Int:=IntKind.u8.wrap (↑(BitVec.ofInt (8:Nat) (↑(UInt8.toNat ((AG a0 a1).getD (Az a0 a1).toNat (Ae TC.u8))):Int) ||| BitVec.ofInt (8:Nat) (192:Int)).toNat:Int)
def Lv (a0:List UInt8) (a1:Int):Int:=IntKind.u8.wrap (↑(BitVec.ofInt (8:Nat) (↑(UInt8.toNat ((AG a0 a1).getD (Az a0 a1).toNat (Ae TC.u8))):Int) ||| BitVec.ofInt (8:Nat) (128:Int)).toNat:Int)
def Lu (a0:List UInt8) (a1:Int):Int:=IntKind.u8.wrap (↑(BitVec.ofInt (8:Nat) (↑(UInt8.toNat ((AG a0 a1).getD (Az a0 a1).toNat (Ae TC.u8))):Int) ||| BitVec.ofInt (8:Nat) (64:Int)).toNat:Int)
def Afm (a0:List UInt8) (a1:Int):List UInt8:=bif(AJ a0 a1) then(AG a0 a1).set (Az a0 a1).toNat (UInt8.ofNat (Lu a0 a1).toNat) else bif(Br a0 a1) then(AG a0 a1).set (Az a0 a1).toNat (UInt8.ofNat (Lv a0 a1).toNat) else bif(GZ a0 a1) then(AG a0 a1).set (Az a0 a1).toNat (UInt8.ofNat (Lw a0 a1).toNat) else(AG a0 a1)
def Aym (_a0:List UInt8) (_a1:Int):A:=.sq 0
def WB (a0:List UInt8) (a1:Int):Objs:=[(0,some (.arr 5 1 (.ty .u8 (Afm a0 a1))))]
def Aqf (a0:List UInt8) (a1:Int):List Prop:=[(Ad ((0:Nat)+a0.length)),(Ax FH FG IG (Hi (a1,AN a1,AN a1,(0:Int),[]++a0)) (a1,AN a1,AN a1,(0:Int),[]++a0)),((AJ a0 a1)=true→(0:Int)≤(Az a0 a1)∧(Az a0 a1) <(↑(AG a0 a1).length:Int)),((AJ a0 a1)=false→(Br a0 a1)=true→(0:Int)≤(Az a0 a1)∧(Az a0 a1) <(↑(AG a0 a1).length:Int)),((AJ a0 a1)=false→(Br a0 a1)=false→(GZ a0 a1)=true→(0:Int)≤(Az a0 a1)∧(Az a0 a1) <(↑(AG a0 a1).length:Int))]
theorem Bb7 (a0:List UInt8) (a1:Int):Hz (As Bju Aby) 9 18 [Ai .bytes a0,Ai .i64 a1] 0 []=some (1,Aym a0 a1,1,WB a0 a1,[(Ad ((0:Nat)+a0.length)),(Ag Tryz.prog (18:FuncId) (0:Nat)=Ag Tryz.prog (18:FuncId) (0:Nat)),(Ax FH FG IG (Hi (a1,AN a1,AN a1,(0:Int),[]++a0)) (a1,AN a1,AN a1,(0:Int),[]++a0)),((AJ a0 a1)=true→(0:Int)≤(Az a0 a1)∧(Az a0 a1) <(↑(AG a0 a1).length:Int)),((AJ a0 a1)=true→(Az a0 a1).toNat <(AG a0 a1).length),((AJ a0 a1)=true→(0:Int)≤(Az a0 a1)∧(Az a0 a1) <(↑(AG a0 a1).length:Int)),((AJ a0 a1)=true→(Az a0 a1).toNat <(AG a0 a1).length),((AJ a0 a1)=true→(0:Int)≤(Lu a0 a1)∧(Lu a0 a1) <(256:Int)),((AJ a0 a1)=false→(Br a0 a1)=true→(0:Int)≤(Az a0 a1)∧(Az a0 a1) <(↑(AG a0 a1).length:Int)),((AJ a0 a1)=false→(Br a0 a1)=true→(Az a0 a1).toNat <(AG a0 a1).length),((AJ a0 a1)=false→(Br a0 a1)=true→(0:Int)≤(Az a0 a1)∧(Az a0 a1) <(↑(AG a0 a1).length:Int)),((AJ a0 a1)=false→(Br a0 a1)=true→(Az a0 a1).toNat <(AG a0 a1).length),((AJ a0 a1)=false→(Br a0 a1)=true→(0:Int)≤(Lv a0 a1)∧(Lv a0 a1) <(256:Int)),((AJ a0 a1)=false→(Br a0 a1)=false→(GZ a0 a1)=true→(0:Int)≤(Az a0 a1)∧(Az a0 a1) <(↑(AG a0 a1).length:Int)),((AJ a0 a1)=false→(Br a0 a1)=false→(GZ a0 a1)=true→(Az a0 a1).toNat <(AG a0 a1).length),((AJ a0 a1)=false→(Br a0 a1)=false→(GZ a0 a1)=true→(0:Int)≤(Az a0 a1)∧(Az a0 a1) <(↑(AG a0 a1).length:Int)),((AJ a0 a1)=false→(Br a0 a1)=false→(GZ a0 a1)=true→(Az a0 a1).toNat <(AG a0 a1).length),((AJ a0 a1)=false→(Br a0 a1)=false→(GZ a0 a1)=true→(0:Int)≤(Lw a0 a1)∧(Lw a0 a1) <(256:Int))]):=by kernel_rfl
theorem Bin (a0:List UInt8) (a1:Int) (hp:∀p∈Aqf a0 a1,p):CallOk Tryz.prog 18 [Ai .bytes a0,Ai .i64 a1] 0 [] 1 (Aym a0 a1) 1 (WB a0 a1):=by
 have n0:=N0 hp
 have n2:=N0 (N1 hp)
 have n3:((AJ a0 a1)=true→(0:Int)≤(Az a0 a1)∧(Az a0 a1) <(↑(AG a0 a1).length:Int)):=N0 (N1 (N1 hp))
 have n4:((AJ a0 a1)=true→(Az a0 a1).toNat <(AG a0 a1).length):=by intro h0;have g:=n3 h0;omega
 have n7:((AJ a0 a1)=true→(0:Int)≤(Lu a0 a1)∧(Lu a0 a1) <(256:Int)):=by intros;exact M6 _
 have n8:((AJ a0 a1)=false→(Br a0 a1)=true→(0:Int)≤(Az a0 a1)∧(Az a0 a1) <(↑(AG a0 a1).length:Int)):=N0 (N1 (N1 (N1 hp)))
 have n9:((AJ a0 a1)=false→(Br a0 a1)=true→(Az a0 a1).toNat <(AG a0 a1).length):=by intro h0 h1;have g:=n8 h0 h1;omega
 have n12:((AJ a0 a1)=false→(Br a0 a1)=true→(0:Int)≤(Lv a0 a1)∧(Lv a0 a1) <(256:Int)):=by intros;exact M6 _
 have n13:((AJ a0 a1)=false→(Br a0 a1)=false→(GZ a0 a1)=true→(0:Int)≤(Az a0 a1)∧(Az a0 a1) <(↑(AG a0 a1).length:Int)):=N0 (N1 (N1 (N1 (N1 hp))))
 have n14:((AJ a0 a1)=false→(Br a0 a1)=false→(GZ a0 a1)=true→(Az a0 a1).toNat <(AG a0 a1).length):=by intro h0 h1 h2;have g:=n13 h0 h1 h2;omega
 have n17:((AJ a0 a1)=false→(Br a0 a1)=false→(GZ a0 a1)=true→(0:Int)≤(Lw a0 a1)∧(Lw a0 a1) <(256:Int)):=by intros;exact M6 _
 exact AB (Ar Az4 Aqc) (Bb7 a0 a1) (Aa n0 (Aa rfl (Aa n2 (Aa n3 (Aa n4 (Aa n3 (Aa n4 (Aa n7 (Aa n8 (Aa n9 (Aa n8 (Aa n9 (Aa n12 (Aa n13 (Aa n14 (Aa n13 (Aa n14 (Aa n17 Af))))))))))))))))))
def Aqg (_a0:List UInt8) (_a1:Int):A:=.sq 0
def Su (a0:List UInt8) (a1:Int):Objs:=[(0,some (.arr 5 1 (.ty .u8 (a0++Ap a1))))]
def Ah4 (a0:List UInt8) (_a1:Int):List Prop:=[Ad (a0.length+8)]
theorem A3h (n:Int):AN n=(Ed n:Int):=by
 unfold AN U2 Pw Px Ed
 by_cases h0:n <0∨n >4611686018427387903
 ·have e:(decide (n <0)||decide (n >4611686018427387903))=true:=by simpa using h0
  rw[e,if_pos h0];rfl
 ·have e:(decide (n <0)||decide (n >4611686018427387903))=false:=by
   rw[Bool.eq_false_iff]
   intro hh
   exact h0 (by simpa using hh)
  rw[e,if_neg h0]
  by_cases h1:n≥1073741824
  ·rw[if_pos h1,decide_eq_true h1];rfl
  ·rw[if_neg h1,decide_eq_false h1]
   by_cases h2:n≥16384
   ·rw[if_pos h2,decide_eq_true h2];rfl
   ·rw[if_neg h2,decide_eq_false h2]
    by_cases h3:n≥64
    ·rw[if_pos h3,decide_eq_true h3];rfl
    ·rw[if_neg h3,decide_eq_false h3];rfl
theorem RK (n:Int):Ed n=0∨(0≤n∧n≤4611686018427387903∧szs (Ed n)):=by
 by_cases h:n <0∨n >4611686018427387903
 ·left;unfold Ed;rw[if_pos h]
 ·right;exact⟨by omega,by omega,(Bny (by omega) (by omega)).1⟩
theorem Bng (b:List UInt8) (n:Int) (hb:Ad (b.length+8)):
  Ax FH FG IG (Hi (n,AN n,AN n,0,[]++b)) (n,AN n,AN n,0,[]++b)∧
  (Oi (n,AN n,AN n,0,[]++b)).2.2.2.2=b++be (Ed n) n.toNat:=by
 have hk8:Ed n≤8:=by
  rcases RK n with h|⟨_,_,h⟩
  ·omega
  ·unfold szs at h;omega
 rw[A3h]
 obtain⟨h1,⟨i,hi,h2⟩,h3⟩:=Abp (next:=FH) (goes:=FG) (ps:=IG)
  (fun x=>∃i:Nat,i≤Ed n∧x=(n,(Ed n:Int),(Ed n:Int),(i:Int),b++(be (Ed n) n.toNat).take i)) Hi (by
   rintro x ⟨i,hi,rfl⟩
   refine⟨Aa (fun hp=>?_) Af,fun hg=>?_⟩
   ·have h':(!!decide ((i:Int) <(Ed n:Int)))=true:=hp
    have hlt:i <Ed n:=by simpa using h'
    show Ad ((b++(be (Ed n) n.toNat).take i).length+1)
    unfold Ad at*
    rw[List.length_append,List.length_take,QD]
    omega
   ·have h':(!!decide ((i:Int) <(Ed n:Int)))=true:=hg
    have hlt:i <Ed n:=by simpa using h'
    have hw:IntKind.i64.wrap ((i:Int)+1)=((i+1:Nat):Int):=by rw[i64_in (by omega)];rfl
    have hn0:0≤n:=by rcases RK n with h|⟨h,_⟩<;>omega
    refine⟨⟨i+1,hlt,?_⟩,?_⟩
    ·show(n,(Ed n:Int),(Ed n:Int),IntKind.i64.wrap ((i:Int)+1),(b++(be (Ed n) n.toNat).take i)++[UInt8.ofNat (IntKind.u8.wrap (n.fdiv ((2:Int)^min (IntKind.u64.wrap (IntKind.i64.wrap ((8:Int)*IntKind.i64.wrap (IntKind.i64.wrap ((Ed n:Int) - (1:Int)) - (i:Int))))).toNat (64:Nat)))).toNat])=_
     rw[hw,Bnf hn0 hk8 hlt,List.append_assoc,←Bfi hlt]
    ·show((Ed n:Int) - IntKind.i64.wrap ((i:Int)+1)).toNat <((Ed n:Int) - (i:Int)).toNat
     rw[hw]
     omega) _ (n,(Ed n:Int),(Ed n:Int),0,[]++b) ⟨0,Nat.zero_le _,by simp⟩ (Nat.le_refl _)
 refine⟨h1,?_⟩
 have h4:Oi (n,(Ed n:Int),(Ed n:Int),0,[]++b)=_:=h2
 rw[h2] at h3
 have h3':(!!decide ((i:Int) <(Ed n:Int)))=false:=h3
 have hn:¬((i:Int) <(Ed n:Int)):=by simpa using h3'
 obtain rfl:i=Ed n:=by omega
 rw[h4,List.take_of_length_le (by rw[QD];exact Nat.le_refl _)]
theorem Bb6 (b:List UInt8) (n:Int) (hb:Ad (b.length+8)):(∀p∈Aqf b n,p)∧Afm b n=b++Ap n:=by
 obtain⟨h1,h2⟩:=Bng b n hb
 have h3:AG b n=b++be (Ed n) n.toNat:=h2
 have h4:(Az b n).toNat=b.length:=rfl
 have hS:=A3h n
 have hlen:(b++be (Ed n) n.toNat).length=b.length+Ed n:=by rw[List.length_append,QD]
 have hpos:Ed n≠0→(0:Int)≤Az b n∧Az b n <((AG b n).length:Int):=fun h0=>by
  rw[h3,hlen]
  show(0:Int)≤(b.length:Int)∧(b.length:Int) <((b.length+Ed n:Nat):Int)
  omega
 have sz2:∀c:Int,c≠0→(AN n==c)=true→Ed n≠0:=fun c hc h h0=>by
  rw[hS,h0] at h
  have h':(0:Int)=c:=by simpa using h
  exact hc h'.symm
 refine⟨Aa (by unfold Ad at*;omega) (Aa h1 (Aa (fun h=>hpos (sz2 2 (by decide) h)) (Aa (fun _ h=>hpos (sz2 4 (by decide) h)) (Aa (fun _ _ h=>hpos (sz2 8 (by decide) h)) Af)))),?_⟩
 unfold Afm
 rw[h3,h4]
 have k7:AJ b n=((Ed n:Int)==2):=by show(AN n==2)=_;rw[hS]
 have k6:Br b n=((Ed n:Int)==4):=by show(AN n==4)=_;rw[hS]
 have k5:GZ b n=((Ed n:Int)==8):=by show(AN n==8)=_;rw[hS]
 have b1:Lu b n=IntKind.u8.wrap ((BitVec.ofInt 8 ((((b++be (Ed n) n.toNat).getD b.length (Ae TC.u8)).toNat:Nat):Int) ||| BitVec.ofInt 8 ((64*1:Nat):Int)).toNat:Int):=by rw[←h3,←h4];rfl
 have b0:Lv b n=IntKind.u8.wrap ((BitVec.ofInt 8 ((((b++be (Ed n) n.toNat).getD b.length (Ae TC.u8)).toNat:Nat):Int) ||| BitVec.ofInt 8 ((64*2:Nat):Int)).toNat:Int):=by rw[←h3,←h4];rfl
 have b2:Lw b n=IntKind.u8.wrap ((BitVec.ofInt 8 ((((b++be (Ed n) n.toNat).getD b.length (Ae TC.u8)).toNat:Nat):Int) ||| BitVec.ofInt 8 ((64*3:Nat):Int)).toNat:Int):=by rw[←h3,←h4];rfl
 rw[k7,k6,k5,b1,b0,b2]
 unfold Ap
 rcases RK n with hz|⟨g1,g2,g3⟩
 ·rw[hz];rfl
 ·have hN:=(Bny g1 g2).2
  generalize hk:Ed n=k at*
  rcases g3 with rfl|rfl|rfl|rfl
  ·show b++be 1 n.toNat=b++be 1 (n.toNat+0*(64*256^0))
   rw[Nat.zero_mul,Nat.add_zero]
  ·exact A3g (m:=1) (t:=1) b hN (by decide) _
  ·exact A3g (m:=3) (t:=2) b hN (by decide) _
  ·exact A3g (m:=7) (t:=3) b hN (by decide) _
theorem Bb5 (a0:List UInt8) (a1:Int) (hp:∀p∈Ah4 a0 a1,p):CallOk Tryz.prog 18 [Ai .bytes a0,Ai .i64 a1] 0 [] 1 (Aqg a0 a1) 1 (Su a0 a1):=by
 obtain⟨h1,h2⟩:=Bb6 a0 a1 (hp _ (List.mem_cons_self ..))
 have h:=Bin a0 a1 h1
 have ho:WB a0 a1=Su a0 a1:=by unfold WB Su;rw[h2]
 rw[ho] at h
 exact h
def Ayn:List A→Nat→Objs→Option A6:=Bt [.t .bytes,.t .i64] 1 Aqg Su Ah4
theorem A7b:HF Tryz.prog 18 Ayn:=Av (ks:=[.t .bytes,.t .i64]) Bb5
noncomputable def Bjv:=AS 18 Ayn Bju
theorem Az5:Cr Tryz.prog Bjv:=An A7b Az4
abbrev DO:Type:=Int×(List UInt8)×Int×Int
def Nt (x:DO):St:=⟨46,0,[(6,.v (.int .i64 x.1)),(28,.sl .u8 x.2.1),(29,.v (.int .i64 x.2.2.1)),(30,.v (.int .i64 x.2.2.2))],[]⟩
def P3:St→Option DO
 |⟨46,0,[(6,.v (.int .i64 z0)),(28,.sl .u8 z1),(29,.v (.int .i64 z2)),(30,.v (.int .i64 z3))],[]⟩=>some (z0,z1,z2,z3)
 |_=>none
theorem Alm:∀s x,P3 s=some x→s=Nt x:=fun s x h=>by
 unfold P3 at h
 split at h
 ·cases h;rfl
 ·cases h
def Abx:Cz:=⟨0,0,[6,28,29,30],[],[],[],[6],[]⟩
def A1y:CX:=⟨[],[],[6,28,29,30],[]⟩
def Ap7 (a0:Int) (a1:List UInt8) (_a2:Int) (a3:Int):Int:=IntKind.i64.wrap (↑(BitVec.ofInt (64:Nat) (IntKind.i64.wrap (a0*(256:Int))) ||| BitVec.ofInt (64:Nat) (IntKind.i64.wrap (↑(UInt8.toNat (a1.getD a3.toNat (Ae TC.u8))):Int))).toNat:Int)
def FF (x:DO):DO:=(Ap7 x.1 x.2.1 x.2.2.1 x.2.2.2,x.2.1,x.2.2.1,IntKind.i64.wrap (x.2.2.2+(1:Int)))
def FE (x:DO):Cnd:=some (!!decide (x.2.2.2 <x.2.2.1))
def Oh (x:DO):List Prop:=[((!!decide (x.2.2.2 <x.2.2.1))=true→(0:Int)≤x.2.2.2∧x.2.2.2 <(↑x.2.1.length:Int))]
abbrev IF:DO→List Prop:=Oh
def Tb (x:DO):AR:=[(some 0,some (!decide (x.2.2.2 <x.2.2.1)),⟨46,0,[(6,.v (.int .i64 x.1))],[]⟩)]
def Hh (x:DO):Nat:=(x.2.2.1 - x.2.2.2).toNat
def KR (x:DO):DO:=AF FF FE (Hh x) x
theorem Avj (a0:Int) (a1:List UInt8) (a2:Int) (a3:Int):Ba (As Bjv L0) 9 (Ag Tryz.prog 77 0) Abx (Nt (a0,a1,a2,a3))=some (Oh (a0,a1,a2,a3),Tb (a0,a1,a2,a3),FE (a0,a1,a2,a3),Nt (FF (a0,a1,a2,a3))):=by kernel_rfl
theorem Avk (a0:Int) (a1:List UInt8) (a2:Int) (a3:Int) (hp:∀p∈IF (a0,a1,a2,a3),p):∀p∈Oh (a0,a1,a2,a3),p:=hp
noncomputable def UW:=HB (As Bjv L0) (Ag Tryz.prog 77 0) Abx A1y P3 Hh FF FE IF Tb
theorem Ap8:∀s b ps outs,UW s=some (b,ps,outs)→Wf s ⟨ps,outs,none⟩∧Bg (As C0 L0) b s ps outs:=
 AT (T:=Nt) Az5 AA (u:=9) (by kernel_rfl) (by decide) (fun⟨a0,a1,a2,a3⟩=>Avj a0 a1 a2 a3) (fun⟨a0,a1,a2,a3⟩=>Avk a0 a1 a2 a3) Alm (fun _=>AD (n:=46) rfl) fun _ _=>rfl
noncomputable def Abw:=Dd 0 UW L0
theorem Ap6:G9 Abw:=AH Ap8 AA
def HA (a0:List UInt8):Int:=(↑(UInt8.toNat (a0.getD (0:Nat) (Ae TC.u8))):Int)
def BZ (a0:List UInt8):Bool:=(↑a0.length:Int)==(0:Int)
def GY (a0:List UInt8):Int:=IntKind.i64.wrap ((1:Int)*(2:Int)^min ((HA a0).fdiv (64:Int)).toNat (64:Nat))
def Ek (a0:List UInt8):List UInt8:=List.take ((GY a0).toNat - (1:Nat)) (List.drop (1:Nat) a0)
def FD (a0:List UInt8):Bool:=decide ((↑a0.length:Int) <(GY a0))
def Og (a0:List UInt8):Bool:=decide (AN (KR (IntKind.i64.wrap (IntKind.u8.wrap (↑(BitVec.ofInt (8:Nat) (HA a0) &&& BitVec.ofInt (8:Nat) (63:Int)).toNat:Int)),(Ek a0),(↑(Ek a0).length:Int),(0:Int))).fst <(GY a0))
def Afj (a0:List UInt8):Int:=bif(BZ a0) then(0:Int) else bif(FD a0) then(0:Int) else bif(Og a0) then(0:Int) else(KR (IntKind.i64.wrap (IntKind.u8.wrap (↑(BitVec.ofInt (8:Nat) (HA a0) &&& BitVec.ofInt (8:Nat) (63:Int)).toNat:Int)),(Ek a0),(↑(Ek a0).length:Int),(0:Int))).fst
def Afk (a0:List UInt8):Int:=bif(BZ a0) then(0:Int) else bif(FD a0) then(0:Int) else bif(Og a0) then(0:Int) else(GY a0)
def Afl (a0:List UInt8):Int:=bif(BZ a0) then(10:Int) else bif(FD a0) then(10:Int) else bif(Og a0) then(11:Int) else(0:Int)
def WA (a0:List UInt8):A:=.v (.tuple ⟨[.int .i64 (Afj a0),.int .i64 (Afk a0),.int .i64 (Afl a0)]⟩)
def Ayk (_a0:List UInt8):Objs:=[]
def Aqa (a0:List UInt8):List Prop:=[((!(BZ a0))=true→(0:Int)≤(0:Int)∧(0:Int) <(↑a0.length:Int)),((!(BZ a0))=true→(0:Int)≤(HA a0).fdiv (64:Int)),((!(BZ a0))=true→(!(FD a0))=true→(0:Int)≤(0:Int)∧(0:Int) <(↑a0.length:Int)),((!(BZ a0))=true→(!(FD a0))=true→(0:Int)≤(1:Int)∧(1:Int)≤(GY a0)∧(GY a0)≤(↑a0.length:Int)),((!(BZ a0))=true→(!(FD a0))=true→Ax FF FE IF (Hh (IntKind.i64.wrap (IntKind.u8.wrap (↑(BitVec.ofInt (8:Nat) (HA a0) &&& BitVec.ofInt (8:Nat) (63:Int)).toNat:Int)),(Ek a0),(↑(Ek a0).length:Int),(0:Int))) (IntKind.i64.wrap (IntKind.u8.wrap (↑(BitVec.ofInt (8:Nat) (HA a0) &&& BitVec.ofInt (8:Nat) (63:Int)).toNat:Int)),(Ek a0),(↑(Ek a0).length:Int),(0:Int)))]
theorem Bb4 (a0:List UInt8):Hz (As Bjv Abw) 9 77 [Ai .bytes a0] 0 []=some (1,WA a0,0,Ayk a0,[((!(BZ a0))=true→(0:Int)≤(0:Int)∧(0:Int) <(↑a0.length:Int)),((!(BZ a0))=true→(0:Int)≤(HA a0).fdiv (64:Int)),((!(BZ a0))=true→(!(FD a0))=true→(0:Int)≤(0:Int)∧(0:Int) <(↑a0.length:Int)),((!(BZ a0))=true→(!(FD a0))=true→(0:Int)≤(1:Int)∧(1:Int)≤(GY a0)∧(GY a0)≤(↑a0.length:Int)),((!(BZ a0))=true→(!(FD a0))=true→Ag Tryz.prog (77:FuncId) (0:Nat)=Ag Tryz.prog (77:FuncId) (0:Nat)),((!(BZ a0))=true→(!(FD a0))=true→Ax FF FE IF (Hh (IntKind.i64.wrap (IntKind.u8.wrap (↑(BitVec.ofInt (8:Nat) (HA a0) &&& BitVec.ofInt (8:Nat) (63:Int)).toNat:Int)),(Ek a0),(↑(Ek a0).length:Int),(0:Int))) (IntKind.i64.wrap (IntKind.u8.wrap (↑(BitVec.ofInt (8:Nat) (HA a0) &&& BitVec.ofInt (8:Nat) (63:Int)).toNat:Int)),(Ek a0),(↑(Ek a0).length:Int),(0:Int)))]):=by kernel_rfl
theorem Bim (a0:List UInt8) (hp:∀p∈Aqa a0,p):CallOk Tryz.prog 77 [Ai .bytes a0] 0 [] 1 (WA a0) 0 (Ayk a0):=by
 have n0:=N0 hp
 have n1:=N0 (N1 hp)
 have n2:=N0 (N1 (N1 hp))
 have n3:=N0 (N1 (N1 (N1 hp)))
 have n4:((!(BZ a0))=true→(!(FD a0))=true→Ag Tryz.prog (77:FuncId) (0:Nat)=Ag Tryz.prog (77:FuncId) (0:Nat)):=by intros;rfl
 have n5:=N0 (N1 (N1 (N1 (N1 hp))))
 exact AB (Ar Az5 Ap6) (Bb4 a0) (Aa n0 (Aa n1 (Aa n2 (Aa n3 (Aa n4 (Aa n5 Af))))))
def Ss (a0:List UInt8):A:=.v (.tuple ⟨[.int .i64 (Bbm a0).1,.int .i64 (Bbm a0).2.1,.int .i64 (Bbm a0).2.2]⟩)
def Ap9 (_a0:List UInt8):Objs:=[]
def Ah3 (_a0:List UInt8):List Prop:=[]
theorem Bl4 (L:List UInt8) (h7:L.length≤7) (a:Nat) (ha:a <64):
  Ax FF FE IF (Hh ((a:Int),L,(L.length:Int),0)) ((a:Int),L,(L.length:Int),0)∧
  (KR ((a:Int),L,(L.length:Int),0)).1=(val a L:Int):=by
 obtain⟨h1,⟨i,hi,h2⟩,h3⟩:=Abp (next:=FF) (goes:=FE) (ps:=IF)
  (fun x=>∃i:Nat,i≤L.length∧x=((val a (L.take i):Int),L,(L.length:Int),(i:Int))) Hh (by
   rintro x ⟨i,hi,rfl⟩
   refine⟨Aa (fun hp=>?_) Af,fun hg=>?_⟩
   ·have h':(!!decide ((i:Int) <(L.length:Int)))=true:=hp
    have hlt:(i:Int) <(L.length:Int):=by simpa using h'
    show(0:Int)≤(i:Int)∧(i:Int) <(L.length:Int)
    exact⟨by omega,hlt⟩
   ·have h':(!!decide ((i:Int) <(L.length:Int)))=true:=hg
    have hlt:i <L.length:=by simpa using h'
    have hw:IntKind.i64.wrap ((i:Int)+1)=((i+1:Nat):Int):=by rw[i64_in (by omega)];rfl
    have hb:val a (L.take i) <64*256^6:=by
     have hv:=Anv (L.take i) a
     have hl:=Boi (L.take i)
     have e:(L.take i).length=i:=by rw[List.length_take];omega
     rw[e] at hv hl
     have hm:256^i≤256^6:=Nat.pow_le_pow_right (by decide) (by omega)
     have hq:=Nat.mul_le_mul_right (256^i) (show a+1≤64 by omega)
     rw[Nat.add_mul,Nat.one_mul] at hq
     have hq2:=Nat.mul_le_mul_left 64 hm
     omega
    refine⟨⟨i+1,hlt,?_⟩,?_⟩
    ·show(IntKind.i64.wrap ((BitVec.ofInt 64 (IntKind.i64.wrap ((val a (L.take i):Int)*256)) ||| BitVec.ofInt 64 (IntKind.i64.wrap (((L.getD (i:Int).toNat (Ae TC.u8)).toNat:Nat):Int))).toNat:Int),L,(L.length:Int),IntKind.i64.wrap ((i:Int)+1))=_
     rw[hw,Bq8 hb,Int.toNat_natCast,Boj _ _ _ hlt]
    ·show((L.length:Int) - IntKind.i64.wrap ((i:Int)+1)).toNat <((L.length:Int) - (i:Int)).toNat
     rw[hw]
     omega) _ ((a:Int),L,(L.length:Int),0) ⟨0,Nat.zero_le _,rfl⟩ (Nat.le_refl _)
 refine⟨h1,?_⟩
 have h4:KR ((a:Int),L,(L.length:Int),0)=_:=h2
 rw[h2] at h3
 have h3':(!!decide ((i:Int) <(L.length:Int)))=false:=h3
 have hn:¬((i:Int) <(L.length:Int)):=by simpa using h3'
 obtain rfl:i=L.length:=by omega
 rw[h4,List.take_length]
theorem Bb3 (b:List UInt8):(∀p∈Aqa b,p)∧Afj b=(Bbm b).1∧Afk b=(Bbm b).2.1∧Afl b=(Bbm b).2.2:=by
 cases b with
 |nil=>
  have no:(!(BZ []))=true→False:=by intro h;cases h
  exact⟨Aa (fun h=>(no h).elim) (Aa (fun h=>(no h).elim) (Aa (fun h=>(no h).elim) (Aa (fun h=>(no h).elim) (Aa (fun h=>(no h).elim) Af)))),rfl,rfl,rfl⟩
 | cons x r=>
  have hx:x.toNat <256:=x.toNat_lt
  have k4:BZ (x::r)=false:=by
   show(((r.length+1:Nat):Int)==0)=false
   rw[Bool.eq_false_iff]
   intro h
   have:((r.length+1:Nat):Int)=0:=by simpa using h
   omega
  have k3:GY (x::r)=((2^(x.toNat / 64):Nat):Int):=Bwn x
  have t3:x.toNat / 64≤3:=by omega
  have hK:=(Bu4 t3).1
  have k2:Ek (x::r)=r.take (2^(x.toNat / 64) - 1):=by
   show List.take ((GY (x::r)).toNat - 1) r=_
   rw[k3,Int.toNat_natCast]
  have k1:FD (x::r)=decide (r.length+1 <2^(x.toNat / 64)):=by
   show decide (((r.length+1:Nat):Int) <GY (x::r))=_
   rw[k3]
   exact decide_eq_decide.2 Int.ofNat_lt
  have k6:IntKind.i64.wrap (IntKind.u8.wrap ((BitVec.ofInt 8 (HA (x::r)) &&& BitVec.ofInt 8 63).toNat:Int))=((x.toNat % 64:Nat):Int):=Bqk x
  generalize hKK:2^(x.toNat / 64)=K at*
  have hlen:(r.take (K - 1)).length≤7:=by rw[List.length_take];unfold szs at hK;omega
  obtain⟨n1,n2⟩:=Bl4 (r.take (K - 1)) hlen (x.toNat % 64) (by omega)
  have k0:Og (x::r)=decide (Ed (val (x.toNat % 64) (r.take (K - 1))) <K):=by
   unfold Og
   rw[k6,k2,n2,A3h,k3]
   exact decide_eq_decide.2 Int.ofNat_lt
  refine⟨Aa (fun _=>?_) (Aa (fun _=>?_) (Aa (fun _ _=>(by show(0:Int)≤0∧(0:Int) <((r.length+1:Nat):Int);omega)) (Aa (fun _ h=>?_) (Aa (fun _ _=>?_) Af)))),?_⟩
  ·show(0:Int)≤0∧(0:Int) <((r.length+1:Nat):Int)
   omega
  ·show(0:Int)≤((x.toNat:Nat):Int).fdiv 64
   rw[Int.fdiv_eq_ediv_of_nonneg _ (by decide)]
   omega
  ·rw[k1] at h
   have h':¬(r.length+1 <K):=by simpa using h
   rw[k3]
   show(0:Int)≤1∧(1:Int)≤(K:Int)∧(K:Int)≤((r.length+1:Nat):Int)
   unfold szs at hK
   omega
  ·rw[k6,k2]
   exact n1
  ·unfold Afj Afk Afl
   rw[k4,k1,k0,k6,k2,n2,k3,Big,hKK]
   by_cases c1:r.length+1 <K
   ·rw[if_pos c1,decide_eq_true c1];exact⟨rfl,rfl,rfl⟩
   ·rw[if_neg c1,decide_eq_false c1]
    by_cases c2:Ed (val (x.toNat % 64) (r.take (K - 1))) <K
    ·rw[if_pos c2,decide_eq_true c2];exact⟨rfl,rfl,rfl⟩
    ·rw[if_neg c2,decide_eq_false c2];exact⟨rfl,rfl,rfl⟩
theorem Bb2 (a0:List UInt8) (_hp:∀p∈Ah3 a0,p):CallOk Tryz.prog 77 [Ai .bytes a0] 0 [] 1 (Ss a0) 0 (Ap9 a0):=by
 obtain⟨h1,h2,h3,h4⟩:=Bb3 a0
 have h:=Bim a0 h1
 have hr:WA a0=Ss a0:=by unfold WA Ss;rw[h2,h3,h4]
 rw[hr] at h
 exact h
def Ayl:List A→Nat→Objs→Option A6:=Bt [.t .bytes] 0 Ss Ap9 Ah3
theorem A7a:HF Tryz.prog 77 Ayl:=Av (ks:=[.t .bytes]) Bb2
noncomputable def Bu8:=AS 77 Ayl Bjv
theorem Bos:Cr Tryz.prog Bu8:=An A7a Az5
noncomputable def Ca:=Bu8
theorem Bsb:Cr Tryz.prog Ca:=Bos
end Go.Proofs.YtifkbgkbajncjaaGreatDoor
namespace Go.Proofs.YtifkbgkbajncjaaGreatDoor
open Go.RowKit
def OV (a0:Int):Bool:=!a0==(1:Int)
def L8 (a0:Int):Bool:=bif !((OV a0)&&!((OV a0)&&a0==(2:Int))) then true else false
def Qr (a0:Int):A:=.v (.bool (L8 a0))
def Qq (_a0:Int):Objs:=[]
def OW (_a0:Int):List Prop:=[]
theorem Auc (a0:Int):Hz (As Ca L0) 9 103 [Ai .i64 a0] 0 []=some (1,Qr a0,0,Qq a0,OW a0):=by kernel_rfl
theorem Awt (a0:Int) (hp:∀p∈OW a0,p):CallOk Tryz.prog 103 [Ai .i64 a0] 0 [] 1 (Qr a0) 0 (Qq a0):=AB (Ar Bsb AA) (Auc a0) hp
def Yi:List A→Nat→Objs→Option A6:=Bt [.t .i64] 0 Qr Qq OW
theorem Am9:HF Tryz.prog 103 Yi:=Av (ks:=[.t .i64]) Awt
noncomputable def Bti:=AS 103 Yi Ca
theorem Ben:Cr Tryz.prog Bti:=An Am9 Bsb
def Dc (a0:TStamp):Bool:=bif a0.1==(0:Int)&&a0.2==(0:Int) then true else decide (a0.1 >(0:Int))&&decide (a0.1≤(281474976710656:Int))&&L8 a0.2
def SU (a0:TStamp):A:=.v (.bool (Dc a0))
def ST (_a0:TStamp):Objs:=[]
def Qp (_a0:TStamp):List Prop:=[]
theorem Awr (a0:TStamp):Hz (As Bti L0) 9 65 [Ai .stamp a0] 0 []=some (1,SU a0,0,ST a0,Qp a0):=by kernel_rfl
theorem A3i (a0:TStamp) (hp:∀p∈Qp a0,p):CallOk Tryz.prog 65 [Ai .stamp a0] 0 [] 1 (SU a0) 0 (ST a0):=AB (Ar Ben AA) (Awr a0) hp
def Adf:List A→Nat→Objs→Option A6:=Bt [.t .stamp] 0 SU ST Qp
theorem Aua:HF Tryz.prog 65 Adf:=Av (ks:=[.t .stamp]) A3i
noncomputable def Btj:=AS 65 Adf Bti
theorem Beo:Cr Tryz.prog Btj:=An Aua Ben
def El (a0:TStamp):Bool:=bif a0.1==(0:Int)&&a0.2==(0:Int) then true else decide (a0.1≥(1:Int))&&decide (a0.1≤(281474976710656:Int))&&(a0.2==(1:Int)||a0.2==(2:Int))
def Zc (a0:TStamp):A:=.v (.bool (El a0))
def Zb (_a0:TStamp):Objs:=[]
def Vu (_a0:TStamp):List Prop:=[]
theorem A70 (a0:TStamp):Hz (As Btj L0) 9 72 [Ai .stamp a0] 0 []=some (1,Zc a0,0,Zb a0,Vu a0):=by kernel_rfl
theorem Bct (a0:TStamp) (hp:∀p∈Vu a0,p):CallOk Tryz.prog 72 [Ai .stamp a0] 0 [] 1 (Zc a0) 0 (Zb a0):=AB (Ar Beo AA) (A70 a0) hp
def Are:List A→Nat→Objs→Option A6:=Bt [.t .stamp] 0 Zc Zb Vu
theorem A2e:HF Tryz.prog 72 Are:=Av (ks:=[.t .stamp]) Bct
noncomputable def Btk:=AS 72 Are Btj
theorem Bep:Cr Tryz.prog Btk:=An A2e Beo
def JU (a0:Int) (_a1:Int):Int:=min (max a0 (0:Int)) (1099511627776:Int)
def Qt (a0:Int) (a1:Int):A:=.v (.int .i64 (JU a0 a1))
def Qs (_a0:Int) (_a1:Int):Objs:=[]
def OX (_a0:Int) (_a1:Int):List Prop:=[]
theorem Auh (a0:Int) (a1:Int):Hz (As Btk L0) 9 69 [Ai .i64 a0,Ai .i64 a1] 0 []=some (1,Qt a0 a1,0,Qs a0 a1,OX a0 a1):=by kernel_rfl
theorem Awv (a0:Int) (a1:Int) (hp:∀p∈OX a0 a1,p):CallOk Tryz.prog 69 [Ai .i64 a0,Ai .i64 a1] 0 [] 1 (Qt a0 a1) 0 (Qs a0 a1):=AB (Ar Bep AA) (Auh a0 a1) hp
def Yk:List A→Nat→Objs→Option A6:=Bt [.t .i64,.t .i64] 0 Qt Qs OX
theorem Ana:HF Tryz.prog 69 Yk:=Av (ks:=[.t .i64,.t .i64]) Awv
noncomputable def Btl:=AS 69 Yk Btk
theorem Beq:Cr Tryz.prog Btl:=An Ana Bep
noncomputable def Btm:=AS 68 (inl (As Btl L0) 4 68) Btl
theorem Ber:Cr Tryz.prog Btm:=An (Aey (Ar Beq AA) 4 68) Beq
def BU (a0:TVec):Bool:=JU a0.1 (0:Int)==a0.1&&JU a0.2 (0:Int)==a0.2
def ZX (a0:TVec):A:=.v (.bool (BU a0))
def ZW (_a0:TVec):Objs:=[]
def Ako (_a0:TVec):List Prop:=[]
theorem A9t (a0:TVec):Hz (As Btm L0) 9 30 [Ai .vec a0] 0 []=some (1,ZX a0,0,ZW a0,[((0:Int)≤(0:Int)∧(0:Int) <(2:Int)),((0:Nat) <(2:Nat)),((0:Int)≤(0:Int)∧(0:Int) <(2:Int)),((0:Nat) <(2:Nat)),((0:Int)≤(0:Int)∧(0:Int) <(2:Int)),((0:Nat) <(2:Nat)),((0:Int)≤(1:Int)∧(1:Int) <(2:Int)),((1:Nat) <(2:Nat)),((0:Int)≤(1:Int)∧(1:Int) <(2:Int)),((1:Nat) <(2:Nat)),((0:Int)≤(1:Int)∧(1:Int) <(2:Int)),((1:Nat) <(2:Nat))]):=by kernel_rfl
theorem Beg (a0:TVec) (_hp:∀p∈Ako a0,p):CallOk Tryz.prog 30 [Ai .vec a0] 0 [] 1 (ZX a0) 0 (ZW a0):=by
 have n0:((0:Int)≤(0:Int)∧(0:Int) <(2:Int)):=by first|rfl|decide+kernel
 have n1:((0:Nat) <(2:Nat)):=by first|rfl|decide+kernel
 have n6:((0:Int)≤(1:Int)∧(1:Int) <(2:Int)):=by first|rfl|decide+kernel
 have n7:((1:Nat) <(2:Nat)):=by first|rfl|decide+kernel
 exact AB (Ar Ber AA) (A9t a0) (Aa n0 (Aa n1 (Aa n0 (Aa n1 (Aa n0 (Aa n1 (Aa n6 (Aa n7 (Aa n6 (Aa n7 (Aa n6 (Aa n7 Af))))))))))))
def Aui:List A→Nat→Objs→Option A6:=Bt [.t .vec] 0 ZX ZW Ako
theorem A3o:HF Tryz.prog 30 Aui:=Av (ks:=[.t .vec]) Beg
noncomputable def Btn:=AS 30 Aui Btm
theorem Bes:Cr Tryz.prog Btn:=An A3o Ber
def BT (a0:TVec):Bool:=decide (a0.1≥(0:Int))&&decide (a0.1≤(1099511627776:Int))&&decide (a0.2≥(0:Int))&&decide (a0.2≤(1099511627776:Int))
def Ze (a0:TVec):A:=.v (.bool (BT a0))
def Zd (_a0:TVec):Objs:=[]
def Vv (_a0:TVec):List Prop:=[]
theorem A72 (a0:TVec):Hz (As Btn L0) 9 37 [Ai .vec a0] 0 []=some (1,Ze a0,0,Zd a0,Vv a0):=by kernel_rfl
theorem Bcw (a0:TVec) (hp:∀p∈Vv a0,p):CallOk Tryz.prog 37 [Ai .vec a0] 0 [] 1 (Ze a0) 0 (Zd a0):=AB (Ar Bes AA) (A72 a0) hp
def Arh:List A→Nat→Objs→Option A6:=Bt [.t .vec] 0 Ze Zd Vv
theorem A2f:HF Tryz.prog 37 Arh:=Av (ks:=[.t .vec]) Bcw
noncomputable def Bu9:=AS 37 Arh Btn
theorem Bot:Cr Tryz.prog Bu9:=An A2f Bes
noncomputable def Cb:=Bu9
theorem Bsc:Cr Tryz.prog Cb:=Bot
end Go.Proofs.YtifkbgkbajncjaaGreatDoor
namespace Go.Proofs.YtifkbgkbajncjaaGreatDoor
open Go.RowKit
def JG (s:TStamp):Bool:=bif s.n==0&&s.site==0 then true else decide (1≤s.n)&&decide (s.n≤281474976710656)&&(s.site==1||s.site==2)
def G8 (v:TVec):Bool:=decide (0≤v.a)&&decide (v.a≤1099511627776)&&(decide (0≤v.b)&&decide (v.b≤1099511627776))
def Jf (v:TVec):Bool:=v.a==0&&v.b==0
def Bfn (s:TStamp):Int:=bif s.n==0 then 0 else 2*s.n+s.site - 1
def P8 (s:TStamp):List UInt8:=bif JG s then Ap (Bfn s) else[]
def Ic (v:TVec):List UInt8:=bif G8 v then Ap v.a++Ap v.b else[]
def Iq (t:ByteArray):List UInt8:=Ap (t.size:Int)++t.data.toList
def okN (n:Int):Prop:=0≤n∧n≤4611686018427387903
theorem Ax8 {s:TStamp}:JG s=true↔(s.n=0∧s.site=0)∨(1≤s.n∧s.n≤281474976710656∧(s.site=1∨s.site=2)):=by
 unfold JG
 rw[Bool.cond_eq_ite]
 split
 ·rename_i h
  simp only[Bool.and_eq_true,beq_iff_eq] at h
  exact⟨fun _=> .inl h,fun _=>rfl⟩
 ·rename_i h
  simp only[Bool.and_eq_true,beq_iff_eq] at h
  simp only[Bool.and_eq_true,Bool.or_eq_true,beq_iff_eq,decide_eq_true_eq]
  constructor
  ·intro h';exact .inr ⟨h'.1.1,h'.1.2,h'.2⟩
  ·rintro(h'|⟨h1,h2,h3⟩)
   ·exact absurd h' h
   ·exact⟨⟨h1,h2⟩,h3⟩
theorem Brz {s t:TVec} (h1:s.a=t.a) (h2:s.b=t.b):s=t:=by cases s;cases t;simp_all
theorem A46 (n i:Nat):n &&& 2^i=n / 2^i % 2*2^i:=by
 rw[←Nat.toNat_testBit]
 apply Nat.eq_of_testBit_eq
 intro j
 rw[Nat.testBit_and,Nat.testBit_two_pow]
 cases hb:n.testBit i with
 |true=>
  by_cases hij:i=j
  ·subst hij;simp[hb]
  ·simp[hij]
 |false=>
  by_cases hij:i=j
  ·subst hij;simp[hb]
  ·simp[hij]
theorem Bpo {n:Int} (h:okN n) (k:Nat) (m:Int) (hm:m=((2^k:Nat):Int)) (hk:k <60):(BitVec.ofInt 64 n &&& BitVec.ofInt 64 m).toNat=n.toNat / 2^k % 2*2^k:=by
 obtain⟨h0,h1⟩:=h
 have hp:2^k <2^60:=Nat.pow_lt_pow_right (by decide) hk
 have e60:(2:Nat)^60=1152921504606846976:=by decide
 rw[BitVec.toNat_and,BitVec.toNat_ofInt,BitVec.toNat_ofInt]
 have m1:(n % ((2^64:Nat):Int)).toNat=n.toNat:=by omega
 have m2:(m % ((2^64:Nat):Int)).toNat=2^k:=by
  subst hm
  generalize 2^k=q at*
  omega
 rw[m1,m2,A46]
theorem Bfj {n:Int} (h:okN n) (k:Nat) (m:Int) (hm:m=((2^k:Nat):Int)) (hk:k <60):decide (IntKind.i64.wrap ((BitVec.ofInt 64 n &&& BitVec.ofInt 64 m).toNat:Int) >0)=(n.toNat / 2^k % 2==1):=by
 rw[Bpo h k m hm hk]
 have hp:2^k <2^60:=Nat.pow_lt_pow_right (by decide) hk
 have hp0:0 <2^k:=Nat.pow_pos (by decide)
 have e60:(2:Nat)^60=1152921504606846976:=by decide
 generalize n.toNat / 2^k=x
 generalize 2^k=q at*
 rcases Nat.mod_two_eq_zero_or_one x with e|e
 ·rw[e,Nat.zero_mul]
  rfl
 ·rw[e,Nat.one_mul,i64_in (by omega)]
  have:(q:Int) >0:=by omega
  rw[decide_eq_true this]
  rfl
end Go.Proofs.YtifkbgkbajncjaaGreatDoor
namespace Go.Proofs.YtifkbgkbajncjaaGreatDoor
open Go.RowKit
theorem Bfs {x y:ByteArray}:(x.toList==y.toList)=true↔x=y:=by
 rw[beq_iff_eq,ByteArray.toList_eq,ByteArray.toList_eq]
 constructor
 ·intro h
  cases x;cases y
  simpa using h
 ·rintro rfl;rfl
theorem Bqy {x:ByteArray}:(x.toList==(ByteArray.mk #[]).toList)=true↔x.size=0:=by
 rw[Bfs]
 constructor
 ·rintro rfl;rfl
 ·intro h
  cases x with|mk d=>
  have:d.size=0:=h
  rw[Array.eq_empty_of_size_eq_zero this]
theorem Sr (x:ByteArray):(x.toList==(ByteArray.mk #[]).toList)=(x.size==0):=by
 rw[Bool.eq_iff_iff,Bqy,beq_iff_eq]
def Fy (c:TCell):Bool:=!(c.stamp.n==0&&c.stamp.site==0&&(c.vec.a==0&&c.vec.b==0)&&(!c.gone&&c.value.size==0))
def Kn (p:Int) (c:TCell):Bool:=
 bif p==1&&!Jf c.dead||(p==2&&(c.gone||!G8 c.dead)||!(p==1||p==2)) then false else
 bif !Fy c then true else JG c.stamp&&decide (0 <c.stamp.n)&&G8 c.vec&&decide ((c.value.size:Int)≤64)&&!(c.gone&&!(c.value.size==0))
def KD (c:TCell):Int:=(bif Fy c then 1 else 0)+(bif c.gone then 2 else 0)+(bif Jf c.dead then 0 else 4)
def Bfk (c:TCell):List UInt8:=(bif Fy c then P8 c.stamp++Ic c.vec++(bif c.gone then[] else Iq c.value) else[])++(bif Jf c.dead then[] else Ic c.dead)
def Y0 (p:Int) (c:TCell):List UInt8:=bif Kn p c then Ap (KD c)++Bfk c else[]
def RS:TCell:=⟨⟨0,0⟩,⟨0,0⟩,false,ByteArray.mk #[],⟨0,0⟩⟩
theorem Bjs {v:TVec}:Jf v=true↔v=⟨0,0⟩:=by
 unfold Jf
 simp only[Bool.and_eq_true,beq_iff_eq]
 constructor
 ·intro h;exact Brz h.1 h.2
 ·rintro rfl;exact⟨rfl,rfl⟩
structure Bv4 (p:Int) (c:TCell):Prop where
 pol:p=1∨p=2
 dead:G8 c.dead=true
 last:p=1→Jf c.dead=true
 del:p=2→c.gone=false
 st:Fy c=true→JG c.stamp=true∧0 <c.stamp.n∧G8 c.vec=true∧(c.value.size:Int)≤64∧(c.gone=true→c.value.size=0)
theorem Aew {p:Int} {c:TCell}:Kn p c=true↔Bv4 p c:=by
 unfold Kn
 rw[Bool.cond_eq_ite]
 split
 ·rename_i h
  refine⟨fun h=>(by cases h),fun g=>?_⟩
  exfalso
  simp only[Bool.or_eq_true,Bool.and_eq_true,beq_iff_eq,Bool.not_eq_true'] at h
  rcases h with⟨h1,h2⟩|⟨h1,h2⟩|h1
  ·rw[g.last h1] at h2;cases h2
  ·rcases h2 with h2|h2
   ·rw[g.del h1] at h2;cases h2
   ·rw[g.dead] at h2;cases h2
  ·rcases g.pol with h|h
   ·rw[h] at h1;cases h1
   ·rw[h] at h1;cases h1
 ·rename_i h
  have hh:=Bool.eq_false_iff.2 h
  simp only[Bool.or_eq_false_iff] at hh
  obtain⟨h1,h2,h3⟩:=hh
  have hp:p=1∨p=2:=by
   have:(p==1||p==2)=true:=by
    cases hq:(p==1||p==2) with
    |true=>rfl
    |false=>rw[hq] at h3;cases h3
   simpa using this
  have base:G8 c.dead=true∧(p=1→Jf c.dead=true)∧(p=2→c.gone=false):=by
   rcases hp with rfl|rfl
   ·have hz:Jf c.dead=true:=by
     cases hz:Jf c.dead with
     |true=>rfl
     |false=>rw[hz] at h1;cases h1
    refine⟨by rw[Bjs.1 hz];rfl,fun _=>hz,fun h=>by cases h⟩
   ·have:c.gone=false∧G8 c.dead=true:=by
     cases hg:c.gone with
     |true=>rw[hg] at h2;cases h2
     |false=>
      cases hv:G8 c.dead with
      |true=>exact⟨rfl,rfl⟩
      |false=>rw[hg,hv] at h2;cases h2
    exact⟨this.2,fun h=>(by cases h),fun _=>this.1⟩
  cases hw:Fy c with
  |false=>exact⟨fun _=>⟨hp,base.1,base.2.1,base.2.2,fun h=>by rw[hw] at h;cases h⟩,fun _=>rfl⟩
  | true=>
   rw[Bool.not_true,cond_false]
   simp only[Bool.and_eq_true,decide_eq_true_eq,Bool.not_eq_true',Bool.and_eq_false_iff,Bool.not_eq_false',beq_iff_eq]
   constructor
   ·rintro⟨⟨⟨⟨g1,g2⟩,g3⟩,g4⟩,g5⟩
    refine⟨hp,base.1,base.2.1,base.2.2,fun _=>⟨g1,g2,g3,g4,fun hg=>?_⟩⟩
    rcases g5 with g5|g5
    ·rw[g5] at hg;cases hg
    ·exact g5
   ·intro g
    obtain⟨g1,g2,g3,g4,g5⟩:=g.st hw
    refine⟨⟨⟨⟨g1,g2⟩,g3⟩,g4⟩,?_⟩
    cases hg:c.gone with
    |false=>exact .inl rfl
    |true=>exact .inr (g5 hg)
theorem A6i (c:TCell):okN (KD c)∧KD c≤7∧((KD c).toNat / 2^0 % 2==1)=Fy c∧((KD c).toNat / 2^1 % 2==1)=c.gone∧((KD c).toNat / 2^2 % 2==1)=!Jf c.dead:=by
 unfold KD okN
 cases Fy c<;>cases c.gone<;>cases Jf c.dead<;>decide
end Go.Proofs.YtifkbgkbajncjaaGreatDoor
namespace Go.Proofs.YtifkbgkbajncjaaGreatDoor
open Go.RowKit
theorem Aub (n:Int):L8 n=(n==1||n==2):=by
 unfold L8 OV
 cases n==1<;>cases n==2<;>rfl
theorem Qo (s:TStamp):Dc s=JG s:=by
 unfold Dc JG
 rw[Aub]
 rfl
theorem TT (x:Int):(JU x 0==x)=(decide (0≤x)&&decide (x≤1099511627776)):=by
 unfold JU
 rw[Bool.eq_iff_iff]
 simp only[beq_iff_eq,Bool.and_eq_true,decide_eq_true_eq]
 omega
theorem Mt (v:TVec):BU v=G8 v:=by
 unfold BU G8
 rw[TT,TT]
theorem Aad {α:Type} (c:Bool) (x:α):(bif c then x else x)=x:=by cases c<;>rfl
theorem A3 (n:Int):(Ap n).length≤8:=by
 rw[Aia]
 rcases RK n with h|⟨_,_,h⟩
 ·omega
 ·unfold szs at h;omega
theorem Afr (s:TStamp):(P8 s).length≤8:=by
 unfold P8
 cases JG s with
 |true=>exact A3 _
 |false=>exact Nat.zero_le _
theorem Ny (v:TVec):(Ic v).length≤16:=by
 unfold Ic
 cases G8 v with
 |true=>
  rw[cond_true,List.length_append]
  have h1:=A3 v.a
  have h2:=A3 v.b
  omega
 |false=>exact Nat.zero_le _
theorem P9 (t:ByteArray):(Iq t).length≤8+t.size:=by
 unfold Iq
 rw[List.length_append]
 have h1:=A3 (t.size:Int)
 have hs:t.data.toList.length=t.size:=Array.length_toList
 omega
def HJ (a0:TCell):Bool:=!(a0.1.1==(0:Int)&&a0.1.2==(0:Int)&&(a0.2.1==(0:Int)&&a0.2.2==(0:Int)&&(a0.3==false&&(a0.4.toList==(ByteArray.mk #[]).toList&&true))))
def NX (a0:TCell):A:=.v (.bool (HJ a0))
def NW (_a0:TCell):Objs:=[]
def Mx (_a0:TCell):List Prop:=[]
theorem Ak1 (a0:TCell):Hz (As Cb L0) 9 96 [Ai .cell a0] 0 []=some (1,NX a0,0,NW a0,Mx a0):=by kernel_rfl
theorem Aoj (a0:TCell) (hp:∀p∈Mx a0,p):CallOk Tryz.prog 96 [Ai .cell a0] 0 [] 1 (NX a0) 0 (NW a0):=AB (Ar Bsc AA) (Ak1 a0) hp
def T5:List A→Nat→Objs→Option A6:=Bt [.t .cell] 0 NX NW Mx
theorem Aea:HF Tryz.prog 96 T5:=Av (ks:=[.t .cell]) Aoj
noncomputable def Bto:=AS 96 T5 Cb
theorem Beu:Cr Tryz.prog Bto:=An Aea Bsc
def EP (a0:Int) (a1:TCell):Bool:=bif bif a0==(1:Int) then !(a1.5.1==(0:Int)&&a1.5.2==(0:Int)) else !a0==(2:Int)||(a1.3||!BU a1.5) then bif a0==(1:Int) then false else bif a0==(2:Int) then false else false else bif !HJ a1 then true else decide (a1.1.1 >(0:Int))&&Dc a1.1&&BU a1.2&&decide ((↑a1.4.size:Int)≤(64:Int))&&!(a1.3&&!a1.4.toList==(ByteArray.mk #[]).toList)
def T4 (a0:Int) (a1:TCell):A:=.v (.bool (EP a0 a1))
def T3 (_a0:Int) (_a1:TCell):Objs:=[]
def R1 (_a0:Int) (_a1:TCell):List Prop:=[]
theorem A0r (a0:Int) (a1:TCell):Hz (As Bto L0) 9 94 [Ai .i64 a0,Ai .cell a1] 0 []=some (1,T4 a0 a1,0,T3 a0 a1,R1 a0 a1):=by kernel_rfl
theorem Ahe (a0:Int) (a1:TCell) (hp:∀p∈R1 a0 a1,p):CallOk Tryz.prog 94 [Ai .i64 a0,Ai .cell a1] 0 [] 1 (T4 a0 a1) 0 (T3 a0 a1):=AB (Ar Beu AA) (A0r a0 a1) hp
def Ahf:List A→Nat→Objs→Option A6:=Bt [.t .i64,.t .cell] 0 T4 T3 R1
theorem Auu:HF Tryz.prog 94 Ahf:=Av (ks:=[.t .i64,.t .cell]) Ahe
noncomputable def Btp:=AS 94 Ahf Bto
theorem Bev:Cr Tryz.prog Btp:=An Auu Beu
theorem S0 (c:TCell):HJ c=Fy c:=by
 unfold HJ Fy
 have hg:(c.3==false)=!c.gone:=by show(c.gone==false)=!c.gone;cases c.gone<;>rfl
 rw[Sr,Bool.and_true,hg]
 simp only[Bool.and_assoc]
theorem RZ (p:Int) (c:TCell):EP p c=Kn p c:=by
 unfold EP Kn Jf
 rw[S0,Mt,Mt,Qo,Sr]
 have hw:(bif !Fy c then true else decide (c.1.1 >(0:Int))&&JG c.1&&G8 c.2&&decide (((c.4.size:Nat):Int)≤(64:Int))&&!(c.3&&!c.4.size==0))=bif !Fy c then true else JG c.stamp&&decide (0 <c.stamp.n)&&G8 c.vec&&decide ((c.value.size:Int)≤64)&&!(c.gone&&!(c.value.size==0)):=by
  rw[Bool.and_comm (decide (c.1.1 >(0:Int)))]
 rw[hw]
 generalize (bif !Fy c then true else JG c.stamp&&decide (0 <c.stamp.n)&&G8 c.vec&&decide ((c.value.size:Int)≤64)&&!(c.gone&&!(c.value.size==0)))=X
 by_cases h1:p=1
 ·subst h1
  show(bif !(c.5.1==(0:Int)&&c.5.2==(0:Int)) then false else X)=bif !(c.5.1==(0:Int)&&c.5.2==(0:Int))||false then false else X
  rw[Bool.or_false]
 ·have e1:(p==1)=false:=by simpa using h1
  rw[e1]
  by_cases h2:p=2
  ·subst h2
   show(bif c.3||!G8 c.5 then false else X)=bif(c.3||!G8 c.5)||false then false else X
   rw[Bool.or_false]
  ·have e2:(p==2)=false:=by simpa using h2
   rw[e2]
   rfl
def VZ (a0:List UInt8) (a1:TStamp):List UInt8:=a0++Ap (bif a1.1==(0:Int)&&a1.2==(0:Int) then(0:Int) else bif Dc a1 then IntKind.i64.wrap (IntKind.i64.wrap (IntKind.i64.wrap (a1.1*(2:Int))+a1.2) - (1:Int)) else(-1:Int))
def Akk (_a0:List UInt8) (_a1:TStamp):A:=.sq 0
def PM (a0:List UInt8) (a1:TStamp):Objs:=[(0,some (.arr 5 1 (.ty .u8 (VZ a0 a1))))]
def Adg (a0:List UInt8) (_a1:TStamp):List Prop:=[(Ad (a0.length+(8:Nat)))]
theorem A3l (a0:List UInt8) (a1:TStamp):Hz (As Btp L0) 9 52 [Ai .bytes a0,Ai .stamp a1] 0 []=some (1,Akk a0 a1,1,PM a0 a1,Adg a0 a1):=by kernel_rfl
theorem A9o (a0:List UInt8) (a1:TStamp) (hp:∀p∈Adg a0 a1,p):CallOk Tryz.prog 52 [Ai .bytes a0,Ai .stamp a1] 0 [] 1 (Akk a0 a1) 1 (PM a0 a1):=AB (Ar Bev AA) (A3l a0 a1) hp
def Adh (_a0:List UInt8) (_a1:TStamp):A:=.sq 0
def NF (a0:List UInt8) (a1:TStamp):Objs:=[(0,some (.arr 5 1 (.ty .u8 (a0++P8 a1))))]
def Yh (a0:List UInt8) (_a1:TStamp):List Prop:=[Ad (a0.length+8)]
theorem A3k (a0:List UInt8) (a1:TStamp):VZ a0 a1=a0++P8 a1:=by
 unfold VZ P8 Bfn
 rw[Qo]
 congr 1
 cases hg:JG a1 with
 | false=>
  have hz:(a1.1==(0:Int)&&a1.2==(0:Int))=false:=by
   rw[Bool.eq_false_iff]
   intro h
   unfold JG at hg
   rw[h] at hg
   cases hg
  rw[hz]
  rfl
 | true=>
  have h':=Ax8.1 hg
  rw[cond_true,cond_true]
  congr 1
  by_cases h0:a1.n=0
  ·have hz:(a1.1==(0:Int)&&a1.2==(0:Int))=true:=by
    rcases h' with⟨h1,h2⟩|h1
    ·rw[h1,h2];rfl
    ·omega
   have e:(a1.n==0)=true:=by simpa using h0
   rw[hz,e]
   rfl
  ·have hz:(a1.1==(0:Int)&&a1.2==(0:Int))=false:=by
    have:(a1.1==(0:Int))=false:=by simpa using h0
    rw[this];rfl
   have e:(a1.n==0)=false:=by simpa using h0
   rw[hz,e,cond_false,cond_false,i64_in (n:=a1.1*2) (by omega),i64_in (n:=a1.1*2+a1.2) (by omega),i64_in (by omega)]
   omega
theorem A3j (a0:List UInt8) (a1:TStamp) (hp:∀p∈Yh a0 a1,p):CallOk Tryz.prog 52 [Ai .bytes a0,Ai .stamp a1] 0 [] 1 (Adh a0 a1) 1 (NF a0 a1):=by
 have h:=A9o a0 a1 (Aa (hp _ (List.mem_cons_self ..)) Af)
 have ho:PM a0 a1=NF a0 a1:=by unfold PM NF;rw[A3k]
 rw[ho] at h
 exact h
def Akl:List A→Nat→Objs→Option A6:=Bt [.t .bytes,.t .stamp] 1 Adh NF Yh
theorem Aws:HF Tryz.prog 52 Akl:=Av (ks:=[.t .bytes,.t .stamp]) A3j
noncomputable def Btq:=AS 52 Akl Btp
theorem Bew:Cr Tryz.prog Btq:=An Aws Bev
def SW (a0:List UInt8) (a1:TVec):List UInt8:=a0++Ap a1.1
def Ag2 (a0:List UInt8) (a1:TVec):List UInt8:=bif !BU a1 then[]++a0 else(SW a0 a1)++Ap a1.2
def Az0 (_a0:List UInt8) (_a1:TVec):A:=.sq 0
def WR (a0:List UInt8) (a1:TVec):Objs:=[(0,some (.arr 5 1 (.ty .u8 (Ag2 a0 a1))))]
def Auj (a0:List UInt8) (a1:TVec):List Prop:=[((!BU a1)=true→Ad ((0:Nat)+a0.length)),((!!BU a1)=true→Ad (a0.length+(8:Nat))),((!!BU a1)=true→Ad ((SW a0 a1).length+(8:Nat)))]
theorem Bej (a0:List UInt8) (a1:TVec):Hz (As Btq L0) 9 20 [Ai .bytes a0,Ai .vec a1] 0 []=some (1,Az0 a0 a1,1,WR a0 a1,Auj a0 a1):=by kernel_rfl
theorem Bjq (a0:List UInt8) (a1:TVec) (hp:∀p∈Auj a0 a1,p):CallOk Tryz.prog 20 [Ai .bytes a0,Ai .vec a1] 0 [] 1 (Az0 a0 a1) 1 (WR a0 a1):=AB (Ar Bew AA) (Bej a0 a1) hp
def Auk (_a0:List UInt8) (_a1:TVec):A:=.sq 0
def SX (a0:List UInt8) (a1:TVec):Objs:=[(0,some (.arr 5 1 (.ty .u8 (a0++Ic a1))))]
def Akp (a0:List UInt8) (_a1:TVec):List Prop:=[Ad (a0.length+16)]
theorem Bei (a0:List UInt8) (a1:TVec):Ag2 a0 a1=a0++Ic a1:=by
 unfold Ag2 SW Ic
 rw[Mt]
 cases G8 a1 with
 |false=>exact(List.append_nil a0).symm
 |true=>exact List.append_assoc ..
theorem Beh (a0:List UInt8) (a1:TVec) (hp:∀p∈Akp a0 a1,p):CallOk Tryz.prog 20 [Ai .bytes a0,Ai .vec a1] 0 [] 1 (Auk a0 a1) 1 (SX a0 a1):=by
 have hb:Ad (a0.length+16):=hp _ (List.mem_cons_self ..)
 have h:=Bjq a0 a1 (Aa (fun _=>by unfold Ad at*;omega) (Aa (fun _=>by unfold Ad at*;omega) (Aa (fun _=>by
  have:=A3 a1.1
  unfold SW Ad at*
  rw[List.length_append]
  omega) Af)))
 have ho:WR a0 a1=SX a0 a1:=by unfold WR SX;rw[Bei]
 rw[ho] at h
 exact h
def Az1:List A→Nat→Objs→Option A6:=Bt [.t .bytes,.t .vec] 1 Auk SX Akp
theorem A9u:HF Tryz.prog 20 Az1:=Av (ks:=[.t .bytes,.t .vec]) Beh
noncomputable def Btr:=AS 20 Az1 Btq
theorem Bex:Cr Tryz.prog Btr:=An A9u Bew
def KS (a0:List UInt8) (a1:ByteArray):List UInt8:=a0++Ap (↑a1.size:Int)
def Xx (a0:List UInt8) (a1:ByteArray):List UInt8:=(KS a0 a1)++a1.data.toList
def Xy (_a0:List UInt8) (_a1:ByteArray):A:=.sq 0
def LM (a0:List UInt8) (a1:ByteArray):Objs:=[(0,some (.arr 5 1 (.ty .u8 (Xx a0 a1))))]
def UY (a0:List UInt8) (a1:ByteArray):List Prop:=[(Ad (a0.length+(8:Nat))),(Ad ((KS a0 a1).length+a1.data.toList.length))]
theorem Aqb (a0:List UInt8) (a1:ByteArray):Hz (As Btr L0) 9 53 [Ai .bytes a0,Ai .str a1] 0 []=some (1,Xy a0 a1,1,LM a0 a1,UY a0 a1):=by kernel_rfl
theorem Avl (a0:List UInt8) (a1:ByteArray) (hp:∀p∈UY a0 a1,p):CallOk Tryz.prog 53 [Ai .bytes a0,Ai .str a1] 0 [] 1 (Xy a0 a1) 1 (LM a0 a1):=AB (Ar Bex AA) (Aqb a0 a1) hp
def UZ (_a0:List UInt8) (_a1:ByteArray):A:=.sq 0
def KT (a0:List UInt8) (a1:ByteArray):Objs:=[(0,some (.arr 5 1 (.ty .u8 (a0++Iq a1))))]
def Tc (a0:List UInt8) (a1:ByteArray):List Prop:=[Ad (a0.length+8+a1.size)]
theorem UX (a0:List UInt8) (a1:ByteArray) (hp:∀p∈Tc a0 a1,p):CallOk Tryz.prog 53 [Ai .bytes a0,Ai .str a1] 0 [] 1 (UZ a0 a1) 1 (KT a0 a1):=by
 have hb:Ad (a0.length+8+a1.size):=hp _ (List.mem_cons_self ..)
 have h:=Avl a0 a1 (Aa (by unfold Ad at*;omega) (Aa (by
  have:=A3 (a1.size:Int)
  have hs:a1.data.toList.length=a1.size:=Array.length_toList
  unfold KS Ad at*
  rw[List.length_append,hs]
  omega) Af))
 have ho:LM a0 a1=KT a0 a1:=by unfold LM KT Xx KS Iq;rw[List.append_assoc]
 rw[ho] at h
 exact h
def Xz:List A→Nat→Objs→Option A6:=Bt [.t .bytes,.t .str] 1 UZ KT Tc
theorem Aln:HF Tryz.prog 53 Xz:=Av (ks:=[.t .bytes,.t .str]) UX
noncomputable def Bts:=AS 53 Xz Btr
theorem Bey:Cr Tryz.prog Bts:=An Aln Bex
def Dl (_a0:List UInt8) (_a1:Int) (a2:TCell):Int:=bif a2.3 then IntKind.i64.wrap (↑(BitVec.ofInt (64:Nat) (bif HJ a2 then(1:Int) else(0:Int)) ||| BitVec.ofInt (64:Nat) (2:Int)).toNat:Int) else bif HJ a2 then(1:Int) else(0:Int)
def IT (a0:List UInt8) (a1:Int) (a2:TCell):List UInt8:=a0++Ap (bif !(a2.5.1==(0:Int)&&a2.5.2==(0:Int)) then IntKind.i64.wrap (↑(BitVec.ofInt (64:Nat) (Dl a0 a1 a2) ||| BitVec.ofInt (64:Nat) (4:Int)).toNat:Int) else(Dl a0 a1 a2))++P8 a2.1
def Gh (a0:List UInt8) (a1:Int) (a2:TCell):Bool:=decide (IntKind.i64.wrap (↑(BitVec.ofInt (64:Nat) (bif !(a2.5.1==(0:Int)&&a2.5.2==(0:Int)) then IntKind.i64.wrap (↑(BitVec.ofInt (64:Nat) (Dl a0 a1 a2) ||| BitVec.ofInt (64:Nat) (4:Int)).toNat:Int) else(Dl a0 a1 a2)) &&& BitVec.ofInt (64:Nat) (1:Int)).toNat:Int) >(0:Int))
def Pa (a0:List UInt8) (a1:Int) (a2:TCell):Bool:=decide (IntKind.i64.wrap (↑(BitVec.ofInt (64:Nat) (bif !(a2.5.1==(0:Int)&&a2.5.2==(0:Int)) then IntKind.i64.wrap (↑(BitVec.ofInt (64:Nat) (Dl a0 a1 a2) ||| BitVec.ofInt (64:Nat) (4:Int)).toNat:Int) else(Dl a0 a1 a2)) &&& BitVec.ofInt (64:Nat) (4:Int)).toNat:Int) >(0:Int))
def Kl (a0:List UInt8) (a1:Int) (a2:TCell):List UInt8:=bif(Gh a0 a1 a2) then bif !a2.3 then(IT a0 a1 a2)++Ic a2.2++Iq a2.4 else(IT a0 a1 a2)++Ic a2.2 else a0++Ap (bif !(a2.5.1==(0:Int)&&a2.5.2==(0:Int)) then IntKind.i64.wrap (↑(BitVec.ofInt (64:Nat) (Dl a0 a1 a2) ||| BitVec.ofInt (64:Nat) (4:Int)).toNat:Int) else(Dl a0 a1 a2))
def Yw (a0:List UInt8) (a1:Int) (a2:TCell):List UInt8:=bif !EP a1 a2 then[]++a0 else bif(Pa a0 a1 a2) then(Kl a0 a1 a2)++Ic (TVec.mk (bif(Gh a0 a1 a2) then bif !a2.3 then a2.5.1 else a2.5.1 else a2.5.1) (bif(Gh a0 a1 a2) then bif !a2.3 then a2.5.2 else a2.5.2 else a2.5.2)) else(Kl a0 a1 a2)
def Aoh (_a0:List UInt8) (_a1:Int) (_a2:TCell):A:=.sq 0
def R4 (a0:List UInt8) (a1:Int) (a2:TCell):Objs:=[(0,some (.arr 5 1 (.ty .u8 (Yw a0 a1 a2))))]
def Ahi (a0:List UInt8) (a1:Int) (a2:TCell):List Prop:=[((!EP a1 a2)=true→Ad ((0:Nat)+a0.length)),((!!EP a1 a2)=true→Ad (a0.length+(8:Nat))),((!!EP a1 a2)=true→(Gh a0 a1 a2)=true→Ad ((a0++Ap (bif !(a2.5.1==(0:Int)&&a2.5.2==(0:Int)) then IntKind.i64.wrap (↑(BitVec.ofInt (64:Nat) (Dl a0 a1 a2) ||| BitVec.ofInt (64:Nat) (4:Int)).toNat:Int) else(Dl a0 a1 a2))).length+(8:Nat))),((!!EP a1 a2)=true→(Gh a0 a1 a2)=true→Ad ((IT a0 a1 a2).length+(16:Nat))),((!!EP a1 a2)=true→(Gh a0 a1 a2)=true→(!a2.3)=true→Ad (((IT a0 a1 a2)++Ic a2.2).length+(8:Nat)+a2.4.size)),((!!EP a1 a2)=true→(Pa a0 a1 a2)=true→Ad ((Kl a0 a1 a2).length+(16:Nat)))]
theorem A5l (a0:List UInt8) (a1:Int) (a2:TCell):Hz (As Bts L0) 9 56 [Ai .bytes a0,Ai .i64 a1,Ai .cell a2] 0 []=some (1,Aoh a0 a1 a2,1,R4 a0 a1 a2,Ahi a0 a1 a2):=by kernel_rfl
theorem Ba0 (a0:List UInt8) (a1:Int) (a2:TCell) (hp:∀p∈Ahi a0 a1 a2,p):CallOk Tryz.prog 56 [Ai .bytes a0,Ai .i64 a1,Ai .cell a2] 0 [] 1 (Aoh a0 a1 a2) 1 (R4 a0 a1 a2):=AB (Ar Bey AA) (A5l a0 a1 a2) hp
def Ahj (_a0:List UInt8) (_a1:Int) (_a2:TCell):A:=.sq 0
def Pb (a0:List UInt8) (a1:Int) (a2:TCell):Objs:=[(0,some (.arr 5 1 (.ty .u8 (a0++Y0 a1 a2))))]
def Aai (a0:List UInt8) (_a1:Int) (_a2:TCell):List Prop:=[Ad (a0.length+128)]
theorem Lh (a0:List UInt8) (a1:Int) (c:TCell):(bif !(c.5.1==(0:Int)&&c.5.2==(0:Int)) then IntKind.i64.wrap (↑(BitVec.ofInt (64:Nat) (Dl a0 a1 c) ||| BitVec.ofInt (64:Nat) (4:Int)).toNat:Int) else(Dl a0 a1 c))=KD c:=by
 unfold Dl KD
 rw[S0]
 show(bif !(Jf c.dead) then _ else _)=_
 cases Fy c<;>cases c.gone<;>cases Jf c.dead<;>rfl
theorem Ahg (a0:List UInt8) (a1:Int) (c:TCell):Gh a0 a1 c=Fy c:=by
 unfold Gh
 obtain⟨h1,_,h3,_⟩:=A6i c
 rw[Lh,Bfj h1 0 1 rfl (by decide)]
 exact h3
theorem A5j (a0:List UInt8) (a1:Int) (c:TCell):Pa a0 a1 c=!Jf c.dead:=by
 unfold Pa
 obtain⟨h1,_,_,_,h5⟩:=A6i c
 rw[Lh,Bfj h1 2 4 rfl (by decide)]
 exact h5
theorem A5k (a0:List UInt8) (a1:Int) (c:TCell):Yw a0 a1 c=a0++Y0 a1 c:=by
 unfold Yw Kl IT Y0 Bfk
 rw[RZ,Lh,Ahg,A5j]
 have hd:∀w g:Bool,(TVec.mk (bif w then bif !g then c.5.1 else c.5.1 else c.5.1) (bif w then bif !g then c.5.2 else c.5.2 else c.5.2))=c.dead:=by intro w g;cases w<;>cases g<;>rfl
 rw[hd]
 cases Kn a1 c<;>cases Fy c<;>cases c.gone<;>cases Jf c.dead<;>simp
theorem Ahh (a0:List UInt8) (a1:Int) (a2:TCell) (hp:∀p∈Aai a0 a1 a2,p):CallOk Tryz.prog 56 [Ai .bytes a0,Ai .i64 a1,Ai .cell a2] 0 [] 1 (Ahj a0 a1 a2) 1 (Pb a0 a1 a2):=by
 have hb:Ad (a0.length+128):=hp _ (List.mem_cons_self ..)
 unfold Ad at hb
 have n8:=A3 (KD a2)
 have s8:=Afr a2.stamp
 have v16:=Ny a2.vec
 have t8:=P9 a2.value
 have k3:(IT a0 a1 a2).length≤a0.length+16:=by
  unfold IT
  rw[Lh,List.length_append,List.length_append]
  omega
 have sz:(!!EP a1 a2)=true→Gh a0 a1 a2=true→a2.value.size≤64:=fun h1 h2=>by
  rw[RZ,Bool.not_not] at h1
  rw[Ahg] at h2
  have:=((Aew.1 h1).st h2).2.2.2.1
  omega
 have h:=Ba0 a0 a1 a2 (Aa (fun _=>by unfold Ad;omega) (Aa (fun _=>by unfold Ad;omega) (Aa (fun _ _=>by rw[Lh,List.length_append];unfold Ad;omega) (Aa (fun _ _=>by unfold Ad;omega) (Aa (fun h1 h2 _=>by
   have:=sz h1 h2
   rw[List.length_append];unfold Ad;omega) (Aa (fun h1 _=>by
   have:(Kl a0 a1 a2).length≤a0.length+112:=by
    unfold Kl
    rw[Lh]
    cases hw:Gh a0 a1 a2 with
    |false=>rw[cond_false,List.length_append];omega
    |true=>
     have:=sz h1 hw
     rw[cond_true]
     cases a2.3 with
     |true=>simp only[Bool.not_true,cond_false,List.length_append];omega
     |false=>simp only[Bool.not_false,cond_true,List.length_append];omega
   unfold Ad;omega) Af))))))
 have ho:R4 a0 a1 a2=Pb a0 a1 a2:=by unfold R4 Pb;rw[A5k]
 rw[ho] at h
 exact h
def Aoi:List A→Nat→Objs→Option A6:=Bt [.t .bytes,.t .i64,.t .cell] 1 Ahj Pb Aai
theorem A0s:HF Tryz.prog 56 Aoi:=Av (ks:=[.t .bytes,.t .i64,.t .cell]) Ahh
noncomputable def Bva:=AS 56 Aoi Bts
theorem Bou:Cr Tryz.prog Bva:=An A0s Bey
noncomputable def Bvb:=Bva
theorem Bov:Cr Tryz.prog Bvb:=Bou
noncomputable def Bvc:=Bvb
theorem Bow:Cr Tryz.prog Bvc:=Bov
noncomputable def Bvd:=Bvc
theorem Box:Cr Tryz.prog Bvd:=Bow
noncomputable def Bsd:=Bvd
theorem Bjz:Cr Tryz.prog Bsd:=Box
noncomputable def Bse:=Bsd
theorem Bj0:Cr Tryz.prog Bse:=Bjz
noncomputable def Cd:=Bse
theorem Bsf:Cr Tryz.prog Cd:=Bj0
end Go.Proofs.YtifkbgkbajncjaaGreatDoor
namespace Go.Proofs.YtifkbgkbajncjaaGreatDoor
open Go.RowKit
def Zo (a0:TVec):A:=.v (.bool (a0.1==(0:Int)&&a0.2==(0:Int)))
def Zn (_a0:TVec):Objs:=[]
def VA (_a0:TVec):List Prop:=[]
theorem A8b (a0:TVec):Hz (As Cd L0) 9 116 [Ai .vec a0] 0 []=some (1,Zo a0,0,Zn a0,VA a0):=by kernel_rfl
theorem Bc7 (a0:TVec) (hp:∀p∈VA a0,p):CallOk Tryz.prog 116 [Ai .vec a0] 0 [] 1 (Zo a0) 0 (Zn a0):=AB (Ar Bsf AA) (A8b a0) hp
def Arz:List A→Nat→Objs→Option A6:=Bt [.t .vec] 0 Zo Zn VA
theorem A2j:HF Tryz.prog 116 Arz:=Av (ks:=[.t .vec]) Bc7
noncomputable def Btx:=AS 116 Arz Cd
theorem Be3:Cr Tryz.prog Btx:=An A2j Bsf
def AZ (a0:TCell):Bool:=a0.1.1 !=(0:Int)||a0.1.2 !=(0:Int)||a0.2.1 !=(0:Int)||a0.2.2 !=(0:Int)||a0.3||!a0.4.toList==(ByteArray.mk #[]).toList
def Qd (a0:TCell):A:=.v (.bool (AZ a0))
def Qc (_a0:TCell):Objs:=[]
def Oz (_a0:TCell):List Prop:=[]
theorem Ary (a0:TCell):Hz (As Btx L0) 9 115 [Ai .cell a0] 0 []=some (1,Qd a0,0,Qc a0,Oz a0):=by kernel_rfl
theorem Avx (a0:TCell) (hp:∀p∈Oz a0,p):CallOk Tryz.prog 115 [Ai .cell a0] 0 [] 1 (Qd a0) 0 (Qc a0):=AB (Ar Be3 AA) (Ary a0) hp
def XN:List A→Nat→Objs→Option A6:=Bt [.t .cell] 0 Qd Qc Oz
theorem Al5:HF Tryz.prog 115 XN:=Av (ks:=[.t .cell]) Avx
noncomputable def Bty:=AS 115 XN Btx
theorem Be4:Cr Tryz.prog Bty:=An Al5 Be3
def FP (a0:Int) (a1:TCell):Bool:=bif a0==(1:Int)&&!(a1.5.1==(0:Int)&&a1.5.2==(0:Int))||a0==(2:Int)&&(a1.3||!BT a1.5)||a0 !=(1:Int)&&a0 !=(2:Int) then false else bif !AZ a1 then true else El a1.1&&decide (a1.1.1 >(0:Int))&&BT a1.2&&decide ((↑a1.4.size:Int)≤(64:Int))&&(!a1.3||a1.4.toList==(ByteArray.mk #[]).toList)
def Zk (a0:Int) (a1:TCell):A:=.v (.bool (FP a0 a1))
def Zj (_a0:Int) (_a1:TCell):Objs:=[]
def Vz (_a0:Int) (_a1:TCell):List Prop:=[]
theorem A78 (a0:Int) (a1:TCell):Hz (As Bty L0) 9 105 [Ai .i64 a0,Ai .cell a1] 0 []=some (1,Zk a0 a1,0,Zj a0 a1,Vz a0 a1):=by kernel_rfl
theorem Bc1 (a0:Int) (a1:TCell) (hp:∀p∈Vz a0 a1,p):CallOk Tryz.prog 105 [Ai .i64 a0,Ai .cell a1] 0 [] 1 (Zk a0 a1) 0 (Zj a0 a1):=AB (Ar Be4 AA) (A78 a0 a1) hp
def Art:List A→Nat→Objs→Option A6:=Bt [.t .i64,.t .cell] 0 Zk Zj Vz
theorem A2h:HF Tryz.prog 105 Art:=Av (ks:=[.t .i64,.t .cell]) Bc1
noncomputable def Bvi:=AS 105 Art Bty
theorem Bo2:Cr Tryz.prog Bvi:=An A2h Be4
theorem Vt (s:TStamp):El s=JG s:=rfl
theorem Mm (v:TVec):BT v=G8 v:=by
 unfold BT G8
 rw[Bool.and_assoc]
theorem KZ (c:TCell):AZ c=Fy c:=by
 unfold AZ Fy bne
 rw[Sr]
 generalize (c.1.1==(0:Int))=a
 generalize (c.1.2==(0:Int))=b
 generalize (c.2.1==(0:Int))=d
 generalize (c.2.2==(0:Int))=e
 show(!a||!b||!d||!e||c.gone||!(c.4.size==0))=!(a&&b&&(d&&e)&&(!c.gone&&c.value.size==0))
 cases a<;>cases b<;>cases d<;>cases e<;>cases c.gone<;>simp
theorem Vy (p:Int) (c:TCell):FP p c=Kn p c:=by
 unfold FP Kn bne
 rw[KZ,Mm,Mm,Vt,Sr]
 have h1:(p==(1:Int)&&!(c.5.1==(0:Int)&&c.5.2==(0:Int))||p==(2:Int)&&(c.3||!G8 c.5)||!(p==(1:Int))&&!(p==(2:Int)))=(p==1&&!Jf c.dead||(p==2&&(c.gone||!G8 c.dead)||!(p==1||p==2))):=by
  rw[Bool.or_assoc,Bool.not_or]
  rfl
 have h2:(!c.3||c.4.size==0)=!(c.gone&&!(c.value.size==0)):=by rw[Bool.not_and,Bool.not_not]
 rw[h1,h2]
noncomputable def Cf:=Bvi
theorem A4f:Cr Tryz.prog Cf:=Bo2
end Go.Proofs.YtifkbgkbajncjaaGreatDoor
namespace Go.Proofs.YtifkbgkbajncjaaGreatDoor
open Go.RowKit
abbrev Bh:Type:=ByteArray×Nat
def IR (x:Bh):St:=⟨36,2,[(26,.own 1 0)],[(1,some (.sit x.1 x.2))]⟩
def Kb:St→Option Bh
 |⟨36,2,[(26,.own 1 0)],[(1,some (.sit z0 z1))]⟩=>some (z0,z1)
 |_=>none
theorem Vd:∀s x,Kb s=some x→s=IR x:=fun s x h=>by
 unfold Kb at h
 split at h
 ·cases h;rfl
 ·cases h
def PA:Cz:=⟨2,2,[26],[],[(1,1)],[1],[2],[1]⟩
def Ab3:CX:=⟨[],[(1,1)],[26],[1]⟩
def EQ (a0:ByteArray) (a1:Nat):Bool:=!!decide (a1 <a0.size)
def B1 (a0:ByteArray) (a1:Nat):Bool:=(EQ a0 a1)&&(decide ((↑(Utf8.decode a0 a1).fst:Int) <(97:Int))||decide ((↑(Utf8.decode a0 a1).fst:Int) >(122:Int)))
def WZ (a0:ByteArray) (a1:Nat):Nat:=bif decide (a1 <a0.size) then a1+(Utf8.decode a0 a1).snd else a1
def W0 (a0:ByteArray) (a1:Nat):Bool:=(EQ a0 a1)&&!(B1 a0 a1)
def W5 (a0:ByteArray) (a1:Nat):Nat:=bif decide (a1 <a0.size) then a1+(Utf8.decode a0 a1).snd else a1
def W6 (a0:ByteArray) (a1:Nat):Nat:=bif decide (a1 <a0.size) then a1+(Utf8.decode a0 a1).snd else a1
def Dp (x:Bh):Bh:=(x.1,WZ x.1 x.2)
def Dn (x:Bh):Cnd:=some (W0 x.1 x.2)
def Nd (x:Bh):List Prop:=[((EQ x.1 x.2)=true→decide (x.2 <x.1.size)=true)]
def G1 (_x:Bh):List Prop:=[]
def Mj (x:Bh):AR:=[(some 0,some (!decide (x.2 <x.1.size)),⟨36,2,[(2,.dead)],[(1,some (.sit x.1 (W5 x.1 x.2)))]⟩),(none,some ((B1 x.1 x.2)),⟨36,2,[(2,.v (.bool (false)))],[(1,some (.sit x.1 (W6 x.1 x.2)))]⟩)]
def ER (x:Bh):Nat:=x.1.size - x.2
def JH (x:Bh):Bh:=AF Dp Dn (ER x) x
theorem YY (a0:ByteArray) (a1:Nat):Ba (As Cf L0) 9 (Ag Tryz.prog 64 0) PA (IR (a0,a1))=some (Nd (a0,a1),Mj (a0,a1),Dn (a0,a1),IR (Dp (a0,a1))):=by kernel_rfl
theorem YZ (a0:ByteArray) (a1:Nat) (_hp:∀p∈G1 (a0,a1),p):∀p∈Nd (a0,a1),p:=by
 have n0:((EQ a0 a1)=true→decide (a1 <a0.size)=true):=by intro h;exact(Bool.not_not _).symm.trans h
 exact(Aa n0 Af)
noncomputable def Nf:=HB (As Cf L0) (Ag Tryz.prog 64 0) PA Ab3 Kb ER Dp Dn G1 Mj
theorem W7:∀s b ps outs,Nf s=some (b,ps,outs)→Wf s ⟨ps,outs,none⟩∧Bg (As C0 L0) b s ps outs:=
 AT (T:=IR) A4f AA (u:=9) (by kernel_rfl) (by decide) (fun⟨a0,a1⟩=>YY a0 a1) (fun⟨a0,a1⟩=>YZ a0 a1) Vd (fun _=>AD (n:=36) rfl) fun _ _=>rfl
noncomputable def Pz:=Dd 0 Nf L0
theorem WY:G9 Pz:=AH W7 AA
def FI (a0:Ab):Bool:=a0.1.toList==(ByteArray.mk #[]).toList||decide ((↑a0.1.size:Int) >(12:Int))||a0.2 !=(1:Int)&&a0.2 !=(2:Int)
def Oq (a0:Ab):Bool:=bif(FI a0) then false else bif B1 (JH (a0.1,(0:Nat))).fst (JH (a0.1,(0:Nat))).snd then false else true
def Ot (a0:Ab):A:=.v (.bool (Oq a0))
def Ve (_a0:Ab):Objs:=[]
def Ti (a0:Ab):List Prop:=[((!(FI a0))=true→Ax Dp Dn G1 (ER (a0.1,(0:Nat))) (a0.1,(0:Nat)))]
theorem Alq (a0:Ab):Hz (As Cf Pz) 9 64 [Ai .group a0] 0 []=some (1,Ot a0,0,Ve a0,[((!(FI a0))=true→Ag Tryz.prog (64:FuncId) (0:Nat)=Ag Tryz.prog (64:FuncId) (0:Nat)),((!(FI a0))=true→Ax Dp Dn G1 (ER (a0.1,(0:Nat))) (a0.1,(0:Nat)))]):=by kernel_rfl
theorem Aqs (a0:Ab) (hp:∀p∈Ti a0,p):CallOk Tryz.prog 64 [Ai .group a0] 0 [] 1 (Ot a0) 0 (Ve a0):=by
 have n0:((!(FI a0))=true→Ag Tryz.prog (64:FuncId) (0:Nat)=Ag Tryz.prog (64:FuncId) (0:Nat)):=by intros;rfl
 have n1:=N0 hp
 exact AB (Ar A4f WY) (Alq a0) (Aa n0 (Aa n1 Af))
def Tj (a0:Ab):A:=.v (.bool (Iy a0.name&&TX a0.policy))
def Th (_a0:Ab):Objs:=[]
def Rj (_a0:Ab):List Prop:=[]
theorem Tg (g:Ab):(∀p∈Ti g,p)∧Oq g=(Iy g.name&&TX g.policy):=by
 have hk0:∀i,B1 g.1 i=(decide (i <g.1.size)&&!UQ (g.1.data.toList.getD i 0)):=fun i=>by
  unfold B1 EQ
  rw[nn]
  by_cases h:i <g.1.size
  ·rw[decide_eq_true h,Bool.true_and,Bool.true_and];exact(A9j g.1 i h).1
  ·rw[decide_eq_false h];rfl
 obtain⟨h1,k,hk,hx,hs,hst⟩:=Bd8 (fun i=>((g.1,i):ByteArray×Nat)) g.1.size (fun i=>!UQ (g.1.data.toList.getD i 0)) Dp Dn G1 (ER (g.1,0)) (g.1,0) rfl (Nat.le_refl _)
  (fun i _ _=>by
   show((!!decide (i <g.1.size))&&!B1 g.1 i)=_
   rw[hk0,nn]
   cases decide (i <g.1.size)<;>rfl)
  (fun i hi hj=>by
   show(g.1,(bif decide (i <g.1.size) then i+(Utf8.decode g.1 i).snd else i))=(g.1,i+1)
   have h2:=hj i (Nat.lt_succ_self i)
   rw[decide_eq_true hi,cond_true,(A9j g.1 i hi).2 (by simpa using h2)])
  (fun _ _ _=>Af)
 refine⟨Aa (fun _=>h1) Af,?_⟩
 have hr:JH (g.1,0)=(g.1,k):=hx
 have ha:g.1.data.toList.all UQ=decide (¬k <g.1.size):=by
  have:=A44 g.1.data.toList 0 UQ k (by rw[Kq];exact hk) (fun j hj=>by simpa using hs j hj) (fun h=>by rw[Kq] at h;simpa using hst h)
  rw[Kq] at this
  exact this
 unfold Oq
 rw[hr]
 show(bif FI g then false else bif B1 g.1 k then false else true)=_
 rw[hk0]
 unfold FI Iy TX
 rw[Sr]
 show _=(g.1.data.toList.all UQ&&(decide (1≤g.1.size)&&decide (g.1.size≤12))&&(g.2==1||g.2==2))
 rw[ha]
 have e1:(g.1.size==0)=!decide (1≤g.1.size):=Bxk _
 have e2:decide ((g.1.size:Int) >12)=!decide (g.1.size≤12):=by
  rw[←decide_not];exact decide_eq_decide.2 (by generalize g.1.size=m;omega)
 have e3:(g.2 !=1&&g.2 !=2)=!(g.2==1||g.2==2):=by simp[bne]
 rw[e1,e2,e3]
 by_cases h:k <g.1.size
 ·have:=hst h
  rw[this,decide_eq_true h,decide_eq_false (not_not_intro h)]
  simp
 ·rw[decide_eq_false h,decide_eq_true h]
  cases decide (1≤g.1.size)<;>cases decide (g.1.size≤12)<;>cases(g.2==1||g.2==2)<;>rfl
theorem Alp (a0:Ab) (_hp:∀p∈Rj a0,p):CallOk Tryz.prog 64 [Ai .group a0] 0 [] 1 (Tj a0) 0 (Th a0):=by
 have h:=Aqs a0 (Tg a0).1
 unfold Ot at h
 rw[(Tg a0).2] at h
 exact h
def Vf:List A→Nat→Objs→Option A6:=Bt [.t .group] 0 Tj Th Rj
theorem Afq:HF Tryz.prog 64 Vf:=Av (ks:=[.t .group]) Alp
noncomputable def Bj3:=AS 64 Vf Cf
theorem Az7:Cr Tryz.prog Bj3:=An Afq A4f
abbrev A1:Type:=(List Ab)×Int×Int×(List (U .str×U .i64))
def Jo (x:A1):St:=⟨35,1,[(3,.mp 0),(15,.sl .group x.1),(16,.v (.int .i64 x.2.1)),(17,.v (.int .i64 x.2.2.1))],[(0,some (.map .str .i64 x.2.2.2))]⟩
def KV:St→Option A1
 |⟨35,1,[(3,.mp 0),(15,.sl .group z0),(16,.v (.int .i64 z1)),(17,.v (.int .i64 z2))],[(0,some (.map .str .i64 z3))]⟩=>some (z0,z1,z2,z3)
 |_=>none
theorem WX:∀s x,KV s=some x→s=Jo x:=fun s x h=>by
 unfold KV at h
 split at h
 ·cases h;rfl
 ·cases h
def Ri:Cz:=⟨1,1,[3,15,16,17],[],[(0,0)],[0],[2],[0]⟩
def Afp:CX:=⟨[],[(0,0)],[3,15,16,17],[0]⟩
def D1 (a0:List Ab) (_a1:Int) (a2:Int) (a3:List (U .str×U .i64)):List (ByteArray×Int):=Xd a3 (a0.getD a2.toNat (Ae TC.group)).1 (IntKind.i64.wrap (JM a3 (a0.getD a2.toNat (Ae TC.group)).1+(1:Int)))
def CE (a0:List Ab) (a1:Int) (a2:Int) (a3:List (U .str×U .i64)):Bool:=!!decide (a2 <a1)&&(!(Iy (a0.getD a2.toNat (Ae TC.group)).1&&TX (a0.getD a2.toNat (Ae TC.group)).2)||decide (JM (D1 a0 a1 a2 a3) (a0.getD a2.toNat (Ae TC.group)).1 >(1:Int)))
def YV (a0:List Ab) (a1:Int) (a2:Int) (a3:List (U .str×U .i64)):List (U .str×U .i64):=(D1 a0 a1 a2 a3)
def YW (a0:List Ab) (a1:Int) (a2:Int) (a3:List (U .str×U .i64)):Bool:=!!decide (a2 <a1)&&!(CE a0 a1 a2 a3)
def Ip (a0:List Ab) (_a1:Int) (a2:Int) (_a3:List (U .str×U .i64)):Int:=bif !(Iy (a0.getD a2.toNat (Ae TC.group)).1&&TX (a0.getD a2.toNat (Ae TC.group)).2) then(2:Int) else(70:Int)
def WW (a0:List Ab) (a1:Int) (a2:Int) (a3:List (U .str×U .i64)):List (U .str×U .i64):=bif !(Iy (a0.getD a2.toNat (Ae TC.group)).1&&TX (a0.getD a2.toNat (Ae TC.group)).2) then a3 else(D1 a0 a1 a2 a3)
def CG (x:A1):A1:=(x.1,x.2.1,IntKind.i64.wrap (x.2.2.1+(1:Int)),YV x.1 x.2.1 x.2.2.1 x.2.2.2)
def CF (x:A1):Cnd:=some (YW x.1 x.2.1 x.2.2.1 x.2.2.2)
def Ka (x:A1):List Prop:=[((!!decide (x.2.2.1 <x.2.1))=true→(0:Int)≤x.2.2.1∧x.2.2.1 <(↑x.1.length:Int))]
abbrev Fp:A1→List Prop:=Ka
def Nc (x:A1):AR:=[(some 1,some (!decide (x.2.2.1 <x.2.1)),⟨35,1,[(2,.dead)],[(0,some (.map .str .i64 x.2.2.2))]⟩),(none,some ((CE x.1 x.2.1 x.2.2.1 x.2.2.2)),⟨35,2,[(2,.v (.int .i64 (Ip x.1 x.2.1 x.2.2.1 x.2.2.2)))],[(0,some (.map .str .i64 (WW x.1 x.2.1 x.2.2.1 x.2.2.2)))]⟩)]
def D2 (x:A1):Nat:=(x.2.1 - x.2.2.1).toNat
def G0 (x:A1):A1:=AF CG CF (D2 x) x
theorem Ab1 (a0:List Ab) (a1:Int) (a2:Int) (a3:List (U .str×U .i64)):Ba (As Bj3 L0) 9 (Ag Tryz.prog 25 1) Ri (Jo (a0,a1,a2,a3))=some (Ka (a0,a1,a2,a3),Nc (a0,a1,a2,a3),CF (a0,a1,a2,a3),Jo (CG (a0,a1,a2,a3))):=by kernel_rfl
theorem Ab2 (a0:List Ab) (a1:Int) (a2:Int) (a3:List (U .str×U .i64)) (hp:∀p∈Fp (a0,a1,a2,a3),p):∀p∈Ka (a0,a1,a2,a3),p:=hp
noncomputable def Oo:=HB (As Bj3 L0) (Ag Tryz.prog 25 1) Ri Afp KV D2 CG CF Fp Nc
theorem YX:∀s b ps outs,Oo s=some (b,ps,outs)→Wf s ⟨ps,outs,none⟩∧Bg (As C0 L0) b s ps outs:=
 AT (T:=Jo) Az7 AA (u:=9) (by kernel_rfl) (by decide) (fun⟨a0,a1,a2,a3⟩=>Ab1 a0 a1 a2 a3) (fun⟨a0,a1,a2,a3⟩=>Ab2 a0 a1 a2 a3) WX (fun _=>AD (n:=35) rfl) fun _ _=>rfl
noncomputable def Rh:=Dd 1 Oo L0
theorem YU:G9 Rh:=AH YX AA
def DQ (a0:List Ab):Bool:=(↑a0.length:Int)==(0:Int)||decide ((↑a0.length:Int) >(4:Int))
def On (a0:List Ab):List Ab:=(G0 (a0,(↑a0.length:Int),(0:Int),[])).fst
def Om (a0:List Ab):Int:=(G0 (a0,(↑a0.length:Int),(0:Int),[])).snd.fst
def Ol (a0:List Ab):List (U TC.str×U TC.i64):=(G0 (a0,(↑a0.length:Int),(0:Int),[])).snd.snd.snd
def Ok (a0:List Ab):Int:=(G0 (a0,(↑a0.length:Int),(0:Int),[])).snd.snd.fst
def JQ (a0:List Ab):Int:=bif(DQ a0) then bif(↑a0.length:Int)==(0:Int) then(2:Int) else(3:Int) else bif CE (On a0) (Om a0) (Ok a0) (Ol a0) then Ip (On a0) (Om a0) (Ok a0) (Ol a0) else(0:Int)
def P6 (a0:List Ab):A:=.v (.int .i64 (JQ a0))
def XC (_a0:List Ab):Objs:=[]
def Vb (a0:List Ab):List Prop:=[((!(DQ a0))=true→Ax CG CF Fp (D2 (a0,(↑a0.length:Int),(0:Int),[])) (a0,(↑a0.length:Int),(0:Int),[]))]
theorem Aqr (a0:List Ab):Hz (As Bj3 Rh) 9 25 [.sl .group a0] 0 []=some (1,P6 a0,0,XC a0,[((!(DQ a0))=true→Ag Tryz.prog (25:FuncId) (1:Nat)=Ag Tryz.prog (25:FuncId) (1:Nat)),((!(DQ a0))=true→Ax CG CF Fp (D2 (a0,(↑a0.length:Int),(0:Int),[])) (a0,(↑a0.length:Int),(0:Int),[]))]):=by kernel_rfl
theorem Avo (a0:List Ab) (hp:∀p∈Vb a0,p):CallOk Tryz.prog 25 [.sl .group a0] 0 [] 1 (P6 a0) 0 (XC a0):=by
 have n0:((!(DQ a0))=true→Ag Tryz.prog (25:FuncId) (1:Nat)=Ag Tryz.prog (25:FuncId) (1:Nat)):=by intros;rfl
 have n1:=N0 hp
 exact AB (Ar Az7 YU) (Aqr a0) (Aa n0 (Aa n1 Af))
def Vc (a0:List Ab):A:=.v (.int .i64 (Bi a0))
def Va (_a0:List Ab):Objs:=[]
def Te (_a0:List Ab):List Prop:=[]
theorem U9 (l:List Ab):(∀p∈Vb l,p)∧JQ l=Bi l:=by
 have e4:DQ l=(l.length==0||decide (4 <l.length)):=by
  unfold DQ
  rw[A49]
  congr 1
  exact dgt l.length 4
 have main:DQ l=false→Ax CG CF Fp (D2 (l,(l.length:Int),0,[])) (l,(l.length:Int),0,[])∧JQ l=Bi l:=fun h4=>by
  have hn4:l.length≤4:=by
   rw[e4] at h4
   have:=of_decide_eq_false (Bool.or_eq_false_iff.1 h4).2
   omega
  have hk0:∀i,i≤l.length→(∀j,j <i→TS l j=false)→CE l (l.length:Int) (i:Int) (Rc l i)=(decide (i <l.length)&&TS l i):=fun i hi hs=>by
   unfold CE D1
   rw[Int.toNat_natCast,Ao4,if_pos rfl,Ao3 l i hi hs,nn,Mu]
   unfold TS
   congr 2
   cases((l.take i).map (·.name)).any (fun s=>s==(l.getD i (Ae TC.group)).1)<;>rfl
  obtain⟨h1,k,hk,hx,hs,hst⟩:=Bd8 (fun i=>((l,(l.length:Int),(i:Int),Rc l i):A1)) l.length (TS l) CG CF Fp (D2 (l,(l.length:Int),0,[])) ((l,(l.length:Int),0,[]):A1) rfl
   (by show l.length≤((l.length:Int) - 0).toNat;omega)
   (fun i hi hs=>by
    show((!!decide ((i:Int) <(l.length:Int)))&&!CE l (l.length:Int) (i:Int) (Rc l i))=_
    rw[hk0 i hi hs,nn,Mu]
    cases decide (i <l.length)<;>rfl)
   (fun i hi hs=>by
    show(l,(l.length:Int),IntKind.i64.wrap ((i:Int)+1),D1 l (l.length:Int) (i:Int) (Rc l i))=(l,(l.length:Int),((i+1:Nat):Int),Rc l (i+1))
    rw[Fz (by omega)]
    unfold D1
    rw[Int.toNat_natCast]
    rfl)
   (fun i hi hs=>Aa (fun h=>by
    have h':(!!decide ((i:Int) <(l.length:Int)))=true:=h
    rw[nn] at h'
    have:=of_decide_eq_true h'
    show(0:Int)≤(i:Int)∧(i:Int) <(l.length:Int)
    omega) Af)
  refine⟨h1,?_⟩
  have hr:G0 (l,(l.length:Int),0,[])=(l,(l.length:Int),(k:Int),Rc l k):=hx
  unfold JQ On Om Ol Ok
  rw[hr,h4,cond_false]
  show(bif CE l (l.length:Int) (k:Int) (Rc l k) then Ip l (l.length:Int) (k:Int) (Rc l k) else 0)=_
  rw[hk0 k hk hs]
  rw[e4] at h4
  obtain⟨h5,h6⟩:=Bool.or_eq_false_iff.1 h4
  unfold Bi
  rw[h5,h6,cond_false,cond_false,Ax7 l k [] (fun j hj hl=>by
   have:=hs j hj
   unfold TS at this
   obtain⟨q1,q2⟩:=Bool.or_eq_false_iff.1 this
   exact⟨by rw[Bool.not_eq_false'] at q1;exact q1,by simpa using q2⟩),List.nil_append]
  by_cases hkl:k <l.length
  ·have hst':=hst hkl
   rw[hst',decide_eq_true hkl,Bool.and_true,cond_true]
   have hd:l.drop k=l.getD k (Ae TC.group)::l.drop (k+1):=by
    rw[List.getD_eq_getElem?_getD,List.getElem?_eq_getElem hkl,Option.getD_some]
    exact List.drop_eq_getElem_cons hkl
   rw[hd]
   unfold Uw Ip
   rw[Int.toNat_natCast]
   unfold TS at hst'
   show(bif !(Iy (l.getD k (Ae TC.group)).1&&TX (l.getD k (Ae TC.group)).2) then(2:Int) else 70)=bif !(Iy (l.getD k (Ae TC.group)).1&&TX (l.getD k (Ae TC.group)).2) then 2 else _
   cases hq:!(Iy (l.getD k (Ae TC.group)).1&&TX (l.getD k (Ae TC.group)).2) with
   |true=>rfl
   |false=>
    rw[hq,Bool.false_or] at hst'
    have hst2:((l.take k).map (·.name)).any (fun s=>s==(l.getD k (Ae TC.group)).name)=true:=hst'
    rw[cond_false,cond_false,hst2]
    rfl
  ·rw[decide_eq_false hkl,Bool.false_and,cond_false,List.drop_eq_nil_of_le (by omega)]
   rfl
 cases h4:DQ l with
 |false=>
  obtain⟨g1,g2⟩:=main h4
  exact⟨Aa (fun _=>g1) Af,g2⟩
 | true=>
  refine⟨Aa (fun h=>by rw[h4] at h;cases h) Af,?_⟩
  unfold JQ Bi
  rw[h4,cond_true,A49]
  rw[e4] at h4
  cases h5:l.length==0 with
  |true=>rfl
  |false=>
   rw[h5,Bool.false_or] at h4
   rw[h4]
   rfl
theorem U8 (a0:List Ab) (_hp:∀p∈Te a0,p):CallOk Tryz.prog 25 [.sl .group a0] 0 [] 1 (Vc a0) 0 (Va a0):=by
 have h:=Avo a0 (U9 a0).1
 unfold P6 at h
 rw[(U9 a0).2] at h
 exact h
def P7:List A→Nat→Objs→Option A6:=Bt [.l .group] 0 Vc Va Te
theorem Tf:HF Tryz.prog 25 P7:=Av (ks:=[.l .group]) U8
noncomputable def Bj4:=AS 25 P7 Bj3
theorem Az8:Cr Tryz.prog Bj4:=An Tf Az7
abbrev C2:Type:=ByteArray×Int
def LT (x:C2):St:=⟨28,0,[(0,.v (.string x.1)),(3,.v (.int .i64 x.2))],[]⟩
def Oy:St→Option C2
 |⟨28,0,[(0,.v (.string z0)),(3,.v (.int .i64 z1))],[]⟩=>some (z0,z1)
 |_=>none
theorem Af4:∀s x,Oy s=some x→s=LT x:=fun s x h=>by
 unfold Oy at h
 split at h
 ·cases h;rfl
 ·cases h
def XM:Cz:=⟨0,0,[0,3],[],[],[],[2],[]⟩
def Avw:CX:=⟨[],[],[0,3],[]⟩
def HQ (a0:ByteArray) (a1:Int):Bool:=!!decide (a1 <(↑a0.size:Int))
def Et (a0:ByteArray) (a1:Int):Bool:=(HQ a0 a1)&&(decide ((↑(a0.data.toList.getD a1.toNat (0:UInt8)).toNat:Int) <(97:Int))||decide ((↑(a0.data.toList.getD a1.toNat (0:UInt8)).toNat:Int) >(122:Int)))
def Al3 (a0:ByteArray) (a1:Int):Bool:=(HQ a0 a1)&&!(Et a0 a1)
def Gy (x:C2):C2:=(x.1,IntKind.i64.wrap (x.2+(1:Int)))
def Gx (x:C2):Cnd:=some (Al3 x.1 x.2)
def MN (x:C2):List Prop:=[((HQ x.1 x.2)=true→(0:Int)≤x.2∧x.2 <(↑x.1.size:Int)),((HQ x.1 x.2)=true→decide ((↑(x.1.data.toList.getD x.2.toNat (0:UInt8)).toNat:Int) <(97:Int))=false→(0:Int)≤x.2∧x.2 <(↑x.1.size:Int))]
abbrev I1:C2→List Prop:=MN
def Rr (x:C2):AR:=[(some 0,some (!decide (x.2 <(↑x.1.size:Int))),⟨28,0,[(2,.dead)],[]⟩),(none,some ((Et x.1 x.2)),⟨28,0,[(2,.v (.bool (false)))],[]⟩)]
def HR (x:C2):Nat:=((↑x.1.size:Int) - x.2).toNat
def MO (x:C2):C2:=AF Gy Gx (HR x) x
theorem Arp (a0:ByteArray) (a1:Int):Ba (As Bj4 L0) 9 (Ag Tryz.prog 71 0) XM (LT (a0,a1))=some (MN (a0,a1),Rr (a0,a1),Gx (a0,a1),LT (Gy (a0,a1))):=by kernel_rfl
theorem Arq (a0:ByteArray) (a1:Int) (hp:∀p∈I1 (a0,a1),p):∀p∈MN (a0,a1),p:=hp
noncomputable def Ts:=HB (As Bj4 L0) (Ag Tryz.prog 71 0) XM Avw Oy HR Gy Gx I1 Rr
theorem Al4:∀s b ps outs,Ts s=some (b,ps,outs)→Wf s ⟨ps,outs,none⟩∧Bg (As C0 L0) b s ps outs:=
 AT (T:=LT) Az8 AA (u:=9) (by kernel_rfl) (by decide) (fun⟨a0,a1⟩=>Arp a0 a1) (fun⟨a0,a1⟩=>Arq a0 a1) Af4 (fun _=>AD (n:=28) rfl) fun _ _=>rfl
noncomputable def XL:=Dd 0 Ts L0
theorem Al2:G9 XL:=AH Al4 AA
def Zh (a0:ByteArray):Bool:=bif Et (MO (a0,(0:Int))).fst (MO (a0,(0:Int))).snd then false else decide ((↑a0.size:Int)≥(1:Int))&&decide ((↑a0.size:Int)≤(12:Int))
def Zi (a0:ByteArray):A:=.v (.bool (Zh a0))
def Arr (_a0:ByteArray):Objs:=[]
def Ais (a0:ByteArray):List Prop:=[(Ax Gy Gx I1 (HR (a0,(0:Int))) (a0,(0:Int)))]
theorem A77 (a0:ByteArray):Hz (As Bj4 XL) 9 71 [Ai .str a0] 0 []=some (1,Zi a0,0,Arr a0,[(Ag Tryz.prog (71:FuncId) (0:Nat)=Ag Tryz.prog (71:FuncId) (0:Nat)),(Ax Gy Gx I1 (HR (a0,(0:Int))) (a0,(0:Int)))]):=by kernel_rfl
theorem Bc0 (a0:ByteArray) (hp:∀p∈Ais a0,p):CallOk Tryz.prog 71 [Ai .str a0] 0 [] 1 (Zi a0) 0 (Arr a0):=by
 have n1:=N0 hp
 exact AB (Ar Az8 Al2) (A77 a0) (Aa rfl (Aa n1 Af))
def Ait (a0:ByteArray):A:=.v (.bool (Iy a0))
def Air (_a0:ByteArray):Objs:=[]
def Acd (a0:ByteArray):List Prop:=[Am a0.size]
theorem Aiq (g:ByteArray) (hb:Am g.size):(∀p∈Ais g,p)∧Zh g=Iy g:=by
 unfold Am at hb
 have hlow:∀i,(decide ((((g.data.toList.getD i 0).toNat:Nat):Int) <97)||decide ((((g.data.toList.getD i 0).toNat:Nat):Int) >122))=!UQ (g.data.toList.getD i 0):=fun i=>by
  unfold UQ
  rw[Bool.not_and,←decide_not,←decide_not]
  congr 1<;>exact decide_eq_decide.2 (by omega)
 have hk0:∀i:Nat,Et g (i:Int)=(decide (i <g.size)&&!UQ (g.data.toList.getD i 0)):=fun i=>by
  unfold Et HQ
  rw[nn,Mu,Int.toNat_natCast,hlow]
 obtain⟨h1,k,hk,hx,hs,hst⟩:=Bd8 (fun i=>((g,(i:Int)):ByteArray×Int)) g.size (fun i=>!UQ (g.data.toList.getD i 0)) Gy Gx I1 (HR (g,0)) (g,0) rfl (by show g.size≤((g.size:Int) - 0).toNat;omega)
  (fun i _ _=>by
   show((!!decide ((i:Int) <(g.size:Int)))&&!Et g i)=_
   rw[hk0,nn,Mu]
   cases decide (i <g.size)<;>rfl)
  (fun i hi hj=>by
   show(g,IntKind.i64.wrap ((i:Int)+1))=(g,((i+1:Nat):Int))
   rw[Fz (by omega)])
  (fun i _ _=>Aa (fun h=>by
    have h':(!!decide ((i:Int) <(g.size:Int)))=true:=h
    rw[nn] at h'
    have:=of_decide_eq_true h'
    show(0:Int)≤(i:Int)∧(i:Int) <(g.size:Int)
    omega) (Aa (fun h _=>by
    have h':(!!decide ((i:Int) <(g.size:Int)))=true:=h
    rw[nn] at h'
    have:=of_decide_eq_true h'
    show(0:Int)≤(i:Int)∧(i:Int) <(g.size:Int)
    omega) Af))
 refine⟨Aa h1 Af,?_⟩
 have hr:MO (g,0)=(g,(k:Int)):=hx
 have ha:g.data.toList.all UQ=decide (¬k <g.size):=by
  have:=A44 g.data.toList 0 UQ k (by rw[Kq];exact hk) (fun j hj=>by simpa using hs j hj) (fun h=>by rw[Kq] at h;simpa using hst h)
  rw[Kq] at this
  exact this
 unfold Zh
 rw[hr]
 show(bif Et g (k:Int) then false else decide ((g.size:Int)≥1)&&decide ((g.size:Int)≤12))=_
 rw[hk0]
 unfold Iy
 rw[ha,show decide ((g.size:Int)≥1)=decide (1≤g.size) from decide_eq_decide.2 (by omega),show decide ((g.size:Int)≤12)=decide (g.size≤12) from decide_eq_decide.2 (by omega)]
 by_cases h:k <g.size
 ·rw[hst h,decide_eq_true h,decide_eq_false (not_not_intro h)]
  rfl
 ·rw[decide_eq_false h,decide_eq_true h]
  rfl
theorem A76 (a0:ByteArray) (hp:∀p∈Acd a0,p):CallOk Tryz.prog 71 [Ai .str a0] 0 [] 1 (Ait a0) 0 (Air a0):=by
 have hb:Am a0.size:=hp _ (List.mem_cons_self ..)
 have h:=Bc0 a0 (Aiq a0 hb).1
 unfold Zi at h
 rw[(Aiq a0 hb).2] at h
 exact h
def Ars:List A→Nat→Objs→Option A6:=Bt [.t .str] 0 Ait Air Acd
theorem A2g:HF Tryz.prog 71 Ars:=Av (ks:=[.t .str]) A76
noncomputable def A92:=AS 71 Ars Bj4
theorem Ang:Cr Tryz.prog A92:=An A2g Az8
abbrev B8:Type:=(List Ab)×Int×Int
def LS (x:B8):St:=⟨56,0,[(0,.sl .group x.1),(3,.v (.int .i64 x.2.1)),(4,.v (.int .i64 x.2.2))],[]⟩
def Ox:St→Option B8
 |⟨56,0,[(0,.sl .group z0),(3,.v (.int .i64 z1)),(4,.v (.int .i64 z2))],[]⟩=>some (z0,z1,z2)
 |_=>none
theorem Af3:∀s x,Ox s=some x→s=LS x:=fun s x h=>by
 unfold Ox at h
 split at h
 ·cases h;rfl
 ·cases h
def XK:Cz:=⟨0,0,[0,3,4],[],[],[],[2],[]⟩
def Avv:CX:=⟨[],[],[0,3,4],[]⟩
def Dr (a0:List Ab) (a1:Int) (a2:Int):Bool:=!!decide (a2 <a1)&&(a0.getD a2.toNat (Ae TC.group)).1.toList==(a0.getD a1.toNat (Ae TC.group)).1.toList
def Al0 (a0:List Ab) (a1:Int) (a2:Int):Bool:=!!decide (a2 <a1)&&!(Dr a0 a1 a2)
def Es (x:B8):B8:=(x.1,x.2.1,IntKind.i64.wrap (x.2.2+(1:Int)))
def Er (x:B8):Cnd:=some (Al0 x.1 x.2.1 x.2.2)
def MM (x:B8):List Prop:=[((!!decide (x.2.2 <x.2.1))=true→(0:Int)≤x.2.2∧x.2.2 <(↑x.1.length:Int)),((!!decide (x.2.2 <x.2.1))=true→(0:Int)≤x.2.1∧x.2.1 <(↑x.1.length:Int))]
abbrev HP:B8→List Prop:=MM
def Rq (x:B8):AR:=[(some 2,some (!decide (x.2.2 <x.2.1)),⟨56,0,[(2,.dead)],[]⟩),(none,some ((Dr x.1 x.2.1 x.2.2)),⟨56,0,[(2,.v (.int .i64 ((70:Int))))],[]⟩)]
def Gw (x:B8):Nat:=(x.2.1 - x.2.2).toNat
def FO (x:B8):B8:=AF Es Er (Gw x) x
theorem Arm (a0:List Ab) (a1:Int) (a2:Int):Ba (As A92 L0) 9 (Ag Tryz.prog 32 2) XK (LS (a0,a1,a2))=some (MM (a0,a1,a2),Rq (a0,a1,a2),Er (a0,a1,a2),LS (Es (a0,a1,a2))):=by kernel_rfl
theorem Arn (a0:List Ab) (a1:Int) (a2:Int) (hp:∀p∈HP (a0,a1,a2),p):∀p∈MM (a0,a1,a2),p:=hp
noncomputable def Tr:=HB (As A92 L0) (Ag Tryz.prog 32 2) XK Avv Ox Gw Es Er HP Rq
theorem Al1:∀s b ps outs,Tr s=some (b,ps,outs)→Wf s ⟨ps,outs,none⟩∧Bg (As C0 L0) b s ps outs:=
 AT (T:=LS) Ang AA (u:=9) (by kernel_rfl) (by decide) (fun⟨a0,a1,a2⟩=>Arm a0 a1 a2) (fun⟨a0,a1,a2⟩=>Arn a0 a1 a2) Af3 (fun _=>AD (n:=56) rfl) fun _ _=>rfl
noncomputable def LR:=Dd 2 Tr L0
theorem Tq:G9 LR:=AH Al1 AA
abbrev BL:Type:=(List Ab)×Int
def LQ (x:BL):St:=⟨56,0,[(0,.sl .group x.1),(3,.v (.int .i64 x.2))],[]⟩
def Ow:St→Option BL
 |⟨56,0,[(0,.sl .group z0),(3,.v (.int .i64 z1))],[]⟩=>some (z0,z1)
 |_=>none
theorem Af2:∀s x,Ow s=some x→s=LQ x:=fun s x h=>by
 unfold Ow at h
 split at h
 ·cases h;rfl
 ·cases h
def XJ:Cz:=⟨0,0,[0,3],[],[],[],[2],[]⟩
def Avu:CX:=⟨[],[],[0,3],[]⟩
def AO (a0:List Ab) (a1:Int):Bool:=!!decide (a1 <(↑a0.length:Int))
def Dq (a0:List Ab) (a1:Int):Bool:=!Iy (a0.getD a1.toNat (Ae TC.group)).1||(a0.getD a1.toNat (Ae TC.group)).2 !=(1:Int)&&(a0.getD a1.toNat (Ae TC.group)).2 !=(2:Int)
def Em (a0:List Ab) (a1:Int):Bool:=(AO a0 a1)&&((Dq a0 a1)||Dr (FO (a0,a1,(0:Int))).fst (FO (a0,a1,(0:Int))).snd.fst (FO (a0,a1,(0:Int))).snd.snd)
def Aly (a0:List Ab) (a1:Int):Bool:=(AO a0 a1)&&!(Em a0 a1)
def Jr (a0:List Ab) (a1:Int):Int:=bif(Dq a0 a1) then(2:Int) else(70:Int)
def Ep (x:BL):BL:=(x.1,IntKind.i64.wrap (x.2+(1:Int)))
def Eo (x:BL):Cnd:=some (Aly x.1 x.2)
def To (x:BL):List Prop:=[((AO x.1 x.2)=true→(0:Int)≤x.2∧x.2 <(↑x.1.length:Int)),((AO x.1 x.2)=true→Am (x.1.getD x.2.toNat (Ae TC.group)).1.size),((AO x.1 x.2)=true→(!Iy (x.1.getD x.2.toNat (Ae TC.group)).1)=false→(0:Int)≤x.2∧x.2 <(↑x.1.length:Int)),((AO x.1 x.2)=true→((x.1.getD x.2.toNat (Ae TC.group)).2 !=(1:Int))=true→(!Iy (x.1.getD x.2.toNat (Ae TC.group)).1)=false→(0:Int)≤x.2∧x.2 <(↑x.1.length:Int)),((AO x.1 x.2)=true→(!(Dq x.1 x.2))=true→Ag Tryz.prog (32:FuncId) (2:Nat)=Ag Tryz.prog (32:FuncId) (2:Nat)),((AO x.1 x.2)=true→(!(Dq x.1 x.2))=true→Ax Es Er HP (Gw (x.1,x.2,(0:Int))) (x.1,x.2,(0:Int)))]
def HO (x:BL):List Prop:=[((AO x.1 x.2)=true→(0:Int)≤x.2∧x.2 <(↑x.1.length:Int)),((AO x.1 x.2)=true→Am (x.1.getD x.2.toNat (Ae TC.group)).1.size),((AO x.1 x.2)=true→(!Iy (x.1.getD x.2.toNat (Ae TC.group)).1)=false→(0:Int)≤x.2∧x.2 <(↑x.1.length:Int)),((AO x.1 x.2)=true→((x.1.getD x.2.toNat (Ae TC.group)).2 !=(1:Int))=true→(!Iy (x.1.getD x.2.toNat (Ae TC.group)).1)=false→(0:Int)≤x.2∧x.2 <(↑x.1.length:Int)),((AO x.1 x.2)=true→(!(Dq x.1 x.2))=true→Ax Es Er HP (Gw (x.1,x.2,(0:Int))) (x.1,x.2,(0:Int)))]
def Rp (x:BL):AR:=[(some 0,some (!decide (x.2 <(↑x.1.length:Int))),⟨56,0,[(2,.dead)],[]⟩),(none,some ((Em x.1 x.2)),⟨56,0,[(2,.v (.int .i64 (Jr x.1 x.2)))],[]⟩)]
def Gv (x:BL):Nat:=((↑x.1.length:Int) - x.2).toNat
def ML (x:BL):BL:=AF Ep Eo (Gv x) x
theorem Ark (a0:List Ab) (a1:Int):Ba (As A92 LR) 9 (Ag Tryz.prog 32 0) XJ (LQ (a0,a1))=some (To (a0,a1),Rp (a0,a1),Eo (a0,a1),LQ (Ep (a0,a1))):=by kernel_rfl
theorem Arl (a0:List Ab) (a1:Int) (hp:∀p∈HO (a0,a1),p):∀p∈To (a0,a1),p:=by
 have n0:=N0 hp
 have n1:=N0 (N1 hp)
 have n2:=N0 (N1 (N1 hp))
 have n3:=N0 (N1 (N1 (N1 hp)))
 have n4:((AO a0 a1)=true→(!(Dq a0 a1))=true→Ag Tryz.prog (32:FuncId) (2:Nat)=Ag Tryz.prog (32:FuncId) (2:Nat)):=by intros;rfl
 have n5:=N0 (N1 (N1 (N1 (N1 hp))))
 exact(Aa n0 (Aa n1 (Aa n2 (Aa n3 (Aa n4 (Aa n5 Af))))))
noncomputable def Tp:=HB (As A92 LR) (Ag Tryz.prog 32 0) XJ Avu Ow Gv Ep Eo HO Rp
theorem Alz:∀s b ps outs,Tp s=some (b,ps,outs)→Wf s ⟨ps,outs,none⟩∧Bg (As C0 L0) b s ps outs:=
 AT (T:=LQ) Ang Tq (u:=9) (by kernel_rfl) (by decide) (fun⟨a0,a1⟩=>Ark a0 a1) (fun⟨a0,a1⟩=>Arl a0 a1) Af2 (fun _=>AD (n:=56) rfl) fun _ _=>rfl
noncomputable def XI:=Dd 0 Tp LR
theorem Alx:G9 XI:=AH Alz Tq
def Vx (a0:List Ab):Int:=(ML (a0,(0:Int))).snd
def Vw (a0:List Ab):List Ab:=(ML (a0,(0:Int))).fst
def Hw (a0:List Ab):Bool:=(↑a0.length:Int)==(0:Int)
def Ie (a0:List Ab):Bool:=decide ((↑a0.length:Int) >(4:Int))
def Ly (a0:List Ab):Int:=bif(Hw a0) then(2:Int) else bif(Ie a0) then(3:Int) else bif Em (Vw a0) (Vx a0) then Jr (Vw a0) (Vx a0) else(0:Int)
def Zf (a0:List Ab):A:=.v (.int .i64 (Ly a0))
def Aro (_a0:List Ab):Objs:=[]
def Aio (a0:List Ab):List Prop:=[((!(Hw a0))=true→(!(Ie a0))=true→Ax Ep Eo HO (Gv (a0,(0:Int))) (a0,(0:Int)))]
theorem A75 (a0:List Ab):Hz (As A92 XI) 9 32 [.sl .group a0] 0 []=some (1,Zf a0,0,Aro a0,[((!(Hw a0))=true→(!(Ie a0))=true→Ag Tryz.prog (32:FuncId) (0:Nat)=Ag Tryz.prog (32:FuncId) (0:Nat)),((!(Hw a0))=true→(!(Ie a0))=true→Ax Ep Eo HO (Gv (a0,(0:Int))) (a0,(0:Int)))]):=by kernel_rfl
theorem Bcz (a0:List Ab) (hp:∀p∈Aio a0,p):CallOk Tryz.prog 32 [.sl .group a0] 0 [] 1 (Zf a0) 0 (Aro a0):=by
 have n0:((!(Hw a0))=true→(!(Ie a0))=true→Ag Tryz.prog (32:FuncId) (0:Nat)=Ag Tryz.prog (32:FuncId) (0:Nat)):=by intros;rfl
 have n1:=N0 hp
 exact AB (Ar Ang Alx) (A75 a0) (Aa n0 (Aa n1 Af))
def Aip (a0:List Ab):A:=.v (.int .i64 (Bi a0))
def Ain (_a0:List Ab):Objs:=[]
def Acb (a0:List Ab):List Prop:=[∀g∈a0,Am g.name.size]
theorem tlb (a b:ByteArray):(a.toList==b.toList)=(a==b):=by
 rw[Bool.eq_iff_iff,Bfs,beq_iff_eq]
theorem Bht (l:List Ab) (x:ByteArray) (i k:Nat) (hi:i≤l.length) (hk:k≤i) (h1:∀j,j <k→((l.getD j (Ae TC.group)).1==x)=false) (h2:k <i→((l.getD k (Ae TC.group)).1==x)=true):((l.take i).map (·.name)).any (fun s=>s==x)=decide (k <i):=by
 rw[List.any_map]
 by_cases h:k <i
 ·rw[decide_eq_true h]
  refine List.any_eq_true.2 ⟨l.getD k (Ae TC.group),?_,h2 h⟩
  rw[List.getD_eq_getElem?_getD,List.getElem?_eq_getElem (by omega),Option.getD_some]
  exact List.mem_take_iff_getElem.2 ⟨k,by omega,rfl⟩
 ·rw[decide_eq_false h]
  refine Bool.eq_false_iff.2 fun ha=>?_
  obtain⟨g,hg,hx⟩:=List.any_eq_true.1 ha
  obtain⟨j,hj,rfl⟩:=List.mem_take_iff_getElem.1 hg
  have:=h1 j (by omega)
  rw[List.getD_eq_getElem?_getD,List.getElem?_eq_getElem (by omega),Option.getD_some] at this
  have hx':(l[j].1==x)=true:=hx
  rw[this] at hx'
  cases hx'
theorem Ay7 (l:List Ab) (hl:l.length≤4) (i:Nat) (hi:i <l.length):
  Ax Es Er HP (Gw (l,(i:Int),0)) (l,(i:Int),0)∧
  Dr (FO (l,(i:Int),0)).fst (FO (l,(i:Int),0)).snd.fst (FO (l,(i:Int),0)).snd.snd=((l.take i).map (·.name)).any (fun s=>s==(l.getD i (Ae TC.group)).1):=by
 have hk0:∀k:Nat,Dr l (i:Int) (k:Int)=(decide (k <i)&&((l.getD k (Ae TC.group)).1==(l.getD i (Ae TC.group)).1)):=fun k=>by
  unfold Dr
  rw[nn,Mu,Int.toNat_natCast,Int.toNat_natCast,tlb]
 obtain⟨h1,k,hk,hx,hs,hst⟩:=Bd8 (fun k=>((l,(i:Int),(k:Int)):B8)) i (fun k=>(l.getD k (Ae TC.group)).1==(l.getD i (Ae TC.group)).1) Es Er HP (Gw (l,(i:Int),0)) (l,(i:Int),0) rfl (by show i≤((i:Int) - 0).toNat;omega)
  (fun k _ _=>by
   show((!!decide ((k:Int) <(i:Int)))&&!Dr l i k)=_
   rw[hk0,nn,Mu]
   cases decide (k <i)<;>rfl)
  (fun k hk _=>by
   show(l,(i:Int),IntKind.i64.wrap ((k:Int)+1))=(l,(i:Int),((k+1:Nat):Int))
   rw[Fz (by omega)])
  (fun k _ _=>Aa (fun h=>by
    have h':(!!decide ((k:Int) <(i:Int)))=true:=h
    rw[nn] at h'
    have:=of_decide_eq_true h'
    show(0:Int)≤(k:Int)∧(k:Int) <(l.length:Int)
    omega) (Aa (fun _=>by
    show(0:Int)≤(i:Int)∧(i:Int) <(l.length:Int)
    omega) Af))
 refine⟨h1,?_⟩
 have hr:FO (l,(i:Int),0)=(l,(i:Int),(k:Int)):=hx
 rw[hr]
 show Dr l (i:Int) (k:Int)=_
 rw[hk0,Bht l _ i k (by omega) hk hs hst]
 by_cases h:k <i
 ·rw[hst h,Bool.and_true]
 ·rw[decide_eq_false h,Bool.false_and]
theorem Aim (l:List Ab) (hb:∀g∈l,Am g.name.size):(∀p∈Aio l,p)∧Ly l=Bi l:=by
 have main:Hw l=false→Ie l=false→Ax Ep Eo HO (Gv (l,0)) (l,0)∧Ly l=Bi l:=fun h1 h0=>by
  have hn4:l.length≤4:=by have h:=of_decide_eq_false h0;omega
  have hf1:∀i:Nat,Dq l (i:Int)=!(Iy (l.getD i (Ae TC.group)).1&&TX (l.getD i (Ae TC.group)).2):=fun i=>by
   unfold Dq TX
   rw[Int.toNat_natCast,Bool.not_and]
   congr 1
   simp[bne]
  have hk0:∀i:Nat,Em l (i:Int)=(decide (i <l.length)&&TS l i):=fun i=>by
   unfold Em AO
   rw[hf1,nn,Mu]
   by_cases hi:i <l.length
   ·rw[(Ay7 l hn4 i hi).2];rfl
   ·rw[decide_eq_false hi];rfl
  obtain⟨g1,k,hk,hx,hs,hst⟩:=Bd8 (fun i=>((l,(i:Int)):BL)) l.length (TS l) Ep Eo HO (Gv (l,0)) ((l,0):BL) rfl
   (by show l.length≤((l.length:Int) - 0).toNat;omega)
   (fun i hi hs=>by
    show((!!decide ((i:Int) <(l.length:Int)))&&!Em l (i:Int))=_
    rw[hk0 i,nn,Mu]
    cases decide (i <l.length)<;>rfl)
   (fun i hi hs=>by
    show(l,IntKind.i64.wrap ((i:Int)+1))=(l,((i+1:Nat):Int))
    rw[Fz (by omega)])
   (fun i hi hs=>by
    have hlt:(!!decide ((i:Int) <(l.length:Int)))=true→i <l.length:=fun h=>by
     rw[nn] at h
     have:=of_decide_eq_true h
     omega
    have hin:(!!decide ((i:Int) <(l.length:Int)))=true→(0:Int)≤(i:Int)∧(i:Int) <(l.length:Int):=fun h=>by
     have:=hlt h
     omega
    exact Aa hin (Aa (fun h=>by
     have:=hlt h
     show Am (l.getD i (Ae TC.group)).1.size
     rw[List.getD_eq_getElem?_getD,List.getElem?_eq_getElem this,Option.getD_some]
     exact hb _ (List.getElem_mem this)) (Aa (fun h _=>hin h) (Aa (fun h _ _=>hin h) (Aa (fun h _=>(Ay7 l hn4 i (hlt h)).1) Af)))))
  refine⟨g1,?_⟩
  have hr:ML (l,0)=(l,(k:Int)):=hx
  unfold Ly Vx Vw
  rw[hr,h1,h0,cond_false,cond_false]
  show(bif Em l (k:Int) then Jr l (k:Int) else 0)=_
  rw[hk0 k]
  have e1:(l.length==0)=false:=by rw[←A49];exact h1
  have e2:decide (4 <l.length)=false:=decide_eq_false (by omega)
  unfold Bi
  rw[e1,e2,cond_false,cond_false,Ax7 l k [] (fun j hj hl=>by
   have:=hs j hj
   unfold TS at this
   obtain⟨q1,q2⟩:=Bool.or_eq_false_iff.1 this
   exact⟨by rw[Bool.not_eq_false'] at q1;exact q1,by simpa using q2⟩),List.nil_append]
  by_cases hkl:k <l.length
  ·have hst':=hst hkl
   rw[hst',decide_eq_true hkl,Bool.and_true,cond_true]
   have hd:l.drop k=l.getD k (Ae TC.group)::l.drop (k+1):=by
    rw[List.getD_eq_getElem?_getD,List.getElem?_eq_getElem hkl,Option.getD_some]
    exact List.drop_eq_getElem_cons hkl
   rw[hd]
   unfold Uw Jr
   rw[hf1]
   unfold TS at hst'
   show(bif !(Iy (l.getD k (Ae TC.group)).1&&TX (l.getD k (Ae TC.group)).2) then(2:Int) else 70)=bif !(Iy (l.getD k (Ae TC.group)).1&&TX (l.getD k (Ae TC.group)).2) then 2 else _
   cases hq:!(Iy (l.getD k (Ae TC.group)).1&&TX (l.getD k (Ae TC.group)).2) with
   |true=>rfl
   |false=>
    rw[hq,Bool.false_or] at hst'
    have hst2:((l.take k).map (·.name)).any (fun s=>s==(l.getD k (Ae TC.group)).name)=true:=hst'
    rw[cond_false,cond_false,hst2]
    rfl
  ·rw[decide_eq_false hkl,Bool.false_and,cond_false,List.drop_eq_nil_of_le (by omega)]
   rfl
 cases h1:Hw l with
 |true=>
  refine⟨Aa (fun h=>by rw[h1] at h;cases h) Af,?_⟩
  unfold Ly Bi
  rw[h1,cond_true,←A49]
  unfold Hw at h1
  rw[h1]
  rfl
 | false=>
  cases h0:Ie l with
  |true=>
   refine⟨Aa (fun _ h=>by rw[h0] at h;cases h) Af,?_⟩
   unfold Ly Bi
   rw[h1,h0,cond_false,cond_true,←A49]
   unfold Hw at h1
   rw[h1,cond_false,←dgt l.length 4]
   unfold Ie at h0
   rw[show(decide ((l.length:Int) >((4:Nat):Int)))=true from h0]
   rfl
  |false=>
   obtain⟨g1,g2⟩:=main h1 h0
   exact⟨Aa (fun _ _=>g1) Af,g2⟩
theorem A74 (a0:List Ab) (hp:∀p∈Acb a0,p):CallOk Tryz.prog 32 [.sl .group a0] 0 [] 1 (Aip a0) 0 (Ain a0):=by
 have hb:∀g∈a0,Am g.name.size:=hp _ (List.mem_cons_self ..)
 have h:=Bcz a0 (Aim a0 hb).1
 unfold Zf at h
 rw[(Aim a0 hb).2] at h
 exact h
def Zg:List A→Nat→Objs→Option A6:=Bt [.l .group] 0 Aip Ain Acb
theorem Acc:HF Tryz.prog 32 Zg:=Av (ks:=[.l .group]) A74
noncomputable def Bvn:=AS 32 Zg A92
theorem Bo6:Cr Tryz.prog Bvn:=An Acc Ang
noncomputable def Ch:=Bvn
theorem Bvo:Cr Tryz.prog Ch:=Bo6
end Go.Proofs.YtifkbgkbajncjaaGreatDoor
namespace Go.Proofs.YtifkbgkbajncjaaGreatDoor
open Go.RowKit Go.Shelf
attribute [local go_sem] Oper.semAt_some
def gV (g:Ab):Value:=.agg #[.string g.name,.int .i64 g.policy]
def cV (c:TCell):Value:=.agg #[.int .i64 c.stamp.n,.int .i64 c.stamp.site,.int .i64 c.vec.a,.int .i64 c.vec.b,.bool c.gone,.string c.value,.int .i64 c.dead.a,.int .i64 c.dead.b]
structure KB (n₀ X:Nat) (W W':World):Prop where
 os:W'.os=W.os
 tape:W'.tape=W.tape
 output:W'.output=W.output
 size:W.heap.size≤W'.heap.size
 block:∀k,k <n₀→k≠X→W'.heap[k]?=W.heap[k]?
theorem KB.refl (n₀ X:Nat) (W:World):KB n₀ X W W:=⟨rfl,rfl,rfl,Nat.le_refl _,fun _ _ _=>rfl⟩
theorem KB.trans {n₀ X:Nat} {A B C:World} (h:KB n₀ X A B) (k:KB n₀ X B C):KB n₀ X A C:=
 ⟨k.os.trans h.os,k.tape.trans h.tape,k.output.trans h.output,Nat.le_trans h.size k.size,fun i h1 h2=>(k.block i h1 h2).trans (h.block i h1 h2)⟩
theorem KB.of_below {n₀ X:Nat} {A B:World} (h:Below n₀ A B):KB n₀ X A B:=⟨h.os,h.tape,h.output,h.size,fun k hk _=>h.block k hk⟩
theorem KB.cell {n₀ X:Nat} {A B:World} {p:Addr} (h:KB n₀ X A B) (hp:p.block <n₀) (hx:p.block≠X):B.cell? p=A.cell? p:=World.cell?_of_block (h.block _ hp hx)
theorem KB.putObj {n₀ X:Nat} {w:World} (hn:n₀≤w.heap.size) (W:World) (l:Nat) (o o':Obj) (hl:w.heap.size≤l) (h:W.heap[l]?=some o) (h1:o.isCells=false) (h2:o.isWalk=false):KB n₀ X W (W.putObj l o'):=
 KB.of_below (belowK_b hn W l o o' hl h h1 h2)
def GsAt (n₀ X:Nat) (W:World) (b off:Nat) (l:List Ab):Prop:=(b <n₀∧b≠X)∧∀j g,l[j]?=some g→W.cell? ⟨b,off+j*2,none⟩=some (.string g.name)∧W.cell? ⟨b,off+j*2+1,none⟩=some (.int .i64 g.policy)
def CsAt (n₀ X:Nat) (W:World) (b off:Nat) (l:List TCell):Prop:=(b <n₀∧b≠X)∧∀j c,l[j]?=some c→W.cell? ⟨b,off+j*8,none⟩=some (.int .i64 c.stamp.n)∧W.cell? ⟨b,off+j*8+1,none⟩=some (.int .i64 c.stamp.site)∧W.cell? ⟨b,off+j*8+2,none⟩=some (.int .i64 c.vec.a)∧W.cell? ⟨b,off+j*8+3,none⟩=some (.int .i64 c.vec.b)∧W.cell? ⟨b,off+j*8+4,none⟩=some (.bool c.gone)∧W.cell? ⟨b,off+j*8+5,none⟩=some (.string c.value)∧W.cell? ⟨b,off+j*8+6,none⟩=some (.int .i64 c.dead.a)∧W.cell? ⟨b,off+j*8+7,none⟩=some (.int .i64 c.dead.b)
theorem GsAt.kept {n₀ X:Nat} {W W':World} {b off:Nat} {l:List Ab} (h:GsAt n₀ X W b off l) (hb:KB n₀ X W W'):GsAt n₀ X W' b off l:=
 ⟨h.1,fun j g hg=>⟨(hb.cell (p:=⟨b,_,none⟩) h.1.1 h.1.2).trans (h.2 j g hg).1,(hb.cell (p:=⟨b,_,none⟩) h.1.1 h.1.2).trans (h.2 j g hg).2⟩⟩
theorem CsAt.kept {n₀ X:Nat} {W W':World} {b off:Nat} {l:List TCell} (h:CsAt n₀ X W b off l) (hb:KB n₀ X W W'):CsAt n₀ X W' b off l:=by
 refine⟨h.1,fun j c hc=>?_⟩
 obtain⟨h0,h1,h2,h3,h4,h5,h6,h7⟩:=h.2 j c hc
 have k:∀o,W'.cell? ⟨b,o,none⟩=W.cell? ⟨b,o,none⟩:=fun o=>hb.cell (p:=⟨b,o,none⟩) h.1.1 h.1.2
 exact⟨(k _).trans h0,(k _).trans h1,(k _).trans h2,(k _).trans h3,(k _).trans h4,(k _).trans h5,(k _).trans h6,(k _).trans h7⟩
theorem Bbn {W W':World} (h:Below W.heap.size W W'):W.grownBy W' none:=⟨h.os,h.tape,h.output,h.size,fun k hk _=>h.block k hk⟩
def Blo (x:Ab×TCell):Array Value:=#[gV x.1,cV x.2]
theorem Boq {α β:Type} (l:List α) (r:List β) (k:Nat) (x:α) (y:β) (hx:l[k]?=some x) (hy:r[k]?=some y):(l.zip r).take (k+1)=(l.zip r).take k++[(x,y)]:=by
 rw[List.take_add_one,(List.getElem?_zip_eq_some (z:=(x,y))).2 ⟨hx,hy⟩]
 rfl
set_option maxHeartbeats 4000000 in
theorem Bio (n:Nat) (hn:1≤n) (l B2 B3 n₀ b off cap b' off' cap' X:Nat) (gs:List Ab) (cs:List TCell) (hlen:cs.length=gs.length) (hl4:gs.length≤4)
    (J Jx:List (Ab×TCell)→World→Prop) (n1:Nat) (hn1:n₀≤n1)
    (hJa:AbidesFrom n1 J)
    (hY:∀pre x W,J pre W→pre.length <gs.length→YieldAt Fence.wide (n - 1) Tryz.prog l (Blo x) W fun e W'=>
      (e=.returned (.bool true)∧J (pre++[x]) W'∧KB n₀ X W W')∨(e=.returned (.bool false)∧Jx (pre++[x]) W'))
    (W:World) (hW1:n1=W.heap.size) (h2:W.cell? ⟨B2,0,none⟩=some (.slice (some ⟨b,off,none⟩) gs.length cap)) (h3:W.cell? ⟨B3,1,none⟩=some (.slice (some ⟨b',off',none⟩) cs.length cap')) (hB2:B2 <n₀∧B2≠X) (hB3:B3 <n₀∧B3≠X)
    (hg:GsAt n₀ X W b off gs) (hc:CsAt n₀ X W b' off' cs) (h0:J [] W):
    CallsIn Fence.wide n Tryz.prog 95 #[.func (.yield l) #[] #[],.pointer (some ⟨B2,0,none⟩),.pointer (some ⟨B3,0,none⟩)] W fun e W'=>(∃v,e=.returned v)∧
      ((∃ys,ys=gs.zip cs∧J ys W')∨(∃pre,(∃k,k≤gs.length∧pre=(gs.zip cs).take k)∧Jx pre W')):=by
  refine callsIn_of_wp Tryz.func95 rfl trivial ?_ rfl
  simp only[Tryz.ntmps95,List.size_toArray,List.length_cons,List.length_nil,Nat.reduceAdd,Nat.reduceSub,Array.replicate_succ,Array.replicate_zero,List.push_toArray,List.append_toArray,List.nil_append,List.cons_append]
  gi_wp2
  gi_loopw [8] (fun i wr=>∃k:Nat,k≤gs.length∧i=.int .i64 k∧J ((gs.zip cs).take k) wr∧KB n₀ X W wr∧W.heap.size≤wr.heap.size) (fun i _=>gs.length - (intOf i).toNat)
  case atStart=>exact⟨0,Nat.zero_le _,rfl,h0,KB.refl _ _ _,Nat.le_refl _⟩
  case round=>
    obtain⟨k,hk,rfl,hJs,hnx,hsz⟩:=hrel
    by_cases hlt:k <gs.length
    · have hlt':k <cs.length:=by omega
      obtain⟨hg1,hg2⟩:=(hg.kept hnx).2 k gs[k] (List.getElem?_eq_getElem hlt)
      have h2':=(hnx.cell (p:=⟨B2,0,none⟩) hB2.1 hB2.2).trans h2
      gi_wp2
      have hb3:Below wr.heap.size wr (wr.alloc (.cells #[.string gs[k].name,.int .i64 gs[k].policy] 106)):=(Below.refl _ wr).alloc (Nat.le_refl _) _
      have hv:wr.heap.size=wr.heap.size:=rfl
      have hn:=World.alloc_heap_new wr (.cells #[.string gs[k].name,.int .i64 gs[k].policy] 106)
      generalize wr.alloc (.cells #[.string gs[k].name,.int .i64 gs[k].policy] 106)=W3 at hb3 hn⊢
      have hb4:KB n₀ X wr W3:=KB.of_below (hb3.mono (Nat.le_trans hn1 (by rw[hW1];exact hsz)))
      have hb5:KB n₀ X W3 W3.drew:=KB.of_below ((Below.refl _ W3).drew)
      obtain⟨hc0,hc1,hc2,hc3,hc4,hc5,hc6,hc7⟩:=((hc.kept hnx).kept hb4).2 k cs[k] (List.getElem?_eq_getElem hlt')
      have h3':=((hnx.trans hb4).cell (p:=⟨B3,1,none⟩) hB3.1 hB3.2).trans h3
      have hz:((gs.zip cs).take k).length <gs.length:=by rw[List.length_take,List.length_zip];omega
      have hJ3:J ((gs.zip cs).take k) W3.drew:=hJa _ wr _ none hJs (Bbn hb3.drew) (fun r e=>by cases e)
      obtain⟨fn,tmps,assign,body,hy,hR⟩:=hY _ (gs[k],cs[k]) _ hJ3 hz
      have hR2:RoundIn Fence.wide (n - 1) Tryz.prog l fn tmps assign body W3.drew fun e W'=>∃q:Bool,e=.returned (.bool q)∧(q=true→J ((gs.zip cs).take (k+1)) W'∧KB n₀ X wr W')∧(q=false→Jx ((gs.zip cs).take (k+1)) W'):=by
        refine hR.mono ?_
        rw[←Boq gs cs k gs[k] cs[k] (List.getElem?_eq_getElem hlt) (List.getElem?_eq_getElem hlt')]
        rintro e W' (⟨rfl,h1,h2⟩|⟨rfl,h1⟩)
        ·exact⟨true,rfl,⟨fun _=>⟨h1,(hb4.trans hb5).trans h2⟩,fun h=>by cases h⟩⟩
        ·exact⟨false,rfl,⟨fun h=>(by cases h),fun _=>h1⟩⟩
      clear hR
      have hm:Tryz.prog.follows .mixedOrders=true:=by kernel_rfl
      dsimp only[Blo,gV,cV] at hy
      obtain⟨hn0,hn1'⟩:=cb2 hn
      gi_region_with_o (refine hR2.mono ?_;rintro e W4 ⟨q,rfl,hq1,hq2⟩)
      all_goals (cases q)
      all_goals gi_wp2
      all_goals first
        |(refine bodyPost_ret (results_none rfl _ _ _) rfl ?_;exact⟨⟨_,rfl⟩,.inr ⟨_,⟨k+1,by omega,rfl⟩,hq2 (by trivial)⟩⟩)
        | (obtain⟨q1,q2⟩:=hq1 (by trivial)
           exact⟨⟨k+1,by omega,rfl,q1,hnx.trans q2,Nat.le_trans hsz q2.size⟩,by simp[intOf];omega⟩)
    · obtain rfl:k=gs.length:=by omega
      gi_wp2
      go_end0
      exact⟨⟨_,rfl⟩,.inl ⟨_,rfl,by rw[List.take_of_length_le (by rw[List.length_zip];omega)] at hJs;exact hJs⟩⟩
set_option maxHeartbeats 1000000 in
theorem A7g (n:Nat) (a:Option Addr) (len cap:Nat) (v1:Value) (key:ByteArray) (w:World):
  CallsIn Fence.wide n Tryz.prog 55 #[.slice a len cap,.agg #[.string key,v1]] w fun e w'=>e=.returned (.func (.func 95) #[] #[.pointer (some ⟨w.heap.size,0,none⟩),.pointer (some ⟨w.heap.size+1,0,none⟩)])∧w'=(w.alloc (.cells #[.slice a len cap] 22)).alloc (.cells #[.string key,v1] 62):=by
 refine callsIn_of_wp Tryz.func55 rfl trivial ?_ rfl
 simp only[Tryz.ntmps55,List.size_toArray,List.length_cons,List.length_nil,Nat.reduceAdd,Nat.reduceSub,Array.replicate_succ,Array.replicate_zero,List.push_toArray,List.append_toArray,List.nil_append,List.cons_append]
 gi_wp2
 go_ret
 exact⟨rfl,rfl⟩
theorem Ah7 (n:Nat) (hn:1≤n) (B2 B3 n₀ X b off cap b' off' cap':Nat) (gs:List Ab) (cs:List TCell) (hlen:cs.length=gs.length) (hl4:gs.length≤4) (w:World) (hn₀:n₀≤w.heap.size)
  (h2:w.cell? ⟨B2,0,none⟩=some (.slice (some ⟨b,off,none⟩) gs.length cap)) (h3:w.cell? ⟨B3,1,none⟩=some (.slice (some ⟨b',off',none⟩) cs.length cap')) (hB2:B2 <n₀∧B2≠X) (hB3:B3 <n₀∧B3≠X)
  (hg:GsAt n₀ X w b off gs) (hc:CsAt n₀ X w b' off' cs):
  SeqStopsK Fence.wide n Tryz.prog 95 #[.pointer (some ⟨B2,0,none⟩),.pointer (some ⟨B3,0,none⟩)] Blo (KB n₀ X) (fun ys=>ys=gs.zip cs) (fun pre=>∃k,k≤gs.length∧pre=(gs.zip cs).take k) gs.length w:=fun l J Jx W hW hJ _ hY h0=>by
 have hk:KB n₀ X w W:=KB.of_below (hW.mono hn₀)
 exact Bio n hn l B2 B3 n₀ b off cap b' off' cap' X gs cs hlen hl4 J Jx W.heap.size (Nat.le_trans hn₀ hW.size) hJ hY W rfl ((hk.cell (p:=⟨B2,0,none⟩) hB2.1 hB2.2).trans h2) ((hk.cell (p:=⟨B3,1,none⟩) hB3.1 hB3.2).trans h3) hB2 hB3 (hg.kept hk) (hc.kept hk) h0
def QT (p:Int) (G:Int→TCell→Bool) (gs:List Ab) (key:ByteArray) (cs:List TCell):Int:=
 if(p !=0)=true then p else if key.toList.isEmpty=true then 2 else if 32 <(key.size:Int) then 3 else if((cs.length:Int) !=(gs.length:Int))=true then 100 else bif(gs.zip cs).all (fun x=>G x.1.policy x.2) then 0 else 80
theorem Wj {β:Type} (B:Nat) (cs:Array Value) (t:TypeId):Own (fun(_:β) W=>W.heap[B]?=some (.cells cs t (0,0))):=fun s W W' row hs hg hr=>by
 refine(hg.block B (GQ hs) fun e=>?_).trans hs
 obtain⟨o,h1,h2⟩:=hr B e.symm
 rw[hs] at h1
 cases h1
 cases h2
theorem Ix (B:Nat) {W W':World} (h:Below W.heap.size W W'):KeepsFrom B W W':=⟨h.size,fun k _ _ hk _=>(h.block k (GQ hk)).trans hk⟩
theorem Sw {β:Type} (B n:Nat):OwnFrom B (fun(_:β) W=>n≤W.heap.size):=fun _ _ _ _ hs hg _=>Nat.le_trans hs hg.size
set_option maxHeartbeats 4000000 in
theorem A9d (w:World) (a0 a1:Option Addr) (gs:List Ab) (cs:List TCell) (key:ByteArray) (cap0 cap1:Nat) (p:Int) (G:Int→TCell→Bool)
    (hP:∀W,Below w.heap.size w W→Calls Tryz.prog 25 #[.slice a0 gs.length cap0] W fun e W'=>e=.returned (.int .i64 p)∧Below W.heap.size W W')
    (hp0:p=0→1≤gs.length∧gs.length≤4)
    (hC:∀(q:Int) (c:TCell) W,Below w.heap.size w W→Calls Tryz.prog 94 #[.int .i64 q,cV c] W fun e W'=>e=.returned (.bool (G q c))∧Below W.heap.size W W')
    (hG:0 <gs.length→∃b off,a0=some ⟨b,off,none⟩∧GsAt w.heap.size w.heap.size w b off gs)
    (hS:0 <cs.length→∃b off,a1=some ⟨b,off,none⟩∧CsAt w.heap.size w.heap.size w b off cs):
    Calls Tryz.prog 54 #[.slice a0 gs.length cap0,.agg #[.string key,.slice a1 cs.length cap1]] w fun e W'=>e=.returned (.int .i64 (QT p G gs key cs))∧Below w.heap.size w W':=by
  refine(callsIn_wide (n:=5)).1 ?_
  refine callsIn_of_wp_marks Tryz.func54 rfl trivial ?_ rfl
  simp only[Tryz.ntmps54,List.size_toArray,List.length_cons,List.length_nil,Nat.reduceAdd,Nat.reduceSub,Array.replicate_succ,Array.replicate_zero,List.push_toArray,List.append_toArray,List.nil_append,List.cons_append]
  have hw2:Below w.heap.size w ((w.alloc (.cells #[.string key,.slice a1 cs.length cap1] 62)).alloc (.cells #[.int .i64 0] 38)):=((Below.refl _ w).alloc (Nat.le_refl _) _).alloc (by simp) _
  have hr1:=NN (.cells #[.int .i64 0] 38) (Hc (w:=w) (.cells #[.string key,.slice a1 cs.length cap1] 62) rfl)
  have hr2:=Hc (w:=w.alloc (.cells #[.string key,.slice a1 cs.length cap1] 62)) (.cells #[.int .i64 0] 38) (n:=w.heap.size+1) (by simp)
  gi_wp2_with (first
    |(refine⟨trivial,?_⟩;gi_at_call 25;refine(callsIn_wide.2 (hP _ hw2)).mono ?_;rintro e W1 ⟨rfl,hb1⟩;have hx1:=Dk hr1 hb1;have hx2:=Dk hr2 hb1;obtain⟨c0,c1⟩:=cb2 hx1;have d0:=cb1 hx2;have f0:=fb1 hx2;have hB1:Below w.heap.size w W1:=hw2.trans (hb1.mono (by simp;omega));clear hr1 hr2 hb1)
    |(refine⟨trivial,?_⟩;gi_at_call 55;refine(A7g _ _ _ _ _ _ _).mono ?_;rintro e W2 ⟨rfl,rfl⟩))
  · have h1:(p !=0)=true:=by assumption
    have e:QT p G gs key cs=p:=by unfold QT;rw[if_pos h1]
    have hc:=cb1 (OU (i:=0) hx2 (.int .i64 p))
    exact⟨.int .i64 p,by simp[results,Tryz.f54,go_sem,hc],by rw[e],hB1.setCell (p:=⟨w.heap.size+1,0,none⟩) (by simp) _⟩
  · have h1:(p !=0)=false:=by assumption
    have h2:key.toList.isEmpty=true:=by assumption
    have e:QT p G gs key cs=2:=by unfold QT;rw[if_neg (by rw[h1];simp),if_pos h2]
    have hc:=cb1 (OU (i:=0) hx2 (.int .i64 2))
    exact⟨.int .i64 2,by simp[results,Tryz.f54,go_sem,hc],by rw[e],hB1.setCell (p:=⟨w.heap.size+1,0,none⟩) (by simp) _⟩
  · have h1:(p !=0)=false:=by assumption
    have h2:key.toList.isEmpty=false:=by assumption
    have h3:32 <(key.size:Int):=by assumption
    have e:QT p G gs key cs=3:=by unfold QT;rw[if_neg (by rw[h1];simp),if_neg (by rw[h2];simp),if_pos h3]
    have hc:=cb1 (OU (i:=0) hx2 (.int .i64 3))
    exact⟨.int .i64 3,by simp[results,Tryz.f54,go_sem,hc],by rw[e],hB1.setCell (p:=⟨w.heap.size+1,0,none⟩) (by simp) _⟩
  · have h1:(p !=0)=false:=by assumption
    have h2:key.toList.isEmpty=false:=by assumption
    have h3:(key.size:Int)≤32:=by assumption
    have h4:((cs.length:Int) !=(gs.length:Int))=true:=by assumption
    have e:QT p G gs key cs=100:=by unfold QT;rw[if_neg (by rw[h1];simp),if_neg (by rw[h2];simp),if_neg (by omega),if_pos h4]
    have hc:=cb1 (OU (i:=0) hx2 (.int .i64 100))
    exact⟨.int .i64 100,by simp[results,Tryz.f54,go_sem,hc],by rw[e],hB1.setCell (p:=⟨w.heap.size+1,0,none⟩) (by simp) _⟩
  have h1:(p !=0)=false:=by assumption
  have h2:key.toList.isEmpty=false:=by assumption
  have h3:(key.size:Int)≤32:=by assumption
  have h4:((cs.length:Int) !=(gs.length:Int))=false:=by assumption
  have e:QT p G gs key cs=bif(gs.zip cs).all (fun x=>G x.1.policy x.2) then 0 else 80:=by unfold QT;rw[if_neg (by rw[h1];simp),if_neg (by rw[h2];simp),if_neg (by omega),if_neg (by rw[h4];simp)]
  have hp:p=0:=by simpa using h1
  clear h1
  subst hp
  have hlen : cs.length = gs.length := by have:(cs.length:Int)=gs.length:=by simpa using h4
                                          omega
  obtain⟨hl1,hl4⟩:=hp0 rfl
  obtain⟨b,off,rfl,hg⟩:=hG (by omega)
  obtain⟨b',off',rfl,hc⟩:=hS (by omega)
  have hW2:Below W1.heap.size W1 ((W1.alloc (.cells #[.slice (some ⟨b,off,none⟩) gs.length cap0] 22)).alloc (.cells #[.string key,.slice (some ⟨b',off',none⟩) cs.length cap1] 62)):=((Below.refl _ W1).alloc (Nat.le_refl _) _).alloc (by simp) _
  have hy2:=NN (.cells #[.string key,.slice (some ⟨b',off',none⟩) cs.length cap1] 62) (Hc (w:=W1) (.cells #[.slice (some ⟨b,off,none⟩) gs.length cap0] 22) rfl)
  have hy3:=Hc (w:=W1.alloc (.cells #[.slice (some ⟨b,off,none⟩) gs.length cap0] 22)) (.cells #[.string key,.slice (some ⟨b',off',none⟩) cs.length cap1] 62) (n:=W1.heap.size+1) (by simp)
  have hz2:=Dk hx2 hW2
  have hs1:=GQ hx2
  have hs2:=GQ hy3
  have hB2:=hB1.trans (hW2.mono hB1.size)
  generalize (W1.alloc (.cells #[.slice (some ⟨b,off,none⟩) gs.length cap0] 22)).alloc (.cells #[.string key,.slice (some ⟨b',off',none⟩) cs.length cap1] 62)=W2 at hW2 hy2 hy3 hz2 hs2 hB2⊢
  have hg2:GsAt W2.heap.size W2.heap.size W2 b off gs:=⟨⟨by have:=hg.1.1;omega,by have:=hg.1.1;omega⟩,fun j g hj=>⟨(hB2.cell (p:=⟨b,_,none⟩) hg.1.1).trans (hg.2 j g hj).1,(hB2.cell (p:=⟨b,_,none⟩) hg.1.1).trans (hg.2 j g hj).2⟩⟩
  have hc2:CsAt W2.heap.size W2.heap.size W2 b' off' cs:=by
    refine⟨⟨by have:=hc.1.1;omega,by have:=hc.1.1;omega⟩,fun j c hj=>?_⟩
    have k:∀o,W2.cell? ⟨b',o,none⟩=w.cell? ⟨b',o,none⟩:=fun o=>hB2.cell (p:=⟨b',o,none⟩) hc.1.1
    simp only[k]
    exact hc.2 j c hj
  refine wpIn_rangeFunc_ownH (F:=Fence.wide) rfl (by omega) (gf:=95) (lb:=#[.pointer (some ⟨W1.heap.size,0,none⟩),.pointer (some ⟨W1.heap.size+1,0,none⟩)]) rfl trivial (enters_of Tryz.func95 (by kernel_rfl) rfl)
    (Ah7 _ (by omega) W1.heap.size (W1.heap.size+1) W2.heap.size W2.heap.size b off cap0 b' off' cap1 gs cs hlen hl4 W2 (Nat.le_refl _) (cb1 hy2) (cb2 hy3).2 ⟨by omega,by omega⟩ ⟨by omega,by omega⟩ hg2 hc2)
    KB.trans (KB.putObj (Nat.le_refl _)) (Below.refl _ _) (fun _=>rfl)
    (fun pre W=>((∀x∈pre,G x.1.policy x.2=true)∧W.heap[w.heap.size+1]?=some (.cells #[.int .i64 0] 38 (0,0)))∧Below w.heap.size w W∧W2.heap.size≤W.heap.size)
    (fun c pre W=>((c=.ret∧∃x∈pre,G x.1.policy x.2=false)∧W.heap[w.heap.size+1]?=some (.cells #[.int .i64 80] 38 (0,0)))∧Below w.heap.size w W∧W2.heap.size≤W.heap.size)
    (OwnFrom.and (OwnFrom.and (ownFrom_pure _ _) (Own.from (Wj _ _ _) _)) (OwnFrom.and (ownFrom_below (Nat.le_refl _) hB2.size) (Sw _ _)))
    (fun c=>OwnFrom.and (OwnFrom.and (ownFrom_pure _ _) (Own.from (Wj _ _ _) _)) (OwnFrom.and (ownFrom_below (Nat.le_refl _) hB2.size) (Sw _ _)))
    ⟨⟨by simp,hz2⟩,hB2,Nat.le_refl _⟩
    (fun x a' W=>(∃B6 B7,a'={tmps:=#[Value.slice (some ⟨b,off,none⟩) gs.length cap0,Value.agg #[Value.string key,Value.slice (some ⟨b',off',none⟩) cs.length cap1],undef,
          Value.pointer (some {block:=w.heap.size,off:=0}),
          Value.pointer (some {block:=w.heap.size+1,off:=0}),Value.int IntKind.i64 0,Value.pointer (some ⟨B6,0,none⟩),Value.pointer (some ⟨B7,0,none⟩),
          Value.slice (some ⟨b,off,none⟩) gs.length cap0,Value.int IntKind.i64 0,Value.int IntKind.i64 0,Value.bool false,undef,
          Value.bool false,Value.pointer (some {block:=w.heap.size,off:=0}),Value.string key,Value.bool false,
          Value.bool (decide (32 <(key.size:Int))),Value.pointer (some {block:=w.heap.size,off:=0}),
          Value.string key,Value.int IntKind.i64 key.size,Value.bool (decide (32 <(key.size:Int))),Value.bool false,
          Value.pointer (some {block:=w.heap.size,off:=1}),Value.slice (some ⟨b',off',none⟩) cs.length cap1,
          Value.int IntKind.i64 cs.length,Value.slice (some ⟨b,off,none⟩) gs.length cap0,Value.int IntKind.i64 gs.length,
          Value.bool false,Value.slice (some ⟨b,off,none⟩) gs.length cap0,Value.agg #[Value.string key,Value.slice (some ⟨b',off',none⟩) cs.length cap1],
          Value.func (Fn.func 95) #[] #[Value.pointer (some {block:=W1.heap.size,off:=0}),Value.pointer (some {block:=W1.heap.size+1,off:=0})],
          gV x.1,cV x.2,undef,undef,undef,undef,undef],defers:=[]}∧
        (W.heap[B6]?=some (.cells #[.string x.1.name,.int .i64 x.1.policy] 106 (0,0))∧W.heap[B7]?=some (.cells #[.int .i64 x.2.stamp.n,.int .i64 x.2.stamp.site,.int .i64 x.2.vec.a,.int .i64 x.2.vec.b,.bool x.2.gone,.string x.2.value,.int .i64 x.2.dead.a,.int .i64 x.2.dead.b] 104 (0,0)))))
    (fun x a'=>Own.from (fun s X Y row hs hgr hr=>by
      obtain⟨B6,B7,e1,e2,e3⟩:=hs
      exact⟨B6,B7,e1,Wj B6 _ _ s X Y row e2 hgr hr,Wj B7 _ _ s X Y row e3 hgr hr⟩) _) ?assign ?body ?done ?stop
  case assign=>
    rintro l pre x W K ⟨⟨i1,i2⟩,i3,i4⟩ hK
    clear hlen h4
    dsimp only[Blo,gV,cV] at hK⊢
    gi_wp2
    have hb:Below W.heap.size W ((W.alloc (.cells #[.string x.1.name,.int .i64 x.1.policy] 106)).alloc (.cells #[.int .i64 x.2.stamp.n,.int .i64 x.2.stamp.site,.int .i64 x.2.vec.a,.int .i64 x.2.vec.b,.bool x.2.gone,.string x.2.value,.int .i64 x.2.dead.a,.int .i64 x.2.dead.b] 104)):=((Below.refl _ W).alloc (Nat.le_refl _) _).alloc (by simp) _
    exact hK _ _ (Ix _ hb) (KB.of_below (hb.mono i4)) ⟨⟨i1,Dk i2 hb⟩,i3.trans (hb.mono i3.size),Nat.le_trans i4 hb.size⟩ ⟨W.heap.size,W.heap.size+1,rfl,NN _ (Hc _ rfl),Hc _ (by simp)⟩
  case body=>
    rintro l pre x a' W hl hr ⟨⟨i1,i2⟩,i3,i5⟩ ⟨B6,B7,rfl,e6,e7⟩ hlt
    obtain⟨k0,k1⟩:=cb2 e6
    obtain⟨m0,m1,m2,m3,m4,m5,m6,m7⟩:=cb8 e7
    have d0:=cb1 i2
    have f0:=fb1 i2
    cases hGx:G x.1.policy x.2 with
    | true=>
      gi_wp2_with (refine⟨trivial,?_⟩;gi_at_call 94;refine(CallsIn.inRound l (callsIn_wide.2 (hC x.1.policy x.2 _ i3))).mono ?_;rw[hGx];rintro e W' ⟨rfl,hb⟩)
      exact⟨Ix _ hb,KB.of_below (hb.mono i5),⟨fun y hy=>(List.mem_append.1 hy).elim (i1 y) (fun e=>by simp at e;subst e;exact hGx),Dk i2 hb⟩,i3.trans (hb.mono i3.size),Nat.le_trans i5 hb.size⟩
    | false=>
      gi_wp2_with (refine⟨trivial,?_⟩;gi_at_call 94;refine(CallsIn.inRound l (callsIn_wide.2 (hC x.1.policy x.2 _ i3))).mono ?_;rw[hGx];rintro e W' ⟨rfl,hb⟩;have i4:=Dk i2 hb;have d4:=cb1 i4;have f4:=fb1 i4)
      exact⟨(Ix _ hb).trans ((KeepsOthers.setCell _ _ _).from _),⟨⟨rfl,x,by simp,hGx⟩,OU (i:=0) i4 (.int .i64 80)⟩,(i3.trans (hb.mono i3.size)).setCell (p:=⟨w.heap.size+1,0,none⟩) (by simp) _,Nat.le_trans i5 (by rw[Adb];exact hb.size)⟩
  case done=>
    rintro D ys W hD rfl ⟨⟨i1,i2⟩,i3,i5⟩ hK
    have d0:=cb1 i2
    have f0:=fb1 i2
    gi_wp2
    have hK':=(KeepsOthers.setCell W ⟨w.heap.size+1,0,none⟩ (.int .i64 0)).same D _ hK rfl
    refine⟨by simp,.inl ⟨_,_,rfl,run_takeDeferred hK',?_⟩⟩
    have hc5:=cell_kept (World.cell?_setCell_same' W ⟨w.heap.size+1,0,none⟩ (.int .i64 0) (by rw[d0];rfl)) (grownBy_putObj' _ D (.deferred none)) (fun r e=>by cases e;exact⟨_,hK',rfl⟩)
    refine⟨.int .i64 0,?_,?_,(i3.setCell (p:=⟨w.heap.size+1,0,none⟩) (by simp) _).trans (belowK_b (w:=w) (Nat.le_refl _) _ D _ _ (by have:=hB2.size;omega) hK' rfl rfl)⟩
    ·simp[results,Tryz.f54,go_sem,hc5]
    ·rw[List.all_eq_true.2 (fun x hx=>i1 x hx)];rfl
  case stop=>
    rintro D c pre W hD ⟨k,hk,rfl⟩ ⟨⟨⟨rfl,x,hx,hGx⟩,i2⟩,i3,i5⟩ hK
    gi_wp2
    refine⟨by simp,.inl ⟨_,_,rfl,run_takeDeferred hK,?_⟩⟩
    have hc5:=cell_kept (cb1 i2) (grownBy_putObj' _ D (.deferred none)) (fun r e=>by cases e;exact⟨_,hK,rfl⟩)
    refine⟨.int .i64 80,?_,?_,i3.trans (belowK_b (w:=w) (Nat.le_refl _) W D _ _ (by have:=hB2.size;omega) hK rfl rfl)⟩
    ·simp[results,Tryz.f54,go_sem,hc5]
    · have:(gs.zip cs).all (fun x=>G x.1.policy x.2)=false:=by
        cases ha:(gs.zip cs).all (fun x=>G x.1.policy x.2) with
        |false=>rfl
        |true=>have:=(List.all_eq_true.1 ha) x (List.mem_of_mem_take hx);rw[hGx] at this;cases this
      rw[this];rfl
end Go.Proofs.YtifkbgkbajncjaaGreatDoor
namespace Go.Proofs.YtifkbgkbajncjaaGreatDoor
open Go.RowKit
def AI (l:List Ab) (r:Ak):Int:=bif Bi l !=0 then Bi l else bif r.key.size==0 then 2 else bif decide (32 <r.key.size) then 3 else bif r.cells.length !=l.length then 100 else bif(l.zip r.cells).all (fun x=>Kn x.1.policy x.2) then 0 else 80
def Ake (a0:List Ab) (a1:Ak):A:=.v (.int .i64 (AI a0 a1))
def Akd (_a0:List Ab) (_a1:Ak):Objs:=[]
def Ac9 (_a0:List Ab) (_a1:Ak):List Prop:=[]
theorem A1d (k:ByteArray):k.toList.isEmpty=(k.size==0):=by
 rw[ByteArray.toList_eq,Bool.eq_iff_iff,List.isEmpty_iff,beq_iff_eq,←Kq]
 exact⟨fun h=>by rw[h];rfl,fun h=>List.eq_nil_of_length_eq_zero h⟩
theorem Bl8 (l:List Ab) (key:ByteArray) (cs:List TCell):QT (Bi l) Kn l key cs=AI l ⟨key,cs⟩:=by
 unfold QT AI
 rw[A1d]
 have e3:decide (32 <((key.size:Nat):Int))=decide (32 <key.size):=decide_eq_decide.2 (by omega)
 have e4:(((cs.length:Nat):Int) !=(l.length:Int))=(cs.length !=l.length):=by
  rw[Bool.eq_iff_iff,bne_iff_ne,bne_iff_ne];omega
 simp only[Bool.cond_eq_ite,e4,decide_eq_true_eq,show(32 <((key.size:Nat):Int))=(32 <key.size) from propext (by omega)]
theorem Azr {R:World} {ad:Addr} {v:Value} (h:R.cell? ad=some v):ad=⟨ad.block,ad.off,none⟩:=by
 cases ad with|mk b o s=>
 cases s with
 |none=>rfl
 |some q=>
  exfalso
  unfold World.cell? at h
  cases hb:R.heap[b]? with
  |none=>simp only[hb] at h;cases h
  |some ob=>cases ob<;>simp[hb] at h
theorem Bpm (b o k j:Nat):((⟨b,o,none⟩:Addr).add k).add j=⟨b,o+k+j,none⟩:=by
 rw[BA,BA]
section
variable {F:Nat→Prop} {N:Nm} {nx:Nat} {R:World}
theorem HC.at0 {l:List A} {b o k j:Nat} {x:Value} (h:HC F N nx R l ((⟨b,o,none⟩:Addr).add k)) (hx:l[j]?=some (.v x)):R.cell? ⟨b,o+k+j,none⟩=some x:=by
 obtain⟨y,h1,h2⟩:=h j _ hx
 rw[Bpm] at h1
 rw[h1,h2.v_inv]
theorem Bs3 {gs:List Ab} {v:Value} (hF:∀g,F g→g <R.heap.size) (h:Hv F N nx R (.sl .group gs) v):
  ∃a cap,v=.slice a gs.length cap∧(0 <gs.length→∃b off,a=some ⟨b,off,none⟩∧GsAt R.heap.size R.heap.size R b off gs):=by
 obtain⟨a,cap,e,_,h2⟩:=h.sl_inv
 refine⟨a,cap,e,fun hn=>?_⟩
 obtain⟨ad,rfl,hb,h3⟩:=h2 hn
 have hlt:=hF _ hb
 obtain⟨y,hy,_⟩:=h3 0 gs[0] (List.getElem?_eq_getElem hn) 0 (.v (.string gs[0].name)) rfl
 rw[Nat.zero_mul,add_zero,add_zero] at hy
 have hs:=Azr hy
 rw[hs] at h3⊢
 refine⟨ad.block,ad.off,rfl,⟨hlt,Nat.ne_of_lt hlt⟩,fun j g hj=>?_⟩
 have h4:=h3 j g hj
 exact⟨h4.at0 (j:=0) (x:=.string g.name) rfl,h4.at0 (j:=1) (x:=.int .i64 g.policy) rfl⟩
theorem Bs0 {cs:List TCell} {v:Value} (hF:∀g,F g→g <R.heap.size) (h:Hv F N nx R (.sl .cell cs) v):
  ∃a cap,v=.slice a cs.length cap∧(0 <cs.length→∃b off,a=some ⟨b,off,none⟩∧CsAt R.heap.size R.heap.size R b off cs):=by
 obtain⟨a,cap,e,_,h2⟩:=h.sl_inv
 refine⟨a,cap,e,fun hn=>?_⟩
 obtain⟨ad,rfl,hb,h3⟩:=h2 hn
 have hlt:=hF _ hb
 obtain⟨y,hy,_⟩:=h3 0 cs[0] (List.getElem?_eq_getElem hn) 0 (.v (.int .i64 cs[0].stamp.n)) rfl
 rw[Nat.zero_mul,add_zero,add_zero] at hy
 have hs:=Azr hy
 rw[hs] at h3⊢
 refine⟨ad.block,ad.off,rfl,⟨hlt,Nat.ne_of_lt hlt⟩,fun j c hj=>?_⟩
 have h4:=h3 j c hj
 exact⟨h4.at0 (j:=0) (x:=.int .i64 c.stamp.n) rfl,h4.at0 (j:=1) (x:=.int .i64 c.stamp.site) rfl,h4.at0 (j:=2) (x:=.int .i64 c.vec.a) rfl,h4.at0 (j:=3) (x:=.int .i64 c.vec.b) rfl,h4.at0 (j:=4) (x:=.bool c.gone) rfl,h4.at0 (j:=5) (x:=.string c.value) rfl,h4.at0 (j:=6) (x:=.int .i64 c.dead.a) rfl,h4.at0 (j:=7) (x:=.int .i64 c.dead.b) rfl⟩
theorem HRel.bare (hF:∀g,F g→g <R.heap.size) (hg:GlobOk F R):HRel F N 0 [] R:=⟨hF,fun _ _ h=>(by cases h),fun _ _ _ h=>(by cases h),fun _ _ _ _ _ h=>(by cases h),hg⟩
end
theorem CallOk.plain {P:Program} {f:FuncId} {args:List A} {x:Value} (h:CallOk P f args 0 [] 1 (.v x) 0 []) {F:Nat→Prop} {N:Nm} {R:World} {vs:List Value} (hF:∀g,F g→g <R.heap.size) (hg:GlobOk F R) (hv:HL F N 0 R args vs):
  Calls P f vs.toArray R fun e R'=>e=.returned x∧Below R.heap.size R R':=
 (h F N R vs (HRel.bare hF hg) hv).mono fun e R' ⟨y,F',N',e1,_,_,h4,h5⟩=>⟨by rw[e1,h4.v_inv],h5 (Nat.le_refl _)⟩
theorem Akc (a0:List Ab) (a1:Ak) (_hp:∀p∈Ac9 a0 a1,p):CallOk Tryz.prog 54 [.sl .group a0,Ai .row a1] 0 [] 1 (Ake a0 a1) 0 (Akd a0 a1):=by
 intro F N R vs hR hv
 obtain⟨v0,vs,rfl,h0,hv⟩:=hv.inv
 obtain⟨v1,vs,rfl,h1,hv⟩:=hv.inv
 rw[hv.inv0]
 obtain⟨us,rfl,h2⟩:=Hv.agg_inv (xs:=[.v (.string a1.key),.sl .cell a1.cells]) h1
 clear h1
 have h1:=h2
 obtain⟨u0,us,rfl,k0,h1⟩:=h1.inv
 obtain⟨u1,us,rfl,k1,h1⟩:=h1.inv
 rw[h1.inv0]
 rw[k0.v_inv]
 obtain⟨aa,cap0,rfl,g0⟩:=Bs3 hR.flt h0
 obtain⟨ab,cap1,rfl,g1⟩:=Bs0 hR.flt k1
 refine(A9d R aa ab a0 a1.cells a1.key cap0 cap1 (Bi a0) Kn ?_ Sg ?_ g0 g1).mono ?_
 ·intro W hW
  exact(U8 a0 (fun _ h=>by cases h)).plain (F:=F) (N:=N) (vs:=[_]) (hR.grow hW).1.flt (hR.grow hW).1.gl (HL.cons (h0.step (hR.grow hW).2) HL.nil)
 ·intro q c W hW
  have h:=(Ahe q c (fun _ h=>by cases h)).plain (F:=F) (N:=N) (R:=W) (vs:=[.int .i64 q,cV c]) (hR.grow hW).1.flt (hR.grow hW).1.gl (HL.cons (.v _) (HL.cons (.v _) HL.nil))
  rw[RZ] at h
  exact h
 ·rintro e W ⟨rfl,hb⟩
  rw[Bl8]
  exact⟨_,F,N,rfl,(hR.grow hb).1,Step.of_below hb,.v _,fun _=>hb⟩
def Aty:List A→Nat→Objs→Option A6:=Bt [.l .group,.t .row] 0 Ake Akd Ac9
theorem A3c:HF Tryz.prog 54 Aty:=Av (ks:=[.l .group,.t .row]) Akc
noncomputable def Bvp:=AS 54 Aty Ch
theorem Bo7:Cr Tryz.prog Bvp:=An A3c Bvo
noncomputable def Ci:=Bvp
theorem Bsi:Cr Tryz.prog Ci:=Bo7
end Go.Proofs.YtifkbgkbajncjaaGreatDoor
namespace Go.Proofs.YtifkbgkbajncjaaGreatDoor
open Go.RowKit
def Ava (k:ByteArray):Int:=bif k.size==0 then 2 else bif decide (32 <k.size) then 3 else 0
def eqC (a b:TCell):Bool:=a.stamp.n==b.stamp.n&&a.stamp.site==b.stamp.site&&(a.vec.a==b.vec.a&&a.vec.b==b.vec.b)&&a.gone==b.gone&&a.value==b.value&&(a.dead.a==b.dead.a&&a.dead.b==b.dead.b)
def Ao0:List TCell→List TCell→Bool
 | [],[]=>true
 |x::xs,y::ys=>eqC x y&&Ao0 xs ys
 |_,_=>false
def Au3 (a b:Ak):Bool:=a.key==b.key&&Ao0 a.cells b.cells
def NT (r:Ak):Bool:=r.cells.all fun c=>eqC c RS
def Agb (a0:ByteArray):Int:=bif a0.toList==(ByteArray.mk #[]).toList then(2:Int) else bif decide ((↑a0.size:Int) >(32:Int)) then(3:Int) else(0:Int)
def Agc (a0:ByteArray):A:=.v (.int .i64 (Agb a0))
def Azb (_a0:ByteArray):Objs:=[]
def Asg (_a0:ByteArray):List Prop:=[]
theorem Bde (a0:ByteArray):Hz (As Ci L0) 9 104 [Ai .str a0] 0 []=some (1,Agc a0,0,Azb a0,Asg a0):=by kernel_rfl
theorem Bi7 (a0:ByteArray) (hp:∀p∈Asg a0,p):CallOk Tryz.prog 104 [Ai .str a0] 0 [] 1 (Agc a0) 0 (Azb a0):=AB (Ar Bsi AA) (Bde a0) hp
def Ash (a0:ByteArray):A:=.v (.int .i64 (Ava a0))
def Asf (_a0:ByteArray):Objs:=[]
def Ai8 (_a0:ByteArray):List Prop:=[]
theorem A08 {a b:TCell}:eqC a b=true↔a=b:=by
 unfold eqC
 simp only[Bool.and_eq_true,beq_iff_eq]
 constructor
 ·rintro⟨⟨⟨⟨⟨h1,h2⟩,h3,h4⟩,h5⟩,h6⟩,h7,h8⟩
  cases a with|mk s v g t d=>cases b with|mk s' v' g' t' d'=>
  cases s;cases s';cases v;cases v';cases d;cases d'
  cases h1;cases h2;cases h3;cases h4;cases h5;cases h6;cases h7;cases h8
  rfl
 ·rintro rfl
  exact⟨⟨⟨⟨⟨rfl,rfl⟩,rfl,rfl⟩,rfl⟩,rfl⟩,rfl,rfl⟩
theorem Aa0:∀{a b:List TCell},Ao0 a b=true↔a=b
 | [],[]=>by simp[Ao0]
 | [],_::_=>by simp[Ao0]
 |_::_,[]=>by simp[Ao0]
 |x::xs,y::ys=>by
  unfold Ao0
  rw[Bool.and_eq_true,A08,Aa0]
  simp
theorem Bls {a b:Ak}:Au3 a b=true↔a=b:=by
 unfold Au3
 rw[Bool.and_eq_true,beq_iff_eq,Aa0]
 cases a;cases b
 simp
theorem Bue:∀(a b:List TCell),a.length=b.length→Ao0 a b=Lf a.length (fun i=>eqC (a.getD i (Ae TC.cell)) (b.getD i (Ae TC.cell))):=fun a b h=>by
 rw[Bool.eq_iff_iff,Aa0,JL]
 constructor
 ·rintro rfl i _
  exact A08.2 rfl
 ·intro g
  refine List.ext_getElem h fun i h1 h2=>?_
  have:=A08.1 (g i h1)
  rw[List.getD_eq_getElem?_getD,List.getD_eq_getElem?_getD,List.getElem?_eq_getElem h1,List.getElem?_eq_getElem h2] at this
  exact this
theorem Bdd (k:ByteArray):Agb k=Ava k:=by
 unfold Agb Ava
 rw[Sr]
 congr 2
 exact dgt k.size 32
theorem Bdc (a0:ByteArray) (_hp:∀p∈Ai8 a0,p):CallOk Tryz.prog 104 [Ai .str a0] 0 [] 1 (Ash a0) 0 (Asf a0):=by
 have h:=Bi7 a0 (fun _ h=>by cases h)
 unfold Agc at h
 rw[Bdd] at h
 exact h
def Azc:List A→Nat→Objs→Option A6:=Bt [.t .str] 0 Ash Asf Ai8
theorem A8h:HF Tryz.prog 104 Azc:=Av (ks:=[.t .str]) Bdc
noncomputable def Bj5:=AS 104 Azc Ci
theorem Az9:Cr Tryz.prog Bj5:=An A8h Bsi
abbrev BM:Type:=(List Ab)×Int×Ak
def LV (x:BM):St:=⟨42,1,[(0,.sl .group x.1),(3,.own 0 0),(6,.v (.int .i64 x.2.1))],[(0,some (.box 62 [.v (.string x.2.2.key),.sl .cell x.2.2.cells]))]⟩
def OC:St→Option BM
 |⟨42,1,[(0,.sl .group z0),(3,.own 0 0),(6,.v (.int .i64 z1))],[(0,some (.box 62 [.v (.string z2),.sl .cell z3]))]⟩=>some (z0,z1,⟨z2,z3⟩)
 |_=>none
theorem Aga:∀s x,OC s=some x→s=LV x:=fun s x h=>by
 unfold OC at h
 split at h
 ·cases h;rfl
 ·cases h
def XR:Cz:=⟨1,1,[0,3,6],[],[(0,0)],[0],[4],[0]⟩
def Av1:CX:=⟨[],[(0,0)],[0,3,6],[0]⟩
def HU (a0:List Ab) (a1:Int) (_a2:Ak):Bool:=!!decide (a1 <(↑a0.length:Int))
def Ds (a0:List Ab) (a1:Int) (a2:Ak):Bool:=(HU a0 a1 a2)&&!FP (a0.getD a1.toNat (Ae TC.group)).2 (a2.2.getD a1.toNat (Ae TC.cell))
def Amb (a0:List Ab) (a1:Int) (a2:Ak):Bool:=(HU a0 a1 a2)&&!(Ds a0 a1 a2)
def Ew (x:BM):BM:=(x.1,IntKind.i64.wrap (x.2.1+(1:Int)),x.2.2)
def Ev (x:BM):Cnd:=some (Amb x.1 x.2.1 x.2.2)
def MR (x:BM):List Prop:=[((HU x.1 x.2.1 x.2.2)=true→(0:Int)≤x.2.1∧x.2.1 <(↑x.1.length:Int)),((HU x.1 x.2.1 x.2.2)=true→(0:Int)≤x.2.1∧x.2.1 <(↑x.2.2.2.length:Int))]
abbrev HV:BM→List Prop:=MR
def Rt (x:BM):AR:=[(some 0,some (!decide (x.2.1 <(↑x.1.length:Int))),⟨42,1,[(4,.dead)],[(0,some (.box 62 [.v (.string x.2.2.1),.sl .cell x.2.2.2]))]⟩),(none,some ((Ds x.1 x.2.1 x.2.2)),⟨42,1,[(4,.v (.int .i64 ((80:Int))))],[(0,some (.box 62 [.v (.string x.2.2.1),.sl .cell x.2.2.2]))]⟩)]
def GB (x:BM):Nat:=((↑x.1.length:Int) - x.2.1).toNat
def Amd (x:BM):BM:=AF Ew Ev (GB x) x
theorem Asb (a0:List Ab) (a1:Int) (a2:Ak):Ba (As Bj5 L0) 9 (Ag Tryz.prog 75 0) XR (LV (a0,a1,a2))=some (MR (a0,a1,a2),Rt (a0,a1,a2),Ev (a0,a1,a2),LV (Ew (a0,a1,a2))):=by kernel_rfl
theorem Asc (a0:List Ab) (a1:Int) (a2:Ak) (hp:∀p∈HV (a0,a1,a2),p):∀p∈MR (a0,a1,a2),p:=hp
noncomputable def Tv:=HB (As Bj5 L0) (Ag Tryz.prog 75 0) XR Av1 OC GB Ew Ev HV Rt
theorem Amc:∀s b ps outs,Tv s=some (b,ps,outs)→Wf s ⟨ps,outs,none⟩∧Bg (As C0 L0) b s ps outs:=
 AT (T:=LV) Az9 AA (u:=9) (by kernel_rfl) (by decide) (fun⟨a0,a1,a2⟩=>Asb a0 a1 a2) (fun⟨a0,a1,a2⟩=>Asc a0 a1 a2) Aga (fun _=>AD (n:=42) rfl) fun _ _=>rfl
noncomputable def XQ:=Dd 0 Tv L0
theorem Ama:G9 XQ:=AH Amc AA
def I5 (_a0:List Ab) (a1:Ak):Bool:=Ava a1.1 !=(0:Int)
def Ih (a0:List Ab) (_a1:Ak):Bool:=Bi a0 !=(0:Int)
def I4 (a0:List Ab) (a1:Ak):BM:=Amd (a0,(0:Int),a1)
def Ig (a0:List Ab) (a1:Ak):Bool:=(↑a1.2.length:Int) !=(↑a0.length:Int)
def Zs (a0:List Ab) (a1:Ak):Int:=bif(Ih a0 a1) then Bi a0 else bif(I5 a0 a1) then Ava a1.1 else bif(Ig a0 a1) then(100:Int) else bif Ds (I4 a0 a1).fst (I4 a0 a1).snd.fst (I4 a0 a1).snd.snd then(80:Int) else(0:Int)
def Zt (a0:List Ab) (a1:Ak):A:=.v (.int .i64 (Zs a0 a1))
def Asd (_a0:List Ab) (_a1:Ak):Objs:=[]
def Ai6 (a0:List Ab) (a1:Ak):List Prop:=[(∀(g:Ab),g∈a0→Am g.1.size),((!(Ih a0 a1))=true→(!(I5 a0 a1))=true→(!(Ig a0 a1))=true→Ax Ew Ev HV (GB (a0,(0:Int),a1)) (a0,(0:Int),a1))]
theorem A8g (a0:List Ab) (a1:Ak):Hz (As Bj5 XQ) 9 75 [.sl .group a0,Ai .row a1] 0 []=some (1,Zt a0 a1,0,Asd a0 a1,[(∀(g:Ab),g∈a0→Am g.1.size),((!(Ih a0 a1))=true→(!(I5 a0 a1))=true→(!(Ig a0 a1))=true→Ag Tryz.prog (75:FuncId) (0:Nat)=Ag Tryz.prog (75:FuncId) (0:Nat)),((!(Ih a0 a1))=true→(!(I5 a0 a1))=true→(!(Ig a0 a1))=true→Ax Ew Ev HV (GB (a0,(0:Int),a1)) (a0,(0:Int),a1))]):=by kernel_rfl
theorem Bdb (a0:List Ab) (a1:Ak) (hp:∀p∈Ai6 a0 a1,p):CallOk Tryz.prog 75 [.sl .group a0,Ai .row a1] 0 [] 1 (Zt a0 a1) 0 (Asd a0 a1):=by
 have n0:=N0 hp
 have n1:((!(Ih a0 a1))=true→(!(I5 a0 a1))=true→(!(Ig a0 a1))=true→Ag Tryz.prog (75:FuncId) (0:Nat)=Ag Tryz.prog (75:FuncId) (0:Nat)):=by intros;rfl
 have n2:=N0 (N1 hp)
 exact AB (Ar Az9 Ama) (A8g a0 a1) (Aa n0 (Aa n1 (Aa n2 Af)))
def Ai7 (a0:List Ab) (a1:Ak):A:=.v (.int .i64 (AI a0 a1))
def Ai5 (_a0:List Ab) (_a1:Ak):Objs:=[]
def Aci (a0:List Ab) (_a1:Ak):List Prop:=[∀g∈a0,Am g.name.size]
theorem Ai4 (l:List Ab) (r:Ak) (hb:∀g∈l,Am g.name.size):(∀p∈Ai6 l r,p)∧Zs l r=AI l r:=by
 have hk2:Ih l r=(Bi l !=0):=rfl
 have hk3:I5 l r=(Ava r.key !=0):=rfl
 have hk0:Ig l r=(r.cells.length !=l.length):=by
  show((r.cells.length:Int) !=(l.length:Int))=_
  rw[Bool.eq_iff_iff,bne_iff_ne,bne_iff_ne];omega
 have main:Ih l r=false→Ig l r=false→Ax Ew Ev HV (GB (l,0,r)) (l,0,r)∧Ds (I4 l r).fst (I4 l r).snd.fst (I4 l r).snd.snd=!(l.zip r.cells).all (fun x=>Kn x.1.policy x.2):=fun h2 h0=>by
  rw[hk0] at h0
  have hlen:r.cells.length=l.length:=by simpa using h0
  have hl4:l.length≤4:=(Sg (by rw[hk2] at h2;simpa using h2)).2
  have hf:∀i:Nat,Ds l (i:Int) r=(decide (i <l.length)&&!Kn (l.getD i (Ae TC.group)).2 (r.2.getD i (Ae TC.cell))):=fun i=>by
   unfold Ds HU
   rw[nn,Mu,Int.toNat_natCast,Vy]
  obtain⟨h1,k,hk,hx,_,_,hb'⟩:=RJ (fun i=>((l,(i:Int),r):BM)) l.length (fun i=>!Kn (l.getD i (Ae TC.group)).2 (r.2.getD i (Ae TC.cell))) Ew Ev HV (GB (l,0,r)) (l,0,r) rfl (by show l.length≤((l.length:Int) - 0).toNat;omega)
   (fun i _ _=>by
    show((!!decide ((i:Int) <(l.length:Int)))&&!Ds l i r)=_
    rw[hf,nn,Mu]
    cases decide (i <l.length)<;>rfl)
   (fun i hi _=>by
    show(l,IntKind.i64.wrap ((i:Int)+1),r)=(l,((i+1:Nat):Int),r)
    rw[Fz (by omega)])
   (fun i _ _=>by
    have hin:(!!decide ((i:Int) <(l.length:Int)))=true→(i:Int) <(l.length:Int):=fun h=>by rw[nn] at h;exact of_decide_eq_true h
    exact Aa (fun h=>⟨by show(0:Int)≤(i:Int);omega,hin h⟩) (Aa (fun h=>⟨by show(0:Int)≤(i:Int);omega,by have:=hin h;show(i:Int) <(r.cells.length:Int);omega⟩) Af))
  refine⟨h1,?_⟩
  have hr:I4 l r=(l,(k:Int),r):=hx
  rw[hr]
  show Ds l (k:Int) r=_
  rw[hf,hb',Bxf l r.cells (Ae TC.group) (Ae TC.cell) (fun g c=>Kn g.policy c) hlen]
  congr 1
  exact J3 fun i _=>Bool.not_not _
 refine⟨Aa hb (Aa (fun h1 _ h3=>(main (by simpa using h1) (by simpa using h3)).1) Af),?_⟩
 unfold Zs AI
 have ek:Ava r.key=bif r.key.size==0 then 2 else bif decide (32 <r.key.size) then 3 else 0:=rfl
 cases h2:Ih l r with
 |true=>rw[hk2] at h2;rw[h2];rfl
 | false=>
  rw[hk2] at h2
  rw[h2,cond_false,cond_false]
  cases h3:I5 l r with
  | true=>
   rw[cond_true]
   rw[hk3,ek] at h3
   rw[ek]
   cases h5:r.key.size==0 with
   |true=>rfl
   |false=>
    rw[h5] at h3
    cases h6:decide (32 <r.key.size) with
    |true=>rfl
    |false=>rw[h6] at h3;cases h3
  | false=>
   rw[hk3,ek] at h3
   have h5:(r.key.size==0)=false:=by
    cases h5:r.key.size==0 with
    |false=>rfl
    |true=>rw[h5] at h3;cases h3
   rw[h5] at h3
   have h6:decide (32 <r.key.size)=false:=by
    cases h6:decide (32 <r.key.size) with
    |false=>rfl
    |true=>rw[h6] at h3;cases h3
   rw[h5,h6,cond_false,cond_false,cond_false]
   cases h0:Ig l r with
   |true=>rw[hk0] at h0;rw[h0];rfl
   |false=>
    rw[cond_false,(main (by rw[hk2];exact h2) h0).2]
    rw[hk0] at h0
    rw[h0,cond_false]
    cases(l.zip r.cells).all (fun x=>Kn x.1.policy x.2)<;>rfl
theorem A8f (a0:List Ab) (a1:Ak) (hp:∀p∈Aci a0 a1,p):CallOk Tryz.prog 75 [.sl .group a0,Ai .row a1] 0 [] 1 (Ai7 a0 a1) 0 (Ai5 a0 a1):=by
 have hb:∀g∈a0,Am g.name.size:=hp _ (List.mem_cons_self ..)
 have h:=Bdb a0 a1 (Ai4 a0 a1 hb).1
 unfold Zt at h
 rw[(Ai4 a0 a1 hb).2] at h
 exact h
def Ase:List A→Nat→Objs→Option A6:=Bt [.l .group,.t .row] 0 Ai7 Ai5 Aci
theorem A2m:HF Tryz.prog 75 Ase:=Av (ks:=[.l .group,.t .row]) A8f
noncomputable def Btz:=AS 75 Ase Bj5
theorem Be5:Cr Tryz.prog Btz:=An A2m Az9
def Zl (a0:TCell) (a1:TCell):Bool:=a0.1.1==a1.1.1&&a0.1.2==a1.1.2&&(a0.2.1==a1.2.1&&a0.2.2==a1.2.2)&&a0.3==a1.3&&a0.4.toList==a1.4.toList&&(a0.5.1==a1.5.1&&a0.5.2==a1.5.2)
def Zm (a0:TCell) (a1:TCell):A:=.v (.bool (Zl a0 a1))
def Arw (_a0:TCell) (_a1:TCell):Objs:=[]
def Aix (_a0:TCell) (_a1:TCell):List Prop:=[]
theorem A8a (a0:TCell) (a1:TCell):Hz (As Btz L0) 9 106 [Ai .cell a0,Ai .cell a1] 0 []=some (1,Zm a0 a1,0,Arw a0 a1,Aix a0 a1):=by kernel_rfl
theorem Bc6 (a0:TCell) (a1:TCell) (hp:∀p∈Aix a0 a1,p):CallOk Tryz.prog 106 [Ai .cell a0,Ai .cell a1] 0 [] 1 (Zm a0 a1) 0 (Arw a0 a1):=AB (Ar Be5 AA) (A8a a0 a1) hp
def Aiy (a0:TCell) (a1:TCell):A:=.v (.bool (eqC a0 a1))
def Aiw (_a0:TCell) (_a1:TCell):Objs:=[]
def Ace (_a0:TCell) (_a1:TCell):List Prop:=[]
theorem A79 (a0:TCell) (a1:TCell) (_hp:∀p∈Ace a0 a1,p):CallOk Tryz.prog 106 [Ai .cell a0,Ai .cell a1] 0 [] 1 (Aiy a0 a1) 0 (Aiw a0 a1):=by
 have h:=Bc6 a0 a1 (fun _ h=>by cases h)
 have e:Zl a0 a1=eqC a0 a1:=by unfold Zl;rw[tlb];rfl
 unfold Zm at h
 rw[e] at h
 exact h
def Arx:List A→Nat→Objs→Option A6:=Bt [.t .cell,.t .cell] 0 Aiy Aiw Ace
theorem A2i:HF Tryz.prog 106 Arx:=Av (ks:=[.t .cell,.t .cell]) A79
noncomputable def Bj6:=AS 106 Arx Btz
theorem A0a:Cr Tryz.prog Bj6:=An A2i Be5
abbrev BN:Type:=Int×Ak×Ak
def LW (x:BN):St:=⟨39,2,[(2,.own 0 0),(3,.own 1 0),(5,.v (.int .i64 x.1))],[(0,some (.box 62 [.v (.string x.2.1.key),.sl .cell x.2.1.cells])),(1,some (.box 62 [.v (.string x.2.2.key),.sl .cell x.2.2.cells]))]⟩
def OF:St→Option BN
 |⟨39,2,[(2,.own 0 0),(3,.own 1 0),(5,.v (.int .i64 z0))],[(0,some (.box 62 [.v (.string z1),.sl .cell z2])),(1,some (.box 62 [.v (.string z3),.sl .cell z4]))]⟩=>some (z0,⟨z1,z2⟩,⟨z3,z4⟩)
 |_=>none
theorem Agf:∀s x,OF s=some x→s=LW x:=fun s x h=>by
 unfold OF at h
 split at h
 ·cases h;rfl
 ·cases h
def XT:Cz:=⟨2,2,[2,3,5],[],[(0,0),(1,1)],[0,1],[4],[0,1]⟩
def Av4:CX:=⟨[],[(0,0),(1,1)],[2,3,5],[0,1]⟩
def HX (a0:Int) (a1:Ak) (_a2:Ak):Bool:=!!decide (a0 <(↑a1.2.length:Int))
def Dt (a0:Int) (a1:Ak) (a2:Ak):Bool:=(HX a0 a1 a2)&&!eqC (a1.2.getD a0.toNat (Ae TC.cell)) (a2.2.getD a0.toNat (Ae TC.cell))
def Amg (a0:Int) (a1:Ak) (a2:Ak):Bool:=(HX a0 a1 a2)&&!(Dt a0 a1 a2)
def Ey (x:BN):BN:=(IntKind.i64.wrap (x.1+(1:Int)),x.2.1,x.2.2)
def Ex (x:BN):Cnd:=some (Amg x.1 x.2.1 x.2.2)
def MS (x:BN):List Prop:=[((HX x.1 x.2.1 x.2.2)=true→(0:Int)≤x.1∧x.1 <(↑x.2.1.2.length:Int)),((HX x.1 x.2.1 x.2.2)=true→(0:Int)≤x.1∧x.1 <(↑x.2.2.2.length:Int))]
abbrev HY:BN→List Prop:=MS
def Ru (x:BN):AR:=[(some 0,some (!decide (x.1 <(↑x.2.1.2.length:Int))),⟨39,2,[(4,.dead)],[(0,some (.box 62 [.v (.string x.2.1.1),.sl .cell x.2.1.2])),(1,some (.box 62 [.v (.string x.2.2.1),.sl .cell x.2.2.2]))]⟩),(none,some ((Dt x.1 x.2.1 x.2.2)),⟨39,2,[(4,.v (.bool (false)))],[(0,some (.box 62 [.v (.string x.2.1.1),.sl .cell x.2.1.2])),(1,some (.box 62 [.v (.string x.2.2.1),.sl .cell x.2.2.2]))]⟩)]
def GC (x:BN):Nat:=((↑x.2.1.2.length:Int) - x.1).toNat
def Ami (x:BN):BN:=AF Ey Ex (GC x) x
theorem Asm (a0:Int) (a1:Ak) (a2:Ak):Ba (As Bj6 L0) 9 (Ag Tryz.prog 93 0) XT (LW (a0,a1,a2))=some (MS (a0,a1,a2),Ru (a0,a1,a2),Ex (a0,a1,a2),LW (Ey (a0,a1,a2))):=by kernel_rfl
theorem Asn (a0:Int) (a1:Ak) (a2:Ak) (hp:∀p∈HY (a0,a1,a2),p):∀p∈MS (a0,a1,a2),p:=hp
noncomputable def Tx:=HB (As Bj6 L0) (Ag Tryz.prog 93 0) XT Av4 OF GC Ey Ex HY Ru
theorem Amh:∀s b ps outs,Tx s=some (b,ps,outs)→Wf s ⟨ps,outs,none⟩∧Bg (As C0 L0) b s ps outs:=
 AT (T:=LW) A0a AA (u:=9) (by kernel_rfl) (by decide) (fun⟨a0,a1,a2⟩=>Asm a0 a1 a2) (fun⟨a0,a1,a2⟩=>Asn a0 a1 a2) Agf (fun _=>AD (n:=39) rfl) fun _ _=>rfl
noncomputable def XS:=Dd 0 Tx L0
theorem Amf:G9 XS:=AH Amh AA
def I6 (a0:Ak) (a1:Ak):BN:=Ami ((0:Int),a0,a1)
def Ii (a0:Ak) (a1:Ak):Bool:=!a0.1.toList==a1.1.toList||(↑a0.2.length:Int) !=(↑a1.2.length:Int)
def Zu (a0:Ak) (a1:Ak):Bool:=bif(Ii a0 a1) then false else bif Dt (I6 a0 a1).fst (I6 a0 a1).snd.fst (I6 a0 a1).snd.snd then false else true
def Zv (a0:Ak) (a1:Ak):A:=.v (.bool (Zu a0 a1))
def Aso (_a0:Ak) (_a1:Ak):Objs:=[]
def Ajc (a0:Ak) (a1:Ak):List Prop:=[((!(Ii a0 a1))=true→Ax Ey Ex HY (GC ((0:Int),a0,a1)) ((0:Int),a0,a1))]
theorem A8k (a0:Ak) (a1:Ak):Hz (As Bj6 XS) 9 93 [Ai .row a0,Ai .row a1] 0 []=some (1,Zv a0 a1,0,Aso a0 a1,[((!(Ii a0 a1))=true→Ag Tryz.prog (93:FuncId) (0:Nat)=Ag Tryz.prog (93:FuncId) (0:Nat)),((!(Ii a0 a1))=true→Ax Ey Ex HY (GC ((0:Int),a0,a1)) ((0:Int),a0,a1))]):=by kernel_rfl
theorem Bdi (a0:Ak) (a1:Ak) (hp:∀p∈Ajc a0 a1,p):CallOk Tryz.prog 93 [Ai .row a0,Ai .row a1] 0 [] 1 (Zv a0 a1) 0 (Aso a0 a1):=by
 have n0:((!(Ii a0 a1))=true→Ag Tryz.prog (93:FuncId) (0:Nat)=Ag Tryz.prog (93:FuncId) (0:Nat)):=by intros;rfl
 have n1:=N0 hp
 exact AB (Ar A0a Amf) (A8k a0 a1) (Aa n0 (Aa n1 Af))
def Ajd (a0:Ak) (a1:Ak):A:=.v (.bool (Au3 a0 a1))
def Ajb (_a0:Ak) (_a1:Ak):Objs:=[]
def Acl (a0:Ak) (_a1:Ak):List Prop:=[Ad a0.cells.length]
theorem Aja (a b:Ak) (hb:Ad a.cells.length):(∀p∈Ajc a b,p)∧Zu a b=Au3 a b:=by
 unfold Ad at hb
 have hk0:Ii a b=(!(a.key==b.key)||a.cells.length !=b.cells.length):=by
  show(!(a.key.toList==b.key.toList)||((a.cells.length:Int) !=(b.cells.length:Int)))=_
  rw[tlb]
  congr 1
  rw[Bool.eq_iff_iff,bne_iff_ne,bne_iff_ne];omega
 have main:Ii a b=false→Ax Ey Ex HY (GC (0,a,b)) (0,a,b)∧Dt (I6 a b).fst (I6 a b).snd.fst (I6 a b).snd.snd=!Ao0 a.cells b.cells:=fun h0=>by
  rw[hk0] at h0
  have hlen:a.cells.length=b.cells.length:=by simpa using(Bool.or_eq_false_iff.1 h0).2
  have hf:∀i:Nat,Dt (i:Int) a b=(decide (i <a.cells.length)&&!eqC (a.2.getD i (Ae TC.cell)) (b.2.getD i (Ae TC.cell))):=fun i=>by
   unfold Dt HX
   rw[nn,Mu,Int.toNat_natCast]
  obtain⟨h1,k,hk,hx,_,_,hb'⟩:=RJ (fun i=>(((i:Int),a,b):BN)) a.cells.length (fun i=>!eqC (a.2.getD i (Ae TC.cell)) (b.2.getD i (Ae TC.cell))) Ey Ex HY (GC (0,a,b)) (0,a,b) rfl (by show a.cells.length≤((a.cells.length:Int) - 0).toNat;omega)
   (fun i _ _=>by
    show((!!decide ((i:Int) <(a.cells.length:Int)))&&!Dt i a b)=_
    rw[hf,nn,Mu]
    cases decide (i <a.cells.length)<;>rfl)
   (fun i hi _=>by
    show(IntKind.i64.wrap ((i:Int)+1),a,b)=(((i+1:Nat):Int),a,b)
    rw[Fz (by omega)])
   (fun i _ _=>by
    have hin:(!!decide ((i:Int) <(a.cells.length:Int)))=true→(i:Int) <(a.cells.length:Int):=fun h=>by rw[nn] at h;exact of_decide_eq_true h
    exact Aa (fun h=>⟨by show(0:Int)≤(i:Int);omega,hin h⟩) (Aa (fun h=>⟨by show(0:Int)≤(i:Int);omega,by have:=hin h;show(i:Int) <(b.cells.length:Int);omega⟩) Af))
  refine⟨h1,?_⟩
  have hr:I6 a b=((k:Int),a,b):=hx
  rw[hr]
  show Dt (k:Int) a b=_
  rw[hf,hb',Bue _ _ hlen]
  congr 1
  exact J3 fun i _=>Bool.not_not _
 refine⟨Aa (fun h=>(main (by simpa using h)).1) Af,?_⟩
 unfold Zu Au3
 cases h0:Ii a b with
 | true=>
  rw[hk0] at h0
  rw[cond_true]
  cases hk:a.key==b.key with
  |false=>rfl
  |true=>
   rw[hk] at h0
   have hne:a.cells.length≠b.cells.length:=by simpa using h0
   cases he:Ao0 a.cells b.cells with
   |false=>rfl
   |true=>exact absurd (congrArg List.length (Aa0.1 he)) hne
 |false=>
  rw[cond_false,(main h0).2]
  rw[hk0] at h0
  have:(a.key==b.key)=true:=by simpa using(Bool.or_eq_false_iff.1 h0).1
  rw[this,Bool.true_and]
  cases Ao0 a.cells b.cells<;>rfl
theorem A8j (a0:Ak) (a1:Ak) (hp:∀p∈Acl a0 a1,p):CallOk Tryz.prog 93 [Ai .row a0,Ai .row a1] 0 [] 1 (Ajd a0 a1) 0 (Ajb a0 a1):=by
 have hb:Ad a0.cells.length:=hp _ (List.mem_cons_self ..)
 have h:=Bdi a0 a1 (Aja a0 a1 hb).1
 unfold Zv at h
 rw[(Aja a0 a1 hb).2] at h
 exact h
def Asp:List A→Nat→Objs→Option A6:=Bt [.t .row,.t .row] 0 Ajd Ajb Acl
theorem A2p:HF Tryz.prog 93 Asp:=Av (ks:=[.t .row,.t .row]) A8j
noncomputable def Bj7:=AS 93 Asp Bj6
theorem A0b:Cr Tryz.prog Bj7:=An A2p A0a
abbrev B9:Type:=Int×Ak
def LU (x:B9):St:=⟨19,1,[(1,.own 0 0),(3,.v (.int .i64 x.1))],[(0,some (.box 62 [.v (.string x.2.key),.sl .cell x.2.cells]))]⟩
def OB:St→Option B9
 |⟨19,1,[(1,.own 0 0),(3,.v (.int .i64 z0))],[(0,some (.box 62 [.v (.string z1),.sl .cell z2]))]⟩=>some (z0,⟨z1,z2⟩)
 |_=>none
theorem Af9:∀s x,OB s=some x→s=LU x:=fun s x h=>by
 unfold OB at h
 split at h
 ·cases h;rfl
 ·cases h
def XP:Cz:=⟨1,1,[1,3],[],[(0,0)],[0],[2],[0]⟩
def Av0:CX:=⟨[],[(0,0)],[1,3],[0]⟩
def Js (a0:Int) (a1:Ak):Bool:=!!decide (a0 <(↑a1.2.length:Int))
def Eu (a0:Int) (a1:Ak):Bool:=(Js a0 a1)&&!eqC (a1.2.getD a0.toNat (Ae TC.cell)) (TCell.mk (TStamp.mk (0:Int) (0:Int)) (TVec.mk (0:Int) (0:Int)) false (ByteArray.mk #[]) (TVec.mk (0:Int) (0:Int)))
def Al8 (a0:Int) (a1:Ak):Bool:=(Js a0 a1)&&!(Eu a0 a1)
def GA (x:B9):B9:=(IntKind.i64.wrap (x.1+(1:Int)),x.2)
def Gz (x:B9):Cnd:=some (Al8 x.1 x.2)
def MP (x:B9):List Prop:=[((Js x.1 x.2)=true→(0:Int)≤x.1∧x.1 <(↑x.2.2.length:Int))]
abbrev I3:B9→List Prop:=MP
def Rs (x:B9):AR:=[(some 0,some (!decide (x.1 <(↑x.2.2.length:Int))),⟨19,1,[(2,.dead)],[(0,some (.box 62 [.v (.string x.2.1),.sl .cell x.2.2]))]⟩),(none,some ((Eu x.1 x.2)),⟨19,1,[(2,.v (.bool (false)))],[(0,some (.box 62 [.v (.string x.2.1),.sl .cell x.2.2]))]⟩)]
def HT (x:B9):Nat:=((↑x.2.2.length:Int) - x.1).toNat
def MQ (x:B9):B9:=AF GA Gz (HT x) x
theorem Ar7 (a0:Int) (a1:Ak):Ba (As Bj7 L0) 9 (Ag Tryz.prog 76 0) XP (LU (a0,a1))=some (MP (a0,a1),Rs (a0,a1),Gz (a0,a1),LU (GA (a0,a1))):=by kernel_rfl
theorem Ar8 (a0:Int) (a1:Ak) (hp:∀p∈I3 (a0,a1),p):∀p∈MP (a0,a1),p:=hp
noncomputable def Tu:=HB (As Bj7 L0) (Ag Tryz.prog 76 0) XP Av0 OB HT GA Gz I3 Rs
theorem Al9:∀s b ps outs,Tu s=some (b,ps,outs)→Wf s ⟨ps,outs,none⟩∧Bg (As C0 L0) b s ps outs:=
 AT (T:=LU) A0b AA (u:=9) (by kernel_rfl) (by decide) (fun⟨a0,a1⟩=>Ar7 a0 a1) (fun⟨a0,a1⟩=>Ar8 a0 a1) Af9 (fun _=>AD (n:=19) rfl) fun _ _=>rfl
noncomputable def XO:=Dd 0 Tu L0
theorem Al7:G9 XO:=AH Al9 AA
def Zq (a0:Ak):Bool:=bif Eu (MQ ((0:Int),a0)).fst (MQ ((0:Int),a0)).snd then false else true
def Zr (a0:Ak):A:=.v (.bool (Zq a0))
def Ar9 (_a0:Ak):Objs:=[]
def Ai2 (a0:Ak):List Prop:=[(Ax GA Gz I3 (HT ((0:Int),a0)) ((0:Int),a0))]
theorem A8e (a0:Ak):Hz (As Bj7 XO) 9 76 [Ai .row a0] 0 []=some (1,Zr a0,0,Ar9 a0,[(Ag Tryz.prog (76:FuncId) (0:Nat)=Ag Tryz.prog (76:FuncId) (0:Nat)),(Ax GA Gz I3 (HT ((0:Int),a0)) ((0:Int),a0))]):=by kernel_rfl
theorem Bda (a0:Ak) (hp:∀p∈Ai2 a0,p):CallOk Tryz.prog 76 [Ai .row a0] 0 [] 1 (Zr a0) 0 (Ar9 a0):=by
 have n1:=N0 hp
 exact AB (Ar A0b Al7) (A8e a0) (Aa rfl (Aa n1 Af))
def Ai3 (a0:Ak):A:=.v (.bool (NT a0))
def Ai1 (_a0:Ak):Objs:=[]
def Ach (a0:Ak):List Prop:=[Ad a0.cells.length]
theorem Ai0 (a:Ak) (hb:Ad a.cells.length):(∀p∈Ai2 a,p)∧Zq a=NT a:=by
 unfold Ad at hb
 have hf:∀i:Nat,Eu (i:Int) a=(decide (i <a.cells.length)&&!eqC (a.2.getD i (Ae TC.cell)) RS):=fun i=>by
  unfold Eu Js
  rw[nn,Mu,Int.toNat_natCast]
  rfl
 obtain⟨h1,k,hk,hx,_,_,hb'⟩:=RJ (fun i=>(((i:Int),a):B9)) a.cells.length (fun i=>!eqC (a.2.getD i (Ae TC.cell)) RS) GA Gz I3 (HT (0,a)) (0,a) rfl (by show a.cells.length≤((a.cells.length:Int) - 0).toNat;omega)
  (fun i _ _=>by
   show((!!decide ((i:Int) <(a.cells.length:Int)))&&!Eu i a)=_
   rw[hf,nn,Mu]
   cases decide (i <a.cells.length)<;>rfl)
  (fun i hi _=>by
   show(IntKind.i64.wrap ((i:Int)+1),a)=(((i+1:Nat):Int),a)
   rw[Fz (by omega)])
  (fun i _ _=>Aa (fun h=>⟨by show(0:Int)≤(i:Int);omega,by
   have h':(!!decide ((i:Int) <(a.cells.length:Int)))=true:=h
   rw[nn] at h';exact of_decide_eq_true h'⟩) Af)
 refine⟨Aa h1 Af,?_⟩
 have hr:MQ (0,a)=((k:Int),a):=hx
 unfold Zq
 rw[hr]
 show(bif Eu (k:Int) a then false else true)=_
 rw[hf,hb']
 unfold NT
 rw[Bk5 a.cells (Ae TC.cell)]
 rw[show Lf a.cells.length (fun i=>!!eqC (a.2.getD i (Ae TC.cell)) RS)=Lf a.cells.length (fun i=>eqC (a.cells.getD i (Ae TC.cell)) RS) from J3 fun i _=>Bool.not_not _]
 cases Lf a.cells.length (fun i=>eqC (a.cells.getD i (Ae TC.cell)) RS)<;>rfl
theorem A8d (a0:Ak) (hp:∀p∈Ach a0,p):CallOk Tryz.prog 76 [Ai .row a0] 0 [] 1 (Ai3 a0) 0 (Ai1 a0):=by
 have hb:Ad a0.cells.length:=hp _ (List.mem_cons_self ..)
 have h:=Bda a0 (Ai0 a0 hb).1
 unfold Zr at h
 rw[(Ai0 a0 hb).2] at h
 exact h
def Asa:List A→Nat→Objs→Option A6:=Bt [.t .row] 0 Ai3 Ai1 Ach
theorem A2l:HF Tryz.prog 76 Asa:=Av (ks:=[.t .row]) A8d
noncomputable def Bj8:=AS 76 Asa Bj7
theorem A0c:Cr Tryz.prog Bj8:=An A2l A0b
abbrev BP:Type:=(List TCell)×Int×Int
def L7 (x:BP):St:=⟨16,1,[(6,.sl .cell x.1),(7,.v (.int .i64 x.2.1)),(8,.v (.int .i64 x.2.2))],[]⟩
def OT:St→Option BP
 |⟨16,1,[(6,.sl .cell z0),(7,.v (.int .i64 z1)),(8,.v (.int .i64 z2))],[]⟩=>some (z0,z1,z2)
 |_=>none
theorem Agw:∀s x,OT s=some x→s=L7 x:=fun s x h=>by
 unfold OT at h
 split at h
 ·cases h;rfl
 ·cases h
def Ye:Cz:=⟨1,1,[6,7,8],[],[],[],[2],[]⟩
def Awm:CX:=⟨[],[],[6,7,8],[]⟩
def EL (a0:List TCell) (a1:Int) (a2:Int):Bool:=!!decide (a2 <a1)&&!((a0.getD a2.toNat (Ae TC.cell)).1.1==(0:Int)&&(a0.getD a2.toNat (Ae TC.cell)).1.2==(0:Int)&&((a0.getD a2.toNat (Ae TC.cell)).2.1==(0:Int)&&(a0.getD a2.toNat (Ae TC.cell)).2.2==(0:Int)&&((a0.getD a2.toNat (Ae TC.cell)).3==false&&((a0.getD a2.toNat (Ae TC.cell)).4.toList==(ByteArray.mk #[]).toList&&((a0.getD a2.toNat (Ae TC.cell)).5.1==(0:Int)&&(a0.getD a2.toNat (Ae TC.cell)).5.2==(0:Int))))))
def Am5 (a0:List TCell) (a1:Int) (a2:Int):Bool:=!!decide (a2 <a1)&&!(EL a0 a1 a2)
def GN (x:BP):BP:=(x.1,x.2.1,IntKind.i64.wrap (x.2.2+(1:Int)))
def GM (x:BP):Cnd:=some (Am5 x.1 x.2.1 x.2.2)
def M4 (x:BP):List Prop:=[((!!decide (x.2.2 <x.2.1))=true→(0:Int)≤x.2.2∧x.2.2 <(↑x.1.length:Int))]
abbrev Jc:BP→List Prop:=M4
def RI (x:BP):AR:=[(some 0,some (!decide (x.2.2 <x.2.1)),⟨16,1,[(2,.dead)],[]⟩),(none,some ((EL x.1 x.2.1 x.2.2)),⟨16,2,[(2,.v (.bool (false)))],[]⟩)]
def Ia (x:BP):Nat:=(x.2.1 - x.2.2).toNat
def Am7 (x:BP):BP:=AF GN GM (Ia x) x
theorem Atu (a0:List TCell) (a1:Int) (a2:Int):Ba (As Bj8 L0) 9 (Ag Tryz.prog 70 0) Ye (L7 (a0,a1,a2))=some (M4 (a0,a1,a2),RI (a0,a1,a2),GM (a0,a1,a2),L7 (GN (a0,a1,a2))):=by kernel_rfl
theorem Atv (a0:List TCell) (a1:Int) (a2:Int) (hp:∀p∈Jc (a0,a1,a2),p):∀p∈M4 (a0,a1,a2),p:=hp
noncomputable def TR:=HB (As Bj8 L0) (Ag Tryz.prog 70 0) Ye Awm OT Ia GN GM Jc RI
theorem Am6:∀s b ps outs,TR s=some (b,ps,outs)→Wf s ⟨ps,outs,none⟩∧Bg (As C0 L0) b s ps outs:=
 AT (T:=L7) A0c AA (u:=9) (by kernel_rfl) (by decide) (fun⟨a0,a1,a2⟩=>Atu a0 a1 a2) (fun⟨a0,a1,a2⟩=>Atv a0 a1 a2) Agw (fun _=>AD (n:=16) rfl) fun _ _=>rfl
noncomputable def Yd:=Dd 0 TR L0
theorem Am4:G9 Yd:=AH Am6 AA
def PL (a0:Ak):BP:=Am7 (a0.2,(↑a0.2.length:Int),(0:Int))
def ZQ (a0:Ak):Bool:=bif EL (PL a0).fst (PL a0).snd.fst (PL a0).snd.snd then false else true
def ZR (a0:Ak):A:=.v (.bool (ZQ a0))
def Atw (_a0:Ak):Objs:=[]
def Aka (a0:Ak):List Prop:=[(Ax GN GM Jc (Ia (a0.2,(↑a0.2.length:Int),(0:Int))) (a0.2,(↑a0.2.length:Int),(0:Int)))]
theorem A9g (a0:Ak):Hz (As Bj8 Yd) 9 70 [Ai .row a0] 0 []=some (1,ZR a0,0,Atw a0,[(Ag Tryz.prog (70:FuncId) (0:Nat)=Ag Tryz.prog (70:FuncId) (0:Nat)),(Ax GN GM Jc (Ia (a0.2,(↑a0.2.length:Int),(0:Int))) (a0.2,(↑a0.2.length:Int),(0:Int)))]):=by kernel_rfl
theorem Bd4 (a0:Ak) (hp:∀p∈Aka a0,p):CallOk Tryz.prog 70 [Ai .row a0] 0 [] 1 (ZR a0) 0 (Atw a0):=by
 have n1:=N0 hp
 exact AB (Ar A0c Am4) (A9g a0) (Aa rfl (Aa n1 Af))
def Akb (a0:Ak):A:=.v (.bool (NT a0))
def Aj9 (_a0:Ak):Objs:=[]
def Ac8 (a0:Ak):List Prop:=[Ad a0.cells.length]
theorem Aj8 (a:Ak) (hb:Ad a.cells.length):(∀p∈Aka a,p)∧ZQ a=NT a:=by
 unfold Ad at hb
 have hz:∀c:TCell,(c.1.1==(0:Int)&&c.1.2==(0:Int)&&(c.2.1==(0:Int)&&c.2.2==(0:Int)&&(c.3==false&&(c.4.toList==(ByteArray.mk #[]).toList&&(c.5.1==(0:Int)&&c.5.2==(0:Int))))))=eqC c RS:=fun c=>by
  rw[tlb]
  unfold eqC RS
  simp only[Bool.and_assoc]
 have hf:∀i:Nat,EL a.2 (a.2.length:Int) (i:Int)=(decide (i <a.cells.length)&&!eqC (a.2.getD i (Ae TC.cell)) RS):=fun i=>by
  unfold EL
  rw[nn,Mu,Int.toNat_natCast,hz]
 obtain⟨h1,k,hk,hx,_,_,hb'⟩:=RJ (fun i=>((a.2,(a.2.length:Int),(i:Int)):BP)) a.cells.length (fun i=>!eqC (a.2.getD i (Ae TC.cell)) RS) GN GM Jc (Ia (a.2,(a.2.length:Int),0)) (a.2,(a.2.length:Int),0) rfl (by show a.cells.length≤((a.cells.length:Int) - 0).toNat;omega)
  (fun i _ _=>by
   show((!!decide ((i:Int) <(a.cells.length:Int)))&&!EL a.2 (a.2.length:Int) i)=_
   rw[hf,nn,Mu]
   cases decide (i <a.cells.length)<;>rfl)
  (fun i hi _=>by
   show(a.2,(a.2.length:Int),IntKind.i64.wrap ((i:Int)+1))=(a.2,(a.2.length:Int),((i+1:Nat):Int))
   rw[Fz (by omega)])
  (fun i _ _=>Aa (fun h=>⟨by show(0:Int)≤(i:Int);omega,by
   have h':(!!decide ((i:Int) <(a.cells.length:Int)))=true:=h
   rw[nn] at h';exact of_decide_eq_true h'⟩) Af)
 refine⟨Aa h1 Af,?_⟩
 have hr:PL a=(a.2,(a.2.length:Int),(k:Int)):=hx
 unfold ZQ
 rw[hr]
 show(bif EL a.2 (a.2.length:Int) (k:Int) then false else true)=_
 rw[hf,hb']
 unfold NT
 rw[Bk5 a.cells (Ae TC.cell)]
 rw[show Lf a.cells.length (fun i=>!!eqC (a.2.getD i (Ae TC.cell)) RS)=Lf a.cells.length (fun i=>eqC (a.cells.getD i (Ae TC.cell)) RS) from J3 fun i _=>Bool.not_not _]
 cases Lf a.cells.length (fun i=>eqC (a.cells.getD i (Ae TC.cell)) RS)<;>rfl
theorem A9f (a0:Ak) (hp:∀p∈Ac8 a0,p):CallOk Tryz.prog 70 [Ai .row a0] 0 [] 1 (Akb a0) 0 (Aj9 a0):=by
 have hb:Ad a0.cells.length:=hp _ (List.mem_cons_self ..)
 have h:=Bd4 a0 (Aj8 a0 hb).1
 unfold ZR at h
 rw[(Aj8 a0 hb).2] at h
 exact h
def Atx:List A→Nat→Objs→Option A6:=Bt [.t .row] 0 Akb Aj9 Ac8
theorem A3b:HF Tryz.prog 70 Atx:=Av (ks:=[.t .row]) A9f
noncomputable def Bvq:=AS 70 Atx Bj8
theorem Bo8:Cr Tryz.prog Bvq:=An A3b A0c
noncomputable def Cj:=Bvq
theorem Bvr:Cr Tryz.prog Cj:=Bo8
end Go.Proofs.YtifkbgkbajncjaaGreatDoor
namespace Go.Proofs.YtifkbgkbajncjaaGreatDoor
open Go.RowKit
noncomputable def Ck:=Cj
theorem Bvs:Cr Tryz.prog Ck:=Bvr
end Go.Proofs.YtifkbgkbajncjaaGreatDoor
namespace Go.Proofs.YtifkbgkbajncjaaGreatDoor
open Go.RowKit
theorem IE {l:List Ab} {r:Ak} (h:AI l r=0):Bi l=0∧r.cells.length=l.length∧r.key.size≠0∧r.key.size≤32∧(l.zip r.cells).all (fun x=>Kn x.1.policy x.2)=true:=by
 unfold AI at h
 cases h1:Bi l !=0 with
 |true=>rw[h1,cond_true] at h;rw[h] at h1;cases h1
 | false=>
  rw[h1,cond_false] at h
  cases h2:r.key.size==0 with
  |true=>rw[h2] at h;cases h
  | false=>
   rw[h2,cond_false] at h
   cases h3:decide (32 <r.key.size) with
   |true=>rw[h3] at h;cases h
   | false=>
    rw[h3,cond_false] at h
    cases h4:r.cells.length !=l.length with
    |true=>rw[h4] at h;cases h
    | false=>
     rw[h4,cond_false] at h
     cases h5:(l.zip r.cells).all (fun x=>Kn x.1.policy x.2) with
     |false=>rw[h5] at h;cases h
     |true=>
      have:=of_decide_eq_false h3
      exact⟨by simpa using h1,by simpa using h4,by simpa using h2,by omega,rfl⟩
noncomputable def Cl:=Ck
theorem Be6:Cr Tryz.prog Cl:=Bvs
end Go.Proofs.YtifkbgkbajncjaaGreatDoor
namespace Go.Proofs.YtifkbgkbajncjaaGreatDoor
open Go.RowKit Go.Shelf
attribute [local go_sem] Oper.semAt_some
def OwnB (base:Nat) (W:World) (y:Value) (bs:List UInt8):Prop:=OwnR W 5 1 y bs.length (bs.map AY)∧∀g,BY y=some g→base≤g
theorem OwnB.keep {base:Nat} {W W':World} {y:Value} {bs:List UInt8} (h:OwnB base W y bs) (hk:∀g,base≤g→BY y=some g→W'.heap[g]?=W.heap[g]?):OwnB base W' y bs:=⟨h.1.keep fun g hg=>hk g (h.2 g hg) hg,h.2⟩
theorem OwnB.mono {b b':Nat} {W:World} {y:Value} {bs:List UInt8} (h:OwnB b W y bs) (hb:b'≤b):OwnB b' W y bs:=⟨h.1,fun g hg=>Nat.le_trans hb (h.2 g hg)⟩
theorem Bm2 (b0 b:Nat) (t:TypeId) (f:List (Ab×TCell)→List UInt8):Own (fun s W=>∃y,W.heap[b0]?=some (.cells #[y] t (0,0))∧OwnB b W y (f s)):=fun s W W' row ⟨y,h1,h2⟩ hg hr=>by
 have key:∀(g:Nat) (o:Obj),W.heap[g]?=some o→o.isCells=true→W'.heap[g]?=W.heap[g]?:=fun g o ho hc=>by
  refine hg.block g (GQ ho) fun e=>?_
  obtain⟨o',h3,h4⟩:=hr g e.symm
  rw[ho] at h3
  cases h3
  rw[hc] at h4
  cases h4
 refine⟨y,(key b0 _ h1 rfl).trans h1,h2.keep fun g _ hgy=>?_⟩
 rcases h2.1.2 with⟨a,e1,_⟩|⟨g',cap,cur,e1,e3,_⟩
 ·rw[e1] at hgy;cases a<;>cases hgy
 ·rw[e1] at hgy
  cases hgy
  exact key _ _ e3 rfl
theorem OwnB.form {base:Nat} {W:World} {y:Value} {bs:List UInt8} (h:OwnB base W y bs):∃a n c,y=.slice a n c:=by
 obtain⟨a,c,e,_⟩:=h.1.form
 exact⟨a,_,c,e⟩
theorem KB.setCell {n₀ X:Nat} (W:World) (v:Value):KB n₀ X W (W.setCell ⟨X,0,none⟩ v):=
 ⟨rfl,rfl,rfl,by rw[Adb];exact Nat.le_refl _,fun k _ hk=>Below.heap_setCell W ⟨X,0,none⟩ v k hk⟩
theorem A6j {α:Type} (F:α→List UInt8) (n:Nat) (h:∀x,(F x).length≤n):∀l:List α,(l.flatMap F).length≤l.length*n
 | []=>by simp
 |x::r=>by
  have:=A6j F n h r
  have:=h x
  rw[List.flatMap_cons,List.length_append,List.length_cons,Nat.succ_mul]
  omega
set_option maxHeartbeats 1000000 in
theorem Bd7 (w:World) (a0 a1:Option Addr) (gs:List Ab) (cs:List TCell) (key:ByteArray) (cap0 cap1:Nat) (na ncap:Nat) (ab:Option Addr) (b0:List UInt8) (pc:Int→TCell→List UInt8) (Nx:Nat)
  (hpc:∀q c,(pc q c).length≤Nx)
  (hGd:∀W,Below w.heap.size w W→Calls Tryz.prog 54 #[.slice a0 gs.length cap0,.agg #[.string key,.slice a1 cs.length cap1]] W fun e W'=>e=.returned (.int .i64 0)∧Below W.heap.size W W')
  (hl1:1≤gs.length) (hl4:gs.length≤4) (hlen0:Nat.beq cs.length gs.length=true)
  (hPT:∀W,Below w.heap.size w W→Calls Tryz.prog 53 #[.slice ab na ncap,.string key] W fun e W'=>∃y,e=.returned y∧Below W.heap.size W W'∧OwnB W.heap.size W' y b0)
  (hCP:∀W v bs q c base,Below w.heap.size w W→OwnB base W v bs→bs.length≤b0.length+4*Nx→Calls Tryz.prog 56 #[v,.int .i64 q,cV c] W fun e W'=>∃y,e=.returned y∧Below W.heap.size W W'∧OwnB W.heap.size W' y (bs++pc q c))
  (hG:0 <gs.length→∃b off,a0=some ⟨b,off,none⟩∧GsAt w.heap.size w.heap.size w b off gs)
  (hS:0 <cs.length→∃b off,a1=some ⟨b,off,none⟩∧CsAt w.heap.size w.heap.size w b off cs):
  Calls Tryz.prog 21 #[.slice ab na ncap,.slice a0 gs.length cap0,.agg #[.string key,.slice a1 cs.length cap1]] w fun e W'=>∃y,e=.returned y∧Below w.heap.size w W'∧OwnB w.heap.size W' y (b0++(gs.zip cs).flatMap (fun x=>pc x.1.policy x.2)):=by
 refine(callsIn_wide (n:=5)).1 ?_
 refine callsIn_of_wp_marks Tryz.func21 rfl trivial ?_ rfl
 simp only[Tryz.ntmps21,List.size_toArray,List.length_cons,List.length_nil,Nat.reduceAdd,Nat.reduceSub,Array.replicate_succ,Array.replicate_zero,List.push_toArray,List.append_toArray,List.nil_append,List.cons_append]
 have hw2:Below w.heap.size w ((w.alloc (.cells #[.slice ab na ncap] 37)).alloc (.cells #[.string key,.slice a1 cs.length cap1] 62)):=((Below.refl _ w).alloc (Nat.le_refl _) _).alloc (by simp) _
 have hr1:=NN (.cells #[.string key,.slice a1 cs.length cap1] 62) (Hc (w:=w) (.cells #[.slice ab na ncap] 37) rfl)
 have hr2:=Hc (w:=w.alloc (.cells #[.slice ab na ncap] 37)) (.cells #[.string key,.slice a1 cs.length cap1] 62) (n:=w.heap.size+1) (by simp)
 obtain⟨k0,k1⟩:=cb2 hr2
 have k2:=cb1 hr1
 gi_wp2_with (first
  |(refine⟨trivial,?_⟩;gi_at_call 54;refine(callsIn_wide.2 (hGd _ hw2)).mono ?_;rintro e W1 ⟨rfl,hb1⟩;have hx1:=Dk hr1 hb1;have hx2:=Dk hr2 hb1;have d0:=cb1 hx1;have f0:=fb1 hx1;obtain⟨c0,c1⟩:=cb2 hx2;have hB1:Below w.heap.size w W1:=hw2.trans (hb1.mono (by simp;omega));clear hr1 hr2 hb1 k0 k1 k2)
  |(refine⟨trivial,?_⟩;gi_at_call 53;refine(callsIn_wide.2 (hPT _ hB1)).mono ?_;rintro e W2 ⟨y0,rfl,hb2,hy0⟩;obtain⟨ya,yc,rfl,hyc⟩:=hy0.1.form;have hz1:=Dk hx1 hb2;have hz2:=Dk hx2 hb2;have d2:=cb1 hz1;have f2:=fb1 hz1;obtain⟨c2,c3⟩:=cb2 hz2;have hB2:Below w.heap.size w W2:=hB1.trans (hb2.mono hB1.size);clear d0 f0 c0 c1)
  |(refine⟨trivial,?_⟩;gi_at_call 55;refine(A7g _ _ _ _ _ _ _).mono ?_;rintro e W3 ⟨rfl,rfl⟩))
 have hlen:cs.length=gs.length:=Nat.eq_of_beq_eq_true hlen0
 have hy1:=OU (i:=0) hz1 (.slice ya b0.length yc)
 have hy2:=Brj hz2 (p:=⟨w.heap.size,0,none⟩) (by simp) (.slice ya b0.length yc)
 have hB3:Below w.heap.size w (W2.setCell ⟨w.heap.size,0,none⟩ (.slice ya b0.length yc)):=hB2.setCell (p:=⟨w.heap.size,0,none⟩) (Nat.le_refl _) _
 have hs1:=GQ hx2
 have hs2:=GQ hy2
 have hyo:OwnB (w.heap.size+1) (W2.setCell ⟨w.heap.size,0,none⟩ (.slice ya b0.length yc)) (.slice ya b0.length yc) b0:=(hy0.mono (Nat.le_of_lt hs1)).keep fun g hg _=>Below.heap_setCell W2 ⟨w.heap.size,0,none⟩ _ g (by simp;omega)
 have hVs:(W2.setCell ⟨w.heap.size,0,none⟩ (.slice ya b0.length yc)).heap.size=W2.heap.size:=Adb _ _ _
 rw[←hVs]
 generalize W2.setCell ⟨w.heap.size,0,none⟩ (.slice ya b0.length yc)=V at hy1 hy2 hB3 hs2 hyo⊢
 clear hVs
 clear hz1 hz2 d2 f2 c2 c3 hx1 hx2 hb2 hy0
 obtain⟨b,off,rfl,hg⟩:=hG (by omega)
 obtain⟨b',off',rfl,hc⟩:=hS (by omega)
 have hW2:Below V.heap.size V ((V.alloc (.cells #[.slice (some ⟨b,off,none⟩) gs.length cap0] 22)).alloc (.cells #[.string key,.slice (some ⟨b',off',none⟩) cs.length cap1] 62)):=((Below.refl _ V).alloc (Nat.le_refl _) _).alloc (by simp) _
 have hv2:=NN (.cells #[.string key,.slice (some ⟨b',off',none⟩) cs.length cap1] 62) (Hc (w:=V) (.cells #[.slice (some ⟨b,off,none⟩) gs.length cap0] 22) rfl)
 have hv3:=Hc (w:=V.alloc (.cells #[.slice (some ⟨b,off,none⟩) gs.length cap0] 22)) (.cells #[.string key,.slice (some ⟨b',off',none⟩) cs.length cap1] 62) (n:=V.heap.size+1) (by simp)
 have hz1:=Dk hy1 hW2
 have hz3:=GQ hv3
 have hB4:=hB3.trans (hW2.mono hB3.size)
 have hyo2:OwnB (w.heap.size+1) ((V.alloc (.cells #[.slice (some ⟨b,off,none⟩) gs.length cap0] 22)).alloc (.cells #[.string key,.slice (some ⟨b',off',none⟩) cs.length cap1] 62)) (.slice ya b0.length yc) b0:=hyo.keep fun g _ hgy=>hW2.block g (hyo.1.lt hgy)
 clear hyo hs1
 rw[show V.heap.size=V.heap.size from rfl] at hv2
 generalize hVW:(V.alloc (.cells #[.slice (some ⟨b,off,none⟩) gs.length cap0] 22)).alloc (.cells #[.string key,.slice (some ⟨b',off',none⟩) cs.length cap1] 62)=W2 at hW2 hv2 hv3 hz1 hz3 hB4 hyo2⊢
 have hlt0:=GQ hy1
 have hg2:GsAt W2.heap.size w.heap.size W2 b off gs:=⟨⟨by have:=hg.1.1;omega,by have:=hg.1.1;omega⟩,fun j g hj=>⟨(hB4.cell (p:=⟨b,_,none⟩) hg.1.1).trans (hg.2 j g hj).1,(hB4.cell (p:=⟨b,_,none⟩) hg.1.1).trans (hg.2 j g hj).2⟩⟩
 have hc2:CsAt W2.heap.size w.heap.size W2 b' off' cs:=by
  refine⟨⟨by have:=hc.1.1;omega,by have:=hc.1.1;omega⟩,fun j c hj=>?_⟩
  have k:∀o,W2.cell? ⟨b',o,none⟩=w.cell? ⟨b',o,none⟩:=fun o=>hB4.cell (p:=⟨b',o,none⟩) hc.1.1
  simp only[k]
  exact hc.2 j c hj
 refine wpIn_rangeFunc_ownH (F:=Fence.wide) rfl (by omega) (gf:=95) (lb:=#[.pointer (some ⟨V.heap.size,0,none⟩),.pointer (some ⟨V.heap.size+1,0,none⟩)]) rfl trivial (enters_of Tryz.func95 (by kernel_rfl) rfl)
  (Ah7 _ (by omega) V.heap.size (V.heap.size+1) W2.heap.size w.heap.size b off cap0 b' off' cap1 gs cs hlen hl4 W2 (Nat.le_refl _) (cb1 hv2) (cb2 hv3).2 ⟨by omega,by omega⟩ ⟨by omega,by omega⟩ hg2 hc2)
  KB.trans (KB.putObj (Nat.le_refl _)) (Below.refl _ _) (fun _=>rfl)
  (fun pre W=>(∃y,W.heap[w.heap.size]?=some (.cells #[y] 37 (0,0))∧OwnB (w.heap.size+1) W y (b0++pre.flatMap (fun x=>pc x.1.policy x.2)))∧Below w.heap.size w W∧W2.heap.size≤W.heap.size)
  (fun _ _ _=>False)
  (OwnFrom.and (Own.from (Bm2 w.heap.size (w.heap.size+1) 37 (fun pre=>b0++pre.flatMap (fun x=>pc x.1.policy x.2))) _) (OwnFrom.and (ownFrom_below (Nat.le_refl _) hB4.size) (Sw _ _)))
  (fun _ _ _ _ _ hs _ _=>hs)
  ⟨⟨_,hz1,by simpa using hyo2⟩,hB4,Nat.le_refl _⟩
  (fun x a' W=>(∃B6 B7,a'={tmps:=#[Value.slice ab na ncap,Value.slice (some ⟨b,off,none⟩) gs.length cap0,
     Value.agg #[Value.string key,Value.slice (some ⟨b',off',none⟩) cs.length cap1],
     Value.pointer (some {block:=w.heap.size,off:=0}),undef,
     Value.pointer (some {block:=w.heap.size+1,off:=0}),Value.slice none 0 0,Value.pointer (some ⟨B6,0,none⟩),Value.pointer (some ⟨B7,0,none⟩),
     Value.slice (some ⟨b,off,none⟩) gs.length cap0,Value.agg #[Value.string key,Value.slice (some ⟨b',off',none⟩) cs.length cap1],
     Value.int IntKind.i64 0,Value.bool false,undef,undef,undef,Value.slice ab na ncap,
     Value.pointer (some {block:=w.heap.size+1,off:=0}),Value.string key,Value.slice ya b0.length yc,
     Value.slice (some ⟨b,off,none⟩) gs.length cap0,Value.agg #[Value.string key,Value.slice (some ⟨b',off',none⟩) cs.length cap1],
     Value.func (Fn.func 95) #[] #[Value.pointer (some {block:=V.heap.size,off:=0}),Value.pointer (some {block:=V.heap.size+1,off:=0})],
     gV x.1,cV x.2,undef,undef,undef,undef,undef,undef],defers:=[]}∧
    (W.heap[B6]?=some (.cells #[.string x.1.name,.int .i64 x.1.policy] 106 (0,0))∧W.heap[B7]?=some (.cells #[.int .i64 x.2.stamp.n,.int .i64 x.2.stamp.site,.int .i64 x.2.vec.a,.int .i64 x.2.vec.b,.bool x.2.gone,.string x.2.value,.int .i64 x.2.dead.a,.int .i64 x.2.dead.b] 104 (0,0)))))
  (fun x a'=>Own.from (fun s X Y row hs hgr hr=>by
   obtain⟨B6,B7,e1,e2,e3⟩:=hs
   exact⟨B6,B7,e1,Wj B6 _ _ s X Y row e2 hgr hr,Wj B7 _ _ s X Y row e3 hgr hr⟩) _) ?assign ?body ?done ?stop
 case assign=>
  rintro l pre x W K ⟨⟨y,i1,i2⟩,i3,i4⟩ hK
  clear hlen hlen0
  dsimp only[Blo,gV,cV] at hK⊢
  gi_wp2
  have hb:Below W.heap.size W ((W.alloc (.cells #[.string x.1.name,.int .i64 x.1.policy] 106)).alloc (.cells #[.int .i64 x.2.stamp.n,.int .i64 x.2.stamp.site,.int .i64 x.2.vec.a,.int .i64 x.2.vec.b,.bool x.2.gone,.string x.2.value,.int .i64 x.2.dead.a,.int .i64 x.2.dead.b] 104)):=((Below.refl _ W).alloc (Nat.le_refl _) _).alloc (by simp) _
  exact hK _ _ (Ix _ hb) (KB.of_below (hb.mono i4)) ⟨⟨y,Dk i1 hb,i2.keep fun g _ hgy=>hb.block g (i2.1.lt hgy)⟩,i3.trans (hb.mono i3.size),Nat.le_trans i4 hb.size⟩ ⟨W.heap.size,W.heap.size+1,rfl,NN _ (Hc _ rfl),Hc _ (by simp)⟩
 case body=>
  rintro l pre x a' W hl hr ⟨⟨y,i1,i2⟩,i3,i4⟩ ⟨B6,B7,rfl,e6,e7⟩ hlt
  obtain⟨yb,ym,yd,rfl⟩:=i2.form
  obtain⟨k0,k1⟩:=cb2 e6
  obtain⟨m0,m1,m2,m3,m4,m5,m6,m7⟩:=cb8 e7
  have d0:=cb1 i1
  have hbl:(b0++pre.flatMap (fun x=>pc x.1.policy x.2)).length≤b0.length+4*Nx:=by
   have:=A6j (fun x:Ab×TCell=>pc x.1.policy x.2) Nx (fun x=>hpc _ _) pre
   have h2:pre.length*Nx≤4*Nx:=Nat.mul_le_mul_right _ (by omega)
   rw[List.length_append]
   omega
  clear hlen hlen0
  generalize hbe:b0++pre.flatMap (fun x=>pc x.1.policy x.2)=bs at*
  gi_wp2_with (refine⟨trivial,?_⟩;gi_at_call 56;refine(CallsIn.inRound l (callsIn_wide.2 (hCP _ _ bs x.1.policy x.2 _ (by first|exact i3|exact i3.trans ((Axo _ _).mono i3.size)) i2 hbl))).mono ?_;rintro e W' ⟨y',rfl,hb,hy'⟩;obtain⟨ye,yn,yf,rfl⟩:=hy'.form;have q1:=Dk i1 hb;have d4:=cb1 q1;have f4:=fb1 q1)
  have hw:=GQ i1
  refine⟨(Ix _ hb).trans ((KeepsOthers.setCell _ _ _).from _),(KB.of_below (hb.mono i4)).trans (KB.setCell _ _),⟨_,OU (i:=0) q1 _,?_⟩,(i3.trans (hb.mono i3.size)).setCell (p:=⟨w.heap.size,0,none⟩) (Nat.le_refl _) _,Nat.le_trans i4 (by rw[Adb];exact hb.size)⟩
  rw[List.flatMap_append,←List.append_assoc,hbe]
  simp only[List.flatMap_cons,List.flatMap_nil,List.append_nil]
  exact(hy'.mono (b':=w.heap.size+1) (by omega)).keep fun g hg _=>Below.heap_setCell W' ⟨w.heap.size,0,none⟩ _ g (by simp;omega)
 case done=>
  rintro D ys W hD rfl ⟨⟨y,i1,i2⟩,i3,i4⟩ hK
  obtain⟨yb,ym,yd,rfl⟩:=i2.form
  have d0:=cb1 i1
  clear hlen hlen0
  gi_wp2
  refine⟨by simp,.inl ⟨_,_,rfl,run_takeDeferred hK,?_⟩⟩
  refine⟨_,results_tmp rfl _ _ _,_,rfl,i3.trans (belowK_b (w:=w) (Nat.le_refl _) W D _ _ (by have:=hB4.size;omega) hK rfl rfl),(i2.mono (Nat.le_succ _)).keep fun g _ hgy=>?_⟩
  refine World.putObj_heap_other fun e=>?_
  subst e
  rcases i2.1.2 with⟨a,e1,_⟩|⟨g',cap,cur,e1,e3,_⟩
  ·rw[e1] at hgy;cases a<;>cases hgy
  ·rw[e1] at hgy
   cases hgy
   rw[hK] at e3
   cases e3
 case stop=>
  rintro D c pre W hD _ h _
  exact h.elim
end Go.Proofs.YtifkbgkbajncjaaGreatDoor
namespace Go.Proofs.YtifkbgkbajncjaaGreatDoor
open Go.RowKit
def Bcc (l:List Ab) (r:Ak):List UInt8:=Iq r.key++(l.zip r.cells).flatMap (fun x=>Y0 x.1.policy x.2)
def HE (l:List Ab) (r:Ak):List UInt8:=bif AI l r==0 then Bcc l r else[]
def SQ (_a0:List UInt8) (a1:List Ab) (a2:Ak):Bool:=AI a1 a2 !=(0:Int)
def Azk (a0:List UInt8) (_a1:List Ab) (_a2:Ak):List UInt8:=[]++a0
def Azl (_a0:List UInt8) (_a1:List Ab) (_a2:Ak):A:=.sq 0
def WL (a0:List UInt8) (a1:List Ab) (a2:Ak):Objs:=[(0,some (.arr 5 1 (.ty .u8 (Azk a0 a1 a2))))]
def Atz (a0:List UInt8) (a1:List Ab) (a2:Ak):List Prop:=[((SQ a0 a1 a2)=true→Ad ((0:Nat)+a0.length)),((!(SQ a0 a1 a2))=true→Ad (a0.length+(8:Nat)+a2.1.size)),((!(SQ a0 a1 a2))=true→Aaa (4:Nat))]
theorem Bd6 (a0:List UInt8) (a1:List Ab) (a2:Ak):Hz (As Cl L0) 9 21 [Ai .bytes a0,.sl .group a1,Ai .row a2] 0 []=some (1,Azl a0 a1 a2,1,WL a0 a1 a2,Atz a0 a1 a2):=by kernel_rfl
theorem Bjd (a0:List UInt8) (a1:List Ab) (a2:Ak) (hp:∀p∈Atz a0 a1 a2,p):CallOk Tryz.prog 21 [Ai .bytes a0,.sl .group a1,Ai .row a2] 0 [] 1 (Azl a0 a1 a2) 1 (WL a0 a1 a2):=AB (Ar Be6 AA) (Bd6 a0 a1 a2) hp
def At0 (_a0:List UInt8) (_a1:List Ab) (_a2:Ak):A:=.sq 0
def LC (a0:List UInt8) (a1:List Ab) (a2:Ak):Objs:=[(0,some (.arr 5 1 (.ty .u8 (a0++HE a1 a2))))]
def Akf (a0:List UInt8) (_a1:List Ab) (_a2:Ak):List Prop:=[Ad (a0.length+1024)]
section
variable {F:Nat→Prop} {N:Nm} {nx:Nat} {R:World}
theorem Axs:∀{l:List UInt8} {zs:List Value},zs.length=l.length→(∀k,k <l.length→HL F N nx R [.v (AY (l.getD k 0))] ((zs.drop (k*1)).take 1))→zs=l.map AY
 | [],[],_,_=>rfl
 | [],_::_,h,_=>by cases h
 |_::_,[],h,_=>by cases h
 | x::l,z::zs,h,g=>by
  have h0:=g 0 (Nat.succ_pos _)
  obtain⟨v,vs,e1,e2,e3⟩:=h0.inv
  have hz:z=AY x:=by
   have e1':[z]=v::vs:=e1
   injection e1' with e1' _
   rw[e1']
   exact e2.v_inv
  rw[List.map_cons,←hz,Axs (l:=l) (zs:=zs) (by simpa using h) fun k hk=>by
   have:=g (k+1) (Nat.succ_lt_succ hk)
   simpa[Nat.mul_one] using this]
theorem Bje {l:List UInt8} {k:Nat} (hk:k <l.length):HL F N nx R [.v (AY (l.getD k 0))] (((l.map AY).drop (k*1)).take 1):=by
 rw[Nat.mul_one,List.drop_eq_getElem_cons (by simpa using hk),List.take_succ_cons,List.take_zero,List.getElem_map,List.getD_eq_getElem?_getD,List.getElem?_eq_getElem hk]
 exact HL.cons (.v _) HL.nil
theorem OwnB.sl {base:Nat} {y:Value} {bs:List UInt8} (h:OwnB base R y bs) (N:Nm):(∀g,BY y=some g→g <R.heap.size)∧Hv (fun g=>BY y=some g) N 0 R (.sl .u8 bs) y:=by
 refine⟨fun g hg=>h.1.lt hg,?_⟩
 obtain⟨hl,h2⟩:=h.1
 rcases h2 with⟨a,e1,e2⟩|⟨g,cap,cur,e1,e2,e3,_,e5,e6⟩
 ·obtain rfl:bs=[]:=List.eq_nil_of_length_eq_zero e2
  rw[e1]
  exact Hv.sl_nil rfl
 ·rw[e1]
  refine Hv.of_sl e3 fun hn=>⟨⟨g,0,none⟩,rfl,?_,fun i d hd j x hx=>?_⟩
  ·obtain⟨m,hm⟩:∃m,bs.length=m+1:=⟨bs.length - 1,by omega⟩
   rw[hm]
   rfl
  ·cases j with
   |succ j=>cases hx
   |zero=>
    have hi:=(List.getElem?_eq_some_iff.1 hd).1
    have hz:(bs.map AY)[i]?=some (AY d):=by rw[List.getElem?_map,hd];rfl
    rw[←e6,List.getElem?_take_of_lt (by omega)] at hz
    obtain rfl:A.v (AY d)=x:=Option.some.inj hx
    refine⟨AY d,?_,.v _⟩
    rw[Cs,BA,CA e2]
    show cur[0+(i*1+0)]?=_
    rw[Nat.zero_add,Nat.add_zero,Nat.mul_one]
    simpa using hz
end
theorem CallOk.bytes {P:Program} {f:FuncId} {args:List A} {bs:List UInt8} (h:CallOk P f args 0 [] 1 (.sq 0) 1 [(0,some (.arr 5 1 (.ty .u8 bs)))]) {F:Nat→Prop} {N:Nm} {R:World} {vs:List Value} (hF:∀g,F g→g <R.heap.size) (hgl:GlobOk F R) (hv:HL F N 0 R args vs):
  Calls P f vs.toArray R fun e R'=>∃y,e=.returned y∧Below R.heap.size R R'∧OwnB R.heap.size R' y bs:=by
 refine(h F N R vs (HRel.bare hF hgl) hv).mono fun e R' ⟨y,F',N',e1,h2,h3,h4,h5⟩=>⟨y,e1,h5 (Nat.le_refl _),?_⟩
 obtain rfl:y=N'.q 0:=by cases h4;rfl
 obtain⟨_,zs,g1,g2⟩:=h2.ob 0 _ rfl
 have e:zs=bs.map AY:=Axs (F:=F') (N:=N') (nx:=1) (R:=R') (by rw[g1.1];exact Nat.mul_one _) g2
 rw[e] at g1
 refine⟨g1,fun g hg=>?_⟩
 rcases h3.foot g ⟨0,_,rfl,hg⟩ with⟨i,ob,hl,_⟩|h
 ·cases hl
 ·exact h
theorem OwnB.made {P:Program} {f:FuncId} {F:Nat→Prop} {N:Nm} {R:World} {vs:List Value} {bs:List UInt8} (hR:HRel F N 0 [] R)
  (h:Calls P f vs.toArray R fun e R'=>∃y,e=.returned y∧Below R.heap.size R R'∧OwnB R.heap.size R' y bs):
  Calls P f vs.toArray R fun e R'=>∃y F' N',e=.returned y∧HRel F' N' 1 [(0,some (.arr 5 1 (.ty .u8 bs)))] R'∧Step F N 0 [] R F' N' 1 [(0,some (.arr 5 1 (.ty .u8 bs)))] R'∧Hv F' N' 1 R' (.sq 0) y∧(1≤1→Below R.heap.size R R'):=by
 refine h.mono fun e R' ⟨y,e1,hb,h2,h3⟩=>⟨y,F,N.setQ 0 y,e1,?_,?_,?_,fun _=>hb⟩
 ·have hq:(N.setQ 0 y).q 0=y:=by show IC N.q 0 y 0=y;exact AX _ _ _
  have one:∀i ob,Aj i [(0,some (Ob.arr 5 1 (.ty .u8 bs)))]=some ob→i=0∧ob=.arr 5 1 (.ty .u8 bs):=fun i ob hl=>by
   cases i with
   |zero=>cases hl;exact⟨rfl,rfl⟩
   |succ i=>cases hl
  refine⟨fun g hg=>Nat.lt_of_lt_of_le (hR.flt g hg) hb.size,fun i ob hl=>?_,fun i ob g hl hg hF=>?_,fun i j x z g hl hl' _ _=>(one i x hl).1.trans (one j z hl').1.symm,fun x hx=>⟨(hR.gl x hx).1,by rw[hb.block _ (hR.flt _ (hR.gl x hx).1)];exact(hR.gl x hx).2⟩⟩
  ·obtain⟨rfl,rfl⟩:=one i ob hl
   exact⟨Nat.succ_pos _,bs.map AY,by rw[hq];exact h2,fun k hk=>Bje hk⟩
  ·obtain⟨rfl,rfl⟩:=one i ob hl
   have hg':BY ((N.setQ 0 y).q 0)=some g:=hg
   rw[hq] at hg'
   have:=hR.flt g hF
   have:=h3 g hg'
   omega
 ·refine⟨Nat.zero_le _,fun i hi=>absurd hi (Nat.not_lt_zero _),fun i hi=>absurd hi (Nat.not_lt_zero _),fun _ h=>h,fun _ h=> .inl h,fun g ⟨i,ob,hl,hg⟩=> .inr ?_,hb.os,hb.tape,hb.output,hb.size,fun g hg _=>hb.block g hg⟩
  cases i with
  |succ i=>cases hl
  |zero=>
   cases hl
   have hg':BY ((N.setQ 0 y).q 0)=some g:=hg
   rw[show(N.setQ 0 y).q 0=y by show IC N.q 0 y 0=y;exact AX _ _ _] at hg'
   exact h3 g hg'
 ·have hq:(N.setQ 0 y).q 0=y:=by show IC N.q 0 y 0=y;exact AX _ _ _
  have:=Hv.sq (F:=F) (N:=N.setQ 0 y) (nx:=1) (R:=R') (i:=0) (Nat.succ_pos _)
  rw[hq] at this
  exact this
theorem Bg1 (p:Int) (c:TCell):(Y0 p c).length≤128:=by
 unfold Y0 Bfk
 cases hg:Kn p c with
 |false=>exact Nat.zero_le _
 | true=>
  have n8:=A3 (KD c)
  have s8:=Afr c.stamp
  have v16:=Ny c.vec
  have d16:=Ny c.dead
  have t8:=P9 c.value
  cases hw:Fy c with
  |false=>cases Jf c.dead<;>simp only[cond_true,cond_false,List.length_append,List.length_nil]<;>omega
  |true=>
   have:=((Aew.1 hg).st hw).2.2.2.1
   cases Jf c.dead<;>cases c.gone<;>simp only[cond_true,cond_false,List.length_append,List.length_nil]<;>omega
theorem Bd5 (a0:List UInt8) (a1:List Ab) (a2:Ak) (hp:∀p∈Akf a0 a1 a2,p):CallOk Tryz.prog 21 [Ai .bytes a0,.sl .group a1,Ai .row a2] 0 [] 1 (At0 a0 a1 a2) 1 (LC a0 a1 a2):=by
 have hb:Ad (a0.length+1024):=hp _ (List.mem_cons_self ..)
 unfold Ad at hb
 cases hg:AI a1 a2==0 with
 | false=>
  have hk:SQ a0 a1 a2=true:=by
   show(AI a1 a2 !=0)=true
   simpa using hg
  have h:=Bjd a0 a1 a2 (Aa (fun _=>by unfold Ad;omega) (Aa (fun h=>by rw[hk] at h;cases h) (Aa (fun h=>by rw[hk] at h;cases h) Af)))
  have e:WL a0 a1 a2=LC a0 a1 a2:=by
   unfold WL LC Azk HE
   rw[hg,cond_false,List.append_nil,List.nil_append]
  rw[e] at h
  exact h
 | true=>
  have h0:AI a1 a2=0:=by simpa using hg
  obtain⟨h1,hlen,_,h32,_⟩:=IE h0
  obtain⟨hl1,hl4⟩:=Sg h1
  intro F N R vs hR hv
  obtain⟨v,vs,rfl,hv0,hv⟩:=hv.inv
  obtain⟨v0,vs,rfl,k0,hv⟩:=hv.inv
  obtain⟨v1,vs,rfl,k1,hv⟩:=hv.inv
  rw[hv.inv0]
  have hv0':=hv0
  obtain⟨ab,ncap,rfl,_⟩:=Hv.sl_inv (c:=.u8) (l:=a0) hv0
  obtain⟨us,rfl,k2⟩:=Hv.agg_inv (xs:=[.v (.string a2.key),.sl .cell a2.cells]) k1
  obtain⟨u0,us,rfl,m0,k2⟩:=k2.inv
  obtain⟨u1,us,rfl,m1,k2⟩:=k2.inv
  obtain rfl:=k2.inv0
  obtain rfl:=m0.v_inv
  obtain⟨aa,cap0,rfl,g0⟩:=Bs3 hR.flt k0
  obtain⟨ac,cap1,rfl,g1⟩:=Bs0 hR.flt m1
  have ho:LC a0 a1 a2=[(0,some (.arr 5 1 (.ty .u8 ((a0++Iq a2.key)++(a1.zip a2.cells).flatMap (fun x=>Y0 x.1.policy x.2)))))]:=by
   unfold LC HE Bcc
   rw[hg,cond_true,List.append_assoc]
  rw[ho]
  refine OwnB.made hR (Bd7 R aa ac a1 a2.cells a2.key cap0 cap1 a0.length ncap ab (a0++Iq a2.key) Y0 128 Bg1 ?_ hl1 hl4 (by rw[hlen];exact Ma _) ?_ ?_ g0 g1)
  ·intro W hW
   have h:Calls Tryz.prog 54 #[.slice aa a1.length cap0,.agg #[.string a2.key,.slice ac a2.cells.length cap1]] W fun e W'=>e=.returned (.int .i64 (AI a1 a2))∧Below W.heap.size W W':=(Akc a1 a2 (fun _ h=>by cases h)).plain (F:=F) (N:=N) (R:=W) (vs:=[.slice aa a1.length cap0,.agg #[.string a2.key,.slice ac a2.cells.length cap1]]) (fun g hg=>Nat.lt_of_lt_of_le (hR.flt g hg) hW.size) (hR.grow hW).1.gl (HL.cons (k0.step (hR.grow hW).2) (HL.cons (k1.step (hR.grow hW).2) HL.nil))
   rw[h0] at h
   exact h
  ·intro W hW
   exact(UX a0 a2.key (Aa (by unfold Ad;omega) Af)).bytes (F:=F) (N:=N) (R:=W) (vs:=[_,.string a2.key]) (fun g hg=>Nat.lt_of_lt_of_le (hR.flt g hg) hW.size) (hR.grow hW).1.gl (HL.cons (hv0'.step (hR.grow hW).2) (HL.cons (.v _) HL.nil))
  ·intro W v bs q c base hW ho hl
   obtain⟨f1,f2⟩:=ho.sl N
   have gW:=(hR.grow hW).1
   have f3:=f2.step (Ext.wide (F':=fun g=>F g∨BY v=some g) fun g hg=> .inr hg)
   have h8:=P9 a2.key
   rw[List.length_append] at hl
   exact(Ahh bs q c (Aa (by unfold Ad;omega) Af)).bytes (F:=fun g=>F g∨BY v=some g) (N:=N) (R:=W) (vs:=[v,.int .i64 q,cV c]) (fun g hg=>hg.elim (gW.flt g) (f1 g)) (fun x hx=>⟨.inl (gW.gl x hx).1,(gW.gl x hx).2⟩) (HL.cons f3 (HL.cons (.v _) (HL.cons (.v _) HL.nil)))
def WM:List A→Nat→Objs→Option A6:=Bt [.t .bytes,.l .group,.t .row] 1 At0 LC Akf
theorem VX:HF Tryz.prog 21 WM:=Av (ks:=[.t .bytes,.l .group,.t .row]) Bd5
noncomputable def Bvt:=AS 21 WM Cl
theorem Bo9:Cr Tryz.prog Bvt:=An VX Be6
def Ay (a0:Int) (a1:Int) (a2:Int):Int:=bif decide (a0 >a2)||decide (a1 >a2)||decide (a0 >IntKind.i64.wrap (a2 - a1)) then IntKind.i64.wrap (a2+(1:Int)) else IntKind.i64.wrap (a0+a1)
def Aft (a0:Int) (a1:Int) (a2:Int):A:=.v (.int .i64 (Ay a0 a1 a2))
def Afs (_a0:Int) (_a1:Int) (_a2:Int):Objs:=[]
def Y1 (_a0:Int) (_a1:Int) (_a2:Int):List Prop:=[]
theorem Bce (a0:Int) (a1:Int) (a2:Int):Hz (As Bvt L0) 9 50 [Ai .i64 a0,Ai .i64 a1,Ai .i64 a2] 0 []=some (1,Aft a0 a1 a2,0,Afs a0 a1 a2,Y1 a0 a1 a2):=by kernel_rfl
theorem Biy (a0:Int) (a1:Int) (a2:Int) (hp:∀p∈Y1 a0 a1 a2,p):CallOk Tryz.prog 50 [Ai .i64 a0,Ai .i64 a1,Ai .i64 a2] 0 [] 1 (Aft a0 a1 a2) 0 (Afs a0 a1 a2):=AB (Ar Bo9 AA) (Bce a0 a1 a2) hp
def Ays:List A→Nat→Objs→Option A6:=Bt [.t .i64,.t .i64,.t .i64] 0 Aft Afs Y1
theorem A7l:HF Tryz.prog 50 Ays:=Av (ks:=[.t .i64,.t .i64,.t .i64]) Biy
theorem Bt2 {n k m:Int} (hn:0≤n) (hk:0≤k∧k≤9223372036854775807) (hm:0≤m∧m≤1099511627776):(Ay n k m≤m→n+k≤m)∧0≤Ay n k m∧(n+k≤m→Ay n k m=n+k):=by
 unfold Ay
 rw[i64_in (n:=m - k) (by omega),i64_in (n:=m+1) (by omega)]
 by_cases h:n+k≤m
 ·have e:(decide (n >m)||decide (k >m)||decide (n >m - k))=false:=by
   rw[decide_eq_false (by omega),decide_eq_false (by omega),decide_eq_false (by omega)];rfl
  rw[e,cond_false,i64_in (by omega)]
  exact⟨fun _=>h,by omega,fun _=>rfl⟩
 ·have e:(decide (n >m)||decide (k >m)||decide (n >m - k))=true:=by
   rw[decide_eq_true (p:=n >m - k) (by omega),Bool.or_true]
  rw[e,cond_true]
  exact⟨fun h'=>by omega,by omega,fun h'=>absurd h' h⟩
theorem Azy {k:Nat} (h:Am k):(0:Int)≤(k:Int)∧(k:Int)≤9223372036854775807:=by unfold Am at h;omega
def At7 (m:Nat) (r:Ak):Prop:=r.key.size≤m∧r.cells.length≤m∧∀c∈r.cells,c.value.size≤m
def Ym (r:Ak):Prop:=Am r.key.size∧Am r.cells.length∧∀c∈r.cells,Am c.value.size
theorem getD_in {α:Type} (l:List α) (d:α) (i:Nat) (h:i <l.length):l.getD i d∈l:=by
 rw[List.getD_eq_getElem?_getD,List.getElem?_eq_getElem h]
 exact List.getElem_mem h
end Go.Proofs.YtifkbgkbajncjaaGreatDoor
namespace Go.Proofs.YtifkbgkbajncjaaGreatDoor
open Go.RowKit
def Bz (a0:Int):Int:=bif decide (a0 <(0:Int))||decide (a0 >(4611686018427387903:Int)) then(0:Int) else bif decide (a0 <(64:Int)) then(1:Int) else bif decide (a0 <(16384:Int)) then(2:Int) else bif decide (a0 <(1073741824:Int)) then(4:Int) else(8:Int)
def Y4 (a0:Int):A:=.v (.int .i64 (Bz a0))
def Y3 (_a0:Int):Objs:=[]
def Vn (_a0:Int):List Prop:=[]
theorem A7r (a0:Int):Hz (As Cf L0) 9 98 [Ai .i64 a0] 0 []=some (1,Y4 a0,0,Y3 a0,Vn a0):=by kernel_rfl
theorem Bcj (a0:Int) (hp:∀p∈Vn a0,p):CallOk Tryz.prog 98 [Ai .i64 a0] 0 [] 1 (Y4 a0) 0 (Y3 a0):=AB (Ar A4f AA) (A7r a0) hp
def Aq5:List A→Nat→Objs→Option A6:=Bt [.t .i64] 0 Y4 Y3 Vn
theorem A19:HF Tryz.prog 98 Aq5:=Av (ks:=[.t .i64]) Bcj
noncomputable def Bj1:=AS 98 Aq5 Cf
theorem Az6:Cr Tryz.prog Bj1:=An A19 A4f
abbrev DR:Type:=Int×Int×Int×(List UInt8)
def Nz (x:DR):St:=⟨48,2,[(1,.v (.int .i64 x.1)),(5,.sq 1),(6,.v (.int .i64 x.2.1)),(7,.v (.int .i64 x.2.2.1))],[(1,some (.arr 5 1 (.ty .u8 x.2.2.2)))]⟩
def Qb:St→Option DR
 |⟨48,2,[(1,.v (.int .i64 z0)),(5,.sq 1),(6,.v (.int .i64 z1)),(7,.v (.int .i64 z2))],[(1,some (.arr 5 1 (.ty .u8 z3)))]⟩=>some (z0,z1,z2,z3)
 |_=>none
theorem Alu:∀s x,Qb s=some x→s=Nz x:=fun s x h=>by
 unfold Qb at h
 split at h
 ·cases h;rfl
 ·cases h
def Ab7:Cz:=⟨1,2,[1,5,6,7],[],[(3,1)],[3],[5],[1]⟩
def A18:CX:=⟨[],[(0,1)],[1,5,6,7],[0]⟩
def FK (_a0:Int) (_a1:Int) (a2:Int) (_a3:List UInt8):Bool:=!!decide (a2≥(0:Int))
def BI (a0:Int) (a1:Int) (a2:Int) (_a3:List UInt8):Int:=bif a2==IntKind.i64.wrap (a1 - (1:Int)) then bif a1==(8:Int) then IntKind.u8.wrap ((bif a1==(4:Int) then IntKind.u8.wrap ((bif a1==(2:Int) then IntKind.u8.wrap (IntKind.u8.wrap (IntKind.i64.wrap (↑(BitVec.ofInt (64:Nat) (a0.fdiv ((2:Int)^min (IntKind.u64.wrap (IntKind.i64.wrap ((8:Int)*a2))).toNat (64:Nat))) &&& BitVec.ofInt (64:Nat) (255:Int)).toNat:Int))+(64:Int)) else IntKind.u8.wrap (IntKind.i64.wrap (↑(BitVec.ofInt (64:Nat) (a0.fdiv ((2:Int)^min (IntKind.u64.wrap (IntKind.i64.wrap ((8:Int)*a2))).toNat (64:Nat))) &&& BitVec.ofInt (64:Nat) (255:Int)).toNat:Int)))+(128:Int)) else bif a1==(2:Int) then IntKind.u8.wrap (IntKind.u8.wrap (IntKind.i64.wrap (↑(BitVec.ofInt (64:Nat) (a0.fdiv ((2:Int)^min (IntKind.u64.wrap (IntKind.i64.wrap ((8:Int)*a2))).toNat (64:Nat))) &&& BitVec.ofInt (64:Nat) (255:Int)).toNat:Int))+(64:Int)) else IntKind.u8.wrap (IntKind.i64.wrap (↑(BitVec.ofInt (64:Nat) (a0.fdiv ((2:Int)^min (IntKind.u64.wrap (IntKind.i64.wrap ((8:Int)*a2))).toNat (64:Nat))) &&& BitVec.ofInt (64:Nat) (255:Int)).toNat:Int)))+(192:Int)) else bif a1==(4:Int) then IntKind.u8.wrap ((bif a1==(2:Int) then IntKind.u8.wrap (IntKind.u8.wrap (IntKind.i64.wrap (↑(BitVec.ofInt (64:Nat) (a0.fdiv ((2:Int)^min (IntKind.u64.wrap (IntKind.i64.wrap ((8:Int)*a2))).toNat (64:Nat))) &&& BitVec.ofInt (64:Nat) (255:Int)).toNat:Int))+(64:Int)) else IntKind.u8.wrap (IntKind.i64.wrap (↑(BitVec.ofInt (64:Nat) (a0.fdiv ((2:Int)^min (IntKind.u64.wrap (IntKind.i64.wrap ((8:Int)*a2))).toNat (64:Nat))) &&& BitVec.ofInt (64:Nat) (255:Int)).toNat:Int)))+(128:Int)) else bif a1==(2:Int) then IntKind.u8.wrap (IntKind.u8.wrap (IntKind.i64.wrap (↑(BitVec.ofInt (64:Nat) (a0.fdiv ((2:Int)^min (IntKind.u64.wrap (IntKind.i64.wrap ((8:Int)*a2))).toNat (64:Nat))) &&& BitVec.ofInt (64:Nat) (255:Int)).toNat:Int))+(64:Int)) else IntKind.u8.wrap (IntKind.i64.wrap (↑(BitVec.ofInt (64:Nat) (a0.fdiv ((2:Int)^min (IntKind.u64.wrap (IntKind.i64.wrap ((8:Int)*a2))).toNat (64:Nat))) &&& BitVec.ofInt (64:Nat) (255:Int)).toNat:Int)) else IntKind.u8.wrap (IntKind.i64.wrap (↑(BitVec.ofInt (64:Nat) (a0.fdiv ((2:Int)^min (IntKind.u64.wrap (IntKind.i64.wrap ((8:Int)*a2))).toNat (64:Nat))) &&& BitVec.ofInt (64:Nat) (255:Int)).toNat:Int))
def Aq2 (a0:Int) (a1:Int) (a2:Int) (a3:List UInt8):List UInt8:=a3++[UInt8.ofNat (BI a0 a1 a2 a3).toNat]
def FM (x:DR):DR:=(x.1,x.2.1,IntKind.i64.wrap (x.2.2.1 - (1:Int)),Aq2 x.1 x.2.1 x.2.2.1 x.2.2.2)
def FL (x:DR):Cnd:=some ((FK x.1 x.2.1 x.2.2.1 x.2.2.2))
def Vl (x:DR):List Prop:=[((FK x.1 x.2.1 x.2.2.1 x.2.2.2)=true→(0:Int)≤IntKind.u64.wrap (IntKind.i64.wrap ((8:Int)*x.2.2.1))),((FK x.1 x.2.1 x.2.2.1 x.2.2.2)=true→Ad (x.2.2.2.length+(1:Nat))),((FK x.1 x.2.1 x.2.2.1 x.2.2.2)=true→(0:Int)≤(BI x.1 x.2.1 x.2.2.1 x.2.2.2)∧(BI x.1 x.2.1 x.2.2.1 x.2.2.2) <(256:Int))]
def IH (x:DR):List Prop:=[((FK x.1 x.2.1 x.2.2.1 x.2.2.2)=true→Ad (x.2.2.2.length+(1:Nat))),((FK x.1 x.2.1 x.2.2.1 x.2.2.2)=true→(0:Int)≤(BI x.1 x.2.1 x.2.2.1 x.2.2.2)∧(BI x.1 x.2.1 x.2.2.1 x.2.2.2) <(256:Int))]
def Tn (x:DR):AR:=[(some 0,some (!decide (x.2.2.1≥(0:Int))),⟨48,2,[(5,.sq 1)],[(1,some (.arr 5 1 (.ty .u8 x.2.2.2)))]⟩)]
def Hk (x:DR):Nat:=(x.2.2.1+1).toNat
def Ov (x:DR):DR:=AF FM FL (Hk x) x
theorem Avr (a0:Int) (a1:Int) (a2:Int) (a3:List UInt8):Ba (As Bj1 L0) 9 (Ag Tryz.prog 58 0) Ab7 (Nz (a0,a1,a2,a3))=some (Vl (a0,a1,a2,a3),Tn (a0,a1,a2,a3),FL (a0,a1,a2,a3),Nz (FM (a0,a1,a2,a3))):=by kernel_rfl
theorem Avs (a0:Int) (a1:Int) (a2:Int) (a3:List UInt8) (hp:∀p∈IH (a0,a1,a2,a3),p):∀p∈Vl (a0,a1,a2,a3),p:=by
 have n0:((FK a0 a1 a2 a3)=true→(0:Int)≤IntKind.u64.wrap (IntKind.i64.wrap ((8:Int)*a2))):=by intros;exact Bhm _
 have n1:=N0 hp
 have n2:=N0 (N1 hp)
 exact(Aa n0 (Aa n1 (Aa n2 Af)))
noncomputable def Vm:=HB (As Bj1 L0) (Ag Tryz.prog 58 0) Ab7 A18 Qb Hk FM FL IH Tn
theorem Aq3:∀s b ps outs,Vm s=some (b,ps,outs)→Wf s ⟨ps,outs,none⟩∧Bg (As C0 L0) b s ps outs:=
 AT (T:=Nz) Az6 AA (u:=9) (by kernel_rfl) (by decide) (fun⟨a0,a1,a2,a3⟩=>Avr a0 a1 a2 a3) (fun⟨a0,a1,a2,a3⟩=>Avs a0 a1 a2 a3) Alu (fun _=>AD (n:=48) rfl) fun _ _=>rfl
noncomputable def Ab6:=Dd 0 Vm L0
theorem Aq1:G9 Ab6:=AH Aq3 AA
def Ayt (a0:List UInt8) (a1:Int):List UInt8:=(Ov (a1,Bz a1,IntKind.i64.wrap (Bz a1 - (1:Int)),[]++a0)).snd.snd.snd
def Ayu (_a0:List UInt8) (_a1:Int):A:=.sq 0
def WD (a0:List UInt8) (a1:Int):Objs:=[(0,some (.arr 5 1 (.ty .u8 (Ayt a0 a1))))]
def Bci (a0:List UInt8) (a1:Int):List Prop:=[(Ad ((0:Nat)+a0.length)),(Ax FM FL IH (Hk (a1,Bz a1,IntKind.i64.wrap (Bz a1 - (1:Int)),[]++a0)) (a1,Bz a1,IntKind.i64.wrap (Bz a1 - (1:Int)),[]++a0))]
theorem Bch (a0:List UInt8) (a1:Int):Hz (As Bj1 Ab6) 9 58 [Ai .bytes a0,Ai .i64 a1] 0 []=some (1,Ayu a0 a1,1,WD a0 a1,[(Ad ((0:Nat)+a0.length)),(Ag Tryz.prog (58:FuncId) (0:Nat)=Ag Tryz.prog (58:FuncId) (0:Nat)),(Ax FM FL IH (Hk (a1,Bz a1,IntKind.i64.wrap (Bz a1 - (1:Int)),[]++a0)) (a1,Bz a1,IntKind.i64.wrap (Bz a1 - (1:Int)),[]++a0))]):=by kernel_rfl
theorem Biz (a0:List UInt8) (a1:Int) (hp:∀p∈Bci a0 a1,p):CallOk Tryz.prog 58 [Ai .bytes a0,Ai .i64 a1] 0 [] 1 (Ayu a0 a1) 1 (WD a0 a1):=by
 have n0:=N0 hp
 have n2:=N0 (N1 hp)
 exact AB (Ar Az6 Aq1) (Bch a0 a1) (Aa n0 (Aa rfl (Aa n2 Af)))
def Aq4 (_a0:List UInt8) (_a1:Int):A:=.sq 0
def Sz (a0:List UInt8) (a1:Int):Objs:=[(0,some (.arr 5 1 (.ty .u8 (a0++Ap a1))))]
def Aie (a0:List UInt8) (_a1:Int):List Prop:=[Ad (a0.length+8)]
theorem A7q (n:Int):Bz n=(Ed n:Int):=by
 unfold Bz Ed
 by_cases h0:n <0∨n >4611686018427387903
 ·have e:(decide (n <0)||decide (n >4611686018427387903))=true:=by simpa using h0
  rw[e,if_pos h0];rfl
 ·have e:(decide (n <0)||decide (n >4611686018427387903))=false:=by
   rw[Bool.eq_false_iff]
   intro hh
   exact h0 (by simpa using hh)
  rw[e,if_neg h0]
  by_cases h1:n <64
  ·rw[decide_eq_true h1,if_neg (by omega),if_neg (by omega),if_neg (by omega)];rfl
  ·rw[decide_eq_false h1]
   by_cases h2:n <16384
   ·rw[decide_eq_true h2,if_neg (by omega),if_neg (by omega),if_pos (by omega)];rfl
   ·rw[decide_eq_false h2]
    by_cases h3:n <1073741824
    ·rw[decide_eq_true h3,if_neg (by omega),if_pos (by omega)];rfl
    ·rw[decide_eq_false h3,if_pos (by omega)];rfl
theorem Bld {q:Nat} (hq:q <4611686018427387904):IntKind.u8.wrap (IntKind.i64.wrap ((BitVec.ofInt 64 (q:Int) &&& BitVec.ofInt 64 255).toNat:Int))=((q % 256:Nat):Int):=by
 have e:(BitVec.ofInt 64 (q:Int) &&& BitVec.ofInt 64 255).toNat=q % 256:=by
  rw[BitVec.toNat_and,BitVec.toNat_ofInt,BitVec.toNat_ofInt]
  have m1:(((q:Nat):Int) % ((2^64:Nat):Int)).toNat=q:=by omega
  have m2:((255:Int) % ((2^64:Nat):Int)).toNat=2^8 - 1:=by decide
  rw[m1,m2,Nat.and_two_pow_sub_one_eq_mod]
 rw[e,i64_in (by omega),IntWalk.u8_in _ (by omega)]
theorem Bnh {n:Int} (hn:okN n) {i:Nat} (hi:i <8):IntKind.u8.wrap (IntKind.i64.wrap (↑(BitVec.ofInt (64:Nat) (n.fdiv ((2:Int)^min (IntKind.u64.wrap (IntKind.i64.wrap ((8:Int)*(i:Int)))).toNat (64:Nat))) &&& BitVec.ofInt (64:Nat) (255:Int)).toNat:Int))=((n.toNat / 256^i % 256:Nat):Int):=by
 have e1:IntKind.u64.wrap (IntKind.i64.wrap ((8:Int)*(i:Int)))=((8*i:Nat):Int):=by
  rw[i64_in (by omega),IntWalk.u64_in _ (by omega)]
  omega
 have e2:n=(n.toNat:Int):=(Int.toNat_of_nonneg hn.1).symm
 have e3:n.fdiv ((256^i:Nat):Int)=((n.toNat / 256^i:Nat):Int):=by
  rw[Int.fdiv_eq_ediv_of_nonneg _ (Int.natCast_nonneg _)]
  conv=>lhs;rw[e2]
  exact(Int.natCast_ediv _ _).symm
 rw[e1,Int.toNat_natCast,Nat.min_eq_left (by omega),Bg0,e3]
 refine Bld ?_
 have h1:=Nat.div_le_self n.toNat (256^i)
 have h2:=hn.2
 omega
theorem Buw {n:Int} (hn:okN n) {i:Nat} (hi:i <Ed n) (l:List UInt8):BI n (Ed n:Int) (i:Int) l=(((n.toNat+Auf (Ed n)*(64*256^(Ed n - 1))) / 256^i % 256:Nat):Int):=by
 obtain⟨hs,hlt⟩:=Bny hn.1 hn.2
 have h8:Ed n≤8:=by unfold szs at hs;omega
 unfold BI
 rw[Bnh hn (show i <8 by omega),i64_in (n:=(Ed n:Int) - 1) (by omega)]
 by_cases hi1:i=Ed n - 1
 ·have e:((i:Int)==(Ed n:Int) - 1)=true:=by rw[beq_iff_eq];omega
  rw[e,cond_true]
  have hp:0 <256^i:=Nat.pow_pos (by decide)
  have hq:(n.toNat+Auf (Ed n)*(64*256^(Ed n - 1))) / 256^i=n.toNat / 256^i+Auf (Ed n)*64:=by
   rw[←hi1,←Nat.mul_assoc,Nat.add_mul_div_right _ _ hp]
  have hd:n.toNat / 256^i <64:=by rw[Nat.div_lt_iff_lt_mul hp,hi1];exact hlt
  rw[hq]
  generalize n.toNat / 256^i=d at*
  clear hq hlt hi1 e hi
  generalize Ed n=k at*
  rcases hs with rfl|rfl|rfl|rfl
  ·show((d % 256:Nat):Int)=(((d+0*64) % 256:Nat):Int)
   rw[Nat.zero_mul,Nat.add_zero]
  ·show IntKind.u8.wrap (((d % 256:Nat):Int)+64)=(((d+1*64) % 256:Nat):Int)
   rw[IntWalk.u8_in _ (by omega)];omega
  ·show IntKind.u8.wrap (((d % 256:Nat):Int)+128)=(((d+2*64) % 256:Nat):Int)
   rw[IntWalk.u8_in _ (by omega)];omega
  ·show IntKind.u8.wrap (((d % 256:Nat):Int)+192)=(((d+3*64) % 256:Nat):Int)
   rw[IntWalk.u8_in _ (by omega)];omega
 ·have e:((i:Int)==(Ed n:Int) - 1)=false:=by rw[Bool.eq_false_iff,Ne,beq_iff_eq];omega
  rw[e,cond_false]
  have hp:0 <256^i:=Nat.pow_pos (by decide)
  have hq:(n.toNat+Auf (Ed n)*(64*256^(Ed n - 1))) / 256^i=n.toNat / 256^i+Auf (Ed n)*(64*256^(Ed n - 1 - i)):=by
   have:256^(Ed n - 1)=256^(Ed n - 1 - i)*256^i:=by rw[←Nat.pow_add];congr 1;omega
   rw[this,←Nat.mul_assoc 64,←Nat.mul_assoc (Auf _),Nat.add_mul_div_right _ _ hp]
  rw[hq]
  have h2:256^(Ed n - 1 - i)=256^(Ed n - 1 - i - 1)*256:=by rw[←Nat.pow_succ];congr 1;omega
  rw[h2,←Nat.mul_assoc 64,←Nat.mul_assoc (Auf _),Nat.add_mul_mod_self_right]
theorem Bni (b:List UInt8) (n:Int) (hb:Ad (b.length+8)):
  Ax FM FL IH (Hk (n,Bz n,IntKind.i64.wrap (Bz n - (1:Int)),[]++b)) (n,Bz n,IntKind.i64.wrap (Bz n - (1:Int)),[]++b)∧
  (Ov (n,Bz n,IntKind.i64.wrap (Bz n - (1:Int)),[]++b)).2.2.2=b++Ap n:=by
 have hk8:Ed n≤8:=by
  rcases RK n with h|⟨_,_,h⟩
  ·omega
  ·unfold szs at h;omega
 rw[A7q,i64_in (by omega)]
 obtain⟨h1,⟨j,hj,h2⟩,h3⟩:=Abp (next:=FM) (goes:=FL) (ps:=IH)
  (fun x=>∃j:Nat,j≤Ed n∧x=(n,(Ed n:Int),(Ed n:Int) - 1 - (j:Int),b++(Ap n).take j)) Hk (by
   rintro x ⟨j,hj,rfl⟩
   have key:(!!decide ((Ed n:Int) - 1 - (j:Int)≥0))=true→j <Ed n∧okN n:=fun h=>by
    have h':(Ed n:Int) - 1 - (j:Int)≥0:=by simpa using h
    have hlt:j <Ed n:=by omega
    refine⟨hlt,?_⟩
    rcases RK n with hz|⟨g1,g2,_⟩
    ·omega
    ·exact⟨g1,g2⟩
   have byte:j <Ed n→okN n→BI n (Ed n:Int) ((Ed n:Int) - 1 - (j:Int)) (b++(Ap n).take j)=(((n.toNat+Auf (Ed n)*(64*256^(Ed n - 1))) / 256^(Ed n - 1 - j) % 256:Nat):Int):=fun hlt hn=>by
    have e:(Ed n:Int) - 1 - (j:Int)=((Ed n - 1 - j:Nat):Int):=by omega
    rw[e]
    exact Buw hn (by omega) _
   refine⟨Aa (fun h=>?_) (Aa (fun h=>?_) Af),fun hg=>?_⟩
   ·obtain⟨hlt,_⟩:=key h
    show Ad ((b++(Ap n).take j).length+1)
    unfold Ad at*
    rw[List.length_append,List.length_take]
    omega
   ·obtain⟨hlt,hn⟩:=key h
    show(0:Int)≤BI n (Ed n:Int) ((Ed n:Int) - 1 - (j:Int)) (b++(Ap n).take j)∧BI n (Ed n:Int) ((Ed n:Int) - 1 - (j:Int)) (b++(Ap n).take j) <256
    rw[byte hlt hn]
    omega
   ·obtain⟨hlt,hn⟩:=key hg
    refine⟨⟨j+1,hlt,?_⟩,?_⟩
    ·show(n,(Ed n:Int),IntKind.i64.wrap ((Ed n:Int) - 1 - (j:Int) - 1),(b++(Ap n).take j)++[UInt8.ofNat (BI n (Ed n:Int) ((Ed n:Int) - 1 - (j:Int)) (b++(Ap n).take j)).toNat])=_
     rw[byte hlt hn,i64_in (by omega),Int.toNat_natCast]
     have ht:(Ap n).take (j+1)=(Ap n).take j++[UInt8.ofNat ((n.toNat+Auf (Ed n)*(64*256^(Ed n - 1))) / 256^(Ed n - 1 - j) % 256)]:=by
      unfold Ap
      rw[Bfi hlt]
      congr 2
      apply UInt8.toNat_inj.1
      rw[UInt8.toNat_ofNat',UInt8.toNat_ofNat']
      omega
     rw[ht,List.append_assoc]
     simp only[Prod.mk.injEq,true_and,and_true]
     omega
    ·show(IntKind.i64.wrap ((Ed n:Int) - 1 - (j:Int) - 1)+1).toNat <((Ed n:Int) - 1 - (j:Int)+1).toNat
     rw[i64_in (by omega)]
     omega) _ (n,(Ed n:Int),(Ed n:Int) - 1,[]++b) ⟨0,Nat.zero_le _,by simp⟩ (Nat.le_refl _)
 refine⟨h1,?_⟩
 have h4:Ov (n,(Ed n:Int),(Ed n:Int) - 1,[]++b)=_:=h2
 rw[h2] at h3
 have h3':(!!decide ((Ed n:Int) - 1 - (j:Int)≥0))=false:=h3
 have hn:¬((Ed n:Int) - 1 - (j:Int)≥0):=by simpa using h3'
 obtain rfl:j=Ed n:=by omega
 rw[h4,List.take_of_length_le (by rw[Aia];exact Nat.le_refl _)]
theorem Bcg (a0:List UInt8) (a1:Int) (hp:∀p∈Aie a0 a1,p):CallOk Tryz.prog 58 [Ai .bytes a0,Ai .i64 a1] 0 [] 1 (Aq4 a0 a1) 1 (Sz a0 a1):=by
 have hb:Ad (a0.length+8):=hp _ (List.mem_cons_self ..)
 obtain⟨h1,h2⟩:=Bni a0 a1 hb
 have h:=Biz a0 a1 (Aa (by unfold Ad at*;omega) (Aa h1 Af))
 have ho:WD a0 a1=Sz a0 a1:=by unfold WD Sz Ayt;rw[h2]
 rw[ho] at h
 exact h
def Ayv:List A→Nat→Objs→Option A6:=Bt [.t .bytes,.t .i64] 1 Aq4 Sz Aie
theorem A7p:HF Tryz.prog 58 Ayv:=Av (ks:=[.t .bytes,.t .i64]) Bcg
noncomputable def Bve:=AS 58 Ayv Bj1
theorem Boy:Cr Tryz.prog Bve:=An A7p Az6
noncomputable def Btt:=Bve
theorem Bez:Cr Tryz.prog Btt:=Boy
def KW (a0:List UInt8) (a1:ByteArray):List UInt8:=a0++Ap (↑a1.size:Int)
def XG (a0:List UInt8) (a1:ByteArray):List UInt8:=(KW a0 a1)++a1.data.toList
def XH (_a0:List UInt8) (_a1:ByteArray):A:=.sq 0
def LP (a0:List UInt8) (a1:ByteArray):Objs:=[(0,some (.arr 5 1 (.ty .u8 (XG a0 a1))))]
def Vj (a0:List UInt8) (a1:ByteArray):List Prop:=[(Ad (a0.length+(8:Nat))),(Ad ((KW a0 a1).length+a1.data.toList.length))]
theorem Aq0 (a0:List UInt8) (a1:ByteArray):Hz (As Btt L0) 9 100 [Ai .bytes a0,Ai .str a1] 0 []=some (1,XH a0 a1,1,LP a0 a1,Vj a0 a1):=by kernel_rfl
theorem Avq (a0:List UInt8) (a1:ByteArray) (hp:∀p∈Vj a0 a1,p):CallOk Tryz.prog 100 [Ai .bytes a0,Ai .str a1] 0 [] 1 (XH a0 a1) 1 (LP a0 a1):=AB (Ar Bez AA) (Aq0 a0 a1) hp
def Vk (_a0:List UInt8) (_a1:ByteArray):A:=.sq 0
def KX (a0:List UInt8) (a1:ByteArray):Objs:=[(0,some (.arr 5 1 (.ty .u8 (a0++Iq a1))))]
def Tl (a0:List UInt8) (a1:ByteArray):List Prop:=[Ad (a0.length+8+a1.size)]
theorem Aqz (a0:List UInt8) (a1:ByteArray) (hp:∀p∈Tl a0 a1,p):CallOk Tryz.prog 100 [Ai .bytes a0,Ai .str a1] 0 [] 1 (Vk a0 a1) 1 (KX a0 a1):=by
 have hb:Ad (a0.length+8+a1.size):=hp _ (List.mem_cons_self ..)
 have h:=Avq a0 a1 (Aa (by unfold Ad at*;omega) (Aa (by
  have:=A3 (a1.size:Int)
  have hs:a1.data.toList.length=a1.size:=Array.length_toList
  unfold KW Ad at*
  rw[List.length_append,hs]
  omega) Af))
 have ho:LP a0 a1=KX a0 a1:=by unfold LP KX XG KW Iq;rw[List.append_assoc]
 rw[ho] at h
 exact h
def Qa:List A→Nat→Objs→Option A6:=Bt [.t .bytes,.t .str] 1 Vk KX Tl
theorem Tm:HF Tryz.prog 100 Qa:=Av (ks:=[.t .bytes,.t .str]) Aqz
noncomputable def Bvf:=AS 100 Qa Btt
theorem Boz:Cr Tryz.prog Bvf:=An Tm Bez
noncomputable def Btu:=Bvf
theorem Be0:Cr Tryz.prog Btu:=Boz
def SC (a0:TStamp):Int:=bif a0.1==(0:Int) then(0:Int) else IntKind.i64.wrap (IntKind.i64.wrap (IntKind.i64.wrap ((2:Int)*a0.1)+a0.2) - (1:Int))
def Za (a0:TStamp):A:=.v (.int .i64 (SC a0))
def Y9 (_a0:TStamp):Objs:=[]
def Vs (_a0:TStamp):List Prop:=[]
theorem A7z (a0:TStamp):Hz (As Btu L0) 9 114 [Ai .stamp a0] 0 []=some (1,Za a0,0,Y9 a0,Vs a0):=by kernel_rfl
theorem Bcs (a0:TStamp) (hp:∀p∈Vs a0,p):CallOk Tryz.prog 114 [Ai .stamp a0] 0 [] 1 (Za a0) 0 (Y9 a0):=AB (Ar Be0 AA) (A7z a0) hp
def Ard:List A→Nat→Objs→Option A6:=Bt [.t .stamp] 0 Za Y9 Vs
theorem A2d:HF Tryz.prog 114 Ard:=Av (ks:=[.t .stamp]) Bcs
noncomputable def Btv:=AS 114 Ard Btu
theorem Be1:Cr Tryz.prog Btv:=An A2d Be0
def Ay1 (a0:List UInt8) (a1:TStamp):List UInt8:=bif !El a1 then[]++a0 else a0++Ap (SC a1)
def Ay2 (_a0:List UInt8) (_a1:TStamp):A:=.sq 0
def WF (a0:List UInt8) (a1:TStamp):Objs:=[(0,some (.arr 5 1 (.ty .u8 (Ay1 a0 a1))))]
def Arf (a0:List UInt8) (a1:TStamp):List Prop:=[((!El a1)=true→Ad ((0:Nat)+a0.length)),((!!El a1)=true→Ad (a0.length+(8:Nat)))]
theorem Bcv (a0:List UInt8) (a1:TStamp):Hz (As Btv L0) 9 99 [Ai .bytes a0,Ai .stamp a1] 0 []=some (1,Ay2 a0 a1,1,WF a0 a1,Arf a0 a1):=by kernel_rfl
theorem Bi3 (a0:List UInt8) (a1:TStamp) (hp:∀p∈Arf a0 a1,p):CallOk Tryz.prog 99 [Ai .bytes a0,Ai .stamp a1] 0 [] 1 (Ay2 a0 a1) 1 (WF a0 a1):=AB (Ar Be1 AA) (Bcv a0 a1) hp
def Arg (_a0:List UInt8) (_a1:TStamp):A:=.sq 0
def SD (a0:List UInt8) (a1:TStamp):Objs:=[(0,some (.arr 5 1 (.ty .u8 (a0++P8 a1))))]
def Aik (a0:List UInt8) (_a1:TStamp):List Prop:=[Ad (a0.length+8)]
theorem A7y (s:TStamp) (h:JG s=true):SC s=Bfn s:=by
 have h':=Ax8.1 h
 unfold SC Bfn
 cases s.1==0 with
 |true=>rfl
 |false=>rw[cond_false,cond_false,i64_in (n:=2*s.1) (by omega),i64_in (n:=2*s.1+s.2) (by omega),i64_in (by omega)]
theorem Bcu (a0:List UInt8) (a1:TStamp) (hp:∀p∈Aik a0 a1,p):CallOk Tryz.prog 99 [Ai .bytes a0,Ai .stamp a1] 0 [] 1 (Arg a0 a1) 1 (SD a0 a1):=by
 have hb:Ad (a0.length+8):=hp _ (List.mem_cons_self ..)
 have h:=Bi3 a0 a1 (Aa (fun _=>by unfold Ad at*;omega) (Aa (fun _=>hb) Af))
 have ho:WF a0 a1=SD a0 a1:=by
  unfold WF SD Ay1 P8
  rw[Vt]
  cases hg:JG a1 with
  |true=>rw[A7y a1 hg];rfl
  |false=>simp
 rw[ho] at h
 exact h
def Ay3:List A→Nat→Objs→Option A6:=Bt [.t .bytes,.t .stamp] 1 Arg SD Aik
theorem A71:HF Tryz.prog 99 Ay3:=Av (ks:=[.t .bytes,.t .stamp]) Bcu
noncomputable def Bvg:=AS 99 Ay3 Btv
theorem Bo0:Cr Tryz.prog Bvg:=An A71 Be1
noncomputable def Btw:=Bvg
theorem Be2:Cr Tryz.prog Btw:=Bo0
def SE (a0:List UInt8) (a1:TVec):List UInt8:=a0++Ap a1.1
def Ay4 (a0:List UInt8) (a1:TVec):List UInt8:=bif !BT a1 then[]++a0 else(SE a0 a1)++Ap a1.2
def Ay5 (_a0:List UInt8) (_a1:TVec):A:=.sq 0
def WG (a0:List UInt8) (a1:TVec):Objs:=[(0,some (.arr 5 1 (.ty .u8 (Ay4 a0 a1))))]
def Ari (a0:List UInt8) (a1:TVec):List Prop:=[((!BT a1)=true→Ad ((0:Nat)+a0.length)),((!!BT a1)=true→Ad (a0.length+(8:Nat))),((!!BT a1)=true→Ad ((SE a0 a1).length+(8:Nat)))]
theorem Bcy (a0:List UInt8) (a1:TVec):Hz (As Btw L0) 9 61 [Ai .bytes a0,Ai .vec a1] 0 []=some (1,Ay5 a0 a1,1,WG a0 a1,Ari a0 a1):=by kernel_rfl
theorem Bi4 (a0:List UInt8) (a1:TVec) (hp:∀p∈Ari a0 a1,p):CallOk Tryz.prog 61 [Ai .bytes a0,Ai .vec a1] 0 [] 1 (Ay5 a0 a1) 1 (WG a0 a1):=AB (Ar Be2 AA) (Bcy a0 a1) hp
def Arj (_a0:List UInt8) (_a1:TVec):A:=.sq 0
def SF (a0:List UInt8) (a1:TVec):Objs:=[(0,some (.arr 5 1 (.ty .u8 (a0++Ic a1))))]
def Ail (a0:List UInt8) (_a1:TVec):List Prop:=[Ad (a0.length+16)]
theorem Bcx (a0:List UInt8) (a1:TVec) (hp:∀p∈Ail a0 a1,p):CallOk Tryz.prog 61 [Ai .bytes a0,Ai .vec a1] 0 [] 1 (Arj a0 a1) 1 (SF a0 a1):=by
 have hb:Ad (a0.length+16):=hp _ (List.mem_cons_self ..)
 have h:=Bi4 a0 a1 (Aa (fun _=>by unfold Ad at*;omega) (Aa (fun _=>by unfold Ad at*;omega) (Aa (fun _=>by
  have:=A3 a1.1
  unfold SE Ad at*
  rw[List.length_append]
  omega) Af)))
 have ho:WG a0 a1=SF a0 a1:=by
  unfold WG SF Ay4 SE Ic
  rw[Mm]
  cases G8 a1<;>simp
 rw[ho] at h
 exact h
def Ay6:List A→Nat→Objs→Option A6:=Bt [.t .bytes,.t .vec] 1 Arj SF Ail
theorem A73:HF Tryz.prog 61 Ay6:=Av (ks:=[.t .bytes,.t .vec]) Bcx
noncomputable def Bvh:=AS 61 Ay6 Btw
theorem Bo1:Cr Tryz.prog Bvh:=An A73 Be2
noncomputable def Bsg:=Bvh
theorem Bj2:Cr Tryz.prog Bsg:=Bo1
noncomputable def Ce:=Bsg
theorem Bsh:Cr Tryz.prog Ce:=Bj2
end Go.Proofs.YtifkbgkbajncjaaGreatDoor
