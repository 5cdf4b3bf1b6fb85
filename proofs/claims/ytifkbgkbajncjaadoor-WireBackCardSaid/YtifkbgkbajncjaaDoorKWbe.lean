/- made by a program (rowgen.py): WireBack: for every input the law returns true, and each argument reads behind the call as it read before. -/
import Derived.Test.YtifkbgkbajncjaaDoorKWbd

set_option maxRecDepth 100000
noncomputable section
namespace Go.Proofs.YtifkbgkbajncjaaDoor
open Go.RowKit
theorem Ahz (n:Int):KP n=(n==1||n==2):=by
 unfold KP MA
 cases n==1<;>cases n==2<;>rfl
theorem KO (s:Ba):C7 s=HJ s:=by
 unfold C7 HJ
 rw[Ahz]
 rfl
theorem Rt (x:Int):(Jj x==x)=(decide (0≤x)&&decide (x≤1099511627776)):=by
 unfold Jj
 rw[Bool.eq_iff_iff]
 simp only[beq_iff_eq,Bool.and_eq_true,decide_eq_true_eq]
 omega
theorem JJ (v:Bu):Cx v=EP v:=by
 unfold Cx EP
 rw[Rt,Rt]
theorem WD {α:Type} (c:Bool) (x:α):(bif c then x else x)=x:=by cases c<;>rfl
theorem DJ (n:Int):(AE n).length≤8:=by
 rw[H8]
 rcases X6 n with h|⟨_,_,h⟩
 ·omega
 ·unfold szs at h;omega
theorem Aoi (s:Ba):(Mr s).length≤8:=by
 unfold Mr
 cases HJ s with
 |true=>exact DJ _
 |false=>exact Nat.zero_le _
theorem TL (v:Bu):(GY v).length≤16:=by
 unfold GY
 cases EP v with
 |true=>
  rw[cond_true,List.length_append]
  have h1:=DJ v.a
  have h2:=DJ v.b
  omega
 |false=>exact Nat.zero_le _
theorem V6 (t:ByteArray):(Hm t).length≤8+t.size:=by
 unfold Hm
 rw[List.length_append]
 have h1:=DJ (t.size:Int)
 have hs:t.data.toList.length=t.size:=Array.length_toList
 omega
def FS (a0:AG):Bool:=!(a0.1.1==0&&a0.1.2==0&&(a0.2.1==0&&a0.2.2==0&&(a0.3==false&&(a0.4.toList==(ByteArray.mk #[]).toList&&true))))
def Aea (a0:AG):A:=.v (.bool (FS a0))
def Ab3 (_a0:AG):List Prop:=[]
theorem Yp:IE Bb 64 (Et [.t .cell] 0 Aea (fun _=>[]) Ab3):=A8 fun a0 hp=>Bh (u:=9) (AU Cb.2 A9) (by kernel_rfl) hp
def Bip:=Gi Yp Cb
def Ei (a0:Int) (a1:AG):Bool:=bif bif a0==1 then !(a1.5.1==0&&a1.5.2==0) else !a0==2||(a1.3||!Cx a1.5) then bif a0==1 then false else bif a0==2 then false else false else bif !FS a1 then true else decide (a1.1.1 >0)&&C7 a1.1&&Cx a1.2&&decide ((a1.4.size:Int)≤64)&&!(a1.3&&!a1.4.toList==(ByteArray.mk #[]).toList)
def Aad (a0:Int) (a1:AG):A:=.v (.bool (Ei a0 a1))
def WM (_a0:Int) (_a1:AG):List Prop:=[]
theorem Aac (a0:Int) (a1:AG) (hp:∀p∈WM a0 a1,p):Ax Bb 62 [AX .i64 a0,AX .cell a1] 0 [] 1 (Aad a0 a1) 0 []:=Bh (u:=9) (AU Bip.2 A9) (by kernel_rfl) hp
theorem Ain:IE Bb 62 (Et [.t .i64,.t .cell] 0 Aad (fun _ _=>[]) WM):=A8 Aac
def Bir:=Gi Ain Bip
theorem K8 (c:AG):FS c=D3 c:=by
 unfold FS D3
 have hg:(c.3==false)=!c.gone:=by show(c.gone==false)=!c.gone;cases c.gone<;>rfl
 rw[Agm,Bool.and_true,hg]
 simp only[Bool.and_assoc]
theorem Ln (p:Int) (c:AG):Ei p c=HI p c:=by
 unfold Ei HI GR
 rw[K8,JJ,JJ,KO,Agm]
 have hw:(bif !D3 c then true else decide (c.1.1 >(0:Int))&&HJ c.1&&EP c.2&&decide (((c.4.size:Nat):Int)≤(64:Int))&&!(c.3&&!c.4.size==0))=bif !D3 c then true else HJ c.stamp&&decide (0 <c.stamp.n)&&EP c.vec&&decide ((c.value.size:Int)≤64)&&!(c.gone&&!(c.value.size==0)):=by
  rw[Bool.and_comm (decide (c.1.1 >(0:Int)))]
 rw[hw]
 generalize (bif !D3 c then true else HJ c.stamp&&decide (0 <c.stamp.n)&&EP c.vec&&decide ((c.value.size:Int)≤64)&&!(c.gone&&!(c.value.size==0)))=X
 by_cases h1:p=1
 ·subst h1
  show(bif !(c.5.1==(0:Int)&&c.5.2==(0:Int)) then false else X)=bif !(c.5.1==(0:Int)&&c.5.2==(0:Int))||false then false else X
  rw[Bool.or_false]
 ·have e1:(p==1)=false:=by simpa using h1
  rw[e1]
  by_cases h2:p=2
  ·subst h2
   show(bif c.3||!EP c.5 then false else X)=bif(c.3||!EP c.5)||false then false else X
   rw[Bool.or_false]
  ·have e2:(p==2)=false:=by simpa using h2
   rw[e2]
   rfl
def S8 (a0:Ak) (a1:Ba):Ak:=a0++AE (bif a1.1==0&&a1.2==0 then 0 else bif C7 a1 then IntKind.i64.wrap (IntKind.i64.wrap (IntKind.i64.wrap (a1.1*2)+a1.2) - 1) else(-1:Int))
def Auq (_a0:Ak) (_a1:Ba):A:=.sq 0
def S9 (a0:Ak) (a1:Ba):AJ:=[(0,some (.arr 5 1 (.ty .u8 (S8 a0 a1))))]
def Apm (a0:Ak) (_a1:Ba):List Prop:=[(Ai (a0.length+8))]
theorem Aup (a0:Ak) (a1:Ba) (hp:∀p∈Apm a0 a1,p):Ax Bb 38 [AX .bytes a0,AX .stamp a1] 0 [] 1 (Auq a0 a1) 1 (S9 a0 a1):=Bh (u:=9) (AU Bir.2 A9) (by kernel_rfl) hp
def X5 (_a0:Ak) (_a1:Ba):A:=.sq 0
def LB (a0:Ak) (a1:Ba):AJ:=[(0,some (.arr 5 1 (.ty .u8 (a0++Mr a1))))]
def UZ (a0:Ak) (_a1:Ba):List Prop:=[Ai (a0.length+8)]
theorem Apl (a0:Ak) (a1:Ba):S8 a0 a1=a0++Mr a1:=by
 unfold S8 Mr WR
 rw[KO]
 congr 1
 cases hg:HJ a1 with
 | false=>
  have hz:(a1.1==(0:Int)&&a1.2==(0:Int))=false:=by
   rw[Bool.eq_false_iff]
   intro h
   unfold HJ at hg
   rw[h] at hg
   cases hg
  rw[hz]
  rfl
 | true=>
  have h':=YV.1 hg
  rw[cond_true,cond_true]
  congr 1
  by_cases h0:a1.n=0
  ·have hz:(a1.1==(0:Int)&&a1.2==(0:Int))=true:=by
    rcases h' with⟨h1,h2⟩|h1
    ·rw[h1,h2];rfl
    ·omega
   have e:(a1.n==0)=true:=by simpa using h0
   rw[hz,e]
   rfl
  ·have hz:(a1.1==(0:Int)&&a1.2==(0:Int))=false:=by
    have:(a1.1==(0:Int))=false:=by simpa using h0
    rw[this];rfl
   have e:(a1.n==0)=false:=by simpa using h0
   rw[hz,e,cond_false,cond_false,i64_in (n:=a1.1*2) (by omega),i64_in (n:=a1.1*2+a1.2) (by omega),i64_in (by omega)]
   omega
theorem Apk (a0:Ak) (a1:Ba) (hp:∀p∈UZ a0 a1,p):Ax Bb 38 [AX .bytes a0,AX .stamp a1] 0 [] 1 (X5 a0 a1) 1 (LB a0 a1):=by
 have h:=Aup a0 a1 (Aa (hp _ (List.mem_cons_self ..)) An)
 have ho:S9 a0 a1=LB a0 a1:=by unfold S9 LB;rw[Apl]
 rw[ho] at h
 exact h
theorem Ajx:IE Bb 38 (Et [.t .bytes,.t .stamp] 1 X5 LB UZ):=A8 Apk
def Bis:=Gi Ajx Bir
def QT (a0:Ak) (a1:Bu):Ak:=a0++AE a1.1
def ZP (a0:Ak) (a1:Bu):Ak:=bif !Cx a1 then[]++a0 else(QT a0 a1)++AE a1.2
def A4i (_a0:Ak) (_a1:Bu):A:=.sq 0
def ZQ (a0:Ak) (a1:Bu):AJ:=[(0,some (.arr 5 1 (.ty .u8 (ZP a0 a1))))]
def Ays (a0:Ak) (a1:Bu):List Prop:=[((!Cx a1)=true→Ai (0+a0.length)),((!!Cx a1)=true→Ai (a0.length+8)),((!!Cx a1)=true→Ai ((QT a0 a1).length+8))]
theorem A4h (a0:Ak) (a1:Bu) (hp:∀p∈Ays a0 a1,p):Ax Bb 16 [AX .bytes a0,AX .vec a1] 0 [] 1 (A4i a0 a1) 1 (ZQ a0 a1):=Bh (u:=9) (AU Bis.2 A9) (by kernel_rfl) hp
def Ah7 (_a0:Ak) (_a1:Bu):A:=.sq 0
def QU (a0:Ak) (a1:Bu):AJ:=[(0,some (.arr 5 1 (.ty .u8 (a0++GY a1))))]
def Abu (a0:Ak) (_a1:Bu):List Prop:=[Ai (a0.length+16)]
theorem Ayr (a0:Ak) (a1:Bu):ZP a0 a1=a0++GY a1:=by
 unfold ZP QT GY
 rw[JJ]
 cases EP a1 with
 |false=>exact(List.append_nil a0).symm
 |true=>exact List.append_assoc ..
theorem Ayq (a0:Ak) (a1:Bu) (hp:∀p∈Abu a0 a1,p):Ax Bb 16 [AX .bytes a0,AX .vec a1] 0 [] 1 (Ah7 a0 a1) 1 (QU a0 a1):=by
 have hb:Ai (a0.length+16):=hp _ (List.mem_cons_self ..)
 have h:=A4h a0 a1 (Aa (fun _=>by unfold Ai at*;omega) (Aa (fun _=>by unfold Ai at*;omega) (Aa (fun _=>by
  have:=DJ a1.1
  unfold QT Ai at*
  rw[List.length_append]
  omega) An)))
 have ho:ZQ a0 a1=QU a0 a1:=by unfold ZQ QU;rw[Ayr]
 rw[ho] at h
 exact h
theorem Auz:IE Bb 16 (Et [.t .bytes,.t .vec] 1 Ah7 QU Abu):=A8 Ayq
def Biu:=Gi Auz Bis
def J0 (a0:Ak) (a1:ByteArray):Ak:=a0++AE (a1.size:Int)
def UN (a0:Ak) (a1:ByteArray):Ak:=(J0 a0 a1)++a1.data.toList
def Ajd (_a0:Ak) (_a1:ByteArray):A:=.sq 0
def OD (a0:Ak) (a1:ByteArray):AJ:=[(0,some (.arr 5 1 (.ty .u8 (UN a0 a1))))]
def Agu (a0:Ak) (a1:ByteArray):List Prop:=[(Ai (a0.length+8)),(Ai ((J0 a0 a1).length+a1.data.toList.length))]
theorem Ajc (a0:Ak) (a1:ByteArray) (hp:∀p∈Agu a0 a1,p):Ax Bb 39 [AX .bytes a0,AX .str a1] 0 [] 1 (Ajd a0 a1) 1 (OD a0 a1):=Bh (u:=9) (AU Biu.2 A9) (by kernel_rfl) hp
def Sv (_a0:Ak) (_a1:ByteArray):A:=.sq 0
def J1 (a0:Ak) (a1:ByteArray):AJ:=[(0,some (.arr 5 1 (.ty .u8 (a0++Hm a1))))]
def Rg (a0:Ak) (a1:ByteArray):List Prop:=[Ai (a0.length+8+a1.size)]
theorem Su (a0:Ak) (a1:ByteArray) (hp:∀p∈Rg a0 a1,p):Ax Bb 39 [AX .bytes a0,AX .str a1] 0 [] 1 (Sv a0 a1) 1 (J1 a0 a1):=by
 have hb:Ai (a0.length+8+a1.size):=hp _ (List.mem_cons_self ..)
 have h:=Ajc a0 a1 (Aa (by unfold Ai at*;omega) (Aa (by
  have:=DJ (a1.size:Int)
  have hs:a1.data.toList.length=a1.size:=Array.length_toList
  unfold J0 Ai at*
  rw[List.length_append,hs]
  omega) An))
 have ho:OD a0 a1=J1 a0 a1:=by unfold OD J1 UN J0 Hm;rw[List.append_assoc]
 rw[ho] at h
 exact h
theorem Acp:IE Bb 39 (Et [.t .bytes,.t .str] 1 Sv J1 Rg):=A8 Su
def Biv:=Gi Acp Biu
def DD (_a0:Ak) (_a1:Int) (a2:AG):Int:=bif a2.3 then IntKind.i64.wrap (↑(BitVec.ofInt 64 (bif FS a2 then 1 else 0) ||| BitVec.ofInt 64 2).toNat:Int) else bif FS a2 then 1 else 0
def H0 (a0:Ak) (a1:Int) (a2:AG):Ak:=a0++AE (bif !(a2.5.1==0&&a2.5.2==0) then IntKind.i64.wrap (↑(BitVec.ofInt 64 (DD a0 a1 a2) ||| BitVec.ofInt 64 4).toNat:Int) else(DD a0 a1 a2))++Mr a2.1
def FG (a0:Ak) (a1:Int) (a2:AG):Bool:=decide (IntKind.i64.wrap (↑(BitVec.ofInt 64 (bif !(a2.5.1==0&&a2.5.2==0) then IntKind.i64.wrap (↑(BitVec.ofInt 64 (DD a0 a1 a2) ||| BitVec.ofInt 64 4).toNat:Int) else(DD a0 a1 a2)) &&& BitVec.ofInt 64 1).toNat:Int) >0)
def MZ (a0:Ak) (a1:Int) (a2:AG):Bool:=decide (IntKind.i64.wrap (↑(BitVec.ofInt 64 (bif !(a2.5.1==0&&a2.5.2==0) then IntKind.i64.wrap (↑(BitVec.ofInt 64 (DD a0 a1 a2) ||| BitVec.ofInt 64 4).toNat:Int) else(DD a0 a1 a2)) &&& BitVec.ofInt 64 4).toNat:Int) >0)
def JD (a0:Ak) (a1:Int) (a2:AG):Ak:=bif(FG a0 a1 a2) then bif !a2.3 then(H0 a0 a1 a2)++GY a2.2++Hm a2.4 else(H0 a0 a1 a2)++GY a2.2 else a0++AE (bif !(a2.5.1==0&&a2.5.2==0) then IntKind.i64.wrap (↑(BitVec.ofInt 64 (DD a0 a1 a2) ||| BitVec.ofInt 64 4).toNat:Int) else(DD a0 a1 a2))
def Vi (a0:Ak) (a1:Int) (a2:AG):Ak:=bif !Ei a1 a2 then[]++a0 else bif(MZ a0 a1 a2) then(JD a0 a1 a2)++GY (Bu.mk (bif(FG a0 a1 a2) then bif !a2.3 then a2.5.1 else a2.5.1 else a2.5.1) (bif(FG a0 a1 a2) then bif !a2.3 then a2.5.2 else a2.5.2 else a2.5.2)) else(JD a0 a1 a2)
def Avz (_a0:Ak) (_a1:Int) (_a2:AG):A:=.sq 0
def Vj (a0:Ak) (a1:Int) (a2:AG):AJ:=[(0,some (.arr 5 1 (.ty .u8 (Vi a0 a1 a2))))]
def Aq8 (a0:Ak) (a1:Int) (a2:AG):List Prop:=[((!Ei a1 a2)=true→Ai (0+a0.length)),((!!Ei a1 a2)=true→Ai (a0.length+8)),((!!Ei a1 a2)=true→(FG a0 a1 a2)=true→Ai ((a0++AE (bif !(a2.5.1==0&&a2.5.2==0) then IntKind.i64.wrap (↑(BitVec.ofInt 64 (DD a0 a1 a2) ||| BitVec.ofInt 64 4).toNat:Int) else(DD a0 a1 a2))).length+8)),((!!Ei a1 a2)=true→(FG a0 a1 a2)=true→Ai ((H0 a0 a1 a2).length+16)),((!!Ei a1 a2)=true→(FG a0 a1 a2)=true→(!a2.3)=true→Ai (((H0 a0 a1 a2)++GY a2.2).length+8+a2.4.size)),((!!Ei a1 a2)=true→(MZ a0 a1 a2)=true→Ai ((JD a0 a1 a2).length+16))]
theorem Avy (a0:Ak) (a1:Int) (a2:AG) (hp:∀p∈Aq8 a0 a1 a2,p):Ax Bb 42 [AX .bytes a0,AX .i64 a1,AX .cell a2] 0 [] 1 (Avz a0 a1 a2) 1 (Vj a0 a1 a2):=Bh (u:=9) (AU Biv.2 A9) (by kernel_rfl) hp
def Aag (_a0:Ak) (_a1:Int) (_a2:AG):A:=.sq 0
def M0 (a0:Ak) (a1:Int) (a2:AG):AJ:=[(0,some (.arr 5 1 (.ty .u8 (a0++Kf a1 a2))))]
def WN (a0:Ak) (_a1:Int) (_a2:AG):List Prop:=[Ai (a0.length+128)]
theorem Kj (a0:Ak) (a1:Int) (c:AG):(bif !(c.5.1==(0:Int)&&c.5.2==(0:Int)) then IntKind.i64.wrap (↑(BitVec.ofInt (64:Nat) (DD a0 a1 c) ||| BitVec.ofInt (64:Nat) (4:Int)).toNat:Int) else(DD a0 a1 c))=G7 c:=by
 unfold DD G7
 rw[K8]
 show(bif !(GR c.dead) then _ else _)=_
 cases D3 c<;>cases c.gone<;>cases GR c.dead<;>rfl
theorem Aae (a0:Ak) (a1:Int) (c:AG):FG a0 a1 c=D3 c:=by
 unfold FG
 obtain⟨h1,_,h3,_⟩:=Ae2 c
 rw[Kj,WE h1 0 1 rfl (by decide)]
 exact h3
theorem Aq6 (a0:Ak) (a1:Int) (c:AG):MZ a0 a1 c=!GR c.dead:=by
 unfold MZ
 obtain⟨h1,_,_,_,h5⟩:=Ae2 c
 rw[Kj,WE h1 2 4 rfl (by decide)]
 exact h5
theorem Aq7 (a0:Ak) (a1:Int) (c:AG):Vi a0 a1 c=a0++Kf a1 c:=by
 unfold Vi JD H0 Kf O2
 rw[Ln,Kj,Aae,Aq6]
 have hd:∀w g:Bool,(Bu.mk (bif w then bif !g then c.5.1 else c.5.1 else c.5.1) (bif w then bif !g then c.5.2 else c.5.2 else c.5.2))=c.dead:=by intro w g;cases w<;>cases g<;>rfl
 rw[hd]
 cases HI a1 c<;>cases D3 c<;>cases c.gone<;>cases GR c.dead<;>simp
theorem Aaf (a0:Ak) (a1:Int) (a2:AG) (hp:∀p∈WN a0 a1 a2,p):Ax Bb 42 [AX .bytes a0,AX .i64 a1,AX .cell a2] 0 [] 1 (Aag a0 a1 a2) 1 (M0 a0 a1 a2):=by
 have hb:Ai (a0.length+128):=hp _ (List.mem_cons_self ..)
 unfold Ai at hb
 have n8:=DJ (G7 a2)
 have s8:=Aoi a2.stamp
 have zw:=TL a2.vec
 have t8:=V6 a2.value
 have k3:(H0 a0 a1 a2).length≤a0.length+16:=by
  unfold H0
  rw[Kj,List.length_append,List.length_append]
  omega
 have sz:(!!Ei a1 a2)=true→FG a0 a1 a2=true→a2.value.size≤64:=fun h1 h2=>by
  rw[Ln,Bool.not_not] at h1
  rw[Aae] at h2
  have:=((YU.1 h1).st h2).2.2.2.1
  omega
 have h:=Avy a0 a1 a2 (Aa (fun _=>by unfold Ai;omega) (Aa (fun _=>by unfold Ai;omega) (Aa (fun _ _=>by rw[Kj,List.length_append];unfold Ai;omega) (Aa (fun _ _=>by unfold Ai;omega) (Aa (fun h1 h2 _=>by
   have:=sz h1 h2
   rw[List.length_append];unfold Ai;omega) (Aa (fun h1 _=>by
   have:(JD a0 a1 a2).length≤a0.length+112:=by
    unfold JD
    rw[Kj]
    cases hw:FG a0 a1 a2 with
    |false=>rw[cond_false,List.length_append];omega
    |true=>
     have:=sz h1 hw
     rw[cond_true]
     cases a2.3 with
     |true=>simp only[Bool.not_true,cond_false,List.length_append];omega
     |false=>simp only[Bool.not_false,cond_true,List.length_append];omega
   unfold Ai;omega) An))))))
 have ho:Vj a0 a1 a2=M0 a0 a1 a2:=by unfold Vj M0;rw[Aq7]
 rw[ho] at h
 exact h
theorem Amk:IE Bb 42 (Et [.t .bytes,.t .i64,.t .cell] 1 Aag M0 WN):=A8 Aaf
def Biw:=Gi Amk Biv
def J7 (a0:Ak):Bool:=(Am a0).1==0
def J6 (a0:Ak):Bool:=(Am a0).2.2 !=0
def J5 (a0:Ak):Bool:=!C7 (Ba.mk ((Am a0).1.fdiv 2) (IntKind.i64.wrap (IntKind.i64.wrap (↑(BitVec.ofInt 64 (Am a0).1 &&& BitVec.ofInt 64 1).toNat:Int)+1)))
def Od (a0:Ak):Ba:=Ba.mk (bif(J6 a0) then 0 else bif(J7 a0) then 0 else bif(J5 a0) then 0 else(Am a0).1.fdiv 2) (bif(J6 a0) then 0 else bif(J7 a0) then 0 else bif(J5 a0) then 0 else IntKind.i64.wrap (IntKind.i64.wrap (↑(BitVec.ofInt 64 (Am a0).1 &&& BitVec.ofInt 64 1).toNat:Int)+1))
def S5 (a0:Ak):Int:=bif(J6 a0) then 0 else bif(J7 a0) then(Am a0).2.1 else bif(J5 a0) then 0 else(Am a0).2.1
def S6 (a0:Ak):Int:=bif(J6 a0) then(Am a0).2.2 else bif(J7 a0) then 0 else bif(J5 a0) then 11 else 0
def S7 (a0:Ak):A:=.v (.tuple ⟨[.agg ⟨[.int .i64 ((Od a0).n),.int .i64 ((Od a0).site)]⟩,.int .i64 (S5 a0),.int .i64 (S6 a0)]⟩)
def Api (_a0:Ak):List Prop:=[]
theorem Auo (a0:Ak) (hp:∀p∈Api a0,p):Ax Bb 48 [AX .bytes a0] 0 [] 1 (S7 a0) 0 []:=Bh (u:=9) (AU Biw.2 A9) (by kernel_rfl) hp
def LA (a0:Ak):A:=.v (.tuple ⟨[.agg ⟨[.int .i64 (AM a0).1.n,.int .i64 (AM a0).1.site]⟩,.int .i64 (AM a0).2.1,.int .i64 (AM a0).2.2]⟩)
def UY (_a0:Ak):List Prop:=[]
theorem Aph (b:Ak):(Od b,S5 b,S6 b)=AM b:=by
 obtain⟨_,_,_,ji,om⟩:=Dg b
 have dz:Wy (Am b).1:=⟨ji,om⟩
 unfold Od S5 S6 J5 J6 J7 AM Arm
 rw[Baz dz,KO,Int.fdiv_eq_ediv_of_nonneg _ (by decide)]
 by_cases he:(Am b).2.2=0
 ·have e1:((Am b).2.2 !=(0:Int))=false:=by rw[he];rfl
  rw[e1,if_neg (by rw[he];simp)]
  by_cases hz:(Am b).1=0
  ·have e2:((Am b).1==(0:Int))=true:=by rw[hz];rfl
   rw[e2,if_pos hz]
   rfl
  ·have e2:((Am b).1==(0:Int))=false:=by simpa using hz
   rw[e2,if_neg hz]
   cases hg:HJ ⟨(Am b).1 / 2,1+(Am b).1 % 2⟩ with
   |true=>rfl
   |false=>rfl
 ·have e1:((Am b).2.2 !=(0:Int))=true:=by simpa using he
  rw[e1,if_pos he]
  rfl
theorem Apg (a0:Ak) (_hp:∀p∈UY a0,p):Ax Bb 48 [AX .bytes a0] 0 [] 1 (LA a0) 0 []:=by
 have h:=Auo a0 An
 have hr:S7 a0=LA a0:=by unfold S7 LA;rw[←Aph]
 rw[hr] at h
 exact h
theorem Ajv:IE Bb 48 (Et [.t .bytes] 0 LA (fun _=>[]) UY):=A8 Apg
def Bfz:=Gi Ajv Biw
def GX (a0:Ak):Bool:=(Am (List.take ((a0.length:Int).toNat - 0) (List.drop 0 a0))).2.2 !=0
def DA (a0:Ak):Int:=IntKind.i64.wrap (0+(Am (List.take ((a0.length:Int).toNat - 0) (List.drop 0 a0))).2.1)
def QR (a0:Ak):Int:=bif(GX a0) then 0 else 0
def MD (a0:Ak):Int:=(Am (List.take ((a0.length:Int).toNat - (DA a0).toNat) (List.drop (DA a0).toNat a0))).2.2
def MC (a0:Ak):Bool:=!Cx (Bu.mk (Am (List.take ((a0.length:Int).toNat - 0) (List.drop 0 a0))).1 (Am (List.take ((a0.length:Int).toNat - (DA a0).toNat) (List.drop (DA a0).toNat a0))).1)
def MB (a0:Ak):Bool:=(GX a0)||(MD a0) !=0
def TV (a0:Ak):Bu:=Bu.mk (bif(MB a0) then(QR a0) else bif(MC a0) then 0 else(Am (List.take ((a0.length:Int).toNat - 0) (List.drop 0 a0))).1) (bif(MB a0) then(QR a0) else bif(MC a0) then 0 else(Am (List.take ((a0.length:Int).toNat - (DA a0).toNat) (List.drop (DA a0).toNat a0))).1)
def ZN (a0:Ak):Int:=bif(MB a0) then(QR a0) else bif(MC a0) then 0 else IntKind.i64.wrap ((DA a0)+(Am (List.take ((a0.length:Int).toNat - (DA a0).toNat) (List.drop (DA a0).toNat a0))).2.1)
def ZO (a0:Ak):Int:=bif(MB a0) then bif(GX a0) then(Am (List.take ((a0.length:Int).toNat - 0) (List.drop 0 a0))).2.2 else(MD a0) else bif(MC a0) then 11 else 0
def TW (a0:Ak):A:=.v (.tuple ⟨[.agg ⟨[.int .i64 ((TV a0).a),.int .i64 ((TV a0).b)]⟩,.int .i64 (ZN a0),.int .i64 (ZO a0)]⟩)
def Ah5 (a0:Ak):List Prop:=[((!(GX a0))=true→0≤(DA a0)∧(DA a0)≤(a0.length:Int)∧(a0.length:Int)≤(a0.length:Int))]
theorem Ayo (a0:Ak):Tx (CP Bfz.1 L0) 9 50 [AX .bytes a0] 0 []=some (1,TW a0,0,[],[((0:Int)≤0∧0≤(a0.length:Int)∧(a0.length:Int)≤(a0.length:Int)),((!(GX a0))=true→(0:Int)≤0∧(0:Int) <2),((!(GX a0))=true→(0:Nat) <2),((!(GX a0))=true→0≤(DA a0)∧(DA a0)≤(a0.length:Int)∧(a0.length:Int)≤(a0.length:Int)),((!(GX a0))=true→(!(MD a0) !=0)=true→(0:Int)≤1∧(1:Int) <2),((!(GX a0))=true→(!(MD a0) !=0)=true→(1:Nat) <2)]):=by kernel_rfl
theorem A4g (a0:Ak) (hp:∀p∈Ah5 a0,p):Ax Bb 50 [AX .bytes a0] 0 [] 1 (TW a0) 0 []:=
  Bh (AU Bfz.2 A9) (Ayo a0) (Aa (by omega) (Aa (by omega) (Aa (by omega) (nT hp fun _=>Aa (by omega) (Aa (by omega) An)))))
def QS (a0:Ak):A:=.v (.tuple ⟨[.agg ⟨[.int .i64 (Ah a0).1.a,.int .i64 (Ah a0).1.b]⟩,.int .i64 (Ah a0).2.1,.int .i64 (Ah a0).2.2]⟩)
def Abr (_a0:Ak):List Prop:=[]
theorem D8 {b:Ak} {k:Int}:List.take (((b.length:Nat):Int).toNat - k.toNat) (List.drop k.toNat b)=b.drop k.toNat:=by
 rw[Int.toNat_natCast]
 exact List.take_of_length_le (by rw[List.length_drop];exact Nat.le_refl _)
theorem Ayn (b:Ak):(∀p∈Ah5 b,p)∧(TV b,ZN b,ZO b)=Ah b:=by
 obtain⟨bu,fg,ep,ji,om⟩:=Dg b
 have e0:List.take (((b.length:Nat):Int).toNat - (0:Nat)) (List.drop (0:Nat) b)=b:=by
  simp
 have k4:DA b=(Am b).2.1:=by
  unfold DA
  rw[e0,i64_in (by omega)]
  omega
 refine⟨Aa (fun _=>?_) An,?_⟩
 ·rw[k4];omega
 ·unfold TV ZN ZO MB MC MD QR GX Ah
  rw[k4,e0,D8,JJ]
  obtain⟨uy,ke,kf,yz,u7⟩:=Dg (b.drop (Am b).2.1.toNat)
  rw[i64_in (n:=(Am b).2.1+_) (by omega)]
  by_cases he:(Am b).2.2=0
  ·have e1:((Am b).2.2 !=(0:Int))=false:=by rw[he];rfl
   rw[e1,if_neg (by rw[he];simp)]
   by_cases gd:(Am (b.drop (Am b).2.1.toNat)).2.2=0
   ·have e2:((Am (b.drop (Am b).2.1.toNat)).2.2 !=(0:Int))=false:=by rw[gd];rfl
    rw[e2,if_neg (by rw[gd];simp)]
    cases hg:EP ⟨(Am b).1,(Am (b.drop (Am b).2.1.toNat)).1⟩ with
    |true=>rfl
    |false=>rfl
   ·have e2:((Am (b.drop (Am b).2.1.toNat)).2.2 !=(0:Int))=true:=by simpa using gd
    rw[e2,if_pos gd]
    rfl
  ·have e1:((Am b).2.2 !=(0:Int))=true:=by simpa using he
   rw[e1,if_pos he]
   rfl
theorem Aym (a0:Ak) (_hp:∀p∈Abr a0,p):Ax Bb 50 [AX .bytes a0] 0 [] 1 (QS a0) 0 []:=by
 obtain⟨h1,h2⟩:=Ayn a0
 have h:=A4g a0 h1
 have hr:TW a0=QS a0:=by unfold TW QS;rw[←h2]
 rw[hr] at h
 exact h
theorem Abs:IE Bb 50 (Et [.t .bytes] 0 QS (fun _=>[]) Abr):=A8 Aym
def Bix:=Gi Abs Bfz
def Hb (a0:Ak):Bool:=(Am a0).2.2 !=0
def Ha (a0:Ak):Int:=IntKind.i64.wrap ((Am a0).2.1+(Am a0).1)
def G9 (a0:Ak) (a1:Int):Bool:=decide ((Am a0).1 >a1)
def G8 (a0:Ak) (a1:Int):Bool:=(Hb a0)||((G9 a0 a1)||decide (IntKind.i64.wrap ((a0.length:Int) - (Am a0).2.1) <(Am a0).1))
def Oz (a0:Ak) (a1:Int):ByteArray:=bif(G8 a0 a1) then bif(Hb a0) then ByteArray.mk #[] else bif(G9 a0 a1) then ByteArray.mk #[] else ByteArray.mk #[] else ByteArray.mk (List.take ((Ha a0).toNat - (Am a0).2.1.toNat) (List.drop (Am a0).2.1.toNat a0)).toArray
def OA (a0:Ak) (a1:Int):Int:=bif(G8 a0 a1) then bif(Hb a0) then 0 else bif(G9 a0 a1) then 0 else 0 else(Ha a0)
def OB (a0:Ak) (a1:Int):Int:=bif(G8 a0 a1) then bif(Hb a0) then(Am a0).2.2 else bif(G9 a0 a1) then 3 else 10 else 0
def OC (a0:Ak) (a1:Int):A:=.v (.tuple ⟨[.string (Oz a0 a1),.int .i64 (OA a0 a1),.int .i64 (OB a0 a1)]⟩)
def Sq (a0:Ak) (a1:Int):List Prop:=[((!(G8 a0 a1))=true→0≤(Am a0).2.1∧(Am a0).2.1≤(Ha a0)∧(Ha a0)≤(a0.length:Int))]
theorem Ajb (a0:Ak) (a1:Int) (hp:∀p∈Sq a0 a1,p):Ax Bb 67 [AX .bytes a0,AX .i64 a1] 0 [] 1 (OC a0 a1) 0 []:=Bh (u:=9) (AU Bix.2 A9) (by kernel_rfl) hp
def JY (a0:Ak) (a1:Int):A:=.v (.tuple ⟨[.string (CA a0 a1).1,.int .i64 (CA a0 a1).2.1,.int .i64 (CA a0 a1).2.2]⟩)
def Rf (a0:Ak) (_a1:Int):List Prop:=[Ai a0.length]
theorem Agq (b:Ak) (m:Int) (hb:Ai b.length):(∀p∈Sq b m,p)∧(Oz b m,OA b m,OB b m)=CA b m:=by
 obtain⟨bu,fg,ep,ji,om⟩:=Dg b
 unfold Ai at hb
 have k2:Ha b=(Am b).2.1+(Am b).1:=by
  unfold Ha
  exact i64_in (by omega)
 have k0:G8 b m=((Am b).2.2 !=0||(decide ((Am b).1 >m)||decide ((b.length:Int) - (Am b).2.1 <(Am b).1))):=by
  unfold G8 G9 Hb
  rw[i64_in (by omega)]
 refine⟨Aa (fun h=>?_) An,?_⟩
 ·rw[k0] at h
  rw[k2]
  simp only[Bool.not_eq_true',Bool.or_eq_false_iff,decide_eq_false_iff_not] at h
  omega
 ·unfold Oz OA OB G9 Hb CA
  rw[k0,k2]
  by_cases he:(Am b).2.2=0
  ·have e1:((Am b).2.2 !=(0:Int))=false:=by rw[he];rfl
   rw[e1,if_neg (by rw[he];simp)]
   by_cases hm:(Am b).1 >m
   ·rw[decide_eq_true hm,if_pos hm];rfl
   ·rw[decide_eq_false hm,if_neg hm]
    by_cases hc:(b.length:Int) - (Am b).2.1 <(Am b).1
    ·rw[decide_eq_true hc,if_pos hc];rfl
    ·rw[decide_eq_false hc,if_neg hc]
     have e3:((Am b).2.1+(Am b).1).toNat - (Am b).2.1.toNat=(Am b).1.toNat:=by omega
     rw[e3]
     rfl
  ·have e1:((Am b).2.2 !=(0:Int))=true:=by simpa using he
   rw[e1,if_pos he]
   rfl
theorem Agp (a0:Ak) (a1:Int) (hp:∀p∈Rf a0 a1,p):Ax Bb 67 [AX .bytes a0,AX .i64 a1] 0 [] 1 (JY a0 a1) 0 []:=by
 obtain⟨h1,h2⟩:=Agq a0 a1 (hp _ (List.mem_cons_self ..))
 have h:=Ajb a0 a1 h1
 have hr:OC a0 a1=JY a0 a1:=by unfold OC JY;rw[←h2]
 rw[hr] at h
 exact h
theorem Acn:IE Bb 67 (Et [.t .bytes,.t .i64] 0 JY (fun _ _=>[]) Rf):=A8 Agp
def Biy:=Gi Acn Bix
def Bej:=Gi (JV (AU Biy.2 A9) 9 72) Biy
def A4 (a0:Ak):Int:=IntKind.i64.wrap (0+(Am a0).2.1)
def A7 (a0:Ak):Int:=IntKind.i64.wrap ((A4 a0)+(AM (List.take ((a0.length:Int).toNat - (A4 a0).toNat) (List.drop (A4 a0).toNat a0))).2.1)
def EE (a0:Ak):Int:=bif(Am a0).2.2==0&&decide (IntKind.i64.wrap (↑(BitVec.ofInt 64 (Am a0).1 &&& BitVec.ofInt 64 1).toNat:Int) >0) then bif !decide (IntKind.i64.wrap (↑(BitVec.ofInt 64 (Am a0).1 &&& BitVec.ofInt 64 2).toNat:Int) >0) then(Ah (List.take ((a0.length:Int).toNat - (A7 a0).toNat) (List.drop (A7 a0).toNat a0))).1.2 else(Ah (List.take ((a0.length:Int).toNat - (A7 a0).toNat) (List.drop (A7 a0).toNat a0))).1.2 else 0
def FF (a0:Ak):Int:=bif(Am a0).2.2==0&&decide (IntKind.i64.wrap (↑(BitVec.ofInt 64 (Am a0).1 &&& BitVec.ofInt 64 1).toNat:Int) >0) then bif !decide (IntKind.i64.wrap (↑(BitVec.ofInt 64 (Am a0).1 &&& BitVec.ofInt 64 2).toNat:Int) >0) then(Ah (List.take ((a0.length:Int).toNat - (A7 a0).toNat) (List.drop (A7 a0).toNat a0))).1.1 else(Ah (List.take ((a0.length:Int).toNat - (A7 a0).toNat) (List.drop (A7 a0).toNat a0))).1.1 else 0
def FE (a0:Ak):Int:=bif(Am a0).2.2==0&&decide (IntKind.i64.wrap (↑(BitVec.ofInt 64 (Am a0).1 &&& BitVec.ofInt 64 1).toNat:Int) >0) then bif !decide (IntKind.i64.wrap (↑(BitVec.ofInt 64 (Am a0).1 &&& BitVec.ofInt 64 2).toNat:Int) >0) then(AM (List.take ((a0.length:Int).toNat - (A4 a0).toNat) (List.drop (A4 a0).toNat a0))).1.2 else(AM (List.take ((a0.length:Int).toNat - (A4 a0).toNat) (List.drop (A4 a0).toNat a0))).1.2 else 0
def FD (a0:Ak):Int:=bif(Am a0).2.2==0&&decide (IntKind.i64.wrap (↑(BitVec.ofInt 64 (Am a0).1 &&& BitVec.ofInt 64 1).toNat:Int) >0) then bif !decide (IntKind.i64.wrap (↑(BitVec.ofInt 64 (Am a0).1 &&& BitVec.ofInt 64 2).toNat:Int) >0) then(AM (List.take ((a0.length:Int).toNat - (A4 a0).toNat) (List.drop (A4 a0).toNat a0))).1.1 else(AM (List.take ((a0.length:Int).toNat - (A4 a0).toNat) (List.drop (A4 a0).toNat a0))).1.1 else 0
def Eh (a0:Ak):Int:=bif(Am a0).2.2==0&&decide (IntKind.i64.wrap (↑(BitVec.ofInt 64 (Am a0).1 &&& BitVec.ofInt 64 1).toNat:Int) >0) then bif !decide (IntKind.i64.wrap (↑(BitVec.ofInt 64 (Am a0).1 &&& BitVec.ofInt 64 2).toNat:Int) >0) then 0 else 0 else 0
def B8 (a0:Ak):Int:=IntKind.i64.wrap ((A7 a0)+(Ah (List.take ((a0.length:Int).toNat - (A7 a0).toNat) (List.drop (A7 a0).toNat a0))).2.1)
def Eg (a0:Ak):Bool:=bif(Am a0).2.2==0&&decide (IntKind.i64.wrap (↑(BitVec.ofInt 64 (Am a0).1 &&& BitVec.ofInt 64 1).toNat:Int) >0) then bif !decide (IntKind.i64.wrap (↑(BitVec.ofInt 64 (Am a0).1 &&& BitVec.ofInt 64 2).toNat:Int) >0) then decide (IntKind.i64.wrap (↑(BitVec.ofInt 64 (Am a0).1 &&& BitVec.ofInt 64 2).toNat:Int) >0) else decide (IntKind.i64.wrap (↑(BitVec.ofInt 64 (Am a0).1 &&& BitVec.ofInt 64 2).toNat:Int) >0) else false
def FC (a0:Ak):ByteArray:=bif(Am a0).2.2==0&&decide (IntKind.i64.wrap (↑(BitVec.ofInt 64 (Am a0).1 &&& BitVec.ofInt 64 1).toNat:Int) >0) then bif !decide (IntKind.i64.wrap (↑(BitVec.ofInt 64 (Am a0).1 &&& BitVec.ofInt 64 2).toNat:Int) >0) then(CA (List.take ((a0.length:Int).toNat - (B8 a0).toNat) (List.drop (B8 a0).toNat a0)) 64).1 else ByteArray.mk #[] else ByteArray.mk #[]
def Bf (a0:Ak):Int:=bif(Am a0).2.2==0&&decide (IntKind.i64.wrap (↑(BitVec.ofInt 64 (Am a0).1 &&& BitVec.ofInt 64 1).toNat:Int) >0) then bif !decide (IntKind.i64.wrap (↑(BitVec.ofInt 64 (Am a0).1 &&& BitVec.ofInt 64 2).toNat:Int) >0) then IntKind.i64.wrap ((B8 a0)+(CA (List.take ((a0.length:Int).toNat - (B8 a0).toNat) (List.drop (B8 a0).toNat a0)) 64).2.1) else(B8 a0) else(A4 a0)
def AL (a0:Ak):Bool:=(bif(Am a0).2.2==0&&decide (IntKind.i64.wrap (↑(BitVec.ofInt 64 (Am a0).1 &&& BitVec.ofInt 64 1).toNat:Int) >0) then bif !decide (IntKind.i64.wrap (↑(BitVec.ofInt 64 (Am a0).1 &&& BitVec.ofInt 64 2).toNat:Int) >0) then(Am a0).2.2==0&&(AM (List.take ((a0.length:Int).toNat - (A4 a0).toNat) (List.drop (A4 a0).toNat a0))).2.2==0&&(Ah (List.take ((a0.length:Int).toNat - (A7 a0).toNat) (List.drop (A7 a0).toNat a0))).2.2==0&&(CA (List.take ((a0.length:Int).toNat - (B8 a0).toNat) (List.drop (B8 a0).toNat a0)) 64).2.2==0 else(Am a0).2.2==0&&(AM (List.take ((a0.length:Int).toNat - (A4 a0).toNat) (List.drop (A4 a0).toNat a0))).2.2==0&&(Ah (List.take ((a0.length:Int).toNat - (A7 a0).toNat) (List.drop (A7 a0).toNat a0))).2.2==0 else(Am a0).2.2==0)&&decide (IntKind.i64.wrap (↑(BitVec.ofInt 64 (Am a0).1 &&& BitVec.ofInt 64 4).toNat:Int) >0)
def Ef (a0:Ak) (a1:Int):Bool:=(!bif(AL a0) then(bif(Am a0).2.2==0&&decide (IntKind.i64.wrap (↑(BitVec.ofInt 64 (Am a0).1 &&& BitVec.ofInt 64 1).toNat:Int) >0) then bif !decide (IntKind.i64.wrap (↑(BitVec.ofInt 64 (Am a0).1 &&& BitVec.ofInt 64 2).toNat:Int) >0) then(Am a0).2.2==0&&(AM (List.take ((a0.length:Int).toNat - (A4 a0).toNat) (List.drop (A4 a0).toNat a0))).2.2==0&&(Ah (List.take ((a0.length:Int).toNat - (A7 a0).toNat) (List.drop (A7 a0).toNat a0))).2.2==0&&(CA (List.take ((a0.length:Int).toNat - (B8 a0).toNat) (List.drop (B8 a0).toNat a0)) 64).2.2==0 else(Am a0).2.2==0&&(AM (List.take ((a0.length:Int).toNat - (A4 a0).toNat) (List.drop (A4 a0).toNat a0))).2.2==0&&(Ah (List.take ((a0.length:Int).toNat - (A7 a0).toNat) (List.drop (A7 a0).toNat a0))).2.2==0 else(Am a0).2.2==0)&&(Ah (List.take ((a0.length:Int).toNat - (Bf a0).toNat) (List.drop (Bf a0).toNat a0))).2.2==0 else bif(Am a0).2.2==0&&decide (IntKind.i64.wrap (↑(BitVec.ofInt 64 (Am a0).1 &&& BitVec.ofInt 64 1).toNat:Int) >0) then bif !decide (IntKind.i64.wrap (↑(BitVec.ofInt 64 (Am a0).1 &&& BitVec.ofInt 64 2).toNat:Int) >0) then(Am a0).2.2==0&&(AM (List.take ((a0.length:Int).toNat - (A4 a0).toNat) (List.drop (A4 a0).toNat a0))).2.2==0&&(Ah (List.take ((a0.length:Int).toNat - (A7 a0).toNat) (List.drop (A7 a0).toNat a0))).2.2==0&&(CA (List.take ((a0.length:Int).toNat - (B8 a0).toNat) (List.drop (B8 a0).toNat a0)) 64).2.2==0 else(Am a0).2.2==0&&(AM (List.take ((a0.length:Int).toNat - (A4 a0).toNat) (List.drop (A4 a0).toNat a0))).2.2==0&&(Ah (List.take ((a0.length:Int).toNat - (A7 a0).toNat) (List.drop (A7 a0).toNat a0))).2.2==0 else(Am a0).2.2==0)||!((decide ((Am a0).1≤7)&&decide (IntKind.i64.wrap (↑(BitVec.ofInt 64 (Am a0).1 &&& BitVec.ofInt 64 1).toNat:Int) >0)==FS (AG.mk (Ba.mk (bif(AL a0) then(FD a0) else(FD a0)) (bif(AL a0) then(FE a0) else(FE a0))) (Bu.mk (bif(AL a0) then(FF a0) else(FF a0)) (bif(AL a0) then(EE a0) else(EE a0))) (bif(AL a0) then(Eg a0) else(Eg a0)) (bif(AL a0) then(FC a0) else(FC a0)) (Bu.mk (bif(AL a0) then(Ah (List.take ((a0.length:Int).toNat - (Bf a0).toNat) (List.drop (Bf a0).toNat a0))).1.1 else(Eh a0)) (bif(AL a0) then(Ah (List.take ((a0.length:Int).toNat - (Bf a0).toNat) (List.drop (Bf a0).toNat a0))).1.2 else(Eh a0))))&&decide (IntKind.i64.wrap (↑(BitVec.ofInt 64 (Am a0).1 &&& BitVec.ofInt 64 2).toNat:Int) >0)==bif(AL a0) then(Eg a0) else(Eg a0))&&decide (IntKind.i64.wrap (↑(BitVec.ofInt 64 (Am a0).1 &&& BitVec.ofInt 64 4).toNat:Int) >0)==!((bif(AL a0) then(Ah (List.take ((a0.length:Int).toNat - (Bf a0).toNat) (List.drop (Bf a0).toNat a0))).1.1 else(Eh a0))==0&&(bif(AL a0) then(Ah (List.take ((a0.length:Int).toNat - (Bf a0).toNat) (List.drop (Bf a0).toNat a0))).1.2 else(Eh a0))==0))||!Ei a1 (AG.mk (Ba.mk (bif(AL a0) then(FD a0) else(FD a0)) (bif(AL a0) then(FE a0) else(FE a0))) (Bu.mk (bif(AL a0) then(FF a0) else(FF a0)) (bif(AL a0) then(EE a0) else(EE a0))) (bif(AL a0) then(Eg a0) else(Eg a0)) (bif(AL a0) then(FC a0) else(FC a0)) (Bu.mk (bif(AL a0) then(Ah (List.take ((a0.length:Int).toNat - (Bf a0).toNat) (List.drop (Bf a0).toNat a0))).1.1 else(Eh a0)) (bif(AL a0) then(Ah (List.take ((a0.length:Int).toNat - (Bf a0).toNat) (List.drop (Bf a0).toNat a0))).1.2 else(Eh a0))))
def GS (a0:Ak) (a1:Int):AG:=AG.mk (Ba.mk (bif(Ef a0 a1) then 0 else bif(AL a0) then(FD a0) else(FD a0)) (bif(Ef a0 a1) then 0 else bif(AL a0) then(FE a0) else(FE a0))) (Bu.mk (bif(Ef a0 a1) then 0 else bif(AL a0) then(FF a0) else(FF a0)) (bif(Ef a0 a1) then 0 else bif(AL a0) then(EE a0) else(EE a0))) (bif(Ef a0 a1) then false else bif(AL a0) then(Eg a0) else(Eg a0)) (bif(Ef a0 a1) then ByteArray.mk #[] else bif(AL a0) then(FC a0) else(FC a0)) (Bu.mk (bif(Ef a0 a1) then 0 else bif(AL a0) then(Ah (List.take ((a0.length:Int).toNat - (Bf a0).toNat) (List.drop (Bf a0).toNat a0))).1.1 else(Eh a0)) (bif(Ef a0 a1) then 0 else bif(AL a0) then(Ah (List.take ((a0.length:Int).toNat - (Bf a0).toNat) (List.drop (Bf a0).toNat a0))).1.2 else(Eh a0)))
def Vf (a0:Ak) (a1:Int):Int:=bif(Ef a0 a1) then 0 else bif(AL a0) then IntKind.i64.wrap ((Bf a0)+(Ah (List.take ((a0.length:Int).toNat - (Bf a0).toNat) (List.drop (Bf a0).toNat a0))).2.1) else(Bf a0)
def Vg (a0:Ak) (a1:Int):Int:=bif(Ef a0 a1) then 80 else 0
def Vh (a0:Ak) (a1:Int):A:=.v (.tuple ⟨[.agg ⟨[.int .i64 ((GS a0 a1).stamp.n),.int .i64 ((GS a0 a1).stamp.site),.int .i64 ((GS a0 a1).vec.a),.int .i64 ((GS a0 a1).vec.b),.bool ((GS a0 a1).gone),.string ((GS a0 a1).value),.int .i64 ((GS a0 a1).dead.a),.int .i64 ((GS a0 a1).dead.b)]⟩,.int .i64 (Vf a0 a1),.int .i64 (Vg a0 a1)]⟩)
def Aab (a0:Ak) (_a1:Int):List Prop:=[(((Am a0).2.2==0&&decide (IntKind.i64.wrap (↑(BitVec.ofInt 64 (Am a0).1 &&& BitVec.ofInt 64 1).toNat:Int) >0))=true→0≤(A4 a0)∧(A4 a0)≤(a0.length:Int)∧(a0.length:Int)≤(a0.length:Int)),(((Am a0).2.2==0&&decide (IntKind.i64.wrap (↑(BitVec.ofInt 64 (Am a0).1 &&& BitVec.ofInt 64 1).toNat:Int) >0))=true→0≤(A7 a0)∧(A7 a0)≤(a0.length:Int)∧(a0.length:Int)≤(a0.length:Int)),(((Am a0).2.2==0&&decide (IntKind.i64.wrap (↑(BitVec.ofInt 64 (Am a0).1 &&& BitVec.ofInt 64 1).toNat:Int) >0))=true→(!decide (IntKind.i64.wrap (↑(BitVec.ofInt 64 (Am a0).1 &&& BitVec.ofInt 64 2).toNat:Int) >0))=true→0≤(B8 a0)∧(B8 a0)≤(a0.length:Int)∧(a0.length:Int)≤(a0.length:Int)),(((Am a0).2.2==0&&decide (IntKind.i64.wrap (↑(BitVec.ofInt 64 (Am a0).1 &&& BitVec.ofInt 64 1).toNat:Int) >0))=true→(!decide (IntKind.i64.wrap (↑(BitVec.ofInt 64 (Am a0).1 &&& BitVec.ofInt 64 2).toNat:Int) >0))=true→Ai (List.take ((a0.length:Int).toNat - (B8 a0).toNat) (List.drop (B8 a0).toNat a0)).length),((AL a0)=true→0≤(Bf a0)∧(Bf a0)≤(a0.length:Int)∧(a0.length:Int)≤(a0.length:Int))]
theorem Avx (a0:Ak) (a1:Int) (hp:∀p∈Aab a0 a1,p):Ax Bb 68 [AX .bytes a0,AX .i64 a1] 0 [] 1 (Vh a0 a1) 0 []:=Bh (u:=9) (AU Bej.2 A9) (by kernel_rfl) hp
def MY (a0:Ak) (a1:Int):A:=.v (.tuple ⟨[.agg ⟨[.int .i64 (Lv a0 a1).1.stamp.n,.int .i64 (Lv a0 a1).1.stamp.site,.int .i64 (Lv a0 a1).1.vec.a,.int .i64 (Lv a0 a1).1.vec.b,.bool (Lv a0 a1).1.gone,.string (Lv a0 a1).1.value,.int .i64 (Lv a0 a1).1.dead.a,.int .i64 (Lv a0 a1).1.dead.b]⟩,.int .i64 (Lv a0 a1).2.1,.int .i64 (Lv a0 a1).2.2]⟩)
def WL (a0:Ak) (_a1:Int):List Prop:=[Ai a0.length]
theorem Aak (b:Ak):0≤(AM b).2.1∧(AM b).2.1≤(b.length:Int):=by
 obtain⟨h1,h2,_⟩:=Dg b
 unfold AM
 split
 ·exact⟨Int.le_refl _,by show(0:Int)≤(b.length:Int);omega⟩
 ·split
  ·exact⟨h1,h2⟩
  ·exact⟨Int.le_refl _,by show(0:Int)≤(b.length:Int);omega⟩
theorem NN (b:Ak):0≤(Ah b).2.1∧(Ah b).2.1≤(b.length:Int):=by
 obtain⟨h1,h2,_⟩:=Dg b
 obtain⟨h3,h4,_⟩:=Dg (b.drop (Am b).2.1.toNat)
 rw[List.length_drop] at h4
 unfold Ah
 split
 ·exact⟨Int.le_refl _,by show(0:Int)≤(b.length:Int);omega⟩
 ·split
  ·exact⟨Int.le_refl _,by show(0:Int)≤(b.length:Int);omega⟩
  ·split
   ·exact⟨by show 0≤(Am b).2.1+_;omega,by show(Am b).2.1+_≤(b.length:Int);omega⟩
   ·exact⟨Int.le_refl _,by show(0:Int)≤(b.length:Int);omega⟩
theorem JF (b:Ak) (m:Int):0≤(CA b m).2.1∧(CA b m).2.1≤(b.length:Int):=by
 obtain⟨h1,h2,_,h3,_⟩:=Dg b
 unfold CA
 split
 ·exact⟨Int.le_refl _,by show(0:Int)≤(b.length:Int);omega⟩
 ·split
  ·exact⟨Int.le_refl _,by show(0:Int)≤(b.length:Int);omega⟩
  ·split
   ·exact⟨Int.le_refl _,by show(0:Int)≤(b.length:Int);omega⟩
   ·exact⟨by show 0≤(Am b).2.1+_;omega,by show(Am b).2.1+_≤(b.length:Int);omega⟩
theorem Aq5 (b:Ak) (p:Int) (hb:Ai b.length):(∀q∈Aab b p,q)∧(GS b p,Vf b p,Vg b p)=Lv b p:=by
 unfold Ai at hb
 obtain⟨a1,a2,_,a3,a4⟩:=Dg b
 have dz:Wy (Am b).1:=⟨a3,a4⟩
 have B1:=WE dz 0 1 rfl (by decide)
 have B2:=WE dz 1 2 rfl (by decide)
 have B4:=WE dz 2 4 rfl (by decide)
 have mi:A4 b=(Am b).2.1:=by
  unfold A4
  rw[i64_in (by omega)];omega
 obtain⟨s1,s2⟩:=Aak (b.drop (Am b).2.1.toNat)
 rw[List.length_drop] at s2
 have nd:A7 b=(Am b).2.1+(AM (b.drop (Am b).2.1.toNat)).2.1:=by
  unfold A7
  rw[mi,D8,i64_in (by omega)]
 obtain⟨v1,v2⟩:=NN (b.drop ((Am b).2.1+(AM (b.drop (Am b).2.1.toNat)).2.1).toNat)
 rw[List.length_drop] at v2
 have e5:B8 b=(Am b).2.1+(AM (b.drop (Am b).2.1.toNat)).2.1+(Ah (b.drop ((Am b).2.1+(AM (b.drop (Am b).2.1.toNat)).2.1).toNat)).2.1:=by
  unfold B8
  rw[nd,D8,i64_in (by omega)]
 obtain⟨t1,t2⟩:=JF (b.drop ((Am b).2.1+(AM (b.drop (Am b).2.1.toNat)).2.1+(Ah (b.drop ((Am b).2.1+(AM (b.drop (Am b).2.1.toNat)).2.1).toNat)).2.1).toNat) 64
 rw[List.length_drop] at t2
 have e2:Bf b=(LM b).2.2∧0≤(LM b).2.2∧(LM b).2.2≤(b.length:Int):=by
  unfold Bf LM
  rw[e5,mi,D8,B1,B2]
  show(bif(Am b).2.2==0&&DN (Am b).1 0 then bif !DN (Am b).1 1 then _ else _ else _)=_∧_
  rw[i64_in (by omega)]
  cases((Am b).2.2==0&&DN (Am b).1 0)<;>cases DN (Am b).1 1<;>refine⟨rfl,?_,?_⟩<;>(first|exact a1|exact a2|(simp only[cond_true,cond_false,Bool.not_true,Bool.not_false];omega))
 obtain⟨e2,e2a,e2b⟩:=e2
 obtain⟨d1,d2⟩:=NN (b.drop (LM b).2.2.toNat)
 rw[List.length_drop] at d2
 have dk:(LM b).2.1=⟨⟨FD b,FE b⟩,⟨FF b,EE b⟩,Eg b,FC b,⟨0,0⟩⟩:=by
  unfold FD FE FF EE Eg FC LM
  rw[nd,e5,mi,D8,D8,D8,B1,B2]
  show _=AG.mk (Ba.mk (bif(Am b).2.2==0&&DN (Am b).1 0 then bif !DN (Am b).1 1 then _ else _ else _) _) _ _ _ _
  show(bif(Am b).2.2==0&&DN (Am b).1 0 then bif !DN (Am b).1 1 then _ else _ else _:Bool×AG×Int).2.1=AG.mk (Ba.mk (bif(Am b).2.2==0&&DN (Am b).1 0 then bif !DN (Am b).1 1 then _ else _ else _) (bif(Am b).2.2==0&&DN (Am b).1 0 then bif !DN (Am b).1 1 then _ else _ else _)) (Bu.mk (bif(Am b).2.2==0&&DN (Am b).1 0 then bif !DN (Am b).1 1 then _ else _ else _) (bif(Am b).2.2==0&&DN (Am b).1 0 then bif !DN (Am b).1 1 then _ else _ else _)) (bif(Am b).2.2==0&&DN (Am b).1 0 then bif !DN (Am b).1 1 then DN (Am b).1 1 else DN (Am b).1 1 else _) (bif(Am b).2.2==0&&DN (Am b).1 0 then bif !DN (Am b).1 1 then _ else _ else _) _
  cases((Am b).2.2==0&&DN (Am b).1 0)<;>cases DN (Am b).1 1<;>rfl
 have ot:(bif(Am b).2.2==0&&DN (Am b).1 0 then bif !DN (Am b).1 1 then(Am b).2.2==0&&(AM (b.drop (Am b).2.1.toNat)).2.2==0&&(Ah (b.drop ((Am b).2.1+(AM (b.drop (Am b).2.1.toNat)).2.1).toNat)).2.2==0&&(CA (b.drop ((Am b).2.1+(AM (b.drop (Am b).2.1.toNat)).2.1+(Ah (b.drop ((Am b).2.1+(AM (b.drop (Am b).2.1.toNat)).2.1).toNat)).2.1).toNat) 64).2.2==0
   else(Am b).2.2==0&&(AM (b.drop (Am b).2.1.toNat)).2.2==0&&(Ah (b.drop ((Am b).2.1+(AM (b.drop (Am b).2.1.toNat)).2.1).toNat)).2.2==0 else(Am b).2.2==0)=(LM b).1:=by
  unfold LM
  cases((Am b).2.2==0&&DN (Am b).1 0)<;>cases DN (Am b).1 1<;>rfl
 have e1:AL b=((LM b).1&&DN (Am b).1 2):=by
  unfold AL
  rw[nd,e5,mi,D8,D8,D8,B1,B2,B4]
  show((bif(Am b).2.2==0&&DN (Am b).1 0 then bif !DN (Am b).1 1 then _ else _ else _)&&DN (Am b).1 2)=_
  rw[ot]
 have e6:Eh b=0:=by
  unfold Eh
  cases((Am b).2.2==0&&decide (IntKind.i64.wrap (↑(BitVec.ofInt (64:Nat) (Am b).1 &&& BitVec.ofInt (64:Nat) (1:Int)).toNat:Int) >(0:Int)))<;>cases decide (IntKind.i64.wrap (↑(BitVec.ofInt (64:Nat) (Am b).1 &&& BitVec.ofInt (64:Nat) (2:Int)).toNat:Int) >(0:Int))<;>rfl
 refine⟨Aa (fun _=>by rw[mi];omega) (Aa (fun _=>by rw[nd];omega) (Aa (fun _ _=>by rw[e5];omega) (Aa (fun _ _=>by rw[e5,D8,List.length_drop];unfold Ai;omega) (Aa (fun _=>by rw[e2];omega) An)))),?_⟩
 have hB1:(stB b).1=bif(LM b).1&&DN (Am b).1 2 then(LM b).1&&(Ah (b.drop (LM b).2.2.toNat)).2.2==0 else(LM b).1:=by unfold stB;cases((LM b).1&&DN (Am b).1 2)<;>rfl
 have hB2:(stB b).2.1=AG.mk (Ba.mk (bif AL b then FD b else FD b) (bif AL b then FE b else FE b)) (Bu.mk (bif AL b then FF b else FF b) (bif AL b then EE b else EE b)) (bif AL b then Eg b else Eg b) (bif AL b then FC b else FC b) (Bu.mk (bif AL b then(Ah (b.drop (LM b).2.2.toNat)).1.1 else Eh b) (bif AL b then(Ah (b.drop (LM b).2.2.toNat)).1.2 else Eh b)):=by
  rw[e1]
  unfold stB
  cases((LM b).1&&DN (Am b).1 2) with
  |true=>simp only[cond_true];rw[dk]
  |false=>simp only[cond_false];rw[dk,e6]
 have hB3:(stB b).2.2=bif AL b then(LM b).2.2+(Ah (b.drop (LM b).2.2.toNat)).2.1 else(LM b).2.2:=by
  rw[e1]
  unfold stB
  cases((LM b).1&&DN (Am b).1 2)<;>rfl
 have e0:Ef b p=(!(stB b).1||!We (Am b).1 (stB b).2.1||!HI p (stB b).2.1):=by
  unfold Ef
  rw[e2,nd,e5,mi,D8,D8,D8,D8,Ln,K8,←hB2]
  rw[B1,B2,B4]
  show((!bif AL b then(bif(Am b).2.2==0&&DN (Am b).1 0 then bif !DN (Am b).1 1 then _ else _ else _)&&_ else(bif(Am b).2.2==0&&DN (Am b).1 0 then bif !DN (Am b).1 1 then _ else _ else _))||_||_)=_
  rw[ot,hB1,←e1]
  unfold We
  rw[hB2]
  rfl
 unfold GS Vf Vg Lv
 rw[e0]
 cases(!(stB b).1||!We (Am b).1 (stB b).2.1||!HI p (stB b).2.1) with
 |true=>rfl
 |false=>
  simp only[cond_false]
  rw[hB3,e2,D8,hB2,i64_in (by omega)]
theorem Aq4 (a0:Ak) (a1:Int) (hp:∀p∈WL a0 a1,p):Ax Bb 68 [AX .bytes a0,AX .i64 a1] 0 [] 1 (MY a0 a1) 0 []:=by
 obtain⟨h1,h2⟩:=Aq5 a0 a1 (hp _ (List.mem_cons_self ..))
 have h:=Avx a0 a1 h1
 have hr:Vh a0 a1=MY a0 a1:=by unfold Vh MY;rw[←h2]
 rw[hr] at h
 exact h
theorem Amj:IE Bb 68 (Et [.t .bytes,.t .i64] 0 MY (fun _ _=>[]) WL):=A8 Aq4
def Biq:=Gi Amj Bej
abbrev Cd:=Biq
abbrev Cf:=Cd
abbrev BR:Type:=ByteArray×Nat
def XI (x:BR):St:=⟨36,2,[(26,.own 1 0)],[(1,some (.sit x.1 x.2))]⟩
def Mp:St→Option BR
 |⟨36,2,[(26,.own 1 0)],[(1,some (.sit z0 z1))]⟩=>some (z0,z1)
 |_=>none
def XH:E2:=⟨2,2,[26],[],[(1,1)],[1],[2],[1]⟩
def XG:Fz:=⟨[],[(1,1)],[26],[1]⟩
def GI (a0:ByteArray) (a1:Nat):Bool:=!!decide (a1 <a0.size)
def CU (a0:ByteArray) (a1:Nat):Bool:=(GI a0 a1)&&(decide ((↑(Utf8.decode a0 a1).1:Int) <97)||decide ((↑(Utf8.decode a0 a1).1:Int) >122))
def T6 (a0:ByteArray) (a1:Nat):Nat:=bif decide (a1 <a0.size) then a1+(Utf8.decode a0 a1).2 else a1
def T7 (a0:ByteArray) (a1:Nat):Bool:=(GI a0 a1)&&!(CU a0 a1)
def T8 (a0:ByteArray) (a1:Nat):Nat:=bif decide (a1 <a0.size) then a1+(Utf8.decode a0 a1).2 else a1
def T9 (a0:ByteArray) (a1:Nat):Nat:=bif decide (a1 <a0.size) then a1+(Utf8.decode a0 a1).2 else a1
def ET (x:BR):BR:=(x.1,T6 x.1 x.2)
def ES (x:BR):DB:=some (T7 x.1 x.2)
def Lj (x:BR):List Prop:=[((GI x.1 x.2)=true→decide (x.2 <x.1.size)=true)]
def F9 (_x:BR):List Prop:=[]
def SJ (x:BR):BG:=[(some 0,some (!decide (x.2 <x.1.size)),⟨36,2,[(2,.dead)],[(1,some (.sit x.1 (T8 x.1 x.2)))]⟩),(none,some ((CU x.1 x.2)),⟨36,2,[(2,.v (.bool (false)))],[(1,some (.sit x.1 (T9 x.1 x.2)))]⟩)]
def ER (x:BR):Nat:=x.1.size - x.2
def IY (x:BR):BR:=Bj ET ES (ER x) x
theorem V5 (a0:ByteArray) (a1:Nat) (_hp:∀p∈F9 (a0,a1),p):∀p∈Lj (a0,a1),p:=
  (Aa (by intro h;exact(Bool.not_not _).symm.trans h) An)
def Ua:=Jg (CP Cf.1 L0) (AQ Bb 44 0) XH XG Mp ER ET ES F9 SJ
def NZ:=WA 0 (g:=Ua) (CR (T:=XI) (psA:=Lj) Cf.2 A9 (u:=9) (by kernel_rfl) (by decide) (fun⟨a0,a1⟩=>by kernel_rfl) (fun⟨a0,a1⟩=>V5 a0 a1) (fun s x h=>by unfold Mp at h;split at h<;>first|(cases h;rfl)|cases h) (fun _=>Bm (n:=36) rfl) fun _ _=>rfl) ⟨L0,A9⟩
def Gw (a0:Ae):Bool:=a0.1.toList==(ByteArray.mk #[]).toList||decide ((a0.1.size:Int) >12)||a0.2 !=1&&a0.2 !=2
def Mo (a0:Ae):Bool:=bif(Gw a0) then false else bif CU (IY (a0.1,0)).1 (IY (a0.1,0)).2 then false else true
def Mq (a0:Ae):A:=.v (.bool (Mo a0))
def Rk (a0:Ae):List Prop:=[((!(Gw a0))=true→A3 ET ES F9 (ER (a0.1,0)) (a0.1,0))]
theorem Acs (a0:Ae):Tx (CP Cf.1 NZ.1) 9 44 [AX .group a0] 0 []=some (1,Mq a0,0,[],[((!(Gw a0))=true→AQ Bb (44:FuncId) 0=AQ Bb (44:FuncId) 0),((!(Gw a0))=true→A3 ET ES F9 (ER (a0.1,0)) (a0.1,0))]):=by kernel_rfl
theorem Ag7 (a0:Ae) (hp:∀p∈Rk a0,p):Ax Bb 44 [AX .group a0] 0 [] 1 (Mq a0) 0 []:=
  Bh (AU Cf.2 NZ.2) (Acs a0) (Aa (by intros;rfl) (nT hp fun _=>An))
def Rl (a0:Ae):A:=.v (.bool (PD a0.name&&Zn a0.policy))
def PH (_a0:Ae):List Prop:=[]
theorem Rj (g:Ae):(∀p∈Rk g,p)∧Mo g=(PD g.name&&Zn g.policy):=by
 have bu:∀i,CU g.1 i=(decide (i <g.1.size)&&!Aga (g.1.data.toList.getD i 0)):=fun i=>by
  unfold CU GI
  rw[nn]
  by_cases h:i <g.1.size
  ·rw[decide_eq_true h,Bool.true_and,Bool.true_and];exact(Aui g.1 i h).1
  ·rw[decide_eq_false h];rfl
 obtain⟨h1,k,hk,hx,hs,hst⟩:=Bdc (fun i=>((g.1,i):ByteArray×Nat)) g.1.size (fun i=>!Aga (g.1.data.toList.getD i 0)) ET ES F9 (ER (g.1,0)) (g.1,0) rfl (Nat.le_refl _)
  (fun i _ _=>by
   show((!!decide (i <g.1.size))&&!CU g.1 i)=_
   rw[bu,nn]
   cases decide (i <g.1.size)<;>rfl)
  (fun i hi hj=>by
   show(g.1,(bif decide (i <g.1.size) then i+(Utf8.decode g.1 i).2 else i))=(g.1,i+1)
   have h2:=hj i (Nat.lt_succ_self i)
   rw[decide_eq_true hi,cond_true,(Aui g.1 i hi).2 (by simpa using h2)])
  (fun _ _ _=>An)
 refine⟨Aa (fun _=>h1) An,?_⟩
 have hr:IY (g.1,0)=(g.1,k):=hx
 have ha:g.1.data.toList.all Aga=decide (¬k <g.1.size):=by
  have:=A5d g.1.data.toList 0 Aga k (by rw[PN];exact hk) (fun j hj=>by simpa using hs j hj) (fun h=>by rw[PN] at h;simpa using hst h)
  rw[PN] at this
  exact this
 unfold Mo
 rw[hr]
 show(bif Gw g then false else bif CU g.1 k then false else true)=_
 rw[bu]
 unfold Gw PD Zn
 rw[Agm]
 show _=(g.1.data.toList.all Aga&&(decide (1≤g.1.size)&&decide (g.1.size≤12))&&(g.2==1||g.2==2))
 rw[ha]
 have e1:(g.1.size==0)=!decide (1≤g.1.size):=Bl0 _
 have e2:decide ((g.1.size:Int) >12)=!decide (g.1.size≤12):=by
  rw[←decide_not];exact decide_eq_decide.2 (by generalize g.1.size=m;omega)
 have e3:(g.2 !=1&&g.2 !=2)=!(g.2==1||g.2==2):=by simp[bne]
 rw[e1,e2,e3]
 by_cases h:k <g.1.size
 ·have:=hst h
  rw[this,decide_eq_true h,decide_eq_false (not_not_intro h)]
  simp
 ·rw[decide_eq_false h,decide_eq_true h]
  cases decide (1≤g.1.size)<;>cases decide (g.1.size≤12)<;>cases(g.2==1||g.2==2)<;>rfl
theorem Acr (a0:Ae) (_hp:∀p∈PH a0,p):Ax Bb 44 [AX .group a0] 0 [] 1 (Rl a0) 0 []:=by
 have h:=Ag7 a0 (Rj a0).1
 unfold Mq at h
 rw[(Rj a0).2] at h
 exact h
theorem Zr:IE Bb 44 (Et [.t .group] 0 Rl (fun _=>[]) PH):=A8 Acr
def A4w:=Gi Zr Cf
abbrev Bv:Type:=(List Ae)×Int×Int×(List (U .str×U .i64))
def Zq (x:Bv):St:=⟨35,1,[(3,.mp 0),(15,.sl .group x.1),(16,iV (x.2.1)),(17,iV (x.2.2.1))],[(0,some (.map .str .i64 x.2.2.2))]⟩
def NY:St→Option Bv
 |⟨35,1,[(3,.mp 0),(15,.sl .group z0),(16,.v (.int .i64 z1)),(17,.v (.int .i64 z2))],[(0,some (.map .str .i64 z3))]⟩=>some (z0,z1,z2,z3)
 |_=>none
def Zp:E2:=⟨1,1,[3,15,16,17],[],[(0,0)],[0],[2],[0]⟩
def Zo:Fz:=⟨[],[(0,0)],[3,15,16,17],[0]⟩
def D4 (a0:List Ae) (a2:Int) (a3:List (U .str×U .i64)):List (ByteArray×Int):=Ue a3 (a0.getD a2.toNat (Ao TC.group)).1 (IntKind.i64.wrap (Jb a3 (a0.getD a2.toNat (Ao TC.group)).1+1))
def Db (a0:List Ae) (a1 a2:Int) (a3:List (U .str×U .i64)):Bool:=!!decide (a2 <a1)&&(!(PD (a0.getD a2.toNat (Ao TC.group)).1&&Zn (a0.getD a2.toNat (Ao TC.group)).2)||decide (Jb (D4 a0 a2 a3) (a0.getD a2.toNat (Ao TC.group)).1 >1))
def V2 (a0:List Ae) (a2:Int) (a3:List (U .str×U .i64)):List (U .str×U .i64):=(D4 a0 a2 a3)
def V3 (a0:List Ae) (a1 a2:Int) (a3:List (U .str×U .i64)):Bool:=!!decide (a2 <a1)&&!(Db a0 a1 a2 a3)
def Hz (a0:List Ae) (a2:Int):Int:=bif !(PD (a0.getD a2.toNat (Ao TC.group)).1&&Zn (a0.getD a2.toNat (Ao TC.group)).2) then 2 else 70
def T4 (a0:List Ae) (a2:Int) (a3:List (U .str×U .i64)):List (U .str×U .i64):=bif !(PD (a0.getD a2.toNat (Ao TC.group)).1&&Zn (a0.getD a2.toNat (Ao TC.group)).2) then a3 else(D4 a0 a2 a3)
def D7:Bv→Bv
  |(a0,a1,a2,a3)=>(a0,a1,IntKind.i64.wrap (a2+1),V2 a0 a2 a3)
def D6 (x:Bv):DB:=some (V3 x.1 x.2.1 x.2.2.1 x.2.2.2)
def Mn:Bv→List Prop
  |(a0,a1,a2,_)=>[((!!decide (a2 <a1))=true→0≤a2∧a2 <(a0.length:Int))]
abbrev GH:Bv→List Prop:=Mn
def T5:Bv→BG
  |(a0,a1,a2,a3)=>[(some 1,some (!decide (a2 <a1)),⟨35,1,[(2,.dead)],[(0,some (.map .str .i64 a3))]⟩),(none,some ((Db a0 a1 a2 a3)),⟨35,2,[(2,.v (.int .i64 (Hz a0 a2)))],[(0,some (.map .str .i64 (T4 a0 a2 a3)))]⟩)]
def D5 (x:Bv):Nat:=(x.2.1 - x.2.2.1).toNat
def F8 (x:Bv):Bv:=Bj D7 D6 (D5 x) x
def V4:=Jg (CP A4w.1 L0) (AQ Bb 19 1) Zp Zo NY D5 D7 D6 GH T5
def PG:=WA 1 (g:=V4) (CR (T:=Zq) (psA:=Mn) A4w.2 A9 (u:=9) (by kernel_rfl) (by decide) (fun⟨a0,a1,a2,a3⟩=>by kernel_rfl) (fun _ h=>h) (fun s x h=>by unfold NY at h;split at h<;>first|(cases h;rfl)|cases h) (fun _=>Bm (n:=35) rfl) fun _ _=>rfl) ⟨L0,A9⟩
def EQ (a0:List Ae):Bool:=(a0.length:Int)==0||decide ((a0.length:Int) >4)
def Mm (a0:List Ae):List Ae:=(F8 (a0,(a0.length:Int),0,[])).1
def SG (a0:List Ae):Int:=(F8 (a0,(a0.length:Int),0,[])).2.1
def SF (a0:List Ae):List (U TC.str×U TC.i64):=(F8 (a0,(a0.length:Int),0,[])).2.2.2
def Ml (a0:List Ae):Int:=(F8 (a0,(a0.length:Int),0,[])).2.2.1
def Je (a0:List Ae):Int:=bif(EQ a0) then bif(a0.length:Int)==0 then 2 else 3 else bif Db (Mm a0) (SG a0) (Ml a0) (SF a0) then Hz (Mm a0) (Ml a0) else 0
def OE (a0:List Ae):A:=iV ((Je a0))
def SH (a0:List Ae):List Prop:=[((!(EQ a0))=true→A3 D7 D6 GH (D5 (a0,(a0.length:Int),0,[])) (a0,(a0.length:Int),0,[]))]
theorem Ag6 (a0:List Ae):Tx (CP A4w.1 PG.1) 9 19 [.sl .group a0] 0 []=some (1,OE a0,0,[],[((!(EQ a0))=true→AQ Bb (19:FuncId) 1=AQ Bb (19:FuncId) 1),((!(EQ a0))=true→A3 D7 D6 GH (D5 (a0,(a0.length:Int),0,[])) (a0,(a0.length:Int),0,[]))]):=by kernel_rfl
theorem Ajf (a0:List Ae) (hp:∀p∈SH a0,p):Ax Bb 19 [.sl .group a0] 0 [] 1 (OE a0) 0 []:=
  Bh (AU A4w.2 PG.2) (Ag6 a0) (Aa (by intros;rfl) (nT hp fun _=>An))
def SI (a0:List Ae):A:=iV ((A1 a0))
def Ri (_a0:List Ae):List Prop:=[]
theorem SE (l:List Ae):(∀p∈SH l,p)∧Je l=A1 l:=by
 have e4:EQ l=(l.length==0||decide (4 <l.length)):=by
  unfold EQ
  rw[Be0]
  congr 1
  exact dgt l.length 4
 have main:EQ l=false→A3 D7 D6 GH (D5 (l,(l.length:Int),0,[])) (l,(l.length:Int),0,[])∧Je l=A1 l:=fun h4=>by
  have hn4:l.length≤4:=by
   rw[e4] at h4
   have:=of_decide_eq_false (Bool.or_eq_false_iff.1 h4).2
   omega
  have bu:∀i,i≤l.length→(∀j,j <i→Abo l j=false)→Db l (l.length:Int) (i:Int) (Rc l i)=(decide (i <l.length)&&Abo l i):=fun i hi hs=>by
   unfold Db D4
   rw[Int.toNat_natCast,Ae0,if_pos rfl,Aez l i hi hs,nn,Ux]
   unfold Abo
   congr 2
   cases((l.take i).map (·.name)).any (fun s=>s==(l.getD i (Ao TC.group)).1)<;>rfl
  obtain⟨h1,k,hk,hx,hs,hst⟩:=Bdc (fun i=>((l,(l.length:Int),(i:Int),Rc l i):Bv)) l.length (Abo l) D7 D6 GH (D5 (l,(l.length:Int),0,[])) ((l,(l.length:Int),0,[]):Bv) rfl
   (by show l.length≤((l.length:Int) - 0).toNat;omega)
   (fun i hi hs=>by
    show((!!decide ((i:Int) <(l.length:Int)))&&!Db l (l.length:Int) (i:Int) (Rc l i))=_
    rw[bu i hi hs,nn,Ux]
    cases decide (i <l.length)<;>rfl)
   (fun i hi hs=>by
    show(l,(l.length:Int),IntKind.i64.wrap ((i:Int)+1),D4 l (i:Int) (Rc l i))=(l,(l.length:Int),((i+1:Nat):Int),Rc l (i+1))
    rw[JK (by omega)]
    unfold D4
    rw[Int.toNat_natCast]
    rfl)
   (fun i hi hs=>Aa (fun h=>by
    have h':(!!decide ((i:Int) <(l.length:Int)))=true:=h
    rw[nn] at h'
    have:=of_decide_eq_true h'
    show(0:Int)≤(i:Int)∧(i:Int) <(l.length:Int)
    omega) An)
  refine⟨h1,?_⟩
  have hr:F8 (l,(l.length:Int),0,[])=(l,(l.length:Int),(k:Int),Rc l k):=hx
  unfold Je Mm SG SF Ml
  rw[hr,h4,cond_false]
  show(bif Db l (l.length:Int) (k:Int) (Rc l k) then Hz l (k:Int) else 0)=_
  rw[bu k hk hs]
  rw[e4] at h4
  obtain⟨h5,h6⟩:=Bool.or_eq_false_iff.1 h4
  unfold A1
  rw[h5,h6,cond_false,cond_false,A23 l k [] (fun j hj hl=>by
   have:=hs j hj
   unfold Abo at this
   obtain⟨q1,q2⟩:=Bool.or_eq_false_iff.1 this
   exact⟨by rw[Bool.not_eq_false'] at q1;exact q1,by simpa using q2⟩),List.nil_append]
  by_cases iw:k <l.length
  ·have jy:=hst iw
   rw[jy,decide_eq_true iw,Bool.and_true,cond_true]
   have hd:l.drop k=l.getD k (Ao TC.group)::l.drop (k+1):=by
    rw[List.getD_eq_getElem?_getD,List.getElem?_eq_getElem iw,Option.getD_some]
    exact List.drop_eq_getElem_cons iw
   rw[hd]
   unfold VU Hz
   rw[Int.toNat_natCast]
   unfold Abo at jy
   show(bif !(PD (l.getD k (Ao TC.group)).1&&Zn (l.getD k (Ao TC.group)).2) then(2:Int) else 70)=bif !(PD (l.getD k (Ao TC.group)).1&&Zn (l.getD k (Ao TC.group)).2) then 2 else _
   cases hq:!(PD (l.getD k (Ao TC.group)).1&&Zn (l.getD k (Ao TC.group)).2) with
   |true=>rfl
   |false=>
    rw[hq,Bool.false_or] at jy
    have l7:((l.take k).map (·.name)).any (fun s=>s==(l.getD k (Ao TC.group)).name)=true:=jy
    rw[cond_false,cond_false,l7]
    rfl
  ·rw[decide_eq_false iw,Bool.false_and,cond_false,List.drop_eq_nil_of_le (by omega)]
   rfl
 cases h4:EQ l with
 |false=>
  obtain⟨g1,g2⟩:=main h4
  exact⟨Aa (fun _=>g1) An,g2⟩
 | true=>
  refine⟨Aa (fun h=>by rw[h4] at h;cases h) An,?_⟩
  unfold Je A1
  rw[h4,cond_true,Be0]
  rw[e4] at h4
  cases h5:l.length==0 with
  |true=>rfl
  |false=>
   rw[h5,Bool.false_or] at h4
   rw[h4]
   rfl
theorem SD (a0:List Ae) (_hp:∀p∈Ri a0,p):Ax Bb 19 [.sl .group a0] 0 [] 1 (SI a0) 0 []:=by
 have h:=Ajf a0 (SE a0).1
 unfold OE at h
 rw[(SE a0).2] at h
 exact h
theorem Jl:IE Bb 19 (Et [.l .group] 0 SI (fun _=>[]) Ri):=A8 SD
def Bls:=Gi Jl A4w
theorem tlb (a b:ByteArray):(a.toList==b.toList)=(a==b):=by
 rw[Bool.eq_iff_iff,Ana,beq_iff_eq]
abbrev Ch:=Bls
end Go.Proofs.YtifkbgkbajncjaaDoor
namespace Go.Proofs.YtifkbgkbajncjaaDoor
open Go.RowKit Go.Shelf
attribute [local go_sem] Oper.semAt_some
def gV (g:Ae):Value:=.agg #[.string g.name,.int .i64 g.policy]
def cV (c:AG):Value:=.agg #[.int .i64 c.stamp.n,.int .i64 c.stamp.site,.int .i64 c.vec.a,.int .i64 c.vec.b,.bool c.gone,.string c.value,.int .i64 c.dead.a,.int .i64 c.dead.b]
structure KB (n₀ X:Nat) (W W':World):Prop where
 os:W'.os=W.os
 tape:W'.tape=W.tape
 output:W'.output=W.output
 size:W.heap.size≤W'.heap.size
 block:∀k,k <n₀→k≠X→W'.heap[k]?=W.heap[k]?
theorem KB.refl (n₀ X:Nat) (W:World):KB n₀ X W W:=⟨rfl,rfl,rfl,Nat.le_refl _,fun _ _ _=>rfl⟩
theorem KB.trans {n₀ X:Nat} {A B C:World} (h:KB n₀ X A B) (k:KB n₀ X B C):KB n₀ X A C:=
 ⟨k.os.trans h.os,k.tape.trans h.tape,k.output.trans h.output,Nat.le_trans h.size k.size,fun i h1 h2=>(k.block i h1 h2).trans (h.block i h1 h2)⟩
theorem KB.of_below {n₀ X:Nat} {A B:World} (h:Below n₀ A B):KB n₀ X A B:=⟨h.os,h.tape,h.output,h.size,fun k hk _=>h.block k hk⟩
theorem KB.cell {n₀ X:Nat} {A B:World} {p:Addr} (h:KB n₀ X A B) (hp:p.block <n₀) (hx:p.block≠X):B.cell? p=A.cell? p:=World.cell?_of_block (h.block _ hp hx)
theorem KB.putObj {n₀ X:Nat} {w:World} (hn:n₀≤w.heap.size) (W:World) (l:Nat) (o o':Obj) (hl:w.heap.size≤l) (h:W.heap[l]?=some o) (h1:o.isCells=false) (h2:o.isWalk=false):KB n₀ X W (W.putObj l o'):=
 KB.of_below (belowK_b hn W l o o' hl h h1 h2)
def Aik (n₀ X:Nat) (W:World) (b off:Nat) (l:List Ae):Prop:=(b <n₀∧b≠X)∧∀j g,l[j]?=some g→W.cell? ⟨b,off+j*2,none⟩=some (.string g.name)∧W.cell? ⟨b,off+j*2+1,none⟩=some (.int .i64 g.policy)
def Aij (n₀ X:Nat) (W:World) (b off:Nat) (l:List AG):Prop:=(b <n₀∧b≠X)∧∀j c,l[j]?=some c→W.cell? ⟨b,off+j*8,none⟩=some (.int .i64 c.stamp.n)∧W.cell? ⟨b,off+j*8+1,none⟩=some (.int .i64 c.stamp.site)∧W.cell? ⟨b,off+j*8+2,none⟩=some (.int .i64 c.vec.a)∧W.cell? ⟨b,off+j*8+3,none⟩=some (.int .i64 c.vec.b)∧W.cell? ⟨b,off+j*8+4,none⟩=some (.bool c.gone)∧W.cell? ⟨b,off+j*8+5,none⟩=some (.string c.value)∧W.cell? ⟨b,off+j*8+6,none⟩=some (.int .i64 c.dead.a)∧W.cell? ⟨b,off+j*8+7,none⟩=some (.int .i64 c.dead.b)
theorem Aik.kept {n₀ X:Nat} {W W':World} {b off:Nat} {l:List Ae} (h:Aik n₀ X W b off l) (hb:KB n₀ X W W'):Aik n₀ X W' b off l:=
 ⟨h.1,fun j g hg=>⟨(hb.cell (p:=⟨b,_,none⟩) h.1.1 h.1.2).trans (h.2 j g hg).1,(hb.cell (p:=⟨b,_,none⟩) h.1.1 h.1.2).trans (h.2 j g hg).2⟩⟩
theorem Aij.kept {n₀ X:Nat} {W W':World} {b off:Nat} {l:List AG} (h:Aij n₀ X W b off l) (hb:KB n₀ X W W'):Aij n₀ X W' b off l:=by
 refine⟨h.1,fun j c hc=>?_⟩
 obtain⟨h0,h1,h2,h3,h4,h5,h6,h7⟩:=h.2 j c hc
 have k:∀o,W'.cell? ⟨b,o,none⟩=W.cell? ⟨b,o,none⟩:=fun o=>hb.cell (p:=⟨b,o,none⟩) h.1.1 h.1.2
 exact⟨(k _).trans h0,(k _).trans h1,(k _).trans h2,(k _).trans h3,(k _).trans h4,(k _).trans h5,(k _).trans h6,(k _).trans h7⟩
theorem Awt {W W':World} (h:Below W.heap.size W W'):W.grownBy W' none:=⟨h.os,h.tape,h.output,h.size,fun k hk _=>h.block k hk⟩
def A6e (x:Ae×AG):Array Value:=#[gV x.1,cV x.2]
theorem Baf {α β:Type} (l:List α) (r:List β) (k:Nat) (x:α) (y:β) (hx:l[k]?=some x) (hy:r[k]?=some y):(l.zip r).take (k+1)=(l.zip r).take k++[(x,y)]:=by
 rw[List.take_add_one,(List.getElem?_zip_eq_some (z:=(x,y))).2 ⟨hx,hy⟩]
 rfl
set_option maxHeartbeats 4000000 in
theorem A3j (n:Nat) (hn:1≤n) (l B2 B3 n₀ b off cap b' ax ib X:Nat) (gs:List Ae) (cs:List AG) (_hlen:cs.length=gs.length) (_hl4:gs.length≤4) (J Jx:List (Ae×AG)→World→Prop) (n1:Nat) (om:n₀≤n1) (xl:AbidesFrom n1 J) (hY:∀pre x W,J pre W→pre.length <gs.length→YieldAt Fence.wide (n - 1) Tryd.prog l (A6e x) W fun e W'=>
      (e=.returned (.bool true)∧J (pre++[x]) W'∧KB n₀ X W W')∨(e=.returned (.bool false)∧Jx (pre++[x]) W')) (W:World) (xr:n1=W.heap.size) (h2:W.cell? ⟨B2,0,none⟩=some (.slice (some ⟨b,off,none⟩) gs.length cap)) (h3:W.cell? ⟨B3,1,none⟩=some (.slice (some ⟨b',ax,none⟩) cs.length ib)) (hB2:B2 <n₀∧B2≠X) (hB3:B3 <n₀∧B3≠X) (hg:Aik n₀ X W b off gs) (hc:Aij n₀ X W b' ax cs) (h0:J [] W):
    CallsIn Fence.wide n Tryd.prog 63 #[.func (.yield l) #[] #[],.pointer (some ⟨B2,0,none⟩),.pointer (some ⟨B3,0,none⟩)] W fun e W'=>(∃v,e=.returned v)∧
      ((∃ys,ys=gs.zip cs∧J ys W')∨(∃pre,(∃k,k≤gs.length∧pre=(gs.zip cs).take k)∧Jx pre W')):=by
  refine callsIn_of_wp Tryd.func63 rfl trivial ?_ rfl
  simp only[Tryd.ntmps63,List.size_toArray,List.length_cons,List.length_nil,Nat.reduceAdd,Nat.reduceSub,Array.replicate_succ,Array.replicate_zero,List.push_toArray,List.append_toArray,List.nil_append,List.cons_append]
  gi_wp2
  gi_loopw [8] (fun i wr=>∃k:Nat,k≤gs.length∧i=.int .i64 k∧J ((gs.zip cs).take k) wr∧KB n₀ X W wr∧W.heap.size≤wr.heap.size) (fun i _=>gs.length - (intOf i).toNat)
  case atStart=>exact⟨0,Nat.zero_le _,rfl,h0,KB.refl _ _ _,Nat.le_refl _⟩
  case round=>
    obtain⟨k,hk,rfl,qy,hnx,bc⟩:=hrel
    by_cases ae:k <gs.length
    · have bw:k <cs.length:=by omega
      obtain⟨hg1,mn⟩:=(hg.kept hnx).2 k gs[k] (List.getElem?_eq_getElem ae)
      have e9:=(hnx.cell (p:=⟨B2,0,none⟩) hB2.1 hB2.2).trans h2
      gi_wp2
      have hb3:Below wr.heap.size wr (wr.alloc (.cells #[.string gs[k].name,.int .i64 gs[k].policy] 89)):=(Below.refl _ wr).alloc (Nat.le_refl _) _
      have hv:wr.heap.size=wr.heap.size:=rfl
      have hn:=World.alloc_heap_new wr (.cells #[.string gs[k].name,.int .i64 gs[k].policy] 89)
      generalize wr.alloc (.cells #[.string gs[k].name,.int .i64 gs[k].policy] 89)=W3 at hb3 hn⊢
      have hb4:KB n₀ X wr W3:=KB.of_below (hb3.mono (Nat.le_trans om (by rw[xr];exact bc)))
      have xw:KB n₀ X W3 W3.drew:=KB.of_below ((Below.refl _ W3).drew)
      obtain⟨ur,hc1,p9,hc3,hc4,qa,hc6,hc7⟩:=((hc.kept hnx).kept hb4).2 k cs[k] (List.getElem?_eq_getElem bw)
      have gu:=((hnx.trans hb4).cell (p:=⟨B3,1,none⟩) hB3.1 hB3.2).trans h3
      have hz:((gs.zip cs).take k).length <gs.length:=by rw[List.length_take,List.length_zip];omega
      have xk:J ((gs.zip cs).take k) W3.drew:=xl _ wr _ none qy (Awt hb3.drew) (fun r e=>by cases e)
      obtain⟨fn,tmps,assign,body,hy,hR⟩:=hY _ (gs[k],cs[k]) _ xk hz
      have hR2:RoundIn Fence.wide (n - 1) Tryd.prog l fn tmps assign body W3.drew fun e W'=>∃q:Bool,e=.returned (.bool q)∧(q=true→J ((gs.zip cs).take (k+1)) W'∧KB n₀ X wr W')∧(q=false→Jx ((gs.zip cs).take (k+1)) W'):=by
        refine hR.mono ?_
        rw[←Baf gs cs k gs[k] cs[k] (List.getElem?_eq_getElem ae) (List.getElem?_eq_getElem bw)]
        rintro e W' (⟨rfl,h1,h2⟩|⟨rfl,h1⟩)
        ·exact⟨true,rfl,⟨fun _=>⟨h1,(hb4.trans xw).trans h2⟩,fun h=>by cases h⟩⟩
        ·exact⟨false,rfl,⟨fun h=>(by cases h),fun _=>h1⟩⟩
      clear hR
      have hm:Tryd.prog.follows .mixedOrders=true:=by kernel_rfl
      dsimp only[A6e,gV,cV] at hy
      obtain⟨ji,hn1'⟩:=cb2 hn
      gi_region_with_o (refine hR2.mono ?_;rintro e W4 ⟨q,rfl,jj,lz⟩)
      all_goals (cases q)
      all_goals gi_wp2
      all_goals first
        |(refine bodyPost_ret (results_none rfl _ _ _) rfl ?_;exact⟨⟨_,rfl⟩,.inr ⟨_,⟨k+1,by omega,rfl⟩,lz (by trivial)⟩⟩)
        | (obtain⟨q1,q2⟩:=jj (by trivial)
           exact⟨⟨k+1,by omega,rfl,q1,hnx.trans q2,Nat.le_trans bc q2.size⟩,by simp[intOf];omega⟩)
    · obtain rfl:k=gs.length:=by omega
      gi_wp2
      go_end0
      exact⟨⟨_,rfl⟩,.inl ⟨_,rfl,by rw[List.take_of_length_le (by rw[List.length_zip];omega)] at qy;exact qy⟩⟩
set_option maxHeartbeats 1000000 in
theorem Atk (n:Nat) (a:Option Addr) (len cap:Nat) (v1:Value) (key:ByteArray) (w:World):
  CallsIn Fence.wide n Tryd.prog 41 #[.slice a len cap,.agg #[.string key,v1]] w fun e w'=>e=.returned (.func (.func 63) #[] #[.pointer (some ⟨w.heap.size,0,none⟩),.pointer (some ⟨w.heap.size+1,0,none⟩)])∧w'=(w.alloc (.cells #[.slice a len cap] 22)).alloc (.cells #[.string key,v1] 60):=by
 refine callsIn_of_wp Tryd.func41 rfl trivial ?_ rfl
 simp only[Tryd.ntmps41,List.size_toArray,List.length_cons,List.length_nil,Nat.reduceAdd,Nat.reduceSub,Array.replicate_succ,Array.replicate_zero,List.push_toArray,List.append_toArray,List.nil_append,List.cons_append]
 gi_wp2
 go_ret
 exact⟨rfl,rfl⟩
theorem Aaz (n:Nat) (hn:1≤n) (B2 B3 n₀ X b off cap b' ax ib:Nat) (gs:List Ae) (cs:List AG) (hlen:cs.length=gs.length) (jt:gs.length≤4) (w:World) (hn₀:n₀≤w.heap.size) (h2:w.cell? ⟨B2,0,none⟩=some (.slice (some ⟨b,off,none⟩) gs.length cap)) (h3:w.cell? ⟨B3,1,none⟩=some (.slice (some ⟨b',ax,none⟩) cs.length ib)) (hB2:B2 <n₀∧B2≠X) (hB3:B3 <n₀∧B3≠X) (hg:Aik n₀ X w b off gs) (hc:Aij n₀ X w b' ax cs):
  SeqStopsK Fence.wide n Tryd.prog 63 #[.pointer (some ⟨B2,0,none⟩),.pointer (some ⟨B3,0,none⟩)] A6e (KB n₀ X) (fun ys=>ys=gs.zip cs) (fun pre=>∃k,k≤gs.length∧pre=(gs.zip cs).take k) gs.length w:=fun l J Jx W hW hJ _ hY h0=>by
 have hk:KB n₀ X w W:=KB.of_below (hW.mono hn₀)
 exact A3j n hn l B2 B3 n₀ b off cap b' ax ib X gs cs hlen jt J Jx W.heap.size (Nat.le_trans hn₀ hW.size) hJ hY W rfl ((hk.cell (p:=⟨B2,0,none⟩) hB2.1 hB2.2).trans h2) ((hk.cell (p:=⟨B3,1,none⟩) hB3.1 hB3.2).trans h3) hB2 hB3 (hg.kept hk) (hc.kept hk) h0
def Po (p:Int) (G:Int→AG→Bool) (gs:List Ae) (key:ByteArray) (cs:List AG):Int:=
 if(p !=0)=true then p else if key.toList.isEmpty=true then 2 else if 32 <(key.size:Int) then 3 else if((cs.length:Int) !=(gs.length:Int))=true then 100 else bif(gs.zip cs).all (fun x=>G x.1.policy x.2) then 0 else 80
theorem Tq {β:Type} (B:Nat) (cs:Array Value) (t:TypeId):Own (fun(_:β) W=>W.heap[B]?=some (.cells cs t (0,0))):=fun s W W' row hs hg hr=>by
 refine(hg.block B (Fw hs) fun e=>?_).trans hs
 obtain⟨o,h1,h2⟩:=hr B e.symm
 rw[hs] at h1
 cases h1
 cases h2
theorem HK (B:Nat) {W W':World} (h:Below W.heap.size W W'):KeepsFrom B W W':=⟨h.size,fun k _ _ hk _=>(h.block k (Fw hk)).trans hk⟩
theorem QG {β:Type} (B n:Nat):OwnFrom B (fun(_:β) W=>n≤W.heap.size):=fun _ _ _ _ hs hg _=>Nat.le_trans hs hg.size
set_option maxHeartbeats 4000000 in
theorem Auc (w:World) (a0 a1:Option Addr) (gs:List Ae) (cs:List AG) (key:ByteArray) (ay aw:Nat) (p:Int) (G:Int→AG→Bool) (hP:∀W,Below w.heap.size w W→Calls Tryd.prog 19 #[.slice a0 gs.length ay] W fun e W'=>e=.returned (.int .i64 p)∧Below W.heap.size W W') (qh:p=0→1≤gs.length∧gs.length≤4) (hC:∀(q:Int) (c:AG) W,Below w.heap.size w W→Calls Tryd.prog 62 #[.int .i64 q,cV c] W fun e W'=>e=.returned (.bool (G q c))∧Below W.heap.size W W') (hG:0 <gs.length→∃b off,a0=some ⟨b,off,none⟩∧Aik w.heap.size w.heap.size w b off gs) (hS:0 <cs.length→∃b off,a1=some ⟨b,off,none⟩∧Aij w.heap.size w.heap.size w b off cs):
    Calls Tryd.prog 40 #[.slice a0 gs.length ay,.agg #[.string key,.slice a1 cs.length aw]] w fun e W'=>e=.returned (.int .i64 (Po p G gs key cs))∧Below w.heap.size w W':=by
  refine(callsIn_wide (n:=5)).1 ?_
  refine callsIn_of_wp_marks Tryd.func40 rfl trivial ?_ rfl
  simp only[Tryd.ntmps40,List.size_toArray,List.length_cons,List.length_nil,Nat.reduceAdd,Nat.reduceSub,Array.replicate_succ,Array.replicate_zero,List.push_toArray,List.append_toArray,List.nil_append,List.cons_append]
  have hw2:Below w.heap.size w ((w.alloc (.cells #[.string key,.slice a1 cs.length aw] 60)).alloc (.cells #[.int .i64 0] 38)):=((Below.refl _ w).alloc (Nat.le_refl _) _).alloc (by simp) _
  have kn:=LJ (.cells #[.int .i64 0] 38) (Gj (w:=w) (.cells #[.string key,.slice a1 cs.length aw] 60) rfl)
  have i7:=Gj (w:=w.alloc (.cells #[.string key,.slice a1 cs.length aw] 60)) (.cells #[.int .i64 0] 38) (n:=w.heap.size+1) (by simp)
  gi_wp2_with (first
    |(refine⟨trivial,?_⟩;gi_at_call 19;refine(callsIn_wide.2 (hP _ hw2)).mono ?_;rintro e W1 ⟨rfl,hb1⟩;have hx1:=DC kn hb1;have df:=DC i7 hb1;obtain⟨c0,c1⟩:=cb2 hx1;have d0:=cb1 df;have f0:=fb1 df;have hB1:Below w.heap.size w W1:=hw2.trans (hb1.mono (by simp;omega));clear kn i7 hb1)
    |(refine⟨trivial,?_⟩;gi_at_call 41;refine(Atk _ _ _ _ _ _ _).mono ?_;rintro e W2 ⟨rfl,rfl⟩))
  · have h1:(p !=0)=true:=by assumption
    have e:Po p G gs key cs=p:=by unfold Po;rw[if_pos h1]
    have hc:=cb1 (Mz (i:=0) df (.int .i64 p))
    exact⟨.int .i64 p,by simp[results,Tryd.f40,go_sem,hc],by rw[e],hB1.setCell (p:=⟨w.heap.size+1,0,none⟩) (by simp) _⟩
  · have h1:(p !=0)=false:=by assumption
    have h2:key.toList.isEmpty=true:=by assumption
    have e:Po p G gs key cs=2:=by unfold Po;rw[if_neg (by rw[h1];simp),if_pos h2]
    have hc:=cb1 (Mz (i:=0) df (.int .i64 2))
    exact⟨.int .i64 2,by simp[results,Tryd.f40,go_sem,hc],by rw[e],hB1.setCell (p:=⟨w.heap.size+1,0,none⟩) (by simp) _⟩
  · have h1:(p !=0)=false:=by assumption
    have h2:key.toList.isEmpty=false:=by assumption
    have h3:32 <(key.size:Int):=by assumption
    have e:Po p G gs key cs=3:=by unfold Po;rw[if_neg (by rw[h1];simp),if_neg (by rw[h2];simp),if_pos h3]
    have hc:=cb1 (Mz (i:=0) df (.int .i64 3))
    exact⟨.int .i64 3,by simp[results,Tryd.f40,go_sem,hc],by rw[e],hB1.setCell (p:=⟨w.heap.size+1,0,none⟩) (by simp) _⟩
  · have h1:(p !=0)=false:=by assumption
    have h2:key.toList.isEmpty=false:=by assumption
    have h3:(key.size:Int)≤32:=by assumption
    have h4:((cs.length:Int) !=(gs.length:Int))=true:=by assumption
    have e:Po p G gs key cs=100:=by unfold Po;rw[if_neg (by rw[h1];simp),if_neg (by rw[h2];simp),if_neg (by omega),if_pos h4]
    have hc:=cb1 (Mz (i:=0) df (.int .i64 100))
    exact⟨.int .i64 100,by simp[results,Tryd.f40,go_sem,hc],by rw[e],hB1.setCell (p:=⟨w.heap.size+1,0,none⟩) (by simp) _⟩
  have h1:(p !=0)=false:=by assumption
  have h2:key.toList.isEmpty=false:=by assumption
  have h3:(key.size:Int)≤32:=by assumption
  have h4:((cs.length:Int) !=(gs.length:Int))=false:=by assumption
  have e:Po p G gs key cs=bif(gs.zip cs).all (fun x=>G x.1.policy x.2) then 0 else 80:=by unfold Po;rw[if_neg (by rw[h1];simp),if_neg (by rw[h2];simp),if_neg (by omega),if_neg (by rw[h4];simp)]
  have hp:p=0:=by simpa using h1
  clear h1
  subst hp
  have hlen : cs.length = gs.length := by have:(cs.length:Int)=gs.length:=by simpa using h4
                                          omega
  obtain⟨hl1,jt⟩:=qh rfl
  obtain⟨b,off,rfl,hg⟩:=hG (by omega)
  obtain⟨b',ax,rfl,hc⟩:=hS (by omega)
  have hW2:Below W1.heap.size W1 ((W1.alloc (.cells #[.slice (some ⟨b,off,none⟩) gs.length ay] 22)).alloc (.cells #[.string key,.slice (some ⟨b',ax,none⟩) cs.length aw] 60)):=((Below.refl _ W1).alloc (Nat.le_refl _) _).alloc (by simp) _
  have o9:=LJ (.cells #[.string key,.slice (some ⟨b',ax,none⟩) cs.length aw] 60) (Gj (w:=W1) (.cells #[.slice (some ⟨b,off,none⟩) gs.length ay] 22) rfl)
  have tb:=Gj (w:=W1.alloc (.cells #[.slice (some ⟨b,off,none⟩) gs.length ay] 22)) (.cells #[.string key,.slice (some ⟨b',ax,none⟩) cs.length aw] 60) (n:=W1.heap.size+1) (by simp)
  have mz:=DC df hW2
  have i9:=Fw df
  have mv:=Fw tb
  have hB2:=hB1.trans (hW2.mono hB1.size)
  generalize (W1.alloc (.cells #[.slice (some ⟨b,off,none⟩) gs.length ay] 22)).alloc (.cells #[.string key,.slice (some ⟨b',ax,none⟩) cs.length aw] 60)=W2 at hW2 o9 tb mz mv hB2⊢
  have mn:Aik W2.heap.size W2.heap.size W2 b off gs:=⟨⟨by have:=hg.1.1;omega,by have:=hg.1.1;omega⟩,fun j g hj=>⟨(hB2.cell (p:=⟨b,_,none⟩) hg.1.1).trans (hg.2 j g hj).1,(hB2.cell (p:=⟨b,_,none⟩) hg.1.1).trans (hg.2 j g hj).2⟩⟩
  have p9:Aij W2.heap.size W2.heap.size W2 b' ax cs:=by
    refine⟨⟨by have:=hc.1.1;omega,by have:=hc.1.1;omega⟩,fun j c hj=>?_⟩
    have k:∀o,W2.cell? ⟨b',o,none⟩=w.cell? ⟨b',o,none⟩:=fun o=>hB2.cell (p:=⟨b',o,none⟩) hc.1.1
    simp only[k]
    exact hc.2 j c hj
  refine wpIn_rangeFunc_ownH (F:=Fence.wide) rfl (by omega) (gf:=63) (lb:=#[.pointer (some ⟨W1.heap.size,0,none⟩),.pointer (some ⟨W1.heap.size+1,0,none⟩)]) rfl trivial (enters_of Tryd.func63 (by kernel_rfl) rfl)
    (Aaz _ (by omega) W1.heap.size (W1.heap.size+1) W2.heap.size W2.heap.size b off ay b' ax aw gs cs hlen jt W2 (Nat.le_refl _) (cb1 o9) (cb2 tb).2 ⟨by omega,by omega⟩ ⟨by omega,by omega⟩ mn p9)
    KB.trans (KB.putObj (Nat.le_refl _)) (Below.refl _ _) (fun _=>rfl)
    (fun pre W=>((∀x∈pre,G x.1.policy x.2=true)∧W.heap[w.heap.size+1]?=some (.cells #[.int .i64 0] 38 (0,0)))∧Below w.heap.size w W∧W2.heap.size≤W.heap.size)
    (fun c pre W=>((c=.ret∧∃x∈pre,G x.1.policy x.2=false)∧W.heap[w.heap.size+1]?=some (.cells #[.int .i64 80] 38 (0,0)))∧Below w.heap.size w W∧W2.heap.size≤W.heap.size)
    (OwnFrom.and (OwnFrom.and (ownFrom_pure _ _) (Own.from (Tq _ _ _) _)) (OwnFrom.and (ownFrom_below (Nat.le_refl _) hB2.size) (QG _ _)))
    (fun c=>OwnFrom.and (OwnFrom.and (ownFrom_pure _ _) (Own.from (Tq _ _ _) _)) (OwnFrom.and (ownFrom_below (Nat.le_refl _) hB2.size) (QG _ _)))
    ⟨⟨by simp,mz⟩,hB2,Nat.le_refl _⟩
    (fun x a' W=>(∃B6 B7,a'={tmps:=#[Value.slice (some ⟨b,off,none⟩) gs.length ay,Value.agg #[Value.string key,Value.slice (some ⟨b',ax,none⟩) cs.length aw],undef,
          Value.pointer (some {block:=w.heap.size,off:=0}),
          Value.pointer (some {block:=w.heap.size+1,off:=0}),Value.int IntKind.i64 0,Value.pointer (some ⟨B6,0,none⟩),Value.pointer (some ⟨B7,0,none⟩),
          Value.slice (some ⟨b,off,none⟩) gs.length ay,Value.int IntKind.i64 0,Value.int IntKind.i64 0,Value.bool false,undef,
          Value.bool false,Value.pointer (some {block:=w.heap.size,off:=0}),Value.string key,Value.bool false,
          Value.bool (decide (32 <(key.size:Int))),Value.pointer (some {block:=w.heap.size,off:=0}),
          Value.string key,Value.int IntKind.i64 key.size,Value.bool (decide (32 <(key.size:Int))),Value.bool false,
          Value.pointer (some {block:=w.heap.size,off:=1}),Value.slice (some ⟨b',ax,none⟩) cs.length aw,
          Value.int IntKind.i64 cs.length,Value.slice (some ⟨b,off,none⟩) gs.length ay,Value.int IntKind.i64 gs.length,
          Value.bool false,Value.slice (some ⟨b,off,none⟩) gs.length ay,Value.agg #[Value.string key,Value.slice (some ⟨b',ax,none⟩) cs.length aw],
          Value.func (Fn.func 63) #[] #[Value.pointer (some {block:=W1.heap.size,off:=0}),Value.pointer (some {block:=W1.heap.size+1,off:=0})],
          gV x.1,cV x.2,undef,undef,undef,undef,undef],defers:=[]}∧
        (W.heap[B6]?=some (.cells #[.string x.1.name,.int .i64 x.1.policy] 89 (0,0))∧W.heap[B7]?=some (.cells #[.int .i64 x.2.stamp.n,.int .i64 x.2.stamp.site,.int .i64 x.2.vec.a,.int .i64 x.2.vec.b,.bool x.2.gone,.string x.2.value,.int .i64 x.2.dead.a,.int .i64 x.2.dead.b] 87 (0,0)))))
    (fun x a'=>Own.from (fun s X Y row hs ny hr=>by
      obtain⟨B6,B7,e1,e2,e3⟩:=hs
      exact⟨B6,B7,e1,Tq B6 _ _ s X Y row e2 ny hr,Tq B7 _ _ s X Y row e3 ny hr⟩) _) ?assign ?body ?done ?stop
  case assign=>
    rintro l pre x W K ⟨⟨i1,i2⟩,i3,i4⟩ hK
    clear hlen h4
    dsimp only[A6e,gV,cV] at hK⊢
    gi_wp2
    have hb:Below W.heap.size W ((W.alloc (.cells #[.string x.1.name,.int .i64 x.1.policy] 89)).alloc (.cells #[.int .i64 x.2.stamp.n,.int .i64 x.2.stamp.site,.int .i64 x.2.vec.a,.int .i64 x.2.vec.b,.bool x.2.gone,.string x.2.value,.int .i64 x.2.dead.a,.int .i64 x.2.dead.b] 87)):=((Below.refl _ W).alloc (Nat.le_refl _) _).alloc (by simp) _
    exact hK _ _ (HK _ hb) (KB.of_below (hb.mono i4)) ⟨⟨i1,DC i2 hb⟩,i3.trans (hb.mono i3.size),Nat.le_trans i4 hb.size⟩ ⟨W.heap.size,W.heap.size+1,rfl,LJ _ (Gj _ rfl),Gj _ (by simp)⟩
  case body=>
    rintro l pre x a' W hl hr ⟨⟨i1,i2⟩,i3,i5⟩ ⟨B6,B7,rfl,e6,e7⟩ ae
    obtain⟨k0,k1⟩:=cb2 e6
    obtain⟨m0,m1,m2,m3,m4,m5,m6,m7⟩:=cb8 e7
    have d0:=cb1 i2
    have f0:=fb1 i2
    cases mm:G x.1.policy x.2 with
    | true=>
      gi_wp2_with (refine⟨trivial,?_⟩;gi_at_call 62;refine(CallsIn.inRound l (callsIn_wide.2 (hC x.1.policy x.2 _ i3))).mono ?_;rw[mm];rintro e W' ⟨rfl,hb⟩)
      exact⟨HK _ hb,KB.of_below (hb.mono i5),⟨fun y hy=>(List.mem_append.1 hy).elim (i1 y) (fun e=>by simp at e;subst e;exact mm),DC i2 hb⟩,i3.trans (hb.mono i3.size),Nat.le_trans i5 hb.size⟩
    | false=>
      gi_wp2_with (refine⟨trivial,?_⟩;gi_at_call 62;refine(CallsIn.inRound l (callsIn_wide.2 (hC x.1.policy x.2 _ i3))).mono ?_;rw[mm];rintro e W' ⟨rfl,hb⟩;have i4:=DC i2 hb;have d4:=cb1 i4;have f4:=fb1 i4)
      exact⟨(HK _ hb).trans ((KeepsOthers.setCell _ _ _).from _),⟨⟨rfl,x,by simp,mm⟩,Mz (i:=0) i4 (.int .i64 80)⟩,(i3.trans (hb.mono i3.size)).setCell (p:=⟨w.heap.size+1,0,none⟩) (by simp) _,Nat.le_trans i5 (by rw[X1];exact hb.size)⟩
  case done=>
    rintro D ys W hD rfl ⟨⟨i1,i2⟩,i3,i5⟩ hK
    have d0:=cb1 i2
    have f0:=fb1 i2
    gi_wp2
    have qz:=(KeepsOthers.setCell W ⟨w.heap.size+1,0,none⟩ (.int .i64 0)).same D _ hK rfl
    refine⟨by simp,.inl ⟨_,_,rfl,run_takeDeferred qz,?_⟩⟩
    have qa:=cell_kept (World.cell?_setCell_same' W ⟨w.heap.size+1,0,none⟩ (.int .i64 0) (by rw[d0];rfl)) (grownBy_putObj' _ D (.deferred none)) (fun r e=>by cases e;exact⟨_,qz,rfl⟩)
    refine⟨.int .i64 0,?_,?_,(i3.setCell (p:=⟨w.heap.size+1,0,none⟩) (by simp) _).trans (belowK_b (w:=w) (Nat.le_refl _) _ D _ _ (by have:=hB2.size;omega) qz rfl rfl)⟩
    ·simp[results,Tryd.f40,go_sem,qa]
    ·rw[List.all_eq_true.2 (fun x hx=>i1 x hx)];rfl
  case stop=>
    rintro D c pre W hD ⟨k,hk,rfl⟩ ⟨⟨⟨rfl,x,hx,mm⟩,i2⟩,i3,i5⟩ hK
    gi_wp2
    refine⟨by simp,.inl ⟨_,_,rfl,run_takeDeferred hK,?_⟩⟩
    have qa:=cell_kept (cb1 i2) (grownBy_putObj' _ D (.deferred none)) (fun r e=>by cases e;exact⟨_,hK,rfl⟩)
    refine⟨.int .i64 80,?_,?_,i3.trans (belowK_b (w:=w) (Nat.le_refl _) W D _ _ (by have:=hB2.size;omega) hK rfl rfl)⟩
    ·simp[results,Tryd.f40,go_sem,qa]
    · have:(gs.zip cs).all (fun x=>G x.1.policy x.2)=false:=by
        cases ha:(gs.zip cs).all (fun x=>G x.1.policy x.2) with
        |false=>rfl
        |true=>have:=(List.all_eq_true.1 ha) x (List.mem_of_mem_take hx);rw[mm] at this;cases this
      rw[this];rfl
end Go.Proofs.YtifkbgkbajncjaaDoor
namespace Go.Proofs.YtifkbgkbajncjaaDoor
open Go.RowKit
def BJ (l:List Ae) (r:AW):Int:=bif A1 l !=0 then A1 l else bif r.key.size==0 then 2 else bif decide (32 <r.key.size) then 3 else bif r.cells.length !=l.length then 100 else bif(l.zip r.cells).all (fun x=>HI x.1.policy x.2) then 0 else 80
def Abi (a0:List Ae) (a1:AW):A:=iV ((BJ a0 a1))
def XZ (_a0:List Ae) (_a1:AW):List Prop:=[]
theorem Ank (k:ByteArray):k.toList.isEmpty=(k.size==0):=by
 rw[ByteArray.toList_eq,Bool.eq_iff_iff,List.isEmpty_iff,beq_iff_eq,←PN]
 exact⟨fun h=>by rw[h];rfl,fun h=>List.eq_nil_of_length_eq_zero h⟩
theorem A69 (l:List Ae) (key:ByteArray) (cs:List AG):Po (A1 l) HI l key cs=BJ l ⟨key,cs⟩:=by
 unfold Po BJ
 rw[Ank]
 have e3:decide (32 <((key.size:Nat):Int))=decide (32 <key.size):=decide_eq_decide.2 (by omega)
 have e4:(((cs.length:Nat):Int) !=(l.length:Int))=(cs.length !=l.length):=by
  rw[Bool.eq_iff_iff,bne_iff_ne,bne_iff_ne];omega
 simp only[Bool.cond_eq_ite,e4,decide_eq_true_eq,show(32 <((key.size:Nat):Int))=(32 <key.size) from propext (by omega)]
theorem Alt {R:World} {ad:Addr} {v:Value} (h:R.cell? ad=some v):ad=⟨ad.block,ad.off,none⟩:=by
 cases ad with|mk b o s=>
 cases s with
 |none=>rfl
 |some q=>
  exfalso
  unfold World.cell? at h
  cases hb:R.heap[b]? with
  |none=>simp only[hb] at h;cases h
  |some ob=>cases ob<;>simp[hb] at h
theorem Baq (b o k j:Nat):((⟨b,o,none⟩:Addr).add k).add j=⟨b,o+k+j,none⟩:=by
 rw[C9,C9]
section
variable {F:Nat→Prop} {N:Nm} {nx:Nat} {R:World}
theorem HC.at0 {l:List A} {b o k j:Nat} {x:Value} (h:HC F N nx R l ((⟨b,o,none⟩:Addr).add k)) (hx:l[j]?=some (.v x)):R.cell? ⟨b,o+k+j,none⟩=some x:=by
 obtain⟨y,h1,h2⟩:=h j _ hx
 rw[Baq] at h1
 rw[h1,h2.v_inv]
theorem Bfd {gs:List Ae} {v:Value} (hF:∀g,F g→g <R.heap.size) (h:Hv F N nx R (.sl .group gs) v):
  ∃a cap,v=.slice a gs.length cap∧(0 <gs.length→∃b off,a=some ⟨b,off,none⟩∧Aik R.heap.size R.heap.size R b off gs):=by
 obtain⟨a,cap,e,_,h2⟩:=h.sl_inv
 refine⟨a,cap,e,fun hn=>?_⟩
 obtain⟨ad,rfl,hb,h3⟩:=h2 hn
 have ae:=hF _ hb
 obtain⟨y,hy,_⟩:=h3 0 gs[0] (List.getElem?_eq_getElem hn) 0 (.v (.string gs[0].name)) rfl
 rw[Nat.zero_mul,add_zero,add_zero] at hy
 have hs:=Alt hy
 rw[hs] at h3⊢
 refine⟨ad.block,ad.off,rfl,⟨ae,Nat.ne_of_lt ae⟩,fun j g hj=>?_⟩
 have h4:=h3 j g hj
 exact⟨h4.at0 (j:=0) (x:=.string g.name) rfl,h4.at0 (j:=1) (x:=.int .i64 g.policy) rfl⟩
theorem Be2 {cs:List AG} {v:Value} (hF:∀g,F g→g <R.heap.size) (h:Hv F N nx R (.sl .cell cs) v):
  ∃a cap,v=.slice a cs.length cap∧(0 <cs.length→∃b off,a=some ⟨b,off,none⟩∧Aij R.heap.size R.heap.size R b off cs):=by
 obtain⟨a,cap,e,_,h2⟩:=h.sl_inv
 refine⟨a,cap,e,fun hn=>?_⟩
 obtain⟨ad,rfl,hb,h3⟩:=h2 hn
 have ae:=hF _ hb
 obtain⟨y,hy,_⟩:=h3 0 cs[0] (List.getElem?_eq_getElem hn) 0 (iV (cs[0].stamp.n)) rfl
 rw[Nat.zero_mul,add_zero,add_zero] at hy
 have hs:=Alt hy
 rw[hs] at h3⊢
 refine⟨ad.block,ad.off,rfl,⟨ae,Nat.ne_of_lt ae⟩,fun j c hj=>?_⟩
 have h4:=h3 j c hj
 exact⟨h4.at0 (j:=0) (x:=.int .i64 c.stamp.n) rfl,h4.at0 (j:=1) (x:=.int .i64 c.stamp.site) rfl,h4.at0 (j:=2) (x:=.int .i64 c.vec.a) rfl,h4.at0 (j:=3) (x:=.int .i64 c.vec.b) rfl,h4.at0 (j:=4) (x:=.bool c.gone) rfl,h4.at0 (j:=5) (x:=.string c.value) rfl,h4.at0 (j:=6) (x:=.int .i64 c.dead.a) rfl,h4.at0 (j:=7) (x:=.int .i64 c.dead.b) rfl⟩
theorem Bi.bare (hF:∀g,F g→g <R.heap.size) (hg:PV F R):Bi F N 0 [] R:=⟨hF,fun _ _ h=>(by cases h),fun _ _ _ h=>(by cases h),fun _ _ _ _ _ h=>(by cases h),hg⟩
end
theorem Ax.plain {P:Program} {f:FuncId} {args:List A} {x:Value} (h:Ax P f args 0 [] 1 (.v x) 0 []) {F:Nat→Prop} {N:Nm} {R:World} {vs:List Value} (hF:∀g,F g→g <R.heap.size) (hg:PV F R) (hv:HL F N 0 R args vs):
  Calls P f vs.toArray R fun e R'=>e=.returned x∧Below R.heap.size R R':=
 (h F N R vs (Bi.bare hF hg) hv).mono fun e R' ⟨y,F',N',e1,_,_,h4,h5⟩=>⟨by rw[e1,h4.v_inv],h5 (Nat.le_refl _)⟩
theorem Abh (a0:List Ae) (a1:AW) (_hp:∀p∈XZ a0 a1,p):Ax Bb 40 [.sl .group a0,AX .row a1] 0 [] 1 (Abi a0 a1) 0 []:=by
 intro F N R vs hR hv
 obtain⟨v0,vs,rfl,h0,hv⟩:=hv.inv
 obtain⟨v1,vs,rfl,h1,hv⟩:=hv.inv
 rw[hv.inv0]
 obtain⟨us,rfl,h2⟩:=Hv.agg_inv (xs:=[.v (.string a1.key),.sl .cell a1.cells]) h1
 clear h1
 have h1:=h2
 obtain⟨u0,us,rfl,k0,h1⟩:=h1.inv
 obtain⟨u1,us,rfl,k1,h1⟩:=h1.inv
 rw[h1.inv0]
 rw[k0.v_inv]
 obtain⟨aa,ay,rfl,g0⟩:=Bfd hR.flt h0
 obtain⟨ab,aw,rfl,g1⟩:=Be2 hR.flt k1
 refine(Auc R aa ab a0 a1.cells a1.key ay aw (A1 a0) HI ?_ Qu ?_ g0 g1).mono ?_
 ·intro W hW
  exact(SD a0 (fun _ h=>by cases h)).plain (F:=F) (N:=N) (vs:=[_]) (hR.grow hW).1.flt (hR.grow hW).1.gl (HL.cons (h0.step (hR.grow hW).2) HL.nil)
 ·intro q c W hW
  have h:=(Aac q c (fun _ h=>by cases h)).plain (F:=F) (N:=N) (R:=W) (vs:=[.int .i64 q,cV c]) (hR.grow hW).1.flt (hR.grow hW).1.gl (HL.cons (.v _) (HL.cons (.v _) HL.nil))
  rw[Ln] at h
  exact h
 ·rintro e W ⟨rfl,hb⟩
  rw[A69]
  exact⟨_,F,N,rfl,(hR.grow hb).1,Step.of_below hb,.v _,fun _=>hb⟩
theorem Ao9:IE Bb 40 (Et [.l .group,.t .row] 0 Abi (fun _ _=>[]) XZ):=A8 Abh
def Blt:=Gi Ao9 Ch
abbrev Ci:=Blt
def eqC (a b:AG):Bool:=a.stamp.n==b.stamp.n&&a.stamp.site==b.stamp.site&&(a.vec.a==b.vec.a&&a.vec.b==b.vec.b)&&a.gone==b.gone&&a.value==b.value&&(a.dead.a==b.dead.a&&a.dead.b==b.dead.b)
def Aew:List AG→List AG→Bool
 | [],[]=>true
 |x::xs,y::ys=>eqC x y&&Aew xs ys
 |_,_=>false
def Aiv (a b:AW):Bool:=a.key==b.key&&Aew a.cells b.cells
def Up (r:AW):Bool:=r.cells.all fun c=>eqC c Tn
theorem Anb {a b:AG}:eqC a b=true↔a=b:=by
 unfold eqC
 simp only[Bool.and_eq_true,beq_iff_eq]
 constructor
 ·rintro⟨⟨⟨⟨⟨h1,h2⟩,h3,h4⟩,h5⟩,h6⟩,h7,h8⟩
  cases a with|mk s v g t d=>cases b with|mk s' v' g' t' d'=>
  cases s;cases s';cases v;cases v';cases d;cases d'
  cases h1;cases h2;cases h3;cases h4;cases h5;cases h6;cases h7;cases h8
  rfl
 ·rintro rfl
  exact⟨⟨⟨⟨⟨rfl,rfl⟩,rfl,rfl⟩,rfl⟩,rfl⟩,rfl,rfl⟩
theorem W8:∀{a b:List AG},Aew a b=true↔a=b
 | [],[]=>by simp[Aew]
 | [],_::_=>by simp[Aew]
 |_::_,[]=>by simp[Aew]
 |x::xs,y::ys=>by
  unfold Aew
  rw[Bool.and_eq_true,Anb,W8]
  simp
theorem A6p {a b:AW}:Aiv a b=true↔a=b:=by
 unfold Aiv
 rw[Bool.and_eq_true,beq_iff_eq,W8]
 cases a;cases b
 simp
theorem Bg6:∀(a b:List AG),a.length=b.length→Aew a b=JL a.length (fun i=>eqC (a.getD i (Ao TC.cell)) (b.getD i (Ao TC.cell))):=fun a b h=>by
 rw[Bool.eq_iff_iff,W8,Fp]
 constructor
 ·rintro rfl i _
  exact Anb.2 rfl
 ·intro g
  refine List.ext_getElem h fun i h1 h2=>?_
  have:=Anb.1 (g i h1)
  rw[List.getD_eq_getElem?_getD,List.getD_eq_getElem?_getD,List.getElem?_eq_getElem h1,List.getElem?_eq_getElem h2] at this
  exact this
def V8 (a0 a1:AG):Bool:=a0.1.1==a1.1.1&&a0.1.2==a1.1.2&&(a0.2.1==a1.2.1&&a0.2.2==a1.2.2)&&a0.3==a1.3&&a0.4.toList==a1.4.toList&&(a0.5.1==a1.5.1&&a0.5.2==a1.5.2)
def Aha (a0 a1:AG):A:=.v (.bool (V8 a0 a1))
def Atz (_a0 _a1:AG):List Prop:=[]
theorem Axp (a0 a1:AG) (hp:∀p∈Atz a0 a1,p):Ax Bb 69 [AX .cell a0,AX .cell a1] 0 [] 1 (Aha a0 a1) 0 []:=Bh (u:=9) (AU Ci.2 A9) (by kernel_rfl) hp
def Aa4 (a0 a1:AG):A:=.v (.bool (eqC a0 a1))
def XL (_a0 _a1:AG):List Prop:=[]
theorem Aty (a0 a1:AG) (_hp:∀p∈XL a0 a1,p):Ax Bb 69 [AX .cell a0,AX .cell a1] 0 [] 1 (Aa4 a0 a1) 0 []:=by
 have h:=Axp a0 a1 (fun _ h=>by cases h)
 have e:V8 a0 a1=eqC a0 a1:=by unfold V8;rw[tlb];rfl
 unfold Aha at h
 rw[e] at h
 exact h
theorem Aoo:IE Bb 69 (Et [.t .cell,.t .cell] 0 Aa4 (fun _ _=>[]) XL):=A8 Aty
def A4x:=Gi Aoo Ci
abbrev CJ:Type:=Int×AW×AW
def Ajl (x:CJ):St:=⟨39,2,[(2,.own 0 0),(3,.own 1 0),(5,iV (x.1))],[(0,some (.box 60 [.v (.string x.2.1.key),.sl .cell x.2.1.cells])),(1,some (.box 60 [.v (.string x.2.2.key),.sl .cell x.2.2.cells]))]⟩
def SP:St→Option CJ
 |⟨39,2,[(2,.own 0 0),(3,.own 1 0),(5,.v (.int .i64 z0))],[(0,some (.box 60 [.v (.string z1),.sl .cell z2])),(1,some (.box 60 [.v (.string z3),.sl .cell z4]))]⟩=>some (z0,⟨z1,z2⟩,⟨z3,z4⟩)
 |_=>none
def Ajk:E2:=⟨2,2,[2,3,5],[],[(0,0),(1,1)],[0,1],[4],[0,1]⟩
def Ajj:Fz:=⟨[],[(0,0),(1,1)],[2,3,5],[0,1]⟩
def Hh (a0:Int) (a1:AW):Bool:=!!decide (a0 <(a1.2.length:Int))
def DF (a0:Int) (a1 a2:AW):Bool:=(Hh a0 a1)&&!eqC (a1.2.getD a0.toNat (Ao TC.cell)) (a2.2.getD a0.toNat (Ao TC.cell))
def Acx (a0:Int) (a1 a2:AW):Bool:=(Hh a0 a1)&&!(DF a0 a1 a2)
def FQ (x:CJ):CJ:=(IntKind.i64.wrap (x.1+1),x.2.1,x.2.2)
def FP (x:CJ):DB:=some (Acx x.1 x.2.1 x.2.2)
def Rn:CJ→List Prop
  |(a0,a1,a2)=>[((Hh a0 a1)=true→0≤a0∧a0 <(a1.2.length:Int)),((Hh a0 a1)=true→0≤a0∧a0 <(a2.2.length:Int))]
abbrev Ib:CJ→List Prop:=Rn
def Zw:CJ→BG
  |(a0,a1,a2)=>[(some 0,some (!decide (a0 <(a1.2.length:Int))),⟨39,2,[(4,.dead)],[(0,some (.box 60 [.v (.string a1.1),.sl .cell a1.2])),(1,some (.box 60 [.v (.string a2.1),.sl .cell a2.2]))]⟩),(none,some ((DF a0 a1 a2)),⟨39,2,[(4,.v (.bool (false)))],[(0,some (.box 60 [.v (.string a1.1),.sl .cell a1.2])),(1,some (.box 60 [.v (.string a2.1),.sl .cell a2.2]))]⟩)]
def FO (x:CJ):Nat:=((x.2.1.2.length:Int) - x.1).toNat
def Acz (x:CJ):CJ:=Bj FQ FP (FO x) x
def Acy:=Jg (CP A4x.1 L0) (AQ Bb 55 0) Ajk Ajj SP FO FQ FP Ib Zw
def US:=WA 0 (g:=Acy) (CR (T:=Ajl) (psA:=Rn) A4x.2 A9 (u:=9) (by kernel_rfl) (by decide) (fun⟨a0,a1,a2⟩=>by kernel_rfl) (fun _ h=>h) (fun s x h=>by unfold SP at h;split at h<;>first|(cases h;rfl)|cases h) (fun _=>Bm (n:=39) rfl) fun _ _=>rfl) ⟨L0,A9⟩
def Ia (a0 a1:AW):CJ:=Acz (0,a0,a1)
def H9 (a0 a1:AW):Bool:=!a0.1.toList==a1.1.toList||(a0.2.length:Int) !=(a1.2.length:Int)
def Wa (a0 a1:AW):Bool:=bif(H9 a0 a1) then false else bif DF (Ia a0 a1).1 (Ia a0 a1).2.1 (Ia a0 a1).2.2 then false else true
def Wb (a0 a1:AW):A:=.v (.bool (Wa a0 a1))
def Aa7 (a0 a1:AW):List Prop:=[((!(H9 a0 a1))=true→A3 FQ FP Ib (FO (0,a0,a1)) (0,a0,a1))]
theorem At2 (a0 a1:AW):Tx (CP A4x.1 US.1) 9 55 [AX .row a0,AX .row a1] 0 []=some (1,Wb a0 a1,0,[],[((!(H9 a0 a1))=true→AQ Bb (55:FuncId) 0=AQ Bb (55:FuncId) 0),((!(H9 a0 a1))=true→A3 FQ FP Ib (FO (0,a0,a1)) (0,a0,a1))]):=by kernel_rfl
theorem Axs (a0 a1:AW) (hp:∀p∈Aa7 a0 a1,p):Ax Bb 55 [AX .row a0,AX .row a1] 0 [] 1 (Wb a0 a1) 0 []:=
  Bh (AU A4x.2 US.2) (At2 a0 a1) (Aa (by intros;rfl) (nT hp fun _=>An))
def Aa8 (a0 a1:AW):A:=.v (.bool (Aiv a0 a1))
def XN (a0 _a1:AW):List Prop:=[Ai a0.cells.length]
theorem Aa6 (a b:AW) (hb:Ai a.cells.length):(∀p∈Aa7 a b,p)∧Wa a b=Aiv a b:=by
 unfold Ai at hb
 have bu:H9 a b=(!(a.key==b.key)||a.cells.length !=b.cells.length):=by
  show(!(a.key.toList==b.key.toList)||((a.cells.length:Int) !=(b.cells.length:Int)))=_
  rw[tlb]
  congr 1
  rw[Bool.eq_iff_iff,bne_iff_ne,bne_iff_ne];omega
 have main:H9 a b=false→A3 FQ FP Ib (FO (0,a,b)) (0,a,b)∧DF (Ia a b).1 (Ia a b).2.1 (Ia a b).2.2=!Aew a.cells b.cells:=fun h0=>by
  rw[bu] at h0
  have hlen:a.cells.length=b.cells.length:=by simpa using(Bool.or_eq_false_iff.1 h0).2
  have hf:∀i:Nat,DF (i:Int) a b=(decide (i <a.cells.length)&&!eqC (a.2.getD i (Ao TC.cell)) (b.2.getD i (Ao TC.cell))):=fun i=>by
   unfold DF Hh
   rw[nn,Ux,Int.toNat_natCast]
  obtain⟨h1,k,hk,hx,_,_,aq⟩:=Abm (fun i=>(((i:Int),a,b):CJ)) a.cells.length (fun i=>!eqC (a.2.getD i (Ao TC.cell)) (b.2.getD i (Ao TC.cell))) FQ FP Ib (FO (0,a,b)) (0,a,b) rfl (by show a.cells.length≤((a.cells.length:Int) - 0).toNat;omega)
   (fun i _ _=>by
    show((!!decide ((i:Int) <(a.cells.length:Int)))&&!DF i a b)=_
    rw[hf,nn,Ux]
    cases decide (i <a.cells.length)<;>rfl)
   (fun i hi _=>by
    show(IntKind.i64.wrap ((i:Int)+1),a,b)=(((i+1:Nat):Int),a,b)
    rw[JK (by omega)])
   (fun i _ _=>by
    have ar:(!!decide ((i:Int) <(a.cells.length:Int)))=true→(i:Int) <(a.cells.length:Int):=fun h=>by rw[nn] at h;exact of_decide_eq_true h
    exact Aa (fun h=>⟨by show(0:Int)≤(i:Int);omega,ar h⟩) (Aa (fun h=>⟨by show(0:Int)≤(i:Int);omega,by have:=ar h;show(i:Int) <(b.cells.length:Int);omega⟩) An))
  refine⟨h1,?_⟩
  have hr:Ia a b=((k:Int),a,b):=hx
  rw[hr]
  show DF (k:Int) a b=_
  rw[hf,aq,Bg6 _ _ hlen]
  congr 1
  exact LR fun i _=>Bool.not_not _
 refine⟨Aa (fun h=>(main (by simpa using h)).1) An,?_⟩
 unfold Wa Aiv
 cases h0:H9 a b with
 | true=>
  rw[bu] at h0
  rw[cond_true]
  cases hk:a.key==b.key with
  |false=>rfl
  |true=>
   rw[hk] at h0
   have ao:a.cells.length≠b.cells.length:=by simpa using h0
   cases he:Aew a.cells b.cells with
   |false=>rfl
   |true=>exact absurd (congrArg List.length (W8.1 he)) ao
 |false=>
  rw[cond_false,(main h0).2]
  rw[bu] at h0
  have:(a.key==b.key)=true:=by simpa using(Bool.or_eq_false_iff.1 h0).1
  rw[this,Bool.true_and]
  cases Aew a.cells b.cells<;>rfl
theorem At1 (a0 a1:AW) (hp:∀p∈XN a0 a1,p):Ax Bb 55 [AX .row a0,AX .row a1] 0 [] 1 (Aa8 a0 a1) 0 []:=by
 have hb:Ai a0.cells.length:=hp _ (List.mem_cons_self ..)
 have h:=Axs a0 a1 (Aa6 a0 a1 hb).1
 unfold Wb at h
 rw[(Aa6 a0 a1 hb).2] at h
 exact h
theorem Aos:IE Bb 55 (Et [.t .row,.t .row] 0 Aa8 (fun _ _=>[]) XN):=A8 At1
def A4y:=Gi Aos A4x
abbrev CK:Type:=(List AG)×Int×Int
def Ajr (x:CK):St:=⟨16,1,[(6,.sl .cell x.1),(7,iV (x.2.1)),(8,iV (x.2.2))],[]⟩
def SX:St→Option CK
 |⟨16,1,[(6,.sl .cell z0),(7,.v (.int .i64 z1)),(8,.v (.int .i64 z2))],[]⟩=>some (z0,z1,z2)
 |_=>none
def Ajq:E2:=⟨1,1,[6,7,8],[],[],[],[2],[]⟩
def Ajp:Fz:=⟨[],[],[6,7,8],[]⟩
def EB (a0:List AG) (a1 a2:Int):Bool:=!!decide (a2 <a1)&&!((a0.getD a2.toNat (Ao TC.cell)).1.1==0&&(a0.getD a2.toNat (Ao TC.cell)).1.2==0&&((a0.getD a2.toNat (Ao TC.cell)).2.1==0&&(a0.getD a2.toNat (Ao TC.cell)).2.2==0&&((a0.getD a2.toNat (Ao TC.cell)).3==false&&((a0.getD a2.toNat (Ao TC.cell)).4.toList==(ByteArray.mk #[]).toList&&((a0.getD a2.toNat (Ao TC.cell)).5.1==0&&(a0.getD a2.toNat (Ao TC.cell)).5.2==0)))))
def Ac7 (a0:List AG) (a1 a2:Int):Bool:=!!decide (a2 <a1)&&!(EB a0 a1 a2)
def Hk (x:CK):CK:=(x.1,x.2.1,IntKind.i64.wrap (x.2.2+1))
def Hj (x:CK):DB:=some (Ac7 x.1 x.2.1 x.2.2)
def Rr (x:CK):List Prop:=[((!!decide (x.2.2 <x.2.1))=true→0≤x.2.2∧x.2.2 <(x.1.length:Int))]
abbrev J4:CK→List Prop:=Rr
def Zz (x:CK):BG:=[(some 0,some (!decide (x.2.2 <x.2.1)),⟨16,1,[(2,.dead)],[]⟩),(none,some ((EB x.1 x.2.1 x.2.2)),⟨16,2,[(2,.v (.bool (false)))],[]⟩)]
def Hi (x:CK):Nat:=(x.2.1 - x.2.2).toNat
def Ac9 (x:CK):CK:=Bj Hk Hj (Hi x) x
def Ac8:=Jg (CP A4y.1 L0) (AQ Bb 61 0) Ajq Ajp SX Hi Hk Hj J4 Zz
def UV:=WA 0 (g:=Ac8) (CR (T:=Ajr) (psA:=Rr) A4y.2 A9 (u:=9) (by kernel_rfl) (by decide) (fun⟨a0,a1,a2⟩=>by kernel_rfl) (fun _ h=>h) (fun s x h=>by unfold SX at h;split at h<;>first|(cases h;rfl)|cases h) (fun _=>Bm (n:=16) rfl) fun _ _=>rfl) ⟨L0,A9⟩
def Oa (a0:AW):CK:=Ac9 (a0.2,(a0.2.length:Int),0)
def Wg (a0:AW):Bool:=bif EB (Oa a0).1 (Oa a0).2.1 (Oa a0).2.2 then false else true
def Wh (a0:AW):A:=.v (.bool (Wg a0))
def Abe (a0:AW):List Prop:=[(A3 Hk Hj J4 (Hi (a0.2,(a0.2.length:Int),0)) (a0.2,(a0.2.length:Int),0))]
theorem Auf (a0:AW):Tx (CP A4y.1 UV.1) 9 61 [AX .row a0] 0 []=some (1,Wh a0,0,[],[(AQ Bb (61:FuncId) 0=AQ Bb (61:FuncId) 0),(A3 Hk Hj J4 (Hi (a0.2,(a0.2.length:Int),0)) (a0.2,(a0.2.length:Int),0))]):=by kernel_rfl
theorem Ax5 (a0:AW) (hp:∀p∈Abe a0,p):Ax Bb 61 [AX .row a0] 0 [] 1 (Wh a0) 0 []:=
  Bh (AU A4y.2 UV.2) (Auf a0) (Aa rfl (nT hp fun _=>An))
def Abf (a0:AW):A:=.v (.bool (Up a0))
def XX (a0:AW):List Prop:=[Ai a0.cells.length]
theorem Abd (a:AW) (hb:Ai a.cells.length):(∀p∈Abe a,p)∧Wg a=Up a:=by
 unfold Ai at hb
 have hz:∀c:AG,(c.1.1==(0:Int)&&c.1.2==(0:Int)&&(c.2.1==(0:Int)&&c.2.2==(0:Int)&&(c.3==false&&(c.4.toList==(ByteArray.mk #[]).toList&&(c.5.1==(0:Int)&&c.5.2==(0:Int))))))=eqC c Tn:=fun c=>by
  rw[tlb]
  unfold eqC Tn
  simp only[Bool.and_assoc]
 have hf:∀i:Nat,EB a.2 (a.2.length:Int) (i:Int)=(decide (i <a.cells.length)&&!eqC (a.2.getD i (Ao TC.cell)) Tn):=fun i=>by
  unfold EB
  rw[nn,Ux,Int.toNat_natCast,hz]
 obtain⟨h1,k,hk,hx,_,_,aq⟩:=Abm (fun i=>((a.2,(a.2.length:Int),(i:Int)):CK)) a.cells.length (fun i=>!eqC (a.2.getD i (Ao TC.cell)) Tn) Hk Hj J4 (Hi (a.2,(a.2.length:Int),0)) (a.2,(a.2.length:Int),0) rfl (by show a.cells.length≤((a.cells.length:Int) - 0).toNat;omega)
  (fun i _ _=>by
   show((!!decide ((i:Int) <(a.cells.length:Int)))&&!EB a.2 (a.2.length:Int) i)=_
   rw[hf,nn,Ux]
   cases decide (i <a.cells.length)<;>rfl)
  (fun i hi _=>by
   show(a.2,(a.2.length:Int),IntKind.i64.wrap ((i:Int)+1))=(a.2,(a.2.length:Int),((i+1:Nat):Int))
   rw[JK (by omega)])
  (fun i _ _=>Aa (fun h=>⟨by show(0:Int)≤(i:Int);omega,by
   have h':(!!decide ((i:Int) <(a.cells.length:Int)))=true:=h
   rw[nn] at h';exact of_decide_eq_true h'⟩) An)
 refine⟨Aa h1 An,?_⟩
 have hr:Oa a=(a.2,(a.2.length:Int),(k:Int)):=hx
 unfold Wg
 rw[hr]
 show(bif EB a.2 (a.2.length:Int) (k:Int) then false else true)=_
 rw[hf,aq]
 unfold Up
 rw[Bey a.cells (Ao TC.cell)]
 rw[show JL a.cells.length (fun i=>!!eqC (a.2.getD i (Ao TC.cell)) Tn)=JL a.cells.length (fun i=>eqC (a.cells.getD i (Ao TC.cell)) Tn) from LR fun i _=>Bool.not_not _]
 cases JL a.cells.length (fun i=>eqC (a.cells.getD i (Ao TC.cell)) Tn)<;>rfl
theorem Aue (a0:AW) (hp:∀p∈XX a0,p):Ax Bb 61 [AX .row a0] 0 [] 1 (Abf a0) 0 []:=by
 have hb:Ai a0.cells.length:=hp _ (List.mem_cons_self ..)
 have h:=Ax5 a0 (Abd a0 hb).1
 unfold Wh at h
 rw[(Abd a0 hb).2] at h
 exact h
theorem Ao4:IE Bb 61 (Et [.t .row] 0 Abf (fun _=>[]) XX):=A8 Aue
def Blu:=Gi Ao4 A4y
abbrev Cj:=Blu
abbrev Ck:=Cj
theorem TD {l:List Ae} {r:AW} (h:BJ l r=0):A1 l=0∧r.cells.length=l.length∧r.key.size≠0∧r.key.size≤32∧(l.zip r.cells).all (fun x=>HI x.1.policy x.2)=true:=by
 unfold BJ at h
 cases h1:A1 l !=0 with
 |true=>rw[h1,cond_true] at h;rw[h] at h1;cases h1
 | false=>
  rw[h1,cond_false] at h
  cases h2:r.key.size==0 with
  |true=>rw[h2] at h;cases h
  | false=>
   rw[h2,cond_false] at h
   cases h3:decide (32 <r.key.size) with
   |true=>rw[h3] at h;cases h
   | false=>
    rw[h3,cond_false] at h
    cases h4:r.cells.length !=l.length with
    |true=>rw[h4] at h;cases h
    | false=>
     rw[h4,cond_false] at h
     cases h5:(l.zip r.cells).all (fun x=>HI x.1.policy x.2) with
     |false=>rw[h5] at h;cases h
     |true=>
      have:=of_decide_eq_false h3
      exact⟨by simpa using h1,by simpa using h4,by simpa using h2,by omega,rfl⟩
abbrev Cl:=Ck
end Go.Proofs.YtifkbgkbajncjaaDoor
namespace Go.Proofs.YtifkbgkbajncjaaDoor
open Go.RowKit Go.Shelf
attribute [local go_sem] Oper.semAt_some
def MS (base:Nat) (W:World) (y:Value) (bs:Ak):Prop:=K7 W 5 1 y bs.length (bs.map Bt)∧∀g,FA y=some g→base≤g
theorem MS.keep {base:Nat} {W W':World} {y:Value} {bs:Ak} (h:MS base W y bs) (hk:∀g,base≤g→FA y=some g→W'.heap[g]?=W.heap[g]?):MS base W' y bs:=⟨h.1.keep fun g hg=>hk g (h.2 g hg) hg,h.2⟩
theorem MS.mono {b b':Nat} {W:World} {y:Value} {bs:Ak} (h:MS b W y bs) (hb:b'≤b):MS b' W y bs:=⟨h.1,fun g hg=>Nat.le_trans hb (h.2 g hg)⟩
theorem A8b (b0 b:Nat) (t:TypeId) (f:List (Ae×AG)→Ak):Own (fun s W=>∃y,W.heap[b0]?=some (.cells #[y] t (0,0))∧MS b W y (f s)):=fun s W W' row ⟨y,h1,h2⟩ hg hr=>by
 have key:∀(g:Nat) (o:Obj),W.heap[g]?=some o→o.isCells=true→W'.heap[g]?=W.heap[g]?:=fun g o ho hc=>by
  refine hg.block g (Fw ho) fun e=>?_
  obtain⟨o',h3,h4⟩:=hr g e.symm
  rw[ho] at h3
  cases h3
  rw[hc] at h4
  cases h4
 refine⟨y,(key b0 _ h1 rfl).trans h1,h2.keep fun g _ gi=>?_⟩
 rcases h2.1.2 with⟨a,e1,_⟩|⟨g',cap,cur,e1,e3,_⟩
 ·rw[e1] at gi;cases a<;>cases gi
 ·rw[e1] at gi
  cases gi
  exact key _ _ e3 rfl
theorem MS.form {base:Nat} {W:World} {y:Value} {bs:Ak} (h:MS base W y bs):∃a n c,y=.slice a n c:=by
 obtain⟨a,c,e,_⟩:=h.1.form
 exact⟨a,_,c,e⟩
theorem KB.setCell {n₀ X:Nat} (W:World) (v:Value):KB n₀ X W (W.setCell ⟨X,0,none⟩ v):=
 ⟨rfl,rfl,rfl,by rw[X1];exact Nat.le_refl _,fun k _ hk=>Below.heap_setCell W ⟨X,0,none⟩ v k hk⟩
theorem Ar6 {α:Type} (F:α→Ak) (n:Nat) (h:∀x,(F x).length≤n):∀l:List α,(l.flatMap F).length≤l.length*n
 | []=>by simp
 |x::r=>by
  have:=Ar6 F n h r
  have:=h x
  rw[List.flatMap_cons,List.length_append,List.length_cons,Nat.succ_mul]
  omega
set_option maxHeartbeats 1000000 in
theorem Ayb (w:World) (a0 a1:Option Addr) (gs:List Ae) (cs:List AG) (key:ByteArray) (ay aw na dy:Nat) (ab:Option Addr) (b0:Ak) (pc:Int→AG→Ak) (Nx:Nat) (zb:∀q c,(pc q c).length≤Nx) (xj:∀W,Below w.heap.size w W→Calls Tryd.prog 40 #[.slice a0 gs.length ay,.agg #[.string key,.slice a1 cs.length aw]] W fun e W'=>e=.returned (.int .i64 0)∧Below W.heap.size W W') (_hl1:1≤gs.length) (jt:gs.length≤4) (fw:Nat.beq cs.length gs.length=true) (xn:∀W,Below w.heap.size w W→Calls Tryd.prog 39 #[.slice ab na dy,.string key] W fun e W'=>∃y,e=.returned y∧Below W.heap.size W W'∧MS W.heap.size W' y b0) (xf:∀W v bs q c base,Below w.heap.size w W→MS base W v bs→bs.length≤b0.length+4*Nx→Calls Tryd.prog 42 #[v,.int .i64 q,cV c] W fun e W'=>∃y,e=.returned y∧Below W.heap.size W W'∧MS W.heap.size W' y (bs++pc q c)) (hG:0 <gs.length→∃b off,a0=some ⟨b,off,none⟩∧Aik w.heap.size w.heap.size w b off gs) (hS:0 <cs.length→∃b off,a1=some ⟨b,off,none⟩∧Aij w.heap.size w.heap.size w b off cs):
  Calls Tryd.prog 17 #[.slice ab na dy,.slice a0 gs.length ay,.agg #[.string key,.slice a1 cs.length aw]] w fun e W'=>∃y,e=.returned y∧Below w.heap.size w W'∧MS w.heap.size W' y (b0++(gs.zip cs).flatMap (fun x=>pc x.1.policy x.2)):=by
 refine(callsIn_wide (n:=5)).1 ?_
 refine callsIn_of_wp_marks Tryd.func17 rfl trivial ?_ rfl
 simp only[Tryd.ntmps17,List.size_toArray,List.length_cons,List.length_nil,Nat.reduceAdd,Nat.reduceSub,Array.replicate_succ,Array.replicate_zero,List.push_toArray,List.append_toArray,List.nil_append,List.cons_append]
 have hw2:Below w.heap.size w ((w.alloc (.cells #[.slice ab na dy] 35)).alloc (.cells #[.string key,.slice a1 cs.length aw] 60)):=((Below.refl _ w).alloc (Nat.le_refl _) _).alloc (by simp) _
 have kn:=LJ (.cells #[.string key,.slice a1 cs.length aw] 60) (Gj (w:=w) (.cells #[.slice ab na dy] 35) rfl)
 have i7:=Gj (w:=w.alloc (.cells #[.slice ab na dy] 35)) (.cells #[.string key,.slice a1 cs.length aw] 60) (n:=w.heap.size+1) (by simp)
 obtain⟨k0,k1⟩:=cb2 i7
 have k2:=cb1 kn
 gi_wp2_with (first
  |(refine⟨trivial,?_⟩;gi_at_call 40;refine(callsIn_wide.2 (xj _ hw2)).mono ?_;rintro e W1 ⟨rfl,hb1⟩;have hx1:=DC kn hb1;have df:=DC i7 hb1;have d0:=cb1 hx1;have f0:=fb1 hx1;obtain⟨c0,c1⟩:=cb2 df;have hB1:Below w.heap.size w W1:=hw2.trans (hb1.mono (by simp;omega));clear kn i7 hb1 k0 k1 k2)
  |(refine⟨trivial,?_⟩;gi_at_call 39;refine(callsIn_wide.2 (xn _ hB1)).mono ?_;rintro e W2 ⟨y0,rfl,hb2,hy0⟩;obtain⟨ya,yc,rfl,hyc⟩:=hy0.1.form;have j4:=DC hx1 hb2;have mz:=DC df hb2;have d2:=cb1 j4;have f2:=fb1 j4;obtain⟨c2,c3⟩:=cb2 mz;have hB2:Below w.heap.size w W2:=hB1.trans (hb2.mono hB1.size);clear d0 f0 c0 c1)
  |(refine⟨trivial,?_⟩;gi_at_call 41;refine(Atk _ _ _ _ _ _ _).mono ?_;rintro e W3 ⟨rfl,rfl⟩))
 have hlen:cs.length=gs.length:=Nat.eq_of_beq_eq_true fw
 have ta:=Mz (i:=0) j4 (.slice ya b0.length yc)
 have o9:=Bdg mz (p:=⟨w.heap.size,0,none⟩) (by simp) (.slice ya b0.length yc)
 have hB3:Below w.heap.size w (W2.setCell ⟨w.heap.size,0,none⟩ (.slice ya b0.length yc)):=hB2.setCell (p:=⟨w.heap.size,0,none⟩) (Nat.le_refl _) _
 have i9:=Fw df
 have mv:=Fw o9
 have hyo:MS (w.heap.size+1) (W2.setCell ⟨w.heap.size,0,none⟩ (.slice ya b0.length yc)) (.slice ya b0.length yc) b0:=(hy0.mono (Nat.le_of_lt i9)).keep fun g hg _=>Below.heap_setCell W2 ⟨w.heap.size,0,none⟩ _ g (by simp;omega)
 have uo:(W2.setCell ⟨w.heap.size,0,none⟩ (.slice ya b0.length yc)).heap.size=W2.heap.size:=X1 _ _ _
 rw[←uo]
 generalize W2.setCell ⟨w.heap.size,0,none⟩ (.slice ya b0.length yc)=V at ta o9 hB3 mv hyo⊢
 clear uo
 clear j4 mz d2 f2 c2 c3 hx1 df hb2 hy0
 obtain⟨b,off,rfl,hg⟩:=hG (by omega)
 obtain⟨b',ax,rfl,hc⟩:=hS (by omega)
 have hW2:Below V.heap.size V ((V.alloc (.cells #[.slice (some ⟨b,off,none⟩) gs.length ay] 22)).alloc (.cells #[.string key,.slice (some ⟨b',ax,none⟩) cs.length aw] 60)):=((Below.refl _ V).alloc (Nat.le_refl _) _).alloc (by simp) _
 have s5:=LJ (.cells #[.string key,.slice (some ⟨b',ax,none⟩) cs.length aw] 60) (Gj (w:=V) (.cells #[.slice (some ⟨b,off,none⟩) gs.length ay] 22) rfl)
 have s6:=Gj (w:=V.alloc (.cells #[.slice (some ⟨b,off,none⟩) gs.length ay] 22)) (.cells #[.string key,.slice (some ⟨b',ax,none⟩) cs.length aw] 60) (n:=V.heap.size+1) (by simp)
 have j4:=DC ta hW2
 have zj:=Fw s6
 have hB4:=hB3.trans (hW2.mono hB3.size)
 have pb:MS (w.heap.size+1) ((V.alloc (.cells #[.slice (some ⟨b,off,none⟩) gs.length ay] 22)).alloc (.cells #[.string key,.slice (some ⟨b',ax,none⟩) cs.length aw] 60)) (.slice ya b0.length yc) b0:=hyo.keep fun g _ gi=>hW2.block g (hyo.1.lt gi)
 clear hyo i9
 rw[show V.heap.size=V.heap.size from rfl] at s5
 generalize hVW:(V.alloc (.cells #[.slice (some ⟨b,off,none⟩) gs.length ay] 22)).alloc (.cells #[.string key,.slice (some ⟨b',ax,none⟩) cs.length aw] 60)=W2 at hW2 s5 s6 j4 zj hB4 pb⊢
 have hlt0:=Fw ta
 have mn:Aik W2.heap.size w.heap.size W2 b off gs:=⟨⟨by have:=hg.1.1;omega,by have:=hg.1.1;omega⟩,fun j g hj=>⟨(hB4.cell (p:=⟨b,_,none⟩) hg.1.1).trans (hg.2 j g hj).1,(hB4.cell (p:=⟨b,_,none⟩) hg.1.1).trans (hg.2 j g hj).2⟩⟩
 have p9:Aij W2.heap.size w.heap.size W2 b' ax cs:=by
  refine⟨⟨by have:=hc.1.1;omega,by have:=hc.1.1;omega⟩,fun j c hj=>?_⟩
  have k:∀o,W2.cell? ⟨b',o,none⟩=w.cell? ⟨b',o,none⟩:=fun o=>hB4.cell (p:=⟨b',o,none⟩) hc.1.1
  simp only[k]
  exact hc.2 j c hj
 refine wpIn_rangeFunc_ownH (F:=Fence.wide) rfl (by omega) (gf:=63) (lb:=#[.pointer (some ⟨V.heap.size,0,none⟩),.pointer (some ⟨V.heap.size+1,0,none⟩)]) rfl trivial (enters_of Tryd.func63 (by kernel_rfl) rfl)
  (Aaz _ (by omega) V.heap.size (V.heap.size+1) W2.heap.size w.heap.size b off ay b' ax aw gs cs hlen jt W2 (Nat.le_refl _) (cb1 s5) (cb2 s6).2 ⟨by omega,by omega⟩ ⟨by omega,by omega⟩ mn p9)
  KB.trans (KB.putObj (Nat.le_refl _)) (Below.refl _ _) (fun _=>rfl)
  (fun pre W=>(∃y,W.heap[w.heap.size]?=some (.cells #[y] 35 (0,0))∧MS (w.heap.size+1) W y (b0++pre.flatMap (fun x=>pc x.1.policy x.2)))∧Below w.heap.size w W∧W2.heap.size≤W.heap.size)
  (fun _ _ _=>False)
  (OwnFrom.and (Own.from (A8b w.heap.size (w.heap.size+1) 35 (fun pre=>b0++pre.flatMap (fun x=>pc x.1.policy x.2))) _) (OwnFrom.and (ownFrom_below (Nat.le_refl _) hB4.size) (QG _ _)))
  (fun _ _ _ _ _ hs _ _=>hs)
  ⟨⟨_,j4,by simpa using pb⟩,hB4,Nat.le_refl _⟩
  (fun x a' W=>(∃B6 B7,a'={tmps:=#[Value.slice ab na dy,Value.slice (some ⟨b,off,none⟩) gs.length ay,
     Value.agg #[Value.string key,Value.slice (some ⟨b',ax,none⟩) cs.length aw],
     Value.pointer (some {block:=w.heap.size,off:=0}),undef,
     Value.pointer (some {block:=w.heap.size+1,off:=0}),Value.slice none 0 0,Value.pointer (some ⟨B6,0,none⟩),Value.pointer (some ⟨B7,0,none⟩),
     Value.slice (some ⟨b,off,none⟩) gs.length ay,Value.agg #[Value.string key,Value.slice (some ⟨b',ax,none⟩) cs.length aw],
     Value.int IntKind.i64 0,Value.bool false,undef,undef,undef,Value.slice ab na dy,
     Value.pointer (some {block:=w.heap.size+1,off:=0}),Value.string key,Value.slice ya b0.length yc,
     Value.slice (some ⟨b,off,none⟩) gs.length ay,Value.agg #[Value.string key,Value.slice (some ⟨b',ax,none⟩) cs.length aw],
     Value.func (Fn.func 63) #[] #[Value.pointer (some {block:=V.heap.size,off:=0}),Value.pointer (some {block:=V.heap.size+1,off:=0})],
     gV x.1,cV x.2,undef,undef,undef,undef,undef,undef],defers:=[]}∧
    (W.heap[B6]?=some (.cells #[.string x.1.name,.int .i64 x.1.policy] 89 (0,0))∧W.heap[B7]?=some (.cells #[.int .i64 x.2.stamp.n,.int .i64 x.2.stamp.site,.int .i64 x.2.vec.a,.int .i64 x.2.vec.b,.bool x.2.gone,.string x.2.value,.int .i64 x.2.dead.a,.int .i64 x.2.dead.b] 87 (0,0)))))
  (fun x a'=>Own.from (fun s X Y row hs ny hr=>by
   obtain⟨B6,B7,e1,e2,e3⟩:=hs
   exact⟨B6,B7,e1,Tq B6 _ _ s X Y row e2 ny hr,Tq B7 _ _ s X Y row e3 ny hr⟩) _) ?assign ?body ?done ?stop
 case assign=>
  rintro l pre x W K ⟨⟨y,i1,i2⟩,i3,i4⟩ hK
  clear hlen fw
  dsimp only[A6e,gV,cV] at hK⊢
  gi_wp2
  have hb:Below W.heap.size W ((W.alloc (.cells #[.string x.1.name,.int .i64 x.1.policy] 89)).alloc (.cells #[.int .i64 x.2.stamp.n,.int .i64 x.2.stamp.site,.int .i64 x.2.vec.a,.int .i64 x.2.vec.b,.bool x.2.gone,.string x.2.value,.int .i64 x.2.dead.a,.int .i64 x.2.dead.b] 87)):=((Below.refl _ W).alloc (Nat.le_refl _) _).alloc (by simp) _
  exact hK _ _ (HK _ hb) (KB.of_below (hb.mono i4)) ⟨⟨y,DC i1 hb,i2.keep fun g _ gi=>hb.block g (i2.1.lt gi)⟩,i3.trans (hb.mono i3.size),Nat.le_trans i4 hb.size⟩ ⟨W.heap.size,W.heap.size+1,rfl,LJ _ (Gj _ rfl),Gj _ (by simp)⟩
 case body=>
  rintro l pre x a' W hl hr ⟨⟨y,i1,i2⟩,i3,i4⟩ ⟨B6,B7,rfl,e6,e7⟩ ae
  obtain⟨yb,ym,yd,rfl⟩:=i2.form
  obtain⟨k0,k1⟩:=cb2 e6
  obtain⟨m0,m1,m2,m3,m4,m5,m6,m7⟩:=cb8 e7
  have d0:=cb1 i1
  have fa:(b0++pre.flatMap (fun x=>pc x.1.policy x.2)).length≤b0.length+4*Nx:=by
   have:=Ar6 (fun x:Ae×AG=>pc x.1.policy x.2) Nx (fun x=>zb _ _) pre
   have h2:pre.length*Nx≤4*Nx:=Nat.mul_le_mul_right _ (by omega)
   rw[List.length_append]
   omega
  clear hlen fw
  generalize hbe:b0++pre.flatMap (fun x=>pc x.1.policy x.2)=bs at*
  gi_wp2_with (refine⟨trivial,?_⟩;gi_at_call 42;refine(CallsIn.inRound l (callsIn_wide.2 (xf _ _ bs x.1.policy x.2 _ (by first|exact i3|exact i3.trans ((Ake _ _).mono i3.size)) i2 fa))).mono ?_;rintro e W' ⟨y',rfl,hb,hy'⟩;obtain⟨ye,yn,yf,rfl⟩:=hy'.form;have q1:=DC i1 hb;have d4:=cb1 q1;have f4:=fb1 q1)
  have hw:=Fw i1
  refine⟨(HK _ hb).trans ((KeepsOthers.setCell _ _ _).from _),(KB.of_below (hb.mono i4)).trans (KB.setCell _ _),⟨_,Mz (i:=0) q1 _,?_⟩,(i3.trans (hb.mono i3.size)).setCell (p:=⟨w.heap.size,0,none⟩) (Nat.le_refl _) _,Nat.le_trans i4 (by rw[X1];exact hb.size)⟩
  rw[List.flatMap_append,←List.append_assoc,hbe]
  simp only[List.flatMap_cons,List.flatMap_nil,List.append_nil]
  exact(hy'.mono (b':=w.heap.size+1) (by omega)).keep fun g hg _=>Below.heap_setCell W' ⟨w.heap.size,0,none⟩ _ g (by simp;omega)
 case done=>
  rintro D ys W hD rfl ⟨⟨y,i1,i2⟩,i3,i4⟩ hK
  obtain⟨yb,ym,yd,rfl⟩:=i2.form
  have d0:=cb1 i1
  clear hlen fw
  gi_wp2
  refine⟨by simp,.inl ⟨_,_,rfl,run_takeDeferred hK,?_⟩⟩
  refine⟨_,results_tmp rfl _ _ _,_,rfl,i3.trans (belowK_b (w:=w) (Nat.le_refl _) W D _ _ (by have:=hB4.size;omega) hK rfl rfl),(i2.mono (Nat.le_succ _)).keep fun g _ gi=>?_⟩
  refine World.putObj_heap_other fun e=>?_
  subst e
  rcases i2.1.2 with⟨a,e1,_⟩|⟨g',cap,cur,e1,e3,_⟩
  ·rw[e1] at gi;cases a<;>cases gi
  ·rw[e1] at gi
   cases gi
   rw[hK] at e3
   cases e3
 case stop=>
  rintro D c pre W hD _ h _
  exact h.elim
end Go.Proofs.YtifkbgkbajncjaaDoor
namespace Go.Proofs.YtifkbgkbajncjaaDoor
open Go.RowKit
def Aoh (l:List Ae) (r:AW):Ak:=Hm r.key++(l.zip r.cells).flatMap (fun x=>Kf x.1.policy x.2)
def Fh (l:List Ae) (r:AW):Ak:=bif BJ l r==0 then Aoh l r else[]
def QN (a1:List Ae) (a2:AW):Bool:=BJ a1 a2 !=0
def Aln (a0:Ak):Ak:=[]++a0
def A33 (_a0:Ak) (_a1:List Ae) (_a2:AW):A:=.sq 0
def ZG (a0:Ak) (_a1:List Ae) (_a2:AW):AJ:=[(0,some (.arr 5 1 (.ty .u8 (Aln a0))))]
def Aya (a0:Ak) (a1:List Ae) (a2:AW):List Prop:=[((QN a1 a2)=true→Ai (0+a0.length)),((!(QN a1 a2))=true→Ai (a0.length+8+a2.1.size)),((!(QN a1 a2))=true→Wz 4)]
theorem A32 (a0:Ak) (a1:List Ae) (a2:AW) (hp:∀p∈Aya a0 a1 a2,p):Ax Bb 17 [AX .bytes a0,.sl .group a1,AX .row a2] 0 [] 1 (A33 a0 a1 a2) 1 (ZG a0 a1 a2):=Bh (u:=9) (AU Cl.2 A9) (by kernel_rfl) hp
def Ahp (_a0:Ak) (_a1:List Ae) (_a2:AW):A:=.sq 0
def Ky (a0:Ak) (a1:List Ae) (a2:AW):AJ:=[(0,some (.arr 5 1 (.ty .u8 (a0++Fh a1 a2))))]
def Abj (a0:Ak) (_a1:List Ae) (_a2:AW):List Prop:=[Ai (a0.length+1024)]
section
variable {F:Nat→Prop} {N:Nm} {nx:Nat} {R:World}
theorem Aki:∀{l:Ak} {zs:List Value},zs.length=l.length→(∀k,k <l.length→HL F N nx R [.v (Bt (l.getD k 0))] ((zs.drop (k*1)).take 1))→zs=l.map Bt
 | [],[],_,_=>rfl
 | [],_::_,h,_=>by cases h
 |_::_,[],h,_=>by cases h
 | x::l,z::zs,h,g=>by
  have h0:=g 0 (Nat.succ_pos _)
  obtain⟨v,vs,e1,e2,e3⟩:=h0.inv
  have hz:z=Bt x:=by
   have la:[z]=v::vs:=e1
   injection la with la _
   rw[la]
   exact e2.v_inv
  rw[List.map_cons,←hz,Aki (l:=l) (zs:=zs) (by simpa using h) fun k hk=>by
   have:=g (k+1) (Nat.succ_lt_succ hk)
   simpa[Nat.mul_one] using this]
theorem A34 {l:Ak} {k:Nat} (hk:k <l.length):HL F N nx R [.v (Bt (l.getD k 0))] (((l.map Bt).drop (k*1)).take 1):=by
 rw[Nat.mul_one,List.drop_eq_getElem_cons (by simpa using hk),List.take_succ_cons,List.take_zero,List.getElem_map,List.getD_eq_getElem?_getD,List.getElem?_eq_getElem hk]
 exact HL.cons (.v _) HL.nil
theorem MS.sl {base:Nat} {y:Value} {bs:Ak} (h:MS base R y bs) (N:Nm):(∀g,FA y=some g→g <R.heap.size)∧Hv (fun g=>FA y=some g) N 0 R (.sl .u8 bs) y:=by
 refine⟨fun g hg=>h.1.lt hg,?_⟩
 obtain⟨hl,h2⟩:=h.1
 rcases h2 with⟨a,e1,e2⟩|⟨g,cap,cur,e1,e2,e3,_,e5,e6⟩
 ·obtain rfl:bs=[]:=List.eq_nil_of_length_eq_zero e2
  rw[e1]
  exact Hv.sl_nil rfl
 ·rw[e1]
  refine Hv.of_sl e3 fun hn=>⟨⟨g,0,none⟩,rfl,?_,fun i d hd j x hx=>?_⟩
  ·obtain⟨m,hm⟩:∃m,bs.length=m+1:=⟨bs.length - 1,by omega⟩
   rw[hm]
   rfl
  ·cases j with
   |succ j=>cases hx
   |zero=>
    have hi:=(List.getElem?_eq_some_iff.1 hd).1
    have hz:(bs.map Bt)[i]?=some (Bt d):=by rw[List.getElem?_map,hd];rfl
    rw[←e6,List.getElem?_take_of_lt (by omega)] at hz
    obtain rfl:A.v (Bt d)=x:=Option.some.inj hx
    refine⟨Bt d,?_,.v _⟩
    rw[DM,C9,C8 e2]
    show cur[0+(i*1+0)]?=_
    rw[Nat.zero_add,Nat.add_zero,Nat.mul_one]
    simpa using hz
end
theorem Ax.bytes {P:Program} {f:FuncId} {args:List A} {bs:Ak} (h:Ax P f args 0 [] 1 (.sq 0) 1 [(0,some (.arr 5 1 (.ty .u8 bs)))]) {F:Nat→Prop} {N:Nm} {R:World} {vs:List Value} (hF:∀g,F g→g <R.heap.size) (ru:PV F R) (hv:HL F N 0 R args vs):
  Calls P f vs.toArray R fun e R'=>∃y,e=.returned y∧Below R.heap.size R R'∧MS R.heap.size R' y bs:=by
 refine(h F N R vs (Bi.bare hF ru) hv).mono fun e R' ⟨y,F',N',e1,h2,h3,h4,h5⟩=>⟨y,e1,h5 (Nat.le_refl _),?_⟩
 obtain rfl:y=N'.q 0:=by cases h4;rfl
 obtain⟨_,zs,g1,g2⟩:=h2.ob 0 _ rfl
 have e:zs=bs.map Bt:=Aki (F:=F') (N:=N') (nx:=1) (R:=R') (by rw[g1.1];exact Nat.mul_one _) g2
 rw[e] at g1
 refine⟨g1,fun g hg=>?_⟩
 rcases h3.foot g ⟨0,_,rfl,hg⟩ with⟨i,ob,hl,_⟩|h
 ·cases hl
 ·exact h
theorem MS.made {P:Program} {f:FuncId} {F:Nat→Prop} {N:Nm} {R:World} {vs:List Value} {bs:Ak} (hR:Bi F N 0 [] R)
  (h:Calls P f vs.toArray R fun e R'=>∃y,e=.returned y∧Below R.heap.size R R'∧MS R.heap.size R' y bs):
  Calls P f vs.toArray R fun e R'=>∃y F' N',e=.returned y∧Bi F' N' 1 [(0,some (.arr 5 1 (.ty .u8 bs)))] R'∧Step F N 0 [] R F' N' 1 [(0,some (.arr 5 1 (.ty .u8 bs)))] R'∧Hv F' N' 1 R' (.sq 0) y∧(1≤1→Below R.heap.size R R'):=by
 refine h.mono fun e R' ⟨y,e1,hb,h2,h3⟩=>⟨y,F,N.setQ 0 y,e1,?_,?_,?_,fun _=>hb⟩
 ·have hq:(N.setQ 0 y).q 0=y:=by show HN N.q 0 y 0=y;exact Cq _ _ _
  have one:∀i ob,Aq i [(0,some (Ob.arr 5 1 (.ty .u8 bs)))]=some ob→i=0∧ob=.arr 5 1 (.ty .u8 bs):=fun i ob hl=>by
   cases i with
   |zero=>cases hl;exact⟨rfl,rfl⟩
   |succ i=>cases hl
  refine⟨fun g hg=>Nat.lt_of_lt_of_le (hR.flt g hg) hb.size,fun i ob hl=>?_,fun i ob g hl hg hF=>?_,fun i j x z g hl br _ _=>(one i x hl).1.trans (one j z br).1.symm,fun x hx=>⟨(hR.gl x hx).1,by rw[hb.block _ (hR.flt _ (hR.gl x hx).1)];exact(hR.gl x hx).2⟩⟩
  ·obtain⟨rfl,rfl⟩:=one i ob hl
   exact⟨Nat.succ_pos _,bs.map Bt,by rw[hq];exact h2,fun k hk=>A34 hk⟩
  ·obtain⟨rfl,rfl⟩:=one i ob hl
   have af:FA ((N.setQ 0 y).q 0)=some g:=hg
   rw[hq] at af
   have:=hR.flt g hF
   have:=h3 g af
   omega
 ·refine⟨Nat.zero_le _,fun i hi=>absurd hi (Nat.not_lt_zero _),fun i hi=>absurd hi (Nat.not_lt_zero _),fun _ h=>h,fun _ h=> .inl h,fun g ⟨i,ob,hl,hg⟩=> .inr ?_,hb.os,hb.tape,hb.output,hb.size,fun g hg _=>hb.block g hg⟩
  cases i with
  |succ i=>cases hl
  |zero=>
   cases hl
   have af:FA ((N.setQ 0 y).q 0)=some g:=hg
   rw[show(N.setQ 0 y).q 0=y by show HN N.q 0 y 0=y;exact Cq _ _ _] at af
   exact h3 g af
 ·have hq:(N.setQ 0 y).q 0=y:=by show HN N.q 0 y 0=y;exact Cq _ _ _
  have:=Hv.sq (F:=F) (N:=N.setQ 0 y) (nx:=1) (R:=R') (i:=0) (Nat.succ_pos _)
  rw[hq] at this
  exact this
theorem A1e (p:Int) (c:AG):(Kf p c).length≤128:=by
 unfold Kf O2
 cases hg:HI p c with
 |false=>exact Nat.zero_le _
 | true=>
  have n8:=DJ (G7 c)
  have s8:=Aoi c.stamp
  have zw:=TL c.vec
  have d16:=TL c.dead
  have t8:=V6 c.value
  cases hw:D3 c with
  |false=>cases GR c.dead<;>simp only[cond_true,cond_false,List.length_append,List.length_nil]<;>omega
  |true=>
   have:=((YU.1 hg).st hw).2.2.2.1
   cases GR c.dead<;>cases c.gone<;>simp only[cond_true,cond_false,List.length_append,List.length_nil]<;>omega
theorem Ax9 (a0:Ak) (a1:List Ae) (a2:AW) (hp:∀p∈Abj a0 a1 a2,p):Ax Bb 17 [AX .bytes a0,.sl .group a1,AX .row a2] 0 [] 1 (Ahp a0 a1 a2) 1 (Ky a0 a1 a2):=by
 have hb:Ai (a0.length+1024):=hp _ (List.mem_cons_self ..)
 unfold Ai at hb
 cases hg:BJ a1 a2==0 with
 | false=>
  have hk:QN a1 a2=true:=by
   show(BJ a1 a2 !=0)=true
   simpa using hg
  have h:=A32 a0 a1 a2 (Aa (fun _=>by unfold Ai;omega) (Aa (fun h=>by rw[hk] at h;cases h) (Aa (fun h=>by rw[hk] at h;cases h) An)))
  have e:ZG a0 a1 a2=Ky a0 a1 a2:=by
   unfold ZG Ky Aln Fh
   rw[hg,cond_false,List.append_nil,List.nil_append]
  rw[e] at h
  exact h
 | true=>
  have h0:BJ a1 a2=0:=by simpa using hg
  obtain⟨h1,hlen,_,ue,_⟩:=TD h0
  obtain⟨hl1,jt⟩:=Qu h1
  intro F N R vs hR hv
  obtain⟨v,vs,rfl,ma,hv⟩:=hv.inv
  obtain⟨v0,vs,rfl,k0,hv⟩:=hv.inv
  obtain⟨v1,vs,rfl,k1,hv⟩:=hv.inv
  rw[hv.inv0]
  have hv0':=ma
  obtain⟨ab,dy,rfl,_⟩:=Hv.sl_inv (c:=.u8) (l:=a0) ma
  obtain⟨us,rfl,k2⟩:=Hv.agg_inv (xs:=[.v (.string a2.key),.sl .cell a2.cells]) k1
  obtain⟨u0,us,rfl,m0,k2⟩:=k2.inv
  obtain⟨u1,us,rfl,m1,k2⟩:=k2.inv
  obtain rfl:=k2.inv0
  obtain rfl:=m0.v_inv
  obtain⟨aa,ay,rfl,g0⟩:=Bfd hR.flt k0
  obtain⟨ac,aw,rfl,g1⟩:=Be2 hR.flt m1
  have ho:Ky a0 a1 a2=[(0,some (.arr 5 1 (.ty .u8 ((a0++Hm a2.key)++(a1.zip a2.cells).flatMap (fun x=>Kf x.1.policy x.2)))))]:=by
   unfold Ky Fh Aoh
   rw[hg,cond_true,List.append_assoc]
  rw[ho]
  refine MS.made hR (Ayb R aa ac a1 a2.cells a2.key ay aw a0.length dy ab (a0++Hm a2.key) Kf 128 A1e ?_ hl1 jt (by rw[hlen];exact KU _) ?_ ?_ g0 g1)
  ·intro W hW
   have h:Calls Tryd.prog 40 #[.slice aa a1.length ay,.agg #[.string a2.key,.slice ac a2.cells.length aw]] W fun e W'=>e=.returned (.int .i64 (BJ a1 a2))∧Below W.heap.size W W':=(Abh a1 a2 (fun _ h=>by cases h)).plain (F:=F) (N:=N) (R:=W) (vs:=[.slice aa a1.length ay,.agg #[.string a2.key,.slice ac a2.cells.length aw]]) (fun g hg=>Nat.lt_of_lt_of_le (hR.flt g hg) hW.size) (hR.grow hW).1.gl (HL.cons (k0.step (hR.grow hW).2) (HL.cons (k1.step (hR.grow hW).2) HL.nil))
   rw[h0] at h
   exact h
  ·intro W hW
   exact(Su a0 a2.key (Aa (by unfold Ai;omega) An)).bytes (F:=F) (N:=N) (R:=W) (vs:=[_,.string a2.key]) (fun g hg=>Nat.lt_of_lt_of_le (hR.flt g hg) hW.size) (hR.grow hW).1.gl (HL.cons (hv0'.step (hR.grow hW).2) (HL.cons (.v _) HL.nil))
  ·intro W v bs q c base hW ho hl
   obtain⟨f1,f2⟩:=ho.sl N
   have gW:=(hR.grow hW).1
   have f3:=f2.step (Ext.wide (F':=fun g=>F g∨FA v=some g) fun g hg=> .inr hg)
   have h8:=V6 a2.key
   rw[List.length_append] at hl
   exact(Aaf bs q c (Aa (by unfold Ai;omega) An)).bytes (F:=fun g=>F g∨FA v=some g) (N:=N) (R:=W) (vs:=[v,.int .i64 q,cV c]) (fun g hg=>hg.elim (gW.flt g) (f1 g)) (fun x hx=>⟨.inl (gW.gl x hx).1,(gW.gl x hx).2⟩) (HL.cons f3 (HL.cons (.v _) (HL.cons (.v _) HL.nil)))
theorem S0:IE Bb 17 (Et [.t .bytes,.l .group,.t .row] 1 Ahp Ky Abj):=A8 Ax9
def Blv:=Gi S0 Cl
def AN (a0 a1 a2:Int):Int:=bif decide (a0 >a2)||decide (a1 >a2)||decide (a0 >IntKind.i64.wrap (a2 - a1)) then IntKind.i64.wrap (a2+1) else IntKind.i64.wrap (a0+a1)
def A3x (a0 a1 a2:Int):A:=iV ((AN a0 a1 a2))
def Axn (_a0 _a1 _a2:Int):List Prop:=[]
theorem Atu:IE Bb 30 (Et [.t .i64,.t .i64,.t .i64] 0 A3x (fun _ _ _=>[]) Axn):=A8 fun a0 a1 a2 hp=>Bh (u:=9) (AU Blv.2 A9) (by kernel_rfl) hp
theorem Bf7 {n k m:Int} (_hn:0≤n) (_hk:0≤k∧k≤9223372036854775807) (_hm:0≤m∧m≤1099511627776):(AN n k m≤m→n+k≤m)∧0≤AN n k m∧(n+k≤m→AN n k m=n+k):=by
 unfold AN
 rw[i64_in (n:=m - k) (by omega),i64_in (n:=m+1) (by omega)]
 by_cases h:n+k≤m
 ·have e:(decide (n >m)||decide (k >m)||decide (n >m - k))=false:=by
   rw[decide_eq_false (by omega),decide_eq_false (by omega),decide_eq_false (by omega)];rfl
  rw[e,cond_false,i64_in (by omega)]
  exact⟨fun _=>h,by omega,fun _=>rfl⟩
 ·have e:(decide (n >m)||decide (k >m)||decide (n >m - k))=true:=by
   rw[decide_eq_true (p:=n >m - k) (by omega),Bool.or_true]
  rw[e,cond_true]
  exact⟨fun h'=>by omega,by omega,fun h'=>absurd h' h⟩
theorem Al0 {k:Nat} (h:AT k):(0:Int)≤(k:Int)∧(k:Int)≤9223372036854775807:=by unfold AT at h;omega
def Ahu (m:Nat) (r:AW):Prop:=r.key.size≤m∧r.cells.length≤m∧∀c∈r.cells,c.value.size≤m
def U3 (r:AW):Prop:=AT r.key.size∧AT r.cells.length∧∀c∈r.cells,AT c.value.size
theorem getD_in {α:Type} (l:List α) (d:α) (i:Nat) (h:i <l.length):l.getD i d∈l:=by
 rw[List.getD_eq_getElem?_getD,List.getElem?_eq_getElem h]
 exact List.getElem_mem h
abbrev Ce:=Cf
abbrev Cg:=Ce
def ltS (a b:ByteArray):Bool:=Op.bytesLess a.toList b.toList
theorem WF:∀x:Ak,Op.bytesLess x x=false
 | []=>rfl
 |a::x=>by
  unfold Op.bytesLess
  rw[WF x]
  simp
theorem Z8:∀{x y z:Ak},Op.bytesLess x y=true→Op.bytesLess y z=true→Op.bytesLess x z=true
 |x,[],_,h,_=>by cases x<;>cases h
 |_,_::_,[],_,h=>by cases h
 | [],_::_,_::_,_,_=>rfl
 |a::x,b::y,c::z,h,g=>by
  unfold Op.bytesLess at*
  simp only[Bool.or_eq_true,decide_eq_true_eq,Bool.and_eq_true,beq_iff_eq] at*
  rcases h with h|⟨rfl,h⟩<;>rcases g with g|⟨rfl,g⟩
  ·exact .inl (UInt8.lt_trans h g)
  ·exact .inl h
  ·exact .inl g
  ·exact .inr ⟨rfl,Z8 h g⟩
theorem Z7:∀{x y:Ak},Op.bytesLess x y=false→x≠y→Op.bytesLess y x=true
 | [],[],_,h=>absurd rfl h
 | [],_::_,h,_=>by cases h
 |_::_,[],_,_=>rfl
 | a::x,b::y,h,g=>by
  unfold Op.bytesLess at*
  simp only[Bool.or_eq_true,Bool.or_eq_false_iff,decide_eq_true_eq,decide_eq_false_iff_not,Bool.and_eq_true,beq_iff_eq] at*
  obtain⟨h1,h2⟩:=h
  by_cases e:a=b
  ·subst e
   refine .inr ⟨rfl,Z7 (by simpa using h2) fun e=>g (by rw[e])⟩
  ·left
   have bx:¬a.toNat <b.toNat:=h1
   have h3:a.toNat≠b.toNat:=fun h=>e (UInt8.toNat_inj.1 h)
   show b.toNat <a.toNat
   omega
theorem A3e {a b c:ByteArray} (h:ltS a b=true) (g:ltS b c=true):ltS a c=true:=Z8 h g
theorem Bhu {a b:ByteArray} (h:ltS a b=true):a≠b:=by
 rintro rfl
 unfold ltS at h
 rw[WF] at h
 cases h
theorem A3d {a b:ByteArray} (h:ltS a b=false) (g:a≠b):ltS b a=true:=by
 refine Z7 h fun e=>g ?_
 have:(a.toList==b.toList)=true:=beq_iff_eq.2 e
 rw[tlb] at this
 exact eq_of_beq this
def RD (l:List Ae) (i:Nat):Int:=(l.getD i (Ao TC.group)).policy
def IX (cs:List AG) (i:Nat):AG:=cs.getD i (Ao TC.cell)
def Ly (rows:List AW) (i:Nat):AW:=rows.getD i (Ao TC.row)
def Sh (rows:List AW):Nat→ByteArray
 |0=>⟨#[]⟩
 |i+1=>(Ly rows i).key
def leS (a b:ByteArray):Bool:=ltS a b||a==b
def Acc (l:List Ae) (rows:List AW) (i:Nat):Int:=bif BJ l (Ly rows i) !=0 then BJ l (Ly rows i) else bif Up (Ly rows i)||leS (Ly rows i).key (Sh rows i) then 100 else 0
def Hs (l:List Ae) (rows:List AW):Nat→Int
 |0=>0
 |i+1=>bif Hs l rows i !=0 then Hs l rows i else Acc l rows i
def Pn (l:List Ae) (rows:List AW):Int:=bif A1 l !=0 then A1 l else Hs l rows rows.length
theorem Ae6 (l:List Ae) (rows:List AW):∀n,Hs l rows n=0↔∀i,i <n→Acc l rows i=0
 |0=>⟨fun _ i h=>absurd h (Nat.not_lt_zero _),fun _=>rfl⟩
 | n +1=>by
  have ih:=Ae6 l rows n
  unfold Hs
  cases h:Hs l rows n !=0 with
  |true=>
   rw[cond_true]
   have h':Hs l rows n≠0:=by simpa using h
   exact⟨fun e=>absurd e h',fun e=>absurd (ih.2 fun i hi=>e i (by omega)) h'⟩
  | false=>
   rw[cond_false]
   have h':Hs l rows n=0:=by simpa using h
   constructor
   ·intro e i hi
    rcases Nat.lt_or_ge i n with g|g
    ·exact ih.1 h' i g
    ·obtain rfl:i=n:=by omega
     exact e
   ·intro e
    exact e n (Nat.lt_succ_self n)
theorem Aal {l:List Ae} {rows:List AW} {k:Nat} (h:Hs l rows k≠0):∀n,k≤n→Hs l rows n=Hs l rows k
 |0,hn=>by
  obtain rfl:k=0:=by omega
  rfl
 | n+1,hn=>by
  rcases Nat.lt_or_ge n k with g|g
  ·obtain rfl:k=n+1:=by omega
   rfl
  ·have ih:=Aal h n g
   have hb:(Hs l rows k !=0)=true:=by simpa using h
   show(bif Hs l rows n !=0 then Hs l rows n else _)=_
   rw[ih,hb,cond_true]
theorem Bb3 {l:List Ae} {rows:List AW}:Pn l rows=0↔A1 l=0∧∀i,i <rows.length→Acc l rows i=0:=by
 unfold Pn
 cases h:A1 l !=0 with
 |true=>
  rw[cond_true]
  have h':A1 l≠0:=by simpa using h
  exact⟨fun e=>absurd e h',fun e=>absurd e.1 h'⟩
 |false=>
  rw[cond_false,Ae6]
  have h':A1 l=0:=by simpa using h
  exact⟨fun e=>⟨h',e⟩,fun e=>e.2⟩
theorem Bha {l:List Ae} {rows:List AW} {i:Nat}:Acc l rows i=0↔BJ l (Ly rows i)=0∧Up (Ly rows i)=false∧leS (Ly rows i).key (Sh rows i)=false:=by
 unfold Acc
 cases h:BJ l (Ly rows i) !=0 with
 |true=>
  rw[cond_true]
  have h':BJ l (Ly rows i)≠0:=by simpa using h
  exact⟨fun e=>absurd e h',fun e=>absurd e.1 h'⟩
 |false=>
  rw[cond_false]
  have h':BJ l (Ly rows i)=0:=by simpa using h
  cases Up (Ly rows i)<;>cases leS (Ly rows i).key (Sh rows i)<;>simp[h']
def Blx (rows:List AW):Prop:=rows.Pairwise fun a b=>ltS a.key b.key=true
theorem A0c {l:List Ae} {cs:List AG} (hl:cs.length=l.length):(l.zip cs).all (fun x=>HI x.1.policy x.2)=true↔∀i,i <l.length→HI (RD l i) (IX cs i)=true:=by
 rw[Blp l cs (Ao TC.group) (Ao TC.cell) (fun g c=>HI g.policy c) hl,Fp]
 exact Iff.rfl
def Oo (b:Ak) (l:List Ae) (a:Int) (i:Nat):AG×Int×Int:=Lv (b.drop a.toNat) (RD l i)
def Le (b:Ak) (l:List Ae) (a:Int):Nat→Int
 |0=>a
 |i+1=>Le b l a i+(Oo b l (Le b l a i) i).2.1
def csN (b:Ak) (l:List Ae) (a:Int):Nat→List AG
 |0=>[]
 |i+1=>csN b l a i++[(Oo b l (Le b l a i) i).1]
def O1 (b:Ak) (l:List Ae) (a:Int) (i:Nat):Bool:=(Oo b l (Le b l a i) i).2.2 !=0
theorem Azb {b:Ak} {l:List Ae} {a:Int} (ha:0≤a∧a≤(b.length:Int)):∀i,(∀j,j <i→O1 b l a j=false)→0≤Le b l a i∧Le b l a i≤(b.length:Int)
 |0,_=>ha
 | i+1,h=>by
  obtain⟨h1,h2⟩:=Azb ha i fun j hj=>h j (by omega)
  have hb:=h i (Nat.lt_succ_self i)
  unfold O1 at hb
  have h0:(Oo b l (Le b l a i) i).2.2=0:=by simpa using hb
  have hg:Lv (b.drop (Le b l a i).toNat) (RD l i)=((Oo b l (Le b l a i) i).1,(Oo b l (Le b l a i) i).2.1,0):=by
   rw[←h0];rfl
  obtain⟨_,k,r,hr⟩:=Ae5 hg
  have hlen:=congrArg List.length hr
  rw[List.length_drop,List.length_append] at hlen
  show 0≤Le b l a i+(Oo b l (Le b l a i) i).2.1∧Le b l a i+(Oo b l (Le b l a i) i).2.1≤_
  rw[k]
  omega
theorem Amx (b:Ak) (l:List Ae) (a:Int):∀i,(csN b l a i).length=i
 |0=>rfl
 |i+1=>by
  unfold csN
  rw[List.length_append,Amx b l a i]
  rfl
def Ls (l:List Ae) (cs:List AG) (i:Nat):Ak:=((l.zip cs).take i).flatMap fun x=>Kf x.1.policy x.2
theorem W7 {l:List Ae} {cs:List AG} (_hl:cs.length=l.length) {i:Nat} (hi:i <l.length):Ls l cs (i+1)=Ls l cs i++Kf (RD l i) (IX cs i):=by
 unfold Ls
 have hz:i <(l.zip cs).length:=by rw[List.length_zip];omega
 rw[List.take_add_one,List.getElem?_eq_getElem hz,List.flatMap_append,List.getElem_zip]
 have e1:l[i]=l.getD i (Ao TC.group):=by rw[List.getD_eq_getElem?_getD,List.getElem?_eq_getElem hi];rfl
 have e2:cs[i]=cs.getD i (Ao TC.cell):=by rw[List.getD_eq_getElem?_getD,List.getElem?_eq_getElem (by omega)];rfl
 rw[e1,e2]
 simp[RD,IX]
theorem Adi {l:List Ae} {cs:List AG} (_hl:cs.length=l.length):Ls l cs l.length=(l.zip cs).flatMap fun x=>Kf x.1.policy x.2:=by
 unfold Ls
 rw[List.take_of_length_le (by rw[List.length_zip];omega)]
theorem Asc {l:List Ae} {cs:List AG} (hl:cs.length=l.length) (hg:∀i,i <l.length→HI (RD l i) (IX cs i)=true) (pre rest:Ak):∀i,i≤l.length→
  Le (pre++Ls l cs l.length++rest) l (pre.length:Int) i=((pre++Ls l cs i).length:Int)∧csN (pre++Ls l cs l.length++rest) l (pre.length:Int) i=cs.take i∧∀j,j <i→O1 (pre++Ls l cs l.length++rest) l (pre.length:Int) j=false
 |0,_=>⟨by show(pre.length:Int)=_;simp[Ls],by simp[csN],fun j hj=>absurd hj (Nat.not_lt_zero _)⟩
 | i+1,hi=>by
  obtain⟨h1,h2,h3⟩:=Asc hl hg pre rest i (by omega)
  have l6:∃t,Ls l cs l.length=Ls l cs i++(Kf (RD l i) (IX cs i)++t):=by
   refine⟨((l.zip cs).drop (i+1)).flatMap fun x=>Kf x.1.policy x.2,?_⟩
   rw[←List.append_assoc,←W7 hl (by omega),Adi hl]
   unfold Ls
   rw[←List.flatMap_append,List.take_append_drop]
  obtain⟨t,ht⟩:=l6
  have hd:(pre++Ls l cs l.length++rest).drop (pre++Ls l cs i).length=Kf (RD l i) (IX cs i)++(t++rest):=by
   rw[ht]
   have:pre++(Ls l cs i++(Kf (RD l i) (IX cs i)++t))++rest=(pre++Ls l cs i)++(Kf (RD l i) (IX cs i)++(t++rest)):=by simp[List.append_assoc]
   rw[this,List.drop_left]
  have lu:Oo (pre++Ls l cs l.length++rest) l (Le (pre++Ls l cs l.length++rest) l (pre.length:Int) i) i=(IX cs i,((Kf (RD l i) (IX cs i)).length:Int),0):=by
   unfold Oo
   rw[h1,Int.toNat_natCast,hd]
   exact A21 (hg i (by omega)) _
  refine⟨?_,?_,fun j hj=>?_⟩
  ·show Le _ l _ i+(Oo _ l (Le _ l _ i) i).2.1=_
   rw[lu,h1,W7 hl (by omega)]
   simp only[List.length_append]
   omega
  ·show csN _ l _ i++[(Oo _ l (Le _ l _ i) i).1]=_
   rw[lu,h2,List.take_add_one,List.getElem?_eq_getElem (by omega)]
   have e2:cs[i]'(by omega)=IX cs i:=by unfold IX;rw[List.getD_eq_getElem?_getD,List.getElem?_eq_getElem (by omega)];rfl
   rw[e2]
   rfl
  ·by_cases e:j=i
   ·subst e
    unfold O1
    rw[lu]
    rfl
   ·exact h3 j (by omega)
def Bah:=Gi S0 Cl
abbrev C6:Type:=Ak×Int×(List Ae)×Int×Int×ByteArray×ByteArray×(List AG)
def Ao7:C6→St
  |(a0,a1,a2,a3,a4,a5,a6,a7)=>⟨69,4,[(0,.sl .u8 a0),(4,.own 0 0),(9,.v (.int .i64 a1)),(11,.own 1 0),(38,.sl .group a2),(39,.v (.int .i64 a3)),(40,.v (.int .i64 a4))],[(0,some (.box 60 [.v (.string a5),.v (.slice none 0 0)])),(1,some (.box 60 [.v (.string a6),.sq 3])),(3,some (.arr 87 8 (.ty .cell a7)))]⟩
def UW:St→Option C6
 |⟨69,4,[(0,.sl .u8 z0),(4,.own 0 0),(9,.v (.int .i64 z1)),(11,.own 1 0),(38,.sl .group z2),(39,.v (.int .i64 z3)),(40,.v (.int .i64 z4))],[(0,some (.box 60 [.v (.string z5),.v (.slice none 0 0)])),(1,some (.box 60 [.v (.string z6),.sq 3])),(3,some (.arr 87 8 (.ty .cell z7)))]⟩=>some (z0,z1,z2,z3,z4,z5,z6,z7)
 |_=>none
def Ao6:E2:=⟨3,4,[0,4,9,11,38,39,40],[],[(0,0),(1,1),(7,3)],[0,1,7],[9,5,6],[0,1,3]⟩
def Ao5:Fz:=⟨[.nilB 1 1 87 .cell],[(0,0),(1,1),(2,3)],[0,4,9,11,38,39,40],[0,1,2]⟩
def Du (a0:Ak) (a1:Int) (_a2:List Ae) (_a3 _a4:Int) (_a5 _a6:ByteArray) (_a7:List AG):Ak:=List.take ((a0.length:Int).toNat - a1.toNat) (List.drop a1.toNat a0)
def GB (a0:Ak) (a1:Int) (a2:List Ae) (a3 a4:Int) (a5 a6:ByteArray) (a7:List AG):Bool:=!!decide (a4 <a3)&&(Lv (Du a0 a1 a2 a3 a4 a5 a6 a7) (a2.getD a4.toNat (Ao TC.group)).2).2.2 !=0
def Mw (a0:Ak) (a1:Int) (a2:List Ae) (a3 a4:Int) (a5 a6:ByteArray) (a7:List AG):Int:=IntKind.i64.wrap (a1+(Lv (Du a0 a1 a2 a3 a4 a5 a6 a7) (a2.getD a4.toNat (Ao TC.group)).2).2.1)
def Mx (a0:Ak) (a1:Int) (a2:List Ae) (a3 a4:Int) (a5 a6:ByteArray) (a7:List AG):List AG:=a7++[(Lv (Du a0 a1 a2 a3 a4 a5 a6 a7) (a2.getD a4.toNat (Ao TC.group)).2).1]
def Ahl (a0:Ak) (a1:Int) (a2:List Ae) (a3 a4:Int) (a5 a6:ByteArray) (a7:List AG):Bool:=!!decide (a4 <a3)&&!(GB a0 a1 a2 a3 a4 a5 a6 a7)
def Ld (a0:Ak) (a1:Int) (a2:List Ae) (a3 a4:Int) (a5 a6:ByteArray) (a7:List AG):Bool:=(GB a0 a1 a2 a3 a4 a5 a6 a7)
def Rs (_a0:Ak) (_a1:Int) (_a2:List Ae) (_a3 _a4:Int) (_a5 _a6:ByteArray) (_a7:List AG):ByteArray:=ByteArray.mk #[]
def GE:C6→C6
  |(a0,a1,a2,a3,a4,a5,a6,a7)=>(a0,Mw a0 a1 a2 a3 a4 a5 a6 a7,a2,a3,IntKind.i64.wrap (a4+1),a5,a6,Mx a0 a1 a2 a3 a4 a5 a6 a7)
def GD:C6→DB
  |(a0,a1,a2,a3,a4,a5,a6,a7)=>some (Ahl a0 a1 a2 a3 a4 a5 a6 a7)
def SY:C6→List Prop
  |(a0,a1,a2,a3,a4,a5,a6,a7)=>[((!!decide (a4 <a3))=true→0≤a4∧a4 <(a2.length:Int)),((!!decide (a4 <a3))=true→0≤a1∧a1≤(a0.length:Int)∧(a0.length:Int)≤(a0.length:Int)),((!!decide (a4 <a3))=true→Ai (Du a0 a1 a2 a3 a4 a5 a6 a7).length),((!!decide (a4 <a3))=true→(!(Lv (Du a0 a1 a2 a3 a4 a5 a6 a7) (a2.getD a4.toNat (Ao TC.group)).2).2.2 !=0)=true→Ai (a7.length+1))]
abbrev Jh:C6→List Prop:=SY
def Ada:C6→BG
  |(a0,a1,a2,a3,a4,a5,a6,a7)=>[(some 0,some (!decide (a4 <a3)),⟨69,4,[(9,.v (.int .i64 a1)),(5,.dead),(6,.dead)],[(0,some (.box 60 [.v (.string a5),.v (.slice none 0 0)])),(1,some (.box 60 [.v (.string a6),.sq 3])),(3,some (.arr 87 8 (.ty .cell a7)))]⟩),(none,some (Ld a0 a1 a2 a3 a4 a5 a6 a7),⟨69,6,[(9,.v (.int .i64 a1)),(5,.v (.int .i64 0)),(6,.v (.int .i64 100))],[(0,some (.box 60 [.v (.string (Rs a0 a1 a2 a3 a4 a5 a6 a7)),.v (.slice none 0 0)])),(1,some (.box 60 [.v (.string a6),.sq 3])),(3,some (.arr 87 8 (.ty .cell a7)))]⟩)]
def GC (x:C6):Nat:=(x.2.2.2.1 - x.2.2.2.2.1).toNat
def SZ (x:C6):C6:=Bj GE GD (GC x) x
def Ahm:=Jg (CP Bah.1 L0) (AQ Bb 52 0) Ao6 Ao5 UW GC GE GD Jh Ada
def XY:=WA 0 (g:=Ahm) (CR (T:=Ao7) (psA:=SY) Bah.2 A9 (u:=9) (by kernel_rfl) (by decide) (fun⟨a0,a1,a2,a3,a4,a5,a6,a7⟩=>by kernel_rfl) (fun _ h=>h) (fun s x h=>by unfold UW at h;split at h<;>first|(cases h;rfl)|cases h) (fun _=>Bm (n:=69) rfl) fun _ _=>rfl) ⟨L0,A9⟩
def Gd (a1:List Ae):Bool:=A1 a1 !=0
def HD (a0:Ak):Bool:=(CA a0 32).2.2 !=0||(CA a0 32).1.toList==(ByteArray.mk #[]).toList
def Ic (a0:Ak) (a1:List Ae):C6:=SZ (a0,(CA a0 32).2.1,a1,(a1.length:Int),0,ByteArray.mk #[],(CA a0 32).1,[])
def QM (a0:Ak) (a1:List Ae):Int:=(Ic a0 a1).2.1
def Wj (a0:Ak) (a1:List Ae):List AG:=(Ic a0 a1).2.2.2.2.2.2.2
def Wi (a0:Ak) (a1:List Ae):ByteArray:=(Ic a0 a1).2.2.2.2.2.2.1
def Kx (a0:Ak) (a1:List Ae):Bool:=Ld (Ic a0 a1).1 (QM a0 a1) (Ic a0 a1).2.2.1 (Ic a0 a1).2.2.2.1 (Ic a0 a1).2.2.2.2.1 (Ic a0 a1).2.2.2.2.2.1 (Wi a0 a1) (Wj a0 a1)
def ZA (a0:Ak) (a1:List Ae):ByteArray:=bif(Gd a1) then ByteArray.mk #[] else bif(HD a0) then ByteArray.mk #[] else bif(Kx a0 a1) then Rs (Ic a0 a1).1 (QM a0 a1) (Ic a0 a1).2.2.1 (Ic a0 a1).2.2.2.1 (Ic a0 a1).2.2.2.2.1 (Ic a0 a1).2.2.2.2.2.1 (Wi a0 a1) (Wj a0 a1) else(Wi a0 a1)
def ZB (a0:Ak) (a1:List Ae):Int:=bif(Gd a1) then 0 else bif(HD a0) then 0 else bif(Kx a0 a1) then 0 else(QM a0 a1)
def ZC (a0:Ak) (a1:List Ae):Int:=bif(Gd a1) then A1 a1 else bif(HD a0) then 100 else bif(Kx a0 a1) then 100 else 0
def ZD (a0:Ak) (a1:List Ae):List AG:=bif(Gd a1) then[] else bif(HD a0) then[] else bif(Kx a0 a1) then[] else(Wj a0 a1)
def ZF (a0:Ak) (a1:List Ae):A:=.tup [.agg [.v (.string (ZA a0 a1)),.sq 0],iV ((ZB a0 a1)),iV ((ZC a0 a1))]
def ZE (a0:Ak) (a1:List Ae):AJ:=[(0,some (.arr 87 8 (.ty .cell (ZD a0 a1))))]
def Ax8 (a0:Ak) (a1:List Ae):List Prop:=[((!(Gd a1))=true→Ai a0.length),((!(Gd a1))=true→(!(HD a0))=true→A3 GE GD Jh (GC (a0,(CA a0 32).2.1,a1,(a1.length:Int),0,ByteArray.mk #[],(CA a0 32).1,[])) (a0,(CA a0 32).2.1,a1,(a1.length:Int),0,ByteArray.mk #[],(CA a0 32).1,[]))]
theorem Ax7 (a0:Ak) (a1:List Ae):Tx (CP Bah.1 XY.1) 9 52 [AX .bytes a0,.sl .group a1] 0 []=some (1,ZF a0 a1,1,ZE a0 a1,[((!(Gd a1))=true→Ai a0.length),((!(Gd a1))=true→(!(HD a0))=true→AQ Bb (52:FuncId) 0=AQ Bb (52:FuncId) 0),((!(Gd a1))=true→(!(HD a0))=true→A3 GE GD Jh (GC (a0,(CA a0 32).2.1,a1,(a1.length:Int),0,ByteArray.mk #[],(CA a0 32).1,[])) (a0,(CA a0 32).2.1,a1,(a1.length:Int),0,ByteArray.mk #[],(CA a0 32).1,[]))]):=by kernel_rfl
theorem A31 (a0:Ak) (a1:List Ae) (hp:∀p∈Ax8 a0 a1,p):Ax Bb 52 [AX .bytes a0,.sl .group a1] 0 [] 1 (ZF a0 a1) 1 (ZE a0 a1):=
  Bh (AU Bah.2 XY.2) (Ax7 a0 a1) (nT hp fun hp=>Aa (by intros;rfl) (nT hp fun _=>An))
def UD (b:Ak):Bool:=!((CA b 32).2.2 !=0||(CA b 32).1==⟨#[]⟩)
def Qr (b:Ak) (l:List Ae):Int:=bif A1 l !=0 then A1 l else bif !UD b then 100 else bif !JL l.length (fun i=>!O1 b l (CA b 32).2.1 i) then 100 else 0
def T1 (b:Ak) (l:List Ae):ByteArray:=bif Qr b l==0 then(CA b 32).1 else⟨#[]⟩
def R7 (b:Ak) (l:List Ae):Int:=bif Qr b l==0 then Le b l (CA b 32).2.1 l.length else 0
def R8 (b:Ak) (l:List Ae):List AG:=bif Qr b l==0 then csN b l (CA b 32).2.1 l.length else[]
def Aho (a0:Ak) (a1:List Ae):A:=.tup [.agg [.v (.string (T1 a0 a1)),.sq 0],iV ((R7 a0 a1)),iV ((Qr a0 a1))]
def Ahn (a0:Ak) (a1:List Ae):AJ:=[(0,some (.arr 87 8 (.ty .cell (R8 a0 a1))))]
def Abg (a0:Ak) (_a1:List Ae):List Prop:=[Ai a0.length]
theorem Ao8 (b:Ak) (l:List Ae) (z key:ByteArray) (a:Int) (ha:0≤a∧a≤(b.length:Int)) (hb:Ai b.length) (_h4:l.length≤4):
  A3 GE GD Jh (GC (b,a,l,(l.length:Int),0,z,key,[])) (b,a,l,(l.length:Int),0,z,key,[])∧
  ∃k,k≤l.length∧SZ (b,a,l,(l.length:Int),0,z,key,[])=(b,Le b l a k,l,(l.length:Int),(k:Int),z,key,csN b l a k)∧(k <l.length→O1 b l a k=true)∧(decide (k <l.length)&&O1 b l a k)=!JL l.length (fun i=>!O1 b l a i)∧(∀j,j <k→O1 b l a j=false):=by
 have aq:=hb
 unfold Ai at aq
 have hd:∀i,Du b (Le b l a i) l (l.length:Int) (i:Int) z key (csN b l a i)=b.drop (Le b l a i).toNat:=fun i=>by
  unfold Du
  rw[Int.toNat_natCast]
  exact List.take_of_length_le (by rw[List.length_drop];omega)
 have bu:∀i,GB b (Le b l a i) l (l.length:Int) (i:Int) z key (csN b l a i)=(decide (i <l.length)&&O1 b l a i):=fun i=>by
  unfold GB
  rw[hd,nn,Ux,Int.toNat_natCast]
  rfl
 obtain⟨h1,k,hk,hx,hs,hst,aj⟩:=Abm (fun i=>(b,Le b l a i,l,(l.length:Int),(i:Int),z,key,csN b l a i):Nat→C6) l.length (fun i=>O1 b l a i) GE GD Jh (GC (b,a,l,(l.length:Int),0,z,key,[])) (b,a,l,(l.length:Int),0,z,key,[]) rfl (by show l.length≤((l.length:Int) - 0).toNat;omega)
  (fun i _ _=>by
   show(!!decide ((i:Int) <(l.length:Int))&&!GB b (Le b l a i) l (l.length:Int) (i:Int) z key (csN b l a i))=_
   rw[bu,nn,Ux]
   cases decide (i <l.length)<;>rfl)
  (fun i hi hs=>by
   obtain⟨o1,o2⟩:=Azb ha (i+1) hs
   show(b,Mw b (Le b l a i) l (l.length:Int) (i:Int) z key (csN b l a i),l,(l.length:Int),IntKind.i64.wrap ((i:Int)+1),z,key,Mx b (Le b l a i) l (l.length:Int) (i:Int) z key (csN b l a i))=(b,Le b l a (i+1),l,(l.length:Int),((i+1:Nat):Int),z,key,csN b l a (i+1))
   unfold Mw Mx
   rw[hd,JK (by omega),Int.toNat_natCast]
   have e:IntKind.i64.wrap (Le b l a i+(Lv (b.drop (Le b l a i).toNat) (l.getD i (Ao TC.group)).2).2.1)=Le b l a (i+1):=i64_in (n:=Le b l a (i+1)) (by omega)
   rw[e]
   rfl)
  (fun i hi hs=>by
   have ar:(!!decide ((i:Int) <(l.length:Int)))=true→(i:Int) <(l.length:Int):=fun h=>by rw[nn] at h;exact of_decide_eq_true h
   obtain⟨o1,o2⟩:=Azb ha i hs
   have hl:=Amx b l a i
   refine Aa (fun h=>⟨by show(0:Int)≤(i:Int);omega,ar h⟩) (Aa (fun _=>⟨o1,o2,Int.le_refl _⟩) (Aa (fun _=>?_) (Aa (fun h _=>?_) An)))
   ·show Ai (Du b (Le b l a i) l (l.length:Int) (i:Int) z key (csN b l a i)).length
    rw[hd,List.length_drop]
    unfold Ai
    omega
   ·show Ai ((csN b l a i).length+1)
    rw[hl]
    unfold Ai
    omega)
 exact⟨h1,k,hk,hx,hst,aj,hs⟩
theorem Ax6 (a0:Ak) (a1:List Ae) (hp:∀p∈Abg a0 a1,p):Ax Bb 52 [AX .bytes a0,.sl .group a1] 0 [] 1 (Aho a0 a1) 1 (Ahn a0 a1):=by
 have hb:Ai a0.length:=hp _ (List.mem_cons_self ..)
 have nw:(!(Gd a1))=true→A1 a1=0:=fun h=>by
  have h':(!(A1 a1 !=0))=true:=h
  simpa using h'
 have hl:A1 a1=0→_:=fun g=>Ao8 a0 a1 (ByteArray.mk #[]) (CA a0 32).1 (CA a0 32).2.1 (JF a0 32) hb (Qu g).2
 have h:=A31 a0 a1 (Aa (fun _=>hb) (Aa (fun g _=>(hl (nw g)).1) An))
 have e:ZA a0 a1=T1 a0 a1∧ZB a0 a1=R7 a0 a1∧ZC a0 a1=Qr a0 a1∧ZD a0 a1=R8 a0 a1:=by
  have k5:HD a0=!UD a0:=by
   unfold HD UD
   rw[tlb,Bool.not_not]
  have k6:Gd a1=(A1 a1 !=0):=rfl
  unfold ZA ZB ZC ZD T1 R7 R8 Qr
  rw[k5,k6]
  cases g1:A1 a1 !=0 with
  |true=>
   have:(A1 a1==0)=false:=by simpa using g1
   simp only[cond_true,this]
   refine⟨?_,?_,?_,?_⟩<;>first|rfl|trivial
  | false=>
   simp only[cond_false]
   cases g2:UD a0 with
   |false=>refine⟨?_,?_,?_,?_⟩<;>first|rfl|trivial
   | true=>
    obtain⟨_,k,hk,hx,hst,aj,hs⟩:=hl (by simpa using g1)
    have u3:Ic a0 a1=(a0,Le a0 a1 (CA a0 32).2.1 k,a1,(a1.length:Int),(k:Int),ByteArray.mk #[],(CA a0 32).1,csN a0 a1 (CA a0 32).2.1 k):=hx
    have bu:Kx a0 a1=!JL a1.length (fun i=>!O1 a0 a1 (CA a0 32).2.1 i):=by
     unfold Kx Ld Wi Wj QM
     rw[u3,←aj]
     unfold GB Du
     simp only[Int.toNat_natCast]
     rw[nn,Ux,List.take_of_length_le (by rw[List.length_drop];omega)]
     rfl
    rw[bu]
    cases g3:JL a1.length (fun i=>!O1 a0 a1 (CA a0 32).2.1 i) with
    |false=>refine⟨?_,?_,?_,?_⟩<;>first|rfl|trivial
    | true=>
     have jg:k=a1.length:=by
      rcases Nat.lt_or_ge k a1.length with q|q
      ·have:=hst q
       rw[g3,decide_eq_true q,this] at aj
       cases aj
      ·omega
     unfold Wi Wj QM
     rw[u3,jg]
     refine⟨?_,?_,?_,?_⟩<;>first|rfl|trivial
 unfold ZF ZE at h
 rw[e.1,e.2.1,e.2.2.1,e.2.2.2] at h
 exact h
theorem Aug:IE Bb 52 (Et [.t .bytes,.l .group] 1 Aho Ahn Abg):=A8 Ax6
theorem Azz {l:List Ae} {cs:List AG} (hl:cs.length=l.length):∀i,i≤l.length→(Ls l cs i).length≤128*i
 |0,_=>by simp[Ls]
 |i+1,hi=>by
  have:=Azz hl i (by omega)
  have h8:=A1e (RD l i) (IX cs i)
  rw[W7 hl (by omega),List.length_append]
  omega
theorem Aqq {X:Type} (mk:Nat→Int→X) (len:Nat) (step:Nat→Int→Int) (P:Nat→Prop) (m c:Int) (s:Bool) (next:X→X) (goes:X→DB) (ps:X→List Prop) (hs:∀i n,i <len→0≤n→0≤step i n∧(step i n≤m→n+c≤step i n∧P i)) (hc:0≤c) (hg:∀i n,i≤len→Br (goes (mk i n))=(decide (i <len)&&(s||decide (n≤m)))) (hn:∀i n,i <len→0≤n→next (mk i n)=mk (i+1) (step i n)) (hp:∀i n,i≤len→0≤n→∀p∈ps (mk i n),p):
  ∀(f i:Nat) (n:Int),i≤len→len≤i+f→0≤n→
  A3 next goes ps f (mk i n)∧∃k n',Bj next goes f (mk i n)=mk k n'∧0≤n'∧(n'≤m→n+c*((len:Int) - (i:Int))≤n'∧∀j,i≤j→j <len→P j)
 |0,i,n,hi,hf,h0=>by
  obtain rfl:i=len:=by omega
  have hb:=hg i n (Nat.le_refl _)
  rw[decide_eq_false (Nat.lt_irrefl _),Bool.false_and] at hb
  exact⟨⟨hp i n hi h0,hb⟩,i,n,rfl,h0,fun _=>⟨by rw[Int.sub_self,Int.mul_zero];omega,fun j h1 h2=>by omega⟩⟩
 | f+1,i,n,hi,hf,h0=>by
  have hb:=hg i n hi
  cases hv:Br (goes (mk i n)) with
  | false=>
   have e:Bj next goes (f+1) (mk i n)=mk i n:=by
    show(bif Br (goes (mk i n)) then _ else mk i n)=_
    rw[hv];rfl
   rw[e]
   refine⟨⟨hp i n hi h0,fun h=>by rw[hv] at h;cases h⟩,i,n,rfl,h0,fun hm=>?_⟩
   rw[hv] at hb
   rw[decide_eq_true hm,Bool.or_true,Bool.and_true] at hb
   have:¬i <len:=of_decide_eq_false hb.symm
   obtain rfl:i=len:=by omega
   exact⟨by rw[Int.sub_self,Int.mul_zero];omega,fun j h1 h2=>by omega⟩
  | true=>
   rw[hv] at hb
   have bl:i <len:=by
    cases h:decide (i <len) with
    |true=>exact of_decide_eq_true h
    |false=>rw[h] at hb;cases hb
   obtain⟨s1,s2⟩:=hs i n bl h0
   have e:Bj next goes (f+1) (mk i n)=Bj next goes f (mk (i+1) (step i n)):=by
    show(bif Br (goes (mk i n)) then Bj next goes f (next (mk i n)) else mk i n)=_
    rw[hv,hn i n bl h0];rfl
   obtain⟨g1,k,n',g2,g3,g4⟩:=Aqq mk len step P m c s next goes ps hs hc hg hn hp f (i+1) (step i n) bl (by omega) s1
   rw[e]
   refine⟨⟨hp i n hi h0,fun _=>by rw[hn i n bl h0];exact g1⟩,k,n',g2,g3,fun hm=>?_⟩
   obtain⟨a1,a2⟩:=g4 hm
   have cd:0≤c*((len:Int) - ((i+1:Nat):Int)):=Int.mul_nonneg hc (by omega)
   obtain⟨b1,b2⟩:=s2 (by omega)
   have hd:c*((len:Int) - (i:Int))=c*((len:Int) - ((i+1:Nat):Int))+c:=by
    rw[show((len:Int) - (i:Int))=((len:Int) - ((i+1:Nat):Int))+1 by omega,Int.mul_add,Int.mul_one]
   refine⟨by rw[hd];omega,fun j h1 h2=>?_⟩
   by_cases e:j=i
   ·subst e;exact b2
   ·exact a2 j (by omega) h2
theorem RH {X:Type} (mk:Nat→Int→X) (len:Nat) (step:Nat→Int→Int) (P:Nat→Prop) (m c:Int) (s:Bool) (next:X→X) (goes:X→DB) (ps:X→List Prop) (f:Nat) (x:X) (n0:Int) (hx:x=mk 0 n0) (_hf:len≤f) (h0:0≤n0) (hs:∀i n,i <len→0≤n→0≤step i n∧(step i n≤m→n+c≤step i n∧P i)) (hc:0≤c) (hg:∀i n,i≤len→Br (goes (mk i n))=(decide (i <len)&&(s||decide (n≤m)))) (hn:∀i n,i <len→0≤n→next (mk i n)=mk (i+1) (step i n)) (hp:∀i n,i≤len→0≤n→∀p∈ps (mk i n),p):
  A3 next goes ps f x∧∃k n',Bj next goes f x=mk k n'∧0≤n'∧(n'≤m→n0+c*(len:Int)≤n'∧∀j,j <len→P j):=by
 subst hx
 obtain⟨h1,k,n',h2,h3,h4⟩:=Aqq mk len step P m c s next goes ps hs hc hg hn hp f 0 n0 (Nat.zero_le _) (by omega) h0
 refine⟨h1,k,n',h2,h3,fun h=>?_⟩
 obtain⟨h5,h6⟩:=h4 h
 rw[show((len:Int) - ((0:Nat):Int))=(len:Int) by omega] at h5
 exact⟨h5,fun j hj=>h6 j (Nat.zero_le _) hj⟩
theorem O0 {α:Type} {l:List α} {d:α} {P:α→Prop} (h:∀j,j <l.length→P (l.getD j d)):∀x∈l,P x:=fun x hx=>by
 obtain⟨j,hj,rfl⟩:=List.mem_iff_getElem.1 hx
 have:=h j hj
 rw[List.getD_eq_getElem?_getD,List.getElem?_eq_getElem hj] at this
 exact this
def Yj:=Gi Atu Cl
abbrev CC:Type:=(List Ar)×Int×Int×Int
def Afj (x:CC):St:=⟨122,0,[(1,.sl .change x.1),(7,iV (x.2.1)),(8,iV (x.2.2.1)),(9,iV (x.2.2.2))],[]⟩
def Q7:St→Option CC
 |⟨122,0,[(1,.sl .change z0),(7,.v (.int .i64 z1)),(8,.v (.int .i64 z2)),(9,.v (.int .i64 z3))],[]⟩=>some (z0,z1,z2,z3)
 |_=>none
def Afi:E2:=⟨0,0,[1,7,8,9],[],[],[],[7],[]⟩
def Afh:Fz:=⟨[],[],[1,7,8,9],[]⟩
def Bw (a0:List Ar) (a1 a2 a3:Int):Bool:=!!(decide (a3 <(↑(a0.getD a2.toNat (Ao TC.change)).5.length:Int))&&decide (a1≤6000))
def Ko (a0:List Ar) (a1 a2 a3:Int):Int:=AN (AN (AN a1 10 6000) (↑((a0.getD a2.toNat (Ao TC.change)).5.getD a3.toNat (Ao TC.write)).1.size:Int) 6000) (↑((a0.getD a2.toNat (Ao TC.change)).5.getD a3.toNat (Ao TC.write)).4.size:Int) 6000
def Xn (a0:List Ar) (a1 a2 a3:Int):Bool:=!(decide (a3 <(↑(a0.getD a2.toNat (Ao TC.change)).5.length:Int))&&decide (a1≤6000))
def Fb:CC→CC
  |(a0,a1,a2,a3)=>(a0,Ko a0 a1 a2 a3,a2,IntKind.i64.wrap (a3+1))
def Fa (x:CC):DB:=some ((Bw x.1 x.2.1 x.2.2.1 x.2.2.2))
def Pr:CC→List Prop
  |(a0,a1,a2,a3)=>[(0≤a2∧a2 <(a0.length:Int)),((Bw a0 a1 a2 a3)=true→0≤a2∧a2 <(a0.length:Int)),((Bw a0 a1 a2 a3)=true→0≤a3∧a3 <(↑(a0.getD a2.toNat (Ao TC.change)).5.length:Int)),((Bw a0 a1 a2 a3)=true→0≤a2∧a2 <(a0.length:Int)),((Bw a0 a1 a2 a3)=true→0≤a3∧a3 <(↑(a0.getD a2.toNat (Ao TC.change)).5.length:Int))]
def Gl:CC→List Prop
  |(a0,a1,a2,a3)=>[(0≤a2∧a2 <(a0.length:Int)),((Bw a0 a1 a2 a3)=true→0≤a2∧a2 <(a0.length:Int)),((Bw a0 a1 a2 a3)=true→0≤a3∧a3 <(↑(a0.getD a2.toNat (Ao TC.change)).5.length:Int))]
def Xo (x:CC):BG:=[(some 2,some (Xn x.1 x.2.1 x.2.2.1 x.2.2.2),⟨122,0,[(7,iV (x.2.1))],[]⟩)]
def E9 (x:CC):Nat:=((↑(x.1.getD x.2.2.1.toNat (Ao TC.change)).5.length:Int) - x.2.2.2).toNat
def FJ (x:CC):CC:=Bj Fb Fa (E9 x) x
theorem Acf (a0:List Ar) (a1 a2 a3:Int) (hp:∀p∈Gl (a0,a1,a2,a3),p):∀p∈Pr (a0,a1,a2,a3),p:=by
 have n0:=N0 hp
 have n1:((Bw a0 a1 a2 a3)=true→(0:Int)≤a2∧a2 <(a0.length:Int)):=N0 (N1 hp)
 have n2:((Bw a0 a1 a2 a3)=true→(0:Int)≤a3∧a3 <(↑(a0.getD a2.toNat (Ao TC.change)).5.length:Int)):=N0 (N1 (N1 hp))
 exact(Aa n0 (Aa n1 (Aa n2 (Aa n1 (Aa n2 An)))))
def Y2:=Jg (CP Yj.1 L0) (AQ Bb 10 2) Afi Afh Q7 E9 Fb Fa Gl Xo
def Md:=WA 2 (g:=Y2) (CR (T:=Afj) (psA:=Pr) Yj.2 A9 (u:=9) (by kernel_rfl) (by decide) (fun⟨a0,a1,a2,a3⟩=>by kernel_rfl) (fun⟨a0,a1,a2,a3⟩=>Acf a0 a1 a2 a3) (fun s x h=>by unfold Q7 at h;split at h<;>first|(cases h;rfl)|cases h) (fun _=>Bm (n:=122) rfl) fun _ _=>rfl) ⟨L0,A9⟩
abbrev CB:Type:=(List Ar)×Int×Int
def Afg (x:CB):St:=⟨122,0,[(1,.sl .change x.1),(7,iV (x.2.1)),(8,iV (x.2.2))],[]⟩
def Q6:St→Option CB
 |⟨122,0,[(1,.sl .change z0),(7,.v (.int .i64 z1)),(8,.v (.int .i64 z2))],[]⟩=>some (z0,z1,z2)
 |_=>none
def Aff:E2:=⟨0,0,[1,7,8],[],[],[],[7],[]⟩
def Afe:Fz:=⟨[],[],[1,7,8],[]⟩
def DO (a0:List Ar) (a1 a2:Int):Bool:=!!(decide (a2 <(a0.length:Int))&&decide (a1≤6000))
def IJ (a0:List Ar) (a1 a2:Int):Int:=(FJ (a0,AN a1 10 6000,a2,0)).2.1
def Y0 (a0:List Ar) (a1 a2:Int):Bool:=!(decide (a2 <(a0.length:Int))&&decide (a1≤6000))
def E8 (x:CB):CB:=(x.1,IJ x.1 x.2.1 x.2.2,IntKind.i64.wrap (x.2.2+1))
def E7 (x:CB):DB:=some ((DO x.1 x.2.1 x.2.2))
def Pq:CB→List Prop
  |(a0,a1,a2)=>[((DO a0 a1 a2)=true→AQ Bb (10:FuncId) 2=AQ Bb (10:FuncId) 2),((DO a0 a1 a2)=true→A3 Fb Fa Gl (E9 (a0,AN a1 10 6000,a2,0)) (a0,AN a1 10 6000,a2,0))]
def Gk:CB→List Prop
  |(a0,a1,a2)=>[((DO a0 a1 a2)=true→A3 Fb Fa Gl (E9 (a0,AN a1 10 6000,a2,0)) (a0,AN a1 10 6000,a2,0))]
def Xm (x:CB):BG:=[(some 0,some (Y0 x.1 x.2.1 x.2.2),⟨122,0,[(7,iV (x.2.1))],[]⟩)]
def E6 (x:CB):Nat:=((x.1.length:Int) - x.2.2).toNat
def C3 (x:CB):CB:=Bj E8 E7 (E6 x) x
theorem Ace (a0:List Ar) (a1 a2:Int) (hp:∀p∈Gk (a0,a1,a2),p):∀p∈Pq (a0,a1,a2),p:=
  (Aa (by intros;rfl) (nT hp fun _=>An))
def Y1:=Jg (CP Yj.1 Md.1) (AQ Bb 10 0) Aff Afe Q6 E6 E8 E7 Gk Xm
def Mc:=WA 0 (g:=Y1) (CR (T:=Afg) (psA:=Pq) Yj.2 Md.2 (u:=9) (by kernel_rfl) (by decide) (fun⟨a0,a1,a2⟩=>by kernel_rfl) (fun⟨a0,a1,a2⟩=>Ace a0 a1 a2) (fun s x h=>by unfold Q6 at h;split at h<;>first|(cases h;rfl)|cases h) (fun _=>Bm (n:=122) rfl) fun _ _=>rfl) Md
abbrev CF:Type:=Int×(List AW)×Int×Int
def Afs (x:CF):St:=⟨122,0,[(7,iV (x.1)),(11,.sl .row x.2.1),(12,iV (x.2.2.1)),(13,iV (x.2.2.2))],[]⟩
def Ra:St→Option CF
 |⟨122,0,[(7,.v (.int .i64 z0)),(11,.sl .row z1),(12,.v (.int .i64 z2)),(13,.v (.int .i64 z3))],[]⟩=>some (z0,z1,z2,z3)
 |_=>none
def Afr:E2:=⟨0,0,[7,11,12,13],[],[],[],[7],[]⟩
def Afq:Fz:=⟨[],[],[7,11,12,13],[]⟩
def Ff (a0:Int) (a1:List AW) (a2 a3:Int):Bool:=!!(decide (a3 <(↑(a1.getD a2.toNat (Ao TC.row)).2.length:Int))&&decide (a0≤6000))
def Kq (a0:Int) (a1:List AW) (a2 a3:Int):Int:=AN (AN a0 10 6000) (↑((a1.getD a2.toNat (Ao TC.row)).2.getD a3.toNat (Ao TC.cell)).4.size:Int) 6000
def Y6 (a0:Int) (a1:List AW) (a2 a3:Int):Bool:=!(decide (a3 <(↑(a1.getD a2.toNat (Ao TC.row)).2.length:Int))&&decide (a0≤6000))
def DU:CF→CF
  |(a0,a1,a2,a3)=>(Kq a0 a1 a2 a3,a1,a2,IntKind.i64.wrap (a3+1))
def DT (x:CF):DB:=some ((Ff x.1 x.2.1 x.2.2.1 x.2.2.2))
def Pv:CF→List Prop
  |(a0,a1,a2,a3)=>[(0≤a2∧a2 <(a1.length:Int)),((Ff a0 a1 a2 a3)=true→0≤a2∧a2 <(a1.length:Int)),((Ff a0 a1 a2 a3)=true→0≤a3∧a3 <(↑(a1.getD a2.toNat (Ao TC.row)).2.length:Int))]
abbrev Gn:CF→List Prop:=Pv
def Xr (x:CF):BG:=[(some 8,some (Y6 x.1 x.2.1 x.2.2.1 x.2.2.2),⟨122,0,[(7,iV (x.1))],[]⟩)]
def DS (x:CF):Nat:=((↑(x.2.1.getD x.2.2.1.toNat (Ao TC.row)).2.length:Int) - x.2.2.2).toNat
def FL (x:CF):CF:=Bj DU DT (DS x) x
def Y7:=Jg (CP Yj.1 Mc.1) (AQ Bb 10 8) Afr Afq Ra DS DU DT Gn Xr
def Mf:=WA 8 (g:=Y7) (CR (T:=Afs) (psA:=Pv) Yj.2 Mc.2 (u:=9) (by kernel_rfl) (by decide) (fun⟨a0,a1,a2,a3⟩=>by kernel_rfl) (fun _ h=>h) (fun s x h=>by unfold Ra at h;split at h<;>first|(cases h;rfl)|cases h) (fun _=>Bm (n:=122) rfl) fun _ _=>rfl) Mc
abbrev CE:Type:=Int×(List AW)×Int
def Afp (x:CE):St:=⟨122,0,[(7,iV (x.1)),(11,.sl .row x.2.1),(12,iV (x.2.2))],[]⟩
def Q9:St→Option CE
 |⟨122,0,[(7,.v (.int .i64 z0)),(11,.sl .row z1),(12,.v (.int .i64 z2))],[]⟩=>some (z0,z1,z2)
 |_=>none
def Afo:E2:=⟨0,0,[7,11,12],[],[],[],[7],[]⟩
def Afn:Fz:=⟨[],[],[7,11,12],[]⟩
def CQ (a0:Int) (a1:List AW) (a2:Int):Bool:=!!(decide (a2 <(a1.length:Int))&&decide (a0≤6000))
def IL (a0:Int) (a1:List AW) (a2:Int):Int:=(FL (AN (AN a0 10 6000) (↑(a1.getD a2.toNat (Ao TC.row)).1.size:Int) 6000,a1,a2,0)).1
def Y4 (a0:Int) (a1:List AW) (a2:Int):Bool:=!(decide (a2 <(a1.length:Int))&&decide (a0≤6000))
def DR (x:CE):CE:=(IL x.1 x.2.1 x.2.2,x.2.1,IntKind.i64.wrap (x.2.2+1))
def DQ (x:CE):DB:=some ((CQ x.1 x.2.1 x.2.2))
def Pu:CE→List Prop
  |(a0,a1,a2)=>[((CQ a0 a1 a2)=true→0≤a2∧a2 <(a1.length:Int)),((CQ a0 a1 a2)=true→AQ Bb (10:FuncId) 8=AQ Bb (10:FuncId) 8),((CQ a0 a1 a2)=true→A3 DU DT Gn (DS (AN (AN a0 10 6000) (↑(a1.getD a2.toNat (Ao TC.row)).1.size:Int) 6000,a1,a2,0)) (AN (AN a0 10 6000) (↑(a1.getD a2.toNat (Ao TC.row)).1.size:Int) 6000,a1,a2,0))]
def Fk:CE→List Prop
  |(a0,a1,a2)=>[((CQ a0 a1 a2)=true→0≤a2∧a2 <(a1.length:Int)),((CQ a0 a1 a2)=true→A3 DU DT Gn (DS (AN (AN a0 10 6000) (↑(a1.getD a2.toNat (Ao TC.row)).1.size:Int) 6000,a1,a2,0)) (AN (AN a0 10 6000) (↑(a1.getD a2.toNat (Ao TC.row)).1.size:Int) 6000,a1,a2,0))]
def Xq (x:CE):BG:=[(some 6,some (Y4 x.1 x.2.1 x.2.2),⟨122,0,[(7,iV (x.1))],[]⟩)]
def DP (x:CE):Nat:=((x.2.1.length:Int) - x.2.2).toNat
def FK (x:CE):CE:=Bj DR DQ (DP x) x
theorem Ach (a0:Int) (a1:List AW) (a2:Int) (hp:∀p∈Fk (a0,a1,a2),p):∀p∈Pu (a0,a1,a2),p:=
  (nT hp fun hp=>Aa (by intros;rfl) (nT hp fun _=>An))
def Y5:=Jg (CP Yj.1 Mf.1) (AQ Bb 10 6) Afo Afn Q9 DP DR DQ Fk Xq
def Me:=WA 6 (g:=Y5) (CR (T:=Afp) (psA:=Pu) Yj.2 Mf.2 (u:=9) (by kernel_rfl) (by decide) (fun⟨a0,a1,a2⟩=>by kernel_rfl) (fun⟨a0,a1,a2⟩=>Ach a0 a1 a2) (fun s x h=>by unfold Q9 at h;split at h<;>first|(cases h;rfl)|cases h) (fun _=>Bm (n:=122) rfl) fun _ _=>rfl) Mf
abbrev CD:Type:=Int×(List (List AW))×Int×Int
def Afm (x:CD):St:=⟨122,0,[(7,iV (x.1)),(67,.sl .rows x.2.1),(68,iV (x.2.2.1)),(69,iV (x.2.2.2))],[]⟩
def Q8:St→Option CD
 |⟨122,0,[(7,.v (.int .i64 z0)),(67,.sl .rows z1),(68,.v (.int .i64 z2)),(69,.v (.int .i64 z3))],[]⟩=>some (z0,z1,z2,z3)
 |_=>none
def Afl:E2:=⟨0,0,[7,67,68,69],[],[],[],[7],[]⟩
def Afk:Fz:=⟨[],[],[7,67,68,69],[]⟩
def IK (a0:Int) (a1:List (List AW)) (a3:Int):Int:=(FK (a0,a1.getD a3.toNat (Ao TC.rows),0)).1
def Fe:CD→CD
  |(a0,a1,a2,a3)=>(IK a0 a1 a3,a1,a2,IntKind.i64.wrap (a3+1))
def Fd (x:CD):DB:=some (!!decide (x.2.2.2 <x.2.2.1))
def Pt:CD→List Prop
  |(a0,a1,a2,a3)=>[((!!decide (a3 <a2))=true→0≤a3∧a3 <(a1.length:Int)),((!!decide (a3 <a2))=true→AQ Bb (10:FuncId) 6=AQ Bb (10:FuncId) 6),((!!decide (a3 <a2))=true→A3 DR DQ Fk (DP (a0,a1.getD a3.toNat (Ao TC.rows),0)) (a0,a1.getD a3.toNat (Ao TC.rows),0))]
def Gm:CD→List Prop
  |(a0,a1,a2,a3)=>[((!!decide (a3 <a2))=true→0≤a3∧a3 <(a1.length:Int)),((!!decide (a3 <a2))=true→A3 DR DQ Fk (DP (a0,a1.getD a3.toNat (Ao TC.rows),0)) (a0,a1.getD a3.toNat (Ao TC.rows),0))]
def Xp (x:CD):BG:=[(some 4,some (!decide (x.2.2.2 <x.2.2.1)),⟨122,0,[(7,iV (x.1))],[]⟩)]
def Fc (x:CD):Nat:=(x.2.2.1 - x.2.2.2).toNat
def Kp (x:CD):CD:=Bj Fe Fd (Fc x) x
theorem Acg (a0:Int) (a1:List (List AW)) (a2 a3:Int) (hp:∀p∈Gm (a0,a1,a2,a3),p):∀p∈Pt (a0,a1,a2,a3),p:=
  (nT hp fun hp=>Aa (by intros;rfl) (nT hp fun _=>An))
def Y3:=Jg (CP Yj.1 Me.1) (AQ Bb 10 4) Afl Afk Q8 Fc Fe Fd Gm Xp
def Sf:=WA 4 (g:=Y3) (CR (T:=Afm) (psA:=Pt) Yj.2 Me.2 (u:=9) (by kernel_rfl) (by decide) (fun⟨a0,a1,a2,a3⟩=>by kernel_rfl) (fun⟨a0,a1,a2,a3⟩=>Acg a0 a1 a2 a3) (fun s x h=>by unfold Q8 at h;split at h<;>first|(cases h;rfl)|cases h) (fun _=>Bm (n:=122) rfl) fun _ _=>rfl) Me
def NQ (a0:List Ae) (a1:List Ar) (a2:List (List AW)):Bool:=decide ((Kp ((C3 (a1,AN 0 (a0.length:Int) 6000,0)).2.1,a2,(a2.length:Int),0)).1≤6000)
def Aao (a0:List Ae) (a1:List Ar) (a2:List (List AW)):A:=.v (.bool (NQ a0 a1 a2))
def Xs (a0:List Ae) (a1:List Ar) (a2:List (List AW)):List Prop:=[(A3 E8 E7 Gk (E6 (a1,AN 0 (a0.length:Int) 6000,0)) (a1,AN 0 (a0.length:Int) 6000,0)),(A3 Fe Fd Gm (Fc ((C3 (a1,AN 0 (a0.length:Int) 6000,0)).2.1,a2,(a2.length:Int),0)) ((C3 (a1,AN 0 (a0.length:Int) 6000,0)).2.1,a2,(a2.length:Int),0))]
theorem Ano (a0:List Ae) (a1:List Ar) (a2:List (List AW)):Tx (CP Yj.1 Sf.1) 9 10 [.sl .group a0,.sl .change a1,.sl .rows a2] 0 []=some (1,Aao a0 a1 a2,0,[],[(AQ Bb (10:FuncId) 0=AQ Bb (10:FuncId) 0),(A3 E8 E7 Gk (E6 (a1,AN 0 (a0.length:Int) 6000,0)) (a1,AN 0 (a0.length:Int) 6000,0)),(AQ Bb (10:FuncId) 4=AQ Bb (10:FuncId) 4),(A3 Fe Fd Gm (Fc ((C3 (a1,AN 0 (a0.length:Int) 6000,0)).2.1,a2,(a2.length:Int),0)) ((C3 (a1,AN 0 (a0.length:Int) 6000,0)).2.1,a2,(a2.length:Int),0))]):=by kernel_rfl
theorem Asl (a0:List Ae) (a1:List Ar) (a2:List (List AW)) (hp:∀p∈Xs a0 a1 a2,p):Ax Bb 10 [.sl .group a0,.sl .change a1,.sl .rows a2] 0 [] 1 (Aao a0 a1 a2) 0 []:=
  Bh (AU Yj.2 Sf.2) (Ano a0 a1 a2) (Aa rfl (nT hp fun hp=>Aa rfl (nT hp fun _=>An)))
def Xu (a0:List Ae) (a1:List Ar) (a2:List (List AW)):A:=.v (.bool (NQ a0 a1 a2))
def QV (c:Ar):Prop:=AT c.writes.length∧∀w∈c.writes,AT w.key.size∧AT w.value.size
def X4 (c:Ar):Prop:=c.writes.length≤6000∧∀w∈c.writes,w.key.size≤6000∧w.value.size≤6000
def UE (a0:List Ae) (a1:List Ar) (a2:List (List AW)):List Prop:=[AT a0.length∧(AT a1.length∧∀c∈a1,QV c)∧AT a2.length∧∀x∈a2,AT x.length∧∀r∈x,U3 r]
theorem Ab1 {n k:Int} (hn:0≤n) (hk:0≤k∧k≤9223372036854775807):0≤AN n k 6000∧(AN n k 6000≤6000→n+k≤AN n k 6000∧n+k≤6000):=by
 obtain⟨h1,h2,h3⟩:=Bf7 (n:=n) (k:=k) (m:=6000) hn hk (by omega)
 exact⟨h2,fun h=>⟨by rw[h3 (h1 h)];omega,h1 h⟩⟩
theorem Ai5 (rows:List AW) (i:Nat) (_hi:i <rows.length) (n0:Int) (h0:0≤n0) (hl:AT (rows.getD i (Ao TC.row)).cells.length) (hw:∀c∈(rows.getD i (Ao TC.row)).cells,AT c.value.size):
  A3 DU DT Gn (DS (n0,rows,(i:Int),0)) (n0,rows,(i:Int),0)∧
  0≤(FL (n0,rows,(i:Int),0)).1∧((FL (n0,rows,(i:Int),0)).1≤6000→n0+10*((rows.getD i (Ao TC.row)).cells.length:Int)≤(FL (n0,rows,(i:Int),0)).1∧∀c∈(rows.getD i (Ao TC.row)).cells,c.value.size≤6000):=by
 generalize ca:(rows.getD i (Ao TC.row)).cells=cs at*
 have dw:(rows.getD i (Ao TC.row)).2=cs:=ca
 have cp:∀(k:Nat) (n:Int),Ff n rows (i:Int) (k:Int)=(decide (k <cs.length)&&(false||decide (n≤6000))):=fun k n=>by
  unfold Ff
  rw[Int.toNat_natCast,dw,nn,Ux,Bool.false_or]
 unfold AT at hl
 obtain⟨h1,k,n',hx,h2,h3⟩:=RH (fun k n=>((n,rows,(i:Int),(k:Int)):CF)) cs.length (fun k n=>AN (AN n 10 6000) ((cs.getD k (Ao TC.cell)).4.size:Int) 6000) (fun k=>(cs.getD k (Ao TC.cell)).value.size≤6000) 6000 10 false DU DT Gn (DS (n0,rows,(i:Int),0)) (n0,rows,(i:Int),0) n0 rfl
  (by show cs.length≤(((rows.getD ((i:Int)).toNat (Ao TC.row)).2.length:Int) - 0).toNat;rw[Int.toNat_natCast,dw];omega) h0
  (fun k n hk hn=>by
   obtain⟨a1,a2⟩:=Ab1 (k:=10) hn (by omega)
   obtain⟨b1,b2⟩:=Ab1 a1 (Al0 (hw _ (getD_in cs (Ao TC.cell) k hk)))
   refine⟨b1,fun h=>?_⟩
   obtain⟨c1,c2⟩:=b2 h
   obtain⟨d1,d2⟩:=a2 (by omega)
   exact⟨by omega,by show(cs.getD k (Ao TC.cell)).4.size≤6000;omega⟩)
  (by omega)
  (fun k n _=>cp k n)
  (fun k n hk _=>by
   show(Kq n rows (i:Int) (k:Int),rows,(i:Int),IntKind.i64.wrap ((k:Int)+1))=(_,rows,(i:Int),((k+1:Nat):Int))
   rw[JK (by omega)]
   unfold Kq
   rw[Int.toNat_natCast,Int.toNat_natCast,dw])
  (fun k n _ _=>Aa (by show(0:Int)≤(i:Int)∧(i:Int) <(rows.length:Int);omega) (Aa (fun _=>by show(0:Int)≤(i:Int)∧(i:Int) <(rows.length:Int);omega) (Aa (fun h=>by
   have h':Ff n rows (i:Int) (k:Int)=true:=h
   rw[cp,Bool.and_eq_true] at h'
   have:=of_decide_eq_true h'.1
   show(0:Int)≤(k:Int)∧(k:Int) <((rows.getD ((i:Int)).toNat (Ao TC.row)).2.length:Int)
   rw[Int.toNat_natCast,dw]
   omega) An)))
 have hr:FL (n0,rows,(i:Int),0)=(n',rows,(i:Int),(k:Int)):=hx
 rw[hr]
 exact⟨h1,h2,fun h=>⟨(h3 h).1,O0 (h3 h).2⟩⟩
theorem Anq (rows:List AW) (n0:Int) (h0:0≤n0) (hl:AT rows.length) (hw:∀r∈rows,U3 r):
  A3 DR DQ Fk (DP (n0,rows,0)) (n0,rows,0)∧
  0≤(FK (n0,rows,0)).1∧((FK (n0,rows,0)).1≤6000→n0+10*(rows.length:Int)≤(FK (n0,rows,0)).1∧∀r∈rows,Ahu 6000 r):=by
 have cp:∀(k:Nat) (n:Int),CQ n rows (k:Int)=(decide (k <rows.length)&&(false||decide (n≤6000))):=fun k n=>by
  unfold CQ
  rw[nn,Ux,Bool.false_or]
 unfold AT at hl
 have ar:∀(i:Nat) (n:Int),i <rows.length→0≤n→_:=fun i n hi hn=>
  Ai5 rows i hi (AN (AN n 10 6000) ((rows.getD i (Ao TC.row)).1.size:Int) 6000) (Ab1 (Ab1 hn (by omega)).1 (Al0 (hw _ (getD_in rows (Ao TC.row) i hi)).1)).1 (hw _ (getD_in rows (Ao TC.row) i hi)).2.1 (hw _ (getD_in rows (Ao TC.row) i hi)).2.2
 obtain⟨h1,k,n',hx,h2,h3⟩:=RH (fun k n=>((n,rows,(k:Int)):CE)) rows.length (fun k n=>IL n rows (k:Int)) (fun k=>Ahu 6000 (rows.getD k (Ao TC.row))) 6000 10 false DR DQ Fk (DP (n0,rows,0)) (n0,rows,0) n0 rfl
  (by show rows.length≤((rows.length:Int) - 0).toNat;omega) h0
  (fun k n hk hn=>by
   obtain⟨_,g2,g3⟩:=ar k n hk hn
   obtain⟨a1,a2⟩:=Ab1 (k:=10) hn (by omega)
   obtain⟨b1,b2⟩:=Ab1 a1 (Al0 (hw _ (getD_in rows (Ao TC.row) k hk)).1)
   unfold IL
   rw[Int.toNat_natCast]
   refine⟨g2,fun h=>?_⟩
   obtain⟨c1,c2⟩:=g3 h
   have h':(FL (AN (AN n 10 6000) ((rows.getD k (Ao TC.row)).1.size:Int) 6000,rows,(k:Int),0)).1≤6000:=h
   obtain⟨d1,d2⟩:=b2 (by omega)
   obtain⟨e1,e2⟩:=a2 (by omega)
   exact⟨by omega,by show(rows.getD k (Ao TC.row)).1.size≤6000;omega,by omega,c2⟩)
  (by omega)
  (fun k n _=>cp k n)
  (fun k n hk _=>by
   show(IL n rows (k:Int),rows,IntKind.i64.wrap ((k:Int)+1))=(_,rows,((k+1:Nat):Int))
   rw[JK (by omega)])
  (fun k n hk hn=>by
   have ae:CQ n rows (k:Int)=true→k <rows.length:=fun h=>by
    rw[cp,Bool.and_eq_true] at h
    exact of_decide_eq_true h.1
   refine Aa (fun h=>?_) (Aa (fun h=>?_) An)
   ·have:=ae h
    show(0:Int)≤(k:Int)∧(k:Int) <(rows.length:Int)
    omega
   ·have:=(ar k n (ae h) hn).1
    have e:((k:Int)).toNat=k:=Int.toNat_natCast k
    show A3 DU DT Gn (DS (AN (AN n 10 6000) ((rows.getD ((k:Int)).toNat (Ao TC.row)).1.size:Int) 6000,rows,(k:Int),0)) (AN (AN n 10 6000) ((rows.getD ((k:Int)).toNat (Ao TC.row)).1.size:Int) 6000,rows,(k:Int),0)
    rw[e]
    exact this)
 have hr:FK (n0,rows,0)=(n',rows,(k:Int)):=hx
 rw[hr]
 exact⟨h1,h2,fun h=>⟨(h3 h).1,O0 (h3 h).2⟩⟩
theorem Asz (xs:List (List AW)) (n0:Int) (h0:0≤n0) (hl:AT xs.length) (hw:∀x∈xs,AT x.length∧∀r∈x,U3 r):
  A3 Fe Fd Gm (Fc (n0,xs,(xs.length:Int),0)) (n0,xs,(xs.length:Int),0)∧
  ((Kp (n0,xs,(xs.length:Int),0)).1≤6000→n0≤6000∧∀x∈xs,x.length≤6000∧∀r∈x,Ahu 6000 r):=by
 unfold AT at hl
 have ar:∀(i:Nat) (n:Int),i <xs.length→0≤n→_:=fun i n hi hn=>
  Anq (xs.getD i (Ao TC.rows)) n hn (hw _ (getD_in xs (Ao TC.rows) i hi)).1 (hw _ (getD_in xs (Ao TC.rows) i hi)).2
 obtain⟨h1,k,n',hx,h2,h3⟩:=RH (fun k n=>((n,xs,(xs.length:Int),(k:Int)):CD)) xs.length (fun k n=>IK n xs (k:Int)) (fun k=>(xs.getD k (Ao TC.rows)).length≤6000∧∀r∈xs.getD k (Ao TC.rows),Ahu 6000 r) 6000 0 true Fe Fd Gm (Fc (n0,xs,(xs.length:Int),0)) (n0,xs,(xs.length:Int),0) n0 rfl
  (by show xs.length≤((xs.length:Int) - 0).toNat;omega) h0
  (fun k n hk hn=>by
   obtain⟨_,g2,g3⟩:=ar k n hk hn
   unfold IK
   rw[Int.toNat_natCast]
   refine⟨g2,fun h=>?_⟩
   obtain⟨c1,c2⟩:=g3 h
   have h':(FK (n,xs.getD k (Ao TC.rows),0)).1≤6000:=h
   exact⟨by omega,by omega,c2⟩)
  (Int.le_refl _)
  (fun k n _=>by
   show(!!decide ((k:Int) <(xs.length:Int)))=_
   rw[nn,Ux,Bool.true_or,Bool.and_true])
  (fun k n hk _=>by
   show(IK n xs (k:Int),xs,(xs.length:Int),IntKind.i64.wrap ((k:Int)+1))=(_,xs,(xs.length:Int),((k+1:Nat):Int))
   rw[JK (by omega)])
  (fun k n hk hn=>by
   have ae:(!!decide ((k:Int) <(xs.length:Int)))=true→k <xs.length:=fun h=>by
    rw[nn] at h
    have:=of_decide_eq_true h
    omega
   refine Aa (fun h=>?_) (Aa (fun h=>?_) An)
   ·have:=ae h
    show(0:Int)≤(k:Int)∧(k:Int) <(xs.length:Int)
    omega
   ·have:=(ar k n (ae h) hn).1
    have e:((k:Int)).toNat=k:=Int.toNat_natCast k
    show A3 DR DQ Fk (DP (n,xs.getD ((k:Int)).toNat (Ao TC.rows),0)) (n,xs.getD ((k:Int)).toNat (Ao TC.rows),0)
    rw[e]
    exact this)
 have hr:Kp (n0,xs,(xs.length:Int),0)=(n',xs,(xs.length:Int),(k:Int)):=hx
 rw[hr]
 exact⟨h1,fun h=>⟨by have h':n'≤6000:=h;have:=(h3 h).1;omega,O0 (h3 h).2⟩⟩
theorem Af1 (cs:List Ar) (i:Nat) (_hi:i <cs.length) (n0:Int) (h0:0≤n0) (hw:QV (cs.getD i (Ao TC.change))):
  A3 Fb Fa Gl (E9 (cs,n0,(i:Int),0)) (cs,n0,(i:Int),0)∧
  0≤(FJ (cs,n0,(i:Int),0)).2.1∧((FJ (cs,n0,(i:Int),0)).2.1≤6000→n0≤(FJ (cs,n0,(i:Int),0)).2.1∧X4 (cs.getD i (Ao TC.change))):=by
 obtain⟨hl,hw⟩:=hw
 unfold X4
 generalize ca:(cs.getD i (Ao TC.change)).writes=ws at*
 have dw:(cs.getD i (Ao TC.change)).5=ws:=ca
 have cp:∀(k:Nat) (n:Int),Bw cs n (i:Int) (k:Int)=(decide (k <ws.length)&&(false||decide (n≤6000))):=fun k n=>by
  unfold Bw
  rw[Int.toNat_natCast,dw,nn,Ux,Bool.false_or]
 unfold AT at hl
 obtain⟨h1,k,n',hx,h2,h3⟩:=RH (fun k n=>((cs,n,(i:Int),(k:Int)):CC)) ws.length (fun k n=>AN (AN (AN n 10 6000) ((ws.getD k (Ao TC.write)).1.size:Int) 6000) ((ws.getD k (Ao TC.write)).4.size:Int) 6000) (fun k=>(ws.getD k (Ao TC.write)).key.size≤6000∧(ws.getD k (Ao TC.write)).value.size≤6000) 6000 10 false Fb Fa Gl (E9 (cs,n0,(i:Int),0)) (cs,n0,(i:Int),0) n0 rfl
  (by show ws.length≤(((cs.getD ((i:Int)).toNat (Ao TC.change)).5.length:Int) - 0).toNat;rw[Int.toNat_natCast,dw];omega) h0
  (fun k n hk hn=>by
   obtain⟨w1,w2⟩:=hw _ (getD_in ws (Ao TC.write) k hk)
   obtain⟨a1,a2⟩:=Ab1 (k:=10) hn (by omega)
   obtain⟨b1,b2⟩:=Ab1 a1 (Al0 w1)
   obtain⟨f1,f2⟩:=Ab1 b1 (Al0 w2)
   refine⟨f1,fun h=>?_⟩
   obtain⟨g1,g2⟩:=f2 h
   obtain⟨c1,c2⟩:=b2 (by omega)
   obtain⟨d1,d2⟩:=a2 (by omega)
   exact⟨by omega,by omega,by omega⟩)
  (by omega)
  (fun k n _=>cp k n)
  (fun k n hk _=>by
   show(cs,Ko cs n (i:Int) (k:Int),(i:Int),IntKind.i64.wrap ((k:Int)+1))=(cs,_,(i:Int),((k+1:Nat):Int))
   rw[JK (by omega)]
   unfold Ko
   rw[Int.toNat_natCast,Int.toNat_natCast,dw])
  (fun k n _ _=>Aa (by show(0:Int)≤(i:Int)∧(i:Int) <(cs.length:Int);omega) (Aa (fun _=>by show(0:Int)≤(i:Int)∧(i:Int) <(cs.length:Int);omega) (Aa (fun h=>by
   have h':Bw cs n (i:Int) (k:Int)=true:=h
   rw[cp,Bool.and_eq_true] at h'
   have:=of_decide_eq_true h'.1
   show(0:Int)≤(k:Int)∧(k:Int) <((cs.getD ((i:Int)).toNat (Ao TC.change)).5.length:Int)
   rw[Int.toNat_natCast,dw]
   omega) An)))
 have hr:FJ (cs,n0,(i:Int),0)=(cs,n',(i:Int),(k:Int)):=hx
 rw[hr]
 refine⟨h1,h2,fun h=>?_⟩
 have h':n'≤6000:=h
 obtain⟨q1,q2⟩:=h3 h
 refine⟨by show n0≤n';omega,by omega,?_⟩
 exact O0 (P:=fun w:AY=>w.key.size≤6000∧w.value.size≤6000) q2
theorem Acj (cs:List Ar) (n0:Int) (h0:0≤n0) (hl:AT cs.length) (hw:∀c∈cs,QV c):
  A3 E8 E7 Gk (E6 (cs,n0,0)) (cs,n0,0)∧
  0≤(C3 (cs,n0,0)).2.1∧((C3 (cs,n0,0)).2.1≤6000→n0+10*(cs.length:Int)≤(C3 (cs,n0,0)).2.1∧∀c∈cs,X4 c):=by
 have cp:∀(k:Nat) (n:Int),DO cs n (k:Int)=(decide (k <cs.length)&&(false||decide (n≤6000))):=fun k n=>by
  unfold DO
  rw[nn,Ux,Bool.false_or]
 unfold AT at hl
 have ar:∀(i:Nat) (n:Int),i <cs.length→0≤n→_:=fun i n hi hn=>
  Af1 cs i hi (AN n 10 6000) (Ab1 hn (by omega)).1 (hw _ (getD_in cs (Ao TC.change) i hi))
 obtain⟨h1,k,n',hx,h2,h3⟩:=RH (fun k n=>((cs,n,(k:Int)):CB)) cs.length (fun k n=>IJ cs n (k:Int)) (fun k=>X4 (cs.getD k (Ao TC.change))) 6000 10 false E8 E7 Gk (E6 (cs,n0,0)) (cs,n0,0) n0 rfl
  (by show cs.length≤((cs.length:Int) - 0).toNat;omega) h0
  (fun k n hk hn=>by
   obtain⟨_,g2,g3⟩:=ar k n hk hn
   obtain⟨a1,a2⟩:=Ab1 (k:=10) hn (by omega)
   unfold IJ
   refine⟨g2,fun h=>?_⟩
   obtain⟨c1,c2⟩:=g3 h
   have h':(FJ (cs,AN n 10 6000,(k:Int),0)).2.1≤6000:=h
   obtain⟨e1,e2⟩:=a2 (by omega)
   exact⟨by omega,c2⟩)
  (by omega)
  (fun k n _=>cp k n)
  (fun k n hk _=>by
   show(cs,IJ cs n (k:Int),IntKind.i64.wrap ((k:Int)+1))=(cs,_,((k+1:Nat):Int))
   rw[JK (by omega)])
  (fun k n hk hn=>Aa (fun h=>by
    have h':DO cs n (k:Int)=true:=h
    rw[cp,Bool.and_eq_true] at h'
    exact(ar k n (of_decide_eq_true h'.1) hn).1) An)
 have hr:C3 (cs,n0,0)=(cs,n',(k:Int)):=hx
 rw[hr]
 exact⟨h1,h2,fun h=>⟨(h3 h).1,O0 (h3 h).2⟩⟩
theorem Af0 (l:List Ae) (cs:List Ar) (xs:List (List AW)) (hl:AT l.length) (hc:AT cs.length∧∀c∈cs,QV c) (hr:AT xs.length) (hw:∀x∈xs,AT x.length∧∀r∈x,U3 r):(∀p∈Xs l cs xs,p)∧
  (NQ l cs xs=true→l.length≤6000∧(cs.length≤6000∧∀c∈cs,X4 c)∧∀x∈xs,x.length≤6000∧∀r∈x,Ahu 6000 r):=by
 obtain⟨a1,a2⟩:=Ab1 (n:=0) (k:=(l.length:Int)) (Int.le_refl _) (Al0 hl)
 obtain⟨b1,b2,b3⟩:=Acj cs _ a1 hc.1 hc.2
 obtain⟨c1,c2⟩:=Asz xs _ b2 hr hw
 refine⟨Aa b1 (Aa c1 An),fun h=>?_⟩
 have h':=of_decide_eq_true h
 obtain⟨d1,d2⟩:=c2 h'
 obtain⟨e1,e2⟩:=b3 d1
 have:=a2 (by omega)
 exact⟨by omega,⟨by omega,e2⟩,d2⟩
theorem Ann (a0:List Ae) (a1:List Ar) (a2:List (List AW)) (hp:∀p∈UE a0 a1 a2,p):Ax Bb 10 [.sl .group a0,.sl .change a1,.sl .rows a2] 0 [] 1 (Xu a0 a1 a2) 0 []:=by
 obtain⟨h1,h2,h3,h4⟩:=hp _ (List.mem_cons_self ..)
 exact Asl a0 a1 a2 (Af0 a0 a1 a2 h1 h2 h3 h4).1
theorem UF:IE Bb 10 (Et [.l .group,.l .change,.l .rows] 0 Xu (fun _ _ _=>[]) UE):=A8 Ann
def A4z:=Gi UF Yj
abbrev Cm:Type:=(List Ae)×ByteArray×(List AW)×Int×Int
def Acm (x:Cm):St:=⟨38,0,[(0,.sl .group x.1),(6,.v (.string x.2.1)),(15,.sl .row x.2.2.1),(16,iV (x.2.2.2.1)),(17,iV (x.2.2.2.2))],[]⟩
def PC:St→Option Cm
 |⟨38,0,[(0,.sl .group z0),(6,.v (.string z1)),(15,.sl .row z2),(16,.v (.int .i64 z3)),(17,.v (.int .i64 z4))],[]⟩=>some (z0,z1,z2,z3,z4)
 |_=>none
def Acl:E2:=⟨0,0,[0,6,15,16,17],[],[],[],[4],[]⟩
def Ack:Fz:=⟨[],[],[0,6,15,16,17],[]⟩
def FX (a0:List Ae) (a2:List AW) (a4:Int):Bool:=BJ a0 (a2.getD a4.toNat (Ao TC.row)) !=0
def Dy (a0:List Ae) (a1:ByteArray) (a2:List AW) (a3 a4:Int):Bool:=!!decide (a4 <a3)&&((FX a0 a2 a4)||(Up (a2.getD a4.toNat (Ao TC.row))||(Op.bytesLess (a2.getD a4.toNat (Ao TC.row)).1.toList a1.toList||(a2.getD a4.toNat (Ao TC.row)).1.toList==a1.toList)))
def XA (a2:List AW) (a4:Int):ByteArray:=(a2.getD a4.toNat (Ao TC.row)).1
def XB (a0:List Ae) (a1:ByteArray) (a2:List AW) (a3 a4:Int):Bool:=!!decide (a4 <a3)&&!(Dy a0 a1 a2 a3 a4)
def FW (a0:List Ae) (a2:List AW) (a4:Int):Int:=bif(FX a0 a2 a4) then BJ a0 (a2.getD a4.toNat (Ao TC.row)) else 100
def F4:Cm→Cm
  |(a0,_,a2,a3,a4)=>(a0,XA a2 a4,a2,a3,IntKind.i64.wrap (a4+1))
def FZ (x:Cm):DB:=some (XB x.1 x.2.1 x.2.2.1 x.2.2.2.1 x.2.2.2.2)
def NU:Cm→List Prop
  |(a0,_,a2,a3,a4)=>[((!!decide (a4 <a3))=true→0≤a4∧a4 <(a2.length:Int)),((!!decide (a4 <a3))=true→(!(FX a0 a2 a4))=true→Ai (a2.getD a4.toNat (Ao TC.row)).2.length)]
abbrev IN:Cm→List Prop:=NU
def V0:Cm→BG
  |(a0,a1,a2,a3,a4)=>[(some 0,some (!decide (a4 <a3)),⟨38,0,[(4,.dead)],[]⟩),(none,some ((Dy a0 a1 a2 a3 a4)),⟨38,1,[(4,.v (.int .i64 (FW a0 a2 a4)))],[]⟩)]
def FY (x:Cm):Nat:=(x.2.2.2.1 - x.2.2.2.2).toNat
def Fg (x:Cm):Cm:=Bj F4 FZ (FY x) x
def XC:=Jg (CP A4z.1 L0) (AQ Bb 36 0) Acl Ack PC FY F4 FZ IN V0
def Re:=WA 0 (g:=XC) (CR (T:=Acm) (psA:=NU) A4z.2 A9 (u:=9) (by kernel_rfl) (by decide) (fun⟨a0,a1,a2,a3,a4⟩=>by kernel_rfl) (fun _ h=>h) (fun s x h=>by unfold PC at h;split at h<;>first|(cases h;rfl)|cases h) (fun _=>Bm (n:=38) rfl) fun _ _=>rfl) ⟨L0,A9⟩
def KL (a0:List Ae):Bool:=A1 a0 !=0
def Oy (a0:List Ae) (a1:List AW):List Ae:=(Fg (a0,ByteArray.mk #[],a1,(a1.length:Int),0)).1
def UJ (a0:List Ae) (a1:List AW):ByteArray:=(Fg (a0,ByteArray.mk #[],a1,(a1.length:Int),0)).2.1
def Ox (a0:List Ae) (a1:List AW):List AW:=(Fg (a0,ByteArray.mk #[],a1,(a1.length:Int),0)).2.2.1
def Ow (a0:List Ae) (a1:List AW):Int:=(Fg (a0,ByteArray.mk #[],a1,(a1.length:Int),0)).2.2.2.2
def UI (a0:List Ae) (a1:List AW):Int:=(Fg (a0,ByteArray.mk #[],a1,(a1.length:Int),0)).2.2.2.1
def QB (a0:List Ae) (a1:List AW):Int:=bif(KL a0) then A1 a0 else bif Dy (Oy a0 a1) (UJ a0 a1) (Ox a0 a1) (UI a0 a1) (Ow a0 a1) then FW (Oy a0 a1) (Ox a0 a1) (Ow a0 a1) else 0
def QC (a0:List Ae) (a1:List AW):A:=iV ((QB a0 a1))
def UK (a0:List Ae) (a1:List AW):List Prop:=[((!(KL a0))=true→A3 F4 FZ IN (FY (a0,ByteArray.mk #[],a1,(a1.length:Int),0)) (a0,ByteArray.mk #[],a1,(a1.length:Int),0))]
theorem Ai9 (a0:List Ae) (a1:List AW):Tx (CP A4z.1 Re.1) 9 36 [.sl .group a0,AX .rows a1] 0 []=some (1,QC a0 a1,0,[],[((!(KL a0))=true→AQ Bb (36:FuncId) 0=AQ Bb (36:FuncId) 0),((!(KL a0))=true→A3 F4 FZ IN (FY (a0,ByteArray.mk #[],a1,(a1.length:Int),0)) (a0,ByteArray.mk #[],a1,(a1.length:Int),0))]):=by kernel_rfl
theorem An0 (a0:List Ae) (a1:List AW) (hp:∀p∈UK a0 a1,p):Ax Bb 36 [.sl .group a0,AX .rows a1] 0 [] 1 (QC a0 a1) 0 []:=
  Bh (AU A4z.2 Re.2) (Ai9 a0 a1) (Aa (by intros;rfl) (nT hp fun _=>An))
def UL (a0:List Ae) (a1:List AW):A:=iV ((Pn a0 a1))
def So (_a0:List Ae) (a1:List AW):List Prop:=[AT a1.length]
theorem Az0 (l:List Ae) (rows:List AW) (i:Nat):(Acc l rows i !=0)=(BJ l (Ly rows i) !=0||(Up (Ly rows i)||leS (Ly rows i).key (Sh rows i))):=by
 unfold Acc
 cases h:BJ l (Ly rows i) !=0 with
 |true=>rw[cond_true,h,Bool.true_or]
 |false=>cases Up (Ly rows i)||leS (Ly rows i).key (Sh rows i)<;>rfl
theorem UH (l:List Ae) (rows:List AW) (hb:AT rows.length):(∀p∈UK l rows,p)∧QB l rows=Pn l rows:=by
 unfold AT at hb
 have hf:∀i:Nat,Dy l (Sh rows i) rows (rows.length:Int) (i:Int)=(decide (i <rows.length)&&Acc l rows i !=0):=fun i=>by
  rw[Az0]
  unfold Dy FX leS ltS
  rw[nn,Ux,Int.toNat_natCast,tlb]
  rfl
 obtain⟨h1,k,hk,hx,hs,hst,_⟩:=Abm (fun i=>((l,Sh rows i,rows,(rows.length:Int),(i:Int)):Cm)) rows.length (fun i=>Acc l rows i !=0) F4 FZ IN (FY (l,ByteArray.mk #[],rows,(rows.length:Int),0)) (l,ByteArray.mk #[],rows,(rows.length:Int),0) rfl (by show rows.length≤((rows.length:Int) - 0).toNat;omega)
  (fun i _ _=>by
   show((!!decide ((i:Int) <(rows.length:Int)))&&!Dy l (Sh rows i) rows (rows.length:Int) (i:Int))=_
   rw[hf,nn,Ux]
   cases decide (i <rows.length)<;>rfl)
  (fun i hi _=>by
   show(l,(rows.getD ((i:Int)).toNat (Ao TC.row)).1,rows,(rows.length:Int),IntKind.i64.wrap ((i:Int)+1))=(l,Sh rows (i+1),rows,(rows.length:Int),((i+1:Nat):Int))
   rw[JK (by omega),Int.toNat_natCast]
   rfl)
  (fun i hi _=>by
   have ar:(!!decide ((i:Int) <(rows.length:Int)))=true→(i:Int) <(rows.length:Int):=fun h=>by rw[nn] at h;exact of_decide_eq_true h
   refine Aa (fun h=>⟨by show(0:Int)≤(i:Int);omega,ar h⟩) (Aa (fun _ h2=>?_) An)
   have h3:BJ l (rows.getD ((i:Int)).toNat (Ao TC.row))=0:=by
    have h4:(!(BJ l (rows.getD ((i:Int)).toNat (Ao TC.row)) !=0))=true:=h2
    simpa using h4
   obtain⟨g1,g2,_⟩:=TD h3
   have:=(Qu g1).2
   show Ai (rows.getD ((i:Int)).toNat (Ao TC.row)).cells.length
   unfold Ai
   omega)
 have hr:Fg (l,ByteArray.mk #[],rows,(rows.length:Int),0)=(l,Sh rows k,rows,(rows.length:Int),(k:Int)):=hx
 refine⟨Aa (fun _=>h1) An,?_⟩
 unfold QB Pn
 show(bif A1 l !=0 then A1 l else _)=_
 congr 1
 unfold Oy UJ Ox Ow UI
 rw[hr]
 show(bif Dy l (Sh rows k) rows (rows.length:Int) (k:Int) then FW l rows (k:Int) else 0)=_
 rw[hf]
 have h0:Hs l rows k=0:=(Ae6 l rows k).2 fun i hi=>by simpa using hs i hi
 rcases Nat.lt_or_ge k rows.length with h|h
 ·have he:=hst h
  rw[decide_eq_true h,he]
  have e1:Hs l rows (k+1)=Acc l rows k:=by
   show(bif Hs l rows k !=0 then Hs l rows k else Acc l rows k)=_
   rw[h0];rfl
  have ao:Hs l rows (k+1)≠0:=by rw[e1];simpa using he
  rw[Aal ao rows.length h,e1]
  show FW l rows (k:Int)=_
  unfold FW FX
  rw[Int.toNat_natCast]
  rw[Az0] at he
  unfold Acc
  show(bif BJ l (Ly rows k) !=0 then BJ l (Ly rows k) else 100)=_
  cases hg:BJ l (Ly rows k) !=0 with
  |true=>rfl
  |false=>
   rw[hg,Bool.false_or] at he
   rw[he]
   rfl
 ·obtain rfl:k=rows.length:=by omega
  rw[decide_eq_false (Nat.lt_irrefl _),h0]
  rfl
theorem Ai8 (a0:List Ae) (a1:List AW) (hp:∀p∈So a0 a1,p):Ax Bb 36 [.sl .group a0,AX .rows a1] 0 [] 1 (UL a0 a1) 0 []:=by
 have hb:AT a1.length:=hp _ (List.mem_cons_self ..)
 have h:=An0 a0 a1 (UH a0 a1 hb).1
 unfold QC at h
 rw[(UH a0 a1 hb).2] at h
 exact h
theorem Sp:IE Bb 36 (Et [.l .group,.t .rows] 0 UL (fun _ _=>[]) So):=A8 Ai8
def Blw:=Gi Sp A4z
abbrev Cn:=Blw
end Go.Proofs.YtifkbgkbajncjaaDoor

