/- made by a program (rowgen.py): ModelMerges: for every input the law returns true, and each argument reads behind the call as it read before. -/
import Derived.Test.YteebobbhhgmeiaaKMmf

set_option maxRecDepth 100000
namespace Go.Proofs.Yteebobbhhgmeiaa
open Go.RowKit
def wN (ws:List TWrite) (i:Nat):TWrite:=ws.getD i (Ab TC.write)
def Sg (a b:TWrite):Bool:=Ip a.key b.key||a.key==b.key&&decide (a.group <b.group)
def UO (l:List TGroup) (w:TWrite):Bool:=!(w.key.size==0)&&decide (w.key.size≤32)&&decide (0≤w.group)&&decide (w.group <(l.length:Int))&&decide (w.value.size≤64)&&(!w.gone||w.value.size==0)
def Ik (c:TChange):Bool:=(c.site==1||c.site==2)&&decide (1≤c.seq)&&decide (c.seq≤1099511627776)&&c.stamp.site==c.site&&In c.stamp&&CM c.vec&&(bif c.site==1 then c.vec.a else c.vec.b)==c.seq
def Re (l:List TGroup) (ws:List TWrite) (i:Nat):Bool:=!UO l (wN ws i)||decide (0 <i)&&!Sg (wN ws (i - 1)) (wN ws i)
def Ale (c:TChange):Bool:=decide (1≤c.writes.length)&&decide (c.writes.length≤8)
def LG (l:List TGroup) (c:TChange):Int:=bif AO l !=0 then AO l else bif Ik c&&Ale c&&JX c.writes.length (fun i=>!Re l c.writes i) then 0 else 120
def J2 (a0:TWrite):TPlace:=TPlace.mk a0.1 a0.2
def XL (a0:TWrite):A:=.v (.agg ⟨[.string ((J2 a0).key),.int .i64 ((J2 a0).group)]⟩)
def XK (_a0:TWrite):Objs:=[]
def U1 (_a0:TWrite):List Prop:=[]
theorem Bct (a0:TWrite):Eo (Au Cn L0) 9 174 [Af .write a0] 0 []=some (1,XL a0,0,XK a0,U1 a0):=by kernel_rfl
theorem Bi1 (a0:TWrite) (hp:∀p∈U1 a0,p):CallOk Try.prog 174 [Af .write a0] 0 [] 1 (XL a0) 0 (XK a0):=Ax (Ap Bh4 Av) (Bct a0) hp
def Ar5:List A→Nat→Objs→Option AV:=A7 [.t .write] 0 XL XK U1
theorem A65:ET Try.prog 174 Ar5:=Aq (ks:=[.t .write]) Bi1
noncomputable def Bw3:=AU 174 Ar5 Cn
theorem Bhc:CD Try.prog Bw3:=Ak A65 Bh4
def H1 (a0:TPlace) (a1:TPlace):Bool:=Op.bytesLess a0.1.toList a1.1.toList||a0.1.toList==a1.1.toList&&decide (a0.2 <a1.2)
def J4 (a0:TPlace) (a1:TPlace):A:=.v (.bool (H1 a0 a1))
def J3 (_a0:TPlace) (_a1:TPlace):Objs:=[]
def JK (_a0:TPlace) (_a1:TPlace):List Prop:=[]
theorem Xg (a0:TPlace) (a1:TPlace):Eo (Au Bw3 L0) 9 175 [Af .place a0,Af .place a1] 0 []=some (1,J4 a0 a1,0,J3 a0 a1,JK a0 a1):=by kernel_rfl
theorem XM (a0:TPlace) (a1:TPlace) (hp:∀p∈JK a0 a1,p):CallOk Try.prog 175 [Af .place a0,Af .place a1] 0 [] 1 (J4 a0 a1) 0 (J3 a0 a1):=Ax (Ap Bhc Av) (Xg a0 a1) hp
def NW:List A→Nat→Objs→Option AV:=A7 [.t .place,.t .place] 0 J4 J3 JK
theorem U2:ET Try.prog 175 NW:=Aq (ks:=[.t .place,.t .place]) XM
noncomputable def Bw4:=AU 175 NW Bw3
theorem Bhd:CD Try.prog Bw4:=Ak U2 Bhc
def R1 (a0:TWrite) (a1:TWrite):Bool:=bif !a0.1.toList==a1.1.toList then Op.bytesLess a0.1.toList a1.1.toList else decide (a0.2 <a1.2)
def ZI (a0:TWrite) (a1:TWrite):A:=.v (.bool (R1 a0 a1))
def ZH (_a0:TWrite) (_a1:TWrite):Objs:=[]
def VF (_a0:TWrite) (_a1:TWrite):List Prop:=[]
theorem Bfp (a0:TWrite) (a1:TWrite):Eo (Au Bw4 L0) 9 177 [Af .write a0,Af .write a1] 0 []=some (1,ZI a0 a1,0,ZH a0 a1,VF a0 a1):=by kernel_rfl
theorem Bme (a0:TWrite) (a1:TWrite) (hp:∀p∈VF a0 a1,p):CallOk Try.prog 177 [Af .write a0,Af .write a1] 0 [] 1 (ZI a0 a1) 0 (ZH a0 a1):=Ax (Ap Bhd Av) (Bfp a0 a1) hp
def Aum:List A→Nat→Objs→Option AV:=A7 [.t .write,.t .write] 0 ZI ZH VF
theorem A8q:ET Try.prog 177 Aum:=Aq (ks:=[.t .write,.t .write]) Bme
noncomputable def Bw5:=AU 177 Aum Bw4
theorem Bhe:CD Try.prog Bw5:=Ak A8q Bhd
def LL (a0:List TGroup) (a1:TWrite):Bool:=TI a1.1==(0:Int)&&decide (a1.2≥(0:Int))&&decide (a1.2 <(↑a0.length:Int))&&decide ((↑a1.4.size:Int)≤(64:Int))&&(!a1.3||a1.4.toList==(ByteArray.mk #[]).toList)
def ZK (a0:List TGroup) (a1:TWrite):A:=.v (.bool (LL a0 a1))
def ZJ (_a0:List TGroup) (_a1:TWrite):Objs:=[]
def VG (_a0:List TGroup) (_a1:TWrite):List Prop:=[]
theorem Bfq (a0:List TGroup) (a1:TWrite):Eo (Au Bw5 L0) 9 176 [.sl .group a0,Af .write a1] 0 []=some (1,ZK a0 a1,0,ZJ a0 a1,VG a0 a1):=by kernel_rfl
theorem Bmg (a0:List TGroup) (a1:TWrite) (hp:∀p∈VG a0 a1,p):CallOk Try.prog 176 [.sl .group a0,Af .write a1] 0 [] 1 (ZK a0 a1) 0 (ZJ a0 a1):=Ax (Ap Bhe Av) (Bfq a0 a1) hp
def Aun:List A→Nat→Objs→Option AV:=A7 [.l .group,.t .write] 0 ZK ZJ VG
theorem A8r:ET Try.prog 176 Aun:=Aq (ks:=[.l .group,.t .write]) Bmg
noncomputable def B5i:=AU 176 Aun Bw5
theorem Bw6:CD Try.prog B5i:=Ak A8r Bhe
noncomputable def Bw7:=AU 36 Anu B5i
theorem Bhf:CD Try.prog Bw7:=Ak Arx Bw6
def JF (a0:Int) (_a1:TStamp) (_a2:TVec) (a3:Bool) (_a4:ByteArray):Bool:=a0==(2:Int)&&a3
def JE (_a0:Int) (_a1:TStamp) (_a2:TVec) (_a3:Bool) (a4:ByteArray):Bool:=decide ((↑a4.size:Int) >(64:Int))
def IK (a0:Int) (a1:TStamp) (a2:TVec) (a3:Bool) (a4:ByteArray):Bool:=a0 !=(1:Int)&&a0 !=(2:Int)||!HD a1||a1.1==(0:Int)||!E8 a2||a3&&!a4.toList==(ByteArray.mk #[]).toList
def Kf (a0:Int) (a1:TStamp) (a2:TVec) (a3:Bool) (a4:ByteArray):TCell:=TCell.mk (TStamp.mk (bif(IK a0 a1 a2 a3 a4) then(0:Int) else bif(JE a0 a1 a2 a3 a4) then(0:Int) else bif(JF a0 a1 a2 a3 a4) then(0:Int) else a1.1) (bif(IK a0 a1 a2 a3 a4) then(0:Int) else bif(JE a0 a1 a2 a3 a4) then(0:Int) else bif(JF a0 a1 a2 a3 a4) then(0:Int) else a1.2)) (TVec.mk (bif(IK a0 a1 a2 a3 a4) then(0:Int) else bif(JE a0 a1 a2 a3 a4) then(0:Int) else bif(JF a0 a1 a2 a3 a4) then(0:Int) else a2.1) (bif(IK a0 a1 a2 a3 a4) then(0:Int) else bif(JE a0 a1 a2 a3 a4) then(0:Int) else bif(JF a0 a1 a2 a3 a4) then(0:Int) else a2.2)) (bif(IK a0 a1 a2 a3 a4) then false else bif(JE a0 a1 a2 a3 a4) then false else bif(JF a0 a1 a2 a3 a4) then false else a3) (bif(IK a0 a1 a2 a3 a4) then ByteArray.mk #[] else bif(JE a0 a1 a2 a3 a4) then ByteArray.mk #[] else bif(JF a0 a1 a2 a3 a4) then ByteArray.mk #[] else a4) (TVec.mk (bif(IK a0 a1 a2 a3 a4) then(0:Int) else bif(JE a0 a1 a2 a3 a4) then(0:Int) else bif(JF a0 a1 a2 a3 a4) then a2.1 else(0:Int)) (bif(IK a0 a1 a2 a3 a4) then(0:Int) else bif(JE a0 a1 a2 a3 a4) then(0:Int) else bif(JF a0 a1 a2 a3 a4) then a2.2 else(0:Int)))
def B0y (a0:Int) (a1:TStamp) (a2:TVec) (a3:Bool) (a4:ByteArray):Int:=bif(IK a0 a1 a2 a3 a4) then(2:Int) else bif(JE a0 a1 a2 a3 a4) then(3:Int) else bif(JF a0 a1 a2 a3 a4) then(0:Int) else(0:Int)
def A3q (a0:Int) (a1:TStamp) (a2:TVec) (a3:Bool) (a4:ByteArray):A:=.v (.tuple ⟨[.agg ⟨[.int .i64 ((Kf a0 a1 a2 a3 a4).stamp.n),.int .i64 ((Kf a0 a1 a2 a3 a4).stamp.site),.int .i64 ((Kf a0 a1 a2 a3 a4).vec.a),.int .i64 ((Kf a0 a1 a2 a3 a4).vec.b),.bool ((Kf a0 a1 a2 a3 a4).gone),.string ((Kf a0 a1 a2 a3 a4).value),.int .i64 ((Kf a0 a1 a2 a3 a4).dead.a),.int .i64 ((Kf a0 a1 a2 a3 a4).dead.b)]⟩,.int .i64 (B0y a0 a1 a2 a3 a4)]⟩)
def A3p (_a0:Int) (_a1:TStamp) (_a2:TVec) (_a3:Bool) (_a4:ByteArray):Objs:=[]
def Apz (_a0:Int) (_a1:TStamp) (_a2:TVec) (_a3:Bool) (_a4:ByteArray):List Prop:=[]
theorem Bvj (a0:Int) (a1:TStamp) (a2:TVec) (a3:Bool) (a4:ByteArray):Eo (Au Bw7 L0) 9 37 [Af .i64 a0,Af .stamp a1,Af .vec a2,Af .bool a3,Af .str a4] 0 []=some (1,A3q a0 a1 a2 a3 a4,0,A3p a0 a1 a2 a3 a4,Apz a0 a1 a2 a3 a4):=by kernel_rfl
theorem B0z (a0:Int) (a1:TStamp) (a2:TVec) (a3:Bool) (a4:ByteArray) (hp:∀p∈Apz a0 a1 a2 a3 a4,p):CallOk Try.prog 37 [Af .i64 a0,Af .stamp a1,Af .vec a2,Af .bool a3,Af .str a4] 0 [] 1 (A3q a0 a1 a2 a3 a4) 0 (A3p a0 a1 a2 a3 a4):=Ax (Ap Bhf Av) (Bvj a0 a1 a2 a3 a4) hp
def Blh:List A→Nat→Objs→Option AV:=A7 [.t .i64,.t .stamp,.t .vec,.t .bool,.t .str] 0 A3q A3p Apz
theorem Bpo:ET Try.prog 37 Blh:=Aq (ks:=[.t .i64,.t .stamp,.t .vec,.t .bool,.t .str]) B0z
noncomputable def Bhg:=AU 37 Blh Bw7
theorem Ay4:CD Try.prog Bhg:=Ak Bpo Bhf
abbrev BB:Type:=(List TGroup)×(List TWrite)×Int×Int×TChange
def Kw (x:BB):St:=⟨132,1,[(0,.sl .group x.1),(3,.own 0 0),(73,.sl .write x.2.1),(74,.v (.int .i64 x.2.2.1)),(75,.v (.int .i64 x.2.2.2.1))],[(0,some (.box 136 [.v (.int .i64 x.2.2.2.2.site),.v (.int .i64 x.2.2.2.2.seq),.v (.int .i64 x.2.2.2.2.stamp.n),.v (.int .i64 x.2.2.2.2.stamp.site),.v (.int .i64 x.2.2.2.2.vec.a),.v (.int .i64 x.2.2.2.2.vec.b),.sl .write x.2.2.2.2.writes]))]⟩
def LV:St→Option BB
 |⟨132,1,[(0,.sl .group z0),(3,.own 0 0),(73,.sl .write z1),(74,.v (.int .i64 z2)),(75,.v (.int .i64 z3))],[(0,some (.box 136 [.v (.int .i64 z4),.v (.int .i64 z5),.v (.int .i64 z6),.v (.int .i64 z7),.v (.int .i64 z8),.v (.int .i64 z9),.sl .write z10]))]⟩=>some (z0,z1,z2,z3,⟨z4,z5,⟨z6,z7⟩,⟨z8,z9⟩,z10⟩)
 |_=>none
theorem Abf:∀s x,LV s=some x→s=Kw x:=fun s x h=>by
 unfold LV at h
 split at h
 ·cases h;rfl
 ·cases h
def Tm:Co:=⟨1,1,[0,3,73,74,75],[],[(0,0)],[0],[4],[0]⟩
def Anz:CR:=⟨[],[(0,0)],[0,3,73,74,75],[0]⟩
def Ir (_a0:List TGroup) (_a1:List TWrite) (_a2:Int) (a3:Int) (_a4:TChange):Int:=IntKind.i64.wrap (a3 - (1:Int))
def Iq (a0:List TGroup) (a1:List TWrite) (_a2:Int) (a3:Int) (_a4:TChange):Bool:=(a1.getD a3.toNat (Ab TC.write)).1.toList==(ByteArray.mk #[]).toList||decide ((↑(a1.getD a3.toNat (Ab TC.write)).1.size:Int) >(32:Int))||decide ((a1.getD a3.toNat (Ab TC.write)).2 <(0:Int))||decide ((a1.getD a3.toNat (Ab TC.write)).2≥(↑a0.length:Int))||decide ((↑(a1.getD a3.toNat (Ab TC.write)).4.size:Int) >(64:Int))||(a1.getD a3.toNat (Ab TC.write)).3&&!(a1.getD a3.toNat (Ab TC.write)).4.toList==(ByteArray.mk #[]).toList
def CL (a0:List TGroup) (a1:List TWrite) (a2:Int) (a3:Int) (a4:TChange):Bool:=!!decide (a3 <a2)&&((Iq a0 a1 a2 a3 a4)||decide (a3 >(0:Int))&&!H1 (J2 (a4.5.getD (Ir a0 a1 a2 a3 a4).toNat (Ab TC.write))) (J2 (a1.getD a3.toNat (Ab TC.write))))
def Ae9 (a0:List TGroup) (a1:List TWrite) (a2:Int) (a3:Int) (a4:TChange):Bool:=!!decide (a3 <a2)&&!(CL a0 a1 a2 a3 a4)
def O0 (a0:List TGroup) (a1:List TWrite) (a2:Int) (a3:Int) (a4:TChange):Int:=bif(Iq a0 a1 a2 a3 a4) then(120:Int) else(120:Int)
def EN (x:BB):BB:=(x.1,x.2.1,x.2.2.1,IntKind.i64.wrap (x.2.2.2.1+(1:Int)),x.2.2.2.2)
def EM (x:BB):Cnd:=some (Ae9 x.1 x.2.1 x.2.2.1 x.2.2.2.1 x.2.2.2.2)
def Lm (x:BB):List Prop:=[((!!decide (x.2.2.2.1 <x.2.2.1))=true→(0:Int)≤x.2.2.2.1∧x.2.2.2.1 <(↑x.2.1.length:Int)),((!!decide (x.2.2.2.1 <x.2.2.1))=true→(!(Iq x.1 x.2.1 x.2.2.1 x.2.2.2.1 x.2.2.2.2))=true→decide (x.2.2.2.1 >(0:Int))=true→(0:Int)≤(Ir x.1 x.2.1 x.2.2.1 x.2.2.2.1 x.2.2.2.2)∧(Ir x.1 x.2.1 x.2.2.1 x.2.2.2.1 x.2.2.2.2) <(↑x.2.2.2.2.5.length:Int))]
abbrev H0:BB→List Prop:=Lm
def O1 (x:BB):Bd:=[(some 0,some (!decide (x.2.2.2.1 <x.2.2.1)),⟨132,1,[(4,.dead)],[(0,some (.box 136 [.v (.int .i64 x.2.2.2.2.1),.v (.int .i64 x.2.2.2.2.2),.v (.int .i64 x.2.2.2.2.3.1),.v (.int .i64 x.2.2.2.2.3.2),.v (.int .i64 x.2.2.2.2.4.1),.v (.int .i64 x.2.2.2.2.4.2),.sl .write x.2.2.2.2.5]))]⟩),(none,some ((CL x.1 x.2.1 x.2.2.1 x.2.2.2.1 x.2.2.2.2)),⟨132,2,[(4,.v (.int .i64 (O0 x.1 x.2.1 x.2.2.1 x.2.2.2.1 x.2.2.2.2)))],[(0,some (.box 136 [.v (.int .i64 x.2.2.2.2.1),.v (.int .i64 x.2.2.2.2.2),.v (.int .i64 x.2.2.2.2.3.1),.v (.int .i64 x.2.2.2.2.3.2),.v (.int .i64 x.2.2.2.2.4.1),.v (.int .i64 x.2.2.2.2.4.2),.sl .write x.2.2.2.2.5]))]⟩)]
def Gy (x:BB):Nat:=(x.2.2.1 - x.2.2.2.1).toNat
def E2 (x:BB):BB:=A5 EN EM (Gy x) x
theorem Ai2 (a0:List TGroup) (a1:List TWrite) (a2:Int) (a3:Int) (a4:TChange):Bk (Au Bhg L0) 9 (Ae Try.prog 169 0) Tm (Kw (a0,a1,a2,a3,a4))=some (Lm (a0,a1,a2,a3,a4),O1 (a0,a1,a2,a3,a4),EM (a0,a1,a2,a3,a4),Kw (EN (a0,a1,a2,a3,a4))):=by kernel_rfl
theorem Ai3 (a0:List TGroup) (a1:List TWrite) (a2:Int) (a3:Int) (a4:TChange) (hp:∀p∈H0 (a0,a1,a2,a3,a4),p):∀p∈Lm (a0,a1,a2,a3,a4),p:=hp
noncomputable def PL:=GH (Au Bhg L0) (Ae Try.prog 169 0) Tm Anz LV Gy EN EM H0 O1
theorem Afa:∀s b ps outs,PL s=some (b,ps,outs)→Wf s ⟨ps,outs,none⟩∧Be (Au C0 L0) b s ps outs:=
 A6 (T:=Kw) Ay4 Av (u:=9) (by kernel_rfl) (by decide) (fun⟨a0,a1,a2,a3,a4⟩=>Ai2 a0 a1 a2 a3 a4) (fun⟨a0,a1,a2,a3,a4⟩=>Ai3 a0 a1 a2 a3 a4) Abf (fun _=>AI (n:=132) rfl) fun _ _=>rfl
noncomputable def Tl:=CY 0 PL L0
theorem Ae8:Gf Tl:=AP Afa Av
def DL (a0:List TGroup) (_a1:TChange):Bool:=AO a0 !=(0:Int)
def DK (_a0:List TGroup) (a1:TChange):Int:=IntKind.i64.wrap (a1.1 - (1:Int))
def PK (a0:List TGroup) (a1:TChange):List TGroup:=(E2 (a0,a1.5,(↑a1.5.length:Int),(0:Int),a1)).fst
def Hp (_a0:List TGroup) (a1:TChange):Bool:=decide ((↑a1.5.length:Int) <(1:Int))||decide ((↑a1.5.length:Int) >(8:Int))
def PJ (a0:List TGroup) (a1:TChange):List TWrite:=(E2 (a0,a1.5,(↑a1.5.length:Int),(0:Int),a1)).snd.fst
def PI (a0:List TGroup) (a1:TChange):Int:=(E2 (a0,a1.5,(↑a1.5.length:Int),(0:Int),a1)).snd.snd.fst
def PH (a0:List TGroup) (a1:TChange):TChange:=(E2 (a0,a1.5,(↑a1.5.length:Int),(0:Int),a1)).snd.snd.snd.snd
def PG (a0:List TGroup) (a1:TChange):Int:=(E2 (a0,a1.5,(↑a1.5.length:Int),(0:Int),a1)).snd.snd.snd.fst
def Ho (a0:List TGroup) (a1:TChange):Bool:=a1.1 !=(1:Int)&&a1.1 !=(2:Int)||decide (a1.2 <(1:Int))||decide (a1.2 >(1099511627776:Int))||a1.3.2 !=a1.1||!Cm a1.3||!BV a1.4||(bif(DK a0 a1).toNat.beq (0:Nat) then a1.4.1 else a1.4.2) !=a1.2
def Sl (a0:List TGroup) (a1:TChange):Int:=bif(DL a0 a1) then AO a0 else bif(Ho a0 a1) then(120:Int) else bif(Hp a0 a1) then(120:Int) else bif CL (PK a0 a1) (PJ a0 a1) (PI a0 a1) (PG a0 a1) (PH a0 a1) then O0 (PK a0 a1) (PJ a0 a1) (PI a0 a1) (PG a0 a1) (PH a0 a1) else(0:Int)
def Sm (a0:List TGroup) (a1:TChange):A:=.v (.int .i64 (Sl a0 a1))
def Aca (_a0:List TGroup) (_a1:TChange):Objs:=[]
def XG (a0:List TGroup) (a1:TChange):List Prop:=[((!(DL a0 a1))=true→(a1.1 !=(1:Int)&&a1.1 !=(2:Int)||decide (a1.2 <(1:Int))||decide (a1.2 >(1099511627776:Int))||a1.3.2 !=a1.1||!Cm a1.3||!BV a1.4)=false→(0:Int)≤(DK a0 a1)∧(DK a0 a1) <(2:Int)),((!(DL a0 a1))=true→(!(Ho a0 a1))=true→(!(Hp a0 a1))=true→AB EN EM H0 (Gy (a0,a1.5,(↑a1.5.length:Int),(0:Int),a1)) (a0,a1.5,(↑a1.5.length:Int),(0:Int),a1))]
theorem Az6 (a0:List TGroup) (a1:TChange):Eo (Au Bhg Tl) 9 169 [.sl .group a0,Af .change a1] 0 []=some (1,Sm a0 a1,0,Aca a0 a1,[((!(DL a0 a1))=true→(a1.1 !=(1:Int)&&a1.1 !=(2:Int)||decide (a1.2 <(1:Int))||decide (a1.2 >(1099511627776:Int))||a1.3.2 !=a1.1||!Cm a1.3||!BV a1.4)=false→(0:Int)≤(DK a0 a1)∧(DK a0 a1) <(2:Int)),((!(DL a0 a1))=true→(a1.1 !=(1:Int)&&a1.1 !=(2:Int)||decide (a1.2 <(1:Int))||decide (a1.2 >(1099511627776:Int))||a1.3.2 !=a1.1||!Cm a1.3||!BV a1.4)=false→(DK a0 a1).toNat <(2:Nat)),((!(DL a0 a1))=true→(!(Ho a0 a1))=true→(!(Hp a0 a1))=true→Ae Try.prog (169:FuncId) (0:Nat)=Ae Try.prog (169:FuncId) (0:Nat)),((!(DL a0 a1))=true→(!(Ho a0 a1))=true→(!(Hp a0 a1))=true→AB EN EM H0 (Gy (a0,a1.5,(↑a1.5.length:Int),(0:Int),a1)) (a0,a1.5,(↑a1.5.length:Int),(0:Int),a1))]):=by kernel_rfl
theorem A63 (a0:List TGroup) (a1:TChange) (hp:∀p∈XG a0 a1,p):CallOk Try.prog 169 [.sl .group a0,Af .change a1] 0 [] 1 (Sm a0 a1) 0 (Aca a0 a1):=by
 have n0:((!(DL a0 a1))=true→(a1.1 !=(1:Int)&&a1.1 !=(2:Int)||decide (a1.2 <(1:Int))||decide (a1.2 >(1099511627776:Int))||a1.3.2 !=a1.1||!Cm a1.3||!BV a1.4)=false→(0:Int)≤(DK a0 a1)∧(DK a0 a1) <(2:Int)):=N0 hp
 have n1:((!(DL a0 a1))=true→(a1.1 !=(1:Int)&&a1.1 !=(2:Int)||decide (a1.2 <(1:Int))||decide (a1.2 >(1099511627776:Int))||a1.3.2 !=a1.1||!Cm a1.3||!BV a1.4)=false→(DK a0 a1).toNat <(2:Nat)):=by intro h0 h1;have g:=n0 h0 h1;omega
 have n2:((!(DL a0 a1))=true→(!(Ho a0 a1))=true→(!(Hp a0 a1))=true→Ae Try.prog (169:FuncId) (0:Nat)=Ae Try.prog (169:FuncId) (0:Nat)):=by intros;rfl
 have n3:=N0 (N1 hp)
 exact Ax (Ap Ay4 Ae8) (Az6 a0 a1) (Aa n0 (Aa n1 (Aa n2 (Aa n3 Ad))))
def XH (a0:List TGroup) (a1:TChange):A:=.v (.int .i64 (LG a0 a1))
def XF (_a0:List TGroup) (_a1:TChange):Objs:=[]
def V7 (_a0:List TGroup) (a1:TChange):List Prop:=[Am a1.writes.length]
theorem B08 {c:TChange} (h:c.site=1∨c.site=2):(bif(IntKind.i64.wrap (c.site - 1)).toNat.beq 0 then c.vec.a else c.vec.b)=bif c.site==1 then c.vec.a else c.vec.b:=by
 rcases h with h|h<;>rw[h]<;>rfl
theorem Bt5 {c:TChange} (h:c.site=1∨c.site=2):(0:Int)≤IntKind.i64.wrap (c.site - 1)∧IntKind.i64.wrap (c.site - 1) <(2:Int):=by
 rcases h with h|h<;>rw[h]<;>decide
theorem B31 {n:Int}:(n !=1&&n !=2)=false↔n=1∨n=2:=by
 constructor
 ·intro h
  rcases Decidable.em (n=1) with e|e
  ·exact .inl e
  ·rcases Decidable.em (n=2) with e2|e2
   ·exact .inr e2
   ·have h1:(n !=1)=true:=bne_iff_ne.2 e
    have h2:(n !=2)=true:=bne_iff_ne.2 e2
    rw[h1,h2] at h
    cases h
 ·rintro(rfl|rfl)<;>rfl
theorem Bs9 (c:TChange):Ik c=!(c.site !=1&&c.site !=2||decide (c.seq <1)||decide (c.seq >1099511627776)||c.stamp.site !=c.site||!In c.stamp||!CM c.vec||(bif(IntKind.i64.wrap (c.site - 1)).toNat.beq 0 then c.vec.a else c.vec.b) !=c.seq):=by
 unfold Ik
 cases h:c.site !=1&&c.site !=2 with
 |true=>
  rw[Bool.and_eq_true,bne_iff_ne,bne_iff_ne] at h
  rw[beq_eq_false_iff_ne.2 h.1,beq_eq_false_iff_ne.2 h.2]
  rfl
 | false=>
  have hs:=B31.1 h
  have h1:(c.site==1||c.site==2)=true:=by rcases hs with e|e<;>rw[e]<;>rfl
  have h2:decide (c.seq <1)=!decide (1≤c.seq):=by
   rw[←decide_not];exact decide_eq_decide.2 (by omega)
  have h3:decide (c.seq >1099511627776)=!decide (c.seq≤1099511627776):=by
   rw[←decide_not];exact decide_eq_decide.2 (by omega)
  rw[h1,B08 hs,h2,h3]
  unfold bne
  cases decide (1≤c.seq)<;>cases decide (c.seq≤1099511627776)<;>cases c.stamp.site==c.site<;>cases In c.stamp<;>cases CM c.vec<;>simp
theorem B5b (l:List TGroup) (w:TWrite):(w.1.toList==(ByteArray.mk #[]).toList||decide ((w.1.size:Int) >(32:Int))||decide (w.2 <(0:Int))||decide (w.2≥(l.length:Int))||decide ((w.4.size:Int) >(64:Int))||w.3&&!w.4.toList==(ByteArray.mk #[]).toList)=!UO l w:=by
 have e1:(w.1.toList==(ByteArray.mk #[]).toList)=(w.key.size==0):=SQ _
 have e2:(w.4.toList==(ByteArray.mk #[]).toList)=(w.value.size==0):=SQ _
 have h1:decide ((w.1.size:Int) >(32:Int))=!decide (w.key.size≤32):=by rw[←decide_not];exact decide_eq_decide.2 (by omega)
 have h2:decide (w.2 <(0:Int))=!decide (0≤w.group):=by rw[←decide_not];exact decide_eq_decide.2 (by omega)
 have h3:decide (w.2≥(l.length:Int))=!decide (w.group <(l.length:Int)):=by rw[←decide_not];exact decide_eq_decide.2 (by omega)
 have h4:decide ((w.4.size:Int) >(64:Int))=!decide (w.value.size≤64):=by rw[←decide_not];exact decide_eq_decide.2 (by omega)
 rw[e1,e2,h1,h2,h3,h4]
 unfold UO
 cases w.key.size==0<;>cases decide (w.key.size≤32)<;>cases decide (0≤w.group)<;>cases decide (w.group <(l.length:Int))<;>cases decide (w.value.size≤64)<;>cases w.gone<;>cases w.value.size==0<;>rfl
theorem Byg (a b:TWrite):H1 (J2 a) (J2 b)=Sg a b:=by
 unfold H1 J2 Sg Ip
 rw[←tlb]
theorem Bsz (l:List TGroup) (c:TChange) (i:Nat) (hi:i≤9223372036854775807):CL l c.writes (c.writes.length:Int) (i:Int) c=(decide (i <c.writes.length)&&Re l c.writes i):=by
 have e:CL l c.writes (c.writes.length:Int) (i:Int) c=(decide (i <c.writes.length)&&(!UO l (wN c.writes i)||decide ((i:Int) >0)&&!Sg (wN c.writes (IntKind.i64.wrap ((i:Int) - 1)).toNat) (wN c.writes i))):=by
  unfold CL Iq Ir
  rw[nn,LY,Int.toNat_natCast,Byg,B5b]
  rfl
 rw[e]
 unfold Re
 cases i with
 |zero=>rfl
 |succ j=>
  have h1:(IntKind.i64.wrap (((j+1:Nat):Int) - 1)).toNat=j+1 - 1:=by rw[i64_in (by omega)];omega
  have h2:decide (((j+1:Nat):Int) >0)=decide (0 <j+1):=decide_eq_decide.2 (by omega)
  rw[h1,h2]
theorem XE (l:List TGroup) (c:TChange) (hb:Am c.writes.length):(∀p∈XG l c,p)∧Sl l c=LG l c:=by
 unfold Am at hb
 obtain⟨h1,k,hk,hx,_,_,hb'⟩:=Io (fun i=>((l,c.writes,(c.writes.length:Int),(i:Int),c):BB)) c.writes.length (fun i=>Re l c.writes i) EN EM H0 (Gy (l,c.writes,(c.writes.length:Int),0,c)) (l,c.writes,(c.writes.length:Int),0,c) rfl (by show c.writes.length≤((c.writes.length:Int) - 0).toNat;omega)
  (fun i hi _=>by
   show((!!decide ((i:Int) <(c.writes.length:Int)))&&!CL l c.writes (c.writes.length:Int) (i:Int) c)=_
   rw[Bsz l c i (by omega),nn,LY]
   cases decide (i <c.writes.length)<;>rfl)
  (fun i hi _=>by
   show(l,c.writes,(c.writes.length:Int),IntKind.i64.wrap ((i:Int)+1),c)=(l,c.writes,(c.writes.length:Int),((i+1:Nat):Int),c)
   rw[DU (by omega)])
  (fun i hi _=>by
   have hin:(!!decide ((i:Int) <(c.writes.length:Int)))=true→(i:Int) <(c.writes.length:Int):=fun h=>by rw[nn] at h;exact of_decide_eq_true h
   refine Aa (fun h=>⟨by show(0:Int)≤(i:Int);omega,hin h⟩) (Aa (fun h _ h3=>?_) Ad)
   have h4:(i:Int) >0:=of_decide_eq_true h3
   have h5:=hin h
   show(0:Int)≤IntKind.i64.wrap ((i:Int) - 1)∧IntKind.i64.wrap ((i:Int) - 1) <(c.writes.length:Int)
   rw[i64_in (by omega)]
   omega)
 have hr:E2 (l,c.writes,(c.writes.length:Int),0,c)=(l,c.writes,(c.writes.length:Int),(k:Int),c):=hx
 refine⟨Aa (fun _ h=>Bt5 (B31.1 (by
  cases hs:c.site !=1&&c.site !=2 with
  |false=>rfl
  |true=>
   have h':(c.site !=(1:Int)&&c.site !=(2:Int)||decide (c.seq <(1:Int))||decide (c.seq >(1099511627776:Int))||c.stamp.site !=c.site||!Cm c.stamp||!BV c.vec)=false:=h
   rw[hs] at h'
   simp at h'))) (Aa (fun _ _ _=>h1) Ad),?_⟩
 unfold Sl LG
 show(bif AO l !=0 then AO l else _)=_
 congr 1
 have e0:Ho l c=!Ik c:=by
  rw[Bs9,Bool.not_not]
  unfold Ho DK
  rw[K6,LO]
 have e5:Hp l c=!Ale c:=by
  unfold Hp Ale
  have h2:decide ((c.writes.length:Int) <(1:Int))=!decide (1≤c.writes.length):=by rw[←decide_not];exact decide_eq_decide.2 (by omega)
  have h3:decide ((c.writes.length:Int) >(8:Int))=!decide (c.writes.length≤8):=by rw[←decide_not];exact decide_eq_decide.2 (by omega)
  have h2':decide ((c.5.length:Int) <(1:Int))=!decide (1≤c.writes.length):=h2
  have h3':decide ((c.5.length:Int) >(8:Int))=!decide (c.writes.length≤8):=h3
  rw[h2',h3']
  cases decide (1≤c.writes.length)<;>cases decide (c.writes.length≤8)<;>rfl
 rw[e0,e5]
 unfold PK PJ PI PG PH
 rw[hr]
 show(bif !Ik c then 120 else bif !Ale c then 120 else bif CL l c.writes (c.writes.length:Int) (k:Int) c then(bif _ then(120:Int) else 120) else 0)=_
 rw[Bsz l c k (Nat.le_trans hk hb),hb']
 have hc:∀b:Bool,(bif b then(120:Int) else 120)=120:=fun b=>by cases b<;>rfl
 rw[hc]
 cases Ik c<;>cases Ale c<;>cases JX c.writes.length (fun i=>!Re l c.writes i)<;>rfl
theorem Az5 (a0:List TGroup) (a1:TChange) (hp:∀p∈V7 a0 a1,p):CallOk Try.prog 169 [.sl .group a0,Af .change a1] 0 [] 1 (XH a0 a1) 0 (XF a0 a1):=by
 have hb:Am a1.writes.length:=hp _ (List.mem_cons_self ..)
 have h:=A63 a0 a1 (XE a0 a1 hb).1
 unfold Sm at h
 rw[(XE a0 a1 hb).2] at h
 exact h
def Acb:List A→Nat→Objs→Option AV:=A7 [.l .group,.t .change] 0 XH XF V7
theorem Avq:ET Try.prog 169 Acb:=Aq (ks:=[.l .group,.t .change]) Az5
noncomputable def Bhh:=AU 169 Acb Bhg
theorem Ay5:CD Try.prog Bhh:=Ak Avq Ay4
abbrev CJ:Type:=(List TGroup)×Int×TChange
def NL (x:CJ):St:=⟨107,1,[(0,.sl .group x.1),(3,.own 0 0),(6,.v (.int .i64 x.2.1))],[(0,some (.box 136 [.v (.int .i64 x.2.2.site),.v (.int .i64 x.2.2.seq),.v (.int .i64 x.2.2.stamp.n),.v (.int .i64 x.2.2.stamp.site),.v (.int .i64 x.2.2.vec.a),.v (.int .i64 x.2.2.vec.b),.sl .write x.2.2.writes]))]⟩
def QR:St→Option CJ
 |⟨107,1,[(0,.sl .group z0),(3,.own 0 0),(6,.v (.int .i64 z1))],[(0,some (.box 136 [.v (.int .i64 z2),.v (.int .i64 z3),.v (.int .i64 z4),.v (.int .i64 z5),.v (.int .i64 z6),.v (.int .i64 z7),.sl .write z8]))]⟩=>some (z0,z1,⟨z2,z3,⟨z4,z5⟩,⟨z6,z7⟩,z8⟩)
 |_=>none
theorem Aqw:∀s x,QR s=some x→s=NL x:=fun s x h=>by
 unfold QR at h
 split at h
 ·cases h;rfl
 ·cases h
def Ad0:Co:=⟨1,1,[0,3,6],[],[(0,0)],[0],[4],[0]⟩
def A8o:CR:=⟨[],[(0,0)],[0,3,6],[0]⟩
def KN (_a0:List TGroup) (a1:Int) (_a2:TChange):Int:=IntKind.i64.wrap (a1 - (1:Int))
def Ha (_a0:List TGroup) (a1:Int) (a2:TChange):Bool:=!!decide (a1 <(↑a2.5.length:Int))
def Ed (a0:List TGroup) (a1:Int) (a2:TChange):Bool:=(Ha a0 a1 a2)&&(!LL a0 (a2.5.getD a1.toNat (Ab TC.write))||decide (a1 >(0:Int))&&!R1 (a2.5.getD (KN a0 a1 a2).toNat (Ab TC.write)) (a2.5.getD a1.toNat (Ab TC.write)))
def Axv (a0:List TGroup) (a1:Int) (a2:TChange):Bool:=(Ha a0 a1 a2)&&!(Ed a0 a1 a2)
def Hc (x:CJ):CJ:=(x.1,IntKind.i64.wrap (x.2.1+(1:Int)),x.2.2)
def Hb (x:CJ):Cnd:=some (Axv x.1 x.2.1 x.2.2)
def OS (x:CJ):List Prop:=[((Ha x.1 x.2.1 x.2.2)=true→(0:Int)≤x.2.1∧x.2.1 <(↑x.2.2.5.length:Int)),((Ha x.1 x.2.1 x.2.2)=true→decide (x.2.1 >(0:Int))=true→(!LL x.1 (x.2.2.5.getD x.2.1.toNat (Ab TC.write)))=false→(0:Int)≤(KN x.1 x.2.1 x.2.2)∧(KN x.1 x.2.1 x.2.2) <(↑x.2.2.5.length:Int)),((Ha x.1 x.2.1 x.2.2)=true→decide (x.2.1 >(0:Int))=true→(!LL x.1 (x.2.2.5.getD x.2.1.toNat (Ab TC.write)))=false→(0:Int)≤x.2.1∧x.2.1 <(↑x.2.2.5.length:Int))]
abbrev Ko:CJ→List Prop:=OS
def Uy (x:CJ):Bd:=[(some 0,some (!decide (x.2.1 <(↑x.2.2.5.length:Int))),⟨107,1,[(4,.dead)],[(0,some (.box 136 [.v (.int .i64 x.2.2.1),.v (.int .i64 x.2.2.2),.v (.int .i64 x.2.2.3.1),.v (.int .i64 x.2.2.3.2),.v (.int .i64 x.2.2.4.1),.v (.int .i64 x.2.2.4.2),.sl .write x.2.2.5]))]⟩),(none,some ((Ed x.1 x.2.1 x.2.2)),⟨107,1,[(4,.v (.int .i64 ((120:Int))))],[(0,some (.box 136 [.v (.int .i64 x.2.2.1),.v (.int .i64 x.2.2.2),.v (.int .i64 x.2.2.3.1),.v (.int .i64 x.2.2.3.2),.v (.int .i64 x.2.2.4.1),.v (.int .i64 x.2.2.4.2),.sl .write x.2.2.5]))]⟩)]
def IU (x:CJ):Nat:=((↑x.2.2.5.length:Int) - x.2.1).toNat
def Axx (x:CJ):CJ:=A5 Hc Hb (IU x) x
theorem A49 (a0:List TGroup) (a1:Int) (a2:TChange):Bk (Au Bhh L0) 9 (Ae Try.prog 171 0) Ad0 (NL (a0,a1,a2))=some (OS (a0,a1,a2),Uy (a0,a1,a2),Hb (a0,a1,a2),NL (Hc (a0,a1,a2))):=by kernel_rfl
theorem A5a (a0:List TGroup) (a1:Int) (a2:TChange) (hp:∀p∈Ko (a0,a1,a2),p):∀p∈OS (a0,a1,a2),p:=hp
noncomputable def WW:=GH (Au Bhh L0) (Ae Try.prog 171 0) Ad0 A8o QR IU Hc Hb Ko Uy
theorem Axw:∀s b ps outs,WW s=some (b,ps,outs)→Wf s ⟨ps,outs,none⟩∧Be (Au C0 L0) b s ps outs:=
 A6 (T:=NL) Ay5 Av (u:=9) (by kernel_rfl) (by decide) (fun⟨a0,a1,a2⟩=>A49 a0 a1 a2) (fun⟨a0,a1,a2⟩=>A5a a0 a1 a2) Aqw (fun _=>AI (n:=107) rfl) fun _ _=>rfl
noncomputable def Adz:=CY 0 WW L0
theorem Axu:Gf Adz:=AP Axw Av
def GQ (a0:List TGroup) (_a1:TChange):Bool:=AO a0 !=(0:Int)
def GP (_a0:List TGroup) (a1:TChange):Int:=IntKind.i64.wrap (a1.1 - (1:Int))
def RZ (a0:List TGroup) (a1:TChange):CJ:=Axx (a0,(0:Int),a1)
def Kn (a0:List TGroup) (a1:TChange):Bool:=a1.1 !=(1:Int)&&a1.1 !=(2:Int)||decide (a1.2 <(1:Int))||decide (a1.2 >(1099511627776:Int))||!HD a1.3||a1.3.2 !=a1.1||!E8 a1.4||(bif(GP a0 a1).toNat.beq (0:Nat) then a1.4.1 else a1.4.2) !=a1.2||decide ((↑a1.5.length:Int) <(1:Int))||decide ((↑a1.5.length:Int) >(8:Int))
def Ahp (a0:List TGroup) (a1:TChange):Int:=bif(GQ a0 a1) then AO a0 else bif(Kn a0 a1) then(120:Int) else bif Ed (RZ a0 a1).fst (RZ a0 a1).snd.fst (RZ a0 a1).snd.snd then(120:Int) else(0:Int)
def Ahq (a0:List TGroup) (a1:TChange):A:=.v (.int .i64 (Ahp a0 a1))
def A5b (_a0:List TGroup) (_a1:TChange):Objs:=[]
def Aui (a0:List TGroup) (a1:TChange):List Prop:=[(∀(g:TGroup),g∈a0→Am g.1.size),((!(GQ a0 a1))=true→(a1.1 !=(1:Int)&&a1.1 !=(2:Int)||decide (a1.2 <(1:Int))||decide (a1.2 >(1099511627776:Int))||!HD a1.3||a1.3.2 !=a1.1||!E8 a1.4)=false→(0:Int)≤(GP a0 a1)∧(GP a0 a1) <(2:Int)),((!(GQ a0 a1))=true→(!(Kn a0 a1))=true→AB Hc Hb Ko (IU (a0,(0:Int),a1)) (a0,(0:Int),a1))]
theorem Bma (a0:List TGroup) (a1:TChange):Eo (Au Bhh Adz) 9 171 [.sl .group a0,Af .change a1] 0 []=some (1,Ahq a0 a1,0,A5b a0 a1,[(∀(g:TGroup),g∈a0→Am g.1.size),((!(GQ a0 a1))=true→(a1.1 !=(1:Int)&&a1.1 !=(2:Int)||decide (a1.2 <(1:Int))||decide (a1.2 >(1099511627776:Int))||!HD a1.3||a1.3.2 !=a1.1||!E8 a1.4)=false→(0:Int)≤(GP a0 a1)∧(GP a0 a1) <(2:Int)),((!(GQ a0 a1))=true→(a1.1 !=(1:Int)&&a1.1 !=(2:Int)||decide (a1.2 <(1:Int))||decide (a1.2 >(1099511627776:Int))||!HD a1.3||a1.3.2 !=a1.1||!E8 a1.4)=false→(GP a0 a1).toNat <(2:Nat)),((!(GQ a0 a1))=true→(!(Kn a0 a1))=true→Ae Try.prog (171:FuncId) (0:Nat)=Ae Try.prog (171:FuncId) (0:Nat)),((!(GQ a0 a1))=true→(!(Kn a0 a1))=true→AB Hc Hb Ko (IU (a0,(0:Int),a1)) (a0,(0:Int),a1))]):=by kernel_rfl
theorem Bqd (a0:List TGroup) (a1:TChange) (hp:∀p∈Aui a0 a1,p):CallOk Try.prog 171 [.sl .group a0,Af .change a1] 0 [] 1 (Ahq a0 a1) 0 (A5b a0 a1):=by
 have n0:=N0 hp
 have n1:((!(GQ a0 a1))=true→(a1.1 !=(1:Int)&&a1.1 !=(2:Int)||decide (a1.2 <(1:Int))||decide (a1.2 >(1099511627776:Int))||!HD a1.3||a1.3.2 !=a1.1||!E8 a1.4)=false→(0:Int)≤(GP a0 a1)∧(GP a0 a1) <(2:Int)):=N0 (N1 hp)
 have n2:((!(GQ a0 a1))=true→(a1.1 !=(1:Int)&&a1.1 !=(2:Int)||decide (a1.2 <(1:Int))||decide (a1.2 >(1099511627776:Int))||!HD a1.3||a1.3.2 !=a1.1||!E8 a1.4)=false→(GP a0 a1).toNat <(2:Nat)):=by intro h0 h1;have g:=n1 h0 h1;omega
 have n3:((!(GQ a0 a1))=true→(!(Kn a0 a1))=true→Ae Try.prog (171:FuncId) (0:Nat)=Ae Try.prog (171:FuncId) (0:Nat)):=by intros;rfl
 have n4:=N0 (N1 (N1 hp))
 exact Ax (Ap Ay5 Axu) (Bma a0 a1) (Aa n0 (Aa n1 (Aa n2 (Aa n3 (Aa n4 Ad)))))
def Auj (a0:List TGroup) (a1:TChange):A:=.v (.int .i64 (LG a0 a1))
def Auh (_a0:List TGroup) (_a1:TChange):Objs:=[]
def Ame (a0:List TGroup) (a1:TChange):List Prop:=[Am a1.writes.length,∀g∈a0,Am g.1.size]
theorem Bnu (a b:TWrite):R1 a b=Sg a b:=by
 unfold R1 Sg Ip
 rw[tlb]
 cases h:a.key==b.key with
 |true=>
  obtain e:=eq_of_beq h
  have e':a.1=b.1:=e
  rw[e',US]
  rfl
 |false=>
  show Op.bytesLess a.1.toList b.1.toList=(Op.bytesLess a.1.toList b.1.toList||false)
  rw[Bool.or_false]
theorem Bq9 (l:List TGroup) (w:TWrite):LL l w=UO l w:=by
 have e2:(w.4.toList==(ByteArray.mk #[]).toList)=(w.value.size==0):=SQ _
 unfold LL UO
 rw[e2]
 have h1:(TI w.1==(0:Int))=(!(w.key.size==0)&&decide (w.key.size≤32)):=by
  unfold TI
  show((bif w.key.size==0 then(2:Int) else bif decide (32 <w.key.size) then 3 else 0)==0)=_
  have h2:decide (32 <w.key.size)=!decide (w.key.size≤32):=by rw[←decide_not];exact decide_eq_decide.2 (by omega)
  rw[h2]
  cases w.key.size==0<;>cases decide (w.key.size≤32)<;>rfl
 have h4:decide ((w.4.size:Int)≤(64:Int))=decide (w.value.size≤64):=decide_eq_decide.2 (by omega)
 have h3:decide (w.2≥(0:Int))=decide (0≤w.group):=rfl
 rw[h1,h4,h3]
theorem Btw (l:List TGroup) (c:TChange) (i:Nat) (hi:i≤9223372036854775807):Ed l (i:Int) c=(decide (i <c.writes.length)&&Re l c.writes i):=by
 have e:Ed l (i:Int) c=(decide (i <c.writes.length)&&(!UO l (wN c.writes i)||decide ((i:Int) >0)&&!Sg (wN c.writes (IntKind.i64.wrap ((i:Int) - 1)).toNat) (wN c.writes i))):=by
  unfold Ed Ha KN
  rw[nn,LY,Int.toNat_natCast,Bnu,Bq9]
  rfl
 rw[e]
 unfold Re
 cases i with
 |zero=>rfl
 |succ j=>
  have h1:(IntKind.i64.wrap (((j+1:Nat):Int) - 1)).toNat=j+1 - 1:=by rw[i64_in (by omega)];omega
  have h2:decide (((j+1:Nat):Int) >0)=decide (0 <j+1):=decide_eq_decide.2 (by omega)
  rw[h1,h2]
theorem Aug (l:List TGroup) (c:TChange) (hb:Am c.writes.length) (hw:∀g∈l,Am g.1.size):(∀p∈Aui l c,p)∧Ahp l c=LG l c:=by
 unfold Am at hb
 obtain⟨h1,k,hk,hx,_,_,hb'⟩:=Io (fun i=>((l,(i:Int),c):CJ)) c.writes.length (fun i=>Re l c.writes i) Hc Hb Ko (IU (l,0,c)) (l,0,c) rfl (by show c.writes.length≤((c.writes.length:Int) - 0).toNat;omega)
  (fun i hi _=>by
   show((!!decide ((i:Int) <(c.writes.length:Int)))&&!Ed l (i:Int) c)=_
   rw[Btw l c i (by omega),nn,LY]
   cases decide (i <c.writes.length)<;>rfl)
  (fun i hi _=>by
   show(l,IntKind.i64.wrap ((i:Int)+1),c)=(l,((i+1:Nat):Int),c)
   rw[DU (by omega)])
  (fun i hi _=>by
   have hin:(!!decide ((i:Int) <(c.writes.length:Int)))=true→(i:Int) <(c.writes.length:Int):=fun h=>by rw[nn] at h;exact of_decide_eq_true h
   refine Aa (fun h=>⟨by show(0:Int)≤(i:Int);omega,hin h⟩) (Aa (fun h h3 _=>?_) (Aa (fun h _ _=>⟨by show(0:Int)≤(i:Int);omega,hin h⟩) Ad))
   have h4:(i:Int) >0:=of_decide_eq_true h3
   have h5:=hin h
   show(0:Int)≤IntKind.i64.wrap ((i:Int) - 1)∧IntKind.i64.wrap ((i:Int) - 1) <(c.writes.length:Int)
   rw[i64_in (by omega)]
   omega)
 have hr:RZ l c=(l,(k:Int),c):=hx
 refine⟨Aa hw (Aa (fun _ h=>Bt5 (B31.1 (by
  cases hs:c.site !=1&&c.site !=2 with
  |false=>rfl
  |true=>
   have h':(c.site !=(1:Int)&&c.site !=(2:Int)||decide (c.seq <(1:Int))||decide (c.seq >(1099511627776:Int))||!HD c.stamp||c.stamp.site !=c.site||!E8 c.vec)=false:=h
   rw[hs] at h'
   simp at h'))) (Aa (fun _ _=>h1) Ad)),?_⟩
 unfold Ahp LG
 show(bif AO l !=0 then AO l else _)=_
 congr 1
 have e0:Kn l c=(!Ik c||!Ale c):=by
  rw[Bs9,Bool.not_not]
  unfold Kn GP Ale
  rw[Ze,RQ]
  have h2:decide ((c.5.length:Int) <(1:Int))=!decide (1≤c.writes.length):=by rw[←decide_not];exact decide_eq_decide.2 (by show(c.writes.length:Int) <1↔_;omega)
  have h3:decide ((c.5.length:Int) >(8:Int))=!decide (c.writes.length≤8):=by rw[←decide_not];exact decide_eq_decide.2 (by show(c.writes.length:Int) >8↔_;omega)
  rw[h2,h3]
  show(_||_||_||!In c.stamp||c.stamp.site !=c.site||_||_||_||_)=(_||_||_||c.stamp.site !=c.site||!In c.stamp||_||_||_)
  cases In c.stamp<;>cases c.stamp.site !=c.site<;>cases decide (1≤c.writes.length)<;>cases decide (c.writes.length≤8)<;>simp
 rw[e0,hr]
 show(bif !Ik c||!Ale c then 120 else bif Ed l (k:Int) c then 120 else 0)=_
 rw[Btw l c k (Nat.le_trans hk hb),hb']
 cases Ik c<;>cases Ale c<;>cases JX c.writes.length (fun i=>!Re l c.writes i)<;>rfl
theorem Bl9 (a0:List TGroup) (a1:TChange) (hp:∀p∈Ame a0 a1,p):CallOk Try.prog 171 [.sl .group a0,Af .change a1] 0 [] 1 (Auj a0 a1) 0 (Auh a0 a1):=by
 have hb:Am a1.writes.length:=hp _ (List.mem_cons_self ..)
 have hw:∀g∈a0,Am g.1.size:=hp _ (List.mem_cons_of_mem _ (List.mem_cons_self ..))
 have h:=Bqd a0 a1 (Aug a0 a1 hb hw).1
 unfold Ahq at h
 rw[(Aug a0 a1 hb hw).2] at h
 exact h
def A5c:List A→Nat→Objs→Option AV:=A7 [.l .group,.t .change] 0 Auj Auh Ame
theorem Bfn:ET Try.prog 171 A5c:=Aq (ks:=[.l .group,.t .change]) Bl9
noncomputable def B5j:=AU 171 A5c Bhh
theorem Bw8:CD Try.prog B5j:=Ak Bfn Ay5
noncomputable def Cch:=B5j
theorem Bno:CD Try.prog Cch:=Bw8
end Go.Proofs.Yteebobbhhgmeiaa
namespace Go.Proofs.Yteebobbhhgmeiaa
open Go.RowKit
section
variable {l:List TGroup} {k:ByteArray}
end
def nb (rows:List TRow):List TRow:=rows.filter fun r=>!Cp r
theorem B78 {l:List TGroup} {rows:List TRow} (hr:JI rows) (hg:∀r∈rows,Ah l r=0):Stt l (nb rows):=by
 refine⟨List.Pairwise.filter _ hr,fun r hm=>?_⟩
 obtain⟨h1,h2⟩:=List.mem_filter.1 hm
 exact⟨hg r h1,by simpa using h2⟩
end Go.Proofs.Yteebobbhhgmeiaa
namespace Go.Proofs.Yteebobbhhgmeiaa
open Go.RowKit
def ofC (p:Int) (s:TStamp) (v:TVec) (g:Bool) (x:ByteArray):TCell:=bif p==2&&g then⟨⟨0,0⟩,⟨0,0⟩,false,⟨#[]⟩,v⟩ else⟨s,v,g,x,⟨0,0⟩⟩
def Aiw (l:List TGroup) (c:TChange) (w:TWrite):TCell:=ofC (Agc l w.group.toNat) c.stamp c.vec w.gone w.value
def Bel (l:List TGroup) (k:ByteArray):TRow:=⟨k,List.replicate l.length zeroC⟩
def Ass (o:List TRow):TRow:=BA o (o.length - 1)
def Ji (l:List TGroup) (o:List TRow) (k:ByteArray):List TRow:=bif(o.length==0)||!((Ass o).key==k) then o++[Bel l k] else o
def Bk4 (l:List TGroup) (c:TChange) (o:List TRow) (w:TWrite):List TRow:=o.set (o.length - 1) ⟨(Ass o).key,(Ass o).cells.set w.group.toNat (Aiw l c w)⟩
def Sf (l:List TGroup) (c:TChange) (o:List TRow) (w:TWrite):List TRow:=Bk4 l c (Ji l o w.key) w
def LT (l:List TGroup) (c:TChange):Nat→List TRow
 |0=>[]
 |i+1=>Sf l c (LT l c i) (wN c.writes i)
def Si (l:List TGroup) (c:TChange):List TRow:=bif LG l c==0 then LT l c c.writes.length else[]
theorem Bix {l:List TGroup} {c:TChange}:LG l c=0↔AO l=0∧Ik c=true∧Ale c=true∧∀i,i <c.writes.length→Re l c.writes i=false:=by
 unfold LG
 cases h:AO l !=0 with
 |true=>
  rw[cond_true]
  have h':AO l≠0:=by simpa using h
  exact⟨fun e=>absurd e h',fun e=>absurd e.1 h'⟩
 | false=>
  have h':AO l=0:=by simpa using h
  rw[cond_false]
  cases h1:Ik c with
  |false=>exact⟨fun e=>(by cases e),fun e=>by cases e.2.1⟩
  | true=>
   cases h2:Ale c with
   |false=>exact⟨fun e=>(by cases e),fun e=>by cases e.2.2.1⟩
   | true=>
    rw[Bool.true_and,Bool.true_and]
    cases h3:JX c.writes.length (fun i=>!Re l c.writes i) with
    |false=>
     refine⟨fun e=>(by cases e),fun e=>?_⟩
     have:JX c.writes.length (fun i=>!Re l c.writes i)=true:=JY.2 fun i hi=>by rw[e.2.2.2 i hi];rfl
     rw[this] at h3
     cases h3
    |true=>exact⟨fun _=>⟨h',rfl,rfl,fun i hi=>by simpa using JY.1 h3 i hi⟩,fun _=>rfl⟩
theorem Abd {l:List TGroup} {w:TWrite} (h:UO l w=true):w.key.size≠0∧w.key.size≤32∧0≤w.group∧w.group <(l.length:Int)∧w.value.size≤64∧(w.gone=true→w.value.size=0):=by
 unfold UO at h
 simp only[Bool.and_eq_true,Bool.not_eq_true',beq_eq_false_iff_ne,decide_eq_true_eq,Bool.or_eq_true,beq_iff_eq] at h
 obtain⟨⟨⟨⟨⟨h1,h2⟩,h3⟩,h4⟩,h5⟩,h6⟩:=h
 exact⟨h1,h2,h3,h4,h5,fun e=>by rcases h6 with h6|h6<;>first|exact h6|(rw[e] at h6;cases h6)⟩
theorem Azo {l:List TGroup} {ws:List TWrite} {i:Nat} (h:Re l ws i=false):UO l (wN ws i)=true∧(0 <i→Sg (wN ws (i - 1)) (wN ws i)=true):=by
 unfold Re at h
 rw[Bool.or_eq_false_iff] at h
 refine⟨by simpa using h.1,fun hi=>?_⟩
 have:=h.2
 rw[decide_eq_true hi,Bool.true_and] at this
 simpa using this
theorem Aog {c:TChange} (h:Ik c=true):(c.site=1∨c.site=2)∧1≤c.seq∧c.seq≤1099511627776∧c.stamp.site=c.site∧In c.stamp=true∧CM c.vec=true:=by
 unfold Ik at h
 simp only[Bool.and_eq_true,Bool.or_eq_true,beq_iff_eq,decide_eq_true_eq] at h
 obtain⟨⟨⟨⟨⟨⟨h1,h2⟩,h3⟩,h4⟩,h5⟩,h6⟩,_⟩:=h
 exact⟨h1,h2,h3,h4,h5,h6⟩
theorem Bzk {c:TChange} (h:Ik c=true):0 <c.stamp.n:=by
 obtain⟨h1,_,_,h4,h5,_⟩:=Aog h
 unfold In at h5
 have hs:(c.stamp.site==0)=false:=beq_eq_false_iff_ne.2 (by rw[h4];rcases h1 with e|e<;>rw[e]<;>decide)
 rw[hs,Bool.and_false,cond_false] at h5
 simp only[Bool.and_eq_true,decide_eq_true_eq] at h5
 omega
theorem Btv {l:List TGroup} (hp:AO l=0) {g:Nat} (hg:g <l.length):Agc l g=1∨Agc l g=2:=by
 have h:Ah l ⟨⟨#[1]⟩,List.replicate l.length zeroC⟩=0:=by
  rw[Rp]
  unfold Xo TI
  rw[hp]
  rfl
 have h1:=J6 h hg
 unfold Bw at h1
 by_cases e1:Agc l g=1
 ·exact .inl e1
 by_cases e2:Agc l g=2
 ·exact .inr e2
 ·have f1:(Agc l g==1)=false:=beq_eq_false_iff_ne.2 e1
  have f2:(Agc l g==2)=false:=beq_eq_false_iff_ne.2 e2
  simp[f1,f2] at h1
theorem B0f {p:Int} (hp:p=1∨p=2) {s:TStamp} {v:TVec} {g:Bool} {x:ByteArray} (hs:In s=true) (hn:0 <s.n) (hv:CM v=true) (hx:x.size≤64) (hg:g=true→x.size=0):Bw p (ofC p s v g x)=true:=by
 have hw:∀d:TVec,BY ⟨s,v,g,x,d⟩=true:=fun d=>by
  unfold BY
  have:(s.n==0)=false:=beq_eq_false_iff_ne.2 (by omega)
  show(!(s.n==0&&_&&_&&_))=true
  rw[this]
  rfl
 have hgx:(g&&!(x.size==0))=false:=by
  cases g with
  |false=>rfl
  |true=>rw[hg rfl];rfl
 have hz:HG ⟨0,0⟩=true:=rfl
 have hx':decide ((x.size:Int)≤64)=true:=decide_eq_true (by omega)
 rcases hp with rfl|rfl
 ·show Bw 1 ⟨s,v,g,x,⟨0,0⟩⟩=true
  unfold Bw
  rw[hw]
  show(bif(1:Int)==1&&!HG ⟨0,0⟩||_ then false else bif !true then true else In s&&decide (0 <s.n)&&CM v&&decide ((x.size:Int)≤64)&&!(g&&!(x.size==0)))=true
  rw[hs,decide_eq_true hn,hv,hx',hgx]
  rfl
 ·unfold ofC
  cases g with
  |true=>
   show Bw 2 ⟨⟨0,0⟩,⟨0,0⟩,false,⟨#[]⟩,v⟩=true
   unfold Bw
   show(bif(2:Int)==1&&!HG v||((2:Int)==2&&(false||!CM v)||!((2:Int)==1||(2:Int)==2)) then false else bif !BY ⟨⟨0,0⟩,⟨0,0⟩,false,⟨#[]⟩,v⟩ then true else _)=true
   rw[hv]
   rfl
  |false=>
   show Bw 2 ⟨s,v,false,x,⟨0,0⟩⟩=true
   unfold Bw
   rw[hw]
   show(bif(2:Int)==1&&!HG ⟨0,0⟩||((2:Int)==2&&(false||!CM ⟨0,0⟩)||!((2:Int)==1||(2:Int)==2)) then false else bif !true then true else In s&&decide (0 <s.n)&&CM v&&decide ((x.size:Int)≤64)&&!(false&&!(x.size==0)))=true
   rw[hs,decide_eq_true hn,hv,hx']
   rfl
theorem Ae3 {l:List TGroup} {c:TChange} {w:TWrite} (hp:AO l=0) (hh:Ik c=true) (hw:UO l w=true):Bw (Agc l w.group.toNat) (Aiw l c w)=true:=by
 obtain⟨_,_,h3,h4,h5,h6⟩:=Abd hw
 obtain⟨_,_,_,_,s5,s6⟩:=Aog hh
 exact B0f (Btv hp (by omega)) s5 (Bzk hh) s6 h5 h6
theorem Ao3 (pre:List TRow) (z:TRow):Ass (pre++[z])=z:=by
 unfold Ass BA
 rw[List.length_append,List.length_singleton,Nat.add_sub_cancel,List.getD_eq_getElem?_getD,List.getElem?_append_right (Nat.le_refl _),Nat.sub_self]
 rfl
theorem A27 (l:List TGroup) (c:TChange) (pre:List TRow) (z:TRow) (w:TWrite):Bk4 l c (pre++[z]) w=pre++[⟨z.key,z.cells.set w.group.toNat (Aiw l c w)⟩]:=by
 unfold Bk4
 rw[Ao3,List.length_append,List.length_singleton,Nat.add_sub_cancel,List.set_append_right _ _ (Nat.le_refl _),Nat.sub_self]
 rfl
theorem XZ {l:List TGroup} {r:TRow} {g:Nat} {x:TCell} (h:Ah l r=0) (hx:Bw (Agc l g) x=true):Ah l ⟨r.key,r.cells.set g x⟩=0:=by
 obtain⟨h1,h2,h3,h4,_⟩:=AK h
 have hl:(r.cells.set g x).length=l.length:=by rw[List.length_set];exact h2
 refine A0r h1 h3 h4 hl ((Bc5 hl).2 fun i hi=>?_)
 have e:HH (r.cells.set g x) i=if g=i then x else HH r.cells i:=by
  unfold HH
  rw[List.getD_eq_getElem?_getD,List.getElem?_set]
  by_cases e:g=i
  ·subst e
   rw[if_pos rfl,if_pos rfl,if_pos (by omega)]
   rfl
  ·rw[if_neg e,if_neg e,←List.getD_eq_getElem?_getD]
 rw[e]
 by_cases e:g=i
 ·subst e
  rw[if_pos rfl]
  exact hx
 ·rw[if_neg e]
  exact J6 h hi
theorem Ajq {l:List TGroup} {w:TWrite} (hp:AO l=0) (hw:UO l w=true):Ah l (Bel l w.key)=0:=by
 obtain⟨h1,h2,_⟩:=Abd hw
 unfold Bel
 rw[Rp]
 unfold Xo TI
 rw[hp,beq_eq_false_iff_ne.2 h1,decide_eq_false (by omega)]
 rfl
theorem A5o {pre:List TRow} {z:TRow}:JI (pre++[z])↔JI pre∧∀r∈pre,Ip r.key z.key=true:=by
 unfold JI
 rw[List.pairwise_append]
 constructor
 ·rintro⟨h1,_,h3⟩
  exact⟨h1,fun r hr=>h3 r hr z (List.mem_singleton.2 rfl)⟩
 ·rintro⟨h1,h2⟩
  exact⟨h1,List.pairwise_singleton _ _,fun r hr y hy=>by rw[List.mem_singleton.1 hy];exact h2 r hr⟩
structure ChI (l:List TGroup) (o:List TRow) (k:ByteArray):Prop where
 last:∃pre z,o=pre++[z]∧z.key=k
 rise:JI o
 good:∀r∈o,Ah l r=0
theorem Bnd {l:List TGroup} {c:TChange} {w:TWrite} (hp:AO l=0) (hh:Ik c=true) (hw:UO l w=true):ChI l (Sf l c [] w) w.key:=by
 have e:Sf l c [] w=[]++[⟨w.key,(Bel l w.key).cells.set w.group.toNat (Aiw l c w)⟩]:=A27 l c [] (Bel l w.key) w
 rw[e]
 refine⟨⟨[],_,rfl,rfl⟩,List.pairwise_singleton _ _,fun r hr=>?_⟩
 rw[List.mem_singleton.1 hr]
 exact XZ (Ajq hp hw) (Ae3 hp hh hw)
theorem Bqu {l:List TGroup} {c:TChange} {o:List TRow} {v w:TWrite} (hp:AO l=0) (hh:Ik c=true) (hw:UO l w=true) (h:ChI l o v.key) (hv:Sg v w=true):ChI l (Sf l c o w) w.key:=by
 obtain⟨⟨pre,z,rfl,hz⟩,hr,hg⟩:=h
 have hn:((pre++[z]).length==0)=false:=beq_eq_false_iff_ne.2 (by rw[List.length_append,List.length_singleton];omega)
 obtain⟨r1,r2⟩:=A5o.1 hr
 by_cases hk:z.key=w.key
 ·have e:Sf l c (pre++[z]) w=pre++[⟨z.key,z.cells.set w.group.toNat (Aiw l c w)⟩]:=by
   unfold Sf Ji
   rw[hn,Ao3,hk,beq_self_eq_true]
   show Bk4 l c (pre++[z]) w=_
   rw[A27,hk]
  rw[e]
  refine⟨⟨pre,_,rfl,hk⟩,A5o.2 ⟨r1,r2⟩,fun r hr=>?_⟩
  rcases List.mem_append.1 hr with hr|hr
  ·exact hg r (List.mem_append.2 (.inl hr))
  ·rw[List.mem_singleton.1 hr]
   exact XZ (hg z (List.mem_append.2 (.inr (List.mem_singleton.2 rfl)))) (Ae3 hp hh hw)
 ·have e:Sf l c (pre++[z]) w=(pre++[z])++[⟨w.key,(Bel l w.key).cells.set w.group.toNat (Aiw l c w)⟩]:=by
   unfold Sf Ji
   rw[hn,Ao3,beq_eq_false_iff_ne.2 hk]
   show Bk4 l c ((pre++[z])++[Bel l w.key]) w=_
   rw[A27]
   rfl
  have hlt:Ip z.key w.key=true:=by
   unfold Sg at hv
   rw[←hz,beq_eq_false_iff_ne.2 hk,Bool.false_and,Bool.or_false] at hv
   exact hv
  rw[e]
  refine⟨⟨pre++[z],_,rfl,rfl⟩,A5o.2 ⟨hr,fun r hr=>?_⟩,fun r hr=>?_⟩
  ·rcases List.mem_append.1 hr with hr|hr
   ·exact KD (r2 r hr) hlt
   ·rw[List.mem_singleton.1 hr]
    exact hlt
  ·rcases List.mem_append.1 hr with hr|hr
   ·exact hg r hr
   ·rw[List.mem_singleton.1 hr]
    exact XZ (Ajq hp hw) (Ae3 hp hh hw)
theorem Bsy {l:List TGroup} {c:TChange} (h:LG l c=0):∀i,i <c.writes.length→ChI l (LT l c (i+1)) (wN c.writes i).key
 |0,hi=>by
  obtain⟨hp,hh,_,hb⟩:=Bix.1 h
  exact Bnd hp hh (Azo (hb 0 hi)).1
 |i+1,hi=>by
  obtain⟨hp,hh,_,hb⟩:=Bix.1 h
  obtain⟨h1,h2⟩:=Azo (hb (i+1) hi)
  exact Bqu hp hh h1 (Bsy h i (by omega)) (h2 (by omega))
theorem Biy {l:List TGroup} {c:TChange} (h:LG l c=0) (i:Nat) (hi:i≤c.writes.length):JI (LT l c i)∧∀r∈LT l c i,Ah l r=0:=by
 cases i with
 |zero=>exact⟨List.Pairwise.nil,fun r hr=>by cases hr⟩
 |succ i=>
  have:=Bsy h i hi
  exact⟨this.rise,this.good⟩
theorem Ai1 (l:List TGroup) (c:TChange):JI (Si l c)∧∀r∈Si l c,Ah l r=0:=by
 unfold Si
 cases h:LG l c==0 with
 |false=>exact⟨List.Pairwise.nil,fun r hr=>by cases hr⟩
 |true=>exact Biy (by simpa using h) _ (Nat.le_refl _)
theorem Bv6 (l:List TGroup) (c:TChange) (o:List TRow) (w:TWrite):(Sf l c o w).length≤o.length+1:=by
 unfold Sf Bk4 Ji
 rw[List.length_set]
 cases(o.length==0)||!((Ass o).key==w.key) with
 |true=>rw[cond_true,List.length_append];exact Nat.le_refl _
 |false=>exact Nat.le_succ _
theorem Bcq (l:List TGroup) (c:TChange):∀i,(LT l c i).length≤i
 |0=>Nat.le_refl _
 |i+1=>Nat.le_trans (Bv6 ..) (Nat.succ_le_succ (Bcq l c i))
end Go.Proofs.Yteebobbhhgmeiaa
namespace Go.Proofs.Yteebobbhhgmeiaa
open Go.RowKit
def Bsk (a0:List TGroup) (a1:TChange):A:=.tup [.dq 0,.v (.int .i64 (LG a0 a1))]
def Bsj (a0:List TGroup) (a1:TChange):Objs:=[(0,some (.deep 71 .row (Si a0 a1)))]
theorem Btq {l:List TGroup} {c:TChange} {w:TWrite} (hp:AO l=0) (hh:Ik c=true) (hw:UO l w=true):Kf (l.getD w.group.toNat (Ab TC.group)).2 c.stamp c.vec w.gone w.value=Aiw l c w∧Iv (l.getD w.group.toNat (Ab TC.group)).2 c.stamp c.vec w.gone w.value=Aiw l c w:=by
 obtain⟨_,_,g0,g1,hx,hg⟩:=Abd hw
 obtain⟨_,_,_,_,hs,hv⟩:=Aog hh
 have hn:0 <c.stamp.n:=Bzk hh
 have hpo:(l.getD w.group.toNat (Ab TC.group)).2=1∨(l.getD w.group.toNat (Ab TC.group)).2=2:=Btv hp (by omega)
 unfold Aiw Agc
 show _=ofC (l.getD w.group.toNat (Ab TC.group)).2 _ _ _ _∧_=ofC (l.getD w.group.toNat (Ab TC.group)).2 _ _ _ _
 generalize (l.getD w.group.toNat (Ab TC.group)).2=p at*
 generalize c.stamp=s at*
 generalize c.vec=v at*
 have h1:(p !=(1:Int)&&p !=(2:Int))=false:=B31.2 hpo
 have h2:(s.1==(0:Int))=false:=beq_eq_false_iff_ne.2 (by have:s.1=s.n:=rfl;omega)
 have h3:(w.gone&&!w.value.toList==(ByteArray.mk #[]).toList)=false:=by
  rw[SQ]
  cases h:w.gone with
  |false=>rfl
  |true=>rw[hg h];rfl
 have h4:decide ((w.value.size:Int) >(64:Int))=false:=decide_eq_false (by omega)
 constructor
 ·have k0:IK p s v w.gone w.value=false:=by
   unfold IK
   rw[Ze,RQ,hs,hv,h1,h2,h3]
   rfl
  have k1:JE p s v w.gone w.value=false:=h4
  have k2:JF p s v w.gone w.value=(p==2&&w.gone):=rfl
  unfold Kf ofC
  rw[k0,k1,k2]
  cases p==2&&w.gone<;>rfl
 ·have k2:Jd p s v w.gone w.value=false:=by
   unfold Jd
   rw[K6,LO,hs,hv,h1,h2,h3]
   rfl
  have k3:JZ p s v w.gone w.value=false:=h4
  have k1:Hl p s v w.gone w.value=(p==2&&w.gone):=by
   unfold Hl
   rw[k2,k3]
   cases w.gone<;>cases p==2<;>rfl
  have k0:MX p s v w.gone w.value=0:=by
   unfold MX
   rw[k2,k3]
   rfl
  unfold Iv ofC
  rw[k1,k0,k2,k3]
  cases p==2&&w.gone<;>rfl
theorem Ako {n:Nat} (h:n≤100):(IntKind.i64.wrap ((n:Int) - 1)).toNat=n - 1:=by
 rw[i64_in (by omega)]
 omega
theorem Vw (l:List TGroup) (o:List TRow) (k:ByteArray):1≤(Ji l o k).length∧(Ji l o k).length≤o.length+1:=by
 unfold Ji
 cases h:(o.length==0)||!((Ass o).key==k) with
 |true=>rw[cond_true,List.length_append];exact⟨Nat.le_add_left _ _,Nat.le_refl _⟩
 |false=>
  rw[cond_false]
  have:(o.length==0)=false:=(Bool.or_eq_false_iff.1 h).1
  have:o.length≠0:=by simpa using this
  omega
theorem Bep {l:List TGroup} {o:List TRow} (k:ByteArray) (h:∀r∈o,Ah l r=0):∀r∈Ji l o k,r.cells.length=l.length:=fun r hr=>by
 have h1:∀r∈o,r.cells.length=l.length:=fun r hr=>(AK (h r hr)).2.1
 unfold Ji at hr
 cases hb:(o.length==0)||!((Ass o).key==k) with
 | true=>
  rw[hb,cond_true] at hr
  rcases List.mem_append.1 hr with hr|hr
  ·exact h1 r hr
  ·rw[List.mem_singleton.1 hr]
   exact List.length_replicate
 |false=>rw[hb,cond_false] at hr;exact h1 r hr
theorem JJ {l:List TGroup} {c:TChange} (h:LG l c=0) {i:Nat} (hi:i <c.writes.length):AO l=0∧Ik c=true∧UO l (wN c.writes i)=true∧c.writes.length≤8∧l.length≤4∧(LT l c i).length≤i∧∀r∈Ji l (LT l c i) (wN c.writes i).key,r.cells.length=l.length:=by
 obtain⟨hp,hh,hn,hb⟩:=Bix.1 h
 unfold Ale at hn
 rw[Bool.and_eq_true,decide_eq_true_eq,decide_eq_true_eq] at hn
 exact⟨hp,hh,(Azo (hb i hi)).1,hn.2,(FR hp).2,Bcq l c i,Bep _ (Biy h i (by omega)).2⟩
theorem Bsw {l:List TGroup} {c:TChange} (h:LG l c=0):c.writes.length≤8:=by
 obtain⟨_,_,hn,_⟩:=Bix.1 h
 unfold Ale at hn
 rw[Bool.and_eq_true,decide_eq_true_eq,decide_eq_true_eq] at hn
 exact hn.2
theorem B0c {l:List TGroup} {w:TWrite} (hp:AO l=0) (hw:UO l w=true):Ald l w.key=Bel l w.key:=by
 obtain⟨h1,h2,_⟩:=Abd hw
 have hk:TI w.key=0:=by
  unfold TI
  rw[show(w.key.size==0)=false by simpa using h1,decide_eq_false (by omega)]
  rfl
 have hn:Xo l w.key=0:=by unfold Xo;rw[hp,hk];rfl
 unfold Ald Bel
 rw[hn]
 rfl
abbrev BC:Type:=(List TGroup)×(List TWrite)×Int×Int×TChange×(List TRow)
def Kx (x:BC):St:=⟨85,3,[(0,.sl .group x.1),(3,.own 0 0),(7,.dq 2),(22,.sl .write x.2.1),(23,.v (.int .i64 x.2.2.1)),(24,.v (.int .i64 x.2.2.2.1))],[(0,some (.box 136 [.v (.int .i64 x.2.2.2.2.1.site),.v (.int .i64 x.2.2.2.2.1.seq),.v (.int .i64 x.2.2.2.2.1.stamp.n),.v (.int .i64 x.2.2.2.2.1.stamp.site),.v (.int .i64 x.2.2.2.2.1.vec.a),.v (.int .i64 x.2.2.2.2.1.vec.b),.sl .write x.2.2.2.2.1.writes])),(2,some (.deep 71 .row x.2.2.2.2.2))]⟩
def LW:St→Option BC
 |⟨85,3,[(0,.sl .group z0),(3,.own 0 0),(7,.dq 2),(22,.sl .write z1),(23,.v (.int .i64 z2)),(24,.v (.int .i64 z3))],[(0,some (.box 136 [.v (.int .i64 z4),.v (.int .i64 z5),.v (.int .i64 z6),.v (.int .i64 z7),.v (.int .i64 z8),.v (.int .i64 z9),.sl .write z10])),(2,some (.deep 71 .row z11))]⟩=>some (z0,z1,z2,z3,⟨z4,z5,⟨z6,z7⟩,⟨z8,z9⟩,z10⟩,z11)
 |_=>none
theorem Abg:∀s x,LW s=some x→s=Kx x:=fun s x h=>by
 unfold LW at h
 split at h
 ·cases h;rfl
 ·cases h
def To:Co:=⟨2,3,[0,3,7,22,23,24],[],[(0,0),(8,2)],[0,8],[7],[2,0]⟩
def An0:CR:=⟨[.nilD 7 71 .row],[(0,0),(1,2)],[0,3,7,22,23,24],[0,1]⟩
def Bl (_a0:List TGroup) (_a1:List TWrite) (_a2:Int) (_a3:Int) (_a4:TChange) (a5:List TRow):Bool:=(↑a5.length:Int)==(0:Int)
def AX (_a0:List TGroup) (_a1:List TWrite) (_a2:Int) (_a3:Int) (_a4:TChange) (a5:List TRow):Int:=IntKind.i64.wrap ((↑a5.length:Int) - (1:Int))
def AC (a0:List TGroup) (a1:List TWrite) (a2:Int) (a3:Int) (a4:TChange) (a5:List TRow):List TRow:=bif(Bl a0 a1 a2 a3 a4 a5)||!(a5.getD (AX a0 a1 a2 a3 a4 a5).toNat (Ab TC.row)).1.toList==(a1.getD a3.toNat (Ab TC.write)).1.toList then a5++[S5 TC.row TC.cell (TRow.mk (Ald a0 (a1.getD a3.toNat (Ab TC.write)).1).1 []) (Ald a0 (a1.getD a3.toNat (Ab TC.write)).1).2] else a5
def Az (a0:List TGroup) (a1:List TWrite) (a2:Int) (a3:Int) (a4:TChange) (a5:List TRow):Int:=IntKind.i64.wrap ((↑(AC a0 a1 a2 a3 a4 a5).length:Int) - (1:Int))
def Je (a0:List TGroup) (a1:List TWrite) (a2:Int) (a3:Int) (a4:TChange) (a5:List TRow):List TRow:=(AC a0 a1 a2 a3 a4 a5).set (Az a0 a1 a2 a3 a4 a5).toNat (S5 TC.row TC.cell ((AC a0 a1 a2 a3 a4 a5).getD (Az a0 a1 a2 a3 a4 a5).toNat (Ab TC.row)) (((AC a0 a1 a2 a3 a4 a5).getD (Az a0 a1 a2 a3 a4 a5).toNat (Ab TC.row)).2.set (a1.getD a3.toNat (Ab TC.write)).2.toNat (Iv (a0.getD (a1.getD a3.toNat (Ab TC.write)).2.toNat (Ab TC.group)).2 a4.3 a4.4 (a1.getD a3.toNat (Ab TC.write)).3 (a1.getD a3.toNat (Ab TC.write)).4)))
def Du (x:BC):BC:=(x.1,x.2.1,x.2.2.1,IntKind.i64.wrap (x.2.2.2.1+(1:Int)),x.2.2.2.2.1,Je x.1 x.2.1 x.2.2.1 x.2.2.2.1 x.2.2.2.2.1 x.2.2.2.2.2)
def Dt (x:BC):Cnd:=some (!!decide (x.2.2.2.1 <x.2.2.1))
def PM (x:BC):List Prop:=[((!!decide (x.2.2.2.1 <x.2.2.1))=true→(0:Int)≤x.2.2.2.1∧x.2.2.2.1 <(↑x.2.1.length:Int)),((!!decide (x.2.2.2.1 <x.2.2.1))=true→(Bl x.1 x.2.1 x.2.2.1 x.2.2.2.1 x.2.2.2.2.1 x.2.2.2.2.2)=false→(0:Int)≤(AX x.1 x.2.1 x.2.2.1 x.2.2.2.1 x.2.2.2.2.1 x.2.2.2.2.2)∧(AX x.1 x.2.1 x.2.2.1 x.2.2.2.1 x.2.2.2.2.1 x.2.2.2.2.2) <(↑x.2.2.2.2.2.length:Int)),((!!decide (x.2.2.2.1 <x.2.2.1))=true→(Bl x.1 x.2.1 x.2.2.1 x.2.2.2.1 x.2.2.2.2.1 x.2.2.2.2.2)=false→(AX x.1 x.2.1 x.2.2.1 x.2.2.2.1 x.2.2.2.2.1 x.2.2.2.2.2).toNat <x.2.2.2.2.2.length),((!!decide (x.2.2.2.1 <x.2.2.1))=true→((Bl x.1 x.2.1 x.2.2.1 x.2.2.2.1 x.2.2.2.2.1 x.2.2.2.2.2)||!(x.2.2.2.2.2.getD (AX x.1 x.2.1 x.2.2.1 x.2.2.2.1 x.2.2.2.2.1 x.2.2.2.2.2).toNat (Ab TC.row)).1.toList==(x.2.1.getD x.2.2.2.1.toNat (Ab TC.write)).1.toList)=true→Ag x.1.length),((!!decide (x.2.2.2.1 <x.2.2.1))=true→((Bl x.1 x.2.1 x.2.2.1 x.2.2.2.1 x.2.2.2.2.1 x.2.2.2.2.2)||!(x.2.2.2.2.2.getD (AX x.1 x.2.1 x.2.2.1 x.2.2.2.1 x.2.2.2.2.1 x.2.2.2.2.2).toNat (Ab TC.row)).1.toList==(x.2.1.getD x.2.2.2.1.toNat (Ab TC.write)).1.toList)=true→Ag (x.2.2.2.2.2.length+(1:Nat))),((!!decide (x.2.2.2.1 <x.2.2.1))=true→(0:Int)≤(x.2.1.getD x.2.2.2.1.toNat (Ab TC.write)).2∧(x.2.1.getD x.2.2.2.1.toNat (Ab TC.write)).2 <(↑x.1.length:Int)),((!!decide (x.2.2.2.1 <x.2.2.1))=true→(0:Int)≤(Az x.1 x.2.1 x.2.2.1 x.2.2.2.1 x.2.2.2.2.1 x.2.2.2.2.2)∧(Az x.1 x.2.1 x.2.2.1 x.2.2.2.1 x.2.2.2.2.1 x.2.2.2.2.2) <(↑(AC x.1 x.2.1 x.2.2.1 x.2.2.2.1 x.2.2.2.2.1 x.2.2.2.2.2).length:Int)),((!!decide (x.2.2.2.1 <x.2.2.1))=true→(Az x.1 x.2.1 x.2.2.1 x.2.2.2.1 x.2.2.2.2.1 x.2.2.2.2.2).toNat <(AC x.1 x.2.1 x.2.2.1 x.2.2.2.1 x.2.2.2.2.1 x.2.2.2.2.2).length),((!!decide (x.2.2.2.1 <x.2.2.1))=true→(Az x.1 x.2.1 x.2.2.1 x.2.2.2.1 x.2.2.2.2.1 x.2.2.2.2.2).toNat <(AC x.1 x.2.1 x.2.2.1 x.2.2.2.1 x.2.2.2.2.1 x.2.2.2.2.2).length∧(0:Int)≤(x.2.1.getD x.2.2.2.1.toNat (Ab TC.write)).2∧(x.2.1.getD x.2.2.2.1.toNat (Ab TC.write)).2 <(↑((AC x.1 x.2.1 x.2.2.1 x.2.2.2.1 x.2.2.2.2.1 x.2.2.2.2.2).getD (Az x.1 x.2.1 x.2.2.1 x.2.2.2.1 x.2.2.2.2.1 x.2.2.2.2.2).toNat (Ab TC.row)).2.length:Int)),((!!decide (x.2.2.2.1 <x.2.2.1))=true→(Az x.1 x.2.1 x.2.2.1 x.2.2.2.1 x.2.2.2.2.1 x.2.2.2.2.2).toNat <(AC x.1 x.2.1 x.2.2.1 x.2.2.2.1 x.2.2.2.2.1 x.2.2.2.2.2).length),((!!decide (x.2.2.2.1 <x.2.2.1))=true→(x.2.1.getD x.2.2.2.1.toNat (Ab TC.write)).2.toNat <((AC x.1 x.2.1 x.2.2.1 x.2.2.2.1 x.2.2.2.2.1 x.2.2.2.2.2).getD (Az x.1 x.2.1 x.2.2.1 x.2.2.2.1 x.2.2.2.2.1 x.2.2.2.2.2).toNat (Ab TC.row)).2.length)]
def FP (x:BC):List Prop:=[((!!decide (x.2.2.2.1 <x.2.2.1))=true→(0:Int)≤x.2.2.2.1∧x.2.2.2.1 <(↑x.2.1.length:Int)),((!!decide (x.2.2.2.1 <x.2.2.1))=true→(Bl x.1 x.2.1 x.2.2.1 x.2.2.2.1 x.2.2.2.2.1 x.2.2.2.2.2)=false→(0:Int)≤(AX x.1 x.2.1 x.2.2.1 x.2.2.2.1 x.2.2.2.2.1 x.2.2.2.2.2)∧(AX x.1 x.2.1 x.2.2.1 x.2.2.2.1 x.2.2.2.2.1 x.2.2.2.2.2) <(↑x.2.2.2.2.2.length:Int)),((!!decide (x.2.2.2.1 <x.2.2.1))=true→((Bl x.1 x.2.1 x.2.2.1 x.2.2.2.1 x.2.2.2.2.1 x.2.2.2.2.2)||!(x.2.2.2.2.2.getD (AX x.1 x.2.1 x.2.2.1 x.2.2.2.1 x.2.2.2.2.1 x.2.2.2.2.2).toNat (Ab TC.row)).1.toList==(x.2.1.getD x.2.2.2.1.toNat (Ab TC.write)).1.toList)=true→Ag x.1.length),((!!decide (x.2.2.2.1 <x.2.2.1))=true→((Bl x.1 x.2.1 x.2.2.1 x.2.2.2.1 x.2.2.2.2.1 x.2.2.2.2.2)||!(x.2.2.2.2.2.getD (AX x.1 x.2.1 x.2.2.1 x.2.2.2.1 x.2.2.2.2.1 x.2.2.2.2.2).toNat (Ab TC.row)).1.toList==(x.2.1.getD x.2.2.2.1.toNat (Ab TC.write)).1.toList)=true→Ag (x.2.2.2.2.2.length+(1:Nat))),((!!decide (x.2.2.2.1 <x.2.2.1))=true→(0:Int)≤(x.2.1.getD x.2.2.2.1.toNat (Ab TC.write)).2∧(x.2.1.getD x.2.2.2.1.toNat (Ab TC.write)).2 <(↑x.1.length:Int)),((!!decide (x.2.2.2.1 <x.2.2.1))=true→(0:Int)≤(Az x.1 x.2.1 x.2.2.1 x.2.2.2.1 x.2.2.2.2.1 x.2.2.2.2.2)∧(Az x.1 x.2.1 x.2.2.1 x.2.2.2.1 x.2.2.2.2.1 x.2.2.2.2.2) <(↑(AC x.1 x.2.1 x.2.2.1 x.2.2.2.1 x.2.2.2.2.1 x.2.2.2.2.2).length:Int)),((!!decide (x.2.2.2.1 <x.2.2.1))=true→(Az x.1 x.2.1 x.2.2.1 x.2.2.2.1 x.2.2.2.2.1 x.2.2.2.2.2).toNat <(AC x.1 x.2.1 x.2.2.1 x.2.2.2.1 x.2.2.2.2.1 x.2.2.2.2.2).length∧(0:Int)≤(x.2.1.getD x.2.2.2.1.toNat (Ab TC.write)).2∧(x.2.1.getD x.2.2.2.1.toNat (Ab TC.write)).2 <(↑((AC x.1 x.2.1 x.2.2.1 x.2.2.2.1 x.2.2.2.2.1 x.2.2.2.2.2).getD (Az x.1 x.2.1 x.2.2.1 x.2.2.2.1 x.2.2.2.2.1 x.2.2.2.2.2).toNat (Ab TC.row)).2.length:Int)),((!!decide (x.2.2.2.1 <x.2.2.1))=true→(x.2.1.getD x.2.2.2.1.toNat (Ab TC.write)).2.toNat <((AC x.1 x.2.1 x.2.2.1 x.2.2.2.1 x.2.2.2.2.1 x.2.2.2.2.2).getD (Az x.1 x.2.1 x.2.2.1 x.2.2.2.1 x.2.2.2.2.1 x.2.2.2.2.2).toNat (Ab TC.row)).2.length)]
def O2 (x:BC):Bd:=[(some 0,some (!decide (x.2.2.2.1 <x.2.2.1)),⟨85,3,[(7,.dq 2)],[(2,some (.deep 71 .row x.2.2.2.2.2)),(0,some (.box 136 [.v (.int .i64 x.2.2.2.2.1.1),.v (.int .i64 x.2.2.2.2.1.2),.v (.int .i64 x.2.2.2.2.1.3.1),.v (.int .i64 x.2.2.2.2.1.3.2),.v (.int .i64 x.2.2.2.2.1.4.1),.v (.int .i64 x.2.2.2.2.1.4.2),.sl .write x.2.2.2.2.1.5]))]⟩)]
def EO (x:BC):Nat:=(x.2.2.1 - x.2.2.2.1).toNat
def Ln (x:BC):BC:=A5 Du Dt (EO x) x
theorem Ai4 (a0:List TGroup) (a1:List TWrite) (a2:Int) (a3:Int) (a4:TChange) (a5:List TRow):Bk (Au Cch L0) 9 (Ae Try.prog 142 0) To (Kx (a0,a1,a2,a3,a4,a5))=some (PM (a0,a1,a2,a3,a4,a5),O2 (a0,a1,a2,a3,a4,a5),Dt (a0,a1,a2,a3,a4,a5),Kx (Du (a0,a1,a2,a3,a4,a5))):=by kernel_rfl
theorem Ai5 (a0:List TGroup) (a1:List TWrite) (a2:Int) (a3:Int) (a4:TChange) (a5:List TRow) (hp:∀p∈FP (a0,a1,a2,a3,a4,a5),p):∀p∈PM (a0,a1,a2,a3,a4,a5),p:=by
 have n0:=N0 hp
 have n1:((!!decide (a3 <a2))=true→(Bl a0 a1 a2 a3 a4 a5)=false→(0:Int)≤(AX a0 a1 a2 a3 a4 a5)∧(AX a0 a1 a2 a3 a4 a5) <(↑a5.length:Int)):=N0 (N1 hp)
 have n2:((!!decide (a3 <a2))=true→(Bl a0 a1 a2 a3 a4 a5)=false→(AX a0 a1 a2 a3 a4 a5).toNat <a5.length):=by intro h0 h1;have g:=n1 h0 h1;omega
 have n3:=N0 (N1 (N1 hp))
 have n4:=N0 (N1 (N1 (N1 hp)))
 have n5:=N0 (N1 (N1 (N1 (N1 hp))))
 have n6:((!!decide (a3 <a2))=true→(0:Int)≤(Az a0 a1 a2 a3 a4 a5)∧(Az a0 a1 a2 a3 a4 a5) <(↑(AC a0 a1 a2 a3 a4 a5).length:Int)):=N0 (N1 (N1 (N1 (N1 (N1 hp)))))
 have n7:((!!decide (a3 <a2))=true→(Az a0 a1 a2 a3 a4 a5).toNat <(AC a0 a1 a2 a3 a4 a5).length):=by intro h0;have g:=n6 h0;omega
 have n8:=N0 (N1 (N1 (N1 (N1 (N1 (N1 hp))))))
 have n10:=N0 (N1 (N1 (N1 (N1 (N1 (N1 (N1 hp)))))))
 exact(Aa n0 (Aa n1 (Aa n2 (Aa n3 (Aa n4 (Aa n5 (Aa n6 (Aa n7 (Aa n8 (Aa n7 (Aa n10 Ad)))))))))))
noncomputable def PN:=GH (Au Cch L0) (Ae Try.prog 142 0) To An0 LW EO Du Dt FP O2
theorem Afc:∀s b ps outs,PN s=some (b,ps,outs)→Wf s ⟨ps,outs,none⟩∧Be (Au C0 L0) b s ps outs:=
 A6 (T:=Kx) Bno Av (u:=9) (by kernel_rfl) (by decide) (fun⟨a0,a1,a2,a3,a4,a5⟩=>Ai4 a0 a1 a2 a3 a4 a5) (fun⟨a0,a1,a2,a3,a4,a5⟩=>Ai5 a0 a1 a2 a3 a4 a5) Abg (fun _=>AI (n:=85) rfl) fun _ _=>rfl
noncomputable def Tn:=CY 0 PN L0
theorem Afb:Gf Tn:=AP Afc Av
def Hq (a0:List TGroup) (a1:TChange):Bool:=LG a0 a1 !=(0:Int)
def Sn (a0:List TGroup) (a1:TChange):Int:=bif(Hq a0 a1) then LG a0 a1 else(0:Int)
def So (a0:List TGroup) (a1:TChange):List TRow:=bif(Hq a0 a1) then[] else(Ln (a0,a1.5,(↑a1.5.length:Int),(0:Int),a1,[])).snd.snd.snd.snd.snd
def Sq (a0:List TGroup) (a1:TChange):A:=.tup [.dq 0,.v (.int .i64 (Sn a0 a1))]
def Sp (a0:List TGroup) (a1:TChange):Objs:=[(0,some (.deep 71 .row (So a0 a1)))]
def Az9 (a0:List TGroup) (a1:TChange):List Prop:=[(Am a1.5.length),((!(Hq a0 a1))=true→AB Du Dt FP (EO (a0,a1.5,(↑a1.5.length:Int),(0:Int),a1,[])) (a0,a1.5,(↑a1.5.length:Int),(0:Int),a1,[]))]
theorem Az8 (a0:List TGroup) (a1:TChange):Eo (Au Cch Tn) 9 142 [.sl .group a0,Af .change a1] 0 []=some (1,Sq a0 a1,1,Sp a0 a1,[(Am a1.5.length),((!(Hq a0 a1))=true→Ae Try.prog (142:FuncId) (0:Nat)=Ae Try.prog (142:FuncId) (0:Nat)),((!(Hq a0 a1))=true→AB Du Dt FP (EO (a0,a1.5,(↑a1.5.length:Int),(0:Int),a1,[])) (a0,a1.5,(↑a1.5.length:Int),(0:Int),a1,[]))]):=by kernel_rfl
theorem A64 (a0:List TGroup) (a1:TChange) (hp:∀p∈Az9 a0 a1,p):CallOk Try.prog 142 [.sl .group a0,Af .change a1] 0 [] 1 (Sq a0 a1) 1 (Sp a0 a1):=by
 have n0:=N0 hp
 have n1:((!(Hq a0 a1))=true→Ae Try.prog (142:FuncId) (0:Nat)=Ae Try.prog (142:FuncId) (0:Nat)):=by intros;rfl
 have n2:=N0 (N1 hp)
 exact Ax (Ap Bno Afb) (Az8 a0 a1) (Aa n0 (Aa n1 (Aa n2 Ad)))
def XJ (a0:List TGroup) (a1:TChange):A:=Bsk a0 a1
def XI (a0:List TGroup) (a1:TChange):Objs:=Bsj a0 a1
def V8 (_a0:List TGroup) (a1:TChange):List Prop:=[Am a1.writes.length]
theorem Bi2 {l:List TGroup} (i:Nat) {c:TChange} (o:List TRow) (ho:o.length≤9) (hp:AO l=0) (hw:UO l (wN c.writes i)=true):AC l c.writes (c.writes.length:Int) (i:Int) c o=Ji l o (wN c.writes i).key:=by
 have e:=B0c hp hw
 unfold AC Bl AX
 rw[Ako (by omega),tlb,Int.toNat_natCast,Bd0]
 unfold Ji
 rw[←e]
 rfl
theorem Bys {l:List TGroup} {c:TChange} (i:Nat) (o:List TRow) (ho:o.length≤8) (hp:AO l=0) (hh:Ik c=true) (hw:UO l (wN c.writes i)=true):Je l c.writes (c.writes.length:Int) (i:Int) c o=Sf l c o (wN c.writes i):=by
 have:=(Vw l o (wN c.writes i).key).2
 unfold Je Az
 rw[Bi2 i o (by omega) hp hw,Ako (by omega),Int.toNat_natCast]
 have e:=(Btq hp hh hw).2
 unfold Sf Bk4
 rw[←e]
 rfl
theorem Tp {l:List TGroup} {c:TChange} (h:LG l c=0):
  AB Du Dt FP (EO (l,c.writes,(c.writes.length:Int),0,c,[])) (l,c.writes,(c.writes.length:Int),0,c,[])∧Ln (l,c.writes,(c.writes.length:Int),0,c,[])=(l,c.writes,(c.writes.length:Int),(c.writes.length:Int),c,LT l c c.writes.length):=by
 have h8:=Bsw h
 obtain⟨h1,k,hk,hx,_,hst,_⟩:=Io (fun i=>(l,c.writes,(c.writes.length:Int),(i:Int),c,LT l c i):Nat→BC) c.writes.length (fun _=>false) Du Dt FP (EO (l,c.writes,(c.writes.length:Int),0,c,[])) (l,c.writes,(c.writes.length:Int),0,c,[]) rfl (by show c.writes.length≤((c.writes.length:Int) - 0).toNat;omega)
  (fun i _ _=>by
   show(!!decide ((i:Int) <(c.writes.length:Int)))=_
   rw[nn,LY,Bool.not_false,Bool.and_true])
  (fun i hi _=>by
   obtain⟨hp,hh,hw,_,_,hl,_⟩:=JJ h hi
   show(l,c.writes,(c.writes.length:Int),IntKind.i64.wrap ((i:Int)+1),c,Je l c.writes (c.writes.length:Int) (i:Int) c (LT l c i))=(l,c.writes,(c.writes.length:Int),((i+1:Nat):Int),c,LT l c (i+1))
   rw[DU (by omega),Bys i _ (by omega) hp hh hw]
   rfl)
  (fun i hi _=>by
   have hin:(!!decide ((i:Int) <(c.writes.length:Int)))=true→i <c.writes.length:=fun h=>by rw[nn] at h;have:=of_decide_eq_true h;omega
   have hop:i <c.writes.length→_:=fun hi=>Bi2 i (LT l c i) (by have:=(JJ h hi).2.2.2.2.2.1;omega) (JJ h hi).1 (JJ h hi).2.2.1
   have key:i <c.writes.length→_:=fun hi=>Vw l (LT l c i) (wN c.writes i).key
   have hk0:i <c.writes.length→(Az l c.writes (c.writes.length:Int) (i:Int) c (LT l c i))=(((Ji l (LT l c i) (wN c.writes i).key).length - 1:Nat):Int):=fun hi=>by
    have:=key hi
    have:=(JJ h hi).2.2.2.2.2.1
    unfold Az
    rw[hop hi,i64_in (by omega)]
    omega
   have hcl:i <c.writes.length→(((Ji l (LT l c i) (wN c.writes i).key).getD ((Ji l (LT l c i) (wN c.writes i).key).length - 1) (Ab TC.row)).2.length=l.length):=fun hi=>(JJ h hi).2.2.2.2.2.2 _ (getD_in _ _ _ (by have:=key hi;omega))
   have hgr:i <c.writes.length→_:=fun hi=>Abd (JJ h hi).2.2.1
   refine Aa (fun h=>⟨by show(0:Int)≤(i:Int);omega,by have:=hin h;show(i:Int) <(c.writes.length:Int);omega⟩) (Aa (fun h1 h2=>?_) (Aa (fun h1 _=>?_) (Aa (fun h1 _=>?_) (Aa (fun h1=>?_) (Aa (fun h1=>?_) (Aa (fun h1=>?_) (Aa (fun h1=>?_) Ad)))))))
   ·have h3:(((LT l c i).length:Int)==(0:Int))=false:=h2
    rw[Bd0] at h3
    have h4:(LT l c i).length≠0:=by simpa using h3
    have:=(JJ h (hin h1)).2.2.2.2.2.1
    show(0:Int)≤IntKind.i64.wrap (((LT l c i).length:Int) - 1)∧IntKind.i64.wrap (((LT l c i).length:Int) - 1) <((LT l c i).length:Int)
    rw[i64_in (by omega)]
    omega
   ·have:=(JJ h (hin h1)).2.2.2.2.1
    show Ag l.length
    unfold Ag;omega
   ·have:=(JJ h (hin h1)).2.2.2.2.2.1
    show Ag ((LT l c i).length+1)
    unfold Ag;omega
   ·obtain⟨_,_,g0,g1,_⟩:=hgr (hin h1)
    show(0:Int)≤(c.writes.getD ((i:Int)).toNat (Ab TC.write)).group∧(c.writes.getD ((i:Int)).toNat (Ab TC.write)).group <(l.length:Int)
    rw[Int.toNat_natCast]
    exact⟨g0,g1⟩
   ·have:=key (hin h1)
    show(0:Int)≤Az l c.writes (c.writes.length:Int) (i:Int) c (LT l c i)∧Az l c.writes (c.writes.length:Int) (i:Int) c (LT l c i) <((AC l c.writes (c.writes.length:Int) (i:Int) c (LT l c i)).length:Int)
    rw[hk0 (hin h1),hop (hin h1)]
    omega
   ·have:=key (hin h1)
    obtain⟨_,_,g0,g1,_⟩:=hgr (hin h1)
    show(Az l c.writes (c.writes.length:Int) (i:Int) c (LT l c i)).toNat <(AC l c.writes (c.writes.length:Int) (i:Int) c (LT l c i)).length∧(0:Int)≤(c.writes.getD ((i:Int)).toNat (Ab TC.write)).group∧(c.writes.getD ((i:Int)).toNat (Ab TC.write)).group <(((AC l c.writes (c.writes.length:Int) (i:Int) c (LT l c i)).getD (Az l c.writes (c.writes.length:Int) (i:Int) c (LT l c i)).toNat (Ab TC.row)).2.length:Int)
    rw[hk0 (hin h1),hop (hin h1),Int.toNat_natCast,Int.toNat_natCast,hcl (hin h1)]
    exact⟨by omega,g0,g1⟩
   ·obtain⟨_,_,g0,g1,_⟩:=hgr (hin h1)
    show(c.writes.getD ((i:Int)).toNat (Ab TC.write)).group.toNat <((AC l c.writes (c.writes.length:Int) (i:Int) c (LT l c i)).getD (Az l c.writes (c.writes.length:Int) (i:Int) c (LT l c i)).toNat (Ab TC.row)).2.length
    rw[hk0 (hin h1),hop (hin h1),Int.toNat_natCast,Int.toNat_natCast,hcl (hin h1)]
    have g2:(c.writes.getD i (Ab TC.write)).group <(l.length:Int):=g1
    have g3:0≤(c.writes.getD i (Ab TC.write)).group:=g0
    omega)
 have hkn:k=c.writes.length:=by
  rcases Nat.lt_or_ge k c.writes.length with h|h
  ·exact absurd (hst h) (by decide)
  ·omega
 subst hkn
 exact⟨h1,hx⟩
theorem Az7 (a0:List TGroup) (a1:TChange) (hp:∀p∈V8 a0 a1,p):CallOk Try.prog 142 [.sl .group a0,Af .change a1] 0 [] 1 (XJ a0 a1) 1 (XI a0 a1):=by
 have hb:Am a1.writes.length:=hp _ (List.mem_cons_self ..)
 have h:=A64 a0 a1 (Aa hb (Aa (fun h=>(Tp (show LG a0 a1=0 by
  have h':(!(LG a0 a1 !=0))=true:=h
  simpa using h')).1) Ad))
 have e:Sn a0 a1=LG a0 a1∧So a0 a1=Si a0 a1:=by
  unfold Sn So Hq Si
  cases hc:LG a0 a1 !=0 with
  |true=>
   have:(LG a0 a1==0)=false:=by simpa using hc
   rw[this]
   exact⟨rfl,rfl⟩
  |false=>
   have h0:LG a0 a1=0:=by simpa using hc
   have:(LG a0 a1==0)=true:=by simpa using h0
   have q:Ln (a0,a1.5,(a1.5.length:Int),0,a1,[])=(a0,a1.writes,(a1.writes.length:Int),(a1.writes.length:Int),a1,LT a0 a1 a1.writes.length):=(Tp h0).2
   rw[this,q,cond_false]
   exact⟨h0.symm,rfl⟩
 unfold Sq Sp at h
 rw[e.1,e.2] at h
 exact h
def Sr:List A→Nat→Objs→Option AV:=A7 [.l .group,.t .change] 1 XJ XI V8
theorem V9:ET Try.prog 142 Sr:=Aq (ks:=[.l .group,.t .change]) Az7
noncomputable def Brk:=AU 142 Sr Cch
theorem Bhi:CD Try.prog Brk:=Ak V9 Bno
abbrev Dj:Type:=(List TGroup)×Int×TChange×(List TRow)
def NM (x:Dj):St:=⟨82,3,[(0,.sl .group x.1),(3,.own 0 0),(7,.dq 2),(8,.v (.int .i64 x.2.1))],[(0,some (.box 136 [.v (.int .i64 x.2.2.1.site),.v (.int .i64 x.2.2.1.seq),.v (.int .i64 x.2.2.1.stamp.n),.v (.int .i64 x.2.2.1.stamp.site),.v (.int .i64 x.2.2.1.vec.a),.v (.int .i64 x.2.2.1.vec.b),.sl .write x.2.2.1.writes])),(2,some (.deep 71 .row x.2.2.2))]⟩
def QS:St→Option Dj
 |⟨82,3,[(0,.sl .group z0),(3,.own 0 0),(7,.dq 2),(8,.v (.int .i64 z1))],[(0,some (.box 136 [.v (.int .i64 z2),.v (.int .i64 z3),.v (.int .i64 z4),.v (.int .i64 z5),.v (.int .i64 z6),.v (.int .i64 z7),.sl .write z8])),(2,some (.deep 71 .row z9))]⟩=>some (z0,z1,⟨z2,z3,⟨z4,z5⟩,⟨z6,z7⟩,z8⟩,z9)
 |_=>none
theorem Aqx:∀s x,QS s=some x→s=NM x:=fun s x h=>by
 unfold QS at h
 split at h
 ·cases h;rfl
 ·cases h
def Ad2:Co:=⟨2,3,[0,3,7,8],[],[(0,0),(7,2)],[0,7],[7],[2,0]⟩
def A8p:CR:=⟨[.nilD 7 71 .row],[(0,0),(1,2)],[0,3,7,8],[0,1]⟩
def BU (_a0:List TGroup) (_a1:Int) (_a2:TChange) (a3:List TRow):Bool:=(↑a3.length:Int)==(0:Int)
def Bi (_a0:List TGroup) (_a1:Int) (_a2:TChange) (a3:List TRow):Int:=IntKind.i64.wrap ((↑a3.length:Int) - (1:Int))
def AF (_a0:List TGroup) (a1:Int) (a2:TChange) (_a3:List TRow):Bool:=!!decide (a1 <(↑a2.5.length:Int))
def AJ (a0:List TGroup) (a1:Int) (a2:TChange) (a3:List TRow):List TRow:=bif(BU a0 a1 a2 a3)||!(a3.getD (Bi a0 a1 a2 a3).toNat (Ab TC.row)).1.toList==(a2.5.getD a1.toNat (Ab TC.write)).1.toList then a3++[S5 TC.row TC.cell (TRow.mk (a2.5.getD a1.toNat (Ab TC.write)).1 []) (List.replicate a0.length zeroC)] else a3
def AE (a0:List TGroup) (a1:Int) (a2:TChange) (a3:List TRow):Int:=IntKind.i64.wrap ((↑(AJ a0 a1 a2 a3).length:Int) - (1:Int))
def Lg (a0:List TGroup) (a1:Int) (a2:TChange) (a3:List TRow):List TRow:=(AJ a0 a1 a2 a3).set (AE a0 a1 a2 a3).toNat (S5 TC.row TC.cell ((AJ a0 a1 a2 a3).getD (AE a0 a1 a2 a3).toNat (Ab TC.row)) (((AJ a0 a1 a2 a3).getD (AE a0 a1 a2 a3).toNat (Ab TC.row)).2.set (a2.5.getD a1.toNat (Ab TC.write)).2.toNat (Kf (a0.getD (a2.5.getD a1.toNat (Ab TC.write)).2.toNat (Ab TC.group)).2 a2.3 a2.4 (a2.5.getD a1.toNat (Ab TC.write)).3 (a2.5.getD a1.toNat (Ab TC.write)).4)))
def Fs (x:Dj):Dj:=(x.1,IntKind.i64.wrap (x.2.1+(1:Int)),x.2.2.1,Lg x.1 x.2.1 x.2.2.1 x.2.2.2)
def Fr (x:Dj):Cnd:=some ((AF x.1 x.2.1 x.2.2.1 x.2.2.2))
def WX (x:Dj):List Prop:=[((AF x.1 x.2.1 x.2.2.1 x.2.2.2)=true→(0:Int)≤x.2.1∧x.2.1 <(↑x.2.2.1.5.length:Int)),((AF x.1 x.2.1 x.2.2.1 x.2.2.2)=true→(BU x.1 x.2.1 x.2.2.1 x.2.2.2)=false→(0:Int)≤(Bi x.1 x.2.1 x.2.2.1 x.2.2.2)∧(Bi x.1 x.2.1 x.2.2.1 x.2.2.2) <(↑x.2.2.2.length:Int)),((AF x.1 x.2.1 x.2.2.1 x.2.2.2)=true→(BU x.1 x.2.1 x.2.2.1 x.2.2.2)=false→(Bi x.1 x.2.1 x.2.2.1 x.2.2.2).toNat <x.2.2.2.length),((AF x.1 x.2.1 x.2.2.1 x.2.2.2)=true→((BU x.1 x.2.1 x.2.2.1 x.2.2.2)||!(x.2.2.2.getD (Bi x.1 x.2.1 x.2.2.1 x.2.2.2).toNat (Ab TC.row)).1.toList==(x.2.2.1.5.getD x.2.1.toNat (Ab TC.write)).1.toList)=true→Ag x.1.length),((AF x.1 x.2.1 x.2.2.1 x.2.2.2)=true→((BU x.1 x.2.1 x.2.2.1 x.2.2.2)||!(x.2.2.2.getD (Bi x.1 x.2.1 x.2.2.1 x.2.2.2).toNat (Ab TC.row)).1.toList==(x.2.2.1.5.getD x.2.1.toNat (Ab TC.write)).1.toList)=true→Ag (x.2.2.2.length+(1:Nat))),((AF x.1 x.2.1 x.2.2.1 x.2.2.2)=true→(0:Int)≤(x.2.2.1.5.getD x.2.1.toNat (Ab TC.write)).2∧(x.2.2.1.5.getD x.2.1.toNat (Ab TC.write)).2 <(↑x.1.length:Int)),((AF x.1 x.2.1 x.2.2.1 x.2.2.2)=true→(0:Int)≤(AE x.1 x.2.1 x.2.2.1 x.2.2.2)∧(AE x.1 x.2.1 x.2.2.1 x.2.2.2) <(↑(AJ x.1 x.2.1 x.2.2.1 x.2.2.2).length:Int)),((AF x.1 x.2.1 x.2.2.1 x.2.2.2)=true→(AE x.1 x.2.1 x.2.2.1 x.2.2.2).toNat <(AJ x.1 x.2.1 x.2.2.1 x.2.2.2).length),((AF x.1 x.2.1 x.2.2.1 x.2.2.2)=true→(AE x.1 x.2.1 x.2.2.1 x.2.2.2).toNat <(AJ x.1 x.2.1 x.2.2.1 x.2.2.2).length∧(0:Int)≤(x.2.2.1.5.getD x.2.1.toNat (Ab TC.write)).2∧(x.2.2.1.5.getD x.2.1.toNat (Ab TC.write)).2 <(↑((AJ x.1 x.2.1 x.2.2.1 x.2.2.2).getD (AE x.1 x.2.1 x.2.2.1 x.2.2.2).toNat (Ab TC.row)).2.length:Int)),((AF x.1 x.2.1 x.2.2.1 x.2.2.2)=true→(AE x.1 x.2.1 x.2.2.1 x.2.2.2).toNat <(AJ x.1 x.2.1 x.2.2.1 x.2.2.2).length),((AF x.1 x.2.1 x.2.2.1 x.2.2.2)=true→(x.2.2.1.5.getD x.2.1.toNat (Ab TC.write)).2.toNat <((AJ x.1 x.2.1 x.2.2.1 x.2.2.2).getD (AE x.1 x.2.1 x.2.2.1 x.2.2.2).toNat (Ab TC.row)).2.length)]
def IV (x:Dj):List Prop:=[((AF x.1 x.2.1 x.2.2.1 x.2.2.2)=true→(0:Int)≤x.2.1∧x.2.1 <(↑x.2.2.1.5.length:Int)),((AF x.1 x.2.1 x.2.2.1 x.2.2.2)=true→(BU x.1 x.2.1 x.2.2.1 x.2.2.2)=false→(0:Int)≤(Bi x.1 x.2.1 x.2.2.1 x.2.2.2)∧(Bi x.1 x.2.1 x.2.2.1 x.2.2.2) <(↑x.2.2.2.length:Int)),((AF x.1 x.2.1 x.2.2.1 x.2.2.2)=true→((BU x.1 x.2.1 x.2.2.1 x.2.2.2)||!(x.2.2.2.getD (Bi x.1 x.2.1 x.2.2.1 x.2.2.2).toNat (Ab TC.row)).1.toList==(x.2.2.1.5.getD x.2.1.toNat (Ab TC.write)).1.toList)=true→Ag x.1.length),((AF x.1 x.2.1 x.2.2.1 x.2.2.2)=true→((BU x.1 x.2.1 x.2.2.1 x.2.2.2)||!(x.2.2.2.getD (Bi x.1 x.2.1 x.2.2.1 x.2.2.2).toNat (Ab TC.row)).1.toList==(x.2.2.1.5.getD x.2.1.toNat (Ab TC.write)).1.toList)=true→Ag (x.2.2.2.length+(1:Nat))),((AF x.1 x.2.1 x.2.2.1 x.2.2.2)=true→(0:Int)≤(x.2.2.1.5.getD x.2.1.toNat (Ab TC.write)).2∧(x.2.2.1.5.getD x.2.1.toNat (Ab TC.write)).2 <(↑x.1.length:Int)),((AF x.1 x.2.1 x.2.2.1 x.2.2.2)=true→(0:Int)≤(AE x.1 x.2.1 x.2.2.1 x.2.2.2)∧(AE x.1 x.2.1 x.2.2.1 x.2.2.2) <(↑(AJ x.1 x.2.1 x.2.2.1 x.2.2.2).length:Int)),((AF x.1 x.2.1 x.2.2.1 x.2.2.2)=true→(AE x.1 x.2.1 x.2.2.1 x.2.2.2).toNat <(AJ x.1 x.2.1 x.2.2.1 x.2.2.2).length∧(0:Int)≤(x.2.2.1.5.getD x.2.1.toNat (Ab TC.write)).2∧(x.2.2.1.5.getD x.2.1.toNat (Ab TC.write)).2 <(↑((AJ x.1 x.2.1 x.2.2.1 x.2.2.2).getD (AE x.1 x.2.1 x.2.2.1 x.2.2.2).toNat (Ab TC.row)).2.length:Int)),((AF x.1 x.2.1 x.2.2.1 x.2.2.2)=true→(x.2.2.1.5.getD x.2.1.toNat (Ab TC.write)).2.toNat <((AJ x.1 x.2.1 x.2.2.1 x.2.2.2).getD (AE x.1 x.2.1 x.2.2.1 x.2.2.2).toNat (Ab TC.row)).2.length)]
def Uz (x:Dj):Bd:=[(some 0,some (!decide (x.2.1 <(↑x.2.2.1.5.length:Int))),⟨82,3,[(7,.dq 2)],[(2,some (.deep 71 .row x.2.2.2)),(0,some (.box 136 [.v (.int .i64 x.2.2.1.1),.v (.int .i64 x.2.2.1.2),.v (.int .i64 x.2.2.1.3.1),.v (.int .i64 x.2.2.1.3.2),.v (.int .i64 x.2.2.1.4.1),.v (.int .i64 x.2.2.1.4.2),.sl .write x.2.2.1.5]))]⟩)]
def Hd (x:Dj):Nat:=((↑x.2.2.1.5.length:Int) - x.2.1).toNat
def WZ (x:Dj):Dj:=A5 Fs Fr (Hd x) x
theorem A5d (a0:List TGroup) (a1:Int) (a2:TChange) (a3:List TRow):Bk (Au Brk L0) 9 (Ae Try.prog 144 0) Ad2 (NM (a0,a1,a2,a3))=some (WX (a0,a1,a2,a3),Uz (a0,a1,a2,a3),Fr (a0,a1,a2,a3),NM (Fs (a0,a1,a2,a3))):=by kernel_rfl
theorem A5e (a0:List TGroup) (a1:Int) (a2:TChange) (a3:List TRow) (hp:∀p∈IV (a0,a1,a2,a3),p):∀p∈WX (a0,a1,a2,a3),p:=by
 have n0:=N0 hp
 have n1:((AF a0 a1 a2 a3)=true→(BU a0 a1 a2 a3)=false→(0:Int)≤(Bi a0 a1 a2 a3)∧(Bi a0 a1 a2 a3) <(↑a3.length:Int)):=N0 (N1 hp)
 have n2:((AF a0 a1 a2 a3)=true→(BU a0 a1 a2 a3)=false→(Bi a0 a1 a2 a3).toNat <a3.length):=by intro h0 h1;have g:=n1 h0 h1;omega
 have n3:=N0 (N1 (N1 hp))
 have n4:=N0 (N1 (N1 (N1 hp)))
 have n5:=N0 (N1 (N1 (N1 (N1 hp))))
 have n6:((AF a0 a1 a2 a3)=true→(0:Int)≤(AE a0 a1 a2 a3)∧(AE a0 a1 a2 a3) <(↑(AJ a0 a1 a2 a3).length:Int)):=N0 (N1 (N1 (N1 (N1 (N1 hp)))))
 have n7:((AF a0 a1 a2 a3)=true→(AE a0 a1 a2 a3).toNat <(AJ a0 a1 a2 a3).length):=by intro h0;have g:=n6 h0;omega
 have n8:=N0 (N1 (N1 (N1 (N1 (N1 (N1 hp))))))
 have n10:=N0 (N1 (N1 (N1 (N1 (N1 (N1 (N1 hp)))))))
 exact(Aa n0 (Aa n1 (Aa n2 (Aa n3 (Aa n4 (Aa n5 (Aa n6 (Aa n7 (Aa n8 (Aa n7 (Aa n10 Ad)))))))))))
noncomputable def WY:=GH (Au Brk L0) (Ae Try.prog 144 0) Ad2 A8p QS Hd Fs Fr IV Uz
theorem Axz:∀s b ps outs,WY s=some (b,ps,outs)→Wf s ⟨ps,outs,none⟩∧Be (Au C0 L0) b s ps outs:=
 A6 (T:=NM) Bhi Av (u:=9) (by kernel_rfl) (by decide) (fun⟨a0,a1,a2,a3⟩=>A5d a0 a1 a2 a3) (fun⟨a0,a1,a2,a3⟩=>A5e a0 a1 a2 a3) Aqx (fun _=>AI (n:=82) rfl) fun _ _=>rfl
noncomputable def Ad1:=CY 0 WY L0
theorem Axy:Gf Ad1:=AP Axz Av
def Kp (a0:List TGroup) (a1:TChange):Bool:=LG a0 a1 !=(0:Int)
def Ahr (a0:List TGroup) (a1:TChange):Int:=bif(Kp a0 a1) then LG a0 a1 else(0:Int)
def Ahs (a0:List TGroup) (a1:TChange):List TRow:=bif(Kp a0 a1) then[] else(WZ (a0,(0:Int),a1,[])).snd.snd.snd
def Ahu (a0:List TGroup) (a1:TChange):A:=.tup [.dq 0,.v (.int .i64 (Ahr a0 a1))]
def Aht (a0:List TGroup) (a1:TChange):Objs:=[(0,some (.deep 71 .row (Ahs a0 a1)))]
def Bmd (a0:List TGroup) (a1:TChange):List Prop:=[(Am a1.5.length),(∀(g:TGroup),g∈a0→Am g.1.size),((!(Kp a0 a1))=true→AB Fs Fr IV (Hd (a0,(0:Int),a1,[])) (a0,(0:Int),a1,[]))]
theorem Bmc (a0:List TGroup) (a1:TChange):Eo (Au Brk Ad1) 9 144 [.sl .group a0,Af .change a1] 0 []=some (1,Ahu a0 a1,1,Aht a0 a1,[(Am a1.5.length),(∀(g:TGroup),g∈a0→Am g.1.size),((!(Kp a0 a1))=true→Ae Try.prog (144:FuncId) (0:Nat)=Ae Try.prog (144:FuncId) (0:Nat)),((!(Kp a0 a1))=true→AB Fs Fr IV (Hd (a0,(0:Int),a1,[])) (a0,(0:Int),a1,[]))]):=by kernel_rfl
theorem Bqe (a0:List TGroup) (a1:TChange) (hp:∀p∈Bmd a0 a1,p):CallOk Try.prog 144 [.sl .group a0,Af .change a1] 0 [] 1 (Ahu a0 a1) 1 (Aht a0 a1):=by
 have n0:=N0 hp
 have n1:=N0 (N1 hp)
 have n2:((!(Kp a0 a1))=true→Ae Try.prog (144:FuncId) (0:Nat)=Ae Try.prog (144:FuncId) (0:Nat)):=by intros;rfl
 have n3:=N0 (N1 (N1 hp))
 exact Ax (Ap Bhi Axy) (Bmc a0 a1) (Aa n0 (Aa n1 (Aa n2 (Aa n3 Ad))))
def Aul (a0:List TGroup) (a1:TChange):A:=Bsk a0 a1
def Auk (a0:List TGroup) (a1:TChange):Objs:=Bsj a0 a1
def Amf (a0:List TGroup) (a1:TChange):List Prop:=[Am a1.writes.length,∀g∈a0,Am g.1.size]
theorem Bmf (l:List TGroup) (i:Nat) (c:TChange) (o:List TRow) (ho:o.length≤9):AJ l (i:Int) c o=Ji l o (wN c.writes i).key:=by
 unfold AJ BU Bi
 rw[Ako (by omega),tlb,Int.toNat_natCast,Bd0]
 rfl
theorem B00 {l:List TGroup} {c:TChange} (i:Nat) (o:List TRow) (ho:o.length≤8) (hp:AO l=0) (hh:Ik c=true) (hw:UO l (wN c.writes i)=true):Lg l (i:Int) c o=Sf l c o (wN c.writes i):=by
 have:=(Vw l o (wN c.writes i).key).2
 unfold Lg AE
 rw[Bmf l i c o (by omega),Ako (by omega),Int.toNat_natCast]
 have e:=(Btq hp hh hw).1
 unfold Sf Bk4
 rw[←e]
 rfl
theorem Ad3 {l:List TGroup} {c:TChange} (h:LG l c=0):
  AB Fs Fr IV (Hd (l,0,c,[])) (l,0,c,[])∧WZ (l,0,c,[])=(l,(c.writes.length:Int),c,LT l c c.writes.length):=by
 have h8:=Bsw h
 obtain⟨h1,k,hk,hx,_,hst,_⟩:=Io (fun i=>(l,(i:Int),c,LT l c i):Nat→Dj) c.writes.length (fun _=>false) Fs Fr IV (Hd (l,0,c,[])) (l,0,c,[]) rfl (by show c.writes.length≤((c.writes.length:Int) - 0).toNat;omega)
  (fun i _ _=>by
   show(!!decide ((i:Int) <(c.writes.length:Int)))=_
   rw[nn,LY,Bool.not_false,Bool.and_true])
  (fun i hi _=>by
   obtain⟨hp,hh,hw,_,_,hl,_⟩:=JJ h hi
   show(l,IntKind.i64.wrap ((i:Int)+1),c,Lg l (i:Int) c (LT l c i))=(l,((i+1:Nat):Int),c,LT l c (i+1))
   rw[DU (by omega),B00 i _ (by omega) hp hh hw]
   rfl)
  (fun i hi _=>by
   have hin:AF l (i:Int) c (LT l c i)=true→i <c.writes.length:=fun h=>by unfold AF at h;rw[nn] at h;have:=of_decide_eq_true h;have:(c.5.length:Int)=(c.writes.length:Int):=rfl;omega
   have hop:i <c.writes.length→_:=fun hi=>Bmf l i c (LT l c i) (by have:=(JJ h hi).2.2.2.2.2.1;omega)
   have key:i <c.writes.length→_:=fun hi=>Vw l (LT l c i) (wN c.writes i).key
   have hk0:i <c.writes.length→(AE l (i:Int) c (LT l c i))=(((Ji l (LT l c i) (wN c.writes i).key).length - 1:Nat):Int):=fun hi=>by
    have:=key hi
    have:=(JJ h hi).2.2.2.2.2.1
    unfold AE
    rw[hop hi,i64_in (by omega)]
    omega
   have hcl:i <c.writes.length→(((Ji l (LT l c i) (wN c.writes i).key).getD ((Ji l (LT l c i) (wN c.writes i).key).length - 1) (Ab TC.row)).2.length=l.length):=fun hi=>(JJ h hi).2.2.2.2.2.2 _ (getD_in _ _ _ (by have:=key hi;omega))
   have hgr:i <c.writes.length→_:=fun hi=>Abd (JJ h hi).2.2.1
   refine Aa (fun h=>⟨by show(0:Int)≤(i:Int);omega,by have:=hin h;show(i:Int) <(c.writes.length:Int);omega⟩) (Aa (fun h1 h2=>?_) (Aa (fun h1 _=>?_) (Aa (fun h1 _=>?_) (Aa (fun h1=>?_) (Aa (fun h1=>?_) (Aa (fun h1=>?_) (Aa (fun h1=>?_) Ad)))))))
   ·have h3:(((LT l c i).length:Int)==(0:Int))=false:=h2
    rw[Bd0] at h3
    have h4:(LT l c i).length≠0:=by simpa using h3
    have:=(JJ h (hin h1)).2.2.2.2.2.1
    show(0:Int)≤IntKind.i64.wrap (((LT l c i).length:Int) - 1)∧IntKind.i64.wrap (((LT l c i).length:Int) - 1) <((LT l c i).length:Int)
    rw[i64_in (by omega)]
    omega
   ·have:=(JJ h (hin h1)).2.2.2.2.1
    show Ag l.length
    unfold Ag;omega
   ·have:=(JJ h (hin h1)).2.2.2.2.2.1
    show Ag ((LT l c i).length+1)
    unfold Ag;omega
   ·obtain⟨_,_,g0,g1,_⟩:=hgr (hin h1)
    show(0:Int)≤(c.writes.getD ((i:Int)).toNat (Ab TC.write)).group∧(c.writes.getD ((i:Int)).toNat (Ab TC.write)).group <(l.length:Int)
    rw[Int.toNat_natCast]
    exact⟨g0,g1⟩
   ·have:=key (hin h1)
    show(0:Int)≤AE l (i:Int) c (LT l c i)∧AE l (i:Int) c (LT l c i) <((AJ l (i:Int) c (LT l c i)).length:Int)
    rw[hk0 (hin h1),hop (hin h1)]
    omega
   ·have:=key (hin h1)
    obtain⟨_,_,g0,g1,_⟩:=hgr (hin h1)
    show(AE l (i:Int) c (LT l c i)).toNat <(AJ l (i:Int) c (LT l c i)).length∧(0:Int)≤(c.writes.getD ((i:Int)).toNat (Ab TC.write)).group∧(c.writes.getD ((i:Int)).toNat (Ab TC.write)).group <(((AJ l (i:Int) c (LT l c i)).getD (AE l (i:Int) c (LT l c i)).toNat (Ab TC.row)).2.length:Int)
    rw[hk0 (hin h1),hop (hin h1),Int.toNat_natCast,Int.toNat_natCast,hcl (hin h1)]
    exact⟨by omega,g0,g1⟩
   ·obtain⟨_,_,g0,g1,_⟩:=hgr (hin h1)
    show(c.writes.getD ((i:Int)).toNat (Ab TC.write)).group.toNat <((AJ l (i:Int) c (LT l c i)).getD (AE l (i:Int) c (LT l c i)).toNat (Ab TC.row)).2.length
    rw[hk0 (hin h1),hop (hin h1),Int.toNat_natCast,Int.toNat_natCast,hcl (hin h1)]
    have g2:(c.writes.getD i (Ab TC.write)).group <(l.length:Int):=g1
    have g3:0≤(c.writes.getD i (Ab TC.write)).group:=g0
    omega)
 have hkn:k=c.writes.length:=by
  rcases Nat.lt_or_ge k c.writes.length with h|h
  ·exact absurd (hst h) (by decide)
  ·omega
 subst hkn
 exact⟨h1,hx⟩
theorem Bmb (a0:List TGroup) (a1:TChange) (hp:∀p∈Amf a0 a1,p):CallOk Try.prog 144 [.sl .group a0,Af .change a1] 0 [] 1 (Aul a0 a1) 1 (Auk a0 a1):=by
 have hb:Am a1.writes.length:=hp _ (List.mem_cons_self ..)
 have hw:∀g∈a0,Am g.1.size:=hp _ (List.mem_cons_of_mem _ (List.mem_cons_self ..))
 have h:=Bqe a0 a1 (Aa hb (Aa hw (Aa (fun h=>(Ad3 (show LG a0 a1=0 by
  have h':(!(LG a0 a1 !=0))=true:=h
  simpa using h')).1) Ad)))
 have e:Ahr a0 a1=LG a0 a1∧Ahs a0 a1=Si a0 a1:=by
  unfold Ahr Ahs Kp Si
  cases hc:LG a0 a1 !=0 with
  |true=>
   have:(LG a0 a1==0)=false:=by simpa using hc
   rw[this]
   exact⟨rfl,rfl⟩
  |false=>
   have h0:LG a0 a1=0:=by simpa using hc
   have:(LG a0 a1==0)=true:=by simpa using h0
   rw[this,(Ad3 h0).2,cond_false]
   exact⟨h0.symm,rfl⟩
 unfold Ahu Aht at h
 rw[e.1,e.2] at h
 exact h
def A5f:List A→Nat→Objs→Option AV:=A7 [.l .group,.t .change] 1 Aul Auk Amf
theorem Bfo:ET Try.prog 144 A5f:=Aq (ks:=[.l .group,.t .change]) Bmb
end Go.Proofs.Yteebobbhhgmeiaa
namespace Go.Proofs.Yteebobbhhgmeiaa
open Go.RowKit
abbrev Dk:Type:=(List TGroup)×(List TRow)×Int
def NN (x:Dk):St:=⟨50,0,[(0,.sl .group x.1),(1,.sl .row x.2.1),(6,.v (.int .i64 x.2.2))],[]⟩
def QT:St→Option Dk
 |⟨50,0,[(0,.sl .group z0),(1,.sl .row z1),(6,.v (.int .i64 z2))],[]⟩=>some (z0,z1,z2)
 |_=>none
theorem Aqz:∀s x,QT s=some x→s=NN x:=fun s x h=>by
 unfold QT at h
 split at h
 ·cases h;rfl
 ·cases h
def Ad5:Co:=⟨0,0,[0,1,6],[],[],[],[4,5],[]⟩
def A8s:CR:=⟨[],[],[0,1,6],[]⟩
def KO (_a0:List TGroup) (_a1:List TRow) (a2:Int):Int:=IntKind.i64.wrap (a2 - (1:Int))
def Ef (a0:List TGroup) (a1:List TRow) (a2:Int):Bool:=Ah a0 (a1.getD a2.toNat (Ab TC.row)) !=(0:Int)
def Dr (_a0:List TGroup) (a1:List TRow) (a2:Int):Bool:=!!decide (a2 <(↑a1.length:Int))
def Ee (a0:List TGroup) (a1:List TRow) (a2:Int):Bool:=(Dr a0 a1 a2)&&((Ef a0 a1 a2)||(Cp (a1.getD a2.toNat (Ab TC.row))||decide (a2 >(0:Int))&&!Op.bytesLess (a1.getD (KO a0 a1 a2).toNat (Ab TC.row)).1.toList (a1.getD a2.toNat (Ab TC.row)).1.toList))
def Ax1 (a0:List TGroup) (a1:List TRow) (a2:Int):Bool:=(Dr a0 a1 a2)&&!(Ee a0 a1 a2)
def IW (a0:List TGroup) (a1:List TRow) (a2:Int):Int:=bif(Ef a0 a1 a2) then Ah a0 (a1.getD a2.toNat (Ab TC.row)) else(100:Int)
def Aqy (a0:List TGroup) (a1:List TRow) (a2:Int):Int:=Ah a0 (a1.getD a2.toNat (Ab TC.row))
def Hf (x:Dk):Dk:=(x.1,x.2.1,IntKind.i64.wrap (x.2.2+(1:Int)))
def He (x:Dk):Cnd:=some (Ax1 x.1 x.2.1 x.2.2)
def OT (x:Dk):List Prop:=[((Dr x.1 x.2.1 x.2.2)=true→(0:Int)≤x.2.2∧x.2.2 <(↑x.2.1.length:Int)),((Dr x.1 x.2.1 x.2.2)=true→∀(g:TGroup),g∈x.1→Am g.1.size),((Dr x.1 x.2.1 x.2.2)=true→(!(Ef x.1 x.2.1 x.2.2))=true→(0:Int)≤x.2.2∧x.2.2 <(↑x.2.1.length:Int)),((Dr x.1 x.2.1 x.2.2)=true→(!(Ef x.1 x.2.1 x.2.2))=true→Ag (x.2.1.getD x.2.2.toNat (Ab TC.row)).2.length),((Dr x.1 x.2.1 x.2.2)=true→(!(Ef x.1 x.2.1 x.2.2))=true→decide (x.2.2 >(0:Int))=true→Cp (x.2.1.getD x.2.2.toNat (Ab TC.row))=false→(0:Int)≤(KO x.1 x.2.1 x.2.2)∧(KO x.1 x.2.1 x.2.2) <(↑x.2.1.length:Int)),((Dr x.1 x.2.1 x.2.2)=true→(!(Ef x.1 x.2.1 x.2.2))=true→decide (x.2.2 >(0:Int))=true→Cp (x.2.1.getD x.2.2.toNat (Ab TC.row))=false→(0:Int)≤x.2.2∧x.2.2 <(↑x.2.1.length:Int))]
abbrev Kq:Dk→List Prop:=OT
def UA (x:Dk):Bd:=[(some 0,some (!decide (x.2.2 <(↑x.2.1.length:Int))),⟨50,0,[(4,.dead),(5,.dead)],[]⟩),(none,some ((Ee x.1 x.2.1 x.2.2)),⟨50,0,[(4,.v (.int .i64 (IW x.1 x.2.1 x.2.2))),(5,.v (.int .i64 (Aqy x.1 x.2.1 x.2.2)))],[]⟩)]
def IX (x:Dk):Nat:=((↑x.2.1.length:Int) - x.2.2).toNat
def Lh (x:Dk):Dk:=A5 Hf He (IX x) x
theorem A5g (a0:List TGroup) (a1:List TRow) (a2:Int):Bk (Au Cn L0) 9 (Ae Try.prog 93 0) Ad5 (NN (a0,a1,a2))=some (OT (a0,a1,a2),UA (a0,a1,a2),He (a0,a1,a2),NN (Hf (a0,a1,a2))):=by kernel_rfl
theorem A5h (a0:List TGroup) (a1:List TRow) (a2:Int) (hp:∀p∈Kq (a0,a1,a2),p):∀p∈OT (a0,a1,a2),p:=hp
noncomputable def W0:=GH (Au Cn L0) (Ae Try.prog 93 0) Ad5 A8s QT IX Hf He Kq UA
theorem Ax2:∀s b ps outs,W0 s=some (b,ps,outs)→Wf s ⟨ps,outs,none⟩∧Be (Au C0 L0) b s ps outs:=
 A6 (T:=NN) Bh4 Av (u:=9) (by kernel_rfl) (by decide) (fun⟨a0,a1,a2⟩=>A5g a0 a1 a2) (fun⟨a0,a1,a2⟩=>A5h a0 a1 a2) Aqz (fun _=>AI (n:=50) rfl) fun _ _=>rfl
noncomputable def Ad4:=CY 0 W0 L0
theorem Ax0:Gf Ad4:=AP Ax2 Av
def Oi (a0:List TGroup) (_a1:List TRow):Bool:=AO a0 !=(0:Int)
def ZN (a0:List TGroup) (a1:List TRow):List TGroup:=(Lh (a0,a1,(0:Int))).fst
def ZM (a0:List TGroup) (a1:List TRow):Int:=(Lh (a0,a1,(0:Int))).snd.snd
def ZL (a0:List TGroup) (a1:List TRow):List TRow:=(Lh (a0,a1,(0:Int))).snd.fst
def Ahv (a0:List TGroup) (a1:List TRow):Int:=bif(Oi a0 a1) then AO a0 else bif Ee (ZN a0 a1) (ZL a0 a1) (ZM a0 a1) then IW (ZN a0 a1) (ZL a0 a1) (ZM a0 a1) else(0:Int)
def Ahw (a0:List TGroup) (a1:List TRow):A:=.v (.int .i64 (Ahv a0 a1))
def A5i (_a0:List TGroup) (_a1:List TRow):Objs:=[]
def Auq (a0:List TGroup) (a1:List TRow):List Prop:=[(∀(g:TGroup),g∈a0→Am g.1.size),((!(Oi a0 a1))=true→AB Hf He Kq (IX (a0,a1,(0:Int))) (a0,a1,(0:Int)))]
theorem Bmi (a0:List TGroup) (a1:List TRow):Eo (Au Cn Ad4) 9 93 [.sl .group a0,Af .rows a1] 0 []=some (1,Ahw a0 a1,0,A5i a0 a1,[(∀(g:TGroup),g∈a0→Am g.1.size),((!(Oi a0 a1))=true→Ae Try.prog (93:FuncId) (0:Nat)=Ae Try.prog (93:FuncId) (0:Nat)),((!(Oi a0 a1))=true→AB Hf He Kq (IX (a0,a1,(0:Int))) (a0,a1,(0:Int)))]):=by kernel_rfl
theorem Bqf (a0:List TGroup) (a1:List TRow) (hp:∀p∈Auq a0 a1,p):CallOk Try.prog 93 [.sl .group a0,Af .rows a1] 0 [] 1 (Ahw a0 a1) 0 (A5i a0 a1):=by
 have n0:=N0 hp
 have n1:((!(Oi a0 a1))=true→Ae Try.prog (93:FuncId) (0:Nat)=Ae Try.prog (93:FuncId) (0:Nat)):=by intros;rfl
 have n2:=N0 (N1 hp)
 exact Ax (Ap Bh4 Ax0) (Bmi a0 a1) (Aa n0 (Aa n1 (Aa n2 Ad)))
def Aur (a0:List TGroup) (a1:List TRow):A:=.v (.int .i64 (Bq a0 a1))
def Aup (_a0:List TGroup) (_a1:List TRow):Objs:=[]
def Amg (a0:List TGroup) (a1:List TRow):List Prop:=[Am a1.length,∀g∈a0,Am g.1.size]
theorem B3v (a b:ByteArray):leS a b=!Ip b a:=by
 unfold leS
 cases h:Ip a b with
 |true=>
  cases g:Ip b a with
  |true=>exact absurd rfl (P7 (KD h g))
  |false=>rfl
 | false=>
  rw[Bool.false_or]
  cases g:a==b with
  |true=>
   obtain rfl:=eq_of_beq g
   rw[h]
   rfl
  |false=>
   rw[Py h (by simpa using g)]
   rfl
theorem B3u {a:ByteArray} (h:a.size≠0):leS a ⟨#[]⟩=false:=by
 unfold leS
 rw[Bool.or_eq_false_iff]
 constructor
 ·show Op.bytesLess a.toList (ByteArray.mk #[]).toList=false
  rw[show(ByteArray.mk #[]).toList=[] by decide+kernel]
  cases a.toList<;>rfl
 ·refine beq_eq_false_iff_ne.2 fun e=>h ?_
  rw[e]
  rfl
theorem Btx (l:List TGroup) (rows:List TRow) (i:Nat) (hi:i≤9223372036854775807):Ee l rows (i:Int)=(decide (i <rows.length)&&Xh l rows i !=0):=by
 have e:Ee l rows (i:Int)=(decide (i <rows.length)&&(Ah l (BA rows i) !=0||(Cp (BA rows i)||decide ((i:Int) >0)&&!Ip (BA rows (IntKind.i64.wrap ((i:Int) - 1)).toNat).key (BA rows i).key))):=by
  unfold Ee Dr Ef KO
  rw[nn,LY,Int.toNat_natCast]
  rfl
 rw[e,Ays]
 cases h:Ah l (BA rows i) !=0 with
 |true=>rfl
 | false=>
  have h0:Ah l (BA rows i)=0:=by simpa using h
  rw[Bool.false_or,Bool.false_or]
  cases i with
  |zero=>
   have h1:leS (BA rows 0).key (P6 rows 0)=false:=B3u (AK h0).2.2.1
   rw[h1]
   rfl
  |succ j=>
   have h1:(IntKind.i64.wrap (((j+1:Nat):Int) - 1)).toNat=j:=by rw[i64_in (by omega)];omega
   have h2:decide (((j+1:Nat):Int) >0)=true:=decide_eq_true (by omega)
   rw[h1,h2,B3v,Bool.true_and]
   rfl
theorem Auo (l:List TGroup) (rows:List TRow) (hb:Am rows.length) (hw:∀g∈l,Am g.1.size):(∀p∈Auq l rows,p)∧Ahv l rows=Bq l rows:=by
 unfold Am at hb
 obtain⟨h1,k,hk,hx,hs,hst,_⟩:=Io (fun i=>((l,rows,(i:Int)):Dk)) rows.length (fun i=>Xh l rows i !=0) Hf He Kq (IX (l,rows,0)) (l,rows,0) rfl (by show rows.length≤((rows.length:Int) - 0).toNat;omega)
  (fun i hi _=>by
   show((!!decide ((i:Int) <(rows.length:Int)))&&!Ee l rows (i:Int))=_
   rw[Btx l rows i (by omega),nn,LY]
   cases decide (i <rows.length)<;>rfl)
  (fun i hi _=>by
   show(l,rows,IntKind.i64.wrap ((i:Int)+1))=(l,rows,((i+1:Nat):Int))
   rw[DU (by omega)])
  (fun i hi _=>by
   have hin:(!!decide ((i:Int) <(rows.length:Int)))=true→(i:Int) <(rows.length:Int):=fun h=>by rw[nn] at h;exact of_decide_eq_true h
   refine Aa (fun h=>⟨by show(0:Int)≤(i:Int);omega,hin h⟩) (Aa (fun _=>hw) (Aa (fun h _=>⟨by show(0:Int)≤(i:Int);omega,hin h⟩) (Aa (fun _ h2=>?_) (Aa (fun h _ h3 _=>?_) (Aa (fun h _ _ _=>⟨by show(0:Int)≤(i:Int);omega,hin h⟩) Ad)))))
   ·have h3:Ah l (rows.getD ((i:Int)).toNat (Ab TC.row))=0:=by
     have h4:(!(Ah l (rows.getD ((i:Int)).toNat (Ab TC.row)) !=0))=true:=h2
     simpa using h4
    obtain⟨g1,g2,_⟩:=AK h3
    have:=(FR g1).2
    show Ag (rows.getD ((i:Int)).toNat (Ab TC.row)).cells.length
    unfold Ag
    omega
   ·have h4:(i:Int) >0:=of_decide_eq_true h3
    have h5:=hin h
    show(0:Int)≤IntKind.i64.wrap ((i:Int) - 1)∧IntKind.i64.wrap ((i:Int) - 1) <(rows.length:Int)
    rw[i64_in (by omega)]
    omega)
 have hr:Lh (l,rows,0)=(l,rows,(k:Int)):=hx
 refine⟨Aa hw (Aa (fun _=>h1) Ad),?_⟩
 unfold Ahv Bq
 show(bif AO l !=0 then AO l else _)=_
 congr 1
 unfold ZN ZM ZL
 rw[hr]
 show(bif Ee l rows (k:Int) then IW l rows (k:Int) else 0)=_
 have hk9:k≤9223372036854775807:=Nat.le_trans hk (by omega)
 rw[Btx l rows k hk9]
 have h0:GG l rows k=0:=(Ajp l rows k).2 fun i hi=>by simpa using hs i hi
 rcases Nat.lt_or_ge k rows.length with h|h
 ·have he:=hst h
  rw[decide_eq_true h,he]
  have e1:GG l rows (k+1)=Xh l rows k:=by
   show(bif GG l rows k !=0 then GG l rows k else Xh l rows k)=_
   rw[h0];rfl
  have hne:GG l rows (k+1)≠0:=by rw[e1];simpa using he
  rw[XY hne rows.length h,e1]
  show IW l rows (k:Int)=_
  unfold IW Ef
  rw[Int.toNat_natCast]
  rw[Ays] at he
  unfold Xh
  show(bif Ah l (BA rows k) !=0 then Ah l (BA rows k) else 100)=_
  cases hg:Ah l (BA rows k) !=0 with
  |true=>rfl
  |false=>
   rw[hg,Bool.false_or] at he
   rw[he]
   rfl
 ·obtain rfl:k=rows.length:=by omega
  rw[decide_eq_false (Nat.lt_irrefl _),h0]
  rfl
theorem Bmh (a0:List TGroup) (a1:List TRow) (hp:∀p∈Amg a0 a1,p):CallOk Try.prog 93 [.sl .group a0,Af .rows a1] 0 [] 1 (Aur a0 a1) 0 (Aup a0 a1):=by
 have hb:Am a1.length:=hp _ (List.mem_cons_self ..)
 have hw:∀g∈a0,Am g.1.size:=hp _ (List.mem_cons_of_mem _ (List.mem_cons_self ..))
 have h:=Bqf a0 a1 (Auo a0 a1 hb hw).1
 unfold Ahw at h
 rw[(Auo a0 a1 hb hw).2] at h
 exact h
def VH:List A→Nat→Objs→Option AV:=A7 [.l .group,.t .rows] 0 Aur Aup Amg
theorem VI:ET Try.prog 93 VH:=Aq (ks:=[.l .group,.t .rows]) Bmh
noncomputable def Br5:=AU 93 VH Cn
theorem Bhn:CD Try.prog Br5:=Ak VI Bh4
abbrev Dq:Type:=(List TRow)×(List TRow)×Int
def Po (x:Dq):St:=⟨27,0,[(0,.sl .row x.1),(1,.sl .row x.2.1),(5,.v (.int .i64 x.2.2))],[]⟩
def S1:St→Option Dq
 |⟨27,0,[(0,.sl .row z0),(1,.sl .row z1),(5,.v (.int .i64 z2))],[]⟩=>some (z0,z1,z2)
 |_=>none
theorem Aw4:∀s x,S1 s=some x→s=Po x:=fun s x h=>by
 unfold S1 at h
 split at h
 ·cases h;rfl
 ·cases h
def Alt:Co:=⟨0,0,[0,1,5],[],[],[],[4],[]⟩
def Bfa:CR:=⟨[],[],[0,1,5],[]⟩
def HQ (a0:List TRow) (_a1:List TRow) (a2:Int):Bool:=!!decide (a2 <(↑a0.length:Int))
def DR (a0:List TRow) (a1:List TRow) (a2:Int):Bool:=(HQ a0 a1 a2)&&!U3 (a0.getD a2.toNat (Ab TC.row)) (a1.getD a2.toNat (Ab TC.row))
def A32 (a0:List TRow) (a1:List TRow) (a2:Int):Bool:=(HQ a0 a1 a2)&&!(DR a0 a1 a2)
def Gs (x:Dq):Dq:=(x.1,x.2.1,IntKind.i64.wrap (x.2.2+(1:Int)))
def Gr (x:Dq):Cnd:=some (A32 x.1 x.2.1 x.2.2)
def QC (x:Dq):List Prop:=[((HQ x.1 x.2.1 x.2.2)=true→(0:Int)≤x.2.2∧x.2.2 <(↑x.1.length:Int)),((HQ x.1 x.2.1 x.2.2)=true→(0:Int)≤x.2.2∧x.2.2 <(↑x.2.1.length:Int)),((HQ x.1 x.2.1 x.2.2)=true→Ag (x.1.getD x.2.2.toNat (Ab TC.row)).2.length)]
abbrev JH:Dq→List Prop:=QC
def WJ (x:Dq):Bd:=[(some 0,some (!decide (x.2.2 <(↑x.1.length:Int))),⟨27,0,[(4,.dead)],[]⟩),(none,some ((DR x.1 x.2.1 x.2.2)),⟨27,0,[(4,.v (.bool (false)))],[]⟩)]
def HR (x:Dq):Nat:=((↑x.1.length:Int) - x.2.2).toNat
def FK (x:Dq):Dq:=A5 Gs Gr (HR x) x
theorem A8b (a0:List TRow) (a1:List TRow) (a2:Int):Bk (Au Br5 L0) 9 (Ae Try.prog 49 0) Alt (Po (a0,a1,a2))=some (QC (a0,a1,a2),WJ (a0,a1,a2),Gr (a0,a1,a2),Po (Gs (a0,a1,a2))):=by kernel_rfl
theorem A8c (a0:List TRow) (a1:List TRow) (a2:Int) (hp:∀p∈JH (a0,a1,a2),p):∀p∈QC (a0,a1,a2),p:=hp
noncomputable def Zs:=GH (Au Br5 L0) (Ae Try.prog 49 0) Alt Bfa S1 HR Gs Gr JH WJ
theorem A33:∀s b ps outs,Zs s=some (b,ps,outs)→Wf s ⟨ps,outs,none⟩∧Be (Au C0 L0) b s ps outs:=
 A6 (T:=Po) Bhn Av (u:=9) (by kernel_rfl) (by decide) (fun⟨a0,a1,a2⟩=>A8b a0 a1 a2) (fun⟨a0,a1,a2⟩=>A8c a0 a1 a2) Aw4 (fun _=>AI (n:=27) rfl) fun _ _=>rfl
noncomputable def Als:=CY 0 Zs L0
theorem A31:Gf Als:=AP A33 Av
def Ag4 (a0:List TRow) (a1:List TRow):Dq:=FK (a0,a1,(0:Int))
def Kh (a0:List TRow) (a1:List TRow):Bool:=(↑a0.length:Int) !=(↑a1.length:Int)
def Ap1 (a0:List TRow) (a1:List TRow):Bool:=bif(Kh a0 a1) then false else bif DR (Ag4 a0 a1).fst (Ag4 a0 a1).snd.fst (Ag4 a0 a1).snd.snd then false else true
def Ap2 (a0:List TRow) (a1:List TRow):A:=.v (.bool (Ap1 a0 a1))
def Ba2 (_a0:List TRow) (_a1:List TRow):Objs:=[]
def A35 (a0:List TRow) (a1:List TRow):List Prop:=[((!(Kh a0 a1))=true→AB Gs Gr JH (HR (a0,a1,(0:Int))) (a0,a1,(0:Int)))]
theorem Bpx (a0:List TRow) (a1:List TRow):Eo (Au Br5 Als) 9 49 [Af .rows a0,Af .rows a1] 0 []=some (1,Ap2 a0 a1,0,Ba2 a0 a1,[((!(Kh a0 a1))=true→Ae Try.prog (49:FuncId) (0:Nat)=Ae Try.prog (49:FuncId) (0:Nat)),((!(Kh a0 a1))=true→AB Gs Gr JH (HR (a0,a1,(0:Int))) (a0,a1,(0:Int)))]):=by kernel_rfl
theorem Bvl (a0:List TRow) (a1:List TRow) (hp:∀p∈A35 a0 a1,p):CallOk Try.prog 49 [Af .rows a0,Af .rows a1] 0 [] 1 (Ap2 a0 a1) 0 (Ba2 a0 a1):=by
 have n0:((!(Kh a0 a1))=true→Ae Try.prog (49:FuncId) (0:Nat)=Ae Try.prog (49:FuncId) (0:Nat)):=by intros;rfl
 have n1:=N0 hp
 exact Ax (Ap Bhn A31) (Bpx a0 a1) (Aa n0 (Aa n1 Ad))
def Bc1 (a b:List TRow):Bool:=a.length==b.length&&JX a.length fun i=>U3 (a.getD i (Ab TC.row)) (b.getD i (Ab TC.row))
def A36 (a0:List TRow) (a1:List TRow):A:=.v (.bool (Bc1 a0 a1))
def A34 (_a0:List TRow) (_a1:List TRow):Objs:=[]
def Atp (a0:List TRow) (_a1:List TRow):List Prop:=[Am a0.length,∀r∈a0,Ag r.cells.length]
theorem A30 (a b:List TRow) (hl:Am a.length) (hb:∀r∈a,Ag r.cells.length):(∀p∈A35 a b,p)∧Ap1 a b=Bc1 a b:=by
 unfold Am at hl
 have hk0:Kh a b=(a.length !=b.length):=by
  show((a.length:Int) !=(b.length:Int))=_
  rw[Bool.eq_iff_iff,bne_iff_ne,bne_iff_ne];omega
 have main:Kh a b=false→AB Gs Gr JH (HR (a,b,0)) (a,b,0)∧DR (FK (a,b,0)).1 (FK (a,b,0)).2.1 (FK (a,b,0)).2.2=!JX a.length fun i=>U3 (a.getD i (Ab TC.row)) (b.getD i (Ab TC.row)):=fun h0=>by
  rw[hk0] at h0
  have hlen:a.length=b.length:=by simpa using h0
  have hf:∀i:Nat,DR a b (i:Int)=(decide (i <a.length)&&!U3 (a.getD i (Ab TC.row)) (b.getD i (Ab TC.row))):=fun i=>by
   unfold DR HQ
   rw[nn,LY,Int.toNat_natCast]
  obtain⟨h1,k,hk,hx,_,_,hb'⟩:=Io (fun i=>((a,b,(i:Int)):Dq)) a.length (fun i=>!U3 (a.getD i (Ab TC.row)) (b.getD i (Ab TC.row))) Gs Gr JH (HR (a,b,0)) (a,b,0) rfl (by show a.length≤((a.length:Int) - 0).toNat;omega)
   (fun i _ _=>by
    show((!!decide ((i:Int) <(a.length:Int)))&&!DR a b (i:Int))=_
    rw[hf,nn,LY]
    cases decide (i <a.length)<;>rfl)
   (fun i hi _=>by
    show(a,b,IntKind.i64.wrap ((i:Int)+1))=(a,b,((i+1:Nat):Int))
    rw[DU (by omega)])
   (fun i hi _=>by
    have hin:(!!decide ((i:Int) <(a.length:Int)))=true→(i:Int) <(a.length:Int):=fun h=>by rw[nn] at h;exact of_decide_eq_true h
    refine Aa (fun h=>⟨by show(0:Int)≤(i:Int);omega,hin h⟩) (Aa (fun h=>⟨by show(0:Int)≤(i:Int);omega,by have:=hin h;show(i:Int) <(b.length:Int);omega⟩) (Aa (fun h=>?_) Ad))
    have h5:=hin h
    have e:((i:Int)).toNat=i:=Int.toNat_natCast i
    show Ag (a.getD ((i:Int)).toNat (Ab TC.row)).2.length
    rw[e]
    exact hb _ (getD_in a (Ab TC.row) i (by omega)))
  refine⟨h1,?_⟩
  have hr:FK (a,b,0)=(a,b,(k:Int)):=hx
  rw[hr]
  show DR a b (k:Int)=_
  rw[hf,hb']
  congr 1
  exact Hk fun i _=>Bool.not_not _
 refine⟨Aa (fun h=>(main (by simpa using h)).1) Ad,?_⟩
 unfold Ap1 Bc1
 cases h0:Kh a b with
 |true=>
  rw[hk0] at h0
  have e:(a.length==b.length)=false:=by simpa using h0
  rw[e]
  rfl
 |false=>
  have h1:=h0
  rw[hk0] at h1
  have e:(a.length==b.length)=true:=by simpa using h1
  rw[cond_false,e,Bool.true_and]
  have m:=(main h0).2
  show(!DR (FK (a,b,0)).1 (FK (a,b,0)).2.1 (FK (a,b,0)).2.2)=_
  rw[m,Bool.not_not]
theorem Bpw (a0:List TRow) (a1:List TRow) (hp:∀p∈Atp a0 a1,p):CallOk Try.prog 49 [Af .rows a0,Af .rows a1] 0 [] 1 (A36 a0 a1) 0 (A34 a0 a1):=by
 have hb:Am a0.length:=hp _ (List.mem_cons_self ..)
 have hc:∀r∈a0,Ag r.cells.length:=hp _ (List.mem_cons_of_mem _ (List.mem_cons_self ..))
 have h:=Bvl a0 a1 (A30 a0 a1 hb hc).1
 unfold Ap2 at h
 rw[(A30 a0 a1 hb hc).2] at h
 exact h
theorem A97 (a:List TRow):Bc1 a a=true:=by
 unfold Bc1
 rw[beq_self_eq_true,Bool.true_and,JY]
 exact fun i _=>By4.2 rfl
def Ap3:List A→Nat→Objs→Option AV:=A7 [.t .rows,.t .rows] 0 A36 A34 Atp
theorem Atq:ET Try.prog 49 Ap3:=Aq (ks:=[.t .rows,.t .rows]) Bpw
end Go.Proofs.Yteebobbhhgmeiaa
namespace Go.Proofs.Yteebobbhhgmeiaa
open Go.RowKit
def LQ (cs:List TChange) (i:Nat):TChange:=cs.getD i (Ab TC.change)
def stE (l:List TGroup) (cs:List TChange):Int:=bif AO l !=0 then AO l else bif JX cs.length (fun i=>LG l (LQ cs i)==0) then 0 else 120
def stN (l:List TGroup) (cs:List TChange):Nat→List TRow
 |0=>[]
 |i+1=>mrg ((stN l cs i).length+(nb (Si l (LQ cs i))).length) (stN l cs i) (nb (Si l (LQ cs i)))
def stR (l:List TGroup) (cs:List TChange):List TRow:=bif stE l cs==0 then stN l cs cs.length else[]
theorem Bej (l:List TGroup) (c:TChange):Stt l (nb (Si l c)):=B78 (Ai1 l c).1 (Ai1 l c).2
theorem Ay3 (l:List TGroup) (cs:List TChange):∀i,Stt l (stN l cs i)
 |0=>Bt6 l
 |i+1=>(Ay3 l cs i).mrg _ (Bej l _)
theorem Ayr (l:List TGroup) (c:TChange):(Si l c).length≤8:=by
 unfold Si
 cases h:LG l c==0 with
 |false=>exact Nat.zero_le _
 |true=>
  have h0:LG l c=0:=by simpa using h
  obtain⟨_,_,hn,_⟩:=Bix.1 h0
  unfold Ale at hn
  rw[Bool.and_eq_true,decide_eq_true_eq,decide_eq_true_eq] at hn
  exact Nat.le_trans (Bcq l c _) hn.2
theorem Bo1 (rows:List TRow):(nb rows).length≤rows.length:=List.length_filter_le _ _
theorem Bgj (l:List TGroup) (cs:List TChange):∀i,(stN l cs i).length≤8*i
 |0=>Nat.le_refl _
 |i+1=>by
  have h1:=Bgj l cs i
  have h2:=Vs ((stN l cs i).length+(nb (Si l (LQ cs i))).length) (stN l cs i) (nb (Si l (LQ cs i)))
  have h3:=Bo1 (Si l (LQ cs i))
  have h4:=Ayr l (LQ cs i)
  show(mrg _ _ _).length≤_
  omega
theorem A00:∀(b a:List TRow),CF a b=CF a (nb b)
 | [],_=>rfl
 | y::b,a=>by
  have ih:=A00 b
  show CF (LP a y) b=CF a (List.filter _ (y::b))
  rw[List.filter_cons]
  cases hb:Cp y with
  |true=>
   have:LP a y=a:=by unfold LP;rw[hb];rfl
   rw[this,ih a]
   rfl
  |false=>
   rw[ih (LP a y)]
   rfl
theorem Bu1 (l:List TGroup) (cs:List TChange) (i:Nat):CF (stN l cs i) (Si l (LQ cs i))=stN l cs (i+1):=by
 rw[A00]
 exact A01 (Ay3 l cs i).rise (Bej l _).rise (fun r hr=>((Bej l _).good r hr).2) (Nat.le_refl _)
def mgE (l:List TGroup) (a b:List TRow):Int:=bif Bq l a !=0 then Bq l a else Bq l b
def Iz (l:List TGroup) (a b:List TRow):List TRow:=bif mgE l a b==0 then mrg (a.length+b.length) a b else[]
theorem JA {l:List TGroup} {a:List TRow} (h:Bq l a=0):AO l=0∧Stt l a:=⟨(Ayt.1 h).1,(B4w (Ayt.1 h).1).1 h⟩
theorem Bz5 {l:List TGroup} {a b:List TRow}:mgE l a b=0↔Bq l a=0∧Bq l b=0:=by
 unfold mgE
 cases h:Bq l a !=0 with
 |true=>
  rw[cond_true]
  have h':Bq l a≠0:=by simpa using h
  exact⟨fun e=>absurd e h',fun e=>absurd e.1 h'⟩
 |false=>
  rw[cond_false]
  have h':Bq l a=0:=by simpa using h
  exact⟨fun e=>⟨h',e⟩,fun e=>e.2⟩
def wiB (l:List TGroup) (a b:List TRow):Bool:=mgE l a b==0&&(Iz l a b).length==b.length&&JX b.length fun i=>U3 (BA (Iz l a b) i) (BA b i)
end Go.Proofs.Yteebobbhhgmeiaa
namespace Go.Proofs.Yteebobbhhgmeiaa
open Go.RowKit
noncomputable def B5v:=AU 142 Sr Cmg
theorem Bx0:CD Try.prog B5v:=Ak V9 Bxt
noncomputable def Azc:=AU 84 Vo B5v
theorem Aim:CD Try.prog Azc:=Ak YB Bx0
abbrev BE:Type:=(List TRow)×Int×Int×(List TRow)
def KG (x:BE):St:=⟨55,6,[(11,.sq 5),(35,.sl .row x.1),(36,.v (.int .i64 x.2.1)),(37,.v (.int .i64 x.2.2.1))],[(5,some (.arr 71 2 (.ty .row x.2.2.2)))]⟩
def My:St→Option BE
 |⟨55,6,[(11,.sq 5),(35,.sl .row z0),(36,.v (.int .i64 z1)),(37,.v (.int .i64 z2))],[(5,some (.arr 71 2 (.ty .row z3)))]⟩=>some (z0,z1,z2,z3)
 |_=>none
theorem Abm:∀s x,My s=some x→s=KG x:=fun s x h=>by
 unfold My at h
 split at h
 ·cases h;rfl
 ·cases h
def Uc:Co:=⟨5,6,[11,35,36,37],[],[(9,5)],[9],[11],[5]⟩
def Apd:CR:=⟨[.frz 3,.nil 11 71 .row],[(4,5)],[11,35,36,37],[4]⟩
def Ls (a0:List TRow) (_a1:Int) (a2:Int) (a3:List TRow):List TRow:=bif !Cp (a0.getD a2.toNat (Ab TC.row)) then a3++[a0.getD a2.toNat (Ab TC.row)] else a3
def CP (x:BE):BE:=(x.1,x.2.1,IntKind.i64.wrap (x.2.2.1+(1:Int)),Ls x.1 x.2.1 x.2.2.1 x.2.2.2)
def CO (x:BE):Cnd:=some (!!decide (x.2.2.1 <x.2.1))
def Lt (x:BE):List Prop:=[((!!decide (x.2.2.1 <x.2.1))=true→(0:Int)≤x.2.2.1∧x.2.2.1 <(↑x.1.length:Int)),((!!decide (x.2.2.1 <x.2.1))=true→Ag (x.1.getD x.2.2.1.toNat (Ab TC.row)).2.length),((!!decide (x.2.2.1 <x.2.1))=true→(!Cp (x.1.getD x.2.2.1.toNat (Ab TC.row)))=true→Ag (x.2.2.2.length+(1:Nat)))]
abbrev EB:BE→List Prop:=Lt
def O5 (x:BE):Bd:=[(some 2,some (!decide (x.2.2.1 <x.2.1)),⟨55,6,[(11,.sq 5)],[(5,some (.arr 71 2 (.ty .row x.2.2.2)))]⟩)]
def Dx (x:BE):Nat:=(x.2.1 - x.2.2.1).toNat
def Jg (x:BE):BE:=A5 CP CO (Dx x) x
theorem Ak1 (a0:List TRow) (a1:Int) (a2:Int) (a3:List TRow):Bk (Au Azc L0) 9 (Ae Try.prog 82 2) Uc (KG (a0,a1,a2,a3))=some (Lt (a0,a1,a2,a3),O5 (a0,a1,a2,a3),CO (a0,a1,a2,a3),KG (CP (a0,a1,a2,a3))):=by kernel_rfl
theorem Ak2 (a0:List TRow) (a1:Int) (a2:Int) (a3:List TRow) (hp:∀p∈EB (a0,a1,a2,a3),p):∀p∈Lt (a0,a1,a2,a3),p:=hp
noncomputable def Qd:=GH (Au Azc L0) (Ae Try.prog 82 2) Uc Apd My Dx CP CO EB O5
theorem Af3:∀s b ps outs,Qd s=some (b,ps,outs)→Wf s ⟨ps,outs,none⟩∧Be (Au C0 L0) b s ps outs:=
 A6 (T:=KG) Aim Av (u:=9) (by kernel_rfl) (by decide) (fun⟨a0,a1,a2,a3⟩=>Ak1 a0 a1 a2 a3) (fun⟨a0,a1,a2,a3⟩=>Ak2 a0 a1 a2 a3) Abm (fun _=>AI (n:=55) rfl) fun _ _=>rfl
noncomputable def KF:=CY 2 Qd L0
theorem Qc:Gf KF:=AP Af3 Av
abbrev BD:Type:=(List TGroup)×(List TChange)×Int×Int×(List TRow)
def KE (x:BD):St:=⟨55,2,[(0,.sl .group x.1),(4,.dq 1),(19,.sl .change x.2.1),(20,.v (.int .i64 x.2.2.1)),(21,.v (.int .i64 x.2.2.2.1))],[(1,some (.deep 71 .row x.2.2.2.2))]⟩
def Mx:St→Option BD
 |⟨55,2,[(0,.sl .group z0),(4,.dq 1),(19,.sl .change z1),(20,.v (.int .i64 z2)),(21,.v (.int .i64 z3))],[(1,some (.deep 71 .row z4))]⟩=>some (z0,z1,z2,z3,z4)
 |_=>none
theorem Abl:∀s x,Mx s=some x→s=KE x:=fun s x h=>by
 unfold Mx at h
 split at h
 ·cases h;rfl
 ·cases h
def Ub:Co:=⟨1,2,[0,4,19,20,21],[],[(6,1)],[6],[4,5],[1]⟩
def Apc:CR:=⟨[.nilD 4 71 .row],[(0,1)],[0,4,19,20,21],[0]⟩
def CN (a0:List TGroup) (a1:List TChange) (a2:Int) (a3:Int) (_a4:List TRow):Bool:=!!decide (a3 <a2)&&LG a0 (a1.getD a3.toNat (Ab TC.change)) !=(0:Int)
def Bz (a0:List TGroup) (a1:List TChange) (_a2:Int) (a3:Int) (_a4:List TRow):List TRow:=(Jg (Si a0 (a1.getD a3.toNat (Ab TC.change)),(↑(Si a0 (a1.getD a3.toNat (Ab TC.change))).length:Int),(0:Int),[])).snd.snd.snd
def Lr (a0:List TGroup) (a1:List TChange) (a2:Int) (a3:Int) (a4:List TRow):List TRow:=mrg (a4.length+(Bz a0 a1 a2 a3 a4).length) a4 (Bz a0 a1 a2 a3 a4)
def Af1 (a0:List TGroup) (a1:List TChange) (a2:Int) (a3:Int) (a4:List TRow):Bool:=!!decide (a3 <a2)&&!(CN a0 a1 a2 a3 a4)
def Dw (x:BD):BD:=(x.1,x.2.1,x.2.2.1,IntKind.i64.wrap (x.2.2.2.1+(1:Int)),Lr x.1 x.2.1 x.2.2.1 x.2.2.2.1 x.2.2.2.2)
def Dv (x:BD):Cnd:=some (Af1 x.1 x.2.1 x.2.2.1 x.2.2.2.1 x.2.2.2.2)
def Qa (x:BD):List Prop:=[((!!decide (x.2.2.2.1 <x.2.2.1))=true→(0:Int)≤x.2.2.2.1∧x.2.2.2.1 <(↑x.2.1.length:Int)),((!!decide (x.2.2.2.1 <x.2.2.1))=true→Am (x.2.1.getD x.2.2.2.1.toNat (Ab TC.change)).5.length),((!!decide (x.2.2.2.1 <x.2.2.1))=true→(!LG x.1 (x.2.1.getD x.2.2.2.1.toNat (Ab TC.change)) !=(0:Int))=true→Ae Try.prog (82:FuncId) (2:Nat)=Ae Try.prog (82:FuncId) (2:Nat)),((!!decide (x.2.2.2.1 <x.2.2.1))=true→(!LG x.1 (x.2.1.getD x.2.2.2.1.toNat (Ab TC.change)) !=(0:Int))=true→AB CP CO EB (Dx (Si x.1 (x.2.1.getD x.2.2.2.1.toNat (Ab TC.change)),(↑(Si x.1 (x.2.1.getD x.2.2.2.1.toNat (Ab TC.change))).length:Int),(0:Int),[])) (Si x.1 (x.2.1.getD x.2.2.2.1.toNat (Ab TC.change)),(↑(Si x.1 (x.2.1.getD x.2.2.2.1.toNat (Ab TC.change))).length:Int),(0:Int),[])),((!!decide (x.2.2.2.1 <x.2.2.1))=true→(!LG x.1 (x.2.1.getD x.2.2.2.1.toNat (Ab TC.change)) !=(0:Int))=true→Stt x.1 x.2.2.2.2∧Stt x.1 (Bz x.1 x.2.1 x.2.2.1 x.2.2.2.1 x.2.2.2.2)∧x.2.2.2.2.length+(Bz x.1 x.2.1 x.2.2.1 x.2.2.2.1 x.2.2.2.2).length≤(400000:Nat))]
def FZ (x:BD):List Prop:=[((!!decide (x.2.2.2.1 <x.2.2.1))=true→(0:Int)≤x.2.2.2.1∧x.2.2.2.1 <(↑x.2.1.length:Int)),((!!decide (x.2.2.2.1 <x.2.2.1))=true→Am (x.2.1.getD x.2.2.2.1.toNat (Ab TC.change)).5.length),((!!decide (x.2.2.2.1 <x.2.2.1))=true→(!LG x.1 (x.2.1.getD x.2.2.2.1.toNat (Ab TC.change)) !=(0:Int))=true→AB CP CO EB (Dx (Si x.1 (x.2.1.getD x.2.2.2.1.toNat (Ab TC.change)),(↑(Si x.1 (x.2.1.getD x.2.2.2.1.toNat (Ab TC.change))).length:Int),(0:Int),[])) (Si x.1 (x.2.1.getD x.2.2.2.1.toNat (Ab TC.change)),(↑(Si x.1 (x.2.1.getD x.2.2.2.1.toNat (Ab TC.change))).length:Int),(0:Int),[])),((!!decide (x.2.2.2.1 <x.2.2.1))=true→(!LG x.1 (x.2.1.getD x.2.2.2.1.toNat (Ab TC.change)) !=(0:Int))=true→Stt x.1 x.2.2.2.2∧Stt x.1 (Bz x.1 x.2.1 x.2.2.1 x.2.2.2.1 x.2.2.2.2)∧x.2.2.2.2.length+(Bz x.1 x.2.1 x.2.2.1 x.2.2.2.1 x.2.2.2.2).length≤(400000:Nat))]
def O4 (x:BD):Bd:=[(some 0,some (!decide (x.2.2.2.1 <x.2.2.1)),⟨55,2,[(4,.dq 1),(5,.dead)],[(1,some (.deep 71 .row x.2.2.2.2))]⟩),(none,some ((CN x.1 x.2.1 x.2.2.1 x.2.2.2.1 x.2.2.2.2)),⟨55,4,[(4,.v (.slice none 0 0)),(5,.v (.int .i64 ((120:Int))))],[(1,some (.deep 71 .row x.2.2.2.2))]⟩)]
def EP (x:BD):Nat:=(x.2.2.1 - x.2.2.2.1).toNat
def A9 (x:BD):BD:=A5 Dw Dv (EP x) x
theorem Akz (a0:List TGroup) (a1:List TChange) (a2:Int) (a3:Int) (a4:List TRow):Bk (Au Azc KF) 9 (Ae Try.prog 82 0) Ub (KE (a0,a1,a2,a3,a4))=some (Qa (a0,a1,a2,a3,a4),O4 (a0,a1,a2,a3,a4),Dv (a0,a1,a2,a3,a4),KE (Dw (a0,a1,a2,a3,a4))):=by kernel_rfl
theorem Ak0 (a0:List TGroup) (a1:List TChange) (a2:Int) (a3:Int) (a4:List TRow) (hp:∀p∈FZ (a0,a1,a2,a3,a4),p):∀p∈Qa (a0,a1,a2,a3,a4),p:=by
 have n0:=N0 hp
 have n1:=N0 (N1 hp)
 have n2:((!!decide (a3 <a2))=true→(!LG a0 (a1.getD a3.toNat (Ab TC.change)) !=(0:Int))=true→Ae Try.prog (82:FuncId) (2:Nat)=Ae Try.prog (82:FuncId) (2:Nat)):=by intros;rfl
 have n3:=N0 (N1 (N1 hp))
 have n4:=N0 (N1 (N1 (N1 hp)))
 exact(Aa n0 (Aa n1 (Aa n2 (Aa n3 (Aa n4 Ad)))))
noncomputable def Qb:=GH (Au Azc KF) (Ae Try.prog 82 0) Ub Apc Mx EP Dw Dv FZ O4
theorem Af2:∀s b ps outs,Qb s=some (b,ps,outs)→Wf s ⟨ps,outs,none⟩∧Be (Au C0 L0) b s ps outs:=
 A6 (T:=KE) Aim Qc (u:=9) (by kernel_rfl) (by decide) (fun⟨a0,a1,a2,a3,a4⟩=>Akz a0 a1 a2 a3 a4) (fun⟨a0,a1,a2,a3,a4⟩=>Ak0 a0 a1 a2 a3 a4) Abl (fun _=>AI (n:=55) rfl) fun _ _=>rfl
noncomputable def Ua:=CY 0 Qb KF
theorem Af0:Gf Ua:=AP Af2 Qc
def Hw (a0:List TGroup) (_a1:List TChange):Bool:=AO a0 !=(0:Int)
def P9 (a0:List TGroup) (a1:List TChange):Bool:=CN (A9 (a0,a1,(↑a1.length:Int),(0:Int),[])).fst (A9 (a0,a1,(↑a1.length:Int),(0:Int),[])).snd.fst (A9 (a0,a1,(↑a1.length:Int),(0:Int),[])).snd.snd.fst (A9 (a0,a1,(↑a1.length:Int),(0:Int),[])).snd.snd.snd.fst (A9 (a0,a1,(↑a1.length:Int),(0:Int),[])).snd.snd.snd.snd
def SL (a0:List TGroup) (a1:List TChange):Int:=bif(Hw a0 a1) then AO a0 else bif(P9 a0 a1) then(120:Int) else(0:Int)
def SM (a0:List TGroup) (a1:List TChange):List TRow:=bif(Hw a0 a1) then[] else bif(P9 a0 a1) then[] else(A9 (a0,a1,(↑a1.length:Int),(0:Int),[])).snd.snd.snd.snd
def SO (a0:List TGroup) (a1:List TChange):A:=.tup [.dq 0,.v (.int .i64 (SL a0 a1))]
def SN (a0:List TGroup) (a1:List TChange):Objs:=[(0,some (.deep 71 .row (SM a0 a1)))]
def A11 (a0:List TGroup) (a1:List TChange):List Prop:=[((!(Hw a0 a1))=true→AB Dw Dv FZ (EP (a0,a1,(↑a1.length:Int),(0:Int),[])) (a0,a1,(↑a1.length:Int),(0:Int),[]))]
theorem A10 (a0:List TGroup) (a1:List TChange):Eo (Au Azc Ua) 9 82 [.sl .group a0,.sl .change a1] 0 []=some (1,SO a0 a1,1,SN a0 a1,[((!(Hw a0 a1))=true→Ae Try.prog (82:FuncId) (0:Nat)=Ae Try.prog (82:FuncId) (0:Nat)),((!(Hw a0 a1))=true→AB Dw Dv FZ (EP (a0,a1,(↑a1.length:Int),(0:Int),[])) (a0,a1,(↑a1.length:Int),(0:Int),[]))]):=by kernel_rfl
theorem A7r (a0:List TGroup) (a1:List TChange) (hp:∀p∈A11 a0 a1,p):CallOk Try.prog 82 [.sl .group a0,.sl .change a1] 0 [] 1 (SO a0 a1) 1 (SN a0 a1):=by
 have n0:((!(Hw a0 a1))=true→Ae Try.prog (82:FuncId) (0:Nat)=Ae Try.prog (82:FuncId) (0:Nat)):=by intros;rfl
 have n1:=N0 hp
 exact Ax (Ap Aim Af0) (A10 a0 a1) (Aa n0 (Aa n1 Ad))
def YF (a0:List TGroup) (a1:List TChange):A:=.tup [.dq 0,.v (.int .i64 (stE a0 a1))]
def YE (a0:List TGroup) (a1:List TChange):Objs:=[(0,some (.deep 71 .row (stR a0 a1)))]
def Wo (_a0:List TGroup) (a1:List TChange):List Prop:=[a1.length≤7000∧∀c∈a1,Am c.writes.length]
theorem B30 (rows:List TRow) (i:Nat) (h:i <rows.length):nb (rows.take (i+1))=bif !Cp (BA rows i) then nb (rows.take i)++[BA rows i] else nb (rows.take i):=by
 unfold nb
 rw[Aah rows (Ab TC.row) i h,List.filter_append]
 show _++List.filter _ [BA rows i]=_
 rw[List.filter_cons]
 cases Cp (BA rows i) with
 |true=>exact List.append_nil _
 |false=>rfl
theorem Bkr (rows:List TRow) (hb:rows.length≤100) (hc:∀r∈rows,r.cells.length≤4):
  AB CP CO EB (Dx (rows,(rows.length:Int),0,[])) (rows,(rows.length:Int),0,[])∧Jg (rows,(rows.length:Int),0,[])=(rows,(rows.length:Int),(rows.length:Int),nb rows):=by
 obtain⟨h1,hx⟩:=Ay1 (fun i=>((rows,(rows.length:Int),(i:Int),nb (rows.take i)):BE)) rows.length CP CO EB (Dx (rows,(rows.length:Int),0,[])) (rows,(rows.length:Int),0,[]) rfl (by show rows.length≤((rows.length:Int) - 0).toNat;omega)
  (fun i _=>by
   show(!!decide ((i:Int) <(rows.length:Int)))=_
   rw[nn,LY])
  (fun i hi=>by
   show(rows,(rows.length:Int),IntKind.i64.wrap ((i:Int)+1),Ls rows (rows.length:Int) (i:Int) (nb (rows.take i)))=(rows,(rows.length:Int),((i+1:Nat):Int),nb (rows.take (i+1)))
   rw[DU (by omega),B30 rows i hi]
   unfold Ls
   rw[Int.toNat_natCast]
   rfl)
  (fun i hi=>by
   have hin:(!!decide ((i:Int) <(rows.length:Int)))=true→(i:Int) <(rows.length:Int):=fun h=>by rw[nn] at h;exact of_decide_eq_true h
   have hl:=Bo1 (rows.take i)
   rw[List.length_take] at hl
   refine Aa (fun h=>⟨by show(0:Int)≤(i:Int);omega,hin h⟩) (Aa (fun h=>?_) (Aa (fun _ _=>?_) Ad))
   ·have h2:=hin h
    have h3:(rows.getD ((i:Int)).toNat (Ab TC.row)).2.length≤4:=hc _ (getD_in rows (Ab TC.row) _ (by omega))
    show Ag (rows.getD ((i:Int)).toNat (Ab TC.row)).2.length
    unfold Ag
    omega
   ·show Ag ((nb (rows.take i)).length+1)
    unfold Ag
    omega)
 refine⟨h1,?_⟩
 have hx':Jg (rows,(rows.length:Int),0,[])=(rows,(rows.length:Int),(rows.length:Int),nb (rows.take rows.length)):=hx
 rw[hx',List.take_length]
theorem Aan (l:List TGroup) (c:TChange):(Si l c).length≤100∧∀r∈Si l c,r.cells.length≤4:=by
 refine⟨Nat.le_trans (Ayr l c) (by omega),fun r hr=>?_⟩
 have g:=(Ai1 l c).2 r hr
 rw[(AK g).2.1]
 exact(FR (AK g).1).2
theorem B0a (l:List TGroup) (cs:List TChange) (hb:cs.length≤7000) (hw:∀c∈cs,Am c.writes.length):
  AB Dw Dv FZ (EP (l,cs,(cs.length:Int),0,[])) (l,cs,(cs.length:Int),0,[])∧
  CN (A9 (l,cs,(cs.length:Int),0,[])).fst (A9 (l,cs,(cs.length:Int),0,[])).snd.fst (A9 (l,cs,(cs.length:Int),0,[])).snd.snd.fst (A9 (l,cs,(cs.length:Int),0,[])).snd.snd.snd.fst (A9 (l,cs,(cs.length:Int),0,[])).snd.snd.snd.snd=!JX cs.length (fun i=>LG l (LQ cs i)==0)∧
  (JX cs.length (fun i=>LG l (LQ cs i)==0)=true→(A9 (l,cs,(cs.length:Int),0,[])).snd.snd.snd.snd=stN l cs cs.length):=by
 have hk1:∀(i:Nat) (o:List TRow),CN l cs (cs.length:Int) (i:Int) o=(decide (i <cs.length)&&!(LG l (LQ cs i)==0)):=fun i o=>by
  unfold CN
  rw[nn,LY,Int.toNat_natCast]
  rfl
 have hk0:∀(i:Nat) (o:List TRow),Bz l cs (cs.length:Int) (i:Int) o=nb (Si l (LQ cs i)):=fun i o=>by
  unfold Bz
  rw[Int.toNat_natCast]
  show(Jg (Si l (LQ cs i),((Si l (LQ cs i)).length:Int),(0:Int),[])).snd.snd.snd=_
  rw[(Bkr _ (Aan l (LQ cs i)).1 (Aan l (LQ cs i)).2).2]
 obtain⟨h1,k,hk,hx,_,hst,hb'⟩:=Io (fun i=>(l,cs,(cs.length:Int),(i:Int),stN l cs i):Nat→BD) cs.length (fun i=>!(LG l (LQ cs i)==0)) Dw Dv FZ (EP (l,cs,(cs.length:Int),0,[])) (l,cs,(cs.length:Int),0,[]) rfl (by show cs.length≤((cs.length:Int) - 0).toNat;omega)
  (fun i _ _=>by
   show(!!decide ((i:Int) <(cs.length:Int))&&!CN l cs (cs.length:Int) (i:Int) (stN l cs i))=_
   rw[hk1,nn,LY]
   cases decide (i <cs.length)<;>rfl)
  (fun i hi _=>by
   show(l,cs,(cs.length:Int),IntKind.i64.wrap ((i:Int)+1),Lr l cs (cs.length:Int) (i:Int) (stN l cs i))=(l,cs,(cs.length:Int),((i+1:Nat):Int),stN l cs (i+1))
   unfold Lr
   rw[DU (by omega),hk0]
   rfl)
  (fun i hi _=>by
   have hin:(!!decide ((i:Int) <(cs.length:Int)))=true→i <cs.length:=fun h=>by rw[nn] at h;have:=of_decide_eq_true h;omega
   refine Aa (fun h=>⟨by show(0:Int)≤(i:Int);omega,by have:=hin h;show(i:Int) <(cs.length:Int);omega⟩) (Aa (fun h=>?_) (Aa (fun h _=>?_) (Aa (fun h _=>?_) Ad)))
   ·show Am (cs.getD ((i:Int)).toNat (Ab TC.change)).5.length
    rw[Int.toNat_natCast]
    exact hw _ (getD_in cs (Ab TC.change) i (hin h))
   ·show AB CP CO EB (Dx (Si l (cs.getD ((i:Int)).toNat (Ab TC.change)),((Si l (cs.getD ((i:Int)).toNat (Ab TC.change))).length:Int),(0:Int),[])) (Si l (cs.getD ((i:Int)).toNat (Ab TC.change)),((Si l (cs.getD ((i:Int)).toNat (Ab TC.change))).length:Int),(0:Int),[])
    exact(Bkr _ (Aan l _).1 (Aan l _).2).1
   ·have a1:=Bgj l cs i
    have a2:=Bo1 (Si l (LQ cs i))
    have a3:=Ayr l (LQ cs i)
    show Stt l (stN l cs i)∧Stt l (Bz l cs (cs.length:Int) (i:Int) (stN l cs i))∧(stN l cs i).length+(Bz l cs (cs.length:Int) (i:Int) (stN l cs i)).length≤400000
    rw[hk0]
    exact⟨Ay3 l cs i,Bej l _,by omega⟩)
 have hr:A9 (l,cs,(cs.length:Int),0,[])=(l,cs,(cs.length:Int),(k:Int),stN l cs k):=hx
 have hb2:(decide (k <cs.length)&&!(LG l (LQ cs k)==0))=!JX cs.length (fun i=>LG l (LQ cs i)==0):=by
  rw[hb']
  congr 1
  exact Hk fun i _=>Bool.not_not _
 rw[hr]
 refine⟨h1,?_,fun ha=>?_⟩
 ·show CN l cs (cs.length:Int) (k:Int) (stN l cs k)=_
  rw[hk1,hb2]
 ·show stN l cs k=_
  rw[ha] at hb2
  rcases Nat.lt_or_ge k cs.length with h|h
  ·have h2:=hst h
   rw[decide_eq_true h,h2] at hb2
   cases hb2
  ·rw[show k=cs.length by omega]
theorem A1z (a0:List TGroup) (a1:List TChange) (hp:∀p∈Wo a0 a1,p):CallOk Try.prog 82 [.sl .group a0,.sl .change a1] 0 [] 1 (YF a0 a1) 1 (YE a0 a1):=by
 obtain⟨hb,hw⟩:=hp _ (List.mem_cons_self ..)
 obtain⟨h1,h2,h3⟩:=B0a a0 a1 hb hw
 have h:=A7r a0 a1 (Aa (fun _=>h1) Ad)
 have k0:P9 a0 a1=!JX a1.length (fun i=>LG a0 (LQ a1 i)==0):=h2
 have e:SL a0 a1=stE a0 a1∧SM a0 a1=stR a0 a1:=by
  unfold SL SM Hw stR stE
  rw[k0]
  cases hg:AO a0 !=0 with
  |true=>
   have:(AO a0==0)=false:=by simpa using hg
   refine⟨rfl,?_⟩
   show[]=bif AO a0==0 then stN a0 a1 a1.length else[]
   rw[this]
   rfl
  |false=>
   cases ha:JX a1.length (fun i=>LG a0 (LQ a1 i)==0) with
   |true=>exact⟨rfl,h3 ha⟩
   |false=>exact⟨rfl,rfl⟩
 unfold SO SN at h
 rw[e.1,e.2] at h
 exact h
def Acz:List A→Nat→Objs→Option AV:=A7 [.l .group,.l .change] 1 YF YE Wo
theorem Awj:ET Try.prog 82 Acz:=Aq (ks:=[.l .group,.l .change]) A1z
noncomputable def Bx1:=AU 82 Acz Azc
theorem Bhw:CD Try.prog Bx1:=Ak Awj Aim
def EA (a0:List TGroup) (a1:List TRow) (_a2:List TRow):Bool:=Bq a0 a1 !=(0:Int)
def IB (a0:List TGroup) (a1:List TRow) (a2:List TRow):Bool:=(EA a0 a1 a2)||Bq a0 a2 !=(0:Int)
def SH (a0:List TGroup) (a1:List TRow) (a2:List TRow):Int:=bif(IB a0 a1 a2) then bif(EA a0 a1 a2) then Bq a0 a1 else Bq a0 a2 else(0:Int)
def SI (a0:List TGroup) (a1:List TRow) (a2:List TRow):List TRow:=bif(IB a0 a1 a2) then[] else mrg (a1.length+a2.length) a1 a2
def SK (a0:List TGroup) (a1:List TRow) (a2:List TRow):A:=.tup [.dq 0,.v (.int .i64 (SH a0 a1 a2))]
def SJ (a0:List TGroup) (a1:List TRow) (a2:List TRow):Objs:=[(0,some (.deep 71 .row (SI a0 a1 a2)))]
def A1y (a0:List TGroup) (a1:List TRow) (a2:List TRow):List Prop:=[(Am a1.length),((!(EA a0 a1 a2))=true→Am a2.length),((!(IB a0 a1 a2))=true→Stt a0 a1∧Stt a0 a2∧a1.length+a2.length≤(400000:Nat))]
theorem A1x (a0:List TGroup) (a1:List TRow) (a2:List TRow):Eo (Au Bx1 L0) 9 91 [.sl .group a0,Af .rows a1,Af .rows a2] 0 []=some (1,SK a0 a1 a2,1,SJ a0 a1 a2,[((0:Int)≤(0:Int)∧(0:Int) <(↑(2:Nat):Int)),((0:Nat) <(2:Nat)),(Am a1.length),((!(EA a0 a1 a2))=true→(0:Int)≤(1:Int)∧(1:Int) <(↑(2:Nat):Int)),((!(EA a0 a1 a2))=true→(1:Nat) <(2:Nat)),((!(EA a0 a1 a2))=true→Am a2.length),((!(IB a0 a1 a2))=true→Stt a0 a1∧Stt a0 a2∧a1.length+a2.length≤(400000:Nat))]):=by kernel_rfl
theorem A7q (a0:List TGroup) (a1:List TRow) (a2:List TRow) (hp:∀p∈A1y a0 a1 a2,p):CallOk Try.prog 91 [.sl .group a0,Af .rows a1,Af .rows a2] 0 [] 1 (SK a0 a1 a2) 1 (SJ a0 a1 a2):=by
 have n0:((0:Int)≤(0:Int)∧(0:Int) <(↑(2:Nat):Int)):=by first|rfl|decide+kernel
 have n1:((0:Nat) <(2:Nat)):=by first|rfl|decide+kernel
 have n2:=N0 hp
 have n3:((!(EA a0 a1 a2))=true→(0:Int)≤(1:Int)∧(1:Int) <(↑(2:Nat):Int)):=by omega
 have n4:((!(EA a0 a1 a2))=true→(1:Nat) <(2:Nat)):=by omega
 have n5:=N0 (N1 hp)
 have n6:=N0 (N1 (N1 hp))
 exact Ax (Ap Bhw Av) (A1x a0 a1 a2) (Aa n0 (Aa n1 (Aa n2 (Aa n3 (Aa n4 (Aa n5 (Aa n6 Ad)))))))
def YD (a0:List TGroup) (a1 a2:List TRow):A:=.tup [.dq 0,.v (.int .i64 (mgE a0 a1 a2))]
def YC (a0:List TGroup) (a1 a2:List TRow):Objs:=[(0,some (.deep 71 .row (Iz a0 a1 a2)))]
def Wn (_a0:List TGroup) (a1 a2:List TRow):List Prop:=[a1.length+a2.length≤400000]
theorem A1w (a0:List TGroup) (a1 a2:List TRow) (hp:∀p∈Wn a0 a1 a2,p):CallOk Try.prog 91 [.sl .group a0,Af .rows a1,Af .rows a2] 0 [] 1 (YD a0 a1 a2) 1 (YC a0 a1 a2):=by
 have hb:a1.length+a2.length≤400000:=hp _ (List.mem_cons_self ..)
 have hk:IB a0 a1 a2=!(mgE a0 a1 a2==0):=by
  unfold IB EA mgE
  cases h:Bq a0 a1 !=0 with
  |true=>
   have:(Bq a0 a1==0)=false:=by simpa using h
   rw[cond_true,this]
   rfl
  |false=>rfl
 have h:=A7q a0 a1 a2 (Aa (by unfold Am;omega) (Aa (fun _=>by unfold Am;omega) (Aa (fun h=>by
  rw[hk,Bool.not_not] at h
  obtain⟨g1,g2⟩:=Bz5.1 (by simpa using h:mgE a0 a1 a2=0)
  exact⟨(JA g1).2,(JA g2).2,hb⟩) Ad)))
 have e:SH a0 a1 a2=mgE a0 a1 a2∧SI a0 a1 a2=Iz a0 a1 a2:=by
  unfold SH SI Iz
  rw[hk]
  cases h0:mgE a0 a1 a2==0 with
  |true=>
   have:mgE a0 a1 a2=0:=by simpa using h0
   rw[this]
   exact⟨rfl,rfl⟩
  |false=>exact⟨rfl,rfl⟩
 unfold SK SJ at h
 rw[e.1,e.2] at h
 exact h
def Acy:List A→Nat→Objs→Option AV:=A7 [.l .group,.t .rows,.t .rows] 1 YD YC Wn
theorem Awi:ET Try.prog 91 Acy:=Aq (ks:=[.l .group,.t .rows,.t .rows]) A1w
noncomputable def Bhx:=AU 91 Acy Bx1
theorem Azd:CD Try.prog Bhx:=Ak Awi Bhw
abbrev BF:Type:=Int×Int×TRow×TRow
def Lc (x:BF):St:=⟨38,2,[(2,.own 0 0),(3,.own 1 0),(22,.v (.int .i64 x.1)),(23,.v (.int .i64 x.2.1))],[(0,some (.box 71 [.v (.string x.2.2.1.key),.sl .cell x.2.2.1.cells])),(1,some (.box 71 [.v (.string x.2.2.2.key),.sl .cell x.2.2.2.cells]))]⟩
def Ng:St→Option BF
 |⟨38,2,[(2,.own 0 0),(3,.own 1 0),(22,.v (.int .i64 z0)),(23,.v (.int .i64 z1))],[(0,some (.box 71 [.v (.string z2),.sl .cell z3])),(1,some (.box 71 [.v (.string z4),.sl .cell z5]))]⟩=>some (z0,z1,⟨z2,z3⟩,⟨z4,z5⟩)
 |_=>none
theorem Af9:∀s x,Ng s=some x→s=Lc x:=fun s x h=>by
 unfold Ng at h
 split at h
 ·cases h;rfl
 ·cases h
def Wu:Co:=⟨2,2,[2,3,22,23],[],[(0,0),(1,1)],[0,1],[4],[0,1]⟩
def Awn:CR:=⟨[],[(0,0),(1,1)],[2,3,22,23],[0,1]⟩
def C7 (a0:Int) (a1:Int) (a2:TRow) (a3:TRow):Bool:=!!decide (a1 <a0)&&!((a2.2.getD a1.toNat (Ab TC.cell)).1.1==(a3.2.getD a1.toNat (Ab TC.cell)).1.1&&(a2.2.getD a1.toNat (Ab TC.cell)).1.2==(a3.2.getD a1.toNat (Ab TC.cell)).1.2&&((a2.2.getD a1.toNat (Ab TC.cell)).2.1==(a3.2.getD a1.toNat (Ab TC.cell)).2.1&&(a2.2.getD a1.toNat (Ab TC.cell)).2.2==(a3.2.getD a1.toNat (Ab TC.cell)).2.2&&((a2.2.getD a1.toNat (Ab TC.cell)).3==(a3.2.getD a1.toNat (Ab TC.cell)).3&&((a2.2.getD a1.toNat (Ab TC.cell)).4.toList==(a3.2.getD a1.toNat (Ab TC.cell)).4.toList&&((a2.2.getD a1.toNat (Ab TC.cell)).5.1==(a3.2.getD a1.toNat (Ab TC.cell)).5.1&&(a2.2.getD a1.toNat (Ab TC.cell)).5.2==(a3.2.getD a1.toNat (Ab TC.cell)).5.2)))))
def Ak7 (a0:Int) (a1:Int) (a2:TRow) (a3:TRow):Bool:=!!decide (a1 <a0)&&!(C7 a0 a1 a2 a3)
def DZ (x:BF):BF:=(x.1,IntKind.i64.wrap (x.2.1+(1:Int)),x.2.2.1,x.2.2.2)
def DY (x:BF):Cnd:=some (Ak7 x.1 x.2.1 x.2.2.1 x.2.2.2)
def MA (x:BF):List Prop:=[((!!decide (x.2.1 <x.1))=true→(0:Int)≤x.2.1∧x.2.1 <(↑x.2.2.1.2.length:Int)),((!!decide (x.2.1 <x.1))=true→(0:Int)≤x.2.1∧x.2.1 <(↑x.2.2.2.2.length:Int))]
abbrev GZ:BF→List Prop:=MA
def Qh (x:BF):Bd:=[(some 0,some (!decide (x.2.1 <x.1)),⟨38,2,[(4,.dead)],[(0,some (.box 71 [.v (.string x.2.2.1.1),.sl .cell x.2.2.1.2])),(1,some (.box 71 [.v (.string x.2.2.2.1),.sl .cell x.2.2.2.2]))]⟩),(none,some ((C7 x.1 x.2.1 x.2.2.1 x.2.2.2)),⟨38,2,[(4,.v (.bool (false)))],[(0,some (.box 71 [.v (.string x.2.2.1.1),.sl .cell x.2.2.1.2])),(1,some (.box 71 [.v (.string x.2.2.2.1),.sl .cell x.2.2.2.2]))]⟩)]
def E6 (x:BF):Nat:=(x.1 - x.2.1).toNat
def Ak9 (x:BF):BF:=A5 DZ DY (E6 x) x
theorem Apg (a0:Int) (a1:Int) (a2:TRow) (a3:TRow):Bk (Au Bhx L0) 9 (Ae Try.prog 150 0) Wu (Lc (a0,a1,a2,a3))=some (MA (a0,a1,a2,a3),Qh (a0,a1,a2,a3),DY (a0,a1,a2,a3),Lc (DZ (a0,a1,a2,a3))):=by kernel_rfl
theorem Aph (a0:Int) (a1:Int) (a2:TRow) (a3:TRow) (hp:∀p∈GZ (a0,a1,a2,a3),p):∀p∈MA (a0,a1,a2,a3),p:=hp
noncomputable def RI:=GH (Au Bhx L0) (Ae Try.prog 150 0) Wu Awn Ng E6 DZ DY GZ Qh
theorem Ak8:∀s b ps outs,RI s=some (b,ps,outs)→Wf s ⟨ps,outs,none⟩∧Be (Au C0 L0) b s ps outs:=
 A6 (T:=Lc) Azd Av (u:=9) (by kernel_rfl) (by decide) (fun⟨a0,a1,a2,a3⟩=>Apg a0 a1 a2 a3) (fun⟨a0,a1,a2,a3⟩=>Aph a0 a1 a2 a3) Af9 (fun _=>AI (n:=38) rfl) fun _ _=>rfl
noncomputable def Wt:=CY 0 RI L0
theorem Ak6:Gf Wt:=AP Ak8 Av
def FE (a0:TRow) (a1:TRow):BF:=Ak9 ((↑a0.2.length:Int),(0:Int),a0,a1)
def GO (a0:TRow) (a1:TRow):Bool:=!a0.1.toList==a1.1.toList||(↑a0.2.length:Int) !=(↑a1.2.length:Int)
def Vq (a0:TRow) (a1:TRow):Bool:=bif(GO a0 a1) then false else bif C7 (FE a0 a1).fst (FE a0 a1).snd.fst (FE a0 a1).snd.snd.fst (FE a0 a1).snd.snd.snd then false else true
def Vr (a0:TRow) (a1:TRow):A:=.v (.bool (Vq a0 a1))
def Ala (_a0:TRow) (_a1:TRow):Objs:=[]
def Ac5 (a0:TRow) (a1:TRow):List Prop:=[((!(GO a0 a1))=true→AB DZ DY GZ (E6 ((↑a0.2.length:Int),(0:Int),a0,a1)) ((↑a0.2.length:Int),(0:Int),a0,a1))]
theorem A7v (a0:TRow) (a1:TRow):Eo (Au Bhx Wt) 9 150 [Af .row a0,Af .row a1] 0 []=some (1,Vr a0 a1,0,Ala a0 a1,[((!(GO a0 a1))=true→Ae Try.prog (150:FuncId) (0:Nat)=Ae Try.prog (150:FuncId) (0:Nat)),((!(GO a0 a1))=true→AB DZ DY GZ (E6 ((↑a0.2.length:Int),(0:Int),a0,a1)) ((↑a0.2.length:Int),(0:Int),a0,a1))]):=by kernel_rfl
theorem Beh (a0:TRow) (a1:TRow) (hp:∀p∈Ac5 a0 a1,p):CallOk Try.prog 150 [Af .row a0,Af .row a1] 0 [] 1 (Vr a0 a1) 0 (Ala a0 a1):=by
 have n0:((!(GO a0 a1))=true→Ae Try.prog (150:FuncId) (0:Nat)=Ae Try.prog (150:FuncId) (0:Nat)):=by intros;rfl
 have n1:=N0 hp
 exact Ax (Ap Azd Ak6) (A7v a0 a1) (Aa n0 (Aa n1 Ad))
def Ac6 (a0:TRow) (a1:TRow):A:=.v (.bool (U3 a0 a1))
def Ac4 (_a0:TRow) (_a1:TRow):Objs:=[]
def YO (a0:TRow) (_a1:TRow):List Prop:=[Ag a0.cells.length]
theorem Ac3 (a b:TRow) (hb:Ag a.cells.length):(∀p∈Ac5 a b,p)∧Vq a b=U3 a b:=by
 unfold Ag at hb
 have hk0:GO a b=(!(a.key==b.key)||a.cells.length !=b.cells.length):=by
  show(!(a.key.toList==b.key.toList)||((a.cells.length:Int) !=(b.cells.length:Int)))=_
  rw[tlb]
  congr 1
  rw[Bool.eq_iff_iff,bne_iff_ne,bne_iff_ne];omega
 have main:GO a b=false→AB DZ DY GZ (E6 ((a.2.length:Int),0,a,b)) ((a.2.length:Int),0,a,b)∧C7 (FE a b).fst (FE a b).snd.fst (FE a b).snd.snd.fst (FE a b).snd.snd.snd=!Ajc a.cells b.cells:=fun h0=>by
  rw[hk0] at h0
  have hlen:a.cells.length=b.cells.length:=by simpa using(Bool.or_eq_false_iff.1 h0).2
  have hf:∀i:Nat,C7 (a.cells.length:Int) (i:Int) a b=(decide (i <a.cells.length)&&!eqC (a.2.getD i (Ab TC.cell)) (b.2.getD i (Ab TC.cell))):=fun i=>by
   unfold C7 eqC
   rw[nn,LY,Int.toNat_natCast,tlb]
   simp only[Bool.and_assoc]
  obtain⟨h1,k,hk,hx,_,_,hb'⟩:=Io (fun i=>(((a.cells.length:Int),(i:Int),a,b):BF)) a.cells.length (fun i=>!eqC (a.2.getD i (Ab TC.cell)) (b.2.getD i (Ab TC.cell))) DZ DY GZ (E6 ((a.cells.length:Int),0,a,b)) ((a.cells.length:Int),0,a,b) rfl (by show a.cells.length≤((a.cells.length:Int) - 0).toNat;omega)
   (fun i _ _=>by
    show((!!decide ((i:Int) <(a.cells.length:Int)))&&!C7 (a.cells.length:Int) (i:Int) a b)=_
    rw[hf,nn,LY]
    cases decide (i <a.cells.length)<;>rfl)
   (fun i hi _=>by
    show((a.cells.length:Int),IntKind.i64.wrap ((i:Int)+1),a,b)=((a.cells.length:Int),((i+1:Nat):Int),a,b)
    rw[DU (by omega)])
   (fun i _ _=>by
    have hin:(!!decide ((i:Int) <(a.cells.length:Int)))=true→(i:Int) <(a.cells.length:Int):=fun h=>by rw[nn] at h;exact of_decide_eq_true h
    exact Aa (fun h=>⟨by show(0:Int)≤(i:Int);omega,hin h⟩) (Aa (fun h=>⟨by show(0:Int)≤(i:Int);omega,by have:=hin h;show(i:Int) <(b.cells.length:Int);omega⟩) Ad))
  refine⟨h1,?_⟩
  have hr:FE a b=((a.cells.length:Int),(k:Int),a,b):=hx
  rw[hr]
  show C7 (a.cells.length:Int) (k:Int) a b=_
  rw[hf,hb',By2 _ _ hlen]
  congr 1
  exact Hk fun i _=>Bool.not_not _
 refine⟨Aa (fun h=>(main (by simpa using h)).1) Ad,?_⟩
 unfold Vq U3
 cases h0:GO a b with
 | true=>
  rw[hk0] at h0
  rw[cond_true]
  cases hk:a.key==b.key with
  |false=>rfl
  |true=>
   rw[hk] at h0
   have hne:a.cells.length≠b.cells.length:=by simpa using h0
   cases he:Ajc a.cells b.cells with
   |false=>rfl
   |true=>exact absurd (congrArg List.length (XN.1 he)) hne
 |false=>
  rw[cond_false,(main h0).2]
  rw[hk0] at h0
  have:(a.key==b.key)=true:=by simpa using(Bool.or_eq_false_iff.1 h0).1
  rw[this,Bool.true_and]
  cases Ajc a.cells b.cells<;>rfl
theorem A7u (a0:TRow) (a1:TRow) (hp:∀p∈YO a0 a1,p):CallOk Try.prog 150 [Af .row a0,Af .row a1] 0 [] 1 (Ac6 a0 a1) 0 (Ac4 a0 a1):=by
 have hb:Ag a0.cells.length:=hp _ (List.mem_cons_self ..)
 have h:=Beh a0 a1 (Ac3 a0 a1 hb).1
 unfold Vr at h
 rw[(Ac3 a0 a1 hb).2] at h
 exact h
def Alb:List A→Nat→Objs→Option AV:=A7 [.t .row,.t .row] 0 Ac6 Ac4 YO
theorem A16:ET Try.prog 150 Alb:=Aq (ks:=[.t .row,.t .row]) A7u
noncomputable def Bhy:=AU 150 Alb Bhx
theorem Aze:CD Try.prog Bhy:=Ak A16 Azd
abbrev Bg:Type:=(List TRow)×Int×Int×(List TRow)
def JU (x:Bg):St:=⟨42,2,[(2,.sl .row x.1),(7,.dq 1),(27,.v (.int .i64 x.2.1)),(28,.v (.int .i64 x.2.2.1))],[(1,some (.deep 71 .row x.2.2.2))]⟩
def Lu:St→Option Bg
 |⟨42,2,[(2,.sl .row z0),(7,.dq 1),(27,.v (.int .i64 z1)),(28,.v (.int .i64 z2))],[(1,some (.deep 71 .row z3))]⟩=>some (z0,z1,z2,z3)
 |_=>none
theorem YG:∀s x,Lu s=some x→s=JU x:=fun s x h=>by
 unfold Lu at h
 split at h
 ·cases h;rfl
 ·cases h
def RH:Co:=⟨1,2,[2,7,27,28],[],[(1,1)],[1],[6],[1]⟩
def Ak3:CR:=⟨[],[(0,1)],[2,7,27,28],[0]⟩
def BZ (a0:List TRow) (a1:Int) (a2:Int) (a3:List TRow):Bool:=!!decide (a2 <a1)&&!U3 (a3.getD a2.toNat (Ab TC.row)) (a0.getD a2.toNat (Ab TC.row))
def Abo (a0:List TRow) (a1:Int) (a2:Int) (a3:List TRow):Bool:=!!decide (a2 <a1)&&!(BZ a0 a1 a2 a3)
def C6 (x:Bg):Bg:=(x.1,x.2.1,IntKind.i64.wrap (x.2.2.1+(1:Int)),x.2.2.2)
def C5 (x:Bg):Cnd:=some (Abo x.1 x.2.1 x.2.2.1 x.2.2.2)
def O6 (x:Bg):List Prop:=[((!!decide (x.2.2.1 <x.2.1))=true→(0:Int)≤x.2.2.1∧x.2.2.1 <(↑x.2.2.2.length:Int)),((!!decide (x.2.2.1 <x.2.1))=true→x.2.2.1.toNat <x.2.2.2.length),((!!decide (x.2.2.1 <x.2.1))=true→(0:Int)≤x.2.2.1∧x.2.2.1 <(↑x.1.length:Int)),((!!decide (x.2.2.1 <x.2.1))=true→x.2.2.1.toNat <x.2.2.2.length),((!!decide (x.2.2.1 <x.2.1))=true→Ag (x.2.2.2.getD x.2.2.1.toNat (Ab TC.row)).2.length)]
def E5 (x:Bg):List Prop:=[((!!decide (x.2.2.1 <x.2.1))=true→(0:Int)≤x.2.2.1∧x.2.2.1 <(↑x.2.2.2.length:Int)),((!!decide (x.2.2.1 <x.2.1))=true→(0:Int)≤x.2.2.1∧x.2.2.1 <(↑x.1.length:Int)),((!!decide (x.2.2.1 <x.2.1))=true→Ag (x.2.2.2.getD x.2.2.1.toNat (Ab TC.row)).2.length)]
def N8 (x:Bg):Bd:=[(some 0,some (!decide (x.2.2.1 <x.2.1)),⟨42,2,[(6,.dead)],[(1,some (.deep 71 .row x.2.2.2))]⟩),(none,some ((BZ x.1 x.2.1 x.2.2.1 x.2.2.2)),⟨42,2,[(6,.v (.bool (false)))],[(1,some (.deep 71 .row x.2.2.2))]⟩)]
def D4 (x:Bg):Nat:=(x.2.1 - x.2.2.1).toNat
def Abq (x:Bg):Bg:=A5 C6 C5 (D4 x) x
theorem Af4 (a0:List TRow) (a1:Int) (a2:Int) (a3:List TRow):Bk (Au Bhy L0) 9 (Ae Try.prog 94 0) RH (JU (a0,a1,a2,a3))=some (O6 (a0,a1,a2,a3),N8 (a0,a1,a2,a3),C5 (a0,a1,a2,a3),JU (C6 (a0,a1,a2,a3))):=by kernel_rfl
theorem Af5 (a0:List TRow) (a1:Int) (a2:Int) (a3:List TRow) (hp:∀p∈E5 (a0,a1,a2,a3),p):∀p∈O6 (a0,a1,a2,a3),p:=by
 have n0:((!!decide (a2 <a1))=true→(0:Int)≤a2∧a2 <(↑a3.length:Int)):=N0 hp
 have n1:((!!decide (a2 <a1))=true→a2.toNat <a3.length):=by intro h0;have g:=n0 h0;omega
 have n2:=N0 (N1 hp)
 have n4:=N0 (N1 (N1 hp))
 exact(Aa n0 (Aa n1 (Aa n2 (Aa n1 (Aa n4 Ad)))))
noncomputable def O7:=GH (Au Bhy L0) (Ae Try.prog 94 0) RH Ak3 Lu D4 C6 C5 E5 N8
theorem Abp:∀s b ps outs,O7 s=some (b,ps,outs)→Wf s ⟨ps,outs,none⟩∧Be (Au C0 L0) b s ps outs:=
 A6 (T:=JU) Aze Av (u:=9) (by kernel_rfl) (by decide) (fun⟨a0,a1,a2,a3⟩=>Af4 a0 a1 a2 a3) (fun⟨a0,a1,a2,a3⟩=>Af5 a0 a1 a2 a3) YG (fun _=>AI (n:=42) rfl) fun _ _=>rfl
noncomputable def RG:=CY 0 O7 L0
theorem Abn:Gf RG:=AP Abp Av
def DP (a0:List TGroup) (a1:List TRow) (a2:List TRow):Bool:=mgE a0 a1 a2 !=(0:Int)||(↑(Iz a0 a1 a2).length:Int) !=(↑a2.length:Int)
def DO (a0:List TGroup) (a1:List TRow) (a2:List TRow):Bg:=Abq (a2,(↑(Iz a0 a1 a2).length:Int),(0:Int),Iz a0 a1 a2)
def Qe (a0:List TGroup) (a1:List TRow) (a2:List TRow):Bool:=bif(DP a0 a1 a2) then false else bif BZ (DO a0 a1 a2).fst (DO a0 a1 a2).snd.fst (DO a0 a1 a2).snd.snd.fst (DO a0 a1 a2).snd.snd.snd then false else true
def Qf (a0:List TGroup) (a1:List TRow) (a2:List TRow):A:=.v (.bool (Qe a0 a1 a2))
def YH (_a0:List TGroup) (_a1:List TRow) (_a2:List TRow):Objs:=[]
def Wq (a0:List TGroup) (a1:List TRow) (a2:List TRow):List Prop:=[(a1.length+a2.length≤(400000:Nat)),((!(DP a0 a1 a2))=true→AB C6 C5 E5 (D4 (a2,(↑(Iz a0 a1 a2).length:Int),(0:Int),Iz a0 a1 a2)) (a2,(↑(Iz a0 a1 a2).length:Int),(0:Int),Iz a0 a1 a2))]
theorem Awl (a0:List TGroup) (a1:List TRow) (a2:List TRow):Eo (Au Bhy RG) 9 94 [.sl .group a0,Af .rows a1,Af .rows a2] 0 []=some (1,Qf a0 a1 a2,0,YH a0 a1 a2,[(a1.length+a2.length≤(400000:Nat)),((!(DP a0 a1 a2))=true→Ae Try.prog (94:FuncId) (0:Nat)=Ae Try.prog (94:FuncId) (0:Nat)),((!(DP a0 a1 a2))=true→AB C6 C5 E5 (D4 (a2,(↑(Iz a0 a1 a2).length:Int),(0:Int),Iz a0 a1 a2)) (a2,(↑(Iz a0 a1 a2).length:Int),(0:Int),Iz a0 a1 a2))]):=by kernel_rfl
theorem A12 (a0:List TGroup) (a1:List TRow) (a2:List TRow) (hp:∀p∈Wq a0 a1 a2,p):CallOk Try.prog 94 [.sl .group a0,Af .rows a1,Af .rows a2] 0 [] 1 (Qf a0 a1 a2) 0 (YH a0 a1 a2):=by
 have n0:=N0 hp
 have n1:((!(DP a0 a1 a2))=true→Ae Try.prog (94:FuncId) (0:Nat)=Ae Try.prog (94:FuncId) (0:Nat)):=by intros;rfl
 have n2:=N0 (N1 hp)
 exact Ax (Ap Aze Abn) (Awl a0 a1 a2) (Aa n0 (Aa n1 (Aa n2 Ad)))
noncomputable def Cms:=Bhy
theorem Bx2:CD Try.prog Cms:=Aze
end Go.Proofs.Yteebobbhhgmeiaa
namespace Go.Proofs.Yteebobbhhgmeiaa
open Go.RowKit
def Bvs (l:List TGroup) (r:TRow):TView:=⟨Anm l r,Anl l r⟩
def chS (l:List TGroup) (q:ByteArray→Bool) (n:Int) (o:List TView) (r:TRow):List TView:=bif decide ((o.length:Int)≥n) then o else bif K8 l r&&q r.key then o++[Bvs l r] else o
def chI (l:List TGroup) (q:ByteArray→Bool) (n:Int) (rows:List TRow) (i:Nat):List TView:=(rows.take i).foldl (chS l q n) []
def chL (l:List TGroup) (q:ByteArray→Bool) (n:Int) (rows:List TRow):List TView:=rows.foldl (chS l q n) []
section
variable {l:List TGroup} {q:ByteArray→Bool} {n:Int}
theorem Byq (rows:List TRow) (i:Nat) (h:i <rows.length):chI l q n rows (i+1)=chS l q n (chI l q n rows i) (BA rows i):=by
 unfold chI
 rw[Aah rows (Ab TC.row) i h,List.foldl_append]
 rfl
theorem B27 (rows:List TRow):chI l q n rows rows.length=chL l q n rows:=by
 unfold chI chL
 rw[List.take_length]
theorem Az3 {o:List TView} (h:(o.length:Int)≥n):∀rows:List TRow,rows.foldl (chS l q n) o=o
 | []=>rfl
 | x::a=>by
  have e:chS l q n o x=o:=by
   unfold chS
   rw[decide_eq_true h]
   rfl
  rw[List.foldl_cons,e,Az3 h a]
theorem Byp (rows:List TRow) {i:Nat} (h:((chI l q n rows i).length:Int)≥n):chL l q n rows=chI l q n rows i:=by
 have e:chL l q n rows=(rows.drop i).foldl (chS l q n) (chI l q n rows i):=by
  unfold chL chI
  rw[←List.foldl_append,List.take_append_drop]
 rw[e,Az3 h]
theorem Biz {o:List TView}:∀rows:List TRow,(∀y∈rows,q y.key=false)→rows.foldl (chS l q n) o=o
 | [],_=>rfl
 | x::a,h=>by
  have e:chS l q n o x=o:=by
   unfold chS
   rw[h x (List.mem_cons_self ..),Bool.and_false,cond_false]
   cases decide ((o.length:Int)≥n)<;>rfl
  rw[List.foldl_cons,e,Biz a fun y hy=>h y (List.mem_cons_of_mem _ hy)]
end
def Bzi (l:List TGroup) (rows:List TRow) (key:ByteArray):Bool:=match Q8 rows key with
 |some r=>K8 l r
 |none=>false
def Bzj (l:List TGroup) (rows:List TRow) (key:ByteArray):TView:=match Q8 rows key with
 |some r=>Bvs l r
 |none=>⟨⟨#[]⟩,[]⟩
theorem B4o {l:List TGroup} {r:TRow} (h:K8 l r=false):Bvs l r=⟨⟨#[]⟩,[]⟩:=by
 unfold Bvs Anm Anl
 rw[h]
 rfl
theorem B3p {l:List TGroup} {rows:List TRow} {key:ByteArray} (h:Bzi l rows key=false):Bzj l rows key=⟨⟨#[]⟩,[]⟩:=by
 unfold Bzi at h
 unfold Bzj
 cases ha:Q8 rows key with
 |none=>rfl
 |some r=>rw[ha] at h;exact B4o h
theorem Bsx {l:List TGroup} {key:ByteArray}:∀{rows:List TRow},JI rows→chL l (fun k=>k==key) 1 rows=bif Bzi l rows key then[Bzj l rows key] else[]
 | [],_=>rfl
 | x::a,h=>by
  have h1:=List.pairwise_cons.1 h
  have e:chL l (fun k=>k==key) 1 (x::a)=a.foldl (chS l (fun k=>k==key) 1) (bif K8 l x&&x.key==key then[Bvs l x] else[]):=rfl
  rw[e]
  unfold Bzi Bzj
  rw[BH]
  by_cases hk:x.key=key
  ·rw[if_pos hk]
   have hk2:(x.key==key)=true:=by simpa using hk
   rw[hk2,Bool.and_true]
   show _=bif K8 l x then[Bvs l x] else[]
   cases hv:K8 l x with
   |true=>rw[cond_true,Az3 (show((1:Nat):Int)≥1 from Int.le_refl _)]
   |false=>
    rw[cond_false,Biz a fun y hy=>?_]
    have:=P7 (h1.1 y hy)
    rw[hk] at this
    simpa using Ne.symm this
  ·rw[if_neg hk]
   have hk2:(x.key==key)=false:=by simpa using hk
   rw[hk2,Bool.and_false,cond_false]
   exact Bsx h1.2
def Bgg (l:List TGroup) (rows:List TRow) (key:ByteArray):Bool:=Bq l rows==0&&Bzi l rows key
def Bvy (l:List TGroup) (rows:List TRow) (key:ByteArray):TView:=bif Bq l rows==0 then Bzj l rows key else⟨⟨#[]⟩,[]⟩
end Go.Proofs.Yteebobbhhgmeiaa
namespace Go.Proofs.Yteebobbhhgmeiaa
open Go.RowKit
theorem Buj {P:Program} {f:FuncId} {args:List A} {k:Nat} {e:TypeId} {c:TC} {els:Els} {l:List (U c)} {ps:List Prop} (h:CallOk P f args 0 [] k (.sq 0) 1 [(0,some (.arr e (size c) els))]) (hty:Wa c els=some (l,ps)) (hp:∀p∈ps,p):CallOk P f args 0 [] k (.sq 0) 1 [(0,some (.arr e (size c) (.ty c l)))]:=fun F N R vs hh ha=>
 Calls.mono (P:=P) (h F N R vs hh ha) fun e0 R' ⟨y,F',N',e1,e2,e3,e4,e5⟩=>by
  have low:∀{i ob},As i [(0,some (Ob.arr e (size c) (.ty c l)))]=some ob→i=0∧ob=.arr e (size c) (.ty c l):=fun {i ob} hi=>by
   have hi':(bif Nat.beq 0 i then some (Ob.arr e (size c) (.ty c l)) else none)=some ob:=hi
   cases hb:Nat.beq 0 i with
   |true=>rw[hb] at hi';cases hi';exact⟨(Nat.eq_of_beq_eq_true hb).symm,rfl⟩
   |false=>rw[hb] at hi';cases hi'
  obtain⟨hi,zs,g1,g2⟩:=e2.ob 0 _ rfl
  have hr:RowHL F' N' 1 R' (.ty c l) (size c) zs:=(show RowHL F' N' 1 R' els (size c) zs from⟨g1.1,g2⟩).ty hty hp
  have hn:l.length=els.n:=(LZ (F:=F') (N:=N') (nx:=1) (R:=R') hty hp).1
  refine⟨y,F',N',e1,⟨e2.flt,fun i ob hl=>?_,fun i ob g hl hg=>?_,fun i j x y g hx hy _ _=>?_⟩,⟨e3.le,e3.b,e3.q,e3.f,e3.fnew,fun g ⟨i,ob,hl,hg⟩=>?_,e3.os,e3.tape,e3.output,e3.size,e3.keep⟩,e4,e5⟩
  ·obtain⟨rfl,rfl⟩:=low hl
   exact⟨hi,zs,by show OwnR _ _ _ _ l.length _;rw[hn];exact g1,hr.2⟩
  ·obtain⟨rfl,rfl⟩:=low hl
   exact e2.ff 0 _ g rfl hg
  ·rw[(low hx).1,(low hy).1]
  ·obtain⟨rfl,rfl⟩:=low hl
   exact e3.foot g ⟨0,_,rfl,hg⟩
end Go.Proofs.Yteebobbhhgmeiaa
namespace Go.Proofs.Yteebobbhhgmeiaa
open Go.RowKit
noncomputable def Bhz:=AU 147 (inl (Au Cms L0) 20 147) Cms
theorem Azf:CD Try.prog Bhz:=Ak (Afo (Ap Bx2 Av) 20 147) Bx2
abbrev EX:Type:=(List TGroup)×(List TRow)×Int×Int×ByteArray×(List TView)
def Rj (x:EX):St:=⟨46,4,[(0,.sl .group x.1),(2,.v (.int .i64 ((1:Int)))),(3,.fn 147 [] [.own 0 0]),(8,.sq 3),(17,.sl .row x.2.1),(18,.v (.int .i64 x.2.2.1)),(19,.v (.int .i64 x.2.2.2.1))],[(0,some (.box 9 [.v (.string x.2.2.2.2.1)])),(3,some (.arr 94 2 (.ty .view x.2.2.2.2.2)))]⟩
def U0:St→Option EX
 |⟨46,4,[(0,.sl .group z0),(2,.v (.int .i64 ((1:Int)))),(3,.fn 147 [] [.own 0 0]),(8,.sq 3),(17,.sl .row z1),(18,.v (.int .i64 z2)),(19,.v (.int .i64 z3))],[(0,some (.box 9 [.v (.string z4)])),(3,some (.arr 94 2 (.ty .view z5)))]⟩=>some (z0,z1,z2,z3,z4,z5)
 |_=>none
theorem Az4:∀s x,U0 s=some x→s=Rj x:=fun s x h=>by
 unfold U0 at h
 split at h
 ·cases h;rfl
 ·cases h
def Ar4:Co:=⟨3,4,[0,2,3,8,17,18,19],[],[(0,0),(9,3)],[0,9],[8],[3,0]⟩
def Bi0:CR:=⟨[.nil 8 94 .view],[(0,0),(2,3)],[0,2,3,8,17,18,19],[0,2]⟩
def J1 (a0:List TGroup) (a1:List TRow) (_a2:Int) (a3:Int) (a4:ByteArray) (_a5:List TView):Bool:=bif K8 a0 (a1.getD a3.toNat (Ab TC.row)) then(a1.getD a3.toNat (Ab TC.row)).1.toList==a4.toList else false
def XC (_a0:List TGroup) (_a1:List TRow) (a2:Int) (a3:Int) (_a4:ByteArray) (a5:List TView):Bool:=!decide (a3 <a2)||decide ((↑a5.length:Int)≥(1:Int))
def Sj (a0:List TGroup) (a1:List TRow) (a2:Int) (a3:Int) (a4:ByteArray) (a5:List TView):ByteArray:=bif(J1 a0 a1 a2 a3 a4 a5) then a4 else a4
def Sk (a0:List TGroup) (a1:List TRow) (a2:Int) (a3:Int) (a4:ByteArray) (a5:List TView):List TView:=bif(J1 a0 a1 a2 a3 a4 a5) then a5++[TView.mk (Anm a0 (a1.getD a3.toNat (Ab TC.row))) (Anl a0 (a1.getD a3.toNat (Ab TC.row)))] else a5
def Hn (x:EX):EX:=(x.1,x.2.1,x.2.2.1,IntKind.i64.wrap (x.2.2.2.1+(1:Int)),Sj x.1 x.2.1 x.2.2.1 x.2.2.2.1 x.2.2.2.2.1 x.2.2.2.2.2,Sk x.1 x.2.1 x.2.2.1 x.2.2.2.1 x.2.2.2.2.1 x.2.2.2.2.2)
def Hm (x:EX):Cnd:=some (!(XC x.1 x.2.1 x.2.2.1 x.2.2.2.1 x.2.2.2.2.1 x.2.2.2.2.2))
def Ab8 (x:EX):List Prop:=[((!!decide (x.2.2.2.1 <x.2.2.1))=true→(0:Int)≤x.2.2.2.1∧x.2.2.2.1 <(↑x.2.1.length:Int)),((!!decide (x.2.2.2.1 <x.2.2.1))=true→(!decide ((↑x.2.2.2.2.2.length:Int)≥(1:Int)))=true→false=false),((!!decide (x.2.2.2.1 <x.2.2.1))=true→(!decide ((↑x.2.2.2.2.2.length:Int)≥(1:Int)))=true→(J1 x.1 x.2.1 x.2.2.1 x.2.2.2.1 x.2.2.2.2.1 x.2.2.2.2.2)=true→Ag (x.2.2.2.2.2.length+(1:Nat)))]
def Kv (x:EX):List Prop:=[((!!decide (x.2.2.2.1 <x.2.2.1))=true→(0:Int)≤x.2.2.2.1∧x.2.2.2.1 <(↑x.2.1.length:Int)),((!!decide (x.2.2.2.1 <x.2.2.1))=true→(!decide ((↑x.2.2.2.2.2.length:Int)≥(1:Int)))=true→(J1 x.1 x.2.1 x.2.2.1 x.2.2.2.1 x.2.2.2.2.1 x.2.2.2.2.2)=true→Ag (x.2.2.2.2.2.length+(1:Nat)))]
def XD (x:EX):Bd:=[(some 0,some ((XC x.1 x.2.1 x.2.2.1 x.2.2.2.1 x.2.2.2.2.1 x.2.2.2.2.2)),⟨46,5,[(8,.sq 3)],[(3,some (.arr 94 2 (.ty .view x.2.2.2.2.2))),(0,some (.box 9 [.v (.string x.2.2.2.2.1)]))]⟩)]
def Iw (x:EX):Nat:=(x.2.2.1 - x.2.2.2.1).toNat
def DJ (x:EX):EX:=A5 Hn Hm (Iw x) x
theorem Bcr (a0:List TGroup) (a1:List TRow) (a2:Int) (a3:Int) (a4:ByteArray) (a5:List TView):Bk (Au Bhz L0) 9 (Ae Try.prog 146 0) Ar4 (Rj (a0,a1,a2,a3,a4,a5))=some (Ab8 (a0,a1,a2,a3,a4,a5),XD (a0,a1,a2,a3,a4,a5),Hm (a0,a1,a2,a3,a4,a5),Rj (Hn (a0,a1,a2,a3,a4,a5))):=by kernel_rfl
theorem Bcs (a0:List TGroup) (a1:List TRow) (a2:Int) (a3:Int) (a4:ByteArray) (a5:List TView) (hp:∀p∈Kv (a0,a1,a2,a3,a4,a5),p):∀p∈Ab8 (a0,a1,a2,a3,a4,a5),p:=by
 have n0:=N0 hp
 have n1:((!!decide (a3 <a2))=true→(!decide ((↑a5.length:Int)≥(1:Int)))=true→false=false):=by intros;rfl
 have n2:=N0 (N1 hp)
 exact(Aa n0 (Aa n1 (Aa n2 Ad)))
noncomputable def Ab9:=GH (Au Bhz L0) (Ae Try.prog 146 0) Ar4 Bi0 U0 Iw Hn Hm Kv XD
theorem A62:∀s b ps outs,Ab9 s=some (b,ps,outs)→Wf s ⟨ps,outs,none⟩∧Be (Au C0 L0) b s ps outs:=
 A6 (T:=Rj) Azf Av (u:=9) (by kernel_rfl) (by decide) (fun⟨a0,a1,a2,a3,a4,a5⟩=>Bcr a0 a1 a2 a3 a4 a5) (fun⟨a0,a1,a2,a3,a4,a5⟩=>Bcs a0 a1 a2 a3 a4 a5) Az4 (fun _=>AI (n:=46) rfl) fun _ _=>rfl
noncomputable def Ar3:=CY 0 Ab9 L0
theorem A61:Gf Ar3:=AP A62 Av
noncomputable def Bx3:=AU 146 (inl (Au Bhz Ar3) 20 146) Bhz
theorem Bh0:CD Try.prog Bx3:=Ak (Afo (Ap Azf A61) 20 146) Azf
def CV (a0:List TGroup) (a1:List TRow) (_a2:ByteArray):Bool:=Bq a0 a1 !=(0:Int)
def FD (a0:List TGroup) (a1:List TRow) (a2:ByteArray):Bool:=(↑(bif(CV a0 a1 a2) then[] else(DJ (a0,a1,(↑a1.length:Int),(0:Int),a2,[])).snd.snd.snd.snd.snd).length:Int)==(0:Int)
def RE (a0:List TGroup) (a1:List TRow) (a2:ByteArray):TView:=TView.mk (bif(FD a0 a1 a2) then ByteArray.mk #[] else((bif(CV a0 a1 a2) then[] else(DJ (a0,a1,(↑a1.length:Int),(0:Int),a2,[])).snd.snd.snd.snd.snd).getD (0:Nat) (Ab TC.view)).1) (bif(FD a0 a1 a2) then[] else((bif(CV a0 a1 a2) then[] else(DJ (a0,a1,(↑a1.length:Int),(0:Int),a2,[])).snd.snd.snd.snd.snd).getD (0:Nat) (Ab TC.view)).2)
def Yy (a0:List TGroup) (a1:List TRow) (a2:ByteArray):Bool:=bif(FD a0 a1 a2) then false else true
def Yz (a0:List TGroup) (a1:List TRow) (a2:ByteArray):A:=.tup [.agg [.v (.string ((RE a0 a1 a2).key)),.sl .field ((RE a0 a1 a2).fields)],.v (.bool (Yy a0 a1 a2))]
def Asy (_a0:List TGroup) (_a1:List TRow) (_a2:ByteArray):Objs:=[]
def Bee (a0:List TGroup) (a1:List TRow) (a2:ByteArray):List Prop:=[(Am a1.length),((!(CV a0 a1 a2))=true→AB Hn Hm Kv (Iw (a0,a1,(↑a1.length:Int),(0:Int),a2,[])) (a0,a1,(↑a1.length:Int),(0:Int),a2,[])),((!(FD a0 a1 a2))=true→(0:Int)≤(0:Int)∧(0:Int) <(↑(bif(CV a0 a1 a2) then[] else(DJ (a0,a1,(↑a1.length:Int),(0:Int),a2,[])).snd.snd.snd.snd.snd).length:Int))]
theorem Bed (a0:List TGroup) (a1:List TRow) (a2:ByteArray):Eo (Au Bx3 L0) 9 85 [.sl .group a0,Af .rows a1,Af .str a2] 0 []=some (1,Yz a0 a1 a2,0,Asy a0 a1 a2,[(Am a1.length),((!(CV a0 a1 a2))=true→Ae Try.prog (146:FuncId) (0:Nat)=Ae Try.prog (146:FuncId) (0:Nat)),((!(CV a0 a1 a2))=true→AB Hn Hm Kv (Iw (a0,a1,(↑a1.length:Int),(0:Int),a2,[])) (a0,a1,(↑a1.length:Int),(0:Int),a2,[])),((!(FD a0 a1 a2))=true→(0:Int)≤(0:Int)∧(0:Int) <(↑(bif(CV a0 a1 a2) then[] else(DJ (a0,a1,(↑a1.length:Int),(0:Int),a2,[])).snd.snd.snd.snd.snd).length:Int)),((!(FD a0 a1 a2))=true→(0:Nat) <(bif(CV a0 a1 a2) then[] else(DJ (a0,a1,(↑a1.length:Int),(0:Int),a2,[])).snd.snd.snd.snd.snd).length)]):=by kernel_rfl
theorem Bkp (a0:List TGroup) (a1:List TRow) (a2:ByteArray) (hp:∀p∈Bee a0 a1 a2,p):CallOk Try.prog 85 [.sl .group a0,Af .rows a1,Af .str a2] 0 [] 1 (Yz a0 a1 a2) 0 (Asy a0 a1 a2):=by
 have n0:=N0 hp
 have n1:((!(CV a0 a1 a2))=true→Ae Try.prog (146:FuncId) (0:Nat)=Ae Try.prog (146:FuncId) (0:Nat)):=by intros;rfl
 have n2:=N0 (N1 hp)
 have n3:((!(FD a0 a1 a2))=true→(0:Int)≤(0:Int)∧(0:Int) <(↑(bif(CV a0 a1 a2) then[] else(DJ (a0,a1,(↑a1.length:Int),(0:Int),a2,[])).snd.snd.snd.snd.snd).length:Int)):=N0 (N1 (N1 hp))
 have n4:((!(FD a0 a1 a2))=true→(0:Nat) <(bif(CV a0 a1 a2) then[] else(DJ (a0,a1,(↑a1.length:Int),(0:Int),a2,[])).snd.snd.snd.snd.snd).length):=by intro h0;have g:=n3 h0;omega
 exact Ax (Ap Bh0 Av) (Bed a0 a1 a2) (Aa n0 (Aa n1 (Aa n2 (Aa n3 (Aa n4 Ad)))))
def Akt (a0:List TGroup) (a1:List TRow) (a2:ByteArray):A:=.tup [.agg [.v (.string (Bvy a0 a1 a2).key),.sl .field (Bvy a0 a1 a2).fields],.v (.bool (Bgg a0 a1 a2))]
def Aks (_a0:List TGroup) (_a1:List TRow) (_a2:ByteArray):Objs:=[]
def Acs (_a0:List TGroup) (a1:List TRow) (_a2:ByteArray):List Prop:=[Am a1.length]
theorem Byr (l:List TGroup) (rows:List TRow) (key:ByteArray) (hb:Am rows.length):
  AB Hn Hm Kv (Iw (l,rows,(rows.length:Int),0,key,[])) (l,rows,(rows.length:Int),0,key,[])∧(DJ (l,rows,(rows.length:Int),0,key,[])).snd.snd.snd.snd.snd=chL l (fun k=>k==key) 1 rows:=by
 unfold Am at hb
 have same:∀(c:Bool) (x:ByteArray),(bif c then x else x)=x:=fun c x=>by cases c<;>rfl
 obtain⟨h1,k,hk,hx,_,hst,_⟩:=Io (fun i=>(l,rows,(rows.length:Int),(i:Int),key,chI l (fun k=>k==key) 1 rows i):Nat→EX) rows.length (fun i=>decide (((chI l (fun k=>k==key) 1 rows i).length:Int)≥1)) Hn Hm Kv (Iw (l,rows,(rows.length:Int),0,key,[])) (l,rows,(rows.length:Int),0,key,[]) rfl (by show rows.length≤((rows.length:Int) - 0).toNat;omega)
  (fun i _ _=>by
   show(!(!decide ((i:Int) <(rows.length:Int))||decide (((chI l (fun k=>k==key) 1 rows i).length:Int)≥1)))=_
   rw[Bool.not_or,nn,LY])
  (fun i hi h0=>by
   show(l,rows,(rows.length:Int),IntKind.i64.wrap ((i:Int)+1),Sj l rows (rows.length:Int) (i:Int) key (chI l (fun k=>k==key) 1 rows i),Sk l rows (rows.length:Int) (i:Int) key (chI l (fun k=>k==key) 1 rows i))=(l,rows,(rows.length:Int),((i+1:Nat):Int),key,chI l (fun k=>k==key) 1 rows (i+1))
   unfold Sj Sk
   rw[same,DU (by omega),Byq rows i hi]
   unfold J1 chS
   rw[h0 i (Nat.lt_succ_self i),tlb,Int.toNat_natCast,cond_false]
   show(_,_,_,_,_,bif(bif K8 l (BA rows i) then(BA rows i).key==key else false) then _ else _)=_
   cases K8 l (BA rows i)<;>rfl)
  (fun i hi _=>by
   have hin:(!!decide ((i:Int) <(rows.length:Int)))=true→(i:Int) <(rows.length:Int):=fun h=>by rw[nn] at h;exact of_decide_eq_true h
   refine Aa (fun h=>⟨by show(0:Int)≤(i:Int);omega,hin h⟩) (Aa (fun _ h _=>?_) Ad)
   have h':(!decide (((chI l (fun k=>k==key) 1 rows i).length:Int)≥1))=true:=h
   have h2:¬((chI l (fun k=>k==key) 1 rows i).length:Int)≥1:=by simpa using h'
   show Ag ((chI l (fun k=>k==key) 1 rows i).length+1)
   unfold Ag
   omega)
 have hr:DJ (l,rows,(rows.length:Int),0,key,[])=(l,rows,(rows.length:Int),(k:Int),key,chI l (fun k=>k==key) 1 rows k):=hx
 refine⟨h1,?_⟩
 rw[hr]
 show chI l (fun k=>k==key) 1 rows k=_
 rcases Nat.lt_or_ge k rows.length with h|h
 ·exact(Byp rows (of_decide_eq_true (hst h))).symm
 ·rw[show k=rows.length by omega,B27]
theorem Bec (a0:List TGroup) (a1:List TRow) (a2:ByteArray) (hp:∀p∈Acs a0 a1 a2,p):CallOk Try.prog 85 [.sl .group a0,Af .rows a1,Af .str a2] 0 [] 1 (Akt a0 a1 a2) 0 (Aks a0 a1 a2):=by
 have hb:Am a1.length:=hp _ (List.mem_cons_self ..)
 obtain⟨g1,g2⟩:=Byr a0 a1 a2 hb
 have hL:(bif CV a0 a1 a2 then[] else(DJ (a0,a1,(a1.length:Int),(0:Int),a2,[])).snd.snd.snd.snd.snd)=bif Bgg a0 a1 a2 then[Bvy a0 a1 a2] else[]:=by
  rw[g2]
  unfold CV Bgg Bvy
  cases hg:Bq a0 a1 !=0 with
  |true=>
   have:(Bq a0 a1==0)=false:=by simpa using hg
   rw[this]
   rfl
  |false=>
   have h0:Bq a0 a1=0:=by simpa using hg
   have:(Bq a0 a1==0)=true:=by simpa using h0
   rw[this,cond_false,Bsx (JA h0).2.rise]
   rfl
 have hk:FD a0 a1 a2=!Bgg a0 a1 a2:=by
  unfold FD
  rw[hL]
  cases Bgg a0 a1 a2<;>rfl
 have h:=Bkp a0 a1 a2 (Aa hb (Aa (fun _=>g1) (Aa (fun h=>by
  rw[hk,Bool.not_not] at h
  rw[hL,h]
  exact⟨Int.le_refl _,show(0:Int) <((1:Nat):Int) by decide⟩) Ad)))
 have e0:RE a0 a1 a2=Bvy a0 a1 a2:=by
  unfold RE
  rw[hk,hL]
  cases hs:Bgg a0 a1 a2 with
  |true=>rfl
  | false=>
   unfold Bgg at hs
   unfold Bvy
   cases hg:Bq a0 a1==0 with
   |false=>rfl
   |true=>
    rw[hg,Bool.true_and] at hs
    rw[cond_true,B3p hs]
    rfl
 have e1:Yy a0 a1 a2=Bgg a0 a1 a2:=by
  unfold Yy
  rw[hk]
  cases Bgg a0 a1 a2<;>rfl
 unfold Yz at h
 rw[e0,e1] at h
 exact h
def Asz:List A→Nat→Objs→Option AV:=A7 [.l .group,.t .rows,.t .str] 0 Akt Aks Acs
theorem A7n:ET Try.prog 85 Asz:=Aq (ks:=[.l .group,.t .rows,.t .str]) Bec
noncomputable def Bx4:=AU 85 Asz Bx3
theorem Bh1:CD Try.prog Bx4:=Ak A7n Bh0
def Bdw:ByteArray:=ByteArray.mk #[(97:UInt8)]
def Bdx:ByteArray:=ByteArray.mk #[(98:UInt8)]
def Akm:A:=.sq 0
def Akl:Objs:=[(0,some (.arr 79 2 (.lst [[.v (.string Bdw),.v (.int .i64 ((1:Int)))],[.v (.string Bdx),.v (.int .i64 ((2:Int)))]])))]
def Aco:List Prop:=[]
theorem A7i:Eo (Au Bx4 L0) 9 141 [] 0 []=some (1,Akm,1,Akl,Aco):=by kernel_rfl
theorem Bdy (hp:∀p∈Aco,p):CallOk Try.prog 141 [] 0 [] 1 (Akm) 1 (Akl):=Ax (Ap Bh1 Av) (A7i) hp
def Bt1:List TGroup:=[⟨⟨#[97]⟩,1⟩,⟨⟨#[98]⟩,2⟩]
def Acp:A:=.sl .group Bt1
def Acn:Objs:=[]
def Yo:List Prop:=[]
theorem A7h (_hp:∀p∈Yo,p):CallOk Try.prog 141 [] 0 [] 1 Acp 0 Acn:=by
 have h:=Bdy (fun p h=>by cases h)
 exact A9z (c:=.group) (Buj (c:=.group) (l:=Bt1) (ps:=[]) h rfl (fun p h=>by cases h))
def Akn:List A→Nat→Objs→Option AV:=A7 [] 0 Acp Acn Yo
theorem A1g:ET Try.prog 141 Akn:=Aq (ks:=[]) A7h
noncomputable def Bx5:=AU 141 Akn Bx4
theorem Bh2:CD Try.prog Bx5:=Ak A1g Bh1
def Ao1 (a0:Int) (a1:Int) (a2:Int) (a3:TVec) (_a4:TWrite):A:=.agg [.v (.int .i64 a0),.v (.int .i64 a1),.v (.int .i64 a2),.v (.int .i64 a0),.v (.int .i64 a3.1),.v (.int .i64 a3.2),.sq 0]
def Ao0 (_a0:Int) (_a1:Int) (_a2:Int) (_a3:TVec) (a4:TWrite):Objs:=[(0,some (.arr 139 4 (.lst [[.v (.string a4.1),.v (.int .i64 a4.2),.v (.bool a4.3),.v (.string a4.4)]])))]
def Afs (_a0:Int) (_a1:Int) (_a2:Int) (_a3:TVec) (_a4:TWrite):List Prop:=[]
theorem Bou (a0:Int) (a1:Int) (a2:Int) (a3:TVec) (a4:TWrite):Eo (Au Bx5 L0) 9 140 [Af .i64 a0,Af .i64 a1,Af .i64 a2,Af .vec a3,Af .write a4] 0 []=some (1,Ao1 a0 a1 a2 a3 a4,1,Ao0 a0 a1 a2 a3 a4,Afs a0 a1 a2 a3 a4):=by kernel_rfl
theorem Bu3 (a0:Int) (a1:Int) (a2:Int) (a3:TVec) (a4:TWrite) (hp:∀p∈Afs a0 a1 a2 a3 a4,p):CallOk Try.prog 140 [Af .i64 a0,Af .i64 a1,Af .i64 a2,Af .vec a3,Af .write a4] 0 [] 1 (Ao1 a0 a1 a2 a3 a4) 1 (Ao0 a0 a1 a2 a3 a4):=Ax (Ap Bh2 Av) (Bou a0 a1 a2 a3 a4) hp
def Bah:List A→Nat→Objs→Option AV:=A7 [.t .i64,.t .i64,.t .i64,.t .vec,.t .write] 1 Ao1 Ao0 Afs
theorem Bj8:ET Try.prog 140 Bah:=Aq (ks:=[.t .i64,.t .i64,.t .i64,.t .vec,.t .write]) Bu3
noncomputable def Bx6:=AU 140 Bah Bx5
theorem Bh3:CD Try.prog Bx6:=Ak Bj8 Bh2
def l13_lives_k0:List TChange:=[TChange.mk (1:Int) (1:Int) (TStamp.mk (1:Int) (1:Int)) (TVec.mk (1:Int) (0:Int)) [TWrite.mk (ByteArray.mk #[(107:UInt8)]) (0:Int) false (ByteArray.mk #[(120:UInt8)])],TChange.mk (2:Int) (1:Int) (TStamp.mk (1:Int) (2:Int)) (TVec.mk (0:Int) (1:Int)) [TWrite.mk (ByteArray.mk #[(107:UInt8)]) (0:Int) true (ByteArray.mk #[])]]
def Asm:A:=.v (.bool (true))
def Asl:Objs:=[]
def Bdu:List Prop:=[((2:Nat)≤(7000:Nat)∧∀(c:TChange),c∈(l13_lives_k0)→Am c.5.length),((3:Nat)≤(7000:Nat)∧∀(c:TChange),c∈TChange.mk (1:Int) (2:Int) (TStamp.mk (2:Int) (1:Int)) (TVec.mk (2:Int) (0:Int)) [TWrite.mk (ByteArray.mk #[(107:UInt8)]) (0:Int) false (ByteArray.mk #[(121:UInt8)])]::(l13_lives_k0)→Am c.5.length),(Am (1:Nat))]
theorem Bdt:Eo (Au Bx6 L0) 9 81 [] 0 []=some (1,Asm,0,Asl,[((2:Nat)≤(7000:Nat)∧∀(c:TChange),c∈(l13_lives_k0)→Am c.5.length),((3:Nat)≤(7000:Nat)∧∀(c:TChange),c∈TChange.mk (1:Int) (2:Int) (TStamp.mk (2:Int) (1:Int)) (TVec.mk (2:Int) (0:Int)) [TWrite.mk (ByteArray.mk #[(107:UInt8)]) (0:Int) false (ByteArray.mk #[(121:UInt8)])]::(l13_lives_k0)→Am c.5.length),(Am (1:Nat)),(Am (1:Nat)),(true=true→(0:Int)≤(0:Int)∧(0:Int) <(1:Int))]):=by kernel_rfl
theorem Bj7 (hp:∀p∈Bdu,p):CallOk Try.prog 81 [] 0 [] 1 (Asm) 0 (Asl):=by
 have n0:=N0 hp
 have n1:=N0 (N1 hp)
 have n2:(Am (1:Nat)):=N0 (N1 (N1 hp))
 have n4:(true=true→(0:Int)≤(0:Int)∧(0:Int) <(1:Int)):=by first|rfl|decide+kernel
 exact Ax (Ap Bh3 Av) (Bdt) (Aa n0 (Aa n1 (Aa n2 (Aa n2 (Aa n4 Ad)))))
def Akj:A:=.v (.bool true)
def Aki:Objs:=[]
def Ack:List Prop:=[]
theorem Bkj:∀c∈l13_lives_k0,Am c.5.length:=fun c hc=>by
 have h:l13_lives_k0.all (fun c=>Nat.beq c.5.length 1)=true:=rfl
 have h2:c.5.length=1:=Nat.eq_of_beq_eq_true (List.all_eq_true.1 h c hc)
 unfold Am
 omega
theorem Bds (_hp:∀p∈Ack,p):CallOk Try.prog 81 [] 0 [] 1 Akj 0 Aki:=
 Bj7 (Aa ⟨by omega,Bkj⟩ (Aa ⟨by omega,fun c hc=>by
  rcases List.mem_cons.1 hc with rfl|hc
  ·show(1:Nat)≤9223372036854775807
   omega
  ·exact Bkj c hc⟩ (Aa (by unfold Am;omega) Ad)))
def Asn:List A→Nat→Objs→Option AV:=A7 [] 0 Akj Aki Ack
theorem A7f:ET Try.prog 81 Asn:=Aq (ks:=[]) Bds
noncomputable def B5w:=AU 81 Asn Bx6
theorem Bx7:CD Try.prog B5w:=Ak A7f Bh3
noncomputable def Cmv:=B5w
theorem B7a:CD Try.prog Cmv:=Bx7
end Go.Proofs.Yteebobbhhgmeiaa
namespace Go.Proofs.Yteebobbhhgmeiaa
open Go.RowKit
noncomputable def B5s:=AU 144 A5f Cmg
theorem Bxv:CD Try.prog B5s:=Ak Bfo Bxt
noncomputable def B5t:=AU 93 VH B5s
theorem Bxw:CD Try.prog B5t:=Ak VI Bxv
noncomputable def Bxx:=AU 49 Ap3 B5t
theorem Bht:CD Try.prog Bxx:=Ak Atq Bxw
def VL (a0:List TGroup) (a1:List TRow) (a2:TRow):List TRow:=bif Cp a2 then a1 else bif gtB a1 a2.1 then Bqs a1 (TRow.mk (jnK a0 (TRow.mk (gtK a1 a2.1) (gtC a1 a2.1)) a2) (jnL a0 (TRow.mk (gtK a1 a2.1) (gtC a1 a2.1)) a2)) else Bqs a1 a2
def Ahz (a0:List TGroup) (a1:List TRow) (a2:TRow):A:=.sl .row (VL a0 a1 a2)
def Ahy (_a0:List TGroup) (_a1:List TRow) (_a2:TRow):Objs:=[]
def Oj (a0:List TGroup) (a1:List TRow) (a2:TRow):List Prop:=[(Ag a2.2.length),((!Cp a2)=true→Am a1.length),((!Cp a2)=true→∀(r:TRow),r∈a1→Ag r.2.length),((!Cp a2)=true→gtB a1 a2.1=true→∀(g:TGroup),g∈a0→Am g.1.size),((!Cp a2)=true→gtB a1 a2.1=true→a1.length≤(400000:Nat)∧Ag (jnL a0 (TRow.mk (gtK a1 a2.1) (gtC a1 a2.1)) a2).length),((!Cp a2)=true→(!gtB a1 a2.1)=true→a1.length≤(400000:Nat)∧Ag a2.2.length)]
theorem Bml (a0:List TGroup) (a1:List TRow) (a2:TRow):Eo (Au Bxx L0) 9 172 [.sl .group a0,Af .rows a1,Af .row a2] 0 []=some (1,Ahz a0 a1 a2,0,Ahy a0 a1 a2,Oj a0 a1 a2):=by kernel_rfl
theorem Bqg (a0:List TGroup) (a1:List TRow) (a2:TRow) (hp:∀p∈Oj a0 a1 a2,p):CallOk Try.prog 172 [.sl .group a0,Af .rows a1,Af .row a2] 0 [] 1 (Ahz a0 a1 a2) 0 (Ahy a0 a1 a2):=Ax (Ap Bht Av) (Bml a0 a1 a2) hp
def A5l:List A→Nat→Objs→Option AV:=A7 [.l .group,.t .rows,.t .row] 0 Ahz Ahy Oj
theorem Bfx:ET Try.prog 172 A5l:=Aq (ks:=[.l .group,.t .rows,.t .row]) Bqg
noncomputable def Bhu:=AU 172 A5l Bxx
theorem Aza:CD Try.prog Bhu:=Ak Bfx Bht
theorem B3s {l:List TGroup} {a b:TRow} (h:jnE l a b=0):(jnL l a b).length≤4:=by
 unfold jnL
 rw[h]
 show(jnN a.cells b.cells b.cells.length).length≤4
 rw[Aax]
 have g:=(A0w.1 h).1
 rw[(AK g).2.1]
 exact(FR (AK g).1).2
theorem B49 {l:List TGroup} {rows:List TRow} {r:TRow} (hs:Stt l rows) (hr:Ah l r=0) (hb:rows.length≤400000) (hw:∀g∈l,Am g.1.size):(∀p∈Oj l rows r,p)∧VL l rows r=LP rows r:=by
 have c4:∀{x:TRow},Ah l x=0→x.cells.length≤4:=fun {x} g=>by
  rw[(AK g).2.1]
  exact(FR (AK g).1).2
 have bb:∀{n:Nat},n≤4→Ag n:=fun h=>by unfold Ag;omega
 have hold:gtB rows r.key=true→∃x,Q8 rows r.key=some x∧x.key=r.key∧Ah l x=0∧TRow.mk (gtK rows r.key) (gtC rows r.key)=x:=fun h=>by
  unfold gtB at h
  cases ha:Q8 rows r.key with
  |none=>rw[ha] at h;cases h
  |some x=>
   refine⟨x,rfl,Ayq ha,(Bid hs ha).1,?_⟩
   unfold gtK gtC
   rw[ha]
 have hjn:∀{x:TRow},x.key=r.key→Ah l x=0→jnE l x r=0:=fun hk hg=>A0w.2 ⟨hg,hr,hk⟩
 refine⟨Aa (bb (c4 hr)) (Aa (fun _=>by unfold Am;omega) (Aa (fun _ x hx=>bb (c4 (hs.good x hx).1)) (Aa (fun _ _=>hw) (Aa (fun _ h=>⟨hb,?_⟩) (Aa (fun _ _=>⟨hb,bb (c4 hr)⟩) Ad))))),?_⟩
 ·obtain⟨x,_,h2,h3,h4⟩:=hold h
  show Ag (jnL l (TRow.mk (gtK rows r.key) (gtC rows r.key)) r).length
  rw[h4]
  exact bb (B3s (hjn h2 h3))
 ·unfold VL LP
  cases hbr:Cp r with
  |true=>rfl
  | false=>
   rw[cond_false,cond_false]
   show(bif gtB rows r.key then Bqs rows (TRow.mk (jnK l (TRow.mk (gtK rows r.key) (gtC rows r.key)) r) (jnL l (TRow.mk (gtK rows r.key) (gtC rows r.key)) r)) else Bqs rows r)=_
   cases hg:gtB rows r.key with
   | true=>
    obtain⟨x,h1,h2,h3,h4⟩:=hold hg
    have hj:=hjn h2 h3
    have ej:TRow.mk (jnK l x r) (jnL l x r)=jnR x r:=by
     unfold jnK jnL
     rw[hj]
     rfl
    rw[cond_true,h4,h1,ej]
    exact B07 hs.rise
   | false=>
    have:Q8 rows r.key=none:=by
     unfold gtB at hg
     cases ha:Q8 rows r.key with
     |none=>rfl
     |some x=>rw[ha] at hg;cases hg
    rw[cond_false,this]
    exact B07 hs.rise
theorem Bwn {l:List TGroup} {rows:List TRow} {r:TRow} (hs:Stt l rows) (hr:Ah l r=0):Stt l (LP rows r):=by
 refine⟨Ail hs.rise r,fun x hx=>?_⟩
 unfold LP at hx
 cases hb:Cp r with
 |true=>rw[hb] at hx;exact hs.good x hx
 | false=>
  rw[hb,cond_false] at hx
  rcases A6b hx with rfl|hx
  ·cases ha:Q8 rows r.key with
   |none=>exact⟨hr,hb⟩
   |some y=>
    obtain⟨g1,g2⟩:=Bid hs ha
    exact⟨Bjz g1 hr,Bjy g1 hr g2⟩
  ·exact hs.good x hx
theorem Asd {l:List TGroup}:∀(b:List TRow) {a:List TRow},Stt l a→(∀r∈b,Ah l r=0)→Stt l (CF a b)
 | [],_,h,_=>h
 |y::b,_,h,hb=>Asd b (Bwn h (hb y (List.mem_cons_self ..))) fun r hr=>hb r (List.mem_cons_of_mem _ hr)
theorem Asc:∀(b a:List TRow),(CF a b).length≤a.length+b.length
 | [],a=>Nat.le_refl _
 |y::b,a=>by
  have h1:=Asc b (LP a y)
  have h2:=Bwm a y
  show(CF (LP a y) b).length≤a.length+(b.length+1)
  omega
theorem Bdi (a b:List TRow) (i:Nat) (h:i <b.length):CF a (b.take (i+1))=LP (CF a (b.take i)) (BA b i):=by
 unfold CF
 rw[Aah b (Ab TC.row) i h,List.foldl_append]
 rfl
abbrev BQ:Type:=(List TGroup)×(List TRow)×(List TRow)×Int
def Li (x:BQ):St:=⟨24,0,[(0,.sl .group x.1),(2,.sl .row x.2.1),(7,.sl .row x.2.2.1),(8,.v (.int .i64 x.2.2.2))],[]⟩
def Nr:St→Option BQ
 |⟨24,0,[(0,.sl .group z0),(2,.sl .row z1),(7,.sl .row z2),(8,.v (.int .i64 z3))],[]⟩=>some (z0,z1,z2,z3)
 |_=>none
theorem Ahx:∀s x,Nr s=some x→s=Li x:=fun s x h=>by
 unfold Nr at h
 split at h
 ·cases h;rfl
 ·cases h
def W6:Co:=⟨0,0,[0,2,7,8],[],[],[],[7],[]⟩
def Ax3:CR:=⟨[],[],[0,2,7,8],[]⟩
def Bu (_a0:List TGroup) (a1:List TRow) (_a2:List TRow) (a3:Int):Bool:=!!decide (a3 <(↑a1.length:Int))
def ML (a0:List TGroup) (a1:List TRow) (a2:List TRow) (a3:Int):List TRow:=VL a0 a2 (a1.getD a3.toNat (Ab TC.row))
def Fu (x:BQ):BQ:=(x.1,x.2.1,ML x.1 x.2.1 x.2.2.1 x.2.2.2,IntKind.i64.wrap (x.2.2.2+(1:Int)))
def Ft (x:BQ):Cnd:=some ((Bu x.1 x.2.1 x.2.2.1 x.2.2.2))
def MM (x:BQ):List Prop:=[((Bu x.1 x.2.1 x.2.2.1 x.2.2.2)=true→(0:Int)≤x.2.2.2∧x.2.2.2 <(↑x.2.1.length:Int)),((Bu x.1 x.2.1 x.2.2.1 x.2.2.2)=true→Ag (x.2.1.getD x.2.2.2.toNat (Ab TC.row)).2.length),((Bu x.1 x.2.1 x.2.2.1 x.2.2.2)=true→(!Cp (x.2.1.getD x.2.2.2.toNat (Ab TC.row)))=true→Am x.2.2.1.length),((Bu x.1 x.2.1 x.2.2.1 x.2.2.2)=true→(!Cp (x.2.1.getD x.2.2.2.toNat (Ab TC.row)))=true→∀(r:TRow),r∈x.2.2.1→Ag r.2.length),((Bu x.1 x.2.1 x.2.2.1 x.2.2.2)=true→(!Cp (x.2.1.getD x.2.2.2.toNat (Ab TC.row)))=true→gtB x.2.2.1 (x.2.1.getD x.2.2.2.toNat (Ab TC.row)).1=true→∀(g:TGroup),g∈x.1→Am g.1.size),((Bu x.1 x.2.1 x.2.2.1 x.2.2.2)=true→(!Cp (x.2.1.getD x.2.2.2.toNat (Ab TC.row)))=true→gtB x.2.2.1 (x.2.1.getD x.2.2.2.toNat (Ab TC.row)).1=true→x.2.2.1.length≤(400000:Nat)∧Ag (jnL x.1 (TRow.mk (gtK x.2.2.1 (x.2.1.getD x.2.2.2.toNat (Ab TC.row)).1) (gtC x.2.2.1 (x.2.1.getD x.2.2.2.toNat (Ab TC.row)).1)) (x.2.1.getD x.2.2.2.toNat (Ab TC.row))).length),((Bu x.1 x.2.1 x.2.2.1 x.2.2.2)=true→(!Cp (x.2.1.getD x.2.2.2.toNat (Ab TC.row)))=true→(!gtB x.2.2.1 (x.2.1.getD x.2.2.2.toNat (Ab TC.row)).1)=true→x.2.2.1.length≤(400000:Nat)∧Ag (x.2.1.getD x.2.2.2.toNat (Ab TC.row)).2.length)]
abbrev IY:BQ→List Prop:=MM
def QU (x:BQ):Bd:=[(some 0,some (!decide (x.2.2.2 <(↑x.2.1.length:Int))),⟨24,0,[(7,.sl .row x.2.2.1)],[]⟩)]
def HF (x:BQ):Nat:=((↑x.2.1.length:Int) - x.2.2.2).toNat
def R5 (x:BQ):BQ:=A5 Fu Ft (HF x) x
theorem Aq0 (a0:List TGroup) (a1:List TRow) (a2:List TRow) (a3:Int):Bk (Au Bhu L0) 9 (Ae Try.prog 145 0) W6 (Li (a0,a1,a2,a3))=some (MM (a0,a1,a2,a3),QU (a0,a1,a2,a3),Ft (a0,a1,a2,a3),Li (Fu (a0,a1,a2,a3))):=by kernel_rfl
theorem Aq1 (a0:List TGroup) (a1:List TRow) (a2:List TRow) (a3:Int) (hp:∀p∈IY (a0,a1,a2,a3),p):∀p∈MM (a0,a1,a2,a3),p:=hp
noncomputable def R4:=GH (Au Bhu L0) (Ae Try.prog 145 0) W6 Ax3 Nr HF Fu Ft IY QU
theorem Ami:∀s b ps outs,R4 s=some (b,ps,outs)→Wf s ⟨ps,outs,none⟩∧Be (Au C0 L0) b s ps outs:=
 A6 (T:=Li) Aza Av (u:=9) (by kernel_rfl) (by decide) (fun⟨a0,a1,a2,a3⟩=>Aq0 a0 a1 a2 a3) (fun⟨a0,a1,a2,a3⟩=>Aq1 a0 a1 a2 a3) Ahx (fun _=>AI (n:=24) rfl) fun _ _=>rfl
noncomputable def W5:=CY 0 R4 L0
theorem Amh:Gf W5:=AP Ami Av
def VJ (a0:List TGroup) (a1:List TRow) (a2:List TRow):List TRow:=(R5 (a0,a2,a1,(0:Int))).snd.snd.fst
def VK (a0:List TGroup) (a1:List TRow) (a2:List TRow):A:=.sl .row (VJ a0 a1 a2)
def Amj (_a0:List TGroup) (_a1:List TRow) (_a2:List TRow):Objs:=[]
def Ad7 (a0:List TGroup) (a1:List TRow) (a2:List TRow):List Prop:=[(AB Fu Ft IY (HF (a0,a2,a1,(0:Int))) (a0,a2,a1,(0:Int)))]
theorem A8u (a0:List TGroup) (a1:List TRow) (a2:List TRow):Eo (Au Bhu W5) 9 145 [.sl .group a0,Af .rows a1,Af .rows a2] 0 []=some (1,VK a0 a1 a2,0,Amj a0 a1 a2,[(Ae Try.prog (145:FuncId) (0:Nat)=Ae Try.prog (145:FuncId) (0:Nat)),(AB Fu Ft IY (HF (a0,a2,a1,(0:Int))) (a0,a2,a1,(0:Int)))]):=by kernel_rfl
theorem Bfr (a0:List TGroup) (a1:List TRow) (a2:List TRow) (hp:∀p∈Ad7 a0 a1 a2,p):CallOk Try.prog 145 [.sl .group a0,Af .rows a1,Af .rows a2] 0 [] 1 (VK a0 a1 a2) 0 (Amj a0 a1 a2):=by
 have n1:=N0 hp
 exact Ax (Ap Aza Amh) (A8u a0 a1 a2) (Aa rfl (Aa n1 Ad))
def Ad8 (_a0:List TGroup) (a1 a2:List TRow):A:=.sl .row (CF a1 a2)
def Ad6 (_a0:List TGroup) (_a1 _a2:List TRow):Objs:=[]
def ZO (a0:List TGroup) (a1 a2:List TRow):List Prop:=[Stt a0 a1∧(∀r∈a2,Ah a0 r=0)∧a1.length+a2.length≤400000∧∀g∈a0,Am g.1.size]
theorem Bu0 {l:List TGroup} {a b:List TRow} (ha:Stt l a) (hb:∀r∈b,Ah l r=0) (hn:a.length+b.length≤400000) (hw:∀g∈l,Am g.1.size):(∀p∈Ad7 l a b,p)∧VJ l a b=CF a b:=by
 have hst:∀i:Nat,Stt l (CF a (b.take i)):=fun i=>Asd _ ha fun r hr=>hb r (List.mem_of_mem_take hr)
 have hle:∀i:Nat,(CF a (b.take i)).length≤400000:=fun i=>by
  have h1:=Asc (b.take i) a
  have h2:(b.take i).length≤b.length:=by rw[List.length_take];omega
  omega
 have hr:∀i:Nat,i <b.length→Ah l (b.getD ((i:Int)).toNat (Ab TC.row))=0:=fun i hi=>by
  rw[Int.toNat_natCast]
  exact hb _ (getD_in b (Ab TC.row) i hi)
 have hwi:∀i:Nat,i <b.length→_:=fun i hi=>B49 (hst i) (hr i hi) (hle i) hw
 obtain⟨h1,hx⟩:=Ay1 (fun i=>(l,b,CF a (b.take i),(i:Int)):Nat→BQ) b.length Fu Ft IY (HF (l,b,a,0)) (l,b,a,0) rfl (by show b.length≤((b.length:Int) - 0).toNat;omega)
  (fun i _=>by
   show(!!decide ((i:Int) <(b.length:Int)))=_
   rw[nn,LY])
  (fun i hi=>by
   show(l,b,ML l b (CF a (b.take i)) (i:Int),IntKind.i64.wrap ((i:Int)+1))=(l,b,CF a (b.take (i+1)),((i+1:Nat):Int))
   unfold ML
   rw[(hwi i hi).2,DU (by omega),Bdi a b i hi,Int.toNat_natCast]
   rfl)
  (fun i _=>by
   have hin:Bu l b (CF a (b.take i)) (i:Int)=true→i <b.length:=fun h=>by unfold Bu at h;rw[nn] at h;have:=of_decide_eq_true h;omega
   have all:∀(h:Bu l b (CF a (b.take i)) (i:Int)=true),∀p∈Oj l (CF a (b.take i)) (b.getD ((i:Int)).toNat (Ab TC.row)),p:=fun h=>(hwi i (hin h)).1
   refine Aa (fun h=>⟨by show(0:Int)≤(i:Int);omega,by have:=hin h;show(i:Int) <(b.length:Int);omega⟩) (Aa (fun h=>(all h) _ (List.mem_cons_self ..)) (Aa (fun h=>(all h) _ (List.mem_cons_of_mem _ (List.mem_cons_self ..))) (Aa (fun h=>(all h) _ (List.mem_cons_of_mem _ (List.mem_cons_of_mem _ (List.mem_cons_self ..)))) (Aa (fun h=>(all h) _ (List.mem_cons_of_mem _ (List.mem_cons_of_mem _ (List.mem_cons_of_mem _ (List.mem_cons_self ..))))) (Aa (fun h=>(all h) _ (List.mem_cons_of_mem _ (List.mem_cons_of_mem _ (List.mem_cons_of_mem _ (List.mem_cons_of_mem _ (List.mem_cons_self ..)))))) (Aa (fun h=>(all h) _ (List.mem_cons_of_mem _ (List.mem_cons_of_mem _ (List.mem_cons_of_mem _ (List.mem_cons_of_mem _ (List.mem_cons_of_mem _ (List.mem_cons_self ..))))))) Ad)))))))
 refine⟨Aa h1 Ad,?_⟩
 have hx':R5 (l,b,a,0)=(l,b,CF a (b.take b.length),(b.length:Int)):=hx
 unfold VJ
 rw[hx',List.take_length]
theorem A8t (a0:List TGroup) (a1 a2:List TRow) (hp:∀p∈ZO a0 a1 a2,p):CallOk Try.prog 145 [.sl .group a0,Af .rows a1,Af .rows a2] 0 [] 1 (Ad8 a0 a1 a2) 0 (Ad6 a0 a1 a2):=by
 obtain⟨h1,h2,h3,h4⟩:=hp _ (List.mem_cons_self ..)
 obtain⟨g1,g2⟩:=Bu0 h1 h2 h3 h4
 have h:=Bfr a0 a1 a2 g1
 unfold VK at h
 rw[g2] at h
 exact h
def Amk:List A→Nat→Objs→Option AV:=A7 [.l .group,.t .rows,.t .rows] 0 Ad8 Ad6 ZO
theorem A5j:ET Try.prog 145 Amk:=Aq (ks:=[.l .group,.t .rows,.t .rows]) A8t
noncomputable def Bhv:=AU 145 Amk Bhu
theorem Azb:CD Try.prog Bhv:=Ak A5j Aza
abbrev CB:Type:=(List TGroup)×(List TChange)×(List TRow)×Int
def MO (x:CB):St:=⟨38,0,[(0,.sl .group x.1),(1,.sl .change x.2.1),(7,.sl .row x.2.2.1),(8,.v (.int .i64 x.2.2.2))],[]⟩
def OU:St→Option CB
 |⟨38,0,[(0,.sl .group z0),(1,.sl .change z1),(7,.sl .row z2),(8,.v (.int .i64 z3))],[]⟩=>some (z0,z1,z2,z3)
 |_=>none
theorem Amo:∀s x,OU s=some x→s=MO x:=fun s x h=>by
 unfold OU at h
 split at h
 ·cases h;rfl
 ·cases h
def ZW:Co:=⟨0,0,[0,1,7,8],[],[],[],[7,4,5],[]⟩
def A5k:CR:=⟨[.nilF 7 .row],[],[0,1,7,8],[]⟩
def CW (_a0:List TGroup) (a1:List TChange) (_a2:List TRow) (a3:Int):Bool:=!!decide (a3 <(↑a1.length:Int))
def EG (a0:List TGroup) (a1:List TChange) (a2:List TRow) (a3:Int):Bool:=(CW a0 a1 a2 a3)&&LG a0 (a1.getD a3.toNat (Ab TC.change)) !=(0:Int)
def Aq3 (a0:List TGroup) (a1:List TChange) (a2:List TRow) (a3:Int):List TRow:=CF a2 (Si a0 (a1.getD a3.toNat (Ab TC.change)))
def Aq4 (a0:List TGroup) (a1:List TChange) (a2:List TRow) (a3:Int):Bool:=(CW a0 a1 a2 a3)&&!(EG a0 a1 a2 a3)
def EI (x:CB):CB:=(x.1,x.2.1,Aq3 x.1 x.2.1 x.2.2.1 x.2.2.2,IntKind.i64.wrap (x.2.2.2+(1:Int)))
def EH (x:CB):Cnd:=some (Aq4 x.1 x.2.1 x.2.2.1 x.2.2.2)
def Ns (x:CB):List Prop:=[((CW x.1 x.2.1 x.2.2.1 x.2.2.2)=true→(0:Int)≤x.2.2.2∧x.2.2.2 <(↑x.2.1.length:Int)),((CW x.1 x.2.1 x.2.2.1 x.2.2.2)=true→Am (x.2.1.getD x.2.2.2.toNat (Ab TC.change)).5.length),((CW x.1 x.2.1 x.2.2.1 x.2.2.2)=true→∀(g:TGroup),g∈x.1→Am g.1.size),((CW x.1 x.2.1 x.2.2.1 x.2.2.2)=true→(!LG x.1 (x.2.1.getD x.2.2.2.toNat (Ab TC.change)) !=(0:Int))=true→Stt x.1 x.2.2.1∧(∀(r:TRow),r∈Si x.1 (x.2.1.getD x.2.2.2.toNat (Ab TC.change))→Ah x.1 r=(0:Int))∧x.2.2.1.length+(Si x.1 (x.2.1.getD x.2.2.2.toNat (Ab TC.change))).length≤(400000:Nat)∧∀(g:TGroup),g∈x.1→Am g.1.size)]
abbrev HY:CB→List Prop:=Ns
def R6 (x:CB):Bd:=[(some 0,some (!decide (x.2.2.2 <(↑x.2.1.length:Int))),⟨38,0,[(7,.sl .row x.2.2.1),(4,.dead),(5,.dead)],[]⟩),(none,some ((EG x.1 x.2.1 x.2.2.1 x.2.2.2)),⟨38,1,[(7,.sl .row x.2.2.1),(4,.v (.slice none 0 0)),(5,.v (.int .i64 ((120:Int))))],[]⟩)]
def F9 (x:CB):Nat:=((↑x.2.1.length:Int) - x.2.2.2).toNat
def Fv (x:CB):CB:=A5 EI EH (F9 x) x
theorem Ax4 (a0:List TGroup) (a1:List TChange) (a2:List TRow) (a3:Int):Bk (Au Bhv L0) 9 (Ae Try.prog 83 0) ZW (MO (a0,a1,a2,a3))=some (Ns (a0,a1,a2,a3),R6 (a0,a1,a2,a3),EH (a0,a1,a2,a3),MO (EI (a0,a1,a2,a3))):=by kernel_rfl
theorem Ax5 (a0:List TGroup) (a1:List TChange) (a2:List TRow) (a3:Int) (hp:∀p∈HY (a0,a1,a2,a3),p):∀p∈Ns (a0,a1,a2,a3),p:=hp
noncomputable def UB:=GH (Au Bhv L0) (Ae Try.prog 83 0) ZW A5k OU F9 EI EH HY R6
theorem Aq5:∀s b ps outs,UB s=some (b,ps,outs)→Wf s ⟨ps,outs,none⟩∧Be (Au C0 L0) b s ps outs:=
 A6 (T:=MO) Azb Av (u:=9) (by kernel_rfl) (by decide) (fun⟨a0,a1,a2,a3⟩=>Ax4 a0 a1 a2 a3) (fun⟨a0,a1,a2,a3⟩=>Ax5 a0 a1 a2 a3) Amo (fun _=>AI (n:=38) rfl) fun _ _=>rfl
noncomputable def ZV:=CY 0 UB L0
theorem Aq2:Gf ZV:=AP Aq5 Av
def Jm (a0:List TGroup) (_a1:List TChange):Bool:=AO a0 !=(0:Int)
def Pr (a0:List TGroup) (a1:List TChange):Bool:=EG (Fv (a0,a1,[],(0:Int))).fst (Fv (a0,a1,[],(0:Int))).snd.fst (Fv (a0,a1,[],(0:Int))).snd.snd.fst (Fv (a0,a1,[],(0:Int))).snd.snd.snd
def ZT (a0:List TGroup) (a1:List TChange):List TRow:=bif(Jm a0 a1) then[] else bif(Pr a0 a1) then[] else(Fv (a0,a1,[],(0:Int))).snd.snd.fst
def ZU (a0:List TGroup) (a1:List TChange):Int:=bif(Jm a0 a1) then AO a0 else bif(Pr a0 a1) then(120:Int) else(0:Int)
def ZX (a0:List TGroup) (a1:List TChange):A:=.tup [.sl .row (ZT a0 a1),.v (.int .i64 (ZU a0 a1))]
def Aut (_a0:List TGroup) (_a1:List TChange):Objs:=[]
def Bfw (a0:List TGroup) (a1:List TChange):List Prop:=[(∀(g:TGroup),g∈a0→Am g.1.size),((!(Jm a0 a1))=true→AB EI EH HY (F9 (a0,a1,[],(0:Int))) (a0,a1,[],(0:Int)))]
theorem Bfv (a0:List TGroup) (a1:List TChange):Eo (Au Bhv ZV) 9 83 [.sl .group a0,.sl .change a1] 0 []=some (1,ZX a0 a1,0,Aut a0 a1,[(∀(g:TGroup),g∈a0→Am g.1.size),((!(Jm a0 a1))=true→Ae Try.prog (83:FuncId) (0:Nat)=Ae Try.prog (83:FuncId) (0:Nat)),((!(Jm a0 a1))=true→AB EI EH HY (F9 (a0,a1,[],(0:Int))) (a0,a1,[],(0:Int)))]):=by kernel_rfl
theorem Bmk (a0:List TGroup) (a1:List TChange) (hp:∀p∈Bfw a0 a1,p):CallOk Try.prog 83 [.sl .group a0,.sl .change a1] 0 [] 1 (ZX a0 a1) 0 (Aut a0 a1):=by
 have n0:=N0 hp
 have n1:((!(Jm a0 a1))=true→Ae Try.prog (83:FuncId) (0:Nat)=Ae Try.prog (83:FuncId) (0:Nat)):=by intros;rfl
 have n2:=N0 (N1 hp)
 exact Ax (Ap Azb Aq2) (Bfv a0 a1) (Aa n0 (Aa n1 (Aa n2 Ad)))
def Amq (a0:List TGroup) (a1:List TChange):A:=.tup [.sl .row (stR a0 a1),.v (.int .i64 (stE a0 a1))]
def Amp (_a0:List TGroup) (_a1:List TChange):Objs:=[]
def Aeb (a0:List TGroup) (a1:List TChange):List Prop:=[a1.length≤7000∧(∀c∈a1,Am c.writes.length)∧∀g∈a0,Am g.1.size]
theorem B4p (l:List TGroup) (cs:List TChange) (hb:cs.length≤7000) (hw:∀c∈cs,Am c.writes.length) (hg:∀g∈l,Am g.1.size):
  AB EI EH HY (F9 (l,cs,[],0)) (l,cs,[],0)∧Pr l cs=!JX cs.length (fun i=>LG l (LQ cs i)==0)∧(JX cs.length (fun i=>LG l (LQ cs i)==0)=true→(Fv (l,cs,[],0)).snd.snd.fst=stN l cs cs.length):=by
 have hk0:∀(i:Nat) (o:List TRow),EG l cs o (i:Int)=(decide (i <cs.length)&&!(LG l (LQ cs i)==0)):=fun i o=>by
  unfold EG CW
  rw[nn,LY,Int.toNat_natCast]
  rfl
 obtain⟨h1,k,hk,hx,_,hst,hb'⟩:=Io (fun i=>(l,cs,stN l cs i,(i:Int)):Nat→CB) cs.length (fun i=>!(LG l (LQ cs i)==0)) EI EH HY (F9 (l,cs,[],0)) (l,cs,[],0) rfl (by show cs.length≤((cs.length:Int) - 0).toNat;omega)
  (fun i _ _=>by
   show((!!decide ((i:Int) <(cs.length:Int)))&&!EG l cs (stN l cs i) (i:Int))=_
   rw[hk0,nn,LY]
   cases decide (i <cs.length)<;>rfl)
  (fun i hi _=>by
   show(l,cs,CF (stN l cs i) (Si l (cs.getD ((i:Int)).toNat (Ab TC.change))),IntKind.i64.wrap ((i:Int)+1))=(l,cs,stN l cs (i+1),((i+1:Nat):Int))
   rw[DU (by omega),Int.toNat_natCast,←Bu1]
   rfl)
  (fun i hi _=>by
   have hin:CW l cs (stN l cs i) (i:Int)=true→i <cs.length:=fun h=>by unfold CW at h;rw[nn] at h;have:=of_decide_eq_true h;omega
   refine Aa (fun h=>⟨by show(0:Int)≤(i:Int);omega,by have:=hin h;show(i:Int) <(cs.length:Int);omega⟩) (Aa (fun h=>?_) (Aa (fun _=>hg) (Aa (fun _ _=>?_) Ad)))
   ·show Am (cs.getD ((i:Int)).toNat (Ab TC.change)).5.length
    rw[Int.toNat_natCast]
    exact hw _ (getD_in cs (Ab TC.change) i (hin h))
   ·have a1:=Bgj l cs i
    have a3:=Ayr l (cs.getD ((i:Int)).toNat (Ab TC.change))
    show Stt l (stN l cs i)∧(∀r∈Si l (cs.getD ((i:Int)).toNat (Ab TC.change)),Ah l r=0)∧(stN l cs i).length+(Si l (cs.getD ((i:Int)).toNat (Ab TC.change))).length≤400000∧∀g∈l,Am g.1.size
    exact⟨Ay3 l cs i,(Ai1 l _).2,by omega,hg⟩)
 have hr:Fv (l,cs,[],0)=(l,cs,stN l cs k,(k:Int)):=hx
 have hb2:(decide (k <cs.length)&&!(LG l (LQ cs k)==0))=!JX cs.length (fun i=>LG l (LQ cs i)==0):=by
  rw[hb']
  congr 1
  exact Hk fun i _=>Bool.not_not _
 refine⟨h1,?_,fun ha=>?_⟩
 ·unfold Pr
  rw[hr]
  show EG l cs (stN l cs k) (k:Int)=_
  rw[hk0,hb2]
 ·rw[hr]
  show stN l cs k=_
  rw[ha] at hb2
  rcases Nat.lt_or_ge k cs.length with h|h
  ·have h2:=hst h
   rw[decide_eq_true h,h2] at hb2
   cases hb2
  ·rw[show k=cs.length by omega]
theorem Bfu (a0:List TGroup) (a1:List TChange) (hp:∀p∈Aeb a0 a1,p):CallOk Try.prog 83 [.sl .group a0,.sl .change a1] 0 [] 1 (Amq a0 a1) 0 (Amp a0 a1):=by
 obtain⟨hb,hw,hg⟩:=hp _ (List.mem_cons_self ..)
 obtain⟨h1,k0,h3⟩:=B4p a0 a1 hb hw hg
 have h:=Bmk a0 a1 (Aa hg (Aa (fun _=>h1) Ad))
 have e:ZU a0 a1=stE a0 a1∧ZT a0 a1=stR a0 a1:=by
  unfold ZT ZU Jm stR stE
  rw[k0]
  cases hg:AO a0 !=0 with
  |true=>
   have:(AO a0==0)=false:=by simpa using hg
   refine⟨rfl,?_⟩
   show[]=bif AO a0==0 then stN a0 a1 a1.length else[]
   rw[this]
   rfl
  |false=>
   cases ha:JX a1.length (fun i=>LG a0 (LQ a1 i)==0) with
   |true=>exact⟨rfl,h3 ha⟩
   |false=>exact⟨rfl,rfl⟩
 unfold ZX at h
 rw[e.1,e.2] at h
 exact h
def Auu:List A→Nat→Objs→Option AV:=A7 [.l .group,.l .change] 0 Amq Amp Aeb
theorem A8v:ET Try.prog 83 Auu:=Aq (ks:=[.l .group,.l .change]) Bfu
noncomputable def B5u:=AU 83 Auu Bhv
theorem Bxy:CD Try.prog B5u:=Ak A8v Azb
noncomputable def Cmr:=B5u
theorem Bxz:CD Try.prog Cmr:=Bxy
end Go.Proofs.Yteebobbhhgmeiaa
