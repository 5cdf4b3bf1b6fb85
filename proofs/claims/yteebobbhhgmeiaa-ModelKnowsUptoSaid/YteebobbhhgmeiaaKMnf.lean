/- made by a program (rowgen.py): ModelKnows: for every input the law returns true, and each argument reads behind the call as it read before. -/
import Derived.Test.YteebobbhhgmeiaaKMne

set_option maxRecDepth 100000
namespace Go.Proofs.Yteebobbhhgmeiaa
open Go.RowKit
def B0n (c:TC) (x:A):Option (U c×U c):=match Bvu c x with
 |some [a,b]=>some (a,b)
 |_=>none
theorem Bvv {c:TC} {x:A} {a b:U c} {F:Nat→Prop} {N:Nm} {nx:Nat} {R:World} {v:Value} (he:B0n c x=some (a,b)) (h:Hv F N nx R x v):Hv F N nx R (.sl c [a,b]) v:=by
 unfold B0n at he
 split at he<;>first|(cases he;done)|skip
 rename_i h1
 cases he
 exact Blv h1 h
def UE (a0:TStamp) (a1:TStamp):Bool:=decide (a0.1 <a1.1)||a0.1==a1.1&&decide (a0.2 <a1.2)
def UG (a0:TStamp) (a1:TStamp):A:=.v (.bool (UE a0 a1))
def UF (_a0:TStamp) (_a1:TStamp):Objs:=[]
def RW (_a0:TStamp) (_a1:TStamp):List Prop:=[]
theorem A25 (a0:TStamp) (a1:TStamp):Ff (As Cl L0) 9 168 [Af .stamp a0,Af .stamp a1] 0 []=some (1,UG a0 a1,0,UF a0 a1,RW a0 a1):=by kernel_rfl
theorem A92 (a0:TStamp) (a1:TStamp) (hp:∀p∈RW a0 a1,p):CallOk Try.prog 168 [Af .stamp a0,Af .stamp a1] 0 [] 1 (UG a0 a1) 0 (UF a0 a1):=Az (An Ba0 Ay) (A25 a0 a1) hp
def Ai3:List A→Nat→Objs→Option A3:=Bg [.t .stamp,.t .stamp] 0 UG UF RW
theorem A0h:Fi Try.prog 168 Ai3:=Aq (ks:=[.t .stamp,.t .stamp]) A92
noncomputable def B0a:=A4 168 Ai3 Cl
theorem Bla:Dd Try.prog B0a:=Am A0h Ba0
def Av (a0:TCell):TCell:=TCell.mk a0.1 a0.2 a0.3 a0.4 (TVec.mk (0:Int) (0:Int))
def T2 (a0:TCell):A:=.v (.agg ⟨[.int .i64 ((Av a0).stamp.n),.int .i64 ((Av a0).stamp.site),.int .i64 ((Av a0).vec.a),.int .i64 ((Av a0).vec.b),.bool ((Av a0).gone),.string ((Av a0).value),.int .i64 ((Av a0).dead.a),.int .i64 ((Av a0).dead.b)]⟩)
def T1 (_a0:TCell):Objs:=[]
def Rn (_a0:TCell):List Prop:=[]
theorem A1c (a0:TCell):Ff (As B0a L0) 9 167 [Af .cell a0] 0 []=some (1,T2 a0,0,T1 a0,Rn a0):=by kernel_rfl
theorem A66 (a0:TCell) (hp:∀p∈Rn a0,p):CallOk Try.prog 167 [Af .cell a0] 0 [] 1 (T2 a0) 0 (T1 a0):=Az (An Bla Ay) (A1c a0) hp
def Af9:List A→Nat→Objs→Option A3:=Bg [.t .cell] 0 T2 T1 Rn
theorem Avk:Fi Try.prog 167 Af9:=Aq (ks:=[.t .cell]) A66
noncomputable def B0b:=A4 167 Af9 B0a
theorem Blb:Dd Try.prog B0b:=Am Avk Bla
def Ot (a0:TCell) (a1:TCell):Bool:=!(Av a0).4.toList==(Av a1).4.toList
def T0 (a0:TCell) (a1:TCell):Bool:=!((Av a0).1.1==(Av a1).1.1&&(Av a0).1.2==(Av a1).1.2)
def Oq (a0:TCell) (a1:TCell):Bool:=(Av a0).1.1==(Av a1).1.1&&(Av a0).1.2==(Av a1).1.2&&((Av a0).2.1==(Av a1).2.1&&(Av a0).2.2==(Av a1).2.2&&((Av a0).3==(Av a1).3&&((Av a0).4.toList==(Av a1).4.toList&&((Av a0).5.1==(Av a1).5.1&&(Av a0).5.2==(Av a1).5.2))))
def Wt (a0:TCell) (a1:TCell):Bool:=bif(Oq a0 a1)||((T0 a0 a1)||(!(Av a0).3==(Av a1).3||((Ot a0 a1)||(Av a0).2.1 !=(Av a1).2.1))) then bif(Oq a0 a1) then false else bif(T0 a0 a1) then UE (Av a0).1 (Av a1).1 else bif !(Av a0).3==(Av a1).3 then(Av a1).3 else bif(Ot a0 a1) then Op.bytesLess (Av a0).4.toList (Av a1).4.toList else decide ((Av a0).2.1 <(Av a1).2.1) else decide ((Av a0).2.2 <(Av a1).2.2)
def Wu (a0:TCell) (a1:TCell):A:=.v (.bool (Wt a0 a1))
def Anq (_a0:TCell) (_a1:TCell):Objs:=[]
def Af7 (_a0:TCell) (_a1:TCell):List Prop:=[]
theorem A65 (a0:TCell) (a1:TCell):Ff (As B0b L0) 9 138 [Af .cell a0,Af .cell a1] 0 []=some (1,Wu a0 a1,0,Anq a0 a1,Af7 a0 a1):=by kernel_rfl
theorem Bda (a0:TCell) (a1:TCell) (hp:∀p∈Af7 a0 a1,p):CallOk Try.prog 138 [Af .cell a0,Af .cell a1] 0 [] 1 (Wu a0 a1) 0 (Anq a0 a1):=Az (An Blb Ay) (A65 a0 a1) hp
def Af8 (a0:TCell) (a1:TCell):A:=.v (.bool (Jv a0 a1))
def Af6 (_a0:TCell) (_a1:TCell):Objs:=[]
def ZJ (_a0:TCell) (_a1:TCell):List Prop:=[]
theorem A64 (a b:TCell):Wt a b=Jv a b:=by
 have e0:Oq a b=((a.stamp.n==b.stamp.n&&a.stamp.site==b.stamp.site)&&((a.vec.a==b.vec.a&&a.vec.b==b.vec.b)&&(a.gone==b.gone&&((a.value==b.value)&&true)))):=by
  unfold Oq
  rw[tlb]
  rfl
 have e1:T0 a b=!(a.stamp.n==b.stamp.n&&a.stamp.site==b.stamp.site):=rfl
 have e2:Ot a b=!(a.value==b.value):=by
  unfold Ot
  rw[tlb]
  rfl
 unfold Wt Jv UE
 rw[e0,e1,e2]
 show(bif _||(_||(!(a.gone==b.gone)||(_||!(a.vec.a==b.vec.a)))) then bif _ then false else bif _ then(decide (a.stamp.n <b.stamp.n)||a.stamp.n==b.stamp.n&&decide (a.stamp.site <b.stamp.site)) else bif !(a.gone==b.gone) then b.gone else bif _ then Jd a.value b.value else decide (a.vec.a <b.vec.a) else decide (a.vec.b <b.vec.b))=(bif _ then _ else bif !(a.gone==b.gone) then b.gone else bif _ then Jd a.value b.value else bif !(a.vec.a==b.vec.a) then decide (a.vec.a <b.vec.a) else decide (a.vec.b <b.vec.b))
 have hb:(a.vec.b==b.vec.b)=true→decide (a.vec.b <b.vec.b)=false:=fun h=>decide_eq_false (by have:a.vec.b=b.vec.b:=eq_of_beq h;omega)
 revert hb
 generalize (a.stamp.n==b.stamp.n&&a.stamp.site==b.stamp.site)=q1
 generalize (a.gone==b.gone)=q2
 generalize (a.value==b.value)=q3
 generalize (a.vec.a==b.vec.a)=q4
 generalize (a.vec.b==b.vec.b)=q5
 generalize decide (a.vec.b <b.vec.b)=q6
 cases q1<;>cases q2<;>cases q3<;>cases q4<;>cases q5<;>cases q6<;>simp
theorem A63 (a0:TCell) (a1:TCell) (_hp:∀p∈ZJ a0 a1,p):CallOk Try.prog 138 [Af .cell a0,Af .cell a1] 0 [] 1 (Af8 a0 a1) 0 (Af6 a0 a1):=by
 have h:=Bda a0 a1 (fun _ h=>by cases h)
 unfold Wu at h
 rw[A64] at h
 exact h
def Anr:List A→Nat→Objs→Option A3:=Bg [.t .cell,.t .cell] 0 Af8 Af6 ZJ
theorem A1b:Fi Try.prog 138 Anr:=Aq (ks:=[.t .cell,.t .cell]) A63
noncomputable def B0c:=A4 138 Anr B0b
theorem Blc:Dd Try.prog B0c:=Am A1b Blb
def Ac8 (a0:TStamp) (a1:TStamp):Bool:=bif a0.1 !=a1.1 then decide (a0.1 <a1.1) else decide (a0.2 <a1.2)
def Ada (a0:TStamp) (a1:TStamp):A:=.v (.bool (Ac8 a0 a1))
def Ac9 (_a0:TStamp) (_a1:TStamp):Objs:=[]
def XM (_a0:TStamp) (_a1:TStamp):List Prop:=[]
theorem Beg (a0:TStamp) (a1:TStamp):Ff (As B0c L0) 9 173 [Af .stamp a0,Af .stamp a1] 0 []=some (1,Ada a0 a1,0,Ac9 a0 a1,XM a0 a1):=by kernel_rfl
theorem Biq (a0:TStamp) (a1:TStamp) (hp:∀p∈XM a0 a1,p):CallOk Try.prog 173 [Af .stamp a0,Af .stamp a1] 0 [] 1 (Ada a0 a1) 0 (Ac9 a0 a1):=Az (An Blc Ay) (Beg a0 a1) hp
def Axr:List A→Nat→Objs→Option A3:=Bg [.t .stamp,.t .stamp] 0 Ada Ac9 XM
theorem A8j:Fi Try.prog 173 Axr:=Aq (ks:=[.t .stamp,.t .stamp]) Biq
noncomputable def B0d:=A4 173 Axr B0c
theorem Bld:Dd Try.prog B0d:=Am A8j Blc
def IJ (a0:TCell) (a1:TCell):Bool:=bif !(a0.1.1==a1.1.1&&a0.1.2==a1.1.2) then Ac8 a0.1 a1.1 else bif !a0.3==a1.3 then a1.3 else bif !a0.4.toList==a1.4.toList then Op.bytesLess a0.4.toList a1.4.toList else bif a0.2.1 !=a1.2.1 then decide (a0.2.1 <a1.2.1) else decide (a0.2.2 <a1.2.2)
def Adq (a0:TCell) (a1:TCell):A:=.v (.bool (IJ a0 a1))
def Adp (_a0:TCell) (_a1:TCell):Objs:=[]
def XX (_a0:TCell) (_a1:TCell):List Prop:=[]
theorem Bew (a0:TCell) (a1:TCell):Ff (As B0d L0) 9 166 [Af .cell a0,Af .cell a1] 0 []=some (1,Adq a0 a1,0,Adp a0 a1,XX a0 a1):=by kernel_rfl
theorem Bi1 (a0:TCell) (a1:TCell) (hp:∀p∈XX a0 a1,p):CallOk Try.prog 166 [Af .cell a0,Af .cell a1] 0 [] 1 (Adq a0 a1) 0 (Adp a0 a1):=Az (An Bld Ay) (Bew a0 a1) hp
def Ayd:List A→Nat→Objs→Option A3:=Bg [.t .cell,.t .cell] 0 Adq Adp XX
theorem A8t:Fi Try.prog 166 Ayd:=Aq (ks:=[.t .cell,.t .cell]) Bi1
noncomputable def B0e:=A4 166 Ayd B0d
theorem Ble:Dd Try.prog B0e:=Am A8t Bld
def I2 (a0:TCell) (a1:TCell):TCell:=TCell.mk (TStamp.mk (bif IJ a0 a1 then a1.1.1 else a0.1.1) (bif IJ a0 a1 then a1.1.2 else a0.1.2)) (TVec.mk (bif IJ a0 a1 then a1.2.1 else a0.2.1) (bif IJ a0 a1 then a1.2.2 else a0.2.2)) (bif IJ a0 a1 then a1.3 else a0.3) (bif IJ a0 a1 then a1.4 else a0.4) (Td a0.5 a1.5)
def Alp (a0:TCell) (a1:TCell):A:=.v (.agg ⟨[.int .i64 ((I2 a0 a1).stamp.n),.int .i64 ((I2 a0 a1).stamp.site),.int .i64 ((I2 a0 a1).vec.a),.int .i64 ((I2 a0 a1).vec.b),.bool ((I2 a0 a1).gone),.string ((I2 a0 a1).value),.int .i64 ((I2 a0 a1).dead.a),.int .i64 ((I2 a0 a1).dead.b)]⟩)
def A4p (_a0:TCell) (_a1:TCell):Objs:=[]
def Ayf (_a0:TCell) (_a1:TCell):List Prop:=[]
theorem Bi4 (a0:TCell) (a1:TCell):Ff (As B0e L0) 9 135 [Af .cell a0,Af .cell a1] 0 []=some (1,Alp a0 a1,0,A4p a0 a1,Ayf a0 a1):=by kernel_rfl
theorem Boq (a0:TCell) (a1:TCell) (hp:∀p∈Ayf a0 a1,p):CallOk Try.prog 135 [Af .cell a0,Af .cell a1] 0 [] 1 (Alp a0 a1) 0 (A4p a0 a1):=Az (An Ble Ay) (Bi4 a0 a1) hp
def Ayg (a0:TCell) (a1:TCell):A:=.v (.agg ⟨[.int .i64 ((HI a0 a1).stamp.n),.int .i64 ((HI a0 a1).stamp.site),.int .i64 ((HI a0 a1).vec.a),.int .i64 ((HI a0 a1).vec.b),.bool ((HI a0 a1).gone),.string ((HI a0 a1).value),.int .i64 ((HI a0 a1).dead.a),.int .i64 ((HI a0 a1).dead.b)]⟩)
def Aye (_a0:TCell) (_a1:TCell):Objs:=[]
def Ao0 (_a0:TCell) (_a1:TCell):List Prop:=[]
theorem Bee (a b:TStamp):Ac8 a b=(decide (a.n <b.n)||a.n==b.n&&decide (a.site <b.site)):=by
 show(bif !(a.n==b.n) then decide (a.n <b.n) else decide (a.site <b.site))=_
 by_cases h:a.n=b.n
 ·rw[beq_iff_eq.2 h,decide_eq_false (p:=a.n <b.n) (by omega)]
  simp
 ·rw[beq_eq_false_iff_ne.2 h]
  simp
theorem Bev (a b:TCell):IJ a b=Jv a b:=by
 unfold IJ Jv
 rw[Bee,tlb]
 rfl
theorem Bi3 (a b:TCell):I2 a b=HI a b:=by
 unfold I2 HI F8
 rw[Bev]
 cases Jv a b<;>rfl
theorem Bi2 (a0:TCell) (a1:TCell) (_hp:∀p∈Ao0 a0 a1,p):CallOk Try.prog 135 [Af .cell a0,Af .cell a1] 0 [] 1 (Ayg a0 a1) 0 (Aye a0 a1):=by
 have h:=Boq a0 a1 (fun _ h=>by cases h)
 unfold Alp at h
 rw[Bi3] at h
 exact h
def A4q:List A→Nat→Objs→Option A3:=Bg [.t .cell,.t .cell] 0 Ayg Aye Ao0
theorem Bex:Fi Try.prog 135 A4q:=Aq (ks:=[.t .cell,.t .cell]) Bi2
noncomputable def B0f:=A4 135 A4q B0e
theorem Blf:Dd Try.prog B0f:=Am Bex Ble
def Pc (a0:TCell) (a1:TCell):A:=.v (.bool (Jv a0 a1))
def Pb (_a0:TCell) (_a1:TCell):Objs:=[]
def Nw (_a0:TCell) (_a1:TCell):List Prop:=[]
theorem Aq4 (a0:TCell) (a1:TCell):Ff (As B0f L0) 9 137 [Af .cell a0,Af .cell a1] 0 []=some (1,Pc a0 a1,0,Pb a0 a1,Nw a0 a1):=by kernel_rfl
theorem Avj (a0:TCell) (a1:TCell) (hp:∀p∈Nw a0 a1,p):CallOk Try.prog 137 [Af .cell a0,Af .cell a1] 0 [] 1 (Pc a0 a1) 0 (Pb a0 a1):=Az (An Blf Ay) (Aq4 a0 a1) hp
def Wq:List A→Nat→Objs→Option A3:=Bg [.t .cell,.t .cell] 0 Pc Pb Nw
theorem Aj9:Fi Try.prog 137 Wq:=Aq (ks:=[.t .cell,.t .cell]) Avj
noncomputable def B0g:=A4 137 Wq B0f
theorem Blg:Dd Try.prog B0g:=Am Aj9 Blf
noncomputable def B0h:=A4 136 (inl (As B0g L0) 4 136) B0g
theorem Blh:Dd Try.prog B0h:=Am (Acg (An Blg Ay) 4 136) Blg
def BV (a0:TCell) (b0:TCell):Bool:=Jv (TCell.mk (TStamp.mk (0:Int) (0:Int)) (TVec.mk (0:Int) (0:Int)) false (ByteArray.mk #[]) (TVec.mk (0:Int) (0:Int))) ([a0,b0].getD (0:Nat) (Ac TC.cell))
def Ht (a0:TCell) (b0:TCell):Bool:=Jv (TCell.mk (TStamp.mk (bif(BV a0 b0) then([a0,b0].getD (0:Nat) (Ac TC.cell)).1.1 else(0:Int)) (bif(BV a0 b0) then([a0,b0].getD (0:Nat) (Ac TC.cell)).1.2 else(0:Int))) (TVec.mk (bif(BV a0 b0) then([a0,b0].getD (0:Nat) (Ac TC.cell)).2.1 else(0:Int)) (bif(BV a0 b0) then([a0,b0].getD (0:Nat) (Ac TC.cell)).2.2 else(0:Int))) (bif(BV a0 b0) then([a0,b0].getD (0:Nat) (Ac TC.cell)).3 else false) (bif(BV a0 b0) then([a0,b0].getD (0:Nat) (Ac TC.cell)).4 else ByteArray.mk #[]) (TVec.mk (bif(BV a0 b0) then([a0,b0].getD (0:Nat) (Ac TC.cell)).5.1 else(0:Int)) (bif(BV a0 b0) then([a0,b0].getD (0:Nat) (Ac TC.cell)).5.2 else(0:Int)))) ([a0,b0].getD (1:Nat) (Ac TC.cell))
def Gl (a0:TCell) (b0:TCell):TCell:=TCell.mk (TStamp.mk (bif(Ht a0 b0) then([a0,b0].getD (1:Nat) (Ac TC.cell)).1.1 else bif(BV a0 b0) then([a0,b0].getD (0:Nat) (Ac TC.cell)).1.1 else(0:Int)) (bif(Ht a0 b0) then([a0,b0].getD (1:Nat) (Ac TC.cell)).1.2 else bif(BV a0 b0) then([a0,b0].getD (0:Nat) (Ac TC.cell)).1.2 else(0:Int))) (TVec.mk (bif(Ht a0 b0) then([a0,b0].getD (1:Nat) (Ac TC.cell)).2.1 else bif(BV a0 b0) then([a0,b0].getD (0:Nat) (Ac TC.cell)).2.1 else(0:Int)) (bif(Ht a0 b0) then([a0,b0].getD (1:Nat) (Ac TC.cell)).2.2 else bif(BV a0 b0) then([a0,b0].getD (0:Nat) (Ac TC.cell)).2.2 else(0:Int))) (bif(Ht a0 b0) then([a0,b0].getD (1:Nat) (Ac TC.cell)).3 else bif(BV a0 b0) then([a0,b0].getD (0:Nat) (Ac TC.cell)).3 else false) (bif(Ht a0 b0) then([a0,b0].getD (1:Nat) (Ac TC.cell)).4 else bif(BV a0 b0) then([a0,b0].getD (0:Nat) (Ac TC.cell)).4 else ByteArray.mk #[]) (TVec.mk (max (max (0:Int) ((((List.replicate (2:Nat) (Ac TC.vec)).set (0:Nat) ([a0,b0].getD (0:Nat) (Ac TC.cell)).5).set (1:Nat) ([a0,b0].getD (1:Nat) (Ac TC.cell)).5).getD (0:Nat) (Ac TC.vec)).1) ((((List.replicate (2:Nat) (Ac TC.vec)).set (0:Nat) ([a0,b0].getD (0:Nat) (Ac TC.cell)).5).set (1:Nat) ([a0,b0].getD (1:Nat) (Ac TC.cell)).5).getD (1:Nat) (Ac TC.vec)).1) (max (max (0:Int) ((((List.replicate (2:Nat) (Ac TC.vec)).set (0:Nat) ([a0,b0].getD (0:Nat) (Ac TC.cell)).5).set (1:Nat) ([a0,b0].getD (1:Nat) (Ac TC.cell)).5).getD (0:Nat) (Ac TC.vec)).2) ((((List.replicate (2:Nat) (Ac TC.vec)).set (0:Nat) ([a0,b0].getD (0:Nat) (Ac TC.cell)).5).set (1:Nat) ([a0,b0].getD (1:Nat) (Ac TC.cell)).5).getD (1:Nat) (Ac TC.vec)).2))
def Wr (a0:TCell) (b0:TCell):A:=.v (.agg ⟨[.int .i64 ((Gl a0 b0).stamp.n),.int .i64 ((Gl a0 b0).stamp.site),.int .i64 ((Gl a0 b0).vec.a),.int .i64 ((Gl a0 b0).vec.b),.bool ((Gl a0 b0).gone),.string ((Gl a0 b0).value),.int .i64 ((Gl a0 b0).dead.a),.int .i64 ((Gl a0 b0).dead.b)]⟩)
def Anp (_a0:TCell) (_b0:TCell):Objs:=[]
def A62 (_a0:TCell) (_b0:TCell):List Prop:=[]
theorem A61 (a0:TCell) (b0:TCell):Ff (As B0h L0) 9 75 [.sl .cell [a0,b0]] 0 []=some (1,Wr a0 b0,0,Anp a0 b0,[((0:Int)≤(0:Int)∧(0:Int) <(↑(2:Nat):Int)),((0:Int)≤(1:Int)∧(1:Int) <(↑(2:Nat):Int)),((0:Int)≤(↑(2:Nat):Int)∧(↑(2:Nat):Int)≤(↑(2:Nat):Int)∧(↑(2:Nat):Int)≤(549755813888:Int)),((0:Int)≤(0:Int)∧(0:Int) <(↑(2:Nat):Int)),((0:Int)≤(0:Int)∧(0:Int) <(↑(2:Nat):Int)),((0:Nat) <(2:Nat)),((0:Int)≤(1:Int)∧(1:Int) <(↑(2:Nat):Int)),((0:Int)≤(1:Int)∧(1:Int) <(↑(2:Nat):Int)),((1:Nat) <(2:Nat)),((0:Int)≤(0:Int)∧(0:Int) <(↑(2:Nat):Int)),((0:Nat) <(2:Nat)),((0:Int)≤(0:Int)∧(0:Int) <(2:Int)),((0:Nat) <(2:Nat)),((0:Int)≤(0:Int)∧(0:Int) <(2:Int)),((0:Nat) <(2:Nat)),((0:Int)≤(0:Int)∧(0:Int) <(2:Int)),((0:Nat) <(2:Nat)),((0:Int)≤(1:Int)∧(1:Int) <(2:Int)),((1:Nat) <(2:Nat)),((0:Int)≤(1:Int)∧(1:Int) <(2:Int)),((1:Nat) <(2:Nat)),((0:Int)≤(1:Int)∧(1:Int) <(2:Int)),((1:Nat) <(2:Nat)),((0:Int)≤(1:Int)∧(1:Int) <(↑(2:Nat):Int)),((1:Nat) <(2:Nat)),((0:Int)≤(0:Int)∧(0:Int) <(2:Int)),((0:Nat) <(2:Nat)),((0:Int)≤(0:Int)∧(0:Int) <(2:Int)),((0:Nat) <(2:Nat)),((0:Int)≤(0:Int)∧(0:Int) <(2:Int)),((0:Nat) <(2:Nat)),((0:Int)≤(1:Int)∧(1:Int) <(2:Int)),((1:Nat) <(2:Nat)),((0:Int)≤(1:Int)∧(1:Int) <(2:Int)),((1:Nat) <(2:Nat)),((0:Int)≤(1:Int)∧(1:Int) <(2:Int)),((1:Nat) <(2:Nat))]):=by kernel_rfl
theorem Bc9 (a0:TCell) (b0:TCell) (_hp:∀p∈A62 a0 b0,p):CallOk Try.prog 75 [.sl .cell [a0,b0]] 0 [] 1 (Wr a0 b0) 0 (Anp a0 b0):=by
 have n0:((0:Int)≤(0:Int)∧(0:Int) <(↑(2:Nat):Int)):=by first|rfl|decide+kernel
 have n1:((0:Int)≤(1:Int)∧(1:Int) <(↑(2:Nat):Int)):=by first|rfl|decide+kernel
 have n2:((0:Int)≤(↑(2:Nat):Int)∧(↑(2:Nat):Int)≤(↑(2:Nat):Int)∧(↑(2:Nat):Int)≤(549755813888:Int)):=by first|rfl|decide+kernel
 have n5:((0:Nat) <(2:Nat)):=by first|rfl|decide+kernel
 have n8:((1:Nat) <(2:Nat)):=by first|rfl|decide+kernel
 have n11:((0:Int)≤(0:Int)∧(0:Int) <(2:Int)):=by first|rfl|decide+kernel
 have n17:((0:Int)≤(1:Int)∧(1:Int) <(2:Int)):=by first|rfl|decide+kernel
 exact Az (An Blh Ay) (A61 a0 b0) (Aa n0 (Aa n1 (Aa n2 (Aa n0 (Aa n0 (Aa n5 (Aa n1 (Aa n1 (Aa n8 (Aa n0 (Aa n5 (Aa n11 (Aa n5 (Aa n11 (Aa n5 (Aa n11 (Aa n5 (Aa n17 (Aa n8 (Aa n17 (Aa n8 (Aa n17 (Aa n8 (Aa n1 (Aa n8 (Aa n11 (Aa n5 (Aa n11 (Aa n5 (Aa n11 (Aa n5 (Aa n17 (Aa n8 (Aa n17 (Aa n8 (Aa n17 (Aa n8 Ad)))))))))))))))))))))))))))))))))))))
def Af5 (a0:TCell) (a1:TCell):A:=.v (.agg ⟨[.int .i64 ((Lk a0 a1).stamp.n),.int .i64 ((Lk a0 a1).stamp.site),.int .i64 ((Lk a0 a1).vec.a),.int .i64 ((Lk a0 a1).vec.b),.bool ((Lk a0 a1).gone),.string ((Lk a0 a1).value),.int .i64 ((Lk a0 a1).dead.a),.int .i64 ((Lk a0 a1).dead.b)]⟩)
def Af4 (_a0:TCell) (_a1:TCell):Objs:=[]
def ZI (_a0:TCell) (_a1:TCell):List Prop:=[]
theorem A60 (a b:TCell):Gl a b=Lk a b:=by
 have h1:BV a b=Jv zeroC a:=rfl
 have h0:Ht a b=Jv (F8 zeroC a) b:=by
  unfold Ht
  rw[h1]
  unfold F8
  cases Jv zeroC a<;>rfl
 unfold Gl
 rw[h0,h1]
 have hm:F8 (F8 zeroC a) b=bif Jv (F8 zeroC a) b then b else F8 zeroC a:=rfl
 have hz:F8 zeroC a=bif Jv zeroC a then a else zeroC:=rfl
 unfold Lk
 rw[hm]
 cases Jv (F8 zeroC a) b with
 |true=>rfl
 |false=>
  rw[hz]
  cases Jv zeroC a<;>rfl
theorem A6z (a0:TCell) (b0:TCell) (_hp:∀p∈ZI a0 b0,p):CallOk Try.prog 75 [.sl .cell [a0,b0]] 0 [] 1 (Af5 a0 b0) 0 (Af4 a0 b0):=by
 have h:=Bc9 a0 b0 (fun _ h=>by cases h)
 unfold Wr at h
 rw[A60] at h
 exact h
def Ws:List A→Nat→Objs→Option A3
 | [y0],nx,o=>match B0n .cell y0 with
  |some (a0,b0)=>some (1,(Af5 a0 b0).pk (Ys nx),nx+0,Yr nx (Af4 a0 b0)++o,ZI a0 b0)
  |_=>none
 |_,_,_=>none
theorem A1a:Fi Try.prog 75 Ws:=fun args nx o k x nx' o' ps h=>by
 unfold Ws at h
 split at h<;>first|(cases h;done)|skip
 split at h<;>first|(cases h;done)|skip
 rename_i a0 b0 e0
 cases h
 refine⟨fun hp=>?_,_,rfl⟩
 refine Am3 (Ae3 (A6z a0 b0 hp) (Nat.le_refl _) (Mc rfl Sl) nx o) fun F N R vs hl=>?_
 obtain⟨v0,w0,rfl,h0,hl⟩:=hl.inv
 exact HL.cons (Bvv e0 h0) (hl)
noncomputable def B10:=A4 75 Ws B0h
theorem Bvj:Dd Try.prog B10:=Am A1a Blh
noncomputable def Cq:=B10
theorem B11:Dd Try.prog Cq:=Bvj
end Go.Proofs.Yteebobbhhgmeiaa
namespace Go.Proofs.Yteebobbhhgmeiaa
open Go.RowKit
def wrE (l:List TGroup) (r:TRow) (g:Int) (c:TCell):Int:=bif Ai l r !=0 then Ai l r else bif decide (g <0)||decide (g≥(l.length:Int)) then 70 else bif !Bv (LW l g.toNat) c then 80 else 0
def B3j (xs:List TCell) (g:Nat) (c:TCell):List TCell:=xs.set g (Lk (Cm xs g) c)
end Go.Proofs.Yteebobbhhgmeiaa
namespace Go.Proofs.Yteebobbhhgmeiaa
open Go.RowKit
noncomputable def B12:=A4 60 WB Cq
theorem Bvk:Dd Try.prog B12:=Am ZL B11
noncomputable def B0i:=A4 61 Anw B12
theorem Bli:Dd Try.prog B0i:=Am A1d Bvk
def Hw (a0:List TGroup) (_a1:Int):Bool:=AR a0 !=(0:Int)
def DF (a0:List TGroup) (a1:Int):Bool:=decide (a1 <(0:Int))||decide (a1≥(↑a0.length:Int))
def CV (a0:List TGroup) (a1:Int):Int:=bif(Hw a0 a1) then(0:Int) else bif(DF a0 a1) then(0:Int) else(a0.getD a1.toNat (Ac TC.group)).2
def JA (a0:List TGroup) (a1:Int):Int:=bif(Hw a0 a1) then AR a0 else bif(DF a0 a1) then(70:Int) else(0:Int)
def XD (a0:List TGroup) (a1:Int):A:=.v (.tuple ⟨[.int .i64 (CV a0 a1),.int .i64 (JA a0 a1)]⟩)
def XC (_a0:List TGroup) (_a1:Int):Objs:=[]
def Uo (a0:List TGroup) (a1:Int):List Prop:=[((!(Hw a0 a1))=true→(!(DF a0 a1))=true→(0:Int)≤a1∧a1 <(↑a0.length:Int))]
theorem A8d (a0:List TGroup) (a1:Int):Ff (As B0i L0) 9 134 [.sl .group a0,Af .i64 a1] 0 []=some (1,XD a0 a1,0,XC a0 a1,Uo a0 a1):=by kernel_rfl
theorem Bea (a0:List TGroup) (a1:Int) (hp:∀p∈Uo a0 a1,p):CallOk Try.prog 134 [.sl .group a0,Af .i64 a1] 0 [] 1 (XD a0 a1) 0 (XC a0 a1):=Az (An Bli Ay) (A8d a0 a1) hp
def Aok:List A→Nat→Objs→Option A3:=Bg [.l .group,.t .i64] 0 XD XC Uo
theorem A13:Fi Try.prog 134 Aok:=Aq (ks:=[.l .group,.t .i64]) Bea
noncomputable def B0j:=A4 134 Aok B0i
theorem Blj:Dd Try.prog B0j:=Am A13 Bli
def HH (a0:TRow):List TCell:=List.replicate (↑a0.2.length:Int).toNat (Ac TC.cell)
def Uy (a0:TRow):List TCell:=List.take (0:Nat) (HH a0)++(List.take (HH a0).length a0.2++List.drop ((0:Nat)+(HH a0).length.min a0.2.length) (HH a0))
def Ait (a0:TRow):A:=.agg [.v (.string a0.1),.sq 0]
def Uz (a0:TRow):Objs:=[(0,some (.arr 55 8 (.ty .cell (Uy a0))))]
def Abf (a0:TRow):List Prop:=[((0:Int)≤(↑a0.2.length:Int)∧(↑a0.2.length:Int)≤(↑a0.2.length:Int)∧(↑a0.2.length:Int)≤(549755813888:Int))]
theorem A2x (a0:TRow):Ff (As B0j L0) 9 133 [Af .row a0] 0 []=some (1,Ait a0,1,Uz a0,Abf a0):=by kernel_rfl
theorem A9o (a0:TRow) (hp:∀p∈Abf a0,p):CallOk Try.prog 133 [Af .row a0] 0 [] 1 (Ait a0) 1 (Uz a0):=Az (An Blj Ay) (A2x a0) hp
def Abg (a0:TRow):A:=.agg [.v (.string a0.1),.sq 0]
def Abe (a0:TRow):Objs:=[(0,some (.arr 55 8 (.ty .cell a0.2)))]
def Yp (a0:TRow):List Prop:=[Ag a0.2.length]
theorem A2w (a:TRow):Uy a=a.2:=by
 have hk:(HH a).length=a.2.length:=by
  unfold HH
  simp
 unfold Uy
 rw[hk,List.take_length,List.take_zero,List.nil_append]
 have:List.drop (0+a.2.length.min a.2.length) (HH a)=[]:=List.drop_eq_nil_of_le (by rw[hk];show a.2.length≤0+min a.2.length a.2.length;omega)
 rw[this,List.append_nil]
theorem A2v (a0:TRow) (hp:∀p∈Yp a0,p):CallOk Try.prog 133 [Af .row a0] 0 [] 1 (Abg a0) 1 (Abe a0):=by
 have hb:Ag a0.2.length:=hp _ (List.mem_cons_self ..)
 unfold Ag at hb
 have h:=A9o a0 (Aa (by omega) Ad)
 unfold Uz at h
 rw[A2w] at h
 exact h
def Aiu:List A→Nat→Objs→Option A3:=Bg [.t .row] 1 Abg Abe Yp
theorem Az7:Fi Try.prog 133 Aiu:=Aq (ks:=[.t .row]) A2v
noncomputable def Bq8:=A4 133 Aiu B0j
theorem A51:Dd Try.prog Bq8:=Am Az7 Blj
abbrev C5:Type:=(List TCell)×Int×Int×ByteArray×(List TCell)
def M0 (x:C5):St:=⟨60,9,[(11,.own 7 0),(39,.sl .cell x.1),(40,.v (.int .i64 x.2.1)),(41,.v (.int .i64 x.2.2.1))],[(7,some (.box 71 [.v (.string x.2.2.2.1),.sq 8])),(8,some (.arr 55 8 (.ty .cell x.2.2.2.2)))]⟩
def PW:St→Option C5
 |⟨60,9,[(11,.own 7 0),(39,.sl .cell z0),(40,.v (.int .i64 z1)),(41,.v (.int .i64 z2))],[(7,some (.box 71 [.v (.string z3),.sq 8])),(8,some (.arr 55 8 (.ty .cell z4)))]⟩=>some (z0,z1,z2,z3,z4)
 |_=>none
theorem Amk:∀s x,PW s=some x→s=M0 x:=fun s x h=>by
 unfold PW at h
 split at h
 ·cases h;rfl
 ·cases h
def Aa8:De:=⟨8,9,[11,39,40,41],[],[(7,7),(8,8)],[7,8],[],[7,8]⟩
def A2q:Dy:=⟨[],[(7,7),(6,8)],[11,39,40,41],[7,6]⟩
def NU (a0:List TCell) (_a1:Int) (a2:Int) (_a3:ByteArray) (a4:List TCell):List TCell:=a4.set a2.toNat (Lk (a4.getD a2.toNat (Ac TC.cell)) (a0.getD a2.toNat (Ac TC.cell)))
def Fa (x:C5):C5:=(x.1,x.2.1,IntKind.i64.wrap (x.2.2.1+(1:Int)),x.2.2.2.1,NU x.1 x.2.1 x.2.2.1 x.2.2.2.1 x.2.2.2.2)
def E9 (x:C5):Cnd:=some (!!decide (x.2.2.1 <x.2.1))
def Vz (x:C5):List Prop:=[((!!decide (x.2.2.1 <x.2.1))=true→(0:Int)≤x.2.2.1∧x.2.2.1 <(↑x.1.length:Int)),((!!decide (x.2.2.1 <x.2.1))=true→(0:Int)≤x.2.2.1∧x.2.2.1 <(↑x.2.2.2.2.length:Int)),((!!decide (x.2.2.1 <x.2.1))=true→x.2.2.1.toNat <x.2.2.2.2.length),((!!decide (x.2.2.1 <x.2.1))=true→(0:Int)≤x.2.2.1∧x.2.2.1 <(↑x.2.2.2.2.length:Int)),((!!decide (x.2.2.1 <x.2.1))=true→x.2.2.1.toNat <x.2.2.2.2.length)]
def In (x:C5):List Prop:=[((!!decide (x.2.2.1 <x.2.1))=true→(0:Int)≤x.2.2.1∧x.2.2.1 <(↑x.1.length:Int)),((!!decide (x.2.2.1 <x.2.1))=true→(0:Int)≤x.2.2.1∧x.2.2.1 <(↑x.2.2.2.2.length:Int))]
def Tu (x:C5):Bj:=[(some 2,some (!decide (x.2.2.1 <x.2.1)),⟨60,9,[],[(7,some (.box 71 [.v (.string x.2.2.2.1),.sq 8])),(8,some (.arr 55 8 (.ty .cell x.2.2.2.2)))]⟩)]
def GN (x:C5):Nat:=(x.2.1 - x.2.2.1).toNat
def NV (x:C5):C5:=A9 Fa E9 (GN x) x
theorem Azv (a0:List TCell) (a1:Int) (a2:Int) (a3:ByteArray) (a4:List TCell):Bw (As Bq8 L0) 9 (Ae Try.prog 71 2) Aa8 (M0 (a0,a1,a2,a3,a4))=some (Vz (a0,a1,a2,a3,a4),Tu (a0,a1,a2,a3,a4),E9 (a0,a1,a2,a3,a4),M0 (Fa (a0,a1,a2,a3,a4))):=by kernel_rfl
theorem Azw (a0:List TCell) (a1:Int) (a2:Int) (a3:ByteArray) (a4:List TCell) (hp:∀p∈In (a0,a1,a2,a3,a4),p):∀p∈Vz (a0,a1,a2,a3,a4),p:=by
 have n0:=N0 hp
 have n1:((!!decide (a2 <a1))=true→(0:Int)≤a2∧a2 <(↑a4.length:Int)):=N0 (N1 hp)
 have n2:((!!decide (a2 <a1))=true→a2.toNat <a4.length):=by intro h0;have g:=n1 h0;omega
 exact(Aa n0 (Aa n1 (Aa n2 (Aa n1 (Aa n2 Ad)))))
noncomputable def VA:=HG (As Bq8 L0) (Ae Try.prog 71 2) Aa8 A2q PW GN Fa E9 In Tu
theorem As3:∀s b ps outs,VA s=some (b,ps,outs)→Wf s ⟨ps,outs,none⟩∧Bt (As C0 L0) b s ps outs:=
 Bh (T:=M0) A51 Ay (u:=9) (by kernel_rfl) (by decide) (fun⟨a0,a1,a2,a3,a4⟩=>Azv a0 a1 a2 a3 a4) (fun⟨a0,a1,a2,a3,a4⟩=>Azw a0 a1 a2 a3 a4) Amk (fun _=>AK (n:=60) rfl) fun _ _=>rfl
noncomputable def Aa7:=DI 2 VA L0
theorem As2:G9 Aa7:=AV As3 Ay
def Fr (_a0:List TGroup) (a1:TRow) (a2:TRow):Bool:=!a1.1.toList==a2.1.toList
def Ix (a0:List TGroup) (a1:TRow) (_a2:TRow):Bool:=Ai a0 a1 !=(0:Int)
def Fq (a0:List TGroup) (a1:TRow) (a2:TRow):Bool:=(Ix a0 a1 a2)||Ai a0 a2 !=(0:Int)
def Aee (a0:List TGroup) (a1:TRow) (a2:TRow):ByteArray:=bif(Fq a0 a1 a2) then bif(Ix a0 a1 a2) then ByteArray.mk #[] else ByteArray.mk #[] else bif(Fr a0 a1 a2) then ByteArray.mk #[] else(NV (a2.2,(↑a2.2.length:Int),(0:Int),a1.1,a1.2)).snd.snd.snd.fst
def Aef (a0:List TGroup) (a1:TRow) (a2:TRow):Int:=bif(Fq a0 a1 a2) then bif(Ix a0 a1 a2) then Ai a0 a1 else Ai a0 a2 else bif(Fr a0 a1 a2) then(100:Int) else(0:Int)
def Aeg (a0:List TGroup) (a1:TRow) (a2:TRow):List TCell:=bif(Fq a0 a1 a2) then[] else bif(Fr a0 a1 a2) then[] else(NV (a2.2,(↑a2.2.length:Int),(0:Int),a1.1,a1.2)).snd.snd.snd.snd
def Aei (a0:List TGroup) (a1:TRow) (a2:TRow):A:=.tup [.agg [.v (.string (Aee a0 a1 a2)),.sq 0],.v (.int .i64 (Aef a0 a1 a2))]
def Aeh (a0:List TGroup) (a1:TRow) (a2:TRow):Objs:=[(0,some (.arr 55 8 (.ty .cell (Aeg a0 a1 a2))))]
def Bfs (a0:List TGroup) (a1:TRow) (a2:TRow):List Prop:=[((!(Fq a0 a1 a2))=true→(!(Fr a0 a1 a2))=true→Ag a1.2.length),((!(Fq a0 a1 a2))=true→(!(Fr a0 a1 a2))=true→AD Fa E9 In (GN (a2.2,(↑a2.2.length:Int),(0:Int),a1.1,a1.2)) (a2.2,(↑a2.2.length:Int),(0:Int),a1.1,a1.2))]
theorem Bfr (a0:List TGroup) (a1:TRow) (a2:TRow):Ff (As Bq8 Aa7) 9 71 [.sl .group a0,Af .row a1,Af .row a2] 0 []=some (1,Aei a0 a1 a2,1,Aeh a0 a1 a2,[((0:Int)≤(0:Int)∧(0:Int) <(↑(2:Nat):Int)),((0:Nat) <(2:Nat)),((!(Ix a0 a1 a2))=true→(0:Int)≤(1:Int)∧(1:Int) <(↑(2:Nat):Int)),((!(Ix a0 a1 a2))=true→(1:Nat) <(2:Nat)),((!(Fq a0 a1 a2))=true→(!(Fr a0 a1 a2))=true→Ag a1.2.length),((!(Fq a0 a1 a2))=true→(!(Fr a0 a1 a2))=true→Ae Try.prog (71:FuncId) (2:Nat)=Ae Try.prog (71:FuncId) (2:Nat)),((!(Fq a0 a1 a2))=true→(!(Fr a0 a1 a2))=true→AD Fa E9 In (GN (a2.2,(↑a2.2.length:Int),(0:Int),a1.1,a1.2)) (a2.2,(↑a2.2.length:Int),(0:Int),a1.1,a1.2))]):=by kernel_rfl
theorem Bjp (a0:List TGroup) (a1:TRow) (a2:TRow) (hp:∀p∈Bfs a0 a1 a2,p):CallOk Try.prog 71 [.sl .group a0,Af .row a1,Af .row a2] 0 [] 1 (Aei a0 a1 a2) 1 (Aeh a0 a1 a2):=by
 have n0:((0:Int)≤(0:Int)∧(0:Int) <(↑(2:Nat):Int)):=by first|rfl|decide+kernel
 have n1:((0:Nat) <(2:Nat)):=by first|rfl|decide+kernel
 have n2:((!(Ix a0 a1 a2))=true→(0:Int)≤(1:Int)∧(1:Int) <(↑(2:Nat):Int)):=by omega
 have n3:((!(Ix a0 a1 a2))=true→(1:Nat) <(2:Nat)):=by omega
 have n4:=N0 hp
 have n5:((!(Fq a0 a1 a2))=true→(!(Fr a0 a1 a2))=true→Ae Try.prog (71:FuncId) (2:Nat)=Ae Try.prog (71:FuncId) (2:Nat)):=by intros;rfl
 have n6:=N0 (N1 hp)
 exact Az (An A51 As2) (Bfr a0 a1 a2) (Aa n0 (Aa n1 (Aa n2 (Aa n3 (Aa n4 (Aa n5 (Aa n6 Ad)))))))
def jnK (l:List TGroup) (a b:TRow):ByteArray:=bif jnE l a b==0 then a.key else⟨#[]⟩
def jnL (l:List TGroup) (a b:TRow):List TCell:=bif jnE l a b==0 then jnN a.cells b.cells b.cells.length else[]
def Ap4 (a0:List TGroup) (a1:TRow) (a2:TRow):A:=.tup [.agg [.v (.string (jnK a0 a1 a2)),.sq 0],.v (.int .i64 (jnE a0 a1 a2))]
def Ap3 (a0:List TGroup) (a1:TRow) (a2:TRow):Objs:=[(0,some (.arr 55 8 (.ty .cell (jnL a0 a1 a2))))]
def Aik (_a0:List TGroup) (_a1:TRow) (_a2:TRow):List Prop:=[]
theorem A2r (key:ByteArray) (us ws:List TCell) (hl:us.length=ws.length) (h4:ws.length≤4):
  AD Fa E9 In (GN (ws,(ws.length:Int),0,key,us)) (ws,(ws.length:Int),0,key,us)∧
  NV (ws,(ws.length:Int),0,key,us)=(ws,(ws.length:Int),(ws.length:Int),key,jnN us ws ws.length):=by
 obtain⟨h1,k,hk,hx,_,hst,_⟩:=IW (fun i=>(ws,(ws.length:Int),(i:Int),key,jnN us ws i):Nat→C5) ws.length (fun _=>false) Fa E9 In (GN (ws,(ws.length:Int),0,key,us)) (ws,(ws.length:Int),0,key,us) rfl (by show ws.length≤((ws.length:Int) - 0).toNat;omega)
  (fun i _ _=>by
   show(!!decide ((i:Int) <(ws.length:Int)))=_
   rw[nn,M9,Bool.not_false,Bool.and_true])
  (fun i hi _=>by
   show(ws,(ws.length:Int),IntKind.i64.wrap ((i:Int)+1),key,NU ws (ws.length:Int) (i:Int) key (jnN us ws i))=(ws,(ws.length:Int),((i+1:Nat):Int),key,jnN us ws (i+1))
   unfold NU
   rw[Fd (by omega),Int.toNat_natCast]
   rfl)
  (fun i hi _=>by
   have hin:(!!decide ((i:Int) <(ws.length:Int)))=true→i <ws.length:=fun h=>by rw[nn] at h;have:=of_decide_eq_true h;omega
   have hlen:=Af2 us ws i
   exact Aa (fun h=>⟨by show(0:Int)≤(i:Int);omega,by have:=hin h;show(i:Int) <(ws.length:Int);omega⟩) (Aa (fun h=>⟨by show(0:Int)≤(i:Int);omega,by have:=hin h;show(i:Int) <((jnN us ws i).length:Int);omega⟩) Ad))
 have hkn:k=ws.length:=by
  rcases Nat.lt_or_ge k ws.length with h|h
  ·exact absurd (hst h) (by decide)
  ·omega
 subst hkn
 exact⟨h1,hx⟩
theorem Bfq (a0:List TGroup) (a1:TRow) (a2:TRow) (_hp:∀p∈Aik a0 a1 a2,p):CallOk Try.prog 71 [.sl .group a0,Af .row a1,Af .row a2] 0 [] 1 (Ap4 a0 a1 a2) 1 (Ap3 a0 a1 a2):=by
 have hgood:(!(Fq a0 a1 a2))=true→Ai a0 a1=0∧Ai a0 a2=0:=fun h=>by
  have h':(!((Ai a0 a1 !=0)||(Ai a0 a2 !=0)))=true:=h
  rw[Bool.not_or,Bool.and_eq_true] at h'
  exact⟨by simpa using h'.1,by simpa using h'.2⟩
 have hloop:Ai a0 a1=0→Ai a0 a2=0→_:=fun g1 g2=>A2r a1.1 a1.2 a2.2 (((AJ g1).2.1).trans ((AJ g2).2.1).symm) (by have:=(G7 (AJ g2).1).2;have:=(AJ g2).2.1;show a2.cells.length≤4;omega)
 have h:=Bjp a0 a1 a2 (Aa (fun h _=>by
   obtain⟨g1,_⟩:=hgood h
   have:=(G7 (AJ g1).1).2
   have:=(AJ g1).2.1
   show Ag a1.cells.length
   unfold Ag
   omega) (Aa (fun h _=>(hloop (hgood h).1 (hgood h).2).1) Ad))
 have e:Aee a0 a1 a2=jnK a0 a1 a2∧Aef a0 a1 a2=jnE a0 a1 a2∧Aeg a0 a1 a2=jnL a0 a1 a2:=by
  have k0:Fq a0 a1 a2=((Ai a0 a1 !=0)||(Ai a0 a2 !=0)):=rfl
  have k1:Ix a0 a1 a2=(Ai a0 a1 !=0):=rfl
  have k2:Fr a0 a1 a2=!(a1.key==a2.key):=by
   unfold Fr
   rw[tlb]
  unfold Aee Aef Aeg jnK jnL jnE
  rw[k0,k1,k2]
  cases g1:Ai a0 a1 !=0 with
  |true=>
   have:(Ai a0 a1==0)=false:=by simpa using g1
   rw[Bool.true_or,cond_true,cond_true,cond_true,cond_true,cond_true,this]
   refine⟨?_,?_,?_⟩<;>first|rfl|trivial
  | false=>
   cases g2:Ai a0 a2 !=0 with
   |true=>
    have:(Ai a0 a2==0)=false:=by simpa using g2
    rw[Bool.false_or]
    simp only[cond_true,cond_false,this]
    refine⟨?_,?_,?_⟩<;>first|rfl|trivial
   | false=>
    rw[Bool.false_or]
    simp only[cond_false]
    cases hk:a1.key==a2.key with
    |false=>refine⟨?_,?_,?_⟩<;>first|rfl|trivial
    |true=>
     rw[(hloop (by simpa using g1) (by simpa using g2)).2]
     refine⟨?_,?_,?_⟩<;>first|rfl|trivial
 unfold Aei Aeh at h
 rw[e.1,e.2.1,e.2.2] at h
 exact h
def Azx:List A→Nat→Objs→Option A3:=Bg [.l .group,.t .row,.t .row] 1 Ap4 Ap3 Aik
theorem A9h:Fi Try.prog 71 Azx:=Aq (ks:=[.l .group,.t .row,.t .row]) Bfq
noncomputable def B0k:=A4 71 Azx Bq8
theorem Blk:Dd Try.prog B0k:=Am A9h A51
def CQ (a0:List TGroup) (_a1:TRow) (a2:Int) (_a3:TCell):Bool:=JA a0 a2 !=(0:Int)
def BJ (a0:List TGroup) (a1:TRow) (_a2:Int) (_a3:TCell):Bool:=Ai a0 a1 !=(0:Int)
def Yk (a0:List TGroup) (a1:TRow) (a2:Int) (a3:TCell):ByteArray:=bif(BJ a0 a1 a2 a3) then ByteArray.mk #[] else bif(CQ a0 a1 a2 a3) then ByteArray.mk #[] else bif !AX (CV a0 a2) a3 then ByteArray.mk #[] else a1.1
def Yl (a0:List TGroup) (a1:TRow) (a2:Int) (a3:TCell):Int:=bif(BJ a0 a1 a2 a3) then Ai a0 a1 else bif(CQ a0 a1 a2 a3) then JA a0 a2 else bif !AX (CV a0 a2) a3 then(80:Int) else(0:Int)
def Ym (a0:List TGroup) (a1:TRow) (a2:Int) (a3:TCell):List TCell:=bif(BJ a0 a1 a2 a3) then[] else bif(CQ a0 a1 a2 a3) then[] else bif !AX (CV a0 a2) a3 then[] else a1.2.set a2.toNat (Lk (a1.2.getD a2.toNat (Ac TC.cell)) a3)
def Yo (a0:List TGroup) (a1:TRow) (a2:Int) (a3:TCell):A:=.tup [.agg [.v (.string (Yk a0 a1 a2 a3)),.sq 0],.v (.int .i64 (Yl a0 a1 a2 a3))]
def Yn (a0:List TGroup) (a1:TRow) (a2:Int) (a3:TCell):Objs:=[(0,some (.arr 55 8 (.ty .cell (Ym a0 a1 a2 a3))))]
def A9n (a0:List TGroup) (a1:TRow) (a2:Int) (a3:TCell):List Prop:=[((!(BJ a0 a1 a2 a3))=true→(!Hw a0 a2)=true→(!DF a0 a2)=true→(0:Int)≤a2∧a2 <(↑a0.length:Int)),((!(BJ a0 a1 a2 a3))=true→(!(CQ a0 a1 a2 a3))=true→(!!AX (CV a0 a2) a3)=true→Ag a1.2.length),((!(BJ a0 a1 a2 a3))=true→(!(CQ a0 a1 a2 a3))=true→(!!AX (CV a0 a2) a3)=true→(0:Int)≤a2∧a2 <(↑a1.2.length:Int))]
theorem A9m (a0:List TGroup) (a1:TRow) (a2:Int) (a3:TCell):Ff (As B0k L0) 9 72 [.sl .group a0,Af .row a1,Af .i64 a2,Af .cell a3] 0 []=some (1,Yo a0 a1 a2 a3,1,Yn a0 a1 a2 a3,[((!(BJ a0 a1 a2 a3))=true→(!Hw a0 a2)=true→(!DF a0 a2)=true→(0:Int)≤a2∧a2 <(↑a0.length:Int)),((!(BJ a0 a1 a2 a3))=true→(!(CQ a0 a1 a2 a3))=true→(!!AX (CV a0 a2) a3)=true→Ag a1.2.length),((!(BJ a0 a1 a2 a3))=true→(!(CQ a0 a1 a2 a3))=true→(!!AX (CV a0 a2) a3)=true→(0:Int)≤a2∧a2 <(↑a1.2.length:Int)),((!(BJ a0 a1 a2 a3))=true→(!(CQ a0 a1 a2 a3))=true→(!!AX (CV a0 a2) a3)=true→a2.toNat <a1.2.length),((!(BJ a0 a1 a2 a3))=true→(!(CQ a0 a1 a2 a3))=true→(!!AX (CV a0 a2) a3)=true→(0:Int)≤a2∧a2 <(↑a1.2.length:Int)),((!(BJ a0 a1 a2 a3))=true→(!(CQ a0 a1 a2 a3))=true→(!!AX (CV a0 a2) a3)=true→a2.toNat <a1.2.length)]):=by kernel_rfl
theorem Bfz (a0:List TGroup) (a1:TRow) (a2:Int) (a3:TCell) (hp:∀p∈A9n a0 a1 a2 a3,p):CallOk Try.prog 72 [.sl .group a0,Af .row a1,Af .i64 a2,Af .cell a3] 0 [] 1 (Yo a0 a1 a2 a3) 1 (Yn a0 a1 a2 a3):=by
 have n0:=N0 hp
 have n1:=N0 (N1 hp)
 have n2:((!(BJ a0 a1 a2 a3))=true→(!(CQ a0 a1 a2 a3))=true→(!!AX (CV a0 a2) a3)=true→(0:Int)≤a2∧a2 <(↑a1.2.length:Int)):=N0 (N1 (N1 hp))
 have n3:((!(BJ a0 a1 a2 a3))=true→(!(CQ a0 a1 a2 a3))=true→(!!AX (CV a0 a2) a3)=true→a2.toNat <a1.2.length):=by intro h0 h1 h2;have g:=n2 h0 h1 h2;omega
 exact Az (An Blk Ay) (A9m a0 a1 a2 a3) (Aa n0 (Aa n1 (Aa n2 (Aa n3 (Aa n2 (Aa n3 Ad))))))
def wrK (l:List TGroup) (r:TRow) (g:Int) (c:TCell):ByteArray:=bif wrE l r g c==0 then r.key else⟨#[]⟩
def wrL (l:List TGroup) (r:TRow) (g:Int) (c:TCell):List TCell:=bif wrE l r g c==0 then B3j r.cells g.toNat c else[]
def Ais (a0:List TGroup) (a1:TRow) (a2:Int) (a3:TCell):A:=.tup [.agg [.v (.string (wrK a0 a1 a2 a3)),.sq 0],.v (.int .i64 (wrE a0 a1 a2 a3))]
def Air (a0:List TGroup) (a1:TRow) (a2:Int) (a3:TCell):Objs:=[(0,some (.arr 55 8 (.ty .cell (wrL a0 a1 a2 a3))))]
def Abd (_a0:List TGroup) (_a1:TRow) (_a2:Int) (_a3:TCell):List Prop:=[]
theorem A9l (a0:List TGroup) (a1:TRow) (a2:Int) (a3:TCell) (_hp:∀p∈Abd a0 a1 a2 a3,p):CallOk Try.prog 72 [.sl .group a0,Af .row a1,Af .i64 a2,Af .cell a3] 0 [] 1 (Ais a0 a1 a2 a3) 1 (Air a0 a1 a2 a3):=by
 have hgood:(!(BJ a0 a1 a2 a3))=true→Ai a0 a1=0:=fun h=>by
  have h':(!(Ai a0 a1 !=0))=true:=h
  simpa using h'
 have h4:Ai a0 a1=0→a1.cells.length=a0.length∧a0.length≤4:=fun g=>⟨(AJ g).2.1,(G7 (AJ g).1).2⟩
 have hin:(!DF a0 a2)=true→0≤a2∧a2 <(a0.length:Int):=fun h=>by
  have h':(!(decide (a2 <0)||decide (a2≥(a0.length:Int))))=true:=h
  rw[Bool.not_or,Bool.and_eq_true,Bool.not_eq_true',Bool.not_eq_true'] at h'
  have:=of_decide_eq_false h'.1
  have:=of_decide_eq_false h'.2
  omega
 have k1:Ai a0 a1=0→CQ a0 a1 a2 a3=DF a0 a2:=fun g=>by
  have hp:(AR a0 !=0)=false:=by rw[(AJ g).1];rfl
  have e1:JA a0 a2=bif DF a0 a2 then 70 else 0:=by
   unfold JA Hw
   rw[hp]
   rfl
  unfold CQ
  rw[e1]
  cases DF a0 a2<;>rfl
 have h:=Bfz a0 a1 a2 a3 (Aa (fun _ _ g=>hin g) (Aa (fun g _ _=>by
   obtain⟨q1,q2⟩:=h4 (hgood g)
   show Ag a1.cells.length
   unfold Ag
   omega) (Aa (fun g g1 _=>by
   obtain⟨q1,q2⟩:=h4 (hgood g)
   rw[k1 (hgood g)] at g1
   have:=hin g1
   show(0:Int)≤a2∧a2 <(a1.cells.length:Int)
   omega) Ad)))
 have e:Yk a0 a1 a2 a3=wrK a0 a1 a2 a3∧Yl a0 a1 a2 a3=wrE a0 a1 a2 a3∧Ym a0 a1 a2 a3=wrL a0 a1 a2 a3:=by
  have k0:BJ a0 a1 a2 a3=(Ai a0 a1 !=0):=rfl
  unfold Yk Yl Ym wrK wrL wrE
  rw[k0]
  cases g1:Ai a0 a1 !=0 with
  |true=>
   have:(Ai a0 a1==0)=false:=by simpa using g1
   simp only[cond_true,this]
   refine⟨?_,?_,?_⟩<;>first|rfl|trivial
  | false=>
   have g0:Ai a0 a1=0:=by simpa using g1
   have hp:(AR a0 !=0)=false:=by rw[(AJ g0).1];rfl
   have e1:JA a0 a2=bif DF a0 a2 then 70 else 0:=by
    unfold JA Hw
    rw[hp]
    rfl
   have kk:DF a0 a2=(decide (a2 <0)||decide (a2≥(a0.length:Int))):=rfl
   rw[k1 g0,e1,←kk]
   cases g2:DF a0 a2 with
   |true=>refine⟨?_,?_,?_⟩<;>first|rfl|trivial
   | false=>
    have e0:CV a0 a2=LW a0 a2.toNat:=by
     unfold CV Hw
     rw[hp,g2]
     rfl
    rw[e0,IB]
    cases Bv (LW a0 a2.toNat) a3<;>refine⟨?_,?_,?_⟩<;>first|rfl|trivial
 unfold Yo Yn at h
 rw[e.1,e.2.1,e.2.2] at h
 exact h
def Aqb:List A→Nat→Objs→Option A3:=Bg [.l .group,.t .row,.t .i64,.t .cell] 1 Ais Air Abd
theorem A2u:Fi Try.prog 72 Aqb:=Aq (ks:=[.l .group,.t .row,.t .i64,.t .cell]) A9l
noncomputable def B13:=A4 72 Aqb B0k
theorem Bvl:Dd Try.prog B13:=Am A2u Blk
noncomputable def Cs:=B13
theorem Byv:Dd Try.prog Cs:=Bvl
end Go.Proofs.Yteebobbhhgmeiaa
namespace Go.Proofs.Yteebobbhhgmeiaa
open Go.RowKit
structure Stt (l:List TGroup) (rows:List TRow):Prop where
 rise:Om rows
 good:∀r∈rows,Ai l r=0∧Hn r=false
theorem Bnb {l:List TGroup} {rows:List TRow} (hp:AR l=0):Gk l rows=0↔Stt l rows:=by
 constructor
 ·intro h
  have h2:=(Ati.1 h).2
  refine⟨Bxk h2,fun r hr=>?_⟩
  obtain⟨i,hi,rfl⟩:=List.getElem_of_mem hr
  have:=Bhm.1 (h2 i hi)
  rw[Ts hi] at this
  exact⟨this.1,this.2.1⟩
 ·exact fun h=>A6w hp h.good h.rise
theorem Att (l:List TGroup):Stt l []:=⟨List.Pairwise.nil,fun r hr=>by cases hr⟩
theorem Stt.tail {l:List TGroup} {x:TRow} {a:List TRow} (h:Stt l (x::a)):Stt l a:=⟨(List.pairwise_cons.1 h.rise).2,fun r hr=>h.good r (List.mem_cons_of_mem _ hr)⟩
def M4 (rows:List TRow) (k:ByteArray):Option TRow:=rows.find? fun r=>r.key==k
theorem CJ (x:TRow) (a:List TRow) (k:ByteArray):M4 (x::a) k=if x.key=k then some x else M4 a k:=by
 unfold M4
 rw[List.find?_cons]
 by_cases h:x.key=k
 ·rw[if_pos h,beq_iff_eq.2 h]
 ·rw[if_neg h,beq_eq_false_iff_ne.2 h]
theorem A56 {a:List TRow} {k:ByteArray} {r:TRow} (h:M4 a k=some r):r.key=k:=by
 have:=List.find?_some h
 exact eq_of_beq this
theorem A57 {a:List TRow} {k:ByteArray} {r:TRow} (h:M4 a k=some r):r∈a:=List.mem_of_find?_eq_some h
theorem Brb {x:TRow} {a:List TRow} (h:Om (x::a)) {k:ByteArray} {r:TRow} (hf:M4 a k=some r):Jd x.key k=true:=by
 rw[←A56 hf]
 exact(List.pairwise_cons.1 h).1 r (A57 hf)
theorem Bbo {x:TRow} {a:List TRow} (h:Om (x::a)):M4 a x.key=none:=by
 cases hf:M4 a x.key with
 |none=>rfl
 |some r=>exact absurd rfl (Ua (Brb h hf))
theorem Boc {a b:ByteArray} (h:Jd a b=true):Jd b a=false:=by
 cases g:Jd b a with
 |false=>rfl
 |true=>exact absurd rfl (Ua (KY h g))
theorem Qe {x:TRow} {a:List TRow} (h:Om (x::a)) {k:ByteArray} (hk:Jd k x.key=true):M4 (x::a) k=none:=by
 rw[CJ,if_neg (fun e=>Ua hk e.symm)]
 cases hf:M4 a k with
 |none=>rfl
 |some r=>
  have:=Boc (Brb h hf)
  rw[hk] at this
  cases this
theorem Bfm:∀{a b:List TRow},Om a→Om b→(∀k,M4 a k=M4 b k)→a=b
 | [],[],_,_,_=>rfl
 |x::a,[],_,_,h=>by
  have:=h x.key
  rw[CJ,if_pos rfl] at this
  cases this
 | [],y::b,_,_,h=>by
  have:=h y.key
  rw[CJ,if_pos rfl] at this
  cases this
 | x ::a,y::b,ha,hb,h=>by
  have hxy:x.key=y.key:=by
   cases h1:Jd x.key y.key with
   |true=>
    have:=h x.key
    rw[CJ,if_pos rfl,Qe hb h1] at this
    cases this
   | false=>
    cases h2:Jd y.key x.key with
    |true=>
     have:=h y.key
     rw[Qe ha h2,CJ,if_pos rfl] at this
     cases this
    |false=>
     by_cases e:x.key=y.key
     ·exact e
     ·rw[YR h1 e] at h2;cases h2
  have hx:x=y:=by
   have:=h x.key
   rw[CJ,if_pos rfl,CJ,if_pos hxy.symm] at this
   exact Option.some.inj this
  subst hx
  congr 1
  refine Bfm (List.pairwise_cons.1 ha).2 (List.pairwise_cons.1 hb).2 fun k=>?_
  by_cases e:x.key=k
  ·subst e
   rw[Bbo ha,Bbo hb]
  ·have:=h k
   rwa[CJ,CJ,if_neg e,if_neg e] at this
def Xu:Option TRow→Option TRow→Option TRow
 |some x,some y=>some (jnR x y)
 |some x,none=>some x
 |none,y=>y
theorem Alc (x:Option TRow):Xu x none=x:=by cases x<;>rfl
def mrg:Nat→List TRow→List TRow→List TRow
 |0,_,_=>[]
 |_+1,[],[]=>[]
 |n+1,x::a,[]=>x::mrg n a []
 |n+1,[],y::b=>y::mrg n [] b
 |n+1,x::a,y::b=>bif Jd x.key y.key then x::mrg n a (y::b) else bif Jd y.key x.key then y::mrg n (x::a) b else jnR x y::mrg n a b
theorem A67 {x y:ByteArray} (h1:Jd x y=false) (h2:Jd y x=false):x=y:=by
 by_cases e:x=y
 ·exact e
 ·rw[YR h1 e] at h2;cases h2
theorem Nf:∀(n:Nat) {a b:List TRow},Om a→Om b→a.length+b.length≤n→∀k,M4 (mrg n a b) k=Xu (M4 a k) (M4 b k)
 |0,a,b,_,_,hn,k=>by
  have h1:a=[]:=List.eq_nil_of_length_eq_zero (by omega)
  have h2:b=[]:=List.eq_nil_of_length_eq_zero (by omega)
  subst h1 h2
  rfl
 |n+1,[],[],_,_,_,k=>rfl
 |n+1,x::a,[],ha,hb,hn,k=>by
  have ih:=Nf n (List.pairwise_cons.1 ha).2 hb (by simp at hn⊢;omega) k
  show M4 (x::mrg n a []) k=Xu (M4 (x::a) k) none
  have e:M4 [] k=none:=rfl
  rw[CJ,CJ,ih,e,Alc,Alc]
 |n+1,[],y::b,ha,hb,hn,k=>by
  have ih:=Nf n ha (List.pairwise_cons.1 hb).2 (by simp at hn⊢;omega) k
  show M4 (y::mrg n [] b) k=M4 (y::b) k
  rw[CJ,CJ,ih]
  rfl
 | n +1,x::a,y::b,ha,hb,hn,k=>by
  simp only[List.length_cons] at hn
  show M4 (bif Jd x.key y.key then x::mrg n a (y::b) else bif Jd y.key x.key then y::mrg n (x::a) b else jnR x y::mrg n a b) k=_
  cases h1:Jd x.key y.key with
  | true=>
   have ih:=Nf n (List.pairwise_cons.1 ha).2 hb (by simp;omega) k
   rw[cond_true,CJ,ih,CJ x a]
   by_cases e:x.key=k
   ·rw[if_pos e,if_pos e,←e,Qe hb h1]
    rfl
   ·rw[if_neg e,if_neg e]
  | false=>
   cases h2:Jd y.key x.key with
   | true=>
    have ih:=Nf n ha (List.pairwise_cons.1 hb).2 (by simp;omega) k
    rw[cond_false,cond_true,CJ,ih,CJ y b]
    by_cases e:y.key=k
    ·rw[if_pos e,if_pos e,←e,Qe ha h2]
     rfl
    ·rw[if_neg e,if_neg e]
   | false=>
    have hxy:=A67 h1 h2
    have ih:=Nf n (List.pairwise_cons.1 ha).2 (List.pairwise_cons.1 hb).2 (by omega) k
    rw[cond_false,cond_false,CJ,ih,CJ x a,CJ y b]
    show(if x.key=k then _ else _)=_
    by_cases e:x.key=k
    ·rw[if_pos e,if_pos e,if_pos (hxy▸e)]
     rfl
    ·rw[if_neg e,if_neg e,if_neg (hxy▸e)]
theorem ML:∀(n:Nat) {a b:List TRow} {r:TRow},r∈mrg n a b→(∃x∈a,r.key=x.key)∨(∃y∈b,r.key=y.key)
 |0,_,_,r,h=>by cases h
 |n+1,[],[],r,h=>by cases h
 | n+1,x::a,[],r,h=>by
  rcases List.mem_cons.1 h with rfl|h
  ·exact .inl ⟨r,List.mem_cons_self ..,rfl⟩
  ·rcases ML n h with⟨z,hz,e⟩|⟨z,hz,e⟩
   ·exact .inl ⟨z,List.mem_cons_of_mem _ hz,e⟩
   ·exact .inr ⟨z,hz,e⟩
 | n+1,[],y::b,r,h=>by
  rcases List.mem_cons.1 h with rfl|h
  ·exact .inr ⟨r,List.mem_cons_self ..,rfl⟩
  ·rcases ML n h with⟨z,hz,e⟩|⟨z,hz,e⟩
   ·exact .inl ⟨z,hz,e⟩
   ·exact .inr ⟨z,List.mem_cons_of_mem _ hz,e⟩
 | n +1,x::a,y::b,r,h=>by
  have h':r∈(bif Jd x.key y.key then x::mrg n a (y::b) else bif Jd y.key x.key then y::mrg n (x::a) b else jnR x y::mrg n a b):=h
  cases h1:Jd x.key y.key with
  | true=>
   rw[h1] at h'
   rcases List.mem_cons.1 h' with rfl|h'
   ·exact .inl ⟨r,List.mem_cons_self ..,rfl⟩
   ·rcases ML n h' with⟨z,hz,e⟩|⟨z,hz,e⟩
    ·exact .inl ⟨z,List.mem_cons_of_mem _ hz,e⟩
    ·exact .inr ⟨z,hz,e⟩
  | false=>
   rw[h1] at h'
   cases h2:Jd y.key x.key with
   | true=>
    rw[h2] at h'
    rcases List.mem_cons.1 h' with rfl|h'
    ·exact .inr ⟨r,List.mem_cons_self ..,rfl⟩
    ·rcases ML n h' with⟨z,hz,e⟩|⟨z,hz,e⟩
     ·exact .inl ⟨z,hz,e⟩
     ·exact .inr ⟨z,List.mem_cons_of_mem _ hz,e⟩
   | false=>
    rw[h2] at h'
    rcases List.mem_cons.1 h' with rfl|h'
    ·exact .inl ⟨x,List.mem_cons_self ..,rfl⟩
    ·rcases ML n h' with⟨z,hz,e⟩|⟨z,hz,e⟩
     ·exact .inl ⟨z,List.mem_cons_of_mem _ hz,e⟩
     ·exact .inr ⟨z,List.mem_cons_of_mem _ hz,e⟩
theorem Pm:∀(n:Nat) {a b:List TRow},Om a→Om b→Om (mrg n a b)
 |0,_,_,_,_=>List.Pairwise.nil
 |n+1,[],[],_,_=>List.Pairwise.nil
 |n+1,x::a,[],ha,hb=>by
  refine List.pairwise_cons.2 ⟨fun r hr=>?_,Pm n (List.pairwise_cons.1 ha).2 hb⟩
  rcases ML n hr with⟨z,hz,e⟩|⟨z,hz,_⟩
  ·rw[e];exact(List.pairwise_cons.1 ha).1 z hz
  ·cases hz
 |n+1,[],y::b,ha,hb=>by
  refine List.pairwise_cons.2 ⟨fun r hr=>?_,Pm n ha (List.pairwise_cons.1 hb).2⟩
  rcases ML n hr with⟨z,hz,_⟩|⟨z,hz,e⟩
  ·cases hz
  ·rw[e];exact(List.pairwise_cons.1 hb).1 z hz
 | n +1,x::a,y::b,ha,hb=>by
  have a1:=List.pairwise_cons.1 ha
  have b1:=List.pairwise_cons.1 hb
  show Om (bif Jd x.key y.key then x::mrg n a (y::b) else bif Jd y.key x.key then y::mrg n (x::a) b else jnR x y::mrg n a b)
  cases h1:Jd x.key y.key with
  | true=>
   refine List.pairwise_cons.2 ⟨fun r hr=>?_,Pm n a1.2 hb⟩
   rcases ML n hr with⟨z,hz,e⟩|⟨z,hz,e⟩
   ·rw[e];exact a1.1 z hz
   ·rw[e]
    rcases List.mem_cons.1 hz with rfl|hz
    ·exact h1
    ·exact KY h1 (b1.1 z hz)
  | false=>
   cases h2:Jd y.key x.key with
   | true=>
    refine List.pairwise_cons.2 ⟨fun r hr=>?_,Pm n ha b1.2⟩
    rcases ML n hr with⟨z,hz,e⟩|⟨z,hz,e⟩
    ·rw[e]
     rcases List.mem_cons.1 hz with rfl|hz
     ·exact h2
     ·exact KY h2 (a1.1 z hz)
    ·rw[e];exact b1.1 z hz
   |false=>
    have hxy:=A67 h1 h2
    refine List.pairwise_cons.2 ⟨fun r hr=>?_,Pm n a1.2 b1.2⟩
    show Jd x.key r.key=true
    rcases ML n hr with⟨z,hz,e⟩|⟨z,hz,e⟩
    ·rw[e];exact a1.1 z hz
    ·rw[e,hxy];exact b1.1 z hz
theorem Ank:∀{a:List TRow} {r:TRow},Om a→r∈a→M4 a r.key=some r
 |x::a,r,h,hr=>by
  rw[CJ]
  rcases List.mem_cons.1 hr with rfl|hr
  ·rw[if_pos rfl]
  ·rw[if_neg (Ua ((List.pairwise_cons.1 h).1 r hr)),Ank (List.pairwise_cons.1 h).2 hr]
theorem Bgh {p:Int} {a:TCell} (h:Bv p a=true):HI zeroC a=a:=by
 rw[A0n,Bdt h]
 have:KU zeroC.dead a.dead=a.dead:=by
  have:=(YM.1 (A3v h))
  show TVec.mk (max 0 a.dead.a) (max 0 a.dead.b)=a.dead
  exact Baa (by show max 0 a.dead.a=a.dead.a;omega) (by show max 0 a.dead.b=a.dead.b;omega)
 rw[this]
 rfl
theorem Bgg {p:Int} {a b:TCell} (h:Bv p a=true) (e:HI a b=zeroC):a=zeroC:=by
 have h1:HI a (HI a b)=HI a b:=by rw[←A5e,Buv h]
 rw[e,But,Bgh h] at h1
 exact h1
theorem At8 {r:TRow}:Hn r=true↔∀i,i <r.cells.length→Cm r.cells i=zeroC:=by
 unfold Hn
 rw[List.all_eq_true]
 constructor
 ·intro h i hi
  have e:Cm r.cells i=r.cells[i]:=by unfold Cm;rw[List.getD_eq_getElem?_getD,List.getElem?_eq_getElem hi];rfl
  rw[e]
  exact Afk.1 (h _ (List.getElem_mem hi))
 ·intro h c hc
  obtain⟨i,hi,rfl⟩:=List.getElem_of_mem hc
  have e:Cm r.cells i=r.cells[i]:=by unfold Cm;rw[List.getD_eq_getElem?_getD,List.getElem?_eq_getElem hi];rfl
  rw[←e]
  exact Afk.2 (h i hi)
theorem Bsm {l:List TGroup} {a b:TRow} (ha:Ai l a=0) (hb:Ai l b=0) (h:Hn a=false):Hn (jnR a b)=false:=by
 cases hj:Hn (jnR a b) with
 |false=>rfl
 | true=>
  have h1:=At8.1 hj
  have hl:=(AJ ha).2.1
  have:Hn a=true:=At8.2 fun i hi=>by
   have h2:=h1 i (by rw[Af3 (b:=b) ha];omega)
   rw[Wp ha hb (by omega)] at h2
   exact Bgg (Jq ha (by omega)) h2
  rw[h] at this
  cases this
theorem YV {l:List TGroup}:∀(n:Nat) {a b:List TRow},Stt l a→Stt l b→∀r∈mrg n a b,Ai l r=0∧Hn r=false
 |0,_,_,_,_,r,hr=>by cases hr
 |n+1,[],[],_,_,r,hr=>by cases hr
 |n+1,x::a,[],ha,hb,r,hr=>by
  rcases List.mem_cons.1 hr with rfl|hr
  ·exact ha.good r (List.mem_cons_self ..)
  ·exact YV n ha.tail hb r hr
 |n+1,[],y::b,ha,hb,r,hr=>by
  rcases List.mem_cons.1 hr with rfl|hr
  ·exact hb.good r (List.mem_cons_self ..)
  ·exact YV n ha hb.tail r hr
 | n +1,x::a,y::b,ha,hb,r,hr=>by
  have hr':r∈(bif Jd x.key y.key then x::mrg n a (y::b) else bif Jd y.key x.key then y::mrg n (x::a) b else jnR x y::mrg n a b):=hr
  cases h1:Jd x.key y.key with
  |true=>
   rw[h1] at hr'
   rcases List.mem_cons.1 hr' with rfl|hr'
   ·exact ha.good r (List.mem_cons_self ..)
   ·exact YV n ha.tail hb r hr'
  | false=>
   rw[h1] at hr'
   cases h2:Jd y.key x.key with
   |true=>
    rw[h2] at hr'
    rcases List.mem_cons.1 hr' with rfl|hr'
    ·exact hb.good r (List.mem_cons_self ..)
    ·exact YV n ha hb.tail r hr'
   | false=>
    rw[h2] at hr'
    rcases List.mem_cons.1 hr' with rfl|hr'
    ·obtain⟨g1,g2⟩:=ha.good x (List.mem_cons_self ..)
     obtain⟨g3,_⟩:=hb.good y (List.mem_cons_self ..)
     exact⟨Pa g1 g3,Bsm g1 g3 g2⟩
    ·exact YV n ha.tail hb.tail r hr'
theorem Stt.mrg {l:List TGroup} {a b:List TRow} (n:Nat) (ha:Stt l a) (hb:Stt l b):Stt l (Go.Proofs.Yteebobbhhgmeiaa.mrg n a b):=⟨Pm n ha.rise hb.rise,YV n ha hb⟩
theorem At7 {l:List TGroup} {a:List TRow} (h:Stt l a) {k:ByteArray} {r:TRow} (hr:M4 a k=some r):Ai l r=0∧Hn r=false:=h.good r (A57 hr)
def OkO (l:List TGroup) (k:ByteArray):Option TRow→Prop
 |none=>True
 |some r=>Ai l r=0∧r.key=k
theorem Bd3 {l:List TGroup} {k:ByteArray} {x y:Option TRow} (hx:OkO l k x) (hy:OkO l k y):OkO l k (Xu x y):=by
 cases x<;>cases y<;>first|trivial|exact hx|exact hy|exact⟨Pa hx.1 hy.1,hx.2⟩
theorem Bij {l:List TGroup} {k:ByteArray} {x y z:Option TRow} (hx:OkO l k x) (hy:OkO l k y) (hz:OkO l k z):Xu (Xu x y) z=Xu x (Xu y z):=by
 cases x<;>cases y<;>cases z<;>first|rfl|exact congrArg some (Bsn hx.1 hy.1 hz.1)
theorem Bta {l:List TGroup} {a:List TRow} (h:Stt l a) (k:ByteArray):OkO l k (M4 a k):=by
 cases hr:M4 a k with
 |none=>trivial
 |some r=>exact⟨(At7 h hr).1,A56 hr⟩
end Go.Proofs.Yteebobbhhgmeiaa
namespace Go.Proofs.Yteebobbhhgmeiaa
open Go.RowKit
theorem A9s {X:Type} (mk:Nat→X) (n:Nat) (next:X→X) (goes:X→Cnd) (ps:X→List Prop) (f:Nat) (x:X) (hx:x=mk 0) (hf:n≤f)
  (hg:∀i,i≤n→Bm (goes (mk i))=decide (i <n)) (hn:∀i,i <n→next (mk i)=mk (i+1)) (hp:∀i,i≤n→∀p∈ps (mk i),p):
  AD next goes ps f x∧A9 next goes f x=mk n:=by
 obtain⟨h1,k,hk,hx,_,hst,_⟩:=IW mk n (fun _=>false) next goes ps f x hx hf (fun i hi _=>by rw[hg i hi,Bool.not_false,Bool.and_true]) (fun i hi _=>hn i hi) (fun i hi _=>hp i hi)
 have hkn:k=n:=by
  rcases Nat.lt_or_ge k n with h|h
  ·exact absurd (hst h) (by decide)
  ·omega
 subst hkn
 exact⟨h1,hx⟩
theorem Bh0 (n:Nat):((n:Int)==(0:Int))=(n==0):=by
 rw[Bool.eq_iff_iff,beq_iff_eq,beq_iff_eq]
 omega
theorem Yx {α:Type} (l:List α) (d:α) (i:Nat) (h:i <l.length):l.take (i+1)=l.take i++[l.getD i d]:=by
 rw[List.take_add_one,List.getD_eq_getElem?_getD,List.getElem?_eq_getElem h]
 rfl
def Bna (r:TRow) (s:List TRow×Bool) (x:TRow):List TRow×Bool:=
 ((bif !s.2&&!Jd x.key r.key then s.1++[r] else s.1)++(bif x.key==r.key then[] else[x]),s.2||!Jd x.key r.key)
def LX (r:TRow) (l:List TRow) (i:Nat):List TRow×Bool:=(l.take i).foldl (Bna r) ([],false)
theorem A41 (r:TRow) (l:List TRow) (i:Nat) (h:i <l.length):LX r l (i+1)=Bna r (LX r l i) (C7 l i):=by
 unfold LX
 rw[Yx l (Ac TC.row) i h,List.foldl_append]
 rfl
def B2g (r:TRow) (s:List TRow×Bool):List TRow:=bif s.2 then s.1 else s.1++[r]
theorem Bpa (r:TRow) (s:List TRow×Bool) (x:TRow):(Bna r s x).1.length≤s.1.length+2:=by
 unfold Bna
 rw[List.length_append]
 cases !s.2&&!Jd x.key r.key<;>cases x.key==r.key<;>simp
theorem Az9 (r:TRow) (l:List TRow):∀i,i≤l.length→(LX r l i).1.length≤2*i
 |0,_=>Nat.le_refl _
 |i+1,h=>by
  have ih:=Az9 r l i (by omega)
  rw[A41 r l i (by omega)]
  have:=Bpa r (LX r l i) (C7 l i)
  omega
theorem Bbp (key:ByteArray):∀(l:List TRow) (k:Nat),k≤l.length→(∀j,j <k→((C7 l j).key==key)=false)→(k <l.length→((C7 l k).key==key)=true)→M4 l key=if k <l.length then some (C7 l k) else none
 | [],k,_,_,_=>(if_neg (Nat.not_lt_zero k)).symm
 |x::a,0,_,_,h=>by
  have h2:(x.key==key)=true:=h (Nat.zero_lt_succ _)
  rw[CJ,if_pos (eq_of_beq h2)]
  exact(if_pos (Nat.zero_lt_succ a.length)).symm
 | x::a,k+1,hk,h0,h=>by
  have h2:(x.key==key)=false:=h0 0 (Nat.zero_lt_succ _)
  rw[CJ,if_neg (by simpa using h2),Bbp key a k (Nat.le_of_succ_le_succ hk) (fun j hj=>h0 (j+1) (Nat.succ_lt_succ hj)) (fun hk=>h (Nat.succ_lt_succ hk))]
  by_cases hl:k <a.length
  ·rw[if_pos hl]
   exact(if_pos (show k+1 <(x::a).length from Nat.succ_lt_succ hl)).symm
  ·rw[if_neg hl]
   exact(if_neg (show ¬k+1 <(x::a).length from fun h=>hl (Nat.lt_of_succ_lt_succ h))).symm
theorem YU:∀(n:Nat) (a b:List TRow),(mrg n a b).length≤a.length+b.length
 |0,_,_=>Nat.zero_le _
 |_+1,[],[]=>Nat.zero_le _
 |n+1,x::a,[]=>by
  have:=YU n a []
  show(x::mrg n a []).length≤_
  rw[List.length_cons,List.length_cons]
  omega
 |n+1,[],y::b=>by
  have:=YU n [] b
  show(y::mrg n [] b).length≤_
  rw[List.length_cons,List.length_cons]
  omega
 | n+1,x::a,y::b=>by
  unfold mrg
  cases Jd x.key y.key with
  |true=>
   have:=YU n a (y::b)
   rw[cond_true,List.length_cons,List.length_cons]
   omega
  | false=>
   cases Jd y.key x.key with
   |true=>
    have:=YU n (x::a) b
    rw[cond_false,cond_true,List.length_cons]
    simp only[List.length_cons] at this⊢
    omega
   |false=>
    have:=YU n a b
    rw[cond_false,cond_false,List.length_cons,List.length_cons,List.length_cons]
    omega
end Go.Proofs.Yteebobbhhgmeiaa
namespace Go.Proofs.Yteebobbhhgmeiaa
open Go.RowKit
theorem A3q {P:Program} {f:FuncId} {args:List A} {k:Nat} {e:TypeId} {c:TC} {l:List (U c)} (h:CallOk P f args 0 [] k (.sq 0) 1 [(0,some (.arr e (size c) (.ty c l)))]):CallOk P f args 0 [] k (.sl c l) 0 []:=fun F N R vs hh ha=>
 Calls.mono (P:=P) (h F N R vs hh ha) fun e0 R' ⟨y,F',N',e1,e2,e3,e4,e5⟩=>by
  obtain⟨_,rfl⟩:=e4.sq_inv
  have hob:=e2.ob 0 _ rfl
  obtain⟨_,zs,g1,g2⟩:=id hob
  have hn:∀i j,i <1→(fun _=>none:Nat→Option Nat) i=some j→j <0∧N'.b j=N'.b i∧N'.q j=N'.q i:=fun i j _ hj=>by cases hj
  have hw:Ext F' N' 1 R' (fun g=>F' g∨CR (N'.q 0)=some g) N' 1 R':=Ext.wide fun g hg=> .inl hg
  have q1:=(OH (F':=fun g=>F' g∨CR (N'.q 0)=some g) (N:=N') (nx:=1) g1 (fun k hk=>(g2 k hk).step hw) (fun g hg=> .inr hg)).1
  have q2:=Hv.pk (N':=N') (nx':=0) (ρ:=fun _=>none) hn q1
  refine⟨N'.q 0,fun g=>F' g∨CR (N'.q 0)=some g,N',e1,⟨fun g hg=>?_,fun i ob hi=>(by cases hi),fun i ob g hi=>(by cases hi),fun i j x y g hi=>(by cases hi)⟩,⟨Nat.le_refl _,fun i hi=>absurd hi (Nat.not_lt_zero _),fun i hi=>absurd hi (Nat.not_lt_zero _),fun g hg=> .inl (e3.f g hg),fun g hg=>?_,fun g ⟨i,ob,hi,_⟩=>(by cases hi),e3.os,e3.tape,e3.output,e3.size,e3.keep⟩,q2,e5⟩
  ·rcases hg with hg|hg
   ·exact e2.flt g hg
   ·exact hob.2.lt hg
  ·rcases hg with hg|hg
   ·exact e3.fnew g hg
   ·rcases e3.foot g ⟨0,_,rfl,hg⟩ with h|h
    ·exact .inr (.inl h)
    ·exact .inr (.inr h)
end Go.Proofs.Yteebobbhhgmeiaa
namespace Go.Proofs.Yteebobbhhgmeiaa
open Go.RowKit
def Xf (a0:TRow):List TCell:=[]++a0.2
def Xh (a0:TRow):A:=.agg [.v (.string a0.1),.sq 0]
def Xg (a0:TRow):Objs:=[(0,some (.arr 55 8 (.ty .cell (Xf a0))))]
def Uf (a0:TRow):List Prop:=[(Ag ((0:Nat)+a0.2.length))]
theorem A71 (a0:TRow):Ff (As Cs L0) 9 170 [Af .row a0] 0 []=some (1,Xh a0,1,Xg a0,Uf a0):=by kernel_rfl
theorem Bdx (a0:TRow) (hp:∀p∈Uf a0,p):CallOk Try.prog 170 [Af .row a0] 0 [] 1 (Xh a0) 1 (Xg a0):=Az (An Byv Ay) (A71 a0) hp
def Aob:List A→Nat→Objs→Option A3:=Bg [.t .row] 1 Xh Xg Uf
theorem A1s:Fi Try.prog 170 Aob:=Aq (ks:=[.t .row]) Bdx
noncomputable def Ba1:=A4 170 Aob Cs
theorem Atw:Dd Try.prog Ba1:=Am A1s Byv
abbrev BL:Type:=(List TGroup)×(List TRow)×(List TRow)×(List TRow)
def JY (x:BL):St:=⟨91,2,[(0,.sl .group x.1),(1,.sl .row x.2.1),(2,.sl .row x.2.2.1),(6,.dq 1)],[(1,some (.deep 71 .row x.2.2.2))]⟩
def LE:St→Option BL
 |⟨91,2,[(0,.sl .group z0),(1,.sl .row z1),(2,.sl .row z2),(6,.dq 1)],[(1,some (.deep 71 .row z3))]⟩=>some (z0,z1,z2,z3)
 |_=>none
theorem Zj:∀s x,LE s=some x→s=JY x:=fun s x h=>by
 unfold LE at h
 split at h
 ·cases h;rfl
 ·cases h
def S6:De:=⟨1,2,[0,1,2,6],[],[(7,1)],[7],[6],[1]⟩
def Ak3:Dy:=⟨[.nilD 6 71 .row],[(0,1)],[0,1,2,6],[0]⟩
def AI (_a0:List TGroup) (a1:List TRow) (a2:List TRow) (_a3:List TRow):Bool:=(↑a1.length:Int)==(0:Int)||Op.bytesLess (a2.getD (0:Nat) (Ac TC.row)).1.toList (a1.getD (0:Nat) (Ac TC.row)).1.toList
def Ga (_a0:List TGroup) (_a1:List TRow) (a2:List TRow) (_a3:List TRow):List TRow:=List.take ((↑a2.length:Int).toNat - (1:Nat)) (List.drop (1:Nat) a2)
def F9 (_a0:List TGroup) (a1:List TRow) (_a2:List TRow) (_a3:List TRow):List TRow:=List.take ((↑a1.length:Int).toNat - (1:Nat)) (List.drop (1:Nat) a1)
def Au (_a0:List TGroup) (a1:List TRow) (a2:List TRow) (_a3:List TRow):Bool:=(↑a1.length:Int)==(0:Int)&&(↑a2.length:Int)==(0:Int)
def Ax (_a0:List TGroup) (a1:List TRow) (a2:List TRow) (_a3:List TRow):Bool:=(↑a2.length:Int)==(0:Int)||decide ((↑a1.length:Int) >(0:Int))&&Op.bytesLess (a1.getD (0:Nat) (Ac TC.row)).1.toList (a2.getD (0:Nat) (Ac TC.row)).1.toList
def B9 (a0:List TGroup) (a1:List TRow) (a2:List TRow) (a3:List TRow):List TRow:=bif(Ax a0 a1 a2 a3) then(F9 a0 a1 a2 a3) else bif(AI a0 a1 a2 a3) then a1 else(F9 a0 a1 a2 a3)
def Cc (a0:List TGroup) (a1:List TRow) (a2:List TRow) (a3:List TRow):List TRow:=bif(Ax a0 a1 a2 a3) then a2 else bif(AI a0 a1 a2 a3) then(Ga a0 a1 a2 a3) else(Ga a0 a1 a2 a3)
def Ce (a0:List TGroup) (a1:List TRow) (a2:List TRow) (a3:List TRow):List TRow:=bif(Ax a0 a1 a2 a3) then a3++[Zx TC.row TC.cell (TRow.mk (a1.getD (0:Nat) (Ac TC.row)).1 []) (Xf (a1.getD (0:Nat) (Ac TC.row)))] else bif(AI a0 a1 a2 a3) then a3++[Zx TC.row TC.cell (TRow.mk (a2.getD (0:Nat) (Ac TC.row)).1 []) (Xf (a2.getD (0:Nat) (Ac TC.row)))] else a3++[Zx TC.row TC.cell (TRow.mk (jnK a0 (a1.getD (0:Nat) (Ac TC.row)) (a2.getD (0:Nat) (Ac TC.row))) []) (jnL a0 (a1.getD (0:Nat) (Ac TC.row)) (a2.getD (0:Nat) (Ac TC.row)))]
def AQ (x:BL):BL:=(x.1,B9 x.1 x.2.1 x.2.2.1 x.2.2.2,Cc x.1 x.2.1 x.2.2.1 x.2.2.2,Ce x.1 x.2.1 x.2.2.1 x.2.2.2)
def AP (x:BL):Cnd:=some (!(Au x.1 x.2.1 x.2.2.1 x.2.2.2))
def KK (x:BL):List Prop:=[((Au x.1 x.2.1 x.2.2.1 x.2.2.2)=false→decide ((↑x.2.1.length:Int) >(0:Int))=true→((↑x.2.2.1.length:Int)==(0:Int))=false→(0:Int)≤(0:Int)∧(0:Int) <(↑x.2.1.length:Int)),((Au x.1 x.2.1 x.2.2.1 x.2.2.2)=false→decide ((↑x.2.1.length:Int) >(0:Int))=true→((↑x.2.2.1.length:Int)==(0:Int))=false→(0:Int)≤(0:Int)∧(0:Int) <(↑x.2.2.1.length:Int)),((Au x.1 x.2.1 x.2.2.1 x.2.2.2)=false→(Ax x.1 x.2.1 x.2.2.1 x.2.2.2)=true→(0:Int)≤(0:Int)∧(0:Int) <(↑x.2.1.length:Int)),((Au x.1 x.2.1 x.2.2.1 x.2.2.2)=false→(Ax x.1 x.2.1 x.2.2.1 x.2.2.2)=true→Ag ((0:Nat)+(x.2.1.getD (0:Nat) (Ac TC.row)).2.length)),((Au x.1 x.2.1 x.2.2.1 x.2.2.2)=false→(Ax x.1 x.2.1 x.2.2.1 x.2.2.2)=true→Ag (x.2.2.2.length+(1:Nat))),((Au x.1 x.2.1 x.2.2.1 x.2.2.2)=false→(Ax x.1 x.2.1 x.2.2.1 x.2.2.2)=true→(0:Int)≤(1:Int)∧(1:Int)≤(↑x.2.1.length:Int)∧(↑x.2.1.length:Int)≤(↑x.2.1.length:Int)),((Au x.1 x.2.1 x.2.2.1 x.2.2.2)=false→(Ax x.1 x.2.1 x.2.2.1 x.2.2.2)=false→((↑x.2.1.length:Int)==(0:Int))=false→(0:Int)≤(0:Int)∧(0:Int) <(↑x.2.2.1.length:Int)),((Au x.1 x.2.1 x.2.2.1 x.2.2.2)=false→(Ax x.1 x.2.1 x.2.2.1 x.2.2.2)=false→((↑x.2.1.length:Int)==(0:Int))=false→(0:Int)≤(0:Int)∧(0:Int) <(↑x.2.1.length:Int)),((Au x.1 x.2.1 x.2.2.1 x.2.2.2)=false→(Ax x.1 x.2.1 x.2.2.1 x.2.2.2)=false→(AI x.1 x.2.1 x.2.2.1 x.2.2.2)=true→(0:Int)≤(0:Int)∧(0:Int) <(↑x.2.2.1.length:Int)),((Au x.1 x.2.1 x.2.2.1 x.2.2.2)=false→(Ax x.1 x.2.1 x.2.2.1 x.2.2.2)=false→(AI x.1 x.2.1 x.2.2.1 x.2.2.2)=true→Ag ((0:Nat)+(x.2.2.1.getD (0:Nat) (Ac TC.row)).2.length)),((Au x.1 x.2.1 x.2.2.1 x.2.2.2)=false→(Ax x.1 x.2.1 x.2.2.1 x.2.2.2)=false→(AI x.1 x.2.1 x.2.2.1 x.2.2.2)=true→Ag (x.2.2.2.length+(1:Nat))),((Au x.1 x.2.1 x.2.2.1 x.2.2.2)=false→(Ax x.1 x.2.1 x.2.2.1 x.2.2.2)=false→(AI x.1 x.2.1 x.2.2.1 x.2.2.2)=true→(0:Int)≤(1:Int)∧(1:Int)≤(↑x.2.2.1.length:Int)∧(↑x.2.2.1.length:Int)≤(↑x.2.2.1.length:Int)),((Au x.1 x.2.1 x.2.2.1 x.2.2.2)=false→(Ax x.1 x.2.1 x.2.2.1 x.2.2.2)=false→(AI x.1 x.2.1 x.2.2.1 x.2.2.2)=false→(0:Int)≤(0:Int)∧(0:Int) <(↑x.2.1.length:Int)),((Au x.1 x.2.1 x.2.2.1 x.2.2.2)=false→(Ax x.1 x.2.1 x.2.2.1 x.2.2.2)=false→(AI x.1 x.2.1 x.2.2.1 x.2.2.2)=false→(0:Int)≤(0:Int)∧(0:Int) <(↑x.2.2.1.length:Int)),((Au x.1 x.2.1 x.2.2.1 x.2.2.2)=false→(Ax x.1 x.2.1 x.2.2.1 x.2.2.2)=false→(AI x.1 x.2.1 x.2.2.1 x.2.2.2)=false→Ag (x.2.2.2.length+(1:Nat))),((Au x.1 x.2.1 x.2.2.1 x.2.2.2)=false→(Ax x.1 x.2.1 x.2.2.1 x.2.2.2)=false→(AI x.1 x.2.1 x.2.2.1 x.2.2.2)=false→(0:Int)≤(1:Int)∧(1:Int)≤(↑x.2.1.length:Int)∧(↑x.2.1.length:Int)≤(↑x.2.1.length:Int)),((Au x.1 x.2.1 x.2.2.1 x.2.2.2)=false→(Ax x.1 x.2.1 x.2.2.1 x.2.2.2)=false→(AI x.1 x.2.1 x.2.2.1 x.2.2.2)=false→(0:Int)≤(1:Int)∧(1:Int)≤(↑x.2.2.1.length:Int)∧(↑x.2.2.1.length:Int)≤(↑x.2.2.1.length:Int))]
abbrev Em:BL→List Prop:=KK
def Od (x:BL):Bj:=[(some 0,some ((Au x.1 x.2.1 x.2.2.1 x.2.2.2)),⟨91,2,[(6,.dq 1)],[(1,some (.deep 71 .row x.2.2.2))]⟩)]
def HU (x:BL):Nat:=x.2.1.length+x.2.2.1.length
def Acv (x:BL):BL:=A9 AQ AP (HU x) x
theorem Aha (a0:List TGroup) (a1:List TRow) (a2:List TRow) (a3:List TRow):Bw (As Ba1 L0) 9 (Ae Try.prog 143 0) S6 (JY (a0,a1,a2,a3))=some (KK (a0,a1,a2,a3),Od (a0,a1,a2,a3),AP (a0,a1,a2,a3),JY (AQ (a0,a1,a2,a3))):=by kernel_rfl
theorem Ahb (a0:List TGroup) (a1:List TRow) (a2:List TRow) (a3:List TRow) (hp:∀p∈Em (a0,a1,a2,a3),p):∀p∈KK (a0,a1,a2,a3),p:=hp
noncomputable def Pj:=HG (As Ba1 L0) (Ae Try.prog 143 0) S6 Ak3 LE HU AQ AP Em Od
theorem Acu:∀s b ps outs,Pj s=some (b,ps,outs)→Wf s ⟨ps,outs,none⟩∧Bt (As C0 L0) b s ps outs:=
 Bh (T:=JY) Atw Ay (u:=9) (by kernel_rfl) (by decide) (fun⟨a0,a1,a2,a3⟩=>Aha a0 a1 a2 a3) (fun⟨a0,a1,a2,a3⟩=>Ahb a0 a1 a2 a3) Zj (fun _=>AK (n:=91) rfl) fun _ _=>rfl
noncomputable def S5:=DI 0 Pj L0
theorem Acs:G9 S5:=AV Acu Ay
def Z2 (a0:List TGroup) (a1:List TRow) (a2:List TRow):List TRow:=(Acv (a0,a1,a2,[])).snd.snd.snd
def Z3 (_a0:List TGroup) (_a1:List TRow) (_a2:List TRow):A:=.dq 0
def RF (a0:List TGroup) (a1:List TRow) (a2:List TRow):Objs:=[(0,some (.deep 71 .row (Z2 a0 a1 a2)))]
def Awn (a0:List TGroup) (a1:List TRow) (a2:List TRow):List Prop:=[(AD AQ AP Em (HU (a0,a1,a2,[])) (a0,a1,a2,[]))]
theorem Awm (a0:List TGroup) (a1:List TRow) (a2:List TRow):Ff (As Ba1 S5) 9 143 [.sl .group a0,Af .rows a1,Af .rows a2] 0 []=some (1,Z3 a0 a1 a2,1,RF a0 a1 a2,[(Ae Try.prog (143:FuncId) (0:Nat)=Ae Try.prog (143:FuncId) (0:Nat)),(AD AQ AP Em (HU (a0,a1,a2,[])) (a0,a1,a2,[]))]):=by kernel_rfl
theorem A1r (a0:List TGroup) (a1:List TRow) (a2:List TRow) (hp:∀p∈Awn a0 a1 a2,p):CallOk Try.prog 143 [.sl .group a0,Af .rows a1,Af .rows a2] 0 [] 1 (Z3 a0 a1 a2) 1 (RF a0 a1 a2):=by
 have n1:=N0 hp
 exact Az (An Atw Acs) (Awm a0 a1 a2) (Aa rfl (Aa n1 Ad))
def Xe (_a0:List TGroup) (_a1 _a2:List TRow):A:=.dq 0
def Xd (_a0:List TGroup) (a1 a2:List TRow):Objs:=[(0,some (.deep 71 .row (mrg (a1.length+a2.length) a1 a2)))]
def U4 (a0:List TGroup) (a1 a2:List TRow):List Prop:=[Stt a0 a1∧Stt a0 a2∧a1.length+a2.length≤400000]
theorem A4d (x:TRow) (a:List TRow):List.take ((((x::a).length:Nat):Int).toNat - (1:Nat)) (List.drop (1:Nat) (x::a))=a:=by
 rw[Int.toNat_natCast]
 simp
theorem gt0 (n:Nat):decide ((n:Int) >(0:Int))=!(n==0):=by
 cases n with
 |zero=>rfl
 |succ n=>
  rw[decide_eq_true (by omega)]
  rfl
theorem Bdv (l:List TGroup) (a b out:List TRow):Ax l a b out=((b.length==0)||(!(a.length==0)&&Jd (C7 a 0).key (C7 b 0).key)):=by
 unfold Ax
 rw[Bh0,gt0]
 rfl
theorem A4c (l:List TGroup) (a b out:List TRow):Au l a b out=((a.length==0)&&(b.length==0)):=by
 unfold Au
 rw[Bh0,Bh0]
theorem Bsx (l:List TGroup) (a b out:List TRow):AI l a b out=((a.length==0)||Jd (C7 b 0).key (C7 a 0).key):=by
 unfold AI
 rw[Bh0]
 rfl
theorem Bsy {l:List TGroup} {a b out:List TRow} (ha:Stt l a) (hb:Stt l b) (ho:out.length≤500000):∀p∈Em (l,a,b,out),p:=by
 have z:∀{n:Nat},(n==0)=false→0 <n:=fun h=>by
  have:=beq_eq_false_iff_ne.1 h
  omega
 have h1:Au l a b out=false→Ax l a b out=true→0 <a.length:=fun h g=>by
  rw[A4c] at h
  rw[Bdv] at g
  cases ea:a.length==0 with
  |false=>exact z ea
  |true=>
   rw[ea] at h g
   rw[Bool.true_and] at h
   rw[h] at g
   cases g
 have h2:Ax l a b out=false→0 <b.length:=fun h=>by
  rw[Bdv] at h
  exact z (Bool.or_eq_false_iff.1 h).1
 have h3:AI l a b out=false→0 <a.length:=fun h=>by
  rw[Bsx] at h
  exact z (Bool.or_eq_false_iff.1 h).1
 have hc:∀{x:List TRow},Stt l x→0 <x.length→Ag (0+(x.getD 0 (Ac TC.row)).2.length):=fun {x} hx h=>by
  have g:=(hx.good _ (getD_in x (Ac TC.row) 0 h)).1
  have g1:=(AJ g).2.1
  have g2:=(G7 (AJ g).1).2
  have g3:(x.getD 0 (Ac TC.row)).2.length=l.length:=g1
  unfold Ag
  omega
 have ho':Ag (out.length+1):=by unfold Ag;omega
 have one:∀{n:Nat},0 <n→(0:Int)≤(1:Int)∧(1:Int)≤(n:Int)∧(n:Int)≤(n:Int):=fun h=>⟨by omega,by omega,Int.le_refl _⟩
 have nz:∀{n:Nat},0 <n→(0:Int)≤(0:Int)∧(0:Int) <(n:Int):=fun h=>⟨Int.le_refl _,by omega⟩
 have e0:∀{n:Nat},((n:Int)==(0:Int))=false→0 <n:=fun h=>by rw[Bh0] at h;exact z h
 have g0:∀{n:Nat},decide ((n:Int) >(0:Int))=true→0 <n:=fun h=>by have:=of_decide_eq_true h;omega
 exact Aa (fun _ h _=>nz (g0 h)) (Aa (fun _ _ h=>nz (e0 h)) (Aa (fun h g=>nz (h1 h g)) (Aa (fun h g=>hc ha (h1 h g)) (Aa (fun _ _=>ho') (Aa (fun h g=>one (h1 h g))
  (Aa (fun _ g _=>nz (h2 g)) (Aa (fun _ _ h=>nz (e0 h)) (Aa (fun _ g _=>nz (h2 g)) (Aa (fun _ g _=>hc hb (h2 g)) (Aa (fun _ _ _=>ho') (Aa (fun _ g _=>one (h2 g))
  (Aa (fun _ _ h=>nz (h3 h)) (Aa (fun _ g _=>nz (h2 g)) (Aa (fun _ _ _=>ho') (Aa (fun _ _ h=>one (h3 h)) (Aa (fun _ g _=>one (h2 g)) Ad))))))))))))))))
theorem Bmj (l:List TGroup):∀(n:Nat) (a b out:List TRow),Stt l a→Stt l b→a.length+b.length≤n→out.length+n≤500000→
  AD AQ AP Em n (l,a,b,out)∧(A9 AQ AP n (l,a,b,out)).2.2.2=out++mrg n a b
 |0,a,b,out,ha,hb,hn,ho=>by
  have h1:a=[]:=List.eq_nil_of_length_eq_zero (by omega)
  have h2:b=[]:=List.eq_nil_of_length_eq_zero (by omega)
  subst h1 h2
  refine⟨⟨Bsy ha hb (by omega),?_⟩,(List.append_nil out).symm⟩
  show(!Au l [] [] out)=false
  rw[A4c]
  rfl
 | n + 1,a,b,out,ha,hb,hn,ho=>by
  have key:∀(a' b' out':List TRow),Au l a b out=false→AQ (l,a,b,out)=(l,a',b',out')→Stt l a'→Stt l b'→a'.length+b'.length≤n→out'.length=out.length+1→out'++mrg n a' b'=out++mrg (n+1) a b→
    AD AQ AP Em (n+1) (l,a,b,out)∧(A9 AQ AP (n+1) (l,a,b,out)).2.2.2=out++mrg (n+1) a b:=fun a' b' out' hk e h1 h2 h3 h4 h5=>by
   obtain⟨i1,i2⟩:=Bmj l n a' b' out' h1 h2 h3 (by omega)
   have hg:Bm (AP (l,a,b,out))=true:=by
    show(!Au l a b out)=true
    rw[hk]
    rfl
   refine⟨⟨Bsy ha hb (by omega),fun _=>by rw[e];exact i1⟩,?_⟩
   show(bif Bm (AP (l,a,b,out)) then A9 AQ AP n (AQ (l,a,b,out)) else(l,a,b,out)).2.2.2=_
   rw[hg,cond_true,e,i2]
   exact h5
  cases a with
  | nil=>
   cases b with
   | nil=>
    have hg:Bm (AP (l,[],[],out))=false:=by
     show(!Au l [] [] out)=false
     rw[A4c]
     rfl
    refine⟨⟨Bsy ha hb (by omega),fun h=>by rw[hg] at h;cases h⟩,?_⟩
    show(bif Bm (AP (l,[],[],out)) then A9 AQ AP n (AQ (l,[],[],out)) else(l,[],[],out)).2.2.2=_
    rw[hg,cond_false]
    exact(List.append_nil out).symm
   |cons y b=>
    refine key [] b (out++[y]) (by rw[A4c];rfl) ?_ ha hb.tail (by simp at hn⊢;omega) (by simp) (by rw[List.append_assoc];rfl)
    have k0:Ax l [] (y::b) out=false:=by rw[Bdv];rfl
    have k4:AI l [] (y::b) out=true:=by rw[Bsx];rfl
    show(l,B9 l [] (y::b) out,Cc l [] (y::b) out,Ce l [] (y::b) out)=_
    unfold B9 Cc Ce Ga
    rw[k0,k4,A4d]
    rfl
  | cons x a=>
   cases b with
   |nil=>
    refine key a [] (out++[x]) (by rw[A4c];rfl) ?_ ha.tail hb (by simp at hn⊢;omega) (by simp) (by rw[List.append_assoc];rfl)
    have k0:Ax l (x::a) [] out=true:=by rw[Bdv];rfl
    show(l,B9 l (x::a) [] out,Cc l (x::a) [] out,Ce l (x::a) [] out)=_
    unfold B9 Cc Ce F9
    rw[k0,A4d]
    rfl
   | cons y b=>
    have kk:Au l (x::a) (y::b) out=false:=by rw[A4c];rfl
    have k0:Ax l (x::a) (y::b) out=Jd x.key y.key:=by rw[Bdv];rfl
    have k4:AI l (x::a) (y::b) out=Jd y.key x.key:=by rw[Bsx];rfl
    have em:mrg (n+1) (x::a) (y::b)=bif Jd x.key y.key then x::mrg n a (y::b) else bif Jd y.key x.key then y::mrg n (x::a) b else jnR x y::mrg n a b:=rfl
    have en:AQ (l,x::a,y::b,out)=(l,B9 l (x::a) (y::b) out,Cc l (x::a) (y::b) out,Ce l (x::a) (y::b) out):=rfl
    cases h1:Jd x.key y.key with
    |true=>
     refine key a (y::b) (out++[x]) kk ?_ ha.tail hb (by simp at hn⊢;omega) (by simp) (by rw[em,h1,cond_true,List.append_assoc];rfl)
     rw[en]
     unfold B9 Cc Ce F9
     rw[k0,h1,A4d]
     rfl
    | false=>
     cases h2:Jd y.key x.key with
     |true=>
      refine key (x::a) b (out++[y]) kk ?_ ha hb.tail (by simp at hn⊢;omega) (by simp) (by rw[em,h1,h2,cond_false,cond_true,List.append_assoc];rfl)
      rw[en]
      unfold B9 Cc Ce Ga
      rw[k0,k4,h1,h2,A4d]
      rfl
     | false=>
      refine key a b (out++[jnR x y]) kk ?_ ha.tail hb.tail (by simp at hn⊢;omega) (by simp) (by rw[em,h1,h2,cond_false,cond_false,List.append_assoc];rfl)
      have hj:jnE l x y=0:=Bc7.2 ⟨(ha.good x (List.mem_cons_self ..)).1,(hb.good y (List.mem_cons_self ..)).1,A67 h1 h2⟩
      have ej:TRow.mk (jnK l x y) (jnL l x y)=jnR x y:=by
       unfold jnK jnL
       rw[hj]
       rfl
      rw[en]
      unfold B9 Cc Ce F9 Ga
      rw[k0,k4,h1,h2,A4d,A4d,←ej]
      rfl
theorem Awl (a0:List TGroup) (a1 a2:List TRow) (hp:∀p∈U4 a0 a1 a2,p):CallOk Try.prog 143 [.sl .group a0,Af .rows a1,Af .rows a2] 0 [] 1 (Xe a0 a1 a2) 1 (Xd a0 a1 a2):=by
 obtain⟨h1,h2,h3⟩:=hp _ (List.mem_cons_self ..)
 obtain⟨g1,g2⟩:=Bmj a0 (a1.length+a2.length) a1 a2 [] h1 h2 (Nat.le_refl _) (by rw[List.length_nil];omega)
 have h:=A1r a0 a1 a2 (Aa g1 Ad)
 have e:Z2 a0 a1 a2=mrg (a1.length+a2.length) a1 a2:=g2
 unfold RF at h
 rw[e] at h
 exact h
def Z4:List A→Nat→Objs→Option A3:=Bg [.l .group,.t .rows,.t .rows] 1 Xe Xd U4
theorem Arn:Fi Try.prog 143 Z4:=Aq (ks:=[.l .group,.t .rows,.t .rows]) Awl
noncomputable def Bqv:=A4 143 Z4 Ba1
theorem Ba2:Dd Try.prog Bqv:=Am Arn Atw
def G5 (a0:TRow):List TCell:=[]++a0.2
def Adu (a0:TRow):A:=.agg [.v (.string a0.1),.sq 0]
def Adt (a0:TRow):Objs:=[(0,some (.arr 55 8 (.ty .cell (G5 a0))))]
def XY (a0:TRow):List Prop:=[(Ag ((0:Nat)+a0.2.length))]
theorem Be0 (a0:TRow):Ff (As Bqv L0) 9 46 [Af .row a0] 0 []=some (1,Adu a0,1,Adt a0,XY a0):=by kernel_rfl
theorem Bi6 (a0:TRow) (hp:∀p∈XY a0,p):CallOk Try.prog 46 [Af .row a0] 0 [] 1 (Adu a0) 1 (Adt a0):=Az (An Ba2 Ay) (Be0 a0) hp
def Ayl:List A→Nat→Objs→Option A3:=Bg [.t .row] 1 Adu Adt XY
theorem A8v:Fi Try.prog 46 Ayl:=Aq (ks:=[.t .row]) Bi6
noncomputable def Ba3:=A4 46 Ayl Bqv
theorem Atx:Dd Try.prog Ba3:=Am A8v Ba2
abbrev C3:Type:=Int×TRow×ByteArray×(List TCell)
def MV (x:C3):St:=⟨56,6,[(5,.own 1 0),(9,.own 4 0),(10,.v (.int .i64 x.1))],[(1,some (.box 71 [.v (.string x.2.1.key),.sl .cell x.2.1.cells])),(4,some (.box 71 [.v (.string x.2.2.1),.sq 5])),(5,some (.arr 55 8 (.ty .cell x.2.2.2)))]⟩
def PI:St→Option C3
 |⟨56,6,[(5,.own 1 0),(9,.own 4 0),(10,.v (.int .i64 z0))],[(1,some (.box 71 [.v (.string z1),.sl .cell z2])),(4,some (.box 71 [.v (.string z3),.sq 5])),(5,some (.arr 55 8 (.ty .cell z4)))]⟩=>some (z0,⟨z1,z2⟩,z3,z4)
 |_=>none
theorem Alv:∀s x,PI s=some x→s=MV x:=fun s x h=>by
 unfold PI at h
 split at h
 ·cases h;rfl
 ·cases h
def Aau:De:=⟨5,6,[5,9,10],[],[(1,1),(4,4),(5,5)],[1,4,5],[],[1,4,5]⟩
def A2e:Dy:=⟨[],[(1,1),(4,4),(3,5)],[5,9,10],[1,4,3]⟩
def BC (a0:Int) (_a1:TRow) (_a2:ByteArray) (a3:List TCell):Bool:=!!decide (a0 <(↑a3.length:Int))
def NO (a0:Int) (a1:TRow) (_a2:ByteArray) (a3:List TCell):List TCell:=a3.set a0.toNat (HI (a3.getD a0.toNat (Ac TC.cell)) (a1.2.getD a0.toNat (Ac TC.cell)))
def E2 (x:C3):C3:=(IntKind.i64.wrap (x.1+(1:Int)),x.2.1,x.2.2.1,NO x.1 x.2.1 x.2.2.1 x.2.2.2)
def E1 (x:C3):Cnd:=some ((BC x.1 x.2.1 x.2.2.1 x.2.2.2))
def Vn (x:C3):List Prop:=[((BC x.1 x.2.1 x.2.2.1 x.2.2.2)=true→(0:Int)≤x.1∧x.1 <(↑x.2.2.2.length:Int)),((BC x.1 x.2.1 x.2.2.1 x.2.2.2)=true→x.1.toNat <x.2.2.2.length),((BC x.1 x.2.1 x.2.2.1 x.2.2.2)=true→(0:Int)≤x.1∧x.1 <(↑x.2.1.2.length:Int)),((BC x.1 x.2.1 x.2.2.1 x.2.2.2)=true→(0:Int)≤x.1∧x.1 <(↑x.2.2.2.length:Int)),((BC x.1 x.2.1 x.2.2.1 x.2.2.2)=true→x.1.toNat <x.2.2.2.length)]
def Ih (x:C3):List Prop:=[((BC x.1 x.2.1 x.2.2.1 x.2.2.2)=true→(0:Int)≤x.1∧x.1 <(↑x.2.2.2.length:Int)),((BC x.1 x.2.1 x.2.2.1 x.2.2.2)=true→(0:Int)≤x.1∧x.1 <(↑x.2.1.2.length:Int))]
def Tk (x:C3):Bj:=[(some 0,some (!decide (x.1 <(↑x.2.2.2.length:Int))),⟨56,6,[],[(1,some (.box 71 [.v (.string x.2.1.1),.sl .cell x.2.1.2])),(4,some (.box 71 [.v (.string x.2.2.1),.sq 5])),(5,some (.arr 55 8 (.ty .cell x.2.2.2)))]⟩)]
def GF (x:C3):Nat:=((↑x.2.2.2.length:Int) - x.1).toNat
def IQ (x:C3):C3:=A9 E2 E1 (GF x) x
theorem Ayr (a0:Int) (a1:TRow) (a2:ByteArray) (a3:List TCell):Bw (As Ba3 L0) 9 (Ae Try.prog 74 0) Aau (MV (a0,a1,a2,a3))=some (Vn (a0,a1,a2,a3),Tk (a0,a1,a2,a3),E1 (a0,a1,a2,a3),MV (E2 (a0,a1,a2,a3))):=by kernel_rfl
theorem Ays (a0:Int) (a1:TRow) (a2:ByteArray) (a3:List TCell) (hp:∀p∈Ih (a0,a1,a2,a3),p):∀p∈Vn (a0,a1,a2,a3),p:=by
 have n0:((BC a0 a1 a2 a3)=true→(0:Int)≤a0∧a0 <(↑a3.length:Int)):=N0 hp
 have n1:((BC a0 a1 a2 a3)=true→a0.toNat <a3.length):=by intro h0;have g:=n0 h0;omega
 have n2:=N0 (N1 hp)
 exact(Aa n0 (Aa n1 (Aa n2 (Aa n0 (Aa n1 Ad)))))
noncomputable def Vo:=HG (As Ba3 L0) (Ae Try.prog 74 0) Aau A2e PI GF E2 E1 Ih Tk
theorem Asf:∀s b ps outs,Vo s=some (b,ps,outs)→Wf s ⟨ps,outs,none⟩∧Bt (As C0 L0) b s ps outs:=
 Bh (T:=MV) Atx Ay (u:=9) (by kernel_rfl) (by decide) (fun⟨a0,a1,a2,a3⟩=>Ayr a0 a1 a2 a3) (fun⟨a0,a1,a2,a3⟩=>Ays a0 a1 a2 a3) Alv (fun _=>AK (n:=56) rfl) fun _ _=>rfl
noncomputable def Aat:=DI 0 Vo L0
theorem Ase:G9 Aat:=AV Asf Ay
def DY (_a0:List TGroup) (a1:TRow) (a2:TRow):Bool:=!a1.1.toList==a2.1.toList
def CX (a0:List TGroup) (_a1:TRow) (a2:TRow):Bool:=Ai a0 a2 !=(0:Int)
def BS (a0:List TGroup) (a1:TRow) (_a2:TRow):Bool:=Ai a0 a1 !=(0:Int)
def Adx (a0:List TGroup) (a1:TRow) (a2:TRow):ByteArray:=bif(BS a0 a1 a2) then ByteArray.mk #[] else bif(CX a0 a1 a2) then ByteArray.mk #[] else bif(DY a0 a1 a2) then ByteArray.mk #[] else(IQ ((0:Int),a2,a1.1,G5 a1)).snd.snd.fst
def Uu (a0:List TGroup) (a1:TRow) (a2:TRow):Int:=bif(BS a0 a1 a2) then Ai a0 a1 else bif(CX a0 a1 a2) then Ai a0 a2 else bif(DY a0 a1 a2) then(100:Int) else(0:Int)
def Ady (a0:List TGroup) (a1:TRow) (a2:TRow):List TCell:=bif(BS a0 a1 a2) then[] else bif(CX a0 a1 a2) then[] else bif(DY a0 a1 a2) then[] else(IQ ((0:Int),a2,a1.1,G5 a1)).snd.snd.snd
def Ad0 (a0:List TGroup) (a1:TRow) (a2:TRow):A:=.tup [.agg [.v (.string (Adx a0 a1 a2)),.sq 0],.v (.int .i64 (Uu a0 a1 a2))]
def Adz (a0:List TGroup) (a1:TRow) (a2:TRow):Objs:=[(0,some (.arr 55 8 (.ty .cell (Ady a0 a1 a2))))]
def Be6 (a0:List TGroup) (a1:TRow) (a2:TRow):List Prop:=[(∀(g:TGroup),g∈a0→Ar g.1.size),((!(BS a0 a1 a2))=true→∀(g:TGroup),g∈a0→Ar g.1.size),((!(BS a0 a1 a2))=true→(!(CX a0 a1 a2))=true→(!(DY a0 a1 a2))=true→Ag ((0:Nat)+a1.2.length)),((!(BS a0 a1 a2))=true→(!(CX a0 a1 a2))=true→(!(DY a0 a1 a2))=true→AD E2 E1 Ih (GF ((0:Int),a2,a1.1,G5 a1)) ((0:Int),a2,a1.1,G5 a1))]
theorem Be5 (a0:List TGroup) (a1:TRow) (a2:TRow):Ff (As Ba3 Aat) 9 74 [.sl .group a0,Af .row a1,Af .row a2] 0 []=some (1,Ad0 a0 a1 a2,1,Adz a0 a1 a2,[(∀(g:TGroup),g∈a0→Ar g.1.size),((!(BS a0 a1 a2))=true→∀(g:TGroup),g∈a0→Ar g.1.size),((!(BS a0 a1 a2))=true→(!(CX a0 a1 a2))=true→(!(DY a0 a1 a2))=true→Ag ((0:Nat)+a1.2.length)),((!(BS a0 a1 a2))=true→(!(CX a0 a1 a2))=true→(!(DY a0 a1 a2))=true→Ae Try.prog (74:FuncId) (0:Nat)=Ae Try.prog (74:FuncId) (0:Nat)),((!(BS a0 a1 a2))=true→(!(CX a0 a1 a2))=true→(!(DY a0 a1 a2))=true→AD E2 E1 Ih (GF ((0:Int),a2,a1.1,G5 a1)) ((0:Int),a2,a1.1,G5 a1))]):=by kernel_rfl
theorem Bi8 (a0:List TGroup) (a1:TRow) (a2:TRow) (hp:∀p∈Be6 a0 a1 a2,p):CallOk Try.prog 74 [.sl .group a0,Af .row a1,Af .row a2] 0 [] 1 (Ad0 a0 a1 a2) 1 (Adz a0 a1 a2):=by
 have n0:=N0 hp
 have n1:=N0 (N1 hp)
 have n2:=N0 (N1 (N1 hp))
 have n3:((!(BS a0 a1 a2))=true→(!(CX a0 a1 a2))=true→(!(DY a0 a1 a2))=true→Ae Try.prog (74:FuncId) (0:Nat)=Ae Try.prog (74:FuncId) (0:Nat)):=by intros;rfl
 have n4:=N0 (N1 (N1 (N1 hp)))
 exact Az (An Atx Ase) (Be5 a0 a1 a2) (Aa n0 (Aa n1 (Aa n2 (Aa n3 (Aa n4 Ad)))))
def Apd (a0:List TGroup) (a1:TRow) (a2:TRow):A:=.tup [.agg [.v (.string (jnK a0 a1 a2)),.sq 0],.v (.int .i64 (jnE a0 a1 a2))]
def Apc (a0:List TGroup) (a1:TRow) (a2:TRow):Objs:=[(0,some (.arr 55 8 (.ty .cell (jnL a0 a1 a2))))]
def Ah4 (a0:List TGroup) (_a1:TRow) (_a2:TRow):List Prop:=[∀g∈a0,Ar g.1.size]
theorem Al9 {l:List TGroup} {a b:TRow} (ha:Ai l a=0) (hb:Ai l b=0):
  AD E2 E1 Ih (GF (0,b,a.key,a.cells)) (0,b,a.key,a.cells)∧IQ (0,b,a.key,a.cells)=((a.cells.length:Int),b,a.key,jnN a.cells b.cells a.cells.length):=by
 have h1:=(AJ ha).2.1
 have h2:=(AJ hb).2.1
 have h4:=(G7 (AJ ha).1).2
 have hlen:=fun i=>Af2 a.cells b.cells i
 obtain⟨h5,k,hk,hx,_,hst,_⟩:=IW (fun i=>((i:Int),b,a.key,jnN a.cells b.cells i):Nat→C3) a.cells.length (fun _=>false) E2 E1 Ih (GF (0,b,a.key,a.cells)) (0,b,a.key,a.cells) rfl (by show a.cells.length≤((a.cells.length:Int) - 0).toNat;omega)
  (fun i _ _=>by
   show(!!decide ((i:Int) <((jnN a.cells b.cells i).length:Int)))=_
   rw[nn,hlen,M9,Bool.not_false,Bool.and_true])
  (fun i hi _=>by
   show(IntKind.i64.wrap ((i:Int)+1),b,a.key,NO (i:Int) b a.key (jnN a.cells b.cells i))=(((i+1:Nat):Int),b,a.key,jnN a.cells b.cells (i+1))
   unfold NO
   rw[Fd (by omega),Int.toNat_natCast]
   show(_,_,_,(jnN a.cells b.cells i).set i (HI (Cm (jnN a.cells b.cells i) i) (Cm b.cells i)))=(_,_,_,(jnN a.cells b.cells i).set i (Lk (Cm (jnN a.cells b.cells i) i) (Cm b.cells i)))
   have e:Cm (jnN a.cells b.cells i) i=Cm a.cells i:=by
    rw[Bhy a.cells b.cells i hi i,decide_eq_false (Nat.lt_irrefl i)]
    rfl
   rw[e,A35 (Jq ha (by omega:i <l.length))])
  (fun i hi _=>by
   have hin:BC (i:Int) b a.key (jnN a.cells b.cells i)=true→(i:Int) <((jnN a.cells b.cells i).length:Int):=fun h=>by
    unfold BC at h
    rw[nn] at h
    exact of_decide_eq_true h
   refine Aa (fun h=>⟨by show(0:Int)≤(i:Int);omega,hin h⟩) (Aa (fun h=>⟨by show(0:Int)≤(i:Int);omega,?_⟩) Ad)
   have:=hin h
   rw[hlen] at this
   show(i:Int) <(b.cells.length:Int)
   omega)
 have hkn:k=a.cells.length:=by
  rcases Nat.lt_or_ge k a.cells.length with h|h
  ·exact absurd (hst h) (by decide)
  ·omega
 subst hkn
 exact⟨h5,hx⟩
theorem Bxe (l:List TGroup) (a b:TRow):Uu l a b=jnE l a b∧Adx l a b=jnK l a b∧Ady l a b=jnL l a b:=by
 have hkey:DY l a b=!(a.key==b.key):=by
  unfold DY
  rw[tlb]
 have e1:Uu l a b=jnE l a b:=by
  unfold Uu jnE
  rw[hkey]
  rfl
 have split:∀{α:Type} (z:α) (f:α),(bif BS l a b then z else bif CX l a b then z else bif DY l a b then z else f)=bif jnE l a b==0 then f else z:=fun z f=>by
  by_cases h:jnE l a b=0
  ·obtain⟨h1,h2,h3⟩:=Bc7.1 h
   have k0:BS l a b=false:=by unfold BS;rw[h1];rfl
   have k1:CX l a b=false:=by unfold CX;rw[h2];rfl
   rw[k0,k1,hkey,h3,beq_self_eq_true,h]
   rfl
  ·have hne:(jnE l a b==0)=false:=by simpa using h
   rw[hne,cond_false]
   cases h1:BS l a b with
   |true=>rfl
   | false=>
    cases h2:CX l a b with
    |true=>rfl
    | false=>
     cases h3:DY l a b with
     |true=>rfl
     |false=>
      rw[hkey] at h3
      refine absurd (Bc7.2 ⟨?_,?_,?_⟩) h
      ·unfold BS at h1;simpa using h1
      ·unfold CX at h2;simpa using h2
      ·simpa using h3
 refine⟨e1,?_,?_⟩
 ·unfold Adx
  rw[split]
  unfold jnK
  by_cases h:jnE l a b=0
  ·obtain⟨h1,h2,h3⟩:=Bc7.1 h
   rw[h]
   show(IQ (0,b,a.key,a.cells)).snd.snd.fst=a.key
   rw[(Al9 h1 h2).2]
  ·have hne:(jnE l a b==0)=false:=by simpa using h
   rw[hne]
   rfl
 ·unfold Ady
  rw[split]
  unfold jnL
  by_cases h:jnE l a b=0
  ·obtain⟨h1,h2,h3⟩:=Bc7.1 h
   have hl:a.cells.length=b.cells.length:=(AJ h1).2.1.trans (AJ h2).2.1.symm
   rw[h]
   show(IQ (0,b,a.key,a.cells)).snd.snd.snd=jnN a.cells b.cells b.cells.length
   rw[(Al9 h1 h2).2,hl]
  ·have hne:(jnE l a b==0)=false:=by simpa using h
   rw[hne]
   rfl
theorem Be4 (a0:List TGroup) (a1:TRow) (a2:TRow) (hp:∀p∈Ah4 a0 a1 a2,p):CallOk Try.prog 74 [.sl .group a0,Af .row a1,Af .row a2] 0 [] 1 (Apd a0 a1 a2) 1 (Apc a0 a1 a2):=by
 have hw:∀g∈a0,Ar g.1.size:=hp _ (List.mem_cons_self ..)
 have g1:(!(BS a0 a1 a2))=true→Ai a0 a1=0:=fun h=>by
  have h':(!(Ai a0 a1 !=0))=true:=h
  simpa using h'
 have g2:(!(CX a0 a1 a2))=true→Ai a0 a2=0:=fun h=>by
  have h':(!(Ai a0 a2 !=0))=true:=h
  simpa using h'
 have h:=Bi8 a0 a1 a2 (Aa hw (Aa (fun _=>hw) (Aa (fun h _ _=>by
  have q1:=(AJ (g1 h)).2.1
  have q2:=(G7 (AJ (g1 h)).1).2
  have q3:a1.2.length=a0.length:=q1
  unfold Ag
  omega) (Aa (fun h h2 _=>(Al9 (g1 h) (g2 h2)).1) Ad))))
 obtain⟨e1,e2,e3⟩:=Bxe a0 a1 a2
 unfold Ad0 Adz at h
 rw[e1,e2,e3] at h
 exact h
def Ayt:List A→Nat→Objs→Option A3:=Bg [.l .group,.t .row,.t .row] 1 Apd Apc Ah4
theorem A80:Fi Try.prog 74 Ayt:=Aq (ks:=[.l .group,.t .row,.t .row]) Be4
noncomputable def Ba4:=A4 74 Ayt Ba3
theorem Aty:Dd Try.prog Ba4:=Am A80 Atx
abbrev DG:Type:=(List TRow)×ByteArray×Int×ByteArray
def Oy (x:DG):St:=⟨26,1,[(0,.sl .row x.1),(1,.v (.string x.2.1)),(4,.own 0 0),(6,.v (.int .i64 x.2.2.1))],[(0,some (.box 71 [.v (.string x.2.2.2),.v (.slice none 0 0)]))]⟩
def RR:St→Option DG
 |⟨26,1,[(0,.sl .row z0),(1,.v (.string z1)),(4,.own 0 0),(6,.v (.int .i64 z2))],[(0,some (.box 71 [.v (.string z3),.v (.slice none 0 0)]))]⟩=>some (z0,z1,z2,z3)
 |_=>none
theorem Ass:∀s x,RR s=some x→s=Oy x:=fun s x h=>by
 unfold RR at h
 split at h
 ·cases h;rfl
 ·cases h
def Aie:De:=⟨1,1,[0,1,4,6],[],[(0,0)],[0],[5],[0,1]⟩
def A85:Dy:=⟨[],[(0,0)],[0,1,4,6],[0]⟩
def Hh (a0:List TRow) (_a1:ByteArray) (a2:Int) (_a3:ByteArray):Bool:=!!decide (a2 <(↑a0.length:Int))
def FY (a0:List TRow) (a1:ByteArray) (a2:Int) (a3:ByteArray):Bool:=(Hh a0 a1 a2 a3)&&(a0.getD a2.toNat (Ac TC.row)).1.toList==a1.toList
def Aza (a0:List TRow) (a1:ByteArray) (a2:Int) (a3:ByteArray):Bool:=(Hh a0 a1 a2 a3)&&!(FY a0 a1 a2 a3)
def Kw (a0:List TRow) (_a1:ByteArray) (a2:Int) (_a3:ByteArray):ByteArray:=(a0.getD a2.toNat (Ac TC.row)).1
def Kx (a0:List TRow) (_a1:ByteArray) (a2:Int) (_a3:ByteArray):List TCell:=G5 (a0.getD a2.toNat (Ac TC.row))
def Hj (x:DG):DG:=(x.1,x.2.1,IntKind.i64.wrap (x.2.2.1+(1:Int)),x.2.2.2)
def Hi (x:DG):Cnd:=some (Aza x.1 x.2.1 x.2.2.1 x.2.2.2)
def PS (x:DG):List Prop:=[((Hh x.1 x.2.1 x.2.2.1 x.2.2.2)=true→(0:Int)≤x.2.2.1∧x.2.2.1 <(↑x.1.length:Int)),((Hh x.1 x.2.1 x.2.2.1 x.2.2.2)=true→((x.1.getD x.2.2.1.toNat (Ac TC.row)).1.toList==x.2.1.toList)=true→(0:Int)≤x.2.2.1∧x.2.2.1 <(↑x.1.length:Int)),((Hh x.1 x.2.1 x.2.2.1 x.2.2.2)=true→((x.1.getD x.2.2.1.toNat (Ac TC.row)).1.toList==x.2.1.toList)=true→Ag ((0:Nat)+(x.1.getD x.2.2.1.toNat (Ac TC.row)).2.length))]
abbrev Km:DG→List Prop:=PS
def Vv (x:DG):Bj:=[(some 0,some (!decide (x.2.2.1 <(↑x.1.length:Int))),⟨26,1,[(5,.dead)],[(0,some (.box 71 [.v (.string x.2.2.2),.v (.slice none 0 0)])),(1,none)]⟩),(none,some ((FY x.1 x.2.1 x.2.2.1 x.2.2.2)),⟨26,2,[(5,.v (.bool (true)))],[(0,some (.box 71 [.v (.string (Kw x.1 x.2.1 x.2.2.1 x.2.2.2)),.sq 1])),(1,some (.arr 55 8 (.ty .cell (Kx x.1 x.2.1 x.2.2.1 x.2.2.2))))]⟩)]
def IS (x:DG):Nat:=((↑x.1.length:Int) - x.2.2.1).toNat
def JH (x:DG):DG:=A9 Hj Hi (IS x) x
theorem A2i (a0:List TRow) (a1:ByteArray) (a2:Int) (a3:ByteArray):Bw (As Ba4 L0) 9 (Ae Try.prog 148 0) Aie (Oy (a0,a1,a2,a3))=some (PS (a0,a1,a2,a3),Vv (a0,a1,a2,a3),Hi (a0,a1,a2,a3),Oy (Hj (a0,a1,a2,a3))):=by kernel_rfl
theorem A2j (a0:List TRow) (a1:ByteArray) (a2:Int) (a3:ByteArray) (hp:∀p∈Km (a0,a1,a2,a3),p):∀p∈PS (a0,a1,a2,a3),p:=hp
noncomputable def Ya:=HG (As Ba4 L0) (Ae Try.prog 148 0) Aie A85 RR IS Hj Hi Km Vv
theorem Azb:∀s b ps outs,Ya s=some (b,ps,outs)→Wf s ⟨ps,outs,none⟩∧Bt (As C0 L0) b s ps outs:=
 Bh (T:=Oy) Aty Ay (u:=9) (by kernel_rfl) (by decide) (fun⟨a0,a1,a2,a3⟩=>A2i a0 a1 a2 a3) (fun⟨a0,a1,a2,a3⟩=>A2j a0 a1 a2 a3) Ass (fun _=>AK (n:=26) rfl) fun _ _=>rfl
noncomputable def Aid:=DI 0 Ya L0
theorem Ay9:G9 Aid:=AV Azb Ay
def PR (a0:List TRow) (a1:ByteArray):List TRow:=(JH (a0,a1,(0:Int),ByteArray.mk #[])).fst
def PQ (a0:List TRow) (a1:ByteArray):ByteArray:=(JH (a0,a1,(0:Int),ByteArray.mk #[])).snd.fst
def PP (a0:List TRow) (a1:ByteArray):ByteArray:=(JH (a0,a1,(0:Int),ByteArray.mk #[])).snd.snd.snd
def PO (a0:List TRow) (a1:ByteArray):Int:=(JH (a0,a1,(0:Int),ByteArray.mk #[])).snd.snd.fst
def PN (a0:List TRow) (a1:ByteArray):Bool:=FY (PR a0 a1) (PQ a0 a1) (PO a0 a1) (PP a0 a1)
def Ama (a0:List TRow) (a1:ByteArray):ByteArray:=bif(PN a0 a1) then Kw (PR a0 a1) (PQ a0 a1) (PO a0 a1) (PP a0 a1) else ByteArray.mk #[]
def Amb (a0:List TRow) (a1:ByteArray):Bool:=bif(PN a0 a1) then true else false
def Amc (a0:List TRow) (a1:ByteArray):List TCell:=bif(PN a0 a1) then Kx (PR a0 a1) (PQ a0 a1) (PO a0 a1) (PP a0 a1) else[]
def Ame (a0:List TRow) (a1:ByteArray):A:=.tup [.agg [.v (.string (Ama a0 a1)),.sq 0],.v (.bool (Amb a0 a1))]
def Amd (a0:List TRow) (a1:ByteArray):Objs:=[(0,some (.arr 55 8 (.ty .cell (Amc a0 a1))))]
def Azd (a0:List TRow) (a1:ByteArray):List Prop:=[(AD Hj Hi Km (IS (a0,a1,(0:Int),ByteArray.mk #[])) (a0,a1,(0:Int),ByteArray.mk #[]))]
theorem Bjh (a0:List TRow) (a1:ByteArray):Ff (As Ba4 Aid) 9 148 [Af .rows a0,Af .str a1] 0 []=some (1,Ame a0 a1,1,Amd a0 a1,[(Ae Try.prog (148:FuncId) (0:Nat)=Ae Try.prog (148:FuncId) (0:Nat)),(AD Hj Hi Km (IS (a0,a1,(0:Int),ByteArray.mk #[])) (a0,a1,(0:Int),ByteArray.mk #[]))]):=by kernel_rfl
theorem Bot (a0:List TRow) (a1:ByteArray) (hp:∀p∈Azd a0 a1,p):CallOk Try.prog 148 [Af .rows a0,Af .str a1] 0 [] 1 (Ame a0 a1) 1 (Amd a0 a1):=by
 have n1:=N0 hp
 exact Az (An Aty Ay9) (Bjh a0 a1) (Aa rfl (Aa n1 Ad))
def gtK (rows:List TRow) (key:ByteArray):ByteArray:=match M4 rows key with
 |some r=>r.key
 |none=>⟨#[]⟩
def gtC (rows:List TRow) (key:ByteArray):List TCell:=match M4 rows key with
 |some r=>r.cells
 |none=>[]
def gtB (rows:List TRow) (key:ByteArray):Bool:=match M4 rows key with
 |some _=>true
 |none=>false
def Aze (a0:List TRow) (a1:ByteArray):A:=.tup [.agg [.v (.string (gtK a0 a1)),.sq 0],.v (.bool (gtB a0 a1))]
def Azc (a0:List TRow) (a1:ByteArray):Objs:=[(0,some (.arr 55 8 (.ty .cell (gtC a0 a1))))]
def Apo (a0:List TRow) (_a1:ByteArray):List Prop:=[Ar a0.length,∀r∈a0,Ag r.cells.length]
theorem Bxf (rows:List TRow) (key:ByteArray) (hb:Ar rows.length) (hc:∀r∈rows,Ag r.cells.length):(∀p∈Azd rows key,p)∧Ama rows key=gtK rows key∧Amb rows key=gtB rows key∧Amc rows key=gtC rows key:=by
 unfold Ar at hb
 have hk0:∀i:Nat,FY rows key (i:Int) ⟨#[]⟩=(decide (i <rows.length)&&((C7 rows i).key==key)):=fun i=>by
  unfold FY Hh
  rw[nn,M9,tlb,Int.toNat_natCast]
  rfl
 obtain⟨h1,k,hk,hx,hs,hst,_⟩:=IW (fun i=>((rows,key,(i:Int),⟨#[]⟩):DG)) rows.length (fun i=>(C7 rows i).key==key) Hj Hi Km (IS (rows,key,0,⟨#[]⟩)) (rows,key,0,⟨#[]⟩) rfl (by show rows.length≤((rows.length:Int) - 0).toNat;omega)
  (fun i _ _=>by
   show((!!decide ((i:Int) <(rows.length:Int)))&&!FY rows key (i:Int) ⟨#[]⟩)=_
   rw[hk0,nn,M9]
   cases decide (i <rows.length)<;>rfl)
  (fun i hi _=>by
   show(rows,key,IntKind.i64.wrap ((i:Int)+1),(⟨#[]⟩:ByteArray))=(rows,key,((i+1:Nat):Int),⟨#[]⟩)
   rw[Fd (by omega)])
  (fun i hi _=>by
   have hin:(!!decide ((i:Int) <(rows.length:Int)))=true→(i:Int) <(rows.length:Int):=fun h=>by rw[nn] at h;exact of_decide_eq_true h
   refine Aa (fun h=>⟨by show(0:Int)≤(i:Int);omega,hin h⟩) (Aa (fun h _=>⟨by show(0:Int)≤(i:Int);omega,hin h⟩) (Aa (fun h _=>?_) Ad))
   have h2:=hin h
   show Ag (0+(rows.getD ((i:Int)).toNat (Ac TC.row)).2.length)
   rw[Int.toNat_natCast,Nat.zero_add]
   exact hc _ (getD_in rows (Ac TC.row) i (by omega)))
 have hr:JH (rows,key,0,⟨#[]⟩)=(rows,key,(k:Int),⟨#[]⟩):=hx
 have hat:=Bbp key rows k hk hs hst
 refine⟨Aa h1 Ad,?_⟩
 have e0:PN rows key=decide (k <rows.length):=by
  unfold PN PR PQ PO PP
  rw[hr]
  show FY rows key (k:Int) ⟨#[]⟩=_
  rw[hk0]
  rcases Nat.lt_or_ge k rows.length with h|h
  ·have h2:((C7 rows k).key==key)=true:=hst h
   rw[decide_eq_true h,h2]
   rfl
  ·rw[decide_eq_false (by omega)]
   rfl
 unfold Ama Amb Amc gtK gtB gtC
 rw[e0,hat]
 unfold PR PQ PO PP
 rw[hr]
 by_cases h:k <rows.length
 ·rw[decide_eq_true h,if_pos h]
  show Kw rows key (k:Int) ⟨#[]⟩=_∧true=true∧Kx rows key (k:Int) ⟨#[]⟩=_
  unfold Kw Kx
  rw[Int.toNat_natCast]
  exact⟨rfl,rfl,rfl⟩
 ·rw[decide_eq_false h,if_neg h]
  exact⟨rfl,rfl,rfl⟩
theorem Bjg (a0:List TRow) (a1:ByteArray) (hp:∀p∈Apo a0 a1,p):CallOk Try.prog 148 [Af .rows a0,Af .str a1] 0 [] 1 (Aze a0 a1) 1 (Azc a0 a1):=by
 obtain⟨g1,e1,e2,e3⟩:=Bxf a0 a1 (hp _ (List.mem_cons_self ..)) (hp _ (List.mem_cons_of_mem _ (List.mem_cons_self ..)))
 have h:=Bot a0 a1 g1
 unfold Ame Amd at h
 rw[e1,e2,e3] at h
 exact h
def A4u:List A→Nat→Objs→Option A3:=Bg [.t .rows,.t .str] 1 Aze Azc Apo
theorem Bff:Fi Try.prog 148 A4u:=Aq (ks:=[.t .rows,.t .str]) Bjg
noncomputable def Ba5:=A4 148 A4u Ba4
theorem Atz:Dd Try.prog Ba5:=Am Bff Aty
abbrev DH:Type:=(List TRow)×Bool×Int×TRow×(List TRow)
def Oz (x:DH):St:=⟨54,3,[(0,.sl .row x.1),(3,.own 0 0),(5,.sq 2),(6,.v (.bool x.2.1)),(7,.v (.int .i64 x.2.2.1))],[(0,some (.box 71 [.v (.string x.2.2.2.1.key),.sl .cell x.2.2.2.1.cells])),(2,some (.arr 71 2 (.ty .row x.2.2.2.2)))]⟩
def RS:St→Option DH
 |⟨54,3,[(0,.sl .row z0),(3,.own 0 0),(5,.sq 2),(6,.v (.bool z1)),(7,.v (.int .i64 z2))],[(0,some (.box 71 [.v (.string z3),.sl .cell z4])),(2,some (.arr 71 2 (.ty .row z5)))]⟩=>some (z0,z1,z2,⟨z3,z4⟩,z5)
 |_=>none
theorem Ast:∀s x,RS s=some x→s=Oz x:=fun s x h=>by
 unfold RS at h
 split at h
 ·cases h;rfl
 ·cases h
def Aig:De:=⟨2,3,[0,3,5,6,7],[],[(0,0),(9,2)],[0,9],[5,6],[2,0]⟩
def A86:Dy:=⟨[.nil 5 71 .row],[(0,0),(1,2)],[0,3,5,6,7],[0,1]⟩
def F3 (a0:List TRow) (_a1:Bool) (a2:Int) (_a3:TRow) (_a4:List TRow):Bool:=!!decide (a2 <(↑a0.length:Int))
def IT (a0:List TRow) (a1:Bool) (a2:Int) (a3:TRow) (_a4:List TRow):Bool:=!(a0.getD a2.toNat (Ac TC.row)).1.toList==(bif !a1&&!Op.bytesLess (a0.getD a2.toNat (Ac TC.row)).1.toList a3.1.toList then a3.1 else a3.1).toList
def FZ (a0:List TRow) (a1:Bool) (a2:Int) (a3:TRow) (a4:List TRow):List TRow:=bif !a1&&!Op.bytesLess (a0.getD a2.toNat (Ac TC.row)).1.toList a3.1.toList then a4++[TRow.mk a3.1 (G5 a3)] else a4
def LO (a0:List TRow) (a1:Bool) (a2:Int) (a3:TRow) (_a4:List TRow):Bool:=bif !a1&&!Op.bytesLess (a0.getD a2.toNat (Ac TC.row)).1.toList a3.1.toList then true else a1
def LP (a0:List TRow) (a1:Bool) (a2:Int) (a3:TRow) (_a4:List TRow):TRow:=TRow.mk (bif !a1&&!Op.bytesLess (a0.getD a2.toNat (Ac TC.row)).1.toList a3.1.toList then a3.1 else a3.1) (bif !a1&&!Op.bytesLess (a0.getD a2.toNat (Ac TC.row)).1.toList a3.1.toList then a3.2 else a3.2)
def LQ (a0:List TRow) (a1:Bool) (a2:Int) (a3:TRow) (a4:List TRow):List TRow:=bif(IT a0 a1 a2 a3 a4) then(FZ a0 a1 a2 a3 a4)++[a0.getD a2.toNat (Ac TC.row)] else(FZ a0 a1 a2 a3 a4)
def Hl (x:DH):DH:=(x.1,LO x.1 x.2.1 x.2.2.1 x.2.2.2.1 x.2.2.2.2,IntKind.i64.wrap (x.2.2.1+(1:Int)),LP x.1 x.2.1 x.2.2.1 x.2.2.2.1 x.2.2.2.2,LQ x.1 x.2.1 x.2.2.1 x.2.2.2.1 x.2.2.2.2)
def Hk (x:DH):Cnd:=some ((F3 x.1 x.2.1 x.2.2.1 x.2.2.2.1 x.2.2.2.2))
def PT (x:DH):List Prop:=[((F3 x.1 x.2.1 x.2.2.1 x.2.2.2.1 x.2.2.2.2)=true→(!x.2.1)=true→(0:Int)≤x.2.2.1∧x.2.2.1 <(↑x.1.length:Int)),((F3 x.1 x.2.1 x.2.2.1 x.2.2.2.1 x.2.2.2.2)=true→(!x.2.1&&!Op.bytesLess (x.1.getD x.2.2.1.toNat (Ac TC.row)).1.toList x.2.2.2.1.1.toList)=true→Ag ((0:Nat)+x.2.2.2.1.2.length)),((F3 x.1 x.2.1 x.2.2.1 x.2.2.2.1 x.2.2.2.2)=true→(!x.2.1&&!Op.bytesLess (x.1.getD x.2.2.1.toNat (Ac TC.row)).1.toList x.2.2.2.1.1.toList)=true→Ag (x.2.2.2.2.length+(1:Nat))),((F3 x.1 x.2.1 x.2.2.1 x.2.2.2.1 x.2.2.2.2)=true→(0:Int)≤x.2.2.1∧x.2.2.1 <(↑x.1.length:Int)),((F3 x.1 x.2.1 x.2.2.1 x.2.2.2.1 x.2.2.2.2)=true→(IT x.1 x.2.1 x.2.2.1 x.2.2.2.1 x.2.2.2.2)=true→(0:Int)≤x.2.2.1∧x.2.2.1 <(↑x.1.length:Int)),((F3 x.1 x.2.1 x.2.2.1 x.2.2.2.1 x.2.2.2.2)=true→(IT x.1 x.2.1 x.2.2.1 x.2.2.2.1 x.2.2.2.2)=true→Ag ((FZ x.1 x.2.1 x.2.2.1 x.2.2.2.1 x.2.2.2.2).length+(1:Nat)))]
abbrev Kn:DH→List Prop:=PT
def Vw (x:DH):Bj:=[(some 0,some (!decide (x.2.2.1 <(↑x.1.length:Int))),⟨54,3,[(5,.sq 2),(6,.v (.bool x.2.1))],[(2,some (.arr 71 2 (.ty .row x.2.2.2.2))),(0,some (.box 71 [.v (.string x.2.2.2.1.1),.sl .cell x.2.2.2.1.2]))]⟩)]
def IU (x:DH):Nat:=((↑x.1.length:Int) - x.2.2.1).toNat
def G6 (x:DH):DH:=A9 Hl Hk (IU x) x
theorem A2k (a0:List TRow) (a1:Bool) (a2:Int) (a3:TRow) (a4:List TRow):Bw (As Ba5 L0) 9 (Ae Try.prog 178 0) Aig (Oz (a0,a1,a2,a3,a4))=some (PT (a0,a1,a2,a3,a4),Vw (a0,a1,a2,a3,a4),Hk (a0,a1,a2,a3,a4),Oz (Hl (a0,a1,a2,a3,a4))):=by kernel_rfl
theorem A2l (a0:List TRow) (a1:Bool) (a2:Int) (a3:TRow) (a4:List TRow) (hp:∀p∈Kn (a0,a1,a2,a3,a4),p):∀p∈PT (a0,a1,a2,a3,a4),p:=hp
noncomputable def Yb:=HG (As Ba5 L0) (Ae Try.prog 178 0) Aig A86 RS IU Hl Hk Kn Vw
theorem Azg:∀s b ps outs,Yb s=some (b,ps,outs)→Wf s ⟨ps,outs,none⟩∧Bt (As C0 L0) b s ps outs:=
 Bh (T:=Oz) Atz Ay (u:=9) (by kernel_rfl) (by decide) (fun⟨a0,a1,a2,a3,a4⟩=>A2k a0 a1 a2 a3 a4) (fun⟨a0,a1,a2,a3,a4⟩=>A2l a0 a1 a2 a3 a4) Ast (fun _=>AK (n:=54) rfl) fun _ _=>rfl
noncomputable def Aif:=DI 0 Yb L0
theorem Azf:G9 Aif:=AV Azg Ay
def MF (a0:List TRow) (a1:TRow):Bool:=!(G6 (a0,false,(0:Int),a1,[])).snd.fst
def ME (a0:List TRow) (a1:TRow):List TRow:=(G6 (a0,false,(0:Int),a1,[])).snd.snd.snd.snd
def Amf (a0:List TRow) (a1:TRow):List TRow:=bif(MF a0 a1) then(ME a0 a1)++[TRow.mk (G6 (a0,false,(0:Int),a1,[])).snd.snd.snd.fst.1 (G5 (G6 (a0,false,(0:Int),a1,[])).snd.snd.snd.fst)] else(ME a0 a1)
def Amh (_a0:List TRow) (_a1:TRow):A:=.sq 0
def Amg (a0:List TRow) (a1:TRow):Objs:=[(0,some (.arr 71 2 (.ty .row (Amf a0 a1))))]
def Azi (a0:List TRow) (a1:TRow):List Prop:=[(AD Hl Hk Kn (IU (a0,false,(0:Int),a1,[])) (a0,false,(0:Int),a1,[])),((MF a0 a1)=true→Ag ((0:Nat)+(G6 (a0,false,(0:Int),a1,[])).snd.snd.snd.fst.2.length)),((MF a0 a1)=true→Ag ((ME a0 a1).length+(1:Nat)))]
theorem Bjj (a0:List TRow) (a1:TRow):Ff (As Ba5 Aif) 9 178 [Af .rows a0,Af .row a1] 0 []=some (1,Amh a0 a1,1,Amg a0 a1,[(Ae Try.prog (178:FuncId) (0:Nat)=Ae Try.prog (178:FuncId) (0:Nat)),(AD Hl Hk Kn (IU (a0,false,(0:Int),a1,[])) (a0,false,(0:Int),a1,[])),((MF a0 a1)=true→Ag ((0:Nat)+(G6 (a0,false,(0:Int),a1,[])).snd.snd.snd.fst.2.length)),((MF a0 a1)=true→Ag ((ME a0 a1).length+(1:Nat)))]):=by kernel_rfl
theorem Bou (a0:List TRow) (a1:TRow) (hp:∀p∈Azi a0 a1,p):CallOk Try.prog 178 [Af .rows a0,Af .row a1] 0 [] 1 (Amh a0 a1) 1 (Amg a0 a1):=by
 have n1:=N0 hp
 have n2:=N0 (N1 hp)
 have n3:=N0 (N1 (N1 hp))
 exact Az (An Atz Azf) (Bjj a0 a1) (Aa rfl (Aa n1 (Aa n2 (Aa n3 Ad))))
def B1g (l:List TRow) (r:TRow):List TRow:=B2g r (LX r l l.length)
def Azj (a0:List TRow) (a1:TRow):A:=.sl .row (B1g a0 a1)
def Azh (_a0:List TRow) (_a1:TRow):Objs:=[]
def App (a0:List TRow) (a1:TRow):List Prop:=[a0.length≤400000∧Ag a1.cells.length]
theorem Bxg (rows:List TRow) (r:TRow) (hb:rows.length≤400000) (hc:Ag r.cells.length):(∀p∈Azi rows r,p)∧Amf rows r=B1g rows r:=by
 have hlt:∀i:Nat,Op.bytesLess (rows.getD ((i:Int)).toNat (Ac TC.row)).1.toList r.1.toList=Jd (C7 rows i).key r.key:=fun i=>by rw[Int.toNat_natCast];rfl
 have same:∀(c:Bool) (x:ByteArray),(bif c then x else x)=x:=fun c x=>by cases c<;>rfl
 have hcp:G5 r=r.2:=rfl
 have e1:∀(i:Nat) (d:Bool) (o:List TRow),LO rows d (i:Int) r o=(d||!Jd (C7 rows i).key r.key):=fun i d o=>by
  unfold LO
  rw[hlt]
  cases d<;>cases Jd (C7 rows i).key r.key<;>rfl
 have e3:∀(i:Nat) (d:Bool) (o:List TRow),LP rows d (i:Int) r o=r:=fun i d o=>by
  unfold LP
  rw[hlt]
  cases(!d&&!Jd (C7 rows i).key r.key)<;>rfl
 have ek0:∀(i:Nat) (d:Bool) (o:List TRow),FZ rows d (i:Int) r o=bif !d&&!Jd (C7 rows i).key r.key then o++[r] else o:=fun i d o=>by
  unfold FZ
  rw[hlt]
  rfl
 have ek1:∀(i:Nat) (d:Bool) (o:List TRow),IT rows d (i:Int) r o=!((C7 rows i).key==r.key):=fun i d o=>by
  unfold IT
  rw[same,tlb,Int.toNat_natCast]
  rfl
 have e4:∀(i:Nat) (d:Bool) (o:List TRow),LQ rows d (i:Int) r o=(bif !d&&!Jd (C7 rows i).key r.key then o++[r] else o)++(bif(C7 rows i).key==r.key then[] else[C7 rows i]):=fun i d o=>by
  unfold LQ
  rw[ek0,ek1,Int.toNat_natCast]
  cases(C7 rows i).key==r.key with
  |true=>exact(List.append_nil _).symm
  |false=>rfl
 have k0len:∀(i:Nat) (d:Bool) (o:List TRow),(FZ rows d (i:Int) r o).length≤o.length+1:=fun i d o=>by
  rw[ek0]
  cases(!d&&!Jd (C7 rows i).key r.key) with
  |true=>rw[cond_true,List.length_append];exact Nat.le_refl _
  |false=>exact Nat.le_succ _
 obtain⟨h1,hx⟩:=A9s (fun i=>((rows,(LX r rows i).2,(i:Int),r,(LX r rows i).1):DH)) rows.length Hl Hk Kn (IU (rows,false,0,r,[])) (rows,false,0,r,[]) rfl (by show rows.length≤((rows.length:Int) - 0).toNat;omega)
  (fun i _=>by
   show(!!decide ((i:Int) <(rows.length:Int)))=_
   rw[nn,M9])
  (fun i hi=>by
   show(rows,LO rows (LX r rows i).2 (i:Int) r (LX r rows i).1,IntKind.i64.wrap ((i:Int)+1),LP rows (LX r rows i).2 (i:Int) r (LX r rows i).1,LQ rows (LX r rows i).2 (i:Int) r (LX r rows i).1)=(rows,(LX r rows (i+1)).2,((i+1:Nat):Int),r,(LX r rows (i+1)).1)
   rw[Fd (by omega),e1,e3,e4,A41 r rows i hi]
   rfl)
  (fun i hi=>by
   have hin:(!!decide ((i:Int) <(rows.length:Int)))=true→(i:Int) <(rows.length:Int):=fun h=>by rw[nn] at h;exact of_decide_eq_true h
   have hl:=Az9 r rows i hi
   refine Aa (fun h _=>⟨by show(0:Int)≤(i:Int);omega,hin h⟩) (Aa (fun _ _=>?_) (Aa (fun _ _=>?_) (Aa (fun h=>⟨by show(0:Int)≤(i:Int);omega,hin h⟩) (Aa (fun h _=>⟨by show(0:Int)≤(i:Int);omega,hin h⟩) (Aa (fun _ _=>?_) Ad)))))
   ·show Ag (0+r.2.length)
    rw[Nat.zero_add]
    exact hc
   ·show Ag ((LX r rows i).1.length+1)
    unfold Ag
    omega
   ·have:=k0len i (LX r rows i).2 (LX r rows i).1
    show Ag ((FZ rows (LX r rows i).2 (i:Int) r (LX r rows i).1).length+1)
    unfold Ag
    omega)
 have hr:G6 (rows,false,0,r,[])=(rows,(LX r rows rows.length).2,(rows.length:Int),r,(LX r rows rows.length).1):=hx
 have hl:=Az9 r rows rows.length (Nat.le_refl _)
 refine⟨Aa h1 (Aa (fun _=>?_) (Aa (fun _=>?_) Ad)),?_⟩
 ·rw[hr,Nat.zero_add]
  exact hc
 ·unfold ME
  rw[hr]
  show Ag ((LX r rows rows.length).1.length+1)
  unfold Ag
  omega
 ·unfold Amf MF ME B1g B2g
  rw[hr]
  show(bif !(LX r rows rows.length).2 then(LX r rows rows.length).1++[r] else(LX r rows rows.length).1)=_
  cases(LX r rows rows.length).2<;>rfl
theorem Bji (a0:List TRow) (a1:TRow) (hp:∀p∈App a0 a1,p):CallOk Try.prog 178 [Af .rows a0,Af .row a1] 0 [] 1 (Azj a0 a1) 0 (Azh a0 a1):=by
 obtain⟨h1,h2⟩:=hp _ (List.mem_cons_self ..)
 obtain⟨g1,e1⟩:=Bxg a0 a1 h1 h2
 have h:=Bou a0 a1 g1
 unfold Amh Amg at h
 rw[e1] at h
 exact A3q (c:=.row) h
def A4v:List A→Nat→Objs→Option A3:=Bg [.t .rows,.t .row] 0 Azj Azh App
theorem Bfg:Fi Try.prog 178 A4v:=Aq (ks:=[.t .rows,.t .row]) Bji
noncomputable def Byp:=A4 178 A4v Ba5
theorem Bqw:Dd Try.prog Byp:=Am Bfg Atz
noncomputable def Cmg:=Byp
theorem Bz7:Dd Try.prog Cmg:=Bqw
end Go.Proofs.Yteebobbhhgmeiaa
namespace Go.Proofs.Yteebobbhhgmeiaa
open Go.RowKit
def Mj (a0:Int):A:=.v (.bool (a0==(1:Int)||a0==(2:Int)))
def Mi (_a0:Int):Objs:=[]
def Lj (_a0:Int):List Prop:=[]
theorem Afx (a0:Int):Ff (As Cb L0) 9 96 [Af .i64 a0] 0 []=some (1,Mj a0,0,Mi a0,Lj a0):=by kernel_rfl
theorem Aj5 (a0:Int) (hp:∀p∈Lj a0,p):CallOk Try.prog 96 [Af .i64 a0] 0 [] 1 (Mj a0) 0 (Mi a0):=Az (An Bko Ay) (Afx a0) hp
def Su:List A→Nat→Objs→Option A3:=Bg [.t .i64] 0 Mj Mi Lj
theorem Acd:Fi Try.prog 96 Su:=Aq (ks:=[.t .i64]) Aj5
noncomputable def Bpu:=A4 96 Su Cb
theorem Bah:Dd Try.prog Bpu:=Am Acd Bko
def Nu (a0:Int):Bool:=!(a0==(1:Int)||a0==(2:Int))
def Ks (a0:Int):Int:=bif(Nu a0) then(0:Int) else(0:Int)
def Jp (a0:Int):TFront:=TFront.mk (bif(Nu a0) then(0:Int) else a0) (Ks a0) (Ks a0) (Ks a0) (Ks a0)
def Au6 (a0:Int):Int:=bif(Nu a0) then(2:Int) else(0:Int)
def O6 (a0:Int):A:=.v (.tuple ⟨[.agg ⟨[.int .i64 ((Jp a0).site),.int .i64 ((Jp a0).acked),.int .i64 ((Jp a0).stable),.int .i64 ((Jp a0).wait),.int .i64 ((Jp a0).til)]⟩,.int .i64 (Au6 a0)]⟩)
def O5 (_a0:Int):Objs:=[]
def Nv (_a0:Int):List Prop:=[]
theorem Aq1 (a0:Int):Ff (As Bpu L0) 9 24 [Af .i64 a0] 0 []=some (1,O6 a0,0,O5 a0,Nv a0):=by kernel_rfl
theorem Au7 (a0:Int) (hp:∀p∈Nv a0,p):CallOk Try.prog 24 [Af .i64 a0] 0 [] 1 (O6 a0) 0 (O5 a0):=Az (An Bah Ay) (Aq1 a0) hp
def Wi:List A→Nat→Objs→Option A3:=Bg [.t .i64] 0 O6 O5 Nv
theorem Aj3:Fi Try.prog 24 Wi:=Aq (ks:=[.t .i64]) Au7
noncomputable def Bpv:=A4 24 Wi Bpu
theorem Bai:Dd Try.prog Bpv:=Am Aj3 Bah
def Sp (a0:TFront):Bool:=decide (a0.4 <(0:Int))||decide (a0.4 >(1099511627776:Int))
def So (a0:TFront):Bool:=decide (a0.3 <(0:Int))||decide (a0.3 >(1099511627776:Int))
def Sn (a0:TFront):Bool:=decide (a0.2 <(0:Int))||decide (a0.2 >(1099511627776:Int))
def IK (a0:TFront):Bool:=bif(Sn a0)||((So a0)||((Sp a0)||(decide (a0.5 <(0:Int))||decide (a0.5 >(1099511627776:Int))))) then bif(Sn a0) then false else bif(So a0) then false else bif(Sp a0) then false else false else(a0.1==(1:Int)||a0.1==(2:Int))&&decide (max a0.3 a0.4≤a0.2)&&!(a0.5==(0:Int)&&decide (a0.4 >(0:Int)))
def Nt (a0:TFront):A:=.v (.bool (IK a0))
def Ns (_a0:TFront):Objs:=[]
def Md (_a0:TFront):List Prop:=[]
theorem Ajz (a0:TFront):Ff (As Bpv L0) 9 34 [Af .front a0] 0 []=some (1,Nt a0,0,Ns a0,Md a0):=by kernel_rfl
theorem Aqx (a0:TFront) (hp:∀p∈Md a0,p):CallOk Try.prog 34 [Af .front a0] 0 [] 1 (Nt a0) 0 (Ns a0):=Az (An Bai Ay) (Ajz a0) hp
def UU:List A→Nat→Objs→Option A3:=Bg [.t .front] 0 Nt Ns Md
theorem Afq:Fi Try.prog 34 UU:=Aq (ks:=[.t .front]) Aqx
noncomputable def Bpw:=A4 34 UU Bpv
theorem Baj:Dd Try.prog Bpw:=Am Afq Bai
def C8 (a0:TFront) (a1:TVec):Int:=bif !IK a0||!BN a1 then(2:Int) else(0:Int)
def Mh (a0:TFront) (a1:TVec):A:=.v (.int .i64 (C8 a0 a1))
def Mg (_a0:TFront) (_a1:TVec):Objs:=[]
def Li (_a0:TFront) (_a1:TVec):List Prop:=[]
theorem Afw (a0:TFront) (a1:TVec):Ff (As Bpw L0) 9 97 [Af .front a0,Af .vec a1] 0 []=some (1,Mh a0 a1,0,Mg a0 a1,Li a0 a1):=by kernel_rfl
theorem Aj4 (a0:TFront) (a1:TVec) (hp:∀p∈Li a0 a1,p):CallOk Try.prog 97 [Af .front a0,Af .vec a1] 0 [] 1 (Mh a0 a1) 0 (Mg a0 a1):=Az (An Baj Ay) (Afw a0 a1) hp
def Ss:List A→Nat→Objs→Option A3:=Bg [.t .front,.t .vec] 0 Mh Mg Li
theorem Acc:Fi Try.prog 97 Ss:=Aq (ks:=[.t .front,.t .vec]) Aj4
noncomputable def Bpx:=A4 97 Ss Bpw
theorem Bak:Dd Try.prog Bpx:=Am Acc Baj
theorem B03 {s:Int} (h:s=1∨s=2):0≤IntKind.i64.wrap (2 - s)∧IntKind.i64.wrap (2 - s) <2:=by
 rcases h with rfl|rfl<;>decide
theorem B2q {s:Int} (h:s=1∨s=2):0≤IntKind.i64.wrap (s - 1)∧IntKind.i64.wrap (s - 1) <2:=by
 rcases h with rfl|rfl<;>decide
theorem OZ {f:TFront} {v:TVec} (h:(!(C8 f v !=0))=true):f.site=1∨f.site=2:=by
 have hg:IK f=true:=by
  unfold C8 at h
  cases hg:IK f with
  |true=>rfl
  |false=>rw[hg] at h;cases h
 unfold IK at hg
 rw[Bool.cond_eq_ite] at hg
 split at hg
 ·repeat' (first|(cases hg;done)|(rw[Bool.cond_eq_ite] at hg;split at hg))
 ·simp only[Bool.and_eq_true,Bool.or_eq_true,beq_iff_eq] at hg
  exact hg.1.1
theorem B23 {c d:Bool} {s:Int}:(bif c then s else bif d then s else s)=s:=by cases c<;>cases d<;>rfl
def AO (a0:TFront) (_a1:TVec):Int:=IntKind.i64.wrap ((2:Int) - a0.1)
def Aj (a0:TFront) (a1:TVec):Int:=bif(AO a0 a1).toNat.beq (0:Nat) then a1.1 else a1.2
def I6 (a0:TFront) (a1:TVec):A:=.v (.int .i64 (Aj a0 a1))
def I5 (_a0:TFront) (_a1:TVec):Objs:=[]
def Ld (a0:TFront) (a1:TVec):List Prop:=[((0:Int)≤(AO a0 a1)∧(AO a0 a1) <(2:Int))]
theorem TU (a0:TFront) (a1:TVec):Ff (As Bpx L0) 9 98 [Af .front a0,Af .vec a1] 0 []=some (1,I6 a0 a1,0,I5 a0 a1,[((0:Int)≤(AO a0 a1)∧(AO a0 a1) <(2:Int)),((AO a0 a1).toNat <(2:Nat))]):=by kernel_rfl
theorem VG (a0:TFront) (a1:TVec) (hp:∀p∈Ld a0 a1,p):CallOk Try.prog 98 [Af .front a0,Af .vec a1] 0 [] 1 (I6 a0 a1) 0 (I5 a0 a1):=by
 have n0:=N0 hp
 have n1:((AO a0 a1).toNat <(2:Nat)):=by omega
 exact Az (An Bak Ay) (TU a0 a1) (Aa n0 (Aa n1 Ad))
def LY:List A→Nat→Objs→Option A3:=Bg [.t .front,.t .vec] 0 I6 I5 Ld
theorem Sm:Fi Try.prog 98 LY:=Aq (ks:=[.t .front,.t .vec]) VG
noncomputable def Bpy:=A4 98 LY Bpx
theorem Bal:Dd Try.prog Bpy:=Am Sm Bak
def Df (a0:TFront) (a1:TVec):Bool:=decide (a0.5 >(0:Int))&&decide (Aj a0 a1≥a0.5)
def AE (a0:TFront) (a1:TVec):TFront:=TFront.mk (bif(Df a0 a1) then a0.1 else a0.1) (bif(Df a0 a1) then a0.2 else a0.2) (bif(Df a0 a1) then max a0.3 a0.4 else a0.3) (bif(Df a0 a1) then(0:Int) else a0.4) (bif(Df a0 a1) then(0:Int) else a0.5)
def HE (a0:TFront) (a1:TVec):A:=.v (.agg ⟨[.int .i64 ((AE a0 a1).site),.int .i64 ((AE a0 a1).acked),.int .i64 ((AE a0 a1).stable),.int .i64 ((AE a0 a1).wait),.int .i64 ((AE a0 a1).til)]⟩)
def HD (_a0:TFront) (_a1:TVec):Objs:=[]
def Ha (a0:TFront) (a1:TVec):List Prop:=[(decide (a0.5 >(0:Int))=true→(0:Int)≤AO a0 a1∧AO a0 a1 <(2:Int))]
theorem Qb (a0:TFront) (a1:TVec):Ff (As Bpy L0) 9 99 [Af .front a0,Af .vec a1] 0 []=some (1,HE a0 a1,0,HD a0 a1,Ha a0 a1):=by kernel_rfl
theorem Rl (a0:TFront) (a1:TVec) (hp:∀p∈Ha a0 a1,p):CallOk Try.prog 99 [Af .front a0,Af .vec a1] 0 [] 1 (HE a0 a1) 0 (HD a0 a1):=Az (An Bal Ay) (Qb a0 a1) hp
def Kg:List A→Nat→Objs→Option A3:=Bg [.t .front,.t .vec] 0 HE HD Ha
theorem O2:Fi Try.prog 99 Kg:=Aq (ks:=[.t .front,.t .vec]) Rl
noncomputable def Bpz:=A4 99 Kg Bpy
theorem Bam:Dd Try.prog Bpz:=Am O2 Bal
def Jc (a0:TFront) (a1:TVec) (a2:Int) (_a3:Int):Int:=AO (TFront.mk a0.1 (max a0.2 a2) a0.3 a0.4 a0.5) a1
def AY (a0:TFront) (a1:TVec) (_a2:Int) (_a3:Int):Bool:=C8 a0 a1 !=(0:Int)
def CK (a0:TFront) (_a1:TVec) (_a2:Int) (_a3:Int):Int:=IntKind.i64.wrap (a0.1 - (1:Int))
def BO (a0:TFront) (a1:TVec) (a2:Int) (a3:Int):Bool:=decide (a2 <(0:Int))||decide (a2 >bif(CK a0 a1 a2 a3).toNat.beq (0:Nat) then a1.1 else a1.2)||decide (a3 <(0:Int))||decide (a3 >(1099511627776:Int))
def Jb (a0:TFront) (a1:TVec) (a2:Int) (a3:Int):Int:=AO (TFront.mk (bif decide (Aj (TFront.mk a0.1 (max a0.2 a2) a0.3 a0.4 a0.5) a1≥a3) then a0.1 else bif a0.5==(0:Int)&&decide (a2 >a0.3) then a0.1 else a0.1) (bif decide (Aj (TFront.mk a0.1 (max a0.2 a2) a0.3 a0.4 a0.5) a1≥a3) then max a0.2 a2 else bif a0.5==(0:Int)&&decide (a2 >a0.3) then max a0.2 a2 else max a0.2 a2) (bif decide (Aj (TFront.mk a0.1 (max a0.2 a2) a0.3 a0.4 a0.5) a1≥a3) then max a0.3 a2 else bif a0.5==(0:Int)&&decide (a2 >a0.3) then a0.3 else a0.3) (bif decide (Aj (TFront.mk a0.1 (max a0.2 a2) a0.3 a0.4 a0.5) a1≥a3) then a0.4 else bif a0.5==(0:Int)&&decide (a2 >a0.3) then a2 else a0.4) (bif decide (Aj (TFront.mk a0.1 (max a0.2 a2) a0.3 a0.4 a0.5) a1≥a3) then a0.5 else bif a0.5==(0:Int)&&decide (a2 >a0.3) then a3 else a0.5)) a1
def HZ (a0:TFront) (a1:TVec) (a2:Int) (a3:Int):TFront:=TFront.mk (bif(AY a0 a1 a2 a3) then(0:Int) else bif(BO a0 a1 a2 a3) then(0:Int) else(AE (TFront.mk (bif decide (Aj (TFront.mk a0.1 (max a0.2 a2) a0.3 a0.4 a0.5) a1≥a3) then a0.1 else bif a0.5==(0:Int)&&decide (a2 >a0.3) then a0.1 else a0.1) (bif decide (Aj (TFront.mk a0.1 (max a0.2 a2) a0.3 a0.4 a0.5) a1≥a3) then max a0.2 a2 else bif a0.5==(0:Int)&&decide (a2 >a0.3) then max a0.2 a2 else max a0.2 a2) (bif decide (Aj (TFront.mk a0.1 (max a0.2 a2) a0.3 a0.4 a0.5) a1≥a3) then max a0.3 a2 else bif a0.5==(0:Int)&&decide (a2 >a0.3) then a0.3 else a0.3) (bif decide (Aj (TFront.mk a0.1 (max a0.2 a2) a0.3 a0.4 a0.5) a1≥a3) then a0.4 else bif a0.5==(0:Int)&&decide (a2 >a0.3) then a2 else a0.4) (bif decide (Aj (TFront.mk a0.1 (max a0.2 a2) a0.3 a0.4 a0.5) a1≥a3) then a0.5 else bif a0.5==(0:Int)&&decide (a2 >a0.3) then a3 else a0.5)) a1).1) (bif(AY a0 a1 a2 a3) then(0:Int) else bif(BO a0 a1 a2 a3) then(0:Int) else(AE (TFront.mk (bif decide (Aj (TFront.mk a0.1 (max a0.2 a2) a0.3 a0.4 a0.5) a1≥a3) then a0.1 else bif a0.5==(0:Int)&&decide (a2 >a0.3) then a0.1 else a0.1) (bif decide (Aj (TFront.mk a0.1 (max a0.2 a2) a0.3 a0.4 a0.5) a1≥a3) then max a0.2 a2 else bif a0.5==(0:Int)&&decide (a2 >a0.3) then max a0.2 a2 else max a0.2 a2) (bif decide (Aj (TFront.mk a0.1 (max a0.2 a2) a0.3 a0.4 a0.5) a1≥a3) then max a0.3 a2 else bif a0.5==(0:Int)&&decide (a2 >a0.3) then a0.3 else a0.3) (bif decide (Aj (TFront.mk a0.1 (max a0.2 a2) a0.3 a0.4 a0.5) a1≥a3) then a0.4 else bif a0.5==(0:Int)&&decide (a2 >a0.3) then a2 else a0.4) (bif decide (Aj (TFront.mk a0.1 (max a0.2 a2) a0.3 a0.4 a0.5) a1≥a3) then a0.5 else bif a0.5==(0:Int)&&decide (a2 >a0.3) then a3 else a0.5)) a1).2) (bif(AY a0 a1 a2 a3) then(0:Int) else bif(BO a0 a1 a2 a3) then(0:Int) else(AE (TFront.mk (bif decide (Aj (TFront.mk a0.1 (max a0.2 a2) a0.3 a0.4 a0.5) a1≥a3) then a0.1 else bif a0.5==(0:Int)&&decide (a2 >a0.3) then a0.1 else a0.1) (bif decide (Aj (TFront.mk a0.1 (max a0.2 a2) a0.3 a0.4 a0.5) a1≥a3) then max a0.2 a2 else bif a0.5==(0:Int)&&decide (a2 >a0.3) then max a0.2 a2 else max a0.2 a2) (bif decide (Aj (TFront.mk a0.1 (max a0.2 a2) a0.3 a0.4 a0.5) a1≥a3) then max a0.3 a2 else bif a0.5==(0:Int)&&decide (a2 >a0.3) then a0.3 else a0.3) (bif decide (Aj (TFront.mk a0.1 (max a0.2 a2) a0.3 a0.4 a0.5) a1≥a3) then a0.4 else bif a0.5==(0:Int)&&decide (a2 >a0.3) then a2 else a0.4) (bif decide (Aj (TFront.mk a0.1 (max a0.2 a2) a0.3 a0.4 a0.5) a1≥a3) then a0.5 else bif a0.5==(0:Int)&&decide (a2 >a0.3) then a3 else a0.5)) a1).3) (bif(AY a0 a1 a2 a3) then(0:Int) else bif(BO a0 a1 a2 a3) then(0:Int) else(AE (TFront.mk (bif decide (Aj (TFront.mk a0.1 (max a0.2 a2) a0.3 a0.4 a0.5) a1≥a3) then a0.1 else bif a0.5==(0:Int)&&decide (a2 >a0.3) then a0.1 else a0.1) (bif decide (Aj (TFront.mk a0.1 (max a0.2 a2) a0.3 a0.4 a0.5) a1≥a3) then max a0.2 a2 else bif a0.5==(0:Int)&&decide (a2 >a0.3) then max a0.2 a2 else max a0.2 a2) (bif decide (Aj (TFront.mk a0.1 (max a0.2 a2) a0.3 a0.4 a0.5) a1≥a3) then max a0.3 a2 else bif a0.5==(0:Int)&&decide (a2 >a0.3) then a0.3 else a0.3) (bif decide (Aj (TFront.mk a0.1 (max a0.2 a2) a0.3 a0.4 a0.5) a1≥a3) then a0.4 else bif a0.5==(0:Int)&&decide (a2 >a0.3) then a2 else a0.4) (bif decide (Aj (TFront.mk a0.1 (max a0.2 a2) a0.3 a0.4 a0.5) a1≥a3) then a0.5 else bif a0.5==(0:Int)&&decide (a2 >a0.3) then a3 else a0.5)) a1).4) (bif(AY a0 a1 a2 a3) then(0:Int) else bif(BO a0 a1 a2 a3) then(0:Int) else(AE (TFront.mk (bif decide (Aj (TFront.mk a0.1 (max a0.2 a2) a0.3 a0.4 a0.5) a1≥a3) then a0.1 else bif a0.5==(0:Int)&&decide (a2 >a0.3) then a0.1 else a0.1) (bif decide (Aj (TFront.mk a0.1 (max a0.2 a2) a0.3 a0.4 a0.5) a1≥a3) then max a0.2 a2 else bif a0.5==(0:Int)&&decide (a2 >a0.3) then max a0.2 a2 else max a0.2 a2) (bif decide (Aj (TFront.mk a0.1 (max a0.2 a2) a0.3 a0.4 a0.5) a1≥a3) then max a0.3 a2 else bif a0.5==(0:Int)&&decide (a2 >a0.3) then a0.3 else a0.3) (bif decide (Aj (TFront.mk a0.1 (max a0.2 a2) a0.3 a0.4 a0.5) a1≥a3) then a0.4 else bif a0.5==(0:Int)&&decide (a2 >a0.3) then a2 else a0.4) (bif decide (Aj (TFront.mk a0.1 (max a0.2 a2) a0.3 a0.4 a0.5) a1≥a3) then a0.5 else bif a0.5==(0:Int)&&decide (a2 >a0.3) then a3 else a0.5)) a1).5)
def Aj0 (a0:TFront) (a1:TVec) (a2:Int) (a3:Int):Int:=bif(AY a0 a1 a2 a3) then C8 a0 a1 else bif(BO a0 a1 a2 a3) then(2:Int) else(0:Int)
def Mf (a0:TFront) (a1:TVec) (a2:Int) (a3:Int):A:=.v (.tuple ⟨[.agg ⟨[.int .i64 ((HZ a0 a1 a2 a3).site),.int .i64 ((HZ a0 a1 a2 a3).acked),.int .i64 ((HZ a0 a1 a2 a3).stable),.int .i64 ((HZ a0 a1 a2 a3).wait),.int .i64 ((HZ a0 a1 a2 a3).til)]⟩,.int .i64 (Aj0 a0 a1 a2 a3)]⟩)
def Me (_a0:TFront) (_a1:TVec) (_a2:Int) (_a3:Int):Objs:=[]
def Qp (a0:TFront) (a1:TVec) (a2:Int) (a3:Int):List Prop:=[((!(AY a0 a1 a2 a3))=true→decide (a2 <(0:Int))=false→(0:Int)≤(CK a0 a1 a2 a3)∧(CK a0 a1 a2 a3) <(2:Int)),((!(AY a0 a1 a2 a3))=true→(!(BO a0 a1 a2 a3))=true→(0:Int)≤(Jc a0 a1 a2 a3)∧(Jc a0 a1 a2 a3) <(2:Int)),((!(AY a0 a1 a2 a3))=true→(!(BO a0 a1 a2 a3))=true→decide ((bif decide (Aj (TFront.mk a0.1 (max a0.2 a2) a0.3 a0.4 a0.5) a1≥a3) then a0.5 else bif a0.5==(0:Int)&&decide (a2 >a0.3) then a3 else a0.5) >(0:Int))=true→(0:Int)≤(Jb a0 a1 a2 a3)∧(Jb a0 a1 a2 a3) <(2:Int))]
theorem Afr (a0:TFront) (a1:TVec) (a2:Int) (a3:Int):Ff (As Bpz L0) 9 26 [Af .front a0,Af .vec a1,Af .i64 a2,Af .i64 a3] 0 []=some (1,Mf a0 a1 a2 a3,0,Me a0 a1 a2 a3,[((!(AY a0 a1 a2 a3))=true→decide (a2 <(0:Int))=false→(0:Int)≤(CK a0 a1 a2 a3)∧(CK a0 a1 a2 a3) <(2:Int)),((!(AY a0 a1 a2 a3))=true→decide (a2 <(0:Int))=false→(CK a0 a1 a2 a3).toNat <(2:Nat)),((!(AY a0 a1 a2 a3))=true→(!(BO a0 a1 a2 a3))=true→(0:Int)≤(Jc a0 a1 a2 a3)∧(Jc a0 a1 a2 a3) <(2:Int)),((!(AY a0 a1 a2 a3))=true→(!(BO a0 a1 a2 a3))=true→decide ((bif decide (Aj (TFront.mk a0.1 (max a0.2 a2) a0.3 a0.4 a0.5) a1≥a3) then a0.5 else bif a0.5==(0:Int)&&decide (a2 >a0.3) then a3 else a0.5) >(0:Int))=true→(0:Int)≤(Jb a0 a1 a2 a3)∧(Jb a0 a1 a2 a3) <(2:Int))]):=by kernel_rfl
theorem Aj1 (a0:TFront) (a1:TVec) (a2:Int) (a3:Int) (hp:∀p∈Qp a0 a1 a2 a3,p):CallOk Try.prog 26 [Af .front a0,Af .vec a1,Af .i64 a2,Af .i64 a3] 0 [] 1 (Mf a0 a1 a2 a3) 0 (Me a0 a1 a2 a3):=by
 have n0:((!(AY a0 a1 a2 a3))=true→decide (a2 <(0:Int))=false→(0:Int)≤(CK a0 a1 a2 a3)∧(CK a0 a1 a2 a3) <(2:Int)):=N0 hp
 have n1:((!(AY a0 a1 a2 a3))=true→decide (a2 <(0:Int))=false→(CK a0 a1 a2 a3).toNat <(2:Nat)):=by intro h0 h1;have g:=n0 h0 h1;omega
 have n2:=N0 (N1 hp)
 have n3:=N0 (N1 (N1 hp))
 exact Az (An Bam Ay) (Afr a0 a1 a2 a3) (Aa n0 (Aa n1 (Aa n2 (Aa n3 Ad))))
theorem Ab8 (a0:TFront) (a1:TVec) (a2:Int) (a3:Int):∀p∈Qp a0 a1 a2 a3,p:=by
 refine Aa (fun h _=>B2q (OZ (f:=a0) (v:=a1) h)) (Aa (fun h _=>B03 (OZ (f:=a0) (v:=a1) h)) (Aa (fun h _ _=>?_) Ad))
 show 0≤IntKind.i64.wrap (2 - (bif _ then a0.1 else bif _ then a0.1 else a0.1))∧IntKind.i64.wrap (2 - (bif _ then a0.1 else bif _ then a0.1 else a0.1)) <2
 rw[B23]
 exact B03 (OZ (f:=a0) (v:=a1) h)
def Sq:List A→Nat→Objs→Option A3:=Bg [.t .front,.t .vec,.t .i64,.t .i64] 0 Mf Me (fun _ _ _ _=>([]:List Prop))
theorem Ab9:Fi Try.prog 26 Sq:=Aq (ks:=[.t .front,.t .vec,.t .i64,.t .i64]) (fun a0 a1 a2 a3 _=>Aj1 a0 a1 a2 a3 (Ab8 a0 a1 a2 a3))
noncomputable def Bp0:=A4 26 Sq Bpz
theorem Ban:Dd Try.prog Bp0:=Am Ab9 Bam
def DJ (a0:TFront) (a1:TVec):Bool:=C8 a0 a1 !=(0:Int)
def Hr (a0:TFront) (a1:TVec):TFront:=TFront.mk (bif(DJ a0 a1) then(0:Int) else(AE a0 a1).1) (bif(DJ a0 a1) then(0:Int) else(AE a0 a1).2) (bif(DJ a0 a1) then(0:Int) else(AE a0 a1).3) (bif(DJ a0 a1) then(0:Int) else(AE a0 a1).4) (bif(DJ a0 a1) then(0:Int) else(AE a0 a1).5)
def Afs (a0:TFront) (a1:TVec):Int:=bif(DJ a0 a1) then C8 a0 a1 else(0:Int)
def Lf (a0:TFront) (a1:TVec):A:=.v (.tuple ⟨[.agg ⟨[.int .i64 ((Hr a0 a1).site),.int .i64 ((Hr a0 a1).acked),.int .i64 ((Hr a0 a1).stable),.int .i64 ((Hr a0 a1).wait),.int .i64 ((Hr a0 a1).til)]⟩,.int .i64 (Afs a0 a1)]⟩)
def Le (_a0:TFront) (_a1:TVec):Objs:=[]
def KE (a0:TFront) (a1:TVec):List Prop:=[((!(DJ a0 a1))=true→decide (a0.5 >(0:Int))=true→(0:Int)≤AO a0 a1∧AO a0 a1 <(2:Int))]
theorem Aca (a0:TFront) (a1:TVec):Ff (As Bp0 L0) 9 27 [Af .front a0,Af .vec a1] 0 []=some (1,Lf a0 a1,0,Le a0 a1,KE a0 a1):=by kernel_rfl
theorem Aft (a0:TFront) (a1:TVec) (hp:∀p∈KE a0 a1,p):CallOk Try.prog 27 [Af .front a0,Af .vec a1] 0 [] 1 (Lf a0 a1) 0 (Le a0 a1):=Az (An Ban Ay) (Aca a0 a1) hp
theorem Za (a0:TFront) (a1:TVec):∀p∈KE a0 a1,p:=
 Aa (fun h _=>B03 (OZ (f:=a0) (v:=a1) h)) Ad
def Qq:List A→Nat→Objs→Option A3:=Bg [.t .front,.t .vec] 0 Lf Le (fun _ _=>([]:List Prop))
theorem Zb:Fi Try.prog 27 Qq:=Aq (ks:=[.t .front,.t .vec]) (fun a0 a1 _=>Aft a0 a1 (Za a0 a1))
noncomputable def Bp1:=A4 27 Qq Bp0
theorem Bao:Dd Try.prog Bp1:=Am Zb Ban
def CS (a0:TFront) (a1:TVec):Bool:=C8 a0 a1 !=(0:Int)
def BG (a0:TFront) (_a1:TVec):Int:=IntKind.i64.wrap (a0.1 - (1:Int))
def Qr (a0:TFront) (a1:TVec):TVec:=TVec.mk (bif(CS a0 a1) then(0:Int) else bif(BG a0 a1).toNat.beq (0:Nat) then a0.3 else a1.1) (bif(CS a0 a1) then(0:Int) else bif(BG a0 a1).toNat.beq (1:Nat) then a0.3 else a1.2)
def Afu (a0:TFront) (a1:TVec):Int:=bif(CS a0 a1) then C8 a0 a1 else(0:Int)
def Lh (a0:TFront) (a1:TVec):A:=.v (.tuple ⟨[.agg ⟨[.int .i64 ((Qr a0 a1).a),.int .i64 ((Qr a0 a1).b)]⟩,.int .i64 (Afu a0 a1)]⟩)
def Lg (_a0:TFront) (_a1:TVec):Objs:=[]
def O7 (a0:TFront) (a1:TVec):List Prop:=[((!(CS a0 a1))=true→(0:Int)≤(BG a0 a1)∧(BG a0 a1) <(2:Int))]
theorem Acb (a0:TFront) (a1:TVec):Ff (As Bp1 L0) 9 31 [Af .front a0,Af .vec a1] 0 []=some (1,Lh a0 a1,0,Lg a0 a1,[((!(CS a0 a1))=true→(0:Int)≤(BG a0 a1)∧(BG a0 a1) <(2:Int)),((!(CS a0 a1))=true→(BG a0 a1).toNat <(2:Nat))]):=by kernel_rfl
theorem Afv (a0:TFront) (a1:TVec) (hp:∀p∈O7 a0 a1,p):CallOk Try.prog 31 [Af .front a0,Af .vec a1] 0 [] 1 (Lh a0 a1) 0 (Lg a0 a1):=by
 have n0:((!(CS a0 a1))=true→(0:Int)≤(BG a0 a1)∧(BG a0 a1) <(2:Int)):=N0 hp
 have n1:((!(CS a0 a1))=true→(BG a0 a1).toNat <(2:Nat)):=by intro h0;have g:=n0 h0;omega
 exact Az (An Bao Ay) (Acb a0 a1) (Aa n0 (Aa n1 Ad))
theorem Zc (a0:TFront) (a1:TVec):∀p∈O7 a0 a1,p:=
 Aa (fun h=>B2q (OZ (f:=a0) (v:=a1) h)) Ad
def Qs:List A→Nat→Objs→Option A3:=Bg [.t .front,.t .vec] 0 Lh Lg (fun _ _=>([]:List Prop))
theorem Zd:Fi Try.prog 31 Qs:=Aq (ks:=[.t .front,.t .vec]) (fun a0 a1 _=>Afv a0 a1 (Zc a0 a1))
noncomputable def Byf:=A4 31 Qs Bp1
theorem Bp2:Dd Try.prog Byf:=Am Zd Bao
def WT:A:=.v (.bool (true))
def WS:Objs:=[]
def T8:List Prop:=[]
theorem A7m:Ff (As Byf L0) 1040 25 [] 0 []=some (1,WT,0,WS,T8):=by kernel_rfl
theorem Bdh (hp:∀p∈T8,p):CallOk Try.prog 25 [] 0 [] 1 (WT) 0 (WS):=Az (An Bp2 Ay) (A7m) hp
def An2:List A→Nat→Objs→Option A3:=Bg [] 0 WT WS T8
theorem A1i:Fi Try.prog 25 An2:=Aq (ks:=[]) Bdh
end Go.Proofs.Yteebobbhhgmeiaa
namespace Go.Proofs.Yteebobbhhgmeiaa
open Go.RowKit
theorem Bbe {X:Type} (mk:Nat→Int→X) (len:Nat) (step:Nat→Int→Int) (P:Nat→Prop) (m c:Int) (s:Bool) (next:X→X) (goes:X→Cnd) (ps:X→List Prop)
  (hs:∀i n,i <len→0≤n→0≤step i n∧(step i n≤m→n+c≤step i n∧P i)) (hc:0≤c)
  (hg:∀i n,i≤len→Bm (goes (mk i n))=(decide (i <len)&&(s||decide (n≤m)))) (hn:∀i n,i <len→0≤n→next (mk i n)=mk (i+1) (step i n))
  (hp:∀i n,i≤len→0≤n→∀p∈ps (mk i n),p):
  ∀(f i:Nat) (n:Int),i≤len→len≤i+f→0≤n→
  AD next goes ps f (mk i n)∧∃k n',A9 next goes f (mk i n)=mk k n'∧0≤n'∧(n'≤m→n+c*((len:Int) - (i:Int))≤n'∧∀j,i≤j→j <len→P j)
 |0,i,n,hi,hf,h0=>by
  obtain rfl:i=len:=by omega
  have hb:=hg i n (Nat.le_refl _)
  rw[decide_eq_false (Nat.lt_irrefl _),Bool.false_and] at hb
  exact⟨⟨hp i n hi h0,hb⟩,i,n,rfl,h0,fun _=>⟨by rw[Int.sub_self,Int.mul_zero];omega,fun j h1 h2=>by omega⟩⟩
 | f+1,i,n,hi,hf,h0=>by
  have hb:=hg i n hi
  cases hv:Bm (goes (mk i n)) with
  | false=>
   have e:A9 next goes (f+1) (mk i n)=mk i n:=by
    show(bif Bm (goes (mk i n)) then _ else mk i n)=_
    rw[hv];rfl
   rw[e]
   refine⟨⟨hp i n hi h0,fun h=>by rw[hv] at h;cases h⟩,i,n,rfl,h0,fun hm=>?_⟩
   rw[hv] at hb
   rw[decide_eq_true hm,Bool.or_true,Bool.and_true] at hb
   have:¬i <len:=of_decide_eq_false hb.symm
   obtain rfl:i=len:=by omega
   exact⟨by rw[Int.sub_self,Int.mul_zero];omega,fun j h1 h2=>by omega⟩
  | true=>
   rw[hv] at hb
   have hi':i <len:=by
    cases h:decide (i <len) with
    |true=>exact of_decide_eq_true h
    |false=>rw[h] at hb;cases hb
   obtain⟨s1,s2⟩:=hs i n hi' h0
   have e:A9 next goes (f+1) (mk i n)=A9 next goes f (mk (i+1) (step i n)):=by
    show(bif Bm (goes (mk i n)) then A9 next goes f (next (mk i n)) else mk i n)=_
    rw[hv,hn i n hi' h0];rfl
   obtain⟨g1,k,n',g2,g3,g4⟩:=Bbe mk len step P m c s next goes ps hs hc hg hn hp f (i+1) (step i n) hi' (by omega) s1
   rw[e]
   refine⟨⟨hp i n hi h0,fun _=>by rw[hn i n hi' h0];exact g1⟩,k,n',g2,g3,fun hm=>?_⟩
   obtain⟨a1,a2⟩:=g4 hm
   have hpos:0≤c*((len:Int) - ((i+1:Nat):Int)):=Int.mul_nonneg hc (by omega)
   obtain⟨b1,b2⟩:=s2 (by omega)
   have hd:c*((len:Int) - (i:Int))=c*((len:Int) - ((i+1:Nat):Int))+c:=by
    rw[show((len:Int) - (i:Int))=((len:Int) - ((i+1:Nat):Int))+1 by omega,Int.mul_add,Int.mul_one]
   refine⟨by rw[hd];omega,fun j h1 h2=>?_⟩
   by_cases e:j=i
   ·subst e;exact b2
   ·exact a2 j (by omega) h2
theorem VR {X:Type} (mk:Nat→Int→X) (len:Nat) (step:Nat→Int→Int) (P:Nat→Prop) (m c:Int) (s:Bool) (next:X→X) (goes:X→Cnd) (ps:X→List Prop) (f:Nat) (x:X) (n0:Int) (hx:x=mk 0 n0) (hf:len≤f) (h0:0≤n0)
  (hs:∀i n,i <len→0≤n→0≤step i n∧(step i n≤m→n+c≤step i n∧P i)) (hc:0≤c)
  (hg:∀i n,i≤len→Bm (goes (mk i n))=(decide (i <len)&&(s||decide (n≤m)))) (hn:∀i n,i <len→0≤n→next (mk i n)=mk (i+1) (step i n))
  (hp:∀i n,i≤len→0≤n→∀p∈ps (mk i n),p):
  AD next goes ps f x∧∃k n',A9 next goes f x=mk k n'∧0≤n'∧(n'≤m→n0+c*(len:Int)≤n'∧∀j,j <len→P j):=by
 subst hx
 obtain⟨h1,k,n',h2,h3,h4⟩:=Bbe mk len step P m c s next goes ps hs hc hg hn hp f 0 n0 (Nat.zero_le _) (by omega) h0
 refine⟨h1,k,n',h2,h3,fun h=>?_⟩
 obtain⟨h5,h6⟩:=h4 h
 rw[show((len:Int) - ((0:Nat):Int))=(len:Int) by omega] at h5
 exact⟨h5,fun j hj=>h6 j (Nat.zero_le _) hj⟩
theorem R9 {α:Type} {l:List α} {d:α} {P:α→Prop} (h:∀j,j <l.length→P (l.getD j d)):∀x∈l,P x:=fun x hx=>by
 obtain⟨j,hj,rfl⟩:=List.mem_iff_getElem.1 hx
 have:=h j hj
 rw[List.getD_eq_getElem?_getD,List.getElem?_eq_getElem hj] at this
 exact this
end Go.Proofs.Yteebobbhhgmeiaa
namespace Go.Proofs.Yteebobbhhgmeiaa
open Go.RowKit
noncomputable def B1y:=A4 111 Ali Cl
theorem Bvh:Dd Try.prog B1y:=Am Aom Ba0
noncomputable def Ajc:=A4 25 An2 B1y
theorem TG:Dd Try.prog Ajc:=Am A1i Bvh
abbrev Ct:Type:=(List TChange)×Int×Int×Int
def Lr (x:Ct):St:=⟨122,0,[(1,.sl .change x.1),(7,.v (.int .i64 x.2.1)),(8,.v (.int .i64 x.2.2.1)),(9,.v (.int .i64 x.2.2.2))],[]⟩
def NB:St→Option Ct
 |⟨122,0,[(1,.sl .change z0),(7,.v (.int .i64 z1)),(8,.v (.int .i64 z2)),(9,.v (.int .i64 z3))],[]⟩=>some (z0,z1,z2,z3)
 |_=>none
theorem Agj:∀s x,NB s=some x→s=Lr x:=fun s x h=>by
 unfold NB at h
 split at h
 ·cases h;rfl
 ·cases h
def WF:De:=⟨0,0,[1,7,8,9],[],[],[],[7],[]⟩
def Avs:Dy:=⟨[],[],[1,7,8,9],[]⟩
def Bo (a0:List TChange) (a1:Int) (a2:Int) (a3:Int):Bool:=!!(decide (a3 <(↑(a0.getD a2.toNat (Ac TC.change)).5.length:Int))&&decide (a1≤(6000:Int)))
def Mo (a0:List TChange) (a1:Int) (a2:Int) (a3:Int):Int:=Ap (Ap (Ap a1 (10:Int) (6000:Int)) (↑((a0.getD a2.toNat (Ac TC.change)).5.getD a3.toNat (Ac TC.write)).1.size:Int) (6000:Int)) (↑((a0.getD a2.toNat (Ac TC.change)).5.getD a3.toNat (Ac TC.write)).4.size:Int) (6000:Int)
def Agi (a0:List TChange) (a1:Int) (a2:Int) (a3:Int):Bool:=!(decide (a3 <(↑(a0.getD a2.toNat (Ac TC.change)).5.length:Int))&&decide (a1≤(6000:Int)))
def Ed (x:Ct):Ct:=(x.1,Mo x.1 x.2.1 x.2.2.1 x.2.2.2,x.2.2.1,IntKind.i64.wrap (x.2.2.2+(1:Int)))
def Ec (x:Ct):Cnd:=some ((Bo x.1 x.2.1 x.2.2.1 x.2.2.2))
def SL (x:Ct):List Prop:=[((0:Int)≤x.2.2.1∧x.2.2.1 <(↑x.1.length:Int)),((Bo x.1 x.2.1 x.2.2.1 x.2.2.2)=true→(0:Int)≤x.2.2.1∧x.2.2.1 <(↑x.1.length:Int)),((Bo x.1 x.2.1 x.2.2.1 x.2.2.2)=true→(0:Int)≤x.2.2.2∧x.2.2.2 <(↑(x.1.getD x.2.2.1.toNat (Ac TC.change)).5.length:Int)),((Bo x.1 x.2.1 x.2.2.1 x.2.2.2)=true→(0:Int)≤x.2.2.1∧x.2.2.1 <(↑x.1.length:Int)),((Bo x.1 x.2.1 x.2.2.1 x.2.2.2)=true→(0:Int)≤x.2.2.2∧x.2.2.2 <(↑(x.1.getD x.2.2.1.toNat (Ac TC.change)).5.length:Int))]
def Hd (x:Ct):List Prop:=[((0:Int)≤x.2.2.1∧x.2.2.1 <(↑x.1.length:Int)),((Bo x.1 x.2.1 x.2.2.1 x.2.2.2)=true→(0:Int)≤x.2.2.1∧x.2.2.1 <(↑x.1.length:Int)),((Bo x.1 x.2.1 x.2.2.1 x.2.2.2)=true→(0:Int)≤x.2.2.2∧x.2.2.2 <(↑(x.1.getD x.2.2.1.toNat (Ac TC.change)).5.length:Int))]
def QA (x:Ct):Bj:=[(some 2,some (Agi x.1 x.2.1 x.2.2.1 x.2.2.2),⟨122,0,[(7,.v (.int .i64 x.2.1))],[]⟩)]
def Fx (x:Ct):Nat:=((↑(x.1.getD x.2.2.1.toNat (Ac TC.change)).5.length:Int) - x.2.2.2).toNat
def Gt (x:Ct):Ct:=A9 Ed Ec (Fx x) x
theorem Arb (a0:List TChange) (a1:Int) (a2:Int) (a3:Int):Bw (As Ajc L0) 9 (Ae Try.prog 45 2) WF (Lr (a0,a1,a2,a3))=some (SL (a0,a1,a2,a3),QA (a0,a1,a2,a3),Ec (a0,a1,a2,a3),Lr (Ed (a0,a1,a2,a3))):=by kernel_rfl
theorem Arc (a0:List TChange) (a1:Int) (a2:Int) (a3:Int) (hp:∀p∈Hd (a0,a1,a2,a3),p):∀p∈SL (a0,a1,a2,a3),p:=by
 have n0:=N0 hp
 have n1:((Bo a0 a1 a2 a3)=true→(0:Int)≤a2∧a2 <(↑a0.length:Int)):=N0 (N1 hp)
 have n2:((Bo a0 a1 a2 a3)=true→(0:Int)≤a3∧a3 <(↑(a0.getD a2.toNat (Ac TC.change)).5.length:Int)):=N0 (N1 (N1 hp))
 exact(Aa n0 (Aa n1 (Aa n2 (Aa n1 (Aa n2 Ad)))))
noncomputable def SM:=HG (As Ajc L0) (Ae Try.prog 45 2) WF Avs NB Fx Ed Ec Hd QA
theorem Akj:∀s b ps outs,SM s=some (b,ps,outs)→Wf s ⟨ps,outs,none⟩∧Bt (As C0 L0) b s ps outs:=
 Bh (T:=Lr) TG Ay (u:=9) (by kernel_rfl) (by decide) (fun⟨a0,a1,a2,a3⟩=>Arb a0 a1 a2 a3) (fun⟨a0,a1,a2,a3⟩=>Arc a0 a1 a2 a3) Agj (fun _=>AK (n:=122) rfl) fun _ _=>rfl
noncomputable def Lq:=DI 2 SM L0
theorem SK:G9 Lq:=AV Akj Ay
abbrev Cr:Type:=(List TChange)×Int×Int
def Lp (x:Cr):St:=⟨122,0,[(1,.sl .change x.1),(7,.v (.int .i64 x.2.1)),(8,.v (.int .i64 x.2.2))],[]⟩
def NA:St→Option Cr
 |⟨122,0,[(1,.sl .change z0),(7,.v (.int .i64 z1)),(8,.v (.int .i64 z2))],[]⟩=>some (z0,z1,z2)
 |_=>none
theorem Agh:∀s x,NA s=some x→s=Lp x:=fun s x h=>by
 unfold NA at h
 split at h
 ·cases h;rfl
 ·cases h
def WE:De:=⟨0,0,[1,7,8],[],[],[],[7],[]⟩
def Avr:Dy:=⟨[],[],[1,7,8],[]⟩
def Ds (a0:List TChange) (a1:Int) (a2:Int):Bool:=!!(decide (a2 <(↑a0.length:Int))&&decide (a1≤(6000:Int)))
def JR (a0:List TChange) (a1:Int) (a2:Int):Int:=(Gt (a0,Ap a1 (10:Int) (6000:Int),a2,(0:Int))).snd.fst
def Akh (a0:List TChange) (a1:Int) (a2:Int):Bool:=!(decide (a2 <(↑a0.length:Int))&&decide (a1≤(6000:Int)))
def Eb (x:Cr):Cr:=(x.1,JR x.1 x.2.1 x.2.2,IntKind.i64.wrap (x.2.2+(1:Int)))
def Ea (x:Cr):Cnd:=some ((Ds x.1 x.2.1 x.2.2))
def SI (x:Cr):List Prop:=[((Ds x.1 x.2.1 x.2.2)=true→Ae Try.prog (45:FuncId) (2:Nat)=Ae Try.prog (45:FuncId) (2:Nat)),((Ds x.1 x.2.1 x.2.2)=true→AD Ed Ec Hd (Fx (x.1,Ap x.2.1 (10:Int) (6000:Int),x.2.2,(0:Int))) (x.1,Ap x.2.1 (10:Int) (6000:Int),x.2.2,(0:Int)))]
def Hc (x:Cr):List Prop:=[((Ds x.1 x.2.1 x.2.2)=true→AD Ed Ec Hd (Fx (x.1,Ap x.2.1 (10:Int) (6000:Int),x.2.2,(0:Int))) (x.1,Ap x.2.1 (10:Int) (6000:Int),x.2.2,(0:Int)))]
def Qz (x:Cr):Bj:=[(some 0,some (Akh x.1 x.2.1 x.2.2),⟨122,0,[(7,.v (.int .i64 x.2.1))],[]⟩)]
def Fw (x:Cr):Nat:=((↑x.1.length:Int) - x.2.2).toNat
def C9 (x:Cr):Cr:=A9 Eb Ea (Fw x) x
theorem Aq9 (a0:List TChange) (a1:Int) (a2:Int):Bw (As Ajc Lq) 9 (Ae Try.prog 45 0) WE (Lp (a0,a1,a2))=some (SI (a0,a1,a2),Qz (a0,a1,a2),Ea (a0,a1,a2),Lp (Eb (a0,a1,a2))):=by kernel_rfl
theorem Ara (a0:List TChange) (a1:Int) (a2:Int) (hp:∀p∈Hc (a0,a1,a2),p):∀p∈SI (a0,a1,a2),p:=by
 have n0:((Ds a0 a1 a2)=true→Ae Try.prog (45:FuncId) (2:Nat)=Ae Try.prog (45:FuncId) (2:Nat)):=by intros;rfl
 have n1:=N0 hp
 exact(Aa n0 (Aa n1 Ad))
noncomputable def SJ:=HG (As Ajc Lq) (Ae Try.prog 45 0) WE Avr NA Fw Eb Ea Hc Qz
theorem Aki:∀s b ps outs,SJ s=some (b,ps,outs)→Wf s ⟨ps,outs,none⟩∧Bt (As C0 L0) b s ps outs:=
 Bh (T:=Lp) TG SK (u:=9) (by kernel_rfl) (by decide) (fun⟨a0,a1,a2⟩=>Aq9 a0 a1 a2) (fun⟨a0,a1,a2⟩=>Ara a0 a1 a2) Agh (fun _=>AK (n:=122) rfl) fun _ _=>rfl
noncomputable def Lo:=DI 0 SJ Lq
theorem SH:G9 Lo:=AV Aki SK
abbrev Cw:Type:=Int×(List TRow)×Int×Int
def Lw (x:Cw):St:=⟨122,0,[(7,.v (.int .i64 x.1)),(11,.sl .row x.2.1),(12,.v (.int .i64 x.2.2.1)),(13,.v (.int .i64 x.2.2.2))],[]⟩
def NE:St→Option Cw
 |⟨122,0,[(7,.v (.int .i64 z0)),(11,.sl .row z1),(12,.v (.int .i64 z2)),(13,.v (.int .i64 z3))],[]⟩=>some (z0,z1,z2,z3)
 |_=>none
theorem Agm:∀s x,NE s=some x→s=Lw x:=fun s x h=>by
 unfold NE at h
 split at h
 ·cases h;rfl
 ·cases h
def WJ:De:=⟨0,0,[7,11,12,13],[],[],[],[7],[]⟩
def Avv:Dy:=⟨[],[],[7,11,12,13],[]⟩
def Fz (a0:Int) (a1:List TRow) (a2:Int) (a3:Int):Bool:=!!(decide (a3 <(↑(a1.getD a2.toNat (Ac TC.row)).2.length:Int))&&decide (a0≤(6000:Int)))
def Mq (a0:Int) (a1:List TRow) (a2:Int) (a3:Int):Int:=Ap (Ap a0 (10:Int) (6000:Int)) (↑((a1.getD a2.toNat (Ac TC.row)).2.getD a3.toNat (Ac TC.cell)).4.size:Int) (6000:Int)
def Ako (a0:Int) (a1:List TRow) (a2:Int) (a3:Int):Bool:=!(decide (a3 <(↑(a1.getD a2.toNat (Ac TC.row)).2.length:Int))&&decide (a0≤(6000:Int)))
def Dw (x:Cw):Cw:=(Mq x.1 x.2.1 x.2.2.1 x.2.2.2,x.2.1,x.2.2.1,IntKind.i64.wrap (x.2.2.2+(1:Int)))
def Dv (x:Cw):Cnd:=some ((Fz x.1 x.2.1 x.2.2.1 x.2.2.2))
def Mr (x:Cw):List Prop:=[((0:Int)≤x.2.2.1∧x.2.2.1 <(↑x.2.1.length:Int)),((Fz x.1 x.2.1 x.2.2.1 x.2.2.2)=true→(0:Int)≤x.2.2.1∧x.2.2.1 <(↑x.2.1.length:Int)),((Fz x.1 x.2.1 x.2.2.1 x.2.2.2)=true→(0:Int)≤x.2.2.2∧x.2.2.2 <(↑(x.2.1.getD x.2.2.1.toNat (Ac TC.row)).2.length:Int))]
abbrev FP:Cw→List Prop:=Mr
def QD (x:Cw):Bj:=[(some 8,some (Ako x.1 x.2.1 x.2.2.1 x.2.2.2),⟨122,0,[(7,.v (.int .i64 x.1))],[]⟩)]
def Eh (x:Cw):Nat:=((↑(x.2.1.getD x.2.2.1.toNat (Ac TC.row)).2.length:Int) - x.2.2.2).toNat
def Gv (x:Cw):Cw:=A9 Dw Dv (Eh x) x
theorem Arh (a0:Int) (a1:List TRow) (a2:Int) (a3:Int):Bw (As Ajc Lo) 9 (Ae Try.prog 45 8) WJ (Lw (a0,a1,a2,a3))=some (Mr (a0,a1,a2,a3),QD (a0,a1,a2,a3),Dv (a0,a1,a2,a3),Lw (Dw (a0,a1,a2,a3))):=by kernel_rfl
theorem Ari (a0:Int) (a1:List TRow) (a2:Int) (a3:Int) (hp:∀p∈FP (a0,a1,a2,a3),p):∀p∈Mr (a0,a1,a2,a3),p:=hp
noncomputable def ST:=HG (As Ajc Lo) (Ae Try.prog 45 8) WJ Avv NE Eh Dw Dv FP QD
theorem Akp:∀s b ps outs,ST s=some (b,ps,outs)→Wf s ⟨ps,outs,none⟩∧Bt (As C0 L0) b s ps outs:=
 Bh (T:=Lw) TG SH (u:=9) (by kernel_rfl) (by decide) (fun⟨a0,a1,a2,a3⟩=>Arh a0 a1 a2 a3) (fun⟨a0,a1,a2,a3⟩=>Ari a0 a1 a2 a3) Agm (fun _=>AK (n:=122) rfl) fun _ _=>rfl
noncomputable def Lv:=DI 8 ST Lo
theorem SS:G9 Lv:=AV Akp SH
abbrev Cv:Type:=Int×(List TRow)×Int
def Lu (x:Cv):St:=⟨122,0,[(7,.v (.int .i64 x.1)),(11,.sl .row x.2.1),(12,.v (.int .i64 x.2.2))],[]⟩
def ND:St→Option Cv
 |⟨122,0,[(7,.v (.int .i64 z0)),(11,.sl .row z1),(12,.v (.int .i64 z2))],[]⟩=>some (z0,z1,z2)
 |_=>none
theorem Agl:∀s x,ND s=some x→s=Lu x:=fun s x h=>by
 unfold ND at h
 split at h
 ·cases h;rfl
 ·cases h
def WI:De:=⟨0,0,[7,11,12],[],[],[],[7],[]⟩
def Avu:Dy:=⟨[],[],[7,11,12],[]⟩
def BP (a0:Int) (a1:List TRow) (a2:Int):Bool:=!!(decide (a2 <(↑a1.length:Int))&&decide (a0≤(6000:Int)))
def JT (a0:Int) (a1:List TRow) (a2:Int):Int:=(Gv (Ap (Ap a0 (10:Int) (6000:Int)) (↑(a1.getD a2.toNat (Ac TC.row)).1.size:Int) (6000:Int),a1,a2,(0:Int))).fst
def Akm (a0:Int) (a1:List TRow) (a2:Int):Bool:=!(decide (a2 <(↑a1.length:Int))&&decide (a0≤(6000:Int)))
def Du (x:Cv):Cv:=(JT x.1 x.2.1 x.2.2,x.2.1,IntKind.i64.wrap (x.2.2+(1:Int)))
def Dt (x:Cv):Cnd:=some ((BP x.1 x.2.1 x.2.2))
def SQ (x:Cv):List Prop:=[((BP x.1 x.2.1 x.2.2)=true→(0:Int)≤x.2.2∧x.2.2 <(↑x.2.1.length:Int)),((BP x.1 x.2.1 x.2.2)=true→Ae Try.prog (45:FuncId) (8:Nat)=Ae Try.prog (45:FuncId) (8:Nat)),((BP x.1 x.2.1 x.2.2)=true→AD Dw Dv FP (Eh (Ap (Ap x.1 (10:Int) (6000:Int)) (↑(x.2.1.getD x.2.2.toNat (Ac TC.row)).1.size:Int) (6000:Int),x.2.1,x.2.2,(0:Int))) (Ap (Ap x.1 (10:Int) (6000:Int)) (↑(x.2.1.getD x.2.2.toNat (Ac TC.row)).1.size:Int) (6000:Int),x.2.1,x.2.2,(0:Int)))]
def FO (x:Cv):List Prop:=[((BP x.1 x.2.1 x.2.2)=true→(0:Int)≤x.2.2∧x.2.2 <(↑x.2.1.length:Int)),((BP x.1 x.2.1 x.2.2)=true→AD Dw Dv FP (Eh (Ap (Ap x.1 (10:Int) (6000:Int)) (↑(x.2.1.getD x.2.2.toNat (Ac TC.row)).1.size:Int) (6000:Int),x.2.1,x.2.2,(0:Int))) (Ap (Ap x.1 (10:Int) (6000:Int)) (↑(x.2.1.getD x.2.2.toNat (Ac TC.row)).1.size:Int) (6000:Int),x.2.1,x.2.2,(0:Int)))]
def QC (x:Cv):Bj:=[(some 6,some (Akm x.1 x.2.1 x.2.2),⟨122,0,[(7,.v (.int .i64 x.1))],[]⟩)]
def Eg (x:Cv):Nat:=((↑x.2.1.length:Int) - x.2.2).toNat
def Gu (x:Cv):Cv:=A9 Du Dt (Eg x) x
theorem Arf (a0:Int) (a1:List TRow) (a2:Int):Bw (As Ajc Lv) 9 (Ae Try.prog 45 6) WI (Lu (a0,a1,a2))=some (SQ (a0,a1,a2),QC (a0,a1,a2),Dt (a0,a1,a2),Lu (Du (a0,a1,a2))):=by kernel_rfl
theorem Arg (a0:Int) (a1:List TRow) (a2:Int) (hp:∀p∈FO (a0,a1,a2),p):∀p∈SQ (a0,a1,a2),p:=by
 have n0:=N0 hp
 have n1:((BP a0 a1 a2)=true→Ae Try.prog (45:FuncId) (8:Nat)=Ae Try.prog (45:FuncId) (8:Nat)):=by intros;rfl
 have n2:=N0 (N1 hp)
 exact(Aa n0 (Aa n1 (Aa n2 Ad)))
noncomputable def SR:=HG (As Ajc Lv) (Ae Try.prog 45 6) WI Avu ND Eg Du Dt FO QC
theorem Akn:∀s b ps outs,SR s=some (b,ps,outs)→Wf s ⟨ps,outs,none⟩∧Bt (As C0 L0) b s ps outs:=
 Bh (T:=Lu) TG SS (u:=9) (by kernel_rfl) (by decide) (fun⟨a0,a1,a2⟩=>Arf a0 a1 a2) (fun⟨a0,a1,a2⟩=>Arg a0 a1 a2) Agl (fun _=>AK (n:=122) rfl) fun _ _=>rfl
noncomputable def Lt:=DI 6 SR Lv
theorem SP:G9 Lt:=AV Akn SS
abbrev Cu:Type:=Int×(List (List TRow))×Int×Int
def Ls (x:Cu):St:=⟨122,0,[(7,.v (.int .i64 x.1)),(67,.sl .rows x.2.1),(68,.v (.int .i64 x.2.2.1)),(69,.v (.int .i64 x.2.2.2))],[]⟩
def NC:St→Option Cu
 |⟨122,0,[(7,.v (.int .i64 z0)),(67,.sl .rows z1),(68,.v (.int .i64 z2)),(69,.v (.int .i64 z3))],[]⟩=>some (z0,z1,z2,z3)
 |_=>none
theorem Agk:∀s x,NC s=some x→s=Ls x:=fun s x h=>by
 unfold NC at h
 split at h
 ·cases h;rfl
 ·cases h
def WH:De:=⟨0,0,[7,67,68,69],[],[],[],[7],[]⟩
def Avt:Dy:=⟨[],[],[7,67,68,69],[]⟩
def JS (a0:Int) (a1:List (List TRow)) (_a2:Int) (a3:Int):Int:=(Gu (a0,a1.getD a3.toNat (Ac TC.rows),(0:Int))).fst
def Ef (x:Cu):Cu:=(JS x.1 x.2.1 x.2.2.1 x.2.2.2,x.2.1,x.2.2.1,IntKind.i64.wrap (x.2.2.2+(1:Int)))
def Ee (x:Cu):Cnd:=some (!!decide (x.2.2.2 <x.2.2.1))
def SN (x:Cu):List Prop:=[((!!decide (x.2.2.2 <x.2.2.1))=true→(0:Int)≤x.2.2.2∧x.2.2.2 <(↑x.2.1.length:Int)),((!!decide (x.2.2.2 <x.2.2.1))=true→Ae Try.prog (45:FuncId) (6:Nat)=Ae Try.prog (45:FuncId) (6:Nat)),((!!decide (x.2.2.2 <x.2.2.1))=true→AD Du Dt FO (Eg (x.1,x.2.1.getD x.2.2.2.toNat (Ac TC.rows),(0:Int))) (x.1,x.2.1.getD x.2.2.2.toNat (Ac TC.rows),(0:Int)))]
def He (x:Cu):List Prop:=[((!!decide (x.2.2.2 <x.2.2.1))=true→(0:Int)≤x.2.2.2∧x.2.2.2 <(↑x.2.1.length:Int)),((!!decide (x.2.2.2 <x.2.2.1))=true→AD Du Dt FO (Eg (x.1,x.2.1.getD x.2.2.2.toNat (Ac TC.rows),(0:Int))) (x.1,x.2.1.getD x.2.2.2.toNat (Ac TC.rows),(0:Int)))]
def QB (x:Cu):Bj:=[(some 4,some (!decide (x.2.2.2 <x.2.2.1)),⟨122,0,[(7,.v (.int .i64 x.1))],[]⟩)]
def Fy (x:Cu):Nat:=(x.2.2.1 - x.2.2.2).toNat
def Mp (x:Cu):Cu:=A9 Ef Ee (Fy x) x
theorem Ard (a0:Int) (a1:List (List TRow)) (a2:Int) (a3:Int):Bw (As Ajc Lt) 9 (Ae Try.prog 45 4) WH (Ls (a0,a1,a2,a3))=some (SN (a0,a1,a2,a3),QB (a0,a1,a2,a3),Ee (a0,a1,a2,a3),Ls (Ef (a0,a1,a2,a3))):=by kernel_rfl
theorem Are (a0:Int) (a1:List (List TRow)) (a2:Int) (a3:Int) (hp:∀p∈He (a0,a1,a2,a3),p):∀p∈SN (a0,a1,a2,a3),p:=by
 have n0:=N0 hp
 have n1:((!!decide (a3 <a2))=true→Ae Try.prog (45:FuncId) (6:Nat)=Ae Try.prog (45:FuncId) (6:Nat)):=by intros;rfl
 have n2:=N0 (N1 hp)
 exact(Aa n0 (Aa n1 (Aa n2 Ad)))
noncomputable def SO:=HG (As Ajc Lt) (Ae Try.prog 45 4) WH Avt NC Fy Ef Ee He QB
theorem Akl:∀s b ps outs,SO s=some (b,ps,outs)→Wf s ⟨ps,outs,none⟩∧Bt (As C0 L0) b s ps outs:=
 Bh (T:=Ls) TG SP (u:=9) (by kernel_rfl) (by decide) (fun⟨a0,a1,a2,a3⟩=>Ard a0 a1 a2 a3) (fun⟨a0,a1,a2,a3⟩=>Are a0 a1 a2 a3) Agk (fun _=>AK (n:=122) rfl) fun _ _=>rfl
noncomputable def WG:=DI 4 SO Lt
theorem Akk:G9 WG:=AV Akl SP
def Nb (a0:List TGroup) (a1:List TChange) (a2:List (List TRow)):Bool:=decide ((Mp ((C9 (a1,Ap (0:Int) (↑a0.length:Int) (6000:Int),(0:Int))).snd.fst,a2,(↑a2.length:Int),(0:Int))).fst≤(6000:Int))
def Any (a0:List TGroup) (a1:List TChange) (a2:List (List TRow)):A:=.v (.bool (Nb a0 a1 a2))
def Anx (_a0:List TGroup) (_a1:List TChange) (_a2:List (List TRow)):Objs:=[]
def Ago (a0:List TGroup) (a1:List TChange) (a2:List (List TRow)):List Prop:=[(AD Eb Ea Hc (Fw (a1,Ap (0:Int) (↑a0.length:Int) (6000:Int),(0:Int))) (a1,Ap (0:Int) (↑a0.length:Int) (6000:Int),(0:Int))),(AD Ef Ee He (Fy ((C9 (a1,Ap (0:Int) (↑a0.length:Int) (6000:Int),(0:Int))).snd.fst,a2,(↑a2.length:Int),(0:Int))) ((C9 (a1,Ap (0:Int) (↑a0.length:Int) (6000:Int),(0:Int))).snd.fst,a2,(↑a2.length:Int),(0:Int)))]
theorem A7f (a0:List TGroup) (a1:List TChange) (a2:List (List TRow)):Ff (As Ajc WG) 9 45 [.sl .group a0,.sl .change a1,.sl .rows a2] 0 []=some (1,Any a0 a1 a2,0,Anx a0 a1 a2,[(Ae Try.prog (45:FuncId) (0:Nat)=Ae Try.prog (45:FuncId) (0:Nat)),(AD Eb Ea Hc (Fw (a1,Ap (0:Int) (↑a0.length:Int) (6000:Int),(0:Int))) (a1,Ap (0:Int) (↑a0.length:Int) (6000:Int),(0:Int))),(Ae Try.prog (45:FuncId) (4:Nat)=Ae Try.prog (45:FuncId) (4:Nat)),(AD Ef Ee He (Fy ((C9 (a1,Ap (0:Int) (↑a0.length:Int) (6000:Int),(0:Int))).snd.fst,a2,(↑a2.length:Int),(0:Int))) ((C9 (a1,Ap (0:Int) (↑a0.length:Int) (6000:Int),(0:Int))).snd.fst,a2,(↑a2.length:Int),(0:Int)))]):=by kernel_rfl
theorem Bde (a0:List TGroup) (a1:List TChange) (a2:List (List TRow)) (hp:∀p∈Ago a0 a1 a2,p):CallOk Try.prog 45 [.sl .group a0,.sl .change a1,.sl .rows a2] 0 [] 1 (Any a0 a1 a2) 0 (Anx a0 a1 a2):=by
 have n1:=N0 hp
 have n3:=N0 (N1 hp)
 exact Az (An TG Akk) (A7f a0 a1 a2) (Aa rfl (Aa n1 (Aa rfl (Aa n3 Ad))))
def Agp (a0:List TGroup) (a1:List TChange) (a2:List (List TRow)):A:=.v (.bool (Nb a0 a1 a2))
def Agn (_a0:List TGroup) (_a1:List TChange) (_a2:List (List TRow)):Objs:=[]
def Qa (c:TChange):Prop:=Ar c.writes.length∧∀w∈c.writes,Ar w.key.size∧Ar w.value.size
def Aiy (c:TChange):Prop:=c.writes.length≤6000∧∀w∈c.writes,w.key.size≤6000∧w.value.size≤6000
def ZM (a0:List TGroup) (a1:List TChange) (a2:List (List TRow)):List Prop:=[Ar a0.length∧(Ar a1.length∧∀c∈a1,Qa c)∧Ar a2.length∧∀x∈a2,Ar x.length∧∀r∈x,Yy r]
theorem Aqq {n k:Int} (hn:0≤n) (hk:0≤k∧k≤9223372036854775807):0≤Ap n k 6000∧(Ap n k 6000≤6000→n+k≤Ap n k 6000∧n+k≤6000):=by
 obtain⟨h1,h2,h3⟩:=At4 (n:=n) (k:=k) (m:=6000) hn hk (by omega)
 exact⟨h2,fun h=>⟨by rw[h3 (h1 h)];omega,h1 h⟩⟩
theorem A1j (rows:List TRow) (i:Nat) (hi:i <rows.length) (n0:Int) (h0:0≤n0) (hl:Ar (rows.getD i (Ac TC.row)).cells.length) (hw:∀c∈(rows.getD i (Ac TC.row)).cells,Ar c.value.size):
  AD Dw Dv FP (Eh (n0,rows,(i:Int),0)) (n0,rows,(i:Int),0)∧
  0≤(Gv (n0,rows,(i:Int),0)).fst∧((Gv (n0,rows,(i:Int),0)).fst≤6000→n0+10*((rows.getD i (Ac TC.row)).cells.length:Int)≤(Gv (n0,rows,(i:Int),0)).fst∧∀c∈(rows.getD i (Ac TC.row)).cells,c.value.size≤6000):=by
 generalize hcs:(rows.getD i (Ac TC.row)).cells=cs at*
 have hcs2:(rows.getD i (Ac TC.row)).2=cs:=hcs
 have hgo:∀(k:Nat) (n:Int),Fz n rows (i:Int) (k:Int)=(decide (k <cs.length)&&(false||decide (n≤6000))):=fun k n=>by
  unfold Fz
  rw[Int.toNat_natCast,hcs2,nn,M9,Bool.false_or]
 unfold Ar at hl
 obtain⟨h1,k,n',hx,h2,h3⟩:=VR (fun k n=>((n,rows,(i:Int),(k:Int)):Cw)) cs.length (fun k n=>Ap (Ap n 10 6000) ((cs.getD k (Ac TC.cell)).4.size:Int) 6000) (fun k=>(cs.getD k (Ac TC.cell)).value.size≤6000) 6000 10 false Dw Dv FP (Eh (n0,rows,(i:Int),0)) (n0,rows,(i:Int),0) n0 rfl
  (by show cs.length≤(((rows.getD ((i:Int)).toNat (Ac TC.row)).2.length:Int) - 0).toNat;rw[Int.toNat_natCast,hcs2];omega) h0
  (fun k n hk hn=>by
   obtain⟨a1,a2⟩:=Aqq (k:=10) hn (by omega)
   obtain⟨b1,b2⟩:=Aqq a1 (Abm (hw _ (getD_in cs (Ac TC.cell) k hk)))
   refine⟨b1,fun h=>?_⟩
   obtain⟨c1,c2⟩:=b2 h
   obtain⟨d1,d2⟩:=a2 (by omega)
   exact⟨by omega,by show(cs.getD k (Ac TC.cell)).4.size≤6000;omega⟩)
  (by omega)
  (fun k n _=>hgo k n)
  (fun k n hk _=>by
   show(Mq n rows (i:Int) (k:Int),rows,(i:Int),IntKind.i64.wrap ((k:Int)+1))=(_,rows,(i:Int),((k+1:Nat):Int))
   rw[Fd (by omega)]
   unfold Mq
   rw[Int.toNat_natCast,Int.toNat_natCast,hcs2])
  (fun k n _ _=>Aa (by show(0:Int)≤(i:Int)∧(i:Int) <(rows.length:Int);omega) (Aa (fun _=>by show(0:Int)≤(i:Int)∧(i:Int) <(rows.length:Int);omega) (Aa (fun h=>by
   have h':Fz n rows (i:Int) (k:Int)=true:=h
   rw[hgo,Bool.and_eq_true] at h'
   have:=of_decide_eq_true h'.1
   show(0:Int)≤(k:Int)∧(k:Int) <((rows.getD ((i:Int)).toNat (Ac TC.row)).2.length:Int)
   rw[Int.toNat_natCast,hcs2]
   omega) Ad)))
 have hr:Gv (n0,rows,(i:Int),0)=(n',rows,(i:Int),(k:Int)):=hx
 rw[hr]
 exact⟨h1,h2,fun h=>⟨(h3 h).1,R9 (h3 h).2⟩⟩
theorem A7n (rows:List TRow) (n0:Int) (h0:0≤n0) (hl:Ar rows.length) (hw:∀r∈rows,Yy r):
  AD Du Dt FO (Eg (n0,rows,0)) (n0,rows,0)∧
  0≤(Gu (n0,rows,0)).fst∧((Gu (n0,rows,0)).fst≤6000→n0+10*(rows.length:Int)≤(Gu (n0,rows,0)).fst∧∀r∈rows,Yt 6000 r):=by
 have hgo:∀(k:Nat) (n:Int),BP n rows (k:Int)=(decide (k <rows.length)&&(false||decide (n≤6000))):=fun k n=>by
  unfold BP
  rw[nn,M9,Bool.false_or]
 unfold Ar at hl
 have hin:∀(i:Nat) (n:Int),i <rows.length→0≤n→_:=fun i n hi hn=>
  A1j rows i hi (Ap (Ap n 10 6000) ((rows.getD i (Ac TC.row)).1.size:Int) 6000) (Aqq (Aqq hn (by omega)).1 (Abm (hw _ (getD_in rows (Ac TC.row) i hi)).1)).1 (hw _ (getD_in rows (Ac TC.row) i hi)).2.1 (hw _ (getD_in rows (Ac TC.row) i hi)).2.2
 obtain⟨h1,k,n',hx,h2,h3⟩:=VR (fun k n=>((n,rows,(k:Int)):Cv)) rows.length (fun k n=>JT n rows (k:Int)) (fun k=>Yt 6000 (rows.getD k (Ac TC.row))) 6000 10 false Du Dt FO (Eg (n0,rows,0)) (n0,rows,0) n0 rfl
  (by show rows.length≤((rows.length:Int) - 0).toNat;omega) h0
  (fun k n hk hn=>by
   obtain⟨_,g2,g3⟩:=hin k n hk hn
   obtain⟨a1,a2⟩:=Aqq (k:=10) hn (by omega)
   obtain⟨b1,b2⟩:=Aqq a1 (Abm (hw _ (getD_in rows (Ac TC.row) k hk)).1)
   unfold JT
   rw[Int.toNat_natCast]
   refine⟨g2,fun h=>?_⟩
   obtain⟨c1,c2⟩:=g3 h
   have h':(Gv (Ap (Ap n 10 6000) ((rows.getD k (Ac TC.row)).1.size:Int) 6000,rows,(k:Int),0)).fst≤6000:=h
   obtain⟨d1,d2⟩:=b2 (by omega)
   obtain⟨e1,e2⟩:=a2 (by omega)
   exact⟨by omega,by show(rows.getD k (Ac TC.row)).1.size≤6000;omega,by omega,c2⟩)
  (by omega)
  (fun k n _=>hgo k n)
  (fun k n hk _=>by
   show(JT n rows (k:Int),rows,IntKind.i64.wrap ((k:Int)+1))=(_,rows,((k+1:Nat):Int))
   rw[Fd (by omega)])
  (fun k n hk hn=>by
   have hlt:BP n rows (k:Int)=true→k <rows.length:=fun h=>by
    rw[hgo,Bool.and_eq_true] at h
    exact of_decide_eq_true h.1
   refine Aa (fun h=>?_) (Aa (fun h=>?_) Ad)
   ·have:=hlt h
    show(0:Int)≤(k:Int)∧(k:Int) <(rows.length:Int)
    omega
   ·have:=(hin k n (hlt h) hn).1
    have e:((k:Int)).toNat=k:=Int.toNat_natCast k
    show AD Dw Dv FP (Eh (Ap (Ap n 10 6000) ((rows.getD ((k:Int)).toNat (Ac TC.row)).1.size:Int) 6000,rows,(k:Int),0)) (Ap (Ap n 10 6000) ((rows.getD ((k:Int)).toNat (Ac TC.row)).1.size:Int) 6000,rows,(k:Int),0)
    rw[e]
    exact this)
 have hr:Gu (n0,rows,0)=(n',rows,(k:Int)):=hx
 rw[hr]
 exact⟨h1,h2,fun h=>⟨(h3 h).1,R9 (h3 h).2⟩⟩
theorem Bdn (xs:List (List TRow)) (n0:Int) (h0:0≤n0) (hl:Ar xs.length) (hw:∀x∈xs,Ar x.length∧∀r∈x,Yy r):
  AD Ef Ee He (Fy (n0,xs,(xs.length:Int),0)) (n0,xs,(xs.length:Int),0)∧
  ((Mp (n0,xs,(xs.length:Int),0)).fst≤6000→n0≤6000∧∀x∈xs,x.length≤6000∧∀r∈x,Yt 6000 r):=by
 unfold Ar at hl
 have hin:∀(i:Nat) (n:Int),i <xs.length→0≤n→_:=fun i n hi hn=>
  A7n (xs.getD i (Ac TC.rows)) n hn (hw _ (getD_in xs (Ac TC.rows) i hi)).1 (hw _ (getD_in xs (Ac TC.rows) i hi)).2
 obtain⟨h1,k,n',hx,h2,h3⟩:=VR (fun k n=>((n,xs,(xs.length:Int),(k:Int)):Cu)) xs.length (fun k n=>JS n xs (xs.length:Int) (k:Int)) (fun k=>(xs.getD k (Ac TC.rows)).length≤6000∧∀r∈xs.getD k (Ac TC.rows),Yt 6000 r) 6000 0 true Ef Ee He (Fy (n0,xs,(xs.length:Int),0)) (n0,xs,(xs.length:Int),0) n0 rfl
  (by show xs.length≤((xs.length:Int) - 0).toNat;omega) h0
  (fun k n hk hn=>by
   obtain⟨_,g2,g3⟩:=hin k n hk hn
   unfold JS
   rw[Int.toNat_natCast]
   refine⟨g2,fun h=>?_⟩
   obtain⟨c1,c2⟩:=g3 h
   have h':(Gu (n,xs.getD k (Ac TC.rows),0)).fst≤6000:=h
   exact⟨by omega,by omega,c2⟩)
  (Int.le_refl _)
  (fun k n _=>by
   show(!!decide ((k:Int) <(xs.length:Int)))=_
   rw[nn,M9,Bool.true_or,Bool.and_true])
  (fun k n hk _=>by
   show(JS n xs (xs.length:Int) (k:Int),xs,(xs.length:Int),IntKind.i64.wrap ((k:Int)+1))=(_,xs,(xs.length:Int),((k+1:Nat):Int))
   rw[Fd (by omega)])
  (fun k n hk hn=>by
   have hlt:(!!decide ((k:Int) <(xs.length:Int)))=true→k <xs.length:=fun h=>by
    rw[nn] at h
    have:=of_decide_eq_true h
    omega
   refine Aa (fun h=>?_) (Aa (fun h=>?_) Ad)
   ·have:=hlt h
    show(0:Int)≤(k:Int)∧(k:Int) <(xs.length:Int)
    omega
   ·have:=(hin k n (hlt h) hn).1
    have e:((k:Int)).toNat=k:=Int.toNat_natCast k
    show AD Du Dt FO (Eg (n,xs.getD ((k:Int)).toNat (Ac TC.rows),0)) (n,xs.getD ((k:Int)).toNat (Ac TC.rows),0)
    rw[e]
    exact this)
 have hr:Mp (n0,xs,(xs.length:Int),0)=(n',xs,(xs.length:Int),(k:Int)):=hx
 rw[hr]
 exact⟨h1,fun h=>⟨by have h':n'≤6000:=h;have:=(h3 h).1;omega,R9 (h3 h).2⟩⟩
theorem Avz (cs:List TChange) (i:Nat) (hi:i <cs.length) (n0:Int) (h0:0≤n0) (hw:Qa (cs.getD i (Ac TC.change))):
  AD Ed Ec Hd (Fx (cs,n0,(i:Int),0)) (cs,n0,(i:Int),0)∧
  0≤(Gt (cs,n0,(i:Int),0)).snd.fst∧((Gt (cs,n0,(i:Int),0)).snd.fst≤6000→n0≤(Gt (cs,n0,(i:Int),0)).snd.fst∧Aiy (cs.getD i (Ac TC.change))):=by
 obtain⟨hl,hw⟩:=hw
 unfold Aiy
 generalize hcs:(cs.getD i (Ac TC.change)).writes=ws at*
 have hcs2:(cs.getD i (Ac TC.change)).5=ws:=hcs
 have hgo:∀(k:Nat) (n:Int),Bo cs n (i:Int) (k:Int)=(decide (k <ws.length)&&(false||decide (n≤6000))):=fun k n=>by
  unfold Bo
  rw[Int.toNat_natCast,hcs2,nn,M9,Bool.false_or]
 unfold Ar at hl
 obtain⟨h1,k,n',hx,h2,h3⟩:=VR (fun k n=>((cs,n,(i:Int),(k:Int)):Ct)) ws.length (fun k n=>Ap (Ap (Ap n 10 6000) ((ws.getD k (Ac TC.write)).1.size:Int) 6000) ((ws.getD k (Ac TC.write)).4.size:Int) 6000) (fun k=>(ws.getD k (Ac TC.write)).key.size≤6000∧(ws.getD k (Ac TC.write)).value.size≤6000) 6000 10 false Ed Ec Hd (Fx (cs,n0,(i:Int),0)) (cs,n0,(i:Int),0) n0 rfl
  (by show ws.length≤(((cs.getD ((i:Int)).toNat (Ac TC.change)).5.length:Int) - 0).toNat;rw[Int.toNat_natCast,hcs2];omega) h0
  (fun k n hk hn=>by
   obtain⟨w1,w2⟩:=hw _ (getD_in ws (Ac TC.write) k hk)
   obtain⟨a1,a2⟩:=Aqq (k:=10) hn (by omega)
   obtain⟨b1,b2⟩:=Aqq a1 (Abm w1)
   obtain⟨f1,f2⟩:=Aqq b1 (Abm w2)
   refine⟨f1,fun h=>?_⟩
   obtain⟨g1,g2⟩:=f2 h
   obtain⟨c1,c2⟩:=b2 (by omega)
   obtain⟨d1,d2⟩:=a2 (by omega)
   exact⟨by omega,by omega,by omega⟩)
  (by omega)
  (fun k n _=>hgo k n)
  (fun k n hk _=>by
   show(cs,Mo cs n (i:Int) (k:Int),(i:Int),IntKind.i64.wrap ((k:Int)+1))=(cs,_,(i:Int),((k+1:Nat):Int))
   rw[Fd (by omega)]
   unfold Mo
   rw[Int.toNat_natCast,Int.toNat_natCast,hcs2])
  (fun k n _ _=>Aa (by show(0:Int)≤(i:Int)∧(i:Int) <(cs.length:Int);omega) (Aa (fun _=>by show(0:Int)≤(i:Int)∧(i:Int) <(cs.length:Int);omega) (Aa (fun h=>by
   have h':Bo cs n (i:Int) (k:Int)=true:=h
   rw[hgo,Bool.and_eq_true] at h'
   have:=of_decide_eq_true h'.1
   show(0:Int)≤(k:Int)∧(k:Int) <((cs.getD ((i:Int)).toNat (Ac TC.change)).5.length:Int)
   rw[Int.toNat_natCast,hcs2]
   omega) Ad)))
 have hr:Gt (cs,n0,(i:Int),0)=(cs,n',(i:Int),(k:Int)):=hx
 rw[hr]
 refine⟨h1,h2,fun h=>?_⟩
 have h':n'≤6000:=h
 obtain⟨q1,q2⟩:=h3 h
 refine⟨by show n0≤n';omega,by omega,?_⟩
 exact R9 (P:=fun w:TWrite=>w.key.size≤6000∧w.value.size≤6000) q2
theorem Arj (cs:List TChange) (n0:Int) (h0:0≤n0) (hl:Ar cs.length) (hw:∀c∈cs,Qa c):
  AD Eb Ea Hc (Fw (cs,n0,0)) (cs,n0,0)∧
  0≤(C9 (cs,n0,0)).snd.fst∧((C9 (cs,n0,0)).snd.fst≤6000→n0+10*(cs.length:Int)≤(C9 (cs,n0,0)).snd.fst∧∀c∈cs,Aiy c):=by
 have hgo:∀(k:Nat) (n:Int),Ds cs n (k:Int)=(decide (k <cs.length)&&(false||decide (n≤6000))):=fun k n=>by
  unfold Ds
  rw[nn,M9,Bool.false_or]
 unfold Ar at hl
 have hin:∀(i:Nat) (n:Int),i <cs.length→0≤n→_:=fun i n hi hn=>
  Avz cs i hi (Ap n 10 6000) (Aqq hn (by omega)).1 (hw _ (getD_in cs (Ac TC.change) i hi))
 obtain⟨h1,k,n',hx,h2,h3⟩:=VR (fun k n=>((cs,n,(k:Int)):Cr)) cs.length (fun k n=>JR cs n (k:Int)) (fun k=>Aiy (cs.getD k (Ac TC.change))) 6000 10 false Eb Ea Hc (Fw (cs,n0,0)) (cs,n0,0) n0 rfl
  (by show cs.length≤((cs.length:Int) - 0).toNat;omega) h0
  (fun k n hk hn=>by
   obtain⟨_,g2,g3⟩:=hin k n hk hn
   obtain⟨a1,a2⟩:=Aqq (k:=10) hn (by omega)
   unfold JR
   refine⟨g2,fun h=>?_⟩
   obtain⟨c1,c2⟩:=g3 h
   have h':(Gt (cs,Ap n 10 6000,(k:Int),0)).snd.fst≤6000:=h
   obtain⟨e1,e2⟩:=a2 (by omega)
   exact⟨by omega,c2⟩)
  (by omega)
  (fun k n _=>hgo k n)
  (fun k n hk _=>by
   show(cs,JR cs n (k:Int),IntKind.i64.wrap ((k:Int)+1))=(cs,_,((k+1:Nat):Int))
   rw[Fd (by omega)])
  (fun k n hk hn=>Aa (fun h=>by
    have h':Ds cs n (k:Int)=true:=h
    rw[hgo,Bool.and_eq_true] at h'
    exact(hin k n (of_decide_eq_true h'.1) hn).1) Ad)
 have hr:C9 (cs,n0,0)=(cs,n',(k:Int)):=hx
 rw[hr]
 exact⟨h1,h2,fun h=>⟨(h3 h).1,R9 (h3 h).2⟩⟩
theorem Avy (l:List TGroup) (cs:List TChange) (xs:List (List TRow)) (hl:Ar l.length) (hc:Ar cs.length∧∀c∈cs,Qa c) (hr:Ar xs.length) (hw:∀x∈xs,Ar x.length∧∀r∈x,Yy r):(∀p∈Ago l cs xs,p)∧
  (Nb l cs xs=true→l.length≤6000∧(cs.length≤6000∧∀c∈cs,Aiy c)∧∀x∈xs,x.length≤6000∧∀r∈x,Yt 6000 r):=by
 obtain⟨a1,a2⟩:=Aqq (n:=0) (k:=(l.length:Int)) (Int.le_refl _) (Abm hl)
 obtain⟨b1,b2,b3⟩:=Arj cs _ a1 hc.1 hc.2
 obtain⟨c1,c2⟩:=Bdn xs _ b2 hr hw
 refine⟨Aa b1 (Aa c1 Ad),fun h=>?_⟩
 have h':=of_decide_eq_true h
 obtain⟨d1,d2⟩:=c2 h'
 obtain⟨e1,e2⟩:=b3 d1
 have:=a2 (by omega)
 exact⟨by omega,⟨by omega,e2⟩,d2⟩
theorem A7e (a0:List TGroup) (a1:List TChange) (a2:List (List TRow)) (hp:∀p∈ZM a0 a1 a2,p):CallOk Try.prog 45 [.sl .group a0,.sl .change a1,.sl .rows a2] 0 [] 1 (Agp a0 a1 a2) 0 (Agn a0 a1 a2):=by
 obtain⟨h1,h2,h3,h4⟩:=hp _ (List.mem_cons_self ..)
 exact Bde a0 a1 a2 (Avy a0 a1 a2 h1 h2 h3 h4).1
def WK:List A→Nat→Objs→Option A3:=Bg [.l .group,.l .change,.l .rows] 0 Agp Agn ZM
theorem ZN:Fi Try.prog 45 WK:=Aq (ks:=[.l .group,.l .change,.l .rows]) A7e
noncomputable def Bq6:=A4 45 WK Ajc
theorem A50:Dd Try.prog Bq6:=Am ZN TG
abbrev BK:Type:=(List TGroup)×ByteArray×(List TRow)×Int×Int
def Kt (x:BK):St:=⟨38,0,[(0,.sl .group x.1),(6,.v (.string x.2.1)),(15,.sl .row x.2.2.1),(16,.v (.int .i64 x.2.2.2.1)),(17,.v (.int .i64 x.2.2.2.2))],[]⟩
def Mu:St→Option BK
 |⟨38,0,[(0,.sl .group z0),(6,.v (.string z1)),(15,.sl .row z2),(16,.v (.int .i64 z3)),(17,.v (.int .i64 z4))],[]⟩=>some (z0,z1,z2,z3,z4)
 |_=>none
theorem Acn:∀s x,Mu s=some x→s=Kt x:=fun s x h=>by
 unfold Mu at h
 split at h
 ·cases h;rfl
 ·cases h
def U1:De:=⟨0,0,[0,6,15,16,17],[],[],[],[4],[]⟩
def Ark:Dy:=⟨[],[],[0,6,15,16,17],[]⟩
def GX (a0:List TGroup) (_a1:ByteArray) (a2:List TRow) (_a3:Int) (a4:Int):Bool:=Ai a0 (a2.getD a4.toNat (Ac TC.row)) !=(0:Int)
def DK (a0:List TGroup) (a1:ByteArray) (a2:List TRow) (a3:Int) (a4:Int):Bool:=!!decide (a4 <a3)&&((GX a0 a1 a2 a3 a4)||(Hn (a2.getD a4.toNat (Ac TC.row))||(Op.bytesLess (a2.getD a4.toNat (Ac TC.row)).1.toList a1.toList||(a2.getD a4.toNat (Ac TC.row)).1.toList==a1.toList)))
def Ag2 (_a0:List TGroup) (_a1:ByteArray) (a2:List TRow) (_a3:Int) (a4:Int):ByteArray:=(a2.getD a4.toNat (Ac TC.row)).1
def Ag3 (a0:List TGroup) (a1:ByteArray) (a2:List TRow) (a3:Int) (a4:Int):Bool:=!!decide (a4 <a3)&&!(DK a0 a1 a2 a3 a4)
def GW (a0:List TGroup) (a1:ByteArray) (a2:List TRow) (a3:Int) (a4:Int):Int:=bif(GX a0 a1 a2 a3 a4) then Ai a0 (a2.getD a4.toNat (Ac TC.row)) else(100:Int)
def EO (x:BK):BK:=(x.1,Ag2 x.1 x.2.1 x.2.2.1 x.2.2.2.1 x.2.2.2.2,x.2.2.1,x.2.2.2.1,IntKind.i64.wrap (x.2.2.2.2+(1:Int)))
def EN (x:BK):Cnd:=some (Ag3 x.1 x.2.1 x.2.2.1 x.2.2.2.1 x.2.2.2.2)
def LB (x:BK):List Prop:=[((!!decide (x.2.2.2.2 <x.2.2.2.1))=true→(0:Int)≤x.2.2.2.2∧x.2.2.2.2 <(↑x.2.2.1.length:Int)),((!!decide (x.2.2.2.2 <x.2.2.2.1))=true→(!(GX x.1 x.2.1 x.2.2.1 x.2.2.2.1 x.2.2.2.2))=true→Ag (x.2.2.1.getD x.2.2.2.2.toNat (Ac TC.row)).2.length)]
abbrev H0:BK→List Prop:=LB
def Pd (x:BK):Bj:=[(some 0,some (!decide (x.2.2.2.2 <x.2.2.2.1)),⟨38,0,[(4,.dead)],[]⟩),(none,some ((DK x.1 x.2.1 x.2.2.1 x.2.2.2.1 x.2.2.2.2)),⟨38,1,[(4,.v (.int .i64 (GW x.1 x.2.1 x.2.2.1 x.2.2.2.1 x.2.2.2.2)))],[]⟩)]
def GY (x:BK):Nat:=(x.2.2.2.1 - x.2.2.2.2).toNat
def FA (x:BK):BK:=A9 EO EN (GY x) x
theorem Akz (a0:List TGroup) (a1:ByteArray) (a2:List TRow) (a3:Int) (a4:Int):Bw (As Bq6 L0) 9 (Ae Try.prog 84 0) U1 (Kt (a0,a1,a2,a3,a4))=some (LB (a0,a1,a2,a3,a4),Pd (a0,a1,a2,a3,a4),EN (a0,a1,a2,a3,a4),Kt (EO (a0,a1,a2,a3,a4))):=by kernel_rfl
theorem Ak0 (a0:List TGroup) (a1:ByteArray) (a2:List TRow) (a3:Int) (a4:Int) (hp:∀p∈H0 (a0,a1,a2,a3,a4),p):∀p∈LB (a0,a1,a2,a3,a4),p:=hp
noncomputable def QJ:=HG (As Bq6 L0) (Ae Try.prog 84 0) U1 Ark Mu GY EO EN H0 Pd
theorem Ag4:∀s b ps outs,QJ s=some (b,ps,outs)→Wf s ⟨ps,outs,none⟩∧Bt (As C0 L0) b s ps outs:=
 Bh (T:=Kt) A50 Ay (u:=9) (by kernel_rfl) (by decide) (fun⟨a0,a1,a2,a3,a4⟩=>Akz a0 a1 a2 a3 a4) (fun⟨a0,a1,a2,a3,a4⟩=>Ak0 a0 a1 a2 a3 a4) Acn (fun _=>AK (n:=38) rfl) fun _ _=>rfl
noncomputable def U0:=DI 0 QJ L0
theorem Ag1:G9 U0:=AV Ag4 Ay
def Ki (a0:List TGroup) (_a1:List TRow):Bool:=AR a0 !=(0:Int)
def Rw (a0:List TGroup) (a1:List TRow):List TGroup:=(FA (a0,ByteArray.mk #[],a1,(↑a1.length:Int),(0:Int))).fst
def Rv (a0:List TGroup) (a1:List TRow):ByteArray:=(FA (a0,ByteArray.mk #[],a1,(↑a1.length:Int),(0:Int))).snd.fst
def Ru (a0:List TGroup) (a1:List TRow):List TRow:=(FA (a0,ByteArray.mk #[],a1,(↑a1.length:Int),(0:Int))).snd.snd.fst
def Rt (a0:List TGroup) (a1:List TRow):Int:=(FA (a0,ByteArray.mk #[],a1,(↑a1.length:Int),(0:Int))).snd.snd.snd.snd
def Rs (a0:List TGroup) (a1:List TRow):Int:=(FA (a0,ByteArray.mk #[],a1,(↑a1.length:Int),(0:Int))).snd.snd.snd.fst
def Uc (a0:List TGroup) (a1:List TRow):Int:=bif(Ki a0 a1) then AR a0 else bif DK (Rw a0 a1) (Rv a0 a1) (Ru a0 a1) (Rs a0 a1) (Rt a0 a1) then GW (Rw a0 a1) (Rv a0 a1) (Ru a0 a1) (Rs a0 a1) (Rt a0 a1) else(0:Int)
def Ud (a0:List TGroup) (a1:List TRow):A:=.v (.int .i64 (Uc a0 a1))
def Ag5 (_a0:List TGroup) (_a1:List TRow):Objs:=[]
def ZX (a0:List TGroup) (a1:List TRow):List Prop:=[((!(Ki a0 a1))=true→AD EO EN H0 (GY (a0,ByteArray.mk #[],a1,(↑a1.length:Int),(0:Int))) (a0,ByteArray.mk #[],a1,(↑a1.length:Int),(0:Int)))]
theorem A1o (a0:List TGroup) (a1:List TRow):Ff (As Bq6 U0) 9 84 [.sl .group a0,Af .rows a1] 0 []=some (1,Ud a0 a1,0,Ag5 a0 a1,[((!(Ki a0 a1))=true→Ae Try.prog (84:FuncId) (0:Nat)=Ae Try.prog (84:FuncId) (0:Nat)),((!(Ki a0 a1))=true→AD EO EN H0 (GY (a0,ByteArray.mk #[],a1,(↑a1.length:Int),(0:Int))) (a0,ByteArray.mk #[],a1,(↑a1.length:Int),(0:Int)))]):=by kernel_rfl
theorem A70 (a0:List TGroup) (a1:List TRow) (hp:∀p∈ZX a0 a1,p):CallOk Try.prog 84 [.sl .group a0,Af .rows a1] 0 [] 1 (Ud a0 a1) 0 (Ag5 a0 a1):=by
 have n0:((!(Ki a0 a1))=true→Ae Try.prog (84:FuncId) (0:Nat)=Ae Try.prog (84:FuncId) (0:Nat)):=by intros;rfl
 have n1:=N0 hp
 exact Az (An A50 Ag1) (A1o a0 a1) (Aa n0 (Aa n1 Ad))
def ZY (a0:List TGroup) (a1:List TRow):A:=.v (.int .i64 (Gk a0 a1))
def ZW (_a0:List TGroup) (_a1:List TRow):Objs:=[]
def W6 (_a0:List TGroup) (a1:List TRow):List Prop:=[Ar a1.length]
theorem Bl3 (l:List TGroup) (rows:List TRow) (i:Nat):(Ajr l rows i !=0)=(Ai l (C7 rows i) !=0||(Hn (C7 rows i)||leS (C7 rows i).key (QF rows i))):=by
 unfold Ajr
 cases h:Ai l (C7 rows i) !=0 with
 |true=>rw[cond_true,h,Bool.true_or]
 |false=>cases Hn (C7 rows i)||leS (C7 rows i).key (QF rows i)<;>rfl
theorem ZV (l:List TGroup) (rows:List TRow) (hb:Ar rows.length):(∀p∈ZX l rows,p)∧Uc l rows=Gk l rows:=by
 unfold Ar at hb
 have hf:∀i:Nat,DK l (QF rows i) rows (rows.length:Int) (i:Int)=(decide (i <rows.length)&&Ajr l rows i !=0):=fun i=>by
  rw[Bl3]
  unfold DK GX leS Jd
  rw[nn,M9,Int.toNat_natCast,tlb]
  rfl
 obtain⟨h1,k,hk,hx,hs,hst,_⟩:=IW (fun i=>((l,QF rows i,rows,(rows.length:Int),(i:Int)):BK)) rows.length (fun i=>Ajr l rows i !=0) EO EN H0 (GY (l,ByteArray.mk #[],rows,(rows.length:Int),0)) (l,ByteArray.mk #[],rows,(rows.length:Int),0) rfl (by show rows.length≤((rows.length:Int) - 0).toNat;omega)
  (fun i _ _=>by
   show((!!decide ((i:Int) <(rows.length:Int)))&&!DK l (QF rows i) rows (rows.length:Int) (i:Int))=_
   rw[hf,nn,M9]
   cases decide (i <rows.length)<;>rfl)
  (fun i hi _=>by
   show(l,(rows.getD ((i:Int)).toNat (Ac TC.row)).1,rows,(rows.length:Int),IntKind.i64.wrap ((i:Int)+1))=(l,QF rows (i+1),rows,(rows.length:Int),((i+1:Nat):Int))
   rw[Fd (by omega),Int.toNat_natCast]
   rfl)
  (fun i hi _=>by
   have hin:(!!decide ((i:Int) <(rows.length:Int)))=true→(i:Int) <(rows.length:Int):=fun h=>by rw[nn] at h;exact of_decide_eq_true h
   refine Aa (fun h=>⟨by show(0:Int)≤(i:Int);omega,hin h⟩) (Aa (fun _ h2=>?_) Ad)
   have h3:Ai l (rows.getD ((i:Int)).toNat (Ac TC.row))=0:=by
    have h4:(!(Ai l (rows.getD ((i:Int)).toNat (Ac TC.row)) !=0))=true:=h2
    simpa using h4
   obtain⟨g1,g2,_⟩:=AJ h3
   have:=(G7 g1).2
   show Ag (rows.getD ((i:Int)).toNat (Ac TC.row)).cells.length
   unfold Ag
   omega)
 have hr:FA (l,ByteArray.mk #[],rows,(rows.length:Int),0)=(l,QF rows k,rows,(rows.length:Int),(k:Int)):=hx
 refine⟨Aa (fun _=>h1) Ad,?_⟩
 unfold Uc Gk
 show(bif AR l !=0 then AR l else _)=_
 congr 1
 unfold Rw Rv Ru Rt Rs
 rw[hr]
 show(bif DK l (QF rows k) rows (rows.length:Int) (k:Int) then GW l (QF rows k) rows (rows.length:Int) (k:Int) else 0)=_
 rw[hf]
 have h0:IE l rows k=0:=(Ava l rows k).2 fun i hi=>by simpa using hs i hi
 rcases Nat.lt_or_ge k rows.length with h|h
 ·have he:=hst h
  rw[decide_eq_true h,he]
  have e1:IE l rows (k+1)=Ajr l rows k:=by
   show(bif IE l rows k !=0 then IE l rows k else Ajr l rows k)=_
   rw[h0];rfl
  have hne:IE l rows (k+1)≠0:=by rw[e1];simpa using he
  rw[Ann hne rows.length h,e1]
  show GW l (QF rows k) rows (rows.length:Int) (k:Int)=_
  unfold GW GX
  rw[Int.toNat_natCast]
  rw[Bl3] at he
  unfold Ajr
  show(bif Ai l (C7 rows k) !=0 then Ai l (C7 rows k) else 100)=_
  cases hg:Ai l (C7 rows k) !=0 with
  |true=>rfl
  |false=>
   rw[hg,Bool.false_or] at he
   rw[he]
   rfl
 ·obtain rfl:k=rows.length:=by omega
  rw[decide_eq_false (Nat.lt_irrefl _),h0]
  rfl
theorem A1n (a0:List TGroup) (a1:List TRow) (hp:∀p∈W6 a0 a1,p):CallOk Try.prog 84 [.sl .group a0,Af .rows a1] 0 [] 1 (ZY a0 a1) 0 (ZW a0 a1):=by
 have hb:Ar a1.length:=hp _ (List.mem_cons_self ..)
 have h:=A70 a0 a1 (ZV a0 a1 hb).1
 unfold Ud at h
 rw[(ZV a0 a1 hb).2] at h
 exact h
def Ue:List A→Nat→Objs→Option A3:=Bg [.l .group,.t .rows] 0 ZY ZW W6
theorem W7:Fi Try.prog 84 Ue:=Aq (ks:=[.l .group,.t .rows]) A1n
noncomputable def Bz9:=A4 84 Ue Bq6
theorem Bk9:Dd Try.prog Bz9:=Am W7 A50
def O3 (a0:Int) (a1:TVec) (a2:TCell):Bool:=bif a2.1.1==(0:Int)&&a2.1.2==(0:Int)&&(a2.2.1==(0:Int)&&a2.2.2==(0:Int)&&(a2.3==false&&(a2.4.toList==(ByteArray.mk #[]).toList&&(a2.5.1==(0:Int)&&a2.5.2==(0:Int)))))||!AX a0 a2||!J5 a1 (K6 a2) then false else !Ho a0 a2
def O4 (a0:Int) (a1:TVec) (a2:TCell):A:=.v (.bool (O3 a0 a1 a2))
def Wg (_a0:Int) (_a1:TVec) (_a2:TCell):Objs:=[]
def UW (_a0:Int) (_a1:TVec) (_a2:TCell):List Prop:=[]
theorem Aq0 (a0:Int) (a1:TVec) (a2:TCell):Ff (As Bz9 L0) 9 50 [Af .i64 a0,Af .vec a1,Af .cell a2] 0 []=some (1,O4 a0 a1 a2,0,Wg a0 a1 a2,UW a0 a1 a2):=by kernel_rfl
theorem Au5 (a0:Int) (a1:TVec) (a2:TCell) (hp:∀p∈UW a0 a1 a2,p):CallOk Try.prog 50 [Af .i64 a0,Af .vec a1,Af .cell a2] 0 [] 1 (O4 a0 a1 a2) 0 (Wg a0 a1 a2):=Az (An Bk9 Ay) (Aq0 a0 a1 a2) hp
def UX (a0:Int) (a1:TVec) (a2:TCell):A:=.v (.bool (B07 a0 a1 a2))
def UV (_a0:Int) (_a1:TVec) (_a2:TCell):Objs:=[]
def Sr (_a0:Int) (_a1:TVec) (_a2:TCell):List Prop:=[]
theorem Byc (c:TCell):(c.1.1==(0:Int)&&c.1.2==(0:Int)&&(c.2.1==(0:Int)&&c.2.2==(0:Int)&&(c.3==false&&(c.4.toList==(ByteArray.mk #[]).toList&&(c.5.1==(0:Int)&&c.5.2==(0:Int))))))=eqC c zeroC:=by
 rw[tlb]
 unfold eqC zeroC
 simp only[Bool.and_assoc]
theorem Bnx (a b:TVec):J5 a b=Afe a b:=by
 have hm:∀x y:Int,(min x y==y)=decide (y≤x):=fun x y=>by
  rw[Bool.eq_iff_iff,beq_iff_eq,decide_eq_true_eq];omega
 unfold J5 Afe
 have h1:((JM a b).1==b.1)=decide (b.a≤a.a):=hm _ _
 have h2:((JM a b).2==b.2)=decide (b.b≤a.b):=hm _ _
 rw[h1,h2]
theorem Aqz (p:Int) (st:TVec) (c:TCell):O3 p st c=B07 p st c:=by
 unfold O3 B07
 rw[Byc,IB,Bnx,(Ae8 p c).2]
 show(bif eqC c zeroC||!Bv p c||!Afe st (Aci c) then false else !K1 p c)=_
 cases eqC c zeroC<;>cases Bv p c<;>cases Afe st (Aci c)<;>rfl
theorem Aqy (a0:Int) (a1:TVec) (a2:TCell) (_hp:∀p∈Sr a0 a1 a2,p):CallOk Try.prog 50 [Af .i64 a0,Af .vec a1,Af .cell a2] 0 [] 1 (UX a0 a1 a2) 0 (UV a0 a1 a2):=by
 have h:=Au5 a0 a1 a2 (fun _ h=>by cases h)
 unfold O4 at h
 rw[Aqz] at h
 exact h
def Wh:List A→Nat→Objs→Option A3:=Bg [.t .i64,.t .vec,.t .cell] 0 UX UV Sr
theorem Aj2:Fi Try.prog 50 Wh:=Aq (ks:=[.t .i64,.t .vec,.t .cell]) Aqy
noncomputable def B1z:=A4 50 Wh Bz9
theorem Bvi:Dd Try.prog B1z:=Am Aj2 Bk9
noncomputable def Cn:=B1z
theorem Byt:Dd Try.prog Cn:=Bvi
end Go.Proofs.Yteebobbhhgmeiaa
namespace Go.Proofs.Yteebobbhhgmeiaa
open Go.RowKit
def wN (ws:List TWrite) (i:Nat):TWrite:=ws.getD i (Ac TC.write)
def J8 (a b:TWrite):Bool:=Jd a.key b.key||a.key==b.key&&decide (a.group <b.group)
def TD (l:List TGroup) (w:TWrite):Bool:=!(w.key.size==0)&&decide (w.key.size≤32)&&decide (0≤w.group)&&decide (w.group <(l.length:Int))&&decide (w.value.size≤64)&&(!w.gone||w.value.size==0)
def Di (c:TChange):Bool:=(c.site==1||c.site==2)&&decide (1≤c.seq)&&decide (c.seq≤1099511627776)&&c.stamp.site==c.site&&HJ c.stamp&&CL c.vec&&(bif c.site==1 then c.vec.a else c.vec.b)==c.seq
def Qf (l:List TGroup) (ws:List TWrite) (i:Nat):Bool:=!TD l (wN ws i)||decide (0 <i)&&!J8 (wN ws (i - 1)) (wN ws i)
def Ahl (c:TChange):Bool:=decide (1≤c.writes.length)&&decide (c.writes.length≤8)
def No (l:List TGroup) (c:TChange):Int:=bif AR l !=0 then AR l else bif Di c&&Ahl c&&J9 c.writes.length (fun i=>!Qf l c.writes i) then 0 else 120
def Jm (a0:TWrite):TPlace:=TPlace.mk a0.1 a0.2
def Wb (a0:TWrite):A:=.v (.agg ⟨[.string ((Jm a0).key),.int .i64 ((Jm a0).group)]⟩)
def Wa (_a0:TWrite):Objs:=[]
def TQ (_a0:TWrite):List Prop:=[]
theorem A6n (a0:TWrite):Ff (As Cn L0) 9 174 [Af .write a0] 0 []=some (1,Wb a0,0,Wa a0,TQ a0):=by kernel_rfl
theorem Bcb (a0:TWrite) (hp:∀p∈TQ a0,p):CallOk Try.prog 174 [Af .write a0] 0 [] 1 (Wb a0) 0 (Wa a0):=Az (An Byt Ay) (A6n a0) hp
def Anj:List A→Nat→Objs→Option A3:=Bg [.t .write] 0 Wb Wa TQ
theorem A07:Fi Try.prog 174 Anj:=Aq (ks:=[.t .write]) Bcb
noncomputable def Bp6:=A4 174 Anj Cn
theorem Bar:Dd Try.prog Bp6:=Am A07 Byt
def Hq (a0:TPlace) (a1:TPlace):Bool:=Op.bytesLess a0.1.toList a1.1.toList||a0.1.toList==a1.1.toList&&decide (a0.2 <a1.2)
def Jo (a0:TPlace) (a1:TPlace):A:=.v (.bool (Hq a0 a1))
def Jn (_a0:TPlace) (_a1:TPlace):Objs:=[]
def I3 (_a0:TPlace) (_a1:TPlace):List Prop:=[]
theorem VF (a0:TPlace) (a1:TPlace):Ff (As Bp6 L0) 9 175 [Af .place a0,Af .place a1] 0 []=some (1,Jo a0 a1,0,Jn a0 a1,I3 a0 a1):=by kernel_rfl
theorem Wc (a0:TPlace) (a1:TPlace) (hp:∀p∈I3 a0 a1,p):CallOk Try.prog 175 [Af .place a0,Af .place a1] 0 [] 1 (Jo a0 a1) 0 (Jn a0 a1):=Az (An Bar Ay) (VF a0 a1) hp
def M7:List A→Nat→Objs→Option A3:=Bg [.t .place,.t .place] 0 Jo Jn I3
theorem TR:Fi Try.prog 175 M7:=Aq (ks:=[.t .place,.t .place]) Wc
noncomputable def Bp7:=A4 175 M7 Bp6
theorem Bas:Dd Try.prog Bp7:=Am TR Bar
def Q1 (a0:TWrite) (a1:TWrite):Bool:=bif !a0.1.toList==a1.1.toList then Op.bytesLess a0.1.toList a1.1.toList else decide (a0.2 <a1.2)
def Yd (a0:TWrite) (a1:TWrite):A:=.v (.bool (Q1 a0 a1))
def Yc (_a0:TWrite) (_a1:TWrite):Objs:=[]
def Uv (_a0:TWrite) (_a1:TWrite):List Prop:=[]
theorem A88 (a0:TWrite) (a1:TWrite):Ff (As Bp7 L0) 9 177 [Af .write a0,Af .write a1] 0 []=some (1,Yd a0 a1,0,Yc a0 a1,Uv a0 a1):=by kernel_rfl
theorem Bfj (a0:TWrite) (a1:TWrite) (hp:∀p∈Uv a0 a1,p):CallOk Try.prog 177 [Af .write a0,Af .write a1] 0 [] 1 (Yd a0 a1) 0 (Yc a0 a1):=Az (An Bas Ay) (A88 a0 a1) hp
def Apu:List A→Nat→Objs→Option A3:=Bg [.t .write,.t .write] 0 Yd Yc Uv
theorem A2n:Fi Try.prog 177 Apu:=Aq (ks:=[.t .write,.t .write]) Bfj
noncomputable def Bp8:=A4 177 Apu Bp7
theorem Bat:Dd Try.prog Bp8:=Am A2n Bas
def K0 (a0:List TGroup) (a1:TWrite):Bool:=SB a1.1==(0:Int)&&decide (a1.2≥(0:Int))&&decide (a1.2 <(↑a0.length:Int))&&decide ((↑a1.4.size:Int)≤(64:Int))&&(!a1.3||a1.4.toList==(ByteArray.mk #[]).toList)
def Yf (a0:List TGroup) (a1:TWrite):A:=.v (.bool (K0 a0 a1))
def Ye (_a0:List TGroup) (_a1:TWrite):Objs:=[]
def Uw (_a0:List TGroup) (_a1:TWrite):List Prop:=[]
theorem A89 (a0:List TGroup) (a1:TWrite):Ff (As Bp8 L0) 9 176 [.sl .group a0,Af .write a1] 0 []=some (1,Yf a0 a1,0,Ye a0 a1,Uw a0 a1):=by kernel_rfl
theorem Bfk (a0:List TGroup) (a1:TWrite) (hp:∀p∈Uw a0 a1,p):CallOk Try.prog 176 [.sl .group a0,Af .write a1] 0 [] 1 (Yf a0 a1) 0 (Ye a0 a1):=Az (An Bat Ay) (A89 a0 a1) hp
def Apv:List A→Nat→Objs→Option A3:=Bg [.l .group,.t .write] 0 Yf Ye Uw
theorem A2o:Fi Try.prog 176 Apv:=Aq (ks:=[.l .group,.t .write]) Bfk
noncomputable def Byh:=A4 176 Apv Bp8
theorem Bp9:Dd Try.prog Byh:=Am A2o Bat
noncomputable def Bqa:=A4 36 Aji Byh
theorem Bau:Dd Try.prog Bqa:=Am Am9 Bp9
def I1 (a0:Int) (_a1:TStamp) (_a2:TVec) (a3:Bool) (_a4:ByteArray):Bool:=a0==(2:Int)&&a3
def I0 (_a0:Int) (_a1:TStamp) (_a2:TVec) (_a3:Bool) (a4:ByteArray):Bool:=decide ((↑a4.size:Int) >(64:Int))
def Ia (a0:Int) (a1:TStamp) (a2:TVec) (a3:Bool) (a4:ByteArray):Bool:=a0 !=(1:Int)&&a0 !=(2:Int)||!G4 a1||a1.1==(0:Int)||!ER a2||a3&&!a4.toList==(ByteArray.mk #[]).toList
def Kk (a0:Int) (a1:TStamp) (a2:TVec) (a3:Bool) (a4:ByteArray):TCell:=TCell.mk (TStamp.mk (bif(Ia a0 a1 a2 a3 a4) then(0:Int) else bif(I0 a0 a1 a2 a3 a4) then(0:Int) else bif(I1 a0 a1 a2 a3 a4) then(0:Int) else a1.1) (bif(Ia a0 a1 a2 a3 a4) then(0:Int) else bif(I0 a0 a1 a2 a3 a4) then(0:Int) else bif(I1 a0 a1 a2 a3 a4) then(0:Int) else a1.2)) (TVec.mk (bif(Ia a0 a1 a2 a3 a4) then(0:Int) else bif(I0 a0 a1 a2 a3 a4) then(0:Int) else bif(I1 a0 a1 a2 a3 a4) then(0:Int) else a2.1) (bif(Ia a0 a1 a2 a3 a4) then(0:Int) else bif(I0 a0 a1 a2 a3 a4) then(0:Int) else bif(I1 a0 a1 a2 a3 a4) then(0:Int) else a2.2)) (bif(Ia a0 a1 a2 a3 a4) then false else bif(I0 a0 a1 a2 a3 a4) then false else bif(I1 a0 a1 a2 a3 a4) then false else a3) (bif(Ia a0 a1 a2 a3 a4) then ByteArray.mk #[] else bif(I0 a0 a1 a2 a3 a4) then ByteArray.mk #[] else bif(I1 a0 a1 a2 a3 a4) then ByteArray.mk #[] else a4) (TVec.mk (bif(Ia a0 a1 a2 a3 a4) then(0:Int) else bif(I0 a0 a1 a2 a3 a4) then(0:Int) else bif(I1 a0 a1 a2 a3 a4) then a2.1 else(0:Int)) (bif(Ia a0 a1 a2 a3 a4) then(0:Int) else bif(I0 a0 a1 a2 a3 a4) then(0:Int) else bif(I1 a0 a1 a2 a3 a4) then a2.2 else(0:Int)))
def Btr (a0:Int) (a1:TStamp) (a2:TVec) (a3:Bool) (a4:ByteArray):Int:=bif(Ia a0 a1 a2 a3 a4) then(2:Int) else bif(I0 a0 a1 a2 a3 a4) then(3:Int) else bif(I1 a0 a1 a2 a3 a4) then(0:Int) else(0:Int)
def Ax7 (a0:Int) (a1:TStamp) (a2:TVec) (a3:Bool) (a4:ByteArray):A:=.v (.tuple ⟨[.agg ⟨[.int .i64 ((Kk a0 a1 a2 a3 a4).stamp.n),.int .i64 ((Kk a0 a1 a2 a3 a4).stamp.site),.int .i64 ((Kk a0 a1 a2 a3 a4).vec.a),.int .i64 ((Kk a0 a1 a2 a3 a4).vec.b),.bool ((Kk a0 a1 a2 a3 a4).gone),.string ((Kk a0 a1 a2 a3 a4).value),.int .i64 ((Kk a0 a1 a2 a3 a4).dead.a),.int .i64 ((Kk a0 a1 a2 a3 a4).dead.b)]⟩,.int .i64 (Btr a0 a1 a2 a3 a4)]⟩)
def Ax6 (_a0:Int) (_a1:TStamp) (_a2:TVec) (_a3:Bool) (_a4:ByteArray):Objs:=[]
def Alo (_a0:Int) (_a1:TStamp) (_a2:TVec) (_a3:Bool) (_a4:ByteArray):List Prop:=[]
theorem Bop (a0:Int) (a1:TStamp) (a2:TVec) (a3:Bool) (a4:ByteArray):Ff (As Bqa L0) 9 37 [Af .i64 a0,Af .stamp a1,Af .vec a2,Af .bool a3,Af .str a4] 0 []=some (1,Ax7 a0 a1 a2 a3 a4,0,Ax6 a0 a1 a2 a3 a4,Alo a0 a1 a2 a3 a4):=by kernel_rfl
theorem Bts (a0:Int) (a1:TStamp) (a2:TVec) (a3:Bool) (a4:ByteArray) (hp:∀p∈Alo a0 a1 a2 a3 a4,p):CallOk Try.prog 37 [Af .i64 a0,Af .stamp a1,Af .vec a2,Af .bool a3,Af .str a4] 0 [] 1 (Ax7 a0 a1 a2 a3 a4) 0 (Ax6 a0 a1 a2 a3 a4):=Az (An Bau Ay) (Bop a0 a1 a2 a3 a4) hp
def Bep:List A→Nat→Objs→Option A3:=Bg [.t .i64,.t .stamp,.t .vec,.t .bool,.t .str] 0 Ax7 Ax6 Alo
theorem Bix:Fi Try.prog 37 Bep:=Aq (ks:=[.t .i64,.t .stamp,.t .vec,.t .bool,.t .str]) Bts
noncomputable def Bav:=A4 37 Bep Bqa
theorem Atu:Dd Try.prog Bav:=Am Bix Bau
abbrev Bx:Type:=(List TGroup)×(List TWrite)×Int×Int×TChange
def JO (x:Bx):St:=⟨132,1,[(0,.sl .group x.1),(3,.own 0 0),(73,.sl .write x.2.1),(74,.v (.int .i64 x.2.2.1)),(75,.v (.int .i64 x.2.2.2.1))],[(0,some (.box 136 [.v (.int .i64 x.2.2.2.2.site),.v (.int .i64 x.2.2.2.2.seq),.v (.int .i64 x.2.2.2.2.stamp.n),.v (.int .i64 x.2.2.2.2.stamp.site),.v (.int .i64 x.2.2.2.2.vec.a),.v (.int .i64 x.2.2.2.2.vec.b),.sl .write x.2.2.2.2.writes]))]⟩
def K7:St→Option Bx
 |⟨132,1,[(0,.sl .group z0),(3,.own 0 0),(73,.sl .write z1),(74,.v (.int .i64 z2)),(75,.v (.int .i64 z3))],[(0,some (.box 136 [.v (.int .i64 z4),.v (.int .i64 z5),.v (.int .i64 z6),.v (.int .i64 z7),.v (.int .i64 z8),.v (.int .i64 z9),.sl .write z10]))]⟩=>some (z0,z1,z2,z3,⟨z4,z5,⟨z6,z7⟩,⟨z8,z9⟩,z10⟩)
 |_=>none
theorem Y8:∀s x,K7 s=some x→s=JO x:=fun s x h=>by
 unfold K7 at h
 split at h
 ·cases h;rfl
 ·cases h
def Se:De:=⟨1,1,[0,3,73,74,75],[],[(0,0)],[0],[4],[0]⟩
def Ajm:Dy:=⟨[],[(0,0)],[0,3,73,74,75],[0]⟩
def HM (_a0:List TGroup) (_a1:List TWrite) (_a2:Int) (a3:Int) (_a4:TChange):Int:=IntKind.i64.wrap (a3 - (1:Int))
def HK (a0:List TGroup) (a1:List TWrite) (_a2:Int) (a3:Int) (_a4:TChange):Bool:=(a1.getD a3.toNat (Ac TC.write)).1.toList==(ByteArray.mk #[]).toList||decide ((↑(a1.getD a3.toNat (Ac TC.write)).1.size:Int) >(32:Int))||decide ((a1.getD a3.toNat (Ac TC.write)).2 <(0:Int))||decide ((a1.getD a3.toNat (Ac TC.write)).2≥(↑a0.length:Int))||decide ((↑(a1.getD a3.toNat (Ac TC.write)).4.size:Int) >(64:Int))||(a1.getD a3.toNat (Ac TC.write)).3&&!(a1.getD a3.toNat (Ac TC.write)).4.toList==(ByteArray.mk #[]).toList
def CF (a0:List TGroup) (a1:List TWrite) (a2:Int) (a3:Int) (a4:TChange):Bool:=!!decide (a3 <a2)&&((HK a0 a1 a2 a3 a4)||decide (a3 >(0:Int))&&!Hq (Jm (a4.5.getD (HM a0 a1 a2 a3 a4).toNat (Ac TC.write))) (Jm (a1.getD a3.toNat (Ac TC.write))))
def Abz (a0:List TGroup) (a1:List TWrite) (a2:Int) (a3:Int) (a4:TChange):Bool:=!!decide (a3 <a2)&&!(CF a0 a1 a2 a3 a4)
def NY (a0:List TGroup) (a1:List TWrite) (a2:Int) (a3:Int) (a4:TChange):Int:=bif(HK a0 a1 a2 a3 a4) then(120:Int) else(120:Int)
def Ev (x:Bx):Bx:=(x.1,x.2.1,x.2.2.1,IntKind.i64.wrap (x.2.2.2.1+(1:Int)),x.2.2.2.2)
def Eu (x:Bx):Cnd:=some (Abz x.1 x.2.1 x.2.2.1 x.2.2.2.1 x.2.2.2.2)
def KC (x:Bx):List Prop:=[((!!decide (x.2.2.2.1 <x.2.2.1))=true→(0:Int)≤x.2.2.2.1∧x.2.2.2.1 <(↑x.2.1.length:Int)),((!!decide (x.2.2.2.1 <x.2.2.1))=true→(!(HK x.1 x.2.1 x.2.2.1 x.2.2.2.1 x.2.2.2.2))=true→decide (x.2.2.2.1 >(0:Int))=true→(0:Int)≤(HM x.1 x.2.1 x.2.2.1 x.2.2.2.1 x.2.2.2.2)∧(HM x.1 x.2.1 x.2.2.1 x.2.2.2.1 x.2.2.2.2) <(↑x.2.2.2.2.5.length:Int))]
abbrev Hp:Bx→List Prop:=KC
def NZ (x:Bx):Bj:=[(some 0,some (!decide (x.2.2.2.1 <x.2.2.1)),⟨132,1,[(4,.dead)],[(0,some (.box 136 [.v (.int .i64 x.2.2.2.2.1),.v (.int .i64 x.2.2.2.2.2),.v (.int .i64 x.2.2.2.2.3.1),.v (.int .i64 x.2.2.2.2.3.2),.v (.int .i64 x.2.2.2.2.4.1),.v (.int .i64 x.2.2.2.2.4.2),.sl .write x.2.2.2.2.5]))]⟩),(none,some ((CF x.1 x.2.1 x.2.2.1 x.2.2.2.1 x.2.2.2.2)),⟨132,2,[(4,.v (.int .i64 (NY x.1 x.2.1 x.2.2.1 x.2.2.2.1 x.2.2.2.2)))],[(0,some (.box 136 [.v (.int .i64 x.2.2.2.2.1),.v (.int .i64 x.2.2.2.2.2),.v (.int .i64 x.2.2.2.2.3.1),.v (.int .i64 x.2.2.2.2.3.2),.v (.int .i64 x.2.2.2.2.4.1),.v (.int .i64 x.2.2.2.2.4.2),.sl .write x.2.2.2.2.5]))]⟩)]
def F5 (x:Bx):Nat:=(x.2.2.1 - x.2.2.2.1).toNat
def EL (x:Bx):Bx:=A9 Ev Eu (F5 x) x
theorem Afa (a0:List TGroup) (a1:List TWrite) (a2:Int) (a3:Int) (a4:TChange):Bw (As Bav L0) 9 (Ae Try.prog 169 0) Se (JO (a0,a1,a2,a3,a4))=some (KC (a0,a1,a2,a3,a4),NZ (a0,a1,a2,a3,a4),Eu (a0,a1,a2,a3,a4),JO (Ev (a0,a1,a2,a3,a4))):=by kernel_rfl
theorem Afb (a0:List TGroup) (a1:List TWrite) (a2:Int) (a3:Int) (a4:TChange) (hp:∀p∈Hp (a0,a1,a2,a3,a4),p):∀p∈KC (a0,a1,a2,a3,a4),p:=hp
noncomputable def OV:=HG (As Bav L0) (Ae Try.prog 169 0) Se Ajm K7 F5 Ev Eu Hp NZ
theorem Ab0:∀s b ps outs,OV s=some (b,ps,outs)→Wf s ⟨ps,outs,none⟩∧Bt (As C0 L0) b s ps outs:=
 Bh (T:=JO) Atu Ay (u:=9) (by kernel_rfl) (by decide) (fun⟨a0,a1,a2,a3,a4⟩=>Afa a0 a1 a2 a3 a4) (fun⟨a0,a1,a2,a3,a4⟩=>Afb a0 a1 a2 a3 a4) Y8 (fun _=>AK (n:=132) rfl) fun _ _=>rfl
noncomputable def Sd:=DI 0 OV L0
theorem Aby:G9 Sd:=AV Ab0 Ay
def DC (a0:List TGroup) (_a1:TChange):Bool:=AR a0 !=(0:Int)
def DB (_a0:List TGroup) (a1:TChange):Int:=IntKind.i64.wrap (a1.1 - (1:Int))
def OU (a0:List TGroup) (a1:TChange):List TGroup:=(EL (a0,a1.5,(↑a1.5.length:Int),(0:Int),a1)).fst
def GT (_a0:List TGroup) (a1:TChange):Bool:=decide ((↑a1.5.length:Int) <(1:Int))||decide ((↑a1.5.length:Int) >(8:Int))
def OT (a0:List TGroup) (a1:TChange):List TWrite:=(EL (a0,a1.5,(↑a1.5.length:Int),(0:Int),a1)).snd.fst
def OS (a0:List TGroup) (a1:TChange):Int:=(EL (a0,a1.5,(↑a1.5.length:Int),(0:Int),a1)).snd.snd.fst
def OR (a0:List TGroup) (a1:TChange):TChange:=(EL (a0,a1.5,(↑a1.5.length:Int),(0:Int),a1)).snd.snd.snd.snd
def OQ (a0:List TGroup) (a1:TChange):Int:=(EL (a0,a1.5,(↑a1.5.length:Int),(0:Int),a1)).snd.snd.snd.fst
def GS (a0:List TGroup) (a1:TChange):Bool:=a1.1 !=(1:Int)&&a1.1 !=(2:Int)||decide (a1.2 <(1:Int))||decide (a1.2 >(1099511627776:Int))||a1.3.2 !=a1.1||!Cg a1.3||!BN a1.4||(bif(DB a0 a1).toNat.beq (0:Nat) then a1.4.1 else a1.4.2) !=a1.2
def Re (a0:List TGroup) (a1:TChange):Int:=bif(DC a0 a1) then AR a0 else bif(GS a0 a1) then(120:Int) else bif(GT a0 a1) then(120:Int) else bif CF (OU a0 a1) (OT a0 a1) (OS a0 a1) (OQ a0 a1) (OR a0 a1) then NY (OU a0 a1) (OT a0 a1) (OS a0 a1) (OQ a0 a1) (OR a0 a1) else(0:Int)
def Rf (a0:List TGroup) (a1:TChange):A:=.v (.int .i64 (Re a0 a1))
def ZD (_a0:List TGroup) (_a1:TChange):Objs:=[]
def V6 (a0:List TGroup) (a1:TChange):List Prop:=[((!(DC a0 a1))=true→(a1.1 !=(1:Int)&&a1.1 !=(2:Int)||decide (a1.2 <(1:Int))||decide (a1.2 >(1099511627776:Int))||a1.3.2 !=a1.1||!Cg a1.3||!BN a1.4)=false→(0:Int)≤(DB a0 a1)∧(DB a0 a1) <(2:Int)),((!(DC a0 a1))=true→(!(GS a0 a1))=true→(!(GT a0 a1))=true→AD Ev Eu Hp (F5 (a0,a1.5,(↑a1.5.length:Int),(0:Int),a1)) (a0,a1.5,(↑a1.5.length:Int),(0:Int),a1))]
theorem Aus (a0:List TGroup) (a1:TChange):Ff (As Bav Sd) 9 169 [.sl .group a0,Af .change a1] 0 []=some (1,Rf a0 a1,0,ZD a0 a1,[((!(DC a0 a1))=true→(a1.1 !=(1:Int)&&a1.1 !=(2:Int)||decide (a1.2 <(1:Int))||decide (a1.2 >(1099511627776:Int))||a1.3.2 !=a1.1||!Cg a1.3||!BN a1.4)=false→(0:Int)≤(DB a0 a1)∧(DB a0 a1) <(2:Int)),((!(DC a0 a1))=true→(a1.1 !=(1:Int)&&a1.1 !=(2:Int)||decide (a1.2 <(1:Int))||decide (a1.2 >(1099511627776:Int))||a1.3.2 !=a1.1||!Cg a1.3||!BN a1.4)=false→(DB a0 a1).toNat <(2:Nat)),((!(DC a0 a1))=true→(!(GS a0 a1))=true→(!(GT a0 a1))=true→Ae Try.prog (169:FuncId) (0:Nat)=Ae Try.prog (169:FuncId) (0:Nat)),((!(DC a0 a1))=true→(!(GS a0 a1))=true→(!(GT a0 a1))=true→AD Ev Eu Hp (F5 (a0,a1.5,(↑a1.5.length:Int),(0:Int),a1)) (a0,a1.5,(↑a1.5.length:Int),(0:Int),a1))]):=by kernel_rfl
theorem A05 (a0:List TGroup) (a1:TChange) (hp:∀p∈V6 a0 a1,p):CallOk Try.prog 169 [.sl .group a0,Af .change a1] 0 [] 1 (Rf a0 a1) 0 (ZD a0 a1):=by
 have n0:((!(DC a0 a1))=true→(a1.1 !=(1:Int)&&a1.1 !=(2:Int)||decide (a1.2 <(1:Int))||decide (a1.2 >(1099511627776:Int))||a1.3.2 !=a1.1||!Cg a1.3||!BN a1.4)=false→(0:Int)≤(DB a0 a1)∧(DB a0 a1) <(2:Int)):=N0 hp
 have n1:((!(DC a0 a1))=true→(a1.1 !=(1:Int)&&a1.1 !=(2:Int)||decide (a1.2 <(1:Int))||decide (a1.2 >(1099511627776:Int))||a1.3.2 !=a1.1||!Cg a1.3||!BN a1.4)=false→(DB a0 a1).toNat <(2:Nat)):=by intro h0 h1;have g:=n0 h0 h1;omega
 have n2:((!(DC a0 a1))=true→(!(GS a0 a1))=true→(!(GT a0 a1))=true→Ae Try.prog (169:FuncId) (0:Nat)=Ae Try.prog (169:FuncId) (0:Nat)):=by intros;rfl
 have n3:=N0 (N1 hp)
 exact Az (An Atu Aby) (Aus a0 a1) (Aa n0 (Aa n1 (Aa n2 (Aa n3 Ad))))
def V7 (a0:List TGroup) (a1:TChange):A:=.v (.int .i64 (No a0 a1))
def V5 (_a0:List TGroup) (_a1:TChange):Objs:=[]
def UQ (_a0:List TGroup) (a1:TChange):List Prop:=[Ar a1.writes.length]
theorem Btz {c:TChange} (h:c.site=1∨c.site=2):(bif(IntKind.i64.wrap (c.site - 1)).toNat.beq 0 then c.vec.a else c.vec.b)=bif c.site==1 then c.vec.a else c.vec.b:=by
 rcases h with h|h<;>rw[h]<;>rfl
theorem Bm5 {c:TChange} (h:c.site=1∨c.site=2):(0:Int)≤IntKind.i64.wrap (c.site - 1)∧IntKind.i64.wrap (c.site - 1) <(2:Int):=by
 rcases h with h|h<;>rw[h]<;>decide
theorem Bwx {n:Int}:(n !=1&&n !=2)=false↔n=1∨n=2:=by
 constructor
 ·intro h
  rcases Decidable.em (n=1) with e|e
  ·exact .inl e
  ·rcases Decidable.em (n=2) with e2|e2
   ·exact .inr e2
   ·have h1:(n !=1)=true:=bne_iff_ne.2 e
    have h2:(n !=2)=true:=bne_iff_ne.2 e2
    rw[h1,h2] at h
    cases h
 ·rintro(rfl|rfl)<;>rfl
theorem Bl8 (c:TChange):Di c=!(c.site !=1&&c.site !=2||decide (c.seq <1)||decide (c.seq >1099511627776)||c.stamp.site !=c.site||!HJ c.stamp||!CL c.vec||(bif(IntKind.i64.wrap (c.site - 1)).toNat.beq 0 then c.vec.a else c.vec.b) !=c.seq):=by
 unfold Di
 cases h:c.site !=1&&c.site !=2 with
 |true=>
  rw[Bool.and_eq_true,bne_iff_ne,bne_iff_ne] at h
  rw[beq_eq_false_iff_ne.2 h.1,beq_eq_false_iff_ne.2 h.2]
  rfl
 | false=>
  have hs:=Bwx.1 h
  have h1:(c.site==1||c.site==2)=true:=by rcases hs with e|e<;>rw[e]<;>rfl
  have h2:decide (c.seq <1)=!decide (1≤c.seq):=by
   rw[←decide_not];exact decide_eq_decide.2 (by omega)
  have h3:decide (c.seq >1099511627776)=!decide (c.seq≤1099511627776):=by
   rw[←decide_not];exact decide_eq_decide.2 (by omega)
  rw[h1,Btz hs,h2,h3]
  unfold bne
  cases decide (1≤c.seq)<;>cases decide (c.seq≤1099511627776)<;>cases c.stamp.site==c.site<;>cases HJ c.stamp<;>cases CL c.vec<;>simp
theorem Bya (l:List TGroup) (w:TWrite):(w.1.toList==(ByteArray.mk #[]).toList||decide ((w.1.size:Int) >(32:Int))||decide (w.2 <(0:Int))||decide (w.2≥(l.length:Int))||decide ((w.4.size:Int) >(64:Int))||w.3&&!w.4.toList==(ByteArray.mk #[]).toList)=!TD l w:=by
 have e1:(w.1.toList==(ByteArray.mk #[]).toList)=(w.key.size==0):=RG _
 have e2:(w.4.toList==(ByteArray.mk #[]).toList)=(w.value.size==0):=RG _
 have h1:decide ((w.1.size:Int) >(32:Int))=!decide (w.key.size≤32):=by rw[←decide_not];exact decide_eq_decide.2 (by omega)
 have h2:decide (w.2 <(0:Int))=!decide (0≤w.group):=by rw[←decide_not];exact decide_eq_decide.2 (by omega)
 have h3:decide (w.2≥(l.length:Int))=!decide (w.group <(l.length:Int)):=by rw[←decide_not];exact decide_eq_decide.2 (by omega)
 have h4:decide ((w.4.size:Int) >(64:Int))=!decide (w.value.size≤64):=by rw[←decide_not];exact decide_eq_decide.2 (by omega)
 rw[e1,e2,h1,h2,h3,h4]
 unfold TD
 cases w.key.size==0<;>cases decide (w.key.size≤32)<;>cases decide (0≤w.group)<;>cases decide (w.group <(l.length:Int))<;>cases decide (w.value.size≤64)<;>cases w.gone<;>cases w.value.size==0<;>rfl
theorem Bq9 (a b:TWrite):Hq (Jm a) (Jm b)=J8 a b:=by
 unfold Hq Jm J8 Jd
 rw[←tlb]
theorem Bly (l:List TGroup) (c:TChange) (i:Nat) (hi:i≤9223372036854775807):CF l c.writes (c.writes.length:Int) (i:Int) c=(decide (i <c.writes.length)&&Qf l c.writes i):=by
 have e:CF l c.writes (c.writes.length:Int) (i:Int) c=(decide (i <c.writes.length)&&(!TD l (wN c.writes i)||decide ((i:Int) >0)&&!J8 (wN c.writes (IntKind.i64.wrap ((i:Int) - 1)).toNat) (wN c.writes i))):=by
  unfold CF HK HM
  rw[nn,M9,Int.toNat_natCast,Bq9,Bya]
  rfl
 rw[e]
 unfold Qf
 cases i with
 |zero=>rfl
 |succ j=>
  have h1:(IntKind.i64.wrap (((j+1:Nat):Int) - 1)).toNat=j+1 - 1:=by rw[i64_in (by omega)];omega
  have h2:decide (((j+1:Nat):Int) >0)=decide (0 <j+1):=decide_eq_decide.2 (by omega)
  rw[h1,h2]
theorem V4 (l:List TGroup) (c:TChange) (hb:Ar c.writes.length):(∀p∈V6 l c,p)∧Re l c=No l c:=by
 unfold Ar at hb
 obtain⟨h1,k,hk,hx,_,_,hb'⟩:=IW (fun i=>((l,c.writes,(c.writes.length:Int),(i:Int),c):Bx)) c.writes.length (fun i=>Qf l c.writes i) Ev Eu Hp (F5 (l,c.writes,(c.writes.length:Int),0,c)) (l,c.writes,(c.writes.length:Int),0,c) rfl (by show c.writes.length≤((c.writes.length:Int) - 0).toNat;omega)
  (fun i hi _=>by
   show((!!decide ((i:Int) <(c.writes.length:Int)))&&!CF l c.writes (c.writes.length:Int) (i:Int) c)=_
   rw[Bly l c i (by omega),nn,M9]
   cases decide (i <c.writes.length)<;>rfl)
  (fun i hi _=>by
   show(l,c.writes,(c.writes.length:Int),IntKind.i64.wrap ((i:Int)+1),c)=(l,c.writes,(c.writes.length:Int),((i+1:Nat):Int),c)
   rw[Fd (by omega)])
  (fun i hi _=>by
   have hin:(!!decide ((i:Int) <(c.writes.length:Int)))=true→(i:Int) <(c.writes.length:Int):=fun h=>by rw[nn] at h;exact of_decide_eq_true h
   refine Aa (fun h=>⟨by show(0:Int)≤(i:Int);omega,hin h⟩) (Aa (fun h _ h3=>?_) Ad)
   have h4:(i:Int) >0:=of_decide_eq_true h3
   have h5:=hin h
   show(0:Int)≤IntKind.i64.wrap ((i:Int) - 1)∧IntKind.i64.wrap ((i:Int) - 1) <(c.writes.length:Int)
   rw[i64_in (by omega)]
   omega)
 have hr:EL (l,c.writes,(c.writes.length:Int),0,c)=(l,c.writes,(c.writes.length:Int),(k:Int),c):=hx
 refine⟨Aa (fun _ h=>Bm5 (Bwx.1 (by
  cases hs:c.site !=1&&c.site !=2 with
  |false=>rfl
  |true=>
   have h':(c.site !=(1:Int)&&c.site !=(2:Int)||decide (c.seq <(1:Int))||decide (c.seq >(1099511627776:Int))||c.stamp.site !=c.site||!Cg c.stamp||!BN c.vec)=false:=h
   rw[hs] at h'
   simp at h'))) (Aa (fun _ _ _=>h1) Ad),?_⟩
 unfold Re No
 show(bif AR l !=0 then AR l else _)=_
 congr 1
 have e0:GS l c=!Di c:=by
  rw[Bl8,Bool.not_not]
  unfold GS DB
  rw[Kp,K4]
 have e5:GT l c=!Ahl c:=by
  unfold GT Ahl
  have h2:decide ((c.writes.length:Int) <(1:Int))=!decide (1≤c.writes.length):=by rw[←decide_not];exact decide_eq_decide.2 (by omega)
  have h3:decide ((c.writes.length:Int) >(8:Int))=!decide (c.writes.length≤8):=by rw[←decide_not];exact decide_eq_decide.2 (by omega)
  have h2':decide ((c.5.length:Int) <(1:Int))=!decide (1≤c.writes.length):=h2
  have h3':decide ((c.5.length:Int) >(8:Int))=!decide (c.writes.length≤8):=h3
  rw[h2',h3']
  cases decide (1≤c.writes.length)<;>cases decide (c.writes.length≤8)<;>rfl
 rw[e0,e5]
 unfold OU OT OS OQ OR
 rw[hr]
 show(bif !Di c then 120 else bif !Ahl c then 120 else bif CF l c.writes (c.writes.length:Int) (k:Int) c then(bif _ then(120:Int) else 120) else 0)=_
 rw[Bly l c k (Nat.le_trans hk hb),hb']
 have hc:∀b:Bool,(bif b then(120:Int) else 120)=120:=fun b=>by cases b<;>rfl
 rw[hc]
 cases Di c<;>cases Ahl c<;>cases J9 c.writes.length (fun i=>!Qf l c.writes i)<;>rfl
theorem Aur (a0:List TGroup) (a1:TChange) (hp:∀p∈UQ a0 a1,p):CallOk Try.prog 169 [.sl .group a0,Af .change a1] 0 [] 1 (V7 a0 a1) 0 (V5 a0 a1):=by
 have hb:Ar a1.writes.length:=hp _ (List.mem_cons_self ..)
 have h:=A05 a0 a1 (V4 a0 a1 hb).1
 unfold Rf at h
 rw[(V4 a0 a1 hb).2] at h
 exact h
def ZE:List A→Nat→Objs→Option A3:=Bg [.l .group,.t .change] 0 V7 V5 UQ
theorem Aqu:Fi Try.prog 169 ZE:=Aq (ks:=[.l .group,.t .change]) Aur
noncomputable def Baw:=A4 169 ZE Bav
theorem Atv:Dd Try.prog Baw:=Am Aqu Atu
abbrev CD:Type:=(List TGroup)×Int×TChange
def MY (x:CD):St:=⟨107,1,[(0,.sl .group x.1),(3,.own 0 0),(6,.v (.int .i64 x.2.1))],[(0,some (.box 136 [.v (.int .i64 x.2.2.site),.v (.int .i64 x.2.2.seq),.v (.int .i64 x.2.2.stamp.n),.v (.int .i64 x.2.2.stamp.site),.v (.int .i64 x.2.2.vec.a),.v (.int .i64 x.2.2.vec.b),.sl .write x.2.2.writes]))]⟩
def PU:St→Option CD
 |⟨107,1,[(0,.sl .group z0),(3,.own 0 0),(6,.v (.int .i64 z1))],[(0,some (.box 136 [.v (.int .i64 z2),.v (.int .i64 z3),.v (.int .i64 z4),.v (.int .i64 z5),.v (.int .i64 z6),.v (.int .i64 z7),.sl .write z8]))]⟩=>some (z0,z1,⟨z2,z3,⟨z4,z5⟩,⟨z6,z7⟩,z8⟩)
 |_=>none
theorem Ami:∀s x,PU s=some x→s=MY x:=fun s x h=>by
 unfold PU at h
 split at h
 ·cases h;rfl
 ·cases h
def Aa2:De:=⟨1,1,[0,3,6],[],[(0,0)],[0],[4],[0]⟩
def A2m:Dy:=⟨[],[(0,0)],[0,3,6],[0]⟩
def J3 (_a0:List TGroup) (a1:Int) (_a2:TChange):Int:=IntKind.i64.wrap (a1 - (1:Int))
def GI (_a0:List TGroup) (a1:Int) (a2:TChange):Bool:=!!decide (a1 <(↑a2.5.length:Int))
def D1 (a0:List TGroup) (a1:Int) (a2:TChange):Bool:=(GI a0 a1 a2)&&(!K0 a0 (a2.5.getD a1.toNat (Ac TC.write))||decide (a1 >(0:Int))&&!Q1 (a2.5.getD (J3 a0 a1 a2).toNat (Ac TC.write)) (a2.5.getD a1.toNat (Ac TC.write)))
def Asv (a0:List TGroup) (a1:Int) (a2:TChange):Bool:=(GI a0 a1 a2)&&!(D1 a0 a1 a2)
def GK (x:CD):CD:=(x.1,IntKind.i64.wrap (x.2.1+(1:Int)),x.2.2)
def GJ (x:CD):Cnd:=some (Asv x.1 x.2.1 x.2.2)
def NS (x:CD):List Prop:=[((GI x.1 x.2.1 x.2.2)=true→(0:Int)≤x.2.1∧x.2.1 <(↑x.2.2.5.length:Int)),((GI x.1 x.2.1 x.2.2)=true→decide (x.2.1 >(0:Int))=true→(!K0 x.1 (x.2.2.5.getD x.2.1.toNat (Ac TC.write)))=false→(0:Int)≤(J3 x.1 x.2.1 x.2.2)∧(J3 x.1 x.2.1 x.2.2) <(↑x.2.2.5.length:Int)),((GI x.1 x.2.1 x.2.2)=true→decide (x.2.1 >(0:Int))=true→(!K0 x.1 (x.2.2.5.getD x.2.1.toNat (Ac TC.write)))=false→(0:Int)≤x.2.1∧x.2.1 <(↑x.2.2.5.length:Int))]
abbrev JJ:CD→List Prop:=NS
def Tp (x:CD):Bj:=[(some 0,some (!decide (x.2.1 <(↑x.2.2.5.length:Int))),⟨107,1,[(4,.dead)],[(0,some (.box 136 [.v (.int .i64 x.2.2.1),.v (.int .i64 x.2.2.2),.v (.int .i64 x.2.2.3.1),.v (.int .i64 x.2.2.3.2),.v (.int .i64 x.2.2.4.1),.v (.int .i64 x.2.2.4.2),.sl .write x.2.2.5]))]⟩),(none,some ((D1 x.1 x.2.1 x.2.2)),⟨107,1,[(4,.v (.int .i64 ((120:Int))))],[(0,some (.box 136 [.v (.int .i64 x.2.2.1),.v (.int .i64 x.2.2.2),.v (.int .i64 x.2.2.3.1),.v (.int .i64 x.2.2.3.2),.v (.int .i64 x.2.2.4.1),.v (.int .i64 x.2.2.4.2),.sl .write x.2.2.5]))]⟩)]
def Il (x:CD):Nat:=((↑x.2.2.5.length:Int) - x.2.1).toNat
def Asx (x:CD):CD:=A9 GK GJ (Il x) x
theorem Azk (a0:List TGroup) (a1:Int) (a2:TChange):Bw (As Baw L0) 9 (Ae Try.prog 171 0) Aa2 (MY (a0,a1,a2))=some (NS (a0,a1,a2),Tp (a0,a1,a2),GJ (a0,a1,a2),MY (GK (a0,a1,a2))):=by kernel_rfl
theorem Azl (a0:List TGroup) (a1:Int) (a2:TChange) (hp:∀p∈JJ (a0,a1,a2),p):∀p∈NS (a0,a1,a2),p:=hp
noncomputable def Vx:=HG (As Baw L0) (Ae Try.prog 171 0) Aa2 A2m PU Il GK GJ JJ Tp
theorem Asw:∀s b ps outs,Vx s=some (b,ps,outs)→Wf s ⟨ps,outs,none⟩∧Bt (As C0 L0) b s ps outs:=
 Bh (T:=MY) Atv Ay (u:=9) (by kernel_rfl) (by decide) (fun⟨a0,a1,a2⟩=>Azk a0 a1 a2) (fun⟨a0,a1,a2⟩=>Azl a0 a1 a2) Ami (fun _=>AK (n:=107) rfl) fun _ _=>rfl
noncomputable def Aa1:=DI 0 Vx L0
theorem Asu:G9 Aa1:=AV Asw Ay
def Gp (a0:List TGroup) (_a1:TChange):Bool:=AR a0 !=(0:Int)
def Gn (_a0:List TGroup) (a1:TChange):Int:=IntKind.i64.wrap (a1.1 - (1:Int))
def Q0 (a0:List TGroup) (a1:TChange):CD:=Asx (a0,(0:Int),a1)
def JI (a0:List TGroup) (a1:TChange):Bool:=a1.1 !=(1:Int)&&a1.1 !=(2:Int)||decide (a1.2 <(1:Int))||decide (a1.2 >(1099511627776:Int))||!G4 a1.3||a1.3.2 !=a1.1||!ER a1.4||(bif(Gn a0 a1).toNat.beq (0:Nat) then a1.4.1 else a1.4.2) !=a1.2||decide ((↑a1.5.length:Int) <(1:Int))||decide ((↑a1.5.length:Int) >(8:Int))
def Aea (a0:List TGroup) (a1:TChange):Int:=bif(Gp a0 a1) then AR a0 else bif(JI a0 a1) then(120:Int) else bif D1 (Q0 a0 a1).fst (Q0 a0 a1).snd.fst (Q0 a0 a1).snd.snd then(120:Int) else(0:Int)
def Aeb (a0:List TGroup) (a1:TChange):A:=.v (.int .i64 (Aea a0 a1))
def Azm (_a0:List TGroup) (_a1:TChange):Objs:=[]
def Aps (a0:List TGroup) (a1:TChange):List Prop:=[(∀(g:TGroup),g∈a0→Ar g.1.size),((!(Gp a0 a1))=true→(a1.1 !=(1:Int)&&a1.1 !=(2:Int)||decide (a1.2 <(1:Int))||decide (a1.2 >(1099511627776:Int))||!G4 a1.3||a1.3.2 !=a1.1||!ER a1.4)=false→(0:Int)≤(Gn a0 a1)∧(Gn a0 a1) <(2:Int)),((!(Gp a0 a1))=true→(!(JI a0 a1))=true→AD GK GJ JJ (Il (a0,(0:Int),a1)) (a0,(0:Int),a1))]
theorem Bfi (a0:List TGroup) (a1:TChange):Ff (As Baw Aa1) 9 171 [.sl .group a0,Af .change a1] 0 []=some (1,Aeb a0 a1,0,Azm a0 a1,[(∀(g:TGroup),g∈a0→Ar g.1.size),((!(Gp a0 a1))=true→(a1.1 !=(1:Int)&&a1.1 !=(2:Int)||decide (a1.2 <(1:Int))||decide (a1.2 >(1099511627776:Int))||!G4 a1.3||a1.3.2 !=a1.1||!ER a1.4)=false→(0:Int)≤(Gn a0 a1)∧(Gn a0 a1) <(2:Int)),((!(Gp a0 a1))=true→(a1.1 !=(1:Int)&&a1.1 !=(2:Int)||decide (a1.2 <(1:Int))||decide (a1.2 >(1099511627776:Int))||!G4 a1.3||a1.3.2 !=a1.1||!ER a1.4)=false→(Gn a0 a1).toNat <(2:Nat)),((!(Gp a0 a1))=true→(!(JI a0 a1))=true→Ae Try.prog (171:FuncId) (0:Nat)=Ae Try.prog (171:FuncId) (0:Nat)),((!(Gp a0 a1))=true→(!(JI a0 a1))=true→AD GK GJ JJ (Il (a0,(0:Int),a1)) (a0,(0:Int),a1))]):=by kernel_rfl
theorem Bjk (a0:List TGroup) (a1:TChange) (hp:∀p∈Aps a0 a1,p):CallOk Try.prog 171 [.sl .group a0,Af .change a1] 0 [] 1 (Aeb a0 a1) 0 (Azm a0 a1):=by
 have n0:=N0 hp
 have n1:((!(Gp a0 a1))=true→(a1.1 !=(1:Int)&&a1.1 !=(2:Int)||decide (a1.2 <(1:Int))||decide (a1.2 >(1099511627776:Int))||!G4 a1.3||a1.3.2 !=a1.1||!ER a1.4)=false→(0:Int)≤(Gn a0 a1)∧(Gn a0 a1) <(2:Int)):=N0 (N1 hp)
 have n2:((!(Gp a0 a1))=true→(a1.1 !=(1:Int)&&a1.1 !=(2:Int)||decide (a1.2 <(1:Int))||decide (a1.2 >(1099511627776:Int))||!G4 a1.3||a1.3.2 !=a1.1||!ER a1.4)=false→(Gn a0 a1).toNat <(2:Nat)):=by intro h0 h1;have g:=n1 h0 h1;omega
 have n3:((!(Gp a0 a1))=true→(!(JI a0 a1))=true→Ae Try.prog (171:FuncId) (0:Nat)=Ae Try.prog (171:FuncId) (0:Nat)):=by intros;rfl
 have n4:=N0 (N1 (N1 hp))
 exact Az (An Atv Asu) (Bfi a0 a1) (Aa n0 (Aa n1 (Aa n2 (Aa n3 (Aa n4 Ad)))))
def Apt (a0:List TGroup) (a1:TChange):A:=.v (.int .i64 (No a0 a1))
def Apr (_a0:List TGroup) (_a1:TChange):Objs:=[]
def Aih (a0:List TGroup) (a1:TChange):List Prop:=[Ar a1.writes.length,∀g∈a0,Ar g.1.size]
theorem Bgu (a b:TWrite):Q1 a b=J8 a b:=by
 unfold Q1 J8 Jd
 rw[tlb]
 cases h:a.key==b.key with
 |true=>
  obtain e:=eq_of_beq h
  have e':a.1=b.1:=e
  rw[e',On]
  rfl
 |false=>
  show Op.bytesLess a.1.toList b.1.toList=(Op.bytesLess a.1.toList b.1.toList||false)
  rw[Bool.or_false]
theorem Bke (l:List TGroup) (w:TWrite):K0 l w=TD l w:=by
 have e2:(w.4.toList==(ByteArray.mk #[]).toList)=(w.value.size==0):=RG _
 unfold K0 TD
 rw[e2]
 have h1:(SB w.1==(0:Int))=(!(w.key.size==0)&&decide (w.key.size≤32)):=by
  unfold SB
  show((bif w.key.size==0 then(2:Int) else bif decide (32 <w.key.size) then 3 else 0)==0)=_
  have h2:decide (32 <w.key.size)=!decide (w.key.size≤32):=by rw[←decide_not];exact decide_eq_decide.2 (by omega)
  rw[h2]
  cases w.key.size==0<;>cases decide (w.key.size≤32)<;>rfl
 have h4:decide ((w.4.size:Int)≤(64:Int))=decide (w.value.size≤64):=decide_eq_decide.2 (by omega)
 have h3:decide (w.2≥(0:Int))=decide (0≤w.group):=rfl
 rw[h1,h4,h3]
theorem Bmz (l:List TGroup) (c:TChange) (i:Nat) (hi:i≤9223372036854775807):D1 l (i:Int) c=(decide (i <c.writes.length)&&Qf l c.writes i):=by
 have e:D1 l (i:Int) c=(decide (i <c.writes.length)&&(!TD l (wN c.writes i)||decide ((i:Int) >0)&&!J8 (wN c.writes (IntKind.i64.wrap ((i:Int) - 1)).toNat) (wN c.writes i))):=by
  unfold D1 GI J3
  rw[nn,M9,Int.toNat_natCast,Bgu,Bke]
  rfl
 rw[e]
 unfold Qf
 cases i with
 |zero=>rfl
 |succ j=>
  have h1:(IntKind.i64.wrap (((j+1:Nat):Int) - 1)).toNat=j+1 - 1:=by rw[i64_in (by omega)];omega
  have h2:decide (((j+1:Nat):Int) >0)=decide (0 <j+1):=decide_eq_decide.2 (by omega)
  rw[h1,h2]
theorem Apq (l:List TGroup) (c:TChange) (hb:Ar c.writes.length) (hw:∀g∈l,Ar g.1.size):(∀p∈Aps l c,p)∧Aea l c=No l c:=by
 unfold Ar at hb
 obtain⟨h1,k,hk,hx,_,_,hb'⟩:=IW (fun i=>((l,(i:Int),c):CD)) c.writes.length (fun i=>Qf l c.writes i) GK GJ JJ (Il (l,0,c)) (l,0,c) rfl (by show c.writes.length≤((c.writes.length:Int) - 0).toNat;omega)
  (fun i hi _=>by
   show((!!decide ((i:Int) <(c.writes.length:Int)))&&!D1 l (i:Int) c)=_
   rw[Bmz l c i (by omega),nn,M9]
   cases decide (i <c.writes.length)<;>rfl)
  (fun i hi _=>by
   show(l,IntKind.i64.wrap ((i:Int)+1),c)=(l,((i+1:Nat):Int),c)
   rw[Fd (by omega)])
  (fun i hi _=>by
   have hin:(!!decide ((i:Int) <(c.writes.length:Int)))=true→(i:Int) <(c.writes.length:Int):=fun h=>by rw[nn] at h;exact of_decide_eq_true h
   refine Aa (fun h=>⟨by show(0:Int)≤(i:Int);omega,hin h⟩) (Aa (fun h h3 _=>?_) (Aa (fun h _ _=>⟨by show(0:Int)≤(i:Int);omega,hin h⟩) Ad))
   have h4:(i:Int) >0:=of_decide_eq_true h3
   have h5:=hin h
   show(0:Int)≤IntKind.i64.wrap ((i:Int) - 1)∧IntKind.i64.wrap ((i:Int) - 1) <(c.writes.length:Int)
   rw[i64_in (by omega)]
   omega)
 have hr:Q0 l c=(l,(k:Int),c):=hx
 refine⟨Aa hw (Aa (fun _ h=>Bm5 (Bwx.1 (by
  cases hs:c.site !=1&&c.site !=2 with
  |false=>rfl
  |true=>
   have h':(c.site !=(1:Int)&&c.site !=(2:Int)||decide (c.seq <(1:Int))||decide (c.seq >(1099511627776:Int))||!G4 c.stamp||c.stamp.site !=c.site||!ER c.vec)=false:=h
   rw[hs] at h'
   simp at h'))) (Aa (fun _ _=>h1) Ad)),?_⟩
 unfold Aea No
 show(bif AR l !=0 then AR l else _)=_
 congr 1
 have e0:JI l c=(!Di c||!Ahl c):=by
  rw[Bl8,Bool.not_not]
  unfold JI Gn Ahl
  rw[XK,QR]
  have h2:decide ((c.5.length:Int) <(1:Int))=!decide (1≤c.writes.length):=by rw[←decide_not];exact decide_eq_decide.2 (by show(c.writes.length:Int) <1↔_;omega)
  have h3:decide ((c.5.length:Int) >(8:Int))=!decide (c.writes.length≤8):=by rw[←decide_not];exact decide_eq_decide.2 (by show(c.writes.length:Int) >8↔_;omega)
  rw[h2,h3]
  show(_||_||_||!HJ c.stamp||c.stamp.site !=c.site||_||_||_||_)=(_||_||_||c.stamp.site !=c.site||!HJ c.stamp||_||_||_)
  cases HJ c.stamp<;>cases c.stamp.site !=c.site<;>cases decide (1≤c.writes.length)<;>cases decide (c.writes.length≤8)<;>simp
 rw[e0,hr]
 show(bif !Di c||!Ahl c then 120 else bif D1 l (k:Int) c then 120 else 0)=_
 rw[Bmz l c k (Nat.le_trans hk hb),hb']
 cases Di c<;>cases Ahl c<;>cases J9 c.writes.length (fun i=>!Qf l c.writes i)<;>rfl
theorem Bfh (a0:List TGroup) (a1:TChange) (hp:∀p∈Aih a0 a1,p):CallOk Try.prog 171 [.sl .group a0,Af .change a1] 0 [] 1 (Apt a0 a1) 0 (Apr a0 a1):=by
 have hb:Ar a1.writes.length:=hp _ (List.mem_cons_self ..)
 have hw:∀g∈a0,Ar g.1.size:=hp _ (List.mem_cons_of_mem _ (List.mem_cons_self ..))
 have h:=Bjk a0 a1 (Apq a0 a1 hb hw).1
 unfold Aeb at h
 rw[(Apq a0 a1 hb hw).2] at h
 exact h
def Azn:List A→Nat→Objs→Option A3:=Bg [.l .group,.t .change] 0 Apt Apr Aih
theorem A87:Fi Try.prog 171 Azn:=Aq (ks:=[.l .group,.t .change]) Bfh
noncomputable def Byi:=A4 171 Azn Baw
theorem Bqb:Dd Try.prog Byi:=Am A87 Atv
noncomputable def Cch:=Byi
theorem Bqc:Dd Try.prog Cch:=Bqb
end Go.Proofs.Yteebobbhhgmeiaa
