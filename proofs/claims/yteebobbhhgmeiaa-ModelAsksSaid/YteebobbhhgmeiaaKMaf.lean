/- made by a program (rowgen.py): ModelAsks: for every input the law returns true, and each argument reads behind the call as it read before. -/
import Derived.Test.YteebobbhhgmeiaaKMae

set_option maxRecDepth 100000
namespace Go.Proofs.Yteebobbhhgmeiaa
open Go.RowKit
def B10 (c:TC) (x:A):Option (U c×U c):=match Bxd c x with
 |some [a,b]=>some (a,b)
 |_=>none
theorem Bxe {c:TC} {x:A} {a b:U c} {F:Nat→Prop} {N:Nm} {nx:Nat} {R:World} {v:Value} (he:B10 c x=some (a,b)) (h:Hv F N nx R x v):Hv F N nx R (.sl c [a,b]) v:=by
 unfold B10 at he
 split at he<;>first|(cases he;done)|skip
 rename_i h1
 cases he
 exact Bnb h1 h
def Up (a0:TStamp) (a1:TStamp):Bool:=decide (a0.1 <a1.1)||a0.1==a1.1&&decide (a0.2 <a1.2)
def Ur (a0:TStamp) (a1:TStamp):A:=.v (.bool (Up a0 a1))
def Uq (_a0:TStamp) (_a1:TStamp):Objs:=[]
def RK (_a0:TStamp) (_a1:TStamp):List Prop:=[]
theorem A4r (a0:TStamp) (a1:TStamp):Er (Au Cl L0) 9 168 [Ae .stamp a0,Ae .stamp a1] 0 []=some (1,Ur a0 a1,0,Uq a0 a1,RK a0 a1):=by kernel_rfl
theorem Bbi (a0:TStamp) (a1:TStamp) (hp:∀p∈RK a0 a1,p):CallOk Try.prog 168 [Ae .stamp a0,Ae .stamp a1] 0 [] 1 (Ur a0 a1) 0 (Uq a0 a1):=Az (Ap Bcf Ay) (A4r a0 a1) hp
def Aje:List A→Nat→Objs→Option AU:=A5 [.t .stamp,.t .stamp] 0 Ur Uq RK
theorem A1u:Ev Try.prog 168 Aje:=As (ks:=[.t .stamp,.t .stamp]) Bbi
noncomputable def B1o:=AQ 168 Aje Cl
theorem Bmr:Cp Try.prog B1o:=Ak A1u Bcf
def Aw (a0:TCell):TCell:=TCell.mk a0.1 a0.2 a0.3 a0.4 (TVec.mk (0:Int) (0:Int))
def TP (a0:TCell):A:=.v (.agg ⟨[.int .i64 ((Aw a0).stamp.n),.int .i64 ((Aw a0).stamp.site),.int .i64 ((Aw a0).vec.a),.int .i64 ((Aw a0).vec.b),.bool ((Aw a0).gone),.string ((Aw a0).value),.int .i64 ((Aw a0).dead.a),.int .i64 ((Aw a0).dead.b)]⟩)
def TO (_a0:TCell):Objs:=[]
def Rb (_a0:TCell):List Prop:=[]
theorem A2t (a0:TCell):Er (Au B1o L0) 9 167 [Ae .cell a0] 0 []=some (1,TP a0,0,TO a0,Rb a0):=by kernel_rfl
theorem A8p (a0:TCell) (hp:∀p∈Rb a0,p):CallOk Try.prog 167 [Ae .cell a0] 0 [] 1 (TP a0) 0 (TO a0):=Az (Ap Bmr Ay) (A2t a0) hp
def Agc:List A→Nat→Objs→Option AU:=A5 [.t .cell] 0 TP TO Rb
theorem Awp:Ev Try.prog 167 Agc:=As (ks:=[.t .cell]) A8p
noncomputable def B1p:=AQ 167 Agc B1o
theorem Bms:Cp Try.prog B1p:=Ak Awp Bmr
def N4 (a0:TCell) (a1:TCell):Bool:=!(Aw a0).4.toList==(Aw a1).4.toList
def TN (a0:TCell) (a1:TCell):Bool:=!((Aw a0).1.1==(Aw a1).1.1&&(Aw a0).1.2==(Aw a1).1.2)
def N3 (a0:TCell) (a1:TCell):Bool:=(Aw a0).1.1==(Aw a1).1.1&&(Aw a0).1.2==(Aw a1).1.2&&((Aw a0).2.1==(Aw a1).2.1&&(Aw a0).2.2==(Aw a1).2.2&&((Aw a0).3==(Aw a1).3&&((Aw a0).4.toList==(Aw a1).4.toList&&((Aw a0).5.1==(Aw a1).5.1&&(Aw a0).5.2==(Aw a1).5.2))))
def Wj (a0:TCell) (a1:TCell):Bool:=bif(N3 a0 a1)||((TN a0 a1)||(!(Aw a0).3==(Aw a1).3||((N4 a0 a1)||(Aw a0).2.1 !=(Aw a1).2.1))) then bif(N3 a0 a1) then false else bif(TN a0 a1) then Up (Aw a0).1 (Aw a1).1 else bif !(Aw a0).3==(Aw a1).3 then(Aw a1).3 else bif(N4 a0 a1) then Op.bytesLess (Aw a0).4.toList (Aw a1).4.toList else decide ((Aw a0).2.1 <(Aw a1).2.1) else decide ((Aw a0).2.2 <(Aw a1).2.2)
def Wk (a0:TCell) (a1:TCell):A:=.v (.bool (Wj a0 a1))
def Aod (_a0:TCell) (_a1:TCell):Objs:=[]
def Aga (_a0:TCell) (_a1:TCell):List Prop:=[]
theorem A8o (a0:TCell) (a1:TCell):Er (Au B1p L0) 9 138 [Ae .cell a0,Ae .cell a1] 0 []=some (1,Wk a0 a1,0,Aod a0 a1,Aga a0 a1):=by kernel_rfl
theorem Bes (a0:TCell) (a1:TCell) (hp:∀p∈Aga a0 a1,p):CallOk Try.prog 138 [Ae .cell a0,Ae .cell a1] 0 [] 1 (Wk a0 a1) 0 (Aod a0 a1):=Az (Ap Bms Ay) (A8o a0 a1) hp
def Agb (a0:TCell) (a1:TCell):A:=.v (.bool (Jg a0 a1))
def Af9 (_a0:TCell) (_a1:TCell):Objs:=[]
def Zu (_a0:TCell) (_a1:TCell):List Prop:=[]
theorem A8n (a b:TCell):Wj a b=Jg a b:=by
 have e0:N3 a b=((a.stamp.n==b.stamp.n&&a.stamp.site==b.stamp.site)&&((a.vec.a==b.vec.a&&a.vec.b==b.vec.b)&&(a.gone==b.gone&&((a.value==b.value)&&true)))):=by
  unfold N3
  rw[tlb]
  rfl
 have e1:TN a b=!(a.stamp.n==b.stamp.n&&a.stamp.site==b.stamp.site):=rfl
 have e2:N4 a b=!(a.value==b.value):=by
  unfold N4
  rw[tlb]
  rfl
 unfold Wj Jg Up
 rw[e0,e1,e2]
 show(bif _||(_||(!(a.gone==b.gone)||(_||!(a.vec.a==b.vec.a)))) then bif _ then false else bif _ then(decide (a.stamp.n <b.stamp.n)||a.stamp.n==b.stamp.n&&decide (a.stamp.site <b.stamp.site)) else bif !(a.gone==b.gone) then b.gone else bif _ then Jy a.value b.value else decide (a.vec.a <b.vec.a) else decide (a.vec.b <b.vec.b))=(bif _ then _ else bif !(a.gone==b.gone) then b.gone else bif _ then Jy a.value b.value else bif !(a.vec.a==b.vec.a) then decide (a.vec.a <b.vec.a) else decide (a.vec.b <b.vec.b))
 have hb:(a.vec.b==b.vec.b)=true→decide (a.vec.b <b.vec.b)=false:=fun h=>decide_eq_false (by have:a.vec.b=b.vec.b:=eq_of_beq h;omega)
 revert hb
 generalize (a.stamp.n==b.stamp.n&&a.stamp.site==b.stamp.site)=q1
 generalize (a.gone==b.gone)=q2
 generalize (a.value==b.value)=q3
 generalize (a.vec.a==b.vec.a)=q4
 generalize (a.vec.b==b.vec.b)=q5
 generalize decide (a.vec.b <b.vec.b)=q6
 cases q1<;>cases q2<;>cases q3<;>cases q4<;>cases q5<;>cases q6<;>simp
theorem A8m (a0:TCell) (a1:TCell) (_hp:∀p∈Zu a0 a1,p):CallOk Try.prog 138 [Ae .cell a0,Ae .cell a1] 0 [] 1 (Agb a0 a1) 0 (Af9 a0 a1):=by
 have h:=Bes a0 a1 (fun _ h=>by cases h)
 unfold Wk at h
 rw[A8n] at h
 exact h
def Aoe:List A→Nat→Objs→Option AU:=A5 [.t .cell,.t .cell] 0 Agb Af9 Zu
theorem A2s:Ev Try.prog 138 Aoe:=As (ks:=[.t .cell,.t .cell]) A8m
noncomputable def B1q:=AQ 138 Aoe B1p
theorem Bmt:Cp Try.prog B1q:=Ak A2s Bms
def Acw (a0:TStamp) (a1:TStamp):Bool:=bif a0.1 !=a1.1 then decide (a0.1 <a1.1) else decide (a0.2 <a1.2)
def Acy (a0:TStamp) (a1:TStamp):A:=.v (.bool (Acw a0 a1))
def Acx (_a0:TStamp) (_a1:TStamp):Objs:=[]
def Xw (_a0:TStamp) (_a1:TStamp):List Prop:=[]
theorem Bfv (a0:TStamp) (a1:TStamp):Er (Au B1q L0) 9 173 [Ae .stamp a0,Ae .stamp a1] 0 []=some (1,Acy a0 a1,0,Acx a0 a1,Xw a0 a1):=by kernel_rfl
theorem Bj4 (a0:TStamp) (a1:TStamp) (hp:∀p∈Xw a0 a1,p):CallOk Try.prog 173 [Ae .stamp a0,Ae .stamp a1] 0 [] 1 (Acy a0 a1) 0 (Acx a0 a1):=Az (Ap Bmt Ay) (Bfv a0 a1) hp
def Ayw:List A→Nat→Objs→Option AU:=A5 [.t .stamp,.t .stamp] 0 Acy Acx Xw
theorem A92:Ev Try.prog 173 Ayw:=As (ks:=[.t .stamp,.t .stamp]) Bj4
noncomputable def B1r:=AQ 173 Ayw B1q
theorem Bmu:Cp Try.prog B1r:=Ak A92 Bmt
def IB (a0:TCell) (a1:TCell):Bool:=bif !(a0.1.1==a1.1.1&&a0.1.2==a1.1.2) then Acw a0.1 a1.1 else bif !a0.3==a1.3 then a1.3 else bif !a0.4.toList==a1.4.toList then Op.bytesLess a0.4.toList a1.4.toList else bif a0.2.1 !=a1.2.1 then decide (a0.2.1 <a1.2.1) else decide (a0.2.2 <a1.2.2)
def Ade (a0:TCell) (a1:TCell):A:=.v (.bool (IB a0 a1))
def Adc (_a0:TCell) (_a1:TCell):Objs:=[]
def XH (_a0:TCell) (_a1:TCell):List Prop:=[]
theorem Bgb (a0:TCell) (a1:TCell):Er (Au B1r L0) 9 166 [Ae .cell a0,Ae .cell a1] 0 []=some (1,Ade a0 a1,0,Adc a0 a1,XH a0 a1):=by kernel_rfl
theorem Bke (a0:TCell) (a1:TCell) (hp:∀p∈XH a0 a1,p):CallOk Try.prog 166 [Ae .cell a0,Ae .cell a1] 0 [] 1 (Ade a0 a1) 0 (Adc a0 a1):=Az (Ap Bmu Ay) (Bgb a0 a1) hp
def Azi:List A→Nat→Objs→Option AU:=A5 [.t .cell,.t .cell] 0 Ade Adc XH
theorem Bac:Ev Try.prog 166 Azi:=As (ks:=[.t .cell,.t .cell]) Bke
noncomputable def B1s:=AQ 166 Azi B1r
theorem Bmv:Cp Try.prog B1s:=Ak Bac Bmu
def IX (a0:TCell) (a1:TCell):TCell:=TCell.mk (TStamp.mk (bif IB a0 a1 then a1.1.1 else a0.1.1) (bif IB a0 a1 then a1.1.2 else a0.1.2)) (TVec.mk (bif IB a0 a1 then a1.2.1 else a0.2.1) (bif IB a0 a1 then a1.2.2 else a0.2.2)) (bif IB a0 a1 then a1.3 else a0.3) (bif IB a0 a1 then a1.4 else a0.4) (SY a0.5 a1.5)
def Al1 (a0:TCell) (a1:TCell):A:=.v (.agg ⟨[.int .i64 ((IX a0 a1).stamp.n),.int .i64 ((IX a0 a1).stamp.site),.int .i64 ((IX a0 a1).vec.a),.int .i64 ((IX a0 a1).vec.b),.bool ((IX a0 a1).gone),.string ((IX a0 a1).value),.int .i64 ((IX a0 a1).dead.a),.int .i64 ((IX a0 a1).dead.b)]⟩)
def A59 (_a0:TCell) (_a1:TCell):Objs:=[]
def Azk (_a0:TCell) (_a1:TCell):List Prop:=[]
theorem Bkh (a0:TCell) (a1:TCell):Er (Au B1s L0) 9 135 [Ae .cell a0,Ae .cell a1] 0 []=some (1,Al1 a0 a1,0,A59 a0 a1,Azk a0 a1):=by kernel_rfl
theorem Bp0 (a0:TCell) (a1:TCell) (hp:∀p∈Azk a0 a1,p):CallOk Try.prog 135 [Ae .cell a0,Ae .cell a1] 0 [] 1 (Al1 a0 a1) 0 (A59 a0 a1):=Az (Ap Bmv Ay) (Bkh a0 a1) hp
def Azl (a0:TCell) (a1:TCell):A:=.v (.agg ⟨[.int .i64 ((JV a0 a1).stamp.n),.int .i64 ((JV a0 a1).stamp.site),.int .i64 ((JV a0 a1).vec.a),.int .i64 ((JV a0 a1).vec.b),.bool ((JV a0 a1).gone),.string ((JV a0 a1).value),.int .i64 ((JV a0 a1).dead.a),.int .i64 ((JV a0 a1).dead.b)]⟩)
def Azj (_a0:TCell) (_a1:TCell):Objs:=[]
def Apm (_a0:TCell) (_a1:TCell):List Prop:=[]
theorem Bfu (a b:TStamp):Acw a b=(decide (a.n <b.n)||a.n==b.n&&decide (a.site <b.site)):=by
 show(bif !(a.n==b.n) then decide (a.n <b.n) else decide (a.site <b.site))=_
 by_cases h:a.n=b.n
 ·rw[beq_iff_eq.2 h,decide_eq_false (p:=a.n <b.n) (by omega)]
  simp
 ·rw[beq_eq_false_iff_ne.2 h]
  simp
theorem Bga (a b:TCell):IB a b=Jg a b:=by
 unfold IB Jg
 rw[Bfu,tlb]
 rfl
theorem Bkg (a b:TCell):IX a b=JV a b:=by
 unfold IX JV Hp
 rw[Bga]
 cases Jg a b<;>rfl
theorem Bkf (a0:TCell) (a1:TCell) (_hp:∀p∈Apm a0 a1,p):CallOk Try.prog 135 [Ae .cell a0,Ae .cell a1] 0 [] 1 (Azl a0 a1) 0 (Azj a0 a1):=by
 have h:=Bp0 a0 a1 (fun _ h=>by cases h)
 unfold Al1 at h
 rw[Bkg] at h
 exact h
def A6a:List A→Nat→Objs→Option AU:=A5 [.t .cell,.t .cell] 0 Azl Azj Apm
theorem Bgc:Ev Try.prog 135 A6a:=As (ks:=[.t .cell,.t .cell]) Bkf
noncomputable def B1t:=AQ 135 A6a B1s
theorem Bmw:Cp Try.prog B1t:=Ak Bgc Bmv
def OT (a0:TCell) (a1:TCell):A:=.v (.bool (Jg a0 a1))
def OS (_a0:TCell) (_a1:TCell):Objs:=[]
def Na (_a0:TCell) (_a1:TCell):List Prop:=[]
theorem Ar0 (a0:TCell) (a1:TCell):Er (Au B1t L0) 9 137 [Ae .cell a0,Ae .cell a1] 0 []=some (1,OT a0 a1,0,OS a0 a1,Na a0 a1):=by kernel_rfl
theorem Awo (a0:TCell) (a1:TCell) (hp:∀p∈Na a0 a1,p):CallOk Try.prog 137 [Ae .cell a0,Ae .cell a1] 0 [] 1 (OT a0 a1) 0 (OS a0 a1):=Az (Ap Bmw Ay) (Ar0 a0 a1) hp
def Wg:List A→Nat→Objs→Option AU:=A5 [.t .cell,.t .cell] 0 OT OS Na
theorem Akk:Ev Try.prog 137 Wg:=As (ks:=[.t .cell,.t .cell]) Awo
noncomputable def B1u:=AQ 137 Wg B1t
theorem Bmx:Cp Try.prog B1u:=Ak Akk Bmw
noncomputable def B1v:=AQ 136 (inl (Au B1u L0) 4 136) B1u
theorem Bmy:Cp Try.prog B1v:=Ak (TL (Ap Bmx Ay) 4 136) Bmx
def BM (a0:TCell) (b0:TCell):Bool:=Jg (TCell.mk (TStamp.mk (0:Int) (0:Int)) (TVec.mk (0:Int) (0:Int)) false (ByteArray.mk #[]) (TVec.mk (0:Int) (0:Int))) ([a0,b0].getD (0:Nat) (Ac TC.cell))
def Hn (a0:TCell) (b0:TCell):Bool:=Jg (TCell.mk (TStamp.mk (bif(BM a0 b0) then([a0,b0].getD (0:Nat) (Ac TC.cell)).1.1 else(0:Int)) (bif(BM a0 b0) then([a0,b0].getD (0:Nat) (Ac TC.cell)).1.2 else(0:Int))) (TVec.mk (bif(BM a0 b0) then([a0,b0].getD (0:Nat) (Ac TC.cell)).2.1 else(0:Int)) (bif(BM a0 b0) then([a0,b0].getD (0:Nat) (Ac TC.cell)).2.2 else(0:Int))) (bif(BM a0 b0) then([a0,b0].getD (0:Nat) (Ac TC.cell)).3 else false) (bif(BM a0 b0) then([a0,b0].getD (0:Nat) (Ac TC.cell)).4 else ByteArray.mk #[]) (TVec.mk (bif(BM a0 b0) then([a0,b0].getD (0:Nat) (Ac TC.cell)).5.1 else(0:Int)) (bif(BM a0 b0) then([a0,b0].getD (0:Nat) (Ac TC.cell)).5.2 else(0:Int)))) ([a0,b0].getD (1:Nat) (Ac TC.cell))
def Gb (a0:TCell) (b0:TCell):TCell:=TCell.mk (TStamp.mk (bif(Hn a0 b0) then([a0,b0].getD (1:Nat) (Ac TC.cell)).1.1 else bif(BM a0 b0) then([a0,b0].getD (0:Nat) (Ac TC.cell)).1.1 else(0:Int)) (bif(Hn a0 b0) then([a0,b0].getD (1:Nat) (Ac TC.cell)).1.2 else bif(BM a0 b0) then([a0,b0].getD (0:Nat) (Ac TC.cell)).1.2 else(0:Int))) (TVec.mk (bif(Hn a0 b0) then([a0,b0].getD (1:Nat) (Ac TC.cell)).2.1 else bif(BM a0 b0) then([a0,b0].getD (0:Nat) (Ac TC.cell)).2.1 else(0:Int)) (bif(Hn a0 b0) then([a0,b0].getD (1:Nat) (Ac TC.cell)).2.2 else bif(BM a0 b0) then([a0,b0].getD (0:Nat) (Ac TC.cell)).2.2 else(0:Int))) (bif(Hn a0 b0) then([a0,b0].getD (1:Nat) (Ac TC.cell)).3 else bif(BM a0 b0) then([a0,b0].getD (0:Nat) (Ac TC.cell)).3 else false) (bif(Hn a0 b0) then([a0,b0].getD (1:Nat) (Ac TC.cell)).4 else bif(BM a0 b0) then([a0,b0].getD (0:Nat) (Ac TC.cell)).4 else ByteArray.mk #[]) (TVec.mk (max (max (0:Int) ((((List.replicate (2:Nat) (Ac TC.vec)).set (0:Nat) ([a0,b0].getD (0:Nat) (Ac TC.cell)).5).set (1:Nat) ([a0,b0].getD (1:Nat) (Ac TC.cell)).5).getD (0:Nat) (Ac TC.vec)).1) ((((List.replicate (2:Nat) (Ac TC.vec)).set (0:Nat) ([a0,b0].getD (0:Nat) (Ac TC.cell)).5).set (1:Nat) ([a0,b0].getD (1:Nat) (Ac TC.cell)).5).getD (1:Nat) (Ac TC.vec)).1) (max (max (0:Int) ((((List.replicate (2:Nat) (Ac TC.vec)).set (0:Nat) ([a0,b0].getD (0:Nat) (Ac TC.cell)).5).set (1:Nat) ([a0,b0].getD (1:Nat) (Ac TC.cell)).5).getD (0:Nat) (Ac TC.vec)).2) ((((List.replicate (2:Nat) (Ac TC.vec)).set (0:Nat) ([a0,b0].getD (0:Nat) (Ac TC.cell)).5).set (1:Nat) ([a0,b0].getD (1:Nat) (Ac TC.cell)).5).getD (1:Nat) (Ac TC.vec)).2))
def Wh (a0:TCell) (b0:TCell):A:=.v (.agg ⟨[.int .i64 ((Gb a0 b0).stamp.n),.int .i64 ((Gb a0 b0).stamp.site),.int .i64 ((Gb a0 b0).vec.a),.int .i64 ((Gb a0 b0).vec.b),.bool ((Gb a0 b0).gone),.string ((Gb a0 b0).value),.int .i64 ((Gb a0 b0).dead.a),.int .i64 ((Gb a0 b0).dead.b)]⟩)
def Aoc (_a0:TCell) (_b0:TCell):Objs:=[]
def A8l (_a0:TCell) (_b0:TCell):List Prop:=[]
theorem A8k (a0:TCell) (b0:TCell):Er (Au B1v L0) 9 75 [.sl .cell [a0,b0]] 0 []=some (1,Wh a0 b0,0,Aoc a0 b0,[((0:Int)≤(0:Int)∧(0:Int) <(↑(2:Nat):Int)),((0:Int)≤(1:Int)∧(1:Int) <(↑(2:Nat):Int)),((0:Int)≤(↑(2:Nat):Int)∧(↑(2:Nat):Int)≤(↑(2:Nat):Int)∧(↑(2:Nat):Int)≤(549755813888:Int)),((0:Int)≤(0:Int)∧(0:Int) <(↑(2:Nat):Int)),((0:Int)≤(0:Int)∧(0:Int) <(↑(2:Nat):Int)),((0:Nat) <(2:Nat)),((0:Int)≤(1:Int)∧(1:Int) <(↑(2:Nat):Int)),((0:Int)≤(1:Int)∧(1:Int) <(↑(2:Nat):Int)),((1:Nat) <(2:Nat)),((0:Int)≤(0:Int)∧(0:Int) <(↑(2:Nat):Int)),((0:Nat) <(2:Nat)),((0:Int)≤(0:Int)∧(0:Int) <(2:Int)),((0:Nat) <(2:Nat)),((0:Int)≤(0:Int)∧(0:Int) <(2:Int)),((0:Nat) <(2:Nat)),((0:Int)≤(0:Int)∧(0:Int) <(2:Int)),((0:Nat) <(2:Nat)),((0:Int)≤(1:Int)∧(1:Int) <(2:Int)),((1:Nat) <(2:Nat)),((0:Int)≤(1:Int)∧(1:Int) <(2:Int)),((1:Nat) <(2:Nat)),((0:Int)≤(1:Int)∧(1:Int) <(2:Int)),((1:Nat) <(2:Nat)),((0:Int)≤(1:Int)∧(1:Int) <(↑(2:Nat):Int)),((1:Nat) <(2:Nat)),((0:Int)≤(0:Int)∧(0:Int) <(2:Int)),((0:Nat) <(2:Nat)),((0:Int)≤(0:Int)∧(0:Int) <(2:Int)),((0:Nat) <(2:Nat)),((0:Int)≤(0:Int)∧(0:Int) <(2:Int)),((0:Nat) <(2:Nat)),((0:Int)≤(1:Int)∧(1:Int) <(2:Int)),((1:Nat) <(2:Nat)),((0:Int)≤(1:Int)∧(1:Int) <(2:Int)),((1:Nat) <(2:Nat)),((0:Int)≤(1:Int)∧(1:Int) <(2:Int)),((1:Nat) <(2:Nat))]):=by kernel_rfl
theorem Ber (a0:TCell) (b0:TCell) (_hp:∀p∈A8l a0 b0,p):CallOk Try.prog 75 [.sl .cell [a0,b0]] 0 [] 1 (Wh a0 b0) 0 (Aoc a0 b0):=by
 have n0:((0:Int)≤(0:Int)∧(0:Int) <(↑(2:Nat):Int)):=by first|rfl|decide+kernel
 have n1:((0:Int)≤(1:Int)∧(1:Int) <(↑(2:Nat):Int)):=by first|rfl|decide+kernel
 have n2:((0:Int)≤(↑(2:Nat):Int)∧(↑(2:Nat):Int)≤(↑(2:Nat):Int)∧(↑(2:Nat):Int)≤(549755813888:Int)):=by first|rfl|decide+kernel
 have n5:((0:Nat) <(2:Nat)):=by first|rfl|decide+kernel
 have n8:((1:Nat) <(2:Nat)):=by first|rfl|decide+kernel
 have n11:((0:Int)≤(0:Int)∧(0:Int) <(2:Int)):=by first|rfl|decide+kernel
 have n17:((0:Int)≤(1:Int)∧(1:Int) <(2:Int)):=by first|rfl|decide+kernel
 exact Az (Ap Bmy Ay) (A8k a0 b0) (Aa n0 (Aa n1 (Aa n2 (Aa n0 (Aa n0 (Aa n5 (Aa n1 (Aa n1 (Aa n8 (Aa n0 (Aa n5 (Aa n11 (Aa n5 (Aa n11 (Aa n5 (Aa n11 (Aa n5 (Aa n17 (Aa n8 (Aa n17 (Aa n8 (Aa n17 (Aa n8 (Aa n1 (Aa n8 (Aa n11 (Aa n5 (Aa n11 (Aa n5 (Aa n11 (Aa n5 (Aa n17 (Aa n8 (Aa n17 (Aa n8 (Aa n17 (Aa n8 Ad)))))))))))))))))))))))))))))))))))))
def Af8 (a0:TCell) (a1:TCell):A:=.v (.agg ⟨[.int .i64 ((Lb a0 a1).stamp.n),.int .i64 ((Lb a0 a1).stamp.site),.int .i64 ((Lb a0 a1).vec.a),.int .i64 ((Lb a0 a1).vec.b),.bool ((Lb a0 a1).gone),.string ((Lb a0 a1).value),.int .i64 ((Lb a0 a1).dead.a),.int .i64 ((Lb a0 a1).dead.b)]⟩)
def Af7 (_a0:TCell) (_a1:TCell):Objs:=[]
def Zt (_a0:TCell) (_a1:TCell):List Prop:=[]
theorem A8j (a b:TCell):Gb a b=Lb a b:=by
 have h1:BM a b=Jg zeroC a:=rfl
 have h0:Hn a b=Jg (Hp zeroC a) b:=by
  unfold Hn
  rw[h1]
  unfold Hp
  cases Jg zeroC a<;>rfl
 unfold Gb
 rw[h0,h1]
 have hm:Hp (Hp zeroC a) b=bif Jg (Hp zeroC a) b then b else Hp zeroC a:=rfl
 have hz:Hp zeroC a=bif Jg zeroC a then a else zeroC:=rfl
 unfold Lb
 rw[hm]
 cases Jg (Hp zeroC a) b with
 |true=>rfl
 |false=>
  rw[hz]
  cases Jg zeroC a<;>rfl
theorem A8i (a0:TCell) (b0:TCell) (_hp:∀p∈Zt a0 b0,p):CallOk Try.prog 75 [.sl .cell [a0,b0]] 0 [] 1 (Af8 a0 b0) 0 (Af7 a0 b0):=by
 have h:=Ber a0 b0 (fun _ h=>by cases h)
 unfold Wh at h
 rw[A8j] at h
 exact h
def Wi:List A→Nat→Objs→Option AU
 | [y0],nx,o=>match B10 .cell y0 with
  |some (a0,b0)=>some (1,(Af8 a0 b0).pk (Yj nx),nx+0,Yi nx (Af7 a0 b0)++o,Zt a0 b0)
  |_=>none
 |_,_,_=>none
theorem A2r:Ev Try.prog 75 Wi:=fun args nx o k x nx' o' ps h=>by
 unfold Wi at h
 split at h<;>first|(cases h;done)|skip
 split at h<;>first|(cases h;done)|skip
 rename_i a0 b0 e0
 cases h
 refine⟨fun hp=>?_,_,rfl⟩
 refine Anu (Ae1 (A8i a0 b0 hp) (Nat.le_refl _) (LS rfl R7) nx o) fun F N R vs hl=>?_
 obtain⟨v0,w0,rfl,h0,hl⟩:=hl.inv
 exact HL.cons (Bxe e0 h0) (hl)
noncomputable def B26:=AQ 75 Wi B1v
theorem Bw1:Cp Try.prog B26:=Ak A2r Bmy
noncomputable def Cq:=B26
theorem B27:Cp Try.prog Cq:=Bw1
end Go.Proofs.Yteebobbhhgmeiaa
namespace Go.Proofs.Yteebobbhhgmeiaa
open Go.RowKit
def wrE (l:List TGroup) (r:TRow) (g:Int) (c:TCell):Int:=bif Ai l r !=0 then Ai l r else bif decide (g <0)||decide (g≥(l.length:Int)) then 70 else bif !Bo (Acl l g.toNat) c then 80 else 0
def B4o (xs:List TCell) (g:Nat) (c:TCell):List TCell:=xs.set g (Lb (HE xs g) c)
end Go.Proofs.Yteebobbhhgmeiaa
namespace Go.Proofs.Yteebobbhhgmeiaa
open Go.RowKit
noncomputable def B28:=AQ 60 Wr Cq
theorem Bw2:Cp Try.prog B28:=Ak Zw B27
noncomputable def B1w:=AQ 61 Aoj B28
theorem Bmz:Cp Try.prog B1w:=Ak A2u Bw2
def Hq (a0:List TGroup) (_a1:Int):Bool:=AP a0 !=(0:Int)
def Dq (a0:List TGroup) (a1:Int):Bool:=decide (a1 <(0:Int))||decide (a1≥(↑a0.length:Int))
def CH (a0:List TGroup) (a1:Int):Int:=bif(Hq a0 a1) then(0:Int) else bif(Dq a0 a1) then(0:Int) else(a0.getD a1.toNat (Ac TC.group)).2
def Jj (a0:List TGroup) (a1:Int):Int:=bif(Hq a0 a1) then AP a0 else bif(Dq a0 a1) then(70:Int) else(0:Int)
def Xm (a0:List TGroup) (a1:Int):A:=.v (.tuple ⟨[.int .i64 (CH a0 a1),.int .i64 (Jj a0 a1)]⟩)
def Xl (_a0:List TGroup) (_a1:Int):Objs:=[]
def Ua (a0:List TGroup) (a1:Int):List Prop:=[((!(Hq a0 a1))=true→(!(Dq a0 a1))=true→(0:Int)≤a1∧a1 <(↑a0.length:Int))]
theorem A9w (a0:List TGroup) (a1:Int):Er (Au B1w L0) 9 134 [.sl .group a0,Ae .i64 a1] 0 []=some (1,Xm a0 a1,0,Xl a0 a1,Ua a0 a1):=by kernel_rfl
theorem Bfq (a0:List TGroup) (a1:Int) (hp:∀p∈Ua a0 a1,p):CallOk Try.prog 134 [.sl .group a0,Ae .i64 a1] 0 [] 1 (Xm a0 a1) 0 (Xl a0 a1):=Az (Ap Bmz Ay) (A9w a0 a1) hp
def Ao5:List A→Nat→Objs→Option AU:=A5 [.l .group,.t .i64] 0 Xm Xl Ua
theorem A3n:Ev Try.prog 134 Ao5:=As (ks:=[.l .group,.t .i64]) Bfq
noncomputable def B1x:=AQ 134 Ao5 B1w
theorem Bm0:Cp Try.prog B1x:=Ak A3n Bmz
def HD (a0:TRow):List TCell:=List.replicate (↑a0.2.length:Int).toNat (Ac TC.cell)
def Uj (a0:TRow):List TCell:=List.take (0:Nat) (HD a0)++(List.take (HD a0).length a0.2++List.drop ((0:Nat)+(HD a0).length.min a0.2.length) (HD a0))
def Ai4 (a0:TRow):A:=.agg [.v (.string a0.1),.sq 0]
def Uk (a0:TRow):Objs:=[(0,some (.arr 55 8 (.ty .cell (Uj a0))))]
def Aa6 (a0:TRow):List Prop:=[((0:Int)≤(↑a0.2.length:Int)∧(↑a0.2.length:Int)≤(↑a0.2.length:Int)∧(↑a0.2.length:Int)≤(549755813888:Int))]
theorem A4j (a0:TRow):Er (Au B1x L0) 9 133 [Ae .row a0] 0 []=some (1,Ai4 a0,1,Uk a0,Aa6 a0):=by kernel_rfl
theorem Ba8 (a0:TRow) (hp:∀p∈Aa6 a0,p):CallOk Try.prog 133 [Ae .row a0] 0 [] 1 (Ai4 a0) 1 (Uk a0):=Az (Ap Bm0 Ay) (A4j a0) hp
def Aa7 (a0:TRow):A:=.agg [.v (.string a0.1),.sq 0]
def Aa5 (a0:TRow):Objs:=[(0,some (.arr 55 8 (.ty .cell a0.2)))]
def Yf (a0:TRow):List Prop:=[Ag a0.2.length]
theorem A4i (a:TRow):Uj a=a.2:=by
 have hk:(HD a).length=a.2.length:=by
  unfold HD
  simp
 unfold Uj
 rw[hk,List.take_length,List.take_zero,List.nil_append]
 have:List.drop (0+a.2.length.min a.2.length) (HD a)=[]:=List.drop_eq_nil_of_le (by rw[hk];show a.2.length≤0+min a.2.length a.2.length;omega)
 rw[this,List.append_nil]
theorem A4h (a0:TRow) (hp:∀p∈Yf a0,p):CallOk Try.prog 133 [Ae .row a0] 0 [] 1 (Aa7 a0) 1 (Aa5 a0):=by
 have hb:Ag a0.2.length:=hp _ (List.mem_cons_self ..)
 unfold Ag at hb
 have h:=Ba8 a0 (Aa (by omega) Ad)
 unfold Uk at h
 rw[A4i] at h
 exact h
def Ai5:List A→Nat→Objs→Option AU:=A5 [.t .row] 1 Aa7 Aa5 Yf
theorem A1l:Ev Try.prog 133 Ai5:=As (ks:=[.t .row]) A4h
noncomputable def Bsu:=AQ 133 Ai5 B1x
theorem A7i:Cp Try.prog Bsu:=Ak A1l Bm0
abbrev CS:Type:=(List TCell)×Int×Int×ByteArray×(List TCell)
def MI (x:CS):St:=⟨60,9,[(11,.own 7 0),(39,.sl .cell x.1),(40,.v (.int .i64 x.2.1)),(41,.v (.int .i64 x.2.2.1))],[(7,some (.box 71 [.v (.string x.2.2.2.1),.sq 8])),(8,some (.arr 55 8 (.ty .cell x.2.2.2.2)))]⟩
def PF:St→Option CS
 |⟨60,9,[(11,.own 7 0),(39,.sl .cell z0),(40,.v (.int .i64 z1)),(41,.v (.int .i64 z2))],[(7,some (.box 71 [.v (.string z3),.sq 8])),(8,some (.arr 55 8 (.ty .cell z4)))]⟩=>some (z0,z1,z2,z3,z4)
 |_=>none
theorem Ana:∀s x,PF s=some x→s=MI x:=fun s x h=>by
 unfold PF at h
 split at h
 ·cases h;rfl
 ·cases h
def Aaz:CU:=⟨8,9,[11,39,40,41],[],[(7,7),(8,8)],[7,8],[],[7,8]⟩
def A4c:C9:=⟨[],[(7,7),(6,8)],[11,39,40,41],[7,6]⟩
def NG (a0:List TCell) (_a1:Int) (a2:Int) (_a3:ByteArray) (a4:List TCell):List TCell:=a4.set a2.toNat (Lb (a4.getD a2.toNat (Ac TC.cell)) (a0.getD a2.toNat (Ac TC.cell)))
def EY (x:CS):CS:=(x.1,x.2.1,IntKind.i64.wrap (x.2.2.1+(1:Int)),x.2.2.2.1,NG x.1 x.2.1 x.2.2.1 x.2.2.2.1 x.2.2.2.2)
def EX (x:CS):Cnd:=some (!!decide (x.2.2.1 <x.2.1))
def Vq (x:CS):List Prop:=[((!!decide (x.2.2.1 <x.2.1))=true→(0:Int)≤x.2.2.1∧x.2.2.1 <(↑x.1.length:Int)),((!!decide (x.2.2.1 <x.2.1))=true→(0:Int)≤x.2.2.1∧x.2.2.1 <(↑x.2.2.2.2.length:Int)),((!!decide (x.2.2.1 <x.2.1))=true→x.2.2.1.toNat <x.2.2.2.2.length),((!!decide (x.2.2.1 <x.2.1))=true→(0:Int)≤x.2.2.1∧x.2.2.1 <(↑x.2.2.2.2.length:Int)),((!!decide (x.2.2.1 <x.2.1))=true→x.2.2.1.toNat <x.2.2.2.2.length)]
def Ih (x:CS):List Prop:=[((!!decide (x.2.2.1 <x.2.1))=true→(0:Int)≤x.2.2.1∧x.2.2.1 <(↑x.1.length:Int)),((!!decide (x.2.2.1 <x.2.1))=true→(0:Int)≤x.2.2.1∧x.2.2.1 <(↑x.2.2.2.2.length:Int))]
def Ti (x:CS):Bb:=[(some 2,some (!decide (x.2.2.1 <x.2.1)),⟨60,9,[],[(7,some (.box 71 [.v (.string x.2.2.2.1),.sq 8])),(8,some (.arr 55 8 (.ty .cell x.2.2.2.2)))]⟩)]
def GF (x:CS):Nat:=(x.2.1 - x.2.2.1).toNat
def NH (x:CS):CS:=AZ EY EX (GF x) x
theorem A09 (a0:List TCell) (a1:Int) (a2:Int) (a3:ByteArray) (a4:List TCell):Bl (Au Bsu L0) 9 (Af Try.prog 71 2) Aaz (MI (a0,a1,a2,a3,a4))=some (Vq (a0,a1,a2,a3,a4),Ti (a0,a1,a2,a3,a4),EX (a0,a1,a2,a3,a4),MI (EY (a0,a1,a2,a3,a4))):=by kernel_rfl
theorem A1a (a0:List TCell) (a1:Int) (a2:Int) (a3:ByteArray) (a4:List TCell) (hp:∀p∈Ih (a0,a1,a2,a3,a4),p):∀p∈Vq (a0,a1,a2,a3,a4),p:=by
 have n0:=N0 hp
 have n1:((!!decide (a2 <a1))=true→(0:Int)≤a2∧a2 <(↑a4.length:Int)):=N0 (N1 hp)
 have n2:((!!decide (a2 <a1))=true→a2.toNat <a4.length):=by intro h0;have g:=n1 h0;omega
 exact(Aa n0 (Aa n1 (Aa n2 (Aa n1 (Aa n2 Ad)))))
noncomputable def Vr:=Hw (Au Bsu L0) (Af Try.prog 71 2) Aaz A4c PF GF EY EX Ih Ti
theorem At7:∀s b ps outs,Vr s=some (b,ps,outs)→Wf s ⟨ps,outs,none⟩∧Bh (Au C0 L0) b s ps outs:=
 A9 (T:=MI) A7i Ay (u:=9) (by kernel_rfl) (by decide) (fun⟨a0,a1,a2,a3,a4⟩=>A09 a0 a1 a2 a3 a4) (fun⟨a0,a1,a2,a3,a4⟩=>A1a a0 a1 a2 a3 a4) Ana (fun _=>AH (n:=60) rfl) fun _ _=>rfl
noncomputable def Aay:=Di 2 Vr L0
theorem At6:G1 Aay:=AS At7 Ay
def Fb (_a0:List TGroup) (a1:TRow) (a2:TRow):Bool:=!a1.1.toList==a2.1.toList
def Ir (a0:List TGroup) (a1:TRow) (_a2:TRow):Bool:=Ai a0 a1 !=(0:Int)
def Fa (a0:List TGroup) (a1:TRow) (a2:TRow):Bool:=(Ir a0 a1 a2)||Ai a0 a2 !=(0:Int)
def Ad9 (a0:List TGroup) (a1:TRow) (a2:TRow):ByteArray:=bif(Fa a0 a1 a2) then bif(Ir a0 a1 a2) then ByteArray.mk #[] else ByteArray.mk #[] else bif(Fb a0 a1 a2) then ByteArray.mk #[] else(NH (a2.2,(↑a2.2.length:Int),(0:Int),a1.1,a1.2)).snd.snd.snd.fst
def Aea (a0:List TGroup) (a1:TRow) (a2:TRow):Int:=bif(Fa a0 a1 a2) then bif(Ir a0 a1 a2) then Ai a0 a1 else Ai a0 a2 else bif(Fb a0 a1 a2) then(100:Int) else(0:Int)
def Aeb (a0:List TGroup) (a1:TRow) (a2:TRow):List TCell:=bif(Fa a0 a1 a2) then[] else bif(Fb a0 a1 a2) then[] else(NH (a2.2,(↑a2.2.length:Int),(0:Int),a1.1,a1.2)).snd.snd.snd.snd
def Aed (a0:List TGroup) (a1:TRow) (a2:TRow):A:=.tup [.agg [.v (.string (Ad9 a0 a1 a2)),.sq 0],.v (.int .i64 (Aea a0 a1 a2))]
def Aec (a0:List TGroup) (a1:TRow) (a2:TRow):Objs:=[(0,some (.arr 55 8 (.ty .cell (Aeb a0 a1 a2))))]
def Bhb (a0:List TGroup) (a1:TRow) (a2:TRow):List Prop:=[((!(Fa a0 a1 a2))=true→(!(Fb a0 a1 a2))=true→Ag a1.2.length),((!(Fa a0 a1 a2))=true→(!(Fb a0 a1 a2))=true→AD EY EX Ih (GF (a2.2,(↑a2.2.length:Int),(0:Int),a1.1,a1.2)) (a2.2,(↑a2.2.length:Int),(0:Int),a1.1,a1.2))]
theorem Bha (a0:List TGroup) (a1:TRow) (a2:TRow):Er (Au Bsu Aay) 9 71 [.sl .group a0,Ae .row a1,Ae .row a2] 0 []=some (1,Aed a0 a1 a2,1,Aec a0 a1 a2,[((0:Int)≤(0:Int)∧(0:Int) <(↑(2:Nat):Int)),((0:Nat) <(2:Nat)),((!(Ir a0 a1 a2))=true→(0:Int)≤(1:Int)∧(1:Int) <(↑(2:Nat):Int)),((!(Ir a0 a1 a2))=true→(1:Nat) <(2:Nat)),((!(Fa a0 a1 a2))=true→(!(Fb a0 a1 a2))=true→Ag a1.2.length),((!(Fa a0 a1 a2))=true→(!(Fb a0 a1 a2))=true→Af Try.prog (71:FuncId) (2:Nat)=Af Try.prog (71:FuncId) (2:Nat)),((!(Fa a0 a1 a2))=true→(!(Fb a0 a1 a2))=true→AD EY EX Ih (GF (a2.2,(↑a2.2.length:Int),(0:Int),a1.1,a1.2)) (a2.2,(↑a2.2.length:Int),(0:Int),a1.1,a1.2))]):=by kernel_rfl
theorem Bk6 (a0:List TGroup) (a1:TRow) (a2:TRow) (hp:∀p∈Bhb a0 a1 a2,p):CallOk Try.prog 71 [.sl .group a0,Ae .row a1,Ae .row a2] 0 [] 1 (Aed a0 a1 a2) 1 (Aec a0 a1 a2):=by
 have n0:((0:Int)≤(0:Int)∧(0:Int) <(↑(2:Nat):Int)):=by first|rfl|decide+kernel
 have n1:((0:Nat) <(2:Nat)):=by first|rfl|decide+kernel
 have n2:((!(Ir a0 a1 a2))=true→(0:Int)≤(1:Int)∧(1:Int) <(↑(2:Nat):Int)):=by omega
 have n3:((!(Ir a0 a1 a2))=true→(1:Nat) <(2:Nat)):=by omega
 have n4:=N0 hp
 have n5:((!(Fa a0 a1 a2))=true→(!(Fb a0 a1 a2))=true→Af Try.prog (71:FuncId) (2:Nat)=Af Try.prog (71:FuncId) (2:Nat)):=by intros;rfl
 have n6:=N0 (N1 hp)
 exact Az (Ap A7i At6) (Bha a0 a1 a2) (Aa n0 (Aa n1 (Aa n2 (Aa n3 (Aa n4 (Aa n5 (Aa n6 Ad)))))))
def jnK (l:List TGroup) (a b:TRow):ByteArray:=bif jnE l a b==0 then a.key else⟨#[]⟩
def jnL (l:List TGroup) (a b:TRow):List TCell:=bif jnE l a b==0 then jnN a.cells b.cells b.cells.length else[]
def Aq1 (a0:List TGroup) (a1:TRow) (a2:TRow):A:=.tup [.agg [.v (.string (jnK a0 a1 a2)),.sq 0],.v (.int .i64 (jnE a0 a1 a2))]
def Aq0 (a0:List TGroup) (a1:TRow) (a2:TRow):Objs:=[(0,some (.arr 55 8 (.ty .cell (jnL a0 a1 a2))))]
def Aiv (_a0:List TGroup) (_a1:TRow) (_a2:TRow):List Prop:=[]
theorem A4d (key:ByteArray) (us ws:List TCell) (hl:us.length=ws.length) (h4:ws.length≤4):
  AD EY EX Ih (GF (ws,(ws.length:Int),0,key,us)) (ws,(ws.length:Int),0,key,us)∧
  NH (ws,(ws.length:Int),0,key,us)=(ws,(ws.length:Int),(ws.length:Int),key,jnN us ws ws.length):=by
 obtain⟨h1,k,hk,hx,_,hst,_⟩:=Ij (fun i=>(ws,(ws.length:Int),(i:Int),key,jnN us ws i):Nat→CS) ws.length (fun _=>false) EY EX Ih (GF (ws,(ws.length:Int),0,key,us)) (ws,(ws.length:Int),0,key,us) rfl (by show ws.length≤((ws.length:Int) - 0).toNat;omega)
  (fun i _ _=>by
   show(!!decide ((i:Int) <(ws.length:Int)))=_
   rw[nn,Mp,Bool.not_false,Bool.and_true])
  (fun i hi _=>by
   show(ws,(ws.length:Int),IntKind.i64.wrap ((i:Int)+1),key,NG ws (ws.length:Int) (i:Int) key (jnN us ws i))=(ws,(ws.length:Int),((i+1:Nat):Int),key,jnN us ws (i+1))
   unfold NG
   rw[Eu (by omega),Int.toNat_natCast]
   rfl)
  (fun i hi _=>by
   have hin:(!!decide ((i:Int) <(ws.length:Int)))=true→i <ws.length:=fun h=>by rw[nn] at h;have:=of_decide_eq_true h;omega
   have hlen:=Af6 us ws i
   exact Aa (fun h=>⟨by show(0:Int)≤(i:Int);omega,by have:=hin h;show(i:Int) <(ws.length:Int);omega⟩) (Aa (fun h=>⟨by show(0:Int)≤(i:Int);omega,by have:=hin h;show(i:Int) <((jnN us ws i).length:Int);omega⟩) Ad))
 have hkn:k=ws.length:=by
  rcases Nat.lt_or_ge k ws.length with h|h
  ·exact absurd (hst h) (by decide)
  ·omega
 subst hkn
 exact⟨h1,hx⟩
theorem Bg9 (a0:List TGroup) (a1:TRow) (a2:TRow) (_hp:∀p∈Aiv a0 a1 a2,p):CallOk Try.prog 71 [.sl .group a0,Ae .row a1,Ae .row a2] 0 [] 1 (Aq1 a0 a1 a2) 1 (Aq0 a0 a1 a2):=by
 have hgood:(!(Fa a0 a1 a2))=true→Ai a0 a1=0∧Ai a0 a2=0:=fun h=>by
  have h':(!((Ai a0 a1 !=0)||(Ai a0 a2 !=0)))=true:=h
  rw[Bool.not_or,Bool.and_eq_true] at h'
  exact⟨by simpa using h'.1,by simpa using h'.2⟩
 have hloop:Ai a0 a1=0→Ai a0 a2=0→_:=fun g1 g2=>A4d a1.1 a1.2 a2.2 (((AM g1).2.1).trans ((AM g2).2.1).symm) (by have:=(G0 (AM g2).1).2;have:=(AM g2).2.1;show a2.cells.length≤4;omega)
 have h:=Bk6 a0 a1 a2 (Aa (fun h _=>by
   obtain⟨g1,_⟩:=hgood h
   have:=(G0 (AM g1).1).2
   have:=(AM g1).2.1
   show Ag a1.cells.length
   unfold Ag
   omega) (Aa (fun h _=>(hloop (hgood h).1 (hgood h).2).1) Ad))
 have e:Ad9 a0 a1 a2=jnK a0 a1 a2∧Aea a0 a1 a2=jnE a0 a1 a2∧Aeb a0 a1 a2=jnL a0 a1 a2:=by
  have k0:Fa a0 a1 a2=((Ai a0 a1 !=0)||(Ai a0 a2 !=0)):=rfl
  have k1:Ir a0 a1 a2=(Ai a0 a1 !=0):=rfl
  have k2:Fb a0 a1 a2=!(a1.key==a2.key):=by
   unfold Fb
   rw[tlb]
  unfold Ad9 Aea Aeb jnK jnL jnE
  rw[k0,k1,k2]
  cases g1:Ai a0 a1 !=0 with
  |true=>
   have:(Ai a0 a1==0)=false:=by simpa using g1
   rw[Bool.true_or,cond_true,cond_true,cond_true,cond_true,cond_true,this]
   refine⟨?_,?_,?_⟩<;>first|rfl|trivial
  | false=>
   cases g2:Ai a0 a2 !=0 with
   |true=>
    have:(Ai a0 a2==0)=false:=by simpa using g2
    rw[Bool.false_or]
    simp only[cond_true,cond_false,this]
    refine⟨?_,?_,?_⟩<;>first|rfl|trivial
   | false=>
    rw[Bool.false_or]
    simp only[cond_false]
    cases hk:a1.key==a2.key with
    |false=>refine⟨?_,?_,?_⟩<;>first|rfl|trivial
    |true=>
     rw[(hloop (by simpa using g1) (by simpa using g2)).2]
     refine⟨?_,?_,?_⟩<;>first|rfl|trivial
 unfold Aed Aec at h
 rw[e.1,e.2.1,e.2.2] at h
 exact h
def A1b:List A→Nat→Objs→Option AU:=A5 [.l .group,.t .row,.t .row] 1 Aq1 Aq0 Aiv
theorem Ba1:Ev Try.prog 71 A1b:=As (ks:=[.l .group,.t .row,.t .row]) Bg9
noncomputable def B1y:=AQ 71 A1b Bsu
theorem Bm1:Cp Try.prog B1y:=Ak Ba1 A7i
def CB (a0:List TGroup) (_a1:TRow) (a2:Int) (_a3:TCell):Bool:=Jj a0 a2 !=(0:Int)
def BA (a0:List TGroup) (a1:TRow) (_a2:Int) (_a3:TCell):Bool:=Ai a0 a1 !=(0:Int)
def Ya (a0:List TGroup) (a1:TRow) (a2:Int) (a3:TCell):ByteArray:=bif(BA a0 a1 a2 a3) then ByteArray.mk #[] else bif(CB a0 a1 a2 a3) then ByteArray.mk #[] else bif !AW (CH a0 a2) a3 then ByteArray.mk #[] else a1.1
def Yb (a0:List TGroup) (a1:TRow) (a2:Int) (a3:TCell):Int:=bif(BA a0 a1 a2 a3) then Ai a0 a1 else bif(CB a0 a1 a2 a3) then Jj a0 a2 else bif !AW (CH a0 a2) a3 then(80:Int) else(0:Int)
def Yc (a0:List TGroup) (a1:TRow) (a2:Int) (a3:TCell):List TCell:=bif(BA a0 a1 a2 a3) then[] else bif(CB a0 a1 a2 a3) then[] else bif !AW (CH a0 a2) a3 then[] else a1.2.set a2.toNat (Lb (a1.2.getD a2.toNat (Ac TC.cell)) a3)
def Ye (a0:List TGroup) (a1:TRow) (a2:Int) (a3:TCell):A:=.tup [.agg [.v (.string (Ya a0 a1 a2 a3)),.sq 0],.v (.int .i64 (Yb a0 a1 a2 a3))]
def Yd (a0:List TGroup) (a1:TRow) (a2:Int) (a3:TCell):Objs:=[(0,some (.arr 55 8 (.ty .cell (Yc a0 a1 a2 a3))))]
def Ba7 (a0:List TGroup) (a1:TRow) (a2:Int) (a3:TCell):List Prop:=[((!(BA a0 a1 a2 a3))=true→(!Hq a0 a2)=true→(!Dq a0 a2)=true→(0:Int)≤a2∧a2 <(↑a0.length:Int)),((!(BA a0 a1 a2 a3))=true→(!(CB a0 a1 a2 a3))=true→(!!AW (CH a0 a2) a3)=true→Ag a1.2.length),((!(BA a0 a1 a2 a3))=true→(!(CB a0 a1 a2 a3))=true→(!!AW (CH a0 a2) a3)=true→(0:Int)≤a2∧a2 <(↑a1.2.length:Int))]
theorem Ba6 (a0:List TGroup) (a1:TRow) (a2:Int) (a3:TCell):Er (Au B1y L0) 9 72 [.sl .group a0,Ae .row a1,Ae .i64 a2,Ae .cell a3] 0 []=some (1,Ye a0 a1 a2 a3,1,Yd a0 a1 a2 a3,[((!(BA a0 a1 a2 a3))=true→(!Hq a0 a2)=true→(!Dq a0 a2)=true→(0:Int)≤a2∧a2 <(↑a0.length:Int)),((!(BA a0 a1 a2 a3))=true→(!(CB a0 a1 a2 a3))=true→(!!AW (CH a0 a2) a3)=true→Ag a1.2.length),((!(BA a0 a1 a2 a3))=true→(!(CB a0 a1 a2 a3))=true→(!!AW (CH a0 a2) a3)=true→(0:Int)≤a2∧a2 <(↑a1.2.length:Int)),((!(BA a0 a1 a2 a3))=true→(!(CB a0 a1 a2 a3))=true→(!!AW (CH a0 a2) a3)=true→a2.toNat <a1.2.length),((!(BA a0 a1 a2 a3))=true→(!(CB a0 a1 a2 a3))=true→(!!AW (CH a0 a2) a3)=true→(0:Int)≤a2∧a2 <(↑a1.2.length:Int)),((!(BA a0 a1 a2 a3))=true→(!(CB a0 a1 a2 a3))=true→(!!AW (CH a0 a2) a3)=true→a2.toNat <a1.2.length)]):=by kernel_rfl
theorem Bhi (a0:List TGroup) (a1:TRow) (a2:Int) (a3:TCell) (hp:∀p∈Ba7 a0 a1 a2 a3,p):CallOk Try.prog 72 [.sl .group a0,Ae .row a1,Ae .i64 a2,Ae .cell a3] 0 [] 1 (Ye a0 a1 a2 a3) 1 (Yd a0 a1 a2 a3):=by
 have n0:=N0 hp
 have n1:=N0 (N1 hp)
 have n2:((!(BA a0 a1 a2 a3))=true→(!(CB a0 a1 a2 a3))=true→(!!AW (CH a0 a2) a3)=true→(0:Int)≤a2∧a2 <(↑a1.2.length:Int)):=N0 (N1 (N1 hp))
 have n3:((!(BA a0 a1 a2 a3))=true→(!(CB a0 a1 a2 a3))=true→(!!AW (CH a0 a2) a3)=true→a2.toNat <a1.2.length):=by intro h0 h1 h2;have g:=n2 h0 h1 h2;omega
 exact Az (Ap Bm1 Ay) (Ba6 a0 a1 a2 a3) (Aa n0 (Aa n1 (Aa n2 (Aa n3 (Aa n2 (Aa n3 Ad))))))
def wrK (l:List TGroup) (r:TRow) (g:Int) (c:TCell):ByteArray:=bif wrE l r g c==0 then r.key else⟨#[]⟩
def wrL (l:List TGroup) (r:TRow) (g:Int) (c:TCell):List TCell:=bif wrE l r g c==0 then B4o r.cells g.toNat c else[]
def Ai3 (a0:List TGroup) (a1:TRow) (a2:Int) (a3:TCell):A:=.tup [.agg [.v (.string (wrK a0 a1 a2 a3)),.sq 0],.v (.int .i64 (wrE a0 a1 a2 a3))]
def Ai2 (a0:List TGroup) (a1:TRow) (a2:Int) (a3:TCell):Objs:=[(0,some (.arr 55 8 (.ty .cell (wrL a0 a1 a2 a3))))]
def Aa4 (_a0:List TGroup) (_a1:TRow) (_a2:Int) (_a3:TCell):List Prop:=[]
theorem Ba5 (a0:List TGroup) (a1:TRow) (a2:Int) (a3:TCell) (_hp:∀p∈Aa4 a0 a1 a2 a3,p):CallOk Try.prog 72 [.sl .group a0,Ae .row a1,Ae .i64 a2,Ae .cell a3] 0 [] 1 (Ai3 a0 a1 a2 a3) 1 (Ai2 a0 a1 a2 a3):=by
 have hgood:(!(BA a0 a1 a2 a3))=true→Ai a0 a1=0:=fun h=>by
  have h':(!(Ai a0 a1 !=0))=true:=h
  simpa using h'
 have h4:Ai a0 a1=0→a1.cells.length=a0.length∧a0.length≤4:=fun g=>⟨(AM g).2.1,(G0 (AM g).1).2⟩
 have hin:(!Dq a0 a2)=true→0≤a2∧a2 <(a0.length:Int):=fun h=>by
  have h':(!(decide (a2 <0)||decide (a2≥(a0.length:Int))))=true:=h
  rw[Bool.not_or,Bool.and_eq_true,Bool.not_eq_true',Bool.not_eq_true'] at h'
  have:=of_decide_eq_false h'.1
  have:=of_decide_eq_false h'.2
  omega
 have k1:Ai a0 a1=0→CB a0 a1 a2 a3=Dq a0 a2:=fun g=>by
  have hp:(AP a0 !=0)=false:=by rw[(AM g).1];rfl
  have e1:Jj a0 a2=bif Dq a0 a2 then 70 else 0:=by
   unfold Jj Hq
   rw[hp]
   rfl
  unfold CB
  rw[e1]
  cases Dq a0 a2<;>rfl
 have h:=Bhi a0 a1 a2 a3 (Aa (fun _ _ g=>hin g) (Aa (fun g _ _=>by
   obtain⟨q1,q2⟩:=h4 (hgood g)
   show Ag a1.cells.length
   unfold Ag
   omega) (Aa (fun g g1 _=>by
   obtain⟨q1,q2⟩:=h4 (hgood g)
   rw[k1 (hgood g)] at g1
   have:=hin g1
   show(0:Int)≤a2∧a2 <(a1.cells.length:Int)
   omega) Ad)))
 have e:Ya a0 a1 a2 a3=wrK a0 a1 a2 a3∧Yb a0 a1 a2 a3=wrE a0 a1 a2 a3∧Yc a0 a1 a2 a3=wrL a0 a1 a2 a3:=by
  have k0:BA a0 a1 a2 a3=(Ai a0 a1 !=0):=rfl
  unfold Ya Yb Yc wrK wrL wrE
  rw[k0]
  cases g1:Ai a0 a1 !=0 with
  |true=>
   have:(Ai a0 a1==0)=false:=by simpa using g1
   simp only[cond_true,this]
   refine⟨?_,?_,?_⟩<;>first|rfl|trivial
  | false=>
   have g0:Ai a0 a1=0:=by simpa using g1
   have hp:(AP a0 !=0)=false:=by rw[(AM g0).1];rfl
   have e1:Jj a0 a2=bif Dq a0 a2 then 70 else 0:=by
    unfold Jj Hq
    rw[hp]
    rfl
   have kk:Dq a0 a2=(decide (a2 <0)||decide (a2≥(a0.length:Int))):=rfl
   rw[k1 g0,e1,←kk]
   cases g2:Dq a0 a2 with
   |true=>refine⟨?_,?_,?_⟩<;>first|rfl|trivial
   | false=>
    have e0:CH a0 a2=Acl a0 a2.toNat:=by
     unfold CH Hq
     rw[hp,g2]
     rfl
    rw[e0,Iv]
    cases Bo (Acl a0 a2.toNat) a3<;>refine⟨?_,?_,?_⟩<;>first|rfl|trivial
 unfold Ye Yd at h
 rw[e.1,e.2.1,e.2.2] at h
 exact h
def Aq8:List A→Nat→Objs→Option AU:=A5 [.l .group,.t .row,.t .i64,.t .cell] 1 Ai3 Ai2 Aa4
theorem A4g:Ev Try.prog 72 Aq8:=As (ks:=[.l .group,.t .row,.t .i64,.t .cell]) Ba5
noncomputable def B29:=AQ 72 Aq8 B1y
theorem Bw3:Cp Try.prog B29:=Ak A4g Bm1
noncomputable def Cs:=B29
theorem B0f:Cp Try.prog Cs:=Bw3
end Go.Proofs.Yteebobbhhgmeiaa
namespace Go.Proofs.Yteebobbhhgmeiaa
open Go.RowKit
structure Stt (l:List TGroup) (rows:List TRow):Prop where
 rise:YW rows
 good:∀r∈rows,Ai l r=0∧G2 r=false
theorem By7 {l:List TGroup} {rows:List TRow} (hp:AP l=0):CZ l rows=0↔Stt l rows:=by
 constructor
 ·intro h
  have h2:=(Aup.1 h).2
  refine⟨Byy h2,fun r hr=>?_⟩
  obtain⟨i,hi,rfl⟩:=List.getElem_of_mem hr
  have:=Bi3.1 (h2 i hi)
  rw[Tg hi] at this
  exact⟨this.1,this.2.1⟩
 ·exact fun h=>A8e hp h.good h.rise
theorem By8 (l:List TGroup):Stt l []:=⟨List.Pairwise.nil,fun r hr=>by cases hr⟩
theorem Stt.tail {l:List TGroup} {x:TRow} {a:List TRow} (h:Stt l (x::a)):Stt l a:=⟨(List.pairwise_cons.1 h.rise).2,fun r hr=>h.good r (List.mem_cons_of_mem _ hr)⟩
def atK (rows:List TRow) (k:ByteArray):Option TRow:=rows.find? fun r=>r.key==k
theorem Avc (x:TRow) (a:List TRow) (k:ByteArray):atK (x::a) k=if x.key=k then some x else atK a k:=by
 unfold atK
 rw[List.find?_cons]
 by_cases h:x.key=k
 ·rw[if_pos h,beq_iff_eq.2 h]
 ·rw[if_neg h,beq_eq_false_iff_ne.2 h]
def mrg:Nat→List TRow→List TRow→List TRow
 |0,_,_=>[]
 |_+1,[],[]=>[]
 |n+1,x::a,[]=>x::mrg n a []
 |n+1,[],y::b=>y::mrg n [] b
 |n+1,x::a,y::b=>bif Jy x.key y.key then x::mrg n a (y::b) else bif Jy y.key x.key then y::mrg n (x::a) b else jnR x y::mrg n a b
theorem Bns {x y:ByteArray} (h1:Jy x y=false) (h2:Jy y x=false):x=y:=by
 by_cases e:x=y
 ·exact e
 ·rw[YF h1 e] at h2;cases h2
theorem Mq:∀(n:Nat) {a b:List TRow} {r:TRow},r∈mrg n a b→(∃x∈a,r.key=x.key)∨(∃y∈b,r.key=y.key)
 |0,_,_,r,h=>by cases h
 |n+1,[],[],r,h=>by cases h
 | n+1,x::a,[],r,h=>by
  rcases List.mem_cons.1 h with rfl|h
  ·exact .inl ⟨r,List.mem_cons_self ..,rfl⟩
  ·rcases Mq n h with⟨z,hz,e⟩|⟨z,hz,e⟩
   ·exact .inl ⟨z,List.mem_cons_of_mem _ hz,e⟩
   ·exact .inr ⟨z,hz,e⟩
 | n+1,[],y::b,r,h=>by
  rcases List.mem_cons.1 h with rfl|h
  ·exact .inr ⟨r,List.mem_cons_self ..,rfl⟩
  ·rcases Mq n h with⟨z,hz,e⟩|⟨z,hz,e⟩
   ·exact .inl ⟨z,hz,e⟩
   ·exact .inr ⟨z,List.mem_cons_of_mem _ hz,e⟩
 | n +1,x::a,y::b,r,h=>by
  have h':r∈(bif Jy x.key y.key then x::mrg n a (y::b) else bif Jy y.key x.key then y::mrg n (x::a) b else jnR x y::mrg n a b):=h
  cases h1:Jy x.key y.key with
  | true=>
   rw[h1] at h'
   rcases List.mem_cons.1 h' with rfl|h'
   ·exact .inl ⟨r,List.mem_cons_self ..,rfl⟩
   ·rcases Mq n h' with⟨z,hz,e⟩|⟨z,hz,e⟩
    ·exact .inl ⟨z,List.mem_cons_of_mem _ hz,e⟩
    ·exact .inr ⟨z,hz,e⟩
  | false=>
   rw[h1] at h'
   cases h2:Jy y.key x.key with
   | true=>
    rw[h2] at h'
    rcases List.mem_cons.1 h' with rfl|h'
    ·exact .inr ⟨r,List.mem_cons_self ..,rfl⟩
    ·rcases Mq n h' with⟨z,hz,e⟩|⟨z,hz,e⟩
     ·exact .inl ⟨z,hz,e⟩
     ·exact .inr ⟨z,List.mem_cons_of_mem _ hz,e⟩
   | false=>
    rw[h2] at h'
    rcases List.mem_cons.1 h' with rfl|h'
    ·exact .inl ⟨x,List.mem_cons_self ..,rfl⟩
    ·rcases Mq n h' with⟨z,hz,e⟩|⟨z,hz,e⟩
     ·exact .inl ⟨z,List.mem_cons_of_mem _ hz,e⟩
     ·exact .inr ⟨z,List.mem_cons_of_mem _ hz,e⟩
theorem SS:∀(n:Nat) {a b:List TRow},YW a→YW b→YW (mrg n a b)
 |0,_,_,_,_=>List.Pairwise.nil
 |n+1,[],[],_,_=>List.Pairwise.nil
 |n+1,x::a,[],ha,hb=>by
  refine List.pairwise_cons.2 ⟨fun r hr=>?_,SS n (List.pairwise_cons.1 ha).2 hb⟩
  rcases Mq n hr with⟨z,hz,e⟩|⟨z,hz,_⟩
  ·rw[e];exact(List.pairwise_cons.1 ha).1 z hz
  ·cases hz
 |n+1,[],y::b,ha,hb=>by
  refine List.pairwise_cons.2 ⟨fun r hr=>?_,SS n ha (List.pairwise_cons.1 hb).2⟩
  rcases Mq n hr with⟨z,hz,_⟩|⟨z,hz,e⟩
  ·cases hz
  ·rw[e];exact(List.pairwise_cons.1 hb).1 z hz
 | n +1,x::a,y::b,ha,hb=>by
  have a1:=List.pairwise_cons.1 ha
  have b1:=List.pairwise_cons.1 hb
  show YW (bif Jy x.key y.key then x::mrg n a (y::b) else bif Jy y.key x.key then y::mrg n (x::a) b else jnR x y::mrg n a b)
  cases h1:Jy x.key y.key with
  | true=>
   refine List.pairwise_cons.2 ⟨fun r hr=>?_,SS n a1.2 hb⟩
   rcases Mq n hr with⟨z,hz,e⟩|⟨z,hz,e⟩
   ·rw[e];exact a1.1 z hz
   ·rw[e]
    rcases List.mem_cons.1 hz with rfl|hz
    ·exact h1
    ·exact L7 h1 (b1.1 z hz)
  | false=>
   cases h2:Jy y.key x.key with
   | true=>
    refine List.pairwise_cons.2 ⟨fun r hr=>?_,SS n ha b1.2⟩
    rcases Mq n hr with⟨z,hz,e⟩|⟨z,hz,e⟩
    ·rw[e]
     rcases List.mem_cons.1 hz with rfl|hz
     ·exact h2
     ·exact L7 h2 (a1.1 z hz)
    ·rw[e];exact b1.1 z hz
   |false=>
    have hxy:=Bns h1 h2
    refine List.pairwise_cons.2 ⟨fun r hr=>?_,SS n a1.2 b1.2⟩
    show Jy x.key r.key=true
    rcases Mq n hr with⟨z,hz,e⟩|⟨z,hz,e⟩
    ·rw[e];exact a1.1 z hz
    ·rw[e,hxy];exact b1.1 z hz
theorem Bwe {p:Int} {a:TCell} (h:Bo p a=true):JV zeroC a=a:=by
 rw[A11,Bfa h]
 have:M3 zeroC.dead a.dead=a.dead:=by
  have:=(Bph.1 (A5f h))
  show TVec.mk (max 0 a.dead.a) (max 0 a.dead.b)=a.dead
  exact Bbq (by show max 0 a.dead.a=a.dead.a;omega) (by show max 0 a.dead.b=a.dead.b;omega)
 rw[this]
 rfl
theorem Bhz {p:Int} {a b:TCell} (h:Bo p a=true) (e:JV a b=zeroC):a=zeroC:=by
 have h1:JV a (JV a b)=JV a b:=by rw[←Bqv,Bwc h]
 rw[e,Bwa,Bwe h] at h1
 exact h1
theorem Bc7 {r:TRow}:G2 r=true↔∀i,i <r.cells.length→HE r.cells i=zeroC:=by
 unfold G2
 rw[List.all_eq_true]
 constructor
 ·intro h i hi
  have e:HE r.cells i=r.cells[i]:=by unfold HE;rw[List.getD_eq_getElem?_getD,List.getElem?_eq_getElem hi];rfl
  rw[e]
  exact Afk.1 (h _ (List.getElem_mem hi))
 ·intro h c hc
  obtain⟨i,hi,rfl⟩:=List.getElem_of_mem hc
  have e:HE r.cells i=r.cells[i]:=by unfold HE;rw[List.getD_eq_getElem?_getD,List.getElem?_eq_getElem hi];rfl
  rw[←e]
  exact Afk.2 (h i hi)
theorem Bt5 {l:List TGroup} {a b:TRow} (ha:Ai l a=0) (hb:Ai l b=0) (h:G2 a=false):G2 (jnR a b)=false:=by
 cases hj:G2 (jnR a b) with
 |false=>rfl
 | true=>
  have h1:=Bc7.1 hj
  have hl:=(AM ha).2.1
  have:G2 a=true:=Bc7.2 fun i hi=>by
   have h2:=h1 i (by rw[A8h (b:=b) ha];omega)
   rw[Bt4 ha hb (by omega)] at h2
   exact Bhz (Ku ha (by omega)) h2
  rw[h] at this
  cases this
theorem YJ {l:List TGroup}:∀(n:Nat) {a b:List TRow},Stt l a→Stt l b→∀r∈mrg n a b,Ai l r=0∧G2 r=false
 |0,_,_,_,_,r,hr=>by cases hr
 |n+1,[],[],_,_,r,hr=>by cases hr
 |n+1,x::a,[],ha,hb,r,hr=>by
  rcases List.mem_cons.1 hr with rfl|hr
  ·exact ha.good r (List.mem_cons_self ..)
  ·exact YJ n ha.tail hb r hr
 |n+1,[],y::b,ha,hb,r,hr=>by
  rcases List.mem_cons.1 hr with rfl|hr
  ·exact hb.good r (List.mem_cons_self ..)
  ·exact YJ n ha hb.tail r hr
 | n +1,x::a,y::b,ha,hb,r,hr=>by
  have hr':r∈(bif Jy x.key y.key then x::mrg n a (y::b) else bif Jy y.key x.key then y::mrg n (x::a) b else jnR x y::mrg n a b):=hr
  cases h1:Jy x.key y.key with
  |true=>
   rw[h1] at hr'
   rcases List.mem_cons.1 hr' with rfl|hr'
   ·exact ha.good r (List.mem_cons_self ..)
   ·exact YJ n ha.tail hb r hr'
  | false=>
   rw[h1] at hr'
   cases h2:Jy y.key x.key with
   |true=>
    rw[h2] at hr'
    rcases List.mem_cons.1 hr' with rfl|hr'
    ·exact hb.good r (List.mem_cons_self ..)
    ·exact YJ n ha hb.tail r hr'
   | false=>
    rw[h2] at hr'
    rcases List.mem_cons.1 hr' with rfl|hr'
    ·obtain⟨g1,g2⟩:=ha.good x (List.mem_cons_self ..)
     obtain⟨g3,_⟩:=hb.good y (List.mem_cons_self ..)
     exact⟨Bt6 g1 g3,Bt5 g1 g3 g2⟩
    ·exact YJ n ha.tail hb.tail r hr'
theorem Stt.mrg {l:List TGroup} {a b:List TRow} (n:Nat) (ha:Stt l a) (hb:Stt l b):Stt l (Go.Proofs.Yteebobbhhgmeiaa.mrg n a b):=⟨SS n ha.rise hb.rise,YJ n ha hb⟩
end Go.Proofs.Yteebobbhhgmeiaa
namespace Go.Proofs.Yteebobbhhgmeiaa
open Go.RowKit
theorem Bog {X:Type} (mk:Nat→X) (n:Nat) (next:X→X) (goes:X→Cnd) (ps:X→List Prop) (f:Nat) (x:X) (hx:x=mk 0) (hf:n≤f)
  (hg:∀i,i≤n→Be (goes (mk i))=decide (i <n)) (hn:∀i,i <n→next (mk i)=mk (i+1)) (hp:∀i,i≤n→∀p∈ps (mk i),p):
  AD next goes ps f x∧AZ next goes f x=mk n:=by
 obtain⟨h1,k,hk,hx,_,hst,_⟩:=Ij mk n (fun _=>false) next goes ps f x hx hf (fun i hi _=>by rw[hg i hi,Bool.not_false,Bool.and_true]) (fun i hi _=>hn i hi) (fun i hi _=>hp i hi)
 have hkn:k=n:=by
  rcases Nat.lt_or_ge k n with h|h
  ·exact absurd (hst h) (by decide)
  ·omega
 subst hkn
 exact⟨h1,hx⟩
theorem Bjg (n:Nat):((n:Int)==(0:Int))=(n==0):=by
 rw[Bool.eq_iff_iff,beq_iff_eq,beq_iff_eq]
 omega
theorem A10 {α:Type} (l:List α) (d:α) (i:Nat) (h:i <l.length):l.take (i+1)=l.take i++[l.getD i d]:=by
 rw[List.take_add_one,List.getD_eq_getElem?_getD,List.getElem?_eq_getElem h]
 rfl
def Bon (r:TRow) (s:List TRow×Bool) (x:TRow):List TRow×Bool:=
 ((bif !s.2&&!Jy x.key r.key then s.1++[r] else s.1)++(bif x.key==r.key then[] else[x]),s.2||!Jy x.key r.key)
def LM (r:TRow) (l:List TRow) (i:Nat):List TRow×Bool:=(l.take i).foldl (Bon r) ([],false)
theorem A6k (r:TRow) (l:List TRow) (i:Nat) (h:i <l.length):LM r l (i+1)=Bon r (LM r l i) (Bn l i):=by
 unfold LM
 rw[A10 l (Ac TC.row) i h,List.foldl_append]
 rfl
def B3m (r:TRow) (s:List TRow×Bool):List TRow:=bif s.2 then s.1 else s.1++[r]
theorem Bqk (r:TRow) (s:List TRow×Bool) (x:TRow):(Bon r s x).1.length≤s.1.length+2:=by
 unfold Bon
 rw[List.length_append]
 cases !s.2&&!Jy x.key r.key<;>cases x.key==r.key<;>simp
theorem A1n (r:TRow) (l:List TRow):∀i,i≤l.length→(LM r l i).1.length≤2*i
 |0,_=>Nat.le_refl _
 |i+1,h=>by
  have ih:=A1n r l i (by omega)
  rw[A6k r l i (by omega)]
  have:=Bqk r (LM r l i) (Bn l i)
  omega
theorem Bc5 (key:ByteArray):∀(l:List TRow) (k:Nat),k≤l.length→(∀j,j <k→((Bn l j).key==key)=false)→(k <l.length→((Bn l k).key==key)=true)→atK l key=if k <l.length then some (Bn l k) else none
 | [],k,_,_,_=>(if_neg (Nat.not_lt_zero k)).symm
 |x::a,0,_,_,h=>by
  have h2:(x.key==key)=true:=h (Nat.zero_lt_succ _)
  rw[Avc,if_pos (eq_of_beq h2)]
  exact(if_pos (Nat.zero_lt_succ a.length)).symm
 | x::a,k+1,hk,h0,h=>by
  have h2:(x.key==key)=false:=h0 0 (Nat.zero_lt_succ _)
  rw[Avc,if_neg (by simpa using h2),Bc5 key a k (Nat.le_of_succ_le_succ hk) (fun j hj=>h0 (j+1) (Nat.succ_lt_succ hj)) (fun hk=>h (Nat.succ_lt_succ hk))]
  by_cases hl:k <a.length
  ·rw[if_pos hl]
   exact(if_pos (show k+1 <(x::a).length from Nat.succ_lt_succ hl)).symm
  ·rw[if_neg hl]
   exact(if_neg (show ¬k+1 <(x::a).length from fun h=>hl (Nat.lt_of_succ_lt_succ h))).symm
theorem YI:∀(n:Nat) (a b:List TRow),(mrg n a b).length≤a.length+b.length
 |0,_,_=>Nat.zero_le _
 |_+1,[],[]=>Nat.zero_le _
 |n+1,x::a,[]=>by
  have:=YI n a []
  show(x::mrg n a []).length≤_
  rw[List.length_cons,List.length_cons]
  omega
 |n+1,[],y::b=>by
  have:=YI n [] b
  show(y::mrg n [] b).length≤_
  rw[List.length_cons,List.length_cons]
  omega
 | n+1,x::a,y::b=>by
  unfold mrg
  cases Jy x.key y.key with
  |true=>
   have:=YI n a (y::b)
   rw[cond_true,List.length_cons,List.length_cons]
   omega
  | false=>
   cases Jy y.key x.key with
   |true=>
    have:=YI n (x::a) b
    rw[cond_false,cond_true,List.length_cons]
    simp only[List.length_cons] at this⊢
    omega
   |false=>
    have:=YI n a b
    rw[cond_false,cond_false,List.length_cons,List.length_cons,List.length_cons]
    omega
end Go.Proofs.Yteebobbhhgmeiaa
namespace Go.Proofs.Yteebobbhhgmeiaa
open Go.RowKit
theorem Ajr {P:Program} {f:FuncId} {args:List A} {k:Nat} {e:TypeId} {c:TC} {l:List (U c)} (h:CallOk P f args 0 [] k (.sq 0) 1 [(0,some (.arr e (size c) (.ty c l)))]):CallOk P f args 0 [] k (.sl c l) 0 []:=fun F N R vs hh ha=>
 Calls.mono (P:=P) (h F N R vs hh ha) fun e0 R' ⟨y,F',N',e1,e2,e3,e4,e5⟩=>by
  obtain⟨_,rfl⟩:=e4.sq_inv
  have hob:=e2.ob 0 _ rfl
  obtain⟨_,zs,g1,g2⟩:=id hob
  have hn:∀i j,i <1→(fun _=>none:Nat→Option Nat) i=some j→j <0∧N'.b j=N'.b i∧N'.q j=N'.q i:=fun i j _ hj=>by cases hj
  have hw:Ext F' N' 1 R' (fun g=>F' g∨CD (N'.q 0)=some g) N' 1 R':=Ext.wide fun g hg=> .inl hg
  have q1:=(YP (F':=fun g=>F' g∨CD (N'.q 0)=some g) (N:=N') (nx:=1) g1 (fun k hk=>(g2 k hk).step hw) (fun g hg=> .inr hg)).1
  have q2:=Hv.pk (N':=N') (nx':=0) (ρ:=fun _=>none) hn q1
  refine⟨N'.q 0,fun g=>F' g∨CD (N'.q 0)=some g,N',e1,⟨fun g hg=>?_,fun i ob hi=>(by cases hi),fun i ob g hi=>(by cases hi),fun i j x y g hi=>(by cases hi)⟩,⟨Nat.le_refl _,fun i hi=>absurd hi (Nat.not_lt_zero _),fun i hi=>absurd hi (Nat.not_lt_zero _),fun g hg=> .inl (e3.f g hg),fun g hg=>?_,fun g ⟨i,ob,hi,_⟩=>(by cases hi),e3.os,e3.tape,e3.output,e3.size,e3.keep⟩,q2,e5⟩
  ·rcases hg with hg|hg
   ·exact e2.flt g hg
   ·exact hob.2.lt hg
  ·rcases hg with hg|hg
   ·exact e3.fnew g hg
   ·rcases e3.foot g ⟨0,_,rfl,hg⟩ with h|h
    ·exact .inr (.inl h)
    ·exact .inr (.inr h)
end Go.Proofs.Yteebobbhhgmeiaa
namespace Go.Proofs.Yteebobbhhgmeiaa
open Go.RowKit
def WW (a0:TRow):List TCell:=[]++a0.2
def WY (a0:TRow):A:=.agg [.v (.string a0.1),.sq 0]
def WX (a0:TRow):Objs:=[(0,some (.arr 55 8 (.ty .cell (WW a0))))]
def T2 (a0:TRow):List Prop:=[(Ag ((0:Nat)+a0.2.length))]
theorem A9k (a0:TRow):Er (Au Cs L0) 9 170 [Ae .row a0] 0 []=some (1,WY a0,1,WX a0,T2 a0):=by kernel_rfl
theorem Bfe (a0:TRow) (hp:∀p∈T2 a0,p):CallOk Try.prog 170 [Ae .row a0] 0 [] 1 (WY a0) 1 (WX a0):=Az (Ap B0f Ay) (A9k a0) hp
def Aoy:List A→Nat→Objs→Option AU:=A5 [.t .row] 1 WY WX T2
theorem A3c:Ev Try.prog 170 Aoy:=As (ks:=[.t .row]) Bfe
noncomputable def Bcg:=AQ 170 Aoy Cs
theorem Auz:Cp Try.prog Bcg:=Ak A3c B0f
abbrev BD:Type:=(List TGroup)×(List TRow)×(List TRow)×(List TRow)
def JK (x:BD):St:=⟨91,2,[(0,.sl .group x.1),(1,.sl .row x.2.1),(2,.sl .row x.2.2.1),(6,.dq 1)],[(1,some (.deep 71 .row x.2.2.2))]⟩
def Ls:St→Option BD
 |⟨91,2,[(0,.sl .group z0),(1,.sl .row z1),(2,.sl .row z2),(6,.dq 1)],[(1,some (.deep 71 .row z3))]⟩=>some (z0,z1,z2,z3)
 |_=>none
theorem Y5:∀s x,Ls s=some x→s=JK x:=fun s x h=>by
 unfold Ls at h
 split at h
 ·cases h;rfl
 ·cases h
def SR:CU:=⟨1,2,[0,1,2,6],[],[(7,1)],[7],[6],[1]⟩
def Alg:C9:=⟨[.nilD 6 71 .row],[(0,1)],[0,1,2,6],[0]⟩
def AG (_a0:List TGroup) (a1:List TRow) (a2:List TRow) (_a3:List TRow):Bool:=(↑a1.length:Int)==(0:Int)||Op.bytesLess (a2.getD (0:Nat) (Ac TC.row)).1.toList (a1.getD (0:Nat) (Ac TC.row)).1.toList
def FY (_a0:List TGroup) (_a1:List TRow) (a2:List TRow) (_a3:List TRow):List TRow:=List.take ((↑a2.length:Int).toNat - (1:Nat)) (List.drop (1:Nat) a2)
def FX (_a0:List TGroup) (a1:List TRow) (_a2:List TRow) (_a3:List TRow):List TRow:=List.take ((↑a1.length:Int).toNat - (1:Nat)) (List.drop (1:Nat) a1)
def Av (_a0:List TGroup) (a1:List TRow) (a2:List TRow) (_a3:List TRow):Bool:=(↑a1.length:Int)==(0:Int)&&(↑a2.length:Int)==(0:Int)
def AA (_a0:List TGroup) (a1:List TRow) (a2:List TRow) (_a3:List TRow):Bool:=(↑a2.length:Int)==(0:Int)||decide ((↑a1.length:Int) >(0:Int))&&Op.bytesLess (a1.getD (0:Nat) (Ac TC.row)).1.toList (a2.getD (0:Nat) (Ac TC.row)).1.toList
def BN (a0:List TGroup) (a1:List TRow) (a2:List TRow) (a3:List TRow):List TRow:=bif(AA a0 a1 a2 a3) then(FX a0 a1 a2 a3) else bif(AG a0 a1 a2 a3) then a1 else(FX a0 a1 a2 a3)
def BO (a0:List TGroup) (a1:List TRow) (a2:List TRow) (a3:List TRow):List TRow:=bif(AA a0 a1 a2 a3) then a2 else bif(AG a0 a1 a2 a3) then(FY a0 a1 a2 a3) else(FY a0 a1 a2 a3)
def BP (a0:List TGroup) (a1:List TRow) (a2:List TRow) (a3:List TRow):List TRow:=bif(AA a0 a1 a2 a3) then a3++[Yh TC.row TC.cell (TRow.mk (a1.getD (0:Nat) (Ac TC.row)).1 []) (WW (a1.getD (0:Nat) (Ac TC.row)))] else bif(AG a0 a1 a2 a3) then a3++[Yh TC.row TC.cell (TRow.mk (a2.getD (0:Nat) (Ac TC.row)).1 []) (WW (a2.getD (0:Nat) (Ac TC.row)))] else a3++[Yh TC.row TC.cell (TRow.mk (jnK a0 (a1.getD (0:Nat) (Ac TC.row)) (a2.getD (0:Nat) (Ac TC.row))) []) (jnL a0 (a1.getD (0:Nat) (Ac TC.row)) (a2.getD (0:Nat) (Ac TC.row)))]
def AO (x:BD):BD:=(x.1,BN x.1 x.2.1 x.2.2.1 x.2.2.2,BO x.1 x.2.1 x.2.2.1 x.2.2.2,BP x.1 x.2.1 x.2.2.1 x.2.2.2)
def AN (x:BD):Cnd:=some (!(Av x.1 x.2.1 x.2.2.1 x.2.2.2))
def Kz (x:BD):List Prop:=[((Av x.1 x.2.1 x.2.2.1 x.2.2.2)=false→decide ((↑x.2.1.length:Int) >(0:Int))=true→((↑x.2.2.1.length:Int)==(0:Int))=false→(0:Int)≤(0:Int)∧(0:Int) <(↑x.2.1.length:Int)),((Av x.1 x.2.1 x.2.2.1 x.2.2.2)=false→decide ((↑x.2.1.length:Int) >(0:Int))=true→((↑x.2.2.1.length:Int)==(0:Int))=false→(0:Int)≤(0:Int)∧(0:Int) <(↑x.2.2.1.length:Int)),((Av x.1 x.2.1 x.2.2.1 x.2.2.2)=false→(AA x.1 x.2.1 x.2.2.1 x.2.2.2)=true→(0:Int)≤(0:Int)∧(0:Int) <(↑x.2.1.length:Int)),((Av x.1 x.2.1 x.2.2.1 x.2.2.2)=false→(AA x.1 x.2.1 x.2.2.1 x.2.2.2)=true→Ag ((0:Nat)+(x.2.1.getD (0:Nat) (Ac TC.row)).2.length)),((Av x.1 x.2.1 x.2.2.1 x.2.2.2)=false→(AA x.1 x.2.1 x.2.2.1 x.2.2.2)=true→Ag (x.2.2.2.length+(1:Nat))),((Av x.1 x.2.1 x.2.2.1 x.2.2.2)=false→(AA x.1 x.2.1 x.2.2.1 x.2.2.2)=true→(0:Int)≤(1:Int)∧(1:Int)≤(↑x.2.1.length:Int)∧(↑x.2.1.length:Int)≤(↑x.2.1.length:Int)),((Av x.1 x.2.1 x.2.2.1 x.2.2.2)=false→(AA x.1 x.2.1 x.2.2.1 x.2.2.2)=false→((↑x.2.1.length:Int)==(0:Int))=false→(0:Int)≤(0:Int)∧(0:Int) <(↑x.2.2.1.length:Int)),((Av x.1 x.2.1 x.2.2.1 x.2.2.2)=false→(AA x.1 x.2.1 x.2.2.1 x.2.2.2)=false→((↑x.2.1.length:Int)==(0:Int))=false→(0:Int)≤(0:Int)∧(0:Int) <(↑x.2.1.length:Int)),((Av x.1 x.2.1 x.2.2.1 x.2.2.2)=false→(AA x.1 x.2.1 x.2.2.1 x.2.2.2)=false→(AG x.1 x.2.1 x.2.2.1 x.2.2.2)=true→(0:Int)≤(0:Int)∧(0:Int) <(↑x.2.2.1.length:Int)),((Av x.1 x.2.1 x.2.2.1 x.2.2.2)=false→(AA x.1 x.2.1 x.2.2.1 x.2.2.2)=false→(AG x.1 x.2.1 x.2.2.1 x.2.2.2)=true→Ag ((0:Nat)+(x.2.2.1.getD (0:Nat) (Ac TC.row)).2.length)),((Av x.1 x.2.1 x.2.2.1 x.2.2.2)=false→(AA x.1 x.2.1 x.2.2.1 x.2.2.2)=false→(AG x.1 x.2.1 x.2.2.1 x.2.2.2)=true→Ag (x.2.2.2.length+(1:Nat))),((Av x.1 x.2.1 x.2.2.1 x.2.2.2)=false→(AA x.1 x.2.1 x.2.2.1 x.2.2.2)=false→(AG x.1 x.2.1 x.2.2.1 x.2.2.2)=true→(0:Int)≤(1:Int)∧(1:Int)≤(↑x.2.2.1.length:Int)∧(↑x.2.2.1.length:Int)≤(↑x.2.2.1.length:Int)),((Av x.1 x.2.1 x.2.2.1 x.2.2.2)=false→(AA x.1 x.2.1 x.2.2.1 x.2.2.2)=false→(AG x.1 x.2.1 x.2.2.1 x.2.2.2)=false→(0:Int)≤(0:Int)∧(0:Int) <(↑x.2.1.length:Int)),((Av x.1 x.2.1 x.2.2.1 x.2.2.2)=false→(AA x.1 x.2.1 x.2.2.1 x.2.2.2)=false→(AG x.1 x.2.1 x.2.2.1 x.2.2.2)=false→(0:Int)≤(0:Int)∧(0:Int) <(↑x.2.2.1.length:Int)),((Av x.1 x.2.1 x.2.2.1 x.2.2.2)=false→(AA x.1 x.2.1 x.2.2.1 x.2.2.2)=false→(AG x.1 x.2.1 x.2.2.1 x.2.2.2)=false→Ag (x.2.2.2.length+(1:Nat))),((Av x.1 x.2.1 x.2.2.1 x.2.2.2)=false→(AA x.1 x.2.1 x.2.2.1 x.2.2.2)=false→(AG x.1 x.2.1 x.2.2.1 x.2.2.2)=false→(0:Int)≤(1:Int)∧(1:Int)≤(↑x.2.1.length:Int)∧(↑x.2.1.length:Int)≤(↑x.2.1.length:Int)),((Av x.1 x.2.1 x.2.2.1 x.2.2.2)=false→(AA x.1 x.2.1 x.2.2.1 x.2.2.2)=false→(AG x.1 x.2.1 x.2.2.1 x.2.2.2)=false→(0:Int)≤(1:Int)∧(1:Int)≤(↑x.2.2.1.length:Int)∧(↑x.2.2.1.length:Int)≤(↑x.2.2.1.length:Int))]
abbrev D4:BD→List Prop:=Kz
def NQ (x:BD):Bb:=[(some 0,some ((Av x.1 x.2.1 x.2.2.1 x.2.2.2)),⟨91,2,[(6,.dq 1)],[(1,some (.deep 71 .row x.2.2.2))]⟩)]
def HI (x:BD):Nat:=x.2.1.length+x.2.2.1.length
def Ach (x:BD):BD:=AZ AO AN (HI x) x
theorem Ahc (a0:List TGroup) (a1:List TRow) (a2:List TRow) (a3:List TRow):Bl (Au Bcg L0) 9 (Af Try.prog 143 0) SR (JK (a0,a1,a2,a3))=some (Kz (a0,a1,a2,a3),NQ (a0,a1,a2,a3),AN (a0,a1,a2,a3),JK (AO (a0,a1,a2,a3))):=by kernel_rfl
theorem Ahd (a0:List TGroup) (a1:List TRow) (a2:List TRow) (a3:List TRow) (hp:∀p∈D4 (a0,a1,a2,a3),p):∀p∈Kz (a0,a1,a2,a3),p:=hp
noncomputable def O1:=Hw (Au Bcg L0) (Af Try.prog 143 0) SR Alg Ls HI AO AN D4 NQ
theorem Acg:∀s b ps outs,O1 s=some (b,ps,outs)→Wf s ⟨ps,outs,none⟩∧Bh (Au C0 L0) b s ps outs:=
 A9 (T:=JK) Auz Ay (u:=9) (by kernel_rfl) (by decide) (fun⟨a0,a1,a2,a3⟩=>Ahc a0 a1 a2 a3) (fun⟨a0,a1,a2,a3⟩=>Ahd a0 a1 a2 a3) Y5 (fun _=>AH (n:=91) rfl) fun _ _=>rfl
noncomputable def SQ:=Di 0 O1 L0
theorem Acf:G1 SQ:=AS Acg Ay
def ZO (a0:List TGroup) (a1:List TRow) (a2:List TRow):List TRow:=(Ach (a0,a1,a2,[])).snd.snd.snd
def ZP (_a0:List TGroup) (_a1:List TRow) (_a2:List TRow):A:=.dq 0
def Rt (a0:List TGroup) (a1:List TRow) (a2:List TRow):Objs:=[(0,some (.deep 71 .row (ZO a0 a1 a2)))]
def Axq (a0:List TGroup) (a1:List TRow) (a2:List TRow):List Prop:=[(AD AO AN D4 (HI (a0,a1,a2,[])) (a0,a1,a2,[]))]
theorem Axp (a0:List TGroup) (a1:List TRow) (a2:List TRow):Er (Au Bcg SQ) 9 143 [.sl .group a0,Ae .rows a1,Ae .rows a2] 0 []=some (1,ZP a0 a1 a2,1,Rt a0 a1 a2,[(Af Try.prog (143:FuncId) (0:Nat)=Af Try.prog (143:FuncId) (0:Nat)),(AD AO AN D4 (HI (a0,a1,a2,[])) (a0,a1,a2,[]))]):=by kernel_rfl
theorem A3b (a0:List TGroup) (a1:List TRow) (a2:List TRow) (hp:∀p∈Axq a0 a1 a2,p):CallOk Try.prog 143 [.sl .group a0,Ae .rows a1,Ae .rows a2] 0 [] 1 (ZP a0 a1 a2) 1 (Rt a0 a1 a2):=by
 have n1:=N0 hp
 exact Az (Ap Auz Acf) (Axp a0 a1 a2) (Aa rfl (Aa n1 Ad))
def WV (_a0:List TGroup) (_a1 _a2:List TRow):A:=.dq 0
def WU (_a0:List TGroup) (a1 a2:List TRow):Objs:=[(0,some (.deep 71 .row (mrg (a1.length+a2.length) a1 a2)))]
def UT (a0:List TGroup) (a1 a2:List TRow):List Prop:=[Stt a0 a1∧Stt a0 a2∧a1.length+a2.length≤400000]
theorem A5x (x:TRow) (a:List TRow):List.take ((((x::a).length:Nat):Int).toNat - (1:Nat)) (List.drop (1:Nat) (x::a))=a:=by
 rw[Int.toNat_natCast]
 simp
theorem gt0 (n:Nat):decide ((n:Int) >(0:Int))=!(n==0):=by
 cases n with
 |zero=>rfl
 |succ n=>
  rw[decide_eq_true (by omega)]
  rfl
theorem Bfc (l:List TGroup) (a b out:List TRow):AA l a b out=((b.length==0)||(!(a.length==0)&&Jy (Bn a 0).key (Bn b 0).key)):=by
 unfold AA
 rw[Bjg,gt0]
 rfl
theorem A5w (l:List TGroup) (a b out:List TRow):Av l a b out=((a.length==0)&&(b.length==0)):=by
 unfold Av
 rw[Bjg,Bjg]
theorem Buf (l:List TGroup) (a b out:List TRow):AG l a b out=((a.length==0)||Jy (Bn b 0).key (Bn a 0).key):=by
 unfold AG
 rw[Bjg]
 rfl
theorem Bug {l:List TGroup} {a b out:List TRow} (ha:Stt l a) (hb:Stt l b) (ho:out.length≤500000):∀p∈D4 (l,a,b,out),p:=by
 have z:∀{n:Nat},(n==0)=false→0 <n:=fun h=>by
  have:=beq_eq_false_iff_ne.1 h
  omega
 have h1:Av l a b out=false→AA l a b out=true→0 <a.length:=fun h g=>by
  rw[A5w] at h
  rw[Bfc] at g
  cases ea:a.length==0 with
  |false=>exact z ea
  |true=>
   rw[ea] at h g
   rw[Bool.true_and] at h
   rw[h] at g
   cases g
 have h2:AA l a b out=false→0 <b.length:=fun h=>by
  rw[Bfc] at h
  exact z (Bool.or_eq_false_iff.1 h).1
 have h3:AG l a b out=false→0 <a.length:=fun h=>by
  rw[Buf] at h
  exact z (Bool.or_eq_false_iff.1 h).1
 have hc:∀{x:List TRow},Stt l x→0 <x.length→Ag (0+(x.getD 0 (Ac TC.row)).2.length):=fun {x} hx h=>by
  have g:=(hx.good _ (getD_in x (Ac TC.row) 0 h)).1
  have g1:=(AM g).2.1
  have g2:=(G0 (AM g).1).2
  have g3:(x.getD 0 (Ac TC.row)).2.length=l.length:=g1
  unfold Ag
  omega
 have ho':Ag (out.length+1):=by unfold Ag;omega
 have one:∀{n:Nat},0 <n→(0:Int)≤(1:Int)∧(1:Int)≤(n:Int)∧(n:Int)≤(n:Int):=fun h=>⟨by omega,by omega,Int.le_refl _⟩
 have nz:∀{n:Nat},0 <n→(0:Int)≤(0:Int)∧(0:Int) <(n:Int):=fun h=>⟨Int.le_refl _,by omega⟩
 have e0:∀{n:Nat},((n:Int)==(0:Int))=false→0 <n:=fun h=>by rw[Bjg] at h;exact z h
 have g0:∀{n:Nat},decide ((n:Int) >(0:Int))=true→0 <n:=fun h=>by have:=of_decide_eq_true h;omega
 exact Aa (fun _ h _=>nz (g0 h)) (Aa (fun _ _ h=>nz (e0 h)) (Aa (fun h g=>nz (h1 h g)) (Aa (fun h g=>hc ha (h1 h g)) (Aa (fun _ _=>ho') (Aa (fun h g=>one (h1 h g))
  (Aa (fun _ g _=>nz (h2 g)) (Aa (fun _ _ h=>nz (e0 h)) (Aa (fun _ g _=>nz (h2 g)) (Aa (fun _ g _=>hc hb (h2 g)) (Aa (fun _ _ _=>ho') (Aa (fun _ g _=>one (h2 g))
  (Aa (fun _ _ h=>nz (h3 h)) (Aa (fun _ g _=>nz (h2 g)) (Aa (fun _ _ _=>ho') (Aa (fun _ _ h=>one (h3 h)) (Aa (fun _ g _=>one (h2 g)) Ad))))))))))))))))
theorem Bnz (l:List TGroup):∀(n:Nat) (a b out:List TRow),Stt l a→Stt l b→a.length+b.length≤n→out.length+n≤500000→
  AD AO AN D4 n (l,a,b,out)∧(AZ AO AN n (l,a,b,out)).2.2.2=out++mrg n a b
 |0,a,b,out,ha,hb,hn,ho=>by
  have h1:a=[]:=List.eq_nil_of_length_eq_zero (by omega)
  have h2:b=[]:=List.eq_nil_of_length_eq_zero (by omega)
  subst h1 h2
  refine⟨⟨Bug ha hb (by omega),?_⟩,(List.append_nil out).symm⟩
  show(!Av l [] [] out)=false
  rw[A5w]
  rfl
 | n + 1,a,b,out,ha,hb,hn,ho=>by
  have key:∀(a' b' out':List TRow),Av l a b out=false→AO (l,a,b,out)=(l,a',b',out')→Stt l a'→Stt l b'→a'.length+b'.length≤n→out'.length=out.length+1→out'++mrg n a' b'=out++mrg (n+1) a b→
    AD AO AN D4 (n+1) (l,a,b,out)∧(AZ AO AN (n+1) (l,a,b,out)).2.2.2=out++mrg (n+1) a b:=fun a' b' out' hk e h1 h2 h3 h4 h5=>by
   obtain⟨i1,i2⟩:=Bnz l n a' b' out' h1 h2 h3 (by omega)
   have hg:Be (AN (l,a,b,out))=true:=by
    show(!Av l a b out)=true
    rw[hk]
    rfl
   refine⟨⟨Bug ha hb (by omega),fun _=>by rw[e];exact i1⟩,?_⟩
   show(bif Be (AN (l,a,b,out)) then AZ AO AN n (AO (l,a,b,out)) else(l,a,b,out)).2.2.2=_
   rw[hg,cond_true,e,i2]
   exact h5
  cases a with
  | nil=>
   cases b with
   | nil=>
    have hg:Be (AN (l,[],[],out))=false:=by
     show(!Av l [] [] out)=false
     rw[A5w]
     rfl
    refine⟨⟨Bug ha hb (by omega),fun h=>by rw[hg] at h;cases h⟩,?_⟩
    show(bif Be (AN (l,[],[],out)) then AZ AO AN n (AO (l,[],[],out)) else(l,[],[],out)).2.2.2=_
    rw[hg,cond_false]
    exact(List.append_nil out).symm
   |cons y b=>
    refine key [] b (out++[y]) (by rw[A5w];rfl) ?_ ha hb.tail (by simp at hn⊢;omega) (by simp) (by rw[List.append_assoc];rfl)
    have k0:AA l [] (y::b) out=false:=by rw[Bfc];rfl
    have k4:AG l [] (y::b) out=true:=by rw[Buf];rfl
    show(l,BN l [] (y::b) out,BO l [] (y::b) out,BP l [] (y::b) out)=_
    unfold BN BO BP FY
    rw[k0,k4,A5x]
    rfl
  | cons x a=>
   cases b with
   |nil=>
    refine key a [] (out++[x]) (by rw[A5w];rfl) ?_ ha.tail hb (by simp at hn⊢;omega) (by simp) (by rw[List.append_assoc];rfl)
    have k0:AA l (x::a) [] out=true:=by rw[Bfc];rfl
    show(l,BN l (x::a) [] out,BO l (x::a) [] out,BP l (x::a) [] out)=_
    unfold BN BO BP FX
    rw[k0,A5x]
    rfl
   | cons y b=>
    have kk:Av l (x::a) (y::b) out=false:=by rw[A5w];rfl
    have k0:AA l (x::a) (y::b) out=Jy x.key y.key:=by rw[Bfc];rfl
    have k4:AG l (x::a) (y::b) out=Jy y.key x.key:=by rw[Buf];rfl
    have em:mrg (n+1) (x::a) (y::b)=bif Jy x.key y.key then x::mrg n a (y::b) else bif Jy y.key x.key then y::mrg n (x::a) b else jnR x y::mrg n a b:=rfl
    have en:AO (l,x::a,y::b,out)=(l,BN l (x::a) (y::b) out,BO l (x::a) (y::b) out,BP l (x::a) (y::b) out):=rfl
    cases h1:Jy x.key y.key with
    |true=>
     refine key a (y::b) (out++[x]) kk ?_ ha.tail hb (by simp at hn⊢;omega) (by simp) (by rw[em,h1,cond_true,List.append_assoc];rfl)
     rw[en]
     unfold BN BO BP FX
     rw[k0,h1,A5x]
     rfl
    | false=>
     cases h2:Jy y.key x.key with
     |true=>
      refine key (x::a) b (out++[y]) kk ?_ ha hb.tail (by simp at hn⊢;omega) (by simp) (by rw[em,h1,h2,cond_false,cond_true,List.append_assoc];rfl)
      rw[en]
      unfold BN BO BP FY
      rw[k0,k4,h1,h2,A5x]
      rfl
     | false=>
      refine key a b (out++[jnR x y]) kk ?_ ha.tail hb.tail (by simp at hn⊢;omega) (by simp) (by rw[em,h1,h2,cond_false,cond_false,List.append_assoc];rfl)
      have hj:jnE l x y=0:=Bep.2 ⟨(ha.good x (List.mem_cons_self ..)).1,(hb.good y (List.mem_cons_self ..)).1,Bns h1 h2⟩
      have ej:TRow.mk (jnK l x y) (jnL l x y)=jnR x y:=by
       unfold jnK jnL
       rw[hj]
       rfl
      rw[en]
      unfold BN BO BP FX FY
      rw[k0,k4,h1,h2,A5x,A5x,←ej]
      rfl
theorem Axo (a0:List TGroup) (a1 a2:List TRow) (hp:∀p∈UT a0 a1 a2,p):CallOk Try.prog 143 [.sl .group a0,Ae .rows a1,Ae .rows a2] 0 [] 1 (WV a0 a1 a2) 1 (WU a0 a1 a2):=by
 obtain⟨h1,h2,h3⟩:=hp _ (List.mem_cons_self ..)
 obtain⟨g1,g2⟩:=Bnz a0 (a1.length+a2.length) a1 a2 [] h1 h2 (Nat.le_refl _) (by rw[List.length_nil];omega)
 have h:=A3b a0 a1 a2 (Aa g1 Ad)
 have e:ZO a0 a1 a2=mrg (a1.length+a2.length) a1 a2:=g2
 unfold Rt at h
 rw[e] at h
 exact h
def ZQ:List A→Nat→Objs→Option AU:=A5 [.l .group,.t .rows,.t .rows] 1 WV WU UT
theorem Ask:Ev Try.prog 143 ZQ:=As (ks:=[.l .group,.t .rows,.t .rows]) Axo
noncomputable def Br6:=AQ 143 ZQ Bcg
theorem Bch:Cp Try.prog Br6:=Ak Ask Auz
def GY (a0:TRow):List TCell:=[]++a0.2
def Adi (a0:TRow):A:=.agg [.v (.string a0.1),.sq 0]
def Adh (a0:TRow):Objs:=[(0,some (.arr 55 8 (.ty .cell (GY a0))))]
def XI (a0:TRow):List Prop:=[(Ag ((0:Nat)+a0.2.length))]
theorem Bgf (a0:TRow):Er (Au Br6 L0) 9 46 [Ae .row a0] 0 []=some (1,Adi a0,1,Adh a0,XI a0):=by kernel_rfl
theorem Bkj (a0:TRow) (hp:∀p∈XI a0,p):CallOk Try.prog 46 [Ae .row a0] 0 [] 1 (Adi a0) 1 (Adh a0):=Az (Ap Bch Ay) (Bgf a0) hp
def Azq:List A→Nat→Objs→Option AU:=A5 [.t .row] 1 Adi Adh XI
theorem Bae:Ev Try.prog 46 Azq:=As (ks:=[.t .row]) Bkj
noncomputable def Bci:=AQ 46 Azq Br6
theorem Au0:Cp Try.prog Bci:=Ak Bae Bch
abbrev CO:Type:=Int×TRow×ByteArray×(List TCell)
def MB (x:CO):St:=⟨56,6,[(5,.own 1 0),(9,.own 4 0),(10,.v (.int .i64 x.1))],[(1,some (.box 71 [.v (.string x.2.1.key),.sl .cell x.2.1.cells])),(4,some (.box 71 [.v (.string x.2.2.1),.sq 5])),(5,some (.arr 55 8 (.ty .cell x.2.2.2)))]⟩
def Pp:St→Option CO
 |⟨56,6,[(5,.own 1 0),(9,.own 4 0),(10,.v (.int .i64 z0))],[(1,some (.box 71 [.v (.string z1),.sl .cell z2])),(4,some (.box 71 [.v (.string z3),.sq 5])),(5,some (.arr 55 8 (.ty .cell z4)))]⟩=>some (z0,⟨z1,z2⟩,z3,z4)
 |_=>none
theorem Al7:∀s x,Pp s=some x→s=MB x:=fun s x h=>by
 unfold Pp at h
 split at h
 ·cases h;rfl
 ·cases h
def Aag:CU:=⟨5,6,[5,9,10],[],[(1,1),(4,4),(5,5)],[1,4,5],[],[1,4,5]⟩
def A3x:C9:=⟨[],[(1,1),(4,4),(3,5)],[5,9,10],[1,4,3]⟩
def Bu (a0:Int) (_a1:TRow) (_a2:ByteArray) (a3:List TCell):Bool:=!!decide (a0 <(↑a3.length:Int))
def Nu (a0:Int) (a1:TRow) (_a2:ByteArray) (a3:List TCell):List TCell:=a3.set a0.toNat (JV (a3.getD a0.toNat (Ac TC.cell)) (a1.2.getD a0.toNat (Ac TC.cell)))
def EN (x:CO):CO:=(IntKind.i64.wrap (x.1+(1:Int)),x.2.1,x.2.2.1,Nu x.1 x.2.1 x.2.2.1 x.2.2.2)
def EM (x:CO):Cnd:=some ((Bu x.1 x.2.1 x.2.2.1 x.2.2.2))
def Vc (x:CO):List Prop:=[((Bu x.1 x.2.1 x.2.2.1 x.2.2.2)=true→(0:Int)≤x.1∧x.1 <(↑x.2.2.2.length:Int)),((Bu x.1 x.2.1 x.2.2.1 x.2.2.2)=true→x.1.toNat <x.2.2.2.length),((Bu x.1 x.2.1 x.2.2.1 x.2.2.2)=true→(0:Int)≤x.1∧x.1 <(↑x.2.1.2.length:Int)),((Bu x.1 x.2.1 x.2.2.1 x.2.2.2)=true→(0:Int)≤x.1∧x.1 <(↑x.2.2.2.length:Int)),((Bu x.1 x.2.1 x.2.2.1 x.2.2.2)=true→x.1.toNat <x.2.2.2.length)]
def H6 (x:CO):List Prop:=[((Bu x.1 x.2.1 x.2.2.1 x.2.2.2)=true→(0:Int)≤x.1∧x.1 <(↑x.2.2.2.length:Int)),((Bu x.1 x.2.1 x.2.2.1 x.2.2.2)=true→(0:Int)≤x.1∧x.1 <(↑x.2.1.2.length:Int))]
def S5 (x:CO):Bb:=[(some 0,some (!decide (x.1 <(↑x.2.2.2.length:Int))),⟨56,6,[],[(1,some (.box 71 [.v (.string x.2.1.1),.sl .cell x.2.1.2])),(4,some (.box 71 [.v (.string x.2.2.1),.sq 5])),(5,some (.arr 55 8 (.ty .cell x.2.2.2)))]⟩)]
def Gu (x:CO):Nat:=((↑x.2.2.2.length:Int) - x.1).toNat
def II (x:CO):CO:=AZ EN EM (Gu x) x
theorem Azw (a0:Int) (a1:TRow) (a2:ByteArray) (a3:List TCell):Bl (Au Bci L0) 9 (Af Try.prog 74 0) Aag (MB (a0,a1,a2,a3))=some (Vc (a0,a1,a2,a3),S5 (a0,a1,a2,a3),EM (a0,a1,a2,a3),MB (EN (a0,a1,a2,a3))):=by kernel_rfl
theorem Azx (a0:Int) (a1:TRow) (a2:ByteArray) (a3:List TCell) (hp:∀p∈H6 (a0,a1,a2,a3),p):∀p∈Vc (a0,a1,a2,a3),p:=by
 have n0:((Bu a0 a1 a2 a3)=true→(0:Int)≤a0∧a0 <(↑a3.length:Int)):=N0 hp
 have n1:((Bu a0 a1 a2 a3)=true→a0.toNat <a3.length):=by intro h0;have g:=n0 h0;omega
 have n2:=N0 (N1 hp)
 exact(Aa n0 (Aa n1 (Aa n2 (Aa n0 (Aa n1 Ad)))))
noncomputable def Vd:=Hw (Au Bci L0) (Af Try.prog 74 0) Aag A3x Pp Gu EN EM H6 S5
theorem Atc:∀s b ps outs,Vd s=some (b,ps,outs)→Wf s ⟨ps,outs,none⟩∧Bh (Au C0 L0) b s ps outs:=
 A9 (T:=MB) Au0 Ay (u:=9) (by kernel_rfl) (by decide) (fun⟨a0,a1,a2,a3⟩=>Azw a0 a1 a2 a3) (fun⟨a0,a1,a2,a3⟩=>Azx a0 a1 a2 a3) Al7 (fun _=>AH (n:=56) rfl) fun _ _=>rfl
noncomputable def Aaf:=Di 0 Vd L0
theorem Atb:G1 Aaf:=AS Atc Ay
def DG (_a0:List TGroup) (a1:TRow) (a2:TRow):Bool:=!a1.1.toList==a2.1.toList
def CJ (a0:List TGroup) (_a1:TRow) (a2:TRow):Bool:=Ai a0 a2 !=(0:Int)
def BK (a0:List TGroup) (a1:TRow) (_a2:TRow):Bool:=Ai a0 a1 !=(0:Int)
def Adl (a0:List TGroup) (a1:TRow) (a2:TRow):ByteArray:=bif(BK a0 a1 a2) then ByteArray.mk #[] else bif(CJ a0 a1 a2) then ByteArray.mk #[] else bif(DG a0 a1 a2) then ByteArray.mk #[] else(II ((0:Int),a2,a1.1,GY a1)).snd.snd.fst
def Uf (a0:List TGroup) (a1:TRow) (a2:TRow):Int:=bif(BK a0 a1 a2) then Ai a0 a1 else bif(CJ a0 a1 a2) then Ai a0 a2 else bif(DG a0 a1 a2) then(100:Int) else(0:Int)
def Adm (a0:List TGroup) (a1:TRow) (a2:TRow):List TCell:=bif(BK a0 a1 a2) then[] else bif(CJ a0 a1 a2) then[] else bif(DG a0 a1 a2) then[] else(II ((0:Int),a2,a1.1,GY a1)).snd.snd.snd
def Ado (a0:List TGroup) (a1:TRow) (a2:TRow):A:=.tup [.agg [.v (.string (Adl a0 a1 a2)),.sq 0],.v (.int .i64 (Uf a0 a1 a2))]
def Adn (a0:List TGroup) (a1:TRow) (a2:TRow):Objs:=[(0,some (.arr 55 8 (.ty .cell (Adm a0 a1 a2))))]
def Bgl (a0:List TGroup) (a1:TRow) (a2:TRow):List Prop:=[(∀(g:TGroup),g∈a0→Ao g.1.size),((!(BK a0 a1 a2))=true→∀(g:TGroup),g∈a0→Ao g.1.size),((!(BK a0 a1 a2))=true→(!(CJ a0 a1 a2))=true→(!(DG a0 a1 a2))=true→Ag ((0:Nat)+a1.2.length)),((!(BK a0 a1 a2))=true→(!(CJ a0 a1 a2))=true→(!(DG a0 a1 a2))=true→AD EN EM H6 (Gu ((0:Int),a2,a1.1,GY a1)) ((0:Int),a2,a1.1,GY a1))]
theorem Bgk (a0:List TGroup) (a1:TRow) (a2:TRow):Er (Au Bci Aaf) 9 74 [.sl .group a0,Ae .row a1,Ae .row a2] 0 []=some (1,Ado a0 a1 a2,1,Adn a0 a1 a2,[(∀(g:TGroup),g∈a0→Ao g.1.size),((!(BK a0 a1 a2))=true→∀(g:TGroup),g∈a0→Ao g.1.size),((!(BK a0 a1 a2))=true→(!(CJ a0 a1 a2))=true→(!(DG a0 a1 a2))=true→Ag ((0:Nat)+a1.2.length)),((!(BK a0 a1 a2))=true→(!(CJ a0 a1 a2))=true→(!(DG a0 a1 a2))=true→Af Try.prog (74:FuncId) (0:Nat)=Af Try.prog (74:FuncId) (0:Nat)),((!(BK a0 a1 a2))=true→(!(CJ a0 a1 a2))=true→(!(DG a0 a1 a2))=true→AD EN EM H6 (Gu ((0:Int),a2,a1.1,GY a1)) ((0:Int),a2,a1.1,GY a1))]):=by kernel_rfl
theorem Bkl (a0:List TGroup) (a1:TRow) (a2:TRow) (hp:∀p∈Bgl a0 a1 a2,p):CallOk Try.prog 74 [.sl .group a0,Ae .row a1,Ae .row a2] 0 [] 1 (Ado a0 a1 a2) 1 (Adn a0 a1 a2):=by
 have n0:=N0 hp
 have n1:=N0 (N1 hp)
 have n2:=N0 (N1 (N1 hp))
 have n3:((!(BK a0 a1 a2))=true→(!(CJ a0 a1 a2))=true→(!(DG a0 a1 a2))=true→Af Try.prog (74:FuncId) (0:Nat)=Af Try.prog (74:FuncId) (0:Nat)):=by intros;rfl
 have n4:=N0 (N1 (N1 (N1 hp)))
 exact Az (Ap Au0 Atb) (Bgk a0 a1 a2) (Aa n0 (Aa n1 (Aa n2 (Aa n3 (Aa n4 Ad)))))
def Apz (a0:List TGroup) (a1:TRow) (a2:TRow):A:=.tup [.agg [.v (.string (jnK a0 a1 a2)),.sq 0],.v (.int .i64 (jnE a0 a1 a2))]
def Apy (a0:List TGroup) (a1:TRow) (a2:TRow):Objs:=[(0,some (.arr 55 8 (.ty .cell (jnL a0 a1 a2))))]
def Ah6 (a0:List TGroup) (_a1:TRow) (_a2:TRow):List Prop:=[∀g∈a0,Ao g.1.size]
theorem Amo {l:List TGroup} {a b:TRow} (ha:Ai l a=0) (hb:Ai l b=0):
  AD EN EM H6 (Gu (0,b,a.key,a.cells)) (0,b,a.key,a.cells)∧II (0,b,a.key,a.cells)=((a.cells.length:Int),b,a.key,jnN a.cells b.cells a.cells.length):=by
 have h1:=(AM ha).2.1
 have h2:=(AM hb).2.1
 have h4:=(G0 (AM ha).1).2
 have hlen:=fun i=>Af6 a.cells b.cells i
 obtain⟨h5,k,hk,hx,_,hst,_⟩:=Ij (fun i=>((i:Int),b,a.key,jnN a.cells b.cells i):Nat→CO) a.cells.length (fun _=>false) EN EM H6 (Gu (0,b,a.key,a.cells)) (0,b,a.key,a.cells) rfl (by show a.cells.length≤((a.cells.length:Int) - 0).toNat;omega)
  (fun i _ _=>by
   show(!!decide ((i:Int) <((jnN a.cells b.cells i).length:Int)))=_
   rw[nn,hlen,Mp,Bool.not_false,Bool.and_true])
  (fun i hi _=>by
   show(IntKind.i64.wrap ((i:Int)+1),b,a.key,Nu (i:Int) b a.key (jnN a.cells b.cells i))=(((i+1:Nat):Int),b,a.key,jnN a.cells b.cells (i+1))
   unfold Nu
   rw[Eu (by omega),Int.toNat_natCast]
   show(_,_,_,(jnN a.cells b.cells i).set i (JV (HE (jnN a.cells b.cells i) i) (HE b.cells i)))=(_,_,_,(jnN a.cells b.cells i).set i (Lb (HE (jnN a.cells b.cells i) i) (HE b.cells i)))
   have e:HE (jnN a.cells b.cells i) i=HE a.cells i:=by
    rw[Bje a.cells b.cells i hi i,decide_eq_false (Nat.lt_irrefl i)]
    rfl
   rw[e,A5p (Ku ha (by omega:i <l.length))])
  (fun i hi _=>by
   have hin:Bu (i:Int) b a.key (jnN a.cells b.cells i)=true→(i:Int) <((jnN a.cells b.cells i).length:Int):=fun h=>by
    unfold Bu at h
    rw[nn] at h
    exact of_decide_eq_true h
   refine Aa (fun h=>⟨by show(0:Int)≤(i:Int);omega,hin h⟩) (Aa (fun h=>⟨by show(0:Int)≤(i:Int);omega,?_⟩) Ad)
   have:=hin h
   rw[hlen] at this
   show(i:Int) <(b.cells.length:Int)
   omega)
 have hkn:k=a.cells.length:=by
  rcases Nat.lt_or_ge k a.cells.length with h|h
  ·exact absurd (hst h) (by decide)
  ·omega
 subst hkn
 exact⟨h5,hx⟩
theorem Bys (l:List TGroup) (a b:TRow):Uf l a b=jnE l a b∧Adl l a b=jnK l a b∧Adm l a b=jnL l a b:=by
 have hkey:DG l a b=!(a.key==b.key):=by
  unfold DG
  rw[tlb]
 have e1:Uf l a b=jnE l a b:=by
  unfold Uf jnE
  rw[hkey]
  rfl
 have split:∀{α:Type} (z:α) (f:α),(bif BK l a b then z else bif CJ l a b then z else bif DG l a b then z else f)=bif jnE l a b==0 then f else z:=fun z f=>by
  by_cases h:jnE l a b=0
  ·obtain⟨h1,h2,h3⟩:=Bep.1 h
   have k0:BK l a b=false:=by unfold BK;rw[h1];rfl
   have k1:CJ l a b=false:=by unfold CJ;rw[h2];rfl
   rw[k0,k1,hkey,h3,beq_self_eq_true,h]
   rfl
  ·have hne:(jnE l a b==0)=false:=by simpa using h
   rw[hne,cond_false]
   cases h1:BK l a b with
   |true=>rfl
   | false=>
    cases h2:CJ l a b with
    |true=>rfl
    | false=>
     cases h3:DG l a b with
     |true=>rfl
     |false=>
      rw[hkey] at h3
      refine absurd (Bep.2 ⟨?_,?_,?_⟩) h
      ·unfold BK at h1;simpa using h1
      ·unfold CJ at h2;simpa using h2
      ·simpa using h3
 refine⟨e1,?_,?_⟩
 ·unfold Adl
  rw[split]
  unfold jnK
  by_cases h:jnE l a b=0
  ·obtain⟨h1,h2,h3⟩:=Bep.1 h
   rw[h]
   show(II (0,b,a.key,a.cells)).snd.snd.fst=a.key
   rw[(Amo h1 h2).2]
  ·have hne:(jnE l a b==0)=false:=by simpa using h
   rw[hne]
   rfl
 ·unfold Adm
  rw[split]
  unfold jnL
  by_cases h:jnE l a b=0
  ·obtain⟨h1,h2,h3⟩:=Bep.1 h
   have hl:a.cells.length=b.cells.length:=(AM h1).2.1.trans (AM h2).2.1.symm
   rw[h]
   show(II (0,b,a.key,a.cells)).snd.snd.snd=jnN a.cells b.cells b.cells.length
   rw[(Amo h1 h2).2,hl]
  ·have hne:(jnE l a b==0)=false:=by simpa using h
   rw[hne]
   rfl
theorem Bgj (a0:List TGroup) (a1:TRow) (a2:TRow) (hp:∀p∈Ah6 a0 a1 a2,p):CallOk Try.prog 74 [.sl .group a0,Ae .row a1,Ae .row a2] 0 [] 1 (Apz a0 a1 a2) 1 (Apy a0 a1 a2):=by
 have hw:∀g∈a0,Ao g.1.size:=hp _ (List.mem_cons_self ..)
 have g1:(!(BK a0 a1 a2))=true→Ai a0 a1=0:=fun h=>by
  have h':(!(Ai a0 a1 !=0))=true:=h
  simpa using h'
 have g2:(!(CJ a0 a1 a2))=true→Ai a0 a2=0:=fun h=>by
  have h':(!(Ai a0 a2 !=0))=true:=h
  simpa using h'
 have h:=Bkl a0 a1 a2 (Aa hw (Aa (fun _=>hw) (Aa (fun h _ _=>by
  have q1:=(AM (g1 h)).2.1
  have q2:=(G0 (AM (g1 h)).1).2
  have q3:a1.2.length=a0.length:=q1
  unfold Ag
  omega) (Aa (fun h h2 _=>(Amo (g1 h) (g2 h2)).1) Ad))))
 obtain⟨e1,e2,e3⟩:=Bys a0 a1 a2
 unfold Ado Adn at h
 rw[e1,e2,e3] at h
 exact h
def Azy:List A→Nat→Objs→Option AU:=A5 [.l .group,.t .row,.t .row] 1 Apz Apy Ah6
theorem Baj:Ev Try.prog 74 Azy:=As (ks:=[.l .group,.t .row,.t .row]) Bgj
noncomputable def Bcj:=AQ 74 Azy Bci
theorem Au1:Cp Try.prog Bcj:=Ak Baj Au0
abbrev Dr:Type:=(List TRow)×ByteArray×Int×ByteArray
def N9 (x:Dr):St:=⟨26,1,[(0,.sl .row x.1),(1,.v (.string x.2.1)),(4,.own 0 0),(6,.v (.int .i64 x.2.2.1))],[(0,some (.box 71 [.v (.string x.2.2.2),.v (.slice none 0 0)]))]⟩
def RF:St→Option Dr
 |⟨26,1,[(0,.sl .row z0),(1,.v (.string z1)),(4,.own 0 0),(6,.v (.int .i64 z2))],[(0,some (.box 71 [.v (.string z3),.v (.slice none 0 0)]))]⟩=>some (z0,z1,z2,z3)
 |_=>none
theorem Atr:∀s x,RF s=some x→s=N9 x:=fun s x h=>by
 unfold RF at h
 split at h
 ·cases h;rfl
 ·cases h
def Aim:CU:=⟨1,1,[0,1,4,6],[],[(0,0)],[0],[5],[0,1]⟩
def Bap:C9:=⟨[],[(0,0)],[0,1,4,6],[0]⟩
def Hd (a0:List TRow) (_a1:ByteArray) (a2:Int) (_a3:ByteArray):Bool:=!!decide (a2 <(↑a0.length:Int))
def FQ (a0:List TRow) (a1:ByteArray) (a2:Int) (a3:ByteArray):Bool:=(Hd a0 a1 a2 a3)&&(a0.getD a2.toNat (Ac TC.row)).1.toList==a1.toList
def A0f (a0:List TRow) (a1:ByteArray) (a2:Int) (a3:ByteArray):Bool:=(Hd a0 a1 a2 a3)&&!(FQ a0 a1 a2 a3)
def Kk (a0:List TRow) (_a1:ByteArray) (a2:Int) (_a3:ByteArray):ByteArray:=(a0.getD a2.toNat (Ac TC.row)).1
def Kl (a0:List TRow) (_a1:ByteArray) (a2:Int) (_a3:ByteArray):List TCell:=GY (a0.getD a2.toNat (Ac TC.row))
def Hf (x:Dr):Dr:=(x.1,x.2.1,IntKind.i64.wrap (x.2.2.1+(1:Int)),x.2.2.2)
def He (x:Dr):Cnd:=some (A0f x.1 x.2.1 x.2.2.1 x.2.2.2)
def Pz (x:Dr):List Prop:=[((Hd x.1 x.2.1 x.2.2.1 x.2.2.2)=true→(0:Int)≤x.2.2.1∧x.2.2.1 <(↑x.1.length:Int)),((Hd x.1 x.2.1 x.2.2.1 x.2.2.2)=true→((x.1.getD x.2.2.1.toNat (Ac TC.row)).1.toList==x.2.1.toList)=true→(0:Int)≤x.2.2.1∧x.2.2.1 <(↑x.1.length:Int)),((Hd x.1 x.2.1 x.2.2.1 x.2.2.2)=true→((x.1.getD x.2.2.1.toNat (Ac TC.row)).1.toList==x.2.1.toList)=true→Ag ((0:Nat)+(x.1.getD x.2.2.1.toNat (Ac TC.row)).2.length))]
abbrev J9:Dr→List Prop:=Pz
def Vk (x:Dr):Bb:=[(some 0,some (!decide (x.2.2.1 <(↑x.1.length:Int))),⟨26,1,[(5,.dead)],[(0,some (.box 71 [.v (.string x.2.2.2),.v (.slice none 0 0)])),(1,none)]⟩),(none,some ((FQ x.1 x.2.1 x.2.2.1 x.2.2.2)),⟨26,2,[(5,.v (.bool (true)))],[(0,some (.box 71 [.v (.string (Kk x.1 x.2.1 x.2.2.1 x.2.2.2)),.sq 1])),(1,some (.arr 55 8 (.ty .cell (Kl x.1 x.2.1 x.2.2.1 x.2.2.2))))]⟩)]
def IK (x:Dr):Nat:=((↑x.1.length:Int) - x.2.2.1).toNat
def Jq (x:Dr):Dr:=AZ Hf He (IK x) x
theorem A32 (a0:List TRow) (a1:ByteArray) (a2:Int) (a3:ByteArray):Bl (Au Bcj L0) 9 (Af Try.prog 148 0) Aim (N9 (a0,a1,a2,a3))=some (Pz (a0,a1,a2,a3),Vk (a0,a1,a2,a3),He (a0,a1,a2,a3),N9 (Hf (a0,a1,a2,a3))):=by kernel_rfl
theorem A33 (a0:List TRow) (a1:ByteArray) (a2:Int) (a3:ByteArray) (hp:∀p∈J9 (a0,a1,a2,a3),p):∀p∈Pz (a0,a1,a2,a3),p:=hp
noncomputable def XX:=Hw (Au Bcj L0) (Af Try.prog 148 0) Aim Bap RF IK Hf He J9 Vk
theorem A0g:∀s b ps outs,XX s=some (b,ps,outs)→Wf s ⟨ps,outs,none⟩∧Bh (Au C0 L0) b s ps outs:=
 A9 (T:=N9) Au1 Ay (u:=9) (by kernel_rfl) (by decide) (fun⟨a0,a1,a2,a3⟩=>A32 a0 a1 a2 a3) (fun⟨a0,a1,a2,a3⟩=>A33 a0 a1 a2 a3) Atr (fun _=>AH (n:=26) rfl) fun _ _=>rfl
noncomputable def Ail:=Di 0 XX L0
theorem A0e:G1 Ail:=AS A0g Ay
def Py (a0:List TRow) (a1:ByteArray):List TRow:=(Jq (a0,a1,(0:Int),ByteArray.mk #[])).fst
def Px (a0:List TRow) (a1:ByteArray):ByteArray:=(Jq (a0,a1,(0:Int),ByteArray.mk #[])).snd.fst
def Pw (a0:List TRow) (a1:ByteArray):ByteArray:=(Jq (a0,a1,(0:Int),ByteArray.mk #[])).snd.snd.snd
def Pv (a0:List TRow) (a1:ByteArray):Int:=(Jq (a0,a1,(0:Int),ByteArray.mk #[])).snd.snd.fst
def Pu (a0:List TRow) (a1:ByteArray):Bool:=FQ (Py a0 a1) (Px a0 a1) (Pv a0 a1) (Pw a0 a1)
def Amp (a0:List TRow) (a1:ByteArray):ByteArray:=bif(Pu a0 a1) then Kk (Py a0 a1) (Px a0 a1) (Pv a0 a1) (Pw a0 a1) else ByteArray.mk #[]
def Amq (a0:List TRow) (a1:ByteArray):Bool:=bif(Pu a0 a1) then true else false
def Amr (a0:List TRow) (a1:ByteArray):List TCell:=bif(Pu a0 a1) then Kl (Py a0 a1) (Px a0 a1) (Pv a0 a1) (Pw a0 a1) else[]
def Amt (a0:List TRow) (a1:ByteArray):A:=.tup [.agg [.v (.string (Amp a0 a1)),.sq 0],.v (.bool (Amq a0 a1))]
def Ams (a0:List TRow) (a1:ByteArray):Objs:=[(0,some (.arr 55 8 (.ty .cell (Amr a0 a1))))]
def A0i (a0:List TRow) (a1:ByteArray):List Prop:=[(AD Hf He J9 (IK (a0,a1,(0:Int),ByteArray.mk #[])) (a0,a1,(0:Int),ByteArray.mk #[]))]
theorem Bku (a0:List TRow) (a1:ByteArray):Er (Au Bcj Ail) 9 148 [Ae .rows a0,Ae .str a1] 0 []=some (1,Amt a0 a1,1,Ams a0 a1,[(Af Try.prog (148:FuncId) (0:Nat)=Af Try.prog (148:FuncId) (0:Nat)),(AD Hf He J9 (IK (a0,a1,(0:Int),ByteArray.mk #[])) (a0,a1,(0:Int),ByteArray.mk #[]))]):=by kernel_rfl
theorem Bp3 (a0:List TRow) (a1:ByteArray) (hp:∀p∈A0i a0 a1,p):CallOk Try.prog 148 [Ae .rows a0,Ae .str a1] 0 [] 1 (Amt a0 a1) 1 (Ams a0 a1):=by
 have n1:=N0 hp
 exact Az (Ap Au1 A0e) (Bku a0 a1) (Aa rfl (Aa n1 Ad))
def gtK (rows:List TRow) (key:ByteArray):ByteArray:=match atK rows key with
 |some r=>r.key
 |none=>⟨#[]⟩
def gtC (rows:List TRow) (key:ByteArray):List TCell:=match atK rows key with
 |some r=>r.cells
 |none=>[]
def gtB (rows:List TRow) (key:ByteArray):Bool:=match atK rows key with
 |some _=>true
 |none=>false
def A0j (a0:List TRow) (a1:ByteArray):A:=.tup [.agg [.v (.string (gtK a0 a1)),.sq 0],.v (.bool (gtB a0 a1))]
def A0h (a0:List TRow) (a1:ByteArray):Objs:=[(0,some (.arr 55 8 (.ty .cell (gtC a0 a1))))]
def Aqc (a0:List TRow) (_a1:ByteArray):List Prop:=[Ao a0.length,∀r∈a0,Ag r.cells.length]
theorem Byt (rows:List TRow) (key:ByteArray) (hb:Ao rows.length) (hc:∀r∈rows,Ag r.cells.length):(∀p∈A0i rows key,p)∧Amp rows key=gtK rows key∧Amq rows key=gtB rows key∧Amr rows key=gtC rows key:=by
 unfold Ao at hb
 have hk0:∀i:Nat,FQ rows key (i:Int) ⟨#[]⟩=(decide (i <rows.length)&&((Bn rows i).key==key)):=fun i=>by
  unfold FQ Hd
  rw[nn,Mp,tlb,Int.toNat_natCast]
  rfl
 obtain⟨h1,k,hk,hx,hs,hst,_⟩:=Ij (fun i=>((rows,key,(i:Int),⟨#[]⟩):Dr)) rows.length (fun i=>(Bn rows i).key==key) Hf He J9 (IK (rows,key,0,⟨#[]⟩)) (rows,key,0,⟨#[]⟩) rfl (by show rows.length≤((rows.length:Int) - 0).toNat;omega)
  (fun i _ _=>by
   show((!!decide ((i:Int) <(rows.length:Int)))&&!FQ rows key (i:Int) ⟨#[]⟩)=_
   rw[hk0,nn,Mp]
   cases decide (i <rows.length)<;>rfl)
  (fun i hi _=>by
   show(rows,key,IntKind.i64.wrap ((i:Int)+1),(⟨#[]⟩:ByteArray))=(rows,key,((i+1:Nat):Int),⟨#[]⟩)
   rw[Eu (by omega)])
  (fun i hi _=>by
   have hin:(!!decide ((i:Int) <(rows.length:Int)))=true→(i:Int) <(rows.length:Int):=fun h=>by rw[nn] at h;exact of_decide_eq_true h
   refine Aa (fun h=>⟨by show(0:Int)≤(i:Int);omega,hin h⟩) (Aa (fun h _=>⟨by show(0:Int)≤(i:Int);omega,hin h⟩) (Aa (fun h _=>?_) Ad))
   have h2:=hin h
   show Ag (0+(rows.getD ((i:Int)).toNat (Ac TC.row)).2.length)
   rw[Int.toNat_natCast,Nat.zero_add]
   exact hc _ (getD_in rows (Ac TC.row) i (by omega)))
 have hr:Jq (rows,key,0,⟨#[]⟩)=(rows,key,(k:Int),⟨#[]⟩):=hx
 have hat:=Bc5 key rows k hk hs hst
 refine⟨Aa h1 Ad,?_⟩
 have e0:Pu rows key=decide (k <rows.length):=by
  unfold Pu Py Px Pv Pw
  rw[hr]
  show FQ rows key (k:Int) ⟨#[]⟩=_
  rw[hk0]
  rcases Nat.lt_or_ge k rows.length with h|h
  ·have h2:((Bn rows k).key==key)=true:=hst h
   rw[decide_eq_true h,h2]
   rfl
  ·rw[decide_eq_false (by omega)]
   rfl
 unfold Amp Amq Amr gtK gtB gtC
 rw[e0,hat]
 unfold Py Px Pv Pw
 rw[hr]
 by_cases h:k <rows.length
 ·rw[decide_eq_true h,if_pos h]
  show Kk rows key (k:Int) ⟨#[]⟩=_∧true=true∧Kl rows key (k:Int) ⟨#[]⟩=_
  unfold Kk Kl
  rw[Int.toNat_natCast]
  exact⟨rfl,rfl,rfl⟩
 ·rw[decide_eq_false h,if_neg h]
  exact⟨rfl,rfl,rfl⟩
theorem Bkt (a0:List TRow) (a1:ByteArray) (hp:∀p∈Aqc a0 a1,p):CallOk Try.prog 148 [Ae .rows a0,Ae .str a1] 0 [] 1 (A0j a0 a1) 1 (A0h a0 a1):=by
 obtain⟨g1,e1,e2,e3⟩:=Byt a0 a1 (hp _ (List.mem_cons_self ..)) (hp _ (List.mem_cons_of_mem _ (List.mem_cons_self ..)))
 have h:=Bp3 a0 a1 g1
 unfold Amt Ams at h
 rw[e1,e2,e3] at h
 exact h
def Amu:List A→Nat→Objs→Option AU:=A5 [.t .rows,.t .str] 1 A0j A0h Aqc
theorem Aqd:Ev Try.prog 148 Amu:=As (ks:=[.t .rows,.t .str]) Bkt
noncomputable def Bck:=AQ 148 Amu Bcj
theorem Au2:Cp Try.prog Bck:=Ak Aqd Au1
abbrev Ds:Type:=(List TRow)×Bool×Int×TRow×(List TRow)
def Oa (x:Ds):St:=⟨54,3,[(0,.sl .row x.1),(3,.own 0 0),(5,.sq 2),(6,.v (.bool x.2.1)),(7,.v (.int .i64 x.2.2.1))],[(0,some (.box 71 [.v (.string x.2.2.2.1.key),.sl .cell x.2.2.2.1.cells])),(2,some (.arr 71 2 (.ty .row x.2.2.2.2)))]⟩
def RG:St→Option Ds
 |⟨54,3,[(0,.sl .row z0),(3,.own 0 0),(5,.sq 2),(6,.v (.bool z1)),(7,.v (.int .i64 z2))],[(0,some (.box 71 [.v (.string z3),.sl .cell z4])),(2,some (.arr 71 2 (.ty .row z5)))]⟩=>some (z0,z1,z2,⟨z3,z4⟩,z5)
 |_=>none
theorem Ats:∀s x,RG s=some x→s=Oa x:=fun s x h=>by
 unfold RG at h
 split at h
 ·cases h;rfl
 ·cases h
def Aio:CU:=⟨2,3,[0,3,5,6,7],[],[(0,0),(9,2)],[0,9],[5,6],[2,0]⟩
def Baq:C9:=⟨[.nil 5 71 .row],[(0,0),(1,2)],[0,3,5,6,7],[0,1]⟩
def FS (a0:List TRow) (_a1:Bool) (a2:Int) (_a3:TRow) (_a4:List TRow):Bool:=!!decide (a2 <(↑a0.length:Int))
def IL (a0:List TRow) (a1:Bool) (a2:Int) (a3:TRow) (_a4:List TRow):Bool:=!(a0.getD a2.toNat (Ac TC.row)).1.toList==(bif !a1&&!Op.bytesLess (a0.getD a2.toNat (Ac TC.row)).1.toList a3.1.toList then a3.1 else a3.1).toList
def FR (a0:List TRow) (a1:Bool) (a2:Int) (a3:TRow) (a4:List TRow):List TRow:=bif !a1&&!Op.bytesLess (a0.getD a2.toNat (Ac TC.row)).1.toList a3.1.toList then a4++[TRow.mk a3.1 (GY a3)] else a4
def LD (a0:List TRow) (a1:Bool) (a2:Int) (a3:TRow) (_a4:List TRow):Bool:=bif !a1&&!Op.bytesLess (a0.getD a2.toNat (Ac TC.row)).1.toList a3.1.toList then true else a1
def LE (a0:List TRow) (a1:Bool) (a2:Int) (a3:TRow) (_a4:List TRow):TRow:=TRow.mk (bif !a1&&!Op.bytesLess (a0.getD a2.toNat (Ac TC.row)).1.toList a3.1.toList then a3.1 else a3.1) (bif !a1&&!Op.bytesLess (a0.getD a2.toNat (Ac TC.row)).1.toList a3.1.toList then a3.2 else a3.2)
def LF (a0:List TRow) (a1:Bool) (a2:Int) (a3:TRow) (a4:List TRow):List TRow:=bif(IL a0 a1 a2 a3 a4) then(FR a0 a1 a2 a3 a4)++[a0.getD a2.toNat (Ac TC.row)] else(FR a0 a1 a2 a3 a4)
def Hh (x:Ds):Ds:=(x.1,LD x.1 x.2.1 x.2.2.1 x.2.2.2.1 x.2.2.2.2,IntKind.i64.wrap (x.2.2.1+(1:Int)),LE x.1 x.2.1 x.2.2.1 x.2.2.2.1 x.2.2.2.2,LF x.1 x.2.1 x.2.2.1 x.2.2.2.1 x.2.2.2.2)
def Hg (x:Ds):Cnd:=some ((FS x.1 x.2.1 x.2.2.1 x.2.2.2.1 x.2.2.2.2))
def PA (x:Ds):List Prop:=[((FS x.1 x.2.1 x.2.2.1 x.2.2.2.1 x.2.2.2.2)=true→(!x.2.1)=true→(0:Int)≤x.2.2.1∧x.2.2.1 <(↑x.1.length:Int)),((FS x.1 x.2.1 x.2.2.1 x.2.2.2.1 x.2.2.2.2)=true→(!x.2.1&&!Op.bytesLess (x.1.getD x.2.2.1.toNat (Ac TC.row)).1.toList x.2.2.2.1.1.toList)=true→Ag ((0:Nat)+x.2.2.2.1.2.length)),((FS x.1 x.2.1 x.2.2.1 x.2.2.2.1 x.2.2.2.2)=true→(!x.2.1&&!Op.bytesLess (x.1.getD x.2.2.1.toNat (Ac TC.row)).1.toList x.2.2.2.1.1.toList)=true→Ag (x.2.2.2.2.length+(1:Nat))),((FS x.1 x.2.1 x.2.2.1 x.2.2.2.1 x.2.2.2.2)=true→(0:Int)≤x.2.2.1∧x.2.2.1 <(↑x.1.length:Int)),((FS x.1 x.2.1 x.2.2.1 x.2.2.2.1 x.2.2.2.2)=true→(IL x.1 x.2.1 x.2.2.1 x.2.2.2.1 x.2.2.2.2)=true→(0:Int)≤x.2.2.1∧x.2.2.1 <(↑x.1.length:Int)),((FS x.1 x.2.1 x.2.2.1 x.2.2.2.1 x.2.2.2.2)=true→(IL x.1 x.2.1 x.2.2.1 x.2.2.2.1 x.2.2.2.2)=true→Ag ((FR x.1 x.2.1 x.2.2.1 x.2.2.2.1 x.2.2.2.2).length+(1:Nat)))]
abbrev Ka:Ds→List Prop:=PA
def Vl (x:Ds):Bb:=[(some 0,some (!decide (x.2.2.1 <(↑x.1.length:Int))),⟨54,3,[(5,.sq 2),(6,.v (.bool x.2.1))],[(2,some (.arr 71 2 (.ty .row x.2.2.2.2))),(0,some (.box 71 [.v (.string x.2.2.2.1.1),.sl .cell x.2.2.2.1.2]))]⟩)]
def IM (x:Ds):Nat:=((↑x.1.length:Int) - x.2.2.1).toNat
def GZ (x:Ds):Ds:=AZ Hh Hg (IM x) x
theorem A34 (a0:List TRow) (a1:Bool) (a2:Int) (a3:TRow) (a4:List TRow):Bl (Au Bck L0) 9 (Af Try.prog 178 0) Aio (Oa (a0,a1,a2,a3,a4))=some (PA (a0,a1,a2,a3,a4),Vl (a0,a1,a2,a3,a4),Hg (a0,a1,a2,a3,a4),Oa (Hh (a0,a1,a2,a3,a4))):=by kernel_rfl
theorem A35 (a0:List TRow) (a1:Bool) (a2:Int) (a3:TRow) (a4:List TRow) (hp:∀p∈Ka (a0,a1,a2,a3,a4),p):∀p∈PA (a0,a1,a2,a3,a4),p:=hp
noncomputable def XY:=Hw (Au Bck L0) (Af Try.prog 178 0) Aio Baq RG IM Hh Hg Ka Vl
theorem A0l:∀s b ps outs,XY s=some (b,ps,outs)→Wf s ⟨ps,outs,none⟩∧Bh (Au C0 L0) b s ps outs:=
 A9 (T:=Oa) Au2 Ay (u:=9) (by kernel_rfl) (by decide) (fun⟨a0,a1,a2,a3,a4⟩=>A34 a0 a1 a2 a3 a4) (fun⟨a0,a1,a2,a3,a4⟩=>A35 a0 a1 a2 a3 a4) Ats (fun _=>AH (n:=54) rfl) fun _ _=>rfl
noncomputable def Ain:=Di 0 XY L0
theorem A0k:G1 Ain:=AS A0l Ay
def Ml (a0:List TRow) (a1:TRow):Bool:=!(GZ (a0,false,(0:Int),a1,[])).snd.fst
def Mk (a0:List TRow) (a1:TRow):List TRow:=(GZ (a0,false,(0:Int),a1,[])).snd.snd.snd.snd
def Amv (a0:List TRow) (a1:TRow):List TRow:=bif(Ml a0 a1) then(Mk a0 a1)++[TRow.mk (GZ (a0,false,(0:Int),a1,[])).snd.snd.snd.fst.1 (GY (GZ (a0,false,(0:Int),a1,[])).snd.snd.snd.fst)] else(Mk a0 a1)
def Amx (_a0:List TRow) (_a1:TRow):A:=.sq 0
def Amw (a0:List TRow) (a1:TRow):Objs:=[(0,some (.arr 71 2 (.ty .row (Amv a0 a1))))]
def A0n (a0:List TRow) (a1:TRow):List Prop:=[(AD Hh Hg Ka (IM (a0,false,(0:Int),a1,[])) (a0,false,(0:Int),a1,[])),((Ml a0 a1)=true→Ag ((0:Nat)+(GZ (a0,false,(0:Int),a1,[])).snd.snd.snd.fst.2.length)),((Ml a0 a1)=true→Ag ((Mk a0 a1).length+(1:Nat)))]
theorem Bkw (a0:List TRow) (a1:TRow):Er (Au Bck Ain) 9 178 [Ae .rows a0,Ae .row a1] 0 []=some (1,Amx a0 a1,1,Amw a0 a1,[(Af Try.prog (178:FuncId) (0:Nat)=Af Try.prog (178:FuncId) (0:Nat)),(AD Hh Hg Ka (IM (a0,false,(0:Int),a1,[])) (a0,false,(0:Int),a1,[])),((Ml a0 a1)=true→Ag ((0:Nat)+(GZ (a0,false,(0:Int),a1,[])).snd.snd.snd.fst.2.length)),((Ml a0 a1)=true→Ag ((Mk a0 a1).length+(1:Nat)))]):=by kernel_rfl
theorem Bp4 (a0:List TRow) (a1:TRow) (hp:∀p∈A0n a0 a1,p):CallOk Try.prog 178 [Ae .rows a0,Ae .row a1] 0 [] 1 (Amx a0 a1) 1 (Amw a0 a1):=by
 have n1:=N0 hp
 have n2:=N0 (N1 hp)
 have n3:=N0 (N1 (N1 hp))
 exact Az (Ap Au2 A0k) (Bkw a0 a1) (Aa rfl (Aa n1 (Aa n2 (Aa n3 Ad))))
def B2o (l:List TRow) (r:TRow):List TRow:=B3m r (LM r l l.length)
def A0o (a0:List TRow) (a1:TRow):A:=.sl .row (B2o a0 a1)
def A0m (_a0:List TRow) (_a1:TRow):Objs:=[]
def Aqe (a0:List TRow) (a1:TRow):List Prop:=[a0.length≤400000∧Ag a1.cells.length]
theorem Byu (rows:List TRow) (r:TRow) (hb:rows.length≤400000) (hc:Ag r.cells.length):(∀p∈A0n rows r,p)∧Amv rows r=B2o rows r:=by
 have hlt:∀i:Nat,Op.bytesLess (rows.getD ((i:Int)).toNat (Ac TC.row)).1.toList r.1.toList=Jy (Bn rows i).key r.key:=fun i=>by rw[Int.toNat_natCast];rfl
 have same:∀(c:Bool) (x:ByteArray),(bif c then x else x)=x:=fun c x=>by cases c<;>rfl
 have hcp:GY r=r.2:=rfl
 have e1:∀(i:Nat) (d:Bool) (o:List TRow),LD rows d (i:Int) r o=(d||!Jy (Bn rows i).key r.key):=fun i d o=>by
  unfold LD
  rw[hlt]
  cases d<;>cases Jy (Bn rows i).key r.key<;>rfl
 have e3:∀(i:Nat) (d:Bool) (o:List TRow),LE rows d (i:Int) r o=r:=fun i d o=>by
  unfold LE
  rw[hlt]
  cases(!d&&!Jy (Bn rows i).key r.key)<;>rfl
 have ek0:∀(i:Nat) (d:Bool) (o:List TRow),FR rows d (i:Int) r o=bif !d&&!Jy (Bn rows i).key r.key then o++[r] else o:=fun i d o=>by
  unfold FR
  rw[hlt]
  rfl
 have ek1:∀(i:Nat) (d:Bool) (o:List TRow),IL rows d (i:Int) r o=!((Bn rows i).key==r.key):=fun i d o=>by
  unfold IL
  rw[same,tlb,Int.toNat_natCast]
  rfl
 have e4:∀(i:Nat) (d:Bool) (o:List TRow),LF rows d (i:Int) r o=(bif !d&&!Jy (Bn rows i).key r.key then o++[r] else o)++(bif(Bn rows i).key==r.key then[] else[Bn rows i]):=fun i d o=>by
  unfold LF
  rw[ek0,ek1,Int.toNat_natCast]
  cases(Bn rows i).key==r.key with
  |true=>exact(List.append_nil _).symm
  |false=>rfl
 have k0len:∀(i:Nat) (d:Bool) (o:List TRow),(FR rows d (i:Int) r o).length≤o.length+1:=fun i d o=>by
  rw[ek0]
  cases(!d&&!Jy (Bn rows i).key r.key) with
  |true=>rw[cond_true,List.length_append];exact Nat.le_refl _
  |false=>exact Nat.le_succ _
 obtain⟨h1,hx⟩:=Bog (fun i=>((rows,(LM r rows i).2,(i:Int),r,(LM r rows i).1):Ds)) rows.length Hh Hg Ka (IM (rows,false,0,r,[])) (rows,false,0,r,[]) rfl (by show rows.length≤((rows.length:Int) - 0).toNat;omega)
  (fun i _=>by
   show(!!decide ((i:Int) <(rows.length:Int)))=_
   rw[nn,Mp])
  (fun i hi=>by
   show(rows,LD rows (LM r rows i).2 (i:Int) r (LM r rows i).1,IntKind.i64.wrap ((i:Int)+1),LE rows (LM r rows i).2 (i:Int) r (LM r rows i).1,LF rows (LM r rows i).2 (i:Int) r (LM r rows i).1)=(rows,(LM r rows (i+1)).2,((i+1:Nat):Int),r,(LM r rows (i+1)).1)
   rw[Eu (by omega),e1,e3,e4,A6k r rows i hi]
   rfl)
  (fun i hi=>by
   have hin:(!!decide ((i:Int) <(rows.length:Int)))=true→(i:Int) <(rows.length:Int):=fun h=>by rw[nn] at h;exact of_decide_eq_true h
   have hl:=A1n r rows i hi
   refine Aa (fun h _=>⟨by show(0:Int)≤(i:Int);omega,hin h⟩) (Aa (fun _ _=>?_) (Aa (fun _ _=>?_) (Aa (fun h=>⟨by show(0:Int)≤(i:Int);omega,hin h⟩) (Aa (fun h _=>⟨by show(0:Int)≤(i:Int);omega,hin h⟩) (Aa (fun _ _=>?_) Ad)))))
   ·show Ag (0+r.2.length)
    rw[Nat.zero_add]
    exact hc
   ·show Ag ((LM r rows i).1.length+1)
    unfold Ag
    omega
   ·have:=k0len i (LM r rows i).2 (LM r rows i).1
    show Ag ((FR rows (LM r rows i).2 (i:Int) r (LM r rows i).1).length+1)
    unfold Ag
    omega)
 have hr:GZ (rows,false,0,r,[])=(rows,(LM r rows rows.length).2,(rows.length:Int),r,(LM r rows rows.length).1):=hx
 have hl:=A1n r rows rows.length (Nat.le_refl _)
 refine⟨Aa h1 (Aa (fun _=>?_) (Aa (fun _=>?_) Ad)),?_⟩
 ·rw[hr,Nat.zero_add]
  exact hc
 ·unfold Mk
  rw[hr]
  show Ag ((LM r rows rows.length).1.length+1)
  unfold Ag
  omega
 ·unfold Amv Ml Mk B2o B3m
  rw[hr]
  show(bif !(LM r rows rows.length).2 then(LM r rows rows.length).1++[r] else(LM r rows rows.length).1)=_
  cases(LM r rows rows.length).2<;>rfl
theorem Bkv (a0:List TRow) (a1:TRow) (hp:∀p∈Aqe a0 a1,p):CallOk Try.prog 178 [Ae .rows a0,Ae .row a1] 0 [] 1 (A0o a0 a1) 0 (A0m a0 a1):=by
 obtain⟨h1,h2⟩:=hp _ (List.mem_cons_self ..)
 obtain⟨g1,e1⟩:=Byu a0 a1 h1 h2
 have h:=Bp4 a0 a1 g1
 unfold Amx Amw at h
 rw[e1] at h
 exact Ajr (c:=.row) h
def A6e:List A→Nat→Objs→Option AU:=A5 [.t .rows,.t .row] 0 A0o A0m Aqe
theorem Bgv:Ev Try.prog 178 A6e:=As (ks:=[.t .rows,.t .row]) Bkv
noncomputable def Bz1:=AQ 178 A6e Bck
theorem Br7:Cp Try.prog Bz1:=Ak Bgv Au2
noncomputable def Cmg:=Bz1
theorem B1l:Cp Try.prog Cmg:=Br7
end Go.Proofs.Yteebobbhhgmeiaa
namespace Go.Proofs.Yteebobbhhgmeiaa
open Go.RowKit
def LZ (a0:Int):A:=.v (.bool (a0==(1:Int)||a0==(2:Int)))
def LY (_a0:Int):Objs:=[]
def La (_a0:Int):List Prop:=[]
theorem Af0 (a0:Int):Er (Au Cb L0) 9 96 [Ae .i64 a0] 0 []=some (1,LZ a0,0,LY a0,La a0):=by kernel_rfl
theorem Akf (a0:Int) (hp:∀p∈La a0,p):CallOk Try.prog 96 [Ae .i64 a0] 0 [] 1 (LZ a0) 0 (LY a0):=Az (Ap Bl3 Ay) (Af0 a0) hp
def Sf:List A→Nat→Objs→Option AU:=A5 [.t .i64] 0 LZ LY La
theorem Ab1:Ev Try.prog 96 Sf:=As (ks:=[.t .i64]) Akf
noncomputable def Bq5:=AQ 96 Sf Cb
theorem Bbw:Cp Try.prog Bq5:=Ak Ab1 Bl3
def M8 (a0:Int):Bool:=!(a0==(1:Int)||a0==(2:Int))
def Kf (a0:Int):Int:=bif(M8 a0) then(0:Int) else(0:Int)
def Je (a0:Int):TFront:=TFront.mk (bif(M8 a0) then(0:Int) else a0) (Kf a0) (Kf a0) (Kf a0) (Kf a0)
def Awe (a0:Int):Int:=bif(M8 a0) then(2:Int) else(0:Int)
def OO (a0:Int):A:=.v (.tuple ⟨[.agg ⟨[.int .i64 ((Je a0).site),.int .i64 ((Je a0).acked),.int .i64 ((Je a0).stable),.int .i64 ((Je a0).wait),.int .i64 ((Je a0).til)]⟩,.int .i64 (Awe a0)]⟩)
def ON (_a0:Int):Objs:=[]
def M9 (_a0:Int):List Prop:=[]
theorem Arx (a0:Int):Er (Au Bq5 L0) 9 24 [Ae .i64 a0] 0 []=some (1,OO a0,0,ON a0,M9 a0):=by kernel_rfl
theorem Awf (a0:Int) (hp:∀p∈M9 a0,p):CallOk Try.prog 24 [Ae .i64 a0] 0 [] 1 (OO a0) 0 (ON a0):=Az (Ap Bbw Ay) (Arx a0) hp
def V7:List A→Nat→Objs→Option AU:=A5 [.t .i64] 0 OO ON M9
theorem Akd:Ev Try.prog 24 V7:=As (ks:=[.t .i64]) Awf
noncomputable def Bq6:=AQ 24 V7 Bq5
theorem Bbx:Cp Try.prog Bq6:=Ak Akd Bbw
def Sb (a0:TFront):Bool:=decide (a0.4 <(0:Int))||decide (a0.4 >(1099511627776:Int))
def Sa (a0:TFront):Bool:=decide (a0.3 <(0:Int))||decide (a0.3 >(1099511627776:Int))
def R9 (a0:TFront):Bool:=decide (a0.2 <(0:Int))||decide (a0.2 >(1099511627776:Int))
def ID (a0:TFront):Bool:=bif(R9 a0)||((Sa a0)||((Sb a0)||(decide (a0.5 <(0:Int))||decide (a0.5 >(1099511627776:Int))))) then bif(R9 a0) then false else bif(Sa a0) then false else bif(Sb a0) then false else false else(a0.1==(1:Int)||a0.1==(2:Int))&&decide (max a0.3 a0.4≤a0.2)&&!(a0.5==(0:Int)&&decide (a0.4 >(0:Int)))
def M7 (a0:TFront):A:=.v (.bool (ID a0))
def M6 (_a0:TFront):Objs:=[]
def LT (_a0:TFront):List Prop:=[]
theorem Aj9 (a0:TFront):Er (Au Bq6 L0) 9 34 [Ae .front a0] 0 []=some (1,M7 a0,0,M6 a0,LT a0):=by kernel_rfl
theorem Art (a0:TFront) (hp:∀p∈LT a0,p):CallOk Try.prog 34 [Ae .front a0] 0 [] 1 (M7 a0) 0 (M6 a0):=Az (Ap Bbx Ay) (Aj9 a0) hp
def UI:List A→Nat→Objs→Option AU:=A5 [.t .front] 0 M7 M6 LT
theorem Aft:Ev Try.prog 34 UI:=As (ks:=[.t .front]) Art
noncomputable def Bq7:=AQ 34 UI Bq6
theorem Bby:Cp Try.prog Bq7:=Ak Aft Bbx
def CV (a0:TFront) (a1:TVec):Int:=bif !ID a0||!BG a1 then(2:Int) else(0:Int)
def LX (a0:TFront) (a1:TVec):A:=.v (.int .i64 (CV a0 a1))
def LW (_a0:TFront) (_a1:TVec):Objs:=[]
def K9 (_a0:TFront) (_a1:TVec):List Prop:=[]
theorem Afz (a0:TFront) (a1:TVec):Er (Au Bq7 L0) 9 97 [Ae .front a0,Ae .vec a1] 0 []=some (1,LX a0 a1,0,LW a0 a1,K9 a0 a1):=by kernel_rfl
theorem Ake (a0:TFront) (a1:TVec) (hp:∀p∈K9 a0 a1,p):CallOk Try.prog 97 [Ae .front a0,Ae .vec a1] 0 [] 1 (LX a0 a1) 0 (LW a0 a1):=Az (Ap Bby Ay) (Afz a0 a1) hp
def Se:List A→Nat→Objs→Option AU:=A5 [.t .front,.t .vec] 0 LX LW K9
theorem Ab0:Ev Try.prog 97 Se:=As (ks:=[.t .front,.t .vec]) Ake
noncomputable def Bq8:=AQ 97 Se Bq7
theorem Bbz:Cp Try.prog Bq8:=Ak Ab0 Bby
theorem B2e {s:Int} (h:s=1∨s=2):0≤IntKind.i64.wrap (2 - s)∧IntKind.i64.wrap (2 - s) <2:=by
 rcases h with rfl|rfl<;>decide
theorem B3v {s:Int} (h:s=1∨s=2):0≤IntKind.i64.wrap (s - 1)∧IntKind.i64.wrap (s - 1) <2:=by
 rcases h with rfl|rfl<;>decide
theorem OH {f:TFront} {v:TVec} (h:(!(CV f v !=0))=true):f.site=1∨f.site=2:=by
 have hg:ID f=true:=by
  unfold CV at h
  cases hg:ID f with
  |true=>rfl
  |false=>rw[hg] at h;cases h
 unfold ID at hg
 rw[Bool.cond_eq_ite] at hg
 split at hg
 ·repeat' (first|(cases hg;done)|(rw[Bool.cond_eq_ite] at hg;split at hg))
 ·simp only[Bool.and_eq_true,Bool.or_eq_true,beq_iff_eq] at hg
  exact hg.1.1
theorem B39 {c d:Bool} {s:Int}:(bif c then s else bif d then s else s)=s:=by cases c<;>cases d<;>rfl
def AL (a0:TFront) (_a1:TVec):Int:=IntKind.i64.wrap ((2:Int) - a0.1)
def Aj (a0:TFront) (a1:TVec):Int:=bif(AL a0 a1).toNat.beq (0:Nat) then a1.1 else a1.2
def I0 (a0:TFront) (a1:TVec):A:=.v (.int .i64 (Aj a0 a1))
def IZ (_a0:TFront) (_a1:TVec):Objs:=[]
def K4 (a0:TFront) (a1:TVec):List Prop:=[((0:Int)≤(AL a0 a1)∧(AL a0 a1) <(2:Int))]
theorem TG (a0:TFront) (a1:TVec):Er (Au Bq8 L0) 9 98 [Ae .front a0,Ae .vec a1] 0 []=some (1,I0 a0 a1,0,IZ a0 a1,[((0:Int)≤(AL a0 a1)∧(AL a0 a1) <(2:Int)),((AL a0 a1).toNat <(2:Nat))]):=by kernel_rfl
theorem Vz (a0:TFront) (a1:TVec) (hp:∀p∈K4 a0 a1,p):CallOk Try.prog 98 [Ae .front a0,Ae .vec a1] 0 [] 1 (I0 a0 a1) 0 (IZ a0 a1):=by
 have n0:=N0 hp
 have n1:((AL a0 a1).toNat <(2:Nat)):=by omega
 exact Az (Ap Bbz Ay) (TG a0 a1) (Aa n0 (Aa n1 Ad))
def LN:List A→Nat→Objs→Option AU:=A5 [.t .front,.t .vec] 0 I0 IZ K4
theorem R8:Ev Try.prog 98 LN:=As (ks:=[.t .front,.t .vec]) Vz
noncomputable def Bq9:=AQ 98 LN Bq8
theorem Bb0:Cp Try.prog Bq9:=Ak R8 Bbz
def CY (a0:TFront) (a1:TVec):Bool:=decide (a0.5 >(0:Int))&&decide (Aj a0 a1≥a0.5)
def AE (a0:TFront) (a1:TVec):TFront:=TFront.mk (bif(CY a0 a1) then a0.1 else a0.1) (bif(CY a0 a1) then a0.2 else a0.2) (bif(CY a0 a1) then max a0.3 a0.4 else a0.3) (bif(CY a0 a1) then(0:Int) else a0.4) (bif(CY a0 a1) then(0:Int) else a0.5)
def HA (a0:TFront) (a1:TVec):A:=.v (.agg ⟨[.int .i64 ((AE a0 a1).site),.int .i64 ((AE a0 a1).acked),.int .i64 ((AE a0 a1).stable),.int .i64 ((AE a0 a1).wait),.int .i64 ((AE a0 a1).til)]⟩)
def Hz (_a0:TFront) (_a1:TVec):Objs:=[]
def G4 (a0:TFront) (a1:TVec):List Prop:=[(decide (a0.5 >(0:Int))=true→(0:Int)≤AL a0 a1∧AL a0 a1 <(2:Int))]
theorem PS (a0:TFront) (a1:TVec):Er (Au Bq9 L0) 9 99 [Ae .front a0,Ae .vec a1] 0 []=some (1,HA a0 a1,0,Hz a0 a1,G4 a0 a1):=by kernel_rfl
theorem Q9 (a0:TFront) (a1:TVec) (hp:∀p∈G4 a0 a1,p):CallOk Try.prog 99 [Ae .front a0,Ae .vec a1] 0 [] 1 (HA a0 a1) 0 (Hz a0 a1):=Az (Ap Bb0 Ay) (PS a0 a1) hp
def J3:List A→Nat→Objs→Option AU:=A5 [.t .front,.t .vec] 0 HA Hz G4
theorem OK:Ev Try.prog 99 J3:=As (ks:=[.t .front,.t .vec]) Q9
noncomputable def Bra:=AQ 99 J3 Bq9
theorem Bb1:Cp Try.prog Bra:=Ak OK Bb0
def I3 (a0:TFront) (a1:TVec) (a2:Int) (_a3:Int):Int:=AL (TFront.mk a0.1 (max a0.2 a2) a0.3 a0.4 a0.5) a1
def AX (a0:TFront) (a1:TVec) (_a2:Int) (_a3:Int):Bool:=CV a0 a1 !=(0:Int)
def Cw (a0:TFront) (_a1:TVec) (_a2:Int) (_a3:Int):Int:=IntKind.i64.wrap (a0.1 - (1:Int))
def BH (a0:TFront) (a1:TVec) (a2:Int) (a3:Int):Bool:=decide (a2 <(0:Int))||decide (a2 >bif(Cw a0 a1 a2 a3).toNat.beq (0:Nat) then a1.1 else a1.2)||decide (a3 <(0:Int))||decide (a3 >(1099511627776:Int))
def I2 (a0:TFront) (a1:TVec) (a2:Int) (a3:Int):Int:=AL (TFront.mk (bif decide (Aj (TFront.mk a0.1 (max a0.2 a2) a0.3 a0.4 a0.5) a1≥a3) then a0.1 else bif a0.5==(0:Int)&&decide (a2 >a0.3) then a0.1 else a0.1) (bif decide (Aj (TFront.mk a0.1 (max a0.2 a2) a0.3 a0.4 a0.5) a1≥a3) then max a0.2 a2 else bif a0.5==(0:Int)&&decide (a2 >a0.3) then max a0.2 a2 else max a0.2 a2) (bif decide (Aj (TFront.mk a0.1 (max a0.2 a2) a0.3 a0.4 a0.5) a1≥a3) then max a0.3 a2 else bif a0.5==(0:Int)&&decide (a2 >a0.3) then a0.3 else a0.3) (bif decide (Aj (TFront.mk a0.1 (max a0.2 a2) a0.3 a0.4 a0.5) a1≥a3) then a0.4 else bif a0.5==(0:Int)&&decide (a2 >a0.3) then a2 else a0.4) (bif decide (Aj (TFront.mk a0.1 (max a0.2 a2) a0.3 a0.4 a0.5) a1≥a3) then a0.5 else bif a0.5==(0:Int)&&decide (a2 >a0.3) then a3 else a0.5)) a1
def HO (a0:TFront) (a1:TVec) (a2:Int) (a3:Int):TFront:=TFront.mk (bif(AX a0 a1 a2 a3) then(0:Int) else bif(BH a0 a1 a2 a3) then(0:Int) else(AE (TFront.mk (bif decide (Aj (TFront.mk a0.1 (max a0.2 a2) a0.3 a0.4 a0.5) a1≥a3) then a0.1 else bif a0.5==(0:Int)&&decide (a2 >a0.3) then a0.1 else a0.1) (bif decide (Aj (TFront.mk a0.1 (max a0.2 a2) a0.3 a0.4 a0.5) a1≥a3) then max a0.2 a2 else bif a0.5==(0:Int)&&decide (a2 >a0.3) then max a0.2 a2 else max a0.2 a2) (bif decide (Aj (TFront.mk a0.1 (max a0.2 a2) a0.3 a0.4 a0.5) a1≥a3) then max a0.3 a2 else bif a0.5==(0:Int)&&decide (a2 >a0.3) then a0.3 else a0.3) (bif decide (Aj (TFront.mk a0.1 (max a0.2 a2) a0.3 a0.4 a0.5) a1≥a3) then a0.4 else bif a0.5==(0:Int)&&decide (a2 >a0.3) then a2 else a0.4) (bif decide (Aj (TFront.mk a0.1 (max a0.2 a2) a0.3 a0.4 a0.5) a1≥a3) then a0.5 else bif a0.5==(0:Int)&&decide (a2 >a0.3) then a3 else a0.5)) a1).1) (bif(AX a0 a1 a2 a3) then(0:Int) else bif(BH a0 a1 a2 a3) then(0:Int) else(AE (TFront.mk (bif decide (Aj (TFront.mk a0.1 (max a0.2 a2) a0.3 a0.4 a0.5) a1≥a3) then a0.1 else bif a0.5==(0:Int)&&decide (a2 >a0.3) then a0.1 else a0.1) (bif decide (Aj (TFront.mk a0.1 (max a0.2 a2) a0.3 a0.4 a0.5) a1≥a3) then max a0.2 a2 else bif a0.5==(0:Int)&&decide (a2 >a0.3) then max a0.2 a2 else max a0.2 a2) (bif decide (Aj (TFront.mk a0.1 (max a0.2 a2) a0.3 a0.4 a0.5) a1≥a3) then max a0.3 a2 else bif a0.5==(0:Int)&&decide (a2 >a0.3) then a0.3 else a0.3) (bif decide (Aj (TFront.mk a0.1 (max a0.2 a2) a0.3 a0.4 a0.5) a1≥a3) then a0.4 else bif a0.5==(0:Int)&&decide (a2 >a0.3) then a2 else a0.4) (bif decide (Aj (TFront.mk a0.1 (max a0.2 a2) a0.3 a0.4 a0.5) a1≥a3) then a0.5 else bif a0.5==(0:Int)&&decide (a2 >a0.3) then a3 else a0.5)) a1).2) (bif(AX a0 a1 a2 a3) then(0:Int) else bif(BH a0 a1 a2 a3) then(0:Int) else(AE (TFront.mk (bif decide (Aj (TFront.mk a0.1 (max a0.2 a2) a0.3 a0.4 a0.5) a1≥a3) then a0.1 else bif a0.5==(0:Int)&&decide (a2 >a0.3) then a0.1 else a0.1) (bif decide (Aj (TFront.mk a0.1 (max a0.2 a2) a0.3 a0.4 a0.5) a1≥a3) then max a0.2 a2 else bif a0.5==(0:Int)&&decide (a2 >a0.3) then max a0.2 a2 else max a0.2 a2) (bif decide (Aj (TFront.mk a0.1 (max a0.2 a2) a0.3 a0.4 a0.5) a1≥a3) then max a0.3 a2 else bif a0.5==(0:Int)&&decide (a2 >a0.3) then a0.3 else a0.3) (bif decide (Aj (TFront.mk a0.1 (max a0.2 a2) a0.3 a0.4 a0.5) a1≥a3) then a0.4 else bif a0.5==(0:Int)&&decide (a2 >a0.3) then a2 else a0.4) (bif decide (Aj (TFront.mk a0.1 (max a0.2 a2) a0.3 a0.4 a0.5) a1≥a3) then a0.5 else bif a0.5==(0:Int)&&decide (a2 >a0.3) then a3 else a0.5)) a1).3) (bif(AX a0 a1 a2 a3) then(0:Int) else bif(BH a0 a1 a2 a3) then(0:Int) else(AE (TFront.mk (bif decide (Aj (TFront.mk a0.1 (max a0.2 a2) a0.3 a0.4 a0.5) a1≥a3) then a0.1 else bif a0.5==(0:Int)&&decide (a2 >a0.3) then a0.1 else a0.1) (bif decide (Aj (TFront.mk a0.1 (max a0.2 a2) a0.3 a0.4 a0.5) a1≥a3) then max a0.2 a2 else bif a0.5==(0:Int)&&decide (a2 >a0.3) then max a0.2 a2 else max a0.2 a2) (bif decide (Aj (TFront.mk a0.1 (max a0.2 a2) a0.3 a0.4 a0.5) a1≥a3) then max a0.3 a2 else bif a0.5==(0:Int)&&decide (a2 >a0.3) then a0.3 else a0.3) (bif decide (Aj (TFront.mk a0.1 (max a0.2 a2) a0.3 a0.4 a0.5) a1≥a3) then a0.4 else bif a0.5==(0:Int)&&decide (a2 >a0.3) then a2 else a0.4) (bif decide (Aj (TFront.mk a0.1 (max a0.2 a2) a0.3 a0.4 a0.5) a1≥a3) then a0.5 else bif a0.5==(0:Int)&&decide (a2 >a0.3) then a3 else a0.5)) a1).4) (bif(AX a0 a1 a2 a3) then(0:Int) else bif(BH a0 a1 a2 a3) then(0:Int) else(AE (TFront.mk (bif decide (Aj (TFront.mk a0.1 (max a0.2 a2) a0.3 a0.4 a0.5) a1≥a3) then a0.1 else bif a0.5==(0:Int)&&decide (a2 >a0.3) then a0.1 else a0.1) (bif decide (Aj (TFront.mk a0.1 (max a0.2 a2) a0.3 a0.4 a0.5) a1≥a3) then max a0.2 a2 else bif a0.5==(0:Int)&&decide (a2 >a0.3) then max a0.2 a2 else max a0.2 a2) (bif decide (Aj (TFront.mk a0.1 (max a0.2 a2) a0.3 a0.4 a0.5) a1≥a3) then max a0.3 a2 else bif a0.5==(0:Int)&&decide (a2 >a0.3) then a0.3 else a0.3) (bif decide (Aj (TFront.mk a0.1 (max a0.2 a2) a0.3 a0.4 a0.5) a1≥a3) then a0.4 else bif a0.5==(0:Int)&&decide (a2 >a0.3) then a2 else a0.4) (bif decide (Aj (TFront.mk a0.1 (max a0.2 a2) a0.3 a0.4 a0.5) a1≥a3) then a0.5 else bif a0.5==(0:Int)&&decide (a2 >a0.3) then a3 else a0.5)) a1).5)
def Aka (a0:TFront) (a1:TVec) (a2:Int) (a3:Int):Int:=bif(AX a0 a1 a2 a3) then CV a0 a1 else bif(BH a0 a1 a2 a3) then(2:Int) else(0:Int)
def LV (a0:TFront) (a1:TVec) (a2:Int) (a3:Int):A:=.v (.tuple ⟨[.agg ⟨[.int .i64 ((HO a0 a1 a2 a3).site),.int .i64 ((HO a0 a1 a2 a3).acked),.int .i64 ((HO a0 a1 a2 a3).stable),.int .i64 ((HO a0 a1 a2 a3).wait),.int .i64 ((HO a0 a1 a2 a3).til)]⟩,.int .i64 (Aka a0 a1 a2 a3)]⟩)
def LU (_a0:TFront) (_a1:TVec) (_a2:Int) (_a3:Int):Objs:=[]
def P6 (a0:TFront) (a1:TVec) (a2:Int) (a3:Int):List Prop:=[((!(AX a0 a1 a2 a3))=true→decide (a2 <(0:Int))=false→(0:Int)≤(Cw a0 a1 a2 a3)∧(Cw a0 a1 a2 a3) <(2:Int)),((!(AX a0 a1 a2 a3))=true→(!(BH a0 a1 a2 a3))=true→(0:Int)≤(I3 a0 a1 a2 a3)∧(I3 a0 a1 a2 a3) <(2:Int)),((!(AX a0 a1 a2 a3))=true→(!(BH a0 a1 a2 a3))=true→decide ((bif decide (Aj (TFront.mk a0.1 (max a0.2 a2) a0.3 a0.4 a0.5) a1≥a3) then a0.5 else bif a0.5==(0:Int)&&decide (a2 >a0.3) then a3 else a0.5) >(0:Int))=true→(0:Int)≤(I2 a0 a1 a2 a3)∧(I2 a0 a1 a2 a3) <(2:Int))]
theorem Afu (a0:TFront) (a1:TVec) (a2:Int) (a3:Int):Er (Au Bra L0) 9 26 [Ae .front a0,Ae .vec a1,Ae .i64 a2,Ae .i64 a3] 0 []=some (1,LV a0 a1 a2 a3,0,LU a0 a1 a2 a3,[((!(AX a0 a1 a2 a3))=true→decide (a2 <(0:Int))=false→(0:Int)≤(Cw a0 a1 a2 a3)∧(Cw a0 a1 a2 a3) <(2:Int)),((!(AX a0 a1 a2 a3))=true→decide (a2 <(0:Int))=false→(Cw a0 a1 a2 a3).toNat <(2:Nat)),((!(AX a0 a1 a2 a3))=true→(!(BH a0 a1 a2 a3))=true→(0:Int)≤(I3 a0 a1 a2 a3)∧(I3 a0 a1 a2 a3) <(2:Int)),((!(AX a0 a1 a2 a3))=true→(!(BH a0 a1 a2 a3))=true→decide ((bif decide (Aj (TFront.mk a0.1 (max a0.2 a2) a0.3 a0.4 a0.5) a1≥a3) then a0.5 else bif a0.5==(0:Int)&&decide (a2 >a0.3) then a3 else a0.5) >(0:Int))=true→(0:Int)≤(I2 a0 a1 a2 a3)∧(I2 a0 a1 a2 a3) <(2:Int))]):=by kernel_rfl
theorem Akb (a0:TFront) (a1:TVec) (a2:Int) (a3:Int) (hp:∀p∈P6 a0 a1 a2 a3,p):CallOk Try.prog 26 [Ae .front a0,Ae .vec a1,Ae .i64 a2,Ae .i64 a3] 0 [] 1 (LV a0 a1 a2 a3) 0 (LU a0 a1 a2 a3):=by
 have n0:((!(AX a0 a1 a2 a3))=true→decide (a2 <(0:Int))=false→(0:Int)≤(Cw a0 a1 a2 a3)∧(Cw a0 a1 a2 a3) <(2:Int)):=N0 hp
 have n1:((!(AX a0 a1 a2 a3))=true→decide (a2 <(0:Int))=false→(Cw a0 a1 a2 a3).toNat <(2:Nat)):=by intro h0 h1;have g:=n0 h0 h1;omega
 have n2:=N0 (N1 hp)
 have n3:=N0 (N1 (N1 hp))
 exact Az (Ap Bb1 Ay) (Afu a0 a1 a2 a3) (Aa n0 (Aa n1 (Aa n2 (Aa n3 Ad))))
theorem Abw (a0:TFront) (a1:TVec) (a2:Int) (a3:Int):∀p∈P6 a0 a1 a2 a3,p:=by
 refine Aa (fun h _=>B3v (OH (f:=a0) (v:=a1) h)) (Aa (fun h _=>B2e (OH (f:=a0) (v:=a1) h)) (Aa (fun h _ _=>?_) Ad))
 show 0≤IntKind.i64.wrap (2 - (bif _ then a0.1 else bif _ then a0.1 else a0.1))∧IntKind.i64.wrap (2 - (bif _ then a0.1 else bif _ then a0.1 else a0.1)) <2
 rw[B39]
 exact B2e (OH (f:=a0) (v:=a1) h)
def Sc:List A→Nat→Objs→Option AU:=A5 [.t .front,.t .vec,.t .i64,.t .i64] 0 LV LU (fun _ _ _ _=>([]:List Prop))
theorem Abx:Ev Try.prog 26 Sc:=As (ks:=[.t .front,.t .vec,.t .i64,.t .i64]) (fun a0 a1 a2 a3 _=>Akb a0 a1 a2 a3 (Abw a0 a1 a2 a3))
noncomputable def Brb:=AQ 26 Sc Bra
theorem Bb2:Cp Try.prog Brb:=Ak Abx Bb1
def Du (a0:TFront) (a1:TVec):Bool:=CV a0 a1 !=(0:Int)
def Hl (a0:TFront) (a1:TVec):TFront:=TFront.mk (bif(Du a0 a1) then(0:Int) else(AE a0 a1).1) (bif(Du a0 a1) then(0:Int) else(AE a0 a1).2) (bif(Du a0 a1) then(0:Int) else(AE a0 a1).3) (bif(Du a0 a1) then(0:Int) else(AE a0 a1).4) (bif(Du a0 a1) then(0:Int) else(AE a0 a1).5)
def Afv (a0:TFront) (a1:TVec):Int:=bif(Du a0 a1) then CV a0 a1 else(0:Int)
def K6 (a0:TFront) (a1:TVec):A:=.v (.tuple ⟨[.agg ⟨[.int .i64 ((Hl a0 a1).site),.int .i64 ((Hl a0 a1).acked),.int .i64 ((Hl a0 a1).stable),.int .i64 ((Hl a0 a1).wait),.int .i64 ((Hl a0 a1).til)]⟩,.int .i64 (Afv a0 a1)]⟩)
def K5 (_a0:TFront) (_a1:TVec):Objs:=[]
def Ks (a0:TFront) (a1:TVec):List Prop:=[((!(Du a0 a1))=true→decide (a0.5 >(0:Int))=true→(0:Int)≤AL a0 a1∧AL a0 a1 <(2:Int))]
theorem Aby (a0:TFront) (a1:TVec):Er (Au Brb L0) 9 27 [Ae .front a0,Ae .vec a1] 0 []=some (1,K6 a0 a1,0,K5 a0 a1,Ks a0 a1):=by kernel_rfl
theorem Afw (a0:TFront) (a1:TVec) (hp:∀p∈Ks a0 a1,p):CallOk Try.prog 27 [Ae .front a0,Ae .vec a1] 0 [] 1 (K6 a0 a1) 0 (K5 a0 a1):=Az (Ap Bb2 Ay) (Aby a0 a1) hp
theorem YZ (a0:TFront) (a1:TVec):∀p∈Ks a0 a1,p:=
 Aa (fun h _=>B2e (OH (f:=a0) (v:=a1) h)) Ad
def P7:List A→Nat→Objs→Option AU:=A5 [.t .front,.t .vec] 0 K6 K5 (fun _ _=>([]:List Prop))
theorem Y0:Ev Try.prog 27 P7:=As (ks:=[.t .front,.t .vec]) (fun a0 a1 _=>Afw a0 a1 (YZ a0 a1))
noncomputable def Brc:=AQ 27 P7 Brb
theorem Bb3:Cp Try.prog Brc:=Ak Y0 Bb2
def CE (a0:TFront) (a1:TVec):Bool:=CV a0 a1 !=(0:Int)
def Bx (a0:TFront) (_a1:TVec):Int:=IntKind.i64.wrap (a0.1 - (1:Int))
def P8 (a0:TFront) (a1:TVec):TVec:=TVec.mk (bif(CE a0 a1) then(0:Int) else bif(Bx a0 a1).toNat.beq (0:Nat) then a0.3 else a1.1) (bif(CE a0 a1) then(0:Int) else bif(Bx a0 a1).toNat.beq (1:Nat) then a0.3 else a1.2)
def Afx (a0:TFront) (a1:TVec):Int:=bif(CE a0 a1) then CV a0 a1 else(0:Int)
def K8 (a0:TFront) (a1:TVec):A:=.v (.tuple ⟨[.agg ⟨[.int .i64 ((P8 a0 a1).a),.int .i64 ((P8 a0 a1).b)]⟩,.int .i64 (Afx a0 a1)]⟩)
def K7 (_a0:TFront) (_a1:TVec):Objs:=[]
def OP (a0:TFront) (a1:TVec):List Prop:=[((!(CE a0 a1))=true→(0:Int)≤(Bx a0 a1)∧(Bx a0 a1) <(2:Int))]
theorem Abz (a0:TFront) (a1:TVec):Er (Au Brc L0) 9 31 [Ae .front a0,Ae .vec a1] 0 []=some (1,K8 a0 a1,0,K7 a0 a1,[((!(CE a0 a1))=true→(0:Int)≤(Bx a0 a1)∧(Bx a0 a1) <(2:Int)),((!(CE a0 a1))=true→(Bx a0 a1).toNat <(2:Nat))]):=by kernel_rfl
theorem Afy (a0:TFront) (a1:TVec) (hp:∀p∈OP a0 a1,p):CallOk Try.prog 31 [Ae .front a0,Ae .vec a1] 0 [] 1 (K8 a0 a1) 0 (K7 a0 a1):=by
 have n0:((!(CE a0 a1))=true→(0:Int)≤(Bx a0 a1)∧(Bx a0 a1) <(2:Int)):=N0 hp
 have n1:((!(CE a0 a1))=true→(Bx a0 a1).toNat <(2:Nat)):=by intro h0;have g:=n0 h0;omega
 exact Az (Ap Bb3 Ay) (Abz a0 a1) (Aa n0 (Aa n1 Ad))
theorem Y1 (a0:TFront) (a1:TVec):∀p∈OP a0 a1,p:=
 Aa (fun h=>B3v (OH (f:=a0) (v:=a1) h)) Ad
def P9:List A→Nat→Objs→Option AU:=A5 [.t .front,.t .vec] 0 K8 K7 (fun _ _=>([]:List Prop))
theorem Y2:Ev Try.prog 31 P9:=As (ks:=[.t .front,.t .vec]) (fun a0 a1 _=>Afy a0 a1 (Y1 a0 a1))
noncomputable def Bzr:=AQ 31 P9 Brc
theorem Brd:Cp Try.prog Bzr:=Ak Y2 Bb3
def WD:A:=.v (.bool (true))
def WC:Objs:=[]
def TS:List Prop:=[]
theorem A84:Er (Au Bzr L0) 1040 25 [] 0 []=some (1,WD,0,WC,TS):=by kernel_rfl
theorem Bez (hp:∀p∈TS,p):CallOk Try.prog 25 [] 0 [] 1 (WD) 0 (WC):=Az (Ap Brd Ay) (A84) hp
def Aop:List A→Nat→Objs→Option AU:=A5 [] 0 WD WC TS
theorem A2z:Ev Try.prog 25 Aop:=As (ks:=[]) Bez
end Go.Proofs.Yteebobbhhgmeiaa
namespace Go.Proofs.Yteebobbhhgmeiaa
open Go.RowKit
theorem Bcy {X:Type} (mk:Nat→Int→X) (len:Nat) (step:Nat→Int→Int) (P:Nat→Prop) (m c:Int) (s:Bool) (next:X→X) (goes:X→Cnd) (ps:X→List Prop)
  (hs:∀i n,i <len→0≤n→0≤step i n∧(step i n≤m→n+c≤step i n∧P i)) (hc:0≤c)
  (hg:∀i n,i≤len→Be (goes (mk i n))=(decide (i <len)&&(s||decide (n≤m)))) (hn:∀i n,i <len→0≤n→next (mk i n)=mk (i+1) (step i n))
  (hp:∀i n,i≤len→0≤n→∀p∈ps (mk i n),p):
  ∀(f i:Nat) (n:Int),i≤len→len≤i+f→0≤n→
  AD next goes ps f (mk i n)∧∃k n',AZ next goes f (mk i n)=mk k n'∧0≤n'∧(n'≤m→n+c*((len:Int) - (i:Int))≤n'∧∀j,i≤j→j <len→P j)
 |0,i,n,hi,hf,h0=>by
  obtain rfl:i=len:=by omega
  have hb:=hg i n (Nat.le_refl _)
  rw[decide_eq_false (Nat.lt_irrefl _),Bool.false_and] at hb
  exact⟨⟨hp i n hi h0,hb⟩,i,n,rfl,h0,fun _=>⟨by rw[Int.sub_self,Int.mul_zero];omega,fun j h1 h2=>by omega⟩⟩
 | f+1,i,n,hi,hf,h0=>by
  have hb:=hg i n hi
  cases hv:Be (goes (mk i n)) with
  | false=>
   have e:AZ next goes (f+1) (mk i n)=mk i n:=by
    show(bif Be (goes (mk i n)) then _ else mk i n)=_
    rw[hv];rfl
   rw[e]
   refine⟨⟨hp i n hi h0,fun h=>by rw[hv] at h;cases h⟩,i,n,rfl,h0,fun hm=>?_⟩
   rw[hv] at hb
   rw[decide_eq_true hm,Bool.or_true,Bool.and_true] at hb
   have:¬i <len:=of_decide_eq_false hb.symm
   obtain rfl:i=len:=by omega
   exact⟨by rw[Int.sub_self,Int.mul_zero];omega,fun j h1 h2=>by omega⟩
  | true=>
   rw[hv] at hb
   have hi':i <len:=by
    cases h:decide (i <len) with
    |true=>exact of_decide_eq_true h
    |false=>rw[h] at hb;cases hb
   obtain⟨s1,s2⟩:=hs i n hi' h0
   have e:AZ next goes (f+1) (mk i n)=AZ next goes f (mk (i+1) (step i n)):=by
    show(bif Be (goes (mk i n)) then AZ next goes f (next (mk i n)) else mk i n)=_
    rw[hv,hn i n hi' h0];rfl
   obtain⟨g1,k,n',g2,g3,g4⟩:=Bcy mk len step P m c s next goes ps hs hc hg hn hp f (i+1) (step i n) hi' (by omega) s1
   rw[e]
   refine⟨⟨hp i n hi h0,fun _=>by rw[hn i n hi' h0];exact g1⟩,k,n',g2,g3,fun hm=>?_⟩
   obtain⟨a1,a2⟩:=g4 hm
   have hpos:0≤c*((len:Int) - ((i+1:Nat):Int)):=Int.mul_nonneg hc (by omega)
   obtain⟨b1,b2⟩:=s2 (by omega)
   have hd:c*((len:Int) - (i:Int))=c*((len:Int) - ((i+1:Nat):Int))+c:=by
    rw[show((len:Int) - (i:Int))=((len:Int) - ((i+1:Nat):Int))+1 by omega,Int.mul_add,Int.mul_one]
   refine⟨by rw[hd];omega,fun j h1 h2=>?_⟩
   by_cases e:j=i
   ·subst e;exact b2
   ·exact a2 j (by omega) h2
theorem VG {X:Type} (mk:Nat→Int→X) (len:Nat) (step:Nat→Int→Int) (P:Nat→Prop) (m c:Int) (s:Bool) (next:X→X) (goes:X→Cnd) (ps:X→List Prop) (f:Nat) (x:X) (n0:Int) (hx:x=mk 0 n0) (hf:len≤f) (h0:0≤n0)
  (hs:∀i n,i <len→0≤n→0≤step i n∧(step i n≤m→n+c≤step i n∧P i)) (hc:0≤c)
  (hg:∀i n,i≤len→Be (goes (mk i n))=(decide (i <len)&&(s||decide (n≤m)))) (hn:∀i n,i <len→0≤n→next (mk i n)=mk (i+1) (step i n))
  (hp:∀i n,i≤len→0≤n→∀p∈ps (mk i n),p):
  AD next goes ps f x∧∃k n',AZ next goes f x=mk k n'∧0≤n'∧(n'≤m→n0+c*(len:Int)≤n'∧∀j,j <len→P j):=by
 subst hx
 obtain⟨h1,k,n',h2,h3,h4⟩:=Bcy mk len step P m c s next goes ps hs hc hg hn hp f 0 n0 (Nat.zero_le _) (by omega) h0
 refine⟨h1,k,n',h2,h3,fun h=>?_⟩
 obtain⟨h5,h6⟩:=h4 h
 rw[show((len:Int) - ((0:Nat):Int))=(len:Int) by omega] at h5
 exact⟨h5,fun j hj=>h6 j (Nat.zero_le _) hj⟩
theorem RU {α:Type} {l:List α} {d:α} {P:α→Prop} (h:∀j,j <l.length→P (l.getD j d)):∀x∈l,P x:=fun x hx=>by
 obtain⟨j,hj,rfl⟩:=List.mem_iff_getElem.1 hx
 have:=h j hj
 rw[List.getD_eq_getElem?_getD,List.getElem?_eq_getElem hj] at this
 exact this
end Go.Proofs.Yteebobbhhgmeiaa
namespace Go.Proofs.Yteebobbhhgmeiaa
open Go.RowKit
noncomputable def B24:=AQ 111 Alu Cl
theorem Bwz:Cp Try.prog B24:=Ak Ao8 Bcf
noncomputable def Ajo:=AQ 25 Aop B24
theorem Ts:Cp Try.prog Ajo:=Ak A2z Bwz
abbrev BU:Type:=(List TChange)×Int×Int×Int
def Li (x:BU):St:=⟨122,0,[(1,.sl .change x.1),(7,.v (.int .i64 x.2.1)),(8,.v (.int .i64 x.2.2.1)),(9,.v (.int .i64 x.2.2.2))],[]⟩
def Nf:St→Option BU
 |⟨122,0,[(1,.sl .change z0),(7,.v (.int .i64 z1)),(8,.v (.int .i64 z2)),(9,.v (.int .i64 z3))],[]⟩=>some (z0,z1,z2,z3)
 |_=>none
theorem Agm:∀s x,Nf s=some x→s=Li x:=fun s x h=>by
 unfold Nf at h
 split at h
 ·cases h;rfl
 ·cases h
def Wv:CU:=⟨0,0,[1,7,8,9],[],[],[],[7],[]⟩
def Awx:C9:=⟨[],[],[1,7,8,9],[]⟩
def Bg (a0:List TChange) (a1:Int) (a2:Int) (a3:Int):Bool:=!!(decide (a3 <(↑(a0.getD a2.toNat (Ac TC.change)).5.length:Int))&&decide (a1≤(6000:Int)))
def L3 (a0:List TChange) (a1:Int) (a2:Int) (a3:Int):Int:=Aq (Aq (Aq a1 (10:Int) (6000:Int)) (↑((a0.getD a2.toNat (Ac TC.change)).5.getD a3.toNat (Ac TC.write)).1.size:Int) (6000:Int)) (↑((a0.getD a2.toNat (Ac TC.change)).5.getD a3.toNat (Ac TC.write)).4.size:Int) (6000:Int)
def Agl (a0:List TChange) (a1:Int) (a2:Int) (a3:Int):Bool:=!(decide (a3 <(↑(a0.getD a2.toNat (Ac TC.change)).5.length:Int))&&decide (a1≤(6000:Int)))
def DX (x:BU):BU:=(x.1,L3 x.1 x.2.1 x.2.2.1 x.2.2.2,x.2.2.1,IntKind.i64.wrap (x.2.2.2+(1:Int)))
def DW (x:BU):Cnd:=some ((Bg x.1 x.2.1 x.2.2.1 x.2.2.2))
def Sw (x:BU):List Prop:=[((0:Int)≤x.2.2.1∧x.2.2.1 <(↑x.1.length:Int)),((Bg x.1 x.2.1 x.2.2.1 x.2.2.2)=true→(0:Int)≤x.2.2.1∧x.2.2.1 <(↑x.1.length:Int)),((Bg x.1 x.2.1 x.2.2.1 x.2.2.2)=true→(0:Int)≤x.2.2.2∧x.2.2.2 <(↑(x.1.getD x.2.2.1.toNat (Ac TC.change)).5.length:Int)),((Bg x.1 x.2.1 x.2.2.1 x.2.2.2)=true→(0:Int)≤x.2.2.1∧x.2.2.1 <(↑x.1.length:Int)),((Bg x.1 x.2.1 x.2.2.1 x.2.2.2)=true→(0:Int)≤x.2.2.2∧x.2.2.2 <(↑(x.1.getD x.2.2.1.toNat (Ac TC.change)).5.length:Int))]
def G8 (x:BU):List Prop:=[((0:Int)≤x.2.2.1∧x.2.2.1 <(↑x.1.length:Int)),((Bg x.1 x.2.1 x.2.2.1 x.2.2.2)=true→(0:Int)≤x.2.2.1∧x.2.2.1 <(↑x.1.length:Int)),((Bg x.1 x.2.1 x.2.2.1 x.2.2.2)=true→(0:Int)≤x.2.2.2∧x.2.2.2 <(↑(x.1.getD x.2.2.1.toNat (Ac TC.change)).5.length:Int))]
def Qi (x:BU):Bb:=[(some 2,some (Agl x.1 x.2.1 x.2.2.1 x.2.2.2),⟨122,0,[(7,.v (.int .i64 x.2.1))],[]⟩)]
def Fj (x:BU):Nat:=((↑(x.1.getD x.2.2.1.toNat (Ac TC.change)).5.length:Int) - x.2.2.2).toNat
def Gi (x:BU):BU:=AZ DX DW (Fj x) x
theorem Ar7 (a0:List TChange) (a1:Int) (a2:Int) (a3:Int):Bl (Au Ajo L0) 9 (Af Try.prog 45 2) Wv (Li (a0,a1,a2,a3))=some (Sw (a0,a1,a2,a3),Qi (a0,a1,a2,a3),DW (a0,a1,a2,a3),Li (DX (a0,a1,a2,a3))):=by kernel_rfl
theorem Ar8 (a0:List TChange) (a1:Int) (a2:Int) (a3:Int) (hp:∀p∈G8 (a0,a1,a2,a3),p):∀p∈Sw (a0,a1,a2,a3),p:=by
 have n0:=N0 hp
 have n1:((Bg a0 a1 a2 a3)=true→(0:Int)≤a2∧a2 <(↑a0.length:Int)):=N0 (N1 hp)
 have n2:((Bg a0 a1 a2 a3)=true→(0:Int)≤a3∧a3 <(↑(a0.getD a2.toNat (Ac TC.change)).5.length:Int)):=N0 (N1 (N1 hp))
 exact(Aa n0 (Aa n1 (Aa n2 (Aa n1 (Aa n2 Ad)))))
noncomputable def Sy:=Hw (Au Ajo L0) (Af Try.prog 45 2) Wv Awx Nf Fj DX DW G8 Qi
theorem Aku:∀s b ps outs,Sy s=some (b,ps,outs)→Wf s ⟨ps,outs,none⟩∧Bh (Au C0 L0) b s ps outs:=
 A9 (T:=Li) Ts Ay (u:=9) (by kernel_rfl) (by decide) (fun⟨a0,a1,a2,a3⟩=>Ar7 a0 a1 a2 a3) (fun⟨a0,a1,a2,a3⟩=>Ar8 a0 a1 a2 a3) Agm (fun _=>AH (n:=122) rfl) fun _ _=>rfl
noncomputable def Lh:=Di 2 Sy L0
theorem Sv:G1 Lh:=AS Aku Ay
abbrev BT:Type:=(List TChange)×Int×Int
def Lg (x:BT):St:=⟨122,0,[(1,.sl .change x.1),(7,.v (.int .i64 x.2.1)),(8,.v (.int .i64 x.2.2))],[]⟩
def Nd:St→Option BT
 |⟨122,0,[(1,.sl .change z0),(7,.v (.int .i64 z1)),(8,.v (.int .i64 z2))],[]⟩=>some (z0,z1,z2)
 |_=>none
theorem Agk:∀s x,Nd s=some x→s=Lg x:=fun s x h=>by
 unfold Nd at h
 split at h
 ·cases h;rfl
 ·cases h
def Wu:CU:=⟨0,0,[1,7,8],[],[],[],[7],[]⟩
def Aww:C9:=⟨[],[],[1,7,8],[]⟩
def Dc (a0:List TChange) (a1:Int) (a2:Int):Bool:=!!(decide (a2 <(↑a0.length:Int))&&decide (a1≤(6000:Int)))
def JE (a0:List TChange) (a1:Int) (a2:Int):Int:=(Gi (a0,Aq a1 (10:Int) (6000:Int),a2,(0:Int))).snd.fst
def Aks (a0:List TChange) (a1:Int) (a2:Int):Bool:=!(decide (a2 <(↑a0.length:Int))&&decide (a1≤(6000:Int)))
def DV (x:BT):BT:=(x.1,JE x.1 x.2.1 x.2.2,IntKind.i64.wrap (x.2.2+(1:Int)))
def DU (x:BT):Cnd:=some ((Dc x.1 x.2.1 x.2.2))
def Ss (x:BT):List Prop:=[((Dc x.1 x.2.1 x.2.2)=true→Af Try.prog (45:FuncId) (2:Nat)=Af Try.prog (45:FuncId) (2:Nat)),((Dc x.1 x.2.1 x.2.2)=true→AD DX DW G8 (Fj (x.1,Aq x.2.1 (10:Int) (6000:Int),x.2.2,(0:Int))) (x.1,Aq x.2.1 (10:Int) (6000:Int),x.2.2,(0:Int)))]
def G7 (x:BT):List Prop:=[((Dc x.1 x.2.1 x.2.2)=true→AD DX DW G8 (Fj (x.1,Aq x.2.1 (10:Int) (6000:Int),x.2.2,(0:Int))) (x.1,Aq x.2.1 (10:Int) (6000:Int),x.2.2,(0:Int)))]
def Qh (x:BT):Bb:=[(some 0,some (Aks x.1 x.2.1 x.2.2),⟨122,0,[(7,.v (.int .i64 x.2.1))],[]⟩)]
def Fi (x:BT):Nat:=((↑x.1.length:Int) - x.2.2).toNat
def CW (x:BT):BT:=AZ DV DU (Fi x) x
theorem Ar5 (a0:List TChange) (a1:Int) (a2:Int):Bl (Au Ajo Lh) 9 (Af Try.prog 45 0) Wu (Lg (a0,a1,a2))=some (Ss (a0,a1,a2),Qh (a0,a1,a2),DU (a0,a1,a2),Lg (DV (a0,a1,a2))):=by kernel_rfl
theorem Ar6 (a0:List TChange) (a1:Int) (a2:Int) (hp:∀p∈G7 (a0,a1,a2),p):∀p∈Ss (a0,a1,a2),p:=by
 have n0:((Dc a0 a1 a2)=true→Af Try.prog (45:FuncId) (2:Nat)=Af Try.prog (45:FuncId) (2:Nat)):=by intros;rfl
 have n1:=N0 hp
 exact(Aa n0 (Aa n1 Ad))
noncomputable def Su:=Hw (Au Ajo Lh) (Af Try.prog 45 0) Wu Aww Nd Fi DV DU G7 Qh
theorem Akt:∀s b ps outs,Su s=some (b,ps,outs)→Wf s ⟨ps,outs,none⟩∧Bh (Au C0 L0) b s ps outs:=
 A9 (T:=Lg) Ts Sv (u:=9) (by kernel_rfl) (by decide) (fun⟨a0,a1,a2⟩=>Ar5 a0 a1 a2) (fun⟨a0,a1,a2⟩=>Ar6 a0 a1 a2) Agk (fun _=>AH (n:=122) rfl) fun _ _=>rfl
noncomputable def Lf:=Di 0 Su Lh
theorem Sr:G1 Lf:=AS Akt Sv
abbrev BX:Type:=Int×(List TRow)×Int×Int
def Ln (x:BX):St:=⟨122,0,[(7,.v (.int .i64 x.1)),(11,.sl .row x.2.1),(12,.v (.int .i64 x.2.2.1)),(13,.v (.int .i64 x.2.2.2))],[]⟩
def Ni:St→Option BX
 |⟨122,0,[(7,.v (.int .i64 z0)),(11,.sl .row z1),(12,.v (.int .i64 z2)),(13,.v (.int .i64 z3))],[]⟩=>some (z0,z1,z2,z3)
 |_=>none
theorem Agp:∀s x,Ni s=some x→s=Ln x:=fun s x h=>by
 unfold Ni at h
 split at h
 ·cases h;rfl
 ·cases h
def Wz:CU:=⟨0,0,[7,11,12,13],[],[],[],[7],[]⟩
def Aw0:C9:=⟨[],[],[7,11,12,13],[]⟩
def Fl (a0:Int) (a1:List TRow) (a2:Int) (a3:Int):Bool:=!!(decide (a3 <(↑(a1.getD a2.toNat (Ac TC.row)).2.length:Int))&&decide (a0≤(6000:Int)))
def L5 (a0:Int) (a1:List TRow) (a2:Int) (a3:Int):Int:=Aq (Aq a0 (10:Int) (6000:Int)) (↑((a1.getD a2.toNat (Ac TC.row)).2.getD a3.toNat (Ac TC.cell)).4.size:Int) (6000:Int)
def Akz (a0:Int) (a1:List TRow) (a2:Int) (a3:Int):Bool:=!(decide (a3 <(↑(a1.getD a2.toNat (Ac TC.row)).2.length:Int))&&decide (a0≤(6000:Int)))
def Dg (x:BX):BX:=(L5 x.1 x.2.1 x.2.2.1 x.2.2.2,x.2.1,x.2.2.1,IntKind.i64.wrap (x.2.2.2+(1:Int)))
def Df (x:BX):Cnd:=some ((Fl x.1 x.2.1 x.2.2.1 x.2.2.2))
def L6 (x:BX):List Prop:=[((0:Int)≤x.2.2.1∧x.2.2.1 <(↑x.2.1.length:Int)),((Fl x.1 x.2.1 x.2.2.1 x.2.2.2)=true→(0:Int)≤x.2.2.1∧x.2.2.1 <(↑x.2.1.length:Int)),((Fl x.1 x.2.1 x.2.2.1 x.2.2.2)=true→(0:Int)≤x.2.2.2∧x.2.2.2 <(↑(x.2.1.getD x.2.2.1.toNat (Ac TC.row)).2.length:Int))]
abbrev FH:BX→List Prop:=L6
def Ql (x:BX):Bb:=[(some 8,some (Akz x.1 x.2.1 x.2.2.1 x.2.2.2),⟨122,0,[(7,.v (.int .i64 x.1))],[]⟩)]
def D1 (x:BX):Nat:=((↑(x.2.1.getD x.2.2.1.toNat (Ac TC.row)).2.length:Int) - x.2.2.2).toNat
def Gk (x:BX):BX:=AZ Dg Df (D1 x) x
theorem Asd (a0:Int) (a1:List TRow) (a2:Int) (a3:Int):Bl (Au Ajo Lf) 9 (Af Try.prog 45 8) Wz (Ln (a0,a1,a2,a3))=some (L6 (a0,a1,a2,a3),Ql (a0,a1,a2,a3),Df (a0,a1,a2,a3),Ln (Dg (a0,a1,a2,a3))):=by kernel_rfl
theorem Ase (a0:Int) (a1:List TRow) (a2:Int) (a3:Int) (hp:∀p∈FH (a0,a1,a2,a3),p):∀p∈L6 (a0,a1,a2,a3),p:=hp
noncomputable def SF:=Hw (Au Ajo Lf) (Af Try.prog 45 8) Wz Aw0 Ni D1 Dg Df FH Ql
theorem Ak0:∀s b ps outs,SF s=some (b,ps,outs)→Wf s ⟨ps,outs,none⟩∧Bh (Au C0 L0) b s ps outs:=
 A9 (T:=Ln) Ts Sr (u:=9) (by kernel_rfl) (by decide) (fun⟨a0,a1,a2,a3⟩=>Asd a0 a1 a2 a3) (fun⟨a0,a1,a2,a3⟩=>Ase a0 a1 a2 a3) Agp (fun _=>AH (n:=122) rfl) fun _ _=>rfl
noncomputable def Lm:=Di 8 SF Lf
theorem SE:G1 Lm:=AS Ak0 Sr
abbrev BW:Type:=Int×(List TRow)×Int
def Ll (x:BW):St:=⟨122,0,[(7,.v (.int .i64 x.1)),(11,.sl .row x.2.1),(12,.v (.int .i64 x.2.2))],[]⟩
def Nh:St→Option BW
 |⟨122,0,[(7,.v (.int .i64 z0)),(11,.sl .row z1),(12,.v (.int .i64 z2))],[]⟩=>some (z0,z1,z2)
 |_=>none
theorem Ago:∀s x,Nh s=some x→s=Ll x:=fun s x h=>by
 unfold Nh at h
 split at h
 ·cases h;rfl
 ·cases h
def Wy:CU:=⟨0,0,[7,11,12],[],[],[],[7],[]⟩
def Awz:C9:=⟨[],[],[7,11,12],[]⟩
def BI (a0:Int) (a1:List TRow) (a2:Int):Bool:=!!(decide (a2 <(↑a1.length:Int))&&decide (a0≤(6000:Int)))
def JG (a0:Int) (a1:List TRow) (a2:Int):Int:=(Gk (Aq (Aq a0 (10:Int) (6000:Int)) (↑(a1.getD a2.toNat (Ac TC.row)).1.size:Int) (6000:Int),a1,a2,(0:Int))).fst
def Akx (a0:Int) (a1:List TRow) (a2:Int):Bool:=!(decide (a2 <(↑a1.length:Int))&&decide (a0≤(6000:Int)))
def De (x:BW):BW:=(JG x.1 x.2.1 x.2.2,x.2.1,IntKind.i64.wrap (x.2.2+(1:Int)))
def Dd (x:BW):Cnd:=some ((BI x.1 x.2.1 x.2.2))
def SC (x:BW):List Prop:=[((BI x.1 x.2.1 x.2.2)=true→(0:Int)≤x.2.2∧x.2.2 <(↑x.2.1.length:Int)),((BI x.1 x.2.1 x.2.2)=true→Af Try.prog (45:FuncId) (8:Nat)=Af Try.prog (45:FuncId) (8:Nat)),((BI x.1 x.2.1 x.2.2)=true→AD Dg Df FH (D1 (Aq (Aq x.1 (10:Int) (6000:Int)) (↑(x.2.1.getD x.2.2.toNat (Ac TC.row)).1.size:Int) (6000:Int),x.2.1,x.2.2,(0:Int))) (Aq (Aq x.1 (10:Int) (6000:Int)) (↑(x.2.1.getD x.2.2.toNat (Ac TC.row)).1.size:Int) (6000:Int),x.2.1,x.2.2,(0:Int)))]
def FG (x:BW):List Prop:=[((BI x.1 x.2.1 x.2.2)=true→(0:Int)≤x.2.2∧x.2.2 <(↑x.2.1.length:Int)),((BI x.1 x.2.1 x.2.2)=true→AD Dg Df FH (D1 (Aq (Aq x.1 (10:Int) (6000:Int)) (↑(x.2.1.getD x.2.2.toNat (Ac TC.row)).1.size:Int) (6000:Int),x.2.1,x.2.2,(0:Int))) (Aq (Aq x.1 (10:Int) (6000:Int)) (↑(x.2.1.getD x.2.2.toNat (Ac TC.row)).1.size:Int) (6000:Int),x.2.1,x.2.2,(0:Int)))]
def Qk (x:BW):Bb:=[(some 6,some (Akx x.1 x.2.1 x.2.2),⟨122,0,[(7,.v (.int .i64 x.1))],[]⟩)]
def D0 (x:BW):Nat:=((↑x.2.1.length:Int) - x.2.2).toNat
def Gj (x:BW):BW:=AZ De Dd (D0 x) x
theorem Asb (a0:Int) (a1:List TRow) (a2:Int):Bl (Au Ajo Lm) 9 (Af Try.prog 45 6) Wy (Ll (a0,a1,a2))=some (SC (a0,a1,a2),Qk (a0,a1,a2),Dd (a0,a1,a2),Ll (De (a0,a1,a2))):=by kernel_rfl
theorem Asc (a0:Int) (a1:List TRow) (a2:Int) (hp:∀p∈FG (a0,a1,a2),p):∀p∈SC (a0,a1,a2),p:=by
 have n0:=N0 hp
 have n1:((BI a0 a1 a2)=true→Af Try.prog (45:FuncId) (8:Nat)=Af Try.prog (45:FuncId) (8:Nat)):=by intros;rfl
 have n2:=N0 (N1 hp)
 exact(Aa n0 (Aa n1 (Aa n2 Ad)))
noncomputable def SD:=Hw (Au Ajo Lm) (Af Try.prog 45 6) Wy Awz Nh D0 De Dd FG Qk
theorem Aky:∀s b ps outs,SD s=some (b,ps,outs)→Wf s ⟨ps,outs,none⟩∧Bh (Au C0 L0) b s ps outs:=
 A9 (T:=Ll) Ts SE (u:=9) (by kernel_rfl) (by decide) (fun⟨a0,a1,a2⟩=>Asb a0 a1 a2) (fun⟨a0,a1,a2⟩=>Asc a0 a1 a2) Ago (fun _=>AH (n:=122) rfl) fun _ _=>rfl
noncomputable def Lk:=Di 6 SD Lm
theorem SB:G1 Lk:=AS Aky SE
abbrev BV:Type:=Int×(List (List TRow))×Int×Int
def Lj (x:BV):St:=⟨122,0,[(7,.v (.int .i64 x.1)),(67,.sl .rows x.2.1),(68,.v (.int .i64 x.2.2.1)),(69,.v (.int .i64 x.2.2.2))],[]⟩
def Ng:St→Option BV
 |⟨122,0,[(7,.v (.int .i64 z0)),(67,.sl .rows z1),(68,.v (.int .i64 z2)),(69,.v (.int .i64 z3))],[]⟩=>some (z0,z1,z2,z3)
 |_=>none
theorem Agn:∀s x,Ng s=some x→s=Lj x:=fun s x h=>by
 unfold Ng at h
 split at h
 ·cases h;rfl
 ·cases h
def Wx:CU:=⟨0,0,[7,67,68,69],[],[],[],[7],[]⟩
def Awy:C9:=⟨[],[],[7,67,68,69],[]⟩
def JF (a0:Int) (a1:List (List TRow)) (_a2:Int) (a3:Int):Int:=(Gj (a0,a1.getD a3.toNat (Ac TC.rows),(0:Int))).fst
def DZ (x:BV):BV:=(JF x.1 x.2.1 x.2.2.1 x.2.2.2,x.2.1,x.2.2.1,IntKind.i64.wrap (x.2.2.2+(1:Int)))
def DY (x:BV):Cnd:=some (!!decide (x.2.2.2 <x.2.2.1))
def Sz (x:BV):List Prop:=[((!!decide (x.2.2.2 <x.2.2.1))=true→(0:Int)≤x.2.2.2∧x.2.2.2 <(↑x.2.1.length:Int)),((!!decide (x.2.2.2 <x.2.2.1))=true→Af Try.prog (45:FuncId) (6:Nat)=Af Try.prog (45:FuncId) (6:Nat)),((!!decide (x.2.2.2 <x.2.2.1))=true→AD De Dd FG (D0 (x.1,x.2.1.getD x.2.2.2.toNat (Ac TC.rows),(0:Int))) (x.1,x.2.1.getD x.2.2.2.toNat (Ac TC.rows),(0:Int)))]
def G9 (x:BV):List Prop:=[((!!decide (x.2.2.2 <x.2.2.1))=true→(0:Int)≤x.2.2.2∧x.2.2.2 <(↑x.2.1.length:Int)),((!!decide (x.2.2.2 <x.2.2.1))=true→AD De Dd FG (D0 (x.1,x.2.1.getD x.2.2.2.toNat (Ac TC.rows),(0:Int))) (x.1,x.2.1.getD x.2.2.2.toNat (Ac TC.rows),(0:Int)))]
def Qj (x:BV):Bb:=[(some 4,some (!decide (x.2.2.2 <x.2.2.1)),⟨122,0,[(7,.v (.int .i64 x.1))],[]⟩)]
def Fk (x:BV):Nat:=(x.2.2.1 - x.2.2.2).toNat
def L4 (x:BV):BV:=AZ DZ DY (Fk x) x
theorem Ar9 (a0:Int) (a1:List (List TRow)) (a2:Int) (a3:Int):Bl (Au Ajo Lk) 9 (Af Try.prog 45 4) Wx (Lj (a0,a1,a2,a3))=some (Sz (a0,a1,a2,a3),Qj (a0,a1,a2,a3),DY (a0,a1,a2,a3),Lj (DZ (a0,a1,a2,a3))):=by kernel_rfl
theorem Asa (a0:Int) (a1:List (List TRow)) (a2:Int) (a3:Int) (hp:∀p∈G9 (a0,a1,a2,a3),p):∀p∈Sz (a0,a1,a2,a3),p:=by
 have n0:=N0 hp
 have n1:((!!decide (a3 <a2))=true→Af Try.prog (45:FuncId) (6:Nat)=Af Try.prog (45:FuncId) (6:Nat)):=by intros;rfl
 have n2:=N0 (N1 hp)
 exact(Aa n0 (Aa n1 (Aa n2 Ad)))
noncomputable def SA:=Hw (Au Ajo Lk) (Af Try.prog 45 4) Wx Awy Ng Fk DZ DY G9 Qj
theorem Akw:∀s b ps outs,SA s=some (b,ps,outs)→Wf s ⟨ps,outs,none⟩∧Bh (Au C0 L0) b s ps outs:=
 A9 (T:=Lj) Ts SB (u:=9) (by kernel_rfl) (by decide) (fun⟨a0,a1,a2,a3⟩=>Ar9 a0 a1 a2 a3) (fun⟨a0,a1,a2,a3⟩=>Asa a0 a1 a2 a3) Agn (fun _=>AH (n:=122) rfl) fun _ _=>rfl
noncomputable def Ww:=Di 4 SA Lk
theorem Akv:G1 Ww:=AS Akw SB
def Qg (a0:List TGroup) (a1:List TChange) (a2:List (List TRow)):Bool:=decide ((L4 ((CW (a1,Aq (0:Int) (↑a0.length:Int) (6000:Int),(0:Int))).snd.fst,a2,(↑a2.length:Int),(0:Int))).fst≤(6000:Int))
def Aol (a0:List TGroup) (a1:List TChange) (a2:List (List TRow)):A:=.v (.bool (Qg a0 a1 a2))
def Aok (_a0:List TGroup) (_a1:List TChange) (_a2:List (List TRow)):Objs:=[]
def Agr (a0:List TGroup) (a1:List TChange) (a2:List (List TRow)):List Prop:=[(AD DV DU G7 (Fi (a1,Aq (0:Int) (↑a0.length:Int) (6000:Int),(0:Int))) (a1,Aq (0:Int) (↑a0.length:Int) (6000:Int),(0:Int))),(AD DZ DY G9 (Fk ((CW (a1,Aq (0:Int) (↑a0.length:Int) (6000:Int),(0:Int))).snd.fst,a2,(↑a2.length:Int),(0:Int))) ((CW (a1,Aq (0:Int) (↑a0.length:Int) (6000:Int),(0:Int))).snd.fst,a2,(↑a2.length:Int),(0:Int)))]
theorem A8x (a0:List TGroup) (a1:List TChange) (a2:List (List TRow)):Er (Au Ajo Ww) 9 45 [.sl .group a0,.sl .change a1,.sl .rows a2] 0 []=some (1,Aol a0 a1 a2,0,Aok a0 a1 a2,[(Af Try.prog (45:FuncId) (0:Nat)=Af Try.prog (45:FuncId) (0:Nat)),(AD DV DU G7 (Fi (a1,Aq (0:Int) (↑a0.length:Int) (6000:Int),(0:Int))) (a1,Aq (0:Int) (↑a0.length:Int) (6000:Int),(0:Int))),(Af Try.prog (45:FuncId) (4:Nat)=Af Try.prog (45:FuncId) (4:Nat)),(AD DZ DY G9 (Fk ((CW (a1,Aq (0:Int) (↑a0.length:Int) (6000:Int),(0:Int))).snd.fst,a2,(↑a2.length:Int),(0:Int))) ((CW (a1,Aq (0:Int) (↑a0.length:Int) (6000:Int),(0:Int))).snd.fst,a2,(↑a2.length:Int),(0:Int)))]):=by kernel_rfl
theorem Bew (a0:List TGroup) (a1:List TChange) (a2:List (List TRow)) (hp:∀p∈Agr a0 a1 a2,p):CallOk Try.prog 45 [.sl .group a0,.sl .change a1,.sl .rows a2] 0 [] 1 (Aol a0 a1 a2) 0 (Aok a0 a1 a2):=by
 have n1:=N0 hp
 have n3:=N0 (N1 hp)
 exact Az (Ap Ts Akv) (A8x a0 a1 a2) (Aa rfl (Aa n1 (Aa rfl (Aa n3 Ad))))
def Ags (a0:List TGroup) (a1:List TChange) (a2:List (List TRow)):A:=.v (.bool (Qg a0 a1 a2))
def Agq (_a0:List TGroup) (_a1:List TChange) (_a2:List (List TRow)):Objs:=[]
def Aes (c:TChange):Prop:=Ao c.writes.length∧∀w∈c.writes,Ao w.key.size∧Ao w.value.size
def Aja (c:TChange):Prop:=c.writes.length≤6000∧∀w∈c.writes,w.key.size≤6000∧w.value.size≤6000
def Zx (a0:List TGroup) (a1:List TChange) (a2:List (List TRow)):List Prop:=[Ao a0.length∧(Ao a1.length∧∀c∈a1,Aes c)∧Ao a2.length∧∀x∈a2,Ao x.length∧∀r∈x,Abg r]
theorem Arm {n k:Int} (hn:0≤n) (hk:0≤k∧k≤9223372036854775807):0≤Aq n k 6000∧(Aq n k 6000≤6000→n+k≤Aq n k 6000∧n+k≤6000):=by
 obtain⟨h1,h2,h3⟩:=Au9 (n:=n) (k:=k) (m:=6000) hn hk (by omega)
 exact⟨h2,fun h=>⟨by rw[h3 (h1 h)];omega,h1 h⟩⟩
theorem A20 (rows:List TRow) (i:Nat) (hi:i <rows.length) (n0:Int) (h0:0≤n0) (hl:Ao (rows.getD i (Ac TC.row)).cells.length) (hw:∀c∈(rows.getD i (Ac TC.row)).cells,Ao c.value.size):
  AD Dg Df FH (D1 (n0,rows,(i:Int),0)) (n0,rows,(i:Int),0)∧
  0≤(Gk (n0,rows,(i:Int),0)).fst∧((Gk (n0,rows,(i:Int),0)).fst≤6000→n0+10*((rows.getD i (Ac TC.row)).cells.length:Int)≤(Gk (n0,rows,(i:Int),0)).fst∧∀c∈(rows.getD i (Ac TC.row)).cells,c.value.size≤6000):=by
 generalize hcs:(rows.getD i (Ac TC.row)).cells=cs at*
 have hcs2:(rows.getD i (Ac TC.row)).2=cs:=hcs
 have hgo:∀(k:Nat) (n:Int),Fl n rows (i:Int) (k:Int)=(decide (k <cs.length)&&(false||decide (n≤6000))):=fun k n=>by
  unfold Fl
  rw[Int.toNat_natCast,hcs2,nn,Mp,Bool.false_or]
 unfold Ao at hl
 obtain⟨h1,k,n',hx,h2,h3⟩:=VG (fun k n=>((n,rows,(i:Int),(k:Int)):BX)) cs.length (fun k n=>Aq (Aq n 10 6000) ((cs.getD k (Ac TC.cell)).4.size:Int) 6000) (fun k=>(cs.getD k (Ac TC.cell)).value.size≤6000) 6000 10 false Dg Df FH (D1 (n0,rows,(i:Int),0)) (n0,rows,(i:Int),0) n0 rfl
  (by show cs.length≤(((rows.getD ((i:Int)).toNat (Ac TC.row)).2.length:Int) - 0).toNat;rw[Int.toNat_natCast,hcs2];omega) h0
  (fun k n hk hn=>by
   obtain⟨a1,a2⟩:=Arm (k:=10) hn (by omega)
   obtain⟨b1,b2⟩:=Arm a1 (Abb (hw _ (getD_in cs (Ac TC.cell) k hk)))
   refine⟨b1,fun h=>?_⟩
   obtain⟨c1,c2⟩:=b2 h
   obtain⟨d1,d2⟩:=a2 (by omega)
   exact⟨by omega,by show(cs.getD k (Ac TC.cell)).4.size≤6000;omega⟩)
  (by omega)
  (fun k n _=>hgo k n)
  (fun k n hk _=>by
   show(L5 n rows (i:Int) (k:Int),rows,(i:Int),IntKind.i64.wrap ((k:Int)+1))=(_,rows,(i:Int),((k+1:Nat):Int))
   rw[Eu (by omega)]
   unfold L5
   rw[Int.toNat_natCast,Int.toNat_natCast,hcs2])
  (fun k n _ _=>Aa (by show(0:Int)≤(i:Int)∧(i:Int) <(rows.length:Int);omega) (Aa (fun _=>by show(0:Int)≤(i:Int)∧(i:Int) <(rows.length:Int);omega) (Aa (fun h=>by
   have h':Fl n rows (i:Int) (k:Int)=true:=h
   rw[hgo,Bool.and_eq_true] at h'
   have:=of_decide_eq_true h'.1
   show(0:Int)≤(k:Int)∧(k:Int) <((rows.getD ((i:Int)).toNat (Ac TC.row)).2.length:Int)
   rw[Int.toNat_natCast,hcs2]
   omega) Ad)))
 have hr:Gk (n0,rows,(i:Int),0)=(n',rows,(i:Int),(k:Int)):=hx
 rw[hr]
 exact⟨h1,h2,fun h=>⟨(h3 h).1,RU (h3 h).2⟩⟩
theorem A85 (rows:List TRow) (n0:Int) (h0:0≤n0) (hl:Ao rows.length) (hw:∀r∈rows,Abg r):
  AD De Dd FG (D0 (n0,rows,0)) (n0,rows,0)∧
  0≤(Gj (n0,rows,0)).fst∧((Gj (n0,rows,0)).fst≤6000→n0+10*(rows.length:Int)≤(Gj (n0,rows,0)).fst∧∀r∈rows,Um 6000 r):=by
 have hgo:∀(k:Nat) (n:Int),BI n rows (k:Int)=(decide (k <rows.length)&&(false||decide (n≤6000))):=fun k n=>by
  unfold BI
  rw[nn,Mp,Bool.false_or]
 unfold Ao at hl
 have hin:∀(i:Nat) (n:Int),i <rows.length→0≤n→_:=fun i n hi hn=>
  A20 rows i hi (Aq (Aq n 10 6000) ((rows.getD i (Ac TC.row)).1.size:Int) 6000) (Arm (Arm hn (by omega)).1 (Abb (hw _ (getD_in rows (Ac TC.row) i hi)).1)).1 (hw _ (getD_in rows (Ac TC.row) i hi)).2.1 (hw _ (getD_in rows (Ac TC.row) i hi)).2.2
 obtain⟨h1,k,n',hx,h2,h3⟩:=VG (fun k n=>((n,rows,(k:Int)):BW)) rows.length (fun k n=>JG n rows (k:Int)) (fun k=>Um 6000 (rows.getD k (Ac TC.row))) 6000 10 false De Dd FG (D0 (n0,rows,0)) (n0,rows,0) n0 rfl
  (by show rows.length≤((rows.length:Int) - 0).toNat;omega) h0
  (fun k n hk hn=>by
   obtain⟨_,g2,g3⟩:=hin k n hk hn
   obtain⟨a1,a2⟩:=Arm (k:=10) hn (by omega)
   obtain⟨b1,b2⟩:=Arm a1 (Abb (hw _ (getD_in rows (Ac TC.row) k hk)).1)
   unfold JG
   rw[Int.toNat_natCast]
   refine⟨g2,fun h=>?_⟩
   obtain⟨c1,c2⟩:=g3 h
   have h':(Gk (Aq (Aq n 10 6000) ((rows.getD k (Ac TC.row)).1.size:Int) 6000,rows,(k:Int),0)).fst≤6000:=h
   obtain⟨d1,d2⟩:=b2 (by omega)
   obtain⟨e1,e2⟩:=a2 (by omega)
   exact⟨by omega,by show(rows.getD k (Ac TC.row)).1.size≤6000;omega,by omega,c2⟩)
  (by omega)
  (fun k n _=>hgo k n)
  (fun k n hk _=>by
   show(JG n rows (k:Int),rows,IntKind.i64.wrap ((k:Int)+1))=(_,rows,((k+1:Nat):Int))
   rw[Eu (by omega)])
  (fun k n hk hn=>by
   have hlt:BI n rows (k:Int)=true→k <rows.length:=fun h=>by
    rw[hgo,Bool.and_eq_true] at h
    exact of_decide_eq_true h.1
   refine Aa (fun h=>?_) (Aa (fun h=>?_) Ad)
   ·have:=hlt h
    show(0:Int)≤(k:Int)∧(k:Int) <(rows.length:Int)
    omega
   ·have:=(hin k n (hlt h) hn).1
    have e:((k:Int)).toNat=k:=Int.toNat_natCast k
    show AD Dg Df FH (D1 (Aq (Aq n 10 6000) ((rows.getD ((k:Int)).toNat (Ac TC.row)).1.size:Int) 6000,rows,(k:Int),0)) (Aq (Aq n 10 6000) ((rows.getD ((k:Int)).toNat (Ac TC.row)).1.size:Int) 6000,rows,(k:Int),0)
    rw[e]
    exact this)
 have hr:Gj (n0,rows,0)=(n',rows,(k:Int)):=hx
 rw[hr]
 exact⟨h1,h2,fun h=>⟨(h3 h).1,RU (h3 h).2⟩⟩
theorem Be5 (xs:List (List TRow)) (n0:Int) (h0:0≤n0) (hl:Ao xs.length) (hw:∀x∈xs,Ao x.length∧∀r∈x,Abg r):
  AD DZ DY G9 (Fk (n0,xs,(xs.length:Int),0)) (n0,xs,(xs.length:Int),0)∧
  ((L4 (n0,xs,(xs.length:Int),0)).fst≤6000→n0≤6000∧∀x∈xs,x.length≤6000∧∀r∈x,Um 6000 r):=by
 unfold Ao at hl
 have hin:∀(i:Nat) (n:Int),i <xs.length→0≤n→_:=fun i n hi hn=>
  A85 (xs.getD i (Ac TC.rows)) n hn (hw _ (getD_in xs (Ac TC.rows) i hi)).1 (hw _ (getD_in xs (Ac TC.rows) i hi)).2
 obtain⟨h1,k,n',hx,h2,h3⟩:=VG (fun k n=>((n,xs,(xs.length:Int),(k:Int)):BV)) xs.length (fun k n=>JF n xs (xs.length:Int) (k:Int)) (fun k=>(xs.getD k (Ac TC.rows)).length≤6000∧∀r∈xs.getD k (Ac TC.rows),Um 6000 r) 6000 0 true DZ DY G9 (Fk (n0,xs,(xs.length:Int),0)) (n0,xs,(xs.length:Int),0) n0 rfl
  (by show xs.length≤((xs.length:Int) - 0).toNat;omega) h0
  (fun k n hk hn=>by
   obtain⟨_,g2,g3⟩:=hin k n hk hn
   unfold JF
   rw[Int.toNat_natCast]
   refine⟨g2,fun h=>?_⟩
   obtain⟨c1,c2⟩:=g3 h
   have h':(Gj (n,xs.getD k (Ac TC.rows),0)).fst≤6000:=h
   exact⟨by omega,by omega,c2⟩)
  (Int.le_refl _)
  (fun k n _=>by
   show(!!decide ((k:Int) <(xs.length:Int)))=_
   rw[nn,Mp,Bool.true_or,Bool.and_true])
  (fun k n hk _=>by
   show(JF n xs (xs.length:Int) (k:Int),xs,(xs.length:Int),IntKind.i64.wrap ((k:Int)+1))=(_,xs,(xs.length:Int),((k+1:Nat):Int))
   rw[Eu (by omega)])
  (fun k n hk hn=>by
   have hlt:(!!decide ((k:Int) <(xs.length:Int)))=true→k <xs.length:=fun h=>by
    rw[nn] at h
    have:=of_decide_eq_true h
    omega
   refine Aa (fun h=>?_) (Aa (fun h=>?_) Ad)
   ·have:=hlt h
    show(0:Int)≤(k:Int)∧(k:Int) <(xs.length:Int)
    omega
   ·have:=(hin k n (hlt h) hn).1
    have e:((k:Int)).toNat=k:=Int.toNat_natCast k
    show AD De Dd FG (D0 (n,xs.getD ((k:Int)).toNat (Ac TC.rows),0)) (n,xs.getD ((k:Int)).toNat (Ac TC.rows),0)
    rw[e]
    exact this)
 have hr:L4 (n0,xs,(xs.length:Int),0)=(n',xs,(xs.length:Int),(k:Int)):=hx
 rw[hr]
 exact⟨h1,fun h=>⟨by have h':n'≤6000:=h;have:=(h3 h).1;omega,RU (h3 h).2⟩⟩
theorem Aw4 (cs:List TChange) (i:Nat) (hi:i <cs.length) (n0:Int) (h0:0≤n0) (hw:Aes (cs.getD i (Ac TC.change))):
  AD DX DW G8 (Fj (cs,n0,(i:Int),0)) (cs,n0,(i:Int),0)∧
  0≤(Gi (cs,n0,(i:Int),0)).snd.fst∧((Gi (cs,n0,(i:Int),0)).snd.fst≤6000→n0≤(Gi (cs,n0,(i:Int),0)).snd.fst∧Aja (cs.getD i (Ac TC.change))):=by
 obtain⟨hl,hw⟩:=hw
 unfold Aja
 generalize hcs:(cs.getD i (Ac TC.change)).writes=ws at*
 have hcs2:(cs.getD i (Ac TC.change)).5=ws:=hcs
 have hgo:∀(k:Nat) (n:Int),Bg cs n (i:Int) (k:Int)=(decide (k <ws.length)&&(false||decide (n≤6000))):=fun k n=>by
  unfold Bg
  rw[Int.toNat_natCast,hcs2,nn,Mp,Bool.false_or]
 unfold Ao at hl
 obtain⟨h1,k,n',hx,h2,h3⟩:=VG (fun k n=>((cs,n,(i:Int),(k:Int)):BU)) ws.length (fun k n=>Aq (Aq (Aq n 10 6000) ((ws.getD k (Ac TC.write)).1.size:Int) 6000) ((ws.getD k (Ac TC.write)).4.size:Int) 6000) (fun k=>(ws.getD k (Ac TC.write)).key.size≤6000∧(ws.getD k (Ac TC.write)).value.size≤6000) 6000 10 false DX DW G8 (Fj (cs,n0,(i:Int),0)) (cs,n0,(i:Int),0) n0 rfl
  (by show ws.length≤(((cs.getD ((i:Int)).toNat (Ac TC.change)).5.length:Int) - 0).toNat;rw[Int.toNat_natCast,hcs2];omega) h0
  (fun k n hk hn=>by
   obtain⟨w1,w2⟩:=hw _ (getD_in ws (Ac TC.write) k hk)
   obtain⟨a1,a2⟩:=Arm (k:=10) hn (by omega)
   obtain⟨b1,b2⟩:=Arm a1 (Abb w1)
   obtain⟨f1,f2⟩:=Arm b1 (Abb w2)
   refine⟨f1,fun h=>?_⟩
   obtain⟨g1,g2⟩:=f2 h
   obtain⟨c1,c2⟩:=b2 (by omega)
   obtain⟨d1,d2⟩:=a2 (by omega)
   exact⟨by omega,by omega,by omega⟩)
  (by omega)
  (fun k n _=>hgo k n)
  (fun k n hk _=>by
   show(cs,L3 cs n (i:Int) (k:Int),(i:Int),IntKind.i64.wrap ((k:Int)+1))=(cs,_,(i:Int),((k+1:Nat):Int))
   rw[Eu (by omega)]
   unfold L3
   rw[Int.toNat_natCast,Int.toNat_natCast,hcs2])
  (fun k n _ _=>Aa (by show(0:Int)≤(i:Int)∧(i:Int) <(cs.length:Int);omega) (Aa (fun _=>by show(0:Int)≤(i:Int)∧(i:Int) <(cs.length:Int);omega) (Aa (fun h=>by
   have h':Bg cs n (i:Int) (k:Int)=true:=h
   rw[hgo,Bool.and_eq_true] at h'
   have:=of_decide_eq_true h'.1
   show(0:Int)≤(k:Int)∧(k:Int) <((cs.getD ((i:Int)).toNat (Ac TC.change)).5.length:Int)
   rw[Int.toNat_natCast,hcs2]
   omega) Ad)))
 have hr:Gi (cs,n0,(i:Int),0)=(cs,n',(i:Int),(k:Int)):=hx
 rw[hr]
 refine⟨h1,h2,fun h=>?_⟩
 have h':n'≤6000:=h
 obtain⟨q1,q2⟩:=h3 h
 refine⟨by show n0≤n';omega,by omega,?_⟩
 exact RU (P:=fun w:TWrite=>w.key.size≤6000∧w.value.size≤6000) q2
theorem Asg (cs:List TChange) (n0:Int) (h0:0≤n0) (hl:Ao cs.length) (hw:∀c∈cs,Aes c):
  AD DV DU G7 (Fi (cs,n0,0)) (cs,n0,0)∧
  0≤(CW (cs,n0,0)).snd.fst∧((CW (cs,n0,0)).snd.fst≤6000→n0+10*(cs.length:Int)≤(CW (cs,n0,0)).snd.fst∧∀c∈cs,Aja c):=by
 have hgo:∀(k:Nat) (n:Int),Dc cs n (k:Int)=(decide (k <cs.length)&&(false||decide (n≤6000))):=fun k n=>by
  unfold Dc
  rw[nn,Mp,Bool.false_or]
 unfold Ao at hl
 have hin:∀(i:Nat) (n:Int),i <cs.length→0≤n→_:=fun i n hi hn=>
  Aw4 cs i hi (Aq n 10 6000) (Arm hn (by omega)).1 (hw _ (getD_in cs (Ac TC.change) i hi))
 obtain⟨h1,k,n',hx,h2,h3⟩:=VG (fun k n=>((cs,n,(k:Int)):BT)) cs.length (fun k n=>JE cs n (k:Int)) (fun k=>Aja (cs.getD k (Ac TC.change))) 6000 10 false DV DU G7 (Fi (cs,n0,0)) (cs,n0,0) n0 rfl
  (by show cs.length≤((cs.length:Int) - 0).toNat;omega) h0
  (fun k n hk hn=>by
   obtain⟨_,g2,g3⟩:=hin k n hk hn
   obtain⟨a1,a2⟩:=Arm (k:=10) hn (by omega)
   unfold JE
   refine⟨g2,fun h=>?_⟩
   obtain⟨c1,c2⟩:=g3 h
   have h':(Gi (cs,Aq n 10 6000,(k:Int),0)).snd.fst≤6000:=h
   obtain⟨e1,e2⟩:=a2 (by omega)
   exact⟨by omega,c2⟩)
  (by omega)
  (fun k n _=>hgo k n)
  (fun k n hk _=>by
   show(cs,JE cs n (k:Int),IntKind.i64.wrap ((k:Int)+1))=(cs,_,((k+1:Nat):Int))
   rw[Eu (by omega)])
  (fun k n hk hn=>Aa (fun h=>by
    have h':Dc cs n (k:Int)=true:=h
    rw[hgo,Bool.and_eq_true] at h'
    exact(hin k n (of_decide_eq_true h'.1) hn).1) Ad)
 have hr:CW (cs,n0,0)=(cs,n',(k:Int)):=hx
 rw[hr]
 exact⟨h1,h2,fun h=>⟨(h3 h).1,RU (h3 h).2⟩⟩
theorem Aw3 (l:List TGroup) (cs:List TChange) (xs:List (List TRow)) (hl:Ao l.length) (hc:Ao cs.length∧∀c∈cs,Aes c) (hr:Ao xs.length) (hw:∀x∈xs,Ao x.length∧∀r∈x,Abg r):(∀p∈Agr l cs xs,p)∧
  (Qg l cs xs=true→l.length≤6000∧(cs.length≤6000∧∀c∈cs,Aja c)∧∀x∈xs,x.length≤6000∧∀r∈x,Um 6000 r):=by
 obtain⟨a1,a2⟩:=Arm (n:=0) (k:=(l.length:Int)) (Int.le_refl _) (Abb hl)
 obtain⟨b1,b2,b3⟩:=Asg cs _ a1 hc.1 hc.2
 obtain⟨c1,c2⟩:=Be5 xs _ b2 hr hw
 refine⟨Aa b1 (Aa c1 Ad),fun h=>?_⟩
 have h':=of_decide_eq_true h
 obtain⟨d1,d2⟩:=c2 h'
 obtain⟨e1,e2⟩:=b3 d1
 have:=a2 (by omega)
 exact⟨by omega,⟨by omega,e2⟩,d2⟩
theorem A8w (a0:List TGroup) (a1:List TChange) (a2:List (List TRow)) (hp:∀p∈Zx a0 a1 a2,p):CallOk Try.prog 45 [.sl .group a0,.sl .change a1,.sl .rows a2] 0 [] 1 (Ags a0 a1 a2) 0 (Agq a0 a1 a2):=by
 obtain⟨h1,h2,h3,h4⟩:=hp _ (List.mem_cons_self ..)
 exact Bew a0 a1 a2 (Aw3 a0 a1 a2 h1 h2 h3 h4).1
def WA:List A→Nat→Objs→Option AU:=A5 [.l .group,.l .change,.l .rows] 0 Ags Agq Zx
theorem Zy:Ev Try.prog 45 WA:=As (ks:=[.l .group,.l .change,.l .rows]) A8w
noncomputable def Bsn:=AQ 45 WA Ajo
theorem A7h:Cp Try.prog Bsn:=Ak Zy Ts
abbrev BB:Type:=(List TGroup)×ByteArray×(List TRow)×Int×Int
def Kh (x:BB):St:=⟨38,0,[(0,.sl .group x.1),(6,.v (.string x.2.1)),(15,.sl .row x.2.2.1),(16,.v (.int .i64 x.2.2.2.1)),(17,.v (.int .i64 x.2.2.2.2))],[]⟩
def L9:St→Option BB
 |⟨38,0,[(0,.sl .group z0),(6,.v (.string z1)),(15,.sl .row z2),(16,.v (.int .i64 z3)),(17,.v (.int .i64 z4))],[]⟩=>some (z0,z1,z2,z3,z4)
 |_=>none
theorem Aca:∀s x,L9 s=some x→s=Kh x:=fun s x h=>by
 unfold L9 at h
 split at h
 ·cases h;rfl
 ·cases h
def UQ:CU:=⟨0,0,[0,6,15,16,17],[],[],[],[4],[]⟩
def Ash:C9:=⟨[],[],[0,6,15,16,17],[]⟩
def GP (a0:List TGroup) (_a1:ByteArray) (a2:List TRow) (_a3:Int) (a4:Int):Bool:=Ai a0 (a2.getD a4.toNat (Ac TC.row)) !=(0:Int)
def Dv (a0:List TGroup) (a1:ByteArray) (a2:List TRow) (a3:Int) (a4:Int):Bool:=!!decide (a4 <a3)&&((GP a0 a1 a2 a3 a4)||(G2 (a2.getD a4.toNat (Ac TC.row))||(Op.bytesLess (a2.getD a4.toNat (Ac TC.row)).1.toList a1.toList||(a2.getD a4.toNat (Ac TC.row)).1.toList==a1.toList)))
def Ag4 (_a0:List TGroup) (_a1:ByteArray) (a2:List TRow) (_a3:Int) (a4:Int):ByteArray:=(a2.getD a4.toNat (Ac TC.row)).1
def Ag5 (a0:List TGroup) (a1:ByteArray) (a2:List TRow) (a3:Int) (a4:Int):Bool:=!!decide (a4 <a3)&&!(Dv a0 a1 a2 a3 a4)
def GO (a0:List TGroup) (a1:ByteArray) (a2:List TRow) (a3:Int) (a4:Int):Int:=bif(GP a0 a1 a2 a3 a4) then Ai a0 (a2.getD a4.toNat (Ac TC.row)) else(100:Int)
def Ey (x:BB):BB:=(x.1,Ag4 x.1 x.2.1 x.2.2.1 x.2.2.2.1 x.2.2.2.2,x.2.2.1,x.2.2.2.1,IntKind.i64.wrap (x.2.2.2.2+(1:Int)))
def Ex (x:BB):Cnd:=some (Ag5 x.1 x.2.1 x.2.2.1 x.2.2.2.1 x.2.2.2.2)
def Lp (x:BB):List Prop:=[((!!decide (x.2.2.2.2 <x.2.2.2.1))=true→(0:Int)≤x.2.2.2.2∧x.2.2.2.2 <(↑x.2.2.1.length:Int)),((!!decide (x.2.2.2.2 <x.2.2.2.1))=true→(!(GP x.1 x.2.1 x.2.2.1 x.2.2.2.1 x.2.2.2.2))=true→Ag (x.2.2.1.getD x.2.2.2.2.toNat (Ac TC.row)).2.length)]
abbrev HQ:BB→List Prop:=Lp
def OV (x:BB):Bb:=[(some 0,some (!decide (x.2.2.2.2 <x.2.2.2.1)),⟨38,0,[(4,.dead)],[]⟩),(none,some ((Dv x.1 x.2.1 x.2.2.1 x.2.2.2.1 x.2.2.2.2)),⟨38,1,[(4,.v (.int .i64 (GO x.1 x.2.1 x.2.2.1 x.2.2.2.1 x.2.2.2.2)))],[]⟩)]
def GQ (x:BB):Nat:=(x.2.2.2.1 - x.2.2.2.2).toNat
def Fm (x:BB):BB:=AZ Ey Ex (GQ x) x
theorem Alc (a0:List TGroup) (a1:ByteArray) (a2:List TRow) (a3:Int) (a4:Int):Bl (Au Bsn L0) 9 (Af Try.prog 84 0) UQ (Kh (a0,a1,a2,a3,a4))=some (Lp (a0,a1,a2,a3,a4),OV (a0,a1,a2,a3,a4),Ex (a0,a1,a2,a3,a4),Kh (Ey (a0,a1,a2,a3,a4))):=by kernel_rfl
theorem Ald (a0:List TGroup) (a1:ByteArray) (a2:List TRow) (a3:Int) (a4:Int) (hp:∀p∈HQ (a0,a1,a2,a3,a4),p):∀p∈Lp (a0,a1,a2,a3,a4),p:=hp
noncomputable def Qp:=Hw (Au Bsn L0) (Af Try.prog 84 0) UQ Ash L9 GQ Ey Ex HQ OV
theorem Ag6:∀s b ps outs,Qp s=some (b,ps,outs)→Wf s ⟨ps,outs,none⟩∧Bh (Au C0 L0) b s ps outs:=
 A9 (T:=Kh) A7h Ay (u:=9) (by kernel_rfl) (by decide) (fun⟨a0,a1,a2,a3,a4⟩=>Alc a0 a1 a2 a3 a4) (fun⟨a0,a1,a2,a3,a4⟩=>Ald a0 a1 a2 a3 a4) Aca (fun _=>AH (n:=38) rfl) fun _ _=>rfl
noncomputable def UP:=Di 0 Qp L0
theorem Ag3:G1 UP:=AS Ag6 Ay
def J5 (a0:List TGroup) (_a1:List TRow):Bool:=AP a0 !=(0:Int)
def Rk (a0:List TGroup) (a1:List TRow):List TGroup:=(Fm (a0,ByteArray.mk #[],a1,(↑a1.length:Int),(0:Int))).fst
def Rj (a0:List TGroup) (a1:List TRow):ByteArray:=(Fm (a0,ByteArray.mk #[],a1,(↑a1.length:Int),(0:Int))).snd.fst
def Ri (a0:List TGroup) (a1:List TRow):List TRow:=(Fm (a0,ByteArray.mk #[],a1,(↑a1.length:Int),(0:Int))).snd.snd.fst
def Rh (a0:List TGroup) (a1:List TRow):Int:=(Fm (a0,ByteArray.mk #[],a1,(↑a1.length:Int),(0:Int))).snd.snd.snd.snd
def Rg (a0:List TGroup) (a1:List TRow):Int:=(Fm (a0,ByteArray.mk #[],a1,(↑a1.length:Int),(0:Int))).snd.snd.snd.fst
def TV (a0:List TGroup) (a1:List TRow):Int:=bif(J5 a0 a1) then AP a0 else bif Dv (Rk a0 a1) (Rj a0 a1) (Ri a0 a1) (Rg a0 a1) (Rh a0 a1) then GO (Rk a0 a1) (Rj a0 a1) (Ri a0 a1) (Rg a0 a1) (Rh a0 a1) else(0:Int)
def TW (a0:List TGroup) (a1:List TRow):A:=.v (.int .i64 (TV a0 a1))
def Ag7 (_a0:List TGroup) (_a1:List TRow):Objs:=[]
def ZI (a0:List TGroup) (a1:List TRow):List Prop:=[((!(J5 a0 a1))=true→AD Ey Ex HQ (GQ (a0,ByteArray.mk #[],a1,(↑a1.length:Int),(0:Int))) (a0,ByteArray.mk #[],a1,(↑a1.length:Int),(0:Int)))]
theorem A25 (a0:List TGroup) (a1:List TRow):Er (Au Bsn UP) 9 84 [.sl .group a0,Ae .rows a1] 0 []=some (1,TW a0 a1,0,Ag7 a0 a1,[((!(J5 a0 a1))=true→Af Try.prog (84:FuncId) (0:Nat)=Af Try.prog (84:FuncId) (0:Nat)),((!(J5 a0 a1))=true→AD Ey Ex HQ (GQ (a0,ByteArray.mk #[],a1,(↑a1.length:Int),(0:Int))) (a0,ByteArray.mk #[],a1,(↑a1.length:Int),(0:Int)))]):=by kernel_rfl
theorem A9i (a0:List TGroup) (a1:List TRow) (hp:∀p∈ZI a0 a1,p):CallOk Try.prog 84 [.sl .group a0,Ae .rows a1] 0 [] 1 (TW a0 a1) 0 (Ag7 a0 a1):=by
 have n0:((!(J5 a0 a1))=true→Af Try.prog (84:FuncId) (0:Nat)=Af Try.prog (84:FuncId) (0:Nat)):=by intros;rfl
 have n1:=N0 hp
 exact Az (Ap A7h Ag3) (A25 a0 a1) (Aa n0 (Aa n1 Ad))
def ZJ (a0:List TGroup) (a1:List TRow):A:=.v (.int .i64 (CZ a0 a1))
def ZH (_a0:List TGroup) (_a1:List TRow):Objs:=[]
def WM (_a0:List TGroup) (a1:List TRow):List Prop:=[Ao a1.length]
theorem Auo (l:List TGroup) (rows:List TRow) (i:Nat):(Vy l rows i !=0)=(Ai l (Bn rows i) !=0||(G2 (Bn rows i)||leS (Bn rows i).key (OU rows i))):=by
 unfold Vy
 cases h:Ai l (Bn rows i) !=0 with
 |true=>rw[cond_true,h,Bool.true_or]
 |false=>cases G2 (Bn rows i)||leS (Bn rows i).key (OU rows i)<;>rfl
theorem ZG (l:List TGroup) (rows:List TRow) (hb:Ao rows.length):(∀p∈ZI l rows,p)∧TV l rows=CZ l rows:=by
 unfold Ao at hb
 have hf:∀i:Nat,Dv l (OU rows i) rows (rows.length:Int) (i:Int)=(decide (i <rows.length)&&Vy l rows i !=0):=fun i=>by
  rw[Auo]
  unfold Dv GP leS Jy
  rw[nn,Mp,Int.toNat_natCast,tlb]
  rfl
 obtain⟨h1,k,hk,hx,hs,hst,_⟩:=Ij (fun i=>((l,OU rows i,rows,(rows.length:Int),(i:Int)):BB)) rows.length (fun i=>Vy l rows i !=0) Ey Ex HQ (GQ (l,ByteArray.mk #[],rows,(rows.length:Int),0)) (l,ByteArray.mk #[],rows,(rows.length:Int),0) rfl (by show rows.length≤((rows.length:Int) - 0).toNat;omega)
  (fun i _ _=>by
   show((!!decide ((i:Int) <(rows.length:Int)))&&!Dv l (OU rows i) rows (rows.length:Int) (i:Int))=_
   rw[hf,nn,Mp]
   cases decide (i <rows.length)<;>rfl)
  (fun i hi _=>by
   show(l,(rows.getD ((i:Int)).toNat (Ac TC.row)).1,rows,(rows.length:Int),IntKind.i64.wrap ((i:Int)+1))=(l,OU rows (i+1),rows,(rows.length:Int),((i+1:Nat):Int))
   rw[Eu (by omega),Int.toNat_natCast]
   rfl)
  (fun i hi _=>by
   have hin:(!!decide ((i:Int) <(rows.length:Int)))=true→(i:Int) <(rows.length:Int):=fun h=>by rw[nn] at h;exact of_decide_eq_true h
   refine Aa (fun h=>⟨by show(0:Int)≤(i:Int);omega,hin h⟩) (Aa (fun _ h2=>?_) Ad)
   have h3:Ai l (rows.getD ((i:Int)).toNat (Ac TC.row))=0:=by
    have h4:(!(Ai l (rows.getD ((i:Int)).toNat (Ac TC.row)) !=0))=true:=h2
    simpa using h4
   obtain⟨g1,g2,_⟩:=AM h3
   have:=(G0 g1).2
   show Ag (rows.getD ((i:Int)).toNat (Ac TC.row)).cells.length
   unfold Ag
   omega)
 have hr:Fm (l,ByteArray.mk #[],rows,(rows.length:Int),0)=(l,OU rows k,rows,(rows.length:Int),(k:Int)):=hx
 refine⟨Aa (fun _=>h1) Ad,?_⟩
 unfold TV CZ
 show(bif AP l !=0 then AP l else _)=_
 congr 1
 unfold Rk Rj Ri Rh Rg
 rw[hr]
 show(bif Dv l (OU rows k) rows (rows.length:Int) (k:Int) then GO l (OU rows k) rows (rows.length:Int) (k:Int) else 0)=_
 rw[hf]
 have h0:F5 l rows k=0:=(Af1 l rows k).2 fun i hi=>by simpa using hs i hi
 rcases Nat.lt_or_ge k rows.length with h|h
 ·have he:=hst h
  rw[decide_eq_true h,he]
  have e1:F5 l rows (k+1)=Vy l rows k:=by
   show(bif F5 l rows k !=0 then F5 l rows k else Vy l rows k)=_
   rw[h0];rfl
  have hne:F5 l rows (k+1)≠0:=by rw[e1];simpa using he
  rw[Wc hne rows.length h,e1]
  show GO l (OU rows k) rows (rows.length:Int) (k:Int)=_
  unfold GO GP
  rw[Int.toNat_natCast]
  rw[Auo] at he
  unfold Vy
  show(bif Ai l (Bn rows k) !=0 then Ai l (Bn rows k) else 100)=_
  cases hg:Ai l (Bn rows k) !=0 with
  |true=>rfl
  |false=>
   rw[hg,Bool.false_or] at he
   rw[he]
   rfl
 ·obtain rfl:k=rows.length:=by omega
  rw[decide_eq_false (Nat.lt_irrefl _),h0]
  rfl
theorem A24 (a0:List TGroup) (a1:List TRow) (hp:∀p∈WM a0 a1,p):CallOk Try.prog 84 [.sl .group a0,Ae .rows a1] 0 [] 1 (ZJ a0 a1) 0 (ZH a0 a1):=by
 have hb:Ao a1.length:=hp _ (List.mem_cons_self ..)
 have h:=A9i a0 a1 (ZG a0 a1 hb).1
 unfold TW at h
 rw[(ZG a0 a1 hb).2] at h
 exact h
def TX:List A→Nat→Objs→Option AU:=A5 [.l .group,.t .rows] 0 ZJ ZH WM
theorem WN:Ev Try.prog 84 TX:=As (ks:=[.l .group,.t .rows]) A24
noncomputable def B1n:=AQ 84 TX Bsn
theorem Bmp:Cp Try.prog B1n:=Ak WN A7h
def OL (a0:Int) (a1:TVec) (a2:TCell):Bool:=bif a2.1.1==(0:Int)&&a2.1.2==(0:Int)&&(a2.2.1==(0:Int)&&a2.2.2==(0:Int)&&(a2.3==false&&(a2.4.toList==(ByteArray.mk #[]).toList&&(a2.5.1==(0:Int)&&a2.5.2==(0:Int)))))||!AW a0 a2||!JW a1 (KW a2) then false else !Hi a0 a2
def OM (a0:Int) (a1:TVec) (a2:TCell):A:=.v (.bool (OL a0 a1 a2))
def V5 (_a0:Int) (_a1:TVec) (_a2:TCell):Objs:=[]
def UK (_a0:Int) (_a1:TVec) (_a2:TCell):List Prop:=[]
theorem Arw (a0:Int) (a1:TVec) (a2:TCell):Er (Au B1n L0) 9 50 [Ae .i64 a0,Ae .vec a1,Ae .cell a2] 0 []=some (1,OM a0 a1 a2,0,V5 a0 a1 a2,UK a0 a1 a2):=by kernel_rfl
theorem Awd (a0:Int) (a1:TVec) (a2:TCell) (hp:∀p∈UK a0 a1 a2,p):CallOk Try.prog 50 [Ae .i64 a0,Ae .vec a1,Ae .cell a2] 0 [] 1 (OM a0 a1 a2) 0 (V5 a0 a1 a2):=Az (Ap Bmp Ay) (Arw a0 a1 a2) hp
def UL (a0:Int) (a1:TVec) (a2:TCell):A:=.v (.bool (B2h a0 a1 a2))
def UJ (_a0:Int) (_a1:TVec) (_a2:TCell):Objs:=[]
def Sd (_a0:Int) (_a1:TVec) (_a2:TCell):List Prop:=[]
theorem Bzo (c:TCell):(c.1.1==(0:Int)&&c.1.2==(0:Int)&&(c.2.1==(0:Int)&&c.2.2==(0:Int)&&(c.3==false&&(c.4.toList==(ByteArray.mk #[]).toList&&(c.5.1==(0:Int)&&c.5.2==(0:Int))))))=eqC c zeroC:=by
 rw[tlb]
 unfold eqC zeroC
 simp only[Bool.and_assoc]
theorem Bo5 (a b:TVec):JW a b=Bdz a b:=by
 have hm:∀x y:Int,(min x y==y)=decide (y≤x):=fun x y=>by
  rw[Bool.eq_iff_iff,beq_iff_eq,decide_eq_true_eq];omega
 unfold JW Bdz
 have h1:((Jw a b).1==b.1)=decide (b.a≤a.a):=hm _ _
 have h2:((Jw a b).2==b.2)=decide (b.b≤a.b):=hm _ _
 rw[h1,h2]
theorem Arv (p:Int) (st:TVec) (c:TCell):OL p st c=B2h p st c:=by
 unfold OL B2h
 rw[Bzo,Iv,Bo5,(Ae7 p c).2]
 show(bif eqC c zeroC||!Bo p c||!Bdz st (Ab5 c) then false else !Tm p c)=_
 cases eqC c zeroC<;>cases Bo p c<;>cases Bdz st (Ab5 c)<;>rfl
theorem Aru (a0:Int) (a1:TVec) (a2:TCell) (_hp:∀p∈Sd a0 a1 a2,p):CallOk Try.prog 50 [Ae .i64 a0,Ae .vec a1,Ae .cell a2] 0 [] 1 (UL a0 a1 a2) 0 (UJ a0 a1 a2):=by
 have h:=Awd a0 a1 a2 (fun _ h=>by cases h)
 unfold OM at h
 rw[Arv] at h
 exact h
def V6:List A→Nat→Objs→Option AU:=A5 [.t .i64,.t .vec,.t .cell] 0 UL UJ Sd
theorem Akc:Ev Try.prog 50 V6:=As (ks:=[.t .i64,.t .vec,.t .cell]) Aru
noncomputable def B25:=AQ 50 V6 B1n
theorem Bw0:Cp Try.prog B25:=Ak Akc Bmp
noncomputable def Cn:=B25
theorem Bmq:Cp Try.prog Cn:=Bw0
end Go.Proofs.Yteebobbhhgmeiaa
namespace Go.Proofs.Yteebobbhhgmeiaa
open Go.RowKit
def wN (ws:List TWrite) (i:Nat):TWrite:=ws.getD i (Ac TC.write)
def QT (a b:TWrite):Bool:=Jy a.key b.key||a.key==b.key&&decide (a.group <b.group)
def UA (l:List TGroup) (w:TWrite):Bool:=!(w.key.size==0)&&decide (w.key.size≤32)&&decide (0≤w.group)&&decide (w.group <(l.length:Int))&&decide (w.value.size≤64)&&(!w.gone||w.value.size==0)
def HP (c:TChange):Bool:=(c.site==1||c.site==2)&&decide (1≤c.seq)&&decide (c.seq≤1099511627776)&&c.stamp.site==c.site&&HF c.stamp&&Cx c.vec&&(bif c.site==1 then c.vec.a else c.vec.b)==c.seq
def PW (l:List TGroup) (ws:List TWrite) (i:Nat):Bool:=!UA l (wN ws i)||decide (0 <i)&&!QT (wN ws (i - 1)) (wN ws i)
def Ahm (c:TChange):Bool:=decide (1≤c.writes.length)&&decide (c.writes.length≤8)
def QV (l:List TGroup) (c:TChange):Int:=bif AP l !=0 then AP l else bif HP c&&Ahm c&&KU c.writes.length (fun i=>!PW l c.writes i) then 0 else 120
def Jb (a0:TWrite):TPlace:=TPlace.mk a0.1 a0.2
def V0 (a0:TWrite):A:=.v (.agg ⟨[.string ((Jb a0).key),.int .i64 ((Jb a0).group)]⟩)
def VZ (_a0:TWrite):Objs:=[]
def TD (_a0:TWrite):List Prop:=[]
theorem A72 (a0:TWrite):Er (Au Cn L0) 9 174 [Ae .write a0] 0 []=some (1,V0 a0,0,VZ a0,TD a0):=by kernel_rfl
theorem Bdr (a0:TWrite) (hp:∀p∈TD a0,p):CallOk Try.prog 174 [Ae .write a0] 0 [] 1 (V0 a0) 0 (VZ a0):=Az (Ap Bmq Ay) (A72 a0) hp
def An8:List A→Nat→Objs→Option AU:=A5 [.t .write] 0 V0 VZ TD
theorem A2n:Ev Try.prog 174 An8:=As (ks:=[.t .write]) Bdr
noncomputable def Brh:=AQ 174 An8 Cn
theorem Bb6:Cp Try.prog Brh:=Ak A2n Bmq
def Hk (a0:TPlace) (a1:TPlace):Bool:=Op.bytesLess a0.1.toList a1.1.toList||a0.1.toList==a1.1.toList&&decide (a0.2 <a1.2)
def Jd (a0:TPlace) (a1:TPlace):A:=.v (.bool (Hk a0 a1))
def Jc (_a0:TPlace) (_a1:TPlace):Objs:=[]
def IY (_a0:TPlace) (_a1:TPlace):List Prop:=[]
theorem Vx (a0:TPlace) (a1:TPlace):Er (Au Brh L0) 9 175 [Ae .place a0,Ae .place a1] 0 []=some (1,Jd a0 a1,0,Jc a0 a1,IY a0 a1):=by kernel_rfl
theorem V2 (a0:TPlace) (a1:TPlace) (hp:∀p∈IY a0 a1,p):CallOk Try.prog 175 [Ae .place a0,Ae .place a1] 0 [] 1 (Jd a0 a1) 0 (Jc a0 a1):=Az (Ap Bb6 Ay) (Vx a0 a1) hp
def MO:List A→Nat→Objs→Option AU:=A5 [.t .place,.t .place] 0 Jd Jc IY
theorem TE:Ev Try.prog 175 MO:=As (ks:=[.t .place,.t .place]) V2
noncomputable def Bri:=AQ 175 MO Brh
theorem Bb7:Cp Try.prog Bri:=Ak TE Bb6
def QJ (a0:TWrite) (a1:TWrite):Bool:=bif !a0.1.toList==a1.1.toList then Op.bytesLess a0.1.toList a1.1.toList else decide (a0.2 <a1.2)
def X0 (a0:TWrite) (a1:TWrite):A:=.v (.bool (QJ a0 a1))
def XZ (_a0:TWrite) (_a1:TWrite):Objs:=[]
def Ug (_a0:TWrite) (_a1:TWrite):List Prop:=[]
theorem Bas (a0:TWrite) (a1:TWrite):Er (Au Bri L0) 9 177 [Ae .write a0,Ae .write a1] 0 []=some (1,X0 a0 a1,0,XZ a0 a1,Ug a0 a1):=by kernel_rfl
theorem Bgy (a0:TWrite) (a1:TWrite) (hp:∀p∈Ug a0 a1,p):CallOk Try.prog 177 [Ae .write a0,Ae .write a1] 0 [] 1 (X0 a0 a1) 0 (XZ a0 a1):=Az (Ap Bb7 Ay) (Bas a0 a1) hp
def Aqj:List A→Nat→Objs→Option AU:=A5 [.t .write,.t .write] 0 X0 XZ Ug
theorem A37:Ev Try.prog 177 Aqj:=As (ks:=[.t .write,.t .write]) Bgy
noncomputable def Brj:=AQ 177 Aqj Bri
theorem Bb8:Cp Try.prog Brj:=Ak A37 Bb7
def KP (a0:List TGroup) (a1:TWrite):Bool:=Sl a1.1==(0:Int)&&decide (a1.2≥(0:Int))&&decide (a1.2 <(↑a0.length:Int))&&decide ((↑a1.4.size:Int)≤(64:Int))&&(!a1.3||a1.4.toList==(ByteArray.mk #[]).toList)
def X2 (a0:List TGroup) (a1:TWrite):A:=.v (.bool (KP a0 a1))
def X1 (_a0:List TGroup) (_a1:TWrite):Objs:=[]
def Uh (_a0:List TGroup) (_a1:TWrite):List Prop:=[]
theorem Bat (a0:List TGroup) (a1:TWrite):Er (Au Brj L0) 9 176 [.sl .group a0,Ae .write a1] 0 []=some (1,X2 a0 a1,0,X1 a0 a1,Uh a0 a1):=by kernel_rfl
theorem Bgz (a0:List TGroup) (a1:TWrite) (hp:∀p∈Uh a0 a1,p):CallOk Try.prog 176 [.sl .group a0,Ae .write a1] 0 [] 1 (X2 a0 a1) 0 (X1 a0 a1):=Az (Ap Bb8 Ay) (Bat a0 a1) hp
def Aqk:List A→Nat→Objs→Option AU:=A5 [.l .group,.t .write] 0 X2 X1 Uh
theorem A38:Ev Try.prog 176 Aqk:=As (ks:=[.l .group,.t .write]) Bgz
noncomputable def Bzt:=AQ 176 Aqk Brj
theorem Brk:Cp Try.prog Bzt:=Ak A38 Bb8
noncomputable def Brl:=AQ 36 Aju Bzt
theorem Bb9:Cp Try.prog Brl:=Ak An0 Brk
def IW (a0:Int) (_a1:TStamp) (_a2:TVec) (a3:Bool) (_a4:ByteArray):Bool:=a0==(2:Int)&&a3
def IV (_a0:Int) (_a1:TStamp) (_a2:TVec) (_a3:Bool) (a4:ByteArray):Bool:=decide ((↑a4.size:Int) >(64:Int))
def H1 (a0:Int) (a1:TStamp) (a2:TVec) (a3:Bool) (a4:ByteArray):Bool:=a0 !=(1:Int)&&a0 !=(2:Int)||!GX a1||a1.1==(0:Int)||!EB a2||a3&&!a4.toList==(ByteArray.mk #[]).toList
def J7 (a0:Int) (a1:TStamp) (a2:TVec) (a3:Bool) (a4:ByteArray):TCell:=TCell.mk (TStamp.mk (bif(H1 a0 a1 a2 a3 a4) then(0:Int) else bif(IV a0 a1 a2 a3 a4) then(0:Int) else bif(IW a0 a1 a2 a3 a4) then(0:Int) else a1.1) (bif(H1 a0 a1 a2 a3 a4) then(0:Int) else bif(IV a0 a1 a2 a3 a4) then(0:Int) else bif(IW a0 a1 a2 a3 a4) then(0:Int) else a1.2)) (TVec.mk (bif(H1 a0 a1 a2 a3 a4) then(0:Int) else bif(IV a0 a1 a2 a3 a4) then(0:Int) else bif(IW a0 a1 a2 a3 a4) then(0:Int) else a2.1) (bif(H1 a0 a1 a2 a3 a4) then(0:Int) else bif(IV a0 a1 a2 a3 a4) then(0:Int) else bif(IW a0 a1 a2 a3 a4) then(0:Int) else a2.2)) (bif(H1 a0 a1 a2 a3 a4) then false else bif(IV a0 a1 a2 a3 a4) then false else bif(IW a0 a1 a2 a3 a4) then false else a3) (bif(H1 a0 a1 a2 a3 a4) then ByteArray.mk #[] else bif(IV a0 a1 a2 a3 a4) then ByteArray.mk #[] else bif(IW a0 a1 a2 a3 a4) then ByteArray.mk #[] else a4) (TVec.mk (bif(H1 a0 a1 a2 a3 a4) then(0:Int) else bif(IV a0 a1 a2 a3 a4) then(0:Int) else bif(IW a0 a1 a2 a3 a4) then a2.1 else(0:Int)) (bif(H1 a0 a1 a2 a3 a4) then(0:Int) else bif(IV a0 a1 a2 a3 a4) then(0:Int) else bif(IW a0 a1 a2 a3 a4) then a2.2 else(0:Int)))
def Bu7 (a0:Int) (a1:TStamp) (a2:TVec) (a3:Bool) (a4:ByteArray):Int:=bif(H1 a0 a1 a2 a3 a4) then(2:Int) else bif(IV a0 a1 a2 a3 a4) then(3:Int) else bif(IW a0 a1 a2 a3 a4) then(0:Int) else(0:Int)
def Azc (a0:Int) (a1:TStamp) (a2:TVec) (a3:Bool) (a4:ByteArray):A:=.v (.tuple ⟨[.agg ⟨[.int .i64 ((J7 a0 a1 a2 a3 a4).stamp.n),.int .i64 ((J7 a0 a1 a2 a3 a4).stamp.site),.int .i64 ((J7 a0 a1 a2 a3 a4).vec.a),.int .i64 ((J7 a0 a1 a2 a3 a4).vec.b),.bool ((J7 a0 a1 a2 a3 a4).gone),.string ((J7 a0 a1 a2 a3 a4).value),.int .i64 ((J7 a0 a1 a2 a3 a4).dead.a),.int .i64 ((J7 a0 a1 a2 a3 a4).dead.b)]⟩,.int .i64 (Bu7 a0 a1 a2 a3 a4)]⟩)
def Azb (_a0:Int) (_a1:TStamp) (_a2:TVec) (_a3:Bool) (_a4:ByteArray):Objs:=[]
def Al0 (_a0:Int) (_a1:TStamp) (_a2:TVec) (_a3:Bool) (_a4:ByteArray):List Prop:=[]
theorem Bpz (a0:Int) (a1:TStamp) (a2:TVec) (a3:Bool) (a4:ByteArray):Er (Au Brl L0) 9 37 [Ae .i64 a0,Ae .stamp a1,Ae .vec a2,Ae .bool a3,Ae .str a4] 0 []=some (1,Azc a0 a1 a2 a3 a4,0,Azb a0 a1 a2 a3 a4,Al0 a0 a1 a2 a3 a4):=by kernel_rfl
theorem Bu8 (a0:Int) (a1:TStamp) (a2:TVec) (a3:Bool) (a4:ByteArray) (hp:∀p∈Al0 a0 a1 a2 a3 a4,p):CallOk Try.prog 37 [Ae .i64 a0,Ae .stamp a1,Ae .vec a2,Ae .bool a3,Ae .str a4] 0 [] 1 (Azc a0 a1 a2 a3 a4) 0 (Azb a0 a1 a2 a3 a4):=Az (Ap Bb9 Ay) (Bpz a0 a1 a2 a3 a4) hp
def Bf4:List A→Nat→Objs→Option AU:=A5 [.t .i64,.t .stamp,.t .vec,.t .bool,.t .str] 0 Azc Azb Al0
theorem Bka:Ev Try.prog 37 Bf4:=As (ks:=[.t .i64,.t .stamp,.t .vec,.t .bool,.t .str]) Bu8
noncomputable def Bca:=AQ 37 Bf4 Brl
theorem Aux:Cp Try.prog Bca:=Ak Bka Bb9
abbrev Bp:Type:=(List TGroup)×(List TWrite)×Int×Int×TChange
def JB (x:Bp):St:=⟨132,1,[(0,.sl .group x.1),(3,.own 0 0),(73,.sl .write x.2.1),(74,.v (.int .i64 x.2.2.1)),(75,.v (.int .i64 x.2.2.2.1))],[(0,some (.box 136 [.v (.int .i64 x.2.2.2.2.site),.v (.int .i64 x.2.2.2.2.seq),.v (.int .i64 x.2.2.2.2.stamp.n),.v (.int .i64 x.2.2.2.2.stamp.site),.v (.int .i64 x.2.2.2.2.vec.a),.v (.int .i64 x.2.2.2.2.vec.b),.sl .write x.2.2.2.2.writes]))]⟩
def KX:St→Option Bp
 |⟨132,1,[(0,.sl .group z0),(3,.own 0 0),(73,.sl .write z1),(74,.v (.int .i64 z2)),(75,.v (.int .i64 z3))],[(0,some (.box 136 [.v (.int .i64 z4),.v (.int .i64 z5),.v (.int .i64 z6),.v (.int .i64 z7),.v (.int .i64 z8),.v (.int .i64 z9),.sl .write z10]))]⟩=>some (z0,z1,z2,z3,⟨z4,z5,⟨z6,z7⟩,⟨z8,z9⟩,z10⟩)
 |_=>none
theorem YX:∀s x,KX s=some x→s=JB x:=fun s x h=>by
 unfold KX at h
 split at h
 ·cases h;rfl
 ·cases h
def RX:CU:=⟨1,1,[0,3,73,74,75],[],[(0,0)],[0],[4],[0]⟩
def Ajz:C9:=⟨[],[(0,0)],[0,3,73,74,75],[0]⟩
def HH (_a0:List TGroup) (_a1:List TWrite) (_a2:Int) (a3:Int) (_a4:TChange):Int:=IntKind.i64.wrap (a3 - (1:Int))
def HG (a0:List TGroup) (a1:List TWrite) (_a2:Int) (a3:Int) (_a4:TChange):Bool:=(a1.getD a3.toNat (Ac TC.write)).1.toList==(ByteArray.mk #[]).toList||decide ((↑(a1.getD a3.toNat (Ac TC.write)).1.size:Int) >(32:Int))||decide ((a1.getD a3.toNat (Ac TC.write)).2 <(0:Int))||decide ((a1.getD a3.toNat (Ac TC.write)).2≥(↑a0.length:Int))||decide ((↑(a1.getD a3.toNat (Ac TC.write)).4.size:Int) >(64:Int))||(a1.getD a3.toNat (Ac TC.write)).3&&!(a1.getD a3.toNat (Ac TC.write)).4.toList==(ByteArray.mk #[]).toList
def Cr (a0:List TGroup) (a1:List TWrite) (a2:Int) (a3:Int) (a4:TChange):Bool:=!!decide (a3 <a2)&&((HG a0 a1 a2 a3 a4)||decide (a3 >(0:Int))&&!Hk (Jb (a4.5.getD (HH a0 a1 a2 a3 a4).toNat (Ac TC.write))) (Jb (a1.getD a3.toNat (Ac TC.write))))
def Abp (a0:List TGroup) (a1:List TWrite) (a2:Int) (a3:Int) (a4:TChange):Bool:=!!decide (a3 <a2)&&!(Cr a0 a1 a2 a3 a4)
def NK (a0:List TGroup) (a1:List TWrite) (a2:Int) (a3:Int) (a4:TChange):Int:=bif(HG a0 a1 a2 a3 a4) then(120:Int) else(120:Int)
def Ed (x:Bp):Bp:=(x.1,x.2.1,x.2.2.1,IntKind.i64.wrap (x.2.2.2.1+(1:Int)),x.2.2.2.2)
def Ec (x:Bp):Cnd:=some (Abp x.1 x.2.1 x.2.2.1 x.2.2.2.1 x.2.2.2.2)
def Kq (x:Bp):List Prop:=[((!!decide (x.2.2.2.1 <x.2.2.1))=true→(0:Int)≤x.2.2.2.1∧x.2.2.2.1 <(↑x.2.1.length:Int)),((!!decide (x.2.2.2.1 <x.2.2.1))=true→(!(HG x.1 x.2.1 x.2.2.1 x.2.2.2.1 x.2.2.2.2))=true→decide (x.2.2.2.1 >(0:Int))=true→(0:Int)≤(HH x.1 x.2.1 x.2.2.1 x.2.2.2.1 x.2.2.2.2)∧(HH x.1 x.2.1 x.2.2.1 x.2.2.2.1 x.2.2.2.2) <(↑x.2.2.2.2.5.length:Int))]
abbrev Hj:Bp→List Prop:=Kq
def NL (x:Bp):Bb:=[(some 0,some (!decide (x.2.2.2.1 <x.2.2.1)),⟨132,1,[(4,.dead)],[(0,some (.box 136 [.v (.int .i64 x.2.2.2.2.1),.v (.int .i64 x.2.2.2.2.2),.v (.int .i64 x.2.2.2.2.3.1),.v (.int .i64 x.2.2.2.2.3.2),.v (.int .i64 x.2.2.2.2.4.1),.v (.int .i64 x.2.2.2.2.4.2),.sl .write x.2.2.2.2.5]))]⟩),(none,some ((Cr x.1 x.2.1 x.2.2.1 x.2.2.2.1 x.2.2.2.2)),⟨132,2,[(4,.v (.int .i64 (NK x.1 x.2.1 x.2.2.1 x.2.2.2.1 x.2.2.2.2)))],[(0,some (.box 136 [.v (.int .i64 x.2.2.2.2.1),.v (.int .i64 x.2.2.2.2.2),.v (.int .i64 x.2.2.2.2.3.1),.v (.int .i64 x.2.2.2.2.3.2),.v (.int .i64 x.2.2.2.2.4.1),.v (.int .i64 x.2.2.2.2.4.2),.sl .write x.2.2.2.2.5]))]⟩)]
def FU (x:Bp):Nat:=(x.2.2.1 - x.2.2.2.1).toNat
def Ew (x:Bp):Bp:=AZ Ed Ec (FU x) x
theorem Afb (a0:List TGroup) (a1:List TWrite) (a2:Int) (a3:Int) (a4:TChange):Bl (Au Bca L0) 9 (Af Try.prog 169 0) RX (JB (a0,a1,a2,a3,a4))=some (Kq (a0,a1,a2,a3,a4),NL (a0,a1,a2,a3,a4),Ec (a0,a1,a2,a3,a4),JB (Ed (a0,a1,a2,a3,a4))):=by kernel_rfl
theorem Afc (a0:List TGroup) (a1:List TWrite) (a2:Int) (a3:Int) (a4:TChange) (hp:∀p∈Hj (a0,a1,a2,a3,a4),p):∀p∈Kq (a0,a1,a2,a3,a4),p:=hp
noncomputable def OD:=Hw (Au Bca L0) (Af Try.prog 169 0) RX Ajz KX FU Ed Ec Hj NL
theorem Abq:∀s b ps outs,OD s=some (b,ps,outs)→Wf s ⟨ps,outs,none⟩∧Bh (Au C0 L0) b s ps outs:=
 A9 (T:=JB) Aux Ay (u:=9) (by kernel_rfl) (by decide) (fun⟨a0,a1,a2,a3,a4⟩=>Afb a0 a1 a2 a3 a4) (fun⟨a0,a1,a2,a3,a4⟩=>Afc a0 a1 a2 a3 a4) YX (fun _=>AH (n:=132) rfl) fun _ _=>rfl
noncomputable def RW:=Di 0 OD L0
theorem Abo:G1 RW:=AS Abq Ay
def Dl (a0:List TGroup) (_a1:TChange):Bool:=AP a0 !=(0:Int)
def Dk (_a0:List TGroup) (a1:TChange):Int:=IntKind.i64.wrap (a1.1 - (1:Int))
def OC (a0:List TGroup) (a1:TChange):List TGroup:=(Ew (a0,a1.5,(↑a1.5.length:Int),(0:Int),a1)).fst
def GL (_a0:List TGroup) (a1:TChange):Bool:=decide ((↑a1.5.length:Int) <(1:Int))||decide ((↑a1.5.length:Int) >(8:Int))
def OB (a0:List TGroup) (a1:TChange):List TWrite:=(Ew (a0,a1.5,(↑a1.5.length:Int),(0:Int),a1)).snd.fst
def OA (a0:List TGroup) (a1:TChange):Int:=(Ew (a0,a1.5,(↑a1.5.length:Int),(0:Int),a1)).snd.snd.fst
def Oz (a0:List TGroup) (a1:TChange):TChange:=(Ew (a0,a1.5,(↑a1.5.length:Int),(0:Int),a1)).snd.snd.snd.snd
def Oy (a0:List TGroup) (a1:TChange):Int:=(Ew (a0,a1.5,(↑a1.5.length:Int),(0:Int),a1)).snd.snd.snd.fst
def GK (a0:List TGroup) (a1:TChange):Bool:=a1.1 !=(1:Int)&&a1.1 !=(2:Int)||decide (a1.2 <(1:Int))||decide (a1.2 >(1099511627776:Int))||a1.3.2 !=a1.1||!BQ a1.3||!BG a1.4||(bif(Dk a0 a1).toNat.beq (0:Nat) then a1.4.1 else a1.4.2) !=a1.2
def Q1 (a0:List TGroup) (a1:TChange):Int:=bif(Dl a0 a1) then AP a0 else bif(GK a0 a1) then(120:Int) else bif(GL a0 a1) then(120:Int) else bif Cr (OC a0 a1) (OB a0 a1) (OA a0 a1) (Oy a0 a1) (Oz a0 a1) then NK (OC a0 a1) (OB a0 a1) (OA a0 a1) (Oy a0 a1) (Oz a0 a1) else(0:Int)
def Q2 (a0:List TGroup) (a1:TChange):A:=.v (.int .i64 (Q1 a0 a1))
def Zo (_a0:List TGroup) (_a1:TChange):Objs:=[]
def VV (a0:List TGroup) (a1:TChange):List Prop:=[((!(Dl a0 a1))=true→(a1.1 !=(1:Int)&&a1.1 !=(2:Int)||decide (a1.2 <(1:Int))||decide (a1.2 >(1099511627776:Int))||a1.3.2 !=a1.1||!BQ a1.3||!BG a1.4)=false→(0:Int)≤(Dk a0 a1)∧(Dk a0 a1) <(2:Int)),((!(Dl a0 a1))=true→(!(GK a0 a1))=true→(!(GL a0 a1))=true→AD Ed Ec Hj (FU (a0,a1.5,(↑a1.5.length:Int),(0:Int),a1)) (a0,a1.5,(↑a1.5.length:Int),(0:Int),a1))]
theorem Av0 (a0:List TGroup) (a1:TChange):Er (Au Bca RW) 9 169 [.sl .group a0,Ae .change a1] 0 []=some (1,Q2 a0 a1,0,Zo a0 a1,[((!(Dl a0 a1))=true→(a1.1 !=(1:Int)&&a1.1 !=(2:Int)||decide (a1.2 <(1:Int))||decide (a1.2 >(1099511627776:Int))||a1.3.2 !=a1.1||!BQ a1.3||!BG a1.4)=false→(0:Int)≤(Dk a0 a1)∧(Dk a0 a1) <(2:Int)),((!(Dl a0 a1))=true→(a1.1 !=(1:Int)&&a1.1 !=(2:Int)||decide (a1.2 <(1:Int))||decide (a1.2 >(1099511627776:Int))||a1.3.2 !=a1.1||!BQ a1.3||!BG a1.4)=false→(Dk a0 a1).toNat <(2:Nat)),((!(Dl a0 a1))=true→(!(GK a0 a1))=true→(!(GL a0 a1))=true→Af Try.prog (169:FuncId) (0:Nat)=Af Try.prog (169:FuncId) (0:Nat)),((!(Dl a0 a1))=true→(!(GK a0 a1))=true→(!(GL a0 a1))=true→AD Ed Ec Hj (FU (a0,a1.5,(↑a1.5.length:Int),(0:Int),a1)) (a0,a1.5,(↑a1.5.length:Int),(0:Int),a1))]):=by kernel_rfl
theorem A2l (a0:List TGroup) (a1:TChange) (hp:∀p∈VV a0 a1,p):CallOk Try.prog 169 [.sl .group a0,Ae .change a1] 0 [] 1 (Q2 a0 a1) 0 (Zo a0 a1):=by
 have n0:((!(Dl a0 a1))=true→(a1.1 !=(1:Int)&&a1.1 !=(2:Int)||decide (a1.2 <(1:Int))||decide (a1.2 >(1099511627776:Int))||a1.3.2 !=a1.1||!BQ a1.3||!BG a1.4)=false→(0:Int)≤(Dk a0 a1)∧(Dk a0 a1) <(2:Int)):=N0 hp
 have n1:((!(Dl a0 a1))=true→(a1.1 !=(1:Int)&&a1.1 !=(2:Int)||decide (a1.2 <(1:Int))||decide (a1.2 >(1099511627776:Int))||a1.3.2 !=a1.1||!BQ a1.3||!BG a1.4)=false→(Dk a0 a1).toNat <(2:Nat)):=by intro h0 h1;have g:=n0 h0 h1;omega
 have n2:((!(Dl a0 a1))=true→(!(GK a0 a1))=true→(!(GL a0 a1))=true→Af Try.prog (169:FuncId) (0:Nat)=Af Try.prog (169:FuncId) (0:Nat)):=by intros;rfl
 have n3:=N0 (N1 hp)
 exact Az (Ap Aux Abo) (Av0 a0 a1) (Aa n0 (Aa n1 (Aa n2 (Aa n3 Ad))))
def VW (a0:List TGroup) (a1:TChange):A:=.v (.int .i64 (QV a0 a1))
def VU (_a0:List TGroup) (_a1:TChange):Objs:=[]
def UE (_a0:List TGroup) (a1:TChange):List Prop:=[Ao a1.writes.length]
theorem Bvi {c:TChange} (h:c.site=1∨c.site=2):(bif(IntKind.i64.wrap (c.site - 1)).toNat.beq 0 then c.vec.a else c.vec.b)=bif c.site==1 then c.vec.a else c.vec.b:=by
 rcases h with h|h<;>rw[h]<;>rfl
theorem Bok {c:TChange} (h:c.site=1∨c.site=2):(0:Int)≤IntKind.i64.wrap (c.site - 1)∧IntKind.i64.wrap (c.site - 1) <(2:Int):=by
 rcases h with h|h<;>rw[h]<;>decide
theorem Byd {n:Int}:(n !=1&&n !=2)=false↔n=1∨n=2:=by
 constructor
 ·intro h
  rcases Decidable.em (n=1) with e|e
  ·exact .inl e
  ·rcases Decidable.em (n=2) with e2|e2
   ·exact .inr e2
   ·have h1:(n !=1)=true:=bne_iff_ne.2 e
    have h2:(n !=2)=true:=bne_iff_ne.2 e2
    rw[h1,h2] at h
    cases h
 ·rintro(rfl|rfl)<;>rfl
theorem Bno (c:TChange):HP c=!(c.site !=1&&c.site !=2||decide (c.seq <1)||decide (c.seq >1099511627776)||c.stamp.site !=c.site||!HF c.stamp||!Cx c.vec||(bif(IntKind.i64.wrap (c.site - 1)).toNat.beq 0 then c.vec.a else c.vec.b) !=c.seq):=by
 unfold HP
 cases h:c.site !=1&&c.site !=2 with
 |true=>
  rw[Bool.and_eq_true,bne_iff_ne,bne_iff_ne] at h
  rw[beq_eq_false_iff_ne.2 h.1,beq_eq_false_iff_ne.2 h.2]
  rfl
 | false=>
  have hs:=Byd.1 h
  have h1:(c.site==1||c.site==2)=true:=by rcases hs with e|e<;>rw[e]<;>rfl
  have h2:decide (c.seq <1)=!decide (1≤c.seq):=by
   rw[←decide_not];exact decide_eq_decide.2 (by omega)
  have h3:decide (c.seq >1099511627776)=!decide (c.seq≤1099511627776):=by
   rw[←decide_not];exact decide_eq_decide.2 (by omega)
  rw[h1,Bvi hs,h2,h3]
  unfold bne
  cases decide (1≤c.seq)<;>cases decide (c.seq≤1099511627776)<;>cases c.stamp.site==c.site<;>cases HF c.stamp<;>cases Cx c.vec<;>simp
theorem Bzm (l:List TGroup) (w:TWrite):(w.1.toList==(ByteArray.mk #[]).toList||decide ((w.1.size:Int) >(32:Int))||decide (w.2 <(0:Int))||decide (w.2≥(l.length:Int))||decide ((w.4.size:Int) >(64:Int))||w.3&&!w.4.toList==(ByteArray.mk #[]).toList)=!UA l w:=by
 have e1:(w.1.toList==(ByteArray.mk #[]).toList)=(w.key.size==0):=Ru _
 have e2:(w.4.toList==(ByteArray.mk #[]).toList)=(w.value.size==0):=Ru _
 have h1:decide ((w.1.size:Int) >(32:Int))=!decide (w.key.size≤32):=by rw[←decide_not];exact decide_eq_decide.2 (by omega)
 have h2:decide (w.2 <(0:Int))=!decide (0≤w.group):=by rw[←decide_not];exact decide_eq_decide.2 (by omega)
 have h3:decide (w.2≥(l.length:Int))=!decide (w.group <(l.length:Int)):=by rw[←decide_not];exact decide_eq_decide.2 (by omega)
 have h4:decide ((w.4.size:Int) >(64:Int))=!decide (w.value.size≤64):=by rw[←decide_not];exact decide_eq_decide.2 (by omega)
 rw[e1,e2,h1,h2,h3,h4]
 unfold UA
 cases w.key.size==0<;>cases decide (w.key.size≤32)<;>cases decide (0≤w.group)<;>cases decide (w.group <(l.length:Int))<;>cases decide (w.value.size≤64)<;>cases w.gone<;>cases w.value.size==0<;>rfl
theorem Bsv (a b:TWrite):Hk (Jb a) (Jb b)=QT a b:=by
 unfold Hk Jb QT Jy
 rw[←tlb]
theorem Bnf (l:List TGroup) (c:TChange) (i:Nat) (hi:i≤9223372036854775807):Cr l c.writes (c.writes.length:Int) (i:Int) c=(decide (i <c.writes.length)&&PW l c.writes i):=by
 have e:Cr l c.writes (c.writes.length:Int) (i:Int) c=(decide (i <c.writes.length)&&(!UA l (wN c.writes i)||decide ((i:Int) >0)&&!QT (wN c.writes (IntKind.i64.wrap ((i:Int) - 1)).toNat) (wN c.writes i))):=by
  unfold Cr HG HH
  rw[nn,Mp,Int.toNat_natCast,Bsv,Bzm]
  rfl
 rw[e]
 unfold PW
 cases i with
 |zero=>rfl
 |succ j=>
  have h1:(IntKind.i64.wrap (((j+1:Nat):Int) - 1)).toNat=j+1 - 1:=by rw[i64_in (by omega)];omega
  have h2:decide (((j+1:Nat):Int) >0)=decide (0 <j+1):=decide_eq_decide.2 (by omega)
  rw[h1,h2]
theorem VT (l:List TGroup) (c:TChange) (hb:Ao c.writes.length):(∀p∈VV l c,p)∧Q1 l c=QV l c:=by
 unfold Ao at hb
 obtain⟨h1,k,hk,hx,_,_,hb'⟩:=Ij (fun i=>((l,c.writes,(c.writes.length:Int),(i:Int),c):Bp)) c.writes.length (fun i=>PW l c.writes i) Ed Ec Hj (FU (l,c.writes,(c.writes.length:Int),0,c)) (l,c.writes,(c.writes.length:Int),0,c) rfl (by show c.writes.length≤((c.writes.length:Int) - 0).toNat;omega)
  (fun i hi _=>by
   show((!!decide ((i:Int) <(c.writes.length:Int)))&&!Cr l c.writes (c.writes.length:Int) (i:Int) c)=_
   rw[Bnf l c i (by omega),nn,Mp]
   cases decide (i <c.writes.length)<;>rfl)
  (fun i hi _=>by
   show(l,c.writes,(c.writes.length:Int),IntKind.i64.wrap ((i:Int)+1),c)=(l,c.writes,(c.writes.length:Int),((i+1:Nat):Int),c)
   rw[Eu (by omega)])
  (fun i hi _=>by
   have hin:(!!decide ((i:Int) <(c.writes.length:Int)))=true→(i:Int) <(c.writes.length:Int):=fun h=>by rw[nn] at h;exact of_decide_eq_true h
   refine Aa (fun h=>⟨by show(0:Int)≤(i:Int);omega,hin h⟩) (Aa (fun h _ h3=>?_) Ad)
   have h4:(i:Int) >0:=of_decide_eq_true h3
   have h5:=hin h
   show(0:Int)≤IntKind.i64.wrap ((i:Int) - 1)∧IntKind.i64.wrap ((i:Int) - 1) <(c.writes.length:Int)
   rw[i64_in (by omega)]
   omega)
 have hr:Ew (l,c.writes,(c.writes.length:Int),0,c)=(l,c.writes,(c.writes.length:Int),(k:Int),c):=hx
 refine⟨Aa (fun _ h=>Bok (Byd.1 (by
  cases hs:c.site !=1&&c.site !=2 with
  |false=>rfl
  |true=>
   have h':(c.site !=(1:Int)&&c.site !=(2:Int)||decide (c.seq <(1:Int))||decide (c.seq >(1099511627776:Int))||c.stamp.site !=c.site||!BQ c.stamp||!BG c.vec)=false:=h
   rw[hs] at h'
   simp at h'))) (Aa (fun _ _ _=>h1) Ad),?_⟩
 unfold Q1 QV
 show(bif AP l !=0 then AP l else _)=_
 congr 1
 have e0:GK l c=!HP c:=by
  rw[Bno,Bool.not_not]
  unfold GK Dk
  rw[Kb,KT]
 have e5:GL l c=!Ahm c:=by
  unfold GL Ahm
  have h2:decide ((c.writes.length:Int) <(1:Int))=!decide (1≤c.writes.length):=by rw[←decide_not];exact decide_eq_decide.2 (by omega)
  have h3:decide ((c.writes.length:Int) >(8:Int))=!decide (c.writes.length≤8):=by rw[←decide_not];exact decide_eq_decide.2 (by omega)
  have h2':decide ((c.5.length:Int) <(1:Int))=!decide (1≤c.writes.length):=h2
  have h3':decide ((c.5.length:Int) >(8:Int))=!decide (c.writes.length≤8):=h3
  rw[h2',h3']
  cases decide (1≤c.writes.length)<;>cases decide (c.writes.length≤8)<;>rfl
 rw[e0,e5]
 unfold OC OB OA Oy Oz
 rw[hr]
 show(bif !HP c then 120 else bif !Ahm c then 120 else bif Cr l c.writes (c.writes.length:Int) (k:Int) c then(bif _ then(120:Int) else 120) else 0)=_
 rw[Bnf l c k (Nat.le_trans hk hb),hb']
 have hc:∀b:Bool,(bif b then(120:Int) else 120)=120:=fun b=>by cases b<;>rfl
 rw[hc]
 cases HP c<;>cases Ahm c<;>cases KU c.writes.length (fun i=>!PW l c.writes i)<;>rfl
theorem Avz (a0:List TGroup) (a1:TChange) (hp:∀p∈UE a0 a1,p):CallOk Try.prog 169 [.sl .group a0,Ae .change a1] 0 [] 1 (VW a0 a1) 0 (VU a0 a1):=by
 have hb:Ao a1.writes.length:=hp _ (List.mem_cons_self ..)
 have h:=A2l a0 a1 (VT a0 a1 hb).1
 unfold Q2 at h
 rw[(VT a0 a1 hb).2] at h
 exact h
def Zp:List A→Nat→Objs→Option AU:=A5 [.l .group,.t .change] 0 VW VU UE
theorem Arq:Ev Try.prog 169 Zp:=As (ks:=[.l .group,.t .change]) Avz
noncomputable def Bcb:=AQ 169 Zp Bca
theorem Auy:Cp Try.prog Bcb:=Ak Arq Aux
abbrev Cm:Type:=(List TGroup)×Int×TChange
def ME (x:Cm):St:=⟨107,1,[(0,.sl .group x.1),(3,.own 0 0),(6,.v (.int .i64 x.2.1))],[(0,some (.box 136 [.v (.int .i64 x.2.2.site),.v (.int .i64 x.2.2.seq),.v (.int .i64 x.2.2.stamp.n),.v (.int .i64 x.2.2.stamp.site),.v (.int .i64 x.2.2.vec.a),.v (.int .i64 x.2.2.vec.b),.sl .write x.2.2.writes]))]⟩
def PB:St→Option Cm
 |⟨107,1,[(0,.sl .group z0),(3,.own 0 0),(6,.v (.int .i64 z1))],[(0,some (.box 136 [.v (.int .i64 z2),.v (.int .i64 z3),.v (.int .i64 z4),.v (.int .i64 z5),.v (.int .i64 z6),.v (.int .i64 z7),.sl .write z8]))]⟩=>some (z0,z1,⟨z2,z3,⟨z4,z5⟩,⟨z6,z7⟩,z8⟩)
 |_=>none
theorem Amy:∀s x,PB s=some x→s=ME x:=fun s x h=>by
 unfold PB at h
 split at h
 ·cases h;rfl
 ·cases h
def Aap:CU:=⟨1,1,[0,3,6],[],[(0,0)],[0],[4],[0]⟩
def A36:C9:=⟨[],[(0,0)],[0,3,6],[0]⟩
def JQ (_a0:List TGroup) (a1:Int) (_a2:TChange):Int:=IntKind.i64.wrap (a1 - (1:Int))
def Gx (_a0:List TGroup) (a1:Int) (a2:TChange):Bool:=!!decide (a1 <(↑a2.5.length:Int))
def DJ (a0:List TGroup) (a1:Int) (a2:TChange):Bool:=(Gx a0 a1 a2)&&(!KP a0 (a2.5.getD a1.toNat (Ac TC.write))||decide (a1 >(0:Int))&&!QJ (a2.5.getD (JQ a0 a1 a2).toNat (Ac TC.write)) (a2.5.getD a1.toNat (Ac TC.write)))
def Atu (a0:List TGroup) (a1:Int) (a2:TChange):Bool:=(Gx a0 a1 a2)&&!(DJ a0 a1 a2)
def Gz (x:Cm):Cm:=(x.1,IntKind.i64.wrap (x.2.1+(1:Int)),x.2.2)
def Gy (x:Cm):Cnd:=some (Atu x.1 x.2.1 x.2.2)
def NA (x:Cm):List Prop:=[((Gx x.1 x.2.1 x.2.2)=true→(0:Int)≤x.2.1∧x.2.1 <(↑x.2.2.5.length:Int)),((Gx x.1 x.2.1 x.2.2)=true→decide (x.2.1 >(0:Int))=true→(!KP x.1 (x.2.2.5.getD x.2.1.toNat (Ac TC.write)))=false→(0:Int)≤(JQ x.1 x.2.1 x.2.2)∧(JQ x.1 x.2.1 x.2.2) <(↑x.2.2.5.length:Int)),((Gx x.1 x.2.1 x.2.2)=true→decide (x.2.1 >(0:Int))=true→(!KP x.1 (x.2.2.5.getD x.2.1.toNat (Ac TC.write)))=false→(0:Int)≤x.2.1∧x.2.1 <(↑x.2.2.5.length:Int))]
abbrev Js:Cm→List Prop:=NA
def Tb (x:Cm):Bb:=[(some 0,some (!decide (x.2.1 <(↑x.2.2.5.length:Int))),⟨107,1,[(4,.dead)],[(0,some (.box 136 [.v (.int .i64 x.2.2.1),.v (.int .i64 x.2.2.2),.v (.int .i64 x.2.2.3.1),.v (.int .i64 x.2.2.3.2),.v (.int .i64 x.2.2.4.1),.v (.int .i64 x.2.2.4.2),.sl .write x.2.2.5]))]⟩),(none,some ((DJ x.1 x.2.1 x.2.2)),⟨107,1,[(4,.v (.int .i64 ((120:Int))))],[(0,some (.box 136 [.v (.int .i64 x.2.2.1),.v (.int .i64 x.2.2.2),.v (.int .i64 x.2.2.3.1),.v (.int .i64 x.2.2.3.2),.v (.int .i64 x.2.2.4.1),.v (.int .i64 x.2.2.4.2),.sl .write x.2.2.5]))]⟩)]
def Ia (x:Cm):Nat:=((↑x.2.2.5.length:Int) - x.2.1).toNat
def Atw (x:Cm):Cm:=AZ Gz Gy (Ia x) x
theorem A0p (a0:List TGroup) (a1:Int) (a2:TChange):Bl (Au Bcb L0) 9 (Af Try.prog 171 0) Aap (ME (a0,a1,a2))=some (NA (a0,a1,a2),Tb (a0,a1,a2),Gy (a0,a1,a2),ME (Gz (a0,a1,a2))):=by kernel_rfl
theorem A0q (a0:List TGroup) (a1:Int) (a2:TChange) (hp:∀p∈Js (a0,a1,a2),p):∀p∈NA (a0,a1,a2),p:=hp
noncomputable def Vm:=Hw (Au Bcb L0) (Af Try.prog 171 0) Aap A36 PB Ia Gz Gy Js Tb
theorem Atv:∀s b ps outs,Vm s=some (b,ps,outs)→Wf s ⟨ps,outs,none⟩∧Bh (Au C0 L0) b s ps outs:=
 A9 (T:=ME) Auy Ay (u:=9) (by kernel_rfl) (by decide) (fun⟨a0,a1,a2⟩=>A0p a0 a1 a2) (fun⟨a0,a1,a2⟩=>A0q a0 a1 a2) Amy (fun _=>AH (n:=107) rfl) fun _ _=>rfl
noncomputable def Aao:=Di 0 Vm L0
theorem Att:G1 Aao:=AS Atv Ay
def Ge (a0:List TGroup) (_a1:TChange):Bool:=AP a0 !=(0:Int)
def Gd (_a0:List TGroup) (a1:TChange):Int:=IntKind.i64.wrap (a1.1 - (1:Int))
def QI (a0:List TGroup) (a1:TChange):Cm:=Atw (a0,(0:Int),a1)
def Jr (a0:List TGroup) (a1:TChange):Bool:=a1.1 !=(1:Int)&&a1.1 !=(2:Int)||decide (a1.2 <(1:Int))||decide (a1.2 >(1099511627776:Int))||!GX a1.3||a1.3.2 !=a1.1||!EB a1.4||(bif(Gd a0 a1).toNat.beq (0:Nat) then a1.4.1 else a1.4.2) !=a1.2||decide ((↑a1.5.length:Int) <(1:Int))||decide ((↑a1.5.length:Int) >(8:Int))
def Adz (a0:List TGroup) (a1:TChange):Int:=bif(Ge a0 a1) then AP a0 else bif(Jr a0 a1) then(120:Int) else bif DJ (QI a0 a1).fst (QI a0 a1).snd.fst (QI a0 a1).snd.snd then(120:Int) else(0:Int)
def Ad0 (a0:List TGroup) (a1:TChange):A:=.v (.int .i64 (Adz a0 a1))
def A0r (_a0:List TGroup) (_a1:TChange):Objs:=[]
def Aqh (a0:List TGroup) (a1:TChange):List Prop:=[(∀(g:TGroup),g∈a0→Ao g.1.size),((!(Ge a0 a1))=true→(a1.1 !=(1:Int)&&a1.1 !=(2:Int)||decide (a1.2 <(1:Int))||decide (a1.2 >(1099511627776:Int))||!GX a1.3||a1.3.2 !=a1.1||!EB a1.4)=false→(0:Int)≤(Gd a0 a1)∧(Gd a0 a1) <(2:Int)),((!(Ge a0 a1))=true→(!(Jr a0 a1))=true→AD Gz Gy Js (Ia (a0,(0:Int),a1)) (a0,(0:Int),a1))]
theorem Bgx (a0:List TGroup) (a1:TChange):Er (Au Bcb Aao) 9 171 [.sl .group a0,Ae .change a1] 0 []=some (1,Ad0 a0 a1,0,A0r a0 a1,[(∀(g:TGroup),g∈a0→Ao g.1.size),((!(Ge a0 a1))=true→(a1.1 !=(1:Int)&&a1.1 !=(2:Int)||decide (a1.2 <(1:Int))||decide (a1.2 >(1099511627776:Int))||!GX a1.3||a1.3.2 !=a1.1||!EB a1.4)=false→(0:Int)≤(Gd a0 a1)∧(Gd a0 a1) <(2:Int)),((!(Ge a0 a1))=true→(a1.1 !=(1:Int)&&a1.1 !=(2:Int)||decide (a1.2 <(1:Int))||decide (a1.2 >(1099511627776:Int))||!GX a1.3||a1.3.2 !=a1.1||!EB a1.4)=false→(Gd a0 a1).toNat <(2:Nat)),((!(Ge a0 a1))=true→(!(Jr a0 a1))=true→Af Try.prog (171:FuncId) (0:Nat)=Af Try.prog (171:FuncId) (0:Nat)),((!(Ge a0 a1))=true→(!(Jr a0 a1))=true→AD Gz Gy Js (Ia (a0,(0:Int),a1)) (a0,(0:Int),a1))]):=by kernel_rfl
theorem Bkx (a0:List TGroup) (a1:TChange) (hp:∀p∈Aqh a0 a1,p):CallOk Try.prog 171 [.sl .group a0,Ae .change a1] 0 [] 1 (Ad0 a0 a1) 0 (A0r a0 a1):=by
 have n0:=N0 hp
 have n1:((!(Ge a0 a1))=true→(a1.1 !=(1:Int)&&a1.1 !=(2:Int)||decide (a1.2 <(1:Int))||decide (a1.2 >(1099511627776:Int))||!GX a1.3||a1.3.2 !=a1.1||!EB a1.4)=false→(0:Int)≤(Gd a0 a1)∧(Gd a0 a1) <(2:Int)):=N0 (N1 hp)
 have n2:((!(Ge a0 a1))=true→(a1.1 !=(1:Int)&&a1.1 !=(2:Int)||decide (a1.2 <(1:Int))||decide (a1.2 >(1099511627776:Int))||!GX a1.3||a1.3.2 !=a1.1||!EB a1.4)=false→(Gd a0 a1).toNat <(2:Nat)):=by intro h0 h1;have g:=n1 h0 h1;omega
 have n3:((!(Ge a0 a1))=true→(!(Jr a0 a1))=true→Af Try.prog (171:FuncId) (0:Nat)=Af Try.prog (171:FuncId) (0:Nat)):=by intros;rfl
 have n4:=N0 (N1 (N1 hp))
 exact Az (Ap Auy Att) (Bgx a0 a1) (Aa n0 (Aa n1 (Aa n2 (Aa n3 (Aa n4 Ad)))))
def Aqi (a0:List TGroup) (a1:TChange):A:=.v (.int .i64 (QV a0 a1))
def Aqg (_a0:List TGroup) (_a1:TChange):Objs:=[]
def Aip (a0:List TGroup) (a1:TChange):List Prop:=[Ao a1.writes.length,∀g∈a0,Ao g.1.size]
theorem Bic (a b:TWrite):QJ a b=QT a b:=by
 unfold QJ QT Jy
 rw[tlb]
 cases h:a.key==b.key with
 |true=>
  obtain e:=eq_of_beq h
  have e':a.1=b.1:=e
  rw[e',Tt]
  rfl
 |false=>
  show Op.bytesLess a.1.toList b.1.toList=(Op.bytesLess a.1.toList b.1.toList||false)
  rw[Bool.or_false]
theorem Blt (l:List TGroup) (w:TWrite):KP l w=UA l w:=by
 have e2:(w.4.toList==(ByteArray.mk #[]).toList)=(w.value.size==0):=Ru _
 unfold KP UA
 rw[e2]
 have h1:(Sl w.1==(0:Int))=(!(w.key.size==0)&&decide (w.key.size≤32)):=by
  unfold Sl
  show((bif w.key.size==0 then(2:Int) else bif decide (32 <w.key.size) then 3 else 0)==0)=_
  have h2:decide (32 <w.key.size)=!decide (w.key.size≤32):=by rw[←decide_not];exact decide_eq_decide.2 (by omega)
  rw[h2]
  cases w.key.size==0<;>cases decide (w.key.size≤32)<;>rfl
 have h4:decide ((w.4.size:Int)≤(64:Int))=decide (w.value.size≤64):=decide_eq_decide.2 (by omega)
 have h3:decide (w.2≥(0:Int))=decide (0≤w.group):=rfl
 rw[h1,h4,h3]
theorem Bob (l:List TGroup) (c:TChange) (i:Nat) (hi:i≤9223372036854775807):DJ l (i:Int) c=(decide (i <c.writes.length)&&PW l c.writes i):=by
 have e:DJ l (i:Int) c=(decide (i <c.writes.length)&&(!UA l (wN c.writes i)||decide ((i:Int) >0)&&!QT (wN c.writes (IntKind.i64.wrap ((i:Int) - 1)).toNat) (wN c.writes i))):=by
  unfold DJ Gx JQ
  rw[nn,Mp,Int.toNat_natCast,Bic,Blt]
  rfl
 rw[e]
 unfold PW
 cases i with
 |zero=>rfl
 |succ j=>
  have h1:(IntKind.i64.wrap (((j+1:Nat):Int) - 1)).toNat=j+1 - 1:=by rw[i64_in (by omega)];omega
  have h2:decide (((j+1:Nat):Int) >0)=decide (0 <j+1):=decide_eq_decide.2 (by omega)
  rw[h1,h2]
theorem Aqf (l:List TGroup) (c:TChange) (hb:Ao c.writes.length) (hw:∀g∈l,Ao g.1.size):(∀p∈Aqh l c,p)∧Adz l c=QV l c:=by
 unfold Ao at hb
 obtain⟨h1,k,hk,hx,_,_,hb'⟩:=Ij (fun i=>((l,(i:Int),c):Cm)) c.writes.length (fun i=>PW l c.writes i) Gz Gy Js (Ia (l,0,c)) (l,0,c) rfl (by show c.writes.length≤((c.writes.length:Int) - 0).toNat;omega)
  (fun i hi _=>by
   show((!!decide ((i:Int) <(c.writes.length:Int)))&&!DJ l (i:Int) c)=_
   rw[Bob l c i (by omega),nn,Mp]
   cases decide (i <c.writes.length)<;>rfl)
  (fun i hi _=>by
   show(l,IntKind.i64.wrap ((i:Int)+1),c)=(l,((i+1:Nat):Int),c)
   rw[Eu (by omega)])
  (fun i hi _=>by
   have hin:(!!decide ((i:Int) <(c.writes.length:Int)))=true→(i:Int) <(c.writes.length:Int):=fun h=>by rw[nn] at h;exact of_decide_eq_true h
   refine Aa (fun h=>⟨by show(0:Int)≤(i:Int);omega,hin h⟩) (Aa (fun h h3 _=>?_) (Aa (fun h _ _=>⟨by show(0:Int)≤(i:Int);omega,hin h⟩) Ad))
   have h4:(i:Int) >0:=of_decide_eq_true h3
   have h5:=hin h
   show(0:Int)≤IntKind.i64.wrap ((i:Int) - 1)∧IntKind.i64.wrap ((i:Int) - 1) <(c.writes.length:Int)
   rw[i64_in (by omega)]
   omega)
 have hr:QI l c=(l,(k:Int),c):=hx
 refine⟨Aa hw (Aa (fun _ h=>Bok (Byd.1 (by
  cases hs:c.site !=1&&c.site !=2 with
  |false=>rfl
  |true=>
   have h':(c.site !=(1:Int)&&c.site !=(2:Int)||decide (c.seq <(1:Int))||decide (c.seq >(1099511627776:Int))||!GX c.stamp||c.stamp.site !=c.site||!EB c.vec)=false:=h
   rw[hs] at h'
   simp at h'))) (Aa (fun _ _=>h1) Ad)),?_⟩
 unfold Adz QV
 show(bif AP l !=0 then AP l else _)=_
 congr 1
 have e0:Jr l c=(!HP c||!Ahm c):=by
  rw[Bno,Bool.not_not]
  unfold Jr Gd Ahm
  rw[Xu,Qy]
  have h2:decide ((c.5.length:Int) <(1:Int))=!decide (1≤c.writes.length):=by rw[←decide_not];exact decide_eq_decide.2 (by show(c.writes.length:Int) <1↔_;omega)
  have h3:decide ((c.5.length:Int) >(8:Int))=!decide (c.writes.length≤8):=by rw[←decide_not];exact decide_eq_decide.2 (by show(c.writes.length:Int) >8↔_;omega)
  rw[h2,h3]
  show(_||_||_||!HF c.stamp||c.stamp.site !=c.site||_||_||_||_)=(_||_||_||c.stamp.site !=c.site||!HF c.stamp||_||_||_)
  cases HF c.stamp<;>cases c.stamp.site !=c.site<;>cases decide (1≤c.writes.length)<;>cases decide (c.writes.length≤8)<;>simp
 rw[e0,hr]
 show(bif !HP c||!Ahm c then 120 else bif DJ l (k:Int) c then 120 else 0)=_
 rw[Bob l c k (Nat.le_trans hk hb),hb']
 cases HP c<;>cases Ahm c<;>cases KU c.writes.length (fun i=>!PW l c.writes i)<;>rfl
theorem Bgw (a0:List TGroup) (a1:TChange) (hp:∀p∈Aip a0 a1,p):CallOk Try.prog 171 [.sl .group a0,Ae .change a1] 0 [] 1 (Aqi a0 a1) 0 (Aqg a0 a1):=by
 have hb:Ao a1.writes.length:=hp _ (List.mem_cons_self ..)
 have hw:∀g∈a0,Ao g.1.size:=hp _ (List.mem_cons_of_mem _ (List.mem_cons_self ..))
 have h:=Bkx a0 a1 (Aqf a0 a1 hb hw).1
 unfold Ad0 at h
 rw[(Aqf a0 a1 hb hw).2] at h
 exact h
def A0s:List A→Nat→Objs→Option AU:=A5 [.l .group,.t .change] 0 Aqi Aqg Aip
theorem Bar:Ev Try.prog 171 A0s:=As (ks:=[.l .group,.t .change]) Bgw
noncomputable def Bzu:=AQ 171 A0s Bcb
theorem Brm:Cp Try.prog Bzu:=Ak Bar Auy
noncomputable def Cch:=Bzu
theorem Brn:Cp Try.prog Cch:=Brm
end Go.Proofs.Yteebobbhhgmeiaa
