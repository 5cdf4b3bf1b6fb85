/- made by a program (rowgen.py): ModelMerges: for every input the law returns true, and each argument reads behind the call as it read before. -/
import Derived.Test.YteebobbhhgmeiaaKMme

set_option maxRecDepth 100000
namespace Go.Proofs.Yteebobbhhgmeiaa
open Go.RowKit
def B7o (c:TC) (x:A):Option (U c×U c):=match B22 c x with
 |some [a,b]=>some (a,b)
 |_=>none
theorem B23 {c:TC} {x:A} {a b:U c} {F:Nat→Prop} {N:Nm} {nx:Nat} {R:World} {v:Value} (he:B7o c x=some (a,b)) (h:Hv F N nx R x v):Hv F N nx R (.sl c [a,b]) v:=by
 unfold B7o at he
 split at he<;>first|(cases he;done)|skip
 rename_i h1
 cases he
 exact Bsu h1 h
def VU (a0:TStamp) (a1:TStamp):Bool:=decide (a0.1 <a1.1)||a0.1==a1.1&&decide (a0.2 <a1.2)
def VW (a0:TStamp) (a1:TStamp):A:=.v (.bool (VU a0 a1))
def VV (_a0:TStamp) (_a1:TStamp):Objs:=[]
def S9 (_a0:TStamp) (_a1:TStamp):List Prop:=[]
theorem A9e (a0:TStamp) (a1:TStamp):Eo (Au Cl L0) 9 168 [Af .stamp a0,Af .stamp a1] 0 []=some (1,VW a0 a1,0,VV a0 a1,S9 a0 a1):=by kernel_rfl
theorem Bgo (a0:TStamp) (a1:TStamp) (hp:∀p∈S9 a0 a1,p):CallOk Try.prog 168 [Af .stamp a0,Af .stamp a1] 0 [] 1 (VW a0 a1) 0 (VV a0 a1):=Ax (Ap Bhm Av) (A9e a0 a1) hp
def Ane:List A→Nat→Objs→Option AV:=A7 [.t .stamp,.t .stamp] 0 VW VV S9
theorem A6g:ET Try.prog 168 Ane:=Aq (ks:=[.t .stamp,.t .stamp]) Bgo
noncomputable def B7c:=AU 168 Ane Cl
theorem Br7:CD Try.prog B7c:=Ak A6g Bhm
def Ay (a0:TCell):TCell:=TCell.mk a0.1 a0.2 a0.3 a0.4 (TVec.mk (0:Int) (0:Int))
def Vd (a0:TCell):A:=.v (.agg ⟨[.int .i64 ((Ay a0).stamp.n),.int .i64 ((Ay a0).stamp.site),.int .i64 ((Ay a0).vec.a),.int .i64 ((Ay a0).vec.b),.bool ((Ay a0).gone),.string ((Ay a0).value),.int .i64 ((Ay a0).dead.a),.int .i64 ((Ay a0).dead.b)]⟩)
def Vc (_a0:TCell):Objs:=[]
def Sy (_a0:TCell):List Prop:=[]
theorem A7c (a0:TCell):Eo (Au B7c L0) 9 167 [Af .cell a0] 0 []=some (1,Vd a0,0,Vc a0,Sy a0):=by kernel_rfl
theorem Bdh (a0:TCell) (hp:∀p∈Sy a0,p):CallOk Try.prog 167 [Af .cell a0] 0 [] 1 (Vd a0) 0 (Vc a0):=Ax (Ap Br7 Av) (A7c a0) hp
def Ajz:List A→Nat→Objs→Option AV:=A7 [.t .cell] 0 Vd Vc Sy
theorem A0y:ET Try.prog 167 Ajz:=Aq (ks:=[.t .cell]) Bdh
noncomputable def B7d:=AU 167 Ajz B7c
theorem Br8:CD Try.prog B7d:=Ak A0y Br7
def Pi (a0:TCell) (a1:TCell):Bool:=!(Ay a0).4.toList==(Ay a1).4.toList
def Vb (a0:TCell) (a1:TCell):Bool:=!((Ay a0).1.1==(Ay a1).1.1&&(Ay a0).1.2==(Ay a1).1.2)
def Ph (a0:TCell) (a1:TCell):Bool:=(Ay a0).1.1==(Ay a1).1.1&&(Ay a0).1.2==(Ay a1).1.2&&((Ay a0).2.1==(Ay a1).2.1&&(Ay a0).2.2==(Ay a1).2.2&&((Ay a0).3==(Ay a1).3&&((Ay a0).4.toList==(Ay a1).4.toList&&((Ay a0).5.1==(Ay a1).5.1&&(Ay a0).5.2==(Ay a1).5.2))))
def X4 (a0:TCell) (a1:TCell):Bool:=bif(Ph a0 a1)||((Vb a0 a1)||(!(Ay a0).3==(Ay a1).3||((Pi a0 a1)||(Ay a0).2.1 !=(Ay a1).2.1))) then bif(Ph a0 a1) then false else bif(Vb a0 a1) then VU (Ay a0).1 (Ay a1).1 else bif !(Ay a0).3==(Ay a1).3 then(Ay a1).3 else bif(Pi a0 a1) then Op.bytesLess (Ay a0).4.toList (Ay a1).4.toList else decide ((Ay a0).2.1 <(Ay a1).2.1) else decide ((Ay a0).2.2 <(Ay a1).2.2)
def X5 (a0:TCell) (a1:TCell):A:=.v (.bool (X4 a0 a1))
def Asa (_a0:TCell) (_a1:TCell):Objs:=[]
def Ajx (_a0:TCell) (_a1:TCell):List Prop:=[]
theorem Bdg (a0:TCell) (a1:TCell):Eo (Au B7d L0) 9 138 [Af .cell a0,Af .cell a1] 0 []=some (1,X5 a0 a1,0,Asa a0 a1,Ajx a0 a1):=by kernel_rfl
theorem Bj2 (a0:TCell) (a1:TCell) (hp:∀p∈Ajx a0 a1,p):CallOk Try.prog 138 [Af .cell a0,Af .cell a1] 0 [] 1 (X5 a0 a1) 0 (Asa a0 a1):=Ax (Ap Br8 Av) (Bdg a0 a1) hp
def Ajy (a0:TCell) (a1:TCell):A:=.v (.bool (J9 a0 a1))
def Ajw (_a0:TCell) (_a1:TCell):Objs:=[]
def Acf (_a0:TCell) (_a1:TCell):List Prop:=[]
theorem Bdf (a b:TCell):X4 a b=J9 a b:=by
 have e0:Ph a b=((a.stamp.n==b.stamp.n&&a.stamp.site==b.stamp.site)&&((a.vec.a==b.vec.a&&a.vec.b==b.vec.b)&&(a.gone==b.gone&&((a.value==b.value)&&true)))):=by
  unfold Ph
  rw[tlb]
  rfl
 have e1:Vb a b=!(a.stamp.n==b.stamp.n&&a.stamp.site==b.stamp.site):=rfl
 have e2:Pi a b=!(a.value==b.value):=by
  unfold Pi
  rw[tlb]
  rfl
 unfold X4 J9 VU
 rw[e0,e1,e2]
 show(bif _||(_||(!(a.gone==b.gone)||(_||!(a.vec.a==b.vec.a)))) then bif _ then false else bif _ then(decide (a.stamp.n <b.stamp.n)||a.stamp.n==b.stamp.n&&decide (a.stamp.site <b.stamp.site)) else bif !(a.gone==b.gone) then b.gone else bif _ then Ip a.value b.value else decide (a.vec.a <b.vec.a) else decide (a.vec.b <b.vec.b))=(bif _ then _ else bif !(a.gone==b.gone) then b.gone else bif _ then Ip a.value b.value else bif !(a.vec.a==b.vec.a) then decide (a.vec.a <b.vec.a) else decide (a.vec.b <b.vec.b))
 have hb:(a.vec.b==b.vec.b)=true→decide (a.vec.b <b.vec.b)=false:=fun h=>decide_eq_false (by have:a.vec.b=b.vec.b:=eq_of_beq h;omega)
 revert hb
 generalize (a.stamp.n==b.stamp.n&&a.stamp.site==b.stamp.site)=q1
 generalize (a.gone==b.gone)=q2
 generalize (a.value==b.value)=q3
 generalize (a.vec.a==b.vec.a)=q4
 generalize (a.vec.b==b.vec.b)=q5
 generalize decide (a.vec.b <b.vec.b)=q6
 cases q1<;>cases q2<;>cases q3<;>cases q4<;>cases q5<;>cases q6<;>simp
theorem Bde (a0:TCell) (a1:TCell) (_hp:∀p∈Acf a0 a1,p):CallOk Try.prog 138 [Af .cell a0,Af .cell a1] 0 [] 1 (Ajy a0 a1) 0 (Ajw a0 a1):=by
 have h:=Bj2 a0 a1 (fun _ h=>by cases h)
 unfold X5 at h
 rw[Bdf] at h
 exact h
def Asb:List A→Nat→Objs→Option AV:=A7 [.t .cell,.t .cell] 0 Ajy Ajw Acf
theorem A7b:ET Try.prog 138 Asb:=Aq (ks:=[.t .cell,.t .cell]) Bde
noncomputable def B7e:=AU 138 Asb B7d
theorem Br9:CD Try.prog B7e:=Ak A7b Br8
def Agm (a0:TStamp) (a1:TStamp):Bool:=bif a0.1 !=a1.1 then decide (a0.1 <a1.1) else decide (a0.2 <a1.2)
def Ago (a0:TStamp) (a1:TStamp):A:=.v (.bool (Agm a0 a1))
def Agn (_a0:TStamp) (_a1:TStamp):Objs:=[]
def Zg (_a0:TStamp) (_a1:TStamp):List Prop:=[]
theorem Bk8 (a0:TStamp) (a1:TStamp):Eo (Au B7e L0) 9 173 [Af .stamp a0,Af .stamp a1] 0 []=some (1,Ago a0 a1,0,Agn a0 a1,Zg a0 a1):=by kernel_rfl
theorem Bpi (a0:TStamp) (a1:TStamp) (hp:∀p∈Zg a0 a1,p):CallOk Try.prog 173 [Af .stamp a0,Af .stamp a1] 0 [] 1 (Ago a0 a1) 0 (Agn a0 a1):=Ax (Ap Br9 Av) (Bk8 a0 a1) hp
def A3a:List A→Nat→Objs→Option AV:=A7 [.t .stamp,.t .stamp] 0 Ago Agn Zg
theorem Bez:ET Try.prog 173 A3a:=Aq (ks:=[.t .stamp,.t .stamp]) Bpi
noncomputable def B7f:=AU 173 A3a B7e
theorem Bsa:CD Try.prog B7f:=Ak Bez Br9
def Jk (a0:TCell) (a1:TCell):Bool:=bif !(a0.1.1==a1.1.1&&a0.1.2==a1.1.2) then Agm a0.1 a1.1 else bif !a0.3==a1.3 then a1.3 else bif !a0.4.toList==a1.4.toList then Op.bytesLess a0.4.toList a1.4.toList else bif a0.2.1 !=a1.2.1 then decide (a0.2.1 <a1.2.1) else decide (a0.2.2 <a1.2.2)
def Ag3 (a0:TCell) (a1:TCell):A:=.v (.bool (Jk a0 a1))
def Ag2 (_a0:TCell) (_a1:TCell):Objs:=[]
def Zr (_a0:TCell) (_a1:TCell):List Prop:=[]
theorem Blo (a0:TCell) (a1:TCell):Eo (Au B7f L0) 9 166 [Af .cell a0,Af .cell a1] 0 []=some (1,Ag3 a0 a1,0,Ag2 a0 a1,Zr a0 a1):=by kernel_rfl
theorem Bps (a0:TCell) (a1:TCell) (hp:∀p∈Zr a0 a1,p):CallOk Try.prog 166 [Af .cell a0,Af .cell a1] 0 [] 1 (Ag3 a0 a1) 0 (Ag2 a0 a1):=Ax (Ap Bsa Av) (Blo a0 a1) hp
def A3w:List A→Nat→Objs→Option AV:=A7 [.t .cell,.t .cell] 0 Ag3 Ag2 Zr
theorem Be9:ET Try.prog 166 A3w:=Aq (ks:=[.t .cell,.t .cell]) Bps
noncomputable def B7g:=AU 166 A3w B7f
theorem Bsb:CD Try.prog B7g:=Ak Be9 Bsa
def JG (a0:TCell) (a1:TCell):TCell:=TCell.mk (TStamp.mk (bif Jk a0 a1 then a1.1.1 else a0.1.1) (bif Jk a0 a1 then a1.1.2 else a0.1.2)) (TVec.mk (bif Jk a0 a1 then a1.2.1 else a0.2.1) (bif Jk a0 a1 then a1.2.2 else a0.2.2)) (bif Jk a0 a1 then a1.3 else a0.3) (bif Jk a0 a1 then a1.4 else a0.4) (Um a0.5 a1.5)
def Ap0 (a0:TCell) (a1:TCell):A:=.v (.agg ⟨[.int .i64 ((JG a0 a1).stamp.n),.int .i64 ((JG a0 a1).stamp.site),.int .i64 ((JG a0 a1).vec.a),.int .i64 ((JG a0 a1).vec.b),.bool ((JG a0 a1).gone),.string ((JG a0 a1).value),.int .i64 ((JG a0 a1).dead.a),.int .i64 ((JG a0 a1).dead.b)]⟩)
def Ba0 (_a0:TCell) (_a1:TCell):Objs:=[]
def A3y (_a0:TCell) (_a1:TCell):List Prop:=[]
theorem Bpv (a0:TCell) (a1:TCell):Eo (Au B7g L0) 9 135 [Af .cell a0,Af .cell a1] 0 []=some (1,Ap0 a0 a1,0,Ba0 a0 a1,A3y a0 a1):=by kernel_rfl
theorem Bvk (a0:TCell) (a1:TCell) (hp:∀p∈A3y a0 a1,p):CallOk Try.prog 135 [Af .cell a0,Af .cell a1] 0 [] 1 (Ap0 a0 a1) 0 (Ba0 a0 a1):=Ax (Ap Bsb Av) (Bpv a0 a1) hp
def A3z (a0:TCell) (a1:TCell):A:=.v (.agg ⟨[.int .i64 ((KR a0 a1).stamp.n),.int .i64 ((KR a0 a1).stamp.site),.int .i64 ((KR a0 a1).vec.a),.int .i64 ((KR a0 a1).vec.b),.bool ((KR a0 a1).gone),.string ((KR a0 a1).value),.int .i64 ((KR a0 a1).dead.a),.int .i64 ((KR a0 a1).dead.b)]⟩)
def A3x (_a0:TCell) (_a1:TCell):Objs:=[]
def Ato (_a0:TCell) (_a1:TCell):List Prop:=[]
theorem Bk7 (a b:TStamp):Agm a b=(decide (a.n <b.n)||a.n==b.n&&decide (a.site <b.site)):=by
 show(bif !(a.n==b.n) then decide (a.n <b.n) else decide (a.site <b.site))=_
 by_cases h:a.n=b.n
 ·rw[beq_iff_eq.2 h,decide_eq_false (p:=a.n <b.n) (by omega)]
  simp
 ·rw[beq_eq_false_iff_ne.2 h]
  simp
theorem Bln (a b:TCell):Jk a b=J9 a b:=by
 unfold Jk J9
 rw[Bk7,tlb]
 rfl
theorem Bpu (a b:TCell):JG a b=KR a b:=by
 unfold JG KR H9
 rw[Bln]
 cases J9 a b<;>rfl
theorem Bpt (a0:TCell) (a1:TCell) (_hp:∀p∈Ato a0 a1,p):CallOk Try.prog 135 [Af .cell a0,Af .cell a1] 0 [] 1 (A3z a0 a1) 0 (A3x a0 a1):=by
 have h:=Bvk a0 a1 (fun _ h=>by cases h)
 unfold Ap0 at h
 rw[Bpu] at h
 exact h
def Ba1:List A→Nat→Objs→Option AV:=A7 [.t .cell,.t .cell] 0 A3z A3x Ato
theorem Blp:ET Try.prog 135 Ba1:=Aq (ks:=[.t .cell,.t .cell]) Bpt
noncomputable def B7h:=AU 135 Ba1 B7g
theorem Bsc:CD Try.prog B7h:=Ak Blp Bsb
def P3 (a0:TCell) (a1:TCell):A:=.v (.bool (J9 a0 a1))
def P0 (_a0:TCell) (_a1:TCell):Objs:=[]
def Ow (_a0:TCell) (_a1:TCell):List Prop:=[]
theorem Avy (a0:TCell) (a1:TCell):Eo (Au B7h L0) 9 137 [Af .cell a0,Af .cell a1] 0 []=some (1,P3 a0 a1,0,P0 a0 a1,Ow a0 a1):=by kernel_rfl
theorem A0x (a0:TCell) (a1:TCell) (hp:∀p∈Ow a0 a1,p):CallOk Try.prog 137 [Af .cell a0,Af .cell a1] 0 [] 1 (P3 a0 a1) 0 (P0 a0 a1):=Ax (Ap Bsc Av) (Avy a0 a1) hp
def X1:List A→Nat→Objs→Option AV:=A7 [.t .cell,.t .cell] 0 P3 P0 Ow
theorem Aoj:ET Try.prog 137 X1:=Aq (ks:=[.t .cell,.t .cell]) A0x
noncomputable def B7i:=AU 137 X1 B7h
theorem Bsd:CD Try.prog B7i:=Ak Aoj Bsc
noncomputable def B7j:=AU 136 (inl (Au B7i L0) 4 136) B7i
theorem Bse:CD Try.prog B7j:=Ak (Afo (Ap Bsd Av) 4 136) Bsd
def B9 (a0:TCell) (b0:TCell):Bool:=J9 (TCell.mk (TStamp.mk (0:Int) (0:Int)) (TVec.mk (0:Int) (0:Int)) false (ByteArray.mk #[]) (TVec.mk (0:Int) (0:Int))) ([a0,b0].getD (0:Nat) (Ab TC.cell))
def H4 (a0:TCell) (b0:TCell):Bool:=J9 (TCell.mk (TStamp.mk (bif(B9 a0 b0) then([a0,b0].getD (0:Nat) (Ab TC.cell)).1.1 else(0:Int)) (bif(B9 a0 b0) then([a0,b0].getD (0:Nat) (Ab TC.cell)).1.2 else(0:Int))) (TVec.mk (bif(B9 a0 b0) then([a0,b0].getD (0:Nat) (Ab TC.cell)).2.1 else(0:Int)) (bif(B9 a0 b0) then([a0,b0].getD (0:Nat) (Ab TC.cell)).2.2 else(0:Int))) (bif(B9 a0 b0) then([a0,b0].getD (0:Nat) (Ab TC.cell)).3 else false) (bif(B9 a0 b0) then([a0,b0].getD (0:Nat) (Ab TC.cell)).4 else ByteArray.mk #[]) (TVec.mk (bif(B9 a0 b0) then([a0,b0].getD (0:Nat) (Ab TC.cell)).5.1 else(0:Int)) (bif(B9 a0 b0) then([a0,b0].getD (0:Nat) (Ab TC.cell)).5.2 else(0:Int)))) ([a0,b0].getD (1:Nat) (Ab TC.cell))
def GN (a0:TCell) (b0:TCell):TCell:=TCell.mk (TStamp.mk (bif(H4 a0 b0) then([a0,b0].getD (1:Nat) (Ab TC.cell)).1.1 else bif(B9 a0 b0) then([a0,b0].getD (0:Nat) (Ab TC.cell)).1.1 else(0:Int)) (bif(H4 a0 b0) then([a0,b0].getD (1:Nat) (Ab TC.cell)).1.2 else bif(B9 a0 b0) then([a0,b0].getD (0:Nat) (Ab TC.cell)).1.2 else(0:Int))) (TVec.mk (bif(H4 a0 b0) then([a0,b0].getD (1:Nat) (Ab TC.cell)).2.1 else bif(B9 a0 b0) then([a0,b0].getD (0:Nat) (Ab TC.cell)).2.1 else(0:Int)) (bif(H4 a0 b0) then([a0,b0].getD (1:Nat) (Ab TC.cell)).2.2 else bif(B9 a0 b0) then([a0,b0].getD (0:Nat) (Ab TC.cell)).2.2 else(0:Int))) (bif(H4 a0 b0) then([a0,b0].getD (1:Nat) (Ab TC.cell)).3 else bif(B9 a0 b0) then([a0,b0].getD (0:Nat) (Ab TC.cell)).3 else false) (bif(H4 a0 b0) then([a0,b0].getD (1:Nat) (Ab TC.cell)).4 else bif(B9 a0 b0) then([a0,b0].getD (0:Nat) (Ab TC.cell)).4 else ByteArray.mk #[]) (TVec.mk (max (max (0:Int) ((((List.replicate (2:Nat) (Ab TC.vec)).set (0:Nat) ([a0,b0].getD (0:Nat) (Ab TC.cell)).5).set (1:Nat) ([a0,b0].getD (1:Nat) (Ab TC.cell)).5).getD (0:Nat) (Ab TC.vec)).1) ((((List.replicate (2:Nat) (Ab TC.vec)).set (0:Nat) ([a0,b0].getD (0:Nat) (Ab TC.cell)).5).set (1:Nat) ([a0,b0].getD (1:Nat) (Ab TC.cell)).5).getD (1:Nat) (Ab TC.vec)).1) (max (max (0:Int) ((((List.replicate (2:Nat) (Ab TC.vec)).set (0:Nat) ([a0,b0].getD (0:Nat) (Ab TC.cell)).5).set (1:Nat) ([a0,b0].getD (1:Nat) (Ab TC.cell)).5).getD (0:Nat) (Ab TC.vec)).2) ((((List.replicate (2:Nat) (Ab TC.vec)).set (0:Nat) ([a0,b0].getD (0:Nat) (Ab TC.cell)).5).set (1:Nat) ([a0,b0].getD (1:Nat) (Ab TC.cell)).5).getD (1:Nat) (Ab TC.vec)).2))
def X2 (a0:TCell) (b0:TCell):A:=.v (.agg ⟨[.int .i64 ((GN a0 b0).stamp.n),.int .i64 ((GN a0 b0).stamp.site),.int .i64 ((GN a0 b0).vec.a),.int .i64 ((GN a0 b0).vec.b),.bool ((GN a0 b0).gone),.string ((GN a0 b0).value),.int .i64 ((GN a0 b0).dead.a),.int .i64 ((GN a0 b0).dead.b)]⟩)
def Ar9 (_a0:TCell) (_b0:TCell):Objs:=[]
def Bdd (_a0:TCell) (_b0:TCell):List Prop:=[]
theorem Bdc (a0:TCell) (b0:TCell):Eo (Au B7j L0) 9 75 [.sl .cell [a0,b0]] 0 []=some (1,X2 a0 b0,0,Ar9 a0 b0,[((0:Int)≤(0:Int)∧(0:Int) <(↑(2:Nat):Int)),((0:Int)≤(1:Int)∧(1:Int) <(↑(2:Nat):Int)),((0:Int)≤(↑(2:Nat):Int)∧(↑(2:Nat):Int)≤(↑(2:Nat):Int)∧(↑(2:Nat):Int)≤(549755813888:Int)),((0:Int)≤(0:Int)∧(0:Int) <(↑(2:Nat):Int)),((0:Int)≤(0:Int)∧(0:Int) <(↑(2:Nat):Int)),((0:Nat) <(2:Nat)),((0:Int)≤(1:Int)∧(1:Int) <(↑(2:Nat):Int)),((0:Int)≤(1:Int)∧(1:Int) <(↑(2:Nat):Int)),((1:Nat) <(2:Nat)),((0:Int)≤(0:Int)∧(0:Int) <(↑(2:Nat):Int)),((0:Nat) <(2:Nat)),((0:Int)≤(0:Int)∧(0:Int) <(2:Int)),((0:Nat) <(2:Nat)),((0:Int)≤(0:Int)∧(0:Int) <(2:Int)),((0:Nat) <(2:Nat)),((0:Int)≤(0:Int)∧(0:Int) <(2:Int)),((0:Nat) <(2:Nat)),((0:Int)≤(1:Int)∧(1:Int) <(2:Int)),((1:Nat) <(2:Nat)),((0:Int)≤(1:Int)∧(1:Int) <(2:Int)),((1:Nat) <(2:Nat)),((0:Int)≤(1:Int)∧(1:Int) <(2:Int)),((1:Nat) <(2:Nat)),((0:Int)≤(1:Int)∧(1:Int) <(↑(2:Nat):Int)),((1:Nat) <(2:Nat)),((0:Int)≤(0:Int)∧(0:Int) <(2:Int)),((0:Nat) <(2:Nat)),((0:Int)≤(0:Int)∧(0:Int) <(2:Int)),((0:Nat) <(2:Nat)),((0:Int)≤(0:Int)∧(0:Int) <(2:Int)),((0:Nat) <(2:Nat)),((0:Int)≤(1:Int)∧(1:Int) <(2:Int)),((1:Nat) <(2:Nat)),((0:Int)≤(1:Int)∧(1:Int) <(2:Int)),((1:Nat) <(2:Nat)),((0:Int)≤(1:Int)∧(1:Int) <(2:Int)),((1:Nat) <(2:Nat))]):=by kernel_rfl
theorem Bj1 (a0:TCell) (b0:TCell) (_hp:∀p∈Bdd a0 b0,p):CallOk Try.prog 75 [.sl .cell [a0,b0]] 0 [] 1 (X2 a0 b0) 0 (Ar9 a0 b0):=by
 have n0:((0:Int)≤(0:Int)∧(0:Int) <(↑(2:Nat):Int)):=by first|rfl|decide+kernel
 have n1:((0:Int)≤(1:Int)∧(1:Int) <(↑(2:Nat):Int)):=by first|rfl|decide+kernel
 have n2:((0:Int)≤(↑(2:Nat):Int)∧(↑(2:Nat):Int)≤(↑(2:Nat):Int)∧(↑(2:Nat):Int)≤(549755813888:Int)):=by first|rfl|decide+kernel
 have n5:((0:Nat) <(2:Nat)):=by first|rfl|decide+kernel
 have n8:((1:Nat) <(2:Nat)):=by first|rfl|decide+kernel
 have n11:((0:Int)≤(0:Int)∧(0:Int) <(2:Int)):=by first|rfl|decide+kernel
 have n17:((0:Int)≤(1:Int)∧(1:Int) <(2:Int)):=by first|rfl|decide+kernel
 exact Ax (Ap Bse Av) (Bdc a0 b0) (Aa n0 (Aa n1 (Aa n2 (Aa n0 (Aa n0 (Aa n5 (Aa n1 (Aa n1 (Aa n8 (Aa n0 (Aa n5 (Aa n11 (Aa n5 (Aa n11 (Aa n5 (Aa n11 (Aa n5 (Aa n17 (Aa n8 (Aa n17 (Aa n8 (Aa n17 (Aa n8 (Aa n1 (Aa n8 (Aa n11 (Aa n5 (Aa n11 (Aa n5 (Aa n11 (Aa n5 (Aa n17 (Aa n8 (Aa n17 (Aa n8 (Aa n17 (Aa n8 Ad)))))))))))))))))))))))))))))))))))))
def Ajv (a0:TCell) (a1:TCell):A:=.v (.agg ⟨[.int .i64 ((Mb a0 a1).stamp.n),.int .i64 ((Mb a0 a1).stamp.site),.int .i64 ((Mb a0 a1).vec.a),.int .i64 ((Mb a0 a1).vec.b),.bool ((Mb a0 a1).gone),.string ((Mb a0 a1).value),.int .i64 ((Mb a0 a1).dead.a),.int .i64 ((Mb a0 a1).dead.b)]⟩)
def Aju (_a0:TCell) (_a1:TCell):Objs:=[]
def Ace (_a0:TCell) (_a1:TCell):List Prop:=[]
theorem Bdb (a b:TCell):GN a b=Mb a b:=by
 have h1:B9 a b=J9 zeroC a:=rfl
 have h0:H4 a b=J9 (H9 zeroC a) b:=by
  unfold H4
  rw[h1]
  unfold H9
  cases J9 zeroC a<;>rfl
 unfold GN
 rw[h0,h1]
 have hm:H9 (H9 zeroC a) b=bif J9 (H9 zeroC a) b then b else H9 zeroC a:=rfl
 have hz:H9 zeroC a=bif J9 zeroC a then a else zeroC:=rfl
 unfold Mb
 rw[hm]
 cases J9 (H9 zeroC a) b with
 |true=>rfl
 |false=>
  rw[hz]
  cases J9 zeroC a<;>rfl
theorem Bda (a0:TCell) (b0:TCell) (_hp:∀p∈Ace a0 b0,p):CallOk Try.prog 75 [.sl .cell [a0,b0]] 0 [] 1 (Ajv a0 b0) 0 (Aju a0 b0):=by
 have h:=Bj1 a0 b0 (fun _ h=>by cases h)
 unfold X2 at h
 rw[Bdb] at h
 exact h
def X3:List A→Nat→Objs→Option AV
 | [y0],nx,o=>match B7o .cell y0 with
  |some (a0,b0)=>some (1,(Ajv a0 b0).pk (Aad nx),nx+0,Aac nx (Aju a0 b0)++o,Ace a0 b0)
  |_=>none
 |_,_,_=>none
theorem A7a:ET Try.prog 75 X3:=fun args nx o k x nx' o' ps h=>by
 unfold X3 at h
 split at h<;>first|(cases h;done)|skip
 split at h<;>first|(cases h;done)|skip
 rename_i a0 b0 e0
 cases h
 refine⟨fun hp=>?_,_,rfl⟩
 refine Arr (Aiu (Bda a0 b0 hp) (Nat.le_refl _) (MZ rfl Tt) nx o) fun F N R vs hl=>?_
 obtain⟨v0,w0,rfl,h0,hl⟩:=hl.inv
 exact HL.cons (B23 e0 h0) (hl)
noncomputable def B8v:=AU 75 X3 B7j
theorem B2s:CD Try.prog B8v:=Ak A7a Bse
noncomputable def Cq:=B8v
theorem B8w:CD Try.prog Cq:=B2s
end Go.Proofs.Yteebobbhhgmeiaa
namespace Go.Proofs.Yteebobbhhgmeiaa
open Go.RowKit
def wrE (l:List TGroup) (r:TRow) (g:Int) (c:TCell):Int:=bif Ah l r !=0 then Ah l r else bif decide (g <0)||decide (g≥(l.length:Int)) then 70 else bif !Bw (Agc l g.toNat) c then 80 else 0
def Caa (xs:List TCell) (g:Nat) (c:TCell):List TCell:=xs.set g (Mb (HH xs g) c)
end Go.Proofs.Yteebobbhhgmeiaa
namespace Go.Proofs.Yteebobbhhgmeiaa
open Go.RowKit
noncomputable def B8x:=AU 60 Yc Cq
theorem B2t:CD Try.prog B8x:=Ak Ach B8w
noncomputable def B7k:=AU 61 Asi B8x
theorem Bsf:CD Try.prog B7k:=Ak A7d B2t
def Ia (a0:List TGroup) (_a1:Int):Bool:=AO a0 !=(0:Int)
def DQ (a0:List TGroup) (a1:Int):Bool:=decide (a1 <(0:Int))||decide (a1≥(↑a0.length:Int))
def C9 (a0:List TGroup) (a1:Int):Int:=bif(Ia a0 a1) then(0:Int) else bif(DQ a0 a1) then(0:Int) else(a0.getD a1.toNat (Ab TC.group)).2
def Kc (a0:List TGroup) (a1:Int):Int:=bif(Ia a0 a1) then AO a0 else bif(DQ a0 a1) then(70:Int) else(0:Int)
def Y7 (a0:List TGroup) (a1:Int):A:=.v (.tuple ⟨[.int .i64 (C9 a0 a1),.int .i64 (Kc a0 a1)]⟩)
def Y6 (_a0:List TGroup) (_a1:Int):Objs:=[]
def Vz (a0:List TGroup) (a1:Int):List Prop:=[((!(Ia a0 a1))=true→(!(DQ a0 a1))=true→(0:Int)≤a1∧a1 <(↑a0.length:Int))]
theorem Bet (a0:List TGroup) (a1:Int):Eo (Au B7k L0) 9 134 [.sl .group a0,Af .i64 a1] 0 []=some (1,Y7 a0 a1,0,Y6 a0 a1,Vz a0 a1):=by kernel_rfl
theorem Bk2 (a0:List TGroup) (a1:Int) (hp:∀p∈Vz a0 a1,p):CallOk Try.prog 134 [.sl .group a0,Af .i64 a1] 0 [] 1 (Y7 a0 a1) 0 (Y6 a0 a1):=Ax (Ap Bsf Av) (Bet a0 a1) hp
def As7:List A→Nat→Objs→Option AV:=A7 [.l .group,.t .i64] 0 Y7 Y6 Vz
theorem A74:ET Try.prog 134 As7:=Aq (ks:=[.l .group,.t .i64]) Bk2
noncomputable def B7l:=AU 134 As7 B7k
theorem Bsg:CD Try.prog B7l:=Ak A74 Bsf
def Im (a0:TRow):List TCell:=List.replicate (↑a0.2.length:Int).toNat (Ab TC.cell)
def VP (a0:TRow):List TCell:=List.take (0:Nat) (Im a0)++(List.take (Im a0).length a0.2++List.drop ((0:Nat)+(Im a0).length.min a0.2.length) (Im a0))
def Am4 (a0:TRow):A:=.agg [.v (.string a0.1),.sq 0]
def VQ (a0:TRow):Objs:=[(0,some (.arr 55 8 (.ty .cell (VP a0))))]
def Aer (a0:TRow):List Prop:=[((0:Int)≤(↑a0.2.length:Int)∧(↑a0.2.length:Int)≤(↑a0.2.length:Int)∧(↑a0.2.length:Int)≤(549755813888:Int))]
theorem A86 (a0:TRow):Eo (Au B7l L0) 9 133 [Af .row a0] 0 []=some (1,Am4 a0,1,VQ a0,Aer a0):=by kernel_rfl
theorem Bgc (a0:TRow) (hp:∀p∈Aer a0,p):CallOk Try.prog 133 [Af .row a0] 0 [] 1 (Am4 a0) 1 (VQ a0):=Ax (Ap Bsg Av) (A86 a0) hp
def Aes (a0:TRow):A:=.agg [.v (.string a0.1),.sq 0]
def Aeq (a0:TRow):Objs:=[(0,some (.arr 55 8 (.ty .cell a0.2)))]
def Z9 (a0:TRow):List Prop:=[Ag a0.2.length]
theorem A85 (a:TRow):VP a=a.2:=by
 have hk:(Im a).length=a.2.length:=by
  unfold Im
  simp
 unfold VP
 rw[hk,List.take_length,List.take_zero,List.nil_append]
 have:List.drop (0+a.2.length.min a.2.length) (Im a)=[]:=List.drop_eq_nil_of_le (by rw[hk];show a.2.length≤0+min a.2.length a.2.length;omega)
 rw[this,List.append_nil]
theorem A84 (a0:TRow) (hp:∀p∈Z9 a0,p):CallOk Try.prog 133 [Af .row a0] 0 [] 1 (Aes a0) 1 (Aeq a0):=by
 have hb:Ag a0.2.length:=hp _ (List.mem_cons_self ..)
 unfold Ag at hb
 have h:=Bgc a0 (Aa (by omega) Ad)
 unfold VQ at h
 rw[A85] at h
 exact h
def Am5:List A→Nat→Objs→Option AV:=A7 [.t .row] 1 Aes Aeq Z9
theorem A56:ET Try.prog 133 Am5:=Aq (ks:=[.t .row]) A84
noncomputable def Byf:=AU 133 Am5 B7l
theorem Bcb:CD Try.prog Byf:=Ak A56 Bsg
abbrev Dl:Type:=(List TCell)×Int×Int×ByteArray×(List TCell)
def NQ (x:Dl):St:=⟨60,9,[(11,.own 7 0),(39,.sl .cell x.1),(40,.v (.int .i64 x.2.1)),(41,.v (.int .i64 x.2.2.1))],[(7,some (.box 71 [.v (.string x.2.2.2.1),.sq 8])),(8,some (.arr 55 8 (.ty .cell x.2.2.2.2)))]⟩
def QW:St→Option Dl
 |⟨60,9,[(11,.own 7 0),(39,.sl .cell z0),(40,.v (.int .i64 z1)),(41,.v (.int .i64 z2))],[(7,some (.box 71 [.v (.string z3),.sq 8])),(8,some (.arr 55 8 (.ty .cell z4)))]⟩=>some (z0,z1,z2,z3,z4)
 |_=>none
theorem Aq7:∀s x,QW s=some x→s=NQ x:=fun s x h=>by
 unfold QW at h
 split at h
 ·cases h;rfl
 ·cases h
def Aek:Co:=⟨8,9,[11,39,40,41],[],[(7,7),(8,8)],[7,8],[],[7,8]⟩
def A8z:CR:=⟨[],[(7,7),(6,8)],[11,39,40,41],[7,6]⟩
def OW (a0:List TCell) (_a1:Int) (a2:Int) (_a3:ByteArray) (a4:List TCell):List TCell:=a4.set a2.toNat (Mb (a4.getD a2.toNat (Ab TC.cell)) (a0.getD a2.toNat (Ab TC.cell)))
def Fy (x:Dl):Dl:=(x.1,x.2.1,IntKind.i64.wrap (x.2.2.1+(1:Int)),x.2.2.2.1,OW x.1 x.2.1 x.2.2.1 x.2.2.2.1 x.2.2.2.2)
def Fx (x:Dl):Cnd:=some (!!decide (x.2.2.1 <x.2.1))
def W8 (x:Dl):List Prop:=[((!!decide (x.2.2.1 <x.2.1))=true→(0:Int)≤x.2.2.1∧x.2.2.1 <(↑x.1.length:Int)),((!!decide (x.2.2.1 <x.2.1))=true→(0:Int)≤x.2.2.1∧x.2.2.1 <(↑x.2.2.2.2.length:Int)),((!!decide (x.2.2.1 <x.2.1))=true→x.2.2.1.toNat <x.2.2.2.2.length),((!!decide (x.2.2.1 <x.2.1))=true→(0:Int)≤x.2.2.1∧x.2.2.1 <(↑x.2.2.2.2.length:Int)),((!!decide (x.2.2.1 <x.2.1))=true→x.2.2.1.toNat <x.2.2.2.2.length)]
def I0 (x:Dl):List Prop:=[((!!decide (x.2.2.1 <x.2.1))=true→(0:Int)≤x.2.2.1∧x.2.2.1 <(↑x.1.length:Int)),((!!decide (x.2.2.1 <x.2.1))=true→(0:Int)≤x.2.2.1∧x.2.2.1 <(↑x.2.2.2.2.length:Int))]
def UG (x:Dl):Bd:=[(some 2,some (!decide (x.2.2.1 <x.2.1)),⟨60,9,[],[(7,some (.box 71 [.v (.string x.2.2.2.1),.sq 8])),(8,some (.arr 55 8 (.ty .cell x.2.2.2.2)))]⟩)]
def Hi (x:Dl):Nat:=(x.2.1 - x.2.2.1).toNat
def OX (x:Dl):Dl:=A5 Fy Fx (Hi x) x
theorem A5u (a0:List TCell) (a1:Int) (a2:Int) (a3:ByteArray) (a4:List TCell):Bk (Au Byf L0) 9 (Ae Try.prog 71 2) Aek (NQ (a0,a1,a2,a3,a4))=some (W8 (a0,a1,a2,a3,a4),UG (a0,a1,a2,a3,a4),Fx (a0,a1,a2,a3,a4),NQ (Fy (a0,a1,a2,a3,a4))):=by kernel_rfl
theorem A5v (a0:List TCell) (a1:Int) (a2:Int) (a3:ByteArray) (a4:List TCell) (hp:∀p∈I0 (a0,a1,a2,a3,a4),p):∀p∈W8 (a0,a1,a2,a3,a4),p:=by
 have n0:=N0 hp
 have n1:((!!decide (a2 <a1))=true→(0:Int)≤a2∧a2 <(↑a4.length:Int)):=N0 (N1 hp)
 have n2:((!!decide (a2 <a1))=true→a2.toNat <a4.length):=by intro h0;have g:=n1 h0;omega
 exact(Aa n0 (Aa n1 (Aa n2 (Aa n1 (Aa n2 Ad)))))
noncomputable def W9:=GH (Au Byf L0) (Ae Try.prog 71 2) Aek A8z QW Hi Fy Fx I0 UG
theorem Ayb:∀s b ps outs,W9 s=some (b,ps,outs)→Wf s ⟨ps,outs,none⟩∧Be (Au C0 L0) b s ps outs:=
 A6 (T:=NQ) Bcb Av (u:=9) (by kernel_rfl) (by decide) (fun⟨a0,a1,a2,a3,a4⟩=>A5u a0 a1 a2 a3 a4) (fun⟨a0,a1,a2,a3,a4⟩=>A5v a0 a1 a2 a3 a4) Aq7 (fun _=>AI (n:=60) rfl) fun _ _=>rfl
noncomputable def Aej:=CY 2 W9 L0
theorem Aya:Gf Aej:=AP Ayb Av
def FN (_a0:List TGroup) (a1:TRow) (a2:TRow):Bool:=!a1.1.toList==a2.1.toList
def I9 (a0:List TGroup) (a1:TRow) (_a2:TRow):Bool:=Ah a0 a1 !=(0:Int)
def FM (a0:List TGroup) (a1:TRow) (a2:TRow):Bool:=(I9 a0 a1 a2)||Ah a0 a2 !=(0:Int)
def Ah2 (a0:List TGroup) (a1:TRow) (a2:TRow):ByteArray:=bif(FM a0 a1 a2) then bif(I9 a0 a1 a2) then ByteArray.mk #[] else ByteArray.mk #[] else bif(FN a0 a1 a2) then ByteArray.mk #[] else(OX (a2.2,(↑a2.2.length:Int),(0:Int),a1.1,a1.2)).snd.snd.snd.fst
def Ah3 (a0:List TGroup) (a1:TRow) (a2:TRow):Int:=bif(FM a0 a1 a2) then bif(I9 a0 a1 a2) then Ah a0 a1 else Ah a0 a2 else bif(FN a0 a1 a2) then(100:Int) else(0:Int)
def Ah4 (a0:List TGroup) (a1:TRow) (a2:TRow):List TCell:=bif(FM a0 a1 a2) then[] else bif(FN a0 a1 a2) then[] else(OX (a2.2,(↑a2.2.length:Int),(0:Int),a1.1,a1.2)).snd.snd.snd.snd
def Ah6 (a0:List TGroup) (a1:TRow) (a2:TRow):A:=.tup [.agg [.v (.string (Ah2 a0 a1 a2)),.sq 0],.v (.int .i64 (Ah3 a0 a1 a2))]
def Ah5 (a0:List TGroup) (a1:TRow) (a2:TRow):Objs:=[(0,some (.arr 55 8 (.ty .cell (Ah4 a0 a1 a2))))]
def Bmt (a0:List TGroup) (a1:TRow) (a2:TRow):List Prop:=[((!(FM a0 a1 a2))=true→(!(FN a0 a1 a2))=true→Ag a1.2.length),((!(FM a0 a1 a2))=true→(!(FN a0 a1 a2))=true→AB Fy Fx I0 (Hi (a2.2,(↑a2.2.length:Int),(0:Int),a1.1,a1.2)) (a2.2,(↑a2.2.length:Int),(0:Int),a1.1,a1.2))]
theorem Bms (a0:List TGroup) (a1:TRow) (a2:TRow):Eo (Au Byf Aej) 9 71 [.sl .group a0,Af .row a1,Af .row a2] 0 []=some (1,Ah6 a0 a1 a2,1,Ah5 a0 a1 a2,[((0:Int)≤(0:Int)∧(0:Int) <(↑(2:Nat):Int)),((0:Nat) <(2:Nat)),((!(I9 a0 a1 a2))=true→(0:Int)≤(1:Int)∧(1:Int) <(↑(2:Nat):Int)),((!(I9 a0 a1 a2))=true→(1:Nat) <(2:Nat)),((!(FM a0 a1 a2))=true→(!(FN a0 a1 a2))=true→Ag a1.2.length),((!(FM a0 a1 a2))=true→(!(FN a0 a1 a2))=true→Ae Try.prog (71:FuncId) (2:Nat)=Ae Try.prog (71:FuncId) (2:Nat)),((!(FM a0 a1 a2))=true→(!(FN a0 a1 a2))=true→AB Fy Fx I0 (Hi (a2.2,(↑a2.2.length:Int),(0:Int),a1.1,a1.2)) (a2.2,(↑a2.2.length:Int),(0:Int),a1.1,a1.2))]):=by kernel_rfl
theorem Bql (a0:List TGroup) (a1:TRow) (a2:TRow) (hp:∀p∈Bmt a0 a1 a2,p):CallOk Try.prog 71 [.sl .group a0,Af .row a1,Af .row a2] 0 [] 1 (Ah6 a0 a1 a2) 1 (Ah5 a0 a1 a2):=by
 have n0:((0:Int)≤(0:Int)∧(0:Int) <(↑(2:Nat):Int)):=by first|rfl|decide+kernel
 have n1:((0:Nat) <(2:Nat)):=by first|rfl|decide+kernel
 have n2:((!(I9 a0 a1 a2))=true→(0:Int)≤(1:Int)∧(1:Int) <(↑(2:Nat):Int)):=by omega
 have n3:((!(I9 a0 a1 a2))=true→(1:Nat) <(2:Nat)):=by omega
 have n4:=N0 hp
 have n5:((!(FM a0 a1 a2))=true→(!(FN a0 a1 a2))=true→Ae Try.prog (71:FuncId) (2:Nat)=Ae Try.prog (71:FuncId) (2:Nat)):=by intros;rfl
 have n6:=N0 (N1 hp)
 exact Ax (Ap Bcb Aya) (Bms a0 a1 a2) (Aa n0 (Aa n1 (Aa n2 (Aa n3 (Aa n4 (Aa n5 (Aa n6 Ad)))))))
def jnK (l:List TGroup) (a b:TRow):ByteArray:=bif jnE l a b==0 then a.key else⟨#[]⟩
def jnL (l:List TGroup) (a b:TRow):List TCell:=bif jnE l a b==0 then jnN a.cells b.cells b.cells.length else[]
def Au3 (a0:List TGroup) (a1:TRow) (a2:TRow):A:=.tup [.agg [.v (.string (jnK a0 a1 a2)),.sq 0],.v (.int .i64 (jnE a0 a1 a2))]
def Au2 (a0:List TGroup) (a1:TRow) (a2:TRow):Objs:=[(0,some (.arr 55 8 (.ty .cell (jnL a0 a1 a2))))]
def Amv (_a0:List TGroup) (_a1:TRow) (_a2:TRow):List Prop:=[]
theorem A80 (key:ByteArray) (us ws:List TCell) (hl:us.length=ws.length) (h4:ws.length≤4):
  AB Fy Fx I0 (Hi (ws,(ws.length:Int),0,key,us)) (ws,(ws.length:Int),0,key,us)∧
  OX (ws,(ws.length:Int),0,key,us)=(ws,(ws.length:Int),(ws.length:Int),key,jnN us ws ws.length):=by
 obtain⟨h1,k,hk,hx,_,hst,_⟩:=Io (fun i=>(ws,(ws.length:Int),(i:Int),key,jnN us ws i):Nat→Dl) ws.length (fun _=>false) Fy Fx I0 (Hi (ws,(ws.length:Int),0,key,us)) (ws,(ws.length:Int),0,key,us) rfl (by show ws.length≤((ws.length:Int) - 0).toNat;omega)
  (fun i _ _=>by
   show(!!decide ((i:Int) <(ws.length:Int)))=_
   rw[nn,LY,Bool.not_false,Bool.and_true])
  (fun i hi _=>by
   show(ws,(ws.length:Int),IntKind.i64.wrap ((i:Int)+1),key,OW ws (ws.length:Int) (i:Int) key (jnN us ws i))=(ws,(ws.length:Int),((i+1:Nat):Int),key,jnN us ws (i+1))
   unfold OW
   rw[DU (by omega),Int.toNat_natCast]
   rfl)
  (fun i hi _=>by
   have hin:(!!decide ((i:Int) <(ws.length:Int)))=true→i <ws.length:=fun h=>by rw[nn] at h;have:=of_decide_eq_true h;omega
   have hlen:=Aax us ws i
   exact Aa (fun h=>⟨by show(0:Int)≤(i:Int);omega,by have:=hin h;show(i:Int) <(ws.length:Int);omega⟩) (Aa (fun h=>⟨by show(0:Int)≤(i:Int);omega,by have:=hin h;show(i:Int) <((jnN us ws i).length:Int);omega⟩) Ad))
 have hkn:k=ws.length:=by
  rcases Nat.lt_or_ge k ws.length with h|h
  ·exact absurd (hst h) (by decide)
  ·omega
 subst hkn
 exact⟨h1,hx⟩
theorem Bmr (a0:List TGroup) (a1:TRow) (a2:TRow) (_hp:∀p∈Amv a0 a1 a2,p):CallOk Try.prog 71 [.sl .group a0,Af .row a1,Af .row a2] 0 [] 1 (Au3 a0 a1 a2) 1 (Au2 a0 a1 a2):=by
 have hgood:(!(FM a0 a1 a2))=true→Ah a0 a1=0∧Ah a0 a2=0:=fun h=>by
  have h':(!((Ah a0 a1 !=0)||(Ah a0 a2 !=0)))=true:=h
  rw[Bool.not_or,Bool.and_eq_true] at h'
  exact⟨by simpa using h'.1,by simpa using h'.2⟩
 have hloop:Ah a0 a1=0→Ah a0 a2=0→_:=fun g1 g2=>A80 a1.1 a1.2 a2.2 (((AK g1).2.1).trans ((AK g2).2.1).symm) (by have:=(FR (AK g2).1).2;have:=(AK g2).2.1;show a2.cells.length≤4;omega)
 have h:=Bql a0 a1 a2 (Aa (fun h _=>by
   obtain⟨g1,_⟩:=hgood h
   have:=(FR (AK g1).1).2
   have:=(AK g1).2.1
   show Ag a1.cells.length
   unfold Ag
   omega) (Aa (fun h _=>(hloop (hgood h).1 (hgood h).2).1) Ad))
 have e:Ah2 a0 a1 a2=jnK a0 a1 a2∧Ah3 a0 a1 a2=jnE a0 a1 a2∧Ah4 a0 a1 a2=jnL a0 a1 a2:=by
  have k0:FM a0 a1 a2=((Ah a0 a1 !=0)||(Ah a0 a2 !=0)):=rfl
  have k1:I9 a0 a1 a2=(Ah a0 a1 !=0):=rfl
  have k2:FN a0 a1 a2=!(a1.key==a2.key):=by
   unfold FN
   rw[tlb]
  unfold Ah2 Ah3 Ah4 jnK jnL jnE
  rw[k0,k1,k2]
  cases g1:Ah a0 a1 !=0 with
  |true=>
   have:(Ah a0 a1==0)=false:=by simpa using g1
   rw[Bool.true_or,cond_true,cond_true,cond_true,cond_true,cond_true,this]
   refine⟨?_,?_,?_⟩<;>first|rfl|trivial
  | false=>
   cases g2:Ah a0 a2 !=0 with
   |true=>
    have:(Ah a0 a2==0)=false:=by simpa using g2
    rw[Bool.false_or]
    simp only[cond_true,cond_false,this]
    refine⟨?_,?_,?_⟩<;>first|rfl|trivial
   | false=>
    rw[Bool.false_or]
    simp only[cond_false]
    cases hk:a1.key==a2.key with
    |false=>refine⟨?_,?_,?_⟩<;>first|rfl|trivial
    |true=>
     rw[(hloop (by simpa using g1) (by simpa using g2)).2]
     refine⟨?_,?_,?_⟩<;>first|rfl|trivial
 unfold Ah6 Ah5 at h
 rw[e.1,e.2.1,e.2.2] at h
 exact h
def A5w:List A→Nat→Objs→Option AV:=A7 [.l .group,.t .row,.t .row] 1 Au3 Au2 Amv
theorem Bf5:ET Try.prog 71 A5w:=Aq (ks:=[.l .group,.t .row,.t .row]) Bmr
noncomputable def B7m:=AU 71 A5w Byf
theorem Bsh:CD Try.prog B7m:=Ak Bf5 Bcb
def CX (a0:List TGroup) (_a1:TRow) (a2:Int) (_a3:TCell):Bool:=Kc a0 a2 !=(0:Int)
def BO (a0:List TGroup) (a1:TRow) (_a2:Int) (_a3:TCell):Bool:=Ah a0 a1 !=(0:Int)
def Z4 (a0:List TGroup) (a1:TRow) (a2:Int) (a3:TCell):ByteArray:=bif(BO a0 a1 a2 a3) then ByteArray.mk #[] else bif(CX a0 a1 a2 a3) then ByteArray.mk #[] else bif !A1 (C9 a0 a2) a3 then ByteArray.mk #[] else a1.1
def Z5 (a0:List TGroup) (a1:TRow) (a2:Int) (a3:TCell):Int:=bif(BO a0 a1 a2 a3) then Ah a0 a1 else bif(CX a0 a1 a2 a3) then Kc a0 a2 else bif !A1 (C9 a0 a2) a3 then(80:Int) else(0:Int)
def Z6 (a0:List TGroup) (a1:TRow) (a2:Int) (a3:TCell):List TCell:=bif(BO a0 a1 a2 a3) then[] else bif(CX a0 a1 a2 a3) then[] else bif !A1 (C9 a0 a2) a3 then[] else a1.2.set a2.toNat (Mb (a1.2.getD a2.toNat (Ab TC.cell)) a3)
def Z8 (a0:List TGroup) (a1:TRow) (a2:Int) (a3:TCell):A:=.tup [.agg [.v (.string (Z4 a0 a1 a2 a3)),.sq 0],.v (.int .i64 (Z5 a0 a1 a2 a3))]
def Z7 (a0:List TGroup) (a1:TRow) (a2:Int) (a3:TCell):Objs:=[(0,some (.arr 55 8 (.ty .cell (Z6 a0 a1 a2 a3))))]
def Bgb (a0:List TGroup) (a1:TRow) (a2:Int) (a3:TCell):List Prop:=[((!(BO a0 a1 a2 a3))=true→(!Ia a0 a2)=true→(!DQ a0 a2)=true→(0:Int)≤a2∧a2 <(↑a0.length:Int)),((!(BO a0 a1 a2 a3))=true→(!(CX a0 a1 a2 a3))=true→(!!A1 (C9 a0 a2) a3)=true→Ag a1.2.length),((!(BO a0 a1 a2 a3))=true→(!(CX a0 a1 a2 a3))=true→(!!A1 (C9 a0 a2) a3)=true→(0:Int)≤a2∧a2 <(↑a1.2.length:Int))]
theorem Bga (a0:List TGroup) (a1:TRow) (a2:Int) (a3:TCell):Eo (Au B7m L0) 9 72 [.sl .group a0,Af .row a1,Af .i64 a2,Af .cell a3] 0 []=some (1,Z8 a0 a1 a2 a3,1,Z7 a0 a1 a2 a3,[((!(BO a0 a1 a2 a3))=true→(!Ia a0 a2)=true→(!DQ a0 a2)=true→(0:Int)≤a2∧a2 <(↑a0.length:Int)),((!(BO a0 a1 a2 a3))=true→(!(CX a0 a1 a2 a3))=true→(!!A1 (C9 a0 a2) a3)=true→Ag a1.2.length),((!(BO a0 a1 a2 a3))=true→(!(CX a0 a1 a2 a3))=true→(!!A1 (C9 a0 a2) a3)=true→(0:Int)≤a2∧a2 <(↑a1.2.length:Int)),((!(BO a0 a1 a2 a3))=true→(!(CX a0 a1 a2 a3))=true→(!!A1 (C9 a0 a2) a3)=true→a2.toNat <a1.2.length),((!(BO a0 a1 a2 a3))=true→(!(CX a0 a1 a2 a3))=true→(!!A1 (C9 a0 a2) a3)=true→(0:Int)≤a2∧a2 <(↑a1.2.length:Int)),((!(BO a0 a1 a2 a3))=true→(!(CX a0 a1 a2 a3))=true→(!!A1 (C9 a0 a2) a3)=true→a2.toNat <a1.2.length)]):=by kernel_rfl
theorem Bm0 (a0:List TGroup) (a1:TRow) (a2:Int) (a3:TCell) (hp:∀p∈Bgb a0 a1 a2 a3,p):CallOk Try.prog 72 [.sl .group a0,Af .row a1,Af .i64 a2,Af .cell a3] 0 [] 1 (Z8 a0 a1 a2 a3) 1 (Z7 a0 a1 a2 a3):=by
 have n0:=N0 hp
 have n1:=N0 (N1 hp)
 have n2:((!(BO a0 a1 a2 a3))=true→(!(CX a0 a1 a2 a3))=true→(!!A1 (C9 a0 a2) a3)=true→(0:Int)≤a2∧a2 <(↑a1.2.length:Int)):=N0 (N1 (N1 hp))
 have n3:((!(BO a0 a1 a2 a3))=true→(!(CX a0 a1 a2 a3))=true→(!!A1 (C9 a0 a2) a3)=true→a2.toNat <a1.2.length):=by intro h0 h1 h2;have g:=n2 h0 h1 h2;omega
 exact Ax (Ap Bsh Av) (Bga a0 a1 a2 a3) (Aa n0 (Aa n1 (Aa n2 (Aa n3 (Aa n2 (Aa n3 Ad))))))
def wrK (l:List TGroup) (r:TRow) (g:Int) (c:TCell):ByteArray:=bif wrE l r g c==0 then r.key else⟨#[]⟩
def wrL (l:List TGroup) (r:TRow) (g:Int) (c:TCell):List TCell:=bif wrE l r g c==0 then Caa r.cells g.toNat c else[]
def Am3 (a0:List TGroup) (a1:TRow) (a2:Int) (a3:TCell):A:=.tup [.agg [.v (.string (wrK a0 a1 a2 a3)),.sq 0],.v (.int .i64 (wrE a0 a1 a2 a3))]
def Am2 (a0:List TGroup) (a1:TRow) (a2:Int) (a3:TCell):Objs:=[(0,some (.arr 55 8 (.ty .cell (wrL a0 a1 a2 a3))))]
def Aep (_a0:List TGroup) (_a1:TRow) (_a2:Int) (_a3:TCell):List Prop:=[]
theorem Bf9 (a0:List TGroup) (a1:TRow) (a2:Int) (a3:TCell) (_hp:∀p∈Aep a0 a1 a2 a3,p):CallOk Try.prog 72 [.sl .group a0,Af .row a1,Af .i64 a2,Af .cell a3] 0 [] 1 (Am3 a0 a1 a2 a3) 1 (Am2 a0 a1 a2 a3):=by
 have hgood:(!(BO a0 a1 a2 a3))=true→Ah a0 a1=0:=fun h=>by
  have h':(!(Ah a0 a1 !=0))=true:=h
  simpa using h'
 have h4:Ah a0 a1=0→a1.cells.length=a0.length∧a0.length≤4:=fun g=>⟨(AK g).2.1,(FR (AK g).1).2⟩
 have hin:(!DQ a0 a2)=true→0≤a2∧a2 <(a0.length:Int):=fun h=>by
  have h':(!(decide (a2 <0)||decide (a2≥(a0.length:Int))))=true:=h
  rw[Bool.not_or,Bool.and_eq_true,Bool.not_eq_true',Bool.not_eq_true'] at h'
  have:=of_decide_eq_false h'.1
  have:=of_decide_eq_false h'.2
  omega
 have k1:Ah a0 a1=0→CX a0 a1 a2 a3=DQ a0 a2:=fun g=>by
  have hp:(AO a0 !=0)=false:=by rw[(AK g).1];rfl
  have e1:Kc a0 a2=bif DQ a0 a2 then 70 else 0:=by
   unfold Kc Ia
   rw[hp]
   rfl
  unfold CX
  rw[e1]
  cases DQ a0 a2<;>rfl
 have h:=Bm0 a0 a1 a2 a3 (Aa (fun _ _ g=>hin g) (Aa (fun g _ _=>by
   obtain⟨q1,q2⟩:=h4 (hgood g)
   show Ag a1.cells.length
   unfold Ag
   omega) (Aa (fun g g1 _=>by
   obtain⟨q1,q2⟩:=h4 (hgood g)
   rw[k1 (hgood g)] at g1
   have:=hin g1
   show(0:Int)≤a2∧a2 <(a1.cells.length:Int)
   omega) Ad)))
 have e:Z4 a0 a1 a2 a3=wrK a0 a1 a2 a3∧Z5 a0 a1 a2 a3=wrE a0 a1 a2 a3∧Z6 a0 a1 a2 a3=wrL a0 a1 a2 a3:=by
  have k0:BO a0 a1 a2 a3=(Ah a0 a1 !=0):=rfl
  unfold Z4 Z5 Z6 wrK wrL wrE
  rw[k0]
  cases g1:Ah a0 a1 !=0 with
  |true=>
   have:(Ah a0 a1==0)=false:=by simpa using g1
   simp only[cond_true,this]
   refine⟨?_,?_,?_⟩<;>first|rfl|trivial
  | false=>
   have g0:Ah a0 a1=0:=by simpa using g1
   have hp:(AO a0 !=0)=false:=by rw[(AK g0).1];rfl
   have e1:Kc a0 a2=bif DQ a0 a2 then 70 else 0:=by
    unfold Kc Ia
    rw[hp]
    rfl
   have kk:DQ a0 a2=(decide (a2 <0)||decide (a2≥(a0.length:Int))):=rfl
   rw[k1 g0,e1,←kk]
   cases g2:DQ a0 a2 with
   |true=>refine⟨?_,?_,?_⟩<;>first|rfl|trivial
   | false=>
    have e0:C9 a0 a2=Agc a0 a2.toNat:=by
     unfold C9 Ia
     rw[hp,g2]
     rfl
    rw[e0,Jc]
    cases Bw (Agc a0 a2.toNat) a3<;>refine⟨?_,?_,?_⟩<;>first|rfl|trivial
 unfold Z8 Z7 at h
 rw[e.1,e.2.1,e.2.2] at h
 exact h
def Ava:List A→Nat→Objs→Option AV:=A7 [.l .group,.t .row,.t .i64,.t .cell] 1 Am3 Am2 Aep
theorem A83:ET Try.prog 72 Ava:=Aq (ks:=[.l .group,.t .row,.t .i64,.t .cell]) Bf9
noncomputable def B8y:=AU 72 Ava B7m
theorem B2u:CD Try.prog B8y:=Ak A83 Bsh
noncomputable def Cs:=B8y
theorem B53:CD Try.prog Cs:=B2u
end Go.Proofs.Yteebobbhhgmeiaa
namespace Go.Proofs.Yteebobbhhgmeiaa
open Go.RowKit
structure Stt (l:List TGroup) (rows:List TRow):Prop where
 rise:JI rows
 good:∀r∈rows,Ah l r=0∧Cp r=false
theorem B4w {l:List TGroup} {rows:List TRow} (hp:AO l=0):Bq l rows=0↔Stt l rows:=by
 constructor
 ·intro h
  have h2:=(Ayt.1 h).2
  refine⟨B4l h2,fun r hr=>?_⟩
  obtain⟨i,hi,rfl⟩:=List.getElem_of_mem hr
  have:=Boj.1 (h2 i hi)
  rw[UE hi] at this
  exact⟨this.1,this.2.1⟩
 ·exact fun h=>Bc6 hp h.good h.rise
theorem Bt6 (l:List TGroup):Stt l []:=⟨List.Pairwise.nil,fun r hr=>by cases hr⟩
theorem Stt.tail {l:List TGroup} {x:TRow} {a:List TRow} (h:Stt l (x::a)):Stt l a:=⟨(List.pairwise_cons.1 h.rise).2,fun r hr=>h.good r (List.mem_cons_of_mem _ hr)⟩
def Q8 (rows:List TRow) (k:ByteArray):Option TRow:=rows.find? fun r=>r.key==k
theorem BH (x:TRow) (a:List TRow) (k:ByteArray):Q8 (x::a) k=if x.key=k then some x else Q8 a k:=by
 unfold Q8
 rw[List.find?_cons]
 by_cases h:x.key=k
 ·rw[if_pos h,beq_iff_eq.2 h]
 ·rw[if_neg h,beq_eq_false_iff_ne.2 h]
theorem Ayq {a:List TRow} {k:ByteArray} {r:TRow} (h:Q8 a k=some r):r.key=k:=by
 have:=List.find?_some h
 exact eq_of_beq this
theorem Bsv {a:List TRow} {k:ByteArray} {r:TRow} (h:Q8 a k=some r):r∈a:=List.mem_of_find?_eq_some h
theorem Byi {x:TRow} {a:List TRow} (h:JI (x::a)) {k:ByteArray} {r:TRow} (hf:Q8 a k=some r):Ip x.key k=true:=by
 rw[←Ayq hf]
 exact(List.pairwise_cons.1 h).1 r (Bsv hf)
theorem Azn {x:TRow} {a:List TRow} (h:JI (x::a)):Q8 a x.key=none:=by
 cases hf:Q8 a x.key with
 |none=>rfl
 |some r=>exact absurd rfl (P7 (Byi h hf))
theorem Bu4 {a b:ByteArray} (h:Ip a b=true):Ip b a=false:=by
 cases g:Ip b a with
 |false=>rfl
 |true=>exact absurd rfl (P7 (KD h g))
theorem Rc {x:TRow} {a:List TRow} (h:JI (x::a)) {k:ByteArray} (hk:Ip k x.key=true):Q8 (x::a) k=none:=by
 rw[BH,if_neg (fun e=>P7 hk e.symm)]
 cases hf:Q8 a k with
 |none=>rfl
 |some r=>
  have:=Bu4 (Byi h hf)
  rw[hk] at this
  cases this
theorem Bmn:∀{a b:List TRow},JI a→JI b→(∀k,Q8 a k=Q8 b k)→a=b
 | [],[],_,_,_=>rfl
 |x::a,[],_,_,h=>by
  have:=h x.key
  rw[BH,if_pos rfl] at this
  cases this
 | [],y::b,_,_,h=>by
  have:=h y.key
  rw[BH,if_pos rfl] at this
  cases this
 | x ::a,y::b,ha,hb,h=>by
  have hxy:x.key=y.key:=by
   cases h1:Ip x.key y.key with
   |true=>
    have:=h x.key
    rw[BH,if_pos rfl,Rc hb h1] at this
    cases this
   | false=>
    cases h2:Ip y.key x.key with
    |true=>
     have:=h y.key
     rw[Rc ha h2,BH,if_pos rfl] at this
     cases this
    |false=>
     by_cases e:x.key=y.key
     ·exact e
     ·rw[Py h1 e] at h2;cases h2
  have hx:x=y:=by
   have:=h x.key
   rw[BH,if_pos rfl,BH,if_pos hxy.symm] at this
   exact Option.some.inj this
  subst hx
  congr 1
  refine Bmn (List.pairwise_cons.1 ha).2 (List.pairwise_cons.1 hb).2 fun k=>?_
  by_cases e:x.key=k
  ·subst e
   rw[Azn ha,Azn hb]
  ·have:=h k
   rwa[BH,BH,if_neg e,if_neg e] at this
def B0i:Option TRow→Option TRow→Option TRow
 |some x,some y=>some (jnR x y)
 |some x,none=>some x
 |none,y=>y
theorem Aa4 (x:Option TRow):B0i x none=x:=by cases x<;>rfl
def mrg:Nat→List TRow→List TRow→List TRow
 |0,_,_=>[]
 |_+1,[],[]=>[]
 |n+1,x::a,[]=>x::mrg n a []
 |n+1,[],y::b=>y::mrg n [] b
 |n+1,x::a,y::b=>bif Ip x.key y.key then x::mrg n a (y::b) else bif Ip y.key x.key then y::mrg n (x::a) b else jnR x y::mrg n a b
theorem Bdj {x y:ByteArray} (h1:Ip x y=false) (h2:Ip y x=false):x=y:=by
 by_cases e:x=y
 ·exact e
 ·rw[Py h1 e] at h2;cases h2
theorem Ug:∀(n:Nat) {a b:List TRow},JI a→JI b→a.length+b.length≤n→∀k,Q8 (mrg n a b) k=B0i (Q8 a k) (Q8 b k)
 |0,a,b,_,_,hn,k=>by
  have h1:a=[]:=List.eq_nil_of_length_eq_zero (by omega)
  have h2:b=[]:=List.eq_nil_of_length_eq_zero (by omega)
  subst h1 h2
  rfl
 |n+1,[],[],_,_,_,k=>rfl
 |n+1,x::a,[],ha,hb,hn,k=>by
  have ih:=Ug n (List.pairwise_cons.1 ha).2 hb (by simp at hn⊢;omega) k
  show Q8 (x::mrg n a []) k=B0i (Q8 (x::a) k) none
  have e:Q8 [] k=none:=rfl
  rw[BH,BH,ih,e,Aa4,Aa4]
 |n+1,[],y::b,ha,hb,hn,k=>by
  have ih:=Ug n ha (List.pairwise_cons.1 hb).2 (by simp at hn⊢;omega) k
  show Q8 (y::mrg n [] b) k=Q8 (y::b) k
  rw[BH,BH,ih]
  rfl
 | n +1,x::a,y::b,ha,hb,hn,k=>by
  simp only[List.length_cons] at hn
  show Q8 (bif Ip x.key y.key then x::mrg n a (y::b) else bif Ip y.key x.key then y::mrg n (x::a) b else jnR x y::mrg n a b) k=_
  cases h1:Ip x.key y.key with
  | true=>
   have ih:=Ug n (List.pairwise_cons.1 ha).2 hb (by simp;omega) k
   rw[cond_true,BH,ih,BH x a]
   by_cases e:x.key=k
   ·rw[if_pos e,if_pos e,←e,Rc hb h1]
    rfl
   ·rw[if_neg e,if_neg e]
  | false=>
   cases h2:Ip y.key x.key with
   | true=>
    have ih:=Ug n ha (List.pairwise_cons.1 hb).2 (by simp;omega) k
    rw[cond_false,cond_true,BH,ih,BH y b]
    by_cases e:y.key=k
    ·rw[if_pos e,if_pos e,←e,Rc ha h2]
     rfl
    ·rw[if_neg e,if_neg e]
   | false=>
    have hxy:=Bdj h1 h2
    have ih:=Ug n (List.pairwise_cons.1 ha).2 (List.pairwise_cons.1 hb).2 (by omega) k
    rw[cond_false,cond_false,BH,ih,BH x a,BH y b]
    show(if x.key=k then _ else _)=_
    by_cases e:x.key=k
    ·rw[if_pos e,if_pos e,if_pos (hxy▸e)]
     rfl
    ·rw[if_neg e,if_neg e,if_neg (hxy▸e)]
theorem Ny:∀(n:Nat) {a b:List TRow} {r:TRow},r∈mrg n a b→(∃x∈a,r.key=x.key)∨(∃y∈b,r.key=y.key)
 |0,_,_,r,h=>by cases h
 |n+1,[],[],r,h=>by cases h
 | n+1,x::a,[],r,h=>by
  rcases List.mem_cons.1 h with rfl|h
  ·exact .inl ⟨r,List.mem_cons_self ..,rfl⟩
  ·rcases Ny n h with⟨z,hz,e⟩|⟨z,hz,e⟩
   ·exact .inl ⟨z,List.mem_cons_of_mem _ hz,e⟩
   ·exact .inr ⟨z,hz,e⟩
 | n+1,[],y::b,r,h=>by
  rcases List.mem_cons.1 h with rfl|h
  ·exact .inr ⟨r,List.mem_cons_self ..,rfl⟩
  ·rcases Ny n h with⟨z,hz,e⟩|⟨z,hz,e⟩
   ·exact .inl ⟨z,hz,e⟩
   ·exact .inr ⟨z,List.mem_cons_of_mem _ hz,e⟩
 | n +1,x::a,y::b,r,h=>by
  have h':r∈(bif Ip x.key y.key then x::mrg n a (y::b) else bif Ip y.key x.key then y::mrg n (x::a) b else jnR x y::mrg n a b):=h
  cases h1:Ip x.key y.key with
  | true=>
   rw[h1] at h'
   rcases List.mem_cons.1 h' with rfl|h'
   ·exact .inl ⟨r,List.mem_cons_self ..,rfl⟩
   ·rcases Ny n h' with⟨z,hz,e⟩|⟨z,hz,e⟩
    ·exact .inl ⟨z,List.mem_cons_of_mem _ hz,e⟩
    ·exact .inr ⟨z,hz,e⟩
  | false=>
   rw[h1] at h'
   cases h2:Ip y.key x.key with
   | true=>
    rw[h2] at h'
    rcases List.mem_cons.1 h' with rfl|h'
    ·exact .inr ⟨r,List.mem_cons_self ..,rfl⟩
    ·rcases Ny n h' with⟨z,hz,e⟩|⟨z,hz,e⟩
     ·exact .inl ⟨z,hz,e⟩
     ·exact .inr ⟨z,List.mem_cons_of_mem _ hz,e⟩
   | false=>
    rw[h2] at h'
    rcases List.mem_cons.1 h' with rfl|h'
    ·exact .inl ⟨x,List.mem_cons_self ..,rfl⟩
    ·rcases Ny n h' with⟨z,hz,e⟩|⟨z,hz,e⟩
     ·exact .inl ⟨z,List.mem_cons_of_mem _ hz,e⟩
     ·exact .inr ⟨z,List.mem_cons_of_mem _ hz,e⟩
theorem Qi:∀(n:Nat) {a b:List TRow},JI a→JI b→JI (mrg n a b)
 |0,_,_,_,_=>List.Pairwise.nil
 |n+1,[],[],_,_=>List.Pairwise.nil
 |n+1,x::a,[],ha,hb=>by
  refine List.pairwise_cons.2 ⟨fun r hr=>?_,Qi n (List.pairwise_cons.1 ha).2 hb⟩
  rcases Ny n hr with⟨z,hz,e⟩|⟨z,hz,_⟩
  ·rw[e];exact(List.pairwise_cons.1 ha).1 z hz
  ·cases hz
 |n+1,[],y::b,ha,hb=>by
  refine List.pairwise_cons.2 ⟨fun r hr=>?_,Qi n ha (List.pairwise_cons.1 hb).2⟩
  rcases Ny n hr with⟨z,hz,_⟩|⟨z,hz,e⟩
  ·cases hz
  ·rw[e];exact(List.pairwise_cons.1 hb).1 z hz
 | n +1,x::a,y::b,ha,hb=>by
  have a1:=List.pairwise_cons.1 ha
  have b1:=List.pairwise_cons.1 hb
  show JI (bif Ip x.key y.key then x::mrg n a (y::b) else bif Ip y.key x.key then y::mrg n (x::a) b else jnR x y::mrg n a b)
  cases h1:Ip x.key y.key with
  | true=>
   refine List.pairwise_cons.2 ⟨fun r hr=>?_,Qi n a1.2 hb⟩
   rcases Ny n hr with⟨z,hz,e⟩|⟨z,hz,e⟩
   ·rw[e];exact a1.1 z hz
   ·rw[e]
    rcases List.mem_cons.1 hz with rfl|hz
    ·exact h1
    ·exact KD h1 (b1.1 z hz)
  | false=>
   cases h2:Ip y.key x.key with
   | true=>
    refine List.pairwise_cons.2 ⟨fun r hr=>?_,Qi n ha b1.2⟩
    rcases Ny n hr with⟨z,hz,e⟩|⟨z,hz,e⟩
    ·rw[e]
     rcases List.mem_cons.1 hz with rfl|hz
     ·exact h2
     ·exact KD h2 (a1.1 z hz)
    ·rw[e];exact b1.1 z hz
   |false=>
    have hxy:=Bdj h1 h2
    refine List.pairwise_cons.2 ⟨fun r hr=>?_,Qi n a1.2 b1.2⟩
    show Ip x.key r.key=true
    rcases Ny n hr with⟨z,hz,e⟩|⟨z,hz,e⟩
    ·rw[e];exact a1.1 z hz
    ·rw[e,hxy];exact b1.1 z hz
def Aab (r:TRow):List TRow→List TRow
 | []=>[r]
 |x::a=>bif Ip x.key r.key then x::Aab r a else r::(bif x.key==r.key then a else x::a)
theorem A6b {r:TRow}:∀{a:List TRow} {z:TRow},z∈Aab r a→z=r∨z∈a
 | [],z,h=> .inl (List.mem_singleton.1 h)
 | x::a,z,h=>by
  unfold Aab at h
  cases h1:Ip x.key r.key with
  | true=>
   rw[h1,cond_true] at h
   rcases List.mem_cons.1 h with rfl|h
   ·exact .inr (List.mem_cons_self ..)
   ·rcases A6b h with h|h
    ·exact .inl h
    ·exact .inr (List.mem_cons_of_mem _ h)
  | false=>
   rw[h1,cond_false] at h
   rcases List.mem_cons.1 h with rfl|h
   ·exact .inl rfl
   ·cases h2:x.key==r.key with
    |true=>rw[h2] at h;exact .inr (List.mem_cons_of_mem _ h)
    |false=>rw[h2] at h;exact .inr h
theorem Bbh {r:TRow}:∀{a:List TRow},JI a→JI (Aab r a)
 | [],_=>List.pairwise_cons.2 ⟨fun _ h=>(by cases h),List.Pairwise.nil⟩
 | x::a,h=>by
  have h1:=List.pairwise_cons.1 h
  unfold Aab
  cases h2:Ip x.key r.key with
  |true=>
   refine List.pairwise_cons.2 ⟨fun z hz=>?_,Bbh h1.2⟩
   rcases A6b hz with rfl|hz
   ·exact h2
   ·exact h1.1 z hz
  | false=>
   rw[cond_false]
   cases h3:x.key==r.key with
   |true=>
    have e:=eq_of_beq h3
    refine List.pairwise_cons.2 ⟨fun z hz=>?_,h1.2⟩
    rw[←e]
    exact h1.1 z hz
   |false=>
    have hne:x.key≠r.key:=by simpa using h3
    have hlt:=Py h2 hne
    refine List.pairwise_cons.2 ⟨fun z hz=>?_,h⟩
    rcases List.mem_cons.1 hz with rfl|hz
    ·exact hlt
    ·exact KD hlt (h1.1 z hz)
theorem Bt4 {r:TRow} (k:ByteArray):∀{a:List TRow},JI a→Q8 (Aab r a) k=if r.key=k then some r else Q8 a k
 | [],_=>BH r [] k
 | x::a,h=>by
  have h1:=List.pairwise_cons.1 h
  unfold Aab
  cases h2:Ip x.key r.key with
  |true=>
   rw[cond_true,BH,Bt4 k h1.2,BH]
   by_cases e:x.key=k
   ·rw[if_pos e,if_neg (fun e2=>P7 h2 (e.trans e2.symm)),if_pos e]
   ·rw[if_neg e,if_neg e]
  | false=>
   rw[cond_false,BH]
   cases h3:x.key==r.key with
   |true=>
    have e:=eq_of_beq h3
    rw[cond_true,BH]
    by_cases e2:r.key=k
    ·rw[if_pos e2,if_pos e2]
    ·rw[if_neg e2,if_neg e2,if_neg (fun e3=>e2 (e.symm.trans e3))]
   |false=>rfl
def LP (a:List TRow) (r:TRow):List TRow:=bif Cp r then a else Aab (match Q8 a r.key with
 |some x=>jnR x r
 |none=>r) a
def CF (a b:List TRow):List TRow:=b.foldl LP a
theorem Ail {a:List TRow} (h:JI a) (r:TRow):JI (LP a r):=by
 unfold LP
 cases Cp r with
 |true=>exact h
 |false=>exact Bbh h
theorem B2e {a:List TRow} (h:JI a) {r:TRow} (hr:Cp r=false) (k:ByteArray):Q8 (LP a r) k=if r.key=k then B0i (Q8 a k) (some r) else Q8 a k:=by
 unfold LP
 rw[hr,cond_false,Bt4 k h]
 by_cases e:r.key=k
 ·subst e
  cases hf:Q8 a r.key with
  |none=>rw[if_pos rfl,if_pos rfl];rfl
  |some x=>
   have hx:(jnR x r).key=r.key:=(show x.key=r.key from Ayq hf)
   show(if(jnR x r).key=r.key then some (jnR x r) else some x)=_
   rw[if_pos hx,if_pos rfl]
   rfl
 ·rw[if_neg e]
  cases hf:Q8 a r.key with
  |none=>exact if_neg e
  |some x=>
   have hx:(jnR x r).key=r.key:=(show x.key=r.key from Ayq hf)
   exact if_neg (fun e2=>e (hx.symm.trans e2))
theorem Aj0:∀{b a:List TRow},JI a→JI (CF a b)
 | [],_,h=>h
 |y::b,_,h=>Aj0 (b:=b) (Ail h y)
theorem A0z (k:ByteArray):∀{b a:List TRow},JI a→JI b→(∀r∈b,Cp r=false)→Q8 (CF a b) k=B0i (Q8 a k) (Q8 b k)
 | [],_,_,_,_=>(Aa4 _).symm
 |y::b,a,h,hb,hn=>by
  have ih:=A0z k (b:=b) (a:=LP a y) (Ail h y) (List.pairwise_cons.1 hb).2 fun r hr=>hn r (List.mem_cons_of_mem _ hr)
  show Q8 (CF (LP a y) b) k=_
  rw[ih,B2e h (hn y (List.mem_cons_self ..)),BH]
  by_cases e:y.key=k
  ·rw[if_pos e,if_pos e,←e,Azn hb,Aa4]
  ·rw[if_neg e,if_neg e]
theorem A01 {a b:List TRow} (ha:JI a) (hb:JI b) (hn:∀r∈b,Cp r=false) {n:Nat} (h:a.length+b.length≤n):CF a b=mrg n a b:=
 Bmn (Aj0 ha) (Qi n ha hb) fun k=>by rw[A0z k ha hb hn,Ug n ha hb h]
theorem B14 {p:Int} {a:TCell} (h:Bw p a=true):KR zeroC a=a:=by
 rw[A6m,Bkm h]
 have:Om zeroC.dead a.dead=a.dead:=by
  have:=(Bux.1 (A94 h))
  show TVec.mk (max 0 a.dead.a) (max 0 a.dead.b)=a.dead
  exact Bgw (by show max 0 a.dead.a=a.dead.a;omega) (by show max 0 a.dead.b=a.dead.b;omega)
 rw[this]
 rfl
theorem Bnh {p:Int} {a b:TCell} (h:Bw p a=true) (e:KR a b=zeroC):a=zeroC:=by
 have h1:KR a (KR a b)=KR a b:=by rw[←Bwg,B12 h]
 rw[e,B10,B14 h] at h1
 exact h1
theorem Big {r:TRow}:Cp r=true↔∀i,i <r.cells.length→HH r.cells i=zeroC:=by
 unfold Cp
 rw[List.all_eq_true]
 constructor
 ·intro h i hi
  have e:HH r.cells i=r.cells[i]:=by unfold HH;rw[List.getD_eq_getElem?_getD,List.getElem?_eq_getElem hi];rfl
  rw[e]
  exact Ajb.1 (h _ (List.getElem_mem hi))
 ·intro h c hc
  obtain⟨i,hi,rfl⟩:=List.getElem_of_mem hc
  have e:HH r.cells i=r.cells[i]:=by unfold HH;rw[List.getD_eq_getElem?_getD,List.getElem?_eq_getElem hi];rfl
  rw[←e]
  exact Ajb.2 (h i hi)
theorem Bjy {l:List TGroup} {a b:TRow} (ha:Ah l a=0) (hb:Ah l b=0) (h:Cp a=false):Cp (jnR a b)=false:=by
 cases hj:Cp (jnR a b) with
 |false=>rfl
 | true=>
  have h1:=Big.1 hj
  have hl:=(AK ha).2.1
  have:Cp a=true:=Big.2 fun i hi=>by
   have h2:=h1 i (by rw[Bc9 (b:=b) ha];omega)
   rw[Bzw ha hb (by omega)] at h2
   exact Bnh (J6 ha (by omega)) h2
  rw[h] at this
  cases this
theorem Aa0 {l:List TGroup}:∀(n:Nat) {a b:List TRow},Stt l a→Stt l b→∀r∈mrg n a b,Ah l r=0∧Cp r=false
 |0,_,_,_,_,r,hr=>by cases hr
 |n+1,[],[],_,_,r,hr=>by cases hr
 |n+1,x::a,[],ha,hb,r,hr=>by
  rcases List.mem_cons.1 hr with rfl|hr
  ·exact ha.good r (List.mem_cons_self ..)
  ·exact Aa0 n ha.tail hb r hr
 |n+1,[],y::b,ha,hb,r,hr=>by
  rcases List.mem_cons.1 hr with rfl|hr
  ·exact hb.good r (List.mem_cons_self ..)
  ·exact Aa0 n ha hb.tail r hr
 | n +1,x::a,y::b,ha,hb,r,hr=>by
  have hr':r∈(bif Ip x.key y.key then x::mrg n a (y::b) else bif Ip y.key x.key then y::mrg n (x::a) b else jnR x y::mrg n a b):=hr
  cases h1:Ip x.key y.key with
  |true=>
   rw[h1] at hr'
   rcases List.mem_cons.1 hr' with rfl|hr'
   ·exact ha.good r (List.mem_cons_self ..)
   ·exact Aa0 n ha.tail hb r hr'
  | false=>
   rw[h1] at hr'
   cases h2:Ip y.key x.key with
   |true=>
    rw[h2] at hr'
    rcases List.mem_cons.1 hr' with rfl|hr'
    ·exact hb.good r (List.mem_cons_self ..)
    ·exact Aa0 n ha hb.tail r hr'
   | false=>
    rw[h2] at hr'
    rcases List.mem_cons.1 hr' with rfl|hr'
    ·obtain⟨g1,g2⟩:=ha.good x (List.mem_cons_self ..)
     obtain⟨g3,_⟩:=hb.good y (List.mem_cons_self ..)
     exact⟨Bjz g1 g3,Bjy g1 g3 g2⟩
    ·exact Aa0 n ha.tail hb.tail r hr'
theorem Stt.mrg {l:List TGroup} {a b:List TRow} (n:Nat) (ha:Stt l a) (hb:Stt l b):Stt l (Go.Proofs.Yteebobbhhgmeiaa.mrg n a b):=⟨Qi n ha.rise hb.rise,Aa0 n ha hb⟩
theorem Bid {l:List TGroup} {a:List TRow} (h:Stt l a) {k:ByteArray} {r:TRow} (hr:Q8 a k=some r):Ah l r=0∧Cp r=false:=h.good r (Bsv hr)
end Go.Proofs.Yteebobbhhgmeiaa
namespace Go.Proofs.Yteebobbhhgmeiaa
open Go.RowKit
theorem Ay1 {X:Type} (mk:Nat→X) (n:Nat) (next:X→X) (goes:X→Cnd) (ps:X→List Prop) (f:Nat) (x:X) (hx:x=mk 0) (hf:n≤f)
  (hg:∀i,i≤n→Bo (goes (mk i))=decide (i <n)) (hn:∀i,i <n→next (mk i)=mk (i+1)) (hp:∀i,i≤n→∀p∈ps (mk i),p):
  AB next goes ps f x∧A5 next goes f x=mk n:=by
 obtain⟨h1,k,hk,hx,_,hst,_⟩:=Io mk n (fun _=>false) next goes ps f x hx hf (fun i hi _=>by rw[hg i hi,Bool.not_false,Bool.and_true]) (fun i hi _=>hn i hi) (fun i hi _=>hp i hi)
 have hkn:k=n:=by
  rcases Nat.lt_or_ge k n with h|h
  ·exact absurd (hst h) (by decide)
  ·omega
 subst hkn
 exact⟨h1,hx⟩
theorem Bd0 (n:Nat):((n:Int)==(0:Int))=(n==0):=by
 rw[Bool.eq_iff_iff,beq_iff_eq,beq_iff_eq]
 omega
theorem Aah {α:Type} (l:List α) (d:α) (i:Nat) (h:i <l.length):l.take (i+1)=l.take i++[l.getD i d]:=by
 rw[List.take_add_one,List.getD_eq_getElem?_getD,List.getElem?_eq_getElem h]
 rfl
def Xc (r:TRow) (s:List TRow×Bool) (x:TRow):List TRow×Bool:=
 ((bif !s.2&&!Ip x.key r.key then s.1++[r] else s.1)++(bif x.key==r.key then[] else[x]),s.2||!Ip x.key r.key)
def LR (r:TRow) (l:List TRow) (i:Nat):List TRow×Bool:=(l.take i).foldl (Xc r) ([],false)
theorem Bbd (r:TRow) (l:List TRow) (i:Nat) (h:i <l.length):LR r l (i+1)=Xc r (LR r l i) (BA l i):=by
 unfold LR
 rw[Aah l (Ab TC.row) i h,List.foldl_append]
 rfl
def Bza (r:TRow) (s:List TRow×Bool):List TRow:=bif s.2 then s.1 else s.1++[r]
theorem Bv5 (r:TRow) (s:List TRow×Bool) (x:TRow):(Xc r s x).1.length≤s.1.length+2:=by
 unfold Xc
 rw[List.length_append]
 cases !s.2&&!Ip x.key r.key<;>cases x.key==r.key<;>simp
theorem A58 (r:TRow) (l:List TRow):∀i,i≤l.length→(LR r l i).1.length≤2*i
 |0,_=>Nat.le_refl _
 |i+1,h=>by
  have ih:=A58 r l i (by omega)
  rw[Bbd r l i (by omega)]
  have:=Bv5 r (LR r l i) (BA l i)
  omega
theorem A0k (r:TRow):∀(l:List TRow) (o:List TRow),(∀y∈l,y.key≠r.key)→l.foldl (Xc r) (o,true)=(o++l,true)
 | [],o,_=>by rw[List.append_nil];rfl
 | x::a,o,h=>by
  have hx:(x.key==r.key)=false:=by simpa using h x (List.mem_cons_self ..)
  have e:Xc r (o,true) x=(o++[x],true):=by
   unfold Xc
   rw[hx]
   rfl
  rw[List.foldl_cons,e,A0k r a _ fun y hy=>h y (List.mem_cons_of_mem _ hy),List.append_assoc]
  rfl
theorem A99 (r:TRow):∀(l:List TRow) (o:List TRow),JI l→Bza r (l.foldl (Xc r) (o,false))=o++Aab r l
 | [],o,_=>rfl
 | x::a,o,h=>by
  have h1:=List.pairwise_cons.1 h
  rw[List.foldl_cons]
  cases hl:Ip x.key r.key with
  | true=>
   have hx:(x.key==r.key)=false:=by simpa using P7 hl
   have e:Xc r (o,false) x=(o++[x],false):=by
    unfold Xc
    rw[hl,hx]
    rfl
   have e2:Aab r (x::a)=x::Aab r a:=by
    show(bif Ip x.key r.key then x::Aab r a else _)=_
    rw[hl]
    rfl
   rw[e,A99 r a _ h1.2,List.append_assoc,e2]
   rfl
  | false=>
   have hne:∀y∈a,y.key≠r.key:=fun y hy e=>by
    have:=h1.1 y hy
    rw[e,hl] at this
    cases this
   have e:Xc r (o,false) x=((o++[r])++(bif x.key==r.key then[] else[x]),true):=by
    unfold Xc
    rw[hl]
    rfl
   have e2:Aab r (x::a)=r::(bif x.key==r.key then a else x::a):=by
    show(bif Ip x.key r.key then x::Aab r a else _)=_
    rw[hl]
    rfl
   rw[e,A0k r a _ hne,e2]
   unfold Bza
   cases x.key==r.key<;>simp
theorem B07 {r:TRow} {l:List TRow} (h:JI l):Bza r (LR r l l.length)=Aab r l:=by
 unfold LR
 rw[List.take_length,A99 r l [] h,List.nil_append]
theorem Bie (key:ByteArray):∀(l:List TRow) (k:Nat),k≤l.length→(∀j,j <k→((BA l j).key==key)=false)→(k <l.length→((BA l k).key==key)=true)→Q8 l key=if k <l.length then some (BA l k) else none
 | [],k,_,_,_=>(if_neg (Nat.not_lt_zero k)).symm
 |x::a,0,_,_,h=>by
  have h2:(x.key==key)=true:=h (Nat.zero_lt_succ _)
  rw[BH,if_pos (eq_of_beq h2)]
  exact(if_pos (Nat.zero_lt_succ a.length)).symm
 | x::a,k+1,hk,h0,h=>by
  have h2:(x.key==key)=false:=h0 0 (Nat.zero_lt_succ _)
  rw[BH,if_neg (by simpa using h2),Bie key a k (Nat.le_of_succ_le_succ hk) (fun j hj=>h0 (j+1) (Nat.succ_lt_succ hj)) (fun hk=>h (Nat.succ_lt_succ hk))]
  by_cases hl:k <a.length
  ·rw[if_pos hl]
   exact(if_pos (show k+1 <(x::a).length from Nat.succ_lt_succ hl)).symm
  ·rw[if_neg hl]
   exact(if_neg (show ¬k+1 <(x::a).length from fun h=>hl (Nat.lt_of_succ_lt_succ h))).symm
theorem Bm8 (r:TRow):∀l:List TRow,(Aab r l).length≤l.length+1
 | []=>Nat.le_refl _
 | x::a=>by
  have:=Bm8 r a
  unfold Aab
  cases Ip x.key r.key with
  |true=>rw[cond_true,List.length_cons,List.length_cons];omega
  |false=>
   cases x.key==r.key with
   |true=>rw[cond_false,cond_true,List.length_cons,List.length_cons];omega
   |false=>rw[cond_false,cond_false,List.length_cons,List.length_cons];omega
theorem Bwm (a:List TRow) (r:TRow):(LP a r).length≤a.length+1:=by
 unfold LP
 cases Cp r with
 |true=>exact Nat.le_succ _
 |false=>exact Bm8 _ _
theorem Vs:∀(n:Nat) (a b:List TRow),(mrg n a b).length≤a.length+b.length
 |0,_,_=>Nat.zero_le _
 |_+1,[],[]=>Nat.zero_le _
 |n+1,x::a,[]=>by
  have:=Vs n a []
  show(x::mrg n a []).length≤_
  rw[List.length_cons,List.length_cons]
  omega
 |n+1,[],y::b=>by
  have:=Vs n [] b
  show(y::mrg n [] b).length≤_
  rw[List.length_cons,List.length_cons]
  omega
 | n+1,x::a,y::b=>by
  unfold mrg
  cases Ip x.key y.key with
  |true=>
   have:=Vs n a (y::b)
   rw[cond_true,List.length_cons,List.length_cons]
   omega
  | false=>
   cases Ip y.key x.key with
   |true=>
    have:=Vs n (x::a) b
    rw[cond_false,cond_true,List.length_cons]
    simp only[List.length_cons] at this⊢
    omega
   |false=>
    have:=Vs n a b
    rw[cond_false,cond_false,List.length_cons,List.length_cons,List.length_cons]
    omega
end Go.Proofs.Yteebobbhhgmeiaa
namespace Go.Proofs.Yteebobbhhgmeiaa
open Go.RowKit
theorem A9z {P:Program} {f:FuncId} {args:List A} {k:Nat} {e:TypeId} {c:TC} {l:List (U c)} (h:CallOk P f args 0 [] k (.sq 0) 1 [(0,some (.arr e (size c) (.ty c l)))]):CallOk P f args 0 [] k (.sl c l) 0 []:=fun F N R vs hh ha=>
 Calls.mono (P:=P) (h F N R vs hh ha) fun e0 R' ⟨y,F',N',e1,e2,e3,e4,e5⟩=>by
  obtain⟨_,rfl⟩:=e4.sq_inv
  have hob:=e2.ob 0 _ rfl
  obtain⟨_,zs,g1,g2⟩:=id hob
  have hn:∀i j,i <1→(fun _=>none:Nat→Option Nat) i=some j→j <0∧N'.b j=N'.b i∧N'.q j=N'.q i:=fun i j _ hj=>by cases hj
  have hw:Ext F' N' 1 R' (fun g=>F' g∨C3 (N'.q 0)=some g) N' 1 R':=Ext.wide fun g hg=> .inl hg
  have q1:=(Aa7 (F':=fun g=>F' g∨C3 (N'.q 0)=some g) (N:=N') (nx:=1) g1 (fun k hk=>(g2 k hk).step hw) (fun g hg=> .inr hg)).1
  have q2:=Hv.pk (N':=N') (nx':=0) (ρ:=fun _=>none) hn q1
  refine⟨N'.q 0,fun g=>F' g∨C3 (N'.q 0)=some g,N',e1,⟨fun g hg=>?_,fun i ob hi=>(by cases hi),fun i ob g hi=>(by cases hi),fun i j x y g hi=>(by cases hi)⟩,⟨Nat.le_refl _,fun i hi=>absurd hi (Nat.not_lt_zero _),fun i hi=>absurd hi (Nat.not_lt_zero _),fun g hg=> .inl (e3.f g hg),fun g hg=>?_,fun g ⟨i,ob,hi,_⟩=>(by cases hi),e3.os,e3.tape,e3.output,e3.size,e3.keep⟩,q2,e5⟩
  ·rcases hg with hg|hg
   ·exact e2.flt g hg
   ·exact hob.2.lt hg
  ·rcases hg with hg|hg
   ·exact e3.fnew g hg
   ·rcases e3.foot g ⟨0,_,rfl,hg⟩ with h|h
    ·exact .inr (.inl h)
    ·exact .inr (.inr h)
end Go.Proofs.Yteebobbhhgmeiaa
namespace Go.Proofs.Yteebobbhhgmeiaa
open Go.RowKit
def YL (a0:TRow):List TCell:=[]++a0.2
def YN (a0:TRow):A:=.agg [.v (.string a0.1),.sq 0]
def YM (a0:TRow):Objs:=[(0,some (.arr 55 8 (.ty .cell (YL a0))))]
def Vp (a0:TRow):List Prop:=[(Ag ((0:Nat)+a0.2.length))]
theorem Beg (a0:TRow):Eo (Au Cs L0) 9 170 [Af .row a0] 0 []=some (1,YN a0,1,YM a0,Vp a0):=by kernel_rfl
theorem Bkq (a0:TRow) (hp:∀p∈Vp a0,p):CallOk Try.prog 170 [Af .row a0] 0 [] 1 (YN a0) 1 (YM a0):=Ax (Ap B53 Av) (Beg a0) hp
def As0:List A→Nat→Objs→Option AV:=A7 [.t .row] 1 YN YM Vp
theorem A7t:ET Try.prog 170 As0:=Aq (ks:=[.t .row]) Bkq
noncomputable def Bho:=AU 170 As0 Cs
theorem Ay6:CD Try.prog Bho:=Ak A7t B53
abbrev BS:Type:=(List TGroup)×(List TRow)×(List TRow)×(List TRow)
def KH (x:BS):St:=⟨91,2,[(0,.sl .group x.1),(1,.sl .row x.2.1),(2,.sl .row x.2.2.1),(6,.dq 1)],[(1,some (.deep 71 .row x.2.2.2))]⟩
def Mz:St→Option BS
 |⟨91,2,[(0,.sl .group z0),(1,.sl .row z1),(2,.sl .row z2),(6,.dq 1)],[(1,some (.deep 71 .row z3))]⟩=>some (z0,z1,z2,z3)
 |_=>none
theorem Abr:∀s x,Mz s=some x→s=KH x:=fun s x h=>by
 unfold Mz at h
 split at h
 ·cases h;rfl
 ·cases h
def Uf:Co:=⟨1,2,[0,1,2,6],[],[(7,1)],[7],[6],[1]⟩
def Apf:CR:=⟨[.nilD 6 71 .row],[(0,1)],[0,1,2,6],[0]⟩
def AL (_a0:List TGroup) (a1:List TRow) (a2:List TRow) (_a3:List TRow):Bool:=(↑a1.length:Int)==(0:Int)||Op.bytesLess (a2.getD (0:Nat) (Ab TC.row)).1.toList (a1.getD (0:Nat) (Ab TC.row)).1.toList
def GC (_a0:List TGroup) (_a1:List TRow) (a2:List TRow) (_a3:List TRow):List TRow:=List.take ((↑a2.length:Int).toNat - (1:Nat)) (List.drop (1:Nat) a2)
def GB (_a0:List TGroup) (a1:List TRow) (_a2:List TRow) (_a3:List TRow):List TRow:=List.take ((↑a1.length:Int).toNat - (1:Nat)) (List.drop (1:Nat) a1)
def Aw (_a0:List TGroup) (a1:List TRow) (a2:List TRow) (_a3:List TRow):Bool:=(↑a1.length:Int)==(0:Int)&&(↑a2.length:Int)==(0:Int)
def AA (_a0:List TGroup) (a1:List TRow) (a2:List TRow) (_a3:List TRow):Bool:=(↑a2.length:Int)==(0:Int)||decide ((↑a1.length:Int) >(0:Int))&&Op.bytesLess (a1.getD (0:Nat) (Ab TC.row)).1.toList (a2.getD (0:Nat) (Ab TC.row)).1.toList
def Cc (a0:List TGroup) (a1:List TRow) (a2:List TRow) (a3:List TRow):List TRow:=bif(AA a0 a1 a2 a3) then(GB a0 a1 a2 a3) else bif(AL a0 a1 a2 a3) then a1 else(GB a0 a1 a2 a3)
def Ce (a0:List TGroup) (a1:List TRow) (a2:List TRow) (a3:List TRow):List TRow:=bif(AA a0 a1 a2 a3) then a2 else bif(AL a0 a1 a2 a3) then(GC a0 a1 a2 a3) else(GC a0 a1 a2 a3)
def Cg (a0:List TGroup) (a1:List TRow) (a2:List TRow) (a3:List TRow):List TRow:=bif(AA a0 a1 a2 a3) then a3++[S5 TC.row TC.cell (TRow.mk (a1.getD (0:Nat) (Ab TC.row)).1 []) (YL (a1.getD (0:Nat) (Ab TC.row)))] else bif(AL a0 a1 a2 a3) then a3++[S5 TC.row TC.cell (TRow.mk (a2.getD (0:Nat) (Ab TC.row)).1 []) (YL (a2.getD (0:Nat) (Ab TC.row)))] else a3++[S5 TC.row TC.cell (TRow.mk (jnK a0 (a1.getD (0:Nat) (Ab TC.row)) (a2.getD (0:Nat) (Ab TC.row))) []) (jnL a0 (a1.getD (0:Nat) (Ab TC.row)) (a2.getD (0:Nat) (Ab TC.row)))]
def AT (x:BS):BS:=(x.1,Cc x.1 x.2.1 x.2.2.1 x.2.2.2,Ce x.1 x.2.1 x.2.2.1 x.2.2.2,Cg x.1 x.2.1 x.2.2.1 x.2.2.2)
def AS (x:BS):Cnd:=some (!(Aw x.1 x.2.1 x.2.2.1 x.2.2.2))
def Lv (x:BS):List Prop:=[((Aw x.1 x.2.1 x.2.2.1 x.2.2.2)=false→decide ((↑x.2.1.length:Int) >(0:Int))=true→((↑x.2.2.1.length:Int)==(0:Int))=false→(0:Int)≤(0:Int)∧(0:Int) <(↑x.2.1.length:Int)),((Aw x.1 x.2.1 x.2.2.1 x.2.2.2)=false→decide ((↑x.2.1.length:Int) >(0:Int))=true→((↑x.2.2.1.length:Int)==(0:Int))=false→(0:Int)≤(0:Int)∧(0:Int) <(↑x.2.2.1.length:Int)),((Aw x.1 x.2.1 x.2.2.1 x.2.2.2)=false→(AA x.1 x.2.1 x.2.2.1 x.2.2.2)=true→(0:Int)≤(0:Int)∧(0:Int) <(↑x.2.1.length:Int)),((Aw x.1 x.2.1 x.2.2.1 x.2.2.2)=false→(AA x.1 x.2.1 x.2.2.1 x.2.2.2)=true→Ag ((0:Nat)+(x.2.1.getD (0:Nat) (Ab TC.row)).2.length)),((Aw x.1 x.2.1 x.2.2.1 x.2.2.2)=false→(AA x.1 x.2.1 x.2.2.1 x.2.2.2)=true→Ag (x.2.2.2.length+(1:Nat))),((Aw x.1 x.2.1 x.2.2.1 x.2.2.2)=false→(AA x.1 x.2.1 x.2.2.1 x.2.2.2)=true→(0:Int)≤(1:Int)∧(1:Int)≤(↑x.2.1.length:Int)∧(↑x.2.1.length:Int)≤(↑x.2.1.length:Int)),((Aw x.1 x.2.1 x.2.2.1 x.2.2.2)=false→(AA x.1 x.2.1 x.2.2.1 x.2.2.2)=false→((↑x.2.1.length:Int)==(0:Int))=false→(0:Int)≤(0:Int)∧(0:Int) <(↑x.2.2.1.length:Int)),((Aw x.1 x.2.1 x.2.2.1 x.2.2.2)=false→(AA x.1 x.2.1 x.2.2.1 x.2.2.2)=false→((↑x.2.1.length:Int)==(0:Int))=false→(0:Int)≤(0:Int)∧(0:Int) <(↑x.2.1.length:Int)),((Aw x.1 x.2.1 x.2.2.1 x.2.2.2)=false→(AA x.1 x.2.1 x.2.2.1 x.2.2.2)=false→(AL x.1 x.2.1 x.2.2.1 x.2.2.2)=true→(0:Int)≤(0:Int)∧(0:Int) <(↑x.2.2.1.length:Int)),((Aw x.1 x.2.1 x.2.2.1 x.2.2.2)=false→(AA x.1 x.2.1 x.2.2.1 x.2.2.2)=false→(AL x.1 x.2.1 x.2.2.1 x.2.2.2)=true→Ag ((0:Nat)+(x.2.2.1.getD (0:Nat) (Ab TC.row)).2.length)),((Aw x.1 x.2.1 x.2.2.1 x.2.2.2)=false→(AA x.1 x.2.1 x.2.2.1 x.2.2.2)=false→(AL x.1 x.2.1 x.2.2.1 x.2.2.2)=true→Ag (x.2.2.2.length+(1:Nat))),((Aw x.1 x.2.1 x.2.2.1 x.2.2.2)=false→(AA x.1 x.2.1 x.2.2.1 x.2.2.2)=false→(AL x.1 x.2.1 x.2.2.1 x.2.2.2)=true→(0:Int)≤(1:Int)∧(1:Int)≤(↑x.2.2.1.length:Int)∧(↑x.2.2.1.length:Int)≤(↑x.2.2.1.length:Int)),((Aw x.1 x.2.1 x.2.2.1 x.2.2.2)=false→(AA x.1 x.2.1 x.2.2.1 x.2.2.2)=false→(AL x.1 x.2.1 x.2.2.1 x.2.2.2)=false→(0:Int)≤(0:Int)∧(0:Int) <(↑x.2.1.length:Int)),((Aw x.1 x.2.1 x.2.2.1 x.2.2.2)=false→(AA x.1 x.2.1 x.2.2.1 x.2.2.2)=false→(AL x.1 x.2.1 x.2.2.1 x.2.2.2)=false→(0:Int)≤(0:Int)∧(0:Int) <(↑x.2.2.1.length:Int)),((Aw x.1 x.2.1 x.2.2.1 x.2.2.2)=false→(AA x.1 x.2.1 x.2.2.1 x.2.2.2)=false→(AL x.1 x.2.1 x.2.2.1 x.2.2.2)=false→Ag (x.2.2.2.length+(1:Nat))),((Aw x.1 x.2.1 x.2.2.1 x.2.2.2)=false→(AA x.1 x.2.1 x.2.2.1 x.2.2.2)=false→(AL x.1 x.2.1 x.2.2.1 x.2.2.2)=false→(0:Int)≤(1:Int)∧(1:Int)≤(↑x.2.1.length:Int)∧(↑x.2.1.length:Int)≤(↑x.2.1.length:Int)),((Aw x.1 x.2.1 x.2.2.1 x.2.2.2)=false→(AA x.1 x.2.1 x.2.2.1 x.2.2.2)=false→(AL x.1 x.2.1 x.2.2.1 x.2.2.2)=false→(0:Int)≤(1:Int)∧(1:Int)≤(↑x.2.2.1.length:Int)∧(↑x.2.2.1.length:Int)≤(↑x.2.2.1.length:Int))]
abbrev EC:BS→List Prop:=Lv
def O8 (x:BS):Bd:=[(some 0,some ((Aw x.1 x.2.1 x.2.2.1 x.2.2.2)),⟨91,2,[(6,.dq 1)],[(1,some (.deep 71 .row x.2.2.2))]⟩)]
def Is (x:BS):Nat:=x.2.1.length+x.2.2.1.length
def Af8 (x:BS):BS:=A5 AT AS (Is x) x
theorem Ak4 (a0:List TGroup) (a1:List TRow) (a2:List TRow) (a3:List TRow):Bk (Au Bho L0) 9 (Ae Try.prog 143 0) Uf (KH (a0,a1,a2,a3))=some (Lv (a0,a1,a2,a3),O8 (a0,a1,a2,a3),AS (a0,a1,a2,a3),KH (AT (a0,a1,a2,a3))):=by kernel_rfl
theorem Ak5 (a0:List TGroup) (a1:List TRow) (a2:List TRow) (a3:List TRow) (hp:∀p∈EC (a0,a1,a2,a3),p):∀p∈Lv (a0,a1,a2,a3),p:=hp
noncomputable def Qg:=GH (Au Bho L0) (Ae Try.prog 143 0) Uf Apf Mz Is AT AS EC O8
theorem Af7:∀s b ps outs,Qg s=some (b,ps,outs)→Wf s ⟨ps,outs,none⟩∧Be (Au C0 L0) b s ps outs:=
 A6 (T:=KH) Ay6 Av (u:=9) (by kernel_rfl) (by decide) (fun⟨a0,a1,a2,a3⟩=>Ak4 a0 a1 a2 a3) (fun⟨a0,a1,a2,a3⟩=>Ak5 a0 a1 a2 a3) Abr (fun _=>AI (n:=91) rfl) fun _ _=>rfl
noncomputable def Ue:=CY 0 Qg L0
theorem Af6:Gf Ue:=AP Af7 Av
def Ac0 (a0:List TGroup) (a1:List TRow) (a2:List TRow):List TRow:=(Af8 (a0,a1,a2,[])).snd.snd.snd
def Ac1 (_a0:List TGroup) (_a1:List TRow) (_a2:List TRow):A:=.dq 0
def SP (a0:List TGroup) (a1:List TRow) (a2:List TRow):Objs:=[(0,some (.deep 71 .row (Ac0 a0 a1 a2)))]
def A15 (a0:List TGroup) (a1:List TRow) (a2:List TRow):List Prop:=[(AB AT AS EC (Is (a0,a1,a2,[])) (a0,a1,a2,[]))]
theorem A14 (a0:List TGroup) (a1:List TRow) (a2:List TRow):Eo (Au Bho Ue) 9 143 [.sl .group a0,Af .rows a1,Af .rows a2] 0 []=some (1,Ac1 a0 a1 a2,1,SP a0 a1 a2,[(Ae Try.prog (143:FuncId) (0:Nat)=Ae Try.prog (143:FuncId) (0:Nat)),(AB AT AS EC (Is (a0,a1,a2,[])) (a0,a1,a2,[]))]):=by kernel_rfl
theorem A7s (a0:List TGroup) (a1:List TRow) (a2:List TRow) (hp:∀p∈A15 a0 a1 a2,p):CallOk Try.prog 143 [.sl .group a0,Af .rows a1,Af .rows a2] 0 [] 1 (Ac1 a0 a1 a2) 1 (SP a0 a1 a2):=by
 have n1:=N0 hp
 exact Ax (Ap Ay6 Af6) (A14 a0 a1 a2) (Aa rfl (Aa n1 Ad))
def YK (_a0:List TGroup) (_a1 _a2:List TRow):A:=.dq 0
def YJ (_a0:List TGroup) (a1 a2:List TRow):Objs:=[(0,some (.deep 71 .row (mrg (a1.length+a2.length) a1 a2)))]
def Ws (a0:List TGroup) (a1 a2:List TRow):List Prop:=[Stt a0 a1∧Stt a0 a2∧a1.length+a2.length≤400000]
theorem Bao (x:TRow) (a:List TRow):List.take ((((x::a).length:Nat):Int).toNat - (1:Nat)) (List.drop (1:Nat) (x::a))=a:=by
 rw[Int.toNat_natCast]
 simp
theorem gt0 (n:Nat):decide ((n:Int) >(0:Int))=!(n==0):=by
 cases n with
 |zero=>rfl
 |succ n=>
  rw[decide_eq_true (by omega)]
  rfl
theorem Bko (l:List TGroup) (a b out:List TRow):AA l a b out=((b.length==0)||(!(a.length==0)&&Ip (BA a 0).key (BA b 0).key)):=by
 unfold AA
 rw[Bd0,gt0]
 rfl
theorem Ban (l:List TGroup) (a b out:List TRow):Aw l a b out=((a.length==0)&&(b.length==0)):=by
 unfold Aw
 rw[Bd0,Bd0]
theorem Bz6 (l:List TGroup) (a b out:List TRow):AL l a b out=((a.length==0)||Ip (BA b 0).key (BA a 0).key):=by
 unfold AL
 rw[Bd0]
 rfl
theorem Bz7 {l:List TGroup} {a b out:List TRow} (ha:Stt l a) (hb:Stt l b) (ho:out.length≤500000):∀p∈EC (l,a,b,out),p:=by
 have z:∀{n:Nat},(n==0)=false→0 <n:=fun h=>by
  have:=beq_eq_false_iff_ne.1 h
  omega
 have h1:Aw l a b out=false→AA l a b out=true→0 <a.length:=fun h g=>by
  rw[Ban] at h
  rw[Bko] at g
  cases ea:a.length==0 with
  |false=>exact z ea
  |true=>
   rw[ea] at h g
   rw[Bool.true_and] at h
   rw[h] at g
   cases g
 have h2:AA l a b out=false→0 <b.length:=fun h=>by
  rw[Bko] at h
  exact z (Bool.or_eq_false_iff.1 h).1
 have h3:AL l a b out=false→0 <a.length:=fun h=>by
  rw[Bz6] at h
  exact z (Bool.or_eq_false_iff.1 h).1
 have hc:∀{x:List TRow},Stt l x→0 <x.length→Ag (0+(x.getD 0 (Ab TC.row)).2.length):=fun {x} hx h=>by
  have g:=(hx.good _ (getD_in x (Ab TC.row) 0 h)).1
  have g1:=(AK g).2.1
  have g2:=(FR (AK g).1).2
  have g3:(x.getD 0 (Ab TC.row)).2.length=l.length:=g1
  unfold Ag
  omega
 have ho':Ag (out.length+1):=by unfold Ag;omega
 have one:∀{n:Nat},0 <n→(0:Int)≤(1:Int)∧(1:Int)≤(n:Int)∧(n:Int)≤(n:Int):=fun h=>⟨by omega,by omega,Int.le_refl _⟩
 have nz:∀{n:Nat},0 <n→(0:Int)≤(0:Int)∧(0:Int) <(n:Int):=fun h=>⟨Int.le_refl _,by omega⟩
 have e0:∀{n:Nat},((n:Int)==(0:Int))=false→0 <n:=fun h=>by rw[Bd0] at h;exact z h
 have g0:∀{n:Nat},decide ((n:Int) >(0:Int))=true→0 <n:=fun h=>by have:=of_decide_eq_true h;omega
 exact Aa (fun _ h _=>nz (g0 h)) (Aa (fun _ _ h=>nz (e0 h)) (Aa (fun h g=>nz (h1 h g)) (Aa (fun h g=>hc ha (h1 h g)) (Aa (fun _ _=>ho') (Aa (fun h g=>one (h1 h g))
  (Aa (fun _ g _=>nz (h2 g)) (Aa (fun _ _ h=>nz (e0 h)) (Aa (fun _ g _=>nz (h2 g)) (Aa (fun _ g _=>hc hb (h2 g)) (Aa (fun _ _ _=>ho') (Aa (fun _ g _=>one (h2 g))
  (Aa (fun _ _ h=>nz (h3 h)) (Aa (fun _ g _=>nz (h2 g)) (Aa (fun _ _ _=>ho') (Aa (fun _ _ h=>one (h3 h)) (Aa (fun _ g _=>one (h2 g)) Ad))))))))))))))))
theorem Btj (l:List TGroup):∀(n:Nat) (a b out:List TRow),Stt l a→Stt l b→a.length+b.length≤n→out.length+n≤500000→
  AB AT AS EC n (l,a,b,out)∧(A5 AT AS n (l,a,b,out)).2.2.2=out++mrg n a b
 |0,a,b,out,ha,hb,hn,ho=>by
  have h1:a=[]:=List.eq_nil_of_length_eq_zero (by omega)
  have h2:b=[]:=List.eq_nil_of_length_eq_zero (by omega)
  subst h1 h2
  refine⟨⟨Bz7 ha hb (by omega),?_⟩,(List.append_nil out).symm⟩
  show(!Aw l [] [] out)=false
  rw[Ban]
  rfl
 | n + 1,a,b,out,ha,hb,hn,ho=>by
  have key:∀(a' b' out':List TRow),Aw l a b out=false→AT (l,a,b,out)=(l,a',b',out')→Stt l a'→Stt l b'→a'.length+b'.length≤n→out'.length=out.length+1→out'++mrg n a' b'=out++mrg (n+1) a b→
    AB AT AS EC (n+1) (l,a,b,out)∧(A5 AT AS (n+1) (l,a,b,out)).2.2.2=out++mrg (n+1) a b:=fun a' b' out' hk e h1 h2 h3 h4 h5=>by
   obtain⟨i1,i2⟩:=Btj l n a' b' out' h1 h2 h3 (by omega)
   have hg:Bo (AS (l,a,b,out))=true:=by
    show(!Aw l a b out)=true
    rw[hk]
    rfl
   refine⟨⟨Bz7 ha hb (by omega),fun _=>by rw[e];exact i1⟩,?_⟩
   show(bif Bo (AS (l,a,b,out)) then A5 AT AS n (AT (l,a,b,out)) else(l,a,b,out)).2.2.2=_
   rw[hg,cond_true,e,i2]
   exact h5
  cases a with
  | nil=>
   cases b with
   | nil=>
    have hg:Bo (AS (l,[],[],out))=false:=by
     show(!Aw l [] [] out)=false
     rw[Ban]
     rfl
    refine⟨⟨Bz7 ha hb (by omega),fun h=>by rw[hg] at h;cases h⟩,?_⟩
    show(bif Bo (AS (l,[],[],out)) then A5 AT AS n (AT (l,[],[],out)) else(l,[],[],out)).2.2.2=_
    rw[hg,cond_false]
    exact(List.append_nil out).symm
   |cons y b=>
    refine key [] b (out++[y]) (by rw[Ban];rfl) ?_ ha hb.tail (by simp at hn⊢;omega) (by simp) (by rw[List.append_assoc];rfl)
    have k0:AA l [] (y::b) out=false:=by rw[Bko];rfl
    have k4:AL l [] (y::b) out=true:=by rw[Bz6];rfl
    show(l,Cc l [] (y::b) out,Ce l [] (y::b) out,Cg l [] (y::b) out)=_
    unfold Cc Ce Cg GC
    rw[k0,k4,Bao]
    rfl
  | cons x a=>
   cases b with
   |nil=>
    refine key a [] (out++[x]) (by rw[Ban];rfl) ?_ ha.tail hb (by simp at hn⊢;omega) (by simp) (by rw[List.append_assoc];rfl)
    have k0:AA l (x::a) [] out=true:=by rw[Bko];rfl
    show(l,Cc l (x::a) [] out,Ce l (x::a) [] out,Cg l (x::a) [] out)=_
    unfold Cc Ce Cg GB
    rw[k0,Bao]
    rfl
   | cons y b=>
    have kk:Aw l (x::a) (y::b) out=false:=by rw[Ban];rfl
    have k0:AA l (x::a) (y::b) out=Ip x.key y.key:=by rw[Bko];rfl
    have k4:AL l (x::a) (y::b) out=Ip y.key x.key:=by rw[Bz6];rfl
    have em:mrg (n+1) (x::a) (y::b)=bif Ip x.key y.key then x::mrg n a (y::b) else bif Ip y.key x.key then y::mrg n (x::a) b else jnR x y::mrg n a b:=rfl
    have en:AT (l,x::a,y::b,out)=(l,Cc l (x::a) (y::b) out,Ce l (x::a) (y::b) out,Cg l (x::a) (y::b) out):=rfl
    cases h1:Ip x.key y.key with
    |true=>
     refine key a (y::b) (out++[x]) kk ?_ ha.tail hb (by simp at hn⊢;omega) (by simp) (by rw[em,h1,cond_true,List.append_assoc];rfl)
     rw[en]
     unfold Cc Ce Cg GB
     rw[k0,h1,Bao]
     rfl
    | false=>
     cases h2:Ip y.key x.key with
     |true=>
      refine key (x::a) b (out++[y]) kk ?_ ha hb.tail (by simp at hn⊢;omega) (by simp) (by rw[em,h1,h2,cond_false,cond_true,List.append_assoc];rfl)
      rw[en]
      unfold Cc Ce Cg GC
      rw[k0,k4,h1,h2,Bao]
      rfl
     | false=>
      refine key a b (out++[jnR x y]) kk ?_ ha.tail hb.tail (by simp at hn⊢;omega) (by simp) (by rw[em,h1,h2,cond_false,cond_false,List.append_assoc];rfl)
      have hj:jnE l x y=0:=A0w.2 ⟨(ha.good x (List.mem_cons_self ..)).1,(hb.good y (List.mem_cons_self ..)).1,Bdj h1 h2⟩
      have ej:TRow.mk (jnK l x y) (jnL l x y)=jnR x y:=by
       unfold jnK jnL
       rw[hj]
       rfl
      rw[en]
      unfold Cc Ce Cg GB GC
      rw[k0,k4,h1,h2,Bao,Bao,←ej]
      rfl
theorem A13 (a0:List TGroup) (a1 a2:List TRow) (hp:∀p∈Ws a0 a1 a2,p):CallOk Try.prog 143 [.sl .group a0,Af .rows a1,Af .rows a2] 0 [] 1 (YK a0 a1 a2) 1 (YJ a0 a1 a2):=by
 obtain⟨h1,h2,h3⟩:=hp _ (List.mem_cons_self ..)
 obtain⟨g1,g2⟩:=Btj a0 (a1.length+a2.length) a1 a2 [] h1 h2 (Nat.le_refl _) (by rw[List.length_nil];omega)
 have h:=A7s a0 a1 a2 (Aa g1 Ad)
 have e:Ac0 a0 a1 a2=mrg (a1.length+a2.length) a1 a2:=g2
 unfold SP at h
 rw[e] at h
 exact h
def Ac2:List A→Nat→Objs→Option AV:=A7 [.l .group,.t .rows,.t .rows] 1 YK YJ Ws
theorem Awm:ET Try.prog 143 Ac2:=Aq (ks:=[.l .group,.t .rows,.t .rows]) A13
noncomputable def Bxr:=AU 143 Ac2 Bho
theorem Bhp:CD Try.prog Bxr:=Ak Awm Ay6
def Fg (a0:TRow):List TCell:=[]++a0.2
def Ag8 (a0:TRow):A:=.agg [.v (.string a0.1),.sq 0]
def Ag7 (a0:TRow):Objs:=[(0,some (.arr 55 8 (.ty .cell (Fg a0))))]
def Zt (a0:TRow):List Prop:=[(Ag ((0:Nat)+a0.2.length))]
theorem Bls (a0:TRow):Eo (Au Bxr L0) 9 46 [Af .row a0] 0 []=some (1,Ag8 a0,1,Ag7 a0,Zt a0):=by kernel_rfl
theorem Bpz (a0:TRow) (hp:∀p∈Zt a0,p):CallOk Try.prog 46 [Af .row a0] 0 [] 1 (Ag8 a0) 1 (Ag7 a0):=Ax (Ap Bhp Av) (Bls a0) hp
def Ag9:List A→Nat→Objs→Option AV:=A7 [.t .row] 1 Ag8 Ag7 Zt
theorem Alv:ET Try.prog 46 Ag9:=Aq (ks:=[.t .row]) Bpz
noncomputable def Bhq:=AU 46 Ag9 Bxr
theorem Ay7:CD Try.prog Bhq:=Ak Alv Bhp
abbrev Dh:Type:=Int×TRow×ByteArray×(List TCell)
def NI (x:Dh):St:=⟨56,6,[(5,.own 1 0),(9,.own 4 0),(10,.v (.int .i64 x.1))],[(1,some (.box 71 [.v (.string x.2.1.key),.sl .cell x.2.1.cells])),(4,some (.box 71 [.v (.string x.2.2.1),.sq 5])),(5,some (.arr 55 8 (.ty .cell x.2.2.2)))]⟩
def QF:St→Option Dh
 |⟨56,6,[(5,.own 1 0),(9,.own 4 0),(10,.v (.int .i64 z0))],[(1,some (.box 71 [.v (.string z1),.sl .cell z2])),(4,some (.box 71 [.v (.string z3),.sq 5])),(5,some (.arr 55 8 (.ty .cell z4)))]⟩=>some (z0,⟨z1,z2⟩,z3,z4)
 |_=>none
theorem Ap9:∀s x,QF s=some x→s=NI x:=fun s x h=>by
 unfold QF at h
 split at h
 ·cases h;rfl
 ·cases h
def Ads:Co:=⟨5,6,[5,9,10],[],[(1,1),(4,4),(5,5)],[1,4,5],[],[1,4,5]⟩
def A8g:CR:=⟨[],[(1,1),(4,4),(3,5)],[5,9,10],[1,4,3]⟩
def BG (a0:Int) (_a1:TRow) (_a2:ByteArray) (a3:List TCell):Bool:=!!decide (a0 <(↑a3.length:Int))
def OO (a0:Int) (a1:TRow) (_a2:ByteArray) (a3:List TCell):List TCell:=a3.set a0.toNat (KR (a3.getD a0.toNat (Ab TC.cell)) (a1.2.getD a0.toNat (Ab TC.cell)))
def Fk (x:Dh):Dh:=(IntKind.i64.wrap (x.1+(1:Int)),x.2.1,x.2.2.1,OO x.1 x.2.1 x.2.2.1 x.2.2.2)
def Fj (x:Dh):Cnd:=some ((BG x.1 x.2.1 x.2.2.1 x.2.2.2))
def WM (x:Dh):List Prop:=[((BG x.1 x.2.1 x.2.2.1 x.2.2.2)=true→(0:Int)≤x.1∧x.1 <(↑x.2.2.2.length:Int)),((BG x.1 x.2.1 x.2.2.1 x.2.2.2)=true→x.1.toNat <x.2.2.2.length),((BG x.1 x.2.1 x.2.2.1 x.2.2.2)=true→(0:Int)≤x.1∧x.1 <(↑x.2.1.2.length:Int)),((BG x.1 x.2.1 x.2.2.1 x.2.2.2)=true→(0:Int)≤x.1∧x.1 <(↑x.2.2.2.length:Int)),((BG x.1 x.2.1 x.2.2.1 x.2.2.2)=true→x.1.toNat <x.2.2.2.length)]
def IQ (x:Dh):List Prop:=[((BG x.1 x.2.1 x.2.2.1 x.2.2.2)=true→(0:Int)≤x.1∧x.1 <(↑x.2.2.2.length:Int)),((BG x.1 x.2.1 x.2.2.1 x.2.2.2)=true→(0:Int)≤x.1∧x.1 <(↑x.2.1.2.length:Int))]
def Ut (x:Dh):Bd:=[(some 0,some (!decide (x.1 <(↑x.2.2.2.length:Int))),⟨56,6,[],[(1,some (.box 71 [.v (.string x.2.1.1),.sl .cell x.2.1.2])),(4,some (.box 71 [.v (.string x.2.2.1),.sq 5])),(5,some (.arr 55 8 (.ty .cell x.2.2.2)))]⟩)]
def G7 (x:Dh):Nat:=((↑x.2.2.2.length:Int) - x.1).toNat
def Js (x:Dh):Dh:=A5 Fk Fj (G7 x) x
theorem A4g (a0:Int) (a1:TRow) (a2:ByteArray) (a3:List TCell):Bk (Au Bhq L0) 9 (Ae Try.prog 74 0) Ads (NI (a0,a1,a2,a3))=some (WM (a0,a1,a2,a3),Ut (a0,a1,a2,a3),Fj (a0,a1,a2,a3),NI (Fk (a0,a1,a2,a3))):=by kernel_rfl
theorem A4h (a0:Int) (a1:TRow) (a2:ByteArray) (a3:List TCell) (hp:∀p∈IQ (a0,a1,a2,a3),p):∀p∈WM (a0,a1,a2,a3),p:=by
 have n0:((BG a0 a1 a2 a3)=true→(0:Int)≤a0∧a0 <(↑a3.length:Int)):=N0 hp
 have n1:((BG a0 a1 a2 a3)=true→a0.toNat <a3.length):=by intro h0;have g:=n0 h0;omega
 have n2:=N0 (N1 hp)
 exact(Aa n0 (Aa n1 (Aa n2 (Aa n0 (Aa n1 Ad)))))
noncomputable def WN:=GH (Au Bhq L0) (Ae Try.prog 74 0) Ads A8g QF G7 Fk Fj IQ Ut
theorem Axf:∀s b ps outs,WN s=some (b,ps,outs)→Wf s ⟨ps,outs,none⟩∧Be (Au C0 L0) b s ps outs:=
 A6 (T:=NI) Ay7 Av (u:=9) (by kernel_rfl) (by decide) (fun⟨a0,a1,a2,a3⟩=>A4g a0 a1 a2 a3) (fun⟨a0,a1,a2,a3⟩=>A4h a0 a1 a2 a3) Ap9 (fun _=>AI (n:=56) rfl) fun _ _=>rfl
noncomputable def Adr:=CY 0 WN L0
theorem Axe:Gf Adr:=AP Axf Av
def Ea (_a0:List TGroup) (a1:TRow) (a2:TRow):Bool:=!a1.1.toList==a2.1.toList
def Db (a0:List TGroup) (_a1:TRow) (a2:TRow):Bool:=Ah a0 a2 !=(0:Int)
def B5 (a0:List TGroup) (a1:TRow) (_a2:TRow):Bool:=Ah a0 a1 !=(0:Int)
def Ahc (a0:List TGroup) (a1:TRow) (a2:TRow):ByteArray:=bif(B5 a0 a1 a2) then ByteArray.mk #[] else bif(Db a0 a1 a2) then ByteArray.mk #[] else bif(Ea a0 a1 a2) then ByteArray.mk #[] else(Js ((0:Int),a2,a1.1,Fg a1)).snd.snd.fst
def VE (a0:List TGroup) (a1:TRow) (a2:TRow):Int:=bif(B5 a0 a1 a2) then Ah a0 a1 else bif(Db a0 a1 a2) then Ah a0 a2 else bif(Ea a0 a1 a2) then(100:Int) else(0:Int)
def Ahd (a0:List TGroup) (a1:TRow) (a2:TRow):List TCell:=bif(B5 a0 a1 a2) then[] else bif(Db a0 a1 a2) then[] else bif(Ea a0 a1 a2) then[] else(Js ((0:Int),a2,a1.1,Fg a1)).snd.snd.snd
def Ahf (a0:List TGroup) (a1:TRow) (a2:TRow):A:=.tup [.agg [.v (.string (Ahc a0 a1 a2)),.sq 0],.v (.int .i64 (VE a0 a1 a2))]
def Ahe (a0:List TGroup) (a1:TRow) (a2:TRow):Objs:=[(0,some (.arr 55 8 (.ty .cell (Ahd a0 a1 a2))))]
def Bly (a0:List TGroup) (a1:TRow) (a2:TRow):List Prop:=[(∀(g:TGroup),g∈a0→Am g.1.size),((!(B5 a0 a1 a2))=true→∀(g:TGroup),g∈a0→Am g.1.size),((!(B5 a0 a1 a2))=true→(!(Db a0 a1 a2))=true→(!(Ea a0 a1 a2))=true→Ag ((0:Nat)+a1.2.length)),((!(B5 a0 a1 a2))=true→(!(Db a0 a1 a2))=true→(!(Ea a0 a1 a2))=true→AB Fk Fj IQ (G7 ((0:Int),a2,a1.1,Fg a1)) ((0:Int),a2,a1.1,Fg a1))]
theorem Blx (a0:List TGroup) (a1:TRow) (a2:TRow):Eo (Au Bhq Adr) 9 74 [.sl .group a0,Af .row a1,Af .row a2] 0 []=some (1,Ahf a0 a1 a2,1,Ahe a0 a1 a2,[(∀(g:TGroup),g∈a0→Am g.1.size),((!(B5 a0 a1 a2))=true→∀(g:TGroup),g∈a0→Am g.1.size),((!(B5 a0 a1 a2))=true→(!(Db a0 a1 a2))=true→(!(Ea a0 a1 a2))=true→Ag ((0:Nat)+a1.2.length)),((!(B5 a0 a1 a2))=true→(!(Db a0 a1 a2))=true→(!(Ea a0 a1 a2))=true→Ae Try.prog (74:FuncId) (0:Nat)=Ae Try.prog (74:FuncId) (0:Nat)),((!(B5 a0 a1 a2))=true→(!(Db a0 a1 a2))=true→(!(Ea a0 a1 a2))=true→AB Fk Fj IQ (G7 ((0:Int),a2,a1.1,Fg a1)) ((0:Int),a2,a1.1,Fg a1))]):=by kernel_rfl
theorem Bp1 (a0:List TGroup) (a1:TRow) (a2:TRow) (hp:∀p∈Bly a0 a1 a2,p):CallOk Try.prog 74 [.sl .group a0,Af .row a1,Af .row a2] 0 [] 1 (Ahf a0 a1 a2) 1 (Ahe a0 a1 a2):=by
 have n0:=N0 hp
 have n1:=N0 (N1 hp)
 have n2:=N0 (N1 (N1 hp))
 have n3:((!(B5 a0 a1 a2))=true→(!(Db a0 a1 a2))=true→(!(Ea a0 a1 a2))=true→Ae Try.prog (74:FuncId) (0:Nat)=Ae Try.prog (74:FuncId) (0:Nat)):=by intros;rfl
 have n4:=N0 (N1 (N1 (N1 hp)))
 exact Ax (Ap Ay7 Axe) (Blx a0 a1 a2) (Aa n0 (Aa n1 (Aa n2 (Aa n3 (Aa n4 Ad)))))
def At3 (a0:List TGroup) (a1:TRow) (a2:TRow):A:=.tup [.agg [.v (.string (jnK a0 a1 a2)),.sq 0],.v (.int .i64 (jnE a0 a1 a2))]
def At2 (a0:List TGroup) (a1:TRow) (a2:TRow):Objs:=[(0,some (.arr 55 8 (.ty .cell (jnL a0 a1 a2))))]
def Al1 (a0:List TGroup) (_a1:TRow) (_a2:TRow):List Prop:=[∀g∈a0,Am g.1.size]
theorem Aqn {l:List TGroup} {a b:TRow} (ha:Ah l a=0) (hb:Ah l b=0):
  AB Fk Fj IQ (G7 (0,b,a.key,a.cells)) (0,b,a.key,a.cells)∧Js (0,b,a.key,a.cells)=((a.cells.length:Int),b,a.key,jnN a.cells b.cells a.cells.length):=by
 have h1:=(AK ha).2.1
 have h2:=(AK hb).2.1
 have h4:=(FR (AK ha).1).2
 have hlen:=fun i=>Aax a.cells b.cells i
 obtain⟨h5,k,hk,hx,_,hst,_⟩:=Io (fun i=>((i:Int),b,a.key,jnN a.cells b.cells i):Nat→Dh) a.cells.length (fun _=>false) Fk Fj IQ (G7 (0,b,a.key,a.cells)) (0,b,a.key,a.cells) rfl (by show a.cells.length≤((a.cells.length:Int) - 0).toNat;omega)
  (fun i _ _=>by
   show(!!decide ((i:Int) <((jnN a.cells b.cells i).length:Int)))=_
   rw[nn,hlen,LY,Bool.not_false,Bool.and_true])
  (fun i hi _=>by
   show(IntKind.i64.wrap ((i:Int)+1),b,a.key,OO (i:Int) b a.key (jnN a.cells b.cells i))=(((i+1:Nat):Int),b,a.key,jnN a.cells b.cells (i+1))
   unfold OO
   rw[DU (by omega),Int.toNat_natCast]
   show(_,_,_,(jnN a.cells b.cells i).set i (KR (HH (jnN a.cells b.cells i) i) (HH b.cells i)))=(_,_,_,(jnN a.cells b.cells i).set i (Mb (HH (jnN a.cells b.cells i) i) (HH b.cells i)))
   have e:HH (jnN a.cells b.cells i) i=HH a.cells i:=by
    rw[Bot a.cells b.cells i hi i,decide_eq_false (Nat.lt_irrefl i)]
    rfl
   rw[e,Bag (J6 ha (by omega:i <l.length))])
  (fun i hi _=>by
   have hin:BG (i:Int) b a.key (jnN a.cells b.cells i)=true→(i:Int) <((jnN a.cells b.cells i).length:Int):=fun h=>by
    unfold BG at h
    rw[nn] at h
    exact of_decide_eq_true h
   refine Aa (fun h=>⟨by show(0:Int)≤(i:Int);omega,hin h⟩) (Aa (fun h=>⟨by show(0:Int)≤(i:Int);omega,?_⟩) Ad)
   have:=hin h
   rw[hlen] at this
   show(i:Int) <(b.cells.length:Int)
   omega)
 have hkn:k=a.cells.length:=by
  rcases Nat.lt_or_ge k a.cells.length with h|h
  ·exact absurd (hst h) (by decide)
  ·omega
 subst hkn
 exact⟨h5,hx⟩
theorem B4f (l:List TGroup) (a b:TRow):VE l a b=jnE l a b∧Ahc l a b=jnK l a b∧Ahd l a b=jnL l a b:=by
 have hkey:Ea l a b=!(a.key==b.key):=by
  unfold Ea
  rw[tlb]
 have e1:VE l a b=jnE l a b:=by
  unfold VE jnE
  rw[hkey]
  rfl
 have split:∀{α:Type} (z:α) (f:α),(bif B5 l a b then z else bif Db l a b then z else bif Ea l a b then z else f)=bif jnE l a b==0 then f else z:=fun z f=>by
  by_cases h:jnE l a b=0
  ·obtain⟨h1,h2,h3⟩:=A0w.1 h
   have k0:B5 l a b=false:=by unfold B5;rw[h1];rfl
   have k1:Db l a b=false:=by unfold Db;rw[h2];rfl
   rw[k0,k1,hkey,h3,beq_self_eq_true,h]
   rfl
  ·have hne:(jnE l a b==0)=false:=by simpa using h
   rw[hne,cond_false]
   cases h1:B5 l a b with
   |true=>rfl
   | false=>
    cases h2:Db l a b with
    |true=>rfl
    | false=>
     cases h3:Ea l a b with
     |true=>rfl
     |false=>
      rw[hkey] at h3
      refine absurd (A0w.2 ⟨?_,?_,?_⟩) h
      ·unfold B5 at h1;simpa using h1
      ·unfold Db at h2;simpa using h2
      ·simpa using h3
 refine⟨e1,?_,?_⟩
 ·unfold Ahc
  rw[split]
  unfold jnK
  by_cases h:jnE l a b=0
  ·obtain⟨h1,h2,h3⟩:=A0w.1 h
   rw[h]
   show(Js (0,b,a.key,a.cells)).snd.snd.fst=a.key
   rw[(Aqn h1 h2).2]
  ·have hne:(jnE l a b==0)=false:=by simpa using h
   rw[hne]
   rfl
 ·unfold Ahd
  rw[split]
  unfold jnL
  by_cases h:jnE l a b=0
  ·obtain⟨h1,h2,h3⟩:=A0w.1 h
   have hl:a.cells.length=b.cells.length:=(AK h1).2.1.trans (AK h2).2.1.symm
   rw[h]
   show(Js (0,b,a.key,a.cells)).snd.snd.snd=jnN a.cells b.cells b.cells.length
   rw[(Aqn h1 h2).2,hl]
  ·have hne:(jnE l a b==0)=false:=by simpa using h
   rw[hne]
   rfl
theorem Blw (a0:List TGroup) (a1:TRow) (a2:TRow) (hp:∀p∈Al1 a0 a1 a2,p):CallOk Try.prog 74 [.sl .group a0,Af .row a1,Af .row a2] 0 [] 1 (At3 a0 a1 a2) 1 (At2 a0 a1 a2):=by
 have hw:∀g∈a0,Am g.1.size:=hp _ (List.mem_cons_self ..)
 have g1:(!(B5 a0 a1 a2))=true→Ah a0 a1=0:=fun h=>by
  have h':(!(Ah a0 a1 !=0))=true:=h
  simpa using h'
 have g2:(!(Db a0 a1 a2))=true→Ah a0 a2=0:=fun h=>by
  have h':(!(Ah a0 a2 !=0))=true:=h
  simpa using h'
 have h:=Bp1 a0 a1 a2 (Aa hw (Aa (fun _=>hw) (Aa (fun h _ _=>by
  have q1:=(AK (g1 h)).2.1
  have q2:=(FR (AK (g1 h)).1).2
  have q3:a1.2.length=a0.length:=q1
  unfold Ag
  omega) (Aa (fun h h2 _=>(Aqn (g1 h) (g2 h2)).1) Ad))))
 obtain⟨e1,e2,e3⟩:=B4f a0 a1 a2
 unfold Ahf Ahe at h
 rw[e1,e2,e3] at h
 exact h
def A4i:List A→Nat→Objs→Option AV:=A7 [.l .group,.t .row,.t .row] 1 At3 At2 Al1
theorem Bfg:ET Try.prog 74 A4i:=Aq (ks:=[.l .group,.t .row,.t .row]) Blw
noncomputable def Bhr:=AU 74 A4i Bhq
theorem Ay8:CD Try.prog Bhr:=Ak Bfg Ay7
abbrev DS:Type:=(List TRow)×ByteArray×Int×ByteArray
def Pp (x:DS):St:=⟨26,1,[(0,.sl .row x.1),(1,.v (.string x.2.1)),(4,.own 0 0),(6,.v (.int .i64 x.2.2.1))],[(0,some (.box 71 [.v (.string x.2.2.2),.v (.slice none 0 0)]))]⟩
def S2:St→Option DS
 |⟨26,1,[(0,.sl .row z0),(1,.v (.string z1)),(4,.own 0 0),(6,.v (.int .i64 z2))],[(0,some (.box 71 [.v (.string z3),.v (.slice none 0 0)]))]⟩=>some (z0,z1,z2,z3)
 |_=>none
theorem Axs:∀s x,S2 s=some x→s=Pp x:=fun s x h=>by
 unfold S2 at h
 split at h
 ·cases h;rfl
 ·cases h
def Amb:Co:=⟨1,1,[0,1,4,6],[],[(0,0)],[0],[5],[0,1]⟩
def Bfl:CR:=⟨[],[(0,0)],[0,1,4,6],[0]⟩
def HT (a0:List TRow) (_a1:ByteArray) (a2:Int) (_a3:ByteArray):Bool:=!!decide (a2 <(↑a0.length:Int))
def Gu (a0:List TRow) (a1:ByteArray) (a2:Int) (a3:ByteArray):Bool:=(HT a0 a1 a2 a3)&&(a0.getD a2.toNat (Ab TC.row)).1.toList==a1.toList
def A4z (a0:List TRow) (a1:ByteArray) (a2:Int) (a3:ByteArray):Bool:=(HT a0 a1 a2 a3)&&!(Gu a0 a1 a2 a3)
def Le (a0:List TRow) (_a1:ByteArray) (a2:Int) (_a3:ByteArray):ByteArray:=(a0.getD a2.toNat (Ab TC.row)).1
def Lf (a0:List TRow) (_a1:ByteArray) (a2:Int) (_a3:ByteArray):List TCell:=Fg (a0.getD a2.toNat (Ab TC.row))
def HV (x:DS):DS:=(x.1,x.2.1,IntKind.i64.wrap (x.2.2.1+(1:Int)),x.2.2.2)
def HU (x:DS):Cnd:=some (A4z x.1 x.2.1 x.2.2.1 x.2.2.2)
def QP (x:DS):List Prop:=[((HT x.1 x.2.1 x.2.2.1 x.2.2.2)=true→(0:Int)≤x.2.2.1∧x.2.2.1 <(↑x.1.length:Int)),((HT x.1 x.2.1 x.2.2.1 x.2.2.2)=true→((x.1.getD x.2.2.1.toNat (Ab TC.row)).1.toList==x.2.1.toList)=true→(0:Int)≤x.2.2.1∧x.2.2.1 <(↑x.1.length:Int)),((HT x.1 x.2.1 x.2.2.1 x.2.2.2)=true→((x.1.getD x.2.2.1.toNat (Ab TC.row)).1.toList==x.2.1.toList)=true→Ag ((0:Nat)+(x.1.getD x.2.2.1.toNat (Ab TC.row)).2.length))]
abbrev K4:DS→List Prop:=QP
def WU (x:DS):Bd:=[(some 0,some (!decide (x.2.2.1 <(↑x.1.length:Int))),⟨26,1,[(5,.dead)],[(0,some (.box 71 [.v (.string x.2.2.2),.v (.slice none 0 0)])),(1,none)]⟩),(none,some ((Gu x.1 x.2.1 x.2.2.1 x.2.2.2)),⟨26,2,[(5,.v (.bool (true)))],[(0,some (.box 71 [.v (.string (Le x.1 x.2.1 x.2.2.1 x.2.2.2)),.sq 1])),(1,some (.arr 55 8 (.ty .cell (Lf x.1 x.2.1 x.2.2.1 x.2.2.2))))]⟩)]
def Ju (x:DS):Nat:=((↑x.1.length:Int) - x.2.2.1).toNat
def Km (x:DS):DS:=A5 HV HU (Ju x) x
theorem A8k (a0:List TRow) (a1:ByteArray) (a2:Int) (a3:ByteArray):Bk (Au Bhr L0) 9 (Ae Try.prog 148 0) Amb (Pp (a0,a1,a2,a3))=some (QP (a0,a1,a2,a3),WU (a0,a1,a2,a3),HU (a0,a1,a2,a3),Pp (HV (a0,a1,a2,a3))):=by kernel_rfl
theorem A8l (a0:List TRow) (a1:ByteArray) (a2:Int) (a3:ByteArray) (hp:∀p∈K4 (a0,a1,a2,a3),p):∀p∈QP (a0,a1,a2,a3),p:=hp
noncomputable def ZF:=GH (Au Bhr L0) (Ae Try.prog 148 0) Amb Bfl S2 Ju HV HU K4 WU
theorem A40:∀s b ps outs,ZF s=some (b,ps,outs)→Wf s ⟨ps,outs,none⟩∧Be (Au C0 L0) b s ps outs:=
 A6 (T:=Pp) Ay8 Av (u:=9) (by kernel_rfl) (by decide) (fun⟨a0,a1,a2,a3⟩=>A8k a0 a1 a2 a3) (fun⟨a0,a1,a2,a3⟩=>A8l a0 a1 a2 a3) Axs (fun _=>AI (n:=26) rfl) fun _ _=>rfl
noncomputable def Ama:=CY 0 ZF L0
theorem A4y:Gf Ama:=AP A40 Av
def QO (a0:List TRow) (a1:ByteArray):List TRow:=(Km (a0,a1,(0:Int),ByteArray.mk #[])).fst
def QN (a0:List TRow) (a1:ByteArray):ByteArray:=(Km (a0,a1,(0:Int),ByteArray.mk #[])).snd.fst
def QM (a0:List TRow) (a1:ByteArray):ByteArray:=(Km (a0,a1,(0:Int),ByteArray.mk #[])).snd.snd.snd
def QL (a0:List TRow) (a1:ByteArray):Int:=(Km (a0,a1,(0:Int),ByteArray.mk #[])).snd.snd.fst
def QK (a0:List TRow) (a1:ByteArray):Bool:=Gu (QO a0 a1) (QN a0 a1) (QL a0 a1) (QM a0 a1)
def Aqo (a0:List TRow) (a1:ByteArray):ByteArray:=bif(QK a0 a1) then Le (QO a0 a1) (QN a0 a1) (QL a0 a1) (QM a0 a1) else ByteArray.mk #[]
def Aqp (a0:List TRow) (a1:ByteArray):Bool:=bif(QK a0 a1) then true else false
def Aqq (a0:List TRow) (a1:ByteArray):List TCell:=bif(QK a0 a1) then Lf (QO a0 a1) (QN a0 a1) (QL a0 a1) (QM a0 a1) else[]
def Aqs (a0:List TRow) (a1:ByteArray):A:=.tup [.agg [.v (.string (Aqo a0 a1)),.sq 0],.v (.bool (Aqp a0 a1))]
def Aqr (a0:List TRow) (a1:ByteArray):Objs:=[(0,some (.arr 55 8 (.ty .cell (Aqq a0 a1))))]
def A42 (a0:List TRow) (a1:ByteArray):List Prop:=[(AB HV HU K4 (Ju (a0,a1,(0:Int),ByteArray.mk #[])) (a0,a1,(0:Int),ByteArray.mk #[]))]
theorem Bqa (a0:List TRow) (a1:ByteArray):Eo (Au Bhr Ama) 9 148 [Af .rows a0,Af .str a1] 0 []=some (1,Aqs a0 a1,1,Aqr a0 a1,[(Ae Try.prog (148:FuncId) (0:Nat)=Ae Try.prog (148:FuncId) (0:Nat)),(AB HV HU K4 (Ju (a0,a1,(0:Int),ByteArray.mk #[])) (a0,a1,(0:Int),ByteArray.mk #[]))]):=by kernel_rfl
theorem Bvo (a0:List TRow) (a1:ByteArray) (hp:∀p∈A42 a0 a1,p):CallOk Try.prog 148 [Af .rows a0,Af .str a1] 0 [] 1 (Aqs a0 a1) 1 (Aqr a0 a1):=by
 have n1:=N0 hp
 exact Ax (Ap Ay8 A4y) (Bqa a0 a1) (Aa rfl (Aa n1 Ad))
def gtK (rows:List TRow) (key:ByteArray):ByteArray:=match Q8 rows key with
 |some r=>r.key
 |none=>⟨#[]⟩
def gtC (rows:List TRow) (key:ByteArray):List TCell:=match Q8 rows key with
 |some r=>r.cells
 |none=>[]
def gtB (rows:List TRow) (key:ByteArray):Bool:=match Q8 rows key with
 |some _=>true
 |none=>false
def A43 (a0:List TRow) (a1:ByteArray):A:=.tup [.agg [.v (.string (gtK a0 a1)),.sq 0],.v (.bool (gtB a0 a1))]
def A41 (a0:List TRow) (a1:ByteArray):Objs:=[(0,some (.arr 55 8 (.ty .cell (gtC a0 a1))))]
def Aue (a0:List TRow) (_a1:ByteArray):List Prop:=[Am a0.length,∀r∈a0,Ag r.cells.length]
theorem B4g (rows:List TRow) (key:ByteArray) (hb:Am rows.length) (hc:∀r∈rows,Ag r.cells.length):(∀p∈A42 rows key,p)∧Aqo rows key=gtK rows key∧Aqp rows key=gtB rows key∧Aqq rows key=gtC rows key:=by
 unfold Am at hb
 have hk0:∀i:Nat,Gu rows key (i:Int) ⟨#[]⟩=(decide (i <rows.length)&&((BA rows i).key==key)):=fun i=>by
  unfold Gu HT
  rw[nn,LY,tlb,Int.toNat_natCast]
  rfl
 obtain⟨h1,k,hk,hx,hs,hst,_⟩:=Io (fun i=>((rows,key,(i:Int),⟨#[]⟩):DS)) rows.length (fun i=>(BA rows i).key==key) HV HU K4 (Ju (rows,key,0,⟨#[]⟩)) (rows,key,0,⟨#[]⟩) rfl (by show rows.length≤((rows.length:Int) - 0).toNat;omega)
  (fun i _ _=>by
   show((!!decide ((i:Int) <(rows.length:Int)))&&!Gu rows key (i:Int) ⟨#[]⟩)=_
   rw[hk0,nn,LY]
   cases decide (i <rows.length)<;>rfl)
  (fun i hi _=>by
   show(rows,key,IntKind.i64.wrap ((i:Int)+1),(⟨#[]⟩:ByteArray))=(rows,key,((i+1:Nat):Int),⟨#[]⟩)
   rw[DU (by omega)])
  (fun i hi _=>by
   have hin:(!!decide ((i:Int) <(rows.length:Int)))=true→(i:Int) <(rows.length:Int):=fun h=>by rw[nn] at h;exact of_decide_eq_true h
   refine Aa (fun h=>⟨by show(0:Int)≤(i:Int);omega,hin h⟩) (Aa (fun h _=>⟨by show(0:Int)≤(i:Int);omega,hin h⟩) (Aa (fun h _=>?_) Ad))
   have h2:=hin h
   show Ag (0+(rows.getD ((i:Int)).toNat (Ab TC.row)).2.length)
   rw[Int.toNat_natCast,Nat.zero_add]
   exact hc _ (getD_in rows (Ab TC.row) i (by omega)))
 have hr:Km (rows,key,0,⟨#[]⟩)=(rows,key,(k:Int),⟨#[]⟩):=hx
 have hat:=Bie key rows k hk hs hst
 refine⟨Aa h1 Ad,?_⟩
 have e0:QK rows key=decide (k <rows.length):=by
  unfold QK QO QN QL QM
  rw[hr]
  show Gu rows key (k:Int) ⟨#[]⟩=_
  rw[hk0]
  rcases Nat.lt_or_ge k rows.length with h|h
  ·have h2:((BA rows k).key==key)=true:=hst h
   rw[decide_eq_true h,h2]
   rfl
  ·rw[decide_eq_false (by omega)]
   rfl
 unfold Aqo Aqp Aqq gtK gtB gtC
 rw[e0,hat]
 unfold QO QN QL QM
 rw[hr]
 by_cases h:k <rows.length
 ·rw[decide_eq_true h,if_pos h]
  show Le rows key (k:Int) ⟨#[]⟩=_∧true=true∧Lf rows key (k:Int) ⟨#[]⟩=_
  unfold Le Lf
  rw[Int.toNat_natCast]
  exact⟨rfl,rfl,rfl⟩
 ·rw[decide_eq_false h,if_neg h]
  exact⟨rfl,rfl,rfl⟩
theorem Bp9 (a0:List TRow) (a1:ByteArray) (hp:∀p∈Aue a0 a1,p):CallOk Try.prog 148 [Af .rows a0,Af .str a1] 0 [] 1 (A43 a0 a1) 1 (A41 a0 a1):=by
 obtain⟨g1,e1,e2,e3⟩:=B4g a0 a1 (hp _ (List.mem_cons_self ..)) (hp _ (List.mem_cons_of_mem _ (List.mem_cons_self ..)))
 have h:=Bvo a0 a1 g1
 unfold Aqs Aqr at h
 rw[e1,e2,e3] at h
 exact h
def Ba6:List A→Nat→Objs→Option AV:=A7 [.t .rows,.t .str] 1 A43 A41 Aue
theorem Bl7:ET Try.prog 148 Ba6:=Aq (ks:=[.t .rows,.t .str]) Bp9
noncomputable def Bhs:=AU 148 Ba6 Bhr
theorem Ay9:CD Try.prog Bhs:=Ak Bl7 Ay8
abbrev DT:Type:=(List TRow)×Bool×Int×TRow×(List TRow)
def Pq (x:DT):St:=⟨54,3,[(0,.sl .row x.1),(3,.own 0 0),(5,.sq 2),(6,.v (.bool x.2.1)),(7,.v (.int .i64 x.2.2.1))],[(0,some (.box 71 [.v (.string x.2.2.2.1.key),.sl .cell x.2.2.2.1.cells])),(2,some (.arr 71 2 (.ty .row x.2.2.2.2)))]⟩
def S3:St→Option DT
 |⟨54,3,[(0,.sl .row z0),(3,.own 0 0),(5,.sq 2),(6,.v (.bool z1)),(7,.v (.int .i64 z2))],[(0,some (.box 71 [.v (.string z3),.sl .cell z4])),(2,some (.arr 71 2 (.ty .row z5)))]⟩=>some (z0,z1,z2,⟨z3,z4⟩,z5)
 |_=>none
theorem Axt:∀s x,S3 s=some x→s=Pq x:=fun s x h=>by
 unfold S3 at h
 split at h
 ·cases h;rfl
 ·cases h
def Amd:Co:=⟨2,3,[0,3,5,6,7],[],[(0,0),(9,2)],[0,9],[5,6],[2,0]⟩
def Bfm:CR:=⟨[.nil 5 71 .row],[(0,0),(1,2)],[0,3,5,6,7],[0,1]⟩
def Gw (a0:List TRow) (_a1:Bool) (a2:Int) (_a3:TRow) (_a4:List TRow):Bool:=!!decide (a2 <(↑a0.length:Int))
def Jv (a0:List TRow) (a1:Bool) (a2:Int) (a3:TRow) (_a4:List TRow):Bool:=!(a0.getD a2.toNat (Ab TC.row)).1.toList==(bif !a1&&!Op.bytesLess (a0.getD a2.toNat (Ab TC.row)).1.toList a3.1.toList then a3.1 else a3.1).toList
def Gv (a0:List TRow) (a1:Bool) (a2:Int) (a3:TRow) (a4:List TRow):List TRow:=bif !a1&&!Op.bytesLess (a0.getD a2.toNat (Ab TC.row)).1.toList a3.1.toList then a4++[TRow.mk a3.1 (Fg a3)] else a4
def MI (a0:List TRow) (a1:Bool) (a2:Int) (a3:TRow) (_a4:List TRow):Bool:=bif !a1&&!Op.bytesLess (a0.getD a2.toNat (Ab TC.row)).1.toList a3.1.toList then true else a1
def MJ (a0:List TRow) (a1:Bool) (a2:Int) (a3:TRow) (_a4:List TRow):TRow:=TRow.mk (bif !a1&&!Op.bytesLess (a0.getD a2.toNat (Ab TC.row)).1.toList a3.1.toList then a3.1 else a3.1) (bif !a1&&!Op.bytesLess (a0.getD a2.toNat (Ab TC.row)).1.toList a3.1.toList then a3.2 else a3.2)
def MK (a0:List TRow) (a1:Bool) (a2:Int) (a3:TRow) (a4:List TRow):List TRow:=bif(Jv a0 a1 a2 a3 a4) then(Gv a0 a1 a2 a3 a4)++[a0.getD a2.toNat (Ab TC.row)] else(Gv a0 a1 a2 a3 a4)
def HX (x:DT):DT:=(x.1,MI x.1 x.2.1 x.2.2.1 x.2.2.2.1 x.2.2.2.2,IntKind.i64.wrap (x.2.2.1+(1:Int)),MJ x.1 x.2.1 x.2.2.1 x.2.2.2.1 x.2.2.2.2,MK x.1 x.2.1 x.2.2.1 x.2.2.2.1 x.2.2.2.2)
def HW (x:DT):Cnd:=some ((Gw x.1 x.2.1 x.2.2.1 x.2.2.2.1 x.2.2.2.2))
def QQ (x:DT):List Prop:=[((Gw x.1 x.2.1 x.2.2.1 x.2.2.2.1 x.2.2.2.2)=true→(!x.2.1)=true→(0:Int)≤x.2.2.1∧x.2.2.1 <(↑x.1.length:Int)),((Gw x.1 x.2.1 x.2.2.1 x.2.2.2.1 x.2.2.2.2)=true→(!x.2.1&&!Op.bytesLess (x.1.getD x.2.2.1.toNat (Ab TC.row)).1.toList x.2.2.2.1.1.toList)=true→Ag ((0:Nat)+x.2.2.2.1.2.length)),((Gw x.1 x.2.1 x.2.2.1 x.2.2.2.1 x.2.2.2.2)=true→(!x.2.1&&!Op.bytesLess (x.1.getD x.2.2.1.toNat (Ab TC.row)).1.toList x.2.2.2.1.1.toList)=true→Ag (x.2.2.2.2.length+(1:Nat))),((Gw x.1 x.2.1 x.2.2.1 x.2.2.2.1 x.2.2.2.2)=true→(0:Int)≤x.2.2.1∧x.2.2.1 <(↑x.1.length:Int)),((Gw x.1 x.2.1 x.2.2.1 x.2.2.2.1 x.2.2.2.2)=true→(Jv x.1 x.2.1 x.2.2.1 x.2.2.2.1 x.2.2.2.2)=true→(0:Int)≤x.2.2.1∧x.2.2.1 <(↑x.1.length:Int)),((Gw x.1 x.2.1 x.2.2.1 x.2.2.2.1 x.2.2.2.2)=true→(Jv x.1 x.2.1 x.2.2.1 x.2.2.2.1 x.2.2.2.2)=true→Ag ((Gv x.1 x.2.1 x.2.2.1 x.2.2.2.1 x.2.2.2.2).length+(1:Nat)))]
abbrev K5:DT→List Prop:=QQ
def WV (x:DT):Bd:=[(some 0,some (!decide (x.2.2.1 <(↑x.1.length:Int))),⟨54,3,[(5,.sq 2),(6,.v (.bool x.2.1))],[(2,some (.arr 71 2 (.ty .row x.2.2.2.2))),(0,some (.box 71 [.v (.string x.2.2.2.1.1),.sl .cell x.2.2.2.1.2]))]⟩)]
def Jw (x:DT):Nat:=((↑x.1.length:Int) - x.2.2.1).toNat
def HE (x:DT):DT:=A5 HX HW (Jw x) x
theorem A8m (a0:List TRow) (a1:Bool) (a2:Int) (a3:TRow) (a4:List TRow):Bk (Au Bhs L0) 9 (Ae Try.prog 178 0) Amd (Pq (a0,a1,a2,a3,a4))=some (QQ (a0,a1,a2,a3,a4),WV (a0,a1,a2,a3,a4),HW (a0,a1,a2,a3,a4),Pq (HX (a0,a1,a2,a3,a4))):=by kernel_rfl
theorem A8n (a0:List TRow) (a1:Bool) (a2:Int) (a3:TRow) (a4:List TRow) (hp:∀p∈K5 (a0,a1,a2,a3,a4),p):∀p∈QQ (a0,a1,a2,a3,a4),p:=hp
noncomputable def ZG:=GH (Au Bhs L0) (Ae Try.prog 178 0) Amd Bfm S3 Jw HX HW K5 WV
theorem A45:∀s b ps outs,ZG s=some (b,ps,outs)→Wf s ⟨ps,outs,none⟩∧Be (Au C0 L0) b s ps outs:=
 A6 (T:=Pq) Ay9 Av (u:=9) (by kernel_rfl) (by decide) (fun⟨a0,a1,a2,a3,a4⟩=>A8m a0 a1 a2 a3 a4) (fun⟨a0,a1,a2,a3,a4⟩=>A8n a0 a1 a2 a3 a4) Axt (fun _=>AI (n:=54) rfl) fun _ _=>rfl
noncomputable def Amc:=CY 0 ZG L0
theorem A44:Gf Amc:=AP A45 Av
def Nq (a0:List TRow) (a1:TRow):Bool:=!(HE (a0,false,(0:Int),a1,[])).snd.fst
def Np (a0:List TRow) (a1:TRow):List TRow:=(HE (a0,false,(0:Int),a1,[])).snd.snd.snd.snd
def Aqt (a0:List TRow) (a1:TRow):List TRow:=bif(Nq a0 a1) then(Np a0 a1)++[TRow.mk (HE (a0,false,(0:Int),a1,[])).snd.snd.snd.fst.1 (Fg (HE (a0,false,(0:Int),a1,[])).snd.snd.snd.fst)] else(Np a0 a1)
def Aqv (_a0:List TRow) (_a1:TRow):A:=.sq 0
def Aqu (a0:List TRow) (a1:TRow):Objs:=[(0,some (.arr 71 2 (.ty .row (Aqt a0 a1))))]
def A47 (a0:List TRow) (a1:TRow):List Prop:=[(AB HX HW K5 (Jw (a0,false,(0:Int),a1,[])) (a0,false,(0:Int),a1,[])),((Nq a0 a1)=true→Ag ((0:Nat)+(HE (a0,false,(0:Int),a1,[])).snd.snd.snd.fst.2.length)),((Nq a0 a1)=true→Ag ((Np a0 a1).length+(1:Nat)))]
theorem Bqc (a0:List TRow) (a1:TRow):Eo (Au Bhs Amc) 9 178 [Af .rows a0,Af .row a1] 0 []=some (1,Aqv a0 a1,1,Aqu a0 a1,[(Ae Try.prog (178:FuncId) (0:Nat)=Ae Try.prog (178:FuncId) (0:Nat)),(AB HX HW K5 (Jw (a0,false,(0:Int),a1,[])) (a0,false,(0:Int),a1,[])),((Nq a0 a1)=true→Ag ((0:Nat)+(HE (a0,false,(0:Int),a1,[])).snd.snd.snd.fst.2.length)),((Nq a0 a1)=true→Ag ((Np a0 a1).length+(1:Nat)))]):=by kernel_rfl
theorem Bvp (a0:List TRow) (a1:TRow) (hp:∀p∈A47 a0 a1,p):CallOk Try.prog 178 [Af .rows a0,Af .row a1] 0 [] 1 (Aqv a0 a1) 1 (Aqu a0 a1):=by
 have n1:=N0 hp
 have n2:=N0 (N1 hp)
 have n3:=N0 (N1 (N1 hp))
 exact Ax (Ap Ay9 A44) (Bqc a0 a1) (Aa rfl (Aa n1 (Aa n2 (Aa n3 Ad))))
def Bqs (l:List TRow) (r:TRow):List TRow:=Bza r (LR r l l.length)
def A48 (a0:List TRow) (a1:TRow):A:=.sl .row (Bqs a0 a1)
def A46 (_a0:List TRow) (_a1:TRow):Objs:=[]
def Auf (a0:List TRow) (a1:TRow):List Prop:=[a0.length≤400000∧Ag a1.cells.length]
theorem B4h (rows:List TRow) (r:TRow) (hb:rows.length≤400000) (hc:Ag r.cells.length):(∀p∈A47 rows r,p)∧Aqt rows r=Bqs rows r:=by
 have hlt:∀i:Nat,Op.bytesLess (rows.getD ((i:Int)).toNat (Ab TC.row)).1.toList r.1.toList=Ip (BA rows i).key r.key:=fun i=>by rw[Int.toNat_natCast];rfl
 have same:∀(c:Bool) (x:ByteArray),(bif c then x else x)=x:=fun c x=>by cases c<;>rfl
 have hcp:Fg r=r.2:=rfl
 have e1:∀(i:Nat) (d:Bool) (o:List TRow),MI rows d (i:Int) r o=(d||!Ip (BA rows i).key r.key):=fun i d o=>by
  unfold MI
  rw[hlt]
  cases d<;>cases Ip (BA rows i).key r.key<;>rfl
 have e3:∀(i:Nat) (d:Bool) (o:List TRow),MJ rows d (i:Int) r o=r:=fun i d o=>by
  unfold MJ
  rw[hlt]
  cases(!d&&!Ip (BA rows i).key r.key)<;>rfl
 have ek0:∀(i:Nat) (d:Bool) (o:List TRow),Gv rows d (i:Int) r o=bif !d&&!Ip (BA rows i).key r.key then o++[r] else o:=fun i d o=>by
  unfold Gv
  rw[hlt]
  rfl
 have ek1:∀(i:Nat) (d:Bool) (o:List TRow),Jv rows d (i:Int) r o=!((BA rows i).key==r.key):=fun i d o=>by
  unfold Jv
  rw[same,tlb,Int.toNat_natCast]
  rfl
 have e4:∀(i:Nat) (d:Bool) (o:List TRow),MK rows d (i:Int) r o=(bif !d&&!Ip (BA rows i).key r.key then o++[r] else o)++(bif(BA rows i).key==r.key then[] else[BA rows i]):=fun i d o=>by
  unfold MK
  rw[ek0,ek1,Int.toNat_natCast]
  cases(BA rows i).key==r.key with
  |true=>exact(List.append_nil _).symm
  |false=>rfl
 have k0len:∀(i:Nat) (d:Bool) (o:List TRow),(Gv rows d (i:Int) r o).length≤o.length+1:=fun i d o=>by
  rw[ek0]
  cases(!d&&!Ip (BA rows i).key r.key) with
  |true=>rw[cond_true,List.length_append];exact Nat.le_refl _
  |false=>exact Nat.le_succ _
 obtain⟨h1,hx⟩:=Ay1 (fun i=>((rows,(LR r rows i).2,(i:Int),r,(LR r rows i).1):DT)) rows.length HX HW K5 (Jw (rows,false,0,r,[])) (rows,false,0,r,[]) rfl (by show rows.length≤((rows.length:Int) - 0).toNat;omega)
  (fun i _=>by
   show(!!decide ((i:Int) <(rows.length:Int)))=_
   rw[nn,LY])
  (fun i hi=>by
   show(rows,MI rows (LR r rows i).2 (i:Int) r (LR r rows i).1,IntKind.i64.wrap ((i:Int)+1),MJ rows (LR r rows i).2 (i:Int) r (LR r rows i).1,MK rows (LR r rows i).2 (i:Int) r (LR r rows i).1)=(rows,(LR r rows (i+1)).2,((i+1:Nat):Int),r,(LR r rows (i+1)).1)
   rw[DU (by omega),e1,e3,e4,Bbd r rows i hi]
   rfl)
  (fun i hi=>by
   have hin:(!!decide ((i:Int) <(rows.length:Int)))=true→(i:Int) <(rows.length:Int):=fun h=>by rw[nn] at h;exact of_decide_eq_true h
   have hl:=A58 r rows i hi
   refine Aa (fun h _=>⟨by show(0:Int)≤(i:Int);omega,hin h⟩) (Aa (fun _ _=>?_) (Aa (fun _ _=>?_) (Aa (fun h=>⟨by show(0:Int)≤(i:Int);omega,hin h⟩) (Aa (fun h _=>⟨by show(0:Int)≤(i:Int);omega,hin h⟩) (Aa (fun _ _=>?_) Ad)))))
   ·show Ag (0+r.2.length)
    rw[Nat.zero_add]
    exact hc
   ·show Ag ((LR r rows i).1.length+1)
    unfold Ag
    omega
   ·have:=k0len i (LR r rows i).2 (LR r rows i).1
    show Ag ((Gv rows (LR r rows i).2 (i:Int) r (LR r rows i).1).length+1)
    unfold Ag
    omega)
 have hr:HE (rows,false,0,r,[])=(rows,(LR r rows rows.length).2,(rows.length:Int),r,(LR r rows rows.length).1):=hx
 have hl:=A58 r rows rows.length (Nat.le_refl _)
 refine⟨Aa h1 (Aa (fun _=>?_) (Aa (fun _=>?_) Ad)),?_⟩
 ·rw[hr,Nat.zero_add]
  exact hc
 ·unfold Np
  rw[hr]
  show Ag ((LR r rows rows.length).1.length+1)
  unfold Ag
  omega
 ·unfold Aqt Nq Np Bqs Bza
  rw[hr]
  show(bif !(LR r rows rows.length).2 then(LR r rows rows.length).1++[r] else(LR r rows rows.length).1)=_
  cases(LR r rows rows.length).2<;>rfl
theorem Bqb (a0:List TRow) (a1:TRow) (hp:∀p∈Auf a0 a1,p):CallOk Try.prog 178 [Af .rows a0,Af .row a1] 0 [] 1 (A48 a0 a1) 0 (A46 a0 a1):=by
 obtain⟨h1,h2⟩:=hp _ (List.mem_cons_self ..)
 obtain⟨g1,e1⟩:=B4h a0 a1 h1 h2
 have h:=Bvp a0 a1 g1
 unfold Aqv Aqu at h
 rw[e1] at h
 exact A9z (c:=.row) h
def Ba7:List A→Nat→Objs→Option AV:=A7 [.t .rows,.t .row] 0 A48 A46 Auf
theorem Bl8:ET Try.prog 178 Ba7:=Aq (ks:=[.t .rows,.t .row]) Bqb
noncomputable def B5q:=AU 178 Ba7 Bhs
theorem Bxs:CD Try.prog B5q:=Ak Bl8 Ay9
noncomputable def Cmg:=B5q
theorem Bxt:CD Try.prog Cmg:=Bxs
end Go.Proofs.Yteebobbhhgmeiaa
namespace Go.Proofs.Yteebobbhhgmeiaa
open Go.RowKit
def M6 (a0:Int):A:=.v (.bool (a0==(1:Int)||a0==(2:Int)))
def M5 (_a0:Int):Objs:=[]
def Ma (_a0:Int):List Prop:=[]
theorem Ajo (a0:Int):Eo (Au Cb L0) 9 96 [Af .i64 a0] 0 []=some (1,M6 a0,0,M5 a0,Ma a0):=by kernel_rfl
theorem Aof (a0:Int) (hp:∀p∈Ma a0,p):CallOk Try.prog 96 [Af .i64 a0] 0 [] 1 (M6 a0) 0 (M5 a0):=Ax (Ap Brj Av) (Ajo a0) hp
def TB:List A→Nat→Objs→Option AV:=A7 [.t .i64] 0 M6 M5 Ma
theorem Afl:ET Try.prog 96 TB:=Aq (ks:=[.t .i64]) Aof
noncomputable def Bwr:=AU 96 TB Cb
theorem Bg2:CD Try.prog Bwr:=Ak Afl Brj
def Ou (a0:Int):Bool:=!(a0==(1:Int)||a0==(2:Int))
def La (a0:Int):Int:=bif(Ou a0) then(0:Int) else(0:Int)
def J5 (a0:Int):TFront:=TFront.mk (bif(Ou a0) then(0:Int) else a0) (La a0) (La a0) (La a0) (La a0)
def A0m (a0:Int):Int:=bif(Ou a0) then(2:Int) else(0:Int)
def PW (a0:Int):A:=.v (.tuple ⟨[.agg ⟨[.int .i64 ((J5 a0).site),.int .i64 ((J5 a0).acked),.int .i64 ((J5 a0).stable),.int .i64 ((J5 a0).wait),.int .i64 ((J5 a0).til)]⟩,.int .i64 (A0m a0)]⟩)
def PV (_a0:Int):Objs:=[]
def Ov (_a0:Int):List Prop:=[]
theorem Avv (a0:Int):Eo (Au Bwr L0) 9 24 [Af .i64 a0] 0 []=some (1,PW a0,0,PV a0,Ov a0):=by kernel_rfl
theorem A0n (a0:Int) (hp:∀p∈Ov a0,p):CallOk Try.prog 24 [Af .i64 a0] 0 [] 1 (PW a0) 0 (PV a0):=Ax (Ap Bg2 Av) (Avv a0) hp
def XT:List A→Nat→Objs→Option AV:=A7 [.t .i64] 0 PW PV Ov
theorem Aod:ET Try.prog 24 XT:=Aq (ks:=[.t .i64]) A0n
noncomputable def Bws:=AU 24 XT Bwr
theorem Bg3:CD Try.prog Bws:=Ak Aod Bg2
def Tx (a0:TFront):Bool:=decide (a0.4 <(0:Int))||decide (a0.4 >(1099511627776:Int))
def Tw (a0:TFront):Bool:=decide (a0.3 <(0:Int))||decide (a0.3 >(1099511627776:Int))
def Tv (a0:TFront):Bool:=decide (a0.2 <(0:Int))||decide (a0.2 >(1099511627776:Int))
def Jn (a0:TFront):Bool:=bif(Tv a0)||((Tw a0)||((Tx a0)||(decide (a0.5 <(0:Int))||decide (a0.5 >(1099511627776:Int))))) then bif(Tv a0) then false else bif(Tw a0) then false else bif(Tx a0) then false else false else(a0.1==(1:Int)||a0.1==(2:Int))&&decide (max a0.3 a0.4≤a0.2)&&!(a0.5==(0:Int)&&decide (a0.4 >(0:Int)))
def Ot (a0:TFront):A:=.v (.bool (Jn a0))
def Oq (_a0:TFront):Objs:=[]
def M0 (_a0:TFront):List Prop:=[]
theorem An9 (a0:TFront):Eo (Au Bws L0) 9 34 [Af .front a0] 0 []=some (1,Ot a0,0,Oq a0,M0 a0):=by kernel_rfl
theorem Avr (a0:TFront) (hp:∀p∈M0 a0,p):CallOk Try.prog 34 [Af .front a0] 0 [] 1 (Ot a0) 0 (Oq a0):=Ax (Ap Bg3 Av) (An9 a0) hp
def Wc:List A→Nat→Objs→Option AV:=A7 [.t .front] 0 Ot Oq M0
theorem Ajh:ET Try.prog 34 Wc:=Aq (ks:=[.t .front]) Avr
noncomputable def Bwt:=AU 34 Wc Bws
theorem Bg4:CD Try.prog Bwt:=Ak Ajh Bg3
def Dn (a0:TFront) (a1:TVec):Int:=bif !Jn a0||!BV a1 then(2:Int) else(0:Int)
def M4 (a0:TFront) (a1:TVec):A:=.v (.int .i64 (Dn a0 a1))
def M3 (_a0:TFront) (_a1:TVec):Objs:=[]
def L9 (_a0:TFront) (_a1:TVec):List Prop:=[]
theorem Ajn (a0:TFront) (a1:TVec):Eo (Au Bwt L0) 9 97 [Af .front a0,Af .vec a1] 0 []=some (1,M4 a0 a1,0,M3 a0 a1,L9 a0 a1):=by kernel_rfl
theorem Aoe (a0:TFront) (a1:TVec) (hp:∀p∈L9 a0 a1,p):CallOk Try.prog 97 [Af .front a0,Af .vec a1] 0 [] 1 (M4 a0 a1) 0 (M3 a0 a1):=Ax (Ap Bg4 Av) (Ajn a0 a1) hp
def TA:List A→Nat→Objs→Option AV:=A7 [.t .front,.t .vec] 0 M4 M3 L9
theorem Afk:ET Try.prog 97 TA:=Aq (ks:=[.t .front,.t .vec]) Aoe
noncomputable def Bwu:=AU 97 TA Bwt
theorem Bg5:CD Try.prog Bwu:=Ak Afk Bg4
theorem B73 {s:Int} (h:s=1∨s=2):0≤IntKind.i64.wrap (2 - s)∧IntKind.i64.wrap (2 - s) <2:=by
 rcases h with rfl|rfl<;>decide
theorem B9j {s:Int} (h:s=1∨s=2):0≤IntKind.i64.wrap (s - 1)∧IntKind.i64.wrap (s - 1) <2:=by
 rcases h with rfl|rfl<;>decide
theorem PP {f:TFront} {v:TVec} (h:(!(Dn f v !=0))=true):f.site=1∨f.site=2:=by
 have hg:Jn f=true:=by
  unfold Dn at h
  cases hg:Jn f with
  |true=>rfl
  |false=>rw[hg] at h;cases h
 unfold Jn at hg
 rw[Bool.cond_eq_ite] at hg
 split at hg
 ·repeat' (first|(cases hg;done)|(rw[Bool.cond_eq_ite] at hg;split at hg))
 ·simp only[Bool.and_eq_true,Bool.or_eq_true,beq_iff_eq] at hg
  exact hg.1.1
theorem B9u {c d:Bool} {s:Int}:(bif c then s else bif d then s else s)=s:=by cases c<;>cases d<;>rfl
def AR (a0:TFront) (_a1:TVec):Int:=IntKind.i64.wrap ((2:Int) - a0.1)
def Aj (a0:TFront) (a1:TVec):Int:=bif(AR a0 a1).toNat.beq (0:Nat) then a1.1 else a1.2
def JM (a0:TFront) (a1:TVec):A:=.v (.int .i64 (Aj a0 a1))
def JL (_a0:TFront) (_a1:TVec):Objs:=[]
def L4 (a0:TFront) (a1:TVec):List Prop:=[((0:Int)≤(AR a0 a1)∧(AR a0 a1) <(2:Int))]
theorem U5 (a0:TFront) (a1:TVec):Eo (Au Bwu L0) 9 98 [Af .front a0,Af .vec a1] 0 []=some (1,JM a0 a1,0,JL a0 a1,[((0:Int)≤(AR a0 a1)∧(AR a0 a1) <(2:Int)),((AR a0 a1).toNat <(2:Nat))]):=by kernel_rfl
theorem Xi (a0:TFront) (a1:TVec) (hp:∀p∈L4 a0 a1,p):CallOk Try.prog 98 [Af .front a0,Af .vec a1] 0 [] 1 (JM a0 a1) 0 (JL a0 a1):=by
 have n0:=N0 hp
 have n1:((AR a0 a1).toNat <(2:Nat)):=by omega
 exact Ax (Ap Bg5 Av) (U5 a0 a1) (Aa n0 (Aa n1 Ad))
def MV:List A→Nat→Objs→Option AV:=A7 [.t .front,.t .vec] 0 JM JL L4
theorem Tu:ET Try.prog 98 MV:=Aq (ks:=[.t .front,.t .vec]) Xi
noncomputable def Bwv:=AU 98 MV Bwu
theorem Bg6:CD Try.prog Bwv:=Ak Tu Bg5
def Ds (a0:TFront) (a1:TVec):Bool:=decide (a0.5 >(0:Int))&&decide (Aj a0 a1≥a0.5)
def AG (a0:TFront) (a1:TVec):TFront:=TFront.mk (bif(Ds a0 a1) then a0.1 else a0.1) (bif(Ds a0 a1) then a0.2 else a0.2) (bif(Ds a0 a1) then max a0.3 a0.4 else a0.3) (bif(Ds a0 a1) then(0:Int) else a0.4) (bif(Ds a0 a1) then(0:Int) else a0.5)
def Ij (a0:TFront) (a1:TVec):A:=.v (.agg ⟨[.int .i64 ((AG a0 a1).site),.int .i64 ((AG a0 a1).acked),.int .i64 ((AG a0 a1).stable),.int .i64 ((AG a0 a1).wait),.int .i64 ((AG a0 a1).til)]⟩)
def Ii (_a0:TFront) (_a1:TVec):Objs:=[]
def HI (a0:TFront) (a1:TVec):List Prop:=[(decide (a0.5 >(0:Int))=true→(0:Int)≤AR a0 a1∧AR a0 a1 <(2:Int))]
theorem Q9 (a0:TFront) (a1:TVec):Eo (Au Bwv L0) 9 99 [Af .front a0,Af .vec a1] 0 []=some (1,Ij a0 a1,0,Ii a0 a1,HI a0 a1):=by kernel_rfl
theorem Sv (a0:TFront) (a1:TVec) (hp:∀p∈HI a0 a1,p):CallOk Try.prog 99 [Af .front a0,Af .vec a1] 0 [] 1 (Ij a0 a1) 0 (Ii a0 a1):=Ax (Ap Bg6 Av) (Q9 a0 a1) hp
def KZ:List A→Nat→Objs→Option AV:=A7 [.t .front,.t .vec] 0 Ij Ii HI
theorem PS:ET Try.prog 99 KZ:=Aq (ks:=[.t .front,.t .vec]) Sv
noncomputable def Bww:=AU 99 KZ Bwv
theorem Bg7:CD Try.prog Bww:=Ak PS Bg6
def JR (a0:TFront) (a1:TVec) (a2:Int) (_a3:Int):Int:=AR (TFront.mk a0.1 (max a0.2 a2) a0.3 a0.4 a0.5) a1
def A3 (a0:TFront) (a1:TVec) (_a2:Int) (_a3:Int):Bool:=Dn a0 a1 !=(0:Int)
def CS (a0:TFront) (_a1:TVec) (_a2:Int) (_a3:Int):Int:=IntKind.i64.wrap (a0.1 - (1:Int))
def BW (a0:TFront) (a1:TVec) (a2:Int) (a3:Int):Bool:=decide (a2 <(0:Int))||decide (a2 >bif(CS a0 a1 a2 a3).toNat.beq (0:Nat) then a1.1 else a1.2)||decide (a3 <(0:Int))||decide (a3 >(1099511627776:Int))
def JQ (a0:TFront) (a1:TVec) (a2:Int) (a3:Int):Int:=AR (TFront.mk (bif decide (Aj (TFront.mk a0.1 (max a0.2 a2) a0.3 a0.4 a0.5) a1≥a3) then a0.1 else bif a0.5==(0:Int)&&decide (a2 >a0.3) then a0.1 else a0.1) (bif decide (Aj (TFront.mk a0.1 (max a0.2 a2) a0.3 a0.4 a0.5) a1≥a3) then max a0.2 a2 else bif a0.5==(0:Int)&&decide (a2 >a0.3) then max a0.2 a2 else max a0.2 a2) (bif decide (Aj (TFront.mk a0.1 (max a0.2 a2) a0.3 a0.4 a0.5) a1≥a3) then max a0.3 a2 else bif a0.5==(0:Int)&&decide (a2 >a0.3) then a0.3 else a0.3) (bif decide (Aj (TFront.mk a0.1 (max a0.2 a2) a0.3 a0.4 a0.5) a1≥a3) then a0.4 else bif a0.5==(0:Int)&&decide (a2 >a0.3) then a2 else a0.4) (bif decide (Aj (TFront.mk a0.1 (max a0.2 a2) a0.3 a0.4 a0.5) a1≥a3) then a0.5 else bif a0.5==(0:Int)&&decide (a2 >a0.3) then a3 else a0.5)) a1
def Ix (a0:TFront) (a1:TVec) (a2:Int) (a3:Int):TFront:=TFront.mk (bif(A3 a0 a1 a2 a3) then(0:Int) else bif(BW a0 a1 a2 a3) then(0:Int) else(AG (TFront.mk (bif decide (Aj (TFront.mk a0.1 (max a0.2 a2) a0.3 a0.4 a0.5) a1≥a3) then a0.1 else bif a0.5==(0:Int)&&decide (a2 >a0.3) then a0.1 else a0.1) (bif decide (Aj (TFront.mk a0.1 (max a0.2 a2) a0.3 a0.4 a0.5) a1≥a3) then max a0.2 a2 else bif a0.5==(0:Int)&&decide (a2 >a0.3) then max a0.2 a2 else max a0.2 a2) (bif decide (Aj (TFront.mk a0.1 (max a0.2 a2) a0.3 a0.4 a0.5) a1≥a3) then max a0.3 a2 else bif a0.5==(0:Int)&&decide (a2 >a0.3) then a0.3 else a0.3) (bif decide (Aj (TFront.mk a0.1 (max a0.2 a2) a0.3 a0.4 a0.5) a1≥a3) then a0.4 else bif a0.5==(0:Int)&&decide (a2 >a0.3) then a2 else a0.4) (bif decide (Aj (TFront.mk a0.1 (max a0.2 a2) a0.3 a0.4 a0.5) a1≥a3) then a0.5 else bif a0.5==(0:Int)&&decide (a2 >a0.3) then a3 else a0.5)) a1).1) (bif(A3 a0 a1 a2 a3) then(0:Int) else bif(BW a0 a1 a2 a3) then(0:Int) else(AG (TFront.mk (bif decide (Aj (TFront.mk a0.1 (max a0.2 a2) a0.3 a0.4 a0.5) a1≥a3) then a0.1 else bif a0.5==(0:Int)&&decide (a2 >a0.3) then a0.1 else a0.1) (bif decide (Aj (TFront.mk a0.1 (max a0.2 a2) a0.3 a0.4 a0.5) a1≥a3) then max a0.2 a2 else bif a0.5==(0:Int)&&decide (a2 >a0.3) then max a0.2 a2 else max a0.2 a2) (bif decide (Aj (TFront.mk a0.1 (max a0.2 a2) a0.3 a0.4 a0.5) a1≥a3) then max a0.3 a2 else bif a0.5==(0:Int)&&decide (a2 >a0.3) then a0.3 else a0.3) (bif decide (Aj (TFront.mk a0.1 (max a0.2 a2) a0.3 a0.4 a0.5) a1≥a3) then a0.4 else bif a0.5==(0:Int)&&decide (a2 >a0.3) then a2 else a0.4) (bif decide (Aj (TFront.mk a0.1 (max a0.2 a2) a0.3 a0.4 a0.5) a1≥a3) then a0.5 else bif a0.5==(0:Int)&&decide (a2 >a0.3) then a3 else a0.5)) a1).2) (bif(A3 a0 a1 a2 a3) then(0:Int) else bif(BW a0 a1 a2 a3) then(0:Int) else(AG (TFront.mk (bif decide (Aj (TFront.mk a0.1 (max a0.2 a2) a0.3 a0.4 a0.5) a1≥a3) then a0.1 else bif a0.5==(0:Int)&&decide (a2 >a0.3) then a0.1 else a0.1) (bif decide (Aj (TFront.mk a0.1 (max a0.2 a2) a0.3 a0.4 a0.5) a1≥a3) then max a0.2 a2 else bif a0.5==(0:Int)&&decide (a2 >a0.3) then max a0.2 a2 else max a0.2 a2) (bif decide (Aj (TFront.mk a0.1 (max a0.2 a2) a0.3 a0.4 a0.5) a1≥a3) then max a0.3 a2 else bif a0.5==(0:Int)&&decide (a2 >a0.3) then a0.3 else a0.3) (bif decide (Aj (TFront.mk a0.1 (max a0.2 a2) a0.3 a0.4 a0.5) a1≥a3) then a0.4 else bif a0.5==(0:Int)&&decide (a2 >a0.3) then a2 else a0.4) (bif decide (Aj (TFront.mk a0.1 (max a0.2 a2) a0.3 a0.4 a0.5) a1≥a3) then a0.5 else bif a0.5==(0:Int)&&decide (a2 >a0.3) then a3 else a0.5)) a1).3) (bif(A3 a0 a1 a2 a3) then(0:Int) else bif(BW a0 a1 a2 a3) then(0:Int) else(AG (TFront.mk (bif decide (Aj (TFront.mk a0.1 (max a0.2 a2) a0.3 a0.4 a0.5) a1≥a3) then a0.1 else bif a0.5==(0:Int)&&decide (a2 >a0.3) then a0.1 else a0.1) (bif decide (Aj (TFront.mk a0.1 (max a0.2 a2) a0.3 a0.4 a0.5) a1≥a3) then max a0.2 a2 else bif a0.5==(0:Int)&&decide (a2 >a0.3) then max a0.2 a2 else max a0.2 a2) (bif decide (Aj (TFront.mk a0.1 (max a0.2 a2) a0.3 a0.4 a0.5) a1≥a3) then max a0.3 a2 else bif a0.5==(0:Int)&&decide (a2 >a0.3) then a0.3 else a0.3) (bif decide (Aj (TFront.mk a0.1 (max a0.2 a2) a0.3 a0.4 a0.5) a1≥a3) then a0.4 else bif a0.5==(0:Int)&&decide (a2 >a0.3) then a2 else a0.4) (bif decide (Aj (TFront.mk a0.1 (max a0.2 a2) a0.3 a0.4 a0.5) a1≥a3) then a0.5 else bif a0.5==(0:Int)&&decide (a2 >a0.3) then a3 else a0.5)) a1).4) (bif(A3 a0 a1 a2 a3) then(0:Int) else bif(BW a0 a1 a2 a3) then(0:Int) else(AG (TFront.mk (bif decide (Aj (TFront.mk a0.1 (max a0.2 a2) a0.3 a0.4 a0.5) a1≥a3) then a0.1 else bif a0.5==(0:Int)&&decide (a2 >a0.3) then a0.1 else a0.1) (bif decide (Aj (TFront.mk a0.1 (max a0.2 a2) a0.3 a0.4 a0.5) a1≥a3) then max a0.2 a2 else bif a0.5==(0:Int)&&decide (a2 >a0.3) then max a0.2 a2 else max a0.2 a2) (bif decide (Aj (TFront.mk a0.1 (max a0.2 a2) a0.3 a0.4 a0.5) a1≥a3) then max a0.3 a2 else bif a0.5==(0:Int)&&decide (a2 >a0.3) then a0.3 else a0.3) (bif decide (Aj (TFront.mk a0.1 (max a0.2 a2) a0.3 a0.4 a0.5) a1≥a3) then a0.4 else bif a0.5==(0:Int)&&decide (a2 >a0.3) then a2 else a0.4) (bif decide (Aj (TFront.mk a0.1 (max a0.2 a2) a0.3 a0.4 a0.5) a1≥a3) then a0.5 else bif a0.5==(0:Int)&&decide (a2 >a0.3) then a3 else a0.5)) a1).5)
def Aoa (a0:TFront) (a1:TVec) (a2:Int) (a3:Int):Int:=bif(A3 a0 a1 a2 a3) then Dn a0 a1 else bif(BW a0 a1 a2 a3) then(2:Int) else(0:Int)
def M2 (a0:TFront) (a1:TVec) (a2:Int) (a3:Int):A:=.v (.tuple ⟨[.agg ⟨[.int .i64 ((Ix a0 a1 a2 a3).site),.int .i64 ((Ix a0 a1 a2 a3).acked),.int .i64 ((Ix a0 a1 a2 a3).stable),.int .i64 ((Ix a0 a1 a2 a3).wait),.int .i64 ((Ix a0 a1 a2 a3).til)]⟩,.int .i64 (Aoa a0 a1 a2 a3)]⟩)
def M1 (_a0:TFront) (_a1:TVec) (_a2:Int) (_a3:Int):Objs:=[]
def Rl (a0:TFront) (a1:TVec) (a2:Int) (a3:Int):List Prop:=[((!(A3 a0 a1 a2 a3))=true→decide (a2 <(0:Int))=false→(0:Int)≤(CS a0 a1 a2 a3)∧(CS a0 a1 a2 a3) <(2:Int)),((!(A3 a0 a1 a2 a3))=true→(!(BW a0 a1 a2 a3))=true→(0:Int)≤(JR a0 a1 a2 a3)∧(JR a0 a1 a2 a3) <(2:Int)),((!(A3 a0 a1 a2 a3))=true→(!(BW a0 a1 a2 a3))=true→decide ((bif decide (Aj (TFront.mk a0.1 (max a0.2 a2) a0.3 a0.4 a0.5) a1≥a3) then a0.5 else bif a0.5==(0:Int)&&decide (a2 >a0.3) then a3 else a0.5) >(0:Int))=true→(0:Int)≤(JQ a0 a1 a2 a3)∧(JQ a0 a1 a2 a3) <(2:Int))]
theorem Aji (a0:TFront) (a1:TVec) (a2:Int) (a3:Int):Eo (Au Bww L0) 9 26 [Af .front a0,Af .vec a1,Af .i64 a2,Af .i64 a3] 0 []=some (1,M2 a0 a1 a2 a3,0,M1 a0 a1 a2 a3,[((!(A3 a0 a1 a2 a3))=true→decide (a2 <(0:Int))=false→(0:Int)≤(CS a0 a1 a2 a3)∧(CS a0 a1 a2 a3) <(2:Int)),((!(A3 a0 a1 a2 a3))=true→decide (a2 <(0:Int))=false→(CS a0 a1 a2 a3).toNat <(2:Nat)),((!(A3 a0 a1 a2 a3))=true→(!(BW a0 a1 a2 a3))=true→(0:Int)≤(JR a0 a1 a2 a3)∧(JR a0 a1 a2 a3) <(2:Int)),((!(A3 a0 a1 a2 a3))=true→(!(BW a0 a1 a2 a3))=true→decide ((bif decide (Aj (TFront.mk a0.1 (max a0.2 a2) a0.3 a0.4 a0.5) a1≥a3) then a0.5 else bif a0.5==(0:Int)&&decide (a2 >a0.3) then a3 else a0.5) >(0:Int))=true→(0:Int)≤(JQ a0 a1 a2 a3)∧(JQ a0 a1 a2 a3) <(2:Int))]):=by kernel_rfl
theorem Aob (a0:TFront) (a1:TVec) (a2:Int) (a3:Int) (hp:∀p∈Rl a0 a1 a2 a3,p):CallOk Try.prog 26 [Af .front a0,Af .vec a1,Af .i64 a2,Af .i64 a3] 0 [] 1 (M2 a0 a1 a2 a3) 0 (M1 a0 a1 a2 a3):=by
 have n0:((!(A3 a0 a1 a2 a3))=true→decide (a2 <(0:Int))=false→(0:Int)≤(CS a0 a1 a2 a3)∧(CS a0 a1 a2 a3) <(2:Int)):=N0 hp
 have n1:((!(A3 a0 a1 a2 a3))=true→decide (a2 <(0:Int))=false→(CS a0 a1 a2 a3).toNat <(2:Nat)):=by intro h0 h1;have g:=n0 h0 h1;omega
 have n2:=N0 (N1 hp)
 have n3:=N0 (N1 (N1 hp))
 exact Ax (Ap Bg7 Av) (Aji a0 a1 a2 a3) (Aa n0 (Aa n1 (Aa n2 (Aa n3 Ad))))
theorem Afg (a0:TFront) (a1:TVec) (a2:Int) (a3:Int):∀p∈Rl a0 a1 a2 a3,p:=by
 refine Aa (fun h _=>B9j (PP (f:=a0) (v:=a1) h)) (Aa (fun h _=>B73 (PP (f:=a0) (v:=a1) h)) (Aa (fun h _ _=>?_) Ad))
 show 0≤IntKind.i64.wrap (2 - (bif _ then a0.1 else bif _ then a0.1 else a0.1))∧IntKind.i64.wrap (2 - (bif _ then a0.1 else bif _ then a0.1 else a0.1)) <2
 rw[B9u]
 exact B73 (PP (f:=a0) (v:=a1) h)
def Ty:List A→Nat→Objs→Option AV:=A7 [.t .front,.t .vec,.t .i64,.t .i64] 0 M2 M1 (fun _ _ _ _=>([]:List Prop))
theorem Afh:ET Try.prog 26 Ty:=Aq (ks:=[.t .front,.t .vec,.t .i64,.t .i64]) (fun a0 a1 a2 a3 _=>Aob a0 a1 a2 a3 (Afg a0 a1 a2 a3))
noncomputable def Bwx:=AU 26 Ty Bww
theorem Bg8:CD Try.prog Bwx:=Ak Afh Bg7
def DW (a0:TFront) (a1:TVec):Bool:=Dn a0 a1 !=(0:Int)
def H2 (a0:TFront) (a1:TVec):TFront:=TFront.mk (bif(DW a0 a1) then(0:Int) else(AG a0 a1).1) (bif(DW a0 a1) then(0:Int) else(AG a0 a1).2) (bif(DW a0 a1) then(0:Int) else(AG a0 a1).3) (bif(DW a0 a1) then(0:Int) else(AG a0 a1).4) (bif(DW a0 a1) then(0:Int) else(AG a0 a1).5)
def Ajj (a0:TFront) (a1:TVec):Int:=bif(DW a0 a1) then Dn a0 a1 else(0:Int)
def L6 (a0:TFront) (a1:TVec):A:=.v (.tuple ⟨[.agg ⟨[.int .i64 ((H2 a0 a1).site),.int .i64 ((H2 a0 a1).acked),.int .i64 ((H2 a0 a1).stable),.int .i64 ((H2 a0 a1).wait),.int .i64 ((H2 a0 a1).til)]⟩,.int .i64 (Ajj a0 a1)]⟩)
def L5 (_a0:TFront) (_a1:TVec):Objs:=[]
def Lo (a0:TFront) (a1:TVec):List Prop:=[((!(DW a0 a1))=true→decide (a0.5 >(0:Int))=true→(0:Int)≤AR a0 a1∧AR a0 a1 <(2:Int))]
theorem Afi (a0:TFront) (a1:TVec):Eo (Au Bwx L0) 9 27 [Af .front a0,Af .vec a1] 0 []=some (1,L6 a0 a1,0,L5 a0 a1,Lo a0 a1):=by kernel_rfl
theorem Ajk (a0:TFront) (a1:TVec) (hp:∀p∈Lo a0 a1,p):CallOk Try.prog 27 [Af .front a0,Af .vec a1] 0 [] 1 (L6 a0 a1) 0 (L5 a0 a1):=Ax (Ap Bg8 Av) (Afi a0 a1) hp
theorem Abh (a0:TFront) (a1:TVec):∀p∈Lo a0 a1,p:=
 Aa (fun h _=>B73 (PP (f:=a0) (v:=a1) h)) Ad
def Rm:List A→Nat→Objs→Option AV:=A7 [.t .front,.t .vec] 0 L6 L5 (fun _ _=>([]:List Prop))
theorem Abi:ET Try.prog 27 Rm:=Aq (ks:=[.t .front,.t .vec]) (fun a0 a1 _=>Ajk a0 a1 (Abh a0 a1))
noncomputable def Bwy:=AU 27 Rm Bwx
theorem Bg9:CD Try.prog Bwy:=Ak Abi Bg8
def C4 (a0:TFront) (a1:TVec):Bool:=Dn a0 a1 !=(0:Int)
def BL (a0:TFront) (_a1:TVec):Int:=IntKind.i64.wrap (a0.1 - (1:Int))
def Rn (a0:TFront) (a1:TVec):TVec:=TVec.mk (bif(C4 a0 a1) then(0:Int) else bif(BL a0 a1).toNat.beq (0:Nat) then a0.3 else a1.1) (bif(C4 a0 a1) then(0:Int) else bif(BL a0 a1).toNat.beq (1:Nat) then a0.3 else a1.2)
def Ajl (a0:TFront) (a1:TVec):Int:=bif(C4 a0 a1) then Dn a0 a1 else(0:Int)
def L8 (a0:TFront) (a1:TVec):A:=.v (.tuple ⟨[.agg ⟨[.int .i64 ((Rn a0 a1).a),.int .i64 ((Rn a0 a1).b)]⟩,.int .i64 (Ajl a0 a1)]⟩)
def L7 (_a0:TFront) (_a1:TVec):Objs:=[]
def PX (a0:TFront) (a1:TVec):List Prop:=[((!(C4 a0 a1))=true→(0:Int)≤(BL a0 a1)∧(BL a0 a1) <(2:Int))]
theorem Afj (a0:TFront) (a1:TVec):Eo (Au Bwy L0) 9 31 [Af .front a0,Af .vec a1] 0 []=some (1,L8 a0 a1,0,L7 a0 a1,[((!(C4 a0 a1))=true→(0:Int)≤(BL a0 a1)∧(BL a0 a1) <(2:Int)),((!(C4 a0 a1))=true→(BL a0 a1).toNat <(2:Nat))]):=by kernel_rfl
theorem Ajm (a0:TFront) (a1:TVec) (hp:∀p∈PX a0 a1,p):CallOk Try.prog 31 [Af .front a0,Af .vec a1] 0 [] 1 (L8 a0 a1) 0 (L7 a0 a1):=by
 have n0:((!(C4 a0 a1))=true→(0:Int)≤(BL a0 a1)∧(BL a0 a1) <(2:Int)):=N0 hp
 have n1:((!(C4 a0 a1))=true→(BL a0 a1).toNat <(2:Nat)):=by intro h0;have g:=n0 h0;omega
 exact Ax (Ap Bg9 Av) (Afj a0 a1) (Aa n0 (Aa n1 Ad))
theorem Abj (a0:TFront) (a1:TVec):∀p∈PX a0 a1,p:=
 Aa (fun h=>B9j (PP (f:=a0) (v:=a1) h)) Ad
def Ro:List A→Nat→Objs→Option AV:=A7 [.t .front,.t .vec] 0 L8 L7 (fun _ _=>([]:List Prop))
theorem Abk:ET Try.prog 31 Ro:=Aq (ks:=[.t .front,.t .vec]) (fun a0 a1 _=>Ajm a0 a1 (Abj a0 a1))
noncomputable def B5g:=AU 31 Ro Bwy
theorem Bwz:CD Try.prog B5g:=Ak Abk Bg9
def Yq:A:=.v (.bool (true))
def Yp:Objs:=[]
def Vj:List Prop:=[]
theorem Bdz:Eo (Au B5g L0) 1040 25 [] 0 []=some (1,Yq,0,Yp,Vj):=by kernel_rfl
theorem Bkc (hp:∀p∈Vj,p):CallOk Try.prog 25 [] 0 [] 1 (Yq) 0 (Yp):=Ax (Ap Bwz Av) (Bdz) hp
def Asr:List A→Nat→Objs→Option AV:=A7 [] 0 Yq Yp Vj
theorem A7j:ET Try.prog 25 Asr:=Aq (ks:=[]) Bkc
end Go.Proofs.Yteebobbhhgmeiaa
namespace Go.Proofs.Yteebobbhhgmeiaa
open Go.RowKit
theorem Bh7 {X:Type} (mk:Nat→Int→X) (len:Nat) (step:Nat→Int→Int) (P:Nat→Prop) (m c:Int) (s:Bool) (next:X→X) (goes:X→Cnd) (ps:X→List Prop)
  (hs:∀i n,i <len→0≤n→0≤step i n∧(step i n≤m→n+c≤step i n∧P i)) (hc:0≤c)
  (hg:∀i n,i≤len→Bo (goes (mk i n))=(decide (i <len)&&(s||decide (n≤m)))) (hn:∀i n,i <len→0≤n→next (mk i n)=mk (i+1) (step i n))
  (hp:∀i n,i≤len→0≤n→∀p∈ps (mk i n),p):
  ∀(f i:Nat) (n:Int),i≤len→len≤i+f→0≤n→
  AB next goes ps f (mk i n)∧∃k n',A5 next goes f (mk i n)=mk k n'∧0≤n'∧(n'≤m→n+c*((len:Int) - (i:Int))≤n'∧∀j,i≤j→j <len→P j)
 |0,i,n,hi,hf,h0=>by
  obtain rfl:i=len:=by omega
  have hb:=hg i n (Nat.le_refl _)
  rw[decide_eq_false (Nat.lt_irrefl _),Bool.false_and] at hb
  exact⟨⟨hp i n hi h0,hb⟩,i,n,rfl,h0,fun _=>⟨by rw[Int.sub_self,Int.mul_zero];omega,fun j h1 h2=>by omega⟩⟩
 | f+1,i,n,hi,hf,h0=>by
  have hb:=hg i n hi
  cases hv:Bo (goes (mk i n)) with
  | false=>
   have e:A5 next goes (f+1) (mk i n)=mk i n:=by
    show(bif Bo (goes (mk i n)) then _ else mk i n)=_
    rw[hv];rfl
   rw[e]
   refine⟨⟨hp i n hi h0,fun h=>by rw[hv] at h;cases h⟩,i,n,rfl,h0,fun hm=>?_⟩
   rw[hv] at hb
   rw[decide_eq_true hm,Bool.or_true,Bool.and_true] at hb
   have:¬i <len:=of_decide_eq_false hb.symm
   obtain rfl:i=len:=by omega
   exact⟨by rw[Int.sub_self,Int.mul_zero];omega,fun j h1 h2=>by omega⟩
  | true=>
   rw[hv] at hb
   have hi':i <len:=by
    cases h:decide (i <len) with
    |true=>exact of_decide_eq_true h
    |false=>rw[h] at hb;cases hb
   obtain⟨s1,s2⟩:=hs i n hi' h0
   have e:A5 next goes (f+1) (mk i n)=A5 next goes f (mk (i+1) (step i n)):=by
    show(bif Bo (goes (mk i n)) then A5 next goes f (next (mk i n)) else mk i n)=_
    rw[hv,hn i n hi' h0];rfl
   obtain⟨g1,k,n',g2,g3,g4⟩:=Bh7 mk len step P m c s next goes ps hs hc hg hn hp f (i+1) (step i n) hi' (by omega) s1
   rw[e]
   refine⟨⟨hp i n hi h0,fun _=>by rw[hn i n hi' h0];exact g1⟩,k,n',g2,g3,fun hm=>?_⟩
   obtain⟨a1,a2⟩:=g4 hm
   have hpos:0≤c*((len:Int) - ((i+1:Nat):Int)):=Int.mul_nonneg hc (by omega)
   obtain⟨b1,b2⟩:=s2 (by omega)
   have hd:c*((len:Int) - (i:Int))=c*((len:Int) - ((i+1:Nat):Int))+c:=by
    rw[show((len:Int) - (i:Int))=((len:Int) - ((i+1:Nat):Int))+1 by omega,Int.mul_add,Int.mul_one]
   refine⟨by rw[hd];omega,fun j h1 h2=>?_⟩
   by_cases e:j=i
   ·subst e;exact b2
   ·exact a2 j (by omega) h2
theorem Xs {X:Type} (mk:Nat→Int→X) (len:Nat) (step:Nat→Int→Int) (P:Nat→Prop) (m c:Int) (s:Bool) (next:X→X) (goes:X→Cnd) (ps:X→List Prop) (f:Nat) (x:X) (n0:Int) (hx:x=mk 0 n0) (hf:len≤f) (h0:0≤n0)
  (hs:∀i n,i <len→0≤n→0≤step i n∧(step i n≤m→n+c≤step i n∧P i)) (hc:0≤c)
  (hg:∀i n,i≤len→Bo (goes (mk i n))=(decide (i <len)&&(s||decide (n≤m)))) (hn:∀i n,i <len→0≤n→next (mk i n)=mk (i+1) (step i n))
  (hp:∀i n,i≤len→0≤n→∀p∈ps (mk i n),p):
  AB next goes ps f x∧∃k n',A5 next goes f x=mk k n'∧0≤n'∧(n'≤m→n0+c*(len:Int)≤n'∧∀j,j <len→P j):=by
 subst hx
 obtain⟨h1,k,n',h2,h3,h4⟩:=Bh7 mk len step P m c s next goes ps hs hc hg hn hp f 0 n0 (Nat.zero_le _) (by omega) h0
 refine⟨h1,k,n',h2,h3,fun h=>?_⟩
 obtain⟨h5,h6⟩:=h4 h
 rw[show((len:Int) - ((0:Nat):Int))=(len:Int) by omega] at h5
 exact⟨h5,fun j hj=>h6 j (Nat.zero_le _) hj⟩
theorem Tj {α:Type} {l:List α} {d:α} {P:α→Prop} (h:∀j,j <l.length→P (l.getD j d)):∀x∈l,P x:=fun x hx=>by
 obtain⟨j,hj,rfl⟩:=List.mem_iff_getElem.1 hx
 have:=h j hj
 rw[List.getD_eq_getElem?_getD,List.getElem?_eq_getElem hj] at this
 exact this
end Go.Proofs.Yteebobbhhgmeiaa
namespace Go.Proofs.Yteebobbhhgmeiaa
open Go.RowKit
noncomputable def B8t:=AU 111 Apt Cl
theorem B2q:CD Try.prog B8t:=Ak Ata Bhm
noncomputable def Anp:=AU 25 Asr B8t
theorem UR:CD Try.prog Anp:=Ak A7j B2q
abbrev Cv:Type:=(List TChange)×Int×Int×Int
def Mi (x:Cv):St:=⟨122,0,[(1,.sl .change x.1),(7,.v (.int .i64 x.2.1)),(8,.v (.int .i64 x.2.2.1)),(9,.v (.int .i64 x.2.2.2))],[]⟩
def OA:St→Option Cv
 |⟨122,0,[(1,.sl .change z0),(7,.v (.int .i64 z1)),(8,.v (.int .i64 z2)),(9,.v (.int .i64 z3))],[]⟩=>some (z0,z1,z2,z3)
 |_=>none
theorem Aka:∀s x,OA s=some x→s=Mi x:=fun s x h=>by
 unfold OA at h
 split at h
 ·cases h;rfl
 ·cases h
def Yg:Co:=⟨0,0,[1,7,8,9],[],[],[],[7],[]⟩
def A09:CR:=⟨[],[],[1,7,8,9],[]⟩
def Br (a0:List TChange) (a1:Int) (a2:Int) (a3:Int):Bool:=!!(decide (a3 <(↑(a0.getD a2.toNat (Ab TC.change)).5.length:Int))&&decide (a1≤(6000:Int)))
def M9 (a0:List TChange) (a1:Int) (a2:Int) (a3:Int):Int:=Ar (Ar (Ar a1 (10:Int) (6000:Int)) (↑((a0.getD a2.toNat (Ab TC.change)).5.getD a3.toNat (Ab TC.write)).1.size:Int) (6000:Int)) (↑((a0.getD a2.toNat (Ab TC.change)).5.getD a3.toNat (Ab TC.write)).4.size:Int) (6000:Int)
def Aj9 (a0:List TChange) (a1:Int) (a2:Int) (a3:Int):Bool:=!(decide (a3 <(↑(a0.getD a2.toNat (Ab TC.change)).5.length:Int))&&decide (a1≤(6000:Int)))
def Eu (x:Cv):Cv:=(x.1,M9 x.1 x.2.1 x.2.2.1 x.2.2.2,x.2.2.1,IntKind.i64.wrap (x.2.2.2+(1:Int)))
def Et (x:Cv):Cnd:=some ((Br x.1 x.2.1 x.2.2.1 x.2.2.2))
def TS (x:Cv):List Prop:=[((0:Int)≤x.2.2.1∧x.2.2.1 <(↑x.1.length:Int)),((Br x.1 x.2.1 x.2.2.1 x.2.2.2)=true→(0:Int)≤x.2.2.1∧x.2.2.1 <(↑x.1.length:Int)),((Br x.1 x.2.1 x.2.2.1 x.2.2.2)=true→(0:Int)≤x.2.2.2∧x.2.2.2 <(↑(x.1.getD x.2.2.1.toNat (Ab TC.change)).5.length:Int)),((Br x.1 x.2.1 x.2.2.1 x.2.2.2)=true→(0:Int)≤x.2.2.1∧x.2.2.1 <(↑x.1.length:Int)),((Br x.1 x.2.1 x.2.2.1 x.2.2.2)=true→(0:Int)≤x.2.2.2∧x.2.2.2 <(↑(x.1.getD x.2.2.1.toNat (Ab TC.change)).5.length:Int))]
def HM (x:Cv):List Prop:=[((0:Int)≤x.2.2.1∧x.2.2.1 <(↑x.1.length:Int)),((Br x.1 x.2.1 x.2.2.1 x.2.2.2)=true→(0:Int)≤x.2.2.1∧x.2.2.1 <(↑x.1.length:Int)),((Br x.1 x.2.1 x.2.2.1 x.2.2.2)=true→(0:Int)≤x.2.2.2∧x.2.2.2 <(↑(x.1.getD x.2.2.1.toNat (Ab TC.change)).5.length:Int))]
def Rx (x:Cv):Bd:=[(some 2,some (Aj9 x.1 x.2.1 x.2.2.1 x.2.2.2),⟨122,0,[(7,.v (.int .i64 x.2.1))],[]⟩)]
def FV (x:Cv):Nat:=((↑(x.1.getD x.2.2.1.toNat (Ab TC.change)).5.length:Int) - x.2.2.2).toNat
def GU (x:Cv):Cv:=A5 Eu Et (FV x) x
theorem Av5 (a0:List TChange) (a1:Int) (a2:Int) (a3:Int):Bk (Au Anp L0) 9 (Ae Try.prog 45 2) Yg (Mi (a0,a1,a2,a3))=some (TS (a0,a1,a2,a3),Rx (a0,a1,a2,a3),Et (a0,a1,a2,a3),Mi (Eu (a0,a1,a2,a3))):=by kernel_rfl
theorem Av6 (a0:List TChange) (a1:Int) (a2:Int) (a3:Int) (hp:∀p∈HM (a0,a1,a2,a3),p):∀p∈TS (a0,a1,a2,a3),p:=by
 have n0:=N0 hp
 have n1:((Br a0 a1 a2 a3)=true→(0:Int)≤a2∧a2 <(↑a0.length:Int)):=N0 (N1 hp)
 have n2:((Br a0 a1 a2 a3)=true→(0:Int)≤a3∧a3 <(↑(a0.getD a2.toNat (Ab TC.change)).5.length:Int)):=N0 (N1 (N1 hp))
 exact(Aa n0 (Aa n1 (Aa n2 (Aa n1 (Aa n2 Ad)))))
noncomputable def TT:=GH (Au Anp L0) (Ae Try.prog 45 2) Yg A09 OA FV Eu Et HM Rx
theorem Aot:∀s b ps outs,TT s=some (b,ps,outs)→Wf s ⟨ps,outs,none⟩∧Be (Au C0 L0) b s ps outs:=
 A6 (T:=Mi) UR Av (u:=9) (by kernel_rfl) (by decide) (fun⟨a0,a1,a2,a3⟩=>Av5 a0 a1 a2 a3) (fun⟨a0,a1,a2,a3⟩=>Av6 a0 a1 a2 a3) Aka (fun _=>AI (n:=122) rfl) fun _ _=>rfl
noncomputable def Mh:=CY 2 TT L0
theorem TR:Gf Mh:=AP Aot Av
abbrev Cu:Type:=(List TChange)×Int×Int
def Mg (x:Cu):St:=⟨122,0,[(1,.sl .change x.1),(7,.v (.int .i64 x.2.1)),(8,.v (.int .i64 x.2.2))],[]⟩
def Oz:St→Option Cu
 |⟨122,0,[(1,.sl .change z0),(7,.v (.int .i64 z1)),(8,.v (.int .i64 z2))],[]⟩=>some (z0,z1,z2)
 |_=>none
theorem Aj8:∀s x,Oz s=some x→s=Mg x:=fun s x h=>by
 unfold Oz at h
 split at h
 ·cases h;rfl
 ·cases h
def Yf:Co:=⟨0,0,[1,7,8],[],[],[],[7],[]⟩
def A08:CR:=⟨[],[],[1,7,8],[]⟩
def DD (a0:List TChange) (a1:Int) (a2:Int):Bool:=!!(decide (a2 <(↑a0.length:Int))&&decide (a1≤(6000:Int)))
def Kz (a0:List TChange) (a1:Int) (a2:Int):Int:=(GU (a0,Ar a1 (10:Int) (6000:Int),a2,(0:Int))).snd.fst
def Aor (a0:List TChange) (a1:Int) (a2:Int):Bool:=!(decide (a2 <(↑a0.length:Int))&&decide (a1≤(6000:Int)))
def Es (x:Cu):Cu:=(x.1,Kz x.1 x.2.1 x.2.2,IntKind.i64.wrap (x.2.2+(1:Int)))
def Er (x:Cu):Cnd:=some ((DD x.1 x.2.1 x.2.2))
def TP (x:Cu):List Prop:=[((DD x.1 x.2.1 x.2.2)=true→Ae Try.prog (45:FuncId) (2:Nat)=Ae Try.prog (45:FuncId) (2:Nat)),((DD x.1 x.2.1 x.2.2)=true→AB Eu Et HM (FV (x.1,Ar x.2.1 (10:Int) (6000:Int),x.2.2,(0:Int))) (x.1,Ar x.2.1 (10:Int) (6000:Int),x.2.2,(0:Int)))]
def HK (x:Cu):List Prop:=[((DD x.1 x.2.1 x.2.2)=true→AB Eu Et HM (FV (x.1,Ar x.2.1 (10:Int) (6000:Int),x.2.2,(0:Int))) (x.1,Ar x.2.1 (10:Int) (6000:Int),x.2.2,(0:Int)))]
def Rw (x:Cu):Bd:=[(some 0,some (Aor x.1 x.2.1 x.2.2),⟨122,0,[(7,.v (.int .i64 x.2.1))],[]⟩)]
def FU (x:Cu):Nat:=((↑x.1.length:Int) - x.2.2).toNat
def Dp (x:Cu):Cu:=A5 Es Er (FU x) x
theorem Av3 (a0:List TChange) (a1:Int) (a2:Int):Bk (Au Anp Mh) 9 (Ae Try.prog 45 0) Yf (Mg (a0,a1,a2))=some (TP (a0,a1,a2),Rw (a0,a1,a2),Er (a0,a1,a2),Mg (Es (a0,a1,a2))):=by kernel_rfl
theorem Av4 (a0:List TChange) (a1:Int) (a2:Int) (hp:∀p∈HK (a0,a1,a2),p):∀p∈TP (a0,a1,a2),p:=by
 have n0:((DD a0 a1 a2)=true→Ae Try.prog (45:FuncId) (2:Nat)=Ae Try.prog (45:FuncId) (2:Nat)):=by intros;rfl
 have n1:=N0 hp
 exact(Aa n0 (Aa n1 Ad))
noncomputable def TQ:=GH (Au Anp Mh) (Ae Try.prog 45 0) Yf A08 Oz FU Es Er HK Rw
theorem Aos:∀s b ps outs,TQ s=some (b,ps,outs)→Wf s ⟨ps,outs,none⟩∧Be (Au C0 L0) b s ps outs:=
 A6 (T:=Mg) UR TR (u:=9) (by kernel_rfl) (by decide) (fun⟨a0,a1,a2⟩=>Av3 a0 a1 a2) (fun⟨a0,a1,a2⟩=>Av4 a0 a1 a2) Aj8 (fun _=>AI (n:=122) rfl) fun _ _=>rfl
noncomputable def Mf:=CY 0 TQ Mh
theorem TO:Gf Mf:=AP Aos TR
abbrev Cy:Type:=Int×(List TRow)×Int×Int
def Mn (x:Cy):St:=⟨122,0,[(7,.v (.int .i64 x.1)),(11,.sl .row x.2.1),(12,.v (.int .i64 x.2.2.1)),(13,.v (.int .i64 x.2.2.2))],[]⟩
def OD:St→Option Cy
 |⟨122,0,[(7,.v (.int .i64 z0)),(11,.sl .row z1),(12,.v (.int .i64 z2)),(13,.v (.int .i64 z3))],[]⟩=>some (z0,z1,z2,z3)
 |_=>none
theorem Akd:∀s x,OD s=some x→s=Mn x:=fun s x h=>by
 unfold OD at h
 split at h
 ·cases h;rfl
 ·cases h
def Yk:Co:=⟨0,0,[7,11,12,13],[],[],[],[7],[]⟩
def A1c:CR:=⟨[],[],[7,11,12,13],[]⟩
def FX (a0:Int) (a1:List TRow) (a2:Int) (a3:Int):Bool:=!!(decide (a3 <(↑(a1.getD a2.toNat (Ab TC.row)).2.length:Int))&&decide (a0≤(6000:Int)))
def Nb (a0:Int) (a1:List TRow) (a2:Int) (a3:Int):Int:=Ar (Ar a0 (10:Int) (6000:Int)) (↑((a1.getD a2.toNat (Ab TC.row)).2.getD a3.toNat (Ab TC.cell)).4.size:Int) (6000:Int)
def Aoy (a0:Int) (a1:List TRow) (a2:Int) (a3:Int):Bool:=!(decide (a3 <(↑(a1.getD a2.toNat (Ab TC.row)).2.length:Int))&&decide (a0≤(6000:Int)))
def DH (x:Cy):Cy:=(Nb x.1 x.2.1 x.2.2.1 x.2.2.2,x.2.1,x.2.2.1,IntKind.i64.wrap (x.2.2.2+(1:Int)))
def DG (x:Cy):Cnd:=some ((FX x.1 x.2.1 x.2.2.1 x.2.2.2))
def Nc (x:Cy):List Prop:=[((0:Int)≤x.2.2.1∧x.2.2.1 <(↑x.2.1.length:Int)),((FX x.1 x.2.1 x.2.2.1 x.2.2.2)=true→(0:Int)≤x.2.2.1∧x.2.2.1 <(↑x.2.1.length:Int)),((FX x.1 x.2.1 x.2.2.1 x.2.2.2)=true→(0:Int)≤x.2.2.2∧x.2.2.2 <(↑(x.2.1.getD x.2.2.1.toNat (Ab TC.row)).2.length:Int))]
abbrev Gi:Cy→List Prop:=Nc
def RA (x:Cy):Bd:=[(some 8,some (Aoy x.1 x.2.1 x.2.2.1 x.2.2.2),⟨122,0,[(7,.v (.int .i64 x.1))],[]⟩)]
def Ey (x:Cy):Nat:=((↑(x.2.1.getD x.2.2.1.toNat (Ab TC.row)).2.length:Int) - x.2.2.2).toNat
def GW (x:Cy):Cy:=A5 DH DG (Ey x) x
theorem Awb (a0:Int) (a1:List TRow) (a2:Int) (a3:Int):Bk (Au Anp Mf) 9 (Ae Try.prog 45 8) Yk (Mn (a0,a1,a2,a3))=some (Nc (a0,a1,a2,a3),RA (a0,a1,a2,a3),DG (a0,a1,a2,a3),Mn (DH (a0,a1,a2,a3))):=by kernel_rfl
theorem Awc (a0:Int) (a1:List TRow) (a2:Int) (a3:Int) (hp:∀p∈Gi (a0,a1,a2,a3),p):∀p∈Nc (a0,a1,a2,a3),p:=hp
noncomputable def T0:=GH (Au Anp Mf) (Ae Try.prog 45 8) Yk A1c OD Ey DH DG Gi RA
theorem Aoz:∀s b ps outs,T0 s=some (b,ps,outs)→Wf s ⟨ps,outs,none⟩∧Be (Au C0 L0) b s ps outs:=
 A6 (T:=Mn) UR TO (u:=9) (by kernel_rfl) (by decide) (fun⟨a0,a1,a2,a3⟩=>Awb a0 a1 a2 a3) (fun⟨a0,a1,a2,a3⟩=>Awc a0 a1 a2 a3) Akd (fun _=>AI (n:=122) rfl) fun _ _=>rfl
noncomputable def Mm:=CY 8 T0 Mf
theorem TZ:Gf Mm:=AP Aoz TO
abbrev Cx:Type:=Int×(List TRow)×Int
def Ml (x:Cx):St:=⟨122,0,[(7,.v (.int .i64 x.1)),(11,.sl .row x.2.1),(12,.v (.int .i64 x.2.2))],[]⟩
def OC:St→Option Cx
 |⟨122,0,[(7,.v (.int .i64 z0)),(11,.sl .row z1),(12,.v (.int .i64 z2))],[]⟩=>some (z0,z1,z2)
 |_=>none
theorem Akc:∀s x,OC s=some x→s=Ml x:=fun s x h=>by
 unfold OC at h
 split at h
 ·cases h;rfl
 ·cases h
def Yj:Co:=⟨0,0,[7,11,12],[],[],[],[7],[]⟩
def A1b:CR:=⟨[],[],[7,11,12],[]⟩
def BX (a0:Int) (a1:List TRow) (a2:Int):Bool:=!!(decide (a2 <(↑a1.length:Int))&&decide (a0≤(6000:Int)))
def KC (a0:Int) (a1:List TRow) (a2:Int):Int:=(GW (Ar (Ar a0 (10:Int) (6000:Int)) (↑(a1.getD a2.toNat (Ab TC.row)).1.size:Int) (6000:Int),a1,a2,(0:Int))).fst
def Aow (a0:Int) (a1:List TRow) (a2:Int):Bool:=!(decide (a2 <(↑a1.length:Int))&&decide (a0≤(6000:Int)))
def DF (x:Cx):Cx:=(KC x.1 x.2.1 x.2.2,x.2.1,IntKind.i64.wrap (x.2.2+(1:Int)))
def DE (x:Cx):Cnd:=some ((BX x.1 x.2.1 x.2.2))
def TX (x:Cx):List Prop:=[((BX x.1 x.2.1 x.2.2)=true→(0:Int)≤x.2.2∧x.2.2 <(↑x.2.1.length:Int)),((BX x.1 x.2.1 x.2.2)=true→Ae Try.prog (45:FuncId) (8:Nat)=Ae Try.prog (45:FuncId) (8:Nat)),((BX x.1 x.2.1 x.2.2)=true→AB DH DG Gi (Ey (Ar (Ar x.1 (10:Int) (6000:Int)) (↑(x.2.1.getD x.2.2.toNat (Ab TC.row)).1.size:Int) (6000:Int),x.2.1,x.2.2,(0:Int))) (Ar (Ar x.1 (10:Int) (6000:Int)) (↑(x.2.1.getD x.2.2.toNat (Ab TC.row)).1.size:Int) (6000:Int),x.2.1,x.2.2,(0:Int)))]
def Gh (x:Cx):List Prop:=[((BX x.1 x.2.1 x.2.2)=true→(0:Int)≤x.2.2∧x.2.2 <(↑x.2.1.length:Int)),((BX x.1 x.2.1 x.2.2)=true→AB DH DG Gi (Ey (Ar (Ar x.1 (10:Int) (6000:Int)) (↑(x.2.1.getD x.2.2.toNat (Ab TC.row)).1.size:Int) (6000:Int),x.2.1,x.2.2,(0:Int))) (Ar (Ar x.1 (10:Int) (6000:Int)) (↑(x.2.1.getD x.2.2.toNat (Ab TC.row)).1.size:Int) (6000:Int),x.2.1,x.2.2,(0:Int)))]
def Rz (x:Cx):Bd:=[(some 6,some (Aow x.1 x.2.1 x.2.2),⟨122,0,[(7,.v (.int .i64 x.1))],[]⟩)]
def Ex (x:Cx):Nat:=((↑x.2.1.length:Int) - x.2.2).toNat
def GV (x:Cx):Cx:=A5 DF DE (Ex x) x
theorem Av9 (a0:Int) (a1:List TRow) (a2:Int):Bk (Au Anp Mm) 9 (Ae Try.prog 45 6) Yj (Ml (a0,a1,a2))=some (TX (a0,a1,a2),Rz (a0,a1,a2),DE (a0,a1,a2),Ml (DF (a0,a1,a2))):=by kernel_rfl
theorem Awa (a0:Int) (a1:List TRow) (a2:Int) (hp:∀p∈Gh (a0,a1,a2),p):∀p∈TX (a0,a1,a2),p:=by
 have n0:=N0 hp
 have n1:((BX a0 a1 a2)=true→Ae Try.prog (45:FuncId) (8:Nat)=Ae Try.prog (45:FuncId) (8:Nat)):=by intros;rfl
 have n2:=N0 (N1 hp)
 exact(Aa n0 (Aa n1 (Aa n2 Ad)))
noncomputable def TY:=GH (Au Anp Mm) (Ae Try.prog 45 6) Yj A1b OC Ex DF DE Gh Rz
theorem Aox:∀s b ps outs,TY s=some (b,ps,outs)→Wf s ⟨ps,outs,none⟩∧Be (Au C0 L0) b s ps outs:=
 A6 (T:=Ml) UR TZ (u:=9) (by kernel_rfl) (by decide) (fun⟨a0,a1,a2⟩=>Av9 a0 a1 a2) (fun⟨a0,a1,a2⟩=>Awa a0 a1 a2) Akc (fun _=>AI (n:=122) rfl) fun _ _=>rfl
noncomputable def Mk:=CY 6 TY Mm
theorem TW:Gf Mk:=AP Aox TZ
abbrev Cw:Type:=Int×(List (List TRow))×Int×Int
def Mj (x:Cw):St:=⟨122,0,[(7,.v (.int .i64 x.1)),(67,.sl .rows x.2.1),(68,.v (.int .i64 x.2.2.1)),(69,.v (.int .i64 x.2.2.2))],[]⟩
def OB:St→Option Cw
 |⟨122,0,[(7,.v (.int .i64 z0)),(67,.sl .rows z1),(68,.v (.int .i64 z2)),(69,.v (.int .i64 z3))],[]⟩=>some (z0,z1,z2,z3)
 |_=>none
theorem Akb:∀s x,OB s=some x→s=Mj x:=fun s x h=>by
 unfold OB at h
 split at h
 ·cases h;rfl
 ·cases h
def Yi:Co:=⟨0,0,[7,67,68,69],[],[],[],[7],[]⟩
def A1a:CR:=⟨[],[],[7,67,68,69],[]⟩
def KA (a0:Int) (a1:List (List TRow)) (_a2:Int) (a3:Int):Int:=(GV (a0,a1.getD a3.toNat (Ab TC.rows),(0:Int))).fst
def Ew (x:Cw):Cw:=(KA x.1 x.2.1 x.2.2.1 x.2.2.2,x.2.1,x.2.2.1,IntKind.i64.wrap (x.2.2.2+(1:Int)))
def Ev (x:Cw):Cnd:=some (!!decide (x.2.2.2 <x.2.2.1))
def TU (x:Cw):List Prop:=[((!!decide (x.2.2.2 <x.2.2.1))=true→(0:Int)≤x.2.2.2∧x.2.2.2 <(↑x.2.1.length:Int)),((!!decide (x.2.2.2 <x.2.2.1))=true→Ae Try.prog (45:FuncId) (6:Nat)=Ae Try.prog (45:FuncId) (6:Nat)),((!!decide (x.2.2.2 <x.2.2.1))=true→AB DF DE Gh (Ex (x.1,x.2.1.getD x.2.2.2.toNat (Ab TC.rows),(0:Int))) (x.1,x.2.1.getD x.2.2.2.toNat (Ab TC.rows),(0:Int)))]
def HN (x:Cw):List Prop:=[((!!decide (x.2.2.2 <x.2.2.1))=true→(0:Int)≤x.2.2.2∧x.2.2.2 <(↑x.2.1.length:Int)),((!!decide (x.2.2.2 <x.2.2.1))=true→AB DF DE Gh (Ex (x.1,x.2.1.getD x.2.2.2.toNat (Ab TC.rows),(0:Int))) (x.1,x.2.1.getD x.2.2.2.toNat (Ab TC.rows),(0:Int)))]
def Ry (x:Cw):Bd:=[(some 4,some (!decide (x.2.2.2 <x.2.2.1)),⟨122,0,[(7,.v (.int .i64 x.1))],[]⟩)]
def FW (x:Cw):Nat:=(x.2.2.1 - x.2.2.2).toNat
def Na (x:Cw):Cw:=A5 Ew Ev (FW x) x
theorem Av7 (a0:Int) (a1:List (List TRow)) (a2:Int) (a3:Int):Bk (Au Anp Mk) 9 (Ae Try.prog 45 4) Yi (Mj (a0,a1,a2,a3))=some (TU (a0,a1,a2,a3),Ry (a0,a1,a2,a3),Ev (a0,a1,a2,a3),Mj (Ew (a0,a1,a2,a3))):=by kernel_rfl
theorem Av8 (a0:Int) (a1:List (List TRow)) (a2:Int) (a3:Int) (hp:∀p∈HN (a0,a1,a2,a3),p):∀p∈TU (a0,a1,a2,a3),p:=by
 have n0:=N0 hp
 have n1:((!!decide (a3 <a2))=true→Ae Try.prog (45:FuncId) (6:Nat)=Ae Try.prog (45:FuncId) (6:Nat)):=by intros;rfl
 have n2:=N0 (N1 hp)
 exact(Aa n0 (Aa n1 (Aa n2 Ad)))
noncomputable def TV:=GH (Au Anp Mk) (Ae Try.prog 45 4) Yi A1a OB FW Ew Ev HN Ry
theorem Aov:∀s b ps outs,TV s=some (b,ps,outs)→Wf s ⟨ps,outs,none⟩∧Be (Au C0 L0) b s ps outs:=
 A6 (T:=Mj) UR TW (u:=9) (by kernel_rfl) (by decide) (fun⟨a0,a1,a2,a3⟩=>Av7 a0 a1 a2 a3) (fun⟨a0,a1,a2,a3⟩=>Av8 a0 a1 a2 a3) Akb (fun _=>AI (n:=122) rfl) fun _ _=>rfl
noncomputable def Yh:=CY 4 TV Mk
theorem Aou:Gf Yh:=AP Aov TW
def Rv (a0:List TGroup) (a1:List TChange) (a2:List (List TRow)):Bool:=decide ((Na ((Dp (a1,Ar (0:Int) (↑a0.length:Int) (6000:Int),(0:Int))).snd.fst,a2,(↑a2.length:Int),(0:Int))).fst≤(6000:Int))
def Ask (a0:List TGroup) (a1:List TChange) (a2:List (List TRow)):A:=.v (.bool (Rv a0 a1 a2))
def Asj (_a0:List TGroup) (_a1:List TChange) (_a2:List (List TRow)):Objs:=[]
def Akf (a0:List TGroup) (a1:List TChange) (a2:List (List TRow)):List Prop:=[(AB Es Er HK (FU (a1,Ar (0:Int) (↑a0.length:Int) (6000:Int),(0:Int))) (a1,Ar (0:Int) (↑a0.length:Int) (6000:Int),(0:Int))),(AB Ew Ev HN (FW ((Dp (a1,Ar (0:Int) (↑a0.length:Int) (6000:Int),(0:Int))).snd.fst,a2,(↑a2.length:Int),(0:Int))) ((Dp (a1,Ar (0:Int) (↑a0.length:Int) (6000:Int),(0:Int))).snd.fst,a2,(↑a2.length:Int),(0:Int)))]
theorem Bdr (a0:List TGroup) (a1:List TChange) (a2:List (List TRow)):Eo (Au Anp Yh) 9 45 [.sl .group a0,.sl .change a1,.sl .rows a2] 0 []=some (1,Ask a0 a1 a2,0,Asj a0 a1 a2,[(Ae Try.prog (45:FuncId) (0:Nat)=Ae Try.prog (45:FuncId) (0:Nat)),(AB Es Er HK (FU (a1,Ar (0:Int) (↑a0.length:Int) (6000:Int),(0:Int))) (a1,Ar (0:Int) (↑a0.length:Int) (6000:Int),(0:Int))),(Ae Try.prog (45:FuncId) (4:Nat)=Ae Try.prog (45:FuncId) (4:Nat)),(AB Ew Ev HN (FW ((Dp (a1,Ar (0:Int) (↑a0.length:Int) (6000:Int),(0:Int))).snd.fst,a2,(↑a2.length:Int),(0:Int))) ((Dp (a1,Ar (0:Int) (↑a0.length:Int) (6000:Int),(0:Int))).snd.fst,a2,(↑a2.length:Int),(0:Int)))]):=by kernel_rfl
theorem Bj6 (a0:List TGroup) (a1:List TChange) (a2:List (List TRow)) (hp:∀p∈Akf a0 a1 a2,p):CallOk Try.prog 45 [.sl .group a0,.sl .change a1,.sl .rows a2] 0 [] 1 (Ask a0 a1 a2) 0 (Asj a0 a1 a2):=by
 have n1:=N0 hp
 have n3:=N0 (N1 hp)
 exact Ax (Ap UR Aou) (Bdr a0 a1 a2) (Aa rfl (Aa n1 (Aa rfl (Aa n3 Ad))))
def Akg (a0:List TGroup) (a1:List TChange) (a2:List (List TRow)):A:=.v (.bool (Rv a0 a1 a2))
def Ake (_a0:List TGroup) (_a1:List TChange) (_a2:List (List TRow)):Objs:=[]
def Aik (c:TChange):Prop:=Am c.writes.length∧∀w∈c.writes,Am w.key.size∧Am w.value.size
def Am9 (c:TChange):Prop:=c.writes.length≤6000∧∀w∈c.writes,w.key.size≤6000∧w.value.size≤6000
def Aci (a0:List TGroup) (a1:List TChange) (a2:List (List TRow)):List Prop:=[Am a0.length∧(Am a1.length∧∀c∈a1,Aik c)∧Am a2.length∧∀x∈a2,Am x.length∧∀r∈x,Xf r]
theorem Avo {n k:Int} (hn:0≤n) (hk:0≤k∧k≤9223372036854775807):0≤Ar n k 6000∧(Ar n k 6000≤6000→n+k≤Ar n k 6000∧n+k≤6000):=by
 obtain⟨h1,h2,h3⟩:=Azj (n:=n) (k:=k) (m:=6000) hn hk (by omega)
 exact⟨h2,fun h=>⟨by rw[h3 (h1 h)];omega,h1 h⟩⟩
theorem A7k (rows:List TRow) (i:Nat) (hi:i <rows.length) (n0:Int) (h0:0≤n0) (hl:Am (rows.getD i (Ab TC.row)).cells.length) (hw:∀c∈(rows.getD i (Ab TC.row)).cells,Am c.value.size):
  AB DH DG Gi (Ey (n0,rows,(i:Int),0)) (n0,rows,(i:Int),0)∧
  0≤(GW (n0,rows,(i:Int),0)).fst∧((GW (n0,rows,(i:Int),0)).fst≤6000→n0+10*((rows.getD i (Ab TC.row)).cells.length:Int)≤(GW (n0,rows,(i:Int),0)).fst∧∀c∈(rows.getD i (Ab TC.row)).cells,c.value.size≤6000):=by
 generalize hcs:(rows.getD i (Ab TC.row)).cells=cs at*
 have hcs2:(rows.getD i (Ab TC.row)).2=cs:=hcs
 have hgo:∀(k:Nat) (n:Int),FX n rows (i:Int) (k:Int)=(decide (k <cs.length)&&(false||decide (n≤6000))):=fun k n=>by
  unfold FX
  rw[Int.toNat_natCast,hcs2,nn,LY,Bool.false_or]
 unfold Am at hl
 obtain⟨h1,k,n',hx,h2,h3⟩:=Xs (fun k n=>((n,rows,(i:Int),(k:Int)):Cy)) cs.length (fun k n=>Ar (Ar n 10 6000) ((cs.getD k (Ab TC.cell)).4.size:Int) 6000) (fun k=>(cs.getD k (Ab TC.cell)).value.size≤6000) 6000 10 false DH DG Gi (Ey (n0,rows,(i:Int),0)) (n0,rows,(i:Int),0) n0 rfl
  (by show cs.length≤(((rows.getD ((i:Int)).toNat (Ab TC.row)).2.length:Int) - 0).toNat;rw[Int.toNat_natCast,hcs2];omega) h0
  (fun k n hk hn=>by
   obtain⟨a1,a2⟩:=Avo (k:=10) hn (by omega)
   obtain⟨b1,b2⟩:=Avo a1 (Aew (hw _ (getD_in cs (Ab TC.cell) k hk)))
   refine⟨b1,fun h=>?_⟩
   obtain⟨c1,c2⟩:=b2 h
   obtain⟨d1,d2⟩:=a2 (by omega)
   exact⟨by omega,by show(cs.getD k (Ab TC.cell)).4.size≤6000;omega⟩)
  (by omega)
  (fun k n _=>hgo k n)
  (fun k n hk _=>by
   show(Nb n rows (i:Int) (k:Int),rows,(i:Int),IntKind.i64.wrap ((k:Int)+1))=(_,rows,(i:Int),((k+1:Nat):Int))
   rw[DU (by omega)]
   unfold Nb
   rw[Int.toNat_natCast,Int.toNat_natCast,hcs2])
  (fun k n _ _=>Aa (by show(0:Int)≤(i:Int)∧(i:Int) <(rows.length:Int);omega) (Aa (fun _=>by show(0:Int)≤(i:Int)∧(i:Int) <(rows.length:Int);omega) (Aa (fun h=>by
   have h':FX n rows (i:Int) (k:Int)=true:=h
   rw[hgo,Bool.and_eq_true] at h'
   have:=of_decide_eq_true h'.1
   show(0:Int)≤(k:Int)∧(k:Int) <((rows.getD ((i:Int)).toNat (Ab TC.row)).2.length:Int)
   rw[Int.toNat_natCast,hcs2]
   omega) Ad)))
 have hr:GW (n0,rows,(i:Int),0)=(n',rows,(i:Int),(k:Int)):=hx
 rw[hr]
 exact⟨h1,h2,fun h=>⟨(h3 h).1,Tj (h3 h).2⟩⟩
theorem Bd1 (rows:List TRow) (n0:Int) (h0:0≤n0) (hl:Am rows.length) (hw:∀r∈rows,Xf r):
  AB DF DE Gh (Ex (n0,rows,0)) (n0,rows,0)∧
  0≤(GV (n0,rows,0)).fst∧((GV (n0,rows,0)).fst≤6000→n0+10*(rows.length:Int)≤(GV (n0,rows,0)).fst∧∀r∈rows,S6 6000 r):=by
 have hgo:∀(k:Nat) (n:Int),BX n rows (k:Int)=(decide (k <rows.length)&&(false||decide (n≤6000))):=fun k n=>by
  unfold BX
  rw[nn,LY,Bool.false_or]
 unfold Am at hl
 have hin:∀(i:Nat) (n:Int),i <rows.length→0≤n→_:=fun i n hi hn=>
  A7k rows i hi (Ar (Ar n 10 6000) ((rows.getD i (Ab TC.row)).1.size:Int) 6000) (Avo (Avo hn (by omega)).1 (Aew (hw _ (getD_in rows (Ab TC.row) i hi)).1)).1 (hw _ (getD_in rows (Ab TC.row) i hi)).2.1 (hw _ (getD_in rows (Ab TC.row) i hi)).2.2
 obtain⟨h1,k,n',hx,h2,h3⟩:=Xs (fun k n=>((n,rows,(k:Int)):Cx)) rows.length (fun k n=>KC n rows (k:Int)) (fun k=>S6 6000 (rows.getD k (Ab TC.row))) 6000 10 false DF DE Gh (Ex (n0,rows,0)) (n0,rows,0) n0 rfl
  (by show rows.length≤((rows.length:Int) - 0).toNat;omega) h0
  (fun k n hk hn=>by
   obtain⟨_,g2,g3⟩:=hin k n hk hn
   obtain⟨a1,a2⟩:=Avo (k:=10) hn (by omega)
   obtain⟨b1,b2⟩:=Avo a1 (Aew (hw _ (getD_in rows (Ab TC.row) k hk)).1)
   unfold KC
   rw[Int.toNat_natCast]
   refine⟨g2,fun h=>?_⟩
   obtain⟨c1,c2⟩:=g3 h
   have h':(GW (Ar (Ar n 10 6000) ((rows.getD k (Ab TC.row)).1.size:Int) 6000,rows,(k:Int),0)).fst≤6000:=h
   obtain⟨d1,d2⟩:=b2 (by omega)
   obtain⟨e1,e2⟩:=a2 (by omega)
   exact⟨by omega,by show(rows.getD k (Ab TC.row)).1.size≤6000;omega,by omega,c2⟩)
  (by omega)
  (fun k n _=>hgo k n)
  (fun k n hk _=>by
   show(KC n rows (k:Int),rows,IntKind.i64.wrap ((k:Int)+1))=(_,rows,((k+1:Nat):Int))
   rw[DU (by omega)])
  (fun k n hk hn=>by
   have hlt:BX n rows (k:Int)=true→k <rows.length:=fun h=>by
    rw[hgo,Bool.and_eq_true] at h
    exact of_decide_eq_true h.1
   refine Aa (fun h=>?_) (Aa (fun h=>?_) Ad)
   ·have:=hlt h
    show(0:Int)≤(k:Int)∧(k:Int) <(rows.length:Int)
    omega
   ·have:=(hin k n (hlt h) hn).1
    have e:((k:Int)).toNat=k:=Int.toNat_natCast k
    show AB DH DG Gi (Ey (Ar (Ar n 10 6000) ((rows.getD ((k:Int)).toNat (Ab TC.row)).1.size:Int) 6000,rows,(k:Int),0)) (Ar (Ar n 10 6000) ((rows.getD ((k:Int)).toNat (Ab TC.row)).1.size:Int) 6000,rows,(k:Int),0)
    rw[e]
    exact this)
 have hr:GV (n0,rows,0)=(n',rows,(k:Int)):=hx
 rw[hr]
 exact⟨h1,h2,fun h=>⟨(h3 h).1,Tj (h3 h).2⟩⟩
theorem Bkh (xs:List (List TRow)) (n0:Int) (h0:0≤n0) (hl:Am xs.length) (hw:∀x∈xs,Am x.length∧∀r∈x,Xf r):
  AB Ew Ev HN (FW (n0,xs,(xs.length:Int),0)) (n0,xs,(xs.length:Int),0)∧
  ((Na (n0,xs,(xs.length:Int),0)).fst≤6000→n0≤6000∧∀x∈xs,x.length≤6000∧∀r∈x,S6 6000 r):=by
 unfold Am at hl
 have hin:∀(i:Nat) (n:Int),i <xs.length→0≤n→_:=fun i n hi hn=>
  Bd1 (xs.getD i (Ab TC.rows)) n hn (hw _ (getD_in xs (Ab TC.rows) i hi)).1 (hw _ (getD_in xs (Ab TC.rows) i hi)).2
 obtain⟨h1,k,n',hx,h2,h3⟩:=Xs (fun k n=>((n,xs,(xs.length:Int),(k:Int)):Cw)) xs.length (fun k n=>KA n xs (xs.length:Int) (k:Int)) (fun k=>(xs.getD k (Ab TC.rows)).length≤6000∧∀r∈xs.getD k (Ab TC.rows),S6 6000 r) 6000 0 true Ew Ev HN (FW (n0,xs,(xs.length:Int),0)) (n0,xs,(xs.length:Int),0) n0 rfl
  (by show xs.length≤((xs.length:Int) - 0).toNat;omega) h0
  (fun k n hk hn=>by
   obtain⟨_,g2,g3⟩:=hin k n hk hn
   unfold KA
   rw[Int.toNat_natCast]
   refine⟨g2,fun h=>?_⟩
   obtain⟨c1,c2⟩:=g3 h
   have h':(GV (n,xs.getD k (Ab TC.rows),0)).fst≤6000:=h
   exact⟨by omega,by omega,c2⟩)
  (Int.le_refl _)
  (fun k n _=>by
   show(!!decide ((k:Int) <(xs.length:Int)))=_
   rw[nn,LY,Bool.true_or,Bool.and_true])
  (fun k n hk _=>by
   show(KA n xs (xs.length:Int) (k:Int),xs,(xs.length:Int),IntKind.i64.wrap ((k:Int)+1))=(_,xs,(xs.length:Int),((k+1:Nat):Int))
   rw[DU (by omega)])
  (fun k n hk hn=>by
   have hlt:(!!decide ((k:Int) <(xs.length:Int)))=true→k <xs.length:=fun h=>by
    rw[nn] at h
    have:=of_decide_eq_true h
    omega
   refine Aa (fun h=>?_) (Aa (fun h=>?_) Ad)
   ·have:=hlt h
    show(0:Int)≤(k:Int)∧(k:Int) <(xs.length:Int)
    omega
   ·have:=(hin k n (hlt h) hn).1
    have e:((k:Int)).toNat=k:=Int.toNat_natCast k
    show AB DF DE Gh (Ex (n,xs.getD ((k:Int)).toNat (Ab TC.rows),0)) (n,xs.getD ((k:Int)).toNat (Ab TC.rows),0)
    rw[e]
    exact this)
 have hr:Na (n0,xs,(xs.length:Int),0)=(n',xs,(xs.length:Int),(k:Int)):=hx
 rw[hr]
 exact⟨h1,fun h=>⟨by have h':n'≤6000:=h;have:=(h3 h).1;omega,Tj (h3 h).2⟩⟩
theorem A1j (cs:List TChange) (i:Nat) (hi:i <cs.length) (n0:Int) (h0:0≤n0) (hw:Aik (cs.getD i (Ab TC.change))):
  AB Eu Et HM (FV (cs,n0,(i:Int),0)) (cs,n0,(i:Int),0)∧
  0≤(GU (cs,n0,(i:Int),0)).snd.fst∧((GU (cs,n0,(i:Int),0)).snd.fst≤6000→n0≤(GU (cs,n0,(i:Int),0)).snd.fst∧Am9 (cs.getD i (Ab TC.change))):=by
 obtain⟨hl,hw⟩:=hw
 unfold Am9
 generalize hcs:(cs.getD i (Ab TC.change)).writes=ws at*
 have hcs2:(cs.getD i (Ab TC.change)).5=ws:=hcs
 have hgo:∀(k:Nat) (n:Int),Br cs n (i:Int) (k:Int)=(decide (k <ws.length)&&(false||decide (n≤6000))):=fun k n=>by
  unfold Br
  rw[Int.toNat_natCast,hcs2,nn,LY,Bool.false_or]
 unfold Am at hl
 obtain⟨h1,k,n',hx,h2,h3⟩:=Xs (fun k n=>((cs,n,(i:Int),(k:Int)):Cv)) ws.length (fun k n=>Ar (Ar (Ar n 10 6000) ((ws.getD k (Ab TC.write)).1.size:Int) 6000) ((ws.getD k (Ab TC.write)).4.size:Int) 6000) (fun k=>(ws.getD k (Ab TC.write)).key.size≤6000∧(ws.getD k (Ab TC.write)).value.size≤6000) 6000 10 false Eu Et HM (FV (cs,n0,(i:Int),0)) (cs,n0,(i:Int),0) n0 rfl
  (by show ws.length≤(((cs.getD ((i:Int)).toNat (Ab TC.change)).5.length:Int) - 0).toNat;rw[Int.toNat_natCast,hcs2];omega) h0
  (fun k n hk hn=>by
   obtain⟨w1,w2⟩:=hw _ (getD_in ws (Ab TC.write) k hk)
   obtain⟨a1,a2⟩:=Avo (k:=10) hn (by omega)
   obtain⟨b1,b2⟩:=Avo a1 (Aew w1)
   obtain⟨f1,f2⟩:=Avo b1 (Aew w2)
   refine⟨f1,fun h=>?_⟩
   obtain⟨g1,g2⟩:=f2 h
   obtain⟨c1,c2⟩:=b2 (by omega)
   obtain⟨d1,d2⟩:=a2 (by omega)
   exact⟨by omega,by omega,by omega⟩)
  (by omega)
  (fun k n _=>hgo k n)
  (fun k n hk _=>by
   show(cs,M9 cs n (i:Int) (k:Int),(i:Int),IntKind.i64.wrap ((k:Int)+1))=(cs,_,(i:Int),((k+1:Nat):Int))
   rw[DU (by omega)]
   unfold M9
   rw[Int.toNat_natCast,Int.toNat_natCast,hcs2])
  (fun k n _ _=>Aa (by show(0:Int)≤(i:Int)∧(i:Int) <(cs.length:Int);omega) (Aa (fun _=>by show(0:Int)≤(i:Int)∧(i:Int) <(cs.length:Int);omega) (Aa (fun h=>by
   have h':Br cs n (i:Int) (k:Int)=true:=h
   rw[hgo,Bool.and_eq_true] at h'
   have:=of_decide_eq_true h'.1
   show(0:Int)≤(k:Int)∧(k:Int) <((cs.getD ((i:Int)).toNat (Ab TC.change)).5.length:Int)
   rw[Int.toNat_natCast,hcs2]
   omega) Ad)))
 have hr:GU (cs,n0,(i:Int),0)=(cs,n',(i:Int),(k:Int)):=hx
 rw[hr]
 refine⟨h1,h2,fun h=>?_⟩
 have h':n'≤6000:=h
 obtain⟨q1,q2⟩:=h3 h
 refine⟨by show n0≤n';omega,by omega,?_⟩
 exact Tj (P:=fun w:TWrite=>w.key.size≤6000∧w.value.size≤6000) q2
theorem Awg (cs:List TChange) (n0:Int) (h0:0≤n0) (hl:Am cs.length) (hw:∀c∈cs,Aik c):
  AB Es Er HK (FU (cs,n0,0)) (cs,n0,0)∧
  0≤(Dp (cs,n0,0)).snd.fst∧((Dp (cs,n0,0)).snd.fst≤6000→n0+10*(cs.length:Int)≤(Dp (cs,n0,0)).snd.fst∧∀c∈cs,Am9 c):=by
 have hgo:∀(k:Nat) (n:Int),DD cs n (k:Int)=(decide (k <cs.length)&&(false||decide (n≤6000))):=fun k n=>by
  unfold DD
  rw[nn,LY,Bool.false_or]
 unfold Am at hl
 have hin:∀(i:Nat) (n:Int),i <cs.length→0≤n→_:=fun i n hi hn=>
  A1j cs i hi (Ar n 10 6000) (Avo hn (by omega)).1 (hw _ (getD_in cs (Ab TC.change) i hi))
 obtain⟨h1,k,n',hx,h2,h3⟩:=Xs (fun k n=>((cs,n,(k:Int)):Cu)) cs.length (fun k n=>Kz cs n (k:Int)) (fun k=>Am9 (cs.getD k (Ab TC.change))) 6000 10 false Es Er HK (FU (cs,n0,0)) (cs,n0,0) n0 rfl
  (by show cs.length≤((cs.length:Int) - 0).toNat;omega) h0
  (fun k n hk hn=>by
   obtain⟨_,g2,g3⟩:=hin k n hk hn
   obtain⟨a1,a2⟩:=Avo (k:=10) hn (by omega)
   unfold Kz
   refine⟨g2,fun h=>?_⟩
   obtain⟨c1,c2⟩:=g3 h
   have h':(GU (cs,Ar n 10 6000,(k:Int),0)).snd.fst≤6000:=h
   obtain⟨e1,e2⟩:=a2 (by omega)
   exact⟨by omega,c2⟩)
  (by omega)
  (fun k n _=>hgo k n)
  (fun k n hk _=>by
   show(cs,Kz cs n (k:Int),IntKind.i64.wrap ((k:Int)+1))=(cs,_,((k+1:Nat):Int))
   rw[DU (by omega)])
  (fun k n hk hn=>Aa (fun h=>by
    have h':DD cs n (k:Int)=true:=h
    rw[hgo,Bool.and_eq_true] at h'
    exact(hin k n (of_decide_eq_true h'.1) hn).1) Ad)
 have hr:Dp (cs,n0,0)=(cs,n',(k:Int)):=hx
 rw[hr]
 exact⟨h1,h2,fun h=>⟨(h3 h).1,Tj (h3 h).2⟩⟩
theorem A1i (l:List TGroup) (cs:List TChange) (xs:List (List TRow)) (hl:Am l.length) (hc:Am cs.length∧∀c∈cs,Aik c) (hr:Am xs.length) (hw:∀x∈xs,Am x.length∧∀r∈x,Xf r):(∀p∈Akf l cs xs,p)∧
  (Rv l cs xs=true→l.length≤6000∧(cs.length≤6000∧∀c∈cs,Am9 c)∧∀x∈xs,x.length≤6000∧∀r∈x,S6 6000 r):=by
 obtain⟨a1,a2⟩:=Avo (n:=0) (k:=(l.length:Int)) (Int.le_refl _) (Aew hl)
 obtain⟨b1,b2,b3⟩:=Awg cs _ a1 hc.1 hc.2
 obtain⟨c1,c2⟩:=Bkh xs _ b2 hr hw
 refine⟨Aa b1 (Aa c1 Ad),fun h=>?_⟩
 have h':=of_decide_eq_true h
 obtain⟨d1,d2⟩:=c2 h'
 obtain⟨e1,e2⟩:=b3 d1
 have:=a2 (by omega)
 exact⟨by omega,⟨by omega,e2⟩,d2⟩
theorem Bdq (a0:List TGroup) (a1:List TChange) (a2:List (List TRow)) (hp:∀p∈Aci a0 a1 a2,p):CallOk Try.prog 45 [.sl .group a0,.sl .change a1,.sl .rows a2] 0 [] 1 (Akg a0 a1 a2) 0 (Ake a0 a1 a2):=by
 obtain⟨h1,h2,h3,h4⟩:=hp _ (List.mem_cons_self ..)
 exact Bj6 a0 a1 a2 (A1i a0 a1 a2 h1 h2 h3 h4).1
def Yl:List A→Nat→Objs→Option AV:=A7 [.l .group,.l .change,.l .rows] 0 Akg Ake Aci
theorem Acj:ET Try.prog 45 Yl:=Aq (ks:=[.l .group,.l .change,.l .rows]) Bdq
noncomputable def Bx8:=AU 45 Yl Anp
theorem Bca:CD Try.prog Bx8:=Ak Acj UR
abbrev BP:Type:=(List TGroup)×ByteArray×(List TRow)×Int×Int
def Lb (x:BP):St:=⟨38,0,[(0,.sl .group x.1),(6,.v (.string x.2.1)),(15,.sl .row x.2.2.1),(16,.v (.int .i64 x.2.2.2.1)),(17,.v (.int .i64 x.2.2.2.2))],[]⟩
def Nf:St→Option BP
 |⟨38,0,[(0,.sl .group z0),(6,.v (.string z1)),(15,.sl .row z2),(16,.v (.int .i64 z3)),(17,.v (.int .i64 z4))],[]⟩=>some (z0,z1,z2,z3,z4)
 |_=>none
theorem Afz:∀s x,Nf s=some x→s=Lb x:=fun s x h=>by
 unfold Nf at h
 split at h
 ·cases h;rfl
 ·cases h
def Wm:Co:=⟨0,0,[0,6,15,16,17],[],[],[],[4],[]⟩
def Awh:CR:=⟨[],[],[0,6,15,16,17],[]⟩
def Ht (a0:List TGroup) (_a1:ByteArray) (a2:List TRow) (_a3:Int) (a4:Int):Bool:=Ah a0 (a2.getD a4.toNat (Ab TC.row)) !=(0:Int)
def DX (a0:List TGroup) (a1:ByteArray) (a2:List TRow) (a3:Int) (a4:Int):Bool:=!!decide (a4 <a3)&&((Ht a0 a1 a2 a3 a4)||(Cp (a2.getD a4.toNat (Ab TC.row))||(Op.bytesLess (a2.getD a4.toNat (Ab TC.row)).1.toList a1.toList||(a2.getD a4.toNat (Ab TC.row)).1.toList==a1.toList)))
def Akv (_a0:List TGroup) (_a1:ByteArray) (a2:List TRow) (_a3:Int) (a4:Int):ByteArray:=(a2.getD a4.toNat (Ab TC.row)).1
def Akw (a0:List TGroup) (a1:ByteArray) (a2:List TRow) (a3:Int) (a4:Int):Bool:=!!decide (a4 <a3)&&!(DX a0 a1 a2 a3 a4)
def Hs (a0:List TGroup) (a1:ByteArray) (a2:List TRow) (a3:Int) (a4:Int):Int:=bif(Ht a0 a1 a2 a3 a4) then Ah a0 (a2.getD a4.toNat (Ab TC.row)) else(100:Int)
def E4 (x:BP):BP:=(x.1,Akv x.1 x.2.1 x.2.2.1 x.2.2.2.1 x.2.2.2.2,x.2.2.1,x.2.2.2.1,IntKind.i64.wrap (x.2.2.2.2+(1:Int)))
def E3 (x:BP):Cnd:=some (Akw x.1 x.2.1 x.2.2.1 x.2.2.2.1 x.2.2.2.2)
def Mw (x:BP):List Prop:=[((!!decide (x.2.2.2.2 <x.2.2.2.1))=true→(0:Int)≤x.2.2.2.2∧x.2.2.2.2 <(↑x.2.2.1.length:Int)),((!!decide (x.2.2.2.2 <x.2.2.2.1))=true→(!(Ht x.1 x.2.1 x.2.2.1 x.2.2.2.1 x.2.2.2.2))=true→Ag (x.2.2.1.getD x.2.2.2.2.toNat (Ab TC.row)).2.length)]
abbrev IA:BP→List Prop:=Mw
def P8 (x:BP):Bd:=[(some 0,some (!decide (x.2.2.2.2 <x.2.2.2.1)),⟨38,0,[(4,.dead)],[]⟩),(none,some ((DX x.1 x.2.1 x.2.2.1 x.2.2.2.1 x.2.2.2.2)),⟨38,1,[(4,.v (.int .i64 (Hs x.1 x.2.1 x.2.2.1 x.2.2.2.1 x.2.2.2.2)))],[]⟩)]
def Hu (x:BP):Nat:=(x.2.2.2.1 - x.2.2.2.2).toNat
def FY (x:BP):BP:=A5 E4 E3 (Hu x) x
theorem Apa (a0:List TGroup) (a1:ByteArray) (a2:List TRow) (a3:Int) (a4:Int):Bk (Au Bx8 L0) 9 (Ae Try.prog 84 0) Wm (Lb (a0,a1,a2,a3,a4))=some (Mw (a0,a1,a2,a3,a4),P8 (a0,a1,a2,a3,a4),E3 (a0,a1,a2,a3,a4),Lb (E4 (a0,a1,a2,a3,a4))):=by kernel_rfl
theorem Apb (a0:List TGroup) (a1:ByteArray) (a2:List TRow) (a3:Int) (a4:Int) (hp:∀p∈IA (a0,a1,a2,a3,a4),p):∀p∈Mw (a0,a1,a2,a3,a4),p:=hp
noncomputable def RF:=GH (Au Bx8 L0) (Ae Try.prog 84 0) Wm Awh Nf Hu E4 E3 IA P8
theorem Akx:∀s b ps outs,RF s=some (b,ps,outs)→Wf s ⟨ps,outs,none⟩∧Be (Au C0 L0) b s ps outs:=
 A6 (T:=Lb) Bca Av (u:=9) (by kernel_rfl) (by decide) (fun⟨a0,a1,a2,a3,a4⟩=>Apa a0 a1 a2 a3 a4) (fun⟨a0,a1,a2,a3,a4⟩=>Apb a0 a1 a2 a3 a4) Afz (fun _=>AI (n:=38) rfl) fun _ _=>rfl
noncomputable def Wl:=CY 0 RF L0
theorem Aku:Gf Wl:=AP Akx Av
def K1 (a0:List TGroup) (_a1:List TRow):Bool:=AO a0 !=(0:Int)
def SG (a0:List TGroup) (a1:List TRow):List TGroup:=(FY (a0,ByteArray.mk #[],a1,(↑a1.length:Int),(0:Int))).fst
def SF (a0:List TGroup) (a1:List TRow):ByteArray:=(FY (a0,ByteArray.mk #[],a1,(↑a1.length:Int),(0:Int))).snd.fst
def SE (a0:List TGroup) (a1:List TRow):List TRow:=(FY (a0,ByteArray.mk #[],a1,(↑a1.length:Int),(0:Int))).snd.snd.fst
def SD (a0:List TGroup) (a1:List TRow):Int:=(FY (a0,ByteArray.mk #[],a1,(↑a1.length:Int),(0:Int))).snd.snd.snd.snd
def SC (a0:List TGroup) (a1:List TRow):Int:=(FY (a0,ByteArray.mk #[],a1,(↑a1.length:Int),(0:Int))).snd.snd.snd.fst
def Vm (a0:List TGroup) (a1:List TRow):Int:=bif(K1 a0 a1) then AO a0 else bif DX (SG a0 a1) (SF a0 a1) (SE a0 a1) (SC a0 a1) (SD a0 a1) then Hs (SG a0 a1) (SF a0 a1) (SE a0 a1) (SC a0 a1) (SD a0 a1) else(0:Int)
def Vn (a0:List TGroup) (a1:List TRow):A:=.v (.int .i64 (Vm a0 a1))
def Aky (_a0:List TGroup) (_a1:List TRow):Objs:=[]
def Acw (a0:List TGroup) (a1:List TRow):List Prop:=[((!(K1 a0 a1))=true→AB E4 E3 IA (Hu (a0,ByteArray.mk #[],a1,(↑a1.length:Int),(0:Int))) (a0,ByteArray.mk #[],a1,(↑a1.length:Int),(0:Int)))]
theorem A7p (a0:List TGroup) (a1:List TRow):Eo (Au Bx8 Wl) 9 84 [.sl .group a0,Af .rows a1] 0 []=some (1,Vn a0 a1,0,Aky a0 a1,[((!(K1 a0 a1))=true→Ae Try.prog (84:FuncId) (0:Nat)=Ae Try.prog (84:FuncId) (0:Nat)),((!(K1 a0 a1))=true→AB E4 E3 IA (Hu (a0,ByteArray.mk #[],a1,(↑a1.length:Int),(0:Int))) (a0,ByteArray.mk #[],a1,(↑a1.length:Int),(0:Int)))]):=by kernel_rfl
theorem Bef (a0:List TGroup) (a1:List TRow) (hp:∀p∈Acw a0 a1,p):CallOk Try.prog 84 [.sl .group a0,Af .rows a1] 0 [] 1 (Vn a0 a1) 0 (Aky a0 a1):=by
 have n0:((!(K1 a0 a1))=true→Ae Try.prog (84:FuncId) (0:Nat)=Ae Try.prog (84:FuncId) (0:Nat)):=by intros;rfl
 have n1:=N0 hp
 exact Ax (Ap Bca Aku) (A7p a0 a1) (Aa n0 (Aa n1 Ad))
def Acx (a0:List TGroup) (a1:List TRow):A:=.v (.int .i64 (Bq a0 a1))
def Acv (_a0:List TGroup) (_a1:List TRow):Objs:=[]
def YA (_a0:List TGroup) (a1:List TRow):List Prop:=[Am a1.length]
theorem Ays (l:List TGroup) (rows:List TRow) (i:Nat):(Xh l rows i !=0)=(Ah l (BA rows i) !=0||(Cp (BA rows i)||leS (BA rows i).key (P6 rows i))):=by
 unfold Xh
 cases h:Ah l (BA rows i) !=0 with
 |true=>rw[cond_true,h,Bool.true_or]
 |false=>cases Cp (BA rows i)||leS (BA rows i).key (P6 rows i)<;>rfl
theorem Acu (l:List TGroup) (rows:List TRow) (hb:Am rows.length):(∀p∈Acw l rows,p)∧Vm l rows=Bq l rows:=by
 unfold Am at hb
 have hf:∀i:Nat,DX l (P6 rows i) rows (rows.length:Int) (i:Int)=(decide (i <rows.length)&&Xh l rows i !=0):=fun i=>by
  rw[Ays]
  unfold DX Ht leS Ip
  rw[nn,LY,Int.toNat_natCast,tlb]
  rfl
 obtain⟨h1,k,hk,hx,hs,hst,_⟩:=Io (fun i=>((l,P6 rows i,rows,(rows.length:Int),(i:Int)):BP)) rows.length (fun i=>Xh l rows i !=0) E4 E3 IA (Hu (l,ByteArray.mk #[],rows,(rows.length:Int),0)) (l,ByteArray.mk #[],rows,(rows.length:Int),0) rfl (by show rows.length≤((rows.length:Int) - 0).toNat;omega)
  (fun i _ _=>by
   show((!!decide ((i:Int) <(rows.length:Int)))&&!DX l (P6 rows i) rows (rows.length:Int) (i:Int))=_
   rw[hf,nn,LY]
   cases decide (i <rows.length)<;>rfl)
  (fun i hi _=>by
   show(l,(rows.getD ((i:Int)).toNat (Ab TC.row)).1,rows,(rows.length:Int),IntKind.i64.wrap ((i:Int)+1))=(l,P6 rows (i+1),rows,(rows.length:Int),((i+1:Nat):Int))
   rw[DU (by omega),Int.toNat_natCast]
   rfl)
  (fun i hi _=>by
   have hin:(!!decide ((i:Int) <(rows.length:Int)))=true→(i:Int) <(rows.length:Int):=fun h=>by rw[nn] at h;exact of_decide_eq_true h
   refine Aa (fun h=>⟨by show(0:Int)≤(i:Int);omega,hin h⟩) (Aa (fun _ h2=>?_) Ad)
   have h3:Ah l (rows.getD ((i:Int)).toNat (Ab TC.row))=0:=by
    have h4:(!(Ah l (rows.getD ((i:Int)).toNat (Ab TC.row)) !=0))=true:=h2
    simpa using h4
   obtain⟨g1,g2,_⟩:=AK h3
   have:=(FR g1).2
   show Ag (rows.getD ((i:Int)).toNat (Ab TC.row)).cells.length
   unfold Ag
   omega)
 have hr:FY (l,ByteArray.mk #[],rows,(rows.length:Int),0)=(l,P6 rows k,rows,(rows.length:Int),(k:Int)):=hx
 refine⟨Aa (fun _=>h1) Ad,?_⟩
 unfold Vm Bq
 show(bif AO l !=0 then AO l else _)=_
 congr 1
 unfold SG SF SE SD SC
 rw[hr]
 show(bif DX l (P6 rows k) rows (rows.length:Int) (k:Int) then Hs l (P6 rows k) rows (rows.length:Int) (k:Int) else 0)=_
 rw[hf]
 have h0:GG l rows k=0:=(Ajp l rows k).2 fun i hi=>by simpa using hs i hi
 rcases Nat.lt_or_ge k rows.length with h|h
 ·have he:=hst h
  rw[decide_eq_true h,he]
  have e1:GG l rows (k+1)=Xh l rows k:=by
   show(bif GG l rows k !=0 then GG l rows k else Xh l rows k)=_
   rw[h0];rfl
  have hne:GG l rows (k+1)≠0:=by rw[e1];simpa using he
  rw[XY hne rows.length h,e1]
  show Hs l (P6 rows k) rows (rows.length:Int) (k:Int)=_
  unfold Hs Ht
  rw[Int.toNat_natCast]
  rw[Ays] at he
  unfold Xh
  show(bif Ah l (BA rows k) !=0 then Ah l (BA rows k) else 100)=_
  cases hg:Ah l (BA rows k) !=0 with
  |true=>rfl
  |false=>
   rw[hg,Bool.false_or] at he
   rw[he]
   rfl
 ·obtain rfl:k=rows.length:=by omega
  rw[decide_eq_false (Nat.lt_irrefl _),h0]
  rfl
theorem A7o (a0:List TGroup) (a1:List TRow) (hp:∀p∈YA a0 a1,p):CallOk Try.prog 84 [.sl .group a0,Af .rows a1] 0 [] 1 (Acx a0 a1) 0 (Acv a0 a1):=by
 have hb:Am a1.length:=hp _ (List.mem_cons_self ..)
 have h:=Bef a0 a1 (Acu a0 a1 hb).1
 unfold Vn at h
 rw[(Acu a0 a1 hb).2] at h
 exact h
def Vo:List A→Nat→Objs→Option AV:=A7 [.l .group,.t .rows] 0 Acx Acv YA
theorem YB:ET Try.prog 84 Vo:=Aq (ks:=[.l .group,.t .rows]) A7o
noncomputable def B7b:=AU 84 Vo Bx8
theorem Br6:CD Try.prog B7b:=Ak YB Bca
def PT (a0:Int) (a1:TVec) (a2:TCell):Bool:=bif a2.1.1==(0:Int)&&a2.1.2==(0:Int)&&(a2.2.1==(0:Int)&&a2.2.2==(0:Int)&&(a2.3==false&&(a2.4.toList==(ByteArray.mk #[]).toList&&(a2.5.1==(0:Int)&&a2.5.2==(0:Int)))))||!A1 a0 a2||!KS a1 (LU a2) then false else !HZ a0 a2
def PU (a0:Int) (a1:TVec) (a2:TCell):A:=.v (.bool (PT a0 a1 a2))
def XR (_a0:Int) (_a1:TVec) (_a2:TCell):Objs:=[]
def We (_a0:Int) (_a1:TVec) (_a2:TCell):List Prop:=[]
theorem Avu (a0:Int) (a1:TVec) (a2:TCell):Eo (Au B7b L0) 9 50 [Af .i64 a0,Af .vec a1,Af .cell a2] 0 []=some (1,PU a0 a1 a2,0,XR a0 a1 a2,We a0 a1 a2):=by kernel_rfl
theorem A0l (a0:Int) (a1:TVec) (a2:TCell) (hp:∀p∈We a0 a1 a2,p):CallOk Try.prog 50 [Af .i64 a0,Af .vec a1,Af .cell a2] 0 [] 1 (PU a0 a1 a2) 0 (XR a0 a1 a2):=Ax (Ap Br6 Av) (Avu a0 a1 a2) hp
def Wg (a0:Int) (a1:TVec) (a2:TCell):A:=.v (.bool (B76 a0 a1 a2))
def Wd (_a0:Int) (_a1:TVec) (_a2:TCell):Objs:=[]
def Tz (_a0:Int) (_a1:TVec) (_a2:TCell):List Prop:=[]
theorem B5d (c:TCell):(c.1.1==(0:Int)&&c.1.2==(0:Int)&&(c.2.1==(0:Int)&&c.2.2==(0:Int)&&(c.3==false&&(c.4.toList==(ByteArray.mk #[]).toList&&(c.5.1==(0:Int)&&c.5.2==(0:Int))))))=eqC c zeroC:=by
 rw[tlb]
 unfold eqC zeroC
 simp only[Bool.and_assoc]
theorem Buo (a b:TVec):KS a b=Bi9 a b:=by
 have hm:∀x y:Int,(min x y==y)=decide (y≤x):=fun x y=>by
  rw[Bool.eq_iff_iff,beq_iff_eq,decide_eq_true_eq];omega
 unfold KS Bi9
 have h1:((Kt a b).1==b.1)=decide (b.a≤a.a):=hm _ _
 have h2:((Kt a b).2==b.2)=decide (b.b≤a.b):=hm _ _
 rw[h1,h2]
theorem Avt (p:Int) (st:TVec) (c:TCell):PT p st c=B76 p st c:=by
 unfold PT B76
 rw[B5d,Jc,Buo,(Ai0 p c).2]
 show(bif eqC c zeroC||!Bw p c||!Bi9 st (Afq c) then false else !UK p c)=_
 cases eqC c zeroC<;>cases Bw p c<;>cases Bi9 st (Afq c)<;>rfl
theorem Avs (a0:Int) (a1:TVec) (a2:TCell) (_hp:∀p∈Tz a0 a1 a2,p):CallOk Try.prog 50 [Af .i64 a0,Af .vec a1,Af .cell a2] 0 [] 1 (Wg a0 a1 a2) 0 (Wd a0 a1 a2):=by
 have h:=A0l a0 a1 a2 (fun _ h=>by cases h)
 unfold PU at h
 rw[Avt] at h
 exact h
def XS:List A→Nat→Objs→Option AV:=A7 [.t .i64,.t .vec,.t .cell] 0 Wg Wd Tz
theorem Aoc:ET Try.prog 50 XS:=Aq (ks:=[.t .i64,.t .vec,.t .cell]) Avs
noncomputable def B8u:=AU 50 XS B7b
theorem B2r:CD Try.prog B8u:=Ak Aoc Br6
noncomputable def Cn:=B8u
theorem Bh4:CD Try.prog Cn:=B2r
end Go.Proofs.Yteebobbhhgmeiaa
