/- made by a program (rowgen.py): WireBack: for every input the law returns true, and each argument reads behind the call as it read before. -/
import Derived.Test.YtifkbgkbajncjaaDoorKWbe

set_option maxRecDepth 100000
noncomputable section
namespace Go.Proofs.YtifkbgkbajncjaaDoor
open Go.RowKit
def Lex (r e s:Prop):Prop:=r∨(e∧s)
theorem Py {r1 r2 r3 e1 e2 e3 s1 s2 s3:Prop} (hr:r1→r2→r3) (ze:r1→e2→r3) (xz:e1→r2→r3) (xy:e1→e2→e3) (hs:s1→s2→s3):Lex r1 e1 s1→Lex r2 e2 s2→Lex r3 e3 s3
 | .inl a,.inl b=> .inl (hr a b)
 | .inl a,.inr b=> .inl (ze a b.1)
 | .inr a,.inl b=> .inl (xz a.1 b)
 | .inr a,.inr b=> .inr ⟨xy a.1 b.1,hs a.2 b.2⟩
theorem Px {r1 r2 e1 e2 s1 s2 t e:Prop} (h:r1∨e∨r2) (h1:e→e1) (h2:e→e2) (hs:s1∨t∨s2):Lex r1 e1 s1∨(e∧t)∨Lex r2 e2 s2:=by
 rcases h with h|h|h
 ·exact .inl (.inl h)
 ·rcases hs with g|g|g
  ·exact .inl (.inr ⟨h1 h,g⟩)
  ·exact .inr (.inl ⟨h,g⟩)
  ·exact .inr (.inr (.inr ⟨h2 h,g⟩))
 ·exact .inr (.inr (.inl h))
def RG (a b:AG):Prop:=
 Lex (a.stamp.n <b.stamp.n) (a.stamp.n=b.stamp.n) (Lex (a.stamp.site <b.stamp.site) (a.stamp.site=b.stamp.site) (Lex (a.gone=false∧b.gone=true) (a.gone=b.gone) (Lex (ltS a.value b.value=true) (a.value=b.value) (Lex (a.vec.a <b.vec.a) (a.vec.a=b.vec.a) (a.vec.b <b.vec.b)))))
theorem Afu {a b c:AG}:RG a b→RG b c→RG a c:=
 Py (by omega) (by omega) (by omega) (by omega) (Py (by omega) (by omega) (by omega) (by omega)
  (Py (fun h g=>by rw[h.2] at g;exact absurd g.1 (by decide)) (fun h g=>⟨h.1,g▸h.2⟩) (fun h g=>⟨h▸g.1,g.2⟩) (fun h g=>h.trans g)
   (Py A3e (fun h g=>g▸h) (fun h g=>h▸g) (fun h g=>h.trans g) (Py (by omega) (by omega) (by omega) (by omega) (by omega)))))
def Bfu (a b:AG):Prop:=a.stamp.n=b.stamp.n∧a.stamp.site=b.stamp.site∧a.gone=b.gone∧a.value=b.value∧a.vec.a=b.vec.a∧a.vec.b=b.vec.b
theorem Awz (a b:AG):RG a b∨Bfu a b∨RG b a:=by
 refine Px (by omega) id Eq.symm (Px (by omega) id Eq.symm (Px ?_ id Eq.symm (Px ?_ id Eq.symm (Px (by omega) id Eq.symm (by omega)))))
 ·cases a.gone<;>cases b.gone<;>simp
 ·by_cases h:a.value=b.value
  ·exact .inr (.inl h)
  ·cases h1:ltS a.value b.value with
   |true=>exact .inl rfl
   |false=>exact .inr (.inr (A3d h1 h))
def A0l (a b:AG):Bool:=
 bif !(a.stamp.n==b.stamp.n&&a.stamp.site==b.stamp.site) then decide (a.stamp.n <b.stamp.n)||(a.stamp.n==b.stamp.n&&decide (a.stamp.site <b.stamp.site))
 else bif a.gone !=b.gone then b.gone
 else bif !(a.value==b.value) then ltS a.value b.value
 else bif a.vec.a !=b.vec.a then decide (a.vec.a <b.vec.a)
 else decide (a.vec.b <b.vec.b)
theorem Ak3 {a b:AG}:A0l a b=true↔RG a b:=by
 unfold A0l RG Lex
 by_cases h1:a.stamp.n=b.stamp.n
 ·by_cases h2:a.stamp.site=b.stamp.site
  ·have e:(a.stamp.n==b.stamp.n&&a.stamp.site==b.stamp.site)=true:=by rw[h1,h2];simp
   rw[e,Bool.not_true,cond_false]
   simp only[h1,h2,false_or,true_and,Int.lt_irrefl]
   by_cases h3:a.gone=b.gone
   ·have e3:(a.gone !=b.gone)=false:=by rw[h3];simp
    have n3:¬(a.gone=false∧b.gone=true):=by rw[h3];rintro⟨x,y⟩;rw[x] at y;cases y
    rw[e3,cond_false]
    have zo:¬(b.gone=false∧b.gone=true):=by rintro⟨x,y⟩;rw[x] at y;cases y
    simp only[h3,zo,false_or,true_and]
    by_cases h4:a.value=b.value
    ·have e4:(a.value==b.value)=true:=beq_iff_eq.2 h4
     rw[e4,Bool.not_true,cond_false]
     simp only[h4,true_and]
     have zp:¬ltS b.value b.value=true:=fun h=>Bhu h rfl
     simp only[zp,Bool.false_eq_true,false_or]
     by_cases h5:a.vec.a=b.vec.a
     ·have e5:(a.vec.a !=b.vec.a)=false:=by rw[h5];simp
      rw[e5,cond_false,decide_eq_true_eq]
      omega
     ·have e5:(a.vec.a !=b.vec.a)=true:=by simpa using h5
      rw[e5,cond_true,decide_eq_true_eq]
      omega
    ·have e4:(a.value==b.value)=false:=beq_eq_false_iff_ne.2 h4
     rw[e4,Bool.not_false,cond_true]
     simp only[h4,false_and,or_false]
   ·have e3:(a.gone !=b.gone)=true:=by simpa using h3
    rw[e3,cond_true]
    simp only[h3,false_and,or_false]
    revert h3
    cases a.gone<;>cases b.gone<;>simp
  ·have e:(a.stamp.n==b.stamp.n&&a.stamp.site==b.stamp.site)=false:=by rw[beq_eq_false_iff_ne.2 h2,Bool.and_false]
   rw[e,Bool.not_false,cond_true]
   simp[h1,h2]
 ·have e:(a.stamp.n==b.stamp.n&&a.stamp.site==b.stamp.site)=false:=by rw[beq_eq_false_iff_ne.2 h1,Bool.false_and]
  rw[e,Bool.not_false,cond_true]
  simp[h1]
def Aw5 (a b:AG):AG:=bif A0l a b then b else a
def Bae (a:AG):AG:=⟨a.stamp,a.vec,a.gone,a.value,⟨0,0⟩⟩
theorem Bef {a b:AG} (h:Bfu a b):Bae a=Bae b:=by
 obtain⟨⟨an,asi⟩,⟨ava,avb⟩,ag,av,ad⟩:=a
 obtain⟨⟨bn,bsi⟩,⟨bva,bvb⟩,bg,bv,bd⟩:=b
 obtain⟨h1,h2,h3,h4,h5,h6⟩:=h
 simp only at h1 h2 h3 h4 h5 h6
 subst h1 h2 h3 h4 h5 h6
 rfl
theorem Asq {a b:AG}:RG a (Bae b)↔RG a b:=Iff.rfl
theorem TF (a b:AG):(RG a b∧Aw5 a b=b)∨(¬RG a b∧Aw5 a b=a):=by
 unfold Aw5
 cases h:A0l a b with
 |true=>exact .inl ⟨Ak3.1 h,rfl⟩
 |false=>exact .inr ⟨fun g=>(by rw[Ak3.2 g] at h;cases h),rfl⟩
theorem max_assoc (a b c:AG):Bae (Aw5 (Aw5 a b) c)=Bae (Aw5 a (Aw5 b c)):=by
 rcases TF a b with⟨h,e⟩|⟨h,e⟩<;>rcases TF b c with⟨g,f⟩|⟨g,f⟩
 ·rw[e,f]
  rcases TF a c with⟨_,q⟩|⟨r,_⟩
  ·rw[q]
  ·exact absurd (Afu h g) r
 ·rw[e,f,e]
 ·rw[e,f]
 ·rw[e,f,e]
  rcases TF a c with⟨r,q⟩|⟨_,q⟩
  ·rcases Awz b c with t|t|t
   ·exact absurd t g
   ·have:=Bef t
    rw[←Asq (b:=c),←this] at r
    exact absurd (Asq.1 r) h
   ·exact absurd (Afu r t) h
  ·rw[q]
structure Stt (l:List Ae) (rows:List AW):Prop where
 rise:Blx rows
 good:∀r∈rows,BJ l r=0∧Up r=false
theorem Stt.tail {l:List Ae} {x:AW} {a:List AW} (h:Stt l (x::a)):Stt l a:=⟨(List.pairwise_cons.1 h.rise).2,fun r hr=>h.good r (List.mem_cons_of_mem _ hr)⟩
def wN (ws:List AY) (i:Nat):AY:=ws.getD i (Ao TC.write)
def Ad0 (a b:AY):Bool:=ltS a.key b.key||a.key==b.key&&decide (a.group <b.group)
def Aj7 (l:List Ae) (w:AY):Bool:=!(w.key.size==0)&&decide (w.key.size≤32)&&decide (0≤w.group)&&decide (w.group <(l.length:Int))&&decide (w.value.size≤64)&&(!w.gone||w.value.size==0)
def Oq (c:Ar):Bool:=(c.site==1||c.site==2)&&decide (1≤c.seq)&&decide (c.seq≤1099511627776)&&c.stamp.site==c.site&&HJ c.stamp&&EP c.vec&&(bif c.site==1 then c.vec.a else c.vec.b)==c.seq
def Un (l:List Ae) (ws:List AY) (i:Nat):Bool:=!Aj7 l (wN ws i)||decide (0 <i)&&!Ad0 (wN ws (i - 1)) (wN ws i)
def Atb (c:Ar):Bool:=decide (1≤c.writes.length)&&decide (c.writes.length≤8)
def OW (l:List Ae) (c:Ar):Int:=bif A1 l !=0 then A1 l else bif Oq c&&Atb c&&JL c.writes.length (fun i=>!Un l c.writes i) then 0 else 120
def H1 (a0:AY):PX:=PX.mk a0.1 a0.2
def Aq9 (a0:AY):A:=.v (.agg ⟨[.string ((H1 a0).key),.int .i64 ((H1 a0).group)]⟩)
def Amn (_a0:AY):List Prop:=[]
theorem Ait:IE Bb 57 (Et [.t .write] 0 Aq9 (fun _=>[]) Amn):=A8 fun a0 hp=>Bh (u:=9) (AU Cn.2 A9) (by kernel_rfl) hp
def Bei:=Gi Ait Cn
def GF (a0 a1:PX):Bool:=Op.bytesLess a0.1.toList a1.1.toList||a0.1.toList==a1.1.toList&&decide (a0.2 <a1.2)
def RP (a0 a1:PX):A:=.v (.bool (GF a0 a1))
def RA (_a0 _a1:PX):List Prop:=[]
theorem P5:IE Bb 58 (Et [.t .place,.t .place] 0 RP (fun _ _=>[]) RA):=A8 fun a0 a1 hp=>Bh (u:=9) (AU Bei.2 A9) (by kernel_rfl) hp
def Ay4:=Gi P5 Bei
abbrev BM:Type:=(List Ae)×(List AY)×Int×Int×Ar
def Yt:BM→St
  |(a0,a1,a2,a3,a4)=>⟨132,1,[(0,.sl .group a0),(3,.own 0 0),(73,.sl .write a1),(74,.v (.int .i64 a2)),(75,.v (.int .i64 a3))],[(0,some (.box 29 [.v (.int .i64 a4.site),.v (.int .i64 a4.seq),.v (.int .i64 a4.stamp.n),.v (.int .i64 a4.stamp.site),.v (.int .i64 a4.vec.a),.v (.int .i64 a4.vec.b),.sl .write a4.writes]))]⟩
def M2:St→Option BM
 |⟨132,1,[(0,.sl .group z0),(3,.own 0 0),(73,.sl .write z1),(74,.v (.int .i64 z2)),(75,.v (.int .i64 z3))],[(0,some (.box 29 [.v (.int .i64 z4),.v (.int .i64 z5),.v (.int .i64 z6),.v (.int .i64 z7),.v (.int .i64 z8),.v (.int .i64 z9),.sl .write mh]))]⟩=>some (z0,z1,z2,z3,⟨z4,z5,⟨z6,z7⟩,⟨z8,z9⟩,mh⟩)
 |_=>none
def Ys:E2:=⟨1,1,[0,3,73,74,75],[],[(0,0)],[0],[4],[0]⟩
def Yr:Fz:=⟨[],[(0,0)],[0,3,73,74,75],[0]⟩
def G0 (a3:Int):Int:=IntKind.i64.wrap (a3 - 1)
def GZ (a0:List Ae) (a1:List AY) (a3:Int):Bool:=(a1.getD a3.toNat (Ao TC.write)).1.toList==(ByteArray.mk #[]).toList||decide ((↑(a1.getD a3.toNat (Ao TC.write)).1.size:Int) >32)||decide ((a1.getD a3.toNat (Ao TC.write)).2 <0)||decide ((a1.getD a3.toNat (Ao TC.write)).2≥(a0.length:Int))||decide ((↑(a1.getD a3.toNat (Ao TC.write)).4.size:Int) >64)||(a1.getD a3.toNat (Ao TC.write)).3&&!(a1.getD a3.toNat (Ao TC.write)).4.toList==(ByteArray.mk #[]).toList
def CL (a0:List Ae) (a1:List AY) (a2 a3:Int) (a4:Ar):Bool:=!!decide (a3 <a2)&&((GZ a0 a1 a3)||decide (a3 >0)&&!GF (H1 (a4.5.getD (G0 a3).toNat (Ao TC.write))) (H1 (a1.getD a3.toNat (Ao TC.write))))
def Vp (a0:List Ae) (a1:List AY) (a2 a3:Int) (a4:Ar):Bool:=!!decide (a3 <a2)&&!(CL a0 a1 a2 a3 a4)
def Lf (a0:List Ae) (a1:List AY) (a3:Int):Int:=bif(GZ a0 a1 a3) then 120 else 120
def Fs (x:BM):BM:=(x.1,x.2.1,x.2.2.1,IntKind.i64.wrap (x.2.2.2.1+1),x.2.2.2.2)
def Fr (x:BM):DB:=some (Vp x.1 x.2.1 x.2.2.1 x.2.2.2.1 x.2.2.2.2)
def LX:BM→List Prop
  |(a0,a1,a2,a3,a4)=>[((!!decide (a3 <a2))=true→0≤a3∧a3 <(a1.length:Int)),((!!decide (a3 <a2))=true→(!(GZ a0 a1 a3))=true→decide (a3 >0)=true→0≤(G0 a3)∧(G0 a3) <(a4.5.length:Int))]
abbrev HV:BM→List Prop:=LX
def TY:BM→BG
  |(a0,a1,a2,a3,a4)=>[(some 0,some (!decide (a3 <a2)),⟨132,1,[(4,.dead)],[(0,some (.box 29 [.v (.int .i64 a4.1),.v (.int .i64 a4.2),.v (.int .i64 a4.3.1),.v (.int .i64 a4.3.2),.v (.int .i64 a4.4.1),.v (.int .i64 a4.4.2),.sl .write a4.5]))]⟩),(none,some ((CL a0 a1 a2 a3 a4)),⟨132,2,[(4,.v (.int .i64 (Lf a0 a1 a3)))],[(0,some (.box 29 [.v (.int .i64 a4.1),.v (.int .i64 a4.2),.v (.int .i64 a4.3.1),.v (.int .i64 a4.3.2),.v (.int .i64 a4.4.1),.v (.int .i64 a4.4.2),.sl .write a4.5]))]⟩)]
def Fq (x:BM):Nat:=(x.2.2.1 - x.2.2.2.1).toNat
def Eu (x:BM):BM:=Bj Fs Fr (Fq x) x
def Vq:=Jg (CP Ay4.1 L0) (AQ Bb 33 0) Ys Yr M2 Fq Fs Fr HV TY
def O7:=WA 0 (g:=Vq) (CR (T:=Yt) (psA:=LX) Ay4.2 A9 (u:=9) (by kernel_rfl) (by decide) (fun⟨a0,a1,a2,a3,a4⟩=>by kernel_rfl) (fun _ h=>h) (fun s x h=>by unfold M2 at h;split at h<;>first|(cases h;rfl)|cases h) (fun _=>Bm (n:=132) rfl) fun _ _=>rfl) ⟨L0,A9⟩
def Dl (a0:List Ae):Bool:=A1 a0 !=0
def Dk (a1:Ar):Int:=IntKind.i64.wrap (a1.1 - 1)
def LW (a0:List Ae) (a1:Ar):List Ae:=(Eu (a0,a1.5,(a1.5.length:Int),0,a1)).1
def FU (a1:Ar):Bool:=decide ((a1.5.length:Int) <1)||decide ((a1.5.length:Int) >8)
def LV (a0:List Ae) (a1:Ar):List AY:=(Eu (a0,a1.5,(a1.5.length:Int),0,a1)).2.1
def RL (a0:List Ae) (a1:Ar):Int:=(Eu (a0,a1.5,(a1.5.length:Int),0,a1)).2.2.1
def RK (a0:List Ae) (a1:Ar):Ar:=(Eu (a0,a1.5,(a1.5.length:Int),0,a1)).2.2.2.2
def LU (a0:List Ae) (a1:Ar):Int:=(Eu (a0,a1.5,(a1.5.length:Int),0,a1)).2.2.2.1
def FT (a1:Ar):Bool:=a1.1 !=1&&a1.1 !=2||decide (a1.2 <1)||decide (a1.2 >1099511627776)||a1.3.2 !=a1.1||!C7 a1.3||!Cx a1.4||(bif(Dk a1).toNat.beq 0 then a1.4.1 else a1.4.2) !=a1.2
def Oj (a0:List Ae) (a1:Ar):Int:=bif(Dl a0) then A1 a0 else bif(FT a1) then 120 else bif(FU a1) then 120 else bif CL (LW a0 a1) (LV a0 a1) (RL a0 a1) (LU a0 a1) (RK a0 a1) then Lf (LW a0 a1) (LV a0 a1) (LU a0 a1) else 0
def Ok (a0:List Ae) (a1:Ar):A:=iV ((Oj a0 a1))
def RM (a0:List Ae) (a1:Ar):List Prop:=[((!(Dl a0))=true→(a1.1 !=1&&a1.1 !=2||decide (a1.2 <1)||decide (a1.2 >1099511627776)||a1.3.2 !=a1.1||!C7 a1.3||!Cx a1.4)=false→0≤(Dk a1)∧(Dk a1) <2),((!(Dl a0))=true→(!(FT a1))=true→(!(FU a1))=true→A3 Fs Fr HV (Fq (a0,a1.5,(a1.5.length:Int),0,a1)) (a0,a1.5,(a1.5.length:Int),0,a1))]
theorem Aee (a0:List Ae) (a1:Ar):Tx (CP Ay4.1 O7.1) 9 33 [.sl .group a0,AX .change a1] 0 []=some (1,Ok a0 a1,0,[],[((!(Dl a0))=true→(a1.1 !=1&&a1.1 !=2||decide (a1.2 <1)||decide (a1.2 >1099511627776)||a1.3.2 !=a1.1||!C7 a1.3||!Cx a1.4)=false→0≤(Dk a1)∧(Dk a1) <2),((!(Dl a0))=true→(a1.1 !=1&&a1.1 !=2||decide (a1.2 <1)||decide (a1.2 >1099511627776)||a1.3.2 !=a1.1||!C7 a1.3||!Cx a1.4)=false→(Dk a1).toNat <2),((!(Dl a0))=true→(!(FT a1))=true→(!(FU a1))=true→AQ Bb (33:FuncId) 0=AQ Bb (33:FuncId) 0),((!(Dl a0))=true→(!(FT a1))=true→(!(FU a1))=true→A3 Fs Fr HV (Fq (a0,a1.5,(a1.5.length:Int),0,a1)) (a0,a1.5,(a1.5.length:Int),0,a1))]):=by kernel_rfl
theorem Aip (a0:List Ae) (a1:Ar) (hp:∀p∈RM a0 a1,p):Ax Bb 33 [.sl .group a0,AX .change a1] 0 [] 1 (Ok a0 a1) 0 []:=by
 have n0:((!(Dl a0))=true→(a1.1 !=(1:Int)&&a1.1 !=(2:Int)||decide (a1.2 <(1:Int))||decide (a1.2 >(1099511627776:Int))||a1.3.2 !=a1.1||!C7 a1.3||!Cx a1.4)=false→(0:Int)≤(Dk a1)∧(Dk a1) <(2:Int)):=N0 hp
 have n1:((!(Dl a0))=true→(a1.1 !=(1:Int)&&a1.1 !=(2:Int)||decide (a1.2 <(1:Int))||decide (a1.2 >(1099511627776:Int))||a1.3.2 !=a1.1||!C7 a1.3||!Cx a1.4)=false→(Dk a1).toNat <(2:Nat)):=by intro h0 h1;have g:=n0 h0 h1;omega
 have n2:((!(Dl a0))=true→(!(FT a1))=true→(!(FU a1))=true→AQ Bb (33:FuncId) (0:Nat)=AQ Bb (33:FuncId) (0:Nat)):=by intros;rfl
 have n3:=N0 (N1 hp)
 exact Bh (AU Ay4.2 O7.2) (Aee a0 a1) (Aa n0 (Aa n1 (Aa n2 (Aa n3 An))))
def RN (a0:List Ae) (a1:Ar):A:=iV ((OW a0 a1))
def QZ (_a0:List Ae) (a1:Ar):List Prop:=[AT a1.writes.length]
theorem A82 {c:Ar} (h:c.site=1∨c.site=2):(bif(IntKind.i64.wrap (c.site - 1)).toNat.beq 0 then c.vec.a else c.vec.b)=bif c.site==1 then c.vec.a else c.vec.b:=by
 rcases h with h|h<;>rw[h]<;>rfl
theorem Bdj {c:Ar} (h:c.site=1∨c.site=2):(0:Int)≤IntKind.i64.wrap (c.site - 1)∧IntKind.i64.wrap (c.site - 1) <(2:Int):=by
 rcases h with h|h<;>rw[h]<;>decide
theorem Bks {n:Int}:(n !=1&&n !=2)=false↔n=1∨n=2:=by
 constructor
 ·intro h
  rcases Decidable.em (n=1) with e|e
  ·exact .inl e
  ·rcases Decidable.em (n=2) with e2|e2
   ·exact .inr e2
   ·have h1:(n !=1)=true:=bne_iff_ne.2 e
    have h2:(n !=2)=true:=bne_iff_ne.2 e2
    rw[h1,h2] at h
    cases h
 ·rintro(rfl|rfl)<;>rfl
theorem Bb4 (c:Ar):Oq c=!(c.site !=1&&c.site !=2||decide (c.seq <1)||decide (c.seq >1099511627776)||c.stamp.site !=c.site||!HJ c.stamp||!EP c.vec||(bif(IntKind.i64.wrap (c.site - 1)).toNat.beq 0 then c.vec.a else c.vec.b) !=c.seq):=by
 unfold Oq
 cases h:c.site !=1&&c.site !=2 with
 |true=>
  rw[Bool.and_eq_true,bne_iff_ne,bne_iff_ne] at h
  rw[beq_eq_false_iff_ne.2 h.1,beq_eq_false_iff_ne.2 h.2]
  rfl
 | false=>
  have hs:=Bks.1 h
  have h1:(c.site==1||c.site==2)=true:=by rcases hs with e|e<;>rw[e]<;>rfl
  have h2:decide (c.seq <1)=!decide (1≤c.seq):=by
   rw[←decide_not];exact decide_eq_decide.2 (by omega)
  have h3:decide (c.seq >1099511627776)=!decide (c.seq≤1099511627776):=by
   rw[←decide_not];exact decide_eq_decide.2 (by omega)
  rw[h1,A82 hs,h2,h3]
  unfold bne
  cases decide (1≤c.seq)<;>cases decide (c.seq≤1099511627776)<;>cases c.stamp.site==c.site<;>cases HJ c.stamp<;>cases EP c.vec<;>simp
theorem Bee (l:List Ae) (w:AY):(w.1.toList==(ByteArray.mk #[]).toList||decide ((w.1.size:Int) >(32:Int))||decide (w.2 <(0:Int))||decide (w.2≥(l.length:Int))||decide ((w.4.size:Int) >(64:Int))||w.3&&!w.4.toList==(ByteArray.mk #[]).toList)=!Aj7 l w:=by
 have e1:(w.1.toList==(ByteArray.mk #[]).toList)=(w.key.size==0):=Agm _
 have e2:(w.4.toList==(ByteArray.mk #[]).toList)=(w.value.size==0):=Agm _
 have h1:decide ((w.1.size:Int) >(32:Int))=!decide (w.key.size≤32):=by rw[←decide_not];exact decide_eq_decide.2 (by omega)
 have h2:decide (w.2 <(0:Int))=!decide (0≤w.group):=by rw[←decide_not];exact decide_eq_decide.2 (by omega)
 have h3:decide (w.2≥(l.length:Int))=!decide (w.group <(l.length:Int)):=by rw[←decide_not];exact decide_eq_decide.2 (by omega)
 have h4:decide ((w.4.size:Int) >(64:Int))=!decide (w.value.size≤64):=by rw[←decide_not];exact decide_eq_decide.2 (by omega)
 rw[e1,e2,h1,h2,h3,h4]
 unfold Aj7
 cases w.key.size==0<;>cases decide (w.key.size≤32)<;>cases decide (0≤w.group)<;>cases decide (w.group <(l.length:Int))<;>cases decide (w.value.size≤64)<;>cases w.gone<;>cases w.value.size==0<;>rfl
theorem A5c (a b:AY):GF (H1 a) (H1 b)=Ad0 a b:=by
 unfold GF H1 Ad0 ltS
 rw[←tlb]
theorem Azd (l:List Ae) (c:Ar) (i:Nat) (_hi:i≤9223372036854775807):CL l c.writes (c.writes.length:Int) (i:Int) c=(decide (i <c.writes.length)&&Un l c.writes i):=by
 have e:CL l c.writes (c.writes.length:Int) (i:Int) c=(decide (i <c.writes.length)&&(!Aj7 l (wN c.writes i)||decide ((i:Int) >0)&&!Ad0 (wN c.writes (IntKind.i64.wrap ((i:Int) - 1)).toNat) (wN c.writes i))):=by
  unfold CL GZ G0
  rw[nn,Ux,Int.toNat_natCast,A5c,Bee]
  rfl
 rw[e]
 unfold Un
 cases i with
 |zero=>rfl
 |succ j=>
  have h1:(IntKind.i64.wrap (((j+1:Nat):Int) - 1)).toNat=j+1 - 1:=by rw[i64_in (by omega)];omega
  have h2:decide (((j+1:Nat):Int) >0)=decide (0 <j+1):=decide_eq_decide.2 (by omega)
  rw[h1,h2]
theorem RJ (l:List Ae) (c:Ar) (hb:AT c.writes.length):(∀p∈RM l c,p)∧Oj l c=OW l c:=by
 unfold AT at hb
 obtain⟨h1,k,hk,hx,_,_,aq⟩:=Abm (fun i=>((l,c.writes,(c.writes.length:Int),(i:Int),c):BM)) c.writes.length (fun i=>Un l c.writes i) Fs Fr HV (Fq (l,c.writes,(c.writes.length:Int),0,c)) (l,c.writes,(c.writes.length:Int),0,c) rfl (by show c.writes.length≤((c.writes.length:Int) - 0).toNat;omega)
  (fun i hi _=>by
   show((!!decide ((i:Int) <(c.writes.length:Int)))&&!CL l c.writes (c.writes.length:Int) (i:Int) c)=_
   rw[Azd l c i (by omega),nn,Ux]
   cases decide (i <c.writes.length)<;>rfl)
  (fun i hi _=>by
   show(l,c.writes,(c.writes.length:Int),IntKind.i64.wrap ((i:Int)+1),c)=(l,c.writes,(c.writes.length:Int),((i+1:Nat):Int),c)
   rw[JK (by omega)])
  (fun i hi _=>by
   have ar:(!!decide ((i:Int) <(c.writes.length:Int)))=true→(i:Int) <(c.writes.length:Int):=fun h=>by rw[nn] at h;exact of_decide_eq_true h
   refine Aa (fun h=>⟨by show(0:Int)≤(i:Int);omega,ar h⟩) (Aa (fun h _ h3=>?_) An)
   have h4:(i:Int) >0:=of_decide_eq_true h3
   have h5:=ar h
   show(0:Int)≤IntKind.i64.wrap ((i:Int) - 1)∧IntKind.i64.wrap ((i:Int) - 1) <(c.writes.length:Int)
   rw[i64_in (by omega)]
   omega)
 have hr:Eu (l,c.writes,(c.writes.length:Int),0,c)=(l,c.writes,(c.writes.length:Int),(k:Int),c):=hx
 refine⟨Aa (fun _ h=>Bdj (Bks.1 (by
  cases hs:c.site !=1&&c.site !=2 with
  |false=>rfl
  |true=>
   have h':(c.site !=(1:Int)&&c.site !=(2:Int)||decide (c.seq <(1:Int))||decide (c.seq >(1099511627776:Int))||c.stamp.site !=c.site||!C7 c.stamp||!Cx c.vec)=false:=h
   rw[hs] at h'
   simp at h'))) (Aa (fun _ _ _=>h1) An),?_⟩
 unfold Oj OW
 show(bif A1 l !=0 then A1 l else _)=_
 congr 1
 have e0:FT c=!Oq c:=by
  rw[Bb4,Bool.not_not]
  unfold FT Dk
  rw[KO,JJ]
 have e5:FU c=!Atb c:=by
  unfold FU Atb
  have h2:decide ((c.writes.length:Int) <(1:Int))=!decide (1≤c.writes.length):=by rw[←decide_not];exact decide_eq_decide.2 (by omega)
  have h3:decide ((c.writes.length:Int) >(8:Int))=!decide (c.writes.length≤8):=by rw[←decide_not];exact decide_eq_decide.2 (by omega)
  have e9:decide ((c.5.length:Int) <(1:Int))=!decide (1≤c.writes.length):=h2
  have gu:decide ((c.5.length:Int) >(8:Int))=!decide (c.writes.length≤8):=h3
  rw[e9,gu]
  cases decide (1≤c.writes.length)<;>cases decide (c.writes.length≤8)<;>rfl
 rw[e0,e5]
 unfold LW LV RL LU RK
 rw[hr]
 show(bif !Oq c then 120 else bif !Atb c then 120 else bif CL l c.writes (c.writes.length:Int) (k:Int) c then(bif _ then(120:Int) else 120) else 0)=_
 rw[Azd l c k (Nat.le_trans hk hb),aq]
 have hc:∀b:Bool,(bif b then(120:Int) else 120)=120:=fun b=>by cases b<;>rfl
 rw[hc]
 cases Oq c<;>cases Atb c<;>cases JL c.writes.length (fun i=>!Un l c.writes i)<;>rfl
theorem Aed (a0:List Ae) (a1:Ar) (hp:∀p∈QZ a0 a1,p):Ax Bb 33 [.sl .group a0,AX .change a1] 0 [] 1 (RN a0 a1) 0 []:=by
 have hb:AT a1.writes.length:=hp _ (List.mem_cons_self ..)
 have h:=Aip a0 a1 (RJ a0 a1 hb).1
 unfold Ok at h
 rw[(RJ a0 a1 hb).2] at h
 exact h
theorem Q0:IE Bb 33 (Et [.l .group,.t .change] 0 RN (fun _ _=>[]) QZ):=A8 Aed
abbrev C5:Type:=(List AW)×(List AW)×Int
def Aor (x:C5):St:=⟨27,0,[(0,.sl .row x.1),(1,.sl .row x.2.1),(5,iV (x.2.2))],[]⟩
def UR:St→Option C5
 |⟨27,0,[(0,.sl .row z0),(1,.sl .row z1),(5,.v (.int .i64 z2))],[]⟩=>some (z0,z1,z2)
 |_=>none
def Aoq:E2:=⟨0,0,[0,1,5],[],[],[],[4],[]⟩
def Aop:Fz:=⟨[],[],[0,1,5],[]⟩
def Gx (a0:List AW) (a2:Int):Bool:=!!decide (a2 <(a0.length:Int))
def Dt (a0 a1:List AW) (a2:Int):Bool:=(Gx a0 a2)&&!Aiv (a0.getD a2.toNat (Ao TC.row)) (a1.getD a2.toNat (Ao TC.row))
def Ahc (a0 a1:List AW) (a2:Int):Bool:=(Gx a0 a2)&&!(Dt a0 a1 a2)
def GA (x:C5):C5:=(x.1,x.2.1,IntKind.i64.wrap (x.2.2+1))
def Gz (x:C5):DB:=some (Ahc x.1 x.2.1 x.2.2)
def SO:C5→List Prop
  |(a0,a1,a2)=>[((Gx a0 a2)=true→0≤a2∧a2 <(a0.length:Int)),((Gx a0 a2)=true→0≤a2∧a2 <(a1.length:Int)),((Gx a0 a2)=true→Ai (a0.getD a2.toNat (Ao TC.row)).2.length)]
abbrev Jf:C5→List Prop:=SO
def Acw (x:C5):BG:=[(some 0,some (!decide (x.2.2 <(x.1.length:Int))),⟨27,0,[(4,.dead)],[]⟩),(none,some ((Dt x.1 x.2.1 x.2.2)),⟨27,0,[(4,.v (.bool (false)))],[]⟩)]
def Gy (x:C5):Nat:=((x.1.length:Int) - x.2.2).toNat
def EU (x:C5):C5:=Bj GA Gz (Gy x) x
def Ahd:=Jg (CP Cn.1 L0) (AQ Bb 29 0) Aoq Aop UR Gy GA Gz Jf Acw
def XM:=WA 0 (g:=Ahd) (CR (T:=Aor) (psA:=SO) Cn.2 A9 (u:=9) (by kernel_rfl) (by decide) (fun⟨a0,a1,a2⟩=>by kernel_rfl) (fun _ h=>h) (fun s x h=>by unfold UR at h;split at h<;>first|(cases h;rfl)|cases h) (fun _=>Bm (n:=27) rfl) fun _ _=>rfl) ⟨L0,A9⟩
def V9 (a0 a1:List AW):C5:=EU (a0,a1,0)
def Jy (a0 a1:List AW):Bool:=(a0.length:Int) !=(a1.length:Int)
def Zu (a0 a1:List AW):Bool:=bif(Jy a0 a1) then false else bif Dt (V9 a0 a1).1 (V9 a0 a1).2.1 (V9 a0 a1).2.2 then false else true
def Zv (a0 a1:List AW):A:=.v (.bool (Zu a0 a1))
def Ahe (a0 a1:List AW):List Prop:=[((!(Jy a0 a1))=true→A3 GA Gz Jf (Gy (a0,a1,0)) (a0,a1,0))]
theorem Axr (a0 a1:List AW):Tx (CP Cn.1 XM.1) 9 29 [AX .rows a0,AX .rows a1] 0 []=some (1,Zv a0 a1,0,[],[((!(Jy a0 a1))=true→AQ Bb (29:FuncId) 0=AQ Bb (29:FuncId) 0),((!(Jy a0 a1))=true→A3 GA Gz Jf (Gy (a0,a1,0)) (a0,a1,0))]):=by kernel_rfl
theorem A3y (a0 a1:List AW) (hp:∀p∈Ahe a0 a1,p):Ax Bb 29 [AX .rows a0,AX .rows a1] 0 [] 1 (Zv a0 a1) 0 []:=
  Bh (AU Cn.2 XM.2) (Axr a0 a1) (Aa (by intros;rfl) (nT hp fun _=>An))
def Awo (a b:List AW):Bool:=a.length==b.length&&JL a.length fun i=>Aiv (a.getD i (Ao TC.row)) (b.getD i (Ao TC.row))
def Ahf (a0 a1:List AW):A:=.v (.bool (Awo a0 a1))
def Aa5 (a0 _a1:List AW):List Prop:=[AT a0.length,∀r∈a0,Ai r.cells.length]
theorem Ahb (a b:List AW) (hl:AT a.length) (hb:∀r∈a,Ai r.cells.length):(∀p∈Ahe a b,p)∧Zu a b=Awo a b:=by
 unfold AT at hl
 have bu:Jy a b=(a.length !=b.length):=by
  show((a.length:Int) !=(b.length:Int))=_
  rw[Bool.eq_iff_iff,bne_iff_ne,bne_iff_ne];omega
 have main:Jy a b=false→A3 GA Gz Jf (Gy (a,b,0)) (a,b,0)∧Dt (EU (a,b,0)).1 (EU (a,b,0)).2.1 (EU (a,b,0)).2.2=!JL a.length fun i=>Aiv (a.getD i (Ao TC.row)) (b.getD i (Ao TC.row)):=fun h0=>by
  rw[bu] at h0
  have hlen:a.length=b.length:=by simpa using h0
  have hf:∀i:Nat,Dt a b (i:Int)=(decide (i <a.length)&&!Aiv (a.getD i (Ao TC.row)) (b.getD i (Ao TC.row))):=fun i=>by
   unfold Dt Gx
   rw[nn,Ux,Int.toNat_natCast]
  obtain⟨h1,k,hk,hx,_,_,aq⟩:=Abm (fun i=>((a,b,(i:Int)):C5)) a.length (fun i=>!Aiv (a.getD i (Ao TC.row)) (b.getD i (Ao TC.row))) GA Gz Jf (Gy (a,b,0)) (a,b,0) rfl (by show a.length≤((a.length:Int) - 0).toNat;omega)
   (fun i _ _=>by
    show((!!decide ((i:Int) <(a.length:Int)))&&!Dt a b (i:Int))=_
    rw[hf,nn,Ux]
    cases decide (i <a.length)<;>rfl)
   (fun i hi _=>by
    show(a,b,IntKind.i64.wrap ((i:Int)+1))=(a,b,((i+1:Nat):Int))
    rw[JK (by omega)])
   (fun i hi _=>by
    have ar:(!!decide ((i:Int) <(a.length:Int)))=true→(i:Int) <(a.length:Int):=fun h=>by rw[nn] at h;exact of_decide_eq_true h
    refine Aa (fun h=>⟨by show(0:Int)≤(i:Int);omega,ar h⟩) (Aa (fun h=>⟨by show(0:Int)≤(i:Int);omega,by have:=ar h;show(i:Int) <(b.length:Int);omega⟩) (Aa (fun h=>?_) An))
    have h5:=ar h
    have e:((i:Int)).toNat=i:=Int.toNat_natCast i
    show Ai (a.getD ((i:Int)).toNat (Ao TC.row)).2.length
    rw[e]
    exact hb _ (getD_in a (Ao TC.row) i (by omega)))
  refine⟨h1,?_⟩
  have hr:EU (a,b,0)=(a,b,(k:Int)):=hx
  rw[hr]
  show Dt a b (k:Int)=_
  rw[hf,aq]
  congr 1
  exact LR fun i _=>Bool.not_not _
 refine⟨Aa (fun h=>(main (by simpa using h)).1) An,?_⟩
 unfold Zu Awo
 cases h0:Jy a b with
 |true=>
  rw[bu] at h0
  have e:(a.length==b.length)=false:=by simpa using h0
  rw[e]
  rfl
 |false=>
  have h1:=h0
  rw[bu] at h1
  have e:(a.length==b.length)=true:=by simpa using h1
  rw[cond_false,e,Bool.true_and]
  have m:=(main h0).2
  show(!Dt (EU (a,b,0)).1 (EU (a,b,0)).2.1 (EU (a,b,0)).2.2)=_
  rw[m,Bool.not_not]
theorem Axq (a0 a1:List AW) (hp:∀p∈Aa5 a0 a1,p):Ax Bb 29 [AX .rows a0,AX .rows a1] 0 [] 1 (Ahf a0 a1) 0 []:=by
 have hb:AT a0.length:=hp _ (List.mem_cons_self ..)
 have hc:∀r∈a0,Ai r.cells.length:=hp _ (List.mem_cons_of_mem _ (List.mem_cons_self ..))
 have h:=A3y a0 a1 (Ahb a0 a1 hb hc).1
 unfold Zv at h
 rw[(Ahb a0 a1 hb hc).2] at h
 exact h
theorem A2v (a:List AW):Awo a a=true:=by
 unfold Awo
 rw[beq_self_eq_true,Bool.true_and,Fp]
 exact fun i _=>A6p.2 rfl
theorem At0:IE Bb 29 (Et [.t .rows,.t .rows] 0 Ahf (fun _ _=>[]) Aa5):=A8 Axq
theorem A5l {l:List Ae} {c:Ar}:OW l c=0↔A1 l=0∧Oq c=true∧Atb c=true∧∀i,i <c.writes.length→Un l c.writes i=false:=by
 unfold OW
 cases h:A1 l !=0 with
 |true=>
  rw[cond_true]
  have h':A1 l≠0:=by simpa using h
  exact⟨fun e=>absurd e h',fun e=>absurd e.1 h'⟩
 | false=>
  have h':A1 l=0:=by simpa using h
  rw[cond_false]
  cases h1:Oq c with
  |false=>exact⟨fun e=>(by cases e),fun e=>by cases e.2.1⟩
  | true=>
   cases h2:Atb c with
   |false=>exact⟨fun e=>(by cases e),fun e=>by cases e.2.2.1⟩
   | true=>
    rw[Bool.true_and,Bool.true_and]
    cases h3:JL c.writes.length (fun i=>!Un l c.writes i) with
    |false=>
     refine⟨fun e=>(by cases e),fun e=>?_⟩
     have:JL c.writes.length (fun i=>!Un l c.writes i)=true:=Fp.2 fun i hi=>by rw[e.2.2.2 i hi];rfl
     rw[this] at h3
     cases h3
    |true=>exact⟨fun _=>⟨h',rfl,rfl,fun i hi=>by simpa using Fp.1 h3 i hi⟩,fun _=>rfl⟩
theorem Aqf {l:List Ae} {w:AY} (h:Aj7 l w=true):w.key.size≠0∧w.key.size≤32∧0≤w.group∧w.group <(l.length:Int)∧w.value.size≤64∧(w.gone=true→w.value.size=0):=by
 unfold Aj7 at h
 simp only[Bool.and_eq_true,Bool.not_eq_true',beq_eq_false_iff_ne,decide_eq_true_eq,Bool.or_eq_true,beq_iff_eq] at h
 obtain⟨⟨⟨⟨⟨h1,h2⟩,h3⟩,h4⟩,h5⟩,h6⟩:=h
 exact⟨h1,h2,h3,h4,h5,fun e=>by rcases h6 with h6|h6<;>first|exact h6|(rw[e] at h6;cases h6)⟩
theorem A5e {l:List Ae} {ws:List AY} {i:Nat} (h:Un l ws i=false):Aj7 l (wN ws i)=true∧(0 <i→Ad0 (wN ws (i - 1)) (wN ws i)=true):=by
 unfold Un at h
 rw[Bool.or_eq_false_iff] at h
 refine⟨by simpa using h.1,fun hi=>?_⟩
 have:=h.2
 rw[decide_eq_true hi,Bool.true_and] at this
 simpa using this
theorem A27 {c:Ar} (h:Oq c=true):(c.site=1∨c.site=2)∧1≤c.seq∧c.seq≤1099511627776∧c.stamp.site=c.site∧HJ c.stamp=true∧EP c.vec=true:=by
 unfold Oq at h
 simp only[Bool.and_eq_true,Bool.or_eq_true,beq_iff_eq,decide_eq_true_eq] at h
 obtain⟨⟨⟨⟨⟨⟨h1,h2⟩,h3⟩,h4⟩,h5⟩,h6⟩,_⟩:=h
 exact⟨h1,h2,h3,h4,h5,h6⟩
theorem A3t (l:List Ae) (r:AW):(Fh l r).length≤1024:=by
 unfold Fh
 by_cases h:BJ l r=0
 ·obtain⟨h1,h2,_,h4,_⟩:=TD h
  rw[h]
  show(Hm r.key++_).length≤_
  rw[List.length_append,←Adi h2]
  have h5:=V6 r.key
  have h6:=Azz h2 l.length (Nat.le_refl _)
  have h7:=(Qu h1).2
  omega
 ·have:(BJ l r==0)=false:=by simpa using h
  rw[this]
  exact Nat.zero_le _
theorem Bc3 {l:List Ae} {r:AW} (h:BJ l r=0) (b:Ak):Qr (Fh l r++b) l=0∧T1 (Fh l r++b) l=r.key∧R8 (Fh l r++b) l=r.cells∧R7 (Fh l r++b) l=((Fh l r).length:Int):=by
 obtain⟨h1,h2,h3,h4,h5⟩:=TD h
 have hp:Fh l r=Hm r.key++Ls l r.cells l.length:=by
  unfold Fh Aoh
  rw[h,Adi h2]
  rfl
 have hk:CA (Fh l r++b) 32=(r.key,((Hm r.key).length:Int),0):=by
  rw[hp,List.append_assoc]
  exact(rdT (m:=32) (by decide)).back r.key _ (by omega)
 obtain⟨g1,g2,g3⟩:=Asc h2 ((A0c h2).1 h5) (Hm r.key) b l.length (Nat.le_refl _)
 rw[←hp] at g1 g2 g3
 have iy:UD (Fh l r++b)=true:=by
  unfold UD
  rw[hk]
  have:(r.key==⟨#[]⟩)=false:=by
   rw[beq_eq_false_iff_ne]
   intro e
   rw[e] at h3
   exact h3 rfl
  simp[this]
 have hE:Qr (Fh l r++b) l=0:=by
  unfold Qr
  rw[h1,iy,hk]
  have:JL l.length (fun i=>!O1 (Fh l r++b) l ((Hm r.key).length:Int) i)=true:=Fp.2 fun i hi=>by rw[g3 i hi];rfl
  rw[this]
  rfl
 refine⟨hE,?_,?_,?_⟩
 ·unfold T1;rw[hE,hk];rfl
 ·unfold R8
  rw[hE,hk,g2,List.take_of_length_le (by rw[h2];exact Nat.le_refl _)]
  rfl
 ·unfold R7
  rw[hE,hk,g1,hp]
  rfl
def EY (l:Ak):Ak:=bif decide (1048576 <l.length) then[] else Ae1 (181::(AE (l.length:Int)++l))
theorem Xa {α:Type} (f:α→Ak) (l:List α) (d:α) (i:Nat) (h:i <l.length):(l.take (i+1)).flatMap f=(l.take i).flatMap f++f (l.getD i d):=by
 rw[List.take_add_one,List.getElem?_eq_getElem h,List.flatMap_append,List.getD_eq_getElem?_getD,List.getElem?_eq_getElem h]
 simp
theorem NM {α:Type} (f:α→Ak) (n:Nat):∀l:List α,(∀x∈l,(f x).length≤n)→(l.flatMap f).length≤n*l.length
 | [],_=>Nat.zero_le _
 |x::r,h=>by
  have h1:=h x (List.mem_cons_self ..)
  have h2:=NM f n r fun y hy=>h y (List.mem_cons_of_mem _ hy)
  rw[List.flatMap_cons,List.length_append,List.length_cons,Nat.mul_add,Nat.mul_one]
  omega
def Hd (w:AY):Ak:=Hm w.key++AE w.group++bif w.gone then AE 1 else AE 0++Hm w.value
def Aam (c:Ar):Ak:=AE c.site++AE c.seq++Mr c.stamp++GY c.vec++AE (c.writes.length:Int)
def Kg (l:List Ae) (c:Ar):Ak:=bif OW l c==0 then Aam c++c.writes.flatMap Hd else[]
theorem A26 (c:Ar):(Aam c).length≤48:=by
 unfold Aam
 simp only[List.length_append]
 have h1:=DJ c.site
 have h2:=DJ c.seq
 have h3:=Aoi c.stamp
 have h4:=TL c.vec
 have h5:=DJ (c.writes.length:Int)
 omega
theorem Alk {l:List Ae} {w:AY} (h:Aj7 l w=true):(Hd w).length≤128:=by
 obtain⟨_,h1,_,_,h2,_⟩:=Aqf h
 unfold Hd
 have h3:=V6 w.key
 have h4:=DJ w.group
 have h5:=DJ 1
 have h6:=DJ 0
 have h7:=V6 w.value
 rw[List.length_append,List.length_append]
 cases w.gone with
 |true=>rw[cond_true];omega
 |false=>rw[cond_false,List.length_append];omega
theorem Aec {l:List Ae} {c:Ar} (h:OW l c=0):c.writes.length≤8∧∀w∈c.writes,Aj7 l w=true:=by
 obtain⟨_,_,h3,h4⟩:=A5l.1 h
 unfold Atb at h3
 rw[Bool.and_eq_true,decide_eq_true_eq,decide_eq_true_eq] at h3
 refine⟨h3.2,fun w hw=>?_⟩
 obtain⟨i,hi,rfl⟩:=List.mem_iff_getElem.1 hw
 have:=(A5e (h4 i hi)).1
 unfold wN at this
 rwa[List.getD_eq_getElem?_getD,List.getElem?_eq_getElem hi] at this
theorem A3s (l:List Ae) (c:Ar):(Kg l c).length≤1072:=by
 unfold Kg
 cases h:OW l c==0 with
 |false=>exact Nat.zero_le _
 |true=>
  have h0:OW l c=0:=by simpa using h
  obtain⟨h1,h2⟩:=Aec h0
  have h3:=NM Hd 128 c.writes fun w hw=>Alk (h2 w hw)
  have h4:=A26 c
  rw[cond_true,List.length_append]
  omega
def Rz {α:Type} (q:α→α→Bool) (d:α) (a b:List α):Bool:=a.length==b.length&&JL a.length fun i=>q (a.getD i d) (b.getD i d)
theorem Ym {α:Type} {q:α→α→Bool} (h:∀x,q x x=true) (d:α) (a:List α):Rz q d a a=true:=by
 unfold Rz
 rw[beq_self_eq_true,Bool.true_and,Fp]
 exact fun i _=>h _
theorem Bgj {α:Type} (a b:List α) (d:α) (q:α→α→Bool) {next:List α×List α×Int→List α×List α×Int} {goes:List α×List α×Int→DB} {ps:List α×List α×Int→List Prop} {fuel:Nat} (f:List α→List α→Int→Bool) (hl:AT a.length) (rq:a.length≤fuel) (hf:∀i:Nat,f a b (i:Int)=(decide (i <a.length)&&!q (a.getD i d) (b.getD i d))) (hg:∀i:Nat,Br (goes (a,b,(i:Int)))=((!!decide ((i:Int) <(a.length:Int)))&&!f a b (i:Int))) (hn:∀i:Nat,next (a,b,(i:Int))=(a,b,IntKind.i64.wrap ((i:Int)+1))) (hp:∀i:Nat,i≤a.length→∀p∈ps (a,b,(i:Int)),p):
  A3 next goes ps fuel (a,b,0)∧f (Bj next goes fuel (a,b,0)).1 (Bj next goes fuel (a,b,0)).2.1 (Bj next goes fuel (a,b,0)).2.2=!JL a.length fun i=>q (a.getD i d) (b.getD i d):=by
 unfold AT at hl
 obtain⟨h1,k,hk,hx,_,_,aq⟩:=Abm (fun i=>(a,b,(i:Int))) a.length (fun i=>!q (a.getD i d) (b.getD i d)) next goes ps fuel (a,b,0) rfl rq
  (fun i _ _=>by
   rw[hg,hf,nn,Ux]
   cases decide (i <a.length)<;>rfl)
  (fun i hi _=>by rw[hn,JK (by omega)])
  (fun i hi _=>hp i hi)
 refine⟨h1,?_⟩
 rw[hx]
 show f a b (k:Int)=_
 rw[hf,aq]
 congr 1
 exact LR fun i _=>Bool.not_not _
theorem A7n (a b:Nat):((a:Int) !=(b:Int))=!(a==b):=by
 rw[Bool.eq_iff_iff,bne_iff_ne,Bool.not_eq_true',beq_eq_false_iff_ne];omega
def eqI (a b:Int):Bool:=a==b
def Awp (a b:AY):Bool:=a.key.toList==b.key.toList&&(a.group==b.group&&(a.gone==b.gone&&a.value.toList==b.value.toList))
def Bbo (a b:Ak):Nat→Nat→Bool
 |_,0=>true
 |i,n+1=>((a.getD i 0).toNat:Int)==((b.getD i 0).toNat:Int)&&Bbo a b (i+1) n
def eqD (a b:Ak):Bool:=Bbo a b 0 32
theorem Akv (a:Ak):∀n i,Bbo a a i n=true
 |0,_=>rfl
 |n+1,i=>by unfold Bbo;rw[beq_self_eq_true,Akv a n];rfl
theorem A6j (a:Ak):eqD a a=true:=Akv a 32 0
theorem A2w (a:AY):Awp a a=true:=by unfold Awp;simp only[beq_self_eq_true,Bool.and_self]
def A6i (a b:Ar):Bool:=a.site==b.site&&a.seq==b.seq&&(a.stamp.n==b.stamp.n&&a.stamp.site==b.stamp.site)&&(a.vec.a==b.vec.a&&a.vec.b==b.vec.b)&&Rz Awp (Ao TC.write) a.writes b.writes
def eqM (a b:AS):Bool:=a.kind==b.kind&&a.site==b.site&&A6i a.change b.change&&a.ack==b.ack&&a.own==b.own&&Rz eqI (Ao TC.i64) a.path b.path&&Rz eqD (Ao TC.digest) a.sums b.sums&&Awo a.rows b.rows&&(a.know.a==b.know.a&&a.know.b==b.know.b)&&a.back==b.back
theorem A2t (a:Ar):A6i a a=true:=by unfold A6i;simp only[beq_self_eq_true,Ym A2w,Bool.and_self]
theorem A6m (a:Int):eqI a a=true:=beq_self_eq_true a
theorem A6n (a:AS):eqM a a=true:=by unfold eqM;simp only[beq_self_eq_true,A2t,Ym A6m,Ym A6j,A2v,Bool.and_self]
def Rh (l:List Int):Bool:=JL l.length (fun i=>decide (0≤l.getD i 0)&&decide (l.getD i 0≤15))&&decide (l.length≤2)
def ZH (n:Int):Bool:=decide (0≤n)&&decide (n≤1099511627776)
def zA (m:AS):Bool:=m.ack==0&&m.own==0
def zL (m:AS):Bool:=m.rows.length==0&&(m.know.a==0&&m.know.b==0)&&!m.back
def zC (c:Ar):Bool:=c.site==0&&c.seq==0&&(c.stamp.n==0&&c.stamp.site==0)&&(c.vec.a==0&&c.vec.b==0)&&c.writes.length==0
def Uo (m:AS):Bool:=(m.kind==3||m.kind==4||m.sums.length==0)&&(m.kind==2||zA m)&&(m.kind==3||m.kind==4||m.kind==5||m.path.length==0)&&(m.kind==5||zL m)&&(m.kind==1||zC m.change)
def Afd (l:List Ae) (m:AS):Bool:=bif m.kind==1 then m.change.site==m.site&&OW l m.change==0 else bif m.kind==2 then ZH m.ack&&ZH m.own else bif m.kind==3 then(m.sums.length:Int)==1 else bif m.kind==4 then(m.sums.length:Int)==16&&decide ((m.path.length:Int) <2) else
 bif m.kind==5 then(m.path.length:Int)==2&&decide ((m.rows.length:Int)≤256)&&EP m.know&&Pn l m.rows==0 else false
def okW (l:List Ae) (m:AS):Bool:=Uo m&&Rh m.path&&(m.site==1||m.site==2)&&Afd l m
def Dn (l:List Ae) (m:AS):Int:=bif A1 l !=0 then A1 l else bif okW l m then 0 else 140
def A7m (n:Int):ByteArray:=bif n==1 then⟨#[100,97,116,97]⟩ else bif n==2 then⟨#[97,99,107]⟩ else bif n==3 then⟨#[97,115,107]⟩ else bif n==4 then⟨#[116,101,108,108]⟩ else bif n==5 then⟨#[108,101,97,102]⟩ else⟨#[]⟩
theorem kinds (n:Int):((n==1)=true∧(n==2)=false∧(n==3)=false∧(n==4)=false∧(n==5)=false)∨((n==1)=false∧(n==2)=true∧(n==3)=false∧(n==4)=false∧(n==5)=false)∨
  ((n==1)=false∧(n==2)=false∧(n==3)=true∧(n==4)=false∧(n==5)=false)∨((n==1)=false∧(n==2)=false∧(n==3)=false∧(n==4)=true∧(n==5)=false)∨
  ((n==1)=false∧(n==2)=false∧(n==3)=false∧(n==4)=false∧(n==5)=true)∨((n==1)=false∧(n==2)=false∧(n==3)=false∧(n==4)=false∧(n==5)=false):=by
 simp only[beq_iff_eq,beq_eq_false_iff_ne]
 omega
def JH (l:List Int):Ak:=AE (l.length:Int)++l.flatMap AE
def Bjc:=Gi RS Cg
def A41:=Gi Q0 Bjc
def EM (a0:Ak):Bool:=decide ((a0.length:Int) >1048576)
def KH (a0:Ak):Ak:=[UInt8.ofNat 181]++AE (a0.length:Int)++a0
def Xe (a0:Ak):Ak:=bif(EM a0) then[] else Ae1 (KH a0)
def Xf (_a0:Ak):A:=.sq 0
def Lt (a0:Ak):AJ:=[(0,some (.arr 5 1 (.ty .u8 (Xe a0))))]
def Ai1 (a0:Ak):List Prop:=[((!(EM a0))=true→Ai (([UInt8.ofNat 181]++AE (a0.length:Int)).length+a0.length)),((!(EM a0))=true→Ai ((KH a0).length+4))]
theorem Ai0 (a0:Ak):Tx (CP A41.1 L0) 9 18 [AX .bytes a0] 0 []=some (1,Xf a0,1,Lt a0,[((!(EM a0))=true→(0:Int)≤181∧(181:Int) <256),((!(EM a0))=true→Ai 9),((!(EM a0))=true→Ai (([UInt8.ofNat 181]++AE (a0.length:Int)).length+a0.length)),((!(EM a0))=true→Ai ((KH a0).length+4))]):=by kernel_rfl
theorem Ang (a0:Ak) (hp:∀p∈Ai1 a0,p):Ax Bb 18 [AX .bytes a0] 0 [] 1 (Xf a0) 1 (Lt a0):=
  Bh (AU A41.2 A9) (Ai0 a0) (Aa (by omega) (Aa (by intros;first|rfl|decide+kernel|exact⟨by decide,by decide⟩) (nT hp fun hp=>nT hp fun _=>An)))
def UB (_a0:Ak):A:=.sq 0
def KI (a0:Ak):AJ:=[(0,some (.arr 5 1 (.ty .u8 (EY a0))))]
def R4 (_a0:Ak):List Prop:=[]
theorem Aiz (a0:Ak) (_hp:∀p∈R4 a0,p):Ax Bb 18 [AX .bytes a0] 0 [] 1 (UB a0) 1 (KI a0):=by
 have h8:=DJ (a0.length:Int)
 have k1:EM a0=decide (1048576 <a0.length):=decide_eq_decide.2 (by omega)
 have hs:(!(EM a0))=true→a0.length≤1048576:=fun h=>by
  rw[k1,Bool.not_eq_true',decide_eq_false_iff_not] at h
  omega
 have hl:(KH a0).length=1+(AE (a0.length:Int)).length+a0.length:=by
  show(([UInt8.ofNat 181]++AE (a0.length:Int))++a0).length=_
  rw[List.length_append,List.length_append]
  rfl
 have h:=Ang a0 (Aa (fun h=>by have:=hs h;rw[List.length_append,List.length_singleton];unfold Ai;omega) (Aa (fun h=>by have:=hs h;rw[hl];unfold Ai;omega) An))
 have e:Lt a0=KI a0:=by
  unfold Lt KI Xe EY
  rw[k1]
  rfl
 rw[e] at h
 exact h
theorem Ae4:IE Bb 18 (Et [.t .bytes] 1 UB KI R4):=A8 Aiz
def Aqh:=Gi Ae4 A41
abbrev Cc:Type:=(List AY)×Int×Int×Ak
def Ab9 (x:Cc):St:=⟨60,7,[(0,.sq 6),(36,.sl .write x.1),(37,iV (x.2.1)),(38,iV (x.2.2.1))],[(6,some (.arr 5 1 (.ty .u8 x.2.2.2)))]⟩
def O8:St→Option Cc
 |⟨60,7,[(0,.sq 6),(36,.sl .write z0),(37,.v (.int .i64 z1)),(38,.v (.int .i64 z2))],[(6,some (.arr 5 1 (.ty .u8 z3)))]⟩=>some (z0,z1,z2,z3)
 |_=>none
def Ab8:E2:=⟨6,7,[0,36,37,38],[],[(12,6)],[12],[0],[6]⟩
def Ab7:Fz:=⟨[],[(5,6)],[0,36,37,38],[5]⟩
def Cw (a0:List AY) (a2:Int) (a3:Ak):Ak:=a3++Hm (a0.getD a2.toNat (Ao TC.write)).1++AE (a0.getD a2.toNat (Ao TC.write)).2
def Ev (a0:List AY) (a2:Int) (a3:Ak):Ak:=(Cw a0 a2 a3)++AE 0
def JM (a0:List AY) (a2:Int) (a3:Ak):Ak:=bif(a0.getD a2.toNat (Ao TC.write)).3 then(Cw a0 a2 a3)++AE 1 else(Ev a0 a2 a3)++Hm (a0.getD a2.toNat (Ao TC.write)).4
def Ey:Cc→Cc
  |(a0,a1,a2,a3)=>(a0,a1,IntKind.i64.wrap (a2+1),JM a0 a2 a3)
def Ex (x:Cc):DB:=some (!!decide (x.2.2.1 <x.2.1))
def M3:Cc→List Prop
  |(a0,a1,a2,a3)=>[((!!decide (a2 <a1))=true→0≤a2∧a2 <(a0.length:Int)),((!!decide (a2 <a1))=true→Ai (a3.length+8+(a0.getD a2.toNat (Ao TC.write)).1.size)),((!!decide (a2 <a1))=true→Ai ((a3++Hm (a0.getD a2.toNat (Ao TC.write)).1).length+8)),((!!decide (a2 <a1))=true→(a0.getD a2.toNat (Ao TC.write)).3=true→Ai ((Cw a0 a2 a3).length+8)),((!!decide (a2 <a1))=true→(!(a0.getD a2.toNat (Ao TC.write)).3)=true→Ai ((Cw a0 a2 a3).length+8)),((!!decide (a2 <a1))=true→(!(a0.getD a2.toNat (Ao TC.write)).3)=true→Ai ((Ev a0 a2 a3).length+8+(a0.getD a2.toNat (Ao TC.write)).4.size))]
abbrev G6:Cc→List Prop:=M3
def Vr (x:Cc):BG:=[(some 0,some (!decide (x.2.2.1 <x.2.1)),⟨60,7,[(0,.sq 6)],[(6,some (.arr 5 1 (.ty .u8 x.2.2.2)))]⟩)]
def Ew (x:Cc):Nat:=(x.2.1 - x.2.2.1).toNat
def JN (x:Cc):Cc:=Bj Ey Ex (Ew x) x
def WP:=Jg (CP Aqh.1 L0) (AQ Bb 15 0) Ab8 Ab7 O8 Ew Ey Ex G6 Vr
def Q1:=WA 0 (g:=WP) (CR (T:=Ab9) (psA:=M3) Aqh.2 A9 (u:=9) (by kernel_rfl) (by decide) (fun⟨a0,a1,a2,a3⟩=>by kernel_rfl) (fun _ h=>h) (fun s x h=>by unfold O8 at h;split at h<;>first|(cases h;rfl)|cases h) (fun _=>Bm (n:=60) rfl) fun _ _=>rfl) ⟨L0,A9⟩
def Bl (a1:List Ae) (a2:Ar):Bool:=OW a1 a2 !=0
def EG (a0:Ak) (a2:Ar):Ak:=a0++AE a2.1++AE a2.2
def Cu (a0:Ak) (a2:Ar):Ak:=(EG a0 a2)++Mr a2.3++GY a2.4
def P3 (a0:Ak) (a1:List Ae) (a2:Ar):Ak:=bif(Bl a1 a2) then[]++a0 else(JN (a2.5,(a2.5.length:Int),0,(Cu a0 a2)++AE (a2.5.length:Int))).2.2.2
def WQ (_a0:Ak) (_a1:List Ae) (_a2:Ar):A:=.sq 0
def P4 (a0:Ak) (a1:List Ae) (a2:Ar):AJ:=[(0,some (.arr 5 1 (.ty .u8 (P3 a0 a1 a2))))]
def Ais (a0:Ak) (a1:List Ae) (a2:Ar):List Prop:=[(AT a2.5.length),((Bl a1 a2)=true→Ai (0+a0.length)),((!(Bl a1 a2))=true→Ai (a0.length+8)),((!(Bl a1 a2))=true→Ai ((a0++AE a2.1).length+8)),((!(Bl a1 a2))=true→Ai ((EG a0 a2).length+8)),((!(Bl a1 a2))=true→Ai (((EG a0 a2)++Mr a2.3).length+16)),((!(Bl a1 a2))=true→Ai ((Cu a0 a2).length+8)),((!(Bl a1 a2))=true→A3 Ey Ex G6 (Ew (a2.5,(a2.5.length:Int),0,(Cu a0 a2)++AE (a2.5.length:Int))) (a2.5,(a2.5.length:Int),0,(Cu a0 a2)++AE (a2.5.length:Int)))]
theorem Air (a0:Ak) (a1:List Ae) (a2:Ar):Tx (CP Aqh.1 Q1.1) 9 15 [AX .bytes a0,.sl .group a1,AX .change a2] 0 []=some (1,WQ a0 a1 a2,1,P4 a0 a1 a2,[(AT a2.5.length),((Bl a1 a2)=true→Ai (0+a0.length)),((!(Bl a1 a2))=true→Ai (a0.length+8)),((!(Bl a1 a2))=true→Ai ((a0++AE a2.1).length+8)),((!(Bl a1 a2))=true→Ai ((EG a0 a2).length+8)),((!(Bl a1 a2))=true→Ai (((EG a0 a2)++Mr a2.3).length+16)),((!(Bl a1 a2))=true→Ai ((Cu a0 a2).length+8)),((!(Bl a1 a2))=true→AQ Bb (15:FuncId) 0=AQ Bb (15:FuncId) 0),((!(Bl a1 a2))=true→A3 Ey Ex G6 (Ew (a2.5,(a2.5.length:Int),0,(Cu a0 a2)++AE (a2.5.length:Int))) (a2.5,(a2.5.length:Int),0,(Cu a0 a2)++AE (a2.5.length:Int)))]):=by kernel_rfl
theorem Amm (a0:Ak) (a1:List Ae) (a2:Ar) (hp:∀p∈Ais a0 a1 a2,p):Ax Bb 15 [AX .bytes a0,.sl .group a1,AX .change a2] 0 [] 1 (WQ a0 a1 a2) 1 (P4 a0 a1 a2):=
  Bh (AU Aqh.2 Q1.2) (Air a0 a1 a2) (nT hp fun hp=>nT hp fun hp=>nT hp fun hp=>nT hp fun hp=>nT hp fun hp=>nT hp fun hp=>nT hp fun hp=>Aa (by intros;rfl) (nT hp fun _=>An))
def Ut (_a0:Ak) (_a1:List Ae) (_a2:Ar):A:=.sq 0
def Us (a0:Ak) (a1:List Ae) (a2:Ar):AJ:=[(0,some (.arr 5 1 (.ty .u8 (a0++Kg a1 a2))))]
def RO (a0:Ak) (_a1:List Ae) (a2:Ar):List Prop:=[AT a2.writes.length∧Ai (a0.length+2048)]
theorem Bby {l:List Ae} {c:Ar} (h:OW l c=0) (i:Nat) (hi:i≤c.writes.length):((c.writes.take i).flatMap Hd).length≤128*i:=by
 have:=NM Hd 128 (c.writes.take i) fun w hw=>Alk ((Aec h).2 w (List.mem_of_mem_take hw))
 rwa[List.length_take,Nat.min_eq_left hi] at this
theorem Beg (pre:Ak) (w:AY):(bif w.gone then pre++Hm w.key++AE w.group++AE 1 else pre++Hm w.key++AE w.group++AE 0++Hm w.value)=pre++Hd w:=by
 unfold Hd
 cases w.gone<;>simp only[cond_true,cond_false,List.append_assoc]
theorem Aca {l:List Ae} {c:Ar} (h:OW l c=0) (pre:Ak) (hb:Ai (pre.length+1100)):
  A3 Ey Ex G6 (Ew (c.writes,(c.writes.length:Int),0,pre)) (c.writes,(c.writes.length:Int),0,pre)∧JN (c.writes,(c.writes.length:Int),0,pre)=(c.writes,(c.writes.length:Int),(c.writes.length:Int),pre++c.writes.flatMap Hd):=by
 obtain⟨h8,hw⟩:=Aec h
 unfold Ai at hb
 obtain⟨h1,h2⟩:=A36 (fun i=>((c.writes,(c.writes.length:Int),(i:Int),pre++(c.writes.take i).flatMap Hd):Cc)) c.writes.length Ey Ex G6 (Ew (c.writes,(c.writes.length:Int),0,pre)) (c.writes,(c.writes.length:Int),0,pre) (by simp) (by show c.writes.length≤((c.writes.length:Int) - 0).toNat;omega)
  (fun i _=>by
   show(!!decide ((i:Int) <(c.writes.length:Int)))=_
   rw[nn,Ux])
  (fun i hi=>by
   show(c.writes,(c.writes.length:Int),IntKind.i64.wrap ((i:Int)+1),JM c.writes (i:Int) (pre++(c.writes.take i).flatMap Hd))=_
   rw[JK (by omega),Xa Hd c.writes (Ao TC.write) i hi,←List.append_assoc]
   unfold JM Ev Cw
   rw[Int.toNat_natCast]
   exact congrArg (fun x=>(c.writes,(c.writes.length:Int),((i+1:Nat):Int),x)) (Beg _ (c.writes.getD i (Ao TC.write))))
  (fun i hi=>by
   have ar:(!!decide ((i:Int) <(c.writes.length:Int)))=true→i <c.writes.length:=fun h=>by rw[nn] at h;have:=of_decide_eq_true h;omega
   have hl:=Bby h i hi
   have hk:i <c.writes.length→_:=fun hi=>Aqf (hw _ (getD_in c.writes (Ao TC.write) i hi))
   have ht:=V6 (c.writes.getD i (Ao TC.write)).key
   have hn:=DJ (c.writes.getD i (Ao TC.write)).group
   have h0:=DJ 0
   have e1:(Cw c.writes (i:Int) (pre++(c.writes.take i).flatMap Hd)).length=pre.length+((c.writes.take i).flatMap Hd).length+(Hm (c.writes.getD i (Ao TC.write)).key).length+(AE (c.writes.getD i (Ao TC.write)).group).length:=by
    unfold Cw
    rw[Int.toNat_natCast,List.length_append,List.length_append,List.length_append]
   have e0:(Ev c.writes (i:Int) (pre++(c.writes.take i).flatMap Hd)).length≤pre.length+((c.writes.take i).flatMap Hd).length+(Hm (c.writes.getD i (Ao TC.write)).key).length+(AE (c.writes.getD i (Ao TC.write)).group).length+8:=by
    unfold Ev
    rw[List.length_append,e1]
    omega
   refine Aa (fun h=>by have:=ar h;show(0:Int)≤(i:Int)∧(i:Int) <(c.writes.length:Int);omega) (Aa (fun h=>?_) (Aa (fun h=>?_) (Aa (fun h _=>?_) (Aa (fun h _=>?_) (Aa (fun h _=>?_) An)))))
   ·have h9:=ar h
    obtain⟨_,k1,_,_,k2,_⟩:=hk h9
    show Ai ((pre++(c.writes.take i).flatMap Hd).length+8+(c.writes.getD ((i:Int)).toNat (Ao TC.write)).key.size)
    rw[Int.toNat_natCast,List.length_append]
    unfold Ai;omega
   ·have h9:=ar h
    obtain⟨_,k1,_,_,k2,_⟩:=hk h9
    show Ai (((pre++(c.writes.take i).flatMap Hd)++Hm (c.writes.getD ((i:Int)).toNat (Ao TC.write)).key).length+8)
    rw[Int.toNat_natCast,List.length_append,List.length_append]
    unfold Ai;omega
   ·have h9:=ar h
    obtain⟨_,k1,_,_,k2,_⟩:=hk h9
    show Ai ((Cw c.writes (i:Int) (pre++(c.writes.take i).flatMap Hd)).length+8)
    rw[e1];unfold Ai;omega
   ·have h9:=ar h
    obtain⟨_,k1,_,_,k2,_⟩:=hk h9
    show Ai ((Cw c.writes (i:Int) (pre++(c.writes.take i).flatMap Hd)).length+8)
    rw[e1];unfold Ai;omega
   ·have h9:=ar h
    obtain⟨_,k1,_,_,k2,_⟩:=hk h9
    show Ai ((Ev c.writes (i:Int) (pre++(c.writes.take i).flatMap Hd)).length+8+(c.writes.getD ((i:Int)).toNat (Ao TC.write)).value.size)
    rw[Int.toNat_natCast]
    unfold Ai;omega)
 exact⟨h1,by show Bj _ _ _ _=_;rw[h2,List.take_length]⟩
theorem Aiq (a0:Ak) (a1:List Ae) (a2:Ar) (hp:∀p∈RO a0 a1 a2,p):Ax Bb 15 [AX .bytes a0,.sl .group a1,AX .change a2] 0 [] 1 (Ut a0 a1 a2) 1 (Us a0 a1 a2):=by
 obtain⟨hw,hb⟩:=hp _ (List.mem_cons_self ..)
 unfold Ai at hb
 have h1:=DJ a2.site
 have h2:=DJ a2.seq
 have h3:=Aoi a2.stamp
 have h4:=TL a2.vec
 have h5:=DJ (a2.writes.length:Int)
 have e1:(EG a0 a2).length=a0.length+(AE a2.site).length+(AE a2.seq).length:=by unfold EG;rw[List.length_append,List.length_append]
 have e0:(Cu a0 a2).length=a0.length+(AE a2.site).length+(AE a2.seq).length+(Mr a2.stamp).length+(GY a2.vec).length:=by unfold Cu;rw[List.length_append,List.length_append,e1]
 have ek:Cu a0 a2++AE (a2.writes.length:Int)=a0++Aam a2:=by
  unfold Cu EG Aam
  simp only[List.append_assoc]
 have ar:(!(Bl a1 a2))=true→OW a1 a2=0:=fun h=>by unfold Bl at h;simpa using h
 have lp:OW a1 a2=0→_:=fun h=>Aca h (Cu a0 a2++AE (a2.writes.length:Int)) (by rw[List.length_append,e0];unfold Ai;omega)
 have h:=Amm a0 a1 a2 (Aa hw (Aa (fun _=>by unfold Ai;omega) (Aa (fun _=>by unfold Ai;omega) (Aa (fun _=>by show Ai ((a0++AE a2.site).length+8);rw[List.length_append];unfold Ai;omega) (Aa (fun _=>by rw[e1];unfold Ai;omega) (Aa (fun _=>by show Ai ((EG a0 a2++Mr a2.stamp).length+16);rw[List.length_append,e1];unfold Ai;omega) (Aa (fun _=>by rw[e0];unfold Ai;omega) (Aa (fun h=>(lp (ar h)).1) An))))))))
 have e:P3 a0 a1 a2=a0++Kg a1 a2:=by
  unfold P3 Kg Bl
  cases hc:OW a1 a2==0 with
  |false=>
   rw[show(OW a1 a2 !=0)=true by unfold bne;rw[hc];rfl]
   show[]++a0=a0++[]
   rw[List.append_nil,List.nil_append]
  |true=>
   rw[show(OW a1 a2 !=0)=false by unfold bne;rw[hc];rfl,cond_false,cond_true]
   have q:=(lp (by simpa using hc)).2
   have q':(JN (a2.5,(a2.5.length:Int),0,Cu a0 a2++AE (a2.5.length:Int))).2.2.2=(Cu a0 a2++AE (a2.writes.length:Int))++a2.writes.flatMap Hd:=congrArg (fun x=>x.2.2.2) q
   rw[q',ek,List.append_assoc]
 unfold P4 at h
 rw[e] at h
 exact h
theorem Aef:IE Bb 15 (Et [.t .bytes,.l .group,.t .change] 1 Ut Us RO):=A8 Aiq
def Bjd:=Gi Aef Aqh
theorem Bhg (l:List Int) (i:Nat) (hi:i≤l.length):((l.take i).flatMap AE).length≤8*i:=by
 have:=NM AE 8 (l.take i) fun n _=>DJ n
 rwa[List.length_take,Nat.min_eq_left hi] at this
abbrev Cwb:=Bjd
def Bje:=Gi Jl Cwb
def Bjf:=Gi Sp Bje
def Aqi:=Gi At0 Bjf
abbrev CY:Type:=(List Int)×(List Int)×Int
def Aji (x:CY):St:=⟨26,0,[(0,.sl .i64 x.1),(1,.sl .i64 x.2.1),(5,iV (x.2.2))],[]⟩
def SN:St→Option CY
 |⟨26,0,[(0,.sl .i64 z0),(1,.sl .i64 z1),(5,.v (.int .i64 z2))],[]⟩=>some (z0,z1,z2)
 |_=>none
def Ajh:E2:=⟨0,0,[0,1,5],[],[],[],[4],[]⟩
def Ajg:Fz:=⟨[],[],[0,1,5],[]⟩
def IP (a0:List Int) (a2:Int):Bool:=!!decide (a2 <(a0.length:Int))
def FN (a0 a1:List Int) (a2:Int):Bool:=(IP a0 a2)&&a0.getD a2.toNat (Ao TC.i64) !=a1.getD a2.toNat (Ao TC.i64)
def Acu (a0 a1:List Int) (a2:Int):Bool:=(IP a0 a2)&&!(FN a0 a1 a2)
def Hg (x:CY):CY:=(x.1,x.2.1,IntKind.i64.wrap (x.2.2+1))
def Hf (x:CY):DB:=some (Acu x.1 x.2.1 x.2.2)
def Rm:CY→List Prop
  |(a0,a1,a2)=>[((IP a0 a2)=true→0≤a2∧a2 <(a0.length:Int)),((IP a0 a2)=true→0≤a2∧a2 <(a1.length:Int))]
abbrev J3:CY→List Prop:=Rm
def Zt (x:CY):BG:=[(some 0,some (!decide (x.2.2 <(x.1.length:Int))),⟨26,0,[(4,.dead)],[]⟩),(none,some ((FN x.1 x.2.1 x.2.2)),⟨26,0,[(4,.v (.bool (false)))],[]⟩)]
def He (x:CY):Nat:=((x.1.length:Int) - x.2.2).toNat
def Fo (x:CY):CY:=Bj Hg Hf (He x) x
def Acv:=Jg (CP Aqi.1 L0) (AQ Bb 27 0) Ajh Ajg SN He Hg Hf J3 Zt
def UQ:=WA 0 (g:=Acv) (CR (T:=Aji) (psA:=Rm) Aqi.2 A9 (u:=9) (by kernel_rfl) (by decide) (fun⟨a0,a1,a2⟩=>by kernel_rfl) (fun _ h=>h) (fun s x h=>by unfold SN at h;split at h<;>first|(cases h;rfl)|cases h) (fun _=>Bm (n:=26) rfl) fun _ _=>rfl) ⟨L0,A9⟩
def SM (a0 a1:List Int):CY:=Fo (a0,a1,0)
def N5 (a0 a1:List Int):Bool:=(a0.length:Int) !=(a1.length:Int)
def Ag9 (a0 a1:List Int):Bool:=bif(N5 a0 a1) then false else bif FN (SM a0 a1).1 (SM a0 a1).2.1 (SM a0 a1).2.2 then false else true
def V7 (a0 a1:List Int):A:=.v (.bool (Ag9 a0 a1))
def Aa2 (a0 a1:List Int):List Prop:=[((!(N5 a0 a1))=true→A3 Hg Hf J3 (He (a0,a1,0)) (a0,a1,0))]
theorem Atx (a0 a1:List Int):Tx (CP Aqi.1 UQ.1) 9 27 [AX .ints a0,AX .ints a1] 0 []=some (1,V7 a0 a1,0,[],[((!(N5 a0 a1))=true→AQ Bb (27:FuncId) 0=AQ Bb (27:FuncId) 0),((!(N5 a0 a1))=true→A3 Hg Hf J3 (He (a0,a1,0)) (a0,a1,0))]):=by kernel_rfl
theorem Axo (a0 a1:List Int) (hp:∀p∈Aa2 a0 a1,p):Ax Bb 27 [AX .ints a0,AX .ints a1] 0 [] 1 (V7 a0 a1) 0 []:=
  Bh (AU Aqi.2 UQ.2) (Atx a0 a1) (Aa (by intros;rfl) (nT hp fun _=>An))
def Aa3 (a0 a1:List Int):A:=.v (.bool (Rz eqI (Ao TC.i64) a0 a1))
def XK (a0 _a1:List Int):List Prop:=[AT a0.length]
theorem Atw (a b:List Int) (hl:AT a.length):(∀p∈Aa2 a b,p)∧Ag9 a b=Rz eqI (Ao TC.i64) a b:=by
 have bu:((a.length:Int) !=(b.length:Int))=!(a.length==b.length):=A7n _ _
 have main:(a.length==b.length)=true→_:=fun hlen=>Bgj a b (Ao TC.i64) eqI (next:=Hg) (goes:=Hf) (ps:=J3) (fuel:=He (a,b,0)) FN hl (by show a.length≤((a.length:Int) - 0).toNat;omega) (fun i=>by
   show((!!decide ((i:Int) <(a.length:Int)))&&!_)=_
   rw[nn,Ux,Int.toNat_natCast]
   rfl) (fun i=>rfl) (fun i=>rfl) (fun i hi=>by
   have kh:a.length=b.length:=by simpa using hlen
   have ar:(!!decide ((i:Int) <(a.length:Int)))=true→(i:Int) <(a.length:Int):=fun h=>by rw[nn] at h;exact of_decide_eq_true h
   exact Aa (fun h=>⟨by show(0:Int)≤(i:Int);omega,ar h⟩) (Aa (fun h=>⟨by show(0:Int)≤(i:Int);omega,by have:=ar h;show(i:Int) <(b.length:Int);omega⟩) An))
 refine⟨Aa (fun h=>(main (by
  have h':(!((a.length:Int) !=(b.length:Int)))=true:=h
  rwa[bu,Bool.not_not] at h')).1) An,?_⟩
 show(bif((a.length:Int) !=(b.length:Int)) then false else !FN (Fo (a,b,0)).1 (Fo (a,b,0)).2.1 (Fo (a,b,0)).2.2)=_
 rw[bu]
 unfold Rz
 cases h0:a.length==b.length with
 |false=>rfl
 |true=>
  have m:=(main h0).2
  rw[Bool.not_true,cond_false,Bool.true_and]
  have m':FN (Fo (a,b,0)).1 (Fo (a,b,0)).2.1 (Fo (a,b,0)).2.2=_:=m
  rw[m',Bool.not_not]
theorem Atv (a0 a1:List Int) (hp:∀p∈XK a0 a1,p):Ax Bb 27 [AX .ints a0,AX .ints a1] 0 [] 1 (Aa3 a0 a1) 0 []:=by
 obtain⟨h1,h2⟩:=Atw a0 a1 (hp _ (List.mem_cons_self ..))
 have h:=Axo a0 a1 h1
 unfold V7 at h
 rw[h2] at h
 exact h
theorem Aon:IE Bb 27 (Et [.t .ints,.t .ints] 0 Aa3 (fun _ _=>[]) XK):=A8 Atv
def Aqj:=Gi Aon Aqi
abbrev Co:Type:=(List AY)×(List AY)×Int
def Ac2 (x:Co):St:=⟨26,0,[(0,.sl .write x.1),(1,.sl .write x.2.1),(5,iV (x.2.2))],[]⟩
def PI:St→Option Co
 |⟨26,0,[(0,.sl .write z0),(1,.sl .write z1),(5,.v (.int .i64 z2))],[]⟩=>some (z0,z1,z2)
 |_=>none
def Ac1:E2:=⟨0,0,[0,1,5],[],[],[],[4],[]⟩
def Ac0:Fz:=⟨[],[],[0,1,5],[]⟩
def HA (a0:List AY) (a2:Int):Bool:=!!decide (a2 <(a0.length:Int))
def EA (a0 a1:List AY) (a2:Int):Bool:=(HA a0 a2)&&!((a0.getD a2.toNat (Ao TC.write)).1.toList==(a1.getD a2.toNat (Ao TC.write)).1.toList&&((a0.getD a2.toNat (Ao TC.write)).2==(a1.getD a2.toNat (Ao TC.write)).2&&((a0.getD a2.toNat (Ao TC.write)).3==(a1.getD a2.toNat (Ao TC.write)).3&&(a0.getD a2.toNat (Ao TC.write)).4.toList==(a1.getD a2.toNat (Ao TC.write)).4.toList)))
def XQ (a0 a1:List AY) (a2:Int):Bool:=(HA a0 a2)&&!(EA a0 a1 a2)
def Gc (x:Co):Co:=(x.1,x.2.1,IntKind.i64.wrap (x.2.2+1))
def Gb (x:Co):DB:=some (XQ x.1 x.2.1 x.2.2)
def N6:Co→List Prop
  |(a0,a1,a2)=>[((HA a0 a2)=true→0≤a2∧a2 <(a0.length:Int)),((HA a0 a2)=true→0≤a2∧a2 <(a1.length:Int))]
abbrev IQ:Co→List Prop:=N6
def Wc (x:Co):BG:=[(some 0,some (!decide (x.2.2 <(x.1.length:Int))),⟨26,0,[(4,.dead)],[]⟩),(none,some ((EA x.1 x.2.1 x.2.2)),⟨26,0,[(4,.v (.bool (false)))],[]⟩)]
def Ga (x:Co):Nat:=((x.1.length:Int) - x.2.2).toNat
def DY (x:Co):Co:=Bj Gc Gb (Ga x) x
def XR:=Jg (CP Aqj.1 L0) (AQ Bb 54 0) Ac1 Ac0 PI Ga Gc Gb IQ Wc
def Ro:=WA 0 (g:=XR) (CR (T:=Ac2) (psA:=N6) Aqj.2 A9 (u:=9) (by kernel_rfl) (by decide) (fun⟨a0,a1,a2⟩=>by kernel_rfl) (fun _ h=>h) (fun s x h=>by unfold PI at h;split at h<;>first|(cases h;rfl)|cases h) (fun _=>Bm (n:=26) rfl) fun _ _=>rfl) ⟨L0,A9⟩
def OF (a0 a1:List AY):Co:=DY (a0,a1,0)
def KN (a0 a1:List AY):Bool:=(a0.length:Int) !=(a1.length:Int)
def XP (a0 a1:List AY):Bool:=bif(KN a0 a1) then false else bif EA (OF a0 a1).1 (OF a0 a1).2.1 (OF a0 a1).2.2 then false else true
def QK (a0 a1:List AY):A:=.v (.bool (XP a0 a1))
def UT (a0 a1:List AY):List Prop:=[((!(KN a0 a1))=true→A3 Gc Gb IQ (Ga (a0,a1,0)) (a0,a1,0))]
theorem Ajo (a0 a1:List AY):Tx (CP Aqj.1 Ro.1) 9 54 [.sl .write a0,.sl .write a1] 0 []=some (1,QK a0 a1,0,[],[((!(KN a0 a1))=true→AQ Bb (54:FuncId) 0=AQ Bb (54:FuncId) 0),((!(KN a0 a1))=true→A3 Gc Gb IQ (Ga (a0,a1,0)) (a0,a1,0))]):=by kernel_rfl
theorem Aou (a0 a1:List AY) (hp:∀p∈UT a0 a1,p):Ax Bb 54 [.sl .write a0,.sl .write a1] 0 [] 1 (QK a0 a1) 0 []:=
  Bh (AU Aqj.2 Ro.2) (Ajo a0 a1) (Aa (by intros;rfl) (nT hp fun _=>An))
def UU (a0 a1:List AY):A:=.v (.bool (Rz Awp (Ao TC.write) a0 a1))
def SQ (a0 _a1:List AY):List Prop:=[AT a0.length]
theorem Ajn (a b:List AY) (hl:AT a.length):(∀p∈UT a b,p)∧XP a b=Rz Awp (Ao TC.write) a b:=by
 have bu:((a.length:Int) !=(b.length:Int))=!(a.length==b.length):=A7n _ _
 have main:(a.length==b.length)=true→_:=fun hlen=>Bgj a b (Ao TC.write) Awp (next:=Gc) (goes:=Gb) (ps:=IQ) (fuel:=Ga (a,b,0)) EA hl (by show a.length≤((a.length:Int) - 0).toNat;omega) (fun i=>by
   show((!!decide ((i:Int) <(a.length:Int)))&&!_)=_
   rw[nn,Ux,Int.toNat_natCast]
   rfl) (fun i=>rfl) (fun i=>rfl) (fun i hi=>by
   have kh:a.length=b.length:=by simpa using hlen
   have ar:(!!decide ((i:Int) <(a.length:Int)))=true→(i:Int) <(a.length:Int):=fun h=>by rw[nn] at h;exact of_decide_eq_true h
   exact Aa (fun h=>⟨by show(0:Int)≤(i:Int);omega,ar h⟩) (Aa (fun h=>⟨by show(0:Int)≤(i:Int);omega,by have:=ar h;show(i:Int) <(b.length:Int);omega⟩) An))
 refine⟨Aa (fun h=>(main (by
  have h':(!((a.length:Int) !=(b.length:Int)))=true:=h
  rwa[bu,Bool.not_not] at h')).1) An,?_⟩
 show(bif((a.length:Int) !=(b.length:Int)) then false else !EA (DY (a,b,0)).1 (DY (a,b,0)).2.1 (DY (a,b,0)).2.2)=_
 rw[bu]
 unfold Rz
 cases h0:a.length==b.length with
 |false=>rfl
 |true=>
  have m:=(main h0).2
  rw[Bool.not_true,cond_false,Bool.true_and]
  have m':EA (DY (a,b,0)).1 (DY (a,b,0)).2.1 (DY (a,b,0)).2.2=_:=m
  rw[m',Bool.not_not]
theorem Ajm (a0 a1:List AY) (hp:∀p∈SQ a0 a1,p):Ax Bb 54 [.sl .write a0,.sl .write a1] 0 [] 1 (UU a0 a1) 0 []:=by
 obtain⟨h1,h2⟩:=Ajn a0 a1 (hp _ (List.mem_cons_self ..))
 have h:=Aou a0 a1 h1
 unfold QK at h
 rw[h2] at h
 exact h
theorem Ahg:IE Bb 54 (Et [.l .write,.l .write] 0 UU (fun _ _=>[]) SQ):=A8 Ajm
def Aqk:=Gi Ahg Aqj
abbrev Bx:Type:=(List Ak)×(List Ak)×Int
def XU (x:Bx):St:=⟨26,0,[(0,.sl .digest x.1),(1,.sl .digest x.2.1),(5,iV (x.2.2))],[]⟩
def Ms:St→Option Bx
 |⟨26,0,[(0,.sl .digest z0),(1,.sl .digest z1),(5,.v (.int .i64 z2))],[]⟩=>some (z0,z1,z2)
 |_=>none
def XT:E2:=⟨0,0,[0,1,5],[],[],[],[4],[]⟩
def XS:Fz:=⟨[],[],[0,1,5],[]⟩
def GK (a0:List Ak) (a2:Int):Bool:=!!decide (a2 <(a0.length:Int))
def DG (a0 a1:List Ak) (a2:Int):Bool:=(GK a0 a2)&&!((↑(List.getD (a0.getD a2.toNat (Ao TC.digest)) 0 (0:UInt8)).toNat:Int)==(↑(List.getD (a1.getD a2.toNat (Ao TC.digest)) 0 (0:UInt8)).toNat:Int)&&((↑(List.getD (a0.getD a2.toNat (Ao TC.digest)) 1 (0:UInt8)).toNat:Int)==(↑(List.getD (a1.getD a2.toNat (Ao TC.digest)) 1 (0:UInt8)).toNat:Int)&&((↑(List.getD (a0.getD a2.toNat (Ao TC.digest)) 2 (0:UInt8)).toNat:Int)==(↑(List.getD (a1.getD a2.toNat (Ao TC.digest)) 2 (0:UInt8)).toNat:Int)&&((↑(List.getD (a0.getD a2.toNat (Ao TC.digest)) 3 (0:UInt8)).toNat:Int)==(↑(List.getD (a1.getD a2.toNat (Ao TC.digest)) 3 (0:UInt8)).toNat:Int)&&((↑(List.getD (a0.getD a2.toNat (Ao TC.digest)) 4 (0:UInt8)).toNat:Int)==(↑(List.getD (a1.getD a2.toNat (Ao TC.digest)) 4 (0:UInt8)).toNat:Int)&&((↑(List.getD (a0.getD a2.toNat (Ao TC.digest)) 5 (0:UInt8)).toNat:Int)==(↑(List.getD (a1.getD a2.toNat (Ao TC.digest)) 5 (0:UInt8)).toNat:Int)&&((↑(List.getD (a0.getD a2.toNat (Ao TC.digest)) 6 (0:UInt8)).toNat:Int)==(↑(List.getD (a1.getD a2.toNat (Ao TC.digest)) 6 (0:UInt8)).toNat:Int)&&((↑(List.getD (a0.getD a2.toNat (Ao TC.digest)) 7 (0:UInt8)).toNat:Int)==(↑(List.getD (a1.getD a2.toNat (Ao TC.digest)) 7 (0:UInt8)).toNat:Int)&&((↑(List.getD (a0.getD a2.toNat (Ao TC.digest)) 8 (0:UInt8)).toNat:Int)==(↑(List.getD (a1.getD a2.toNat (Ao TC.digest)) 8 (0:UInt8)).toNat:Int)&&((↑(List.getD (a0.getD a2.toNat (Ao TC.digest)) 9 (0:UInt8)).toNat:Int)==(↑(List.getD (a1.getD a2.toNat (Ao TC.digest)) 9 (0:UInt8)).toNat:Int)&&((↑(List.getD (a0.getD a2.toNat (Ao TC.digest)) 10 (0:UInt8)).toNat:Int)==(↑(List.getD (a1.getD a2.toNat (Ao TC.digest)) 10 (0:UInt8)).toNat:Int)&&((↑(List.getD (a0.getD a2.toNat (Ao TC.digest)) 11 (0:UInt8)).toNat:Int)==(↑(List.getD (a1.getD a2.toNat (Ao TC.digest)) 11 (0:UInt8)).toNat:Int)&&((↑(List.getD (a0.getD a2.toNat (Ao TC.digest)) 12 (0:UInt8)).toNat:Int)==(↑(List.getD (a1.getD a2.toNat (Ao TC.digest)) 12 (0:UInt8)).toNat:Int)&&((↑(List.getD (a0.getD a2.toNat (Ao TC.digest)) 13 (0:UInt8)).toNat:Int)==(↑(List.getD (a1.getD a2.toNat (Ao TC.digest)) 13 (0:UInt8)).toNat:Int)&&((↑(List.getD (a0.getD a2.toNat (Ao TC.digest)) 14 (0:UInt8)).toNat:Int)==(↑(List.getD (a1.getD a2.toNat (Ao TC.digest)) 14 (0:UInt8)).toNat:Int)&&((↑(List.getD (a0.getD a2.toNat (Ao TC.digest)) 15 (0:UInt8)).toNat:Int)==(↑(List.getD (a1.getD a2.toNat (Ao TC.digest)) 15 (0:UInt8)).toNat:Int)&&((↑(List.getD (a0.getD a2.toNat (Ao TC.digest)) 16 (0:UInt8)).toNat:Int)==(↑(List.getD (a1.getD a2.toNat (Ao TC.digest)) 16 (0:UInt8)).toNat:Int)&&((↑(List.getD (a0.getD a2.toNat (Ao TC.digest)) 17 (0:UInt8)).toNat:Int)==(↑(List.getD (a1.getD a2.toNat (Ao TC.digest)) 17 (0:UInt8)).toNat:Int)&&((↑(List.getD (a0.getD a2.toNat (Ao TC.digest)) 18 (0:UInt8)).toNat:Int)==(↑(List.getD (a1.getD a2.toNat (Ao TC.digest)) 18 (0:UInt8)).toNat:Int)&&((↑(List.getD (a0.getD a2.toNat (Ao TC.digest)) 19 (0:UInt8)).toNat:Int)==(↑(List.getD (a1.getD a2.toNat (Ao TC.digest)) 19 (0:UInt8)).toNat:Int)&&((↑(List.getD (a0.getD a2.toNat (Ao TC.digest)) 20 (0:UInt8)).toNat:Int)==(↑(List.getD (a1.getD a2.toNat (Ao TC.digest)) 20 (0:UInt8)).toNat:Int)&&((↑(List.getD (a0.getD a2.toNat (Ao TC.digest)) 21 (0:UInt8)).toNat:Int)==(↑(List.getD (a1.getD a2.toNat (Ao TC.digest)) 21 (0:UInt8)).toNat:Int)&&((↑(List.getD (a0.getD a2.toNat (Ao TC.digest)) 22 (0:UInt8)).toNat:Int)==(↑(List.getD (a1.getD a2.toNat (Ao TC.digest)) 22 (0:UInt8)).toNat:Int)&&((↑(List.getD (a0.getD a2.toNat (Ao TC.digest)) 23 (0:UInt8)).toNat:Int)==(↑(List.getD (a1.getD a2.toNat (Ao TC.digest)) 23 (0:UInt8)).toNat:Int)&&((↑(List.getD (a0.getD a2.toNat (Ao TC.digest)) 24 (0:UInt8)).toNat:Int)==(↑(List.getD (a1.getD a2.toNat (Ao TC.digest)) 24 (0:UInt8)).toNat:Int)&&((↑(List.getD (a0.getD a2.toNat (Ao TC.digest)) 25 (0:UInt8)).toNat:Int)==(↑(List.getD (a1.getD a2.toNat (Ao TC.digest)) 25 (0:UInt8)).toNat:Int)&&((↑(List.getD (a0.getD a2.toNat (Ao TC.digest)) 26 (0:UInt8)).toNat:Int)==(↑(List.getD (a1.getD a2.toNat (Ao TC.digest)) 26 (0:UInt8)).toNat:Int)&&((↑(List.getD (a0.getD a2.toNat (Ao TC.digest)) 27 (0:UInt8)).toNat:Int)==(↑(List.getD (a1.getD a2.toNat (Ao TC.digest)) 27 (0:UInt8)).toNat:Int)&&((↑(List.getD (a0.getD a2.toNat (Ao TC.digest)) 28 (0:UInt8)).toNat:Int)==(↑(List.getD (a1.getD a2.toNat (Ao TC.digest)) 28 (0:UInt8)).toNat:Int)&&((↑(List.getD (a0.getD a2.toNat (Ao TC.digest)) 29 (0:UInt8)).toNat:Int)==(↑(List.getD (a1.getD a2.toNat (Ao TC.digest)) 29 (0:UInt8)).toNat:Int)&&((↑(List.getD (a0.getD a2.toNat (Ao TC.digest)) 30 (0:UInt8)).toNat:Int)==(↑(List.getD (a1.getD a2.toNat (Ao TC.digest)) 30 (0:UInt8)).toNat:Int)&&((↑(List.getD (a0.getD a2.toNat (Ao TC.digest)) 31 (0:UInt8)).toNat:Int)==(↑(List.getD (a1.getD a2.toNat (Ao TC.digest)) 31 (0:UInt8)).toNat:Int)&&true))))))))))))))))))))))))))))))))
def Ub (a0 a1:List Ak) (a2:Int):Bool:=(GK a0 a2)&&!(DG a0 a1 a2)
def EX (x:Bx):Bx:=(x.1,x.2.1,IntKind.i64.wrap (x.2.2+1))
def EW (x:Bx):DB:=some (Ub x.1 x.2.1 x.2.2)
def Lk:Bx→List Prop
  |(a0,a1,a2)=>[((GK a0 a2)=true→0≤a2∧a2 <(a0.length:Int)),((GK a0 a2)=true→0≤a2∧a2 <(a1.length:Int))]
abbrev HB:Bx→List Prop:=Lk
def SS (x:Bx):BG:=[(some 0,some (!decide (x.2.2 <(x.1.length:Int))),⟨26,0,[(4,.dead)],[]⟩),(none,some ((DG x.1 x.2.1 x.2.2)),⟨26,0,[(4,.v (.bool (false)))],[]⟩)]
def EV (x:Bx):Nat:=((x.1.length:Int) - x.2.2).toNat
def Dc (x:Bx):Bx:=Bj EX EW (EV x) x
def Uc:=Jg (CP Aqk.1 L0) (AQ Bb 28 0) XT XS Ms EV EX EW HB SS
def N7:=WA 0 (g:=Uc) (CR (T:=XU) (psA:=Lk) Aqk.2 A9 (u:=9) (by kernel_rfl) (by decide) (fun⟨a0,a1,a2⟩=>by kernel_rfl) (fun _ h=>h) (fun s x h=>by unfold Ms at h;split at h<;>first|(cases h;rfl)|cases h) (fun _=>Bm (n:=26) rfl) fun _ _=>rfl) ⟨L0,A9⟩
def Jm (a0 a1:List Ak):Bool:=(a0.length:Int) !=(a1.length:Int)
def Lc (a0 a1:List Ak):Bx:=Dc (a0,a1,0)
def SR (a0 a1:List Ak):Bool:=bif(Jm a0 a1) then false else bif DG (Lc a0 a1).1 (Lc a0 a1).2.1 (Lc a0 a1).2.2 then false else true
def Mt (a0 a1:List Ak):A:=.v (.bool (SR a0 a1))
def Rp (a0 a1:List Ak):List Prop:=[((!(Jm a0 a1))=true→A3 EX EW HB (EV (a0,a1,0)) (a0,a1,0))]
theorem Ac5 (a0 a1:List Ak):Tx (CP Aqk.1 N7.1) 9 28 [.sl .digest a0,.sl .digest a1] 0 []=some (1,Mt a0 a1,0,[],[((!(Jm a0 a1))=true→AQ Bb (28:FuncId) 0=AQ Bb (28:FuncId) 0),((!(Jm a0 a1))=true→A3 EX EW HB (EV (a0,a1,0)) (a0,a1,0))]):=by kernel_rfl
theorem Ahh (a0 a1:List Ak) (hp:∀p∈Rp a0 a1,p):Ax Bb 28 [.sl .digest a0,.sl .digest a1] 0 [] 1 (Mt a0 a1) 0 []:=
  Bh (AU Aqk.2 N7.2) (Ac5 a0 a1) (Aa (by intros;rfl) (nT hp fun _=>An))
def Rq (a0 a1:List Ak):A:=.v (.bool (Rz eqD (Ao TC.digest) a0 a1))
def PJ (a0 _a1:List Ak):List Prop:=[AT a0.length]
theorem Ac4 (a b:List Ak) (hl:AT a.length):(∀p∈Rp a b,p)∧SR a b=Rz eqD (Ao TC.digest) a b:=by
 have bu:((a.length:Int) !=(b.length:Int))=!(a.length==b.length):=A7n _ _
 have main:(a.length==b.length)=true→_:=fun hlen=>Bgj a b (Ao TC.digest) eqD (next:=EX) (goes:=EW) (ps:=HB) (fuel:=EV (a,b,0)) DG hl (by show a.length≤((a.length:Int) - 0).toNat;omega) (fun i=>by
   show((!!decide ((i:Int) <(a.length:Int)))&&!_)=_
   rw[nn,Ux,Int.toNat_natCast]
   rfl) (fun i=>rfl) (fun i=>rfl) (fun i hi=>by
   have kh:a.length=b.length:=by simpa using hlen
   have ar:(!!decide ((i:Int) <(a.length:Int)))=true→(i:Int) <(a.length:Int):=fun h=>by rw[nn] at h;exact of_decide_eq_true h
   exact Aa (fun h=>⟨by show(0:Int)≤(i:Int);omega,ar h⟩) (Aa (fun h=>⟨by show(0:Int)≤(i:Int);omega,by have:=ar h;show(i:Int) <(b.length:Int);omega⟩) An))
 refine⟨Aa (fun h=>(main (by
  have h':(!((a.length:Int) !=(b.length:Int)))=true:=h
  rwa[bu,Bool.not_not] at h')).1) An,?_⟩
 show(bif((a.length:Int) !=(b.length:Int)) then false else !DG (Dc (a,b,0)).1 (Dc (a,b,0)).2.1 (Dc (a,b,0)).2.2)=_
 rw[bu]
 unfold Rz
 cases h0:a.length==b.length with
 |false=>rfl
 |true=>
  have m:=(main h0).2
  rw[Bool.not_true,cond_false,Bool.true_and]
  have m':DG (Dc (a,b,0)).1 (Dc (a,b,0)).2.1 (Dc (a,b,0)).2.2=_:=m
  rw[m',Bool.not_not]
theorem Ac3 (a0 a1:List Ak) (hp:∀p∈PJ a0 a1,p):Ax Bb 28 [.sl .digest a0,.sl .digest a1] 0 [] 1 (Rq a0 a1) 0 []:=by
 obtain⟨h1,h2⟩:=Ac4 a0 a1 (hp _ (List.mem_cons_self ..))
 have h:=Ahh a0 a1 h1
 unfold Mt at h
 rw[h2] at h
 exact h
theorem Zx:IE Bb 28 (Et [.l .digest,.l .digest] 0 Rq (fun _ _=>[]) PJ):=A8 Ac3
def Aql:=Gi Zx Aqk
abbrev Ct:Type:=(List Int)×Int×Int
def Aie (x:Ct):St:=⟨21,0,[(5,.sl .i64 x.1),(6,iV (x.2.1)),(7,iV (x.2.2))],[]⟩
def Rw:St→Option Ct
 |⟨21,0,[(5,.sl .i64 z0),(6,.v (.int .i64 z1)),(7,.v (.int .i64 z2))],[]⟩=>some (z0,z1,z2)
 |_=>none
def Aid:E2:=⟨0,0,[5,6,7],[],[],[],[2],[]⟩
def Aic:Fz:=⟨[],[],[5,6,7],[]⟩
def D2 (a0:List Int) (a1 a2:Int):Bool:=!!decide (a2 <a1)&&(decide (a0.getD a2.toNat (Ao TC.i64) <0)||decide (a0.getD a2.toNat (Ao TC.i64)≥16))
def Z4 (a0:List Int) (a1 a2:Int):Bool:=!!decide (a2 <a1)&&!(D2 a0 a1 a2)
def GQ (x:Ct):Ct:=(x.1,x.2.1,IntKind.i64.wrap (x.2.2+1))
def GP (x:Ct):DB:=some (Z4 x.1 x.2.1 x.2.2)
def PU (x:Ct):List Prop:=[((!!decide (x.2.2 <x.2.1))=true→0≤x.2.2∧x.2.2 <(x.1.length:Int))]
abbrev Jp:Ct→List Prop:=PU
def Yf (x:Ct):BG:=[(some 0,some (!decide (x.2.2 <x.2.1)),⟨21,0,[(2,.dead)],[]⟩),(none,some ((D2 x.1 x.2.1 x.2.2)),⟨21,0,[(2,.v (.bool (false)))],[]⟩)]
def GO (x:Ct):Nat:=(x.2.1 - x.2.2).toNat
def Z6 (x:Ct):Ct:=Bj GQ GP (GO x) x
def Z5:=Jg (CP Aql.1 L0) (AQ Bb 32 0) Aid Aic Rw GO GQ GP Jp Yf
def Tj:=WA 0 (g:=Z5) (CR (T:=Aie) (psA:=PU) Aql.2 A9 (u:=9) (by kernel_rfl) (by decide) (fun⟨a0,a1,a2⟩=>by kernel_rfl) (fun _ h=>h) (fun s x h=>by unfold Rw at h;split at h<;>first|(cases h;rfl)|cases h) (fun _=>Bm (n:=21) rfl) fun _ _=>rfl) ⟨L0,A9⟩
def LH (a0:List Int):Ct:=Z6 (a0,(a0.length:Int),0)
def Ti (a0:List Int):Bool:=bif D2 (LH a0).1 (LH a0).2.1 (LH a0).2.2 then false else decide ((a0.length:Int)≤2)
def Tk (a0:List Int):A:=.v (.bool (Ti a0))
def Yg (a0:List Int):List Prop:=[(A3 GQ GP Jp (GO (a0,(a0.length:Int),0)) (a0,(a0.length:Int),0))]
theorem Ap9 (a0:List Int):Tx (CP Aql.1 Tj.1) 9 32 [AX .ints a0] 0 []=some (1,Tk a0,0,[],[(AQ Bb (32:FuncId) 0=AQ Bb (32:FuncId) 0),(A3 GQ GP Jp (GO (a0,(a0.length:Int),0)) (a0,(a0.length:Int),0))]):=by kernel_rfl
theorem Au3 (a0:List Int) (hp:∀p∈Yg a0,p):Ax Bb 32 [AX .ints a0] 0 [] 1 (Tk a0) 0 []:=
  Bh (AU Aql.2 Tj.2) (Ap9 a0) (Aa rfl (nT hp fun _=>An))
def Yh (a0:List Int):A:=.v (.bool (Rh a0))
def Va (a0:List Int):List Prop:=[AT a0.length]
theorem Bl6 (n:Nat):decide ((n:Int)≤2)=decide (n≤2):=decide_eq_decide.2 (by omega)
theorem Bck (n:Int):(decide (n <0)||decide (n≥16))=!(decide (0≤n)&&decide (n≤15)):=by
 rw[Bool.not_and,←decide_not,←decide_not]
 exact congr (congrArg _ (decide_eq_decide.2 (by omega))) (decide_eq_decide.2 (by omega))
theorem Ap8 (l:List Int) (hl:AT l.length):(∀p∈Yg l,p)∧Ti l=Rh l:=by
 unfold AT at hl
 have hf:∀i:Nat,D2 l (l.length:Int) (i:Int)=(decide (i <l.length)&&!(decide (0≤l.getD i 0)&&decide (l.getD i 0≤15))):=fun i=>by
  unfold D2
  rw[nn,Ux,Int.toNat_natCast,Bck]
  rfl
 obtain⟨h1,k,hk,hx,_,_,hb⟩:=Abm (fun i=>((l,(l.length:Int),(i:Int)):Ct)) l.length (fun i=>!(decide (0≤l.getD i 0)&&decide (l.getD i 0≤15))) GQ GP Jp (GO (l,(l.length:Int),0)) (l,(l.length:Int),0) rfl (by show _≤((l.length:Int) - 0).toNat;omega)
  (fun i _ _=>by
   show((!!decide ((i:Int) <(l.length:Int)))&&!D2 l (l.length:Int) (i:Int))=_
   rw[hf,nn,Ux]
   cases decide (i <l.length)<;>rfl)
  (fun i hi _=>by
   show(l,(l.length:Int),IntKind.i64.wrap ((i:Int)+1))=(l,(l.length:Int),((i+1:Nat):Int))
   rw[JK (by omega)])
  (fun i _ _=>Aa (fun h=>by
   have h':(!!decide ((i:Int) <(l.length:Int)))=true:=h
   rw[nn] at h'
   have:=of_decide_eq_true h'
   show(0:Int)≤(i:Int)∧(i:Int) <(l.length:Int)
   omega) An)
 refine⟨Aa h1 An,?_⟩
 have hr:LH l=(l,(l.length:Int),(k:Int)):=hx
 unfold Ti Rh
 rw[hr]
 show(bif D2 l (l.length:Int) (k:Int) then false else _)=_
 rw[hf,hb,Bl6]
 simp only[Bool.not_not]
 cases JL l.length fun i=>decide (0≤l.getD i 0)&&decide (l.getD i 0≤15)<;>rfl
theorem Ap7 (a0:List Int) (hp:∀p∈Va a0,p):Ax Bb 32 [AX .ints a0] 0 [] 1 (Yh a0) 0 []:=by
 obtain⟨h1,h2⟩:=Ap8 a0 (hp _ (List.mem_cons_self ..))
 have h:=Au3 a0 h1
 unfold Tk at h
 rw[h2] at h
 exact h
theorem Aj6:IE Bb 32 (Et [.t .ints] 0 Yh (fun _=>[]) Va):=A8 Ap7
def Ben:=Gi Aj6 Aql
def KE (a0:Int):Bool:=decide (a0≥0)&&decide (a0≤1099511627776)
def Ayw (a0:Int):A:=.v (.bool (KE a0))
def Au4 (_a0:Int):List Prop:=[]
theorem Aqa:IE Bb 34 (Et [.t .i64] 0 Ayw (fun _=>[]) Au4):=A8 fun a0 hp=>Bh (u:=9) (AU Ben.2 A9) (by kernel_rfl) hp
def Beo:=Gi Aqa Ben
def D1 (a0:AS):Bool:=!a0.1==2
def B9 (a0:AS):Bool:=!a0.1==1
def QW (a0:AS):Bool:=(a0.7.length:Int)==0
def Ka (a0:AS):Bool:=a0.4==0&&a0.5==0
def HG (a0:AS):Bool:=(B9 a0)&&((D1 a0)&&(!a0.1==3&&a0.1==4))
def HF (a0:AS):Bool:=a0.3.1==0&&a0.3.2==0&&(a0.3.3.1==0&&a0.3.3.2==0)&&(a0.3.4.1==0&&a0.3.4.2==0)&&(a0.3.5.length:Int)==0
def LG (a0:AS):Bool:=(B9 a0)&&(!((B9 a0)&&a0.1==2)&&(!((B9 a0)&&((D1 a0)&&a0.1==3))&&(!(HG a0)&&!((B9 a0)&&((D1 a0)&&(!a0.1==3&&(!a0.1==4&&a0.1==5)))))))||!((B9 a0)&&a0.1==2)&&(!((B9 a0)&&((D1 a0)&&a0.1==3))&&(!(HG a0)&&!((B9 a0)&&((D1 a0)&&(!a0.1==3&&(!a0.1==4&&a0.1==5))))))
def IV (a0:AS):Bool:=(LG a0)||!((B9 a0)&&((D1 a0)&&a0.1==3))&&(!(HG a0)&&!((B9 a0)&&((D1 a0)&&(!a0.1==3&&(!a0.1==4&&a0.1==5)))))
def IU (a0:AS):Bool:=(IV a0)||!((B9 a0)&&((D1 a0)&&(!a0.1==3&&(!a0.1==4&&a0.1==5))))
def Th (a0:AS):Bool:=((((bif(IU a0) then bif(IV a0) then(QW a0) else true else(QW a0))&&bif(IU a0) then bif(IV a0) then bif(LG a0) then(Ka a0) else true else bif(HG a0) then(Ka a0) else(Ka a0) else(Ka a0))&&bif(IU a0) then bif(IV a0) then(a0.6.length:Int)==0 else true else true)&&bif(IU a0) then(a0.8.length:Int)==0&&(a0.9.1==0&&a0.9.2==0)&&!a0.10 else true)&&bif(IU a0) then bif(IV a0) then bif(LG a0) then bif(B9 a0)&&(!((B9 a0)&&a0.1==2)&&(!((B9 a0)&&((D1 a0)&&a0.1==3))&&(!(HG a0)&&!((B9 a0)&&((D1 a0)&&(!a0.1==3&&(!a0.1==4&&a0.1==5))))))) then(HF a0) else true else(HF a0) else bif(HG a0) then(HF a0) else(HF a0) else(HF a0)
def Abz (a0:AS):A:=.v (.bool (Th a0))
def Ap6 (_a0:AS):List Prop:=[]
theorem Au2 (a0:AS) (hp:∀p∈Ap6 a0,p):Ax Bb 31 [AX .msg a0] 0 [] 1 (Abz a0) 0 []:=Bh (u:=9) (AU Beo.2 A9) (by kernel_rfl) hp
def Ye (a0:AS):A:=.v (.bool (Uo a0))
def U9 (_a0:AS):List Prop:=[]
theorem Aso (n:Nat):((n:Int)==(0:Int))=(n==0):=by
 rw[Bool.eq_iff_iff,beq_iff_eq,beq_iff_eq];omega
theorem Ap5 (m:AS):Th m=Uo m:=by
 unfold Th IU IV LG HG B9 D1 Uo
 have e6:QW m=(m.sums.length==0):=Aso _
 have e5:Ka m=zA m:=rfl
 have e3:HF m=zC m.change:=by unfold HF zC;rw[Aso]
 have e7:((m.6.length:Int)==0)=(m.path.length==0):=Aso _
 have e8:((m.8.length:Int)==0&&(m.9.1==0&&m.9.2==0)&&!m.10)=zL m:=by unfold zL;rw[Aso]
 rw[e6,e5,e3,e7,e8]
 rcases kinds m.1 with⟨e1,e2,e3,e4,e5⟩|⟨e1,e2,e3,e4,e5⟩|⟨e1,e2,e3,e4,e5⟩|⟨e1,e2,e3,e4,e5⟩|⟨e1,e2,e3,e4,e5⟩|⟨e1,e2,e3,e4,e5⟩<;>
  (have f1:(m.kind==1)=_:=e1;have f2:(m.kind==2)=_:=e2;have f3:(m.kind==3)=_:=e3;have f4:(m.kind==4)=_:=e4;have f5:(m.kind==5)=_:=e5;rw[f1,f2,f3,f4,f5];rfl)
theorem Ap4 (a0:AS) (_hp:∀p∈U9 a0,p):Ax Bb 31 [AX .msg a0] 0 [] 1 (Ye a0) 0 []:=by
 have h:=Au2 a0 An
 unfold Abz at h
 rw[Ap5] at h
 exact h
theorem Aj5:IE Bb 31 (Et [.t .msg] 0 Ye (fun _=>[]) U9):=A8 Ap4
def Bep:=Gi Aj5 Beo
def LF (a0:AS):Bool:=decide (a0.1 <0)||decide (a0.1≥6)
def Ap2:List ByteArray:=[ByteArray.mk #[],ByteArray.mk #[(100:UInt8),(97:UInt8),(116:UInt8),(97:UInt8)],ByteArray.mk #[(97:UInt8),(99:UInt8),(107:UInt8)],ByteArray.mk #[(97:UInt8),(115:UInt8),(107:UInt8)],ByteArray.mk #[(116:UInt8),(101:UInt8),(108:UInt8),(108:UInt8)],ByteArray.mk #[(108:UInt8),(101:UInt8),(97:UInt8),(102:UInt8)]]
def Tg (a0:AS):ByteArray:=bif(LF a0) then ByteArray.mk #[] else(Ap2).getD a0.1.toNat (Ao TC.str)
def Aby (a0:AS):A:=.v (.string (Tg a0))
def Ap3 (a0:AS):List Prop:=[((!(LF a0))=true→0≤a0.1∧a0.1 <6)]
theorem Au1 (a0:AS) (hp:∀p∈Ap3 a0,p):Ax Bb 12 [AX .msg a0] 0 [] 1 (Aby a0) 0 []:=Bh (u:=9) (AU Bep.2 A9) (by kernel_rfl) hp
def Yd (a0:AS):A:=.v (.string (A7m a0.kind))
def U8 (_a0:AS):List Prop:=[]
theorem Awy (n:Int):n=1∨n=2∨n=3∨n=4∨n=5∨n=0∨n <0∨6≤n:=by omega
theorem Ap1 (m:AS):Tg m=A7m m.kind:=by
 unfold Tg LF A7m
 have e0:m.1=m.kind:=rfl
 rw[e0]
 rcases Awy m.kind with h|h|h|h|h|h|h|h
 ·rw[h];rfl
 ·rw[h];rfl
 ·rw[h];rfl
 ·rw[h];rfl
 ·rw[h];rfl
 ·rw[h];rfl
 ·rw[decide_eq_true h,Bool.true_or,cond_true,beq_eq_false_iff_ne.2 (by omega),beq_eq_false_iff_ne.2 (by omega),beq_eq_false_iff_ne.2 (by omega),beq_eq_false_iff_ne.2 (by omega),beq_eq_false_iff_ne.2 (by omega)];rfl
 ·rw[decide_eq_true (show m.kind≥6 from h),Bool.or_true,cond_true,beq_eq_false_iff_ne.2 (by omega),beq_eq_false_iff_ne.2 (by omega),beq_eq_false_iff_ne.2 (by omega),beq_eq_false_iff_ne.2 (by omega),beq_eq_false_iff_ne.2 (by omega)];rfl
theorem Ap0 (a0:AS) (_hp:∀p∈U8 a0,p):Ax Bb 12 [AX .msg a0] 0 [] 1 (Yd a0) 0 []:=by
 have h:=Au1 a0 (Aa (fun h=>by
  unfold LF at h
  rw[Bool.not_or,Bool.and_eq_true,Bool.not_eq_true',Bool.not_eq_true',decide_eq_false_iff_not,decide_eq_false_iff_not] at h
  omega) An)
 unfold Aby at h
 rw[Ap1] at h
 exact h
theorem Aj4:IE Bb 12 (Et [.t .msg] 0 Yd (fun _=>[]) U8):=A8 Ap0
def A42:=Gi Aj4 Bep
def Aa9 (a0 a1:Ar):Bool:=a0.1==a1.1&&a0.2==a1.2&&(a0.3.1==a1.3.1&&a0.3.2==a1.3.2)&&(a0.4.1==a1.4.1&&a0.4.2==a1.4.2)
def Axt (a0 a1:Ar):Bool:=(Aa9 a0 a1)&&Rz Awp (Ao TC.write) a0.5 a1.5
def Axv (a0 a1:Ar):A:=.v (.bool (Axt a0 a1))
def At4 (a0 a1:Ar):List Prop:=[((Aa9 a0 a1)=true→AT a0.5.length)]
theorem Axu (a0 a1:Ar) (hp:∀p∈At4 a0 a1,p):Ax Bb 26 [AX .change a0,AX .change a1] 0 [] 1 (Axv a0 a1) 0 []:=Bh (u:=9) (AU A42.2 A9) (by kernel_rfl) hp
def Aba (a0 a1:Ar):A:=.v (.bool (A6i a0 a1))
def XO (a0 _a1:Ar):List Prop:=[AT a0.writes.length]
theorem At3 (a0 a1:Ar) (hp:∀p∈XO a0 a1,p):Ax Bb 26 [AX .change a0,AX .change a1] 0 [] 1 (Aba a0 a1) 0 []:=
 Axu a0 a1 (Aa (fun _=>hp _ (List.mem_cons_self ..)) An)
theorem Aot:IE Bb 26 (Et [.t .change,.t .change] 0 Aba (fun _ _=>[]) XO):=A8 At3
def A43:=Gi Aot A42
def SU (a0 a1:AS):Bool:=a0.1==a1.1&&a0.2==a1.2&&A6i a0.3 a1.3&&a0.4==a1.4&&a0.5==a1.5
def ST (a0 a1:AS):Bool:=(SU a0 a1)&&Rz eqI (Ao TC.i64) a0.6 a1.6&&Rz eqD (Ao TC.digest) a0.7 a1.7
def Axw (a0 a1:AS):Bool:=(ST a0 a1)&&Awo a0.8 a1.8&&(a0.9.1==a1.9.1&&a0.9.2==a1.9.2)&&a0.10==a1.10
def Axy (a0 a1:AS):A:=.v (.bool (Axw a0 a1))
def At6 (a0 a1:AS):List Prop:=[((a0.1==a1.1&&a0.2==a1.2)=true→AT a0.3.5.length),((SU a0 a1)=true→AT a0.6.length),(((SU a0 a1)&&Rz eqI (Ao TC.i64) a0.6 a1.6)=true→AT a0.7.length),((ST a0 a1)=true→AT a0.8.length),((ST a0 a1)=true→∀(r:AW),r∈a0.8→Ai r.2.length)]
theorem Axx (a0 a1:AS) (hp:∀p∈At6 a0 a1,p):Ax Bb 9 [AX .msg a0,AX .msg a1] 0 [] 1 (Axy a0 a1) 0 []:=Bh (u:=9) (AU A43.2 A9) (by kernel_rfl) hp
def Abb (a0 a1:AS):A:=.v (.bool (eqM a0 a1))
def ED (m:AS):Prop:=AT m.change.writes.length∧AT m.path.length∧AT m.sums.length∧AT m.rows.length∧∀r∈m.rows,Ai r.cells.length
def XV (a0 _a1:AS):List Prop:=[ED a0]
theorem At5 (a0 a1:AS) (hp:∀p∈XV a0 a1,p):Ax Bb 9 [AX .msg a0,AX .msg a1] 0 [] 1 (Abb a0 a1) 0 []:=by
 obtain⟨h1,h2,h3,h4,h5⟩:=hp _ (List.mem_cons_self ..)
 exact Axx a0 a1 (Aa (fun _=>h1) (Aa (fun _=>h2) (Aa (fun _=>h3) (Aa (fun _=>h4) (Aa (fun _=>h5) An)))))
theorem Aov:IE Bb 9 (Et [.t .msg,.t .msg] 0 Abb (fun _ _=>[]) XV):=A8 At5
def A44:=Gi Aov A43
def J9 (a0:List Ae) (_a1:AS):Bool:=A1 a0 !=0
def Fy (_a0:List Ae) (a1:AS):Bool:=Uo a1&&Rh a1.6&&(a1.2==1||a1.2==2)
def LE (a0:List Ae) (a1:AS):Bool:=(Fy a0 a1)&&a1.3.1==a1.2
def LD (a0:List Ae) (a1:AS):Bool:=(Fy a0 a1)&&(a1.6.length:Int)==2&&decide ((a1.8.length:Int)≤256)&&Cx a1.9
def Tf (a0:List Ae) (a1:AS):Int:=bif(J9 a0 a1) then A1 a0 else bif !bif a1.1==1 then(LE a0 a1)&&OW a0 a1.3==0 else bif a1.1==2 then(Fy a0 a1)&&KE a1.4&&KE a1.5 else bif a1.1==3 then(Fy a0 a1)&&(a1.7.length:Int)==1 else bif a1.1==4 then(Fy a0 a1)&&(a1.7.length:Int)==16&&decide ((a1.6.length:Int) <2) else bif a1.1==5 then(LD a0 a1)&&Pn a0 a1.8==0 else false then 140 else 0
def Abx (a0:List Ae) (a1:AS):A:=iV ((Tf a0 a1))
def Apz (a0:List Ae) (a1:AS):List Prop:=[((!(J9 a0 a1))=true→Uo a1=true→AT a1.6.length),((!(J9 a0 a1))=true→(a1.1==1)=true→(LE a0 a1)=true→AT a1.3.5.length),((!(J9 a0 a1))=true→(a1.1==1)=false→(a1.1==2)=false→(a1.1==3)=false→(a1.1==4)=false→(a1.1==5)=true→(LD a0 a1)=true→AT a1.8.length)]
theorem Au0 (a0:List Ae) (a1:AS) (hp:∀p∈Apz a0 a1,p):Ax Bb 13 [.sl .group a0,AX .msg a1] 0 [] 1 (Abx a0 a1) 0 []:=Bh (u:=9) (AU A44.2 A9) (by kernel_rfl) hp
def Yc (a0:List Ae) (a1:AS):A:=iV ((Dn a0 a1))
def U6 (_a0:List Ae) (a1:AS):List Prop:=[ED a1]
theorem Apy (l:List Ae) (m:AS):Tf l m=Dn l m:=by
 unfold Tf Dn
 have e3:J9 l m=(A1 l !=0):=rfl
 have hv:Cx m.9=EP m.know:=JJ _
 have e:(bif m.1==1 then LE l m&&OW l m.3==0 else bif m.1==2 then Fy l m&&KE m.4&&KE m.5 else bif m.1==3 then Fy l m&&(m.7.length:Int)==1 else bif m.1==4 then Fy l m&&(m.7.length:Int)==16&&decide ((m.6.length:Int) <2) else bif m.1==5 then LD l m&&Pn l m.8==0 else false)=okW l m:=by
  unfold LE LD okW Afd KE ZH
  have eb:Fy l m=(Uo m&&Rh m.path&&(m.site==1||m.site==2)):=rfl
  rw[eb,hv]
  rcases kinds m.1 with⟨e1,e2,e3,e4,e5⟩|⟨e1,e2,e3,e4,e5⟩|⟨e1,e2,e3,e4,e5⟩|⟨e1,e2,e3,e4,e5⟩|⟨e1,e2,e3,e4,e5⟩|⟨e1,e2,e3,e4,e5⟩<;>
   rw[e1]
  ·simp only[cond_true,Bool.and_assoc]
  ·rw[e2];simp only[cond_true,cond_false,Bool.and_assoc]
  ·rw[e2,e3];simp only[cond_true,cond_false]
  ·rw[e2,e3,e4];simp only[cond_true,cond_false,Bool.and_assoc]
  ·rw[e2,e3,e4,e5];simp only[cond_true,cond_false,Bool.and_assoc]
  ·rw[e2,e3,e4,e5];simp only[cond_false,Bool.and_false]
 rw[e,e3]
 cases okW l m<;>rfl
theorem Apx (a0:List Ae) (a1:AS) (hp:∀p∈U6 a0 a1,p):Ax Bb 13 [.sl .group a0,AX .msg a1] 0 [] 1 (Yc a0 a1) 0 []:=by
 obtain⟨h1,h2,h3,h4,h5⟩:=hp _ (List.mem_cons_self ..)
 have h:=Au0 a0 a1 (Aa (fun _ _=>h2) (Aa (fun _ _ _=>h1) (Aa (fun _ _ _ _ _ _ _=>h4) An)))
 unfold Abx at h
 rw[Apy] at h
 exact h
theorem U7:IE Bb 13 (Et [.l .group,.t .msg] 0 Yc (fun _ _=>[]) U6):=A8 Apx
def Bf2:=Gi U7 A44
abbrev Cwc:=Bf2
def Ft (d:Ak):Ak:=(List.range 32).map fun k=>d.getD k 0
theorem Zs (d:Ak):(Ft d).length=32:=by unfold Ft;rw[List.length_map,List.length_range]
def Bff (l:List Ae) (m:AS):Ak:=GY m.know++(AE (bif m.back then 1 else 0)++(AE (m.rows.length:Int)++m.rows.flatMap (Fh l)))
def A9c (l:List Ae) (m:AS):Ak:=bif m.kind==1 then Kg l m.change else bif m.kind==2 then AE m.ack++AE m.own else JH m.path++(m.sums.flatMap Ft++bif m.kind==5 then Bff l m else[])
def JE (l:List Ae) (m:AS):Ak:=AE m.kind++(AE m.site++A9c l m)
def Kc (l:List Ae) (m:AS):Int:=bif Dn l m !=0 then Dn l m else bif decide (1048576 <(JE l m).length) then 3 else 0
def Lr (l:List Ae) (m:AS):Ak:=bif Kc l m==0 then EY (JE l m) else[]
theorem KJ {l:List Ae} {m:AS}:Dn l m=0↔A1 l=0∧okW l m=true:=by
 unfold Dn
 cases h:A1 l !=0 with
 |true=>
  have h':A1 l≠0:=by simpa using h
  exact⟨fun e=>absurd e h',fun e=>absurd e.1 h'⟩
 |false=>
  have h':A1 l=0:=by simpa using h
  rw[cond_false]
  cases okW l m with
  |true=>exact⟨fun _=>⟨h',rfl⟩,fun _=>rfl⟩
  |false=>exact⟨fun e=>(by cases e),fun e=>by cases e.2⟩
theorem Zj {l:List Ae} {m:AS} (h:okW l m=true):(m.site=1∨m.site=2)∧Rh m.path=true∧(m.kind=3∨m.kind=4∨m.sums=[])∧m.sums.length≤16∧
    (m.kind=1∧OW l m.change=0∧m.change.site=m.site∨m.kind=2∧ZH m.ack=true∧ZH m.own=true∨m.kind=3∧m.sums.length=1∨m.kind=4∧m.sums.length=16∧m.path.length <2∨
     m.kind=5∧m.path.length=2∧m.rows.length≤256∧EP m.know=true∧Pn l m.rows=0):=by
  unfold okW at h
  simp only[Bool.and_eq_true] at h
  obtain⟨⟨⟨h1,h2⟩,h3⟩,h4⟩:=h
  have hs:m.site=1∨m.site=2:=by simpa using h3
  have hz:m.kind=3∨m.kind=4∨m.sums=[]:=by
    unfold Uo at h1
    simp only[Bool.and_eq_true] at h1
    obtain⟨⟨⟨⟨q,_⟩,_⟩,_⟩,_⟩:=h1
    simp only[Bool.or_eq_true,beq_iff_eq] at q
    rcases q with(q|q)|q
    ·exact .inl q
    ·exact .inr (.inl q)
    ·exact .inr (.inr (List.eq_nil_of_length_eq_zero q))
  have hk:(m.kind=1∧OW l m.change=0∧m.change.site=m.site∨m.kind=2∧ZH m.ack=true∧ZH m.own=true∨m.kind=3∧m.sums.length=1∨m.kind=4∧m.sums.length=16∧m.path.length <2∨
     m.kind=5∧m.path.length=2∧m.rows.length≤256∧EP m.know=true∧Pn l m.rows=0):=by
    unfold Afd at h4
    rcases kinds m.kind with⟨e1,e2,e3,e4,e5⟩|⟨e1,e2,e3,e4,e5⟩|⟨e1,e2,e3,e4,e5⟩|⟨e1,e2,e3,e4,e5⟩|⟨e1,e2,e3,e4,e5⟩|⟨e1,e2,e3,e4,e5⟩<;>
      (rw[e1,e2,e3,e4,e5] at h4;simp only[cond_true,cond_false,Bool.and_eq_true,beq_iff_eq,decide_eq_true_eq] at h4 e1 e2 e3 e4 e5)
    ·exact .inl ⟨e1,h4.2,h4.1⟩
    ·exact .inr (.inl ⟨e2,h4.1,h4.2⟩)
    ·exact .inr (.inr (.inl ⟨e3,by omega⟩))
    ·exact .inr (.inr (.inr (.inl ⟨e4,by omega,by omega⟩)))
    · obtain⟨⟨⟨q1,q2⟩,q3⟩,q4⟩:=h4
      exact .inr (.inr (.inr (.inr ⟨e5,by omega,by omega,q3,q4⟩)))
    ·cases h4
  refine⟨hs,h2,hz,?_,hk⟩
  rcases hz with q|q|q
  ·rcases hk with k|k|k|k|k<;>first|(have:=k.1;omega)|(have:=k.2;omega)
  ·rcases hk with k|k|k|k|k<;>first|(have:=k.1;omega)|(have:=k.2.1;omega)
  ·rw[q];exact Nat.zero_le _
theorem A06 {p:List Int} (h:Rh p=true):p.length≤2:=by
 unfold Rh at h
 rw[Bool.and_eq_true] at h
 exact of_decide_eq_true h.2
def Bjg:=Gi S0 Cwc
def Bjh:=Gi UF Bjg
theorem Blj (x:UInt8):UInt8.ofNat ((x.toNat:Nat):Int).toNat=x:=by rw[Int.toNat_natCast,UInt8.ofNat_toNat]
theorem Bbw (l:List Ak) (i:Nat):((l.take i).flatMap Ft).length≤32*l.length:=by
 have:=NM Ft 32 (l.take i) fun d _=>Nat.le_of_eq (Zs d)
 have h2:(l.take i).length≤l.length:=by rw[List.length_take];omega
 have:=Nat.mul_le_mul_left 32 h2
 omega
theorem Bbx (l:List Ae) (rows:List AW) (i:Nat):((rows.take i).flatMap (Fh l)).length≤1024*rows.length:=by
 have:=NM (Fh l) 1024 (rows.take i) fun r _=>A3t l r
 have h2:(rows.take i).length≤rows.length:=by rw[List.length_take];omega
 have:=Nat.mul_le_mul_left 1024 h2
 omega
theorem Bkm (n:Nat):decide ((n:Int) >1048576)=decide (1048576 <n):=decide_eq_decide.2 (by omega)
theorem A6g (l:List Ae) (m:AS):(bif Dn l m !=0 then[] else bif decide (1048576 <(JE l m).length) then[] else EY (JE l m))=Lr l m:=by
 unfold Lr Kc
 cases h:Dn l m !=0 with
 |true=>
  have:(Dn l m==0)=false:=by simpa using h
  rw[cond_true,cond_true,this];rfl
 |false=>
  rw[cond_false,cond_false]
  cases decide (1048576 <(JE l m).length)<;>rfl
abbrev Cwd:=Bjh
abbrev BO:Type:=(List Int)×Int×Int×Ak
def ZW (x:BO):St:=⟨105,5,[(7,.sq 4),(35,.sl .i64 x.1),(36,iV (x.2.1)),(37,iV (x.2.2.1))],[(4,some (.arr 5 1 (.ty .u8 x.2.2.2)))]⟩
def Oe:St→Option BO
 |⟨105,5,[(7,.sq 4),(35,.sl .i64 z0),(36,.v (.int .i64 z1)),(37,.v (.int .i64 z2))],[(4,some (.arr 5 1 (.ty .u8 z3)))]⟩=>some (z0,z1,z2,z3)
 |_=>none
def ZV:E2:=⟨4,5,[7,35,36,37],[],[(5,4)],[5],[7],[4]⟩
def ZU:Fz:=⟨[],[(3,4)],[7,35,36,37],[3]⟩
def Jz (a0:List Int) (_a1 a2:Int) (a3:Ak):Ak:=a3++AE (a0.getD a2.toNat (Ao TC.i64))
def CO:BO→BO
  |(a0,a1,a2,a3)=>(a0,a1,IntKind.i64.wrap (a2+1),Jz a0 a1 a2 a3)
def CN (x:BO):DB:=some (!!decide (x.2.2.1 <x.2.1))
def MN:BO→List Prop
  |(a0,a1,a2,a3)=>[((!!decide (a2 <a1))=true→0≤a2∧a2 <(a0.length:Int)),((!!decide (a2 <a1))=true→Ai (a3.length+8))]
abbrev GM:BO→List Prop:=MN
def Ui (x:BO):BG:=[(some 1,some (!decide (x.2.2.1 <x.2.1)),⟨105,5,[(7,.sq 4)],[(4,some (.arr 5 1 (.ty .u8 x.2.2.2)))]⟩)]
def CM (x:BO):Nat:=(x.2.1 - x.2.2.1).toNat
def CX (x:BO):BO:=Bj CO CN (CM x) x
def Wu:=Jg (CP Cwd.1 L0) (AQ Bb 7 1) ZV ZU Oe CM CO CN GM Ui
def KC:=WA 1 (g:=Wu) (CR (T:=ZW) (psA:=MN) Cwd.2 A9 (u:=9) (by kernel_rfl) (by decide) (fun⟨a0,a1,a2,a3⟩=>by kernel_rfl) (fun _ h=>h) (fun s x h=>by unfold Oe at h;split at h<;>first|(cases h;rfl)|cases h) (fun _=>Bm (n:=105) rfl) fun _ _=>rfl) ⟨L0,A9⟩
abbrev BP:Type:=(List Ak)×Int×Int×Ak
def ZZ (x:BP):St:=⟨105,6,[(7,.sq 5),(46,.sl .digest x.1),(47,iV (x.2.1)),(48,iV (x.2.2.1))],[(5,some (.arr 5 1 (.ty .u8 x.2.2.2)))]⟩
def Og:St→Option BP
 |⟨105,6,[(7,.sq 5),(46,.sl .digest z0),(47,.v (.int .i64 z1)),(48,.v (.int .i64 z2))],[(5,some (.arr 5 1 (.ty .u8 z3)))]⟩=>some (z0,z1,z2,z3)
 |_=>none
def ZY:E2:=⟨5,6,[7,46,47,48],[],[(7,5)],[7],[7],[5]⟩
def ZX:Fz:=⟨[],[(4,5)],[7,46,47,48],[4]⟩
def ID (a0:List Ak) (_a1 a2:Int) (_a3:Ak):Int:=(↑(List.getD (a0.getD a2.toNat (Ao TC.digest)) 31 (0:UInt8)).toNat:Int)
def IC (a0:List Ak) (_a1 a2:Int) (_a3:Ak):Int:=(↑(List.getD (a0.getD a2.toNat (Ao TC.digest)) 30 (0:UInt8)).toNat:Int)
def IB (a0:List Ak) (_a1 a2:Int) (_a3:Ak):Int:=(↑(List.getD (a0.getD a2.toNat (Ao TC.digest)) 29 (0:UInt8)).toNat:Int)
def IA (a0:List Ak) (_a1 a2:Int) (_a3:Ak):Int:=(↑(List.getD (a0.getD a2.toNat (Ao TC.digest)) 28 (0:UInt8)).toNat:Int)
def Iz (a0:List Ak) (_a1 a2:Int) (_a3:Ak):Int:=(↑(List.getD (a0.getD a2.toNat (Ao TC.digest)) 27 (0:UInt8)).toNat:Int)
def Iy (a0:List Ak) (_a1 a2:Int) (_a3:Ak):Int:=(↑(List.getD (a0.getD a2.toNat (Ao TC.digest)) 26 (0:UInt8)).toNat:Int)
def Ix (a0:List Ak) (_a1 a2:Int) (_a3:Ak):Int:=(↑(List.getD (a0.getD a2.toNat (Ao TC.digest)) 25 (0:UInt8)).toNat:Int)
def Iw (a0:List Ak) (_a1 a2:Int) (_a3:Ak):Int:=(↑(List.getD (a0.getD a2.toNat (Ao TC.digest)) 24 (0:UInt8)).toNat:Int)
def Iv (a0:List Ak) (_a1 a2:Int) (_a3:Ak):Int:=(↑(List.getD (a0.getD a2.toNat (Ao TC.digest)) 23 (0:UInt8)).toNat:Int)
def Iu (a0:List Ak) (_a1 a2:Int) (_a3:Ak):Int:=(↑(List.getD (a0.getD a2.toNat (Ao TC.digest)) 22 (0:UInt8)).toNat:Int)
def It (a0:List Ak) (_a1 a2:Int) (_a3:Ak):Int:=(↑(List.getD (a0.getD a2.toNat (Ao TC.digest)) 21 (0:UInt8)).toNat:Int)
def Is (a0:List Ak) (_a1 a2:Int) (_a3:Ak):Int:=(↑(List.getD (a0.getD a2.toNat (Ao TC.digest)) 20 (0:UInt8)).toNat:Int)
def Ir (a0:List Ak) (_a1 a2:Int) (_a3:Ak):Int:=(↑(List.getD (a0.getD a2.toNat (Ao TC.digest)) 19 (0:UInt8)).toNat:Int)
def Iq (a0:List Ak) (_a1 a2:Int) (_a3:Ak):Int:=(↑(List.getD (a0.getD a2.toNat (Ao TC.digest)) 18 (0:UInt8)).toNat:Int)
def Ip (a0:List Ak) (_a1 a2:Int) (_a3:Ak):Int:=(↑(List.getD (a0.getD a2.toNat (Ao TC.digest)) 17 (0:UInt8)).toNat:Int)
def Io (a0:List Ak) (_a1 a2:Int) (_a3:Ak):Int:=(↑(List.getD (a0.getD a2.toNat (Ao TC.digest)) 16 (0:UInt8)).toNat:Int)
def In (a0:List Ak) (_a1 a2:Int) (_a3:Ak):Int:=(↑(List.getD (a0.getD a2.toNat (Ao TC.digest)) 15 (0:UInt8)).toNat:Int)
def Im (a0:List Ak) (_a1 a2:Int) (_a3:Ak):Int:=(↑(List.getD (a0.getD a2.toNat (Ao TC.digest)) 14 (0:UInt8)).toNat:Int)
def Il (a0:List Ak) (_a1 a2:Int) (_a3:Ak):Int:=(↑(List.getD (a0.getD a2.toNat (Ao TC.digest)) 13 (0:UInt8)).toNat:Int)
def Ik (a0:List Ak) (_a1 a2:Int) (_a3:Ak):Int:=(↑(List.getD (a0.getD a2.toNat (Ao TC.digest)) 12 (0:UInt8)).toNat:Int)
def Ij (a0:List Ak) (_a1 a2:Int) (_a3:Ak):Int:=(↑(List.getD (a0.getD a2.toNat (Ao TC.digest)) 11 (0:UInt8)).toNat:Int)
def Ii (a0:List Ak) (_a1 a2:Int) (_a3:Ak):Int:=(↑(List.getD (a0.getD a2.toNat (Ao TC.digest)) 10 (0:UInt8)).toNat:Int)
def I9 (a0:List Ak) (_a1 a2:Int) (_a3:Ak):Int:=(↑(List.getD (a0.getD a2.toNat (Ao TC.digest)) 9 (0:UInt8)).toNat:Int)
def I8 (a0:List Ak) (_a1 a2:Int) (_a3:Ak):Int:=(↑(List.getD (a0.getD a2.toNat (Ao TC.digest)) 8 (0:UInt8)).toNat:Int)
def I7 (a0:List Ak) (_a1 a2:Int) (_a3:Ak):Int:=(↑(List.getD (a0.getD a2.toNat (Ao TC.digest)) 7 (0:UInt8)).toNat:Int)
def I6 (a0:List Ak) (_a1 a2:Int) (_a3:Ak):Int:=(↑(List.getD (a0.getD a2.toNat (Ao TC.digest)) 6 (0:UInt8)).toNat:Int)
def I5 (a0:List Ak) (_a1 a2:Int) (_a3:Ak):Int:=(↑(List.getD (a0.getD a2.toNat (Ao TC.digest)) 5 (0:UInt8)).toNat:Int)
def I4 (a0:List Ak) (_a1 a2:Int) (_a3:Ak):Int:=(↑(List.getD (a0.getD a2.toNat (Ao TC.digest)) 4 (0:UInt8)).toNat:Int)
def I3 (a0:List Ak) (_a1 a2:Int) (_a3:Ak):Int:=(↑(List.getD (a0.getD a2.toNat (Ao TC.digest)) 3 (0:UInt8)).toNat:Int)
def I2 (a0:List Ak) (_a1 a2:Int) (_a3:Ak):Int:=(↑(List.getD (a0.getD a2.toNat (Ao TC.digest)) 2 (0:UInt8)).toNat:Int)
def I1 (a0:List Ak) (_a1 a2:Int) (_a3:Ak):Int:=(↑(List.getD (a0.getD a2.toNat (Ao TC.digest)) 1 (0:UInt8)).toNat:Int)
def I0 (a0:List Ak) (_a1 a2:Int) (_a3:Ak):Int:=(↑(List.getD (a0.getD a2.toNat (Ao TC.digest)) 0 (0:UInt8)).toNat:Int)
def JA (a0:List Ak) (a1 a2:Int) (a3:Ak):Ak:=a3++[UInt8.ofNat (I0 a0 a1 a2 a3).toNat,UInt8.ofNat (I1 a0 a1 a2 a3).toNat,UInt8.ofNat (I2 a0 a1 a2 a3).toNat,UInt8.ofNat (I3 a0 a1 a2 a3).toNat,UInt8.ofNat (I4 a0 a1 a2 a3).toNat,UInt8.ofNat (I5 a0 a1 a2 a3).toNat,UInt8.ofNat (I6 a0 a1 a2 a3).toNat,UInt8.ofNat (I7 a0 a1 a2 a3).toNat,UInt8.ofNat (I8 a0 a1 a2 a3).toNat,UInt8.ofNat (I9 a0 a1 a2 a3).toNat,UInt8.ofNat (Ii a0 a1 a2 a3).toNat,UInt8.ofNat (Ij a0 a1 a2 a3).toNat,UInt8.ofNat (Ik a0 a1 a2 a3).toNat,UInt8.ofNat (Il a0 a1 a2 a3).toNat,UInt8.ofNat (Im a0 a1 a2 a3).toNat,UInt8.ofNat (In a0 a1 a2 a3).toNat,UInt8.ofNat (Io a0 a1 a2 a3).toNat,UInt8.ofNat (Ip a0 a1 a2 a3).toNat,UInt8.ofNat (Iq a0 a1 a2 a3).toNat,UInt8.ofNat (Ir a0 a1 a2 a3).toNat,UInt8.ofNat (Is a0 a1 a2 a3).toNat,UInt8.ofNat (It a0 a1 a2 a3).toNat,UInt8.ofNat (Iu a0 a1 a2 a3).toNat,UInt8.ofNat (Iv a0 a1 a2 a3).toNat,UInt8.ofNat (Iw a0 a1 a2 a3).toNat,UInt8.ofNat (Ix a0 a1 a2 a3).toNat,UInt8.ofNat (Iy a0 a1 a2 a3).toNat,UInt8.ofNat (Iz a0 a1 a2 a3).toNat,UInt8.ofNat (IA a0 a1 a2 a3).toNat,UInt8.ofNat (IB a0 a1 a2 a3).toNat,UInt8.ofNat (IC a0 a1 a2 a3).toNat,UInt8.ofNat (ID a0 a1 a2 a3).toNat]
def Eb:BP→BP
  |(a0,a1,a2,a3)=>(a0,a1,IntKind.i64.wrap (a2+1),JA a0 a1 a2 a3)
def Ea (x:BP):DB:=some (!!decide (x.2.2.1 <x.2.1))
def MO:BP→List Prop
  |(a0,a1,a2,a3)=>[((!!decide (a2 <a1))=true→0≤a2∧a2 <(a0.length:Int)),((!!decide (a2 <a1))=true→(0:Int)≤0∧(0:Int)≤32),((!!decide (a2 <a1))=true→Ai (a3.length+32)),((!!decide (a2 <a1))=true→0≤(I0 a0 a1 a2 a3)∧(I0 a0 a1 a2 a3) <256),((!!decide (a2 <a1))=true→0≤(I1 a0 a1 a2 a3)∧(I1 a0 a1 a2 a3) <256),((!!decide (a2 <a1))=true→0≤(I2 a0 a1 a2 a3)∧(I2 a0 a1 a2 a3) <256),((!!decide (a2 <a1))=true→0≤(I3 a0 a1 a2 a3)∧(I3 a0 a1 a2 a3) <256),((!!decide (a2 <a1))=true→0≤(I4 a0 a1 a2 a3)∧(I4 a0 a1 a2 a3) <256),((!!decide (a2 <a1))=true→0≤(I5 a0 a1 a2 a3)∧(I5 a0 a1 a2 a3) <256),((!!decide (a2 <a1))=true→0≤(I6 a0 a1 a2 a3)∧(I6 a0 a1 a2 a3) <256),((!!decide (a2 <a1))=true→0≤(I7 a0 a1 a2 a3)∧(I7 a0 a1 a2 a3) <256),((!!decide (a2 <a1))=true→0≤(I8 a0 a1 a2 a3)∧(I8 a0 a1 a2 a3) <256),((!!decide (a2 <a1))=true→0≤(I9 a0 a1 a2 a3)∧(I9 a0 a1 a2 a3) <256),((!!decide (a2 <a1))=true→0≤(Ii a0 a1 a2 a3)∧(Ii a0 a1 a2 a3) <256),((!!decide (a2 <a1))=true→0≤(Ij a0 a1 a2 a3)∧(Ij a0 a1 a2 a3) <256),((!!decide (a2 <a1))=true→0≤(Ik a0 a1 a2 a3)∧(Ik a0 a1 a2 a3) <256),((!!decide (a2 <a1))=true→0≤(Il a0 a1 a2 a3)∧(Il a0 a1 a2 a3) <256),((!!decide (a2 <a1))=true→0≤(Im a0 a1 a2 a3)∧(Im a0 a1 a2 a3) <256),((!!decide (a2 <a1))=true→0≤(In a0 a1 a2 a3)∧(In a0 a1 a2 a3) <256),((!!decide (a2 <a1))=true→0≤(Io a0 a1 a2 a3)∧(Io a0 a1 a2 a3) <256),((!!decide (a2 <a1))=true→0≤(Ip a0 a1 a2 a3)∧(Ip a0 a1 a2 a3) <256),((!!decide (a2 <a1))=true→0≤(Iq a0 a1 a2 a3)∧(Iq a0 a1 a2 a3) <256),((!!decide (a2 <a1))=true→0≤(Ir a0 a1 a2 a3)∧(Ir a0 a1 a2 a3) <256),((!!decide (a2 <a1))=true→0≤(Is a0 a1 a2 a3)∧(Is a0 a1 a2 a3) <256),((!!decide (a2 <a1))=true→0≤(It a0 a1 a2 a3)∧(It a0 a1 a2 a3) <256),((!!decide (a2 <a1))=true→0≤(Iu a0 a1 a2 a3)∧(Iu a0 a1 a2 a3) <256),((!!decide (a2 <a1))=true→0≤(Iv a0 a1 a2 a3)∧(Iv a0 a1 a2 a3) <256),((!!decide (a2 <a1))=true→0≤(Iw a0 a1 a2 a3)∧(Iw a0 a1 a2 a3) <256),((!!decide (a2 <a1))=true→0≤(Ix a0 a1 a2 a3)∧(Ix a0 a1 a2 a3) <256),((!!decide (a2 <a1))=true→0≤(Iy a0 a1 a2 a3)∧(Iy a0 a1 a2 a3) <256),((!!decide (a2 <a1))=true→0≤(Iz a0 a1 a2 a3)∧(Iz a0 a1 a2 a3) <256),((!!decide (a2 <a1))=true→0≤(IA a0 a1 a2 a3)∧(IA a0 a1 a2 a3) <256),((!!decide (a2 <a1))=true→0≤(IB a0 a1 a2 a3)∧(IB a0 a1 a2 a3) <256),((!!decide (a2 <a1))=true→0≤(IC a0 a1 a2 a3)∧(IC a0 a1 a2 a3) <256),((!!decide (a2 <a1))=true→0≤(ID a0 a1 a2 a3)∧(ID a0 a1 a2 a3) <256)]
def Fj:BP→List Prop
  |(a0,a1,a2,a3)=>[((!!decide (a2 <a1))=true→0≤a2∧a2 <(a0.length:Int)),((!!decide (a2 <a1))=true→Ai (a3.length+32))]
def Uj (x:BP):BG:=[(some 3,some (!decide (x.2.2.1 <x.2.1)),⟨105,6,[(7,.sq 5)],[(5,some (.arr 5 1 (.ty .u8 x.2.2.2)))]⟩)]
def D9 (x:BP):Nat:=(x.2.1 - x.2.2.1).toNat
def Gf (x:BP):BP:=Bj Eb Ea (D9 x) x
theorem Yb (a0:List Ak) (a1 a2:Int) (a3:Ak) (hp:∀p∈Fj (a0,a1,a2,a3),p):∀p∈MO (a0,a1,a2,a3),p:=
  (nT hp fun hp=>Aa (by omega) (nT hp fun _=>Aa (by intros;exact Jo _) (Aa (by intros;exact Jo _) (Aa (by intros;exact Jo _) (Aa (by intros;exact Jo _) (Aa (by intros;exact Jo _) (Aa (by intros;exact Jo _) (Aa (by intros;exact Jo _) (Aa (by intros;exact Jo _) (Aa (by intros;exact Jo _) (Aa (by intros;exact Jo _) (Aa (by intros;exact Jo _) (Aa (by intros;exact Jo _) (Aa (by intros;exact Jo _) (Aa (by intros;exact Jo _) (Aa (by intros;exact Jo _) (Aa (by intros;exact Jo _) (Aa (by intros;exact Jo _) (Aa (by intros;exact Jo _) (Aa (by intros;exact Jo _) (Aa (by intros;exact Jo _) (Aa (by intros;exact Jo _) (Aa (by intros;exact Jo _) (Aa (by intros;exact Jo _) (Aa (by intros;exact Jo _) (Aa (by intros;exact Jo _) (Aa (by intros;exact Jo _) (Aa (by intros;exact Jo _) (Aa (by intros;exact Jo _) (Aa (by intros;exact Jo _) (Aa (by intros;exact Jo _) (Aa (by intros;exact Jo _) (Aa (by intros;exact Jo _) An)))))))))))))))))))))))))))))))))
def Wv:=Jg (CP Cwd.1 KC.1) (AQ Bb 7 3) ZY ZX Og D9 Eb Ea Fj Uj
def KD:=WA 3 (g:=Wv) (CR (T:=ZZ) (psA:=MO) Cwd.2 KC.2 (u:=9) (by kernel_rfl) (by decide) (fun⟨a0,a1,a2,a3⟩=>by kernel_rfl) (fun⟨a0,a1,a2,a3⟩=>Yb a0 a1 a2 a3) (fun s x h=>by unfold Og at h;split at h<;>first|(cases h;rfl)|cases h) (fun _=>Bm (n:=105) rfl) fun _ _=>rfl) KC
abbrev BQ:Type:=(List Ae)×(List AW)×Int×Int×Ak
def Z3 (x:BQ):St:=⟨105,12,[(0,.sl .group x.1),(7,.sq 11),(89,.sl .row x.2.1),(90,iV (x.2.2.1)),(91,iV (x.2.2.2.1))],[(11,some (.arr 5 1 (.ty .u8 x.2.2.2.2)))]⟩
def Oh:St→Option BQ
 |⟨105,12,[(0,.sl .group z0),(7,.sq 11),(89,.sl .row z1),(90,.v (.int .i64 z2)),(91,.v (.int .i64 z3))],[(11,some (.arr 5 1 (.ty .u8 z4)))]⟩=>some (z0,z1,z2,z3,z4)
 |_=>none
def Z2:E2:=⟨11,12,[0,7,89,90,91],[],[(13,11)],[13],[7],[11]⟩
def Z1:Fz:=⟨[],[(10,11)],[0,7,89,90,91],[10]⟩
def JB (a0:List Ae) (a1:List AW) (_a2 a3:Int) (a4:Ak):Ak:=a4++Fh a0 (a1.getD a3.toNat (Ao TC.row))
def Ee:BQ→BQ
  |(a0,a1,a2,a3,a4)=>(a0,a1,a2,IntKind.i64.wrap (a3+1),JB a0 a1 a2 a3 a4)
def Ed (x:BQ):DB:=some (!!decide (x.2.2.2.1 <x.2.2.1))
def MP:BQ→List Prop
  |(_,a1,a2,a3,a4)=>[((!!decide (a3 <a2))=true→0≤a3∧a3 <(a1.length:Int)),((!!decide (a3 <a2))=true→Ai (a4.length+1024))]
abbrev GN:BQ→List Prop:=MP
def Uk (x:BQ):BG:=[(some 5,some (!decide (x.2.2.2.1 <x.2.2.1)),⟨105,12,[(7,.sq 11)],[(11,some (.arr 5 1 (.ty .u8 x.2.2.2.2)))]⟩)]
def Ec (x:BQ):Nat:=(x.2.2.1 - x.2.2.2.1).toNat
def HE (x:BQ):BQ:=Bj Ee Ed (Ec x) x
def Ww:=Jg (CP Cwd.1 KD.1) (AQ Bb 7 5) Z2 Z1 Oh Ec Ee Ed GN Uk
def PT:=WA 5 (g:=Ww) (CR (T:=Z3) (psA:=MP) Cwd.2 KD.2 (u:=9) (by kernel_rfl) (by decide) (fun⟨a0,a1,a2,a3,a4⟩=>by kernel_rfl) (fun _ h=>h) (fun s x h=>by unfold Oh at h;split at h<;>first|(cases h;rfl)|cases h) (fun _=>Bm (n:=105) rfl) fun _ _=>rfl) KD
def AF (a0:List Ae) (a1:AS):Bool:=Dn a0 a1 !=0
def Aw (_a0:List Ae) (a1:AS):Ak:=[]++AE a1.1++AE a1.2
def Ds (_a0:List Ae) (a1:AS):List AW:=bif a1.1==1 then a1.8 else bif a1.1==2 then a1.8 else a1.8
def Dr (a0:List Ae) (a1:AS):Int:=(↑(Ds a0 a1).length:Int)
def Bn (_a0:List Ae) (a1:AS):Bool:=(bif a1.1==1 then a1.1 else bif a1.1==2 then a1.1 else a1.1)==5
def D0 (a0:List Ae) (a1:AS):Ak:=AE (Dr a0 a1)
def Dq (a0:List Ae) (a1:AS):Ak:=(Aw a0 a1)++AE a1.4
def Ge (_a0:List Ae) (a1:AS):Ak:=GY (Bu.mk (bif a1.1==1 then a1.9.1 else bif a1.1==2 then a1.9.1 else a1.9.1) (bif a1.1==1 then a1.9.2 else bif a1.1==2 then a1.9.2 else a1.9.2))
def Cs (a0:List Ae) (a1:AS):Ak:=bif a1.1==1 then(Aw a0 a1)++Kg a0 a1.3 else bif a1.1==2 then(Dq a0 a1)++AE a1.5 else(Gf (a1.7,(a1.7.length:Int),0,(CX (a1.6,(a1.6.length:Int),0,(Aw a0 a1)++AE (a1.6.length:Int))).2.2.2)).2.2.2
def CI (a0:List Ae) (a1:AS):Ak:=(Cs a0 a1)++(Ge a0 a1)++AE (bif bif a1.1==1 then a1.10 else bif a1.1==2 then a1.10 else a1.10 then 1 else 0)
def Ih (a0:List Ae) (a1:AS):Bool:=decide ((↑(bif(Bn a0 a1) then(HE (a0,(Ds a0 a1),(Dr a0 a1),0,(bif a1.1==1 then(Aw a0 a1)++Kg a0 a1.3 else bif a1.1==2 then(Dq a0 a1)++AE a1.5 else(Gf (a1.7,(a1.7.length:Int),0,(Bj CO CN (CM (a1.6,(a1.6.length:Int),0,(Aw a0 a1)++AE (a1.6.length:Int))) (a1.6,(a1.6.length:Int),0,(Aw a0 a1)++AE (a1.6.length:Int))).2.2.2)).2.2.2)++(Ge a0 a1)++AE (bif bif a1.1==1 then a1.10 else bif a1.1==2 then a1.10 else a1.10 then 1 else 0)++(D0 a0 a1))).2.2.2.2 else(Cs a0 a1)).length:Int) >1048576)
def OT (a0:List Ae) (a1:AS):Int:=bif(AF a0 a1) then Dn a0 a1 else bif(Ih a0 a1) then 3 else 0
def KR (a0:List Ae) (a1:AS):Ak:=bif(AF a0 a1) then[] else bif(Ih a0 a1) then[] else EY (bif(Bn a0 a1) then(HE (a0,(Ds a0 a1),(Dr a0 a1),0,(bif a1.1==1 then(Aw a0 a1)++Kg a0 a1.3 else bif a1.1==2 then(Dq a0 a1)++AE a1.5 else(Gf (a1.7,(a1.7.length:Int),0,(Bj CO CN (CM (a1.6,(a1.6.length:Int),0,(Aw a0 a1)++AE (a1.6.length:Int))) (a1.6,(a1.6.length:Int),0,(Aw a0 a1)++AE (a1.6.length:Int))).2.2.2)).2.2.2)++(Ge a0 a1)++AE (bif bif a1.1==1 then a1.10 else bif a1.1==2 then a1.10 else a1.10 then 1 else 0)++(D0 a0 a1))).2.2.2.2 else(Cs a0 a1))
def OV (a0:List Ae) (a1:AS):A:=.tup [.sq 0,iV ((OT a0 a1))]
def OU (a0:List Ae) (a1:AS):AJ:=[(0,some (.arr 5 1 (.ty .u8 (KR a0 a1))))]
def Td (a0:List Ae) (a1:AS):List Prop:=[(ED a1),((!(AF a0 a1))=true→Ai (([]++AE a1.1).length+8)),((!(AF a0 a1))=true→(a1.1==1)=true→AT a1.3.5.length∧Ai ((Aw a0 a1).length+2048)),((!(AF a0 a1))=true→(a1.1==1)=false→(a1.1==2)=true→Ai ((Aw a0 a1).length+8)),((!(AF a0 a1))=true→(a1.1==1)=false→(a1.1==2)=true→Ai ((Dq a0 a1).length+8)),((!(AF a0 a1))=true→(a1.1==1)=false→(a1.1==2)=false→Ai ((Aw a0 a1).length+8)),((!(AF a0 a1))=true→(a1.1==1)=false→(a1.1==2)=false→A3 CO CN GM (CM (a1.6,(a1.6.length:Int),0,(Aw a0 a1)++AE (a1.6.length:Int))) (a1.6,(a1.6.length:Int),0,(Aw a0 a1)++AE (a1.6.length:Int))),((!(AF a0 a1))=true→(a1.1==1)=false→(a1.1==2)=false→A3 Eb Ea Fj (D9 (a1.7,(a1.7.length:Int),0,(CX (a1.6,(a1.6.length:Int),0,(Aw a0 a1)++AE (a1.6.length:Int))).2.2.2)) (a1.7,(a1.7.length:Int),0,(CX (a1.6,(a1.6.length:Int),0,(Aw a0 a1)++AE (a1.6.length:Int))).2.2.2)),((!(AF a0 a1))=true→(Bn a0 a1)=true→Ai ((Cs a0 a1).length+16)),((!(AF a0 a1))=true→(Bn a0 a1)=true→Ai (((Cs a0 a1)++(Ge a0 a1)).length+8)),((!(AF a0 a1))=true→(Bn a0 a1)=true→Ai ((CI a0 a1).length+8)),((!(AF a0 a1))=true→(Bn a0 a1)=true→A3 Ee Ed GN (Ec (a0,(Ds a0 a1),(Dr a0 a1),0,(CI a0 a1)++(D0 a0 a1))) (a0,(Ds a0 a1),(Dr a0 a1),0,(CI a0 a1)++(D0 a0 a1)))]
theorem Aib (a0:List Ae) (a1:AS):Tx (CP Cwd.1 PT.1) 9 7 [.sl .group a0,AX .msg a1] 0 []=some (1,OV a0 a1,1,OU a0 a1,[(ED a1),((!(AF a0 a1))=true→Ai 8),((!(AF a0 a1))=true→Ai (([]++AE a1.1).length+8)),((!(AF a0 a1))=true→(a1.1==1)=true→AT a1.3.5.length∧Ai ((Aw a0 a1).length+2048)),((!(AF a0 a1))=true→(a1.1==1)=false→(a1.1==2)=true→Ai ((Aw a0 a1).length+8)),((!(AF a0 a1))=true→(a1.1==1)=false→(a1.1==2)=true→Ai ((Dq a0 a1).length+8)),((!(AF a0 a1))=true→(a1.1==1)=false→(a1.1==2)=false→Ai ((Aw a0 a1).length+8)),((!(AF a0 a1))=true→(a1.1==1)=false→(a1.1==2)=false→AQ Bb (7:FuncId) 1=AQ Bb (7:FuncId) 1),((!(AF a0 a1))=true→(a1.1==1)=false→(a1.1==2)=false→A3 CO CN GM (CM (a1.6,(a1.6.length:Int),0,(Aw a0 a1)++AE (a1.6.length:Int))) (a1.6,(a1.6.length:Int),0,(Aw a0 a1)++AE (a1.6.length:Int))),((!(AF a0 a1))=true→(a1.1==1)=false→(a1.1==2)=false→AQ Bb (7:FuncId) 3=AQ Bb (7:FuncId) 3),((!(AF a0 a1))=true→(a1.1==1)=false→(a1.1==2)=false→A3 Eb Ea Fj (D9 (a1.7,(a1.7.length:Int),0,(CX (a1.6,(a1.6.length:Int),0,(Aw a0 a1)++AE (a1.6.length:Int))).2.2.2)) (a1.7,(a1.7.length:Int),0,(CX (a1.6,(a1.6.length:Int),0,(Aw a0 a1)++AE (a1.6.length:Int))).2.2.2)),((!(AF a0 a1))=true→(Bn a0 a1)=true→Ai ((Cs a0 a1).length+16)),((!(AF a0 a1))=true→(Bn a0 a1)=true→Ai (((Cs a0 a1)++(Ge a0 a1)).length+8)),((!(AF a0 a1))=true→(Bn a0 a1)=true→Ai ((CI a0 a1).length+8)),((!(AF a0 a1))=true→(Bn a0 a1)=true→AQ Bb (7:FuncId) 5=AQ Bb (7:FuncId) 5),((!(AF a0 a1))=true→(Bn a0 a1)=true→A3 Ee Ed GN (Ec (a0,(Ds a0 a1),(Dr a0 a1),0,(CI a0 a1)++(D0 a0 a1))) (a0,(Ds a0 a1),(Dr a0 a1),0,(CI a0 a1)++(D0 a0 a1)))]):=by kernel_rfl
theorem Aj3 (a0:List Ae) (a1:AS) (hp:∀p∈Td a0 a1,p):Ax Bb 7 [.sl .group a0,AX .msg a1] 0 [] 1 (OV a0 a1) 1 (OU a0 a1):=
  Bh (AU Cwd.2 PT.2) (Aib a0 a1) (nT hp fun hp=>Aa (by intros;first|rfl|decide+kernel|exact⟨by decide,by decide⟩) (nT hp fun hp=>nT hp fun hp=>nT hp fun hp=>nT hp fun hp=>nT hp fun hp=>Aa (by intros;rfl) (nT hp fun hp=>Aa (by intros;rfl) (nT hp fun hp=>nT hp fun hp=>nT hp fun hp=>nT hp fun hp=>Aa (by intros;rfl) (nT hp fun _=>An)))))
def Te (a0:List Ae) (a1:AS):A:=.tup [.sq 0,iV ((Kc a0 a1))]
def Tc (a0:List Ae) (a1:AS):AJ:=[(0,some (.arr 5 1 (.ty .u8 (Lr a0 a1))))]
def Ru (_a0:List Ae) (a1:AS):List Prop:=[ED a1]
theorem Bd4 (p:List Int) (_hl:p.length≤2) (b:Ak) (hb:Ai (b.length+64)):
  A3 CO CN GM (CM (p,(p.length:Int),0,b)) (p,(p.length:Int),0,b)∧CX (p,(p.length:Int),0,b)=(p,(p.length:Int),(p.length:Int),b++p.flatMap AE):=by
 unfold Ai at hb
 have ar:∀i:Nat,(!!decide ((i:Int) <(p.length:Int)))=true→i <p.length:=fun k h=>by rw[nn] at h;have:=of_decide_eq_true h;omega
 obtain⟨h1,h2⟩:=A36 (fun i=>((p,(p.length:Int),(i:Int),b++(p.take i).flatMap AE):BO)) p.length CO CN GM (CM (p,(p.length:Int),0,b)) (p,(p.length:Int),0,b) (by simp) (by show p.length≤((p.length:Int) - 0).toNat;omega)
  (fun i _=>by
   show(!!decide ((i:Int) <(p.length:Int)))=_
   rw[nn,Ux])
  (fun i hi=>by
   show(p,(p.length:Int),IntKind.i64.wrap ((i:Int)+1),Jz p (p.length:Int) (i:Int) (b++(p.take i).flatMap AE))=_
   unfold Jz
   rw[JK (by omega),Int.toNat_natCast,Xa AE p (Ao TC.i64) i hi,List.append_assoc])
  (fun i hi=>by
   have hf:=Bhg p i hi
   refine Aa (fun h=>by have:=ar i h;show(0:Int)≤(i:Int)∧(i:Int) <(p.length:Int);omega) (Aa (fun h=>?_) An)
   show Ai ((b++(p.take i).flatMap AE).length+8)
   rw[List.length_append];unfold Ai;omega)
 exact⟨h1,by show Bj _ _ _ _=_;rw[h2,List.take_length]⟩
theorem Bd5 (l:List Ak) (_hl:l.length≤16) (b:Ak) (hb:Ai (b.length+1024)):
  A3 Eb Ea Fj (D9 (l,(l.length:Int),0,b)) (l,(l.length:Int),0,b)∧Gf (l,(l.length:Int),0,b)=(l,(l.length:Int),(l.length:Int),b++l.flatMap Ft):=by
 unfold Ai at hb
 have ar:∀i:Nat,(!!decide ((i:Int) <(l.length:Int)))=true→i <l.length:=fun k h=>by rw[nn] at h;have:=of_decide_eq_true h;omega
 obtain⟨h1,h2⟩:=A36 (fun i=>((l,(l.length:Int),(i:Int),b++(l.take i).flatMap Ft):BP)) l.length Eb Ea Fj (D9 (l,(l.length:Int),0,b)) (l,(l.length:Int),0,b) (by simp) (by show l.length≤((l.length:Int) - 0).toNat;omega)
  (fun i _=>by
   show(!!decide ((i:Int) <(l.length:Int)))=_
   rw[nn,Ux])
  (fun i hi=>by
   have e:JA l (l.length:Int) (i:Int) (b++(l.take i).flatMap Ft)=(b++(l.take i).flatMap Ft)++(List.range 32).map (fun j=>UInt8.ofNat ((((l.getD ((i:Int)).toNat (Ao TC.digest)).getD j 0).toNat:Nat):Int).toNat):=rfl
   have e2:(List.range 32).map (fun j=>UInt8.ofNat ((((l.getD ((i:Int)).toNat (Ao TC.digest)).getD j 0).toNat:Nat):Int).toNat)=Ft (l.getD i (Ao TC.digest)):=by
    rw[Int.toNat_natCast]
    exact List.map_congr_left fun j _=>Blj _
   show(l,(l.length:Int),IntKind.i64.wrap ((i:Int)+1),JA l (l.length:Int) (i:Int) (b++(l.take i).flatMap Ft))=_
   rw[e,e2,JK (by omega),Xa Ft l (Ao TC.digest) i hi,List.append_assoc])
  (fun i hi=>by
   have hf:=Bbw l i
   exact Aa (fun h=>by have:=ar i h;show(0:Int)≤(i:Int)∧(i:Int) <(l.length:Int);omega) (Aa (fun h=>by
    show Ai ((b++(l.take i).flatMap Ft).length+32)
    rw[List.length_append];unfold Ai;omega) An))
 exact⟨h1,by show Bj _ _ _ _=_;rw[h2,List.take_length]⟩
theorem Bd6 (l:List Ae) (rows:List AW) (_hl:rows.length≤256) (b:Ak) (hb:Ai (b.length+300000)):
  A3 Ee Ed GN (Ec (l,rows,(rows.length:Int),0,b)) (l,rows,(rows.length:Int),0,b)∧HE (l,rows,(rows.length:Int),0,b)=(l,rows,(rows.length:Int),(rows.length:Int),b++rows.flatMap (Fh l)):=by
 unfold Ai at hb
 have ar:∀i:Nat,(!!decide ((i:Int) <(rows.length:Int)))=true→i <rows.length:=fun k h=>by rw[nn] at h;have:=of_decide_eq_true h;omega
 obtain⟨h1,h2⟩:=A36 (fun i=>((l,rows,(rows.length:Int),(i:Int),b++(rows.take i).flatMap (Fh l)):BQ)) rows.length Ee Ed GN (Ec (l,rows,(rows.length:Int),0,b)) (l,rows,(rows.length:Int),0,b) (by simp) (by show rows.length≤((rows.length:Int) - 0).toNat;omega)
  (fun i _=>by
   show(!!decide ((i:Int) <(rows.length:Int)))=_
   rw[nn,Ux])
  (fun i hi=>by
   show(l,rows,(rows.length:Int),IntKind.i64.wrap ((i:Int)+1),JB l rows (rows.length:Int) (i:Int) (b++(rows.take i).flatMap (Fh l)))=_
   unfold JB
   rw[JK (by omega),Int.toNat_natCast,Xa (Fh l) rows (Ao TC.row) i hi,List.append_assoc])
  (fun i _=>by
   have hf:=Bbx l rows i
   refine Aa (fun h=>by have:=ar i h;show(0:Int)≤(i:Int)∧(i:Int) <(rows.length:Int);omega) (Aa (fun h=>?_) An)
   show Ai ((b++(rows.take i).flatMap (Fh l)).length+1024)
   rw[List.length_append];unfold Ai;omega)
 exact⟨h1,by show Bj _ _ _ _=_;rw[h2,List.take_length]⟩
def Abw (l:List Ae) (m:AS):Ak:=bif Bn l m then(HE (l,Ds l m,Dr l m,0,CI l m++D0 l m)).2.2.2.2 else Cs l m
theorem A10 (l:List Ae) (m:AS):Aw l m=AE m.kind++AE m.site:=by unfold Aw;rw[List.nil_append]
theorem Apt (l:List Ae) (m:AS):Bn l m=(m.kind==5):=by unfold Bn;simp only[WD]
theorem Apv (l:List Ae) (m:AS):Ds l m=m.rows:=by unfold Ds;simp only[WD]
theorem Apu (l:List Ae) (m:AS):Dr l m=(m.rows.length:Int):=by unfold Dr;rw[Apv]
theorem A1z (l:List Ae) (m:AS):D0 l m=AE (m.rows.length:Int):=by unfold D0;rw[Apu]
theorem A1y (l:List Ae) (m:AS):Ge l m=GY m.know:=by unfold Ge;simp only[WD]
theorem A1x (l:List Ae) (m:AS):CI l m=Cs l m++GY m.know++AE (bif m.back then 1 else 0):=by unfold CI;rw[A1y];simp only[WD]
theorem Aia {l:List Ae} {m:AS} (hm:ED m):(∀p∈Td l m,p)∧(Dn l m=0→Abw l m=JE l m):=by
 have j7:(Aw l m).length≤16:=by
  rw[A10,List.length_append]
  have h1:=DJ m.kind
  have h2:=DJ m.site
  omega
 have h8:=DJ m.ack
 have h8':=DJ m.own
 have hv:=TL m.know
 have h9:=DJ (bif m.back then 1 else 0)
 have h10:=DJ (m.rows.length:Int)
 have h11:=DJ (m.path.length:Int)
 have ri:=A3s l m.change
 have k4:(Dq l m).length=(Aw l m).length+(AE m.ack).length:=by unfold Dq;rw[List.length_append]
 have jo:(!(AF l m))=true→Dn l m=0:=fun h=>by
  have h':(!(Dn l m !=0))=true:=h
  simpa using h'
 have l1:Dn l m=0→_:=fun h=>Bd4 m.path (A06 (Zj (KJ.1 h).2).2.1) (Aw l m++AE (m.path.length:Int)) (by rw[List.length_append];unfold Ai;omega)
 have hf1:Dn l m=0→(m.path.flatMap AE).length≤16:=fun h=>by
  have h2:=NM AE 8 m.path fun n _=>DJ n
  have:=A06 (Zj (KJ.1 h).2).2.1
  omega
 have l3:Dn l m=0→_:=fun h=>Bd5 m.sums (Zj (KJ.1 h).2).2.2.2.1 ((Aw l m++AE (m.path.length:Int))++m.path.flatMap AE) (by have:=hf1 h;rw[List.length_append,List.length_append];unfold Ai;omega)
 have yg:Dn l m=0→(m.sums.flatMap Ft).length≤512:=fun h=>by
  have h2:=NM Ft 32 m.sums fun d _=>Nat.le_of_eq (Zs d)
  have:=(Zj (KJ.1 h).2).2.2.2.1
  omega
 have k2:Dn l m=0→Cs l m=bif m.kind==1 then Aw l m++Kg l m.change else bif m.kind==2 then Dq l m++AE m.own else Aw l m++JH m.path++m.sums.flatMap Ft:=fun h=>by
  unfold Cs JH
  have e1:=(l1 h).2
  have e3:=(l3 h).2
  have la:(CX (m.6,(m.6.length:Int),0,Aw l m++AE (m.6.length:Int))).2.2.2=(Aw l m++AE (m.path.length:Int))++m.path.flatMap AE:=congrArg (fun x=>x.2.2.2) e1
  rw[la]
  have vq:(Gf (m.7,(m.7.length:Int),0,(Aw l m++AE (m.path.length:Int))++m.path.flatMap AE)).2.2.2=_:=congrArg (fun x=>x.2.2.2) e3
  rw[vq]
  simp only[List.append_assoc]
 have qk:Dn l m=0→(Cs l m).length≤2000:=fun h=>by
  rw[k2 h]
  have q1:=hf1 h
  have q3:=yg h
  cases m.kind==1 with
  |true=>rw[cond_true,List.length_append];omega
  | false=>
   rw[cond_false]
   cases m.kind==2 with
   |true=>rw[cond_true,List.length_append,k4];omega
   |false=>
    unfold JH
    rw[cond_false,List.length_append,List.length_append,List.length_append];omega
 have h5:Dn l m=0→Bn l m=true→m.rows.length≤256:=fun h h6=>by
  rw[Apt] at h6
  have h6':m.kind=5:=by simpa using h6
  rcases(Zj (KJ.1 h).2).2.2.2.2 with k|k|k|k|k
  ·have:=k.1;omega
  ·have:=k.1;omega
  ·have:=k.1;omega
  ·have:=k.1;omega
  ·exact k.2.2.1
 have ve:(CI l m).length=(Cs l m).length+(GY m.know).length+(AE (bif m.back then 1 else 0)).length:=by rw[A1x,List.length_append,List.length_append]
 have l5:Dn l m=0→Bn l m=true→_:=fun h h6=>Bd6 l m.rows (h5 h h6) (CI l m++AE (m.rows.length:Int)) (by have:=qk h;rw[List.length_append,ve];unfold Ai;omega)
 refine⟨Aa hm (Aa (fun _=>by rw[List.nil_append];have:=DJ m.kind;show Ai ((AE m.kind).length+8);unfold Ai;omega) (Aa (fun _ _=>⟨hm.1,by unfold Ai;omega⟩) (Aa (fun _ _ _=>by unfold Ai;omega) (Aa (fun _ _ _=>by rw[k4];unfold Ai;omega) (Aa (fun _ _ _=>by unfold Ai;omega) (Aa (fun h _ _=>(l1 (jo h)).1) (Aa (fun h _ _=>?_) (Aa (fun h _=>by have:=qk (jo h);unfold Ai;omega) (Aa (fun h _=>?_) (Aa (fun h _=>by have:=qk (jo h);rw[ve];unfold Ai;omega) (Aa (fun h h6=>?_) An))))))))))),fun h=>?_⟩
 ·have la:(CX (m.6,(m.6.length:Int),0,Aw l m++AE (m.6.length:Int))).2.2.2=(Aw l m++AE (m.path.length:Int))++m.path.flatMap AE:=congrArg (fun x=>x.2.2.2) (l1 (jo h)).2
  rw[la]
  exact(l3 (jo h)).1
 ·have:=qk (jo h);rw[A1y,List.length_append];unfold Ai;omega
 ·rw[Apv,Apu,A1z]
  exact(l5 (jo h) h6).1
 ·have fk:=A10 l m
  unfold Abw
  rw[Apv,Apu,A1z,Apt]
  have e2:Dq l m=Aw l m++AE m.ack:=rfl
  unfold JE A9c Bff
  have dz:=Zj (KJ.1 h).2
  rcases dz.2.2.2.2 with k|k|k|k|k
  ·rw[k2 h,k.1]
   show Aw l m++Kg l m.change=AE 1++(AE m.site++Kg l m.change)
   rw[fk,k.1,List.append_assoc]
  ·rw[k2 h,k.1]
   show Dq l m++AE m.own=AE 2++(AE m.site++(AE m.ack++AE m.own))
   rw[e2,fk,k.1];simp only[List.append_assoc]
  ·rw[k2 h,k.1]
   show Aw l m++JH m.path++m.sums.flatMap Ft=AE 3++(AE m.site++(JH m.path++(m.sums.flatMap Ft++[])))
   rw[fk,k.1,List.append_nil];simp only[List.append_assoc]
  ·rw[k2 h,k.1]
   show Aw l m++JH m.path++m.sums.flatMap Ft=AE 4++(AE m.site++(JH m.path++(m.sums.flatMap Ft++[])))
   rw[fk,k.1,List.append_nil];simp only[List.append_assoc]
  ·have h6:Bn l m=true:=by rw[Apt,k.1];rfl
   have q:=congrArg (fun x=>x.2.2.2.2) (l5 h h6).2
   rw[show(m.kind==5)=true by rw[k.1];rfl,cond_true,cond_true]
   refine q.trans ?_
   show CI l m++AE (m.rows.length:Int)++m.rows.flatMap (Fh l)=_
   rw[A1x,k2 h,k.1,fk,k.1]
   show AE 5++AE m.site++JH m.path++m.sums.flatMap Ft++GY m.know++AE (bif m.back then 1 else 0)++AE (m.rows.length:Int)++m.rows.flatMap (Fh l)=AE 5++(AE m.site++(JH m.path++(m.sums.flatMap Ft++(GY m.know++(AE (bif m.back then 1 else 0)++(AE (m.rows.length:Int)++m.rows.flatMap (Fh l)))))))
   simp only[List.append_assoc]
theorem Bd7 (l:List Ae) (m:AS):KR l m=bif AF l m then[] else bif Ih l m then[] else EY (Abw l m):=by
 unfold KR Abw
 congr 3
theorem A1w (l:List Ae) (m:AS):Ih l m=decide (1048576 <(Abw l m).length):=by
 rw[←Bkm]
 unfold Ih Abw
 congr 3
theorem Bd3 {l:List Ae} {m:AS} (h2:Dn l m=0→Abw l m=JE l m):KR l m=Lr l m:=by
 rw[Bd7,A1w,←A6g]
 unfold AF
 cases hg:Dn l m !=0 with
 |true=>rw[cond_true,cond_true]
 |false=>rw[h2 (by simpa using hg)]
theorem Bd2 {l:List Ae} {m:AS} (h2:Dn l m=0→Abw l m=JE l m):OT l m=Kc l m:=by
 unfold OT Kc
 rw[A1w]
 unfold AF
 cases hg:Dn l m !=0 with
 |true=>rw[cond_true,cond_true]
 |false=>rw[h2 (by simpa using hg)]
theorem Ah9 (a0:List Ae) (a1:AS) (hp:∀p∈Ru a0 a1,p):Ax Bb 7 [.sl .group a0,AX .msg a1] 0 [] 1 (Te a0 a1) 1 (Tc a0 a1):=by
 obtain⟨h1,h2⟩:=Aia (l:=a0) (hp _ (List.mem_cons_self ..))
 have h:=Aj3 a0 a1 h1
 have e1:=Bd3 h2
 have e0:=Bd2 h2
 unfold OV OU at h
 rw[e0,e1] at h
 exact h
theorem Rv:IE Bb 7 (Et [.l .group,.t .msg] 1 Te Tc Ru):=A8 Ah9
def Bji:=Gi Rv Cwd
abbrev Cwe:=Bji
def Dh (b:Ak):Int×Int×Int:=Am (b.drop 1)
def IW (b:Ak):Int:=1+(Dh b).2.1+(Dh b).1+4
def GG (b:Ak):Int:=bif b.length==0 then 10 else bif !(b.getD 0 0==181) then 30 else bif(Dh b).2.2 !=0 then(Dh b).2.2 else bif decide (1048576 <(Dh b).1) then 3 else
 bif decide ((b.length:Int) <IW b) then 10 else bif !Mu (b.take (IW b).toNat) then 31 else 0
def AA (b:Ak):Int:=bif GG b==0 then IW b else 0
def Az (b:Ak):Ak:=bif GG b==0 then(b.drop (1+(Dh b).2.1).toNat).take (Dh b).1.toNat else[]
theorem A12 {x:Ak} (_hx:x.length≤1048576):EY x=181::(AE (x.length:Int)++(x++A89 (OI (181::(AE (x.length:Int)++x))))):=by
 unfold EY
 rw[decide_eq_false (by omega),cond_false]
 unfold Ae1
 simp only[List.cons_append,List.append_assoc]
theorem Au6 {x:Ak} (hx:x.length≤1048576):(EY x).length=1+IZ (x.length:Int)+x.length+4:=by
 rw[A12 hx,List.length_cons,List.length_append,List.length_append,H8,Aut]
 omega
theorem Ay0 {x:Ak} (_hx:x.length≤1048576):Mu (EY x)=true:=by
 unfold EY
 rw[decide_eq_false (by omega),cond_false]
 unfold Mu
 rw[A6w,decide_eq_true (by omega),Bool.true_and,Nat.add_sub_cancel,beq_iff_eq]
 have e:(Ae1 (181::(AE (x.length:Int)++x))).take (181::(AE (x.length:Int)++x)).length=181::(AE (x.length:Int)++x):=by
  unfold Ae1
  rw[List.take_append_of_le_length (Nat.le_refl _),List.take_of_length_le (Nat.le_refl _)]
 rw[e]
def Bmn (n:Int):Int:=Int.ofNat (Nat.succ (n.toNat - 1))
def Bjj:=Gi Uw Cwe
def Dm (a0:Ak):Bool:=(a0.length:Int)==0
def EL (a0:Ak):Bool:=(↑(UInt8.toNat (a0.getD 0 (Ao TC.u8))):Int) !=181
def EJ (a0:Ak):Bool:=(Am (List.take ((a0.length:Int).toNat - 1) (List.drop 1 a0))).2.2 !=0
def GV (a0:Ak):Int:=IntKind.i64.wrap (1+(Am (List.take ((a0.length:Int).toNat - 1) (List.drop 1 a0))).2.1)
def HP (a0:Ak):Int:=IntKind.i64.wrap ((GV a0)+(Am (List.take ((a0.length:Int).toNat - 1) (List.drop 1 a0))).1)
def EI (a0:Ak):Bool:=decide ((Am (List.take ((a0.length:Int).toNat - 1) (List.drop 1 a0))).1 >1048576)
def FH (a0:Ak):Int:=IntKind.i64.wrap ((HP a0)+4)
def GU (a0:Ak):Bool:=!Mu (List.take ((FH a0).toNat - 0) (List.drop 0 a0))
def KG (a0:Ak):Ak:=List.take ((HP a0).toNat - (GV a0).toNat) (List.drop (GV a0).toNat a0)
def DK (a0:Ak):Bool:=decide ((a0.length:Int) <(FH a0))
def Qn (a0:Ak):Int:=bif(Dm a0) then 0 else bif(EL a0) then 0 else bif(EJ a0) then 0 else bif(EI a0) then 0 else bif(DK a0) then 0 else bif(GU a0) then 0 else(FH a0)
def Qo (a0:Ak):Int:=bif(Dm a0) then 10 else bif(EL a0) then 30 else bif(EJ a0) then(Am (List.take ((a0.length:Int).toNat - 1) (List.drop 1 a0))).2.2 else bif(EI a0) then 3 else bif(DK a0) then 10 else bif(GU a0) then 31 else 0
def Qp (a0:Ak):Ak:=bif(Dm a0) then[] else bif(EL a0) then[] else bif(EJ a0) then[] else bif(EI a0) then[] else bif(DK a0) then[] else bif(GU a0) then[] else[]++(KG a0)
def Xd (a0:Ak):A:=.tup [.sq 0,iV ((Qn a0)),iV ((Qo a0))]
def Xc (a0:Ak):AJ:=[(0,some (.arr 5 1 (.ty .u8 (Qp a0))))]
def Uz (a0:Ak):List Prop:=[((!(Dm a0))=true→(0:Int)≤0∧0 <(a0.length:Int)),((!(Dm a0))=true→(!(EL a0))=true→(0:Int)≤1∧1≤(a0.length:Int)∧(a0.length:Int)≤(a0.length:Int)),((!(Dm a0))=true→(!(EL a0))=true→(!(EJ a0))=true→(!(EI a0))=true→(!(DK a0))=true→(0:Int)≤0∧0≤(FH a0)∧(FH a0)≤(a0.length:Int)),((!(Dm a0))=true→(!(EL a0))=true→(!(EJ a0))=true→(!(EI a0))=true→(!(DK a0))=true→Ai (List.take ((FH a0).toNat - 0) (List.drop 0 a0)).length),((!(Dm a0))=true→(!(EL a0))=true→(!(EJ a0))=true→(!(EI a0))=true→(!(DK a0))=true→(!(GU a0))=true→0≤(GV a0)∧(GV a0)≤(HP a0)∧(HP a0)≤(a0.length:Int)),((!(Dm a0))=true→(!(EL a0))=true→(!(EJ a0))=true→(!(EI a0))=true→(!(DK a0))=true→(!(GU a0))=true→Ai (0+(KG a0).length))]
theorem Anf (a0:Ak) (hp:∀p∈Uz a0,p):Ax Bb 20 [AX .bytes a0] 0 [] 1 (Xd a0) 1 (Xc a0):=Bh (u:=9) (AU Bjj.2 A9) (by kernel_rfl) hp
def UA (a0:Ak):A:=.tup [.sq 0,iV ((AA a0)),iV ((GG a0))]
def Uy (a0:Ak):AJ:=[(0,some (.arr 5 1 (.ty .u8 (Az a0))))]
def RZ (a0:Ak):List Prop:=[Ai a0.length]
theorem Xg (b:Ak):Am (List.take ((b.length:Int).toNat - 1) (List.drop 1 b))=Dh b:=by
 unfold Dh
 rw[List.take_of_length_le (by rw[List.length_drop];omega)]
theorem Bcg (x:UInt8):((x.toNat:Int) !=181)=!(x==181):=by
 unfold bne
 congr 1
 rw[Bool.eq_iff_iff,beq_iff_eq,beq_iff_eq]
 constructor
 ·intro h
  apply UInt8.toNat_inj.1
  have:x.toNat=181:=by omega
  rw[this];rfl
 ·intro h;rw[h];rfl
theorem A3i (b:Ak) {c9 c8 c7 c4 c0 c2:Bool} (h9:c9=(b.length==0)) (h8:c8=!(b.getD 0 0==181)) (h7:c7=((Dh b).2.2 !=0)) (h4:c4=decide (1048576 <(Dh b).1)) (h0:c0=decide ((b.length:Int) <IW b)) (h2:c2=!Mu (b.take (IW b).toNat)):
  (bif c9 then(0:Int) else bif c8 then 0 else bif c7 then 0 else bif c4 then 0 else bif c0 then 0 else bif c2 then 0 else IW b)=AA b∧
  (bif c9 then(10:Int) else bif c8 then 30 else bif c7 then(Dh b).2.2 else bif c4 then 3 else bif c0 then 10 else bif c2 then 31 else 0)=GG b∧
  (bif c9 then[] else bif c8 then[] else bif c7 then[] else bif c4 then[] else bif c0 then[] else bif c2 then[] else(b.drop (1+(Dh b).2.1).toNat).take (Dh b).1.toNat)=Az b:=by
 have e:(bif c9 then(10:Int) else bif c8 then 30 else bif c7 then(Dh b).2.2 else bif c4 then 3 else bif c0 then 10 else bif c2 then 31 else 0)=GG b:=by
  unfold GG
  rw[h9,h8,h7,h4,h0,h2]
 refine⟨?_,e,?_⟩
 ·unfold AA
  rw[←e]
  cases c9<;>cases c8<;>(try rfl)
  cases hc:c7 with
  |true=>
   have:((Dh b).2.2==0)=false:=by rw[hc] at h7;unfold bne at h7;simpa using h7.symm
   show(0:Int)=bif(Dh b).2.2==0 then IW b else 0
   rw[this];rfl
  |false=>cases c4<;>cases c0<;>cases c2<;>rfl
 ·unfold Az
  rw[←e]
  cases c9<;>cases c8<;>(try rfl)
  cases hc:c7 with
  |true=>
   have:((Dh b).2.2==0)=false:=by rw[hc] at h7;unfold bne at h7;simpa using h7.symm
   show[]=bif(Dh b).2.2==0 then _ else[]
   rw[this];rfl
  |false=>cases c4<;>cases c0<;>cases c2<;>rfl
theorem Asf (b:Ak):0≤(Dh b).2.1∧(Dh b).2.1≤8∧0≤(Dh b).1∧(Dh b).1≤4611686018427387903:=by
 have:=Dg (b.drop 1)
 unfold Dh
 omega
theorem Aiy (b:Ak) (hb:Ai b.length):(∀p∈Uz b,p)∧Qn b=AA b∧Qo b=GG b∧Qp b=Az b:=by
 unfold Ai at hb
 obtain⟨g1,g2,g3,g4⟩:=Asf b
 have k6:GV b=1+(Dh b).2.1:=by unfold GV;rw[Xg];exact i64_in (by omega)
 have k5:HP b=1+(Dh b).2.1+(Dh b).1:=by unfold HP;rw[Xg,k6];exact i64_in (by omega)
 have k3:FH b=IW b:=by unfold FH IW;rw[k5];exact i64_in (by omega)
 have k9:Dm b=(b.length==0):=Aso _
 have k8:EL b=!(b.getD 0 0==181):=Bcg _
 have k7:EJ b=((Dh b).2.2 !=0):=by unfold EJ;rw[Xg]
 have k4:EI b=decide (1048576 <(Dh b).1):=by unfold EI;rw[Xg]
 have k0:DK b=decide ((b.length:Int) <IW b):=by unfold DK;rw[k3]
 have k2:GU b=!Mu (b.take (IW b).toNat):=by unfold GU;rw[k3,Nat.sub_zero,List.drop_zero]
 have k1:KG b=(b.drop (1+(Dh b).2.1).toNat).take (Dh b).1.toNat:=by
  unfold KG
  rw[k6,k5,show(1+(Dh b).2.1+(Dh b).1).toNat - (1+(Dh b).2.1).toNat=(Dh b).1.toNat by omega]
 obtain⟨q1,q2,q3⟩:=A3i b k9 k8 k7 k4 k0 k2
 have h9:(!(Dm b))=true→1≤b.length:=fun h=>by
  rw[k9] at h
  have:b.length≠0:=by simpa using h
  omega
 have h0:(!(DK b))=true→IW b≤(b.length:Int):=fun h=>by rw[k0,Bool.not_eq_true',decide_eq_false_iff_not] at h;omega
 have ha:IW b=1+(Dh b).2.1+(Dh b).1+4:=rfl
 refine⟨Aa (fun h=>by have:=h9 h;omega) (Aa (fun h _=>by have:=h9 h;omega) (Aa (fun h _ _ _ h'=>by have:=h0 h';rw[k3];omega) (Aa (fun h _ _ _ h'=>?_) (Aa (fun h _ _ _ h' _=>by have:=h0 h';rw[k6,k5];omega) (Aa (fun h _ _ _ h' _=>?_) An))))),?_,?_,?_⟩
 ·rw[List.length_take,List.length_drop];unfold Ai;omega
 ·rw[k1,List.length_take,List.length_drop];unfold Ai;omega
 ·rw[←q1];unfold Qn;rw[k3]
 ·rw[←q2];unfold Qo;rw[Xg]
 ·rw[←q3];unfold Qp;rw[k1,List.nil_append]
theorem Aix (a0:Ak) (hp:∀p∈RZ a0,p):Ax Bb 20 [AX .bytes a0] 0 [] 1 (UA a0) 1 (Uy a0):=by
 obtain⟨h1,h2,h3,h4⟩:=Aiy a0 (hp _ (List.mem_cons_self ..))
 have h:=Anf a0 h1
 unfold Xd Xc at h
 rw[h2,h3,h4] at h
 exact h
theorem Ae3:IE Bb 20 (Et [.t .bytes] 1 UA Uy RZ):=A8 Aix
theorem HL.free1 {F:Nat→Prop} {N N':Nm} {nx nx':Nat} {R:World} {xs:List A} {vs:List Value} (hf:freeL xs=true) (h:HL F N nx R xs vs):HL F N' nx' R xs vs:=h.free hf
theorem MW {P:Program} {f:FuncId} {args:List A} {e e':TypeId} {xs bq:List A} {k nx1:Nat} {x:A} {o1:AJ} (h:Ax P f (.own 0 0::args) 1 [(0,some (.box e xs))] k x nx1 o1) (h0:Aq 0 o1=some (.box e' bq)) (hf:freeL args=true) (hx:freeL xs=true) (hx':freeL bq=true) (hr:x.free=true) {i nx:Nat} {o:AJ} (hi:Aq i o=some (.box e xs)):Ax P f (.own i 0::args) nx o 2 x nx ((i,some (.box e' bq))::o):=fun F N R vs hh ha=>by
 obtain⟨v,ws,rfl,g1,g2⟩:=ha.inv
 obtain⟨ar,us,u1,u2⟩:=hh.ob i _ hi
 let N1:Nm:=⟨fun _=>N.b i,N.q⟩
 have one:∀{z:Ob} {j:Nat} {ob:Ob},Aq j [(0,some z)]=some ob→j=0∧ob=z:=fun {z j ob} hj=>by
  rw[AI] at hj
  by_cases e:j=0
  ·rw[if_pos e] at hj;cases hj;exact⟨e,rfl⟩
  ·rw[if_neg e] at hj;cases hj
 have gp:∀{z:Ob} {j:Nat} {ob:Ob},Aq j [(i,some z)]=some ob→j=i∧ob=z:=fun {z j ob} hj=>by
  rw[AI] at hj
  by_cases e:j=i
  ·rw[if_pos e] at hj;cases hj;exact⟨e,rfl⟩
  ·rw[if_neg e] at hj;cases hj
 have h1:Bi F N1 1 [(0,some (.box e xs))] R:=⟨hh.flt,fun j ob hj=>by
   obtain⟨rfl,rfl⟩:=one hj
   exact⟨Nat.zero_lt_one,us,HL.free1 hx u1,u2⟩,fun j ob g hj hg=>by
   obtain⟨rfl,rfl⟩:=one hj
   exact hh.ff i _ g hi hg,fun j j' x y g hj cz _ _=>by
   rw[(one hj).1,(one cz).1],hh.gl⟩
 have g3:Hv F N1 1 R (.own 0 0) v:=by
  cases g1 with
  |own _=>exact .own Nat.zero_lt_one
 refine(h F N1 R (v::ws) h1 (HL.cons g3 (g2.free hf))).mono fun _ R' ⟨y,F',N',e1,e2,e3,e4,_⟩=>?_
 have hb:N'.b 0=N.b i:=e3.b 0 Nat.zero_lt_one
 obtain⟨h2,us',w1,w2⟩:=e2.ob 0 _ h0
 rw[hb] at w2
 have j6:∀{g},EN N1 [(0,some (.box e xs))] g↔g=N.b i:=fun {g}=>⟨fun⟨j,ob,hj,hg⟩=>by obtain⟨rfl,rfl⟩:=one hj;exact hg,fun hg=>⟨0,_,rfl,hg⟩⟩
 have fq:∀{z:List A} {t:TypeId} {g},EN N [(i,some (.box t z))] g↔g=N.b i:=fun {z t g}=>⟨fun⟨j,ob,hj,hg⟩=>by obtain⟨rfl,rfl⟩:=gp hj;exact hg,fun hg=>⟨i,.box t z,by rw[AI,if_pos rfl],hg⟩⟩
 have st:Step F N nx [(i,some (.box e xs))] R F' N nx [(i,some (.box e' bq))] R':=⟨Nat.le_refl _,fun _ _=>rfl,fun _ _=>rfl,e3.f,fun g hg=>by
   rcases e3.fnew g hg with k1|k1|k1
   ·exact .inl k1
   ·exact .inr (.inl (fq.2 (j6.1 k1)))
   ·exact .inr (.inr k1),fun g hg=> .inl (fq.2 (fq.1 hg)),e3.os,e3.tape,e3.output,e3.size,fun g hg hn=>e3.keep g hg fun hf=>hn (fq.2 (j6.1 hf))⟩
 have hp:Bi F' N nx [(i,some (.box e' bq))] R':=⟨e2.flt,fun j ob hj=>by
   obtain⟨rfl,rfl⟩:=gp hj
   exact⟨ar,us',HL.free1 hx' w1,w2⟩,fun j ob g hj hg=>by
   obtain⟨rfl,rfl⟩:=gp hj
   exact e2.ff 0 _ g h0 (hg.trans hb.symm),fun j j' x y g hj cz _ _=>by
   rw[(gp hj).1,(gp cz).1],e2.gl⟩
 obtain⟨q1,q2⟩:=hh.frame (o1:=[(i,some (.box e xs))]) (o':=(i,some (.box e' bq))::o) (fun j ob hj=>by obtain⟨rfl,rfl⟩:=gp hj;exact hi) st hp fun j ob hj=>by
  rw[AI] at hj
  by_cases e:j=i
  ·rw[if_pos e] at hj;cases hj;exact .inl (by rw[AI,if_pos e])
  ·rw[if_neg e] at hj;exact .inr ⟨hj,by rw[AI,if_neg e];rfl⟩
 exact⟨y,F',N,e1,q1,q2,e4.free hr,fun hk=>by omega⟩
def AO (b:Ak) (at_:Int) (bad:Bool):Int×Int×Bool:=((Am (b.drop at_.toNat)).1,at_+(Am (b.drop at_.toNat)).2.1,bad||(Am (b.drop at_.toNat)).2.2 !=0)
def Ji (m:Int) (b:Ak) (at_:Int) (bad:Bool):ByteArray×Int×Bool:=((CA (b.drop at_.toNat) m).1,at_+(CA (b.drop at_.toNat) m).2.1,bad||(CA (b.drop at_.toNat) m).2.2 !=0)
def RE (b:Ak) (at_:Int) (bad:Bool):AY×Int×Bool:=
 let k:=Ji 32 b at_ bad
 let g:=AO b k.2.1 k.2.2
 let o:=AO b g.2.1 g.2.2
 bif o.1==0 then(⟨k.1,g.1,false,(Ji 64 b o.2.1 o.2.2).1⟩,(Ji 64 b o.2.1 o.2.2).2) else bif o.1==1 then(⟨k.1,g.1,true,⟨#[]⟩⟩,o.2) else(⟨k.1,g.1,false,⟨#[]⟩⟩,o.2.1,true)
def RF (b:Ak) (at_:Int):Prop:=0≤at_∧at_≤(b.length:Int)∧Ai b.length
theorem S4 {b:Ak} {at_:Int} (h:RF b at_) (bad:Bool):RF b (AO b at_ bad).2.1:=by
 obtain⟨h1,h2,h3⟩:=h
 have:=Dg (b.drop at_.toNat)
 rw[List.length_drop] at this
 exact⟨by show 0≤at_+_;omega,by show at_+_≤_;omega,h3⟩
theorem Apf {b:Ak} {at_:Int} (h:RF b at_) (m:Int) (bad:Bool):RF b (Ji m b at_ bad).2.1:=by
 obtain⟨h1,h2,h3⟩:=h
 have:=JF (b.drop at_.toNat) m
 rw[List.length_drop] at this
 exact⟨by show 0≤at_+_;omega,by show at_+_≤_;omega,h3⟩
theorem Bic {b:Ak} {at_:Int} (h:RF b at_) (bad:Bool):RF b (RE b at_ bad).2.1:=by
 have h1:=Apf h 32 bad
 have h2:=S4 h1 (Ji 32 b at_ bad).2.2
 have h3:=S4 h2 (AO b (Ji 32 b at_ bad).2.1 (Ji 32 b at_ bad).2.2).2.2
 unfold RE
 dsimp only
 cases((AO b (AO b (Ji 32 b at_ bad).2.1 (Ji 32 b at_ bad).2.2).2.1 (AO b (Ji 32 b at_ bad).2.1 (Ji 32 b at_ bad).2.2).2.2).1==0) with
 |true=>exact Apf h3 64 _
 |false=>
  cases((AO b (AO b (Ji 32 b at_ bad).2.1 (Ji 32 b at_ bad).2.2).2.1 (AO b (Ji 32 b at_ bad).2.1 (Ji 32 b at_ bad).2.2).2.2).1==1) with
  |true=>exact h3
  |false=>exact h3
def A4s:=Gi (JV (AU Cg.2 A9) 20 49) Cg
def A5n (a0:Ak) (a1:Int):Int:=(Am (List.take ((a0.length:Int).toNat - a1.toNat) (List.drop a1.toNat a0))).1
def Av3 (a0:Ak) (a1:Int):Int:=IntKind.i64.wrap (a1+(Am (List.take ((a0.length:Int).toNat - a1.toNat) (List.drop a1.toNat a0))).2.1)
def Av4 (a0:Ak) (a1:Int) (a2:Bool):Bool:=a2||(Am (List.take ((a0.length:Int).toNat - a1.toNat) (List.drop a1.toNat a0))).2.2 !=0
def Amr (a0:Ak) (a1:Int) (_a2:Bool):A:=iV ((A5n a0 a1))
def Amp (a0:Ak) (a1:Int) (a2:Bool):AJ:=[(0,some (.box 111 [.sl .u8 a0,iV ((Av3 a0 a1)),.v (.bool (Av4 a0 a1 a2))]))]
def Amq (a0:Ak) (a1:Int) (_a2:Bool):List Prop:=[(0≤a1∧a1≤(a0.length:Int)∧(a0.length:Int)≤(a0.length:Int))]
theorem Ba3 (a0:Ak) (a1:Int) (a2:Bool):Ary (CP A4s.1 L0) 9 47 [.own 0 0] 1 [(0,some (.box 111 [.sl .u8 a0,iV a1,.v (.bool a2)]))]=some (2,Amr a0 a1 a2,1,Amp a0 a1 a2,Amq a0 a1 a2):=by kernel_rfl
theorem Bgk (a0:Ak) (a1:Int) (a2:Bool) (hp:∀p∈Amq a0 a1 a2,p):Ax Bb 47 [.own 0 0] 1 [(0,some (.box 111 [.sl .u8 a0,iV a1,.v (.bool a2)]))] 2 (Amr a0 a1 a2) 1 (Amp a0 a1 a2):=Ty (AU A4s.2 A9) (Ba3 a0 a1 a2) hp
theorem G3 (b:Ak) (k:Int):List.take ((b.length:Int).toNat - k.toNat) (List.drop k.toNat b)=b.drop k.toNat:=List.take_of_length_le (by rw[List.length_drop];omega)
theorem Xi {b:Ak} {n:Int} (h:RF b n):IntKind.i64.wrap n=n:=by
 obtain⟨h1,h2,h3⟩:=h
 unfold Ai at h3
 exact i64_in (by omega)
theorem Xh {b:Ak} {n:Int} (h:RF b n):(0:Int)≤n∧n≤(b.length:Int)∧(b.length:Int)≤(b.length:Int):=⟨h.1,h.2.1,Int.le_refl _⟩
theorem Ba2 (b:Ak) (at_:Int) (bad:Bool) (h:RF b at_):(∀p∈Amq b at_ bad,p)∧Amr b at_ bad=iV ((AO b at_ bad).1)∧Aq 0 (Amp b at_ bad)=some (.box 111 [.sl .u8 b,iV ((AO b at_ bad).2.1),.v (.bool (AO b at_ bad).2.2)]):=by
 have k1:Av3 b at_=(AO b at_ bad).2.1:=by
  unfold Av3
  rw[G3]
  exact Xi (S4 h bad)
 have k0:Av4 b at_ bad=(AO b at_ bad).2.2:=by unfold Av4;rw[G3];rfl
 refine⟨Aa (Xh h) An,?_,?_⟩
 ·unfold Amr A5n;rw[G3];rfl
 ·unfold Amp;rw[k1,k0];rfl
def A5o:HU
 | [.own i 0],nx,o=>match Aq i o with
  |some (.box t [.sl .u8 b,.v (.int .i64 at_),.v (.bool bad)])=>bif Nat.beq t 111 then some (2,.v (.int .i64 (AO b at_ bad).1),nx,(i,some (.box 111 [.sl .u8 b,.v (.int .i64 (AO b at_ bad).2.1),.v (.bool (AO b at_ bad).2.2)]))::o,[RF b at_]) else none
  |_=>none
 |_,_,_=>none
theorem A5p:IE Bb 47 A5o:=fun args nx o k x nx' o' ps h=>by
 unfold A5o at h
 split at h<;>try (cases h;done)
 split at h<;>try (cases h;done)
 rename_i t b at_ bad hl
 cases hb:Nat.beq t 111 with
 |false=>rw[hb] at h;cases h
 |true=>
  rw[hb] at h
  obtain rfl:=Nat.eq_of_beq_eq_true hb
  cases h
  refine⟨fun hp=>?_,[_],rfl⟩
  obtain⟨h1,h2,h3⟩:=Ba2 b at_ bad (hp _ (List.mem_singleton.2 rfl))
  have hc:=Bgk b at_ bad h1
  rw[h2] at hc
  exact MW hc h3 (by rfl) (by rfl) (by rfl) (by rfl) hl
def A4t:=Gi A5p A4s
def Aep (a0:Ak) (a1:Int):Ak:=List.take ((a0.length:Int).toNat - a1.toNat) (List.drop a1.toNat a0)
def Be3 (a0:Ak) (a1 a3:Int):ByteArray:=(CA (Aep a0 a1) a3).1
def A5s (a0:Ak) (a1 a3:Int):Int:=IntKind.i64.wrap (a1+(CA (Aep a0 a1) a3).2.1)
def A5t (a0:Ak) (a1:Int) (a2:Bool) (a3:Int):Bool:=a2||(CA (Aep a0 a1) a3).2.2 !=0
def Azk (a0:Ak) (a1:Int) (_a2:Bool) (a3:Int):A:=.v (.string (Be3 a0 a1 a3))
def Azj (a0:Ak) (a1:Int) (a2:Bool) (a3:Int):AJ:=[(0,some (.box 111 [.sl .u8 a0,iV ((A5s a0 a1 a3)),.v (.bool (A5t a0 a1 a2 a3))]))]
def Awd (a0:Ak) (a1:Int) (_a2:Bool) (_a3:Int):List Prop:=[(0≤a1∧a1≤(a0.length:Int)∧(a0.length:Int)≤(a0.length:Int)),(Ai (Aep a0 a1).length)]
theorem Bgm (a0:Ak) (a1:Int) (a2:Bool) (a3:Int):Ary (CP A4t.1 L0) 9 66 [.own 0 0,iV a3] 1 [(0,some (.box 111 [.sl .u8 a0,iV a1,.v (.bool a2)]))]=some (2,Azk a0 a1 a2 a3,1,Azj a0 a1 a2 a3,Awd a0 a1 a2 a3):=by kernel_rfl
theorem Bjy (a0:Ak) (a1:Int) (a2:Bool) (a3:Int) (hp:∀p∈Awd a0 a1 a2 a3,p):Ax Bb 66 [.own 0 0,iV a3] 1 [(0,some (.box 111 [.sl .u8 a0,iV a1,.v (.bool a2)]))] 2 (Azk a0 a1 a2 a3) 1 (Azj a0 a1 a2 a3):=Ty (AU A4t.2 A9) (Bgm a0 a1 a2 a3) hp
theorem Bgl (b:Ak) (at_:Int) (bad:Bool) (m:Int) (h:RF b at_):(∀p∈Awd b at_ bad m,p)∧Azk b at_ bad m=.v (.string (Ji m b at_ bad).1)∧Aq 0 (Azj b at_ bad m)=some (.box 111 [.sl .u8 b,iV ((Ji m b at_ bad).2.1),.v (.bool (Ji m b at_ bad).2.2)]):=by
 have hl:Ai (b.drop at_.toNat).length:=by have:=h.2.2;rw[List.length_drop];unfold Ai at*;omega
 have k2:Aep b at_=b.drop at_.toNat:=G3 _ _
 have k1:A5s b at_ m=(Ji m b at_ bad).2.1:=by
  unfold A5s
  rw[k2]
  exact Xi (Apf h m bad)
 have k0:A5t b at_ bad m=(Ji m b at_ bad).2.2:=by unfold A5t;rw[k2];rfl
 refine⟨Aa (Xh h) (Aa (by rw[k2];exact hl) An),?_,?_⟩
 ·unfold Azk Be3;rw[k2];rfl
 ·unfold Azj;rw[k1,k0];rfl
def Be4:HU
 | [.own i 0,.v (.int .i64 m)],nx,o=>match Aq i o with
  |some (.box t [.sl .u8 b,.v (.int .i64 at_),.v (.bool bad)])=>bif Nat.beq t 111 then some (2,.v (.string (Ji m b at_ bad).1),nx,(i,some (.box 111 [.sl .u8 b,.v (.int .i64 (Ji m b at_ bad).2.1),.v (.bool (Ji m b at_ bad).2.2)]))::o,[RF b at_]) else none
  |_=>none
 |_,_,_=>none
theorem Ba9:IE Bb 66 Be4:=fun args nx o k x nx' o' ps h=>by
 unfold Be4 at h
 split at h<;>try (cases h;done)
 rename_i i m
 split at h<;>try (cases h;done)
 rename_i t b at_ bad hl
 cases hb:Nat.beq t 111 with
 |false=>rw[hb] at h;cases h
 |true=>
  rw[hb] at h
  obtain rfl:=Nat.eq_of_beq_eq_true hb
  cases h
  refine⟨fun hp=>?_,[_],rfl⟩
  obtain⟨h1,h2,h3⟩:=Bgl b at_ bad m (hp _ (List.mem_singleton.2 rfl))
  have hc:=Bjy b at_ bad m h1
  rw[h2] at hc
  exact MW hc h3 (by rfl) (by rfl) (by rfl) (by rfl) hl
def A4u:=Gi Ba9 A4t
def Yx (a0:Ak) (a1:Int) (a2:Bool):ByteArray:=(Ji 32 a0 a1 a2).1
def L4 (a0:Ak) (a1:Int) (a2:Bool):Int:=(Ji 32 a0 a1 a2).2.1
def Yw (a0:Ak) (a1:Int) (a2:Bool):Int:=(AO a0 (L4 a0 a1 a2) (Ji 32 a0 a1 a2).2.2).1
def Vv (a0:Ak) (a1:Int) (a2:Bool):Bool:=(AO a0 (AO a0 (L4 a0 a1 a2) (Ji 32 a0 a1 a2).2.2).2.1 (AO a0 (L4 a0 a1 a2) (Ji 32 a0 a1 a2).2.2).2.2).2.2
def On (a0:Ak) (a1:Int) (a2:Bool):Int:=(AO a0 (AO a0 (L4 a0 a1 a2) (Ji 32 a0 a1 a2).2.2).2.1 (AO a0 (L4 a0 a1 a2) (Ji 32 a0 a1 a2).2.2).2.2).2.1
def Om (a0:Ak) (a1:Int) (a2:Bool):Bool:=(AO a0 (AO a0 (L4 a0 a1 a2) (Ji 32 a0 a1 a2).2.2).2.1 (AO a0 (L4 a0 a1 a2) (Ji 32 a0 a1 a2).2.2).2.2).1==1
def L3 (a0:Ak) (a1:Int) (a2:Bool):Bool:=(AO a0 (AO a0 (L4 a0 a1 a2) (Ji 32 a0 a1 a2).2.2).2.1 (AO a0 (L4 a0 a1 a2) (Ji 32 a0 a1 a2).2.2).2.2).1==0
def Arl (a0:Ak) (a1:Int) (a2:Bool):AY:=AY.mk (bif(L3 a0 a1 a2) then(Yx a0 a1 a2) else bif(Om a0 a1 a2) then(Yx a0 a1 a2) else(Yx a0 a1 a2)) (bif(L3 a0 a1 a2) then(Yw a0 a1 a2) else bif(Om a0 a1 a2) then(Yw a0 a1 a2) else(Yw a0 a1 a2)) (bif(L3 a0 a1 a2) then false else bif(Om a0 a1 a2) then true else false) (bif(L3 a0 a1 a2) then(Ji 64 a0 (On a0 a1 a2) (Vv a0 a1 a2)).1 else bif(Om a0 a1 a2) then ByteArray.mk #[] else ByteArray.mk #[])
def Be5 (a0:Ak) (a1:Int) (a2:Bool):Ak:=bif(L3 a0 a1 a2) then a0 else bif(Om a0 a1 a2) then a0 else a0
def Be6 (a0:Ak) (a1:Int) (a2:Bool):Int:=bif(L3 a0 a1 a2) then(Ji 64 a0 (On a0 a1 a2) (Vv a0 a1 a2)).2.1 else bif(Om a0 a1 a2) then(On a0 a1 a2) else(On a0 a1 a2)
def Be7 (a0:Ak) (a1:Int) (a2:Bool):Bool:=bif(L3 a0 a1 a2) then(Ji 64 a0 (On a0 a1 a2) (Vv a0 a1 a2)).2.2 else bif(Om a0 a1 a2) then(Vv a0 a1 a2) else true
def Azm (a0:Ak) (a1:Int) (a2:Bool):A:=.v (.agg ⟨[.string ((Arl a0 a1 a2).key),.int .i64 ((Arl a0 a1 a2).group),.bool ((Arl a0 a1 a2).gone),.string ((Arl a0 a1 a2).value)]⟩)
def Azl (a0:Ak) (a1:Int) (a2:Bool):AJ:=[(0,some (.box 111 [.sl .u8 (Be5 a0 a1 a2),iV ((Be6 a0 a1 a2)),.v (.bool (Be7 a0 a1 a2))]))]
def Awe (a0:Ak) (a1:Int) (a2:Bool):List Prop:=[(RF a0 a1),(RF a0 (L4 a0 a1 a2)),(RF a0 (AO a0 (L4 a0 a1 a2) (Ji 32 a0 a1 a2).2.2).2.1),((L3 a0 a1 a2)=true→RF a0 (On a0 a1 a2))]
theorem Bgo (a0:Ak) (a1:Int) (a2:Bool):Ary (CP A4u.1 L0) 9 51 [.own 0 0] 1 [(0,some (.box 111 [.sl .u8 a0,iV a1,.v (.bool a2)]))]=some (2,Azm a0 a1 a2,1,Azl a0 a1 a2,Awe a0 a1 a2):=by kernel_rfl
theorem Bjz (a0:Ak) (a1:Int) (a2:Bool) (hp:∀p∈Awe a0 a1 a2,p):Ax Bb 51 [.own 0 0] 1 [(0,some (.box 111 [.sl .u8 a0,iV a1,.v (.bool a2)]))] 2 (Azm a0 a1 a2) 1 (Azl a0 a1 a2):=Ty (AU A4u.2 A9) (Bgo a0 a1 a2) hp
theorem Bgn (b:Ak) (at_:Int) (bad:Bool) (h:RF b at_):(∀p∈Awe b at_ bad,p)∧Azm b at_ bad=.v (.agg ⟨[.string (RE b at_ bad).1.key,.int .i64 (RE b at_ bad).1.group,.bool (RE b at_ bad).1.gone,.string (RE b at_ bad).1.value]⟩)∧Aq 0 (Azl b at_ bad)=some (.box 111 [.sl .u8 b,.v (.int .i64 (RE b at_ bad).2.1),.v (.bool (RE b at_ bad).2.2)]):=by
 have h1:=Apf h 32 bad
 have h2:=S4 h1 (Ji 32 b at_ bad).2.2
 have h3:=S4 h2 (AO b (Ji 32 b at_ bad).2.1 (Ji 32 b at_ bad).2.2).2.2
 have e:RE b at_ bad=bif L3 b at_ bad then(⟨Yx b at_ bad,Yw b at_ bad,false,(Ji 64 b (On b at_ bad) (Vv b at_ bad)).1⟩,(Ji 64 b (On b at_ bad) (Vv b at_ bad)).2)
   else bif Om b at_ bad then(⟨Yx b at_ bad,Yw b at_ bad,true,⟨#[]⟩⟩,On b at_ bad,Vv b at_ bad) else(⟨Yx b at_ bad,Yw b at_ bad,false,⟨#[]⟩⟩,On b at_ bad,true):=rfl
 refine⟨Aa h (Aa h1 (Aa h2 (Aa (fun _=>h3) An))),?_,?_⟩
 ·unfold Azm Arl
  rw[e]
  cases L3 b at_ bad with
  |true=>rfl
  |false=>cases Om b at_ bad<;>rfl
 ·unfold Azl Be5 Be6 Be7
  rw[e]
  cases L3 b at_ bad with
  |true=>rfl
  |false=>cases Om b at_ bad<;>rfl
def Be8:HU
 | [.own i 0],nx,o=>match Aq i o with
  |some (.box t [.sl .u8 b,.v (.int .i64 at_),.v (.bool bad)])=>bif Nat.beq t 111 then some (2,.v (.agg ⟨[.string (RE b at_ bad).1.key,.int .i64 (RE b at_ bad).1.group,.bool (RE b at_ bad).1.gone,.string (RE b at_ bad).1.value]⟩),nx,(i,some (.box 111 [.sl .u8 b,.v (.int .i64 (RE b at_ bad).2.1),.v (.bool (RE b at_ bad).2.2)]))::o,[RF b at_]) else none
  |_=>none
 |_,_,_=>none
theorem Bba:IE Bb 51 Be8:=fun args nx o k x nx' o' ps h=>by
 unfold Be8 at h
 split at h<;>try (cases h;done)
 split at h<;>try (cases h;done)
 rename_i t b at_ bad hl
 cases hb:Nat.beq t 111 with
 |false=>rw[hb] at h;cases h
 |true=>
  rw[hb] at h
  obtain rfl:=Nat.eq_of_beq_eq_true hb
  cases h
  refine⟨fun hp=>?_,[_],rfl⟩
  obtain⟨h1,h2,h3⟩:=Bgn b at_ bad (hp _ (List.mem_singleton.2 rfl))
  have hc:=Bjz b at_ bad h1
  rw[h2] at hc
  exact MW hc h3 (by rfl) (by rfl) (by rfl) (by rfl) hl
def Biz:=Gi Bba A4u
abbrev Cda:=Biz
abbrev Ps (α:Type):=Ak→Option (α×Ak)
namespace Ps
variable {α β:Type}
def pure (x:α):Ps α:=fun b=>some (x,b)
def bind (p:Ps α) (f:α→Ps β):Ps β:=fun b=>match p b with
 |some (x,r)=>f x r
 |none=>none
def fail:Ps α:=fun _=>none
def ofG (get:Ak→α×Int×Int):Ps α:=fun b=>if(get b).2.2=0 then some ((get b).1,b.drop (get b).2.1.toNat) else none
def many (p:Ps α):Nat→Ps (List α)
 |0=>pure []
 |n+1=>bind p fun x=>bind (many p n) fun l=>pure (x::l)
end Ps
structure LQ {α:Type} (p:Ps α) (good:α→Prop) (put:α→Ak):Prop where
 back:∀x r,good x→p (put x++r)=some (x,r)
 front:∀b x r,p b=some (x,r)→good x∧b=put x++r
section
variable {α β:Type}
theorem LQ.ofRd {get:Ak→α×Int×Int} {good:α→Prop} {put:α→Ak} (h:Rd get good put):LQ (Ps.ofG get) good put where
 back:=fun x r hx=>by
  unfold Ps.ofG
  rw[h.back x r hx]
  simp
 front:=fun b x r hp=>by
  unfold Ps.ofG at hp
  split at hp
  ·rename_i h0
   cases hp
   obtain⟨h1,h2,r,h3⟩:=h.front b (get b).1 (get b).2.1 (by rw[←h0])
   refine⟨h1,?_⟩
   have h4:=congrArg (List.drop (put (get b).1).length) h3
   rw[List.drop_left] at h4
   rw[h2,Int.toNat_natCast,h4]
   exact h3
  ·cases hp
theorem LQ.many {p:Ps α} {good:α→Prop} {put:α→Ak} (h:LQ p good put):∀n,LQ (Ps.many p n) (fun l=>l.length=n∧∀x∈l,good x) (fun l=>l.flatMap put)
 | 0=>⟨fun x r hx=>by
   obtain rfl:=List.length_eq_zero_iff.1 hx.1
   rfl,fun b x r hp=>by cases hp;exact⟨⟨rfl,fun x hx=>by cases hx⟩,rfl⟩⟩
 | n+1=>⟨fun l r hl=>by
   cases l with
   |nil=>cases hl.1
   |cons x l=>
    have h1:=h.back x (l.flatMap put++r) (hl.2 x (List.mem_cons_self ..))
    have h2:=(LQ.many h n).back l r ⟨Nat.succ.inj hl.1,fun y hy=>hl.2 y (List.mem_cons_of_mem _ hy)⟩
    show Ps.bind p _ _=_
    unfold Ps.bind
    rw[List.flatMap_cons,List.append_assoc,h1]
    simp only
    rw[h2]
    rfl,fun b l r hp=>by
   have fj:Ps.bind p _ b=_:=hp
   unfold Ps.bind at fj
   split at fj<;>first|(cases fj;done)|skip
   rename_i x r1 h1
   simp only at fj
   split at fj<;>first|(cases fj;done)|skip
   rename_i l1 r2 h2
   cases fj
   obtain⟨g1,g2⟩:=h.front _ _ _ h1
   obtain⟨g3,g4⟩:=(LQ.many h n).front _ _ _ h2
   refine⟨⟨by rw[List.length_cons,g3.1],fun y hy=>?_⟩,by rw[List.flatMap_cons,List.append_assoc,g2,g4]⟩
   rcases List.mem_cons.1 hy with rfl|hy
   ·exact g1
   ·exact g3.2 y hy⟩
end
structure PW {α:Type} (st:Ak→Int→Bool→α×Int×Bool) (p:Ps α):Prop where
 inb:∀b k bad,RF b k→RF b (st b k bad).2.1
 bad:∀b k,RF b k→(st b k true).2.2=true
 none:∀b k,RF b k→p (b.drop k.toNat)=none→(st b k false).2.2=true
 some:∀b k x r,RF b k→p (b.drop k.toNat)=some (x,r)→(st b k false).1=x∧(st b k false).2.2=false∧b.drop (st b k false).2.1.toNat=r
section
variable {α β:Type}
theorem PW.bind {st:Ak→Int→Bool→α×Int×Bool} {p:Ps α} {gq:α→Ak→Int→Bool→β×Int×Bool} {p2:α→Ps β} (h:PW st p) (h2:∀x,PW (gq x) (p2 x)):
  PW (fun b k bad=>gq (st b k bad).1 b (st b k bad).2.1 (st b k bad).2.2) (Ps.bind p p2) where
 inb:=fun b k bad hk=>(h2 _).inb _ _ _ (h.inb b k bad hk)
 bad:=fun b k hk=>by
  show(gq _ b _ (st b k true).2.2).2.2=true
  rw[h.bad b k hk]
  exact(h2 _).bad _ _ (h.inb b k true hk)
 none:=fun b k hk hp=>by
  show(gq _ b _ (st b k false).2.2).2.2=true
  unfold Ps.bind at hp
  split at hp
  ·rename_i x r h1
   obtain⟨g1,g2,g3⟩:=h.some b k x r hk h1
   rw[g1,g2]
   exact(h2 x).none _ _ (h.inb b k false hk) (by rw[g3];exact hp)
  ·rename_i h1
   rw[h.none b k hk h1]
   exact(h2 _).bad _ _ (h.inb b k false hk)
 some:=fun b k y r hk hp=>by
  show(gq (st b k false).1 b (st b k false).2.1 (st b k false).2.2).1=y∧(gq (st b k false).1 b (st b k false).2.1 (st b k false).2.2).2.2=false∧b.drop (gq (st b k false).1 b (st b k false).2.1 (st b k false).2.2).2.1.toNat=r
  unfold Ps.bind at hp
  split at hp
  ·rename_i x r1 h1
   obtain⟨g1,g2,g3⟩:=h.some b k x r1 hk h1
   rw[g1,g2]
   exact(h2 x).some _ _ y r (h.inb b k false hk) (by rw[g3];exact hp)
  ·cases hp
theorem PW.pure (x:α):PW (fun _ k bad=>(x,k,bad)) (Ps.pure x) where
 inb:=fun _ _ _ h=>h
 bad:=fun _ _ _=>rfl
 none:=fun _ _ _ h=>by cases h
 some:=fun _ _ _ _ _ h=>by cases h;exact⟨rfl,rfl,rfl⟩
theorem PW.fail (x:α):PW (fun _ k _=>(x,k,true)) (Ps.fail:Ps α) where
 inb:=fun _ _ _ h=>h
 bad:=fun _ _ _=>rfl
 none:=fun _ _ _ _=>rfl
 some:=fun _ _ _ _ _ h=>by cases h
theorem PW.ofG {get:Ak→α×Int×Int} (h:∀b,0≤(get b).2.1∧(get b).2.1≤(b.length:Int)):PW (fun b k bad=>((get (b.drop k.toNat)).1,k+(get (b.drop k.toNat)).2.1,bad||(get (b.drop k.toNat)).2.2 !=0)) (Ps.ofG get) where
 inb:=fun b k bad hk=>by
  obtain⟨h1,h2,h3⟩:=hk
  have:=h (b.drop k.toNat)
  rw[List.length_drop] at this
  exact⟨by show 0≤k+_;omega,by show k+_≤_;omega,h3⟩
 bad:=fun _ _ _=>rfl
 none:=fun b k hk hp=>by
  unfold Ps.ofG at hp
  split at hp
  ·cases hp
  ·rename_i h0
   show(false||(get (b.drop k.toNat)).2.2 !=0)=true
   simpa using h0
 some:=fun b k x r hk hp=>by
  unfold Ps.ofG at hp
  split at hp
  ·rename_i h0
   cases hp
   refine⟨rfl,?_,?_⟩
   ·show(false||(get (b.drop k.toNat)).2.2 !=0)=false
    rw[h0];rfl
   ·show b.drop (k+(get (b.drop k.toNat)).2.1).toNat=_
    rw[List.drop_drop]
    congr 1
    have:=h (b.drop k.toNat)
    have:=hk.1
    omega
  ·cases hp
end
theorem Aub:PW AO (Ps.ofG Am):=PW.ofG fun b=>⟨(Dg b).1,(Dg b).2.1⟩
theorem Bfs (m:Int):PW (Ji m) (Ps.ofG fun b=>CA b m):=PW.ofG (get:=fun b=>CA b m) fun b=>⟨(JF b m).1,(JF b m).2⟩
def psW:Ps AY:=Ps.bind (Ps.ofG fun b=>CA b 32) fun k=>Ps.bind (Ps.ofG Am) fun g=>Ps.bind (Ps.ofG Am) fun o=>
 if o=0 then Ps.bind (Ps.ofG fun b=>CA b 64) fun v=>Ps.pure ⟨k,g,false,v⟩ else if o=1 then Ps.pure ⟨k,g,true,⟨#[]⟩⟩ else Ps.fail
def Bdl (k:ByteArray) (g o:Int) (b:Ak) (at_:Int) (bad:Bool):AY×Int×Bool:=
 if o=0 then(⟨k,g,false,(Ji 64 b at_ bad).1⟩,(Ji 64 b at_ bad).2) else if o=1 then(⟨k,g,true,⟨#[]⟩⟩,at_,bad) else(⟨k,g,false,⟨#[]⟩⟩,at_,true)
theorem Bh3 (k:ByteArray) (g o:Int):PW (Bdl k g o) (if o=0 then Ps.bind (Ps.ofG fun b=>CA b 64) fun v=>Ps.pure ⟨k,g,false,v⟩ else if o=1 then Ps.pure ⟨k,g,true,⟨#[]⟩⟩ else Ps.fail):=by
 unfold Bdl
 by_cases h0:o=0
 ·simp only[if_pos h0]
  exact PW.bind (Bfs 64) fun v=>PW.pure _
 ·simp only[if_neg h0]
  by_cases h1:o=1
  ·simp only[if_pos h1]
   exact PW.pure _
  ·simp only[if_neg h1]
   exact PW.fail _
theorem Bid (b:Ak) (at_:Int) (bad:Bool):RE b at_ bad=Bdl (Ji 32 b at_ bad).1 (AO b (Ji 32 b at_ bad).2.1 (Ji 32 b at_ bad).2.2).1 (AO b (AO b (Ji 32 b at_ bad).2.1 (Ji 32 b at_ bad).2.2).2.1 (AO b (Ji 32 b at_ bad).2.1 (Ji 32 b at_ bad).2.2).2.2).1 b
  (AO b (AO b (Ji 32 b at_ bad).2.1 (Ji 32 b at_ bad).2.2).2.1 (AO b (Ji 32 b at_ bad).2.1 (Ji 32 b at_ bad).2.2).2.2).2.1 (AO b (AO b (Ji 32 b at_ bad).2.1 (Ji 32 b at_ bad).2.2).2.1 (AO b (Ji 32 b at_ bad).2.1 (Ji 32 b at_ bad).2.2).2.2).2.2:=by
 unfold RE Bdl
 dsimp only
 generalize AO b (AO b (Ji 32 b at_ bad).2.1 (Ji 32 b at_ bad).2.2).2.1 (AO b (Ji 32 b at_ bad).2.1 (Ji 32 b at_ bad).2.2).2.2=o
 by_cases h0:o.1=0
 ·rw[show(o.1==0)=true by simpa using h0,if_pos h0];rfl
 ·rw[show(o.1==0)=false by simpa using h0,if_neg h0]
  by_cases h1:o.1=1
  ·rw[show(o.1==1)=true by simpa using h1,if_pos h1];rfl
  ·rw[show(o.1==1)=false by simpa using h1,if_neg h1];rfl
theorem Bld:PW RE psW:=by
 have h:=PW.bind (Bfs 32) fun k=>PW.bind Aub fun g=>PW.bind Aub fun o=>Bh3 k g o
 have e:RE=_:=funext fun b=>funext fun at_=>funext fun bad=>Bid b at_ bad
 rw[e]
 exact h
def rdW (w:AY):Prop:=(w.key.size:Int)≤32∧Wy w.group∧(w.gone=true→w.value=⟨#[]⟩)∧(w.gone=false→(w.value.size:Int)≤64)
section
variable {α β:Type}
theorem Ps.bind_is {p:Ps α} {f:α→Ps β} {b:Ak} {y:β} {r:Ak} (h:Ps.bind p f b=some (y,r)):∃x r1,p b=some (x,r1)∧f x r1=some (y,r):=by
 unfold Ps.bind at h
 split at h<;>try (cases h;done)
 rename_i x r1 h1
 exact⟨x,r1,h1,h⟩
theorem Ps.bind_at {p:Ps α} {f:α→Ps β} {b:Ak} {x:α} {r:Ak} (h:p b=some (x,r)):Ps.bind p f b=f x r:=by
 unfold Ps.bind
 rw[h]
theorem LQ.next {p:Ps α} {good:α→Prop} {put:α→Ak} (h:LQ p good put) {f:α→Ps β} {x:α} {t:Ak} (hx:good x):Ps.bind p f (put x++t)=f x t:=Ps.bind_at (h.back x t hx)
end
theorem HZ:LQ (Ps.ofG Am) Wy AE:=LQ.ofRd rdN
theorem Bk6:LQ (Ps.ofG AM) (fun s=>HJ s=true) Mr:=LQ.ofRd rdS
theorem Bc0:LQ (Ps.ofG Ah) (fun v=>EP v=true) GY:=LQ.ofRd rdV
theorem A8n {m:Int} (hm:m≤4611686018427387903):LQ (Ps.ofG fun b=>CA b m) (fun t=>(t.size:Int)≤m) Hm:=LQ.ofRd (rdT hm)
theorem Bma:Wy 0:=⟨by omega,by omega⟩
theorem Bmb:Wy 1:=⟨by omega,by omega⟩
theorem Bh2:LQ psW rdW Hd where
 back:=fun w r h=>by
  obtain⟨h1,h2,h3,h4⟩:=h
  obtain⟨k,g,o,v⟩:=w
  unfold psW Hd
  cases o with
  |true=>
   obtain rfl:v=⟨#[]⟩:=h3 rfl
   simp only[cond_true,List.append_assoc]
   rw[(A8n (by omega)).next h1,HZ.next h2,HZ.next Bmb,if_neg (by omega),if_pos rfl]
   rfl
  |false=>
   simp only[cond_false,List.append_assoc]
   rw[(A8n (by omega)).next h1,HZ.next h2,HZ.next Bma,if_pos rfl,(A8n (by omega)).next (h4 rfl)]
   rfl
 front:=fun b w r h=>by
  unfold psW at h
  obtain⟨k,r1,a1,e1⟩:=Ps.bind_is h
  clear h
  obtain⟨g,r2,a2,e2⟩:=Ps.bind_is e1
  clear e1
  obtain⟨o,r3,a3,h⟩:=Ps.bind_is e2
  clear e2
  obtain⟨b1,rfl⟩:=(A8n (by omega)).front _ _ _ a1
  obtain⟨b2,rfl⟩:=HZ.front _ _ _ a2
  obtain⟨b3,rfl⟩:=HZ.front _ _ _ a3
  split at h
  ·rename_i h0
   subst h0
   obtain⟨v,r4,a4,e4⟩:=Ps.bind_is h
   clear h
   obtain⟨b4,rfl⟩:=(A8n (by omega)).front _ _ _ a4
   cases e4
   refine⟨⟨b1,b2,(fun hf=>by cases hf),fun _=>b4⟩,?_⟩
   unfold Hd
   simp only[cond_false,List.append_assoc]
  ·split at h
   ·rename_i h1
    subst h1
    cases h
    refine⟨⟨b1,b2,fun _=>rfl,fun hf=>by cases hf⟩,?_⟩
    unfold Hd
    simp only[cond_true,List.append_assoc]
   ·cases h
def psC:Ps Ar:=Ps.bind (Ps.ofG Am) fun a=>Ps.bind (Ps.ofG Am) fun q=>Ps.bind (Ps.ofG AM) fun s=>Ps.bind (Ps.ofG Ah) fun v=>Ps.bind (Ps.ofG Am) fun k=>
 if 8 <k then Ps.fail else Ps.bind (Ps.many psW k.toNat) fun ws=>Ps.pure ⟨a,q,s,v,ws⟩
def rdC (c:Ar):Prop:=Wy c.site∧Wy c.seq∧HJ c.stamp=true∧EP c.vec=true∧c.writes.length≤8∧∀w∈c.writes,rdW w
def Aog (c:Ar):Ak:=Aam c++c.writes.flatMap Hd
theorem Bh0:LQ psC rdC Aog where
 back:=fun c r h=>by
  obtain⟨h1,h2,h3,h4,h5,h6⟩:=h
  obtain⟨a,q,s,v,ws⟩:=c
  simp only at h1 h2 h3 h4 h5 h6
  unfold psC Aog Aam
  simp only[List.append_assoc]
  rw[HZ.next h1,HZ.next h2,Bk6.next h3,Bc0.next h4,HZ.next ⟨by omega,by omega⟩,if_neg (by omega),Int.toNat_natCast,(Bh2.many ws.length).next ⟨rfl,h6⟩]
  rfl
 front:=fun b c r h=>by
  unfold psC at h
  obtain⟨a,r1,a1,e1⟩:=Ps.bind_is h
  clear h
  obtain⟨q,r2,a2,e2⟩:=Ps.bind_is e1
  clear e1
  obtain⟨s,r3,a3,e3⟩:=Ps.bind_is e2
  clear e2
  obtain⟨v,r4,a4,e4⟩:=Ps.bind_is e3
  clear e3
  obtain⟨k,r5,a5,e5⟩:=Ps.bind_is e4
  clear e4
  split at e5
  ·cases e5
  rename_i hk
  obtain⟨ws,r6,a6,e6⟩:=Ps.bind_is e5
  clear e5
  cases e6
  obtain⟨b1,rfl⟩:=HZ.front _ _ _ a1
  obtain⟨b2,rfl⟩:=HZ.front _ _ _ a2
  obtain⟨b3,rfl⟩:=Bk6.front _ _ _ a3
  obtain⟨b4,rfl⟩:=Bc0.front _ _ _ a4
  obtain⟨b5,rfl⟩:=HZ.front _ _ _ a5
  obtain⟨⟨b6,b7⟩,rfl⟩:=(Bh2.many _).front _ _ _ a6
  have hn:(ws.length:Int)=k:=by rw[b6];exact Int.toNat_of_nonneg b5.1
  refine⟨⟨b1,b2,b3,b4,by show ws.length≤8;omega,b7⟩,?_⟩
  unfold Aog Aam
  simp only[List.append_assoc,hn]
end Go.Proofs.YtifkbgkbajncjaaDoor

