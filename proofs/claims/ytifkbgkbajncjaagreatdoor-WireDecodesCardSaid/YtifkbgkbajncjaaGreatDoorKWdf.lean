/- made by a program (rowgen.py): WireDecodes: for every input the law returns true, and each argument reads behind the call as it read before. -/
import Derived.Test.YtifkbgkbajncjaaGreatDoorKWde

set_option maxRecDepth 100000
noncomputable section
namespace Go.Proofs.YtifkbgkbajncjaaGreatDoor
open Go.RowKit
def VV (_a0:Ae) (_a1:Int) (a2:Ax):Bool:=!((bif BS a2 then bif !a2.3 then a2.5.1 else a2.5.1 else a2.5.1)==0&&(bif BS a2 then bif !a2.3 then a2.5.2 else a2.5.2 else a2.5.2)==0)
def JZ (_a0:Ae) (_a1:Int) (a2:Ax):Int:=bif a2.3 then IntKind.i64.wrap ((bif BS a2 then 1 else 0)+2) else bif BS a2 then 1 else 0
def M4 (a0:Ae) (a1:Int) (a2:Ax):Ae:=a0++FO (bif !(a2.5.1==0&&a2.5.2==0) then IntKind.i64.wrap ((JZ a0 a1 a2)+4) else(JZ a0 a1 a2))++X8 a2.1
def OM (a0:Ae) (a1:Int) (a2:Ax):Ae:=bif BS a2 then bif !a2.3 then(M4 a0 a1 a2)++Nz a2.2++Ot a2.4 else(M4 a0 a1 a2)++Nz a2.2 else a0++FO (bif !(a2.5.1==0&&a2.5.2==0) then IntKind.i64.wrap ((JZ a0 a1 a2)+4) else(JZ a0 a1 a2))
def Akn (a0:Ae) (a1:Int) (a2:Ax):Ae:=bif !Ea a1 a2 then[]++a0 else bif(VV a0 a1 a2) then(OM a0 a1 a2)++Nz (BE.mk (bif BS a2 then bif !a2.3 then a2.5.1 else a2.5.1 else a2.5.1) (bif BS a2 then bif !a2.3 then a2.5.2 else a2.5.2 else a2.5.2)) else(OM a0 a1 a2)
def Bnl (_a0:Ae) (_a1:Int) (_a2:Ax):A:=.sq 0
def Ako (a0:Ae) (a1:Int) (a2:Ax):AE:=[(0,some (.arr 5 1 (.ty .u8 (Akn a0 a1 a2))))]
def Bfy (a0:Ae) (a1:Int) (a2:Ax):List Prop:=[((!Ea a1 a2)=true→Af (0+a0.length)),((!!Ea a1 a2)=true→Af (a0.length+8)),((!!Ea a1 a2)=true→BS a2=true→Af ((a0++FO (bif !(a2.5.1==0&&a2.5.2==0) then IntKind.i64.wrap ((JZ a0 a1 a2)+4) else(JZ a0 a1 a2))).length+8)),((!!Ea a1 a2)=true→BS a2=true→Af ((M4 a0 a1 a2).length+16)),((!!Ea a1 a2)=true→BS a2=true→(!a2.3)=true→Af (((M4 a0 a1 a2)++Nz a2.2).length+8+a2.4.size)),((!!Ea a1 a2)=true→(VV a0 a1 a2)=true→Af ((OM a0 a1 a2).length+16))]
theorem Bnk (a0:Ae) (a1:Int) (a2:Ax) (hp:∀p∈Bfy a0 a1 a2,p):An AP 101 [AA .bytes a0,AA .i64 a1,AA .cell a2] 0 [] 1 (Bnl a0 a1 a2) 1 (Ako a0 a1 a2):=AN (u:=9) (Au Ce.2 AF) (by kernel_rfl) hp
def Avb (_a0:Ae) (_a1:Int) (_a2:Ax):A:=.sq 0
def VW (a0:Ae) (a1:Int) (a2:Ax):AE:=[(0,some (.arr 5 1 (.ty .u8 (a0++Mx a1 a2))))]
def Ann (a0:Ae) (_a1:Int) (_a2:Ax):List Prop:=[Af (a0.length+128)]
theorem ZR (a0:Ae) (a1:Int) (c:Ax):(bif !(c.5.1==(0:Int)&&c.5.2==(0:Int)) then IntKind.i64.wrap (JZ a0 a1 c+(4:Int)) else(JZ a0 a1 c))=JQ c:=by
 unfold JZ JQ
 rw[NW]
 show(bif !(IE c.dead) then _ else _)=_
 cases Fv c<;>cases c.gone<;>cases IE c.dead<;>rfl
theorem Bfv (a0:Ae) (a1:Int) (c:Ax):VV a0 a1 c=!IE c.dead:=by
 unfold VV
 cases BS c<;>cases c.3<;>rfl
theorem Bfx (a0:Ae) (a1:Int) (c:Ax):Akn a0 a1 c=a0++Mx a1 c:=by
 unfold Akn OM M4 Mx V9
 rw[No,ZR,Bfv,NW]
 have hd:∀w g:Bool,(BE.mk (bif w then bif !g then c.5.1 else c.5.1 else c.5.1) (bif w then bif !g then c.5.2 else c.5.2 else c.5.2))=c.dead:=by intro w g;cases w<;>cases g<;>rfl
 rw[hd]
 cases Gs a1 c<;>cases Fv c<;>cases c.gone<;>cases IE c.dead<;>simp
theorem Bfw (a0:Ae) (a1:Int) (a2:Ax) (hp:∀p∈Ann a0 a1 a2,p):An AP 101 [AA .bytes a0,AA .i64 a1,AA .cell a2] 0 [] 1 (Avb a0 a1 a2) 1 (VW a0 a1 a2):=by
 have hb:Af (a0.length+128):=hp _ (List.mem_cons_self ..)
 unfold Af at hb
 have n8:=Adz (JQ a2)
 have s8:=B2i a2.stamp
 have v16:=Bw1 a2.vec
 have t8:=B2j a2.value
 have k3:(M4 a0 a1 a2).length≤a0.length+16:=by
  unfold M4
  rw[ZR,List.length_append,List.length_append]
  omega
 have sz:(!!Ea a1 a2)=true→BS a2=true→a2.value.size≤64:=fun h1 h2=>by
  rw[No,Bool.not_not] at h1
  rw[NW] at h2
  have:=((Az7.1 h1).st h2).2.2.2.1
  omega
 have h:=Bnk a0 a1 a2 (Aa (fun _=>by unfold Af;omega) (Aa (fun _=>by unfold Af;omega) (Aa (fun _ _=>by rw[ZR,List.length_append];unfold Af;omega) (Aa (fun _ _=>by unfold Af;omega) (Aa (fun h1 h2 _=>by
   have:=sz h1 h2
   rw[List.length_append];unfold Af;omega) (Aa (fun h1 _=>by
   have:(OM a0 a1 a2).length≤a0.length+112:=by
    unfold OM
    rw[ZR]
    cases hw:BS a2 with
    |false=>rw[cond_false,List.length_append];omega
    |true=>
     have:=sz h1 hw
     rw[cond_true]
     cases a2.3 with
     |true=>simp only[Bool.not_true,cond_false,List.length_append];omega
     |false=>simp only[Bool.not_false,cond_true,List.length_append];omega
   unfold Af;omega) Ag))))))
 have ho:Ako a0 a1 a2=VW a0 a1 a2:=by unfold Ako VW;rw[Bfx]
 rw[ho] at h
 exact h
theorem Ano:Gw AP 101 (Cy [.t .bytes,.t .i64,.t .cell] 1 Avb VW Ann):=Az Bfw
def B39:=DM Ano Ce
def EB (a0:Ae):Bool:=IntKind.i64.wrap ((Ad a0).1.tdiv 4)==1
def CH (a0:Ae):Bool:=(IntKind.i64.wrap ((Ad a0).1.tdiv 2)).tmod (2:Int)==1
def C7 (a0:Ae):Bool:=(BB (List.take ((a0.length:Int).toNat - (Ad a0).2.1.toNat) (List.drop (Ad a0).2.1.toNat a0))).2.2 !=0
def BP (a0:Ae):Bool:=(Ad a0).2.2 !=0||decide ((Ad a0).1 >7)
def NY (a0:Ae):Int:=bif(Ad a0).1.tmod (2:Int)==1 then bif !(CH a0) then(BB (List.take ((a0.length:Int).toNat - (Ad a0).2.1.toNat) (List.drop (Ad a0).2.1.toNat a0))).1.2 else(BB (List.take ((a0.length:Int).toNat - (Ad a0).2.1.toNat) (List.drop (Ad a0).2.1.toNat a0))).1.2 else 0
def NX (a0:Ae):Int:=bif(Ad a0).1.tmod (2:Int)==1 then bif !(CH a0) then(BB (List.take ((a0.length:Int).toNat - (Ad a0).2.1.toNat) (List.drop (Ad a0).2.1.toNat a0))).1.1 else(BB (List.take ((a0.length:Int).toNat - (Ad a0).2.1.toNat) (List.drop (Ad a0).2.1.toNat a0))).1.1 else 0
def Lp (a0:Ae):Int:=IntKind.i64.wrap ((Ad a0).2.1+(BB (List.take ((a0.length:Int).toNat - (Ad a0).2.1.toNat) (List.drop (Ad a0).2.1.toNat a0))).2.1)
def Np (a0:Ae):Int:=bif(Ad a0).1.tmod (2:Int)==1 then bif !(CH a0) then 0 else 0 else 0
def Pw (a0:Ae):Bool:=bif(Ad a0).1.tmod (2:Int)==1 then bif !(CH a0) then(CH a0) else(CH a0) else false
def Ek (a0:Ae):Bool:=(AB (List.take ((a0.length:Int).toNat - (Lp a0).toNat) (List.drop (Lp a0).toNat a0))).2.2 !=0
def JI (a0:Ae):Int:=IntKind.i64.wrap ((Lp a0)+(AB (List.take ((a0.length:Int).toNat - (Lp a0).toNat) (List.drop (Lp a0).toNat a0))).2.1)
def Pv (a0:Ae):Int:=bif(C7 a0) then 0 else bif(Ek a0) then 0 else 0
def Pu (a0:Ae):ByteArray:=bif(Ad a0).1.tmod (2:Int)==1 then bif !(CH a0) then(Bm (List.take ((a0.length:Int).toNat - (JI a0).toNat) (List.drop (JI a0).toNat a0)) 64).1 else ByteArray.mk #[] else ByteArray.mk #[]
def Dy (a0:Ae):Bool:=(Ad a0).1.tmod (2:Int)==1&&((C7 a0)||((Ek a0)||!(CH a0)&&(Bm (List.take ((a0.length:Int).toNat - (JI a0).toNat) (List.drop (JI a0).toNat a0)) 64).2.2 !=0))
def JH (a0:Ae):Int:=bif(Ad a0).1.tmod (2:Int)==1 then bif !(CH a0) then IntKind.i64.wrap ((JI a0)+(Bm (List.take ((a0.length:Int).toNat - (JI a0).toNat) (List.drop (JI a0).toNat a0)) 64).2.1) else(JI a0) else(Ad a0).2.1
def Ej (a0:Ae):Bool:=(EB a0)&&(AB (List.take ((a0.length:Int).toNat - (JH a0).toNat) (List.drop (JH a0).toNat a0))).2.2 !=0
def N4 (a0:Ae):Int:=bif(Ad a0).1.tmod (2:Int)==1 then bif !(CH a0) then(AB (List.take ((a0.length:Int).toNat - (Lp a0).toNat) (List.drop (Lp a0).toNat a0))).1.2 else(AB (List.take ((a0.length:Int).toNat - (Lp a0).toNat) (List.drop (Lp a0).toNat a0))).1.2 else 0
def NZ (a0:Ae):Int:=bif(Ad a0).1.tmod (2:Int)==1 then bif !(CH a0) then(AB (List.take ((a0.length:Int).toNat - (Lp a0).toNat) (List.drop (Lp a0).toNat a0))).1.1 else(AB (List.take ((a0.length:Int).toNat - (Lp a0).toNat) (List.drop (Lp a0).toNat a0))).1.1 else 0
def Hr (a0:Ae):Ax:=Ax.mk (A1.mk (bif(BP a0) then 0 else bif(Dy a0) then bif(C7 a0) then 0 else bif(Ek a0) then 0 else(BB (List.take ((a0.length:Int).toNat - (Ad a0).2.1.toNat) (List.drop (Ad a0).2.1.toNat a0))).1.1 else bif(Ej a0) then(NX a0) else bif(EB a0) then(NX a0) else(NX a0)) (bif(BP a0) then 0 else bif(Dy a0) then bif(C7 a0) then 0 else bif(Ek a0) then 0 else(BB (List.take ((a0.length:Int).toNat - (Ad a0).2.1.toNat) (List.drop (Ad a0).2.1.toNat a0))).1.2 else bif(Ej a0) then(NY a0) else bif(EB a0) then(NY a0) else(NY a0))) (BE.mk (bif(BP a0) then 0 else bif(Dy a0) then bif(C7 a0) then 0 else bif(Ek a0) then 0 else(AB (List.take ((a0.length:Int).toNat - (Lp a0).toNat) (List.drop (Lp a0).toNat a0))).1.1 else bif(Ej a0) then(NZ a0) else bif(EB a0) then(NZ a0) else(NZ a0)) (bif(BP a0) then 0 else bif(Dy a0) then bif(C7 a0) then 0 else bif(Ek a0) then 0 else(AB (List.take ((a0.length:Int).toNat - (Lp a0).toNat) (List.drop (Lp a0).toNat a0))).1.2 else bif(Ej a0) then(N4 a0) else bif(EB a0) then(N4 a0) else(N4 a0))) (bif(BP a0) then false else bif(Dy a0) then bif(C7 a0) then false else bif(Ek a0) then false else(CH a0) else bif(Ej a0) then(Pw a0) else bif(EB a0) then(Pw a0) else(Pw a0)) (bif(BP a0) then ByteArray.mk #[] else bif(Dy a0) then bif(C7 a0) then ByteArray.mk #[] else bif(Ek a0) then ByteArray.mk #[] else ByteArray.mk #[] else bif(Ej a0) then(Pu a0) else bif(EB a0) then(Pu a0) else(Pu a0)) (BE.mk (bif(BP a0) then 0 else bif(Dy a0) then(Pv a0) else bif(Ej a0) then(Np a0) else bif(EB a0) then(AB (List.take ((a0.length:Int).toNat - (JH a0).toNat) (List.drop (JH a0).toNat a0))).1.1 else(Np a0)) (bif(BP a0) then 0 else bif(Dy a0) then(Pv a0) else bif(Ej a0) then(Np a0) else bif(EB a0) then(AB (List.take ((a0.length:Int).toNat - (JH a0).toNat) (List.drop (JH a0).toNat a0))).1.2 else(Np a0)))
def ON (a0:Ae):Int:=bif(BP a0) then 0 else bif(Dy a0) then(Pv a0) else bif(Ej a0) then 0 else bif(EB a0) then IntKind.i64.wrap ((JH a0)+(AB (List.take ((a0.length:Int).toNat - (JH a0).toNat) (List.drop (JH a0).toNat a0))).2.1) else(JH a0)
def OO (a0:Ae):Bool:=bif(BP a0) then false else bif(Dy a0) then bif(C7 a0) then false else bif(Ek a0) then false else false else bif(Ej a0) then false else true
def Aeb (a0:Ae):A:=.v (.tuple ⟨[.agg ⟨[.int .i64 ((Hr a0).stamp.n),.int .i64 ((Hr a0).stamp.site),.int .i64 ((Hr a0).vec.a),.int .i64 ((Hr a0).vec.b),.bool ((Hr a0).gone),.string ((Hr a0).value),.int .i64 ((Hr a0).dead.a),.int .i64 ((Hr a0).dead.b)]⟩,.int .i64 (ON a0),.bool (OO a0)]⟩)
def Anq (a0:Ae):List Prop:=[((!(BP a0))=true→((Ad a0).1.tmod (2:Int)==1)=true→0≤(Ad a0).2.1∧(Ad a0).2.1≤(a0.length:Int)∧(a0.length:Int)≤(a0.length:Int)),((!(BP a0))=true→((Ad a0).1.tmod (2:Int)==1)=true→(!(C7 a0))=true→0≤(Lp a0)∧(Lp a0)≤(a0.length:Int)∧(a0.length:Int)≤(a0.length:Int)),((!(BP a0))=true→((Ad a0).1.tmod (2:Int)==1)=true→(!(C7 a0))=true→(!(Ek a0))=true→(!(CH a0))=true→0≤(JI a0)∧(JI a0)≤(a0.length:Int)∧(a0.length:Int)≤(a0.length:Int)),((!(BP a0))=true→((Ad a0).1.tmod (2:Int)==1)=true→(!(C7 a0))=true→(!(Ek a0))=true→(!(CH a0))=true→Af (List.take ((a0.length:Int).toNat - (JI a0).toNat) (List.drop (JI a0).toNat a0)).length),((!(BP a0))=true→(!(Dy a0))=true→(EB a0)=true→0≤(JH a0)∧(JH a0)≤(a0.length:Int)∧(a0.length:Int)≤(a0.length:Int))]
theorem Bf1 (a0:Ae) (hp:∀p∈Anq a0,p):An AP 125 [AA .bytes a0] 0 [] 1 (Aeb a0) 0 []:=AN (u:=9) (Au B39.2 AF) (by kernel_rfl) hp
def LE (b:Ae):Bool:=(Ad b).2.2==0&&decide ((Ad b).1≤7)&&(ZZ b).1
def Hw (b:Ae):Ax:=bif LE b then(ZZ b).2.1 else Hr b
def Nw (b:Ae):Int:=bif LE b then(ZZ b).2.2 else 0
def S1 (a0:Ae):A:=.v (.tuple ⟨[.agg ⟨[.int .i64 (Hw a0).stamp.n,.int .i64 (Hw a0).stamp.site,.int .i64 (Hw a0).vec.a,.int .i64 (Hw a0).vec.b,.bool (Hw a0).gone,.string (Hw a0).value,.int .i64 (Hw a0).dead.a,.int .i64 (Hw a0).dead.b]⟩,.int .i64 (Nw a0),.bool (LE a0)]⟩)
def Ag8 (a0:Ae):List Prop:=[Af a0.length]
theorem B44 {n:Int} (h0:0≤n) (_h7:n≤7):(n.tmod 2==1)=Dm n 0∧((IntKind.i64.wrap (n.tdiv 2)).tmod 2==1)=Dm n 1∧(IntKind.i64.wrap (n.tdiv 4)==1)=Dm n 2:=by
 obtain⟨m,rfl⟩:∃m:Nat,n=(m:Int):=⟨n.toNat,(Int.toNat_of_nonneg h0).symm⟩
 have:m≤7:=by omega
 match m,this with
 |0,_=>exact⟨rfl,rfl,rfl⟩
 |1,_=>exact⟨rfl,rfl,rfl⟩
 |2,_=>exact⟨rfl,rfl,rfl⟩
 |3,_=>exact⟨rfl,rfl,rfl⟩
 |4,_=>exact⟨rfl,rfl,rfl⟩
 |5,_=>exact⟨rfl,rfl,rfl⟩
 |6,_=>exact⟨rfl,rfl,rfl⟩
 |7,_=>exact⟨rfl,rfl,rfl⟩
 |m+8,h=>omega
theorem Baq (b:Ae) (hb:Af b.length):(∀p∈Anq b,p)∧(Hr b,ON b,OO b)=(Hw b,Nw b,LE b):=by
 unfold Af at hb
 obtain⟨a1,a2,_,a3,a4⟩:=AZ b
 cases h14:BP b with
 | true=>
  have no:(!BP b)=true→False:=fun h=>by rw[h14] at h;cases h
  have jq:LE b=false:=by
   unfold BP at h14
   unfold LE
   rw[Bool.and_eq_false_iff]
   left
   rw[Bool.or_eq_true,bne_iff_ne,decide_eq_true_eq] at h14
   rw[Bool.and_eq_false_iff,decide_eq_false_iff_not]
   rcases h14 with h|h
   ·left;simpa using h
   ·right;omega
  refine⟨Aa (fun h=>(no h).elim) (Aa (fun h=>(no h).elim) (Aa (fun h=>(no h).elim) (Aa (fun h=>(no h).elim) (Aa (fun h=>(no h).elim) Ag)))),?_⟩
  unfold Hw Nw
  rw[jq]
  unfold ON OO
  rw[h14]
  rfl
 | false=>
  have lu:=h14
  unfold BP at lu
  rw[Bool.or_eq_false_iff,decide_eq_false_iff_not] at lu
  have hE:(Ad b).2.2=0:=by
   have:=lu.1
   simpa using this
  have h7:(Ad b).1≤7:=by omega
  have e0:((Ad b).2.2==(0:Int))=true:=by rw[hE];rfl
  obtain⟨B0,B1,B2⟩:=B44 a3 h7
  have tb:CH b=Dm (Ad b).1 1:=B1
  have ve:EB b=Dm (Ad b).1 2:=B2
  obtain⟨s1,s2⟩:=Po (b.drop (Ad b).2.1.toNat)
  rw[List.length_drop] at s2
  have e9:Lp b=(Ad b).2.1+(BB (b.drop (Ad b).2.1.toNat)).2.1:=by
   unfold Lp
   rw[BG,i64_in (by omega)]
  obtain⟨v1,v2⟩:=GW (b.drop ((Ad b).2.1+(BB (b.drop (Ad b).2.1.toNat)).2.1).toNat)
  rw[List.length_drop] at v2
  have e5:JI b=(Ad b).2.1+(BB (b.drop (Ad b).2.1.toNat)).2.1+(AB (b.drop ((Ad b).2.1+(BB (b.drop (Ad b).2.1.toNat)).2.1).toNat)).2.1:=by
   unfold JI
   rw[e9,BG,i64_in (by omega)]
  obtain⟨t1,t2⟩:=Gd (b.drop ((Ad b).2.1+(BB (b.drop (Ad b).2.1.toNat)).2.1+(AB (b.drop ((Ad b).2.1+(BB (b.drop (Ad b).2.1.toNat)).2.1).toNat)).2.1).toNat) 64
  rw[List.length_drop] at t2
  have dj:JH b=(ML b).2.2∧0≤(ML b).2.2∧(ML b).2.2≤(b.length:Int):=by
   unfold JH ML
   rw[e5,tb,B0,e0,BG,i64_in (by omega)]
   cases Dm (Ad b).1 0<;>cases Dm (Ad b).1 1<;>refine⟨rfl,?_,?_⟩<;>(first|exact a1|exact a2|(simp only[cond_true,cond_false,Bool.not_true,Bool.not_false,Bool.and_true];omega))
  obtain⟨e1,e1a,e1b⟩:=dj
  obtain⟨d1,d2⟩:=GW (b.drop (ML b).2.2.toNat)
  rw[List.length_drop] at d2
  have hA:(ML b).1=!Dy b:=by
   unfold Dy C7 Ek ML bne
   rw[e5,e9,tb,B0,e0,BG,BG,BG]
   cases Dm (Ad b).1 0<;>cases Dm (Ad b).1 1<;>simp only[cond_true,cond_false,Bool.not_true,Bool.not_false,Bool.and_true,Bool.true_and,Bool.false_and,Bool.and_false,Bool.not_or,Bool.not_not,Bool.or_false,Bool.and_assoc]
  have cq:(ML b).2.1=⟨⟨NX b,NY b⟩,⟨NZ b,N4 b⟩,Pw b,Pu b,⟨0,0⟩⟩:=by
   unfold NX NY NZ N4 Pw Pu ML
   rw[e5,e9,tb,B0,e0,BG,BG,BG]
   cases Dm (Ad b).1 0<;>cases Dm (Ad b).1 1<;>rfl
  have k8:Np b=0:=by
   unfold Np
   cases((Ad b).1.tmod 2==1)<;>cases CH b<;>rfl
  have k4:Pv b=0:=by
   unfold Pv
   cases C7 b<;>cases Ek b<;>rfl
  have k0:Ej b=(Dm (Ad b).1 2&&!((AB (b.drop (ML b).2.2.toNat)).2.2==0)):=by
   unfold Ej bne
   rw[ve,e1,BG]
  refine⟨Aa (fun _ _=>by omega) (Aa (fun _ _ _=>by rw[e9];omega) (Aa (fun _ _ _ _ _=>by rw[e5];omega) (Aa (fun _ _ _ _ _=>by rw[e5,BG,List.length_drop];unfold Af;omega) (Aa (fun _ _ _=>by rw[e1];omega) Ag)))),?_⟩
  have jq:LE b=(!Dy b&&!Ej b):=by
   unfold LE ZZ
   rw[e0,decide_eq_true h7,k0,hA]
   cases h2:Dy b<;>cases Dm (Ad b).1 2<;>simp[hA,h2]
  unfold Hw Nw
  rw[jq]
  cases h2:Dy b with
  |true=>
   unfold ON OO
   rw[h14,h2,k4]
   simp only[cond_false,cond_true,Bool.not_true,Bool.false_and,Prod.mk.injEq,true_and]
   cases C7 b<;>cases Ek b<;>rfl
  | false=>
   cases h0:Ej b with
   |true=>
    unfold ON OO
    rw[h14,h2,h0]
    rfl
   |false=>
    unfold Hr ON OO ZZ
    rw[h14,h2,h0,ve,hA,h2]
    simp only[cond_false,cond_true,Bool.not_false,Bool.and_true,Bool.true_and]
    cases Dm (Ad b).1 2 with
    |true=>simp only[cond_true];rw[cq,e1,BG,i64_in (by omega)]
    |false=>simp only[cond_false];rw[cq,e1,k8]
theorem Bap (a0:Ae) (hp:∀p∈Ag8 a0,p):An AP 125 [AA .bytes a0] 0 [] 1 (S1 a0) 0 []:=by
 obtain⟨h1,h2⟩:=Baq a0 (hp _ (List.mem_cons_self ..))
 have h:=Bf1 a0 h1
 have hr:Aeb a0=S1 a0:=by
  injection h2 with h3 h4
  injection h4 with h4 h5
  unfold Aeb S1
  rw[h3,h4,h5]
 rw[hr] at h
 exact h
theorem A4t:Gw AP 125 (Cy [.t .bytes] 0 S1 (fun _=>[]) Ag8):=Az Bap
def B0j:=DM A4t B39
def FR (a0:Ae) (a1:Int):Bool:=bif !(!LE a0||!Ea a1 (Hw a0)) then !(ByteArray.mk ([]++Mx a1 (Hw a0)).toArray).toList==(ByteArray.mk (List.take ((Nw a0).toNat - 0) (List.drop 0 a0)).toArray).toList else true
def Hc (a0:Ae) (a1:Int):Ax:=Ax.mk (A1.mk (bif(FR a0 a1) then 0 else(Hw a0).1.1) (bif(FR a0 a1) then 0 else(Hw a0).1.2)) (BE.mk (bif(FR a0 a1) then 0 else(Hw a0).2.1) (bif(FR a0 a1) then 0 else(Hw a0).2.2)) (bif(FR a0 a1) then false else(Hw a0).3) (bif(FR a0 a1) then ByteArray.mk #[] else(Hw a0).4) (BE.mk (bif(FR a0 a1) then 0 else(Hw a0).5.1) (bif(FR a0 a1) then 0 else(Hw a0).5.2))
def Qu (a0:Ae) (a1:Int):Int:=bif(FR a0 a1) then 0 else Nw a0
def Qv (a0:Ae) (a1:Int):Int:=bif(FR a0 a1) then 80 else 0
def ZQ (a0:Ae) (a1:Int):A:=.v (.tuple ⟨[.agg ⟨[.int .i64 ((Hc a0 a1).stamp.n),.int .i64 ((Hc a0 a1).stamp.site),.int .i64 ((Hc a0 a1).vec.a),.int .i64 ((Hc a0 a1).vec.b),.bool ((Hc a0 a1).gone),.string ((Hc a0 a1).value),.int .i64 ((Hc a0 a1).dead.a),.int .i64 ((Hc a0 a1).dead.b)]⟩,.int .i64 (Qu a0 a1),.int .i64 (Qv a0 a1)]⟩)
def Ava (a0:Ae) (a1:Int):List Prop:=[(Af a0.length),((!LE a0||!Ea a1 (Hw a0))=false→(0:Int)≤0∧0≤Nw a0∧Nw a0≤(a0.length:Int))]
theorem Bft (a0:Ae) (a1:Int):RL (Co B0j.1 L0) 9 122 [AA .bytes a0,AA .i64 a1] 0 []=some (1,ZQ a0 a1,0,[],[(Af a0.length),((!LE a0||!Ea a1 (Hw a0))=false→(0:Int)≤0∧0≤Nw a0∧Nw a0≤(a0.length:Int)),((!(!LE a0||!Ea a1 (Hw a0)))=true→Af 128),(true=true),(true=true),(true=true)]):=by kernel_rfl
theorem Bnj (a0:Ae) (a1:Int) (hp:∀p∈Ava a0 a1,p):An AP 122 [AA .bytes a0,AA .i64 a1] 0 [] 1 (ZQ a0 a1) 0 []:=
  AN (Au B0j.2 AF) (Bft a0 a1) (nT hp fun hp=>nT hp fun _=>Aa (by intros;first|rfl|decide+kernel|exact⟨by decide,by decide⟩) (Aa (by first|rfl|decide+kernel) (Aa (by first|rfl|decide+kernel) (Aa (by first|rfl|decide+kernel) Ag))))
def VU (a0:Ae) (a1:Int):A:=.v (.tuple ⟨[.agg ⟨[.int .i64 (IF a0 a1).1.stamp.n,.int .i64 (IF a0 a1).1.stamp.site,.int .i64 (IF a0 a1).1.vec.a,.int .i64 (IF a0 a1).1.vec.b,.bool (IF a0 a1).1.gone,.string (IF a0 a1).1.value,.int .i64 (IF a0 a1).1.dead.a,.int .i64 (IF a0 a1).1.dead.b]⟩,.int .i64 (IF a0 a1).2.1,.int .i64 (IF a0 a1).2.2]⟩)
def Anl (a0:Ae) (_a1:Int):List Prop:=[Af a0.length]
theorem Bhd (b:Ae):0≤(ML b).2.2∧(ML b).2.2≤(b.length:Int):=by
 obtain⟨a1,a2,_,a3,a4⟩:=AZ b
 obtain⟨s1,s2⟩:=Po (b.drop (Ad b).2.1.toNat)
 rw[List.length_drop] at s2
 obtain⟨v1,v2⟩:=GW (b.drop ((Ad b).2.1+(BB (b.drop (Ad b).2.1.toNat)).2.1).toNat)
 rw[List.length_drop] at v2
 obtain⟨t1,t2⟩:=Gd (b.drop ((Ad b).2.1+(BB (b.drop (Ad b).2.1.toNat)).2.1+(AB (b.drop ((Ad b).2.1+(BB (b.drop (Ad b).2.1.toNat)).2.1).toNat)).2.1).toNat) 64
 rw[List.length_drop] at t2
 unfold ML
 cases((Ad b).2.2==0&&Dm (Ad b).1 0)<;>cases Dm (Ad b).1 1<;>refine⟨?_,?_⟩<;>(first|exact a1|exact a2|(simp only[cond_true,cond_false,Bool.not_true,Bool.not_false];omega))
theorem Bhe (b:Ae):0≤(ZZ b).2.2∧(ZZ b).2.2≤(b.length:Int):=by
 obtain⟨a1,a2⟩:=Bhd b
 obtain⟨d1,d2⟩:=GW (b.drop (ML b).2.2.toNat)
 rw[List.length_drop] at d2
 unfold ZZ
 cases((ML b).1&&Dm (Ad b).1 2)<;>refine⟨?_,?_⟩<;>(first|exact a1|exact a2|(simp only[cond_true];omega))
theorem B6n {b:Ae} (h:(ZZ b).1=true):(Ad b).2.2=0:=by
 have hA:(ML b).1=true:=by
  unfold ZZ at h
  rw[Bool.cond_eq_ite] at h
  split at h
  ·simp only[Bool.and_eq_true] at h;exact h.1
  ·exact h
 unfold ML at hA
 rw[Bool.cond_eq_ite] at hA
 split at hA
 ·rename_i h1
  simp only[Bool.and_eq_true,beq_iff_eq] at h1
  exact h1.1
 ·simpa using hA
theorem Bv3 {b:Ae} {p:Int} {c:Ax} {k:Int} (h:IF b p=(c,k,0)):ZZ b=(true,c,k)∧(Ad b).1≤7:=by
 unfold IF at h
 rw[Bool.cond_eq_ite] at h
 split at h
 ·injection h with e1 e2;injection e2 with e2 e3;cases e3
 ·rename_i hc
  have hc:=Bool.eq_false_iff.2 hc
  simp only[Bool.or_eq_false_iff,Bool.not_eq_false'] at hc
  obtain⟨⟨hB,hR⟩,hG⟩:=hc
  injection h with e1 e2
  injection e2 with e2 e3
  refine⟨by rw[←hB,←e1,←e2],?_⟩
  unfold Y1 at hR
  simp only[Bool.and_eq_true,decide_eq_true_eq] at hR
  exact hR.1.1.1
theorem Bnr {b:Ae} {c:Ax} {k:Int} (h:ZZ b=(true,c,k)) (h7:(Ad b).1≤7):LE b=true∧Hw b=c∧Nw b=k:=by
 have hr:LE b=true:=by
  unfold LE
  rw[B6n (by rw[h]),decide_eq_true h7,h]
  rfl
 unfold Hw Nw
 rw[hr,h]
 exact⟨rfl,rfl,rfl⟩
theorem Bfs (b:Ae) (p:Int) (hb:Af b.length):(∀q∈Ava b p,q)∧(Hc b p,Qu b p,Qv b p)=IF b p:=by
 obtain⟨s1,s2⟩:=Bhe b
 have hk:(LE b=true→Nw b=(ZZ b).2.2):=fun h=>by unfold Nw;rw[h];rfl
 refine⟨Aa hb (Aa (fun h=>?_) Ag),?_⟩
 ·rw[Bool.or_eq_false_iff,Bool.not_eq_false'] at h
  rw[hk h.1]
  omega
 ·have e0:List.take ((Nw b).toNat - (0:Nat)) (List.drop (0:Nat) b)=b.take (Nw b).toNat:=by simp
  cases ar:FR b p with
  | true=>
   have hx:(Hc b p,Qu b p,Qv b p)=(Ok,0,80):=by
    unfold Hc Qu Qv
    rw[ar]
    rfl
   refine Az6 (fun h=>?_) fun _=>⟨hx,fun c r hg ui=>?_⟩
   ·rw[hx] at h;cases h
   ·have px:=Ajh hg r
    rw[←ui] at px
    obtain⟨q1,q2⟩:=Bv3 px
    obtain⟨r1,r2,r3⟩:=Bnr q1 q2
    unfold FR at ar
    rw[e0,r1,r2,r3,No,hg,Int.toNat_natCast] at ar
    have ht:b.take (Mx p c).length=Mx p c:=by rw[ui];exact List.take_left
    rw[ht,List.nil_append] at ar
    simp at ar
  | false=>
   have fc:=ar
   unfold FR at fc
   cases jq:LE b with
   |false=>rw[jq] at fc;cases fc
   | true=>
    cases hg:Gs p (Hw b) with
    |false=>rw[jq,No,hg] at fc;cases fc
    | true=>
     rw[jq,No,hg,e0] at fc
     simp only[Bool.not_true,Bool.or_false,Bool.not_false,cond_true,Bool.not_eq_false'] at fc
     have heq:=Ard.1 fc
     have ca:Mx p (Hw b)=b.take (Nw b).toNat:=by
      have:=congrArg (fun x:ByteArray=>x.data.toList) heq
      simpa using this
     have hx:(Hc b p,Qu b p,Qv b p)=(Hw b,Nw b,0):=by
      unfold Hc Qu Qv
      rw[ar]
      rfl
     rw[hx]
     refine Az6 (fun _=>⟨hg,?_,b.drop (Nw b).toNat,?_⟩) fun h=>absurd rfl h
     ·show Nw b=((Mx p (Hw b)).length:Int)
      rw[ca,List.length_take]
      have:=hk jq
      omega
     ·show b=Mx p (Hw b)++_
      rw[ca,List.take_append_drop]
theorem Bfr (a0:Ae) (a1:Int) (hp:∀p∈Anl a0 a1,p):An AP 122 [AA .bytes a0,AA .i64 a1] 0 [] 1 (VU a0 a1) 0 []:=by
 obtain⟨h1,h2⟩:=Bfs a0 a1 (hp _ (List.mem_cons_self ..))
 have h:=Bnj a0 a1 h1
 have hr:ZQ a0 a1=VU a0 a1:=by unfold ZQ VU;rw[←h2]
 rw[hr] at h
 exact h
theorem Anm:Gw AP 122 (Cy [.t .bytes,.t .i64] 0 VU (fun _ _=>[]) Anl):=Az Bfr
def B63:=DM Anm B0j
abbrev Cg:=B63
def ltS (a b:ByteArray):Bool:=Op.bytesLess a.toList b.toList
theorem U5:∀x:Ae,Op.bytesLess x x=false
 | []=>rfl
 |a::x=>by
  unfold Op.bytesLess
  rw[U5 x]
  simp
theorem Al8:∀{x y z:Ae},Op.bytesLess x y=true→Op.bytesLess y z=true→Op.bytesLess x z=true
 |x,[],_,h,_=>by cases x<;>cases h
 |_,_::_,[],_,h=>by cases h
 | [],_::_,_::_,_,_=>rfl
 |a::x,b::y,c::z,h,g=>by
  unfold Op.bytesLess at*
  simp only[Bool.or_eq_true,decide_eq_true_eq,Bool.and_eq_true,beq_iff_eq] at*
  rcases h with h|⟨rfl,h⟩<;>rcases g with g|⟨rfl,g⟩
  ·exact .inl (UInt8.lt_trans h g)
  ·exact .inl h
  ·exact .inl g
  ·exact .inr ⟨rfl,Al8 h g⟩
theorem Al7:∀{x y:Ae},Op.bytesLess x y=false→x≠y→Op.bytesLess y x=true
 | [],[],_,h=>absurd rfl h
 | [],_::_,h,_=>by cases h
 |_::_,[],_,_=>rfl
 | a::x,b::y,h,g=>by
  unfold Op.bytesLess at*
  simp only[Bool.or_eq_true,Bool.or_eq_false_iff,decide_eq_true_eq,decide_eq_false_iff_not,Bool.and_eq_true,beq_iff_eq] at*
  obtain⟨h1,h2⟩:=h
  by_cases e:a=b
  ·subst e
   refine .inr ⟨rfl,Al7 (by simpa using h2) fun e=>g (by rw[e])⟩
  ·left
   have bt:¬a.toNat <b.toNat:=h1
   have h3:a.toNat≠b.toNat:=fun h=>e (UInt8.toNat_inj.1 h)
   show b.toNat <a.toNat
   omega
theorem A0m {a b c:ByteArray} (h:ltS a b=true) (g:ltS b c=true):ltS a c=true:=Al8 h g
theorem Br4 {a b:ByteArray} (h:ltS a b=true):a≠b:=by
 rintro rfl
 unfold ltS at h
 rw[U5] at h
 cases h
theorem A0l {a b:ByteArray} (h:ltS a b=false) (g:a≠b):ltS b a=true:=by
 refine Al7 h fun e=>g ?_
 have:(a.toList==b.toList)=true:=beq_iff_eq.2 e
 rw[tlb] at this
 exact eq_of_beq this
def XY (l:List Ab) (i:Nat):Int:=(l.getD i (Av TC.group)).policy
def MB (cs:List Ax) (i:Nat):Ax:=cs.getD i (Av TC.cell)
def Qh (rows:List AR) (i:Nat):AR:=rows.getD i (Av TC.row)
def Aa0 (rows:List AR):Nat→ByteArray
 |0=>⟨#[]⟩
 |i+1=>(Qh rows i).key
def leS (a b:ByteArray):Bool:=ltS a b||a==b
def Aga (l:List Ab) (rows:List AR) (i:Nat):Int:=bif BO l (Qh rows i) !=0 then BO l (Qh rows i) else bif QC (Qh rows i)||leS (Qh rows i).key (Aa0 rows i) then 100 else 0
def GL (l:List Ab) (rows:List AR):Nat→Int
 |0=>0
 |i+1=>bif GL l rows i !=0 then GL l rows i else Aga l rows i
def Aaz (l:List Ab) (rows:List AR):Int:=bif AI l !=0 then AI l else GL l rows rows.length
theorem As0 (l:List Ab) (rows:List AR):∀n,GL l rows n=0↔∀i,i <n→Aga l rows i=0
 |0=>⟨fun _ i h=>absurd h (Nat.not_lt_zero _),fun _=>rfl⟩
 | n +1=>by
  have ih:=As0 l rows n
  unfold GL
  cases h:GL l rows n !=0 with
  |true=>
   rw[cond_true]
   have h':GL l rows n≠0:=by simpa using h
   exact⟨fun e=>absurd e h',fun e=>absurd (ih.2 fun i hi=>e i (by omega)) h'⟩
  | false=>
   rw[cond_false]
   have h':GL l rows n=0:=by simpa using h
   constructor
   ·intro e i hi
    rcases Nat.lt_or_ge i n with g|g
    ·exact ih.1 h' i g
    ·obtain rfl:i=n:=by omega
     exact e
   ·intro e
    exact e n (Nat.lt_succ_self n)
theorem Xz {l:List Ab} {rows:List AR} {k:Nat} (h:GL l rows k≠0):∀n,k≤n→GL l rows n=GL l rows k
 |0,hn=>by
  obtain rfl:k=0:=by omega
  rfl
 | n+1,hn=>by
  rcases Nat.lt_or_ge n k with g|g
  ·obtain rfl:k=n+1:=by omega
   rfl
  ·have ih:=Xz h n g
   have hb:(GL l rows k !=0)=true:=by simpa using h
   show(bif GL l rows n !=0 then GL l rows n else _)=_
   rw[ih,hb,cond_true]
def B7e (rows:List AR):Prop:=rows.Pairwise fun a b=>ltS a.key b.key=true
theorem Bi8 {l:List Ab} {cs:List Ax} (hl:cs.length=l.length):(l.zip cs).all (fun x=>Gs x.1.policy x.2)=true↔∀i,i <l.length→Gs (XY l i) (MB cs i)=true:=by
 rw[Bzw l cs (Av TC.group) (Av TC.cell) (fun g c=>Gs g.policy c) hl,Hj]
 exact Iff.rfl
def Ts (b:Ae) (l:List Ab) (a:Int) (i:Nat):Ax×Int×Int:=IF (b.drop a.toNat) (XY l i)
def MA (b:Ae) (l:List Ab) (a:Int):Nat→Int
 |0=>a
 |i+1=>MA b l a i+(Ts b l (MA b l a i) i).2.1
def csN (b:Ae) (l:List Ab) (a:Int):Nat→List Ax
 |0=>[]
 |i+1=>csN b l a i++[(Ts b l (MA b l a i) i).1]
def On (b:Ae) (l:List Ab) (a:Int) (i:Nat):Bool:=(Ts b l (MA b l a i) i).2.2 !=0
theorem Azk {b:Ae} {l:List Ab} {a:Int} (ha:0≤a∧a≤(b.length:Int)):∀i,(∀j,j <i→On b l a j=false)→0≤MA b l a i∧MA b l a i≤(b.length:Int)
 |0,_=>ha
 | i+1,h=>by
  obtain⟨h1,h2⟩:=Azk ha i fun j hj=>h j (by omega)
  have hb:=h i (Nat.lt_succ_self i)
  unfold On at hb
  have h0:(Ts b l (MA b l a i) i).2.2=0:=by simpa using hb
  have hg:IF (b.drop (MA b l a i).toNat) (XY l i)=((Ts b l (MA b l a i) i).1,(Ts b l (MA b l a i) i).2.1,0):=by
   rw[←h0];rfl
  obtain⟨_,k,r,hr⟩:=Adi hg
  have hlen:=congrArg List.length hr
  rw[List.length_drop,List.length_append] at hlen
  show 0≤MA b l a i+(Ts b l (MA b l a i) i).2.1∧MA b l a i+(Ts b l (MA b l a i) i).2.1≤_
  rw[k]
  omega
theorem Asj (b:Ae) (l:List Ab) (a:Int):∀i,(csN b l a i).length=i
 |0=>rfl
 |i+1=>by
  unfold csN
  rw[List.length_append,Asj b l a i]
  rfl
def RK (l:List Ab) (cs:List Ax) (i:Nat):Ae:=((l.zip cs).take i).flatMap fun x=>Mx x.1.policy x.2
theorem Asr {l:List Ab} {cs:List Ax} (_hl:cs.length=l.length) {i:Nat} (hi:i <l.length):RK l cs (i+1)=RK l cs i++Mx (XY l i) (MB cs i):=by
 unfold RK
 have hz:i <(l.zip cs).length:=by rw[List.length_zip];omega
 rw[List.take_add_one,List.getElem?_eq_getElem hz,List.flatMap_append,List.getElem_zip]
 have e1:l[i]=l.getD i (Av TC.group):=by rw[List.getD_eq_getElem?_getD,List.getElem?_eq_getElem hi];rfl
 have e2:cs[i]=cs.getD i (Av TC.cell):=by rw[List.getD_eq_getElem?_getD,List.getElem?_eq_getElem (by omega)];rfl
 rw[e1,e2]
 simp[XY,MB]
theorem A2w {l:List Ab} {cs:List Ax} (_hl:cs.length=l.length):RK l cs l.length=(l.zip cs).flatMap fun x=>Mx x.1.policy x.2:=by
 unfold RK
 rw[List.take_of_length_le (by rw[List.length_zip];omega)]
theorem A8q {l:List Ab} {cs:List Ax} (hl:cs.length=l.length) (hg:∀i,i <l.length→Gs (XY l i) (MB cs i)=true) (pre rest:Ae):∀i,i≤l.length→
  MA (pre++RK l cs l.length++rest) l (pre.length:Int) i=((pre++RK l cs i).length:Int)∧csN (pre++RK l cs l.length++rest) l (pre.length:Int) i=cs.take i∧∀j,j <i→On (pre++RK l cs l.length++rest) l (pre.length:Int) j=false
 |0,_=>⟨by show(pre.length:Int)=_;simp[RK],by simp[csN],fun j hj=>absurd hj (Nat.not_lt_zero _)⟩
 | i+1,hi=>by
  obtain⟨h1,h2,h3⟩:=A8q hl hg pre rest i (by omega)
  have mm:∃t,RK l cs l.length=RK l cs i++(Mx (XY l i) (MB cs i)++t):=by
   refine⟨((l.zip cs).drop (i+1)).flatMap fun x=>Mx x.1.policy x.2,?_⟩
   rw[←List.append_assoc,←Asr hl (by omega),A2w hl]
   unfold RK
   rw[←List.flatMap_append,List.take_append_drop]
  obtain⟨t,ht⟩:=mm
  have hd:(pre++RK l cs l.length++rest).drop (pre++RK l cs i).length=Mx (XY l i) (MB cs i)++(t++rest):=by
   rw[ht]
   have:pre++(RK l cs i++(Mx (XY l i) (MB cs i)++t))++rest=(pre++RK l cs i)++(Mx (XY l i) (MB cs i)++(t++rest)):=by simp[List.append_assoc]
   rw[this,List.drop_left]
  have mb:Ts (pre++RK l cs l.length++rest) l (MA (pre++RK l cs l.length++rest) l (pre.length:Int) i) i=(MB cs i,((Mx (XY l i) (MB cs i)).length:Int),0):=by
   unfold Ts
   rw[h1,Int.toNat_natCast,hd]
   exact Ajh (hg i (by omega)) _
  refine⟨?_,?_,fun j hj=>?_⟩
  ·show MA _ l _ i+(Ts _ l (MA _ l _ i) i).2.1=_
   rw[mb,h1,Asr hl (by omega)]
   simp only[List.length_append]
   omega
  ·show csN _ l _ i++[(Ts _ l (MA _ l _ i) i).1]=_
   rw[mb,h2,List.take_add_one,List.getElem?_eq_getElem (by omega)]
   have e2:cs[i]'(by omega)=MB cs i:=by unfold MB;rw[List.getD_eq_getElem?_getD,List.getElem?_eq_getElem (by omega)];rfl
   rw[e2]
   rfl
  ·by_cases e:j=i
   ·subst e
    unfold On
    rw[mb]
    rfl
   ·exact h3 j (by omega)
abbrev B69:=Cl
def B7a:=DM Wu B69
def B7b:=DM Wr B7a
def B7c:=DM Ano B7b
def Bo7:=DM Anm B7c
abbrev D5:Type:=Ae×Int×(List Ab)×Int×Int×ByteArray×ByteArray×(List Ax)
def A5n:D5→St
  |(a0,a1,a2,a3,a4,a5,a6,a7)=>⟨69,4,[(0,.sl .u8 a0),(4,.own 0 0),(9,.v (.int .i64 a1)),(11,.own 1 0),(38,.sl .group a2),(39,.v (.int .i64 a3)),(40,.v (.int .i64 a4))],[(0,some (.box 62 [.v (.string a5),.v (.slice none 0 0)])),(1,some (.box 62 [.v (.string a6),.sq 3])),(3,some (.arr 104 8 (.ty .cell a7)))]⟩
def Aby:St→Option D5
 |⟨69,4,[(0,.sl .u8 z0),(4,.own 0 0),(9,.v (.int .i64 z1)),(11,.own 1 0),(38,.sl .group z2),(39,.v (.int .i64 z3)),(40,.v (.int .i64 z4))],[(0,some (.box 62 [.v (.string z5),.v (.slice none 0 0)])),(1,some (.box 62 [.v (.string z6),.sq 3])),(3,some (.arr 104 8 (.ty .cell z7)))]⟩=>some (z0,z1,z2,z3,z4,z5,z6,z7)
 |_=>none
def A5m:Em:=⟨3,4,[0,4,9,11,38,39,40],[],[(0,0),(1,1),(7,3)],[0,1,7],[9,5,6],[0,1,3]⟩
def A5l:EQ:=⟨[.nilB 1 1 104 .cell],[(0,0),(1,1),(2,3)],[0,4,9,11,38,39,40],[0,1,2]⟩
def HX (a0:Ae) (a1:Int) (_a2:List Ab) (_a3 _a4:Int) (_a5 _a6:ByteArray) (_a7:List Ax):Ae:=List.take ((a0.length:Int).toNat - a1.toNat) (List.drop a1.toNat a0)
def HV (a0:Ae) (a1:Int) (a2:List Ab) (a3 a4:Int) (a5 a6:ByteArray) (a7:List Ax):Bool:=!!decide (a4 <a3)&&(IF (HX a0 a1 a2 a3 a4 a5 a6 a7) (a2.getD a4.toNat (Av TC.group)).2).2.2 !=0
def Rq (a0:Ae) (a1:Int) (a2:List Ab) (a3 a4:Int) (a5 a6:ByteArray) (a7:List Ax):Int:=IntKind.i64.wrap (a1+(IF (HX a0 a1 a2 a3 a4 a5 a6 a7) (a2.getD a4.toNat (Av TC.group)).2).2.1)
def Rr (a0:Ae) (a1:Int) (a2:List Ab) (a3 a4:Int) (a5 a6:ByteArray) (a7:List Ax):List Ax:=a7++[(IF (HX a0 a1 a2 a3 a4 a5 a6 a7) (a2.getD a4.toNat (Av TC.group)).2).1]
def Av1 (a0:Ae) (a1:Int) (a2:List Ab) (a3 a4:Int) (a5 a6:ByteArray) (a7:List Ax):Bool:=!!decide (a4 <a3)&&!(HV a0 a1 a2 a3 a4 a5 a6 a7)
def PU (a0:Ae) (a1:Int) (a2:List Ab) (a3 a4:Int) (a5 a6:ByteArray) (a7:List Ax):Bool:=(HV a0 a1 a2 a3 a4 a5 a6 a7)
def WP (_a0:Ae) (_a1:Int) (_a2:List Ab) (_a3 _a4:Int) (_a5 _a6:ByteArray) (_a7:List Ax):ByteArray:=ByteArray.mk #[]
def Ko:D5→D5
  |(a0,a1,a2,a3,a4,a5,a6,a7)=>(a0,Rq a0 a1 a2 a3 a4 a5 a6 a7,a2,a3,IntKind.i64.wrap (a4+1),a5,a6,Rr a0 a1 a2 a3 a4 a5 a6 a7)
def Kn:D5→El
  |(a0,a1,a2,a3,a4,a5,a6,a7)=>some (Av1 a0 a1 a2 a3 a4 a5 a6 a7)
def Y3:D5→List Prop
  |(a0,a1,a2,a3,a4,a5,a6,a7)=>[((!!decide (a4 <a3))=true→0≤a4∧a4 <(a2.length:Int)),((!!decide (a4 <a3))=true→0≤a1∧a1≤(a0.length:Int)∧(a0.length:Int)≤(a0.length:Int)),((!!decide (a4 <a3))=true→Af (HX a0 a1 a2 a3 a4 a5 a6 a7).length),((!!decide (a4 <a3))=true→(!(IF (HX a0 a1 a2 a3 a4 a5 a6 a7) (a2.getD a4.toNat (Av TC.group)).2).2.2 !=0)=true→Af (a7.length+1))]
abbrev Pf:D5→List Prop:=Y3
def Aq4:D5→BD
  |(a0,a1,a2,a3,a4,a5,a6,a7)=>[(some 0,some (!decide (a4 <a3)),⟨69,4,[(9,.v (.int .i64 a1)),(5,.dead),(6,.dead)],[(0,some (.box 62 [.v (.string a5),.v (.slice none 0 0)])),(1,some (.box 62 [.v (.string a6),.sq 3])),(3,some (.arr 104 8 (.ty .cell a7)))]⟩),(none,some (PU a0 a1 a2 a3 a4 a5 a6 a7),⟨69,6,[(9,.v (.int .i64 a1)),(5,.v (.int .i64 0)),(6,.v (.int .i64 100))],[(0,some (.box 62 [.v (.string (WP a0 a1 a2 a3 a4 a5 a6 a7)),.v (.slice none 0 0)])),(1,some (.box 62 [.v (.string a6),.sq 3])),(3,some (.arr 104 8 (.ty .cell a7)))]⟩)]
def Km (x:D5):Nat:=(x.2.2.2.1 - x.2.2.2.2.1).toNat
def Y4 (x:D5):D5:=Bh Ko Kn (Km x) x
def Av2:=Jt (Co Bo7.1 L0) (Aw AP 84 0) A5m A5l Aby Km Ko Kn Pf Aq4
def Ah0:=V8 0 (g:=Av2) (BX (T:=A5n) (psA:=Y3) Bo7.2 AF (u:=9) (by kernel_rfl) (by decide) (fun⟨a0,a1,a2,a3,a4,a5,a6,a7⟩=>by kernel_rfl) (fun _ h=>h) (fun s x h=>by unfold Aby at h;split at h<;>first|(cases h;rfl)|cases h) (fun _=>A9 (n:=69) rfl) fun _ _=>rfl) ⟨L0,AF⟩
def IC (a1:List Ab):Bool:=AI a1 !=0
def LI (a0:Ae):Bool:=(Bm a0 32).2.2 !=0||(Bm a0 32).1.toList==(ByteArray.mk #[]).toList
def LH (a0:Ae) (a1:List Ab):D5:=Y4 (a0,(Bm a0 32).2.1,a1,(a1.length:Int),0,ByteArray.mk #[],(Bm a0 32).1,[])
def V0 (a0:Ae) (a1:List Ab):Int:=(LH a0 a1).2.1
def Afb (a0:Ae) (a1:List Ab):List Ax:=(LH a0 a1).2.2.2.2.2.2.2
def Afa (a0:Ae) (a1:List Ab):ByteArray:=(LH a0 a1).2.2.2.2.2.2.1
def O1 (a0:Ae) (a1:List Ab):Bool:=PU (LH a0 a1).1 (V0 a0 a1) (LH a0 a1).2.2.1 (LH a0 a1).2.2.2.1 (LH a0 a1).2.2.2.2.1 (LH a0 a1).2.2.2.2.2.1 (Afa a0 a1) (Afb a0 a1)
def Alj (a0:Ae) (a1:List Ab):ByteArray:=bif(IC a1) then ByteArray.mk #[] else bif(LI a0) then ByteArray.mk #[] else bif(O1 a0 a1) then WP (LH a0 a1).1 (V0 a0 a1) (LH a0 a1).2.2.1 (LH a0 a1).2.2.2.1 (LH a0 a1).2.2.2.2.1 (LH a0 a1).2.2.2.2.2.1 (Afa a0 a1) (Afb a0 a1) else(Afa a0 a1)
def Alk (a0:Ae) (a1:List Ab):Int:=bif(IC a1) then 0 else bif(LI a0) then 0 else bif(O1 a0 a1) then 0 else(V0 a0 a1)
def All (a0:Ae) (a1:List Ab):Int:=bif(IC a1) then AI a1 else bif(LI a0) then 100 else bif(O1 a0 a1) then 100 else 0
def Alm (a0:Ae) (a1:List Ab):List Ax:=bif(IC a1) then[] else bif(LI a0) then[] else bif(O1 a0 a1) then[] else(Afb a0 a1)
def Alo (a0:Ae) (a1:List Ab):A:=.tup [.agg [.v (.string (Alj a0 a1)),.sq 0],iV (Alk a0 a1),iV (All a0 a1)]
def Aln (a0:Ae) (a1:List Ab):AE:=[(0,some (.arr 104 8 (.ty .cell (Alm a0 a1))))]
def Bg6 (a0:Ae) (a1:List Ab):List Prop:=[((!(IC a1))=true→Af a0.length),((!(IC a1))=true→(!(LI a0))=true→A8 Ko Kn Pf (Km (a0,(Bm a0 32).2.1,a1,(a1.length:Int),0,ByteArray.mk #[],(Bm a0 32).1,[])) (a0,(Bm a0 32).2.1,a1,(a1.length:Int),0,ByteArray.mk #[],(Bm a0 32).1,[]))]
theorem Bg5 (a0:Ae) (a1:List Ab):RL (Co Bo7.1 Ah0.1) 9 84 [AA .bytes a0,.sl .group a1] 0 []=some (1,Alo a0 a1,1,Aln a0 a1,[((!(IC a1))=true→Af a0.length),((!(IC a1))=true→(!(LI a0))=true→Aw AP 84 0=Aw AP 84 0),((!(IC a1))=true→(!(LI a0))=true→A8 Ko Kn Pf (Km (a0,(Bm a0 32).2.1,a1,(a1.length:Int),0,ByteArray.mk #[],(Bm a0 32).1,[])) (a0,(Bm a0 32).2.1,a1,(a1.length:Int),0,ByteArray.mk #[],(Bm a0 32).1,[]))]):=by kernel_rfl
theorem Bnv (a0:Ae) (a1:List Ab) (hp:∀p∈Bg6 a0 a1,p):An AP 84 [AA .bytes a0,.sl .group a1] 0 [] 1 (Alo a0 a1) 1 (Aln a0 a1):=
  AN (Au Bo7.2 Ah0.2) (Bg5 a0 a1) (nT hp fun hp=>Aa (by intros;rfl) (nT hp fun _=>Ag))
def Uv (b:Ae):Bool:=!((Bm b 32).2.2 !=0||(Bm b 32).1==⟨#[]⟩)
def NJ (b:Ae) (l:List Ab):Int:=bif AI l !=0 then AI l else bif !Uv b then 100 else bif !Kz l.length (fun i=>!On b l (Bm b 32).2.1 i) then 100 else 0
def Un (b:Ae) (l:List Ab):ByteArray:=bif NJ b l==0 then(Bm b 32).1 else⟨#[]⟩
def Qb (b:Ae) (l:List Ab):Int:=bif NJ b l==0 then MA b l (Bm b 32).2.1 l.length else 0
def Tr (b:Ae) (l:List Ab):List Ax:=bif NJ b l==0 then csN b l (Bm b 32).2.1 l.length else[]
def Av5 (a0:Ae) (a1:List Ab):A:=.tup [.agg [.v (.string (Un a0 a1)),.sq 0],iV (Qb a0 a1),iV (NJ a0 a1)]
def Av3 (a0:Ae) (a1:List Ab):AE:=[(0,some (.arr 104 8 (.ty .cell (Tr a0 a1))))]
def Ao0 (a0:Ae) (_a1:List Ab):List Prop:=[Af a0.length]
theorem A5o (b:Ae) (l:List Ab) (z key:ByteArray) (a:Int) (ha:0≤a∧a≤(b.length:Int)) (hb:Af b.length) (_h4:l.length≤4):
  A8 Ko Kn Pf (Km (b,a,l,(l.length:Int),0,z,key,[])) (b,a,l,(l.length:Int),0,z,key,[])∧
  ∃k,k≤l.length∧Y4 (b,a,l,(l.length:Int),0,z,key,[])=(b,MA b l a k,l,(l.length:Int),(k:Int),z,key,csN b l a k)∧(k <l.length→On b l a k=true)∧(decide (k <l.length)&&On b l a k)=!Kz l.length (fun i=>!On b l a i)∧(∀j,j <k→On b l a j=false):=by
 have aq:=hb
 unfold Af at aq
 have hd:∀i,HX b (MA b l a i) l (l.length:Int) (i:Int) z key (csN b l a i)=b.drop (MA b l a i).toNat:=fun i=>by
  unfold HX
  rw[Int.toNat_natCast]
  exact List.take_of_length_le (by rw[List.length_drop];omega)
 have ar:∀i,HV b (MA b l a i) l (l.length:Int) (i:Int) z key (csN b l a i)=(decide (i <l.length)&&On b l a i):=fun i=>by
  unfold HV
  rw[hd,nn,T4,Int.toNat_natCast]
  rfl
 obtain⟨h1,k,hk,hx,hs,hst,ai⟩:=Tg (fun i=>(b,MA b l a i,l,(l.length:Int),(i:Int),z,key,csN b l a i):Nat→D5) l.length (fun i=>On b l a i) Ko Kn Pf (Km (b,a,l,(l.length:Int),0,z,key,[])) (b,a,l,(l.length:Int),0,z,key,[]) rfl (by show l.length≤((l.length:Int) - 0).toNat;omega)
  (fun i _ _=>by
   show(!!decide ((i:Int) <(l.length:Int))&&!HV b (MA b l a i) l (l.length:Int) (i:Int) z key (csN b l a i))=_
   rw[ar,nn,T4]
   cases decide (i <l.length)<;>rfl)
  (fun i hi hs=>by
   obtain⟨o1,o2⟩:=Azk ha (i+1) hs
   show(b,Rq b (MA b l a i) l (l.length:Int) (i:Int) z key (csN b l a i),l,(l.length:Int),IntKind.i64.wrap ((i:Int)+1),z,key,Rr b (MA b l a i) l (l.length:Int) (i:Int) z key (csN b l a i))=(b,MA b l a (i+1),l,(l.length:Int),((i+1:Nat):Int),z,key,csN b l a (i+1))
   unfold Rq Rr
   rw[hd,MO (by omega),Int.toNat_natCast]
   have e:IntKind.i64.wrap (MA b l a i+(IF (b.drop (MA b l a i).toNat) (l.getD i (Av TC.group)).2).2.1)=MA b l a (i+1):=i64_in (n:=MA b l a (i+1)) (by omega)
   rw[e]
   rfl)
  (fun i hi hs=>by
   have au:(!!decide ((i:Int) <(l.length:Int)))=true→(i:Int) <(l.length:Int):=fun h=>by rw[nn] at h;exact of_decide_eq_true h
   obtain⟨o1,o2⟩:=Azk ha i hs
   have hl:=Asj b l a i
   refine Aa (fun h=>⟨by show(0:Int)≤(i:Int);omega,au h⟩) (Aa (fun _=>⟨o1,o2,Int.le_refl _⟩) (Aa (fun _=>?_) (Aa (fun h _=>?_) Ag)))
   ·show Af (HX b (MA b l a i) l (l.length:Int) (i:Int) z key (csN b l a i)).length
    rw[hd,List.length_drop]
    unfold Af
    omega
   ·show Af ((csN b l a i).length+1)
    rw[hl]
    unfold Af
    omega)
 exact⟨h1,k,hk,hx,hst,ai,hs⟩
theorem Bg4 (a0:Ae) (a1:List Ab) (hp:∀p∈Ao0 a0 a1,p):An AP 84 [AA .bytes a0,.sl .group a1] 0 [] 1 (Av5 a0 a1) 1 (Av3 a0 a1):=by
 have hb:Af a0.length:=hp _ (List.mem_cons_self ..)
 have jl:(!(IC a1))=true→AI a1=0:=fun h=>by
  have h':(!(AI a1 !=0))=true:=h
  simpa using h'
 have hl:AI a1=0→_:=fun g=>A5o a0 a1 (ByteArray.mk #[]) (Bm a0 32).1 (Bm a0 32).2.1 (Gd a0 32) hb (SI g).2
 have h:=Bnv a0 a1 (Aa (fun _=>hb) (Aa (fun g _=>(hl (jl g)).1) Ag))
 have e:Alj a0 a1=Un a0 a1∧Alk a0 a1=Qb a0 a1∧All a0 a1=NJ a0 a1∧Alm a0 a1=Tr a0 a1:=by
  have k5:LI a0=!Uv a0:=by
   unfold LI Uv
   rw[tlb,Bool.not_not]
  have k6:IC a1=(AI a1 !=0):=rfl
  unfold Alj Alk All Alm Un Qb Tr NJ
  rw[k5,k6]
  cases g1:AI a1 !=0 with
  |true=>
   have:(AI a1==0)=false:=by simpa using g1
   simp only[cond_true,this]
   refine⟨?_,?_,?_,?_⟩<;>first|rfl|trivial
  | false=>
   simp only[cond_false]
   cases g2:Uv a0 with
   |false=>refine⟨?_,?_,?_,?_⟩<;>first|rfl|trivial
   | true=>
    obtain⟨_,k,hk,hx,hst,ai,hs⟩:=hl (by simpa using g1)
    have ov:LH a0 a1=(a0,MA a0 a1 (Bm a0 32).2.1 k,a1,(a1.length:Int),(k:Int),ByteArray.mk #[],(Bm a0 32).1,csN a0 a1 (Bm a0 32).2.1 k):=hx
    have ar:O1 a0 a1=!Kz a1.length (fun i=>!On a0 a1 (Bm a0 32).2.1 i):=by
     unfold O1 PU Afa Afb V0
     rw[ov,←ai]
     unfold HV HX
     simp only[Int.toNat_natCast]
     rw[nn,T4,List.take_of_length_le (by rw[List.length_drop];omega)]
     rfl
    rw[ar]
    cases g3:Kz a1.length (fun i=>!On a0 a1 (Bm a0 32).2.1 i) with
    |false=>refine⟨?_,?_,?_,?_⟩<;>first|rfl|trivial
    | true=>
     have me:k=a1.length:=by
      rcases Nat.lt_or_ge k a1.length with q|q
      ·have:=hst q
       rw[g3,decide_eq_true q,this] at ai
       cases ai
      ·omega
     unfold Afa Afb V0
     rw[ov,me]
     refine⟨?_,?_,?_,?_⟩<;>first|rfl|trivial
 unfold Alo Aln at h
 rw[e.1,e.2.1,e.2.2.1,e.2.2.2] at h
 exact h
theorem Ao1:Gw AP 84 (Cy [.t .bytes,.l .group] 1 Av5 Av3 Ao0):=Az Bg4
def B7d:=DM Ao1 Bo7
abbrev Cx:=B7d
abbrev DY:Type:=Ae×(List Ab)×Int×Int×ByteArray×ByteArray×(List Ax)
def A40:DY→St
  |(a0,a1,a2,a3,a4,a5,a6)=>⟨69,4,[(0,.sl .u8 a0),(1,.sl .group a1),(4,.own 0 0),(9,.v (.int .i64 a2)),(10,.own 1 0),(11,.v (.int .i64 a3))],[(0,some (.box 62 [.v (.string a4),.v (.slice none 0 0)])),(1,some (.box 62 [.v (.string a5),.sq 3])),(3,some (.arr 104 8 (.ty .cell a6)))]⟩
def Abl:St→Option DY
 |⟨69,4,[(0,.sl .u8 z0),(1,.sl .group z1),(4,.own 0 0),(9,.v (.int .i64 z2)),(10,.own 1 0),(11,.v (.int .i64 z3))],[(0,some (.box 62 [.v (.string z4),.v (.slice none 0 0)])),(1,some (.box 62 [.v (.string z5),.sq 3])),(3,some (.arr 104 8 (.ty .cell z6)))]⟩=>some (z0,z1,z2,z3,z4,z5,z6)
 |_=>none
def A4z:Em:=⟨3,4,[0,1,4,9,10,11],[],[(0,0),(1,1),(6,3)],[0,1,6],[9,5,6],[0,1,3]⟩
def A4y:EQ:=⟨[.nilB 1 1 104 .cell],[(0,0),(1,1),(2,3)],[0,1,4,9,10,11],[0,1,2]⟩
def Dc (_a0:Ae) (a1:List Ab) (_a2 a3:Int) (_a4 _a5:ByteArray) (_a6:List Ax):Bool:=!!decide (a3 <(a1.length:Int))
def HT (a0:Ae) (_a1:List Ab) (a2 _a3:Int) (_a4 _a5:ByteArray) (_a6:List Ax):Ae:=List.take ((a0.length:Int).toNat - a2.toNat) (List.drop a2.toNat a0)
def GC (a0:Ae) (a1:List Ab) (a2 a3:Int) (a4 a5:ByteArray) (a6:List Ax):Bool:=(Dc a0 a1 a2 a3 a4 a5 a6)&&(IF (HT a0 a1 a2 a3 a4 a5 a6) (a1.getD a3.toNat (Av TC.group)).2).2.2 !=0
def Ri (a0:Ae) (a1:List Ab) (a2 a3:Int) (a4 a5:ByteArray) (a6:List Ax):Int:=IntKind.i64.wrap (a2+(IF (HT a0 a1 a2 a3 a4 a5 a6) (a1.getD a3.toNat (Av TC.group)).2).2.1)
def Rj (a0:Ae) (a1:List Ab) (a2 a3:Int) (a4 a5:ByteArray) (a6:List Ax):List Ax:=a6++[(IF (HT a0 a1 a2 a3 a4 a5 a6) (a1.getD a3.toNat (Av TC.group)).2).1]
def Avj (a0:Ae) (a1:List Ab) (a2 a3:Int) (a4 a5:ByteArray) (a6:List Ax):Bool:=(Dc a0 a1 a2 a3 a4 a5 a6)&&!(GC a0 a1 a2 a3 a4 a5 a6)
def WA (_a0:Ae) (_a1:List Ab) (_a2 _a3:Int) (_a4 _a5:ByteArray) (_a6:List Ax):ByteArray:=ByteArray.mk #[]
def Kl:DY→DY
  |(a0,a1,a2,a3,a4,a5,a6)=>(a0,a1,Ri a0 a1 a2 a3 a4 a5 a6,IntKind.i64.wrap (a3+1),a4,a5,Rj a0 a1 a2 a3 a4 a5 a6)
def Kk:DY→El
  |(a0,a1,a2,a3,a4,a5,a6)=>some (Avj a0 a1 a2 a3 a4 a5 a6)
def Yt:DY→List Prop
  |(a0,a1,a2,a3,a4,a5,a6)=>[((Dc a0 a1 a2 a3 a4 a5 a6)=true→0≤a2∧a2≤(a0.length:Int)∧(a0.length:Int)≤(a0.length:Int)),((Dc a0 a1 a2 a3 a4 a5 a6)=true→0≤a3∧a3 <(a1.length:Int)),((Dc a0 a1 a2 a3 a4 a5 a6)=true→Af (HT a0 a1 a2 a3 a4 a5 a6).length),((Dc a0 a1 a2 a3 a4 a5 a6)=true→(!(IF (HT a0 a1 a2 a3 a4 a5 a6) (a1.getD a3.toNat (Av TC.group)).2).2.2 !=0)=true→Af (a6.length+1))]
abbrev Pd:DY→List Prop:=Yt
def Aqc:DY→BD
  |(a0,a1,a2,a3,a4,a5,a6)=>[(some 0,some (!decide (a3 <(a1.length:Int))),⟨69,4,[(9,.v (.int .i64 a2)),(5,.dead),(6,.dead)],[(0,some (.box 62 [.v (.string a4),.v (.slice none 0 0)])),(1,some (.box 62 [.v (.string a5),.sq 3])),(3,some (.arr 104 8 (.ty .cell a6)))]⟩),(none,some (GC a0 a1 a2 a3 a4 a5 a6),⟨69,5,[(9,.v (.int .i64 a2)),(5,.v (.int .i64 0)),(6,.v (.int .i64 100))],[(0,some (.box 62 [.v (.string (WA a0 a1 a2 a3 a4 a5 a6)),.v (.slice none 0 0)])),(1,some (.box 62 [.v (.string a5),.sq 3])),(3,some (.arr 104 8 (.ty .cell a6)))]⟩)]
def Kj (x:DY):Nat:=((x.2.1.length:Int) - x.2.2.2.1).toNat
def Yu (x:DY):DY:=Bh Kl Kk (Kj x) x
def Avk:=Jt (Co Cx.1 L0) (Aw AP 112 0) A4z A4y Abl Kj Kl Kk Pd Aqc
def Ahb:=V8 0 (g:=Avk) (BX (T:=A40) (psA:=Yt) Cx.2 AF (u:=9) (by kernel_rfl) (by decide) (fun⟨a0,a1,a2,a3,a4,a5,a6⟩=>by kernel_rfl) (fun _ h=>h) (fun s x h=>by unfold Abl at h;split at h<;>first|(cases h;rfl)|cases h) (fun _=>A9 (n:=69) rfl) fun _ _=>rfl) ⟨L0,AF⟩
def Iq (a1:List Ab):Bool:=AI a1 !=0
def Lr (a0:Ae):Bool:=(Bm a0 32).2.2 !=0||(Bm a0 32).1.toList==(ByteArray.mk #[]).toList
def M6 (a0:Ae) (a1:List Ab):DY:=Yu (a0,a1,(Bm a0 32).2.1,0,ByteArray.mk #[],(Bm a0 32).1,[])
def VX (a0:Ae) (a1:List Ab):Int:=(M6 a0 a1).2.2.1
def Aeg (a0:Ae) (a1:List Ab):List Ax:=(M6 a0 a1).2.2.2.2.2.2
def Aef (a0:Ae) (a1:List Ab):ByteArray:=(M6 a0 a1).2.2.2.2.2.1
def OP (a0:Ae) (a1:List Ab):Bool:=GC (M6 a0 a1).1 (M6 a0 a1).2.1 (VX a0 a1) (M6 a0 a1).2.2.2.1 (M6 a0 a1).2.2.2.2.1 (Aef a0 a1) (Aeg a0 a1)
def Aks (a0:Ae) (a1:List Ab):ByteArray:=bif(Iq a1) then ByteArray.mk #[] else bif(Lr a0) then ByteArray.mk #[] else bif(OP a0 a1) then WA (M6 a0 a1).1 (M6 a0 a1).2.1 (VX a0 a1) (M6 a0 a1).2.2.2.1 (M6 a0 a1).2.2.2.2.1 (Aef a0 a1) (Aeg a0 a1) else(Aef a0 a1)
def Akt (a0:Ae) (a1:List Ab):Int:=bif(Iq a1) then 0 else bif(Lr a0) then 0 else bif(OP a0 a1) then 0 else(VX a0 a1)
def Aku (a0:Ae) (a1:List Ab):Int:=bif(Iq a1) then AI a1 else bif(Lr a0) then 100 else bif(OP a0 a1) then 100 else 0
def Akv (a0:Ae) (a1:List Ab):List Ax:=bif(Iq a1) then[] else bif(Lr a0) then[] else bif(OP a0 a1) then[] else(Aeg a0 a1)
def Akx (a0:Ae) (a1:List Ab):A:=.tup [.agg [.v (.string (Aks a0 a1)),.sq 0],iV (Akt a0 a1),iV (Aku a0 a1)]
def Akw (a0:Ae) (a1:List Ab):AE:=[(0,some (.arr 104 8 (.ty .cell (Akv a0 a1))))]
def Bf7 (a0:Ae) (a1:List Ab):List Prop:=[(∀(g:Ab),g∈a1→AJ g.1.size),((!(Iq a1))=true→Af a0.length),((!(Iq a1))=true→(!(Lr a0))=true→A8 Kl Kk Pd (Kj (a0,a1,(Bm a0 32).2.1,0,ByteArray.mk #[],(Bm a0 32).1,[])) (a0,a1,(Bm a0 32).2.1,0,ByteArray.mk #[],(Bm a0 32).1,[]))]
theorem Bf6 (a0:Ae) (a1:List Ab):RL (Co Cx.1 Ahb.1) 9 112 [AA .bytes a0,.sl .group a1] 0 []=some (1,Akx a0 a1,1,Akw a0 a1,[(∀(g:Ab),g∈a1→AJ g.1.size),((!(Iq a1))=true→Af a0.length),((!(Iq a1))=true→(!(Lr a0))=true→Aw AP 112 0=Aw AP 112 0),((!(Iq a1))=true→(!(Lr a0))=true→A8 Kl Kk Pd (Kj (a0,a1,(Bm a0 32).2.1,0,ByteArray.mk #[],(Bm a0 32).1,[])) (a0,a1,(Bm a0 32).2.1,0,ByteArray.mk #[],(Bm a0 32).1,[]))]):=by kernel_rfl
theorem Bnn (a0:Ae) (a1:List Ab) (hp:∀p∈Bf7 a0 a1,p):An AP 112 [AA .bytes a0,.sl .group a1] 0 [] 1 (Akx a0 a1) 1 (Akw a0 a1):=
  AN (Au Cx.2 Ahb.2) (Bf6 a0 a1) (nT hp fun hp=>nT hp fun hp=>Aa (by intros;rfl) (nT hp fun _=>Ag))
def Avn (a0:Ae) (a1:List Ab):A:=.tup [.agg [.v (.string (Un a0 a1)),.sq 0],iV (Qb a0 a1),iV (NJ a0 a1)]
def Avl (a0:Ae) (a1:List Ab):AE:=[(0,some (.arr 104 8 (.ty .cell (Tr a0 a1))))]
def Anv (a0:Ae) (a1:List Ab):List Prop:=[Af a0.length∧∀g∈a1,AJ g.name.size]
theorem A41 (b:Ae) (l:List Ab) (z key:ByteArray) (a:Int) (ha:0≤a∧a≤(b.length:Int)) (hb:Af b.length) (_h4:l.length≤4):
  A8 Kl Kk Pd (Kj (b,l,a,0,z,key,[])) (b,l,a,0,z,key,[])∧
  ∃k,k≤l.length∧Yu (b,l,a,0,z,key,[])=(b,l,MA b l a k,(k:Int),z,key,csN b l a k)∧(k <l.length→On b l a k=true)∧(decide (k <l.length)&&On b l a k)=!Kz l.length (fun i=>!On b l a i)∧(∀j,j <k→On b l a j=false):=by
 have aq:=hb
 unfold Af at aq
 have hd:∀i,HT b l (MA b l a i) (i:Int) z key (csN b l a i)=b.drop (MA b l a i).toNat:=fun i=>by
  unfold HT
  rw[Int.toNat_natCast]
  exact List.take_of_length_le (by rw[List.length_drop];omega)
 have cy:∀i,Dc b l (MA b l a i) (i:Int) z key (csN b l a i)=decide (i <l.length):=fun i=>by
  unfold Dc
  rw[nn,T4]
 have ar:∀i,GC b l (MA b l a i) (i:Int) z key (csN b l a i)=(decide (i <l.length)&&On b l a i):=fun i=>by
  unfold GC
  rw[hd,cy,Int.toNat_natCast]
  rfl
 obtain⟨h1,k,hk,hx,hs,hst,ai⟩:=Tg (fun i=>(b,l,MA b l a i,(i:Int),z,key,csN b l a i):Nat→DY) l.length (fun i=>On b l a i) Kl Kk Pd (Kj (b,l,a,0,z,key,[])) (b,l,a,0,z,key,[]) rfl (by show l.length≤((l.length:Int) - 0).toNat;omega)
  (fun i _ _=>by
   show(Dc b l (MA b l a i) (i:Int) z key (csN b l a i)&&!GC b l (MA b l a i) (i:Int) z key (csN b l a i))=_
   rw[ar,cy]
   cases decide (i <l.length)<;>rfl)
  (fun i hi hs=>by
   obtain⟨o1,o2⟩:=Azk ha (i+1) hs
   show(b,l,Ri b l (MA b l a i) (i:Int) z key (csN b l a i),IntKind.i64.wrap ((i:Int)+1),z,key,Rj b l (MA b l a i) (i:Int) z key (csN b l a i))=(b,l,MA b l a (i+1),((i+1:Nat):Int),z,key,csN b l a (i+1))
   unfold Ri Rj
   rw[hd,MO (by omega),Int.toNat_natCast]
   have e:IntKind.i64.wrap (MA b l a i+(IF (b.drop (MA b l a i).toNat) (l.getD i (Av TC.group)).2).2.1)=MA b l a (i+1):=i64_in (n:=MA b l a (i+1)) (by omega)
   rw[e]
   rfl)
  (fun i hi hs=>by
   have au:Dc b l (MA b l a i) (i:Int) z key (csN b l a i)=true→(i:Int) <(l.length:Int):=fun h=>by
    rw[cy] at h
    have:=of_decide_eq_true h
    omega
   obtain⟨o1,o2⟩:=Azk ha i hs
   have hl:=Asj b l a i
   refine Aa (fun _=>⟨o1,o2,Int.le_refl _⟩) (Aa (fun h=>⟨by show(0:Int)≤(i:Int);omega,au h⟩) (Aa (fun _=>?_) (Aa (fun h _=>?_) Ag)))
   ·show Af (HT b l (MA b l a i) (i:Int) z key (csN b l a i)).length
    rw[hd,List.length_drop]
    unfold Af
    omega
   ·show Af ((csN b l a i).length+1)
    rw[hl]
    unfold Af
    omega)
 exact⟨h1,k,hk,hx,hst,ai,hs⟩
theorem Bf5 (a0:Ae) (a1:List Ab) (hp:∀p∈Anv a0 a1,p):An AP 112 [AA .bytes a0,.sl .group a1] 0 [] 1 (Avn a0 a1) 1 (Avl a0 a1):=by
 obtain⟨hb,hn⟩:=hp _ (List.mem_cons_self ..)
 have jl:(!(Iq a1))=true→AI a1=0:=fun h=>by
  have h':(!(AI a1 !=0))=true:=h
  simpa using h'
 have hl:AI a1=0→_:=fun g=>A41 a0 a1 (ByteArray.mk #[]) (Bm a0 32).1 (Bm a0 32).2.1 (Gd a0 32) hb (SI g).2
 have h:=Bnn a0 a1 (Aa hn (Aa (fun _=>hb) (Aa (fun g _=>(hl (jl g)).1) Ag)))
 have e:Aks a0 a1=Un a0 a1∧Akt a0 a1=Qb a0 a1∧Aku a0 a1=NJ a0 a1∧Akv a0 a1=Tr a0 a1:=by
  have k5:Lr a0=!Uv a0:=by
   unfold Lr Uv
   rw[tlb,Bool.not_not]
  have k6:Iq a1=(AI a1 !=0):=rfl
  unfold Aks Akt Aku Akv Un Qb Tr NJ
  rw[k5,k6]
  cases g1:AI a1 !=0 with
  |true=>
   have:(AI a1==0)=false:=by simpa using g1
   simp only[cond_true,this]
   refine⟨?_,?_,?_,?_⟩<;>first|rfl|trivial
  | false=>
   simp only[cond_false]
   cases g2:Uv a0 with
   |false=>refine⟨?_,?_,?_,?_⟩<;>first|rfl|trivial
   | true=>
    obtain⟨_,k,hk,hx,hst,ai,hs⟩:=hl (by simpa using g1)
    have ov:M6 a0 a1=(a0,a1,MA a0 a1 (Bm a0 32).2.1 k,(k:Int),ByteArray.mk #[],(Bm a0 32).1,csN a0 a1 (Bm a0 32).2.1 k):=hx
    have ar:OP a0 a1=!Kz a1.length (fun i=>!On a0 a1 (Bm a0 32).2.1 i):=by
     unfold OP Aef Aeg VX
     rw[ov,←ai]
     unfold GC HT Dc
     simp only[Int.toNat_natCast]
     rw[nn,T4,List.take_of_length_le (by rw[List.length_drop];omega)]
     rfl
    rw[ar]
    cases g3:Kz a1.length (fun i=>!On a0 a1 (Bm a0 32).2.1 i) with
    |false=>refine⟨?_,?_,?_,?_⟩<;>first|rfl|trivial
    | true=>
     have me:k=a1.length:=by
      rcases Nat.lt_or_ge k a1.length with q|q
      ·have:=hst q
       rw[g3,decide_eq_true q,this] at ai
       cases ai
      ·omega
     unfold Aef Aeg VX
     rw[ov,me]
     refine⟨?_,?_,?_,?_⟩<;>first|rfl|trivial
 unfold Akx Akw at h
 rw[e.1,e.2.1,e.2.2.1,e.2.2.2] at h
 exact h
theorem Bau:Gw AP 112 (Cy [.t .bytes,.l .group] 1 Avn Avl Anv):=Az Bf5
abbrev B67:=Cl
abbrev Bov:=B67
abbrev CN:Type:=(List Ab)×ByteArray×(List AR)×Int×Int
def App (x:CN):St:=⟨38,0,[(0,.sl .group x.1),(6,.v (.string x.2.1)),(15,.sl .row x.2.2.1),(16,iV (x.2.2.2.1)),(17,iV (x.2.2.2.2))],[]⟩
def UC:St→Option CN
 |⟨38,0,[(0,.sl .group z0),(6,.v (.string z1)),(15,.sl .row z2),(16,.v (.int .i64 z3)),(17,.v (.int .i64 z4))],[]⟩=>some (z0,z1,z2,z3,z4)
 |_=>none
def Apo:Em:=⟨0,0,[0,6,15,16,17],[],[],[],[4],[]⟩
def Apn:EQ:=⟨[],[],[0,6,15,16,17],[]⟩
def Hl (a0:List Ab) (a2:List AR) (a4:Int):Bool:=BO a0 (a2.getD a4.toNat (Av TC.row)) !=0
def EL (a0:List Ab) (a1:ByteArray) (a2:List AR) (a3 a4:Int):Bool:=!!decide (a4 <a3)&&((Hl a0 a2 a4)||(QC (a2.getD a4.toNat (Av TC.row))||(Op.bytesLess (a2.getD a4.toNat (Av TC.row)).1.toList a1.toList||(a2.getD a4.toNat (Av TC.row)).1.toList==a1.toList)))
def Agm (a2:List AR) (a4:Int):ByteArray:=(a2.getD a4.toNat (Av TC.row)).1
def Agn (a0:List Ab) (a1:ByteArray) (a2:List AR) (a3 a4:Int):Bool:=!!decide (a4 <a3)&&!(EL a0 a1 a2 a3 a4)
def Hk (a0:List Ab) (a2:List AR) (a4:Int):Int:=bif(Hl a0 a2 a4) then BO a0 (a2.getD a4.toNat (Av TC.row)) else 100
def JV:CN→CN
  |(a0,_,a2,a3,a4)=>(a0,Agm a2 a4,a2,a3,IntKind.i64.wrap (a4+1))
def JU (x:CN):El:=some (Agn x.1 x.2.1 x.2.2.1 x.2.2.2.1 x.2.2.2.2)
def SP:CN→List Prop
  |(a0,_,a2,a3,a4)=>[((!!decide (a4 <a3))=true→0≤a4∧a4 <(a2.length:Int)),((!!decide (a4 <a3))=true→(!(Hl a0 a2 a4))=true→Af (a2.getD a4.toNat (Av TC.row)).2.length)]
abbrev OD:CN→List Prop:=SP
def Adq:CN→BD
  |(a0,a1,a2,a3,a4)=>[(some 0,some (!decide (a4 <a3)),⟨38,0,[(4,.dead)],[]⟩),(none,some (EL a0 a1 a2 a3 a4),⟨38,1,[(4,.v (.int .i64 (Hk a0 a2 a4)))],[]⟩)]
def JT (x:CN):Nat:=(x.2.2.2.1 - x.2.2.2.2).toNat
def SQ (x:CN):CN:=Bh JV JU (JT x) x
def Ago:=Jt (Co Bov.1 L0) (Aw AP 31 0) Apo Apn UC JT JV JU OD Adq
def Wk:=V8 0 (g:=Ago) (BX (T:=App) (psA:=SP) Bov.2 AF (u:=9) (by kernel_rfl) (by decide) (fun⟨a0,a1,a2,a3,a4⟩=>by kernel_rfl) (fun _ h=>h) (fun s x h=>by unfold UC at h;split at h<;>first|(cases h;rfl)|cases h) (fun _=>A9 (n:=38) rfl) fun _ _=>rfl) ⟨L0,AF⟩
def Tz (a0:List Ab):Bool:=AI a0 !=0
def Ty (a0:List Ab) (a1:List AR):List Ab:=(SQ (a0,ByteArray.mk #[],a1,(a1.length:Int),0)).1
def Aa4 (a0:List Ab) (a1:List AR):ByteArray:=(SQ (a0,ByteArray.mk #[],a1,(a1.length:Int),0)).2.1
def Tx (a0:List Ab) (a1:List AR):List AR:=(SQ (a0,ByteArray.mk #[],a1,(a1.length:Int),0)).2.2.1
def Tw (a0:List Ab) (a1:List AR):Int:=(SQ (a0,ByteArray.mk #[],a1,(a1.length:Int),0)).2.2.2.2
def Aa3 (a0:List Ab) (a1:List AR):Int:=(SQ (a0,ByteArray.mk #[],a1,(a1.length:Int),0)).2.2.2.1
def VB (a0:List Ab) (a1:List AR):Int:=bif(Tz a0) then AI a0 else bif EL (Ty a0 a1) (Aa4 a0 a1) (Tx a0 a1) (Aa3 a0 a1) (Tw a0 a1) then Hk (Ty a0 a1) (Tx a0 a1) (Tw a0 a1) else 0
def VC (a0:List Ab) (a1:List AR):A:=iV (VB a0 a1)
def Aa5 (a0:List Ab) (a1:List AR):List Prop:=[((!(Tz a0))=true→A8 JV JU OD (JT (a0,ByteArray.mk #[],a1,(a1.length:Int),0)) (a0,ByteArray.mk #[],a1,(a1.length:Int),0))]
theorem Axc (a0:List Ab) (a1:List AR):RL (Co Bov.1 Wk.1) 9 31 [.sl .group a0,AA .rows a1] 0 []=some (1,VC a0 a1,0,[],[((!(Tz a0))=true→Aw AP 31 0=Aw AP 31 0),((!(Tz a0))=true→A8 JV JU OD (JT (a0,ByteArray.mk #[],a1,(a1.length:Int),0)) (a0,ByteArray.mk #[],a1,(a1.length:Int),0))]):=by kernel_rfl
theorem A3k (a0:List Ab) (a1:List AR) (hp:∀p∈Aa5 a0 a1,p):An AP 31 [.sl .group a0,AA .rows a1] 0 [] 1 (VC a0 a1) 0 []:=
  AN (Au Bov.2 Wk.2) (Axc a0 a1) (Aa (by intros;rfl) (nT hp fun _=>Ag))
def Aa7 (a0:List Ab) (a1:List AR):A:=iV (Aaz a0 a1)
def XN (_a0:List Ab) (a1:List AR):List Prop:=[AJ a1.length]
theorem Are (l:List Ab) (rows:List AR) (i:Nat):(Aga l rows i !=0)=(BO l (Qh rows i) !=0||(QC (Qh rows i)||leS (Qh rows i).key (Aa0 rows i))):=by
 unfold Aga
 cases h:BO l (Qh rows i) !=0 with
 |true=>rw[cond_true,h,Bool.true_or]
 |false=>cases QC (Qh rows i)||leS (Qh rows i).key (Aa0 rows i)<;>rfl
theorem Aa2 (l:List Ab) (rows:List AR) (hb:AJ rows.length):(∀p∈Aa5 l rows,p)∧VB l rows=Aaz l rows:=by
 unfold AJ at hb
 have hf:∀i:Nat,EL l (Aa0 rows i) rows (rows.length:Int) (i:Int)=(decide (i <rows.length)&&Aga l rows i !=0):=fun i=>by
  rw[Are]
  unfold EL Hl leS ltS
  rw[nn,T4,Int.toNat_natCast,tlb]
  rfl
 obtain⟨h1,k,hk,hx,hs,hst,_⟩:=Tg (fun i=>((l,Aa0 rows i,rows,(rows.length:Int),(i:Int)):CN)) rows.length (fun i=>Aga l rows i !=0) JV JU OD (JT (l,ByteArray.mk #[],rows,(rows.length:Int),0)) (l,ByteArray.mk #[],rows,(rows.length:Int),0) rfl (by show rows.length≤((rows.length:Int) - 0).toNat;omega)
  (fun i _ _=>by
   show((!!decide ((i:Int) <(rows.length:Int)))&&!EL l (Aa0 rows i) rows (rows.length:Int) (i:Int))=_
   rw[hf,nn,T4]
   cases decide (i <rows.length)<;>rfl)
  (fun i hi _=>by
   show(l,(rows.getD ((i:Int)).toNat (Av TC.row)).1,rows,(rows.length:Int),IntKind.i64.wrap ((i:Int)+1))=(l,Aa0 rows (i+1),rows,(rows.length:Int),((i+1:Nat):Int))
   rw[MO (by omega),Int.toNat_natCast]
   rfl)
  (fun i hi _=>by
   have au:(!!decide ((i:Int) <(rows.length:Int)))=true→(i:Int) <(rows.length:Int):=fun h=>by rw[nn] at h;exact of_decide_eq_true h
   refine Aa (fun h=>⟨by show(0:Int)≤(i:Int);omega,au h⟩) (Aa (fun _ h2=>?_) Ag)
   have h3:BO l (rows.getD ((i:Int)).toNat (Av TC.row))=0:=by
    have h4:(!(BO l (rows.getD ((i:Int)).toNat (Av TC.row)) !=0))=true:=h2
    simpa using h4
   obtain⟨g1,g2,_⟩:=ZD h3
   have:=(SI g1).2
   show Af (rows.getD ((i:Int)).toNat (Av TC.row)).cells.length
   unfold Af
   omega)
 have hr:SQ (l,ByteArray.mk #[],rows,(rows.length:Int),0)=(l,Aa0 rows k,rows,(rows.length:Int),(k:Int)):=hx
 refine⟨Aa (fun _=>h1) Ag,?_⟩
 unfold VB Aaz
 show(bif AI l !=0 then AI l else _)=_
 congr 1
 unfold Ty Aa4 Tx Tw Aa3
 rw[hr]
 show(bif EL l (Aa0 rows k) rows (rows.length:Int) (k:Int) then Hk l rows (k:Int) else 0)=_
 rw[hf]
 have h0:GL l rows k=0:=(As0 l rows k).2 fun i hi=>by simpa using hs i hi
 rcases Nat.lt_or_ge k rows.length with h|h
 ·have he:=hst h
  rw[decide_eq_true h,he]
  have e1:GL l rows (k+1)=Aga l rows k:=by
   show(bif GL l rows k !=0 then GL l rows k else Aga l rows k)=_
   rw[h0];rfl
  have ao:GL l rows (k+1)≠0:=by rw[e1];simpa using he
  rw[Xz ao rows.length h,e1]
  show Hk l rows (k:Int)=_
  unfold Hk Hl
  rw[Int.toNat_natCast]
  rw[Are] at he
  unfold Aga
  show(bif BO l (Qh rows k) !=0 then BO l (Qh rows k) else 100)=_
  cases hg:BO l (Qh rows k) !=0 with
  |true=>rfl
  |false=>
   rw[hg,Bool.false_or] at he
   rw[he]
   rfl
 ·obtain rfl:k=rows.length:=by omega
  rw[decide_eq_false (Nat.lt_irrefl _),h0]
  rfl
theorem Axb (a0:List Ab) (a1:List AR) (hp:∀p∈XN a0 a1,p):An AP 31 [.sl .group a0,AA .rows a1] 0 [] 1 (Aa7 a0 a1) 0 []:=by
 have hb:AJ a1.length:=hp _ (List.mem_cons_self ..)
 have h:=A3k a0 a1 (Aa2 a0 a1 hb).1
 unfold VC at h
 rw[(Aa2 a0 a1 hb).2] at h
 exact h
theorem XO:Gw AP 31 (Cy [.l .group,.t .rows] 0 Aa7 (fun _ _=>[]) XN):=Az Axb
def B68:=DM XO Bov
abbrev Cn:=B68
def Lex (r e s:Prop):Prop:=r∨(e∧s)
theorem Uy {r1 r2 r3 e1 e2 e3 s1 s2 s3:Prop} (hr:r1→r2→r3) (ym:r1→e2→r3) (xk:e1→r2→r3) (xj:e1→e2→e3) (hs:s1→s2→s3):Lex r1 e1 s1→Lex r2 e2 s2→Lex r3 e3 s3
 | .inl a,.inl b=> .inl (hr a b)
 | .inl a,.inr b=> .inl (ym a b.1)
 | .inr a,.inl b=> .inl (xk a.1 b)
 | .inr a,.inr b=> .inr ⟨xj a.1 b.1,hs a.2 b.2⟩
theorem Ux {r1 r2 e1 e2 s1 s2 t e:Prop} (h:r1∨e∨r2) (h1:e→e1) (h2:e→e2) (hs:s1∨t∨s2):Lex r1 e1 s1∨(e∧t)∨Lex r2 e2 s2:=by
 rcases h with h|h|h
 ·exact .inl (.inl h)
 ·rcases hs with g|g|g
  ·exact .inl (.inr ⟨h1 h,g⟩)
  ·exact .inr (.inl ⟨h,g⟩)
  ·exact .inr (.inr (.inr ⟨h2 h,g⟩))
 ·exact .inr (.inr (.inl h))
def W8 (a b:Ax):Prop:=
 Lex (a.stamp.n <b.stamp.n) (a.stamp.n=b.stamp.n) (Lex (a.stamp.site <b.stamp.site) (a.stamp.site=b.stamp.site) (Lex (a.gone=false∧b.gone=true) (a.gone=b.gone) (Lex (ltS a.value b.value=true) (a.value=b.value) (Lex (a.vec.a <b.vec.a) (a.vec.a=b.vec.a) (a.vec.b <b.vec.b)))))
theorem As7 {a b c:Ax}:W8 a b→W8 b c→W8 a c:=
 Uy (by omega) (by omega) (by omega) (by omega) (Uy (by omega) (by omega) (by omega) (by omega)
  (Uy (fun h g=>by rw[h.2] at g;exact absurd g.1 (by decide)) (fun h g=>⟨h.1,g▸h.2⟩) (fun h g=>⟨h▸g.1,g.2⟩) (fun h g=>h.trans g)
   (Uy A0m (fun h g=>g▸h) (fun h g=>h▸g) (fun h g=>h.trans g) (Uy (by omega) (by omega) (by omega) (by omega) (by omega)))))
def Bzq (a b:Ax):Prop:=a.stamp.n=b.stamp.n∧a.stamp.site=b.stamp.site∧a.gone=b.gone∧a.value=b.value∧a.vec.a=b.vec.a∧a.vec.b=b.vec.b
theorem Beb (a b:Ax):W8 a b∨Bzq a b∨W8 b a:=by
 refine Ux (by omega) id Eq.symm (Ux (by omega) id Eq.symm (Ux ?_ id Eq.symm (Ux ?_ id Eq.symm (Ux (by omega) id Eq.symm (by omega)))))
 ·cases a.gone<;>cases b.gone<;>simp
 ·by_cases h:a.value=b.value
  ·exact .inr (.inl h)
  ·cases h1:ltS a.value b.value with
   |true=>exact .inl rfl
   |false=>exact .inr (.inr (A0l h1 h))
def Bjk (a b:Ax):Bool:=
 bif !(a.stamp.n==b.stamp.n&&a.stamp.site==b.stamp.site) then decide (a.stamp.n <b.stamp.n)||(a.stamp.n==b.stamp.n&&decide (a.stamp.site <b.stamp.site))
 else bif a.gone !=b.gone then b.gone
 else bif !(a.value==b.value) then ltS a.value b.value
 else bif a.vec.a !=b.vec.a then decide (a.vec.a <b.vec.a)
 else decide (a.vec.b <b.vec.b)
theorem A0e {a b:Ax}:Bjk a b=true↔W8 a b:=by
 unfold Bjk W8 Lex
 by_cases h1:a.stamp.n=b.stamp.n
 ·by_cases h2:a.stamp.site=b.stamp.site
  ·have e:(a.stamp.n==b.stamp.n&&a.stamp.site==b.stamp.site)=true:=by rw[h1,h2];simp
   rw[e,Bool.not_true,cond_false]
   simp only[h1,h2,false_or,true_and,Int.lt_irrefl]
   by_cases h3:a.gone=b.gone
   ·have e3:(a.gone !=b.gone)=false:=by rw[h3];simp
    have n3:¬(a.gone=false∧b.gone=true):=by rw[h3];rintro⟨x,y⟩;rw[x] at y;cases y
    rw[e3,cond_false]
    have y4:¬(b.gone=false∧b.gone=true):=by rintro⟨x,y⟩;rw[x] at y;cases y
    simp only[h3,y4,false_or,true_and]
    by_cases h4:a.value=b.value
    ·have e4:(a.value==b.value)=true:=beq_iff_eq.2 h4
     rw[e4,Bool.not_true,cond_false]
     simp only[h4,true_and]
     have y5:¬ltS b.value b.value=true:=fun h=>Br4 h rfl
     simp only[y5,Bool.false_eq_true,false_or]
     by_cases h5:a.vec.a=b.vec.a
     ·have e5:(a.vec.a !=b.vec.a)=false:=by rw[h5];simp
      rw[e5,cond_false,decide_eq_true_eq]
      omega
     ·have e5:(a.vec.a !=b.vec.a)=true:=by simpa using h5
      rw[e5,cond_true,decide_eq_true_eq]
      omega
    ·have e4:(a.value==b.value)=false:=beq_eq_false_iff_ne.2 h4
     rw[e4,Bool.not_false,cond_true]
     simp only[h4,false_and,or_false]
   ·have e3:(a.gone !=b.gone)=true:=by simpa using h3
    rw[e3,cond_true]
    simp only[h3,false_and,or_false]
    revert h3
    cases a.gone<;>cases b.gone<;>simp
  ·have e:(a.stamp.n==b.stamp.n&&a.stamp.site==b.stamp.site)=false:=by rw[beq_eq_false_iff_ne.2 h2,Bool.and_false]
   rw[e,Bool.not_false,cond_true]
   simp[h1,h2]
 ·have e:(a.stamp.n==b.stamp.n&&a.stamp.site==b.stamp.site)=false:=by rw[beq_eq_false_iff_ne.2 h1,Bool.false_and]
  rw[e,Bool.not_false,cond_true]
  simp[h1]
def Beg (a b:Ax):Ax:=bif Bjk a b then b else a
def Bum (a:Ax):Ax:=⟨a.stamp,a.vec,a.gone,a.value,⟨0,0⟩⟩
theorem Byf {a b:Ax} (h:Bzq a b):Bum a=Bum b:=by
 obtain⟨⟨an,asi⟩,⟨ava,avb⟩,ag,av,ad⟩:=a
 obtain⟨⟨bn,bsi⟩,⟨bva,bvb⟩,bg,bv,bd⟩:=b
 obtain⟨h1,h2,h3,h4,h5,h6⟩:=h
 simp only at h1 h2 h3 h4 h5 h6
 subst h1 h2 h3 h4 h5 h6
 rfl
theorem A80 {a b:Ax}:W8 a (Bum b)↔W8 a b:=Iff.rfl
theorem ZF (a b:Ax):(W8 a b∧Beg a b=b)∨(¬W8 a b∧Beg a b=a):=by
 unfold Beg
 cases h:Bjk a b with
 |true=>exact .inl ⟨A0e.1 h,rfl⟩
 |false=>exact .inr ⟨fun g=>(by rw[A0e.2 g] at h;cases h),rfl⟩
theorem max_assoc (a b c:Ax):Bum (Beg (Beg a b) c)=Bum (Beg a (Beg b c)):=by
 rcases ZF a b with⟨h,e⟩|⟨h,e⟩<;>rcases ZF b c with⟨g,f⟩|⟨g,f⟩
 ·rw[e,f]
  rcases ZF a c with⟨_,q⟩|⟨r,_⟩
  ·rw[q]
  ·exact absurd (As7 h g) r
 ·rw[e,f,e]
 ·rw[e,f]
 ·rw[e,f,e]
  rcases ZF a c with⟨r,q⟩|⟨_,q⟩
  ·rcases Beb b c with t|t|t
   ·exact absurd t g
   ·have:=Byf t
    rw[←A80 (b:=c),←this] at r
    exact absurd (A80.1 r) h
   ·exact absurd (As7 r t) h
  ·rw[q]
structure Stt (l:List Ab) (rows:List AR):Prop where
 rise:B7e rows
 good:∀r∈rows,BO l r=0∧QC r=false
theorem Stt.tail {l:List Ab} {x:AR} {a:List AR} (h:Stt l (x::a)):Stt l a:=⟨(List.pairwise_cons.1 h.rise).2,fun r hr=>h.good r (List.mem_cons_of_mem _ hr)⟩
def wN (ws:List AU) (i:Nat):AU:=ws.getD i (Av TC.write)
def W9 (a b:AU):Bool:=ltS a.key b.key||a.key==b.key&&decide (a.group <b.group)
def Aq8 (l:List Ab) (w:AU):Bool:=!(w.key.size==0)&&decide (w.key.size≤32)&&decide (0≤w.group)&&decide (w.group <(l.length:Int))&&decide (w.value.size≤64)&&(!w.gone||w.value.size==0)
def OA (c:Ao):Bool:=(c.site==1||c.site==2)&&decide (1≤c.seq)&&decide (c.seq≤1099511627776)&&c.stamp.site==c.site&&HA c.stamp&&FK c.vec&&(bif c.site==1 then c.vec.a else c.vec.b)==c.seq
def RO (l:List Ab) (ws:List AU) (i:Nat):Bool:=!Aq8 l (wN ws i)||decide (0 <i)&&!W9 (wN ws (i - 1)) (wN ws i)
def Apq (c:Ao):Bool:=decide (1≤c.writes.length)&&decide (c.writes.length≤8)
def WY (l:List Ab) (c:Ao):Int:=bif AI l !=0 then AI l else bif OA c&&Apq c&&Kz c.writes.length (fun i=>!RO l c.writes i) then 0 else 120
def K9 (a0:AU):U3:=U3.mk a0.1 a0.2
def A7m (a0:AU):A:=.v (.agg ⟨[.string ((K9 a0).key),.int .i64 ((K9 a0).group)]⟩)
def A2a (_a0:AU):List Prop:=[]
theorem Aw0:Gw AP 66 (Cy [.t .write] 0 A7m (fun _=>[]) A2a):=Az fun a0 hp=>AN (u:=9) (Au Cn.2 AF) (by kernel_rfl) hp
def Byg:=DM Aw0 Cn
def H1 (a0 a1:U3):Bool:=Op.bytesLess a0.1.toList a1.1.toList||a0.1.toList==a1.1.toList&&decide (a0.2 <a1.2)
def Xi (a0 a1:U3):A:=.v (.bool (H1 a0 a1))
def WZ (_a0 _a1:U3):List Prop:=[]
theorem U8:Gw AP 67 (Cy [.t .place,.t .place] 0 Xi (fun _ _=>[]) WZ):=Az fun a0 a1 hp=>AN (u:=9) (Au Byg.2 AF) (by kernel_rfl) hp
def Byh:=DM U8 Byg
def S4 (a0 a1:AU):Bool:=bif !a0.1.toList==a1.1.toList then Op.bytesLess a0.1.toList a1.1.toList else decide (a0.2 <a1.2)
def Ba5 (a0 a1:AU):A:=.v (.bool (S4 a0 a1))
def A46 (_a0 _a1:AU):List Prop:=[]
theorem Ayf:Gw AP 74 (Cy [.t .write,.t .write] 0 Ba5 (fun _ _=>[]) A46):=Az fun a0 a1 hp=>AN (u:=9) (Au Byh.2 AF) (by kernel_rfl) hp
def Byi:=DM Ayf Byh
def Nv (a0:List Ab) (a1:AU):Bool:=Aw8 a1.1==0&&decide (a1.2≥0)&&decide (a1.2 <(a0.length:Int))&&decide ((a1.4.size:Int)≤64)&&(!a1.3||a1.4.toList==(ByteArray.mk #[]).toList)
def Ba8 (a0:List Ab) (a1:AU):A:=.v (.bool (Nv a0 a1))
def A47 (_a0:List Ab) (_a1:AU):List Prop:=[]
theorem Ayj:Gw AP 73 (Cy [.l .group,.t .write] 0 Ba8 (fun _ _=>[]) A47):=Az fun a0 a1 hp=>AN (u:=9) (Au Byi.2 AF) (by kernel_rfl) hp
def A6p:=DM Ayj Byi
abbrev Cu:Type:=(List Ab)×(List AU)×Int×Int×Ao
def Aip:Cu→St
  |(a0,a1,a2,a3,a4)=>⟨132,1,[(0,.sl .group a0),(3,.own 0 0),(73,.sl .write a1),(74,.v (.int .i64 a2)),(75,.v (.int .i64 a3))],[(0,some (.box 29 [.v (.int .i64 a4.site),.v (.int .i64 a4.seq),.v (.int .i64 a4.stamp.n),.v (.int .i64 a4.stamp.site),.v (.int .i64 a4.vec.a),.v (.int .i64 a4.vec.b),.sl .write a4.writes]))]⟩
def RV:St→Option Cu
 |⟨132,1,[(0,.sl .group z0),(3,.own 0 0),(73,.sl .write z1),(74,.v (.int .i64 z2)),(75,.v (.int .i64 z3))],[(0,some (.box 29 [.v (.int .i64 z4),.v (.int .i64 z5),.v (.int .i64 z6),.v (.int .i64 z7),.v (.int .i64 z8),.v (.int .i64 z9),.sl .write iq]))]⟩=>some (z0,z1,z2,z3,⟨z4,z5,⟨z6,z7⟩,⟨z8,z9⟩,iq⟩)
 |_=>none
def Aio:Em:=⟨1,1,[0,3,73,74,75],[],[(0,0)],[0],[4],[0]⟩
def Ain:EQ:=⟨[],[(0,0)],[0,3,73,74,75],[0]⟩
def II (a3:Int):Int:=IntKind.i64.wrap (a3 - 1)
def IH (a0:List Ab) (a1:List AU) (a3:Int):Bool:=(a1.getD a3.toNat (Av TC.write)).1.toList==(ByteArray.mk #[]).toList||decide ((↑(a1.getD a3.toNat (Av TC.write)).1.size:Int) >32)||decide ((a1.getD a3.toNat (Av TC.write)).2 <0)||decide ((a1.getD a3.toNat (Av TC.write)).2≥(a0.length:Int))||decide ((↑(a1.getD a3.toNat (Av TC.write)).4.size:Int) >64)||(a1.getD a3.toNat (Av TC.write)).3&&!(a1.getD a3.toNat (Av TC.write)).4.toList==(ByteArray.mk #[]).toList
def Dw (a0:List Ab) (a1:List AU) (a2 a3:Int) (a4:Ao):Bool:=!!decide (a3 <a2)&&((IH a0 a1 a3)||decide (a3 >0)&&!H1 (K9 (a4.5.getD (II a3).toNat (Av TC.write))) (K9 (a1.getD a3.toNat (Av TC.write))))
def Acn (a0:List Ab) (a1:List AU) (a2 a3:Int) (a4:Ao):Bool:=!!decide (a3 <a2)&&!(Dw a0 a1 a2 a3 a4)
def PW (a0:List Ab) (a1:List AU) (a3:Int):Int:=bif(IH a0 a1 a3) then 120 else 120
def IL (x:Cu):Cu:=(x.1,x.2.1,x.2.2.1,IntKind.i64.wrap (x.2.2.2.1+1),x.2.2.2.2)
def IK (x:Cu):El:=some (Acn x.1 x.2.1 x.2.2.1 x.2.2.2.1 x.2.2.2.2)
def QK:Cu→List Prop
  |(a0,a1,a2,a3,a4)=>[((!!decide (a3 <a2))=true→0≤a3∧a3 <(a1.length:Int)),((!!decide (a3 <a2))=true→(!(IH a0 a1 a3))=true→decide (a3 >0)=true→0≤(II a3)∧(II a3) <(a4.5.length:Int))]
abbrev NC:Cu→List Prop:=QK
def Z7:Cu→BD
  |(a0,a1,a2,a3,a4)=>[(some 0,some (!decide (a3 <a2)),⟨132,1,[(4,.dead)],[(0,some (.box 29 [.v (.int .i64 a4.1),.v (.int .i64 a4.2),.v (.int .i64 a4.3.1),.v (.int .i64 a4.3.2),.v (.int .i64 a4.4.1),.v (.int .i64 a4.4.2),.sl .write a4.5]))]⟩),(none,some (Dw a0 a1 a2 a3 a4),⟨132,2,[(4,.v (.int .i64 (PW a0 a1 a3)))],[(0,some (.box 29 [.v (.int .i64 a4.1),.v (.int .i64 a4.2),.v (.int .i64 a4.3.1),.v (.int .i64 a4.3.2),.v (.int .i64 a4.4.1),.v (.int .i64 a4.4.2),.sl .write a4.5]))]⟩)]
def IJ (x:Cu):Nat:=(x.2.2.1 - x.2.2.2.1).toNat
def QL (x:Cu):Cu:=Bh IL IK (IJ x) x
def Aco:=Jt (Co A6p.1 L0) (Aw AP 28 0) Aio Ain RV IJ IL IK NC Z7
def Ud:=V8 0 (g:=Aco) (BX (T:=Aip) (psA:=QK) A6p.2 AF (u:=9) (by kernel_rfl) (by decide) (fun⟨a0,a1,a2,a3,a4⟩=>by kernel_rfl) (fun _ h=>h) (fun s x h=>by unfold RV at h;split at h<;>first|(cases h;rfl)|cases h) (fun _=>A9 (n:=132) rfl) fun _ _=>rfl) ⟨L0,AF⟩
def Fb (a0:List Ab):Bool:=AI a0 !=0
def Ep (a1:Ao):Int:=IntKind.i64.wrap (a1.1 - 1)
def QJ (a0:List Ab) (a1:Ao):List Ab:=(QL (a0,a1.5,(a1.5.length:Int),0,a1)).1
def IT (a1:Ao):Bool:=decide ((a1.5.length:Int) <1)||decide ((a1.5.length:Int) >8)
def QI (a0:List Ab) (a1:Ao):List AU:=(QL (a0,a1.5,(a1.5.length:Int),0,a1)).2.1
def Xe (a0:List Ab) (a1:Ao):Int:=(QL (a0,a1.5,(a1.5.length:Int),0,a1)).2.2.1
def Xd (a0:List Ab) (a1:Ao):Ao:=(QL (a0,a1.5,(a1.5.length:Int),0,a1)).2.2.2.2
def QH (a0:List Ab) (a1:Ao):Int:=(QL (a0,a1.5,(a1.5.length:Int),0,a1)).2.2.2.1
def IS (a1:Ao):Bool:=a1.1 !=1&&a1.1 !=2||decide (a1.2 <1)||decide (a1.2 >1099511627776)||a1.3.2 !=a1.1||!Ga a1.3||!FX a1.4||(bif(Ep a1).toNat.beq 0 then a1.4.1 else a1.4.2) !=a1.2
def Tk (a0:List Ab) (a1:Ao):Int:=bif(Fb a0) then AI a0 else bif(IS a1) then 120 else bif(IT a1) then 120 else bif Dw (QJ a0 a1) (QI a0 a1) (Xe a0 a1) (QH a0 a1) (Xd a0 a1) then PW (QJ a0 a1) (QI a0 a1) (QH a0 a1) else 0
def Tl (a0:List Ab) (a1:Ao):A:=iV (Tk a0 a1)
def Xf (a0:List Ab) (a1:Ao):List Prop:=[((!(Fb a0))=true→(a1.1 !=1&&a1.1 !=2||decide (a1.2 <1)||decide (a1.2 >1099511627776)||a1.3.2 !=a1.1||!Ga a1.3||!FX a1.4)=false→0≤(Ep a1)∧(Ep a1) <2),((!(Fb a0))=true→(!(IS a1))=true→(!(IT a1))=true→A8 IL IK NC (IJ (a0,a1.5,(a1.5.length:Int),0,a1)) (a0,a1.5,(a1.5.length:Int),0,a1))]
theorem Ar9 (a0:List Ab) (a1:Ao):RL (Co A6p.1 Ud.1) 9 28 [.sl .group a0,AA .change a1] 0 []=some (1,Tl a0 a1,0,[],[((!(Fb a0))=true→(a1.1 !=1&&a1.1 !=2||decide (a1.2 <1)||decide (a1.2 >1099511627776)||a1.3.2 !=a1.1||!Ga a1.3||!FX a1.4)=false→0≤(Ep a1)∧(Ep a1) <2),((!(Fb a0))=true→(a1.1 !=1&&a1.1 !=2||decide (a1.2 <1)||decide (a1.2 >1099511627776)||a1.3.2 !=a1.1||!Ga a1.3||!FX a1.4)=false→(Ep a1).toNat <2),((!(Fb a0))=true→(!(IS a1))=true→(!(IT a1))=true→Aw AP 28 0=Aw AP 28 0),((!(Fb a0))=true→(!(IS a1))=true→(!(IT a1))=true→A8 IL IK NC (IJ (a0,a1.5,(a1.5.length:Int),0,a1)) (a0,a1.5,(a1.5.length:Int),0,a1))]):=by kernel_rfl
theorem Awz (a0:List Ab) (a1:Ao) (hp:∀p∈Xf a0 a1,p):An AP 28 [.sl .group a0,AA .change a1] 0 [] 1 (Tl a0 a1) 0 []:=by
 have n0:((!(Fb a0))=true→(a1.1 !=(1:Int)&&a1.1 !=(2:Int)||decide (a1.2 <(1:Int))||decide (a1.2 >(1099511627776:Int))||a1.3.2 !=a1.1||!Ga a1.3||!FX a1.4)=false→(0:Int)≤(Ep a1)∧(Ep a1) <(2:Int)):=N0 hp
 have n1:((!(Fb a0))=true→(a1.1 !=(1:Int)&&a1.1 !=(2:Int)||decide (a1.2 <(1:Int))||decide (a1.2 >(1099511627776:Int))||a1.3.2 !=a1.1||!Ga a1.3||!FX a1.4)=false→(Ep a1).toNat <(2:Nat)):=by intro h0 h1;have g:=n0 h0 h1;omega
 have n2:((!(Fb a0))=true→(!(IS a1))=true→(!(IT a1))=true→Aw AP 28 0=Aw AP 28 (0:Nat)):=by intros;rfl
 have n3:=N0 (N1 hp)
 exact AN (Au A6p.2 Ud.2) (Ar9 a0 a1) (Aa n0 (Aa n1 (Aa n2 (Aa n3 Ag))))
def Xh (a0:List Ab) (a1:Ao):A:=iV (WY a0 a1)
def Wc (_a0:List Ab) (a1:Ao):List Prop:=[AJ a1.writes.length]
theorem Btj {c:Ao} (h:c.site=1∨c.site=2):(bif(IntKind.i64.wrap (c.site - 1)).toNat.beq 0 then c.vec.a else c.vec.b)=bif c.site==1 then c.vec.a else c.vec.b:=by
 rcases h with h|h<;>rw[h]<;>rfl
theorem Bla {c:Ao} (h:c.site=1∨c.site=2):(0:Int)≤IntKind.i64.wrap (c.site - 1)∧IntKind.i64.wrap (c.site - 1) <(2:Int):=by
 rcases h with h|h<;>rw[h]<;>decide
theorem B2b {n:Int}:(n !=1&&n !=2)=false↔n=1∨n=2:=by
 constructor
 ·intro h
  rcases Decidable.em (n=1) with e|e
  ·exact .inl e
  ·rcases Decidable.em (n=2) with e2|e2
   ·exact .inr e2
   ·have h1:(n !=1)=true:=bne_iff_ne.2 e
    have h2:(n !=2)=true:=bne_iff_ne.2 e2
    rw[h1,h2] at h
    cases h
 ·rintro(rfl|rfl)<;>rfl
theorem Bjd (c:Ao):OA c=!(c.site !=1&&c.site !=2||decide (c.seq <1)||decide (c.seq >1099511627776)||c.stamp.site !=c.site||!HA c.stamp||!FK c.vec||(bif(IntKind.i64.wrap (c.site - 1)).toNat.beq 0 then c.vec.a else c.vec.b) !=c.seq):=by
 unfold OA
 cases h:c.site !=1&&c.site !=2 with
 |true=>
  rw[Bool.and_eq_true,bne_iff_ne,bne_iff_ne] at h
  rw[beq_eq_false_iff_ne.2 h.1,beq_eq_false_iff_ne.2 h.2]
  rfl
 | false=>
  have hs:=B2b.1 h
  have h1:(c.site==1||c.site==2)=true:=by rcases hs with e|e<;>rw[e]<;>rfl
  have h2:decide (c.seq <1)=!decide (1≤c.seq):=by
   rw[←decide_not];exact decide_eq_decide.2 (by omega)
  have h3:decide (c.seq >1099511627776)=!decide (c.seq≤1099511627776):=by
   rw[←decide_not];exact decide_eq_decide.2 (by omega)
  rw[h1,Btj hs,h2,h3]
  unfold bne
  cases decide (1≤c.seq)<;>cases decide (c.seq≤1099511627776)<;>cases c.stamp.site==c.site<;>cases HA c.stamp<;>cases FK c.vec<;>simp
theorem Byd (l:List Ab) (w:AU):(w.1.toList==(ByteArray.mk #[]).toList||decide ((w.1.size:Int) >(32:Int))||decide (w.2 <(0:Int))||decide (w.2≥(l.length:Int))||decide ((w.4.size:Int) >(64:Int))||w.3&&!w.4.toList==(ByteArray.mk #[]).toList)=!Aq8 l w:=by
 have e1:(w.1.toList==(ByteArray.mk #[]).toList)=(w.key.size==0):=VD _
 have e2:(w.4.toList==(ByteArray.mk #[]).toList)=(w.value.size==0):=VD _
 have h1:decide ((w.1.size:Int) >(32:Int))=!decide (w.key.size≤32):=by rw[←decide_not];exact decide_eq_decide.2 (by omega)
 have h2:decide (w.2 <(0:Int))=!decide (0≤w.group):=by rw[←decide_not];exact decide_eq_decide.2 (by omega)
 have h3:decide (w.2≥(l.length:Int))=!decide (w.group <(l.length:Int)):=by rw[←decide_not];exact decide_eq_decide.2 (by omega)
 have h4:decide ((w.4.size:Int) >(64:Int))=!decide (w.value.size≤64):=by rw[←decide_not];exact decide_eq_decide.2 (by omega)
 rw[e1,e2,h1,h2,h3,h4]
 unfold Aq8
 cases w.key.size==0<;>cases decide (w.key.size≤32)<;>cases decide (0≤w.group)<;>cases decide (w.group <(l.length:Int))<;>cases decide (w.value.size≤64)<;>cases w.gone<;>cases w.value.size==0<;>rfl
theorem Bph (a b:AU):H1 (K9 a) (K9 b)=W9 a b:=by
 unfold H1 K9 W9 ltS
 rw[←tlb]
theorem Bia (l:List Ab) (c:Ao) (i:Nat) (_hi:i≤9223372036854775807):Dw l c.writes (c.writes.length:Int) (i:Int) c=(decide (i <c.writes.length)&&RO l c.writes i):=by
 have e:Dw l c.writes (c.writes.length:Int) (i:Int) c=(decide (i <c.writes.length)&&(!Aq8 l (wN c.writes i)||decide ((i:Int) >0)&&!W9 (wN c.writes (IntKind.i64.wrap ((i:Int) - 1)).toNat) (wN c.writes i))):=by
  unfold Dw IH II
  rw[nn,T4,Int.toNat_natCast,Bph,Byd]
  rfl
 rw[e]
 unfold RO
 cases i with
 |zero=>rfl
 |succ j=>
  have h1:(IntKind.i64.wrap (((j+1:Nat):Int) - 1)).toNat=j+1 - 1:=by rw[i64_in (by omega)];omega
  have h2:decide (((j+1:Nat):Int) >0)=decide (0 <j+1):=decide_eq_decide.2 (by omega)
  rw[h1,h2]
theorem Xc (l:List Ab) (c:Ao) (hb:AJ c.writes.length):(∀p∈Xf l c,p)∧Tk l c=WY l c:=by
 unfold AJ at hb
 obtain⟨h1,k,hk,hx,_,_,aq⟩:=Tg (fun i=>((l,c.writes,(c.writes.length:Int),(i:Int),c):Cu)) c.writes.length (fun i=>RO l c.writes i) IL IK NC (IJ (l,c.writes,(c.writes.length:Int),0,c)) (l,c.writes,(c.writes.length:Int),0,c) rfl (by show c.writes.length≤((c.writes.length:Int) - 0).toNat;omega)
  (fun i hi _=>by
   show((!!decide ((i:Int) <(c.writes.length:Int)))&&!Dw l c.writes (c.writes.length:Int) (i:Int) c)=_
   rw[Bia l c i (by omega),nn,T4]
   cases decide (i <c.writes.length)<;>rfl)
  (fun i hi _=>by
   show(l,c.writes,(c.writes.length:Int),IntKind.i64.wrap ((i:Int)+1),c)=(l,c.writes,(c.writes.length:Int),((i+1:Nat):Int),c)
   rw[MO (by omega)])
  (fun i hi _=>by
   have au:(!!decide ((i:Int) <(c.writes.length:Int)))=true→(i:Int) <(c.writes.length:Int):=fun h=>by rw[nn] at h;exact of_decide_eq_true h
   refine Aa (fun h=>⟨by show(0:Int)≤(i:Int);omega,au h⟩) (Aa (fun h _ h3=>?_) Ag)
   have h4:(i:Int) >0:=of_decide_eq_true h3
   have h5:=au h
   show(0:Int)≤IntKind.i64.wrap ((i:Int) - 1)∧IntKind.i64.wrap ((i:Int) - 1) <(c.writes.length:Int)
   rw[i64_in (by omega)]
   omega)
 have hr:QL (l,c.writes,(c.writes.length:Int),0,c)=(l,c.writes,(c.writes.length:Int),(k:Int),c):=hx
 refine⟨Aa (fun _ h=>Bla (B2b.1 (by
  cases hs:c.site !=1&&c.site !=2 with
  |false=>rfl
  |true=>
   have h':(c.site !=(1:Int)&&c.site !=(2:Int)||decide (c.seq <(1:Int))||decide (c.seq >(1099511627776:Int))||c.stamp.site !=c.site||!Ga c.stamp||!FX c.vec)=false:=h
   rw[hs] at h'
   simp at h'))) (Aa (fun _ _ _=>h1) Ag),?_⟩
 unfold Tk WY
 show(bif AI l !=0 then AI l else _)=_
 congr 1
 have e0:IS c=!OA c:=by
  rw[Bjd,Bool.not_not]
  unfold IS Ep
  rw[TT,PC]
 have e5:IT c=!Apq c:=by
  unfold IT Apq
  have h2:decide ((c.writes.length:Int) <(1:Int))=!decide (1≤c.writes.length):=by rw[←decide_not];exact decide_eq_decide.2 (by omega)
  have h3:decide ((c.writes.length:Int) >(8:Int))=!decide (c.writes.length≤8):=by rw[←decide_not];exact decide_eq_decide.2 (by omega)
  have et:decide ((c.5.length:Int) <(1:Int))=!decide (1≤c.writes.length):=h2
  have ef:decide ((c.5.length:Int) >(8:Int))=!decide (c.writes.length≤8):=h3
  rw[et,ef]
  cases decide (1≤c.writes.length)<;>cases decide (c.writes.length≤8)<;>rfl
 rw[e0,e5]
 unfold QJ QI Xe QH Xd
 rw[hr]
 show(bif !OA c then 120 else bif !Apq c then 120 else bif Dw l c.writes (c.writes.length:Int) (k:Int) c then(bif _ then(120:Int) else 120) else 0)=_
 rw[Bia l c k (Nat.le_trans hk hb),aq]
 have hc:∀b:Bool,(bif b then(120:Int) else 120)=120:=fun b=>by cases b<;>rfl
 rw[hc]
 cases OA c<;>cases Apq c<;>cases Kz c.writes.length (fun i=>!RO l c.writes i)<;>rfl
theorem Ar8 (a0:List Ab) (a1:Ao) (hp:∀p∈Wc a0 a1,p):An AP 28 [.sl .group a0,AA .change a1] 0 [] 1 (Xh a0 a1) 0 []:=by
 have hb:AJ a1.writes.length:=hp _ (List.mem_cons_self ..)
 have h:=Awz a0 a1 (Xc a0 a1 hb).1
 unfold Tl at h
 rw[(Xc a0 a1 hb).2] at h
 exact h
theorem PF:Gw AP 28 (Cy [.l .group,.t .change] 0 Xh (fun _ _=>[]) Wc):=Az Ar8
def Bh0:=DM PF A6p
abbrev Du:Type:=(List Ab)×Int×Ao
def Ayb:Du→St
  |(a0,a1,a2)=>⟨107,1,[(0,.sl .group a0),(3,.own 0 0),(6,.v (.int .i64 a1))],[(0,some (.box 29 [.v (.int .i64 a2.site),.v (.int .i64 a2.seq),.v (.int .i64 a2.stamp.n),.v (.int .i64 a2.stamp.site),.v (.int .i64 a2.vec.a),.v (.int .i64 a2.vec.b),.sl .write a2.writes]))]⟩
def Yx:St→Option Du
 |⟨107,1,[(0,.sl .group z0),(3,.own 0 0),(6,.v (.int .i64 z1))],[(0,some (.box 29 [.v (.int .i64 z2),.v (.int .i64 z3),.v (.int .i64 z4),.v (.int .i64 z5),.v (.int .i64 z6),.v (.int .i64 z7),.sl .write z8]))]⟩=>some (z0,z1,⟨z2,z3,⟨z4,z5⟩,⟨z6,z7⟩,z8⟩)
 |_=>none
def Aya:Em:=⟨1,1,[0,3,6],[],[(0,0)],[0],[4],[0]⟩
def Ax9:EQ:=⟨[],[(0,0)],[0,3,6],[0]⟩
def LX (a1:Int):Int:=IntKind.i64.wrap (a1 - 1)
def Hg (a1:Int) (a2:Ao):Bool:=!!decide (a1 <(a2.5.length:Int))
def EV (a0:List Ab) (a1:Int) (a2:Ao):Bool:=(Hg a1 a2)&&(!Nv a0 (a2.5.getD a1.toNat (Av TC.write))||decide (a1 >0)&&!S4 (a2.5.getD (LX a1).toNat (Av TC.write)) (a2.5.getD a1.toNat (Av TC.write)))
def Aqj (a0:List Ab) (a1:Int) (a2:Ao):Bool:=(Hg a1 a2)&&!(EV a0 a1 a2)
def L3 (x:Du):Du:=(x.1,IntKind.i64.wrap (x.2.1+1),x.2.2)
def LZ (x:Du):El:=some (Aqj x.1 x.2.1 x.2.2)
def WD:Du→List Prop
  |(a0,a1,a2)=>[((Hg a1 a2)=true→0≤a1∧a1 <(a2.5.length:Int)),((Hg a1 a2)=true→decide (a1 >0)=true→(!Nv a0 (a2.5.getD a1.toNat (Av TC.write)))=false→0≤(LX a1)∧(LX a1) <(a2.5.length:Int)),((Hg a1 a2)=true→decide (a1 >0)=true→(!Nv a0 (a2.5.getD a1.toNat (Av TC.write)))=false→0≤a1∧a1 <(a2.5.length:Int))]
abbrev Rk:Du→List Prop:=WD
def Ak2:Du→BD
  |(a0,a1,a2)=>[(some 0,some (!decide (a1 <(a2.5.length:Int))),⟨107,1,[(4,.dead)],[(0,some (.box 29 [.v (.int .i64 a2.1),.v (.int .i64 a2.2),.v (.int .i64 a2.3.1),.v (.int .i64 a2.3.2),.v (.int .i64 a2.4.1),.v (.int .i64 a2.4.2),.sl .write a2.5]))]⟩),(none,some (EV a0 a1 a2),⟨107,1,[(4,.v (.int .i64 120))],[(0,some (.box 29 [.v (.int .i64 a2.1),.v (.int .i64 a2.2),.v (.int .i64 a2.3.1),.v (.int .i64 a2.3.2),.v (.int .i64 a2.4.1),.v (.int .i64 a2.4.2),.sl .write a2.5]))]⟩)]
def LY (x:Du):Nat:=((x.2.2.5.length:Int) - x.2.1).toNat
def Aql (x:Du):Du:=Bh L3 LZ (LY x) x
def Aqk:=Jt (Co Bh0.1 L0) (Aw AP 33 0) Aya Ax9 Yx LY L3 LZ Rk Ak2
def Abo:=V8 0 (g:=Aqk) (BX (T:=Ayb) (psA:=WD) Bh0.2 AF (u:=9) (by kernel_rfl) (by decide) (fun⟨a0,a1,a2⟩=>by kernel_rfl) (fun _ h=>h) (fun s x h=>by unfold Yx at h;split at h<;>first|(cases h;rfl)|cases h) (fun _=>A9 (n:=107) rfl) fun _ _=>rfl) ⟨L0,AF⟩
def H9 (a0:List Ab):Bool:=AI a0 !=0
def GZ (a1:Ao):Int:=IntKind.i64.wrap (a1.1 - 1)
def S2 (a0:List Ab) (a1:Ao):Du:=Aql (a0,0,a1)
def Ns (a1:Ao):Bool:=a1.1 !=1&&a1.1 !=2||decide (a1.2 <1)||decide (a1.2 >1099511627776)||!GA a1.3||a1.3.2 !=a1.1||!DI a1.4||(bif(GZ a1).toNat.beq 0 then a1.4.1 else a1.4.2) !=a1.2||decide ((a1.5.length:Int) <1)||decide ((a1.5.length:Int) >8)
def Aem (a0:List Ab) (a1:Ao):Int:=bif(H9 a0) then AI a0 else bif(Ns a1) then 120 else bif EV (S2 a0 a1).1 (S2 a0 a1).2.1 (S2 a0 a1).2.2 then 120 else 0
def Aen (a0:List Ab) (a1:Ao):A:=iV (Aem a0 a1)
def An5 (a0:List Ab) (a1:Ao):List Prop:=[(∀(g:Ab),g∈a0→AJ g.1.size),((!(H9 a0))=true→(a1.1 !=1&&a1.1 !=2||decide (a1.2 <1)||decide (a1.2 >1099511627776)||!GA a1.3||a1.3.2 !=a1.1||!DI a1.4)=false→0≤(GZ a1)∧(GZ a1) <2),((!(H9 a0))=true→(!(Ns a1))=true→A8 L3 LZ Rk (LY (a0,0,a1)) (a0,0,a1))]
theorem Ba2 (a0:List Ab) (a1:Ao):RL (Co Bh0.1 Abo.1) 9 33 [.sl .group a0,AA .change a1] 0 []=some (1,Aen a0 a1,0,[],[(∀(g:Ab),g∈a0→AJ g.1.size),((!(H9 a0))=true→(a1.1 !=1&&a1.1 !=2||decide (a1.2 <1)||decide (a1.2 >1099511627776)||!GA a1.3||a1.3.2 !=a1.1||!DI a1.4)=false→0≤(GZ a1)∧(GZ a1) <2),((!(H9 a0))=true→(a1.1 !=1&&a1.1 !=2||decide (a1.2 <1)||decide (a1.2 >1099511627776)||!GA a1.3||a1.3.2 !=a1.1||!DI a1.4)=false→(GZ a1).toNat <2),((!(H9 a0))=true→(!(Ns a1))=true→Aw AP 33 0=Aw AP 33 0),((!(H9 a0))=true→(!(Ns a1))=true→A8 L3 LZ Rk (LY (a0,0,a1)) (a0,0,a1))]):=by kernel_rfl
theorem Bge (a0:List Ab) (a1:Ao) (hp:∀p∈An5 a0 a1,p):An AP 33 [.sl .group a0,AA .change a1] 0 [] 1 (Aen a0 a1) 0 []:=by
 have n0:=N0 hp
 have n1:((!(H9 a0))=true→(a1.1 !=(1:Int)&&a1.1 !=(2:Int)||decide (a1.2 <(1:Int))||decide (a1.2 >(1099511627776:Int))||!GA a1.3||a1.3.2 !=a1.1||!DI a1.4)=false→(0:Int)≤(GZ a1)∧(GZ a1) <(2:Int)):=N0 (N1 hp)
 have n2:((!(H9 a0))=true→(a1.1 !=(1:Int)&&a1.1 !=(2:Int)||decide (a1.2 <(1:Int))||decide (a1.2 >(1099511627776:Int))||!GA a1.3||a1.3.2 !=a1.1||!DI a1.4)=false→(GZ a1).toNat <(2:Nat)):=by intro h0 h1;have g:=n1 h0 h1;omega
 have n3:((!(H9 a0))=true→(!(Ns a1))=true→Aw AP 33 0=Aw AP 33 (0:Nat)):=by intros;rfl
 have n4:=N0 (N1 (N1 hp))
 exact AN (Au Bh0.2 Abo.2) (Ba2 a0 a1) (Aa n0 (Aa n1 (Aa n2 (Aa n3 (Aa n4 Ag)))))
def An7 (a0:List Ab) (a1:Ao):A:=iV (WY a0 a1)
def Ahe (a0:List Ab) (a1:Ao):List Prop:=[AJ a1.writes.length,∀g∈a0,AJ g.1.size]
theorem Bcs (a b:AU):S4 a b=W9 a b:=by
 unfold S4 W9 ltS
 rw[tlb]
 cases h:a.key==b.key with
 |true=>
  obtain e:=eq_of_beq h
  have e':a.1=b.1:=e
  rw[e',U5]
  rfl
 |false=>
  show Op.bytesLess a.1.toList b.1.toList=(Op.bytesLess a.1.toList b.1.toList||false)
  rw[Bool.or_false]
theorem Bhw (l:List Ab) (w:AU):Nv l w=Aq8 l w:=by
 have e2:(w.4.toList==(ByteArray.mk #[]).toList)=(w.value.size==0):=VD _
 unfold Nv Aq8
 rw[e2]
 have h1:(Aw8 w.1==(0:Int))=(!(w.key.size==0)&&decide (w.key.size≤32)):=by
  unfold Aw8
  show((bif w.key.size==0 then(2:Int) else bif decide (32 <w.key.size) then 3 else 0)==0)=_
  have h2:decide (32 <w.key.size)=!decide (w.key.size≤32):=by rw[←decide_not];exact decide_eq_decide.2 (by omega)
  rw[h2]
  cases w.key.size==0<;>cases decide (w.key.size≤32)<;>rfl
 have h4:decide ((w.4.size:Int)≤(64:Int))=decide (w.value.size≤64):=decide_eq_decide.2 (by omega)
 have h3:decide (w.2≥(0:Int))=decide (0≤w.group):=rfl
 rw[h1,h4,h3]
theorem Bkn (l:List Ab) (c:Ao) (i:Nat) (_hi:i≤9223372036854775807):EV l (i:Int) c=(decide (i <c.writes.length)&&RO l c.writes i):=by
 have e:EV l (i:Int) c=(decide (i <c.writes.length)&&(!Aq8 l (wN c.writes i)||decide ((i:Int) >0)&&!W9 (wN c.writes (IntKind.i64.wrap ((i:Int) - 1)).toNat) (wN c.writes i))):=by
  unfold EV Hg LX
  rw[nn,T4,Int.toNat_natCast,Bcs,Bhw]
  rfl
 rw[e]
 unfold RO
 cases i with
 |zero=>rfl
 |succ j=>
  have h1:(IntKind.i64.wrap (((j+1:Nat):Int) - 1)).toNat=j+1 - 1:=by rw[i64_in (by omega)];omega
  have h2:decide (((j+1:Nat):Int) >0)=decide (0 <j+1):=decide_eq_decide.2 (by omega)
  rw[h1,h2]
theorem An4 (l:List Ab) (c:Ao) (hb:AJ c.writes.length) (hw:∀g∈l,AJ g.1.size):(∀p∈An5 l c,p)∧Aem l c=WY l c:=by
 unfold AJ at hb
 obtain⟨h1,k,hk,hx,_,_,aq⟩:=Tg (fun i=>((l,(i:Int),c):Du)) c.writes.length (fun i=>RO l c.writes i) L3 LZ Rk (LY (l,0,c)) (l,0,c) rfl (by show c.writes.length≤((c.writes.length:Int) - 0).toNat;omega)
  (fun i hi _=>by
   show((!!decide ((i:Int) <(c.writes.length:Int)))&&!EV l (i:Int) c)=_
   rw[Bkn l c i (by omega),nn,T4]
   cases decide (i <c.writes.length)<;>rfl)
  (fun i hi _=>by
   show(l,IntKind.i64.wrap ((i:Int)+1),c)=(l,((i+1:Nat):Int),c)
   rw[MO (by omega)])
  (fun i hi _=>by
   have au:(!!decide ((i:Int) <(c.writes.length:Int)))=true→(i:Int) <(c.writes.length:Int):=fun h=>by rw[nn] at h;exact of_decide_eq_true h
   refine Aa (fun h=>⟨by show(0:Int)≤(i:Int);omega,au h⟩) (Aa (fun h h3 _=>?_) (Aa (fun h _ _=>⟨by show(0:Int)≤(i:Int);omega,au h⟩) Ag))
   have h4:(i:Int) >0:=of_decide_eq_true h3
   have h5:=au h
   show(0:Int)≤IntKind.i64.wrap ((i:Int) - 1)∧IntKind.i64.wrap ((i:Int) - 1) <(c.writes.length:Int)
   rw[i64_in (by omega)]
   omega)
 have hr:S2 l c=(l,(k:Int),c):=hx
 refine⟨Aa hw (Aa (fun _ h=>Bla (B2b.1 (by
  cases hs:c.site !=1&&c.site !=2 with
  |false=>rfl
  |true=>
   have h':(c.site !=(1:Int)&&c.site !=(2:Int)||decide (c.seq <(1:Int))||decide (c.seq >(1099511627776:Int))||!GA c.stamp||c.stamp.site !=c.site||!DI c.vec)=false:=h
   rw[hs] at h'
   simp at h'))) (Aa (fun _ _=>h1) Ag)),?_⟩
 unfold Aem WY
 show(bif AI l !=0 then AI l else _)=_
 congr 1
 have e0:Ns c=(!OA c||!Apq c):=by
  rw[Bjd,Bool.not_not]
  unfold Ns GZ Apq
  rw[S0,Nl]
  have h2:decide ((c.5.length:Int) <(1:Int))=!decide (1≤c.writes.length):=by rw[←decide_not];exact decide_eq_decide.2 (by show(c.writes.length:Int) <1↔_;omega)
  have h3:decide ((c.5.length:Int) >(8:Int))=!decide (c.writes.length≤8):=by rw[←decide_not];exact decide_eq_decide.2 (by show(c.writes.length:Int) >8↔_;omega)
  rw[h2,h3]
  show(_||_||_||!HA c.stamp||c.stamp.site !=c.site||_||_||_||_)=(_||_||_||c.stamp.site !=c.site||!HA c.stamp||_||_||_)
  cases HA c.stamp<;>cases c.stamp.site !=c.site<;>cases decide (1≤c.writes.length)<;>cases decide (c.writes.length≤8)<;>simp
 rw[e0,hr]
 show(bif !OA c||!Apq c then 120 else bif EV l (k:Int) c then 120 else 0)=_
 rw[Bkn l c k (Nat.le_trans hk hb),aq]
 cases OA c<;>cases Apq c<;>cases Kz c.writes.length (fun i=>!RO l c.writes i)<;>rfl
theorem Ba1 (a0:List Ab) (a1:Ao) (hp:∀p∈Ahe a0 a1,p):An AP 33 [.sl .group a0,AA .change a1] 0 [] 1 (An7 a0 a1) 0 []:=by
 have hb:AJ a1.writes.length:=hp _ (List.mem_cons_self ..)
 have hw:∀g∈a0,AJ g.1.size:=hp _ (List.mem_cons_of_mem _ (List.mem_cons_self ..))
 have h:=Bge a0 a1 (An4 a0 a1 hb hw).1
 unfold Aen at h
 rw[(An4 a0 a1 hb hw).2] at h
 exact h
theorem Ahf:Gw AP 33 (Cy [.l .group,.t .change] 0 An7 (fun _ _=>[]) Ahe):=Az Ba1
abbrev DR:Type:=(List Ab)×(List AR)×Int
def Aym (x:DR):St:=⟨50,0,[(0,.sl .group x.1),(1,.sl .row x.2.1),(6,iV (x.2.2))],[]⟩
def YN:St→Option DR
 |⟨50,0,[(0,.sl .group z0),(1,.sl .row z1),(6,.v (.int .i64 z2))],[]⟩=>some (z0,z1,z2)
 |_=>none
def Ayl:Em:=⟨0,0,[0,1,6],[],[],[],[4,5],[]⟩
def Ayk:EQ:=⟨[],[],[0,1,6],[]⟩
def L8 (a2:Int):Int:=IntKind.i64.wrap (a2 - 1)
def EY (a0:List Ab) (a1:List AR) (a2:Int):Bool:=BO a0 (a1.getD a2.toNat (Av TC.row)) !=0
def D2 (a1:List AR) (a2:Int):Bool:=!!decide (a2 <(a1.length:Int))
def EX (a0:List Ab) (a1:List AR) (a2:Int):Bool:=(D2 a1 a2)&&((EY a0 a1 a2)||(QC (a1.getD a2.toNat (Av TC.row))||decide (a2 >0)&&!Op.bytesLess (a1.getD (L8 a2).toNat (Av TC.row)).1.toList (a1.getD a2.toNat (Av TC.row)).1.toList))
def Aqq (a0:List Ab) (a1:List AR) (a2:Int):Bool:=(D2 a1 a2)&&!(EX a0 a1 a2)
def Jo (a0:List Ab) (a1:List AR) (a2:Int):Int:=bif(EY a0 a1 a2) then BO a0 (a1.getD a2.toNat (Av TC.row)) else 100
def Ak5 (a0:List Ab) (a1:List AR) (a2:Int):Int:=BO a0 (a1.getD a2.toNat (Av TC.row))
def Mb (x:DR):DR:=(x.1,x.2.1,IntKind.i64.wrap (x.2.2+1))
def Ma (x:DR):El:=some (Aqq x.1 x.2.1 x.2.2)
def WG:DR→List Prop
  |(a0,a1,a2)=>[((D2 a1 a2)=true→0≤a2∧a2 <(a1.length:Int)),((D2 a1 a2)=true→∀(g:Ab),g∈a0→AJ g.1.size),((D2 a1 a2)=true→(!(EY a0 a1 a2))=true→0≤a2∧a2 <(a1.length:Int)),((D2 a1 a2)=true→(!(EY a0 a1 a2))=true→Af (a1.getD a2.toNat (Av TC.row)).2.length),((D2 a1 a2)=true→(!(EY a0 a1 a2))=true→decide (a2 >0)=true→QC (a1.getD a2.toNat (Av TC.row))=false→0≤(L8 a2)∧(L8 a2) <(a1.length:Int)),((D2 a1 a2)=true→(!(EY a0 a1 a2))=true→decide (a2 >0)=true→QC (a1.getD a2.toNat (Av TC.row))=false→0≤a2∧a2 <(a1.length:Int))]
abbrev Rl:DR→List Prop:=WG
def Ak6:DR→BD
  |(a0,a1,a2)=>[(some 0,some (!decide (a2 <(a1.length:Int))),⟨50,0,[(4,.dead),(5,.dead)],[]⟩),(none,some (EX a0 a1 a2),⟨50,0,[(4,.v (.int .i64 (Jo a0 a1 a2))),(5,.v (.int .i64 (Ak5 a0 a1 a2)))],[]⟩)]
def L9 (x:DR):Nat:=((x.2.1.length:Int) - x.2.2).toNat
def MQ (x:DR):DR:=Bh Mb Ma (L9 x) x
def Aqr:=Jt (Co Cn.1 L0) (Aw AP 36 0) Ayl Ayk YN L9 Mb Ma Rl Ak6
def Abs:=V8 0 (g:=Aqr) (BX (T:=Aym) (psA:=WG) Cn.2 AF (u:=9) (by kernel_rfl) (by decide) (fun⟨a0,a1,a2⟩=>by kernel_rfl) (fun _ h=>h) (fun s x h=>by unfold YN at h;split at h<;>first|(cases h;rfl)|cases h) (fun _=>A9 (n:=50) rfl) fun _ _=>rfl) ⟨L0,AF⟩
def YM (a0:List Ab):Bool:=AI a0 !=0
def YL (a0:List Ab) (a1:List AR):List Ab:=(MQ (a0,a1,0)).1
def YK (a0:List Ab) (a1:List AR):Int:=(MQ (a0,a1,0)).2.2
def YJ (a0:List Ab) (a1:List AR):List AR:=(MQ (a0,a1,0)).2.1
def Aes (a0:List Ab) (a1:List AR):Int:=bif(YM a0) then AI a0 else bif EX (YL a0 a1) (YJ a0 a1) (YK a0 a1) then Jo (YL a0 a1) (YJ a0 a1) (YK a0 a1) else 0
def Aet (a0:List Ab) (a1:List AR):A:=iV (Aes a0 a1)
def Aoh (a0:List Ab) (a1:List AR):List Prop:=[(∀(g:Ab),g∈a0→AJ g.1.size),((!(YM a0))=true→A8 Mb Ma Rl (L9 (a0,a1,0)) (a0,a1,0))]
theorem Bba (a0:List Ab) (a1:List AR):RL (Co Cn.1 Abs.1) 9 36 [.sl .group a0,AA .rows a1] 0 []=some (1,Aet a0 a1,0,[],[(∀(g:Ab),g∈a0→AJ g.1.size),((!(YM a0))=true→Aw AP 36 0=Aw AP 36 0),((!(YM a0))=true→A8 Mb Ma Rl (L9 (a0,a1,0)) (a0,a1,0))]):=by kernel_rfl
theorem Bgk (a0:List Ab) (a1:List AR) (hp:∀p∈Aoh a0 a1,p):An AP 36 [.sl .group a0,AA .rows a1] 0 [] 1 (Aet a0 a1) 0 []:=
  AN (Au Cn.2 Abs.2) (Bba a0 a1) (nT hp fun hp=>Aa (by intros;rfl) (nT hp fun _=>Ag))
def Aoj (a0:List Ab) (a1:List AR):A:=iV (Aaz a0 a1)
def Ahk (a0:List Ab) (a1:List AR):List Prop:=[AJ a1.length,∀g∈a0,AJ g.1.size]
theorem Bwc (a b:ByteArray):leS a b=!ltS b a:=by
 unfold leS
 cases h:ltS a b with
 |true=>
  cases g:ltS b a with
  |true=>exact absurd rfl (Br4 (A0m h g))
  |false=>rfl
 | false=>
  rw[Bool.false_or]
  cases g:a==b with
  |true=>
   obtain rfl:=eq_of_beq g
   rw[h]
   rfl
  |false=>
   rw[A0l h (by simpa using g)]
   rfl
theorem Bwb {a:ByteArray} (h:a.size≠0):leS a ⟨#[]⟩=false:=by
 unfold leS
 rw[Bool.or_eq_false_iff]
 constructor
 ·show Op.bytesLess a.toList (ByteArray.mk #[]).toList=false
  rw[show(ByteArray.mk #[]).toList=[] by decide+kernel]
  cases a.toList<;>rfl
 ·refine beq_eq_false_iff_ne.2 fun e=>h ?_
  rw[e]
  rfl
theorem Bko (l:List Ab) (rows:List AR) (i:Nat) (_hi:i≤9223372036854775807):EX l rows (i:Int)=(decide (i <rows.length)&&Aga l rows i !=0):=by
 have e:EX l rows (i:Int)=(decide (i <rows.length)&&(BO l (Qh rows i) !=0||(QC (Qh rows i)||decide ((i:Int) >0)&&!ltS (Qh rows (IntKind.i64.wrap ((i:Int) - 1)).toNat).key (Qh rows i).key))):=by
  unfold EX D2 EY L8
  rw[nn,T4,Int.toNat_natCast]
  rfl
 rw[e,Are]
 cases h:BO l (Qh rows i) !=0 with
 |true=>rfl
 | false=>
  have h0:BO l (Qh rows i)=0:=by simpa using h
  rw[Bool.false_or,Bool.false_or]
  cases i with
  |zero=>
   have h1:leS (Qh rows 0).key (Aa0 rows 0)=false:=Bwb (ZD h0).2.2.1
   rw[h1]
   rfl
  |succ j=>
   have h1:(IntKind.i64.wrap (((j+1:Nat):Int) - 1)).toNat=j:=by rw[i64_in (by omega)];omega
   have h2:decide (((j+1:Nat):Int) >0)=true:=decide_eq_true (by omega)
   rw[h1,h2,Bwc,Bool.true_and]
   rfl
theorem Aog (l:List Ab) (rows:List AR) (hb:AJ rows.length) (hw:∀g∈l,AJ g.1.size):(∀p∈Aoh l rows,p)∧Aes l rows=Aaz l rows:=by
 unfold AJ at hb
 obtain⟨h1,k,hk,hx,hs,hst,_⟩:=Tg (fun i=>((l,rows,(i:Int)):DR)) rows.length (fun i=>Aga l rows i !=0) Mb Ma Rl (L9 (l,rows,0)) (l,rows,0) rfl (by show rows.length≤((rows.length:Int) - 0).toNat;omega)
  (fun i hi _=>by
   show((!!decide ((i:Int) <(rows.length:Int)))&&!EX l rows (i:Int))=_
   rw[Bko l rows i (by omega),nn,T4]
   cases decide (i <rows.length)<;>rfl)
  (fun i hi _=>by
   show(l,rows,IntKind.i64.wrap ((i:Int)+1))=(l,rows,((i+1:Nat):Int))
   rw[MO (by omega)])
  (fun i hi _=>by
   have au:(!!decide ((i:Int) <(rows.length:Int)))=true→(i:Int) <(rows.length:Int):=fun h=>by rw[nn] at h;exact of_decide_eq_true h
   refine Aa (fun h=>⟨by show(0:Int)≤(i:Int);omega,au h⟩) (Aa (fun _=>hw) (Aa (fun h _=>⟨by show(0:Int)≤(i:Int);omega,au h⟩) (Aa (fun _ h2=>?_) (Aa (fun h _ h3 _=>?_) (Aa (fun h _ _ _=>⟨by show(0:Int)≤(i:Int);omega,au h⟩) Ag)))))
   ·have h3:BO l (rows.getD ((i:Int)).toNat (Av TC.row))=0:=by
     have h4:(!(BO l (rows.getD ((i:Int)).toNat (Av TC.row)) !=0))=true:=h2
     simpa using h4
    obtain⟨g1,g2,_⟩:=ZD h3
    have:=(SI g1).2
    show Af (rows.getD ((i:Int)).toNat (Av TC.row)).cells.length
    unfold Af
    omega
   ·have h4:(i:Int) >0:=of_decide_eq_true h3
    have h5:=au h
    show(0:Int)≤IntKind.i64.wrap ((i:Int) - 1)∧IntKind.i64.wrap ((i:Int) - 1) <(rows.length:Int)
    rw[i64_in (by omega)]
    omega)
 have hr:MQ (l,rows,0)=(l,rows,(k:Int)):=hx
 refine⟨Aa hw (Aa (fun _=>h1) Ag),?_⟩
 unfold Aes Aaz
 show(bif AI l !=0 then AI l else _)=_
 congr 1
 unfold YL YK YJ
 rw[hr]
 show(bif EX l rows (k:Int) then Jo l rows (k:Int) else 0)=_
 have xx:k≤9223372036854775807:=Nat.le_trans hk (by omega)
 rw[Bko l rows k xx]
 have h0:GL l rows k=0:=(As0 l rows k).2 fun i hi=>by simpa using hs i hi
 rcases Nat.lt_or_ge k rows.length with h|h
 ·have he:=hst h
  rw[decide_eq_true h,he]
  have e1:GL l rows (k+1)=Aga l rows k:=by
   show(bif GL l rows k !=0 then GL l rows k else Aga l rows k)=_
   rw[h0];rfl
  have ao:GL l rows (k+1)≠0:=by rw[e1];simpa using he
  rw[Xz ao rows.length h,e1]
  show Jo l rows (k:Int)=_
  unfold Jo EY
  rw[Int.toNat_natCast]
  rw[Are] at he
  unfold Aga
  show(bif BO l (Qh rows k) !=0 then BO l (Qh rows k) else 100)=_
  cases hg:BO l (Qh rows k) !=0 with
  |true=>rfl
  |false=>
   rw[hg,Bool.false_or] at he
   rw[he]
   rfl
 ·obtain rfl:k=rows.length:=by omega
  rw[decide_eq_false (Nat.lt_irrefl _),h0]
  rfl
theorem Ba9 (a0:List Ab) (a1:List AR) (hp:∀p∈Ahk a0 a1,p):An AP 36 [.sl .group a0,AA .rows a1] 0 [] 1 (Aoj a0 a1) 0 []:=by
 have hb:AJ a1.length:=hp _ (List.mem_cons_self ..)
 have hw:∀g∈a0,AJ g.1.size:=hp _ (List.mem_cons_of_mem _ (List.mem_cons_self ..))
 have h:=Bgk a0 a1 (Aog a0 a1 hb hw).1
 unfold Aet at h
 rw[(Aog a0 a1 hb hw).2] at h
 exact h
theorem Ahl:Gw AP 36 (Cy [.l .group,.t .rows] 0 Aoj (fun _ _=>[]) Ahk):=Az Ba9
def Bh2:=DM Ahl Cn
abbrev DX:Type:=(List AR)×(List AR)×Int
def A4w (x:DX):St:=⟨27,0,[(0,.sl .row x.1),(1,.sl .row x.2.1),(5,iV (x.2.2))],[]⟩
def Abj:St→Option DX
 |⟨27,0,[(0,.sl .row z0),(1,.sl .row z1),(5,.v (.int .i64 z2))],[]⟩=>some (z0,z1,z2)
 |_=>none
def A4v:Em:=⟨0,0,[0,1,5],[],[],[],[4],[]⟩
def A4u:EQ:=⟨[],[],[0,1,5],[]⟩
def HO (a0:List AR) (a2:Int):Bool:=!!decide (a2 <(a0.length:Int))
def EC (a0 a1:List AR) (a2:Int):Bool:=(HO a0 a2)&&!Aw2 (a0.getD a2.toNat (Av TC.row)) (a1.getD a2.toNat (Av TC.row))
def Avf (a0 a1:List AR) (a2:Int):Bool:=(HO a0 a2)&&!(EC a0 a1 a2)
def HR (x:DX):DX:=(x.1,x.2.1,IntKind.i64.wrap (x.2.2+1))
def HQ (x:DX):El:=some (Avf x.1 x.2.1 x.2.2)
def Yr:DX→List Prop
  |(a0,a1,a2)=>[((HO a0 a2)=true→0≤a2∧a2 <(a0.length:Int)),((HO a0 a2)=true→0≤a2∧a2 <(a1.length:Int)),((HO a0 a2)=true→Af (a0.getD a2.toNat (Av TC.row)).2.length)]
abbrev MK:DX→List Prop:=Yr
def Ap9 (x:DX):BD:=[(some 0,some (!decide (x.2.2 <(x.1.length:Int))),⟨27,0,[(4,.dead)],[]⟩),(none,some ((EC x.1 x.2.1 x.2.2)),⟨27,0,[(4,.v (.bool (false)))],[]⟩)]
def HP (x:DX):Nat:=((x.1.length:Int) - x.2.2).toNat
def Gi (x:DX):DX:=Bh HR HQ (HP x) x
def Avg:=Jt (Co Bh2.1 L0) (Aw AP 49 0) A4v A4u Abj HP HR HQ MK Ap9
def Ag9:=V8 0 (g:=Avg) (BX (T:=A4w) (psA:=Yr) Bh2.2 AF (u:=9) (by kernel_rfl) (by decide) (fun⟨a0,a1,a2⟩=>by kernel_rfl) (fun _ h=>h) (fun s x h=>by unfold Abj at h;split at h<;>first|(cases h;rfl)|cases h) (fun _=>A9 (n:=27) rfl) fun _ _=>rfl) ⟨L0,AF⟩
def Aec (a0 a1:List AR):DX:=Gi (a0,a1,0)
def M5 (a0 a1:List AR):Bool:=(a0.length:Int) !=(a1.length:Int)
def Akp (a0 a1:List AR):Bool:=bif(M5 a0 a1) then false else bif EC (Aec a0 a1).1 (Aec a0 a1).2.1 (Aec a0 a1).2.2 then false else true
def Akq (a0 a1:List AR):A:=.v (.bool (Akp a0 a1))
def Avh (a0 a1:List AR):List Prop:=[((!(M5 a0 a1))=true→A8 HR HQ MK (HP (a0,a1,0)) (a0,a1,0))]
theorem Bf3 (a0 a1:List AR):RL (Co Bh2.1 Ag9.1) 9 49 [AA .rows a0,AA .rows a1] 0 []=some (1,Akq a0 a1,0,[],[((!(M5 a0 a1))=true→Aw AP 49 0=Aw AP 49 0),((!(M5 a0 a1))=true→A8 HR HQ MK (HP (a0,a1,0)) (a0,a1,0))]):=by kernel_rfl
theorem Bnm (a0 a1:List AR) (hp:∀p∈Avh a0 a1,p):An AP 49 [AA .rows a0,AA .rows a1] 0 [] 1 (Akq a0 a1) 0 []:=
  AN (Au Bh2.2 Ag9.2) (Bf3 a0 a1) (Aa (by intros;rfl) (nT hp fun _=>Ag))
def A8b (a b:List AR):Bool:=a.length==b.length&&Kz a.length fun i=>Aw2 (a.getD i (Av TC.row)) (b.getD i (Av TC.row))
def Avi (a0 a1:List AR):A:=.v (.bool (A8b a0 a1))
def Anr (a0 _a1:List AR):List Prop:=[AJ a0.length,∀r∈a0,Af r.cells.length]
theorem Ave (a b:List AR) (hl:AJ a.length) (hb:∀r∈a,Af r.cells.length):(∀p∈Avh a b,p)∧Akp a b=A8b a b:=by
 unfold AJ at hl
 have ar:M5 a b=(a.length !=b.length):=by
  show((a.length:Int) !=(b.length:Int))=_
  rw[Bool.eq_iff_iff,bne_iff_ne,bne_iff_ne];omega
 have main:M5 a b=false→A8 HR HQ MK (HP (a,b,0)) (a,b,0)∧EC (Gi (a,b,0)).1 (Gi (a,b,0)).2.1 (Gi (a,b,0)).2.2=!Kz a.length fun i=>Aw2 (a.getD i (Av TC.row)) (b.getD i (Av TC.row)):=fun h0=>by
  rw[ar] at h0
  have hlen:a.length=b.length:=by simpa using h0
  have hf:∀i:Nat,EC a b (i:Int)=(decide (i <a.length)&&!Aw2 (a.getD i (Av TC.row)) (b.getD i (Av TC.row))):=fun i=>by
   unfold EC HO
   rw[nn,T4,Int.toNat_natCast]
  obtain⟨h1,k,hk,hx,_,_,aq⟩:=Tg (fun i=>((a,b,(i:Int)):DX)) a.length (fun i=>!Aw2 (a.getD i (Av TC.row)) (b.getD i (Av TC.row))) HR HQ MK (HP (a,b,0)) (a,b,0) rfl (by show a.length≤((a.length:Int) - 0).toNat;omega)
   (fun i _ _=>by
    show((!!decide ((i:Int) <(a.length:Int)))&&!EC a b (i:Int))=_
    rw[hf,nn,T4]
    cases decide (i <a.length)<;>rfl)
   (fun i hi _=>by
    show(a,b,IntKind.i64.wrap ((i:Int)+1))=(a,b,((i+1:Nat):Int))
    rw[MO (by omega)])
   (fun i hi _=>by
    have au:(!!decide ((i:Int) <(a.length:Int)))=true→(i:Int) <(a.length:Int):=fun h=>by rw[nn] at h;exact of_decide_eq_true h
    refine Aa (fun h=>⟨by show(0:Int)≤(i:Int);omega,au h⟩) (Aa (fun h=>⟨by show(0:Int)≤(i:Int);omega,by have:=au h;show(i:Int) <(b.length:Int);omega⟩) (Aa (fun h=>?_) Ag))
    have h5:=au h
    have e:((i:Int)).toNat=i:=Int.toNat_natCast i
    show Af (a.getD ((i:Int)).toNat (Av TC.row)).2.length
    rw[e]
    exact hb _ (getD_in a (Av TC.row) i (by omega)))
  refine⟨h1,?_⟩
  have hr:Gi (a,b,0)=(a,b,(k:Int)):=hx
  rw[hr]
  show EC a b (k:Int)=_
  rw[hf,aq]
  congr 1
  exact MT fun i _=>Bool.not_not _
 refine⟨Aa (fun h=>(main (by simpa using h)).1) Ag,?_⟩
 unfold Akp A8b
 cases h0:M5 a b with
 |true=>
  rw[ar] at h0
  have e:(a.length==b.length)=false:=by simpa using h0
  rw[e]
  rfl
 |false=>
  have h1:=h0
  rw[ar] at h1
  have e:(a.length==b.length)=true:=by simpa using h1
  rw[cond_false,e,Bool.true_and]
  have m:=(main h0).2
  show(!EC (Gi (a,b,0)).1 (Gi (a,b,0)).2.1 (Gi (a,b,0)).2.2)=_
  rw[m,Bool.not_not]
theorem Bf2 (a0 a1:List AR) (hp:∀p∈Anr a0 a1,p):An AP 49 [AA .rows a0,AA .rows a1] 0 [] 1 (Avi a0 a1) 0 []:=by
 have hb:AJ a0.length:=hp _ (List.mem_cons_self ..)
 have hc:∀r∈a0,Af r.cells.length:=hp _ (List.mem_cons_of_mem _ (List.mem_cons_self ..))
 have h:=Bnm a0 a1 (Ave a0 a1 hb hc).1
 unfold Akq at h
 rw[(Ave a0 a1 hb hc).2] at h
 exact h
theorem Az3 (a:List AR):A8b a a=true:=by
 unfold A8b
 rw[beq_self_eq_true,Bool.true_and,Hj]
 exact fun i _=>Bqq.2 rfl
theorem Bar:Gw AP 49 (Cy [.t .rows,.t .rows] 0 Avi (fun _ _=>[]) Anr):=Az Bf2
theorem Bps {l:List Ab} {c:Ao}:WY l c=0↔AI l=0∧OA c=true∧Apq c=true∧∀i,i <c.writes.length→RO l c.writes i=false:=by
 unfold WY
 cases h:AI l !=0 with
 |true=>
  rw[cond_true]
  have h':AI l≠0:=by simpa using h
  exact⟨fun e=>absurd e h',fun e=>absurd e.1 h'⟩
 | false=>
  have h':AI l=0:=by simpa using h
  rw[cond_false]
  cases h1:OA c with
  |false=>exact⟨fun e=>(by cases e),fun e=>by cases e.2.1⟩
  | true=>
   cases h2:Apq c with
   |false=>exact⟨fun e=>(by cases e),fun e=>by cases e.2.2.1⟩
   | true=>
    rw[Bool.true_and,Bool.true_and]
    cases h3:Kz c.writes.length (fun i=>!RO l c.writes i) with
    |false=>
     refine⟨fun e=>(by cases e),fun e=>?_⟩
     have:Kz c.writes.length (fun i=>!RO l c.writes i)=true:=Hj.2 fun i hi=>by rw[e.2.2.2 i hi];rfl
     rw[this] at h3
     cases h3
    |true=>exact⟨fun _=>⟨h',rfl,rfl,fun i hi=>by simpa using Hj.1 h3 i hi⟩,fun _=>rfl⟩
theorem Bye {l:List Ab} {w:AU} (h:Aq8 l w=true):w.key.size≠0∧w.key.size≤32∧0≤w.group∧w.group <(l.length:Int)∧w.value.size≤64∧(w.gone=true→w.value.size=0):=by
 unfold Aq8 at h
 simp only[Bool.and_eq_true,Bool.not_eq_true',beq_eq_false_iff_ne,decide_eq_true_eq,Bool.or_eq_true,beq_iff_eq] at h
 obtain⟨⟨⟨⟨⟨h1,h2⟩,h3⟩,h4⟩,h5⟩,h6⟩:=h
 exact⟨h1,h2,h3,h4,h5,fun e=>by rcases h6 with h6|h6<;>first|exact h6|(rw[e] at h6;cases h6)⟩
theorem Bpk {l:List Ab} {ws:List AU} {i:Nat} (h:RO l ws i=false):Aq8 l (wN ws i)=true∧(0 <i→W9 (wN ws (i - 1)) (wN ws i)=true):=by
 unfold RO at h
 rw[Bool.or_eq_false_iff] at h
 refine⟨by simpa using h.1,fun hi=>?_⟩
 have:=h.2
 rw[decide_eq_true hi,Bool.true_and] at this
 simpa using this
theorem Bmo {c:Ao} (h:OA c=true):(c.site=1∨c.site=2)∧1≤c.seq∧c.seq≤1099511627776∧c.stamp.site=c.site∧HA c.stamp=true∧FK c.vec=true:=by
 unfold OA at h
 simp only[Bool.and_eq_true,Bool.or_eq_true,beq_iff_eq,decide_eq_true_eq] at h
 obtain⟨⟨⟨⟨⟨⟨h1,h2⟩,h3⟩,h4⟩,h5⟩,h6⟩,_⟩:=h
 exact⟨h1,h2,h3,h4,h5,h6⟩
theorem Bw5 {l:List Ab} {r:AR} (h:BO l r=0) (b:Ae):NJ (Q7 l r++b) l=0∧Un (Q7 l r++b) l=r.key∧Tr (Q7 l r++b) l=r.cells∧Qb (Q7 l r++b) l=((Q7 l r).length:Int):=by
 obtain⟨h1,h2,h3,h4,h5⟩:=ZD h
 have hp:Q7 l r=Ot r.key++RK l r.cells l.length:=by
  unfold Q7 Bev
  rw[h,A2w h2]
  rfl
 have hk:Bm (Q7 l r++b) 32=(r.key,((Ot r.key).length:Int),0):=by
  rw[hp,List.append_assoc]
  exact(rdT (m:=32) (by decide)).back r.key _ (by omega)
 obtain⟨g1,g2,g3⟩:=A8q h2 ((Bi8 h2).1 h5) (Ot r.key) b l.length (Nat.le_refl _)
 rw[←hp] at g1 g2 g3
 have kq:Uv (Q7 l r++b)=true:=by
  unfold Uv
  rw[hk]
  have:(r.key==⟨#[]⟩)=false:=by
   rw[beq_eq_false_iff_ne]
   intro e
   rw[e] at h3
   exact h3 rfl
  simp[this]
 have hE:NJ (Q7 l r++b) l=0:=by
  unfold NJ
  rw[h1,kq,hk]
  have:Kz l.length (fun i=>!On (Q7 l r++b) l ((Ot r.key).length:Int) i)=true:=Hj.2 fun i hi=>by rw[g3 i hi];rfl
  rw[this]
  rfl
 refine⟨hE,?_,?_,?_⟩
 ·unfold Un;rw[hE,hk];rfl
 ·unfold Tr
  rw[hE,hk,g2,List.take_of_length_le (by rw[h2];exact Nat.le_refl _)]
  rfl
 ·unfold Qb
  rw[hE,hk,g1,hp]
  rfl
def A0x (w:AU):Ae:=Ot w.key++FO w.group++bif w.gone then FO 1 else FO 0++Ot w.value
def Bjc (c:Ao):Ae:=FO c.site++FO c.seq++X8 c.stamp++Nz c.vec++FO (c.writes.length:Int)
def Bki (l:List Ab) (c:Ao):Ae:=bif WY l c==0 then Bjc c++c.writes.flatMap A0x else[]
theorem Bpt {l:List Ab} {c:Ao} (h:WY l c=0):c.writes.length≤8∧∀w∈c.writes,Aq8 l w=true:=by
 obtain⟨_,_,h3,h4⟩:=Bps.1 h
 unfold Apq at h3
 rw[Bool.and_eq_true,decide_eq_true_eq,decide_eq_true_eq] at h3
 refine⟨h3.2,fun w hw=>?_⟩
 obtain⟨i,hi,rfl⟩:=List.mem_iff_getElem.1 hw
 have:=(Bpk (h4 i hi)).1
 unfold wN at this
 rwa[List.getD_eq_getElem?_getD,List.getElem?_eq_getElem hi] at this
def T8 {α:Type} (q:α→α→Bool) (d:α) (a b:List α):Bool:=a.length==b.length&&Kz a.length fun i=>q (a.getD i d) (b.getD i d)
theorem Ng {α:Type} {q:α→α→Bool} (h:∀x,q x x=true) (d:α) (a:List α):T8 q d a a=true:=by
 unfold T8
 rw[beq_self_eq_true,Bool.true_and,Hj]
 exact fun i _=>h _
theorem Bpi {α:Type} (q:α→α→Bool) (d:α) (b:List α):T8 q d [] b=(b.length==0):=by
 cases b<;>rfl
theorem B00 {α:Type} (a b:List α) (d:α) (q:α→α→Bool) {next:List α×List α×Int→List α×List α×Int} {goes:List α×List α×Int→El} {ps:List α×List α×Int→List Prop} {fuel:Nat} (f:List α→List α→Int→Bool) (hl:AJ a.length) (rp:a.length≤fuel) (hf:∀i:Nat,f a b (i:Int)=(decide (i <a.length)&&!q (a.getD i d) (b.getD i d))) (hg:∀i:Nat,BJ (goes (a,b,(i:Int)))=((!!decide ((i:Int) <(a.length:Int)))&&!f a b (i:Int))) (hn:∀i:Nat,next (a,b,(i:Int))=(a,b,IntKind.i64.wrap ((i:Int)+1))) (hp:∀i:Nat,i≤a.length→∀p∈ps (a,b,(i:Int)),p):
  A8 next goes ps fuel (a,b,0)∧f (Bh next goes fuel (a,b,0)).1 (Bh next goes fuel (a,b,0)).2.1 (Bh next goes fuel (a,b,0)).2.2=!Kz a.length fun i=>q (a.getD i d) (b.getD i d):=by
 unfold AJ at hl
 obtain⟨h1,k,hk,hx,_,_,aq⟩:=Tg (fun i=>(a,b,(i:Int))) a.length (fun i=>!q (a.getD i d) (b.getD i d)) next goes ps fuel (a,b,0) rfl rp
  (fun i _ _=>by
   rw[hg,hf,nn,T4]
   cases decide (i <a.length)<;>rfl)
  (fun i hi _=>by rw[hn,MO (by omega)])
  (fun i hi _=>hp i hi)
 refine⟨h1,?_⟩
 rw[hx]
 show f a b (k:Int)=_
 rw[hf,aq]
 congr 1
 exact MT fun i _=>Bool.not_not _
theorem Brp (a b:Nat):((a:Int) !=(b:Int))=!(a==b):=by
 rw[Bool.eq_iff_iff,bne_iff_ne,Bool.not_eq_true',beq_eq_false_iff_ne];omega
def eqI (a b:Int):Bool:=a==b
def Bd1 (a b:AU):Bool:=a.key.toList==b.key.toList&&(a.group==b.group&&(a.gone==b.gone&&a.value.toList==b.value.toList))
def Bvu (a b:Ae):Nat→Nat→Bool
 |_,0=>true
 |i,n+1=>((a.getD i 0).toNat:Int)==((b.getD i 0).toNat:Int)&&Bvu a b (i+1) n
def eqD (a b:Ae):Bool:=Bvu a b 0 32
theorem Az2 (a:Ae):∀n i,Bvu a a i n=true
 |0,_=>rfl
 |n+1,i=>by unfold Bvu;rw[beq_self_eq_true,Az2 a n];rfl
theorem Asu (a:Ae):eqD a a=true:=Az2 a 32 0
theorem Bmg (a:AU):Bd1 a a=true:=by unfold Bd1;simp only[beq_self_eq_true,Bool.and_self]
def Bd0 (a b:Ao):Bool:=a.site==b.site&&a.seq==b.seq&&(a.stamp.n==b.stamp.n&&a.stamp.site==b.stamp.site)&&(a.vec.a==b.vec.a&&a.vec.b==b.vec.b)&&T8 Bd1 (Av TC.write) a.writes b.writes
def eqM (a b:Bk):Bool:=a.kind==b.kind&&a.site==b.site&&Bd0 a.change b.change&&a.ack==b.ack&&a.own==b.own&&T8 eqI (Av TC.i64) a.path b.path&&T8 eqD (Av TC.digest) a.sums b.sums&&A8b a.rows b.rows&&(a.know.a==b.know.a&&a.know.b==b.know.b)&&a.back==b.back
theorem Az1 (a:Ao):Bd0 a a=true:=by unfold Bd0;simp only[beq_self_eq_true,Ng Bmg,Bool.and_self]
theorem Af8 (a:Int):eqI a a=true:=beq_self_eq_true a
theorem Bqo (a:Bk):eqM a a=true:=by unfold eqM;simp only[beq_self_eq_true,Az1,Ng Af8,Ng Asu,Az3,Bool.and_self]
def PZ (l:List Int):Bool:=Kz l.length (fun i=>decide (0≤l.getD i 0)&&decide (l.getD i 0≤15))&&decide (l.length≤2)
def Bg8 (n:Int):Bool:=decide (0≤n)&&decide (n≤1099511627776)
def zA (m:Bk):Bool:=m.ack==0&&m.own==0
def zL (m:Bk):Bool:=m.rows.length==0&&(m.know.a==0&&m.know.b==0)&&!m.back
def zC (c:Ao):Bool:=c.site==0&&c.seq==0&&(c.stamp.n==0&&c.stamp.site==0)&&(c.vec.a==0&&c.vec.b==0)&&c.writes.length==0
def Al5 (m:Bk):Bool:=(m.kind==3||m.kind==4||m.sums.length==0)&&(m.kind==2||zA m)&&(m.kind==3||m.kind==4||m.kind==5||m.path.length==0)&&(m.kind==5||zL m)&&(m.kind==1||zC m.change)
def A28 (l:List Ab) (m:Bk):Bool:=bif m.kind==1 then m.change.site==m.site&&WY l m.change==0 else bif m.kind==2 then Bg8 m.ack&&Bg8 m.own else bif m.kind==3 then(m.sums.length:Int)==1 else bif m.kind==4 then(m.sums.length:Int)==16&&decide ((m.path.length:Int) <2) else
 bif m.kind==5 then(m.path.length:Int)==2&&decide ((m.rows.length:Int)≤256)&&FK m.know&&Aaz l m.rows==0 else false
def okW (l:List Ab) (m:Bk):Bool:=Al5 m&&PZ m.path&&(m.site==1||m.site==2)&&A28 l m
def JF (l:List Ab) (m:Bk):Int:=bif AI l !=0 then AI l else bif okW l m then 0 else 140
def Bro (n:Int):ByteArray:=bif n==1 then⟨#[100,97,116,97]⟩ else bif n==2 then⟨#[97,99,107]⟩ else bif n==3 then⟨#[97,115,107]⟩ else bif n==4 then⟨#[116,101,108,108]⟩ else bif n==5 then⟨#[108,101,97,102]⟩ else⟨#[]⟩
theorem kinds (n:Int):((n==1)=true∧(n==2)=false∧(n==3)=false∧(n==4)=false∧(n==5)=false)∨((n==1)=false∧(n==2)=true∧(n==3)=false∧(n==4)=false∧(n==5)=false)∨
  ((n==1)=false∧(n==2)=false∧(n==3)=true∧(n==4)=false∧(n==5)=false)∨((n==1)=false∧(n==2)=false∧(n==3)=false∧(n==4)=true∧(n==5)=false)∨
  ((n==1)=false∧(n==2)=false∧(n==3)=false∧(n==4)=false∧(n==5)=true)∨((n==1)=false∧(n==2)=false∧(n==3)=false∧(n==4)=false∧(n==5)=false):=by
 simp only[beq_iff_eq,beq_eq_false_iff_ne]
 omega
def Bkk (l:List Int):Ae:=FO (l.length:Int)++l.flatMap FO
def B4c:=DM Xm Cg
def B4d:=DM Am2 B4c
def B4e:=DM PF B4d
def B4f:=DM Ahf B4e
abbrev B4g:=B4f
abbrev B4h:=B4g
abbrev B4i:=B4h
abbrev B4j:=B4i
abbrev B4k:=B4j
abbrev Cwb:=B4k
def B4l:=DM MP Cwb
def B4m:=DM Qe B4l
def B4n:=DM XO B4m
def B4o:=DM Ahl B4n
def A6t:=DM Bar B4o
abbrev DN:Type:=(List Int)×(List Int)×Int
def Axk (x:DN):St:=⟨26,0,[(0,.sl .i64 x.1),(1,.sl .i64 x.2.1),(5,iV (x.2.2))],[]⟩
def Ye:St→Option DN
 |⟨26,0,[(0,.sl .i64 z0),(1,.sl .i64 z1),(5,.v (.int .i64 z2))],[]⟩=>some (z0,z1,z2)
 |_=>none
def Axj:Em:=⟨0,0,[0,1,5],[],[],[],[4],[]⟩
def Axi:EQ:=⟨[],[],[0,1,5],[]⟩
def LR (a0:List Int) (a2:Int):Bool:=!!decide (a2 <(a0.length:Int))
def Ha (a0 a1:List Int) (a2:Int):Bool:=(LR a0 a2)&&a0.getD a2.toNat (Av TC.i64) !=a1.getD a2.toNat (Av TC.i64)
def Apy (a0 a1:List Int) (a2:Int):Bool:=(LR a0 a2)&&!(Ha a0 a1 a2)
def I4 (x:DN):DN:=(x.1,x.2.1,IntKind.i64.wrap (x.2.2+1))
def I3 (x:DN):El:=some (Apy x.1 x.2.1 x.2.2)
def Ws:DN→List Prop
  |(a0,a1,a2)=>[((LR a0 a2)=true→0≤a2∧a2 <(a0.length:Int)),((LR a0 a2)=true→0≤a2∧a2 <(a1.length:Int))]
abbrev NQ:DN→List Prop:=Ws
def Aj9 (x:DN):BD:=[(some 0,some (!decide (x.2.2 <(x.1.length:Int))),⟨26,0,[(4,.dead)],[]⟩),(none,some ((Ha x.1 x.2.1 x.2.2)),⟨26,0,[(4,.v (.bool (false)))],[]⟩)]
def I2 (x:DN):Nat:=((x.1.length:Int) - x.2.2).toNat
def Gy (x:DN):DN:=Bh I4 I3 (I2 x) x
def Apz:=Jt (Co A6t.1 L0) (Aw AP 47 0) Axj Axi Ye I2 I4 I3 NQ Aj9
def Abd:=V8 0 (g:=Apz) (BX (T:=Axk) (psA:=Ws) A6t.2 AF (u:=9) (by kernel_rfl) (by decide) (fun⟨a0,a1,a2⟩=>by kernel_rfl) (fun _ h=>h) (fun s x h=>by unfold Ye at h;split at h<;>first|(cases h;rfl)|cases h) (fun _=>A9 (n:=26) rfl) fun _ _=>rfl) ⟨L0,AF⟩
def Yd (a0 a1:List Int):DN:=Gy (a0,a1,0)
def SX (a0 a1:List Int):Bool:=(a0.length:Int) !=(a1.length:Int)
def Auu (a0 a1:List Int):Bool:=bif(SX a0 a1) then false else bif Ha (Yd a0 a1).1 (Yd a0 a1).2.1 (Yd a0 a1).2.2 then false else true
def Ad0 (a0 a1:List Int):A:=.v (.bool (Auu a0 a1))
def Amx (a0 a1:List Int):List Prop:=[((!(SX a0 a1))=true→A8 I4 I3 NQ (I2 (a0,a1,0)) (a0,a1,0))]
theorem A91 (a0 a1:List Int):RL (Co A6t.1 Abd.1) 9 47 [AA .ints a0,AA .ints a1] 0 []=some (1,Ad0 a0 a1,0,[],[((!(SX a0 a1))=true→Aw AP 47 0=Aw AP 47 0),((!(SX a0 a1))=true→A8 I4 I3 NQ (I2 (a0,a1,0)) (a0,a1,0))]):=by kernel_rfl
theorem Be0 (a0 a1:List Int) (hp:∀p∈Amx a0 a1,p):An AP 47 [AA .ints a0,AA .ints a1] 0 [] 1 (Ad0 a0 a1) 0 []:=
  AN (Au A6t.2 Abd.2) (A91 a0 a1) (Aa (by intros;rfl) (nT hp fun _=>Ag))
def Amy (a0 a1:List Int):A:=.v (.bool (T8 eqI (Av TC.i64) a0 a1))
def Agy (a0 _a1:List Int):List Prop:=[AJ a0.length]
theorem A90 (a b:List Int) (hl:AJ a.length):(∀p∈Amx a b,p)∧Auu a b=T8 eqI (Av TC.i64) a b:=by
 have ar:((a.length:Int) !=(b.length:Int))=!(a.length==b.length):=Brp _ _
 have main:(a.length==b.length)=true→_:=fun hlen=>B00 a b (Av TC.i64) eqI (next:=I4) (goes:=I3) (ps:=NQ) (fuel:=I2 (a,b,0)) Ha hl (by show a.length≤((a.length:Int) - 0).toNat;omega) (fun i=>by
   show((!!decide ((i:Int) <(a.length:Int)))&&!_)=_
   rw[nn,T4,Int.toNat_natCast]
   rfl) (fun i=>rfl) (fun i=>rfl) (fun i hi=>by
   have ku:a.length=b.length:=by simpa using hlen
   have au:(!!decide ((i:Int) <(a.length:Int)))=true→(i:Int) <(a.length:Int):=fun h=>by rw[nn] at h;exact of_decide_eq_true h
   exact Aa (fun h=>⟨by show(0:Int)≤(i:Int);omega,au h⟩) (Aa (fun h=>⟨by show(0:Int)≤(i:Int);omega,by have:=au h;show(i:Int) <(b.length:Int);omega⟩) Ag))
 refine⟨Aa (fun h=>(main (by
  have h':(!((a.length:Int) !=(b.length:Int)))=true:=h
  rwa[ar,Bool.not_not] at h')).1) Ag,?_⟩
 show(bif((a.length:Int) !=(b.length:Int)) then false else !Ha (Gy (a,b,0)).1 (Gy (a,b,0)).2.1 (Gy (a,b,0)).2.2)=_
 rw[ar]
 unfold T8
 cases h0:a.length==b.length with
 |false=>rfl
 |true=>
  have m:=(main h0).2
  rw[Bool.not_true,cond_false,Bool.true_and]
  have m':Ha (Gy (a,b,0)).1 (Gy (a,b,0)).2.1 (Gy (a,b,0)).2.2=_:=m
  rw[m',Bool.not_not]
theorem A9z (a0 a1:List Int) (hp:∀p∈Agy a0 a1,p):An AP 47 [AA .ints a0,AA .ints a1] 0 [] 1 (Amy a0 a1) 0 []:=by
 obtain⟨h1,h2⟩:=A90 a0 a1 (hp _ (List.mem_cons_self ..))
 have h:=Be0 a0 a1 h1
 unfold Ad0 at h
 rw[h2] at h
 exact h
theorem A4c:Gw AP 47 (Cy [.t .ints,.t .ints] 0 Amy (fun _ _=>[]) Agy):=Az A9z
def A6u:=DM A4c A6t
abbrev CO:Type:=(List AU)×(List AU)×Int
def Aqo (x:CO):St:=⟨26,0,[(0,.sl .write x.1),(1,.sl .write x.2.1),(5,iV (x.2.2))],[]⟩
def UJ:St→Option CO
 |⟨26,0,[(0,.sl .write z0),(1,.sl .write z1),(5,.v (.int .i64 z2))],[]⟩=>some (z0,z1,z2)
 |_=>none
def Aqn:Em:=⟨0,0,[0,1,5],[],[],[],[4],[]⟩
def Aqm:EQ:=⟨[],[],[0,1,5],[]⟩
def J0 (a0:List AU) (a2:Int):Bool:=!!decide (a2 <(a0.length:Int))
def FT (a0 a1:List AU) (a2:Int):Bool:=(J0 a0 a2)&&!((a0.getD a2.toNat (Av TC.write)).1.toList==(a1.getD a2.toNat (Av TC.write)).1.toList&&((a0.getD a2.toNat (Av TC.write)).2==(a1.getD a2.toNat (Av TC.write)).2&&((a0.getD a2.toNat (Av TC.write)).3==(a1.getD a2.toNat (Av TC.write)).3&&(a0.getD a2.toNat (Av TC.write)).4.toList==(a1.getD a2.toNat (Av TC.write)).4.toList)))
def Ahi (a0 a1:List AU) (a2:Int):Bool:=(J0 a0 a2)&&!(FT a0 a1 a2)
def Hu (x:CO):CO:=(x.1,x.2.1,IntKind.i64.wrap (x.2.2+1))
def Ht (x:CO):El:=some (Ahi x.1 x.2.1 x.2.2)
def S3:CO→List Prop
  |(a0,a1,a2)=>[((J0 a0 a2)=true→0≤a2∧a2 <(a0.length:Int)),((J0 a0 a2)=true→0≤a2∧a2 <(a1.length:Int))]
abbrev L4:CO→List Prop:=S3
def Aeo (x:CO):BD:=[(some 0,some (!decide (x.2.2 <(x.1.length:Int))),⟨26,0,[(4,.dead)],[]⟩),(none,some ((FT x.1 x.2.1 x.2.2)),⟨26,0,[(4,.v (.bool (false)))],[]⟩)]
def Hs (x:CO):Nat:=((x.1.length:Int) - x.2.2).toNat
def Fm (x:CO):CO:=Bh Hu Ht (Hs x) x
def Ahj:=Jt (Co A6u.1 L0) (Aw AP 92 0) Aqn Aqm UJ Hs Hu Ht L4 Aeo
def WE:=V8 0 (g:=Ahj) (BX (T:=Aqo) (psA:=S3) A6u.2 AF (u:=9) (by kernel_rfl) (by decide) (fun⟨a0,a1,a2⟩=>by kernel_rfl) (fun _ h=>h) (fun s x h=>by unfold UJ at h;split at h<;>first|(cases h;rfl)|cases h) (fun _=>A9 (n:=26) rfl) fun _ _=>rfl) ⟨L0,AF⟩
def TM (a0 a1:List AU):CO:=Fm (a0,a1,0)
def Pe (a0 a1:List AU):Bool:=(a0.length:Int) !=(a1.length:Int)
def Ahh (a0 a1:List AU):Bool:=bif(Pe a0 a1) then false else bif FT (TM a0 a1).1 (TM a0 a1).2.1 (TM a0 a1).2.2 then false else true
def VY (a0 a1:List AU):A:=.v (.bool (Ahh a0 a1))
def Abp (a0 a1:List AU):List Prop:=[((!(Pe a0 a1))=true→A8 Hu Ht L4 (Hs (a0,a1,0)) (a0,a1,0))]
theorem Aye (a0 a1:List AU):RL (Co A6u.1 WE.1) 9 92 [.sl .write a0,.sl .write a1] 0 []=some (1,VY a0 a1,0,[],[((!(Pe a0 a1))=true→Aw AP 92 0=Aw AP 92 0),((!(Pe a0 a1))=true→A8 Hu Ht L4 (Hs (a0,a1,0)) (a0,a1,0))]):=by kernel_rfl
theorem A45 (a0 a1:List AU) (hp:∀p∈Abp a0 a1,p):An AP 92 [.sl .write a0,.sl .write a1] 0 [] 1 (VY a0 a1) 0 []:=
  AN (Au A6u.2 WE.2) (Aye a0 a1) (Aa (by intros;rfl) (nT hp fun _=>Ag))
def Abq (a0 a1:List AU):A:=.v (.bool (T8 Bd1 (Av TC.write) a0 a1))
def Yz (a0 _a1:List AU):List Prop:=[AJ a0.length]
theorem Ayd (a b:List AU) (hl:AJ a.length):(∀p∈Abp a b,p)∧Ahh a b=T8 Bd1 (Av TC.write) a b:=by
 have ar:((a.length:Int) !=(b.length:Int))=!(a.length==b.length):=Brp _ _
 have main:(a.length==b.length)=true→_:=fun hlen=>B00 a b (Av TC.write) Bd1 (next:=Hu) (goes:=Ht) (ps:=L4) (fuel:=Hs (a,b,0)) FT hl (by show a.length≤((a.length:Int) - 0).toNat;omega) (fun i=>by
   show((!!decide ((i:Int) <(a.length:Int)))&&!_)=_
   rw[nn,T4,Int.toNat_natCast]
   rfl) (fun i=>rfl) (fun i=>rfl) (fun i hi=>by
   have ku:a.length=b.length:=by simpa using hlen
   have au:(!!decide ((i:Int) <(a.length:Int)))=true→(i:Int) <(a.length:Int):=fun h=>by rw[nn] at h;exact of_decide_eq_true h
   exact Aa (fun h=>⟨by show(0:Int)≤(i:Int);omega,au h⟩) (Aa (fun h=>⟨by show(0:Int)≤(i:Int);omega,by have:=au h;show(i:Int) <(b.length:Int);omega⟩) Ag))
 refine⟨Aa (fun h=>(main (by
  have h':(!((a.length:Int) !=(b.length:Int)))=true:=h
  rwa[ar,Bool.not_not] at h')).1) Ag,?_⟩
 show(bif((a.length:Int) !=(b.length:Int)) then false else !FT (Fm (a,b,0)).1 (Fm (a,b,0)).2.1 (Fm (a,b,0)).2.2)=_
 rw[ar]
 unfold T8
 cases h0:a.length==b.length with
 |false=>rfl
 |true=>
  have m:=(main h0).2
  rw[Bool.not_true,cond_false,Bool.true_and]
  have m':FT (Fm (a,b,0)).1 (Fm (a,b,0)).2.1 (Fm (a,b,0)).2.2=_:=m
  rw[m',Bool.not_not]
theorem Ayc (a0 a1:List AU) (hp:∀p∈Yz a0 a1,p):An AP 92 [.sl .write a0,.sl .write a1] 0 [] 1 (Abq a0 a1) 0 []:=by
 obtain⟨h1,h2⟩:=Ayd a0 a1 (hp _ (List.mem_cons_self ..))
 have h:=A45 a0 a1 h1
 unfold VY at h
 rw[h2] at h
 exact h
theorem Avp:Gw AP 92 (Cy [.l .write,.l .write] 0 Abq (fun _ _=>[]) Yz):=Az Ayc
def A6v:=DM Avp A6u
abbrev BW:Type:=(List Ae)×(List Ae)×Int
def Ahq (x:BW):St:=⟨26,0,[(0,.sl .digest x.1),(1,.sl .digest x.2.1),(5,iV (x.2.2))],[]⟩
def Rm:St→Option BW
 |⟨26,0,[(0,.sl .digest z0),(1,.sl .digest z1),(5,.v (.int .i64 z2))],[]⟩=>some (z0,z1,z2)
 |_=>none
def Ahp:Em:=⟨0,0,[0,1,5],[],[],[],[4],[]⟩
def Aho:EQ:=⟨[],[],[0,1,5],[]⟩
def Ia (a0:List Ae) (a2:Int):Bool:=!!decide (a2 <(a0.length:Int))
def E0 (a0 a1:List Ae) (a2:Int):Bool:=(Ia a0 a2)&&!((↑(List.getD (a0.getD a2.toNat (Av TC.digest)) 0 (0:UInt8)).toNat:Int)==(↑(List.getD (a1.getD a2.toNat (Av TC.digest)) 0 (0:UInt8)).toNat:Int)&&((↑(List.getD (a0.getD a2.toNat (Av TC.digest)) 1 (0:UInt8)).toNat:Int)==(↑(List.getD (a1.getD a2.toNat (Av TC.digest)) 1 (0:UInt8)).toNat:Int)&&((↑(List.getD (a0.getD a2.toNat (Av TC.digest)) 2 (0:UInt8)).toNat:Int)==(↑(List.getD (a1.getD a2.toNat (Av TC.digest)) 2 (0:UInt8)).toNat:Int)&&((↑(List.getD (a0.getD a2.toNat (Av TC.digest)) 3 (0:UInt8)).toNat:Int)==(↑(List.getD (a1.getD a2.toNat (Av TC.digest)) 3 (0:UInt8)).toNat:Int)&&((↑(List.getD (a0.getD a2.toNat (Av TC.digest)) 4 (0:UInt8)).toNat:Int)==(↑(List.getD (a1.getD a2.toNat (Av TC.digest)) 4 (0:UInt8)).toNat:Int)&&((↑(List.getD (a0.getD a2.toNat (Av TC.digest)) 5 (0:UInt8)).toNat:Int)==(↑(List.getD (a1.getD a2.toNat (Av TC.digest)) 5 (0:UInt8)).toNat:Int)&&((↑(List.getD (a0.getD a2.toNat (Av TC.digest)) 6 (0:UInt8)).toNat:Int)==(↑(List.getD (a1.getD a2.toNat (Av TC.digest)) 6 (0:UInt8)).toNat:Int)&&((↑(List.getD (a0.getD a2.toNat (Av TC.digest)) 7 (0:UInt8)).toNat:Int)==(↑(List.getD (a1.getD a2.toNat (Av TC.digest)) 7 (0:UInt8)).toNat:Int)&&((↑(List.getD (a0.getD a2.toNat (Av TC.digest)) 8 (0:UInt8)).toNat:Int)==(↑(List.getD (a1.getD a2.toNat (Av TC.digest)) 8 (0:UInt8)).toNat:Int)&&((↑(List.getD (a0.getD a2.toNat (Av TC.digest)) 9 (0:UInt8)).toNat:Int)==(↑(List.getD (a1.getD a2.toNat (Av TC.digest)) 9 (0:UInt8)).toNat:Int)&&((↑(List.getD (a0.getD a2.toNat (Av TC.digest)) 10 (0:UInt8)).toNat:Int)==(↑(List.getD (a1.getD a2.toNat (Av TC.digest)) 10 (0:UInt8)).toNat:Int)&&((↑(List.getD (a0.getD a2.toNat (Av TC.digest)) 11 (0:UInt8)).toNat:Int)==(↑(List.getD (a1.getD a2.toNat (Av TC.digest)) 11 (0:UInt8)).toNat:Int)&&((↑(List.getD (a0.getD a2.toNat (Av TC.digest)) 12 (0:UInt8)).toNat:Int)==(↑(List.getD (a1.getD a2.toNat (Av TC.digest)) 12 (0:UInt8)).toNat:Int)&&((↑(List.getD (a0.getD a2.toNat (Av TC.digest)) 13 (0:UInt8)).toNat:Int)==(↑(List.getD (a1.getD a2.toNat (Av TC.digest)) 13 (0:UInt8)).toNat:Int)&&((↑(List.getD (a0.getD a2.toNat (Av TC.digest)) 14 (0:UInt8)).toNat:Int)==(↑(List.getD (a1.getD a2.toNat (Av TC.digest)) 14 (0:UInt8)).toNat:Int)&&((↑(List.getD (a0.getD a2.toNat (Av TC.digest)) 15 (0:UInt8)).toNat:Int)==(↑(List.getD (a1.getD a2.toNat (Av TC.digest)) 15 (0:UInt8)).toNat:Int)&&((↑(List.getD (a0.getD a2.toNat (Av TC.digest)) 16 (0:UInt8)).toNat:Int)==(↑(List.getD (a1.getD a2.toNat (Av TC.digest)) 16 (0:UInt8)).toNat:Int)&&((↑(List.getD (a0.getD a2.toNat (Av TC.digest)) 17 (0:UInt8)).toNat:Int)==(↑(List.getD (a1.getD a2.toNat (Av TC.digest)) 17 (0:UInt8)).toNat:Int)&&((↑(List.getD (a0.getD a2.toNat (Av TC.digest)) 18 (0:UInt8)).toNat:Int)==(↑(List.getD (a1.getD a2.toNat (Av TC.digest)) 18 (0:UInt8)).toNat:Int)&&((↑(List.getD (a0.getD a2.toNat (Av TC.digest)) 19 (0:UInt8)).toNat:Int)==(↑(List.getD (a1.getD a2.toNat (Av TC.digest)) 19 (0:UInt8)).toNat:Int)&&((↑(List.getD (a0.getD a2.toNat (Av TC.digest)) 20 (0:UInt8)).toNat:Int)==(↑(List.getD (a1.getD a2.toNat (Av TC.digest)) 20 (0:UInt8)).toNat:Int)&&((↑(List.getD (a0.getD a2.toNat (Av TC.digest)) 21 (0:UInt8)).toNat:Int)==(↑(List.getD (a1.getD a2.toNat (Av TC.digest)) 21 (0:UInt8)).toNat:Int)&&((↑(List.getD (a0.getD a2.toNat (Av TC.digest)) 22 (0:UInt8)).toNat:Int)==(↑(List.getD (a1.getD a2.toNat (Av TC.digest)) 22 (0:UInt8)).toNat:Int)&&((↑(List.getD (a0.getD a2.toNat (Av TC.digest)) 23 (0:UInt8)).toNat:Int)==(↑(List.getD (a1.getD a2.toNat (Av TC.digest)) 23 (0:UInt8)).toNat:Int)&&((↑(List.getD (a0.getD a2.toNat (Av TC.digest)) 24 (0:UInt8)).toNat:Int)==(↑(List.getD (a1.getD a2.toNat (Av TC.digest)) 24 (0:UInt8)).toNat:Int)&&((↑(List.getD (a0.getD a2.toNat (Av TC.digest)) 25 (0:UInt8)).toNat:Int)==(↑(List.getD (a1.getD a2.toNat (Av TC.digest)) 25 (0:UInt8)).toNat:Int)&&((↑(List.getD (a0.getD a2.toNat (Av TC.digest)) 26 (0:UInt8)).toNat:Int)==(↑(List.getD (a1.getD a2.toNat (Av TC.digest)) 26 (0:UInt8)).toNat:Int)&&((↑(List.getD (a0.getD a2.toNat (Av TC.digest)) 27 (0:UInt8)).toNat:Int)==(↑(List.getD (a1.getD a2.toNat (Av TC.digest)) 27 (0:UInt8)).toNat:Int)&&((↑(List.getD (a0.getD a2.toNat (Av TC.digest)) 28 (0:UInt8)).toNat:Int)==(↑(List.getD (a1.getD a2.toNat (Av TC.digest)) 28 (0:UInt8)).toNat:Int)&&((↑(List.getD (a0.getD a2.toNat (Av TC.digest)) 29 (0:UInt8)).toNat:Int)==(↑(List.getD (a1.getD a2.toNat (Av TC.digest)) 29 (0:UInt8)).toNat:Int)&&((↑(List.getD (a0.getD a2.toNat (Av TC.digest)) 30 (0:UInt8)).toNat:Int)==(↑(List.getD (a1.getD a2.toNat (Av TC.digest)) 30 (0:UInt8)).toNat:Int)&&((↑(List.getD (a0.getD a2.toNat (Av TC.digest)) 31 (0:UInt8)).toNat:Int)==(↑(List.getD (a1.getD a2.toNat (Av TC.digest)) 31 (0:UInt8)).toNat:Int)&&true))))))))))))))))))))))))))))))))
def Aah (a0 a1:List Ae) (a2:Int):Bool:=(Ia a0 a2)&&!(E0 a0 a1 a2)
def Ie (x:BW):BW:=(x.1,x.2.1,IntKind.i64.wrap (x.2.2+1))
def Ic (x:BW):El:=some (Aah x.1 x.2.1 x.2.2)
def P4:BW→List Prop
  |(a0,a1,a2)=>[((Ia a0 a2)=true→0≤a2∧a2 <(a0.length:Int)),((Ia a0 a2)=true→0≤a2∧a2 <(a1.length:Int))]
abbrev Na:BW→List Prop:=P4
def YP (x:BW):BD:=[(some 0,some (!decide (x.2.2 <(x.1.length:Int))),⟨26,0,[(4,.dead)],[]⟩),(none,some ((E0 x.1 x.2.1 x.2.2)),⟨26,0,[(4,.v (.bool (false)))],[]⟩)]
def Ib (x:BW):Nat:=((x.1.length:Int) - x.2.2).toNat
def Ed (x:BW):BW:=Bh Ie Ic (Ib x) x
def Aai:=Jt (Co A6v.1 L0) (Aw AP 48 0) Ahp Aho Rm Ib Ie Ic Na YP
def S5:=V8 0 (g:=Aai) (BX (T:=Ahq) (psA:=P4) A6v.2 AF (u:=9) (by kernel_rfl) (by decide) (fun⟨a0,a1,a2⟩=>by kernel_rfl) (fun _ h=>h) (fun s x h=>by unfold Rm at h;split at h<;>first|(cases h;rfl)|cases h) (fun _=>A9 (n:=26) rfl) fun _ _=>rfl) ⟨L0,AF⟩
def PP (a0 a1:List Ae):Bool:=(a0.length:Int) !=(a1.length:Int)
def PO (a0 a1:List Ae):BW:=Ed (a0,a1,0)
def YO (a0 a1:List Ae):Bool:=bif(PP a0 a1) then false else bif E0 (PO a0 a1).1 (PO a0 a1).2.1 (PO a0 a1).2.2 then false else true
def Rn (a0 a1:List Ae):A:=.v (.bool (YO a0 a1))
def WI (a0 a1:List Ae):=(!(PP a0 a1))=true→A8 Ie Ic Na (Ib (a0,a1,0)) (a0,a1,0)
def WH (a0 a1:List Ae):List Prop:=[(WI a0 a1)]
theorem Aqu (a0 a1:List Ae):RL (Co A6v.1 S5.1) 9 48 [.sl .digest a0,.sl .digest a1] 0 []=some (1,Rn a0 a1,0,[],[((!(PP a0 a1))=true→Aw AP 48 0=Aw AP 48 0),(WI a0 a1)]):=by kernel_rfl
theorem Avr (a0 a1:List Ae) (hp:∀p∈WH a0 a1,p):An AP 48 [.sl .digest a0,.sl .digest a1] 0 [] 1 (Rn a0 a1) 0 []:=
  AN (Au A6v.2 S5.2) (Aqu a0 a1) (Aa (by intros;rfl) (nT hp fun _=>Ag))
def WJ (a0 a1:List Ae):A:=.v (.bool (T8 eqD (Av TC.digest) a0 a1))
def UO (a0 _a1:List Ae):List Prop:=[AJ a0.length]
theorem Aqt (a b:List Ae) (hl:AJ a.length):(∀p∈WH a b,p)∧YO a b=T8 eqD (Av TC.digest) a b:=by
 have ar:((a.length:Int) !=(b.length:Int))=!(a.length==b.length):=Brp _ _
 have main:(a.length==b.length)=true→_:=fun hlen=>B00 a b (Av TC.digest) eqD (next:=Ie) (goes:=Ic) (ps:=Na) (fuel:=Ib (a,b,0)) E0 hl (by show a.length≤((a.length:Int) - 0).toNat;omega) (fun i=>by
   show((!!decide ((i:Int) <(a.length:Int)))&&!_)=_
   rw[nn,T4,Int.toNat_natCast]
   rfl) (fun i=>rfl) (fun i=>rfl) (fun i hi=>by
   have ku:a.length=b.length:=by simpa using hlen
   have au:(!!decide ((i:Int) <(a.length:Int)))=true→(i:Int) <(a.length:Int):=fun h=>by rw[nn] at h;exact of_decide_eq_true h
   exact Aa (fun h=>⟨by show(0:Int)≤(i:Int);omega,au h⟩) (Aa (fun h=>⟨by show(0:Int)≤(i:Int);omega,by have:=au h;show(i:Int) <(b.length:Int);omega⟩) Ag))
 refine⟨Aa (fun h=>(main (by
  have h':(!((a.length:Int) !=(b.length:Int)))=true:=h
  rwa[ar,Bool.not_not] at h')).1) Ag,?_⟩
 show(bif((a.length:Int) !=(b.length:Int)) then false else !E0 (Ed (a,b,0)).1 (Ed (a,b,0)).2.1 (Ed (a,b,0)).2.2)=_
 rw[ar]
 unfold T8
 cases h0:a.length==b.length with
 |false=>rfl
 |true=>
  have m:=(main h0).2
  rw[Bool.not_true,cond_false,Bool.true_and]
  have m':E0 (Ed (a,b,0)).1 (Ed (a,b,0)).2.1 (Ed (a,b,0)).2.2=_:=m
  rw[m',Bool.not_not]
theorem Aqs (a0 a1:List Ae) (hp:∀p∈UO a0 a1,p):An AP 48 [.sl .digest a0,.sl .digest a1] 0 [] 1 (WJ a0 a1) 0 []:=by
 obtain⟨h1,h2⟩:=Aqt a0 a1 (hp _ (List.mem_cons_self ..))
 have h:=Avr a0 a1 h1
 unfold Rn at h
 rw[h2] at h
 exact h
theorem Ak7:Gw AP 48 (Cy [.l .digest,.l .digest] 0 WJ (fun _ _=>[]) UO):=Az Aqs
def A6w:=DM Ak7 A6v
abbrev C5:Type:=(List Int)×Int×Int
def Awq (x:C5):St:=⟨21,0,[(5,.sl .i64 x.1),(6,iV (x.2.1)),(7,iV (x.2.2))],[]⟩
def WV:St→Option C5
 |⟨21,0,[(5,.sl .i64 z0),(6,.v (.int .i64 z1)),(7,.v (.int .i64 z2))],[]⟩=>some (z0,z1,z2)
 |_=>none
def Awp:Em:=⟨0,0,[5,6,7],[],[],[],[2],[]⟩
def Awo:EQ:=⟨[],[],[5,6,7],[]⟩
def Fu (a0:List Int) (a1 a2:Int):Bool:=!!decide (a2 <a1)&&(decide (a0.getD a2.toNat (Av TC.i64) <0)||decide (a0.getD a2.toNat (Av TC.i64)≥16))
def Al1 (a0:List Int) (a1 a2:Int):Bool:=!!decide (a2 <a1)&&!(Fu a0 a1 a2)
def Ij (x:C5):C5:=(x.1,x.2.1,IntKind.i64.wrap (x.2.2+1))
def Ii (x:C5):El:=some (Al1 x.1 x.2.1 x.2.2)
def UZ (x:C5):List Prop:=[((!!decide (x.2.2 <x.2.1))=true→0≤x.2.2∧x.2.2 <(x.1.length:Int))]
abbrev MS:C5→List Prop:=UZ
def Aid (x:C5):BD:=[(some 0,some (!decide (x.2.2 <x.2.1)),⟨21,0,[(2,.dead)],[]⟩),(none,some ((Fu x.1 x.2.1 x.2.2)),⟨21,0,[(2,.v (.bool (false)))],[]⟩)]
def Ih (x:C5):Nat:=(x.2.1 - x.2.2).toNat
def Al3 (x:C5):C5:=Bh Ij Ii (Ih x) x
def Al2:=Jt (Co A6w.1 L0) (Aw AP 27 0) Awp Awo WV Ih Ij Ii MS Aid
def Zl:=V8 0 (g:=Al2) (BX (T:=Awq) (psA:=UZ) A6w.2 AF (u:=9) (by kernel_rfl) (by decide) (fun⟨a0,a1,a2⟩=>by kernel_rfl) (fun _ h=>h) (fun s x h=>by unfold WV at h;split at h<;>first|(cases h;rfl)|cases h) (fun _=>A9 (n:=21) rfl) fun _ _=>rfl) ⟨L0,AF⟩
def Qp (a0:List Int):C5:=Al3 (a0,(a0.length:Int),0)
def Zk (a0:List Int):Bool:=bif Fu (Qp a0).1 (Qp a0).2.1 (Qp a0).2.2 then false else decide ((a0.length:Int)≤2)
def Zm (a0:List Int):A:=.v (.bool (Zk a0))
def Aie (a0:List Int):List Prop:=[(A8 Ij Ii MS (Ih (a0,(a0.length:Int),0)) (a0,(a0.length:Int),0))]
theorem A6j (a0:List Int):RL (Co A6w.1 Zl.1) 9 27 [AA .ints a0] 0 []=some (1,Zm a0,0,[],[(Aw AP 27 0=Aw AP 27 0),(A8 Ij Ii MS (Ih (a0,(a0.length:Int),0)) (a0,(a0.length:Int),0))]):=by kernel_rfl
theorem Bch (a0:List Int) (hp:∀p∈Aie a0,p):An AP 27 [AA .ints a0] 0 [] 1 (Zm a0) 0 []:=
  AN (Au A6w.2 Zl.2) (A6j a0) (Aa rfl (nT hp fun _=>Ag))
def Aif (a0:List Int):A:=.v (.bool (PZ a0))
def Aca (a0:List Int):List Prop:=[AJ a0.length]
theorem B51 (n:Nat):decide ((n:Int)≤2)=decide (n≤2):=decide_eq_decide.2 (by omega)
theorem Bwn (n:Int):(decide (n <0)||decide (n≥16))=!(decide (0≤n)&&decide (n≤15)):=by
 rw[Bool.not_and,←decide_not,←decide_not]
 exact congr (congrArg _ (decide_eq_decide.2 (by omega))) (decide_eq_decide.2 (by omega))
theorem A6i (l:List Int) (hl:AJ l.length):(∀p∈Aie l,p)∧Zk l=PZ l:=by
 unfold AJ at hl
 have hf:∀i:Nat,Fu l (l.length:Int) (i:Int)=(decide (i <l.length)&&!(decide (0≤l.getD i 0)&&decide (l.getD i 0≤15))):=fun i=>by
  unfold Fu
  rw[nn,T4,Int.toNat_natCast,Bwn]
  rfl
 obtain⟨h1,k,hk,hx,_,_,hb⟩:=Tg (fun i=>((l,(l.length:Int),(i:Int)):C5)) l.length (fun i=>!(decide (0≤l.getD i 0)&&decide (l.getD i 0≤15))) Ij Ii MS (Ih (l,(l.length:Int),0)) (l,(l.length:Int),0) rfl (by show _≤((l.length:Int) - 0).toNat;omega)
  (fun i _ _=>by
   show((!!decide ((i:Int) <(l.length:Int)))&&!Fu l (l.length:Int) (i:Int))=_
   rw[hf,nn,T4]
   cases decide (i <l.length)<;>rfl)
  (fun i hi _=>by
   show(l,(l.length:Int),IntKind.i64.wrap ((i:Int)+1))=(l,(l.length:Int),((i+1:Nat):Int))
   rw[MO (by omega)])
  (fun i _ _=>Aa (fun h=>by
   have h':(!!decide ((i:Int) <(l.length:Int)))=true:=h
   rw[nn] at h'
   have:=of_decide_eq_true h'
   show(0:Int)≤(i:Int)∧(i:Int) <(l.length:Int)
   omega) Ag)
 refine⟨Aa h1 Ag,?_⟩
 have hr:Qp l=(l,(l.length:Int),(k:Int)):=hx
 unfold Zk PZ
 rw[hr]
 show(bif Fu l (l.length:Int) (k:Int) then false else _)=_
 rw[hf,hb,B51]
 simp only[Bool.not_not]
 cases Kz l.length fun i=>decide (0≤l.getD i 0)&&decide (l.getD i 0≤15)<;>rfl
theorem A6h (a0:List Int) (hp:∀p∈Aca a0,p):An AP 27 [AA .ints a0] 0 [] 1 (Aif a0) 0 []:=by
 obtain⟨h1,h2⟩:=A6i a0 (hp _ (List.mem_cons_self ..))
 have h:=Bch a0 h1
 unfold Zm at h
 rw[h2] at h
 exact h
theorem Aze:Gw AP 27 (Cy [.t .ints] 0 Aif (fun _=>[]) Aca):=Az A6h
def A6x:=DM Aze A6w
abbrev DS:Type:=(List Int)×Int
def Ays (x:DS):St:=⟨25,0,[(0,.sl .i64 x.1),(3,iV (x.2))],[]⟩
def YU:St→Option DS
 |⟨25,0,[(0,.sl .i64 z0),(3,.v (.int .i64 z1))],[]⟩=>some (z0,z1)
 |_=>none
def Ayr:Em:=⟨0,0,[0,3],[],[],[],[2],[]⟩
def Ayq:EQ:=⟨[],[],[0,3],[]⟩
def Jp (a0:List Int) (a1:Int):Bool:=!!decide (a1 <(a0.length:Int))
def FU (a0:List Int) (a1:Int):Bool:=(Jp a0 a1)&&(decide (a0.getD a1.toNat (Av TC.i64) <0)||decide (a0.getD a1.toNat (Av TC.i64) >15))
def Aqv (a0:List Int) (a1:Int):Bool:=(Jp a0 a1)&&!(FU a0 a1)
def Js (x:DS):DS:=(x.1,IntKind.i64.wrap (x.2+1))
def Jr (x:DS):El:=some (Aqv x.1 x.2)
def WK:DS→List Prop
  |(a0,a1)=>[((Jp a0 a1)=true→0≤a1∧a1 <(a0.length:Int)),((Jp a0 a1)=true→decide (a0.getD a1.toNat (Av TC.i64) <0)=false→0≤a1∧a1 <(a0.length:Int))]
abbrev N8:DS→List Prop:=WK
def Alb (x:DS):BD:=[(some 0,some (!decide (x.2 <(x.1.length:Int))),⟨25,0,[(2,.dead)],[]⟩),(none,some ((FU x.1 x.2)),⟨25,0,[(2,.v (.bool (false)))],[]⟩)]
def Jq (x:DS):Nat:=((x.1.length:Int) - x.2).toNat
def PQ (x:DS):DS:=Bh Js Jr (Jq x) x
def Aqw:=Jt (Co A6x.1 L0) (Aw AP 35 0) Ayr Ayq YU Jq Js Jr N8 Alb
def Abv:=V8 0 (g:=Aqw) (BX (T:=Ays) (psA:=WK) A6x.2 AF (u:=9) (by kernel_rfl) (by decide) (fun⟨a0,a1⟩=>by kernel_rfl) (fun _ h=>h) (fun s x h=>by unfold YU at h;split at h<;>first|(cases h;rfl)|cases h) (fun _=>A9 (n:=25) rfl) fun _ _=>rfl) ⟨L0,AF⟩
def Aex (a0:List Int):Bool:=bif FU (PQ (a0,0)).1 (PQ (a0,0)).2 then false else decide ((a0.length:Int)≤2)
def Aey (a0:List Int):A:=.v (.bool (Aex a0))
def Aom (a0:List Int):List Prop:=[(A8 Js Jr N8 (Jq (a0,0)) (a0,0))]
theorem Bbi (a0:List Int):RL (Co A6x.1 Abv.1) 9 35 [AA .ints a0] 0 []=some (1,Aey a0,0,[],[(Aw AP 35 0=Aw AP 35 0),(A8 Js Jr N8 (Jq (a0,0)) (a0,0))]):=by kernel_rfl
theorem Bgp (a0:List Int) (hp:∀p∈Aom a0,p):An AP 35 [AA .ints a0] 0 [] 1 (Aey a0) 0 []:=
  AN (Au A6x.2 Abv.2) (Bbi a0) (Aa rfl (nT hp fun _=>Ag))
def Aon (a0:List Int):A:=.v (.bool (PZ a0))
def Ahs (a0:List Int):List Prop:=[AJ a0.length]
theorem Bsc (n:Int):(decide (n <0)||decide (n >15))=!(decide (0≤n)&&decide (n≤15)):=by
 rw[Bool.not_and,←decide_not,←decide_not]
 exact congr (congrArg _ (decide_eq_decide.2 (by omega))) (decide_eq_decide.2 (by omega))
theorem Bbh (l:List Int) (hl:AJ l.length):(∀p∈Aom l,p)∧Aex l=PZ l:=by
 unfold AJ at hl
 have hf:∀i:Nat,FU l (i:Int)=(decide (i <l.length)&&!(decide (0≤l.getD i 0)&&decide (l.getD i 0≤15))):=fun i=>by
  unfold FU Jp
  rw[nn,T4,Int.toNat_natCast,Bsc]
  rfl
 obtain⟨h1,k,hk,hx,_,_,hb⟩:=Tg (fun i=>((l,(i:Int)):DS)) l.length (fun i=>!(decide (0≤l.getD i 0)&&decide (l.getD i 0≤15))) Js Jr N8 (Jq (l,0)) (l,0) rfl (by show _≤((l.length:Int) - 0).toNat;omega)
  (fun i _ _=>by
   show((!!decide ((i:Int) <(l.length:Int)))&&!FU l (i:Int))=_
   rw[hf,nn,T4]
   cases decide (i <l.length)<;>rfl)
  (fun i hi _=>by
   show(l,IntKind.i64.wrap ((i:Int)+1))=(l,((i+1:Nat):Int))
   rw[MO (by omega)])
  (fun i _ _=>Aa (fun h=>by
   have h':(!!decide ((i:Int) <(l.length:Int)))=true:=h
   rw[nn] at h'
   have:=of_decide_eq_true h'
   show(0:Int)≤(i:Int)∧(i:Int) <(l.length:Int)
   omega) (Aa (fun h _=>by
   have h':(!!decide ((i:Int) <(l.length:Int)))=true:=h
   rw[nn] at h'
   have:=of_decide_eq_true h'
   show(0:Int)≤(i:Int)∧(i:Int) <(l.length:Int)
   omega) Ag))
 refine⟨Aa h1 Ag,?_⟩
 have hr:PQ (l,0)=(l,(k:Int)):=hx
 unfold Aex PZ
 rw[hr]
 show(bif FU l (k:Int) then false else _)=_
 rw[hf,hb,B51]
 simp only[Bool.not_not]
 cases Kz l.length fun i=>decide (0≤l.getD i 0)&&decide (l.getD i 0≤15)<;>rfl
theorem Bbg (a0:List Int) (hp:∀p∈Ahs a0,p):An AP 35 [AA .ints a0] 0 [] 1 (Aon a0) 0 []:=by
 obtain⟨h1,h2⟩:=Bbh a0 (hp _ (List.mem_cons_self ..))
 have h:=Bgp a0 h1
 unfold Aey at h
 rw[h2] at h
 exact h
theorem A5b:Gw AP 35 (Cy [.t .ints] 0 Aon (fun _=>[]) Ahs):=Az Bbg
def Boy:=DM A5b A6x
def O4 (a0:Int):Bool:=decide (a0≥0)&&decide (a0≤1099511627776)
def Bhs (a0:Int):A:=.v (.bool (O4 a0))
def Bci (_a0:Int):List Prop:=[]
theorem A6k:Gw AP 29 (Cy [.t .i64] 0 Bhs (fun _=>[]) Bci):=Az fun a0 hp=>AN (u:=9) (Au Boy.2 AF) (by kernel_rfl) hp
def Boz:=DM A6k Boy
def ZS (a0:Int):Bool:=decide (a0≥0)&&decide (a0≤1099511627776)
def Bnq (a0:Int):A:=.v (.bool (ZS a0))
def Bgr (_a0:Int):List Prop:=[]
theorem Bbk:Gw AP 34 (Cy [.t .i64] 0 Bnq (fun _=>[]) Bgr):=Az fun a0 hp=>AN (u:=9) (Au Boz.2 AF) (by kernel_rfl) hp
def Bo0:=DM Bbk Boz
def Ft (a0:Bk):Bool:=!a0.1==2
def CM (a0:Bk):Bool:=!a0.1==1
def V6 (a0:Bk):Bool:=(a0.7.length:Int)==0
def Oj (a0:Bk):Bool:=a0.4==0&&a0.5==0
def J7 (a0:Bk):Bool:=(CM a0)&&((Ft a0)&&(!a0.1==3&&a0.1==4))
def J6 (a0:Bk):Bool:=a0.3.1==0&&a0.3.2==0&&(a0.3.3.1==0&&a0.3.3.2==0)&&(a0.3.4.1==0&&a0.3.4.2==0)&&(a0.3.5.length:Int)==0
def Qo (a0:Bk):Bool:=(CM a0)&&(!((CM a0)&&a0.1==2)&&(!((CM a0)&&((Ft a0)&&a0.1==3))&&(!(J7 a0)&&!((CM a0)&&((Ft a0)&&(!a0.1==3&&(!a0.1==4&&a0.1==5)))))))||!((CM a0)&&a0.1==2)&&(!((CM a0)&&((Ft a0)&&a0.1==3))&&(!(J7 a0)&&!((CM a0)&&((Ft a0)&&(!a0.1==3&&(!a0.1==4&&a0.1==5))))))
def Mt (a0:Bk):Bool:=(Qo a0)||!((CM a0)&&((Ft a0)&&a0.1==3))&&(!(J7 a0)&&!((CM a0)&&((Ft a0)&&(!a0.1==3&&(!a0.1==4&&a0.1==5)))))
def Ms (a0:Bk):Bool:=(Mt a0)||!((CM a0)&&((Ft a0)&&(!a0.1==3&&(!a0.1==4&&a0.1==5))))
def Zj (a0:Bk):Bool:=((((bif(Ms a0) then bif(Mt a0) then(V6 a0) else true else(V6 a0))&&bif(Ms a0) then bif(Mt a0) then bif(Qo a0) then(Oj a0) else true else bif(J7 a0) then(Oj a0) else(Oj a0) else(Oj a0))&&bif(Ms a0) then bif(Mt a0) then(a0.6.length:Int)==0 else true else true)&&bif(Ms a0) then(a0.8.length:Int)==0&&(a0.9.1==0&&a0.9.2==0)&&!a0.10 else true)&&bif(Ms a0) then bif(Mt a0) then bif(Qo a0) then bif(CM a0)&&(!((CM a0)&&a0.1==2)&&(!((CM a0)&&((Ft a0)&&a0.1==3))&&(!(J7 a0)&&!((CM a0)&&((Ft a0)&&(!a0.1==3&&(!a0.1==4&&a0.1==5))))))) then(J6 a0) else true else(J6 a0) else bif(J7 a0) then(J6 a0) else(J6 a0) else(J6 a0)
def Ape (a0:Bk):A:=.v (.bool (Zj a0))
def A6g (_a0:Bk):List Prop:=[]
theorem Bcg (a0:Bk) (hp:∀p∈A6g a0,p):An AP 26 [AA .msg a0] 0 [] 1 (Ape a0) 0 []:=AN (u:=9) (Au Bo0.2 AF) (by kernel_rfl) hp
def Aic (a0:Bk):A:=.v (.bool (Al5 a0))
def Ab9 (_a0:Bk):List Prop:=[]
theorem A0d (n:Nat):((n:Int)==(0:Int))=(n==0):=by
 rw[Bool.eq_iff_iff,beq_iff_eq,beq_iff_eq];omega
theorem A6f (m:Bk):Zj m=Al5 m:=by
 unfold Zj Ms Mt Qo J7 CM Ft Al5
 have e6:V6 m=(m.sums.length==0):=A0d _
 have e5:Oj m=zA m:=rfl
 have e3:J6 m=zC m.change:=by unfold J6 zC;rw[A0d]
 have e7:((m.6.length:Int)==0)=(m.path.length==0):=A0d _
 have e8:((m.8.length:Int)==0&&(m.9.1==0&&m.9.2==0)&&!m.10)=zL m:=by unfold zL;rw[A0d]
 rw[e6,e5,e3,e7,e8]
 rcases kinds m.1 with⟨e1,e2,e3,e4,e5⟩|⟨e1,e2,e3,e4,e5⟩|⟨e1,e2,e3,e4,e5⟩|⟨e1,e2,e3,e4,e5⟩|⟨e1,e2,e3,e4,e5⟩|⟨e1,e2,e3,e4,e5⟩<;>
  (have f1:(m.kind==1)=_:=e1;have f2:(m.kind==2)=_:=e2;have f3:(m.kind==3)=_:=e3;have f4:(m.kind==4)=_:=e4;have f5:(m.kind==5)=_:=e5;rw[f1,f2,f3,f4,f5];rfl)
theorem A6e (a0:Bk) (_hp:∀p∈Ab9 a0,p):An AP 26 [AA .msg a0] 0 [] 1 (Aic a0) 0 []:=by
 have h:=Bcg a0 Ag
 unfold Ape at h
 rw[A6f] at h
 exact h
theorem Azd:Gw AP 26 (Cy [.t .msg] 0 Aic (fun _=>[]) Ab9):=Az A6e
def Bo1:=DM Azd Bo0
def Qn (a0:Bk):Bool:=decide (a0.1 <0)||decide (a0.1≥6)
def A6c:List ByteArray:=[ByteArray.mk #[],ByteArray.mk #[(100:UInt8),(97:UInt8),(116:UInt8),(97:UInt8)],ByteArray.mk #[(97:UInt8),(99:UInt8),(107:UInt8)],ByteArray.mk #[(97:UInt8),(115:UInt8),(107:UInt8)],ByteArray.mk #[(116:UInt8),(101:UInt8),(108:UInt8),(108:UInt8)],ByteArray.mk #[(108:UInt8),(101:UInt8),(97:UInt8),(102:UInt8)]]
def Zi (a0:Bk):ByteArray:=bif(Qn a0) then ByteArray.mk #[] else(A6c).getD a0.1.toNat (Av TC.str)
def Apd (a0:Bk):A:=.v (.string (Zi a0))
def A6d (a0:Bk):List Prop:=[((!(Qn a0))=true→0≤a0.1∧a0.1 <6)]
theorem Bcf (a0:Bk) (hp:∀p∈A6d a0,p):An AP 11 [AA .msg a0] 0 [] 1 (Apd a0) 0 []:=AN (u:=9) (Au Bo1.2 AF) (by kernel_rfl) hp
def Aib (a0:Bk):A:=.v (.string (Bro a0.kind))
def Ab8 (_a0:Bk):List Prop:=[]
theorem Bea (n:Int):n=1∨n=2∨n=3∨n=4∨n=5∨n=0∨n <0∨6≤n:=by omega
theorem A6b (m:Bk):Zi m=Bro m.kind:=by
 unfold Zi Qn Bro
 have e0:m.1=m.kind:=rfl
 rw[e0]
 rcases Bea m.kind with h|h|h|h|h|h|h|h
 ·rw[h];rfl
 ·rw[h];rfl
 ·rw[h];rfl
 ·rw[h];rfl
 ·rw[h];rfl
 ·rw[h];rfl
 ·rw[decide_eq_true h,Bool.true_or,cond_true,beq_eq_false_iff_ne.2 (by omega),beq_eq_false_iff_ne.2 (by omega),beq_eq_false_iff_ne.2 (by omega),beq_eq_false_iff_ne.2 (by omega),beq_eq_false_iff_ne.2 (by omega)];rfl
 ·rw[decide_eq_true (show m.kind≥6 from h),Bool.or_true,cond_true,beq_eq_false_iff_ne.2 (by omega),beq_eq_false_iff_ne.2 (by omega),beq_eq_false_iff_ne.2 (by omega),beq_eq_false_iff_ne.2 (by omega),beq_eq_false_iff_ne.2 (by omega)];rfl
theorem A6a (a0:Bk) (_hp:∀p∈Ab8 a0,p):An AP 11 [AA .msg a0] 0 [] 1 (Aib a0) 0 []:=by
 have h:=Bcf a0 (Aa (fun h=>by
  unfold Qn at h
  rw[Bool.not_or,Bool.and_eq_true,Bool.not_eq_true',Bool.not_eq_true',decide_eq_false_iff_not,decide_eq_false_iff_not] at h
  omega) Ag)
 unfold Apd at h
 rw[A6b] at h
 exact h
theorem Azc:Gw AP 11 (Cy [.t .msg] 0 Aib (fun _=>[]) Ab8):=Az A6a
def B0k:=DM Azc Bo1
abbrev Bo2:=B0k
def An8 (a0 a1:Ao):Bool:=a0.1==a1.1&&a0.2==a1.2&&(a0.3.1==a1.3.1&&a0.3.2==a1.3.2)&&(a0.4.1==a1.4.1&&a0.4.2==a1.4.2)
def Bgf (a0 a1:Ao):Bool:=(An8 a0 a1)&&T8 Bd1 (Av TC.write) a0.5 a1.5
def Bgh (a0 a1:Ao):A:=.v (.bool (Bgf a0 a1))
def Ba4 (a0 a1:Ao):List Prop:=[((An8 a0 a1)=true→AJ a0.5.length)]
theorem Bgg (a0 a1:Ao) (hp:∀p∈Ba4 a0 a1,p):An AP 46 [AA .change a0,AA .change a1] 0 [] 1 (Bgh a0 a1) 0 []:=AN (u:=9) (Au Bo2.2 AF) (by kernel_rfl) hp
def An9 (a0 a1:Ao):A:=.v (.bool (Bd0 a0 a1))
def Ahg (a0 _a1:Ao):List Prop:=[AJ a0.writes.length]
theorem Ba3 (a0 a1:Ao) (hp:∀p∈Ahg a0 a1,p):An AP 46 [AA .change a0,AA .change a1] 0 [] 1 (An9 a0 a1) 0 []:=
 Bgg a0 a1 (Aa (fun _=>hp _ (List.mem_cons_self ..)) Ag)
theorem A44:Gw AP 46 (Cy [.t .change,.t .change] 0 An9 (fun _ _=>[]) Ahg):=Az Ba3
def Bo3:=DM A44 Bo2
def YR (a0 a1:Bk):Bool:=a0.1==a1.1&&a0.2==a1.2&&Bd0 a0.3 a1.3&&a0.4==a1.4&&a0.5==a1.5
def YQ (a0 a1:Bk):Bool:=(YR a0 a1)&&T8 eqI (Av TC.i64) a0.6 a1.6&&T8 eqD (Av TC.digest) a0.7 a1.7
def Bgm (a0 a1:Bk):Bool:=(YQ a0 a1)&&A8b a0.8 a1.8&&(a0.9.1==a1.9.1&&a0.9.2==a1.9.2)&&a0.10==a1.10
def Bgo (a0 a1:Bk):A:=.v (.bool (Bgm a0 a1))
def Bbf (a0 a1:Bk):List Prop:=[((a0.1==a1.1&&a0.2==a1.2)=true→AJ a0.3.5.length),((YR a0 a1)=true→AJ a0.6.length),(((YR a0 a1)&&T8 eqI (Av TC.i64) a0.6 a1.6)=true→AJ a0.7.length),((YQ a0 a1)=true→AJ a0.8.length),((YQ a0 a1)=true→∀(r:AR),r∈a0.8→Af r.2.length)]
theorem Bgn (a0 a1:Bk) (hp:∀p∈Bbf a0 a1,p):An AP 15 [AA .msg a0,AA .msg a1] 0 [] 1 (Bgo a0 a1) 0 []:=AN (u:=9) (Au Bo3.2 AF) (by kernel_rfl) hp
def Aol (a0 a1:Bk):A:=.v (.bool (eqM a0 a1))
def JL (m:Bk):Prop:=AJ m.change.writes.length∧AJ m.path.length∧AJ m.sums.length∧AJ m.rows.length∧∀r∈m.rows,Af r.cells.length
def Ahr (a0 _a1:Bk):List Prop:=[JL a0]
theorem Bbe (a0 a1:Bk) (hp:∀p∈Ahr a0 a1,p):An AP 15 [AA .msg a0,AA .msg a1] 0 [] 1 (Aol a0 a1) 0 []:=by
 obtain⟨h1,h2,h3,h4,h5⟩:=hp _ (List.mem_cons_self ..)
 exact Bgn a0 a1 (Aa (fun _=>h1) (Aa (fun _=>h2) (Aa (fun _=>h3) (Aa (fun _=>h4) (Aa (fun _=>h5) Ag)))))
theorem A5a:Gw AP 15 (Cy [.t .msg,.t .msg] 0 Aol (fun _ _=>[]) Ahr):=Az Bbe
def Bo4:=DM A5a Bo3
def Oi (a0:List Ab):Bool:=AI a0 !=0
def GP (a1:Bk):Bool:=Al5 a1&&PZ a1.6&&(a1.2==1||a1.2==2)
def Qm (a1:Bk):Bool:=(GP a1)&&a1.3.1==a1.2
def Ql (a1:Bk):Bool:=(GP a1)&&(a1.6.length:Int)==2&&decide ((a1.8.length:Int)≤256)&&FX a1.9
def Zh (a0:List Ab) (a1:Bk):Int:=bif(Oi a0) then AI a0 else bif !bif a1.1==1 then(Qm a1)&&WY a0 a1.3==0 else bif a1.1==2 then(GP a1)&&O4 a1.4&&O4 a1.5 else bif a1.1==3 then(GP a1)&&(a1.7.length:Int)==1 else bif a1.1==4 then(GP a1)&&(a1.7.length:Int)==16&&decide ((a1.6.length:Int) <2) else bif a1.1==5 then(Ql a1)&&Aaz a0 a1.8==0 else false then 140 else 0
def Apc (a0:List Ab) (a1:Bk):A:=iV (Zh a0 a1)
def A59 (a0:List Ab) (a1:Bk):List Prop:=[((!(Oi a0))=true→Al5 a1=true→AJ a1.6.length),((!(Oi a0))=true→(a1.1==1)=true→(Qm a1)=true→AJ a1.3.5.length),((!(Oi a0))=true→(a1.1==1)=false→(a1.1==2)=false→(a1.1==3)=false→(a1.1==4)=false→(a1.1==5)=true→(Ql a1)=true→AJ a1.8.length)]
theorem Bce (a0:List Ab) (a1:Bk) (hp:∀p∈A59 a0 a1,p):An AP 9 [.sl .group a0,AA .msg a1] 0 [] 1 (Apc a0 a1) 0 []:=AN (u:=9) (Au Bo4.2 AF) (by kernel_rfl) hp
def Aia (a0:List Ab) (a1:Bk):A:=iV (JF a0 a1)
def Ab6 (_a0:List Ab) (a1:Bk):List Prop:=[JL a1]
theorem A58 (l:List Ab) (m:Bk):Zh l m=JF l m:=by
 unfold Zh JF
 have e3:Oi l=(AI l !=0):=rfl
 have hv:FX m.9=FK m.know:=PC _
 have e:(bif m.1==1 then Qm m&&WY l m.3==0 else bif m.1==2 then GP m&&O4 m.4&&O4 m.5 else bif m.1==3 then GP m&&(m.7.length:Int)==1 else bif m.1==4 then GP m&&(m.7.length:Int)==16&&decide ((m.6.length:Int) <2) else bif m.1==5 then Ql m&&Aaz l m.8==0 else false)=okW l m:=by
  unfold Qm Ql okW A28 O4 Bg8
  have eb:GP m=(Al5 m&&PZ m.path&&(m.site==1||m.site==2)):=rfl
  rw[eb,hv]
  rcases kinds m.1 with⟨e1,e2,e3,e4,e5⟩|⟨e1,e2,e3,e4,e5⟩|⟨e1,e2,e3,e4,e5⟩|⟨e1,e2,e3,e4,e5⟩|⟨e1,e2,e3,e4,e5⟩|⟨e1,e2,e3,e4,e5⟩<;>
   rw[e1]
  ·simp only[cond_true,Bool.and_assoc]
  ·rw[e2];simp only[cond_true,cond_false,Bool.and_assoc]
  ·rw[e2,e3];simp only[cond_true,cond_false]
  ·rw[e2,e3,e4];simp only[cond_true,cond_false,Bool.and_assoc]
  ·rw[e2,e3,e4,e5];simp only[cond_true,cond_false,Bool.and_assoc]
  ·rw[e2,e3,e4,e5];simp only[cond_false,Bool.and_false]
 rw[e,e3]
 cases okW l m<;>rfl
theorem A57 (a0:List Ab) (a1:Bk) (hp:∀p∈Ab6 a0 a1,p):An AP 9 [.sl .group a0,AA .msg a1] 0 [] 1 (Aia a0 a1) 0 []:=by
 obtain⟨h1,h2,h3,h4,h5⟩:=hp _ (List.mem_cons_self ..)
 have h:=Bce a0 a1 (Aa (fun _ _=>h2) (Aa (fun _ _ _=>h1) (Aa (fun _ _ _ _ _ _ _=>h4) Ag)))
 unfold Apc at h
 rw[A58] at h
 exact h
theorem Ab7:Gw AP 9 (Cy [.l .group,.t .msg] 0 Aia (fun _ _=>[]) Ab6):=Az A57
def Bo5:=DM Ab7 Bo4
def G0 (a0:List Ab) (_a1:Bk):Bool:=AI a0 !=0
def EZ (_a0:List Ab) (a1:Bk):Bool:=a1.2==1||a1.2==2
def Pz (a0:List Ab) (a1:Bk):Bool:=!bif a1.1==1 then(EZ a0 a1)&&WY a0 a1.3==0&&a1.3.1==a1.2 else bif a1.1==2 then(EZ a0 a1)&&ZS a1.4&&ZS a1.5 else bif a1.1==3 then(EZ a0 a1)&&PZ a1.6&&(a1.7.length:Int)==1 else bif a1.1==4 then(EZ a0 a1)&&PZ a1.6&&decide ((a1.6.length:Int) <2)&&(a1.7.length:Int)==16 else bif a1.1==5 then(EZ a0 a1)&&PZ a1.6&&(a1.6.length:Int)==2&&decide ((a1.8.length:Int)≤256)&&Aaz a0 a1.8==0&&DI a1.9 else false
def DA (_a0:List Ab) (a1:Bk):Bk:=Bk.mk (bif a1.1==1 then a1.1 else bif a1.1==2 then a1.1 else bif a1.1==3 then a1.1 else bif a1.1==4 then a1.1 else bif a1.1==5 then a1.1 else a1.1) (bif a1.1==1 then a1.2 else bif a1.1==2 then a1.2 else bif a1.1==3 then a1.2 else bif a1.1==4 then a1.2 else bif a1.1==5 then a1.2 else a1.2) (Ao.mk (bif a1.1==1 then a1.3.1 else bif a1.1==2 then 0 else bif a1.1==3 then 0 else bif a1.1==4 then 0 else bif a1.1==5 then 0 else 0) (bif a1.1==1 then a1.3.2 else bif a1.1==2 then 0 else bif a1.1==3 then 0 else bif a1.1==4 then 0 else bif a1.1==5 then 0 else 0) (A1.mk (bif a1.1==1 then a1.3.3.1 else bif a1.1==2 then 0 else bif a1.1==3 then 0 else bif a1.1==4 then 0 else bif a1.1==5 then 0 else 0) (bif a1.1==1 then a1.3.3.2 else bif a1.1==2 then 0 else bif a1.1==3 then 0 else bif a1.1==4 then 0 else bif a1.1==5 then 0 else 0)) (BE.mk (bif a1.1==1 then a1.3.4.1 else bif a1.1==2 then 0 else bif a1.1==3 then 0 else bif a1.1==4 then 0 else bif a1.1==5 then 0 else 0) (bif a1.1==1 then a1.3.4.2 else bif a1.1==2 then 0 else bif a1.1==3 then 0 else bif a1.1==4 then 0 else bif a1.1==5 then 0 else 0)) (bif a1.1==1 then a1.3.5 else[])) (bif a1.1==1 then 0 else bif a1.1==2 then a1.4 else bif a1.1==3 then 0 else bif a1.1==4 then 0 else bif a1.1==5 then 0 else 0) (bif a1.1==1 then 0 else bif a1.1==2 then a1.5 else bif a1.1==3 then 0 else bif a1.1==4 then 0 else bif a1.1==5 then 0 else 0) (bif a1.1==1 then[] else bif a1.1==2 then[] else bif a1.1==3 then a1.6 else bif a1.1==4 then a1.6 else bif a1.1==5 then a1.6 else[]) (bif a1.1==1 then[] else bif a1.1==2 then[] else bif a1.1==3 then a1.7 else bif a1.1==4 then a1.7 else[]) (bif a1.1==1 then[] else bif a1.1==2 then[] else bif a1.1==3 then[] else bif a1.1==4 then[] else bif a1.1==5 then a1.8 else[]) (BE.mk (bif a1.1==1 then 0 else bif a1.1==2 then 0 else bif a1.1==3 then 0 else bif a1.1==4 then 0 else bif a1.1==5 then a1.9.1 else 0) (bif a1.1==1 then 0 else bif a1.1==2 then 0 else bif a1.1==3 then 0 else bif a1.1==4 then 0 else bif a1.1==5 then a1.9.2 else 0)) (bif a1.1==1 then false else bif a1.1==2 then false else bif a1.1==3 then false else bif a1.1==4 then false else bif a1.1==5 then a1.10 else false)
def Aeu (a0:List Ab) (a1:Bk):Int:=bif(G0 a0 a1) then AI a0 else bif(Pz a0 a1)||!eqM (DA a0 a1) a1 then 140 else 0
def Avq (a0:List Ab) (a1:Bk):A:=iV (Aeu a0 a1)
def Bbd (a0:List Ab) (a1:Bk):List Prop:=[(∀(g:Ab),g∈a0→AJ g.1.size),((!(G0 a0 a1))=true→(a1.1==1)=true→(EZ a0 a1)=true→AJ a1.3.5.length),((!(G0 a0 a1))=true→(a1.1==1)=true→(EZ a0 a1)=true→∀(g:Ab),g∈a0→AJ g.1.size),((!(G0 a0 a1))=true→(a1.1==1)=false→(a1.1==2)=false→(a1.1==3)=true→(EZ a0 a1)=true→AJ a1.6.length),((!(G0 a0 a1))=true→(a1.1==1)=false→(a1.1==2)=false→(a1.1==3)=false→(a1.1==4)=true→(EZ a0 a1)=true→AJ a1.6.length),((!(G0 a0 a1))=true→(a1.1==1)=false→(a1.1==2)=false→(a1.1==3)=false→(a1.1==4)=false→(a1.1==5)=true→(EZ a0 a1)=true→AJ a1.6.length),((!(G0 a0 a1))=true→(a1.1==1)=false→(a1.1==2)=false→(a1.1==3)=false→(a1.1==4)=false→(a1.1==5)=true→((EZ a0 a1)&&PZ a1.6&&(a1.6.length:Int)==2&&decide ((a1.8.length:Int)≤256))=true→AJ a1.8.length),((!(G0 a0 a1))=true→(a1.1==1)=false→(a1.1==2)=false→(a1.1==3)=false→(a1.1==4)=false→(a1.1==5)=true→((EZ a0 a1)&&PZ a1.6&&(a1.6.length:Int)==2&&decide ((a1.8.length:Int)≤256))=true→∀(g:Ab),g∈a0→AJ g.1.size),((!(G0 a0 a1))=true→(Pz a0 a1)=false→JL (DA a0 a1))]
theorem Bgl (a0:List Ab) (a1:Bk) (hp:∀p∈Bbd a0 a1,p):An AP 10 [.sl .group a0,AA .msg a1] 0 [] 1 (Avq a0 a1) 0 []:=AN (u:=9) (Au Bo5.2 AF) (by kernel_rfl) hp
def Aok (a0:List Ab) (a1:Bk):A:=iV (JF a0 a1)
def Ahm (a0:List Ab) (a1:Bk):List Prop:=[JL a1∧∀g∈a0,AJ g.1.size]
theorem U0 (n:Int):((0:Int)==n)=(n==0):=BEq.comm
theorem Af9 (b:List AR):A8b [] b=(b.length==0):=by cases b<;>rfl
theorem Zp {α:Type} (q:α→α→Bool) (d:α) (b:List α):T8 q d [] b=(b.length==0):=Bpi q d b
theorem Zz (b:Bool):(false==b)=!b:=by cases b<;>rfl
theorem Zx (c:Ao):Bd0 ⟨0,0,⟨0,0⟩,⟨0,0⟩,[]⟩ c=zC c:=by
 unfold Bd0 zC
 simp only[U0,Zp]
theorem Bj3 (l:List Int):(l.length==0)=((l.length==0)&&PZ l):=by
 cases l<;>rfl
theorem Bbc (l:List Ab) (m:Bk):(!((Pz l m)||!eqM (DA l m) m))=okW l m:=by
 have hv:DI m.9=FK m.know:=Nl _
 have hs:∀n:Int,(decide (n≥0)&&decide (n≤1099511627776))=Bg8 n:=fun _=>rfl
 unfold Pz okW A28 Al5 ZS EZ
 rw[hv,Bool.not_or,Bool.not_not,Bool.not_not]
 simp only[hs]
 rcases kinds m.1 with⟨e1,e2,e3,e4,e5⟩|⟨e1,e2,e3,e4,e5⟩|⟨e1,e2,e3,e4,e5⟩|⟨e1,e2,e3,e4,e5⟩|⟨e1,e2,e3,e4,e5⟩|⟨e1,e2,e3,e4,e5⟩
 ·have hk:DA l m=⟨m.kind,m.site,m.change,0,0,[],[],[],⟨0,0⟩,false⟩:=by unfold DA;simp only[e1,cond_true]
  rw[hk,e1,e2,e3,e4,e5,cond_true,cond_true]
  unfold eqM zA zL
  simp only[beq_self_eq_true,U0,Af9,Zp,Zz,Az1,Bool.true_and,Bool.false_or,Bool.true_or,Bool.and_true]
  rw[Bj3 m.path]
  ac_rfl
 ·have hk:DA l m=⟨m.kind,m.site,⟨0,0,⟨0,0⟩,⟨0,0⟩,[]⟩,m.ack,m.own,[],[],[],⟨0,0⟩,false⟩:=by unfold DA;simp only[e1,e2,cond_true,cond_false]
  rw[hk,e1,e2,e3,e4,e5,cond_false,cond_true,cond_false,cond_true]
  unfold eqM zL
  simp only[beq_self_eq_true,U0,Af9,Zp,Zz,Zx,Bool.true_and,Bool.false_or,Bool.true_or,Bool.and_true]
  rw[Bj3 m.path]
  ac_rfl
 ·have hk:DA l m=⟨m.kind,m.site,⟨0,0,⟨0,0⟩,⟨0,0⟩,[]⟩,0,0,m.path,m.sums,[],⟨0,0⟩,false⟩:=by unfold DA;simp only[e1,e2,e3,cond_true,cond_false]
  rw[hk,e1,e2,e3,e4,e5,cond_false,cond_false,cond_true,cond_false,cond_false,cond_true]
  unfold eqM zL zA
  simp only[beq_self_eq_true,U0,Af9,Ng Af8,Ng Asu,Zz,Zx,Bool.true_and,Bool.false_or,Bool.true_or,Bool.and_true]
  ac_rfl
 ·have hk:DA l m=⟨m.kind,m.site,⟨0,0,⟨0,0⟩,⟨0,0⟩,[]⟩,0,0,m.path,m.sums,[],⟨0,0⟩,false⟩:=by unfold DA;simp only[e1,e2,e3,e4,cond_true,cond_false]
  rw[hk,e1,e2,e3,e4,e5,cond_false,cond_false,cond_false,cond_true,cond_false,cond_false,cond_false,cond_true]
  unfold eqM zL zA
  simp only[beq_self_eq_true,U0,Af9,Ng Af8,Ng Asu,Zz,Zx,Bool.true_and,Bool.false_or,Bool.true_or,Bool.or_true,Bool.and_true]
  ac_rfl
 ·have hk:DA l m=⟨m.kind,m.site,⟨0,0,⟨0,0⟩,⟨0,0⟩,[]⟩,0,0,m.path,[],m.rows,m.know,m.back⟩:=by unfold DA;simp only[e1,e2,e3,e4,e5,cond_true,cond_false]
  rw[hk,e1,e2,e3,e4,e5,cond_false,cond_false,cond_false,cond_false,cond_true,cond_false,cond_false,cond_false,cond_false,cond_true]
  unfold eqM zA
  simp only[beq_self_eq_true,U0,Az3,Ng Af8,Zp,Zx,Bool.true_and,Bool.false_or,Bool.true_or,Bool.or_true,Bool.and_true]
  ac_rfl
 ·rw[e1,e2,e3,e4,e5,cond_false,cond_false,cond_false,cond_false,cond_false,cond_false,cond_false,cond_false,cond_false,cond_false,Bool.false_and,Bool.and_false]
theorem Ayo {l:List Ab} {m:Bk} (h:JL m):JL (DA l m):=by
 obtain⟨h1,h2,h3,h4,h5⟩:=h
 have n0:AJ 0:=Nat.zero_le _
 unfold DA
 rcases kinds m.1 with⟨e1,e2,e3,e4,e5⟩|⟨e1,e2,e3,e4,e5⟩|⟨e1,e2,e3,e4,e5⟩|⟨e1,e2,e3,e4,e5⟩|⟨e1,e2,e3,e4,e5⟩|⟨e1,e2,e3,e4,e5⟩<;>
  (simp only[e1,e2,e3,e4,e5,cond_true,cond_false];exact⟨by first|exact h1|exact n0,by first|exact h2|exact n0,by first|exact h3|exact n0,by first|exact h4|exact n0,by first|exact h5|(intro r hr;cases hr)⟩)
theorem Bbb (a0:List Ab) (a1:Bk) (hp:∀p∈Ahm a0 a1,p):An AP 10 [.sl .group a0,AA .msg a1] 0 [] 1 (Aok a0 a1) 0 []:=by
 obtain⟨hm,hg⟩:=hp _ (List.mem_cons_self ..)
 obtain⟨h1,h2,h3,h4,h5⟩:=hm
 have h:=Bgl a0 a1 (Aa hg (Aa (fun _ _ _=>h1) (Aa (fun _ _ _=>hg) (Aa (fun _ _ _ _ _=>h2) (Aa (fun _ _ _ _ _ _=>h2) (Aa (fun _ _ _ _ _ _ _=>h2) (Aa (fun _ _ _ _ _ _ _=>h4) (Aa (fun _ _ _ _ _ _ _=>hg) (Aa (fun _ _=>Ayo ⟨h1,h2,h3,h4,h5⟩) Ag)))))))))
 have e:Aeu a0 a1=JF a0 a1:=by
  unfold Aeu JF
  rw[←Bbc a0 a1,show G0 a0 a1=(AI a0 !=0) from rfl]
  cases(Pz a0 a1)||!eqM (DA a0 a1) a1<;>rfl
 unfold Avq at h
 rw[e] at h
 exact h
theorem Ahn:Gw AP 10 (Cy [.l .group,.t .msg] 0 Aok (fun _ _=>[]) Ahm):=Az Bbb
def B0l:=DM Ahn Bo5
abbrev Cwc:=B0l
end Go.Proofs.YtifkbgkbajncjaaGreatDoor

