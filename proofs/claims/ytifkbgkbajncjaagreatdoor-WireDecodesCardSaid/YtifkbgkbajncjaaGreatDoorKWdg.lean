/- made by a program (rowgen.py): WireDecodes: for every input the law returns true, and each argument reads behind the call as it read before. -/
import Derived.Test.YtifkbgkbajncjaaGreatDoorKWdf

set_option maxRecDepth 100000
noncomputable section
namespace Go.Proofs.YtifkbgkbajncjaaGreatDoor
open Go.RowKit
theorem Bi7 {l:List Ab} {m:Bk}:JF l m=0↔AI l=0∧okW l m=true:=by
 unfold JF
 cases h:AI l !=0 with
 |true=>
  have h':AI l≠0:=by simpa using h
  exact⟨fun e=>absurd e h',fun e=>absurd e.1 h'⟩
 |false=>
  have h':AI l=0:=by simpa using h
  rw[cond_false]
  cases okW l m with
  |true=>exact⟨fun _=>⟨h',rfl⟩,fun _=>rfl⟩
  |false=>exact⟨fun e=>(by cases e),fun e=>by cases e.2⟩
abbrev B4p:=Cwc
abbrev B4q:=B4p
abbrev B4r:=B4q
abbrev B4s:=B4r
abbrev B4t:=B4s
abbrev Cwd:=B4t
abbrev B4u:=Cwd
abbrev Cwe:=B4u
theorem xor_zero {A x:BitVec 32} (h:A^^^x=A):x=0#32:=by
 have e:x=A^^^(A^^^x):=by rw[←BitVec.xor_assoc,BitVec.xor_self,BitVec.zero_xor]
 rw[e,h,BitVec.xor_self]
def Dx (b:Ae):Int×Int×Int:=Ad (b.drop 1)
def NB (b:Ae):Int:=1+(Dx b).2.1+(Dx b).1+4
def GF (b:Ae):Int:=bif b.length==0 then 10 else bif !(b.getD 0 0==181) then 30 else bif(Dx b).2.2 !=0 then(Dx b).2.2 else bif decide (1048576 <(Dx b).1) then 3 else
 bif decide ((b.length:Int) <NB b) then 10 else bif !PT (b.take (NB b).toNat) then 31 else 0
def Bo (b:Ae):Int:=bif GF b==0 then NB b else 0
def AM (b:Ae):Ae:=bif GF b==0 then(b.drop (1+(Dx b).2.1).toNat).take (Dx b).1.toNat else[]
def B7v (n:Int):Int:=Int.ofNat (Nat.succ (n.toNat - 1))
def B4v:=DM Tn Cwe
def Er (a0:Ae):Bool:=(a0.length:Int)==0
def F8 (a0:Ae):Bool:=(↑(UInt8.toNat (a0.getD 0 (Av TC.u8))):Int) !=181
def E7 (a0:Ae):=Ad (List.take ((a0.length:Int).toNat - 1) (List.drop 1 a0))
def F7 (a0:Ae):Bool:=(E7 a0).2.2 !=0
def In (a0:Ae):Int:=IntKind.i64.wrap (1+(E7 a0).2.1)
def Ks (a0:Ae):Int:=IntKind.i64.wrap ((In a0)+(E7 a0).1)
def F6 (a0:Ae):Bool:=decide ((E7 a0).1 >1048576)
def GV (a0:Ae):Int:=IntKind.i64.wrap ((Ks a0)+4)
def Im (a0:Ae):Bool:=!PT (List.take ((GV a0).toNat - 0) (List.drop 0 a0))
def O6 (a0:Ae):Ae:=List.take ((Ks a0).toNat - (In a0).toNat) (List.drop (In a0).toNat a0)
def E6 (a0:Ae):Bool:=decide ((a0.length:Int) <(GV a0))
def Vr (a0:Ae):Int:=bif(Er a0) then 0 else bif(F8 a0) then 0 else bif(F7 a0) then 0 else bif(F6 a0) then 0 else bif(E6 a0) then 0 else bif(Im a0) then 0 else(GV a0)
def Vs (a0:Ae):Int:=bif(Er a0) then 10 else bif(F8 a0) then 30 else bif(F7 a0) then(E7 a0).2.2 else bif(F6 a0) then 3 else bif(E6 a0) then 10 else bif(Im a0) then 31 else 0
def Vt (a0:Ae):Ae:=bif(Er a0) then[] else bif(F8 a0) then[] else bif(F7 a0) then[] else bif(F6 a0) then[] else bif(E6 a0) then[] else bif(Im a0) then[] else[]++(O6 a0)
def Age (a0:Ae):A:=.tup [.sq 0,iV (Vr a0),iV (Vs a0)]
def Agd (a0:Ae):AE:=[(0,some (.arr 5 1 (.ty .u8 (Vt a0))))]
def Aaw (a0:Ae):List Prop:=[((!(Er a0))=true→(0:Int)≤0∧0 <(a0.length:Int)),((!(Er a0))=true→(!(F8 a0))=true→(0:Int)≤1∧1≤(a0.length:Int)∧(a0.length:Int)≤(a0.length:Int)),((!(Er a0))=true→(!(F8 a0))=true→(!(F7 a0))=true→(!(F6 a0))=true→(!(E6 a0))=true→(0:Int)≤0∧0≤(GV a0)∧(GV a0)≤(a0.length:Int)),((!(Er a0))=true→(!(F8 a0))=true→(!(F7 a0))=true→(!(F6 a0))=true→(!(E6 a0))=true→Af (List.take ((GV a0).toNat - 0) (List.drop 0 a0)).length),((!(Er a0))=true→(!(F8 a0))=true→(!(F7 a0))=true→(!(F6 a0))=true→(!(E6 a0))=true→(!(Im a0))=true→0≤(In a0)∧(In a0)≤(Ks a0)∧(Ks a0)≤(a0.length:Int)),((!(Er a0))=true→(!(F8 a0))=true→(!(F7 a0))=true→(!(F6 a0))=true→(!(E6 a0))=true→(!(Im a0))=true→Af (0+(O6 a0).length))]
theorem A21 (a0:Ae) (hp:∀p∈Aaw a0,p):An AP 38 [AA .bytes a0] 0 [] 1 (Age a0) 1 (Agd a0):=AN (u:=9) (Au B4v.2 AF) (by kernel_rfl) hp
def Aax (a0:Ae):A:=.tup [.sq 0,iV (Bo a0),iV (GF a0)]
def Aav (a0:Ae):AE:=[(0,some (.arr 5 1 (.ty .u8 (AM a0))))]
def Xu (a0:Ae):List Prop:=[Af a0.length]
theorem O8 (b:Ae):Ad (List.take ((b.length:Int).toNat - 1) (List.drop 1 b))=Dx b:=by
 unfold Dx
 rw[List.take_of_length_le (by rw[List.length_drop];omega)]
theorem Bjt (x:UInt8):((x.toNat:Int) !=181)=!(x==181):=by
 unfold bne
 congr 1
 rw[Bool.eq_iff_iff,beq_iff_eq,beq_iff_eq]
 constructor
 ·intro h
  apply UInt8.toNat_inj.1
  have:x.toNat=181:=by omega
  rw[this];rfl
 ·intro h;rw[h];rfl
theorem A0u (b:Ae) {c9 c8 c7 c4 c0 c2:Bool} (h9:c9=(b.length==0)) (h8:c8=!(b.getD 0 0==181)) (h7:c7=((Dx b).2.2 !=0)) (h4:c4=decide (1048576 <(Dx b).1)) (h0:c0=decide ((b.length:Int) <NB b)) (h2:c2=!PT (b.take (NB b).toNat)):
  (bif c9 then(0:Int) else bif c8 then 0 else bif c7 then 0 else bif c4 then 0 else bif c0 then 0 else bif c2 then 0 else NB b)=Bo b∧
  (bif c9 then(10:Int) else bif c8 then 30 else bif c7 then(Dx b).2.2 else bif c4 then 3 else bif c0 then 10 else bif c2 then 31 else 0)=GF b∧
  (bif c9 then[] else bif c8 then[] else bif c7 then[] else bif c4 then[] else bif c0 then[] else bif c2 then[] else(b.drop (1+(Dx b).2.1).toNat).take (Dx b).1.toNat)=AM b:=by
 have e:(bif c9 then(10:Int) else bif c8 then 30 else bif c7 then(Dx b).2.2 else bif c4 then 3 else bif c0 then 10 else bif c2 then 31 else 0)=GF b:=by
  unfold GF
  rw[h9,h8,h7,h4,h0,h2]
 refine⟨?_,e,?_⟩
 ·unfold Bo
  rw[←e]
  cases c9<;>cases c8<;>(try rfl)
  cases hc:c7 with
  |true=>
   have:((Dx b).2.2==0)=false:=by rw[hc] at h7;unfold bne at h7;simpa using h7.symm
   show(0:Int)=bif(Dx b).2.2==0 then NB b else 0
   rw[this];rfl
  |false=>cases c4<;>cases c0<;>cases c2<;>rfl
 ·unfold AM
  rw[←e]
  cases c9<;>cases c8<;>(try rfl)
  cases hc:c7 with
  |true=>
   have:((Dx b).2.2==0)=false:=by rw[hc] at h7;unfold bne at h7;simpa using h7.symm
   show[]=bif(Dx b).2.2==0 then _ else[]
   rw[this];rfl
  |false=>cases c4<;>cases c0<;>cases c2<;>rfl
theorem Amh (b:Ae):0≤(Dx b).2.1∧(Dx b).2.1≤8∧0≤(Dx b).1∧(Dx b).1≤4611686018427387903:=by
 have:=AZ (b.drop 1)
 unfold Dx
 omega
theorem Aw5 (b:Ae) (hb:Af b.length):(∀p∈Aaw b,p)∧Vr b=Bo b∧Vs b=GF b∧Vt b=AM b:=by
 unfold Af at hb
 obtain⟨g1,g2,g3,g4⟩:=Amh b
 have k6:In b=1+(Dx b).2.1:=by unfold In E7;rw[O8];exact i64_in (by omega)
 have k5:Ks b=1+(Dx b).2.1+(Dx b).1:=by unfold Ks E7;rw[O8,k6];exact i64_in (by omega)
 have k3:GV b=NB b:=by unfold GV NB;rw[k5];exact i64_in (by omega)
 have k9:Er b=(b.length==0):=A0d _
 have k8:F8 b=!(b.getD 0 0==181):=Bjt _
 have k7:F7 b=((Dx b).2.2 !=0):=by unfold F7 E7;rw[O8]
 have k4:F6 b=decide (1048576 <(Dx b).1):=by unfold F6 E7;rw[O8]
 have k0:E6 b=decide ((b.length:Int) <NB b):=by unfold E6;rw[k3]
 have k2:Im b=!PT (b.take (NB b).toNat):=by unfold Im;rw[k3,Nat.sub_zero,List.drop_zero]
 have k1:O6 b=(b.drop (1+(Dx b).2.1).toNat).take (Dx b).1.toNat:=by
  unfold O6
  rw[k6,k5,show(1+(Dx b).2.1+(Dx b).1).toNat - (1+(Dx b).2.1).toNat=(Dx b).1.toNat by omega]
 obtain⟨q1,q2,q3⟩:=A0u b k9 k8 k7 k4 k0 k2
 have h9:(!(Er b))=true→1≤b.length:=fun h=>by
  rw[k9] at h
  have:b.length≠0:=by simpa using h
  omega
 have h0:(!(E6 b))=true→NB b≤(b.length:Int):=fun h=>by rw[k0,Bool.not_eq_true',decide_eq_false_iff_not] at h;omega
 have ha:NB b=1+(Dx b).2.1+(Dx b).1+4:=rfl
 refine⟨Aa (fun h=>by have:=h9 h;omega) (Aa (fun h _=>by have:=h9 h;omega) (Aa (fun h _ _ _ h'=>by have:=h0 h';rw[k3];omega) (Aa (fun h _ _ _ h'=>?_) (Aa (fun h _ _ _ h' _=>by have:=h0 h';rw[k6,k5];omega) (Aa (fun h _ _ _ h' _=>?_) Ag))))),?_,?_,?_⟩
 ·rw[List.length_take,List.length_drop];unfold Af;omega
 ·rw[k1,List.length_take,List.length_drop];unfold Af;omega
 ·rw[←q1];unfold Vr;rw[k3]
 ·rw[←q2];unfold Vs E7;rw[O8]
 ·rw[←q3];unfold Vt;rw[k1,List.nil_append]
theorem Aw4 (a0:Ae) (hp:∀p∈Xu a0,p):An AP 38 [AA .bytes a0] 0 [] 1 (Aax a0) 1 (Aav a0):=by
 obtain⟨h1,h2,h3,h4⟩:=Aw5 a0 (hp _ (List.mem_cons_self ..))
 have h:=A21 a0 h1
 unfold Age Agd at h
 rw[h2,h3,h4] at h
 exact h
theorem Asz:Gw AP 38 (Cy [.t .bytes] 1 Aax Aav Xu):=Az Aw4
theorem HL.free1 {F:Nat→Prop} {N N':Nm} {nx nx':Nat} {R:World} {xs:List A} {vs:List Value} (hf:freeL xs=true) (h:HL F N nx R xs vs):HL F N' nx' R xs vs:=h.free hf
theorem RP {P:Program} {f:FuncId} {args:List A} {e e':TypeId} {xs bl:List A} {k nx1:Nat} {x:A} {o1:AE} (h:An P f (.own 0 0::args) 1 [(0,some (.box e xs))] k x nx1 o1) (h0:Ai 0 o1=some (.box e' bl)) (hf:freeL args=true) (hx:freeL xs=true) (hx':freeL bl=true) (hr:x.free=true) {i nx:Nat} {o:AE} (hi:Ai i o=some (.box e xs)):An P f (.own i 0::args) nx o 2 x nx ((i,some (.box e' bl))::o):=fun F N R vs hh ha=>by
 obtain⟨v,ws,rfl,g1,g2⟩:=ha.inv
 obtain⟨au,us,u1,u2⟩:=hh.ob i _ hi
 let N1:Nm:=⟨fun _=>N.b i,N.q⟩
 have one:∀{z:Ob} {j:Nat} {ob:Ob},Ai j [(0,some z)]=some ob→j=0∧ob=z:=fun {z j ob} hj=>by
  rw[AG] at hj
  by_cases e:j=0
  ·rw[if_pos e] at hj;cases hj;exact⟨e,rfl⟩
  ·rw[if_neg e] at hj;cases hj
 have il:∀{z:Ob} {j:Nat} {ob:Ob},Ai j [(i,some z)]=some ob→j=i∧ob=z:=fun {z j ob} hj=>by
  rw[AG] at hj
  by_cases e:j=i
  ·rw[if_pos e] at hj;cases hj;exact⟨e,rfl⟩
  ·rw[if_neg e] at hj;cases hj
 have h1:Bp F N1 1 [(0,some (.box e xs))] R:=⟨hh.flt,fun j ob hj=>by
   obtain⟨rfl,rfl⟩:=one hj
   exact⟨Nat.zero_lt_one,us,HL.free1 hx u1,u2⟩,fun j ob g hj hg=>by
   obtain⟨rfl,rfl⟩:=one hj
   exact hh.ff i _ g hi hg,fun j j' x y g hj df _ _=>by
   rw[(one hj).1,(one df).1],hh.gl⟩
 have g3:Hv F N1 1 R (.own 0 0) v:=by
  cases g1 with
  |own _=>exact .own Nat.zero_lt_one
 refine(h F N1 R (v::ws) h1 (HL.cons g3 (g2.free hf))).mono fun _ R' ⟨y,F',N',e1,e2,e3,e4,_⟩=>?_
 have hb:N'.b 0=N.b i:=e3.b 0 Nat.zero_lt_one
 obtain⟨h2,us',w1,w2⟩:=e2.ob 0 _ h0
 rw[hb] at w2
 have kf:∀{g},Gb N1 [(0,some (.box e xs))] g↔g=N.b i:=fun {g}=>⟨fun⟨j,ob,hj,hg⟩=>by obtain⟨rfl,rfl⟩:=one hj;exact hg,fun hg=>⟨0,_,rfl,hg⟩⟩
 have gm:∀{z:List A} {t:TypeId} {g},Gb N [(i,some (.box t z))] g↔g=N.b i:=fun {z t g}=>⟨fun⟨j,ob,hj,hg⟩=>by obtain⟨rfl,rfl⟩:=il hj;exact hg,fun hg=>⟨i,.box t z,by rw[AG,if_pos rfl],hg⟩⟩
 have st:Step F N nx [(i,some (.box e xs))] R F' N nx [(i,some (.box e' bl))] R':=⟨Nat.le_refl _,fun _ _=>rfl,fun _ _=>rfl,e3.f,fun g hg=>by
   rcases e3.fnew g hg with k1|k1|k1
   ·exact .inl k1
   ·exact .inr (.inl (gm.2 (kf.1 k1)))
   ·exact .inr (.inr k1),fun g hg=> .inl (gm.2 (gm.1 hg)),e3.os,e3.tape,e3.output,e3.size,fun g hg hn=>e3.keep g hg fun hf=>hn (gm.2 (kf.1 hf))⟩
 have hp:Bp F' N nx [(i,some (.box e' bl))] R':=⟨e2.flt,fun j ob hj=>by
   obtain⟨rfl,rfl⟩:=il hj
   exact⟨au,us',HL.free1 hx' w1,w2⟩,fun j ob g hj hg=>by
   obtain⟨rfl,rfl⟩:=il hj
   exact e2.ff 0 _ g h0 (hg.trans hb.symm),fun j j' x y g hj df _ _=>by
   rw[(il hj).1,(il df).1],e2.gl⟩
 obtain⟨q1,q2⟩:=hh.frame (o1:=[(i,some (.box e xs))]) (o':=(i,some (.box e' bl))::o) (fun j ob hj=>by obtain⟨rfl,rfl⟩:=il hj;exact hi) st hp fun j ob hj=>by
  rw[AG] at hj
  by_cases e:j=i
  ·rw[if_pos e] at hj;cases hj;exact .inl (by rw[AG,if_pos e])
  ·rw[if_neg e] at hj;exact .inr ⟨hj,by rw[AG,if_neg e];rfl⟩
 exact⟨y,F',N,e1,q1,q2,e4.free hr,fun hk=>by omega⟩
def FH (b:Ae) (at_:Int) (bad:Bool):Int×Int×Bool:=((Ad (b.drop at_.toNat)).1,at_+(Ad (b.drop at_.toNat)).2.1,bad||(Ad (b.drop at_.toNat)).2.2 !=0)
def NA (m:Int) (b:Ae) (at_:Int) (bad:Bool):ByteArray×Int×Bool:=((Bm (b.drop at_.toNat) m).1,at_+(Bm (b.drop at_.toNat) m).2.1,bad||(Bm (b.drop at_.toNat) m).2.2 !=0)
def W7 (b:Ae) (at_:Int) (bad:Bool):AU×Int×Bool:=
 let k:=NA 32 b at_ bad
 let g:=FH b k.2.1 k.2.2
 let o:=FH b g.2.1 g.2.2
 bif o.1==0 then(⟨k.1,g.1,false,(NA 64 b o.2.1 o.2.2).1⟩,(NA 64 b o.2.1 o.2.2).2) else bif o.1==1 then(⟨k.1,g.1,true,⟨#[]⟩⟩,o.2) else(⟨k.1,g.1,false,⟨#[]⟩⟩,o.2.1,true)
def Ol (b:Ae) (at_:Int):Prop:=0≤at_∧at_≤(b.length:Int)∧Af b.length
theorem TS {b:Ae} {at_:Int} (h:Ol b at_) (bad:Bool):Ol b (FH b at_ bad).2.1:=by
 obtain⟨h1,h2,h3⟩:=h
 have:=AZ (b.drop at_.toNat)
 rw[List.length_drop] at this
 exact⟨by show 0≤at_+_;omega,by show at_+_≤_;omega,h3⟩
theorem Alq {b:Ae} {at_:Int} (h:Ol b at_) (m:Int) (bad:Bool):Ol b (NA m b at_ bad).2.1:=by
 obtain⟨h1,h2,h3⟩:=h
 have:=Gd (b.drop at_.toNat) m
 rw[List.length_drop] at this
 exact⟨by show 0≤at_+_;omega,by show at_+_≤_;omega,h3⟩
theorem B21 {b:Ae} {at_:Int} (h:Ol b at_) (bad:Bool):Ol b (W7 b at_ bad).2.1:=by
 have h1:=Alq h 32 bad
 have h2:=TS h1 (NA 32 b at_ bad).2.2
 have h3:=TS h2 (FH b (NA 32 b at_ bad).2.1 (NA 32 b at_ bad).2.2).2.2
 unfold W7
 dsimp only
 cases((FH b (FH b (NA 32 b at_ bad).2.1 (NA 32 b at_ bad).2.2).2.1 (FH b (NA 32 b at_ bad).2.1 (NA 32 b at_ bad).2.2).2.2).1==0) with
 |true=>exact Alq h3 64 _
 |false=>
  cases((FH b (FH b (NA 32 b at_ bad).2.1 (NA 32 b at_ bad).2.2).2.1 (FH b (NA 32 b at_ bad).2.1 (NA 32 b at_ bad).2.2).2.2).1==1) with
  |true=>exact h3
  |false=>exact h3
def Boi:=DM (M0 (Au Cg.2 AF) 20 81) Cg
def Bpv (a0:Ae) (a1:Int):Int:=(Ad (List.take ((a0.length:Int).toNat - a1.toNat) (List.drop a1.toNat a0))).1
def Bdg (a0:Ae) (a1:Int):Int:=IntKind.i64.wrap (a1+(Ad (List.take ((a0.length:Int).toNat - a1.toNat) (List.drop a1.toNat a0))).2.1)
def Bdh (a0:Ae) (a1:Int) (a2:Bool):Bool:=a2||(Ad (List.take ((a0.length:Int).toNat - a1.toNat) (List.drop a1.toNat a0))).2.2 !=0
def A2e (a0:Ae) (a1:Int) (_a2:Bool):A:=iV (Bpv a0 a1)
def A2c (a0:Ae) (a1:Int) (a2:Bool):AE:=[(0,some (.box 135 [.sl .u8 a0,iV (Bdg a0 a1),.v (.bool (Bdh a0 a1 a2))]))]
def A2d (a0:Ae) (a1:Int) (_a2:Bool):List Prop:=[(0≤a1∧a1≤(a0.length:Int)∧(a0.length:Int)≤(a0.length:Int))]
theorem Bu8 (a0:Ae) (a1:Int) (a2:Bool):A8d (Co Boi.1 L0) 9 79 [.own 0 0] 1 [(0,some (.box 135 [.sl .u8 a0,iV a1,.v (.bool a2)]))]=some (2,A2e a0 a1 a2,1,A2c a0 a1 a2,A2d a0 a1 a2):=by kernel_rfl
theorem B01 (a0:Ae) (a1:Int) (a2:Bool) (hp:∀p∈A2d a0 a1 a2,p):An AP 79 [.own 0 0] 1 [(0,some (.box 135 [.sl .u8 a0,iV a1,.v (.bool a2)]))] 2 (A2e a0 a1 a2) 1 (A2c a0 a1 a2):=Zy (Au Boi.2 AF) (Bu8 a0 a1 a2) hp
theorem A5 (b:Ae) (k:Int):List.take ((b.length:Int).toNat - k.toNat) (List.drop k.toNat b)=b.drop k.toNat:=List.take_of_length_le (by rw[List.length_drop];omega)
theorem FL {b:Ae} {n:Int} (h:Ol b n):IntKind.i64.wrap n=n:=by
 obtain⟨h1,h2,h3⟩:=h
 unfold Af at h3
 exact i64_in (by omega)
theorem Es {b:Ae} {n:Int} (h:Ol b n):(0:Int)≤n∧n≤(b.length:Int)∧(b.length:Int)≤(b.length:Int):=⟨h.1,h.2.1,Int.le_refl _⟩
theorem Bu7 (b:Ae) (at_:Int) (bad:Bool) (h:Ol b at_):(∀p∈A2d b at_ bad,p)∧A2e b at_ bad=iV ((FH b at_ bad).1)∧Ai 0 (A2c b at_ bad)=some (.box 135 [.sl .u8 b,iV ((FH b at_ bad).2.1),.v (.bool (FH b at_ bad).2.2)]):=by
 have k1:Bdg b at_=(FH b at_ bad).2.1:=by
  unfold Bdg
  rw[A5]
  exact FL (TS h bad)
 have k0:Bdh b at_ bad=(FH b at_ bad).2.2:=by unfold Bdh;rw[A5];rfl
 refine⟨Aa (Es h) Ag,?_,?_⟩
 ·unfold A2e Bpv;rw[A5];rfl
 ·unfold A2c;rw[k1,k0];rfl
def Bpw:KD
 | [.own i 0],nx,o=>match Ai i o with
  |some (.box t [.sl .u8 b,.v (.int .i64 at_),.v (.bool bad)])=>bif Nat.beq t 135 then some (2,.v (.int .i64 (FH b at_ bad).1),nx,(i,some (.box 135 [.sl .u8 b,.v (.int .i64 (FH b at_ bad).2.1),.v (.bool (FH b at_ bad).2.2)]))::o,[Ol b at_]) else none
  |_=>none
 |_,_,_=>none
theorem Bpx:Gw AP 79 Bpw:=fun args nx o k x nx' o' ps h=>by
 unfold Bpw at h
 split at h<;>try(cases h;done)
 split at h<;>try(cases h;done)
 rename_i t b at_ bad hl
 cases hb:Nat.beq t 135 with
 |false=>rw[hb] at h;cases h
 |true=>
  rw[hb] at h
  obtain rfl:=Nat.eq_of_beq_eq_true hb
  cases h
  refine⟨fun hp=>?_,[_],rfl⟩
  obtain⟨h1,h2,h3⟩:=Bu7 b at_ bad (hp _ (List.mem_singleton.2 rfl))
  have hc:=B01 b at_ bad h1
  rw[h2] at hc
  exact RP hc h3 (by rfl) (by rfl) (by rfl) (by rfl) hl
def Boj:=DM Bpx Boi
def Ask (a0:Ae) (a1:Int):Ae:=List.take ((a0.length:Int).toNat - a1.toNat) (List.drop a1.toNat a0)
def Byz (a0:Ae) (a1 a3:Int):ByteArray:=(Bm (Ask a0 a1) a3).1
def Bpz (a0:Ae) (a1 a3:Int):Int:=IntKind.i64.wrap (a1+(Bm (Ask a0 a1) a3).2.1)
def Bp0 (a0:Ae) (a1:Int) (a2:Bool) (a3:Int):Bool:=a2||(Bm (Ask a0 a1) a3).2.2 !=0
def Bih (a0:Ae) (a1:Int) (_a2:Bool) (a3:Int):A:=.v (.string (Byz a0 a1 a3))
def Big (a0:Ae) (a1:Int) (a2:Bool) (a3:Int):AE:=[(0,some (.box 135 [.sl .u8 a0,iV (Bpz a0 a1 a3),.v (.bool (Bp0 a0 a1 a2 a3))]))]
def Bdr (a0:Ae) (a1:Int) (_a2:Bool) (_a3:Int):List Prop:=[(0≤a1∧a1≤(a0.length:Int)∧(a0.length:Int)≤(a0.length:Int)),(Af (Ask a0 a1).length)]
theorem B03 (a0:Ae) (a1:Int) (a2:Bool) (a3:Int):A8d (Co Boj.1 L0) 9 107 [.own 0 0,iV a3] 1 [(0,some (.box 135 [.sl .u8 a0,iV a1,.v (.bool a2)]))]=some (2,Bih a0 a1 a2 a3,1,Big a0 a1 a2 a3,Bdr a0 a1 a2 a3):=by kernel_rfl
theorem B5c (a0:Ae) (a1:Int) (a2:Bool) (a3:Int) (hp:∀p∈Bdr a0 a1 a2 a3,p):An AP 107 [.own 0 0,iV a3] 1 [(0,some (.box 135 [.sl .u8 a0,iV a1,.v (.bool a2)]))] 2 (Bih a0 a1 a2 a3) 1 (Big a0 a1 a2 a3):=Zy (Au Boj.2 AF) (B03 a0 a1 a2 a3) hp
theorem B02 (b:Ae) (at_:Int) (bad:Bool) (m:Int) (h:Ol b at_):(∀p∈Bdr b at_ bad m,p)∧Bih b at_ bad m=.v (.string (NA m b at_ bad).1)∧Ai 0 (Big b at_ bad m)=some (.box 135 [.sl .u8 b,iV ((NA m b at_ bad).2.1),.v (.bool (NA m b at_ bad).2.2)]):=by
 have hl:Af (b.drop at_.toNat).length:=by have:=h.2.2;rw[List.length_drop];unfold Af at*;omega
 have k2:Ask b at_=b.drop at_.toNat:=A5 _ _
 have k1:Bpz b at_ m=(NA m b at_ bad).2.1:=by
  unfold Bpz
  rw[k2]
  exact FL (Alq h m bad)
 have k0:Bp0 b at_ bad m=(NA m b at_ bad).2.2:=by unfold Bp0;rw[k2];rfl
 refine⟨Aa (Es h) (Aa (by rw[k2];exact hl) Ag),?_,?_⟩
 ·unfold Bih Byz;rw[k2];rfl
 ·unfold Big;rw[k1,k0];rfl
def By0:KD
 | [.own i 0,.v (.int .i64 m)],nx,o=>match Ai i o with
  |some (.box t [.sl .u8 b,.v (.int .i64 at_),.v (.bool bad)])=>bif Nat.beq t 135 then some (2,.v (.string (NA m b at_ bad).1),nx,(i,some (.box 135 [.sl .u8 b,.v (.int .i64 (NA m b at_ bad).2.1),.v (.bool (NA m b at_ bad).2.2)]))::o,[Ol b at_]) else none
  |_=>none
 |_,_,_=>none
theorem Bve:Gw AP 107 By0:=fun args nx o k x nx' o' ps h=>by
 unfold By0 at h
 split at h<;>try(cases h;done)
 rename_i i m
 split at h<;>try(cases h;done)
 rename_i t b at_ bad hl
 cases hb:Nat.beq t 135 with
 |false=>rw[hb] at h;cases h
 |true=>
  rw[hb] at h
  obtain rfl:=Nat.eq_of_beq_eq_true hb
  cases h
  refine⟨fun hp=>?_,[_],rfl⟩
  obtain⟨h1,h2,h3⟩:=B02 b at_ bad m (hp _ (List.mem_singleton.2 rfl))
  have hc:=B5c b at_ bad m h1
  rw[h2] at hc
  exact RP hc h3 (by rfl) (by rfl) (by rfl) (by rfl) hl
def Bok:=DM Bve Boj
def Ait (a0:Ae) (a1:Int) (a2:Bool):ByteArray:=(NA 32 a0 a1 a2).1
def Asl (a0:Ae) (a1:Int) (a2:Bool):Int:=(NA 32 a0 a1 a2).2.1
def Ais (a0:Ae) (a1:Int) (a2:Bool):Int:=(FH a0 (Asl a0 a1 a2) (NA 32 a0 a1 a2).2.2).1
def A2k (a0:Ae) (a1:Int) (a2:Bool):=FH a0 (FH a0 (Asl a0 a1 a2) (NA 32 a0 a1 a2).2.2).2.1 (FH a0 (Asl a0 a1 a2) (NA 32 a0 a1 a2).2.2).2.2
def Acs (a0:Ae) (a1:Int) (a2:Bool):Bool:=(A2k a0 a1 a2).2.2
def Tp (a0:Ae) (a1:Int) (a2:Bool):Int:=(A2k a0 a1 a2).2.1
def To (a0:Ae) (a1:Int) (a2:Bool):Bool:=(A2k a0 a1 a2).1==1
def QP (a0:Ae) (a1:Int) (a2:Bool):Bool:=(A2k a0 a1 a2).1==0
def A7z (a0:Ae) (a1:Int) (a2:Bool):AU:=AU.mk (bif(QP a0 a1 a2) then(Ait a0 a1 a2) else bif(To a0 a1 a2) then(Ait a0 a1 a2) else(Ait a0 a1 a2)) (bif(QP a0 a1 a2) then(Ais a0 a1 a2) else bif(To a0 a1 a2) then(Ais a0 a1 a2) else(Ais a0 a1 a2)) (bif(QP a0 a1 a2) then false else bif(To a0 a1 a2) then true else false) (bif(QP a0 a1 a2) then(NA 64 a0 (Tp a0 a1 a2) (Acs a0 a1 a2)).1 else bif(To a0 a1 a2) then ByteArray.mk #[] else ByteArray.mk #[])
def By1 (a0:Ae) (a1:Int) (a2:Bool):Ae:=bif(QP a0 a1 a2) then a0 else bif(To a0 a1 a2) then a0 else a0
def By2 (a0:Ae) (a1:Int) (a2:Bool):Int:=bif(QP a0 a1 a2) then(NA 64 a0 (Tp a0 a1 a2) (Acs a0 a1 a2)).2.1 else bif(To a0 a1 a2) then(Tp a0 a1 a2) else(Tp a0 a1 a2)
def By3 (a0:Ae) (a1:Int) (a2:Bool):Bool:=bif(QP a0 a1 a2) then(NA 64 a0 (Tp a0 a1 a2) (Acs a0 a1 a2)).2.2 else bif(To a0 a1 a2) then(Acs a0 a1 a2) else true
def Bij (a0:Ae) (a1:Int) (a2:Bool):A:=.v (.agg ⟨[.string ((A7z a0 a1 a2).key),.int .i64 ((A7z a0 a1 a2).group),.bool ((A7z a0 a1 a2).gone),.string ((A7z a0 a1 a2).value)]⟩)
def Bii (a0:Ae) (a1:Int) (a2:Bool):AE:=[(0,some (.box 135 [.sl .u8 (By1 a0 a1 a2),iV (By2 a0 a1 a2),.v (.bool (By3 a0 a1 a2))]))]
def Bds (a0:Ae) (a1:Int) (a2:Bool):List Prop:=[(Ol a0 a1),(Ol a0 (Asl a0 a1 a2)),(Ol a0 (FH a0 (Asl a0 a1 a2) (NA 32 a0 a1 a2).2.2).2.1),((QP a0 a1 a2)=true→Ol a0 (Tp a0 a1 a2))]
theorem B05 (a0:Ae) (a1:Int) (a2:Bool):A8d (Co Bok.1 L0) 9 83 [.own 0 0] 1 [(0,some (.box 135 [.sl .u8 a0,iV a1,.v (.bool a2)]))]=some (2,Bij a0 a1 a2,1,Bii a0 a1 a2,Bds a0 a1 a2):=by kernel_rfl
theorem B5d (a0:Ae) (a1:Int) (a2:Bool) (hp:∀p∈Bds a0 a1 a2,p):An AP 83 [.own 0 0] 1 [(0,some (.box 135 [.sl .u8 a0,iV a1,.v (.bool a2)]))] 2 (Bij a0 a1 a2) 1 (Bii a0 a1 a2):=Zy (Au Bok.2 AF) (B05 a0 a1 a2) hp
theorem B04 (b:Ae) (at_:Int) (bad:Bool) (h:Ol b at_):(∀p∈Bds b at_ bad,p)∧Bij b at_ bad=.v (.agg ⟨[.string (W7 b at_ bad).1.key,.int .i64 (W7 b at_ bad).1.group,.bool (W7 b at_ bad).1.gone,.string (W7 b at_ bad).1.value]⟩)∧Ai 0 (Bii b at_ bad)=some (.box 135 [.sl .u8 b,.v (.int .i64 (W7 b at_ bad).2.1),.v (.bool (W7 b at_ bad).2.2)]):=by
 have h1:=Alq h 32 bad
 have h2:=TS h1 (NA 32 b at_ bad).2.2
 have h3:=TS h2 (FH b (NA 32 b at_ bad).2.1 (NA 32 b at_ bad).2.2).2.2
 have e:W7 b at_ bad=bif QP b at_ bad then(⟨Ait b at_ bad,Ais b at_ bad,false,(NA 64 b (Tp b at_ bad) (Acs b at_ bad)).1⟩,(NA 64 b (Tp b at_ bad) (Acs b at_ bad)).2)
   else bif To b at_ bad then(⟨Ait b at_ bad,Ais b at_ bad,true,⟨#[]⟩⟩,Tp b at_ bad,Acs b at_ bad) else(⟨Ait b at_ bad,Ais b at_ bad,false,⟨#[]⟩⟩,Tp b at_ bad,true):=rfl
 refine⟨Aa h (Aa h1 (Aa h2 (Aa (fun _=>h3) Ag))),?_,?_⟩
 ·unfold Bij A7z
  rw[e]
  cases QP b at_ bad with
  |true=>rfl
  |false=>cases To b at_ bad<;>rfl
 ·unfold Bii By1 By2 By3
  rw[e]
  cases QP b at_ bad with
  |true=>rfl
  |false=>cases To b at_ bad<;>rfl
def By4:KD
 | [.own i 0],nx,o=>match Ai i o with
  |some (.box t [.sl .u8 b,.v (.int .i64 at_),.v (.bool bad)])=>bif Nat.beq t 135 then some (2,.v (.agg ⟨[.string (W7 b at_ bad).1.key,.int .i64 (W7 b at_ bad).1.group,.bool (W7 b at_ bad).1.gone,.string (W7 b at_ bad).1.value]⟩),nx,(i,some (.box 135 [.sl .u8 b,.v (.int .i64 (W7 b at_ bad).2.1),.v (.bool (W7 b at_ bad).2.2)]))::o,[Ol b at_]) else none
  |_=>none
 |_,_,_=>none
theorem Bvf:Gw AP 83 By4:=fun args nx o k x nx' o' ps h=>by
 unfold By4 at h
 split at h<;>try(cases h;done)
 split at h<;>try(cases h;done)
 rename_i t b at_ bad hl
 cases hb:Nat.beq t 135 with
 |false=>rw[hb] at h;cases h
 |true=>
  rw[hb] at h
  obtain rfl:=Nat.eq_of_beq_eq_true hb
  cases h
  refine⟨fun hp=>?_,[_],rfl⟩
  obtain⟨h1,h2,h3⟩:=B04 b at_ bad (hp _ (List.mem_singleton.2 rfl))
  have hc:=B5d b at_ bad h1
  rw[h2] at hc
  exact RP hc h3 (by rfl) (by rfl) (by rfl) (by rfl) hl
def B3l:=DM Bvf Bok
abbrev Cda:=B3l
def Py (a0:Ae):ByteArray:=(Bm a0 32).1
def JJ (a0:Ae):Int:=(Bm a0 32).2.1
def DJ (a0:Ae):Bool:=(Bm a0 32).2.2 !=0
def OR (a0:Ae):=Ad (List.take ((a0.length:Int).toNat - (JJ a0).toNat) (List.drop (JJ a0).toNat a0))
def OQ (a0:Ae):Int:=(OR a0).1
def Ec (a0:Ae):Bool:=(OR a0).2.2 !=0
def B9 (a0:Ae):Int:=IntKind.i64.wrap ((JJ a0)+(OR a0).2.1)
def M8 (a0:Ae):=Ad (List.take ((a0.length:Int).toNat - (B9 a0).toNat) (List.drop (B9 a0).toNat a0))
def Lw (a0:Ae):Bool:=(M8 a0).1==1
def Fo (a0:Ae):Bool:=!(Lw a0)
def CY (a0:Ae):Int:=IntKind.i64.wrap ((B9 a0)+(M8 a0).2.1)
def M7 (a0:Ae):Ae:=List.take ((a0.length:Int).toNat - (CY a0).toNat) (List.drop (CY a0).toNat a0)
def Eb (a0:Ae):Bool:=(M8 a0).2.2 !=0||decide ((M8 a0).1 >1)
def GD (a0:Ae):Bool:=(Fo a0)&&(Bm (M7 a0) 64).2.2 !=0
def Nt (a0:Ae):AU:=AU.mk (bif(DJ a0) then ByteArray.mk #[] else bif(Ec a0) then(Py a0) else bif(Eb a0) then(Py a0) else bif(GD a0) then(Py a0) else bif(Fo a0) then(Py a0) else(Py a0)) (bif(DJ a0) then 0 else bif(Ec a0) then 0 else bif(Eb a0) then(OQ a0) else bif(GD a0) then(OQ a0) else bif(Fo a0) then(OQ a0) else(OQ a0)) (bif(DJ a0) then false else bif(Ec a0) then false else bif(Eb a0) then false else bif(GD a0) then(Lw a0) else bif(Fo a0) then(Lw a0) else(Lw a0)) (bif(DJ a0) then ByteArray.mk #[] else bif(Ec a0) then ByteArray.mk #[] else bif(Eb a0) then ByteArray.mk #[] else bif(GD a0) then ByteArray.mk #[] else bif(Fo a0) then(Bm (M7 a0) 64).1 else ByteArray.mk #[])
def Kv (a0:Ae):Int:=bif(DJ a0) then 0 else bif(Ec a0) then 0 else bif(Eb a0) then 0 else bif(GD a0) then 0 else bif(Fo a0) then IntKind.i64.wrap ((CY a0)+(Bm (M7 a0) 64).2.1) else(CY a0)
def Gu (a0:Ae):Bool:=bif(DJ a0) then false else bif(Ec a0) then false else bif(Eb a0) then false else bif(GD a0) then false else true
def Bnp (a0:Ae):A:=.v (.tuple ⟨[.agg ⟨[.string ((Nt a0).key),.int .i64 ((Nt a0).group),.bool ((Nt a0).gone),.string ((Nt a0).value)]⟩,.int .i64 (Kv a0),.bool (Gu a0)]⟩)
def Aep (a0:Ae):List Prop:=[(Af a0.length),((!(DJ a0))=true→0≤(JJ a0)∧(JJ a0)≤(a0.length:Int)∧(a0.length:Int)≤(a0.length:Int)),((!(DJ a0))=true→(!(Ec a0))=true→0≤(B9 a0)∧(B9 a0)≤(a0.length:Int)∧(a0.length:Int)≤(a0.length:Int)),((!(DJ a0))=true→(!(Ec a0))=true→(!(Eb a0))=true→(Fo a0)=true→0≤(CY a0)∧(CY a0)≤(a0.length:Int)∧(a0.length:Int)≤(a0.length:Int)),((!(DJ a0))=true→(!(Ec a0))=true→(!(Eb a0))=true→(Fo a0)=true→Af (M7 a0).length)]
theorem Ba6:Gw AP 120 (Cy [.t .bytes] 0 Bnp (fun _=>[]) Aep):=Az fun a0 hp=>AN (u:=9) (Au Cda.2 AF) (by kernel_rfl) hp
def B3p:=DM Ba6 Cda
abbrev Cdf:=B3p
abbrev DQ:Type:=Ae×Int×Int×Int×Int×Int×Int×Int×Int×Int×Int×Int×Int×Int×Int×Int×(List AU)
def Ayi:DQ→St
  |(a0,a1,a2,a3,a4,a5,a6,a7,a8,a9,a10,a11,ax,ay,a14,ba,a16)=>⟨120,6,[(0,.sl .u8 a0),(2,.own 0 0),(5,.own 1 0),(6,.v (.int .i64 a1)),(7,.v (.int .i64 a2)),(12,.v (.int .i64 a3))],[(0,some (.box 29 [.v (.int .i64 a4),.v (.int .i64 a5),.v (.int .i64 a6),.v (.int .i64 a7),.v (.int .i64 a8),.v (.int .i64 a9),.v (.slice none 0 0)])),(1,some (.box 29 [.v (.int .i64 a10),.v (.int .i64 a11),.v (.int .i64 ax),.v (.int .i64 ay),.v (.int .i64 a14),.v (.int .i64 ba),.sq 5])),(5,some (.arr 102 4 (.ty .write a16)))]⟩
def YH:St→Option DQ
 |⟨120,6,[(0,.sl .u8 z0),(2,.own 0 0),(5,.own 1 0),(6,.v (.int .i64 z1)),(7,.v (.int .i64 z2)),(12,.v (.int .i64 z3))],[(0,some (.box 29 [.v (.int .i64 z4),.v (.int .i64 z5),.v (.int .i64 z6),.v (.int .i64 z7),.v (.int .i64 z8),.v (.int .i64 z9),.v (.slice none 0 0)])),(1,some (.box 29 [.v (.int .i64 iq),.v (.int .i64 m9),.v (.int .i64 tu),.v (.int .i64 tv),.v (.int .i64 tw),.v (.int .i64 tx),.sq 5])),(5,some (.arr 102 4 (.ty .write tz)))]⟩=>some (z0,z1,z2,z3,z4,z5,z6,z7,z8,z9,iq,m9,tu,tv,tw,tx,tz)
 |_=>none
def Ayh:Em:=⟨5,6,[0,2,5,6,7,12],[],[(0,0),(1,1),(8,5)],[0,1,8],[7,3,4],[0,1,5]⟩
def Ayg:EQ:=⟨[.nilB 1 6 102 .write],[(0,0),(1,1),(4,5)],[0,2,5,6,7,12],[0,1,4]⟩
def AW (a0:Ae) (a2:Int):Ae:=List.take ((a0.length:Int).toNat - a2.toNat) (List.drop a2.toNat a0)
def UN (a0:Ae) (a2:Int):Int:=CY (AW a0 a2)
def UM (a0:Ae) (a2:Int):Int:=B9 (AW a0 a2)
def UL (a0:Ae) (a2:Int):Int:=JJ (AW a0 a2)
def D0 (a0:Ae) (a2:Int):Int:=(↑(AW a0 a2).length:Int)
def CZ (a0:Ae) (a1 a2 a3:Int):Bool:=!!decide (a3 <a1)&&!Gu (AW a0 a2)
def PM (a0:Ae) (a2:Int):Int:=IntKind.i64.wrap (a2+Kv (AW a0 a2))
def OY (a0:Ae) (a2:Int) (a16:List AU):List AU:=a16++[Nt (AW a0 a2)]
def Ak3 (a0:Ae) (a1 a2 a3:Int):Bool:=!!decide (a3 <a1)&&!(CZ a0 a1 a2 a3)
def UK (a0:Ae) (a1 a2 a3:Int):Bool:=(CZ a0 a1 a2 a3)
def EW:DQ→DQ
  |(a0,a1,a2,a3,a4,a5,a6,a7,a8,a9,a10,a11,ax,ay,a14,ba,a16)=>(a0,a1,PM a0 a2,IntKind.i64.wrap (a3+1),a4,a5,a6,a7,a8,a9,a10,a11,ax,ay,a14,ba,OY a0 a2 a16)
def D1 (x:DQ):El:=some (Ak3 x.1 x.2.1 x.2.2.1 x.2.2.2.1)
def WF:DQ→List Prop
  |(a0,a1,a2,a3,_,_,_,_,_,_,_,_,_,_,_,_,a16)=>[((!!decide (a3 <a1))=true→0≤a2∧a2≤(a0.length:Int)∧(a0.length:Int)≤(a0.length:Int)),((!!decide (a3 <a1))=true→Af (AW a0 a2).length),((!!decide (a3 <a1))=true→(!DJ (AW a0 a2))=true→0≤(UL a0 a2)∧(UL a0 a2)≤(D0 a0 a2)∧(D0 a0 a2)≤(D0 a0 a2)),((!!decide (a3 <a1))=true→(!DJ (AW a0 a2))=true→(!Ec (AW a0 a2))=true→0≤(UM a0 a2)∧(UM a0 a2)≤(D0 a0 a2)∧(D0 a0 a2)≤(D0 a0 a2)),((!!decide (a3 <a1))=true→(!DJ (AW a0 a2))=true→(!Ec (AW a0 a2))=true→(!Eb (AW a0 a2))=true→Fo (AW a0 a2)=true→0≤(UN a0 a2)∧(UN a0 a2)≤(D0 a0 a2)∧(D0 a0 a2)≤(D0 a0 a2)),((!!decide (a3 <a1))=true→(!DJ (AW a0 a2))=true→(!Ec (AW a0 a2))=true→(!Eb (AW a0 a2))=true→Fo (AW a0 a2)=true→Af (M7 (AW a0 a2)).length),((!!decide (a3 <a1))=true→(!!Gu (AW a0 a2))=true→Af (a16.length+1))]
abbrev N7:DQ→List Prop:=WF
def Ak4:DQ→BD
  |(a0,a1,a2,a3,a4,a5,a6,a7,a8,a9,a10,a11,ax,ay,a14,ba,a16)=>[(some 0,some (!decide (a3 <a1)),⟨120,6,[(7,.v (.int .i64 a2)),(3,.dead),(4,.dead)],[(0,some (.box 29 [.v (.int .i64 a4),.v (.int .i64 a5),.v (.int .i64 a6),.v (.int .i64 a7),.v (.int .i64 a8),.v (.int .i64 a9),.v (.slice none 0 0)])),(1,some (.box 29 [.v (.int .i64 a10),.v (.int .i64 a11),.v (.int .i64 ax),.v (.int .i64 ay),.v (.int .i64 a14),.v (.int .i64 ba),.sq 5])),(5,some (.arr 102 4 (.ty .write a16)))]⟩),(none,some (UK a0 a1 a2 a3),⟨120,7,[(7,.v (.int .i64 a2)),(3,.v (.int .i64 0)),(4,.v (.bool (false)))],[(0,some (.box 29 [.v (.int .i64 a10),.v (.int .i64 a11),.v (.int .i64 ax),.v (.int .i64 ay),.v (.int .i64 a14),.v (.int .i64 ba),.sq 5])),(1,some (.box 29 [.v (.int .i64 a10),.v (.int .i64 a11),.v (.int .i64 ax),.v (.int .i64 ay),.v (.int .i64 a14),.v (.int .i64 ba),.sq 5])),(5,some (.arr 102 4 (.ty .write a16)))]⟩)]
def OZ (x:DQ):Nat:=(x.2.1 - x.2.2.2.1).toNat
def PN (x:DQ):DQ:=Bh EW D1 (OZ x) x
def Aqp:=Jt (Co Cdf.1 L0) (Aw AP 110 0) Ayh Ayg YH OZ EW D1 N7 Ak4
def Abr:=V8 0 (g:=Aqp) (BX (T:=Ayi) (psA:=WF) Cdf.2 AF (u:=9) (by kernel_rfl) (by decide) (fun⟨a0,a1,a2,a3,a4,a5,a6,a7,a8,a9,a10,a11,ax,ay,a14,ba,a16⟩=>by kernel_rfl) (fun _ h=>h) (fun s x h=>by unfold YH at h;split at h<;>first|(cases h;rfl)|cases h) (fun _=>A9 (n:=120) rfl) fun _ _=>rfl) ⟨L0,AF⟩
def Cq (a0:Ae):Bool:=(Ad a0).2.2 !=0
def Nu (a0:Ae):=Ad (List.take ((a0.length:Int).toNat - (Ad a0).2.1.toNat) (List.drop (Ad a0).2.1.toNat a0))
def DZ (a0:Ae):Int:=(Nu a0).1
def Cp (a0:Ae):Bool:=(Nu a0).2.2 !=0
def Bx (a0:Ae):Int:=IntKind.i64.wrap ((Ad a0).2.1+(Nu a0).2.1)
def BC (a0:Ae):=BB (List.take ((a0.length:Int).toNat - (Bx a0).toNat) (List.drop (Bx a0).toNat a0))
def CA (a0:Ae):Bool:=(BC a0).2.2 !=0
def Bw (a0:Ae):Int:=IntKind.i64.wrap ((Bx a0)+(BC a0).2.1)
def BU (a0:Ae):=AB (List.take ((a0.length:Int).toNat - (Bw a0).toNat) (List.drop (Bw a0).toNat a0))
def CI (a0:Ae):Bool:=(BU a0).2.2 !=0
def Be (a0:Ae):Int:=IntKind.i64.wrap ((Bw a0)+(BU a0).2.1)
def CG (a0:Ae):=Ad (List.take ((a0.length:Int).toNat - (Be a0).toNat) (List.drop (Be a0).toNat a0))
def BT (a0:Ae):=PN (a0,(CG a0).1,IntKind.i64.wrap ((Be a0)+(CG a0).2.1),0,0,0,0,0,0,0,(Ad a0).1,(DZ a0),(BC a0).1.1,(BC a0).1.2,(BU a0).1.1,(BU a0).1.2,[])
def YG (a0:Ae):Int:=(BT a0).2.2.2.2.2.2.2.2.2.2.1
def YF (a0:Ae):Int:=(BT a0).2.2.2.2.2.2.2.2.2.2.2.1
def YE (a0:Ae):Int:=(BT a0).2.2.2.2.2.2.2.2.2.2.2.2.1
def YD (a0:Ae):Int:=(BT a0).2.2.2.2.2.2.2.2.2.2.2.2.2.1
def YC (a0:Ae):Int:=(BT a0).2.2.2.2.2.2.2.2.2.2.2.2.2.2.1
def YB (a0:Ae):List AU:=(BT a0).2.2.2.2.2.2.2.2.2.2.2.2.2.2.2.2
def YA (a0:Ae):Int:=(BT a0).2.2.2.2.2.2.2.2.2.2.2.2.2.2.2.1
def Dz (a0:Ae):Bool:=(CG a0).2.2 !=0||decide ((CG a0).1 >8)
def Gj (a0:Ae):Bool:=UK (BT a0).1 (BT a0).2.1 (BT a0).2.2.1 (BT a0).2.2.2.1
def OS (a0:Ae):Int:=bif(Cq a0) then 0 else bif(Cp a0) then(Ad a0).1 else bif(CA a0) then(Ad a0).1 else bif(CI a0) then(Ad a0).1 else bif(Dz a0) then(Ad a0).1 else bif(Gj a0) then(YG a0) else(YG a0)
def OT (a0:Ae):Int:=bif(Cq a0) then 0 else bif(Cp a0) then 0 else bif(CA a0) then(DZ a0) else bif(CI a0) then(DZ a0) else bif(Dz a0) then(DZ a0) else bif(Gj a0) then(YF a0) else(YF a0)
def OU (a0:Ae):Int:=bif(Cq a0) then 0 else bif(Cp a0) then 0 else bif(CA a0) then 0 else bif(CI a0) then(BC a0).1.1 else bif(Dz a0) then(BC a0).1.1 else bif(Gj a0) then(YE a0) else(YE a0)
def OV (a0:Ae):Int:=bif(Cq a0) then 0 else bif(Cp a0) then 0 else bif(CA a0) then 0 else bif(CI a0) then(BC a0).1.2 else bif(Dz a0) then(BC a0).1.2 else bif(Gj a0) then(YD a0) else(YD a0)
def OW (a0:Ae):Int:=bif(Cq a0) then 0 else bif(Cp a0) then 0 else bif(CA a0) then 0 else bif(CI a0) then 0 else bif(Dz a0) then(BU a0).1.1 else bif(Gj a0) then(YC a0) else(YC a0)
def OX (a0:Ae):Int:=bif(Cq a0) then 0 else bif(Cp a0) then 0 else bif(CA a0) then 0 else bif(CI a0) then 0 else bif(Dz a0) then(BU a0).1.2 else bif(Gj a0) then(YA a0) else(YA a0)
def M9 (a0:Ae):Int:=bif(Cq a0) then 0 else bif(Cp a0) then 0 else bif(CA a0) then 0 else bif(CI a0) then 0 else bif(Dz a0) then 0 else bif(Gj a0) then 0 else(BT a0).2.2.1
def EO (a0:Ae):Bool:=bif(Cq a0) then false else bif(Cp a0) then false else bif(CA a0) then false else bif(CI a0) then false else bif(Dz a0) then false else bif(Gj a0) then false else true
def J1 (a0:Ae):List AU:=bif(Cq a0) then[] else bif(Cp a0) then[] else bif(CA a0) then[] else bif(CI a0) then[] else bif(Dz a0) then[] else bif(Gj a0) then(YB a0) else(YB a0)
def Aer (a0:Ae):A:=.tup [.agg [iV (OS a0),iV (OT a0),iV (OU a0),iV (OV a0),iV (OW a0),iV (OX a0),.sq 0],iV (M9 a0),.v (.bool (EO a0))]
def Aeq (a0:Ae):AE:=[(0,some (.arr 102 4 (.ty .write (J1 a0))))]
def Aob (a0:Ae):=(!(Cq a0))=true→(!(Cp a0))=true→(!(CA a0))=true→(!(CI a0))=true→(!(Dz a0))=true→A8 EW D1 N7 (OZ (a0,(CG a0).1,IntKind.i64.wrap ((Be a0)+(CG a0).2.1),0,0,0,0,0,0,0,(Ad a0).1,(DZ a0),(BC a0).1.1,(BC a0).1.2,(BU a0).1.1,(BU a0).1.2,[])) (a0,(CG a0).1,IntKind.i64.wrap ((Be a0)+(CG a0).2.1),0,0,0,0,0,0,0,(Ad a0).1,(DZ a0),(BC a0).1.1,(BC a0).1.2,(BU a0).1.1,(BU a0).1.2,[])
def Aoc (a0:Ae):=(!(Cq a0))=true→(!(Cp a0))=true→(!(CA a0))=true→(!(CI a0))=true→0≤(Be a0)∧(Be a0)≤(a0.length:Int)∧(a0.length:Int)≤(a0.length:Int)
def Aod (a0:Ae):=(!(Cq a0))=true→(!(Cp a0))=true→(!(CA a0))=true→0≤(Bw a0)∧(Bw a0)≤(a0.length:Int)∧(a0.length:Int)≤(a0.length:Int)
def Aoe (a0:Ae):=(!(Cq a0))=true→(!(Cp a0))=true→0≤(Bx a0)∧(Bx a0)≤(a0.length:Int)∧(a0.length:Int)≤(a0.length:Int)
def Aof (a0:Ae):=(!(Cq a0))=true→0≤(Ad a0).2.1∧(Ad a0).2.1≤(a0.length:Int)∧(a0.length:Int)≤(a0.length:Int)
def YI (a0:Ae):List Prop:=[(Aof a0),(Aoe a0),(Aod a0),(Aoc a0),(Aob a0)]
theorem Ba7 (a0:Ae):RL (Co Cdf.1 Abr.1) 9 110 [AA .bytes a0] 0 []=some (1,Aer a0,1,Aeq a0,[(Aof a0),(Aoe a0),(Aod a0),(Aoc a0),((!(Cq a0))=true→(!(Cp a0))=true→(!(CA a0))=true→(!(CI a0))=true→(!(Dz a0))=true→Aw AP 110 0=Aw AP 110 0),(Aob a0)]):=by kernel_rfl
theorem Bgj (a0:Ae) (hp:∀p∈YI a0,p):An AP 110 [AA .bytes a0] 0 [] 1 (Aer a0) 1 (Aeq a0):=
  AN (Au Cdf.2 Abr.2) (Ba7 a0) (nT hp fun hp=>nT hp fun hp=>nT hp fun hp=>nT hp fun hp=>Aa (by intros;rfl) (nT hp fun _=>Ag))
abbrev Ps (α:Type):=Ae→Option (α×Ae)
namespace Ps
variable {α β:Type}
def pure (x:α):Ps α:=fun b=>some (x,b)
def bind (p:Ps α) (f:α→Ps β):Ps β:=fun b=>match p b with
 |some (x,r)=>f x r
 |none=>none
def fail:Ps α:=fun _=>none
def ofG (get:Ae→α×Int×Int):Ps α:=fun b=>if(get b).2.2=0 then some ((get b).1,b.drop (get b).2.1.toNat) else none
def many (p:Ps α):Nat→Ps (List α)
 |0=>pure []
 |n+1=>bind p fun x=>bind (many p n) fun l=>pure (x::l)
end Ps
structure QB {α:Type} (p:Ps α) (good:α→Prop) (put:α→Ae):Prop where
 back:∀x r,good x→p (put x++r)=some (x,r)
 front:∀b x r,p b=some (x,r)→good x∧b=put x++r
section
variable {α β:Type}
theorem QB.ofRd {get:Ae→α×Int×Int} {good:α→Prop} {put:α→Ae} (h:Rd get good put):QB (Ps.ofG get) good put where
 back:=fun x r hx=>by
  unfold Ps.ofG
  rw[h.back x r hx]
  simp
 front:=fun b x r hp=>by
  unfold Ps.ofG at hp
  split at hp
  ·rename_i h0
   cases hp
   obtain⟨h1,h2,r,h3⟩:=h.front b (get b).1 (get b).2.1 (by rw[←h0])
   refine⟨h1,?_⟩
   have h4:=congrArg (List.drop (put (get b).1).length) h3
   rw[List.drop_left] at h4
   rw[h2,Int.toNat_natCast,h4]
   exact h3
  ·cases hp
theorem QB.many {p:Ps α} {good:α→Prop} {put:α→Ae} (h:QB p good put):∀n,QB (Ps.many p n) (fun l=>l.length=n∧∀x∈l,good x) (fun l=>l.flatMap put)
 | 0=>⟨fun x r hx=>by
   obtain rfl:=List.length_eq_zero_iff.1 hx.1
   rfl,fun b x r hp=>by cases hp;exact⟨⟨rfl,fun x hx=>by cases hx⟩,rfl⟩⟩
 | n+1=>⟨fun l r hl=>by
   cases l with
   |nil=>cases hl.1
   |cons x l=>
    have h1:=h.back x (l.flatMap put++r) (hl.2 x (List.mem_cons_self ..))
    have h2:=(QB.many h n).back l r ⟨Nat.succ.inj hl.1,fun y hy=>hl.2 y (List.mem_cons_of_mem _ hy)⟩
    show Ps.bind p _ _=_
    unfold Ps.bind
    rw[List.flatMap_cons,List.append_assoc,h1]
    simp only
    rw[h2]
    rfl,fun b l r hp=>by
   have gh:Ps.bind p _ b=_:=hp
   unfold Ps.bind at gh
   split at gh<;>first|(cases gh;done)|skip
   rename_i x r1 h1
   simp only at gh
   split at gh<;>first|(cases gh;done)|skip
   rename_i l1 r2 h2
   cases gh
   obtain⟨g1,g2⟩:=h.front _ _ _ h1
   obtain⟨g3,g4⟩:=(QB.many h n).front _ _ _ h2
   refine⟨⟨by rw[List.length_cons,g3.1],fun y hy=>?_⟩,by rw[List.flatMap_cons,List.append_assoc,g2,g4]⟩
   rcases List.mem_cons.1 hy with rfl|hy
   ·exact g1
   ·exact g3.2 y hy⟩
end
structure U2 {α:Type} (st:Ae→Int→Bool→α×Int×Bool) (p:Ps α):Prop where
 inb:∀b k bad,Ol b k→Ol b (st b k bad).2.1
 bad:∀b k,Ol b k→(st b k true).2.2=true
 none:∀b k,Ol b k→p (b.drop k.toNat)=none→(st b k false).2.2=true
 some:∀b k x r,Ol b k→p (b.drop k.toNat)=some (x,r)→(st b k false).1=x∧(st b k false).2.2=false∧b.drop (st b k false).2.1.toNat=r
section
variable {α β:Type}
theorem U2.bind {st:Ae→Int→Bool→α×Int×Bool} {p:Ps α} {im:α→Ae→Int→Bool→β×Int×Bool} {p2:α→Ps β} (h:U2 st p) (h2:∀x,U2 (im x) (p2 x)):
  U2 (fun b k bad=>im (st b k bad).1 b (st b k bad).2.1 (st b k bad).2.2) (Ps.bind p p2) where
 inb:=fun b k bad hk=>(h2 _).inb _ _ _ (h.inb b k bad hk)
 bad:=fun b k hk=>by
  show(im _ b _ (st b k true).2.2).2.2=true
  rw[h.bad b k hk]
  exact(h2 _).bad _ _ (h.inb b k true hk)
 none:=fun b k hk hp=>by
  show(im _ b _ (st b k false).2.2).2.2=true
  unfold Ps.bind at hp
  split at hp
  ·rename_i x r h1
   obtain⟨g1,g2,g3⟩:=h.some b k x r hk h1
   rw[g1,g2]
   exact(h2 x).none _ _ (h.inb b k false hk) (by rw[g3];exact hp)
  ·rename_i h1
   rw[h.none b k hk h1]
   exact(h2 _).bad _ _ (h.inb b k false hk)
 some:=fun b k y r hk hp=>by
  show(im (st b k false).1 b (st b k false).2.1 (st b k false).2.2).1=y∧(im (st b k false).1 b (st b k false).2.1 (st b k false).2.2).2.2=false∧b.drop (im (st b k false).1 b (st b k false).2.1 (st b k false).2.2).2.1.toNat=r
  unfold Ps.bind at hp
  split at hp
  ·rename_i x r1 h1
   obtain⟨g1,g2,g3⟩:=h.some b k x r1 hk h1
   rw[g1,g2]
   exact(h2 x).some _ _ y r (h.inb b k false hk) (by rw[g3];exact hp)
  ·cases hp
theorem U2.pure (x:α):U2 (fun _ k bad=>(x,k,bad)) (Ps.pure x) where
 inb:=fun _ _ _ h=>h
 bad:=fun _ _ _=>rfl
 none:=fun _ _ _ h=>by cases h
 some:=fun _ _ _ _ _ h=>by cases h;exact⟨rfl,rfl,rfl⟩
theorem U2.fail (x:α):U2 (fun _ k _=>(x,k,true)) (Ps.fail:Ps α) where
 inb:=fun _ _ _ h=>h
 bad:=fun _ _ _=>rfl
 none:=fun _ _ _ _=>rfl
 some:=fun _ _ _ _ _ h=>by cases h
theorem U2.ofG {get:Ae→α×Int×Int} (h:∀b,0≤(get b).2.1∧(get b).2.1≤(b.length:Int)):U2 (fun b k bad=>((get (b.drop k.toNat)).1,k+(get (b.drop k.toNat)).2.1,bad||(get (b.drop k.toNat)).2.2 !=0)) (Ps.ofG get) where
 inb:=fun b k bad hk=>by
  obtain⟨h1,h2,h3⟩:=hk
  have:=h (b.drop k.toNat)
  rw[List.length_drop] at this
  exact⟨by show 0≤k+_;omega,by show k+_≤_;omega,h3⟩
 bad:=fun _ _ _=>rfl
 none:=fun b k hk hp=>by
  unfold Ps.ofG at hp
  split at hp
  ·cases hp
  ·rename_i h0
   show(false||(get (b.drop k.toNat)).2.2 !=0)=true
   simpa using h0
 some:=fun b k x r hk hp=>by
  unfold Ps.ofG at hp
  split at hp
  ·rename_i h0
   cases hp
   refine⟨rfl,?_,?_⟩
   ·show(false||(get (b.drop k.toNat)).2.2 !=0)=false
    rw[h0];rfl
   ·show b.drop (k+(get (b.drop k.toNat)).2.1).toNat=_
    rw[List.drop_drop]
    congr 1
    have:=h (b.drop k.toNat)
    have:=hk.1
    omega
  ·cases hp
end
theorem Bbq:U2 FH (Ps.ofG Ad):=U2.ofG fun b=>⟨(AZ b).1,(AZ b).2.1⟩
theorem Bzo (m:Int):U2 (NA m) (Ps.ofG fun b=>Bm b m):=U2.ofG (get:=fun b=>Bm b m) fun b=>⟨(Gd b m).1,(Gd b m).2⟩
def psW:Ps AU:=Ps.bind (Ps.ofG fun b=>Bm b 32) fun k=>Ps.bind (Ps.ofG Ad) fun g=>Ps.bind (Ps.ofG Ad) fun o=>
 if o=0 then Ps.bind (Ps.ofG fun b=>Bm b 64) fun v=>Ps.pure ⟨k,g,false,v⟩ else if o=1 then Ps.pure ⟨k,g,true,⟨#[]⟩⟩ else Ps.fail
def Bxp (k:ByteArray) (g o:Int) (b:Ae) (at_:Int) (bad:Bool):AU×Int×Bool:=
 if o=0 then(⟨k,g,false,(NA 64 b at_ bad).1⟩,(NA 64 b at_ bad).2) else if o=1 then(⟨k,g,true,⟨#[]⟩⟩,at_,bad) else(⟨k,g,false,⟨#[]⟩⟩,at_,true)
theorem B2n (k:ByteArray) (g o:Int):U2 (Bxp k g o) (if o=0 then Ps.bind (Ps.ofG fun b=>Bm b 64) fun v=>Ps.pure ⟨k,g,false,v⟩ else if o=1 then Ps.pure ⟨k,g,true,⟨#[]⟩⟩ else Ps.fail):=by
 unfold Bxp
 by_cases h0:o=0
 ·simp only[if_pos h0]
  exact U2.bind (Bzo 64) fun v=>U2.pure _
 ·simp only[if_neg h0]
  by_cases h1:o=1
  ·simp only[if_pos h1]
   exact U2.pure _
  ·simp only[if_neg h1]
   exact U2.fail _
theorem B22 (b:Ae) (at_:Int) (bad:Bool):W7 b at_ bad=Bxp (NA 32 b at_ bad).1 (FH b (NA 32 b at_ bad).2.1 (NA 32 b at_ bad).2.2).1 (FH b (FH b (NA 32 b at_ bad).2.1 (NA 32 b at_ bad).2.2).2.1 (FH b (NA 32 b at_ bad).2.1 (NA 32 b at_ bad).2.2).2.2).1 b
  (FH b (FH b (NA 32 b at_ bad).2.1 (NA 32 b at_ bad).2.2).2.1 (FH b (NA 32 b at_ bad).2.1 (NA 32 b at_ bad).2.2).2.2).2.1 (FH b (FH b (NA 32 b at_ bad).2.1 (NA 32 b at_ bad).2.2).2.1 (FH b (NA 32 b at_ bad).2.1 (NA 32 b at_ bad).2.2).2.2).2.2:=by
 unfold W7 Bxp
 dsimp only
 generalize FH b (FH b (NA 32 b at_ bad).2.1 (NA 32 b at_ bad).2.2).2.1 (FH b (NA 32 b at_ bad).2.1 (NA 32 b at_ bad).2.2).2.2=o
 by_cases h0:o.1=0
 ·rw[show(o.1==0)=true by simpa using h0,if_pos h0];rfl
 ·rw[show(o.1==0)=false by simpa using h0,if_neg h0]
  by_cases h1:o.1=1
  ·rw[show(o.1==1)=true by simpa using h1,if_pos h1];rfl
  ·rw[show(o.1==1)=false by simpa using h1,if_neg h1];rfl
theorem B6l:U2 W7 psW:=by
 have h:=U2.bind (Bzo 32) fun k=>U2.bind Bbq fun g=>U2.bind Bbq fun o=>B2n k g o
 have e:W7=_:=funext fun b=>funext fun at_=>funext fun bad=>B22 b at_ bad
 rw[e]
 exact h
def rdW (w:AU):Prop:=(w.key.size:Int)≤32∧okN w.group∧(w.gone=true→w.value=⟨#[]⟩)∧(w.gone=false→(w.value.size:Int)≤64)
section
variable {α β:Type}
theorem Ps.bind_is {p:Ps α} {f:α→Ps β} {b:Ae} {y:β} {r:Ae} (h:Ps.bind p f b=some (y,r)):∃x r1,p b=some (x,r1)∧f x r1=some (y,r):=by
 unfold Ps.bind at h
 split at h<;>try(cases h;done)
 rename_i x r1 h1
 exact⟨x,r1,h1,h⟩
theorem Ps.bind_at {p:Ps α} {f:α→Ps β} {b:Ae} {x:α} {r:Ae} (h:p b=some (x,r)):Ps.bind p f b=f x r:=by
 unfold Ps.bind
 rw[h]
theorem QB.next {p:Ps α} {good:α→Prop} {put:α→Ae} (h:QB p good put) {f:α→Ps β} {x:α} {t:Ae} (hx:good x):Ps.bind p f (put x++t)=f x t:=Ps.bind_at (h.back x t hx)
end
theorem W6:QB (Ps.ofG Ad) okN FO:=QB.ofRd rdN
theorem B6e:QB (Ps.ofG BB) (fun s=>HA s=true) X8:=QB.ofRd rdS
theorem B6f:QB (Ps.ofG AB) (fun v=>FK v=true) Nz:=QB.ofRd rdV
theorem Bsq {m:Int} (hm:m≤4611686018427387903):QB (Ps.ofG fun b=>Bm b m) (fun t=>(t.size:Int)≤m) Ot:=QB.ofRd (rdT hm)
theorem B7q:okN 0:=⟨by omega,by omega⟩
theorem B7r:okN 1:=⟨by omega,by omega⟩
theorem B2h:QB psW rdW A0x where
 back:=fun w r h=>by
  obtain⟨h1,h2,h3,h4⟩:=h
  obtain⟨k,g,o,v⟩:=w
  unfold psW A0x
  cases o with
  |true=>
   obtain rfl:v=⟨#[]⟩:=h3 rfl
   simp only[cond_true,List.append_assoc]
   rw[(Bsq (by omega)).next h1,W6.next h2,W6.next B7r,if_neg (by omega),if_pos rfl]
   rfl
  |false=>
   simp only[cond_false,List.append_assoc]
   rw[(Bsq (by omega)).next h1,W6.next h2,W6.next B7q,if_pos rfl,(Bsq (by omega)).next (h4 rfl)]
   rfl
 front:=fun b w r h=>by
  unfold psW at h
  obtain⟨k,r1,a1,e1⟩:=Ps.bind_is h
  clear h
  obtain⟨g,r2,a2,e2⟩:=Ps.bind_is e1
  clear e1
  obtain⟨o,r3,a3,h⟩:=Ps.bind_is e2
  clear e2
  obtain⟨b1,rfl⟩:=(Bsq (by omega)).front _ _ _ a1
  obtain⟨b2,rfl⟩:=W6.front _ _ _ a2
  obtain⟨b3,rfl⟩:=W6.front _ _ _ a3
  split at h
  ·rename_i h0
   subst h0
   obtain⟨v,r4,a4,e4⟩:=Ps.bind_is h
   clear h
   obtain⟨b4,rfl⟩:=(Bsq (by omega)).front _ _ _ a4
   cases e4
   refine⟨⟨b1,b2,(fun hf=>by cases hf),fun _=>b4⟩,?_⟩
   unfold A0x
   simp only[cond_false,List.append_assoc]
  ·split at h
   ·rename_i h1
    subst h1
    cases h
    refine⟨⟨b1,b2,fun _=>rfl,fun hf=>by cases hf⟩,?_⟩
    unfold A0x
    simp only[cond_true,List.append_assoc]
   ·cases h
def psC:Ps Ao:=Ps.bind (Ps.ofG Ad) fun a=>Ps.bind (Ps.ofG Ad) fun q=>Ps.bind (Ps.ofG BB) fun s=>Ps.bind (Ps.ofG AB) fun v=>Ps.bind (Ps.ofG Ad) fun k=>
 if 8 <k then Ps.fail else Ps.bind (Ps.many psW k.toNat) fun ws=>Ps.pure ⟨a,q,s,v,ws⟩
def rdC (c:Ao):Prop:=okN c.site∧okN c.seq∧HA c.stamp=true∧FK c.vec=true∧c.writes.length≤8∧∀w∈c.writes,rdW w
def A31 (c:Ao):Ae:=Bjc c++c.writes.flatMap A0x
theorem Bw0:QB psC rdC A31 where
 back:=fun c r h=>by
  obtain⟨h1,h2,h3,h4,h5,h6⟩:=h
  obtain⟨a,q,s,v,ws⟩:=c
  simp only at h1 h2 h3 h4 h5 h6
  unfold psC A31 Bjc
  simp only[List.append_assoc]
  rw[W6.next h1,W6.next h2,B6e.next h3,B6f.next h4,W6.next ⟨by omega,by omega⟩,if_neg (by omega),Int.toNat_natCast,(B2h.many ws.length).next ⟨rfl,h6⟩]
  rfl
 front:=fun b c r h=>by
  unfold psC at h
  obtain⟨a,r1,a1,e1⟩:=Ps.bind_is h
  clear h
  obtain⟨q,r2,a2,e2⟩:=Ps.bind_is e1
  clear e1
  obtain⟨s,r3,a3,e3⟩:=Ps.bind_is e2
  clear e2
  obtain⟨v,r4,a4,e4⟩:=Ps.bind_is e3
  clear e3
  obtain⟨k,r5,a5,e5⟩:=Ps.bind_is e4
  clear e4
  split at e5
  ·cases e5
  rename_i hk
  obtain⟨ws,r6,a6,e6⟩:=Ps.bind_is e5
  clear e5
  cases e6
  obtain⟨b1,rfl⟩:=W6.front _ _ _ a1
  obtain⟨b2,rfl⟩:=W6.front _ _ _ a2
  obtain⟨b3,rfl⟩:=B6e.front _ _ _ a3
  obtain⟨b4,rfl⟩:=B6f.front _ _ _ a4
  obtain⟨b5,rfl⟩:=W6.front _ _ _ a5
  obtain⟨⟨b6,b7⟩,rfl⟩:=(B2h.many _).front _ _ _ a6
  have hn:(ws.length:Int)=k:=by rw[b6];exact Int.toNat_of_nonneg b5.1
  refine⟨⟨b1,b2,b3,b4,by show ws.length≤8;omega,b7⟩,?_⟩
  unfold A31 Bjc
  simp only[List.append_assoc,hn]
end Go.Proofs.YtifkbgkbajncjaaGreatDoor
namespace Go.Proofs.YtifkbgkbajncjaaGreatDoor
open Go.RowKit
def Z8 (l:List Ab) (cs:List Ax) (i:Nat):Ae:=(List.range i).flatMap fun j=>Mx (XY l j) (MB cs j)
theorem Zv (l:List Ab) (cs:List Ax) (i:Nat):Z8 l cs (i+1)=Z8 l cs i++Mx (XY l i) (MB cs i):=by
 unfold Z8
 rw[List.range_succ,List.flatMap_append]
 simp
theorem Biw {l:List Ab} {cs:List Ax} (hl:cs.length=l.length):∀i,i≤l.length→RK l cs i=Z8 l cs i
 |0,_=>by simp[RK,Z8]
 |i+1,h=>by rw[Asr hl (by omega),Zv,Biw hl i (by omega)]
theorem Azs {cs:List Ax} {x:Ax} {j:Nat} (h:j <cs.length):MB (cs++[x]) j=MB cs j:=by
 unfold MB
 rw[List.getD_eq_getElem?_getD,List.getD_eq_getElem?_getD,List.getElem?_append_left h]
theorem Bdb (cs:List Ax) (x:Ax):MB (cs++[x]) cs.length=x:=by
 unfold MB
 rw[List.getD_eq_getElem?_getD]
 simp
theorem Bqk (l:List Ab) (cs:List Ax) (x:Ax) (i:Nat) (_h:i≤cs.length):Z8 l (cs++[x]) i=Z8 l cs i:=by
 induction i with
 |zero=>simp[Z8]
 |succ i ih=>rw[Zv,Zv,ih (by omega),Azs (by omega)]
theorem Az9 {b pre:Ae} {l:List Ab} (hb:∃r,b=pre++r):∀i,(∀j,j <i→On b l (pre.length:Int) j=false)→
  (∃r,b=pre++(Z8 l (csN b l (pre.length:Int) i) i++r))∧MA b l (pre.length:Int) i=((pre++Z8 l (csN b l (pre.length:Int) i) i).length:Int)∧∀j,j <i→Gs (XY l j) (MB (csN b l (pre.length:Int) i) j)=true
 |0,_=>⟨hb,by simp[MA,Z8],fun j hj=>absurd hj (Nat.not_lt_zero _)⟩
 | i+1,h=>by
  obtain⟨⟨r,h1⟩,h2,h3⟩:=Az9 hb i fun j hj=>h j (by omega)
  have hc:=h i (Nat.lt_succ_self i)
  unfold On at hc
  have h0:(Ts b l (MA b l (pre.length:Int) i) i).2.2=0:=by simpa using hc
  have hg:IF (b.drop (MA b l (pre.length:Int) i).toNat) (XY l i)=((Ts b l (MA b l (pre.length:Int) i) i).1,(Ts b l (MA b l (pre.length:Int) i) i).2.1,0):=by
   rw[←h0];rfl
  obtain⟨g1,g2,r',g3⟩:=Adi hg
  have hlen:=Asj b l (pre.length:Int) i
  have cn:csN b l (pre.length:Int) (i+1)=csN b l (pre.length:Int) i++[(Ts b l (MA b l (pre.length:Int) i) i).1]:=rfl
  have kr:MB (csN b l (pre.length:Int) (i+1)) i=(Ts b l (MA b l (pre.length:Int) i) i).1:=by
   rw[cn]
   conv=>lhs;rw[←hlen]
   rw[hlen]
   have:=Bdb (csN b l (pre.length:Int) i) (Ts b l (MA b l (pre.length:Int) i) i).1
   rw[hlen] at this
   exact this
  have oh:Z8 l (csN b l (pre.length:Int) (i+1)) (i+1)=Z8 l (csN b l (pre.length:Int) i) i++Mx (XY l i) (Ts b l (MA b l (pre.length:Int) i) i).1:=by
   rw[Zv,kr,cn,Bqk _ _ _ _ (by omega)]
  have hr:r=Mx (XY l i) (Ts b l (MA b l (pre.length:Int) i) i).1++r':=by
   have hn:(MA b l (pre.length:Int) i).toNat=(pre++Z8 l (csN b l (pre.length:Int) i) i).length:=by rw[h2,Int.toNat_natCast]
   rw[hn] at g3
   rw[←g3]
   have:=congrArg (List.drop (pre++Z8 l (csN b l (pre.length:Int) i) i).length) h1
   rw[←List.append_assoc,List.drop_left] at this
   exact this.symm
  refine⟨⟨r',?_⟩,?_,fun j hj=>?_⟩
  ·rw[oh,List.append_assoc,←hr]
   exact h1
  ·show MA b l (pre.length:Int) i+(Ts b l (MA b l (pre.length:Int) i) i).2.1=_
   rw[oh,g2,h2]
   simp only[List.length_append]
   omega
  ·by_cases e:j=i
   ·subst e
    rw[kr]
    exact g1
   ·rw[cn,Azs (by omega)]
    exact h3 j (by omega)
def QR (l:List Ab) (b:Ae):AR×Int×Int:=(⟨Un b l,Tr b l⟩,Qb b l,NJ b l)
theorem rdR (l:List Ab):Rd (QR l) (fun r=>BO l r=0) (Q7 l) where
 back:=fun r x h=>by
  obtain⟨h1,h2,h3,h4⟩:=Bw5 h x
  unfold QR
  rw[h1,h2,h3,h4]
 front:=fun b x k h=>by
  unfold QR at h
  injection h with h1 h
  injection h with h2 h3
  subst h1 h2
  have hK:Un b l=(Bm b 32).1:=by unfold Un;rw[h3];rfl
  have hA:Qb b l=MA b l (Bm b 32).2.1 l.length:=by unfold Qb;rw[h3];rfl
  have hL:Tr b l=csN b l (Bm b 32).2.1 l.length:=by unfold Tr;rw[h3];rfl
  have jl:AI l=0:=by
   unfold NJ at h3
   cases hg:AI l !=0 with
   |true=>rw[hg,cond_true] at h3;exact h3
   |false=>simpa using hg
  have kq:Uv b=true:=by
   unfold NJ at h3
   rw[jl] at h3
   cases hg:Uv b with
   |true=>rfl
   |false=>rw[hg] at h3;cases h3
  have ai:∀i,i <l.length→On b l (Bm b 32).2.1 i=false:=fun i hi=>by
   unfold NJ at h3
   rw[jl,kq] at h3
   cases hg:Kz l.length (fun i=>!On b l (Bm b 32).2.1 i) with
   |true=>
    have:=Hj.1 hg i hi
    simpa using this
   |false=>rw[hg] at h3;cases h3
  unfold Uv at kq
  have ar:(Bm b 32).2.2=0∧(Bm b 32).1≠⟨#[]⟩:=by
   simp only[Bool.not_eq_true',Bool.or_eq_false_iff,bne_eq_false_iff_eq,beq_eq_false_iff_ne] at kq
   exact kq
  obtain⟨t1,t2,t3⟩:=(rdT (m:=32) (by decide)).front b (Bm b 32).1 (Bm b 32).2.1 (by rw[←ar.1])
  rw[t2] at ai hL hA
  obtain⟨⟨r,g1⟩,g2,g3⟩:=Az9 t3 l.length ai
  have hlen:(Tr b l).length=l.length:=by rw[hL,Asj]
  have ko:BO l ⟨Un b l,Tr b l⟩=0:=by
   unfold BO
   have hz:((Un b l).size==0)=false:=by
    rw[beq_eq_false_iff_ne,hK]
    intro e
    apply ar.2
    generalize (Bm b 32).1=y at e
    obtain⟨⟨y⟩⟩:=y
    cases y with
    |nil=>rfl
    |cons z y=>cases e
   have wj:decide (32 <(Un b l).size)=false:=decide_eq_false (by rw[hK];have t1':((Bm b 32).1.size:Int)≤32:=t1;omega)
   have kv:((Tr b l).length !=l.length)=false:=by rw[hlen];simp
   have hal:(l.zip (Tr b l)).all (fun x=>Gs x.1.policy x.2)=true:=(Bi8 hlen).2 (by rw[hL];exact g3)
   show(bif AI l !=0 then AI l else bif(Un b l).size==0 then 2 else bif decide (32 <(Un b l).size) then 3 else bif(Tr b l).length !=l.length then 100 else bif(l.zip (Tr b l)).all (fun x=>Gs x.1.policy x.2) then 0 else 80)=(0:Int)
   rw[jl,hz,wj,kv,hal]
   rfl
  have ca:Q7 l ⟨Un b l,Tr b l⟩=Ot (Bm b 32).1++Z8 l (csN b l ((Ot (Bm b 32).1).length:Int) l.length) l.length:=by
   unfold Q7 Bev
   rw[ko]
   show Ot (Un b l)++(l.zip (Tr b l)).flatMap (fun x=>Mx x.1.policy x.2)=_
   rw[←A2w hlen,Biw hlen _ (Nat.le_refl _),hK,hL]
  refine⟨ko,?_,r,?_⟩
  ·rw[ca,hA,g2]
  ·rw[ca,List.append_assoc]
   exact g1
theorem B7t (l:List Ab):QB (Ps.ofG (QR l)) (fun r=>BO l r=0) (Q7 l):=QB.ofRd (rdR l)
def OI (l:List Ab):Ps Ao:=Ps.bind psC fun c=>if WY l c=0 then Ps.pure c else Ps.fail
theorem B6s {l:List Ab} {w:AU} (h:Aq8 l w=true) (_hl:(l.length:Int)≤4):rdW w:=by
 obtain⟨_,h2,h3,h4,h5,h6⟩:=Bye h
 refine⟨by omega,⟨h3,by omega⟩,fun hg=>?_,fun _=>by omega⟩
 have h0:=h6 hg
 generalize w.value=y at h0
 obtain⟨⟨y⟩⟩:=y
 cases y with
 |nil=>rfl
 |cons z y=>cases h0
theorem B47 {l:List Ab} {c:Ao} (h:WY l c=0):rdC c:=by
 obtain⟨h1,h2,h3,h4⟩:=Bps.1 h
 obtain⟨g1,g2,g3,_,g5,g6⟩:=Bmo h2
 obtain⟨k1,k2⟩:=Bpt h
 have hl:=(SI h1).2
 refine⟨?_,⟨by omega,by omega⟩,g5,g6,k1,fun w hw=>B6s (k2 w hw) (by omega)⟩
 rcases g1 with e|e<;>rw[e]<;>exact⟨by omega,by omega⟩
theorem A9v {l:List Ab} {c:Ao} (h:WY l c=0):Bki l c=A31 c:=by
 unfold Bki
 rw[h]
 rfl
theorem A9u (l:List Ab):QB (OI l) (fun c=>WY l c=0) (Bki l) where
 back:=fun c r h=>by
  unfold OI
  rw[A9v h,Bw0.next (B47 h),if_pos h]
  rfl
 front:=fun b c r h=>by
  unfold OI at h
  obtain⟨c',r',a1,e1⟩:=Ps.bind_is h
  clear h
  split at e1
  ·rename_i hc
   cases e1
   exact⟨hc,by rw[A9v hc];exact(Bw0.front _ _ _ a1).2⟩
  ·cases e1
def Aj5:Ps (List Int):=Ps.bind (Ps.ofG Ad) fun n=>if 2 <n then Ps.fail else Ps.many (Ps.ofG Ad) n.toNat
def B7u (p:List Int):Prop:=p.length≤2∧∀x∈p,okN x
theorem Bkg:QB Aj5 B7u Bkk where
 back:=fun p r h=>by
  unfold Aj5 Bkk
  rw[List.append_assoc,W6.next ⟨by omega,by have:=h.1;omega⟩,if_neg (by have:=h.1;omega),Int.toNat_natCast]
  exact(W6.many p.length).back p r ⟨rfl,h.2⟩
 front:=fun b p r h=>by
  unfold Aj5 at h
  obtain⟨n,r1,a1,e1⟩:=Ps.bind_is h
  clear h
  split at e1
  ·cases e1
  rename_i hn
  obtain⟨⟨g1,g2⟩,g3⟩:=(W6.many n.toNat).front _ _ _ e1
  obtain⟨g4,g5⟩:=W6.front _ _ _ a1
  have e:(p.length:Int)=n:=by rw[g1];exact Int.toNat_of_nonneg g4.1
  refine⟨⟨by omega,g2⟩,?_⟩
  unfold Bkk
  rw[e,List.append_assoc,g5,g3]
def dgs (b:Ae):List Ae:=(List.range (b.length / 32)).map fun i=>(b.drop (32*i)).take 32
def A30:Ps (List Ae):=fun b=>if b.length % 32=0 then some (dgs b,[]) else none
theorem Bqe {d:Ae} (h:d.length=32) (b:Ae):dgs (d++b)=d::dgs b:=by
 unfold dgs
 rw[List.length_append,h,show(32+b.length) / 32=b.length / 32+1 by omega,List.range_succ_eq_map,List.map_cons,List.map_map]
 congr 1
 ·rw[Nat.mul_zero,List.drop_zero,List.take_append_of_le_length (by omega),List.take_of_length_le (by omega)]
 ·apply List.map_congr_left
  intro i _
  show List.take 32 (List.drop (32*(i+1)) (d++b))=_
  rw[show 32*(i+1)=d.length+32*i by omega,←List.drop_drop,List.drop_left]
def IG:Bk:=⟨0,0,⟨0,0,⟨0,0⟩,⟨0,0⟩,[]⟩,0,0,[],[],[],⟨0,0⟩,false⟩
def Bsp (l:List Ab) (k s:Int) (p:List Int):Ps Bk:=Ps.bind (Ps.ofG AB) fun v=>Ps.bind (Ps.ofG Ad) fun o=>if 1 <o then Ps.fail else Ps.bind (Ps.ofG Ad) fun n=>
 if 256 <n then Ps.fail else Ps.bind (Ps.many (Ps.ofG (QR l)) n.toNat) fun rs=>Ps.pure ⟨k,s,IG.change,0,0,p,[],rs,v,o==1⟩
def psM (l:List Ab):Ps Bk:=Ps.bind (Ps.ofG Ad) fun k=>Ps.bind (Ps.ofG Ad) fun s=>
 if k=1 then Ps.bind (OI l) fun c=>Ps.pure ⟨k,s,c,0,0,[],[],[],⟨0,0⟩,false⟩
 else if k=2 then Ps.bind (Ps.ofG Ad) fun a=>Ps.bind (Ps.ofG Ad) fun o=>Ps.pure ⟨k,s,IG.change,a,o,[],[],[],⟨0,0⟩,false⟩
 else Ps.bind Aj5 fun p=>if k=5 then Bsp l k s p else Ps.bind A30 fun d=>Ps.pure ⟨k,s,IG.change,0,0,p,d,[],⟨0,0⟩,false⟩
def Bl5 (l:List Ab) (b:Ae):Option Bk:=match psM l b with
 |some (m,[])=>if JF l m=0 then some m else none
 |_=>none
def Tq (l:List Ab) (b:Ae):Option Bk:=if Bo b=(b.length:Int) then Bl5 l (AM b) else none
def Vc (l:List Ab) (b:Ae):Int:=bif AI l !=0 then AI l else bif GF b !=0 then GF b else match Tq l b with
 |some _=>0
 |none=>140
def Oo (l:List Ab) (b:Ae):Bk:=bif Vc l b==0 then(Tq l b).getD IG else IG
theorem Arc {l:List Ab} {b:Ae} {m:Bk} (h:Bl5 l b=some m):psM l b=some (m,[])∧JF l m=0:=by
 unfold Bl5 at h
 split at h
 ·rename_i x hx
  split at h
  ·rename_i hg
   cases h
   exact⟨hx,hg⟩
  ·cases h
 ·cases h
theorem Bvg {l:List Ab} {b:Ae} {m:Bk} (h:psM l b=some (m,[])) (hg:JF l m=0):Bl5 l b=some m:=by
 unfold Bl5
 rw[h]
 simp only[if_pos hg]
theorem B06 {l:List Ab} {b:Ae}:Vc l b=0↔AI l=0∧GF b=0∧∃m,Tq l b=some m:=by
 unfold Vc
 cases h1:AI l !=0 with
 |true=>
  have bt:AI l≠0:=by simpa using h1
  rw[cond_true]
  exact⟨fun h=>absurd h bt,fun h=>absurd h.1 bt⟩
 | false=>
  have bt:AI l=0:=by simpa using h1
  rw[cond_false]
  cases h2:GF b !=0 with
  |true=>
   have et:GF b≠0:=by simpa using h2
   rw[cond_true]
   exact⟨fun h=>absurd h et,fun h=>absurd h.2.1 et⟩
  |false=>
   have et:GF b=0:=by simpa using h2
   rw[cond_false]
   cases h3:Tq l b with
   |some m=>exact⟨fun _=>⟨bt,et,m,rfl⟩,fun _=>rfl⟩
   |none=>exact⟨(fun h=>by cases h),fun⟨_,_,m,h⟩=>by cases h⟩
theorem Bsd {l:List Ab} {m:Bk} (h:okW l m=true):m.kind=1∨m.kind=2∨m.kind=3∨m.kind=4∨m.kind=5:=by
 unfold okW at h
 simp only[Bool.and_eq_true] at h
 have hk:=h.2
 unfold A28 at hk
 rcases kinds m.kind with⟨q,_⟩|⟨_,q,_⟩|⟨_,_,q,_⟩|⟨_,_,_,q,_⟩|⟨_,_,_,_,q⟩|⟨q1,q2,q3,q4,q5⟩
 ·exact .inl (by simpa using q)
 ·exact .inr (.inl (by simpa using q))
 ·exact .inr (.inr (.inl (by simpa using q)))
 ·exact .inr (.inr (.inr (.inl (by simpa using q))))
 ·exact .inr (.inr (.inr (.inr (by simpa using q))))
 ·simp only[q1,q2,q3,q4,q5,cond_false] at hk
  cases hk
def X7 (m:Int):Ps Int:=Ps.bind (Ps.ofG Ad) fun x=>if m <x then Ps.fail else Ps.pure x
theorem H4 {m x:Int} {b r:Ae}:X7 m b=some (x,r)↔Ps.ofG Ad b=some (x,r)∧x≤m:=by
 constructor
 ·intro h
  obtain⟨y,r1,a1,e1⟩:=Ps.bind_is h
  split at e1
  ·cases e1
  ·rename_i hn
   cases e1
   exact⟨a1,by omega⟩
 ·rintro⟨h1,h2⟩
  unfold X7
  rw[Ps.bind_at h1,if_neg (by omega)]
  rfl
theorem Ari {m:Int}:∀(n:Nat) {b r:Ae} {l:List Int},Ps.many (X7 m) n b=some (l,r)↔Ps.many (Ps.ofG Ad) n b=some (l,r)∧∀x∈l,x≤m
 |0,b,r,l=>⟨fun h=>by cases h;exact⟨rfl,fun x hx=>by cases hx⟩,fun h=>h.1⟩
 | n+1,b,r,l=>by
  constructor
  ·intro h
   obtain⟨x,r1,a1,e1⟩:=Ps.bind_is h
   obtain⟨t,r2,a2,e2⟩:=Ps.bind_is e1
   cases e2
   obtain⟨g1,g2⟩:=H4.1 a1
   obtain⟨g3,g4⟩:=(Ari n).1 a2
   refine⟨?_,fun y hy=>?_⟩
   ·show Ps.bind _ _ b=_
    rw[Ps.bind_at g1,Ps.bind_at g3]
    rfl
   ·rcases List.mem_cons.1 hy with rfl|hy
    ·exact g2
    ·exact g4 y hy
  ·rintro⟨h,hl⟩
   obtain⟨x,r1,a1,e1⟩:=Ps.bind_is h
   obtain⟨t,r2,a2,e2⟩:=Ps.bind_is e1
   cases e2
   show Ps.bind _ _ b=_
   rw[Ps.bind_at (H4.2 ⟨a1,hl x (List.mem_cons_self ..)⟩),Ps.bind_at ((Ari n).2 ⟨a2,fun y hy=>hl y (List.mem_cons_of_mem _ hy)⟩)]
   rfl
def Bm1:Ps (List Int):=Ps.bind (X7 2) fun n=>Ps.many (X7 15) n.toNat
theorem A3z {b r:Ae} {p:List Int}:Bm1 b=some (p,r)↔Aj5 b=some (p,r)∧∀x∈p,x≤15:=by
 constructor
 ·intro h
  obtain⟨n,r1,a1,e1⟩:=Ps.bind_is h
  obtain⟨g1,g2⟩:=H4.1 a1
  obtain⟨g3,g4⟩:=(Ari _).1 e1
  refine⟨?_,g4⟩
  unfold Aj5
  rw[Ps.bind_at g1,if_neg (by omega)]
  exact g3
 ·rintro⟨h,hp⟩
  obtain⟨n,r1,a1,e1⟩:=Ps.bind_is h
  split at e1
  ·cases e1
  ·rename_i hn
   unfold Bm1
   rw[Ps.bind_at (H4.2 ⟨a1,by omega⟩)]
   exact(Ari _).2 ⟨e1,hp⟩
def Bm2:Ps (List Ae):=fun b=>some (dgs b,b.drop (32*(b.length / 32)))
theorem Bkf {b:Ae} {d:List Ae}:Bm2 b=some (d,[])↔A30 b=some (d,[]):=by
 unfold Bm2 A30
 constructor
 ·intro h
  injection h with h
  injection h with h1 h2
  have:=congrArg List.length h2
  rw[List.length_drop,List.length_nil] at this
  rw[if_pos (by omega),h1]
 ·intro h
  split at h
  ·cases h
   rw[List.drop_of_length_le (by omega)]
  ·cases h
def Bm0 (l:List Ab) (k s:Int) (p:List Int):Ps Bk:=Ps.bind (Ps.ofG AB) fun v=>Ps.bind (X7 1) fun o=>Ps.bind (X7 256) fun n=>
 Ps.bind (Ps.many (Ps.ofG (QR l)) n.toNat) fun rs=>Ps.pure ⟨k,s,IG.change,0,0,p,[],rs,v,o==1⟩
theorem Bkd {l:List Ab} {k s:Int} {p:List Int} {b r:Ae} {m:Bk}:Bm0 l k s p b=some (m,r)↔Bsp l k s p b=some (m,r):=by
 constructor
 ·intro h
  obtain⟨v,r1,a1,e1⟩:=Ps.bind_is h
  obtain⟨o,r2,a2,e2⟩:=Ps.bind_is e1
  obtain⟨n,r3,a3,e3⟩:=Ps.bind_is e2
  obtain⟨g1,g2⟩:=H4.1 a2
  obtain⟨g3,g4⟩:=H4.1 a3
  unfold Bsp
  rw[Ps.bind_at a1,Ps.bind_at g1,if_neg (by omega),Ps.bind_at g3,if_neg (by omega)]
  exact e3
 ·intro h
  obtain⟨v,r1,a1,e1⟩:=Ps.bind_is h
  obtain⟨o,r2,a2,e2⟩:=Ps.bind_is e1
  split at e2
  ·cases e2
  rename_i ho
  obtain⟨n,r3,a3,e3⟩:=Ps.bind_is e2
  split at e3
  ·cases e3
  rename_i hn
  unfold Bm0
  rw[Ps.bind_at a1,Ps.bind_at (H4.2 ⟨a2,by omega⟩),Ps.bind_at (H4.2 ⟨a3,by omega⟩)]
  exact e3
def prM (l:List Ab):Ps Bk:=Ps.bind (X7 5) fun k=>Ps.bind (X7 2) fun s=>
 if k=1 then Ps.bind (OI l) fun c=>Ps.pure ⟨k,s,c,0,0,[],[],[],⟨0,0⟩,false⟩
 else if k=2 then Ps.bind (X7 1099511627776) fun a=>Ps.bind (X7 1099511627776) fun o=>Ps.pure ⟨k,s,IG.change,a,o,[],[],[],⟨0,0⟩,false⟩
 else Ps.bind Bm1 fun p=>if k=5 then Bm0 l k s p else Ps.bind Bm2 fun d=>Ps.pure ⟨k,s,IG.change,0,0,p,d,[],⟨0,0⟩,false⟩
theorem A3y {l:List Ab} {b:Ae} {m:Bk} (h:prM l b=some (m,[])):psM l b=some (m,[]):=by
 obtain⟨k,r1,a1,e1⟩:=Ps.bind_is h
 obtain⟨s,r2,a2,e2⟩:=Ps.bind_is e1
 unfold psM
 rw[Ps.bind_at (H4.1 a1).1,Ps.bind_at (H4.1 a2).1]
 split at e2
 ·rename_i h1
  rw[if_pos h1]
  exact e2
 rename_i n1
 rw[if_neg n1]
 split at e2
 ·rename_i h2
  rw[if_pos h2]
  obtain⟨x,r3,a3,e3⟩:=Ps.bind_is e2
  obtain⟨y,r4,a4,e4⟩:=Ps.bind_is e3
  rw[Ps.bind_at (H4.1 a3).1,Ps.bind_at (H4.1 a4).1]
  exact e4
 rename_i n2
 rw[if_neg n2]
 obtain⟨p,r3,a3,e3⟩:=Ps.bind_is e2
 rw[Ps.bind_at (A3z.1 a3).1]
 split at e3
 ·rename_i h5
  rw[if_pos h5]
  exact Bkd.1 e3
 ·rename_i n5
  rw[if_neg n5]
  obtain⟨d,r4,a4,e4⟩:=Ps.bind_is e3
  cases e4
  rw[Ps.bind_at (Bkf.1 a4)]
  rfl
theorem Bke {l:List Ab} {b:Ae} {m:Bk} (h:psM l b=some (m,[])) (hg:okW l m=true):prM l b=some (m,[]):=by
 have hk:=Bsd hg
 have ah:=hg
 unfold okW at ah
 simp only[Bool.and_eq_true,Bool.or_eq_true,beq_iff_eq] at ah
 obtain⟨⟨⟨_,hp⟩,hsite⟩,kq⟩:=ah
 obtain⟨k,r1,a1,e1⟩:=Ps.bind_is h
 obtain⟨s,r2,a2,e2⟩:=Ps.bind_is e1
 clear h e1
 have RM:(k=m.kind∧s=m.site)→prM l b=(if k=1 then Ps.bind (OI l) fun c=>Ps.pure ⟨k,s,c,0,0,[],[],[],⟨0,0⟩,false⟩
  else if k=2 then Ps.bind (X7 1099511627776) fun a=>Ps.bind (X7 1099511627776) fun o=>Ps.pure ⟨k,s,IG.change,a,o,[],[],[],⟨0,0⟩,false⟩
  else Ps.bind Bm1 fun p=>if k=5 then Bm0 l k s p else Ps.bind Bm2 fun d=>Ps.pure ⟨k,s,IG.change,0,0,p,d,[],⟨0,0⟩,false⟩) r2:=fun⟨q1,q2⟩=>by
  unfold prM
  rw[Ps.bind_at (H4.2 ⟨a1,by omega⟩),Ps.bind_at (H4.2 ⟨a2,by omega⟩)]
 split at e2
 ·rename_i h1
  obtain⟨c,r3,a3,e3⟩:=Ps.bind_is e2
  cases e3
  rw[RM ⟨rfl,rfl⟩,if_pos h1,Ps.bind_at a3]
  rfl
 rename_i n1
 split at e2
 ·rename_i h2
  subst h2
  obtain⟨x,r3,a3,e3⟩:=Ps.bind_is e2
  obtain⟨y,r4,a4,e4⟩:=Ps.bind_is e3
  cases e4
  have j6:(Bg8 x&&Bg8 y)=true:=kq
  unfold Bg8 at j6
  simp only[Bool.and_eq_true,decide_eq_true_eq] at j6
  rw[RM ⟨rfl,rfl⟩,if_neg n1,if_pos rfl,Ps.bind_at (H4.2 ⟨a3,j6.1.2⟩),Ps.bind_at (H4.2 ⟨a4,j6.2.2⟩)]
  rfl
 rename_i n2
 obtain⟨p,r3,a3,e3⟩:=Ps.bind_is e2
 have path:m.path=p→∀x∈p,x≤15:=fun e x hx=>by
  subst e
  unfold PZ at hp
  rw[Bool.and_eq_true,decide_eq_true_eq] at hp
  obtain⟨i,hi,rfl⟩:=List.mem_iff_getElem.1 hx
  have:=Hj.1 hp.1 i hi
  rw[Bool.and_eq_true,decide_eq_true_eq,decide_eq_true_eq,List.getD_eq_getElem?_getD,List.getElem?_eq_getElem hi] at this
  exact this.2
 split at e3
 ·rename_i h5
  have hm:k=m.kind∧s=m.site∧m.path=p:=by
   obtain⟨v,q1,b1,c1⟩:=Ps.bind_is e3
   obtain⟨o,q2,b2,c2⟩:=Ps.bind_is c1
   split at c2
   ·cases c2
   obtain⟨n,q3,b3,c3⟩:=Ps.bind_is c2
   split at c3
   ·cases c3
   obtain⟨rs,q4,b4,c4⟩:=Ps.bind_is c3
   cases c4
   exact⟨rfl,rfl,rfl⟩
  rw[RM ⟨hm.1,hm.2.1⟩,if_neg n1,if_neg n2,Ps.bind_at (A3z.2 ⟨a3,path hm.2.2⟩),if_pos h5]
  exact Bkd.2 e3
 ·rename_i n5
  obtain⟨d,r4,a4,e4⟩:=Ps.bind_is e3
  cases e4
  rw[RM ⟨rfl,rfl⟩,if_neg n1,if_neg n2,Ps.bind_at (A3z.2 ⟨a3,path rfl⟩),if_neg n5,Ps.bind_at (Bkf.2 a4)]
  rfl
def Alr (b:Ae):Nat→List AU→Int→Bool→List AU×Int×Bool
 |0,ws,k,bad=>(ws,k,bad)
 |n+1,ws,k,bad=>bif bad then(ws,k,true) else Alr b n (ws++[(W7 b k false).1]) (W7 b k false).2.1 (W7 b k false).2.2
theorem Btn (b:Ae) (n:Nat) (ws:List AU) (k:Int):Alr b n ws k true=(ws,k,true):=by
 cases n<;>rfl
theorem Bs2:∀(n:Nat) (pre:List AU),U2 (fun b k bad=>Alr b n pre k bad) (Ps.bind (Ps.many psW n) fun l=>Ps.pure (pre++l))
 | 0,pre=>by
  have e:(Ps.bind (Ps.many psW 0) fun l=>Ps.pure (pre++l))=Ps.pure pre:=funext fun b=>by
   show Ps.pure (pre++[]) b=_
   rw[List.append_nil]
  rw[e]
  exact U2.pure pre
 | n +1,pre=>by
  have ih:=fun x=>Bs2 n (pre++[x])
  have hp:(Ps.bind (Ps.many psW (n+1)) fun l=>Ps.pure (pre++l))=Ps.bind psW fun x=>Ps.bind (Ps.many psW n) fun l=>Ps.pure ((pre++[x])++l):=funext fun b=>by
   show Ps.bind (Ps.bind psW fun x=>Ps.bind (Ps.many psW n) fun l=>Ps.pure (x::l)) _ b=_
   unfold Ps.bind
   cases psW b with
   |none=>rfl
   | some y=>
    obtain⟨x,r⟩:=y
    simp only
    cases Ps.many psW n r with
    |none=>rfl
    |some z=>
     obtain⟨t,r2⟩:=z
     simp only[Ps.pure,List.append_assoc,List.singleton_append]
  rw[hp]
  have h:=U2.bind B6l ih
  exact {
   inb:=fun b k bad hk=>by
    cases bad with
    |true=>exact hk
    |false=>exact h.inb b k false hk
   bad:=fun b k hk=>rfl
   none:=fun b k hk hq=>h.none b k hk hq
   some:=fun b k x r hk hq=>h.some b k x r hk hq}
abbrev Sr (α:Type):=Ae→Bool→α×Ae×Bool
structure Gm {α:Type} (st:Sr α) (p:Ps α):Prop where
 bad:∀b,(st b true).2.2=true
 none:∀b,p b=none→(st b false).2.2=true
 some:∀b x r,p b=some (x,r)→st b false=(x,r,false)
section
variable {α β:Type}
theorem Gm.bind {st:Sr α} {p:Ps α} {im:α→Sr β} {p2:α→Ps β} (h:Gm st p) (h2:∀x,Gm (im x) (p2 x)):Gm (fun b bad=>im (st b bad).1 (st b bad).2.1 (st b bad).2.2) (Ps.bind p p2) where
 bad:=fun b=>by
  show(im _ _ (st b true).2.2).2.2=true
  rw[h.bad]
  exact(h2 _).bad _
 none:=fun b hp=>by
  show(im _ _ (st b false).2.2).2.2=true
  unfold Ps.bind at hp
  split at hp
  ·rename_i x r h1
   rw[h.some b x r h1]
   exact(h2 x).none r hp
  ·rename_i h1
   rw[h.none b h1]
   exact(h2 _).bad _
 some:=fun b y r hp=>by
  show im (st b false).1 (st b false).2.1 (st b false).2.2=_
  obtain⟨x,r1,a1,e1⟩:=Ps.bind_is hp
  rw[h.some b x r1 a1]
  exact(h2 x).some r1 y r e1
theorem Gm.pure (x:α):Gm (fun b bad=>(x,b,bad)) (Ps.pure x) where
 bad:=fun _=>rfl
 none:=fun _ h=>by cases h
 some:=fun _ _ _ h=>by cases h;rfl
def wG (get:Ae→α×Int×Int):Sr α:=fun b bad=>((get b).1,b.drop (get b).2.1.toNat,bad||(get b).2.2 !=0)
theorem Gm.ofG (get:Ae→α×Int×Int):Gm (wG get) (Ps.ofG get) where
 bad:=fun _=>rfl
 none:=fun b hp=>by
  unfold Ps.ofG at hp
  split at hp
  ·cases hp
  ·rename_i h0
   show(false||(get b).2.2 !=0)=true
   simpa using h0
 some:=fun b x r hp=>by
  unfold Ps.ofG at hp
  split at hp
  ·rename_i h0
   cases hp
   unfold wG
   rw[h0]
   rfl
  ·cases hp
def Ah7 (st:Sr α):Nat→List α→Sr (List α)
 |0,l,b,bad=>(l,b,bad)
 |n+1,l,b,bad=>Ah7 st n (l++[(st b bad).1]) (st b bad).2.1 (st b bad).2.2
def Ab2 (st:Sr α):Nat→List α→Sr (List α)
 |0,l,b,bad=>(l,b,bad)
 |n+1,l,b,bad=>bif bad then(l,b,true) else Ab2 st n (l++[(st b false).1]) (st b false).2.1 (st b false).2.2
theorem A9d {p:Ps α} {n:Nat} {pre:List α}:(Ps.bind (Ps.many p (n+1)) fun l=>Ps.pure (pre++l))=Ps.bind p fun x=>Ps.bind (Ps.many p n) fun l=>Ps.pure ((pre++[x])++l):=funext fun b=>by
 show Ps.bind (Ps.bind p fun x=>Ps.bind (Ps.many p n) fun l=>Ps.pure (x::l)) _ b=_
 unfold Ps.bind
 cases p b with
 |none=>rfl
 | some y=>
  obtain⟨x,r⟩:=y
  simp only
  cases Ps.many p n r with
  |none=>rfl
  |some z=>
   obtain⟨t,r2⟩:=z
   simp only[Ps.pure,List.append_assoc,List.singleton_append]
theorem Br5 {p:Ps α} {pre:List α}:(Ps.bind (Ps.many p 0) fun l=>Ps.pure (pre++l))=Ps.pure pre:=funext fun b=>by
 show Ps.pure (pre++[]) b=_
 rw[List.append_nil]
theorem Atl {p:Ps α} {n:Nat}:(Ps.bind (Ps.many p n) fun l=>Ps.pure ([]++l))=Ps.many p n:=funext fun b=>by
 unfold Ps.bind
 cases Ps.many p n b with
 |none=>rfl
 |some y=>rfl
theorem Gm.many' {st:Sr α} {p:Ps α} (h:Gm st p):∀(n:Nat) (pre:List α),Gm (Ah7 st n pre) (Ps.bind (Ps.many p n) fun l=>Ps.pure (pre++l))
 |0,pre=>by
  rw[Br5]
  exact Gm.pure pre
 |n+1,pre=>by
  rw[A9d]
  exact Gm.bind h fun x=>Gm.many' h n (pre++[x])
theorem Gm.many {st:Sr α} {p:Ps α} (h:Gm st p) (n:Nat):Gm (Ah7 st n []) (Ps.many p n):=by
 have:=h.many' n []
 rwa[Atl] at this
theorem Gm.some' {st:Sr α} {p:Ps α} (h:Gm st p):∀(n:Nat) (pre:List α),Gm (Ab2 st n pre) (Ps.bind (Ps.many p n) fun l=>Ps.pure (pre++l))
 |0,pre=>by
  rw[Br5]
  exact Gm.pure pre
 |n+1,pre=>by
  rw[A9d]
  have h2:=Gm.bind h fun x=>Gm.some' h n (pre++[x])
  exact {bad:=fun b=>rfl,none:=fun b hq=>h2.none b hq,some:=fun b x r hq=>h2.some b x r hq}
theorem Gm.someN {st:Sr α} {p:Ps α} (h:Gm st p) (n:Nat):Gm (Ab2 st n []) (Ps.many p n):=by
 have:=h.some' n []
 rwa[Atl] at this
end
def Cm (m:Int):Sr Int:=fun b bad=>(bif decide (m <(Ad b).1) then 0 else(Ad b).1,b.drop (Ad b).2.1.toNat,(bad||(Ad b).2.2 !=0)||decide (m <(Ad b).1))
theorem Te (m:Int):Gm (Cm m) (X7 m) where
 bad:=fun _=>rfl
 none:=fun b hp=>by
  unfold X7 Ps.bind Ps.ofG at hp
  show((false||(Ad b).2.2 !=0)||decide (m <(Ad b).1))=true
  by_cases h0:(Ad b).2.2=0
  ·rw[if_pos h0] at hp
   simp only at hp
   split at hp
   ·rename_i hm
    rw[decide_eq_true hm,Bool.or_true]
   ·cases hp
  ·simp[h0]
 some:=fun b x r hp=>by
  obtain⟨g1,g2⟩:=H4.1 hp
  unfold Ps.ofG at g1
  split at g1
  ·rename_i h0
   cases g1
   unfold Cm
   rw[h0,decide_eq_false (by omega)]
   rfl
  ·cases g1
def Cs (l:List Ab) (b:Ae):Ao×Int×Int:=match OI l b with
 |some (c,r)=>(c,(b.length:Int) - (r.length:Int),0)
 |none=>(IG.change,0,bif AI l !=0 then AI l else 120)
theorem A24 {l:List Ab} {b:Ae}:(Cs l b).2.2=0↔∃c r,OI l b=some (c,r):=by
 unfold Cs
 cases h:OI l b with
 |some y=>
  obtain⟨c,r⟩:=y
  exact⟨fun _=>⟨c,r,rfl⟩,fun _=>rfl⟩
 |none=>
  refine⟨fun h0=>?_,fun⟨_,_,h0⟩=>by cases h0⟩
  exfalso
  have nc:(bif AI l !=0 then AI l else 120:Int)=0:=h0
  cases hg:AI l !=0 with
  |true=>rw[hg,cond_true] at nc;rw[nc] at hg;cases hg
  |false=>rw[hg] at nc;cases nc
theorem Bq3 (l:List Ab):Ps.ofG (Cs l)=OI l:=funext fun b=>by
 unfold Ps.ofG
 cases h:OI l b with
 |some y=>
  obtain⟨c,r⟩:=y
  rw[if_pos (A24.2 ⟨c,r,h⟩)]
  obtain⟨_,hb⟩:=(A9u l).front _ _ _ h
  unfold Cs
  rw[h]
  show some (c,b.drop ((b.length:Int) - (r.length:Int)).toNat)=_
  have hl:=congrArg List.length hb
  rw[List.length_append] at hl
  rw[show((b.length:Int) - (r.length:Int)).toNat=(Bki l c).length by omega]
  conv=>lhs;rw[hb]
  rw[List.drop_left]
 |none=>
  rw[if_neg]
  intro h0
  obtain⟨c,r,h1⟩:=A24.1 h0
  rw[h] at h1
  cases h1
def wSu:Sr (List Ae):=fun b bad=>(dgs b,b.drop (32*(b.length / 32)),bad)
theorem Bxa:Gm wSu Bm2 where
 bad:=fun _=>rfl
 none:=fun _ h=>by cases h
 some:=fun _ _ _ h=>by cases h;rfl
def wPa:Sr (List Int):=fun b bad=>Ah7 (Cm 15) (Cm 2 b bad).1.toNat [] (Cm 2 b bad).2.1 (Cm 2 b bad).2.2
theorem Bkv:Gm wPa Bm1:=Gm.bind (Te 2) fun n=>(Te 15).many n.toNat
def wLf (l:List Ab) (k s:Int) (p:List Int):Sr Bk:=fun b bad=>
 let v:=wG AB b bad
 let o:=Cm 1 v.2.1 v.2.2
 let n:=Cm 256 o.2.1 o.2.2
 let rs:=Ab2 (wG (QR l)) n.1.toNat [] n.2.1 n.2.2
 (⟨k,s,IG.change,0,0,p,[],rs.1,v.1,o.1==1⟩,rs.2)
theorem Bw9 (l:List Ab) (k s:Int) (p:List Int):Gm (wLf l k s p) (Bm0 l k s p):=
 Gm.bind (Gm.ofG AB) fun v=>Gm.bind (Te 1) fun o=>Gm.bind (Te 256) fun n=>Gm.bind ((Gm.ofG (QR l)).someN n.toNat) fun rs=>Gm.pure (⟨k,s,IG.change,0,0,p,[],rs,v,o==1⟩:Bk)
def wTl (l:List Ab) (k s:Int):Sr Bk:=fun b bad=>
 if k=1 then(⟨k,s,(wG (Cs l) b bad).1,0,0,[],[],[],⟨0,0⟩,false⟩,(wG (Cs l) b bad).2)
 else if k=2 then
  let a:=Cm 1099511627776 b bad
  let o:=Cm 1099511627776 a.2.1 a.2.2
  (⟨k,s,IG.change,a.1,o.1,[],[],[],⟨0,0⟩,false⟩,o.2)
 else
  let p:=wPa b bad
  if k=5 then wLf l k s p.1 p.2.1 p.2.2 else(⟨k,s,IG.change,0,0,p.1,(wSu p.2.1 p.2.2).1,[],⟨0,0⟩,false⟩,(wSu p.2.1 p.2.2).2)
def wM (l:List Ab):Sr Bk:=fun b bad=>wTl l (Cm 5 b bad).1 (Cm 2 (Cm 5 b bad).2.1 (Cm 5 b bad).2.2).1 (Cm 2 (Cm 5 b bad).2.1 (Cm 5 b bad).2.2).2.1 (Cm 2 (Cm 5 b bad).2.1 (Cm 5 b bad).2.2).2.2
def B6d (l:List Ab) (k s:Int):Ps Bk:=if k=1 then Ps.bind (OI l) fun c=>Ps.pure ⟨k,s,c,0,0,[],[],[],⟨0,0⟩,false⟩
 else if k=2 then Ps.bind (X7 1099511627776) fun a=>Ps.bind (X7 1099511627776) fun o=>Ps.pure ⟨k,s,IG.change,a,o,[],[],[],⟨0,0⟩,false⟩
 else Ps.bind Bm1 fun p=>if k=5 then Bm0 l k s p else Ps.bind Bm2 fun d=>Ps.pure ⟨k,s,IG.change,0,0,p,d,[],⟨0,0⟩,false⟩
theorem Bxb (l:List Ab) (k s:Int):Gm (wTl l k s) (B6d l k s):=by
 unfold wTl B6d
 by_cases h1:k=1
 ·simp only[if_pos h1]
  rw[←Bq3]
  exact Gm.bind (Gm.ofG (Cs l)) fun c=>Gm.pure (⟨k,s,c,0,0,[],[],[],⟨0,0⟩,false⟩:Bk)
 simp only[if_neg h1]
 by_cases h2:k=2
 ·simp only[if_pos h2]
  exact Gm.bind (Te _) fun a=>Gm.bind (Te _) fun o=>Gm.pure (⟨k,s,IG.change,a,o,[],[],[],⟨0,0⟩,false⟩:Bk)
 simp only[if_neg h2]
 by_cases h5:k=5
 ·simp only[if_pos h5]
  exact Gm.bind Bkv fun p=>Bw9 l k s p
 ·simp only[if_neg h5]
  exact Gm.bind Bkv fun p=>Gm.bind Bxa fun d=>Gm.pure (⟨k,s,IG.change,0,0,p,d,[],⟨0,0⟩,false⟩:Bk)
theorem Ale (l:List Ab):Gm (wM l) (prM l):=Gm.bind (Te 5) fun k=>Gm.bind (Te 2) fun s=>Bxb l k s
def Pn (l:List Ab) (b:Ae):Bk×Int:=bif AI l !=0 then(IG,AI l) else bif GF b !=0 then(IG,GF b) else
 bif(wM l (AM b) (Bo b !=(b.length:Int))).2.2||decide (0 <(wM l (AM b) (Bo b !=(b.length:Int))).2.1.length)||JF l (wM l (AM b) (Bo b !=(b.length:Int))).1 !=0 then(IG,140) else((wM l (AM b) (Bo b !=(b.length:Int))).1,0)
theorem Bvh (l:List Ab) (b:Ae):Pn l b=(Oo l b,Vc l b):=by
 have cr:Vc l b≠0→Oo l b=IG:=fun h=>by
  unfold Oo
  rw[show(Vc l b==0)=false by simpa using h]
  rfl
 unfold Pn
 cases h1:AI l !=0 with
 |true=>
  have e:Vc l b=AI l:=by unfold Vc;rw[h1];rfl
  have bt:AI l≠0:=by simpa using h1
  rw[cond_true,cr (by rw[e];exact bt),e]
 | false=>
  have bt:AI l=0:=by simpa using h1
  rw[cond_false]
  cases h2:GF b !=0 with
  |true=>
   have e:Vc l b=GF b:=by unfold Vc;rw[h1,h2];rfl
   have et:GF b≠0:=by simpa using h2
   rw[cond_true,cr (by rw[e];exact et),e]
  | false=>
   have et:GF b=0:=by simpa using h2
   rw[cond_false]
   have dc:∀y:Bk×Ae×Bool,(y.2.2||decide (0 <y.2.1.length)||JF l y.1 !=0)=true→Tq l b=none→(bif y.2.2||decide (0 <y.2.1.length)||JF l y.1 !=0 then(IG,(140:Int)) else(y.1,0))=(Oo l b,Vc l b):=fun y hy hd=>by
    have e:Vc l b=140:=by unfold Vc;rw[h1,h2,hd];rfl
    rw[hy,cond_true,cr (by rw[e];omega),e]
   by_cases hk:Bo b=(b.length:Int)
   ·have ek:(Bo b !=(b.length:Int))=false:=by simpa using hk
    rw[ek]
    cases hp:prM l (AM b) with
    | none=>
     refine dc _ (by rw[(Ale l).none _ hp];rfl) ?_
     cases hd:Tq l b with
     |none=>rfl
     |some m=>
      exfalso
      unfold Tq at hd
      rw[if_pos hk] at hd
      obtain⟨g1,g2⟩:=Arc hd
      rw[Bke g1 (Bi7.1 g2).2] at hp
      cases hp
    | some y=>
     obtain⟨m,r⟩:=y
     rw[(Ale l).some _ m r hp]
     show(bif(false||decide (0 <r.length))||JF l m !=0 then(IG,(140:Int)) else(m,0))=_
     by_cases hr:r=[]
     ·subst hr
      by_cases hg:JF l m=0
      ·have hd:Tq l b=some m:=by unfold Tq;rw[if_pos hk];exact Bvg (A3y hp) hg
       have e:Vc l b=0:=B06.2 ⟨bt,et,m,hd⟩
       have er:Oo l b=m:=by unfold Oo;rw[e,hd];rfl
       rw[hg,e,er]
       rfl
      ·refine dc (m,[],false) (by show((false||decide (0 <([]:Ae).length))||JF l m !=0)=true;rw[show(JF l m !=0)=true by simpa using hg,Bool.or_true]) ?_
       cases hd:Tq l b with
       |none=>rfl
       |some m'=>
        exfalso
        unfold Tq at hd
        rw[if_pos hk] at hd
        obtain⟨g1,g2⟩:=Arc hd
        rw[A3y hp] at g1
        cases g1
        exact hg g2
     ·have hl:0 <r.length:=List.length_pos_iff.2 hr
      refine dc (m,r,false) (by show((false||decide (0 <r.length))||JF l m !=0)=true;rw[decide_eq_true hl];rfl) ?_
      cases hd:Tq l b with
      |none=>rfl
      |some m'=>
       exfalso
       unfold Tq at hd
       rw[if_pos hk] at hd
       obtain⟨g1,g2⟩:=Arc hd
       rw[Bke g1 (Bi7.1 g2).2] at hp
       cases hp
       exact hr rfl
   ·have ek:(Bo b !=(b.length:Int))=true:=by simpa using hk
    rw[ek]
    refine dc _ (by rw[(Ale l).bad];rfl) ?_
    unfold Tq
    rw[if_neg hk]
def stG {α:Type} (get:Ae→α×Int×Int) (b:Ae) (k:Int) (bad:Bool):α×Int×Bool:=((get (b.drop k.toNat)).1,k+(get (b.drop k.toNat)).2.1,bad||(get (b.drop k.toNat)).2.2 !=0)
theorem Bzn:U2 (stG BB) (Ps.ofG BB):=U2.ofG Po
theorem Bzp:U2 (stG AB) (Ps.ofG AB):=U2.ofG GW
theorem Bs3 (n:Nat):U2 (fun b k bad=>Alr b n [] k bad) (Ps.many psW n):=by
 have h:=Bs2 n []
 rwa[Atl] at h
def Bso:Ps Ao:=Ps.bind (Ps.ofG Ad) fun a=>Ps.bind (Ps.ofG Ad) fun q=>Ps.bind (Ps.ofG BB) fun s=>Ps.bind (Ps.ofG AB) fun v=>Ps.bind (Ps.ofG Ad) fun k=>
 Ps.bind (Ps.many psW (min k 9).toNat) fun ws=>Ps.pure ⟨a,q,s,v,ws⟩
def stC (b:Ae) (k:Int) (bad:Bool):Ao×Int×Bool:=
 let a:=FH b k bad
 let q:=FH b a.2.1 a.2.2
 let s:=stG BB b q.2.1 q.2.2
 let v:=stG AB b s.2.1 s.2.2
 let n:=FH b v.2.1 v.2.2
 let ws:=Alr b (min n.1 9).toNat [] n.2.1 n.2.2
 (⟨a.1,q.1,s.1,v.1,ws.1⟩,ws.2)
theorem Bs1:U2 stC Bso:=U2.bind Bbq fun a=>U2.bind Bbq fun q=>U2.bind Bzn fun s=>U2.bind Bzp fun v=>U2.bind Bbq fun k=>U2.bind (Bs3 (min k 9).toNat) fun ws=>U2.pure (⟨a,q,s,v,ws⟩:Ao)
theorem Bzl {b r:Ae} {c:Ao} (h:psC b=some (c,r)):Bso b=some (c,r):=by
 obtain⟨a,r1,a1,e1⟩:=Ps.bind_is h
 obtain⟨q,r2,a2,e2⟩:=Ps.bind_is e1
 obtain⟨s,r3,a3,e3⟩:=Ps.bind_is e2
 obtain⟨v,r4,a4,e4⟩:=Ps.bind_is e3
 obtain⟨k,r5,a5,e5⟩:=Ps.bind_is e4
 split at e5
 ·cases e5
 rename_i hk
 obtain⟨ws,r6,a6,e6⟩:=Ps.bind_is e5
 unfold Bso
 rw[Ps.bind_at a1,Ps.bind_at a2,Ps.bind_at a3,Ps.bind_at a4,Ps.bind_at a5,show min k 9=k by omega,Ps.bind_at a6]
 exact e6
theorem Bwz {b r:Ae} {c:Ao} (h:Bso b=some (c,r)) (hc:c.writes.length≤8):psC b=some (c,r):=by
 obtain⟨a,r1,a1,e1⟩:=Ps.bind_is h
 obtain⟨q,r2,a2,e2⟩:=Ps.bind_is e1
 obtain⟨s,r3,a3,e3⟩:=Ps.bind_is e2
 obtain⟨v,r4,a4,e4⟩:=Ps.bind_is e3
 obtain⟨k,r5,a5,e5⟩:=Ps.bind_is e4
 obtain⟨ws,r6,a6,e6⟩:=Ps.bind_is e5
 obtain⟨⟨g1,_⟩,_⟩:=(B2h.many _).front _ _ _ a6
 cases e6
 have hc':ws.length≤8:=hc
 have hk:¬8 <k:=by omega
 unfold psC
 rw[Ps.bind_at a1,Ps.bind_at a2,Ps.bind_at a3,Ps.bind_at a4,Ps.bind_at a5,if_neg hk]
 rw[show min k 9=k by omega] at a6
 rw[Ps.bind_at a6]
 rfl
def chP (l:List Ab) (b:Ae):Ao×Int×Int:=bif AI l !=0 then(IG.change,0,AI l) else
 bif(stC b 0 false).2.2||WY l (stC b 0 false).1 !=0 then(IG.change,0,120) else((stC b 0 false).1,(stC b 0 false).2.1,0)
theorem Bde (l:List Ab) (b:Ae) (hb:Af b.length):chP l b=Cs l b:=by
 have h0:Ol b 0:=⟨Int.le_refl _,by omega,hb⟩
 unfold chP
 cases h1:AI l !=0 with
 | true=>
  have bt:AI l≠0:=by simpa using h1
  rw[cond_true]
  unfold Cs
  cases h:OI l b with
  |none=>simp only;rw[h1];rfl
  |some y=>
   obtain⟨c,r⟩:=y
   obtain⟨hc,_⟩:=(A9u l).front _ _ _ h
   exact absurd (Bps.1 hc).1 bt
 | false=>
  rw[cond_false]
  have cr:OI l b=none→Cs l b=(IG.change,0,120):=fun h=>by
   unfold Cs
   rw[h,h1]
   rfl
  cases h9:Bso b with
  | none=>
   have rb:=Bs1.none b 0 h0 h9
   rw[rb]
   rw[cr]
   ·rfl
   ·cases h:OI l b with
    |none=>rfl
    |some y=>
     obtain⟨c,r⟩:=y
     obtain⟨c',r',a1,_⟩:=Ps.bind_is h
     rw[Bzl a1] at h9
     cases h9
  | some y=>
   obtain⟨c,r⟩:=y
   obtain⟨g1,g2,g3⟩:=Bs1.some b 0 c r h0 h9
   have au:=Bs1.inb b 0 false h0
   rw[g1,g2,Bool.false_or]
   by_cases hc:WY l c=0
   ·have hw:=(Bpt hc).1
    have cu:OI l b=some (c,r):=by
     unfold OI
     rw[Ps.bind_at (Bwz h9 hw),if_pos hc]
     rfl
    unfold Cs
    rw[cu,hc]
    have hl:=congrArg List.length g3
    rw[List.length_drop] at hl
    obtain⟨i1,i2,_⟩:=au
    show(c,(stC b 0 false).2.1,(0:Int))=(c,(b.length:Int) - (r.length:Int),0)
    rw[show(stC b 0 false).2.1=(b.length:Int) - (r.length:Int) by omega]
   ·rw[show(WY l c !=0)=true by simpa using hc]
    rw[cr]
    ·rfl
    ·cases h:OI l b with
     |none=>rfl
     |some y=>
      obtain⟨c',r'⟩:=y
      obtain⟨hc',_⟩:=(A9u l).front _ _ _ h
      obtain⟨c2,r2,a1,e1⟩:=Ps.bind_is h
      rw[Bzl a1] at h9
      cases h9
      rw[if_neg hc] at e1
      cases e1
theorem JX {α:Type} {get:Ae→α×Int×Int} {b:Ae} (h:(get b).2.2≠0):Ps.ofG get b=none:=by
 unfold Ps.ofG
 rw[if_neg h]
theorem Gt {α:Type} {get:Ae→α×Int×Int} {b:Ae} (h:(get b).2.2=0):Ps.ofG get b=some ((get b).1,b.drop (get b).2.1.toNat):=by
 unfold Ps.ofG
 rw[if_pos h]
theorem E2 {α β:Type} {p:Ps α} {f:α→Ps β} {b:Ae} (h:p b=none):Ps.bind p f b=none:=by
 unfold Ps.bind
 rw[h]
theorem Bgi (b:Ae) (hb:Af b.length):(∀p∈Aep b,p)∧(psW b=none→Gu b=false)∧∀w r,psW b=some (w,r)→Nt b=w∧Gu b=true∧Ol b (Kv b)∧b.drop (Kv b).toNat=r:=by
 have h0:Ol b 0:=⟨Int.le_refl _,by omega,hb⟩
 have ht:=Alq h0 32 false
 have hg:=TS ht false
 have ho:=TS hg false
 have hv:=Alq ho 64 false
 have v8:(NA 32 b 0 false).2.1=JJ b:=Int.zero_add _
 rw[v8] at ht hg ho hv
 have d6:(FH b (JJ b) false).2.1=B9 b:=by
  unfold B9 OR
  rw[A5]
  exact(FL hg).symm
 rw[d6] at hg ho hv
 have d3:(FH b (B9 b) false).2.1=CY b:=by
  unfold CY M8
  rw[A5]
  exact(FL ho).symm
 rw[d3] at ho hv
 have d2:M7 b=b.drop (CY b).toNat:=A5 _ _
 have mg:Af (M7 b).length:=by
  unfold Af at*
  rw[d2,List.length_drop]
  omega
 have hw:IntKind.i64.wrap (CY b+(Bm (b.drop (CY b).toNat) 64).2.1)=CY b+(Bm (b.drop (CY b).toNat) 64).2.1:=FL hv
 refine⟨Aa hb (Aa (fun _=>Es ht) (Aa (fun _ _=>Es hg) (Aa (fun _ _ _ _=>Es ho) (Aa (fun _ _ _ _=>mg) Ag)))),?_⟩
 have s1:DJ b=((Bm b 32).2.2 !=0):=rfl
 have s2:Ec b=((Ad (b.drop (Bm b 32).2.1.toNat)).2.2 !=0):=by unfold Ec OR;rw[A5];rfl
 have q6:B9 b=(Bm b 32).2.1+(Ad (b.drop (Bm b 32).2.1.toNat)).2.1:=d6.symm
 have p6:b.drop (B9 b).toNat=(b.drop (Bm b 32).2.1.toNat).drop (Ad (b.drop (Bm b 32).2.1.toNat)).2.1.toNat:=by
  rw[List.drop_drop,q6]
  congr 1
  have:=(AZ (b.drop (Bm b 32).2.1.toNat)).1
  have:=(Gd b 32).1
  omega
 have p3:b.drop (CY b).toNat=(b.drop (B9 b).toNat).drop (Ad (b.drop (B9 b).toNat)).2.1.toNat:=by
  rw[List.drop_drop,←d3]
  congr 1
  show(B9 b+(Ad (b.drop (B9 b).toNat)).2.1).toNat=_
  have:=(AZ (b.drop (B9 b).toNat)).1
  have:=hg.1
  omega
 have s3:Eb b=((Ad (b.drop (B9 b).toNat)).2.2 !=0||decide ((Ad (b.drop (B9 b).toNat)).1 >1)):=by unfold Eb M8;rw[A5]
 have s5:Lw b=((Ad (b.drop (B9 b).toNat)).1==1):=by unfold Lw M8;rw[A5]
 have s8:OQ b=(Ad (b.drop (Bm b 32).2.1.toNat)).1:=by unfold OQ OR;rw[A5];rfl
 unfold psW
 by_cases c1:(Bm b 32).2.2=0
 case neg=>
  have e1:DJ b=true:=by rw[s1];simpa using c1
  rw[E2 (JX (get:=fun b=>Bm b 32) c1)]
  exact⟨fun _=>by unfold Gu;rw[e1];rfl,fun _ _ h=>by cases h⟩
 have e1:DJ b=false:=by rw[s1];simpa using c1
 rw[Ps.bind_at (Gt (get:=fun b=>Bm b 32) c1)]
 by_cases c2:(Ad (b.drop (Bm b 32).2.1.toNat)).2.2=0
 case neg=>
  have e2:Ec b=true:=by rw[s2];simpa using c2
  rw[E2 (JX c2)]
  exact⟨fun _=>by unfold Gu;rw[e1,e2];rfl,fun _ _ h=>by cases h⟩
 have e2:Ec b=false:=by rw[s2];simpa using c2
 rw[Ps.bind_at (Gt c2),←p6]
 by_cases c3:(Ad (b.drop (B9 b).toNat)).2.2=0
 case neg=>
  have e3:Eb b=true:=by rw[s3];simp[c3]
  rw[E2 (JX c3)]
  exact⟨fun _=>by unfold Gu;rw[e1,e2,e3];rfl,fun _ _ h=>by cases h⟩
 rw[Ps.bind_at (Gt c3),←p3]
 have hn:=(AZ (b.drop (B9 b).toNat)).2.2.2.1
 by_cases c4:(Ad (b.drop (B9 b).toNat)).1=0
 ·have e3:Eb b=false:=by rw[s3,c3,c4];rfl
  have e5:Lw b=false:=by rw[s5,c4];rfl
  have e4:Fo b=true:=by unfold Fo;rw[e5];rfl
  rw[if_pos c4]
  by_cases c5:(Bm (b.drop (CY b).toNat) 64).2.2=0
  ·have e0:GD b=false:=by unfold GD;rw[e4,d2,c5];rfl
   rw[Ps.bind_at (Gt (get:=fun b=>Bm b 64) c5)]
   refine⟨(fun h=>by cases h),fun w r h=>?_⟩
   cases h
   have f1:Kv b=CY b+(Bm (b.drop (CY b).toNat) 64).2.1:=by unfold Kv;rw[e1,e2,e3,e0,e4,d2,hw];rfl
   refine⟨?_,?_,?_,?_⟩
   ·unfold Nt;rw[e1,e2,e3,e0,e4,e5,d2,s8];rfl
   ·unfold Gu;rw[e1,e2,e3,e0];rfl
   ·rw[f1];exact hv
   ·rw[f1,List.drop_drop]
    congr 1
    have:=(Gd (b.drop (CY b).toNat) 64).1
    have:=ho.1
    omega
  ·have e0:GD b=true:=by unfold GD;rw[e4,d2];simpa using c5
   rw[E2 (JX (get:=fun b=>Bm b 64) c5)]
   exact⟨fun _=>by unfold Gu;rw[e1,e2,e3,e0];rfl,fun _ _ h=>by cases h⟩
 ·rw[if_neg c4]
  by_cases c5:(Ad (b.drop (B9 b).toNat)).1=1
  ·have e3:Eb b=false:=by rw[s3,c3,c5];rfl
   have e5:Lw b=true:=by rw[s5,c5];rfl
   have e4:Fo b=false:=by unfold Fo;rw[e5];rfl
   have e0:GD b=false:=by unfold GD;rw[e4];rfl
   rw[if_pos c5]
   refine⟨(fun h=>by cases h),fun w r h=>?_⟩
   cases h
   have f1:Kv b=CY b:=by unfold Kv;rw[e1,e2,e3,e0,e4];rfl
   refine⟨?_,?_,?_,?_⟩
   ·unfold Nt;rw[e1,e2,e3,e0,e4,e5,s8];rfl
   ·unfold Gu;rw[e1,e2,e3,e0];rfl
   ·rw[f1];exact ho
   ·rw[f1]
  ·have e3:Eb b=true:=by rw[s3,decide_eq_true (by omega),Bool.or_true]
   rw[if_neg c5]
   exact⟨fun _=>by unfold Gu;rw[e1,e2,e3];rfl,fun _ _ h=>by cases h⟩
theorem adv {α:Type} {get:Ae→α×Int×Int} (hg:∀b,0≤(get b).2.1∧(get b).2.1≤(b.length:Int)) {b:Ae} {p:Int} (hp:Ol b p):
  Ol b (p+(get (b.drop p.toNat)).2.1)∧b.drop (p+(get (b.drop p.toNat)).2.1).toNat=(b.drop p.toNat).drop (get (b.drop p.toNat)).2.1.toNat:=by
 obtain⟨h1,h2,h3⟩:=hp
 have h4:=hg (b.drop p.toNat)
 rw[List.length_drop] at h4
 refine⟨⟨by omega,by omega,h3⟩,?_⟩
 rw[List.drop_drop]
 congr 1
 omega
theorem Bpg {b r:Ae} {p k:Int} (hp:Ol b p) (hk:Ol (b.drop p.toNat) k) (hr:(b.drop p.toNat).drop k.toNat=r):Ol b (p+k)∧b.drop (p+k).toNat=r:=by
 obtain⟨h1,h2,h3⟩:=hp
 obtain⟨k1,k2,_⟩:=hk
 rw[List.length_drop] at k2
 refine⟨⟨by omega,by omega,h3⟩,?_⟩
 rw[←hr,List.drop_drop]
 congr 1
 omega
theorem A3a {α:Type} {p:Ps α} {n:Nat} {b:Ae} (h:p b=none):Ps.many p (n+1) b=none:=E2 h
theorem A3b {α:Type} {p:Ps α} {n:Nat} {b r:Ae} {x:α} (h:p b=some (x,r)):Ps.many p (n+1) b=match Ps.many p n r with
  |some (l,r')=>some (x::l,r')
  |none=>none:=by
 show Ps.bind p _ b=_
 rw[Ps.bind_at h]
 show Ps.bind (Ps.many p n) _ r=_
 unfold Ps.bind
 cases Ps.many p n r with
 |none=>rfl
 |some y=>rfl
theorem A7g {b:Ae} {p:Int} (_h:Af b.length):Af (b.drop p.toNat).length:=by
 unfold Af at*
 rw[List.length_drop]
 omega
theorem Bkr (b:Ae) (n z0 z1 z2 z3 z4 z5 c0 c1 c2 c3 c4 c5:Int):∀(m:Nat) (p i:Int) (ws:List AU),m=(n - i).toNat→Ol b p→0≤i→(ws.length:Int)+m≤8→n≤8→
  A8 EW D1 N7 m (b,n,p,i,z0,z1,z2,z3,z4,z5,c0,c1,c2,c3,c4,c5,ws)∧
  ∃p' i' nr,Bh EW D1 m (b,n,p,i,z0,z1,z2,z3,z4,z5,c0,c1,c2,c3,c4,c5,ws)=(b,n,p',i',z0,z1,z2,z3,z4,z5,c0,c1,c2,c3,c4,c5,nr)∧Ol b p'∧
   ((Ps.many psW m (b.drop p.toNat)=none∧CZ b n p' i'=true)∨(∃l,Ps.many psW m (b.drop p.toNat)=some (l,b.drop p'.toNat)∧nr=ws++l∧CZ b n p' i'=false))
 | 0,p,i,ws,hm,hp,hi,hl,hn=>by
  have hd:decide (i <n)=false:=decide_eq_false (by omega)
  have hk:CZ b n p i=false:=by
   unfold CZ
   rw[hd]
   rfl
  have hf:∀q:Prop,(!!decide (i <n))=true→q:=fun q h=>by rw[hd] at h;cases h
  refine⟨⟨Aa (hf _) (Aa (hf _) (Aa (hf _) (Aa (hf _) (Aa (hf _) (Aa (hf _) (Aa (hf _) Ag)))))),?_⟩,p,i,ws,rfl,hp,.inr ⟨[],rfl,(List.append_nil _).symm,hk⟩⟩
  show(!!decide (i <n)&&!CZ b n p i)=false
  rw[hd]
  rfl
 | m+1,p,i,ws,hm,hp,hi,hl,hn=>by
  have ae:i <n:=by omega
  have hd:decide (i <n)=true:=decide_eq_true ae
  have sa:AW b p=b.drop p.toNat:=A5 _ _
  have hb:=A7g (p:=p) hp.2.2
  obtain⟨g1,g2,g3⟩:=Bgi (b.drop p.toNat) hb
  have ar:CZ b n p i=!Gu (b.drop p.toNat):=by
   unfold CZ
   rw[hd,sa]
   rfl
  have bz:D1 (b,n,p,i,z0,z1,z2,z3,z4,z5,c0,c1,c2,c3,c4,c5,ws)=some (Gu (b.drop p.toNat)):=by
   show some (!!decide (i <n)&&!CZ b n p i)=_
   rw[ar,hd,Bool.not_not,Bool.not_not,Bool.true_and]
  have cu:∀q∈N7 (b,n,p,i,z0,z1,z2,z3,z4,z5,c0,c1,c2,c3,c4,c5,ws),q:=by
   have kg:∀q∈Aep (AW b p),q:=by rw[sa];exact g1
   refine Aa (fun _=>Es hp) (Aa (fun _=>N0 kg) (Aa (fun _=>N0 (N1 kg)) (Aa (fun _=>N0 (N1 (N1 kg))) (Aa (fun _=>N0 (N1 (N1 (N1 kg)))) (Aa (fun _=>N0 (N1 (N1 (N1 (N1 kg))))) (Aa (fun _ _=>?_) Ag))))))
   show Af (ws.length+1)
   unfold Af
   omega
  cases hw:psW (b.drop p.toNat) with
  |none=>
   have h2:=g2 hw
   rw[h2] at bz ar
   refine⟨⟨cu,fun h=>by rw[bz] at h;cases h⟩,p,i,ws,?_,hp,.inl ⟨A3a hw,ar⟩⟩
   show(bif BJ (D1 (b,n,p,i,z0,z1,z2,z3,z4,z5,c0,c1,c2,c3,c4,c5,ws)) then _ else _)=_
   rw[bz]
   rfl
  | some y=>
   obtain⟨w,r⟩:=y
   obtain⟨e0,e2,e1,e3⟩:=g3 w r hw
   obtain⟨q1,q2⟩:=Bpg hp e1 e3
   rw[e2] at bz
   have hnx:EW (b,n,p,i,z0,z1,z2,z3,z4,z5,c0,c1,c2,c3,c4,c5,ws)=(b,n,p+Kv (b.drop p.toNat),i+1,z0,z1,z2,z3,z4,z5,c0,c1,c2,c3,c4,c5,ws++[w]):=by
    show(b,n,PM b p,IntKind.i64.wrap (i+1),z0,z1,z2,z3,z4,z5,c0,c1,c2,c3,c4,c5,OY b p ws)=_
    unfold PM OY
    rw[sa,e0,FL q1,i64_in (by omega)]
   obtain⟨i1,p',i',nr,i2,i3,i4⟩:=Bkr b n z0 z1 z2 z3 z4 z5 c0 c1 c2 c3 c4 c5 m (p+Kv (b.drop p.toNat)) (i+1) (ws++[w]) (by omega) q1 (by omega) (by rw[List.length_append];simp only[List.length_cons,List.length_nil];omega) hn
   refine⟨⟨cu,fun _=>by rw[hnx];exact i1⟩,p',i',nr,?_,i3,?_⟩
   ·show(bif BJ (D1 (b,n,p,i,z0,z1,z2,z3,z4,z5,c0,c1,c2,c3,c4,c5,ws)) then Bh EW D1 m (EW (b,n,p,i,z0,z1,z2,z3,z4,z5,c0,c1,c2,c3,c4,c5,ws)) else _)=_
    rw[bz,hnx,i2]
    rfl
   ·rw[A3b hw,←q2]
    rcases i4 with⟨j1,j2⟩|⟨l,j1,j2,j3⟩
    ·exact .inl ⟨by rw[j1],j2⟩
    ·exact .inr ⟨w::l,by rw[j1],by rw[j2,List.append_assoc];rfl,j3⟩
theorem Aoa (b:Ae) (hb:Af b.length):(∀p∈YI b,p)∧(psC b=none→EO b=false)∧∀c r,psC b=some (c,r)→(⟨OS b,OT b,⟨OU b,OV b⟩,⟨OW b,OX b⟩,J1 b⟩:Ao)=c∧EO b=true∧Ol b (M9 b)∧b.drop (M9 b).toNat=r:=by
 have h0:Ol b 0:=⟨Int.le_refl _,by omega,hb⟩
 have gN:∀b,0≤(Ad b).2.1∧(Ad b).2.1≤(b.length:Int):=fun b=>⟨(AZ b).1,(AZ b).2.1⟩
 obtain⟨a1,d1⟩:=adv gN h0
 have e0:(0:Int)+(Ad (b.drop (0:Int).toNat)).2.1=(Ad b).2.1:=Int.zero_add _
 rw[e0] at a1 d1
 have d1':b.drop (Ad b).2.1.toNat=b.drop (Ad b).2.1.toNat:=rfl
 obtain⟨a2,d2⟩:=adv gN a1
 have yw:Bx b=(Ad b).2.1+(Ad (b.drop (Ad b).2.1.toNat)).2.1:=by unfold Bx Nu;rw[A5];exact FL a2
 rw[←yw] at a2 d2
 obtain⟨a3,d3⟩:=adv Po a2
 have yv:Bw b=Bx b+(BB (b.drop (Bx b).toNat)).2.1:=by unfold Bw BC;rw[A5];exact FL a3
 rw[←yv] at a3 d3
 obtain⟨a4,d4⟩:=adv GW a3
 have k9:Be b=Bw b+(AB (b.drop (Bw b).toNat)).2.1:=by unfold Be BU;rw[A5];exact FL a4
 rw[←k9] at a4 d4
 obtain⟨a5,d5⟩:=adv gN a4
 have w5:=FL a5
 have vq:Cq b=((Ad b).2.2 !=0):=rfl
 have vp:Cp b=((Ad (b.drop (Ad b).2.1.toNat)).2.2 !=0):=by unfold Cp Nu;rw[A5]
 have y9:DZ b=(Ad (b.drop (Ad b).2.1.toNat)).1:=by unfold DZ Nu;rw[A5]
 have vo:CA b=((BB (b.drop (Bx b).toNat)).2.2 !=0):=by unfold CA BC;rw[A5]
 have vn:CI b=((AB (b.drop (Bw b).toNat)).2.2 !=0):=by unfold CI BU;rw[A5]
 have s1:Dz b=((Ad (b.drop (Be b).toNat)).2.2 !=0||decide ((Ad (b.drop (Be b).toNat)).1 >8)):=by unfold Dz CG;rw[A5]
 -- the loop, where it is come to
 have uv:=(AZ (b.drop (Be b).toNat)).2.2.1
 have kx:=fun(h8:(Ad (b.drop (Be b).toNat)).1≤8)=>Bkr b (Ad (b.drop (Be b).toNat)).1 0 0 0 0 0 0 (Ad b).1 (DZ b) (BB (b.drop (Bx b).toNat)).1.1 (BB (b.drop (Bx b).toNat)).1.2 (AB (b.drop (Bw b).toNat)).1.1 (AB (b.drop (Bw b).toNat)).1.2 ((Ad (b.drop (Be b).toNat)).1 - 0).toNat _ 0 [] rfl a5 (Int.le_refl _) (by simp only[List.length_nil];omega) h8
 have fh:∀p∈YI b,p:=by
  refine Aa (fun _=>Es a1) (Aa (fun _ _=>Es a2) (Aa (fun _ _ _=>Es a3) (Aa (fun _ _ _ _=>Es a4) (Aa (fun _ _ _ _ h=>?_) Ag))))
  rw[s1,Bool.not_or,Bool.and_eq_true] at h
  have h8:=of_decide_eq_false (by simpa using h.2:decide ((Ad (b.drop (Be b).toNat)).1 >8)=false)
  simp only[A5,BC,BU,CG,w5]
  exact(kx (by omega)).1
 refine⟨fh,?_⟩
 unfold psC
 by_cases c1:(Ad b).2.2=0
 case neg=>
  have e1:Cq b=true:=by rw[vq];simpa using c1
  rw[E2 (JX c1)]
  exact⟨fun _=>by unfold EO;rw[e1];rfl,fun _ _ h=>by cases h⟩
 have e1:Cq b=false:=by rw[vq];simpa using c1
 rw[Ps.bind_at (Gt c1)]
 by_cases c2:(Ad (b.drop (Ad b).2.1.toNat)).2.2=0
 case neg=>
  have e2:Cp b=true:=by rw[vp];simpa using c2
  rw[E2 (JX c2)]
  exact⟨fun _=>by unfold EO;rw[e1,e2];rfl,fun _ _ h=>by cases h⟩
 have e2:Cp b=false:=by rw[vp];simpa using c2
 rw[Ps.bind_at (Gt c2),←d2]
 by_cases c3:(BB (b.drop (Bx b).toNat)).2.2=0
 case neg=>
  have e3:CA b=true:=by rw[vo];simpa using c3
  rw[E2 (JX c3)]
  exact⟨fun _=>by unfold EO;rw[e1,e2,e3];rfl,fun _ _ h=>by cases h⟩
 have e3:CA b=false:=by rw[vo];simpa using c3
 rw[Ps.bind_at (Gt c3),←d3]
 by_cases c4:(AB (b.drop (Bw b).toNat)).2.2=0
 case neg=>
  have e4:CI b=true:=by rw[vn];simpa using c4
  rw[E2 (JX c4)]
  exact⟨fun _=>by unfold EO;rw[e1,e2,e3,e4];rfl,fun _ _ h=>by cases h⟩
 have e4:CI b=false:=by rw[vn];simpa using c4
 rw[Ps.bind_at (Gt c4),←d4]
 by_cases c5:(Ad (b.drop (Be b).toNat)).2.2=0
 case neg=>
  have e5:Dz b=true:=by rw[s1];simp[c5]
  rw[E2 (JX c5)]
  exact⟨fun _=>by unfold EO;rw[e1,e2,e3,e4,e5];rfl,fun _ _ h=>by cases h⟩
 rw[Ps.bind_at (Gt c5),←d5]
 by_cases c6:8 <(Ad (b.drop (Be b).toNat)).1
 ·have e5:Dz b=true:=by rw[s1,decide_eq_true (by omega),Bool.or_true]
  rw[if_pos c6]
  exact⟨fun _=>by unfold EO;rw[e1,e2,e3,e4,e5];rfl,fun _ _ h=>by cases h⟩
 have e5:Dz b=false:=by rw[s1,c5,decide_eq_false (by omega)];rfl
 rw[if_neg c6]
 obtain⟨_,p',i',nr,r1,r2,r3⟩:=kx (by omega)
 have eg:((Ad (b.drop (Be b).toNat)).1 - 0).toNat=(Ad (b.drop (Be b).toNat)).1.toNat:=by rw[Int.sub_zero]
 rw[eg] at r3
 have af:PN (b,(Ad (b.drop (Be b).toNat)).1,IntKind.i64.wrap (Be b+(Ad (b.drop (Be b).toNat)).2.1),0,0,0,0,0,0,0,(Ad b).1,DZ b,(BB (b.drop (Bx b).toNat)).1.1,(BB (b.drop (Bx b).toNat)).1.2,(AB (b.drop (Bw b).toNat)).1.1,(AB (b.drop (Bw b).toNat)).1.2,[])=(b,(Ad (b.drop (Be b).toNat)).1,p',i',0,0,0,0,0,0,(Ad b).1,DZ b,(BB (b.drop (Bx b).toNat)).1.1,(BB (b.drop (Bx b).toNat)).1.2,(AB (b.drop (Bw b).toNat)).1.1,(AB (b.drop (Bw b).toNat)).1.2,nr):=by
  rw[w5]
  exact r1
 have K0:Gj b=CZ b (Ad (b.drop (Be b).toNat)).1 p' i':=by
  unfold Gj BT BC BU CG
  simp only[A5]
  rw[af]
  rfl
 have K:∀{β:Type} (f:DQ→β),f (PN (b,(Ad (b.drop (Be b).toNat)).1,IntKind.i64.wrap (Be b+(Ad (b.drop (Be b).toNat)).2.1),0,0,0,0,0,0,0,(Ad b).1,DZ b,(BB (b.drop (Bx b).toNat)).1.1,(BB (b.drop (Bx b).toNat)).1.2,(AB (b.drop (Bw b).toNat)).1.1,(AB (b.drop (Bw b).toNat)).1.2,[]))=f _:=fun f=>congrArg f af
 rcases r3 with⟨j1,j2⟩|⟨l,j1,j2,j3⟩
 ·rw[j2] at K0
  rw[E2 j1]
  exact⟨fun _=>by unfold EO;rw[e1,e2,e3,e4,e5,K0];rfl,fun _ _ h=>by cases h⟩
 ·rw[j3] at K0
  rw[Ps.bind_at j1]
  refine⟨(fun h=>by cases h),fun c r h=>?_⟩
  cases h
  have f6:M9 b=p':=by
   unfold M9 BT BC BU CG
   simp only[A5]
   rw[e1,e2,e3,e4,e5,K0,af]
   rfl
  refine⟨?_,?_,?_,?_⟩
  ·have q0:OS b=(Ad b).1:=by
    unfold OS YG BT BC BU CG
    simp only[A5]
    rw[e1,e2,e3,e4,e5,K0,af]
    rfl
   have q1:OT b=DZ b:=by
    unfold OT YF BT BC BU CG
    simp only[A5]
    rw[e1,e2,e3,e4,e5,K0,af]
    rfl
   have q2:OU b=(BB (b.drop (Bx b).toNat)).1.1:=by
    unfold OU YE BT BC BU CG
    simp only[A5]
    rw[e1,e2,e3,e4,e5,K0,af]
    rfl
   have q3:OV b=(BB (b.drop (Bx b).toNat)).1.2:=by
    unfold OV YD BT BC BU CG
    simp only[A5]
    rw[e1,e2,e3,e4,e5,K0,af]
    rfl
   have q4:OW b=(AB (b.drop (Bw b).toNat)).1.1:=by
    unfold OW YC BT BU BC CG
    simp only[A5]
    rw[e1,e2,e3,e4,e5,K0,af]
    rfl
   have q5:OX b=(AB (b.drop (Bw b).toNat)).1.2:=by
    unfold OX YA BT BU BC CG
    simp only[A5]
    rw[e1,e2,e3,e4,e5,K0,af]
    rfl
   have q8:J1 b=l:=by
    unfold J1 YB BT BC BU CG
    simp only[A5]
    rw[e1,e2,e3,e4,e5,K0,af]
    exact j2
   rw[q0,q1,q2,q3,q4,q5,q8,y9]
  ·unfold EO;rw[e1,e2,e3,e4,e5,K0];rfl
  ·rw[f6];exact r2
  ·rw[f6]
mutual
/-- Rows of one's own of known elements as what stays. -/
def Aw6 (os:AE):A→Option A
 | .v w=>some (.v w)
 | .sl c l=>some (.sl c l)
 | .sq q=>match Ai q os with
  |some (.arr _ sz (.ty c l))=>bif Nat.beq sz (size c) then some (.sl c l) else none
  |_=>none
 | .agg xs=>match frzL os xs with
  |some ys=>some (.agg ys)
  |none=>none
 | .tup xs=>match frzL os xs with
  |some ys=>some (.tup ys)
  |none=>none
 |_=>none
def frzL (os:AE):List A→Option (List A)
 | []=>some []
 | x::r=>match Aw6 os x with
  |some y=>match frzL os r with
   |some t=>some (y::t)
   |none=>none
  |none=>none
end
section
variable {F:Nat→Prop} {N:Nm} {m:Nat} {R:World} {os:AE}
mutual
theorem Bi1 (hh:Bp F N m os R):∀{x y:A} {v:Value},Aw6 os x=some y→Hv F N m R x v→Hv (fun g=>F g∨Gb N os g) N m R y v∧y.pk (fun _=>none)=y
 | .v w,y,v,he,h=>by
  unfold Aw6 at he
  cases he
  exact⟨h.step (Ext.wide fun g hg=> .inl hg),by unfold A.pk;rfl⟩
 | .sl c l,y,v,he,h=>by
  unfold Aw6 at he
  cases he
  exact⟨h.step (Ext.wide fun g hg=> .inl hg),by unfold A.pk;rfl⟩
 | .sq q,y,v,he,h=>by
  unfold Aw6 at he
  split at he<;>try(cases he;done)
  rename_i e sz c l hl
  cases hb:Nat.beq sz (size c) with
  |false=>rw[hb] at he;cases he
  |true=>
   rw[hb] at he
   cases he
   obtain rfl:=Nat.eq_of_beq_eq_true hb
   obtain⟨_,rfl⟩:=h.sq_inv
   obtain⟨_,zs,g1,g2⟩:=hh.ob q _ hl
   have hw:Ext F N m R (fun g=>F g∨Gb N os g) N m R:=Ext.wide fun g hg=> .inl hg
   exact⟨(A1h (F':=fun g=>F g∨Gb N os g) (N:=N) (nx:=m) g1 (fun k hk=>(g2 k hk).step hw) (fun g hg=> .inr ⟨q,_,hl,hg⟩)).1,by unfold A.pk;rfl⟩
 | .agg xs,y,v,he,h=>by
  unfold Aw6 at he
  split at he<;>try(cases he;done)
  rename_i ys mu
  cases he
  obtain⟨vs,rfl,h1⟩:=h.agg_inv
  obtain⟨g1,g2⟩:=frzL_ok hh mu h1
  exact⟨.agg vs g1.at.1 g1.at.2,by unfold A.pk;rw[g2]⟩
 | .tup xs,y,v,he,h=>by
  unfold Aw6 at he
  split at he<;>try(cases he;done)
  rename_i ys mu
  cases he
  obtain⟨vs,rfl,h1⟩:=h.tup_inv
  obtain⟨g1,g2⟩:=frzL_ok hh mu h1
  exact⟨.tup vs g1.at.1 g1.at.2,by unfold A.pk;rw[g2]⟩
 | .ref _,_,_,he,_| .own _ _,_,_,he,_| .ownx _ _ _ _,_,_,he,_| .vw _ _ _ _ _,_,_,he,_| .el _ _ _ _,_,_,he,_| .dq _,_,_,he,_| .iv _ _,_,_,he,_| .de _ _ _ _,_,_,he,_| .ie _ _ _ _ _,_,_,he,_
 | .mp _,_,_,he,_| .nl,_,_,he,_| .it _ _,_,_,he,_| .fn _ _ _,_,_,he,_| .dead,_,_,he,_| .av _ _ _,_,_,he,_| .rv _,_,_,he,_| .vr _ _ _ _,_,_,he,_| .vd _ _ _ _,_,_,he,_| .yl _,_,_,he,_| .opt _ _ _,_,_,he,_=>by unfold Aw6 at he;cases he
theorem frzL_ok (hh:Bp F N m os R):∀{xs ys:List A} {vs:List Value},frzL os xs=some ys→HL F N m R xs vs→HL (fun g=>F g∨Gb N os g) N m R ys vs∧pkL (fun _=>none) ys=ys
 | [],ys,vs,he,h=>by
  unfold frzL at he
  cases he
  obtain rfl:=h.inv0
  exact⟨HL.nil,by unfold pkL;rfl⟩
 |x::r,ys,vs,he,h=>by
  unfold frzL at he
  split at he<;>try(cases he;done)
  rename_i y hy
  split at he<;>try(cases he;done)
  rename_i t ht
  cases he
  obtain⟨v,w,rfl,h1,h2⟩:=h.inv
  obtain⟨g1,g2⟩:=Bi1 hh hy h1
  obtain⟨g3,g4⟩:=frzL_ok hh ht h2
  exact⟨HL.cons g1 g3,by unfold pkL;rw[g2,g4]⟩
end
end
theorem Bc9 {P:Program} {f:FuncId} {args:List A} {k m:Nat} {x y:A} {os:AE} (h:An P f args 0 [] k x m os) (hy:Aw6 os x=some y):An P f args 0 [] k y 0 []:=fun F N R vs hh ha=>
 Calls.mono (P:=P) (h F N R vs hh ha) fun e0 R' ⟨v,F',N',e1,e2,e3,e4,e5⟩=>by
  obtain⟨q1,q2⟩:=Bi1 e2 hy e4
  have hn:∀i j,i <m→(fun _=>none:Nat→Option Nat) i=some j→j <0∧N'.b j=N'.b i∧N'.q j=N'.q i:=fun i j _ hj=>by cases hj
  have q3:=Hv.pk (N':=N') (nx':=0) (ρ:=fun _=>none) hn q1
  rw[q2] at q3
  refine⟨v,fun g=>F' g∨Gb N' os g,N',e1,⟨fun g hg=>?_,fun i ob hi=>(by cases hi),fun i ob g hi=>(by cases hi),fun i j x y g hi=>(by cases hi),fun x hx=>⟨.inl (e2.gl x hx).1,(e2.gl x hx).2⟩⟩,⟨Nat.le_refl _,fun i hi=>absurd hi (Nat.not_lt_zero _),fun i hi=>absurd hi (Nat.not_lt_zero _),fun g hg=> .inl (e3.f g hg),fun g hg=>?_,fun g ⟨i,ob,hi,_⟩=>(by cases hi),e3.os,e3.tape,e3.output,e3.size,e3.keep⟩,q3,e5⟩
  ·rcases hg with hg|⟨i,ob,hi,hg⟩
   ·exact e2.flt g hg
   ·exact(e2.ob i ob hi).2.lt hg
  ·rcases hg with hg|hg
   ·exact e3.fnew g hg
   ·rcases e3.foot g hg with h|h
    ·exact .inr (.inl h)
    ·exact .inr (.inr h)
theorem A14 {P:Program} {f:FuncId} {args cj:List A} {k nx1 nx:Nat} {b:Value} {o o1:AE} (h:An P f cj nx [] k (.v b) nx1 o1) (hk:k≤1) (ha:frzL o args=some cj):An P f args nx o 1 (.v b) nx o:=fun F N R vs hh hl=>by
 have jw:Bp (fun g=>F g∨Gb N o g) N nx [] R:=⟨fun g hg=>by
   rcases hg with h|⟨i,ob,hi,hg⟩
   ·exact hh.flt g h
   ·exact(hh.ob i ob hi).2.lt hg,fun i ob hi=>(by cases hi),fun i ob g hi=>(by cases hi),fun i j x y g hi=>(by cases hi),fun x hx=>⟨.inl (hh.gl x hx).1,(hh.gl x hx).2⟩⟩
 refine(h _ N R vs jw (frzL_ok hh ha hl).1).mono fun e R' ⟨y,F',N',e1,_,_,e4,e5⟩=>?_
 have hb:=e5 hk
 exact⟨y,F,N,e1,(hh.grow hb).1,Step.of_below hb,by rw[e4.v_inv];exact .v _,fun _=>hb⟩
def Bzc (g:KD):KD:=fun args nx o=>match frzL o args with
 |some cj=>match g cj nx [] with
  |some (k,.v b,_,_,ps)=>bif Nat.ble k 1 then some (1,.v b,nx,o,ps) else none
  |_=>none
 |none=>none
theorem Brq {P:Program} {f:FuncId} {g:KD} (h:Gw P f g):Gw P f (Bzc g):=fun args nx o k x nx' o' ps he=>by
 unfold Bzc at he
 split at he<;>try(cases he;done)
 rename_i cj ha
 split at he<;>try(cases he;done)
 rename_i k1 b nx1 o1 du hg
 cases hb:Nat.ble k1 1 with
 |false=>rw[hb] at he;cases he
 |true=>
  rw[hb] at he
  cases he
  exact⟨fun hp=>A14 ((h _ _ _ _ _ _ _ _ hg).1 hp) (Nat.le_of_ble_eq_true hb) ha,[],rfl⟩
def B5l (g:KD):KD:=fun args nx o=>bif freeL args then(match g args 0 [] with
 |some (k,x,_,os,ps)=>match Aw6 os x with
  |some y=>bif Nat.ble k 1 then some (1,y.pk (Y8 nx),nx,o,ps) else none
  |none=>none
 |none=>none) else none
theorem O7 {P:Program} {f:FuncId} {g:KD} (h:Gw P f g):Gw P f (B5l g):=fun args nx o k x nx' o' ps he=>by
 unfold B5l at he
 cases hf:freeL args with
 |false=>rw[hf] at he;cases he
 | true=>
  rw[hf,cond_true] at he
  split at he<;>try(cases he;done)
  rename_i k1 x1 m os du hg
  split at he<;>try(cases he;done)
  rename_i y hy
  cases hb:Nat.ble k1 1 with
  |false=>rw[hb] at he;cases he
  |true=>
   rw[hb] at he
   cases he
   exact⟨fun hp=>Afr (Bc9 ((h _ _ _ _ _ _ _ _ hg).1 hp) hy) (Nat.le_of_ble_eq_true hb) hf nx o,[],rfl⟩
end Go.Proofs.YtifkbgkbajncjaaGreatDoor
namespace Go.Proofs.YtifkbgkbajncjaaGreatDoor
open Go.RowKit
def Bta (a0:Ae):A:=Aer a0
def Bs9 (a0:Ae):AE:=Aeq a0
def Bk1 (a0:Ae):List Prop:=[Af a0.length]
theorem B2s (a0:Ae) (hp:∀p∈Bk1 a0,p):An AP 110 [AA .bytes a0] 0 [] 1 (Bta a0) 1 (Bs9 a0):=
 Bgj a0 (Aoa a0 (hp _ (List.mem_cons_self ..))).1
theorem Bk2:Gw AP 110 (Cy [.t .bytes] 1 Bta Bs9 Bk1):=Az B2s
def Bz1:=DM Bk2 Cdf
def Bz2:=DM (O7 Bk2) Bz1
def Bz3:=DM Qe Bz2
def Bom:=DM Ahf Bz3
def Fl (a1:List Ab):Bool:=AI a1 !=0
def EN (a0:Ae) (a1:List Ab):Bool:=!EO a0||WY a1 (Ao.mk (OS a0) (OT a0) (A1.mk (OU a0) (OV a0)) (BE.mk (OW a0) (OX a0)) (J1 a0)) !=0
def HU (a0:Ae) (a1:List Ab):Ao:=Ao.mk (bif(Fl a1) then 0 else bif(EN a0 a1) then 0 else OS a0) (bif(Fl a1) then 0 else bif(EN a0 a1) then 0 else OT a0) (A1.mk (bif(Fl a1) then 0 else bif(EN a0 a1) then 0 else OU a0) (bif(Fl a1) then 0 else bif(EN a0 a1) then 0 else OV a0)) (BE.mk (bif(Fl a1) then 0 else bif(EN a0 a1) then 0 else OW a0) (bif(Fl a1) then 0 else bif(EN a0 a1) then 0 else OX a0)) (bif(Fl a1) then[] else bif(EN a0 a1) then[] else J1 a0)
def Qw (a0:Ae) (a1:List Ab):Int:=bif(Fl a1) then 0 else bif(EN a0 a1) then 0 else M9 a0
def Qx (a0:Ae) (a1:List Ab):Int:=bif(Fl a1) then AI a1 else bif(EN a0 a1) then 120 else 0
def Ak1 (a0:Ae) (a1:List Ab):A:=.tup [.agg [iV (((HU a0 a1).site)),iV (((HU a0 a1).seq)),iV (((HU a0 a1).stamp.n)),iV (((HU a0 a1).stamp.site)),iV (((HU a0 a1).vec.a)),iV (((HU a0 a1).vec.b)),.sl .write ((HU a0 a1).writes)],iV (Qw a0 a1),iV (Qx a0 a1)]
def Ael (a0:Ae) (a1:List Ab):List Prop:=[(∀(g:Ab),g∈a1→AJ g.1.size),((!(Fl a1))=true→Af a0.length),((!(Fl a1))=true→(!EO a0)=false→AJ (J1 a0).length),((!(Fl a1))=true→(!EO a0)=false→∀(g:Ab),g∈a1→AJ g.1.size)]
theorem A08 (a0:Ae) (a1:List Ab) (hp:∀p∈Ael a0 a1,p):An AP 88 [AA .bytes a0,.sl .group a1] 0 [] 1 (Ak1 a0 a1) 0 []:=AN (u:=9) (Au Bom.2 AF) (by kernel_rfl) hp
theorem Ba0:Gw AP 88 (Cy [.t .bytes,.l .group] 0 Ak1 (fun _ _=>[]) Ael):=Az A08
def Bz4:=DM Ba0 Bom
def Bsy (a0:Ae) (a1:List Ab):A:=.tup [.agg [iV ((Cs a1 a0).1.site),iV ((Cs a1 a0).1.seq),iV ((Cs a1 a0).1.stamp.n),iV ((Cs a1 a0).1.stamp.site),iV ((Cs a1 a0).1.vec.a),iV ((Cs a1 a0).1.vec.b),.sl .write (Cs a1 a0).1.writes],iV ((Cs a1 a0).2.1),iV ((Cs a1 a0).2.2)]
def Bkq (a0:Ae) (a1:List Ab):List Prop:=[Af a0.length∧∀g∈a1,AJ g.1.size]
theorem Bgd (b:Ae) (l:List Ab) (hb:Af b.length) (hw:∀g∈l,AJ g.1.size):(∀p∈Ael b l,p)∧HU b l=(Cs l b).1∧Qw b l=(Cs l b).2.1∧Qx b l=(Cs l b).2.2:=by
 obtain⟨q1,q2,q3⟩:=Aoa b hb
 have yp:EO b=true→AJ (J1 b).length:=fun h=>by
  cases hc:psC b with
  |none=>rw[q2 hc] at h;cases h
  |some y=>
   obtain⟨c,r⟩:=y
   obtain⟨e,_⟩:=q3 c r hc
   have h8:=(Bw0.front _ _ _ hc).1.2.2.2.2.1
   rw[←e] at h8
   have h8:(J1 b).length≤8:=h8
   unfold AJ
   omega
 refine⟨Aa hw (Aa (fun _=>hb) (Aa (fun _ h=>yp (by simpa using h)) (Aa (fun _ _=>hw) Ag))),?_⟩
 have cr:OI l b=none→Cs l b=(IG.change,0,bif AI l !=0 then AI l else 120):=fun h=>by unfold Cs;rw[h]
 cases hg:AI l !=0 with
 | true=>
  have dc:OI l b=none:=by
   cases h:OI l b with
   |none=>rfl
   |some y=>
    exfalso
    obtain⟨c,r1,_,e1⟩:=Ps.bind_is h
    have hc:WY l c=AI l:=by unfold WY;rw[hg];rfl
    rw[if_neg (by rw[hc];simpa using hg)] at e1
    cases e1
  have k1:Fl l=true:=hg
  rw[cr dc,hg]
  refine⟨?_,?_,?_⟩
  ·unfold HU;rw[k1];rfl
  ·unfold Qw;rw[k1];rfl
  ·unfold Qx;rw[k1];rfl
 | false=>
  have k1:Fl l=false:=hg
  cases hc:psC b with
  |none=>
   have k0:EN b l=true:=by unfold EN;rw[q2 hc];rfl
   rw[cr (E2 hc),hg]
   refine⟨?_,?_,?_⟩
   ·unfold HU;rw[k1,k0];rfl
   ·unfold Qw;rw[k1,k0];rfl
   ·unfold Qx;rw[k1,k0];rfl
  | some y=>
   obtain⟨c,r⟩:=y
   obtain⟨e,e7,ei,er⟩:=q3 c r hc
   have k0:EN b l=(WY l c !=0):=by unfold EN;rw[e7,e];rfl
   by_cases l5:WY l c=0
   ·have hs:OI l b=some (c,r):=by unfold OI;rw[Ps.bind_at hc,if_pos l5];rfl
    have px:Cs l b=(c,(b.length:Int) - (r.length:Int),0):=by unfold Cs;rw[hs]
    have k0:EN b l=false:=by rw[k0,l5];rfl
    rw[px]
    refine⟨?_,?_,?_⟩
    ·unfold HU;rw[k1,k0];exact e
    ·unfold Qw
     rw[k1,k0]
     show M9 b=(b.length:Int) - (r.length:Int)
     obtain⟨i1,i2,_⟩:=ei
     rw[←er,List.length_drop]
     omega
    ·unfold Qx;rw[k1,k0];rfl
   ·have dc:OI l b=none:=by unfold OI;rw[Ps.bind_at hc,if_neg l5];rfl
    have k0:EN b l=true:=by rw[k0];simpa using l5
    rw[cr dc,hg]
    refine⟨?_,?_,?_⟩
    ·unfold HU;rw[k1,k0];rfl
    ·unfold Qw;rw[k1,k0];rfl
    ·unfold Qx;rw[k1,k0];rfl
theorem B2l (a0:Ae) (a1:List Ab) (hp:∀p∈Bkq a0 a1,p):An AP 88 [AA .bytes a0,.sl .group a1] 0 [] 1 (Bsy a0 a1) 0 []:=by
 obtain⟨p1,p2⟩:=hp _ (List.mem_cons_self ..)
 obtain⟨h1,h2,h3,h4⟩:=Bgd a0 a1 p1 p2
 have h:=A08 a0 a1 h1
 unfold Ak1 at h
 rw[h2,h3,h4] at h
 exact h
theorem Bw6:Gw AP 88 (Cy [.t .bytes,.l .group] 0 Bsy (fun _ _=>[]) Bkq):=Az B2l
def Bz5:=DM Bw6 Bz4
abbrev B61:=Bz5
abbrev C1:Type:=Ae×Int×Int×Int×(List Int)
def Ala (x:C1):St:=⟨49,2,[(0,.sl .u8 x.1),(5,iV (x.2.1)),(6,iV (x.2.2.1)),(8,.sq 1),(9,iV (x.2.2.2.1))],[(1,some (.arr 3 1 (.ty .i64 x.2.2.2.2)))]⟩
def S6:St→Option C1
 |⟨49,2,[(0,.sl .u8 z0),(5,.v (.int .i64 z1)),(6,.v (.int .i64 z2)),(8,.sq 1),(9,.v (.int .i64 z3))],[(1,some (.arr 3 1 (.ty .i64 z4)))]⟩=>some (z0,z1,z2,z3,z4)
 |_=>none
def Ak9:Em:=⟨1,2,[0,5,6,8,9],[],[(3,1)],[3],[6,8,2,3,4],[1]⟩
def Ak8:EQ:=⟨[.nil 8 3 .i64],[(0,1)],[0,5,6,8,9],[0]⟩
def Fq (a0:Ae) (a2:Int):=Ad (List.take ((a0.length:Int).toNat - a2.toNat) (List.drop a2.toNat a0))
def Bt (a0:Ae) (a1 a2 a3:Int):Bool:=!!decide (a3 <a1)&&(Fq a0 a2).2.2 !=0
def Nb (a0:Ae) (a2:Int):Int:=IntKind.i64.wrap (a2+(Fq a0 a2).2.1)
def Nc (a0:Ae) (a2:Int) (a4:List Int):List Int:=a4++[(Fq a0 a2).1]
def Aev (a0:Ae) (a1 a2 a3:Int):Bool:=!!decide (a3 <a1)&&!(Bt a0 a1 a2 a3)
def DB:C1→C1
  |(a0,a1,a2,a3,a4)=>(a0,a1,Nb a0 a2,IntKind.i64.wrap (a3+1),Nc a0 a2 a4)
def CJ (x:C1):El:=some (Aev x.1 x.2.1 x.2.2.1 x.2.2.2.1)
def Ro:C1→List Prop
  |(a0,a1,a2,a3,a4)=>[((!!decide (a3 <a1))=true→0≤a2∧a2≤(a0.length:Int)∧(a0.length:Int)≤(a0.length:Int)),((!!decide (a3 <a1))=true→(!(Fq a0 a2).2.2 !=0)=true→Af (a4.length+1))]
abbrev KG:C1→List Prop:=Ro
def Aaj:C1→BD
  |(a0,a1,a2,a3,a4)=>[(some 0,some (!decide (a3 <a1)),⟨49,2,[(6,.v (.int .i64 a2)),(8,.sq 1),(2,.dead),(3,.dead),(4,.dead)],[(1,some (.arr 3 1 (.ty .i64 a4)))]⟩),(none,some (Bt a0 a1 a2 a3),⟨49,2,[(6,.v (.int .i64 a2)),(8,.sq 1),(2,.v (.slice none 0 0)),(3,.v (.int .i64 0)),(4,.v (.bool (false)))],[(1,some (.arr 3 1 (.ty .i64 a4)))]⟩)]
def My (x:C1):Nat:=(x.2.1 - x.2.2.2.1).toNat
def Rp (x:C1):C1:=Bh DB CJ (My x) x
def Aew:=Jt (Co Cdf.1 L0) (Aw AP 89 0) Ak9 Ak8 S6 My DB CJ KG Aaj
def UP:=V8 0 (g:=Aew) (BX (T:=Ala) (psA:=Ro) Cdf.2 AF (u:=9) (by kernel_rfl) (by decide) (fun⟨a0,a1,a2,a3,a4⟩=>by kernel_rfl) (fun _ h=>h) (fun s x h=>by unfold S6 at h;split at h<;>first|(cases h;rfl)|cases h) (fun _=>A9 (n:=49) rfl) fun _ _=>rfl) ⟨L0,AF⟩
def Fp (a0:Ae):Bool:=(Ad a0).2.2 !=0||decide ((Ad a0).1 >2)
def Cc (a0:Ae):=Rp (a0,(Ad a0).1,(Ad a0).2.1,0,[])
def Lx (a0:Ae):Bool:=Bt (Cc a0).1 (Cc a0).2.1 (Cc a0).2.2.1 (Cc a0).2.2.2.1
def Kw (a0:Ae):Int:=bif(Fp a0) then 0 else bif(Lx a0) then 0 else(Cc a0).2.2.1
def Kx (a0:Ae):Bool:=bif(Fp a0) then false else bif(Lx a0) then false else true
def Ky (a0:Ae):List Int:=bif(Fp a0) then[] else bif(Lx a0) then[] else(Cc a0).2.2.2.2
def TO (a0:Ae):A:=.tup [.sq 0,iV (Kw a0),.v (.bool (Kx a0))]
def TN (a0:Ae):AE:=[(0,some (.arr 3 1 (.ty .i64 (Ky a0))))]
def YT (a0:Ae):=(!(Fp a0))=true→A8 DB CJ KG (My (a0,(Ad a0).1,(Ad a0).2.1,0,[])) (a0,(Ad a0).1,(Ad a0).2.1,0,[])
def YS (a0:Ae):List Prop:=[(YT a0)]
theorem Avt (a0:Ae):RL (Co Cdf.1 UP.1) 9 89 [AA .bytes a0] 0 []=some (1,TO a0,1,TN a0,[((!(Fp a0))=true→Aw AP 89 0=Aw AP 89 0),(YT a0)]):=by kernel_rfl
theorem Ayp (a0:Ae) (hp:∀p∈YS a0,p):An AP 89 [AA .bytes a0] 0 [] 1 (TO a0) 1 (TN a0):=
  AN (Au Cdf.2 UP.2) (Avt a0) (Aa (by intros;rfl) (nT hp fun _=>Ag))
theorem Bi9 (b:Ae) (n:Int):∀(m:Nat) (p i:Int) (l:List Int),m=(n - i).toNat→Ol b p→0≤i→(l.length:Int)+m≤2→n≤2→
  A8 DB CJ KG m (b,n,p,i,l)∧
  ∃p' i' l',Bh DB CJ m (b,n,p,i,l)=(b,n,p',i',l')∧Ol b p'∧
   ((Ps.many (Ps.ofG Ad) m (b.drop p.toNat)=none∧Bt b n p' i'=true)∨(∃t,Ps.many (Ps.ofG Ad) m (b.drop p.toNat)=some (t,b.drop p'.toNat)∧l'=l++t∧Bt b n p' i'=false))
 | 0,p,i,l,hm,hp,hi,hl,hn=>by
  have hd:decide (i <n)=false:=decide_eq_false (by omega)
  have hk:Bt b n p i=false:=by
   unfold Bt Fq
   rw[hd]
   rfl
  have hf:∀q:Prop,(!!decide (i <n))=true→q:=fun q h=>by rw[hd] at h;cases h
  refine⟨⟨Aa (hf _) (Aa (hf _) Ag),?_⟩,p,i,l,rfl,hp,.inr ⟨[],rfl,(List.append_nil _).symm,hk⟩⟩
  show(!!decide (i <n)&&!Bt b n p i)=false
  rw[hd]
  rfl
 | m+1,p,i,l,hm,hp,hi,hl,hn=>by
  have ae:i <n:=by omega
  have hd:decide (i <n)=true:=decide_eq_true ae
  have ar:Bt b n p i=((Ad (b.drop p.toNat)).2.2 !=0):=by
   unfold Bt Fq
   rw[hd,A5]
   rfl
  have bz:CJ (b,n,p,i,l)=some (!((Ad (b.drop p.toNat)).2.2 !=0)):=by
   show some (!!decide (i <n)&&!Bt b n p i)=_
   rw[ar,hd]
   rfl
  have cu:∀q∈KG (b,n,p,i,l),q:=Aa (fun _=>Es hp) (Aa (fun _ _=>by show Af (l.length+1);unfold Af;omega) Ag)
  by_cases hc:(Ad (b.drop p.toNat)).2.2=0
  case neg=>
   have e:((Ad (b.drop p.toNat)).2.2 !=0)=true:=by simpa using hc
   rw[e] at bz ar
   refine⟨⟨cu,fun h=>by rw[bz] at h;cases h⟩,p,i,l,?_,hp,.inl ⟨A3a (JX hc),ar⟩⟩
   show(bif BJ (CJ (b,n,p,i,l)) then _ else _)=_
   rw[bz]
   rfl
  have e:((Ad (b.drop p.toNat)).2.2 !=0)=false:=by simpa using hc
  rw[e] at bz
  obtain⟨q1,q2⟩:=adv (get:=Ad) (fun b=>⟨(AZ b).1,(AZ b).2.1⟩) hp
  have hnx:DB (b,n,p,i,l)=(b,n,p+(Ad (b.drop p.toNat)).2.1,i+1,l++[(Ad (b.drop p.toNat)).1]):=by
   show(b,n,Nb b p,IntKind.i64.wrap (i+1),Nc b p l)=_
   unfold Nb Nc Fq
   rw[A5,FL q1,i64_in (by omega)]
  obtain⟨i1,p',i',l',i2,i3,i4⟩:=Bi9 b n m _ (i+1) (l++[(Ad (b.drop p.toNat)).1]) (by omega) q1 (by omega) (by rw[List.length_append];simp only[List.length_cons,List.length_nil];omega) hn
  refine⟨⟨cu,fun _=>by rw[hnx];exact i1⟩,p',i',l',?_,i3,?_⟩
  ·show(bif BJ (CJ (b,n,p,i,l)) then Bh DB CJ m (DB (b,n,p,i,l)) else _)=_
   rw[bz,hnx,i2]
   rfl
  ·rw[A3b (Gt hc),←q2]
   rcases i4 with⟨j1,j2⟩|⟨t,j1,j2,j3⟩
   ·exact .inl ⟨by rw[j1],j2⟩
   ·exact .inr ⟨_::t,by rw[j1],by rw[j2,List.append_assoc];rfl,j3⟩
def gpF (b:Ae):List Int×Int×Bool:=match Aj5 b with
 |some (p,r)=>(p,(b.length:Int) - (r.length:Int),true)
 |none=>([],0,false)
theorem Avs (b:Ae) (hb:Af b.length):(∀p∈YS b,p)∧Ky b=(gpF b).1∧Kw b=(gpF b).2.1∧Kx b=(gpF b).2.2:=by
 have h0:Ol b 0:=⟨Int.le_refl _,by omega,hb⟩
 have gN:∀b,0≤(Ad b).2.1∧(Ad b).2.1≤(b.length:Int):=fun b=>⟨(AZ b).1,(AZ b).2.1⟩
 obtain⟨a1,d1⟩:=adv gN h0
 have e0:(0:Int)+(Ad (b.drop (0:Int).toNat)).2.1=(Ad b).2.1:=Int.zero_add _
 rw[e0] at a1 d1
 have uv:=(AZ b).2.2.1
 have s1:Fp b=((Ad b).2.2 !=0||decide ((Ad b).1 >2)):=rfl
 have kx:=fun(h2:(Ad b).1≤2)=>Bi9 b (Ad b).1 ((Ad b).1 - 0).toNat _ 0 [] rfl a1 (Int.le_refl _) (by simp only[List.length_nil];omega) h2
 refine⟨Aa (fun h=>?_) Ag,?_⟩
 ·rw[s1,Bool.not_or,Bool.and_eq_true] at h
  have h8:=of_decide_eq_false (by simpa using h.2:decide ((Ad b).1 >2)=false)
  exact(kx (by omega)).1
 have cr:Aj5 b=none→gpF b=([],0,false):=fun h=>by unfold gpF;rw[h]
 by_cases c1:(Ad b).2.2=0
 case neg=>
  have e1:Fp b=true:=by rw[s1];simp[c1]
  rw[cr (E2 (JX c1))]
  refine⟨?_,?_,?_⟩
  ·unfold Ky Cc;rw[e1];rfl
  ·unfold Kw Cc;rw[e1];rfl
  ·unfold Kx;rw[e1];rfl
 by_cases c2:2 <(Ad b).1
 ·have e1:Fp b=true:=by rw[s1,decide_eq_true (by omega),Bool.or_true]
  rw[cr (by unfold Aj5;rw[Ps.bind_at (Gt c1),if_pos c2];rfl)]
  refine⟨?_,?_,?_⟩
  ·unfold Ky Cc;rw[e1];rfl
  ·unfold Kw Cc;rw[e1];rfl
  ·unfold Kx;rw[e1];rfl
 have e1:Fp b=false:=by rw[s1,c1,decide_eq_false (by omega)];rfl
 obtain⟨_,p',i',l',r1,r2,r3⟩:=kx (by omega)
 have eg:((Ad b).1 - 0).toNat=(Ad b).1.toNat:=by rw[Int.sub_zero]
 rw[eg] at r3
 have af:Rp (b,(Ad b).1,(Ad b).2.1,0,[])=(b,(Ad b).1,p',i',l'):=r1
 have K0:Lx b=Bt b (Ad b).1 p' i':=by
  unfold Lx Cc
  rw[af]
 have cu:Aj5 b=Ps.many (Ps.ofG Ad) (Ad b).1.toNat (b.drop (Ad b).2.1.toNat):=by unfold Aj5;rw[Ps.bind_at (Gt c1),if_neg c2]
 rcases r3 with⟨j1,j2⟩|⟨t,j1,j2,j3⟩
 ·rw[j2] at K0
  rw[cr (by rw[cu];exact j1)]
  refine⟨?_,?_,?_⟩
  ·unfold Ky Cc;rw[e1,K0];rfl
  ·unfold Kw Cc;rw[e1,K0];rfl
  ·unfold Kx;rw[e1,K0];rfl
 ·rw[j3] at K0
  have hg:gpF b=(t,p',true):=by
   unfold gpF
   rw[cu,j1]
   simp only
   obtain⟨k1,k2,k3⟩:=r2
   rw[List.length_drop]
   congr 2
   omega
  rw[hg]
  refine⟨?_,?_,?_⟩
  ·unfold Ky Cc;rw[e1,K0,af];exact j2
  ·unfold Kw Cc;rw[e1,K0,af];rfl
  ·unfold Kx;rw[e1,K0];rfl
abbrev Ex:Type:=Ae×Int×Int×Ae
def Ayy (x:Ex):St:=⟨35,3,[(0,.sl .u8 x.1),(5,iV (x.2.1)),(6,.own 2 0),(7,iV (x.2.2.1))],[(2,some (.rcd 58 [.av .u8 32 x.2.2.2]))]⟩
def YY:St→Option Ex
 |⟨35,3,[(0,.sl .u8 z0),(5,.v (.int .i64 z1)),(6,.own 2 0),(7,.v (.int .i64 z2))],[(2,some (.rcd 58 [.av .u8 32 z3]))]⟩=>some (z0,z1,z2,z3)
 |_=>none
def Ayx:Em:=⟨3,3,[0,5,6,7],[],[(2,2)],[2],[],[2]⟩
def Ayw:EQ:=⟨[.seg 2 [some (.u8,32)]],[(2,2)],[0,5,6,7],[2]⟩
def Cw (a2:Int):Bool:=!!decide (a2 <32)
def Hh (a0:Ae) (a1 a2:Int):Int:=(↑(UInt8.toNat (a0.getD (IntKind.i64.wrap (a1+a2)).toNat (Av TC.u8))):Int)
def PS (a0:Ae) (a1 a2:Int) (a3:Ae):Ae:=a3.set a2.toNat (UInt8.ofNat (Hh a0 a1 a2).toNat)
def D4:Ex→Ex
  |(a0,a1,a2,a3)=>(a0,a1,IntKind.i64.wrap (a2+1),PS a0 a1 a2 a3)
def E1 (x:Ex):El:=some ((Cw x.2.2.1))
def WM:Ex→List Prop
  |(a0,a1,a2,_)=>[((Cw a2)=true→0≤IntKind.i64.wrap (a1+a2)∧IntKind.i64.wrap (a1+a2) <(a0.length:Int)),((Cw a2)=true→0≤a2∧a2 <32),((Cw a2)=true→a2.toNat <32),((Cw a2)=true→0≤(Hh a0 a1 a2)∧(Hh a0 a1 a2) <256)]
def LD:Ex→List Prop
  |(a0,a1,a2,_)=>[((Cw a2)=true→0≤IntKind.i64.wrap (a1+a2)∧IntKind.i64.wrap (a1+a2) <(a0.length:Int)),((Cw a2)=true→0≤a2∧a2 <32)]
def Ald (x:Ex):BD:=[(some 2,some (!decide (x.2.2.1 <32)),⟨35,3,[],[(2,some (.rcd 58 [.av .u8 32 x.2.2.2]))]⟩)]
def O0 (x:Ex):Nat:=32+(x.2.1.toNat)
def WN (x:Ex):Ex:=Bh D4 E1 (O0 x) x
theorem Avv (a0:Ae) (a1 a2:Int) (a3:Ae) (hp:∀p∈LD (a0,a1,a2,a3),p):∀p∈WM (a0,a1,a2,a3),p:=by
 have n0:=N0 hp
 have n1:((Cw a2)=true→(0:Int)≤a2∧a2 <(32:Int)):=N0 (N1 hp)
 have n2:((Cw a2)=true→a2.toNat <(32:Nat)):=by intro h0;have g:=n1 h0;omega
 have n3:((Cw a2)=true→(0:Int)≤(Hh a0 a1 a2)∧(Hh a0 a1 a2) <(256:Int)):=by intros;exact MM _
 exact(Aa n0 (Aa n1 (Aa n2 (Aa n3 Ag))))
def Aqz:=Jt (Co Cdf.1 L0) (Aw AP 91 2) Ayx Ayw YY O0 D4 E1 LD Ald
def TP:=V8 2 (g:=Aqz) (BX (T:=Ayy) (psA:=WM) Cdf.2 AF (u:=9) (by kernel_rfl) (by decide) (fun⟨a0,a1,a2,a3⟩=>by kernel_rfl) (fun⟨a0,a1,a2,a3⟩=>Avv a0 a1 a2 a3) (fun s x h=>by unfold YY at h;split at h<;>first|(cases h;rfl)|cases h) (fun _=>A9 (n:=35) rfl) fun _ _=>rfl) ⟨L0,AF⟩
abbrev Ew:Type:=Ae×Int×(List Ae)
def Ayv (x:Ew):St:=⟨35,2,[(0,.sl .u8 x.1),(4,.sq 1),(5,iV (x.2.1))],[(1,some (.arr 58 32 (.ty .digest x.2.2)))]⟩
def YX:St→Option Ew
 |⟨35,2,[(0,.sl .u8 z0),(4,.sq 1),(5,.v (.int .i64 z1))],[(1,some (.arr 58 32 (.ty .digest z2)))]⟩=>some (z0,z1,z2)
 |_=>none
def Ayu:Em:=⟨1,2,[0,4,5],[],[(4,1)],[4],[4],[1]⟩
def Ayt:EQ:=⟨[.nil 4 58 .digest],[(0,1)],[0,4,5],[0]⟩
def Am (a0:Ae) (a1:Int):Bool:=!!decide (a1 <(a0.length:Int))
def AH (a0:Ae) (a1:Int):=WN (a0,a1,0,Bpb)
def K4 (a0:Ae) (a1:Int):Int:=(↑((AH a0 a1).2.2.2.getD 31 (0:UInt8)).toNat:Int)
def K3 (a0:Ae) (a1:Int):Int:=(↑((AH a0 a1).2.2.2.getD 30 (0:UInt8)).toNat:Int)
def K2 (a0:Ae) (a1:Int):Int:=(↑((AH a0 a1).2.2.2.getD 29 (0:UInt8)).toNat:Int)
def KZ (a0:Ae) (a1:Int):Int:=(↑((AH a0 a1).2.2.2.getD 28 (0:UInt8)).toNat:Int)
def KY (a0:Ae) (a1:Int):Int:=(↑((AH a0 a1).2.2.2.getD 27 (0:UInt8)).toNat:Int)
def KX (a0:Ae) (a1:Int):Int:=(↑((AH a0 a1).2.2.2.getD 26 (0:UInt8)).toNat:Int)
def KW (a0:Ae) (a1:Int):Int:=(↑((AH a0 a1).2.2.2.getD 25 (0:UInt8)).toNat:Int)
def KV (a0:Ae) (a1:Int):Int:=(↑((AH a0 a1).2.2.2.getD 24 (0:UInt8)).toNat:Int)
def KU (a0:Ae) (a1:Int):Int:=(↑((AH a0 a1).2.2.2.getD 23 (0:UInt8)).toNat:Int)
def KT (a0:Ae) (a1:Int):Int:=(↑((AH a0 a1).2.2.2.getD 22 (0:UInt8)).toNat:Int)
def KS (a0:Ae) (a1:Int):Int:=(↑((AH a0 a1).2.2.2.getD 21 (0:UInt8)).toNat:Int)
def KR (a0:Ae) (a1:Int):Int:=(↑((AH a0 a1).2.2.2.getD 20 (0:UInt8)).toNat:Int)
def KQ (a0:Ae) (a1:Int):Int:=(↑((AH a0 a1).2.2.2.getD 19 (0:UInt8)).toNat:Int)
def KP (a0:Ae) (a1:Int):Int:=(↑((AH a0 a1).2.2.2.getD 18 (0:UInt8)).toNat:Int)
def KO (a0:Ae) (a1:Int):Int:=(↑((AH a0 a1).2.2.2.getD 17 (0:UInt8)).toNat:Int)
def KN (a0:Ae) (a1:Int):Int:=(↑((AH a0 a1).2.2.2.getD 16 (0:UInt8)).toNat:Int)
def KM (a0:Ae) (a1:Int):Int:=(↑((AH a0 a1).2.2.2.getD 15 (0:UInt8)).toNat:Int)
def KL (a0:Ae) (a1:Int):Int:=(↑((AH a0 a1).2.2.2.getD 14 (0:UInt8)).toNat:Int)
def KK (a0:Ae) (a1:Int):Int:=(↑((AH a0 a1).2.2.2.getD 13 (0:UInt8)).toNat:Int)
def KJ (a0:Ae) (a1:Int):Int:=(↑((AH a0 a1).2.2.2.getD 12 (0:UInt8)).toNat:Int)
def KI (a0:Ae) (a1:Int):Int:=(↑((AH a0 a1).2.2.2.getD 11 (0:UInt8)).toNat:Int)
def KH (a0:Ae) (a1:Int):Int:=(↑((AH a0 a1).2.2.2.getD 10 (0:UInt8)).toNat:Int)
def Mn (a0:Ae) (a1:Int):Int:=(↑((AH a0 a1).2.2.2.getD 9 (0:UInt8)).toNat:Int)
def Mm (a0:Ae) (a1:Int):Int:=(↑((AH a0 a1).2.2.2.getD 8 (0:UInt8)).toNat:Int)
def Ml (a0:Ae) (a1:Int):Int:=(↑((AH a0 a1).2.2.2.getD 7 (0:UInt8)).toNat:Int)
def Mk (a0:Ae) (a1:Int):Int:=(↑((AH a0 a1).2.2.2.getD 6 (0:UInt8)).toNat:Int)
def Mj (a0:Ae) (a1:Int):Int:=(↑((AH a0 a1).2.2.2.getD 5 (0:UInt8)).toNat:Int)
def Mi (a0:Ae) (a1:Int):Int:=(↑((AH a0 a1).2.2.2.getD 4 (0:UInt8)).toNat:Int)
def Mh (a0:Ae) (a1:Int):Int:=(↑((AH a0 a1).2.2.2.getD 3 (0:UInt8)).toNat:Int)
def Mg (a0:Ae) (a1:Int):Int:=(↑((AH a0 a1).2.2.2.getD 2 (0:UInt8)).toNat:Int)
def Mf (a0:Ae) (a1:Int):Int:=(↑((AH a0 a1).2.2.2.getD 1 (0:UInt8)).toNat:Int)
def Me (a0:Ae) (a1:Int):Int:=(↑((AH a0 a1).2.2.2.getD 0 (0:UInt8)).toNat:Int)
def PR (a0:Ae) (a1:Int) (a2:List Ae):List Ae:=a2++[[UInt8.ofNat (Me a0 a1).toNat,UInt8.ofNat (Mf a0 a1).toNat,UInt8.ofNat (Mg a0 a1).toNat,UInt8.ofNat (Mh a0 a1).toNat,UInt8.ofNat (Mi a0 a1).toNat,UInt8.ofNat (Mj a0 a1).toNat,UInt8.ofNat (Mk a0 a1).toNat,UInt8.ofNat (Ml a0 a1).toNat,UInt8.ofNat (Mm a0 a1).toNat,UInt8.ofNat (Mn a0 a1).toNat,UInt8.ofNat (KH a0 a1).toNat,UInt8.ofNat (KI a0 a1).toNat,UInt8.ofNat (KJ a0 a1).toNat,UInt8.ofNat (KK a0 a1).toNat,UInt8.ofNat (KL a0 a1).toNat,UInt8.ofNat (KM a0 a1).toNat,UInt8.ofNat (KN a0 a1).toNat,UInt8.ofNat (KO a0 a1).toNat,UInt8.ofNat (KP a0 a1).toNat,UInt8.ofNat (KQ a0 a1).toNat,UInt8.ofNat (KR a0 a1).toNat,UInt8.ofNat (KS a0 a1).toNat,UInt8.ofNat (KT a0 a1).toNat,UInt8.ofNat (KU a0 a1).toNat,UInt8.ofNat (KV a0 a1).toNat,UInt8.ofNat (KW a0 a1).toNat,UInt8.ofNat (KX a0 a1).toNat,UInt8.ofNat (KY a0 a1).toNat,UInt8.ofNat (KZ a0 a1).toNat,UInt8.ofNat (K2 a0 a1).toNat,UInt8.ofNat (K3 a0 a1).toNat,UInt8.ofNat (K4 a0 a1).toNat]]
def D3 (x:Ew):Ew:=(x.1,IntKind.i64.wrap (x.2.1+32),PR x.1 x.2.1 x.2.2)
def FV (x:Ew):El:=some ((Am x.1 x.2.1))
def AK (a0:Ae) (a1:Int):=O0 (a0,a1,0,Bpb)
def WL:Ew→List Prop
  |(a0,a1,a2)=>[((Am a0 a1)=true→Aw AP 91 2=Aw AP 91 2),((Am a0 a1)=true→(0:Int)≤0∧(0:Int) <256),((Am a0 a1)=true→(0:Int)≤0∧(0:Int) <256),((Am a0 a1)=true→(0:Int)≤0∧(0:Int) <256),((Am a0 a1)=true→(0:Int)≤0∧(0:Int) <256),((Am a0 a1)=true→(0:Int)≤0∧(0:Int) <256),((Am a0 a1)=true→(0:Int)≤0∧(0:Int) <256),((Am a0 a1)=true→(0:Int)≤0∧(0:Int) <256),((Am a0 a1)=true→(0:Int)≤0∧(0:Int) <256),((Am a0 a1)=true→(0:Int)≤0∧(0:Int) <256),((Am a0 a1)=true→(0:Int)≤0∧(0:Int) <256),((Am a0 a1)=true→(0:Int)≤0∧(0:Int) <256),((Am a0 a1)=true→(0:Int)≤0∧(0:Int) <256),((Am a0 a1)=true→(0:Int)≤0∧(0:Int) <256),((Am a0 a1)=true→(0:Int)≤0∧(0:Int) <256),((Am a0 a1)=true→(0:Int)≤0∧(0:Int) <256),((Am a0 a1)=true→(0:Int)≤0∧(0:Int) <256),((Am a0 a1)=true→(0:Int)≤0∧(0:Int) <256),((Am a0 a1)=true→(0:Int)≤0∧(0:Int) <256),((Am a0 a1)=true→(0:Int)≤0∧(0:Int) <256),((Am a0 a1)=true→(0:Int)≤0∧(0:Int) <256),((Am a0 a1)=true→(0:Int)≤0∧(0:Int) <256),((Am a0 a1)=true→(0:Int)≤0∧(0:Int) <256),((Am a0 a1)=true→(0:Int)≤0∧(0:Int) <256),((Am a0 a1)=true→(0:Int)≤0∧(0:Int) <256),((Am a0 a1)=true→(0:Int)≤0∧(0:Int) <256),((Am a0 a1)=true→(0:Int)≤0∧(0:Int) <256),((Am a0 a1)=true→(0:Int)≤0∧(0:Int) <256),((Am a0 a1)=true→(0:Int)≤0∧(0:Int) <256),((Am a0 a1)=true→(0:Int)≤0∧(0:Int) <256),((Am a0 a1)=true→(0:Int)≤0∧(0:Int) <256),((Am a0 a1)=true→(0:Int)≤0∧(0:Int) <256),((Am a0 a1)=true→(0:Int)≤0∧(0:Int) <256),((Am a0 a1)=true→A8 D4 E1 LD (AK a0 a1) (a0,a1,0,Bpb)),((Am a0 a1)=true→Af (a2.length+1)),((Am a0 a1)=true→0≤(K4 a0 a1)∧(K4 a0 a1) <256),((Am a0 a1)=true→0≤(K3 a0 a1)∧(K3 a0 a1) <256),((Am a0 a1)=true→0≤(K2 a0 a1)∧(K2 a0 a1) <256),((Am a0 a1)=true→0≤(KZ a0 a1)∧(KZ a0 a1) <256),((Am a0 a1)=true→0≤(KY a0 a1)∧(KY a0 a1) <256),((Am a0 a1)=true→0≤(KX a0 a1)∧(KX a0 a1) <256),((Am a0 a1)=true→0≤(KW a0 a1)∧(KW a0 a1) <256),((Am a0 a1)=true→0≤(KV a0 a1)∧(KV a0 a1) <256),((Am a0 a1)=true→0≤(KU a0 a1)∧(KU a0 a1) <256),((Am a0 a1)=true→0≤(KT a0 a1)∧(KT a0 a1) <256),((Am a0 a1)=true→0≤(KS a0 a1)∧(KS a0 a1) <256),((Am a0 a1)=true→0≤(KR a0 a1)∧(KR a0 a1) <256),((Am a0 a1)=true→0≤(KQ a0 a1)∧(KQ a0 a1) <256),((Am a0 a1)=true→0≤(KP a0 a1)∧(KP a0 a1) <256),((Am a0 a1)=true→0≤(KO a0 a1)∧(KO a0 a1) <256),((Am a0 a1)=true→0≤(KN a0 a1)∧(KN a0 a1) <256),((Am a0 a1)=true→0≤(KM a0 a1)∧(KM a0 a1) <256),((Am a0 a1)=true→0≤(KL a0 a1)∧(KL a0 a1) <256),((Am a0 a1)=true→0≤(KK a0 a1)∧(KK a0 a1) <256),((Am a0 a1)=true→0≤(KJ a0 a1)∧(KJ a0 a1) <256),((Am a0 a1)=true→0≤(KI a0 a1)∧(KI a0 a1) <256),((Am a0 a1)=true→0≤(KH a0 a1)∧(KH a0 a1) <256),((Am a0 a1)=true→0≤(Mn a0 a1)∧(Mn a0 a1) <256),((Am a0 a1)=true→0≤(Mm a0 a1)∧(Mm a0 a1) <256),((Am a0 a1)=true→0≤(Ml a0 a1)∧(Ml a0 a1) <256),((Am a0 a1)=true→0≤(Mk a0 a1)∧(Mk a0 a1) <256),((Am a0 a1)=true→0≤(Mj a0 a1)∧(Mj a0 a1) <256),((Am a0 a1)=true→0≤(Mi a0 a1)∧(Mi a0 a1) <256),((Am a0 a1)=true→0≤(Mh a0 a1)∧(Mh a0 a1) <256),((Am a0 a1)=true→0≤(Mg a0 a1)∧(Mg a0 a1) <256),((Am a0 a1)=true→0≤(Mf a0 a1)∧(Mf a0 a1) <256),((Am a0 a1)=true→0≤(Me a0 a1)∧(Me a0 a1) <256)]
def LB:Ew→List Prop
  |(a0,a1,a2)=>[((Am a0 a1)=true→A8 D4 E1 LD (AK a0 a1) (a0,a1,0,Bpb)),((Am a0 a1)=true→Af (a2.length+1))]
def Alc (x:Ew):BD:=[(some 0,some (!decide (x.2.1 <(x.1.length:Int))),⟨35,2,[(4,.sq 1)],[(1,some (.arr 58 32 (.ty .digest x.2.2)))]⟩)]
def Mo (x:Ew):Nat:=(x.1.length-(x.2.1.toNat))/32
def Aqy (x:Ew):Ew:=Bh D3 FV (Mo x) x
theorem Avu (a0:Ae) (a1:Int) (a2:List Ae) (hp:∀p∈LB (a0,a1,a2),p):∀p∈WL (a0,a1,a2),p:=
  (Aa (by intros;rfl) (Aa (by omega) (Aa (by omega) (Aa (by omega) (Aa (by omega) (Aa (by omega) (Aa (by omega) (Aa (by omega) (Aa (by omega) (Aa (by omega) (Aa (by omega) (Aa (by omega) (Aa (by omega) (Aa (by omega) (Aa (by omega) (Aa (by omega) (Aa (by omega) (Aa (by omega) (Aa (by omega) (Aa (by omega) (Aa (by omega) (Aa (by omega) (Aa (by omega) (Aa (by omega) (Aa (by omega) (Aa (by omega) (Aa (by omega) (Aa (by omega) (Aa (by omega) (Aa (by omega) (Aa (by omega) (Aa (by omega) (Aa (by omega) (nT hp fun hp=>nT hp fun _=>Aa (by intros;exact MM _) (Aa (by intros;exact MM _) (Aa (by intros;exact MM _) (Aa (by intros;exact MM _) (Aa (by intros;exact MM _) (Aa (by intros;exact MM _) (Aa (by intros;exact MM _) (Aa (by intros;exact MM _) (Aa (by intros;exact MM _) (Aa (by intros;exact MM _) (Aa (by intros;exact MM _) (Aa (by intros;exact MM _) (Aa (by intros;exact MM _) (Aa (by intros;exact MM _) (Aa (by intros;exact MM _) (Aa (by intros;exact MM _) (Aa (by intros;exact MM _) (Aa (by intros;exact MM _) (Aa (by intros;exact MM _) (Aa (by intros;exact MM _) (Aa (by intros;exact MM _) (Aa (by intros;exact MM _) (Aa (by intros;exact MM _) (Aa (by intros;exact MM _) (Aa (by intros;exact MM _) (Aa (by intros;exact MM _) (Aa (by intros;exact MM _) (Aa (by intros;exact MM _) (Aa (by intros;exact MM _) (Aa (by intros;exact MM _) (Aa (by intros;exact MM _) (Aa (by intros;exact MM _) Ag)))))))))))))))))))))))))))))))))))))))))))))))))))))))))))))))))
def Aqx:=Jt (Co Cdf.1 TP.1) (Aw AP 91 0) Ayu Ayt YX Mo D3 FV LB Alc
def Abw:=V8 0 (g:=Aqx) (BX (T:=Ayv) (psA:=WL) Cdf.2 TP.2 (u:=9) (by kernel_rfl) (by decide) (fun⟨a0,a1,a2⟩=>by kernel_rfl) (fun⟨a0,a1,a2⟩=>Avu a0 a1 a2) (fun s x h=>by unfold YX at h;split at h<;>first|(cases h;rfl)|cases h) (fun _=>A9 (n:=35) rfl) fun _ _=>rfl) TP
def LA (a0:Ae):Bool:=(a0.length:Int).tmod (32:Int) !=0
def Ae1 (a0:Ae):Bool:=bif(LA a0) then false else true
def Ae2 (a0:Ae):List Ae:=bif(LA a0) then[] else(Aqy (a0,0,[])).2.2
def Ae4 (a0:Ae):A:=.tup [.sq 0,.v (.bool (Ae1 a0))]
def Ae3 (a0:Ae):AE:=[(0,some (.arr 58 32 (.ty .digest (Ae2 a0))))]
def Aov (a0:Ae):List Prop:=[((!(LA a0))=true→A8 D3 FV LB (Mo (a0,0,[])) (a0,0,[]))]
theorem Bbl (a0:Ae):RL (Co Cdf.1 Abw.1) 9 91 [AA .bytes a0] 0 []=some (1,Ae4 a0,1,Ae3 a0,[((!(LA a0))=true→Aw AP 91 0=Aw AP 91 0),((!(LA a0))=true→A8 D3 FV LB (Mo (a0,0,[])) (a0,0,[]))]):=by kernel_rfl
theorem Bgs (a0:Ae) (hp:∀p∈Aov a0,p):An AP 91 [AA .bytes a0] 0 [] 1 (Ae4 a0) 1 (Ae3 a0):=
  AN (Au Cdf.2 Abw.2) (Bbl a0) (Aa (by intros;rfl) (nT hp fun _=>Ag))
end Go.Proofs.YtifkbgkbajncjaaGreatDoor

