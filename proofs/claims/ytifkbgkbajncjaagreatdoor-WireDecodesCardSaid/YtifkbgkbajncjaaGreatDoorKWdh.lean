/- made by a program (rowgen.py): WireDecodes: for every input the law returns true, and each argument reads behind the call as it read before. -/
import Derived.Test.YtifkbgkbajncjaaGreatDoorKWdg

set_option maxRecDepth 100000
noncomputable section
namespace Go.Proofs.YtifkbgkbajncjaaGreatDoor
open Go.RowKit
theorem Bzf {b:Ae} (_h:32≤b.length):[b.getD 0 0,b.getD 1 0,b.getD 2 0,b.getD 3 0,b.getD 4 0,b.getD 5 0,b.getD 6 0,b.getD 7 0,b.getD 8 0,b.getD 9 0,b.getD 10 0,b.getD 11 0,b.getD 12 0,b.getD 13 0,b.getD 14 0,b.getD 15 0,b.getD 16 0,b.getD 17 0,b.getD 18 0,b.getD 19 0,b.getD 20 0,b.getD 21 0,b.getD 22 0,b.getD 23 0,b.getD 24 0,b.getD 25 0,b.getD 26 0,b.getD 27 0,b.getD 28 0,b.getD 29 0,b.getD 30 0,b.getD 31 0]=b.take 32:=by
 have:(List.range 32).map (fun k=>b.getD k 0)=b.take 32:=by
  refine List.ext_getElem (by rw[List.length_map,List.length_range,List.length_take];omega) fun i h1 h2=>?_
  rw[List.length_map,List.length_range] at h1
  rw[List.getElem_map,List.getElem_range,List.getElem_take,List.getD_eq_getElem?_getD,List.getElem?_eq_getElem (by omega)]
  rfl
 exact this
theorem A74 {b:Ae} (_h:32≤b.length):dgs b=b.take 32::dgs (b.drop 32):=by
 conv=>lhs;rw[←List.take_append_drop 32 b]
 exact Bqe (by rw[List.length_take];omega) _
theorem Biv {b:Ae} (h:b.length <32):dgs b=[]:=by
 unfold dgs
 rw[Nat.div_eq_of_lt h]
 rfl
theorem Bti {d:Ae} {k:Nat} (v:UInt8) (h:k <d.length):(d.set k v).take (k+1)=d.take k++[v]:=by
 rw[List.take_add_one,List.take_set,List.set_eq_of_length_le (by rw[List.length_take];omega),List.getElem?_set_self h]
 rfl
theorem A51 (x:UInt8):UInt8.ofNat ((x.toNat:Int)).toNat=x:=by rw[Int.toNat_natCast,UInt8.ofNat_toNat]
theorem Bxs (b:Ae) (a:Int) (_ha:0≤a) (_hl:a+32≤(b.length:Int)) (hb:Af b.length) (n:Nat) (d:Ae) (hd:d.length=32) (_hn:32≤n):
  A8 D4 E1 LD n (b,a,0,d)∧(Bh D4 E1 n (b,a,0,d)).2.2.2=(b.drop a.toNat).take 32:=by
 unfold Af at hb
 have key:=QW (next:=D4) (goes:=E1) (ps:=LD) (fun x=>x.1=b∧x.2.1=a∧0≤x.2.2.1∧x.2.2.1≤32∧x.2.2.2.length=32∧x.2.2.2.take x.2.2.1.toNat=(b.drop a.toNat).take x.2.2.1.toNat) (fun x=>(32 - x.2.2.1).toNat) (by
  rintro⟨b',a',k,e⟩ ⟨h1,h2,h3,h4,h5,h6⟩
  obtain rfl:b'=b:=h1
  obtain rfl:a'=a:=h2
  replace h3:0≤k:=h3
  replace h4:k≤32:=h4
  replace h5:e.length=32:=h5
  replace h6:e.take k.toNat=(b'.drop a'.toNat).take k.toNat:=h6
  have hg:∀q:Prop,(k <32→q)→(Cw k=true→q):=fun q f h=>f (by
   unfold Cw at h
   rw[Bool.not_not] at h
   exact of_decide_eq_true h)
  refine⟨Aa (hg _ fun h=>?_) (Aa (hg _ fun h=>⟨h3,h⟩) Ag),hg _ fun h=>?_⟩
  ·show(0:Int)≤IntKind.i64.wrap (a'+k)∧IntKind.i64.wrap (a'+k) <(b'.length:Int)
   rw[i64_in (by omega)]
   omega
  ·have e1:D4 (b',a',k,e)=(b',a',k+1,e.set k.toNat (b'.getD (a'+k).toNat 0)):=by
    show(b',a',IntKind.i64.wrap (k+1),PS b' a' k e)=_
    rw[i64_in (by omega)]
    unfold PS Hh
    rw[i64_in (n:=a'+k) (by omega),A51]
    rfl
   rw[e1]
   have e2:(k+1).toNat=k.toNat+1:=by omega
   refine⟨⟨rfl,rfl,by show 0≤k+1;omega,by show k+1≤32;omega,by show(e.set k.toNat _).length=32;rw[List.length_set];exact h5,?_⟩,by show(32 - (k+1)).toNat <(32 - k).toNat;omega⟩
   show(e.set k.toNat (b'.getD (a'+k).toNat 0)).take (k+1).toNat=(b'.drop a'.toNat).take (k+1).toNat
   rw[e2,Bti _ (by omega),List.take_add_one,h6,List.getElem?_drop,show a'.toNat+k.toNat=(a'+k).toNat by omega,List.getElem?_eq_getElem (by omega),List.getD_eq_getElem?_getD,List.getElem?_eq_getElem (by omega)]
   rfl) n (b,a,0,d) ⟨rfl,rfl,Int.le_refl _,by show(0:Int)≤32;omega,hd,rfl⟩ (by show(32 - (0:Int)).toNat≤n;omega)
 obtain⟨k1,⟨_,_,k2,k3,k4,k5⟩,k6⟩:=key
 refine⟨k1,?_⟩
 have k7:(Bh D4 E1 n (b,a,0,d)).2.2.1=32:=by
  have:(!!decide ((Bh D4 E1 n (b,a,0,d)).2.2.1 <32))=false:=k6
  rw[Bool.not_not,decide_eq_false_iff_not] at this
  omega
 rw[k7,show(32:Int).toNat=32 from rfl,List.take_of_length_le (by rw[k4];exact Nat.le_refl _)] at k5
 exact k5
theorem Blb (b:Ae) (hb:Af b.length):∀(m:Nat) (a:Int) (l:List Ae),0≤a→a+32*(m:Int)=(b.length:Int)→l.length+m≤b.length→
  A8 D3 FV LB m (b,a,l)∧(Bh D3 FV m (b,a,l)).2.2=l++dgs (b.drop a.toNat)
 | 0,a,l,ha,hm,hl=>by
  have hg:Am b a=false:=by
   unfold Am
   rw[Bool.not_not,decide_eq_false_iff_not]
   omega
  have hf:∀q:Prop,Am b a=true→q:=fun q h=>by rw[hg] at h;cases h
  refine⟨⟨Aa (hf _) (Aa (hf _) (Ag)),hg⟩,?_⟩
  show l=l++dgs (b.drop a.toNat)
  rw[Biv (by rw[List.length_drop];omega),List.append_nil]
 | m+1,a,l,ha,hm,hl=>by
  have hg:Am b a=true:=by
   unfold Am
   rw[Bool.not_not,decide_eq_true_eq]
   omega
  have aq:=hb
  unfold Af at aq
  obtain⟨i1,i2⟩:=Bxs b a ha (by omega) hb (32+a.toNat) Bpb rfl (by omega)
  have i2:(WN (b,a,(0:Int),Bpb)).2.2.2=(b.drop a.toNat).take 32:=i2
  have hnx:D3 (b,a,l)=(b,a+32,l++[(b.drop a.toNat).take 32]):=by
   show(b,IntKind.i64.wrap (a+32),PR b a l)=_
   rw[i64_in (by omega)]
   unfold PR Me Mf Mg Mh Mi Mj Mk Ml Mm Mn KH KI KJ KK KL KM KN KO KP KQ KR KS KT KU KV KW KX KY KZ K2 K3 K4 AH
   simp only[i2,A51]
   rw[Bzf (by rw[List.length_take,List.length_drop];omega),List.take_take]
   rfl
  obtain⟨j1,j2⟩:=Blb b hb m (a+32) (l++[(b.drop a.toNat).take 32]) (by omega) (by omega) (by rw[List.length_append];simp only[List.length_cons,List.length_nil];omega)
  refine⟨⟨Aa (fun _=>i1) (Aa (fun _=>by show Af (l.length+1);unfold Af;omega) Ag),fun _=>by rw[hnx];exact j1⟩,?_⟩
  show(bif Am b a then Bh D3 FV m (D3 (b,a,l)) else _).2.2=_
  rw[hg,hnx,cond_true,j2,A74 (b:=b.drop a.toNat) (by rw[List.length_drop];omega),List.drop_drop,List.append_assoc,show(a+32).toNat=a.toNat+32 by omega]
  rfl
theorem Bxr (b:Ae) (hb:Af b.length):(∀p∈Aov b,p)∧Ae1 b=decide (b.length % 32=0)∧Ae2 b=(bif decide (b.length % 32=0) then dgs b else[]):=by
 have k0:LA b=!decide (b.length % 32=0):=by
  unfold LA
  rw[show((b.length:Int).tmod 32)=((b.length % 32:Nat):Int) from rfl]
  by_cases h:b.length % 32=0
  ·rw[h];rfl
  ·rw[decide_eq_false h]
   show(((b.length % 32:Nat):Int) !=0)=true
   simp only[bne_iff_ne,ne_eq]
   omega
 have hl:=fun(h:b.length % 32=0)=>Blb b hb (b.length / 32) 0 [] (Int.le_refl _) (by omega) (by simp only[List.length_nil];omega)
 refine⟨Aa (fun h=>?_) Ag,?_,?_⟩
 ·rw[k0,Bool.not_not] at h
  exact(hl (of_decide_eq_true h)).1
 ·unfold Ae1
  rw[k0]
  cases decide (b.length % 32=0)<;>rfl
 ·unfold Ae2
  rw[k0]
  cases h:decide (b.length % 32=0) with
  |false=>rfl
  |true=>exact(hl (of_decide_eq_true h)).2
def B3n:=DM Axo Cwe
def Gh (a0:Ae):Bool:=(a0.length:Int)==0
def H7 (a0:Ae):Bool:=(↑(UInt8.toNat (a0.getD 0 (Av TC.u8))):Int) !=181
def GY (a0:Ae):=Ad (List.take ((a0.length:Int).toNat - 1) (List.drop 1 a0))
def H6 (a0:Ae):Bool:=(GY a0).2.2 !=0
def Lm (a0:Ae):Int:=IntKind.i64.wrap (1+(GY a0).2.1)
def Nk (a0:Ae):Int:=IntKind.i64.wrap ((Lm a0)+(GY a0).1)
def H5 (a0:Ae):Bool:=decide ((GY a0).1 >1048576)
def JG (a0:Ae):Int:=IntKind.i64.wrap ((Nk a0)+4)
def Ll (a0:Ae):Bool:=!PT (List.take ((JG a0).toNat - 0) (List.drop 0 a0))
def SZ (a0:Ae):Ae:=List.take ((Nk a0).toNat - (Lm a0).toNat) (List.drop (Lm a0).toNat a0)
def GX (a0:Ae):Bool:=decide ((a0.length:Int) <(JG a0))
def Ad4 (a0:Ae):Int:=bif(Gh a0) then 0 else bif(H7 a0) then 0 else bif(H6 a0) then 0 else bif(H5 a0) then 0 else bif(GX a0) then 0 else bif(Ll a0) then 0 else(JG a0)
def Ad5 (a0:Ae):Int:=bif(Gh a0) then 10 else bif(H7 a0) then 30 else bif(H6 a0) then(GY a0).2.2 else bif(H5 a0) then 3 else bif(GX a0) then 10 else bif(Ll a0) then 31 else 0
def Ad6 (a0:Ae):Ae:=bif(Gh a0) then[] else bif(H7 a0) then[] else bif(H6 a0) then[] else bif(H5 a0) then[] else bif(GX a0) then[] else bif(Ll a0) then[] else[]++(SZ a0)
def Au5 (a0:Ae):A:=.tup [.sq 0,iV (Ad4 a0),iV (Ad5 a0)]
def Au4 (a0:Ae):AE:=[(0,some (.arr 5 1 (.ty .u8 (Ad6 a0))))]
def Am6 (a0:Ae):List Prop:=[((!(Gh a0))=true→(0:Int)≤0∧0 <(a0.length:Int)),((!(Gh a0))=true→(!(H7 a0))=true→(0:Int)≤1∧1≤(a0.length:Int)∧(a0.length:Int)≤(a0.length:Int)),((!(Gh a0))=true→(!(H7 a0))=true→(!(H6 a0))=true→(!(H5 a0))=true→(!(GX a0))=true→(0:Int)≤0∧0≤(JG a0)∧(JG a0)≤(a0.length:Int)),((!(Gh a0))=true→(!(H7 a0))=true→(!(H6 a0))=true→(!(H5 a0))=true→(!(GX a0))=true→Af (List.take ((JG a0).toNat - 0) (List.drop 0 a0)).length),((!(Gh a0))=true→(!(H7 a0))=true→(!(H6 a0))=true→(!(H5 a0))=true→(!(GX a0))=true→(!(Ll a0))=true→0≤(Lm a0)∧(Lm a0)≤(Nk a0)∧(Nk a0)≤(a0.length:Int)),((!(Gh a0))=true→(!(H7 a0))=true→(!(H6 a0))=true→(!(H5 a0))=true→(!(GX a0))=true→(!(Ll a0))=true→Af (0+(SZ a0).length))]
theorem Bfc (a0:Ae) (hp:∀p∈Am6 a0,p):An AP 44 [AA .bytes a0] 0 [] 1 (Au5 a0) 1 (Au4 a0):=AN (u:=9) (Au B3n.2 AF) (by kernel_rfl) hp
def Am7 (a0:Ae):A:=.tup [.sq 0,iV (Bo a0),iV (GF a0)]
def Am5 (a0:Ae):AE:=[(0,some (.arr 5 1 (.ty .u8 (AM a0))))]
def Ag4 (a0:Ae):List Prop:=[Af a0.length]
theorem A99 (b:Ae) (hb:Af b.length):(∀p∈Am6 b,p)∧Ad4 b=Bo b∧Ad5 b=GF b∧Ad6 b=AM b:=by
 unfold Af at hb
 obtain⟨g1,g2,g3,g4⟩:=Amh b
 have k6:Lm b=1+(Dx b).2.1:=by unfold Lm GY;rw[O8];exact i64_in (by omega)
 have k5:Nk b=1+(Dx b).2.1+(Dx b).1:=by unfold Nk GY;rw[O8,k6];exact i64_in (by omega)
 have k3:JG b=NB b:=by unfold JG NB;rw[k5];exact i64_in (by omega)
 have k9:Gh b=(b.length==0):=A0d _
 have k8:H7 b=!(b.getD 0 0==181):=Bjt _
 have k7:H6 b=((Dx b).2.2 !=0):=by unfold H6 GY;rw[O8]
 have k4:H5 b=decide (1048576 <(Dx b).1):=by unfold H5 GY;rw[O8]
 have k0:GX b=decide ((b.length:Int) <NB b):=by unfold GX;rw[k3]
 have k2:Ll b=!PT (b.take (NB b).toNat):=by unfold Ll;rw[k3,Nat.sub_zero,List.drop_zero]
 have k1:SZ b=(b.drop (1+(Dx b).2.1).toNat).take (Dx b).1.toNat:=by
  unfold SZ
  rw[k6,k5,show(1+(Dx b).2.1+(Dx b).1).toNat - (1+(Dx b).2.1).toNat=(Dx b).1.toNat by omega]
 obtain⟨q1,q2,q3⟩:=A0u b k9 k8 k7 k4 k0 k2
 have h9:(!(Gh b))=true→1≤b.length:=fun h=>by
  rw[k9] at h
  have:b.length≠0:=by simpa using h
  omega
 have h0:(!(GX b))=true→NB b≤(b.length:Int):=fun h=>by rw[k0,Bool.not_eq_true',decide_eq_false_iff_not] at h;omega
 have ha:NB b=1+(Dx b).2.1+(Dx b).1+4:=rfl
 refine⟨Aa (fun h=>by have:=h9 h;omega) (Aa (fun h _=>by have:=h9 h;omega) (Aa (fun h _ _ _ h'=>by have:=h0 h';rw[k3];omega) (Aa (fun h _ _ _ h'=>?_) (Aa (fun h _ _ _ h' _=>by have:=h0 h';rw[k6,k5];omega) (Aa (fun h _ _ _ h' _=>?_) Ag))))),?_,?_,?_⟩
 ·rw[List.length_take,List.length_drop];unfold Af;omega
 ·rw[k1,List.length_take,List.length_drop];unfold Af;omega
 ·rw[←q1];unfold Ad4;rw[k3]
 ·rw[←q2];unfold Ad5 GY;rw[O8]
 ·rw[←q3];unfold Ad6;rw[k1,List.nil_append]
theorem A98 (a0:Ae) (hp:∀p∈Ag4 a0,p):An AP 44 [AA .bytes a0] 0 [] 1 (Am7 a0) 1 (Am5 a0):=by
 obtain⟨h1,h2,h3,h4⟩:=A99 a0 (hp _ (List.mem_cons_self ..))
 have h:=Bfc a0 h1
 unfold Au5 Au4 at h
 rw[h2,h3,h4] at h
 exact h
theorem A4l:Gw AP 44 (Cy [.t .bytes] 1 Am7 Am5 Ag4):=Az A98
def Bs6 (a0:Ae):A:=.tup [.sq 0,iV ((gpF a0).2.1),.v (.bool (gpF a0).2.2)]
def Bs5 (a0:Ae):AE:=[(0,some (.arr 3 1 (.ty .i64 (gpF a0).1)))]
def Bkx (a0:Ae):List Prop:=[Af a0.length]
theorem B2r (a0:Ae) (hp:∀p∈Bkx a0,p):An AP 89 [AA .bytes a0] 0 [] 1 (Bs6 a0) 1 (Bs5 a0):=by
 obtain⟨h1,h2,h3,h4⟩:=Avs a0 (hp _ (List.mem_cons_self ..))
 have h:=Ayp a0 h1
 unfold TO TN at h
 rw[h2,h3,h4] at h
 exact h
theorem Bky:Gw AP 89 (Cy [.t .bytes] 1 Bs6 Bs5 Bkx):=Az B2r
def Bz6:=DM Bky B61
def Bz7:=DM (O7 Bky) Bz6
def Bte (a0:Ae):A:=.tup [.sq 0,.v (.bool (decide (a0.length % 32=0)))]
def Btd (a0:Ae):AE:=[(0,some (.arr 58 32 (.ty .digest (bif decide (a0.length % 32=0) then dgs a0 else[]))))]
def Bk5 (a0:Ae):List Prop:=[Af a0.length]
theorem B2u (a0:Ae) (hp:∀p∈Bk5 a0,p):An AP 91 [AA .bytes a0] 0 [] 1 (Bte a0) 1 (Btd a0):=by
 obtain⟨h1,h2,h3⟩:=Bxr a0 (hp _ (List.mem_cons_self ..))
 have h:=Bgs a0 h1
 unfold Ae4 Ae3 at h
 rw[h2,h3] at h
 exact h
theorem Bk6:Gw AP 91 (Cy [.t .bytes] 1 Bte Btd Bk5):=Az B2u
def Bz8:=DM Bk6 Bz7
def Bz9:=DM (O7 Bk6) Bz8
def B0a:=DM (O7 Bau) Bz9
def B0b:=DM Amw B0a
def A1v:=DM Anb B0b
abbrev N9:Type:=(List Ab)×Ae×Int×Int×Int×Int×Int×(List Int)×Int×Int×Bool×(List AR)
def Bkz:N9→St
  |(a0,a1,a2,a3,a4,a5,a6,a7,a8,a9,a10,a11)=>⟨99,7,[(0,.sl .group a0),(2,.sl .u8 a1),(4,.own 2 0),(6,.own 3 0),(9,.v (.int .i64 a2)),(13,.v (.int .i64 a3)),(14,.v (.int .i64 a4))],[(2,some (.box 34 [.v (.int .i64 a5),.v (.int .i64 a6),.v (.int .i64 0),.v (.int .i64 0),.v (.int .i64 0),.v (.int .i64 0),.v (.int .i64 0),.v (.int .i64 0),.v (.slice none 0 0),.v (.int .i64 0),.v (.int .i64 0),.sl .i64 a7,.v (.slice none 0 0),.sq 6,.v (.int .i64 a8),.v (.int .i64 a9),.v (.bool a10)])),(3,some (.box 34 [.v (.int .i64 0),.v (.int .i64 0),.v (.int .i64 0),.v (.int .i64 0),.v (.int .i64 0),.v (.int .i64 0),.v (.int .i64 0),.v (.int .i64 0),.v (.slice none 0 0),.v (.int .i64 0),.v (.int .i64 0),.v (.slice none 0 0),.v (.slice none 0 0),.v (.slice none 0 0),.v (.int .i64 0),.v (.int .i64 0),.v (.bool (false))])),(6,some (.arr 62 2 (.ty .row a11)))]⟩
def Alg:Ob→Option (Int×Int×(List Int)×Int×Int×Bool)
 | .box 34 [.v (.int .i64 z5),.v (.int .i64 z6),.v (.int .i64 (w0)),.v (.int .i64 (w1)),.v (.int .i64 (w2)),.v (.int .i64 (w3)),.v (.int .i64 (w4)),.v (.int .i64 (w5)),.v (.slice none 0 0),.v (.int .i64 (w6)),.v (.int .i64 (w7)),.sl .i64 z7,.v (.slice none 0 0),.sq 6,.v (.int .i64 z8),.v (.int .i64 z9),.v (.bool iq)]=>if w0=0∧w1=0∧w2=0∧w3=0∧w4=0∧w5=0∧w6=0∧w7=0 then some (z5,z6,z7,z8,z9,iq) else none
 |_=>none
def Bs7 (x:Int×Int×(List Int)×Int×Int×Bool):Ob:=.box 34 [iV (x.1),iV (x.2.1),iV 0,iV 0,iV 0,iV 0,iV 0,iV 0,.v (.slice none 0 0),iV 0,iV 0,.sl .i64 x.2.2.1,.v (.slice none 0 0),.sq 6,iV (x.2.2.2.1),iV (x.2.2.2.2.1),.v (.bool x.2.2.2.2.2)]
theorem Bbs:∀o x,Alg o=some x→o=Bs7 x:=fun o x h=>by
 unfold Alg at h
 split at h
 ·split at h
  ·rename_i hw
   obtain⟨rfl,rfl,rfl,rfl,rfl,rfl,rfl,rfl⟩:=hw
   cases h;rfl
  ·cases h
 ·cases h
def Alh:Ob→Option (Unit)
 | .box 34 [.v (.int .i64 (w0)),.v (.int .i64 (w1)),.v (.int .i64 (w2)),.v (.int .i64 (w3)),.v (.int .i64 (w4)),.v (.int .i64 (w5)),.v (.int .i64 (w6)),.v (.int .i64 (w7)),.v (.slice none 0 0),.v (.int .i64 (w8)),.v (.int .i64 (w9)),.v (.slice none 0 0),.v (.slice none 0 0),.v (.slice none 0 0),.v (.int .i64 (zf)),.v (.int .i64 (zg)),.v (.bool (false))]=>if w0=0∧w1=0∧w2=0∧w3=0∧w4=0∧w5=0∧w6=0∧w7=0∧w8=0∧w9=0∧zf=0∧zg=0 then some () else none
 |_=>none
def Bs8 (_:Unit):Ob:=.box 34 [iV 0,iV 0,iV 0,iV 0,iV 0,iV 0,iV 0,iV 0,.v (.slice none 0 0),iV 0,iV 0,.v (.slice none 0 0),.v (.slice none 0 0),.v (.slice none 0 0),iV 0,iV 0,.v (.bool (false))]
theorem Bbt:∀o x,Alh o=some x→o=Bs8 x:=fun o x h=>by
 unfold Alh at h
 split at h
 ·split at h
  ·rename_i hw
   obtain⟨rfl,rfl,rfl,rfl,rfl,rfl,rfl,rfl,rfl,rfl,rfl,rfl⟩:=hw
   cases h;rfl
  ·cases h
 ·cases h
def Avy:St→Option N9
 |⟨99,7,[(0,.sl .group z0),(2,.sl .u8 z1),(4,.own 2 0),(6,.own 3 0),(9,.v (.int .i64 z2)),(13,.v (.int .i64 z3)),(14,.v (.int .i64 z4))],[(2,some p0),(3,some p1),(6,some (.arr 62 2 (.ty .row m9)))]⟩=>match Alg p0,Alh p1 with
  |some (z5,z6,z7,z8,z9,iq),some ()=>some (z0,z1,z2,z3,z4,z5,z6,z7,z8,z9,iq,m9)
  |_,_=>none
 |_=>none
theorem Bg2:∀s x,Avy s=some x→s=Bkz x:=fun s x h=>by
 unfold Avy at h
 split at h
 ·split at h
  ·rename_i h0 h1
   cases h
   rw[Bbs _ _ h0,Bbt _ _ h1]
   rfl
  ·cases h
 ·cases h
def Bxf:Em:=⟨6,7,[0,2,4,6,9,13,14],[],[(2,2),(3,3),(9,6)],[2,3,9],[9,7],[2,6,3]⟩
def Bxd:EQ:=⟨[.nilB 2 13 62 .row],[(2,2),(3,3),(5,6)],[0,2,4,6,9,13,14],[2,3,5]⟩
def LF (a1:Ae) (a2:Int):Ae:=List.take ((a1.length:Int).toNat - a2.toNat) (List.drop a2.toNat a1)
def Hx (a0:List Ab) (a1:Ae) (a2 a3 a4:Int):Bool:=!!decide (a4 <a3)&&NJ (LF a1 a2) a0 !=0
def Alf (a0:List Ab) (a1:Ae) (a2:Int):Int:=IntKind.i64.wrap (a2+Qb (LF a1 a2) a0)
def Ae6 (a0:List Ab) (a1:Ae) (a2:Int) (a11:List AR):List AR:=a11++[AR.mk (Un (LF a1 a2) a0) (Tr (LF a1 a2) a0)]
def Bg0 (a0:List Ab) (a1:Ae) (a2 a3 a4:Int):Bool:=!!decide (a4 <a3)&&!(Hx a0 a1 a2 a3 a4)
def Avx (a0:List Ab) (a1:Ae) (a2 a3 a4:Int):Bool:=(Hx a0 a1 a2 a3 a4)
def LG:N9→N9
  |(a0,a1,a2,a3,a4,a5,a6,a7,a8,a9,a10,a11)=>(a0,a1,Alf a0 a1 a2,a3,IntKind.i64.wrap (a4+1),a5,a6,a7,a8,a9,a10,Ae6 a0 a1 a2 a11)
def J3 (x:N9):El:=some (Bg0 x.1 x.2.1 x.2.2.1 x.2.2.2.1 x.2.2.2.2.1)
def A1b:N9→List Prop
  |(a0,a1,a2,a3,a4,_,_,_,_,_,_,a11)=>[((!!decide (a4 <a3))=true→0≤a2∧a2≤(a1.length:Int)∧(a1.length:Int)≤(a1.length:Int)),((!!decide (a4 <a3))=true→Af (LF a1 a2).length∧∀(g:Ab),g∈a0→AJ g.1.size),((!!decide (a4 <a3))=true→(!NJ (LF a1 a2) a0 !=0)=true→Af (a11.length+1))]
abbrev Ahy:N9→List Prop:=A1b
def Bg1:N9→BD
  |(a0,a1,a2,a3,a4,a5,a6,a7,a8,a9,a10,a11)=>[(some 0,some (!decide (a4 <a3)),⟨99,7,[(9,.v (.int .i64 a2)),(7,.dead)],[(2,some (.box 34 [.v (.int .i64 a5),.v (.int .i64 a6),.v (.int .i64 0),.v (.int .i64 0),.v (.int .i64 0),.v (.int .i64 0),.v (.int .i64 0),.v (.int .i64 0),.v (.slice none 0 0),.v (.int .i64 0),.v (.int .i64 0),.sl .i64 a7,.v (.slice none 0 0),.sq 6,.v (.int .i64 a8),.v (.int .i64 a9),.v (.bool a10)])),(6,some (.arr 62 2 (.ty .row a11))),(3,some (.box 34 [.v (.int .i64 0),.v (.int .i64 0),.v (.int .i64 0),.v (.int .i64 0),.v (.int .i64 0),.v (.int .i64 0),.v (.int .i64 0),.v (.int .i64 0),.v (.slice none 0 0),.v (.int .i64 0),.v (.int .i64 0),.v (.slice none 0 0),.v (.slice none 0 0),.v (.slice none 0 0),.v (.int .i64 0),.v (.int .i64 0),.v (.bool (false))]))]⟩),(none,some (Avx a0 a1 a2 a3 a4),⟨99,8,[(9,.v (.int .i64 a2)),(7,.v (.bool (false)))],[(2,some (.box 34 [.v (.int .i64 a5),.v (.int .i64 a6),.v (.int .i64 0),.v (.int .i64 0),.v (.int .i64 0),.v (.int .i64 0),.v (.int .i64 0),.v (.int .i64 0),.v (.slice none 0 0),.v (.int .i64 0),.v (.int .i64 0),.sl .i64 a7,.v (.slice none 0 0),.sq 6,.v (.int .i64 a8),.v (.int .i64 a9),.v (.bool a10)])),(6,some (.arr 62 2 (.ty .row a11))),(3,some (.box 34 [.v (.int .i64 a5),.v (.int .i64 a6),.v (.int .i64 0),.v (.int .i64 0),.v (.int .i64 0),.v (.int .i64 0),.v (.int .i64 0),.v (.int .i64 0),.v (.slice none 0 0),.v (.int .i64 0),.v (.int .i64 0),.sl .i64 a7,.v (.slice none 0 0),.sq 6,.v (.int .i64 a8),.v (.int .i64 a9),.v (.bool a10)]))]⟩)]
def Ae7 (x:N9):Nat:=(x.2.2.2.1 - x.2.2.2.2.1).toNat
def A1c (x:N9):N9:=Bh LG J3 (Ae7 x) x
set_option maxHeartbeats 8000000 in
def Bnu:=Jt (Co A1v.1 L0) (Aw AP 90 0) Bxf Bxd Avy Ae7 LG J3 Ahy Bg1
def Bxe:=V8 0 (g:=Bnu) (BX (T:=Bkz) (psA:=A1b) A1v.2 AF (u:=9) (by kernel_rfl) (by decide) (fun⟨a0,a1,a2,a3,a4,a5,a6,a7,a8,a9,a10,a11⟩=>by kernel_rfl) (fun _ h=>h) Bg2 (fun _=>A9 (n:=99) rfl) fun _ _=>rfl) ⟨L0,AF⟩
def Bon:=DM (M0 (Au A1v.2 Bxe.2) 20 90) A1v
def Bz (a1:Ae):Bool:=(Ad a1).1==5
def Bg (a1:Ae):Bool:=(Ad a1).1==2
def AV (a1:Ae):Bool:=(Ad a1).1==1
def AT (a1:Ae):Bool:=(Ad a1).2.2 !=0
def Md (a1:Ae):=Ad (List.take ((a1.length:Int).toNat - (Ad a1).2.1.toNat) (List.drop (Ad a1).2.1.toNat a1))
def Cr (a1:Ae):Int:=(Md a1).1
def AS (a1:Ae):Bool:=(Md a1).2.2 !=0
def J2 (a1:Ae):Int:=IntKind.i64.wrap ((Ad a1).2.1+(Md a1).2.1)
def Aq (a1:Ae):Ae:=List.take ((a1.length:Int).toNat - (J2 a1).toNat) (List.drop (J2 a1).toNat a1)
def CE (a1:Ae):Int:=(↑(Aq a1).length:Int)
def EE (a1:Ae):List Int:=(gpF (Aq a1)).1
def GO (a1:Ae):Int:=(Ad (Aq a1)).2.1
def F9 (a1:Ae):Int:=(gpF (Aq a1)).2.1
def By (a1:Ae):Bool:=!(gpF (Aq a1)).2.2
def ED (a1:Ae):Bool:=(Ad (Aq a1)).2.2 !=0
def Ig (a1:Ae):Int:=bif(ED a1) then 0 else 0
def Aj (a1:Ae):Ae:=List.take ((CE a1).toNat - (F9 a1).toNat) (List.drop (F9 a1).toNat (Aq a1))
def CD (a1:Ae):Int:=(↑(Aj a1).length:Int)
def GN (a1:Ae):Int:=(AB (Aj a1)).2.1
def CC (a1:Ae):Bool:=(AB (Aj a1)).2.2 !=0
def Mc (a1:Ae):Bool:=decide ((Aj a1).length % (32:Nat)=0)
def Lz (a1:Ae):=Ad (List.take ((CD a1).toNat - (GN a1).toNat) (List.drop (GN a1).toNat (Aj a1)))
def GM (a1:Ae):Bool:=(Lz a1).1==1
def Ba (a1:Ae):Int:=IntKind.i64.wrap ((GN a1)+(Lz a1).2.1)
def CB (a1:Ae):Bool:=(Lz a1).2.2 !=0||decide ((Lz a1).1 >1)
def Bf (a1:Ae):=Ad (List.take ((CD a1).toNat - (Ba a1).toNat) (List.drop (Ba a1).toNat (Aj a1)))
def A6 (a0:List Ab) (a1:Ae):=A1c (a0,(Aj a1),IntKind.i64.wrap ((Ba a1)+(Bf a1).2.1),(Bf a1).1,0,(Ad a1).1,(Cr a1),(EE a1),(AB (Aj a1)).1.1,(AB (Aj a1)).1.2,(GM a1),[])
def Qg (a0:List Ab) (a1:Ae):Int:=(A6 a0 a1).2.2.2.2.2.1
def Tc (a0:List Ab) (a1:Ae):Int:=(A6 a0 a1).2.2.2.2.2.2.1
def Tb (a0:List Ab) (a1:Ae):List Int:=(A6 a0 a1).2.2.2.2.2.2.2.1
def Ta (a0:List Ab) (a1:Ae):Int:=(A6 a0 a1).2.2.2.2.2.2.2.2.1
def S9 (a0:List Ab) (a1:Ae):Int:=(A6 a0 a1).2.2.2.2.2.2.2.2.2.1
def S8 (a0:List Ab) (a1:Ae):List AR:=(A6 a0 a1).2.2.2.2.2.2.2.2.2.2.2
def S7 (a0:List Ab) (a1:Ae):Bool:=(A6 a0 a1).2.2.2.2.2.2.2.2.2.2.1
def DC (a1:Ae):Bool:=(Bf a1).2.2 !=0||decide ((Bf a1).1 >256)
def Gk (a0:List Ab) (a1:Ae):Bool:=Avx (A6 a0 a1).1 (A6 a0 a1).2.1 (A6 a0 a1).2.2.1 (A6 a0 a1).2.2.2.1 (A6 a0 a1).2.2.2.2.1
def Ly (a0:List Ab) (a1:Ae):Int:=bif(By a1) then 0 else bif(Bz a1) then bif(CC a1) then 0 else bif(CB a1) then 0 else bif(DC a1) then 0 else bif(Gk a0 a1) then 0 else 0 else 0
def G8 (a0:List Ab) (a1:Ae):Int:=bif(Bg a1) then(Ig a1) else(Ly a0 a1)
def Is (a0:List Ab) (a1:Ae):Int:=bif(AT a1) then 0 else bif(AS a1) then(Ad a1).1 else bif(AV a1) then(Ad a1).1 else bif(Bg a1) then bif(ED a1) then(Ad a1).1 else(Ad a1).1 else bif(By a1) then(Ad a1).1 else bif(Bz a1) then bif(CC a1) then(Ad a1).1 else bif(CB a1) then(Ad a1).1 else bif(DC a1) then(Ad a1).1 else bif(Gk a0 a1) then(Qg a0 a1) else(Qg a0 a1) else(Ad a1).1
def It (a0:List Ab) (a1:Ae):Int:=bif(AT a1) then 0 else bif(AS a1) then 0 else bif(AV a1) then(Cr a1) else bif(Bg a1) then bif(ED a1) then(Cr a1) else(Cr a1) else bif(By a1) then(Cr a1) else bif(Bz a1) then bif(CC a1) then(Cr a1) else bif(CB a1) then(Cr a1) else bif(DC a1) then(Cr a1) else bif(Gk a0 a1) then(Tc a0 a1) else(Tc a0 a1) else(Cr a1)
def Iu (a0:List Ab) (a1:Ae):Int:=bif(AT a1) then 0 else bif(AS a1) then 0 else bif(AV a1) then(Cs a0 (Aq a1)).1.1 else(G8 a0 a1)
def Iv (a0:List Ab) (a1:Ae):Int:=bif(AT a1) then 0 else bif(AS a1) then 0 else bif(AV a1) then(Cs a0 (Aq a1)).1.2 else(G8 a0 a1)
def Iw (a0:List Ab) (a1:Ae):Int:=bif(AT a1) then 0 else bif(AS a1) then 0 else bif(AV a1) then(Cs a0 (Aq a1)).1.3.1 else(G8 a0 a1)
def Ix (a0:List Ab) (a1:Ae):Int:=bif(AT a1) then 0 else bif(AS a1) then 0 else bif(AV a1) then(Cs a0 (Aq a1)).1.3.2 else(G8 a0 a1)
def Iy (a0:List Ab) (a1:Ae):Int:=bif(AT a1) then 0 else bif(AS a1) then 0 else bif(AV a1) then(Cs a0 (Aq a1)).1.4.1 else(G8 a0 a1)
def Iz (a0:List Ab) (a1:Ae):Int:=bif(AT a1) then 0 else bif(AS a1) then 0 else bif(AV a1) then(Cs a0 (Aq a1)).1.4.2 else(G8 a0 a1)
def IA (a0:List Ab) (a1:Ae):List AU:=bif(AT a1) then[] else bif(AS a1) then[] else bif(AV a1) then(Cs a0 (Aq a1)).1.5 else[]
def IB (a0:List Ab) (a1:Ae):Int:=bif(AT a1) then 0 else bif(AS a1) then 0 else bif(AV a1) then 0 else bif(Bg a1) then bif(ED a1) then 0 else(Ad (Aq a1)).1 else(Ly a0 a1)
def Br (a1:Ae):=Ad (List.take ((CE a1).toNat - (GO a1).toNat) (List.drop (GO a1).toNat (Aq a1)))
def G1 (a0:List Ab) (a1:Ae):Int:=bif(AT a1) then 0 else bif(AS a1) then 0 else bif(AV a1) then 0 else bif(Bg a1) then bif(ED a1) then 0 else(Br a1).1 else(Ly a0 a1)
def G2 (a0:List Ab) (a1:Ae):List Int:=bif(AT a1) then[] else bif(AS a1) then[] else bif(AV a1) then[] else bif(Bg a1) then[] else bif(By a1) then[] else bif(Bz a1) then bif(CC a1) then(EE a1) else bif(CB a1) then(EE a1) else bif(DC a1) then(EE a1) else bif(Gk a0 a1) then(Tb a0 a1) else(Tb a0 a1) else(EE a1)
def G3 (a1:Ae):List Ae:=bif(AT a1) then[] else bif(AS a1) then[] else bif(AV a1) then[] else bif(Bg a1) then[] else bif(By a1) then[] else bif(Bz a1) then[] else bif(Mc a1) then dgs (Aj a1) else[]
def G4 (a0:List Ab) (a1:Ae):Int:=bif(AT a1) then 0 else bif(AS a1) then 0 else bif(AV a1) then 0 else bif(Bg a1) then(Ig a1) else bif(By a1) then 0 else bif(Bz a1) then bif(CC a1) then 0 else bif(CB a1) then(AB (Aj a1)).1.1 else bif(DC a1) then(AB (Aj a1)).1.1 else bif(Gk a0 a1) then(Ta a0 a1) else(Ta a0 a1) else 0
def G5 (a0:List Ab) (a1:Ae):Int:=bif(AT a1) then 0 else bif(AS a1) then 0 else bif(AV a1) then 0 else bif(Bg a1) then(Ig a1) else bif(By a1) then 0 else bif(Bz a1) then bif(CC a1) then 0 else bif(CB a1) then(AB (Aj a1)).1.2 else bif(DC a1) then(AB (Aj a1)).1.2 else bif(Gk a0 a1) then(S9 a0 a1) else(S9 a0 a1) else 0
def G6 (a0:List Ab) (a1:Ae):Bool:=bif(AT a1) then false else bif(AS a1) then false else bif(AV a1) then false else bif(Bg a1) then bif(ED a1) then false else false else bif(By a1) then false else bif(Bz a1) then bif(CC a1) then false else bif(CB a1) then false else bif(DC a1) then(GM a1) else bif(Gk a0 a1) then(S7 a0 a1) else(S7 a0 a1) else false
def Bd (a0:List Ab) (a1:Ae):Bool:=bif(AT a1) then false else bif(AS a1) then false else bif(AV a1) then(Cs a0 (Aq a1)).2.2==0&&(Cs a0 (Aq a1)).2.1==(CE a1) else bif(Bg a1) then bif(ED a1) then false else(Br a1).2.2==0&&IntKind.i64.wrap ((GO a1)+(Br a1).2.1)==(CE a1) else bif(By a1) then false else bif(Bz a1) then bif(CC a1) then false else bif(CB a1) then false else bif(DC a1) then false else bif(Gk a0 a1) then false else(A6 a0 a1).2.2.1==(CD a1) else(Mc a1)
def G7 (a0:List Ab) (a1:Ae):List AR:=bif(AT a1) then[] else bif(AS a1) then[] else bif(AV a1) then[] else bif(Bg a1) then[] else bif(By a1) then[] else bif(Bz a1) then bif(CC a1) then[] else bif(CB a1) then[] else bif(DC a1) then[] else bif(Gk a0 a1) then(S8 a0 a1) else(S8 a0 a1) else[]
def Ae0 (a0:List Ab) (a1:Ae):A:=.tup [.agg [iV (Is a0 a1),iV (It a0 a1),iV (Iu a0 a1),iV (Iv a0 a1),iV (Iw a0 a1),iV (Ix a0 a1),iV (Iy a0 a1),iV (Iz a0 a1),.sl .write (IA a0 a1),iV (IB a0 a1),iV (G1 a0 a1),.sl .i64 (G2 a0 a1),.sl .digest (G3 a1),.sq 0,iV (G4 a0 a1),iV (G5 a0 a1),.v (.bool (G6 a0 a1))],.v (.bool (Bd a0 a1))]
def Aez (a0:List Ab) (a1:Ae):AE:=[(0,some (.arr 62 2 (.ty .row (G7 a0 a1))))]
def Aop (a0:List Ab) (a1:Ae):=(!(AT a1))=true→(!(AS a1))=true→(!(AV a1))=true→(!(Bg a1))=true→(!(By a1))=true→(Bz a1)=true→(!(CC a1))=true→(!(CB a1))=true→(!(DC a1))=true→A8 LG J3 Ahy (Ae7 (a0,(Aj a1),IntKind.i64.wrap ((Ba a1)+(Bf a1).2.1),(Bf a1).1,0,(Ad a1).1,(Cr a1),(EE a1),(AB (Aj a1)).1.1,(AB (Aj a1)).1.2,(GM a1),[])) (a0,(Aj a1),IntKind.i64.wrap ((Ba a1)+(Bf a1).2.1),(Bf a1).1,0,(Ad a1).1,(Cr a1),(EE a1),(AB (Aj a1)).1.1,(AB (Aj a1)).1.2,(GM a1),[])
def Aoq (a1:Ae):=(!(AT a1))=true→(!(AS a1))=true→(!(AV a1))=true→(!(Bg a1))=true→(!(By a1))=true→(Bz a1)=true→(!(CC a1))=true→(!(CB a1))=true→0≤(Ba a1)∧(Ba a1)≤(CD a1)∧(CD a1)≤(CD a1)
def Aor (a1:Ae):=(!(AT a1))=true→(!(AS a1))=true→(!(AV a1))=true→(!(Bg a1))=true→(!(By a1))=true→(Bz a1)=true→(!(CC a1))=true→0≤(GN a1)∧(GN a1)≤(CD a1)∧(CD a1)≤(CD a1)
def Aos (a1:Ae):=(!(AT a1))=true→(!(AS a1))=true→(!(AV a1))=true→(!(Bg a1))=true→(!(By a1))=true→(!(Bz a1))=true→0≤(F9 a1)∧(F9 a1)≤(CE a1)∧(CE a1)≤(CE a1)
def Aot (a1:Ae):=(!(AT a1))=true→(!(AS a1))=true→(!(AV a1))=true→(!(Bg a1))=true→(!(By a1))=true→(Bz a1)=true→0≤(F9 a1)∧(F9 a1)≤(CE a1)∧(CE a1)≤(CE a1)
def Aou (a1:Ae):=(!(AT a1))=true→(!(AS a1))=true→(!(AV a1))=true→(Bg a1)=true→(!(ED a1))=true→0≤(GO a1)∧(GO a1)≤(CE a1)∧(CE a1)≤(CE a1)
def Aht (a1:Ae):=(!(AT a1))=true→(!(AS a1))=true→(!(AV a1))=true→(!(Bg a1))=true→(!(By a1))=true→(!(Bz a1))=true→Af (Aj a1).length
def Ahu (a1:Ae):=(!(AT a1))=true→(!(AS a1))=true→0≤(J2 a1)∧(J2 a1)≤(a1.length:Int)∧(a1.length:Int)≤(a1.length:Int)
def Ahv (a1:Ae):=(!(AT a1))=true→(!(AS a1))=true→(!(AV a1))=true→(!(Bg a1))=true→Af (Aq a1).length
def Ahw (a1:Ae):=(!(AT a1))=true→0≤(Ad a1).2.1∧(Ad a1).2.1≤(a1.length:Int)∧(a1.length:Int)≤(a1.length:Int)
def YV (a0:List Ab) (a1:Ae):List Prop:=[(Ahw a1),(Ahu a1),((!(AT a1))=true→(!(AS a1))=true→(AV a1)=true→Af (Aq a1).length∧∀(g:Ab),g∈a0→AJ g.1.size),(Aou a1),(Ahv a1),(Aot a1),(Aor a1),(Aoq a1),(Aop a0 a1),(Aos a1),(Aht a1)]
set_option maxHeartbeats 8000000 in
theorem Bbj (a0:List Ab) (a1:Ae):RL (Co Bon.1 L0) 9 45 [.sl .group a0,AA .bytes a1] 0 []=some (1,Ae0 a0 a1,1,Aez a0 a1,[(Ahw a1),(Ahu a1),((!(AT a1))=true→(!(AS a1))=true→(AV a1)=true→Af (Aq a1).length∧∀(g:Ab),g∈a0→AJ g.1.size),(Aou a1),(Ahv a1),(Aot a1),(Aor a1),(Aoq a1),((!(AT a1))=true→(!(AS a1))=true→(!(AV a1))=true→(!(Bg a1))=true→(!(By a1))=true→(Bz a1)=true→(!(CC a1))=true→(!(CB a1))=true→(!(DC a1))=true→Aw AP 90 0=Aw AP 90 0),(Aop a0 a1),(Aos a1),(Aht a1)]):=by kernel_rfl
theorem Bgq (a0:List Ab) (a1:Ae) (hp:∀p∈YV a0 a1,p):An AP 45 [.sl .group a0,AA .bytes a1] 0 [] 1 (Ae0 a0 a1) 1 (Aez a0 a1):=
  AN (Au Bon.2 AF) (Bbj a0 a1) (nT hp fun hp=>nT hp fun hp=>nT hp fun hp=>nT hp fun hp=>nT hp fun hp=>nT hp fun hp=>nT hp fun hp=>nT hp fun hp=>Aa (by intros;rfl) (nT hp fun hp=>nT hp fun hp=>nT hp fun _=>Ag))
end Go.Proofs.YtifkbgkbajncjaaGreatDoor
namespace Go.Proofs.YtifkbgkbajncjaaGreatDoor
open Go.RowKit
def Bol:=DM (M0 (Au Cda.2 AF) 20 41) Cda
def Aig (a0:Ae) (a3:Int):Bool:=decide ((Ad a0).1 >a3)
def A6n (a0:Ae):Ae:=List.take ((a0.length:Int).toNat - (Ad a0).2.1.toNat) (List.drop (Ad a0).2.1.toNat a0)
def B29 (a0:Ae) (a3:Int):Int:=bif(Aig a0 a3) then 0 else(Ad a0).1
def A6l (a0:Ae) (a3:Int):Ae:=bif(Aig a0 a3) then(A6n a0) else(A6n a0)
def A6m (a0:Ae) (a1:List Ab) (a3:Int):List Ab:=bif(Aig a0 a3) then a1 else a1
def Bht (a0:Ae) (a2:Bool) (a3:Int):Bool:=bif(Aig a0 a3) then true else a2||(Ad a0).2.2 !=0
def Bhv (a0:Ae) (_a1:List Ab) (_a2:Bool) (a3:Int):A:=iV (B29 a0 a3)
def Bhu (a0:Ae) (a1:List Ab) (a2:Bool) (a3:Int):AE:=[(0,some (.box 81 [.sl .u8 (A6l a0 a3),.sl .group (A6m a0 a1 a3),.v (.bool (Bht a0 a2 a3))]))]
def A6o (a0:Ae) (_a1:List Ab) (_a2:Bool) (_a3:Int):List Prop:=[(0≤(Ad a0).2.1∧(Ad a0).2.1≤(a0.length:Int)∧(a0.length:Int)≤(a0.length:Int))]
theorem Bya (a0:Ae) (a1:List Ab) (a2:Bool) (a3:Int):A8d (Co Bol.1 L0) 9 39 [.own 0 0,iV a3] 1 [(0,some (.box 81 [.sl .u8 a0,.sl .group a1,.v (.bool a2)]))]=some (2,Bhv a0 a1 a2 a3,1,Bhu a0 a1 a2 a3,A6o a0 a1 a2 a3):=by kernel_rfl
theorem B3a (a0:Ae) (a1:List Ab) (a2:Bool) (a3:Int) (hp:∀p∈A6o a0 a1 a2 a3,p):An AP 39 [.own 0 0,iV a3] 1 [(0,some (.box 81 [.sl .u8 a0,.sl .group a1,.v (.bool a2)]))] 2 (Bhv a0 a1 a2 a3) 1 (Bhu a0 a1 a2 a3):=Zy (Au Bol.2 AF) (Bya a0 a1 a2 a3) hp
theorem Bx9 (b:Ae) (l:List Ab) (bad:Bool) (m:Int):(∀p∈A6o b l bad m,p)∧Bhv b l bad m=.v (.int .i64 (Cm m b bad).1)∧Ai 0 (Bhu b l bad m)=some (.box 81 [.sl .u8 (Cm m b bad).2.1,.sl .group l,.v (.bool (Cm m b bad).2.2)]):=by
 obtain⟨h1,h2,_⟩:=AZ b
 have k0:A6l b m=(Cm m b bad).2.1:=by
  unfold A6l A6n
  rw[A5]
  show(bif decide (m <(Ad b).1) then b.drop (Ad b).2.1.toNat else b.drop (Ad b).2.1.toNat)=b.drop (Ad b).2.1.toNat
  cases decide (m <(Ad b).1)<;>rfl
 have k1:Bht b bad m=(Cm m b bad).2.2:=by
  show(bif decide (m <(Ad b).1) then true else bad||(Ad b).2.2 !=0)=((bad||(Ad b).2.2 !=0)||decide (m <(Ad b).1))
  cases decide (m <(Ad b).1) with
  |true=>rw[Bool.or_true];rfl
  |false=>rw[Bool.or_false];rfl
 have k2:A6m b l m=l:=by
  unfold A6m
  cases Aig b m<;>rfl
 refine⟨Aa ⟨h1,h2,Int.le_refl _⟩ Ag,rfl,?_⟩
 show some (Ob.box 81 [.sl .u8 (A6l b m),.sl .group (A6m b l m),.v (.bool (Bht b bad m))])=_
 rw[k0,k1,k2]
def Buf:KD
 | [.own i 0,.v (.int .i64 m)],nx,o=>match Ai i o with
  |some (.box t [.sl .u8 b,.sl .group l,.v (.bool bad)])=>bif Nat.beq t 81 then some (2,.v (.int .i64 (Cm m b bad).1),nx,(i,some (.box 81 [.sl .u8 (Cm m b bad).2.1,.sl .group l,.v (.bool (Cm m b bad).2.2)]))::o,[]) else none
  |_=>none
 |_,_,_=>none
theorem Bug:Gw AP 39 Buf:=fun args nx o k x nx' o' ps h=>by
 unfold Buf at h
 split at h<;>try(cases h;done)
 split at h<;>try(cases h;done)
 rename_i m _ t b l bad hl
 cases hb:Nat.beq t 81 with
 |false=>rw[hb] at h;cases h
 |true=>
  rw[hb] at h
  obtain rfl:=Nat.eq_of_beq_eq_true hb
  cases h
  refine⟨fun _=>?_,[_],rfl⟩
  obtain⟨h1,h2,h3⟩:=Bx9 b l bad m
  have hc:=B3a b l bad m h1
  rw[h2] at hc
  exact RP hc h3 (by rfl) (by rfl) (by rfl) (by rfl) hl
def B3o:=DM Bug Bol
abbrev Cde:=B3o
def B3m:=DM MP Cda
def Bh1:=DM PF B3m
abbrev BI:Type:=Int×Ae×Int×Bool×Int×Int×Int×Int×Int×Int×(List AU)
def Apk:BI→St
  |(a0,a1,a2,a3,a4,a5,a6,a7,a8,a9,a10)=>⟨101,7,[(8,.own 1 0),(9,.own 2 0),(14,.v (.int .i64 a0))],[(1,some (.box 135 [.sl .u8 a1,.v (.int .i64 a2),.v (.bool a3)])),(2,some (.box 29 [.v (.int .i64 a4),.v (.int .i64 a5),.v (.int .i64 a6),.v (.int .i64 a7),.v (.int .i64 a8),.v (.int .i64 a9),.sq 6])),(6,some (.arr 102 4 (.ty .write a10)))]⟩
def Uc:St→Option BI
 |⟨101,7,[(8,.own 1 0),(9,.own 2 0),(14,.v (.int .i64 z0))],[(1,some (.box 135 [.sl .u8 z1,.v (.int .i64 z2),.v (.bool z3)])),(2,some (.box 29 [.v (.int .i64 z4),.v (.int .i64 z5),.v (.int .i64 z6),.v (.int .i64 z7),.v (.int .i64 z8),.v (.int .i64 z9),.sq 6])),(6,some (.arr 102 4 (.ty .write iq)))]⟩=>some (z0,z1,z2,z3,z4,z5,z6,z7,z8,z9,iq)
 |_=>none
def Apj:Em:=⟨6,7,[8,9,14],[],[(1,1),(2,2),(8,6)],[1,2,8],[],[1,2,6]⟩
def Api:EQ:=⟨[.nilB 2 6 102 .write],[(1,1),(2,2),(5,6)],[8,9,14],[1,2,5]⟩
def BY (a0:Int) (a3:Bool) (a10:List AU):Bool:=!!(decide ((a10.length:Int) <min a0 9)&&!a3)
def Acj (a1:Ae) (a2:Int) (a3:Bool) (a10:List AU):List AU:=a10++[(W7 a1 a2 a3).1]
def Ack (a0:Int) (a3:Bool) (a10:List AU):Bool:=(BY a0 a3 a10)
def Acl (a0:Int) (a3:Bool) (a10:List AU):Bool:=!(decide ((a10.length:Int) <min a0 9)&&!a3)
def EJ:BI→BI
  |(a0,a1,a2,a3,a4,a5,a6,a7,a8,a9,a10)=>(a0,a1,(W7 a1 a2 a3).2.1,(W7 a1 a2 a3).2.2,a4,a5,a6,a7,a8,a9,Acj a1 a2 a3 a10)
def EI (x:BI):El:=some (Ack x.1 x.2.2.2.1 x.2.2.2.2.2.2.2.2.2.2)
def RT:BI→List Prop
  |(a0,a1,a2,a3,_,_,_,_,_,_,a10)=>[((BY a0 a3 a10)=true→Ol a1 a2),((BY a0 a3 a10)=true→Af (a10.length+1))]
abbrev LM:BI→List Prop:=RT
def Acm:BI→BD
  |(a0,a1,a2,a3,a4,a5,a6,a7,a8,a9,a10)=>[(some 0,some (Acl a0 a3 a10),⟨101,7,[],[(1,some (.box 135 [.sl .u8 a1,.v (.int .i64 a2),.v (.bool a3)])),(2,some (.box 29 [.v (.int .i64 a4),.v (.int .i64 a5),.v (.int .i64 a6),.v (.int .i64 a7),.v (.int .i64 a8),.v (.int .i64 a9),.sq 6])),(6,some (.arr 102 4 (.ty .write a10)))]⟩)]
def MV (x:BI):Nat:=(min x.1 9 - (x.2.2.2.2.2.2.2.2.2.2.length:Int)).toNat
def RU (x:BI):BI:=Bh EJ EI (MV x) x
def Afw:=Jt (Co Bh1.1 L0) (Aw AP 40 0) Apj Api Uc MV EJ EI LM Acm
def Wb:=V8 0 (g:=Afw) (BX (T:=Apk) (psA:=RT) Bh1.2 AF (u:=9) (by kernel_rfl) (by decide) (fun⟨a0,a1,a2,a3,a4,a5,a6,a7,a8,a9,a10⟩=>by kernel_rfl) (fun _ h=>h) (fun s x h=>by unfold Uc at h;split at h<;>first|(cases h;rfl)|cases h) (fun _=>A9 (n:=101) rfl) fun _ _=>rfl) ⟨L0,AF⟩
def Bi (a1:List Ab):Bool:=AI a1 !=0
def Tj (a0:Ae):Int:=(FH a0 0 false).2.1
def F4 (a0:Ae):=FH a0 (Tj a0) (FH a0 0 false).2.2
def MD (a0:Ae):Int:=(F4 a0).2.1
def Dp (a0:Ae):=BB (List.take ((a0.length:Int).toNat - (MD a0).toNat) (List.drop (MD a0).toNat a0))
def Il (a0:Ae):Int:=IntKind.i64.wrap ((MD a0)+(Dp a0).2.1)
def Dq (a0:Ae):=AB (List.take ((a0.length:Int).toNat - (Il a0).toNat) (List.drop (Il a0).toNat a0))
def MC (a0:Ae):Int:=IntKind.i64.wrap ((Il a0)+(Dq a0).2.1)
def Dn (a0:Ae):=FH a0 (MC a0) ((F4 a0).2.2||(Dp a0).2.2 !=0||(Dq a0).2.2 !=0)
def Bl (a0:Ae):=RU ((Dn a0).1,a0,(Dn a0).2.1,(Dn a0).2.2,(FH a0 0 false).1,(F4 a0).1,(Dp a0).1.1,(Dp a0).1.2,(Dq a0).1.1,(Dq a0).1.2,[])
def Kr (a0:Ae):List AU:=(Bl a0).2.2.2.2.2.2.2.2.2.2
def Eo (a0:Ae) (a1:List Ab):Bool:=(Bl a0).2.2.2.1||WY a1 (Ao.mk (Bl a0).2.2.2.2.1 (Bl a0).2.2.2.2.2.1 (A1.mk (Bl a0).2.2.2.2.2.2.1 (Bl a0).2.2.2.2.2.2.2.1) (BE.mk (Bl a0).2.2.2.2.2.2.2.2.1 (Bl a0).2.2.2.2.2.2.2.2.2.1) (Kr a0)) !=0
def FZ (a0:Ae) (a1:List Ab):Ao:=Ao.mk (bif(Bi a1) then 0 else bif(Eo a0 a1) then 0 else(Bl a0).2.2.2.2.1) (bif(Bi a1) then 0 else bif(Eo a0 a1) then 0 else(Bl a0).2.2.2.2.2.1) (A1.mk (bif(Bi a1) then 0 else bif(Eo a0 a1) then 0 else(Bl a0).2.2.2.2.2.2.1) (bif(Bi a1) then 0 else bif(Eo a0 a1) then 0 else(Bl a0).2.2.2.2.2.2.2.1)) (BE.mk (bif(Bi a1) then 0 else bif(Eo a0 a1) then 0 else(Bl a0).2.2.2.2.2.2.2.2.1) (bif(Bi a1) then 0 else bif(Eo a0 a1) then 0 else(Bl a0).2.2.2.2.2.2.2.2.2.1)) (bif(Bi a1) then[] else bif(Eo a0 a1) then[] else(Kr a0))
def P7 (a0:Ae) (a1:List Ab):Int:=bif(Bi a1) then 0 else bif(Eo a0 a1) then 0 else(Bl a0).2.2.1
def P8 (a0:Ae) (a1:List Ab):Int:=bif(Bi a1) then AI a1 else bif(Eo a0 a1) then 120 else 0
def U7 (a0:Ae) (a1:List Ab):A:=.tup [.agg [iV (((FZ a0 a1).site)),iV (((FZ a0 a1).seq)),iV (((FZ a0 a1).stamp.n)),iV (((FZ a0 a1).stamp.site)),iV (((FZ a0 a1).vec.a)),iV (((FZ a0 a1).vec.b)),.sl .write ((FZ a0 a1).writes)],iV (P7 a0 a1),iV (P8 a0 a1)]
def Aap (a0:Ae) (a1:List Ab):=(!(Bi a1))=true→A8 EJ EI LM (MV ((Dn a0).1,a0,(Dn a0).2.1,(Dn a0).2.2,(FH a0 0 false).1,(F4 a0).1,(Dp a0).1.1,(Dp a0).1.2,(Dq a0).1.1,(Dq a0).1.2,[])) ((Dn a0).1,a0,(Dn a0).2.1,(Dn a0).2.2,(FH a0 0 false).1,(F4 a0).1,(Dp a0).1.1,(Dp a0).1.2,(Dq a0).1.1,(Dq a0).1.2,[])
def Aaq (a0:Ae) (a1:List Ab):=(!(Bi a1))=true→0≤(MD a0)∧(MD a0)≤(a0.length:Int)∧(a0.length:Int)≤(a0.length:Int)
def Aar (a0:Ae) (a1:List Ab):=(!(Bi a1))=true→0≤(Il a0)∧(Il a0)≤(a0.length:Int)∧(a0.length:Int)≤(a0.length:Int)
def Aao (a0:Ae) (a1:List Ab):List Prop:=[((!(Bi a1))=true→Ol a0 0),((!(Bi a1))=true→Ol a0 (Tj a0)),(Aaq a0 a1),(Aar a0 a1),((!(Bi a1))=true→Ol a0 (MC a0)),(Aap a0 a1),((!(Bi a1))=true→(Bl a0).2.2.2.1=false→AJ (Kr a0).length)]
theorem Awy (a0:Ae) (a1:List Ab):RL (Co Bh1.1 Wb.1) 9 40 [AA .bytes a0,.sl .group a1] 0 []=some (1,U7 a0 a1,0,[],[((!(Bi a1))=true→Ol a0 0),((!(Bi a1))=true→Ol a0 (Tj a0)),(Aaq a0 a1),(Aar a0 a1),((!(Bi a1))=true→Ol a0 (MC a0)),((!(Bi a1))=true→Aw AP 40 0=Aw AP 40 0),(Aap a0 a1),((!(Bi a1))=true→(Bl a0).2.2.2.1=false→AJ (Kr a0).length)]):=by kernel_rfl
theorem A19 (a0:Ae) (a1:List Ab) (hp:∀p∈Aao a0 a1,p):An AP 40 [AA .bytes a0,.sl .group a1] 0 [] 1 (U7 a0 a1) 0 []:=
  AN (Au Bh1.2 Wb.2) (Awy a0 a1) (nT hp fun hp=>nT hp fun hp=>nT hp fun hp=>nT hp fun hp=>nT hp fun hp=>Aa (by intros;rfl) (nT hp fun hp=>nT hp fun _=>Ag))
theorem Bh9 (k:Int) (b:Ae) (hb:Ol b 0) (c0 c1 c2 c3 c4 c5:Int):∀(n:Nat) (p:Int) (bad:Bool) (ws:List AU),n=(min k 9 - (ws.length:Int)).toNat→Ol b p→
  A8 EJ EI LM n (k,b,p,bad,c0,c1,c2,c3,c4,c5,ws)∧
  Bh EJ EI n (k,b,p,bad,c0,c1,c2,c3,c4,c5,ws)=(k,b,(Alr b n ws p bad).2.1,(Alr b n ws p bad).2.2,c0,c1,c2,c3,c4,c5,(Alr b n ws p bad).1)
 | 0,p,bad,ws,hn,hp=>by
  have hg:BY k bad ws=false:=by
   unfold BY
   rw[decide_eq_false (by omega)]
   rfl
  have hf:∀q:Prop,BY k bad ws=true→q:=fun q h=>by rw[hg] at h;cases h
  exact⟨⟨Aa (hf _) (Aa (hf _) Ag),hg⟩,rfl⟩
 | n+1,p,bad,ws,hn,hp=>by
  have ae:(ws.length:Int) <min k 9:=by omega
  have hg:BY k bad ws=!bad:=by
   unfold BY
   rw[decide_eq_true ae,Bool.not_not,Bool.true_and]
  have cu:∀q∈LM (k,b,p,bad,c0,c1,c2,c3,c4,c5,ws),q:=Aa (fun _=>hp) (Aa (fun _=>by show Af (ws.length+1);unfold Af;omega) Ag)
  cases bad with
  | true=>
   refine⟨⟨cu,fun h=>?_⟩,?_⟩
   ·have h':BY k true ws=true:=h
    rw[hg] at h'
    cases h'
   ·show(bif BY k true ws then Bh EJ EI n _ else(k,b,p,true,c0,c1,c2,c3,c4,c5,ws))=_
    rw[hg]
    rfl
  |false=>
   obtain⟨h1,h2⟩:=Bh9 k b hb c0 c1 c2 c3 c4 c5 n (W7 b p false).2.1 (W7 b p false).2.2 (ws++[(W7 b p false).1]) (by rw[List.length_append];simp only[List.length_cons,List.length_nil];omega) (B21 hp false)
   refine⟨⟨cu,fun _=>h1⟩,?_⟩
   show(bif BY k false ws then Bh EJ EI n (k,b,(W7 b p false).2.1,(W7 b p false).2.2,c0,c1,c2,c3,c4,c5,ws++[(W7 b p false).1]) else _)=_
   rw[hg,Bool.not_false,cond_true,h2]
   rfl
theorem Awc (b:Ae):∀(n:Nat) (ws:List AU) (k:Int) (bad:Bool),(Alr b n ws k bad).1.length≤ws.length+n
 |0,ws,k,bad=>Nat.le_refl _
 |n+1,ws,k,true=>by rw[Btn];show ws.length≤_;omega
 |n+1,ws,k,false=>by
  have:=Awc b n (ws++[(W7 b k false).1]) (W7 b k false).2.1 (W7 b k false).2.2
  rw[List.length_append] at this
  simp only[List.length_cons,List.length_nil] at this
  show(Alr b n (ws++[(W7 b k false).1]) (W7 b k false).2.1 (W7 b k false).2.2).1.length≤_
  omega
theorem B46 (b:Ae) (l:List Ab) (hb:Af b.length):(∀p∈Aao b l,p)∧FZ b l=(Cs l b).1∧P7 b l=(Cs l b).2.1∧P8 b l=(Cs l b).2.2:=by
 have h0:Ol b 0:=⟨Int.le_refl _,by omega,hb⟩
 have ha:=TS h0 false
 have hq:=TS ha (FH b 0 false).2.2
 have hs:=Bzn.inb b _ (FH b (FH b 0 false).2.1 (FH b 0 false).2.2).2.2 hq
 have hv:=Bzp.inb b _ (stG BB b (FH b (FH b 0 false).2.1 (FH b 0 false).2.2).2.1 (FH b (FH b 0 false).2.1 (FH b 0 false).2.2).2.2).2.2 hs
 have k3:Il b=(stG BB b (FH b (FH b 0 false).2.1 (FH b 0 false).2.2).2.1 (FH b (FH b 0 false).2.1 (FH b 0 false).2.2).2.2).2.1:=by
  unfold Il Dp
  rw[A5]
  exact FL hs
 have k2:MC b=(stG AB b (stG BB b (FH b (FH b 0 false).2.1 (FH b 0 false).2.2).2.1 (FH b (FH b 0 false).2.1 (FH b 0 false).2.2).2.2).2.1 (stG BB b (FH b (FH b 0 false).2.1 (FH b 0 false).2.2).2.1 (FH b (FH b 0 false).2.1 (FH b 0 false).2.2).2.2).2.2).2.1:=by
  unfold MC Dq
  rw[A5,k3]
  exact FL hv
 have hn:=TS hv (stG AB b (stG BB b (FH b (FH b 0 false).2.1 (FH b 0 false).2.2).2.1 (FH b (FH b 0 false).2.1 (FH b 0 false).2.2).2.2).2.1 (stG BB b (FH b (FH b 0 false).2.1 (FH b 0 false).2.2).2.1 (FH b (FH b 0 false).2.1 (FH b 0 false).2.2).2.2).2.2).2.2
 have rp:∀k:Int,(min k 9 - (([]:List AU).length:Int)).toNat=(min k 9).toNat:=fun k=>by simp
 have key:=fun k p bad c0 c1 c2 c3 c4 c5 (hp:Ol b p)=>Bh9 k b h0 c0 c1 c2 c3 c4 c5 (min k 9 - (([]:List AU).length:Int)).toNat p bad [] rfl hp
 have af:∀(k p:Int) (bad:Bool) (c0 c1 c2 c3 c4 c5:Int),Ol b p→RU (k,b,p,bad,c0,c1,c2,c3,c4,c5,[])=(k,b,(Alr b (min k 9).toNat [] p bad).2.1,(Alr b (min k 9).toNat [] p bad).2.2,c0,c1,c2,c3,c4,c5,(Alr b (min k 9).toNat [] p bad).1):=fun k p bad c0 c1 c2 c3 c4 c5 hp=>by
  have h:=(key k p bad c0 c1 c2 c3 c4 c5 hp).2
  rw[←rp]
  exact h
 have K1:Kr b=(stC b 0 false).1.writes:=by
  unfold Kr Bl Dn Dp Dq F4
  simp only[A5,k2,k3]
  exact congrArg (fun x:BI=>x.2.2.2.2.2.2.2.2.2.2) (af _ _ _ _ _ _ _ _ _ hn)
 have K0:Eo b l=((stC b 0 false).2.2||WY l (stC b 0 false).1 !=0):=by
  unfold Eo Bl Dn Dp Dq F4
  simp only[A5,k2,k3,K1]
  exact congrArg (fun x:BI=>x.2.2.2.1||WY l (Ao.mk x.2.2.2.2.1 x.2.2.2.2.2.1 ⟨x.2.2.2.2.2.2.1,x.2.2.2.2.2.2.2.1⟩ ⟨x.2.2.2.2.2.2.2.2.1,x.2.2.2.2.2.2.2.2.2.1⟩ (stC b 0 false).1.writes) !=0) (af _ _ _ _ _ _ _ _ _ hn)
 have e6:Bi l=(AI l !=0):=rfl
 have L0:FZ b l=(bif AI l !=0 then IG.change else bif(stC b 0 false).2.2||WY l (stC b 0 false).1 !=0 then IG.change else(stC b 0 false).1):=by
  unfold FZ Bl Dn Dp Dq F4
  simp only[A5,k2,k3,K1,K0,e6]
  generalize (AI l !=0)=g6
  generalize ((stC b 0 false).2.2||WY l (stC b 0 false).1 !=0)=g0
  cases g6 with
  |true=>rfl
  |false=>
   cases g0 with
   |true=>rfl
   |false=>exact congrArg (fun x:BI=>Ao.mk x.2.2.2.2.1 x.2.2.2.2.2.1 ⟨x.2.2.2.2.2.2.1,x.2.2.2.2.2.2.2.1⟩ ⟨x.2.2.2.2.2.2.2.2.1,x.2.2.2.2.2.2.2.2.2.1⟩ (stC b 0 false).1.writes) (af _ _ _ _ _ _ _ _ _ hn)
 have L1:P7 b l=(bif AI l !=0 then 0 else bif(stC b 0 false).2.2||WY l (stC b 0 false).1 !=0 then 0 else(stC b 0 false).2.1):=by
  unfold P7 Bl Dn Dp Dq F4
  simp only[A5,k2,k3,K0,e6]
  generalize (AI l !=0)=g6
  generalize ((stC b 0 false).2.2||WY l (stC b 0 false).1 !=0)=g0
  cases g6 with
  |true=>rfl
  |false=>
   cases g0 with
   |true=>rfl
   |false=>exact congrArg (fun x:BI=>x.2.2.1) (af _ _ _ _ _ _ _ _ _ hn)
 have L2:P8 b l=(bif AI l !=0 then AI l else bif(stC b 0 false).2.2||WY l (stC b 0 false).1 !=0 then 120 else 0):=by
  unfold P8
  rw[K0,e6]
 have hlen:(stC b 0 false).1.writes.length≤9:=by
  have:=Awc b (min (FH b (stG AB b (stG BB b (FH b (FH b 0 false).2.1 (FH b 0 false).2.2).2.1 (FH b (FH b 0 false).2.1 (FH b 0 false).2.2).2.2).2.1 (stG BB b (FH b (FH b 0 false).2.1 (FH b 0 false).2.2).2.1 (FH b (FH b 0 false).2.1 (FH b 0 false).2.2).2.2).2.2).2.1 (stG AB b (stG BB b (FH b (FH b 0 false).2.1 (FH b 0 false).2.2).2.1 (FH b (FH b 0 false).2.1 (FH b 0 false).2.2).2.2).2.1 (stG BB b (FH b (FH b 0 false).2.1 (FH b 0 false).2.2).2.1 (FH b (FH b 0 false).2.1 (FH b 0 false).2.2).2.2).2.2).2.2).1 9).toNat [] (stC b 0 false).2.1 false
  have h2:=fun n k bad=>Awc b n [] k bad
  have h3:=h2 _ _ _ |> fun h=>(show(stC b 0 false).1.writes.length≤0+_ from h)
  omega
 refine⟨Aa (fun _=>h0) (Aa (fun _=>ha) (Aa (fun _=>Es hq) (Aa (fun _=>by rw[k3];exact Es hs) (Aa (fun _=>by rw[k2];exact hv) (Aa (fun _=>?_) (Aa (fun _ _=>?_) Ag)))))),?_,?_,?_⟩
 ·simp only[A5,Dn,Dp,Dq,F4,k2,k3]
  exact(key _ _ _ _ _ _ _ _ _ hn).1
 ·rw[K1]
  unfold AJ
  omega
 ·rw[L0,←Bde l b hb]
  unfold chP
  generalize (AI l !=0)=g6
  generalize ((stC b 0 false).2.2||WY l (stC b 0 false).1 !=0)=g0
  cases g6<;>cases g0<;>rfl
 ·rw[L1,←Bde l b hb]
  unfold chP
  generalize (AI l !=0)=g6
  generalize ((stC b 0 false).2.2||WY l (stC b 0 false).1 !=0)=g0
  cases g6<;>cases g0<;>rfl
 ·rw[L2,←Bde l b hb]
  unfold chP
  generalize (AI l !=0)=g6
  generalize ((stC b 0 false).2.2||WY l (stC b 0 false).1 !=0)=g0
  cases g6<;>cases g0<;>rfl
section
variable {F:Nat→Prop} {N:Nm} {nx:Nat} {R:World} {o:AE}
end
def Bpu (a0:Ae) (a1:List Ab):A:=.tup [.agg [iV ((Cs a1 a0).1.site),iV ((Cs a1 a0).1.seq),iV ((Cs a1 a0).1.stamp.n),iV ((Cs a1 a0).1.stamp.site),iV ((Cs a1 a0).1.vec.a),iV ((Cs a1 a0).1.vec.b),.sl .write (Cs a1 a0).1.writes],iV ((Cs a1 a0).2.1),iV ((Cs a1 a0).2.2)]
def Bib (a0:Ae) (_a1:List Ab):List Prop:=[Af a0.length]
theorem B0z (a0:Ae) (a1:List Ab) (hp:∀p∈Bib a0 a1,p):An AP 40 [AA .bytes a0,.sl .group a1] 0 [] 1 (Bpu a0 a1) 0 []:=by
 obtain⟨h1,h2,h3,h4⟩:=B46 a0 a1 (hp _ (List.mem_cons_self ..))
 have h:=A19 a0 a1 h1
 unfold U7 at h
 rw[h2,h3,h4] at h
 exact h
theorem Bu6:Gw AP 40 (Cy [.t .bytes,.l .group] 0 Bpu (fun _ _=>[]) Bib):=Az B0z
def B3q:=DM Bu6 Cde
def B3r:=DM (O7 Asz) B3q
def B3s:=DM (O7 Ao1) B3r
def B3t:=DM Ao9 B3s
def B3u:=DM MP B3t
def B3v:=DM (Brq Ab7) B3u
abbrev Cdh:=B3v
def B1m (C:Tab) (L:WX):Env:=⟨Tryz.prog,A8c,C,false,Bca,true,L⟩
theorem Bvs {C:Tab} {L:WX} (hC:COk AP C) (hL:∀l s b ps outs,L l s=some (b,ps,outs)→Bh3 (B1m C L) l b s ps outs):Ou (B1m C L) where
 suf f args nx o k x nx' o' ps h:=(hC f args nx o k x nx' o' ps h).2
 wide:=Bue
 eq:=Asv
 C f args nx o k x nx' o' ps h hl hp:=((hC f args nx o k x nx' o' ps h).1 hp).1 hl
 Y f i xs nx o k x nx' o' ps h hl hp:=((hC f (.yl i::xs) nx o k x nx' o' ps h).1 hp).2 hl i xs rfl
 tc:=Awj
 loops:=hL
theorem Bql {C:Tab} (hC:COk AP C):Ou (B1m C L0):=Bvs hC fun _ _ _ _ _ h=>by cases h
theorem Hv.yl_inv {F:Nat→Prop} {N:Nm} {nx i:Nat} {R:World} {y:Value} (h:Hv F N nx R (.yl i) y):i <nx∧y=.func (.yield (N.b i)) #[] #[]:=by
 cases h with
 |yl h=>exact⟨h,rfl⟩
section
variable {F:Nat→Prop} {N:Nm} {nx:Nat} {o:AE} {R:World}
theorem Bwi (h:Bp F N nx o R) {i f b:Nat} {us:List Nat} {cs:List A} {k k':Nat} (hl:Ai i o=some (.lp f b us cs k)):∃r:Loop,R.heap[N.b i]?=some (.loop r)∧r.state=Br3 k∧r.pending=Bmt k∧
  ∀r':Loop,r'={r with state:=Br3 k',pending:=Bmt k'}→Bp F N nx ((i,some (.lp f b us cs k'))::o) (R.putObj (N.b i) (.loop r'))∧Step F N nx o R F N nx ((i,some (.lp f b us cs k'))::o) (R.putObj (N.b i) (.loop r')):=by
 obtain⟨hi,vs,h1,r,h2,h3,h4,h5,h6,h7,h8,h9⟩:=h.ob i _ hl
 refine⟨r,h2,h7,h8,fun r' gi=>?_⟩
 subst gi
 have ae:N.b i <R.heap.size:=(Array.getElem?_eq_some_iff.1 h2).1
 refine h.upd (i0:=i) (ob0:=.lp f b us cs k') (T:=fun g=>g=N.b i) rfl rfl rfl (by rw[World.putObj_size];exact Nat.le_refl _) (fun g hg=>⟨i,_,hl,hg⟩) (fun g _ hg=>World.putObj_heap_other hg) (Nat.le_refl _) (fun _ _=>rfl) (fun _ _=>rfl)
  (fun j ob hj ni=>?_) (fun ob ni=>?_) hi (fun st=>⟨vs,h1.step st,?_⟩) (fun g hg=> .inr hg)
 ·rw[AG,if_neg hj] at ni
  exact⟨ni,fun g hg e=>by subst e;exact hj (h.sep j i ob _ _ ni hl hg rfl)⟩
 ·rw[AG,if_pos rfl] at ni
  exact(Option.some.inj ni).symm
 ·exact⟨_,World.putObj_heap_same ae,h3,h4,h5,h6,rfl,rfl,h9⟩
end
theorem Rel.lpTurn {Z:FG} {F:Nat→Prop} {N:Nm} {s:St} {a:Act} {R:World} (h:Rel Z F N s a R) {i f b:Nat} {us:List Nat} {cs:List A} {k k':Nat} (hl:Ai i s.o=some (.lp f b us cs k)):∃r:Loop,R.heap[N.b i]?=some (.loop r)∧r.state=Br3 k∧r.pending=Bmt k∧
  ∀r':Loop,r'={r with state:=Br3 k',pending:=Bmt k'}→Rel Z F N {s with o:=(i,some (.lp f b us cs k'))::s.o} a (R.putObj (N.b i) (.loop r')):=by
 obtain⟨r,h1,h2,h3,h4⟩:=Bwi (k':=k') h.hp hl
 refine⟨r,h1,h2,h3,fun r' gi=>?_⟩
 obtain⟨q1,q2⟩:=h4 r' gi
 exact h.heap q2 q1
def Bm4:List Tmp→List A→Gc→Gc
 |p::ps,x::xs,t=>Bm4 ps xs ((p,x)::t)
 |_,_,t=>t
def Bcm:List Nat→List A→Gc
 |u::us,x::xs=>(u,x)::Bcm us xs
 |_,_=>[]
def A64 (n:Nat):List Nat→Bool
 | []=>true
 |u::r=>Nat.blt u n&&A64 n r
theorem Bkl {F:Nat→Prop} {N:Nm} {nx n:Nat} {R:World}:∀{ps:List Tmp} {xs:List A} {vs:List Value} {t:Gc} {tm:Array Value},A64 n ps=true→ps.length=xs.length→HL F N nx R xs vs→tm.size=n→(∀u x,DV u t=some x→Hv F N nx R x (tm.getD u undef))→
  ((ps.zip vs).foldl (fun tmps (t,a)=>tmps.setIfInBounds t a) tm).size=n∧∀u x,DV u (Bm4 ps xs t)=some x→Hv F N nx R x (((ps.zip vs).foldl (fun tmps (t,a)=>tmps.setIfInBounds t a) tm).getD u undef)
 | [],xs,vs,t,tm,_,_,_,hs,ht=>by
  have e:(([]:List Tmp).zip vs).foldl (fun tmps (t,a)=>tmps.setIfInBounds t a) tm=tm:=by simp
  rw[e]
  refine⟨hs,?_⟩
  cases xs<;>exact ht
 |p::ps,[],_,_,_,_,he,_,_,_=>by cases he
 | p::ps,x::xs,vs,t,tm,hp,he,hl,hs,ht=>by
  obtain⟨v,ws,rfl,h1,h2⟩:=hl.inv
  unfold A64 at hp
  rw[Bool.and_eq_true] at hp
  have ae:p <n:=Nat.le_of_ble_eq_true hp.1
  refine Bkl (ps:=ps) (xs:=xs) (vs:=ws) (t:=(p,x)::t) (tm:=tm.setIfInBounds p v) hp.2 (Nat.succ.inj he) h2 (by simpa using hs) fun u y hy=>?_
  have fv:(bif Nat.beq p u then some x else DV u t)=some y:=hy
  cases hb:Nat.beq p u with
  |true=>
   rw[hb] at fv
   obtain rfl:=Nat.eq_of_beq_eq_true hb
   cases fv
   rw[Array.getD_eq_getD_getElem?,Array.getElem?_setIfInBounds_self_of_lt (by rw[hs];exact ae)]
   exact h1
  |false=>
   rw[hb] at fv
   have ao:p≠u:=fun e=>by subst e;simp at hb
   rw[Array.getD_eq_getD_getElem?,Array.getElem?_setIfInBounds_ne ao,←Array.getD_eq_getD_getElem?]
   exact ht u y fv
theorem Bll {F:Nat→Prop} {N:Nm} {nx:Nat} {R:World} {tm:Array Value}:∀{us:List Nat} {cs:List A} {vs:List Value},HL F N nx R cs vs→(∀(j u:Nat) (v:Value),us[j]?=some u→vs[j]?=some v→tm.getD u undef=v)→∀u x,DV u (Bcm us cs)=some x→Hv F N nx R x (tm.getD u undef)
 | [],_,_,_,_,u,x,h=>by cases h
 |_::_,[],_,_,_,u,x,h=>by cases h
 | v::us,c::cs,vs,hl,ht,u,x,h=>by
  obtain⟨w,ws,rfl,h1,h2⟩:=hl.inv
  have h':(bif Nat.beq v u then some c else DV u (Bcm us cs))=some x:=h
  cases hb:Nat.beq v u with
  |true=>
   rw[hb] at h'
   obtain rfl:=Nat.eq_of_beq_eq_true hb
   cases h'
   rw[ht 0 v w rfl rfl]
   exact h1
  |false=>
   rw[hb] at h'
   exact Bll h2 (fun j u v hu hv=>ht (j+1) u v hu hv) u x h'
def evY (E:Env) (u f b:Nat):KD
 | .yl i::xs,nx,o=>match Ai i o with
  | some (.lp f' b' us cs 0)=>bif Nat.beq f f'&&(Nat.beq b b'&&(A64 (K6 f b).n (K6 f b).ps.toList&&Nat.beq (K6 f b).ps.size xs.length)) then
    (match RJ E u 0 (K6 f b).assign false ⟨(K6 f b).n,nx,Bm4 (K6 f b).ps.toList xs (Bcm us cs),o⟩ with
    | ⟨du,[],some s1⟩=>(match Ai i s1.o with
     | some (.lp f1 b1 m8 lq 0)=>(match RJ E u 0 (K6 f b).body false {s1 with o:=(i,some (.lp f1 b1 m8 lq 1))::s1.o} with
      |⟨f7,[],some s2⟩=>(match Ai i s2.o with
       |some (.lp f2 b2 ln lr 1)=>some (2,.v (.bool true),s2.nx,(i,some (.lp f2 b2 ln lr 0))::s2.o,du++f7)
       |_=>none)
      |_=>none)
     |_=>none)
    |_=>none) else none
  |_=>none
 |_,_,_=>none
theorem Bj1 {ps:List Prop} {s x:St} {e:Exit} (h:Oc ⟨ps,[],some s⟩ e x):e=.normal∧x=s:=by
 rcases h with⟨t,c,_,h,_⟩|⟨h,h2,_⟩
 ·cases h
 ·exact⟨h,(Option.some.inj h2).symm⟩
theorem B1s {E:Env} (ok:Ou E) (hP:E.P=Tryz.prog) (dt:E.ir=true) (u f b:Nat):YOk Tryz.prog f b (evY E u f b):=fun i xs nx o k x nx' o' ps he=>by
 unfold evY at he
 simp only at he
 split at he<;>first|(simp only[reduceCtorEq] at he;done)|skip
 rename_i f' b' us cs hl
 cases hc:(Nat.beq f f'&&(Nat.beq b b'&&(A64 (K6 f b).n (K6 f b).ps.toList&&Nat.beq (K6 f b).ps.size xs.length))) with
 |false=>rw[hc] at he;cases he
 |true=>
 rw[hc] at he
 simp only[cond_true] at he
 simp only[Bool.and_eq_true] at hc
 obtain⟨c1,c2,c3,c4⟩:=hc
 obtain rfl:=Nat.eq_of_beq_eq_true c1
 obtain rfl:=Nat.eq_of_beq_eq_true c2
 replace c4:=Nat.eq_of_beq_eq_true c4
 generalize hA:RJ E u 0 (K6 f b).assign false ⟨(K6 f b).n,nx,Bm4 (K6 f b).ps.toList xs (Bcm us cs),o⟩=rA at he
 split at he<;>first|(simp only[reduceCtorEq] at he;done)|skip
 rename_i du s1
 split at he<;>first|(simp only[reduceCtorEq] at he;done)|skip
 rename_i f1 b1 m8 lq hl1
 generalize hB:RJ E u 0 (K6 f b).body false {s1 with o:=(i,some (.lp f1 b1 m8 lq 1))::s1.o}=rB at he
 split at he<;>first|(simp only[reduceCtorEq] at he;done)|skip
 rename_i f7 s2
 split at he<;>first|(simp only[reduceCtorEq] at he;done)|skip
 rename_i f2 b2 ln lr mg
 cases he
 obtain⟨lc,qa⟩:∃lc,lc=K6 f b:=⟨_,rfl⟩
 rw[←qa] at hA hB c3 c4
 have wA:=FJ ok (u:=u) 0 lc.assign false ⟨lc.n,nx,Bm4 lc.ps.toList xs (Bcm us cs),o⟩
 rw[hA] at wA
 have wB:=FJ ok (u:=u) 0 lc.body false {s1 with o:=(i,some (.lp f1 b1 m8 lq 1))::s1.o}
 rw[hB] at wB
 refine⟨fun hp F N R vs hh hi ha=>?_,?_⟩
 ·have d7:∀p∈du,p:=fun p hm=>hp p (List.mem_append.2 (.inl hm))
  have fi:∀p∈f7,p:=fun p hm=>hp p (List.mem_append.2 (.inr hm))
  obtain⟨_,us',g1,r,g2,g3,g4,g5,g6,g7,g8,g9⟩:=hh.ob i _ hl
  rw[←qa] at g3 g4 g5 g6
  have hlen:vs.toArray.size=r.params.size:=by rw[g3,c4,List.size_toArray,ha.length]
  have hy:=run_yield (P:=Tryz.prog) (args:=vs.toArray) g2 hlen
  refine⟨r.fn,_,r.assign,r.body,hy,roundIn_of_wpIn trivial ?_⟩
  have jc:(r.params.zip vs.toArray).foldl (fun tmps (t,a)=>tmps.setIfInBounds t a) r.tmps=(lc.ps.toList.zip vs).foldl (fun tmps (t,a)=>tmps.setIfInBounds t a) r.tmps:=by
   rw[g3,←Array.foldl_toList,Array.toList_zip]
  rw[jc]
  obtain⟨k1,k2⟩:=Bkl (t:=Bcm us cs) c3 (by rw[Array.length_toList];exact c4) ha g6 (Bll g1 g9)
  generalize (lc.ps.toList.zip vs).foldl (fun tmps (t,a)=>tmps.setIfInBounds t a) r.tmps=tm at k1 k2⊢
  have d8:∀{x:A} {y:Value},Hv F N nx R x y→HS F N nx R (BH {tmps:=tm,defers:=[]}) x y:=fun h=>(Ac h.isPlain).2 h
  have h0:Rel ⟨F,N,nx,o,R,BH {tmps:=tm,defers:=[]},fun _=>True,[]⟩ F N ⟨lc.n,nx,Bm4 lc.ps.toList xs (Bcm us cs),o⟩ {tmps:=tm,defers:=[]} R:=
   ⟨rfl,k1,fun u x hu=>d8 (k2 u x hu),hh,.refl,fun _ _=>rfl⟩
  have uo:=IM ok (u:=u) 0 lc.assign false _ _ _ _ (Exit.then (fun a₁ w₁=>∃w₂,(Instr.beginRound (N.b i)).run Tryz.prog w₁=.ok () w₂∧lc.body.wpIn (Fence.wide.inRound (N.b i)) 0 Tryz.prog (roundPost Tryz.prog (N.b i) fun e R'=>∃y F' N',e=.returned y∧Bp F' N' s2.nx ((i,some (.lp f2 b2 ln lr 0))::s2.o) R'∧Step F N nx o R F' N' s2.nx ((i,some (.lp f2 b2 ln lr 0))::s2.o) R'∧Hv F' N' s2.nx R' (.v (.bool true)) y∧(2≤1→Below R.heap.size R R')) a₁ w₂) (fun _ _ _=>False)) (Qy.of h0) (fun _ _=>trivial) (by rw[hA];exact d7) ?_ (some (N.b i)) (fun e=>by rw[dt] at e;cases e)
  ·rw[hP] at uo
   rw[g4,g5]
   exact uo
  ·rw[hA]
   intro e z a1 R1 ho hz
   obtain⟨rfl,rfl⟩:=Bj1 ho
   obtain⟨ms1,F1,N1,q1,_⟩:=hz
   obtain⟨r1,e1,e2,e3,e4⟩:=q1.lpTurn (k':=1) hl1
   have hb1:N1.b i=N.b i:=q1.st.b i hi
   rw[hb1] at e1 e4
   refine⟨_,run_beginRound e1 e2,?_⟩
   have h5:=e4 {r1 with state:=.busy} (by rw[show Bmt 1=r1.pending from e3.symm];rfl)
   have uq:=IM ok (u:=u) 0 lc.body false _ _ _ _ (roundPost Tryz.prog (N.b i) fun e R'=>∃y F' N',e=.returned y∧Bp F' N' s2.nx ((i,some (.lp f2 b2 ln lr 0))::s2.o) R'∧Step F N nx o R F' N' s2.nx ((i,some (.lp f2 b2 ln lr 0))::s2.o) R'∧Hv F' N' s2.nx R' (.v (.bool true)) y∧(2≤1→Below R.heap.size R R')) (Qy.of h5) (fun _ _=>trivial) (by rw[hB];exact fi) ?_ (some (N.b i)) (fun e=>by rw[dt] at e;cases e)
   ·rw[hP] at uq
    exact uq
   ·rw[hB]
    intro e' z' a2 R2 ho' lj
    obtain⟨rfl,rfl⟩:=Bj1 ho'
    obtain⟨td,F2,N2,q2,_⟩:=lj
    obtain⟨r2,d1,d2,d3,d4⟩:=q2.lpTurn (k':=0) mg
    have az:N2.b i=N.b i:=q2.st.b i hi
    rw[az] at d1 d4
    refine⟨_,_,run_endRound none d1,?_⟩
    have h6:=d4 _ rfl
    exact⟨_,F2,N2,rfl,h6.hp,h6.st,.v _,fun hk=>by cases hk with|step hk=>cases hk⟩
 ·obtain⟨d1,l6⟩:=(wA.nrm _ rfl).seq
  obtain⟨d2,jv⟩:=(wB.nrm _ rfl).seq
  refine⟨(i,some (.lp f2 b2 ln lr 0))::(d2++((i,some (.lp f1 b1 m8 lq 1))::d1)),?_⟩
  have rj:s1.o=d1++o:=l6
  have i9:s2.o=d2++((i,some (.lp f1 b1 m8 lq 1))::s1.o):=jv
  rw[i9,rj]
  simp
def rfT (C:Tab) (f b:Nat) (g:Operand) (us:List Nat) (s:St):Option (Code×List Prop×BD):=match s.ev [] g,Agb s [] (us.map .tmp) with
 | some (.fn gf first caps),some cs=>bif Xy Tryz.prog gf&&Nat.beq s.n (K6 f b).n then
   (match C gf (first++(.yl s.nx::caps)) (s.nx+1) ((s.nx,some (.lp f b us cs 0))::s.o) with
   |some (_,_,nx',o',ps)=>(match Ai s.nx o' with
    |some (.lp _ _ _ _ 0)=>some (.rangeFunc g (K6 f b).ps (K6 f b).assign (K6 f b).body,ps,[(none,none,{s with nx:=nx',o:=(s.nx,none)::o'})])
    |_=>none)
   |none=>none) else none
 |_,_=>none
theorem Bmh {F:Nat→Prop} {N:Nm} {nx:Nat} {R:World} {vs:List Value}:∀{us:List Nat} {a:Act} {cs:List A},HL F N nx R cs ((us.map Operand.tmp).map a.eval)→vs=(us.map Operand.tmp).map a.eval→∀(j u:Nat) (v:Value),us[j]?=some u→vs[j]?=some v→a.tmps.getD u undef=v:=fun {us a cs} _ e j u v hu hv=>by
 subst e
 rw[List.getElem?_map,List.getElem?_map,hu] at hv
 cases hv
 rfl
theorem B2q {C:Tab} (hC:COk AP C) (f b:Nat) (g:Operand) (us:List Nat):∀s b0 ps outs,rfT C f b g us s=some (b0,ps,outs)→Bur (Co C0 L0) b0 s ps outs:=fun s b0 ps outs he=>by
 unfold rfT at he
 split at he<;>try(cases he;done)
 rename_i gf first caps cs hg cn
 cases bz:Xy Tryz.prog gf&&Nat.beq s.n (K6 f b).n with
 |false=>rw[bz] at he;cases he
 |true=>
 rw[bz] at he
 rw[Bool.and_eq_true] at bz
 obtain⟨bz,hn⟩:=bz
 replace hn:=Nat.eq_of_beq_eq_true hn
 simp only[cond_true] at he
 split at he<;>try(cases he;done)
 rename_i k x nx' o' gz hc
 split at he<;>try(cases he;done)
 rename_i f1 b1 m8 lq hl1
 cases he
 obtain⟨nz,d,hd⟩:=hC _ _ _ _ _ _ _ _ _ hc
 intro t c s1 e
 cases e
 refine⟨⟨rfl,(s.nx,none)::(d++[(s.nx,some (.lp f b us cs 0))]),by show(s.nx,none)::o'=_;rw[hd];simp⟩,fun Z a R Q h hW hp hk r dt=>?_⟩
 obtain rfl:r=none:=dt rfl
 obtain⟨ms,F,N,h,hm⟩:=h
 have ru:=(BL h (FI _) hg).2.fn_inv
 obtain⟨v1,v2,ru,hf1,hf2⟩:=ru
 have hal:=Ul h (FI _) cn
 refine wpIn_rangeFunc fun fn _=>?_
 -- the two blocks
 obtain⟨rec,fj⟩:∃rec:Loop,rec={state:=.ready,pending:=none,fn,tmps:=a.tmps,params:=(K6 f b).ps,assign:=(K6 f b).assign,body:=(K6 f b).body,defers:=R.heap.size}:=⟨_,rfl⟩
 have l8:(Instr.enterLoop fn a.tmps (K6 f b).ps (K6 f b).assign (K6 f b).body none).run Tryz.prog R=.ok (R.heap.size+1,[{target:=.collected R.heap.size,args:=#[]}]) ((R.alloc (.deferred (some []))).alloc (.loop rec)):=by
  rw[fj]
  exact run_enterLoop_outer _ _ _ _ _
 have pr:Below R.heap.size R (R.alloc (.deferred (some []))):=Pj _
 have bc:(R.alloc (.deferred (some []))).heap.size=R.heap.size+1:=World.size_alloc ..
 have ue:(R.alloc (.deferred (some []))).heap[R.heap.size]?=some (.deferred (some [])):=World.alloc_heap_new _ _
 generalize hR1:R.alloc (.deferred (some []))=R1 at l8 pr bc ue
 have h1:=h.grow pr
 have hx1:Ext F N s.nx R F N s.nx R1:=(Step.of_below (o:=s.o) pr).ext h.hp
 obtain⟨F2,N2,e1,e2,e3,_⟩:=Asp (k:=1) (ps:=[]) (x:=.yl s.nx) (v:=.func (.yield (R.heap.size+1)) #[] #[]) h1.hp (ob:=.lp f b us cs 0) (B:=.loop rec) (fun N' g hg=>hg) (fun st hB=>⟨_,(hal.step hx1).step st,rec,by rw[hB],by rw[fj],by rw[fj],by rw[fj],by rw[fj];exact h.size.trans hn,by rw[fj];rfl,by rw[fj];rfl,fun j u v hu hv=>by
   rw[fj]
   exact Bmh hal rfl j u v hu hv⟩) (by
   have:=Hv.yl (F:=F) (N:=N.setB s.nx R1.heap.size) (nx:=s.nx+1) (R:=R1.alloc (.loop rec)) (i:=s.nx) (Nat.lt_succ_self _)
   rw[show(N.setB s.nx R1.heap.size).b s.nx=R.heap.size+1 from(C2 _ _ _).trans bc] at this
   exact this)
 generalize hR2:R1.alloc (.loop rec)=R2 at l8 e1 e2 e3
 have mf:N2.b s.nx=R.heap.size+1:=by
  have h9:=e3.yl_inv.2
  injection h9 with h9 _ _
  injection h9 with h9
  exact h9.symm
 -- the call
 have ft:Ext F N s.nx R F2 N2 (s.nx+1) R2:=hx1.trans (e2.ext h1.hp)
 have hstA:Step F N s.nx s.o R F2 N2 (s.nx+1) ((s.nx,some (.lp f b us cs 0))::s.o) R2:=(Step.of_below pr).trans e2
 have hcall:=(nz hp).1 (Arf bz) F2 N2 R2 (v1++(.func (.yield (R.heap.size+1)) #[] #[]::v2)) e1 ((hf1.step ft).append (HL.cons e3 (hf2.step ft)))
 refine⟨R.heap.size+1,[{target:=.collected R.heap.size,args:=#[]}],R2,{target:=.fn (.func gf) v2.toArray,args:=v1.toArray++#[.func (.yield (R.heap.size+1)) #[] #[]]},R2,gf,(v1++(.func (.yield (R.heap.size+1)) #[] #[]::v2)).toArray,R2,l8,?_,fun _ _=>trivial,?_,fun e=>(by cases e),?_⟩
 ·have hr:resolve a.eval (rangeCall g (R.heap.size+1)) 0=pure {target:=.fn (.func gf) v2.toArray,args:=v1.toArray++#[.func (.yield (R.heap.size+1)) #[] #[]]}:=by
   simp only[resolve,ru,Deferred.ofValue]
   simp[Act.eval]
  rw[hr]
  rfl
 ·simp only[invoke]
  have bx:v1.toArray++#[.func (.yield (R.heap.size+1)) #[] #[]]++v2.toArray=(v1++(.func (.yield (R.heap.size+1)) #[] #[]::v2)).toArray:=by
   apply Array.ext'
   simp
  rw[bx]
  exact Av7 bz _ R2
 ·refine callsIn_wide.2 (hcall.mono fun e R3 ⟨y,F3,N3,q1,q2,q3,q4,_⟩=>?_)
  subst q1
  obtain⟨_,ln,p1,r2,p2,p3,p4,p5,p6,p7,p8,_⟩:=q2.ob s.nx _ hl1
  have hb3:N3.b s.nx=R.heap.size+1:=(q3.b s.nx (Nat.lt_succ_self _)).trans mf
  rw[hb3] at p2
  refine⟨none,_,(run_endLoop p2 (by rw[p7];exact fun e=>by cases e)).trans (by rw[p8];rfl),?_⟩
  -- what is said behind it
  have ae:R.heap.size+1 <R3.heap.size:=(Array.getElem?_eq_some_iff.1 p2).1
  have gy:∀i ob,Ai i ((s.nx,none)::o')=some ob→i≠s.nx∧Ai i o'=some ob:=fun i ob hi=>by
   rw[AG] at hi
   by_cases e:i=s.nx
   ·rw[if_pos e] at hi;cases hi
   ·rw[if_neg e] at hi;exact⟨e,hi⟩
  have hst3:Step F N s.nx s.o R F3 N3 nx' ((s.nx,none)::o') R3:=(hstA.trans q3).trans (Step.weak fun i ob hi=>(gy i ob hi).2)
  have yd:¬F3 (R.heap.size+1):=fun hf=>q2.ff s.nx _ _ hl1 hb3.symm hf
  have ye:¬Gb N3 ((s.nx,none)::o') (R.heap.size+1):=fun⟨i,ob,hi,hg⟩=>by
   obtain⟨h8,h9⟩:=gy i ob hi
   exact h8 (q2.sep i s.nx ob _ _ h9 hl1 hg hb3.symm)
  have hDlt:R.heap.size <R3.heap.size:=by omega
  have hsz2:R2.heap.size=R.heap.size+2:=by rw[←hR2,World.size_alloc,bc]
  have nD:∀{g:Nat},Gb N2 ((s.nx,some (.lp f b us cs 0))::s.o) g→g≠R.heap.size:=fun {g} ⟨i,ob,hi,hg⟩ e=>by
   subst e
   rw[AG] at hi
   by_cases ei:i=s.nx
   ·rw[if_pos ei] at hi
    cases hi
    subst ei
    have:R.heap.size=N2.b s.nx:=hg
    omega
   ·rw[if_neg ei] at hi
    obtain⟨k1,k2⟩:=h.hp.ob i ob hi
    have:=k2.lt ((ER ft k1).1 hg)
    omega
  have qu:¬F2 R.heap.size:=fun hf=>by
   rcases e2.fnew _ hf with h9|h9|h9
   ·have:=h.hp.flt _ h9;omega
   ·obtain⟨i,ob,hi,hg⟩:=h9
    have:=(h.hp.ob i ob hi).2.lt hg
    omega
   ·omega
  have wu:R2.heap[R.heap.size]?=some (.deferred (some [])):=by
   rw[←hR2]
   exact(Below.heap_alloc _ _ _ (by omega)).trans ue
  have qv:¬F3 R.heap.size:=fun hf=>by
   rcases q3.fnew _ hf with h9|h9|h9
   ·exact qu h9
   ·exact nD h9 rfl
   ·omega
  have qw:¬Gb N3 ((s.nx,none)::o') R.heap.size:=fun hf=>by
   rcases q3.foot _ (Gb.weak (fun i ob hi=>(gy i ob hi).2) hf) with h9|h9
   ·exact nD h9 rfl
   ·omega
  have wv:R3.heap[R.heap.size]?=some (.deferred (some [])):=(q3.keep _ (by omega) fun hf=>nD hf rfl).trans wu
  refine hk _ _ ⟨{target:=.collected R.heap.size,args:=#[]}::ms,F3,N3,?_,?_⟩
  ·have hrel:Rel (Blj Z ({target:=.collected R.heap.size,args:=#[]}::ms)) F3 N3 {s with nx:=nx',o:=(s.nx,none)::o'} {a with defers:={target:=.collected R.heap.size,args:=#[]}::a.defers} R3:=
    ⟨by show _::a.defers=_;rw[h.defers];rfl,h.size,fun u x hu=>(h.slots u x hu).step (hst3.ext h.hp),q2.weak fun i ob hi=>(gy i ob hi).2,h.st.trans hst3,h.tm⟩
   exact hrel.shut (Nat.le_trans h.st.size (Nat.le_succ _)) yd ye
  ·have ao:∀g,g≠R.heap.size+1→∀r,(R3.putObj (R.heap.size+1) r).heap[g]?=R3.heap[g]?:=fun g hg r=>World.putObj_heap_other hg
   have ya:=hm.step hst3
   refine⟨List.nodup_cons.2 ⟨fun j7=>?_,hm.1⟩,fun d hd=>?_⟩
   ·obtain⟨D,e,_,_,_,h9⟩:=hm.2 _ j7
    injection e with e
    injection e with e
    have:=(Array.getElem?_eq_some_iff.1 h9).1
    omega
   ·rcases List.mem_cons.1 hd with rfl|hd
    ·exact⟨R.heap.size,rfl,h.st.size,qv,qw,by rw[ao _ (by omega)];exact wv⟩
    ·obtain⟨D,e,k1,k2,k3,k4⟩:=ya.2 d hd
     obtain⟨D',e',_,_,_,k9⟩:=hm.2 d hd
     rw[e] at e'
     injection e' with e'
     injection e' with e'
     have:=(Array.getElem?_eq_some_iff.1 k9).1
     exact⟨D,e,k1,k2,k3,by rw[ao _ (by omega)];exact k4⟩
def A1t:=DM (M0 (Au Cdh.2 AF) 20 41) Cdh
abbrev NL:Type:=Int×Int×Ae×(List Ab)×Bool×Int×Int×(List Int)×Int×Int×Bool×(List AR)
def Bjm:NL→St
  |(a0,a1,a2,a3,a4,a5,a6,a7,a8,a9,a10,a11)=>⟨69,8,[(0,.own 1 0),(1,.own 2 0),(34,.v (.int .i64 a0)),(35,.v (.int .i64 a1))],[(1,some (.box 81 [.sl .u8 a2,.sl .group a3,.v (.bool a4)])),(2,some (.box 34 [.v (.int .i64 a5),.v (.int .i64 a6),.v (.int .i64 0),.v (.int .i64 0),.v (.int .i64 0),.v (.int .i64 0),.v (.int .i64 0),.v (.int .i64 0),.v (.slice none 0 0),.v (.int .i64 0),.v (.int .i64 0),.sl .i64 a7,.v (.slice none 0 0),.sq 7,.v (.int .i64 a8),.v (.int .i64 a9),.v (.bool a10)])),(7,some (.arr 62 2 (.ty .row a11)))]⟩
def Atd:St→Option NL
 |⟨69,8,[(0,.own 1 0),(1,.own 2 0),(34,.v (.int .i64 z0)),(35,.v (.int .i64 z1))],[(1,some (.box 81 [.sl .u8 z2,.sl .group z3,.v (.bool z4)])),(2,some (.box 34 [.v (.int .i64 z5),.v (.int .i64 z6),.v (.int .i64 (w0)),.v (.int .i64 (w1)),.v (.int .i64 (w2)),.v (.int .i64 (w3)),.v (.int .i64 (w4)),.v (.int .i64 (w5)),.v (.slice none 0 0),.v (.int .i64 (w6)),.v (.int .i64 (w7)),.sl .i64 z7,.v (.slice none 0 0),.sq 7,.v (.int .i64 z8),.v (.int .i64 z9),.v (.bool iq)])),(7,some (.arr 62 2 (.ty .row m9)))]⟩=>if w0=0∧w1=0∧w2=0∧w3=0∧w4=0∧w5=0∧w6=0∧w7=0 then some (z0,z1,z2,z3,z4,z5,z6,z7,z8,z9,iq,m9) else none
 |_=>none
theorem Bee:∀s x,Atd s=some x→s=Bjm x:=fun s x h=>by
 unfold Atd at h
 split at h
 ·split at h
  ·rename_i hw
   obtain⟨rfl,rfl,rfl,rfl,rfl,rfl,rfl,rfl⟩:=hw
   cases h;rfl
  ·cases h
 ·cases h
def Bwe:Em:=⟨7,8,[0,1,34,35],[],[(1,1),(2,2),(10,7)],[1,2,10],[],[1,2,7]⟩
def Bwd:EQ:=⟨[.frz 4,.nilB 2 13 62 .row],[(1,1),(2,2),(6,7)],[0,1,34,35],[1,2,6]⟩
def Atb (a0 a1:Int) (a4:Bool):Bool:=!!decide (a1 <a0)&&a4
def Ajn (a2:Ae) (a3:List Ab):Ae:=List.take ((a2.length:Int).toNat - (Qb a2 a3).toNat) (List.drop (Qb a2 a3).toNat a2)
def Adm (a2:Ae) (a3:List Ab) (a11:List AR):List AR:=a11++[AR.mk (Un a2 a3) (Tr a2 a3)]
def Bec (a0 a1:Int) (a4:Bool):Bool:=!!decide (a1 <a0)&&!(Atb a0 a1 a4)
def Ata (a0 a1:Int) (a4:Bool):Bool:=(Atb a0 a1 a4)
def Lb:NL→NL
  |(a0,a1,a2,a3,a4,a5,a6,a7,a8,a9,a10,a11)=>(a0,IntKind.i64.wrap (a1+1),Ajn a2 a3,a3,a4||NJ a2 a3 !=0,a5,a6,a7,a8,a9,a10,Adm a2 a3 a11)
def Io (x:NL):El:=some (Bec x.1 x.2.1 x.2.2.2.2.1)
def A0g:NL→List Prop
  |(a0,a1,a2,a3,a4,_,_,_,_,_,_,a11)=>[((!!decide (a1 <a0))=true→(!a4)=true→Af a2.length),((!!decide (a1 <a0))=true→(!a4)=true→0≤Qb a2 a3∧Qb a2 a3≤(a2.length:Int)∧(a2.length:Int)≤(a2.length:Int)),((!!decide (a1 <a0))=true→(!a4)=true→Af (a11.length+1))]
abbrev Atc:NL→List Prop:=A0g
def Bed:NL→BD
  |(a0,a1,a2,a3,a4,a5,a6,a7,a8,a9,a10,a11)=>[(some 0,some (!decide (a1 <a0)),⟨69,8,[],[(1,some (.box 81 [.sl .u8 a2,.sl .group a3,.v (.bool a4)])),(2,some (.box 34 [.v (.int .i64 a5),.v (.int .i64 a6),.v (.int .i64 0),.v (.int .i64 0),.v (.int .i64 0),.v (.int .i64 0),.v (.int .i64 0),.v (.int .i64 0),.v (.slice none 0 0),.v (.int .i64 0),.v (.int .i64 0),.sl .i64 a7,.v (.slice none 0 0),.sq 7,.v (.int .i64 a8),.v (.int .i64 a9),.v (.bool a10)])),(7,some (.arr 62 2 (.ty .row a11)))]⟩),(none,some (Ata a0 a1 a4),⟨69,8,[],[(1,some (.box 81 [.sl .u8 a2,.sl .group a3,.v (.bool a4)])),(2,some (.box 34 [.v (.int .i64 a5),.v (.int .i64 a6),.v (.int .i64 0),.v (.int .i64 0),.v (.int .i64 0),.v (.int .i64 0),.v (.int .i64 0),.v (.int .i64 0),.v (.slice none 0 0),.v (.int .i64 0),.v (.int .i64 0),.sl .i64 a7,.v (.slice none 0 0),.sq 7,.v (.int .i64 a8),.v (.int .i64 a9),.v (.bool a10)])),(7,some (.arr 62 2 (.ty .row a11)))]⟩)]
def Adn (x:NL):Nat:=(x.1 - x.2.1).toNat
def A0h (x:NL):NL:=Bh Lb Io (Adn x) x
set_option maxHeartbeats 8000000 in
def Bms:=Jt (Co A1t.1 L0) (Aw AP 42 0) Bwe Bwd Atd Adn Lb Io Atc Bed
def Bjl:=V8 0 (g:=Bms) (BX (T:=Bjm) (psA:=A0g) A1t.2 AF (u:=9) (by kernel_rfl) (by decide) (fun⟨a0,a1,a2,a3,a4,a5,a6,a7,a8,a9,a10,a11⟩=>by kernel_rfl) (fun _ h=>h) Bee (fun _=>A9 (n:=69) rfl) fun _ _=>rfl) ⟨L0,AF⟩
def Amj (a0:Ae) (a2:Bool):=Cm 1 (List.take ((a0.length:Int).toNat - (AB a0).2.1.toNat) (List.drop (AB a0).2.1.toNat a0)) (a2||(AB a0).2.2 !=0)
def Wi (a0:Ae) (a2:Bool):=Cm 256 (Amj a0 a2).2.1 (Amj a0 a2).2.2
def QV (a0:Ae) (a1:List Ab) (a2:Bool) (a3 a4:Int) (a5:List Int):=A0h ((Wi a0 a2).1,0,(Wi a0 a2).2.1,a1,(Wi a0 a2).2.2,a3,a4,a5,(AB a0).1.1,(AB a0).1.2,(Amj a0 a2).1==1,[])
def As9 (a0:Ae) (a1:List Ab) (a2:Bool) (a3 a4:Int) (a5:List Int):Ae:=(QV a0 a1 a2 a3 a4 a5).2.2.1
def As8 (a0:Ae) (a1:List Ab) (a2:Bool) (a3 a4:Int) (a5:List Int):List Ab:=(QV a0 a1 a2 a3 a4 a5).2.2.2.1
def A0f (a0:Ae) (a1:List Ab) (a2:Bool) (a3 a4:Int) (a5:List Int):Bool:=(QV a0 a1 a2 a3 a4 a5).2.2.2.2.1
def A88 (a0:Ae) (a1:List Ab) (a2:Bool) (a3 a4:Int) (a5:List Int):Int:=(QV a0 a1 a2 a3 a4 a5).2.2.2.2.2.1
def A87 (a0:Ae) (a1:List Ab) (a2:Bool) (a3 a4:Int) (a5:List Int):Int:=(QV a0 a1 a2 a3 a4 a5).2.2.2.2.2.2.1
def A86 (a0:Ae) (a1:List Ab) (a2:Bool) (a3 a4:Int) (a5:List Int):List Int:=(QV a0 a1 a2 a3 a4 a5).2.2.2.2.2.2.2.1
def A85 (a0:Ae) (a1:List Ab) (a2:Bool) (a3 a4:Int) (a5:List Int):Int:=(QV a0 a1 a2 a3 a4 a5).2.2.2.2.2.2.2.2.1
def A84 (a0:Ae) (a1:List Ab) (a2:Bool) (a3 a4:Int) (a5:List Int):Int:=(QV a0 a1 a2 a3 a4 a5).2.2.2.2.2.2.2.2.2.1
def A83 (a0:Ae) (a1:List Ab) (a2:Bool) (a3 a4:Int) (a5:List Int):Bool:=(QV a0 a1 a2 a3 a4 a5).2.2.2.2.2.2.2.2.2.2.1
def A82 (a0:Ae) (a1:List Ab) (a2:Bool) (a3 a4:Int) (a5:List Int):List AR:=(QV a0 a1 a2 a3 a4 a5).2.2.2.2.2.2.2.2.2.2.2
def SM (a0:Ae) (a1:List Ab) (a2:Bool) (a3 a4:Int) (a5:List Int):Bool:=Ata (QV a0 a1 a2 a3 a4 a5).1 (QV a0 a1 a2 a3 a4 a5).2.1 (A0f a0 a1 a2 a3 a4 a5)
def Pp (a0:Ae) (a1:List Ab) (a2:Bool) (a3 a4:Int) (a5:List Int):Int:=bif(SM a0 a1 a2 a3 a4 a5) then 0 else 0
def B13 (a0:Ae) (a1:List Ab) (a2:Bool) (a3 a4:Int) (a5:List Int):List AR:=bif(SM a0 a1 a2 a3 a4 a5) then(A82 a0 a1 a2 a3 a4 a5) else(A82 a0 a1 a2 a3 a4 a5)
def B14 (a0:Ae) (a1:List Ab) (a2:Bool) (a3 a4:Int) (a5:List Int):Ae:=bif(SM a0 a1 a2 a3 a4 a5) then(As9 a0 a1 a2 a3 a4 a5) else(As9 a0 a1 a2 a3 a4 a5)
def B15 (a0:Ae) (a1:List Ab) (a2:Bool) (a3 a4:Int) (a5:List Int):List Ab:=bif(SM a0 a1 a2 a3 a4 a5) then(As8 a0 a1 a2 a3 a4 a5) else(As8 a0 a1 a2 a3 a4 a5)
def B16 (a0:Ae) (a1:List Ab) (a2:Bool) (a3 a4:Int) (a5:List Int):Bool:=bif(SM a0 a1 a2 a3 a4 a5) then(A0f a0 a1 a2 a3 a4 a5) else(A0f a0 a1 a2 a3 a4 a5)
def B17 (a0:Ae) (a1:List Ab) (a2:Bool) (a3 a4:Int) (a5:List Int):Int:=bif(SM a0 a1 a2 a3 a4 a5) then(A88 a0 a1 a2 a3 a4 a5) else(A88 a0 a1 a2 a3 a4 a5)
def B18 (a0:Ae) (a1:List Ab) (a2:Bool) (a3 a4:Int) (a5:List Int):Int:=bif(SM a0 a1 a2 a3 a4 a5) then(A87 a0 a1 a2 a3 a4 a5) else(A87 a0 a1 a2 a3 a4 a5)
def Brr (a0:Ae) (a1:List Ab) (a2:Bool) (a3 a4:Int) (a5:List Int):List Int:=bif(SM a0 a1 a2 a3 a4 a5) then(A86 a0 a1 a2 a3 a4 a5) else(A86 a0 a1 a2 a3 a4 a5)
def Brs (a0:Ae) (a1:List Ab) (a2:Bool) (a3 a4:Int) (a5:List Int):Int:=bif(SM a0 a1 a2 a3 a4 a5) then(A85 a0 a1 a2 a3 a4 a5) else(A85 a0 a1 a2 a3 a4 a5)
def Brt (a0:Ae) (a1:List Ab) (a2:Bool) (a3 a4:Int) (a5:List Int):Int:=bif(SM a0 a1 a2 a3 a4 a5) then(A84 a0 a1 a2 a3 a4 a5) else(A84 a0 a1 a2 a3 a4 a5)
def Bru (a0:Ae) (a1:List Ab) (a2:Bool) (a3 a4:Int) (a5:List Int):Bool:=bif(SM a0 a1 a2 a3 a4 a5) then(A83 a0 a1 a2 a3 a4 a5) else(A83 a0 a1 a2 a3 a4 a5)
def B55 (_a0:Ae) (_a1:List Ab) (_a2:Bool) (_a3 _a4:Int) (_a5:List Int):A:=.v (.tuple ⟨[]⟩)
def Brv (a0:Ae) (a1:List Ab) (a2:Bool) (a3 a4:Int) (a5:List Int):AE:=[(5,some (.arr 62 2 (.ty .row (B13 a0 a1 a2 a3 a4 a5)))),(1,some (.box 81 [.sl .u8 (B14 a0 a1 a2 a3 a4 a5),.sl .group (B15 a0 a1 a2 a3 a4 a5),.v (.bool (B16 a0 a1 a2 a3 a4 a5))])),(2,some (.box 34 [iV (B17 a0 a1 a2 a3 a4 a5),iV (B18 a0 a1 a2 a3 a4 a5),iV ((Pp a0 a1 a2 a3 a4 a5)),iV ((Pp a0 a1 a2 a3 a4 a5)),iV ((Pp a0 a1 a2 a3 a4 a5)),iV ((Pp a0 a1 a2 a3 a4 a5)),iV ((Pp a0 a1 a2 a3 a4 a5)),iV ((Pp a0 a1 a2 a3 a4 a5)),.v (.slice none 0 0),iV ((Pp a0 a1 a2 a3 a4 a5)),iV ((Pp a0 a1 a2 a3 a4 a5)),.sl .i64 (Brr a0 a1 a2 a3 a4 a5),.v (.slice none 0 0),.sq 5,iV (Brs a0 a1 a2 a3 a4 a5),iV (Brt a0 a1 a2 a3 a4 a5),.v (.bool (Bru a0 a1 a2 a3 a4 a5))])),(4,none)]
def Bze (a0:Ae) (a1:List Ab) (a2:Bool) (a3 a4:Int) (a5:List Int):=A8 Lb Io Atc (Adn ((Wi a0 a2).1,0,(Wi a0 a2).2.1,a1,(Wi a0 a2).2.2,a3,a4,a5,(AB a0).1.1,(AB a0).1.2,(Amj a0 a2).1==1,[])) ((Wi a0 a2).1,0,(Wi a0 a2).2.1,a1,(Wi a0 a2).2.2,a3,a4,a5,(AB a0).1.1,(AB a0).1.2,(Amj a0 a2).1==1,[])
def Brw (a0:Ae) (a1:List Ab) (a2:Bool) (a3 a4:Int) (a5:List Int):List Prop:=[(0≤(AB a0).2.1∧(AB a0).2.1≤(a0.length:Int)∧(a0.length:Int)≤(a0.length:Int)),(Bze a0 a1 a2 a3 a4 a5)]
set_option maxHeartbeats 8000000 in
theorem B54 (a0:Ae) (a1:List Ab) (a2:Bool) (a3 a4:Int) (a5:List Int):A8d (Co A1t.1 Bjl.1) 9 42 [.own 1 0,.own 2 0] 5 [(1,some (.box 81 [.sl .u8 a0,.sl .group a1,.v (.bool a2)])),(2,some (.box 34 [iV a3,iV a4,iV 0,iV 0,iV 0,iV 0,iV 0,iV 0,.v (.slice none 0 0),iV 0,iV 0,.sq 4,.v (.slice none 0 0),.v (.slice none 0 0),iV 0,iV 0,.v (.bool false)])),(4,some (.arr 3 1 (.ty .i64 a5)))]=some (2,B55 a0 a1 a2 a3 a4 a5,6,Brv a0 a1 a2 a3 a4 a5,[(0≤(AB a0).2.1∧(AB a0).2.1≤(a0.length:Int)∧(a0.length:Int)≤(a0.length:Int)),(Aw AP 42 0=Aw AP 42 0),(Bze a0 a1 a2 a3 a4 a5)]):=by kernel_rfl
theorem B7o (a0:Ae) (a1:List Ab) (a2:Bool) (a3 a4:Int) (a5:List Int) (hp:∀p∈Brw a0 a1 a2 a3 a4 a5,p):An AP 42 [.own 1 0,.own 2 0] 5 [(1,some (.box 81 [.sl .u8 a0,.sl .group a1,.v (.bool a2)])),(2,some (.box 34 [iV a3,iV a4,iV 0,iV 0,iV 0,iV 0,iV 0,iV 0,.v (.slice none 0 0),iV 0,iV 0,.sq 4,.v (.slice none 0 0),.v (.slice none 0 0),iV 0,iV 0,.v (.bool false)])),(4,some (.arr 3 1 (.ty .i64 a5)))] 2 (B55 a0 a1 a2 a3 a4 a5) 6 (Brv a0 a1 a2 a3 a4 a5):=
  Zy (Au A1t.2 Bjl.2) (B54 a0 a1 a2 a3 a4 a5) (nT hp fun hp=>Aa rfl (nT hp fun _=>Ag))
end Go.Proofs.YtifkbgkbajncjaaGreatDoor
namespace Go.Proofs.YtifkbgkbajncjaaGreatDoor
open Go.RowKit
def A1u:=aRy (B1s (Bql Cdh.2) rfl rfl 9 13 3) Cdh
abbrev NF:Type:=Int×Int×Int×Int×Int×Int×Int×Int×Int×Int×(List Int)×Int×Int×Bool×Ae×(List Ab)×Bool×(List Ae)
def Bvm:NF→St
  |(a0,a1,a2,a3,a4,a5,a6,a7,a8,a9,a10,a11,ax,ay,a14,ba,a16,a17)=>⟨28,9,[(0,.yl 6),(1,.own 5 0)],[(6,some (.lp 13 3 [11] [.own 2 0] 0)),(2,some (.box 34 [.v (.int .i64 a0),.v (.int .i64 a1),.v (.int .i64 a2),.v (.int .i64 a3),.v (.int .i64 a4),.v (.int .i64 a5),.v (.int .i64 a6),.v (.int .i64 a7),.v (.slice none 0 0),.v (.int .i64 a8),.v (.int .i64 a9),.sl .i64 a10,.sq 8,.v (.slice none 0 0),.v (.int .i64 a11),.v (.int .i64 ax),.v (.bool ay)])),(5,some (.box 79 [.own 1 0])),(1,some (.box 81 [.sl .u8 a14,.sl .group ba,.v (.bool a16)])),(8,some (.arr 58 32 (.ty .digest a17)))]⟩
def A73:St→Option NF
 |⟨28,9,[(0,.yl 6),(1,.own 5 0)],[(6,some (.lp 13 3 [11] [.own 2 0] 0)),(2,some (.box 34 [.v (.int .i64 z0),.v (.int .i64 z1),.v (.int .i64 z2),.v (.int .i64 z3),.v (.int .i64 z4),.v (.int .i64 z5),.v (.int .i64 z6),.v (.int .i64 z7),.v (.slice none 0 0),.v (.int .i64 z8),.v (.int .i64 z9),.sl .i64 iq,.sq 8,.v (.slice none 0 0),.v (.int .i64 m9),.v (.int .i64 tu),.v (.bool tv)])),(5,some (.box 79 [.own 1 0])),(1,some (.box 81 [.sl .u8 tw,.sl .group tx,.v (.bool tz)])),(8,some (.arr 58 32 (.ty .digest zy)))]⟩=>some (z0,z1,z2,z3,z4,z5,z6,z7,z8,z9,iq,m9,tu,tv,tw,tx,tz,zy)
 |_=>none
def Bvl:Em:=⟨8,9,[0,1],[],[(6,6),(2,2),(5,5),(1,1),(12,8)],[6,2,5,1,12],[],[6,2,12,5,1]⟩
def Bvk:EQ:=⟨[.frz 4,.nilB 2 12 58 .digest],[(6,6),(2,2),(5,5),(1,1),(7,8)],[0,1],[6,2,5,1,7]⟩
def BA (a14:Ae):=List.take 32 (List.drop 0 a14)
def SG (_a0 _a1 _a2 _a3 _a4 _a5 _a6 _a7 _a8 _a9:Int) (_a10:List Int) (_a11 _a12:Int) (_a13:Bool) (a14:Ae) (_a15:List Ab) (_a16:Bool) (_a17:List Ae):Int:=(↑(UInt8.toNat ((BA a14).getD (nat_lit 0) (Av TC.u8))):Int)
def SF (_a0 _a1 _a2 _a3 _a4 _a5 _a6 _a7 _a8 _a9:Int) (_a10:List Int) (_a11 _a12:Int) (_a13:Bool) (a14:Ae) (_a15:List Ab) (_a16:Bool) (_a17:List Ae):Int:=(↑(UInt8.toNat ((BA a14).getD (nat_lit 1) (Av TC.u8))):Int)
def SE (_a0 _a1 _a2 _a3 _a4 _a5 _a6 _a7 _a8 _a9:Int) (_a10:List Int) (_a11 _a12:Int) (_a13:Bool) (a14:Ae) (_a15:List Ab) (_a16:Bool) (_a17:List Ae):Int:=(↑(UInt8.toNat ((BA a14).getD (nat_lit 2) (Av TC.u8))):Int)
def SD (_a0 _a1 _a2 _a3 _a4 _a5 _a6 _a7 _a8 _a9:Int) (_a10:List Int) (_a11 _a12:Int) (_a13:Bool) (a14:Ae) (_a15:List Ab) (_a16:Bool) (_a17:List Ae):Int:=(↑(UInt8.toNat ((BA a14).getD (nat_lit 3) (Av TC.u8))):Int)
def SC (_a0 _a1 _a2 _a3 _a4 _a5 _a6 _a7 _a8 _a9:Int) (_a10:List Int) (_a11 _a12:Int) (_a13:Bool) (a14:Ae) (_a15:List Ab) (_a16:Bool) (_a17:List Ae):Int:=(↑(UInt8.toNat ((BA a14).getD (nat_lit 4) (Av TC.u8))):Int)
def SB (_a0 _a1 _a2 _a3 _a4 _a5 _a6 _a7 _a8 _a9:Int) (_a10:List Int) (_a11 _a12:Int) (_a13:Bool) (a14:Ae) (_a15:List Ab) (_a16:Bool) (_a17:List Ae):Int:=(↑(UInt8.toNat ((BA a14).getD (nat_lit 5) (Av TC.u8))):Int)
def SA (_a0 _a1 _a2 _a3 _a4 _a5 _a6 _a7 _a8 _a9:Int) (_a10:List Int) (_a11 _a12:Int) (_a13:Bool) (a14:Ae) (_a15:List Ab) (_a16:Bool) (_a17:List Ae):Int:=(↑(UInt8.toNat ((BA a14).getD (nat_lit 6) (Av TC.u8))):Int)
def Sz (_a0 _a1 _a2 _a3 _a4 _a5 _a6 _a7 _a8 _a9:Int) (_a10:List Int) (_a11 _a12:Int) (_a13:Bool) (a14:Ae) (_a15:List Ab) (_a16:Bool) (_a17:List Ae):Int:=(↑(UInt8.toNat ((BA a14).getD (nat_lit 7) (Av TC.u8))):Int)
def Sy (_a0 _a1 _a2 _a3 _a4 _a5 _a6 _a7 _a8 _a9:Int) (_a10:List Int) (_a11 _a12:Int) (_a13:Bool) (a14:Ae) (_a15:List Ab) (_a16:Bool) (_a17:List Ae):Int:=(↑(UInt8.toNat ((BA a14).getD (nat_lit 8) (Av TC.u8))):Int)
def Sw (_a0 _a1 _a2 _a3 _a4 _a5 _a6 _a7 _a8 _a9:Int) (_a10:List Int) (_a11 _a12:Int) (_a13:Bool) (a14:Ae) (_a15:List Ab) (_a16:Bool) (_a17:List Ae):Int:=(↑(UInt8.toNat ((BA a14).getD (nat_lit 9) (Av TC.u8))):Int)
def Sv (a14:Ae):Int:=(↑(UInt8.toNat ((BA a14).getD (nat_lit 10) (Av TC.u8))):Int)
def Su (a14:Ae):Int:=(↑(UInt8.toNat ((BA a14).getD (nat_lit 11) (Av TC.u8))):Int)
def Ss (a14:Ae):Int:=(↑(UInt8.toNat ((BA a14).getD (nat_lit 12) (Av TC.u8))):Int)
def Sq (a14:Ae):Int:=(↑(UInt8.toNat ((BA a14).getD (nat_lit 13) (Av TC.u8))):Int)
def Sp (a14:Ae):Int:=(↑(UInt8.toNat ((BA a14).getD (nat_lit 14) (Av TC.u8))):Int)
def So (a14:Ae):Int:=(↑(UInt8.toNat ((BA a14).getD (nat_lit 15) (Av TC.u8))):Int)
def Sn (a14:Ae):Int:=(↑(UInt8.toNat ((BA a14).getD (nat_lit 16) (Av TC.u8))):Int)
def Sm (a14:Ae):Int:=(↑(UInt8.toNat ((BA a14).getD (nat_lit 17) (Av TC.u8))):Int)
def Sl (a14:Ae):Int:=(↑(UInt8.toNat ((BA a14).getD (nat_lit 18) (Av TC.u8))):Int)
def Sk (a14:Ae):Int:=(↑(UInt8.toNat ((BA a14).getD (nat_lit 19) (Av TC.u8))):Int)
def Sj (a14:Ae):Int:=(↑(UInt8.toNat ((BA a14).getD (nat_lit 20) (Av TC.u8))):Int)
def Si (a14:Ae):Int:=(↑(UInt8.toNat ((BA a14).getD (nat_lit 21) (Av TC.u8))):Int)
def Sh (a14:Ae):Int:=(↑(UInt8.toNat ((BA a14).getD (nat_lit 22) (Av TC.u8))):Int)
def Sg (a14:Ae):Int:=(↑(UInt8.toNat ((BA a14).getD (nat_lit 23) (Av TC.u8))):Int)
def Sf (a14:Ae):Int:=(↑(UInt8.toNat ((BA a14).getD (nat_lit 24) (Av TC.u8))):Int)
def Se (a14:Ae):Int:=(↑(UInt8.toNat ((BA a14).getD (nat_lit 25) (Av TC.u8))):Int)
def Sd (a14:Ae):Int:=(↑(UInt8.toNat ((BA a14).getD (nat_lit 26) (Av TC.u8))):Int)
def Sc (a14:Ae):Int:=(↑(UInt8.toNat ((BA a14).getD (nat_lit 27) (Av TC.u8))):Int)
def Sb (a14:Ae):Int:=(↑(UInt8.toNat ((BA a14).getD (nat_lit 28) (Av TC.u8))):Int)
def Sa (a14:Ae):Int:=(↑(UInt8.toNat ((BA a14).getD (nat_lit 29) (Av TC.u8))):Int)
def R9 (a14:Ae):Int:=(↑(UInt8.toNat ((BA a14).getD (nat_lit 30) (Av TC.u8))):Int)
def R8 (a14:Ae):Int:=(↑(UInt8.toNat ((BA a14).getD (nat_lit 31) (Av TC.u8))):Int)
def Ap (a14:Ae):Bool:=decide ((a14.length:Int)≥32)
def R7 (ay:Bool) (a14:Ae):Bool:=bif(Ap a14) then ay else ay
def R6 (ax:Int) (a14:Ae):Int:=bif(Ap a14) then ax else ax
def R5 (a11:Int) (a14:Ae):Int:=bif(Ap a14) then a11 else a11
def R4 (a9:Int) (a14:Ae):Int:=bif(Ap a14) then a9 else a9
def RZ (a8:Int) (a14:Ae):Int:=bif(Ap a14) then a8 else a8
def RY (a7:Int) (a14:Ae):Int:=bif(Ap a14) then a7 else a7
def Vl (a6:Int) (a14:Ae):Int:=bif(Ap a14) then a6 else a6
def Vk (a5:Int) (a14:Ae):Int:=bif(Ap a14) then a5 else a5
def Vj (a4:Int) (a14:Ae):Int:=bif(Ap a14) then a4 else a4
def Vi (a3:Int) (a14:Ae):Int:=bif(Ap a14) then a3 else a3
def Vh (a2:Int) (a14:Ae):Int:=bif(Ap a14) then a2 else a2
def Vg (a1:Int) (a14:Ae):Int:=bif(Ap a14) then a1 else a1
def Vf (a0:Int) (a14:Ae):Int:=bif(Ap a14) then a0 else a0
def MW (a14:Ae):Bool:=!!bif(Ap a14) then true else false
def Ve (a10:List Int) (a14:Ae):List Int:=bif(Ap a14) then a10 else a10
def Vd (a0 a1 a2 a3 a4 a5 a6 a7 a8 a9:Int) (a10:List Int) (a11 ax:Int) (ay:Bool) (a14:Ae) (ba:List Ab) (a16:Bool) (a17:List Ae):List Ae:=bif(Ap a14) then a17++[[UInt8.ofNat (SG a0 a1 a2 a3 a4 a5 a6 a7 a8 a9 a10 a11 ax ay a14 ba a16 a17).toNat,UInt8.ofNat (SF a0 a1 a2 a3 a4 a5 a6 a7 a8 a9 a10 a11 ax ay a14 ba a16 a17).toNat,UInt8.ofNat (SE a0 a1 a2 a3 a4 a5 a6 a7 a8 a9 a10 a11 ax ay a14 ba a16 a17).toNat,UInt8.ofNat (SD a0 a1 a2 a3 a4 a5 a6 a7 a8 a9 a10 a11 ax ay a14 ba a16 a17).toNat,UInt8.ofNat (SC a0 a1 a2 a3 a4 a5 a6 a7 a8 a9 a10 a11 ax ay a14 ba a16 a17).toNat,UInt8.ofNat (SB a0 a1 a2 a3 a4 a5 a6 a7 a8 a9 a10 a11 ax ay a14 ba a16 a17).toNat,UInt8.ofNat (SA a0 a1 a2 a3 a4 a5 a6 a7 a8 a9 a10 a11 ax ay a14 ba a16 a17).toNat,UInt8.ofNat (Sz a0 a1 a2 a3 a4 a5 a6 a7 a8 a9 a10 a11 ax ay a14 ba a16 a17).toNat,UInt8.ofNat (Sy a0 a1 a2 a3 a4 a5 a6 a7 a8 a9 a10 a11 ax ay a14 ba a16 a17).toNat,UInt8.ofNat (Sw a0 a1 a2 a3 a4 a5 a6 a7 a8 a9 a10 a11 ax ay a14 ba a16 a17).toNat,UInt8.ofNat (Sv a14).toNat,UInt8.ofNat (Su a14).toNat,UInt8.ofNat (Ss a14).toNat,UInt8.ofNat (Sq a14).toNat,UInt8.ofNat (Sp a14).toNat,UInt8.ofNat (So a14).toNat,UInt8.ofNat (Sn a14).toNat,UInt8.ofNat (Sm a14).toNat,UInt8.ofNat (Sl a14).toNat,UInt8.ofNat (Sk a14).toNat,UInt8.ofNat (Sj a14).toNat,UInt8.ofNat (Si a14).toNat,UInt8.ofNat (Sh a14).toNat,UInt8.ofNat (Sg a14).toNat,UInt8.ofNat (Sf a14).toNat,UInt8.ofNat (Se a14).toNat,UInt8.ofNat (Sd a14).toNat,UInt8.ofNat (Sc a14).toNat,UInt8.ofNat (Sb a14).toNat,UInt8.ofNat (Sa a14).toNat,UInt8.ofNat (R9 a14).toNat,UInt8.ofNat (R8 a14).toNat]] else a17
def Aiv (a0:Int) (a14:Ae):Int:=(Vf a0 a14)
def Aiw (a1:Int) (a14:Ae):Int:=(Vg a1 a14)
def Aix (a2:Int) (a14:Ae):Int:=(Vh a2 a14)
def Aiy (a3:Int) (a14:Ae):Int:=(Vi a3 a14)
def Aiz (a4:Int) (a14:Ae):Int:=(Vj a4 a14)
def Ai0 (a5:Int) (a14:Ae):Int:=(Vk a5 a14)
def Ai1 (a6:Int) (a14:Ae):Int:=(Vl a6 a14)
def Ai2 (a7:Int) (a14:Ae):Int:=(RY a7 a14)
def Ai3 (a8:Int) (a14:Ae):Int:=(RZ a8 a14)
def Ai4 (a9:Int) (a14:Ae):Int:=(R4 a9 a14)
def Acu (a10:List Int) (a14:Ae):List Int:=(Ve a10 a14)
def Acv (a11:Int) (a14:Ae):Int:=(R5 a11 a14)
def Acw (ax:Int) (a14:Ae):Int:=(R6 ax a14)
def Acx (ay:Bool) (a14:Ae):Bool:=(R7 ay a14)
def Acy (a14:Ae):Ae:=List.take ((a14.length:Int).toNat - 32) (List.drop 32 a14)
def Acz (a0 a1 a2 a3 a4 a5 a6 a7 a8 a9:Int) (a10:List Int) (a11 ax:Int) (ay:Bool) (a14:Ae) (ba:List Ab) (a16:Bool) (a17:List Ae):List Ae:=(Vd a0 a1 a2 a3 a4 a5 a6 a7 a8 a9 a10 a11 ax ay a14 ba a16 a17)
def Bdt (a14:Ae):Bool:=(MW a14)
def Bdu (a14:Ae):Bool:=!bif(Ap a14) then true else false
def Ac0 (a0:Int) (a14:Ae):Int:=(Vf a0 a14)
def Ac1 (a1:Int) (a14:Ae):Int:=(Vg a1 a14)
def Ac2 (a2:Int) (a14:Ae):Int:=(Vh a2 a14)
def Ac3 (a3:Int) (a14:Ae):Int:=(Vi a3 a14)
def Ac4 (a4:Int) (a14:Ae):Int:=(Vj a4 a14)
def Ac5 (a5:Int) (a14:Ae):Int:=(Vk a5 a14)
def Ac6 (a6:Int) (a14:Ae):Int:=(Vl a6 a14)
def Ac7 (a7:Int) (a14:Ae):Int:=(RY a7 a14)
def Ac8 (a8:Int) (a14:Ae):Int:=(RZ a8 a14)
def Ac9 (a9:Int) (a14:Ae):Int:=(R4 a9 a14)
def Ada (a10:List Int) (a14:Ae):List Int:=(Ve a10 a14)
def Adb (a11:Int) (a14:Ae):Int:=(R5 a11 a14)
def Adc (ax:Int) (a14:Ae):Int:=(R6 ax a14)
def Ade (ay:Bool) (a14:Ae):Bool:=(R7 ay a14)
def Adf (a0 a1 a2 a3 a4 a5 a6 a7 a8 a9:Int) (a10:List Int) (a11 ax:Int) (ay:Bool) (a14:Ae) (ba:List Ab) (a16:Bool) (a17:List Ae):List Ae:=(Vd a0 a1 a2 a3 a4 a5 a6 a7 a8 a9 a10 a11 ax ay a14 ba a16 a17)
def JP:NF→NF
  |(a0,a1,a2,a3,a4,a5,a6,a7,a8,a9,a10,a11,ax,ay,a14,ba,a16,a17)=>(Aiv a0 a14,Aiw a1 a14,Aix a2 a14,Aiy a3 a14,Aiz a4 a14,Ai0 a5 a14,Ai1 a6 a14,Ai2 a7 a14,Ai3 a8 a14,Ai4 a9 a14,Acu a10 a14,Acv a11 a14,Acw ax a14,Acx ay a14,Acy a14,ba,a16,Acz a0 a1 a2 a3 a4 a5 a6 a7 a8 a9 a10 a11 ax ay a14 ba a16 a17)
def MX (x:NF):El:=some (Bdt x.2.2.2.2.2.2.2.2.2.2.2.2.2.2.1)
def A72 (a14:Ae):=(MW a14)=true→(0:Int)≤32∧32≤(a14.length:Int)∧(a14.length:Int)≤(a14.length:Int)
def Azx:NF→List Prop
  |(a0,a1,a2,a3,a4,a5,a6,a7,a8,a9,a10,a11,ax,ay,a14,ba,a16,a17)=>[((Ap a14)=true→(0:Int)≤0∧(0:Int)≤32∧32≤(a14.length:Int)),((Ap a14)=true→32≤(BA a14).length),((Ap a14)=true→Af (a17.length+1)),((Ap a14)=true→0≤(R8 a14)∧(R8 a14) <256),((Ap a14)=true→0≤(R9 a14)∧(R9 a14) <256),((Ap a14)=true→0≤(Sa a14)∧(Sa a14) <256),((Ap a14)=true→0≤(Sb a14)∧(Sb a14) <256),((Ap a14)=true→0≤(Sc a14)∧(Sc a14) <256),((Ap a14)=true→0≤(Sd a14)∧(Sd a14) <256),((Ap a14)=true→0≤(Se a14)∧(Se a14) <256),((Ap a14)=true→0≤(Sf a14)∧(Sf a14) <256),((Ap a14)=true→0≤(Sg a14)∧(Sg a14) <256),((Ap a14)=true→0≤(Sh a14)∧(Sh a14) <256),((Ap a14)=true→0≤(Si a14)∧(Si a14) <256),((Ap a14)=true→0≤(Sj a14)∧(Sj a14) <256),((Ap a14)=true→0≤(Sk a14)∧(Sk a14) <256),((Ap a14)=true→0≤(Sl a14)∧(Sl a14) <256),((Ap a14)=true→0≤(Sm a14)∧(Sm a14) <256),((Ap a14)=true→0≤(Sn a14)∧(Sn a14) <256),((Ap a14)=true→0≤(So a14)∧(So a14) <256),((Ap a14)=true→0≤(Sp a14)∧(Sp a14) <256),((Ap a14)=true→0≤(Sq a14)∧(Sq a14) <256),((Ap a14)=true→0≤(Ss a14)∧(Ss a14) <256),((Ap a14)=true→0≤(Su a14)∧(Su a14) <256),((Ap a14)=true→0≤(Sv a14)∧(Sv a14) <256),((Ap a14)=true→0≤(Sw a0 a1 a2 a3 a4 a5 a6 a7 a8 a9 a10 a11 ax ay a14 ba a16 a17)∧(Sw a0 a1 a2 a3 a4 a5 a6 a7 a8 a9 a10 a11 ax ay a14 ba a16 a17) <256),((Ap a14)=true→0≤(Sy a0 a1 a2 a3 a4 a5 a6 a7 a8 a9 a10 a11 ax ay a14 ba a16 a17)∧(Sy a0 a1 a2 a3 a4 a5 a6 a7 a8 a9 a10 a11 ax ay a14 ba a16 a17) <256),((Ap a14)=true→0≤(Sz a0 a1 a2 a3 a4 a5 a6 a7 a8 a9 a10 a11 ax ay a14 ba a16 a17)∧(Sz a0 a1 a2 a3 a4 a5 a6 a7 a8 a9 a10 a11 ax ay a14 ba a16 a17) <256),((Ap a14)=true→0≤(SA a0 a1 a2 a3 a4 a5 a6 a7 a8 a9 a10 a11 ax ay a14 ba a16 a17)∧(SA a0 a1 a2 a3 a4 a5 a6 a7 a8 a9 a10 a11 ax ay a14 ba a16 a17) <256),((Ap a14)=true→0≤(SB a0 a1 a2 a3 a4 a5 a6 a7 a8 a9 a10 a11 ax ay a14 ba a16 a17)∧(SB a0 a1 a2 a3 a4 a5 a6 a7 a8 a9 a10 a11 ax ay a14 ba a16 a17) <256),((Ap a14)=true→0≤(SC a0 a1 a2 a3 a4 a5 a6 a7 a8 a9 a10 a11 ax ay a14 ba a16 a17)∧(SC a0 a1 a2 a3 a4 a5 a6 a7 a8 a9 a10 a11 ax ay a14 ba a16 a17) <256),((Ap a14)=true→0≤(SD a0 a1 a2 a3 a4 a5 a6 a7 a8 a9 a10 a11 ax ay a14 ba a16 a17)∧(SD a0 a1 a2 a3 a4 a5 a6 a7 a8 a9 a10 a11 ax ay a14 ba a16 a17) <256),((Ap a14)=true→0≤(SE a0 a1 a2 a3 a4 a5 a6 a7 a8 a9 a10 a11 ax ay a14 ba a16 a17)∧(SE a0 a1 a2 a3 a4 a5 a6 a7 a8 a9 a10 a11 ax ay a14 ba a16 a17) <256),((Ap a14)=true→0≤(SF a0 a1 a2 a3 a4 a5 a6 a7 a8 a9 a10 a11 ax ay a14 ba a16 a17)∧(SF a0 a1 a2 a3 a4 a5 a6 a7 a8 a9 a10 a11 ax ay a14 ba a16 a17) <256),((Ap a14)=true→0≤(SG a0 a1 a2 a3 a4 a5 a6 a7 a8 a9 a10 a11 ax ay a14 ba a16 a17)∧(SG a0 a1 a2 a3 a4 a5 a6 a7 a8 a9 a10 a11 ax ay a14 ba a16 a17) <256),(false=false),(A72 a14)]
def Xq:NF→List Prop
  |(_,_,_,_,_,_,_,_,_,_,_,_,_,_,a14,_,_,a17)=>[((Ap a14)=true→(0:Int)≤0∧(0:Int)≤32∧32≤(a14.length:Int)),((Ap a14)=true→32≤(BA a14).length),((Ap a14)=true→Af (a17.length+1)),(A72 a14)]
def Bdv:NF→BD
  |(a0,a1,a2,a3,a4,a5,a6,a7,a8,a9,a10,a11,ax,ay,a14,ba,a16,a17)=>[(some 0,some (Bdu a14),⟨28,13,[],[(6,some (.lp 13 3 [11] [.own 2 0] 0)),(2,some (.box 34 [.v (.int .i64 (Ac0 a0 a14)),.v (.int .i64 (Ac1 a1 a14)),.v (.int .i64 (Ac2 a2 a14)),.v (.int .i64 (Ac3 a3 a14)),.v (.int .i64 (Ac4 a4 a14)),.v (.int .i64 (Ac5 a5 a14)),.v (.int .i64 (Ac6 a6 a14)),.v (.int .i64 (Ac7 a7 a14)),.v (.slice none 0 0),.v (.int .i64 (Ac8 a8 a14)),.v (.int .i64 (Ac9 a9 a14)),.sl .i64 (Ada a10 a14),.sq 12,.v (.slice none 0 0),.v (.int .i64 (Adb a11 a14)),.v (.int .i64 (Adc ax a14)),.v (.bool (Ade ay a14))])),(12,some (.arr 58 32 (.ty .digest (Adf a0 a1 a2 a3 a4 a5 a6 a7 a8 a9 a10 a11 ax ay a14 ba a16 a17)))),(5,some (.box 79 [.own 1 0])),(1,some (.box 81 [.sl .u8 a14,.sl .group ba,.v (.bool a16)]))]⟩)]
def Vm (x:NF):Nat:=x.2.2.2.2.2.2.2.2.2.2.2.2.2.2.1.length/32
def Azy (x:NF):NF:=Bh JP MX (Vm x) x
theorem Bqc (a0 a1 a2 a3 a4 a5 a6 a7 a8 a9:Int) (a10:List Int) (a11 ax:Int) (ay:Bool) (a14:Ae) (ba:List Ab) (a16:Bool) (a17:List Ae) (hp:∀p∈Xq (a0,a1,a2,a3,a4,a5,a6,a7,a8,a9,a10,a11,ax,ay,a14,ba,a16,a17),p):∀p∈Azx (a0,a1,a2,a3,a4,a5,a6,a7,a8,a9,a10,a11,ax,ay,a14,ba,a16,a17),p:=
  (nT hp fun hp=>nT hp fun hp=>nT hp fun hp=>Aa (by intros;exact MM _) (Aa (by intros;exact MM _) (Aa (by intros;exact MM _) (Aa (by intros;exact MM _) (Aa (by intros;exact MM _) (Aa (by intros;exact MM _) (Aa (by intros;exact MM _) (Aa (by intros;exact MM _) (Aa (by intros;exact MM _) (Aa (by intros;exact MM _) (Aa (by intros;exact MM _) (Aa (by intros;exact MM _) (Aa (by intros;exact MM _) (Aa (by intros;exact MM _) (Aa (by intros;exact MM _) (Aa (by intros;exact MM _) (Aa (by intros;exact MM _) (Aa (by intros;exact MM _) (Aa (by intros;exact MM _) (Aa (by intros;exact MM _) (Aa (by intros;exact MM _) (Aa (by intros;exact MM _) (Aa (by intros;exact MM _) (Aa (by intros;exact MM _) (Aa (by intros;exact MM _) (Aa (by intros;exact MM _) (Aa (by intros;exact MM _) (Aa (by intros;exact MM _) (Aa (by intros;exact MM _) (Aa (by intros;exact MM _) (Aa (by intros;exact MM _) (Aa (by intros;exact MM _) (Aa (by first|rfl|decide+kernel) (nT hp fun _=>Ag))))))))))))))))))))))))))))))))))
def Bl9:=Jt (Co A1u.1 L0) (Aw AP 85 0) Bvl Bvk A73 Vm JP MX Xq Bdv
def Bis:=V8 0 (g:=Bl9) (BX (T:=Bvm) (psA:=Azx) A1u.2 AF (u:=9) (by kernel_rfl) (by decide) (fun⟨a0,a1,a2,a3,a4,a5,a6,a7,a8,a9,a10,a11,ax,ay,a14,ba,a16,a17⟩=>by kernel_rfl) (fun⟨a0,a1,a2,a3,a4,a5,a6,a7,a8,a9,a10,a11,ax,ay,a14,ba,a16,a17⟩=>Bqc a0 a1 a2 a3 a4 a5 a6 a7 a8 a9 a10 a11 ax ay a14 ba a16 a17) (fun s x h=>by unfold A73 at h;split at h<;>first|(cases h;rfl)|cases h) (fun _=>A9 (n:=28) rfl) fun _ _=>rfl) ⟨L0,AF⟩
def ME (a0:Ae) (a1:List Ab) (a2:Bool) (a3 a4:Int) (a5:List Int):=Azy (a3,a4,0,0,0,0,0,0,0,0,a5,0,0,false,a0,a1,a2,[])
def A2s (a0:Ae) (a1:List Ab) (a2:Bool) (a3 a4:Int) (a5:List Int):Int:=(ME a0 a1 a2 a3 a4 a5).1
def A2r (a0:Ae) (a1:List Ab) (a2:Bool) (a3 a4:Int) (a5:List Int):Int:=(ME a0 a1 a2 a3 a4 a5).2.1
def A2q (a0:Ae) (a1:List Ab) (a2:Bool) (a3 a4:Int) (a5:List Int):Int:=(ME a0 a1 a2 a3 a4 a5).2.2.1
def A2p (a0:Ae) (a1:List Ab) (a2:Bool) (a3 a4:Int) (a5:List Int):Int:=(ME a0 a1 a2 a3 a4 a5).2.2.2.1
def A2o (a0:Ae) (a1:List Ab) (a2:Bool) (a3 a4:Int) (a5:List Int):Int:=(ME a0 a1 a2 a3 a4 a5).2.2.2.2.1
def A2n (a0:Ae) (a1:List Ab) (a2:Bool) (a3 a4:Int) (a5:List Int):Int:=(ME a0 a1 a2 a3 a4 a5).2.2.2.2.2.1
def A2m (a0:Ae) (a1:List Ab) (a2:Bool) (a3 a4:Int) (a5:List Int):Int:=(ME a0 a1 a2 a3 a4 a5).2.2.2.2.2.2.1
def A2l (a0:Ae) (a1:List Ab) (a2:Bool) (a3 a4:Int) (a5:List Int):Int:=(ME a0 a1 a2 a3 a4 a5).2.2.2.2.2.2.2.1
def Bir (a0:Ae) (a1:List Ab) (a2:Bool) (a3 a4:Int) (a5:List Int):Int:=(ME a0 a1 a2 a3 a4 a5).2.2.2.2.2.2.2.2.1
def Biq (a0:Ae) (a1:List Ab) (a2:Bool) (a3 a4:Int) (a5:List Int):Int:=(ME a0 a1 a2 a3 a4 a5).2.2.2.2.2.2.2.2.2.1
def Bip (a0:Ae) (a1:List Ab) (a2:Bool) (a3 a4:Int) (a5:List Int):List Int:=(ME a0 a1 a2 a3 a4 a5).2.2.2.2.2.2.2.2.2.2.1
def Bio (a0:Ae) (a1:List Ab) (a2:Bool) (a3 a4:Int) (a5:List Int):Int:=(ME a0 a1 a2 a3 a4 a5).2.2.2.2.2.2.2.2.2.2.2.1
def Bin (a0:Ae) (a1:List Ab) (a2:Bool) (a3 a4:Int) (a5:List Int):Int:=(ME a0 a1 a2 a3 a4 a5).2.2.2.2.2.2.2.2.2.2.2.2.1
def Bim (a0:Ae) (a1:List Ab) (a2:Bool) (a3 a4:Int) (a5:List Int):Bool:=(ME a0 a1 a2 a3 a4 a5).2.2.2.2.2.2.2.2.2.2.2.2.2.1
def NE (a0:Ae) (a1:List Ab) (a2:Bool) (a3 a4:Int) (a5:List Int):Ae:=(ME a0 a1 a2 a3 a4 a5).2.2.2.2.2.2.2.2.2.2.2.2.2.2.1
def A71 (a0:Ae) (a1:List Ab) (a2:Bool) (a3 a4:Int) (a5:List Int):List Ab:=(ME a0 a1 a2 a3 a4 a5).2.2.2.2.2.2.2.2.2.2.2.2.2.2.2.1
def Bqb (a0:Ae) (a1:List Ab) (a2:Bool) (a3 a4:Int) (a5:List Int):List Ae:=(ME a0 a1 a2 a3 a4 a5).2.2.2.2.2.2.2.2.2.2.2.2.2.2.2.2.2
def Azw (a0:Ae) (a1:List Ab) (a2:Bool) (a3 a4:Int) (a5:List Int):Bool:=(ME a0 a1 a2 a3 a4 a5).2.2.2.2.2.2.2.2.2.2.2.2.2.2.2.2.1
def B08 (a0:Ae) (a1:List Ab) (a2:Bool) (a3 a4:Int) (a5:List Int):List Ae:=Adf (A2s a0 a1 a2 a3 a4 a5) (A2r a0 a1 a2 a3 a4 a5) (A2q a0 a1 a2 a3 a4 a5) (A2p a0 a1 a2 a3 a4 a5) (A2o a0 a1 a2 a3 a4 a5) (A2n a0 a1 a2 a3 a4 a5) (A2m a0 a1 a2 a3 a4 a5) (A2l a0 a1 a2 a3 a4 a5) (Bir a0 a1 a2 a3 a4 a5) (Biq a0 a1 a2 a3 a4 a5) (Bip a0 a1 a2 a3 a4 a5) (Bio a0 a1 a2 a3 a4 a5) (Bin a0 a1 a2 a3 a4 a5) (Bim a0 a1 a2 a3 a4 a5) (NE a0 a1 a2 a3 a4 a5) (A71 a0 a1 a2 a3 a4 a5) (Azw a0 a1 a2 a3 a4 a5) (Bqb a0 a1 a2 a3 a4 a5)
def B09 (a0:Ae) (a1:List Ab) (a2:Bool) (a3 a4:Int) (a5:List Int):Int:=Ac0 (A2s a0 a1 a2 a3 a4 a5) (NE a0 a1 a2 a3 a4 a5)
def B1a (a0:Ae) (a1:List Ab) (a2:Bool) (a3 a4:Int) (a5:List Int):Int:=Ac1 (A2r a0 a1 a2 a3 a4 a5) (NE a0 a1 a2 a3 a4 a5)
def B1b (a0:Ae) (a1:List Ab) (a2:Bool) (a3 a4:Int) (a5:List Int):Int:=Ac2 (A2q a0 a1 a2 a3 a4 a5) (NE a0 a1 a2 a3 a4 a5)
def B1c (a0:Ae) (a1:List Ab) (a2:Bool) (a3 a4:Int) (a5:List Int):Int:=Ac3 (A2p a0 a1 a2 a3 a4 a5) (NE a0 a1 a2 a3 a4 a5)
def B1d (a0:Ae) (a1:List Ab) (a2:Bool) (a3 a4:Int) (a5:List Int):Int:=Ac4 (A2o a0 a1 a2 a3 a4 a5) (NE a0 a1 a2 a3 a4 a5)
def B1e (a0:Ae) (a1:List Ab) (a2:Bool) (a3 a4:Int) (a5:List Int):Int:=Ac5 (A2n a0 a1 a2 a3 a4 a5) (NE a0 a1 a2 a3 a4 a5)
def B1f (a0:Ae) (a1:List Ab) (a2:Bool) (a3 a4:Int) (a5:List Int):Int:=Ac6 (A2m a0 a1 a2 a3 a4 a5) (NE a0 a1 a2 a3 a4 a5)
def B1g (a0:Ae) (a1:List Ab) (a2:Bool) (a3 a4:Int) (a5:List Int):Int:=Ac7 (A2l a0 a1 a2 a3 a4 a5) (NE a0 a1 a2 a3 a4 a5)
def B1h (a0:Ae) (a1:List Ab) (a2:Bool) (a3 a4:Int) (a5:List Int):Int:=Ac8 (Bir a0 a1 a2 a3 a4 a5) (NE a0 a1 a2 a3 a4 a5)
def Bp4 (a0:Ae) (a1:List Ab) (a2:Bool) (a3 a4:Int) (a5:List Int):Int:=Ac9 (Biq a0 a1 a2 a3 a4 a5) (NE a0 a1 a2 a3 a4 a5)
def Bp5 (a0:Ae) (a1:List Ab) (a2:Bool) (a3 a4:Int) (a5:List Int):List Int:=Ada (Bip a0 a1 a2 a3 a4 a5) (NE a0 a1 a2 a3 a4 a5)
def Bp6 (a0:Ae) (a1:List Ab) (a2:Bool) (a3 a4:Int) (a5:List Int):Int:=Adb (Bio a0 a1 a2 a3 a4 a5) (NE a0 a1 a2 a3 a4 a5)
def Bp7 (a0:Ae) (a1:List Ab) (a2:Bool) (a3 a4:Int) (a5:List Int):Int:=Adc (Bin a0 a1 a2 a3 a4 a5) (NE a0 a1 a2 a3 a4 a5)
def Bp8 (a0:Ae) (a1:List Ab) (a2:Bool) (a3 a4:Int) (a5:List Int):Bool:=Ade (Bim a0 a1 a2 a3 a4 a5) (NE a0 a1 a2 a3 a4 a5)
def Bp9 (a0:Ae) (a1:List Ab) (a2:Bool) (a3 a4:Int) (a5:List Int):Ae:=(NE a0 a1 a2 a3 a4 a5)
def Bqa (a0:Ae) (a1:List Ab) (a2:Bool) (a3 a4:Int) (a5:List Int):List Ab:=(A71 a0 a1 a2 a3 a4 a5)
def B5g (_a0:Ae) (_a1:List Ab) (_a2:Bool) (_a3 _a4:Int) (_a5:List Int):A:=.v (.tuple ⟨[]⟩)
def Bdw (a0:Ae) (a1:List Ab) (a2:Bool) (a3 a4:Int) (a5:List Int):AE:=[(7,some (.arr 58 32 (.ty .digest (B08 a0 a1 a2 a3 a4 a5)))),(6,some (.lp 13 3 [11] [.own 2 0] 0)),(2,some (.box 34 [iV (B09 a0 a1 a2 a3 a4 a5),iV (B1a a0 a1 a2 a3 a4 a5),iV (B1b a0 a1 a2 a3 a4 a5),iV (B1c a0 a1 a2 a3 a4 a5),iV (B1d a0 a1 a2 a3 a4 a5),iV (B1e a0 a1 a2 a3 a4 a5),iV (B1f a0 a1 a2 a3 a4 a5),iV (B1g a0 a1 a2 a3 a4 a5),.v (.slice none 0 0),iV (B1h a0 a1 a2 a3 a4 a5),iV (Bp4 a0 a1 a2 a3 a4 a5),.sl .i64 (Bp5 a0 a1 a2 a3 a4 a5),.sq 7,.v (.slice none 0 0),iV (Bp6 a0 a1 a2 a3 a4 a5),iV (Bp7 a0 a1 a2 a3 a4 a5),.v (.bool (Bp8 a0 a1 a2 a3 a4 a5))])),(5,some (.box 79 [.own 1 0])),(1,some (.box 81 [.sl .u8 (Bp9 a0 a1 a2 a3 a4 a5),.sl .group (Bqa a0 a1 a2 a3 a4 a5),.v (.bool (Azw a0 a1 a2 a3 a4 a5))])),(4,none)]
def Bqd (a0:Ae) (a1:List Ab) (a2:Bool) (a3 a4:Int) (a5:List Int):List Prop:=[(A8 JP MX Xq (Vm (a3,a4,0,0,0,0,0,0,0,0,a5,0,0,false,a0,a1,a2,[])) (a3,a4,0,0,0,0,0,0,0,0,a5,0,0,false,a0,a1,a2,[]))]
theorem B5f (a0:Ae) (a1:List Ab) (a2:Bool) (a3 a4:Int) (a5:List Int):A8d (Co A1u.1 Bis.1) 9 85 [.yl 6,.own 5 0] 7 [(1,some (.box 81 [.sl .u8 a0,.sl .group a1,.v (.bool a2)])),(2,some (.box 34 [iV a3,iV a4,iV 0,iV 0,iV 0,iV 0,iV 0,iV 0,.v (.slice none 0 0),iV 0,iV 0,.sq 4,.v (.slice none 0 0),.v (.slice none 0 0),iV 0,iV 0,.v (.bool false)])),(4,some (.arr 3 1 (.ty .i64 a5))),(5,some (.box 79 [.own 1 0])),(6,some (.lp 13 3 [11] [.own 2 0] 0))]=some (2,B5g a0 a1 a2 a3 a4 a5,8,Bdw a0 a1 a2 a3 a4 a5,[(Aw AP 85 0=Aw AP 85 0),(A8 JP MX Xq (Vm (a3,a4,0,0,0,0,0,0,0,0,a5,0,0,false,a0,a1,a2,[])) (a3,a4,0,0,0,0,0,0,0,0,a5,0,0,false,a0,a1,a2,[]))]):=by kernel_rfl
theorem B7i (a0:Ae) (a1:List Ab) (a2:Bool) (a3 a4:Int) (a5:List Int) (hp:∀p∈Bqd a0 a1 a2 a3 a4 a5,p):An AP 85 [.yl 6,.own 5 0] 7 [(1,some (.box 81 [.sl .u8 a0,.sl .group a1,.v (.bool a2)])),(2,some (.box 34 [iV a3,iV a4,iV 0,iV 0,iV 0,iV 0,iV 0,iV 0,.v (.slice none 0 0),iV 0,iV 0,.sq 4,.v (.slice none 0 0),.v (.slice none 0 0),iV 0,iV 0,.v (.bool false)])),(4,some (.arr 3 1 (.ty .i64 a5))),(5,some (.box 79 [.own 1 0])),(6,some (.lp 13 3 [11] [.own 2 0] 0))] 2 (B5g a0 a1 a2 a3 a4 a5) 8 (Bdw a0 a1 a2 a3 a4 a5):=
  Zy (Au A1u.2 Bis.2) (B5f a0 a1 a2 a3 a4 a5) (Aa rfl (nT hp fun _=>Ag))
end Go.Proofs.YtifkbgkbajncjaaGreatDoor

