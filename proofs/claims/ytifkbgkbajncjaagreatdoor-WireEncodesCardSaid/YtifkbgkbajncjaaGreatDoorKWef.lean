/- made by a program (rowgen.py): WireEncodes: for every input the law returns true, and each argument reads behind the call as it read before. -/
import Derived.Test.YtifkbgkbajncjaaGreatDoorKWee

set_option maxRecDepth 100000
namespace Go.Proofs.YtifkbgkbajncjaaGreatDoor
open Go.RowKit
def SG (_a0:List UInt8) (_a1:Int) (a2:TCell):Bool:=!((bif AZ a2 then bif !a2.3 then a2.5.1 else a2.5.1 else a2.5.1)==(0:Int)&&(bif AZ a2 then bif !a2.3 then a2.5.2 else a2.5.2 else a2.5.2)==(0:Int))
def Ir (_a0:List UInt8) (_a1:Int) (a2:TCell):Int:=bif a2.3 then IntKind.i64.wrap ((bif AZ a2 then(1:Int) else(0:Int))+(2:Int)) else bif AZ a2 then(1:Int) else(0:Int)
def Kc (a0:List UInt8) (a1:Int) (a2:TCell):List UInt8:=a0++Ap (bif !(a2.5.1==(0:Int)&&a2.5.2==(0:Int)) then IntKind.i64.wrap ((Ir a0 a1 a2)+(4:Int)) else(Ir a0 a1 a2))++P8 a2.1
def Lz (a0:List UInt8) (a1:Int) (a2:TCell):List UInt8:=bif AZ a2 then bif !a2.3 then(Kc a0 a1 a2)++Ic a2.2++Iq a2.4 else(Kc a0 a1 a2)++Ic a2.2 else a0++Ap (bif !(a2.5.1==(0:Int)&&a2.5.2==(0:Int)) then IntKind.i64.wrap ((Ir a0 a1 a2)+(4:Int)) else(Ir a0 a1 a2))
def Af5 (a0:List UInt8) (a1:Int) (a2:TCell):List UInt8:=bif !FP a1 a2 then[]++a0 else bif(SG a0 a1 a2) then(Lz a0 a1 a2)++Ic (TVec.mk (bif AZ a2 then bif !a2.3 then a2.5.1 else a2.5.1 else a2.5.1) (bif AZ a2 then bif !a2.3 then a2.5.2 else a2.5.2 else a2.5.2)) else(Lz a0 a1 a2)
def Ay8 (_a0:List UInt8) (_a1:Int) (_a2:TCell):A:=.sq 0
def WI (a0:List UInt8) (a1:Int) (a2:TCell):Objs:=[(0,some (.arr 5 1 (.ty .u8 (Af5 a0 a1 a2))))]
def Aru (a0:List UInt8) (a1:Int) (a2:TCell):List Prop:=[((!FP a1 a2)=true→Ad ((0:Nat)+a0.length)),((!!FP a1 a2)=true→Ad (a0.length+(8:Nat))),((!!FP a1 a2)=true→AZ a2=true→Ad ((a0++Ap (bif !(a2.5.1==(0:Int)&&a2.5.2==(0:Int)) then IntKind.i64.wrap ((Ir a0 a1 a2)+(4:Int)) else(Ir a0 a1 a2))).length+(8:Nat))),((!!FP a1 a2)=true→AZ a2=true→Ad ((Kc a0 a1 a2).length+(16:Nat))),((!!FP a1 a2)=true→AZ a2=true→(!a2.3)=true→Ad (((Kc a0 a1 a2)++Ic a2.2).length+(8:Nat)+a2.4.size)),((!!FP a1 a2)=true→(SG a0 a1 a2)=true→Ad ((Lz a0 a1 a2).length+(16:Nat)))]
theorem Bc5 (a0:List UInt8) (a1:Int) (a2:TCell):Hz (As Ce L0) 9 101 [Ai .bytes a0,Ai .i64 a1,Ai .cell a2] 0 []=some (1,Ay8 a0 a1 a2,1,WI a0 a1 a2,Aru a0 a1 a2):=by kernel_rfl
theorem Bi5 (a0:List UInt8) (a1:Int) (a2:TCell) (hp:∀p∈Aru a0 a1 a2,p):CallOk Tryz.prog 101 [Ai .bytes a0,Ai .i64 a1,Ai .cell a2] 0 [] 1 (Ay8 a0 a1 a2) 1 (WI a0 a1 a2):=AB (Ar Bsh AA) (Bc5 a0 a1 a2) hp
def Arv (_a0:List UInt8) (_a1:Int) (_a2:TCell):A:=.sq 0
def SH (a0:List UInt8) (a1:Int) (a2:TCell):Objs:=[(0,some (.arr 5 1 (.ty .u8 (a0++Y0 a1 a2))))]
def Aiu (a0:List UInt8) (_a1:Int) (_a2:TCell):List Prop:=[Ad (a0.length+128)]
theorem WH (a0:List UInt8) (a1:Int) (c:TCell):(bif !(c.5.1==(0:Int)&&c.5.2==(0:Int)) then IntKind.i64.wrap (Ir a0 a1 c+(4:Int)) else(Ir a0 a1 c))=KD c:=by
 unfold Ir KD
 rw[KZ]
 show(bif !(Jf c.dead) then _ else _)=_
 cases Fy c<;>cases c.gone<;>cases Jf c.dead<;>rfl
theorem Bc2 (a0:List UInt8) (a1:Int) (c:TCell):SG a0 a1 c=!Jf c.dead:=by
 unfold SG
 cases AZ c<;>cases c.3<;>rfl
theorem Bc4 (a0:List UInt8) (a1:Int) (c:TCell):Af5 a0 a1 c=a0++Y0 a1 c:=by
 unfold Af5 Lz Kc Y0 Bfk
 rw[Vy,WH,Bc2,KZ]
 have hd:∀w g:Bool,(TVec.mk (bif w then bif !g then c.5.1 else c.5.1 else c.5.1) (bif w then bif !g then c.5.2 else c.5.2 else c.5.2))=c.dead:=by intro w g;cases w<;>cases g<;>rfl
 rw[hd]
 cases Kn a1 c<;>cases Fy c<;>cases c.gone<;>cases Jf c.dead<;>simp
theorem Bc3 (a0:List UInt8) (a1:Int) (a2:TCell) (hp:∀p∈Aiu a0 a1 a2,p):CallOk Tryz.prog 101 [Ai .bytes a0,Ai .i64 a1,Ai .cell a2] 0 [] 1 (Arv a0 a1 a2) 1 (SH a0 a1 a2):=by
 have hb:Ad (a0.length+128):=hp _ (List.mem_cons_self ..)
 unfold Ad at hb
 have n8:=A3 (KD a2)
 have s8:=Afr a2.stamp
 have v16:=Ny a2.vec
 have t8:=P9 a2.value
 have k3:(Kc a0 a1 a2).length≤a0.length+16:=by
  unfold Kc
  rw[WH,List.length_append,List.length_append]
  omega
 have sz:(!!FP a1 a2)=true→AZ a2=true→a2.value.size≤64:=fun h1 h2=>by
  rw[Vy,Bool.not_not] at h1
  rw[KZ] at h2
  have:=((Aew.1 h1).st h2).2.2.2.1
  omega
 have h:=Bi5 a0 a1 a2 (Aa (fun _=>by unfold Ad;omega) (Aa (fun _=>by unfold Ad;omega) (Aa (fun _ _=>by rw[WH,List.length_append];unfold Ad;omega) (Aa (fun _ _=>by unfold Ad;omega) (Aa (fun h1 h2 _=>by
   have:=sz h1 h2
   rw[List.length_append];unfold Ad;omega) (Aa (fun h1 _=>by
   have:(Lz a0 a1 a2).length≤a0.length+112:=by
    unfold Lz
    rw[WH]
    cases hw:AZ a2 with
    |false=>rw[cond_false,List.length_append];omega
    |true=>
     have:=sz h1 hw
     rw[cond_true]
     cases a2.3 with
     |true=>simp only[Bool.not_true,cond_false,List.length_append];omega
     |false=>simp only[Bool.not_false,cond_true,List.length_append];omega
   unfold Ad;omega) Af))))))
 have ho:WI a0 a1 a2=SH a0 a1 a2:=by unfold WI SH;rw[Bc4]
 rw[ho] at h
 exact h
def Af6:List A→Nat→Objs→Option A6:=Bt [.t .bytes,.t .i64,.t .cell] 1 Arv SH Aiu
theorem Aiv:HF Tryz.prog 101 Af6:=Av (ks:=[.t .bytes,.t .i64,.t .cell]) Bc3
noncomputable def Bvj:=AS 101 Af6 Ce
theorem Bo3:Cr Tryz.prog Bvj:=An Aiv Bsh
noncomputable def Bvk:=Bvj
theorem Bo4:Cr Tryz.prog Bvk:=Bo3
noncomputable def Bvl:=Bvk
theorem Bo5:Cr Tryz.prog Bvl:=Bo4
noncomputable def Cg:=Bvl
theorem Bvm:Cr Tryz.prog Cg:=Bo5
end Go.Proofs.YtifkbgkbajncjaaGreatDoor
namespace Go.Proofs.YtifkbgkbajncjaaGreatDoor
open Go.RowKit
def ltS (a b:ByteArray):Bool:=Op.bytesLess a.toList b.toList
theorem RX:∀x:List UInt8,Op.bytesLess x x=false
 | []=>rfl
 |a::x=>by
  unfold Op.bytesLess
  rw[RX x]
  simp
theorem Ahc:∀{x y z:List UInt8},Op.bytesLess x y=true→Op.bytesLess y z=true→Op.bytesLess x z=true
 |x,[],_,h,_=>by cases x<;>cases h
 |_,_::_,[],_,h=>by cases h
 | [],_::_,_::_,_,_=>rfl
 |a::x,b::y,c::z,h,g=>by
  unfold Op.bytesLess at*
  simp only[Bool.or_eq_true,decide_eq_true_eq,Bool.and_eq_true,beq_iff_eq] at*
  rcases h with h|⟨rfl,h⟩<;>rcases g with g|⟨rfl,g⟩
  ·exact .inl (UInt8.lt_trans h g)
  ·exact .inl h
  ·exact .inl g
  ·exact .inr ⟨rfl,Ahc h g⟩
theorem Ahb:∀{x y:List UInt8},Op.bytesLess x y=false→x≠y→Op.bytesLess y x=true
 | [],[],_,h=>absurd rfl h
 | [],_::_,h,_=>by cases h
 |_::_,[],_,_=>rfl
 | a::x,b::y,h,g=>by
  unfold Op.bytesLess at*
  simp only[Bool.or_eq_true,Bool.or_eq_false_iff,decide_eq_true_eq,decide_eq_false_iff_not,Bool.and_eq_true,beq_iff_eq] at*
  obtain⟨h1,h2⟩:=h
  by_cases e:a=b
  ·subst e
   refine .inr ⟨rfl,Ahb (by simpa using h2) fun e=>g (by rw[e])⟩
  ·left
   have h1':¬a.toNat <b.toNat:=h1
   have h3:a.toNat≠b.toNat:=fun h=>e (UInt8.toNat_inj.1 h)
   show b.toNat <a.toNat
   omega
theorem Ayf {a b c:ByteArray} (h:ltS a b=true) (g:ltS b c=true):ltS a c=true:=Ahc h g
theorem Bms {a b:ByteArray} (h:ltS a b=true):a≠b:=by
 rintro rfl
 unfold ltS at h
 rw[RX] at h
 cases h
theorem Aye {a b:ByteArray} (h:ltS a b=false) (g:a≠b):ltS b a=true:=by
 refine Ahb h fun e=>g ?_
 have:(a.toList==b.toList)=true:=beq_iff_eq.2 e
 rw[tlb] at this
 exact eq_of_beq this
def Buu (l:List Ab) (i:Nat):Int:=(l.getD i (Ae TC.group)).policy
def Blf (cs:List TCell) (i:Nat):TCell:=cs.getD i (Ae TC.cell)
def NE (rows:List Ak) (i:Nat):Ak:=rows.getD i (Ae TC.row)
def S8 (rows:List Ak):Nat→ByteArray
 |0=>⟨#[]⟩
 |i+1=>(NE rows i).key
def leS (a b:ByteArray):Bool:=ltS a b||a==b
def Aa2 (l:List Ab) (rows:List Ak) (i:Nat):Int:=bif AI l (NE rows i) !=0 then AI l (NE rows i) else bif NT (NE rows i)||leS (NE rows i).key (S8 rows i) then 100 else 0
def Gf (l:List Ab) (rows:List Ak):Nat→Int
 |0=>0
 |i+1=>bif Gf l rows i !=0 then Gf l rows i else Aa2 l rows i
def S7 (l:List Ab) (rows:List Ak):Int:=bif Bi l !=0 then Bi l else Gf l rows rows.length
theorem Ao7 (l:List Ab) (rows:List Ak):∀n,Gf l rows n=0↔∀i,i <n→Aa2 l rows i=0
 |0=>⟨fun _ i h=>absurd h (Nat.not_lt_zero _),fun _=>rfl⟩
 | n +1=>by
  have ih:=Ao7 l rows n
  unfold Gf
  cases h:Gf l rows n !=0 with
  |true=>
   rw[cond_true]
   have h':Gf l rows n≠0:=by simpa using h
   exact⟨fun e=>absurd e h',fun e=>absurd (ih.2 fun i hi=>e i (by omega)) h'⟩
  | false=>
   rw[cond_false]
   have h':Gf l rows n=0:=by simpa using h
   constructor
   ·intro e i hi
    rcases Nat.lt_or_ge i n with g|g
    ·exact ih.1 h' i g
    ·obtain rfl:i=n:=by omega
     exact e
   ·intro e
    exact e n (Nat.lt_succ_self n)
theorem Uv {l:List Ab} {rows:List Ak} {k:Nat} (h:Gf l rows k≠0):∀n,k≤n→Gf l rows n=Gf l rows k
 |0,hn=>by
  obtain rfl:k=0:=by omega
  rfl
 | n+1,hn=>by
  rcases Nat.lt_or_ge n k with g|g
  ·obtain rfl:k=n+1:=by omega
   rfl
  ·have ih:=Uv h n g
   have hb:(Gf l rows k !=0)=true:=by simpa using h
   show(bif Gf l rows n !=0 then Gf l rows n else _)=_
   rw[ih,hb,cond_true]
def Bxh (rows:List Ak):Prop:=rows.Pairwise fun a b=>ltS a.key b.key=true
end Go.Proofs.YtifkbgkbajncjaaGreatDoor
namespace Go.Proofs.YtifkbgkbajncjaaGreatDoor
open Go.RowKit
def WV (l:List Ab) (cs:List TCell) (i:Nat):List UInt8:=((l.zip cs).take i).flatMap fun x=>Y0 x.1.policy x.2
theorem A56 {l:List Ab} {cs:List TCell} (hl:cs.length=l.length) {i:Nat} (hi:i <l.length):WV l cs (i+1)=WV l cs i++Y0 (Buu l i) (Blf cs i):=by
 unfold WV
 have hz:i <(l.zip cs).length:=by rw[List.length_zip];omega
 rw[List.take_add_one,List.getElem?_eq_getElem hz,List.flatMap_append,List.getElem_zip]
 have e1:l[i]=l.getD i (Ae TC.group):=by rw[List.getD_eq_getElem?_getD,List.getElem?_eq_getElem hi];rfl
 have e2:cs[i]=cs.getD i (Ae TC.cell):=by rw[List.getD_eq_getElem?_getD,List.getElem?_eq_getElem (by omega)];rfl
 rw[e1,e2]
 simp[Buu,Blf]
theorem Bfr {l:List Ab} {cs:List TCell} (hl:cs.length=l.length):WV l cs l.length=(l.zip cs).flatMap fun x=>Y0 x.1.policy x.2:=by
 unfold WV
 rw[List.take_of_length_le (by rw[List.length_zip];omega)]
end Go.Proofs.YtifkbgkbajncjaaGreatDoor
namespace Go.Proofs.YtifkbgkbajncjaaGreatDoor
open Go.RowKit
noncomputable def Bvw:=AS 21 WM Cl
theorem Bpc:Cr Tryz.prog Bvw:=An VX Be6
noncomputable def Bvx:=AS 100 Qa Bvw
theorem Bpd:Cr Tryz.prog Bvx:=An Tm Bpc
noncomputable def Bvy:=Bvx
theorem Bpe:Cr Tryz.prog Bvy:=Bpd
noncomputable def Bvz:=AS 101 Af6 Bvy
theorem Bpf:Cr Tryz.prog Bvz:=An Aiv Bpe
noncomputable def Bv0:=Bvz
theorem Bpg:Cr Tryz.prog Bv0:=Bpf
noncomputable def Bv1:=Bv0
theorem Bph:Cr Tryz.prog Bv1:=Bpg
noncomputable def Cx:=Bv1
theorem Bv2:Cr Tryz.prog Cx:=Bph
end Go.Proofs.YtifkbgkbajncjaaGreatDoor
namespace Go.Proofs.YtifkbgkbajncjaaGreatDoor
open Go.RowKit
noncomputable def Bsw:=Cx
theorem Bkz:Cr Tryz.prog Bsw:=Bv2
noncomputable def Cya:=Bsw
theorem Bk0:Cr Tryz.prog Cya:=Bkz
end Go.Proofs.YtifkbgkbajncjaaGreatDoor
namespace Go.Proofs.YtifkbgkbajncjaaGreatDoor
open Go.RowKit
abbrev C9:Type:=(List Ab)×Int×Ak×(List UInt8)
def NB (x:C9):St:=⟨39,3,[(1,.sl .group x.1),(5,.own 0 0),(7,.sq 2),(8,.v (.int .i64 x.2.1))],[(0,some (.box 62 [.v (.string x.2.2.1.key),.sl .cell x.2.2.1.cells])),(2,some (.arr 5 1 (.ty .u8 x.2.2.2)))]⟩
def Qf:St→Option C9
 |⟨39,3,[(1,.sl .group z0),(5,.own 0 0),(7,.sq 2),(8,.v (.int .i64 z1))],[(0,some (.box 62 [.v (.string z2),.sl .cell z3])),(2,some (.arr 5 1 (.ty .u8 z4)))]⟩=>some (z0,z1,⟨z2,z3⟩,z4)
 |_=>none
theorem Ame:∀s x,Qf s=some x→s=NB x:=fun s x h=>by
 unfold Qf at h
 split at h
 ·cases h;rfl
 ·cases h
def Ack:Cz:=⟨2,3,[1,5,7,8],[],[(0,0),(3,2)],[0,3],[7],[2,0]⟩
def A2n:CX:=⟨[],[(0,0),(1,2)],[1,5,7,8],[0,1]⟩
def Hn (a0:List Ab) (a1:Int) (_a2:Ak) (_a3:List UInt8):Bool:=!!decide (a1 <(↑a0.length:Int))
def OD (a0:List Ab) (a1:Int) (a2:Ak) (a3:List UInt8):List UInt8:=a3++Y0 (a0.getD a1.toNat (Ae TC.group)).2 (a2.2.getD a1.toNat (Ae TC.cell))
def FT (x:C9):C9:=(x.1,IntKind.i64.wrap (x.2.1+(1:Int)),x.2.2.1,OD x.1 x.2.1 x.2.2.1 x.2.2.2)
def FS (x:C9):Cnd:=some ((Hn x.1 x.2.1 x.2.2.1 x.2.2.2))
def OE (x:C9):List Prop:=[((Hn x.1 x.2.1 x.2.2.1 x.2.2.2)=true→(0:Int)≤x.2.1∧x.2.1 <(↑x.1.length:Int)),((Hn x.1 x.2.1 x.2.2.1 x.2.2.2)=true→(0:Int)≤x.2.1∧x.2.1 <(↑x.2.2.1.2.length:Int)),((Hn x.1 x.2.1 x.2.2.1 x.2.2.2)=true→Ad (x.2.2.2.length+(128:Nat)))]
abbrev IJ:C9→List Prop:=OE
def Tw (x:C9):AR:=[(some 0,some (!decide (x.2.1 <(↑x.1.length:Int))),⟨39,3,[(7,.sq 2)],[(2,some (.arr 5 1 (.ty .u8 x.2.2.2))),(0,some (.box 62 [.v (.string x.2.2.1.1),.sl .cell x.2.2.1.2]))]⟩)]
def Ho (x:C9):Nat:=((↑x.1.length:Int) - x.2.1).toNat
def VD (x:C9):C9:=AF FT FS (Ho x) x
theorem Av2 (a0:List Ab) (a1:Int) (a2:Ak) (a3:List UInt8):Ba (As Cya L0) 9 (Ag Tryz.prog 62 0) Ack (NB (a0,a1,a2,a3))=some (OE (a0,a1,a2,a3),Tw (a0,a1,a2,a3),FS (a0,a1,a2,a3),NB (FT (a0,a1,a2,a3))):=by kernel_rfl
theorem Av3 (a0:List Ab) (a1:Int) (a2:Ak) (a3:List UInt8) (hp:∀p∈IJ (a0,a1,a2,a3),p):∀p∈OE (a0,a1,a2,a3),p:=hp
noncomputable def VC:=HB (As Cya L0) (Ag Tryz.prog 62 0) Ack A2n Qf Ho FT FS IJ Tw
theorem Asj:∀s b ps outs,VC s=some (b,ps,outs)→Wf s ⟨ps,outs,none⟩∧Bg (As C0 L0) b s ps outs:=
 AT (T:=NB) Bk0 AA (u:=9) (by kernel_rfl) (by decide) (fun⟨a0,a1,a2,a3⟩=>Av2 a0 a1 a2 a3) (fun⟨a0,a1,a2,a3⟩=>Av3 a0 a1 a2 a3) Ame (fun _=>AD (n:=39) rfl) fun _ _=>rfl
noncomputable def Acj:=Dd 0 VC L0
theorem Asi:G9 Acj:=AH Asj AA
def G2 (_a0:List UInt8) (a1:List Ab) (a2:Ak):Bool:=AI a1 a2 !=(0:Int)
def Agd (a0:List UInt8) (a1:List Ab) (a2:Ak):List UInt8:=bif(G2 a0 a1 a2) then[]++a0 else(VD (a1,(0:Int),a2,a0++Iq a2.1)).snd.snd.snd
def Azd (_a0:List UInt8) (_a1:List Ab) (_a2:Ak):A:=.sq 0
def Age (a0:List UInt8) (a1:List Ab) (a2:Ak):Objs:=[(0,some (.arr 5 1 (.ty .u8 (Agd a0 a1 a2))))]
def Bdh (a0:List UInt8) (a1:List Ab) (a2:Ak):List Prop:=[(∀(g:Ab),g∈a1→Am g.1.size),((G2 a0 a1 a2)=true→Ad ((0:Nat)+a0.length)),((!(G2 a0 a1 a2))=true→Ad (a0.length+(8:Nat)+a2.1.size)),((!(G2 a0 a1 a2))=true→Ax FT FS IJ (Ho (a1,(0:Int),a2,a0++Iq a2.1)) (a1,(0:Int),a2,a0++Iq a2.1))]
theorem Bdg (a0:List UInt8) (a1:List Ab) (a2:Ak):Hz (As Cya Acj) 9 62 [Ai .bytes a0,.sl .group a1,Ai .row a2] 0 []=some (1,Azd a0 a1 a2,1,Age a0 a1 a2,[(∀(g:Ab),g∈a1→Am g.1.size),((G2 a0 a1 a2)=true→Ad ((0:Nat)+a0.length)),((!(G2 a0 a1 a2))=true→Ad (a0.length+(8:Nat)+a2.1.size)),((!(G2 a0 a1 a2))=true→Ag Tryz.prog (62:FuncId) (0:Nat)=Ag Tryz.prog (62:FuncId) (0:Nat)),((!(G2 a0 a1 a2))=true→Ax FT FS IJ (Ho (a1,(0:Int),a2,a0++Iq a2.1)) (a1,(0:Int),a2,a0++Iq a2.1))]):=by kernel_rfl
theorem Bi8 (a0:List UInt8) (a1:List Ab) (a2:Ak) (hp:∀p∈Bdh a0 a1 a2,p):CallOk Tryz.prog 62 [Ai .bytes a0,.sl .group a1,Ai .row a2] 0 [] 1 (Azd a0 a1 a2) 1 (Age a0 a1 a2):=by
 have n0:=N0 hp
 have n1:=N0 (N1 hp)
 have n2:=N0 (N1 (N1 hp))
 have n3:((!(G2 a0 a1 a2))=true→Ag Tryz.prog (62:FuncId) (0:Nat)=Ag Tryz.prog (62:FuncId) (0:Nat)):=by intros;rfl
 have n4:=N0 (N1 (N1 (N1 hp)))
 exact AB (Ar Bk0 Asi) (Bdg a0 a1 a2) (Aa n0 (Aa n1 (Aa n2 (Aa n3 (Aa n4 Af)))))
def Asl (_a0:List UInt8) (_a1:List Ab) (_a2:Ak):A:=.sq 0
def Ask (a0:List UInt8) (a1:List Ab) (a2:Ak):Objs:=[(0,some (.arr 5 1 (.ty .u8 (a0++HE a1 a2))))]
def Ai9 (a0:List UInt8) (a1:List Ab) (_a2:Ak):List Prop:=[Ad (a0.length+1024)∧∀g∈a1,Am g.name.size]
theorem A06 {l:List Ab} {cs:List TCell} (hl:cs.length=l.length):∀i,i≤l.length→(WV l cs i).length≤128*i
 |0,_=>by simp[WV]
 |i+1,hi=>by
  have:=A06 hl i (by omega)
  have h8:=Bg1 (Buu l i) (Blf cs i)
  rw[A56 hl (by omega),List.length_append]
  omega
theorem A2o (l:List Ab) (r:Ak) (pre:List UInt8) (hl:r.cells.length=l.length) (h4:l.length≤4) (hb:Ad (pre.length+640)):
  Ax FT FS IJ (Ho (l,0,r,pre)) (l,0,r,pre)∧
  VD (l,0,r,pre)=(l,(l.length:Int),r,pre++WV l r.cells l.length):=by
 unfold Ad at hb
 obtain⟨h1,k,hk,hx,_,hst,_⟩:=RJ (fun i=>(l,(i:Int),r,pre++WV l r.cells i):Nat→C9) l.length (fun _=>false) FT FS IJ (Ho (l,0,r,pre)) (l,0,r,pre) (by show _=(l,((0:Nat):Int),r,pre++WV l r.cells 0);simp[WV]) (by show l.length≤((l.length:Int) - 0).toNat;omega)
  (fun i _ _=>by
   show(!!decide ((i:Int) <(l.length:Int)))=_
   rw[nn,Mu,Bool.not_false,Bool.and_true])
  (fun i hi _=>by
   show(l,IntKind.i64.wrap ((i:Int)+1),r,OD l (i:Int) r (pre++WV l r.cells i))=(l,((i+1:Nat):Int),r,pre++WV l r.cells (i+1))
   unfold OD
   rw[Fz (by omega),Int.toNat_natCast,A56 hl hi,List.append_assoc]
   rfl)
  (fun i hi _=>by
   have hin:Hn l (i:Int) r (pre++WV l r.cells i)=true→i <l.length:=fun h=>by
    unfold Hn at h
    rw[nn] at h
    have:=of_decide_eq_true h
    omega
   refine Aa (fun h=>⟨by show(0:Int)≤(i:Int);omega,by have:=hin h;show(i:Int) <(l.length:Int);omega⟩) (Aa (fun h=>⟨by show(0:Int)≤(i:Int);omega,by have:=hin h;show(i:Int) <(r.cells.length:Int);omega⟩) (Aa (fun h=>?_) Af))
   have:=A06 hl i (by omega)
   show Ad ((pre++WV l r.cells i).length+128)
   rw[List.length_append]
   unfold Ad
   omega)
 have hkn:k=l.length:=by
  rcases Nat.lt_or_ge k l.length with h|h
  ·exact absurd (hst h) (by decide)
  ·omega
 subst hkn
 exact⟨h1,hx⟩
theorem Bdf (a0:List UInt8) (a1:List Ab) (a2:Ak) (hp:∀p∈Ai9 a0 a1 a2,p):CallOk Tryz.prog 62 [Ai .bytes a0,.sl .group a1,Ai .row a2] 0 [] 1 (Asl a0 a1 a2) 1 (Ask a0 a1 a2):=by
 obtain⟨hb,hn⟩:=hp _ (List.mem_cons_self ..)
 have hb':=hb
 unfold Ad at hb'
 have hgood:(!(G2 a0 a1 a2))=true→AI a1 a2=0:=fun h=>by
  have h':(!(AI a1 a2 !=0))=true:=h
  simpa using h'
 have hl:AI a1 a2=0→_:=fun g=>A2o a1 a2 (a0++Iq a2.1) (IE g).2.1 (Sg (IE g).1).2 (by
  have h8:=P9 a2.key
  have:=(IE g).2.2.2.1
  show Ad ((a0++Iq a2.key).length+640)
  rw[List.length_append]
  unfold Ad
  omega)
 have h:=Bi8 a0 a1 a2 (Aa hn (Aa (fun _=>by unfold Ad;omega) (Aa (fun g=>by
  have:=(IE (hgood g)).2.2.2.1
  show Ad (a0.length+8+a2.key.size)
  unfold Ad
  omega) (Aa (fun g=>(hl (hgood g)).1) Af))))
 have e:Agd a0 a1 a2=a0++HE a1 a2:=by
  have k0:G2 a0 a1 a2=(AI a1 a2 !=0):=rfl
  unfold Agd HE Bcc
  rw[k0]
  cases g:AI a1 a2 !=0 with
  |true=>
   have:(AI a1 a2==0)=false:=by simpa using g
   rw[this,cond_true,cond_false,List.append_nil,List.nil_append]
  |false=>
   have g0:AI a1 a2=0:=by simpa using g
   rw[(hl g0).2,g0]
   show(a0++Iq a2.key)++WV a1 a2.cells a1.length=a0++(Iq a2.key++_)
   rw[Bfr (IE g0).2.1,List.append_assoc]
 unfold Age at h
 rw[e] at h
 exact h
def Aze:List A→Nat→Objs→Option A6:=Bt [.t .bytes,.l .group,.t .row] 1 Asl Ask Ai9
theorem A8i:HF Tryz.prog 62 Aze:=Av (ks:=[.t .bytes,.l .group,.t .row]) Bdf
end Go.Proofs.YtifkbgkbajncjaaGreatDoor
namespace Go.Proofs.YtifkbgkbajncjaaGreatDoor
open Go.RowKit
theorem A42 {X:Type} (mk:Nat→Int→X) (len:Nat) (step:Nat→Int→Int) (P:Nat→Prop) (m c:Int) (s:Bool) (next:X→X) (goes:X→Cnd) (ps:X→List Prop)
  (hs:∀i n,i <len→0≤n→0≤step i n∧(step i n≤m→n+c≤step i n∧P i)) (hc:0≤c)
  (hg:∀i n,i≤len→A8 (goes (mk i n))=(decide (i <len)&&(s||decide (n≤m)))) (hn:∀i n,i <len→0≤n→next (mk i n)=mk (i+1) (step i n))
  (hp:∀i n,i≤len→0≤n→∀p∈ps (mk i n),p):
  ∀(f i:Nat) (n:Int),i≤len→len≤i+f→0≤n→
  Ax next goes ps f (mk i n)∧∃k n',AF next goes f (mk i n)=mk k n'∧0≤n'∧(n'≤m→n+c*((len:Int) - (i:Int))≤n'∧∀j,i≤j→j <len→P j)
 |0,i,n,hi,hf,h0=>by
  obtain rfl:i=len:=by omega
  have hb:=hg i n (Nat.le_refl _)
  rw[decide_eq_false (Nat.lt_irrefl _),Bool.false_and] at hb
  exact⟨⟨hp i n hi h0,hb⟩,i,n,rfl,h0,fun _=>⟨by rw[Int.sub_self,Int.mul_zero];omega,fun j h1 h2=>by omega⟩⟩
 | f+1,i,n,hi,hf,h0=>by
  have hb:=hg i n hi
  cases hv:A8 (goes (mk i n)) with
  | false=>
   have e:AF next goes (f+1) (mk i n)=mk i n:=by
    show(bif A8 (goes (mk i n)) then _ else mk i n)=_
    rw[hv];rfl
   rw[e]
   refine⟨⟨hp i n hi h0,fun h=>by rw[hv] at h;cases h⟩,i,n,rfl,h0,fun hm=>?_⟩
   rw[hv] at hb
   rw[decide_eq_true hm,Bool.or_true,Bool.and_true] at hb
   have:¬i <len:=of_decide_eq_false hb.symm
   obtain rfl:i=len:=by omega
   exact⟨by rw[Int.sub_self,Int.mul_zero];omega,fun j h1 h2=>by omega⟩
  | true=>
   rw[hv] at hb
   have hi':i <len:=by
    cases h:decide (i <len) with
    |true=>exact of_decide_eq_true h
    |false=>rw[h] at hb;cases hb
   obtain⟨s1,s2⟩:=hs i n hi' h0
   have e:AF next goes (f+1) (mk i n)=AF next goes f (mk (i+1) (step i n)):=by
    show(bif A8 (goes (mk i n)) then AF next goes f (next (mk i n)) else mk i n)=_
    rw[hv,hn i n hi' h0];rfl
   obtain⟨g1,k,n',g2,g3,g4⟩:=A42 mk len step P m c s next goes ps hs hc hg hn hp f (i+1) (step i n) hi' (by omega) s1
   rw[e]
   refine⟨⟨hp i n hi h0,fun _=>by rw[hn i n hi' h0];exact g1⟩,k,n',g2,g3,fun hm=>?_⟩
   obtain⟨a1,a2⟩:=g4 hm
   have hpos:0≤c*((len:Int) - ((i+1:Nat):Int)):=Int.mul_nonneg hc (by omega)
   obtain⟨b1,b2⟩:=s2 (by omega)
   have hd:c*((len:Int) - (i:Int))=c*((len:Int) - ((i+1:Nat):Int))+c:=by
    rw[show((len:Int) - (i:Int))=((len:Int) - ((i+1:Nat):Int))+1 by omega,Int.mul_add,Int.mul_one]
   refine⟨by rw[hd];omega,fun j h1 h2=>?_⟩
   by_cases e:j=i
   ·subst e;exact b2
   ·exact a2 j (by omega) h2
theorem T0 {X:Type} (mk:Nat→Int→X) (len:Nat) (step:Nat→Int→Int) (P:Nat→Prop) (m c:Int) (s:Bool) (next:X→X) (goes:X→Cnd) (ps:X→List Prop) (f:Nat) (x:X) (n0:Int) (hx:x=mk 0 n0) (hf:len≤f) (h0:0≤n0)
  (hs:∀i n,i <len→0≤n→0≤step i n∧(step i n≤m→n+c≤step i n∧P i)) (hc:0≤c)
  (hg:∀i n,i≤len→A8 (goes (mk i n))=(decide (i <len)&&(s||decide (n≤m)))) (hn:∀i n,i <len→0≤n→next (mk i n)=mk (i+1) (step i n))
  (hp:∀i n,i≤len→0≤n→∀p∈ps (mk i n),p):
  Ax next goes ps f x∧∃k n',AF next goes f x=mk k n'∧0≤n'∧(n'≤m→n0+c*(len:Int)≤n'∧∀j,j <len→P j):=by
 subst hx
 obtain⟨h1,k,n',h2,h3,h4⟩:=A42 mk len step P m c s next goes ps hs hc hg hn hp f 0 n0 (Nat.zero_le _) (by omega) h0
 refine⟨h1,k,n',h2,h3,fun h=>?_⟩
 obtain⟨h5,h6⟩:=h4 h
 rw[show((len:Int) - ((0:Nat):Int))=(len:Int) by omega] at h5
 exact⟨h5,fun j hj=>h6 j (Nat.zero_le _) hj⟩
theorem QC {α:Type} {l:List α} {d:α} {P:α→Prop} (h:∀j,j <l.length→P (l.getD j d)):∀x∈l,P x:=fun x hx=>by
 obtain⟨j,hj,rfl⟩:=List.mem_iff_getElem.1 hx
 have:=h j hj
 rw[List.getD_eq_getElem?_getD,List.getElem?_eq_getElem hj] at this
 exact this
end Go.Proofs.YtifkbgkbajncjaaGreatDoor
namespace Go.Proofs.YtifkbgkbajncjaaGreatDoor
open Go.RowKit
noncomputable def Ad6:=AS 50 Ays Cl
theorem RU:Cr Tryz.prog Ad6:=An A7l Be6
abbrev BE:Type:=(List TChange)×Int×Int×Int
def KI (x:BE):St:=⟨122,0,[(1,.sl .change x.1),(7,.v (.int .i64 x.2.1)),(8,.v (.int .i64 x.2.2.1)),(9,.v (.int .i64 x.2.2.2))],[]⟩
def ME:St→Option BE
 |⟨122,0,[(1,.sl .change z0),(7,.v (.int .i64 z1)),(8,.v (.int .i64 z2)),(9,.v (.int .i64 z3))],[]⟩=>some (z0,z1,z2,z3)
 |_=>none
theorem Abe:∀s x,ME s=some x→s=KI x:=fun s x h=>by
 unfold ME at h
 split at h
 ·cases h;rfl
 ·cases h
def UD:Cz:=⟨0,0,[1,7,8,9],[],[],[],[7],[]⟩
def Apg:CX:=⟨[],[],[1,7,8,9],[]⟩
def A4 (a0:List TChange) (a1:Int) (a2:Int) (a3:Int):Bool:=!!(decide (a3 <(↑(a0.getD a2.toNat (Ae TC.change)).5.length:Int))&&decide (a1≤(6000:Int)))
def Lo (a0:List TChange) (a1:Int) (a2:Int) (a3:Int):Int:=Ay (Ay (Ay a1 (10:Int) (6000:Int)) (↑((a0.getD a2.toNat (Ae TC.change)).5.getD a3.toNat (Ae TC.write)).1.size:Int) (6000:Int)) (↑((a0.getD a2.toNat (Ae TC.change)).5.getD a3.toNat (Ae TC.write)).4.size:Int) (6000:Int)
def Abd (a0:List TChange) (a1:Int) (a2:Int) (a3:Int):Bool:=!(decide (a3 <(↑(a0.getD a2.toNat (Ae TC.change)).5.length:Int))&&decide (a1≤(6000:Int)))
def DJ (x:BE):BE:=(x.1,Lo x.1 x.2.1 x.2.2.1 x.2.2.2,x.2.2.1,IntKind.i64.wrap (x.2.2.2+(1:Int)))
def DI (x:BE):Cnd:=some ((A4 x.1 x.2.1 x.2.2.1 x.2.2.2))
def QZ (x:BE):List Prop:=[((0:Int)≤x.2.2.1∧x.2.2.1 <(↑x.1.length:Int)),((A4 x.1 x.2.1 x.2.2.1 x.2.2.2)=true→(0:Int)≤x.2.2.1∧x.2.2.1 <(↑x.1.length:Int)),((A4 x.1 x.2.1 x.2.2.1 x.2.2.2)=true→(0:Int)≤x.2.2.2∧x.2.2.2 <(↑(x.1.getD x.2.2.1.toNat (Ae TC.change)).5.length:Int)),((A4 x.1 x.2.1 x.2.2.1 x.2.2.2)=true→(0:Int)≤x.2.2.1∧x.2.2.1 <(↑x.1.length:Int)),((A4 x.1 x.2.1 x.2.2.1 x.2.2.2)=true→(0:Int)≤x.2.2.2∧x.2.2.2 <(↑(x.1.getD x.2.2.1.toNat (Ae TC.change)).5.length:Int))]
def Hf (x:BE):List Prop:=[((0:Int)≤x.2.2.1∧x.2.2.1 <(↑x.1.length:Int)),((A4 x.1 x.2.1 x.2.2.1 x.2.2.2)=true→(0:Int)≤x.2.2.1∧x.2.2.1 <(↑x.1.length:Int)),((A4 x.1 x.2.1 x.2.2.1 x.2.2.2)=true→(0:Int)≤x.2.2.2∧x.2.2.2 <(↑(x.1.getD x.2.2.1.toNat (Ae TC.change)).5.length:Int))]
def Po (x:BE):AR:=[(some 2,some (Abd x.1 x.2.1 x.2.2.1 x.2.2.2),⟨122,0,[(7,.v (.int .i64 x.2.1))],[]⟩)]
def Fk (x:BE):Nat:=((↑(x.1.getD x.2.2.1.toNat (Ae TC.change)).5.length:Int) - x.2.2.2).toNat
def Gp (x:BE):BE:=AF DJ DI (Fk x) x
theorem Alb (a0:List TChange) (a1:Int) (a2:Int) (a3:Int):Ba (As Ad6 L0) 9 (Ag Tryz.prog 16 2) UD (KI (a0,a1,a2,a3))=some (QZ (a0,a1,a2,a3),Po (a0,a1,a2,a3),DI (a0,a1,a2,a3),KI (DJ (a0,a1,a2,a3))):=by kernel_rfl
theorem Alc (a0:List TChange) (a1:Int) (a2:Int) (a3:Int) (hp:∀p∈Hf (a0,a1,a2,a3),p):∀p∈QZ (a0,a1,a2,a3),p:=by
 have n0:=N0 hp
 have n1:((A4 a0 a1 a2 a3)=true→(0:Int)≤a2∧a2 <(↑a0.length:Int)):=N0 (N1 hp)
 have n2:((A4 a0 a1 a2 a3)=true→(0:Int)≤a3∧a3 <(↑(a0.getD a2.toNat (Ae TC.change)).5.length:Int)):=N0 (N1 (N1 hp))
 exact(Aa n0 (Aa n1 (Aa n2 (Aa n1 (Aa n2 Af)))))
noncomputable def Q0:=HB (As Ad6 L0) (Ag Tryz.prog 16 2) UD Apg ME Fk DJ DI Hf Po
theorem Ae4:∀s b ps outs,Q0 s=some (b,ps,outs)→Wf s ⟨ps,outs,none⟩∧Bg (As C0 L0) b s ps outs:=
 AT (T:=KI) RU AA (u:=9) (by kernel_rfl) (by decide) (fun⟨a0,a1,a2,a3⟩=>Alb a0 a1 a2 a3) (fun⟨a0,a1,a2,a3⟩=>Alc a0 a1 a2 a3) Abe (fun _=>AD (n:=122) rfl) fun _ _=>rfl
noncomputable def KH:=Dd 2 Q0 L0
theorem QY:G9 KH:=AH Ae4 AA
abbrev BD:Type:=(List TChange)×Int×Int
def KG (x:BD):St:=⟨122,0,[(1,.sl .change x.1),(7,.v (.int .i64 x.2.1)),(8,.v (.int .i64 x.2.2))],[]⟩
def MD:St→Option BD
 |⟨122,0,[(1,.sl .change z0),(7,.v (.int .i64 z1)),(8,.v (.int .i64 z2))],[]⟩=>some (z0,z1,z2)
 |_=>none
theorem Abc:∀s x,MD s=some x→s=KG x:=fun s x h=>by
 unfold MD at h
 split at h
 ·cases h;rfl
 ·cases h
def UC:Cz:=⟨0,0,[1,7,8],[],[],[],[7],[]⟩
def Apf:CX:=⟨[],[],[1,7,8],[]⟩
def CP (a0:List TChange) (a1:Int) (a2:Int):Bool:=!!(decide (a2 <(↑a0.length:Int))&&decide (a1≤(6000:Int)))
def Jl (a0:List TChange) (a1:Int) (a2:Int):Int:=(Gp (a0,Ay a1 (10:Int) (6000:Int),a2,(0:Int))).snd.fst
def Ae2 (a0:List TChange) (a1:Int) (a2:Int):Bool:=!(decide (a2 <(↑a0.length:Int))&&decide (a1≤(6000:Int)))
def DH (x:BD):BD:=(x.1,Jl x.1 x.2.1 x.2.2,IntKind.i64.wrap (x.2.2+(1:Int)))
def DG (x:BD):Cnd:=some ((CP x.1 x.2.1 x.2.2))
def QW (x:BD):List Prop:=[((CP x.1 x.2.1 x.2.2)=true→Ag Tryz.prog (16:FuncId) (2:Nat)=Ag Tryz.prog (16:FuncId) (2:Nat)),((CP x.1 x.2.1 x.2.2)=true→Ax DJ DI Hf (Fk (x.1,Ay x.2.1 (10:Int) (6000:Int),x.2.2,(0:Int))) (x.1,Ay x.2.1 (10:Int) (6000:Int),x.2.2,(0:Int)))]
def He (x:BD):List Prop:=[((CP x.1 x.2.1 x.2.2)=true→Ax DJ DI Hf (Fk (x.1,Ay x.2.1 (10:Int) (6000:Int),x.2.2,(0:Int))) (x.1,Ay x.2.1 (10:Int) (6000:Int),x.2.2,(0:Int)))]
def Pn (x:BD):AR:=[(some 0,some (Ae2 x.1 x.2.1 x.2.2),⟨122,0,[(7,.v (.int .i64 x.2.1))],[]⟩)]
def Fj (x:BD):Nat:=((↑x.1.length:Int) - x.2.2).toNat
def Cu (x:BD):BD:=AF DH DG (Fj x) x
theorem Ak9 (a0:List TChange) (a1:Int) (a2:Int):Ba (As Ad6 KH) 9 (Ag Tryz.prog 16 0) UC (KG (a0,a1,a2))=some (QW (a0,a1,a2),Pn (a0,a1,a2),DG (a0,a1,a2),KG (DH (a0,a1,a2))):=by kernel_rfl
theorem Ala (a0:List TChange) (a1:Int) (a2:Int) (hp:∀p∈He (a0,a1,a2),p):∀p∈QW (a0,a1,a2),p:=by
 have n0:((CP a0 a1 a2)=true→Ag Tryz.prog (16:FuncId) (2:Nat)=Ag Tryz.prog (16:FuncId) (2:Nat)):=by intros;rfl
 have n1:=N0 hp
 exact(Aa n0 (Aa n1 Af))
noncomputable def QX:=HB (As Ad6 KH) (Ag Tryz.prog 16 0) UC Apf MD Fj DH DG He Pn
theorem Ae3:∀s b ps outs,QX s=some (b,ps,outs)→Wf s ⟨ps,outs,none⟩∧Bg (As C0 L0) b s ps outs:=
 AT (T:=KG) RU QY (u:=9) (by kernel_rfl) (by decide) (fun⟨a0,a1,a2⟩=>Ak9 a0 a1 a2) (fun⟨a0,a1,a2⟩=>Ala a0 a1 a2) Abc (fun _=>AD (n:=122) rfl) fun _ _=>rfl
noncomputable def KF:=Dd 0 QX KH
theorem QV:G9 KF:=AH Ae3 QY
abbrev BH:Type:=Int×(List Ak)×Int×Int
def KN (x:BH):St:=⟨122,0,[(7,.v (.int .i64 x.1)),(11,.sl .row x.2.1),(12,.v (.int .i64 x.2.2.1)),(13,.v (.int .i64 x.2.2.2))],[]⟩
def MH:St→Option BH
 |⟨122,0,[(7,.v (.int .i64 z0)),(11,.sl .row z1),(12,.v (.int .i64 z2)),(13,.v (.int .i64 z3))],[]⟩=>some (z0,z1,z2,z3)
 |_=>none
theorem Abh:∀s x,MH s=some x→s=KN x:=fun s x h=>by
 unfold MH at h
 split at h
 ·cases h;rfl
 ·cases h
def UH:Cz:=⟨0,0,[7,11,12,13],[],[],[],[7],[]⟩
def Apj:CX:=⟨[],[],[7,11,12,13],[]⟩
def Fm (a0:Int) (a1:List Ak) (a2:Int) (a3:Int):Bool:=!!(decide (a3 <(↑(a1.getD a2.toNat (Ae TC.row)).2.length:Int))&&decide (a0≤(6000:Int)))
def Lq (a0:Int) (a1:List Ak) (a2:Int) (a3:Int):Int:=Ay (Ay a0 (10:Int) (6000:Int)) (↑((a1.getD a2.toNat (Ae TC.row)).2.getD a3.toNat (Ae TC.cell)).4.size:Int) (6000:Int)
def Ae9 (a0:Int) (a1:List Ak) (a2:Int) (a3:Int):Bool:=!(decide (a3 <(↑(a1.getD a2.toNat (Ae TC.row)).2.length:Int))&&decide (a0≤(6000:Int)))
def CT (x:BH):BH:=(Lq x.1 x.2.1 x.2.2.1 x.2.2.2,x.2.1,x.2.2.1,IntKind.i64.wrap (x.2.2.2+(1:Int)))
def CS (x:BH):Cnd:=some ((Fm x.1 x.2.1 x.2.2.1 x.2.2.2))
def Lr (x:BH):List Prop:=[((0:Int)≤x.2.2.1∧x.2.2.1 <(↑x.2.1.length:Int)),((Fm x.1 x.2.1 x.2.2.1 x.2.2.2)=true→(0:Int)≤x.2.2.1∧x.2.2.1 <(↑x.2.1.length:Int)),((Fm x.1 x.2.1 x.2.2.1 x.2.2.2)=true→(0:Int)≤x.2.2.2∧x.2.2.2 <(↑(x.2.1.getD x.2.2.1.toNat (Ae TC.row)).2.length:Int))]
abbrev FC:BH→List Prop:=Lr
def Pr (x:BH):AR:=[(some 8,some (Ae9 x.1 x.2.1 x.2.2.1 x.2.2.2),⟨122,0,[(7,.v (.int .i64 x.1))],[]⟩)]
def DN (x:BH):Nat:=((↑(x.2.1.getD x.2.2.1.toNat (Ae TC.row)).2.length:Int) - x.2.2.2).toNat
def Gr (x:BH):BH:=AF CT CS (DN x) x
theorem Alh (a0:Int) (a1:List Ak) (a2:Int) (a3:Int):Ba (As Ad6 KF) 9 (Ag Tryz.prog 16 8) UH (KN (a0,a1,a2,a3))=some (Lr (a0,a1,a2,a3),Pr (a0,a1,a2,a3),CS (a0,a1,a2,a3),KN (CT (a0,a1,a2,a3))):=by kernel_rfl
theorem Ali (a0:Int) (a1:List Ak) (a2:Int) (a3:Int) (hp:∀p∈FC (a0,a1,a2,a3),p):∀p∈Lr (a0,a1,a2,a3),p:=hp
noncomputable def Q7:=HB (As Ad6 KF) (Ag Tryz.prog 16 8) UH Apj MH DN CT CS FC Pr
theorem Afa:∀s b ps outs,Q7 s=some (b,ps,outs)→Wf s ⟨ps,outs,none⟩∧Bg (As C0 L0) b s ps outs:=
 AT (T:=KN) RU QV (u:=9) (by kernel_rfl) (by decide) (fun⟨a0,a1,a2,a3⟩=>Alh a0 a1 a2 a3) (fun⟨a0,a1,a2,a3⟩=>Ali a0 a1 a2 a3) Abh (fun _=>AD (n:=122) rfl) fun _ _=>rfl
noncomputable def KM:=Dd 8 Q7 KF
theorem Q6:G9 KM:=AH Afa QV
abbrev BG:Type:=Int×(List Ak)×Int
def KL (x:BG):St:=⟨122,0,[(7,.v (.int .i64 x.1)),(11,.sl .row x.2.1),(12,.v (.int .i64 x.2.2))],[]⟩
def MG:St→Option BG
 |⟨122,0,[(7,.v (.int .i64 z0)),(11,.sl .row z1),(12,.v (.int .i64 z2))],[]⟩=>some (z0,z1,z2)
 |_=>none
theorem Abg:∀s x,MG s=some x→s=KL x:=fun s x h=>by
 unfold MG at h
 split at h
 ·cases h;rfl
 ·cases h
def UG:Cz:=⟨0,0,[7,11,12],[],[],[],[7],[]⟩
def Api:CX:=⟨[],[],[7,11,12],[]⟩
def Bx (a0:Int) (a1:List Ak) (a2:Int):Bool:=!!(decide (a2 <(↑a1.length:Int))&&decide (a0≤(6000:Int)))
def Jn (a0:Int) (a1:List Ak) (a2:Int):Int:=(Gr (Ay (Ay a0 (10:Int) (6000:Int)) (↑(a1.getD a2.toNat (Ae TC.row)).1.size:Int) (6000:Int),a1,a2,(0:Int))).fst
def Ae7 (a0:Int) (a1:List Ak) (a2:Int):Bool:=!(decide (a2 <(↑a1.length:Int))&&decide (a0≤(6000:Int)))
def CR (x:BG):BG:=(Jn x.1 x.2.1 x.2.2,x.2.1,IntKind.i64.wrap (x.2.2+(1:Int)))
def CQ (x:BG):Cnd:=some ((Bx x.1 x.2.1 x.2.2))
def Q4 (x:BG):List Prop:=[((Bx x.1 x.2.1 x.2.2)=true→(0:Int)≤x.2.2∧x.2.2 <(↑x.2.1.length:Int)),((Bx x.1 x.2.1 x.2.2)=true→Ag Tryz.prog (16:FuncId) (8:Nat)=Ag Tryz.prog (16:FuncId) (8:Nat)),((Bx x.1 x.2.1 x.2.2)=true→Ax CT CS FC (DN (Ay (Ay x.1 (10:Int) (6000:Int)) (↑(x.2.1.getD x.2.2.toNat (Ae TC.row)).1.size:Int) (6000:Int),x.2.1,x.2.2,(0:Int))) (Ay (Ay x.1 (10:Int) (6000:Int)) (↑(x.2.1.getD x.2.2.toNat (Ae TC.row)).1.size:Int) (6000:Int),x.2.1,x.2.2,(0:Int)))]
def FA (x:BG):List Prop:=[((Bx x.1 x.2.1 x.2.2)=true→(0:Int)≤x.2.2∧x.2.2 <(↑x.2.1.length:Int)),((Bx x.1 x.2.1 x.2.2)=true→Ax CT CS FC (DN (Ay (Ay x.1 (10:Int) (6000:Int)) (↑(x.2.1.getD x.2.2.toNat (Ae TC.row)).1.size:Int) (6000:Int),x.2.1,x.2.2,(0:Int))) (Ay (Ay x.1 (10:Int) (6000:Int)) (↑(x.2.1.getD x.2.2.toNat (Ae TC.row)).1.size:Int) (6000:Int),x.2.1,x.2.2,(0:Int)))]
def Pq (x:BG):AR:=[(some 6,some (Ae7 x.1 x.2.1 x.2.2),⟨122,0,[(7,.v (.int .i64 x.1))],[]⟩)]
def DM (x:BG):Nat:=((↑x.2.1.length:Int) - x.2.2).toNat
def Gq (x:BG):BG:=AF CR CQ (DM x) x
theorem Alf (a0:Int) (a1:List Ak) (a2:Int):Ba (As Ad6 KM) 9 (Ag Tryz.prog 16 6) UG (KL (a0,a1,a2))=some (Q4 (a0,a1,a2),Pq (a0,a1,a2),CQ (a0,a1,a2),KL (CR (a0,a1,a2))):=by kernel_rfl
theorem Alg (a0:Int) (a1:List Ak) (a2:Int) (hp:∀p∈FA (a0,a1,a2),p):∀p∈Q4 (a0,a1,a2),p:=by
 have n0:=N0 hp
 have n1:((Bx a0 a1 a2)=true→Ag Tryz.prog (16:FuncId) (8:Nat)=Ag Tryz.prog (16:FuncId) (8:Nat)):=by intros;rfl
 have n2:=N0 (N1 hp)
 exact(Aa n0 (Aa n1 (Aa n2 Af)))
noncomputable def Q5:=HB (As Ad6 KM) (Ag Tryz.prog 16 6) UG Api MG DM CR CQ FA Pq
theorem Ae8:∀s b ps outs,Q5 s=some (b,ps,outs)→Wf s ⟨ps,outs,none⟩∧Bg (As C0 L0) b s ps outs:=
 AT (T:=KL) RU Q6 (u:=9) (by kernel_rfl) (by decide) (fun⟨a0,a1,a2⟩=>Alf a0 a1 a2) (fun⟨a0,a1,a2⟩=>Alg a0 a1 a2) Abg (fun _=>AD (n:=122) rfl) fun _ _=>rfl
noncomputable def KK:=Dd 6 Q5 KM
theorem Q3:G9 KK:=AH Ae8 Q6
abbrev BF:Type:=Int×(List (List Ak))×Int×Int
def KJ (x:BF):St:=⟨122,0,[(7,.v (.int .i64 x.1)),(67,.sl .rows x.2.1),(68,.v (.int .i64 x.2.2.1)),(69,.v (.int .i64 x.2.2.2))],[]⟩
def MF:St→Option BF
 |⟨122,0,[(7,.v (.int .i64 z0)),(67,.sl .rows z1),(68,.v (.int .i64 z2)),(69,.v (.int .i64 z3))],[]⟩=>some (z0,z1,z2,z3)
 |_=>none
theorem Abf:∀s x,MF s=some x→s=KJ x:=fun s x h=>by
 unfold MF at h
 split at h
 ·cases h;rfl
 ·cases h
def UF:Cz:=⟨0,0,[7,67,68,69],[],[],[],[7],[]⟩
def Aph:CX:=⟨[],[],[7,67,68,69],[]⟩
def Jm (a0:Int) (a1:List (List Ak)) (_a2:Int) (a3:Int):Int:=(Gq (a0,a1.getD a3.toNat (Ae TC.rows),(0:Int))).fst
def DL (x:BF):BF:=(Jm x.1 x.2.1 x.2.2.1 x.2.2.2,x.2.1,x.2.2.1,IntKind.i64.wrap (x.2.2.2+(1:Int)))
def DK (x:BF):Cnd:=some (!!decide (x.2.2.2 <x.2.2.1))
def Q1 (x:BF):List Prop:=[((!!decide (x.2.2.2 <x.2.2.1))=true→(0:Int)≤x.2.2.2∧x.2.2.2 <(↑x.2.1.length:Int)),((!!decide (x.2.2.2 <x.2.2.1))=true→Ag Tryz.prog (16:FuncId) (6:Nat)=Ag Tryz.prog (16:FuncId) (6:Nat)),((!!decide (x.2.2.2 <x.2.2.1))=true→Ax CR CQ FA (DM (x.1,x.2.1.getD x.2.2.2.toNat (Ae TC.rows),(0:Int))) (x.1,x.2.1.getD x.2.2.2.toNat (Ae TC.rows),(0:Int)))]
def Hg (x:BF):List Prop:=[((!!decide (x.2.2.2 <x.2.2.1))=true→(0:Int)≤x.2.2.2∧x.2.2.2 <(↑x.2.1.length:Int)),((!!decide (x.2.2.2 <x.2.2.1))=true→Ax CR CQ FA (DM (x.1,x.2.1.getD x.2.2.2.toNat (Ae TC.rows),(0:Int))) (x.1,x.2.1.getD x.2.2.2.toNat (Ae TC.rows),(0:Int)))]
def Pp (x:BF):AR:=[(some 4,some (!decide (x.2.2.2 <x.2.2.1)),⟨122,0,[(7,.v (.int .i64 x.1))],[]⟩)]
def Fl (x:BF):Nat:=(x.2.2.1 - x.2.2.2).toNat
def Lp (x:BF):BF:=AF DL DK (Fl x) x
theorem Ald (a0:Int) (a1:List (List Ak)) (a2:Int) (a3:Int):Ba (As Ad6 KK) 9 (Ag Tryz.prog 16 4) UF (KJ (a0,a1,a2,a3))=some (Q1 (a0,a1,a2,a3),Pp (a0,a1,a2,a3),DK (a0,a1,a2,a3),KJ (DL (a0,a1,a2,a3))):=by kernel_rfl
theorem Ale (a0:Int) (a1:List (List Ak)) (a2:Int) (a3:Int) (hp:∀p∈Hg (a0,a1,a2,a3),p):∀p∈Q1 (a0,a1,a2,a3),p:=by
 have n0:=N0 hp
 have n1:((!!decide (a3 <a2))=true→Ag Tryz.prog (16:FuncId) (6:Nat)=Ag Tryz.prog (16:FuncId) (6:Nat)):=by intros;rfl
 have n2:=N0 (N1 hp)
 exact(Aa n0 (Aa n1 (Aa n2 Af)))
noncomputable def Q2:=HB (As Ad6 KK) (Ag Tryz.prog 16 4) UF Aph MF Fl DL DK Hg Pp
theorem Ae6:∀s b ps outs,Q2 s=some (b,ps,outs)→Wf s ⟨ps,outs,none⟩∧Bg (As C0 L0) b s ps outs:=
 AT (T:=KJ) RU Q3 (u:=9) (by kernel_rfl) (by decide) (fun⟨a0,a1,a2,a3⟩=>Ald a0 a1 a2 a3) (fun⟨a0,a1,a2,a3⟩=>Ale a0 a1 a2 a3) Abf (fun _=>AD (n:=122) rfl) fun _ _=>rfl
noncomputable def UE:=Dd 4 Q2 KK
theorem Ae5:G9 UE:=AH Ae6 Q3
def Pm (a0:List Ab) (a1:List TChange) (a2:List (List Ak)):Bool:=decide ((Lp ((Cu (a1,Ay (0:Int) (↑a0.length:Int) (6000:Int),(0:Int))).snd.fst,a2,(↑a2.length:Int),(0:Int))).fst≤(6000:Int))
def Ahv (a0:List Ab) (a1:List TChange) (a2:List (List Ak)):A:=.v (.bool (Pm a0 a1 a2))
def Ahu (_a0:List Ab) (_a1:List TChange) (_a2:List (List Ak)):Objs:=[]
def Abj (a0:List Ab) (a1:List TChange) (a2:List (List Ak)):List Prop:=[(Ax DH DG He (Fj (a1,Ay (0:Int) (↑a0.length:Int) (6000:Int),(0:Int))) (a1,Ay (0:Int) (↑a0.length:Int) (6000:Int),(0:Int))),(Ax DL DK Hg (Fl ((Cu (a1,Ay (0:Int) (↑a0.length:Int) (6000:Int),(0:Int))).snd.fst,a2,(↑a2.length:Int),(0:Int))) ((Cu (a1,Ay (0:Int) (↑a0.length:Int) (6000:Int),(0:Int))).snd.fst,a2,(↑a2.length:Int),(0:Int)))]
theorem A1h (a0:List Ab) (a1:List TChange) (a2:List (List Ak)):Hz (As Ad6 UE) 9 16 [.sl .group a0,.sl .change a1,.sl .rows a2] 0 []=some (1,Ahv a0 a1 a2,0,Ahu a0 a1 a2,[(Ag Tryz.prog (16:FuncId) (0:Nat)=Ag Tryz.prog (16:FuncId) (0:Nat)),(Ax DH DG He (Fj (a1,Ay (0:Int) (↑a0.length:Int) (6000:Int),(0:Int))) (a1,Ay (0:Int) (↑a0.length:Int) (6000:Int),(0:Int))),(Ag Tryz.prog (16:FuncId) (4:Nat)=Ag Tryz.prog (16:FuncId) (4:Nat)),(Ax DL DK Hg (Fl ((Cu (a1,Ay (0:Int) (↑a0.length:Int) (6000:Int),(0:Int))).snd.fst,a2,(↑a2.length:Int),(0:Int))) ((Cu (a1,Ay (0:Int) (↑a0.length:Int) (6000:Int),(0:Int))).snd.fst,a2,(↑a2.length:Int),(0:Int)))]):=by kernel_rfl
theorem A6w (a0:List Ab) (a1:List TChange) (a2:List (List Ak)) (hp:∀p∈Abj a0 a1 a2,p):CallOk Tryz.prog 16 [.sl .group a0,.sl .change a1,.sl .rows a2] 0 [] 1 (Ahv a0 a1 a2) 0 (Ahu a0 a1 a2):=by
 have n1:=N0 hp
 have n3:=N0 (N1 hp)
 exact AB (Ar RU Ae5) (A1h a0 a1 a2) (Aa rfl (Aa n1 (Aa rfl (Aa n3 Af))))
def Abk (a0:List Ab) (a1:List TChange) (a2:List (List Ak)):A:=.v (.bool (Pm a0 a1 a2))
def Abi (_a0:List Ab) (_a1:List TChange) (_a2:List (List Ak)):Objs:=[]
def SY (c:TChange):Prop:=Am c.writes.length∧∀w∈c.writes,Am w.key.size∧Am w.value.size
def Ade (c:TChange):Prop:=c.writes.length≤6000∧∀w∈c.writes,w.key.size≤6000∧w.value.size≤6000
def Xp (a0:List Ab) (a1:List TChange) (a2:List (List Ak)):List Prop:=[Am a0.length∧(Am a1.length∧∀c∈a1,SY c)∧Am a2.length∧∀x∈a2,Am x.length∧∀r∈x,Ym r]
theorem Akz {n k:Int} (hn:0≤n) (hk:0≤k∧k≤9223372036854775807):0≤Ay n k 6000∧(Ay n k 6000≤6000→n+k≤Ay n k 6000∧n+k≤6000):=by
 obtain⟨h1,h2,h3⟩:=Bt2 (n:=n) (k:=k) (m:=6000) hn hk (by omega)
 exact⟨h2,fun h=>⟨by rw[h3 (h1 h)];omega,h1 h⟩⟩
theorem Avd (rows:List Ak) (i:Nat) (hi:i <rows.length) (n0:Int) (h0:0≤n0) (hl:Am (rows.getD i (Ae TC.row)).cells.length) (hw:∀c∈(rows.getD i (Ae TC.row)).cells,Am c.value.size):
  Ax CT CS FC (DN (n0,rows,(i:Int),0)) (n0,rows,(i:Int),0)∧
  0≤(Gr (n0,rows,(i:Int),0)).fst∧((Gr (n0,rows,(i:Int),0)).fst≤6000→n0+10*((rows.getD i (Ae TC.row)).cells.length:Int)≤(Gr (n0,rows,(i:Int),0)).fst∧∀c∈(rows.getD i (Ae TC.row)).cells,c.value.size≤6000):=by
 generalize hcs:(rows.getD i (Ae TC.row)).cells=cs at*
 have hcs2:(rows.getD i (Ae TC.row)).2=cs:=hcs
 have hgo:∀(k:Nat) (n:Int),Fm n rows (i:Int) (k:Int)=(decide (k <cs.length)&&(false||decide (n≤6000))):=fun k n=>by
  unfold Fm
  rw[Int.toNat_natCast,hcs2,nn,Mu,Bool.false_or]
 unfold Am at hl
 obtain⟨h1,k,n',hx,h2,h3⟩:=T0 (fun k n=>((n,rows,(i:Int),(k:Int)):BH)) cs.length (fun k n=>Ay (Ay n 10 6000) ((cs.getD k (Ae TC.cell)).4.size:Int) 6000) (fun k=>(cs.getD k (Ae TC.cell)).value.size≤6000) 6000 10 false CT CS FC (DN (n0,rows,(i:Int),0)) (n0,rows,(i:Int),0) n0 rfl
  (by show cs.length≤(((rows.getD ((i:Int)).toNat (Ae TC.row)).2.length:Int) - 0).toNat;rw[Int.toNat_natCast,hcs2];omega) h0
  (fun k n hk hn=>by
   obtain⟨a1,a2⟩:=Akz (k:=10) hn (by omega)
   obtain⟨b1,b2⟩:=Akz a1 (Azy (hw _ (getD_in cs (Ae TC.cell) k hk)))
   refine⟨b1,fun h=>?_⟩
   obtain⟨c1,c2⟩:=b2 h
   obtain⟨d1,d2⟩:=a2 (by omega)
   exact⟨by omega,by show(cs.getD k (Ae TC.cell)).4.size≤6000;omega⟩)
  (by omega)
  (fun k n _=>hgo k n)
  (fun k n hk _=>by
   show(Lq n rows (i:Int) (k:Int),rows,(i:Int),IntKind.i64.wrap ((k:Int)+1))=(_,rows,(i:Int),((k+1:Nat):Int))
   rw[Fz (by omega)]
   unfold Lq
   rw[Int.toNat_natCast,Int.toNat_natCast,hcs2])
  (fun k n _ _=>Aa (by show(0:Int)≤(i:Int)∧(i:Int) <(rows.length:Int);omega) (Aa (fun _=>by show(0:Int)≤(i:Int)∧(i:Int) <(rows.length:Int);omega) (Aa (fun h=>by
   have h':Fm n rows (i:Int) (k:Int)=true:=h
   rw[hgo,Bool.and_eq_true] at h'
   have:=of_decide_eq_true h'.1
   show(0:Int)≤(k:Int)∧(k:Int) <((rows.getD ((i:Int)).toNat (Ae TC.row)).2.length:Int)
   rw[Int.toNat_natCast,hcs2]
   omega) Af)))
 have hr:Gr (n0,rows,(i:Int),0)=(n',rows,(i:Int),(k:Int)):=hx
 rw[hr]
 exact⟨h1,h2,fun h=>⟨(h3 h).1,QC (h3 h).2⟩⟩
theorem A1k (rows:List Ak) (n0:Int) (h0:0≤n0) (hl:Am rows.length) (hw:∀r∈rows,Ym r):
  Ax CR CQ FA (DM (n0,rows,0)) (n0,rows,0)∧
  0≤(Gq (n0,rows,0)).fst∧((Gq (n0,rows,0)).fst≤6000→n0+10*(rows.length:Int)≤(Gq (n0,rows,0)).fst∧∀r∈rows,At7 6000 r):=by
 have hgo:∀(k:Nat) (n:Int),Bx n rows (k:Int)=(decide (k <rows.length)&&(false||decide (n≤6000))):=fun k n=>by
  unfold Bx
  rw[nn,Mu,Bool.false_or]
 unfold Am at hl
 have hin:∀(i:Nat) (n:Int),i <rows.length→0≤n→_:=fun i n hi hn=>
  Avd rows i hi (Ay (Ay n 10 6000) ((rows.getD i (Ae TC.row)).1.size:Int) 6000) (Akz (Akz hn (by omega)).1 (Azy (hw _ (getD_in rows (Ae TC.row) i hi)).1)).1 (hw _ (getD_in rows (Ae TC.row) i hi)).2.1 (hw _ (getD_in rows (Ae TC.row) i hi)).2.2
 obtain⟨h1,k,n',hx,h2,h3⟩:=T0 (fun k n=>((n,rows,(k:Int)):BG)) rows.length (fun k n=>Jn n rows (k:Int)) (fun k=>At7 6000 (rows.getD k (Ae TC.row))) 6000 10 false CR CQ FA (DM (n0,rows,0)) (n0,rows,0) n0 rfl
  (by show rows.length≤((rows.length:Int) - 0).toNat;omega) h0
  (fun k n hk hn=>by
   obtain⟨_,g2,g3⟩:=hin k n hk hn
   obtain⟨a1,a2⟩:=Akz (k:=10) hn (by omega)
   obtain⟨b1,b2⟩:=Akz a1 (Azy (hw _ (getD_in rows (Ae TC.row) k hk)).1)
   unfold Jn
   rw[Int.toNat_natCast]
   refine⟨g2,fun h=>?_⟩
   obtain⟨c1,c2⟩:=g3 h
   have h':(Gr (Ay (Ay n 10 6000) ((rows.getD k (Ae TC.row)).1.size:Int) 6000,rows,(k:Int),0)).fst≤6000:=h
   obtain⟨d1,d2⟩:=b2 (by omega)
   obtain⟨e1,e2⟩:=a2 (by omega)
   exact⟨by omega,by show(rows.getD k (Ae TC.row)).1.size≤6000;omega,by omega,c2⟩)
  (by omega)
  (fun k n _=>hgo k n)
  (fun k n hk _=>by
   show(Jn n rows (k:Int),rows,IntKind.i64.wrap ((k:Int)+1))=(_,rows,((k+1:Nat):Int))
   rw[Fz (by omega)])
  (fun k n hk hn=>by
   have hlt:Bx n rows (k:Int)=true→k <rows.length:=fun h=>by
    rw[hgo,Bool.and_eq_true] at h
    exact of_decide_eq_true h.1
   refine Aa (fun h=>?_) (Aa (fun h=>?_) Af)
   ·have:=hlt h
    show(0:Int)≤(k:Int)∧(k:Int) <(rows.length:Int)
    omega
   ·have:=(hin k n (hlt h) hn).1
    have e:((k:Int)).toNat=k:=Int.toNat_natCast k
    show Ax CT CS FC (DN (Ay (Ay n 10 6000) ((rows.getD ((k:Int)).toNat (Ae TC.row)).1.size:Int) 6000,rows,(k:Int),0)) (Ay (Ay n 10 6000) ((rows.getD ((k:Int)).toNat (Ae TC.row)).1.size:Int) 6000,rows,(k:Int),0)
    rw[e]
    exact this)
 have hr:Gq (n0,rows,0)=(n',rows,(k:Int)):=hx
 rw[hr]
 exact⟨h1,h2,fun h=>⟨(h3 h).1,QC (h3 h).2⟩⟩
theorem A63 (xs:List (List Ak)) (n0:Int) (h0:0≤n0) (hl:Am xs.length) (hw:∀x∈xs,Am x.length∧∀r∈x,Ym r):
  Ax DL DK Hg (Fl (n0,xs,(xs.length:Int),0)) (n0,xs,(xs.length:Int),0)∧
  ((Lp (n0,xs,(xs.length:Int),0)).fst≤6000→n0≤6000∧∀x∈xs,x.length≤6000∧∀r∈x,At7 6000 r):=by
 unfold Am at hl
 have hin:∀(i:Nat) (n:Int),i <xs.length→0≤n→_:=fun i n hi hn=>
  A1k (xs.getD i (Ae TC.rows)) n hn (hw _ (getD_in xs (Ae TC.rows) i hi)).1 (hw _ (getD_in xs (Ae TC.rows) i hi)).2
 obtain⟨h1,k,n',hx,h2,h3⟩:=T0 (fun k n=>((n,xs,(xs.length:Int),(k:Int)):BF)) xs.length (fun k n=>Jm n xs (xs.length:Int) (k:Int)) (fun k=>(xs.getD k (Ae TC.rows)).length≤6000∧∀r∈xs.getD k (Ae TC.rows),At7 6000 r) 6000 0 true DL DK Hg (Fl (n0,xs,(xs.length:Int),0)) (n0,xs,(xs.length:Int),0) n0 rfl
  (by show xs.length≤((xs.length:Int) - 0).toNat;omega) h0
  (fun k n hk hn=>by
   obtain⟨_,g2,g3⟩:=hin k n hk hn
   unfold Jm
   rw[Int.toNat_natCast]
   refine⟨g2,fun h=>?_⟩
   obtain⟨c1,c2⟩:=g3 h
   have h':(Gq (n,xs.getD k (Ae TC.rows),0)).fst≤6000:=h
   exact⟨by omega,by omega,c2⟩)
  (Int.le_refl _)
  (fun k n _=>by
   show(!!decide ((k:Int) <(xs.length:Int)))=_
   rw[nn,Mu,Bool.true_or,Bool.and_true])
  (fun k n hk _=>by
   show(Jm n xs (xs.length:Int) (k:Int),xs,(xs.length:Int),IntKind.i64.wrap ((k:Int)+1))=(_,xs,(xs.length:Int),((k+1:Nat):Int))
   rw[Fz (by omega)])
  (fun k n hk hn=>by
   have hlt:(!!decide ((k:Int) <(xs.length:Int)))=true→k <xs.length:=fun h=>by
    rw[nn] at h
    have:=of_decide_eq_true h
    omega
   refine Aa (fun h=>?_) (Aa (fun h=>?_) Af)
   ·have:=hlt h
    show(0:Int)≤(k:Int)∧(k:Int) <(xs.length:Int)
    omega
   ·have:=(hin k n (hlt h) hn).1
    have e:((k:Int)).toNat=k:=Int.toNat_natCast k
    show Ax CR CQ FA (DM (n,xs.getD ((k:Int)).toNat (Ae TC.rows),0)) (n,xs.getD ((k:Int)).toNat (Ae TC.rows),0)
    rw[e]
    exact this)
 have hr:Lp (n0,xs,(xs.length:Int),0)=(n',xs,(xs.length:Int),(k:Int)):=hx
 rw[hr]
 exact⟨h1,fun h=>⟨by have h':n'≤6000:=h;have:=(h3 h).1;omega,QC (h3 h).2⟩⟩
theorem Apm (cs:List TChange) (i:Nat) (hi:i <cs.length) (n0:Int) (h0:0≤n0) (hw:SY (cs.getD i (Ae TC.change))):
  Ax DJ DI Hf (Fk (cs,n0,(i:Int),0)) (cs,n0,(i:Int),0)∧
  0≤(Gp (cs,n0,(i:Int),0)).snd.fst∧((Gp (cs,n0,(i:Int),0)).snd.fst≤6000→n0≤(Gp (cs,n0,(i:Int),0)).snd.fst∧Ade (cs.getD i (Ae TC.change))):=by
 obtain⟨hl,hw⟩:=hw
 unfold Ade
 generalize hcs:(cs.getD i (Ae TC.change)).writes=ws at*
 have hcs2:(cs.getD i (Ae TC.change)).5=ws:=hcs
 have hgo:∀(k:Nat) (n:Int),A4 cs n (i:Int) (k:Int)=(decide (k <ws.length)&&(false||decide (n≤6000))):=fun k n=>by
  unfold A4
  rw[Int.toNat_natCast,hcs2,nn,Mu,Bool.false_or]
 unfold Am at hl
 obtain⟨h1,k,n',hx,h2,h3⟩:=T0 (fun k n=>((cs,n,(i:Int),(k:Int)):BE)) ws.length (fun k n=>Ay (Ay (Ay n 10 6000) ((ws.getD k (Ae TC.write)).1.size:Int) 6000) ((ws.getD k (Ae TC.write)).4.size:Int) 6000) (fun k=>(ws.getD k (Ae TC.write)).key.size≤6000∧(ws.getD k (Ae TC.write)).value.size≤6000) 6000 10 false DJ DI Hf (Fk (cs,n0,(i:Int),0)) (cs,n0,(i:Int),0) n0 rfl
  (by show ws.length≤(((cs.getD ((i:Int)).toNat (Ae TC.change)).5.length:Int) - 0).toNat;rw[Int.toNat_natCast,hcs2];omega) h0
  (fun k n hk hn=>by
   obtain⟨w1,w2⟩:=hw _ (getD_in ws (Ae TC.write) k hk)
   obtain⟨a1,a2⟩:=Akz (k:=10) hn (by omega)
   obtain⟨b1,b2⟩:=Akz a1 (Azy w1)
   obtain⟨f1,f2⟩:=Akz b1 (Azy w2)
   refine⟨f1,fun h=>?_⟩
   obtain⟨g1,g2⟩:=f2 h
   obtain⟨c1,c2⟩:=b2 (by omega)
   obtain⟨d1,d2⟩:=a2 (by omega)
   exact⟨by omega,by omega,by omega⟩)
  (by omega)
  (fun k n _=>hgo k n)
  (fun k n hk _=>by
   show(cs,Lo cs n (i:Int) (k:Int),(i:Int),IntKind.i64.wrap ((k:Int)+1))=(cs,_,(i:Int),((k+1:Nat):Int))
   rw[Fz (by omega)]
   unfold Lo
   rw[Int.toNat_natCast,Int.toNat_natCast,hcs2])
  (fun k n _ _=>Aa (by show(0:Int)≤(i:Int)∧(i:Int) <(cs.length:Int);omega) (Aa (fun _=>by show(0:Int)≤(i:Int)∧(i:Int) <(cs.length:Int);omega) (Aa (fun h=>by
   have h':A4 cs n (i:Int) (k:Int)=true:=h
   rw[hgo,Bool.and_eq_true] at h'
   have:=of_decide_eq_true h'.1
   show(0:Int)≤(k:Int)∧(k:Int) <((cs.getD ((i:Int)).toNat (Ae TC.change)).5.length:Int)
   rw[Int.toNat_natCast,hcs2]
   omega) Af)))
 have hr:Gp (cs,n0,(i:Int),0)=(cs,n',(i:Int),(k:Int)):=hx
 rw[hr]
 refine⟨h1,h2,fun h=>?_⟩
 have h':n'≤6000:=h
 obtain⟨q1,q2⟩:=h3 h
 refine⟨by show n0≤n';omega,by omega,?_⟩
 exact QC (P:=fun w:Aw=>w.key.size≤6000∧w.value.size≤6000) q2
theorem Alj (cs:List TChange) (n0:Int) (h0:0≤n0) (hl:Am cs.length) (hw:∀c∈cs,SY c):
  Ax DH DG He (Fj (cs,n0,0)) (cs,n0,0)∧
  0≤(Cu (cs,n0,0)).snd.fst∧((Cu (cs,n0,0)).snd.fst≤6000→n0+10*(cs.length:Int)≤(Cu (cs,n0,0)).snd.fst∧∀c∈cs,Ade c):=by
 have hgo:∀(k:Nat) (n:Int),CP cs n (k:Int)=(decide (k <cs.length)&&(false||decide (n≤6000))):=fun k n=>by
  unfold CP
  rw[nn,Mu,Bool.false_or]
 unfold Am at hl
 have hin:∀(i:Nat) (n:Int),i <cs.length→0≤n→_:=fun i n hi hn=>
  Apm cs i hi (Ay n 10 6000) (Akz hn (by omega)).1 (hw _ (getD_in cs (Ae TC.change) i hi))
 obtain⟨h1,k,n',hx,h2,h3⟩:=T0 (fun k n=>((cs,n,(k:Int)):BD)) cs.length (fun k n=>Jl cs n (k:Int)) (fun k=>Ade (cs.getD k (Ae TC.change))) 6000 10 false DH DG He (Fj (cs,n0,0)) (cs,n0,0) n0 rfl
  (by show cs.length≤((cs.length:Int) - 0).toNat;omega) h0
  (fun k n hk hn=>by
   obtain⟨_,g2,g3⟩:=hin k n hk hn
   obtain⟨a1,a2⟩:=Akz (k:=10) hn (by omega)
   unfold Jl
   refine⟨g2,fun h=>?_⟩
   obtain⟨c1,c2⟩:=g3 h
   have h':(Gp (cs,Ay n 10 6000,(k:Int),0)).snd.fst≤6000:=h
   obtain⟨e1,e2⟩:=a2 (by omega)
   exact⟨by omega,c2⟩)
  (by omega)
  (fun k n _=>hgo k n)
  (fun k n hk _=>by
   show(cs,Jl cs n (k:Int),IntKind.i64.wrap ((k:Int)+1))=(cs,_,((k+1:Nat):Int))
   rw[Fz (by omega)])
  (fun k n hk hn=>Aa (fun h=>by
    have h':CP cs n (k:Int)=true:=h
    rw[hgo,Bool.and_eq_true] at h'
    exact(hin k n (of_decide_eq_true h'.1) hn).1) Af)
 have hr:Cu (cs,n0,0)=(cs,n',(k:Int)):=hx
 rw[hr]
 exact⟨h1,h2,fun h=>⟨(h3 h).1,QC (h3 h).2⟩⟩
theorem Apl (l:List Ab) (cs:List TChange) (xs:List (List Ak)) (hl:Am l.length) (hc:Am cs.length∧∀c∈cs,SY c) (hr:Am xs.length) (hw:∀x∈xs,Am x.length∧∀r∈x,Ym r):(∀p∈Abj l cs xs,p)∧
  (Pm l cs xs=true→l.length≤6000∧(cs.length≤6000∧∀c∈cs,Ade c)∧∀x∈xs,x.length≤6000∧∀r∈x,At7 6000 r):=by
 obtain⟨a1,a2⟩:=Akz (n:=0) (k:=(l.length:Int)) (Int.le_refl _) (Azy hl)
 obtain⟨b1,b2,b3⟩:=Alj cs _ a1 hc.1 hc.2
 obtain⟨c1,c2⟩:=A63 xs _ b2 hr hw
 refine⟨Aa b1 (Aa c1 Af),fun h=>?_⟩
 have h':=of_decide_eq_true h
 obtain⟨d1,d2⟩:=c2 h'
 obtain⟨e1,e2⟩:=b3 d1
 have:=a2 (by omega)
 exact⟨by omega,⟨by omega,e2⟩,d2⟩
theorem A1g (a0:List Ab) (a1:List TChange) (a2:List (List Ak)) (hp:∀p∈Xp a0 a1 a2,p):CallOk Tryz.prog 16 [.sl .group a0,.sl .change a1,.sl .rows a2] 0 [] 1 (Abk a0 a1 a2) 0 (Abi a0 a1 a2):=by
 obtain⟨h1,h2,h3,h4⟩:=hp _ (List.mem_cons_self ..)
 exact A6w a0 a1 a2 (Apl a0 a1 a2 h1 h2 h3 h4).1
def UI:List A→Nat→Objs→Option A6:=Bt [.l .group,.l .change,.l .rows] 0 Abk Abi Xp
theorem Xq:HF Tryz.prog 16 UI:=Av (ks:=[.l .group,.l .change,.l .rows]) A1g
noncomputable def Bj9:=AS 16 UI Ad6
theorem A0d:Cr Tryz.prog Bj9:=An Xq RU
abbrev Bp:Type:=(List Ab)×ByteArray×(List Ak)×Int×Int
def JY (x:Bp):St:=⟨38,0,[(0,.sl .group x.1),(6,.v (.string x.2.1)),(15,.sl .row x.2.2.1),(16,.v (.int .i64 x.2.2.2.1)),(17,.v (.int .i64 x.2.2.2.2))],[]⟩
def Lt:St→Option Bp
 |⟨38,0,[(0,.sl .group z0),(6,.v (.string z1)),(15,.sl .row z2),(16,.v (.int .i64 z3)),(17,.v (.int .i64 z4))],[]⟩=>some (z0,z1,z2,z3,z4)
 |_=>none
theorem YR:∀s x,Lt s=some x→s=JY x:=fun s x h=>by
 unfold Lt at h
 split at h
 ·cases h;rfl
 ·cases h
def Ta:Cz:=⟨0,0,[0,6,15,16,17],[],[],[],[4],[]⟩
def Alk:CX:=⟨[],[],[0,6,15,16,17],[]⟩
def GW (a0:List Ab) (_a1:ByteArray) (a2:List Ak) (_a3:Int) (a4:Int):Bool:=AI a0 (a2.getD a4.toNat (Ae TC.row)) !=(0:Int)
def Dg (a0:List Ab) (a1:ByteArray) (a2:List Ak) (a3:Int) (a4:Int):Bool:=!!decide (a4 <a3)&&((GW a0 a1 a2 a3 a4)||(NT (a2.getD a4.toNat (Ae TC.row))||(Op.bytesLess (a2.getD a4.toNat (Ae TC.row)).1.toList a1.toList||(a2.getD a4.toNat (Ae TC.row)).1.toList==a1.toList)))
def Abs (_a0:List Ab) (_a1:ByteArray) (a2:List Ak) (_a3:Int) (a4:Int):ByteArray:=(a2.getD a4.toNat (Ae TC.row)).1
def Abt (a0:List Ab) (a1:ByteArray) (a2:List Ak) (a3:Int) (a4:Int):Bool:=!!decide (a4 <a3)&&!(Dg a0 a1 a2 a3 a4)
def GV (a0:List Ab) (a1:ByteArray) (a2:List Ak) (a3:Int) (a4:Int):Int:=bif(GW a0 a1 a2 a3 a4) then AI a0 (a2.getD a4.toNat (Ae TC.row)) else(100:Int)
def Ej (x:Bp):Bp:=(x.1,Abs x.1 x.2.1 x.2.2.1 x.2.2.2.1 x.2.2.2.2,x.2.2.1,x.2.2.2.1,IntKind.i64.wrap (x.2.2.2.2+(1:Int)))
def Ei (x:Bp):Cnd:=some (Abt x.1 x.2.1 x.2.2.1 x.2.2.2.1 x.2.2.2.2)
def KQ (x:Bp):List Prop:=[((!!decide (x.2.2.2.2 <x.2.2.2.1))=true→(0:Int)≤x.2.2.2.2∧x.2.2.2.2 <(↑x.2.2.1.length:Int)),((!!decide (x.2.2.2.2 <x.2.2.2.1))=true→(!(GW x.1 x.2.1 x.2.2.1 x.2.2.2.1 x.2.2.2.2))=true→Ad (x.2.2.1.getD x.2.2.2.2.toNat (Ae TC.row)).2.length)]
abbrev HK:Bp→List Prop:=KQ
def Oe (x:Bp):AR:=[(some 0,some (!decide (x.2.2.2.2 <x.2.2.2.1)),⟨38,0,[(4,.dead)],[]⟩),(none,some ((Dg x.1 x.2.1 x.2.2.1 x.2.2.2.1 x.2.2.2.2)),⟨38,1,[(4,.v (.int .i64 (GV x.1 x.2.1 x.2.2.1 x.2.2.2.1 x.2.2.2.2)))],[]⟩)]
def GX (x:Bp):Nat:=(x.2.2.2.1 - x.2.2.2.2).toNat
def Fo (x:Bp):Bp:=AF Ej Ei (GX x) x
theorem Aff (a0:List Ab) (a1:ByteArray) (a2:List Ak) (a3:Int) (a4:Int):Ba (As Bj9 L0) 9 (Ag Tryz.prog 31 0) Ta (JY (a0,a1,a2,a3,a4))=some (KQ (a0,a1,a2,a3,a4),Oe (a0,a1,a2,a3,a4),Ei (a0,a1,a2,a3,a4),JY (Ej (a0,a1,a2,a3,a4))):=by kernel_rfl
theorem Afg (a0:List Ab) (a1:ByteArray) (a2:List Ak) (a3:Int) (a4:Int) (hp:∀p∈HK (a0,a1,a2,a3,a4),p):∀p∈KQ (a0,a1,a2,a3,a4),p:=hp
noncomputable def Pv:=HB (As Bj9 L0) (Ag Tryz.prog 31 0) Ta Alk Lt GX Ej Ei HK Oe
theorem Abu:∀s b ps outs,Pv s=some (b,ps,outs)→Wf s ⟨ps,outs,none⟩∧Bg (As C0 L0) b s ps outs:=
 AT (T:=JY) A0d AA (u:=9) (by kernel_rfl) (by decide) (fun⟨a0,a1,a2,a3,a4⟩=>Aff a0 a1 a2 a3 a4) (fun⟨a0,a1,a2,a3,a4⟩=>Afg a0 a1 a2 a3 a4) YR (fun _=>AD (n:=38) rfl) fun _ _=>rfl
noncomputable def S9:=Dd 0 Pv L0
theorem Abr:G9 S9:=AH Abu AA
def JP (a0:List Ab) (_a1:List Ak):Bool:=Bi a0 !=(0:Int)
def P0 (a0:List Ab) (a1:List Ak):List Ab:=(Fo (a0,ByteArray.mk #[],a1,(↑a1.length:Int),(0:Int))).fst
def PZ (a0:List Ab) (a1:List Ak):ByteArray:=(Fo (a0,ByteArray.mk #[],a1,(↑a1.length:Int),(0:Int))).snd.fst
def PY (a0:List Ab) (a1:List Ak):List Ak:=(Fo (a0,ByteArray.mk #[],a1,(↑a1.length:Int),(0:Int))).snd.snd.fst
def PX (a0:List Ab) (a1:List Ak):Int:=(Fo (a0,ByteArray.mk #[],a1,(↑a1.length:Int),(0:Int))).snd.snd.snd.snd
def PW (a0:List Ab) (a1:List Ak):Int:=(Fo (a0,ByteArray.mk #[],a1,(↑a1.length:Int),(0:Int))).snd.snd.snd.fst
def So (a0:List Ab) (a1:List Ak):Int:=bif(JP a0 a1) then Bi a0 else bif Dg (P0 a0 a1) (PZ a0 a1) (PY a0 a1) (PW a0 a1) (PX a0 a1) then GV (P0 a0 a1) (PZ a0 a1) (PY a0 a1) (PW a0 a1) (PX a0 a1) else(0:Int)
def Sp (a0:List Ab) (a1:List Ak):A:=.v (.int .i64 (So a0 a1))
def Abv (_a0:List Ab) (_a1:List Ak):Objs:=[]
def Xv (a0:List Ab) (a1:List Ak):List Prop:=[((!(JP a0 a1))=true→Ax Ej Ei HK (GX (a0,ByteArray.mk #[],a1,(↑a1.length:Int),(0:Int))) (a0,ByteArray.mk #[],a1,(↑a1.length:Int),(0:Int)))]
theorem Avh (a0:List Ab) (a1:List Ak):Hz (As Bj9 S9) 9 31 [.sl .group a0,Ai .rows a1] 0 []=some (1,Sp a0 a1,0,Abv a0 a1,[((!(JP a0 a1))=true→Ag Tryz.prog (31:FuncId) (0:Nat)=Ag Tryz.prog (31:FuncId) (0:Nat)),((!(JP a0 a1))=true→Ax Ej Ei HK (GX (a0,ByteArray.mk #[],a1,(↑a1.length:Int),(0:Int))) (a0,ByteArray.mk #[],a1,(↑a1.length:Int),(0:Int)))]):=by kernel_rfl
theorem A1u (a0:List Ab) (a1:List Ak) (hp:∀p∈Xv a0 a1,p):CallOk Tryz.prog 31 [.sl .group a0,Ai .rows a1] 0 [] 1 (Sp a0 a1) 0 (Abv a0 a1):=by
 have n0:((!(JP a0 a1))=true→Ag Tryz.prog (31:FuncId) (0:Nat)=Ag Tryz.prog (31:FuncId) (0:Nat)):=by intros;rfl
 have n1:=N0 hp
 exact AB (Ar A0d Abr) (Avh a0 a1) (Aa n0 (Aa n1 Af))
def Xw (a0:List Ab) (a1:List Ak):A:=.v (.int .i64 (S7 a0 a1))
def Xu (_a0:List Ab) (_a1:List Ak):Objs:=[]
def UT (_a0:List Ab) (a1:List Ak):List Prop:=[Am a1.length]
theorem Ank (l:List Ab) (rows:List Ak) (i:Nat):(Aa2 l rows i !=0)=(AI l (NE rows i) !=0||(NT (NE rows i)||leS (NE rows i).key (S8 rows i))):=by
 unfold Aa2
 cases h:AI l (NE rows i) !=0 with
 |true=>rw[cond_true,h,Bool.true_or]
 |false=>cases NT (NE rows i)||leS (NE rows i).key (S8 rows i)<;>rfl
theorem Xs (l:List Ab) (rows:List Ak) (hb:Am rows.length):(∀p∈Xv l rows,p)∧So l rows=S7 l rows:=by
 unfold Am at hb
 have hf:∀i:Nat,Dg l (S8 rows i) rows (rows.length:Int) (i:Int)=(decide (i <rows.length)&&Aa2 l rows i !=0):=fun i=>by
  rw[Ank]
  unfold Dg GW leS ltS
  rw[nn,Mu,Int.toNat_natCast,tlb]
  rfl
 obtain⟨h1,k,hk,hx,hs,hst,_⟩:=RJ (fun i=>((l,S8 rows i,rows,(rows.length:Int),(i:Int)):Bp)) rows.length (fun i=>Aa2 l rows i !=0) Ej Ei HK (GX (l,ByteArray.mk #[],rows,(rows.length:Int),0)) (l,ByteArray.mk #[],rows,(rows.length:Int),0) rfl (by show rows.length≤((rows.length:Int) - 0).toNat;omega)
  (fun i _ _=>by
   show((!!decide ((i:Int) <(rows.length:Int)))&&!Dg l (S8 rows i) rows (rows.length:Int) (i:Int))=_
   rw[hf,nn,Mu]
   cases decide (i <rows.length)<;>rfl)
  (fun i hi _=>by
   show(l,(rows.getD ((i:Int)).toNat (Ae TC.row)).1,rows,(rows.length:Int),IntKind.i64.wrap ((i:Int)+1))=(l,S8 rows (i+1),rows,(rows.length:Int),((i+1:Nat):Int))
   rw[Fz (by omega),Int.toNat_natCast]
   rfl)
  (fun i hi _=>by
   have hin:(!!decide ((i:Int) <(rows.length:Int)))=true→(i:Int) <(rows.length:Int):=fun h=>by rw[nn] at h;exact of_decide_eq_true h
   refine Aa (fun h=>⟨by show(0:Int)≤(i:Int);omega,hin h⟩) (Aa (fun _ h2=>?_) Af)
   have h3:AI l (rows.getD ((i:Int)).toNat (Ae TC.row))=0:=by
    have h4:(!(AI l (rows.getD ((i:Int)).toNat (Ae TC.row)) !=0))=true:=h2
    simpa using h4
   obtain⟨g1,g2,_⟩:=IE h3
   have:=(Sg g1).2
   show Ad (rows.getD ((i:Int)).toNat (Ae TC.row)).cells.length
   unfold Ad
   omega)
 have hr:Fo (l,ByteArray.mk #[],rows,(rows.length:Int),0)=(l,S8 rows k,rows,(rows.length:Int),(k:Int)):=hx
 refine⟨Aa (fun _=>h1) Af,?_⟩
 unfold So S7
 show(bif Bi l !=0 then Bi l else _)=_
 congr 1
 unfold P0 PZ PY PX PW
 rw[hr]
 show(bif Dg l (S8 rows k) rows (rows.length:Int) (k:Int) then GV l (S8 rows k) rows (rows.length:Int) (k:Int) else 0)=_
 rw[hf]
 have h0:Gf l rows k=0:=(Ao7 l rows k).2 fun i hi=>by simpa using hs i hi
 rcases Nat.lt_or_ge k rows.length with h|h
 ·have he:=hst h
  rw[decide_eq_true h,he]
  have e1:Gf l rows (k+1)=Aa2 l rows k:=by
   show(bif Gf l rows k !=0 then Gf l rows k else Aa2 l rows k)=_
   rw[h0];rfl
  have hne:Gf l rows (k+1)≠0:=by rw[e1];simpa using he
  rw[Uv hne rows.length h,e1]
  show GV l (S8 rows k) rows (rows.length:Int) (k:Int)=_
  unfold GV GW
  rw[Int.toNat_natCast]
  rw[Ank] at he
  unfold Aa2
  show(bif AI l (NE rows k) !=0 then AI l (NE rows k) else 100)=_
  cases hg:AI l (NE rows k) !=0 with
  |true=>rfl
  |false=>
   rw[hg,Bool.false_or] at he
   rw[he]
   rfl
 ·obtain rfl:k=rows.length:=by omega
  rw[decide_eq_false (Nat.lt_irrefl _),h0]
  rfl
theorem Avg (a0:List Ab) (a1:List Ak) (hp:∀p∈UT a0 a1,p):CallOk Tryz.prog 31 [.sl .group a0,Ai .rows a1] 0 [] 1 (Xw a0 a1) 0 (Xu a0 a1):=by
 have hb:Am a1.length:=hp _ (List.mem_cons_self ..)
 have h:=A1u a0 a1 (Xs a0 a1 hb).1
 unfold Sp at h
 rw[(Xs a0 a1 hb).2] at h
 exact h
def Sq:List A→Nat→Objs→Option A6:=Bt [.l .group,.t .rows] 0 Xw Xu UT
theorem UU:HF Tryz.prog 31 Sq:=Av (ks:=[.l .group,.t .rows]) Avg
noncomputable def Bvu:=AS 31 Sq Bj9
theorem Bpa:Cr Tryz.prog Bvu:=An UU A0d
noncomputable def Cn:=Bvu
theorem A4h:Cr Tryz.prog Cn:=Bpa
end Go.Proofs.YtifkbgkbajncjaaGreatDoor
namespace Go.Proofs.YtifkbgkbajncjaaGreatDoor
open Go.RowKit
def Lex (r e s:Prop):Prop:=r∨(e∧s)
theorem Ra {r1 r2 r3 e1 e2 e3 s1 s2 s3:Prop} (hr:r1→r2→r3) (hre:r1→e2→r3) (her:e1→r2→r3) (hee:e1→e2→e3) (hs:s1→s2→s3):Lex r1 e1 s1→Lex r2 e2 s2→Lex r3 e3 s3
 | .inl a,.inl b=> .inl (hr a b)
 | .inl a,.inr b=> .inl (hre a b.1)
 | .inr a,.inl b=> .inl (her a.1 b)
 | .inr a,.inr b=> .inr ⟨hee a.1 b.1,hs a.2 b.2⟩
theorem Q9 {r1 r2 e1 e2 s1 s2 t e:Prop} (h:r1∨e∨r2) (h1:e→e1) (h2:e→e2) (hs:s1∨t∨s2):Lex r1 e1 s1∨(e∧t)∨Lex r2 e2 s2:=by
 rcases h with h|h|h
 ·exact .inl (.inl h)
 ·rcases hs with g|g|g
  ·exact .inl (.inr ⟨h1 h,g⟩)
  ·exact .inr (.inl ⟨h,g⟩)
  ·exact .inr (.inr (.inr ⟨h2 h,g⟩))
 ·exact .inr (.inr (.inl h))
def TZ (a b:TCell):Prop:=
 Lex (a.stamp.n <b.stamp.n) (a.stamp.n=b.stamp.n) (Lex (a.stamp.site <b.stamp.site) (a.stamp.site=b.stamp.site) (Lex (a.gone=false∧b.gone=true) (a.gone=b.gone) (Lex (ltS a.value b.value=true) (a.value=b.value) (Lex (a.vec.a <b.vec.a) (a.vec.a=b.vec.a) (a.vec.b <b.vec.b)))))
theorem Apk {a b c:TCell}:TZ a b→TZ b c→TZ a c:=
 Ra (by omega) (by omega) (by omega) (by omega) (Ra (by omega) (by omega) (by omega) (by omega)
  (Ra (fun h g=>by rw[h.2] at g;exact absurd g.1 (by decide)) (fun h g=>⟨h.1,g▸h.2⟩) (fun h g=>⟨h▸g.1,g.2⟩) (fun h g=>h.trans g)
   (Ra Ayf (fun h g=>g▸h) (fun h g=>h▸g) (fun h g=>h.trans g) (Ra (by omega) (by omega) (by omega) (by omega) (by omega)))))
def Btc (a b:TCell):Prop:=a.stamp.n=b.stamp.n∧a.stamp.site=b.stamp.site∧a.gone=b.gone∧a.value=b.value∧a.vec.a=b.vec.a∧a.vec.b=b.vec.b
theorem Bbt (a b:TCell):TZ a b∨Btc a b∨TZ b a:=by
 refine Q9 (by omega) id Eq.symm (Q9 (by omega) id Eq.symm (Q9 ?_ id Eq.symm (Q9 ?_ id Eq.symm (Q9 (by omega) id Eq.symm (by omega)))))
 ·cases a.gone<;>cases b.gone<;>simp
 ·by_cases h:a.value=b.value
  ·exact .inr (.inl h)
  ·cases h1:ltS a.value b.value with
   |true=>exact .inl rfl
   |false=>exact .inr (.inr (Aye h1 h))
def Bgf (a b:TCell):Bool:=
 bif !(a.stamp.n==b.stamp.n&&a.stamp.site==b.stamp.site) then decide (a.stamp.n <b.stamp.n)||(a.stamp.n==b.stamp.n&&decide (a.stamp.site <b.stamp.site))
 else bif a.gone !=b.gone then b.gone
 else bif !(a.value==b.value) then ltS a.value b.value
 else bif a.vec.a !=b.vec.a then decide (a.vec.a <b.vec.a)
 else decide (a.vec.b <b.vec.b)
theorem Ayc {a b:TCell}:Bgf a b=true↔TZ a b:=by
 unfold Bgf TZ Lex
 by_cases h1:a.stamp.n=b.stamp.n
 ·by_cases h2:a.stamp.site=b.stamp.site
  ·have e:(a.stamp.n==b.stamp.n&&a.stamp.site==b.stamp.site)=true:=by rw[h1,h2];simp
   rw[e,Bool.not_true,cond_false]
   simp only[h1,h2,false_or,true_and,Int.lt_irrefl]
   by_cases h3:a.gone=b.gone
   ·have e3:(a.gone !=b.gone)=false:=by rw[h3];simp
    have n3:¬(a.gone=false∧b.gone=true):=by rw[h3];rintro⟨x,y⟩;rw[x] at y;cases y
    rw[e3,cond_false]
    have n3':¬(b.gone=false∧b.gone=true):=by rintro⟨x,y⟩;rw[x] at y;cases y
    simp only[h3,n3',false_or,true_and]
    by_cases h4:a.value=b.value
    ·have e4:(a.value==b.value)=true:=beq_iff_eq.2 h4
     rw[e4,Bool.not_true,cond_false]
     simp only[h4,true_and]
     have n4':¬ltS b.value b.value=true:=fun h=>Bms h rfl
     simp only[n4',Bool.false_eq_true,false_or]
     by_cases h5:a.vec.a=b.vec.a
     ·have e5:(a.vec.a !=b.vec.a)=false:=by rw[h5];simp
      rw[e5,cond_false,decide_eq_true_eq]
      omega
     ·have e5:(a.vec.a !=b.vec.a)=true:=by simpa using h5
      rw[e5,cond_true,decide_eq_true_eq]
      omega
    ·have e4:(a.value==b.value)=false:=beq_eq_false_iff_ne.2 h4
     rw[e4,Bool.not_false,cond_true]
     simp only[h4,false_and,or_false]
   ·have e3:(a.gone !=b.gone)=true:=by simpa using h3
    rw[e3,cond_true]
    simp only[h3,false_and,or_false]
    revert h3
    cases a.gone<;>cases b.gone<;>simp
  ·have e:(a.stamp.n==b.stamp.n&&a.stamp.site==b.stamp.site)=false:=by rw[beq_eq_false_iff_ne.2 h2,Bool.and_false]
   rw[e,Bool.not_false,cond_true]
   simp[h1,h2]
 ·have e:(a.stamp.n==b.stamp.n&&a.stamp.site==b.stamp.site)=false:=by rw[beq_eq_false_iff_ne.2 h1,Bool.false_and]
  rw[e,Bool.not_false,cond_true]
  simp[h1]
def Bbw (a b:TCell):TCell:=bif Bgf a b then b else a
def Bop (a:TCell):TCell:=⟨a.stamp,a.vec,a.gone,a.value,⟨0,0⟩⟩
theorem Bsa {a b:TCell} (h:Btc a b):Bop a=Bop b:=by
 obtain⟨⟨an,asi⟩,⟨ava,avb⟩,ag,av,ad⟩:=a
 obtain⟨⟨bn,bsi⟩,⟨bva,bvb⟩,bg,bv,bd⟩:=b
 obtain⟨h1,h2,h3,h4,h5,h6⟩:=h
 simp only at h1 h2 h3 h4 h5 h6
 subst h1 h2 h3 h4 h5 h6
 rfl
theorem A61 {a b:TCell}:TZ a (Bop b)↔TZ a b:=Iff.rfl
theorem Wv (a b:TCell):(TZ a b∧Bbw a b=b)∨(¬TZ a b∧Bbw a b=a):=by
 unfold Bbw
 cases h:Bgf a b with
 |true=>exact .inl ⟨Ayc.1 h,rfl⟩
 |false=>exact .inr ⟨fun g=>(by rw[Ayc.2 g] at h;cases h),rfl⟩
theorem max_assoc (a b c:TCell):Bop (Bbw (Bbw a b) c)=Bop (Bbw a (Bbw b c)):=by
 rcases Wv a b with⟨h,e⟩|⟨h,e⟩<;>rcases Wv b c with⟨g,f⟩|⟨g,f⟩
 ·rw[e,f]
  rcases Wv a c with⟨_,q⟩|⟨r,_⟩
  ·rw[q]
  ·exact absurd (Apk h g) r
 ·rw[e,f,e]
 ·rw[e,f]
 ·rw[e,f,e]
  rcases Wv a c with⟨r,q⟩|⟨_,q⟩
  ·rcases Bbt b c with t|t|t
   ·exact absurd t g
   ·have:=Bsa t
    rw[←A61 (b:=c),←this] at r
    exact absurd (A61.1 r) h
   ·exact absurd (Apk r t) h
  ·rw[q]
end Go.Proofs.YtifkbgkbajncjaaGreatDoor
namespace Go.Proofs.YtifkbgkbajncjaaGreatDoor
open Go.RowKit
structure Stt (l:List Ab) (rows:List Ak):Prop where
 rise:Bxh rows
 good:∀r∈rows,AI l r=0∧NT r=false
theorem Stt.tail {l:List Ab} {x:Ak} {a:List Ak} (h:Stt l (x::a)):Stt l a:=⟨(List.pairwise_cons.1 h.rise).2,fun r hr=>h.good r (List.mem_cons_of_mem _ hr)⟩
end Go.Proofs.YtifkbgkbajncjaaGreatDoor
namespace Go.Proofs.YtifkbgkbajncjaaGreatDoor
open Go.RowKit
def wN (ws:List Aw) (i:Nat):Aw:=ws.getD i (Ae TC.write)
def T1 (a b:Aw):Bool:=ltS a.key b.key||a.key==b.key&&decide (a.group <b.group)
def Anf (l:List Ab) (w:Aw):Bool:=!(w.key.size==0)&&decide (w.key.size≤32)&&decide (0≤w.group)&&decide (w.group <(l.length:Int))&&decide (w.value.size≤64)&&(!w.gone||w.value.size==0)
def N9 (c:TChange):Bool:=(c.site==1||c.site==2)&&decide (1≤c.seq)&&decide (c.seq≤1099511627776)&&c.stamp.site==c.site&&JG c.stamp&&G8 c.vec&&(bif c.site==1 then c.vec.a else c.vec.b)==c.seq
def O7 (l:List Ab) (ws:List Aw) (i:Nat):Bool:=!Anf l (wN ws i)||decide (0 <i)&&!T1 (wN ws (i - 1)) (wN ws i)
def All (c:TChange):Bool:=decide (1≤c.writes.length)&&decide (c.writes.length≤8)
def WT (l:List Ab) (c:TChange):Int:=bif Bi l !=0 then Bi l else bif N9 c&&All c&&Lf c.writes.length (fun i=>!O7 l c.writes i) then 0 else 120
def IU (a0:Aw):TPlace:=TPlace.mk a0.1 a0.2
def Uc (a0:Aw):A:=.v (.agg ⟨[.string ((IU a0).key),.int .i64 ((IU a0).group)]⟩)
def Ub (_a0:Aw):Objs:=[]
def R7 (_a0:Aw):List Prop:=[]
theorem A0v (a0:Aw):Hz (As Cn L0) 9 66 [Ai .write a0] 0 []=some (1,Uc a0,0,Ub a0,R7 a0):=by kernel_rfl
theorem A5m (a0:Aw) (hp:∀p∈R7 a0,p):CallOk Tryz.prog 66 [Ai .write a0] 0 [] 1 (Uc a0) 0 (Ub a0):=AB (Ar A4h AA) (A0v a0) hp
def Ahk:List A→Nat→Objs→Option A6:=Bt [.t .write] 0 Uc Ub R7
theorem Auz:HF Tryz.prog 66 Ahk:=Av (ks:=[.t .write]) A5m
noncomputable def Bjw:=AS 66 Ahk Cn
theorem A4a:Cr Tryz.prog Bjw:=An Auz A4h
def Hs (a0:TPlace) (a1:TPlace):Bool:=Op.bytesLess a0.1.toList a1.1.toList||a0.1.toList==a1.1.toList&&decide (a0.2 <a1.2)
def IW (a0:TPlace) (a1:TPlace):A:=.v (.bool (Hs a0 a1))
def IV (_a0:TPlace) (_a1:TPlace):Objs:=[]
def IL (_a0:TPlace) (_a1:TPlace):List Prop:=[]
theorem TV (a0:TPlace) (a1:TPlace):Hz (As Bjw L0) 9 67 [Ai .place a0,Ai .place a1] 0 []=some (1,IW a0 a1,0,IV a0 a1,IL a0 a1):=by kernel_rfl
theorem Ud (a0:TPlace) (a1:TPlace) (hp:∀p∈IL a0 a1,p):CallOk Tryz.prog 67 [Ai .place a0,Ai .place a1] 0 [] 1 (IW a0 a1) 0 (IV a0 a1):=AB (Ar A4a AA) (TV a0 a1) hp
def Mb:List A→Nat→Objs→Option A6:=Bt [.t .place,.t .place] 0 IW IV IL
theorem R8:HF Tryz.prog 67 Mb:=Av (ks:=[.t .place,.t .place]) Ud
noncomputable def Bjx:=AS 67 Mb Bjw
theorem A4b:Cr Tryz.prog Bjx:=An R8 A4a
def PI (a0:Aw) (a1:Aw):Bool:=bif !a0.1.toList==a1.1.toList then Op.bytesLess a0.1.toList a1.1.toList else decide (a0.2 <a1.2)
def VH (a0:Aw) (a1:Aw):A:=.v (.bool (PI a0 a1))
def VG (_a0:Aw) (_a1:Aw):Objs:=[]
def SJ (_a0:Aw) (_a1:Aw):List Prop:=[]
theorem A2w (a0:Aw) (a1:Aw):Hz (As Bjx L0) 9 74 [Ai .write a0,Ai .write a1] 0 []=some (1,VH a0 a1,0,VG a0 a1,SJ a0 a1):=by kernel_rfl
theorem A8q (a0:Aw) (a1:Aw) (hp:∀p∈SJ a0 a1,p):CallOk Tryz.prog 74 [Ai .write a0,Ai .write a1] 0 [] 1 (VH a0 a1) 0 (VG a0 a1):=AB (Ar A4b AA) (A2w a0 a1) hp
def Ajn:List A→Nat→Objs→Option A6:=Bt [.t .write,.t .write] 0 VH VG SJ
theorem Awb:HF Tryz.prog 74 Ajn:=Av (ks:=[.t .write,.t .write]) A8q
noncomputable def Bjy:=AS 74 Ajn Bjx
theorem A4c:Cr Tryz.prog Bjy:=An Awb A4b
def Kp (a0:List Ab) (a1:Aw):Bool:=Ava a1.1==(0:Int)&&decide (a1.2≥(0:Int))&&decide (a1.2 <(↑a0.length:Int))&&decide ((↑a1.4.size:Int)≤(64:Int))&&(!a1.3||a1.4.toList==(ByteArray.mk #[]).toList)
def VJ (a0:List Ab) (a1:Aw):A:=.v (.bool (Kp a0 a1))
def VI (_a0:List Ab) (_a1:Aw):Objs:=[]
def SK (_a0:List Ab) (_a1:Aw):List Prop:=[]
theorem A2x (a0:List Ab) (a1:Aw):Hz (As Bjy L0) 9 73 [.sl .group a0,Ai .write a1] 0 []=some (1,VJ a0 a1,0,VI a0 a1,SK a0 a1):=by kernel_rfl
theorem A8r (a0:List Ab) (a1:Aw) (hp:∀p∈SK a0 a1,p):CallOk Tryz.prog 73 [.sl .group a0,Ai .write a1] 0 [] 1 (VJ a0 a1) 0 (VI a0 a1):=AB (Ar A4c AA) (A2x a0 a1) hp
def Ajo:List A→Nat→Objs→Option A6:=Bt [.l .group,.t .write] 0 VJ VI SK
theorem Awc:HF Tryz.prog 73 Ajo:=Av (ks:=[.l .group,.t .write]) A8r
noncomputable def A4d:=AS 73 Ajo Bjy
theorem Anx:Cr Tryz.prog A4d:=An Awc A4c
abbrev Bb:Type:=(List Ab)×(List Aw)×Int×Int×TChange
def Jh (x:Bb):St:=⟨132,1,[(0,.sl .group x.1),(3,.own 0 0),(73,.sl .write x.2.1),(74,.v (.int .i64 x.2.2.1)),(75,.v (.int .i64 x.2.2.2.1))],[(0,some (.box 29 [.v (.int .i64 x.2.2.2.2.site),.v (.int .i64 x.2.2.2.2.seq),.v (.int .i64 x.2.2.2.2.stamp.n),.v (.int .i64 x.2.2.2.2.stamp.site),.v (.int .i64 x.2.2.2.2.vec.a),.v (.int .i64 x.2.2.2.2.vec.b),.sl .write x.2.2.2.2.writes]))]⟩
def Kt:St→Option Bb
 |⟨132,1,[(0,.sl .group z0),(3,.own 0 0),(73,.sl .write z1),(74,.v (.int .i64 z2)),(75,.v (.int .i64 z3))],[(0,some (.box 29 [.v (.int .i64 z4),.v (.int .i64 z5),.v (.int .i64 z6),.v (.int .i64 z7),.v (.int .i64 z8),.v (.int .i64 z9),.sl .write z10]))]⟩=>some (z0,z1,z2,z3,⟨z4,z5,⟨z6,z7⟩,⟨z8,z9⟩,z10⟩)
 |_=>none
theorem WU:∀s x,Kt s=some x→s=Jh x:=fun s x h=>by
 unfold Kt at h
 split at h
 ·cases h;rfl
 ·cases h
def QG:Cz:=⟨1,1,[0,3,73,74,75],[],[(0,0)],[0],[4],[0]⟩
def Aed:CX:=⟨[],[(0,0)],[0,3,73,74,75],[0]⟩
def HH (_a0:List Ab) (_a1:List Aw) (_a2:Int) (a3:Int) (_a4:TChange):Int:=IntKind.i64.wrap (a3 - (1:Int))
def HG (a0:List Ab) (a1:List Aw) (_a2:Int) (a3:Int) (_a4:TChange):Bool:=(a1.getD a3.toNat (Ae TC.write)).1.toList==(ByteArray.mk #[]).toList||decide ((↑(a1.getD a3.toNat (Ae TC.write)).1.size:Int) >(32:Int))||decide ((a1.getD a3.toNat (Ae TC.write)).2 <(0:Int))||decide ((a1.getD a3.toNat (Ae TC.write)).2≥(↑a0.length:Int))||decide ((↑(a1.getD a3.toNat (Ae TC.write)).4.size:Int) >(64:Int))||(a1.getD a3.toNat (Ae TC.write)).3&&!(a1.getD a3.toNat (Ae TC.write)).4.toList==(ByteArray.mk #[]).toList
def BQ (a0:List Ab) (a1:List Aw) (a2:Int) (a3:Int) (a4:TChange):Bool:=!!decide (a3 <a2)&&((HG a0 a1 a2 a3 a4)||decide (a3 >(0:Int))&&!Hs (IU (a4.5.getD (HH a0 a1 a2 a3 a4).toNat (Ae TC.write))) (IU (a1.getD a3.toNat (Ae TC.write))))
def Yy (a0:List Ab) (a1:List Aw) (a2:Int) (a3:Int) (a4:TChange):Bool:=!!decide (a3 <a2)&&!(BQ a0 a1 a2 a3 a4)
def M7 (a0:List Ab) (a1:List Aw) (a2:Int) (a3:Int) (a4:TChange):Int:=bif(HG a0 a1 a2 a3 a4) then(120:Int) else(120:Int)
def DZ (x:Bb):Bb:=(x.1,x.2.1,x.2.2.1,IntKind.i64.wrap (x.2.2.2.1+(1:Int)),x.2.2.2.2)
def DY (x:Bb):Cnd:=some (Yy x.1 x.2.1 x.2.2.1 x.2.2.2.1 x.2.2.2.2)
def J5 (x:Bb):List Prop:=[((!!decide (x.2.2.2.1 <x.2.2.1))=true→(0:Int)≤x.2.2.2.1∧x.2.2.2.1 <(↑x.2.1.length:Int)),((!!decide (x.2.2.2.1 <x.2.2.1))=true→(!(HG x.1 x.2.1 x.2.2.1 x.2.2.2.1 x.2.2.2.2))=true→decide (x.2.2.2.1 >(0:Int))=true→(0:Int)≤(HH x.1 x.2.1 x.2.2.1 x.2.2.2.1 x.2.2.2.2)∧(HH x.1 x.2.1 x.2.2.1 x.2.2.2.1 x.2.2.2.2) <(↑x.2.2.2.2.5.length:Int))]
abbrev Hr:Bb→List Prop:=J5
def M8 (x:Bb):AR:=[(some 0,some (!decide (x.2.2.2.1 <x.2.2.1)),⟨132,1,[(4,.dead)],[(0,some (.box 29 [.v (.int .i64 x.2.2.2.2.1),.v (.int .i64 x.2.2.2.2.2),.v (.int .i64 x.2.2.2.2.3.1),.v (.int .i64 x.2.2.2.2.3.2),.v (.int .i64 x.2.2.2.2.4.1),.v (.int .i64 x.2.2.2.2.4.2),.sl .write x.2.2.2.2.5]))]⟩),(none,some ((BQ x.1 x.2.1 x.2.2.1 x.2.2.2.1 x.2.2.2.2)),⟨132,2,[(4,.v (.int .i64 (M7 x.1 x.2.1 x.2.2.1 x.2.2.2.1 x.2.2.2.2)))],[(0,some (.box 29 [.v (.int .i64 x.2.2.2.2.1),.v (.int .i64 x.2.2.2.2.2),.v (.int .i64 x.2.2.2.2.3.1),.v (.int .i64 x.2.2.2.2.3.2),.v (.int .i64 x.2.2.2.2.4.1),.v (.int .i64 x.2.2.2.2.4.2),.sl .write x.2.2.2.2.5]))]⟩)]
def FY (x:Bb):Nat:=(x.2.2.1 - x.2.2.2.1).toNat
def Ee (x:Bb):Bb:=AF DZ DY (FY x) x
theorem Aaj (a0:List Ab) (a1:List Aw) (a2:Int) (a3:Int) (a4:TChange):Ba (As A4d L0) 9 (Ag Tryz.prog 28 0) QG (Jh (a0,a1,a2,a3,a4))=some (J5 (a0,a1,a2,a3,a4),M8 (a0,a1,a2,a3,a4),DY (a0,a1,a2,a3,a4),Jh (DZ (a0,a1,a2,a3,a4))):=by kernel_rfl
theorem Aak (a0:List Ab) (a1:List Aw) (a2:Int) (a3:Int) (a4:TChange) (hp:∀p∈Hr (a0,a1,a2,a3,a4),p):∀p∈J5 (a0,a1,a2,a3,a4),p:=hp
noncomputable def N6:=HB (As A4d L0) (Ag Tryz.prog 28 0) QG Aed Kt FY DZ DY Hr M8
theorem Yz:∀s b ps outs,N6 s=some (b,ps,outs)→Wf s ⟨ps,outs,none⟩∧Bg (As C0 L0) b s ps outs:=
 AT (T:=Jh) Anx AA (u:=9) (by kernel_rfl) (by decide) (fun⟨a0,a1,a2,a3,a4⟩=>Aaj a0 a1 a2 a3 a4) (fun⟨a0,a1,a2,a3,a4⟩=>Aak a0 a1 a2 a3 a4) WU (fun _=>AD (n:=132) rfl) fun _ _=>rfl
noncomputable def QF:=Dd 0 N6 L0
theorem Yx:G9 QF:=AH Yz AA
def CZ (a0:List Ab) (_a1:TChange):Bool:=Bi a0 !=(0:Int)
def CY (_a0:List Ab) (a1:TChange):Int:=IntKind.i64.wrap (a1.1 - (1:Int))
def N5 (a0:List Ab) (a1:TChange):List Ab:=(Ee (a0,a1.5,(↑a1.5.length:Int),(0:Int),a1)).fst
def GS (_a0:List Ab) (a1:TChange):Bool:=decide ((↑a1.5.length:Int) <(1:Int))||decide ((↑a1.5.length:Int) >(8:Int))
def N4 (a0:List Ab) (a1:TChange):List Aw:=(Ee (a0,a1.5,(↑a1.5.length:Int),(0:Int),a1)).snd.fst
def N3 (a0:List Ab) (a1:TChange):Int:=(Ee (a0,a1.5,(↑a1.5.length:Int),(0:Int),a1)).snd.snd.fst
def NZ (a0:List Ab) (a1:TChange):TChange:=(Ee (a0,a1.5,(↑a1.5.length:Int),(0:Int),a1)).snd.snd.snd.snd
def NY (a0:List Ab) (a1:TChange):Int:=(Ee (a0,a1.5,(↑a1.5.length:Int),(0:Int),a1)).snd.snd.snd.fst
def GR (a0:List Ab) (a1:TChange):Bool:=a1.1 !=(1:Int)&&a1.1 !=(2:Int)||decide (a1.2 <(1:Int))||decide (a1.2 >(1099511627776:Int))||a1.3.2 !=a1.1||!Dc a1.3||!BU a1.4||(bif(CY a0 a1).toNat.beq (0:Nat) then a1.4.1 else a1.4.2) !=a1.2
def PP (a0:List Ab) (a1:TChange):Int:=bif(CZ a0 a1) then Bi a0 else bif(GR a0 a1) then(120:Int) else bif(GS a0 a1) then(120:Int) else bif BQ (N5 a0 a1) (N4 a0 a1) (N3 a0 a1) (NY a0 a1) (NZ a0 a1) then M7 (N5 a0 a1) (N4 a0 a1) (N3 a0 a1) (NY a0 a1) (NZ a0 a1) else(0:Int)
def PQ (a0:List Ab) (a1:TChange):A:=.v (.int .i64 (PP a0 a1))
def Xi (_a0:List Ab) (_a1:TChange):Objs:=[]
def T8 (a0:List Ab) (a1:TChange):List Prop:=[((!(CZ a0 a1))=true→(a1.1 !=(1:Int)&&a1.1 !=(2:Int)||decide (a1.2 <(1:Int))||decide (a1.2 >(1099511627776:Int))||a1.3.2 !=a1.1||!Dc a1.3||!BU a1.4)=false→(0:Int)≤(CY a0 a1)∧(CY a0 a1) <(2:Int)),((!(CZ a0 a1))=true→(!(GR a0 a1))=true→(!(GS a0 a1))=true→Ax DZ DY Hr (FY (a0,a1.5,(↑a1.5.length:Int),(0:Int),a1)) (a0,a1.5,(↑a1.5.length:Int),(0:Int),a1))]
theorem Aom (a0:List Ab) (a1:TChange):Hz (As A4d QF) 9 28 [.sl .group a0,Ai .change a1] 0 []=some (1,PQ a0 a1,0,Xi a0 a1,[((!(CZ a0 a1))=true→(a1.1 !=(1:Int)&&a1.1 !=(2:Int)||decide (a1.2 <(1:Int))||decide (a1.2 >(1099511627776:Int))||a1.3.2 !=a1.1||!Dc a1.3||!BU a1.4)=false→(0:Int)≤(CY a0 a1)∧(CY a0 a1) <(2:Int)),((!(CZ a0 a1))=true→(a1.1 !=(1:Int)&&a1.1 !=(2:Int)||decide (a1.2 <(1:Int))||decide (a1.2 >(1099511627776:Int))||a1.3.2 !=a1.1||!Dc a1.3||!BU a1.4)=false→(CY a0 a1).toNat <(2:Nat)),((!(CZ a0 a1))=true→(!(GR a0 a1))=true→(!(GS a0 a1))=true→Ag Tryz.prog (28:FuncId) (0:Nat)=Ag Tryz.prog (28:FuncId) (0:Nat)),((!(CZ a0 a1))=true→(!(GR a0 a1))=true→(!(GS a0 a1))=true→Ax DZ DY Hr (FY (a0,a1.5,(↑a1.5.length:Int),(0:Int),a1)) (a0,a1.5,(↑a1.5.length:Int),(0:Int),a1))]):=by kernel_rfl
theorem Auv (a0:List Ab) (a1:TChange) (hp:∀p∈T8 a0 a1,p):CallOk Tryz.prog 28 [.sl .group a0,Ai .change a1] 0 [] 1 (PQ a0 a1) 0 (Xi a0 a1):=by
 have n0:((!(CZ a0 a1))=true→(a1.1 !=(1:Int)&&a1.1 !=(2:Int)||decide (a1.2 <(1:Int))||decide (a1.2 >(1099511627776:Int))||a1.3.2 !=a1.1||!Dc a1.3||!BU a1.4)=false→(0:Int)≤(CY a0 a1)∧(CY a0 a1) <(2:Int)):=N0 hp
 have n1:((!(CZ a0 a1))=true→(a1.1 !=(1:Int)&&a1.1 !=(2:Int)||decide (a1.2 <(1:Int))||decide (a1.2 >(1099511627776:Int))||a1.3.2 !=a1.1||!Dc a1.3||!BU a1.4)=false→(CY a0 a1).toNat <(2:Nat)):=by intro h0 h1;have g:=n0 h0 h1;omega
 have n2:((!(CZ a0 a1))=true→(!(GR a0 a1))=true→(!(GS a0 a1))=true→Ag Tryz.prog (28:FuncId) (0:Nat)=Ag Tryz.prog (28:FuncId) (0:Nat)):=by intros;rfl
 have n3:=N0 (N1 hp)
 exact AB (Ar Anx Yx) (Aom a0 a1) (Aa n0 (Aa n1 (Aa n2 (Aa n3 Af))))
def T9 (a0:List Ab) (a1:TChange):A:=.v (.int .i64 (WT a0 a1))
def T7 (_a0:List Ab) (_a1:TChange):Objs:=[]
def S1 (_a0:List Ab) (a1:TChange):List Prop:=[Am a1.writes.length]
theorem Bnq {c:TChange} (h:c.site=1∨c.site=2):(bif(IntKind.i64.wrap (c.site - 1)).toNat.beq 0 then c.vec.a else c.vec.b)=bif c.site==1 then c.vec.a else c.vec.b:=by
 rcases h with h|h<;>rw[h]<;>rfl
theorem Bha {c:TChange} (h:c.site=1∨c.site=2):(0:Int)≤IntKind.i64.wrap (c.site - 1)∧IntKind.i64.wrap (c.site - 1) <(2:Int):=by
 rcases h with h|h<;>rw[h]<;>decide
theorem Buq {n:Int}:(n !=1&&n !=2)=false↔n=1∨n=2:=by
 constructor
 ·intro h
  rcases Decidable.em (n=1) with e|e
  ·exact .inl e
  ·rcases Decidable.em (n=2) with e2|e2
   ·exact .inr e2
   ·have h1:(n !=1)=true:=bne_iff_ne.2 e
    have h2:(n !=2)=true:=bne_iff_ne.2 e2
    rw[h1,h2] at h
    cases h
 ·rintro(rfl|rfl)<;>rfl
theorem Bf7 (c:TChange):N9 c=!(c.site !=1&&c.site !=2||decide (c.seq <1)||decide (c.seq >1099511627776)||c.stamp.site !=c.site||!JG c.stamp||!G8 c.vec||(bif(IntKind.i64.wrap (c.site - 1)).toNat.beq 0 then c.vec.a else c.vec.b) !=c.seq):=by
 unfold N9
 cases h:c.site !=1&&c.site !=2 with
 |true=>
  rw[Bool.and_eq_true,bne_iff_ne,bne_iff_ne] at h
  rw[beq_eq_false_iff_ne.2 h.1,beq_eq_false_iff_ne.2 h.2]
  rfl
 | false=>
  have hs:=Buq.1 h
  have h1:(c.site==1||c.site==2)=true:=by rcases hs with e|e<;>rw[e]<;>rfl
  have h2:decide (c.seq <1)=!decide (1≤c.seq):=by
   rw[←decide_not];exact decide_eq_decide.2 (by omega)
  have h3:decide (c.seq >1099511627776)=!decide (c.seq≤1099511627776):=by
   rw[←decide_not];exact decide_eq_decide.2 (by omega)
  rw[h1,Bnq hs,h2,h3]
  unfold bne
  cases decide (1≤c.seq)<;>cases decide (c.seq≤1099511627776)<;>cases c.stamp.site==c.site<;>cases JG c.stamp<;>cases G8 c.vec<;>simp
theorem Br9 (l:List Ab) (w:Aw):(w.1.toList==(ByteArray.mk #[]).toList||decide ((w.1.size:Int) >(32:Int))||decide (w.2 <(0:Int))||decide (w.2≥(l.length:Int))||decide ((w.4.size:Int) >(64:Int))||w.3&&!w.4.toList==(ByteArray.mk #[]).toList)=!Anf l w:=by
 have e1:(w.1.toList==(ByteArray.mk #[]).toList)=(w.key.size==0):=Sr _
 have e2:(w.4.toList==(ByteArray.mk #[]).toList)=(w.value.size==0):=Sr _
 have h1:decide ((w.1.size:Int) >(32:Int))=!decide (w.key.size≤32):=by rw[←decide_not];exact decide_eq_decide.2 (by omega)
 have h2:decide (w.2 <(0:Int))=!decide (0≤w.group):=by rw[←decide_not];exact decide_eq_decide.2 (by omega)
 have h3:decide (w.2≥(l.length:Int))=!decide (w.group <(l.length:Int)):=by rw[←decide_not];exact decide_eq_decide.2 (by omega)
 have h4:decide ((w.4.size:Int) >(64:Int))=!decide (w.value.size≤64):=by rw[←decide_not];exact decide_eq_decide.2 (by omega)
 rw[e1,e2,h1,h2,h3,h4]
 unfold Anf
 cases w.key.size==0<;>cases decide (w.key.size≤32)<;>cases decide (0≤w.group)<;>cases decide (w.group <(l.length:Int))<;>cases decide (w.value.size≤64)<;>cases w.gone<;>cases w.value.size==0<;>rfl
theorem Bk3 (a b:Aw):Hs (IU a) (IU b)=T1 a b:=by
 unfold Hs IU T1 ltS
 rw[←tlb]
theorem Bfl (l:List Ab) (c:TChange) (i:Nat) (hi:i≤9223372036854775807):BQ l c.writes (c.writes.length:Int) (i:Int) c=(decide (i <c.writes.length)&&O7 l c.writes i):=by
 have e:BQ l c.writes (c.writes.length:Int) (i:Int) c=(decide (i <c.writes.length)&&(!Anf l (wN c.writes i)||decide ((i:Int) >0)&&!T1 (wN c.writes (IntKind.i64.wrap ((i:Int) - 1)).toNat) (wN c.writes i))):=by
  unfold BQ HG HH
  rw[nn,Mu,Int.toNat_natCast,Bk3,Br9]
  rfl
 rw[e]
 unfold O7
 cases i with
 |zero=>rfl
 |succ j=>
  have h1:(IntKind.i64.wrap (((j+1:Nat):Int) - 1)).toNat=j+1 - 1:=by rw[i64_in (by omega)];omega
  have h2:decide (((j+1:Nat):Int) >0)=decide (0 <j+1):=decide_eq_decide.2 (by omega)
  rw[h1,h2]
theorem T6 (l:List Ab) (c:TChange) (hb:Am c.writes.length):(∀p∈T8 l c,p)∧PP l c=WT l c:=by
 unfold Am at hb
 obtain⟨h1,k,hk,hx,_,_,hb'⟩:=RJ (fun i=>((l,c.writes,(c.writes.length:Int),(i:Int),c):Bb)) c.writes.length (fun i=>O7 l c.writes i) DZ DY Hr (FY (l,c.writes,(c.writes.length:Int),0,c)) (l,c.writes,(c.writes.length:Int),0,c) rfl (by show c.writes.length≤((c.writes.length:Int) - 0).toNat;omega)
  (fun i hi _=>by
   show((!!decide ((i:Int) <(c.writes.length:Int)))&&!BQ l c.writes (c.writes.length:Int) (i:Int) c)=_
   rw[Bfl l c i (by omega),nn,Mu]
   cases decide (i <c.writes.length)<;>rfl)
  (fun i hi _=>by
   show(l,c.writes,(c.writes.length:Int),IntKind.i64.wrap ((i:Int)+1),c)=(l,c.writes,(c.writes.length:Int),((i+1:Nat):Int),c)
   rw[Fz (by omega)])
  (fun i hi _=>by
   have hin:(!!decide ((i:Int) <(c.writes.length:Int)))=true→(i:Int) <(c.writes.length:Int):=fun h=>by rw[nn] at h;exact of_decide_eq_true h
   refine Aa (fun h=>⟨by show(0:Int)≤(i:Int);omega,hin h⟩) (Aa (fun h _ h3=>?_) Af)
   have h4:(i:Int) >0:=of_decide_eq_true h3
   have h5:=hin h
   show(0:Int)≤IntKind.i64.wrap ((i:Int) - 1)∧IntKind.i64.wrap ((i:Int) - 1) <(c.writes.length:Int)
   rw[i64_in (by omega)]
   omega)
 have hr:Ee (l,c.writes,(c.writes.length:Int),0,c)=(l,c.writes,(c.writes.length:Int),(k:Int),c):=hx
 refine⟨Aa (fun _ h=>Bha (Buq.1 (by
  cases hs:c.site !=1&&c.site !=2 with
  |false=>rfl
  |true=>
   have h':(c.site !=(1:Int)&&c.site !=(2:Int)||decide (c.seq <(1:Int))||decide (c.seq >(1099511627776:Int))||c.stamp.site !=c.site||!Dc c.stamp||!BU c.vec)=false:=h
   rw[hs] at h'
   simp at h'))) (Aa (fun _ _ _=>h1) Af),?_⟩
 unfold PP WT
 show(bif Bi l !=0 then Bi l else _)=_
 congr 1
 have e0:GR l c=!N9 c:=by
  rw[Bf7,Bool.not_not]
  unfold GR CY
  rw[Qo,Mt]
 have e5:GS l c=!All c:=by
  unfold GS All
  have h2:decide ((c.writes.length:Int) <(1:Int))=!decide (1≤c.writes.length):=by rw[←decide_not];exact decide_eq_decide.2 (by omega)
  have h3:decide ((c.writes.length:Int) >(8:Int))=!decide (c.writes.length≤8):=by rw[←decide_not];exact decide_eq_decide.2 (by omega)
  have h2':decide ((c.5.length:Int) <(1:Int))=!decide (1≤c.writes.length):=h2
  have h3':decide ((c.5.length:Int) >(8:Int))=!decide (c.writes.length≤8):=h3
  rw[h2',h3']
  cases decide (1≤c.writes.length)<;>cases decide (c.writes.length≤8)<;>rfl
 rw[e0,e5]
 unfold N5 N4 N3 NY NZ
 rw[hr]
 show(bif !N9 c then 120 else bif !All c then 120 else bif BQ l c.writes (c.writes.length:Int) (k:Int) c then(bif _ then(120:Int) else 120) else 0)=_
 rw[Bfl l c k (Nat.le_trans hk hb),hb']
 have hc:∀b:Bool,(bif b then(120:Int) else 120)=120:=fun b=>by cases b<;>rfl
 rw[hc]
 cases N9 c<;>cases All c<;>cases Lf c.writes.length (fun i=>!O7 l c.writes i)<;>rfl
theorem Aol (a0:List Ab) (a1:TChange) (hp:∀p∈S1 a0 a1,p):CallOk Tryz.prog 28 [.sl .group a0,Ai .change a1] 0 [] 1 (T9 a0 a1) 0 (T7 a0 a1):=by
 have hb:Am a1.writes.length:=hp _ (List.mem_cons_self ..)
 have h:=Auv a0 a1 (T6 a0 a1 hb).1
 unfold PQ at h
 rw[(T6 a0 a1 hb).2] at h
 exact h
def PR:List A→Nat→Objs→Option A6:=Bt [.l .group,.t .change] 0 T9 T7 S1
theorem S2:HF Tryz.prog 28 PR:=Av (ks:=[.l .group,.t .change]) Aol
noncomputable def Bet:=AS 28 PR A4d
theorem A4e:Cr Tryz.prog Bet:=An S2 Anx
abbrev BO:Type:=(List Ab)×Int×TChange
def LX (x:BO):St:=⟨107,1,[(0,.sl .group x.1),(3,.own 0 0),(6,.v (.int .i64 x.2.1))],[(0,some (.box 29 [.v (.int .i64 x.2.2.site),.v (.int .i64 x.2.2.seq),.v (.int .i64 x.2.2.stamp.n),.v (.int .i64 x.2.2.stamp.site),.v (.int .i64 x.2.2.vec.a),.v (.int .i64 x.2.2.vec.b),.sl .write x.2.2.writes]))]⟩
def OG:St→Option BO
 |⟨107,1,[(0,.sl .group z0),(3,.own 0 0),(6,.v (.int .i64 z1))],[(0,some (.box 29 [.v (.int .i64 z2),.v (.int .i64 z3),.v (.int .i64 z4),.v (.int .i64 z5),.v (.int .i64 z6),.v (.int .i64 z7),.sl .write z8]))]⟩=>some (z0,z1,⟨z2,z3,⟨z4,z5⟩,⟨z6,z7⟩,z8⟩)
 |_=>none
theorem Agg:∀s x,OG s=some x→s=LX x:=fun s x h=>by
 unfold OG at h
 split at h
 ·cases h;rfl
 ·cases h
def XV:Cz:=⟨1,1,[0,3,6],[],[(0,0)],[0],[4],[0]⟩
def Av5:CX:=⟨[],[(0,0)],[0,3,6],[0]⟩
def Jt (_a0:List Ab) (a1:Int) (_a2:TChange):Int:=IntKind.i64.wrap (a1 - (1:Int))
def GD (_a0:List Ab) (a1:Int) (a2:TChange):Bool:=!!decide (a1 <(↑a2.5.length:Int))
def Du (a0:List Ab) (a1:Int) (a2:TChange):Bool:=(GD a0 a1 a2)&&(!Kp a0 (a2.5.getD a1.toNat (Ae TC.write))||decide (a1 >(0:Int))&&!PI (a2.5.getD (Jt a0 a1 a2).toNat (Ae TC.write)) (a2.5.getD a1.toNat (Ae TC.write)))
def Amk (a0:List Ab) (a1:Int) (a2:TChange):Bool:=(GD a0 a1 a2)&&!(Du a0 a1 a2)
def GF (x:BO):BO:=(x.1,IntKind.i64.wrap (x.2.1+(1:Int)),x.2.2)
def GE (x:BO):Cnd:=some (Amk x.1 x.2.1 x.2.2)
def MT (x:BO):List Prop:=[((GD x.1 x.2.1 x.2.2)=true→(0:Int)≤x.2.1∧x.2.1 <(↑x.2.2.5.length:Int)),((GD x.1 x.2.1 x.2.2)=true→decide (x.2.1 >(0:Int))=true→(!Kp x.1 (x.2.2.5.getD x.2.1.toNat (Ae TC.write)))=false→(0:Int)≤(Jt x.1 x.2.1 x.2.2)∧(Jt x.1 x.2.1 x.2.2) <(↑x.2.2.5.length:Int)),((GD x.1 x.2.1 x.2.2)=true→decide (x.2.1 >(0:Int))=true→(!Kp x.1 (x.2.2.5.getD x.2.1.toNat (Ae TC.write)))=false→(0:Int)≤x.2.1∧x.2.1 <(↑x.2.2.5.length:Int))]
abbrev I8:BO→List Prop:=MT
def Rv (x:BO):AR:=[(some 0,some (!decide (x.2.1 <(↑x.2.2.5.length:Int))),⟨107,1,[(4,.dead)],[(0,some (.box 29 [.v (.int .i64 x.2.2.1),.v (.int .i64 x.2.2.2),.v (.int .i64 x.2.2.3.1),.v (.int .i64 x.2.2.3.2),.v (.int .i64 x.2.2.4.1),.v (.int .i64 x.2.2.4.2),.sl .write x.2.2.5]))]⟩),(none,some ((Du x.1 x.2.1 x.2.2)),⟨107,1,[(4,.v (.int .i64 ((120:Int))))],[(0,some (.box 29 [.v (.int .i64 x.2.2.1),.v (.int .i64 x.2.2.2),.v (.int .i64 x.2.2.3.1),.v (.int .i64 x.2.2.3.2),.v (.int .i64 x.2.2.4.1),.v (.int .i64 x.2.2.4.2),.sl .write x.2.2.5]))]⟩)]
def HZ (x:BO):Nat:=((↑x.2.2.5.length:Int) - x.2.1).toNat
def Amm (x:BO):BO:=AF GF GE (HZ x) x
theorem Asq (a0:List Ab) (a1:Int) (a2:TChange):Ba (As Bet L0) 9 (Ag Tryz.prog 33 0) XV (LX (a0,a1,a2))=some (MT (a0,a1,a2),Rv (a0,a1,a2),GE (a0,a1,a2),LX (GF (a0,a1,a2))):=by kernel_rfl
theorem Asr (a0:List Ab) (a1:Int) (a2:TChange) (hp:∀p∈I8 (a0,a1,a2),p):∀p∈MT (a0,a1,a2),p:=hp
noncomputable def Ty:=HB (As Bet L0) (Ag Tryz.prog 33 0) XV Av5 OG HZ GF GE I8 Rv
theorem Aml:∀s b ps outs,Ty s=some (b,ps,outs)→Wf s ⟨ps,outs,none⟩∧Bg (As C0 L0) b s ps outs:=
 AT (T:=LX) A4e AA (u:=9) (by kernel_rfl) (by decide) (fun⟨a0,a1,a2⟩=>Asq a0 a1 a2) (fun⟨a0,a1,a2⟩=>Asr a0 a1 a2) Agg (fun _=>AD (n:=107) rfl) fun _ _=>rfl
noncomputable def XU:=Dd 0 Ty L0
theorem Amj:G9 XU:=AH Aml AA
def Gj (a0:List Ab) (_a1:TChange):Bool:=Bi a0 !=(0:Int)
def Gi (_a0:List Ab) (a1:TChange):Int:=IntKind.i64.wrap (a1.1 - (1:Int))
def PG (a0:List Ab) (a1:TChange):BO:=Amm (a0,(0:Int),a1)
def I7 (a0:List Ab) (a1:TChange):Bool:=a1.1 !=(1:Int)&&a1.1 !=(2:Int)||decide (a1.2 <(1:Int))||decide (a1.2 >(1099511627776:Int))||!El a1.3||a1.3.2 !=a1.1||!BT a1.4||(bif(Gi a0 a1).toNat.beq (0:Nat) then a1.4.1 else a1.4.2) !=a1.2||decide ((↑a1.5.length:Int) <(1:Int))||decide ((↑a1.5.length:Int) >(8:Int))
def Zw (a0:List Ab) (a1:TChange):Int:=bif(Gj a0 a1) then Bi a0 else bif(I7 a0 a1) then(120:Int) else bif Du (PG a0 a1).fst (PG a0 a1).snd.fst (PG a0 a1).snd.snd then(120:Int) else(0:Int)
def Zx (a0:List Ab) (a1:TChange):A:=.v (.int .i64 (Zw a0 a1))
def Ass (_a0:List Ab) (_a1:TChange):Objs:=[]
def Ajg (a0:List Ab) (a1:TChange):List Prop:=[(∀(g:Ab),g∈a0→Am g.1.size),((!(Gj a0 a1))=true→(a1.1 !=(1:Int)&&a1.1 !=(2:Int)||decide (a1.2 <(1:Int))||decide (a1.2 >(1099511627776:Int))||!El a1.3||a1.3.2 !=a1.1||!BT a1.4)=false→(0:Int)≤(Gi a0 a1)∧(Gi a0 a1) <(2:Int)),((!(Gj a0 a1))=true→(!(I7 a0 a1))=true→Ax GF GE I8 (HZ (a0,(0:Int),a1)) (a0,(0:Int),a1))]
theorem A8m (a0:List Ab) (a1:TChange):Hz (As Bet XU) 9 33 [.sl .group a0,Ai .change a1] 0 []=some (1,Zx a0 a1,0,Ass a0 a1,[(∀(g:Ab),g∈a0→Am g.1.size),((!(Gj a0 a1))=true→(a1.1 !=(1:Int)&&a1.1 !=(2:Int)||decide (a1.2 <(1:Int))||decide (a1.2 >(1099511627776:Int))||!El a1.3||a1.3.2 !=a1.1||!BT a1.4)=false→(0:Int)≤(Gi a0 a1)∧(Gi a0 a1) <(2:Int)),((!(Gj a0 a1))=true→(a1.1 !=(1:Int)&&a1.1 !=(2:Int)||decide (a1.2 <(1:Int))||decide (a1.2 >(1099511627776:Int))||!El a1.3||a1.3.2 !=a1.1||!BT a1.4)=false→(Gi a0 a1).toNat <(2:Nat)),((!(Gj a0 a1))=true→(!(I7 a0 a1))=true→Ag Tryz.prog (33:FuncId) (0:Nat)=Ag Tryz.prog (33:FuncId) (0:Nat)),((!(Gj a0 a1))=true→(!(I7 a0 a1))=true→Ax GF GE I8 (HZ (a0,(0:Int),a1)) (a0,(0:Int),a1))]):=by kernel_rfl
theorem Bdj (a0:List Ab) (a1:TChange) (hp:∀p∈Ajg a0 a1,p):CallOk Tryz.prog 33 [.sl .group a0,Ai .change a1] 0 [] 1 (Zx a0 a1) 0 (Ass a0 a1):=by
 have n0:=N0 hp
 have n1:((!(Gj a0 a1))=true→(a1.1 !=(1:Int)&&a1.1 !=(2:Int)||decide (a1.2 <(1:Int))||decide (a1.2 >(1099511627776:Int))||!El a1.3||a1.3.2 !=a1.1||!BT a1.4)=false→(0:Int)≤(Gi a0 a1)∧(Gi a0 a1) <(2:Int)):=N0 (N1 hp)
 have n2:((!(Gj a0 a1))=true→(a1.1 !=(1:Int)&&a1.1 !=(2:Int)||decide (a1.2 <(1:Int))||decide (a1.2 >(1099511627776:Int))||!El a1.3||a1.3.2 !=a1.1||!BT a1.4)=false→(Gi a0 a1).toNat <(2:Nat)):=by intro h0 h1;have g:=n1 h0 h1;omega
 have n3:((!(Gj a0 a1))=true→(!(I7 a0 a1))=true→Ag Tryz.prog (33:FuncId) (0:Nat)=Ag Tryz.prog (33:FuncId) (0:Nat)):=by intros;rfl
 have n4:=N0 (N1 (N1 hp))
 exact AB (Ar A4e Amj) (A8m a0 a1) (Aa n0 (Aa n1 (Aa n2 (Aa n3 (Aa n4 Af)))))
def Ajh (a0:List Ab) (a1:TChange):A:=.v (.int .i64 (WT a0 a1))
def Ajf (_a0:List Ab) (_a1:TChange):Objs:=[]
def Acm (a0:List Ab) (a1:TChange):List Prop:=[Am a1.writes.length,∀g∈a0,Am g.1.size]
theorem Bak (a b:Aw):PI a b=T1 a b:=by
 unfold PI T1 ltS
 rw[tlb]
 cases h:a.key==b.key with
 |true=>
  obtain e:=eq_of_beq h
  have e':a.1=b.1:=e
  rw[e',RX]
  rfl
 |false=>
  show Op.bytesLess a.1.toList b.1.toList=(Op.bytesLess a.1.toList b.1.toList||false)
  rw[Bool.or_false]
theorem Bel (l:List Ab) (w:Aw):Kp l w=Anf l w:=by
 have e2:(w.4.toList==(ByteArray.mk #[]).toList)=(w.value.size==0):=Sr _
 unfold Kp Anf
 rw[e2]
 have h1:(Ava w.1==(0:Int))=(!(w.key.size==0)&&decide (w.key.size≤32)):=by
  unfold Ava
  show((bif w.key.size==0 then(2:Int) else bif decide (32 <w.key.size) then 3 else 0)==0)=_
  have h2:decide (32 <w.key.size)=!decide (w.key.size≤32):=by rw[←decide_not];exact decide_eq_decide.2 (by omega)
  rw[h2]
  cases w.key.size==0<;>cases decide (w.key.size≤32)<;>rfl
 have h4:decide ((w.4.size:Int)≤(64:Int))=decide (w.value.size≤64):=decide_eq_decide.2 (by omega)
 have h3:decide (w.2≥(0:Int))=decide (0≤w.group):=rfl
 rw[h1,h4,h3]
theorem Bg2 (l:List Ab) (c:TChange) (i:Nat) (hi:i≤9223372036854775807):Du l (i:Int) c=(decide (i <c.writes.length)&&O7 l c.writes i):=by
 have e:Du l (i:Int) c=(decide (i <c.writes.length)&&(!Anf l (wN c.writes i)||decide ((i:Int) >0)&&!T1 (wN c.writes (IntKind.i64.wrap ((i:Int) - 1)).toNat) (wN c.writes i))):=by
  unfold Du GD Jt
  rw[nn,Mu,Int.toNat_natCast,Bak,Bel]
  rfl
 rw[e]
 unfold O7
 cases i with
 |zero=>rfl
 |succ j=>
  have h1:(IntKind.i64.wrap (((j+1:Nat):Int) - 1)).toNat=j+1 - 1:=by rw[i64_in (by omega)];omega
  have h2:decide (((j+1:Nat):Int) >0)=decide (0 <j+1):=decide_eq_decide.2 (by omega)
  rw[h1,h2]
theorem Aje (l:List Ab) (c:TChange) (hb:Am c.writes.length) (hw:∀g∈l,Am g.1.size):(∀p∈Ajg l c,p)∧Zw l c=WT l c:=by
 unfold Am at hb
 obtain⟨h1,k,hk,hx,_,_,hb'⟩:=RJ (fun i=>((l,(i:Int),c):BO)) c.writes.length (fun i=>O7 l c.writes i) GF GE I8 (HZ (l,0,c)) (l,0,c) rfl (by show c.writes.length≤((c.writes.length:Int) - 0).toNat;omega)
  (fun i hi _=>by
   show((!!decide ((i:Int) <(c.writes.length:Int)))&&!Du l (i:Int) c)=_
   rw[Bg2 l c i (by omega),nn,Mu]
   cases decide (i <c.writes.length)<;>rfl)
  (fun i hi _=>by
   show(l,IntKind.i64.wrap ((i:Int)+1),c)=(l,((i+1:Nat):Int),c)
   rw[Fz (by omega)])
  (fun i hi _=>by
   have hin:(!!decide ((i:Int) <(c.writes.length:Int)))=true→(i:Int) <(c.writes.length:Int):=fun h=>by rw[nn] at h;exact of_decide_eq_true h
   refine Aa (fun h=>⟨by show(0:Int)≤(i:Int);omega,hin h⟩) (Aa (fun h h3 _=>?_) (Aa (fun h _ _=>⟨by show(0:Int)≤(i:Int);omega,hin h⟩) Af))
   have h4:(i:Int) >0:=of_decide_eq_true h3
   have h5:=hin h
   show(0:Int)≤IntKind.i64.wrap ((i:Int) - 1)∧IntKind.i64.wrap ((i:Int) - 1) <(c.writes.length:Int)
   rw[i64_in (by omega)]
   omega)
 have hr:PG l c=(l,(k:Int),c):=hx
 refine⟨Aa hw (Aa (fun _ h=>Bha (Buq.1 (by
  cases hs:c.site !=1&&c.site !=2 with
  |false=>rfl
  |true=>
   have h':(c.site !=(1:Int)&&c.site !=(2:Int)||decide (c.seq <(1:Int))||decide (c.seq >(1099511627776:Int))||!El c.stamp||c.stamp.site !=c.site||!BT c.vec)=false:=h
   rw[hs] at h'
   simp at h'))) (Aa (fun _ _=>h1) Af)),?_⟩
 unfold Zw WT
 show(bif Bi l !=0 then Bi l else _)=_
 congr 1
 have e0:I7 l c=(!N9 c||!All c):=by
  rw[Bf7,Bool.not_not]
  unfold I7 Gi All
  rw[Vt,Mm]
  have h2:decide ((c.5.length:Int) <(1:Int))=!decide (1≤c.writes.length):=by rw[←decide_not];exact decide_eq_decide.2 (by show(c.writes.length:Int) <1↔_;omega)
  have h3:decide ((c.5.length:Int) >(8:Int))=!decide (c.writes.length≤8):=by rw[←decide_not];exact decide_eq_decide.2 (by show(c.writes.length:Int) >8↔_;omega)
  rw[h2,h3]
  show(_||_||_||!JG c.stamp||c.stamp.site !=c.site||_||_||_||_)=(_||_||_||c.stamp.site !=c.site||!JG c.stamp||_||_||_)
  cases JG c.stamp<;>cases c.stamp.site !=c.site<;>cases decide (1≤c.writes.length)<;>cases decide (c.writes.length≤8)<;>simp
 rw[e0,hr]
 show(bif !N9 c||!All c then 120 else bif Du l (k:Int) c then 120 else 0)=_
 rw[Bg2 l c k (Nat.le_trans hk hb),hb']
 cases N9 c<;>cases All c<;>cases Lf c.writes.length (fun i=>!O7 l c.writes i)<;>rfl
theorem A8l (a0:List Ab) (a1:TChange) (hp:∀p∈Acm a0 a1,p):CallOk Tryz.prog 33 [.sl .group a0,Ai .change a1] 0 [] 1 (Ajh a0 a1) 0 (Ajf a0 a1):=by
 have hb:Am a1.writes.length:=hp _ (List.mem_cons_self ..)
 have hw:∀g∈a0,Am g.1.size:=hp _ (List.mem_cons_of_mem _ (List.mem_cons_self ..))
 have h:=Bdj a0 a1 (Aje a0 a1 hb hw).1
 unfold Zx at h
 rw[(Aje a0 a1 hb hw).2] at h
 exact h
def Ast:List A→Nat→Objs→Option A6:=Bt [.l .group,.t .change] 0 Ajh Ajf Acm
theorem A2q:HF Tryz.prog 33 Ast:=Av (ks:=[.l .group,.t .change]) A8l
end Go.Proofs.YtifkbgkbajncjaaGreatDoor
namespace Go.Proofs.YtifkbgkbajncjaaGreatDoor
open Go.RowKit
abbrev Cc:Type:=(List Ab)×(List Ak)×Int
def LY (x:Cc):St:=⟨50,0,[(0,.sl .group x.1),(1,.sl .row x.2.1),(6,.v (.int .i64 x.2.2))],[]⟩
def OL:St→Option Cc
 |⟨50,0,[(0,.sl .group z0),(1,.sl .row z1),(6,.v (.int .i64 z2))],[]⟩=>some (z0,z1,z2)
 |_=>none
theorem Agm:∀s x,OL s=some x→s=LY x:=fun s x h=>by
 unfold OL at h
 split at h
 ·cases h;rfl
 ·cases h
def X0:Cz:=⟨0,0,[0,1,6],[],[],[],[4,5],[]⟩
def Awd:CX:=⟨[],[],[0,1,6],[]⟩
def Ju (_a0:List Ab) (_a1:List Ak) (a2:Int):Int:=IntKind.i64.wrap (a2 - (1:Int))
def Dw (a0:List Ab) (a1:List Ak) (a2:Int):Bool:=AI a0 (a1.getD a2.toNat (Ae TC.row)) !=(0:Int)
def Cw (_a0:List Ab) (a1:List Ak) (a2:Int):Bool:=!!decide (a2 <(↑a1.length:Int))
def Dv (a0:List Ab) (a1:List Ak) (a2:Int):Bool:=(Cw a0 a1 a2)&&((Dw a0 a1 a2)||(NT (a1.getD a2.toNat (Ae TC.row))||decide (a2 >(0:Int))&&!Op.bytesLess (a1.getD (Ju a0 a1 a2).toNat (Ae TC.row)).1.toList (a1.getD a2.toNat (Ae TC.row)).1.toList))
def Amq (a0:List Ab) (a1:List Ak) (a2:Int):Bool:=(Cw a0 a1 a2)&&!(Dv a0 a1 a2)
def H1 (a0:List Ab) (a1:List Ak) (a2:Int):Int:=bif(Dw a0 a1 a2) then AI a0 (a1.getD a2.toNat (Ae TC.row)) else(100:Int)
def Agl (a0:List Ab) (a1:List Ak) (a2:Int):Int:=AI a0 (a1.getD a2.toNat (Ae TC.row))
def GH (x:Cc):Cc:=(x.1,x.2.1,IntKind.i64.wrap (x.2.2+(1:Int)))
def GG (x:Cc):Cnd:=some (Amq x.1 x.2.1 x.2.2)
def MU (x:Cc):List Prop:=[((Cw x.1 x.2.1 x.2.2)=true→(0:Int)≤x.2.2∧x.2.2 <(↑x.2.1.length:Int)),((Cw x.1 x.2.1 x.2.2)=true→∀(g:Ab),g∈x.1→Am g.1.size),((Cw x.1 x.2.1 x.2.2)=true→(!(Dw x.1 x.2.1 x.2.2))=true→(0:Int)≤x.2.2∧x.2.2 <(↑x.2.1.length:Int)),((Cw x.1 x.2.1 x.2.2)=true→(!(Dw x.1 x.2.1 x.2.2))=true→Ad (x.2.1.getD x.2.2.toNat (Ae TC.row)).2.length),((Cw x.1 x.2.1 x.2.2)=true→(!(Dw x.1 x.2.1 x.2.2))=true→decide (x.2.2 >(0:Int))=true→NT (x.2.1.getD x.2.2.toNat (Ae TC.row))=false→(0:Int)≤(Ju x.1 x.2.1 x.2.2)∧(Ju x.1 x.2.1 x.2.2) <(↑x.2.1.length:Int)),((Cw x.1 x.2.1 x.2.2)=true→(!(Dw x.1 x.2.1 x.2.2))=true→decide (x.2.2 >(0:Int))=true→NT (x.2.1.getD x.2.2.toNat (Ae TC.row))=false→(0:Int)≤x.2.2∧x.2.2 <(↑x.2.1.length:Int))]
abbrev I9:Cc→List Prop:=MU
def Rw (x:Cc):AR:=[(some 0,some (!decide (x.2.2 <(↑x.2.1.length:Int))),⟨50,0,[(4,.dead),(5,.dead)],[]⟩),(none,some ((Dv x.1 x.2.1 x.2.2)),⟨50,0,[(4,.v (.int .i64 (H1 x.1 x.2.1 x.2.2))),(5,.v (.int .i64 (Agl x.1 x.2.1 x.2.2)))],[]⟩)]
def H2 (x:Cc):Nat:=((↑x.2.1.length:Int) - x.2.2).toNat
def J0 (x:Cc):Cc:=AF GH GG (H2 x) x
theorem As2 (a0:List Ab) (a1:List Ak) (a2:Int):Ba (As Cn L0) 9 (Ag Tryz.prog 36 0) X0 (LY (a0,a1,a2))=some (MU (a0,a1,a2),Rw (a0,a1,a2),GG (a0,a1,a2),LY (GH (a0,a1,a2))):=by kernel_rfl
theorem As3 (a0:List Ab) (a1:List Ak) (a2:Int) (hp:∀p∈I9 (a0,a1,a2),p):∀p∈MU (a0,a1,a2),p:=hp
noncomputable def TD:=HB (As Cn L0) (Ag Tryz.prog 36 0) X0 Awd OL H2 GH GG I9 Rw
theorem Amr:∀s b ps outs,TD s=some (b,ps,outs)→Wf s ⟨ps,outs,none⟩∧Bg (As C0 L0) b s ps outs:=
 AT (T:=LY) A4h AA (u:=9) (by kernel_rfl) (by decide) (fun⟨a0,a1,a2⟩=>As2 a0 a1 a2) (fun⟨a0,a1,a2⟩=>As3 a0 a1 a2) Agm (fun _=>AD (n:=50) rfl) fun _ _=>rfl
noncomputable def XZ:=Dd 0 TD L0
theorem Amp:G9 XZ:=AH Amr AA
def Mn (a0:List Ab) (_a1:List Ak):Bool:=Bi a0 !=(0:Int)
def VM (a0:List Ab) (a1:List Ak):List Ab:=(J0 (a0,a1,(0:Int))).fst
def VL (a0:List Ab) (a1:List Ak):Int:=(J0 (a0,a1,(0:Int))).snd.snd
def VK (a0:List Ab) (a1:List Ak):List Ak:=(J0 (a0,a1,(0:Int))).snd.fst
def Zz (a0:List Ab) (a1:List Ak):Int:=bif(Mn a0 a1) then Bi a0 else bif Dv (VM a0 a1) (VK a0 a1) (VL a0 a1) then H1 (VM a0 a1) (VK a0 a1) (VL a0 a1) else(0:Int)
def ZA (a0:List Ab) (a1:List Ak):A:=.v (.int .i64 (Zz a0 a1))
def As4 (_a0:List Ab) (_a1:List Ak):Objs:=[]
def Ajr (a0:List Ab) (a1:List Ak):List Prop:=[(∀(g:Ab),g∈a0→Am g.1.size),((!(Mn a0 a1))=true→Ax GH GG I9 (H2 (a0,a1,(0:Int))) (a0,a1,(0:Int)))]
theorem A8t (a0:List Ab) (a1:List Ak):Hz (As Cn XZ) 9 36 [.sl .group a0,Ai .rows a1] 0 []=some (1,ZA a0 a1,0,As4 a0 a1,[(∀(g:Ab),g∈a0→Am g.1.size),((!(Mn a0 a1))=true→Ag Tryz.prog (36:FuncId) (0:Nat)=Ag Tryz.prog (36:FuncId) (0:Nat)),((!(Mn a0 a1))=true→Ax GH GG I9 (H2 (a0,a1,(0:Int))) (a0,a1,(0:Int)))]):=by kernel_rfl
theorem Bdp (a0:List Ab) (a1:List Ak) (hp:∀p∈Ajr a0 a1,p):CallOk Tryz.prog 36 [.sl .group a0,Ai .rows a1] 0 [] 1 (ZA a0 a1) 0 (As4 a0 a1):=by
 have n0:=N0 hp
 have n1:((!(Mn a0 a1))=true→Ag Tryz.prog (36:FuncId) (0:Nat)=Ag Tryz.prog (36:FuncId) (0:Nat)):=by intros;rfl
 have n2:=N0 (N1 hp)
 exact AB (Ar A4h Amp) (A8t a0 a1) (Aa n0 (Aa n1 (Aa n2 Af)))
def Ajs (a0:List Ab) (a1:List Ak):A:=.v (.int .i64 (S7 a0 a1))
def Ajq (_a0:List Ab) (_a1:List Ak):Objs:=[]
def Acx (a0:List Ab) (a1:List Ak):List Prop:=[Am a1.length,∀g∈a0,Am g.1.size]
theorem Bqr (a b:ByteArray):leS a b=!ltS b a:=by
 unfold leS
 cases h:ltS a b with
 |true=>
  cases g:ltS b a with
  |true=>exact absurd rfl (Bms (Ayf h g))
  |false=>rfl
 | false=>
  rw[Bool.false_or]
  cases g:a==b with
  |true=>
   obtain rfl:=eq_of_beq g
   rw[h]
   rfl
  |false=>
   rw[Aye h (by simpa using g)]
   rfl
theorem Bqq {a:ByteArray} (h:a.size≠0):leS a ⟨#[]⟩=false:=by
 unfold leS
 rw[Bool.or_eq_false_iff]
 constructor
 ·show Op.bytesLess a.toList (ByteArray.mk #[]).toList=false
  rw[show(ByteArray.mk #[]).toList=[] by decide+kernel]
  cases a.toList<;>rfl
 ·refine beq_eq_false_iff_ne.2 fun e=>h ?_
  rw[e]
  rfl
theorem Bg3 (l:List Ab) (rows:List Ak) (i:Nat) (hi:i≤9223372036854775807):Dv l rows (i:Int)=(decide (i <rows.length)&&Aa2 l rows i !=0):=by
 have e:Dv l rows (i:Int)=(decide (i <rows.length)&&(AI l (NE rows i) !=0||(NT (NE rows i)||decide ((i:Int) >0)&&!ltS (NE rows (IntKind.i64.wrap ((i:Int) - 1)).toNat).key (NE rows i).key))):=by
  unfold Dv Cw Dw Ju
  rw[nn,Mu,Int.toNat_natCast]
  rfl
 rw[e,Ank]
 cases h:AI l (NE rows i) !=0 with
 |true=>rfl
 | false=>
  have h0:AI l (NE rows i)=0:=by simpa using h
  rw[Bool.false_or,Bool.false_or]
  cases i with
  |zero=>
   have h1:leS (NE rows 0).key (S8 rows 0)=false:=Bqq (IE h0).2.2.1
   rw[h1]
   rfl
  |succ j=>
   have h1:(IntKind.i64.wrap (((j+1:Nat):Int) - 1)).toNat=j:=by rw[i64_in (by omega)];omega
   have h2:decide (((j+1:Nat):Int) >0)=true:=decide_eq_true (by omega)
   rw[h1,h2,Bqr,Bool.true_and]
   rfl
theorem Ajp (l:List Ab) (rows:List Ak) (hb:Am rows.length) (hw:∀g∈l,Am g.1.size):(∀p∈Ajr l rows,p)∧Zz l rows=S7 l rows:=by
 unfold Am at hb
 obtain⟨h1,k,hk,hx,hs,hst,_⟩:=RJ (fun i=>((l,rows,(i:Int)):Cc)) rows.length (fun i=>Aa2 l rows i !=0) GH GG I9 (H2 (l,rows,0)) (l,rows,0) rfl (by show rows.length≤((rows.length:Int) - 0).toNat;omega)
  (fun i hi _=>by
   show((!!decide ((i:Int) <(rows.length:Int)))&&!Dv l rows (i:Int))=_
   rw[Bg3 l rows i (by omega),nn,Mu]
   cases decide (i <rows.length)<;>rfl)
  (fun i hi _=>by
   show(l,rows,IntKind.i64.wrap ((i:Int)+1))=(l,rows,((i+1:Nat):Int))
   rw[Fz (by omega)])
  (fun i hi _=>by
   have hin:(!!decide ((i:Int) <(rows.length:Int)))=true→(i:Int) <(rows.length:Int):=fun h=>by rw[nn] at h;exact of_decide_eq_true h
   refine Aa (fun h=>⟨by show(0:Int)≤(i:Int);omega,hin h⟩) (Aa (fun _=>hw) (Aa (fun h _=>⟨by show(0:Int)≤(i:Int);omega,hin h⟩) (Aa (fun _ h2=>?_) (Aa (fun h _ h3 _=>?_) (Aa (fun h _ _ _=>⟨by show(0:Int)≤(i:Int);omega,hin h⟩) Af)))))
   ·have h3:AI l (rows.getD ((i:Int)).toNat (Ae TC.row))=0:=by
     have h4:(!(AI l (rows.getD ((i:Int)).toNat (Ae TC.row)) !=0))=true:=h2
     simpa using h4
    obtain⟨g1,g2,_⟩:=IE h3
    have:=(Sg g1).2
    show Ad (rows.getD ((i:Int)).toNat (Ae TC.row)).cells.length
    unfold Ad
    omega
   ·have h4:(i:Int) >0:=of_decide_eq_true h3
    have h5:=hin h
    show(0:Int)≤IntKind.i64.wrap ((i:Int) - 1)∧IntKind.i64.wrap ((i:Int) - 1) <(rows.length:Int)
    rw[i64_in (by omega)]
    omega)
 have hr:J0 (l,rows,0)=(l,rows,(k:Int)):=hx
 refine⟨Aa hw (Aa (fun _=>h1) Af),?_⟩
 unfold Zz S7
 show(bif Bi l !=0 then Bi l else _)=_
 congr 1
 unfold VM VL VK
 rw[hr]
 show(bif Dv l rows (k:Int) then H1 l rows (k:Int) else 0)=_
 have hk9:k≤9223372036854775807:=Nat.le_trans hk (by omega)
 rw[Bg3 l rows k hk9]
 have h0:Gf l rows k=0:=(Ao7 l rows k).2 fun i hi=>by simpa using hs i hi
 rcases Nat.lt_or_ge k rows.length with h|h
 ·have he:=hst h
  rw[decide_eq_true h,he]
  have e1:Gf l rows (k+1)=Aa2 l rows k:=by
   show(bif Gf l rows k !=0 then Gf l rows k else Aa2 l rows k)=_
   rw[h0];rfl
  have hne:Gf l rows (k+1)≠0:=by rw[e1];simpa using he
  rw[Uv hne rows.length h,e1]
  show H1 l rows (k:Int)=_
  unfold H1 Dw
  rw[Int.toNat_natCast]
  rw[Ank] at he
  unfold Aa2
  show(bif AI l (NE rows k) !=0 then AI l (NE rows k) else 100)=_
  cases hg:AI l (NE rows k) !=0 with
  |true=>rfl
  |false=>
   rw[hg,Bool.false_or] at he
   rw[he]
   rfl
 ·obtain rfl:k=rows.length:=by omega
  rw[decide_eq_false (Nat.lt_irrefl _),h0]
  rfl
theorem A8s (a0:List Ab) (a1:List Ak) (hp:∀p∈Acx a0 a1,p):CallOk Tryz.prog 36 [.sl .group a0,Ai .rows a1] 0 [] 1 (Ajs a0 a1) 0 (Ajq a0 a1):=by
 have hb:Am a1.length:=hp _ (List.mem_cons_self ..)
 have hw:∀g∈a0,Am g.1.size:=hp _ (List.mem_cons_of_mem _ (List.mem_cons_self ..))
 have h:=Bdp a0 a1 (Ajp a0 a1 hb hw).1
 unfold ZA at h
 rw[(Ajp a0 a1 hb hw).2] at h
 exact h
def ZB:List A→Nat→Objs→Option A6:=Bt [.l .group,.t .rows] 0 Ajs Ajq Acx
theorem Acy:HF Tryz.prog 36 ZB:=Av (ks:=[.l .group,.t .rows]) A8s
noncomputable def Be7:=AS 36 ZB Cn
theorem A4g:Cr Tryz.prog Be7:=An Acy A4h
abbrev Cv:Type:=(List Ak)×(List Ak)×Int
def NA (x:Cv):St:=⟨27,0,[(0,.sl .row x.1),(1,.sl .row x.2.1),(5,.v (.int .i64 x.2.2))],[]⟩
def Qe:St→Option Cv
 |⟨27,0,[(0,.sl .row z0),(1,.sl .row z1),(5,.v (.int .i64 z2))],[]⟩=>some (z0,z1,z2)
 |_=>none
theorem Al6:∀s x,Qe s=some x→s=NA x:=fun s x h=>by
 unfold Qe at h
 split at h
 ·cases h;rfl
 ·cases h
def Acg:Cz:=⟨0,0,[0,1,5],[],[],[],[4],[]⟩
def A2k:CX:=⟨[],[],[0,1,5],[]⟩
def Hl (a0:List Ak) (_a1:List Ak) (a2:Int):Bool:=!!decide (a2 <(↑a0.length:Int))
def C8 (a0:List Ak) (a1:List Ak) (a2:Int):Bool:=(Hl a0 a1 a2)&&!Au3 (a0.getD a2.toNat (Ae TC.row)) (a1.getD a2.toNat (Ae TC.row))
def Ar2 (a0:List Ak) (a1:List Ak) (a2:Int):Bool:=(Hl a0 a1 a2)&&!(C8 a0 a1 a2)
def FR (x:Cv):Cv:=(x.1,x.2.1,IntKind.i64.wrap (x.2.2+(1:Int)))
def FQ (x:Cv):Cnd:=some (Ar2 x.1 x.2.1 x.2.2)
def OA (x:Cv):List Prop:=[((Hl x.1 x.2.1 x.2.2)=true→(0:Int)≤x.2.2∧x.2.2 <(↑x.1.length:Int)),((Hl x.1 x.2.1 x.2.2)=true→(0:Int)≤x.2.2∧x.2.2 <(↑x.2.1.length:Int)),((Hl x.1 x.2.1 x.2.2)=true→Ad (x.1.getD x.2.2.toNat (Ae TC.row)).2.length)]
abbrev II:Cv→List Prop:=OA
def Tt (x:Cv):AR:=[(some 0,some (!decide (x.2.2 <(↑x.1.length:Int))),⟨27,0,[(4,.dead)],[]⟩),(none,some ((C8 x.1 x.2.1 x.2.2)),⟨27,0,[(4,.v (.bool (false)))],[]⟩)]
def Hm (x:Cv):Nat:=((↑x.1.length:Int) - x.2.2).toNat
def ET (x:Cv):Cv:=AF FR FQ (Hm x) x
theorem Avy (a0:List Ak) (a1:List Ak) (a2:Int):Ba (As Be7 L0) 9 (Ag Tryz.prog 49 0) Acg (NA (a0,a1,a2))=some (OA (a0,a1,a2),Tt (a0,a1,a2),FQ (a0,a1,a2),NA (FR (a0,a1,a2))):=by kernel_rfl
theorem Avz (a0:List Ak) (a1:List Ak) (a2:Int) (hp:∀p∈II (a0,a1,a2),p):∀p∈OA (a0,a1,a2),p:=hp
noncomputable def VB:=HB (As Be7 L0) (Ag Tryz.prog 49 0) Acg A2k Qe Hm FR FQ II Tt
theorem Ar3:∀s b ps outs,VB s=some (b,ps,outs)→Wf s ⟨ps,outs,none⟩∧Bg (As C0 L0) b s ps outs:=
 AT (T:=NA) A4g AA (u:=9) (by kernel_rfl) (by decide) (fun⟨a0,a1,a2⟩=>Avy a0 a1 a2) (fun⟨a0,a1,a2⟩=>Avz a0 a1 a2) Al6 (fun _=>AD (n:=27) rfl) fun _ _=>rfl
noncomputable def Acf:=Dd 0 VB L0
theorem Ar1:G9 Acf:=AH Ar3 AA
def Zp (a0:List Ak) (a1:List Ak):Cv:=ET (a0,a1,(0:Int))
def I2 (a0:List Ak) (a1:List Ak):Bool:=(↑a0.length:Int) !=(↑a1.length:Int)
def Af7 (a0:List Ak) (a1:List Ak):Bool:=bif(I2 a0 a1) then false else bif C8 (Zp a0 a1).fst (Zp a0 a1).snd.fst (Zp a0 a1).snd.snd then false else true
def Af8 (a0:List Ak) (a1:List Ak):A:=.v (.bool (Af7 a0 a1))
def Ay9 (_a0:List Ak) (_a1:List Ak):Objs:=[]
def Ar5 (a0:List Ak) (a1:List Ak):List Prop:=[((!(I2 a0 a1))=true→Ax FR FQ II (Hm (a0,a1,(0:Int))) (a0,a1,(0:Int)))]
theorem Bc9 (a0:List Ak) (a1:List Ak):Hz (As Be7 Acf) 9 49 [Ai .rows a0,Ai .rows a1] 0 []=some (1,Af8 a0 a1,0,Ay9 a0 a1,[((!(I2 a0 a1))=true→Ag Tryz.prog (49:FuncId) (0:Nat)=Ag Tryz.prog (49:FuncId) (0:Nat)),((!(I2 a0 a1))=true→Ax FR FQ II (Hm (a0,a1,(0:Int))) (a0,a1,(0:Int)))]):=by kernel_rfl
theorem Bi6 (a0:List Ak) (a1:List Ak) (hp:∀p∈Ar5 a0 a1,p):CallOk Tryz.prog 49 [Ai .rows a0,Ai .rows a1] 0 [] 1 (Af8 a0 a1) 0 (Ay9 a0 a1):=by
 have n0:((!(I2 a0 a1))=true→Ag Tryz.prog (49:FuncId) (0:Nat)=Ag Tryz.prog (49:FuncId) (0:Nat)):=by intros;rfl
 have n1:=N0 hp
 exact AB (Ar A4g Ar1) (Bc9 a0 a1) (Aa n0 (Aa n1 Af))
def A6a (a b:List Ak):Bool:=a.length==b.length&&Lf a.length fun i=>Au3 (a.getD i (Ae TC.row)) (b.getD i (Ae TC.row))
def Ar6 (a0:List Ak) (a1:List Ak):A:=.v (.bool (A6a a0 a1))
def Ar4 (_a0:List Ak) (_a1:List Ak):Objs:=[]
def Aiz (a0:List Ak) (_a1:List Ak):List Prop:=[Am a0.length,∀r∈a0,Ad r.cells.length]
theorem Ar0 (a b:List Ak) (hl:Am a.length) (hb:∀r∈a,Ad r.cells.length):(∀p∈Ar5 a b,p)∧Af7 a b=A6a a b:=by
 unfold Am at hl
 have hk0:I2 a b=(a.length !=b.length):=by
  show((a.length:Int) !=(b.length:Int))=_
  rw[Bool.eq_iff_iff,bne_iff_ne,bne_iff_ne];omega
 have main:I2 a b=false→Ax FR FQ II (Hm (a,b,0)) (a,b,0)∧C8 (ET (a,b,0)).1 (ET (a,b,0)).2.1 (ET (a,b,0)).2.2=!Lf a.length fun i=>Au3 (a.getD i (Ae TC.row)) (b.getD i (Ae TC.row)):=fun h0=>by
  rw[hk0] at h0
  have hlen:a.length=b.length:=by simpa using h0
  have hf:∀i:Nat,C8 a b (i:Int)=(decide (i <a.length)&&!Au3 (a.getD i (Ae TC.row)) (b.getD i (Ae TC.row))):=fun i=>by
   unfold C8 Hl
   rw[nn,Mu,Int.toNat_natCast]
  obtain⟨h1,k,hk,hx,_,_,hb'⟩:=RJ (fun i=>((a,b,(i:Int)):Cv)) a.length (fun i=>!Au3 (a.getD i (Ae TC.row)) (b.getD i (Ae TC.row))) FR FQ II (Hm (a,b,0)) (a,b,0) rfl (by show a.length≤((a.length:Int) - 0).toNat;omega)
   (fun i _ _=>by
    show((!!decide ((i:Int) <(a.length:Int)))&&!C8 a b (i:Int))=_
    rw[hf,nn,Mu]
    cases decide (i <a.length)<;>rfl)
   (fun i hi _=>by
    show(a,b,IntKind.i64.wrap ((i:Int)+1))=(a,b,((i+1:Nat):Int))
    rw[Fz (by omega)])
   (fun i hi _=>by
    have hin:(!!decide ((i:Int) <(a.length:Int)))=true→(i:Int) <(a.length:Int):=fun h=>by rw[nn] at h;exact of_decide_eq_true h
    refine Aa (fun h=>⟨by show(0:Int)≤(i:Int);omega,hin h⟩) (Aa (fun h=>⟨by show(0:Int)≤(i:Int);omega,by have:=hin h;show(i:Int) <(b.length:Int);omega⟩) (Aa (fun h=>?_) Af))
    have h5:=hin h
    have e:((i:Int)).toNat=i:=Int.toNat_natCast i
    show Ad (a.getD ((i:Int)).toNat (Ae TC.row)).2.length
    rw[e]
    exact hb _ (getD_in a (Ae TC.row) i (by omega)))
  refine⟨h1,?_⟩
  have hr:ET (a,b,0)=(a,b,(k:Int)):=hx
  rw[hr]
  show C8 a b (k:Int)=_
  rw[hf,hb']
  congr 1
  exact J3 fun i _=>Bool.not_not _
 refine⟨Aa (fun h=>(main (by simpa using h)).1) Af,?_⟩
 unfold Af7 A6a
 cases h0:I2 a b with
 |true=>
  rw[hk0] at h0
  have e:(a.length==b.length)=false:=by simpa using h0
  rw[e]
  rfl
 |false=>
  have h1:=h0
  rw[hk0] at h1
  have e:(a.length==b.length)=true:=by simpa using h1
  rw[cond_false,e,Bool.true_and]
  have m:=(main h0).2
  show(!C8 (ET (a,b,0)).1 (ET (a,b,0)).2.1 (ET (a,b,0)).2.2)=_
  rw[m,Bool.not_not]
theorem Bc8 (a0:List Ak) (a1:List Ak) (hp:∀p∈Aiz a0 a1,p):CallOk Tryz.prog 49 [Ai .rows a0,Ai .rows a1] 0 [] 1 (Ar6 a0 a1) 0 (Ar4 a0 a1):=by
 have hb:Am a0.length:=hp _ (List.mem_cons_self ..)
 have hc:∀r∈a0,Ad r.cells.length:=hp _ (List.mem_cons_of_mem _ (List.mem_cons_self ..))
 have h:=Bi6 a0 a1 (Ar0 a0 a1 hb hc).1
 unfold Af8 at h
 rw[(Ar0 a0 a1 hb hc).2] at h
 exact h
theorem Bid (a:List Ak):A6a a a=true:=by
 unfold A6a
 rw[beq_self_eq_true,Bool.true_and,JL]
 exact fun i _=>Bls.2 rfl
def Aza:List A→Nat→Objs→Option A6:=Bt [.t .rows,.t .rows] 0 Ar6 Ar4 Aiz
theorem A8c:HF Tryz.prog 49 Aza:=Av (ks:=[.t .rows,.t .rows]) Bc8
end Go.Proofs.YtifkbgkbajncjaaGreatDoor
namespace Go.Proofs.YtifkbgkbajncjaaGreatDoor
open Go.RowKit
theorem Bwb {l:List Ab} {c:TChange}:WT l c=0↔Bi l=0∧N9 c=true∧All c=true∧∀i,i <c.writes.length→O7 l c.writes i=false:=by
 unfold WT
 cases h:Bi l !=0 with
 |true=>
  rw[cond_true]
  have h':Bi l≠0:=by simpa using h
  exact⟨fun e=>absurd e h',fun e=>absurd e.1 h'⟩
 | false=>
  have h':Bi l=0:=by simpa using h
  rw[cond_false]
  cases h1:N9 c with
  |false=>exact⟨fun e=>(by cases e),fun e=>by cases e.2.1⟩
  | true=>
   cases h2:All c with
   |false=>exact⟨fun e=>(by cases e),fun e=>by cases e.2.2.1⟩
   | true=>
    rw[Bool.true_and,Bool.true_and]
    cases h3:Lf c.writes.length (fun i=>!O7 l c.writes i) with
    |false=>
     refine⟨fun e=>(by cases e),fun e=>?_⟩
     have:Lf c.writes.length (fun i=>!O7 l c.writes i)=true:=JL.2 fun i hi=>by rw[e.2.2.2 i hi];rfl
     rw[this] at h3
     cases h3
    |true=>exact⟨fun _=>⟨h',rfl,rfl,fun i hi=>by simpa using JL.1 h3 i hi⟩,fun _=>rfl⟩
theorem A39 {l:List Ab} {w:Aw} (h:Anf l w=true):w.key.size≠0∧w.key.size≤32∧0≤w.group∧w.group <(l.length:Int)∧w.value.size≤64∧(w.gone=true→w.value.size=0):=by
 unfold Anf at h
 simp only[Bool.and_eq_true,Bool.not_eq_true',beq_eq_false_iff_ne,decide_eq_true_eq,Bool.or_eq_true,beq_iff_eq] at h
 obtain⟨⟨⟨⟨⟨h1,h2⟩,h3⟩,h4⟩,h5⟩,h6⟩:=h
 exact⟨h1,h2,h3,h4,h5,fun e=>by rcases h6 with h6|h6<;>first|exact h6|(rw[e] at h6;cases h6)⟩
theorem Bk7 {l:List Ab} {ws:List Aw} {i:Nat} (h:O7 l ws i=false):Anf l (wN ws i)=true∧(0 <i→T1 (wN ws (i - 1)) (wN ws i)=true):=by
 unfold O7 at h
 rw[Bool.or_eq_false_iff] at h
 refine⟨by simpa using h.1,fun hi=>?_⟩
 have:=h.2
 rw[decide_eq_true hi,Bool.true_and] at this
 simpa using this
theorem Biv (l:List Ab) (r:Ak):(HE l r).length≤1024:=by
 unfold HE
 by_cases h:AI l r=0
 ·obtain⟨h1,h2,_,h4,_⟩:=IE h
  rw[h]
  show(Iq r.key++_).length≤_
  rw[List.length_append,←Bfr h2]
  have h5:=P9 r.key
  have h6:=A06 h2 l.length (Nat.le_refl _)
  have h7:=(Sg h1).2
  omega
 ·have:(AI l r==0)=false:=by simpa using h
  rw[this]
  exact Nat.zero_le _
def Ad4 (l:List UInt8):List UInt8:=bif decide (1048576 <l.length) then[] else A1a (181::(Ap (l.length:Int)++l))
theorem Me {α:Type} (f:α→List UInt8) (l:List α) (d:α) (i:Nat) (h:i <l.length):(l.take (i+1)).flatMap f=(l.take i).flatMap f++f (l.getD i d):=by
 rw[List.take_add_one,List.getElem?_eq_getElem h,List.flatMap_append,List.getD_eq_getElem?_getD,List.getElem?_eq_getElem h]
 simp
theorem Nq {α:Type} (f:α→List UInt8) (n:Nat):∀l:List α,(∀x∈l,(f x).length≤n)→(l.flatMap f).length≤n*l.length
 | [],_=>Nat.zero_le _
 |x::r,h=>by
  have h1:=h x (List.mem_cons_self ..)
  have h2:=Nq f n r fun y hy=>h y (List.mem_cons_of_mem _ hy)
  rw[List.flatMap_cons,List.length_append,List.length_cons,Nat.mul_add,Nat.mul_one]
  omega
def Eb (w:Aw):List UInt8:=Iq w.key++Ap w.group++bif w.gone then Ap 1 else Ap 0++Iq w.value
def Apa (c:TChange):List UInt8:=Ap c.site++Ap c.seq++P8 c.stamp++Ic c.vec++Ap (c.writes.length:Int)
def Le (l:List Ab) (c:TChange):List UInt8:=bif WT l c==0 then Apa c++c.writes.flatMap Eb else[]
theorem Bii (c:TChange):(Apa c).length≤48:=by
 unfold Apa
 simp only[List.length_append]
 have h1:=A3 c.site
 have h2:=A3 c.seq
 have h3:=Afr c.stamp
 have h4:=Ny c.vec
 have h5:=A3 (c.writes.length:Int)
 omega
theorem Ayr {l:List Ab} {w:Aw} (h:Anf l w=true):(Eb w).length≤128:=by
 obtain⟨_,h1,_,_,h2,_⟩:=A39 h
 unfold Eb
 have h3:=P9 w.key
 have h4:=A3 w.group
 have h5:=A3 1
 have h6:=A3 0
 have h7:=P9 w.value
 rw[List.length_append,List.length_append]
 cases w.gone with
 |true=>rw[cond_true];omega
 |false=>rw[cond_false,List.length_append];omega
theorem A0t {l:List Ab} {c:TChange} (h:WT l c=0):c.writes.length≤8∧∀w∈c.writes,Anf l w=true:=by
 obtain⟨_,_,h3,h4⟩:=Bwb.1 h
 unfold All at h3
 rw[Bool.and_eq_true,decide_eq_true_eq,decide_eq_true_eq] at h3
 refine⟨h3.2,fun w hw=>?_⟩
 obtain⟨i,hi,rfl⟩:=List.mem_iff_getElem.1 hw
 have:=(Bk7 (h4 i hi)).1
 unfold wN at this
 rwa[List.getD_eq_getElem?_getD,List.getElem?_eq_getElem hi] at this
theorem Bis (l:List Ab) (c:TChange):(Le l c).length≤1072:=by
 unfold Le
 cases h:WT l c==0 with
 |false=>exact Nat.zero_le _
 |true=>
  have h0:WT l c=0:=by simpa using h
  obtain⟨h1,h2⟩:=A0t h0
  have h3:=Nq Eb 128 c.writes fun w hw=>Ayr (h2 w hw)
  have h4:=Bii c
  rw[cond_true,List.length_append]
  omega
def QB {α:Type} (q:α→α→Bool) (d:α) (a b:List α):Bool:=a.length==b.length&&Lf a.length fun i=>q (a.getD i d) (b.getD i d)
theorem NM {α:Type} {q:α→α→Bool} (h:∀x,q x x=true) (d:α) (a:List α):QB q d a a=true:=by
 unfold QB
 rw[beq_self_eq_true,Bool.true_and,JL]
 exact fun i _=>h _
theorem Bk4 {α:Type} (q:α→α→Bool) (d:α) (b:List α):QB q d [] b=(b.length==0):=by
 cases b<;>rfl
theorem Bt9 {α:Type} (a b:List α) (d:α) (q:α→α→Bool) {next:List α×List α×Int→List α×List α×Int} {goes:List α×List α×Int→Cnd} {ps:List α×List α×Int→List Prop} {fuel:Nat} (f:List α→List α→Int→Bool) (hl:Am a.length) (hfu:a.length≤fuel)
  (hf:∀i:Nat,f a b (i:Int)=(decide (i <a.length)&&!q (a.getD i d) (b.getD i d)))
  (hg:∀i:Nat,A8 (goes (a,b,(i:Int)))=((!!decide ((i:Int) <(a.length:Int)))&&!f a b (i:Int)))
  (hn:∀i:Nat,next (a,b,(i:Int))=(a,b,IntKind.i64.wrap ((i:Int)+1)))
  (hp:∀i:Nat,i≤a.length→∀p∈ps (a,b,(i:Int)),p):
  Ax next goes ps fuel (a,b,0)∧f (AF next goes fuel (a,b,0)).1 (AF next goes fuel (a,b,0)).2.1 (AF next goes fuel (a,b,0)).2.2=!Lf a.length fun i=>q (a.getD i d) (b.getD i d):=by
 unfold Am at hl
 obtain⟨h1,k,hk,hx,_,_,hb'⟩:=RJ (fun i=>(a,b,(i:Int))) a.length (fun i=>!q (a.getD i d) (b.getD i d)) next goes ps fuel (a,b,0) rfl hfu
  (fun i _ _=>by
   rw[hg,hf,nn,Mu]
   cases decide (i <a.length)<;>rfl)
  (fun i hi _=>by rw[hn,Fz (by omega)])
  (fun i hi _=>hp i hi)
 refine⟨h1,?_⟩
 rw[hx]
 show f a b (k:Int)=_
 rw[hf,hb']
 congr 1
 exact J3 fun i _=>Bool.not_not _
theorem Bmn (a b:Nat):((a:Int) !=(b:Int))=!(a==b):=by
 rw[Bool.eq_iff_iff,bne_iff_ne,Bool.not_eq_true',beq_eq_false_iff_ne];omega
def eqI (a b:Int):Bool:=a==b
def Bbh (a b:Aw):Bool:=a.key.toList==b.key.toList&&(a.group==b.group&&(a.gone==b.gone&&a.value.toList==b.value.toList))
def Bqa (a b:List UInt8):Nat→Nat→Bool
 |_,0=>true
 |i,n+1=>((a.getD i 0).toNat:Int)==((b.getD i 0).toNat:Int)&&Bqa a b (i+1) n
def eqD (a b:List UInt8):Bool:=Bqa a b 0 32
theorem Ax3 (a:List UInt8):∀n i,Bqa a a i n=true
 |0,_=>rfl
 |n+1,i=>by unfold Bqa;rw[beq_self_eq_true,Ax3 a n];rfl
theorem A58 (a:List UInt8):eqD a a=true:=Ax3 a 32 0
theorem Bie (a:Aw):Bbh a a=true:=by unfold Bbh;simp only[beq_self_eq_true,Bool.and_self]
def Bbg (a b:TChange):Bool:=a.site==b.site&&a.seq==b.seq&&(a.stamp.n==b.stamp.n&&a.stamp.site==b.stamp.site)&&(a.vec.a==b.vec.a&&a.vec.b==b.vec.b)&&QB Bbh (Ae TC.write) a.writes b.writes
def eqM (a b:TMsg):Bool:=a.kind==b.kind&&a.site==b.site&&Bbg a.change b.change&&a.ack==b.ack&&a.own==b.own&&QB eqI (Ae TC.i64) a.path b.path&&QB eqD (Ae TC.digest) a.sums b.sums&&A6a a.rows b.rows&&(a.know.a==b.know.a&&a.know.b==b.know.b)&&a.back==b.back
theorem Bib (a:TChange):Bbg a a=true:=by unfold Bbg;simp only[beq_self_eq_true,NM Bie,Bool.and_self]
theorem Ao1 (a:Int):eqI a a=true:=beq_self_eq_true a
def Ld (l:List Int):Bool:=Lf l.length (fun i=>decide (0≤l.getD i 0)&&decide (l.getD i 0≤15))&&decide (l.length≤2)
def A9k (n:Int):Bool:=decide (0≤n)&&decide (n≤1099511627776)
def zA (m:TMsg):Bool:=m.ack==0&&m.own==0
def zL (m:TMsg):Bool:=m.rows.length==0&&(m.know.a==0&&m.know.b==0)&&!m.back
def zC (c:TChange):Bool:=c.site==0&&c.seq==0&&(c.stamp.n==0&&c.stamp.site==0)&&(c.vec.a==0&&c.vec.b==0)&&c.writes.length==0
def Aac (m:TMsg):Bool:=(m.kind==3||m.kind==4||m.sums.length==0)&&(m.kind==2||zA m)&&(m.kind==3||m.kind==4||m.kind==5||m.path.length==0)&&(m.kind==5||zL m)&&(m.kind==1||zC m.change)
def A1f (l:List Ab) (m:TMsg):Bool:=bif m.kind==1 then m.change.site==m.site&&WT l m.change==0 else bif m.kind==2 then A9k m.ack&&A9k m.own else bif m.kind==3 then(m.sums.length:Int)==1 else bif m.kind==4 then(m.sums.length:Int)==16&&decide ((m.path.length:Int) <2) else
 bif m.kind==5 then(m.path.length:Int)==2&&decide ((m.rows.length:Int)≤256)&&G8 m.know&&S7 l m.rows==0 else false
def okW (l:List Ab) (m:TMsg):Bool:=Aac m&&Ld m.path&&(m.site==1||m.site==2)&&A1f l m
def D7 (l:List Ab) (m:TMsg):Int:=bif Bi l !=0 then Bi l else bif okW l m then 0 else 140
def Aht (n:Int):ByteArray:=bif n==1 then⟨#[100,97,116,97]⟩ else bif n==2 then⟨#[97,99,107]⟩ else bif n==3 then⟨#[97,115,107]⟩ else bif n==4 then⟨#[116,101,108,108]⟩ else bif n==5 then⟨#[108,101,97,102]⟩ else⟨#[]⟩
theorem kinds (n:Int):((n==1)=true∧(n==2)=false∧(n==3)=false∧(n==4)=false∧(n==5)=false)∨((n==1)=false∧(n==2)=true∧(n==3)=false∧(n==4)=false∧(n==5)=false)∨
  ((n==1)=false∧(n==2)=false∧(n==3)=true∧(n==4)=false∧(n==5)=false)∨((n==1)=false∧(n==2)=false∧(n==3)=false∧(n==4)=true∧(n==5)=false)∨
  ((n==1)=false∧(n==2)=false∧(n==3)=false∧(n==4)=false∧(n==5)=true)∨((n==1)=false∧(n==2)=false∧(n==3)=false∧(n==4)=false∧(n==5)=false):=by
 simp only[beq_iff_eq,beq_eq_false_iff_ne]
 omega
def JR (l:List Int):List UInt8:=Ap (l.length:Int)++l.flatMap Ap
end Go.Proofs.YtifkbgkbajncjaaGreatDoor
namespace Go.Proofs.YtifkbgkbajncjaaGreatDoor
open Go.RowKit
noncomputable def Bsk:=AS 57 Aeg Cg
theorem Bkg:Cr Tryz.prog Bsk:=An Ahm Bvm
noncomputable def Bsl:=AS 63 Afv Bsk
theorem Bkh:Cr Tryz.prog Bsl:=An Aig Bkg
noncomputable def Bsm:=AS 28 PR Bsl
theorem Bki:Cr Tryz.prog Bsm:=An S2 Bkh
noncomputable def Bkj:=AS 33 Ast Bsm
theorem A4o:Cr Tryz.prog Bkj:=An A2q Bki
def C1 (a0:List UInt8):Bool:=decide ((↑a0.length:Int) >(1048576:Int))
def LI (a0:List UInt8):List UInt8:=[UInt8.ofNat (181:Nat)]++Ap (↑a0.length:Int)++a0
def Aa6 (a0:List UInt8):List UInt8:=bif(C1 a0) then[] else A1a (LI a0)
def Aa7 (_a0:List UInt8):A:=.sq 0
def Nr (a0:List UInt8):Objs:=[(0,some (.arr 5 1 (.ty .u8 (Aa6 a0))))]
def Au6 (a0:List UInt8):List Prop:=[((!(C1 a0))=true→Ad (([UInt8.ofNat (181:Nat)]++Ap (↑a0.length:Int)).length+a0.length)),((!(C1 a0))=true→Ad ((LI a0).length+(4:Nat)))]
theorem Au5 (a0:List UInt8):Hz (As Bkj L0) 9 22 [Ai .bytes a0] 0 []=some (1,Aa7 a0,1,Nr a0,[((!(C1 a0))=true→(0:Int)≤(181:Int)∧(181:Int) <(256:Int)),((!(C1 a0))=true→Ad (9:Nat)),((!(C1 a0))=true→Ad (([UInt8.ofNat (181:Nat)]++Ap (↑a0.length:Int)).length+a0.length)),((!(C1 a0))=true→Ad ((LI a0).length+(4:Nat)))]):=by kernel_rfl
theorem A1b (a0:List UInt8) (hp:∀p∈Au6 a0,p):CallOk Tryz.prog 22 [Ai .bytes a0] 0 [] 1 (Aa7 a0) 1 (Nr a0):=by
 have n0:((!(C1 a0))=true→(0:Int)≤(181:Int)∧(181:Int) <(256:Int)):=by omega
 have n1:((!(C1 a0))=true→Ad (9:Nat)):=by intros;first|rfl|decide+kernel|exact⟨by decide,by decide⟩
 have n2:=N0 hp
 have n3:=N0 (N1 hp)
 exact AB (Ar A4o AA) (Au5 a0) (Aa n0 (Aa n1 (Aa n2 (Aa n3 Af))))
def Xn (_a0:List UInt8):A:=.sq 0
def LJ (a0:List UInt8):Objs:=[(0,some (.arr 5 1 (.ty .u8 (Ad4 a0))))]
def Uq (_a0:List UInt8):List Prop:=[]
theorem Au4 (a0:List UInt8) (_hp:∀p∈Uq a0,p):CallOk Tryz.prog 22 [Ai .bytes a0] 0 [] 1 (Xn a0) 1 (LJ a0):=by
 have h8:=A3 (a0.length:Int)
 have k1:C1 a0=decide (1048576 <a0.length):=decide_eq_decide.2 (by omega)
 have hs:(!(C1 a0))=true→a0.length≤1048576:=fun h=>by
  rw[k1,Bool.not_eq_true',decide_eq_false_iff_not] at h
  omega
 have hl:(LI a0).length=1+(Ap (a0.length:Int)).length+a0.length:=by
  show(([UInt8.ofNat 181]++Ap (a0.length:Int))++a0).length=_
  rw[List.length_append,List.length_append]
  rfl
 have h:=A1b a0 (Aa (fun h=>by have:=hs h;rw[List.length_append,List.length_singleton];unfold Ad;omega) (Aa (fun h=>by have:=hs h;rw[hl];unfold Ad;omega) Af))
 have e:Nr a0=LJ a0:=by
  unfold Nr LJ Aa6 Ad4
  rw[k1]
  rfl
 rw[e] at h
 exact h
def Aa8:List A→Nat→Objs→Option A6:=Bt [.t .bytes] 1 Xn LJ Uq
theorem Ao5:HF Tryz.prog 22 Aa8:=Av (ks:=[.t .bytes]) Au4
noncomputable def Bkk:=AS 22 Aa8 Bkj
theorem A4p:Cr Tryz.prog Bkk:=An Ao5 A4o
def ES (a0:List UInt8):Bool:=decide ((↑a0.length:Int) >(1048576:Int))
def PE (a0:List UInt8):List UInt8:=[UInt8.ofNat (181:Nat)]++Ap (↑a0.length:Int)++a0
def Ara (a0:List UInt8):List UInt8:=bif(ES a0) then[] else A1a (PE a0)
def Arb (_a0:List UInt8):A:=.sq 0
def SB (a0:List UInt8):Objs:=[(0,some (.arr 5 1 (.ty .u8 (Ara a0))))]
def A7x (a0:List UInt8):List Prop:=[((!(ES a0))=true→Ad (([UInt8.ofNat (181:Nat)]++Ap (↑a0.length:Int)).length+a0.length)),((!(ES a0))=true→Ad ((PE a0).length+(4:Nat)))]
theorem A7w (a0:List UInt8):Hz (As Bkk L0) 9 24 [Ai .bytes a0] 0 []=some (1,Arb a0,1,SB a0,[((!(ES a0))=true→(0:Int)≤(181:Int)∧(181:Int) <(256:Int)),((!(ES a0))=true→Ad (9:Nat)),((!(ES a0))=true→Ad (([UInt8.ofNat (181:Nat)]++Ap (↑a0.length:Int)).length+a0.length)),((!(ES a0))=true→Ad ((PE a0).length+(4:Nat)))]):=by kernel_rfl
theorem Bcr (a0:List UInt8) (hp:∀p∈A7x a0,p):CallOk Tryz.prog 24 [Ai .bytes a0] 0 [] 1 (Arb a0) 1 (SB a0):=by
 have n0:((!(ES a0))=true→(0:Int)≤(181:Int)∧(181:Int) <(256:Int)):=by omega
 have n1:((!(ES a0))=true→Ad (9:Nat)):=by intros;first|rfl|decide+kernel|exact⟨by decide,by decide⟩
 have n2:=N0 hp
 have n3:=N0 (N1 hp)
 exact AB (Ar A4p AA) (A7w a0) (Aa n0 (Aa n1 (Aa n2 (Aa n3 Af))))
def Aij (_a0:List UInt8):A:=.sq 0
def PF (a0:List UInt8):Objs:=[(0,some (.arr 5 1 (.ty .u8 (Ad4 a0))))]
def Aca (_a0:List UInt8):List Prop:=[]
theorem A7v (a0:List UInt8) (_hp:∀p∈Aca a0,p):CallOk Tryz.prog 24 [Ai .bytes a0] 0 [] 1 (Aij a0) 1 (PF a0):=by
 have h8:=A3 (a0.length:Int)
 have k1:ES a0=decide (1048576 <a0.length):=decide_eq_decide.2 (by omega)
 have hs:(!(ES a0))=true→a0.length≤1048576:=fun h=>by
  rw[k1,Bool.not_eq_true',decide_eq_false_iff_not] at h
  omega
 have hl:(PE a0).length=1+(Ap (a0.length:Int)).length+a0.length:=by
  show(([UInt8.ofNat 181]++Ap (a0.length:Int))++a0).length=_
  rw[List.length_append,List.length_append]
  rfl
 have h:=Bcr a0 (Aa (fun h=>by have:=hs h;rw[List.length_append,List.length_singleton];unfold Ad;omega) (Aa (fun h=>by have:=hs h;rw[hl];unfold Ad;omega) Af))
 have e:SB a0=PF a0:=by
  unfold SB PF Ara Ad4
  rw[k1]
  rfl
 rw[e] at h
 exact h
def Arc:List A→Nat→Objs→Option A6:=Bt [.t .bytes] 1 Aij PF Aca
theorem A2c:HF Tryz.prog 24 Arc:=Av (ks:=[.t .bytes]) A7v
noncomputable def A4q:=AS 24 Arc Bkk
theorem An0:Cr Tryz.prog A4q:=An A2c A4p
abbrev Bo:Type:=(List Aw)×Int×Int×(List UInt8)
def JW (x:Bo):St:=⟨60,7,[(0,.sq 6),(36,.sl .write x.1),(37,.v (.int .i64 x.2.1)),(38,.v (.int .i64 x.2.2.1))],[(6,some (.arr 5 1 (.ty .u8 x.2.2.2)))]⟩
def Li:St→Option Bo
 |⟨60,7,[(0,.sq 6),(36,.sl .write z0),(37,.v (.int .i64 z1)),(38,.v (.int .i64 z2))],[(6,some (.arr 5 1 (.ty .u8 z3)))]⟩=>some (z0,z1,z2,z3)
 |_=>none
theorem YA:∀s x,Li s=some x→s=JW x:=fun s x h=>by
 unfold Li at h
 split at h
 ·cases h;rfl
 ·cases h
def S4:Cz:=⟨6,7,[0,36,37,38],[],[(12,6)],[12],[0],[6]⟩
def Ak2:CX:=⟨[],[(5,6)],[0,36,37,38],[5]⟩
def By (a0:List Aw) (_a1:Int) (a2:Int) (a3:List UInt8):List UInt8:=a3++Iq (a0.getD a2.toNat (Ae TC.write)).1++Ap (a0.getD a2.toNat (Ae TC.write)).2
def Ef (a0:List Aw) (a1:Int) (a2:Int) (a3:List UInt8):List UInt8:=(By a0 a1 a2 a3)++Ap (0:Int)
def Ku (a0:List Aw) (a1:Int) (a2:Int) (a3:List UInt8):List UInt8:=bif(a0.getD a2.toNat (Ae TC.write)).3 then(By a0 a1 a2 a3)++Ap (1:Int) else(Ef a0 a1 a2 a3)++Iq (a0.getD a2.toNat (Ae TC.write)).4
def Df (x:Bo):Bo:=(x.1,x.2.1,IntKind.i64.wrap (x.2.2.1+(1:Int)),Ku x.1 x.2.1 x.2.2.1 x.2.2.2)
def De (x:Bo):Cnd:=some (!!decide (x.2.2.1 <x.2.1))
def Kv (x:Bo):List Prop:=[((!!decide (x.2.2.1 <x.2.1))=true→(0:Int)≤x.2.2.1∧x.2.2.1 <(↑x.1.length:Int)),((!!decide (x.2.2.1 <x.2.1))=true→Ad (x.2.2.2.length+(8:Nat)+(x.1.getD x.2.2.1.toNat (Ae TC.write)).1.size)),((!!decide (x.2.2.1 <x.2.1))=true→Ad ((x.2.2.2++Iq (x.1.getD x.2.2.1.toNat (Ae TC.write)).1).length+(8:Nat))),((!!decide (x.2.2.1 <x.2.1))=true→(x.1.getD x.2.2.1.toNat (Ae TC.write)).3=true→Ad ((By x.1 x.2.1 x.2.2.1 x.2.2.2).length+(8:Nat))),((!!decide (x.2.2.1 <x.2.1))=true→(!(x.1.getD x.2.2.1.toNat (Ae TC.write)).3)=true→Ad ((By x.1 x.2.1 x.2.2.1 x.2.2.2).length+(8:Nat))),((!!decide (x.2.2.1 <x.2.1))=true→(!(x.1.getD x.2.2.1.toNat (Ae TC.write)).3)=true→Ad ((Ef x.1 x.2.1 x.2.2.1 x.2.2.2).length+(8:Nat)+(x.1.getD x.2.2.1.toNat (Ae TC.write)).4.size))]
abbrev Gm:Bo→List Prop:=Kv
def N7 (x:Bo):AR:=[(some 0,some (!decide (x.2.2.1 <x.2.1)),⟨60,7,[(0,.sq 6)],[(6,some (.arr 5 1 (.ty .u8 x.2.2.2)))]⟩)]
def Eg (x:Bo):Nat:=(x.2.1 - x.2.2.1).toNat
def Kw (x:Bo):Bo:=AF Df De (Eg x) x
theorem Aee (a0:List Aw) (a1:Int) (a2:Int) (a3:List UInt8):Ba (As A4q L0) 9 (Ag Tryz.prog 19 0) S4 (JW (a0,a1,a2,a3))=some (Kv (a0,a1,a2,a3),N7 (a0,a1,a2,a3),De (a0,a1,a2,a3),JW (Df (a0,a1,a2,a3))):=by kernel_rfl
theorem Aef (a0:List Aw) (a1:Int) (a2:Int) (a3:List UInt8) (hp:∀p∈Gm (a0,a1,a2,a3),p):∀p∈Kv (a0,a1,a2,a3),p:=hp
noncomputable def Pc:=HB (As A4q L0) (Ag Tryz.prog 19 0) S4 Ak2 Li Eg Df De Gm N7
theorem Aam:∀s b ps outs,Pc s=some (b,ps,outs)→Wf s ⟨ps,outs,none⟩∧Bg (As C0 L0) b s ps outs:=
 AT (T:=JW) An0 AA (u:=9) (by kernel_rfl) (by decide) (fun⟨a0,a1,a2,a3⟩=>Aee a0 a1 a2 a3) (fun⟨a0,a1,a2,a3⟩=>Aef a0 a1 a2 a3) YA (fun _=>AD (n:=60) rfl) fun _ _=>rfl
noncomputable def S3:=Dd 0 Pc L0
theorem Aal:G9 S3:=AH Aam AA
def AL (_a0:List UInt8) (a1:List Ab) (a2:TChange):Bool:=WT a1 a2 !=(0:Int)
def EM (a0:List UInt8) (_a1:List Ab) (a2:TChange):List UInt8:=a0++Ap a2.1++Ap a2.2
def Bw (a0:List UInt8) (a1:List Ab) (a2:TChange):List UInt8:=(EM a0 a1 a2)++P8 a2.3++Ic a2.4
def R5 (a0:List UInt8) (a1:List Ab) (a2:TChange):List UInt8:=bif(AL a0 a1 a2) then[]++a0 else(Kw (a2.5,(↑a2.5.length:Int),(0:Int),(Bw a0 a1 a2)++Ap (↑a2.5.length:Int))).snd.snd.snd
def Aan (_a0:List UInt8) (_a1:List Ab) (_a2:TChange):A:=.sq 0
def R6 (a0:List UInt8) (a1:List Ab) (a2:TChange):Objs:=[(0,some (.arr 5 1 (.ty .u8 (R5 a0 a1 a2))))]
def Auy (a0:List UInt8) (a1:List Ab) (a2:TChange):List Prop:=[(Am a2.5.length),((AL a0 a1 a2)=true→Ad ((0:Nat)+a0.length)),((!(AL a0 a1 a2))=true→Ad (a0.length+(8:Nat))),((!(AL a0 a1 a2))=true→Ad ((a0++Ap a2.1).length+(8:Nat))),((!(AL a0 a1 a2))=true→Ad ((EM a0 a1 a2).length+(8:Nat))),((!(AL a0 a1 a2))=true→Ad (((EM a0 a1 a2)++P8 a2.3).length+(16:Nat))),((!(AL a0 a1 a2))=true→Ad ((Bw a0 a1 a2).length+(8:Nat))),((!(AL a0 a1 a2))=true→Ax Df De Gm (Eg (a2.5,(↑a2.5.length:Int),(0:Int),(Bw a0 a1 a2)++Ap (↑a2.5.length:Int))) (a2.5,(↑a2.5.length:Int),(0:Int),(Bw a0 a1 a2)++Ap (↑a2.5.length:Int)))]
theorem Aux (a0:List UInt8) (a1:List Ab) (a2:TChange):Hz (As A4q S3) 9 19 [Ai .bytes a0,.sl .group a1,Ai .change a2] 0 []=some (1,Aan a0 a1 a2,1,R6 a0 a1 a2,[(Am a2.5.length),((AL a0 a1 a2)=true→Ad ((0:Nat)+a0.length)),((!(AL a0 a1 a2))=true→Ad (a0.length+(8:Nat))),((!(AL a0 a1 a2))=true→Ad ((a0++Ap a2.1).length+(8:Nat))),((!(AL a0 a1 a2))=true→Ad ((EM a0 a1 a2).length+(8:Nat))),((!(AL a0 a1 a2))=true→Ad (((EM a0 a1 a2)++P8 a2.3).length+(16:Nat))),((!(AL a0 a1 a2))=true→Ad ((Bw a0 a1 a2).length+(8:Nat))),((!(AL a0 a1 a2))=true→Ag Tryz.prog (19:FuncId) (0:Nat)=Ag Tryz.prog (19:FuncId) (0:Nat)),((!(AL a0 a1 a2))=true→Ax Df De Gm (Eg (a2.5,(↑a2.5.length:Int),(0:Int),(Bw a0 a1 a2)++Ap (↑a2.5.length:Int))) (a2.5,(↑a2.5.length:Int),(0:Int),(Bw a0 a1 a2)++Ap (↑a2.5.length:Int)))]):=by kernel_rfl
theorem A0u (a0:List UInt8) (a1:List Ab) (a2:TChange) (hp:∀p∈Auy a0 a1 a2,p):CallOk Tryz.prog 19 [Ai .bytes a0,.sl .group a1,Ai .change a2] 0 [] 1 (Aan a0 a1 a2) 1 (R6 a0 a1 a2):=by
 have n0:=N0 hp
 have n1:=N0 (N1 hp)
 have n2:=N0 (N1 (N1 hp))
 have n3:=N0 (N1 (N1 (N1 hp)))
 have n4:=N0 (N1 (N1 (N1 (N1 hp))))
 have n5:=N0 (N1 (N1 (N1 (N1 (N1 hp)))))
 have n6:=N0 (N1 (N1 (N1 (N1 (N1 (N1 hp))))))
 have n7:((!(AL a0 a1 a2))=true→Ag Tryz.prog (19:FuncId) (0:Nat)=Ag Tryz.prog (19:FuncId) (0:Nat)):=by intros;rfl
 have n8:=N0 (N1 (N1 (N1 (N1 (N1 (N1 (N1 hp)))))))
 exact AB (Ar An0 Aal) (Aux a0 a1 a2) (Aa n0 (Aa n1 (Aa n2 (Aa n3 (Aa n4 (Aa n5 (Aa n6 (Aa n7 (Aa n8 Af)))))))))
def Xk (_a0:List UInt8) (_a1:List Ab) (_a2:TChange):A:=.sq 0
def Xj (a0:List UInt8) (a1:List Ab) (a2:TChange):Objs:=[(0,some (.arr 5 1 (.ty .u8 (a0++Le a1 a2))))]
def Ua (a0:List UInt8) (_a1:List Ab) (a2:TChange):List Prop:=[Am a2.writes.length∧Ad (a0.length+2048)]
theorem Bfx {l:List Ab} {c:TChange} (h:WT l c=0) (i:Nat) (hi:i≤c.writes.length):((c.writes.take i).flatMap Eb).length≤128*i:=by
 have:=Nq Eb 128 (c.writes.take i) fun w hw=>Ayr ((A0t h).2 w (List.mem_of_mem_take hw))
 rwa[List.length_take,Nat.min_eq_left hi] at this
theorem Bhl (pre:List UInt8) (w:Aw):(bif w.gone then pre++Iq w.key++Ap w.group++Ap 1 else pre++Iq w.key++Ap w.group++Ap 0++Iq w.value)=pre++Eb w:=by
 unfold Eb
 cases w.gone<;>simp only[cond_true,cond_false,List.append_assoc]
theorem Ak3 {l:List Ab} {c:TChange} (h:WT l c=0) (pre:List UInt8) (hb:Ad (pre.length+1100)):
  Ax Df De Gm (Eg (c.writes,(c.writes.length:Int),0,pre)) (c.writes,(c.writes.length:Int),0,pre)∧Kw (c.writes,(c.writes.length:Int),0,pre)=(c.writes,(c.writes.length:Int),(c.writes.length:Int),pre++c.writes.flatMap Eb):=by
 obtain⟨h8,hw⟩:=A0t h
 unfold Ad at hb
 obtain⟨h1,h2⟩:=Am8 (fun i=>((c.writes,(c.writes.length:Int),(i:Int),pre++(c.writes.take i).flatMap Eb):Bo)) c.writes.length Df De Gm (Eg (c.writes,(c.writes.length:Int),0,pre)) (c.writes,(c.writes.length:Int),0,pre) (by simp) (by show c.writes.length≤((c.writes.length:Int) - 0).toNat;omega)
  (fun i _=>by
   show(!!decide ((i:Int) <(c.writes.length:Int)))=_
   rw[nn,Mu])
  (fun i hi=>by
   show(c.writes,(c.writes.length:Int),IntKind.i64.wrap ((i:Int)+1),Ku c.writes (c.writes.length:Int) (i:Int) (pre++(c.writes.take i).flatMap Eb))=_
   rw[Fz (by omega),Me Eb c.writes (Ae TC.write) i hi,←List.append_assoc]
   unfold Ku Ef By
   rw[Int.toNat_natCast]
   exact congrArg (fun x=>(c.writes,(c.writes.length:Int),((i+1:Nat):Int),x)) (Bhl _ (c.writes.getD i (Ae TC.write))))
  (fun i hi=>by
   have hin:(!!decide ((i:Int) <(c.writes.length:Int)))=true→i <c.writes.length:=fun h=>by rw[nn] at h;have:=of_decide_eq_true h;omega
   have hl:=Bfx h i hi
   have hk:i <c.writes.length→_:=fun hi=>A39 (hw _ (getD_in c.writes (Ae TC.write) i hi))
   have ht:=P9 (c.writes.getD i (Ae TC.write)).key
   have hn:=A3 (c.writes.getD i (Ae TC.write)).group
   have h0:=A3 0
   have e1:(By c.writes (c.writes.length:Int) (i:Int) (pre++(c.writes.take i).flatMap Eb)).length=pre.length+((c.writes.take i).flatMap Eb).length+(Iq (c.writes.getD i (Ae TC.write)).key).length+(Ap (c.writes.getD i (Ae TC.write)).group).length:=by
    unfold By
    rw[Int.toNat_natCast,List.length_append,List.length_append,List.length_append]
   have e0:(Ef c.writes (c.writes.length:Int) (i:Int) (pre++(c.writes.take i).flatMap Eb)).length≤pre.length+((c.writes.take i).flatMap Eb).length+(Iq (c.writes.getD i (Ae TC.write)).key).length+(Ap (c.writes.getD i (Ae TC.write)).group).length+8:=by
    unfold Ef
    rw[List.length_append,e1]
    omega
   refine Aa (fun h=>by have:=hin h;show(0:Int)≤(i:Int)∧(i:Int) <(c.writes.length:Int);omega) (Aa (fun h=>?_) (Aa (fun h=>?_) (Aa (fun h _=>?_) (Aa (fun h _=>?_) (Aa (fun h _=>?_) Af)))))
   ·have h9:=hin h
    obtain⟨_,k1,_,_,k2,_⟩:=hk h9
    show Ad ((pre++(c.writes.take i).flatMap Eb).length+8+(c.writes.getD ((i:Int)).toNat (Ae TC.write)).key.size)
    rw[Int.toNat_natCast,List.length_append]
    unfold Ad;omega
   ·have h9:=hin h
    obtain⟨_,k1,_,_,k2,_⟩:=hk h9
    show Ad (((pre++(c.writes.take i).flatMap Eb)++Iq (c.writes.getD ((i:Int)).toNat (Ae TC.write)).key).length+8)
    rw[Int.toNat_natCast,List.length_append,List.length_append]
    unfold Ad;omega
   ·have h9:=hin h
    obtain⟨_,k1,_,_,k2,_⟩:=hk h9
    show Ad ((By c.writes (c.writes.length:Int) (i:Int) (pre++(c.writes.take i).flatMap Eb)).length+8)
    rw[e1];unfold Ad;omega
   ·have h9:=hin h
    obtain⟨_,k1,_,_,k2,_⟩:=hk h9
    show Ad ((By c.writes (c.writes.length:Int) (i:Int) (pre++(c.writes.take i).flatMap Eb)).length+8)
    rw[e1];unfold Ad;omega
   ·have h9:=hin h
    obtain⟨_,k1,_,_,k2,_⟩:=hk h9
    show Ad ((Ef c.writes (c.writes.length:Int) (i:Int) (pre++(c.writes.take i).flatMap Eb)).length+8+(c.writes.getD ((i:Int)).toNat (Ae TC.write)).value.size)
    rw[Int.toNat_natCast]
    unfold Ad;omega)
 exact⟨h1,by show AF _ _ _ _=_;rw[h2,List.take_length]⟩
theorem Auw (a0:List UInt8) (a1:List Ab) (a2:TChange) (hp:∀p∈Ua a0 a1 a2,p):CallOk Tryz.prog 19 [Ai .bytes a0,.sl .group a1,Ai .change a2] 0 [] 1 (Xk a0 a1 a2) 1 (Xj a0 a1 a2):=by
 obtain⟨hw,hb⟩:=hp _ (List.mem_cons_self ..)
 unfold Ad at hb
 have h1:=A3 a2.site
 have h2:=A3 a2.seq
 have h3:=Afr a2.stamp
 have h4:=Ny a2.vec
 have h5:=A3 (a2.writes.length:Int)
 have e1:(EM a0 a1 a2).length=a0.length+(Ap a2.site).length+(Ap a2.seq).length:=by unfold EM;rw[List.length_append,List.length_append]
 have e0:(Bw a0 a1 a2).length=a0.length+(Ap a2.site).length+(Ap a2.seq).length+(P8 a2.stamp).length+(Ic a2.vec).length:=by unfold Bw;rw[List.length_append,List.length_append,e1]
 have ek:Bw a0 a1 a2++Ap (a2.writes.length:Int)=a0++Apa a2:=by
  unfold Bw EM Apa
  simp only[List.append_assoc]
 have hin:(!(AL a0 a1 a2))=true→WT a1 a2=0:=fun h=>by unfold AL at h;simpa using h
 have lp:WT a1 a2=0→_:=fun h=>Ak3 h (Bw a0 a1 a2++Ap (a2.writes.length:Int)) (by rw[List.length_append,e0];unfold Ad;omega)
 have h:=A0u a0 a1 a2 (Aa hw (Aa (fun _=>by unfold Ad;omega) (Aa (fun _=>by unfold Ad;omega) (Aa (fun _=>by show Ad ((a0++Ap a2.site).length+8);rw[List.length_append];unfold Ad;omega) (Aa (fun _=>by rw[e1];unfold Ad;omega) (Aa (fun _=>by show Ad ((EM a0 a1 a2++P8 a2.stamp).length+16);rw[List.length_append,e1];unfold Ad;omega) (Aa (fun _=>by rw[e0];unfold Ad;omega) (Aa (fun h=>(lp (hin h)).1) Af))))))))
 have e:R5 a0 a1 a2=a0++Le a1 a2:=by
  unfold R5 Le AL
  cases hc:WT a1 a2==0 with
  |false=>
   rw[show(WT a1 a2 !=0)=true by unfold bne;rw[hc];rfl]
   show[]++a0=a0++[]
   rw[List.append_nil,List.nil_append]
  |true=>
   rw[show(WT a1 a2 !=0)=false by unfold bne;rw[hc];rfl,cond_false,cond_true]
   have q:=(lp (by simpa using hc)).2
   have q':(Kw (a2.5,(a2.5.length:Int),0,Bw a0 a1 a2++Ap (a2.5.length:Int))).2.2.2=(Bw a0 a1 a2++Ap (a2.writes.length:Int))++a2.writes.flatMap Eb:=congrArg (fun x=>x.2.2.2) q
   rw[q',ek,List.append_assoc]
 unfold R6 at h
 rw[e] at h
 exact h
def Aao:List A→Nat→Objs→Option A6:=Bt [.t .bytes,.l .group,.t .change] 1 Xk Xj Ua
theorem Aon:HF Tryz.prog 19 Aao:=Av (ks:=[.t .bytes,.l .group,.t .change]) Auw
noncomputable def A4r:=AS 19 Aao A4q
theorem An1:Cr Tryz.prog A4r:=An Aon An0
abbrev Da:Type:=Int×TChange×(List UInt8)
def NC (x:Da):St:=⟨65,7,[(5,.own 0 0),(7,.sq 6),(8,.v (.int .i64 x.1))],[(0,some (.box 29 [.v (.int .i64 x.2.1.site),.v (.int .i64 x.2.1.seq),.v (.int .i64 x.2.1.stamp.n),.v (.int .i64 x.2.1.stamp.site),.v (.int .i64 x.2.1.vec.a),.v (.int .i64 x.2.1.vec.b),.sl .write x.2.1.writes])),(6,some (.arr 5 1 (.ty .u8 x.2.2)))]⟩
def Qg:St→Option Da
 |⟨65,7,[(5,.own 0 0),(7,.sq 6),(8,.v (.int .i64 z0))],[(0,some (.box 29 [.v (.int .i64 z1),.v (.int .i64 z2),.v (.int .i64 z3),.v (.int .i64 z4),.v (.int .i64 z5),.v (.int .i64 z6),.sl .write z7])),(6,some (.arr 5 1 (.ty .u8 z8)))]⟩=>some (z0,⟨z1,z2,⟨z3,z4⟩,⟨z5,z6⟩,z7⟩,z8)
 |_=>none
theorem Amn:∀s x,Qg s=some x→s=NC x:=fun s x h=>by
 unfold Qg at h
 split at h
 ·cases h;rfl
 ·cases h
def Aco:Cz:=⟨6,7,[5,7,8],[],[(0,0),(12,6)],[0,12],[7],[6,0]⟩
def A2r:CX:=⟨[],[(0,0),(5,6)],[5,7,8],[0,5]⟩
def FU (a0:Int) (a1:TChange) (_a2:List UInt8):Bool:=!!decide (a0 <(↑a1.5.length:Int))
def Db (a0:Int) (a1:TChange) (a2:List UInt8):List UInt8:=a2++Iq (a1.5.getD a0.toNat (Ae TC.write)).1++Ap (a1.5.getD a0.toNat (Ae TC.write)).2
def Hp (a0:Int) (a1:TChange) (a2:List UInt8):List UInt8:=(Db a0 a1 a2)++Ap (0:Int)
def K0 (a0:Int) (a1:TChange) (_a2:List UInt8):TChange:=TChange.mk (bif(a1.5.getD a0.toNat (Ae TC.write)).3 then a1.1 else a1.1) (bif(a1.5.getD a0.toNat (Ae TC.write)).3 then a1.2 else a1.2) (TStamp.mk (bif(a1.5.getD a0.toNat (Ae TC.write)).3 then a1.3.1 else a1.3.1) (bif(a1.5.getD a0.toNat (Ae TC.write)).3 then a1.3.2 else a1.3.2)) (TVec.mk (bif(a1.5.getD a0.toNat (Ae TC.write)).3 then a1.4.1 else a1.4.1) (bif(a1.5.getD a0.toNat (Ae TC.write)).3 then a1.4.2 else a1.4.2)) (bif(a1.5.getD a0.toNat (Ae TC.write)).3 then a1.5 else a1.5)
def OH (a0:Int) (a1:TChange) (a2:List UInt8):List UInt8:=bif(a1.5.getD a0.toNat (Ae TC.write)).3 then(Db a0 a1 a2)++Ap (1:Int) else(Hp a0 a1 a2)++Iq (a1.5.getD a0.toNat (Ae TC.write)).4
def FW (x:Da):Da:=(IntKind.i64.wrap (x.1+(1:Int)),K0 x.1 x.2.1 x.2.2,OH x.1 x.2.1 x.2.2)
def FV (x:Da):Cnd:=some ((FU x.1 x.2.1 x.2.2))
def OI (x:Da):List Prop:=[((FU x.1 x.2.1 x.2.2)=true→(0:Int)≤x.1∧x.1 <(↑x.2.1.5.length:Int)),((FU x.1 x.2.1 x.2.2)=true→Ad (x.2.2.length+(8:Nat)+(x.2.1.5.getD x.1.toNat (Ae TC.write)).1.size)),((FU x.1 x.2.1 x.2.2)=true→Ad ((x.2.2++Iq (x.2.1.5.getD x.1.toNat (Ae TC.write)).1).length+(8:Nat))),((FU x.1 x.2.1 x.2.2)=true→(x.2.1.5.getD x.1.toNat (Ae TC.write)).3=true→Ad ((Db x.1 x.2.1 x.2.2).length+(8:Nat))),((FU x.1 x.2.1 x.2.2)=true→(x.2.1.5.getD x.1.toNat (Ae TC.write)).3=false→Ad ((Db x.1 x.2.1 x.2.2).length+(8:Nat))),((FU x.1 x.2.1 x.2.2)=true→(x.2.1.5.getD x.1.toNat (Ae TC.write)).3=false→Ad ((Hp x.1 x.2.1 x.2.2).length+(8:Nat)+(x.2.1.5.getD x.1.toNat (Ae TC.write)).4.size))]
abbrev IK:Da→List Prop:=OI
def Tz (x:Da):AR:=[(some 0,some (!decide (x.1 <(↑x.2.1.5.length:Int))),⟨65,7,[(7,.sq 6)],[(6,some (.arr 5 1 (.ty .u8 x.2.2))),(0,some (.box 29 [.v (.int .i64 x.2.1.1),.v (.int .i64 x.2.1.2),.v (.int .i64 x.2.1.3.1),.v (.int .i64 x.2.1.3.2),.v (.int .i64 x.2.1.4.1),.v (.int .i64 x.2.1.4.2),.sl .write x.2.1.5]))]⟩)]
def Hq (x:Da):Nat:=((↑x.2.1.5.length:Int) - x.1).toNat
def OJ (x:Da):Da:=AF FW FV (Hq x) x
theorem Av6 (a0:Int) (a1:TChange) (a2:List UInt8):Ba (As A4r L0) 9 (Ag Tryz.prog 59 0) Aco (NC (a0,a1,a2))=some (OI (a0,a1,a2),Tz (a0,a1,a2),FV (a0,a1,a2),NC (FW (a0,a1,a2))):=by kernel_rfl
theorem Av7 (a0:Int) (a1:TChange) (a2:List UInt8) (hp:∀p∈IK (a0,a1,a2),p):∀p∈OI (a0,a1,a2),p:=hp
noncomputable def VE:=HB (As A4r L0) (Ag Tryz.prog 59 0) Aco A2r Qg Hq FW FV IK Tz
theorem Asv:∀s b ps outs,VE s=some (b,ps,outs)→Wf s ⟨ps,outs,none⟩∧Bg (As C0 L0) b s ps outs:=
 AT (T:=NC) An1 AA (u:=9) (by kernel_rfl) (by decide) (fun⟨a0,a1,a2⟩=>Av6 a0 a1 a2) (fun⟨a0,a1,a2⟩=>Av7 a0 a1 a2) Amn (fun _=>AD (n:=65) rfl) fun _ _=>rfl
noncomputable def Acn:=Dd 0 VE L0
theorem Asu:G9 Acn:=AH Asv AA
def Bs (_a0:List UInt8) (a1:List Ab) (a2:TChange):Bool:=WT a1 a2 !=(0:Int)
def Is (a0:List UInt8) (_a1:List Ab) (a2:TChange):List UInt8:=a0++Ap a2.1++Ap a2.2
def DT (a0:List UInt8) (a1:List Ab) (a2:TChange):List UInt8:=(Is a0 a1 a2)++P8 a2.3++Ic a2.4
def Agh (a0:List UInt8) (a1:List Ab) (a2:TChange):List UInt8:=bif(Bs a0 a1 a2) then[]++a0 else(OJ ((0:Int),a2,(DT a0 a1 a2)++Ap (↑a2.5.length:Int))).snd.snd
def Azf (_a0:List UInt8) (_a1:List Ab) (_a2:TChange):A:=.sq 0
def Agi (a0:List UInt8) (a1:List Ab) (a2:TChange):Objs:=[(0,some (.arr 5 1 (.ty .u8 (Agh a0 a1 a2))))]
def Bdm (a0:List UInt8) (a1:List Ab) (a2:TChange):List Prop:=[(Am a2.5.length),(∀(g:Ab),g∈a1→Am g.1.size),((Bs a0 a1 a2)=true→Ad ((0:Nat)+a0.length)),((!(Bs a0 a1 a2))=true→Ad (a0.length+(8:Nat))),((!(Bs a0 a1 a2))=true→Ad ((a0++Ap a2.1).length+(8:Nat))),((!(Bs a0 a1 a2))=true→Ad ((Is a0 a1 a2).length+(8:Nat))),((!(Bs a0 a1 a2))=true→Ad (((Is a0 a1 a2)++P8 a2.3).length+(16:Nat))),((!(Bs a0 a1 a2))=true→Ad ((DT a0 a1 a2).length+(8:Nat))),((!(Bs a0 a1 a2))=true→Ax FW FV IK (Hq ((0:Int),a2,(DT a0 a1 a2)++Ap (↑a2.5.length:Int))) ((0:Int),a2,(DT a0 a1 a2)++Ap (↑a2.5.length:Int)))]
theorem Bdl (a0:List UInt8) (a1:List Ab) (a2:TChange):Hz (As A4r Acn) 9 59 [Ai .bytes a0,.sl .group a1,Ai .change a2] 0 []=some (1,Azf a0 a1 a2,1,Agi a0 a1 a2,[(Am a2.5.length),(∀(g:Ab),g∈a1→Am g.1.size),((Bs a0 a1 a2)=true→Ad ((0:Nat)+a0.length)),((!(Bs a0 a1 a2))=true→Ad (a0.length+(8:Nat))),((!(Bs a0 a1 a2))=true→Ad ((a0++Ap a2.1).length+(8:Nat))),((!(Bs a0 a1 a2))=true→Ad ((Is a0 a1 a2).length+(8:Nat))),((!(Bs a0 a1 a2))=true→Ad (((Is a0 a1 a2)++P8 a2.3).length+(16:Nat))),((!(Bs a0 a1 a2))=true→Ad ((DT a0 a1 a2).length+(8:Nat))),((!(Bs a0 a1 a2))=true→Ag Tryz.prog (59:FuncId) (0:Nat)=Ag Tryz.prog (59:FuncId) (0:Nat)),((!(Bs a0 a1 a2))=true→Ax FW FV IK (Hq ((0:Int),a2,(DT a0 a1 a2)++Ap (↑a2.5.length:Int))) ((0:Int),a2,(DT a0 a1 a2)++Ap (↑a2.5.length:Int)))]):=by kernel_rfl
theorem Bi9 (a0:List UInt8) (a1:List Ab) (a2:TChange) (hp:∀p∈Bdm a0 a1 a2,p):CallOk Tryz.prog 59 [Ai .bytes a0,.sl .group a1,Ai .change a2] 0 [] 1 (Azf a0 a1 a2) 1 (Agi a0 a1 a2):=by
 have n0:=N0 hp
 have n1:=N0 (N1 hp)
 have n2:=N0 (N1 (N1 hp))
 have n3:=N0 (N1 (N1 (N1 hp)))
 have n4:=N0 (N1 (N1 (N1 (N1 hp))))
 have n5:=N0 (N1 (N1 (N1 (N1 (N1 hp)))))
 have n6:=N0 (N1 (N1 (N1 (N1 (N1 (N1 hp))))))
 have n7:=N0 (N1 (N1 (N1 (N1 (N1 (N1 (N1 hp)))))))
 have n8:((!(Bs a0 a1 a2))=true→Ag Tryz.prog (59:FuncId) (0:Nat)=Ag Tryz.prog (59:FuncId) (0:Nat)):=by intros;rfl
 have n9:=N0 (N1 (N1 (N1 (N1 (N1 (N1 (N1 (N1 hp))))))))
 exact AB (Ar An1 Asu) (Bdl a0 a1 a2) (Aa n0 (Aa n1 (Aa n2 (Aa n3 (Aa n4 (Aa n5 (Aa n6 (Aa n7 (Aa n8 (Aa n9 Af))))))))))
def Asx (_a0:List UInt8) (_a1:List Ab) (_a2:TChange):A:=.sq 0
def Asw (a0:List UInt8) (a1:List Ab) (a2:TChange):Objs:=[(0,some (.arr 5 1 (.ty .u8 (a0++Le a1 a2))))]
def Aji (a0:List UInt8) (a1:List Ab) (a2:TChange):List Prop:=[Am a2.writes.length∧Ad (a0.length+2048)∧∀g∈a1,Am g.1.size]
theorem A2t (i:Int) (c:TChange) (b:List UInt8):K0 i c b=c:=by
 unfold K0
 cases(c.5.getD i.toNat (Ae TC.write)).3<;>rfl
theorem A2s {l:List Ab} {c:TChange} (h:WT l c=0) (pre:List UInt8) (hb:Ad (pre.length+1100)):
  Ax FW FV IK (Hq (0,c,pre)) (0,c,pre)∧OJ (0,c,pre)=((c.writes.length:Int),c,pre++c.writes.flatMap Eb):=by
 obtain⟨h8,hw⟩:=A0t h
 unfold Ad at hb
 obtain⟨h1,h2⟩:=Am8 (fun i=>(((i:Int),c,pre++(c.writes.take i).flatMap Eb):Da)) c.writes.length FW FV IK (Hq (0,c,pre)) (0,c,pre) (by simp) (by show c.writes.length≤((c.writes.length:Int) - 0).toNat;omega)
  (fun i _=>by
   show(!!decide ((i:Int) <(c.writes.length:Int)))=_
   rw[nn,Mu])
  (fun i hi=>by
   show(IntKind.i64.wrap ((i:Int)+1),K0 (i:Int) c (pre++(c.writes.take i).flatMap Eb),OH (i:Int) c (pre++(c.writes.take i).flatMap Eb))=_
   rw[Fz (by omega),Me Eb c.writes (Ae TC.write) i hi,←List.append_assoc,A2t]
   unfold OH Hp Db
   rw[Int.toNat_natCast]
   exact congrArg (fun x=>(((i+1:Nat):Int),c,x)) (Bhl _ (c.writes.getD i (Ae TC.write))))
  (fun i hi=>by
   have hin:(!!decide ((i:Int) <(c.writes.length:Int)))=true→i <c.writes.length:=fun h=>by rw[nn] at h;have:=of_decide_eq_true h;omega
   have hl:=Bfx h i hi
   have hk:i <c.writes.length→_:=fun hi=>A39 (hw _ (getD_in c.writes (Ae TC.write) i hi))
   have ht:=P9 (c.writes.getD i (Ae TC.write)).key
   have hn:=A3 (c.writes.getD i (Ae TC.write)).group
   have h0:=A3 0
   have e1:(Db (i:Int) c (pre++(c.writes.take i).flatMap Eb)).length=pre.length+((c.writes.take i).flatMap Eb).length+(Iq (c.writes.getD i (Ae TC.write)).key).length+(Ap (c.writes.getD i (Ae TC.write)).group).length:=by
    unfold Db
    rw[Int.toNat_natCast,List.length_append,List.length_append,List.length_append]
   have e0:(Hp (i:Int) c (pre++(c.writes.take i).flatMap Eb)).length≤pre.length+((c.writes.take i).flatMap Eb).length+(Iq (c.writes.getD i (Ae TC.write)).key).length+(Ap (c.writes.getD i (Ae TC.write)).group).length+8:=by
    unfold Hp
    rw[List.length_append,e1]
    omega
   refine Aa (fun h=>by have:=hin h;show(0:Int)≤(i:Int)∧(i:Int) <(c.writes.length:Int);omega) (Aa (fun h=>?_) (Aa (fun h=>?_) (Aa (fun h _=>?_) (Aa (fun h _=>?_) (Aa (fun h _=>?_) Af)))))
   ·have h9:=hin h
    obtain⟨_,k1,_,_,k2,_⟩:=hk h9
    show Ad ((pre++(c.writes.take i).flatMap Eb).length+8+(c.writes.getD ((i:Int)).toNat (Ae TC.write)).key.size)
    rw[Int.toNat_natCast,List.length_append]
    unfold Ad;omega
   ·have h9:=hin h
    obtain⟨_,k1,_,_,k2,_⟩:=hk h9
    show Ad (((pre++(c.writes.take i).flatMap Eb)++Iq (c.writes.getD ((i:Int)).toNat (Ae TC.write)).key).length+8)
    rw[Int.toNat_natCast,List.length_append,List.length_append]
    unfold Ad;omega
   ·have h9:=hin h
    obtain⟨_,k1,_,_,k2,_⟩:=hk h9
    show Ad ((Db (i:Int) c (pre++(c.writes.take i).flatMap Eb)).length+8)
    rw[e1];unfold Ad;omega
   ·have h9:=hin h
    obtain⟨_,k1,_,_,k2,_⟩:=hk h9
    show Ad ((Db (i:Int) c (pre++(c.writes.take i).flatMap Eb)).length+8)
    rw[e1];unfold Ad;omega
   ·have h9:=hin h
    obtain⟨_,k1,_,_,k2,_⟩:=hk h9
    show Ad ((Hp (i:Int) c (pre++(c.writes.take i).flatMap Eb)).length+8+(c.writes.getD ((i:Int)).toNat (Ae TC.write)).value.size)
    rw[Int.toNat_natCast]
    unfold Ad;omega)
 exact⟨h1,by show AF _ _ _ _=_;rw[h2,List.take_length]⟩
theorem Bdk (a0:List UInt8) (a1:List Ab) (a2:TChange) (hp:∀p∈Aji a0 a1 a2,p):CallOk Tryz.prog 59 [Ai .bytes a0,.sl .group a1,Ai .change a2] 0 [] 1 (Asx a0 a1 a2) 1 (Asw a0 a1 a2):=by
 obtain⟨hw,hb,hg⟩:=hp _ (List.mem_cons_self ..)
 unfold Ad at hb
 have h1:=A3 a2.site
 have h2:=A3 a2.seq
 have h3:=Afr a2.stamp
 have h4:=Ny a2.vec
 have h5:=A3 (a2.writes.length:Int)
 have e1:(Is a0 a1 a2).length=a0.length+(Ap a2.site).length+(Ap a2.seq).length:=by unfold Is;rw[List.length_append,List.length_append]
 have e0:(DT a0 a1 a2).length=a0.length+(Ap a2.site).length+(Ap a2.seq).length+(P8 a2.stamp).length+(Ic a2.vec).length:=by unfold DT;rw[List.length_append,List.length_append,e1]
 have ek:DT a0 a1 a2++Ap (a2.writes.length:Int)=a0++Apa a2:=by
  unfold DT Is Apa
  simp only[List.append_assoc]
 have hin:(!(Bs a0 a1 a2))=true→WT a1 a2=0:=fun h=>by unfold Bs at h;simpa using h
 have lp:WT a1 a2=0→_:=fun h=>A2s h (DT a0 a1 a2++Ap (a2.writes.length:Int)) (by rw[List.length_append,e0];unfold Ad;omega)
 have h:=Bi9 a0 a1 a2 (Aa hw (Aa hg (Aa (fun _=>by unfold Ad;omega) (Aa (fun _=>by unfold Ad;omega) (Aa (fun _=>by show Ad ((a0++Ap a2.site).length+8);rw[List.length_append];unfold Ad;omega) (Aa (fun _=>by rw[e1];unfold Ad;omega) (Aa (fun _=>by show Ad ((Is a0 a1 a2++P8 a2.stamp).length+16);rw[List.length_append,e1];unfold Ad;omega) (Aa (fun _=>by rw[e0];unfold Ad;omega) (Aa (fun h=>(lp (hin h)).1) Af)))))))))
 have e:Agh a0 a1 a2=a0++Le a1 a2:=by
  unfold Agh Le Bs
  cases hc:WT a1 a2==0 with
  |false=>
   rw[show(WT a1 a2 !=0)=true by unfold bne;rw[hc];rfl]
   show[]++a0=a0++[]
   rw[List.append_nil,List.nil_append]
  |true=>
   rw[show(WT a1 a2 !=0)=false by unfold bne;rw[hc];rfl,cond_false,cond_true]
   have q:=(lp (by simpa using hc)).2
   have q':(OJ (0,a2,DT a0 a1 a2++Ap (a2.5.length:Int))).2.2=(DT a0 a1 a2++Ap (a2.writes.length:Int))++a2.writes.flatMap Eb:=congrArg (fun x=>x.2.2) q
   rw[q',ek,List.append_assoc]
 unfold Agi at h
 rw[e] at h
 exact h
def Azg:List A→Nat→Objs→Option A6:=Bt [.t .bytes,.l .group,.t .change] 1 Asx Asw Aji
theorem A8n:HF Tryz.prog 59 Azg:=Av (ks:=[.t .bytes,.l .group,.t .change]) Bdk
noncomputable def A4s:=AS 59 Azg A4r
theorem An2:Cr Tryz.prog A4s:=An A8n An1
abbrev Bc:Type:=(List Int)×Int×(List UInt8)
def Jv (x:Bc):St:=⟨24,2,[(1,.sl .i64 x.1),(5,.sq 1),(6,.v (.int .i64 x.2.1))],[(1,some (.arr 5 1 (.ty .u8 x.2.2)))]⟩
def K2:St→Option Bc
 |⟨24,2,[(1,.sl .i64 z0),(5,.sq 1),(6,.v (.int .i64 z1))],[(1,some (.arr 5 1 (.ty .u8 z2)))]⟩=>some (z0,z1,z2)
 |_=>none
theorem Xb:∀s x,K2 s=some x→s=Jv x:=fun s x h=>by
 unfold K2 at h
 split at h
 ·cases h;rfl
 ·cases h
def RE:Cz:=⟨1,2,[1,5,6],[],[(2,1)],[2],[5],[1]⟩
def Ags:CX:=⟨[],[(0,1)],[1,5,6],[0]⟩
def JJ (a0:List Int) (a1:Int) (_a2:List UInt8):Bool:=!!decide (a1 <(↑a0.length:Int))
def ZN (a0:List Int) (a1:Int) (a2:List UInt8):List UInt8:=a2++Ap (a0.getD a1.toNat (Ae TC.i64))
def CJ (x:Bc):Bc:=(x.1,IntKind.i64.wrap (x.2.1+(1:Int)),ZN x.1 x.2.1 x.2.2)
def CI (x:Bc):Cnd:=some ((JJ x.1 x.2.1 x.2.2))
def Kf (x:Bc):List Prop:=[((JJ x.1 x.2.1 x.2.2)=true→(0:Int)≤x.2.1∧x.2.1 <(↑x.1.length:Int)),((JJ x.1 x.2.1 x.2.2)=true→Ad (x.2.2.length+(8:Nat)))]
abbrev Fq:Bc→List Prop:=Kf
def Nh (x:Bc):AR:=[(some 0,some (!decide (x.2.1 <(↑x.1.length:Int))),⟨24,2,[(5,.sq 1)],[(1,some (.arr 5 1 (.ty .u8 x.2.2)))]⟩)]
def D3 (x:Bc):Nat:=((↑x.1.length:Int) - x.2.1).toNat
def OS (x:Bc):Bc:=AF CJ CI (D3 x) x
theorem Ac6 (a0:List Int) (a1:Int) (a2:List UInt8):Ba (As A4s L0) 9 (Ag Tryz.prog 60 0) RE (Jv (a0,a1,a2))=some (Kf (a0,a1,a2),Nh (a0,a1,a2),CI (a0,a1,a2),Jv (CJ (a0,a1,a2))):=by kernel_rfl
theorem Ac7 (a0:List Int) (a1:Int) (a2:List UInt8) (hp:∀p∈Fq (a0,a1,a2),p):∀p∈Kf (a0,a1,a2),p:=hp
noncomputable def OR:=HB (As A4s L0) (Ag Tryz.prog 60 0) RE Ags K2 D3 CJ CI Fq Nh
theorem ZO:∀s b ps outs,OR s=some (b,ps,outs)→Wf s ⟨ps,outs,none⟩∧Bg (As C0 L0) b s ps outs:=
 AT (T:=Jv) An2 AA (u:=9) (by kernel_rfl) (by decide) (fun⟨a0,a1,a2⟩=>Ac6 a0 a1 a2) (fun⟨a0,a1,a2⟩=>Ac7 a0 a1 a2) Xb (fun _=>AD (n:=24) rfl) fun _ _=>rfl
noncomputable def RD:=Dd 0 OR L0
theorem ZM:G9 RD:=AH ZO AA
def Qi (a0:List UInt8) (a1:List Int):List UInt8:=(OS (a1,(0:Int),a0++Ap (↑a1.length:Int))).snd.snd
def Ya (_a0:List UInt8) (_a1:List Int):A:=.sq 0
def Qj (a0:List UInt8) (a1:List Int):Objs:=[(0,some (.arr 5 1 (.ty .u8 (Qi a0 a1))))]
def Ats (a0:List UInt8) (a1:List Int):List Prop:=[(Ad (a0.length+(8:Nat))),(Ax CJ CI Fq (D3 (a1,(0:Int),a0++Ap (↑a1.length:Int))) (a1,(0:Int),a0++Ap (↑a1.length:Int)))]
theorem Atr (a0:List UInt8) (a1:List Int):Hz (As A4s RD) 9 60 [Ai .bytes a0,Ai .ints a1] 0 []=some (1,Ya a0 a1,1,Qj a0 a1,[(Ad (a0.length+(8:Nat))),(Ag Tryz.prog (60:FuncId) (0:Nat)=Ag Tryz.prog (60:FuncId) (0:Nat)),(Ax CJ CI Fq (D3 (a1,(0:Int),a0++Ap (↑a1.length:Int))) (a1,(0:Int),a0++Ap (↑a1.length:Int)))]):=by kernel_rfl
theorem Awl (a0:List UInt8) (a1:List Int) (hp:∀p∈Ats a0 a1,p):CallOk Tryz.prog 60 [Ai .bytes a0,Ai .ints a1] 0 [] 1 (Ya a0 a1) 1 (Qj a0 a1):=by
 have n0:=N0 hp
 have n2:=N0 (N1 hp)
 exact AB (Ar An2 ZM) (Atr a0 a1) (Aa n0 (Aa rfl (Aa n2 Af)))
def VV (_a0:List UInt8) (_a1:List Int):A:=.sq 0
def VU (a0:List UInt8) (a1:List Int):Objs:=[(0,some (.arr 5 1 (.ty .u8 (a0++JR a1))))]
def paP (n m:Nat):Prop:=n≤1000000∧m≤274877906944
def TQ (a0:List UInt8) (a1:List Int):List Prop:=[paP a1.length a0.length]
theorem Blw (l:List Int) (i:Nat) (hi:i≤l.length):((l.take i).flatMap Ap).length≤8*i:=by
 have:=Nq Ap 8 (l.take i) fun n _=>A3 n
 rwa[List.length_take,Nat.min_eq_left hi] at this
theorem Agt (l:List Int) (hl:l.length≤1000000) (pre:List UInt8) (hb:Ad (pre.length+16777200)):
  Ax CJ CI Fq (D3 (l,0,pre)) (l,0,pre)∧OS (l,0,pre)=(l,(l.length:Int),pre++l.flatMap Ap):=by
 unfold Ad at hb
 obtain⟨h1,h2⟩:=Am8 (fun i=>((l,(i:Int),pre++(l.take i).flatMap Ap):Bc)) l.length CJ CI Fq (D3 (l,0,pre)) (l,0,pre) (by simp) (by show l.length≤((l.length:Int) - 0).toNat;omega)
  (fun i _=>by
   show(!!decide ((i:Int) <(l.length:Int)))=_
   rw[nn,Mu])
  (fun i hi=>by
   show(l,IntKind.i64.wrap ((i:Int)+1),(pre++(l.take i).flatMap Ap)++Ap (l.getD ((i:Int)).toNat (Ae TC.i64)))=_
   rw[Fz (by omega),Me Ap l (Ae TC.i64) i hi,←List.append_assoc,Int.toNat_natCast])
  (fun i hi=>by
   have hin:(!!decide ((i:Int) <(l.length:Int)))=true→i <l.length:=fun h=>by rw[nn] at h;have:=of_decide_eq_true h;omega
   have hf:=Blw l i hi
   refine Aa (fun h=>by have:=hin h;show(0:Int)≤(i:Int)∧(i:Int) <(l.length:Int);omega) (Aa (fun h=>?_) Af)
   have:=hin h
   show Ad ((pre++(l.take i).flatMap Ap).length+8)
   rw[List.length_append]
   unfold Ad;omega)
 exact⟨h1,by show AF _ _ _ _=_;rw[h2,List.take_length]⟩
theorem Atq (a0:List UInt8) (a1:List Int) (hp:∀p∈TQ a0 a1,p):CallOk Tryz.prog 60 [Ai .bytes a0,Ai .ints a1] 0 [] 1 (VV a0 a1) 1 (VU a0 a1):=by
 obtain⟨hl,hb⟩:=hp _ (List.mem_cons_self ..)
 have h8:=A3 (a1.length:Int)
 obtain⟨l1,l2⟩:=Agt a1 hl (a0++Ap (a1.length:Int)) (by rw[List.length_append];unfold Ad;omega)
 have h:=Awl a0 a1 (Aa (by unfold Ad;omega) (Aa l1 Af))
 have e:Qi a0 a1=a0++JR a1:=by
  unfold Qi JR
  rw[l2,←List.append_assoc]
 unfold Qj at h
 rw[e] at h
 exact h
def Yb:List A→Nat→Objs→Option A6:=Bt [.t .bytes,.t .ints] 1 VV VU TQ
theorem Am2:HF Tryz.prog 60 Yb:=Av (ks:=[.t .bytes,.t .ints]) Atq
noncomputable def Bsn:=AS 60 Yb A4s
theorem Bkl:Cr Tryz.prog Bsn:=An Am2 An2
noncomputable def Cwb:=Bsn
theorem Bt0:Cr Tryz.prog Cwb:=Bkl
end Go.Proofs.YtifkbgkbajncjaaGreatDoor
namespace Go.Proofs.YtifkbgkbajncjaaGreatDoor
open Go.RowKit
noncomputable def Bso:=AS 25 P7 Cwb
theorem Bkn:Cr Tryz.prog Bso:=An Tf Bt0
noncomputable def Bsp:=AS 32 Zg Bso
theorem Bko:Cr Tryz.prog Bsp:=An Acc Bkn
noncomputable def Bsq:=AS 31 Sq Bsp
theorem Bkp:Cr Tryz.prog Bsq:=An UU Bko
noncomputable def Bsr:=AS 36 ZB Bsq
theorem Bkq:Cr Tryz.prog Bsr:=An Acy Bkp
noncomputable def A4t:=AS 49 Aza Bsr
theorem An3:Cr Tryz.prog A4t:=An A8c Bkq
abbrev B5:Type:=(List Int)×(List Int)×Int
def LO (x:B5):St:=⟨26,0,[(0,.sl .i64 x.1),(1,.sl .i64 x.2.1),(5,.v (.int .i64 x.2.2))],[]⟩
def Ou:St→Option B5
 |⟨26,0,[(0,.sl .i64 z0),(1,.sl .i64 z1),(5,.v (.int .i64 z2))],[]⟩=>some (z0,z1,z2)
 |_=>none
theorem Afu:∀s x,Ou s=some x→s=LO x:=fun s x h=>by
 unfold Ou at h
 split at h
 ·cases h;rfl
 ·cases h
def XF:Cz:=⟨0,0,[0,1,5],[],[],[],[4],[]⟩
def Avp:CX:=⟨[],[],[0,1,5],[]⟩
def Jp (a0:List Int) (_a1:List Int) (a2:Int):Bool:=!!decide (a2 <(↑a0.length:Int))
def Gs (a0:List Int) (a1:List Int) (a2:Int):Bool:=(Jp a0 a1 a2)&&a0.getD a2.toNat (Ae TC.i64) !=a1.getD a2.toNat (Ae TC.i64)
def Als (a0:List Int) (a1:List Int) (a2:Int):Bool:=(Jp a0 a1 a2)&&!(Gs a0 a1 a2)
def Gu (x:B5):B5:=(x.1,x.2.1,IntKind.i64.wrap (x.2.2+(1:Int)))
def Gt (x:B5):Cnd:=some (Als x.1 x.2.1 x.2.2)
def MJ (x:B5):List Prop:=[((Jp x.1 x.2.1 x.2.2)=true→(0:Int)≤x.2.2∧x.2.2 <(↑x.1.length:Int)),((Jp x.1 x.2.1 x.2.2)=true→(0:Int)≤x.2.2∧x.2.2 <(↑x.2.1.length:Int))]
abbrev I0:B5→List Prop:=MJ
def Rl (x:B5):AR:=[(some 0,some (!decide (x.2.2 <(↑x.1.length:Int))),⟨26,0,[(4,.dead)],[]⟩),(none,some ((Gs x.1 x.2.1 x.2.2)),⟨26,0,[(4,.v (.bool (false)))],[]⟩)]
def HM (x:B5):Nat:=((↑x.1.length:Int) - x.2.2).toNat
def FJ (x:B5):B5:=AF Gu Gt (HM x) x
theorem Aqv (a0:List Int) (a1:List Int) (a2:Int):Ba (As A4t L0) 9 (Ag Tryz.prog 47 0) XF (LO (a0,a1,a2))=some (MJ (a0,a1,a2),Rl (a0,a1,a2),Gt (a0,a1,a2),LO (Gu (a0,a1,a2))):=by kernel_rfl
theorem Aqw (a0:List Int) (a1:List Int) (a2:Int) (hp:∀p∈I0 (a0,a1,a2),p):∀p∈MJ (a0,a1,a2),p:=hp
noncomputable def Tk:=HB (As A4t L0) (Ag Tryz.prog 47 0) XF Avp Ou HM Gu Gt I0 Rl
theorem Alt:∀s b ps outs,Tk s=some (b,ps,outs)→Wf s ⟨ps,outs,none⟩∧Bg (As C0 L0) b s ps outs:=
 AT (T:=LO) An3 AA (u:=9) (by kernel_rfl) (by decide) (fun⟨a0,a1,a2⟩=>Aqv a0 a1 a2) (fun⟨a0,a1,a2⟩=>Aqw a0 a1 a2) Afu (fun _=>AD (n:=26) rfl) fun _ _=>rfl
noncomputable def XE:=Dd 0 Tk L0
theorem Alr:G9 XE:=AH Alt AA
def Vi (a0:List Int) (a1:List Int):B5:=FJ (a0,a1,(0:Int))
def Ml (a0:List Int) (a1:List Int):Bool:=(↑a0.length:Int) !=(↑a1.length:Int)
def Aqu (a0:List Int) (a1:List Int):Bool:=bif(Ml a0 a1) then false else bif Gs (Vi a0 a1).fst (Vi a0 a1).snd.fst (Vi a0 a1).snd.snd then false else true
def Y2 (a0:List Int) (a1:List Int):A:=.v (.bool (Aqu a0 a1))
def Aqx (_a0:List Int) (_a1:List Int):Objs:=[]
def Aic (a0:List Int) (a1:List Int):List Prop:=[((!(Ml a0 a1))=true→Ax Gu Gt I0 (HM (a0,a1,(0:Int))) (a0,a1,(0:Int)))]
theorem A7o (a0:List Int) (a1:List Int):Hz (As A4t XE) 9 47 [Ai .ints a0,Ai .ints a1] 0 []=some (1,Y2 a0 a1,0,Aqx a0 a1,[((!(Ml a0 a1))=true→Ag Tryz.prog (47:FuncId) (0:Nat)=Ag Tryz.prog (47:FuncId) (0:Nat)),((!(Ml a0 a1))=true→Ax Gu Gt I0 (HM (a0,a1,(0:Int))) (a0,a1,(0:Int)))]):=by kernel_rfl
theorem Bcf (a0:List Int) (a1:List Int) (hp:∀p∈Aic a0 a1,p):CallOk Tryz.prog 47 [Ai .ints a0,Ai .ints a1] 0 [] 1 (Y2 a0 a1) 0 (Aqx a0 a1):=by
 have n0:((!(Ml a0 a1))=true→Ag Tryz.prog (47:FuncId) (0:Nat)=Ag Tryz.prog (47:FuncId) (0:Nat)):=by intros;rfl
 have n1:=N0 hp
 exact AB (Ar An3 Alr) (A7o a0 a1) (Aa n0 (Aa n1 Af))
def Aid (a0:List Int) (a1:List Int):A:=.v (.bool (QB eqI (Ae TC.i64) a0 a1))
def Aib (_a0:List Int) (_a1:List Int):Objs:=[]
def Ab5 (a0:List Int) (_a1:List Int):List Prop:=[Am a0.length]
theorem A7n (a b:List Int) (hl:Am a.length):(∀p∈Aic a b,p)∧Aqu a b=QB eqI (Ae TC.i64) a b:=by
 have hk0:((a.length:Int) !=(b.length:Int))=!(a.length==b.length):=Bmn _ _
 have main:(a.length==b.length)=true→_:=fun hlen=>Bt9 a b (Ae TC.i64) eqI (next:=Gu) (goes:=Gt) (ps:=I0) (fuel:=HM (a,b,0)) Gs hl (by show a.length≤((a.length:Int) - 0).toNat;omega)
  (fun i=>by
   show((!!decide ((i:Int) <(a.length:Int)))&&!_)=_
   rw[nn,Mu,Int.toNat_natCast]
   rfl) (fun i=>rfl) (fun i=>rfl) (fun i hi=>by
   have hlen':a.length=b.length:=by simpa using hlen
   have hin:(!!decide ((i:Int) <(a.length:Int)))=true→(i:Int) <(a.length:Int):=fun h=>by rw[nn] at h;exact of_decide_eq_true h
   exact Aa (fun h=>⟨by show(0:Int)≤(i:Int);omega,hin h⟩) (Aa (fun h=>⟨by show(0:Int)≤(i:Int);omega,by have:=hin h;show(i:Int) <(b.length:Int);omega⟩) Af))
 refine⟨Aa (fun h=>(main (by
  have h':(!((a.length:Int) !=(b.length:Int)))=true:=h
  rwa[hk0,Bool.not_not] at h')).1) Af,?_⟩
 show(bif((a.length:Int) !=(b.length:Int)) then false else !Gs (FJ (a,b,0)).1 (FJ (a,b,0)).2.1 (FJ (a,b,0)).2.2)=_
 rw[hk0]
 unfold QB
 cases h0:a.length==b.length with
 |false=>rfl
 |true=>
  have m:=(main h0).2
  rw[Bool.not_true,cond_false,Bool.true_and]
  have m':Gs (FJ (a,b,0)).1 (FJ (a,b,0)).2.1 (FJ (a,b,0)).2.2=_:=m
  rw[m',Bool.not_not]
theorem A7m (a0:List Int) (a1:List Int) (hp:∀p∈Ab5 a0 a1,p):CallOk Tryz.prog 47 [Ai .ints a0,Ai .ints a1] 0 [] 1 (Aid a0 a1) 0 (Aib a0 a1):=by
 obtain⟨h1,h2⟩:=A7n a0 a1 (hp _ (List.mem_cons_self ..))
 have h:=Bcf a0 a1 h1
 unfold Y2 at h
 rw[h2] at h
 exact h
def Aqy:List A→Nat→Objs→Option A6:=Bt [.t .ints,.t .ints] 0 Aid Aib Ab5
theorem A17:HF Tryz.prog 47 Aqy:=Av (ks:=[.t .ints,.t .ints]) A7m
noncomputable def A4u:=AS 47 Aqy A4t
theorem An4:Cr Tryz.prog A4u:=An A17 An3
abbrev Bq:Type:=(List Aw)×(List Aw)×Int
def JZ (x:Bq):St:=⟨26,0,[(0,.sl .write x.1),(1,.sl .write x.2.1),(5,.v (.int .i64 x.2.2))],[]⟩
def LA:St→Option Bq
 |⟨26,0,[(0,.sl .write z0),(1,.sl .write z1),(5,.v (.int .i64 z2))],[]⟩=>some (z0,z1,z2)
 |_=>none
theorem Zy:∀s x,LA s=some x→s=JZ x:=fun s x h=>by
 unfold LA at h
 split at h
 ·cases h;rfl
 ·cases h
def TB:Cz:=⟨0,0,[0,1,5],[],[],[],[4],[]⟩
def Amo:CX:=⟨[],[],[0,1,5],[]⟩
def It (a0:List Aw) (_a1:List Aw) (a2:Int):Bool:=!!decide (a2 <(↑a0.length:Int))
def Ez (a0:List Aw) (a1:List Aw) (a2:Int):Bool:=(It a0 a1 a2)&&!((a0.getD a2.toNat (Ae TC.write)).1.toList==(a1.getD a2.toNat (Ae TC.write)).1.toList&&((a0.getD a2.toNat (Ae TC.write)).2==(a1.getD a2.toNat (Ae TC.write)).2&&((a0.getD a2.toNat (Ae TC.write)).3==(a1.getD a2.toNat (Ae TC.write)).3&&(a0.getD a2.toNat (Ae TC.write)).4.toList==(a1.getD a2.toNat (Ae TC.write)).4.toList)))
def Acs (a0:List Aw) (a1:List Aw) (a2:Int):Bool:=(It a0 a1 a2)&&!(Ez a0 a1 a2)
def EB (x:Bq):Bq:=(x.1,x.2.1,IntKind.i64.wrap (x.2.2+(1:Int)))
def EA (x:Bq):Cnd:=some (Acs x.1 x.2.1 x.2.2)
def K1 (x:Bq):List Prop:=[((It x.1 x.2.1 x.2.2)=true→(0:Int)≤x.2.2∧x.2.2 <(↑x.1.length:Int)),((It x.1 x.2.1 x.2.2)=true→(0:Int)≤x.2.2∧x.2.2 <(↑x.2.1.length:Int))]
abbrev H0:Bq→List Prop:=K1
def OK (x:Bq):AR:=[(some 0,some (!decide (x.2.2 <(↑x.1.length:Int))),⟨26,0,[(4,.dead)],[]⟩),(none,some ((Ez x.1 x.2.1 x.2.2)),⟨26,0,[(4,.v (.bool (false)))],[]⟩)]
def G3 (x:Bq):Nat:=((↑x.1.length:Int) - x.2.2).toNat
def DU (x:Bq):Bq:=AF EB EA (G3 x) x
theorem Agj (a0:List Aw) (a1:List Aw) (a2:Int):Ba (As A4u L0) 9 (Ag Tryz.prog 92 0) TB (JZ (a0,a1,a2))=some (K1 (a0,a1,a2),OK (a0,a1,a2),EA (a0,a1,a2),JZ (EB (a0,a1,a2))):=by kernel_rfl
theorem Agk (a0:List Aw) (a1:List Aw) (a2:Int) (hp:∀p∈H0 (a0,a1,a2),p):∀p∈K1 (a0,a1,a2),p:=hp
noncomputable def PH:=HB (As A4u L0) (Ag Tryz.prog 92 0) TB Amo LA G3 EB EA H0 OK
theorem Acu:∀s b ps outs,PH s=some (b,ps,outs)→Wf s ⟨ps,outs,none⟩∧Bg (As C0 L0) b s ps outs:=
 AT (T:=JZ) An4 AA (u:=9) (by kernel_rfl) (by decide) (fun⟨a0,a1,a2⟩=>Agj a0 a1 a2) (fun⟨a0,a1,a2⟩=>Agk a0 a1 a2) Zy (fun _=>AD (n:=26) rfl) fun _ _=>rfl
noncomputable def TA:=Dd 0 PH L0
theorem Acr:G9 TA:=AH Acu AA
def Qh (a0:List Aw) (a1:List Aw):Bq:=DU (a0,a1,(0:Int))
def JS (a0:List Aw) (a1:List Aw):Bool:=(↑a0.length:Int) !=(↑a1.length:Int)
def Acq (a0:List Aw) (a1:List Aw):Bool:=bif(JS a0 a1) then false else bif Ez (Qh a0 a1).fst (Qh a0 a1).snd.fst (Qh a0 a1).snd.snd then false else true
def SI (a0:List Aw) (a1:List Aw):A:=.v (.bool (Acq a0 a1))
def Acv (_a0:List Aw) (_a1:List Aw):Objs:=[]
def XX (a0:List Aw) (a1:List Aw):List Prop:=[((!(JS a0 a1))=true→Ax EB EA H0 (G3 (a0,a1,(0:Int))) (a0,a1,(0:Int)))]
theorem Awa (a0:List Aw) (a1:List Aw):Hz (As A4u TA) 9 92 [.sl .write a0,.sl .write a1] 0 []=some (1,SI a0 a1,0,Acv a0 a1,[((!(JS a0 a1))=true→Ag Tryz.prog (92:FuncId) (0:Nat)=Ag Tryz.prog (92:FuncId) (0:Nat)),((!(JS a0 a1))=true→Ax EB EA H0 (G3 (a0,a1,(0:Int))) (a0,a1,(0:Int)))]):=by kernel_rfl
theorem A2v (a0:List Aw) (a1:List Aw) (hp:∀p∈XX a0 a1,p):CallOk Tryz.prog 92 [.sl .write a0,.sl .write a1] 0 [] 1 (SI a0 a1) 0 (Acv a0 a1):=by
 have n0:((!(JS a0 a1))=true→Ag Tryz.prog (92:FuncId) (0:Nat)=Ag Tryz.prog (92:FuncId) (0:Nat)):=by intros;rfl
 have n1:=N0 hp
 exact AB (Ar An4 Acr) (Awa a0 a1) (Aa n0 (Aa n1 Af))
def XY (a0:List Aw) (a1:List Aw):A:=.v (.bool (QB Bbh (Ae TC.write) a0 a1))
def XW (_a0:List Aw) (_a1:List Aw):Objs:=[]
def VF (a0:List Aw) (_a1:List Aw):List Prop:=[Am a0.length]
theorem Av9 (a b:List Aw) (hl:Am a.length):(∀p∈XX a b,p)∧Acq a b=QB Bbh (Ae TC.write) a b:=by
 have hk0:((a.length:Int) !=(b.length:Int))=!(a.length==b.length):=Bmn _ _
 have main:(a.length==b.length)=true→_:=fun hlen=>Bt9 a b (Ae TC.write) Bbh (next:=EB) (goes:=EA) (ps:=H0) (fuel:=G3 (a,b,0)) Ez hl (by show a.length≤((a.length:Int) - 0).toNat;omega)
  (fun i=>by
   show((!!decide ((i:Int) <(a.length:Int)))&&!_)=_
   rw[nn,Mu,Int.toNat_natCast]
   rfl) (fun i=>rfl) (fun i=>rfl) (fun i hi=>by
   have hlen':a.length=b.length:=by simpa using hlen
   have hin:(!!decide ((i:Int) <(a.length:Int)))=true→(i:Int) <(a.length:Int):=fun h=>by rw[nn] at h;exact of_decide_eq_true h
   exact Aa (fun h=>⟨by show(0:Int)≤(i:Int);omega,hin h⟩) (Aa (fun h=>⟨by show(0:Int)≤(i:Int);omega,by have:=hin h;show(i:Int) <(b.length:Int);omega⟩) Af))
 refine⟨Aa (fun h=>(main (by
  have h':(!((a.length:Int) !=(b.length:Int)))=true:=h
  rwa[hk0,Bool.not_not] at h')).1) Af,?_⟩
 show(bif((a.length:Int) !=(b.length:Int)) then false else !Ez (DU (a,b,0)).1 (DU (a,b,0)).2.1 (DU (a,b,0)).2.2)=_
 rw[hk0]
 unfold QB
 cases h0:a.length==b.length with
 |false=>rfl
 |true=>
  have m:=(main h0).2
  rw[Bool.not_true,cond_false,Bool.true_and]
  have m':Ez (DU (a,b,0)).1 (DU (a,b,0)).2.1 (DU (a,b,0)).2.2=_:=m
  rw[m',Bool.not_not]
theorem Av8 (a0:List Aw) (a1:List Aw) (hp:∀p∈VF a0 a1,p):CallOk Tryz.prog 92 [.sl .write a0,.sl .write a1] 0 [] 1 (XY a0 a1) 0 (XW a0 a1):=by
 obtain⟨h1,h2⟩:=Av9 a0 a1 (hp _ (List.mem_cons_self ..))
 have h:=A2v a0 a1 h1
 unfold SI at h
 rw[h2] at h
 exact h
def Acw:List A→Nat→Objs→Option A6:=Bt [.l .write,.l .write] 0 XY XW VF
theorem As1:HF Tryz.prog 92 Acw:=Av (ks:=[.l .write,.l .write]) Av8
noncomputable def A4v:=AS 92 Acw A4u
theorem An5:Cr Tryz.prog A4v:=An As1 An4
abbrev A5:Type:=(List (List UInt8))×(List (List UInt8))×Int
def IS (x:A5):St:=⟨26,0,[(0,.sl .digest x.1),(1,.sl .digest x.2.1),(5,.v (.int .i64 x.2.2))],[]⟩
def Ke:St→Option A5
 |⟨26,0,[(0,.sl .digest z0),(1,.sl .digest z1),(5,.v (.int .i64 z2))],[]⟩=>some (z0,z1,z2)
 |_=>none
theorem VP:∀s x,Ke s=some x→s=IS x:=fun s x h=>by
 unfold Ke at h
 split at h
 ·cases h;rfl
 ·cases h
def PK:Cz:=⟨0,0,[0,1,5],[],[],[],[4],[]⟩
def Ac3:CX:=⟨[],[],[0,1,5],[]⟩
def Hx (a0:List (List UInt8)) (_a1:List (List UInt8)) (a2:Int):Bool:=!!decide (a2 <(↑a0.length:Int))
def Dy (a0:List (List UInt8)) (a1:List (List UInt8)) (a2:Int):Bool:=(Hx a0 a1 a2)&&!((↑(List.getD (a0.getD a2.toNat (Ae TC.digest)) (0:Nat) (0:UInt8)).toNat:Int)==(↑(List.getD (a1.getD a2.toNat (Ae TC.digest)) (0:Nat) (0:UInt8)).toNat:Int)&&((↑(List.getD (a0.getD a2.toNat (Ae TC.digest)) (1:Nat) (0:UInt8)).toNat:Int)==(↑(List.getD (a1.getD a2.toNat (Ae TC.digest)) (1:Nat) (0:UInt8)).toNat:Int)&&((↑(List.getD (a0.getD a2.toNat (Ae TC.digest)) (2:Nat) (0:UInt8)).toNat:Int)==(↑(List.getD (a1.getD a2.toNat (Ae TC.digest)) (2:Nat) (0:UInt8)).toNat:Int)&&((↑(List.getD (a0.getD a2.toNat (Ae TC.digest)) (3:Nat) (0:UInt8)).toNat:Int)==(↑(List.getD (a1.getD a2.toNat (Ae TC.digest)) (3:Nat) (0:UInt8)).toNat:Int)&&((↑(List.getD (a0.getD a2.toNat (Ae TC.digest)) (4:Nat) (0:UInt8)).toNat:Int)==(↑(List.getD (a1.getD a2.toNat (Ae TC.digest)) (4:Nat) (0:UInt8)).toNat:Int)&&((↑(List.getD (a0.getD a2.toNat (Ae TC.digest)) (5:Nat) (0:UInt8)).toNat:Int)==(↑(List.getD (a1.getD a2.toNat (Ae TC.digest)) (5:Nat) (0:UInt8)).toNat:Int)&&((↑(List.getD (a0.getD a2.toNat (Ae TC.digest)) (6:Nat) (0:UInt8)).toNat:Int)==(↑(List.getD (a1.getD a2.toNat (Ae TC.digest)) (6:Nat) (0:UInt8)).toNat:Int)&&((↑(List.getD (a0.getD a2.toNat (Ae TC.digest)) (7:Nat) (0:UInt8)).toNat:Int)==(↑(List.getD (a1.getD a2.toNat (Ae TC.digest)) (7:Nat) (0:UInt8)).toNat:Int)&&((↑(List.getD (a0.getD a2.toNat (Ae TC.digest)) (8:Nat) (0:UInt8)).toNat:Int)==(↑(List.getD (a1.getD a2.toNat (Ae TC.digest)) (8:Nat) (0:UInt8)).toNat:Int)&&((↑(List.getD (a0.getD a2.toNat (Ae TC.digest)) (9:Nat) (0:UInt8)).toNat:Int)==(↑(List.getD (a1.getD a2.toNat (Ae TC.digest)) (9:Nat) (0:UInt8)).toNat:Int)&&((↑(List.getD (a0.getD a2.toNat (Ae TC.digest)) (10:Nat) (0:UInt8)).toNat:Int)==(↑(List.getD (a1.getD a2.toNat (Ae TC.digest)) (10:Nat) (0:UInt8)).toNat:Int)&&((↑(List.getD (a0.getD a2.toNat (Ae TC.digest)) (11:Nat) (0:UInt8)).toNat:Int)==(↑(List.getD (a1.getD a2.toNat (Ae TC.digest)) (11:Nat) (0:UInt8)).toNat:Int)&&((↑(List.getD (a0.getD a2.toNat (Ae TC.digest)) (12:Nat) (0:UInt8)).toNat:Int)==(↑(List.getD (a1.getD a2.toNat (Ae TC.digest)) (12:Nat) (0:UInt8)).toNat:Int)&&((↑(List.getD (a0.getD a2.toNat (Ae TC.digest)) (13:Nat) (0:UInt8)).toNat:Int)==(↑(List.getD (a1.getD a2.toNat (Ae TC.digest)) (13:Nat) (0:UInt8)).toNat:Int)&&((↑(List.getD (a0.getD a2.toNat (Ae TC.digest)) (14:Nat) (0:UInt8)).toNat:Int)==(↑(List.getD (a1.getD a2.toNat (Ae TC.digest)) (14:Nat) (0:UInt8)).toNat:Int)&&((↑(List.getD (a0.getD a2.toNat (Ae TC.digest)) (15:Nat) (0:UInt8)).toNat:Int)==(↑(List.getD (a1.getD a2.toNat (Ae TC.digest)) (15:Nat) (0:UInt8)).toNat:Int)&&((↑(List.getD (a0.getD a2.toNat (Ae TC.digest)) (16:Nat) (0:UInt8)).toNat:Int)==(↑(List.getD (a1.getD a2.toNat (Ae TC.digest)) (16:Nat) (0:UInt8)).toNat:Int)&&((↑(List.getD (a0.getD a2.toNat (Ae TC.digest)) (17:Nat) (0:UInt8)).toNat:Int)==(↑(List.getD (a1.getD a2.toNat (Ae TC.digest)) (17:Nat) (0:UInt8)).toNat:Int)&&((↑(List.getD (a0.getD a2.toNat (Ae TC.digest)) (18:Nat) (0:UInt8)).toNat:Int)==(↑(List.getD (a1.getD a2.toNat (Ae TC.digest)) (18:Nat) (0:UInt8)).toNat:Int)&&((↑(List.getD (a0.getD a2.toNat (Ae TC.digest)) (19:Nat) (0:UInt8)).toNat:Int)==(↑(List.getD (a1.getD a2.toNat (Ae TC.digest)) (19:Nat) (0:UInt8)).toNat:Int)&&((↑(List.getD (a0.getD a2.toNat (Ae TC.digest)) (20:Nat) (0:UInt8)).toNat:Int)==(↑(List.getD (a1.getD a2.toNat (Ae TC.digest)) (20:Nat) (0:UInt8)).toNat:Int)&&((↑(List.getD (a0.getD a2.toNat (Ae TC.digest)) (21:Nat) (0:UInt8)).toNat:Int)==(↑(List.getD (a1.getD a2.toNat (Ae TC.digest)) (21:Nat) (0:UInt8)).toNat:Int)&&((↑(List.getD (a0.getD a2.toNat (Ae TC.digest)) (22:Nat) (0:UInt8)).toNat:Int)==(↑(List.getD (a1.getD a2.toNat (Ae TC.digest)) (22:Nat) (0:UInt8)).toNat:Int)&&((↑(List.getD (a0.getD a2.toNat (Ae TC.digest)) (23:Nat) (0:UInt8)).toNat:Int)==(↑(List.getD (a1.getD a2.toNat (Ae TC.digest)) (23:Nat) (0:UInt8)).toNat:Int)&&((↑(List.getD (a0.getD a2.toNat (Ae TC.digest)) (24:Nat) (0:UInt8)).toNat:Int)==(↑(List.getD (a1.getD a2.toNat (Ae TC.digest)) (24:Nat) (0:UInt8)).toNat:Int)&&((↑(List.getD (a0.getD a2.toNat (Ae TC.digest)) (25:Nat) (0:UInt8)).toNat:Int)==(↑(List.getD (a1.getD a2.toNat (Ae TC.digest)) (25:Nat) (0:UInt8)).toNat:Int)&&((↑(List.getD (a0.getD a2.toNat (Ae TC.digest)) (26:Nat) (0:UInt8)).toNat:Int)==(↑(List.getD (a1.getD a2.toNat (Ae TC.digest)) (26:Nat) (0:UInt8)).toNat:Int)&&((↑(List.getD (a0.getD a2.toNat (Ae TC.digest)) (27:Nat) (0:UInt8)).toNat:Int)==(↑(List.getD (a1.getD a2.toNat (Ae TC.digest)) (27:Nat) (0:UInt8)).toNat:Int)&&((↑(List.getD (a0.getD a2.toNat (Ae TC.digest)) (28:Nat) (0:UInt8)).toNat:Int)==(↑(List.getD (a1.getD a2.toNat (Ae TC.digest)) (28:Nat) (0:UInt8)).toNat:Int)&&((↑(List.getD (a0.getD a2.toNat (Ae TC.digest)) (29:Nat) (0:UInt8)).toNat:Int)==(↑(List.getD (a1.getD a2.toNat (Ae TC.digest)) (29:Nat) (0:UInt8)).toNat:Int)&&((↑(List.getD (a0.getD a2.toNat (Ae TC.digest)) (30:Nat) (0:UInt8)).toNat:Int)==(↑(List.getD (a1.getD a2.toNat (Ae TC.digest)) (30:Nat) (0:UInt8)).toNat:Int)&&((↑(List.getD (a0.getD a2.toNat (Ae TC.digest)) (31:Nat) (0:UInt8)).toNat:Int)==(↑(List.getD (a1.getD a2.toNat (Ae TC.digest)) (31:Nat) (0:UInt8)).toNat:Int)&&true))))))))))))))))))))))))))))))))
def W9 (a0:List (List UInt8)) (a1:List (List UInt8)) (a2:Int):Bool:=(Hx a0 a1 a2)&&!(Dy a0 a1 a2)
def DA (x:A5):A5:=(x.1,x.2.1,IntKind.i64.wrap (x.2.2+(1:Int)))
def Dz (x:A5):Cnd:=some (W9 x.1 x.2.1 x.2.2)
def JI (x:A5):List Prop:=[((Hx x.1 x.2.1 x.2.2)=true→(0:Int)≤x.2.2∧x.2.2 <(↑x.1.length:Int)),((Hx x.1 x.2.1 x.2.2)=true→(0:Int)≤x.2.2∧x.2.2 <(↑x.2.1.length:Int))]
abbrev G4:A5→List Prop:=JI
def Mp (x:A5):AR:=[(some 0,some (!decide (x.2.2 <(↑x.1.length:Int))),⟨26,0,[(4,.dead)],[]⟩),(none,some ((Dy x.1 x.2.1 x.2.2)),⟨26,0,[(4,.v (.bool (false)))],[]⟩)]
def EU (x:A5):Nat:=((↑x.1.length:Int) - x.2.2).toNat
def CH (x:A5):A5:=AF DA Dz (EU x) x
theorem ZI (a0:List (List UInt8)) (a1:List (List UInt8)) (a2:Int):Ba (As A4v L0) 9 (Ag Tryz.prog 48 0) PK (IS (a0,a1,a2))=some (JI (a0,a1,a2),Mp (a0,a1,a2),Dz (a0,a1,a2),IS (DA (a0,a1,a2))):=by kernel_rfl
theorem ZJ (a0:List (List UInt8)) (a1:List (List UInt8)) (a2:Int) (hp:∀p∈G4 (a0,a1,a2),p):∀p∈JI (a0,a1,a2),p:=hp
noncomputable def Ng:=HB (As A4v L0) (Ag Tryz.prog 48 0) PK Ac3 Ke EU DA Dz G4 Mp
theorem Xa:∀s b ps outs,Ng s=some (b,ps,outs)→Wf s ⟨ps,outs,none⟩∧Bg (As C0 L0) b s ps outs:=
 AT (T:=IS) An5 AA (u:=9) (by kernel_rfl) (by decide) (fun⟨a0,a1,a2⟩=>ZI a0 a1 a2) (fun⟨a0,a1,a2⟩=>ZJ a0 a1 a2) VP (fun _=>AD (n:=26) rfl) fun _ _=>rfl
noncomputable def PJ:=Dd 0 Ng L0
theorem W8:G9 PJ:=AH Xa AA
def IA (a0:List (List UInt8)) (a1:List (List UInt8)):Bool:=(↑a0.length:Int) !=(↑a1.length:Int)
def M1 (a0:List (List UInt8)) (a1:List (List UInt8)):A5:=CH (a0,a1,(0:Int))
def VO (a0:List (List UInt8)) (a1:List (List UInt8)):Bool:=bif(IA a0 a1) then false else bif Dy (M1 a0 a1).fst (M1 a0 a1).snd.fst (M1 a0 a1).snd.snd then false else true
def OP (a0:List (List UInt8)) (a1:List (List UInt8)):A:=.v (.bool (VO a0 a1))
def VQ (_a0:List (List UInt8)) (_a1:List (List UInt8)):Objs:=[]
def TN (a0:List (List UInt8)) (a1:List (List UInt8)):List Prop:=[((!(IA a0 a1))=true→Ax DA Dz G4 (EU (a0,a1,(0:Int))) (a0,a1,(0:Int)))]
theorem Amy (a0:List (List UInt8)) (a1:List (List UInt8)):Hz (As A4v PJ) 9 48 [.sl .digest a0,.sl .digest a1] 0 []=some (1,OP a0 a1,0,VQ a0 a1,[((!(IA a0 a1))=true→Ag Tryz.prog (48:FuncId) (0:Nat)=Ag Tryz.prog (48:FuncId) (0:Nat)),((!(IA a0 a1))=true→Ax DA Dz G4 (EU (a0,a1,(0:Int))) (a0,a1,(0:Int)))]):=by kernel_rfl
theorem Ati (a0:List (List UInt8)) (a1:List (List UInt8)) (hp:∀p∈TN a0 a1,p):CallOk Tryz.prog 48 [.sl .digest a0,.sl .digest a1] 0 [] 1 (OP a0 a1) 0 (VQ a0 a1):=by
 have n0:((!(IA a0 a1))=true→Ag Tryz.prog (48:FuncId) (0:Nat)=Ag Tryz.prog (48:FuncId) (0:Nat)):=by intros;rfl
 have n1:=N0 hp
 exact AB (Ar An5 W8) (Amy a0 a1) (Aa n0 (Aa n1 Af))
def TO (a0:List (List UInt8)) (a1:List (List UInt8)):A:=.v (.bool (QB eqD (Ae TC.digest) a0 a1))
def TM (_a0:List (List UInt8)) (_a1:List (List UInt8)):Objs:=[]
def RB (a0:List (List UInt8)) (_a1:List (List UInt8)):List Prop:=[Am a0.length]
theorem Amx (a b:List (List UInt8)) (hl:Am a.length):(∀p∈TN a b,p)∧VO a b=QB eqD (Ae TC.digest) a b:=by
 have hk0:((a.length:Int) !=(b.length:Int))=!(a.length==b.length):=Bmn _ _
 have main:(a.length==b.length)=true→_:=fun hlen=>Bt9 a b (Ae TC.digest) eqD (next:=DA) (goes:=Dz) (ps:=G4) (fuel:=EU (a,b,0)) Dy hl (by show a.length≤((a.length:Int) - 0).toNat;omega)
  (fun i=>by
   show((!!decide ((i:Int) <(a.length:Int)))&&!_)=_
   rw[nn,Mu,Int.toNat_natCast]
   rfl) (fun i=>rfl) (fun i=>rfl) (fun i hi=>by
   have hlen':a.length=b.length:=by simpa using hlen
   have hin:(!!decide ((i:Int) <(a.length:Int)))=true→(i:Int) <(a.length:Int):=fun h=>by rw[nn] at h;exact of_decide_eq_true h
   exact Aa (fun h=>⟨by show(0:Int)≤(i:Int);omega,hin h⟩) (Aa (fun h=>⟨by show(0:Int)≤(i:Int);omega,by have:=hin h;show(i:Int) <(b.length:Int);omega⟩) Af))
 refine⟨Aa (fun h=>(main (by
  have h':(!((a.length:Int) !=(b.length:Int)))=true:=h
  rwa[hk0,Bool.not_not] at h')).1) Af,?_⟩
 show(bif((a.length:Int) !=(b.length:Int)) then false else !Dy (CH (a,b,0)).1 (CH (a,b,0)).2.1 (CH (a,b,0)).2.2)=_
 rw[hk0]
 unfold QB
 cases h0:a.length==b.length with
 |false=>rfl
 |true=>
  have m:=(main h0).2
  rw[Bool.not_true,cond_false,Bool.true_and]
  have m':Dy (CH (a,b,0)).1 (CH (a,b,0)).2.1 (CH (a,b,0)).2.2=_:=m
  rw[m',Bool.not_not]
theorem Amw (a0:List (List UInt8)) (a1:List (List UInt8)) (hp:∀p∈RB a0 a1,p):CallOk Tryz.prog 48 [.sl .digest a0,.sl .digest a1] 0 [] 1 (TO a0 a1) 0 (TM a0 a1):=by
 obtain⟨h1,h2⟩:=Amx a0 a1 (hp _ (List.mem_cons_self ..))
 have h:=Ati a0 a1 h1
 unfold OP at h
 rw[h2] at h
 exact h
def VR:List A→Nat→Objs→Option A6:=Bt [.l .digest,.l .digest] 0 TO TM RB
theorem Agq:HF Tryz.prog 48 VR:=Av (ks:=[.l .digest,.l .digest]) Amw
noncomputable def A4w:=AS 48 VR A4v
theorem An6:Cr Tryz.prog A4w:=An Agq An5
abbrev Bv:Type:=(List Int)×Int×Int
def K9 (x:Bv):St:=⟨21,0,[(5,.sl .i64 x.1),(6,.v (.int .i64 x.2.1)),(7,.v (.int .i64 x.2.2))],[]⟩
def M5:St→Option Bv
 |⟨21,0,[(5,.sl .i64 z0),(6,.v (.int .i64 z1)),(7,.v (.int .i64 z2))],[]⟩=>some (z0,z1,z2)
 |_=>none
theorem Adz:∀s x,M5 s=some x→s=K9 x:=fun s x h=>by
 unfold M5 at h
 split at h
 ·cases h;rfl
 ·cases h
def Wc:Cz:=⟨0,0,[5,6,7],[],[],[],[2],[]⟩
def Auo:CX:=⟨[],[],[5,6,7],[]⟩
def DX (a0:List Int) (a1:Int) (a2:Int):Bool:=!!decide (a2 <a1)&&(decide (a0.getD a2.toNat (Ae TC.i64) <(0:Int))||decide (a0.getD a2.toNat (Ae TC.i64)≥(16:Int)))
def Ag7 (a0:List Int) (a1:Int) (a2:Int):Bool:=!!decide (a2 <a1)&&!(DX a0 a1 a2)
def Fx (x:Bv):Bv:=(x.1,x.2.1,IntKind.i64.wrap (x.2.2+(1:Int)))
def Fw (x:Bv):Cnd:=some (Ag7 x.1 x.2.1 x.2.2)
def LE (x:Bv):List Prop:=[((!!decide (x.2.2 <x.2.1))=true→(0:Int)≤x.2.2∧x.2.2 <(↑x.1.length:Int))]
abbrev ID:Bv→List Prop:=LE
def PN (x:Bv):AR:=[(some 0,some (!decide (x.2.2 <x.2.1)),⟨21,0,[(2,.dead)],[]⟩),(none,some ((DX x.1 x.2.1 x.2.2)),⟨21,0,[(2,.v (.bool (false)))],[]⟩)]
def Hy (x:Bv):Nat:=(x.2.1 - x.2.2).toNat
def Ag9 (x:Bv):Bv:=AF Fx Fw (Hy x) x
theorem Anc (a0:List Int) (a1:Int) (a2:Int):Ba (As A4w L0) 9 (Ag Tryz.prog 27 0) Wc (K9 (a0,a1,a2))=some (LE (a0,a1,a2),PN (a0,a1,a2),Fw (a0,a1,a2),K9 (Fx (a0,a1,a2))):=by kernel_rfl
theorem Ane (a0:List Int) (a1:Int) (a2:Int) (hp:∀p∈ID (a0,a1,a2),p):∀p∈LE (a0,a1,a2),p:=hp
noncomputable def RR:=HB (As A4w L0) (Ag Tryz.prog 27 0) Wc Auo M5 Hy Fx Fw ID PN
theorem Ag8:∀s b ps outs,RR s=some (b,ps,outs)→Wf s ⟨ps,outs,none⟩∧Bg (As C0 L0) b s ps outs:=
 AT (T:=K9) An6 AA (u:=9) (by kernel_rfl) (by decide) (fun⟨a0,a1,a2⟩=>Anc a0 a1 a2) (fun⟨a0,a1,a2⟩=>Ane a0 a1 a2) Adz (fun _=>AD (n:=21) rfl) fun _ _=>rfl
noncomputable def Wb:=Dd 0 RR L0
theorem Ag6:G9 Wb:=AH Ag8 AA
def NK (a0:List Int):Bv:=Ag9 (a0,(↑a0.length:Int),(0:Int))
def Wa (a0:List Int):Bool:=bif DX (NK a0).fst (NK a0).snd.fst (NK a0).snd.snd then false else decide ((↑a0.length:Int)≤(2:Int))
def Wd (a0:List Int):A:=.v (.bool (Wa a0))
def Akx (_a0:List Int):Objs:=[]
def Ad1 (a0:List Int):List Prop:=[(Ax Fx Fw ID (Hy (a0,(↑a0.length:Int),(0:Int))) (a0,(↑a0.length:Int),(0:Int)))]
theorem A37 (a0:List Int):Hz (As A4w Wb) 9 27 [Ai .ints a0] 0 []=some (1,Wd a0,0,Akx a0,[(Ag Tryz.prog (27:FuncId) (0:Nat)=Ag Tryz.prog (27:FuncId) (0:Nat)),(Ax Fx Fw ID (Hy (a0,(↑a0.length:Int),(0:Int))) (a0,(↑a0.length:Int),(0:Int)))]):=by kernel_rfl
theorem A9y (a0:List Int) (hp:∀p∈Ad1 a0,p):CallOk Tryz.prog 27 [Ai .ints a0] 0 [] 1 (Wd a0) 0 (Akx a0):=by
 have n1:=N0 hp
 exact AB (Ar An6 Ag6) (A37 a0) (Aa rfl (Aa n1 Af))
def Ad2 (a0:List Int):A:=.v (.bool (Ld a0))
def Ad0 (_a0:List Int):Objs:=[]
def Yr (a0:List Int):List Prop:=[Am a0.length]
theorem Bwo (n:Nat):decide ((n:Int)≤2)=decide (n≤2):=decide_eq_decide.2 (by omega)
theorem Bqz (n:Int):(decide (n <0)||decide (n≥16))=!(decide (0≤n)&&decide (n≤15)):=by
 rw[Bool.not_and,←decide_not,←decide_not]
 exact congr (congrArg _ (decide_eq_decide.2 (by omega))) (decide_eq_decide.2 (by omega))
theorem A36 (l:List Int) (hl:Am l.length):(∀p∈Ad1 l,p)∧Wa l=Ld l:=by
 unfold Am at hl
 have hf:∀i:Nat,DX l (l.length:Int) (i:Int)=(decide (i <l.length)&&!(decide (0≤l.getD i 0)&&decide (l.getD i 0≤15))):=fun i=>by
  unfold DX
  rw[nn,Mu,Int.toNat_natCast,Bqz]
  rfl
 obtain⟨h1,k,hk,hx,_,_,hb⟩:=RJ (fun i=>((l,(l.length:Int),(i:Int)):Bv)) l.length (fun i=>!(decide (0≤l.getD i 0)&&decide (l.getD i 0≤15))) Fx Fw ID (Hy (l,(l.length:Int),0)) (l,(l.length:Int),0) rfl (by show _≤((l.length:Int) - 0).toNat;omega)
  (fun i _ _=>by
   show((!!decide ((i:Int) <(l.length:Int)))&&!DX l (l.length:Int) (i:Int))=_
   rw[hf,nn,Mu]
   cases decide (i <l.length)<;>rfl)
  (fun i hi _=>by
   show(l,(l.length:Int),IntKind.i64.wrap ((i:Int)+1))=(l,(l.length:Int),((i+1:Nat):Int))
   rw[Fz (by omega)])
  (fun i _ _=>Aa (fun h=>by
   have h':(!!decide ((i:Int) <(l.length:Int)))=true:=h
   rw[nn] at h'
   have:=of_decide_eq_true h'
   show(0:Int)≤(i:Int)∧(i:Int) <(l.length:Int)
   omega) Af)
 refine⟨Aa h1 Af,?_⟩
 have hr:NK l=(l,(l.length:Int),(k:Int)):=hx
 unfold Wa Ld
 rw[hr]
 show(bif DX l (l.length:Int) (k:Int) then false else _)=_
 rw[hf,hb,Bwo]
 simp only[Bool.not_not]
 cases Lf l.length fun i=>decide (0≤l.getD i 0)&&decide (l.getD i 0≤15)<;>rfl
theorem A35 (a0:List Int) (hp:∀p∈Yr a0,p):CallOk Tryz.prog 27 [Ai .ints a0] 0 [] 1 (Ad2 a0) 0 (Ad0 a0):=by
 obtain⟨h1,h2⟩:=A36 a0 (hp _ (List.mem_cons_self ..))
 have h:=A9y a0 h1
 unfold Wd at h
 rw[h2] at h
 exact h
def Aky:List A→Nat→Objs→Option A6:=Bt [.t .ints] 0 Ad2 Ad0 Yr
theorem Aw0:HF Tryz.prog 27 Aky:=Av (ks:=[.t .ints]) A35
noncomputable def A4x:=AS 27 Aky A4w
theorem An7:Cr Tryz.prog A4x:=An Aw0 An6
abbrev Cq:Type:=(List Int)×Int
def L6 (x:Cq):St:=⟨25,0,[(0,.sl .i64 x.1),(3,.v (.int .i64 x.2))],[]⟩
def OQ:St→Option Cq
 |⟨25,0,[(0,.sl .i64 z0),(3,.v (.int .i64 z1))],[]⟩=>some (z0,z1)
 |_=>none
theorem Agr:∀s x,OQ s=some x→s=L6 x:=fun s x h=>by
 unfold OQ at h
 split at h
 ·cases h;rfl
 ·cases h
def X9:Cz:=⟨0,0,[0,3],[],[],[],[2],[]⟩
def Awk:CX:=⟨[],[],[0,3],[]⟩
def H8 (a0:List Int) (a1:Int):Bool:=!!decide (a1 <(↑a0.length:Int))
def EJ (a0:List Int) (a1:Int):Bool:=(H8 a0 a1)&&(decide (a0.getD a1.toNat (Ae TC.i64) <(0:Int))||decide (a0.getD a1.toNat (Ae TC.i64) >(15:Int)))
def Am0 (a0:List Int) (a1:Int):Bool:=(H8 a0 a1)&&!(EJ a0 a1)
def GL (x:Cq):Cq:=(x.1,IntKind.i64.wrap (x.2+(1:Int)))
def GK (x:Cq):Cnd:=some (Am0 x.1 x.2)
def M2 (x:Cq):List Prop:=[((H8 x.1 x.2)=true→(0:Int)≤x.2∧x.2 <(↑x.1.length:Int)),((H8 x.1 x.2)=true→decide (x.1.getD x.2.toNat (Ae TC.i64) <(0:Int))=false→(0:Int)≤x.2∧x.2 <(↑x.1.length:Int))]
abbrev Jb:Cq→List Prop:=M2
def RC (x:Cq):AR:=[(some 0,some (!decide (x.2 <(↑x.1.length:Int))),⟨25,0,[(2,.dead)],[]⟩),(none,some ((EJ x.1 x.2)),⟨25,0,[(2,.v (.bool (false)))],[]⟩)]
def H9 (x:Cq):Nat:=((↑x.1.length:Int) - x.2).toNat
def M3 (x:Cq):Cq:=AF GL GK (H9 x) x
theorem Atm (a0:List Int) (a1:Int):Ba (As A4x L0) 9 (Ag Tryz.prog 35 0) X9 (L6 (a0,a1))=some (M2 (a0,a1),RC (a0,a1),GK (a0,a1),L6 (GL (a0,a1))):=by kernel_rfl
theorem Atn (a0:List Int) (a1:Int) (hp:∀p∈Jb (a0,a1),p):∀p∈M2 (a0,a1),p:=hp
noncomputable def TP:=HB (As A4x L0) (Ag Tryz.prog 35 0) X9 Awk OQ H9 GL GK Jb RC
theorem Am1:∀s b ps outs,TP s=some (b,ps,outs)→Wf s ⟨ps,outs,none⟩∧Bg (As C0 L0) b s ps outs:=
 AT (T:=L6) An7 AA (u:=9) (by kernel_rfl) (by decide) (fun⟨a0,a1⟩=>Atm a0 a1) (fun⟨a0,a1⟩=>Atn a0 a1) Agr (fun _=>AD (n:=25) rfl) fun _ _=>rfl
noncomputable def X8:=Dd 0 TP L0
theorem Amz:G9 X8:=AH Am1 AA
def ZK (a0:List Int):Bool:=bif EJ (M3 (a0,(0:Int))).fst (M3 (a0,(0:Int))).snd then false else decide ((↑a0.length:Int)≤(2:Int))
def ZL (a0:List Int):A:=.v (.bool (ZK a0))
def Ato (_a0:List Int):Objs:=[]
def Aj6 (a0:List Int):List Prop:=[(Ax GL GK Jb (H9 (a0,(0:Int))) (a0,(0:Int)))]
theorem A87 (a0:List Int):Hz (As A4x X8) 9 35 [Ai .ints a0] 0 []=some (1,ZL a0,0,Ato a0,[(Ag Tryz.prog (35:FuncId) (0:Nat)=Ag Tryz.prog (35:FuncId) (0:Nat)),(Ax GL GK Jb (H9 (a0,(0:Int))) (a0,(0:Int)))]):=by kernel_rfl
theorem Bdv (a0:List Int) (hp:∀p∈Aj6 a0,p):CallOk Tryz.prog 35 [Ai .ints a0] 0 [] 1 (ZL a0) 0 (Ato a0):=by
 have n1:=N0 hp
 exact AB (Ar An7 Amz) (A87 a0) (Aa rfl (Aa n1 Af))
def Aj7 (a0:List Int):A:=.v (.bool (Ld a0))
def Aj5 (_a0:List Int):Objs:=[]
def Ac5 (a0:List Int):List Prop:=[Am a0.length]
theorem Bmz (n:Int):(decide (n <0)||decide (n >15))=!(decide (0≤n)&&decide (n≤15)):=by
 rw[Bool.not_and,←decide_not,←decide_not]
 exact congr (congrArg _ (decide_eq_decide.2 (by omega))) (decide_eq_decide.2 (by omega))
theorem A86 (l:List Int) (hl:Am l.length):(∀p∈Aj6 l,p)∧ZK l=Ld l:=by
 unfold Am at hl
 have hf:∀i:Nat,EJ l (i:Int)=(decide (i <l.length)&&!(decide (0≤l.getD i 0)&&decide (l.getD i 0≤15))):=fun i=>by
  unfold EJ H8
  rw[nn,Mu,Int.toNat_natCast,Bmz]
  rfl
 obtain⟨h1,k,hk,hx,_,_,hb⟩:=RJ (fun i=>((l,(i:Int)):Cq)) l.length (fun i=>!(decide (0≤l.getD i 0)&&decide (l.getD i 0≤15))) GL GK Jb (H9 (l,0)) (l,0) rfl (by show _≤((l.length:Int) - 0).toNat;omega)
  (fun i _ _=>by
   show((!!decide ((i:Int) <(l.length:Int)))&&!EJ l (i:Int))=_
   rw[hf,nn,Mu]
   cases decide (i <l.length)<;>rfl)
  (fun i hi _=>by
   show(l,IntKind.i64.wrap ((i:Int)+1))=(l,((i+1:Nat):Int))
   rw[Fz (by omega)])
  (fun i _ _=>Aa (fun h=>by
   have h':(!!decide ((i:Int) <(l.length:Int)))=true:=h
   rw[nn] at h'
   have:=of_decide_eq_true h'
   show(0:Int)≤(i:Int)∧(i:Int) <(l.length:Int)
   omega) (Aa (fun h _=>by
   have h':(!!decide ((i:Int) <(l.length:Int)))=true:=h
   rw[nn] at h'
   have:=of_decide_eq_true h'
   show(0:Int)≤(i:Int)∧(i:Int) <(l.length:Int)
   omega) Af))
 refine⟨Aa h1 Af,?_⟩
 have hr:M3 (l,0)=(l,(k:Int)):=hx
 unfold ZK Ld
 rw[hr]
 show(bif EJ l (k:Int) then false else _)=_
 rw[hf,hb,Bwo]
 simp only[Bool.not_not]
 cases Lf l.length fun i=>decide (0≤l.getD i 0)&&decide (l.getD i 0≤15)<;>rfl
theorem A85 (a0:List Int) (hp:∀p∈Ac5 a0,p):CallOk Tryz.prog 35 [Ai .ints a0] 0 [] 1 (Aj7 a0) 0 (Aj5 a0):=by
 obtain⟨h1,h2⟩:=A86 a0 (hp _ (List.mem_cons_self ..))
 have h:=Bdv a0 h1
 unfold ZL at h
 rw[h2] at h
 exact h
def Atp:List A→Nat→Objs→Option A6:=Bt [.t .ints] 0 Aj7 Aj5 Ac5
theorem A23:HF Tryz.prog 35 Atp:=Av (ks:=[.t .ints]) A85
noncomputable def A93:=AS 35 Atp A4x
theorem Aw3:Cr Tryz.prog A93:=An A23 An7
def LF (a0:Int):Bool:=decide (a0≥(0:Int))&&decide (a0≤(1099511627776:Int))
def Z6 (a0:Int):A:=.v (.bool (LF a0))
def Z5 (_a0:Int):Objs:=[]
def We (_a0:Int):List Prop:=[]
theorem A9z (a0:Int):Hz (As A93 L0) 9 29 [Ai .i64 a0] 0 []=some (1,Z6 a0,0,Z5 a0,We a0):=by kernel_rfl
theorem Bek (a0:Int) (hp:∀p∈We a0,p):CallOk Tryz.prog 29 [Ai .i64 a0] 0 [] 1 (Z6 a0) 0 (Z5 a0):=AB (Ar Aw3 AA) (A9z a0) hp
def Aup:List A→Nat→Objs→Option A6:=Bt [.t .i64] 0 Z6 Z5 We
theorem A38:HF Tryz.prog 29 Aup:=Av (ks:=[.t .i64]) Bek
noncomputable def A94:=AS 29 Aup A93
theorem Aw4:Cr Tryz.prog A94:=An A38 Aw3
def WJ (a0:Int):Bool:=decide (a0≥(0:Int))&&decide (a0≤(1099511627776:Int))
def Agv (a0:Int):A:=.v (.bool (WJ a0))
def Agu (_a0:Int):Objs:=[]
def ZP (_a0:Int):List Prop:=[]
theorem Bdw (a0:Int):Hz (As A94 L0) 9 34 [Ai .i64 a0] 0 []=some (1,Agv a0,0,Agu a0,ZP a0):=by kernel_rfl
theorem Bja (a0:Int) (hp:∀p∈ZP a0,p):CallOk Tryz.prog 34 [Ai .i64 a0] 0 [] 1 (Agv a0) 0 (Agu a0):=AB (Ar Aw4 AA) (Bdw a0) hp
def Azh:List A→Nat→Objs→Option A6:=Bt [.t .i64] 0 Agv Agu ZP
theorem A88:HF Tryz.prog 34 Azh:=Av (ks:=[.t .i64]) Bja
noncomputable def A95:=AS 34 Azh A94
theorem Aw5:Cr Tryz.prog A95:=An A88 Aw4
def DW (a0:TMsg):Bool:=!a0.1==(2:Int)
def Bn (a0:TMsg):Bool:=!a0.1==(1:Int)
def SZ (a0:TMsg):Bool:=(↑a0.7.length:Int)==(0:Int)
def K8 (a0:TMsg):Bool:=a0.4==(0:Int)&&a0.5==(0:Int)
def Iw (a0:TMsg):Bool:=(Bn a0)&&((DW a0)&&(!a0.1==(3:Int)&&a0.1==(4:Int)))
def Iv (a0:TMsg):Bool:=a0.3.1==(0:Int)&&a0.3.2==(0:Int)&&(a0.3.3.1==(0:Int)&&a0.3.3.2==(0:Int))&&(a0.3.4.1==(0:Int)&&a0.3.4.2==(0:Int))&&(↑a0.3.5.length:Int)==(0:Int)
def NJ (a0:TMsg):Bool:=(Bn a0)&&(!((Bn a0)&&a0.1==(2:Int))&&(!((Bn a0)&&((DW a0)&&a0.1==(3:Int)))&&(!(Iw a0)&&!((Bn a0)&&((DW a0)&&(!a0.1==(3:Int)&&(!a0.1==(4:Int)&&a0.1==(5:Int))))))))||!((Bn a0)&&a0.1==(2:Int))&&(!((Bn a0)&&((DW a0)&&a0.1==(3:Int)))&&(!(Iw a0)&&!((Bn a0)&&((DW a0)&&(!a0.1==(3:Int)&&(!a0.1==(4:Int)&&a0.1==(5:Int)))))))
def JF (a0:TMsg):Bool:=(NJ a0)||!((Bn a0)&&((DW a0)&&a0.1==(3:Int)))&&(!(Iw a0)&&!((Bn a0)&&((DW a0)&&(!a0.1==(3:Int)&&(!a0.1==(4:Int)&&a0.1==(5:Int))))))
def JE (a0:TMsg):Bool:=(JF a0)||!((Bn a0)&&((DW a0)&&(!a0.1==(3:Int)&&(!a0.1==(4:Int)&&a0.1==(5:Int)))))
def V8 (a0:TMsg):Bool:=((((bif(JE a0) then bif(JF a0) then(SZ a0) else true else(SZ a0))&&bif(JE a0) then bif(JF a0) then bif(NJ a0) then(K8 a0) else true else bif(Iw a0) then(K8 a0) else(K8 a0) else(K8 a0))&&bif(JE a0) then bif(JF a0) then(↑a0.6.length:Int)==(0:Int) else true else true)&&bif(JE a0) then(↑a0.8.length:Int)==(0:Int)&&(a0.9.1==(0:Int)&&a0.9.2==(0:Int))&&!a0.10 else true)&&bif(JE a0) then bif(JF a0) then bif(NJ a0) then bif(Bn a0)&&(!((Bn a0)&&a0.1==(2:Int))&&(!((Bn a0)&&((DW a0)&&a0.1==(3:Int)))&&(!(Iw a0)&&!((Bn a0)&&((DW a0)&&(!a0.1==(3:Int)&&(!a0.1==(4:Int)&&a0.1==(5:Int)))))))) then(Iv a0) else true else(Iv a0) else bif(Iw a0) then(Iv a0) else(Iv a0) else(Iv a0)
def V9 (a0:TMsg):A:=.v (.bool (V8 a0))
def Akv (_a0:TMsg):Objs:=[]
def Adx (_a0:TMsg):List Prop:=[]
theorem A34 (a0:TMsg):Hz (As A95 L0) 9 26 [Ai .msg a0] 0 []=some (1,V9 a0,0,Akv a0,Adx a0):=by kernel_rfl
theorem A9x (a0:TMsg) (hp:∀p∈Adx a0,p):CallOk Tryz.prog 26 [Ai .msg a0] 0 [] 1 (V9 a0) 0 (Akv a0):=AB (Ar Aw5 AA) (A34 a0) hp
def Ady (a0:TMsg):A:=.v (.bool (Aac a0))
def Adw (_a0:TMsg):Objs:=[]
def Yq (_a0:TMsg):List Prop:=[]
theorem Bgd (n:Nat):((n:Int)==(0:Int))=(n==0):=by
 rw[Bool.eq_iff_iff,beq_iff_eq,beq_iff_eq];omega
theorem A33 (m:TMsg):V8 m=Aac m:=by
 unfold V8 JE JF NJ Iw Bn DW Aac
 have e6:SZ m=(m.sums.length==0):=Bgd _
 have e5:K8 m=zA m:=rfl
 have e3:Iv m=zC m.change:=by unfold Iv zC;rw[Bgd]
 have e7:((m.6.length:Int)==0)=(m.path.length==0):=Bgd _
 have e8:((m.8.length:Int)==0&&(m.9.1==0&&m.9.2==0)&&!m.10)=zL m:=by unfold zL;rw[Bgd]
 rw[e6,e5,e3,e7,e8]
 rcases kinds m.1 with⟨e1,e2,e3,e4,e5⟩|⟨e1,e2,e3,e4,e5⟩|⟨e1,e2,e3,e4,e5⟩|⟨e1,e2,e3,e4,e5⟩|⟨e1,e2,e3,e4,e5⟩|⟨e1,e2,e3,e4,e5⟩<;>
  (have f1:(m.kind==1)=_:=e1;have f2:(m.kind==2)=_:=e2;have f3:(m.kind==3)=_:=e3;have f4:(m.kind==4)=_:=e4;have f5:(m.kind==5)=_:=e5;rw[f1,f2,f3,f4,f5];rfl)
theorem A32 (a0:TMsg) (_hp:∀p∈Yq a0,p):CallOk Tryz.prog 26 [Ai .msg a0] 0 [] 1 (Ady a0) 0 (Adw a0):=by
 have h:=A9x a0 Af
 unfold V9 at h
 rw[A33] at h
 exact h
def Akw:List A→Nat→Objs→Option A6:=Bt [.t .msg] 0 Ady Adw Yq
theorem Awz:HF Tryz.prog 26 Akw:=Av (ks:=[.t .msg]) A32
noncomputable def A96:=AS 26 Akw A95
theorem Aw6:Cr Tryz.prog A96:=An Awz Aw5
def NI (a0:TMsg):Bool:=decide (a0.1 <(0:Int))||decide (a0.1≥(6:Int))
def A31 (_a0:TMsg):List ByteArray:=[ByteArray.mk #[],ByteArray.mk #[(100:UInt8),(97:UInt8),(116:UInt8),(97:UInt8)],ByteArray.mk #[(97:UInt8),(99:UInt8),(107:UInt8)],ByteArray.mk #[(97:UInt8),(115:UInt8),(107:UInt8)],ByteArray.mk #[(116:UInt8),(101:UInt8),(108:UInt8),(108:UInt8)],ByteArray.mk #[(108:UInt8),(101:UInt8),(97:UInt8),(102:UInt8)]]
def V6 (a0:TMsg):ByteArray:=bif(NI a0) then ByteArray.mk #[] else(A31 a0).getD a0.1.toNat (Ae TC.str)
def V7 (a0:TMsg):A:=.v (.string (V6 a0))
def Akt (_a0:TMsg):Objs:=[]
def Adu (a0:TMsg):List Prop:=[((!(NI a0))=true→(0:Int)≤a0.1∧a0.1 <(6:Int))]
theorem A30 (a0:TMsg):Hz (As A96 L0) 9 11 [Ai .msg a0] 0 []=some (1,V7 a0,0,Akt a0,Adu a0):=by kernel_rfl
theorem A9w (a0:TMsg) (hp:∀p∈Adu a0,p):CallOk Tryz.prog 11 [Ai .msg a0] 0 [] 1 (V7 a0) 0 (Akt a0):=AB (Ar Aw6 AA) (A30 a0) hp
def Adv (a0:TMsg):A:=.v (.string (Aht a0.kind))
def Adt (_a0:TMsg):Objs:=[]
def Yp (_a0:TMsg):List Prop:=[]
theorem Bbs (n:Int):n=1∨n=2∨n=3∨n=4∨n=5∨n=0∨n <0∨6≤n:=by omega
theorem A3z (m:TMsg):V6 m=Aht m.kind:=by
 unfold V6 NI Aht
 have e0:m.1=m.kind:=rfl
 rw[e0]
 rcases Bbs m.kind with h|h|h|h|h|h|h|h
 ·rw[h];rfl
 ·rw[h];rfl
 ·rw[h];rfl
 ·rw[h];rfl
 ·rw[h];rfl
 ·rw[h];rfl
 ·rw[decide_eq_true h,Bool.true_or,cond_true,beq_eq_false_iff_ne.2 (by omega),beq_eq_false_iff_ne.2 (by omega),beq_eq_false_iff_ne.2 (by omega),beq_eq_false_iff_ne.2 (by omega),beq_eq_false_iff_ne.2 (by omega)];rfl
 ·rw[decide_eq_true (show m.kind≥6 from h),Bool.or_true,cond_true,beq_eq_false_iff_ne.2 (by omega),beq_eq_false_iff_ne.2 (by omega),beq_eq_false_iff_ne.2 (by omega),beq_eq_false_iff_ne.2 (by omega),beq_eq_false_iff_ne.2 (by omega)];rfl
theorem A3y (a0:TMsg) (_hp:∀p∈Yp a0,p):CallOk Tryz.prog 11 [Ai .msg a0] 0 [] 1 (Adv a0) 0 (Adt a0):=by
 have h:=A9w a0 (Aa (fun h=>by
  unfold NI at h
  rw[Bool.not_or,Bool.and_eq_true,Bool.not_eq_true',Bool.not_eq_true',decide_eq_false_iff_not,decide_eq_false_iff_not] at h
  omega) Af)
 unfold V7 at h
 rw[A3z] at h
 exact h
def Aku:List A→Nat→Objs→Option A6:=Bt [.t .msg] 0 Adv Adt Yp
theorem Awy:HF Tryz.prog 11 Aku:=Av (ks:=[.t .msg]) A3y
noncomputable def A97:=AS 11 Aku A96
theorem Aw7:Cr Tryz.prog A97:=An Awy Aw6
def ZG (a0:TMsg):ByteArray:=bif a0.1==(1:Int)||(a0.1==(2:Int)||(a0.1==(3:Int)||(a0.1==(4:Int)||a0.1==(5:Int)))) then bif a0.1==(1:Int) then ByteArray.mk #[(100:UInt8),(97:UInt8),(116:UInt8),(97:UInt8)] else bif a0.1==(2:Int) then ByteArray.mk #[(97:UInt8),(99:UInt8),(107:UInt8)] else bif a0.1==(3:Int) then ByteArray.mk #[(97:UInt8),(115:UInt8),(107:UInt8)] else bif a0.1==(4:Int) then ByteArray.mk #[(116:UInt8),(101:UInt8),(108:UInt8),(108:UInt8)] else ByteArray.mk #[(108:UInt8),(101:UInt8),(97:UInt8),(102:UInt8)] else ByteArray.mk #[]
def ZH (a0:TMsg):A:=.v (.string (ZG a0))
def Atg (_a0:TMsg):Objs:=[]
def Aj0 (_a0:TMsg):List Prop:=[]
theorem A82 (a0:TMsg):Hz (As A97 L0) 9 12 [Ai .msg a0] 0 []=some (1,ZH a0,0,Atg a0,Aj0 a0):=by kernel_rfl
theorem Bds (a0:TMsg) (hp:∀p∈Aj0 a0,p):CallOk Tryz.prog 12 [Ai .msg a0] 0 [] 1 (ZH a0) 0 (Atg a0):=AB (Ar Aw7 AA) (A82 a0) hp
def Aj1 (a0:TMsg):A:=.v (.string (Aht a0.kind))
def Ajz (_a0:TMsg):Objs:=[]
def Ac2 (_a0:TMsg):List Prop:=[]
theorem A81 (m:TMsg):ZG m=Aht m.kind:=by
 unfold ZG Aht
 have e0:m.1=m.kind:=rfl
 rw[e0]
 rcases kinds m.kind with⟨e1,e2,e3,e4,e5⟩|⟨e1,e2,e3,e4,e5⟩|⟨e1,e2,e3,e4,e5⟩|⟨e1,e2,e3,e4,e5⟩|⟨e1,e2,e3,e4,e5⟩|⟨e1,e2,e3,e4,e5⟩<;>(rw[e1,e2,e3,e4,e5];rfl)
theorem A80 (a0:TMsg) (_hp:∀p∈Ac2 a0,p):CallOk Tryz.prog 12 [Ai .msg a0] 0 [] 1 (Aj1 a0) 0 (Ajz a0):=by
 have h:=Bds a0 Af
 unfold ZH at h
 rw[A81] at h
 exact h
def Ath:List A→Nat→Objs→Option A6:=Bt [.t .msg] 0 Aj1 Ajz Ac2
theorem A21:HF Tryz.prog 12 Ath:=Av (ks:=[.t .msg]) A80
noncomputable def A98:=AS 12 Ath A97
theorem Aw8:Cr Tryz.prog A98:=An A21 Aw7
def Ajj (a0:TChange) (a1:TChange):Bool:=a0.1==a1.1&&a0.2==a1.2&&(a0.3.1==a1.3.1&&a0.3.2==a1.3.2)&&(a0.4.1==a1.4.1&&a0.4.2==a1.4.2)
def Bdn (a0:TChange) (a1:TChange):Bool:=(Ajj a0 a1)&&QB Bbh (Ae TC.write) a0.5 a1.5
def Asz (a0:TChange) (a1:TChange):A:=.v (.bool (Bdn a0 a1))
def Asy (_a0:TChange) (_a1:TChange):Objs:=[]
def Ajl (a0:TChange) (a1:TChange):List Prop:=[((Ajj a0 a1)=true→Am a0.5.length)]
theorem A8p (a0:TChange) (a1:TChange):Hz (As A98 L0) 9 46 [Ai .change a0,Ai .change a1] 0 []=some (1,Asz a0 a1,0,Asy a0 a1,Ajl a0 a1):=by kernel_rfl
theorem Bdo (a0:TChange) (a1:TChange) (hp:∀p∈Ajl a0 a1,p):CallOk Tryz.prog 46 [Ai .change a0,Ai .change a1] 0 [] 1 (Asz a0 a1) 0 (Asy a0 a1):=AB (Ar Aw8 AA) (A8p a0 a1) hp
def Ajm (a0:TChange) (a1:TChange):A:=.v (.bool (Bbg a0 a1))
def Ajk (_a0:TChange) (_a1:TChange):Objs:=[]
def Acp (a0:TChange) (_a1:TChange):List Prop:=[Am a0.writes.length]
theorem A8o (a0 a1:TChange) (hp:∀p∈Acp a0 a1,p):CallOk Tryz.prog 46 [Ai .change a0,Ai .change a1] 0 [] 1 (Ajm a0 a1) 0 (Ajk a0 a1):=
 Bdo a0 a1 (Aa (fun _=>hp _ (List.mem_cons_self ..)) Af)
def As0:List A→Nat→Objs→Option A6:=Bt [.t .change,.t .change] 0 Ajm Ajk Acp
theorem A2u:HF Tryz.prog 46 As0:=Av (ks:=[.t .change,.t .change]) A8o
noncomputable def A99:=AS 46 As0 A98
theorem Aw9:Cr Tryz.prog A99:=An A2u Aw8
def VT (a0:TMsg) (a1:TMsg):Bool:=a0.1==a1.1&&a0.2==a1.2&&Bbg a0.3 a1.3&&a0.4==a1.4&&a0.5==a1.5
def VS (a0:TMsg) (a1:TMsg):Bool:=(VT a0 a1)&&QB eqI (Ae TC.i64) a0.6 a1.6&&QB eqD (Ae TC.digest) a0.7 a1.7
def Bdt (a0:TMsg) (a1:TMsg):Bool:=(VS a0 a1)&&A6a a0.8 a1.8&&(a0.9.1==a1.9.1&&a0.9.2==a1.9.2)&&a0.10==a1.10
def Atk (a0:TMsg) (a1:TMsg):A:=.v (.bool (Bdt a0 a1))
def Atj (_a0:TMsg) (_a1:TMsg):Objs:=[]
def Aj3 (a0:TMsg) (a1:TMsg):List Prop:=[((a0.1==a1.1&&a0.2==a1.2)=true→Am a0.3.5.length),((VT a0 a1)=true→Am a0.6.length),(((VT a0 a1)&&QB eqI (Ae TC.i64) a0.6 a1.6)=true→Am a0.7.length),((VS a0 a1)=true→Am a0.8.length),((VS a0 a1)=true→∀(r:Ak),r∈a0.8→Ad r.2.length)]
theorem A84 (a0:TMsg) (a1:TMsg):Hz (As A99 L0) 9 15 [Ai .msg a0,Ai .msg a1] 0 []=some (1,Atk a0 a1,0,Atj a0 a1,Aj3 a0 a1):=by kernel_rfl
theorem Bdu (a0:TMsg) (a1:TMsg) (hp:∀p∈Aj3 a0 a1,p):CallOk Tryz.prog 15 [Ai .msg a0,Ai .msg a1] 0 [] 1 (Atk a0 a1) 0 (Atj a0 a1):=AB (Ar Aw9 AA) (A84 a0 a1) hp
def Aj4 (a0:TMsg) (a1:TMsg):A:=.v (.bool (eqM a0 a1))
def Aj2 (_a0:TMsg) (_a1:TMsg):Objs:=[]
def DD (m:TMsg):Prop:=Am m.change.writes.length∧Am m.path.length∧Am m.sums.length∧Am m.rows.length∧∀r∈m.rows,Ad r.cells.length
def Ac4 (a0:TMsg) (_a1:TMsg):List Prop:=[DD a0]
theorem A83 (a0 a1:TMsg) (hp:∀p∈Ac4 a0 a1,p):CallOk Tryz.prog 15 [Ai .msg a0,Ai .msg a1] 0 [] 1 (Aj4 a0 a1) 0 (Aj2 a0 a1):=by
 obtain⟨h1,h2,h3,h4,h5⟩:=hp _ (List.mem_cons_self ..)
 exact Bdu a0 a1 (Aa (fun _=>h1) (Aa (fun _=>h2) (Aa (fun _=>h3) (Aa (fun _=>h4) (Aa (fun _=>h5) Af)))))
def Atl:List A→Nat→Objs→Option A6:=Bt [.t .msg,.t .msg] 0 Aj4 Aj2 Ac4
theorem A22:HF Tryz.prog 15 Atl:=Av (ks:=[.t .msg,.t .msg]) A83
noncomputable def Baa:=AS 15 Atl A99
theorem Axa:Cr Tryz.prog Baa:=An A22 Aw9
def K7 (a0:List Ab) (_a1:TMsg):Bool:=Bi a0 !=(0:Int)
def Gg (_a0:List Ab) (a1:TMsg):Bool:=Aac a1&&Ld a1.6&&(a1.2==(1:Int)||a1.2==(2:Int))
def NH (a0:List Ab) (a1:TMsg):Bool:=(Gg a0 a1)&&a1.3.1==a1.2
def NG (a0:List Ab) (a1:TMsg):Bool:=(Gg a0 a1)&&(↑a1.6.length:Int)==(2:Int)&&decide ((↑a1.8.length:Int)≤(256:Int))&&BU a1.9
def V4 (a0:List Ab) (a1:TMsg):Int:=bif(K7 a0 a1) then Bi a0 else bif !bif a1.1==(1:Int) then(NH a0 a1)&&WT a0 a1.3==(0:Int) else bif a1.1==(2:Int) then(Gg a0 a1)&&LF a1.4&&LF a1.5 else bif a1.1==(3:Int) then(Gg a0 a1)&&(↑a1.7.length:Int)==(1:Int) else bif a1.1==(4:Int) then(Gg a0 a1)&&(↑a1.7.length:Int)==(16:Int)&&decide ((↑a1.6.length:Int) <(2:Int)) else bif a1.1==(5:Int) then(NG a0 a1)&&S7 a0 a1.8==(0:Int) else false then(140:Int) else(0:Int)
def V5 (a0:List Ab) (a1:TMsg):A:=.v (.int .i64 (V4 a0 a1))
def Akr (_a0:List Ab) (_a1:TMsg):Objs:=[]
def Adr (a0:List Ab) (a1:TMsg):List Prop:=[((!(K7 a0 a1))=true→Aac a1=true→Am a1.6.length),((!(K7 a0 a1))=true→(a1.1==(1:Int))=true→(NH a0 a1)=true→Am a1.3.5.length),((!(K7 a0 a1))=true→(a1.1==(1:Int))=false→(a1.1==(2:Int))=false→(a1.1==(3:Int))=false→(a1.1==(4:Int))=false→(a1.1==(5:Int))=true→(NG a0 a1)=true→Am a1.8.length)]
theorem A3x (a0:List Ab) (a1:TMsg):Hz (As Baa L0) 9 9 [.sl .group a0,Ai .msg a1] 0 []=some (1,V5 a0 a1,0,Akr a0 a1,Adr a0 a1):=by kernel_rfl
theorem A9v (a0:List Ab) (a1:TMsg) (hp:∀p∈Adr a0 a1,p):CallOk Tryz.prog 9 [.sl .group a0,Ai .msg a1] 0 [] 1 (V5 a0 a1) 0 (Akr a0 a1):=AB (Ar Axa AA) (A3x a0 a1) hp
def Ads (a0:List Ab) (a1:TMsg):A:=.v (.int .i64 (D7 a0 a1))
def Adq (_a0:List Ab) (_a1:TMsg):Objs:=[]
def Yo (_a0:List Ab) (a1:TMsg):List Prop:=[DD a1]
theorem A3w (l:List Ab) (m:TMsg):V4 l m=D7 l m:=by
 unfold V4 D7
 have e3:K7 l m=(Bi l !=0):=rfl
 have hv:BU m.9=G8 m.know:=Mt _
 have e:(bif m.1==1 then NH l m&&WT l m.3==0 else bif m.1==2 then Gg l m&&LF m.4&&LF m.5 else bif m.1==3 then Gg l m&&(m.7.length:Int)==1 else bif m.1==4 then Gg l m&&(m.7.length:Int)==16&&decide ((m.6.length:Int) <2) else bif m.1==5 then NG l m&&S7 l m.8==0 else false)=okW l m:=by
  unfold NH NG okW A1f LF A9k
  have eb:Gg l m=(Aac m&&Ld m.path&&(m.site==1||m.site==2)):=rfl
  rw[eb,hv]
  rcases kinds m.1 with⟨e1,e2,e3,e4,e5⟩|⟨e1,e2,e3,e4,e5⟩|⟨e1,e2,e3,e4,e5⟩|⟨e1,e2,e3,e4,e5⟩|⟨e1,e2,e3,e4,e5⟩|⟨e1,e2,e3,e4,e5⟩<;>
   rw[e1]
  ·simp only[cond_true,Bool.and_assoc]
  ·rw[e2];simp only[cond_true,cond_false,Bool.and_assoc]
  ·rw[e2,e3];simp only[cond_true,cond_false]
  ·rw[e2,e3,e4];simp only[cond_true,cond_false,Bool.and_assoc]
  ·rw[e2,e3,e4,e5];simp only[cond_true,cond_false,Bool.and_assoc]
  ·rw[e2,e3,e4,e5];simp only[cond_false,Bool.and_false]
 rw[e,e3]
 cases okW l m<;>rfl
theorem A3v (a0:List Ab) (a1:TMsg) (hp:∀p∈Yo a0 a1,p):CallOk Tryz.prog 9 [.sl .group a0,Ai .msg a1] 0 [] 1 (Ads a0 a1) 0 (Adq a0 a1):=by
 obtain⟨h1,h2,h3,h4,h5⟩:=hp _ (List.mem_cons_self ..)
 have h:=A9v a0 a1 (Aa (fun _ _=>h2) (Aa (fun _ _ _=>h1) (Aa (fun _ _ _ _ _ _ _=>h4) Af)))
 unfold V5 at h
 rw[A3w] at h
 exact h
def Aks:List A→Nat→Objs→Option A6:=Bt [.l .group,.t .msg] 0 Ads Adq Yo
theorem Awx:HF Tryz.prog 9 Aks:=Av (ks:=[.l .group,.t .msg]) A3v
noncomputable def Bab:=AS 9 Aks Baa
theorem Axb:Cr Tryz.prog Bab:=An Awx Axa
def Gk (a0:List Ab) (_a1:TMsg):Bool:=Bi a0 !=(0:Int)
def Dx (_a0:List Ab) (a1:TMsg):Bool:=a1.2==(1:Int)||a1.2==(2:Int)
def Mo (a0:List Ab) (a1:TMsg):Bool:=!bif a1.1==(1:Int) then(Dx a0 a1)&&WT a0 a1.3==(0:Int)&&a1.3.1==a1.2 else bif a1.1==(2:Int) then(Dx a0 a1)&&WJ a1.4&&WJ a1.5 else bif a1.1==(3:Int) then(Dx a0 a1)&&Ld a1.6&&(↑a1.7.length:Int)==(1:Int) else bif a1.1==(4:Int) then(Dx a0 a1)&&Ld a1.6&&decide ((↑a1.6.length:Int) <(2:Int))&&(↑a1.7.length:Int)==(16:Int) else bif a1.1==(5:Int) then(Dx a0 a1)&&Ld a1.6&&(↑a1.6.length:Int)==(2:Int)&&decide ((↑a1.8.length:Int)≤(256:Int))&&S7 a0 a1.8==(0:Int)&&BT a1.9 else false
def BR (_a0:List Ab) (a1:TMsg):TMsg:=TMsg.mk (bif a1.1==(1:Int) then a1.1 else bif a1.1==(2:Int) then a1.1 else bif a1.1==(3:Int) then a1.1 else bif a1.1==(4:Int) then a1.1 else bif a1.1==(5:Int) then a1.1 else a1.1) (bif a1.1==(1:Int) then a1.2 else bif a1.1==(2:Int) then a1.2 else bif a1.1==(3:Int) then a1.2 else bif a1.1==(4:Int) then a1.2 else bif a1.1==(5:Int) then a1.2 else a1.2) (TChange.mk (bif a1.1==(1:Int) then a1.3.1 else bif a1.1==(2:Int) then(0:Int) else bif a1.1==(3:Int) then(0:Int) else bif a1.1==(4:Int) then(0:Int) else bif a1.1==(5:Int) then(0:Int) else(0:Int)) (bif a1.1==(1:Int) then a1.3.2 else bif a1.1==(2:Int) then(0:Int) else bif a1.1==(3:Int) then(0:Int) else bif a1.1==(4:Int) then(0:Int) else bif a1.1==(5:Int) then(0:Int) else(0:Int)) (TStamp.mk (bif a1.1==(1:Int) then a1.3.3.1 else bif a1.1==(2:Int) then(0:Int) else bif a1.1==(3:Int) then(0:Int) else bif a1.1==(4:Int) then(0:Int) else bif a1.1==(5:Int) then(0:Int) else(0:Int)) (bif a1.1==(1:Int) then a1.3.3.2 else bif a1.1==(2:Int) then(0:Int) else bif a1.1==(3:Int) then(0:Int) else bif a1.1==(4:Int) then(0:Int) else bif a1.1==(5:Int) then(0:Int) else(0:Int))) (TVec.mk (bif a1.1==(1:Int) then a1.3.4.1 else bif a1.1==(2:Int) then(0:Int) else bif a1.1==(3:Int) then(0:Int) else bif a1.1==(4:Int) then(0:Int) else bif a1.1==(5:Int) then(0:Int) else(0:Int)) (bif a1.1==(1:Int) then a1.3.4.2 else bif a1.1==(2:Int) then(0:Int) else bif a1.1==(3:Int) then(0:Int) else bif a1.1==(4:Int) then(0:Int) else bif a1.1==(5:Int) then(0:Int) else(0:Int))) (bif a1.1==(1:Int) then a1.3.5 else[])) (bif a1.1==(1:Int) then(0:Int) else bif a1.1==(2:Int) then a1.4 else bif a1.1==(3:Int) then(0:Int) else bif a1.1==(4:Int) then(0:Int) else bif a1.1==(5:Int) then(0:Int) else(0:Int)) (bif a1.1==(1:Int) then(0:Int) else bif a1.1==(2:Int) then a1.5 else bif a1.1==(3:Int) then(0:Int) else bif a1.1==(4:Int) then(0:Int) else bif a1.1==(5:Int) then(0:Int) else(0:Int)) (bif a1.1==(1:Int) then[] else bif a1.1==(2:Int) then[] else bif a1.1==(3:Int) then a1.6 else bif a1.1==(4:Int) then a1.6 else bif a1.1==(5:Int) then a1.6 else[]) (bif a1.1==(1:Int) then[] else bif a1.1==(2:Int) then[] else bif a1.1==(3:Int) then a1.7 else bif a1.1==(4:Int) then a1.7 else[]) (bif a1.1==(1:Int) then[] else bif a1.1==(2:Int) then[] else bif a1.1==(3:Int) then[] else bif a1.1==(4:Int) then[] else bif a1.1==(5:Int) then a1.8 else[]) (TVec.mk (bif a1.1==(1:Int) then(0:Int) else bif a1.1==(2:Int) then(0:Int) else bif a1.1==(3:Int) then(0:Int) else bif a1.1==(4:Int) then(0:Int) else bif a1.1==(5:Int) then a1.9.1 else(0:Int)) (bif a1.1==(1:Int) then(0:Int) else bif a1.1==(2:Int) then(0:Int) else bif a1.1==(3:Int) then(0:Int) else bif a1.1==(4:Int) then(0:Int) else bif a1.1==(5:Int) then a1.9.2 else(0:Int))) (bif a1.1==(1:Int) then false else bif a1.1==(2:Int) then false else bif a1.1==(3:Int) then false else bif a1.1==(4:Int) then false else bif a1.1==(5:Int) then a1.10 else false)
def ZE (a0:List Ab) (a1:TMsg):Int:=bif(Gk a0 a1) then Bi a0 else bif(Mo a0 a1)||!eqM (BR a0 a1) a1 then(140:Int) else(0:Int)
def ZF (a0:List Ab) (a1:TMsg):A:=.v (.int .i64 (ZE a0 a1))
def Ate (_a0:List Ab) (_a1:TMsg):Objs:=[]
def Ajx (a0:List Ab) (a1:TMsg):List Prop:=[(∀(g:Ab),g∈a0→Am g.1.size),((!(Gk a0 a1))=true→(a1.1==(1:Int))=true→(Dx a0 a1)=true→Am a1.3.5.length),((!(Gk a0 a1))=true→(a1.1==(1:Int))=true→(Dx a0 a1)=true→∀(g:Ab),g∈a0→Am g.1.size),((!(Gk a0 a1))=true→(a1.1==(1:Int))=false→(a1.1==(2:Int))=false→(a1.1==(3:Int))=true→(Dx a0 a1)=true→Am a1.6.length),((!(Gk a0 a1))=true→(a1.1==(1:Int))=false→(a1.1==(2:Int))=false→(a1.1==(3:Int))=false→(a1.1==(4:Int))=true→(Dx a0 a1)=true→Am a1.6.length),((!(Gk a0 a1))=true→(a1.1==(1:Int))=false→(a1.1==(2:Int))=false→(a1.1==(3:Int))=false→(a1.1==(4:Int))=false→(a1.1==(5:Int))=true→(Dx a0 a1)=true→Am a1.6.length),((!(Gk a0 a1))=true→(a1.1==(1:Int))=false→(a1.1==(2:Int))=false→(a1.1==(3:Int))=false→(a1.1==(4:Int))=false→(a1.1==(5:Int))=true→((Dx a0 a1)&&Ld a1.6&&(↑a1.6.length:Int)==(2:Int)&&decide ((↑a1.8.length:Int)≤(256:Int)))=true→Am a1.8.length),((!(Gk a0 a1))=true→(a1.1==(1:Int))=false→(a1.1==(2:Int))=false→(a1.1==(3:Int))=false→(a1.1==(4:Int))=false→(a1.1==(5:Int))=true→((Dx a0 a1)&&Ld a1.6&&(↑a1.6.length:Int)==(2:Int)&&decide ((↑a1.8.length:Int)≤(256:Int)))=true→∀(g:Ab),g∈a0→Am g.1.size),((!(Gk a0 a1))=true→(Mo a0 a1)=false→DD (BR a0 a1))]
theorem A8y (a0:List Ab) (a1:TMsg):Hz (As Bab L0) 9 10 [.sl .group a0,Ai .msg a1] 0 []=some (1,ZF a0 a1,0,Ate a0 a1,Ajx a0 a1):=by kernel_rfl
theorem Bdr (a0:List Ab) (a1:TMsg) (hp:∀p∈Ajx a0 a1,p):CallOk Tryz.prog 10 [.sl .group a0,Ai .msg a1] 0 [] 1 (ZF a0 a1) 0 (Ate a0 a1):=AB (Ar Axb AA) (A8y a0 a1) hp
def Ajy (a0:List Ab) (a1:TMsg):A:=.v (.int .i64 (D7 a0 a1))
def Ajw (_a0:List Ab) (_a1:TMsg):Objs:=[]
def Ac1 (a0:List Ab) (a1:TMsg):List Prop:=[DD a1∧∀g∈a0,Am g.1.size]
theorem RT (n:Int):((0:Int)==n)=(n==0):=BEq.comm
theorem Aa1 (b:List Ak):A6a [] b=(b.length==0):=by cases b<;>rfl
theorem Wh {α:Type} (q:α→α→Bool) (d:α) (b:List α):QB q d [] b=(b.length==0):=Bk4 q d b
theorem Wr (b:Bool):(false==b)=!b:=by cases b<;>rfl
theorem Wq (c:TChange):Bbg ⟨0,0,⟨0,0⟩,⟨0,0⟩,[]⟩ c=zC c:=by
 unfold Bbg zC
 simp only[RT,Wh]
theorem Bgt (l:List Int):(l.length==0)=((l.length==0)&&Ld l):=by
 cases l<;>rfl
theorem A8z (l:List Ab) (m:TMsg):(!((Mo l m)||!eqM (BR l m) m))=okW l m:=by
 have hv:BT m.9=G8 m.know:=Mm _
 have hs:∀n:Int,(decide (n≥0)&&decide (n≤1099511627776))=A9k n:=fun _=>rfl
 unfold Mo okW A1f Aac WJ Dx
 rw[hv,Bool.not_or,Bool.not_not,Bool.not_not]
 simp only[hs]
 rcases kinds m.1 with⟨e1,e2,e3,e4,e5⟩|⟨e1,e2,e3,e4,e5⟩|⟨e1,e2,e3,e4,e5⟩|⟨e1,e2,e3,e4,e5⟩|⟨e1,e2,e3,e4,e5⟩|⟨e1,e2,e3,e4,e5⟩
 ·have hk:BR l m=⟨m.kind,m.site,m.change,0,0,[],[],[],⟨0,0⟩,false⟩:=by unfold BR;simp only[e1,cond_true]
  rw[hk,e1,e2,e3,e4,e5,cond_true,cond_true]
  unfold eqM zA zL
  simp only[beq_self_eq_true,RT,Aa1,Wh,Wr,Bib,Bool.true_and,Bool.false_or,Bool.true_or,Bool.and_true]
  rw[Bgt m.path]
  ac_rfl
 ·have hk:BR l m=⟨m.kind,m.site,⟨0,0,⟨0,0⟩,⟨0,0⟩,[]⟩,m.ack,m.own,[],[],[],⟨0,0⟩,false⟩:=by unfold BR;simp only[e1,e2,cond_true,cond_false]
  rw[hk,e1,e2,e3,e4,e5,cond_false,cond_true,cond_false,cond_true]
  unfold eqM zL
  simp only[beq_self_eq_true,RT,Aa1,Wh,Wr,Wq,Bool.true_and,Bool.false_or,Bool.true_or,Bool.and_true]
  rw[Bgt m.path]
  ac_rfl
 ·have hk:BR l m=⟨m.kind,m.site,⟨0,0,⟨0,0⟩,⟨0,0⟩,[]⟩,0,0,m.path,m.sums,[],⟨0,0⟩,false⟩:=by unfold BR;simp only[e1,e2,e3,cond_true,cond_false]
  rw[hk,e1,e2,e3,e4,e5,cond_false,cond_false,cond_true,cond_false,cond_false,cond_true]
  unfold eqM zL zA
  simp only[beq_self_eq_true,RT,Aa1,NM Ao1,NM A58,Wr,Wq,Bool.true_and,Bool.false_or,Bool.true_or,Bool.and_true]
  ac_rfl
 ·have hk:BR l m=⟨m.kind,m.site,⟨0,0,⟨0,0⟩,⟨0,0⟩,[]⟩,0,0,m.path,m.sums,[],⟨0,0⟩,false⟩:=by unfold BR;simp only[e1,e2,e3,e4,cond_true,cond_false]
  rw[hk,e1,e2,e3,e4,e5,cond_false,cond_false,cond_false,cond_true,cond_false,cond_false,cond_false,cond_true]
  unfold eqM zL zA
  simp only[beq_self_eq_true,RT,Aa1,NM Ao1,NM A58,Wr,Wq,Bool.true_and,Bool.false_or,Bool.true_or,Bool.or_true,Bool.and_true]
  ac_rfl
 ·have hk:BR l m=⟨m.kind,m.site,⟨0,0,⟨0,0⟩,⟨0,0⟩,[]⟩,0,0,m.path,[],m.rows,m.know,m.back⟩:=by unfold BR;simp only[e1,e2,e3,e4,e5,cond_true,cond_false]
  rw[hk,e1,e2,e3,e4,e5,cond_false,cond_false,cond_false,cond_false,cond_true,cond_false,cond_false,cond_false,cond_false,cond_true]
  unfold eqM zA
  simp only[beq_self_eq_true,RT,Bid,NM Ao1,Wh,Wq,Bool.true_and,Bool.false_or,Bool.true_or,Bool.or_true,Bool.and_true]
  ac_rfl
 ·rw[e1,e2,e3,e4,e5,cond_false,cond_false,cond_false,cond_false,cond_false,cond_false,cond_false,cond_false,cond_false,cond_false,Bool.false_and,Bool.and_false]
theorem Awj {l:List Ab} {m:TMsg} (h:DD m):DD (BR l m):=by
 obtain⟨h1,h2,h3,h4,h5⟩:=h
 have n0:Am 0:=Nat.zero_le _
 unfold BR
 rcases kinds m.1 with⟨e1,e2,e3,e4,e5⟩|⟨e1,e2,e3,e4,e5⟩|⟨e1,e2,e3,e4,e5⟩|⟨e1,e2,e3,e4,e5⟩|⟨e1,e2,e3,e4,e5⟩|⟨e1,e2,e3,e4,e5⟩<;>
  (simp only[e1,e2,e3,e4,e5,cond_true,cond_false];exact⟨by first|exact h1|exact n0,by first|exact h2|exact n0,by first|exact h3|exact n0,by first|exact h4|exact n0,by first|exact h5|(intro r hr;cases hr)⟩)
theorem A8x (a0:List Ab) (a1:TMsg) (hp:∀p∈Ac1 a0 a1,p):CallOk Tryz.prog 10 [.sl .group a0,Ai .msg a1] 0 [] 1 (Ajy a0 a1) 0 (Ajw a0 a1):=by
 obtain⟨hm,hg⟩:=hp _ (List.mem_cons_self ..)
 obtain⟨h1,h2,h3,h4,h5⟩:=hm
 have h:=Bdr a0 a1 (Aa hg (Aa (fun _ _ _=>h1) (Aa (fun _ _ _=>hg) (Aa (fun _ _ _ _ _=>h2) (Aa (fun _ _ _ _ _ _=>h2) (Aa (fun _ _ _ _ _ _ _=>h2) (Aa (fun _ _ _ _ _ _ _=>h4) (Aa (fun _ _ _ _ _ _ _=>hg) (Aa (fun _ _=>Awj ⟨h1,h2,h3,h4,h5⟩) Af)))))))))
 have e:ZE a0 a1=D7 a0 a1:=by
  unfold ZE D7
  rw[←A8z a0 a1,show Gk a0 a1=(Bi a0 !=0) from rfl]
  cases(Mo a0 a1)||!eqM (BR a0 a1) a1<;>rfl
 unfold ZF at h
 rw[e] at h
 exact h
def Atf:List A→Nat→Objs→Option A6:=Bt [.l .group,.t .msg] 0 Ajy Ajw Ac1
theorem A20:HF Tryz.prog 10 Atf:=Av (ks:=[.l .group,.t .msg]) A8x
noncomputable def Bkm:=AS 10 Atf Bab
theorem Bhn:Cr Tryz.prog Bkm:=An A20 Axb
noncomputable def Cwc:=Bkm
theorem Bt1:Cr Tryz.prog Cwc:=Bhn
end Go.Proofs.YtifkbgkbajncjaaGreatDoor
