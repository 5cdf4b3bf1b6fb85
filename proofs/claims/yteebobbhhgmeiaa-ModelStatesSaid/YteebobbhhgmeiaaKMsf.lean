/- made by a program (rowgen.py): ModelStates: for every input the law returns true, and each argument reads behind the call as it read before. -/
import Derived.Test.YteebobbhhgmeiaaKMse

namespace Go.Proofs.Yteebobbhhgmeiaa
open Go.RowKit
def Bwj (l:List TGroup) (r:TRow):List UInt8:=Baq r.key++(l.zip r.cells).flatMap (fun x=>Bgv x.1.policy x.2)
def Bwk (l:List TGroup) (r:TRow):List UInt8:=bif Ap l r==0 then Bwj l r else[]
def La (_a0:List UInt8) (a1:List TGroup) (a2:TRow):Bool:=Ap a1 a2 !=(0:Int)
def A7b (a0:List UInt8) (_a1:List TGroup) (_a2:TRow):List UInt8:=[]++a0
def A7c (_a0:List UInt8) (_a1:List TGroup) (_a2:TRow):A:=.sq 0
def ZA (a0:List UInt8) (a1:List TGroup) (a2:TRow):Objs:=[(0,some (.arr 5 1 (.ty .u8 (A7b a0 a1 a2))))]
def Bml (a0:List UInt8) (a1:List TGroup) (a2:TRow):List Prop:=[((La a0 a1 a2)=true→Ai ((0:Nat)+a0.length)),((!(La a0 a1 a2))=true→Ai (a0.length+(8:Nat)+a2.1.size)),((!(La a0 a1 a2))=true→Z9 (4:Nat))]
set_option maxRecDepth 100000 in
theorem Bmk (a0:List UInt8) (a1:List TGroup) (a2:TRow):ER (AA Cl L0) 9 79 [Ak .bytes a0,.sl .group a1,Ak .row a2] 0 []=some (1,A7c a0 a1 a2,1,ZA a0 a1 a2,[((La a0 a1 a2)=true→Ai ((0:Nat)+a0.length)),((!(La a0 a1 a2))=true→Ai (a0.length+(8:Nat)+a2.1.size)),((!(La a0 a1 a2))=true→Z9 (4:Nat))]):=by kernel_rfl
set_option maxRecDepth 100000 in
theorem Brq (a0:List UInt8) (a1:List TGroup) (a2:TRow) (hp:∀p∈Bml a0 a1 a2,p):CallOk Try.prog 79 [Ak .bytes a0,.sl .group a1,Ak .row a2] 0 [] 1 (A7c a0 a1 a2) 1 (ZA a0 a1 a2):=by
 have n0:=N0 hp
 have n1:=N0 (N1 hp)
 have n2:=N0 (N1 (N1 hp))
 exact AH (Ax Bdi AG) (Bmk a0 a1 a2) (Aa n0 (Aa n1 (Aa n2 Ab)))
def A2l (_a0:List UInt8) (_a1:List TGroup) (_a2:TRow):A:=.sq 0
def MI (a0:List UInt8) (a1:List TGroup) (a2:TRow):Objs:=[(0,some (.arr 5 1 (.ty .u8 (a0++Bwk a1 a2))))]
def Asw (a0:List UInt8) (_a1:List TGroup) (_a2:TRow):List Prop:=[Ai (a0.length+1024)]
section
variable {F:Nat→Prop} {N:Nm} {nx:Nat} {R:World}
theorem A59:∀{l:List UInt8} {zs:List Value},zs.length=l.length→(∀k,k <l.length→HL F N nx R [.v (Bw (l.getD k 0))] ((zs.drop (k*1)).take 1))→zs=l.map Bw
 | [],[],_,_=>rfl
 | [],_::_,h,_=>by cases h
 |_::_,[],h,_=>by cases h
 | x::l,z::zs,h,g=>by
  have h0:=g 0 (Nat.succ_pos _)
  obtain⟨v,vs,e1,e2,e3⟩:=h0.inv
  have hz:z=Bw x:=by
   have e1':[z]=v::vs:=e1
   injection e1' with e1' _
   rw[e1']
   exact e2.v_inv
  rw[List.map_cons,←hz,A59 (l:=l) (zs:=zs) (by simpa using h) fun k hk=>by
   have:=g (k+1) (Nat.succ_lt_succ hk)
   simpa[Nat.mul_one] using this]
theorem Brr {l:List UInt8} {k:Nat} (hk:k <l.length):HL F N nx R [.v (Bw (l.getD k 0))] (((l.map Bw).drop (k*1)).take 1):=by
 rw[Nat.mul_one,List.drop_eq_getElem_cons (by simpa using hk),List.take_succ_cons,List.take_zero,List.getElem_map,List.getD_eq_getElem?_getD,List.getElem?_eq_getElem hk]
 exact HL.cons (.v _) HL.nil
theorem OwnB.sl {base:Nat} {y:Value} {bs:List UInt8} (h:OwnB base R y bs) (N:Nm):(∀g,CY y=some g→g <R.heap.size)∧Hv (fun g=>CY y=some g) N 0 R (.sl .u8 bs) y:=by
 refine⟨fun g hg=>h.1.lt hg,?_⟩
 obtain⟨hl,h2⟩:=h.1
 rcases h2 with⟨a,e1,e2⟩|⟨g,cap,cur,e1,e2,e3,_,e5,e6⟩
 ·obtain rfl:bs=[]:=List.eq_nil_of_length_eq_zero e2
  rw[e1]
  exact Hv.sl_nil rfl
 ·rw[e1]
  refine Hv.of_sl e3 fun hn=>⟨⟨g,0,none⟩,rfl,?_,fun i d hd j x hx=>?_⟩
  ·obtain⟨m,hm⟩:∃m,bs.length=m+1:=⟨bs.length - 1,by omega⟩
   rw[hm]
   rfl
  ·cases j with
   |succ j=>cases hx
   |zero=>
    have hi:=(List.getElem?_eq_some_iff.1 hd).1
    have hz:(bs.map Bw)[i]?=some (Bw d):=by rw[List.getElem?_map,hd];rfl
    rw[←e6,List.getElem?_take_of_lt (by omega)] at hz
    obtain rfl:A.v (Bw d)=x:=Option.some.inj hx
    refine⟨Bw d,?_,.v _⟩
    rw[Ea,FD,Gs e2]
    show cur[0+(i*1+0)]?=_
    rw[Nat.zero_add,Nat.add_zero,Nat.mul_one]
    simpa using hz
end
theorem CallOk.bytes {P:Program} {f:FuncId} {args:List A} {bs:List UInt8} (h:CallOk P f args 0 [] 1 (.sq 0) 1 [(0,some (.arr 5 1 (.ty .u8 bs)))]) {F:Nat→Prop} {N:Nm} {R:World} {vs:List Value} (hF:∀g,F g→g <R.heap.size) (hv:HL F N 0 R args vs):
  Calls P f vs.toArray R fun e R'=>∃y,e=.returned y∧Below R.heap.size R R'∧OwnB R.heap.size R' y bs:=by
 refine(h F N R vs (HRel.bare hF) hv).mono fun e R' ⟨y,F',N',e1,h2,h3,h4,h5⟩=>⟨y,e1,h5 (Nat.le_refl _),?_⟩
 obtain rfl:y=N'.q 0:=by cases h4;rfl
 obtain⟨_,zs,g1,g2⟩:=h2.ob 0 _ rfl
 have e:zs=bs.map Bw:=A59 (F:=F') (N:=N') (nx:=1) (R:=R') (by rw[g1.1];exact Nat.mul_one _) g2
 rw[e] at g1
 refine⟨g1,fun g hg=>?_⟩
 rcases h3.foot g ⟨0,_,rfl,hg⟩ with⟨i,ob,hl,_⟩|h
 ·cases hl
 ·exact h
theorem OwnB.made {P:Program} {f:FuncId} {F:Nat→Prop} {N:Nm} {R:World} {vs:List Value} {bs:List UInt8} (hR:HRel F N 0 [] R)
  (h:Calls P f vs.toArray R fun e R'=>∃y,e=.returned y∧Below R.heap.size R R'∧OwnB R.heap.size R' y bs):
  Calls P f vs.toArray R fun e R'=>∃y F' N',e=.returned y∧HRel F' N' 1 [(0,some (.arr 5 1 (.ty .u8 bs)))] R'∧Step F N 0 [] R F' N' 1 [(0,some (.arr 5 1 (.ty .u8 bs)))] R'∧Hv F' N' 1 R' (.sq 0) y∧(1≤1→Below R.heap.size R R'):=by
 refine h.mono fun e R' ⟨y,e1,hb,h2,h3⟩=>⟨y,F,N.setQ 0 y,e1,?_,?_,?_,fun _=>hb⟩
 ·have hq:(N.setQ 0 y).q 0=y:=by show Lk N.q 0 y 0=y;exact CV _ _ _
  have one:∀i ob,Az i [(0,some (Ob.arr 5 1 (.ty .u8 bs)))]=some ob→i=0∧ob=.arr 5 1 (.ty .u8 bs):=fun i ob hl=>by
   cases i with
   |zero=>cases hl;exact⟨rfl,rfl⟩
   |succ i=>cases hl
  refine⟨fun g hg=>Nat.lt_of_lt_of_le (hR.flt g hg) hb.size,fun i ob hl=>?_,fun i ob g hl hg hF=>?_,fun i j x z g hl hl' _ _=>(one i x hl).1.trans (one j z hl').1.symm⟩
  ·obtain⟨rfl,rfl⟩:=one i ob hl
   exact⟨Nat.succ_pos _,bs.map Bw,by rw[hq];exact h2,fun k hk=>Brr hk⟩
  ·obtain⟨rfl,rfl⟩:=one i ob hl
   have hg':CY ((N.setQ 0 y).q 0)=some g:=hg
   rw[hq] at hg'
   have:=hR.flt g hF
   have:=h3 g hg'
   omega
 ·refine⟨Nat.zero_le _,fun i hi=>absurd hi (Nat.not_lt_zero _),fun i hi=>absurd hi (Nat.not_lt_zero _),fun _ h=>h,fun _ h=> .inl h,fun g ⟨i,ob,hl,hg⟩=> .inr ?_,hb.os,hb.tape,hb.output,hb.size,fun g hg _=>hb.block g hg⟩
  cases i with
  |succ i=>cases hl
  |zero=>
   cases hl
   have hg':CY ((N.setQ 0 y).q 0)=some g:=hg
   rw[show(N.setQ 0 y).q 0=y by show Lk N.q 0 y 0=y;exact CV _ _ _] at hg'
   exact h3 g hg'
 ·have hq:(N.setQ 0 y).q 0=y:=by show Lk N.q 0 y 0=y;exact CV _ _ _
  have:=Hv.sq (F:=F) (N:=N.setQ 0 y) (nx:=1) (R:=R') (i:=0) (Nat.succ_pos _)
  rw[hq] at this
  exact this
theorem Bz2 (p:Int) (c:TCell):(Bgv p c).length≤128:=by
 unfold Bgv Bub
 cases hg:BC p c with
 |false=>exact Nat.zero_le _
 | true=>
  have n8:=XZ (OP c)
  have s8:=Bwl c.stamp
  have v16:=Bar c.vec
  have d16:=Bar c.dead
  have t8:=Bk5 c.value
  cases hw:CD c with
  |false=>cases HE c.dead<;>simp only[cond_true,cond_false,List.length_append,List.length_nil]<;>omega
  |true=>
   have:=((A6m.1 hg).st hw).2.2.2.1
   cases HE c.dead<;>cases c.gone<;>simp only[cond_true,cond_false,List.length_append,List.length_nil]<;>omega
theorem Bmj (a0:List UInt8) (a1:List TGroup) (a2:TRow) (hp:∀p∈Asw a0 a1 a2,p):CallOk Try.prog 79 [Ak .bytes a0,.sl .group a1,Ak .row a2] 0 [] 1 (A2l a0 a1 a2) 1 (MI a0 a1 a2):=by
 have hb:Ai (a0.length+1024):=hp _ (List.mem_cons_self ..)
 unfold Ai at hb
 cases hg:Ap a1 a2==0 with
 | false=>
  have hk:La a0 a1 a2=true:=by
   show(Ap a1 a2 !=0)=true
   simpa using hg
  have h:=Brq a0 a1 a2 (Aa (fun _=>by unfold Ai;omega) (Aa (fun h=>by rw[hk] at h;cases h) (Aa (fun h=>by rw[hk] at h;cases h) Ab)))
  have e:ZA a0 a1 a2=MI a0 a1 a2:=by
   unfold ZA MI A7b Bwk
   rw[hg,cond_false,List.append_nil,List.nil_append]
  rw[e] at h
  exact h
 | true=>
  have h0:Ap a1 a2=0:=by simpa using hg
  obtain⟨h1,hlen,_,h32,_⟩:=AT h0
  obtain⟨hl1,hl4⟩:=FP h1
  intro F N R vs hR hv
  obtain⟨v,vs,rfl,hv0,hv⟩:=hv.inv
  obtain⟨v0,vs,rfl,k0,hv⟩:=hv.inv
  obtain⟨v1,vs,rfl,k1,hv⟩:=hv.inv
  rw[hv.inv0]
  have hv0':=hv0
  obtain⟨ab,ncap,rfl,_⟩:=Hv.sl_inv (c:=.u8) (l:=a0) hv0
  obtain⟨us,rfl,k2⟩:=Hv.agg_inv (xs:=[.v (.string a2.key),.sl .cell a2.cells]) k1
  obtain⟨u0,us,rfl,m0,k2⟩:=k2.inv
  obtain⟨u1,us,rfl,m1,k2⟩:=k2.inv
  obtain rfl:=k2.inv0
  obtain rfl:=m0.v_inv
  obtain⟨aa,cap0,rfl,g0⟩:=B1s hR.flt k0
  obtain⟨ac,cap1,rfl,g1⟩:=B1q hR.flt m1
  have ho:MI a0 a1 a2=[(0,some (.arr 5 1 (.ty .u8 ((a0++Baq a2.key)++(a1.zip a2.cells).flatMap (fun x=>Bgv x.1.policy x.2)))))]:=by
   unfold MI Bwk Bwj
   rw[hg,cond_true,List.append_assoc]
  rw[ho]
  refine OwnB.made hR (Bmn R aa ac a1 a2.cells a2.key cap0 cap1 a0.length ncap ab (a0++Baq a2.key) Bgv 128 Bz2 ?_ hl1 hl4 (by rw[hlen];exact M6 _) ?_ ?_ g0 g1)
  ·intro W hW
   have h:Calls Try.prog 65 #[.slice aa a1.length cap0,.agg #[.string a2.key,.slice ac a2.cells.length cap1]] W fun e W'=>e=.returned (.int .i64 (Ap a1 a2))∧Below W.heap.size W W':=(Asp a1 a2 (fun _ h=>by cases h)).plain (F:=F) (N:=N) (R:=W) (vs:=[.slice aa a1.length cap0,.agg #[.string a2.key,.slice ac a2.cells.length cap1]]) (fun g hg=>Nat.lt_of_lt_of_le (hR.flt g hg) hW.size) (HL.cons (k0.step (hR.grow hW).2) (HL.cons (k1.step (hR.grow hW).2) HL.nil))
   rw[h0] at h
   exact h
  ·intro W hW
   exact(XH a0 a2.key (Aa (by unfold Ai;omega) Ab)).bytes (F:=F) (N:=N) (R:=W) (vs:=[_,.string a2.key]) (fun g hg=>Nat.lt_of_lt_of_le (hR.flt g hg) hW.size) (HL.cons (hv0'.step (hR.grow hW).2) (HL.cons (.v _) HL.nil))
  ·intro W v bs q c base ho hl
   obtain⟨f1,f2⟩:=ho.sl N
   have h8:=Bk5 a2.key
   rw[List.length_append] at hl
   exact(Ap1 bs q c (Aa (by unfold Ai;omega) Ab)).bytes (F:=fun g=>CY v=some g) (N:=N) (R:=W) (vs:=[v,.int .i64 q,cV c]) f1 (HL.cons f2 (HL.cons (.v _) (HL.cons (.v _) HL.nil)))
def Apg:List A→Nat→Objs→Option A9
 | [y0,y1,y2],nx,o=>match AQ .bytes y0,Jt .group y1,AQ .row y2 with
  |some (a0,p0),some a1,some (a2,p2)=>some (1,(A2l a0 a1 a2).pk (AC nx),nx+1,AB nx (MI a0 a1 a2)++o,p0++(p2++(Asw a0 a1 a2)))
  |_,_,_=>none
 |_,_,_=>none
theorem Bin:EV Try.prog 79 Apg:=fun args nx o k x nx' o' ps h=>by
 unfold Apg at h
 split at h<;>first|(cases h;done)|skip
 split at h<;>first|(cases h;done)|skip
 rename_i a0 p0 a1 a2 p2 e0 e1 e2
 cases h
 refine⟨fun hp=>?_,_,rfl⟩
 have q0:=fun p hm=>hp p (List.mem_append.2 (.inl hm))
 have r0:=fun p hm=>hp p (List.mem_append.2 (.inr hm))
 have q2:=fun p hm=>r0 p (List.mem_append.2 (.inl hm))
 have r2:=fun p hm=>r0 p (List.mem_append.2 (.inr hm))
 refine Ah (Ag (Bmj a0 a1 a2 r2) (Nat.le_refl _) (Ac (Af _ _) (Ac rfl (Ac (Af _ _) An))) nx o) fun F N R vs hl=>?_
 obtain⟨v0,w0,rfl,h0,hl⟩:=hl.inv
 obtain⟨v1,w1,rfl,h1,hl⟩:=hl.inv
 obtain⟨v2,w2,rfl,h2,hl⟩:=hl.inv
 exact HL.cons (Am e0 q0 h0) (HL.cons (BL e1 h1) (HL.cons (Am e2 q2 h2) (hl)))
noncomputable def B2r:=A7 79 Apg Cl
theorem Bn0:CU Try.prog B2r:=Aw Bin Bdi
def Ay (a0:Int) (a1:Int) (a2:Int):Int:=bif decide (a0 >a2)||decide (a1 >a2)||decide (a0 >IntKind.i64.wrap (a2 - a1)) then IntKind.i64.wrap (a2+(1:Int)) else IntKind.i64.wrap (a0+a1)
def Ano (a0:Int) (a1:Int) (a2:Int):A:=.v (.int .i64 (Ay a0 a1 a2))
def Ann (_a0:Int) (_a1:Int) (_a2:Int):Objs:=[]
def A0h (_a0:Int) (_a1:Int) (_a2:Int):List Prop:=[]
set_option maxRecDepth 100000 in
theorem Bk7 (a0:Int) (a1:Int) (a2:Int):ER (AA B2r L0) 9 111 [Ak .i64 a0,Ak .i64 a1,Ak .i64 a2] 0 []=some (1,Ano a0 a1 a2,0,Ann a0 a1 a2,[]):=by kernel_rfl
set_option maxRecDepth 100000 in
theorem Bre (a0:Int) (a1:Int) (a2:Int) (_hp:∀p∈A0h a0 a1 a2,p):CallOk Try.prog 111 [Ak .i64 a0,Ak .i64 a1,Ak .i64 a2] 0 [] 1 (Ano a0 a1 a2) 0 (Ann a0 a1 a2):=by
 exact AH (Ax Bn0 AG) (Bk7 a0 a1 a2) Ab
def Zx:List A→Nat→Objs→Option A9
 | [y0,y1,y2],nx,o=>match AQ .i64 y0,AQ .i64 y1,AQ .i64 y2 with
  |some (a0,p0),some (a1,p1),some (a2,p2)=>some (1,(Ano a0 a1 a2).pk (AC nx),nx+0,AB nx (Ann a0 a1 a2)++o,p0++(p1++(p2++(A0h a0 a1 a2))))
  |_,_,_=>none
 |_,_,_=>none
theorem Aq0:EV Try.prog 111 Zx:=fun args nx o k x nx' o' ps h=>by
 unfold Zx at h
 split at h<;>first|(cases h;done)|skip
 split at h<;>first|(cases h;done)|skip
 rename_i a0 p0 a1 p1 a2 p2 e0 e1 e2
 cases h
 refine⟨fun hp=>?_,_,rfl⟩
 have q0:=fun p hm=>hp p (List.mem_append.2 (.inl hm))
 have r0:=fun p hm=>hp p (List.mem_append.2 (.inr hm))
 have q1:=fun p hm=>r0 p (List.mem_append.2 (.inl hm))
 have r1:=fun p hm=>r0 p (List.mem_append.2 (.inr hm))
 have q2:=fun p hm=>r1 p (List.mem_append.2 (.inl hm))
 have r2:=fun p hm=>r1 p (List.mem_append.2 (.inr hm))
 refine Ah (Ag (Bre a0 a1 a2 r2) (Nat.le_refl _) (Ac (Af _ _) (Ac (Af _ _) (Ac (Af _ _) An))) nx o) fun F N R vs hl=>?_
 obtain⟨v0,w0,rfl,h0,hl⟩:=hl.inv
 obtain⟨v1,w1,rfl,h1,hl⟩:=hl.inv
 obtain⟨v2,w2,rfl,h2,hl⟩:=hl.inv
 exact HL.cons (Am e0 q0 h0) (HL.cons (Am e1 q1 h1) (HL.cons (Am e2 q2 h2) (hl)))
noncomputable def Bji:=A7 111 Zx B2r
theorem Av8:CU Try.prog Bji:=Aw Aq0 Bn0
theorem Awx {n k m:Int} (hn:0≤n) (hk:0≤k∧k≤9223372036854775807) (hm:0≤m∧m≤1099511627776):(Ay n k m≤m→n+k≤m)∧0≤Ay n k m∧(n+k≤m→Ay n k m=n+k):=by
 unfold Ay
 rw[i64_in (n:=m - k) (by omega),i64_in (n:=m+1) (by omega)]
 by_cases h:n+k≤m
 ·have e:(decide (n >m)||decide (k >m)||decide (n >m - k))=false:=by
   rw[decide_eq_false (by omega),decide_eq_false (by omega),decide_eq_false (by omega)];rfl
  rw[e,cond_false,i64_in (by omega)]
  exact⟨fun _=>h,by omega,fun _=>rfl⟩
 ·have e:(decide (n >m)||decide (k >m)||decide (n >m - k))=true:=by
   rw[decide_eq_true (p:=n >m - k) (by omega),Bool.or_true]
  rw[e,cond_true]
  exact⟨fun h'=>by omega,by omega,fun h'=>absurd h' h⟩
theorem Acl {k:Nat} (h:Av k):(0:Int)≤(k:Int)∧(k:Int)≤9223372036854775807:=by unfold Av at h;omega
abbrev Cr:Type:=(List TRow)×Int×Int×Int
def LE (x:Cr):St:=⟨64,0,[(1,.sl .row x.1),(5,.v (.int .i64 x.2.1)),(6,.v (.int .i64 x.2.2.1)),(7,.v (.int .i64 x.2.2.2))],[]⟩
def Nz:St→Option Cr
 |⟨64,0,[(1,.sl .row z0),(5,.v (.int .i64 z1)),(6,.v (.int .i64 z2)),(7,.v (.int .i64 z3))],[]⟩=>some (z0,z1,z2,z3)
 |_=>none
theorem Ah7:∀s x,Nz s=some x→s=LE x:=fun s x h=>by
 unfold Nz at h
 split at h
 ·cases h;rfl
 ·cases h
def WX:CX:=⟨0,0,[1,5,6,7],[],[],[],[5],[]⟩
def Ayh:Dp:=⟨[],[],[1,5,6,7],[]⟩
def CP (a0:List TRow) (a1:Int) (a2:Int) (a3:Int):Bool:=!!(decide (a3 <(↑(a0.getD a2.toNat (Ae TC.row)).2.length:Int))&&decide (a1≤(5000:Int)))
def Mr (a0:List TRow) (a1:Int) (a2:Int) (a3:Int):Int:=Ay a1 (↑((a0.getD a2.toNat (Ae TC.row)).2.getD a3.toNat (Ae TC.cell)).4.size:Int) (5000:Int)
def Amj (a0:List TRow) (a1:Int) (a2:Int) (a3:Int):Bool:=!(decide (a3 <(↑(a0.getD a2.toNat (Ae TC.row)).2.length:Int))&&decide (a1≤(5000:Int)))
def CR (x:Cr):Cr:=(x.1,Mr x.1 x.2.1 x.2.2.1 x.2.2.2,x.2.2.1,IntKind.i64.wrap (x.2.2.2+(1:Int)))
def CQ (x:Cr):Cnd:=some ((CP x.1 x.2.1 x.2.2.1 x.2.2.2))
def SJ (x:Cr):List Prop:=[((0:Int)≤x.2.2.1∧x.2.2.1 <(↑x.1.length:Int)),((CP x.1 x.2.1 x.2.2.1 x.2.2.2)=true→(0:Int)≤x.2.2.1∧x.2.2.1 <(↑x.1.length:Int)),((CP x.1 x.2.1 x.2.2.1 x.2.2.2)=true→(0:Int)≤x.2.2.2∧x.2.2.2 <(↑(x.1.getD x.2.2.1.toNat (Ae TC.row)).2.length:Int))]
def EN (x:Cr):List Prop:=[((0:Int)≤x.2.2.1∧x.2.2.1 <(↑x.1.length:Int)),((CP x.1 x.2.1 x.2.2.1 x.2.2.2)=true→(0:Int)≤x.2.2.1∧x.2.2.1 <(↑x.1.length:Int)),((CP x.1 x.2.1 x.2.2.1 x.2.2.2)=true→(0:Int)≤x.2.2.2∧x.2.2.2 <(↑(x.1.getD x.2.2.1.toNat (Ae TC.row)).2.length:Int))]
def Qq (x:Cr):Bo:=[(some 2,some (Amj x.1 x.2.1 x.2.2.1 x.2.2.2),⟨64,0,[(5,.v (.int .i64 x.2.1))],[]⟩)]
def DA (x:Cr):Nat:=((↑(x.1.getD x.2.2.1.toNat (Ae TC.row)).2.length:Int) - x.2.2.2).toNat
def Kh (x:Cr):Cr:=Bc CR CQ (DA x) x
set_option maxRecDepth 100000 in
theorem Atp (a0:List TRow) (a1:Int) (a2:Int) (a3:Int):By (AA Bji L0) 9 (Aj Try.prog 60 2) WX (LE (a0,a1,a2,a3))=some (SJ (a0,a1,a2,a3),Qq (a0,a1,a2,a3),CQ (a0,a1,a2,a3),LE (CR (a0,a1,a2,a3))):=by kernel_rfl
set_option maxRecDepth 100000 in
theorem Atq (a0:List TRow) (a1:Int) (a2:Int) (a3:Int) (hp:∀p∈EN (a0,a1,a2,a3),p):∀p∈SJ (a0,a1,a2,a3),p:=by
 have n0:=N0 hp
 have n1:=N0 (N1 hp)
 have n2:=N0 (N1 (N1 hp))
 exact(Aa n0 (Aa n1 (Aa n2 Ab)))
noncomputable def SK:=HF (AA Bji L0) (Aj Try.prog 60 2) WX Ayh Nz DA CR CQ EN Qq
theorem Amk:∀s b ps outs,SK s=some (b,ps,outs)→Wf s ⟨ps,outs,none⟩∧Br (AA C0 L0) b s ps outs:=
 Bh (T:=LE) Av8 AG (u:=9) (by kernel_rfl) (by decide) (fun⟨a0,a1,a2,a3⟩=>Atp a0 a1 a2 a3) (fun⟨a0,a1,a2,a3⟩=>Atq a0 a1 a2 a3) Ah7 (fun _=>AU (n:=64) rfl) fun _ _=>rfl
noncomputable def LD:=Dz 2 SK L0
theorem SI:Hf LD:=A5 Amk AG
abbrev Cp:Type:=(List TRow)×Int×Int
def LC (x:Cp):St:=⟨64,0,[(1,.sl .row x.1),(5,.v (.int .i64 x.2.1)),(6,.v (.int .i64 x.2.2))],[]⟩
def Ny:St→Option Cp
 |⟨64,0,[(1,.sl .row z0),(5,.v (.int .i64 z1)),(6,.v (.int .i64 z2))],[]⟩=>some (z0,z1,z2)
 |_=>none
theorem Ah6:∀s x,Ny s=some x→s=LC x:=fun s x h=>by
 unfold Ny at h
 split at h
 ·cases h;rfl
 ·cases h
def WW:CX:=⟨0,0,[1,5,6],[],[],[],[5],[]⟩
def Ayg:Dp:=⟨[],[],[1,5,6],[]⟩
def Bi (a0:List TRow) (a1:Int) (a2:Int):Bool:=!!(decide (a2 <(↑a0.length:Int))&&decide (a1≤(5000:Int)))
def GP (a0:List TRow) (a1:Int) (a2:Int):Int:=(Kh (a0,Ay (Ay a1 (↑(a0.getD a2.toNat (Ae TC.row)).1.size:Int) (5000:Int)) (↑(a0.getD a2.toNat (Ae TC.row)).2.length:Int) (5000:Int),a2,(0:Int))).snd.fst
def Amh (a0:List TRow) (a1:Int) (a2:Int):Bool:=!(decide (a2 <(↑a0.length:Int))&&decide (a1≤(5000:Int)))
def FR (x:Cp):Cp:=(x.1,GP x.1 x.2.1 x.2.2,IntKind.i64.wrap (x.2.2+(1:Int)))
def FQ (x:Cp):Cnd:=some ((Bi x.1 x.2.1 x.2.2))
def SF (x:Cp):List Prop:=[((Bi x.1 x.2.1 x.2.2)=true→(0:Int)≤x.2.2∧x.2.2 <(↑x.1.length:Int)),((Bi x.1 x.2.1 x.2.2)=true→(0:Int)≤x.2.2∧x.2.2 <(↑x.1.length:Int)),((Bi x.1 x.2.1 x.2.2)=true→Aj Try.prog (60:FuncId) (2:Nat)=Aj Try.prog (60:FuncId) (2:Nat)),((Bi x.1 x.2.1 x.2.2)=true→AK CR CQ EN (DA (x.1,Ay (Ay x.2.1 (↑(x.1.getD x.2.2.toNat (Ae TC.row)).1.size:Int) (5000:Int)) (↑(x.1.getD x.2.2.toNat (Ae TC.row)).2.length:Int) (5000:Int),x.2.2,(0:Int))) (x.1,Ay (Ay x.2.1 (↑(x.1.getD x.2.2.toNat (Ae TC.row)).1.size:Int) (5000:Int)) (↑(x.1.getD x.2.2.toNat (Ae TC.row)).2.length:Int) (5000:Int),x.2.2,(0:Int)))]
def Jb (x:Cp):List Prop:=[((Bi x.1 x.2.1 x.2.2)=true→(0:Int)≤x.2.2∧x.2.2 <(↑x.1.length:Int)),((Bi x.1 x.2.1 x.2.2)=true→AK CR CQ EN (DA (x.1,Ay (Ay x.2.1 (↑(x.1.getD x.2.2.toNat (Ae TC.row)).1.size:Int) (5000:Int)) (↑(x.1.getD x.2.2.toNat (Ae TC.row)).2.length:Int) (5000:Int),x.2.2,(0:Int))) (x.1,Ay (Ay x.2.1 (↑(x.1.getD x.2.2.toNat (Ae TC.row)).1.size:Int) (5000:Int)) (↑(x.1.getD x.2.2.toNat (Ae TC.row)).2.length:Int) (5000:Int),x.2.2,(0:Int)))]
def Qp (x:Cp):Bo:=[(some 0,some (Amh x.1 x.2.1 x.2.2),⟨64,0,[(5,.v (.int .i64 x.2.1))],[]⟩)]
def H0 (x:Cp):Nat:=((↑x.1.length:Int) - x.2.2).toNat
def SH (x:Cp):Cp:=Bc FR FQ (H0 x) x
set_option maxRecDepth 100000 in
theorem Atn (a0:List TRow) (a1:Int) (a2:Int):By (AA Bji LD) 9 (Aj Try.prog 60 0) WW (LC (a0,a1,a2))=some (SF (a0,a1,a2),Qp (a0,a1,a2),FQ (a0,a1,a2),LC (FR (a0,a1,a2))):=by kernel_rfl
set_option maxRecDepth 100000 in
theorem Ato (a0:List TRow) (a1:Int) (a2:Int) (hp:∀p∈Jb (a0,a1,a2),p):∀p∈SF (a0,a1,a2),p:=by
 have n0:((Bi a0 a1 a2)=true→(0:Int)≤a2∧a2 <(↑a0.length:Int)):=N0 hp
 have n2:((Bi a0 a1 a2)=true→Aj Try.prog (60:FuncId) (2:Nat)=Aj Try.prog (60:FuncId) (2:Nat)):=by intros;rfl
 have n3:=N0 (N1 hp)
 exact(Aa n0 (Aa n0 (Aa n2 (Aa n3 Ab))))
noncomputable def SG:=HF (AA Bji LD) (Aj Try.prog 60 0) WW Ayg Ny H0 FR FQ Jb Qp
theorem Ami:∀s b ps outs,SG s=some (b,ps,outs)→Wf s ⟨ps,outs,none⟩∧Br (AA C0 L0) b s ps outs:=
 Bh (T:=LC) Av8 SI (u:=9) (by kernel_rfl) (by decide) (fun⟨a0,a1,a2⟩=>Atn a0 a1 a2) (fun⟨a0,a1,a2⟩=>Ato a0 a1 a2) Ah6 (fun _=>AU (n:=64) rfl) fun _ _=>rfl
noncomputable def WV:=Dz 0 SG LD
theorem Amg:Hf WV:=A5 Ami SI
def Qo (a0:List TGroup) (a1:List TRow):Bool:=decide ((SH (a1,Ay (0:Int) (↑a0.length:Int) (5000:Int),(0:Int))).snd.fst≤(5000:Int))
def Aqf (a0:List TGroup) (a1:List TRow):A:=.v (.bool (Qo a0 a1))
def Aqe (_a0:List TGroup) (_a1:List TRow):Objs:=[]
def Ah9 (a0:List TGroup) (a1:List TRow):List Prop:=[(AK FR FQ Jb (H0 (a1,Ay (0:Int) (↑a0.length:Int) (5000:Int),(0:Int))) (a1,Ay (0:Int) (↑a0.length:Int) (5000:Int),(0:Int)))]
set_option maxRecDepth 100000 in
theorem A9j (a0:List TGroup) (a1:List TRow):ER (AA Bji WV) 9 60 [.sl .group a0,Ak .rows a1] 0 []=some (1,Aqf a0 a1,0,Aqe a0 a1,[(Aj Try.prog (60:FuncId) (0:Nat)=Aj Try.prog (60:FuncId) (0:Nat)),(AK FR FQ Jb (H0 (a1,Ay (0:Int) (↑a0.length:Int) (5000:Int),(0:Int))) (a1,Ay (0:Int) (↑a0.length:Int) (5000:Int),(0:Int)))]):=by kernel_rfl
set_option maxRecDepth 100000 in
theorem Bfz (a0:List TGroup) (a1:List TRow) (hp:∀p∈Ah9 a0 a1,p):CallOk Try.prog 60 [.sl .group a0,Ak .rows a1] 0 [] 1 (Aqf a0 a1) 0 (Aqe a0 a1):=by
 have n1:=N0 hp
 exact AH (Ax Av8 Amg) (A9j a0 a1) (Aa rfl (Aa n1 Ab))
def Aia (a0:List TGroup) (a1:List TRow):A:=.v (.bool (Qo a0 a1))
def Ah8 (_a0:List TGroup) (_a1:List TRow):Objs:=[]
def Aak (a0:List TGroup) (a1:List TRow):List Prop:=[Av a0.length∧Av a1.length∧∀r∈a1,Av r.key.size∧Av r.cells.length∧∀c∈r.cells,Av c.value.size]
def YX (m:Nat) (r:TRow):Prop:=r.key.size≤m∧r.cells.length≤m∧∀c∈r.cells,c.value.size≤m
def Y7 (r:TRow):Prop:=Av r.key.size∧Av r.cells.length∧∀c∈r.cells,Av c.value.size
theorem getD_in {α:Type} (l:List α) (d:α) (i:Nat) (h:i <l.length):l.getD i d∈l:=by
 rw[List.getD_eq_getElem?_getD,List.getElem?_eq_getElem h]
 exact List.getElem_mem h
def nk (cs:List TCell) (n0:Int):Nat→Int
 |0=>n0
 |k+1=>Ay (nk cs n0 k) ((cs.getD k (Ae TC.cell)).4.size:Int) 5000
theorem B1v (cs:List TCell) (n0:Int) (h0:0≤n0) (hw:∀c∈cs,Av c.value.size):∀k,k≤cs.length→0≤nk cs n0 k∧(nk cs n0 k≤5000→n0≤5000∧∀j,j <k→(cs.getD j (Ae TC.cell)).value.size≤5000)
 |0,_=>⟨h0,fun h=>⟨h,fun j hj=>absurd hj (Nat.not_lt_zero _)⟩⟩
 | k+1,hk=>by
  obtain⟨g1,g2⟩:=B1v cs n0 h0 hw k (by omega)
  obtain⟨a1,a2,_⟩:=Awx g1 (Acl (hw _ (getD_in cs (Ae TC.cell) k (by omega)))) (m:=5000) (by omega)
  refine⟨a2,fun h=>?_⟩
  have h':=a1 h
  obtain⟨b1,b2⟩:=g2 (by omega)
  refine⟨b1,fun j hj=>?_⟩
  by_cases e:j <k
  ·exact b2 j e
  ·obtain rfl:j=k:=by omega
   show(cs.getD j (Ae TC.cell)).4.size≤5000
   omega
theorem Bga (rows:List TRow) (i:Nat) (hi:i <rows.length) (n0:Int) (h0:0≤n0) (hl:n0≤5000→(rows.getD i (Ae TC.row)).cells.length≤5000) (hw:∀c∈(rows.getD i (Ae TC.row)).cells,Av c.value.size):
  AK CR CQ EN (DA (rows,n0,(i:Int),0)) (rows,n0,(i:Int),0)∧
  0≤(Kh (rows,n0,(i:Int),0)).snd.fst∧((Kh (rows,n0,(i:Int),0)).snd.fst≤5000→n0≤5000∧∀c∈(rows.getD i (Ae TC.row)).cells,c.value.size≤5000):=by
 generalize hcs:(rows.getD i (Ae TC.row)).cells=cs at*
 have hcs2:(rows.getD i (Ae TC.row)).2=cs:=hcs
 have hgo:∀k:Nat,CP rows (nk cs n0 k) (i:Int) (k:Int)=(decide (k <cs.length)&&!!decide (nk cs n0 k≤5000)):=fun k=>by
  unfold CP
  rw[Int.toNat_natCast,hcs2,nn,nn,Me]
 obtain⟨h1,k,hk,hx,hs,hst,_⟩:=IN (fun k=>((rows,nk cs n0 k,(i:Int),(k:Int)):Cr)) cs.length (fun k=>!decide (nk cs n0 k≤5000)) CR CQ EN (DA (rows,n0,(i:Int),0)) (rows,n0,(i:Int),0) rfl
  (by show cs.length≤(((rows.getD ((i:Int)).toNat (Ae TC.row)).2.length:Int) - 0).toNat;rw[Int.toNat_natCast,hcs2];omega)
  (fun k _ _=>by
   show CP rows (nk cs n0 k) (i:Int) (k:Int)=_
   rw[hgo])
  (fun k hk hs=>by
   have h5:n0≤5000:=by
    have:=hs 0 (Nat.succ_pos k)
    rw[Bool.not_eq_false'] at this
    exact of_decide_eq_true this
   have:=hl h5
   show(rows,Mr rows (nk cs n0 k) (i:Int) (k:Int),(i:Int),IntKind.i64.wrap ((k:Int)+1))=(rows,nk cs n0 (k+1),(i:Int),((k+1:Nat):Int))
   rw[EQ (by omega)]
   unfold Mr
   rw[Int.toNat_natCast,Int.toNat_natCast,hcs2]
   rfl)
  (fun k _ _=>Aa (by show(0:Int)≤(i:Int)∧(i:Int) <(rows.length:Int);omega) (Aa (fun _=>by show(0:Int)≤(i:Int)∧(i:Int) <(rows.length:Int);omega) (Aa (fun h=>by
   have h':CP rows (nk cs n0 k) (i:Int) (k:Int)=true:=h
   rw[hgo,Bool.and_eq_true] at h'
   have:=of_decide_eq_true h'.1
   show(0:Int)≤(k:Int)∧(k:Int) <((rows.getD ((i:Int)).toNat (Ae TC.row)).2.length:Int)
   rw[Int.toNat_natCast,hcs2]
   omega) Ab)))
 have hr:Kh (rows,n0,(i:Int),0)=(rows,nk cs n0 k,(i:Int),(k:Int)):=hx
 obtain⟨g1,g2⟩:=B1v cs n0 h0 hw k hk
 rw[hr]
 refine⟨h1,g1,fun h=>?_⟩
 obtain⟨b1,b2⟩:=g2 h
 refine⟨b1,fun c hc=>?_⟩
 have hkn:k=cs.length:=by
  rcases Nat.lt_or_ge k cs.length with h'|h'
  ·have:=hst h'
   rw[decide_eq_true h] at this
   cases this
  ·omega
 obtain⟨j,hj,rfl⟩:=List.mem_iff_getElem.1 hc
 have:=b2 j (by omega)
 rw[List.getD_eq_getElem?_getD,List.getElem?_eq_getElem hj] at this
 exact this
def nr (rows:List TRow) (n0:Int):Nat→Int
 |0=>n0
 |i+1=>GP rows (nr rows n0 i) (i:Int)
theorem Ayt (rows:List TRow) (i:Nat) (hi:i <rows.length) (n:Int) (hn:0≤n) (hw:Y7 (rows.getD i (Ae TC.row))):
  AK CR CQ EN (DA (rows,Ay (Ay n ((rows.getD i (Ae TC.row)).1.size:Int) 5000) ((rows.getD i (Ae TC.row)).2.length:Int) 5000,(i:Int),0)) (rows,Ay (Ay n ((rows.getD i (Ae TC.row)).1.size:Int) 5000) ((rows.getD i (Ae TC.row)).2.length:Int) 5000,(i:Int),0)∧
  0≤GP rows n (i:Int)∧(GP rows n (i:Int)≤5000→n≤5000∧YX 5000 (rows.getD i (Ae TC.row))):=by
 obtain⟨w1,w2,w3⟩:=hw
 obtain⟨a1,a2,_⟩:=Awx (k:=((rows.getD i (Ae TC.row)).1.size:Int)) hn (Acl w1) (m:=5000) (by omega)
 obtain⟨c1,c2,_⟩:=Awx (k:=((rows.getD i (Ae TC.row)).2.length:Int)) a2 (Acl w2) (m:=5000) (by omega)
 obtain⟨g1,g2,g3⟩:=Bga rows i hi _ c2 (fun h=>by have:=c1 h;show(rows.getD i (Ae TC.row)).2.length≤5000;omega) w3
 unfold GP
 rw[Int.toNat_natCast]
 refine⟨g1,g2,fun h=>?_⟩
 obtain⟨h1,h2⟩:=g3 h
 have q1:=c1 h1
 have q2:=a1 (by omega)
 exact⟨by omega,by show(rows.getD i (Ae TC.row)).1.size≤5000;omega,by show(rows.getD i (Ae TC.row)).2.length≤5000;omega,h2⟩
theorem Bv4 (rows:List TRow) (n0:Int) (h0:0≤n0) (hw:∀r∈rows,Y7 r):∀k,k≤rows.length→0≤nr rows n0 k∧(nr rows n0 k≤5000→n0≤5000∧∀j,j <k→YX 5000 (rows.getD j (Ae TC.row)))
 |0,_=>⟨h0,fun h=>⟨h,fun j hj=>absurd hj (Nat.not_lt_zero _)⟩⟩
 | k+1,hk=>by
  obtain⟨g1,g2⟩:=Bv4 rows n0 h0 hw k (by omega)
  obtain⟨_,a2,a3⟩:=Ayt rows k (by omega) (nr rows n0 k) g1 (hw _ (getD_in rows (Ae TC.row) k (by omega)))
  refine⟨a2,fun h=>?_⟩
  obtain⟨h1,h2⟩:=a3 h
  obtain⟨b1,b2⟩:=g2 h1
  refine⟨b1,fun j hj=>?_⟩
  by_cases e:j <k
  ·exact b2 j e
  ·obtain rfl:j=k:=by omega
   exact h2
theorem Bvo (l:List TGroup) (rows:List TRow) (hl:Av l.length) (hr:Av rows.length) (hw:∀r∈rows,Y7 r):(∀p∈Ah9 l rows,p)∧(Qo l rows=true→l.length≤5000∧∀r∈rows,YX 5000 r):=by
 have hr':=hr
 unfold Av at hr'
 obtain⟨a1,a2,_⟩:=Awx (n:=0) (k:=(l.length:Int)) (Int.le_refl _) (Acl hl) (m:=5000) (by omega)
 generalize hn0:Ay 0 (l.length:Int) 5000=n0 at*
 have hgo:∀k:Nat,Bi rows (nr rows n0 k) (k:Int)=(decide (k <rows.length)&&!!decide (nr rows n0 k≤5000)):=fun k=>by
  unfold Bi
  rw[nn,nn,Me]
 obtain⟨h1,k,hk,hx,hs,hst,_⟩:=IN (fun k=>((rows,nr rows n0 k,(k:Int)):Cp)) rows.length (fun k=>!decide (nr rows n0 k≤5000)) FR FQ Jb (H0 (rows,n0,0)) (rows,n0,0) rfl
  (by show rows.length≤((rows.length:Int) - 0).toNat;omega)
  (fun k _ _=>by
   show Bi rows (nr rows n0 k) (k:Int)=_
   rw[hgo])
  (fun k hk hs=>by
   show(rows,GP rows (nr rows n0 k) (k:Int),IntKind.i64.wrap ((k:Int)+1))=(rows,nr rows n0 (k+1),((k+1:Nat):Int))
   rw[EQ (by omega)]
   rfl)
  (fun k hk _=>by
   have hin:Bi rows (nr rows n0 k) (k:Int)=true→k <rows.length:=fun h=>by
    rw[hgo,Bool.and_eq_true] at h
    exact of_decide_eq_true h.1
   refine Aa (fun h=>?_) (Aa (fun h=>?_) Ab)
   ·have:=hin h
    show(0:Int)≤(k:Int)∧(k:Int) <(rows.length:Int)
    omega
   ·have hk':=hin h
    have:=(Ayt rows k hk' (nr rows n0 k) (Bv4 rows n0 a2 hw k hk).1 (hw _ (getD_in rows (Ae TC.row) k hk'))).1
    have e:((k:Int)).toNat=k:=Int.toNat_natCast k
    show AK CR CQ EN (DA (rows,Ay (Ay (nr rows n0 k) ((rows.getD ((k:Int)).toNat (Ae TC.row)).1.size:Int) 5000) ((rows.getD ((k:Int)).toNat (Ae TC.row)).2.length:Int) 5000,(k:Int),0)) (rows,Ay (Ay (nr rows n0 k) ((rows.getD ((k:Int)).toNat (Ae TC.row)).1.size:Int) 5000) ((rows.getD ((k:Int)).toNat (Ae TC.row)).2.length:Int) 5000,(k:Int),0)
    rw[e]
    exact this)
 have hrun:SH (rows,n0,0)=(rows,nr rows n0 k,(k:Int)):=hx
 refine⟨Aa (by rw[hn0];exact h1) Ab,fun h=>?_⟩
 unfold Qo at h
 rw[hn0,hrun] at h
 have h5:nr rows n0 k≤5000:=of_decide_eq_true h
 obtain⟨b1,b2⟩:=(Bv4 rows n0 a2 hw k hk).2 h5
 have hkn:k=rows.length:=by
  rcases Nat.lt_or_ge k rows.length with h'|h'
  ·have:=hst h'
   rw[decide_eq_true h5] at this
   cases this
  ·omega
 refine⟨by have:=a1 b1;omega,fun r hr=>?_⟩
 obtain⟨j,hj,rfl⟩:=List.mem_iff_getElem.1 hr
 have:=b2 j (by omega)
 rw[List.getD_eq_getElem?_getD,List.getElem?_eq_getElem hj] at this
 exact this
theorem A9i (a0:List TGroup) (a1:List TRow) (hp:∀p∈Aak a0 a1,p):CallOk Try.prog 60 [.sl .group a0,Ak .rows a1] 0 [] 1 (Aia a0 a1) 0 (Ah8 a0 a1):=by
 obtain⟨h1,h2,h3⟩:=hp _ (List.mem_cons_self ..)
 exact Bfz a0 a1 (Bvo a0 a1 h1 h2 h3).1
def Qr:List A→Nat→Objs→Option A9
 | [y0,y1],nx,o=>match Jt .group y0,AQ .rows y1 with
  |some a0,some (a1,p1)=>some (1,(Aia a0 a1).pk (AC nx),nx+0,AB nx (Ah8 a0 a1)++o,p1++(Aak a0 a1))
  |_,_=>none
 |_,_,_=>none
theorem Aal:EV Try.prog 60 Qr:=fun args nx o k x nx' o' ps h=>by
 unfold Qr at h
 split at h<;>first|(cases h;done)|skip
 split at h<;>first|(cases h;done)|skip
 rename_i a0 a1 p1 e0 e1
 cases h
 refine⟨fun hp=>?_,_,rfl⟩
 have q1:=fun p hm=>hp p (List.mem_append.2 (.inl hm))
 have r1:=fun p hm=>hp p (List.mem_append.2 (.inr hm))
 refine Ah (Ag (A9i a0 a1 r1) (Nat.le_refl _) (Ac rfl (Ac (Af _ _) An)) nx o) fun F N R vs hl=>?_
 obtain⟨v0,w0,rfl,h0,hl⟩:=hl.inv
 obtain⟨v1,w1,rfl,h1,hl⟩:=hl.inv
 exact HL.cons (BL e0 h0) (HL.cons (Am e1 q1 h1) (hl))
noncomputable def B2s:=A7 60 Qr Bji
theorem Bn1:CU Try.prog B2s:=Aw Aal Av8
def A9l:ByteArray:=ByteArray.mk #[(97:UInt8)]
def A9m:ByteArray:=ByteArray.mk #[(98:UInt8)]
def Ub:A:=.sq 0
def Ua:Objs:=[(0,some (.arr 79 2 (.lst [[.v (.string A9l),.v (.int .i64 ((1:Int)))],[.v (.string A9m),.v (.int .i64 ((2:Int)))]])))]
def Aam:List Prop:=[]
set_option maxRecDepth 100000 in
theorem A3s:ER (AA B2s L0) 9 127 [] 0 []=some (1,Ub,1,Ua,[]):=by kernel_rfl
set_option maxRecDepth 100000 in
theorem A9n (_hp:∀p∈Aam,p):CallOk Try.prog 127 [] 0 [] 1 (Ub) 1 (Ua):=by
 exact AH (Ax Bn1 AG) (A3s) Ab
def Uc:List A→Nat→Objs→Option A9
 | [],nx,o=>some (1,(Ub).pk (AC nx),nx+1,AB nx (Ua)++o,Aam)
 |_,_,_=>none
theorem Ayi:EV Try.prog 127 Uc:=fun args nx o k x nx' o' ps h=>by
 unfold Uc at h
 split at h<;>first|(cases h;done)|skip
 cases h
 refine⟨fun hp=>?_,_,rfl⟩
 refine Ah (Ag (A9n hp) (Nat.le_refl _) An nx o) fun F N R vs hl=>?_
 exact hl
noncomputable def B4b:=A7 127 Uc B2s
theorem Byh:CU Try.prog B4b:=Aw Ayi Bn1
def WZ:A:=.v (.bool (true))
def WY:Objs:=[]
def Aib:List Prop:=[]
set_option maxRecDepth 100000 in
theorem A9k:ER (AA B4b L0) 1040 61 [] 0 []=some (1,WZ,0,WY,[(Ai (2:Nat)),(true=true→Ai (2:Nat)),(true=true→Ai (1024:Nat)),(false=false),(true=true→false=false),(false=false),(true=true→false=false),(false=false),(true=true→false=false),(false=false)]):=by kernel_rfl
set_option maxRecDepth 100000 in
theorem Bf0 (_hp:∀p∈Aib,p):CallOk Try.prog 61 [] 0 [] 1 (WZ) 0 (WY):=by
 have n0:(Ai (2:Nat)):=by first|rfl|decide+kernel
 have n1:(true=true→Ai (2:Nat)):=by first|rfl|decide+kernel
 have n2:(true=true→Ai (1024:Nat)):=by first|rfl|decide+kernel
 have n3:(false=false):=by first|rfl|decide+kernel
 have n4:(true=true→false=false):=by first|rfl|decide+kernel
 exact AH (Ax Byh AG) (A9k) (Aa n0 (Aa n1 (Aa n2 (Aa n3 (Aa n4 (Aa n3 (Aa n4 (Aa n3 (Aa n4 (Aa n3 Ab))))))))))
def W0:List A→Nat→Objs→Option A9
 | [],nx,o=>some (1,(WZ).pk (AC nx),nx+0,AB nx (WY)++o,Aib)
 |_,_,_=>none
theorem A3r:EV Try.prog 61 W0:=fun args nx o k x nx' o' ps h=>by
 unfold W0 at h
 split at h<;>first|(cases h;done)|skip
 cases h
 refine⟨fun hp=>?_,_,rfl⟩
 refine Ah (Ag (Bf0 hp) (Nat.le_refl _) An nx o) fun F N R vs hl=>?_
 exact hl
end Go.Proofs.Yteebobbhhgmeiaa
namespace Go.Proofs.Yteebobbhhgmeiaa
open Go.RowKit
def Ii (a b:ByteArray):Bool:=Op.bytesLess a.toList b.toList
theorem TQ:∀x:List UInt8,Op.bytesLess x x=false
 | []=>rfl
 |a::x=>by
  unfold Op.bytesLess
  rw[TQ x]
  simp
theorem Apt:∀{x y z:List UInt8},Op.bytesLess x y=true→Op.bytesLess y z=true→Op.bytesLess x z=true
 |x,[],_,h,_=>by cases x<;>cases h
 |_,_::_,[],_,h=>by cases h
 | [],_::_,_::_,_,_=>rfl
 |a::x,b::y,c::z,h,g=>by
  unfold Op.bytesLess at*
  simp only[Bool.or_eq_true,decide_eq_true_eq,Bool.and_eq_true,beq_iff_eq] at*
  rcases h with h|⟨rfl,h⟩<;>rcases g with g|⟨rfl,g⟩
  ·exact .inl (UInt8.lt_trans h g)
  ·exact .inl h
  ·exact .inl g
  ·exact .inr ⟨rfl,Apt h g⟩
theorem Aps:∀{x y:List UInt8},Op.bytesLess x y=false→x≠y→Op.bytesLess y x=true
 | [],[],_,h=>absurd rfl h
 | [],_::_,h,_=>by cases h
 |_::_,[],_,_=>rfl
 | a::x,b::y,h,g=>by
  unfold Op.bytesLess at*
  simp only[Bool.or_eq_true,Bool.or_eq_false_iff,decide_eq_true_eq,decide_eq_false_iff_not,Bool.and_eq_true,beq_iff_eq] at*
  obtain⟨h1,h2⟩:=h
  by_cases e:a=b
  ·subst e
   refine .inr ⟨rfl,Aps (by simpa using h2) fun e=>g (by rw[e])⟩
  ·left
   have h1':¬a.toNat <b.toNat:=h1
   have h3:a.toNat≠b.toNat:=fun h=>e (UInt8.toNat_inj.1 h)
   show b.toNat <a.toNat
   omega
theorem Kl {a b c:ByteArray} (h:Ii a b=true) (g:Ii b c=true):Ii a c=true:=Apt h g
theorem O6 {a b:ByteArray} (h:Ii a b=true):a≠b:=by
 rintro rfl
 unfold Ii at h
 rw[TQ] at h
 cases h
theorem Ov {a b:ByteArray} (h:Ii a b=false) (g:a≠b):Ii b a=true:=by
 refine Aps h fun e=>g ?_
 have:(a.toList==b.toList)=true:=beq_iff_eq.2 e
 rw[tlb] at this
 exact eq_of_beq this
def Adx (l:List TGroup) (i:Nat):Int:=(l.getD i (Ae TC.group)).policy
def Ig (cs:List TCell) (i:Nat):TCell:=cs.getD i (Ae TC.cell)
def B5 (rows:List TRow) (i:Nat):TRow:=rows.getD i (Ae TC.row)
def O5 (rows:List TRow):Nat→ByteArray
 |0=>⟨#[]⟩
 |i+1=>(B5 rows i).key
def leS (a b:ByteArray):Bool:=Ii a b||a==b
def V7 (l:List TGroup) (rows:List TRow) (i:Nat):Int:=bif Ap l (B5 rows i) !=0 then Ap l (B5 rows i) else bif Bu (B5 rows i)||leS (B5 rows i).key (O5 rows i) then 100 else 0
def GB (l:List TGroup) (rows:List TRow):Nat→Int
 |0=>0
 |i+1=>bif GB l rows i !=0 then GB l rows i else V7 l rows i
def Fy (l:List TGroup) (rows:List TRow):Int:=bif AX l !=0 then AX l else GB l rows rows.length
theorem Ahw (l:List TGroup) (rows:List TRow):∀n,GB l rows n=0↔∀i,i <n→V7 l rows i=0
 |0=>⟨fun _ i h=>absurd h (Nat.not_lt_zero _),fun _=>rfl⟩
 | n +1=>by
  have ih:=Ahw l rows n
  unfold GB
  cases h:GB l rows n !=0 with
  |true=>
   rw[cond_true]
   have h':GB l rows n≠0:=by simpa using h
   exact⟨fun e=>absurd e h',fun e=>absurd (ih.2 fun i hi=>e i (by omega)) h'⟩
  | false=>
   rw[cond_false]
   have h':GB l rows n=0:=by simpa using h
   constructor
   ·intro e i hi
    rcases Nat.lt_or_ge i n with g|g
    ·exact ih.1 h' i g
    ·obtain rfl:i=n:=by omega
     exact e
   ·intro e
    exact e n (Nat.lt_succ_self n)
theorem WK {l:List TGroup} {rows:List TRow} {k:Nat} (h:GB l rows k≠0):∀n,k≤n→GB l rows n=GB l rows k
 |0,hn=>by
  obtain rfl:k=0:=by omega
  rfl
 | n+1,hn=>by
  rcases Nat.lt_or_ge n k with g|g
  ·obtain rfl:k=n+1:=by omega
   rfl
  ·have ih:=WK h n g
   have hb:(GB l rows k !=0)=true:=by simpa using h
   show(bif GB l rows n !=0 then GB l rows n else _)=_
   rw[ih,hb,cond_true]
theorem Awd {l:List TGroup} {rows:List TRow}:Fy l rows=0↔AX l=0∧∀i,i <rows.length→V7 l rows i=0:=by
 unfold Fy
 cases h:AX l !=0 with
 |true=>
  rw[cond_true]
  have h':AX l≠0:=by simpa using h
  exact⟨fun e=>absurd e h',fun e=>absurd e.1 h'⟩
 |false=>
  rw[cond_false,Ahw]
  have h':AX l=0:=by simpa using h
  exact⟨fun e=>⟨h',e⟩,fun e=>e.2⟩
theorem Bkb {l:List TGroup} {rows:List TRow} {i:Nat}:V7 l rows i=0↔Ap l (B5 rows i)=0∧Bu (B5 rows i)=false∧leS (B5 rows i).key (O5 rows i)=false:=by
 unfold V7
 cases h:Ap l (B5 rows i) !=0 with
 |true=>
  rw[cond_true]
  have h':Ap l (B5 rows i)≠0:=by simpa using h
  exact⟨fun e=>absurd e h',fun e=>absurd e.1 h'⟩
 |false=>
  rw[cond_false]
  have h':Ap l (B5 rows i)=0:=by simpa using h
  cases Bu (B5 rows i)<;>cases leS (B5 rows i).key (O5 rows i)<;>simp[h']
def Js (rows:List TRow):Prop:=rows.Pairwise fun a b=>Ii a.key b.key=true
theorem TB {rows:List TRow} {i:Nat} (h:i <rows.length):B5 rows i=rows[i]:=by
 unfold B5
 rw[List.getD_eq_getElem?_getD,List.getElem?_eq_getElem h]
 rfl
theorem B0b {l:List TGroup} {rows:List TRow} (h:∀i,i <rows.length→V7 l rows i=0):Js rows:=by
 unfold Js
 rw[List.pairwise_iff_getElem]
 have step:∀i,i+1 <rows.length→Ii (B5 rows i).key (B5 rows (i+1)).key=true:=fun i hi=>by
  have:=(Bkb.1 (h (i+1) hi)).2.2
  have h2:leS (B5 rows (i+1)).key (B5 rows i).key=false:=this
  unfold leS at h2
  obtain⟨h3,h4⟩:=Bool.or_eq_false_iff.1 h2
  exact Ov h3 (by simpa using h4)
 have far:∀d i,i+d+1 <rows.length→Ii (B5 rows i).key (B5 rows (i+d+1)).key=true:=fun d=>by
  induction d with
  |zero=>intro i hi;exact step i hi
  |succ d ih=>intro i hi;exact Kl (ih i (by omega)) (step (i+d+1) (by omega))
 intro i j hi hj hij
 have:=far (j - i - 1) i (by omega)
 rw[show i+(j - i - 1)+1=j by omega,TB hi,TB hj] at this
 exact this
theorem A83 {l:List TGroup} {rows:List TRow} (hp:AX l=0) (hg:∀r∈rows,Ap l r=0∧Bu r=false) (hr:Js rows):Fy l rows=0:=by
 refine Awd.2 ⟨hp,fun i hi=>Bkb.2 ?_⟩
 have hm:B5 rows i∈rows:=by rw[TB hi];exact List.getElem_mem hi
 obtain⟨g1,g2⟩:=hg _ hm
 refine⟨g1,g2,?_⟩
 unfold leS
 cases i with
 | zero=>
  have hk:(B5 rows 0).key.size≠0:=(AT g1).2.2.1
  rw[Bool.or_eq_false_iff]
  constructor
  ·show Op.bytesLess (B5 rows 0).key.toList (ByteArray.mk #[]).toList=false
   rw[show(ByteArray.mk #[]).toList=[] by decide+kernel]
   cases(B5 rows 0).key.toList<;>rfl
  ·refine beq_eq_false_iff_ne.2 fun e=>hk ?_
   rw[e]
   rfl
 | succ i=>
  have hlt:Ii (B5 rows i).key (B5 rows (i+1)).key=true:=by
   rw[TB hi,TB (show i <rows.length by omega)]
   exact List.pairwise_iff_getElem.1 hr i (i+1) _ _ (by omega)
  rw[Bool.or_eq_false_iff]
  constructor
  ·cases h:Ii (B5 rows (i+1)).key (O5 rows (i+1)) with
   |false=>rfl
   |true=>exact absurd rfl (O6 (Kl hlt h))
  ·exact beq_eq_false_iff_ne.2 fun e=>O6 hlt e.symm
def B3o (p:Int) (st:TVec) (c:TCell):Bool:=!eqC c zeroC&&(BC p c&&(Be4 st (Adg c)&&!TI p c))
theorem Ax3 {l:List TGroup} {r:TRow} (h1:AX l=0) (h2:r.key.size≠0) (h3:r.key.size≤32) (h4:r.cells.length=l.length) (h5:(l.zip r.cells).all (fun x=>BC x.1.policy x.2)=true):Ap l r=0:=by
 unfold Ap
 have g1:(AX l !=0)=false:=by rw[h1];rfl
 have g2:(r.key.size==0)=false:=by simpa using h2
 have g4:(r.cells.length !=l.length)=false:=by rw[h4];simp
 rw[g1,g2,decide_eq_false (by omega),g4,h5]
 rfl
theorem A82 {l:List TGroup} {cs:List TCell} (hl:cs.length=l.length):(l.zip cs).all (fun x=>BC x.1.policy x.2)=true↔∀i,i <l.length→BC (Adx l i) (Ig cs i)=true:=by
 rw[B1z l cs (Ae TC.group) (Ae TC.cell) (fun g c=>BC g.policy c) hl,Il]
 exact Iff.rfl
end Go.Proofs.Yteebobbhhgmeiaa
namespace Go.Proofs.Yteebobbhhgmeiaa
open Go.RowKit
def Lex (r e s:Prop):Prop:=r∨(e∧s)
theorem S1 {r1 r2 r3 e1 e2 e3 s1 s2 s3:Prop} (hr:r1→r2→r3) (hre:r1→e2→r3) (her:e1→r2→r3) (hee:e1→e2→e3) (hs:s1→s2→s3):Lex r1 e1 s1→Lex r2 e2 s2→Lex r3 e3 s3
 | .inl a,.inl b=> .inl (hr a b)
 | .inl a,.inr b=> .inl (hre a b.1)
 | .inr a,.inl b=> .inl (her a.1 b)
 | .inr a,.inr b=> .inr ⟨hee a.1 b.1,hs a.2 b.2⟩
theorem S0 {r1 r2 e1 e2 s1 s2 t e:Prop} (h:r1∨e∨r2) (h1:e→e1) (h2:e→e2) (hs:s1∨t∨s2):Lex r1 e1 s1∨(e∧t)∨Lex r2 e2 s2:=by
 rcases h with h|h|h
 ·exact .inl (.inl h)
 ·rcases hs with g|g|g
  ·exact .inl (.inr ⟨h1 h,g⟩)
  ·exact .inr (.inl ⟨h,g⟩)
  ·exact .inr (.inr (.inr ⟨h2 h,g⟩))
 ·exact .inr (.inr (.inl h))
def UV (a b:TCell):Prop:=
 Lex (a.stamp.n <b.stamp.n) (a.stamp.n=b.stamp.n) (Lex (a.stamp.site <b.stamp.site) (a.stamp.site=b.stamp.site) (Lex (a.gone=false∧b.gone=true) (a.gone=b.gone) (Lex (Ii a.value b.value=true) (a.value=b.value) (Lex (a.vec.a <b.vec.a) (a.vec.a=b.vec.a) (a.vec.b <b.vec.b)))))
theorem Adi {a b c:TCell}:UV a b→UV b c→UV a c:=
 S1 (by omega) (by omega) (by omega) (by omega) (S1 (by omega) (by omega) (by omega) (by omega)
  (S1 (fun h g=>by rw[h.2] at g;exact absurd g.1 (by decide)) (fun h g=>⟨h.1,g▸h.2⟩) (fun h g=>⟨h▸g.1,g.2⟩) (fun h g=>h.trans g)
   (S1 Kl (fun h g=>g▸h) (fun h g=>h▸g) (fun h g=>h.trans g) (S1 (by omega) (by omega) (by omega) (by omega) (by omega)))))
theorem Bf6 {a:TCell} (h:UV a a):False:=by
 rcases h with h|⟨_,h|⟨_,h|⟨_,h|⟨_,h|⟨_,h⟩⟩⟩⟩⟩
 ·omega
 ·omega
 ·rw[h.1] at h;exact absurd h.2 (by decide)
 ·exact O6 h rfl
 ·omega
 ·omega
def B1x (a b:TCell):Prop:=a.stamp.n=b.stamp.n∧a.stamp.site=b.stamp.site∧a.gone=b.gone∧a.value=b.value∧a.vec.a=b.vec.a∧a.vec.b=b.vec.b
theorem Ayq (a b:TCell):UV a b∨B1x a b∨UV b a:=by
 refine S0 (by omega) id Eq.symm (S0 (by omega) id Eq.symm (S0 ?_ id Eq.symm (S0 ?_ id Eq.symm (S0 (by omega) id Eq.symm (by omega)))))
 ·cases a.gone<;>cases b.gone<;>simp
 ·by_cases h:a.value=b.value
  ·exact .inr (.inl h)
  ·cases h1:Ii a.value b.value with
   |true=>exact .inl rfl
   |false=>exact .inr (.inr (Ov h1 h))
def JR (a b:TCell):Bool:=
 bif !(a.stamp.n==b.stamp.n&&a.stamp.site==b.stamp.site) then decide (a.stamp.n <b.stamp.n)||(a.stamp.n==b.stamp.n&&decide (a.stamp.site <b.stamp.site))
 else bif a.gone !=b.gone then b.gone
 else bif !(a.value==b.value) then Ii a.value b.value
 else bif a.vec.a !=b.vec.a then decide (a.vec.a <b.vec.a)
 else decide (a.vec.b <b.vec.b)
theorem A6s {a b:TCell}:JR a b=true↔UV a b:=by
 unfold JR UV Lex
 by_cases h1:a.stamp.n=b.stamp.n
 ·by_cases h2:a.stamp.site=b.stamp.site
  ·have e:(a.stamp.n==b.stamp.n&&a.stamp.site==b.stamp.site)=true:=by rw[h1,h2];simp
   rw[e,Bool.not_true,cond_false]
   simp only[h1,h2,false_or,true_and,Int.lt_irrefl]
   by_cases h3:a.gone=b.gone
   ·have e3:(a.gone !=b.gone)=false:=by rw[h3];simp
    have n3:¬(a.gone=false∧b.gone=true):=by rw[h3];rintro⟨x,y⟩;rw[x] at y;cases y
    rw[e3,cond_false]
    have n3':¬(b.gone=false∧b.gone=true):=by rintro⟨x,y⟩;rw[x] at y;cases y
    simp only[h3,n3',false_or,true_and]
    by_cases h4:a.value=b.value
    ·have e4:(a.value==b.value)=true:=beq_iff_eq.2 h4
     rw[e4,Bool.not_true,cond_false]
     simp only[h4,true_and]
     have n4':¬Ii b.value b.value=true:=fun h=>O6 h rfl
     simp only[n4',Bool.false_eq_true,false_or]
     by_cases h5:a.vec.a=b.vec.a
     ·have e5:(a.vec.a !=b.vec.a)=false:=by rw[h5];simp
      rw[e5,cond_false,decide_eq_true_eq]
      omega
     ·have e5:(a.vec.a !=b.vec.a)=true:=by simpa using h5
      rw[e5,cond_true,decide_eq_true_eq]
      omega
    ·have e4:(a.value==b.value)=false:=beq_eq_false_iff_ne.2 h4
     rw[e4,Bool.not_false,cond_true]
     simp only[h4,false_and,or_false]
   ·have e3:(a.gone !=b.gone)=true:=by simpa using h3
    rw[e3,cond_true]
    simp only[h3,false_and,or_false]
    revert h3
    cases a.gone<;>cases b.gone<;>simp
  ·have e:(a.stamp.n==b.stamp.n&&a.stamp.site==b.stamp.site)=false:=by rw[beq_eq_false_iff_ne.2 h2,Bool.and_false]
   rw[e,Bool.not_false,cond_true]
   simp[h1,h2]
 ·have e:(a.stamp.n==b.stamp.n&&a.stamp.site==b.stamp.site)=false:=by rw[beq_eq_false_iff_ne.2 h1,Bool.false_and]
  rw[e,Bool.not_false,cond_true]
  simp[h1]
def H1 (a b:TCell):TCell:=bif JR a b then b else a
def Kv (a b:TCell):TCell:=⟨(H1 a b).stamp,(H1 a b).vec,(H1 a b).gone,(H1 a b).value,Nr a.dead b.dead⟩
def Oo (a:TCell):TCell:=⟨a.stamp,a.vec,a.gone,a.value,⟨0,0⟩⟩
theorem Bcw {a b:TCell} (h:B1x a b):Oo a=Oo b:=by
 obtain⟨⟨an,asi⟩,⟨ava,avb⟩,ag,av,ad⟩:=a
 obtain⟨⟨bn,bsi⟩,⟨bva,bvb⟩,bg,bv,bd⟩:=b
 obtain⟨h1,h2,h3,h4,h5,h6⟩:=h
 simp only at h1 h2 h3 h4 h5 h6
 subst h1 h2 h3 h4 h5 h6
 rfl
def mkC (w:TCell) (d:TVec):TCell:=⟨w.stamp,w.vec,w.gone,w.value,d⟩
theorem A24 (a b:TCell):Kv a b=mkC (Oo (H1 a b)) (Nr a.dead b.dead):=rfl
theorem Bf7 {a b:TCell}:UV a (Oo b)↔UV a b:=Iff.rfl
theorem Jl (a b:TCell):(UV a b∧H1 a b=b)∨(¬UV a b∧H1 a b=a):=by
 unfold H1
 cases h:JR a b with
 |true=>exact .inl ⟨A6s.1 h,rfl⟩
 |false=>exact .inr ⟨fun g=>(by rw[A6s.2 g] at h;cases h),rfl⟩
theorem Bvt (a b:TCell):Oo (H1 a b)=Oo (H1 b a):=by
 rcases Jl a b with⟨h,e⟩|⟨h,e⟩<;>rcases Jl b a with⟨g,f⟩|⟨g,f⟩<;>rw[e,f]
 ·exact(Bf6 (Adi h g)).elim
 ·rcases Ayq a b with q|q|q
  ·exact absurd q h
  ·exact Bcw q
  ·exact absurd q g
theorem Am0 (a b:TCell):Oo (H1 a b)=H1 (Oo a) (Oo b):=by
 have:JR (Oo a) (Oo b)=JR a b:=rfl
 unfold H1
 rw[this]
 cases JR a b<;>rfl
theorem max_assoc (a b c:TCell):Oo (H1 (H1 a b) c)=Oo (H1 a (H1 b c)):=by
 rcases Jl a b with⟨h,e⟩|⟨h,e⟩<;>rcases Jl b c with⟨g,f⟩|⟨g,f⟩
 ·rw[e,f]
  rcases Jl a c with⟨_,q⟩|⟨r,_⟩
  ·rw[q]
  ·exact absurd (Adi h g) r
 ·rw[e,f,e]
 ·rw[e,f]
 ·rw[e,f,e]
  rcases Jl a c with⟨r,q⟩|⟨_,q⟩
  ·rcases Ayq b c with t|t|t
   ·exact absurd t g
   ·have:=Bcw t
    rw[←Bf7 (b:=c),←this] at r
    exact absurd (Bf7.1 r) h
   ·exact absurd (Adi r t) h
  ·rw[q]
theorem Bse (a b:TVec):Nr a b=Nr b a:=by
 unfold Nr
 congr 1<;>omega
theorem Bm5 (a b c:TVec):Nr (Nr a b) c=Nr a (Nr b c):=by
 unfold Nr
 congr 1<;>simp only<;>omega
theorem Bxr (a b:TCell):Kv a b=Kv b a:=by
 rw[A24,A24 b a,Bvt,Bse]
theorem Bxu (a b:TCell):Oo (Kv a b)=Oo (H1 a b):=rfl
theorem Bsb (a b c:TCell):Kv (Kv a b) c=Kv a (Kv b c):=by
 have l:Oo (H1 (Kv a b) c)=Oo (H1 (H1 a b) c):=by rw[Am0,Am0 (H1 a b) c,Bxu]
 have r:Oo (H1 a (Kv b c))=Oo (H1 a (H1 b c)):=by rw[Am0,Am0 a (H1 b c),Bxu]
 have h:=l.trans ((max_assoc a b c).trans r.symm)
 show mkC (Oo (H1 (Kv a b) c)) (Nr (Nr a.dead b.dead) c.dead)=mkC (Oo (H1 a (Kv b c))) (Nr a.dead (Nr b.dead c.dead))
 rw[h,Bm5]
theorem Bvu (a:TCell):H1 a a=a:=by
 rcases Jl a a with⟨_,e⟩|⟨_,e⟩<;>exact e
def Bje (c:TCell):Bool:=bif !CD c then true else Ih c.stamp&&decide (0 <c.stamp.n)&&CO c.vec&&decide ((c.value.size:Int)≤64)&&!(c.gone&&!(c.value.size==0))
theorem Ax1 {p:Int} {c:TCell}:BC p c=true↔((p=1∧c.dead=⟨0,0⟩)∨(p=2∧c.gone=false∧CO c.dead=true))∧Bje c=true:=by
 unfold BC
 show(bif p==1&&!HE c.dead||(p==2&&(c.gone||!CO c.dead)||!(p==1||p==2)) then false else Bje c)=true↔_
 by_cases h1:p=1
 ·subst h1
  have e:((1:Int)==1&&!HE c.dead||((1:Int)==2&&(c.gone||!CO c.dead)||!((1:Int)==1||(1:Int)==2)))=!HE c.dead:=by
   cases HE c.dead<;>rfl
  rw[e,←A7t]
  cases HE c.dead<;>simp
 ·by_cases h2:p=2
  ·subst h2
   have e:((2:Int)==1&&!HE c.dead||((2:Int)==2&&(c.gone||!CO c.dead)||!((2:Int)==1||(2:Int)==2)))=(c.gone||!CO c.dead):=by
    cases c.gone<;>cases CO c.dead<;>rfl
   rw[e]
   cases c.gone<;>cases CO c.dead<;>simp
  ·have e1:(p==1)=false:=beq_eq_false_iff_ne.2 h1
   have e2:(p==2)=false:=beq_eq_false_iff_ne.2 h2
   rw[e1,e2]
   simp[h1,h2]
theorem Bsf {a b:TVec} (h:CO a=true) (g:CO b=true):CO (Nr a b)=true:=by
 unfold CO Nr at*
 simp only[Bool.and_eq_true,decide_eq_true_eq] at*
 omega
theorem Bsg {a:TVec} (h:CO a=true):Nr a a=a:=by
 unfold CO at h
 unfold Nr
 simp only[Bool.and_eq_true,decide_eq_true_eq] at h
 exact Bcs (by show max (max 0 a.a) a.a=a.a;omega) (by show max (max 0 a.b) a.b=a.b;omega)
theorem Bxs {p:Int} {a b:TCell} (h:BC p a=true) (g:BC p b=true):BC p (Kv a b)=true:=by
 rw[Ax1] at h g⊢
 obtain⟨h1,h2⟩:=h
 obtain⟨g1,g2⟩:=g
 have hw:Bje (Kv a b)=true:=by
  show Bje (H1 a b)=true
  rcases Jl a b with⟨_,e⟩|⟨_,e⟩<;>rw[e]
  ·exact g2
  ·exact h2
 refine⟨?_,hw⟩
 rcases h1 with⟨hp,h1⟩|⟨hp,h1,h3⟩
 ·rcases g1 with⟨_,g1⟩|⟨gp,_⟩
  ·refine .inl ⟨hp,?_⟩
   show Nr a.dead b.dead=_
   rw[h1,g1]
   rfl
  ·omega
 ·rcases g1 with⟨gp,_⟩|⟨_,g1,g3⟩
  ·omega
  ·refine .inr ⟨hp,?_,Bsf h3 g3⟩
   show(H1 a b).gone=false
   rcases Jl a b with⟨_,e⟩|⟨_,e⟩<;>rw[e]
   ·exact g1
   ·exact h1
theorem A6g {p:Int} {a:TCell} (h:BC p a=true):CO a.dead=true:=by
 rcases(Ax1.1 h).1 with⟨_,h1⟩|⟨_,_,h1⟩
 ·rw[h1];rfl
 ·exact h1
theorem Bxt {p:Int} {a:TCell} (h:BC p a=true):Kv a a=a:=by
 rw[A24,Bvu,Bsg (A6g h)]
 rfl
theorem Bge {p:Int} {a:TCell} (h:BC p a=true):Oo (H1 zeroC a)=Oo a:=by
 rcases Jl zeroC a with⟨_,e⟩|⟨q,e⟩
 ·rw[e]
 ·rw[e]
  have hw:=(Ax1.1 h).2
  cases hwr:CD a with
  |true=>
   unfold Bje at hw
   rw[hwr] at hw
   simp only[Bool.not_true,cond_false,Bool.and_eq_true,decide_eq_true_eq] at hw
   exact absurd (.inl hw.1.1.1.2) q
  |false=>
   unfold CD at hwr
   simp only[Bool.not_eq_false',Bool.and_eq_true,beq_iff_eq,Bool.not_eq_true'] at hwr
   obtain⟨⟨⟨h1,h2⟩,h3,h4⟩,h5,h6⟩:=hwr
   exact Bcw ⟨h1.symm,h2.symm,h5.symm,(B5e h6).symm,h3.symm,h4.symm⟩
def LB (a b:TCell):TCell:=mkC (Oo (H1 (H1 zeroC a) b)) (Nr a.dead b.dead)
theorem A6r {p:Int} {a b:TCell} (h:BC p a=true):LB a b=Kv a b:=by
 unfold LB
 rw[A24,Am0 (H1 zeroC a),Bge h,←Am0]
def jnN (us ws:List TCell):Nat→List TCell
 |0=>us
 |i+1=>(jnN us ws i).set i (LB (Ig (jnN us ws i) i) (Ig ws i))
theorem Zo (us ws:List TCell):∀i,(jnN us ws i).length=us.length
 |0=>rfl
 |i+1=>by
  unfold jnN
  rw[List.length_set,Zo us ws i]
theorem Bkk (us ws:List TCell) (j:Nat) (hj:j <us.length):∀i,Ig (jnN us ws i) j=bif decide (j <i) then LB (Ig us j) (Ig ws j) else Ig us j
 |0=>rfl
 | i+1=>by
  have ih:=Bkk us ws j hj i
  unfold jnN
  unfold Ig at ih⊢
  rw[List.getD_eq_getElem?_getD,List.getElem?_set,Zo]
  by_cases e:i=j
  ·subst e
   rw[if_pos rfl,if_pos hj,decide_eq_true (by omega)]
   rw[decide_eq_false (Nat.lt_irrefl _),cond_false] at ih
   show LB ((jnN us ws i).getD i (Ae TC.cell)) _=_
   rw[ih]
   rfl
  ·rw[if_neg e,←List.getD_eq_getElem?_getD,ih]
   congr 1
   exact decide_eq_decide.2 (by omega)
def jnR (a b:TRow):TRow:=⟨a.key,jnN a.cells b.cells b.cells.length⟩
def jnE (l:List TGroup) (a b:TRow):Int:=bif Ap l a !=0 then Ap l a else bif Ap l b !=0 then Ap l b else bif !(a.key==b.key) then 100 else 0
theorem Ax8 {l:List TGroup} {a b:TRow}:jnE l a b=0↔Ap l a=0∧Ap l b=0∧a.key=b.key:=by
 unfold jnE
 cases h:Ap l a !=0 with
 |true=>
  rw[cond_true]
  have h':Ap l a≠0:=by simpa using h
  exact⟨fun e=>absurd e h',fun e=>absurd e.1 h'⟩
 | false=>
  rw[cond_false]
  have h':Ap l a=0:=by simpa using h
  cases g:Ap l b !=0 with
  |true=>
   rw[cond_true]
   have g':Ap l b≠0:=by simpa using g
   exact⟨fun e=>absurd e g',fun e=>absurd e.2.1 g'⟩
  | false=>
   rw[cond_false]
   have g':Ap l b=0:=by simpa using g
   by_cases k:a.key=b.key
   ·rw[beq_iff_eq.2 k]
    exact⟨fun _=>⟨h',g',k⟩,fun _=>rfl⟩
   ·rw[beq_eq_false_iff_ne.2 k]
    exact⟨fun e=>(by cases e),fun e=>absurd e.2.2 k⟩
theorem K3 {l:List TGroup} {r:TRow} (h:Ap l r=0) {i:Nat} (hi:i <l.length):BC (Adx l i) (Ig r.cells i)=true:=
 (A82 (AT h).2.1).1 (AT h).2.2.2.2 i hi
theorem Bvm {l:List TGroup} {a b:TRow} (ha:Ap l a=0) (hb:Ap l b=0) {i:Nat} (hi:i <l.length):Ig (jnR a b).cells i=Kv (Ig a.cells i) (Ig b.cells i):=by
 have h1:=(AT ha).2.1
 have h2:=(AT hb).2.1
 show Ig (jnN a.cells b.cells b.cells.length) i=_
 rw[Bkk _ _ i (by omega),decide_eq_true (by omega),cond_true,A6r (K3 ha hi)]
theorem A86 {l:List TGroup} {a b:TRow} (ha:Ap l a=0):(jnR a b).cells.length=l.length:=by
 show(jnN a.cells b.cells b.cells.length).length=_
 rw[Zo]
 exact(AT ha).2.1
theorem Bfu {l:List TGroup} {a b:TRow} (ha:Ap l a=0) (hb:Ap l b=0):Ap l (jnR a b)=0:=by
 obtain⟨h1,h2,h3,h4,_⟩:=AT ha
 refine Ax3 h1 h3 h4 (A86 ha) ((A82 (A86 ha)).2 fun i hi=>?_)
 rw[Bvm ha hb hi]
 exact Bxs (K3 ha hi) (K3 hb hi)
end Go.Proofs.Yteebobbhhgmeiaa
namespace Go.Proofs.Yteebobbhhgmeiaa
open Go.RowKit
def B27 (c:TC) (x:A):Option (U c×U c):=match Jt c x with
 |some [a,b]=>some (a,b)
 |_=>none
theorem Byu {c:TC} {x:A} {a b:U c} {F:Nat→Prop} {N:Nm} {nx:Nat} {R:World} {v:Value} (he:B27 c x=some (a,b)) (h:Hv F N nx R x v):Hv F N nx R (.sl c [a,b]) v:=by
 unfold B27 at he
 split at he<;>first|(cases he;done)|skip
 rename_i h1
 cases he
 exact BL h1 h
def UI (a0:TStamp) (a1:TStamp):Bool:=decide (a0.1 <a1.1)||a0.1==a1.1&&decide (a0.2 <a1.2)
def UK (a0:TStamp) (a1:TStamp):A:=.v (.bool (UI a0 a1))
def UJ (_a0:TStamp) (_a1:TStamp):Objs:=[]
def Acj (_a0:TStamp) (_a1:TStamp):List Prop:=[]
set_option maxRecDepth 100000 in
theorem A5r (a0:TStamp) (a1:TStamp):ER (AA Cl L0) 9 168 [Ak .stamp a0,Ak .stamp a1] 0 []=some (1,UK a0 a1,0,UJ a0 a1,[]):=by kernel_rfl
set_option maxRecDepth 100000 in
theorem Bcj (a0:TStamp) (a1:TStamp) (_hp:∀p∈Acj a0 a1,p):CallOk Try.prog 168 [Ak .stamp a0,Ak .stamp a1] 0 [] 1 (UK a0 a1) 0 (UJ a0 a1):=by
 exact AH (Ax Bdi AG) (A5r a0 a1) Ab
def UL:List A→Nat→Objs→Option A9
 | [y0,y1],nx,o=>match AQ .stamp y0,AQ .stamp y1 with
  |some (a0,p0),some (a1,p1)=>some (1,(UK a0 a1).pk (AC nx),nx+0,AB nx (UJ a0 a1)++o,p0++(p1++(Acj a0 a1)))
  |_,_=>none
 |_,_,_=>none
theorem A2y:EV Try.prog 168 UL:=fun args nx o k x nx' o' ps h=>by
 unfold UL at h
 split at h<;>first|(cases h;done)|skip
 split at h<;>first|(cases h;done)|skip
 rename_i a0 p0 a1 p1 e0 e1
 cases h
 refine⟨fun hp=>?_,_,rfl⟩
 have q0:=fun p hm=>hp p (List.mem_append.2 (.inl hm))
 have r0:=fun p hm=>hp p (List.mem_append.2 (.inr hm))
 have q1:=fun p hm=>r0 p (List.mem_append.2 (.inl hm))
 have r1:=fun p hm=>r0 p (List.mem_append.2 (.inr hm))
 refine Ah (Ag (Bcj a0 a1 r1) (Nat.le_refl _) (Ac (Af _ _) (Ac (Af _ _) An)) nx o) fun F N R vs hl=>?_
 obtain⟨v0,w0,rfl,h0,hl⟩:=hl.inv
 obtain⟨v1,w1,rfl,h1,hl⟩:=hl.inv
 exact HL.cons (Am e0 q0 h0) (HL.cons (Am e1 q1 h1) (hl))
noncomputable def B2v:=A7 168 UL Cl
theorem Bn5:CU Try.prog B2v:=Aw A2y Bdi
def AD (a0:TCell):TCell:=TCell.mk a0.1 a0.2 a0.3 a0.4 (TVec.mk (0:Int) (0:Int))
def T8 (a0:TCell):A:=.v (.agg ⟨[.int .i64 ((AD a0).stamp.n),.int .i64 ((AD a0).stamp.site),.int .i64 ((AD a0).vec.a),.int .i64 ((AD a0).vec.b),.bool ((AD a0).gone),.string ((AD a0).value),.int .i64 ((AD a0).dead.a),.int .i64 ((AD a0).dead.b)]⟩)
def T7 (_a0:TCell):Objs:=[]
def Aaj (_a0:TCell):List Prop:=[]
set_option maxRecDepth 100000 in
theorem A3q (a0:TCell):ER (AA B2v L0) 9 167 [Ak .cell a0] 0 []=some (1,T8 a0,0,T7 a0,[]):=by kernel_rfl
set_option maxRecDepth 100000 in
theorem A9f (a0:TCell) (_hp:∀p∈Aaj a0,p):CallOk Try.prog 167 [Ak .cell a0] 0 [] 1 (T8 a0) 0 (T7 a0):=by
 exact AH (Ax Bn5 AG) (A3q a0) Ab
def T9:List A→Nat→Objs→Option A9
 | [y0],nx,o=>match AQ .cell y0 with
  |some (a0,p0)=>some (1,(T8 a0).pk (AC nx),nx+0,AB nx (T7 a0)++o,p0++(Aaj a0))
  |_=>none
 |_,_,_=>none
theorem Aya:EV Try.prog 167 T9:=fun args nx o k x nx' o' ps h=>by
 unfold T9 at h
 split at h<;>first|(cases h;done)|skip
 split at h<;>first|(cases h;done)|skip
 rename_i a0 p0 e0
 cases h
 refine⟨fun hp=>?_,_,rfl⟩
 have q0:=fun p hm=>hp p (List.mem_append.2 (.inl hm))
 have r0:=fun p hm=>hp p (List.mem_append.2 (.inr hm))
 refine Ah (Ag (A9f a0 r0) (Nat.le_refl _) (Ac (Af _ _) An) nx o) fun F N R vs hl=>?_
 obtain⟨v0,w0,rfl,h0,hl⟩:=hl.inv
 exact HL.cons (Am e0 q0 h0) (hl)
noncomputable def B2w:=A7 167 T9 B2v
theorem Bn6:CU Try.prog B2w:=Aw Aya Bn5
def N9 (a0:TCell) (a1:TCell):Bool:=!(AD a0).4.toList==(AD a1).4.toList
def T6 (a0:TCell) (a1:TCell):Bool:=!((AD a0).1.1==(AD a1).1.1&&(AD a0).1.2==(AD a1).1.2)
def N8 (a0:TCell) (a1:TCell):Bool:=(AD a0).1.1==(AD a1).1.1&&(AD a0).1.2==(AD a1).1.2&&((AD a0).2.1==(AD a1).2.1&&(AD a0).2.2==(AD a1).2.2&&((AD a0).3==(AD a1).3&&((AD a0).4.toList==(AD a1).4.toList&&((AD a0).5.1==(AD a1).5.1&&(AD a0).5.2==(AD a1).5.2))))
def WP (a0:TCell) (a1:TCell):Bool:=bif(N8 a0 a1)||((T6 a0 a1)||(!(AD a0).3==(AD a1).3||((N9 a0 a1)||(AD a0).2.1 !=(AD a1).2.1))) then bif(N8 a0 a1) then false else bif(T6 a0 a1) then UI (AD a0).1 (AD a1).1 else bif !(AD a0).3==(AD a1).3 then(AD a1).3 else bif(N9 a0 a1) then Op.bytesLess (AD a0).4.toList (AD a1).4.toList else decide ((AD a0).2.1 <(AD a1).2.1) else decide ((AD a0).2.2 <(AD a1).2.2)
def WQ (a0:TCell) (a1:TCell):A:=.v (.bool (WP a0 a1))
def Ap9 (_a0:TCell) (_a1:TCell):Objs:=[]
def A9e (_a0:TCell) (_a1:TCell):List Prop:=[]
set_option maxRecDepth 100000 in
theorem A9d (a0:TCell) (a1:TCell):ER (AA B2w L0) 9 138 [Ak .cell a0,Ak .cell a1] 0 []=some (1,WQ a0 a1,0,Ap9 a0 a1,[]):=by kernel_rfl
set_option maxRecDepth 100000 in
theorem Bfx (a0:TCell) (a1:TCell) (_hp:∀p∈A9e a0 a1,p):CallOk Try.prog 138 [Ak .cell a0,Ak .cell a1] 0 [] 1 (WQ a0 a1) 0 (Ap9 a0 a1):=by
 exact AH (Ax Bn6 AG) (A9d a0 a1) Ab
def Ah4 (a0:TCell) (a1:TCell):A:=.v (.bool (JR a0 a1))
def Ah3 (_a0:TCell) (_a1:TCell):Objs:=[]
def Aai (_a0:TCell) (_a1:TCell):List Prop:=[]
theorem A9c (a b:TCell):WP a b=JR a b:=by
 have e0:N8 a b=((a.stamp.n==b.stamp.n&&a.stamp.site==b.stamp.site)&&((a.vec.a==b.vec.a&&a.vec.b==b.vec.b)&&(a.gone==b.gone&&((a.value==b.value)&&true)))):=by
  unfold N8
  rw[tlb]
  rfl
 have e1:T6 a b=!(a.stamp.n==b.stamp.n&&a.stamp.site==b.stamp.site):=rfl
 have e2:N9 a b=!(a.value==b.value):=by
  unfold N9
  rw[tlb]
  rfl
 unfold WP JR UI
 rw[e0,e1,e2]
 show(bif _||(_||(!(a.gone==b.gone)||(_||!(a.vec.a==b.vec.a)))) then bif _ then false else bif _ then(decide (a.stamp.n <b.stamp.n)||a.stamp.n==b.stamp.n&&decide (a.stamp.site <b.stamp.site)) else bif !(a.gone==b.gone) then b.gone else bif _ then Ii a.value b.value else decide (a.vec.a <b.vec.a) else decide (a.vec.b <b.vec.b))=(bif _ then _ else bif !(a.gone==b.gone) then b.gone else bif _ then Ii a.value b.value else bif !(a.vec.a==b.vec.a) then decide (a.vec.a <b.vec.a) else decide (a.vec.b <b.vec.b))
 have hb:(a.vec.b==b.vec.b)=true→decide (a.vec.b <b.vec.b)=false:=fun h=>decide_eq_false (by have:a.vec.b=b.vec.b:=eq_of_beq h;omega)
 revert hb
 generalize (a.stamp.n==b.stamp.n&&a.stamp.site==b.stamp.site)=q1
 generalize (a.gone==b.gone)=q2
 generalize (a.value==b.value)=q3
 generalize (a.vec.a==b.vec.a)=q4
 generalize (a.vec.b==b.vec.b)=q5
 generalize decide (a.vec.b <b.vec.b)=q6
 cases q1<;>cases q2<;>cases q3<;>cases q4<;>cases q5<;>cases q6<;>simp
theorem A9b (a0:TCell) (a1:TCell) (_hp:∀p∈Aai a0 a1,p):CallOk Try.prog 138 [Ak .cell a0,Ak .cell a1] 0 [] 1 (Ah4 a0 a1) 0 (Ah3 a0 a1):=by
 have h:=Bfx a0 a1 (fun _ h=>by cases h)
 unfold WQ at h
 rw[A9c] at h
 exact h
def WR:List A→Nat→Objs→Option A9
 | [y0,y1],nx,o=>match AQ .cell y0,AQ .cell y1 with
  |some (a0,p0),some (a1,p1)=>some (1,(Ah4 a0 a1).pk (AC nx),nx+0,AB nx (Ah3 a0 a1)++o,p0++(p1++(Aai a0 a1)))
  |_,_=>none
 |_,_,_=>none
theorem A3p:EV Try.prog 138 WR:=fun args nx o k x nx' o' ps h=>by
 unfold WR at h
 split at h<;>first|(cases h;done)|skip
 split at h<;>first|(cases h;done)|skip
 rename_i a0 p0 a1 p1 e0 e1
 cases h
 refine⟨fun hp=>?_,_,rfl⟩
 have q0:=fun p hm=>hp p (List.mem_append.2 (.inl hm))
 have r0:=fun p hm=>hp p (List.mem_append.2 (.inr hm))
 have q1:=fun p hm=>r0 p (List.mem_append.2 (.inl hm))
 have r1:=fun p hm=>r0 p (List.mem_append.2 (.inr hm))
 refine Ah (Ag (A9b a0 a1 r1) (Nat.le_refl _) (Ac (Af _ _) (Ac (Af _ _) An)) nx o) fun F N R vs hl=>?_
 obtain⟨v0,w0,rfl,h0,hl⟩:=hl.inv
 obtain⟨v1,w1,rfl,h1,hl⟩:=hl.inv
 exact HL.cons (Am e0 q0 h0) (HL.cons (Am e1 q1 h1) (hl))
noncomputable def B2x:=A7 138 WR B2w
theorem Bn7:CU Try.prog B2x:=Aw A3p Bn6
def Ad7 (a0:TStamp) (a1:TStamp):Bool:=bif a0.1 !=a1.1 then decide (a0.1 <a1.1) else decide (a0.2 <a1.2)
def Ad9 (a0:TStamp) (a1:TStamp):A:=.v (.bool (Ad7 a0 a1))
def Ad8 (_a0:TStamp) (_a1:TStamp):Objs:=[]
def Aq2 (_a0:TStamp) (_a1:TStamp):List Prop:=[]
set_option maxRecDepth 100000 in
theorem Bg0 (a0:TStamp) (a1:TStamp):ER (AA B2x L0) 9 173 [Ak .stamp a0,Ak .stamp a1] 0 []=some (1,Ad9 a0 a1,0,Ad8 a0 a1,[]):=by kernel_rfl
set_option maxRecDepth 100000 in
theorem Bk9 (a0:TStamp) (a1:TStamp) (_hp:∀p∈Aq2 a0 a1,p):CallOk Try.prog 173 [Ak .stamp a0,Ak .stamp a1] 0 [] 1 (Ad9 a0 a1) 0 (Ad8 a0 a1):=by
 exact AH (Ax Bn7 AG) (Bg0 a0 a1) Ab
def Aea:List A→Nat→Objs→Option A9
 | [y0,y1],nx,o=>match AQ .stamp y0,AQ .stamp y1 with
  |some (a0,p0),some (a1,p1)=>some (1,(Ad9 a0 a1).pk (AC nx),nx+0,AB nx (Ad8 a0 a1)++o,p0++(p1++(Aq2 a0 a1)))
  |_,_=>none
 |_,_,_=>none
theorem Bav:EV Try.prog 173 Aea:=fun args nx o k x nx' o' ps h=>by
 unfold Aea at h
 split at h<;>first|(cases h;done)|skip
 split at h<;>first|(cases h;done)|skip
 rename_i a0 p0 a1 p1 e0 e1
 cases h
 refine⟨fun hp=>?_,_,rfl⟩
 have q0:=fun p hm=>hp p (List.mem_append.2 (.inl hm))
 have r0:=fun p hm=>hp p (List.mem_append.2 (.inr hm))
 have q1:=fun p hm=>r0 p (List.mem_append.2 (.inl hm))
 have r1:=fun p hm=>r0 p (List.mem_append.2 (.inr hm))
 refine Ah (Ag (Bk9 a0 a1 r1) (Nat.le_refl _) (Ac (Af _ _) (Ac (Af _ _) An)) nx o) fun F N R vs hl=>?_
 obtain⟨v0,w0,rfl,h0,hl⟩:=hl.inv
 obtain⟨v1,w1,rfl,h1,hl⟩:=hl.inv
 exact HL.cons (Am e0 q0 h0) (HL.cons (Am e1 q1 h1) (hl))
noncomputable def B2y:=A7 173 Aea B2x
theorem Bn8:CU Try.prog B2y:=Aw Bav Bn7
def I7 (a0:TCell) (a1:TCell):Bool:=bif !(a0.1.1==a1.1.1&&a0.1.2==a1.1.2) then Ad7 a0.1 a1.1 else bif !a0.3==a1.3 then a1.3 else bif !a0.4.toList==a1.4.toList then Op.bytesLess a0.4.toList a1.4.toList else bif a0.2.1 !=a1.2.1 then decide (a0.2.1 <a1.2.1) else decide (a0.2.2 <a1.2.2)
def Aew (a0:TCell) (a1:TCell):A:=.v (.bool (I7 a0 a1))
def Aev (_a0:TCell) (_a1:TCell):Objs:=[]
def Ari (_a0:TCell) (_a1:TCell):List Prop:=[]
set_option maxRecDepth 100000 in
theorem Bhg (a0:TCell) (a1:TCell):ER (AA B2y L0) 9 166 [Ak .cell a0,Ak .cell a1] 0 []=some (1,Aew a0 a1,0,Aev a0 a1,[]):=by kernel_rfl
set_option maxRecDepth 100000 in
theorem Blj (a0:TCell) (a1:TCell) (_hp:∀p∈Ari a0 a1,p):CallOk Try.prog 166 [Ak .cell a0,Ak .cell a1] 0 [] 1 (Aew a0 a1) 0 (Aev a0 a1):=by
 exact AH (Ax Bn8 AG) (Bhg a0 a1) Ab
def Aex:List A→Nat→Objs→Option A9
 | [y0,y1],nx,o=>match AQ .cell y0,AQ .cell y1 with
  |some (a0,p0),some (a1,p1)=>some (1,(Aew a0 a1).pk (AC nx),nx+0,AB nx (Aev a0 a1)++o,p0++(p1++(Ari a0 a1)))
  |_,_=>none
 |_,_,_=>none
theorem Ba5:EV Try.prog 166 Aex:=fun args nx o k x nx' o' ps h=>by
 unfold Aex at h
 split at h<;>first|(cases h;done)|skip
 split at h<;>first|(cases h;done)|skip
 rename_i a0 p0 a1 p1 e0 e1
 cases h
 refine⟨fun hp=>?_,_,rfl⟩
 have q0:=fun p hm=>hp p (List.mem_append.2 (.inl hm))
 have r0:=fun p hm=>hp p (List.mem_append.2 (.inr hm))
 have q1:=fun p hm=>r0 p (List.mem_append.2 (.inl hm))
 have r1:=fun p hm=>r0 p (List.mem_append.2 (.inr hm))
 refine Ah (Ag (Blj a0 a1 r1) (Nat.le_refl _) (Ac (Af _ _) (Ac (Af _ _) An)) nx o) fun F N R vs hl=>?_
 obtain⟨v0,w0,rfl,h0,hl⟩:=hl.inv
 obtain⟨v1,w1,rfl,h1,hl⟩:=hl.inv
 exact HL.cons (Am e0 q0 h0) (HL.cons (Am e1 q1 h1) (hl))
noncomputable def B2z:=A7 166 Aex B2y
theorem Bn9:CU Try.prog B2z:=Aw Ba5 Bn8
def Jq (a0:TCell) (a1:TCell):TCell:=TCell.mk (TStamp.mk (bif I7 a0 a1 then a1.1.1 else a0.1.1) (bif I7 a0 a1 then a1.1.2 else a0.1.2)) (TVec.mk (bif I7 a0 a1 then a1.2.1 else a0.2.1) (bif I7 a0 a1 then a1.2.2 else a0.2.2)) (bif I7 a0 a1 then a1.3 else a0.3) (bif I7 a0 a1 then a1.4 else a0.4) (Tg a0.5 a1.5)
def Anv (a0:TCell) (a1:TCell):A:=.v (.agg ⟨[.int .i64 ((Jq a0 a1).stamp.n),.int .i64 ((Jq a0 a1).stamp.site),.int .i64 ((Jq a0 a1).vec.a),.int .i64 ((Jq a0 a1).vec.b),.bool ((Jq a0 a1).gone),.string ((Jq a0 a1).value),.int .i64 ((Jq a0 a1).dead.a),.int .i64 ((Jq a0 a1).dead.b)]⟩)
def A68 (_a0:TCell) (_a1:TCell):Objs:=[]
def Bln (_a0:TCell) (_a1:TCell):List Prop:=[]
set_option maxRecDepth 100000 in
theorem Blm (a0:TCell) (a1:TCell):ER (AA B2z L0) 9 135 [Ak .cell a0,Ak .cell a1] 0 []=some (1,Anv a0 a1,0,A68 a0 a1,[]):=by kernel_rfl
set_option maxRecDepth 100000 in
theorem Brh (a0:TCell) (a1:TCell) (_hp:∀p∈Bln a0 a1,p):CallOk Try.prog 135 [Ak .cell a0,Ak .cell a1] 0 [] 1 (Anv a0 a1) 0 (A68 a0 a1):=by
 exact AH (Ax Bn9 AG) (Blm a0 a1) Ab
def A0y (a0:TCell) (a1:TCell):A:=.v (.agg ⟨[.int .i64 ((Kv a0 a1).stamp.n),.int .i64 ((Kv a0 a1).stamp.site),.int .i64 ((Kv a0 a1).vec.a),.int .i64 ((Kv a0 a1).vec.b),.bool ((Kv a0 a1).gone),.string ((Kv a0 a1).value),.int .i64 ((Kv a0 a1).dead.a),.int .i64 ((Kv a0 a1).dead.b)]⟩)
def A0x (_a0:TCell) (_a1:TCell):Objs:=[]
def Arj (_a0:TCell) (_a1:TCell):List Prop:=[]
theorem Bgz (a b:TStamp):Ad7 a b=(decide (a.n <b.n)||a.n==b.n&&decide (a.site <b.site)):=by
 show(bif !(a.n==b.n) then decide (a.n <b.n) else decide (a.site <b.site))=_
 by_cases h:a.n=b.n
 ·rw[beq_iff_eq.2 h,decide_eq_false (p:=a.n <b.n) (by omega)]
  simp
 ·rw[beq_eq_false_iff_ne.2 h]
  simp
theorem Bhf (a b:TCell):I7 a b=JR a b:=by
 unfold I7 JR
 rw[Bgz,tlb]
 rfl
theorem Bll (a b:TCell):Jq a b=Kv a b:=by
 unfold Jq Kv H1
 rw[Bhf]
 cases JR a b<;>rfl
theorem Blk (a0:TCell) (a1:TCell) (_hp:∀p∈Arj a0 a1,p):CallOk Try.prog 135 [Ak .cell a0,Ak .cell a1] 0 [] 1 (A0y a0 a1) 0 (A0x a0 a1):=by
 have h:=Brh a0 a1 (fun _ h=>by cases h)
 unfold Anv at h
 rw[Bll] at h
 exact h
def Anw:List A→Nat→Objs→Option A9
 | [y0,y1],nx,o=>match AQ .cell y0,AQ .cell y1 with
  |some (a0,p0),some (a1,p1)=>some (1,(A0y a0 a1).pk (AC nx),nx+0,AB nx (A0x a0 a1)++o,p0++(p1++(Arj a0 a1)))
  |_,_=>none
 |_,_,_=>none
theorem Bhh:EV Try.prog 135 Anw:=fun args nx o k x nx' o' ps h=>by
 unfold Anw at h
 split at h<;>first|(cases h;done)|skip
 split at h<;>first|(cases h;done)|skip
 rename_i a0 p0 a1 p1 e0 e1
 cases h
 refine⟨fun hp=>?_,_,rfl⟩
 have q0:=fun p hm=>hp p (List.mem_append.2 (.inl hm))
 have r0:=fun p hm=>hp p (List.mem_append.2 (.inr hm))
 have q1:=fun p hm=>r0 p (List.mem_append.2 (.inl hm))
 have r1:=fun p hm=>r0 p (List.mem_append.2 (.inr hm))
 refine Ah (Ag (Blk a0 a1 r1) (Nat.le_refl _) (Ac (Af _ _) (Ac (Af _ _) An)) nx o) fun F N R vs hl=>?_
 obtain⟨v0,w0,rfl,h0,hl⟩:=hl.inv
 obtain⟨v1,w1,rfl,h1,hl⟩:=hl.inv
 exact HL.cons (Am e0 q0 h0) (HL.cons (Am e1 q1 h1) (hl))
noncomputable def B20:=A7 135 Anw B2z
theorem Boa:CU Try.prog B20:=Aw Bhh Bn9
def O2 (a0:TCell) (a1:TCell):A:=.v (.bool (JR a0 a1))
def O1 (_a0:TCell) (_a1:TCell):Objs:=[]
def U7 (_a0:TCell) (_a1:TCell):List Prop:=[]
set_option maxRecDepth 100000 in
theorem Atm (a0:TCell) (a1:TCell):ER (AA B20 L0) 9 137 [Ak .cell a0,Ak .cell a1] 0 []=some (1,O2 a0 a1,0,O1 a0 a1,[]):=by kernel_rfl
set_option maxRecDepth 100000 in
theorem Ax9 (a0:TCell) (a1:TCell) (_hp:∀p∈U7 a0 a1,p):CallOk Try.prog 137 [Ak .cell a0,Ak .cell a1] 0 [] 1 (O2 a0 a1) 0 (O1 a0 a1):=by
 exact AH (Ax Boa AG) (Atm a0 a1) Ab
def O3:List A→Nat→Objs→Option A9
 | [y0,y1],nx,o=>match AQ .cell y0,AQ .cell y1 with
  |some (a0,p0),some (a1,p1)=>some (1,(O2 a0 a1).pk (AC nx),nx+0,AB nx (O1 a0 a1)++o,p0++(p1++(U7 a0 a1)))
  |_,_=>none
 |_,_,_=>none
theorem Amd:EV Try.prog 137 O3:=fun args nx o k x nx' o' ps h=>by
 unfold O3 at h
 split at h<;>first|(cases h;done)|skip
 split at h<;>first|(cases h;done)|skip
 rename_i a0 p0 a1 p1 e0 e1
 cases h
 refine⟨fun hp=>?_,_,rfl⟩
 have q0:=fun p hm=>hp p (List.mem_append.2 (.inl hm))
 have r0:=fun p hm=>hp p (List.mem_append.2 (.inr hm))
 have q1:=fun p hm=>r0 p (List.mem_append.2 (.inl hm))
 have r1:=fun p hm=>r0 p (List.mem_append.2 (.inr hm))
 refine Ah (Ag (Ax9 a0 a1 r1) (Nat.le_refl _) (Ac (Af _ _) (Ac (Af _ _) An)) nx o) fun F N R vs hl=>?_
 obtain⟨v0,w0,rfl,h0,hl⟩:=hl.inv
 obtain⟨v1,w1,rfl,h1,hl⟩:=hl.inv
 exact HL.cons (Am e0 q0 h0) (HL.cons (Am e1 q1 h1) (hl))
noncomputable def B21:=A7 137 O3 B20
theorem Bob:CU Try.prog B21:=Aw Amd Boa
noncomputable def B22:=A7 136 (inl (AA B21 L0) 4 136) B21
theorem Boc:CU Try.prog B22:=Aw (Ade (Ax Bob AG) 4 136) Bob
def Cc (a0:TCell) (b0:TCell):Bool:=JR (TCell.mk (TStamp.mk (0:Int) (0:Int)) (TVec.mk (0:Int) (0:Int)) false (ByteArray.mk #[]) (TVec.mk (0:Int) (0:Int))) ([a0,b0].getD (0:Nat) (Ae TC.cell))
def HZ (a0:TCell) (b0:TCell):Bool:=JR (TCell.mk (TStamp.mk (bif(Cc a0 b0) then([a0,b0].getD (0:Nat) (Ae TC.cell)).1.1 else(0:Int)) (bif(Cc a0 b0) then([a0,b0].getD (0:Nat) (Ae TC.cell)).1.2 else(0:Int))) (TVec.mk (bif(Cc a0 b0) then([a0,b0].getD (0:Nat) (Ae TC.cell)).2.1 else(0:Int)) (bif(Cc a0 b0) then([a0,b0].getD (0:Nat) (Ae TC.cell)).2.2 else(0:Int))) (bif(Cc a0 b0) then([a0,b0].getD (0:Nat) (Ae TC.cell)).3 else false) (bif(Cc a0 b0) then([a0,b0].getD (0:Nat) (Ae TC.cell)).4 else ByteArray.mk #[]) (TVec.mk (bif(Cc a0 b0) then([a0,b0].getD (0:Nat) (Ae TC.cell)).5.1 else(0:Int)) (bif(Cc a0 b0) then([a0,b0].getD (0:Nat) (Ae TC.cell)).5.2 else(0:Int)))) ([a0,b0].getD (1:Nat) (Ae TC.cell))
def GI (a0:TCell) (b0:TCell):TCell:=TCell.mk (TStamp.mk (bif(HZ a0 b0) then([a0,b0].getD (1:Nat) (Ae TC.cell)).1.1 else bif(Cc a0 b0) then([a0,b0].getD (0:Nat) (Ae TC.cell)).1.1 else(0:Int)) (bif(HZ a0 b0) then([a0,b0].getD (1:Nat) (Ae TC.cell)).1.2 else bif(Cc a0 b0) then([a0,b0].getD (0:Nat) (Ae TC.cell)).1.2 else(0:Int))) (TVec.mk (bif(HZ a0 b0) then([a0,b0].getD (1:Nat) (Ae TC.cell)).2.1 else bif(Cc a0 b0) then([a0,b0].getD (0:Nat) (Ae TC.cell)).2.1 else(0:Int)) (bif(HZ a0 b0) then([a0,b0].getD (1:Nat) (Ae TC.cell)).2.2 else bif(Cc a0 b0) then([a0,b0].getD (0:Nat) (Ae TC.cell)).2.2 else(0:Int))) (bif(HZ a0 b0) then([a0,b0].getD (1:Nat) (Ae TC.cell)).3 else bif(Cc a0 b0) then([a0,b0].getD (0:Nat) (Ae TC.cell)).3 else false) (bif(HZ a0 b0) then([a0,b0].getD (1:Nat) (Ae TC.cell)).4 else bif(Cc a0 b0) then([a0,b0].getD (0:Nat) (Ae TC.cell)).4 else ByteArray.mk #[]) (TVec.mk (max (max (0:Int) ((((List.replicate (2:Nat) (Ae TC.vec)).set (0:Nat) ([a0,b0].getD (0:Nat) (Ae TC.cell)).5).set (1:Nat) ([a0,b0].getD (1:Nat) (Ae TC.cell)).5).getD (0:Nat) (Ae TC.vec)).1) ((((List.replicate (2:Nat) (Ae TC.vec)).set (0:Nat) ([a0,b0].getD (0:Nat) (Ae TC.cell)).5).set (1:Nat) ([a0,b0].getD (1:Nat) (Ae TC.cell)).5).getD (1:Nat) (Ae TC.vec)).1) (max (max (0:Int) ((((List.replicate (2:Nat) (Ae TC.vec)).set (0:Nat) ([a0,b0].getD (0:Nat) (Ae TC.cell)).5).set (1:Nat) ([a0,b0].getD (1:Nat) (Ae TC.cell)).5).getD (0:Nat) (Ae TC.vec)).2) ((((List.replicate (2:Nat) (Ae TC.vec)).set (0:Nat) ([a0,b0].getD (0:Nat) (Ae TC.cell)).5).set (1:Nat) ([a0,b0].getD (1:Nat) (Ae TC.cell)).5).getD (1:Nat) (Ae TC.vec)).2))
def WN (a0:TCell) (b0:TCell):A:=.v (.agg ⟨[.int .i64 ((GI a0 b0).stamp.n),.int .i64 ((GI a0 b0).stamp.site),.int .i64 ((GI a0 b0).vec.a),.int .i64 ((GI a0 b0).vec.b),.bool ((GI a0 b0).gone),.string ((GI a0 b0).value),.int .i64 ((GI a0 b0).dead.a),.int .i64 ((GI a0 b0).dead.b)]⟩)
def Ap8 (_a0:TCell) (_b0:TCell):Objs:=[]
def A9a (_a0:TCell) (_b0:TCell):List Prop:=[]
set_option maxRecDepth 100000 in
theorem A89 (a0:TCell) (b0:TCell):ER (AA B22 L0) 9 75 [.sl .cell [a0,b0]] 0 []=some (1,WN a0 b0,0,Ap8 a0 b0,[((0:Int)≤(0:Int)∧(0:Int) <(↑(2:Nat):Int)),((0:Int)≤(1:Int)∧(1:Int) <(↑(2:Nat):Int)),((0:Int)≤(↑(2:Nat):Int)∧(↑(2:Nat):Int)≤(↑(2:Nat):Int)∧(↑(2:Nat):Int)≤(549755813888:Int)),((0:Int)≤(0:Int)∧(0:Int) <(↑(2:Nat):Int)),((0:Int)≤(0:Int)∧(0:Int) <(↑(2:Nat):Int)),((0:Nat) <(2:Nat)),((0:Int)≤(1:Int)∧(1:Int) <(↑(2:Nat):Int)),((0:Int)≤(1:Int)∧(1:Int) <(↑(2:Nat):Int)),((1:Nat) <(2:Nat)),((0:Int)≤(0:Int)∧(0:Int) <(↑(2:Nat):Int)),((0:Nat) <(2:Nat)),((0:Int)≤(0:Int)∧(0:Int) <(2:Int)),((0:Nat) <(2:Nat)),((0:Int)≤(0:Int)∧(0:Int) <(2:Int)),((0:Nat) <(2:Nat)),((0:Int)≤(0:Int)∧(0:Int) <(2:Int)),((0:Nat) <(2:Nat)),((0:Int)≤(1:Int)∧(1:Int) <(2:Int)),((1:Nat) <(2:Nat)),((0:Int)≤(1:Int)∧(1:Int) <(2:Int)),((1:Nat) <(2:Nat)),((0:Int)≤(1:Int)∧(1:Int) <(2:Int)),((1:Nat) <(2:Nat)),((0:Int)≤(1:Int)∧(1:Int) <(↑(2:Nat):Int)),((1:Nat) <(2:Nat)),((0:Int)≤(0:Int)∧(0:Int) <(2:Int)),((0:Nat) <(2:Nat)),((0:Int)≤(0:Int)∧(0:Int) <(2:Int)),((0:Nat) <(2:Nat)),((0:Int)≤(0:Int)∧(0:Int) <(2:Int)),((0:Nat) <(2:Nat)),((0:Int)≤(1:Int)∧(1:Int) <(2:Int)),((1:Nat) <(2:Nat)),((0:Int)≤(1:Int)∧(1:Int) <(2:Int)),((1:Nat) <(2:Nat)),((0:Int)≤(1:Int)∧(1:Int) <(2:Int)),((1:Nat) <(2:Nat))]):=by kernel_rfl
set_option maxRecDepth 100000 in
theorem Bfw (a0:TCell) (b0:TCell) (_hp:∀p∈A9a a0 b0,p):CallOk Try.prog 75 [.sl .cell [a0,b0]] 0 [] 1 (WN a0 b0) 0 (Ap8 a0 b0):=by
 have n0:((0:Int)≤(0:Int)∧(0:Int) <(↑(2:Nat):Int)):=by first|rfl|decide+kernel
 have n1:((0:Int)≤(1:Int)∧(1:Int) <(↑(2:Nat):Int)):=by first|rfl|decide+kernel
 have n2:((0:Int)≤(↑(2:Nat):Int)∧(↑(2:Nat):Int)≤(↑(2:Nat):Int)∧(↑(2:Nat):Int)≤(549755813888:Int)):=by first|rfl|decide+kernel
 have n5:((0:Nat) <(2:Nat)):=by first|rfl|decide+kernel
 have n8:((1:Nat) <(2:Nat)):=by first|rfl|decide+kernel
 have n11:((0:Int)≤(0:Int)∧(0:Int) <(2:Int)):=by first|rfl|decide+kernel
 have n17:((0:Int)≤(1:Int)∧(1:Int) <(2:Int)):=by first|rfl|decide+kernel
 exact AH (Ax Boc AG) (A89 a0 b0) (Aa n0 (Aa n1 (Aa n2 (Aa n0 (Aa n0 (Aa n5 (Aa n1 (Aa n1 (Aa n8 (Aa n0 (Aa n5 (Aa n11 (Aa n5 (Aa n11 (Aa n5 (Aa n11 (Aa n5 (Aa n17 (Aa n8 (Aa n17 (Aa n8 (Aa n17 (Aa n8 (Aa n1 (Aa n8 (Aa n11 (Aa n5 (Aa n11 (Aa n5 (Aa n11 (Aa n5 (Aa n17 (Aa n8 (Aa n17 (Aa n8 (Aa n17 (Aa n8 Ab)))))))))))))))))))))))))))))))))))))
def Ah2 (a0:TCell) (a1:TCell):A:=.v (.agg ⟨[.int .i64 ((LB a0 a1).stamp.n),.int .i64 ((LB a0 a1).stamp.site),.int .i64 ((LB a0 a1).vec.a),.int .i64 ((LB a0 a1).vec.b),.bool ((LB a0 a1).gone),.string ((LB a0 a1).value),.int .i64 ((LB a0 a1).dead.a),.int .i64 ((LB a0 a1).dead.b)]⟩)
def Ah1 (_a0:TCell) (_a1:TCell):Objs:=[]
def Aah (_a0:TCell) (_a1:TCell):List Prop:=[]
theorem A88 (a b:TCell):GI a b=LB a b:=by
 have h1:Cc a b=JR zeroC a:=rfl
 have h0:HZ a b=JR (H1 zeroC a) b:=by
  unfold HZ
  rw[h1]
  unfold H1
  cases JR zeroC a<;>rfl
 unfold GI
 rw[h0,h1]
 have hm:H1 (H1 zeroC a) b=bif JR (H1 zeroC a) b then b else H1 zeroC a:=rfl
 have hz:H1 zeroC a=bif JR zeroC a then a else zeroC:=rfl
 unfold LB
 rw[hm]
 cases JR (H1 zeroC a) b with
 |true=>rfl
 |false=>
  rw[hz]
  cases JR zeroC a<;>rfl
theorem A87 (a0:TCell) (b0:TCell) (_hp:∀p∈Aah a0 b0,p):CallOk Try.prog 75 [.sl .cell [a0,b0]] 0 [] 1 (Ah2 a0 b0) 0 (Ah1 a0 b0):=by
 have h:=Bfw a0 b0 (fun _ h=>by cases h)
 unfold WN at h
 rw[A88] at h
 exact h
def WO:List A→Nat→Objs→Option A9
 | [y0],nx,o=>match B27 .cell y0 with
  |some (a0,b0)=>some (1,(Ah2 a0 b0).pk (AC nx),nx+0,AB nx (Ah1 a0 b0)++o,Aah a0 b0)
  |_=>none
 |_,_,_=>none
theorem A3o:EV Try.prog 75 WO:=fun args nx o k x nx' o' ps h=>by
 unfold WO at h
 split at h<;>first|(cases h;done)|skip
 split at h<;>first|(cases h;done)|skip
 rename_i a0 b0 e0
 cases h
 refine⟨fun hp=>?_,_,rfl⟩
 refine Ah (Ag (A87 a0 b0 hp) (Nat.le_refl _) (Ac rfl An) nx o) fun F N R vs hl=>?_
 obtain⟨v0,w0,rfl,h0,hl⟩:=hl.inv
 exact HL.cons (Byu e0 h0) (hl)
noncomputable def B4e:=A7 75 WO B22
theorem Byk:CU Try.prog B4e:=Aw A3o Boc
noncomputable def Cq:=B4e
theorem B4f:CU Try.prog Cq:=Byk
end Go.Proofs.Yteebobbhhgmeiaa
namespace Go.Proofs.Yteebobbhhgmeiaa
open Go.RowKit
def wrE (l:List TGroup) (r:TRow) (g:Int) (c:TCell):Int:=bif Ap l r !=0 then Ap l r else bif decide (g <0)||decide (g≥(l.length:Int)) then 70 else bif !BC (Adx l g.toNat) c then 80 else 0
def B5r (xs:List TCell) (g:Nat) (c:TCell):List TCell:=xs.set g (LB (Ig xs g) c)
end Go.Proofs.Yteebobbhhgmeiaa
namespace Go.Proofs.Yteebobbhhgmeiaa
open Go.RowKit
noncomputable def B4g:=A7 60 Qr Cq
theorem Byl:CU Try.prog B4g:=Aw Aal B4f
noncomputable def B23:=A7 61 W0 B4g
theorem Bod:CU Try.prog B23:=Aw A3r Byl
def GC (a0:List TGroup) (_a1:Int):Bool:=AX a0 !=(0:Int)
def Dl (a0:List TGroup) (a1:Int):Bool:=decide (a1 <(0:Int))||decide (a1≥(↑a0.length:Int))
def C5 (a0:List TGroup) (a1:Int):Int:=bif(GC a0 a1) then(0:Int) else bif(Dl a0 a1) then(0:Int) else(a0.getD a1.toNat (Ae TC.group)).2
def JV (a0:List TGroup) (a1:Int):Int:=bif(GC a0 a1) then AX a0 else bif(Dl a0 a1) then(70:Int) else(0:Int)
def XV (a0:List TGroup) (a1:Int):A:=.v (.tuple ⟨[.int .i64 (C5 a0 a1),.int .i64 (JV a0 a1)]⟩)
def XU (_a0:List TGroup) (_a1:Int):Objs:=[]
def Ajo (a0:List TGroup) (a1:Int):List Prop:=[((!(GC a0 a1))=true→(!(Dl a0 a1))=true→(0:Int)≤a1∧a1 <(↑a0.length:Int))]
set_option maxRecDepth 100000 in
theorem Bap (a0:List TGroup) (a1:Int):ER (AA B23 L0) 9 134 [.sl .group a0,Ak .i64 a1] 0 []=some (1,XV a0 a1,0,XU a0 a1,[((!(GC a0 a1))=true→(!(Dl a0 a1))=true→(0:Int)≤a1∧a1 <(↑a0.length:Int))]):=by kernel_rfl
set_option maxRecDepth 100000 in
theorem Bgu (a0:List TGroup) (a1:Int) (hp:∀p∈Ajo a0 a1,p):CallOk Try.prog 134 [.sl .group a0,Ak .i64 a1] 0 [] 1 (XV a0 a1) 0 (XU a0 a1):=by
 have n0:=N0 hp
 exact AH (Ax Bod AG) (Bap a0 a1) (Aa n0 Ab)
def XW:List A→Nat→Objs→Option A9
 | [y0,y1],nx,o=>match Jt .group y0,AQ .i64 y1 with
  |some a0,some (a1,p1)=>some (1,(XV a0 a1).pk (AC nx),nx+0,AB nx (XU a0 a1)++o,p1++(Ajo a0 a1))
  |_,_=>none
 |_,_,_=>none
theorem A4i:EV Try.prog 134 XW:=fun args nx o k x nx' o' ps h=>by
 unfold XW at h
 split at h<;>first|(cases h;done)|skip
 split at h<;>first|(cases h;done)|skip
 rename_i a0 a1 p1 e0 e1
 cases h
 refine⟨fun hp=>?_,_,rfl⟩
 have q1:=fun p hm=>hp p (List.mem_append.2 (.inl hm))
 have r1:=fun p hm=>hp p (List.mem_append.2 (.inr hm))
 refine Ah (Ag (Bgu a0 a1 r1) (Nat.le_refl _) (Ac rfl (Ac (Af _ _) An)) nx o) fun F N R vs hl=>?_
 obtain⟨v0,w0,rfl,h0,hl⟩:=hl.inv
 obtain⟨v1,w1,rfl,h1,hl⟩:=hl.inv
 exact HL.cons (BL e0 h0) (HL.cons (Am e1 q1 h1) (hl))
noncomputable def B24:=A7 134 XW B23
theorem Boe:CU Try.prog B24:=Aw A4i Bod
def Ie (a0:TRow):List TCell:=List.replicate (↑a0.2.length:Int).toNat (Ae TC.cell)
def UB (a0:TRow):List TCell:=List.take (0:Nat) (Ie a0)++(List.take (Ie a0).length a0.2++List.drop ((0:Nat)+(Ie a0).length.min a0.2.length) (Ie a0))
def Ak3 (a0:TRow):A:=.agg [.v (.string a0.1),.sq 0]
def UC (a0:TRow):Objs:=[(0,some (.arr 55 8 (.ty .cell (UB a0))))]
def A5j (a0:TRow):List Prop:=[((0:Int)≤(↑a0.2.length:Int)∧(↑a0.2.length:Int)≤(↑a0.2.length:Int)∧(↑a0.2.length:Int)≤(549755813888:Int))]
set_option maxRecDepth 100000 in
theorem A5i (a0:TRow):ER (AA B24 L0) 9 133 [Ak .row a0] 0 []=some (1,Ak3 a0,1,UC a0,[((0:Int)≤(↑a0.2.length:Int)∧(↑a0.2.length:Int)≤(↑a0.2.length:Int)∧(↑a0.2.length:Int)≤(549755813888:Int))]):=by kernel_rfl
set_option maxRecDepth 100000 in
theorem Bb6 (a0:TRow) (hp:∀p∈A5j a0,p):CallOk Try.prog 133 [Ak .row a0] 0 [] 1 (Ak3 a0) 1 (UC a0):=by
 have n0:=N0 hp
 exact AH (Ax Boe AG) (A5i a0) (Aa n0 Ab)
def Acg (a0:TRow):A:=.agg [.v (.string a0.1),.sq 0]
def Acf (a0:TRow):Objs:=[(0,some (.arr 55 8 (.ty .cell a0.2)))]
def YU (a0:TRow):List Prop:=[Ai a0.2.length]
theorem A5h (a:TRow):UB a=a.2:=by
 have hk:(Ie a).length=a.2.length:=by
  unfold Ie
  simp
 unfold UB
 rw[hk,List.take_length,List.take_zero,List.nil_append]
 have:List.drop (0+a.2.length.min a.2.length) (Ie a)=[]:=List.drop_eq_nil_of_le (by rw[hk];show a.2.length≤0+min a.2.length a.2.length;omega)
 rw[this,List.append_nil]
theorem A5g (a0:TRow) (hp:∀p∈YU a0,p):CallOk Try.prog 133 [Ak .row a0] 0 [] 1 (Acg a0) 1 (Acf a0):=by
 have hb:Ai a0.2.length:=hp _ (List.mem_cons_self ..)
 unfold Ai at hb
 have h:=Bb6 a0 (Aa (by omega) Ab)
 unfold UC at h
 rw[A5h] at h
 exact h
def UD:List A→Nat→Objs→Option A9
 | [y0],nx,o=>match AQ .row y0 with
  |some (a0,p0)=>some (1,(Acg a0).pk (AC nx),nx+1,AB nx (Acf a0)++o,p0++(YU a0))
  |_=>none
 |_,_,_=>none
theorem A2o:EV Try.prog 133 UD:=fun args nx o k x nx' o' ps h=>by
 unfold UD at h
 split at h<;>first|(cases h;done)|skip
 split at h<;>first|(cases h;done)|skip
 rename_i a0 p0 e0
 cases h
 refine⟨fun hp=>?_,_,rfl⟩
 have q0:=fun p hm=>hp p (List.mem_append.2 (.inl hm))
 have r0:=fun p hm=>hp p (List.mem_append.2 (.inr hm))
 refine Ah (Ag (A5g a0 r0) (Nat.le_refl _) (Ac (Af _ _) An) nx o) fun F N R vs hl=>?_
 obtain⟨v0,w0,rfl,h0,hl⟩:=hl.inv
 exact HL.cons (Am e0 q0 h0) (hl)
noncomputable def Bt5:=A7 133 UD B24
theorem A79:CU Try.prog Bt5:=Aw A2o Boe
abbrev Dh:Type:=(List TCell)×Int×Int×ByteArray×(List TCell)
def M2 (x:Dh):St:=⟨60,9,[(11,.own 7 0),(39,.sl .cell x.1),(40,.v (.int .i64 x.2.1)),(41,.v (.int .i64 x.2.2.1))],[(7,some (.box 71 [.v (.string x.2.2.2.1),.sq 8])),(8,some (.arr 55 8 (.ty .cell x.2.2.2.2)))]⟩
def PT:St→Option Dh
 |⟨60,9,[(11,.own 7 0),(39,.sl .cell z0),(40,.v (.int .i64 z1)),(41,.v (.int .i64 z2))],[(7,some (.box 71 [.v (.string z3),.sq 8])),(8,some (.arr 55 8 (.ty .cell z4)))]⟩=>some (z0,z1,z2,z3,z4)
 |_=>none
theorem Ao6:∀s x,PT s=some x→s=M2 x:=fun s x h=>by
 unfold PT at h
 split at h
 ·cases h;rfl
 ·cases h
def Ab9:CX:=⟨8,9,[11,39,40,41],[],[(7,7),(8,8)],[7,8],[],[7,8]⟩
def A5b:Dp:=⟨[],[(7,7),(6,8)],[11,39,40,41],[7,6]⟩
def NM (a0:List TCell) (_a1:Int) (a2:Int) (_a3:ByteArray) (a4:List TCell):List TCell:=a4.set a2.toNat (LB (a4.getD a2.toNat (Ae TC.cell)) (a0.getD a2.toNat (Ae TC.cell)))
def Fv (x:Dh):Dh:=(x.1,x.2.1,IntKind.i64.wrap (x.2.2.1+(1:Int)),x.2.2.2.1,NM x.1 x.2.1 x.2.2.1 x.2.2.2.1 x.2.2.2.2)
def Fu (x:Dh):Cnd:=some (!!decide (x.2.2.1 <x.2.1))
def VX (x:Dh):List Prop:=[((!!decide (x.2.2.1 <x.2.1))=true→(0:Int)≤x.2.2.1∧x.2.2.1 <(↑x.1.length:Int)),((!!decide (x.2.2.1 <x.2.1))=true→(0:Int)≤x.2.2.1∧x.2.2.1 <(↑x.2.2.2.2.length:Int)),((!!decide (x.2.2.1 <x.2.1))=true→x.2.2.1.toNat <x.2.2.2.2.length),((!!decide (x.2.2.1 <x.2.1))=true→(0:Int)≤x.2.2.1∧x.2.2.1 <(↑x.2.2.2.2.length:Int)),((!!decide (x.2.2.1 <x.2.1))=true→x.2.2.1.toNat <x.2.2.2.2.length)]
def IL (x:Dh):List Prop:=[((!!decide (x.2.2.1 <x.2.1))=true→(0:Int)≤x.2.2.1∧x.2.2.1 <(↑x.1.length:Int)),((!!decide (x.2.2.1 <x.2.1))=true→(0:Int)≤x.2.2.1∧x.2.2.1 <(↑x.2.2.2.2.length:Int))]
def TE (x:Dh):Bo:=[(some 2,some (!decide (x.2.2.1 <x.2.1)),⟨60,9,[],[(7,some (.box 71 [.v (.string x.2.2.2.1),.sq 8])),(8,some (.arr 55 8 (.ty .cell x.2.2.2.2)))]⟩)]
def Hd (x:Dh):Nat:=(x.2.1 - x.2.2.1).toNat
def NN (x:Dh):Dh:=Bc Fv Fu (Hd x) x
set_option maxRecDepth 100000 in
theorem A2g (a0:List TCell) (a1:Int) (a2:Int) (a3:ByteArray) (a4:List TCell):By (AA Bt5 L0) 9 (Aj Try.prog 71 2) Ab9 (M2 (a0,a1,a2,a3,a4))=some (VX (a0,a1,a2,a3,a4),TE (a0,a1,a2,a3,a4),Fu (a0,a1,a2,a3,a4),M2 (Fv (a0,a1,a2,a3,a4))):=by kernel_rfl
set_option maxRecDepth 100000 in
theorem A2h (a0:List TCell) (a1:Int) (a2:Int) (a3:ByteArray) (a4:List TCell) (hp:∀p∈IL (a0,a1,a2,a3,a4),p):∀p∈VX (a0,a1,a2,a3,a4),p:=by
 have n0:=N0 hp
 have n1:((!!decide (a2 <a1))=true→(0:Int)≤a2∧a2 <(↑a4.length:Int)):=N0 (N1 hp)
 have n2:((!!decide (a2 <a1))=true→a2.toNat <a4.length):=by intro h0;have g:=n1 h0;omega
 exact(Aa n0 (Aa n1 (Aa n2 (Aa n1 (Aa n2 Ab)))))
noncomputable def VY:=HF (AA Bt5 L0) (Aj Try.prog 71 2) Ab9 A5b PT Hd Fv Fu IL TE
theorem Avv:∀s b ps outs,VY s=some (b,ps,outs)→Wf s ⟨ps,outs,none⟩∧Br (AA C0 L0) b s ps outs:=
 Bh (T:=M2) A79 AG (u:=9) (by kernel_rfl) (by decide) (fun⟨a0,a1,a2,a3,a4⟩=>A2g a0 a1 a2 a3 a4) (fun⟨a0,a1,a2,a3,a4⟩=>A2h a0 a1 a2 a3 a4) Ao6 (fun _=>AU (n:=60) rfl) fun _ _=>rfl
noncomputable def Ab8:=Dz 2 VY L0
theorem Avu:Hf Ab8:=A5 Avv AG
def FL (_a0:List TGroup) (a1:TRow) (a2:TRow):Bool:=!a1.1.toList==a2.1.toList
def IX (a0:List TGroup) (a1:TRow) (_a2:TRow):Bool:=Ap a0 a1 !=(0:Int)
def FK (a0:List TGroup) (a1:TRow) (a2:TRow):Bool:=(IX a0 a1 a2)||Ap a0 a2 !=(0:Int)
def Af6 (a0:List TGroup) (a1:TRow) (a2:TRow):ByteArray:=bif(FK a0 a1 a2) then bif(IX a0 a1 a2) then ByteArray.mk #[] else ByteArray.mk #[] else bif(FL a0 a1 a2) then ByteArray.mk #[] else(NN (a2.2,(↑a2.2.length:Int),(0:Int),a1.1,a1.2)).snd.snd.snd.fst
def Af7 (a0:List TGroup) (a1:TRow) (a2:TRow):Int:=bif(FK a0 a1 a2) then bif(IX a0 a1 a2) then Ap a0 a1 else Ap a0 a2 else bif(FL a0 a1 a2) then(100:Int) else(0:Int)
def Af8 (a0:List TGroup) (a1:TRow) (a2:TRow):List TCell:=bif(FK a0 a1 a2) then[] else bif(FL a0 a1 a2) then[] else(NN (a2.2,(↑a2.2.length:Int),(0:Int),a1.1,a1.2)).snd.snd.snd.snd
def Aga (a0:List TGroup) (a1:TRow) (a2:TRow):A:=.tup [.agg [.v (.string (Af6 a0 a1 a2)),.sq 0],.v (.int .i64 (Af7 a0 a1 a2))]
def Af9 (a0:List TGroup) (a1:TRow) (a2:TRow):Objs:=[(0,some (.arr 55 8 (.ty .cell (Af8 a0 a1 a2))))]
def Bik (a0:List TGroup) (a1:TRow) (a2:TRow):List Prop:=[((!(FK a0 a1 a2))=true→(!(FL a0 a1 a2))=true→Ai a1.2.length),((!(FK a0 a1 a2))=true→(!(FL a0 a1 a2))=true→AK Fv Fu IL (Hd (a2.2,(↑a2.2.length:Int),(0:Int),a1.1,a1.2)) (a2.2,(↑a2.2.length:Int),(0:Int),a1.1,a1.2))]
set_option maxRecDepth 100000 in
theorem Bij (a0:List TGroup) (a1:TRow) (a2:TRow):ER (AA Bt5 Ab8) 9 71 [.sl .group a0,Ak .row a1,Ak .row a2] 0 []=some (1,Aga a0 a1 a2,1,Af9 a0 a1 a2,[((0:Int)≤(0:Int)∧(0:Int) <(↑(2:Nat):Int)),((0:Nat) <(2:Nat)),((!(IX a0 a1 a2))=true→(0:Int)≤(1:Int)∧(1:Int) <(↑(2:Nat):Int)),((!(IX a0 a1 a2))=true→(1:Nat) <(2:Nat)),((!(FK a0 a1 a2))=true→(!(FL a0 a1 a2))=true→Ai a1.2.length),((!(FK a0 a1 a2))=true→(!(FL a0 a1 a2))=true→Aj Try.prog (71:FuncId) (2:Nat)=Aj Try.prog (71:FuncId) (2:Nat)),((!(FK a0 a1 a2))=true→(!(FL a0 a1 a2))=true→AK Fv Fu IL (Hd (a2.2,(↑a2.2.length:Int),(0:Int),a1.1,a1.2)) (a2.2,(↑a2.2.length:Int),(0:Int),a1.1,a1.2))]):=by kernel_rfl
set_option maxRecDepth 100000 in
theorem Bmf (a0:List TGroup) (a1:TRow) (a2:TRow) (hp:∀p∈Bik a0 a1 a2,p):CallOk Try.prog 71 [.sl .group a0,Ak .row a1,Ak .row a2] 0 [] 1 (Aga a0 a1 a2) 1 (Af9 a0 a1 a2):=by
 have n0:((0:Int)≤(0:Int)∧(0:Int) <(↑(2:Nat):Int)):=by first|rfl|decide+kernel
 have n1:((0:Nat) <(2:Nat)):=by first|rfl|decide+kernel
 have n2:((!(IX a0 a1 a2))=true→(0:Int)≤(1:Int)∧(1:Int) <(↑(2:Nat):Int)):=by omega
 have n3:((!(IX a0 a1 a2))=true→(1:Nat) <(2:Nat)):=by omega
 have n4:=N0 hp
 have n5:((!(FK a0 a1 a2))=true→(!(FL a0 a1 a2))=true→Aj Try.prog (71:FuncId) (2:Nat)=Aj Try.prog (71:FuncId) (2:Nat)):=by intros;rfl
 have n6:=N0 (N1 hp)
 exact AH (Ax A79 Avu) (Bij a0 a1 a2) (Aa n0 (Aa n1 (Aa n2 (Aa n3 (Aa n4 (Aa n5 (Aa n6 Ab)))))))
def jnK (l:List TGroup) (a b:TRow):ByteArray:=bif jnE l a b==0 then a.key else⟨#[]⟩
def jnL (l:List TGroup) (a b:TRow):List TCell:=bif jnE l a b==0 then jnN a.cells b.cells b.cells.length else[]
def Ast (a0:List TGroup) (a1:TRow) (a2:TRow):A:=.tup [.agg [.v (.string (jnK a0 a1 a2)),.sq 0],.v (.int .i64 (jnE a0 a1 a2))]
def Ass (a0:List TGroup) (a1:TRow) (a2:TRow):Objs:=[(0,some (.arr 55 8 (.ty .cell (jnL a0 a1 a2))))]
def Aku (_a0:List TGroup) (_a1:TRow) (_a2:TRow):List Prop:=[]
theorem A5c (key:ByteArray) (us ws:List TCell) (hl:us.length=ws.length) (h4:ws.length≤4):
  AK Fv Fu IL (Hd (ws,(ws.length:Int),0,key,us)) (ws,(ws.length:Int),0,key,us)∧
  NN (ws,(ws.length:Int),0,key,us)=(ws,(ws.length:Int),(ws.length:Int),key,jnN us ws ws.length):=by
 obtain⟨h1,k,hk,hx,_,hst,_⟩:=IN (fun i=>(ws,(ws.length:Int),(i:Int),key,jnN us ws i):Nat→Dh) ws.length (fun _=>false) Fv Fu IL (Hd (ws,(ws.length:Int),0,key,us)) (ws,(ws.length:Int),0,key,us) rfl (by show ws.length≤((ws.length:Int) - 0).toNat;omega)
  (fun i _ _=>by
   show(!!decide ((i:Int) <(ws.length:Int)))=_
   rw[nn,Me,Bool.not_false,Bool.and_true])
  (fun i hi _=>by
   show(ws,(ws.length:Int),IntKind.i64.wrap ((i:Int)+1),key,NM ws (ws.length:Int) (i:Int) key (jnN us ws i))=(ws,(ws.length:Int),((i+1:Nat):Int),key,jnN us ws (i+1))
   unfold NM
   rw[EQ (by omega),Int.toNat_natCast]
   rfl)
  (fun i hi _=>by
   have hin:(!!decide ((i:Int) <(ws.length:Int)))=true→i <ws.length:=fun h=>by rw[nn] at h;have:=of_decide_eq_true h;omega
   have hlen:=Zo us ws i
   exact Aa (fun h=>⟨by show(0:Int)≤(i:Int);omega,by have:=hin h;show(i:Int) <(ws.length:Int);omega⟩) (Aa (fun h=>⟨by show(0:Int)≤(i:Int);omega,by have:=hin h;show(i:Int) <((jnN us ws i).length:Int);omega⟩) Ab))
 have hkn:k=ws.length:=by
  rcases Nat.lt_or_ge k ws.length with h|h
  ·exact absurd (hst h) (by decide)
  ·omega
 subst hkn
 exact⟨h1,hx⟩
theorem Bii (a0:List TGroup) (a1:TRow) (a2:TRow) (_hp:∀p∈Aku a0 a1 a2,p):CallOk Try.prog 71 [.sl .group a0,Ak .row a1,Ak .row a2] 0 [] 1 (Ast a0 a1 a2) 1 (Ass a0 a1 a2):=by
 have hgood:(!(FK a0 a1 a2))=true→Ap a0 a1=0∧Ap a0 a2=0:=fun h=>by
  have h':(!((Ap a0 a1 !=0)||(Ap a0 a2 !=0)))=true:=h
  rw[Bool.not_or,Bool.and_eq_true] at h'
  exact⟨by simpa using h'.1,by simpa using h'.2⟩
 have hloop:Ap a0 a1=0→Ap a0 a2=0→_:=fun g1 g2=>A5c a1.1 a1.2 a2.2 (((AT g1).2.1).trans ((AT g2).2.1).symm) (by have:=(FP (AT g2).1).2;have:=(AT g2).2.1;show a2.cells.length≤4;omega)
 have h:=Bmf a0 a1 a2 (Aa (fun h _=>by
   obtain⟨g1,_⟩:=hgood h
   have:=(FP (AT g1).1).2
   have:=(AT g1).2.1
   show Ai a1.cells.length
   unfold Ai
   omega) (Aa (fun h _=>(hloop (hgood h).1 (hgood h).2).1) Ab))
 have e:Af6 a0 a1 a2=jnK a0 a1 a2∧Af7 a0 a1 a2=jnE a0 a1 a2∧Af8 a0 a1 a2=jnL a0 a1 a2:=by
  have k0:FK a0 a1 a2=((Ap a0 a1 !=0)||(Ap a0 a2 !=0)):=rfl
  have k1:IX a0 a1 a2=(Ap a0 a1 !=0):=rfl
  have k2:FL a0 a1 a2=!(a1.key==a2.key):=by
   unfold FL
   rw[tlb]
  unfold Af6 Af7 Af8 jnK jnL jnE
  rw[k0,k1,k2]
  cases g1:Ap a0 a1 !=0 with
  |true=>
   have:(Ap a0 a1==0)=false:=by simpa using g1
   rw[Bool.true_or,cond_true,cond_true,cond_true,cond_true,cond_true,this]
   refine⟨?_,?_,?_⟩<;>first|rfl|trivial
  | false=>
   cases g2:Ap a0 a2 !=0 with
   |true=>
    have:(Ap a0 a2==0)=false:=by simpa using g2
    rw[Bool.false_or]
    simp only[cond_true,cond_false,this]
    refine⟨?_,?_,?_⟩<;>first|rfl|trivial
   | false=>
    rw[Bool.false_or]
    simp only[cond_false]
    cases hk:a1.key==a2.key with
    |false=>refine⟨?_,?_,?_⟩<;>first|rfl|trivial
    |true=>
     rw[(hloop (by simpa using g1) (by simpa using g2)).2]
     refine⟨?_,?_,?_⟩<;>first|rfl|trivial
 unfold Aga Af9 at h
 rw[e.1,e.2.1,e.2.2] at h
 exact h
def Agb:List A→Nat→Objs→Option A9
 | [y0,y1,y2],nx,o=>match Jt .group y0,AQ .row y1,AQ .row y2 with
  |some a0,some (a1,p1),some (a2,p2)=>some (1,(Ast a0 a1 a2).pk (AC nx),nx+1,AB nx (Ass a0 a1 a2)++o,p1++(p2++(Aku a0 a1 a2)))
  |_,_,_=>none
 |_,_,_=>none
theorem Bbz:EV Try.prog 71 Agb:=fun args nx o k x nx' o' ps h=>by
 unfold Agb at h
 split at h<;>first|(cases h;done)|skip
 split at h<;>first|(cases h;done)|skip
 rename_i a0 a1 p1 a2 p2 e0 e1 e2
 cases h
 refine⟨fun hp=>?_,_,rfl⟩
 have q1:=fun p hm=>hp p (List.mem_append.2 (.inl hm))
 have r1:=fun p hm=>hp p (List.mem_append.2 (.inr hm))
 have q2:=fun p hm=>r1 p (List.mem_append.2 (.inl hm))
 have r2:=fun p hm=>r1 p (List.mem_append.2 (.inr hm))
 refine Ah (Ag (Bii a0 a1 a2 r2) (Nat.le_refl _) (Ac rfl (Ac (Af _ _) (Ac (Af _ _) An))) nx o) fun F N R vs hl=>?_
 obtain⟨v0,w0,rfl,h0,hl⟩:=hl.inv
 obtain⟨v1,w1,rfl,h1,hl⟩:=hl.inv
 obtain⟨v2,w2,rfl,h2,hl⟩:=hl.inv
 exact HL.cons (BL e0 h0) (HL.cons (Am e1 q1 h1) (HL.cons (Am e2 q2 h2) (hl)))
noncomputable def B25:=A7 71 Agb Bt5
theorem Bof:CU Try.prog B25:=Aw Bbz A79
def CT (a0:List TGroup) (_a1:TRow) (a2:Int) (_a3:TCell):Bool:=JV a0 a2 !=(0:Int)
def BS (a0:List TGroup) (a1:TRow) (_a2:Int) (_a3:TCell):Bool:=Ap a0 a1 !=(0:Int)
def YO (a0:List TGroup) (a1:TRow) (a2:Int) (a3:TCell):ByteArray:=bif(BS a0 a1 a2 a3) then ByteArray.mk #[] else bif(CT a0 a1 a2 a3) then ByteArray.mk #[] else bif !AY (C5 a0 a2) a3 then ByteArray.mk #[] else a1.1
def YP (a0:List TGroup) (a1:TRow) (a2:Int) (a3:TCell):Int:=bif(BS a0 a1 a2 a3) then Ap a0 a1 else bif(CT a0 a1 a2 a3) then JV a0 a2 else bif !AY (C5 a0 a2) a3 then(80:Int) else(0:Int)
def YQ (a0:List TGroup) (a1:TRow) (a2:Int) (a3:TCell):List TCell:=bif(BS a0 a1 a2 a3) then[] else bif(CT a0 a1 a2 a3) then[] else bif !AY (C5 a0 a2) a3 then[] else a1.2.set a2.toNat (LB (a1.2.getD a2.toNat (Ae TC.cell)) a3)
def YS (a0:List TGroup) (a1:TRow) (a2:Int) (a3:TCell):A:=.tup [.agg [.v (.string (YO a0 a1 a2 a3)),.sq 0],.v (.int .i64 (YP a0 a1 a2 a3))]
def YR (a0:List TGroup) (a1:TRow) (a2:Int) (a3:TCell):Objs:=[(0,some (.arr 55 8 (.ty .cell (YQ a0 a1 a2 a3))))]
def Bb5 (a0:List TGroup) (a1:TRow) (a2:Int) (a3:TCell):List Prop:=[((!(BS a0 a1 a2 a3))=true→(!GC a0 a2)=true→(!Dl a0 a2)=true→(0:Int)≤a2∧a2 <(↑a0.length:Int)),((!(BS a0 a1 a2 a3))=true→(!(CT a0 a1 a2 a3))=true→(!!AY (C5 a0 a2) a3)=true→Ai a1.2.length),((!(BS a0 a1 a2 a3))=true→(!(CT a0 a1 a2 a3))=true→(!!AY (C5 a0 a2) a3)=true→(0:Int)≤a2∧a2 <(↑a1.2.length:Int))]
set_option maxRecDepth 100000 in
theorem Bb4 (a0:List TGroup) (a1:TRow) (a2:Int) (a3:TCell):ER (AA B25 L0) 9 72 [.sl .group a0,Ak .row a1,Ak .i64 a2,Ak .cell a3] 0 []=some (1,YS a0 a1 a2 a3,1,YR a0 a1 a2 a3,[((!(BS a0 a1 a2 a3))=true→(!GC a0 a2)=true→(!Dl a0 a2)=true→(0:Int)≤a2∧a2 <(↑a0.length:Int)),((!(BS a0 a1 a2 a3))=true→(!(CT a0 a1 a2 a3))=true→(!!AY (C5 a0 a2) a3)=true→Ai a1.2.length),((!(BS a0 a1 a2 a3))=true→(!(CT a0 a1 a2 a3))=true→(!!AY (C5 a0 a2) a3)=true→(0:Int)≤a2∧a2 <(↑a1.2.length:Int)),((!(BS a0 a1 a2 a3))=true→(!(CT a0 a1 a2 a3))=true→(!!AY (C5 a0 a2) a3)=true→a2.toNat <a1.2.length),((!(BS a0 a1 a2 a3))=true→(!(CT a0 a1 a2 a3))=true→(!!AY (C5 a0 a2) a3)=true→(0:Int)≤a2∧a2 <(↑a1.2.length:Int)),((!(BS a0 a1 a2 a3))=true→(!(CT a0 a1 a2 a3))=true→(!!AY (C5 a0 a2) a3)=true→a2.toNat <a1.2.length)]):=by kernel_rfl
set_option maxRecDepth 100000 in
theorem Bir (a0:List TGroup) (a1:TRow) (a2:Int) (a3:TCell) (hp:∀p∈Bb5 a0 a1 a2 a3,p):CallOk Try.prog 72 [.sl .group a0,Ak .row a1,Ak .i64 a2,Ak .cell a3] 0 [] 1 (YS a0 a1 a2 a3) 1 (YR a0 a1 a2 a3):=by
 have n0:=N0 hp
 have n1:=N0 (N1 hp)
 have n2:((!(BS a0 a1 a2 a3))=true→(!(CT a0 a1 a2 a3))=true→(!!AY (C5 a0 a2) a3)=true→(0:Int)≤a2∧a2 <(↑a1.2.length:Int)):=N0 (N1 (N1 hp))
 have n3:((!(BS a0 a1 a2 a3))=true→(!(CT a0 a1 a2 a3))=true→(!!AY (C5 a0 a2) a3)=true→a2.toNat <a1.2.length):=by intro h0 h1 h2;have g:=n2 h0 h1 h2;omega
 exact AH (Ax Bof AG) (Bb4 a0 a1 a2 a3) (Aa n0 (Aa n1 (Aa n2 (Aa n3 (Aa n2 (Aa n3 Ab))))))
def wrK (l:List TGroup) (r:TRow) (g:Int) (c:TCell):ByteArray:=bif wrE l r g c==0 then r.key else⟨#[]⟩
def wrL (l:List TGroup) (r:TRow) (g:Int) (c:TCell):List TCell:=bif wrE l r g c==0 then B5r r.cells g.toNat c else[]
def Ak2 (a0:List TGroup) (a1:TRow) (a2:Int) (a3:TCell):A:=.tup [.agg [.v (.string (wrK a0 a1 a2 a3)),.sq 0],.v (.int .i64 (wrE a0 a1 a2 a3))]
def Ak1 (a0:List TGroup) (a1:TRow) (a2:Int) (a3:TCell):Objs:=[(0,some (.arr 55 8 (.ty .cell (wrL a0 a1 a2 a3))))]
def Ace (_a0:List TGroup) (_a1:TRow) (_a2:Int) (_a3:TCell):List Prop:=[]
theorem Bb3 (a0:List TGroup) (a1:TRow) (a2:Int) (a3:TCell) (_hp:∀p∈Ace a0 a1 a2 a3,p):CallOk Try.prog 72 [.sl .group a0,Ak .row a1,Ak .i64 a2,Ak .cell a3] 0 [] 1 (Ak2 a0 a1 a2 a3) 1 (Ak1 a0 a1 a2 a3):=by
 have hgood:(!(BS a0 a1 a2 a3))=true→Ap a0 a1=0:=fun h=>by
  have h':(!(Ap a0 a1 !=0))=true:=h
  simpa using h'
 have h4:Ap a0 a1=0→a1.cells.length=a0.length∧a0.length≤4:=fun g=>⟨(AT g).2.1,(FP (AT g).1).2⟩
 have hin:(!Dl a0 a2)=true→0≤a2∧a2 <(a0.length:Int):=fun h=>by
  have h':(!(decide (a2 <0)||decide (a2≥(a0.length:Int))))=true:=h
  rw[Bool.not_or,Bool.and_eq_true,Bool.not_eq_true',Bool.not_eq_true'] at h'
  have:=of_decide_eq_false h'.1
  have:=of_decide_eq_false h'.2
  omega
 have k1:Ap a0 a1=0→CT a0 a1 a2 a3=Dl a0 a2:=fun g=>by
  have hp:(AX a0 !=0)=false:=by rw[(AT g).1];rfl
  have e1:JV a0 a2=bif Dl a0 a2 then 70 else 0:=by
   unfold JV GC
   rw[hp]
   rfl
  unfold CT
  rw[e1]
  cases Dl a0 a2<;>rfl
 have h:=Bir a0 a1 a2 a3 (Aa (fun _ _ g=>hin g) (Aa (fun g _ _=>by
   obtain⟨q1,q2⟩:=h4 (hgood g)
   show Ai a1.cells.length
   unfold Ai
   omega) (Aa (fun g g1 _=>by
   obtain⟨q1,q2⟩:=h4 (hgood g)
   rw[k1 (hgood g)] at g1
   have:=hin g1
   show(0:Int)≤a2∧a2 <(a1.cells.length:Int)
   omega) Ab)))
 have e:YO a0 a1 a2 a3=wrK a0 a1 a2 a3∧YP a0 a1 a2 a3=wrE a0 a1 a2 a3∧YQ a0 a1 a2 a3=wrL a0 a1 a2 a3:=by
  have k0:BS a0 a1 a2 a3=(Ap a0 a1 !=0):=rfl
  unfold YO YP YQ wrK wrL wrE
  rw[k0]
  cases g1:Ap a0 a1 !=0 with
  |true=>
   have:(Ap a0 a1==0)=false:=by simpa using g1
   simp only[cond_true,this]
   refine⟨?_,?_,?_⟩<;>first|rfl|trivial
  | false=>
   have g0:Ap a0 a1=0:=by simpa using g1
   have hp:(AX a0 !=0)=false:=by rw[(AT g0).1];rfl
   have e1:JV a0 a2=bif Dl a0 a2 then 70 else 0:=by
    unfold JV GC
    rw[hp]
    rfl
   have kk:Dl a0 a2=(decide (a2 <0)||decide (a2≥(a0.length:Int))):=rfl
   rw[k1 g0,e1,←kk]
   cases g2:Dl a0 a2 with
   |true=>refine⟨?_,?_,?_⟩<;>first|rfl|trivial
   | false=>
    have e0:C5 a0 a2=Adx a0 a2.toNat:=by
     unfold C5 GC
     rw[hp,g2]
     rfl
    rw[e0,IZ]
    cases BC (Adx a0 a2.toNat) a3<;>refine⟨?_,?_,?_⟩<;>first|rfl|trivial
 unfold YS YR at h
 rw[e.1,e.2.1,e.2.2] at h
 exact h
def YT:List A→Nat→Objs→Option A9
 | [y0,y1,y2,y3],nx,o=>match Jt .group y0,AQ .row y1,AQ .i64 y2,AQ .cell y3 with
  |some a0,some (a1,p1),some (a2,p2),some (a3,p3)=>some (1,(Ak2 a0 a1 a2 a3).pk (AC nx),nx+1,AB nx (Ak1 a0 a1 a2 a3)++o,p1++(p2++(p3++(Ace a0 a1 a2 a3))))
  |_,_,_,_=>none
 |_,_,_=>none
theorem A5f:EV Try.prog 72 YT:=fun args nx o k x nx' o' ps h=>by
 unfold YT at h
 split at h<;>first|(cases h;done)|skip
 split at h<;>first|(cases h;done)|skip
 rename_i a0 a1 p1 a2 p2 a3 p3 e0 e1 e2 e3
 cases h
 refine⟨fun hp=>?_,_,rfl⟩
 have q1:=fun p hm=>hp p (List.mem_append.2 (.inl hm))
 have r1:=fun p hm=>hp p (List.mem_append.2 (.inr hm))
 have q2:=fun p hm=>r1 p (List.mem_append.2 (.inl hm))
 have r2:=fun p hm=>r1 p (List.mem_append.2 (.inr hm))
 have q3:=fun p hm=>r2 p (List.mem_append.2 (.inl hm))
 have r3:=fun p hm=>r2 p (List.mem_append.2 (.inr hm))
 refine Ah (Ag (Bb3 a0 a1 a2 a3 r3) (Nat.le_refl _) (Ac rfl (Ac (Af _ _) (Ac (Af _ _) (Ac (Af _ _) An)))) nx o) fun F N R vs hl=>?_
 obtain⟨v0,w0,rfl,h0,hl⟩:=hl.inv
 obtain⟨v1,w1,rfl,h1,hl⟩:=hl.inv
 obtain⟨v2,w2,rfl,h2,hl⟩:=hl.inv
 obtain⟨v3,w3,rfl,h3,hl⟩:=hl.inv
 exact HL.cons (BL e0 h0) (HL.cons (Am e1 q1 h1) (HL.cons (Am e2 q2 h2) (HL.cons (Am e3 q3 h3) (hl))))
noncomputable def B4h:=A7 72 YT B25
theorem Bym:CU Try.prog B4h:=Aw A5f Bof
noncomputable def Cs:=B4h
theorem B1n:CU Try.prog Cs:=Bym
end Go.Proofs.Yteebobbhhgmeiaa
namespace Go.Proofs.Yteebobbhhgmeiaa
open Go.RowKit
structure Stt (l:List TGroup) (rows:List TRow):Prop where
 rise:Js rows
 good:∀r∈rows,Ap l r=0∧Bu r=false
theorem Bp2 {l:List TGroup} {rows:List TRow} (hp:AX l=0):Fy l rows=0↔Stt l rows:=by
 constructor
 ·intro h
  have h2:=(Awd.1 h).2
  refine⟨B0b h2,fun r hr=>?_⟩
  obtain⟨i,hi,rfl⟩:=List.getElem_of_mem hr
  have:=Bkb.1 (h2 i hi)
  rw[TB hi] at this
  exact⟨this.1,this.2.1⟩
 ·exact fun h=>A83 hp h.good h.rise
theorem Bp3 (l:List TGroup):Stt l []:=⟨List.Pairwise.nil,fun r hr=>by cases hr⟩
theorem Stt.tail {l:List TGroup} {x:TRow} {a:List TRow} (h:Stt l (x::a)):Stt l a:=⟨(List.pairwise_cons.1 h.rise).2,fun r hr=>h.good r (List.mem_cons_of_mem _ hr)⟩
def P4 (rows:List TRow) (k:ByteArray):Option TRow:=rows.find? fun r=>r.key==k
theorem BM (x:TRow) (a:List TRow) (k:ByteArray):P4 (x::a) k=if x.key=k then some x else P4 a k:=by
 unfold P4
 rw[List.find?_cons]
 by_cases h:x.key=k
 ·rw[if_pos h,beq_iff_eq.2 h]
 ·rw[if_neg h,beq_eq_false_iff_ne.2 h]
theorem Awa {a:List TRow} {k:ByteArray} {r:TRow} (h:P4 a k=some r):r.key=k:=by
 have:=List.find?_some h
 exact eq_of_beq this
theorem Bor {a:List TRow} {k:ByteArray} {r:TRow} (h:P4 a k=some r):r∈a:=List.mem_of_find?_eq_some h
theorem Bt8 {x:TRow} {a:List TRow} (h:Js (x::a)) {k:ByteArray} {r:TRow} (hf:P4 a k=some r):Ii x.key k=true:=by
 rw[←Awa hf]
 exact(List.pairwise_cons.1 h).1 r (Bor hf)
theorem Aw0 {x:TRow} {a:List TRow} (h:Js (x::a)):P4 a x.key=none:=by
 cases hf:P4 a x.key with
 |none=>rfl
 |some r=>exact absurd rfl (O6 (Bt8 h hf))
theorem Bq2 {a b:ByteArray} (h:Ii a b=true):Ii b a=false:=by
 cases g:Ii b a with
 |false=>rfl
 |true=>exact absurd rfl (O6 (Kl h g))
theorem Qa {x:TRow} {a:List TRow} (h:Js (x::a)) {k:ByteArray} (hk:Ii k x.key=true):P4 (x::a) k=none:=by
 rw[BM,if_neg (fun e=>O6 hk e.symm)]
 cases hf:P4 a k with
 |none=>rfl
 |some r=>
  have:=Bq2 (Bt8 h hf)
  rw[hk] at this
  cases this
theorem Bie:∀{a b:List TRow},Js a→Js b→(∀k,P4 a k=P4 b k)→a=b
 | [],[],_,_,_=>rfl
 |x::a,[],_,_,h=>by
  have:=h x.key
  rw[BM,if_pos rfl] at this
  cases this
 | [],y::b,_,_,h=>by
  have:=h y.key
  rw[BM,if_pos rfl] at this
  cases this
 | x ::a,y::b,ha,hb,h=>by
  have hxy:x.key=y.key:=by
   cases h1:Ii x.key y.key with
   |true=>
    have:=h x.key
    rw[BM,if_pos rfl,Qa hb h1] at this
    cases this
   | false=>
    cases h2:Ii y.key x.key with
    |true=>
     have:=h y.key
     rw[Qa ha h2,BM,if_pos rfl] at this
     cases this
    |false=>
     by_cases e:x.key=y.key
     ·exact e
     ·rw[Ov h1 e] at h2;cases h2
  have hx:x=y:=by
   have:=h x.key
   rw[BM,if_pos rfl,BM,if_pos hxy.symm] at this
   exact Option.some.inj this
  subst hx
  congr 1
  refine Bie (List.pairwise_cons.1 ha).2 (List.pairwise_cons.1 hb).2 fun k=>?_
  by_cases e:x.key=k
  ·subst e
   rw[Aw0 ha,Aw0 hb]
  ·have:=h k
   rwa[BM,BM,if_neg e,if_neg e] at this
def Bv8:Option TRow→Option TRow→Option TRow
 |some x,some y=>some (jnR x y)
 |some x,none=>some x
 |none,y=>y
theorem Zw (x:Option TRow):Bv8 x none=x:=by cases x<;>rfl
def mrg:Nat→List TRow→List TRow→List TRow
 |0,_,_=>[]
 |_+1,[],[]=>[]
 |n+1,x::a,[]=>x::mrg n a []
 |n+1,[],y::b=>y::mrg n [] b
 |n+1,x::a,y::b=>bif Ii x.key y.key then x::mrg n a (y::b) else bif Ii y.key x.key then y::mrg n (x::a) b else jnR x y::mrg n a b
theorem A9h {x y:ByteArray} (h1:Ii x y=false) (h2:Ii y x=false):x=y:=by
 by_cases e:x=y
 ·exact e
 ·rw[Ov h1 e] at h2;cases h2
theorem Ta:∀(n:Nat) {a b:List TRow},Js a→Js b→a.length+b.length≤n→∀k,P4 (mrg n a b) k=Bv8 (P4 a k) (P4 b k)
 |0,a,b,_,_,hn,k=>by
  have h1:a=[]:=List.eq_nil_of_length_eq_zero (by omega)
  have h2:b=[]:=List.eq_nil_of_length_eq_zero (by omega)
  subst h1 h2
  rfl
 |n+1,[],[],_,_,_,k=>rfl
 |n+1,x::a,[],ha,hb,hn,k=>by
  have ih:=Ta n (List.pairwise_cons.1 ha).2 hb (by simp at hn⊢;omega) k
  show P4 (x::mrg n a []) k=Bv8 (P4 (x::a) k) none
  have e:P4 [] k=none:=rfl
  rw[BM,BM,ih,e,Zw,Zw]
 |n+1,[],y::b,ha,hb,hn,k=>by
  have ih:=Ta n ha (List.pairwise_cons.1 hb).2 (by simp at hn⊢;omega) k
  show P4 (y::mrg n [] b) k=P4 (y::b) k
  rw[BM,BM,ih]
  rfl
 | n +1,x::a,y::b,ha,hb,hn,k=>by
  simp only[List.length_cons] at hn
  show P4 (bif Ii x.key y.key then x::mrg n a (y::b) else bif Ii y.key x.key then y::mrg n (x::a) b else jnR x y::mrg n a b) k=_
  cases h1:Ii x.key y.key with
  | true=>
   have ih:=Ta n (List.pairwise_cons.1 ha).2 hb (by simp;omega) k
   rw[cond_true,BM,ih,BM x a]
   by_cases e:x.key=k
   ·rw[if_pos e,if_pos e,←e,Qa hb h1]
    rfl
   ·rw[if_neg e,if_neg e]
  | false=>
   cases h2:Ii y.key x.key with
   | true=>
    have ih:=Ta n ha (List.pairwise_cons.1 hb).2 (by simp;omega) k
    rw[cond_false,cond_true,BM,ih,BM y b]
    by_cases e:y.key=k
    ·rw[if_pos e,if_pos e,←e,Qa ha h2]
     rfl
    ·rw[if_neg e,if_neg e]
   | false=>
    have hxy:=A9h h1 h2
    have ih:=Ta n (List.pairwise_cons.1 ha).2 (List.pairwise_cons.1 hb).2 (by omega) k
    rw[cond_false,cond_false,BM,ih,BM x a,BM y b]
    show(if x.key=k then _ else _)=_
    by_cases e:x.key=k
    ·rw[if_pos e,if_pos e,if_pos (hxy▸e)]
     rfl
    ·rw[if_neg e,if_neg e,if_neg (hxy▸e)]
theorem ML:∀(n:Nat) {a b:List TRow} {r:TRow},r∈mrg n a b→(∃x∈a,r.key=x.key)∨(∃y∈b,r.key=y.key)
 |0,_,_,r,h=>by cases h
 |n+1,[],[],r,h=>by cases h
 | n+1,x::a,[],r,h=>by
  rcases List.mem_cons.1 h with rfl|h
  ·exact .inl ⟨r,List.mem_cons_self ..,rfl⟩
  ·rcases ML n h with⟨z,hz,e⟩|⟨z,hz,e⟩
   ·exact .inl ⟨z,List.mem_cons_of_mem _ hz,e⟩
   ·exact .inr ⟨z,hz,e⟩
 | n+1,[],y::b,r,h=>by
  rcases List.mem_cons.1 h with rfl|h
  ·exact .inr ⟨r,List.mem_cons_self ..,rfl⟩
  ·rcases ML n h with⟨z,hz,e⟩|⟨z,hz,e⟩
   ·exact .inl ⟨z,hz,e⟩
   ·exact .inr ⟨z,List.mem_cons_of_mem _ hz,e⟩
 | n +1,x::a,y::b,r,h=>by
  have h':r∈(bif Ii x.key y.key then x::mrg n a (y::b) else bif Ii y.key x.key then y::mrg n (x::a) b else jnR x y::mrg n a b):=h
  cases h1:Ii x.key y.key with
  | true=>
   rw[h1] at h'
   rcases List.mem_cons.1 h' with rfl|h'
   ·exact .inl ⟨r,List.mem_cons_self ..,rfl⟩
   ·rcases ML n h' with⟨z,hz,e⟩|⟨z,hz,e⟩
    ·exact .inl ⟨z,List.mem_cons_of_mem _ hz,e⟩
    ·exact .inr ⟨z,hz,e⟩
  | false=>
   rw[h1] at h'
   cases h2:Ii y.key x.key with
   | true=>
    rw[h2] at h'
    rcases List.mem_cons.1 h' with rfl|h'
    ·exact .inr ⟨r,List.mem_cons_self ..,rfl⟩
    ·rcases ML n h' with⟨z,hz,e⟩|⟨z,hz,e⟩
     ·exact .inl ⟨z,hz,e⟩
     ·exact .inr ⟨z,List.mem_cons_of_mem _ hz,e⟩
   | false=>
    rw[h2] at h'
    rcases List.mem_cons.1 h' with rfl|h'
    ·exact .inl ⟨x,List.mem_cons_self ..,rfl⟩
    ·rcases ML n h' with⟨z,hz,e⟩|⟨z,hz,e⟩
     ·exact .inl ⟨z,List.mem_cons_of_mem _ hz,e⟩
     ·exact .inr ⟨z,List.mem_cons_of_mem _ hz,e⟩
theorem Ph:∀(n:Nat) {a b:List TRow},Js a→Js b→Js (mrg n a b)
 |0,_,_,_,_=>List.Pairwise.nil
 |n+1,[],[],_,_=>List.Pairwise.nil
 |n+1,x::a,[],ha,hb=>by
  refine List.pairwise_cons.2 ⟨fun r hr=>?_,Ph n (List.pairwise_cons.1 ha).2 hb⟩
  rcases ML n hr with⟨z,hz,e⟩|⟨z,hz,_⟩
  ·rw[e];exact(List.pairwise_cons.1 ha).1 z hz
  ·cases hz
 |n+1,[],y::b,ha,hb=>by
  refine List.pairwise_cons.2 ⟨fun r hr=>?_,Ph n ha (List.pairwise_cons.1 hb).2⟩
  rcases ML n hr with⟨z,hz,_⟩|⟨z,hz,e⟩
  ·cases hz
  ·rw[e];exact(List.pairwise_cons.1 hb).1 z hz
 | n +1,x::a,y::b,ha,hb=>by
  have a1:=List.pairwise_cons.1 ha
  have b1:=List.pairwise_cons.1 hb
  show Js (bif Ii x.key y.key then x::mrg n a (y::b) else bif Ii y.key x.key then y::mrg n (x::a) b else jnR x y::mrg n a b)
  cases h1:Ii x.key y.key with
  | true=>
   refine List.pairwise_cons.2 ⟨fun r hr=>?_,Ph n a1.2 hb⟩
   rcases ML n hr with⟨z,hz,e⟩|⟨z,hz,e⟩
   ·rw[e];exact a1.1 z hz
   ·rw[e]
    rcases List.mem_cons.1 hz with rfl|hz
    ·exact h1
    ·exact Kl h1 (b1.1 z hz)
  | false=>
   cases h2:Ii y.key x.key with
   | true=>
    refine List.pairwise_cons.2 ⟨fun r hr=>?_,Ph n ha b1.2⟩
    rcases ML n hr with⟨z,hz,e⟩|⟨z,hz,e⟩
    ·rw[e]
     rcases List.mem_cons.1 hz with rfl|hz
     ·exact h2
     ·exact Kl h2 (a1.1 z hz)
    ·rw[e];exact b1.1 z hz
   |false=>
    have hxy:=A9h h1 h2
    refine List.pairwise_cons.2 ⟨fun r hr=>?_,Ph n a1.2 b1.2⟩
    show Ii x.key r.key=true
    rcases ML n hr with⟨z,hz,e⟩|⟨z,hz,e⟩
    ·rw[e];exact a1.1 z hz
    ·rw[e,hxy];exact b1.1 z hz
def YW (r:TRow):List TRow→List TRow
 | []=>[r]
 |x::a=>bif Ii x.key r.key then x::YW r a else r::(bif x.key==r.key then a else x::a)
theorem A2t {r:TRow}:∀{a:List TRow} {z:TRow},z∈YW r a→z=r∨z∈a
 | [],z,h=> .inl (List.mem_singleton.1 h)
 | x::a,z,h=>by
  unfold YW at h
  cases h1:Ii x.key r.key with
  | true=>
   rw[h1,cond_true] at h
   rcases List.mem_cons.1 h with rfl|h
   ·exact .inr (List.mem_cons_self ..)
   ·rcases A2t h with h|h
    ·exact .inl h
    ·exact .inr (List.mem_cons_of_mem _ h)
  | false=>
   rw[h1,cond_false] at h
   rcases List.mem_cons.1 h with rfl|h
   ·exact .inl rfl
   ·cases h2:x.key==r.key with
    |true=>rw[h2] at h;exact .inr (List.mem_cons_of_mem _ h)
    |false=>rw[h2] at h;exact .inr h
theorem A7i {r:TRow}:∀{a:List TRow},Js a→Js (YW r a)
 | [],_=>List.pairwise_cons.2 ⟨fun _ h=>(by cases h),List.Pairwise.nil⟩
 | x::a,h=>by
  have h1:=List.pairwise_cons.1 h
  unfold YW
  cases h2:Ii x.key r.key with
  |true=>
   refine List.pairwise_cons.2 ⟨fun z hz=>?_,A7i h1.2⟩
   rcases A2t hz with rfl|hz
   ·exact h2
   ·exact h1.1 z hz
  | false=>
   rw[cond_false]
   cases h3:x.key==r.key with
   |true=>
    have e:=eq_of_beq h3
    refine List.pairwise_cons.2 ⟨fun z hz=>?_,h1.2⟩
    rw[←e]
    exact h1.1 z hz
   |false=>
    have hne:x.key≠r.key:=by simpa using h3
    have hlt:=Ov h2 hne
    refine List.pairwise_cons.2 ⟨fun z hz=>?_,h⟩
    rcases List.mem_cons.1 hz with rfl|hz
    ·exact hlt
    ·exact Kl hlt (h1.1 z hz)
theorem Bpz {r:TRow} (k:ByteArray):∀{a:List TRow},Js a→P4 (YW r a) k=if r.key=k then some r else P4 a k
 | [],_=>BM r [] k
 | x::a,h=>by
  have h1:=List.pairwise_cons.1 h
  unfold YW
  cases h2:Ii x.key r.key with
  |true=>
   rw[cond_true,BM,Bpz k h1.2,BM]
   by_cases e:x.key=k
   ·rw[if_pos e,if_neg (fun e2=>O6 h2 (e.trans e2.symm)),if_pos e]
   ·rw[if_neg e,if_neg e]
  | false=>
   rw[cond_false,BM]
   cases h3:x.key==r.key with
   |true=>
    have e:=eq_of_beq h3
    rw[cond_true,BM]
    by_cases e2:r.key=k
    ·rw[if_pos e2,if_pos e2]
    ·rw[if_neg e2,if_neg e2,if_neg (fun e3=>e2 (e.symm.trans e3))]
   |false=>rfl
def Li (a:List TRow) (r:TRow):List TRow:=bif Bu r then a else YW (match P4 a r.key with
 |some x=>jnR x r
 |none=>r) a
def CW (a b:List TRow):List TRow:=b.foldl Li a
theorem Ags {a:List TRow} (h:Js a) (r:TRow):Js (Li a r):=by
 unfold Li
 cases Bu r with
 |true=>exact h
 |false=>exact A7i h
theorem Bx6 {a:List TRow} (h:Js a) {r:TRow} (hr:Bu r=false) (k:ByteArray):P4 (Li a r) k=if r.key=k then Bv8 (P4 a k) (some r) else P4 a k:=by
 unfold Li
 rw[hr,cond_false,Bpz k h]
 by_cases e:r.key=k
 ·subst e
  cases hf:P4 a r.key with
  |none=>rw[if_pos rfl,if_pos rfl];rfl
  |some x=>
   have hx:(jnR x r).key=r.key:=(show x.key=r.key from Awa hf)
   show(if(jnR x r).key=r.key then some (jnR x r) else some x)=_
   rw[if_pos hx,if_pos rfl]
   rfl
 ·rw[if_neg e]
  cases hf:P4 a r.key with
  |none=>exact if_neg e
  |some x=>
   have hx:(jnR x r).key=r.key:=(show x.key=r.key from Awa hf)
   exact if_neg (fun e2=>e (hx.symm.trans e2))
theorem Ah5:∀{b a:List TRow},Js a→Js (CW a b)
 | [],_,h=>h
 |y::b,_,h=>Ah5 (b:=b) (Ags h y)
theorem Ayb (k:ByteArray):∀{b a:List TRow},Js a→Js b→(∀r∈b,Bu r=false)→P4 (CW a b) k=Bv8 (P4 a k) (P4 b k)
 | [],_,_,_,_=>(Zw _).symm
 |y::b,a,h,hb,hn=>by
  have ih:=Ayb k (b:=b) (a:=Li a y) (Ags h y) (List.pairwise_cons.1 hb).2 fun r hr=>hn r (List.mem_cons_of_mem _ hr)
  show P4 (CW (Li a y) b) k=_
  rw[ih,Bx6 h (hn y (List.mem_cons_self ..)),BM]
  by_cases e:y.key=k
  ·rw[if_pos e,if_pos e,←e,Aw0 hb,Zw]
  ·rw[if_neg e,if_neg e]
theorem Bkl {a b:List TRow} (ha:Js a) (hb:Js b) (hn:∀r∈b,Bu r=false) {n:Nat} (h:a.length+b.length≤n):CW a b=mrg n a b:=
 Bie (Ah5 ha) (Ph n ha hb) fun k=>by rw[Ayb k ha hb hn,Ta n ha hb h]
theorem Bxv {p:Int} {a:TCell} (h:BC p a=true):Kv zeroC a=a:=by
 rw[A24,Bge h]
 have:Nr zeroC.dead a.dead=a.dead:=by
  have:=(Bqw.1 (A6g h))
  show TVec.mk (max 0 a.dead.a) (max 0 a.dead.b)=a.dead
  exact Bcs (by show max 0 a.dead.a=a.dead.a;omega) (by show max 0 a.dead.b=a.dead.b;omega)
 rw[this]
 rfl
theorem Bi9 {p:Int} {a b:TCell} (h:BC p a=true) (e:Kv a b=zeroC):a=zeroC:=by
 have h1:Kv a (Kv a b)=Kv a b:=by rw[←Bsb,Bxt h]
 rw[e,Bxr,Bxv h] at h1
 exact h1
theorem Beb {r:TRow}:Bu r=true↔∀i,i <r.cells.length→Ig r.cells i=zeroC:=by
 unfold Bu
 rw[List.all_eq_true]
 constructor
 ·intro h i hi
  have e:Ig r.cells i=r.cells[i]:=by unfold Ig;rw[List.getD_eq_getElem?_getD,List.getElem?_eq_getElem hi];rfl
  rw[e]
  exact Ahi.1 (h _ (List.getElem_mem hi))
 ·intro h c hc
  obtain⟨i,hi,rfl⟩:=List.getElem_of_mem hc
  have e:Ig r.cells i=r.cells[i]:=by unfold Ig;rw[List.getD_eq_getElem?_getD,List.getElem?_eq_getElem hi];rfl
  rw[←e]
  exact Ahi.2 (h i hi)
theorem Bft {l:List TGroup} {a b:TRow} (ha:Ap l a=0) (hb:Ap l b=0) (h:Bu a=false):Bu (jnR a b)=false:=by
 cases hj:Bu (jnR a b) with
 |false=>rfl
 | true=>
  have h1:=Beb.1 hj
  have hl:=(AT ha).2.1
  have:Bu a=true:=Beb.2 fun i hi=>by
   have h2:=h1 i (by rw[A86 (b:=b) ha];omega)
   rw[Bvm ha hb (by omega)] at h2
   exact Bi9 (K3 ha (by omega)) h2
  rw[h] at this
  cases this
theorem Zs {l:List TGroup}:∀(n:Nat) {a b:List TRow},Stt l a→Stt l b→∀r∈mrg n a b,Ap l r=0∧Bu r=false
 |0,_,_,_,_,r,hr=>by cases hr
 |n+1,[],[],_,_,r,hr=>by cases hr
 |n+1,x::a,[],ha,hb,r,hr=>by
  rcases List.mem_cons.1 hr with rfl|hr
  ·exact ha.good r (List.mem_cons_self ..)
  ·exact Zs n ha.tail hb r hr
 |n+1,[],y::b,ha,hb,r,hr=>by
  rcases List.mem_cons.1 hr with rfl|hr
  ·exact hb.good r (List.mem_cons_self ..)
  ·exact Zs n ha hb.tail r hr
 | n +1,x::a,y::b,ha,hb,r,hr=>by
  have hr':r∈(bif Ii x.key y.key then x::mrg n a (y::b) else bif Ii y.key x.key then y::mrg n (x::a) b else jnR x y::mrg n a b):=hr
  cases h1:Ii x.key y.key with
  |true=>
   rw[h1] at hr'
   rcases List.mem_cons.1 hr' with rfl|hr'
   ·exact ha.good r (List.mem_cons_self ..)
   ·exact Zs n ha.tail hb r hr'
  | false=>
   rw[h1] at hr'
   cases h2:Ii y.key x.key with
   |true=>
    rw[h2] at hr'
    rcases List.mem_cons.1 hr' with rfl|hr'
    ·exact hb.good r (List.mem_cons_self ..)
    ·exact Zs n ha hb.tail r hr'
   | false=>
    rw[h2] at hr'
    rcases List.mem_cons.1 hr' with rfl|hr'
    ·obtain⟨g1,g2⟩:=ha.good x (List.mem_cons_self ..)
     obtain⟨g3,_⟩:=hb.good y (List.mem_cons_self ..)
     exact⟨Bfu g1 g3,Bft g1 g3 g2⟩
    ·exact Zs n ha.tail hb.tail r hr'
theorem Stt.mrg {l:List TGroup} {a b:List TRow} (n:Nat) (ha:Stt l a) (hb:Stt l b):Stt l (Go.Proofs.Yteebobbhhgmeiaa.mrg n a b):=⟨Ph n ha.rise hb.rise,Zs n ha hb⟩
theorem Bd8 {l:List TGroup} {a:List TRow} (h:Stt l a) {k:ByteArray} {r:TRow} (hr:P4 a k=some r):Ap l r=0∧Bu r=false:=h.good r (Bor hr)
end Go.Proofs.Yteebobbhhgmeiaa
namespace Go.Proofs.Yteebobbhhgmeiaa
open Go.RowKit
theorem Bca {X:Type} (mk:Nat→X) (n:Nat) (next:X→X) (goes:X→Cnd) (ps:X→List Prop) (f:Nat) (x:X) (hx:x=mk 0) (hf:n≤f)
  (hg:∀i,i≤n→Bs (goes (mk i))=decide (i <n)) (hn:∀i,i <n→next (mk i)=mk (i+1)) (hp:∀i,i≤n→∀p∈ps (mk i),p):
  AK next goes ps f x∧Bc next goes f x=mk n:=by
 obtain⟨h1,k,hk,hx,_,hst,_⟩:=IN mk n (fun _=>false) next goes ps f x hx hf (fun i hi _=>by rw[hg i hi,Bool.not_false,Bool.and_true]) (fun i hi _=>hn i hi) (fun i hi _=>hp i hi)
 have hkn:k=n:=by
  rcases Nat.lt_or_ge k n with h|h
  ·exact absurd (hst h) (by decide)
  ·omega
 subst hkn
 exact⟨h1,hx⟩
theorem A9x (n:Nat):((n:Int)==(0:Int))=(n==0):=by
 rw[Bool.eq_iff_iff,beq_iff_eq,beq_iff_eq]
 omega
theorem Ald {α:Type} (l:List α) (d:α) (i:Nat) (h:i <l.length):l.take (i+1)=l.take i++[l.getD i d]:=by
 rw[List.take_add_one,List.getD_eq_getElem?_getD,List.getElem?_eq_getElem h]
 rfl
def V3 (r:TRow) (s:List TRow×Bool) (x:TRow):List TRow×Bool:=
 ((bif !s.2&&!Ii x.key r.key then s.1++[r] else s.1)++(bif x.key==r.key then[] else[x]),s.2||!Ii x.key r.key)
def Lj (r:TRow) (l:List TRow) (i:Nat):List TRow×Bool:=(l.take i).foldl (V3 r) ([],false)
theorem A7e (r:TRow) (l:List TRow) (i:Nat) (h:i <l.length):Lj r l (i+1)=V3 r (Lj r l i) (B5 l i):=by
 unfold Lj
 rw[Ald l (Ae TC.row) i h,List.foldl_append]
 rfl
def Bu0 (r:TRow) (s:List TRow×Bool):List TRow:=bif s.2 then s.1 else s.1++[r]
theorem Br1 (r:TRow) (s:List TRow×Bool) (x:TRow):(V3 r s x).1.length≤s.1.length+2:=by
 unfold V3
 rw[List.length_append]
 cases !s.2&&!Ii x.key r.key<;>cases x.key==r.key<;>simp
theorem A2q (r:TRow) (l:List TRow):∀i,i≤l.length→(Lj r l i).1.length≤2*i
 |0,_=>Nat.le_refl _
 |i+1,h=>by
  have ih:=A2q r l i (by omega)
  rw[A7e r l i (by omega)]
  have:=Br1 r (Lj r l i) (B5 l i)
  omega
theorem Axw (r:TRow):∀(l:List TRow) (o:List TRow),(∀y∈l,y.key≠r.key)→l.foldl (V3 r) (o,true)=(o++l,true)
 | [],o,_=>by rw[List.append_nil];rfl
 | x::a,o,h=>by
  have hx:(x.key==r.key)=false:=by simpa using h x (List.mem_cons_self ..)
  have e:V3 r (o,true) x=(o++[x],true):=by
   unfold V3
   rw[hx]
   rfl
  rw[List.foldl_cons,e,Axw r a _ fun y hy=>h y (List.mem_cons_of_mem _ hy),List.append_assoc]
  rfl
theorem A6k (r:TRow):∀(l:List TRow) (o:List TRow),Js l→Bu0 r (l.foldl (V3 r) (o,false))=o++YW r l
 | [],o,_=>rfl
 | x::a,o,h=>by
  have h1:=List.pairwise_cons.1 h
  rw[List.foldl_cons]
  cases hl:Ii x.key r.key with
  | true=>
   have hx:(x.key==r.key)=false:=by simpa using O6 hl
   have e:V3 r (o,false) x=(o++[x],false):=by
    unfold V3
    rw[hl,hx]
    rfl
   have e2:YW r (x::a)=x::YW r a:=by
    show(bif Ii x.key r.key then x::YW r a else _)=_
    rw[hl]
    rfl
   rw[e,A6k r a _ h1.2,List.append_assoc,e2]
   rfl
  | false=>
   have hne:∀y∈a,y.key≠r.key:=fun y hy e=>by
    have:=h1.1 y hy
    rw[e,hl] at this
    cases this
   have e:V3 r (o,false) x=((o++[r])++(bif x.key==r.key then[] else[x]),true):=by
    unfold V3
    rw[hl]
    rfl
   have e2:YW r (x::a)=r::(bif x.key==r.key then a else x::a):=by
    show(bif Ii x.key r.key then x::YW r a else _)=_
    rw[hl]
    rfl
   rw[e,Axw r a _ hne,e2]
   unfold Bu0
   cases x.key==r.key<;>simp
theorem Bwx {r:TRow} {l:List TRow} (h:Js l):Bu0 r (Lj r l l.length)=YW r l:=by
 unfold Lj
 rw[List.take_length,A6k r l [] h,List.nil_append]
theorem Bd9 (key:ByteArray):∀(l:List TRow) (k:Nat),k≤l.length→(∀j,j <k→((B5 l j).key==key)=false)→(k <l.length→((B5 l k).key==key)=true)→P4 l key=if k <l.length then some (B5 l k) else none
 | [],k,_,_,_=>(if_neg (Nat.not_lt_zero k)).symm
 |x::a,0,_,_,h=>by
  have h2:(x.key==key)=true:=h (Nat.zero_lt_succ _)
  rw[BM,if_pos (eq_of_beq h2)]
  exact(if_pos (Nat.zero_lt_succ a.length)).symm
 | x::a,k+1,hk,h0,h=>by
  have h2:(x.key==key)=false:=h0 0 (Nat.zero_lt_succ _)
  rw[BM,if_neg (by simpa using h2),Bd9 key a k (Nat.le_of_succ_le_succ hk) (fun j hj=>h0 (j+1) (Nat.succ_lt_succ hj)) (fun hk=>h (Nat.succ_lt_succ hk))]
  by_cases hl:k <a.length
  ·rw[if_pos hl]
   exact(if_pos (show k+1 <(x::a).length from Nat.succ_lt_succ hl)).symm
  ·rw[if_neg hl]
   exact(if_neg (show ¬k+1 <(x::a).length from fun h=>hl (Nat.lt_of_succ_lt_succ h))).symm
theorem Bi0 (r:TRow):∀l:List TRow,(YW r l).length≤l.length+1
 | []=>Nat.le_refl _
 | x::a=>by
  have:=Bi0 r a
  unfold YW
  cases Ii x.key r.key with
  |true=>rw[cond_true,List.length_cons,List.length_cons];omega
  |false=>
   cases x.key==r.key with
   |true=>rw[cond_false,cond_true,List.length_cons,List.length_cons];omega
   |false=>rw[cond_false,cond_false,List.length_cons,List.length_cons];omega
theorem Bsh (a:List TRow) (r:TRow):(Li a r).length≤a.length+1:=by
 unfold Li
 cases Bu r with
 |true=>exact Nat.le_succ _
 |false=>exact Bi0 _ _
theorem Zr:∀(n:Nat) (a b:List TRow),(mrg n a b).length≤a.length+b.length
 |0,_,_=>Nat.zero_le _
 |_+1,[],[]=>Nat.zero_le _
 |n+1,x::a,[]=>by
  have:=Zr n a []
  show(x::mrg n a []).length≤_
  rw[List.length_cons,List.length_cons]
  omega
 |n+1,[],y::b=>by
  have:=Zr n [] b
  show(y::mrg n [] b).length≤_
  rw[List.length_cons,List.length_cons]
  omega
 | n+1,x::a,y::b=>by
  unfold mrg
  cases Ii x.key y.key with
  |true=>
   have:=Zr n a (y::b)
   rw[cond_true,List.length_cons,List.length_cons]
   omega
  | false=>
   cases Ii y.key x.key with
   |true=>
    have:=Zr n (x::a) b
    rw[cond_false,cond_true,List.length_cons]
    simp only[List.length_cons] at this⊢
    omega
   |false=>
    have:=Zr n a b
    rw[cond_false,cond_false,List.length_cons,List.length_cons,List.length_cons]
    omega
end Go.Proofs.Yteebobbhhgmeiaa
namespace Go.Proofs.Yteebobbhhgmeiaa
open Go.RowKit
theorem A6b {P:Program} {f:FuncId} {args:List A} {k:Nat} {e:TypeId} {c:TC} {l:List (U c)} (h:CallOk P f args 0 [] k (.sq 0) 1 [(0,some (.arr e (size c) (.ty c l)))]):CallOk P f args 0 [] k (.sl c l) 0 []:=fun F N R vs hh ha=>
 Calls.mono (P:=P) (h F N R vs hh ha) fun e0 R' ⟨y,F',N',e1,e2,e3,e4,e5⟩=>by
  obtain⟨_,rfl⟩:=e4.sq_inv
  have hob:=e2.ob 0 _ rfl
  obtain⟨_,zs,g1,g2⟩:=id hob
  have hn:∀i j,i <1→(fun _=>none:Nat→Option Nat) i=some j→j <0∧N'.b j=N'.b i∧N'.q j=N'.q i:=fun i j _ hj=>by cases hj
  have hw:Ext F' N' 1 R' (fun g=>F' g∨CY (N'.q 0)=some g) N' 1 R':=Ext.wide fun g hg=> .inl hg
  have q1:=(ZB (F':=fun g=>F' g∨CY (N'.q 0)=some g) (N:=N') (nx:=1) g1 (fun k hk=>(g2 k hk).step hw) (fun g hg=> .inr hg)).1
  have q2:=Hv.pk (N':=N') (nx':=0) (ρ:=fun _=>none) hn q1
  refine⟨N'.q 0,fun g=>F' g∨CY (N'.q 0)=some g,N',e1,⟨fun g hg=>?_,fun i ob hi=>(by cases hi),fun i ob g hi=>(by cases hi),fun i j x y g hi=>(by cases hi)⟩,⟨Nat.le_refl _,fun i hi=>absurd hi (Nat.not_lt_zero _),fun i hi=>absurd hi (Nat.not_lt_zero _),fun g hg=> .inl (e3.f g hg),fun g hg=>?_,fun g ⟨i,ob,hi,_⟩=>(by cases hi),e3.os,e3.tape,e3.output,e3.size,e3.keep⟩,q2,e5⟩
  ·rcases hg with hg|hg
   ·exact e2.flt g hg
   ·exact hob.2.lt hg
  ·rcases hg with hg|hg
   ·exact e3.fnew g hg
   ·rcases e3.foot g ⟨0,_,rfl,hg⟩ with h|h
    ·exact .inr (.inl h)
    ·exact .inr (.inr h)
end Go.Proofs.Yteebobbhhgmeiaa
namespace Go.Proofs.Yteebobbhhgmeiaa
open Go.RowKit
def Xy (a0:TRow):List TCell:=[]++a0.2
def XA (a0:TRow):A:=.agg [.v (.string a0.1),.sq 0]
def Xz (a0:TRow):Objs:=[(0,some (.arr 55 8 (.ty .cell (Xy a0))))]
def Ai8 (a0:TRow):List Prop:=[(Ai ((0:Nat)+a0.2.length))]
set_option maxRecDepth 100000 in
theorem Bac (a0:TRow):ER (AA Cs L0) 9 170 [Ak .row a0] 0 []=some (1,XA a0,1,Xz a0,[(Ai ((0:Nat)+a0.2.length))]):=by kernel_rfl
set_option maxRecDepth 100000 in
theorem Bgi (a0:TRow) (hp:∀p∈Ai8 a0,p):CallOk Try.prog 170 [Ak .row a0] 0 [] 1 (XA a0) 1 (Xz a0):=by
 have n0:=N0 hp
 exact AH (Ax B1n AG) (Bac a0) (Aa n0 Ab)
def XB:List A→Nat→Objs→Option A9
 | [y0],nx,o=>match AQ .row y0 with
  |some (a0,p0)=>some (1,(XA a0).pk (AC nx),nx+1,AB nx (Xz a0)++o,p0++(Ai8 a0))
  |_=>none
 |_,_,_=>none
theorem A37:EV Try.prog 170 XB:=fun args nx o k x nx' o' ps h=>by
 unfold XB at h
 split at h<;>first|(cases h;done)|skip
 split at h<;>first|(cases h;done)|skip
 rename_i a0 p0 e0
 cases h
 refine⟨fun hp=>?_,_,rfl⟩
 have q0:=fun p hm=>hp p (List.mem_append.2 (.inl hm))
 have r0:=fun p hm=>hp p (List.mem_append.2 (.inr hm))
 refine Ah (Ag (Bgi a0 r0) (Nat.le_refl _) (Ac (Af _ _) An) nx o) fun F N R vs hl=>?_
 obtain⟨v0,w0,rfl,h0,hl⟩:=hl.inv
 exact HL.cons (Am e0 q0 h0) (hl)
noncomputable def Bdk:=A7 170 XB Cs
theorem Awo:CU Try.prog Bdk:=Aw A37 B1n
abbrev BV:Type:=(List TGroup)×(List TRow)×(List TRow)×(List TRow)
def Kp (x:BV):St:=⟨91,2,[(0,.sl .group x.1),(1,.sl .row x.2.1),(2,.sl .row x.2.2.1),(6,.dq 1)],[(1,some (.deep 71 .row x.2.2.2))]⟩
def LS:St→Option BV
 |⟨91,2,[(0,.sl .group z0),(1,.sl .row z1),(2,.sl .row z2),(6,.dq 1)],[(1,some (.deep 71 .row z3))]⟩=>some (z0,z1,z2,z3)
 |_=>none
theorem ZT:∀s x,LS s=some x→s=Kp x:=fun s x h=>by
 unfold LS at h
 split at h
 ·cases h;rfl
 ·cases h
def S9:CX:=⟨1,2,[0,1,2,6],[],[(7,1)],[7],[6],[1]⟩
def Am8:Dp:=⟨[.nilD 6 71 .row],[(0,1)],[0,1,2,6],[0]⟩
def AF (_a0:List TGroup) (a1:List TRow) (a2:List TRow) (_a3:List TRow):Bool:=(↑a1.length:Int)==(0:Int)||Op.bytesLess (a2.getD (0:Nat) (Ae TC.row)).1.toList (a1.getD (0:Nat) (Ae TC.row)).1.toList
def Gy (_a0:List TGroup) (_a1:List TRow) (a2:List TRow) (_a3:List TRow):List TRow:=List.take ((↑a2.length:Int).toNat - (1:Nat)) (List.drop (1:Nat) a2)
def Gx (_a0:List TGroup) (a1:List TRow) (_a2:List TRow) (_a3:List TRow):List TRow:=List.take ((↑a1.length:Int).toNat - (1:Nat)) (List.drop (1:Nat) a1)
def Ao (_a0:List TGroup) (a1:List TRow) (a2:List TRow) (_a3:List TRow):Bool:=(↑a1.length:Int)==(0:Int)&&(↑a2.length:Int)==(0:Int)
def Aq (_a0:List TGroup) (a1:List TRow) (a2:List TRow) (_a3:List TRow):Bool:=(↑a2.length:Int)==(0:Int)||decide ((↑a1.length:Int) >(0:Int))&&Op.bytesLess (a1.getD (0:Nat) (Ae TC.row)).1.toList (a2.getD (0:Nat) (Ae TC.row)).1.toList
def Ce (a0:List TGroup) (a1:List TRow) (a2:List TRow) (a3:List TRow):List TRow:=bif(Aq a0 a1 a2 a3) then(Gx a0 a1 a2 a3) else bif(AF a0 a1 a2 a3) then a1 else(Gx a0 a1 a2 a3)
def Cg (a0:List TGroup) (a1:List TRow) (a2:List TRow) (a3:List TRow):List TRow:=bif(Aq a0 a1 a2 a3) then a2 else bif(AF a0 a1 a2 a3) then(Gy a0 a1 a2 a3) else(Gy a0 a1 a2 a3)
def Cm (a0:List TGroup) (a1:List TRow) (a2:List TRow) (a3:List TRow):List TRow:=bif(Aq a0 a1 a2 a3) then a3++[Wb TC.row TC.cell (TRow.mk (a1.getD (0:Nat) (Ae TC.row)).1 []) (Xy (a1.getD (0:Nat) (Ae TC.row)))] else bif(AF a0 a1 a2 a3) then a3++[Wb TC.row TC.cell (TRow.mk (a2.getD (0:Nat) (Ae TC.row)).1 []) (Xy (a2.getD (0:Nat) (Ae TC.row)))] else a3++[Wb TC.row TC.cell (TRow.mk (jnK a0 (a1.getD (0:Nat) (Ae TC.row)) (a2.getD (0:Nat) (Ae TC.row))) []) (jnL a0 (a1.getD (0:Nat) (Ae TC.row)) (a2.getD (0:Nat) (Ae TC.row)))]
def A3 (x:BV):BV:=(x.1,Ce x.1 x.2.1 x.2.2.1 x.2.2.2,Cg x.1 x.2.1 x.2.2.1 x.2.2.2,Cm x.1 x.2.1 x.2.2.1 x.2.2.2)
def A1 (x:BV):Cnd:=some (!(Ao x.1 x.2.1 x.2.2.1 x.2.2.2))
def Pe (x:BV):List Prop:=[((Ao x.1 x.2.1 x.2.2.1 x.2.2.2)=false→decide ((↑x.2.1.length:Int) >(0:Int))=true→((↑x.2.2.1.length:Int)==(0:Int))=false→(0:Int)≤(0:Int)∧(0:Int) <(↑x.2.1.length:Int)),((Ao x.1 x.2.1 x.2.2.1 x.2.2.2)=false→decide ((↑x.2.1.length:Int) >(0:Int))=true→((↑x.2.2.1.length:Int)==(0:Int))=false→(0:Int)≤(0:Int)∧(0:Int) <(↑x.2.2.1.length:Int)),((Ao x.1 x.2.1 x.2.2.1 x.2.2.2)=false→(Aq x.1 x.2.1 x.2.2.1 x.2.2.2)=true→(0:Int)≤(0:Int)∧(0:Int) <(↑x.2.1.length:Int)),((Ao x.1 x.2.1 x.2.2.1 x.2.2.2)=false→(Aq x.1 x.2.1 x.2.2.1 x.2.2.2)=true→Ai ((0:Nat)+(x.2.1.getD (0:Nat) (Ae TC.row)).2.length)),((Ao x.1 x.2.1 x.2.2.1 x.2.2.2)=false→(Aq x.1 x.2.1 x.2.2.1 x.2.2.2)=true→Ai (x.2.2.2.length+(1:Nat))),((Ao x.1 x.2.1 x.2.2.1 x.2.2.2)=false→(Aq x.1 x.2.1 x.2.2.1 x.2.2.2)=true→(0:Int)≤(1:Int)∧(1:Int)≤(↑x.2.1.length:Int)∧(↑x.2.1.length:Int)≤(↑x.2.1.length:Int)),((Ao x.1 x.2.1 x.2.2.1 x.2.2.2)=false→(Aq x.1 x.2.1 x.2.2.1 x.2.2.2)=false→((↑x.2.1.length:Int)==(0:Int))=false→(0:Int)≤(0:Int)∧(0:Int) <(↑x.2.2.1.length:Int)),((Ao x.1 x.2.1 x.2.2.1 x.2.2.2)=false→(Aq x.1 x.2.1 x.2.2.1 x.2.2.2)=false→((↑x.2.1.length:Int)==(0:Int))=false→(0:Int)≤(0:Int)∧(0:Int) <(↑x.2.1.length:Int)),((Ao x.1 x.2.1 x.2.2.1 x.2.2.2)=false→(Aq x.1 x.2.1 x.2.2.1 x.2.2.2)=false→(AF x.1 x.2.1 x.2.2.1 x.2.2.2)=true→(0:Int)≤(0:Int)∧(0:Int) <(↑x.2.2.1.length:Int)),((Ao x.1 x.2.1 x.2.2.1 x.2.2.2)=false→(Aq x.1 x.2.1 x.2.2.1 x.2.2.2)=false→(AF x.1 x.2.1 x.2.2.1 x.2.2.2)=true→Ai ((0:Nat)+(x.2.2.1.getD (0:Nat) (Ae TC.row)).2.length)),((Ao x.1 x.2.1 x.2.2.1 x.2.2.2)=false→(Aq x.1 x.2.1 x.2.2.1 x.2.2.2)=false→(AF x.1 x.2.1 x.2.2.1 x.2.2.2)=true→Ai (x.2.2.2.length+(1:Nat))),((Ao x.1 x.2.1 x.2.2.1 x.2.2.2)=false→(Aq x.1 x.2.1 x.2.2.1 x.2.2.2)=false→(AF x.1 x.2.1 x.2.2.1 x.2.2.2)=true→(0:Int)≤(1:Int)∧(1:Int)≤(↑x.2.2.1.length:Int)∧(↑x.2.2.1.length:Int)≤(↑x.2.2.1.length:Int)),((Ao x.1 x.2.1 x.2.2.1 x.2.2.2)=false→(Aq x.1 x.2.1 x.2.2.1 x.2.2.2)=false→(AF x.1 x.2.1 x.2.2.1 x.2.2.2)=false→(0:Int)≤(0:Int)∧(0:Int) <(↑x.2.1.length:Int)),((Ao x.1 x.2.1 x.2.2.1 x.2.2.2)=false→(Aq x.1 x.2.1 x.2.2.1 x.2.2.2)=false→(AF x.1 x.2.1 x.2.2.1 x.2.2.2)=false→(0:Int)≤(0:Int)∧(0:Int) <(↑x.2.2.1.length:Int)),((Ao x.1 x.2.1 x.2.2.1 x.2.2.2)=false→(Aq x.1 x.2.1 x.2.2.1 x.2.2.2)=false→(AF x.1 x.2.1 x.2.2.1 x.2.2.2)=false→Ai (x.2.2.2.length+(1:Nat))),((Ao x.1 x.2.1 x.2.2.1 x.2.2.2)=false→(Aq x.1 x.2.1 x.2.2.1 x.2.2.2)=false→(AF x.1 x.2.1 x.2.2.1 x.2.2.2)=false→(0:Int)≤(1:Int)∧(1:Int)≤(↑x.2.1.length:Int)∧(↑x.2.1.length:Int)≤(↑x.2.1.length:Int)),((Ao x.1 x.2.1 x.2.2.1 x.2.2.2)=false→(Aq x.1 x.2.1 x.2.2.1 x.2.2.2)=false→(AF x.1 x.2.1 x.2.2.1 x.2.2.2)=false→(0:Int)≤(1:Int)∧(1:Int)≤(↑x.2.2.1.length:Int)∧(↑x.2.2.1.length:Int)≤(↑x.2.2.1.length:Int))]
def Es (x:BV):List Prop:=[((Ao x.1 x.2.1 x.2.2.1 x.2.2.2)=false→decide ((↑x.2.1.length:Int) >(0:Int))=true→((↑x.2.2.1.length:Int)==(0:Int))=false→(0:Int)≤(0:Int)∧(0:Int) <(↑x.2.1.length:Int)),((Ao x.1 x.2.1 x.2.2.1 x.2.2.2)=false→decide ((↑x.2.1.length:Int) >(0:Int))=true→((↑x.2.2.1.length:Int)==(0:Int))=false→(0:Int)≤(0:Int)∧(0:Int) <(↑x.2.2.1.length:Int)),((Ao x.1 x.2.1 x.2.2.1 x.2.2.2)=false→(Aq x.1 x.2.1 x.2.2.1 x.2.2.2)=true→(0:Int)≤(0:Int)∧(0:Int) <(↑x.2.1.length:Int)),((Ao x.1 x.2.1 x.2.2.1 x.2.2.2)=false→(Aq x.1 x.2.1 x.2.2.1 x.2.2.2)=true→Ai ((0:Nat)+(x.2.1.getD (0:Nat) (Ae TC.row)).2.length)),((Ao x.1 x.2.1 x.2.2.1 x.2.2.2)=false→(Aq x.1 x.2.1 x.2.2.1 x.2.2.2)=true→Ai (x.2.2.2.length+(1:Nat))),((Ao x.1 x.2.1 x.2.2.1 x.2.2.2)=false→(Aq x.1 x.2.1 x.2.2.1 x.2.2.2)=true→(0:Int)≤(1:Int)∧(1:Int)≤(↑x.2.1.length:Int)∧(↑x.2.1.length:Int)≤(↑x.2.1.length:Int)),((Ao x.1 x.2.1 x.2.2.1 x.2.2.2)=false→(Aq x.1 x.2.1 x.2.2.1 x.2.2.2)=false→((↑x.2.1.length:Int)==(0:Int))=false→(0:Int)≤(0:Int)∧(0:Int) <(↑x.2.2.1.length:Int)),((Ao x.1 x.2.1 x.2.2.1 x.2.2.2)=false→(Aq x.1 x.2.1 x.2.2.1 x.2.2.2)=false→((↑x.2.1.length:Int)==(0:Int))=false→(0:Int)≤(0:Int)∧(0:Int) <(↑x.2.1.length:Int)),((Ao x.1 x.2.1 x.2.2.1 x.2.2.2)=false→(Aq x.1 x.2.1 x.2.2.1 x.2.2.2)=false→(AF x.1 x.2.1 x.2.2.1 x.2.2.2)=true→(0:Int)≤(0:Int)∧(0:Int) <(↑x.2.2.1.length:Int)),((Ao x.1 x.2.1 x.2.2.1 x.2.2.2)=false→(Aq x.1 x.2.1 x.2.2.1 x.2.2.2)=false→(AF x.1 x.2.1 x.2.2.1 x.2.2.2)=true→Ai ((0:Nat)+(x.2.2.1.getD (0:Nat) (Ae TC.row)).2.length)),((Ao x.1 x.2.1 x.2.2.1 x.2.2.2)=false→(Aq x.1 x.2.1 x.2.2.1 x.2.2.2)=false→(AF x.1 x.2.1 x.2.2.1 x.2.2.2)=true→Ai (x.2.2.2.length+(1:Nat))),((Ao x.1 x.2.1 x.2.2.1 x.2.2.2)=false→(Aq x.1 x.2.1 x.2.2.1 x.2.2.2)=false→(AF x.1 x.2.1 x.2.2.1 x.2.2.2)=true→(0:Int)≤(1:Int)∧(1:Int)≤(↑x.2.2.1.length:Int)∧(↑x.2.2.1.length:Int)≤(↑x.2.2.1.length:Int)),((Ao x.1 x.2.1 x.2.2.1 x.2.2.2)=false→(Aq x.1 x.2.1 x.2.2.1 x.2.2.2)=false→(AF x.1 x.2.1 x.2.2.1 x.2.2.2)=false→(0:Int)≤(0:Int)∧(0:Int) <(↑x.2.1.length:Int)),((Ao x.1 x.2.1 x.2.2.1 x.2.2.2)=false→(Aq x.1 x.2.1 x.2.2.1 x.2.2.2)=false→(AF x.1 x.2.1 x.2.2.1 x.2.2.2)=false→(0:Int)≤(0:Int)∧(0:Int) <(↑x.2.2.1.length:Int)),((Ao x.1 x.2.1 x.2.2.1 x.2.2.2)=false→(Aq x.1 x.2.1 x.2.2.1 x.2.2.2)=false→(AF x.1 x.2.1 x.2.2.1 x.2.2.2)=false→Ai (x.2.2.2.length+(1:Nat))),((Ao x.1 x.2.1 x.2.2.1 x.2.2.2)=false→(Aq x.1 x.2.1 x.2.2.1 x.2.2.2)=false→(AF x.1 x.2.1 x.2.2.1 x.2.2.2)=false→(0:Int)≤(1:Int)∧(1:Int)≤(↑x.2.1.length:Int)∧(↑x.2.1.length:Int)≤(↑x.2.1.length:Int)),((Ao x.1 x.2.1 x.2.2.1 x.2.2.2)=false→(Aq x.1 x.2.1 x.2.2.1 x.2.2.2)=false→(AF x.1 x.2.1 x.2.2.1 x.2.2.2)=false→(0:Int)≤(1:Int)∧(1:Int)≤(↑x.2.2.1.length:Int)∧(↑x.2.2.1.length:Int)≤(↑x.2.2.1.length:Int))]
def NV (x:BV):Bo:=[(some 0,some ((Ao x.1 x.2.1 x.2.2.1 x.2.2.2)),⟨91,2,[(6,.dq 1)],[(1,some (.deep 71 .row x.2.2.2))]⟩)]
def Ij (x:BV):Nat:=x.2.1.length+x.2.2.1.length
def Ads (x:BV):BV:=Bc A3 A1 (Ij x) x
set_option maxRecDepth 100000 in
theorem Ai6 (a0:List TGroup) (a1:List TRow) (a2:List TRow) (a3:List TRow):By (AA Bdk L0) 9 (Aj Try.prog 143 0) S9 (Kp (a0,a1,a2,a3))=some (Pe (a0,a1,a2,a3),NV (a0,a1,a2,a3),A1 (a0,a1,a2,a3),Kp (A3 (a0,a1,a2,a3))):=by kernel_rfl
set_option maxRecDepth 100000 in
theorem Ai7 (a0:List TGroup) (a1:List TRow) (a2:List TRow) (a3:List TRow) (hp:∀p∈Es (a0,a1,a2,a3),p):∀p∈Pe (a0,a1,a2,a3),p:=by
 have n0:=N0 hp
 have n1:=N0 (N1 hp)
 have n2:=N0 (N1 (N1 hp))
 have n3:=N0 (N1 (N1 (N1 hp)))
 have n4:=N0 (N1 (N1 (N1 (N1 hp))))
 have n5:=N0 (N1 (N1 (N1 (N1 (N1 hp)))))
 have n6:=N0 (N1 (N1 (N1 (N1 (N1 (N1 hp))))))
 have n7:=N0 (N1 (N1 (N1 (N1 (N1 (N1 (N1 hp)))))))
 have n8:=N0 (N1 (N1 (N1 (N1 (N1 (N1 (N1 (N1 hp))))))))
 have n9:=N0 (N1 (N1 (N1 (N1 (N1 (N1 (N1 (N1 (N1 hp)))))))))
 have n10:=N0 (N1 (N1 (N1 (N1 (N1 (N1 (N1 (N1 (N1 (N1 hp))))))))))
 have n11:=N0 (N1 (N1 (N1 (N1 (N1 (N1 (N1 (N1 (N1 (N1 (N1 hp)))))))))))
 have n12:=N0 (N1 (N1 (N1 (N1 (N1 (N1 (N1 (N1 (N1 (N1 (N1 (N1 hp))))))))))))
 have n13:=N0 (N1 (N1 (N1 (N1 (N1 (N1 (N1 (N1 (N1 (N1 (N1 (N1 (N1 hp)))))))))))))
 have n14:=N0 (N1 (N1 (N1 (N1 (N1 (N1 (N1 (N1 (N1 (N1 (N1 (N1 (N1 (N1 hp))))))))))))))
 have n15:=N0 (N1 (N1 (N1 (N1 (N1 (N1 (N1 (N1 (N1 (N1 (N1 (N1 (N1 (N1 (N1 hp)))))))))))))))
 have n16:=N0 (N1 (N1 (N1 (N1 (N1 (N1 (N1 (N1 (N1 (N1 (N1 (N1 (N1 (N1 (N1 (N1 hp))))))))))))))))
 exact(Aa n0 (Aa n1 (Aa n2 (Aa n3 (Aa n4 (Aa n5 (Aa n6 (Aa n7 (Aa n8 (Aa n9 (Aa n10 (Aa n11 (Aa n12 (Aa n13 (Aa n14 (Aa n15 (Aa n16 Ab)))))))))))))))))
noncomputable def Pf:=HF (AA Bdk L0) (Aj Try.prog 143 0) S9 Am8 LS Ij A3 A1 Es NV
theorem Adr:∀s b ps outs,Pf s=some (b,ps,outs)→Wf s ⟨ps,outs,none⟩∧Br (AA C0 L0) b s ps outs:=
 Bh (T:=Kp) Awo AG (u:=9) (by kernel_rfl) (by decide) (fun⟨a0,a1,a2,a3⟩=>Ai6 a0 a1 a2 a3) (fun⟨a0,a1,a2,a3⟩=>Ai7 a0 a1 a2 a3) ZT (fun _=>AU (n:=91) rfl) fun _ _=>rfl
noncomputable def S8:=Dz 0 Pf L0
theorem Adq:Hf S8:=A5 Adr AG
def Aaz (a0:List TGroup) (a1:List TRow) (a2:List TRow):List TRow:=(Ads (a0,a1,a2,[])).snd.snd.snd
def Aa0 (_a0:List TGroup) (_a1:List TRow) (_a2:List TRow):A:=.dq 0
def RH (a0:List TGroup) (a1:List TRow) (a2:List TRow):Objs:=[(0,some (.deep 71 .row (Aaz a0 a1 a2)))]
def Aze (a0:List TGroup) (a1:List TRow) (a2:List TRow):List Prop:=[(AK A3 A1 Es (Ij (a0,a1,a2,[])) (a0,a1,a2,[]))]
set_option maxRecDepth 100000 in
theorem Azd (a0:List TGroup) (a1:List TRow) (a2:List TRow):ER (AA Bdk S8) 9 143 [.sl .group a0,Ak .rows a1,Ak .rows a2] 0 []=some (1,Aa0 a0 a1 a2,1,RH a0 a1 a2,[(Aj Try.prog (143:FuncId) (0:Nat)=Aj Try.prog (143:FuncId) (0:Nat)),(AK A3 A1 Es (Ij (a0,a1,a2,[])) (a0,a1,a2,[]))]):=by kernel_rfl
set_option maxRecDepth 100000 in
theorem A36 (a0:List TGroup) (a1:List TRow) (a2:List TRow) (hp:∀p∈Aze a0 a1 a2,p):CallOk Try.prog 143 [.sl .group a0,Ak .rows a1,Ak .rows a2] 0 [] 1 (Aa0 a0 a1 a2) 1 (RH a0 a1 a2):=by
 have n1:=N0 hp
 exact AH (Ax Awo Adq) (Azd a0 a1 a2) (Aa rfl (Aa n1 Ab))
def Xx (_a0:List TGroup) (_a1 _a2:List TRow):A:=.dq 0
def Xw (_a0:List TGroup) (a1 a2:List TRow):Objs:=[(0,some (.deep 71 .row (mrg (a1.length+a2.length) a1 a2)))]
def Vc (a0:List TGroup) (a1 a2:List TRow):List Prop:=[Stt a0 a1∧Stt a0 a2∧a1.length+a2.length≤400000]
theorem A6y (x:TRow) (a:List TRow):List.take ((((x::a).length:Nat):Int).toNat - (1:Nat)) (List.drop (1:Nat) (x::a))=a:=by
 rw[Int.toNat_natCast]
 simp
theorem gt0 (n:Nat):decide ((n:Int) >(0:Int))=!(n==0):=by
 cases n with
 |zero=>rfl
 |succ n=>
  rw[decide_eq_true (by omega)]
  rfl
theorem Bgg (l:List TGroup) (a b out:List TRow):Aq l a b out=((b.length==0)||(!(a.length==0)&&Ii (B5 a 0).key (B5 b 0).key)):=by
 unfold Aq
 rw[A9x,gt0]
 rfl
theorem A6x (l:List TGroup) (a b out:List TRow):Ao l a b out=((a.length==0)&&(b.length==0)):=by
 unfold Ao
 rw[A9x,A9x]
theorem Bvv (l:List TGroup) (a b out:List TRow):AF l a b out=((a.length==0)||Ii (B5 b 0).key (B5 a 0).key):=by
 unfold AF
 rw[A9x]
 rfl
theorem Bvw {l:List TGroup} {a b out:List TRow} (ha:Stt l a) (hb:Stt l b) (ho:out.length≤500000):∀p∈Es (l,a,b,out),p:=by
 have z:∀{n:Nat},(n==0)=false→0 <n:=fun h=>by
  have:=beq_eq_false_iff_ne.1 h
  omega
 have h1:Ao l a b out=false→Aq l a b out=true→0 <a.length:=fun h g=>by
  rw[A6x] at h
  rw[Bgg] at g
  cases ea:a.length==0 with
  |false=>exact z ea
  |true=>
   rw[ea] at h g
   rw[Bool.true_and] at h
   rw[h] at g
   cases g
 have h2:Aq l a b out=false→0 <b.length:=fun h=>by
  rw[Bgg] at h
  exact z (Bool.or_eq_false_iff.1 h).1
 have h3:AF l a b out=false→0 <a.length:=fun h=>by
  rw[Bvv] at h
  exact z (Bool.or_eq_false_iff.1 h).1
 have hc:∀{x:List TRow},Stt l x→0 <x.length→Ai (0+(x.getD 0 (Ae TC.row)).2.length):=fun {x} hx h=>by
  have g:=(hx.good _ (getD_in x (Ae TC.row) 0 h)).1
  have g1:=(AT g).2.1
  have g2:=(FP (AT g).1).2
  have g3:(x.getD 0 (Ae TC.row)).2.length=l.length:=g1
  unfold Ai
  omega
 have ho':Ai (out.length+1):=by unfold Ai;omega
 have one:∀{n:Nat},0 <n→(0:Int)≤(1:Int)∧(1:Int)≤(n:Int)∧(n:Int)≤(n:Int):=fun h=>⟨by omega,by omega,Int.le_refl _⟩
 have nz:∀{n:Nat},0 <n→(0:Int)≤(0:Int)∧(0:Int) <(n:Int):=fun h=>⟨Int.le_refl _,by omega⟩
 have e0:∀{n:Nat},((n:Int)==(0:Int))=false→0 <n:=fun h=>by rw[A9x] at h;exact z h
 have g0:∀{n:Nat},decide ((n:Int) >(0:Int))=true→0 <n:=fun h=>by have:=of_decide_eq_true h;omega
 exact Aa (fun _ h _=>nz (g0 h)) (Aa (fun _ _ h=>nz (e0 h)) (Aa (fun h g=>nz (h1 h g)) (Aa (fun h g=>hc ha (h1 h g)) (Aa (fun _ _=>ho') (Aa (fun h g=>one (h1 h g))
  (Aa (fun _ g _=>nz (h2 g)) (Aa (fun _ _ h=>nz (e0 h)) (Aa (fun _ g _=>nz (h2 g)) (Aa (fun _ g _=>hc hb (h2 g)) (Aa (fun _ _ _=>ho') (Aa (fun _ g _=>one (h2 g))
  (Aa (fun _ _ h=>nz (h3 h)) (Aa (fun _ g _=>nz (h2 g)) (Aa (fun _ _ _=>ho') (Aa (fun _ _ h=>one (h3 h)) (Aa (fun _ g _=>one (h2 g)) Ab))))))))))))))))
theorem Bpe (l:List TGroup):∀(n:Nat) (a b out:List TRow),Stt l a→Stt l b→a.length+b.length≤n→out.length+n≤500000→
  AK A3 A1 Es n (l,a,b,out)∧(Bc A3 A1 n (l,a,b,out)).2.2.2=out++mrg n a b
 |0,a,b,out,ha,hb,hn,ho=>by
  have h1:a=[]:=List.eq_nil_of_length_eq_zero (by omega)
  have h2:b=[]:=List.eq_nil_of_length_eq_zero (by omega)
  subst h1 h2
  refine⟨⟨Bvw ha hb (by omega),?_⟩,(List.append_nil out).symm⟩
  show(!Ao l [] [] out)=false
  rw[A6x]
  rfl
 | n + 1,a,b,out,ha,hb,hn,ho=>by
  have key:∀(a' b' out':List TRow),Ao l a b out=false→A3 (l,a,b,out)=(l,a',b',out')→Stt l a'→Stt l b'→a'.length+b'.length≤n→out'.length=out.length+1→out'++mrg n a' b'=out++mrg (n+1) a b→
    AK A3 A1 Es (n+1) (l,a,b,out)∧(Bc A3 A1 (n+1) (l,a,b,out)).2.2.2=out++mrg (n+1) a b:=fun a' b' out' hk e h1 h2 h3 h4 h5=>by
   obtain⟨i1,i2⟩:=Bpe l n a' b' out' h1 h2 h3 (by omega)
   have hg:Bs (A1 (l,a,b,out))=true:=by
    show(!Ao l a b out)=true
    rw[hk]
    rfl
   refine⟨⟨Bvw ha hb (by omega),fun _=>by rw[e];exact i1⟩,?_⟩
   show(bif Bs (A1 (l,a,b,out)) then Bc A3 A1 n (A3 (l,a,b,out)) else(l,a,b,out)).2.2.2=_
   rw[hg,cond_true,e,i2]
   exact h5
  cases a with
  | nil=>
   cases b with
   | nil=>
    have hg:Bs (A1 (l,[],[],out))=false:=by
     show(!Ao l [] [] out)=false
     rw[A6x]
     rfl
    refine⟨⟨Bvw ha hb (by omega),fun h=>by rw[hg] at h;cases h⟩,?_⟩
    show(bif Bs (A1 (l,[],[],out)) then Bc A3 A1 n (A3 (l,[],[],out)) else(l,[],[],out)).2.2.2=_
    rw[hg,cond_false]
    exact(List.append_nil out).symm
   |cons y b=>
    refine key [] b (out++[y]) (by rw[A6x];rfl) ?_ ha hb.tail (by simp at hn⊢;omega) (by simp) (by rw[List.append_assoc];rfl)
    have k0:Aq l [] (y::b) out=false:=by rw[Bgg];rfl
    have k4:AF l [] (y::b) out=true:=by rw[Bvv];rfl
    show(l,Ce l [] (y::b) out,Cg l [] (y::b) out,Cm l [] (y::b) out)=_
    unfold Ce Cg Cm Gy
    rw[k0,k4,A6y]
    rfl
  | cons x a=>
   cases b with
   |nil=>
    refine key a [] (out++[x]) (by rw[A6x];rfl) ?_ ha.tail hb (by simp at hn⊢;omega) (by simp) (by rw[List.append_assoc];rfl)
    have k0:Aq l (x::a) [] out=true:=by rw[Bgg];rfl
    show(l,Ce l (x::a) [] out,Cg l (x::a) [] out,Cm l (x::a) [] out)=_
    unfold Ce Cg Cm Gx
    rw[k0,A6y]
    rfl
   | cons y b=>
    have kk:Ao l (x::a) (y::b) out=false:=by rw[A6x];rfl
    have k0:Aq l (x::a) (y::b) out=Ii x.key y.key:=by rw[Bgg];rfl
    have k4:AF l (x::a) (y::b) out=Ii y.key x.key:=by rw[Bvv];rfl
    have em:mrg (n+1) (x::a) (y::b)=bif Ii x.key y.key then x::mrg n a (y::b) else bif Ii y.key x.key then y::mrg n (x::a) b else jnR x y::mrg n a b:=rfl
    have en:A3 (l,x::a,y::b,out)=(l,Ce l (x::a) (y::b) out,Cg l (x::a) (y::b) out,Cm l (x::a) (y::b) out):=rfl
    cases h1:Ii x.key y.key with
    |true=>
     refine key a (y::b) (out++[x]) kk ?_ ha.tail hb (by simp at hn⊢;omega) (by simp) (by rw[em,h1,cond_true,List.append_assoc];rfl)
     rw[en]
     unfold Ce Cg Cm Gx
     rw[k0,h1,A6y]
     rfl
    | false=>
     cases h2:Ii y.key x.key with
     |true=>
      refine key (x::a) b (out++[y]) kk ?_ ha hb.tail (by simp at hn⊢;omega) (by simp) (by rw[em,h1,h2,cond_false,cond_true,List.append_assoc];rfl)
      rw[en]
      unfold Ce Cg Cm Gy
      rw[k0,k4,h1,h2,A6y]
      rfl
     | false=>
      refine key a b (out++[jnR x y]) kk ?_ ha.tail hb.tail (by simp at hn⊢;omega) (by simp) (by rw[em,h1,h2,cond_false,cond_false,List.append_assoc];rfl)
      have hj:jnE l x y=0:=Ax8.2 ⟨(ha.good x (List.mem_cons_self ..)).1,(hb.good y (List.mem_cons_self ..)).1,A9h h1 h2⟩
      have ej:TRow.mk (jnK l x y) (jnL l x y)=jnR x y:=by
       unfold jnK jnL
       rw[hj]
       rfl
      rw[en]
      unfold Ce Cg Cm Gx Gy
      rw[k0,k4,h1,h2,A6y,A6y,←ej]
      rfl
theorem Azc (a0:List TGroup) (a1 a2:List TRow) (hp:∀p∈Vc a0 a1 a2,p):CallOk Try.prog 143 [.sl .group a0,Ak .rows a1,Ak .rows a2] 0 [] 1 (Xx a0 a1 a2) 1 (Xw a0 a1 a2):=by
 obtain⟨h1,h2,h3⟩:=hp _ (List.mem_cons_self ..)
 obtain⟨g1,g2⟩:=Bpe a0 (a1.length+a2.length) a1 a2 [] h1 h2 (Nat.le_refl _) (by rw[List.length_nil];omega)
 have h:=A36 a0 a1 a2 (Aa g1 Ab)
 have e:Aaz a0 a1 a2=mrg (a1.length+a2.length) a1 a2:=g2
 unfold RH at h
 rw[e] at h
 exact h
def RI:List A→Nat→Objs→Option A9
 | [y0,y1,y2],nx,o=>match Jt .group y0,AQ .rows y1,AQ .rows y2 with
  |some a0,some (a1,p1),some (a2,p2)=>some (1,(Xx a0 a1 a2).pk (AC nx),nx+1,AB nx (Xw a0 a1 a2)++o,p1++(p2++(Vc a0 a1 a2)))
  |_,_,_=>none
 |_,_,_=>none
theorem At5:EV Try.prog 143 RI:=fun args nx o k x nx' o' ps h=>by
 unfold RI at h
 split at h<;>first|(cases h;done)|skip
 split at h<;>first|(cases h;done)|skip
 rename_i a0 a1 p1 a2 p2 e0 e1 e2
 cases h
 refine⟨fun hp=>?_,_,rfl⟩
 have q1:=fun p hm=>hp p (List.mem_append.2 (.inl hm))
 have r1:=fun p hm=>hp p (List.mem_append.2 (.inr hm))
 have q2:=fun p hm=>r1 p (List.mem_append.2 (.inl hm))
 have r2:=fun p hm=>r1 p (List.mem_append.2 (.inr hm))
 refine Ah (Ag (Azc a0 a1 a2 r2) (Nat.le_refl _) (Ac rfl (Ac (Af _ _) (Ac (Af _ _) An))) nx o) fun F N R vs hl=>?_
 obtain⟨v0,w0,rfl,h0,hl⟩:=hl.inv
 obtain⟨v1,w1,rfl,h1,hl⟩:=hl.inv
 obtain⟨v2,w2,rfl,h2,hl⟩:=hl.inv
 exact HL.cons (BL e0 h0) (HL.cons (Am e1 q1 h1) (HL.cons (Am e2 q2 h2) (hl)))
noncomputable def Btm:=A7 143 RI Bdk
theorem Bdl:CU Try.prog Btm:=Aw At5 Awo
def HA (a0:TRow):List TCell:=[]++a0.2
def Ae3 (a0:TRow):A:=.agg [.v (.string a0.1),.sq 0]
def Ae2 (a0:TRow):Objs:=[(0,some (.arr 55 8 (.ty .cell (HA a0))))]
def Arq (a0:TRow):List Prop:=[(Ai ((0:Nat)+a0.2.length))]
set_option maxRecDepth 100000 in
theorem Bhk (a0:TRow):ER (AA Btm L0) 9 46 [Ak .row a0] 0 []=some (1,Ae3 a0,1,Ae2 a0,[(Ai ((0:Nat)+a0.2.length))]):=by kernel_rfl
set_option maxRecDepth 100000 in
theorem Blr (a0:TRow) (hp:∀p∈Arq a0,p):CallOk Try.prog 46 [Ak .row a0] 0 [] 1 (Ae3 a0) 1 (Ae2 a0):=by
 have n0:=N0 hp
 exact AH (Ax Bdl AG) (Bhk a0) (Aa n0 Ab)
def Ae4:List A→Nat→Objs→Option A9
 | [y0],nx,o=>match AQ .row y0 with
  |some (a0,p0)=>some (1,(Ae3 a0).pk (AC nx),nx+1,AB nx (Ae2 a0)++o,p0++(Arq a0))
  |_=>none
 |_,_,_=>none
theorem Ba8:EV Try.prog 46 Ae4:=fun args nx o k x nx' o' ps h=>by
 unfold Ae4 at h
 split at h<;>first|(cases h;done)|skip
 split at h<;>first|(cases h;done)|skip
 rename_i a0 p0 e0
 cases h
 refine⟨fun hp=>?_,_,rfl⟩
 have q0:=fun p hm=>hp p (List.mem_append.2 (.inl hm))
 have r0:=fun p hm=>hp p (List.mem_append.2 (.inr hm))
 refine Ah (Ag (Blr a0 r0) (Nat.le_refl _) (Ac (Af _ _) An) nx o) fun F N R vs hl=>?_
 obtain⟨v0,w0,rfl,h0,hl⟩:=hl.inv
 exact HL.cons (Am e0 q0 h0) (hl)
noncomputable def Bdm:=A7 46 Ae4 Btm
theorem Awp:CU Try.prog Bdm:=Aw Ba8 Bdl
abbrev Dd:Type:=Int×TRow×ByteArray×(List TCell)
def MV (x:Dd):St:=⟨56,6,[(5,.own 1 0),(9,.own 4 0),(10,.v (.int .i64 x.1))],[(1,some (.box 71 [.v (.string x.2.1.key),.sl .cell x.2.1.cells])),(4,some (.box 71 [.v (.string x.2.2.1),.sq 5])),(5,some (.arr 55 8 (.ty .cell x.2.2.2)))]⟩
def PD:St→Option Dd
 |⟨56,6,[(5,.own 1 0),(9,.own 4 0),(10,.v (.int .i64 z0))],[(1,some (.box 71 [.v (.string z1),.sl .cell z2])),(4,some (.box 71 [.v (.string z3),.sq 5])),(5,some (.arr 55 8 (.ty .cell z4)))]⟩=>some (z0,⟨z1,z2⟩,z3,z4)
 |_=>none
theorem An4:∀s x,PD s=some x→s=MV x:=fun s x h=>by
 unfold PD at h
 split at h
 ·cases h;rfl
 ·cases h
def Abm:CX:=⟨5,6,[5,9,10],[],[(1,1),(4,4),(5,5)],[1,4,5],[],[1,4,5]⟩
def A4u:Dp:=⟨[],[(1,1),(4,4),(3,5)],[5,9,10],[1,4,3]⟩
def BI (a0:Int) (_a1:TRow) (_a2:ByteArray) (a3:List TCell):Bool:=!!decide (a0 <(↑a3.length:Int))
def NJ (a0:Int) (a1:TRow) (_a2:ByteArray) (a3:List TCell):List TCell:=a3.set a0.toNat (Kv (a3.getD a0.toNat (Ae TC.cell)) (a1.2.getD a0.toNat (Ae TC.cell)))
def Ff (x:Dd):Dd:=(IntKind.i64.wrap (x.1+(1:Int)),x.2.1,x.2.2.1,NJ x.1 x.2.1 x.2.2.1 x.2.2.2)
def Fe (x:Dd):Cnd:=some ((BI x.1 x.2.1 x.2.2.1 x.2.2.2))
def VA (x:Dd):List Prop:=[((BI x.1 x.2.1 x.2.2.1 x.2.2.2)=true→(0:Int)≤x.1∧x.1 <(↑x.2.2.2.length:Int)),((BI x.1 x.2.1 x.2.2.1 x.2.2.2)=true→x.1.toNat <x.2.2.2.length),((BI x.1 x.2.1 x.2.2.1 x.2.2.2)=true→(0:Int)≤x.1∧x.1 <(↑x.2.1.2.length:Int)),((BI x.1 x.2.1 x.2.2.1 x.2.2.2)=true→(0:Int)≤x.1∧x.1 <(↑x.2.2.2.length:Int)),((BI x.1 x.2.1 x.2.2.1 x.2.2.2)=true→x.1.toNat <x.2.2.2.length)]
def IC (x:Dd):List Prop:=[((BI x.1 x.2.1 x.2.2.1 x.2.2.2)=true→(0:Int)≤x.1∧x.1 <(↑x.2.2.2.length:Int)),((BI x.1 x.2.1 x.2.2.1 x.2.2.2)=true→(0:Int)≤x.1∧x.1 <(↑x.2.1.2.length:Int))]
def To (x:Dd):Bo:=[(some 0,some (!decide (x.1 <(↑x.2.2.2.length:Int))),⟨56,6,[],[(1,some (.box 71 [.v (.string x.2.1.1),.sl .cell x.2.1.2])),(4,some (.box 71 [.v (.string x.2.2.1),.sq 5])),(5,some (.arr 55 8 (.ty .cell x.2.2.2)))]⟩)]
def G1 (x:Dd):Nat:=((↑x.2.2.2.length:Int) - x.1).toNat
def Je (x:Dd):Dd:=Bc Ff Fe (G1 x) x
set_option maxRecDepth 100000 in
theorem A1d (a0:Int) (a1:TRow) (a2:ByteArray) (a3:List TCell):By (AA Bdm L0) 9 (Aj Try.prog 74 0) Abm (MV (a0,a1,a2,a3))=some (VA (a0,a1,a2,a3),To (a0,a1,a2,a3),Fe (a0,a1,a2,a3),MV (Ff (a0,a1,a2,a3))):=by kernel_rfl
set_option maxRecDepth 100000 in
theorem A1e (a0:Int) (a1:TRow) (a2:ByteArray) (a3:List TCell) (hp:∀p∈IC (a0,a1,a2,a3),p):∀p∈VA (a0,a1,a2,a3),p:=by
 have n0:((BI a0 a1 a2 a3)=true→(0:Int)≤a0∧a0 <(↑a3.length:Int)):=N0 hp
 have n1:((BI a0 a1 a2 a3)=true→a0.toNat <a3.length):=by intro h0;have g:=n0 h0;omega
 have n2:=N0 (N1 hp)
 exact(Aa n0 (Aa n1 (Aa n2 (Aa n0 (Aa n1 Ab)))))
noncomputable def VB:=HF (AA Bdm L0) (Aj Try.prog 74 0) Abm A4u PD G1 Ff Fe IC To
theorem Auz:∀s b ps outs,VB s=some (b,ps,outs)→Wf s ⟨ps,outs,none⟩∧Br (AA C0 L0) b s ps outs:=
 Bh (T:=MV) Awp AG (u:=9) (by kernel_rfl) (by decide) (fun⟨a0,a1,a2,a3⟩=>A1d a0 a1 a2 a3) (fun⟨a0,a1,a2,a3⟩=>A1e a0 a1 a2 a3) An4 (fun _=>AU (n:=56) rfl) fun _ _=>rfl
noncomputable def Abl:=Dz 0 VB L0
theorem Auy:Hf Abl:=A5 Auz AG
def D4 (_a0:List TGroup) (a1:TRow) (a2:TRow):Bool:=!a1.1.toList==a2.1.toList
def C7 (a0:List TGroup) (_a1:TRow) (a2:TRow):Bool:=Ap a0 a2 !=(0:Int)
def B8 (a0:List TGroup) (a1:TRow) (_a2:TRow):Bool:=Ap a0 a1 !=(0:Int)
def Ae8 (a0:List TGroup) (a1:TRow) (a2:TRow):ByteArray:=bif(B8 a0 a1 a2) then ByteArray.mk #[] else bif(C7 a0 a1 a2) then ByteArray.mk #[] else bif(D4 a0 a1 a2) then ByteArray.mk #[] else(Je ((0:Int),a2,a1.1,HA a1)).snd.snd.fst
def Uv (a0:List TGroup) (a1:TRow) (a2:TRow):Int:=bif(B8 a0 a1 a2) then Ap a0 a1 else bif(C7 a0 a1 a2) then Ap a0 a2 else bif(D4 a0 a1 a2) then(100:Int) else(0:Int)
def Ae9 (a0:List TGroup) (a1:TRow) (a2:TRow):List TCell:=bif(B8 a0 a1 a2) then[] else bif(C7 a0 a1 a2) then[] else bif(D4 a0 a1 a2) then[] else(Je ((0:Int),a2,a1.1,HA a1)).snd.snd.snd
def Afb (a0:List TGroup) (a1:TRow) (a2:TRow):A:=.tup [.agg [.v (.string (Ae8 a0 a1 a2)),.sq 0],.v (.int .i64 (Uv a0 a1 a2))]
def Afa (a0:List TGroup) (a1:TRow) (a2:TRow):Objs:=[(0,some (.arr 55 8 (.ty .cell (Ae9 a0 a1 a2))))]
def Bhq (a0:List TGroup) (a1:TRow) (a2:TRow):List Prop:=[(∀(g:TGroup),g∈a0→Av g.1.size),((!(B8 a0 a1 a2))=true→∀(g:TGroup),g∈a0→Av g.1.size),((!(B8 a0 a1 a2))=true→(!(C7 a0 a1 a2))=true→(!(D4 a0 a1 a2))=true→Ai ((0:Nat)+a1.2.length)),((!(B8 a0 a1 a2))=true→(!(C7 a0 a1 a2))=true→(!(D4 a0 a1 a2))=true→AK Ff Fe IC (G1 ((0:Int),a2,a1.1,HA a1)) ((0:Int),a2,a1.1,HA a1))]
set_option maxRecDepth 100000 in
theorem Bhp (a0:List TGroup) (a1:TRow) (a2:TRow):ER (AA Bdm Abl) 9 74 [.sl .group a0,Ak .row a1,Ak .row a2] 0 []=some (1,Afb a0 a1 a2,1,Afa a0 a1 a2,[(∀(g:TGroup),g∈a0→Av g.1.size),((!(B8 a0 a1 a2))=true→∀(g:TGroup),g∈a0→Av g.1.size),((!(B8 a0 a1 a2))=true→(!(C7 a0 a1 a2))=true→(!(D4 a0 a1 a2))=true→Ai ((0:Nat)+a1.2.length)),((!(B8 a0 a1 a2))=true→(!(C7 a0 a1 a2))=true→(!(D4 a0 a1 a2))=true→Aj Try.prog (74:FuncId) (0:Nat)=Aj Try.prog (74:FuncId) (0:Nat)),((!(B8 a0 a1 a2))=true→(!(C7 a0 a1 a2))=true→(!(D4 a0 a1 a2))=true→AK Ff Fe IC (G1 ((0:Int),a2,a1.1,HA a1)) ((0:Int),a2,a1.1,HA a1))]):=by kernel_rfl
set_option maxRecDepth 100000 in
theorem Blt (a0:List TGroup) (a1:TRow) (a2:TRow) (hp:∀p∈Bhq a0 a1 a2,p):CallOk Try.prog 74 [.sl .group a0,Ak .row a1,Ak .row a2] 0 [] 1 (Afb a0 a1 a2) 1 (Afa a0 a1 a2):=by
 have n0:=N0 hp
 have n1:=N0 (N1 hp)
 have n2:=N0 (N1 (N1 hp))
 have n3:((!(B8 a0 a1 a2))=true→(!(C7 a0 a1 a2))=true→(!(D4 a0 a1 a2))=true→Aj Try.prog (74:FuncId) (0:Nat)=Aj Try.prog (74:FuncId) (0:Nat)):=by intros;rfl
 have n4:=N0 (N1 (N1 (N1 hp)))
 exact AH (Ax Awp Auy) (Bhp a0 a1 a2) (Aa n0 (Aa n1 (Aa n2 (Aa n3 (Aa n4 Ab)))))
def Ary (a0:List TGroup) (a1:TRow) (a2:TRow):A:=.tup [.agg [.v (.string (jnK a0 a1 a2)),.sq 0],.v (.int .i64 (jnE a0 a1 a2))]
def Arx (a0:List TGroup) (a1:TRow) (a2:TRow):Objs:=[(0,some (.arr 55 8 (.ty .cell (jnL a0 a1 a2))))]
def Aj3 (a0:List TGroup) (_a1:TRow) (_a2:TRow):List Prop:=[∀g∈a0,Av g.1.size]
theorem Aok {l:List TGroup} {a b:TRow} (ha:Ap l a=0) (hb:Ap l b=0):
  AK Ff Fe IC (G1 (0,b,a.key,a.cells)) (0,b,a.key,a.cells)∧Je (0,b,a.key,a.cells)=((a.cells.length:Int),b,a.key,jnN a.cells b.cells a.cells.length):=by
 have h1:=(AT ha).2.1
 have h2:=(AT hb).2.1
 have h4:=(FP (AT ha).1).2
 have hlen:=fun i=>Zo a.cells b.cells i
 obtain⟨h5,k,hk,hx,_,hst,_⟩:=IN (fun i=>((i:Int),b,a.key,jnN a.cells b.cells i):Nat→Dd) a.cells.length (fun _=>false) Ff Fe IC (G1 (0,b,a.key,a.cells)) (0,b,a.key,a.cells) rfl (by show a.cells.length≤((a.cells.length:Int) - 0).toNat;omega)
  (fun i _ _=>by
   show(!!decide ((i:Int) <((jnN a.cells b.cells i).length:Int)))=_
   rw[nn,hlen,Me,Bool.not_false,Bool.and_true])
  (fun i hi _=>by
   show(IntKind.i64.wrap ((i:Int)+1),b,a.key,NJ (i:Int) b a.key (jnN a.cells b.cells i))=(((i+1:Nat):Int),b,a.key,jnN a.cells b.cells (i+1))
   unfold NJ
   rw[EQ (by omega),Int.toNat_natCast]
   show(_,_,_,(jnN a.cells b.cells i).set i (Kv (Ig (jnN a.cells b.cells i) i) (Ig b.cells i)))=(_,_,_,(jnN a.cells b.cells i).set i (LB (Ig (jnN a.cells b.cells i) i) (Ig b.cells i)))
   have e:Ig (jnN a.cells b.cells i) i=Ig a.cells i:=by
    rw[Bkk a.cells b.cells i hi i,decide_eq_false (Nat.lt_irrefl i)]
    rfl
   rw[e,A6r (K3 ha (by omega:i <l.length))])
  (fun i hi _=>by
   have hin:BI (i:Int) b a.key (jnN a.cells b.cells i)=true→(i:Int) <((jnN a.cells b.cells i).length:Int):=fun h=>by
    unfold BI at h
    rw[nn] at h
    exact of_decide_eq_true h
   refine Aa (fun h=>⟨by show(0:Int)≤(i:Int);omega,hin h⟩) (Aa (fun h=>⟨by show(0:Int)≤(i:Int);omega,?_⟩) Ab)
   have:=hin h
   rw[hlen] at this
   show(i:Int) <(b.cells.length:Int)
   omega)
 have hkn:k=a.cells.length:=by
  rcases Nat.lt_or_ge k a.cells.length with h|h
  ·exact absurd (hst h) (by decide)
  ·omega
 subst hkn
 exact⟨h5,hx⟩
theorem Bz5 (l:List TGroup) (a b:TRow):Uv l a b=jnE l a b∧Ae8 l a b=jnK l a b∧Ae9 l a b=jnL l a b:=by
 have hkey:D4 l a b=!(a.key==b.key):=by
  unfold D4
  rw[tlb]
 have e1:Uv l a b=jnE l a b:=by
  unfold Uv jnE
  rw[hkey]
  rfl
 have split:∀{α:Type} (z:α) (f:α),(bif B8 l a b then z else bif C7 l a b then z else bif D4 l a b then z else f)=bif jnE l a b==0 then f else z:=fun z f=>by
  by_cases h:jnE l a b=0
  ·obtain⟨h1,h2,h3⟩:=Ax8.1 h
   have k0:B8 l a b=false:=by unfold B8;rw[h1];rfl
   have k1:C7 l a b=false:=by unfold C7;rw[h2];rfl
   rw[k0,k1,hkey,h3,beq_self_eq_true,h]
   rfl
  ·have hne:(jnE l a b==0)=false:=by simpa using h
   rw[hne,cond_false]
   cases h1:B8 l a b with
   |true=>rfl
   | false=>
    cases h2:C7 l a b with
    |true=>rfl
    | false=>
     cases h3:D4 l a b with
     |true=>rfl
     |false=>
      rw[hkey] at h3
      refine absurd (Ax8.2 ⟨?_,?_,?_⟩) h
      ·unfold B8 at h1;simpa using h1
      ·unfold C7 at h2;simpa using h2
      ·simpa using h3
 refine⟨e1,?_,?_⟩
 ·unfold Ae8
  rw[split]
  unfold jnK
  by_cases h:jnE l a b=0
  ·obtain⟨h1,h2,h3⟩:=Ax8.1 h
   rw[h]
   show(Je (0,b,a.key,a.cells)).snd.snd.fst=a.key
   rw[(Aok h1 h2).2]
  ·have hne:(jnE l a b==0)=false:=by simpa using h
   rw[hne]
   rfl
 ·unfold Ae9
  rw[split]
  unfold jnL
  by_cases h:jnE l a b=0
  ·obtain⟨h1,h2,h3⟩:=Ax8.1 h
   have hl:a.cells.length=b.cells.length:=(AT h1).2.1.trans (AT h2).2.1.symm
   rw[h]
   show(Je (0,b,a.key,a.cells)).snd.snd.snd=jnN a.cells b.cells b.cells.length
   rw[(Aok h1 h2).2,hl]
  ·have hne:(jnE l a b==0)=false:=by simpa using h
   rw[hne]
   rfl
theorem Bho (a0:List TGroup) (a1:TRow) (a2:TRow) (hp:∀p∈Aj3 a0 a1 a2,p):CallOk Try.prog 74 [.sl .group a0,Ak .row a1,Ak .row a2] 0 [] 1 (Ary a0 a1 a2) 1 (Arx a0 a1 a2):=by
 have hw:∀g∈a0,Av g.1.size:=hp _ (List.mem_cons_self ..)
 have g1:(!(B8 a0 a1 a2))=true→Ap a0 a1=0:=fun h=>by
  have h':(!(Ap a0 a1 !=0))=true:=h
  simpa using h'
 have g2:(!(C7 a0 a1 a2))=true→Ap a0 a2=0:=fun h=>by
  have h':(!(Ap a0 a2 !=0))=true:=h
  simpa using h'
 have h:=Blt a0 a1 a2 (Aa hw (Aa (fun _=>hw) (Aa (fun h _ _=>by
  have q1:=(AT (g1 h)).2.1
  have q2:=(FP (AT (g1 h)).1).2
  have q3:a1.2.length=a0.length:=q1
  unfold Ai
  omega) (Aa (fun h h2 _=>(Aok (g1 h) (g2 h2)).1) Ab))))
 obtain⟨e1,e2,e3⟩:=Bz5 a0 a1 a2
 unfold Afb Afa at h
 rw[e1,e2,e3] at h
 exact h
def Afc:List A→Nat→Objs→Option A9
 | [y0,y1,y2],nx,o=>match Jt .group y0,AQ .row y1,AQ .row y2 with
  |some a0,some (a1,p1),some (a2,p2)=>some (1,(Ary a0 a1 a2).pk (AC nx),nx+1,AB nx (Arx a0 a1 a2)++o,p1++(p2++(Aj3 a0 a1 a2)))
  |_,_,_=>none
 |_,_,_=>none
theorem Bbd:EV Try.prog 74 Afc:=fun args nx o k x nx' o' ps h=>by
 unfold Afc at h
 split at h<;>first|(cases h;done)|skip
 split at h<;>first|(cases h;done)|skip
 rename_i a0 a1 p1 a2 p2 e0 e1 e2
 cases h
 refine⟨fun hp=>?_,_,rfl⟩
 have q1:=fun p hm=>hp p (List.mem_append.2 (.inl hm))
 have r1:=fun p hm=>hp p (List.mem_append.2 (.inr hm))
 have q2:=fun p hm=>r1 p (List.mem_append.2 (.inl hm))
 have r2:=fun p hm=>r1 p (List.mem_append.2 (.inr hm))
 refine Ah (Ag (Bho a0 a1 a2 r2) (Nat.le_refl _) (Ac rfl (Ac (Af _ _) (Ac (Af _ _) An))) nx o) fun F N R vs hl=>?_
 obtain⟨v0,w0,rfl,h0,hl⟩:=hl.inv
 obtain⟨v1,w1,rfl,h1,hl⟩:=hl.inv
 obtain⟨v2,w2,rfl,h2,hl⟩:=hl.inv
 exact HL.cons (BL e0 h0) (HL.cons (Am e1 q1 h1) (HL.cons (Am e2 q2 h2) (hl)))
noncomputable def Bdn:=A7 74 Afc Bdm
theorem Awq:CU Try.prog Bdn:=Aw Bbd Awp
abbrev DP:Type:=(List TRow)×ByteArray×Int×ByteArray
def Oj (x:DP):St:=⟨26,1,[(0,.sl .row x.1),(1,.v (.string x.2.1)),(4,.own 0 0),(6,.v (.int .i64 x.2.2.1))],[(0,some (.box 71 [.v (.string x.2.2.2),.v (.slice none 0 0)]))]⟩
def RY:St→Option DP
 |⟨26,1,[(0,.sl .row z0),(1,.v (.string z1)),(4,.own 0 0),(6,.v (.int .i64 z2))],[(0,some (.box 71 [.v (.string z3),.v (.slice none 0 0)]))]⟩=>some (z0,z1,z2,z3)
 |_=>none
theorem Avc:∀s x,RY s=some x→s=Oj x:=fun s x h=>by
 unfold RY at h
 split at h
 ·cases h;rfl
 ·cases h
def Akd:CX:=⟨1,1,[0,1,4,6],[],[(0,0)],[0],[5],[0,1]⟩
def Bbi:Dp:=⟨[],[(0,0)],[0,1,4,6],[0]⟩
def DQ (a0:List TRow) (_a1:ByteArray) (a2:Int) (_a3:ByteArray):Bool:=!!decide (a2 <(↑a0.length:Int))
def Gq (a0:List TRow) (a1:ByteArray) (a2:Int) (a3:ByteArray):Bool:=(DQ a0 a1 a2 a3)&&(a0.getD a2.toNat (Ae TC.row)).1.toList==a1.toList
def A1r (a0:List TRow) (a1:ByteArray) (a2:Int) (a3:ByteArray):Bool:=(DQ a0 a1 a2 a3)&&!(Gq a0 a1 a2 a3)
def KT (a0:List TRow) (_a1:ByteArray) (a2:Int) (_a3:ByteArray):ByteArray:=(a0.getD a2.toNat (Ae TC.row)).1
def KU (a0:List TRow) (_a1:ByteArray) (a2:Int) (_a3:ByteArray):List TCell:=HA (a0.getD a2.toNat (Ae TC.row))
def HP (x:DP):DP:=(x.1,x.2.1,IntKind.i64.wrap (x.2.2.1+(1:Int)),x.2.2.2)
def HO (x:DP):Cnd:=some (A1r x.1 x.2.1 x.2.2.1 x.2.2.2)
def Yp (x:DP):List Prop:=[((DQ x.1 x.2.1 x.2.2.1 x.2.2.2)=true→(0:Int)≤x.2.2.1∧x.2.2.1 <(↑x.1.length:Int)),((DQ x.1 x.2.1 x.2.2.1 x.2.2.2)=true→((x.1.getD x.2.2.1.toNat (Ae TC.row)).1.toList==x.2.1.toList)=true→(0:Int)≤x.2.2.1∧x.2.2.1 <(↑x.1.length:Int)),((DQ x.1 x.2.1 x.2.2.1 x.2.2.2)=true→((x.1.getD x.2.2.1.toNat (Ae TC.row)).1.toList==x.2.1.toList)=true→Ai ((0:Nat)+(x.1.getD x.2.2.1.toNat (Ae TC.row)).2.length))]
def KJ (x:DP):List Prop:=[((DQ x.1 x.2.1 x.2.2.1 x.2.2.2)=true→(0:Int)≤x.2.2.1∧x.2.2.1 <(↑x.1.length:Int)),((DQ x.1 x.2.1 x.2.2.1 x.2.2.2)=true→((x.1.getD x.2.2.1.toNat (Ae TC.row)).1.toList==x.2.1.toList)=true→(0:Int)≤x.2.2.1∧x.2.2.1 <(↑x.1.length:Int)),((DQ x.1 x.2.1 x.2.2.1 x.2.2.2)=true→((x.1.getD x.2.2.1.toNat (Ae TC.row)).1.toList==x.2.1.toList)=true→Ai ((0:Nat)+(x.1.getD x.2.2.1.toNat (Ae TC.row)).2.length))]
def VK (x:DP):Bo:=[(some 0,some (!decide (x.2.2.1 <(↑x.1.length:Int))),⟨26,1,[(5,.dead)],[(0,some (.box 71 [.v (.string x.2.2.2),.v (.slice none 0 0)])),(1,none)]⟩),(none,some ((Gq x.1 x.2.1 x.2.2.1 x.2.2.2)),⟨26,2,[(5,.v (.bool (true)))],[(0,some (.box 71 [.v (.string (KT x.1 x.2.1 x.2.2.1 x.2.2.2)),.sq 1])),(1,some (.arr 55 8 (.ty .cell (KU x.1 x.2.1 x.2.2.1 x.2.2.2))))]⟩)]
def Jg (x:DP):Nat:=((↑x.1.length:Int) - x.2.2.1).toNat
def J5 (x:DP):DP:=Bc HP HO (Jg x) x
set_option maxRecDepth 100000 in
theorem A4y (a0:List TRow) (a1:ByteArray) (a2:Int) (a3:ByteArray):By (AA Bdn L0) 9 (Aj Try.prog 148 0) Akd (Oj (a0,a1,a2,a3))=some (Yp (a0,a1,a2,a3),VK (a0,a1,a2,a3),HO (a0,a1,a2,a3),Oj (HP (a0,a1,a2,a3))):=by kernel_rfl
set_option maxRecDepth 100000 in
theorem A4z (a0:List TRow) (a1:ByteArray) (a2:Int) (a3:ByteArray) (hp:∀p∈KJ (a0,a1,a2,a3),p):∀p∈Yp (a0,a1,a2,a3),p:=by
 have n0:=N0 hp
 have n1:=N0 (N1 hp)
 have n2:=N0 (N1 (N1 hp))
 exact(Aa n0 (Aa n1 (Aa n2 Ab)))
noncomputable def Yq:=HF (AA Bdn L0) (Aj Try.prog 148 0) Akd Bbi RY Jg HP HO KJ VK
theorem A1s:∀s b ps outs,Yq s=some (b,ps,outs)→Wf s ⟨ps,outs,none⟩∧Br (AA C0 L0) b s ps outs:=
 Bh (T:=Oj) Awq AG (u:=9) (by kernel_rfl) (by decide) (fun⟨a0,a1,a2,a3⟩=>A4y a0 a1 a2 a3) (fun⟨a0,a1,a2,a3⟩=>A4z a0 a1 a2 a3) Avc (fun _=>AU (n:=26) rfl) fun _ _=>rfl
noncomputable def Akc:=Dz 0 Yq L0
theorem A1q:Hf Akc:=A5 A1s AG
def PN (a0:List TRow) (a1:ByteArray):List TRow:=(J5 (a0,a1,(0:Int),ByteArray.mk #[])).fst
def PM (a0:List TRow) (a1:ByteArray):ByteArray:=(J5 (a0,a1,(0:Int),ByteArray.mk #[])).snd.fst
def PL (a0:List TRow) (a1:ByteArray):ByteArray:=(J5 (a0,a1,(0:Int),ByteArray.mk #[])).snd.snd.snd
def PK (a0:List TRow) (a1:ByteArray):Int:=(J5 (a0,a1,(0:Int),ByteArray.mk #[])).snd.snd.fst
def PJ (a0:List TRow) (a1:ByteArray):Bool:=Gq (PN a0 a1) (PM a0 a1) (PK a0 a1) (PL a0 a1)
def Aol (a0:List TRow) (a1:ByteArray):ByteArray:=bif(PJ a0 a1) then KT (PN a0 a1) (PM a0 a1) (PK a0 a1) (PL a0 a1) else ByteArray.mk #[]
def Aom (a0:List TRow) (a1:ByteArray):Bool:=bif(PJ a0 a1) then true else false
def Aon (a0:List TRow) (a1:ByteArray):List TCell:=bif(PJ a0 a1) then KU (PN a0 a1) (PM a0 a1) (PK a0 a1) (PL a0 a1) else[]
def Aop (a0:List TRow) (a1:ByteArray):A:=.tup [.agg [.v (.string (Aol a0 a1)),.sq 0],.v (.bool (Aom a0 a1))]
def Aoo (a0:List TRow) (a1:ByteArray):Objs:=[(0,some (.arr 55 8 (.ty .cell (Aon a0 a1))))]
def A1u (a0:List TRow) (a1:ByteArray):List Prop:=[(AK HP HO KJ (Jg (a0,a1,(0:Int),ByteArray.mk #[])) (a0,a1,(0:Int),ByteArray.mk #[]))]
set_option maxRecDepth 100000 in
theorem Bl4 (a0:List TRow) (a1:ByteArray):ER (AA Bdn Akc) 9 148 [Ak .rows a0,Ak .str a1] 0 []=some (1,Aop a0 a1,1,Aoo a0 a1,[(Aj Try.prog (148:FuncId) (0:Nat)=Aj Try.prog (148:FuncId) (0:Nat)),(AK HP HO KJ (Jg (a0,a1,(0:Int),ByteArray.mk #[])) (a0,a1,(0:Int),ByteArray.mk #[]))]):=by kernel_rfl
set_option maxRecDepth 100000 in
theorem Brl (a0:List TRow) (a1:ByteArray) (hp:∀p∈A1u a0 a1,p):CallOk Try.prog 148 [Ak .rows a0,Ak .str a1] 0 [] 1 (Aop a0 a1) 1 (Aoo a0 a1):=by
 have n1:=N0 hp
 exact AH (Ax Awq A1q) (Bl4 a0 a1) (Aa rfl (Aa n1 Ab))
def gtK (rows:List TRow) (key:ByteArray):ByteArray:=match P4 rows key with
 |some r=>r.key
 |none=>⟨#[]⟩
def gtC (rows:List TRow) (key:ByteArray):List TCell:=match P4 rows key with
 |some r=>r.cells
 |none=>[]
def gtB (rows:List TRow) (key:ByteArray):Bool:=match P4 rows key with
 |some _=>true
 |none=>false
def A1v (a0:List TRow) (a1:ByteArray):A:=.tup [.agg [.v (.string (gtK a0 a1)),.sq 0],.v (.bool (gtB a0 a1))]
def A1t (a0:List TRow) (a1:ByteArray):Objs:=[(0,some (.arr 55 8 (.ty .cell (gtC a0 a1))))]
def Ar8 (a0:List TRow) (_a1:ByteArray):List Prop:=[Av a0.length,∀r∈a0,Ai r.cells.length]
theorem Bz6 (rows:List TRow) (key:ByteArray) (hb:Av rows.length) (hc:∀r∈rows,Ai r.cells.length):(∀p∈A1u rows key,p)∧Aol rows key=gtK rows key∧Aom rows key=gtB rows key∧Aon rows key=gtC rows key:=by
 unfold Av at hb
 have hk0:∀i:Nat,Gq rows key (i:Int) ⟨#[]⟩=(decide (i <rows.length)&&((B5 rows i).key==key)):=fun i=>by
  unfold Gq DQ
  rw[nn,Me,tlb,Int.toNat_natCast]
  rfl
 obtain⟨h1,k,hk,hx,hs,hst,_⟩:=IN (fun i=>((rows,key,(i:Int),⟨#[]⟩):DP)) rows.length (fun i=>(B5 rows i).key==key) HP HO KJ (Jg (rows,key,0,⟨#[]⟩)) (rows,key,0,⟨#[]⟩) rfl (by show rows.length≤((rows.length:Int) - 0).toNat;omega)
  (fun i _ _=>by
   show((!!decide ((i:Int) <(rows.length:Int)))&&!Gq rows key (i:Int) ⟨#[]⟩)=_
   rw[hk0,nn,Me]
   cases decide (i <rows.length)<;>rfl)
  (fun i hi _=>by
   show(rows,key,IntKind.i64.wrap ((i:Int)+1),(⟨#[]⟩:ByteArray))=(rows,key,((i+1:Nat):Int),⟨#[]⟩)
   rw[EQ (by omega)])
  (fun i hi _=>by
   have hin:(!!decide ((i:Int) <(rows.length:Int)))=true→(i:Int) <(rows.length:Int):=fun h=>by rw[nn] at h;exact of_decide_eq_true h
   refine Aa (fun h=>⟨by show(0:Int)≤(i:Int);omega,hin h⟩) (Aa (fun h _=>⟨by show(0:Int)≤(i:Int);omega,hin h⟩) (Aa (fun h _=>?_) Ab))
   have h2:=hin h
   show Ai (0+(rows.getD ((i:Int)).toNat (Ae TC.row)).2.length)
   rw[Int.toNat_natCast,Nat.zero_add]
   exact hc _ (getD_in rows (Ae TC.row) i (by omega)))
 have hr:J5 (rows,key,0,⟨#[]⟩)=(rows,key,(k:Int),⟨#[]⟩):=hx
 have hat:=Bd9 key rows k hk hs hst
 refine⟨Aa h1 Ab,?_⟩
 have e0:PJ rows key=decide (k <rows.length):=by
  unfold PJ PN PM PK PL
  rw[hr]
  show Gq rows key (k:Int) ⟨#[]⟩=_
  rw[hk0]
  rcases Nat.lt_or_ge k rows.length with h|h
  ·have h2:((B5 rows k).key==key)=true:=hst h
   rw[decide_eq_true h,h2]
   rfl
  ·rw[decide_eq_false (by omega)]
   rfl
 unfold Aol Aom Aon gtK gtB gtC
 rw[e0,hat]
 unfold PN PM PK PL
 rw[hr]
 by_cases h:k <rows.length
 ·rw[decide_eq_true h,if_pos h]
  show KT rows key (k:Int) ⟨#[]⟩=_∧true=true∧KU rows key (k:Int) ⟨#[]⟩=_
  unfold KT KU
  rw[Int.toNat_natCast]
  exact⟨rfl,rfl,rfl⟩
 ·rw[decide_eq_false h,if_neg h]
  exact⟨rfl,rfl,rfl⟩
theorem Bl3 (a0:List TRow) (a1:ByteArray) (hp:∀p∈Ar8 a0 a1,p):CallOk Try.prog 148 [Ak .rows a0,Ak .str a1] 0 [] 1 (A1v a0 a1) 1 (A1t a0 a1):=by
 obtain⟨g1,e1,e2,e3⟩:=Bz6 a0 a1 (hp _ (List.mem_cons_self ..)) (hp _ (List.mem_cons_of_mem _ (List.mem_cons_self ..)))
 have h:=Brl a0 a1 g1
 unfold Aop Aoo at h
 rw[e1,e2,e3] at h
 exact h
def Aoq:List A→Nat→Objs→Option A9
 | [y0,y1],nx,o=>match AQ .rows y0,AQ .str y1 with
  |some (a0,p0),some (a1,p1)=>some (1,(A1v a0 a1).pk (AC nx),nx+1,AB nx (A1t a0 a1)++o,p0++(p1++(Ar8 a0 a1)))
  |_,_=>none
 |_,_,_=>none
theorem Bhz:EV Try.prog 148 Aoq:=fun args nx o k x nx' o' ps h=>by
 unfold Aoq at h
 split at h<;>first|(cases h;done)|skip
 split at h<;>first|(cases h;done)|skip
 rename_i a0 p0 a1 p1 e0 e1
 cases h
 refine⟨fun hp=>?_,_,rfl⟩
 have q0:=fun p hm=>hp p (List.mem_append.2 (.inl hm))
 have r0:=fun p hm=>hp p (List.mem_append.2 (.inr hm))
 have q1:=fun p hm=>r0 p (List.mem_append.2 (.inl hm))
 have r1:=fun p hm=>r0 p (List.mem_append.2 (.inr hm))
 refine Ah (Ag (Bl3 a0 a1 r1) (Nat.le_refl _) (Ac (Af _ _) (Ac (Af _ _) An)) nx o) fun F N R vs hl=>?_
 obtain⟨v0,w0,rfl,h0,hl⟩:=hl.inv
 obtain⟨v1,w1,rfl,h1,hl⟩:=hl.inv
 exact HL.cons (Am e0 q0 h0) (HL.cons (Am e1 q1 h1) (hl))
noncomputable def Bdo:=A7 148 Aoq Bdn
theorem Awr:CU Try.prog Bdo:=Aw Bhz Awq
abbrev DR:Type:=(List TRow)×Bool×Int×TRow×(List TRow)
def Ok (x:DR):St:=⟨54,3,[(0,.sl .row x.1),(3,.own 0 0),(5,.sq 2),(6,.v (.bool x.2.1)),(7,.v (.int .i64 x.2.2.1))],[(0,some (.box 71 [.v (.string x.2.2.2.1.key),.sl .cell x.2.2.2.1.cells])),(2,some (.arr 71 2 (.ty .row x.2.2.2.2)))]⟩
def RZ:St→Option DR
 |⟨54,3,[(0,.sl .row z0),(3,.own 0 0),(5,.sq 2),(6,.v (.bool z1)),(7,.v (.int .i64 z2))],[(0,some (.box 71 [.v (.string z3),.sl .cell z4])),(2,some (.arr 71 2 (.ty .row z5)))]⟩=>some (z0,z1,z2,⟨z3,z4⟩,z5)
 |_=>none
theorem Avd:∀s x,RZ s=some x→s=Ok x:=fun s x h=>by
 unfold RZ at h
 split at h
 ·cases h;rfl
 ·cases h
def Akf:CX:=⟨2,3,[0,3,5,6,7],[],[(0,0),(9,2)],[0,9],[5,6],[2,0]⟩
def Bbj:Dp:=⟨[.nil 5 71 .row],[(0,0),(1,2)],[0,3,5,6,7],[0,1]⟩
def BJ (a0:List TRow) (_a1:Bool) (a2:Int) (_a3:TRow) (_a4:List TRow):Bool:=!!decide (a2 <(↑a0.length:Int))
def Gr (a0:List TRow) (a1:Bool) (a2:Int) (a3:TRow) (_a4:List TRow):Bool:=!(a0.getD a2.toNat (Ae TC.row)).1.toList==(bif !a1&&!Op.bytesLess (a0.getD a2.toNat (Ae TC.row)).1.toList a3.1.toList then a3.1 else a3.1).toList
def EP (a0:List TRow) (a1:Bool) (a2:Int) (a3:TRow) (a4:List TRow):List TRow:=bif !a1&&!Op.bytesLess (a0.getD a2.toNat (Ae TC.row)).1.toList a3.1.toList then a4++[TRow.mk a3.1 (HA a3)] else a4
def L2 (a0:List TRow) (a1:Bool) (a2:Int) (a3:TRow) (_a4:List TRow):Bool:=bif !a1&&!Op.bytesLess (a0.getD a2.toNat (Ae TC.row)).1.toList a3.1.toList then true else a1
def L3 (a0:List TRow) (a1:Bool) (a2:Int) (a3:TRow) (_a4:List TRow):TRow:=TRow.mk (bif !a1&&!Op.bytesLess (a0.getD a2.toNat (Ae TC.row)).1.toList a3.1.toList then a3.1 else a3.1) (bif !a1&&!Op.bytesLess (a0.getD a2.toNat (Ae TC.row)).1.toList a3.1.toList then a3.2 else a3.2)
def L4 (a0:List TRow) (a1:Bool) (a2:Int) (a3:TRow) (a4:List TRow):List TRow:=bif(Gr a0 a1 a2 a3 a4) then(EP a0 a1 a2 a3 a4)++[a0.getD a2.toNat (Ae TC.row)] else(EP a0 a1 a2 a3 a4)
def HR (x:DR):DR:=(x.1,L2 x.1 x.2.1 x.2.2.1 x.2.2.2.1 x.2.2.2.2,IntKind.i64.wrap (x.2.2.1+(1:Int)),L3 x.1 x.2.1 x.2.2.1 x.2.2.2.1 x.2.2.2.2,L4 x.1 x.2.1 x.2.2.1 x.2.2.2.1 x.2.2.2.2)
def HQ (x:DR):Cnd:=some ((BJ x.1 x.2.1 x.2.2.1 x.2.2.2.1 x.2.2.2.2))
def Yr (x:DR):List Prop:=[((BJ x.1 x.2.1 x.2.2.1 x.2.2.2.1 x.2.2.2.2)=true→(!x.2.1)=true→(0:Int)≤x.2.2.1∧x.2.2.1 <(↑x.1.length:Int)),((BJ x.1 x.2.1 x.2.2.1 x.2.2.2.1 x.2.2.2.2)=true→(!x.2.1&&!Op.bytesLess (x.1.getD x.2.2.1.toNat (Ae TC.row)).1.toList x.2.2.2.1.1.toList)=true→Ai ((0:Nat)+x.2.2.2.1.2.length)),((BJ x.1 x.2.1 x.2.2.1 x.2.2.2.1 x.2.2.2.2)=true→(!x.2.1&&!Op.bytesLess (x.1.getD x.2.2.1.toNat (Ae TC.row)).1.toList x.2.2.2.1.1.toList)=true→Ai (x.2.2.2.2.length+(1:Nat))),((BJ x.1 x.2.1 x.2.2.1 x.2.2.2.1 x.2.2.2.2)=true→(0:Int)≤x.2.2.1∧x.2.2.1 <(↑x.1.length:Int)),((BJ x.1 x.2.1 x.2.2.1 x.2.2.2.1 x.2.2.2.2)=true→(Gr x.1 x.2.1 x.2.2.1 x.2.2.2.1 x.2.2.2.2)=true→(0:Int)≤x.2.2.1∧x.2.2.1 <(↑x.1.length:Int)),((BJ x.1 x.2.1 x.2.2.1 x.2.2.2.1 x.2.2.2.2)=true→(Gr x.1 x.2.1 x.2.2.1 x.2.2.2.1 x.2.2.2.2)=true→Ai ((EP x.1 x.2.1 x.2.2.1 x.2.2.2.1 x.2.2.2.2).length+(1:Nat)))]
def KK (x:DR):List Prop:=[((BJ x.1 x.2.1 x.2.2.1 x.2.2.2.1 x.2.2.2.2)=true→(!x.2.1)=true→(0:Int)≤x.2.2.1∧x.2.2.1 <(↑x.1.length:Int)),((BJ x.1 x.2.1 x.2.2.1 x.2.2.2.1 x.2.2.2.2)=true→(!x.2.1&&!Op.bytesLess (x.1.getD x.2.2.1.toNat (Ae TC.row)).1.toList x.2.2.2.1.1.toList)=true→Ai ((0:Nat)+x.2.2.2.1.2.length)),((BJ x.1 x.2.1 x.2.2.1 x.2.2.2.1 x.2.2.2.2)=true→(!x.2.1&&!Op.bytesLess (x.1.getD x.2.2.1.toNat (Ae TC.row)).1.toList x.2.2.2.1.1.toList)=true→Ai (x.2.2.2.2.length+(1:Nat))),((BJ x.1 x.2.1 x.2.2.1 x.2.2.2.1 x.2.2.2.2)=true→(0:Int)≤x.2.2.1∧x.2.2.1 <(↑x.1.length:Int)),((BJ x.1 x.2.1 x.2.2.1 x.2.2.2.1 x.2.2.2.2)=true→(Gr x.1 x.2.1 x.2.2.1 x.2.2.2.1 x.2.2.2.2)=true→(0:Int)≤x.2.2.1∧x.2.2.1 <(↑x.1.length:Int)),((BJ x.1 x.2.1 x.2.2.1 x.2.2.2.1 x.2.2.2.2)=true→(Gr x.1 x.2.1 x.2.2.1 x.2.2.2.1 x.2.2.2.2)=true→Ai ((EP x.1 x.2.1 x.2.2.1 x.2.2.2.1 x.2.2.2.2).length+(1:Nat)))]
def VL (x:DR):Bo:=[(some 0,some (!decide (x.2.2.1 <(↑x.1.length:Int))),⟨54,3,[(5,.sq 2),(6,.v (.bool x.2.1))],[(2,some (.arr 71 2 (.ty .row x.2.2.2.2))),(0,some (.box 71 [.v (.string x.2.2.2.1.1),.sl .cell x.2.2.2.1.2]))]⟩)]
def Jh (x:DR):Nat:=((↑x.1.length:Int) - x.2.2.1).toNat
def HB (x:DR):DR:=Bc HR HQ (Jh x) x
set_option maxRecDepth 100000 in
theorem A40 (a0:List TRow) (a1:Bool) (a2:Int) (a3:TRow) (a4:List TRow):By (AA Bdo L0) 9 (Aj Try.prog 178 0) Akf (Ok (a0,a1,a2,a3,a4))=some (Yr (a0,a1,a2,a3,a4),VL (a0,a1,a2,a3,a4),HQ (a0,a1,a2,a3,a4),Ok (HR (a0,a1,a2,a3,a4))):=by kernel_rfl
set_option maxRecDepth 100000 in
theorem A41 (a0:List TRow) (a1:Bool) (a2:Int) (a3:TRow) (a4:List TRow) (hp:∀p∈KK (a0,a1,a2,a3,a4),p):∀p∈Yr (a0,a1,a2,a3,a4),p:=by
 have n0:=N0 hp
 have n1:=N0 (N1 hp)
 have n2:=N0 (N1 (N1 hp))
 have n3:=N0 (N1 (N1 (N1 hp)))
 have n4:=N0 (N1 (N1 (N1 (N1 hp))))
 have n5:=N0 (N1 (N1 (N1 (N1 (N1 hp)))))
 exact(Aa n0 (Aa n1 (Aa n2 (Aa n3 (Aa n4 (Aa n5 Ab))))))
noncomputable def Ys:=HF (AA Bdo L0) (Aj Try.prog 178 0) Akf Bbj RZ Jh HR HQ KK VL
theorem A1x:∀s b ps outs,Ys s=some (b,ps,outs)→Wf s ⟨ps,outs,none⟩∧Br (AA C0 L0) b s ps outs:=
 Bh (T:=Ok) Awr AG (u:=9) (by kernel_rfl) (by decide) (fun⟨a0,a1,a2,a3,a4⟩=>A40 a0 a1 a2 a3 a4) (fun⟨a0,a1,a2,a3,a4⟩=>A41 a0 a1 a2 a3 a4) Avd (fun _=>AU (n:=54) rfl) fun _ _=>rfl
noncomputable def Ake:=Dz 0 Ys L0
theorem A1w:Hf Ake:=A5 A1x AG
def MF (a0:List TRow) (a1:TRow):Bool:=!(HB (a0,false,(0:Int),a1,[])).snd.fst
def ME (a0:List TRow) (a1:TRow):List TRow:=(HB (a0,false,(0:Int),a1,[])).snd.snd.snd.snd
def Aor (a0:List TRow) (a1:TRow):List TRow:=bif(MF a0 a1) then(ME a0 a1)++[TRow.mk (HB (a0,false,(0:Int),a1,[])).snd.snd.snd.fst.1 (HA (HB (a0,false,(0:Int),a1,[])).snd.snd.snd.fst)] else(ME a0 a1)
def Aot (_a0:List TRow) (_a1:TRow):A:=.sq 0
def Aos (a0:List TRow) (a1:TRow):Objs:=[(0,some (.arr 71 2 (.ty .row (Aor a0 a1))))]
def A1z (a0:List TRow) (a1:TRow):List Prop:=[(AK HR HQ KK (Jh (a0,false,(0:Int),a1,[])) (a0,false,(0:Int),a1,[])),((MF a0 a1)=true→Ai ((0:Nat)+(HB (a0,false,(0:Int),a1,[])).snd.snd.snd.fst.2.length)),((MF a0 a1)=true→Ai ((ME a0 a1).length+(1:Nat)))]
set_option maxRecDepth 100000 in
theorem Bl6 (a0:List TRow) (a1:TRow):ER (AA Bdo Ake) 9 178 [Ak .rows a0,Ak .row a1] 0 []=some (1,Aot a0 a1,1,Aos a0 a1,[(Aj Try.prog (178:FuncId) (0:Nat)=Aj Try.prog (178:FuncId) (0:Nat)),(AK HR HQ KK (Jh (a0,false,(0:Int),a1,[])) (a0,false,(0:Int),a1,[])),((MF a0 a1)=true→Ai ((0:Nat)+(HB (a0,false,(0:Int),a1,[])).snd.snd.snd.fst.2.length)),((MF a0 a1)=true→Ai ((ME a0 a1).length+(1:Nat)))]):=by kernel_rfl
set_option maxRecDepth 100000 in
theorem Brm (a0:List TRow) (a1:TRow) (hp:∀p∈A1z a0 a1,p):CallOk Try.prog 178 [Ak .rows a0,Ak .row a1] 0 [] 1 (Aot a0 a1) 1 (Aos a0 a1):=by
 have n1:=N0 hp
 have n2:=N0 (N1 hp)
 have n3:=N0 (N1 (N1 hp))
 exact AH (Ax Awr A1w) (Bl6 a0 a1) (Aa rfl (Aa n1 (Aa n2 (Aa n3 Ab))))
def Bmo (l:List TRow) (r:TRow):List TRow:=Bu0 r (Lj r l l.length)
def A10 (a0:List TRow) (a1:TRow):A:=.sl .row (Bmo a0 a1)
def A1y (_a0:List TRow) (_a1:TRow):Objs:=[]
def Ar9 (a0:List TRow) (a1:TRow):List Prop:=[a0.length≤400000∧Ai a1.cells.length]
theorem Bz7 (rows:List TRow) (r:TRow) (hb:rows.length≤400000) (hc:Ai r.cells.length):(∀p∈A1z rows r,p)∧Aor rows r=Bmo rows r:=by
 have hlt:∀i:Nat,Op.bytesLess (rows.getD ((i:Int)).toNat (Ae TC.row)).1.toList r.1.toList=Ii (B5 rows i).key r.key:=fun i=>by rw[Int.toNat_natCast];rfl
 have same:∀(c:Bool) (x:ByteArray),(bif c then x else x)=x:=fun c x=>by cases c<;>rfl
 have hcp:HA r=r.2:=rfl
 have e1:∀(i:Nat) (d:Bool) (o:List TRow),L2 rows d (i:Int) r o=(d||!Ii (B5 rows i).key r.key):=fun i d o=>by
  unfold L2
  rw[hlt]
  cases d<;>cases Ii (B5 rows i).key r.key<;>rfl
 have e3:∀(i:Nat) (d:Bool) (o:List TRow),L3 rows d (i:Int) r o=r:=fun i d o=>by
  unfold L3
  rw[hlt]
  cases(!d&&!Ii (B5 rows i).key r.key)<;>rfl
 have ek0:∀(i:Nat) (d:Bool) (o:List TRow),EP rows d (i:Int) r o=bif !d&&!Ii (B5 rows i).key r.key then o++[r] else o:=fun i d o=>by
  unfold EP
  rw[hlt]
  rfl
 have ek1:∀(i:Nat) (d:Bool) (o:List TRow),Gr rows d (i:Int) r o=!((B5 rows i).key==r.key):=fun i d o=>by
  unfold Gr
  rw[same,tlb,Int.toNat_natCast]
  rfl
 have e4:∀(i:Nat) (d:Bool) (o:List TRow),L4 rows d (i:Int) r o=(bif !d&&!Ii (B5 rows i).key r.key then o++[r] else o)++(bif(B5 rows i).key==r.key then[] else[B5 rows i]):=fun i d o=>by
  unfold L4
  rw[ek0,ek1,Int.toNat_natCast]
  cases(B5 rows i).key==r.key with
  |true=>exact(List.append_nil _).symm
  |false=>rfl
 have k0len:∀(i:Nat) (d:Bool) (o:List TRow),(EP rows d (i:Int) r o).length≤o.length+1:=fun i d o=>by
  rw[ek0]
  cases(!d&&!Ii (B5 rows i).key r.key) with
  |true=>rw[cond_true,List.length_append];exact Nat.le_refl _
  |false=>exact Nat.le_succ _
 obtain⟨h1,hx⟩:=Bca (fun i=>((rows,(Lj r rows i).2,(i:Int),r,(Lj r rows i).1):DR)) rows.length HR HQ KK (Jh (rows,false,0,r,[])) (rows,false,0,r,[]) rfl (by show rows.length≤((rows.length:Int) - 0).toNat;omega)
  (fun i _=>by
   show(!!decide ((i:Int) <(rows.length:Int)))=_
   rw[nn,Me])
  (fun i hi=>by
   show(rows,L2 rows (Lj r rows i).2 (i:Int) r (Lj r rows i).1,IntKind.i64.wrap ((i:Int)+1),L3 rows (Lj r rows i).2 (i:Int) r (Lj r rows i).1,L4 rows (Lj r rows i).2 (i:Int) r (Lj r rows i).1)=(rows,(Lj r rows (i+1)).2,((i+1:Nat):Int),r,(Lj r rows (i+1)).1)
   rw[EQ (by omega),e1,e3,e4,A7e r rows i hi]
   rfl)
  (fun i hi=>by
   have hin:(!!decide ((i:Int) <(rows.length:Int)))=true→(i:Int) <(rows.length:Int):=fun h=>by rw[nn] at h;exact of_decide_eq_true h
   have hl:=A2q r rows i hi
   refine Aa (fun h _=>⟨by show(0:Int)≤(i:Int);omega,hin h⟩) (Aa (fun _ _=>?_) (Aa (fun _ _=>?_) (Aa (fun h=>⟨by show(0:Int)≤(i:Int);omega,hin h⟩) (Aa (fun h _=>⟨by show(0:Int)≤(i:Int);omega,hin h⟩) (Aa (fun _ _=>?_) Ab)))))
   ·show Ai (0+r.2.length)
    rw[Nat.zero_add]
    exact hc
   ·show Ai ((Lj r rows i).1.length+1)
    unfold Ai
    omega
   ·have:=k0len i (Lj r rows i).2 (Lj r rows i).1
    show Ai ((EP rows (Lj r rows i).2 (i:Int) r (Lj r rows i).1).length+1)
    unfold Ai
    omega)
 have hr:HB (rows,false,0,r,[])=(rows,(Lj r rows rows.length).2,(rows.length:Int),r,(Lj r rows rows.length).1):=hx
 have hl:=A2q r rows rows.length (Nat.le_refl _)
 refine⟨Aa h1 (Aa (fun _=>?_) (Aa (fun _=>?_) Ab)),?_⟩
 ·rw[hr,Nat.zero_add]
  exact hc
 ·unfold ME
  rw[hr]
  show Ai ((Lj r rows rows.length).1.length+1)
  unfold Ai
  omega
 ·unfold Aor MF ME Bmo Bu0
  rw[hr]
  show(bif !(Lj r rows rows.length).2 then(Lj r rows rows.length).1++[r] else(Lj r rows rows.length).1)=_
  cases(Lj r rows rows.length).2<;>rfl
theorem Bl5 (a0:List TRow) (a1:TRow) (hp:∀p∈Ar9 a0 a1,p):CallOk Try.prog 178 [Ak .rows a0,Ak .row a1] 0 [] 1 (A10 a0 a1) 0 (A1y a0 a1):=by
 obtain⟨h1,h2⟩:=hp _ (List.mem_cons_self ..)
 obtain⟨g1,e1⟩:=Bz7 a0 a1 h1 h2
 have h:=Brm a0 a1 g1
 unfold Aot Aos at h
 rw[e1] at h
 exact A6b (c:=.row) h
def Aou:List A→Nat→Objs→Option A9
 | [y0,y1],nx,o=>match AQ .rows y0,AQ .row y1 with
  |some (a0,p0),some (a1,p1)=>some (1,(A10 a0 a1).pk (AC nx),nx+0,AB nx (A1y a0 a1)++o,p0++(p1++(Ar9 a0 a1)))
  |_,_=>none
 |_,_,_=>none
theorem Bh0:EV Try.prog 178 Aou:=fun args nx o k x nx' o' ps h=>by
 unfold Aou at h
 split at h<;>first|(cases h;done)|skip
 split at h<;>first|(cases h;done)|skip
 rename_i a0 p0 a1 p1 e0 e1
 cases h
 refine⟨fun hp=>?_,_,rfl⟩
 have q0:=fun p hm=>hp p (List.mem_append.2 (.inl hm))
 have r0:=fun p hm=>hp p (List.mem_append.2 (.inr hm))
 have q1:=fun p hm=>r0 p (List.mem_append.2 (.inl hm))
 have r1:=fun p hm=>r0 p (List.mem_append.2 (.inr hm))
 refine Ah (Ag (Bl5 a0 a1 r1) (Nat.le_refl _) (Ac (Af _ _) (Ac (Af _ _) An)) nx o) fun F N R vs hl=>?_
 obtain⟨v0,w0,rfl,h0,hl⟩:=hl.inv
 obtain⟨v1,w1,rfl,h1,hl⟩:=hl.inv
 exact HL.cons (Am e0 q0 h0) (HL.cons (Am e1 q1 h1) (hl))
noncomputable def B1e:=A7 178 Aou Bdo
theorem Btn:CU Try.prog B1e:=Aw Bh0 Awr
noncomputable def Cmg:=B1e
theorem Bto:CU Try.prog Cmg:=Btn
end Go.Proofs.Yteebobbhhgmeiaa
namespace Go.Proofs.Yteebobbhhgmeiaa
open Go.RowKit
def Mp (a0:Int):A:=.v (.bool (a0==(1:Int)||a0==(2:Int)))
def Mo (_a0:Int):Objs:=[]
def Qk (_a0:Int):List Prop:=[]
set_option maxRecDepth 100000 in
theorem Ahv (a0:Int):ER (AA Cb L0) 9 96 [Ak .i64 a0] 0 []=some (1,Mp a0,0,Mo a0,[]):=by kernel_rfl
set_option maxRecDepth 100000 in
theorem Al8 (a0:Int) (_hp:∀p∈Qk a0,p):CallOk Try.prog 96 [Ak .i64 a0] 0 [] 1 (Mp a0) 0 (Mo a0):=by
 exact AH (Ax Bng AG) (Ahv a0) Ab
def Mq:List A→Nat→Objs→Option A9
 | [y0],nx,o=>match AQ .i64 y0 with
  |some (a0,p0)=>some (1,(Mp a0).pk (AC nx),nx+0,AB nx (Mo a0)++o,p0++(Qk a0))
  |_=>none
 |_,_,_=>none
theorem Ada:EV Try.prog 96 Mq:=fun args nx o k x nx' o' ps h=>by
 unfold Mq at h
 split at h<;>first|(cases h;done)|skip
 split at h<;>first|(cases h;done)|skip
 rename_i a0 p0 e0
 cases h
 refine⟨fun hp=>?_,_,rfl⟩
 have q0:=fun p hm=>hp p (List.mem_append.2 (.inl hm))
 have r0:=fun p hm=>hp p (List.mem_append.2 (.inr hm))
 refine Ah (Ag (Al8 a0 r0) (Nat.le_refl _) (Ac (Af _ _) An) nx o) fun F N R vs hl=>?_
 obtain⟨v0,w0,rfl,h0,hl⟩:=hl.inv
 exact HL.cons (Am e0 q0 h0) (hl)
noncomputable def Bsm:=A7 96 Mq Cb
theorem Bcy:CU Try.prog Bsm:=Aw Ada Bng
def Nw (a0:Int):Bool:=!(a0==(1:Int)||a0==(2:Int))
def KP (a0:Int):Int:=bif(Nw a0) then(0:Int) else(0:Int)
def JP (a0:Int):TFront:=TFront.mk (bif(Nw a0) then(0:Int) else a0) (KP a0) (KP a0) (KP a0) (KP a0)
def Axy (a0:Int):Int:=bif(Nw a0) then(2:Int) else(0:Int)
def OV (a0:Int):A:=.v (.tuple ⟨[.agg ⟨[.int .i64 ((JP a0).site),.int .i64 ((JP a0).acked),.int .i64 ((JP a0).stable),.int .i64 ((JP a0).wait),.int .i64 ((JP a0).til)]⟩,.int .i64 (Axy a0)]⟩)
def OU (_a0:Int):Objs:=[]
def U4 (_a0:Int):List Prop:=[]
set_option maxRecDepth 100000 in
theorem Atj (a0:Int):ER (AA Bsm L0) 9 24 [Ak .i64 a0] 0 []=some (1,OV a0,0,OU a0,[]):=by kernel_rfl
set_option maxRecDepth 100000 in
theorem Axz (a0:Int) (_hp:∀p∈U4 a0,p):CallOk Try.prog 24 [Ak .i64 a0] 0 [] 1 (OV a0) 0 (OU a0):=by
 exact AH (Ax Bcy AG) (Atj a0) Ab
def OW:List A→Nat→Objs→Option A9
 | [y0],nx,o=>match AQ .i64 y0 with
  |some (a0,p0)=>some (1,(OV a0).pk (AC nx),nx+0,AB nx (OU a0)++o,p0++(U4 a0))
  |_=>none
 |_,_,_=>none
theorem Al6:EV Try.prog 24 OW:=fun args nx o k x nx' o' ps h=>by
 unfold OW at h
 split at h<;>first|(cases h;done)|skip
 split at h<;>first|(cases h;done)|skip
 rename_i a0 p0 e0
 cases h
 refine⟨fun hp=>?_,_,rfl⟩
 have q0:=fun p hm=>hp p (List.mem_append.2 (.inl hm))
 have r0:=fun p hm=>hp p (List.mem_append.2 (.inr hm))
 refine Ah (Ag (Axz a0 r0) (Nat.le_refl _) (Ac (Af _ _) An) nx o) fun F N R vs hl=>?_
 obtain⟨v0,w0,rfl,h0,hl⟩:=hl.inv
 exact HL.cons (Am e0 q0 h0) (hl)
noncomputable def Bsn:=A7 24 OW Bsm
theorem Bcz:CU Try.prog Bsn:=Aw Al6 Bcy
def Sv (a0:TFront):Bool:=decide (a0.4 <(0:Int))||decide (a0.4 >(1099511627776:Int))
def Su (a0:TFront):Bool:=decide (a0.3 <(0:Int))||decide (a0.3 >(1099511627776:Int))
def Ss (a0:TFront):Bool:=decide (a0.2 <(0:Int))||decide (a0.2 >(1099511627776:Int))
def I9 (a0:TFront):Bool:=bif(Ss a0)||((Su a0)||((Sv a0)||(decide (a0.5 <(0:Int))||decide (a0.5 >(1099511627776:Int))))) then bif(Ss a0) then false else bif(Su a0) then false else bif(Sv a0) then false else false else(a0.1==(1:Int)||a0.1==(2:Int))&&decide (max a0.3 a0.4≤a0.2)&&!(a0.5==(0:Int)&&decide (a0.4 >(0:Int)))
def Nu (a0:TFront):A:=.v (.bool (I9 a0))
def Nt (_a0:TFront):Objs:=[]
def Sw (_a0:TFront):List Prop:=[]
set_option maxRecDepth 100000 in
theorem Al2 (a0:TFront):ER (AA Bsn L0) 9 34 [Ak .front a0] 0 []=some (1,Nu a0,0,Nt a0,[]):=by kernel_rfl
set_option maxRecDepth 100000 in
theorem Ate (a0:TFront) (_hp:∀p∈Sw a0,p):CallOk Try.prog 34 [Ak .front a0] 0 [] 1 (Nu a0) 0 (Nt a0):=by
 exact AH (Ax Bcz AG) (Al2 a0) Ab
def Nv:List A→Nat→Objs→Option A9
 | [y0],nx,o=>match AQ .front y0 with
  |some (a0,p0)=>some (1,(Nu a0).pk (AC nx),nx+0,AB nx (Nt a0)++o,p0++(Sw a0))
  |_=>none
 |_,_,_=>none
theorem Aho:EV Try.prog 34 Nv:=fun args nx o k x nx' o' ps h=>by
 unfold Nv at h
 split at h<;>first|(cases h;done)|skip
 split at h<;>first|(cases h;done)|skip
 rename_i a0 p0 e0
 cases h
 refine⟨fun hp=>?_,_,rfl⟩
 have q0:=fun p hm=>hp p (List.mem_append.2 (.inl hm))
 have r0:=fun p hm=>hp p (List.mem_append.2 (.inr hm))
 refine Ah (Ag (Ate a0 r0) (Nat.le_refl _) (Ac (Af _ _) An) nx o) fun F N R vs hl=>?_
 obtain⟨v0,w0,rfl,h0,hl⟩:=hl.inv
 exact HL.cons (Am e0 q0 h0) (hl)
noncomputable def Bso:=A7 34 Nv Bsn
theorem Bc0:CU Try.prog Bso:=Aw Aho Bcz
def Dj (a0:TFront) (a1:TVec):Int:=bif !I9 a0||!Bz a1 then(2:Int) else(0:Int)
def Mm (a0:TFront) (a1:TVec):A:=.v (.int .i64 (Dj a0 a1))
def Ml (_a0:TFront) (_a1:TVec):Objs:=[]
def Qj (_a0:TFront) (_a1:TVec):List Prop:=[]
set_option maxRecDepth 100000 in
theorem Ahu (a0:TFront) (a1:TVec):ER (AA Bso L0) 9 97 [Ak .front a0,Ak .vec a1] 0 []=some (1,Mm a0 a1,0,Ml a0 a1,[]):=by kernel_rfl
set_option maxRecDepth 100000 in
theorem Al7 (a0:TFront) (a1:TVec) (_hp:∀p∈Qj a0 a1,p):CallOk Try.prog 97 [Ak .front a0,Ak .vec a1] 0 [] 1 (Mm a0 a1) 0 (Ml a0 a1):=by
 exact AH (Ax Bc0 AG) (Ahu a0 a1) Ab
def Mn:List A→Nat→Objs→Option A9
 | [y0,y1],nx,o=>match AQ .front y0,AQ .vec y1 with
  |some (a0,p0),some (a1,p1)=>some (1,(Mm a0 a1).pk (AC nx),nx+0,AB nx (Ml a0 a1)++o,p0++(p1++(Qj a0 a1)))
  |_,_=>none
 |_,_,_=>none
theorem Ac9:EV Try.prog 97 Mn:=fun args nx o k x nx' o' ps h=>by
 unfold Mn at h
 split at h<;>first|(cases h;done)|skip
 split at h<;>first|(cases h;done)|skip
 rename_i a0 p0 a1 p1 e0 e1
 cases h
 refine⟨fun hp=>?_,_,rfl⟩
 have q0:=fun p hm=>hp p (List.mem_append.2 (.inl hm))
 have r0:=fun p hm=>hp p (List.mem_append.2 (.inr hm))
 have q1:=fun p hm=>r0 p (List.mem_append.2 (.inl hm))
 have r1:=fun p hm=>r0 p (List.mem_append.2 (.inr hm))
 refine Ah (Ag (Al7 a0 a1 r1) (Nat.le_refl _) (Ac (Af _ _) (Ac (Af _ _) An)) nx o) fun F N R vs hl=>?_
 obtain⟨v0,w0,rfl,h0,hl⟩:=hl.inv
 obtain⟨v1,w1,rfl,h1,hl⟩:=hl.inv
 exact HL.cons (Am e0 q0 h0) (HL.cons (Am e1 q1 h1) (hl))
noncomputable def Bsp:=A7 97 Mn Bso
theorem Bc1:CU Try.prog Bsp:=Aw Ac9 Bc0
theorem B3l {s:Int} (h:s=1∨s=2):0≤IntKind.i64.wrap (2 - s)∧IntKind.i64.wrap (2 - s) <2:=by
 rcases h with rfl|rfl<;>decide
theorem B41 {s:Int} (h:s=1∨s=2):0≤IntKind.i64.wrap (s - 1)∧IntKind.i64.wrap (s - 1) <2:=by
 rcases h with rfl|rfl<;>decide
theorem OO {f:TFront} {v:TVec} (h:(!(Dj f v !=0))=true):f.site=1∨f.site=2:=by
 have hg:I9 f=true:=by
  unfold Dj at h
  cases hg:I9 f with
  |true=>rfl
  |false=>rw[hg] at h;cases h
 unfold I9 at hg
 rw[Bool.cond_eq_ite] at hg
 split at hg
 ·repeat' (first|(cases hg;done)|(rw[Bool.cond_eq_ite] at hg;split at hg))
 ·simp only[Bool.and_eq_true,Bool.or_eq_true,beq_iff_eq] at hg
  exact hg.1.1
theorem B5d {c d:Bool} {s:Int}:(bif c then s else bif d then s else s)=s:=by cases c<;>cases d<;>rfl
def AN (a0:TFront) (_a1:TVec):Int:=IntKind.i64.wrap ((2:Int) - a0.1)
def Au (a0:TFront) (a1:TVec):Int:=bif(AN a0 a1).toNat.beq (0:Nat) then a1.1 else a1.2
def Jw (a0:TFront) (a1:TVec):A:=.v (.int .i64 (Au a0 a1))
def Jv (_a0:TFront) (_a1:TVec):Objs:=[]
def Lu (a0:TFront) (a1:TVec):List Prop:=[((0:Int)≤(AN a0 a1)∧(AN a0 a1) <(2:Int))]
set_option maxRecDepth 100000 in
theorem T0 (a0:TFront) (a1:TVec):ER (AA Bsp L0) 9 98 [Ak .front a0,Ak .vec a1] 0 []=some (1,Jw a0 a1,0,Jv a0 a1,[((0:Int)≤(AN a0 a1)∧(AN a0 a1) <(2:Int)),((AN a0 a1).toNat <(2:Nat))]):=by kernel_rfl
set_option maxRecDepth 100000 in
theorem V8 (a0:TFront) (a1:TVec) (hp:∀p∈Lu a0 a1,p):CallOk Try.prog 98 [Ak .front a0,Ak .vec a1] 0 [] 1 (Jw a0 a1) 0 (Jv a0 a1):=by
 have n0:=N0 hp
 have n1:((AN a0 a1).toNat <(2:Nat)):=by omega
 exact AH (Ax Bc1 AG) (T0 a0 a1) (Aa n0 (Aa n1 Ab))
def Jy:List A→Nat→Objs→Option A9
 | [y0,y1],nx,o=>match AQ .front y0,AQ .vec y1 with
  |some (a0,p0),some (a1,p1)=>some (1,(Jw a0 a1).pk (AC nx),nx+0,AB nx (Jv a0 a1)++o,p0++(p1++(Lu a0 a1)))
  |_,_=>none
 |_,_,_=>none
theorem Sr:EV Try.prog 98 Jy:=fun args nx o k x nx' o' ps h=>by
 unfold Jy at h
 split at h<;>first|(cases h;done)|skip
 split at h<;>first|(cases h;done)|skip
 rename_i a0 p0 a1 p1 e0 e1
 cases h
 refine⟨fun hp=>?_,_,rfl⟩
 have q0:=fun p hm=>hp p (List.mem_append.2 (.inl hm))
 have r0:=fun p hm=>hp p (List.mem_append.2 (.inr hm))
 have q1:=fun p hm=>r0 p (List.mem_append.2 (.inl hm))
 have r1:=fun p hm=>r0 p (List.mem_append.2 (.inr hm))
 refine Ah (Ag (V8 a0 a1 r1) (Nat.le_refl _) (Ac (Af _ _) (Ac (Af _ _) An)) nx o) fun F N R vs hl=>?_
 obtain⟨v0,w0,rfl,h0,hl⟩:=hl.inv
 obtain⟨v1,w1,rfl,h1,hl⟩:=hl.inv
 exact HL.cons (Am e0 q0 h0) (HL.cons (Am e1 q1 h1) (hl))
noncomputable def Bsq:=A7 98 Jy Bsp
theorem Bc2:CU Try.prog Bsq:=Aw Sr Bc1
def Dq (a0:TFront) (a1:TVec):Bool:=decide (a0.5 >(0:Int))&&decide (Au a0 a1≥a0.5)
def AO (a0:TFront) (a1:TVec):TFront:=TFront.mk (bif(Dq a0 a1) then a0.1 else a0.1) (bif(Dq a0 a1) then a0.2 else a0.2) (bif(Dq a0 a1) then max a0.3 a0.4 else a0.3) (bif(Dq a0 a1) then(0:Int) else a0.4) (bif(Dq a0 a1) then(0:Int) else a0.5)
def H9 (a0:TFront) (a1:TVec):A:=.v (.agg ⟨[.int .i64 ((AO a0 a1).site),.int .i64 ((AO a0 a1).acked),.int .i64 ((AO a0 a1).stable),.int .i64 ((AO a0 a1).wait),.int .i64 ((AO a0 a1).til)]⟩)
def H8 (_a0:TFront) (_a1:TVec):Objs:=[]
def Ky (a0:TFront) (a1:TVec):List Prop:=[(decide (a0.5 >(0:Int))=true→(0:Int)≤AN a0 a1∧AN a0 a1 <(2:Int))]
set_option maxRecDepth 100000 in
theorem P7 (a0:TFront) (a1:TVec):ER (AA Bsq L0) 9 99 [Ak .front a0,Ak .vec a1] 0 []=some (1,H9 a0 a1,0,H8 a0 a1,[(decide (a0.5 >(0:Int))=true→(0:Int)≤AN a0 a1∧AN a0 a1 <(2:Int))]):=by kernel_rfl
set_option maxRecDepth 100000 in
theorem Ro (a0:TFront) (a1:TVec) (hp:∀p∈Ky a0 a1,p):CallOk Try.prog 99 [Ak .front a0,Ak .vec a1] 0 [] 1 (H9 a0 a1) 0 (H8 a0 a1):=by
 have n0:=N0 hp
 exact AH (Ax Bc2 AG) (P7 a0 a1) (Aa n0 Ab)
def Ia:List A→Nat→Objs→Option A9
 | [y0,y1],nx,o=>match AQ .front y0,AQ .vec y1 with
  |some (a0,p0),some (a1,p1)=>some (1,(H9 a0 a1).pk (AC nx),nx+0,AB nx (H8 a0 a1)++o,p0++(p1++(Ky a0 a1)))
  |_,_=>none
 |_,_,_=>none
theorem OQ:EV Try.prog 99 Ia:=fun args nx o k x nx' o' ps h=>by
 unfold Ia at h
 split at h<;>first|(cases h;done)|skip
 split at h<;>first|(cases h;done)|skip
 rename_i a0 p0 a1 p1 e0 e1
 cases h
 refine⟨fun hp=>?_,_,rfl⟩
 have q0:=fun p hm=>hp p (List.mem_append.2 (.inl hm))
 have r0:=fun p hm=>hp p (List.mem_append.2 (.inr hm))
 have q1:=fun p hm=>r0 p (List.mem_append.2 (.inl hm))
 have r1:=fun p hm=>r0 p (List.mem_append.2 (.inr hm))
 refine Ah (Ag (Ro a0 a1 r1) (Nat.le_refl _) (Ac (Af _ _) (Ac (Af _ _) An)) nx o) fun F N R vs hl=>?_
 obtain⟨v0,w0,rfl,h0,hl⟩:=hl.inv
 obtain⟨v1,w1,rfl,h1,hl⟩:=hl.inv
 exact HL.cons (Am e0 q0 h0) (HL.cons (Am e1 q1 h1) (hl))
noncomputable def Bsr:=A7 99 Ia Bsq
theorem Bc3:CU Try.prog Bsr:=Aw OQ Bc2
def JB (a0:TFront) (a1:TVec) (a2:Int) (_a3:Int):Int:=AN (TFront.mk a0.1 (max a0.2 a2) a0.3 a0.4 a0.5) a1
def Ba (a0:TFront) (a1:TVec) (_a2:Int) (_a3:Int):Bool:=Dj a0 a1 !=(0:Int)
def CN (a0:TFront) (_a1:TVec) (_a2:Int) (_a3:Int):Int:=IntKind.i64.wrap (a0.1 - (1:Int))
def BY (a0:TFront) (a1:TVec) (a2:Int) (a3:Int):Bool:=decide (a2 <(0:Int))||decide (a2 >bif(CN a0 a1 a2 a3).toNat.beq (0:Nat) then a1.1 else a1.2)||decide (a3 <(0:Int))||decide (a3 >(1099511627776:Int))
def JA (a0:TFront) (a1:TVec) (a2:Int) (a3:Int):Int:=AN (TFront.mk (bif decide (Au (TFront.mk a0.1 (max a0.2 a2) a0.3 a0.4 a0.5) a1≥a3) then a0.1 else bif a0.5==(0:Int)&&decide (a2 >a0.3) then a0.1 else a0.1) (bif decide (Au (TFront.mk a0.1 (max a0.2 a2) a0.3 a0.4 a0.5) a1≥a3) then max a0.2 a2 else bif a0.5==(0:Int)&&decide (a2 >a0.3) then max a0.2 a2 else max a0.2 a2) (bif decide (Au (TFront.mk a0.1 (max a0.2 a2) a0.3 a0.4 a0.5) a1≥a3) then max a0.3 a2 else bif a0.5==(0:Int)&&decide (a2 >a0.3) then a0.3 else a0.3) (bif decide (Au (TFront.mk a0.1 (max a0.2 a2) a0.3 a0.4 a0.5) a1≥a3) then a0.4 else bif a0.5==(0:Int)&&decide (a2 >a0.3) then a2 else a0.4) (bif decide (Au (TFront.mk a0.1 (max a0.2 a2) a0.3 a0.4 a0.5) a1≥a3) then a0.5 else bif a0.5==(0:Int)&&decide (a2 >a0.3) then a3 else a0.5)) a1
def Ip (a0:TFront) (a1:TVec) (a2:Int) (a3:Int):TFront:=TFront.mk (bif(Ba a0 a1 a2 a3) then(0:Int) else bif(BY a0 a1 a2 a3) then(0:Int) else(AO (TFront.mk (bif decide (Au (TFront.mk a0.1 (max a0.2 a2) a0.3 a0.4 a0.5) a1≥a3) then a0.1 else bif a0.5==(0:Int)&&decide (a2 >a0.3) then a0.1 else a0.1) (bif decide (Au (TFront.mk a0.1 (max a0.2 a2) a0.3 a0.4 a0.5) a1≥a3) then max a0.2 a2 else bif a0.5==(0:Int)&&decide (a2 >a0.3) then max a0.2 a2 else max a0.2 a2) (bif decide (Au (TFront.mk a0.1 (max a0.2 a2) a0.3 a0.4 a0.5) a1≥a3) then max a0.3 a2 else bif a0.5==(0:Int)&&decide (a2 >a0.3) then a0.3 else a0.3) (bif decide (Au (TFront.mk a0.1 (max a0.2 a2) a0.3 a0.4 a0.5) a1≥a3) then a0.4 else bif a0.5==(0:Int)&&decide (a2 >a0.3) then a2 else a0.4) (bif decide (Au (TFront.mk a0.1 (max a0.2 a2) a0.3 a0.4 a0.5) a1≥a3) then a0.5 else bif a0.5==(0:Int)&&decide (a2 >a0.3) then a3 else a0.5)) a1).1) (bif(Ba a0 a1 a2 a3) then(0:Int) else bif(BY a0 a1 a2 a3) then(0:Int) else(AO (TFront.mk (bif decide (Au (TFront.mk a0.1 (max a0.2 a2) a0.3 a0.4 a0.5) a1≥a3) then a0.1 else bif a0.5==(0:Int)&&decide (a2 >a0.3) then a0.1 else a0.1) (bif decide (Au (TFront.mk a0.1 (max a0.2 a2) a0.3 a0.4 a0.5) a1≥a3) then max a0.2 a2 else bif a0.5==(0:Int)&&decide (a2 >a0.3) then max a0.2 a2 else max a0.2 a2) (bif decide (Au (TFront.mk a0.1 (max a0.2 a2) a0.3 a0.4 a0.5) a1≥a3) then max a0.3 a2 else bif a0.5==(0:Int)&&decide (a2 >a0.3) then a0.3 else a0.3) (bif decide (Au (TFront.mk a0.1 (max a0.2 a2) a0.3 a0.4 a0.5) a1≥a3) then a0.4 else bif a0.5==(0:Int)&&decide (a2 >a0.3) then a2 else a0.4) (bif decide (Au (TFront.mk a0.1 (max a0.2 a2) a0.3 a0.4 a0.5) a1≥a3) then a0.5 else bif a0.5==(0:Int)&&decide (a2 >a0.3) then a3 else a0.5)) a1).2) (bif(Ba a0 a1 a2 a3) then(0:Int) else bif(BY a0 a1 a2 a3) then(0:Int) else(AO (TFront.mk (bif decide (Au (TFront.mk a0.1 (max a0.2 a2) a0.3 a0.4 a0.5) a1≥a3) then a0.1 else bif a0.5==(0:Int)&&decide (a2 >a0.3) then a0.1 else a0.1) (bif decide (Au (TFront.mk a0.1 (max a0.2 a2) a0.3 a0.4 a0.5) a1≥a3) then max a0.2 a2 else bif a0.5==(0:Int)&&decide (a2 >a0.3) then max a0.2 a2 else max a0.2 a2) (bif decide (Au (TFront.mk a0.1 (max a0.2 a2) a0.3 a0.4 a0.5) a1≥a3) then max a0.3 a2 else bif a0.5==(0:Int)&&decide (a2 >a0.3) then a0.3 else a0.3) (bif decide (Au (TFront.mk a0.1 (max a0.2 a2) a0.3 a0.4 a0.5) a1≥a3) then a0.4 else bif a0.5==(0:Int)&&decide (a2 >a0.3) then a2 else a0.4) (bif decide (Au (TFront.mk a0.1 (max a0.2 a2) a0.3 a0.4 a0.5) a1≥a3) then a0.5 else bif a0.5==(0:Int)&&decide (a2 >a0.3) then a3 else a0.5)) a1).3) (bif(Ba a0 a1 a2 a3) then(0:Int) else bif(BY a0 a1 a2 a3) then(0:Int) else(AO (TFront.mk (bif decide (Au (TFront.mk a0.1 (max a0.2 a2) a0.3 a0.4 a0.5) a1≥a3) then a0.1 else bif a0.5==(0:Int)&&decide (a2 >a0.3) then a0.1 else a0.1) (bif decide (Au (TFront.mk a0.1 (max a0.2 a2) a0.3 a0.4 a0.5) a1≥a3) then max a0.2 a2 else bif a0.5==(0:Int)&&decide (a2 >a0.3) then max a0.2 a2 else max a0.2 a2) (bif decide (Au (TFront.mk a0.1 (max a0.2 a2) a0.3 a0.4 a0.5) a1≥a3) then max a0.3 a2 else bif a0.5==(0:Int)&&decide (a2 >a0.3) then a0.3 else a0.3) (bif decide (Au (TFront.mk a0.1 (max a0.2 a2) a0.3 a0.4 a0.5) a1≥a3) then a0.4 else bif a0.5==(0:Int)&&decide (a2 >a0.3) then a2 else a0.4) (bif decide (Au (TFront.mk a0.1 (max a0.2 a2) a0.3 a0.4 a0.5) a1≥a3) then a0.5 else bif a0.5==(0:Int)&&decide (a2 >a0.3) then a3 else a0.5)) a1).4) (bif(Ba a0 a1 a2 a3) then(0:Int) else bif(BY a0 a1 a2 a3) then(0:Int) else(AO (TFront.mk (bif decide (Au (TFront.mk a0.1 (max a0.2 a2) a0.3 a0.4 a0.5) a1≥a3) then a0.1 else bif a0.5==(0:Int)&&decide (a2 >a0.3) then a0.1 else a0.1) (bif decide (Au (TFront.mk a0.1 (max a0.2 a2) a0.3 a0.4 a0.5) a1≥a3) then max a0.2 a2 else bif a0.5==(0:Int)&&decide (a2 >a0.3) then max a0.2 a2 else max a0.2 a2) (bif decide (Au (TFront.mk a0.1 (max a0.2 a2) a0.3 a0.4 a0.5) a1≥a3) then max a0.3 a2 else bif a0.5==(0:Int)&&decide (a2 >a0.3) then a0.3 else a0.3) (bif decide (Au (TFront.mk a0.1 (max a0.2 a2) a0.3 a0.4 a0.5) a1≥a3) then a0.4 else bif a0.5==(0:Int)&&decide (a2 >a0.3) then a2 else a0.4) (bif decide (Au (TFront.mk a0.1 (max a0.2 a2) a0.3 a0.4 a0.5) a1≥a3) then a0.5 else bif a0.5==(0:Int)&&decide (a2 >a0.3) then a3 else a0.5)) a1).5)
def Al3 (a0:TFront) (a1:TVec) (a2:Int) (a3:Int):Int:=bif(Ba a0 a1 a2 a3) then Dj a0 a1 else bif(BY a0 a1 a2 a3) then(2:Int) else(0:Int)
def Mj (a0:TFront) (a1:TVec) (a2:Int) (a3:Int):A:=.v (.tuple ⟨[.agg ⟨[.int .i64 ((Ip a0 a1 a2 a3).site),.int .i64 ((Ip a0 a1 a2 a3).acked),.int .i64 ((Ip a0 a1 a2 a3).stable),.int .i64 ((Ip a0 a1 a2 a3).wait),.int .i64 ((Ip a0 a1 a2 a3).til)]⟩,.int .i64 (Al3 a0 a1 a2 a3)]⟩)
def Mi (_a0:TFront) (_a1:TVec) (_a2:Int) (_a3:Int):Objs:=[]
def Qh (a0:TFront) (a1:TVec) (a2:Int) (a3:Int):List Prop:=[((!(Ba a0 a1 a2 a3))=true→decide (a2 <(0:Int))=false→(0:Int)≤(CN a0 a1 a2 a3)∧(CN a0 a1 a2 a3) <(2:Int)),((!(Ba a0 a1 a2 a3))=true→(!(BY a0 a1 a2 a3))=true→(0:Int)≤(JB a0 a1 a2 a3)∧(JB a0 a1 a2 a3) <(2:Int)),((!(Ba a0 a1 a2 a3))=true→(!(BY a0 a1 a2 a3))=true→decide ((bif decide (Au (TFront.mk a0.1 (max a0.2 a2) a0.3 a0.4 a0.5) a1≥a3) then a0.5 else bif a0.5==(0:Int)&&decide (a2 >a0.3) then a3 else a0.5) >(0:Int))=true→(0:Int)≤(JA a0 a1 a2 a3)∧(JA a0 a1 a2 a3) <(2:Int))]
set_option maxRecDepth 100000 in
theorem Ahp (a0:TFront) (a1:TVec) (a2:Int) (a3:Int):ER (AA Bsr L0) 9 26 [Ak .front a0,Ak .vec a1,Ak .i64 a2,Ak .i64 a3] 0 []=some (1,Mj a0 a1 a2 a3,0,Mi a0 a1 a2 a3,[((!(Ba a0 a1 a2 a3))=true→decide (a2 <(0:Int))=false→(0:Int)≤(CN a0 a1 a2 a3)∧(CN a0 a1 a2 a3) <(2:Int)),((!(Ba a0 a1 a2 a3))=true→decide (a2 <(0:Int))=false→(CN a0 a1 a2 a3).toNat <(2:Nat)),((!(Ba a0 a1 a2 a3))=true→(!(BY a0 a1 a2 a3))=true→(0:Int)≤(JB a0 a1 a2 a3)∧(JB a0 a1 a2 a3) <(2:Int)),((!(Ba a0 a1 a2 a3))=true→(!(BY a0 a1 a2 a3))=true→decide ((bif decide (Au (TFront.mk a0.1 (max a0.2 a2) a0.3 a0.4 a0.5) a1≥a3) then a0.5 else bif a0.5==(0:Int)&&decide (a2 >a0.3) then a3 else a0.5) >(0:Int))=true→(0:Int)≤(JA a0 a1 a2 a3)∧(JA a0 a1 a2 a3) <(2:Int))]):=by kernel_rfl
set_option maxRecDepth 100000 in
theorem Al4 (a0:TFront) (a1:TVec) (a2:Int) (a3:Int) (hp:∀p∈Qh a0 a1 a2 a3,p):CallOk Try.prog 26 [Ak .front a0,Ak .vec a1,Ak .i64 a2,Ak .i64 a3] 0 [] 1 (Mj a0 a1 a2 a3) 0 (Mi a0 a1 a2 a3):=by
 have n0:((!(Ba a0 a1 a2 a3))=true→decide (a2 <(0:Int))=false→(0:Int)≤(CN a0 a1 a2 a3)∧(CN a0 a1 a2 a3) <(2:Int)):=N0 hp
 have n1:((!(Ba a0 a1 a2 a3))=true→decide (a2 <(0:Int))=false→(CN a0 a1 a2 a3).toNat <(2:Nat)):=by intro h0 h1;have g:=n0 h0 h1;omega
 have n2:=N0 (N1 hp)
 have n3:=N0 (N1 (N1 hp))
 exact AH (Ax Bc3 AG) (Ahp a0 a1 a2 a3) (Aa n0 (Aa n1 (Aa n2 (Aa n3 Ab))))
theorem Ac5 (a0:TFront) (a1:TVec) (a2:Int) (a3:Int):∀p∈Qh a0 a1 a2 a3,p:=by
 refine Aa (fun h _=>B41 (OO (f:=a0) (v:=a1) h)) (Aa (fun h _=>B3l (OO (f:=a0) (v:=a1) h)) (Aa (fun h _ _=>?_) Ab))
 show 0≤IntKind.i64.wrap (2 - (bif _ then a0.1 else bif _ then a0.1 else a0.1))∧IntKind.i64.wrap (2 - (bif _ then a0.1 else bif _ then a0.1 else a0.1)) <2
 rw[B5d]
 exact B3l (OO (f:=a0) (v:=a1) h)
def Mk:List A→Nat→Objs→Option A9
 | [y0,y1,y2,y3],nx,o=>match AQ .front y0,AQ .vec y1,AQ .i64 y2,AQ .i64 y3 with
  |some (a0,p0),some (a1,p1),some (a2,p2),some (a3,p3)=>some (1,(Mj a0 a1 a2 a3).pk (AC nx),nx+0,AB nx (Mi a0 a1 a2 a3)++o,p0++(p1++(p2++(p3++(([]:List Prop))))))
  |_,_,_,_=>none
 |_,_,_=>none
theorem Ac6:EV Try.prog 26 Mk:=fun args nx o k x nx' o' ps h=>by
 unfold Mk at h
 split at h<;>first|(cases h;done)|skip
 split at h<;>first|(cases h;done)|skip
 rename_i a0 p0 a1 p1 a2 p2 a3 p3 e0 e1 e2 e3
 cases h
 refine⟨fun hp=>?_,_,rfl⟩
 have q0:=fun p hm=>hp p (List.mem_append.2 (.inl hm))
 have r0:=fun p hm=>hp p (List.mem_append.2 (.inr hm))
 have q1:=fun p hm=>r0 p (List.mem_append.2 (.inl hm))
 have r1:=fun p hm=>r0 p (List.mem_append.2 (.inr hm))
 have q2:=fun p hm=>r1 p (List.mem_append.2 (.inl hm))
 have r2:=fun p hm=>r1 p (List.mem_append.2 (.inr hm))
 have q3:=fun p hm=>r2 p (List.mem_append.2 (.inl hm))
 refine Ah (Ag (Al4 a0 a1 a2 a3 (Ac5 a0 a1 a2 a3)) (Nat.le_refl _) (Ac (Af _ _) (Ac (Af _ _) (Ac (Af _ _) (Ac (Af _ _) An)))) nx o) fun F N R vs hl=>?_
 obtain⟨v0,w0,rfl,h0,hl⟩:=hl.inv
 obtain⟨v1,w1,rfl,h1,hl⟩:=hl.inv
 obtain⟨v2,w2,rfl,h2,hl⟩:=hl.inv
 obtain⟨v3,w3,rfl,h3,hl⟩:=hl.inv
 exact HL.cons (Am e0 q0 h0) (HL.cons (Am e1 q1 h1) (HL.cons (Am e2 q2 h2) (HL.cons (Am e3 q3 h3) (hl))))
noncomputable def Bss:=A7 26 Mk Bsr
theorem Bc4:CU Try.prog Bss:=Aw Ac6 Bc3
def C1 (a0:TFront) (a1:TVec):Bool:=Dj a0 a1 !=(0:Int)
def HX (a0:TFront) (a1:TVec):TFront:=TFront.mk (bif(C1 a0 a1) then(0:Int) else(AO a0 a1).1) (bif(C1 a0 a1) then(0:Int) else(AO a0 a1).2) (bif(C1 a0 a1) then(0:Int) else(AO a0 a1).3) (bif(C1 a0 a1) then(0:Int) else(AO a0 a1).4) (bif(C1 a0 a1) then(0:Int) else(AO a0 a1).5)
def Ahq (a0:TFront) (a1:TVec):Int:=bif(C1 a0 a1) then Dj a0 a1 else(0:Int)
def Lw (a0:TFront) (a1:TVec):A:=.v (.tuple ⟨[.agg ⟨[.int .i64 ((HX a0 a1).site),.int .i64 ((HX a0 a1).acked),.int .i64 ((HX a0 a1).stable),.int .i64 ((HX a0 a1).wait),.int .i64 ((HX a0 a1).til)]⟩,.int .i64 (Ahq a0 a1)]⟩)
def Lv (_a0:TFront) (_a1:TVec):Objs:=[]
def OX (a0:TFront) (a1:TVec):List Prop:=[((!(C1 a0 a1))=true→decide (a0.5 >(0:Int))=true→(0:Int)≤AN a0 a1∧AN a0 a1 <(2:Int))]
set_option maxRecDepth 100000 in
theorem Ac7 (a0:TFront) (a1:TVec):ER (AA Bss L0) 9 27 [Ak .front a0,Ak .vec a1] 0 []=some (1,Lw a0 a1,0,Lv a0 a1,[((!(C1 a0 a1))=true→decide (a0.5 >(0:Int))=true→(0:Int)≤AN a0 a1∧AN a0 a1 <(2:Int))]):=by kernel_rfl
set_option maxRecDepth 100000 in
theorem Ahr (a0:TFront) (a1:TVec) (hp:∀p∈OX a0 a1,p):CallOk Try.prog 27 [Ak .front a0,Ak .vec a1] 0 [] 1 (Lw a0 a1) 0 (Lv a0 a1):=by
 have n0:=N0 hp
 exact AH (Ax Bc4 AG) (Ac7 a0 a1) (Aa n0 Ab)
theorem ZN (a0:TFront) (a1:TVec):∀p∈OX a0 a1,p:=
 Aa (fun h _=>B3l (OO (f:=a0) (v:=a1) h)) Ab
def Lx:List A→Nat→Objs→Option A9
 | [y0,y1],nx,o=>match AQ .front y0,AQ .vec y1 with
  |some (a0,p0),some (a1,p1)=>some (1,(Lw a0 a1).pk (AC nx),nx+0,AB nx (Lv a0 a1)++o,p0++(p1++(([]:List Prop))))
  |_,_=>none
 |_,_,_=>none
theorem ZO:EV Try.prog 27 Lx:=fun args nx o k x nx' o' ps h=>by
 unfold Lx at h
 split at h<;>first|(cases h;done)|skip
 split at h<;>first|(cases h;done)|skip
 rename_i a0 p0 a1 p1 e0 e1
 cases h
 refine⟨fun hp=>?_,_,rfl⟩
 have q0:=fun p hm=>hp p (List.mem_append.2 (.inl hm))
 have r0:=fun p hm=>hp p (List.mem_append.2 (.inr hm))
 have q1:=fun p hm=>r0 p (List.mem_append.2 (.inl hm))
 refine Ah (Ag (Ahr a0 a1 (ZN a0 a1)) (Nat.le_refl _) (Ac (Af _ _) (Ac (Af _ _) An)) nx o) fun F N R vs hl=>?_
 obtain⟨v0,w0,rfl,h0,hl⟩:=hl.inv
 obtain⟨v1,w1,rfl,h1,hl⟩:=hl.inv
 exact HL.cons (Am e0 q0 h0) (HL.cons (Am e1 q1 h1) (hl))
noncomputable def Bst:=A7 27 Lx Bss
theorem Bc5:CU Try.prog Bst:=Aw ZO Bc4
def C2 (a0:TFront) (a1:TVec):Bool:=Dj a0 a1 !=(0:Int)
def BP (a0:TFront) (_a1:TVec):Int:=IntKind.i64.wrap (a0.1 - (1:Int))
def Qi (a0:TFront) (a1:TVec):TVec:=TVec.mk (bif(C2 a0 a1) then(0:Int) else bif(BP a0 a1).toNat.beq (0:Nat) then a0.3 else a1.1) (bif(C2 a0 a1) then(0:Int) else bif(BP a0 a1).toNat.beq (1:Nat) then a0.3 else a1.2)
def Ahs (a0:TFront) (a1:TVec):Int:=bif(C2 a0 a1) then Dj a0 a1 else(0:Int)
def Lz (a0:TFront) (a1:TVec):A:=.v (.tuple ⟨[.agg ⟨[.int .i64 ((Qi a0 a1).a),.int .i64 ((Qi a0 a1).b)]⟩,.int .i64 (Ahs a0 a1)]⟩)
def Ly (_a0:TFront) (_a1:TVec):Objs:=[]
def OY (a0:TFront) (a1:TVec):List Prop:=[((!(C2 a0 a1))=true→(0:Int)≤(BP a0 a1)∧(BP a0 a1) <(2:Int))]
set_option maxRecDepth 100000 in
theorem Ac8 (a0:TFront) (a1:TVec):ER (AA Bst L0) 9 31 [Ak .front a0,Ak .vec a1] 0 []=some (1,Lz a0 a1,0,Ly a0 a1,[((!(C2 a0 a1))=true→(0:Int)≤(BP a0 a1)∧(BP a0 a1) <(2:Int)),((!(C2 a0 a1))=true→(BP a0 a1).toNat <(2:Nat))]):=by kernel_rfl
set_option maxRecDepth 100000 in
theorem Aht (a0:TFront) (a1:TVec) (hp:∀p∈OY a0 a1,p):CallOk Try.prog 31 [Ak .front a0,Ak .vec a1] 0 [] 1 (Lz a0 a1) 0 (Ly a0 a1):=by
 have n0:((!(C2 a0 a1))=true→(0:Int)≤(BP a0 a1)∧(BP a0 a1) <(2:Int)):=N0 hp
 have n1:((!(C2 a0 a1))=true→(BP a0 a1).toNat <(2:Nat)):=by intro h0;have g:=n0 h0;omega
 exact AH (Ax Bc5 AG) (Ac8 a0 a1) (Aa n0 (Aa n1 Ab))
theorem ZP (a0:TFront) (a1:TVec):∀p∈OY a0 a1,p:=
 Aa (fun h=>B41 (OO (f:=a0) (v:=a1) h)) Ab
def LA:List A→Nat→Objs→Option A9
 | [y0,y1],nx,o=>match AQ .front y0,AQ .vec y1 with
  |some (a0,p0),some (a1,p1)=>some (1,(Lz a0 a1).pk (AC nx),nx+0,AB nx (Ly a0 a1)++o,p0++(p1++(([]:List Prop))))
  |_,_=>none
 |_,_,_=>none
theorem ZQ:EV Try.prog 31 LA:=fun args nx o k x nx' o' ps h=>by
 unfold LA at h
 split at h<;>first|(cases h;done)|skip
 split at h<;>first|(cases h;done)|skip
 rename_i a0 p0 a1 p1 e0 e1
 cases h
 refine⟨fun hp=>?_,_,rfl⟩
 have q0:=fun p hm=>hp p (List.mem_append.2 (.inl hm))
 have r0:=fun p hm=>hp p (List.mem_append.2 (.inr hm))
 have q1:=fun p hm=>r0 p (List.mem_append.2 (.inl hm))
 refine Ah (Ag (Aht a0 a1 (ZP a0 a1)) (Nat.le_refl _) (Ac (Af _ _) (Ac (Af _ _) An)) nx o) fun F N R vs hl=>?_
 obtain⟨v0,w0,rfl,h0,hl⟩:=hl.inv
 obtain⟨v1,w1,rfl,h1,hl⟩:=hl.inv
 exact HL.cons (Am e0 q0 h0) (HL.cons (Am e1 q1 h1) (hl))
noncomputable def B04:=A7 31 LA Bst
theorem Bsu:CU Try.prog B04:=Aw ZQ Bc5
def Xe:A:=.v (.bool (true))
def Xd:Objs:=[]
def Aiq:List Prop:=[]
set_option maxRecDepth 100000 in
theorem A9w:ER (AA B04 L0) 1040 25 [] 0 []=some (1,Xe,0,Xd,[]):=by kernel_rfl
set_option maxRecDepth 100000 in
theorem Bf4 (_hp:∀p∈Aiq,p):CallOk Try.prog 25 [] 0 [] 1 (Xe) 0 (Xd):=by
 exact AH (Ax Bsu AG) (A9w) Ab
def Xf:List A→Nat→Objs→Option A9
 | [],nx,o=>some (1,(Xe).pk (AC nx),nx+0,AB nx (Xd)++o,Aiq)
 |_,_,_=>none
theorem A3x:EV Try.prog 25 Xf:=fun args nx o k x nx' o' ps h=>by
 unfold Xf at h
 split at h<;>first|(cases h;done)|skip
 cases h
 refine⟨fun hp=>?_,_,rfl⟩
 refine Ah (Ag (Bf4 hp) (Nat.le_refl _) An nx o) fun F N R vs hl=>?_
 exact hl
end Go.Proofs.Yteebobbhhgmeiaa
