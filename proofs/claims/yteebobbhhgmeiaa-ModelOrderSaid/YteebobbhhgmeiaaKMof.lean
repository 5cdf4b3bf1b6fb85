/- made by a program (rowgen.py): ModelOrder: for every input the law returns true, and each argument reads behind the call as it read before. -/
import Derived.Test.YteebobbhhgmeiaaKMoe

namespace Go.Proofs.Yteebobbhhgmeiaa
open Go.RowKit
def Bt8 (l:List TGroup) (r:TRow):List UInt8:=A8r r.key++(l.zip r.cells).flatMap (fun x=>Bep x.1.policy x.2)
def Bt9 (l:List TGroup) (r:TRow):List UInt8:=bif Ap l r==0 then Bt8 l r else[]
def KX (_a0:List UInt8) (a1:List TGroup) (a2:TRow):Bool:=Ap a1 a2 !=(0:Int)
def A5b (a0:List UInt8) (_a1:List TGroup) (_a2:TRow):List UInt8:=[]++a0
def A5c (_a0:List UInt8) (_a1:List TGroup) (_a2:TRow):A:=.sq 0
def Zg (a0:List UInt8) (a1:List TGroup) (a2:TRow):Objs:=[(0,some (.arr 5 1 (.ty .u8 (A5b a0 a1 a2))))]
def Bka (a0:List UInt8) (a1:List TGroup) (a2:TRow):List Prop:=[((KX a0 a1 a2)=true→Ai ((0:Nat)+a0.length)),((!(KX a0 a1 a2))=true→Ai (a0.length+(8:Nat)+a2.1.size)),((!(KX a0 a1 a2))=true→ZP (4:Nat))]
set_option maxRecDepth 100000 in
theorem Bj9 (a0:List UInt8) (a1:List TGroup) (a2:TRow):EU (AA Cl L0) 9 79 [Ak .bytes a0,.sl .group a1,Ak .row a2] 0 []=some (1,A5c a0 a1 a2,1,Zg a0 a1 a2,[((KX a0 a1 a2)=true→Ai ((0:Nat)+a0.length)),((!(KX a0 a1 a2))=true→Ai (a0.length+(8:Nat)+a2.1.size)),((!(KX a0 a1 a2))=true→ZP (4:Nat))]):=by kernel_rfl
set_option maxRecDepth 100000 in
theorem Bpj (a0:List UInt8) (a1:List TGroup) (a2:TRow) (hp:∀p∈Bka a0 a1 a2,p):CallOk Try.prog 79 [Ak .bytes a0,.sl .group a1,Ak .row a2] 0 [] 1 (A5c a0 a1 a2) 1 (Zg a0 a1 a2):=by
 have n0:=N0 hp
 have n1:=N0 (N1 hp)
 have n2:=N0 (N1 (N1 hp))
 exact AH (Aw Bbf AG) (Bj9 a0 a1 a2) (Aa n0 (Aa n1 (Aa n2 Ab)))
def A0q (_a0:List UInt8) (_a1:List TGroup) (_a2:TRow):A:=.sq 0
def My (a0:List UInt8) (a1:List TGroup) (a2:TRow):Objs:=[(0,some (.arr 5 1 (.ty .u8 (a0++Bt9 a1 a2))))]
def Arc (a0:List UInt8) (_a1:List TGroup) (_a2:TRow):List Prop:=[Ai (a0.length+1024)]
section
variable {F:Nat→Prop} {N:Nm} {nx:Nat} {R:World}
theorem A39:∀{l:List UInt8} {zs:List Value},zs.length=l.length→(∀k,k <l.length→HL F N nx R [.v (Bt (l.getD k 0))] ((zs.drop (k*1)).take 1))→zs=l.map Bt
 | [],[],_,_=>rfl
 | [],_::_,h,_=>by cases h
 |_::_,[],h,_=>by cases h
 | x::l,z::zs,h,g=>by
  have h0:=g 0 (Nat.succ_pos _)
  obtain⟨v,vs,e1,e2,e3⟩:=h0.inv
  have hz:z=Bt x:=by
   have e1':[z]=v::vs:=e1
   injection e1' with e1' _
   rw[e1']
   exact e2.v_inv
  rw[List.map_cons,←hz,A39 (l:=l) (zs:=zs) (by simpa using h) fun k hk=>by
   have:=g (k+1) (Nat.succ_lt_succ hk)
   simpa[Nat.mul_one] using this]
theorem Bpk {l:List UInt8} {k:Nat} (hk:k <l.length):HL F N nx R [.v (Bt (l.getD k 0))] (((l.map Bt).drop (k*1)).take 1):=by
 rw[Nat.mul_one,List.drop_eq_getElem_cons (by simpa using hk),List.take_succ_cons,List.take_zero,List.getElem_map,List.getD_eq_getElem?_getD,List.getElem?_eq_getElem hk]
 exact HL.cons (.v _) HL.nil
theorem OwnB.sl {base:Nat} {y:Value} {bs:List UInt8} (h:OwnB base R y bs) (N:Nm):(∀g,CU y=some g→g <R.heap.size)∧Hv (fun g=>CU y=some g) N 0 R (.sl .u8 bs) y:=by
 refine⟨fun g hg=>h.1.lt hg,?_⟩
 obtain⟨hl,h2⟩:=h.1
 rcases h2 with⟨a,e1,e2⟩|⟨g,cap,cur,e1,e2,e3,_,e5,e6⟩
 ·obtain rfl:bs=[]:=List.eq_nil_of_length_eq_zero e2
  rw[e1]
  exact Hv.sl_nil rfl
 ·rw[e1]
  refine Hv.of_sl e3 fun hn=>⟨⟨g,0,none⟩,rfl,?_,fun i d hd j x hx=>?_⟩
  ·obtain⟨m,hm⟩:∃m,bs.length=m+1:=⟨bs.length - 1,by omega⟩
   rw[hm]
   rfl
  ·cases j with
   |succ j=>cases hx
   |zero=>
    have hi:=(List.getElem?_eq_some_iff.1 hd).1
    have hz:(bs.map Bt)[i]?=some (Bt d):=by rw[List.getElem?_map,hd];rfl
    rw[←e6,List.getElem?_take_of_lt (by omega)] at hz
    obtain rfl:A.v (Bt d)=x:=Option.some.inj hx
    refine⟨Bt d,?_,.v _⟩
    rw[Ec,Fv,Gj e2]
    show cur[0+(i*1+0)]?=_
    rw[Nat.zero_add,Nat.add_zero,Nat.mul_one]
    simpa using hz
end
theorem CallOk.bytes {P:Program} {f:FuncId} {args:List A} {bs:List UInt8} (h:CallOk P f args 0 [] 1 (.sq 0) 1 [(0,some (.arr 5 1 (.ty .u8 bs)))]) {F:Nat→Prop} {N:Nm} {R:World} {vs:List Value} (hF:∀g,F g→g <R.heap.size) (hv:HL F N 0 R args vs):
  Calls P f vs.toArray R fun e R'=>∃y,e=.returned y∧Below R.heap.size R R'∧OwnB R.heap.size R' y bs:=by
 refine(h F N R vs (HRel.bare hF) hv).mono fun e R' ⟨y,F',N',e1,h2,h3,h4,h5⟩=>⟨y,e1,h5 (Nat.le_refl _),?_⟩
 obtain rfl:y=N'.q 0:=by cases h4;rfl
 obtain⟨_,zs,g1,g2⟩:=h2.ob 0 _ rfl
 have e:zs=bs.map Bt:=A39 (F:=F') (N:=N') (nx:=1) (R:=R') (by rw[g1.1];exact Nat.mul_one _) g2
 rw[e] at g1
 refine⟨g1,fun g hg=>?_⟩
 rcases h3.foot g ⟨0,_,rfl,hg⟩ with⟨i,ob,hl,_⟩|h
 ·cases hl
 ·exact h
theorem OwnB.made {P:Program} {f:FuncId} {F:Nat→Prop} {N:Nm} {R:World} {vs:List Value} {bs:List UInt8} (hR:HRel F N 0 [] R)
  (h:Calls P f vs.toArray R fun e R'=>∃y,e=.returned y∧Below R.heap.size R R'∧OwnB R.heap.size R' y bs):
  Calls P f vs.toArray R fun e R'=>∃y F' N',e=.returned y∧HRel F' N' 1 [(0,some (.arr 5 1 (.ty .u8 bs)))] R'∧Step F N 0 [] R F' N' 1 [(0,some (.arr 5 1 (.ty .u8 bs)))] R'∧Hv F' N' 1 R' (.sq 0) y∧(1≤1→Below R.heap.size R R'):=by
 refine h.mono fun e R' ⟨y,e1,hb,h2,h3⟩=>⟨y,F,N.setQ 0 y,e1,?_,?_,?_,fun _=>hb⟩
 ·have hq:(N.setQ 0 y).q 0=y:=by show K6 N.q 0 y 0=y;exact CS _ _ _
  have one:∀i ob,Ay i [(0,some (Ob.arr 5 1 (.ty .u8 bs)))]=some ob→i=0∧ob=.arr 5 1 (.ty .u8 bs):=fun i ob hl=>by
   cases i with
   |zero=>cases hl;exact⟨rfl,rfl⟩
   |succ i=>cases hl
  refine⟨fun g hg=>Nat.lt_of_lt_of_le (hR.flt g hg) hb.size,fun i ob hl=>?_,fun i ob g hl hg hF=>?_,fun i j x z g hl hl' _ _=>(one i x hl).1.trans (one j z hl').1.symm⟩
  ·obtain⟨rfl,rfl⟩:=one i ob hl
   exact⟨Nat.succ_pos _,bs.map Bt,by rw[hq];exact h2,fun k hk=>Bpk hk⟩
  ·obtain⟨rfl,rfl⟩:=one i ob hl
   have hg':CU ((N.setQ 0 y).q 0)=some g:=hg
   rw[hq] at hg'
   have:=hR.flt g hF
   have:=h3 g hg'
   omega
 ·refine⟨Nat.zero_le _,fun i hi=>absurd hi (Nat.not_lt_zero _),fun i hi=>absurd hi (Nat.not_lt_zero _),fun _ h=>h,fun _ h=> .inl h,fun g ⟨i,ob,hl,hg⟩=> .inr ?_,hb.os,hb.tape,hb.output,hb.size,fun g hg _=>hb.block g hg⟩
  cases i with
  |succ i=>cases hl
  |zero=>
   cases hl
   have hg':CU ((N.setQ 0 y).q 0)=some g:=hg
   rw[show(N.setQ 0 y).q 0=y by show K6 N.q 0 y 0=y;exact CS _ _ _] at hg'
   exact h3 g hg'
 ·have hq:(N.setQ 0 y).q 0=y:=by show K6 N.q 0 y 0=y;exact CS _ _ _
  have:=Hv.sq (F:=F) (N:=N.setQ 0 y) (nx:=1) (R:=R') (i:=0) (Nat.succ_pos _)
  rw[hq] at this
  exact this
theorem Bxv (p:Int) (c:TCell):(Bep p c).length≤128:=by
 unfold Bep Brx
 cases hg:Bz p c with
 |false=>exact Nat.zero_le _
 | true=>
  have n8:=XN (OH c)
  have s8:=Bua c.stamp
  have v16:=A8s c.vec
  have d16:=A8s c.dead
  have t8:=Biv c.value
  cases hw:Cz c with
  |false=>cases Ht c.dead<;>simp only[cond_true,cond_false,List.length_append,List.length_nil]<;>omega
  |true=>
   have:=((A4l.1 hg).st hw).2.2.2.1
   cases Ht c.dead<;>cases c.gone<;>simp only[cond_true,cond_false,List.length_append,List.length_nil]<;>omega
theorem Bj8 (a0:List UInt8) (a1:List TGroup) (a2:TRow) (hp:∀p∈Arc a0 a1 a2,p):CallOk Try.prog 79 [Ak .bytes a0,.sl .group a1,Ak .row a2] 0 [] 1 (A0q a0 a1 a2) 1 (My a0 a1 a2):=by
 have hb:Ai (a0.length+1024):=hp _ (List.mem_cons_self ..)
 unfold Ai at hb
 cases hg:Ap a1 a2==0 with
 | false=>
  have hk:KX a0 a1 a2=true:=by
   show(Ap a1 a2 !=0)=true
   simpa using hg
  have h:=Bpj a0 a1 a2 (Aa (fun _=>by unfold Ai;omega) (Aa (fun h=>by rw[hk] at h;cases h) (Aa (fun h=>by rw[hk] at h;cases h) Ab)))
  have e:Zg a0 a1 a2=My a0 a1 a2:=by
   unfold Zg My A5b Bt9
   rw[hg,cond_false,List.append_nil,List.nil_append]
  rw[e] at h
  exact h
 | true=>
  have h0:Ap a1 a2=0:=by simpa using hg
  obtain⟨h1,hlen,_,h32,_⟩:=AV h0
  obtain⟨hl1,hl4⟩:=Hr h1
  intro F N R vs hR hv
  obtain⟨v,vs,rfl,hv0,hv⟩:=hv.inv
  obtain⟨v0,vs,rfl,k0,hv⟩:=hv.inv
  obtain⟨v1,vs,rfl,k1,hv⟩:=hv.inv
  rw[hv.inv0]
  have hv0':=hv0
  obtain⟨ab,ncap,rfl,_⟩:=Hv.sl_inv (c:=.u8) (l:=a0) hv0
  obtain⟨us,rfl,k2⟩:=Hv.agg_inv (xs:=[.v (.string a2.key),.sl .cell a2.cells]) k1
  obtain⟨u0,us,rfl,m0,k2⟩:=k2.inv
  obtain⟨u1,us,rfl,m1,k2⟩:=k2.inv
  obtain rfl:=k2.inv0
  obtain rfl:=m0.v_inv
  obtain⟨aa,cap0,rfl,g0⟩:=Bzh hR.flt k0
  obtain⟨ac,cap1,rfl,g1⟩:=Bzf hR.flt m1
  have ho:My a0 a1 a2=[(0,some (.arr 5 1 (.ty .u8 ((a0++A8r a2.key)++(a1.zip a2.cells).flatMap (fun x=>Bep x.1.policy x.2)))))]:=by
   unfold My Bt9 Bt8
   rw[hg,cond_true,List.append_assoc]
  rw[ho]
  refine OwnB.made hR (Bkc R aa ac a1 a2.cells a2.key cap0 cap1 a0.length ncap ab (a0++A8r a2.key) Bep 128 Bxv ?_ hl1 hl4 (by rw[hlen];exact MV _) ?_ ?_ g0 g1)
  ·intro W hW
   have h:Calls Try.prog 65 #[.slice aa a1.length cap0,.agg #[.string a2.key,.slice ac a2.cells.length cap1]] W fun e W'=>e=.returned (.int .i64 (Ap a1 a2))∧Below W.heap.size W W':=(Aq5 a1 a2 (fun _ h=>by cases h)).plain (F:=F) (N:=N) (R:=W) (vs:=[.slice aa a1.length cap0,.agg #[.string a2.key,.slice ac a2.cells.length cap1]]) (fun g hg=>Nat.lt_of_lt_of_le (hR.flt g hg) hW.size) (HL.cons (k0.step (hR.grow hW).2) (HL.cons (k1.step (hR.grow hW).2) HL.nil))
   rw[h0] at h
   exact h
  ·intro W hW
   exact(Xu a0 a2.key (Aa (by unfold Ai;omega) Ab)).bytes (F:=F) (N:=N) (R:=W) (vs:=[_,.string a2.key]) (fun g hg=>Nat.lt_of_lt_of_le (hR.flt g hg) hW.size) (HL.cons (hv0'.step (hR.grow hW).2) (HL.cons (.v _) HL.nil))
  ·intro W v bs q c base ho hl
   obtain⟨f1,f2⟩:=ho.sl N
   have h8:=Biv a2.key
   rw[List.length_append] at hl
   exact(Aon bs q c (Aa (by unfold Ai;omega) Ab)).bytes (F:=fun g=>CU v=some g) (N:=N) (R:=W) (vs:=[v,.int .i64 q,cV c]) f1 (HL.cons f2 (HL.cons (.v _) (HL.cons (.v _) HL.nil)))
def An3:List A→Nat→Objs→Option A8
 | [y0,y1,y2],nx,o=>match AP .bytes y0,Kp .group y1,AP .row y2 with
  |some (a0,p0),some a1,some (a2,p2)=>some (1,(A0q a0 a1 a2).pk (AF nx),nx+1,AE nx (My a0 a1 a2)++o,p0++(p2++(Arc a0 a1 a2)))
  |_,_,_=>none
 |_,_,_=>none
theorem Bgb:Fu Try.prog 79 An3:=fun args nx o k x nx' o' ps h=>by
 unfold An3 at h
 split at h<;>first|(cases h;done)|skip
 split at h<;>first|(cases h;done)|skip
 rename_i a0 p0 a1 a2 p2 e0 e1 e2
 cases h
 refine⟨fun hp=>?_,_,rfl⟩
 have q0:=fun p hm=>hp p (List.mem_append.2 (.inl hm))
 have r0:=fun p hm=>hp p (List.mem_append.2 (.inr hm))
 have q2:=fun p hm=>r0 p (List.mem_append.2 (.inl hm))
 have r2:=fun p hm=>r0 p (List.mem_append.2 (.inr hm))
 refine Ah (Ag (Bj8 a0 a1 a2 r2) (Nat.le_refl _) (Ac (Af _ _) (Ac rfl (Ac (Af _ _) Ao))) nx o) fun F N R vs hl=>?_
 obtain⟨v0,w0,rfl,h0,hl⟩:=hl.inv
 obtain⟨v1,w1,rfl,h1,hl⟩:=hl.inv
 obtain⟨v2,w2,rfl,h2,hl⟩:=hl.inv
 exact HL.cons (Am e0 q0 h0) (HL.cons (Cx e1 h1) (HL.cons (Am e2 q2 h2) (hl)))
noncomputable def B0g:=A5 79 An3 Cl
theorem Blp:Df Try.prog B0g:=Av Bgb Bbf
def Ax (a0:Int) (a1:Int) (a2:Int):Int:=bif decide (a0 >a2)||decide (a1 >a2)||decide (a0 >IntKind.i64.wrap (a2 - a1)) then IntKind.i64.wrap (a2+(1:Int)) else IntKind.i64.wrap (a0+a1)
def Amg (a0:Int) (a1:Int) (a2:Int):A:=.v (.int .i64 (Ax a0 a1 a2))
def Amf (_a0:Int) (_a1:Int) (_a2:Int):Objs:=[]
def Ayq (_a0:Int) (_a1:Int) (_a2:Int):List Prop:=[]
set_option maxRecDepth 100000 in
theorem Biy (a0:Int) (a1:Int) (a2:Int):EU (AA B0g L0) 9 111 [Ak .i64 a0,Ak .i64 a1,Ak .i64 a2] 0 []=some (1,Amg a0 a1 a2,0,Amf a0 a1 a2,[]):=by kernel_rfl
set_option maxRecDepth 100000 in
theorem Bo7 (a0:Int) (a1:Int) (a2:Int) (_hp:∀p∈Ayq a0 a1 a2,p):CallOk Try.prog 111 [Ak .i64 a0,Ak .i64 a1,Ak .i64 a2] 0 [] 1 (Amg a0 a1 a2) 0 (Amf a0 a1 a2):=by
 exact AH (Aw Blp AG) (Biy a0 a1 a2) Ab
def Ze:List A→Nat→Objs→Option A8
 | [y0,y1,y2],nx,o=>match AP .i64 y0,AP .i64 y1,AP .i64 y2 with
  |some (a0,p0),some (a1,p1),some (a2,p2)=>some (1,(Amg a0 a1 a2).pk (AF nx),nx+0,AE nx (Amf a0 a1 a2)++o,p0++(p1++(p2++(Ayq a0 a1 a2))))
  |_,_,_=>none
 |_,_,_=>none
theorem Apk:Fu Try.prog 111 Ze:=fun args nx o k x nx' o' ps h=>by
 unfold Ze at h
 split at h<;>first|(cases h;done)|skip
 split at h<;>first|(cases h;done)|skip
 rename_i a0 p0 a1 p1 a2 p2 e0 e1 e2
 cases h
 refine⟨fun hp=>?_,_,rfl⟩
 have q0:=fun p hm=>hp p (List.mem_append.2 (.inl hm))
 have r0:=fun p hm=>hp p (List.mem_append.2 (.inr hm))
 have q1:=fun p hm=>r0 p (List.mem_append.2 (.inl hm))
 have r1:=fun p hm=>r0 p (List.mem_append.2 (.inr hm))
 have q2:=fun p hm=>r1 p (List.mem_append.2 (.inl hm))
 have r2:=fun p hm=>r1 p (List.mem_append.2 (.inr hm))
 refine Ah (Ag (Bo7 a0 a1 a2 r2) (Nat.le_refl _) (Ac (Af _ _) (Ac (Af _ _) (Ac (Af _ _) Ao))) nx o) fun F N R vs hl=>?_
 obtain⟨v0,w0,rfl,h0,hl⟩:=hl.inv
 obtain⟨v1,w1,rfl,h1,hl⟩:=hl.inv
 obtain⟨v2,w2,rfl,h2,hl⟩:=hl.inv
 exact HL.cons (Am e0 q0 h0) (HL.cons (Am e1 q1 h1) (HL.cons (Am e2 q2 h2) (hl)))
noncomputable def Bg6:=A5 111 Ze B0g
theorem Auk:Df Try.prog Bg6:=Av Apk Blp
theorem Au9 {n k m:Int} (hn:0≤n) (hk:0≤k∧k≤9223372036854775807) (hm:0≤m∧m≤1099511627776):(Ax n k m≤m→n+k≤m)∧0≤Ax n k m∧(n+k≤m→Ax n k m=n+k):=by
 unfold Ax
 rw[i64_in (n:=m - k) (by omega),i64_in (n:=m+1) (by omega)]
 by_cases h:n+k≤m
 ·have e:(decide (n >m)||decide (k >m)||decide (n >m - k))=false:=by
   rw[decide_eq_false (by omega),decide_eq_false (by omega),decide_eq_false (by omega)];rfl
  rw[e,cond_false,i64_in (by omega)]
  exact⟨fun _=>h,by omega,fun _=>rfl⟩
 ·have e:(decide (n >m)||decide (k >m)||decide (n >m - k))=true:=by
   rw[decide_eq_true (p:=n >m - k) (by omega),Bool.or_true]
  rw[e,cond_true]
  exact⟨fun h'=>by omega,by omega,fun h'=>absurd h' h⟩
theorem Abv {k:Nat} (h:Az k):(0:Int)≤(k:Int)∧(k:Int)≤9223372036854775807:=by unfold Az at h;omega
abbrev Cg:Type:=(List TRow)×Int×Int×Int
def Lp (x:Cg):St:=⟨64,0,[(1,.sl .row x.1),(5,.v (.int .i64 x.2.1)),(6,.v (.int .i64 x.2.2.1)),(7,.v (.int .i64 x.2.2.2))],[]⟩
def No:St→Option Cg
 |⟨64,0,[(1,.sl .row z0),(5,.v (.int .i64 z1)),(6,.v (.int .i64 z2)),(7,.v (.int .i64 z3))],[]⟩=>some (z0,z1,z2,z3)
 |_=>none
theorem Ag7:∀s x,No s=some x→s=Lp x:=fun s x h=>by
 unfold No at h
 split at h
 ·cases h;rfl
 ·cases h
def WG:De:=⟨0,0,[1,5,6,7],[],[],[],[5],[]⟩
def Awq:Dy:=⟨[],[],[1,5,6,7],[]⟩
def CM (a0:List TRow) (a1:Int) (a2:Int) (a3:Int):Bool:=!!(decide (a3 <(↑(a0.getD a2.toNat (Ae TC.row)).2.length:Int))&&decide (a1≤(5000:Int)))
def Mh (a0:List TRow) (a1:Int) (a2:Int) (a3:Int):Int:=Ax a1 (↑((a0.getD a2.toNat (Ae TC.row)).2.getD a3.toNat (Ae TC.cell)).4.size:Int) (5000:Int)
def Alb (a0:List TRow) (a1:Int) (a2:Int) (a3:Int):Bool:=!(decide (a3 <(↑(a0.getD a2.toNat (Ae TC.row)).2.length:Int))&&decide (a1≤(5000:Int)))
def CO (x:Cg):Cg:=(x.1,Mh x.1 x.2.1 x.2.2.1 x.2.2.2,x.2.2.1,IntKind.i64.wrap (x.2.2.2+(1:Int)))
def CN (x:Cg):Cnd:=some ((CM x.1 x.2.1 x.2.2.1 x.2.2.2))
def Sr (x:Cg):List Prop:=[((0:Int)≤x.2.2.1∧x.2.2.1 <(↑x.1.length:Int)),((CM x.1 x.2.1 x.2.2.1 x.2.2.2)=true→(0:Int)≤x.2.2.1∧x.2.2.1 <(↑x.1.length:Int)),((CM x.1 x.2.1 x.2.2.1 x.2.2.2)=true→(0:Int)≤x.2.2.2∧x.2.2.2 <(↑(x.1.getD x.2.2.1.toNat (Ae TC.row)).2.length:Int))]
def EM (x:Cg):List Prop:=[((0:Int)≤x.2.2.1∧x.2.2.1 <(↑x.1.length:Int)),((CM x.1 x.2.1 x.2.2.1 x.2.2.2)=true→(0:Int)≤x.2.2.1∧x.2.2.1 <(↑x.1.length:Int)),((CM x.1 x.2.1 x.2.2.1 x.2.2.2)=true→(0:Int)≤x.2.2.2∧x.2.2.2 <(↑(x.1.getD x.2.2.1.toNat (Ae TC.row)).2.length:Int))]
def Qe (x:Cg):Bl:=[(some 2,some (Alb x.1 x.2.1 x.2.2.1 x.2.2.2),⟨64,0,[(5,.v (.int .i64 x.2.1))],[]⟩)]
def Dz (x:Cg):Nat:=((↑(x.1.getD x.2.2.1.toNat (Ae TC.row)).2.length:Int) - x.2.2.2).toNat
def J3 (x:Cg):Cg:=A9 CO CN (Dz x) x
set_option maxRecDepth 100000 in
theorem Ar6 (a0:List TRow) (a1:Int) (a2:Int) (a3:Int):Bx (AA Bg6 L0) 9 (Aj Try.prog 60 2) WG (Lp (a0,a1,a2,a3))=some (Sr (a0,a1,a2,a3),Qe (a0,a1,a2,a3),CN (a0,a1,a2,a3),Lp (CO (a0,a1,a2,a3))):=by kernel_rfl
set_option maxRecDepth 100000 in
theorem Ar7 (a0:List TRow) (a1:Int) (a2:Int) (a3:Int) (hp:∀p∈EM (a0,a1,a2,a3),p):∀p∈Sr (a0,a1,a2,a3),p:=by
 have n0:=N0 hp
 have n1:=N0 (N1 hp)
 have n2:=N0 (N1 (N1 hp))
 exact(Aa n0 (Aa n1 (Aa n2 Ab)))
noncomputable def Ss:=HU (AA Bg6 L0) (Aj Try.prog 60 2) WG Awq No Dz CO CN EM Qe
theorem Alc:∀s b ps outs,Ss s=some (b,ps,outs)→Wf s ⟨ps,outs,none⟩∧Bs (AA C0 L0) b s ps outs:=
 Bi (T:=Lp) Auk AG (u:=9) (by kernel_rfl) (by decide) (fun⟨a0,a1,a2,a3⟩=>Ar6 a0 a1 a2 a3) (fun⟨a0,a1,a2,a3⟩=>Ar7 a0 a1 a2 a3) Ag7 (fun _=>AR (n:=64) rfl) fun _ _=>rfl
noncomputable def Lo:=DG 2 Ss L0
theorem Sq:Hs Lo:=A3 Alc AG
abbrev Ce:Type:=(List TRow)×Int×Int
def Ln (x:Ce):St:=⟨64,0,[(1,.sl .row x.1),(5,.v (.int .i64 x.2.1)),(6,.v (.int .i64 x.2.2))],[]⟩
def Nn:St→Option Ce
 |⟨64,0,[(1,.sl .row z0),(5,.v (.int .i64 z1)),(6,.v (.int .i64 z2))],[]⟩=>some (z0,z1,z2)
 |_=>none
theorem Ag6:∀s x,Nn s=some x→s=Ln x:=fun s x h=>by
 unfold Nn at h
 split at h
 ·cases h;rfl
 ·cases h
def WF:De:=⟨0,0,[1,5,6],[],[],[],[5],[]⟩
def Awp:Dy:=⟨[],[],[1,5,6],[]⟩
def Bg (a0:List TRow) (a1:Int) (a2:Int):Bool:=!!(decide (a2 <(↑a0.length:Int))&&decide (a1≤(5000:Int)))
def GJ (a0:List TRow) (a1:Int) (a2:Int):Int:=(J3 (a0,Ax (Ax a1 (↑(a0.getD a2.toNat (Ae TC.row)).1.size:Int) (5000:Int)) (↑(a0.getD a2.toNat (Ae TC.row)).2.length:Int) (5000:Int),a2,(0:Int))).snd.fst
def Ak9 (a0:List TRow) (a1:Int) (a2:Int):Bool:=!(decide (a2 <(↑a0.length:Int))&&decide (a1≤(5000:Int)))
def FK (x:Ce):Ce:=(x.1,GJ x.1 x.2.1 x.2.2,IntKind.i64.wrap (x.2.2+(1:Int)))
def FJ (x:Ce):Cnd:=some ((Bg x.1 x.2.1 x.2.2))
def Sn (x:Ce):List Prop:=[((Bg x.1 x.2.1 x.2.2)=true→(0:Int)≤x.2.2∧x.2.2 <(↑x.1.length:Int)),((Bg x.1 x.2.1 x.2.2)=true→(0:Int)≤x.2.2∧x.2.2 <(↑x.1.length:Int)),((Bg x.1 x.2.1 x.2.2)=true→Aj Try.prog (60:FuncId) (2:Nat)=Aj Try.prog (60:FuncId) (2:Nat)),((Bg x.1 x.2.1 x.2.2)=true→AL CO CN EM (Dz (x.1,Ax (Ax x.2.1 (↑(x.1.getD x.2.2.toNat (Ae TC.row)).1.size:Int) (5000:Int)) (↑(x.1.getD x.2.2.toNat (Ae TC.row)).2.length:Int) (5000:Int),x.2.2,(0:Int))) (x.1,Ax (Ax x.2.1 (↑(x.1.getD x.2.2.toNat (Ae TC.row)).1.size:Int) (5000:Int)) (↑(x.1.getD x.2.2.toNat (Ae TC.row)).2.length:Int) (5000:Int),x.2.2,(0:Int)))]
def IX (x:Ce):List Prop:=[((Bg x.1 x.2.1 x.2.2)=true→(0:Int)≤x.2.2∧x.2.2 <(↑x.1.length:Int)),((Bg x.1 x.2.1 x.2.2)=true→AL CO CN EM (Dz (x.1,Ax (Ax x.2.1 (↑(x.1.getD x.2.2.toNat (Ae TC.row)).1.size:Int) (5000:Int)) (↑(x.1.getD x.2.2.toNat (Ae TC.row)).2.length:Int) (5000:Int),x.2.2,(0:Int))) (x.1,Ax (Ax x.2.1 (↑(x.1.getD x.2.2.toNat (Ae TC.row)).1.size:Int) (5000:Int)) (↑(x.1.getD x.2.2.toNat (Ae TC.row)).2.length:Int) (5000:Int),x.2.2,(0:Int)))]
def Qd (x:Ce):Bl:=[(some 0,some (Ak9 x.1 x.2.1 x.2.2),⟨64,0,[(5,.v (.int .i64 x.2.1))],[]⟩)]
def HO (x:Ce):Nat:=((↑x.1.length:Int) - x.2.2).toNat
def Sp (x:Ce):Ce:=A9 FK FJ (HO x) x
set_option maxRecDepth 100000 in
theorem Ar4 (a0:List TRow) (a1:Int) (a2:Int):Bx (AA Bg6 Lo) 9 (Aj Try.prog 60 0) WF (Ln (a0,a1,a2))=some (Sn (a0,a1,a2),Qd (a0,a1,a2),FJ (a0,a1,a2),Ln (FK (a0,a1,a2))):=by kernel_rfl
set_option maxRecDepth 100000 in
theorem Ar5 (a0:List TRow) (a1:Int) (a2:Int) (hp:∀p∈IX (a0,a1,a2),p):∀p∈Sn (a0,a1,a2),p:=by
 have n0:((Bg a0 a1 a2)=true→(0:Int)≤a2∧a2 <(↑a0.length:Int)):=N0 hp
 have n2:((Bg a0 a1 a2)=true→Aj Try.prog (60:FuncId) (2:Nat)=Aj Try.prog (60:FuncId) (2:Nat)):=by intros;rfl
 have n3:=N0 (N1 hp)
 exact(Aa n0 (Aa n0 (Aa n2 (Aa n3 Ab))))
noncomputable def So:=HU (AA Bg6 Lo) (Aj Try.prog 60 0) WF Awp Nn HO FK FJ IX Qd
theorem Ala:∀s b ps outs,So s=some (b,ps,outs)→Wf s ⟨ps,outs,none⟩∧Bs (AA C0 L0) b s ps outs:=
 Bi (T:=Ln) Auk Sq (u:=9) (by kernel_rfl) (by decide) (fun⟨a0,a1,a2⟩=>Ar4 a0 a1 a2) (fun⟨a0,a1,a2⟩=>Ar5 a0 a1 a2) Ag6 (fun _=>AR (n:=64) rfl) fun _ _=>rfl
noncomputable def WE:=DG 0 So Lo
theorem Ak8:Hs WE:=A3 Ala Sq
def Qc (a0:List TGroup) (a1:List TRow):Bool:=decide ((Sp (a1,Ax (0:Int) (↑a0.length:Int) (5000:Int),(0:Int))).snd.fst≤(5000:Int))
def Aoz (a0:List TGroup) (a1:List TRow):A:=.v (.bool (Qc a0 a1))
def Aoy (_a0:List TGroup) (_a1:List TRow):Objs:=[]
def Ag9 (a0:List TGroup) (a1:List TRow):List Prop:=[(AL FK FJ IX (HO (a1,Ax (0:Int) (↑a0.length:Int) (5000:Int),(0:Int))) (a1,Ax (0:Int) (↑a0.length:Int) (5000:Int),(0:Int)))]
set_option maxRecDepth 100000 in
theorem A7l (a0:List TGroup) (a1:List TRow):EU (AA Bg6 WE) 9 60 [.sl .group a0,Ak .rows a1] 0 []=some (1,Aoz a0 a1,0,Aoy a0 a1,[(Aj Try.prog (60:FuncId) (0:Nat)=Aj Try.prog (60:FuncId) (0:Nat)),(AL FK FJ IX (HO (a1,Ax (0:Int) (↑a0.length:Int) (5000:Int),(0:Int))) (a1,Ax (0:Int) (↑a0.length:Int) (5000:Int),(0:Int)))]):=by kernel_rfl
set_option maxRecDepth 100000 in
theorem Bdr (a0:List TGroup) (a1:List TRow) (hp:∀p∈Ag9 a0 a1,p):CallOk Try.prog 60 [.sl .group a0,Ak .rows a1] 0 [] 1 (Aoz a0 a1) 0 (Aoy a0 a1):=by
 have n1:=N0 hp
 exact AH (Aw Auk Ak8) (A7l a0 a1) (Aa rfl (Aa n1 Ab))
def Aha (a0:List TGroup) (a1:List TRow):A:=.v (.bool (Qc a0 a1))
def Ag8 (_a0:List TGroup) (_a1:List TRow):Objs:=[]
def Z1 (a0:List TGroup) (a1:List TRow):List Prop:=[Az a0.length∧Az a1.length∧∀r∈a1,Az r.key.size∧Az r.cells.length∧∀c∈r.cells,Az c.value.size]
def YD (m:Nat) (r:TRow):Prop:=r.key.size≤m∧r.cells.length≤m∧∀c∈r.cells,c.value.size≤m
def YN (r:TRow):Prop:=Az r.key.size∧Az r.cells.length∧∀c∈r.cells,Az c.value.size
theorem getD_in {α:Type} (l:List α) (d:α) (i:Nat) (h:i <l.length):l.getD i d∈l:=by
 rw[List.getD_eq_getElem?_getD,List.getElem?_eq_getElem h]
 exact List.getElem_mem h
def nk (cs:List TCell) (n0:Int):Nat→Int
 |0=>n0
 |k+1=>Ax (nk cs n0 k) ((cs.getD k (Ae TC.cell)).4.size:Int) 5000
theorem Bzk (cs:List TCell) (n0:Int) (h0:0≤n0) (hw:∀c∈cs,Az c.value.size):∀k,k≤cs.length→0≤nk cs n0 k∧(nk cs n0 k≤5000→n0≤5000∧∀j,j <k→(cs.getD j (Ae TC.cell)).value.size≤5000)
 |0,_=>⟨h0,fun h=>⟨h,fun j hj=>absurd hj (Nat.not_lt_zero _)⟩⟩
 | k+1,hk=>by
  obtain⟨g1,g2⟩:=Bzk cs n0 h0 hw k (by omega)
  obtain⟨a1,a2,_⟩:=Au9 g1 (Abv (hw _ (getD_in cs (Ae TC.cell) k (by omega)))) (m:=5000) (by omega)
  refine⟨a2,fun h=>?_⟩
  have h':=a1 h
  obtain⟨b1,b2⟩:=g2 (by omega)
  refine⟨b1,fun j hj=>?_⟩
  by_cases e:j <k
  ·exact b2 j e
  ·obtain rfl:j=k:=by omega
   show(cs.getD j (Ae TC.cell)).4.size≤5000
   omega
theorem Bd4 (rows:List TRow) (i:Nat) (hi:i <rows.length) (n0:Int) (h0:0≤n0) (hl:n0≤5000→(rows.getD i (Ae TC.row)).cells.length≤5000) (hw:∀c∈(rows.getD i (Ae TC.row)).cells,Az c.value.size):
  AL CO CN EM (Dz (rows,n0,(i:Int),0)) (rows,n0,(i:Int),0)∧
  0≤(J3 (rows,n0,(i:Int),0)).snd.fst∧((J3 (rows,n0,(i:Int),0)).snd.fst≤5000→n0≤5000∧∀c∈(rows.getD i (Ae TC.row)).cells,c.value.size≤5000):=by
 generalize hcs:(rows.getD i (Ae TC.row)).cells=cs at*
 have hcs2:(rows.getD i (Ae TC.row)).2=cs:=hcs
 have hgo:∀k:Nat,CM rows (nk cs n0 k) (i:Int) (k:Int)=(decide (k <cs.length)&&!!decide (nk cs n0 k≤5000)):=fun k=>by
  unfold CM
  rw[Int.toNat_natCast,hcs2,nn,nn,MA]
 obtain⟨h1,k,hk,hx,hs,hst,_⟩:=I6 (fun k=>((rows,nk cs n0 k,(i:Int),(k:Int)):Cg)) cs.length (fun k=>!decide (nk cs n0 k≤5000)) CO CN EM (Dz (rows,n0,(i:Int),0)) (rows,n0,(i:Int),0) rfl
  (by show cs.length≤(((rows.getD ((i:Int)).toNat (Ae TC.row)).2.length:Int) - 0).toNat;rw[Int.toNat_natCast,hcs2];omega)
  (fun k _ _=>by
   show CM rows (nk cs n0 k) (i:Int) (k:Int)=_
   rw[hgo])
  (fun k hk hs=>by
   have h5:n0≤5000:=by
    have:=hs 0 (Nat.succ_pos k)
    rw[Bool.not_eq_false'] at this
    exact of_decide_eq_true this
   have:=hl h5
   show(rows,Mh rows (nk cs n0 k) (i:Int) (k:Int),(i:Int),IntKind.i64.wrap ((k:Int)+1))=(rows,nk cs n0 (k+1),(i:Int),((k+1:Nat):Int))
   rw[ES (by omega)]
   unfold Mh
   rw[Int.toNat_natCast,Int.toNat_natCast,hcs2]
   rfl)
  (fun k _ _=>Aa (by show(0:Int)≤(i:Int)∧(i:Int) <(rows.length:Int);omega) (Aa (fun _=>by show(0:Int)≤(i:Int)∧(i:Int) <(rows.length:Int);omega) (Aa (fun h=>by
   have h':CM rows (nk cs n0 k) (i:Int) (k:Int)=true:=h
   rw[hgo,Bool.and_eq_true] at h'
   have:=of_decide_eq_true h'.1
   show(0:Int)≤(k:Int)∧(k:Int) <((rows.getD ((i:Int)).toNat (Ae TC.row)).2.length:Int)
   rw[Int.toNat_natCast,hcs2]
   omega) Ab)))
 have hr:J3 (rows,n0,(i:Int),0)=(rows,nk cs n0 k,(i:Int),(k:Int)):=hx
 obtain⟨g1,g2⟩:=Bzk cs n0 h0 hw k hk
 rw[hr]
 refine⟨h1,g1,fun h=>?_⟩
 obtain⟨b1,b2⟩:=g2 h
 refine⟨b1,fun c hc=>?_⟩
 have hkn:k=cs.length:=by
  rcases Nat.lt_or_ge k cs.length with h'|h'
  ·have:=hst h'
   rw[decide_eq_true h] at this
   cases this
  ·omega
 obtain⟨j,hj,rfl⟩:=List.mem_iff_getElem.1 hc
 have:=b2 j (by omega)
 rw[List.getD_eq_getElem?_getD,List.getElem?_eq_getElem hj] at this
 exact this
def nr (rows:List TRow) (n0:Int):Nat→Int
 |0=>n0
 |i+1=>GJ rows (nr rows n0 i) (i:Int)
theorem Aw2 (rows:List TRow) (i:Nat) (hi:i <rows.length) (n:Int) (hn:0≤n) (hw:YN (rows.getD i (Ae TC.row))):
  AL CO CN EM (Dz (rows,Ax (Ax n ((rows.getD i (Ae TC.row)).1.size:Int) 5000) ((rows.getD i (Ae TC.row)).2.length:Int) 5000,(i:Int),0)) (rows,Ax (Ax n ((rows.getD i (Ae TC.row)).1.size:Int) 5000) ((rows.getD i (Ae TC.row)).2.length:Int) 5000,(i:Int),0)∧
  0≤GJ rows n (i:Int)∧(GJ rows n (i:Int)≤5000→n≤5000∧YD 5000 (rows.getD i (Ae TC.row))):=by
 obtain⟨w1,w2,w3⟩:=hw
 obtain⟨a1,a2,_⟩:=Au9 (k:=((rows.getD i (Ae TC.row)).1.size:Int)) hn (Abv w1) (m:=5000) (by omega)
 obtain⟨c1,c2,_⟩:=Au9 (k:=((rows.getD i (Ae TC.row)).2.length:Int)) a2 (Abv w2) (m:=5000) (by omega)
 obtain⟨g1,g2,g3⟩:=Bd4 rows i hi _ c2 (fun h=>by have:=c1 h;show(rows.getD i (Ae TC.row)).2.length≤5000;omega) w3
 unfold GJ
 rw[Int.toNat_natCast]
 refine⟨g1,g2,fun h=>?_⟩
 obtain⟨h1,h2⟩:=g3 h
 have q1:=c1 h1
 have q2:=a1 (by omega)
 exact⟨by omega,by show(rows.getD i (Ae TC.row)).1.size≤5000;omega,by show(rows.getD i (Ae TC.row)).2.length≤5000;omega,h2⟩
theorem Bts (rows:List TRow) (n0:Int) (h0:0≤n0) (hw:∀r∈rows,YN r):∀k,k≤rows.length→0≤nr rows n0 k∧(nr rows n0 k≤5000→n0≤5000∧∀j,j <k→YD 5000 (rows.getD j (Ae TC.row)))
 |0,_=>⟨h0,fun h=>⟨h,fun j hj=>absurd hj (Nat.not_lt_zero _)⟩⟩
 | k+1,hk=>by
  obtain⟨g1,g2⟩:=Bts rows n0 h0 hw k (by omega)
  obtain⟨_,a2,a3⟩:=Aw2 rows k (by omega) (nr rows n0 k) g1 (hw _ (getD_in rows (Ae TC.row) k (by omega)))
  refine⟨a2,fun h=>?_⟩
  obtain⟨h1,h2⟩:=a3 h
  obtain⟨b1,b2⟩:=g2 h1
  refine⟨b1,fun j hj=>?_⟩
  by_cases e:j <k
  ·exact b2 j e
  ·obtain rfl:j=k:=by omega
   exact h2
theorem Btb (l:List TGroup) (rows:List TRow) (hl:Az l.length) (hr:Az rows.length) (hw:∀r∈rows,YN r):(∀p∈Ag9 l rows,p)∧(Qc l rows=true→l.length≤5000∧∀r∈rows,YD 5000 r):=by
 have hr':=hr
 unfold Az at hr'
 obtain⟨a1,a2,_⟩:=Au9 (n:=0) (k:=(l.length:Int)) (Int.le_refl _) (Abv hl) (m:=5000) (by omega)
 generalize hn0:Ax 0 (l.length:Int) 5000=n0 at*
 have hgo:∀k:Nat,Bg rows (nr rows n0 k) (k:Int)=(decide (k <rows.length)&&!!decide (nr rows n0 k≤5000)):=fun k=>by
  unfold Bg
  rw[nn,nn,MA]
 obtain⟨h1,k,hk,hx,hs,hst,_⟩:=I6 (fun k=>((rows,nr rows n0 k,(k:Int)):Ce)) rows.length (fun k=>!decide (nr rows n0 k≤5000)) FK FJ IX (HO (rows,n0,0)) (rows,n0,0) rfl
  (by show rows.length≤((rows.length:Int) - 0).toNat;omega)
  (fun k _ _=>by
   show Bg rows (nr rows n0 k) (k:Int)=_
   rw[hgo])
  (fun k hk hs=>by
   show(rows,GJ rows (nr rows n0 k) (k:Int),IntKind.i64.wrap ((k:Int)+1))=(rows,nr rows n0 (k+1),((k+1:Nat):Int))
   rw[ES (by omega)]
   rfl)
  (fun k hk _=>by
   have hin:Bg rows (nr rows n0 k) (k:Int)=true→k <rows.length:=fun h=>by
    rw[hgo,Bool.and_eq_true] at h
    exact of_decide_eq_true h.1
   refine Aa (fun h=>?_) (Aa (fun h=>?_) Ab)
   ·have:=hin h
    show(0:Int)≤(k:Int)∧(k:Int) <(rows.length:Int)
    omega
   ·have hk':=hin h
    have:=(Aw2 rows k hk' (nr rows n0 k) (Bts rows n0 a2 hw k hk).1 (hw _ (getD_in rows (Ae TC.row) k hk'))).1
    have e:((k:Int)).toNat=k:=Int.toNat_natCast k
    show AL CO CN EM (Dz (rows,Ax (Ax (nr rows n0 k) ((rows.getD ((k:Int)).toNat (Ae TC.row)).1.size:Int) 5000) ((rows.getD ((k:Int)).toNat (Ae TC.row)).2.length:Int) 5000,(k:Int),0)) (rows,Ax (Ax (nr rows n0 k) ((rows.getD ((k:Int)).toNat (Ae TC.row)).1.size:Int) 5000) ((rows.getD ((k:Int)).toNat (Ae TC.row)).2.length:Int) 5000,(k:Int),0)
    rw[e]
    exact this)
 have hrun:Sp (rows,n0,0)=(rows,nr rows n0 k,(k:Int)):=hx
 refine⟨Aa (by rw[hn0];exact h1) Ab,fun h=>?_⟩
 unfold Qc at h
 rw[hn0,hrun] at h
 have h5:nr rows n0 k≤5000:=of_decide_eq_true h
 obtain⟨b1,b2⟩:=(Bts rows n0 a2 hw k hk).2 h5
 have hkn:k=rows.length:=by
  rcases Nat.lt_or_ge k rows.length with h'|h'
  ·have:=hst h'
   rw[decide_eq_true h5] at this
   cases this
  ·omega
 refine⟨by have:=a1 b1;omega,fun r hr=>?_⟩
 obtain⟨j,hj,rfl⟩:=List.mem_iff_getElem.1 hr
 have:=b2 j (by omega)
 rw[List.getD_eq_getElem?_getD,List.getElem?_eq_getElem hj] at this
 exact this
theorem A7k (a0:List TGroup) (a1:List TRow) (hp:∀p∈Z1 a0 a1,p):CallOk Try.prog 60 [.sl .group a0,Ak .rows a1] 0 [] 1 (Aha a0 a1) 0 (Ag8 a0 a1):=by
 obtain⟨h1,h2,h3⟩:=hp _ (List.mem_cons_self ..)
 exact Bdr a0 a1 (Btb a0 a1 h1 h2 h3).1
def Qf:List A→Nat→Objs→Option A8
 | [y0,y1],nx,o=>match Kp .group y0,AP .rows y1 with
  |some a0,some (a1,p1)=>some (1,(Aha a0 a1).pk (AF nx),nx+0,AE nx (Ag8 a0 a1)++o,p1++(Z1 a0 a1))
  |_,_=>none
 |_,_,_=>none
theorem Z2:Fu Try.prog 60 Qf:=fun args nx o k x nx' o' ps h=>by
 unfold Qf at h
 split at h<;>first|(cases h;done)|skip
 split at h<;>first|(cases h;done)|skip
 rename_i a0 a1 p1 e0 e1
 cases h
 refine⟨fun hp=>?_,_,rfl⟩
 have q1:=fun p hm=>hp p (List.mem_append.2 (.inl hm))
 have r1:=fun p hm=>hp p (List.mem_append.2 (.inr hm))
 refine Ah (Ag (A7k a0 a1 r1) (Nat.le_refl _) (Ac rfl (Ac (Af _ _) Ao)) nx o) fun F N R vs hl=>?_
 obtain⟨v0,w0,rfl,h0,hl⟩:=hl.inv
 obtain⟨v1,w1,rfl,h1,hl⟩:=hl.inv
 exact HL.cons (Cx e0 h0) (HL.cons (Am e1 q1 h1) (hl))
noncomputable def B0h:=A5 60 Qf Bg6
theorem Blq:Df Try.prog B0h:=Av Z2 Auk
def A7n:ByteArray:=ByteArray.mk #[(97:UInt8)]
def A7o:ByteArray:=ByteArray.mk #[(98:UInt8)]
def TY:A:=.sq 0
def TX:Objs:=[(0,some (.arr 79 2 (.lst [[.v (.string A7n),.v (.int .i64 ((1:Int)))],[.v (.string A7o),.v (.int .i64 ((2:Int)))]])))]
def Z3:List Prop:=[]
set_option maxRecDepth 100000 in
theorem A1w:EU (AA B0h L0) 9 127 [] 0 []=some (1,TY,1,TX,[]):=by kernel_rfl
set_option maxRecDepth 100000 in
theorem A7p (_hp:∀p∈Z3,p):CallOk Try.prog 127 [] 0 [] 1 (TY) 1 (TX):=by
 exact AH (Aw Blq AG) (A1w) Ab
def TZ:List A→Nat→Objs→Option A8
 | [],nx,o=>some (1,(TY).pk (AF nx),nx+1,AE nx (TX)++o,Z3)
 |_,_,_=>none
theorem Awr:Fu Try.prog 127 TZ:=fun args nx o k x nx' o' ps h=>by
 unfold TZ at h
 split at h<;>first|(cases h;done)|skip
 cases h
 refine⟨fun hp=>?_,_,rfl⟩
 refine Ah (Ag (A7p hp) (Nat.le_refl _) Ao nx o) fun F N R vs hl=>?_
 exact hl
noncomputable def B13:=A5 127 TZ B0h
theorem Bv4:Df Try.prog B13:=Av Awr Blq
def WI:A:=.v (.bool (true))
def WH:Objs:=[]
def Ahb:List Prop:=[]
set_option maxRecDepth 100000 in
theorem A7m:EU (AA B13 L0) 1040 61 [] 0 []=some (1,WI,0,WH,[(Ai (2:Nat)),(true=true→Ai (2:Nat)),(true=true→Ai (1024:Nat)),(false=false),(true=true→false=false),(false=false),(true=true→false=false),(false=false),(true=true→false=false),(false=false)]):=by kernel_rfl
set_option maxRecDepth 100000 in
theorem Bds (_hp:∀p∈Ahb,p):CallOk Try.prog 61 [] 0 [] 1 (WI) 0 (WH):=by
 have n0:(Ai (2:Nat)):=by first|rfl|decide+kernel
 have n1:(true=true→Ai (2:Nat)):=by first|rfl|decide+kernel
 have n2:(true=true→Ai (1024:Nat)):=by first|rfl|decide+kernel
 have n3:(false=false):=by first|rfl|decide+kernel
 have n4:(true=true→false=false):=by first|rfl|decide+kernel
 exact AH (Aw Bv4 AG) (A7m) (Aa n0 (Aa n1 (Aa n2 (Aa n3 (Aa n4 (Aa n3 (Aa n4 (Aa n3 (Aa n4 (Aa n3 Ab))))))))))
def WJ:List A→Nat→Objs→Option A8
 | [],nx,o=>some (1,(WI).pk (AF nx),nx+0,AE nx (WH)++o,Ahb)
 |_,_,_=>none
theorem A1v:Fu Try.prog 61 WJ:=fun args nx o k x nx' o' ps h=>by
 unfold WJ at h
 split at h<;>first|(cases h;done)|skip
 cases h
 refine⟨fun hp=>?_,_,rfl⟩
 refine Ah (Ag (Bds hp) (Nat.le_refl _) Ao nx o) fun F N R vs hl=>?_
 exact hl
end Go.Proofs.Yteebobbhhgmeiaa
namespace Go.Proofs.Yteebobbhhgmeiaa
open Go.RowKit
def IY (a b:ByteArray):Bool:=Op.bytesLess a.toList b.toList
theorem TB:∀x:List UInt8,Op.bytesLess x x=false
 | []=>rfl
 |a::x=>by
  unfold Op.bytesLess
  rw[TB x]
  simp
theorem Aof:∀{x y z:List UInt8},Op.bytesLess x y=true→Op.bytesLess y z=true→Op.bytesLess x z=true
 |x,[],_,h,_=>by cases x<;>cases h
 |_,_::_,[],_,h=>by cases h
 | [],_::_,_::_,_,_=>rfl
 |a::x,b::y,c::z,h,g=>by
  unfold Op.bytesLess at*
  simp only[Bool.or_eq_true,decide_eq_true_eq,Bool.and_eq_true,beq_iff_eq] at*
  rcases h with h|⟨rfl,h⟩<;>rcases g with g|⟨rfl,g⟩
  ·exact .inl (UInt8.lt_trans h g)
  ·exact .inl h
  ·exact .inl g
  ·exact .inr ⟨rfl,Aof h g⟩
theorem Aoe:∀{x y:List UInt8},Op.bytesLess x y=false→x≠y→Op.bytesLess y x=true
 | [],[],_,h=>absurd rfl h
 | [],_::_,h,_=>by cases h
 |_::_,[],_,_=>rfl
 | a::x,b::y,h,g=>by
  unfold Op.bytesLess at*
  simp only[Bool.or_eq_true,Bool.or_eq_false_iff,decide_eq_true_eq,decide_eq_false_iff_not,Bool.and_eq_true,beq_iff_eq] at*
  obtain⟨h1,h2⟩:=h
  by_cases e:a=b
  ·subst e
   refine .inr ⟨rfl,Aoe (by simpa using h2) fun e=>g (by rw[e])⟩
  ·left
   have h1':¬a.toNat <b.toNat:=h1
   have h3:a.toNat≠b.toNat:=fun h=>e (UInt8.toNat_inj.1 h)
   show b.toNat <a.toNat
   omega
theorem K1 {a b c:ByteArray} (h:IY a b=true) (g:IY b c=true):IY a c=true:=Aof h g
theorem T4 {a b:ByteArray} (h:IY a b=true):a≠b:=by
 rintro rfl
 unfold IY at h
 rw[TB] at h
 cases h
theorem SO {a b:ByteArray} (h:IY a b=false) (g:a≠b):IY b a=true:=by
 refine Aoe h fun e=>g ?_
 have:(a.toList==b.toList)=true:=beq_iff_eq.2 e
 rw[tlb] at this
 exact eq_of_beq this
def Ac6 (l:List TGroup) (i:Nat):Int:=(l.getD i (Ae TC.group)).policy
def Gk (cs:List TCell) (i:Nat):TCell:=cs.getD i (Ae TC.cell)
def BU (rows:List TRow) (i:Nat):TRow:=rows.getD i (Ae TC.row)
def OW (rows:List TRow):Nat→ByteArray
 |0=>⟨#[]⟩
 |i+1=>(BU rows i).key
def leS (a b:ByteArray):Bool:=IY a b||a==b
def VM (l:List TGroup) (rows:List TRow) (i:Nat):Int:=bif Ap l (BU rows i) !=0 then Ap l (BU rows i) else bif FG (BU rows i)||leS (BU rows i).key (OW rows i) then 100 else 0
def Gv (l:List TGroup) (rows:List TRow):Nat→Int
 |0=>0
 |i+1=>bif Gv l rows i !=0 then Gv l rows i else VM l rows i
def Gq (l:List TGroup) (rows:List TRow):Int:=bif AY l !=0 then AY l else Gv l rows rows.length
theorem Agw (l:List TGroup) (rows:List TRow):∀n,Gv l rows n=0↔∀i,i <n→VM l rows i=0
 |0=>⟨fun _ i h=>absurd h (Nat.not_lt_zero _),fun _=>rfl⟩
 | n +1=>by
  have ih:=Agw l rows n
  unfold Gv
  cases h:Gv l rows n !=0 with
  |true=>
   rw[cond_true]
   have h':Gv l rows n≠0:=by simpa using h
   exact⟨fun e=>absurd e h',fun e=>absurd (ih.2 fun i hi=>e i (by omega)) h'⟩
  | false=>
   rw[cond_false]
   have h':Gv l rows n=0:=by simpa using h
   constructor
   ·intro e i hi
    rcases Nat.lt_or_ge i n with g|g
    ·exact ih.1 h' i g
    ·obtain rfl:i=n:=by omega
     exact e
   ·intro e
    exact e n (Nat.lt_succ_self n)
theorem Ws {l:List TGroup} {rows:List TRow} {k:Nat} (h:Gv l rows k≠0):∀n,k≤n→Gv l rows n=Gv l rows k
 |0,hn=>by
  obtain rfl:k=0:=by omega
  rfl
 | n+1,hn=>by
  rcases Nat.lt_or_ge n k with g|g
  ·obtain rfl:k=n+1:=by omega
   rfl
  ·have ih:=Ws h n g
   have hb:(Gv l rows k !=0)=true:=by simpa using h
   show(bif Gv l rows n !=0 then Gv l rows n else _)=_
   rw[ih,hb,cond_true]
theorem Aun {l:List TGroup} {rows:List TRow}:Gq l rows=0↔AY l=0∧∀i,i <rows.length→VM l rows i=0:=by
 unfold Gq
 cases h:AY l !=0 with
 |true=>
  rw[cond_true]
  have h':AY l≠0:=by simpa using h
  exact⟨fun e=>absurd e h',fun e=>absurd e.1 h'⟩
 |false=>
  rw[cond_false,Agw]
  have h':AY l=0:=by simpa using h
  exact⟨fun e=>⟨h',e⟩,fun e=>e.2⟩
theorem Bhz {l:List TGroup} {rows:List TRow} {i:Nat}:VM l rows i=0↔Ap l (BU rows i)=0∧FG (BU rows i)=false∧leS (BU rows i).key (OW rows i)=false:=by
 unfold VM
 cases h:Ap l (BU rows i) !=0 with
 |true=>
  rw[cond_true]
  have h':Ap l (BU rows i)≠0:=by simpa using h
  exact⟨fun e=>absurd e h',fun e=>absurd e.1 h'⟩
 |false=>
  rw[cond_false]
  have h':Ap l (BU rows i)=0:=by simpa using h
  cases FG (BU rows i)<;>cases leS (BU rows i).key (OW rows i)<;>simp[h']
def On (rows:List TRow):Prop:=rows.Pairwise fun a b=>IY a.key b.key=true
theorem Tm {rows:List TRow} {i:Nat} (h:i <rows.length):BU rows i=rows[i]:=by
 unfold BU
 rw[List.getD_eq_getElem?_getD,List.getElem?_eq_getElem h]
 rfl
theorem Bx4 {l:List TGroup} {rows:List TRow} (h:∀i,i <rows.length→VM l rows i=0):On rows:=by
 unfold On
 rw[List.pairwise_iff_getElem]
 have step:∀i,i+1 <rows.length→IY (BU rows i).key (BU rows (i+1)).key=true:=fun i hi=>by
  have:=(Bhz.1 (h (i+1) hi)).2.2
  have h2:leS (BU rows (i+1)).key (BU rows i).key=false:=this
  unfold leS at h2
  obtain⟨h3,h4⟩:=Bool.or_eq_false_iff.1 h2
  exact SO h3 (by simpa using h4)
 have far:∀d i,i+d+1 <rows.length→IY (BU rows i).key (BU rows (i+d+1)).key=true:=fun d=>by
  induction d with
  |zero=>intro i hi;exact step i hi
  |succ d ih=>intro i hi;exact K1 (ih i (by omega)) (step (i+d+1) (by omega))
 intro i j hi hj hij
 have:=far (j - i - 1) i (by omega)
 rw[show i+(j - i - 1)+1=j by omega,Tm hi,Tm hj] at this
 exact this
theorem A66 {l:List TGroup} {rows:List TRow} (hp:AY l=0) (hg:∀r∈rows,Ap l r=0∧FG r=false) (hr:On rows):Gq l rows=0:=by
 refine Aun.2 ⟨hp,fun i hi=>Bhz.2 ?_⟩
 have hm:BU rows i∈rows:=by rw[Tm hi];exact List.getElem_mem hi
 obtain⟨g1,g2⟩:=hg _ hm
 refine⟨g1,g2,?_⟩
 unfold leS
 cases i with
 | zero=>
  have hk:(BU rows 0).key.size≠0:=(AV g1).2.2.1
  rw[Bool.or_eq_false_iff]
  constructor
  ·show Op.bytesLess (BU rows 0).key.toList (ByteArray.mk #[]).toList=false
   rw[show(ByteArray.mk #[]).toList=[] by decide+kernel]
   cases(BU rows 0).key.toList<;>rfl
  ·refine beq_eq_false_iff_ne.2 fun e=>hk ?_
   rw[e]
   rfl
 | succ i=>
  have hlt:IY (BU rows i).key (BU rows (i+1)).key=true:=by
   rw[Tm hi,Tm (show i <rows.length by omega)]
   exact List.pairwise_iff_getElem.1 hr i (i+1) _ _ (by omega)
  rw[Bool.or_eq_false_iff]
  constructor
  ·cases h:IY (BU rows (i+1)).key (OW rows (i+1)) with
   |false=>rfl
   |true=>exact absurd rfl (T4 (K1 hlt h))
  ·exact beq_eq_false_iff_ne.2 fun e=>T4 hlt e.symm
def B1e (p:Int) (st:TVec) (c:TCell):Bool:=!eqC c zeroC&&(Bz p c&&(Bcx st (Acp c)&&!Ts p c))
theorem Awf {l:List TGroup} {r:TRow} (h1:AY l=0) (h2:r.key.size≠0) (h3:r.key.size≤32) (h4:r.cells.length=l.length) (h5:(l.zip r.cells).all (fun x=>Bz x.1.policy x.2)=true):Ap l r=0:=by
 unfold Ap
 have g1:(AY l !=0)=false:=by rw[h1];rfl
 have g2:(r.key.size==0)=false:=by simpa using h2
 have g4:(r.cells.length !=l.length)=false:=by rw[h4];simp
 rw[g1,g2,decide_eq_false (by omega),g4,h5]
 rfl
theorem A65 {l:List TGroup} {cs:List TCell} (hl:cs.length=l.length):(l.zip cs).all (fun x=>Bz x.1.policy x.2)=true↔∀i,i <l.length→Bz (Ac6 l i) (Gk cs i)=true:=by
 rw[Bzo l cs (Ae TC.group) (Ae TC.cell) (fun g c=>Bz g.policy c) hl,IU]
 exact Iff.rfl
end Go.Proofs.Yteebobbhhgmeiaa
namespace Go.Proofs.Yteebobbhhgmeiaa
open Go.RowKit
def Lex (r e s:Prop):Prop:=r∨(e∧s)
theorem SM {r1 r2 r3 e1 e2 e3 s1 s2 s3:Prop} (hr:r1→r2→r3) (hre:r1→e2→r3) (her:e1→r2→r3) (hee:e1→e2→e3) (hs:s1→s2→s3):Lex r1 e1 s1→Lex r2 e2 s2→Lex r3 e3 s3
 | .inl a,.inl b=> .inl (hr a b)
 | .inl a,.inr b=> .inl (hre a b.1)
 | .inr a,.inl b=> .inl (her a.1 b)
 | .inr a,.inr b=> .inr ⟨hee a.1 b.1,hs a.2 b.2⟩
theorem SL {r1 r2 e1 e2 s1 s2 t e:Prop} (h:r1∨e∨r2) (h1:e→e1) (h2:e→e2) (hs:s1∨t∨s2):Lex r1 e1 s1∨(e∧t)∨Lex r2 e2 s2:=by
 rcases h with h|h|h
 ·exact .inl (.inl h)
 ·rcases hs with g|g|g
  ·exact .inl (.inr ⟨h1 h,g⟩)
  ·exact .inr (.inl ⟨h,g⟩)
  ·exact .inr (.inr (.inr ⟨h2 h,g⟩))
 ·exact .inr (.inr (.inl h))
def UH (a b:TCell):Prop:=
 Lex (a.stamp.n <b.stamp.n) (a.stamp.n=b.stamp.n) (Lex (a.stamp.site <b.stamp.site) (a.stamp.site=b.stamp.site) (Lex (a.gone=false∧b.gone=true) (a.gone=b.gone) (Lex (IY a.value b.value=true) (a.value=b.value) (Lex (a.vec.a <b.vec.a) (a.vec.a=b.vec.a) (a.vec.b <b.vec.b)))))
theorem Acq {a b c:TCell}:UH a b→UH b c→UH a c:=
 SM (by omega) (by omega) (by omega) (by omega) (SM (by omega) (by omega) (by omega) (by omega)
  (SM (fun h g=>by rw[h.2] at g;exact absurd g.1 (by decide)) (fun h g=>⟨h.1,g▸h.2⟩) (fun h g=>⟨h▸g.1,g.2⟩) (fun h g=>h.trans g)
   (SM K1 (fun h g=>g▸h) (fun h g=>h▸g) (fun h g=>h.trans g) (SM (by omega) (by omega) (by omega) (by omega) (by omega)))))
theorem Bd0 {a:TCell} (h:UH a a):False:=by
 rcases h with h|⟨_,h|⟨_,h|⟨_,h|⟨_,h|⟨_,h⟩⟩⟩⟩⟩
 ·omega
 ·omega
 ·rw[h.1] at h;exact absurd h.2 (by decide)
 ·exact T4 h rfl
 ·omega
 ·omega
def Bzm (a b:TCell):Prop:=a.stamp.n=b.stamp.n∧a.stamp.site=b.stamp.site∧a.gone=b.gone∧a.value=b.value∧a.vec.a=b.vec.a∧a.vec.b=b.vec.b
theorem Awz (a b:TCell):UH a b∨Bzm a b∨UH b a:=by
 refine SL (by omega) id Eq.symm (SL (by omega) id Eq.symm (SL ?_ id Eq.symm (SL ?_ id Eq.symm (SL (by omega) id Eq.symm (by omega)))))
 ·cases a.gone<;>cases b.gone<;>simp
 ·by_cases h:a.value=b.value
  ·exact .inr (.inl h)
  ·cases h1:IY a.value b.value with
   |true=>exact .inl rfl
   |false=>exact .inr (.inr (SO h1 h))
def JF (a b:TCell):Bool:=
 bif !(a.stamp.n==b.stamp.n&&a.stamp.site==b.stamp.site) then decide (a.stamp.n <b.stamp.n)||(a.stamp.n==b.stamp.n&&decide (a.stamp.site <b.stamp.site))
 else bif a.gone !=b.gone then b.gone
 else bif !(a.value==b.value) then IY a.value b.value
 else bif a.vec.a !=b.vec.a then decide (a.vec.a <b.vec.a)
 else decide (a.vec.b <b.vec.b)
theorem A4r {a b:TCell}:JF a b=true↔UH a b:=by
 unfold JF UH Lex
 by_cases h1:a.stamp.n=b.stamp.n
 ·by_cases h2:a.stamp.site=b.stamp.site
  ·have e:(a.stamp.n==b.stamp.n&&a.stamp.site==b.stamp.site)=true:=by rw[h1,h2];simp
   rw[e,Bool.not_true,cond_false]
   simp only[h1,h2,false_or,true_and,Int.lt_irrefl]
   by_cases h3:a.gone=b.gone
   ·have e3:(a.gone !=b.gone)=false:=by rw[h3];simp
    have n3:¬(a.gone=false∧b.gone=true):=by rw[h3];rintro⟨x,y⟩;rw[x] at y;cases y
    rw[e3,cond_false]
    have n3':¬(b.gone=false∧b.gone=true):=by rintro⟨x,y⟩;rw[x] at y;cases y
    simp only[h3,n3',false_or,true_and]
    by_cases h4:a.value=b.value
    ·have e4:(a.value==b.value)=true:=beq_iff_eq.2 h4
     rw[e4,Bool.not_true,cond_false]
     simp only[h4,true_and]
     have n4':¬IY b.value b.value=true:=fun h=>T4 h rfl
     simp only[n4',Bool.false_eq_true,false_or]
     by_cases h5:a.vec.a=b.vec.a
     ·have e5:(a.vec.a !=b.vec.a)=false:=by rw[h5];simp
      rw[e5,cond_false,decide_eq_true_eq]
      omega
     ·have e5:(a.vec.a !=b.vec.a)=true:=by simpa using h5
      rw[e5,cond_true,decide_eq_true_eq]
      omega
    ·have e4:(a.value==b.value)=false:=beq_eq_false_iff_ne.2 h4
     rw[e4,Bool.not_false,cond_true]
     simp only[h4,false_and,or_false]
   ·have e3:(a.gone !=b.gone)=true:=by simpa using h3
    rw[e3,cond_true]
    simp only[h3,false_and,or_false]
    revert h3
    cases a.gone<;>cases b.gone<;>simp
  ·have e:(a.stamp.n==b.stamp.n&&a.stamp.site==b.stamp.site)=false:=by rw[beq_eq_false_iff_ne.2 h2,Bool.and_false]
   rw[e,Bool.not_false,cond_true]
   simp[h1,h2]
 ·have e:(a.stamp.n==b.stamp.n&&a.stamp.site==b.stamp.site)=false:=by rw[beq_eq_false_iff_ne.2 h1,Bool.false_and]
  rw[e,Bool.not_false,cond_true]
  simp[h1]
def HP (a b:TCell):TCell:=bif JF a b then b else a
def Kh (a b:TCell):TCell:=⟨(HP a b).stamp,(HP a b).vec,(HP a b).gone,(HP a b).value,Ng a.dead b.dead⟩
def Og (a:TCell):TCell:=⟨a.stamp,a.vec,a.gone,a.value,⟨0,0⟩⟩
theorem Bau {a b:TCell} (h:Bzm a b):Og a=Og b:=by
 obtain⟨⟨an,asi⟩,⟨ava,avb⟩,ag,av,ad⟩:=a
 obtain⟨⟨bn,bsi⟩,⟨bva,bvb⟩,bg,bv,bd⟩:=b
 obtain⟨h1,h2,h3,h4,h5,h6⟩:=h
 simp only at h1 h2 h3 h4 h5 h6
 subst h1 h2 h3 h4 h5 h6
 rfl
def mkC (w:TCell) (d:TVec):TCell:=⟨w.stamp,w.vec,w.gone,w.value,d⟩
theorem A08 (a b:TCell):Kh a b=mkC (Og (HP a b)) (Ng a.dead b.dead):=rfl
theorem Bd1 {a b:TCell}:UH a (Og b)↔UH a b:=Iff.rfl
theorem I9 (a b:TCell):(UH a b∧HP a b=b)∨(¬UH a b∧HP a b=a):=by
 unfold HP
 cases h:JF a b with
 |true=>exact .inl ⟨A4r.1 h,rfl⟩
 |false=>exact .inr ⟨fun g=>(by rw[A4r.2 g] at h;cases h),rfl⟩
theorem Btg (a b:TCell):Og (HP a b)=Og (HP b a):=by
 rcases I9 a b with⟨h,e⟩|⟨h,e⟩<;>rcases I9 b a with⟨g,f⟩|⟨g,f⟩<;>rw[e,f]
 ·exact(Bd0 (Acq h g)).elim
 ·rcases Awz a b with q|q|q
  ·exact absurd q h
  ·exact Bau q
  ·exact absurd q g
theorem Alt (a b:TCell):Og (HP a b)=HP (Og a) (Og b):=by
 have:JF (Og a) (Og b)=JF a b:=rfl
 unfold HP
 rw[this]
 cases JF a b<;>rfl
theorem max_assoc (a b c:TCell):Og (HP (HP a b) c)=Og (HP a (HP b c)):=by
 rcases I9 a b with⟨h,e⟩|⟨h,e⟩<;>rcases I9 b c with⟨g,f⟩|⟨g,f⟩
 ·rw[e,f]
  rcases I9 a c with⟨_,q⟩|⟨r,_⟩
  ·rw[q]
  ·exact absurd (Acq h g) r
 ·rw[e,f,e]
 ·rw[e,f]
 ·rw[e,f,e]
  rcases I9 a c with⟨r,q⟩|⟨_,q⟩
  ·rcases Awz b c with t|t|t
   ·exact absurd t g
   ·have:=Bau t
    rw[←Bd1 (b:=c),←this] at r
    exact absurd (Bd1.1 r) h
   ·exact absurd (Acq r t) h
  ·rw[q]
theorem Bp6 (a b:TVec):Ng a b=Ng b a:=by
 unfold Ng
 congr 1<;>omega
theorem Bkv (a b c:TVec):Ng (Ng a b) c=Ng a (Ng b c):=by
 unfold Ng
 congr 1<;>simp only<;>omega
theorem Bgw (a b:TCell):Kh a b=Kh b a:=by
 rw[A08,A08 b a,Btg,Bp6]
theorem Bvi (a b:TCell):Og (Kh a b)=Og (HP a b):=rfl
theorem A5r (a b c:TCell):Kh (Kh a b) c=Kh a (Kh b c):=by
 have l:Og (HP (Kh a b) c)=Og (HP (HP a b) c):=by rw[Alt,Alt (HP a b) c,Bvi]
 have r:Og (HP a (Kh b c))=Og (HP a (HP b c)):=by rw[Alt,Alt a (HP b c),Bvi]
 have h:=l.trans ((max_assoc a b c).trans r.symm)
 show mkC (Og (HP (Kh a b) c)) (Ng (Ng a.dead b.dead) c.dead)=mkC (Og (HP a (Kh b c))) (Ng a.dead (Ng b.dead c.dead))
 rw[h,Bkv]
theorem Bth (a:TCell):HP a a=a:=by
 rcases I9 a a with⟨_,e⟩|⟨_,e⟩<;>exact e
def Bg3 (c:TCell):Bool:=bif !Cz c then true else H2 c.stamp&&decide (0 <c.stamp.n)&&CL c.vec&&decide ((c.value.size:Int)≤64)&&!(c.gone&&!(c.value.size==0))
theorem Awd {p:Int} {c:TCell}:Bz p c=true↔((p=1∧c.dead=⟨0,0⟩)∨(p=2∧c.gone=false∧CL c.dead=true))∧Bg3 c=true:=by
 unfold Bz
 show(bif p==1&&!Ht c.dead||(p==2&&(c.gone||!CL c.dead)||!(p==1||p==2)) then false else Bg3 c)=true↔_
 by_cases h1:p=1
 ·subst h1
  have e:((1:Int)==1&&!Ht c.dead||((1:Int)==2&&(c.gone||!CL c.dead)||!((1:Int)==1||(1:Int)==2)))=!Ht c.dead:=by
   cases Ht c.dead<;>rfl
  rw[e,←A5v]
  cases Ht c.dead<;>simp
 ·by_cases h2:p=2
  ·subst h2
   have e:((2:Int)==1&&!Ht c.dead||((2:Int)==2&&(c.gone||!CL c.dead)||!((2:Int)==1||(2:Int)==2)))=(c.gone||!CL c.dead):=by
    cases c.gone<;>cases CL c.dead<;>rfl
   rw[e]
   cases c.gone<;>cases CL c.dead<;>simp
  ·have e1:(p==1)=false:=beq_eq_false_iff_ne.2 h1
   have e2:(p==2)=false:=beq_eq_false_iff_ne.2 h2
   rw[e1,e2]
   simp[h1,h2]
theorem Bp7 {a b:TVec} (h:CL a=true) (g:CL b=true):CL (Ng a b)=true:=by
 unfold CL Ng at*
 simp only[Bool.and_eq_true,decide_eq_true_eq] at*
 omega
theorem Bp8 {a:TVec} (h:CL a=true):Ng a a=a:=by
 unfold CL at h
 unfold Ng
 simp only[Bool.and_eq_true,decide_eq_true_eq] at h
 exact Baq (by show max (max 0 a.a) a.a=a.a;omega) (by show max (max 0 a.b) a.b=a.b;omega)
theorem Bvh {p:Int} {a b:TCell} (h:Bz p a=true) (g:Bz p b=true):Bz p (Kh a b)=true:=by
 rw[Awd] at h g⊢
 obtain⟨h1,h2⟩:=h
 obtain⟨g1,g2⟩:=g
 have hw:Bg3 (Kh a b)=true:=by
  show Bg3 (HP a b)=true
  rcases I9 a b with⟨_,e⟩|⟨_,e⟩<;>rw[e]
  ·exact g2
  ·exact h2
 refine⟨?_,hw⟩
 rcases h1 with⟨hp,h1⟩|⟨hp,h1,h3⟩
 ·rcases g1 with⟨_,g1⟩|⟨gp,_⟩
  ·refine .inl ⟨hp,?_⟩
   show Ng a.dead b.dead=_
   rw[h1,g1]
   rfl
  ·omega
 ·rcases g1 with⟨gp,_⟩|⟨_,g1,g3⟩
  ·omega
  ·refine .inr ⟨hp,?_,Bp7 h3 g3⟩
   show(HP a b).gone=false
   rcases I9 a b with⟨_,e⟩|⟨_,e⟩<;>rw[e]
   ·exact g1
   ·exact h1
theorem A4g {p:Int} {a:TCell} (h:Bz p a=true):CL a.dead=true:=by
 rcases(Awd.1 h).1 with⟨_,h1⟩|⟨_,_,h1⟩
 ·rw[h1];rfl
 ·exact h1
theorem Bgy {p:Int} {a:TCell} (h:Bz p a=true):Kh a a=a:=by
 rw[A08,Bth,Bp8 (A4g h)]
 rfl
theorem Bd8 {p:Int} {a:TCell} (h:Bz p a=true):Og (HP zeroC a)=Og a:=by
 rcases I9 zeroC a with⟨_,e⟩|⟨q,e⟩
 ·rw[e]
 ·rw[e]
  have hw:=(Awd.1 h).2
  cases hwr:Cz a with
  |true=>
   unfold Bg3 at hw
   rw[hwr] at hw
   simp only[Bool.not_true,cond_false,Bool.and_eq_true,decide_eq_true_eq] at hw
   exact absurd (.inl hw.1.1.1.2) q
  |false=>
   unfold Cz at hwr
   simp only[Bool.not_eq_false',Bool.and_eq_true,beq_iff_eq,Bool.not_eq_true'] at hwr
   obtain⟨⟨⟨h1,h2⟩,h3,h4⟩,h5,h6⟩:=hwr
   exact Bau ⟨h1.symm,h2.symm,h5.symm,(B27 h6).symm,h3.symm,h4.symm⟩
def Lm (a b:TCell):TCell:=mkC (Og (HP (HP zeroC a) b)) (Ng a.dead b.dead)
theorem A4q {p:Int} {a b:TCell} (h:Bz p a=true):Lm a b=Kh a b:=by
 unfold Lm
 rw[A08,Alt (HP zeroC a),Bd8 h,←Alt]
def jnN (us ws:List TCell):Nat→List TCell
 |0=>us
 |i+1=>(jnN us ws i).set i (Lm (Gk (jnN us ws i) i) (Gk ws i))
theorem Ag1 (us ws:List TCell):∀i,(jnN us ws i).length=us.length
 |0=>rfl
 |i+1=>by
  unfold jnN
  rw[List.length_set,Ag1 us ws i]
theorem Bh8 (us ws:List TCell) (j:Nat) (hj:j <us.length):∀i,Gk (jnN us ws i) j=bif decide (j <i) then Lm (Gk us j) (Gk ws j) else Gk us j
 |0=>rfl
 | i+1=>by
  have ih:=Bh8 us ws j hj i
  unfold jnN
  unfold Gk at ih⊢
  rw[List.getD_eq_getElem?_getD,List.getElem?_set,Ag1]
  by_cases e:i=j
  ·subst e
   rw[if_pos rfl,if_pos hj,decide_eq_true (by omega)]
   rw[decide_eq_false (Nat.lt_irrefl _),cond_false] at ih
   show Lm ((jnN us ws i).getD i (Ae TC.cell)) _=_
   rw[ih]
   rfl
  ·rw[if_neg e,←List.getD_eq_getElem?_getD,ih]
   congr 1
   exact decide_eq_decide.2 (by omega)
def jnR (a b:TRow):TRow:=⟨a.key,jnN a.cells b.cells b.cells.length⟩
def jnE (l:List TGroup) (a b:TRow):Int:=bif Ap l a !=0 then Ap l a else bif Ap l b !=0 then Ap l b else bif !(a.key==b.key) then 100 else 0
theorem Bdm {l:List TGroup} {a b:TRow}:jnE l a b=0↔Ap l a=0∧Ap l b=0∧a.key=b.key:=by
 unfold jnE
 cases h:Ap l a !=0 with
 |true=>
  rw[cond_true]
  have h':Ap l a≠0:=by simpa using h
  exact⟨fun e=>absurd e h',fun e=>absurd e.1 h'⟩
 | false=>
  rw[cond_false]
  have h':Ap l a=0:=by simpa using h
  cases g:Ap l b !=0 with
  |true=>
   rw[cond_true]
   have g':Ap l b≠0:=by simpa using g
   exact⟨fun e=>absurd e g',fun e=>absurd e.2.1 g'⟩
  | false=>
   rw[cond_false]
   have g':Ap l b=0:=by simpa using g
   by_cases k:a.key=b.key
   ·rw[beq_iff_eq.2 k]
    exact⟨fun _=>⟨h',g',k⟩,fun _=>rfl⟩
   ·rw[beq_eq_false_iff_ne.2 k]
    exact⟨fun e=>(by cases e),fun e=>absurd e.2.2 k⟩
theorem Bod {us ws:List TCell} (hl:us.length=ws.length) (h:∀i,i <us.length→Gk us i=Gk ws i):us=ws:=by
 refine List.ext_getElem hl fun i h1 h2=>?_
 have:=h i h1
 unfold Gk at this
 rw[List.getD_eq_getElem?_getD,List.getD_eq_getElem?_getD,List.getElem?_eq_getElem h1,List.getElem?_eq_getElem h2] at this
 exact this
theorem JB {l:List TGroup} {r:TRow} (h:Ap l r=0) {i:Nat} (hi:i <l.length):Bz (Ac6 l i) (Gk r.cells i)=true:=
 (A65 (AV h).2.1).1 (AV h).2.2.2.2 i hi
theorem TS {l:List TGroup} {a b:TRow} (ha:Ap l a=0) (hb:Ap l b=0) {i:Nat} (hi:i <l.length):Gk (jnR a b).cells i=Kh (Gk a.cells i) (Gk b.cells i):=by
 have h1:=(AV ha).2.1
 have h2:=(AV hb).2.1
 show Gk (jnN a.cells b.cells b.cells.length) i=_
 rw[Bh8 _ _ i (by omega),decide_eq_true (by omega),cond_true,A4q (JB ha hi)]
theorem Qb {l:List TGroup} {a b:TRow} (ha:Ap l a=0):(jnR a b).cells.length=l.length:=by
 show(jnN a.cells b.cells b.cells.length).length=_
 rw[Ag1]
 exact(AV ha).2.1
theorem Wv {l:List TGroup} {a b:TRow} (ha:Ap l a=0) (hb:Ap l b=0):Ap l (jnR a b)=0:=by
 obtain⟨h1,h2,h3,h4,_⟩:=AV ha
 refine Awf h1 h3 h4 (Qb ha) ((A65 (Qb ha)).2 fun i hi=>?_)
 rw[TS ha hb hi]
 exact Bvh (JB ha hi) (JB hb hi)
theorem A93 {l:List TGroup} {x y:TRow} (hk:x.key=y.key) (hx:x.cells.length=l.length) (hy:y.cells.length=l.length) (h:∀i,i <l.length→Gk x.cells i=Gk y.cells i):x=y:=by
 have:=Bod (hx.trans hy.symm) fun i hi=>h i (by omega)
 cases x;cases y
 simp only at hk this
 rw[hk,this]
theorem Bw8 {l:List TGroup} {a b:TRow} (ha:Ap l a=0) (hb:Ap l b=0) (hk:a.key=b.key):jnR a b=jnR b a:=
 A93 (l:=l) hk (Qb ha) (Qb hb) fun i hi=>by rw[TS ha hb hi,TS hb ha hi,Bgw]
theorem Bs9 {l:List TGroup} {a b c:TRow} (ha:Ap l a=0) (hb:Ap l b=0) (hc:Ap l c=0):jnR (jnR a b) c=jnR a (jnR b c):=
 A93 (l:=l) rfl (Qb (Wv ha hb)) (Qb ha) fun i hi=>by
  rw[TS (Wv ha hb) hc hi,TS ha (Wv hb hc) hi,TS ha hb hi,TS hb hc hi,A5r]
theorem Bw9 {l:List TGroup} {a:TRow} (ha:Ap l a=0):jnR a a=a:=
 A93 (l:=l) rfl (Qb ha) (AV ha).2.1 fun i hi=>by rw[TS ha ha hi,Bgy (JB ha hi)]
end Go.Proofs.Yteebobbhhgmeiaa
namespace Go.Proofs.Yteebobbhhgmeiaa
open Go.RowKit
def B0x (c:TC) (x:A):Option (U c×U c):=match Kp c x with
 |some [a,b]=>some (a,b)
 |_=>none
theorem Bwj {c:TC} {x:A} {a b:U c} {F:Nat→Prop} {N:Nm} {nx:Nat} {R:World} {v:Value} (he:B0x c x=some (a,b)) (h:Hv F N nx R x v):Hv F N nx R (.sl c [a,b]) v:=by
 unfold B0x at he
 split at he<;>first|(cases he;done)|skip
 rename_i h1
 cases he
 exact Cx h1 h
def Ut (a0:TStamp) (a1:TStamp):Bool:=decide (a0.1 <a1.1)||a0.1==a1.1&&decide (a0.2 <a1.2)
def Uv (a0:TStamp) (a1:TStamp):A:=.v (.bool (Ut a0 a1))
def Uu (_a0:TStamp) (_a1:TStamp):Objs:=[]
def Abt (_a0:TStamp) (_a1:TStamp):List Prop:=[]
set_option maxRecDepth 100000 in
theorem A3r (a0:TStamp) (a1:TStamp):EU (AA Cl L0) 9 168 [Ak .stamp a0,Ak .stamp a1] 0 []=some (1,Uv a0 a1,0,Uu a0 a1,[]):=by kernel_rfl
set_option maxRecDepth 100000 in
theorem Bah (a0:TStamp) (a1:TStamp) (_hp:∀p∈Abt a0 a1,p):CallOk Try.prog 168 [Ak .stamp a0,Ak .stamp a1] 0 [] 1 (Uv a0 a1) 0 (Uu a0 a1):=by
 exact AH (Aw Bbf AG) (A3r a0 a1) Ab
def Uw:List A→Nat→Objs→Option A8
 | [y0,y1],nx,o=>match AP .stamp y0,AP .stamp y1 with
  |some (a0,p0),some (a1,p1)=>some (1,(Uv a0 a1).pk (AF nx),nx+0,AE nx (Uu a0 a1)++o,p0++(p1++(Abt a0 a1)))
  |_,_=>none
 |_,_,_=>none
theorem A02:Fu Try.prog 168 Uw:=fun args nx o k x nx' o' ps h=>by
 unfold Uw at h
 split at h<;>first|(cases h;done)|skip
 split at h<;>first|(cases h;done)|skip
 rename_i a0 p0 a1 p1 e0 e1
 cases h
 refine⟨fun hp=>?_,_,rfl⟩
 have q0:=fun p hm=>hp p (List.mem_append.2 (.inl hm))
 have r0:=fun p hm=>hp p (List.mem_append.2 (.inr hm))
 have q1:=fun p hm=>r0 p (List.mem_append.2 (.inl hm))
 have r1:=fun p hm=>r0 p (List.mem_append.2 (.inr hm))
 refine Ah (Ag (Bah a0 a1 r1) (Nat.le_refl _) (Ac (Af _ _) (Ac (Af _ _) Ao)) nx o) fun F N R vs hl=>?_
 obtain⟨v0,w0,rfl,h0,hl⟩:=hl.inv
 obtain⟨v1,w1,rfl,h1,hl⟩:=hl.inv
 exact HL.cons (Am e0 q0 h0) (HL.cons (Am e1 q1 h1) (hl))
noncomputable def B0l:=A5 168 Uw Cl
theorem Blt:Df Try.prog B0l:=Av A02 Bbf
def AB (a0:TCell):TCell:=TCell.mk a0.1 a0.2 a0.3 a0.4 (TVec.mk (0:Int) (0:Int))
def TV (a0:TCell):A:=.v (.agg ⟨[.int .i64 ((AB a0).stamp.n),.int .i64 ((AB a0).stamp.site),.int .i64 ((AB a0).vec.a),.int .i64 ((AB a0).vec.b),.bool ((AB a0).gone),.string ((AB a0).value),.int .i64 ((AB a0).dead.a),.int .i64 ((AB a0).dead.b)]⟩)
def TU (_a0:TCell):Objs:=[]
def ZZ (_a0:TCell):List Prop:=[]
set_option maxRecDepth 100000 in
theorem A1u (a0:TCell):EU (AA B0l L0) 9 167 [Ak .cell a0] 0 []=some (1,TV a0,0,TU a0,[]):=by kernel_rfl
set_option maxRecDepth 100000 in
theorem A7i (a0:TCell) (_hp:∀p∈ZZ a0,p):CallOk Try.prog 167 [Ak .cell a0] 0 [] 1 (TV a0) 0 (TU a0):=by
 exact AH (Aw Blt AG) (A1u a0) Ab
def TW:List A→Nat→Objs→Option A8
 | [y0],nx,o=>match AP .cell y0 with
  |some (a0,p0)=>some (1,(TV a0).pk (AF nx),nx+0,AE nx (TU a0)++o,p0++(ZZ a0))
  |_=>none
 |_,_,_=>none
theorem Awl:Fu Try.prog 167 TW:=fun args nx o k x nx' o' ps h=>by
 unfold TW at h
 split at h<;>first|(cases h;done)|skip
 split at h<;>first|(cases h;done)|skip
 rename_i a0 p0 e0
 cases h
 refine⟨fun hp=>?_,_,rfl⟩
 have q0:=fun p hm=>hp p (List.mem_append.2 (.inl hm))
 have r0:=fun p hm=>hp p (List.mem_append.2 (.inr hm))
 refine Ah (Ag (A7i a0 r0) (Nat.le_refl _) (Ac (Af _ _) Ao) nx o) fun F N R vs hl=>?_
 obtain⟨v0,w0,rfl,h0,hl⟩:=hl.inv
 exact HL.cons (Am e0 q0 h0) (hl)
noncomputable def B0m:=A5 167 TW B0l
theorem Blu:Df Try.prog B0m:=Av Awl Blt
def NZ (a0:TCell) (a1:TCell):Bool:=!(AB a0).4.toList==(AB a1).4.toList
def TT (a0:TCell) (a1:TCell):Bool:=!((AB a0).1.1==(AB a1).1.1&&(AB a0).1.2==(AB a1).1.2)
def NY (a0:TCell) (a1:TCell):Bool:=(AB a0).1.1==(AB a1).1.1&&(AB a0).1.2==(AB a1).1.2&&((AB a0).2.1==(AB a1).2.1&&(AB a0).2.2==(AB a1).2.2&&((AB a0).3==(AB a1).3&&((AB a0).4.toList==(AB a1).4.toList&&((AB a0).5.1==(AB a1).5.1&&(AB a0).5.2==(AB a1).5.2))))
def Wy (a0:TCell) (a1:TCell):Bool:=bif(NY a0 a1)||((TT a0 a1)||(!(AB a0).3==(AB a1).3||((NZ a0 a1)||(AB a0).2.1 !=(AB a1).2.1))) then bif(NY a0 a1) then false else bif(TT a0 a1) then Ut (AB a0).1 (AB a1).1 else bif !(AB a0).3==(AB a1).3 then(AB a1).3 else bif(NZ a0 a1) then Op.bytesLess (AB a0).4.toList (AB a1).4.toList else decide ((AB a0).2.1 <(AB a1).2.1) else decide ((AB a0).2.2 <(AB a1).2.2)
def Wz (a0:TCell) (a1:TCell):A:=.v (.bool (Wy a0 a1))
def Aov (_a0:TCell) (_a1:TCell):Objs:=[]
def A7h (_a0:TCell) (_a1:TCell):List Prop:=[]
set_option maxRecDepth 100000 in
theorem A7g (a0:TCell) (a1:TCell):EU (AA B0m L0) 9 138 [Ak .cell a0,Ak .cell a1] 0 []=some (1,Wz a0 a1,0,Aov a0 a1,[]):=by kernel_rfl
set_option maxRecDepth 100000 in
theorem Bdp (a0:TCell) (a1:TCell) (_hp:∀p∈A7h a0 a1,p):CallOk Try.prog 138 [Ak .cell a0,Ak .cell a1] 0 [] 1 (Wz a0 a1) 0 (Aov a0 a1):=by
 exact AH (Aw Blu AG) (A7g a0 a1) Ab
def Ag5 (a0:TCell) (a1:TCell):A:=.v (.bool (JF a0 a1))
def Ag4 (_a0:TCell) (_a1:TCell):Objs:=[]
def ZY (_a0:TCell) (_a1:TCell):List Prop:=[]
theorem A7f (a b:TCell):Wy a b=JF a b:=by
 have e0:NY a b=((a.stamp.n==b.stamp.n&&a.stamp.site==b.stamp.site)&&((a.vec.a==b.vec.a&&a.vec.b==b.vec.b)&&(a.gone==b.gone&&((a.value==b.value)&&true)))):=by
  unfold NY
  rw[tlb]
  rfl
 have e1:TT a b=!(a.stamp.n==b.stamp.n&&a.stamp.site==b.stamp.site):=rfl
 have e2:NZ a b=!(a.value==b.value):=by
  unfold NZ
  rw[tlb]
  rfl
 unfold Wy JF Ut
 rw[e0,e1,e2]
 show(bif _||(_||(!(a.gone==b.gone)||(_||!(a.vec.a==b.vec.a)))) then bif _ then false else bif _ then(decide (a.stamp.n <b.stamp.n)||a.stamp.n==b.stamp.n&&decide (a.stamp.site <b.stamp.site)) else bif !(a.gone==b.gone) then b.gone else bif _ then IY a.value b.value else decide (a.vec.a <b.vec.a) else decide (a.vec.b <b.vec.b))=(bif _ then _ else bif !(a.gone==b.gone) then b.gone else bif _ then IY a.value b.value else bif !(a.vec.a==b.vec.a) then decide (a.vec.a <b.vec.a) else decide (a.vec.b <b.vec.b))
 have hb:(a.vec.b==b.vec.b)=true→decide (a.vec.b <b.vec.b)=false:=fun h=>decide_eq_false (by have:a.vec.b=b.vec.b:=eq_of_beq h;omega)
 revert hb
 generalize (a.stamp.n==b.stamp.n&&a.stamp.site==b.stamp.site)=q1
 generalize (a.gone==b.gone)=q2
 generalize (a.value==b.value)=q3
 generalize (a.vec.a==b.vec.a)=q4
 generalize (a.vec.b==b.vec.b)=q5
 generalize decide (a.vec.b <b.vec.b)=q6
 cases q1<;>cases q2<;>cases q3<;>cases q4<;>cases q5<;>cases q6<;>simp
theorem A7e (a0:TCell) (a1:TCell) (_hp:∀p∈ZY a0 a1,p):CallOk Try.prog 138 [Ak .cell a0,Ak .cell a1] 0 [] 1 (Ag5 a0 a1) 0 (Ag4 a0 a1):=by
 have h:=Bdp a0 a1 (fun _ h=>by cases h)
 unfold Wz at h
 rw[A7f] at h
 exact h
def WA:List A→Nat→Objs→Option A8
 | [y0,y1],nx,o=>match AP .cell y0,AP .cell y1 with
  |some (a0,p0),some (a1,p1)=>some (1,(Ag5 a0 a1).pk (AF nx),nx+0,AE nx (Ag4 a0 a1)++o,p0++(p1++(ZY a0 a1)))
  |_,_=>none
 |_,_,_=>none
theorem A1t:Fu Try.prog 138 WA:=fun args nx o k x nx' o' ps h=>by
 unfold WA at h
 split at h<;>first|(cases h;done)|skip
 split at h<;>first|(cases h;done)|skip
 rename_i a0 p0 a1 p1 e0 e1
 cases h
 refine⟨fun hp=>?_,_,rfl⟩
 have q0:=fun p hm=>hp p (List.mem_append.2 (.inl hm))
 have r0:=fun p hm=>hp p (List.mem_append.2 (.inr hm))
 have q1:=fun p hm=>r0 p (List.mem_append.2 (.inl hm))
 have r1:=fun p hm=>r0 p (List.mem_append.2 (.inr hm))
 refine Ah (Ag (A7e a0 a1 r1) (Nat.le_refl _) (Ac (Af _ _) (Ac (Af _ _) Ao)) nx o) fun F N R vs hl=>?_
 obtain⟨v0,w0,rfl,h0,hl⟩:=hl.inv
 obtain⟨v1,w1,rfl,h1,hl⟩:=hl.inv
 exact HL.cons (Am e0 q0 h0) (HL.cons (Am e1 q1 h1) (hl))
noncomputable def B0n:=A5 138 WA B0m
theorem Blv:Df Try.prog B0n:=Av A1t Blu
def Adh (a0:TStamp) (a1:TStamp):Bool:=bif a0.1 !=a1.1 then decide (a0.1 <a1.1) else decide (a0.2 <a1.2)
def Adj (a0:TStamp) (a1:TStamp):A:=.v (.bool (Adh a0 a1))
def Adi (_a0:TStamp) (_a1:TStamp):Objs:=[]
def Apm (_a0:TStamp) (_a1:TStamp):List Prop:=[]
set_option maxRecDepth 100000 in
theorem Bet (a0:TStamp) (a1:TStamp):EU (AA B0n L0) 9 173 [Ak .stamp a0,Ak .stamp a1] 0 []=some (1,Adj a0 a1,0,Adi a0 a1,[]):=by kernel_rfl
set_option maxRecDepth 100000 in
theorem Bi0 (a0:TStamp) (a1:TStamp) (_hp:∀p∈Apm a0 a1,p):CallOk Try.prog 173 [Ak .stamp a0,Ak .stamp a1] 0 [] 1 (Adj a0 a1) 0 (Adi a0 a1):=by
 exact AH (Aw Blv AG) (Bet a0 a1) Ab
def Adk:List A→Nat→Objs→Option A8
 | [y0,y1],nx,o=>match AP .stamp y0,AP .stamp y1 with
  |some (a0,p0),some (a1,p1)=>some (1,(Adj a0 a1).pk (AF nx),nx+0,AE nx (Adi a0 a1)++o,p0++(p1++(Apm a0 a1)))
  |_,_=>none
 |_,_,_=>none
theorem A8w:Fu Try.prog 173 Adk:=fun args nx o k x nx' o' ps h=>by
 unfold Adk at h
 split at h<;>first|(cases h;done)|skip
 split at h<;>first|(cases h;done)|skip
 rename_i a0 p0 a1 p1 e0 e1
 cases h
 refine⟨fun hp=>?_,_,rfl⟩
 have q0:=fun p hm=>hp p (List.mem_append.2 (.inl hm))
 have r0:=fun p hm=>hp p (List.mem_append.2 (.inr hm))
 have q1:=fun p hm=>r0 p (List.mem_append.2 (.inl hm))
 have r1:=fun p hm=>r0 p (List.mem_append.2 (.inr hm))
 refine Ah (Ag (Bi0 a0 a1 r1) (Nat.le_refl _) (Ac (Af _ _) (Ac (Af _ _) Ao)) nx o) fun F N R vs hl=>?_
 obtain⟨v0,w0,rfl,h0,hl⟩:=hl.inv
 obtain⟨v1,w1,rfl,h1,hl⟩:=hl.inv
 exact HL.cons (Am e0 q0 h0) (HL.cons (Am e1 q1 h1) (hl))
noncomputable def B0o:=A5 173 Adk B0n
theorem Blw:Df Try.prog B0o:=Av A8w Blv
def IT (a0:TCell) (a1:TCell):Bool:=bif !(a0.1.1==a1.1.1&&a0.1.2==a1.1.2) then Adh a0.1 a1.1 else bif !a0.3==a1.3 then a1.3 else bif !a0.4.toList==a1.4.toList then Op.bytesLess a0.4.toList a1.4.toList else bif a0.2.1 !=a1.2.1 then decide (a0.2.1 <a1.2.1) else decide (a0.2.2 <a1.2.2)
def Ad6 (a0:TCell) (a1:TCell):A:=.v (.bool (IT a0 a1))
def Ad5 (_a0:TCell) (_a1:TCell):Objs:=[]
def Ap2 (_a0:TCell) (_a1:TCell):List Prop:=[]
set_option maxRecDepth 100000 in
theorem Be9 (a0:TCell) (a1:TCell):EU (AA B0o L0) 9 166 [Ak .cell a0,Ak .cell a1] 0 []=some (1,Ad6 a0 a1,0,Ad5 a0 a1,[]):=by kernel_rfl
set_option maxRecDepth 100000 in
theorem Bja (a0:TCell) (a1:TCell) (_hp:∀p∈Ap2 a0 a1,p):CallOk Try.prog 166 [Ak .cell a0,Ak .cell a1] 0 [] 1 (Ad6 a0 a1) 0 (Ad5 a0 a1):=by
 exact AH (Aw Blw AG) (Be9 a0 a1) Ab
def Ad7:List A→Nat→Objs→Option A8
 | [y0,y1],nx,o=>match AP .cell y0,AP .cell y1 with
  |some (a0,p0),some (a1,p1)=>some (1,(Ad6 a0 a1).pk (AF nx),nx+0,AE nx (Ad5 a0 a1)++o,p0++(p1++(Ap2 a0 a1)))
  |_,_=>none
 |_,_,_=>none
theorem A86:Fu Try.prog 166 Ad7:=fun args nx o k x nx' o' ps h=>by
 unfold Ad7 at h
 split at h<;>first|(cases h;done)|skip
 split at h<;>first|(cases h;done)|skip
 rename_i a0 p0 a1 p1 e0 e1
 cases h
 refine⟨fun hp=>?_,_,rfl⟩
 have q0:=fun p hm=>hp p (List.mem_append.2 (.inl hm))
 have r0:=fun p hm=>hp p (List.mem_append.2 (.inr hm))
 have q1:=fun p hm=>r0 p (List.mem_append.2 (.inl hm))
 have r1:=fun p hm=>r0 p (List.mem_append.2 (.inr hm))
 refine Ah (Ag (Bja a0 a1 r1) (Nat.le_refl _) (Ac (Af _ _) (Ac (Af _ _) Ao)) nx o) fun F N R vs hl=>?_
 obtain⟨v0,w0,rfl,h0,hl⟩:=hl.inv
 obtain⟨v1,w1,rfl,h1,hl⟩:=hl.inv
 exact HL.cons (Am e0 q0 h0) (HL.cons (Am e1 q1 h1) (hl))
noncomputable def B0p:=A5 166 Ad7 B0o
theorem Blx:Df Try.prog B0p:=Av A86 Blw
def Je (a0:TCell) (a1:TCell):TCell:=TCell.mk (TStamp.mk (bif IT a0 a1 then a1.1.1 else a0.1.1) (bif IT a0 a1 then a1.1.2 else a0.1.2)) (TVec.mk (bif IT a0 a1 then a1.2.1 else a0.2.1) (bif IT a0 a1 then a1.2.2 else a0.2.2)) (bif IT a0 a1 then a1.3 else a0.3) (bif IT a0 a1 then a1.4 else a0.4) (S4 a0.5 a1.5)
def Amn (a0:TCell) (a1:TCell):A:=.v (.agg ⟨[.int .i64 ((Je a0 a1).stamp.n),.int .i64 ((Je a0 a1).stamp.site),.int .i64 ((Je a0 a1).vec.a),.int .i64 ((Je a0 a1).vec.b),.bool ((Je a0 a1).gone),.string ((Je a0 a1).value),.int .i64 ((Je a0 a1).dead.a),.int .i64 ((Je a0 a1).dead.b)]⟩)
def A48 (_a0:TCell) (_a1:TCell):Objs:=[]
def Bje (_a0:TCell) (_a1:TCell):List Prop:=[]
set_option maxRecDepth 100000 in
theorem Bjd (a0:TCell) (a1:TCell):EU (AA B0p L0) 9 135 [Ak .cell a0,Ak .cell a1] 0 []=some (1,Amn a0 a1,0,A48 a0 a1,[]):=by kernel_rfl
set_option maxRecDepth 100000 in
theorem Bpa (a0:TCell) (a1:TCell) (_hp:∀p∈Bje a0 a1,p):CallOk Try.prog 135 [Ak .cell a0,Ak .cell a1] 0 [] 1 (Amn a0 a1) 0 (A48 a0 a1):=by
 exact AH (Aw Blx AG) (Bjd a0 a1) Ab
def Ay7 (a0:TCell) (a1:TCell):A:=.v (.agg ⟨[.int .i64 ((Kh a0 a1).stamp.n),.int .i64 ((Kh a0 a1).stamp.site),.int .i64 ((Kh a0 a1).vec.a),.int .i64 ((Kh a0 a1).vec.b),.bool ((Kh a0 a1).gone),.string ((Kh a0 a1).value),.int .i64 ((Kh a0 a1).dead.a),.int .i64 ((Kh a0 a1).dead.b)]⟩)
def Ay6 (_a0:TCell) (_a1:TCell):Objs:=[]
def Ap3 (_a0:TCell) (_a1:TCell):List Prop:=[]
theorem Bes (a b:TStamp):Adh a b=(decide (a.n <b.n)||a.n==b.n&&decide (a.site <b.site)):=by
 show(bif !(a.n==b.n) then decide (a.n <b.n) else decide (a.site <b.site))=_
 by_cases h:a.n=b.n
 ·rw[beq_iff_eq.2 h,decide_eq_false (p:=a.n <b.n) (by omega)]
  simp
 ·rw[beq_eq_false_iff_ne.2 h]
  simp
theorem Be8 (a b:TCell):IT a b=JF a b:=by
 unfold IT JF
 rw[Bes,tlb]
 rfl
theorem Bjc (a b:TCell):Je a b=Kh a b:=by
 unfold Je Kh HP
 rw[Be8]
 cases JF a b<;>rfl
theorem Bjb (a0:TCell) (a1:TCell) (_hp:∀p∈Ap3 a0 a1,p):CallOk Try.prog 135 [Ak .cell a0,Ak .cell a1] 0 [] 1 (Ay7 a0 a1) 0 (Ay6 a0 a1):=by
 have h:=Bpa a0 a1 (fun _ h=>by cases h)
 unfold Amn at h
 rw[Bjc] at h
 exact h
def Amo:List A→Nat→Objs→Option A8
 | [y0,y1],nx,o=>match AP .cell y0,AP .cell y1 with
  |some (a0,p0),some (a1,p1)=>some (1,(Ay7 a0 a1).pk (AF nx),nx+0,AE nx (Ay6 a0 a1)++o,p0++(p1++(Ap3 a0 a1)))
  |_,_=>none
 |_,_,_=>none
theorem Bfa:Fu Try.prog 135 Amo:=fun args nx o k x nx' o' ps h=>by
 unfold Amo at h
 split at h<;>first|(cases h;done)|skip
 split at h<;>first|(cases h;done)|skip
 rename_i a0 p0 a1 p1 e0 e1
 cases h
 refine⟨fun hp=>?_,_,rfl⟩
 have q0:=fun p hm=>hp p (List.mem_append.2 (.inl hm))
 have r0:=fun p hm=>hp p (List.mem_append.2 (.inr hm))
 have q1:=fun p hm=>r0 p (List.mem_append.2 (.inl hm))
 have r1:=fun p hm=>r0 p (List.mem_append.2 (.inr hm))
 refine Ah (Ag (Bjb a0 a1 r1) (Nat.le_refl _) (Ac (Af _ _) (Ac (Af _ _) Ao)) nx o) fun F N R vs hl=>?_
 obtain⟨v0,w0,rfl,h0,hl⟩:=hl.inv
 obtain⟨v1,w1,rfl,h1,hl⟩:=hl.inv
 exact HL.cons (Am e0 q0 h0) (HL.cons (Am e1 q1 h1) (hl))
noncomputable def B0q:=A5 135 Amo B0p
theorem Bly:Df Try.prog B0q:=Av Bfa Blx
def OU (a0:TCell) (a1:TCell):A:=.v (.bool (JF a0 a1))
def OT (_a0:TCell) (_a1:TCell):Objs:=[]
def US (_a0:TCell) (_a1:TCell):List Prop:=[]
set_option maxRecDepth 100000 in
theorem Ar3 (a0:TCell) (a1:TCell):EU (AA B0q L0) 9 137 [Ak .cell a0,Ak .cell a1] 0 []=some (1,OU a0 a1,0,OT a0 a1,[]):=by kernel_rfl
set_option maxRecDepth 100000 in
theorem Awk (a0:TCell) (a1:TCell) (_hp:∀p∈US a0 a1,p):CallOk Try.prog 137 [Ak .cell a0,Ak .cell a1] 0 [] 1 (OU a0 a1) 0 (OT a0 a1):=by
 exact AH (Aw Bly AG) (Ar3 a0 a1) Ab
def OV:List A→Nat→Objs→Option A8
 | [y0,y1],nx,o=>match AP .cell y0,AP .cell y1 with
  |some (a0,p0),some (a1,p1)=>some (1,(OU a0 a1).pk (AF nx),nx+0,AE nx (OT a0 a1)++o,p0++(p1++(US a0 a1)))
  |_,_=>none
 |_,_,_=>none
theorem Ak5:Fu Try.prog 137 OV:=fun args nx o k x nx' o' ps h=>by
 unfold OV at h
 split at h<;>first|(cases h;done)|skip
 split at h<;>first|(cases h;done)|skip
 rename_i a0 p0 a1 p1 e0 e1
 cases h
 refine⟨fun hp=>?_,_,rfl⟩
 have q0:=fun p hm=>hp p (List.mem_append.2 (.inl hm))
 have r0:=fun p hm=>hp p (List.mem_append.2 (.inr hm))
 have q1:=fun p hm=>r0 p (List.mem_append.2 (.inl hm))
 have r1:=fun p hm=>r0 p (List.mem_append.2 (.inr hm))
 refine Ah (Ag (Awk a0 a1 r1) (Nat.le_refl _) (Ac (Af _ _) (Ac (Af _ _) Ao)) nx o) fun F N R vs hl=>?_
 obtain⟨v0,w0,rfl,h0,hl⟩:=hl.inv
 obtain⟨v1,w1,rfl,h1,hl⟩:=hl.inv
 exact HL.cons (Am e0 q0 h0) (HL.cons (Am e1 q1 h1) (hl))
noncomputable def B0r:=A5 137 OV B0q
theorem Blz:Df Try.prog B0r:=Av Ak5 Bly
noncomputable def B0s:=A5 136 (inl (AA B0r L0) 4 136) B0r
theorem Bl0:Df Try.prog B0s:=Av (Acm (Aw Blz AG) 4 136) Blz
def BV (a0:TCell) (b0:TCell):Bool:=JF (TCell.mk (TStamp.mk (0:Int) (0:Int)) (TVec.mk (0:Int) (0:Int)) false (ByteArray.mk #[]) (TVec.mk (0:Int) (0:Int))) ([a0,b0].getD (0:Nat) (Ae TC.cell))
def HN (a0:TCell) (b0:TCell):Bool:=JF (TCell.mk (TStamp.mk (bif(BV a0 b0) then([a0,b0].getD (0:Nat) (Ae TC.cell)).1.1 else(0:Int)) (bif(BV a0 b0) then([a0,b0].getD (0:Nat) (Ae TC.cell)).1.2 else(0:Int))) (TVec.mk (bif(BV a0 b0) then([a0,b0].getD (0:Nat) (Ae TC.cell)).2.1 else(0:Int)) (bif(BV a0 b0) then([a0,b0].getD (0:Nat) (Ae TC.cell)).2.2 else(0:Int))) (bif(BV a0 b0) then([a0,b0].getD (0:Nat) (Ae TC.cell)).3 else false) (bif(BV a0 b0) then([a0,b0].getD (0:Nat) (Ae TC.cell)).4 else ByteArray.mk #[]) (TVec.mk (bif(BV a0 b0) then([a0,b0].getD (0:Nat) (Ae TC.cell)).5.1 else(0:Int)) (bif(BV a0 b0) then([a0,b0].getD (0:Nat) (Ae TC.cell)).5.2 else(0:Int)))) ([a0,b0].getD (1:Nat) (Ae TC.cell))
def GC (a0:TCell) (b0:TCell):TCell:=TCell.mk (TStamp.mk (bif(HN a0 b0) then([a0,b0].getD (1:Nat) (Ae TC.cell)).1.1 else bif(BV a0 b0) then([a0,b0].getD (0:Nat) (Ae TC.cell)).1.1 else(0:Int)) (bif(HN a0 b0) then([a0,b0].getD (1:Nat) (Ae TC.cell)).1.2 else bif(BV a0 b0) then([a0,b0].getD (0:Nat) (Ae TC.cell)).1.2 else(0:Int))) (TVec.mk (bif(HN a0 b0) then([a0,b0].getD (1:Nat) (Ae TC.cell)).2.1 else bif(BV a0 b0) then([a0,b0].getD (0:Nat) (Ae TC.cell)).2.1 else(0:Int)) (bif(HN a0 b0) then([a0,b0].getD (1:Nat) (Ae TC.cell)).2.2 else bif(BV a0 b0) then([a0,b0].getD (0:Nat) (Ae TC.cell)).2.2 else(0:Int))) (bif(HN a0 b0) then([a0,b0].getD (1:Nat) (Ae TC.cell)).3 else bif(BV a0 b0) then([a0,b0].getD (0:Nat) (Ae TC.cell)).3 else false) (bif(HN a0 b0) then([a0,b0].getD (1:Nat) (Ae TC.cell)).4 else bif(BV a0 b0) then([a0,b0].getD (0:Nat) (Ae TC.cell)).4 else ByteArray.mk #[]) (TVec.mk (max (max (0:Int) ((((List.replicate (2:Nat) (Ae TC.vec)).set (0:Nat) ([a0,b0].getD (0:Nat) (Ae TC.cell)).5).set (1:Nat) ([a0,b0].getD (1:Nat) (Ae TC.cell)).5).getD (0:Nat) (Ae TC.vec)).1) ((((List.replicate (2:Nat) (Ae TC.vec)).set (0:Nat) ([a0,b0].getD (0:Nat) (Ae TC.cell)).5).set (1:Nat) ([a0,b0].getD (1:Nat) (Ae TC.cell)).5).getD (1:Nat) (Ae TC.vec)).1) (max (max (0:Int) ((((List.replicate (2:Nat) (Ae TC.vec)).set (0:Nat) ([a0,b0].getD (0:Nat) (Ae TC.cell)).5).set (1:Nat) ([a0,b0].getD (1:Nat) (Ae TC.cell)).5).getD (0:Nat) (Ae TC.vec)).2) ((((List.replicate (2:Nat) (Ae TC.vec)).set (0:Nat) ([a0,b0].getD (0:Nat) (Ae TC.cell)).5).set (1:Nat) ([a0,b0].getD (1:Nat) (Ae TC.cell)).5).getD (1:Nat) (Ae TC.vec)).2))
def Ww (a0:TCell) (b0:TCell):A:=.v (.agg ⟨[.int .i64 ((GC a0 b0).stamp.n),.int .i64 ((GC a0 b0).stamp.site),.int .i64 ((GC a0 b0).vec.a),.int .i64 ((GC a0 b0).vec.b),.bool ((GC a0 b0).gone),.string ((GC a0 b0).value),.int .i64 ((GC a0 b0).dead.a),.int .i64 ((GC a0 b0).dead.b)]⟩)
def Aou (_a0:TCell) (_b0:TCell):Objs:=[]
def A7d (_a0:TCell) (_b0:TCell):List Prop:=[]
set_option maxRecDepth 100000 in
theorem A7c (a0:TCell) (b0:TCell):EU (AA B0s L0) 9 75 [.sl .cell [a0,b0]] 0 []=some (1,Ww a0 b0,0,Aou a0 b0,[((0:Int)≤(0:Int)∧(0:Int) <(↑(2:Nat):Int)),((0:Int)≤(1:Int)∧(1:Int) <(↑(2:Nat):Int)),((0:Int)≤(↑(2:Nat):Int)∧(↑(2:Nat):Int)≤(↑(2:Nat):Int)∧(↑(2:Nat):Int)≤(549755813888:Int)),((0:Int)≤(0:Int)∧(0:Int) <(↑(2:Nat):Int)),((0:Int)≤(0:Int)∧(0:Int) <(↑(2:Nat):Int)),((0:Nat) <(2:Nat)),((0:Int)≤(1:Int)∧(1:Int) <(↑(2:Nat):Int)),((0:Int)≤(1:Int)∧(1:Int) <(↑(2:Nat):Int)),((1:Nat) <(2:Nat)),((0:Int)≤(0:Int)∧(0:Int) <(↑(2:Nat):Int)),((0:Nat) <(2:Nat)),((0:Int)≤(0:Int)∧(0:Int) <(2:Int)),((0:Nat) <(2:Nat)),((0:Int)≤(0:Int)∧(0:Int) <(2:Int)),((0:Nat) <(2:Nat)),((0:Int)≤(0:Int)∧(0:Int) <(2:Int)),((0:Nat) <(2:Nat)),((0:Int)≤(1:Int)∧(1:Int) <(2:Int)),((1:Nat) <(2:Nat)),((0:Int)≤(1:Int)∧(1:Int) <(2:Int)),((1:Nat) <(2:Nat)),((0:Int)≤(1:Int)∧(1:Int) <(2:Int)),((1:Nat) <(2:Nat)),((0:Int)≤(1:Int)∧(1:Int) <(↑(2:Nat):Int)),((1:Nat) <(2:Nat)),((0:Int)≤(0:Int)∧(0:Int) <(2:Int)),((0:Nat) <(2:Nat)),((0:Int)≤(0:Int)∧(0:Int) <(2:Int)),((0:Nat) <(2:Nat)),((0:Int)≤(0:Int)∧(0:Int) <(2:Int)),((0:Nat) <(2:Nat)),((0:Int)≤(1:Int)∧(1:Int) <(2:Int)),((1:Nat) <(2:Nat)),((0:Int)≤(1:Int)∧(1:Int) <(2:Int)),((1:Nat) <(2:Nat)),((0:Int)≤(1:Int)∧(1:Int) <(2:Int)),((1:Nat) <(2:Nat))]):=by kernel_rfl
set_option maxRecDepth 100000 in
theorem Bdo (a0:TCell) (b0:TCell) (_hp:∀p∈A7d a0 b0,p):CallOk Try.prog 75 [.sl .cell [a0,b0]] 0 [] 1 (Ww a0 b0) 0 (Aou a0 b0):=by
 have n0:((0:Int)≤(0:Int)∧(0:Int) <(↑(2:Nat):Int)):=by first|rfl|decide+kernel
 have n1:((0:Int)≤(1:Int)∧(1:Int) <(↑(2:Nat):Int)):=by first|rfl|decide+kernel
 have n2:((0:Int)≤(↑(2:Nat):Int)∧(↑(2:Nat):Int)≤(↑(2:Nat):Int)∧(↑(2:Nat):Int)≤(549755813888:Int)):=by first|rfl|decide+kernel
 have n5:((0:Nat) <(2:Nat)):=by first|rfl|decide+kernel
 have n8:((1:Nat) <(2:Nat)):=by first|rfl|decide+kernel
 have n11:((0:Int)≤(0:Int)∧(0:Int) <(2:Int)):=by first|rfl|decide+kernel
 have n17:((0:Int)≤(1:Int)∧(1:Int) <(2:Int)):=by first|rfl|decide+kernel
 exact AH (Aw Bl0 AG) (A7c a0 b0) (Aa n0 (Aa n1 (Aa n2 (Aa n0 (Aa n0 (Aa n5 (Aa n1 (Aa n1 (Aa n8 (Aa n0 (Aa n5 (Aa n11 (Aa n5 (Aa n11 (Aa n5 (Aa n11 (Aa n5 (Aa n17 (Aa n8 (Aa n17 (Aa n8 (Aa n17 (Aa n8 (Aa n1 (Aa n8 (Aa n11 (Aa n5 (Aa n11 (Aa n5 (Aa n11 (Aa n5 (Aa n17 (Aa n8 (Aa n17 (Aa n8 (Aa n17 (Aa n8 Ab)))))))))))))))))))))))))))))))))))))
def Ag3 (a0:TCell) (a1:TCell):A:=.v (.agg ⟨[.int .i64 ((Lm a0 a1).stamp.n),.int .i64 ((Lm a0 a1).stamp.site),.int .i64 ((Lm a0 a1).vec.a),.int .i64 ((Lm a0 a1).vec.b),.bool ((Lm a0 a1).gone),.string ((Lm a0 a1).value),.int .i64 ((Lm a0 a1).dead.a),.int .i64 ((Lm a0 a1).dead.b)]⟩)
def Ag2 (_a0:TCell) (_a1:TCell):Objs:=[]
def ZX (_a0:TCell) (_a1:TCell):List Prop:=[]
theorem A7b (a b:TCell):GC a b=Lm a b:=by
 have h1:BV a b=JF zeroC a:=rfl
 have h0:HN a b=JF (HP zeroC a) b:=by
  unfold HN
  rw[h1]
  unfold HP
  cases JF zeroC a<;>rfl
 unfold GC
 rw[h0,h1]
 have hm:HP (HP zeroC a) b=bif JF (HP zeroC a) b then b else HP zeroC a:=rfl
 have hz:HP zeroC a=bif JF zeroC a then a else zeroC:=rfl
 unfold Lm
 rw[hm]
 cases JF (HP zeroC a) b with
 |true=>rfl
 |false=>
  rw[hz]
  cases JF zeroC a<;>rfl
theorem A7a (a0:TCell) (b0:TCell) (_hp:∀p∈ZX a0 b0,p):CallOk Try.prog 75 [.sl .cell [a0,b0]] 0 [] 1 (Ag3 a0 b0) 0 (Ag2 a0 b0):=by
 have h:=Bdo a0 b0 (fun _ h=>by cases h)
 unfold Ww at h
 rw[A7b] at h
 exact h
def Wx:List A→Nat→Objs→Option A8
 | [y0],nx,o=>match B0x .cell y0 with
  |some (a0,b0)=>some (1,(Ag3 a0 b0).pk (AF nx),nx+0,AE nx (Ag2 a0 b0)++o,ZX a0 b0)
  |_=>none
 |_,_,_=>none
theorem A1s:Fu Try.prog 75 Wx:=fun args nx o k x nx' o' ps h=>by
 unfold Wx at h
 split at h<;>first|(cases h;done)|skip
 split at h<;>first|(cases h;done)|skip
 rename_i a0 b0 e0
 cases h
 refine⟨fun hp=>?_,_,rfl⟩
 refine Ah (Ag (A7a a0 b0 hp) (Nat.le_refl _) (Ac rfl Ao) nx o) fun F N R vs hl=>?_
 obtain⟨v0,w0,rfl,h0,hl⟩:=hl.inv
 exact HL.cons (Bwj e0 h0) (hl)
noncomputable def B16:=A5 75 Wx B0s
theorem Bv7:Df Try.prog B16:=Av A1s Bl0
noncomputable def Cq:=B16
theorem B17:Df Try.prog Cq:=Bv7
end Go.Proofs.Yteebobbhhgmeiaa
namespace Go.Proofs.Yteebobbhhgmeiaa
open Go.RowKit
def wrE (l:List TGroup) (r:TRow) (g:Int) (c:TCell):Int:=bif Ap l r !=0 then Ap l r else bif decide (g <0)||decide (g≥(l.length:Int)) then 70 else bif !Bz (Ac6 l g.toNat) c then 80 else 0
def B3j (xs:List TCell) (g:Nat) (c:TCell):List TCell:=xs.set g (Lm (Gk xs g) c)
end Go.Proofs.Yteebobbhhgmeiaa
namespace Go.Proofs.Yteebobbhhgmeiaa
open Go.RowKit
noncomputable def B18:=A5 60 Qf Cq
theorem Bv8:Df Try.prog B18:=Av Z2 B17
noncomputable def B0t:=A5 61 WJ B18
theorem Bl1:Df Try.prog B0t:=Av A1v Bv8
def Gw (a0:List TGroup) (_a1:Int):Bool:=AY a0 !=(0:Int)
def Dl (a0:List TGroup) (a1:Int):Bool:=decide (a1 <(0:Int))||decide (a1≥(↑a0.length:Int))
def C1 (a0:List TGroup) (a1:Int):Int:=bif(Gw a0 a1) then(0:Int) else bif(Dl a0 a1) then(0:Int) else(a0.getD a1.toNat (Ae TC.group)).2
def JJ (a0:List TGroup) (a1:Int):Int:=bif(Gw a0 a1) then AY a0 else bif(Dl a0 a1) then(70:Int) else(0:Int)
def XJ (a0:List TGroup) (a1:Int):A:=.v (.tuple ⟨[.int .i64 (C1 a0 a1),.int .i64 (JJ a0 a1)]⟩)
def XI (_a0:List TGroup) (_a1:Int):Objs:=[]
def Aio (a0:List TGroup) (a1:Int):List Prop:=[((!(Gw a0 a1))=true→(!(Dl a0 a1))=true→(0:Int)≤a1∧a1 <(↑a0.length:Int))]
set_option maxRecDepth 100000 in
theorem A8q (a0:List TGroup) (a1:Int):EU (AA B0t L0) 9 134 [.sl .group a0,Ak .i64 a1] 0 []=some (1,XJ a0 a1,0,XI a0 a1,[((!(Gw a0 a1))=true→(!(Dl a0 a1))=true→(0:Int)≤a1∧a1 <(↑a0.length:Int))]):=by kernel_rfl
set_option maxRecDepth 100000 in
theorem Beo (a0:List TGroup) (a1:Int) (hp:∀p∈Aio a0 a1,p):CallOk Try.prog 134 [.sl .group a0,Ak .i64 a1] 0 [] 1 (XJ a0 a1) 0 (XI a0 a1):=by
 have n0:=N0 hp
 exact AH (Aw Bl1 AG) (A8q a0 a1) (Aa n0 Ab)
def XK:List A→Nat→Objs→Option A8
 | [y0,y1],nx,o=>match Kp .group y0,AP .i64 y1 with
  |some a0,some (a1,p1)=>some (1,(XJ a0 a1).pk (AF nx),nx+0,AE nx (XI a0 a1)++o,p1++(Aio a0 a1))
  |_,_=>none
 |_,_,_=>none
theorem A2m:Fu Try.prog 134 XK:=fun args nx o k x nx' o' ps h=>by
 unfold XK at h
 split at h<;>first|(cases h;done)|skip
 split at h<;>first|(cases h;done)|skip
 rename_i a0 a1 p1 e0 e1
 cases h
 refine⟨fun hp=>?_,_,rfl⟩
 have q1:=fun p hm=>hp p (List.mem_append.2 (.inl hm))
 have r1:=fun p hm=>hp p (List.mem_append.2 (.inr hm))
 refine Ah (Ag (Beo a0 a1 r1) (Nat.le_refl _) (Ac rfl (Ac (Af _ _) Ao)) nx o) fun F N R vs hl=>?_
 obtain⟨v0,w0,rfl,h0,hl⟩:=hl.inv
 obtain⟨v1,w1,rfl,h1,hl⟩:=hl.inv
 exact HL.cons (Cx e0 h0) (HL.cons (Am e1 q1 h1) (hl))
noncomputable def B0u:=A5 134 XK B0t
theorem Bl2:Df Try.prog B0u:=Av A2m Bl1
def H1 (a0:TRow):List TCell:=List.replicate (↑a0.2.length:Int).toNat (Ae TC.cell)
def Um (a0:TRow):List TCell:=List.take (0:Nat) (H1 a0)++(List.take (H1 a0).length a0.2++List.drop ((0:Nat)+(H1 a0).length.min a0.2.length) (H1 a0))
def Ajv (a0:TRow):A:=.agg [.v (.string a0.1),.sq 0]
def Un (a0:TRow):Objs:=[(0,some (.arr 55 8 (.ty .cell (Um a0))))]
def A3j (a0:TRow):List Prop:=[((0:Int)≤(↑a0.2.length:Int)∧(↑a0.2.length:Int)≤(↑a0.2.length:Int)∧(↑a0.2.length:Int)≤(549755813888:Int))]
set_option maxRecDepth 100000 in
theorem A3i (a0:TRow):EU (AA B0u L0) 9 133 [Ak .row a0] 0 []=some (1,Ajv a0,1,Un a0,[((0:Int)≤(↑a0.2.length:Int)∧(↑a0.2.length:Int)≤(↑a0.2.length:Int)∧(↑a0.2.length:Int)≤(549755813888:Int))]):=by kernel_rfl
set_option maxRecDepth 100000 in
theorem A92 (a0:TRow) (hp:∀p∈A3j a0,p):CallOk Try.prog 133 [Ak .row a0] 0 [] 1 (Ajv a0) 1 (Un a0):=by
 have n0:=N0 hp
 exact AH (Aw Bl2 AG) (A3i a0) (Aa n0 Ab)
def Abq (a0:TRow):A:=.agg [.v (.string a0.1),.sq 0]
def Abp (a0:TRow):Objs:=[(0,some (.arr 55 8 (.ty .cell a0.2)))]
def YB (a0:TRow):List Prop:=[Ai a0.2.length]
theorem A3h (a:TRow):Um a=a.2:=by
 have hk:(H1 a).length=a.2.length:=by
  unfold H1
  simp
 unfold Um
 rw[hk,List.take_length,List.take_zero,List.nil_append]
 have:List.drop (0+a.2.length.min a.2.length) (H1 a)=[]:=List.drop_eq_nil_of_le (by rw[hk];show a.2.length≤0+min a.2.length a.2.length;omega)
 rw[this,List.append_nil]
theorem A3g (a0:TRow) (hp:∀p∈YB a0,p):CallOk Try.prog 133 [Ak .row a0] 0 [] 1 (Abq a0) 1 (Abp a0):=by
 have hb:Ai a0.2.length:=hp _ (List.mem_cons_self ..)
 unfold Ai at hb
 have h:=A92 a0 (Aa (by omega) Ab)
 unfold Un at h
 rw[A3h] at h
 exact h
def Uo:List A→Nat→Objs→Option A8
 | [y0],nx,o=>match AP .row y0 with
  |some (a0,p0)=>some (1,(Abq a0).pk (AF nx),nx+1,AE nx (Abp a0)++o,p0++(YB a0))
  |_=>none
 |_,_,_=>none
theorem A0t:Fu Try.prog 133 Uo:=fun args nx o k x nx' o' ps h=>by
 unfold Uo at h
 split at h<;>first|(cases h;done)|skip
 split at h<;>first|(cases h;done)|skip
 rename_i a0 p0 e0
 cases h
 refine⟨fun hp=>?_,_,rfl⟩
 have q0:=fun p hm=>hp p (List.mem_append.2 (.inl hm))
 have r0:=fun p hm=>hp p (List.mem_append.2 (.inr hm))
 refine Ah (Ag (A3g a0 r0) (Nat.le_refl _) (Ac (Af _ _) Ao) nx o) fun F N R vs hl=>?_
 obtain⟨v0,w0,rfl,h0,hl⟩:=hl.inv
 exact HL.cons (Am e0 q0 h0) (hl)
noncomputable def Brq:=A5 133 Uo B0u
theorem A6b:Df Try.prog Brq:=Av A0t Bl2
abbrev Dc:Type:=(List TCell)×Int×Int×ByteArray×(List TCell)
def MR (x:Dc):St:=⟨60,9,[(11,.own 7 0),(39,.sl .cell x.1),(40,.v (.int .i64 x.2.1)),(41,.v (.int .i64 x.2.2.1))],[(7,some (.box 71 [.v (.string x.2.2.2.1),.sq 8])),(8,some (.arr 55 8 (.ty .cell x.2.2.2.2)))]⟩
def PG:St→Option Dc
 |⟨60,9,[(11,.own 7 0),(39,.sl .cell z0),(40,.v (.int .i64 z1)),(41,.v (.int .i64 z2))],[(7,some (.box 71 [.v (.string z3),.sq 8])),(8,some (.arr 55 8 (.ty .cell z4)))]⟩=>some (z0,z1,z2,z3,z4)
 |_=>none
theorem Ant:∀s x,PG s=some x→s=MR x:=fun s x h=>by
 unfold PG at h
 split at h
 ·cases h;rfl
 ·cases h
def Abj:De:=⟨8,9,[11,39,40,41],[],[(7,7),(8,8)],[7,8],[],[7,8]⟩
def A3b:Dy:=⟨[],[(7,7),(6,8)],[11,39,40,41],[7,6]⟩
def NB (a0:List TCell) (_a1:Int) (a2:Int) (_a3:ByteArray) (a4:List TCell):List TCell:=a4.set a2.toNat (Lm (a4.getD a2.toNat (Ae TC.cell)) (a0.getD a2.toNat (Ae TC.cell)))
def Fo (x:Dc):Dc:=(x.1,x.2.1,IntKind.i64.wrap (x.2.2.1+(1:Int)),x.2.2.2.1,NB x.1 x.2.1 x.2.2.1 x.2.2.2.1 x.2.2.2.2)
def Fm (x:Dc):Cnd:=some (!!decide (x.2.2.1 <x.2.1))
def VD (x:Dc):List Prop:=[((!!decide (x.2.2.1 <x.2.1))=true→(0:Int)≤x.2.2.1∧x.2.2.1 <(↑x.1.length:Int)),((!!decide (x.2.2.1 <x.2.1))=true→(0:Int)≤x.2.2.1∧x.2.2.1 <(↑x.2.2.2.2.length:Int)),((!!decide (x.2.2.1 <x.2.1))=true→x.2.2.1.toNat <x.2.2.2.2.length),((!!decide (x.2.2.1 <x.2.1))=true→(0:Int)≤x.2.2.1∧x.2.2.1 <(↑x.2.2.2.2.length:Int)),((!!decide (x.2.2.1 <x.2.1))=true→x.2.2.1.toNat <x.2.2.2.2.length)]
def Iy (x:Dc):List Prop:=[((!!decide (x.2.2.1 <x.2.1))=true→(0:Int)≤x.2.2.1∧x.2.2.1 <(↑x.1.length:Int)),((!!decide (x.2.2.1 <x.2.1))=true→(0:Int)≤x.2.2.1∧x.2.2.1 <(↑x.2.2.2.2.length:Int))]
def To (x:Dc):Bl:=[(some 2,some (!decide (x.2.2.1 <x.2.1)),⟨60,9,[],[(7,some (.box 71 [.v (.string x.2.2.2.1),.sq 8])),(8,some (.arr 55 8 (.ty .cell x.2.2.2.2)))]⟩)]
def G6 (x:Dc):Nat:=(x.2.1 - x.2.2.1).toNat
def NC (x:Dc):Dc:=A9 Fo Fm (G6 x) x
set_option maxRecDepth 100000 in
theorem A0l (a0:List TCell) (a1:Int) (a2:Int) (a3:ByteArray) (a4:List TCell):Bx (AA Brq L0) 9 (Aj Try.prog 71 2) Abj (MR (a0,a1,a2,a3,a4))=some (VD (a0,a1,a2,a3,a4),To (a0,a1,a2,a3,a4),Fm (a0,a1,a2,a3,a4),MR (Fo (a0,a1,a2,a3,a4))):=by kernel_rfl
set_option maxRecDepth 100000 in
theorem A0m (a0:List TCell) (a1:Int) (a2:Int) (a3:ByteArray) (a4:List TCell) (hp:∀p∈Iy (a0,a1,a2,a3,a4),p):∀p∈VD (a0,a1,a2,a3,a4),p:=by
 have n0:=N0 hp
 have n1:((!!decide (a2 <a1))=true→(0:Int)≤a2∧a2 <(↑a4.length:Int)):=N0 (N1 hp)
 have n2:((!!decide (a2 <a1))=true→a2.toNat <a4.length):=by intro h0;have g:=n1 h0;omega
 exact(Aa n0 (Aa n1 (Aa n2 (Aa n1 (Aa n2 Ab)))))
noncomputable def VE:=HU (AA Brq L0) (Aj Try.prog 71 2) Abj A3b PG G6 Fo Fm Iy To
theorem At7:∀s b ps outs,VE s=some (b,ps,outs)→Wf s ⟨ps,outs,none⟩∧Bs (AA C0 L0) b s ps outs:=
 Bi (T:=MR) A6b AG (u:=9) (by kernel_rfl) (by decide) (fun⟨a0,a1,a2,a3,a4⟩=>A0l a0 a1 a2 a3 a4) (fun⟨a0,a1,a2,a3,a4⟩=>A0m a0 a1 a2 a3 a4) Ant (fun _=>AR (n:=60) rfl) fun _ _=>rfl
noncomputable def Abi:=DG 2 VE L0
theorem At6:Hs Abi:=A3 At7 AG
def FE (_a0:List TGroup) (a1:TRow) (a2:TRow):Bool:=!a1.1.toList==a2.1.toList
def II (a0:List TGroup) (a1:TRow) (_a2:TRow):Bool:=Ap a0 a1 !=(0:Int)
def FD (a0:List TGroup) (a1:TRow) (a2:TRow):Bool:=(II a0 a1 a2)||Ap a0 a2 !=(0:Int)
def Ae8 (a0:List TGroup) (a1:TRow) (a2:TRow):ByteArray:=bif(FD a0 a1 a2) then bif(II a0 a1 a2) then ByteArray.mk #[] else ByteArray.mk #[] else bif(FE a0 a1 a2) then ByteArray.mk #[] else(NC (a2.2,(↑a2.2.length:Int),(0:Int),a1.1,a1.2)).snd.snd.snd.fst
def Ae9 (a0:List TGroup) (a1:TRow) (a2:TRow):Int:=bif(FD a0 a1 a2) then bif(II a0 a1 a2) then Ap a0 a1 else Ap a0 a2 else bif(FE a0 a1 a2) then(100:Int) else(0:Int)
def Afa (a0:List TGroup) (a1:TRow) (a2:TRow):List TCell:=bif(FD a0 a1 a2) then[] else bif(FE a0 a1 a2) then[] else(NC (a2.2,(↑a2.2.length:Int),(0:Int),a1.1,a1.2)).snd.snd.snd.snd
def Afc (a0:List TGroup) (a1:TRow) (a2:TRow):A:=.tup [.agg [.v (.string (Ae8 a0 a1 a2)),.sq 0],.v (.int .i64 (Ae9 a0 a1 a2))]
def Afb (a0:List TGroup) (a1:TRow) (a2:TRow):Objs:=[(0,some (.arr 55 8 (.ty .cell (Afa a0 a1 a2))))]
def Bf8 (a0:List TGroup) (a1:TRow) (a2:TRow):List Prop:=[((!(FD a0 a1 a2))=true→(!(FE a0 a1 a2))=true→Ai a1.2.length),((!(FD a0 a1 a2))=true→(!(FE a0 a1 a2))=true→AL Fo Fm Iy (G6 (a2.2,(↑a2.2.length:Int),(0:Int),a1.1,a1.2)) (a2.2,(↑a2.2.length:Int),(0:Int),a1.1,a1.2))]
set_option maxRecDepth 100000 in
theorem Bf7 (a0:List TGroup) (a1:TRow) (a2:TRow):EU (AA Brq Abi) 9 71 [.sl .group a0,Ak .row a1,Ak .row a2] 0 []=some (1,Afc a0 a1 a2,1,Afb a0 a1 a2,[((0:Int)≤(0:Int)∧(0:Int) <(↑(2:Nat):Int)),((0:Nat) <(2:Nat)),((!(II a0 a1 a2))=true→(0:Int)≤(1:Int)∧(1:Int) <(↑(2:Nat):Int)),((!(II a0 a1 a2))=true→(1:Nat) <(2:Nat)),((!(FD a0 a1 a2))=true→(!(FE a0 a1 a2))=true→Ai a1.2.length),((!(FD a0 a1 a2))=true→(!(FE a0 a1 a2))=true→Aj Try.prog (71:FuncId) (2:Nat)=Aj Try.prog (71:FuncId) (2:Nat)),((!(FD a0 a1 a2))=true→(!(FE a0 a1 a2))=true→AL Fo Fm Iy (G6 (a2.2,(↑a2.2.length:Int),(0:Int),a1.1,a1.2)) (a2.2,(↑a2.2.length:Int),(0:Int),a1.1,a1.2))]):=by kernel_rfl
set_option maxRecDepth 100000 in
theorem Bj4 (a0:List TGroup) (a1:TRow) (a2:TRow) (hp:∀p∈Bf8 a0 a1 a2,p):CallOk Try.prog 71 [.sl .group a0,Ak .row a1,Ak .row a2] 0 [] 1 (Afc a0 a1 a2) 1 (Afb a0 a1 a2):=by
 have n0:((0:Int)≤(0:Int)∧(0:Int) <(↑(2:Nat):Int)):=by first|rfl|decide+kernel
 have n1:((0:Nat) <(2:Nat)):=by first|rfl|decide+kernel
 have n2:((!(II a0 a1 a2))=true→(0:Int)≤(1:Int)∧(1:Int) <(↑(2:Nat):Int)):=by omega
 have n3:((!(II a0 a1 a2))=true→(1:Nat) <(2:Nat)):=by omega
 have n4:=N0 hp
 have n5:((!(FD a0 a1 a2))=true→(!(FE a0 a1 a2))=true→Aj Try.prog (71:FuncId) (2:Nat)=Aj Try.prog (71:FuncId) (2:Nat)):=by intros;rfl
 have n6:=N0 (N1 hp)
 exact AH (Aw A6b At6) (Bf7 a0 a1 a2) (Aa n0 (Aa n1 (Aa n2 (Aa n3 (Aa n4 (Aa n5 (Aa n6 Ab)))))))
def jnK (l:List TGroup) (a b:TRow):ByteArray:=bif jnE l a b==0 then a.key else⟨#[]⟩
def jnL (l:List TGroup) (a b:TRow):List TCell:=bif jnE l a b==0 then jnN a.cells b.cells b.cells.length else[]
def Aq9 (a0:List TGroup) (a1:TRow) (a2:TRow):A:=.tup [.agg [.v (.string (jnK a0 a1 a2)),.sq 0],.v (.int .i64 (jnE a0 a1 a2))]
def Aq8 (a0:List TGroup) (a1:TRow) (a2:TRow):Objs:=[(0,some (.arr 55 8 (.ty .cell (jnL a0 a1 a2))))]
def Ajm (_a0:List TGroup) (_a1:TRow) (_a2:TRow):List Prop:=[]
theorem A3c (key:ByteArray) (us ws:List TCell) (hl:us.length=ws.length) (h4:ws.length≤4):
  AL Fo Fm Iy (G6 (ws,(ws.length:Int),0,key,us)) (ws,(ws.length:Int),0,key,us)∧
  NC (ws,(ws.length:Int),0,key,us)=(ws,(ws.length:Int),(ws.length:Int),key,jnN us ws ws.length):=by
 obtain⟨h1,k,hk,hx,_,hst,_⟩:=I6 (fun i=>(ws,(ws.length:Int),(i:Int),key,jnN us ws i):Nat→Dc) ws.length (fun _=>false) Fo Fm Iy (G6 (ws,(ws.length:Int),0,key,us)) (ws,(ws.length:Int),0,key,us) rfl (by show ws.length≤((ws.length:Int) - 0).toNat;omega)
  (fun i _ _=>by
   show(!!decide ((i:Int) <(ws.length:Int)))=_
   rw[nn,MA,Bool.not_false,Bool.and_true])
  (fun i hi _=>by
   show(ws,(ws.length:Int),IntKind.i64.wrap ((i:Int)+1),key,NB ws (ws.length:Int) (i:Int) key (jnN us ws i))=(ws,(ws.length:Int),((i+1:Nat):Int),key,jnN us ws (i+1))
   unfold NB
   rw[ES (by omega),Int.toNat_natCast]
   rfl)
  (fun i hi _=>by
   have hin:(!!decide ((i:Int) <(ws.length:Int)))=true→i <ws.length:=fun h=>by rw[nn] at h;have:=of_decide_eq_true h;omega
   have hlen:=Ag1 us ws i
   exact Aa (fun h=>⟨by show(0:Int)≤(i:Int);omega,by have:=hin h;show(i:Int) <(ws.length:Int);omega⟩) (Aa (fun h=>⟨by show(0:Int)≤(i:Int);omega,by have:=hin h;show(i:Int) <((jnN us ws i).length:Int);omega⟩) Ab))
 have hkn:k=ws.length:=by
  rcases Nat.lt_or_ge k ws.length with h|h
  ·exact absurd (hst h) (by decide)
  ·omega
 subst hkn
 exact⟨h1,hx⟩
theorem Bf6 (a0:List TGroup) (a1:TRow) (a2:TRow) (_hp:∀p∈Ajm a0 a1 a2,p):CallOk Try.prog 71 [.sl .group a0,Ak .row a1,Ak .row a2] 0 [] 1 (Aq9 a0 a1 a2) 1 (Aq8 a0 a1 a2):=by
 have hgood:(!(FD a0 a1 a2))=true→Ap a0 a1=0∧Ap a0 a2=0:=fun h=>by
  have h':(!((Ap a0 a1 !=0)||(Ap a0 a2 !=0)))=true:=h
  rw[Bool.not_or,Bool.and_eq_true] at h'
  exact⟨by simpa using h'.1,by simpa using h'.2⟩
 have hloop:Ap a0 a1=0→Ap a0 a2=0→_:=fun g1 g2=>A3c a1.1 a1.2 a2.2 (((AV g1).2.1).trans ((AV g2).2.1).symm) (by have:=(Hr (AV g2).1).2;have:=(AV g2).2.1;show a2.cells.length≤4;omega)
 have h:=Bj4 a0 a1 a2 (Aa (fun h _=>by
   obtain⟨g1,_⟩:=hgood h
   have:=(Hr (AV g1).1).2
   have:=(AV g1).2.1
   show Ai a1.cells.length
   unfold Ai
   omega) (Aa (fun h _=>(hloop (hgood h).1 (hgood h).2).1) Ab))
 have e:Ae8 a0 a1 a2=jnK a0 a1 a2∧Ae9 a0 a1 a2=jnE a0 a1 a2∧Afa a0 a1 a2=jnL a0 a1 a2:=by
  have k0:FD a0 a1 a2=((Ap a0 a1 !=0)||(Ap a0 a2 !=0)):=rfl
  have k1:II a0 a1 a2=(Ap a0 a1 !=0):=rfl
  have k2:FE a0 a1 a2=!(a1.key==a2.key):=by
   unfold FE
   rw[tlb]
  unfold Ae8 Ae9 Afa jnK jnL jnE
  rw[k0,k1,k2]
  cases g1:Ap a0 a1 !=0 with
  |true=>
   have:(Ap a0 a1==0)=false:=by simpa using g1
   rw[Bool.true_or,cond_true,cond_true,cond_true,cond_true,cond_true,this]
   refine⟨?_,?_,?_⟩<;>first|rfl|trivial
  | false=>
   cases g2:Ap a0 a2 !=0 with
   |true=>
    have:(Ap a0 a2==0)=false:=by simpa using g2
    rw[Bool.false_or]
    simp only[cond_true,cond_false,this]
    refine⟨?_,?_,?_⟩<;>first|rfl|trivial
   | false=>
    rw[Bool.false_or]
    simp only[cond_false]
    cases hk:a1.key==a2.key with
    |false=>refine⟨?_,?_,?_⟩<;>first|rfl|trivial
    |true=>
     rw[(hloop (by simpa using g1) (by simpa using g2)).2]
     refine⟨?_,?_,?_⟩<;>first|rfl|trivial
 unfold Afc Afb at h
 rw[e.1,e.2.1,e.2.2] at h
 exact h
def Afd:List A→Nat→Objs→Option A8
 | [y0,y1,y2],nx,o=>match Kp .group y0,AP .row y1,AP .row y2 with
  |some a0,some (a1,p1),some (a2,p2)=>some (1,(Aq9 a0 a1 a2).pk (AF nx),nx+1,AE nx (Aq8 a0 a1 a2)++o,p1++(p2++(Ajm a0 a1 a2)))
  |_,_,_=>none
 |_,_,_=>none
theorem A9v:Fu Try.prog 71 Afd:=fun args nx o k x nx' o' ps h=>by
 unfold Afd at h
 split at h<;>first|(cases h;done)|skip
 split at h<;>first|(cases h;done)|skip
 rename_i a0 a1 p1 a2 p2 e0 e1 e2
 cases h
 refine⟨fun hp=>?_,_,rfl⟩
 have q1:=fun p hm=>hp p (List.mem_append.2 (.inl hm))
 have r1:=fun p hm=>hp p (List.mem_append.2 (.inr hm))
 have q2:=fun p hm=>r1 p (List.mem_append.2 (.inl hm))
 have r2:=fun p hm=>r1 p (List.mem_append.2 (.inr hm))
 refine Ah (Ag (Bf6 a0 a1 a2 r2) (Nat.le_refl _) (Ac rfl (Ac (Af _ _) (Ac (Af _ _) Ao))) nx o) fun F N R vs hl=>?_
 obtain⟨v0,w0,rfl,h0,hl⟩:=hl.inv
 obtain⟨v1,w1,rfl,h1,hl⟩:=hl.inv
 obtain⟨v2,w2,rfl,h2,hl⟩:=hl.inv
 exact HL.cons (Cx e0 h0) (HL.cons (Am e1 q1 h1) (HL.cons (Am e2 q2 h2) (hl)))
noncomputable def B0v:=A5 71 Afd Brq
theorem Bl3:Df Try.prog B0v:=Av A9v A6b
def CR (a0:List TGroup) (_a1:TRow) (a2:Int) (_a3:TCell):Bool:=JJ a0 a2 !=(0:Int)
def BM (a0:List TGroup) (a1:TRow) (_a2:Int) (_a3:TCell):Bool:=Ap a0 a1 !=(0:Int)
def Yv (a0:List TGroup) (a1:TRow) (a2:Int) (a3:TCell):ByteArray:=bif(BM a0 a1 a2 a3) then ByteArray.mk #[] else bif(CR a0 a1 a2 a3) then ByteArray.mk #[] else bif !AT (C1 a0 a2) a3 then ByteArray.mk #[] else a1.1
def Yw (a0:List TGroup) (a1:TRow) (a2:Int) (a3:TCell):Int:=bif(BM a0 a1 a2 a3) then Ap a0 a1 else bif(CR a0 a1 a2 a3) then JJ a0 a2 else bif !AT (C1 a0 a2) a3 then(80:Int) else(0:Int)
def Yx (a0:List TGroup) (a1:TRow) (a2:Int) (a3:TCell):List TCell:=bif(BM a0 a1 a2 a3) then[] else bif(CR a0 a1 a2 a3) then[] else bif !AT (C1 a0 a2) a3 then[] else a1.2.set a2.toNat (Lm (a1.2.getD a2.toNat (Ae TC.cell)) a3)
def Yz (a0:List TGroup) (a1:TRow) (a2:Int) (a3:TCell):A:=.tup [.agg [.v (.string (Yv a0 a1 a2 a3)),.sq 0],.v (.int .i64 (Yw a0 a1 a2 a3))]
def Yy (a0:List TGroup) (a1:TRow) (a2:Int) (a3:TCell):Objs:=[(0,some (.arr 55 8 (.ty .cell (Yx a0 a1 a2 a3))))]
def A91 (a0:List TGroup) (a1:TRow) (a2:Int) (a3:TCell):List Prop:=[((!(BM a0 a1 a2 a3))=true→(!Gw a0 a2)=true→(!Dl a0 a2)=true→(0:Int)≤a2∧a2 <(↑a0.length:Int)),((!(BM a0 a1 a2 a3))=true→(!(CR a0 a1 a2 a3))=true→(!!AT (C1 a0 a2) a3)=true→Ai a1.2.length),((!(BM a0 a1 a2 a3))=true→(!(CR a0 a1 a2 a3))=true→(!!AT (C1 a0 a2) a3)=true→(0:Int)≤a2∧a2 <(↑a1.2.length:Int))]
set_option maxRecDepth 100000 in
theorem A90 (a0:List TGroup) (a1:TRow) (a2:Int) (a3:TCell):EU (AA B0v L0) 9 72 [.sl .group a0,Ak .row a1,Ak .i64 a2,Ak .cell a3] 0 []=some (1,Yz a0 a1 a2 a3,1,Yy a0 a1 a2 a3,[((!(BM a0 a1 a2 a3))=true→(!Gw a0 a2)=true→(!Dl a0 a2)=true→(0:Int)≤a2∧a2 <(↑a0.length:Int)),((!(BM a0 a1 a2 a3))=true→(!(CR a0 a1 a2 a3))=true→(!!AT (C1 a0 a2) a3)=true→Ai a1.2.length),((!(BM a0 a1 a2 a3))=true→(!(CR a0 a1 a2 a3))=true→(!!AT (C1 a0 a2) a3)=true→(0:Int)≤a2∧a2 <(↑a1.2.length:Int)),((!(BM a0 a1 a2 a3))=true→(!(CR a0 a1 a2 a3))=true→(!!AT (C1 a0 a2) a3)=true→a2.toNat <a1.2.length),((!(BM a0 a1 a2 a3))=true→(!(CR a0 a1 a2 a3))=true→(!!AT (C1 a0 a2) a3)=true→(0:Int)≤a2∧a2 <(↑a1.2.length:Int)),((!(BM a0 a1 a2 a3))=true→(!(CR a0 a1 a2 a3))=true→(!!AT (C1 a0 a2) a3)=true→a2.toNat <a1.2.length)]):=by kernel_rfl
set_option maxRecDepth 100000 in
theorem Bgf (a0:List TGroup) (a1:TRow) (a2:Int) (a3:TCell) (hp:∀p∈A91 a0 a1 a2 a3,p):CallOk Try.prog 72 [.sl .group a0,Ak .row a1,Ak .i64 a2,Ak .cell a3] 0 [] 1 (Yz a0 a1 a2 a3) 1 (Yy a0 a1 a2 a3):=by
 have n0:=N0 hp
 have n1:=N0 (N1 hp)
 have n2:((!(BM a0 a1 a2 a3))=true→(!(CR a0 a1 a2 a3))=true→(!!AT (C1 a0 a2) a3)=true→(0:Int)≤a2∧a2 <(↑a1.2.length:Int)):=N0 (N1 (N1 hp))
 have n3:((!(BM a0 a1 a2 a3))=true→(!(CR a0 a1 a2 a3))=true→(!!AT (C1 a0 a2) a3)=true→a2.toNat <a1.2.length):=by intro h0 h1 h2;have g:=n2 h0 h1 h2;omega
 exact AH (Aw Bl3 AG) (A90 a0 a1 a2 a3) (Aa n0 (Aa n1 (Aa n2 (Aa n3 (Aa n2 (Aa n3 Ab))))))
def wrK (l:List TGroup) (r:TRow) (g:Int) (c:TCell):ByteArray:=bif wrE l r g c==0 then r.key else⟨#[]⟩
def wrL (l:List TGroup) (r:TRow) (g:Int) (c:TCell):List TCell:=bif wrE l r g c==0 then B3j r.cells g.toNat c else[]
def Aju (a0:List TGroup) (a1:TRow) (a2:Int) (a3:TCell):A:=.tup [.agg [.v (.string (wrK a0 a1 a2 a3)),.sq 0],.v (.int .i64 (wrE a0 a1 a2 a3))]
def Ajt (a0:List TGroup) (a1:TRow) (a2:Int) (a3:TCell):Objs:=[(0,some (.arr 55 8 (.ty .cell (wrL a0 a1 a2 a3))))]
def Abo (_a0:List TGroup) (_a1:TRow) (_a2:Int) (_a3:TCell):List Prop:=[]
theorem A9z (a0:List TGroup) (a1:TRow) (a2:Int) (a3:TCell) (_hp:∀p∈Abo a0 a1 a2 a3,p):CallOk Try.prog 72 [.sl .group a0,Ak .row a1,Ak .i64 a2,Ak .cell a3] 0 [] 1 (Aju a0 a1 a2 a3) 1 (Ajt a0 a1 a2 a3):=by
 have hgood:(!(BM a0 a1 a2 a3))=true→Ap a0 a1=0:=fun h=>by
  have h':(!(Ap a0 a1 !=0))=true:=h
  simpa using h'
 have h4:Ap a0 a1=0→a1.cells.length=a0.length∧a0.length≤4:=fun g=>⟨(AV g).2.1,(Hr (AV g).1).2⟩
 have hin:(!Dl a0 a2)=true→0≤a2∧a2 <(a0.length:Int):=fun h=>by
  have h':(!(decide (a2 <0)||decide (a2≥(a0.length:Int))))=true:=h
  rw[Bool.not_or,Bool.and_eq_true,Bool.not_eq_true',Bool.not_eq_true'] at h'
  have:=of_decide_eq_false h'.1
  have:=of_decide_eq_false h'.2
  omega
 have k1:Ap a0 a1=0→CR a0 a1 a2 a3=Dl a0 a2:=fun g=>by
  have hp:(AY a0 !=0)=false:=by rw[(AV g).1];rfl
  have e1:JJ a0 a2=bif Dl a0 a2 then 70 else 0:=by
   unfold JJ Gw
   rw[hp]
   rfl
  unfold CR
  rw[e1]
  cases Dl a0 a2<;>rfl
 have h:=Bgf a0 a1 a2 a3 (Aa (fun _ _ g=>hin g) (Aa (fun g _ _=>by
   obtain⟨q1,q2⟩:=h4 (hgood g)
   show Ai a1.cells.length
   unfold Ai
   omega) (Aa (fun g g1 _=>by
   obtain⟨q1,q2⟩:=h4 (hgood g)
   rw[k1 (hgood g)] at g1
   have:=hin g1
   show(0:Int)≤a2∧a2 <(a1.cells.length:Int)
   omega) Ab)))
 have e:Yv a0 a1 a2 a3=wrK a0 a1 a2 a3∧Yw a0 a1 a2 a3=wrE a0 a1 a2 a3∧Yx a0 a1 a2 a3=wrL a0 a1 a2 a3:=by
  have k0:BM a0 a1 a2 a3=(Ap a0 a1 !=0):=rfl
  unfold Yv Yw Yx wrK wrL wrE
  rw[k0]
  cases g1:Ap a0 a1 !=0 with
  |true=>
   have:(Ap a0 a1==0)=false:=by simpa using g1
   simp only[cond_true,this]
   refine⟨?_,?_,?_⟩<;>first|rfl|trivial
  | false=>
   have g0:Ap a0 a1=0:=by simpa using g1
   have hp:(AY a0 !=0)=false:=by rw[(AV g0).1];rfl
   have e1:JJ a0 a2=bif Dl a0 a2 then 70 else 0:=by
    unfold JJ Gw
    rw[hp]
    rfl
   have kk:Dl a0 a2=(decide (a2 <0)||decide (a2≥(a0.length:Int))):=rfl
   rw[k1 g0,e1,←kk]
   cases g2:Dl a0 a2 with
   |true=>refine⟨?_,?_,?_⟩<;>first|rfl|trivial
   | false=>
    have e0:C1 a0 a2=Ac6 a0 a2.toNat:=by
     unfold C1 Gw
     rw[hp,g2]
     rfl
    rw[e0,IL]
    cases Bz (Ac6 a0 a2.toNat) a3<;>refine⟨?_,?_,?_⟩<;>first|rfl|trivial
 unfold Yz Yy at h
 rw[e.1,e.2.1,e.2.2] at h
 exact h
def YA:List A→Nat→Objs→Option A8
 | [y0,y1,y2,y3],nx,o=>match Kp .group y0,AP .row y1,AP .i64 y2,AP .cell y3 with
  |some a0,some (a1,p1),some (a2,p2),some (a3,p3)=>some (1,(Aju a0 a1 a2 a3).pk (AF nx),nx+1,AE nx (Ajt a0 a1 a2 a3)++o,p1++(p2++(p3++(Abo a0 a1 a2 a3))))
  |_,_,_,_=>none
 |_,_,_=>none
theorem A3f:Fu Try.prog 72 YA:=fun args nx o k x nx' o' ps h=>by
 unfold YA at h
 split at h<;>first|(cases h;done)|skip
 split at h<;>first|(cases h;done)|skip
 rename_i a0 a1 p1 a2 p2 a3 p3 e0 e1 e2 e3
 cases h
 refine⟨fun hp=>?_,_,rfl⟩
 have q1:=fun p hm=>hp p (List.mem_append.2 (.inl hm))
 have r1:=fun p hm=>hp p (List.mem_append.2 (.inr hm))
 have q2:=fun p hm=>r1 p (List.mem_append.2 (.inl hm))
 have r2:=fun p hm=>r1 p (List.mem_append.2 (.inr hm))
 have q3:=fun p hm=>r2 p (List.mem_append.2 (.inl hm))
 have r3:=fun p hm=>r2 p (List.mem_append.2 (.inr hm))
 refine Ah (Ag (A9z a0 a1 a2 a3 r3) (Nat.le_refl _) (Ac rfl (Ac (Af _ _) (Ac (Af _ _) (Ac (Af _ _) Ao)))) nx o) fun F N R vs hl=>?_
 obtain⟨v0,w0,rfl,h0,hl⟩:=hl.inv
 obtain⟨v1,w1,rfl,h1,hl⟩:=hl.inv
 obtain⟨v2,w2,rfl,h2,hl⟩:=hl.inv
 obtain⟨v3,w3,rfl,h3,hl⟩:=hl.inv
 exact HL.cons (Cx e0 h0) (HL.cons (Am e1 q1 h1) (HL.cons (Am e2 q2 h2) (HL.cons (Am e3 q3 h3) (hl))))
noncomputable def B19:=A5 72 YA B0v
theorem Bv9:Df Try.prog B19:=Av A3f Bl3
noncomputable def Cs:=B19
theorem Bzc:Df Try.prog Cs:=Bv9
end Go.Proofs.Yteebobbhhgmeiaa
namespace Go.Proofs.Yteebobbhhgmeiaa
open Go.RowKit
structure Stt (l:List TGroup) (rows:List TRow):Prop where
 rise:On rows
 good:∀r∈rows,Ap l r=0∧FG r=false
theorem Bye {l:List TGroup} {rows:List TRow} (hp:AY l=0):Gq l rows=0↔Stt l rows:=by
 constructor
 ·intro h
  have h2:=(Aun.1 h).2
  refine⟨Bx4 h2,fun r hr=>?_⟩
  obtain⟨i,hi,rfl⟩:=List.getElem_of_mem hr
  have:=Bhz.1 (h2 i hi)
  rw[Tm hi] at this
  exact⟨this.1,this.2.1⟩
 ·exact fun h=>A66 hp h.good h.rise
theorem Auw (l:List TGroup):Stt l []:=⟨List.Pairwise.nil,fun r hr=>by cases hr⟩
theorem Stt.tail {l:List TGroup} {x:TRow} {a:List TRow} (h:Stt l (x::a)):Stt l a:=⟨(List.pairwise_cons.1 h.rise).2,fun r hr=>h.good r (List.mem_cons_of_mem _ hr)⟩
def Tw (rows:List TRow) (k:ByteArray):Option TRow:=rows.find? fun r=>r.key==k
theorem CT (x:TRow) (a:List TRow) (k:ByteArray):Tw (x::a) k=if x.key=k then some x else Tw a k:=by
 unfold Tw
 rw[List.find?_cons]
 by_cases h:x.key=k
 ·rw[if_pos h,beq_iff_eq.2 h]
 ·rw[if_neg h,beq_eq_false_iff_ne.2 h]
theorem Bme {a:List TRow} {k:ByteArray} {r:TRow} (h:Tw a k=some r):r.key=k:=by
 have:=List.find?_some h
 exact eq_of_beq this
theorem Bmf {a:List TRow} {k:ByteArray} {r:TRow} (h:Tw a k=some r):r∈a:=List.mem_of_find?_eq_some h
theorem Bru {x:TRow} {a:List TRow} (h:On (x::a)) {k:ByteArray} {r:TRow} (hf:Tw a k=some r):IY x.key k=true:=by
 rw[←Bme hf]
 exact(List.pairwise_cons.1 h).1 r (Bmf hf)
theorem Bb1 {x:TRow} {a:List TRow} (h:On (x::a)):Tw a x.key=none:=by
 cases hf:Tw a x.key with
 |none=>rfl
 |some r=>exact absurd rfl (T4 (Bru h hf))
theorem Bou {a b:ByteArray} (h:IY a b=true):IY b a=false:=by
 cases g:IY b a with
 |false=>rfl
 |true=>exact absurd rfl (T4 (K1 h g))
theorem PV {x:TRow} {a:List TRow} (h:On (x::a)) {k:ByteArray} (hk:IY k x.key=true):Tw (x::a) k=none:=by
 rw[CT,if_neg (fun e=>T4 hk e.symm)]
 cases hf:Tw a k with
 |none=>rfl
 |some r=>
  have:=Bou (Bru h hf)
  rw[hk] at this
  cases this
theorem Bf2:∀{a b:List TRow},On a→On b→(∀k,Tw a k=Tw b k)→a=b
 | [],[],_,_,_=>rfl
 |x::a,[],_,_,h=>by
  have:=h x.key
  rw[CT,if_pos rfl] at this
  cases this
 | [],y::b,_,_,h=>by
  have:=h y.key
  rw[CT,if_pos rfl] at this
  cases this
 | x ::a,y::b,ha,hb,h=>by
  have hxy:x.key=y.key:=by
   cases h1:IY x.key y.key with
   |true=>
    have:=h x.key
    rw[CT,if_pos rfl,PV hb h1] at this
    cases this
   | false=>
    cases h2:IY y.key x.key with
    |true=>
     have:=h y.key
     rw[PV ha h2,CT,if_pos rfl] at this
     cases this
    |false=>
     by_cases e:x.key=y.key
     ·exact e
     ·rw[SO h1 e] at h2;cases h2
  have hx:x=y:=by
   have:=h x.key
   rw[CT,if_pos rfl,CT,if_pos hxy.symm] at this
   exact Option.some.inj this
  subst hx
  congr 1
  refine Bf2 (List.pairwise_cons.1 ha).2 (List.pairwise_cons.1 hb).2 fun k=>?_
  by_cases e:x.key=k
  ·subst e
   rw[Bb1 ha,Bb1 hb]
  ·have:=h k
   rwa[CT,CT,if_neg e,if_neg e] at this
def LI:Option TRow→Option TRow→Option TRow
 |some x,some y=>some (jnR x y)
 |some x,none=>some x
 |none,y=>y
theorem Zc (x:Option TRow):LI x none=x:=by cases x<;>rfl
def mrg:Nat→List TRow→List TRow→List TRow
 |0,_,_=>[]
 |_+1,[],[]=>[]
 |n+1,x::a,[]=>x::mrg n a []
 |n+1,[],y::b=>y::mrg n [] b
 |n+1,x::a,y::b=>bif IY x.key y.key then x::mrg n a (y::b) else bif IY y.key x.key then y::mrg n (x::a) b else jnR x y::mrg n a b
theorem A7j {x y:ByteArray} (h1:IY x y=false) (h2:IY y x=false):x=y:=by
 by_cases e:x=y
 ·exact e
 ·rw[SO h1 e] at h2;cases h2
theorem SW:∀(n:Nat) {a b:List TRow},On a→On b→a.length+b.length≤n→∀k,Tw (mrg n a b) k=LI (Tw a k) (Tw b k)
 |0,a,b,_,_,hn,k=>by
  have h1:a=[]:=List.eq_nil_of_length_eq_zero (by omega)
  have h2:b=[]:=List.eq_nil_of_length_eq_zero (by omega)
  subst h1 h2
  rfl
 |n+1,[],[],_,_,_,k=>rfl
 |n+1,x::a,[],ha,hb,hn,k=>by
  have ih:=SW n (List.pairwise_cons.1 ha).2 hb (by simp at hn⊢;omega) k
  show Tw (x::mrg n a []) k=LI (Tw (x::a) k) none
  have e:Tw [] k=none:=rfl
  rw[CT,CT,ih,e,Zc,Zc]
 |n+1,[],y::b,ha,hb,hn,k=>by
  have ih:=SW n ha (List.pairwise_cons.1 hb).2 (by simp at hn⊢;omega) k
  show Tw (y::mrg n [] b) k=Tw (y::b) k
  rw[CT,CT,ih]
  rfl
 | n +1,x::a,y::b,ha,hb,hn,k=>by
  simp only[List.length_cons] at hn
  show Tw (bif IY x.key y.key then x::mrg n a (y::b) else bif IY y.key x.key then y::mrg n (x::a) b else jnR x y::mrg n a b) k=_
  cases h1:IY x.key y.key with
  | true=>
   have ih:=SW n (List.pairwise_cons.1 ha).2 hb (by simp;omega) k
   rw[cond_true,CT,ih,CT x a]
   by_cases e:x.key=k
   ·rw[if_pos e,if_pos e,←e,PV hb h1]
    rfl
   ·rw[if_neg e,if_neg e]
  | false=>
   cases h2:IY y.key x.key with
   | true=>
    have ih:=SW n ha (List.pairwise_cons.1 hb).2 (by simp;omega) k
    rw[cond_false,cond_true,CT,ih,CT y b]
    by_cases e:y.key=k
    ·rw[if_pos e,if_pos e,←e,PV ha h2]
     rfl
    ·rw[if_neg e,if_neg e]
   | false=>
    have hxy:=A7j h1 h2
    have ih:=SW n (List.pairwise_cons.1 ha).2 (List.pairwise_cons.1 hb).2 (by omega) k
    rw[cond_false,cond_false,CT,ih,CT x a,CT y b]
    show(if x.key=k then _ else _)=_
    by_cases e:x.key=k
    ·rw[if_pos e,if_pos e,if_pos (hxy▸e)]
     rfl
    ·rw[if_neg e,if_neg e,if_neg (hxy▸e)]
theorem MB:∀(n:Nat) {a b:List TRow} {r:TRow},r∈mrg n a b→(∃x∈a,r.key=x.key)∨(∃y∈b,r.key=y.key)
 |0,_,_,r,h=>by cases h
 |n+1,[],[],r,h=>by cases h
 | n+1,x::a,[],r,h=>by
  rcases List.mem_cons.1 h with rfl|h
  ·exact .inl ⟨r,List.mem_cons_self ..,rfl⟩
  ·rcases MB n h with⟨z,hz,e⟩|⟨z,hz,e⟩
   ·exact .inl ⟨z,List.mem_cons_of_mem _ hz,e⟩
   ·exact .inr ⟨z,hz,e⟩
 | n+1,[],y::b,r,h=>by
  rcases List.mem_cons.1 h with rfl|h
  ·exact .inr ⟨r,List.mem_cons_self ..,rfl⟩
  ·rcases MB n h with⟨z,hz,e⟩|⟨z,hz,e⟩
   ·exact .inl ⟨z,hz,e⟩
   ·exact .inr ⟨z,List.mem_cons_of_mem _ hz,e⟩
 | n +1,x::a,y::b,r,h=>by
  have h':r∈(bif IY x.key y.key then x::mrg n a (y::b) else bif IY y.key x.key then y::mrg n (x::a) b else jnR x y::mrg n a b):=h
  cases h1:IY x.key y.key with
  | true=>
   rw[h1] at h'
   rcases List.mem_cons.1 h' with rfl|h'
   ·exact .inl ⟨r,List.mem_cons_self ..,rfl⟩
   ·rcases MB n h' with⟨z,hz,e⟩|⟨z,hz,e⟩
    ·exact .inl ⟨z,List.mem_cons_of_mem _ hz,e⟩
    ·exact .inr ⟨z,hz,e⟩
  | false=>
   rw[h1] at h'
   cases h2:IY y.key x.key with
   | true=>
    rw[h2] at h'
    rcases List.mem_cons.1 h' with rfl|h'
    ·exact .inr ⟨r,List.mem_cons_self ..,rfl⟩
    ·rcases MB n h' with⟨z,hz,e⟩|⟨z,hz,e⟩
     ·exact .inl ⟨z,hz,e⟩
     ·exact .inr ⟨z,List.mem_cons_of_mem _ hz,e⟩
   | false=>
    rw[h2] at h'
    rcases List.mem_cons.1 h' with rfl|h'
    ·exact .inl ⟨x,List.mem_cons_self ..,rfl⟩
    ·rcases MB n h' with⟨z,hz,e⟩|⟨z,hz,e⟩
     ·exact .inl ⟨z,List.mem_cons_of_mem _ hz,e⟩
     ·exact .inr ⟨z,List.mem_cons_of_mem _ hz,e⟩
theorem SX:∀(n:Nat) {a b:List TRow},On a→On b→On (mrg n a b)
 |0,_,_,_,_=>List.Pairwise.nil
 |n+1,[],[],_,_=>List.Pairwise.nil
 |n+1,x::a,[],ha,hb=>by
  refine List.pairwise_cons.2 ⟨fun r hr=>?_,SX n (List.pairwise_cons.1 ha).2 hb⟩
  rcases MB n hr with⟨z,hz,e⟩|⟨z,hz,_⟩
  ·rw[e];exact(List.pairwise_cons.1 ha).1 z hz
  ·cases hz
 |n+1,[],y::b,ha,hb=>by
  refine List.pairwise_cons.2 ⟨fun r hr=>?_,SX n ha (List.pairwise_cons.1 hb).2⟩
  rcases MB n hr with⟨z,hz,_⟩|⟨z,hz,e⟩
  ·cases hz
  ·rw[e];exact(List.pairwise_cons.1 hb).1 z hz
 | n +1,x::a,y::b,ha,hb=>by
  have a1:=List.pairwise_cons.1 ha
  have b1:=List.pairwise_cons.1 hb
  show On (bif IY x.key y.key then x::mrg n a (y::b) else bif IY y.key x.key then y::mrg n (x::a) b else jnR x y::mrg n a b)
  cases h1:IY x.key y.key with
  | true=>
   refine List.pairwise_cons.2 ⟨fun r hr=>?_,SX n a1.2 hb⟩
   rcases MB n hr with⟨z,hz,e⟩|⟨z,hz,e⟩
   ·rw[e];exact a1.1 z hz
   ·rw[e]
    rcases List.mem_cons.1 hz with rfl|hz
    ·exact h1
    ·exact K1 h1 (b1.1 z hz)
  | false=>
   cases h2:IY y.key x.key with
   | true=>
    refine List.pairwise_cons.2 ⟨fun r hr=>?_,SX n ha b1.2⟩
    rcases MB n hr with⟨z,hz,e⟩|⟨z,hz,e⟩
    ·rw[e]
     rcases List.mem_cons.1 hz with rfl|hz
     ·exact h2
     ·exact K1 h2 (a1.1 z hz)
    ·rw[e];exact b1.1 z hz
   |false=>
    have hxy:=A7j h1 h2
    refine List.pairwise_cons.2 ⟨fun r hr=>?_,SX n a1.2 b1.2⟩
    show IY x.key r.key=true
    rcases MB n hr with⟨z,hz,e⟩|⟨z,hz,e⟩
    ·rw[e];exact a1.1 z hz
    ·rw[e,hxy];exact b1.1 z hz
theorem Bvj {p:Int} {a:TCell} (h:Bz p a=true):Kh zeroC a=a:=by
 rw[A08,Bd8 h]
 have:Ng zeroC.dead a.dead=a.dead:=by
  have:=(Boq.1 (A4g h))
  show TVec.mk (max 0 a.dead.a) (max 0 a.dead.b)=a.dead
  exact Baq (by show max 0 a.dead.a=a.dead.a;omega) (by show max 0 a.dead.b=a.dead.b;omega)
 rw[this]
 rfl
theorem Bgx {p:Int} {a b:TCell} (h:Bz p a=true) (e:Kh a b=zeroC):a=zeroC:=by
 have h1:Kh a (Kh a b)=Kh a b:=by rw[←A5r,Bgy h]
 rw[e,Bgw,Bvj h] at h1
 exact h1
theorem Bb4 {r:TRow}:FG r=true↔∀i,i <r.cells.length→Gk r.cells i=zeroC:=by
 unfold FG
 rw[List.all_eq_true]
 constructor
 ·intro h i hi
  have e:Gk r.cells i=r.cells[i]:=by unfold Gk;rw[List.getD_eq_getElem?_getD,List.getElem?_eq_getElem hi];rfl
  rw[e]
  exact Agi.1 (h _ (List.getElem_mem hi))
 ·intro h c hc
  obtain⟨i,hi,rfl⟩:=List.getElem_of_mem hc
  have e:Gk r.cells i=r.cells[i]:=by unfold Gk;rw[List.getD_eq_getElem?_getD,List.getElem?_eq_getElem hi];rfl
  rw[←e]
  exact Agi.2 (h i hi)
theorem Bs8 {l:List TGroup} {a b:TRow} (ha:Ap l a=0) (hb:Ap l b=0) (h:FG a=false):FG (jnR a b)=false:=by
 cases hj:FG (jnR a b) with
 |false=>rfl
 | true=>
  have h1:=Bb4.1 hj
  have hl:=(AV ha).2.1
  have:FG a=true:=Bb4.2 fun i hi=>by
   have h2:=h1 i (by rw[Qb (b:=b) ha];omega)
   rw[TS ha hb (by omega)] at h2
   exact Bgx (JB ha (by omega)) h2
  rw[h] at this
  cases this
theorem Y8 {l:List TGroup}:∀(n:Nat) {a b:List TRow},Stt l a→Stt l b→∀r∈mrg n a b,Ap l r=0∧FG r=false
 |0,_,_,_,_,r,hr=>by cases hr
 |n+1,[],[],_,_,r,hr=>by cases hr
 |n+1,x::a,[],ha,hb,r,hr=>by
  rcases List.mem_cons.1 hr with rfl|hr
  ·exact ha.good r (List.mem_cons_self ..)
  ·exact Y8 n ha.tail hb r hr
 |n+1,[],y::b,ha,hb,r,hr=>by
  rcases List.mem_cons.1 hr with rfl|hr
  ·exact hb.good r (List.mem_cons_self ..)
  ·exact Y8 n ha hb.tail r hr
 | n +1,x::a,y::b,ha,hb,r,hr=>by
  have hr':r∈(bif IY x.key y.key then x::mrg n a (y::b) else bif IY y.key x.key then y::mrg n (x::a) b else jnR x y::mrg n a b):=hr
  cases h1:IY x.key y.key with
  |true=>
   rw[h1] at hr'
   rcases List.mem_cons.1 hr' with rfl|hr'
   ·exact ha.good r (List.mem_cons_self ..)
   ·exact Y8 n ha.tail hb r hr'
  | false=>
   rw[h1] at hr'
   cases h2:IY y.key x.key with
   |true=>
    rw[h2] at hr'
    rcases List.mem_cons.1 hr' with rfl|hr'
    ·exact hb.good r (List.mem_cons_self ..)
    ·exact Y8 n ha hb.tail r hr'
   | false=>
    rw[h2] at hr'
    rcases List.mem_cons.1 hr' with rfl|hr'
    ·obtain⟨g1,g2⟩:=ha.good x (List.mem_cons_self ..)
     obtain⟨g3,_⟩:=hb.good y (List.mem_cons_self ..)
     exact⟨Wv g1 g3,Bs8 g1 g3 g2⟩
    ·exact Y8 n ha.tail hb.tail r hr'
theorem Stt.mrg {l:List TGroup} {a b:List TRow} (n:Nat) (ha:Stt l a) (hb:Stt l b):Stt l (Go.Proofs.Yteebobbhhgmeiaa.mrg n a b):=⟨SX n ha.rise hb.rise,Y8 n ha hb⟩
theorem Brt {l:List TGroup} {a:List TRow} (h:Stt l a) {k:ByteArray} {r:TRow} (hr:Tw a k=some r):Ap l r=0∧FG r=false:=h.good r (Bmf hr)
def OkO (l:List TGroup) (k:ByteArray):Option TRow→Prop
 |none=>True
 |some r=>Ap l r=0∧r.key=k
theorem Xz {l:List TGroup} {k:ByteArray} {x y:Option TRow} (hx:OkO l k x) (hy:OkO l k y):OkO l k (LI x y):=by
 cases x<;>cases y<;>first|trivial|exact hx|exact hy|exact⟨Wv hx.1 hy.1,hx.2⟩
theorem A44 {l:List TGroup} {k:ByteArray} {x y:Option TRow} (hx:OkO l k x) (hy:OkO l k y):LI x y=LI y x:=by
 cases x<;>cases y<;>first|rfl|exact congrArg some (Bw8 hx.1 hy.1 (hx.2.trans hy.2.symm))
theorem Ue {l:List TGroup} {k:ByteArray} {x y z:Option TRow} (hx:OkO l k x) (hy:OkO l k y) (hz:OkO l k z):LI (LI x y) z=LI x (LI y z):=by
 cases x<;>cases y<;>cases z<;>first|rfl|exact congrArg some (Bs9 hx.1 hy.1 hz.1)
theorem Boz {l:List TGroup} {k:ByteArray} {x:Option TRow} (hx:OkO l k x):LI x x=x:=by
 cases x with
 |none=>rfl
 |some r=>exact congrArg some (Bw9 hx.1)
theorem Btu {l:List TGroup} {a:List TRow} (h:Stt l a) (k:ByteArray):OkO l k (Tw a k):=by
 cases hr:Tw a k with
 |none=>trivial
 |some r=>exact⟨(Brt h hr).1,Bme hr⟩
end Go.Proofs.Yteebobbhhgmeiaa
namespace Go.Proofs.Yteebobbhhgmeiaa
open Go.RowKit
theorem Auu {X:Type} (mk:Nat→X) (n:Nat) (next:X→X) (goes:X→Cnd) (ps:X→List Prop) (f:Nat) (x:X) (hx:x=mk 0) (hf:n≤f)
  (hg:∀i,i≤n→Bp (goes (mk i))=decide (i <n)) (hn:∀i,i <n→next (mk i)=mk (i+1)) (hp:∀i,i≤n→∀p∈ps (mk i),p):
  AL next goes ps f x∧A9 next goes f x=mk n:=by
 obtain⟨h1,k,hk,hx,_,hst,_⟩:=I6 mk n (fun _=>false) next goes ps f x hx hf (fun i hi _=>by rw[hg i hi,Bool.not_false,Bool.and_true]) (fun i hi _=>hn i hi) (fun i hi _=>hp i hi)
 have hkn:k=n:=by
  rcases Nat.lt_or_ge k n with h|h
  ·exact absurd (hst h) (by decide)
  ·omega
 subst hkn
 exact⟨h1,hx⟩
theorem Bdy (n:Nat):((n:Int)==(0:Int))=(n==0):=by
 rw[Bool.eq_iff_iff,beq_iff_eq,beq_iff_eq]
 omega
theorem Aj4 {α:Type} (l:List α) (d:α) (i:Nat) (h:i <l.length):l.take (i+1)=l.take i++[l.getD i d]:=by
 rw[List.take_add_one,List.getD_eq_getElem?_getD,List.getElem?_eq_getElem h]
 rfl
def Bnu (r:TRow) (s:List TRow×Bool) (x:TRow):List TRow×Bool:=
 ((bif !s.2&&!IY x.key r.key then s.1++[r] else s.1)++(bif x.key==r.key then[] else[x]),s.2||!IY x.key r.key)
def LX (r:TRow) (l:List TRow) (i:Nat):List TRow×Bool:=(l.take i).foldl (Bnu r) ([],false)
theorem A5e (r:TRow) (l:List TRow) (i:Nat) (h:i <l.length):LX r l (i+1)=Bnu r (LX r l i) (BU l i):=by
 unfold LX
 rw[Aj4 l (Ae TC.row) i h,List.foldl_append]
 rfl
def B2l (r:TRow) (s:List TRow×Bool):List TRow:=bif s.2 then s.1 else s.1++[r]
theorem Bpu (r:TRow) (s:List TRow×Bool) (x:TRow):(Bnu r s x).1.length≤s.1.length+2:=by
 unfold Bnu
 rw[List.length_append]
 cases !s.2&&!IY x.key r.key<;>cases x.key==r.key<;>simp
theorem A0v (r:TRow) (l:List TRow):∀i,i≤l.length→(LX r l i).1.length≤2*i
 |0,_=>Nat.le_refl _
 |i+1,h=>by
  have ih:=A0v r l i (by omega)
  rw[A5e r l i (by omega)]
  have:=Bpu r (LX r l i) (BU l i)
  omega
theorem Bb2 (key:ByteArray):∀(l:List TRow) (k:Nat),k≤l.length→(∀j,j <k→((BU l j).key==key)=false)→(k <l.length→((BU l k).key==key)=true)→Tw l key=if k <l.length then some (BU l k) else none
 | [],k,_,_,_=>(if_neg (Nat.not_lt_zero k)).symm
 |x::a,0,_,_,h=>by
  have h2:(x.key==key)=true:=h (Nat.zero_lt_succ _)
  rw[CT,if_pos (eq_of_beq h2)]
  exact(if_pos (Nat.zero_lt_succ a.length)).symm
 | x::a,k+1,hk,h0,h=>by
  have h2:(x.key==key)=false:=h0 0 (Nat.zero_lt_succ _)
  rw[CT,if_neg (by simpa using h2),Bb2 key a k (Nat.le_of_succ_le_succ hk) (fun j hj=>h0 (j+1) (Nat.succ_lt_succ hj)) (fun hk=>h (Nat.succ_lt_succ hk))]
  by_cases hl:k <a.length
  ·rw[if_pos hl]
   exact(if_pos (show k+1 <(x::a).length from Nat.succ_lt_succ hl)).symm
  ·rw[if_neg hl]
   exact(if_neg (show ¬k+1 <(x::a).length from fun h=>hl (Nat.lt_of_succ_lt_succ h))).symm
theorem Y7:∀(n:Nat) (a b:List TRow),(mrg n a b).length≤a.length+b.length
 |0,_,_=>Nat.zero_le _
 |_+1,[],[]=>Nat.zero_le _
 |n+1,x::a,[]=>by
  have:=Y7 n a []
  show(x::mrg n a []).length≤_
  rw[List.length_cons,List.length_cons]
  omega
 |n+1,[],y::b=>by
  have:=Y7 n [] b
  show(y::mrg n [] b).length≤_
  rw[List.length_cons,List.length_cons]
  omega
 | n+1,x::a,y::b=>by
  unfold mrg
  cases IY x.key y.key with
  |true=>
   have:=Y7 n a (y::b)
   rw[cond_true,List.length_cons,List.length_cons]
   omega
  | false=>
   cases IY y.key x.key with
   |true=>
    have:=Y7 n (x::a) b
    rw[cond_false,cond_true,List.length_cons]
    simp only[List.length_cons] at this⊢
    omega
   |false=>
    have:=Y7 n a b
    rw[cond_false,cond_false,List.length_cons,List.length_cons,List.length_cons]
    omega
end Go.Proofs.Yteebobbhhgmeiaa
namespace Go.Proofs.Yteebobbhhgmeiaa
open Go.RowKit
theorem A4b {P:Program} {f:FuncId} {args:List A} {k:Nat} {e:TypeId} {c:TC} {l:List (U c)} (h:CallOk P f args 0 [] k (.sq 0) 1 [(0,some (.arr e (size c) (.ty c l)))]):CallOk P f args 0 [] k (.sl c l) 0 []:=fun F N R vs hh ha=>
 Calls.mono (P:=P) (h F N R vs hh ha) fun e0 R' ⟨y,F',N',e1,e2,e3,e4,e5⟩=>by
  obtain⟨_,rfl⟩:=e4.sq_inv
  have hob:=e2.ob 0 _ rfl
  obtain⟨_,zs,g1,g2⟩:=id hob
  have hn:∀i j,i <1→(fun _=>none:Nat→Option Nat) i=some j→j <0∧N'.b j=N'.b i∧N'.q j=N'.q i:=fun i j _ hj=>by cases hj
  have hw:Ext F' N' 1 R' (fun g=>F' g∨CU (N'.q 0)=some g) N' 1 R':=Ext.wide fun g hg=> .inl hg
  have q1:=(Zh (F':=fun g=>F' g∨CU (N'.q 0)=some g) (N:=N') (nx:=1) g1 (fun k hk=>(g2 k hk).step hw) (fun g hg=> .inr hg)).1
  have q2:=Hv.pk (N':=N') (nx':=0) (ρ:=fun _=>none) hn q1
  refine⟨N'.q 0,fun g=>F' g∨CU (N'.q 0)=some g,N',e1,⟨fun g hg=>?_,fun i ob hi=>(by cases hi),fun i ob g hi=>(by cases hi),fun i j x y g hi=>(by cases hi)⟩,⟨Nat.le_refl _,fun i hi=>absurd hi (Nat.not_lt_zero _),fun i hi=>absurd hi (Nat.not_lt_zero _),fun g hg=> .inl (e3.f g hg),fun g hg=>?_,fun g ⟨i,ob,hi,_⟩=>(by cases hi),e3.os,e3.tape,e3.output,e3.size,e3.keep⟩,q2,e5⟩
  ·rcases hg with hg|hg
   ·exact e2.flt g hg
   ·exact hob.2.lt hg
  ·rcases hg with hg|hg
   ·exact e3.fnew g hg
   ·rcases e3.foot g ⟨0,_,rfl,hg⟩ with h|h
    ·exact .inr (.inl h)
    ·exact .inr (.inr h)
end Go.Proofs.Yteebobbhhgmeiaa
namespace Go.Proofs.Yteebobbhhgmeiaa
open Go.RowKit
def Xk (a0:TRow):List TCell:=[]++a0.2
def Xm (a0:TRow):A:=.agg [.v (.string a0.1),.sq 0]
def Xl (a0:TRow):Objs:=[(0,some (.arr 55 8 (.ty .cell (Xk a0))))]
def Ah7 (a0:TRow):List Prop:=[(Ai ((0:Nat)+a0.2.length))]
set_option maxRecDepth 100000 in
theorem A8d (a0:TRow):EU (AA Cs L0) 9 170 [Ak .row a0] 0 []=some (1,Xm a0,1,Xl a0,[(Ai ((0:Nat)+a0.2.length))]):=by kernel_rfl
set_option maxRecDepth 100000 in
theorem Bec (a0:TRow) (hp:∀p∈Ah7 a0,p):CallOk Try.prog 170 [Ak .row a0] 0 [] 1 (Xm a0) 1 (Xl a0):=by
 have n0:=N0 hp
 exact AH (Aw Bzc AG) (A8d a0) (Aa n0 Ab)
def Xn:List A→Nat→Objs→Option A8
 | [y0],nx,o=>match AP .row y0 with
  |some (a0,p0)=>some (1,(Xm a0).pk (AF nx),nx+1,AE nx (Xl a0)++o,p0++(Ah7 a0))
  |_=>none
 |_,_,_=>none
theorem A2b:Fu Try.prog 170 Xn:=fun args nx o k x nx' o' ps h=>by
 unfold Xn at h
 split at h<;>first|(cases h;done)|skip
 split at h<;>first|(cases h;done)|skip
 rename_i a0 p0 e0
 cases h
 refine⟨fun hp=>?_,_,rfl⟩
 have q0:=fun p hm=>hp p (List.mem_append.2 (.inl hm))
 have r0:=fun p hm=>hp p (List.mem_append.2 (.inr hm))
 refine Ah (Ag (Bec a0 r0) (Nat.le_refl _) (Ac (Af _ _) Ao) nx o) fun F N R vs hl=>?_
 obtain⟨v0,w0,rfl,h0,hl⟩:=hl.inv
 exact HL.cons (Am e0 q0 h0) (hl)
noncomputable def Bbh:=A5 170 Xn Cs
theorem Auz:Df Try.prog Bbh:=Av A2b Bzc
abbrev BO:Type:=(List TGroup)×(List TRow)×(List TRow)×(List TRow)
def Kb (x:BO):St:=⟨91,2,[(0,.sl .group x.1),(1,.sl .row x.2.1),(2,.sl .row x.2.2.1),(6,.dq 1)],[(1,some (.deep 71 .row x.2.2.2))]⟩
def LE:St→Option BO
 |⟨91,2,[(0,.sl .group z0),(1,.sl .row z1),(2,.sl .row z2),(6,.dq 1)],[(1,some (.deep 71 .row z3))]⟩=>some (z0,z1,z2,z3)
 |_=>none
theorem Zz:∀s x,LE s=some x→s=Kb x:=fun s x h=>by
 unfold LE at h
 split at h
 ·cases h;rfl
 ·cases h
def SV:De:=⟨1,2,[0,1,2,6],[],[(7,1)],[7],[6],[1]⟩
def Al1:Dy:=⟨[.nilD 6 71 .row],[(0,1)],[0,1,2,6],[0]⟩
def AD (_a0:List TGroup) (a1:List TRow) (a2:List TRow) (_a3:List TRow):Bool:=(↑a1.length:Int)==(0:Int)||Op.bytesLess (a2.getD (0:Nat) (Ae TC.row)).1.toList (a1.getD (0:Nat) (Ae TC.row)).1.toList
def Gs (_a0:List TGroup) (_a1:List TRow) (a2:List TRow) (_a3:List TRow):List TRow:=List.take ((↑a2.length:Int).toNat - (1:Nat)) (List.drop (1:Nat) a2)
def Gr (_a0:List TGroup) (a1:List TRow) (_a2:List TRow) (_a3:List TRow):List TRow:=List.take ((↑a1.length:Int).toNat - (1:Nat)) (List.drop (1:Nat) a1)
def An (_a0:List TGroup) (a1:List TRow) (a2:List TRow) (_a3:List TRow):Bool:=(↑a1.length:Int)==(0:Int)&&(↑a2.length:Int)==(0:Int)
def Aq (_a0:List TGroup) (a1:List TRow) (a2:List TRow) (_a3:List TRow):Bool:=(↑a2.length:Int)==(0:Int)||decide ((↑a1.length:Int) >(0:Int))&&Op.bytesLess (a1.getD (0:Nat) (Ae TC.row)).1.toList (a2.getD (0:Nat) (Ae TC.row)).1.toList
def B5 (a0:List TGroup) (a1:List TRow) (a2:List TRow) (a3:List TRow):List TRow:=bif(Aq a0 a1 a2 a3) then(Gr a0 a1 a2 a3) else bif(AD a0 a1 a2 a3) then a1 else(Gr a0 a1 a2 a3)
def B8 (a0:List TGroup) (a1:List TRow) (a2:List TRow) (a3:List TRow):List TRow:=bif(Aq a0 a1 a2 a3) then a2 else bif(AD a0 a1 a2 a3) then(Gs a0 a1 a2 a3) else(Gs a0 a1 a2 a3)
def B9 (a0:List TGroup) (a1:List TRow) (a2:List TRow) (a3:List TRow):List TRow:=bif(Aq a0 a1 a2 a3) then a3++[ZN TC.row TC.cell (TRow.mk (a1.getD (0:Nat) (Ae TC.row)).1 []) (Xk (a1.getD (0:Nat) (Ae TC.row)))] else bif(AD a0 a1 a2 a3) then a3++[ZN TC.row TC.cell (TRow.mk (a2.getD (0:Nat) (Ae TC.row)).1 []) (Xk (a2.getD (0:Nat) (Ae TC.row)))] else a3++[ZN TC.row TC.cell (TRow.mk (jnK a0 (a1.getD (0:Nat) (Ae TC.row)) (a2.getD (0:Nat) (Ae TC.row))) []) (jnL a0 (a1.getD (0:Nat) (Ae TC.row)) (a2.getD (0:Nat) (Ae TC.row)))]
def AX (x:BO):BO:=(x.1,B5 x.1 x.2.1 x.2.2.1 x.2.2.2,B8 x.1 x.2.1 x.2.2.1 x.2.2.2,B9 x.1 x.2.1 x.2.2.1 x.2.2.2)
def AW (x:BO):Cnd:=some (!(An x.1 x.2.1 x.2.2.1 x.2.2.2))
def O4 (x:BO):List Prop:=[((An x.1 x.2.1 x.2.2.1 x.2.2.2)=false→decide ((↑x.2.1.length:Int) >(0:Int))=true→((↑x.2.2.1.length:Int)==(0:Int))=false→(0:Int)≤(0:Int)∧(0:Int) <(↑x.2.1.length:Int)),((An x.1 x.2.1 x.2.2.1 x.2.2.2)=false→decide ((↑x.2.1.length:Int) >(0:Int))=true→((↑x.2.2.1.length:Int)==(0:Int))=false→(0:Int)≤(0:Int)∧(0:Int) <(↑x.2.2.1.length:Int)),((An x.1 x.2.1 x.2.2.1 x.2.2.2)=false→(Aq x.1 x.2.1 x.2.2.1 x.2.2.2)=true→(0:Int)≤(0:Int)∧(0:Int) <(↑x.2.1.length:Int)),((An x.1 x.2.1 x.2.2.1 x.2.2.2)=false→(Aq x.1 x.2.1 x.2.2.1 x.2.2.2)=true→Ai ((0:Nat)+(x.2.1.getD (0:Nat) (Ae TC.row)).2.length)),((An x.1 x.2.1 x.2.2.1 x.2.2.2)=false→(Aq x.1 x.2.1 x.2.2.1 x.2.2.2)=true→Ai (x.2.2.2.length+(1:Nat))),((An x.1 x.2.1 x.2.2.1 x.2.2.2)=false→(Aq x.1 x.2.1 x.2.2.1 x.2.2.2)=true→(0:Int)≤(1:Int)∧(1:Int)≤(↑x.2.1.length:Int)∧(↑x.2.1.length:Int)≤(↑x.2.1.length:Int)),((An x.1 x.2.1 x.2.2.1 x.2.2.2)=false→(Aq x.1 x.2.1 x.2.2.1 x.2.2.2)=false→((↑x.2.1.length:Int)==(0:Int))=false→(0:Int)≤(0:Int)∧(0:Int) <(↑x.2.2.1.length:Int)),((An x.1 x.2.1 x.2.2.1 x.2.2.2)=false→(Aq x.1 x.2.1 x.2.2.1 x.2.2.2)=false→((↑x.2.1.length:Int)==(0:Int))=false→(0:Int)≤(0:Int)∧(0:Int) <(↑x.2.1.length:Int)),((An x.1 x.2.1 x.2.2.1 x.2.2.2)=false→(Aq x.1 x.2.1 x.2.2.1 x.2.2.2)=false→(AD x.1 x.2.1 x.2.2.1 x.2.2.2)=true→(0:Int)≤(0:Int)∧(0:Int) <(↑x.2.2.1.length:Int)),((An x.1 x.2.1 x.2.2.1 x.2.2.2)=false→(Aq x.1 x.2.1 x.2.2.1 x.2.2.2)=false→(AD x.1 x.2.1 x.2.2.1 x.2.2.2)=true→Ai ((0:Nat)+(x.2.2.1.getD (0:Nat) (Ae TC.row)).2.length)),((An x.1 x.2.1 x.2.2.1 x.2.2.2)=false→(Aq x.1 x.2.1 x.2.2.1 x.2.2.2)=false→(AD x.1 x.2.1 x.2.2.1 x.2.2.2)=true→Ai (x.2.2.2.length+(1:Nat))),((An x.1 x.2.1 x.2.2.1 x.2.2.2)=false→(Aq x.1 x.2.1 x.2.2.1 x.2.2.2)=false→(AD x.1 x.2.1 x.2.2.1 x.2.2.2)=true→(0:Int)≤(1:Int)∧(1:Int)≤(↑x.2.2.1.length:Int)∧(↑x.2.2.1.length:Int)≤(↑x.2.2.1.length:Int)),((An x.1 x.2.1 x.2.2.1 x.2.2.2)=false→(Aq x.1 x.2.1 x.2.2.1 x.2.2.2)=false→(AD x.1 x.2.1 x.2.2.1 x.2.2.2)=false→(0:Int)≤(0:Int)∧(0:Int) <(↑x.2.1.length:Int)),((An x.1 x.2.1 x.2.2.1 x.2.2.2)=false→(Aq x.1 x.2.1 x.2.2.1 x.2.2.2)=false→(AD x.1 x.2.1 x.2.2.1 x.2.2.2)=false→(0:Int)≤(0:Int)∧(0:Int) <(↑x.2.2.1.length:Int)),((An x.1 x.2.1 x.2.2.1 x.2.2.2)=false→(Aq x.1 x.2.1 x.2.2.1 x.2.2.2)=false→(AD x.1 x.2.1 x.2.2.1 x.2.2.2)=false→Ai (x.2.2.2.length+(1:Nat))),((An x.1 x.2.1 x.2.2.1 x.2.2.2)=false→(Aq x.1 x.2.1 x.2.2.1 x.2.2.2)=false→(AD x.1 x.2.1 x.2.2.1 x.2.2.2)=false→(0:Int)≤(1:Int)∧(1:Int)≤(↑x.2.1.length:Int)∧(↑x.2.1.length:Int)≤(↑x.2.1.length:Int)),((An x.1 x.2.1 x.2.2.1 x.2.2.2)=false→(Aq x.1 x.2.1 x.2.2.1 x.2.2.2)=false→(AD x.1 x.2.1 x.2.2.1 x.2.2.2)=false→(0:Int)≤(1:Int)∧(1:Int)≤(↑x.2.2.1.length:Int)∧(↑x.2.2.1.length:Int)≤(↑x.2.2.1.length:Int))]
def Eu (x:BO):List Prop:=[((An x.1 x.2.1 x.2.2.1 x.2.2.2)=false→decide ((↑x.2.1.length:Int) >(0:Int))=true→((↑x.2.2.1.length:Int)==(0:Int))=false→(0:Int)≤(0:Int)∧(0:Int) <(↑x.2.1.length:Int)),((An x.1 x.2.1 x.2.2.1 x.2.2.2)=false→decide ((↑x.2.1.length:Int) >(0:Int))=true→((↑x.2.2.1.length:Int)==(0:Int))=false→(0:Int)≤(0:Int)∧(0:Int) <(↑x.2.2.1.length:Int)),((An x.1 x.2.1 x.2.2.1 x.2.2.2)=false→(Aq x.1 x.2.1 x.2.2.1 x.2.2.2)=true→(0:Int)≤(0:Int)∧(0:Int) <(↑x.2.1.length:Int)),((An x.1 x.2.1 x.2.2.1 x.2.2.2)=false→(Aq x.1 x.2.1 x.2.2.1 x.2.2.2)=true→Ai ((0:Nat)+(x.2.1.getD (0:Nat) (Ae TC.row)).2.length)),((An x.1 x.2.1 x.2.2.1 x.2.2.2)=false→(Aq x.1 x.2.1 x.2.2.1 x.2.2.2)=true→Ai (x.2.2.2.length+(1:Nat))),((An x.1 x.2.1 x.2.2.1 x.2.2.2)=false→(Aq x.1 x.2.1 x.2.2.1 x.2.2.2)=true→(0:Int)≤(1:Int)∧(1:Int)≤(↑x.2.1.length:Int)∧(↑x.2.1.length:Int)≤(↑x.2.1.length:Int)),((An x.1 x.2.1 x.2.2.1 x.2.2.2)=false→(Aq x.1 x.2.1 x.2.2.1 x.2.2.2)=false→((↑x.2.1.length:Int)==(0:Int))=false→(0:Int)≤(0:Int)∧(0:Int) <(↑x.2.2.1.length:Int)),((An x.1 x.2.1 x.2.2.1 x.2.2.2)=false→(Aq x.1 x.2.1 x.2.2.1 x.2.2.2)=false→((↑x.2.1.length:Int)==(0:Int))=false→(0:Int)≤(0:Int)∧(0:Int) <(↑x.2.1.length:Int)),((An x.1 x.2.1 x.2.2.1 x.2.2.2)=false→(Aq x.1 x.2.1 x.2.2.1 x.2.2.2)=false→(AD x.1 x.2.1 x.2.2.1 x.2.2.2)=true→(0:Int)≤(0:Int)∧(0:Int) <(↑x.2.2.1.length:Int)),((An x.1 x.2.1 x.2.2.1 x.2.2.2)=false→(Aq x.1 x.2.1 x.2.2.1 x.2.2.2)=false→(AD x.1 x.2.1 x.2.2.1 x.2.2.2)=true→Ai ((0:Nat)+(x.2.2.1.getD (0:Nat) (Ae TC.row)).2.length)),((An x.1 x.2.1 x.2.2.1 x.2.2.2)=false→(Aq x.1 x.2.1 x.2.2.1 x.2.2.2)=false→(AD x.1 x.2.1 x.2.2.1 x.2.2.2)=true→Ai (x.2.2.2.length+(1:Nat))),((An x.1 x.2.1 x.2.2.1 x.2.2.2)=false→(Aq x.1 x.2.1 x.2.2.1 x.2.2.2)=false→(AD x.1 x.2.1 x.2.2.1 x.2.2.2)=true→(0:Int)≤(1:Int)∧(1:Int)≤(↑x.2.2.1.length:Int)∧(↑x.2.2.1.length:Int)≤(↑x.2.2.1.length:Int)),((An x.1 x.2.1 x.2.2.1 x.2.2.2)=false→(Aq x.1 x.2.1 x.2.2.1 x.2.2.2)=false→(AD x.1 x.2.1 x.2.2.1 x.2.2.2)=false→(0:Int)≤(0:Int)∧(0:Int) <(↑x.2.1.length:Int)),((An x.1 x.2.1 x.2.2.1 x.2.2.2)=false→(Aq x.1 x.2.1 x.2.2.1 x.2.2.2)=false→(AD x.1 x.2.1 x.2.2.1 x.2.2.2)=false→(0:Int)≤(0:Int)∧(0:Int) <(↑x.2.2.1.length:Int)),((An x.1 x.2.1 x.2.2.1 x.2.2.2)=false→(Aq x.1 x.2.1 x.2.2.1 x.2.2.2)=false→(AD x.1 x.2.1 x.2.2.1 x.2.2.2)=false→Ai (x.2.2.2.length+(1:Nat))),((An x.1 x.2.1 x.2.2.1 x.2.2.2)=false→(Aq x.1 x.2.1 x.2.2.1 x.2.2.2)=false→(AD x.1 x.2.1 x.2.2.1 x.2.2.2)=false→(0:Int)≤(1:Int)∧(1:Int)≤(↑x.2.1.length:Int)∧(↑x.2.1.length:Int)≤(↑x.2.1.length:Int)),((An x.1 x.2.1 x.2.2.1 x.2.2.2)=false→(Aq x.1 x.2.1 x.2.2.1 x.2.2.2)=false→(AD x.1 x.2.1 x.2.2.1 x.2.2.2)=false→(0:Int)≤(1:Int)∧(1:Int)≤(↑x.2.2.1.length:Int)∧(↑x.2.2.1.length:Int)≤(↑x.2.2.1.length:Int))]
def NN (x:BO):Bl:=[(some 0,some ((An x.1 x.2.1 x.2.2.1 x.2.2.2)),⟨91,2,[(6,.dq 1)],[(1,some (.deep 71 .row x.2.2.2))]⟩)]
def H6 (x:BO):Nat:=x.2.1.length+x.2.2.1.length
def Ac1 (x:BO):BO:=A9 AX AW (H6 x) x
set_option maxRecDepth 100000 in
theorem Ah5 (a0:List TGroup) (a1:List TRow) (a2:List TRow) (a3:List TRow):Bx (AA Bbh L0) 9 (Aj Try.prog 143 0) SV (Kb (a0,a1,a2,a3))=some (O4 (a0,a1,a2,a3),NN (a0,a1,a2,a3),AW (a0,a1,a2,a3),Kb (AX (a0,a1,a2,a3))):=by kernel_rfl
set_option maxRecDepth 100000 in
theorem Ah6 (a0:List TGroup) (a1:List TRow) (a2:List TRow) (a3:List TRow) (hp:∀p∈Eu (a0,a1,a2,a3),p):∀p∈O4 (a0,a1,a2,a3),p:=by
 have n0:=N0 hp
 have n1:=N0 (N1 hp)
 have n2:=N0 (N1 (N1 hp))
 have n3:=N0 (N1 (N1 (N1 hp)))
 have n4:=N0 (N1 (N1 (N1 (N1 hp))))
 have n5:=N0 (N1 (N1 (N1 (N1 (N1 hp)))))
 have n6:=N0 (N1 (N1 (N1 (N1 (N1 (N1 hp))))))
 have n7:=N0 (N1 (N1 (N1 (N1 (N1 (N1 (N1 hp)))))))
 have n8:=N0 (N1 (N1 (N1 (N1 (N1 (N1 (N1 (N1 hp))))))))
 have n9:=N0 (N1 (N1 (N1 (N1 (N1 (N1 (N1 (N1 (N1 hp)))))))))
 have n10:=N0 (N1 (N1 (N1 (N1 (N1 (N1 (N1 (N1 (N1 (N1 hp))))))))))
 have n11:=N0 (N1 (N1 (N1 (N1 (N1 (N1 (N1 (N1 (N1 (N1 (N1 hp)))))))))))
 have n12:=N0 (N1 (N1 (N1 (N1 (N1 (N1 (N1 (N1 (N1 (N1 (N1 (N1 hp))))))))))))
 have n13:=N0 (N1 (N1 (N1 (N1 (N1 (N1 (N1 (N1 (N1 (N1 (N1 (N1 (N1 hp)))))))))))))
 have n14:=N0 (N1 (N1 (N1 (N1 (N1 (N1 (N1 (N1 (N1 (N1 (N1 (N1 (N1 (N1 hp))))))))))))))
 have n15:=N0 (N1 (N1 (N1 (N1 (N1 (N1 (N1 (N1 (N1 (N1 (N1 (N1 (N1 (N1 (N1 hp)))))))))))))))
 have n16:=N0 (N1 (N1 (N1 (N1 (N1 (N1 (N1 (N1 (N1 (N1 (N1 (N1 (N1 (N1 (N1 (N1 hp))))))))))))))))
 exact(Aa n0 (Aa n1 (Aa n2 (Aa n3 (Aa n4 (Aa n5 (Aa n6 (Aa n7 (Aa n8 (Aa n9 (Aa n10 (Aa n11 (Aa n12 (Aa n13 (Aa n14 (Aa n15 (Aa n16 Ab)))))))))))))))))
noncomputable def O5:=HU (AA Bbh L0) (Aj Try.prog 143 0) SV Al1 LE H6 AX AW Eu NN
theorem Ac0:∀s b ps outs,O5 s=some (b,ps,outs)→Wf s ⟨ps,outs,none⟩∧Bs (AA C0 L0) b s ps outs:=
 Bi (T:=Kb) Auz AG (u:=9) (by kernel_rfl) (by decide) (fun⟨a0,a1,a2,a3⟩=>Ah5 a0 a1 a2 a3) (fun⟨a0,a1,a2,a3⟩=>Ah6 a0 a1 a2 a3) Zz (fun _=>AR (n:=91) rfl) fun _ _=>rfl
noncomputable def SU:=DG 0 O5 L0
theorem Acz:Hs SU:=A3 Ac0 AG
def Aag (a0:List TGroup) (a1:List TRow) (a2:List TRow):List TRow:=(Ac1 (a0,a1,a2,[])).snd.snd.snd
def Aah (_a0:List TGroup) (_a1:List TRow) (_a2:List TRow):A:=.dq 0
def Rr (a0:List TGroup) (a1:List TRow) (a2:List TRow):Objs:=[(0,some (.deep 71 .row (Aag a0 a1 a2)))]
def Axn (a0:List TGroup) (a1:List TRow) (a2:List TRow):List Prop:=[(AL AX AW Eu (H6 (a0,a1,a2,[])) (a0,a1,a2,[]))]
set_option maxRecDepth 100000 in
theorem Axm (a0:List TGroup) (a1:List TRow) (a2:List TRow):EU (AA Bbh SU) 9 143 [.sl .group a0,Ak .rows a1,Ak .rows a2] 0 []=some (1,Aah a0 a1 a2,1,Rr a0 a1 a2,[(Aj Try.prog (143:FuncId) (0:Nat)=Aj Try.prog (143:FuncId) (0:Nat)),(AL AX AW Eu (H6 (a0,a1,a2,[])) (a0,a1,a2,[]))]):=by kernel_rfl
set_option maxRecDepth 100000 in
theorem A2a (a0:List TGroup) (a1:List TRow) (a2:List TRow) (hp:∀p∈Axn a0 a1 a2,p):CallOk Try.prog 143 [.sl .group a0,Ak .rows a1,Ak .rows a2] 0 [] 1 (Aah a0 a1 a2) 1 (Rr a0 a1 a2):=by
 have n1:=N0 hp
 exact AH (Aw Auz Acz) (Axm a0 a1 a2) (Aa rfl (Aa n1 Ab))
def Xj (_a0:List TGroup) (_a1 _a2:List TRow):A:=.dq 0
def Xi (_a0:List TGroup) (a1 a2:List TRow):Objs:=[(0,some (.deep 71 .row (mrg (a1.length+a2.length) a1 a2)))]
def UX (a0:List TGroup) (a1 a2:List TRow):List Prop:=[Stt a0 a1∧Stt a0 a2∧a1.length+a2.length≤400000]
theorem A4x (x:TRow) (a:List TRow):List.take ((((x::a).length:Nat):Int).toNat - (1:Nat)) (List.drop (1:Nat) (x::a))=a:=by
 rw[Int.toNat_natCast]
 simp
theorem gt0 (n:Nat):decide ((n:Int) >(0:Int))=!(n==0):=by
 cases n with
 |zero=>rfl
 |succ n=>
  rw[decide_eq_true (by omega)]
  rfl
theorem Bea (l:List TGroup) (a b out:List TRow):Aq l a b out=((b.length==0)||(!(a.length==0)&&IY (BU a 0).key (BU b 0).key)):=by
 unfold Aq
 rw[Bdy,gt0]
 rfl
theorem A4w (l:List TGroup) (a b out:List TRow):An l a b out=((a.length==0)&&(b.length==0)):=by
 unfold An
 rw[Bdy,Bdy]
theorem Bti (l:List TGroup) (a b out:List TRow):AD l a b out=((a.length==0)||IY (BU b 0).key (BU a 0).key):=by
 unfold AD
 rw[Bdy]
 rfl
theorem Btj {l:List TGroup} {a b out:List TRow} (ha:Stt l a) (hb:Stt l b) (ho:out.length≤500000):∀p∈Eu (l,a,b,out),p:=by
 have z:∀{n:Nat},(n==0)=false→0 <n:=fun h=>by
  have:=beq_eq_false_iff_ne.1 h
  omega
 have h1:An l a b out=false→Aq l a b out=true→0 <a.length:=fun h g=>by
  rw[A4w] at h
  rw[Bea] at g
  cases ea:a.length==0 with
  |false=>exact z ea
  |true=>
   rw[ea] at h g
   rw[Bool.true_and] at h
   rw[h] at g
   cases g
 have h2:Aq l a b out=false→0 <b.length:=fun h=>by
  rw[Bea] at h
  exact z (Bool.or_eq_false_iff.1 h).1
 have h3:AD l a b out=false→0 <a.length:=fun h=>by
  rw[Bti] at h
  exact z (Bool.or_eq_false_iff.1 h).1
 have hc:∀{x:List TRow},Stt l x→0 <x.length→Ai (0+(x.getD 0 (Ae TC.row)).2.length):=fun {x} hx h=>by
  have g:=(hx.good _ (getD_in x (Ae TC.row) 0 h)).1
  have g1:=(AV g).2.1
  have g2:=(Hr (AV g).1).2
  have g3:(x.getD 0 (Ae TC.row)).2.length=l.length:=g1
  unfold Ai
  omega
 have ho':Ai (out.length+1):=by unfold Ai;omega
 have one:∀{n:Nat},0 <n→(0:Int)≤(1:Int)∧(1:Int)≤(n:Int)∧(n:Int)≤(n:Int):=fun h=>⟨by omega,by omega,Int.le_refl _⟩
 have nz:∀{n:Nat},0 <n→(0:Int)≤(0:Int)∧(0:Int) <(n:Int):=fun h=>⟨Int.le_refl _,by omega⟩
 have e0:∀{n:Nat},((n:Int)==(0:Int))=false→0 <n:=fun h=>by rw[Bdy] at h;exact z h
 have g0:∀{n:Nat},decide ((n:Int) >(0:Int))=true→0 <n:=fun h=>by have:=of_decide_eq_true h;omega
 exact Aa (fun _ h _=>nz (g0 h)) (Aa (fun _ _ h=>nz (e0 h)) (Aa (fun h g=>nz (h1 h g)) (Aa (fun h g=>hc ha (h1 h g)) (Aa (fun _ _=>ho') (Aa (fun h g=>one (h1 h g))
  (Aa (fun _ g _=>nz (h2 g)) (Aa (fun _ _ h=>nz (e0 h)) (Aa (fun _ g _=>nz (h2 g)) (Aa (fun _ g _=>hc hb (h2 g)) (Aa (fun _ _ _=>ho') (Aa (fun _ g _=>one (h2 g))
  (Aa (fun _ _ h=>nz (h3 h)) (Aa (fun _ g _=>nz (h2 g)) (Aa (fun _ _ _=>ho') (Aa (fun _ _ h=>one (h3 h)) (Aa (fun _ g _=>one (h2 g)) Ab))))))))))))))))
theorem Bm3 (l:List TGroup):∀(n:Nat) (a b out:List TRow),Stt l a→Stt l b→a.length+b.length≤n→out.length+n≤500000→
  AL AX AW Eu n (l,a,b,out)∧(A9 AX AW n (l,a,b,out)).2.2.2=out++mrg n a b
 |0,a,b,out,ha,hb,hn,ho=>by
  have h1:a=[]:=List.eq_nil_of_length_eq_zero (by omega)
  have h2:b=[]:=List.eq_nil_of_length_eq_zero (by omega)
  subst h1 h2
  refine⟨⟨Btj ha hb (by omega),?_⟩,(List.append_nil out).symm⟩
  show(!An l [] [] out)=false
  rw[A4w]
  rfl
 | n + 1,a,b,out,ha,hb,hn,ho=>by
  have key:∀(a' b' out':List TRow),An l a b out=false→AX (l,a,b,out)=(l,a',b',out')→Stt l a'→Stt l b'→a'.length+b'.length≤n→out'.length=out.length+1→out'++mrg n a' b'=out++mrg (n+1) a b→
    AL AX AW Eu (n+1) (l,a,b,out)∧(A9 AX AW (n+1) (l,a,b,out)).2.2.2=out++mrg (n+1) a b:=fun a' b' out' hk e h1 h2 h3 h4 h5=>by
   obtain⟨i1,i2⟩:=Bm3 l n a' b' out' h1 h2 h3 (by omega)
   have hg:Bp (AW (l,a,b,out))=true:=by
    show(!An l a b out)=true
    rw[hk]
    rfl
   refine⟨⟨Btj ha hb (by omega),fun _=>by rw[e];exact i1⟩,?_⟩
   show(bif Bp (AW (l,a,b,out)) then A9 AX AW n (AX (l,a,b,out)) else(l,a,b,out)).2.2.2=_
   rw[hg,cond_true,e,i2]
   exact h5
  cases a with
  | nil=>
   cases b with
   | nil=>
    have hg:Bp (AW (l,[],[],out))=false:=by
     show(!An l [] [] out)=false
     rw[A4w]
     rfl
    refine⟨⟨Btj ha hb (by omega),fun h=>by rw[hg] at h;cases h⟩,?_⟩
    show(bif Bp (AW (l,[],[],out)) then A9 AX AW n (AX (l,[],[],out)) else(l,[],[],out)).2.2.2=_
    rw[hg,cond_false]
    exact(List.append_nil out).symm
   |cons y b=>
    refine key [] b (out++[y]) (by rw[A4w];rfl) ?_ ha hb.tail (by simp at hn⊢;omega) (by simp) (by rw[List.append_assoc];rfl)
    have k0:Aq l [] (y::b) out=false:=by rw[Bea];rfl
    have k4:AD l [] (y::b) out=true:=by rw[Bti];rfl
    show(l,B5 l [] (y::b) out,B8 l [] (y::b) out,B9 l [] (y::b) out)=_
    unfold B5 B8 B9 Gs
    rw[k0,k4,A4x]
    rfl
  | cons x a=>
   cases b with
   |nil=>
    refine key a [] (out++[x]) (by rw[A4w];rfl) ?_ ha.tail hb (by simp at hn⊢;omega) (by simp) (by rw[List.append_assoc];rfl)
    have k0:Aq l (x::a) [] out=true:=by rw[Bea];rfl
    show(l,B5 l (x::a) [] out,B8 l (x::a) [] out,B9 l (x::a) [] out)=_
    unfold B5 B8 B9 Gr
    rw[k0,A4x]
    rfl
   | cons y b=>
    have kk:An l (x::a) (y::b) out=false:=by rw[A4w];rfl
    have k0:Aq l (x::a) (y::b) out=IY x.key y.key:=by rw[Bea];rfl
    have k4:AD l (x::a) (y::b) out=IY y.key x.key:=by rw[Bti];rfl
    have em:mrg (n+1) (x::a) (y::b)=bif IY x.key y.key then x::mrg n a (y::b) else bif IY y.key x.key then y::mrg n (x::a) b else jnR x y::mrg n a b:=rfl
    have en:AX (l,x::a,y::b,out)=(l,B5 l (x::a) (y::b) out,B8 l (x::a) (y::b) out,B9 l (x::a) (y::b) out):=rfl
    cases h1:IY x.key y.key with
    |true=>
     refine key a (y::b) (out++[x]) kk ?_ ha.tail hb (by simp at hn⊢;omega) (by simp) (by rw[em,h1,cond_true,List.append_assoc];rfl)
     rw[en]
     unfold B5 B8 B9 Gr
     rw[k0,h1,A4x]
     rfl
    | false=>
     cases h2:IY y.key x.key with
     |true=>
      refine key (x::a) b (out++[y]) kk ?_ ha hb.tail (by simp at hn⊢;omega) (by simp) (by rw[em,h1,h2,cond_false,cond_true,List.append_assoc];rfl)
      rw[en]
      unfold B5 B8 B9 Gs
      rw[k0,k4,h1,h2,A4x]
      rfl
     | false=>
      refine key a b (out++[jnR x y]) kk ?_ ha.tail hb.tail (by simp at hn⊢;omega) (by simp) (by rw[em,h1,h2,cond_false,cond_false,List.append_assoc];rfl)
      have hj:jnE l x y=0:=Bdm.2 ⟨(ha.good x (List.mem_cons_self ..)).1,(hb.good y (List.mem_cons_self ..)).1,A7j h1 h2⟩
      have ej:TRow.mk (jnK l x y) (jnL l x y)=jnR x y:=by
       unfold jnK jnL
       rw[hj]
       rfl
      rw[en]
      unfold B5 B8 B9 Gr Gs
      rw[k0,k4,h1,h2,A4x,A4x,←ej]
      rfl
theorem Axl (a0:List TGroup) (a1 a2:List TRow) (hp:∀p∈UX a0 a1 a2,p):CallOk Try.prog 143 [.sl .group a0,Ak .rows a1,Ak .rows a2] 0 [] 1 (Xj a0 a1 a2) 1 (Xi a0 a1 a2):=by
 obtain⟨h1,h2,h3⟩:=hp _ (List.mem_cons_self ..)
 obtain⟨g1,g2⟩:=Bm3 a0 (a1.length+a2.length) a1 a2 [] h1 h2 (Nat.le_refl _) (by rw[List.length_nil];omega)
 have h:=A2a a0 a1 a2 (Aa g1 Ab)
 have e:Aag a0 a1 a2=mrg (a1.length+a2.length) a1 a2:=g2
 unfold Rr at h
 rw[e] at h
 exact h
def Rs:List A→Nat→Objs→Option A8
 | [y0,y1,y2],nx,o=>match Kp .group y0,AP .rows y1,AP .rows y2 with
  |some a0,some (a1,p1),some (a2,p2)=>some (1,(Xj a0 a1 a2).pk (AF nx),nx+1,AE nx (Xi a0 a1 a2)++o,p1++(p2++(UX a0 a1 a2)))
  |_,_,_=>none
 |_,_,_=>none
theorem Asm:Fu Try.prog 143 Rs:=fun args nx o k x nx' o' ps h=>by
 unfold Rs at h
 split at h<;>first|(cases h;done)|skip
 split at h<;>first|(cases h;done)|skip
 rename_i a0 a1 p1 a2 p2 e0 e1 e2
 cases h
 refine⟨fun hp=>?_,_,rfl⟩
 have q1:=fun p hm=>hp p (List.mem_append.2 (.inl hm))
 have r1:=fun p hm=>hp p (List.mem_append.2 (.inr hm))
 have q2:=fun p hm=>r1 p (List.mem_append.2 (.inl hm))
 have r2:=fun p hm=>r1 p (List.mem_append.2 (.inr hm))
 refine Ah (Ag (Axl a0 a1 a2 r2) (Nat.le_refl _) (Ac rfl (Ac (Af _ _) (Ac (Af _ _) Ao))) nx o) fun F N R vs hl=>?_
 obtain⟨v0,w0,rfl,h0,hl⟩:=hl.inv
 obtain⟨v1,w1,rfl,h1,hl⟩:=hl.inv
 obtain⟨v2,w2,rfl,h2,hl⟩:=hl.inv
 exact HL.cons (Cx e0 h0) (HL.cons (Am e1 q1 h1) (HL.cons (Am e2 q2 h2) (hl)))
noncomputable def Brd:=A5 143 Rs Bbh
theorem Bbi:Df Try.prog Brd:=Av Asm Auz
def Hp (a0:TRow):List TCell:=[]++a0.2
def Aed (a0:TRow):A:=.agg [.v (.string a0.1),.sq 0]
def Aec (a0:TRow):Objs:=[(0,some (.arr 55 8 (.ty .cell (Hp a0))))]
def Ap9 (a0:TRow):List Prop:=[(Ai ((0:Nat)+a0.2.length))]
set_option maxRecDepth 100000 in
theorem Bfe (a0:TRow):EU (AA Brd L0) 9 46 [Ak .row a0] 0 []=some (1,Aed a0,1,Aec a0,[(Ai ((0:Nat)+a0.2.length))]):=by kernel_rfl
set_option maxRecDepth 100000 in
theorem Bji (a0:TRow) (hp:∀p∈Ap9 a0,p):CallOk Try.prog 46 [Ak .row a0] 0 [] 1 (Aed a0) 1 (Aec a0):=by
 have n0:=N0 hp
 exact AH (Aw Bbi AG) (Bfe a0) (Aa n0 Ab)
def Aee:List A→Nat→Objs→Option A8
 | [y0],nx,o=>match AP .row y0 with
  |some (a0,p0)=>some (1,(Aed a0).pk (AF nx),nx+1,AE nx (Aec a0)++o,p0++(Ap9 a0))
  |_=>none
 |_,_,_=>none
theorem A89:Fu Try.prog 46 Aee:=fun args nx o k x nx' o' ps h=>by
 unfold Aee at h
 split at h<;>first|(cases h;done)|skip
 split at h<;>first|(cases h;done)|skip
 rename_i a0 p0 e0
 cases h
 refine⟨fun hp=>?_,_,rfl⟩
 have q0:=fun p hm=>hp p (List.mem_append.2 (.inl hm))
 have r0:=fun p hm=>hp p (List.mem_append.2 (.inr hm))
 refine Ah (Ag (Bji a0 r0) (Nat.le_refl _) (Ac (Af _ _) Ao) nx o) fun F N R vs hl=>?_
 obtain⟨v0,w0,rfl,h0,hl⟩:=hl.inv
 exact HL.cons (Am e0 q0 h0) (hl)
noncomputable def Bbj:=A5 46 Aee Brd
theorem Au0:Df Try.prog Bbj:=Av A89 Bbi
abbrev C9:Type:=Int×TRow×ByteArray×(List TCell)
def ML (x:C9):St:=⟨56,6,[(5,.own 1 0),(9,.own 4 0),(10,.v (.int .i64 x.1))],[(1,some (.box 71 [.v (.string x.2.1.key),.sl .cell x.2.1.cells])),(4,some (.box 71 [.v (.string x.2.2.1),.sq 5])),(5,some (.arr 55 8 (.ty .cell x.2.2.2)))]⟩
def Ps:St→Option C9
 |⟨56,6,[(5,.own 1 0),(9,.own 4 0),(10,.v (.int .i64 z0))],[(1,some (.box 71 [.v (.string z1),.sl .cell z2])),(4,some (.box 71 [.v (.string z3),.sq 5])),(5,some (.arr 55 8 (.ty .cell z4)))]⟩=>some (z0,⟨z1,z2⟩,z3,z4)
 |_=>none
theorem Amx:∀s x,Ps s=some x→s=ML x:=fun s x h=>by
 unfold Ps at h
 split at h
 ·cases h;rfl
 ·cases h
def Aa3:De:=⟨5,6,[5,9,10],[],[(1,1),(4,4),(5,5)],[1,4,5],[],[1,4,5]⟩
def A2y:Dy:=⟨[],[(1,1),(4,4),(3,5)],[5,9,10],[1,4,3]⟩
def BF (a0:Int) (_a1:TRow) (_a2:ByteArray) (a3:List TCell):Bool:=!!decide (a0 <(↑a3.length:Int))
def Nz (a0:Int) (a1:TRow) (_a2:ByteArray) (a3:List TCell):List TCell:=a3.set a0.toNat (Kh (a3.getD a0.toNat (Ae TC.cell)) (a1.2.getD a0.toNat (Ae TC.cell)))
def Fd (x:C9):C9:=(IntKind.i64.wrap (x.1+(1:Int)),x.2.1,x.2.2.1,Nz x.1 x.2.1 x.2.2.1 x.2.2.2)
def Fc (x:C9):Cnd:=some ((BF x.1 x.2.1 x.2.2.1 x.2.2.2))
def Vl (x:C9):List Prop:=[((BF x.1 x.2.1 x.2.2.1 x.2.2.2)=true→(0:Int)≤x.1∧x.1 <(↑x.2.2.2.length:Int)),((BF x.1 x.2.1 x.2.2.1 x.2.2.2)=true→x.1.toNat <x.2.2.2.length),((BF x.1 x.2.1 x.2.2.1 x.2.2.2)=true→(0:Int)≤x.1∧x.1 <(↑x.2.1.2.length:Int)),((BF x.1 x.2.1 x.2.2.1 x.2.2.2)=true→(0:Int)≤x.1∧x.1 <(↑x.2.2.2.length:Int)),((BF x.1 x.2.1 x.2.2.1 x.2.2.2)=true→x.1.toNat <x.2.2.2.length)]
def Ir (x:C9):List Prop:=[((BF x.1 x.2.1 x.2.2.1 x.2.2.2)=true→(0:Int)≤x.1∧x.1 <(↑x.2.2.2.length:Int)),((BF x.1 x.2.1 x.2.2.1 x.2.2.2)=true→(0:Int)≤x.1∧x.1 <(↑x.2.1.2.length:Int))]
def Tc (x:C9):Bl:=[(some 0,some (!decide (x.1 <(↑x.2.2.2.length:Int))),⟨56,6,[],[(1,some (.box 71 [.v (.string x.2.1.1),.sl .cell x.2.1.2])),(4,some (.box 71 [.v (.string x.2.2.1),.sq 5])),(5,some (.arr 55 8 (.ty .cell x.2.2.2)))]⟩)]
def GV (x:C9):Nat:=((↑x.2.2.2.length:Int) - x.1).toNat
def I1 (x:C9):C9:=A9 Fd Fc (GV x) x
set_option maxRecDepth 100000 in
theorem Azm (a0:Int) (a1:TRow) (a2:ByteArray) (a3:List TCell):Bx (AA Bbj L0) 9 (Aj Try.prog 74 0) Aa3 (ML (a0,a1,a2,a3))=some (Vl (a0,a1,a2,a3),Tc (a0,a1,a2,a3),Fc (a0,a1,a2,a3),ML (Fd (a0,a1,a2,a3))):=by kernel_rfl
set_option maxRecDepth 100000 in
theorem Azn (a0:Int) (a1:TRow) (a2:ByteArray) (a3:List TCell) (hp:∀p∈Ir (a0,a1,a2,a3),p):∀p∈Vl (a0,a1,a2,a3),p:=by
 have n0:((BF a0 a1 a2 a3)=true→(0:Int)≤a0∧a0 <(↑a3.length:Int)):=N0 hp
 have n1:((BF a0 a1 a2 a3)=true→a0.toNat <a3.length):=by intro h0;have g:=n0 h0;omega
 have n2:=N0 (N1 hp)
 exact(Aa n0 (Aa n1 (Aa n2 (Aa n0 (Aa n1 Ab)))))
noncomputable def Vm:=HU (AA Bbj L0) (Aj Try.prog 74 0) Aa3 A2y Ps GV Fd Fc Ir Tc
theorem Atg:∀s b ps outs,Vm s=some (b,ps,outs)→Wf s ⟨ps,outs,none⟩∧Bs (AA C0 L0) b s ps outs:=
 Bi (T:=ML) Au0 AG (u:=9) (by kernel_rfl) (by decide) (fun⟨a0,a1,a2,a3⟩=>Azm a0 a1 a2 a3) (fun⟨a0,a1,a2,a3⟩=>Azn a0 a1 a2 a3) Amx (fun _=>AR (n:=56) rfl) fun _ _=>rfl
noncomputable def Aa2:=DG 0 Vm L0
theorem Atf:Hs Aa2:=A3 Atg AG
def D6 (_a0:List TGroup) (a1:TRow) (a2:TRow):Bool:=!a1.1.toList==a2.1.toList
def C3 (a0:List TGroup) (_a1:TRow) (a2:TRow):Bool:=Ap a0 a2 !=(0:Int)
def BS (a0:List TGroup) (a1:TRow) (_a2:TRow):Bool:=Ap a0 a1 !=(0:Int)
def Aei (a0:List TGroup) (a1:TRow) (a2:TRow):ByteArray:=bif(BS a0 a1 a2) then ByteArray.mk #[] else bif(C3 a0 a1 a2) then ByteArray.mk #[] else bif(D6 a0 a1 a2) then ByteArray.mk #[] else(I1 ((0:Int),a2,a1.1,Hp a1)).snd.snd.fst
def Ul (a0:List TGroup) (a1:TRow) (a2:TRow):Int:=bif(BS a0 a1 a2) then Ap a0 a1 else bif(C3 a0 a1 a2) then Ap a0 a2 else bif(D6 a0 a1 a2) then(100:Int) else(0:Int)
def Aej (a0:List TGroup) (a1:TRow) (a2:TRow):List TCell:=bif(BS a0 a1 a2) then[] else bif(C3 a0 a1 a2) then[] else bif(D6 a0 a1 a2) then[] else(I1 ((0:Int),a2,a1.1,Hp a1)).snd.snd.snd
def Ael (a0:List TGroup) (a1:TRow) (a2:TRow):A:=.tup [.agg [.v (.string (Aei a0 a1 a2)),.sq 0],.v (.int .i64 (Ul a0 a1 a2))]
def Aek (a0:List TGroup) (a1:TRow) (a2:TRow):Objs:=[(0,some (.arr 55 8 (.ty .cell (Aej a0 a1 a2))))]
def Bfk (a0:List TGroup) (a1:TRow) (a2:TRow):List Prop:=[(∀(g:TGroup),g∈a0→Az g.1.size),((!(BS a0 a1 a2))=true→∀(g:TGroup),g∈a0→Az g.1.size),((!(BS a0 a1 a2))=true→(!(C3 a0 a1 a2))=true→(!(D6 a0 a1 a2))=true→Ai ((0:Nat)+a1.2.length)),((!(BS a0 a1 a2))=true→(!(C3 a0 a1 a2))=true→(!(D6 a0 a1 a2))=true→AL Fd Fc Ir (GV ((0:Int),a2,a1.1,Hp a1)) ((0:Int),a2,a1.1,Hp a1))]
set_option maxRecDepth 100000 in
theorem Bfj (a0:List TGroup) (a1:TRow) (a2:TRow):EU (AA Bbj Aa2) 9 74 [.sl .group a0,Ak .row a1,Ak .row a2] 0 []=some (1,Ael a0 a1 a2,1,Aek a0 a1 a2,[(∀(g:TGroup),g∈a0→Az g.1.size),((!(BS a0 a1 a2))=true→∀(g:TGroup),g∈a0→Az g.1.size),((!(BS a0 a1 a2))=true→(!(C3 a0 a1 a2))=true→(!(D6 a0 a1 a2))=true→Ai ((0:Nat)+a1.2.length)),((!(BS a0 a1 a2))=true→(!(C3 a0 a1 a2))=true→(!(D6 a0 a1 a2))=true→Aj Try.prog (74:FuncId) (0:Nat)=Aj Try.prog (74:FuncId) (0:Nat)),((!(BS a0 a1 a2))=true→(!(C3 a0 a1 a2))=true→(!(D6 a0 a1 a2))=true→AL Fd Fc Ir (GV ((0:Int),a2,a1.1,Hp a1)) ((0:Int),a2,a1.1,Hp a1))]):=by kernel_rfl
set_option maxRecDepth 100000 in
theorem Bjk (a0:List TGroup) (a1:TRow) (a2:TRow) (hp:∀p∈Bfk a0 a1 a2,p):CallOk Try.prog 74 [.sl .group a0,Ak .row a1,Ak .row a2] 0 [] 1 (Ael a0 a1 a2) 1 (Aek a0 a1 a2):=by
 have n0:=N0 hp
 have n1:=N0 (N1 hp)
 have n2:=N0 (N1 (N1 hp))
 have n3:((!(BS a0 a1 a2))=true→(!(C3 a0 a1 a2))=true→(!(D6 a0 a1 a2))=true→Aj Try.prog (74:FuncId) (0:Nat)=Aj Try.prog (74:FuncId) (0:Nat)):=by intros;rfl
 have n4:=N0 (N1 (N1 (N1 hp)))
 exact AH (Aw Au0 Atf) (Bfj a0 a1 a2) (Aa n0 (Aa n1 (Aa n2 (Aa n3 (Aa n4 Ab)))))
def Aqh (a0:List TGroup) (a1:TRow) (a2:TRow):A:=.tup [.agg [.v (.string (jnK a0 a1 a2)),.sq 0],.v (.int .i64 (jnE a0 a1 a2))]
def Aqg (a0:List TGroup) (a1:TRow) (a2:TRow):Objs:=[(0,some (.arr 55 8 (.ty .cell (jnL a0 a1 a2))))]
def Ai3 (a0:List TGroup) (_a1:TRow) (_a2:TRow):List Prop:=[∀g∈a0,Az g.1.size]
theorem Ane {l:List TGroup} {a b:TRow} (ha:Ap l a=0) (hb:Ap l b=0):
  AL Fd Fc Ir (GV (0,b,a.key,a.cells)) (0,b,a.key,a.cells)∧I1 (0,b,a.key,a.cells)=((a.cells.length:Int),b,a.key,jnN a.cells b.cells a.cells.length):=by
 have h1:=(AV ha).2.1
 have h2:=(AV hb).2.1
 have h4:=(Hr (AV ha).1).2
 have hlen:=fun i=>Ag1 a.cells b.cells i
 obtain⟨h5,k,hk,hx,_,hst,_⟩:=I6 (fun i=>((i:Int),b,a.key,jnN a.cells b.cells i):Nat→C9) a.cells.length (fun _=>false) Fd Fc Ir (GV (0,b,a.key,a.cells)) (0,b,a.key,a.cells) rfl (by show a.cells.length≤((a.cells.length:Int) - 0).toNat;omega)
  (fun i _ _=>by
   show(!!decide ((i:Int) <((jnN a.cells b.cells i).length:Int)))=_
   rw[nn,hlen,MA,Bool.not_false,Bool.and_true])
  (fun i hi _=>by
   show(IntKind.i64.wrap ((i:Int)+1),b,a.key,Nz (i:Int) b a.key (jnN a.cells b.cells i))=(((i+1:Nat):Int),b,a.key,jnN a.cells b.cells (i+1))
   unfold Nz
   rw[ES (by omega),Int.toNat_natCast]
   show(_,_,_,(jnN a.cells b.cells i).set i (Kh (Gk (jnN a.cells b.cells i) i) (Gk b.cells i)))=(_,_,_,(jnN a.cells b.cells i).set i (Lm (Gk (jnN a.cells b.cells i) i) (Gk b.cells i)))
   have e:Gk (jnN a.cells b.cells i) i=Gk a.cells i:=by
    rw[Bh8 a.cells b.cells i hi i,decide_eq_false (Nat.lt_irrefl i)]
    rfl
   rw[e,A4q (JB ha (by omega:i <l.length))])
  (fun i hi _=>by
   have hin:BF (i:Int) b a.key (jnN a.cells b.cells i)=true→(i:Int) <((jnN a.cells b.cells i).length:Int):=fun h=>by
    unfold BF at h
    rw[nn] at h
    exact of_decide_eq_true h
   refine Aa (fun h=>⟨by show(0:Int)≤(i:Int);omega,hin h⟩) (Aa (fun h=>⟨by show(0:Int)≤(i:Int);omega,?_⟩) Ab)
   have:=hin h
   rw[hlen] at this
   show(i:Int) <(b.cells.length:Int)
   omega)
 have hkn:k=a.cells.length:=by
  rcases Nat.lt_or_ge k a.cells.length with h|h
  ·exact absurd (hst h) (by decide)
  ·omega
 subst hkn
 exact⟨h5,hx⟩
theorem Bxy (l:List TGroup) (a b:TRow):Ul l a b=jnE l a b∧Aei l a b=jnK l a b∧Aej l a b=jnL l a b:=by
 have hkey:D6 l a b=!(a.key==b.key):=by
  unfold D6
  rw[tlb]
 have e1:Ul l a b=jnE l a b:=by
  unfold Ul jnE
  rw[hkey]
  rfl
 have split:∀{α:Type} (z:α) (f:α),(bif BS l a b then z else bif C3 l a b then z else bif D6 l a b then z else f)=bif jnE l a b==0 then f else z:=fun z f=>by
  by_cases h:jnE l a b=0
  ·obtain⟨h1,h2,h3⟩:=Bdm.1 h
   have k0:BS l a b=false:=by unfold BS;rw[h1];rfl
   have k1:C3 l a b=false:=by unfold C3;rw[h2];rfl
   rw[k0,k1,hkey,h3,beq_self_eq_true,h]
   rfl
  ·have hne:(jnE l a b==0)=false:=by simpa using h
   rw[hne,cond_false]
   cases h1:BS l a b with
   |true=>rfl
   | false=>
    cases h2:C3 l a b with
    |true=>rfl
    | false=>
     cases h3:D6 l a b with
     |true=>rfl
     |false=>
      rw[hkey] at h3
      refine absurd (Bdm.2 ⟨?_,?_,?_⟩) h
      ·unfold BS at h1;simpa using h1
      ·unfold C3 at h2;simpa using h2
      ·simpa using h3
 refine⟨e1,?_,?_⟩
 ·unfold Aei
  rw[split]
  unfold jnK
  by_cases h:jnE l a b=0
  ·obtain⟨h1,h2,h3⟩:=Bdm.1 h
   rw[h]
   show(I1 (0,b,a.key,a.cells)).snd.snd.fst=a.key
   rw[(Ane h1 h2).2]
  ·have hne:(jnE l a b==0)=false:=by simpa using h
   rw[hne]
   rfl
 ·unfold Aej
  rw[split]
  unfold jnL
  by_cases h:jnE l a b=0
  ·obtain⟨h1,h2,h3⟩:=Bdm.1 h
   have hl:a.cells.length=b.cells.length:=(AV h1).2.1.trans (AV h2).2.1.symm
   rw[h]
   show(I1 (0,b,a.key,a.cells)).snd.snd.snd=jnN a.cells b.cells b.cells.length
   rw[(Ane h1 h2).2,hl]
  ·have hne:(jnE l a b==0)=false:=by simpa using h
   rw[hne]
   rfl
theorem Bfi (a0:List TGroup) (a1:TRow) (a2:TRow) (hp:∀p∈Ai3 a0 a1 a2,p):CallOk Try.prog 74 [.sl .group a0,Ak .row a1,Ak .row a2] 0 [] 1 (Aqh a0 a1 a2) 1 (Aqg a0 a1 a2):=by
 have hw:∀g∈a0,Az g.1.size:=hp _ (List.mem_cons_self ..)
 have g1:(!(BS a0 a1 a2))=true→Ap a0 a1=0:=fun h=>by
  have h':(!(Ap a0 a1 !=0))=true:=h
  simpa using h'
 have g2:(!(C3 a0 a1 a2))=true→Ap a0 a2=0:=fun h=>by
  have h':(!(Ap a0 a2 !=0))=true:=h
  simpa using h'
 have h:=Bjk a0 a1 a2 (Aa hw (Aa (fun _=>hw) (Aa (fun h _ _=>by
  have q1:=(AV (g1 h)).2.1
  have q2:=(Hr (AV (g1 h)).1).2
  have q3:a1.2.length=a0.length:=q1
  unfold Ai
  omega) (Aa (fun h h2 _=>(Ane (g1 h) (g2 h2)).1) Ab))))
 obtain⟨e1,e2,e3⟩:=Bxy a0 a1 a2
 unfold Ael Aek at h
 rw[e1,e2,e3] at h
 exact h
def Aem:List A→Nat→Objs→Option A8
 | [y0,y1,y2],nx,o=>match Kp .group y0,AP .row y1,AP .row y2 with
  |some a0,some (a1,p1),some (a2,p2)=>some (1,(Aqh a0 a1 a2).pk (AF nx),nx+1,AE nx (Aqg a0 a1 a2)++o,p1++(p2++(Ai3 a0 a1 a2)))
  |_,_,_=>none
 |_,_,_=>none
theorem A9e:Fu Try.prog 74 Aem:=fun args nx o k x nx' o' ps h=>by
 unfold Aem at h
 split at h<;>first|(cases h;done)|skip
 split at h<;>first|(cases h;done)|skip
 rename_i a0 a1 p1 a2 p2 e0 e1 e2
 cases h
 refine⟨fun hp=>?_,_,rfl⟩
 have q1:=fun p hm=>hp p (List.mem_append.2 (.inl hm))
 have r1:=fun p hm=>hp p (List.mem_append.2 (.inr hm))
 have q2:=fun p hm=>r1 p (List.mem_append.2 (.inl hm))
 have r2:=fun p hm=>r1 p (List.mem_append.2 (.inr hm))
 refine Ah (Ag (Bfi a0 a1 a2 r2) (Nat.le_refl _) (Ac rfl (Ac (Af _ _) (Ac (Af _ _) Ao))) nx o) fun F N R vs hl=>?_
 obtain⟨v0,w0,rfl,h0,hl⟩:=hl.inv
 obtain⟨v1,w1,rfl,h1,hl⟩:=hl.inv
 obtain⟨v2,w2,rfl,h2,hl⟩:=hl.inv
 exact HL.cons (Cx e0 h0) (HL.cons (Am e1 q1 h1) (HL.cons (Am e2 q2 h2) (hl)))
noncomputable def Bbk:=A5 74 Aem Bbj
theorem Au1:Df Try.prog Bbk:=Av A9e Au0
abbrev DP:Type:=(List TRow)×ByteArray×Int×ByteArray
def N9 (x:DP):St:=⟨26,1,[(0,.sl .row x.1),(1,.v (.string x.2.1)),(4,.own 0 0),(6,.v (.int .i64 x.2.2.1))],[(0,some (.box 71 [.v (.string x.2.2.2),.v (.slice none 0 0)]))]⟩
def RI:St→Option DP
 |⟨26,1,[(0,.sl .row z0),(1,.v (.string z1)),(4,.own 0 0),(6,.v (.int .i64 z2))],[(0,some (.box 71 [.v (.string z3),.v (.slice none 0 0)]))]⟩=>some (z0,z1,z2,z3)
 |_=>none
theorem Att:∀s x,RI s=some x→s=N9 x:=fun s x h=>by
 unfold RI at h
 split at h
 ·cases h;rfl
 ·cases h
def Ajd:De:=⟨1,1,[0,1,4,6],[],[(0,0)],[0],[5],[0,1]⟩
def A9j:Dy:=⟨[],[(0,0)],[0,1,4,6],[0]⟩
def DQ (a0:List TRow) (_a1:ByteArray) (a2:Int) (_a3:ByteArray):Bool:=!!decide (a2 <(↑a0.length:Int))
def Gh (a0:List TRow) (a1:ByteArray) (a2:Int) (a3:ByteArray):Bool:=(DQ a0 a1 a2 a3)&&(a0.getD a2.toNat (Ae TC.row)).1.toList==a1.toList
def Az0 (a0:List TRow) (a1:ByteArray) (a2:Int) (a3:ByteArray):Bool:=(DQ a0 a1 a2 a3)&&!(Gh a0 a1 a2 a3)
def KH (a0:List TRow) (_a1:ByteArray) (a2:Int) (_a3:ByteArray):ByteArray:=(a0.getD a2.toNat (Ae TC.row)).1
def KI (a0:List TRow) (_a1:ByteArray) (a2:Int) (_a3:ByteArray):List TCell:=Hp (a0.getD a2.toNat (Ae TC.row))
def HE (x:DP):DP:=(x.1,x.2.1,IntKind.i64.wrap (x.2.2.1+(1:Int)),x.2.2.2)
def HD (x:DP):Cnd:=some (Az0 x.1 x.2.1 x.2.2.1 x.2.2.2)
def Yd (x:DP):List Prop:=[((DQ x.1 x.2.1 x.2.2.1 x.2.2.2)=true→(0:Int)≤x.2.2.1∧x.2.2.1 <(↑x.1.length:Int)),((DQ x.1 x.2.1 x.2.2.1 x.2.2.2)=true→((x.1.getD x.2.2.1.toNat (Ae TC.row)).1.toList==x.2.1.toList)=true→(0:Int)≤x.2.2.1∧x.2.2.1 <(↑x.1.length:Int)),((DQ x.1 x.2.1 x.2.2.1 x.2.2.2)=true→((x.1.getD x.2.2.1.toNat (Ae TC.row)).1.toList==x.2.1.toList)=true→Ai ((0:Nat)+(x.1.getD x.2.2.1.toNat (Ae TC.row)).2.length))]
def Kw (x:DP):List Prop:=[((DQ x.1 x.2.1 x.2.2.1 x.2.2.2)=true→(0:Int)≤x.2.2.1∧x.2.2.1 <(↑x.1.length:Int)),((DQ x.1 x.2.1 x.2.2.1 x.2.2.2)=true→((x.1.getD x.2.2.1.toNat (Ae TC.row)).1.toList==x.2.1.toList)=true→(0:Int)≤x.2.2.1∧x.2.2.1 <(↑x.1.length:Int)),((DQ x.1 x.2.1 x.2.2.1 x.2.2.2)=true→((x.1.getD x.2.2.1.toNat (Ae TC.row)).1.toList==x.2.1.toList)=true→Ai ((0:Nat)+(x.1.getD x.2.2.1.toNat (Ae TC.row)).2.length))]
def Vv (x:DP):Bl:=[(some 0,some (!decide (x.2.2.1 <(↑x.1.length:Int))),⟨26,1,[(5,.dead)],[(0,some (.box 71 [.v (.string x.2.2.2),.v (.slice none 0 0)])),(1,none)]⟩),(none,some ((Gh x.1 x.2.1 x.2.2.1 x.2.2.2)),⟨26,2,[(5,.v (.bool (true)))],[(0,some (.box 71 [.v (.string (KH x.1 x.2.1 x.2.2.1 x.2.2.2)),.sq 1])),(1,some (.arr 55 8 (.ty .cell (KI x.1 x.2.1 x.2.2.1 x.2.2.2))))]⟩)]
def I3 (x:DP):Nat:=((↑x.1.length:Int) - x.2.2.1).toNat
def JS (x:DP):DP:=A9 HE HD (I3 x) x
set_option maxRecDepth 100000 in
theorem A22 (a0:List TRow) (a1:ByteArray) (a2:Int) (a3:ByteArray):Bx (AA Bbk L0) 9 (Aj Try.prog 148 0) Ajd (N9 (a0,a1,a2,a3))=some (Yd (a0,a1,a2,a3),Vv (a0,a1,a2,a3),HD (a0,a1,a2,a3),N9 (HE (a0,a1,a2,a3))):=by kernel_rfl
set_option maxRecDepth 100000 in
theorem A23 (a0:List TRow) (a1:ByteArray) (a2:Int) (a3:ByteArray) (hp:∀p∈Kw (a0,a1,a2,a3),p):∀p∈Yd (a0,a1,a2,a3),p:=by
 have n0:=N0 hp
 have n1:=N0 (N1 hp)
 have n2:=N0 (N1 (N1 hp))
 exact(Aa n0 (Aa n1 (Aa n2 Ab)))
noncomputable def Ye:=HU (AA Bbk L0) (Aj Try.prog 148 0) Ajd A9j RI I3 HE HD Kw Vv
theorem Az1:∀s b ps outs,Ye s=some (b,ps,outs)→Wf s ⟨ps,outs,none⟩∧Bs (AA C0 L0) b s ps outs:=
 Bi (T:=N9) Au1 AG (u:=9) (by kernel_rfl) (by decide) (fun⟨a0,a1,a2,a3⟩=>A22 a0 a1 a2 a3) (fun⟨a0,a1,a2,a3⟩=>A23 a0 a1 a2 a3) Att (fun _=>AR (n:=26) rfl) fun _ _=>rfl
noncomputable def Ajc:=DG 0 Ye L0
theorem Azz:Hs Ajc:=A3 Az1 AG
def PC (a0:List TRow) (a1:ByteArray):List TRow:=(JS (a0,a1,(0:Int),ByteArray.mk #[])).fst
def PB (a0:List TRow) (a1:ByteArray):ByteArray:=(JS (a0,a1,(0:Int),ByteArray.mk #[])).snd.fst
def PA (a0:List TRow) (a1:ByteArray):ByteArray:=(JS (a0,a1,(0:Int),ByteArray.mk #[])).snd.snd.snd
def Pz (a0:List TRow) (a1:ByteArray):Int:=(JS (a0,a1,(0:Int),ByteArray.mk #[])).snd.snd.fst
def Py (a0:List TRow) (a1:ByteArray):Bool:=Gh (PC a0 a1) (PB a0 a1) (Pz a0 a1) (PA a0 a1)
def Anf (a0:List TRow) (a1:ByteArray):ByteArray:=bif(Py a0 a1) then KH (PC a0 a1) (PB a0 a1) (Pz a0 a1) (PA a0 a1) else ByteArray.mk #[]
def Ang (a0:List TRow) (a1:ByteArray):Bool:=bif(Py a0 a1) then true else false
def Anh (a0:List TRow) (a1:ByteArray):List TCell:=bif(Py a0 a1) then KI (PC a0 a1) (PB a0 a1) (Pz a0 a1) (PA a0 a1) else[]
def Anj (a0:List TRow) (a1:ByteArray):A:=.tup [.agg [.v (.string (Anf a0 a1)),.sq 0],.v (.bool (Ang a0 a1))]
def Ani (a0:List TRow) (a1:ByteArray):Objs:=[(0,some (.arr 55 8 (.ty .cell (Anh a0 a1))))]
def Az3 (a0:List TRow) (a1:ByteArray):List Prop:=[(AL HE HD Kw (I3 (a0,a1,(0:Int),ByteArray.mk #[])) (a0,a1,(0:Int),ByteArray.mk #[]))]
set_option maxRecDepth 100000 in
theorem Bjv (a0:List TRow) (a1:ByteArray):EU (AA Bbk Ajc) 9 148 [Ak .rows a0,Ak .str a1] 0 []=some (1,Anj a0 a1,1,Ani a0 a1,[(Aj Try.prog (148:FuncId) (0:Nat)=Aj Try.prog (148:FuncId) (0:Nat)),(AL HE HD Kw (I3 (a0,a1,(0:Int),ByteArray.mk #[])) (a0,a1,(0:Int),ByteArray.mk #[]))]):=by kernel_rfl
set_option maxRecDepth 100000 in
theorem Bpe (a0:List TRow) (a1:ByteArray) (hp:∀p∈Az3 a0 a1,p):CallOk Try.prog 148 [Ak .rows a0,Ak .str a1] 0 [] 1 (Anj a0 a1) 1 (Ani a0 a1):=by
 have n1:=N0 hp
 exact AH (Aw Au1 Azz) (Bjv a0 a1) (Aa rfl (Aa n1 Ab))
def gtK (rows:List TRow) (key:ByteArray):ByteArray:=match Tw rows key with
 |some r=>r.key
 |none=>⟨#[]⟩
def gtC (rows:List TRow) (key:ByteArray):List TCell:=match Tw rows key with
 |some r=>r.cells
 |none=>[]
def gtB (rows:List TRow) (key:ByteArray):Bool:=match Tw rows key with
 |some _=>true
 |none=>false
def Az4 (a0:List TRow) (a1:ByteArray):A:=.tup [.agg [.v (.string (gtK a0 a1)),.sq 0],.v (.bool (gtB a0 a1))]
def Az2 (a0:List TRow) (a1:ByteArray):Objs:=[(0,some (.arr 55 8 (.ty .cell (gtC a0 a1))))]
def Aqr (a0:List TRow) (_a1:ByteArray):List Prop:=[Az a0.length,∀r∈a0,Ai r.cells.length]
theorem Bxz (rows:List TRow) (key:ByteArray) (hb:Az rows.length) (hc:∀r∈rows,Ai r.cells.length):(∀p∈Az3 rows key,p)∧Anf rows key=gtK rows key∧Ang rows key=gtB rows key∧Anh rows key=gtC rows key:=by
 unfold Az at hb
 have hk0:∀i:Nat,Gh rows key (i:Int) ⟨#[]⟩=(decide (i <rows.length)&&((BU rows i).key==key)):=fun i=>by
  unfold Gh DQ
  rw[nn,MA,tlb,Int.toNat_natCast]
  rfl
 obtain⟨h1,k,hk,hx,hs,hst,_⟩:=I6 (fun i=>((rows,key,(i:Int),⟨#[]⟩):DP)) rows.length (fun i=>(BU rows i).key==key) HE HD Kw (I3 (rows,key,0,⟨#[]⟩)) (rows,key,0,⟨#[]⟩) rfl (by show rows.length≤((rows.length:Int) - 0).toNat;omega)
  (fun i _ _=>by
   show((!!decide ((i:Int) <(rows.length:Int)))&&!Gh rows key (i:Int) ⟨#[]⟩)=_
   rw[hk0,nn,MA]
   cases decide (i <rows.length)<;>rfl)
  (fun i hi _=>by
   show(rows,key,IntKind.i64.wrap ((i:Int)+1),(⟨#[]⟩:ByteArray))=(rows,key,((i+1:Nat):Int),⟨#[]⟩)
   rw[ES (by omega)])
  (fun i hi _=>by
   have hin:(!!decide ((i:Int) <(rows.length:Int)))=true→(i:Int) <(rows.length:Int):=fun h=>by rw[nn] at h;exact of_decide_eq_true h
   refine Aa (fun h=>⟨by show(0:Int)≤(i:Int);omega,hin h⟩) (Aa (fun h _=>⟨by show(0:Int)≤(i:Int);omega,hin h⟩) (Aa (fun h _=>?_) Ab))
   have h2:=hin h
   show Ai (0+(rows.getD ((i:Int)).toNat (Ae TC.row)).2.length)
   rw[Int.toNat_natCast,Nat.zero_add]
   exact hc _ (getD_in rows (Ae TC.row) i (by omega)))
 have hr:JS (rows,key,0,⟨#[]⟩)=(rows,key,(k:Int),⟨#[]⟩):=hx
 have hat:=Bb2 key rows k hk hs hst
 refine⟨Aa h1 Ab,?_⟩
 have e0:Py rows key=decide (k <rows.length):=by
  unfold Py PC PB Pz PA
  rw[hr]
  show Gh rows key (k:Int) ⟨#[]⟩=_
  rw[hk0]
  rcases Nat.lt_or_ge k rows.length with h|h
  ·have h2:((BU rows k).key==key)=true:=hst h
   rw[decide_eq_true h,h2]
   rfl
  ·rw[decide_eq_false (by omega)]
   rfl
 unfold Anf Ang Anh gtK gtB gtC
 rw[e0,hat]
 unfold PC PB Pz PA
 rw[hr]
 by_cases h:k <rows.length
 ·rw[decide_eq_true h,if_pos h]
  show KH rows key (k:Int) ⟨#[]⟩=_∧true=true∧KI rows key (k:Int) ⟨#[]⟩=_
  unfold KH KI
  rw[Int.toNat_natCast]
  exact⟨rfl,rfl,rfl⟩
 ·rw[decide_eq_false h,if_neg h]
  exact⟨rfl,rfl,rfl⟩
theorem Bju (a0:List TRow) (a1:ByteArray) (hp:∀p∈Aqr a0 a1,p):CallOk Try.prog 148 [Ak .rows a0,Ak .str a1] 0 [] 1 (Az4 a0 a1) 1 (Az2 a0 a1):=by
 obtain⟨g1,e1,e2,e3⟩:=Bxz a0 a1 (hp _ (List.mem_cons_self ..)) (hp _ (List.mem_cons_of_mem _ (List.mem_cons_self ..)))
 have h:=Bpe a0 a1 g1
 unfold Anj Ani at h
 rw[e1,e2,e3] at h
 exact h
def Ank:List A→Nat→Objs→Option A8
 | [y0,y1],nx,o=>match AP .rows y0,AP .str y1 with
  |some (a0,p0),some (a1,p1)=>some (1,(Az4 a0 a1).pk (AF nx),nx+1,AE nx (Az2 a0 a1)++o,p0++(p1++(Aqr a0 a1)))
  |_,_=>none
 |_,_,_=>none
theorem Bft:Fu Try.prog 148 Ank:=fun args nx o k x nx' o' ps h=>by
 unfold Ank at h
 split at h<;>first|(cases h;done)|skip
 split at h<;>first|(cases h;done)|skip
 rename_i a0 p0 a1 p1 e0 e1
 cases h
 refine⟨fun hp=>?_,_,rfl⟩
 have q0:=fun p hm=>hp p (List.mem_append.2 (.inl hm))
 have r0:=fun p hm=>hp p (List.mem_append.2 (.inr hm))
 have q1:=fun p hm=>r0 p (List.mem_append.2 (.inl hm))
 have r1:=fun p hm=>r0 p (List.mem_append.2 (.inr hm))
 refine Ah (Ag (Bju a0 a1 r1) (Nat.le_refl _) (Ac (Af _ _) (Ac (Af _ _) Ao)) nx o) fun F N R vs hl=>?_
 obtain⟨v0,w0,rfl,h0,hl⟩:=hl.inv
 obtain⟨v1,w1,rfl,h1,hl⟩:=hl.inv
 exact HL.cons (Am e0 q0 h0) (HL.cons (Am e1 q1 h1) (hl))
noncomputable def Bbl:=A5 148 Ank Bbk
theorem Au2:Df Try.prog Bbl:=Av Bft Au1
abbrev DR:Type:=(List TRow)×Bool×Int×TRow×(List TRow)
def Oa (x:DR):St:=⟨54,3,[(0,.sl .row x.1),(3,.own 0 0),(5,.sq 2),(6,.v (.bool x.2.1)),(7,.v (.int .i64 x.2.2.1))],[(0,some (.box 71 [.v (.string x.2.2.2.1.key),.sl .cell x.2.2.2.1.cells])),(2,some (.arr 71 2 (.ty .row x.2.2.2.2)))]⟩
def RJ:St→Option DR
 |⟨54,3,[(0,.sl .row z0),(3,.own 0 0),(5,.sq 2),(6,.v (.bool z1)),(7,.v (.int .i64 z2))],[(0,some (.box 71 [.v (.string z3),.sl .cell z4])),(2,some (.arr 71 2 (.ty .row z5)))]⟩=>some (z0,z1,z2,⟨z3,z4⟩,z5)
 |_=>none
theorem Atu:∀s x,RJ s=some x→s=Oa x:=fun s x h=>by
 unfold RJ at h
 split at h
 ·cases h;rfl
 ·cases h
def Ajf:De:=⟨2,3,[0,3,5,6,7],[],[(0,0),(9,2)],[0,9],[5,6],[2,0]⟩
def A9k:Dy:=⟨[.nil 5 71 .row],[(0,0),(1,2)],[0,3,5,6,7],[0,1]⟩
def BG (a0:List TRow) (_a1:Bool) (a2:Int) (_a3:TRow) (_a4:List TRow):Bool:=!!decide (a2 <(↑a0.length:Int))
def Gi (a0:List TRow) (a1:Bool) (a2:Int) (a3:TRow) (_a4:List TRow):Bool:=!(a0.getD a2.toNat (Ae TC.row)).1.toList==(bif !a1&&!Op.bytesLess (a0.getD a2.toNat (Ae TC.row)).1.toList a3.1.toList then a3.1 else a3.1).toList
def EO (a0:List TRow) (a1:Bool) (a2:Int) (a3:TRow) (a4:List TRow):List TRow:=bif !a1&&!Op.bytesLess (a0.getD a2.toNat (Ae TC.row)).1.toList a3.1.toList then a4++[TRow.mk a3.1 (Hp a3)] else a4
def LO (a0:List TRow) (a1:Bool) (a2:Int) (a3:TRow) (_a4:List TRow):Bool:=bif !a1&&!Op.bytesLess (a0.getD a2.toNat (Ae TC.row)).1.toList a3.1.toList then true else a1
def LP (a0:List TRow) (a1:Bool) (a2:Int) (a3:TRow) (_a4:List TRow):TRow:=TRow.mk (bif !a1&&!Op.bytesLess (a0.getD a2.toNat (Ae TC.row)).1.toList a3.1.toList then a3.1 else a3.1) (bif !a1&&!Op.bytesLess (a0.getD a2.toNat (Ae TC.row)).1.toList a3.1.toList then a3.2 else a3.2)
def LQ (a0:List TRow) (a1:Bool) (a2:Int) (a3:TRow) (a4:List TRow):List TRow:=bif(Gi a0 a1 a2 a3 a4) then(EO a0 a1 a2 a3 a4)++[a0.getD a2.toNat (Ae TC.row)] else(EO a0 a1 a2 a3 a4)
def HG (x:DR):DR:=(x.1,LO x.1 x.2.1 x.2.2.1 x.2.2.2.1 x.2.2.2.2,IntKind.i64.wrap (x.2.2.1+(1:Int)),LP x.1 x.2.1 x.2.2.1 x.2.2.2.1 x.2.2.2.2,LQ x.1 x.2.1 x.2.2.1 x.2.2.2.1 x.2.2.2.2)
def HF (x:DR):Cnd:=some ((BG x.1 x.2.1 x.2.2.1 x.2.2.2.1 x.2.2.2.2))
def Yf (x:DR):List Prop:=[((BG x.1 x.2.1 x.2.2.1 x.2.2.2.1 x.2.2.2.2)=true→(!x.2.1)=true→(0:Int)≤x.2.2.1∧x.2.2.1 <(↑x.1.length:Int)),((BG x.1 x.2.1 x.2.2.1 x.2.2.2.1 x.2.2.2.2)=true→(!x.2.1&&!Op.bytesLess (x.1.getD x.2.2.1.toNat (Ae TC.row)).1.toList x.2.2.2.1.1.toList)=true→Ai ((0:Nat)+x.2.2.2.1.2.length)),((BG x.1 x.2.1 x.2.2.1 x.2.2.2.1 x.2.2.2.2)=true→(!x.2.1&&!Op.bytesLess (x.1.getD x.2.2.1.toNat (Ae TC.row)).1.toList x.2.2.2.1.1.toList)=true→Ai (x.2.2.2.2.length+(1:Nat))),((BG x.1 x.2.1 x.2.2.1 x.2.2.2.1 x.2.2.2.2)=true→(0:Int)≤x.2.2.1∧x.2.2.1 <(↑x.1.length:Int)),((BG x.1 x.2.1 x.2.2.1 x.2.2.2.1 x.2.2.2.2)=true→(Gi x.1 x.2.1 x.2.2.1 x.2.2.2.1 x.2.2.2.2)=true→(0:Int)≤x.2.2.1∧x.2.2.1 <(↑x.1.length:Int)),((BG x.1 x.2.1 x.2.2.1 x.2.2.2.1 x.2.2.2.2)=true→(Gi x.1 x.2.1 x.2.2.1 x.2.2.2.1 x.2.2.2.2)=true→Ai ((EO x.1 x.2.1 x.2.2.1 x.2.2.2.1 x.2.2.2.2).length+(1:Nat)))]
def Kx (x:DR):List Prop:=[((BG x.1 x.2.1 x.2.2.1 x.2.2.2.1 x.2.2.2.2)=true→(!x.2.1)=true→(0:Int)≤x.2.2.1∧x.2.2.1 <(↑x.1.length:Int)),((BG x.1 x.2.1 x.2.2.1 x.2.2.2.1 x.2.2.2.2)=true→(!x.2.1&&!Op.bytesLess (x.1.getD x.2.2.1.toNat (Ae TC.row)).1.toList x.2.2.2.1.1.toList)=true→Ai ((0:Nat)+x.2.2.2.1.2.length)),((BG x.1 x.2.1 x.2.2.1 x.2.2.2.1 x.2.2.2.2)=true→(!x.2.1&&!Op.bytesLess (x.1.getD x.2.2.1.toNat (Ae TC.row)).1.toList x.2.2.2.1.1.toList)=true→Ai (x.2.2.2.2.length+(1:Nat))),((BG x.1 x.2.1 x.2.2.1 x.2.2.2.1 x.2.2.2.2)=true→(0:Int)≤x.2.2.1∧x.2.2.1 <(↑x.1.length:Int)),((BG x.1 x.2.1 x.2.2.1 x.2.2.2.1 x.2.2.2.2)=true→(Gi x.1 x.2.1 x.2.2.1 x.2.2.2.1 x.2.2.2.2)=true→(0:Int)≤x.2.2.1∧x.2.2.1 <(↑x.1.length:Int)),((BG x.1 x.2.1 x.2.2.1 x.2.2.2.1 x.2.2.2.2)=true→(Gi x.1 x.2.1 x.2.2.1 x.2.2.2.1 x.2.2.2.2)=true→Ai ((EO x.1 x.2.1 x.2.2.1 x.2.2.2.1 x.2.2.2.2).length+(1:Nat)))]
def Vw (x:DR):Bl:=[(some 0,some (!decide (x.2.2.1 <(↑x.1.length:Int))),⟨54,3,[(5,.sq 2),(6,.v (.bool x.2.1))],[(2,some (.arr 71 2 (.ty .row x.2.2.2.2))),(0,some (.box 71 [.v (.string x.2.2.2.1.1),.sl .cell x.2.2.2.1.2]))]⟩)]
def I4 (x:DR):Nat:=((↑x.1.length:Int) - x.2.2.1).toNat
def Hq (x:DR):DR:=A9 HG HF (I4 x) x
set_option maxRecDepth 100000 in
theorem A24 (a0:List TRow) (a1:Bool) (a2:Int) (a3:TRow) (a4:List TRow):Bx (AA Bbl L0) 9 (Aj Try.prog 178 0) Ajf (Oa (a0,a1,a2,a3,a4))=some (Yf (a0,a1,a2,a3,a4),Vw (a0,a1,a2,a3,a4),HF (a0,a1,a2,a3,a4),Oa (HG (a0,a1,a2,a3,a4))):=by kernel_rfl
set_option maxRecDepth 100000 in
theorem A25 (a0:List TRow) (a1:Bool) (a2:Int) (a3:TRow) (a4:List TRow) (hp:∀p∈Kx (a0,a1,a2,a3,a4),p):∀p∈Yf (a0,a1,a2,a3,a4),p:=by
 have n0:=N0 hp
 have n1:=N0 (N1 hp)
 have n2:=N0 (N1 (N1 hp))
 have n3:=N0 (N1 (N1 (N1 hp)))
 have n4:=N0 (N1 (N1 (N1 (N1 hp))))
 have n5:=N0 (N1 (N1 (N1 (N1 (N1 hp)))))
 exact(Aa n0 (Aa n1 (Aa n2 (Aa n3 (Aa n4 (Aa n5 Ab))))))
noncomputable def Yg:=HU (AA Bbl L0) (Aj Try.prog 178 0) Ajf A9k RJ I4 HG HF Kx Vw
theorem Az6:∀s b ps outs,Yg s=some (b,ps,outs)→Wf s ⟨ps,outs,none⟩∧Bs (AA C0 L0) b s ps outs:=
 Bi (T:=Oa) Au2 AG (u:=9) (by kernel_rfl) (by decide) (fun⟨a0,a1,a2,a3,a4⟩=>A24 a0 a1 a2 a3 a4) (fun⟨a0,a1,a2,a3,a4⟩=>A25 a0 a1 a2 a3 a4) Atu (fun _=>AR (n:=54) rfl) fun _ _=>rfl
noncomputable def Aje:=DG 0 Yg L0
theorem Az5:Hs Aje:=A3 Az6 AG
def Mw (a0:List TRow) (a1:TRow):Bool:=!(Hq (a0,false,(0:Int),a1,[])).snd.fst
def Mu (a0:List TRow) (a1:TRow):List TRow:=(Hq (a0,false,(0:Int),a1,[])).snd.snd.snd.snd
def Anl (a0:List TRow) (a1:TRow):List TRow:=bif(Mw a0 a1) then(Mu a0 a1)++[TRow.mk (Hq (a0,false,(0:Int),a1,[])).snd.snd.snd.fst.1 (Hp (Hq (a0,false,(0:Int),a1,[])).snd.snd.snd.fst)] else(Mu a0 a1)
def Ann (_a0:List TRow) (_a1:TRow):A:=.sq 0
def Anm (a0:List TRow) (a1:TRow):Objs:=[(0,some (.arr 71 2 (.ty .row (Anl a0 a1))))]
def Az8 (a0:List TRow) (a1:TRow):List Prop:=[(AL HG HF Kx (I4 (a0,false,(0:Int),a1,[])) (a0,false,(0:Int),a1,[])),((Mw a0 a1)=true→Ai ((0:Nat)+(Hq (a0,false,(0:Int),a1,[])).snd.snd.snd.fst.2.length)),((Mw a0 a1)=true→Ai ((Mu a0 a1).length+(1:Nat)))]
set_option maxRecDepth 100000 in
theorem Bjx (a0:List TRow) (a1:TRow):EU (AA Bbl Aje) 9 178 [Ak .rows a0,Ak .row a1] 0 []=some (1,Ann a0 a1,1,Anm a0 a1,[(Aj Try.prog (178:FuncId) (0:Nat)=Aj Try.prog (178:FuncId) (0:Nat)),(AL HG HF Kx (I4 (a0,false,(0:Int),a1,[])) (a0,false,(0:Int),a1,[])),((Mw a0 a1)=true→Ai ((0:Nat)+(Hq (a0,false,(0:Int),a1,[])).snd.snd.snd.fst.2.length)),((Mw a0 a1)=true→Ai ((Mu a0 a1).length+(1:Nat)))]):=by kernel_rfl
set_option maxRecDepth 100000 in
theorem Bpf (a0:List TRow) (a1:TRow) (hp:∀p∈Az8 a0 a1,p):CallOk Try.prog 178 [Ak .rows a0,Ak .row a1] 0 [] 1 (Ann a0 a1) 1 (Anm a0 a1):=by
 have n1:=N0 hp
 have n2:=N0 (N1 hp)
 have n3:=N0 (N1 (N1 hp))
 exact AH (Aw Au2 Az5) (Bjx a0 a1) (Aa rfl (Aa n1 (Aa n2 (Aa n3 Ab))))
def B1o (l:List TRow) (r:TRow):List TRow:=B2l r (LX r l l.length)
def Az9 (a0:List TRow) (a1:TRow):A:=.sl .row (B1o a0 a1)
def Az7 (_a0:List TRow) (_a1:TRow):Objs:=[]
def Aqs (a0:List TRow) (a1:TRow):List Prop:=[a0.length≤400000∧Ai a1.cells.length]
theorem Bx0 (rows:List TRow) (r:TRow) (hb:rows.length≤400000) (hc:Ai r.cells.length):(∀p∈Az8 rows r,p)∧Anl rows r=B1o rows r:=by
 have hlt:∀i:Nat,Op.bytesLess (rows.getD ((i:Int)).toNat (Ae TC.row)).1.toList r.1.toList=IY (BU rows i).key r.key:=fun i=>by rw[Int.toNat_natCast];rfl
 have same:∀(c:Bool) (x:ByteArray),(bif c then x else x)=x:=fun c x=>by cases c<;>rfl
 have hcp:Hp r=r.2:=rfl
 have e1:∀(i:Nat) (d:Bool) (o:List TRow),LO rows d (i:Int) r o=(d||!IY (BU rows i).key r.key):=fun i d o=>by
  unfold LO
  rw[hlt]
  cases d<;>cases IY (BU rows i).key r.key<;>rfl
 have e3:∀(i:Nat) (d:Bool) (o:List TRow),LP rows d (i:Int) r o=r:=fun i d o=>by
  unfold LP
  rw[hlt]
  cases(!d&&!IY (BU rows i).key r.key)<;>rfl
 have ek0:∀(i:Nat) (d:Bool) (o:List TRow),EO rows d (i:Int) r o=bif !d&&!IY (BU rows i).key r.key then o++[r] else o:=fun i d o=>by
  unfold EO
  rw[hlt]
  rfl
 have ek1:∀(i:Nat) (d:Bool) (o:List TRow),Gi rows d (i:Int) r o=!((BU rows i).key==r.key):=fun i d o=>by
  unfold Gi
  rw[same,tlb,Int.toNat_natCast]
  rfl
 have e4:∀(i:Nat) (d:Bool) (o:List TRow),LQ rows d (i:Int) r o=(bif !d&&!IY (BU rows i).key r.key then o++[r] else o)++(bif(BU rows i).key==r.key then[] else[BU rows i]):=fun i d o=>by
  unfold LQ
  rw[ek0,ek1,Int.toNat_natCast]
  cases(BU rows i).key==r.key with
  |true=>exact(List.append_nil _).symm
  |false=>rfl
 have k0len:∀(i:Nat) (d:Bool) (o:List TRow),(EO rows d (i:Int) r o).length≤o.length+1:=fun i d o=>by
  rw[ek0]
  cases(!d&&!IY (BU rows i).key r.key) with
  |true=>rw[cond_true,List.length_append];exact Nat.le_refl _
  |false=>exact Nat.le_succ _
 obtain⟨h1,hx⟩:=Auu (fun i=>((rows,(LX r rows i).2,(i:Int),r,(LX r rows i).1):DR)) rows.length HG HF Kx (I4 (rows,false,0,r,[])) (rows,false,0,r,[]) rfl (by show rows.length≤((rows.length:Int) - 0).toNat;omega)
  (fun i _=>by
   show(!!decide ((i:Int) <(rows.length:Int)))=_
   rw[nn,MA])
  (fun i hi=>by
   show(rows,LO rows (LX r rows i).2 (i:Int) r (LX r rows i).1,IntKind.i64.wrap ((i:Int)+1),LP rows (LX r rows i).2 (i:Int) r (LX r rows i).1,LQ rows (LX r rows i).2 (i:Int) r (LX r rows i).1)=(rows,(LX r rows (i+1)).2,((i+1:Nat):Int),r,(LX r rows (i+1)).1)
   rw[ES (by omega),e1,e3,e4,A5e r rows i hi]
   rfl)
  (fun i hi=>by
   have hin:(!!decide ((i:Int) <(rows.length:Int)))=true→(i:Int) <(rows.length:Int):=fun h=>by rw[nn] at h;exact of_decide_eq_true h
   have hl:=A0v r rows i hi
   refine Aa (fun h _=>⟨by show(0:Int)≤(i:Int);omega,hin h⟩) (Aa (fun _ _=>?_) (Aa (fun _ _=>?_) (Aa (fun h=>⟨by show(0:Int)≤(i:Int);omega,hin h⟩) (Aa (fun h _=>⟨by show(0:Int)≤(i:Int);omega,hin h⟩) (Aa (fun _ _=>?_) Ab)))))
   ·show Ai (0+r.2.length)
    rw[Nat.zero_add]
    exact hc
   ·show Ai ((LX r rows i).1.length+1)
    unfold Ai
    omega
   ·have:=k0len i (LX r rows i).2 (LX r rows i).1
    show Ai ((EO rows (LX r rows i).2 (i:Int) r (LX r rows i).1).length+1)
    unfold Ai
    omega)
 have hr:Hq (rows,false,0,r,[])=(rows,(LX r rows rows.length).2,(rows.length:Int),r,(LX r rows rows.length).1):=hx
 have hl:=A0v r rows rows.length (Nat.le_refl _)
 refine⟨Aa h1 (Aa (fun _=>?_) (Aa (fun _=>?_) Ab)),?_⟩
 ·rw[hr,Nat.zero_add]
  exact hc
 ·unfold Mu
  rw[hr]
  show Ai ((LX r rows rows.length).1.length+1)
  unfold Ai
  omega
 ·unfold Anl Mw Mu B1o B2l
  rw[hr]
  show(bif !(LX r rows rows.length).2 then(LX r rows rows.length).1++[r] else(LX r rows rows.length).1)=_
  cases(LX r rows rows.length).2<;>rfl
theorem Bjw (a0:List TRow) (a1:TRow) (hp:∀p∈Aqs a0 a1,p):CallOk Try.prog 178 [Ak .rows a0,Ak .row a1] 0 [] 1 (Az9 a0 a1) 0 (Az7 a0 a1):=by
 obtain⟨h1,h2⟩:=hp _ (List.mem_cons_self ..)
 obtain⟨g1,e1⟩:=Bx0 a0 a1 h1 h2
 have h:=Bpf a0 a1 g1
 unfold Ann Anm at h
 rw[e1] at h
 exact A4b (c:=.row) h
def Ano:List A→Nat→Objs→Option A8
 | [y0,y1],nx,o=>match AP .rows y0,AP .row y1 with
  |some (a0,p0),some (a1,p1)=>some (1,(Az9 a0 a1).pk (AF nx),nx+0,AE nx (Az7 a0 a1)++o,p0++(p1++(Aqs a0 a1)))
  |_,_=>none
 |_,_,_=>none
theorem Bfu:Fu Try.prog 178 Ano:=fun args nx o k x nx' o' ps h=>by
 unfold Ano at h
 split at h<;>first|(cases h;done)|skip
 split at h<;>first|(cases h;done)|skip
 rename_i a0 p0 a1 p1 e0 e1
 cases h
 refine⟨fun hp=>?_,_,rfl⟩
 have q0:=fun p hm=>hp p (List.mem_append.2 (.inl hm))
 have r0:=fun p hm=>hp p (List.mem_append.2 (.inr hm))
 have q1:=fun p hm=>r0 p (List.mem_append.2 (.inl hm))
 have r1:=fun p hm=>r0 p (List.mem_append.2 (.inr hm))
 refine Ah (Ag (Bjw a0 a1 r1) (Nat.le_refl _) (Ac (Af _ _) (Ac (Af _ _) Ao)) nx o) fun F N R vs hl=>?_
 obtain⟨v0,w0,rfl,h0,hl⟩:=hl.inv
 obtain⟨v1,w1,rfl,h1,hl⟩:=hl.inv
 exact HL.cons (Am e0 q0 h0) (HL.cons (Am e1 q1 h1) (hl))
noncomputable def By7:=A5 178 Ano Bbl
theorem Bre:Df Try.prog By7:=Av Bfu Au2
noncomputable def Cmg:=By7
theorem B0i:Df Try.prog Cmg:=Bre
end Go.Proofs.Yteebobbhhgmeiaa
namespace Go.Proofs.Yteebobbhhgmeiaa
open Go.RowKit
def Mf (a0:Int):A:=.v (.bool (a0==(1:Int)||a0==(2:Int)))
def Me (_a0:Int):Objs:=[]
def P7 (_a0:Int):List Prop:=[]
set_option maxRecDepth 100000 in
theorem Agv (a0:Int):EU (AA Cb L0) 9 96 [Ak .i64 a0] 0 []=some (1,Mf a0,0,Me a0,[]):=by kernel_rfl
set_option maxRecDepth 100000 in
theorem Ak0 (a0:Int) (_hp:∀p∈P7 a0,p):CallOk Try.prog 96 [Ak .i64 a0] 0 [] 1 (Mf a0) 0 (Me a0):=by
 exact AH (Aw Bk6 AG) (Agv a0) Ab
def Mg:List A→Nat→Objs→Option A8
 | [y0],nx,o=>match AP .i64 y0 with
  |some (a0,p0)=>some (1,(Mf a0).pk (AF nx),nx+0,AE nx (Me a0)++o,p0++(P7 a0))
  |_=>none
 |_,_,_=>none
theorem Acj:Fu Try.prog 96 Mg:=fun args nx o k x nx' o' ps h=>by
 unfold Mg at h
 split at h<;>first|(cases h;done)|skip
 split at h<;>first|(cases h;done)|skip
 rename_i a0 p0 e0
 cases h
 refine⟨fun hp=>?_,_,rfl⟩
 have q0:=fun p hm=>hp p (List.mem_append.2 (.inl hm))
 have r0:=fun p hm=>hp p (List.mem_append.2 (.inr hm))
 refine Ah (Ag (Ak0 a0 r0) (Nat.le_refl _) (Ac (Af _ _) Ao) nx o) fun F N R vs hl=>?_
 obtain⟨v0,w0,rfl,h0,hl⟩:=hl.inv
 exact HL.cons (Am e0 q0 h0) (hl)
noncomputable def Bqc:=A5 96 Mg Cb
theorem Baw:Df Try.prog Bqc:=Av Acj Bk6
def Nl (a0:Int):Bool:=!(a0==(1:Int)||a0==(2:Int))
def KD (a0:Int):Int:=bif(Nl a0) then(0:Int) else(0:Int)
def JA (a0:Int):TFront:=TFront.mk (bif(Nl a0) then(0:Int) else a0) (KD a0) (KD a0) (KD a0) (KD a0)
def Awa (a0:Int):Int:=bif(Nl a0) then(2:Int) else(0:Int)
def ON (a0:Int):A:=.v (.tuple ⟨[.agg ⟨[.int .i64 ((JA a0).site),.int .i64 ((JA a0).acked),.int .i64 ((JA a0).stable),.int .i64 ((JA a0).wait),.int .i64 ((JA a0).til)]⟩,.int .i64 (Awa a0)]⟩)
def OM (_a0:Int):Objs:=[]
def UP (_a0:Int):List Prop:=[]
set_option maxRecDepth 100000 in
theorem Ar0 (a0:Int):EU (AA Bqc L0) 9 24 [Ak .i64 a0] 0 []=some (1,ON a0,0,OM a0,[]):=by kernel_rfl
set_option maxRecDepth 100000 in
theorem Awb (a0:Int) (_hp:∀p∈UP a0,p):CallOk Try.prog 24 [Ak .i64 a0] 0 [] 1 (ON a0) 0 (OM a0):=by
 exact AH (Aw Baw AG) (Ar0 a0) Ab
def OO:List A→Nat→Objs→Option A8
 | [y0],nx,o=>match AP .i64 y0 with
  |some (a0,p0)=>some (1,(ON a0).pk (AF nx),nx+0,AE nx (OM a0)++o,p0++(UP a0))
  |_=>none
 |_,_,_=>none
theorem Aky:Fu Try.prog 24 OO:=fun args nx o k x nx' o' ps h=>by
 unfold OO at h
 split at h<;>first|(cases h;done)|skip
 split at h<;>first|(cases h;done)|skip
 rename_i a0 p0 e0
 cases h
 refine⟨fun hp=>?_,_,rfl⟩
 have q0:=fun p hm=>hp p (List.mem_append.2 (.inl hm))
 have r0:=fun p hm=>hp p (List.mem_append.2 (.inr hm))
 refine Ah (Ag (Awb a0 r0) (Nat.le_refl _) (Ac (Af _ _) Ao) nx o) fun F N R vs hl=>?_
 obtain⟨v0,w0,rfl,h0,hl⟩:=hl.inv
 exact HL.cons (Am e0 q0 h0) (hl)
noncomputable def Bqd:=A5 24 OO Bqc
theorem Bax:Df Try.prog Bqd:=Av Aky Baw
def Se (a0:TFront):Bool:=decide (a0.4 <(0:Int))||decide (a0.4 >(1099511627776:Int))
def Sd (a0:TFront):Bool:=decide (a0.3 <(0:Int))||decide (a0.3 >(1099511627776:Int))
def Sc (a0:TFront):Bool:=decide (a0.2 <(0:Int))||decide (a0.2 >(1099511627776:Int))
def IV (a0:TFront):Bool:=bif(Sc a0)||((Sd a0)||((Se a0)||(decide (a0.5 <(0:Int))||decide (a0.5 >(1099511627776:Int))))) then bif(Sc a0) then false else bif(Sd a0) then false else bif(Se a0) then false else false else(a0.1==(1:Int)||a0.1==(2:Int))&&decide (max a0.3 a0.4≤a0.2)&&!(a0.5==(0:Int)&&decide (a0.4 >(0:Int)))
def Nj (a0:TFront):A:=.v (.bool (IV a0))
def Ni (_a0:TFront):Objs:=[]
def Sf (_a0:TFront):List Prop:=[]
set_option maxRecDepth 100000 in
theorem Aku (a0:TFront):EU (AA Bqd L0) 9 34 [Ak .front a0] 0 []=some (1,Nj a0,0,Ni a0,[]):=by kernel_rfl
set_option maxRecDepth 100000 in
theorem Arv (a0:TFront) (_hp:∀p∈Sf a0,p):CallOk Try.prog 34 [Ak .front a0] 0 [] 1 (Nj a0) 0 (Ni a0):=by
 exact AH (Aw Bax AG) (Aku a0) Ab
def Nk:List A→Nat→Objs→Option A8
 | [y0],nx,o=>match AP .front y0 with
  |some (a0,p0)=>some (1,(Nj a0).pk (AF nx),nx+0,AE nx (Ni a0)++o,p0++(Sf a0))
  |_=>none
 |_,_,_=>none
theorem Ago:Fu Try.prog 34 Nk:=fun args nx o k x nx' o' ps h=>by
 unfold Nk at h
 split at h<;>first|(cases h;done)|skip
 split at h<;>first|(cases h;done)|skip
 rename_i a0 p0 e0
 cases h
 refine⟨fun hp=>?_,_,rfl⟩
 have q0:=fun p hm=>hp p (List.mem_append.2 (.inl hm))
 have r0:=fun p hm=>hp p (List.mem_append.2 (.inr hm))
 refine Ah (Ag (Arv a0 r0) (Nat.le_refl _) (Ac (Af _ _) Ao) nx o) fun F N R vs hl=>?_
 obtain⟨v0,w0,rfl,h0,hl⟩:=hl.inv
 exact HL.cons (Am e0 q0 h0) (hl)
noncomputable def Bqe:=A5 34 Nk Bqd
theorem Bay:Df Try.prog Bqe:=Av Ago Bax
def Dg (a0:TFront) (a1:TVec):Int:=bif !IV a0||!Bv a1 then(2:Int) else(0:Int)
def Mc (a0:TFront) (a1:TVec):A:=.v (.int .i64 (Dg a0 a1))
def Mb (_a0:TFront) (_a1:TVec):Objs:=[]
def P6 (_a0:TFront) (_a1:TVec):List Prop:=[]
set_option maxRecDepth 100000 in
theorem Agu (a0:TFront) (a1:TVec):EU (AA Bqe L0) 9 97 [Ak .front a0,Ak .vec a1] 0 []=some (1,Mc a0 a1,0,Mb a0 a1,[]):=by kernel_rfl
set_option maxRecDepth 100000 in
theorem Akz (a0:TFront) (a1:TVec) (_hp:∀p∈P6 a0 a1,p):CallOk Try.prog 97 [Ak .front a0,Ak .vec a1] 0 [] 1 (Mc a0 a1) 0 (Mb a0 a1):=by
 exact AH (Aw Bay AG) (Agu a0 a1) Ab
def Md:List A→Nat→Objs→Option A8
 | [y0,y1],nx,o=>match AP .front y0,AP .vec y1 with
  |some (a0,p0),some (a1,p1)=>some (1,(Mc a0 a1).pk (AF nx),nx+0,AE nx (Mb a0 a1)++o,p0++(p1++(P6 a0 a1)))
  |_,_=>none
 |_,_,_=>none
theorem Aci:Fu Try.prog 97 Md:=fun args nx o k x nx' o' ps h=>by
 unfold Md at h
 split at h<;>first|(cases h;done)|skip
 split at h<;>first|(cases h;done)|skip
 rename_i a0 p0 a1 p1 e0 e1
 cases h
 refine⟨fun hp=>?_,_,rfl⟩
 have q0:=fun p hm=>hp p (List.mem_append.2 (.inl hm))
 have r0:=fun p hm=>hp p (List.mem_append.2 (.inr hm))
 have q1:=fun p hm=>r0 p (List.mem_append.2 (.inl hm))
 have r1:=fun p hm=>r0 p (List.mem_append.2 (.inr hm))
 refine Ah (Ag (Akz a0 a1 r1) (Nat.le_refl _) (Ac (Af _ _) (Ac (Af _ _) Ao)) nx o) fun F N R vs hl=>?_
 obtain⟨v0,w0,rfl,h0,hl⟩:=hl.inv
 obtain⟨v1,w1,rfl,h1,hl⟩:=hl.inv
 exact HL.cons (Am e0 q0 h0) (HL.cons (Am e1 q1 h1) (hl))
noncomputable def Bqf:=A5 97 Md Bqe
theorem Baz:Df Try.prog Bqf:=Av Aci Bay
theorem B1b {s:Int} (h:s=1∨s=2):0≤IntKind.i64.wrap (2 - s)∧IntKind.i64.wrap (2 - s) <2:=by
 rcases h with rfl|rfl<;>decide
theorem B2u {s:Int} (h:s=1∨s=2):0≤IntKind.i64.wrap (s - 1)∧IntKind.i64.wrap (s - 1) <2:=by
 rcases h with rfl|rfl<;>decide
theorem OG {f:TFront} {v:TVec} (h:(!(Dg f v !=0))=true):f.site=1∨f.site=2:=by
 have hg:IV f=true:=by
  unfold Dg at h
  cases hg:IV f with
  |true=>rfl
  |false=>rw[hg] at h;cases h
 unfold IV at hg
 rw[Bool.cond_eq_ite] at hg
 split at hg
 ·repeat' (first|(cases hg;done)|(rw[Bool.cond_eq_ite] at hg;split at hg))
 ·simp only[Bool.and_eq_true,Bool.or_eq_true,beq_iff_eq] at hg
  exact hg.1.1
theorem B26 {c d:Bool} {s:Int}:(bif c then s else bif d then s else s)=s:=by cases c<;>cases d<;>rfl
def AM (a0:TFront) (_a1:TVec):Int:=IntKind.i64.wrap ((2:Int) - a0.1)
def Au (a0:TFront) (a1:TVec):Int:=bif(AM a0 a1).toNat.beq (0:Nat) then a1.1 else a1.2
def Jh (a0:TFront) (a1:TVec):A:=.v (.int .i64 (Au a0 a1))
def Jg (_a0:TFront) (_a1:TVec):Objs:=[]
def Lf (a0:TFront) (a1:TVec):List Prop:=[((0:Int)≤(AM a0 a1)∧(AM a0 a1) <(2:Int))]
set_option maxRecDepth 100000 in
theorem TM (a0:TFront) (a1:TVec):EU (AA Bqf L0) 9 98 [Ak .front a0,Ak .vec a1] 0 []=some (1,Jh a0 a1,0,Jg a0 a1,[((0:Int)≤(AM a0 a1)∧(AM a0 a1) <(2:Int)),((AM a0 a1).toNat <(2:Nat))]):=by kernel_rfl
set_option maxRecDepth 100000 in
theorem VN (a0:TFront) (a1:TVec) (hp:∀p∈Lf a0 a1,p):CallOk Try.prog 98 [Ak .front a0,Ak .vec a1] 0 [] 1 (Jh a0 a1) 0 (Jg a0 a1):=by
 have n0:=N0 hp
 have n1:((AM a0 a1).toNat <(2:Nat)):=by omega
 exact AH (Aw Baz AG) (TM a0 a1) (Aa n0 (Aa n1 Ab))
def Ji:List A→Nat→Objs→Option A8
 | [y0,y1],nx,o=>match AP .front y0,AP .vec y1 with
  |some (a0,p0),some (a1,p1)=>some (1,(Jh a0 a1).pk (AF nx),nx+0,AE nx (Jg a0 a1)++o,p0++(p1++(Lf a0 a1)))
  |_,_=>none
 |_,_,_=>none
theorem Sb:Fu Try.prog 98 Ji:=fun args nx o k x nx' o' ps h=>by
 unfold Ji at h
 split at h<;>first|(cases h;done)|skip
 split at h<;>first|(cases h;done)|skip
 rename_i a0 p0 a1 p1 e0 e1
 cases h
 refine⟨fun hp=>?_,_,rfl⟩
 have q0:=fun p hm=>hp p (List.mem_append.2 (.inl hm))
 have r0:=fun p hm=>hp p (List.mem_append.2 (.inr hm))
 have q1:=fun p hm=>r0 p (List.mem_append.2 (.inl hm))
 have r1:=fun p hm=>r0 p (List.mem_append.2 (.inr hm))
 refine Ah (Ag (VN a0 a1 r1) (Nat.le_refl _) (Ac (Af _ _) (Ac (Af _ _) Ao)) nx o) fun F N R vs hl=>?_
 obtain⟨v0,w0,rfl,h0,hl⟩:=hl.inv
 obtain⟨v1,w1,rfl,h1,hl⟩:=hl.inv
 exact HL.cons (Am e0 q0 h0) (HL.cons (Am e1 q1 h1) (hl))
noncomputable def Bqg:=A5 98 Ji Bqf
theorem Ba0:Df Try.prog Bqg:=Av Sb Baz
def Dp (a0:TFront) (a1:TVec):Bool:=decide (a0.5 >(0:Int))&&decide (Au a0 a1≥a0.5)
def AN (a0:TFront) (a1:TVec):TFront:=TFront.mk (bif(Dp a0 a1) then a0.1 else a0.1) (bif(Dp a0 a1) then a0.2 else a0.2) (bif(Dp a0 a1) then max a0.3 a0.4 else a0.3) (bif(Dp a0 a1) then(0:Int) else a0.4) (bif(Dp a0 a1) then(0:Int) else a0.5)
def HY (a0:TFront) (a1:TVec):A:=.v (.agg ⟨[.int .i64 ((AN a0 a1).site),.int .i64 ((AN a0 a1).acked),.int .i64 ((AN a0 a1).stable),.int .i64 ((AN a0 a1).wait),.int .i64 ((AN a0 a1).til)]⟩)
def HX (_a0:TFront) (_a1:TVec):Objs:=[]
def Kj (a0:TFront) (a1:TVec):List Prop:=[(decide (a0.5 >(0:Int))=true→(0:Int)≤AM a0 a1∧AM a0 a1 <(2:Int))]
set_option maxRecDepth 100000 in
theorem PS (a0:TFront) (a1:TVec):EU (AA Bqg L0) 9 99 [Ak .front a0,Ak .vec a1] 0 []=some (1,HY a0 a1,0,HX a0 a1,[(decide (a0.5 >(0:Int))=true→(0:Int)≤AM a0 a1∧AM a0 a1 <(2:Int))]):=by kernel_rfl
set_option maxRecDepth 100000 in
theorem Q7 (a0:TFront) (a1:TVec) (hp:∀p∈Kj a0 a1,p):CallOk Try.prog 99 [Ak .front a0,Ak .vec a1] 0 [] 1 (HY a0 a1) 0 (HX a0 a1):=by
 have n0:=N0 hp
 exact AH (Aw Ba0 AG) (PS a0 a1) (Aa n0 Ab)
def HZ:List A→Nat→Objs→Option A8
 | [y0,y1],nx,o=>match AP .front y0,AP .vec y1 with
  |some (a0,p0),some (a1,p1)=>some (1,(HY a0 a1).pk (AF nx),nx+0,AE nx (HX a0 a1)++o,p0++(p1++(Kj a0 a1)))
  |_,_=>none
 |_,_,_=>none
theorem OI:Fu Try.prog 99 HZ:=fun args nx o k x nx' o' ps h=>by
 unfold HZ at h
 split at h<;>first|(cases h;done)|skip
 split at h<;>first|(cases h;done)|skip
 rename_i a0 p0 a1 p1 e0 e1
 cases h
 refine⟨fun hp=>?_,_,rfl⟩
 have q0:=fun p hm=>hp p (List.mem_append.2 (.inl hm))
 have r0:=fun p hm=>hp p (List.mem_append.2 (.inr hm))
 have q1:=fun p hm=>r0 p (List.mem_append.2 (.inl hm))
 have r1:=fun p hm=>r0 p (List.mem_append.2 (.inr hm))
 refine Ah (Ag (Q7 a0 a1 r1) (Nat.le_refl _) (Ac (Af _ _) (Ac (Af _ _) Ao)) nx o) fun F N R vs hl=>?_
 obtain⟨v0,w0,rfl,h0,hl⟩:=hl.inv
 obtain⟨v1,w1,rfl,h1,hl⟩:=hl.inv
 exact HL.cons (Am e0 q0 h0) (HL.cons (Am e1 q1 h1) (hl))
noncomputable def Bqh:=A5 99 HZ Bqg
theorem Ba1:Df Try.prog Bqh:=Av OI Ba0
def Jo (a0:TFront) (a1:TVec) (a2:Int) (_a3:Int):Int:=AM (TFront.mk a0.1 (max a0.2 a2) a0.3 a0.4 a0.5) a1
def A6 (a0:TFront) (a1:TVec) (_a2:Int) (_a3:Int):Bool:=Dg a0 a1 !=(0:Int)
def CK (a0:TFront) (_a1:TVec) (_a2:Int) (_a3:Int):Int:=IntKind.i64.wrap (a0.1 - (1:Int))
def BQ (a0:TFront) (a1:TVec) (a2:Int) (a3:Int):Bool:=decide (a2 <(0:Int))||decide (a2 >bif(CK a0 a1 a2 a3).toNat.beq (0:Nat) then a1.1 else a1.2)||decide (a3 <(0:Int))||decide (a3 >(1099511627776:Int))
def Jn (a0:TFront) (a1:TVec) (a2:Int) (a3:Int):Int:=AM (TFront.mk (bif decide (Au (TFront.mk a0.1 (max a0.2 a2) a0.3 a0.4 a0.5) a1≥a3) then a0.1 else bif a0.5==(0:Int)&&decide (a2 >a0.3) then a0.1 else a0.1) (bif decide (Au (TFront.mk a0.1 (max a0.2 a2) a0.3 a0.4 a0.5) a1≥a3) then max a0.2 a2 else bif a0.5==(0:Int)&&decide (a2 >a0.3) then max a0.2 a2 else max a0.2 a2) (bif decide (Au (TFront.mk a0.1 (max a0.2 a2) a0.3 a0.4 a0.5) a1≥a3) then max a0.3 a2 else bif a0.5==(0:Int)&&decide (a2 >a0.3) then a0.3 else a0.3) (bif decide (Au (TFront.mk a0.1 (max a0.2 a2) a0.3 a0.4 a0.5) a1≥a3) then a0.4 else bif a0.5==(0:Int)&&decide (a2 >a0.3) then a2 else a0.4) (bif decide (Au (TFront.mk a0.1 (max a0.2 a2) a0.3 a0.4 a0.5) a1≥a3) then a0.5 else bif a0.5==(0:Int)&&decide (a2 >a0.3) then a3 else a0.5)) a1
def Ib (a0:TFront) (a1:TVec) (a2:Int) (a3:Int):TFront:=TFront.mk (bif(A6 a0 a1 a2 a3) then(0:Int) else bif(BQ a0 a1 a2 a3) then(0:Int) else(AN (TFront.mk (bif decide (Au (TFront.mk a0.1 (max a0.2 a2) a0.3 a0.4 a0.5) a1≥a3) then a0.1 else bif a0.5==(0:Int)&&decide (a2 >a0.3) then a0.1 else a0.1) (bif decide (Au (TFront.mk a0.1 (max a0.2 a2) a0.3 a0.4 a0.5) a1≥a3) then max a0.2 a2 else bif a0.5==(0:Int)&&decide (a2 >a0.3) then max a0.2 a2 else max a0.2 a2) (bif decide (Au (TFront.mk a0.1 (max a0.2 a2) a0.3 a0.4 a0.5) a1≥a3) then max a0.3 a2 else bif a0.5==(0:Int)&&decide (a2 >a0.3) then a0.3 else a0.3) (bif decide (Au (TFront.mk a0.1 (max a0.2 a2) a0.3 a0.4 a0.5) a1≥a3) then a0.4 else bif a0.5==(0:Int)&&decide (a2 >a0.3) then a2 else a0.4) (bif decide (Au (TFront.mk a0.1 (max a0.2 a2) a0.3 a0.4 a0.5) a1≥a3) then a0.5 else bif a0.5==(0:Int)&&decide (a2 >a0.3) then a3 else a0.5)) a1).1) (bif(A6 a0 a1 a2 a3) then(0:Int) else bif(BQ a0 a1 a2 a3) then(0:Int) else(AN (TFront.mk (bif decide (Au (TFront.mk a0.1 (max a0.2 a2) a0.3 a0.4 a0.5) a1≥a3) then a0.1 else bif a0.5==(0:Int)&&decide (a2 >a0.3) then a0.1 else a0.1) (bif decide (Au (TFront.mk a0.1 (max a0.2 a2) a0.3 a0.4 a0.5) a1≥a3) then max a0.2 a2 else bif a0.5==(0:Int)&&decide (a2 >a0.3) then max a0.2 a2 else max a0.2 a2) (bif decide (Au (TFront.mk a0.1 (max a0.2 a2) a0.3 a0.4 a0.5) a1≥a3) then max a0.3 a2 else bif a0.5==(0:Int)&&decide (a2 >a0.3) then a0.3 else a0.3) (bif decide (Au (TFront.mk a0.1 (max a0.2 a2) a0.3 a0.4 a0.5) a1≥a3) then a0.4 else bif a0.5==(0:Int)&&decide (a2 >a0.3) then a2 else a0.4) (bif decide (Au (TFront.mk a0.1 (max a0.2 a2) a0.3 a0.4 a0.5) a1≥a3) then a0.5 else bif a0.5==(0:Int)&&decide (a2 >a0.3) then a3 else a0.5)) a1).2) (bif(A6 a0 a1 a2 a3) then(0:Int) else bif(BQ a0 a1 a2 a3) then(0:Int) else(AN (TFront.mk (bif decide (Au (TFront.mk a0.1 (max a0.2 a2) a0.3 a0.4 a0.5) a1≥a3) then a0.1 else bif a0.5==(0:Int)&&decide (a2 >a0.3) then a0.1 else a0.1) (bif decide (Au (TFront.mk a0.1 (max a0.2 a2) a0.3 a0.4 a0.5) a1≥a3) then max a0.2 a2 else bif a0.5==(0:Int)&&decide (a2 >a0.3) then max a0.2 a2 else max a0.2 a2) (bif decide (Au (TFront.mk a0.1 (max a0.2 a2) a0.3 a0.4 a0.5) a1≥a3) then max a0.3 a2 else bif a0.5==(0:Int)&&decide (a2 >a0.3) then a0.3 else a0.3) (bif decide (Au (TFront.mk a0.1 (max a0.2 a2) a0.3 a0.4 a0.5) a1≥a3) then a0.4 else bif a0.5==(0:Int)&&decide (a2 >a0.3) then a2 else a0.4) (bif decide (Au (TFront.mk a0.1 (max a0.2 a2) a0.3 a0.4 a0.5) a1≥a3) then a0.5 else bif a0.5==(0:Int)&&decide (a2 >a0.3) then a3 else a0.5)) a1).3) (bif(A6 a0 a1 a2 a3) then(0:Int) else bif(BQ a0 a1 a2 a3) then(0:Int) else(AN (TFront.mk (bif decide (Au (TFront.mk a0.1 (max a0.2 a2) a0.3 a0.4 a0.5) a1≥a3) then a0.1 else bif a0.5==(0:Int)&&decide (a2 >a0.3) then a0.1 else a0.1) (bif decide (Au (TFront.mk a0.1 (max a0.2 a2) a0.3 a0.4 a0.5) a1≥a3) then max a0.2 a2 else bif a0.5==(0:Int)&&decide (a2 >a0.3) then max a0.2 a2 else max a0.2 a2) (bif decide (Au (TFront.mk a0.1 (max a0.2 a2) a0.3 a0.4 a0.5) a1≥a3) then max a0.3 a2 else bif a0.5==(0:Int)&&decide (a2 >a0.3) then a0.3 else a0.3) (bif decide (Au (TFront.mk a0.1 (max a0.2 a2) a0.3 a0.4 a0.5) a1≥a3) then a0.4 else bif a0.5==(0:Int)&&decide (a2 >a0.3) then a2 else a0.4) (bif decide (Au (TFront.mk a0.1 (max a0.2 a2) a0.3 a0.4 a0.5) a1≥a3) then a0.5 else bif a0.5==(0:Int)&&decide (a2 >a0.3) then a3 else a0.5)) a1).4) (bif(A6 a0 a1 a2 a3) then(0:Int) else bif(BQ a0 a1 a2 a3) then(0:Int) else(AN (TFront.mk (bif decide (Au (TFront.mk a0.1 (max a0.2 a2) a0.3 a0.4 a0.5) a1≥a3) then a0.1 else bif a0.5==(0:Int)&&decide (a2 >a0.3) then a0.1 else a0.1) (bif decide (Au (TFront.mk a0.1 (max a0.2 a2) a0.3 a0.4 a0.5) a1≥a3) then max a0.2 a2 else bif a0.5==(0:Int)&&decide (a2 >a0.3) then max a0.2 a2 else max a0.2 a2) (bif decide (Au (TFront.mk a0.1 (max a0.2 a2) a0.3 a0.4 a0.5) a1≥a3) then max a0.3 a2 else bif a0.5==(0:Int)&&decide (a2 >a0.3) then a0.3 else a0.3) (bif decide (Au (TFront.mk a0.1 (max a0.2 a2) a0.3 a0.4 a0.5) a1≥a3) then a0.4 else bif a0.5==(0:Int)&&decide (a2 >a0.3) then a2 else a0.4) (bif decide (Au (TFront.mk a0.1 (max a0.2 a2) a0.3 a0.4 a0.5) a1≥a3) then a0.5 else bif a0.5==(0:Int)&&decide (a2 >a0.3) then a3 else a0.5)) a1).5)
def Akv (a0:TFront) (a1:TVec) (a2:Int) (a3:Int):Int:=bif(A6 a0 a1 a2 a3) then Dg a0 a1 else bif(BQ a0 a1 a2 a3) then(2:Int) else(0:Int)
def L9 (a0:TFront) (a1:TVec) (a2:Int) (a3:Int):A:=.v (.tuple ⟨[.agg ⟨[.int .i64 ((Ib a0 a1 a2 a3).site),.int .i64 ((Ib a0 a1 a2 a3).acked),.int .i64 ((Ib a0 a1 a2 a3).stable),.int .i64 ((Ib a0 a1 a2 a3).wait),.int .i64 ((Ib a0 a1 a2 a3).til)]⟩,.int .i64 (Akv a0 a1 a2 a3)]⟩)
def L8 (_a0:TFront) (_a1:TVec) (_a2:Int) (_a3:Int):Objs:=[]
def P4 (a0:TFront) (a1:TVec) (a2:Int) (a3:Int):List Prop:=[((!(A6 a0 a1 a2 a3))=true→decide (a2 <(0:Int))=false→(0:Int)≤(CK a0 a1 a2 a3)∧(CK a0 a1 a2 a3) <(2:Int)),((!(A6 a0 a1 a2 a3))=true→(!(BQ a0 a1 a2 a3))=true→(0:Int)≤(Jo a0 a1 a2 a3)∧(Jo a0 a1 a2 a3) <(2:Int)),((!(A6 a0 a1 a2 a3))=true→(!(BQ a0 a1 a2 a3))=true→decide ((bif decide (Au (TFront.mk a0.1 (max a0.2 a2) a0.3 a0.4 a0.5) a1≥a3) then a0.5 else bif a0.5==(0:Int)&&decide (a2 >a0.3) then a3 else a0.5) >(0:Int))=true→(0:Int)≤(Jn a0 a1 a2 a3)∧(Jn a0 a1 a2 a3) <(2:Int))]
set_option maxRecDepth 100000 in
theorem Agp (a0:TFront) (a1:TVec) (a2:Int) (a3:Int):EU (AA Bqh L0) 9 26 [Ak .front a0,Ak .vec a1,Ak .i64 a2,Ak .i64 a3] 0 []=some (1,L9 a0 a1 a2 a3,0,L8 a0 a1 a2 a3,[((!(A6 a0 a1 a2 a3))=true→decide (a2 <(0:Int))=false→(0:Int)≤(CK a0 a1 a2 a3)∧(CK a0 a1 a2 a3) <(2:Int)),((!(A6 a0 a1 a2 a3))=true→decide (a2 <(0:Int))=false→(CK a0 a1 a2 a3).toNat <(2:Nat)),((!(A6 a0 a1 a2 a3))=true→(!(BQ a0 a1 a2 a3))=true→(0:Int)≤(Jo a0 a1 a2 a3)∧(Jo a0 a1 a2 a3) <(2:Int)),((!(A6 a0 a1 a2 a3))=true→(!(BQ a0 a1 a2 a3))=true→decide ((bif decide (Au (TFront.mk a0.1 (max a0.2 a2) a0.3 a0.4 a0.5) a1≥a3) then a0.5 else bif a0.5==(0:Int)&&decide (a2 >a0.3) then a3 else a0.5) >(0:Int))=true→(0:Int)≤(Jn a0 a1 a2 a3)∧(Jn a0 a1 a2 a3) <(2:Int))]):=by kernel_rfl
set_option maxRecDepth 100000 in
theorem Akw (a0:TFront) (a1:TVec) (a2:Int) (a3:Int) (hp:∀p∈P4 a0 a1 a2 a3,p):CallOk Try.prog 26 [Ak .front a0,Ak .vec a1,Ak .i64 a2,Ak .i64 a3] 0 [] 1 (L9 a0 a1 a2 a3) 0 (L8 a0 a1 a2 a3):=by
 have n0:((!(A6 a0 a1 a2 a3))=true→decide (a2 <(0:Int))=false→(0:Int)≤(CK a0 a1 a2 a3)∧(CK a0 a1 a2 a3) <(2:Int)):=N0 hp
 have n1:((!(A6 a0 a1 a2 a3))=true→decide (a2 <(0:Int))=false→(CK a0 a1 a2 a3).toNat <(2:Nat)):=by intro h0 h1;have g:=n0 h0 h1;omega
 have n2:=N0 (N1 hp)
 have n3:=N0 (N1 (N1 hp))
 exact AH (Aw Ba1 AG) (Agp a0 a1 a2 a3) (Aa n0 (Aa n1 (Aa n2 (Aa n3 Ab))))
theorem Ace (a0:TFront) (a1:TVec) (a2:Int) (a3:Int):∀p∈P4 a0 a1 a2 a3,p:=by
 refine Aa (fun h _=>B2u (OG (f:=a0) (v:=a1) h)) (Aa (fun h _=>B1b (OG (f:=a0) (v:=a1) h)) (Aa (fun h _ _=>?_) Ab))
 show 0≤IntKind.i64.wrap (2 - (bif _ then a0.1 else bif _ then a0.1 else a0.1))∧IntKind.i64.wrap (2 - (bif _ then a0.1 else bif _ then a0.1 else a0.1)) <2
 rw[B26]
 exact B1b (OG (f:=a0) (v:=a1) h)
def Ma:List A→Nat→Objs→Option A8
 | [y0,y1,y2,y3],nx,o=>match AP .front y0,AP .vec y1,AP .i64 y2,AP .i64 y3 with
  |some (a0,p0),some (a1,p1),some (a2,p2),some (a3,p3)=>some (1,(L9 a0 a1 a2 a3).pk (AF nx),nx+0,AE nx (L8 a0 a1 a2 a3)++o,p0++(p1++(p2++(p3++(([]:List Prop))))))
  |_,_,_,_=>none
 |_,_,_=>none
theorem Acf:Fu Try.prog 26 Ma:=fun args nx o k x nx' o' ps h=>by
 unfold Ma at h
 split at h<;>first|(cases h;done)|skip
 split at h<;>first|(cases h;done)|skip
 rename_i a0 p0 a1 p1 a2 p2 a3 p3 e0 e1 e2 e3
 cases h
 refine⟨fun hp=>?_,_,rfl⟩
 have q0:=fun p hm=>hp p (List.mem_append.2 (.inl hm))
 have r0:=fun p hm=>hp p (List.mem_append.2 (.inr hm))
 have q1:=fun p hm=>r0 p (List.mem_append.2 (.inl hm))
 have r1:=fun p hm=>r0 p (List.mem_append.2 (.inr hm))
 have q2:=fun p hm=>r1 p (List.mem_append.2 (.inl hm))
 have r2:=fun p hm=>r1 p (List.mem_append.2 (.inr hm))
 have q3:=fun p hm=>r2 p (List.mem_append.2 (.inl hm))
 refine Ah (Ag (Akw a0 a1 a2 a3 (Ace a0 a1 a2 a3)) (Nat.le_refl _) (Ac (Af _ _) (Ac (Af _ _) (Ac (Af _ _) (Ac (Af _ _) Ao)))) nx o) fun F N R vs hl=>?_
 obtain⟨v0,w0,rfl,h0,hl⟩:=hl.inv
 obtain⟨v1,w1,rfl,h1,hl⟩:=hl.inv
 obtain⟨v2,w2,rfl,h2,hl⟩:=hl.inv
 obtain⟨v3,w3,rfl,h3,hl⟩:=hl.inv
 exact HL.cons (Am e0 q0 h0) (HL.cons (Am e1 q1 h1) (HL.cons (Am e2 q2 h2) (HL.cons (Am e3 q3 h3) (hl))))
noncomputable def Bqi:=A5 26 Ma Bqh
theorem Ba2:Df Try.prog Bqi:=Av Acf Ba1
def CW (a0:TFront) (a1:TVec):Bool:=Dg a0 a1 !=(0:Int)
def HK (a0:TFront) (a1:TVec):TFront:=TFront.mk (bif(CW a0 a1) then(0:Int) else(AN a0 a1).1) (bif(CW a0 a1) then(0:Int) else(AN a0 a1).2) (bif(CW a0 a1) then(0:Int) else(AN a0 a1).3) (bif(CW a0 a1) then(0:Int) else(AN a0 a1).4) (bif(CW a0 a1) then(0:Int) else(AN a0 a1).5)
def Agq (a0:TFront) (a1:TVec):Int:=bif(CW a0 a1) then Dg a0 a1 else(0:Int)
def Lh (a0:TFront) (a1:TVec):A:=.v (.tuple ⟨[.agg ⟨[.int .i64 ((HK a0 a1).site),.int .i64 ((HK a0 a1).acked),.int .i64 ((HK a0 a1).stable),.int .i64 ((HK a0 a1).wait),.int .i64 ((HK a0 a1).til)]⟩,.int .i64 (Agq a0 a1)]⟩)
def Lg (_a0:TFront) (_a1:TVec):Objs:=[]
def OP (a0:TFront) (a1:TVec):List Prop:=[((!(CW a0 a1))=true→decide (a0.5 >(0:Int))=true→(0:Int)≤AM a0 a1∧AM a0 a1 <(2:Int))]
set_option maxRecDepth 100000 in
theorem Acg (a0:TFront) (a1:TVec):EU (AA Bqi L0) 9 27 [Ak .front a0,Ak .vec a1] 0 []=some (1,Lh a0 a1,0,Lg a0 a1,[((!(CW a0 a1))=true→decide (a0.5 >(0:Int))=true→(0:Int)≤AM a0 a1∧AM a0 a1 <(2:Int))]):=by kernel_rfl
set_option maxRecDepth 100000 in
theorem Agr (a0:TFront) (a1:TVec) (hp:∀p∈OP a0 a1,p):CallOk Try.prog 27 [Ak .front a0,Ak .vec a1] 0 [] 1 (Lh a0 a1) 0 (Lg a0 a1):=by
 have n0:=N0 hp
 exact AH (Aw Ba2 AG) (Acg a0 a1) (Aa n0 Ab)
theorem Zr (a0:TFront) (a1:TVec):∀p∈OP a0 a1,p:=
 Aa (fun h _=>B1b (OG (f:=a0) (v:=a1) h)) Ab
def Li:List A→Nat→Objs→Option A8
 | [y0,y1],nx,o=>match AP .front y0,AP .vec y1 with
  |some (a0,p0),some (a1,p1)=>some (1,(Lh a0 a1).pk (AF nx),nx+0,AE nx (Lg a0 a1)++o,p0++(p1++(([]:List Prop))))
  |_,_=>none
 |_,_,_=>none
theorem Zs:Fu Try.prog 27 Li:=fun args nx o k x nx' o' ps h=>by
 unfold Li at h
 split at h<;>first|(cases h;done)|skip
 split at h<;>first|(cases h;done)|skip
 rename_i a0 p0 a1 p1 e0 e1
 cases h
 refine⟨fun hp=>?_,_,rfl⟩
 have q0:=fun p hm=>hp p (List.mem_append.2 (.inl hm))
 have r0:=fun p hm=>hp p (List.mem_append.2 (.inr hm))
 have q1:=fun p hm=>r0 p (List.mem_append.2 (.inl hm))
 refine Ah (Ag (Agr a0 a1 (Zr a0 a1)) (Nat.le_refl _) (Ac (Af _ _) (Ac (Af _ _) Ao)) nx o) fun F N R vs hl=>?_
 obtain⟨v0,w0,rfl,h0,hl⟩:=hl.inv
 obtain⟨v1,w1,rfl,h1,hl⟩:=hl.inv
 exact HL.cons (Am e0 q0 h0) (HL.cons (Am e1 q1 h1) (hl))
noncomputable def Bqj:=A5 27 Li Bqi
theorem Ba3:Df Try.prog Bqj:=Av Zs Ba2
def CX (a0:TFront) (a1:TVec):Bool:=Dg a0 a1 !=(0:Int)
def BJ (a0:TFront) (_a1:TVec):Int:=IntKind.i64.wrap (a0.1 - (1:Int))
def P5 (a0:TFront) (a1:TVec):TVec:=TVec.mk (bif(CX a0 a1) then(0:Int) else bif(BJ a0 a1).toNat.beq (0:Nat) then a0.3 else a1.1) (bif(CX a0 a1) then(0:Int) else bif(BJ a0 a1).toNat.beq (1:Nat) then a0.3 else a1.2)
def Ags (a0:TFront) (a1:TVec):Int:=bif(CX a0 a1) then Dg a0 a1 else(0:Int)
def Lk (a0:TFront) (a1:TVec):A:=.v (.tuple ⟨[.agg ⟨[.int .i64 ((P5 a0 a1).a),.int .i64 ((P5 a0 a1).b)]⟩,.int .i64 (Ags a0 a1)]⟩)
def Lj (_a0:TFront) (_a1:TVec):Objs:=[]
def OQ (a0:TFront) (a1:TVec):List Prop:=[((!(CX a0 a1))=true→(0:Int)≤(BJ a0 a1)∧(BJ a0 a1) <(2:Int))]
set_option maxRecDepth 100000 in
theorem Ach (a0:TFront) (a1:TVec):EU (AA Bqj L0) 9 31 [Ak .front a0,Ak .vec a1] 0 []=some (1,Lk a0 a1,0,Lj a0 a1,[((!(CX a0 a1))=true→(0:Int)≤(BJ a0 a1)∧(BJ a0 a1) <(2:Int)),((!(CX a0 a1))=true→(BJ a0 a1).toNat <(2:Nat))]):=by kernel_rfl
set_option maxRecDepth 100000 in
theorem Agt (a0:TFront) (a1:TVec) (hp:∀p∈OQ a0 a1,p):CallOk Try.prog 31 [Ak .front a0,Ak .vec a1] 0 [] 1 (Lk a0 a1) 0 (Lj a0 a1):=by
 have n0:((!(CX a0 a1))=true→(0:Int)≤(BJ a0 a1)∧(BJ a0 a1) <(2:Int)):=N0 hp
 have n1:((!(CX a0 a1))=true→(BJ a0 a1).toNat <(2:Nat)):=by intro h0;have g:=n0 h0;omega
 exact AH (Aw Ba3 AG) (Ach a0 a1) (Aa n0 (Aa n1 Ab))
theorem Zt (a0:TFront) (a1:TVec):∀p∈OQ a0 a1,p:=
 Aa (fun h=>B2u (OG (f:=a0) (v:=a1) h)) Ab
def Ll:List A→Nat→Objs→Option A8
 | [y0,y1],nx,o=>match AP .front y0,AP .vec y1 with
  |some (a0,p0),some (a1,p1)=>some (1,(Lk a0 a1).pk (AF nx),nx+0,AE nx (Lj a0 a1)++o,p0++(p1++(([]:List Prop))))
  |_,_=>none
 |_,_,_=>none
theorem Zu:Fu Try.prog 31 Ll:=fun args nx o k x nx' o' ps h=>by
 unfold Ll at h
 split at h<;>first|(cases h;done)|skip
 split at h<;>first|(cases h;done)|skip
 rename_i a0 p0 a1 p1 e0 e1
 cases h
 refine⟨fun hp=>?_,_,rfl⟩
 have q0:=fun p hm=>hp p (List.mem_append.2 (.inl hm))
 have r0:=fun p hm=>hp p (List.mem_append.2 (.inr hm))
 have q1:=fun p hm=>r0 p (List.mem_append.2 (.inl hm))
 refine Ah (Ag (Agt a0 a1 (Zt a0 a1)) (Nat.le_refl _) (Ac (Af _ _) (Ac (Af _ _) Ao)) nx o) fun F N R vs hl=>?_
 obtain⟨v0,w0,rfl,h0,hl⟩:=hl.inv
 obtain⟨v1,w1,rfl,h1,hl⟩:=hl.inv
 exact HL.cons (Am e0 q0 h0) (HL.cons (Am e1 q1 h1) (hl))
noncomputable def Byx:=A5 31 Ll Bqj
theorem Bqk:Df Try.prog Byx:=Av Zu Ba3
def WX:A:=.v (.bool (true))
def WW:Objs:=[]
def Ahq:List Prop:=[]
set_option maxRecDepth 100000 in
theorem A7y:EU (AA Byx L0) 1040 25 [] 0 []=some (1,WX,0,WW,[]):=by kernel_rfl
set_option maxRecDepth 100000 in
theorem Bdw (_hp:∀p∈Ahq,p):CallOk Try.prog 25 [] 0 [] 1 (WX) 0 (WW):=by
 exact AH (Aw Bqk AG) (A7y) Ab
def WY:List A→Nat→Objs→Option A8
 | [],nx,o=>some (1,(WX).pk (AF nx),nx+0,AE nx (WW)++o,Ahq)
 |_,_,_=>none
theorem A11:Fu Try.prog 25 WY:=fun args nx o k x nx' o' ps h=>by
 unfold WY at h
 split at h<;>first|(cases h;done)|skip
 cases h
 refine⟨fun hp=>?_,_,rfl⟩
 refine Ah (Ag (Bdw hp) (Nat.le_refl _) Ao nx o) fun F N R vs hl=>?_
 exact hl
end Go.Proofs.Yteebobbhhgmeiaa
