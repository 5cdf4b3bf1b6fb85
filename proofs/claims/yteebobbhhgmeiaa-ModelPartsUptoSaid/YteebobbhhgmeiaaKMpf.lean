/- made by a program (rowgen.py): ModelParts: for every input the law returns true, and each argument reads behind the call as it read before. -/
import Derived.Test.YteebobbhhgmeiaaKMpe

set_option maxRecDepth 100000
namespace Go.Proofs.Yteebobbhhgmeiaa
open Go.RowKit
def Bub (l:List TGroup) (r:TRow):List UInt8:=A8u r.key++(l.zip r.cells).flatMap (fun x=>Bez x.1.policy x.2)
def Buc (l:List TGroup) (r:TRow):List UInt8:=bif Ap l r==0 then Bub l r else[]
def KT (_a0:List UInt8) (a1:List TGroup) (a2:TRow):Bool:=Ap a1 a2 !=(0:Int)
def A5d (a0:List UInt8) (_a1:List TGroup) (_a2:TRow):List UInt8:=[]++a0
def A5e (_a0:List UInt8) (_a1:List TGroup) (_a2:TRow):A:=.sq 0
def Y4 (a0:List UInt8) (a1:List TGroup) (a2:TRow):Objs:=[(0,some (.arr 5 1 (.ty .u8 (A5d a0 a1 a2))))]
def Bki (a0:List UInt8) (a1:List TGroup) (a2:TRow):List Prop:=[((KT a0 a1 a2)=true→Ai ((0:Nat)+a0.length)),((!(KT a0 a1 a2))=true→Ai (a0.length+(8:Nat)+a2.1.size)),((!(KT a0 a1 a2))=true→ZF (4:Nat))]
theorem Bkh (a0:List UInt8) (a1:List TGroup) (a2:TRow):EQ (AA Cl L0) 9 79 [Ak .bytes a0,.sl .group a1,Ak .row a2] 0 []=some (1,A5e a0 a1 a2,1,Y4 a0 a1 a2,[((KT a0 a1 a2)=true→Ai ((0:Nat)+a0.length)),((!(KT a0 a1 a2))=true→Ai (a0.length+(8:Nat)+a2.1.size)),((!(KT a0 a1 a2))=true→ZF (4:Nat))]):=by kernel_rfl
theorem Bpm (a0:List UInt8) (a1:List TGroup) (a2:TRow) (hp:∀p∈Bki a0 a1 a2,p):CallOk Try.prog 79 [Ak .bytes a0,.sl .group a1,Ak .row a2] 0 [] 1 (A5e a0 a1 a2) 1 (Y4 a0 a1 a2):=by
 have n0:=N0 hp
 have n1:=N0 (N1 hp)
 have n2:=N0 (N1 (N1 hp))
 exact AI (Aw Bbk AH) (Bkh a0 a1 a2) (Aa n0 (Aa n1 (Aa n2 Ab)))
def A0p (_a0:List UInt8) (_a1:List TGroup) (_a2:TRow):A:=.sq 0
def Mm (a0:List UInt8) (a1:List TGroup) (a2:TRow):Objs:=[(0,some (.arr 5 1 (.ty .u8 (a0++Buc a1 a2))))]
def Aq6 (a0:List UInt8) (_a1:List TGroup) (_a2:TRow):List Prop:=[Ai (a0.length+1024)]
section
variable {F:Nat→Prop} {N:Nm} {nx:Nat} {R:World}
theorem A4a:∀{l:List UInt8} {zs:List Value},zs.length=l.length→(∀k,k <l.length→HL F N nx R [.v (Bt (l.getD k 0))] ((zs.drop (k*1)).take 1))→zs=l.map Bt
 | [],[],_,_=>rfl
 | [],_::_,h,_=>by cases h
 |_::_,[],h,_=>by cases h
 | x::l,z::zs,h,g=>by
  have h0:=g 0 (Nat.succ_pos _)
  obtain⟨v,vs,e1,e2,e3⟩:=h0.inv
  have hz:z=Bt x:=by
   have e1':[z]=v::vs:=e1
   injection e1' with e1' _
   rw[e1']
   exact e2.v_inv
  rw[List.map_cons,←hz,A4a (l:=l) (zs:=zs) (by simpa using h) fun k hk=>by
   have:=g (k+1) (Nat.succ_lt_succ hk)
   simpa[Nat.mul_one] using this]
theorem Bpn {l:List UInt8} {k:Nat} (hk:k <l.length):HL F N nx R [.v (Bt (l.getD k 0))] (((l.map Bt).drop (k*1)).take 1):=by
 rw[Nat.mul_one,List.drop_eq_getElem_cons (by simpa using hk),List.take_succ_cons,List.take_zero,List.getElem_map,List.getD_eq_getElem?_getD,List.getElem?_eq_getElem hk]
 exact HL.cons (.v _) HL.nil
theorem OwnB.sl {base:Nat} {y:Value} {bs:List UInt8} (h:OwnB base R y bs) (N:Nm):(∀g,CR y=some g→g <R.heap.size)∧Hv (fun g=>CR y=some g) N 0 R (.sl .u8 bs) y:=by
 refine⟨fun g hg=>h.1.lt hg,?_⟩
 obtain⟨hl,h2⟩:=h.1
 rcases h2 with⟨a,e1,e2⟩|⟨g,cap,cur,e1,e2,e3,_,e5,e6⟩
 ·obtain rfl:bs=[]:=List.eq_nil_of_length_eq_zero e2
  rw[e1]
  exact Hv.sl_nil rfl
 ·rw[e1]
  refine Hv.of_sl e3 fun hn=>⟨⟨g,0,none⟩,rfl,?_,fun i d hd j x hx=>?_⟩
  ·obtain⟨m,hm⟩:∃m,bs.length=m+1:=⟨bs.length - 1,by omega⟩
   rw[hm]
   rfl
  ·cases j with
   |succ j=>cases hx
   |zero=>
    have hi:=(List.getElem?_eq_some_iff.1 hd).1
    have hz:(bs.map Bt)[i]?=some (Bt d):=by rw[List.getElem?_map,hd];rfl
    rw[←e6,List.getElem?_take_of_lt (by omega)] at hz
    obtain rfl:A.v (Bt d)=x:=Option.some.inj hx
    refine⟨Bt d,?_,.v _⟩
    rw[D9,Fu,Gi e2]
    show cur[0+(i*1+0)]?=_
    rw[Nat.zero_add,Nat.add_zero,Nat.mul_one]
    simpa using hz
end
theorem CallOk.bytes {P:Program} {f:FuncId} {args:List A} {bs:List UInt8} (h:CallOk P f args 0 [] 1 (.sq 0) 1 [(0,some (.arr 5 1 (.ty .u8 bs)))]) {F:Nat→Prop} {N:Nm} {R:World} {vs:List Value} (hF:∀g,F g→g <R.heap.size) (hv:HL F N 0 R args vs):
  Calls P f vs.toArray R fun e R'=>∃y,e=.returned y∧Below R.heap.size R R'∧OwnB R.heap.size R' y bs:=by
 refine(h F N R vs (HRel.bare hF) hv).mono fun e R' ⟨y,F',N',e1,h2,h3,h4,h5⟩=>⟨y,e1,h5 (Nat.le_refl _),?_⟩
 obtain rfl:y=N'.q 0:=by cases h4;rfl
 obtain⟨_,zs,g1,g2⟩:=h2.ob 0 _ rfl
 have e:zs=bs.map Bt:=A4a (F:=F') (N:=N') (nx:=1) (R:=R') (by rw[g1.1];exact Nat.mul_one _) g2
 rw[e] at g1
 refine⟨g1,fun g hg=>?_⟩
 rcases h3.foot g ⟨0,_,rfl,hg⟩ with⟨i,ob,hl,_⟩|h
 ·cases hl
 ·exact h
theorem OwnB.made {P:Program} {f:FuncId} {F:Nat→Prop} {N:Nm} {R:World} {vs:List Value} {bs:List UInt8} (hR:HRel F N 0 [] R)
  (h:Calls P f vs.toArray R fun e R'=>∃y,e=.returned y∧Below R.heap.size R R'∧OwnB R.heap.size R' y bs):
  Calls P f vs.toArray R fun e R'=>∃y F' N',e=.returned y∧HRel F' N' 1 [(0,some (.arr 5 1 (.ty .u8 bs)))] R'∧Step F N 0 [] R F' N' 1 [(0,some (.arr 5 1 (.ty .u8 bs)))] R'∧Hv F' N' 1 R' (.sq 0) y∧(1≤1→Below R.heap.size R R'):=by
 refine h.mono fun e R' ⟨y,e1,hb,h2,h3⟩=>⟨y,F,N.setQ 0 y,e1,?_,?_,?_,fun _=>hb⟩
 ·have hq:(N.setQ 0 y).q 0=y:=by show K3 N.q 0 y 0=y;exact CP _ _ _
  have one:∀i ob,Ay i [(0,some (Ob.arr 5 1 (.ty .u8 bs)))]=some ob→i=0∧ob=.arr 5 1 (.ty .u8 bs):=fun i ob hl=>by
   cases i with
   |zero=>cases hl;exact⟨rfl,rfl⟩
   |succ i=>cases hl
  refine⟨fun g hg=>Nat.lt_of_lt_of_le (hR.flt g hg) hb.size,fun i ob hl=>?_,fun i ob g hl hg hF=>?_,fun i j x z g hl hl' _ _=>(one i x hl).1.trans (one j z hl').1.symm⟩
  ·obtain⟨rfl,rfl⟩:=one i ob hl
   exact⟨Nat.succ_pos _,bs.map Bt,by rw[hq];exact h2,fun k hk=>Bpn hk⟩
  ·obtain⟨rfl,rfl⟩:=one i ob hl
   have hg':CR ((N.setQ 0 y).q 0)=some g:=hg
   rw[hq] at hg'
   have:=hR.flt g hF
   have:=h3 g hg'
   omega
 ·refine⟨Nat.zero_le _,fun i hi=>absurd hi (Nat.not_lt_zero _),fun i hi=>absurd hi (Nat.not_lt_zero _),fun _ h=>h,fun _ h=> .inl h,fun g ⟨i,ob,hl,hg⟩=> .inr ?_,hb.os,hb.tape,hb.output,hb.size,fun g hg _=>hb.block g hg⟩
  cases i with
  |succ i=>cases hl
  |zero=>
   cases hl
   have hg':CR ((N.setQ 0 y).q 0)=some g:=hg
   rw[show(N.setQ 0 y).q 0=y by show K3 N.q 0 y 0=y;exact CP _ _ _] at hg'
   exact h3 g hg'
 ·have hq:(N.setQ 0 y).q 0=y:=by show K3 N.q 0 y 0=y;exact CP _ _ _
  have:=Hv.sq (F:=F) (N:=N.setQ 0 y) (nx:=1) (R:=R') (i:=0) (Nat.succ_pos _)
  rw[hq] at this
  exact this
theorem Bxx (p:Int) (c:TCell):(Bez p c).length≤128:=by
 unfold Bez Br2
 cases hg:BA p c with
 |false=>exact Nat.zero_le _
 | true=>
  have n8:=XE (OA c)
  have s8:=Bud c.stamp
  have v16:=A8v c.vec
  have d16:=A8v c.dead
  have t8:=Bi3 c.value
  cases hw:Cx c with
  |false=>cases Hq c.dead<;>simp only[cond_true,cond_false,List.length_append,List.length_nil]<;>omega
  |true=>
   have:=((A4m.1 hg).st hw).2.2.2.1
   cases Hq c.dead<;>cases c.gone<;>simp only[cond_true,cond_false,List.length_append,List.length_nil]<;>omega
theorem Bkg (a0:List UInt8) (a1:List TGroup) (a2:TRow) (hp:∀p∈Aq6 a0 a1 a2,p):CallOk Try.prog 79 [Ak .bytes a0,.sl .group a1,Ak .row a2] 0 [] 1 (A0p a0 a1 a2) 1 (Mm a0 a1 a2):=by
 have hb:Ai (a0.length+1024):=hp _ (List.mem_cons_self ..)
 unfold Ai at hb
 cases hg:Ap a1 a2==0 with
 | false=>
  have hk:KT a0 a1 a2=true:=by
   show(Ap a1 a2 !=0)=true
   simpa using hg
  have h:=Bpm a0 a1 a2 (Aa (fun _=>by unfold Ai;omega) (Aa (fun h=>by rw[hk] at h;cases h) (Aa (fun h=>by rw[hk] at h;cases h) Ab)))
  have e:Y4 a0 a1 a2=Mm a0 a1 a2:=by
   unfold Y4 Mm A5d Buc
   rw[hg,cond_false,List.append_nil,List.nil_append]
  rw[e] at h
  exact h
 | true=>
  have h0:Ap a1 a2=0:=by simpa using hg
  obtain⟨h1,hlen,_,h32,_⟩:=AS h0
  obtain⟨hl1,hl4⟩:=Gu h1
  intro F N R vs hR hv
  obtain⟨v,vs,rfl,hv0,hv⟩:=hv.inv
  obtain⟨v0,vs,rfl,k0,hv⟩:=hv.inv
  obtain⟨v1,vs,rfl,k1,hv⟩:=hv.inv
  rw[hv.inv0]
  have hv0':=hv0
  obtain⟨ab,ncap,rfl,_⟩:=Hv.sl_inv (c:=.u8) (l:=a0) hv0
  obtain⟨us,rfl,k2⟩:=Hv.agg_inv (xs:=[.v (.string a2.key),.sl .cell a2.cells]) k1
  obtain⟨u0,us,rfl,m0,k2⟩:=k2.inv
  obtain⟨u1,us,rfl,m1,k2⟩:=k2.inv
  obtain rfl:=k2.inv0
  obtain rfl:=m0.v_inv
  obtain⟨aa,cap0,rfl,g0⟩:=Bzi hR.flt k0
  obtain⟨ac,cap1,rfl,g1⟩:=Bzg hR.flt m1
  have ho:Mm a0 a1 a2=[(0,some (.arr 5 1 (.ty .u8 ((a0++A8u a2.key)++(a1.zip a2.cells).flatMap (fun x=>Bez x.1.policy x.2)))))]:=by
   unfold Mm Buc Bub
   rw[hg,cond_true,List.append_assoc]
  rw[ho]
  refine OwnB.made hR (Bkk R aa ac a1 a2.cells a2.key cap0 cap1 a0.length ncap ab (a0++A8u a2.key) Bez 128 Bxx ?_ hl1 hl4 (by rw[hlen];exact MM _) ?_ ?_ g0 g1)
  ·intro W hW
   have h:Calls Try.prog 65 #[.slice aa a1.length cap0,.agg #[.string a2.key,.slice ac a2.cells.length cap1]] W fun e W'=>e=.returned (.int .i64 (Ap a1 a2))∧Below W.heap.size W W':=(Aqz a1 a2 (fun _ h=>by cases h)).plain (F:=F) (N:=N) (R:=W) (vs:=[.slice aa a1.length cap0,.agg #[.string a2.key,.slice ac a2.cells.length cap1]]) (fun g hg=>Nat.lt_of_lt_of_le (hR.flt g hg) hW.size) (HL.cons (k0.step (hR.grow hW).2) (HL.cons (k1.step (hR.grow hW).2) HL.nil))
   rw[h0] at h
   exact h
  ·intro W hW
   exact(Xk a0 a2.key (Aa (by unfold Ai;omega) Ab)).bytes (F:=F) (N:=N) (R:=W) (vs:=[_,.string a2.key]) (fun g hg=>Nat.lt_of_lt_of_le (hR.flt g hg) hW.size) (HL.cons (hv0'.step (hR.grow hW).2) (HL.cons (.v _) HL.nil))
  ·intro W v bs q c base ho hl
   obtain⟨f1,f2⟩:=ho.sl N
   have h8:=Bi3 a2.key
   rw[List.length_append] at hl
   exact(Aoh bs q c (Aa (by unfold Ai;omega) Ab)).bytes (F:=fun g=>CR v=some g) (N:=N) (R:=W) (vs:=[v,.int .i64 q,cV c]) f1 (HL.cons f2 (HL.cons (.v _) (HL.cons (.v _) HL.nil)))
def Anx:List A→Nat→Objs→Option Bb
 | [y0,y1,y2],nx,o=>match AQ .bytes y0,Kh .group y1,AQ .row y2 with
  |some (a0,p0),some a1,some (a2,p2)=>some (1,(A0p a0 a1 a2).pk (AF nx),nx+1,AE nx (Mm a0 a1 a2)++o,p0++(p2++(Aq6 a0 a1 a2)))
  |_,_,_=>none
 |_,_,_=>none
theorem Bgk:Ft Try.prog 79 Anx:=fun args nx o k x nx' o' ps h=>by
 unfold Anx at h
 split at h<;>first|(cases h;done)|skip
 split at h<;>first|(cases h;done)|skip
 rename_i a0 p0 a1 a2 p2 e0 e1 e2
 cases h
 refine⟨fun hp=>?_,_,rfl⟩
 have q0:=fun p hm=>hp p (List.mem_append.2 (.inl hm))
 have r0:=fun p hm=>hp p (List.mem_append.2 (.inr hm))
 have q2:=fun p hm=>r0 p (List.mem_append.2 (.inl hm))
 have r2:=fun p hm=>r0 p (List.mem_append.2 (.inr hm))
 refine Ah (Ag (Bkg a0 a1 a2 r2) (Nat.le_refl _) (Ac (Af _ _) (Ac rfl (Ac (Af _ _) Ao))) nx o) fun F N R vs hl=>?_
 obtain⟨v0,w0,rfl,h0,hl⟩:=hl.inv
 obtain⟨v1,w1,rfl,h1,hl⟩:=hl.inv
 obtain⟨v2,w2,rfl,h2,hl⟩:=hl.inv
 exact HL.cons (Am e0 q0 h0) (HL.cons (BX e1 h1) (HL.cons (Am e2 q2 h2) (hl)))
noncomputable def B0i:=A7 79 Anx Cl
theorem Blx:Dd Try.prog B0i:=Av Bgk Bbk
def Ax (a0:Int) (a1:Int) (a2:Int):Int:=bif decide (a0 >a2)||decide (a1 >a2)||decide (a0 >IntKind.i64.wrap (a2 - a1)) then IntKind.i64.wrap (a2+(1:Int)) else IntKind.i64.wrap (a0+a1)
def Ama (a0:Int) (a1:Int) (a2:Int):A:=.v (.int .i64 (Ax a0 a1 a2))
def Al9 (_a0:Int) (_a1:Int) (_a2:Int):Objs:=[]
def Ayo (_a0:Int) (_a1:Int) (_a2:Int):List Prop:=[]
theorem Bi6 (a0:Int) (a1:Int) (a2:Int):EQ (AA B0i L0) 9 111 [Ak .i64 a0,Ak .i64 a1,Ak .i64 a2] 0 []=some (1,Ama a0 a1 a2,0,Al9 a0 a1 a2,[]):=by kernel_rfl
theorem Bpa (a0:Int) (a1:Int) (a2:Int) (_hp:∀p∈Ayo a0 a1 a2,p):CallOk Try.prog 111 [Ak .i64 a0,Ak .i64 a1,Ak .i64 a2] 0 [] 1 (Ama a0 a1 a2) 0 (Al9 a0 a1 a2):=by
 exact AI (Aw Blx AH) (Bi6 a0 a1 a2) Ab
def Y2:List A→Nat→Objs→Option Bb
 | [y0,y1,y2],nx,o=>match AQ .i64 y0,AQ .i64 y1,AQ .i64 y2 with
  |some (a0,p0),some (a1,p1),some (a2,p2)=>some (1,(Ama a0 a1 a2).pk (AF nx),nx+0,AE nx (Al9 a0 a1 a2)++o,p0++(p1++(p2++(Ayo a0 a1 a2))))
  |_,_,_=>none
 |_,_,_=>none
theorem Ape:Ft Try.prog 111 Y2:=fun args nx o k x nx' o' ps h=>by
 unfold Y2 at h
 split at h<;>first|(cases h;done)|skip
 split at h<;>first|(cases h;done)|skip
 rename_i a0 p0 a1 p1 a2 p2 e0 e1 e2
 cases h
 refine⟨fun hp=>?_,_,rfl⟩
 have q0:=fun p hm=>hp p (List.mem_append.2 (.inl hm))
 have r0:=fun p hm=>hp p (List.mem_append.2 (.inr hm))
 have q1:=fun p hm=>r0 p (List.mem_append.2 (.inl hm))
 have r1:=fun p hm=>r0 p (List.mem_append.2 (.inr hm))
 have q2:=fun p hm=>r1 p (List.mem_append.2 (.inl hm))
 have r2:=fun p hm=>r1 p (List.mem_append.2 (.inr hm))
 refine Ah (Ag (Bpa a0 a1 a2 r2) (Nat.le_refl _) (Ac (Af _ _) (Ac (Af _ _) (Ac (Af _ _) Ao))) nx o) fun F N R vs hl=>?_
 obtain⟨v0,w0,rfl,h0,hl⟩:=hl.inv
 obtain⟨v1,w1,rfl,h1,hl⟩:=hl.inv
 obtain⟨v2,w2,rfl,h2,hl⟩:=hl.inv
 exact HL.cons (Am e0 q0 h0) (HL.cons (Am e1 q1 h1) (HL.cons (Am e2 q2 h2) (hl)))
noncomputable def Bhe:=A7 111 Y2 B0i
theorem Aug:Dd Try.prog Bhe:=Av Ape Blx
theorem Au3 {n k m:Int} (hn:0≤n) (hk:0≤k∧k≤9223372036854775807) (hm:0≤m∧m≤1099511627776):(Ax n k m≤m→n+k≤m)∧0≤Ax n k m∧(n+k≤m→Ax n k m=n+k):=by
 unfold Ax
 rw[i64_in (n:=m - k) (by omega),i64_in (n:=m+1) (by omega)]
 by_cases h:n+k≤m
 ·have e:(decide (n >m)||decide (k >m)||decide (n >m - k))=false:=by
   rw[decide_eq_false (by omega),decide_eq_false (by omega),decide_eq_false (by omega)];rfl
  rw[e,cond_false,i64_in (by omega)]
  exact⟨fun _=>h,by omega,fun _=>rfl⟩
 ·have e:(decide (n >m)||decide (k >m)||decide (n >m - k))=true:=by
   rw[decide_eq_true (p:=n >m - k) (by omega),Bool.or_true]
  rw[e,cond_true]
  exact⟨fun h'=>by omega,by omega,fun h'=>absurd h' h⟩
theorem Abl {k:Nat} (h:Az k):(0:Int)≤(k:Int)∧(k:Int)≤9223372036854775807:=by unfold Az at h;omega
abbrev Ce:Type:=(List TRow)×Int×Int×Int
def Lm (x:Ce):St:=⟨64,0,[(1,.sl .row x.1),(5,.v (.int .i64 x.2.1)),(6,.v (.int .i64 x.2.2.1)),(7,.v (.int .i64 x.2.2.2))],[]⟩
def Nh:St→Option Ce
 |⟨64,0,[(1,.sl .row z0),(5,.v (.int .i64 z1)),(6,.v (.int .i64 z2)),(7,.v (.int .i64 z3))],[]⟩=>some (z0,z1,z2,z3)
 |_=>none
theorem Agz:∀s x,Nh s=some x→s=Lm x:=fun s x h=>by
 unfold Nh at h
 split at h
 ·cases h;rfl
 ·cases h
def Wz:Dj:=⟨0,0,[1,5,6,7],[],[],[],[5],[]⟩
def Awm:DB:=⟨[],[],[1,5,6,7],[]⟩
def CJ (a0:List TRow) (a1:Int) (a2:Int) (a3:Int):Bool:=!!(decide (a3 <(↑(a0.getD a2.toNat (Ae TC.row)).2.length:Int))&&decide (a1≤(5000:Int)))
def L6 (a0:List TRow) (a1:Int) (a2:Int) (a3:Int):Int:=Ax a1 (↑((a0.getD a2.toNat (Ae TC.row)).2.getD a3.toNat (Ae TC.cell)).4.size:Int) (5000:Int)
def Ak3 (a0:List TRow) (a1:Int) (a2:Int) (a3:Int):Bool:=!(decide (a3 <(↑(a0.getD a2.toNat (Ae TC.row)).2.length:Int))&&decide (a1≤(5000:Int)))
def CL (x:Ce):Ce:=(x.1,L6 x.1 x.2.1 x.2.2.1 x.2.2.2,x.2.2.1,IntKind.i64.wrap (x.2.2.2+(1:Int)))
def CK (x:Ce):Cnd:=some ((CJ x.1 x.2.1 x.2.2.1 x.2.2.2))
def Sq (x:Ce):List Prop:=[((0:Int)≤x.2.2.1∧x.2.2.1 <(↑x.1.length:Int)),((CJ x.1 x.2.1 x.2.2.1 x.2.2.2)=true→(0:Int)≤x.2.2.1∧x.2.2.1 <(↑x.1.length:Int)),((CJ x.1 x.2.1 x.2.2.1 x.2.2.2)=true→(0:Int)≤x.2.2.2∧x.2.2.2 <(↑(x.1.getD x.2.2.1.toNat (Ae TC.row)).2.length:Int))]
def EJ (x:Ce):List Prop:=[((0:Int)≤x.2.2.1∧x.2.2.1 <(↑x.1.length:Int)),((CJ x.1 x.2.1 x.2.2.1 x.2.2.2)=true→(0:Int)≤x.2.2.1∧x.2.2.1 <(↑x.1.length:Int)),((CJ x.1 x.2.1 x.2.2.1 x.2.2.2)=true→(0:Int)≤x.2.2.2∧x.2.2.2 <(↑(x.1.getD x.2.2.1.toNat (Ae TC.row)).2.length:Int))]
def P9 (x:Ce):Bo:=[(some 2,some (Ak3 x.1 x.2.1 x.2.2.1 x.2.2.2),⟨64,0,[(5,.v (.int .i64 x.2.1))],[]⟩)]
def Du (x:Ce):Nat:=((↑(x.1.getD x.2.2.1.toNat (Ae TC.row)).2.length:Int) - x.2.2.2).toNat
def JY (x:Ce):Ce:=Bg CL CK (Du x) x
theorem Ar0 (a0:List TRow) (a1:Int) (a2:Int) (a3:Int):Bz (AA Bhe L0) 9 (Aj Try.prog 60 2) Wz (Lm (a0,a1,a2,a3))=some (Sq (a0,a1,a2,a3),P9 (a0,a1,a2,a3),CK (a0,a1,a2,a3),Lm (CL (a0,a1,a2,a3))):=by kernel_rfl
theorem Ar1 (a0:List TRow) (a1:Int) (a2:Int) (a3:Int) (hp:∀p∈EJ (a0,a1,a2,a3),p):∀p∈Sq (a0,a1,a2,a3),p:=by
 have n0:=N0 hp
 have n1:=N0 (N1 hp)
 have n2:=N0 (N1 (N1 hp))
 exact(Aa n0 (Aa n1 (Aa n2 Ab)))
noncomputable def Sr:=H1 (AA Bhe L0) (Aj Try.prog 60 2) Wz Awm Nh Du CL CK EJ P9
theorem Ak4:∀s b ps outs,Sr s=some (b,ps,outs)→Wf s ⟨ps,outs,none⟩∧Bx (AA C0 L0) b s ps outs:=
 Bm (T:=Lm) Aug AH (u:=9) (by kernel_rfl) (by decide) (fun⟨a0,a1,a2,a3⟩=>Ar0 a0 a1 a2 a3) (fun⟨a0,a1,a2,a3⟩=>Ar1 a0 a1 a2 a3) Agz (fun _=>AW (n:=64) rfl) fun _ _=>rfl
noncomputable def Ll:=DP 2 Sr L0
theorem Sp:Hr Ll:=A6 Ak4 AH
abbrev Cc:Type:=(List TRow)×Int×Int
def Lk (x:Cc):St:=⟨64,0,[(1,.sl .row x.1),(5,.v (.int .i64 x.2.1)),(6,.v (.int .i64 x.2.2))],[]⟩
def Ng:St→Option Cc
 |⟨64,0,[(1,.sl .row z0),(5,.v (.int .i64 z1)),(6,.v (.int .i64 z2))],[]⟩=>some (z0,z1,z2)
 |_=>none
theorem Agy:∀s x,Ng s=some x→s=Lk x:=fun s x h=>by
 unfold Ng at h
 split at h
 ·cases h;rfl
 ·cases h
def Wy:Dj:=⟨0,0,[1,5,6],[],[],[],[5],[]⟩
def Awl:DB:=⟨[],[],[1,5,6],[]⟩
def Bh (a0:List TRow) (a1:Int) (a2:Int):Bool:=!!(decide (a2 <(↑a0.length:Int))&&decide (a1≤(5000:Int)))
def GI (a0:List TRow) (a1:Int) (a2:Int):Int:=(JY (a0,Ax (Ax a1 (↑(a0.getD a2.toNat (Ae TC.row)).1.size:Int) (5000:Int)) (↑(a0.getD a2.toNat (Ae TC.row)).2.length:Int) (5000:Int),a2,(0:Int))).snd.fst
def Ak1 (a0:List TRow) (a1:Int) (a2:Int):Bool:=!(decide (a2 <(↑a0.length:Int))&&decide (a1≤(5000:Int)))
def FJ (x:Cc):Cc:=(x.1,GI x.1 x.2.1 x.2.2,IntKind.i64.wrap (x.2.2+(1:Int)))
def FI (x:Cc):Cnd:=some ((Bh x.1 x.2.1 x.2.2))
def Sm (x:Cc):List Prop:=[((Bh x.1 x.2.1 x.2.2)=true→(0:Int)≤x.2.2∧x.2.2 <(↑x.1.length:Int)),((Bh x.1 x.2.1 x.2.2)=true→(0:Int)≤x.2.2∧x.2.2 <(↑x.1.length:Int)),((Bh x.1 x.2.1 x.2.2)=true→Aj Try.prog (60:FuncId) (2:Nat)=Aj Try.prog (60:FuncId) (2:Nat)),((Bh x.1 x.2.1 x.2.2)=true→AL CL CK EJ (Du (x.1,Ax (Ax x.2.1 (↑(x.1.getD x.2.2.toNat (Ae TC.row)).1.size:Int) (5000:Int)) (↑(x.1.getD x.2.2.toNat (Ae TC.row)).2.length:Int) (5000:Int),x.2.2,(0:Int))) (x.1,Ax (Ax x.2.1 (↑(x.1.getD x.2.2.toNat (Ae TC.row)).1.size:Int) (5000:Int)) (↑(x.1.getD x.2.2.toNat (Ae TC.row)).2.length:Int) (5000:Int),x.2.2,(0:Int)))]
def IV (x:Cc):List Prop:=[((Bh x.1 x.2.1 x.2.2)=true→(0:Int)≤x.2.2∧x.2.2 <(↑x.1.length:Int)),((Bh x.1 x.2.1 x.2.2)=true→AL CL CK EJ (Du (x.1,Ax (Ax x.2.1 (↑(x.1.getD x.2.2.toNat (Ae TC.row)).1.size:Int) (5000:Int)) (↑(x.1.getD x.2.2.toNat (Ae TC.row)).2.length:Int) (5000:Int),x.2.2,(0:Int))) (x.1,Ax (Ax x.2.1 (↑(x.1.getD x.2.2.toNat (Ae TC.row)).1.size:Int) (5000:Int)) (↑(x.1.getD x.2.2.toNat (Ae TC.row)).2.length:Int) (5000:Int),x.2.2,(0:Int)))]
def P8 (x:Cc):Bo:=[(some 0,some (Ak1 x.1 x.2.1 x.2.2),⟨64,0,[(5,.v (.int .i64 x.2.1))],[]⟩)]
def HN (x:Cc):Nat:=((↑x.1.length:Int) - x.2.2).toNat
def So (x:Cc):Cc:=Bg FJ FI (HN x) x
theorem Ary (a0:List TRow) (a1:Int) (a2:Int):Bz (AA Bhe Ll) 9 (Aj Try.prog 60 0) Wy (Lk (a0,a1,a2))=some (Sm (a0,a1,a2),P8 (a0,a1,a2),FI (a0,a1,a2),Lk (FJ (a0,a1,a2))):=by kernel_rfl
theorem Arz (a0:List TRow) (a1:Int) (a2:Int) (hp:∀p∈IV (a0,a1,a2),p):∀p∈Sm (a0,a1,a2),p:=by
 have n0:((Bh a0 a1 a2)=true→(0:Int)≤a2∧a2 <(↑a0.length:Int)):=N0 hp
 have n2:((Bh a0 a1 a2)=true→Aj Try.prog (60:FuncId) (2:Nat)=Aj Try.prog (60:FuncId) (2:Nat)):=by intros;rfl
 have n3:=N0 (N1 hp)
 exact(Aa n0 (Aa n0 (Aa n2 (Aa n3 Ab))))
noncomputable def Sn:=H1 (AA Bhe Ll) (Aj Try.prog 60 0) Wy Awl Ng HN FJ FI IV P8
theorem Ak2:∀s b ps outs,Sn s=some (b,ps,outs)→Wf s ⟨ps,outs,none⟩∧Bx (AA C0 L0) b s ps outs:=
 Bm (T:=Lk) Aug Sp (u:=9) (by kernel_rfl) (by decide) (fun⟨a0,a1,a2⟩=>Ary a0 a1 a2) (fun⟨a0,a1,a2⟩=>Arz a0 a1 a2) Agy (fun _=>AW (n:=64) rfl) fun _ _=>rfl
noncomputable def Wx:=DP 0 Sn Ll
theorem Ak0:Hr Wx:=A6 Ak2 Sp
def P7 (a0:List TGroup) (a1:List TRow):Bool:=decide ((So (a1,Ax (0:Int) (↑a0.length:Int) (5000:Int),(0:Int))).snd.fst≤(5000:Int))
def Aot (a0:List TGroup) (a1:List TRow):A:=.v (.bool (P7 a0 a1))
def Aos (_a0:List TGroup) (_a1:List TRow):Objs:=[]
def Ag1 (a0:List TGroup) (a1:List TRow):List Prop:=[(AL FJ FI IV (HN (a1,Ax (0:Int) (↑a0.length:Int) (5000:Int),(0:Int))) (a1,Ax (0:Int) (↑a0.length:Int) (5000:Int),(0:Int)))]
theorem A7o (a0:List TGroup) (a1:List TRow):EQ (AA Bhe Wx) 9 60 [.sl .group a0,Ak .rows a1] 0 []=some (1,Aot a0 a1,0,Aos a0 a1,[(Aj Try.prog (60:FuncId) (0:Nat)=Aj Try.prog (60:FuncId) (0:Nat)),(AL FJ FI IV (HN (a1,Ax (0:Int) (↑a0.length:Int) (5000:Int),(0:Int))) (a1,Ax (0:Int) (↑a0.length:Int) (5000:Int),(0:Int)))]):=by kernel_rfl
theorem Bd0 (a0:List TGroup) (a1:List TRow) (hp:∀p∈Ag1 a0 a1,p):CallOk Try.prog 60 [.sl .group a0,Ak .rows a1] 0 [] 1 (Aot a0 a1) 0 (Aos a0 a1):=by
 have n1:=N0 hp
 exact AI (Aw Aug Ak0) (A7o a0 a1) (Aa rfl (Aa n1 Ab))
def Ag2 (a0:List TGroup) (a1:List TRow):A:=.v (.bool (P7 a0 a1))
def Ag0 (_a0:List TGroup) (_a1:List TRow):Objs:=[]
def ZQ (a0:List TGroup) (a1:List TRow):List Prop:=[Az a0.length∧Az a1.length∧∀r∈a1,Az r.key.size∧Az r.cells.length∧∀c∈r.cells,Az c.value.size]
def Yu (m:Nat) (r:TRow):Prop:=r.key.size≤m∧r.cells.length≤m∧∀c∈r.cells,c.value.size≤m
def YE (r:TRow):Prop:=Az r.key.size∧Az r.cells.length∧∀c∈r.cells,Az c.value.size
theorem getD_in {α:Type} (l:List α) (d:α) (i:Nat) (h:i <l.length):l.getD i d∈l:=by
 rw[List.getD_eq_getElem?_getD,List.getElem?_eq_getElem h]
 exact List.getElem_mem h
def nk (cs:List TCell) (n0:Int):Nat→Int
 |0=>n0
 |k+1=>Ax (nk cs n0 k) ((cs.getD k (Ae TC.cell)).4.size:Int) 5000
theorem Bzl (cs:List TCell) (n0:Int) (h0:0≤n0) (hw:∀c∈cs,Az c.value.size):∀k,k≤cs.length→0≤nk cs n0 k∧(nk cs n0 k≤5000→n0≤5000∧∀j,j <k→(cs.getD j (Ae TC.cell)).value.size≤5000)
 |0,_=>⟨h0,fun h=>⟨h,fun j hj=>absurd hj (Nat.not_lt_zero _)⟩⟩
 | k+1,hk=>by
  obtain⟨g1,g2⟩:=Bzl cs n0 h0 hw k (by omega)
  obtain⟨a1,a2,_⟩:=Au3 g1 (Abl (hw _ (getD_in cs (Ae TC.cell) k (by omega)))) (m:=5000) (by omega)
  refine⟨a2,fun h=>?_⟩
  have h':=a1 h
  obtain⟨b1,b2⟩:=g2 (by omega)
  refine⟨b1,fun j hj=>?_⟩
  by_cases e:j <k
  ·exact b2 j e
  ·obtain rfl:j=k:=by omega
   show(cs.getD j (Ae TC.cell)).4.size≤5000
   omega
theorem Bec (rows:List TRow) (i:Nat) (hi:i <rows.length) (n0:Int) (h0:0≤n0) (hl:n0≤5000→(rows.getD i (Ae TC.row)).cells.length≤5000) (hw:∀c∈(rows.getD i (Ae TC.row)).cells,Az c.value.size):
  AL CL CK EJ (Du (rows,n0,(i:Int),0)) (rows,n0,(i:Int),0)∧
  0≤(JY (rows,n0,(i:Int),0)).snd.fst∧((JY (rows,n0,(i:Int),0)).snd.fst≤5000→n0≤5000∧∀c∈(rows.getD i (Ae TC.row)).cells,c.value.size≤5000):=by
 generalize hcs:(rows.getD i (Ae TC.row)).cells=cs at*
 have hcs2:(rows.getD i (Ae TC.row)).2=cs:=hcs
 have hgo:∀k:Nat,CJ rows (nk cs n0 k) (i:Int) (k:Int)=(decide (k <cs.length)&&!!decide (nk cs n0 k≤5000)):=fun k=>by
  unfold CJ
  rw[Int.toNat_natCast,hcs2,nn,nn,Mp]
 obtain⟨h1,k,hk,hx,hs,hst,_⟩:=IJ (fun k=>((rows,nk cs n0 k,(i:Int),(k:Int)):Ce)) cs.length (fun k=>!decide (nk cs n0 k≤5000)) CL CK EJ (Du (rows,n0,(i:Int),0)) (rows,n0,(i:Int),0) rfl
  (by show cs.length≤(((rows.getD ((i:Int)).toNat (Ae TC.row)).2.length:Int) - 0).toNat;rw[Int.toNat_natCast,hcs2];omega)
  (fun k _ _=>by
   show CJ rows (nk cs n0 k) (i:Int) (k:Int)=_
   rw[hgo])
  (fun k hk hs=>by
   have h5:n0≤5000:=by
    have:=hs 0 (Nat.succ_pos k)
    rw[Bool.not_eq_false'] at this
    exact of_decide_eq_true this
   have:=hl h5
   show(rows,L6 rows (nk cs n0 k) (i:Int) (k:Int),(i:Int),IntKind.i64.wrap ((k:Int)+1))=(rows,nk cs n0 (k+1),(i:Int),((k+1:Nat):Int))
   rw[Fp (by omega)]
   unfold L6
   rw[Int.toNat_natCast,Int.toNat_natCast,hcs2]
   rfl)
  (fun k _ _=>Aa (by show(0:Int)≤(i:Int)∧(i:Int) <(rows.length:Int);omega) (Aa (fun _=>by show(0:Int)≤(i:Int)∧(i:Int) <(rows.length:Int);omega) (Aa (fun h=>by
   have h':CJ rows (nk cs n0 k) (i:Int) (k:Int)=true:=h
   rw[hgo,Bool.and_eq_true] at h'
   have:=of_decide_eq_true h'.1
   show(0:Int)≤(k:Int)∧(k:Int) <((rows.getD ((i:Int)).toNat (Ae TC.row)).2.length:Int)
   rw[Int.toNat_natCast,hcs2]
   omega) Ab)))
 have hr:JY (rows,n0,(i:Int),0)=(rows,nk cs n0 k,(i:Int),(k:Int)):=hx
 obtain⟨g1,g2⟩:=Bzl cs n0 h0 hw k hk
 rw[hr]
 refine⟨h1,g1,fun h=>?_⟩
 obtain⟨b1,b2⟩:=g2 h
 refine⟨b1,fun c hc=>?_⟩
 have hkn:k=cs.length:=by
  rcases Nat.lt_or_ge k cs.length with h'|h'
  ·have:=hst h'
   rw[decide_eq_true h] at this
   cases this
  ·omega
 obtain⟨j,hj,rfl⟩:=List.mem_iff_getElem.1 hc
 have:=b2 j (by omega)
 rw[List.getD_eq_getElem?_getD,List.getElem?_eq_getElem hj] at this
 exact this
def nr (rows:List TRow) (n0:Int):Nat→Int
 |0=>n0
 |i+1=>GI rows (nr rows n0 i) (i:Int)
theorem Awy (rows:List TRow) (i:Nat) (hi:i <rows.length) (n:Int) (hn:0≤n) (hw:YE (rows.getD i (Ae TC.row))):
  AL CL CK EJ (Du (rows,Ax (Ax n ((rows.getD i (Ae TC.row)).1.size:Int) 5000) ((rows.getD i (Ae TC.row)).2.length:Int) 5000,(i:Int),0)) (rows,Ax (Ax n ((rows.getD i (Ae TC.row)).1.size:Int) 5000) ((rows.getD i (Ae TC.row)).2.length:Int) 5000,(i:Int),0)∧
  0≤GI rows n (i:Int)∧(GI rows n (i:Int)≤5000→n≤5000∧Yu 5000 (rows.getD i (Ae TC.row))):=by
 obtain⟨w1,w2,w3⟩:=hw
 obtain⟨a1,a2,_⟩:=Au3 (k:=((rows.getD i (Ae TC.row)).1.size:Int)) hn (Abl w1) (m:=5000) (by omega)
 obtain⟨c1,c2,_⟩:=Au3 (k:=((rows.getD i (Ae TC.row)).2.length:Int)) a2 (Abl w2) (m:=5000) (by omega)
 obtain⟨g1,g2,g3⟩:=Bec rows i hi _ c2 (fun h=>by have:=c1 h;show(rows.getD i (Ae TC.row)).2.length≤5000;omega) w3
 unfold GI
 rw[Int.toNat_natCast]
 refine⟨g1,g2,fun h=>?_⟩
 obtain⟨h1,h2⟩:=g3 h
 have q1:=c1 h1
 have q2:=a1 (by omega)
 exact⟨by omega,by show(rows.getD i (Ae TC.row)).1.size≤5000;omega,by show(rows.getD i (Ae TC.row)).2.length≤5000;omega,h2⟩
theorem Btw (rows:List TRow) (n0:Int) (h0:0≤n0) (hw:∀r∈rows,YE r):∀k,k≤rows.length→0≤nr rows n0 k∧(nr rows n0 k≤5000→n0≤5000∧∀j,j <k→Yu 5000 (rows.getD j (Ae TC.row)))
 |0,_=>⟨h0,fun h=>⟨h,fun j hj=>absurd hj (Nat.not_lt_zero _)⟩⟩
 | k+1,hk=>by
  obtain⟨g1,g2⟩:=Btw rows n0 h0 hw k (by omega)
  obtain⟨_,a2,a3⟩:=Awy rows k (by omega) (nr rows n0 k) g1 (hw _ (getD_in rows (Ae TC.row) k (by omega)))
  refine⟨a2,fun h=>?_⟩
  obtain⟨h1,h2⟩:=a3 h
  obtain⟨b1,b2⟩:=g2 h1
  refine⟨b1,fun j hj=>?_⟩
  by_cases e:j <k
  ·exact b2 j e
  ·obtain rfl:j=k:=by omega
   exact h2
theorem Btf (l:List TGroup) (rows:List TRow) (hl:Az l.length) (hr:Az rows.length) (hw:∀r∈rows,YE r):(∀p∈Ag1 l rows,p)∧(P7 l rows=true→l.length≤5000∧∀r∈rows,Yu 5000 r):=by
 have hr':=hr
 unfold Az at hr'
 obtain⟨a1,a2,_⟩:=Au3 (n:=0) (k:=(l.length:Int)) (Int.le_refl _) (Abl hl) (m:=5000) (by omega)
 generalize hn0:Ax 0 (l.length:Int) 5000=n0 at*
 have hgo:∀k:Nat,Bh rows (nr rows n0 k) (k:Int)=(decide (k <rows.length)&&!!decide (nr rows n0 k≤5000)):=fun k=>by
  unfold Bh
  rw[nn,nn,Mp]
 obtain⟨h1,k,hk,hx,hs,hst,_⟩:=IJ (fun k=>((rows,nr rows n0 k,(k:Int)):Cc)) rows.length (fun k=>!decide (nr rows n0 k≤5000)) FJ FI IV (HN (rows,n0,0)) (rows,n0,0) rfl
  (by show rows.length≤((rows.length:Int) - 0).toNat;omega)
  (fun k _ _=>by
   show Bh rows (nr rows n0 k) (k:Int)=_
   rw[hgo])
  (fun k hk hs=>by
   show(rows,GI rows (nr rows n0 k) (k:Int),IntKind.i64.wrap ((k:Int)+1))=(rows,nr rows n0 (k+1),((k+1:Nat):Int))
   rw[Fp (by omega)]
   rfl)
  (fun k hk _=>by
   have hin:Bh rows (nr rows n0 k) (k:Int)=true→k <rows.length:=fun h=>by
    rw[hgo,Bool.and_eq_true] at h
    exact of_decide_eq_true h.1
   refine Aa (fun h=>?_) (Aa (fun h=>?_) Ab)
   ·have:=hin h
    show(0:Int)≤(k:Int)∧(k:Int) <(rows.length:Int)
    omega
   ·have hk':=hin h
    have:=(Awy rows k hk' (nr rows n0 k) (Btw rows n0 a2 hw k hk).1 (hw _ (getD_in rows (Ae TC.row) k hk'))).1
    have e:((k:Int)).toNat=k:=Int.toNat_natCast k
    show AL CL CK EJ (Du (rows,Ax (Ax (nr rows n0 k) ((rows.getD ((k:Int)).toNat (Ae TC.row)).1.size:Int) 5000) ((rows.getD ((k:Int)).toNat (Ae TC.row)).2.length:Int) 5000,(k:Int),0)) (rows,Ax (Ax (nr rows n0 k) ((rows.getD ((k:Int)).toNat (Ae TC.row)).1.size:Int) 5000) ((rows.getD ((k:Int)).toNat (Ae TC.row)).2.length:Int) 5000,(k:Int),0)
    rw[e]
    exact this)
 have hrun:So (rows,n0,0)=(rows,nr rows n0 k,(k:Int)):=hx
 refine⟨Aa (by rw[hn0];exact h1) Ab,fun h=>?_⟩
 unfold P7 at h
 rw[hn0,hrun] at h
 have h5:nr rows n0 k≤5000:=of_decide_eq_true h
 obtain⟨b1,b2⟩:=(Btw rows n0 a2 hw k hk).2 h5
 have hkn:k=rows.length:=by
  rcases Nat.lt_or_ge k rows.length with h'|h'
  ·have:=hst h'
   rw[decide_eq_true h5] at this
   cases this
  ·omega
 refine⟨by have:=a1 b1;omega,fun r hr=>?_⟩
 obtain⟨j,hj,rfl⟩:=List.mem_iff_getElem.1 hr
 have:=b2 j (by omega)
 rw[List.getD_eq_getElem?_getD,List.getElem?_eq_getElem hj] at this
 exact this
theorem A7n (a0:List TGroup) (a1:List TRow) (hp:∀p∈ZQ a0 a1,p):CallOk Try.prog 60 [.sl .group a0,Ak .rows a1] 0 [] 1 (Ag2 a0 a1) 0 (Ag0 a0 a1):=by
 obtain⟨h1,h2,h3⟩:=hp _ (List.mem_cons_self ..)
 exact Bd0 a0 a1 (Btf a0 a1 h1 h2 h3).1
def Qa:List A→Nat→Objs→Option Bb
 | [y0,y1],nx,o=>match Kh .group y0,AQ .rows y1 with
  |some a0,some (a1,p1)=>some (1,(Ag2 a0 a1).pk (AF nx),nx+0,AE nx (Ag0 a0 a1)++o,p1++(ZQ a0 a1))
  |_,_=>none
 |_,_,_=>none
theorem ZR:Ft Try.prog 60 Qa:=fun args nx o k x nx' o' ps h=>by
 unfold Qa at h
 split at h<;>first|(cases h;done)|skip
 split at h<;>first|(cases h;done)|skip
 rename_i a0 a1 p1 e0 e1
 cases h
 refine⟨fun hp=>?_,_,rfl⟩
 have q1:=fun p hm=>hp p (List.mem_append.2 (.inl hm))
 have r1:=fun p hm=>hp p (List.mem_append.2 (.inr hm))
 refine Ah (Ag (A7n a0 a1 r1) (Nat.le_refl _) (Ac rfl (Ac (Af _ _) Ao)) nx o) fun F N R vs hl=>?_
 obtain⟨v0,w0,rfl,h0,hl⟩:=hl.inv
 obtain⟨v1,w1,rfl,h1,hl⟩:=hl.inv
 exact HL.cons (BX e0 h0) (HL.cons (Am e1 q1 h1) (hl))
noncomputable def B0j:=A7 60 Qa Bhe
theorem Bly:Dd Try.prog B0j:=Av ZR Aug
def A7q:ByteArray:=ByteArray.mk #[(97:UInt8)]
def A7r:ByteArray:=ByteArray.mk #[(98:UInt8)]
def TT:A:=.sq 0
def TS:Objs:=[(0,some (.arr 79 2 (.lst [[.v (.string A7q),.v (.int .i64 ((1:Int)))],[.v (.string A7r),.v (.int .i64 ((2:Int)))]])))]
def ZS:List Prop:=[]
theorem A1x:EQ (AA B0j L0) 9 127 [] 0 []=some (1,TT,1,TS,[]):=by kernel_rfl
theorem A7s (_hp:∀p∈ZS,p):CallOk Try.prog 127 [] 0 [] 1 (TT) 1 (TS):=by
 exact AI (Aw Bly AH) (A1x) Ab
def TU:List A→Nat→Objs→Option Bb
 | [],nx,o=>some (1,(TT).pk (AF nx),nx+1,AE nx (TS)++o,ZS)
 |_,_,_=>none
theorem Awn:Ft Try.prog 127 TU:=fun args nx o k x nx' o' ps h=>by
 unfold TU at h
 split at h<;>first|(cases h;done)|skip
 cases h
 refine⟨fun hp=>?_,_,rfl⟩
 refine Ah (Ag (A7s hp) (Nat.le_refl _) Ao nx o) fun F N R vs hl=>?_
 exact hl
noncomputable def B13:=A7 127 TU B0j
theorem Bv4:Dd Try.prog B13:=Av Awn Bly
def WB:A:=.v (.bool (true))
def WA:Objs:=[]
def Ag3:List Prop:=[]
theorem A7p:EQ (AA B13 L0) 1040 61 [] 0 []=some (1,WB,0,WA,[(Ai (2:Nat)),(true=true→Ai (2:Nat)),(true=true→Ai (1024:Nat)),(false=false),(true=true→false=false),(false=false),(true=true→false=false),(false=false),(true=true→false=false),(false=false)]):=by kernel_rfl
theorem Bd1 (_hp:∀p∈Ag3,p):CallOk Try.prog 61 [] 0 [] 1 (WB) 0 (WA):=by
 have n0:(Ai (2:Nat)):=by first|rfl|decide+kernel
 have n1:(true=true→Ai (2:Nat)):=by first|rfl|decide+kernel
 have n2:(true=true→Ai (1024:Nat)):=by first|rfl|decide+kernel
 have n3:(false=false):=by first|rfl|decide+kernel
 have n4:(true=true→false=false):=by first|rfl|decide+kernel
 exact AI (Aw Bv4 AH) (A7p) (Aa n0 (Aa n1 (Aa n2 (Aa n3 (Aa n4 (Aa n3 (Aa n4 (Aa n3 (Aa n4 (Aa n3 Ab))))))))))
def WC:List A→Nat→Objs→Option Bb
 | [],nx,o=>some (1,(WB).pk (AF nx),nx+0,AE nx (WA)++o,Ag3)
 |_,_,_=>none
theorem A1w:Ft Try.prog 61 WC:=fun args nx o k x nx' o' ps h=>by
 unfold WC at h
 split at h<;>first|(cases h;done)|skip
 cases h
 refine⟨fun hp=>?_,_,rfl⟩
 refine Ah (Ag (Bd1 hp) (Nat.le_refl _) Ao nx o) fun F N R vs hl=>?_
 exact hl
end Go.Proofs.Yteebobbhhgmeiaa
namespace Go.Proofs.Yteebobbhhgmeiaa
open Go.RowKit
def IW (a b:ByteArray):Bool:=Op.bytesLess a.toList b.toList
theorem Tw:∀x:List UInt8,Op.bytesLess x x=false
 | []=>rfl
 |a::x=>by
  unfold Op.bytesLess
  rw[Tw x]
  simp
theorem An9:∀{x y z:List UInt8},Op.bytesLess x y=true→Op.bytesLess y z=true→Op.bytesLess x z=true
 |x,[],_,h,_=>by cases x<;>cases h
 |_,_::_,[],_,h=>by cases h
 | [],_::_,_::_,_,_=>rfl
 |a::x,b::y,c::z,h,g=>by
  unfold Op.bytesLess at*
  simp only[Bool.or_eq_true,decide_eq_true_eq,Bool.and_eq_true,beq_iff_eq] at*
  rcases h with h|⟨rfl,h⟩<;>rcases g with g|⟨rfl,g⟩
  ·exact .inl (UInt8.lt_trans h g)
  ·exact .inl h
  ·exact .inl g
  ·exact .inr ⟨rfl,An9 h g⟩
theorem An8:∀{x y:List UInt8},Op.bytesLess x y=false→x≠y→Op.bytesLess y x=true
 | [],[],_,h=>absurd rfl h
 | [],_::_,h,_=>by cases h
 |_::_,[],_,_=>rfl
 | a::x,b::y,h,g=>by
  unfold Op.bytesLess at*
  simp only[Bool.or_eq_true,Bool.or_eq_false_iff,decide_eq_true_eq,decide_eq_false_iff_not,Bool.and_eq_true,beq_iff_eq] at*
  obtain⟨h1,h2⟩:=h
  by_cases e:a=b
  ·subst e
   refine .inr ⟨rfl,An8 (by simpa using h2) fun e=>g (by rw[e])⟩
  ·left
   have h1':¬a.toNat <b.toNat:=h1
   have h3:a.toNat≠b.toNat:=fun h=>e (UInt8.toNat_inj.1 h)
   show b.toNat <a.toNat
   omega
theorem KX {a b c:ByteArray} (h:IW a b=true) (g:IW b c=true):IW a c=true:=An9 h g
theorem TX {a b:ByteArray} (h:IW a b=true):a≠b:=by
 rintro rfl
 unfold IW at h
 rw[Tw] at h
 cases h
theorem SN {a b:ByteArray} (h:IW a b=false) (g:a≠b):IW b a=true:=by
 refine An8 h fun e=>g ?_
 have:(a.toList==b.toList)=true:=beq_iff_eq.2 e
 rw[tlb] at this
 exact eq_of_beq this
def Acy (l:List TGroup) (i:Nat):Int:=(l.getD i (Ae TC.group)).policy
def Gj (cs:List TCell) (i:Nat):TCell:=cs.getD i (Ae TC.cell)
def BJ (rows:List TRow) (i:Nat):TRow:=rows.getD i (Ae TC.row)
def OP (rows:List TRow):Nat→ByteArray
 |0=>⟨#[]⟩
 |i+1=>(BJ rows i).key
def leS (a b:ByteArray):Bool:=IW a b||a==b
def VI (l:List TGroup) (rows:List TRow) (i:Nat):Int:=bif Ap l (BJ rows i) !=0 then Ap l (BJ rows i) else bif FF (BJ rows i)||leS (BJ rows i).key (OP rows i) then 100 else 0
def Gt (l:List TGroup) (rows:List TRow):Nat→Int
 |0=>0
 |i+1=>bif Gt l rows i !=0 then Gt l rows i else VI l rows i
def EI (l:List TGroup) (rows:List TRow):Int:=bif AY l !=0 then AY l else Gt l rows rows.length
theorem Ago (l:List TGroup) (rows:List TRow):∀n,Gt l rows n=0↔∀i,i <n→VI l rows i=0
 |0=>⟨fun _ i h=>absurd h (Nat.not_lt_zero _),fun _=>rfl⟩
 | n +1=>by
  have ih:=Ago l rows n
  unfold Gt
  cases h:Gt l rows n !=0 with
  |true=>
   rw[cond_true]
   have h':Gt l rows n≠0:=by simpa using h
   exact⟨fun e=>absurd e h',fun e=>absurd (ih.2 fun i hi=>e i (by omega)) h'⟩
  | false=>
   rw[cond_false]
   have h':Gt l rows n=0:=by simpa using h
   constructor
   ·intro e i hi
    rcases Nat.lt_or_ge i n with g|g
    ·exact ih.1 h' i g
    ·obtain rfl:i=n:=by omega
     exact e
   ·intro e
    exact e n (Nat.lt_succ_self n)
theorem Wl {l:List TGroup} {rows:List TRow} {k:Nat} (h:Gt l rows k≠0):∀n,k≤n→Gt l rows n=Gt l rows k
 |0,hn=>by
  obtain rfl:k=0:=by omega
  rfl
 | n+1,hn=>by
  rcases Nat.lt_or_ge n k with g|g
  ·obtain rfl:k=n+1:=by omega
   rfl
  ·have ih:=Wl h n g
   have hb:(Gt l rows k !=0)=true:=by simpa using h
   show(bif Gt l rows n !=0 then Gt l rows n else _)=_
   rw[ih,hb,cond_true]
theorem Auj {l:List TGroup} {rows:List TRow}:EI l rows=0↔AY l=0∧∀i,i <rows.length→VI l rows i=0:=by
 unfold EI
 cases h:AY l !=0 with
 |true=>
  rw[cond_true]
  have h':AY l≠0:=by simpa using h
  exact⟨fun e=>absurd e h',fun e=>absurd e.1 h'⟩
 |false=>
  rw[cond_false,Ago]
  have h':AY l=0:=by simpa using h
  exact⟨fun e=>⟨h',e⟩,fun e=>e.2⟩
theorem Bh7 {l:List TGroup} {rows:List TRow} {i:Nat}:VI l rows i=0↔Ap l (BJ rows i)=0∧FF (BJ rows i)=false∧leS (BJ rows i).key (OP rows i)=false:=by
 unfold VI
 cases h:Ap l (BJ rows i) !=0 with
 |true=>
  rw[cond_true]
  have h':Ap l (BJ rows i)≠0:=by simpa using h
  exact⟨fun e=>absurd e h',fun e=>absurd e.1 h'⟩
 |false=>
  rw[cond_false]
  have h':Ap l (BJ rows i)=0:=by simpa using h
  cases FF (BJ rows i)<;>cases leS (BJ rows i).key (OP rows i)<;>simp[h']
def Og (rows:List TRow):Prop:=rows.Pairwise fun a b=>IW a.key b.key=true
theorem Tj {rows:List TRow} {i:Nat} (h:i <rows.length):BJ rows i=rows[i]:=by
 unfold BJ
 rw[List.getD_eq_getElem?_getD,List.getElem?_eq_getElem h]
 rfl
theorem Bx6 {l:List TGroup} {rows:List TRow} (h:∀i,i <rows.length→VI l rows i=0):Og rows:=by
 unfold Og
 rw[List.pairwise_iff_getElem]
 have step:∀i,i+1 <rows.length→IW (BJ rows i).key (BJ rows (i+1)).key=true:=fun i hi=>by
  have:=(Bh7.1 (h (i+1) hi)).2.2
  have h2:leS (BJ rows (i+1)).key (BJ rows i).key=false:=this
  unfold leS at h2
  obtain⟨h3,h4⟩:=Bool.or_eq_false_iff.1 h2
  exact SN h3 (by simpa using h4)
 have far:∀d i,i+d+1 <rows.length→IW (BJ rows i).key (BJ rows (i+d+1)).key=true:=fun d=>by
  induction d with
  |zero=>intro i hi;exact step i hi
  |succ d ih=>intro i hi;exact KX (ih i (by omega)) (step (i+d+1) (by omega))
 intro i j hi hj hij
 have:=far (j - i - 1) i (by omega)
 rw[show i+(j - i - 1)+1=j by omega,Tj hi,Tj hj] at this
 exact this
theorem A69 {l:List TGroup} {rows:List TRow} (hp:AY l=0) (hg:∀r∈rows,Ap l r=0∧FF r=false) (hr:Og rows):EI l rows=0:=by
 refine Auj.2 ⟨hp,fun i hi=>Bh7.2 ?_⟩
 have hm:BJ rows i∈rows:=by rw[Tj hi];exact List.getElem_mem hi
 obtain⟨g1,g2⟩:=hg _ hm
 refine⟨g1,g2,?_⟩
 unfold leS
 cases i with
 | zero=>
  have hk:(BJ rows 0).key.size≠0:=(AS g1).2.2.1
  rw[Bool.or_eq_false_iff]
  constructor
  ·show Op.bytesLess (BJ rows 0).key.toList (ByteArray.mk #[]).toList=false
   rw[show(ByteArray.mk #[]).toList=[] by decide+kernel]
   cases(BJ rows 0).key.toList<;>rfl
  ·refine beq_eq_false_iff_ne.2 fun e=>hk ?_
   rw[e]
   rfl
 | succ i=>
  have hlt:IW (BJ rows i).key (BJ rows (i+1)).key=true:=by
   rw[Tj hi,Tj (show i <rows.length by omega)]
   exact List.pairwise_iff_getElem.1 hr i (i+1) _ _ (by omega)
  rw[Bool.or_eq_false_iff]
  constructor
  ·cases h:IW (BJ rows (i+1)).key (OP rows (i+1)) with
   |false=>rfl
   |true=>exact absurd rfl (TX (KX hlt h))
  ·exact beq_eq_false_iff_ne.2 fun e=>TX hlt e.symm
def B1g (p:Int) (st:TVec) (c:TCell):Bool:=!eqC c zeroC&&(BA p c&&(Bc5 st (Acf c)&&!Tp p c))
theorem Awb {l:List TGroup} {r:TRow} (h1:AY l=0) (h2:r.key.size≠0) (h3:r.key.size≤32) (h4:r.cells.length=l.length) (h5:(l.zip r.cells).all (fun x=>BA x.1.policy x.2)=true):Ap l r=0:=by
 unfold Ap
 have g1:(AY l !=0)=false:=by rw[h1];rfl
 have g2:(r.key.size==0)=false:=by simpa using h2
 have g4:(r.cells.length !=l.length)=false:=by rw[h4];simp
 rw[g1,g2,decide_eq_false (by omega),g4,h5]
 rfl
theorem A68 {l:List TGroup} {cs:List TCell} (hl:cs.length=l.length):(l.zip cs).all (fun x=>BA x.1.policy x.2)=true↔∀i,i <l.length→BA (Acy l i) (Gj cs i)=true:=by
 rw[Bzq l cs (Ae TC.group) (Ae TC.cell) (fun g c=>BA g.policy c) hl,HF]
 exact Iff.rfl
end Go.Proofs.Yteebobbhhgmeiaa
namespace Go.Proofs.Yteebobbhhgmeiaa
open Go.RowKit
def Lex (r e s:Prop):Prop:=r∨(e∧s)
theorem SL {r1 r2 r3 e1 e2 e3 s1 s2 s3:Prop} (hr:r1→r2→r3) (hre:r1→e2→r3) (her:e1→r2→r3) (hee:e1→e2→e3) (hs:s1→s2→s3):Lex r1 e1 s1→Lex r2 e2 s2→Lex r3 e3 s3
 | .inl a,.inl b=> .inl (hr a b)
 | .inl a,.inr b=> .inl (hre a b.1)
 | .inr a,.inl b=> .inl (her a.1 b)
 | .inr a,.inr b=> .inr ⟨hee a.1 b.1,hs a.2 b.2⟩
theorem SK {r1 r2 e1 e2 s1 s2 t e:Prop} (h:r1∨e∨r2) (h1:e→e1) (h2:e→e2) (hs:s1∨t∨s2):Lex r1 e1 s1∨(e∧t)∨Lex r2 e2 s2:=by
 rcases h with h|h|h
 ·exact .inl (.inl h)
 ·rcases hs with g|g|g
  ·exact .inl (.inr ⟨h1 h,g⟩)
  ·exact .inr (.inl ⟨h,g⟩)
  ·exact .inr (.inr (.inr ⟨h2 h,g⟩))
 ·exact .inr (.inr (.inl h))
def UA (a b:TCell):Prop:=
 Lex (a.stamp.n <b.stamp.n) (a.stamp.n=b.stamp.n) (Lex (a.stamp.site <b.stamp.site) (a.stamp.site=b.stamp.site) (Lex (a.gone=false∧b.gone=true) (a.gone=b.gone) (Lex (IW a.value b.value=true) (a.value=b.value) (Lex (a.vec.a <b.vec.a) (a.vec.a=b.vec.a) (a.vec.b <b.vec.b)))))
theorem Acg {a b c:TCell}:UA a b→UA b c→UA a c:=
 SL (by omega) (by omega) (by omega) (by omega) (SL (by omega) (by omega) (by omega) (by omega)
  (SL (fun h g=>by rw[h.2] at g;exact absurd g.1 (by decide)) (fun h g=>⟨h.1,g▸h.2⟩) (fun h g=>⟨h▸g.1,g.2⟩) (fun h g=>h.trans g)
   (SL KX (fun h g=>g▸h) (fun h g=>h▸g) (fun h g=>h.trans g) (SL (by omega) (by omega) (by omega) (by omega) (by omega)))))
theorem Bd8 {a:TCell} (h:UA a a):False:=by
 rcases h with h|⟨_,h|⟨_,h|⟨_,h|⟨_,h|⟨_,h⟩⟩⟩⟩⟩
 ·omega
 ·omega
 ·rw[h.1] at h;exact absurd h.2 (by decide)
 ·exact TX h rfl
 ·omega
 ·omega
def Bzn (a b:TCell):Prop:=a.stamp.n=b.stamp.n∧a.stamp.site=b.stamp.site∧a.gone=b.gone∧a.value=b.value∧a.vec.a=b.vec.a∧a.vec.b=b.vec.b
theorem Awv (a b:TCell):UA a b∨Bzn a b∨UA b a:=by
 refine SK (by omega) id Eq.symm (SK (by omega) id Eq.symm (SK ?_ id Eq.symm (SK ?_ id Eq.symm (SK (by omega) id Eq.symm (by omega)))))
 ·cases a.gone<;>cases b.gone<;>simp
 ·by_cases h:a.value=b.value
  ·exact .inr (.inl h)
  ·cases h1:IW a.value b.value with
   |true=>exact .inl rfl
   |false=>exact .inr (.inr (SN h1 h))
def Jz (a b:TCell):Bool:=
 bif !(a.stamp.n==b.stamp.n&&a.stamp.site==b.stamp.site) then decide (a.stamp.n <b.stamp.n)||(a.stamp.n==b.stamp.n&&decide (a.stamp.site <b.stamp.site))
 else bif a.gone !=b.gone then b.gone
 else bif !(a.value==b.value) then IW a.value b.value
 else bif a.vec.a !=b.vec.a then decide (a.vec.a <b.vec.a)
 else decide (a.vec.b <b.vec.b)
theorem A4s {a b:TCell}:Jz a b=true↔UA a b:=by
 unfold Jz UA Lex
 by_cases h1:a.stamp.n=b.stamp.n
 ·by_cases h2:a.stamp.site=b.stamp.site
  ·have e:(a.stamp.n==b.stamp.n&&a.stamp.site==b.stamp.site)=true:=by rw[h1,h2];simp
   rw[e,Bool.not_true,cond_false]
   simp only[h1,h2,false_or,true_and,Int.lt_irrefl]
   by_cases h3:a.gone=b.gone
   ·have e3:(a.gone !=b.gone)=false:=by rw[h3];simp
    have n3:¬(a.gone=false∧b.gone=true):=by rw[h3];rintro⟨x,y⟩;rw[x] at y;cases y
    rw[e3,cond_false]
    have n3':¬(b.gone=false∧b.gone=true):=by rintro⟨x,y⟩;rw[x] at y;cases y
    simp only[h3,n3',false_or,true_and]
    by_cases h4:a.value=b.value
    ·have e4:(a.value==b.value)=true:=beq_iff_eq.2 h4
     rw[e4,Bool.not_true,cond_false]
     simp only[h4,true_and]
     have n4':¬IW b.value b.value=true:=fun h=>TX h rfl
     simp only[n4',Bool.false_eq_true,false_or]
     by_cases h5:a.vec.a=b.vec.a
     ·have e5:(a.vec.a !=b.vec.a)=false:=by rw[h5];simp
      rw[e5,cond_false,decide_eq_true_eq]
      omega
     ·have e5:(a.vec.a !=b.vec.a)=true:=by simpa using h5
      rw[e5,cond_true,decide_eq_true_eq]
      omega
    ·have e4:(a.value==b.value)=false:=beq_eq_false_iff_ne.2 h4
     rw[e4,Bool.not_false,cond_true]
     simp only[h4,false_and,or_false]
   ·have e3:(a.gone !=b.gone)=true:=by simpa using h3
    rw[e3,cond_true]
    simp only[h3,false_and,or_false]
    revert h3
    cases a.gone<;>cases b.gone<;>simp
  ·have e:(a.stamp.n==b.stamp.n&&a.stamp.site==b.stamp.site)=false:=by rw[beq_eq_false_iff_ne.2 h2,Bool.and_false]
   rw[e,Bool.not_false,cond_true]
   simp[h1,h2]
 ·have e:(a.stamp.n==b.stamp.n&&a.stamp.site==b.stamp.site)=false:=by rw[beq_eq_false_iff_ne.2 h1,Bool.false_and]
  rw[e,Bool.not_false,cond_true]
  simp[h1]
def HP (a b:TCell):TCell:=bif Jz a b then b else a
def Kc (a b:TCell):TCell:=⟨(HP a b).stamp,(HP a b).vec,(HP a b).gone,(HP a b).value,M9 a.dead b.dead⟩
def N5 (a:TCell):TCell:=⟨a.stamp,a.vec,a.gone,a.value,⟨0,0⟩⟩
theorem Baz {a b:TCell} (h:Bzn a b):N5 a=N5 b:=by
 obtain⟨⟨an,asi⟩,⟨ava,avb⟩,ag,av,ad⟩:=a
 obtain⟨⟨bn,bsi⟩,⟨bva,bvb⟩,bg,bv,bd⟩:=b
 obtain⟨h1,h2,h3,h4,h5,h6⟩:=h
 simp only at h1 h2 h3 h4 h5 h6
 subst h1 h2 h3 h4 h5 h6
 rfl
def mkC (w:TCell) (d:TVec):TCell:=⟨w.stamp,w.vec,w.gone,w.value,d⟩
theorem A08 (a b:TCell):Kc a b=mkC (N5 (HP a b)) (M9 a.dead b.dead):=rfl
theorem Bd9 {a b:TCell}:UA a (N5 b)↔UA a b:=Iff.rfl
theorem I6 (a b:TCell):(UA a b∧HP a b=b)∨(¬UA a b∧HP a b=a):=by
 unfold HP
 cases h:Jz a b with
 |true=>exact .inl ⟨A4s.1 h,rfl⟩
 |false=>exact .inr ⟨fun g=>(by rw[A4s.2 g] at h;cases h),rfl⟩
theorem Btk (a b:TCell):N5 (HP a b)=N5 (HP b a):=by
 rcases I6 a b with⟨h,e⟩|⟨h,e⟩<;>rcases I6 b a with⟨g,f⟩|⟨g,f⟩<;>rw[e,f]
 ·exact(Bd8 (Acg h g)).elim
 ·rcases Awv a b with q|q|q
  ·exact absurd q h
  ·exact Baz q
  ·exact absurd q g
theorem All (a b:TCell):N5 (HP a b)=HP (N5 a) (N5 b):=by
 have:Jz (N5 a) (N5 b)=Jz a b:=rfl
 unfold HP
 rw[this]
 cases Jz a b<;>rfl
theorem max_assoc (a b c:TCell):N5 (HP (HP a b) c)=N5 (HP a (HP b c)):=by
 rcases I6 a b with⟨h,e⟩|⟨h,e⟩<;>rcases I6 b c with⟨g,f⟩|⟨g,f⟩
 ·rw[e,f]
  rcases I6 a c with⟨_,q⟩|⟨r,_⟩
  ·rw[q]
  ·exact absurd (Acg h g) r
 ·rw[e,f,e]
 ·rw[e,f]
 ·rw[e,f,e]
  rcases I6 a c with⟨r,q⟩|⟨_,q⟩
  ·rcases Awv b c with t|t|t
   ·exact absurd t g
   ·have:=Baz t
    rw[←Bd9 (b:=c),←this] at r
    exact absurd (Bd9.1 r) h
   ·exact absurd (Acg r t) h
  ·rw[q]
theorem Bqa (a b:TVec):M9 a b=M9 b a:=by
 unfold M9
 congr 1<;>omega
theorem Bk3 (a b c:TVec):M9 (M9 a b) c=M9 a (M9 b c):=by
 unfold M9
 congr 1<;>simp only<;>omega
theorem Bg4 (a b:TCell):Kc a b=Kc b a:=by
 rw[A08,A08 b a,Btk,Bqa]
theorem Bvj (a b:TCell):N5 (Kc a b)=N5 (HP a b):=rfl
theorem A5t (a b c:TCell):Kc (Kc a b) c=Kc a (Kc b c):=by
 have l:N5 (HP (Kc a b) c)=N5 (HP (HP a b) c):=by rw[All,All (HP a b) c,Bvj]
 have r:N5 (HP a (Kc b c))=N5 (HP a (HP b c)):=by rw[All,All a (HP b c),Bvj]
 have h:=l.trans ((max_assoc a b c).trans r.symm)
 show mkC (N5 (HP (Kc a b) c)) (M9 (M9 a.dead b.dead) c.dead)=mkC (N5 (HP a (Kc b c))) (M9 a.dead (M9 b.dead c.dead))
 rw[h,Bk3]
theorem Btl (a:TCell):HP a a=a:=by
 rcases I6 a a with⟨_,e⟩|⟨_,e⟩<;>exact e
def Bhb (c:TCell):Bool:=bif !Cx c then true else H3 c.stamp&&decide (0 <c.stamp.n)&&CI c.vec&&decide ((c.value.size:Int)≤64)&&!(c.gone&&!(c.value.size==0))
theorem Av9 {p:Int} {c:TCell}:BA p c=true↔((p=1∧c.dead=⟨0,0⟩)∨(p=2∧c.gone=false∧CI c.dead=true))∧Bhb c=true:=by
 unfold BA
 show(bif p==1&&!Hq c.dead||(p==2&&(c.gone||!CI c.dead)||!(p==1||p==2)) then false else Bhb c)=true↔_
 by_cases h1:p=1
 ·subst h1
  have e:((1:Int)==1&&!Hq c.dead||((1:Int)==2&&(c.gone||!CI c.dead)||!((1:Int)==1||(1:Int)==2)))=!Hq c.dead:=by
   cases Hq c.dead<;>rfl
  rw[e,←A5x]
  cases Hq c.dead<;>simp
 ·by_cases h2:p=2
  ·subst h2
   have e:((2:Int)==1&&!Hq c.dead||((2:Int)==2&&(c.gone||!CI c.dead)||!((2:Int)==1||(2:Int)==2)))=(c.gone||!CI c.dead):=by
    cases c.gone<;>cases CI c.dead<;>rfl
   rw[e]
   cases c.gone<;>cases CI c.dead<;>simp
  ·have e1:(p==1)=false:=beq_eq_false_iff_ne.2 h1
   have e2:(p==2)=false:=beq_eq_false_iff_ne.2 h2
   rw[e1,e2]
   simp[h1,h2]
theorem Bqb {a b:TVec} (h:CI a=true) (g:CI b=true):CI (M9 a b)=true:=by
 unfold CI M9 at*
 simp only[Bool.and_eq_true,decide_eq_true_eq] at*
 omega
theorem Bqc {a:TVec} (h:CI a=true):M9 a a=a:=by
 unfold CI at h
 unfold M9
 simp only[Bool.and_eq_true,decide_eq_true_eq] at h
 exact Bau (by show max (max 0 a.a) a.a=a.a;omega) (by show max (max 0 a.b) a.b=a.b;omega)
theorem Bvi {p:Int} {a b:TCell} (h:BA p a=true) (g:BA p b=true):BA p (Kc a b)=true:=by
 rw[Av9] at h g⊢
 obtain⟨h1,h2⟩:=h
 obtain⟨g1,g2⟩:=g
 have hw:Bhb (Kc a b)=true:=by
  show Bhb (HP a b)=true
  rcases I6 a b with⟨_,e⟩|⟨_,e⟩<;>rw[e]
  ·exact g2
  ·exact h2
 refine⟨?_,hw⟩
 rcases h1 with⟨hp,h1⟩|⟨hp,h1,h3⟩
 ·rcases g1 with⟨_,g1⟩|⟨gp,_⟩
  ·refine .inl ⟨hp,?_⟩
   show M9 a.dead b.dead=_
   rw[h1,g1]
   rfl
  ·omega
 ·rcases g1 with⟨gp,_⟩|⟨_,g1,g3⟩
  ·omega
  ·refine .inr ⟨hp,?_,Bqb h3 g3⟩
   show(HP a b).gone=false
   rcases I6 a b with⟨_,e⟩|⟨_,e⟩<;>rw[e]
   ·exact g1
   ·exact h1
theorem A4h {p:Int} {a:TCell} (h:BA p a=true):CI a.dead=true:=by
 rcases(Av9.1 h).1 with⟨_,h1⟩|⟨_,_,h1⟩
 ·rw[h1];rfl
 ·exact h1
theorem Bg6 {p:Int} {a:TCell} (h:BA p a=true):Kc a a=a:=by
 rw[A08,Btl,Bqc (A4h h)]
 rfl
theorem Beg {p:Int} {a:TCell} (h:BA p a=true):N5 (HP zeroC a)=N5 a:=by
 rcases I6 zeroC a with⟨_,e⟩|⟨q,e⟩
 ·rw[e]
 ·rw[e]
  have hw:=(Av9.1 h).2
  cases hwr:Cx a with
  |true=>
   unfold Bhb at hw
   rw[hwr] at hw
   simp only[Bool.not_true,cond_false,Bool.and_eq_true,decide_eq_true_eq] at hw
   exact absurd (.inl hw.1.1.1.2) q
  |false=>
   unfold Cx at hwr
   simp only[Bool.not_eq_false',Bool.and_eq_true,beq_iff_eq,Bool.not_eq_true'] at hwr
   obtain⟨⟨⟨h1,h2⟩,h3,h4⟩,h5,h6⟩:=hwr
   exact Baz ⟨h1.symm,h2.symm,h5.symm,(B27 h6).symm,h3.symm,h4.symm⟩
def Lj (a b:TCell):TCell:=mkC (N5 (HP (HP zeroC a) b)) (M9 a.dead b.dead)
theorem A4r {p:Int} {a b:TCell} (h:BA p a=true):Lj a b=Kc a b:=by
 unfold Lj
 rw[A08,All (HP zeroC a),Beg h,←All]
def jnN (us ws:List TCell):Nat→List TCell
 |0=>us
 |i+1=>(jnN us ws i).set i (Lj (Gj (jnN us ws i) i) (Gj ws i))
theorem Agt (us ws:List TCell):∀i,(jnN us ws i).length=us.length
 |0=>rfl
 |i+1=>by
  unfold jnN
  rw[List.length_set,Agt us ws i]
theorem Big (us ws:List TCell) (j:Nat) (hj:j <us.length):∀i,Gj (jnN us ws i) j=bif decide (j <i) then Lj (Gj us j) (Gj ws j) else Gj us j
 |0=>rfl
 | i+1=>by
  have ih:=Big us ws j hj i
  unfold jnN
  unfold Gj at ih⊢
  rw[List.getD_eq_getElem?_getD,List.getElem?_set,Agt]
  by_cases e:i=j
  ·subst e
   rw[if_pos rfl,if_pos hj,decide_eq_true (by omega)]
   rw[decide_eq_false (Nat.lt_irrefl _),cond_false] at ih
   show Lj ((jnN us ws i).getD i (Ae TC.cell)) _=_
   rw[ih]
   rfl
  ·rw[if_neg e,←List.getD_eq_getElem?_getD,ih]
   congr 1
   exact decide_eq_decide.2 (by omega)
def jnR (a b:TRow):TRow:=⟨a.key,jnN a.cells b.cells b.cells.length⟩
def jnE (l:List TGroup) (a b:TRow):Int:=bif Ap l a !=0 then Ap l a else bif Ap l b !=0 then Ap l b else bif !(a.key==b.key) then 100 else 0
theorem Bdv {l:List TGroup} {a b:TRow}:jnE l a b=0↔Ap l a=0∧Ap l b=0∧a.key=b.key:=by
 unfold jnE
 cases h:Ap l a !=0 with
 |true=>
  rw[cond_true]
  have h':Ap l a≠0:=by simpa using h
  exact⟨fun e=>absurd e h',fun e=>absurd e.1 h'⟩
 | false=>
  rw[cond_false]
  have h':Ap l a=0:=by simpa using h
  cases g:Ap l b !=0 with
  |true=>
   rw[cond_true]
   have g':Ap l b≠0:=by simpa using g
   exact⟨fun e=>absurd e g',fun e=>absurd e.2.1 g'⟩
  | false=>
   rw[cond_false]
   have g':Ap l b=0:=by simpa using g
   by_cases k:a.key=b.key
   ·rw[beq_iff_eq.2 k]
    exact⟨fun _=>⟨h',g',k⟩,fun _=>rfl⟩
   ·rw[beq_eq_false_iff_ne.2 k]
    exact⟨fun e=>(by cases e),fun e=>absurd e.2.2 k⟩
theorem Boi {us ws:List TCell} (hl:us.length=ws.length) (h:∀i,i <us.length→Gj us i=Gj ws i):us=ws:=by
 refine List.ext_getElem hl fun i h1 h2=>?_
 have:=h i h1
 unfold Gj at this
 rw[List.getD_eq_getElem?_getD,List.getD_eq_getElem?_getD,List.getElem?_eq_getElem h1,List.getElem?_eq_getElem h2] at this
 exact this
theorem Jw {l:List TGroup} {r:TRow} (h:Ap l r=0) {i:Nat} (hi:i <l.length):BA (Acy l i) (Gj r.cells i)=true:=
 (A68 (AS h).2.1).1 (AS h).2.2.2.2 i hi
theorem TN {l:List TGroup} {a b:TRow} (ha:Ap l a=0) (hb:Ap l b=0) {i:Nat} (hi:i <l.length):Gj (jnR a b).cells i=Kc (Gj a.cells i) (Gj b.cells i):=by
 have h1:=(AS ha).2.1
 have h2:=(AS hb).2.1
 show Gj (jnN a.cells b.cells b.cells.length) i=_
 rw[Big _ _ i (by omega),decide_eq_true (by omega),cond_true,A4r (Jw ha hi)]
theorem P6 {l:List TGroup} {a b:TRow} (ha:Ap l a=0):(jnR a b).cells.length=l.length:=by
 show(jnN a.cells b.cells b.cells.length).length=_
 rw[Agt]
 exact(AS ha).2.1
theorem Wo {l:List TGroup} {a b:TRow} (ha:Ap l a=0) (hb:Ap l b=0):Ap l (jnR a b)=0:=by
 obtain⟨h1,h2,h3,h4,_⟩:=AS ha
 refine Awb h1 h3 h4 (P6 ha) ((A68 (P6 ha)).2 fun i hi=>?_)
 rw[TN ha hb hi]
 exact Bvi (Jw ha hi) (Jw hb hi)
theorem A96 {l:List TGroup} {x y:TRow} (hk:x.key=y.key) (hx:x.cells.length=l.length) (hy:y.cells.length=l.length) (h:∀i,i <l.length→Gj x.cells i=Gj y.cells i):x=y:=by
 have:=Boi (hx.trans hy.symm) fun i hi=>h i (by omega)
 cases x;cases y
 simp only at hk this
 rw[hk,this]
theorem Bw9 {l:List TGroup} {a b:TRow} (ha:Ap l a=0) (hb:Ap l b=0) (hk:a.key=b.key):jnR a b=jnR b a:=
 A96 (l:=l) hk (P6 ha) (P6 hb) fun i hi=>by rw[TN ha hb hi,TN hb ha hi,Bg4]
theorem Btd {l:List TGroup} {a b c:TRow} (ha:Ap l a=0) (hb:Ap l b=0) (hc:Ap l c=0):jnR (jnR a b) c=jnR a (jnR b c):=
 A96 (l:=l) rfl (P6 (Wo ha hb)) (P6 ha) fun i hi=>by
  rw[TN (Wo ha hb) hc hi,TN ha (Wo hb hc) hi,TN ha hb hi,TN hb hc hi,A5t]
theorem Bxa {l:List TGroup} {a:TRow} (ha:Ap l a=0):jnR a a=a:=
 A96 (l:=l) rfl (P6 ha) (AS ha).2.1 fun i hi=>by rw[TN ha ha hi,Bg6 (Jw ha hi)]
end Go.Proofs.Yteebobbhhgmeiaa
namespace Go.Proofs.Yteebobbhhgmeiaa
open Go.RowKit
def B0z (c:TC) (x:A):Option (U c×U c):=match Kh c x with
 |some [a,b]=>some (a,b)
 |_=>none
theorem Bwj {c:TC} {x:A} {a b:U c} {F:Nat→Prop} {N:Nm} {nx:Nat} {R:World} {v:Value} (he:B0z c x=some (a,b)) (h:Hv F N nx R x v):Hv F N nx R (.sl c [a,b]) v:=by
 unfold B0z at he
 split at he<;>first|(cases he;done)|skip
 rename_i h1
 cases he
 exact BX h1 h
def Un (a0:TStamp) (a1:TStamp):Bool:=decide (a0.1 <a1.1)||a0.1==a1.1&&decide (a0.2 <a1.2)
def Up (a0:TStamp) (a1:TStamp):A:=.v (.bool (Un a0 a1))
def Uo (_a0:TStamp) (_a1:TStamp):Objs:=[]
def Abj (_a0:TStamp) (_a1:TStamp):List Prop:=[]
theorem A3s (a0:TStamp) (a1:TStamp):EQ (AA Cl L0) 9 168 [Ak .stamp a0,Ak .stamp a1] 0 []=some (1,Up a0 a1,0,Uo a0 a1,[]):=by kernel_rfl
theorem Bal (a0:TStamp) (a1:TStamp) (_hp:∀p∈Abj a0 a1,p):CallOk Try.prog 168 [Ak .stamp a0,Ak .stamp a1] 0 [] 1 (Up a0 a1) 0 (Uo a0 a1):=by
 exact AI (Aw Bbk AH) (A3s a0 a1) Ab
def Uq:List A→Nat→Objs→Option Bb
 | [y0,y1],nx,o=>match AQ .stamp y0,AQ .stamp y1 with
  |some (a0,p0),some (a1,p1)=>some (1,(Up a0 a1).pk (AF nx),nx+0,AE nx (Uo a0 a1)++o,p0++(p1++(Abj a0 a1)))
  |_,_=>none
 |_,_,_=>none
theorem A02:Ft Try.prog 168 Uq:=fun args nx o k x nx' o' ps h=>by
 unfold Uq at h
 split at h<;>first|(cases h;done)|skip
 split at h<;>first|(cases h;done)|skip
 rename_i a0 p0 a1 p1 e0 e1
 cases h
 refine⟨fun hp=>?_,_,rfl⟩
 have q0:=fun p hm=>hp p (List.mem_append.2 (.inl hm))
 have r0:=fun p hm=>hp p (List.mem_append.2 (.inr hm))
 have q1:=fun p hm=>r0 p (List.mem_append.2 (.inl hm))
 have r1:=fun p hm=>r0 p (List.mem_append.2 (.inr hm))
 refine Ah (Ag (Bal a0 a1 r1) (Nat.le_refl _) (Ac (Af _ _) (Ac (Af _ _) Ao)) nx o) fun F N R vs hl=>?_
 obtain⟨v0,w0,rfl,h0,hl⟩:=hl.inv
 obtain⟨v1,w1,rfl,h1,hl⟩:=hl.inv
 exact HL.cons (Am e0 q0 h0) (HL.cons (Am e1 q1 h1) (hl))
noncomputable def B0n:=A7 168 Uq Cl
theorem Bl1:Dd Try.prog B0n:=Av A02 Bbk
def AB (a0:TCell):TCell:=TCell.mk a0.1 a0.2 a0.3 a0.4 (TVec.mk (0:Int) (0:Int))
def TQ (a0:TCell):A:=.v (.agg ⟨[.int .i64 ((AB a0).stamp.n),.int .i64 ((AB a0).stamp.site),.int .i64 ((AB a0).vec.a),.int .i64 ((AB a0).vec.b),.bool ((AB a0).gone),.string ((AB a0).value),.int .i64 ((AB a0).dead.a),.int .i64 ((AB a0).dead.b)]⟩)
def TP (_a0:TCell):Objs:=[]
def ZP (_a0:TCell):List Prop:=[]
theorem A1v (a0:TCell):EQ (AA B0n L0) 9 167 [Ak .cell a0] 0 []=some (1,TQ a0,0,TP a0,[]):=by kernel_rfl
theorem A7l (a0:TCell) (_hp:∀p∈ZP a0,p):CallOk Try.prog 167 [Ak .cell a0] 0 [] 1 (TQ a0) 0 (TP a0):=by
 exact AI (Aw Bl1 AH) (A1v a0) Ab
def TR:List A→Nat→Objs→Option Bb
 | [y0],nx,o=>match AQ .cell y0 with
  |some (a0,p0)=>some (1,(TQ a0).pk (AF nx),nx+0,AE nx (TP a0)++o,p0++(ZP a0))
  |_=>none
 |_,_,_=>none
theorem Awh:Ft Try.prog 167 TR:=fun args nx o k x nx' o' ps h=>by
 unfold TR at h
 split at h<;>first|(cases h;done)|skip
 split at h<;>first|(cases h;done)|skip
 rename_i a0 p0 e0
 cases h
 refine⟨fun hp=>?_,_,rfl⟩
 have q0:=fun p hm=>hp p (List.mem_append.2 (.inl hm))
 have r0:=fun p hm=>hp p (List.mem_append.2 (.inr hm))
 refine Ah (Ag (A7l a0 r0) (Nat.le_refl _) (Ac (Af _ _) Ao) nx o) fun F N R vs hl=>?_
 obtain⟨v0,w0,rfl,h0,hl⟩:=hl.inv
 exact HL.cons (Am e0 q0 h0) (hl)
noncomputable def B0o:=A7 167 TR B0n
theorem Bl2:Dd Try.prog B0o:=Av Awh Bl1
def NR (a0:TCell) (a1:TCell):Bool:=!(AB a0).4.toList==(AB a1).4.toList
def TO (a0:TCell) (a1:TCell):Bool:=!((AB a0).1.1==(AB a1).1.1&&(AB a0).1.2==(AB a1).1.2)
def NQ (a0:TCell) (a1:TCell):Bool:=(AB a0).1.1==(AB a1).1.1&&(AB a0).1.2==(AB a1).1.2&&((AB a0).2.1==(AB a1).2.1&&(AB a0).2.2==(AB a1).2.2&&((AB a0).3==(AB a1).3&&((AB a0).4.toList==(AB a1).4.toList&&((AB a0).5.1==(AB a1).5.1&&(AB a0).5.2==(AB a1).5.2))))
def Wr (a0:TCell) (a1:TCell):Bool:=bif(NQ a0 a1)||((TO a0 a1)||(!(AB a0).3==(AB a1).3||((NR a0 a1)||(AB a0).2.1 !=(AB a1).2.1))) then bif(NQ a0 a1) then false else bif(TO a0 a1) then Un (AB a0).1 (AB a1).1 else bif !(AB a0).3==(AB a1).3 then(AB a1).3 else bif(NR a0 a1) then Op.bytesLess (AB a0).4.toList (AB a1).4.toList else decide ((AB a0).2.1 <(AB a1).2.1) else decide ((AB a0).2.2 <(AB a1).2.2)
def Ws (a0:TCell) (a1:TCell):A:=.v (.bool (Wr a0 a1))
def Aop (_a0:TCell) (_a1:TCell):Objs:=[]
def A7k (_a0:TCell) (_a1:TCell):List Prop:=[]
theorem A7j (a0:TCell) (a1:TCell):EQ (AA B0o L0) 9 138 [Ak .cell a0,Ak .cell a1] 0 []=some (1,Ws a0 a1,0,Aop a0 a1,[]):=by kernel_rfl
theorem Bdy (a0:TCell) (a1:TCell) (_hp:∀p∈A7k a0 a1,p):CallOk Try.prog 138 [Ak .cell a0,Ak .cell a1] 0 [] 1 (Ws a0 a1) 0 (Aop a0 a1):=by
 exact AI (Aw Bl2 AH) (A7j a0 a1) Ab
def Agx (a0:TCell) (a1:TCell):A:=.v (.bool (Jz a0 a1))
def Agw (_a0:TCell) (_a1:TCell):Objs:=[]
def ZO (_a0:TCell) (_a1:TCell):List Prop:=[]
theorem A7i (a b:TCell):Wr a b=Jz a b:=by
 have e0:NQ a b=((a.stamp.n==b.stamp.n&&a.stamp.site==b.stamp.site)&&((a.vec.a==b.vec.a&&a.vec.b==b.vec.b)&&(a.gone==b.gone&&((a.value==b.value)&&true)))):=by
  unfold NQ
  rw[tlb]
  rfl
 have e1:TO a b=!(a.stamp.n==b.stamp.n&&a.stamp.site==b.stamp.site):=rfl
 have e2:NR a b=!(a.value==b.value):=by
  unfold NR
  rw[tlb]
  rfl
 unfold Wr Jz Un
 rw[e0,e1,e2]
 show(bif _||(_||(!(a.gone==b.gone)||(_||!(a.vec.a==b.vec.a)))) then bif _ then false else bif _ then(decide (a.stamp.n <b.stamp.n)||a.stamp.n==b.stamp.n&&decide (a.stamp.site <b.stamp.site)) else bif !(a.gone==b.gone) then b.gone else bif _ then IW a.value b.value else decide (a.vec.a <b.vec.a) else decide (a.vec.b <b.vec.b))=(bif _ then _ else bif !(a.gone==b.gone) then b.gone else bif _ then IW a.value b.value else bif !(a.vec.a==b.vec.a) then decide (a.vec.a <b.vec.a) else decide (a.vec.b <b.vec.b))
 have hb:(a.vec.b==b.vec.b)=true→decide (a.vec.b <b.vec.b)=false:=fun h=>decide_eq_false (by have:a.vec.b=b.vec.b:=eq_of_beq h;omega)
 revert hb
 generalize (a.stamp.n==b.stamp.n&&a.stamp.site==b.stamp.site)=q1
 generalize (a.gone==b.gone)=q2
 generalize (a.value==b.value)=q3
 generalize (a.vec.a==b.vec.a)=q4
 generalize (a.vec.b==b.vec.b)=q5
 generalize decide (a.vec.b <b.vec.b)=q6
 cases q1<;>cases q2<;>cases q3<;>cases q4<;>cases q5<;>cases q6<;>simp
theorem A7h (a0:TCell) (a1:TCell) (_hp:∀p∈ZO a0 a1,p):CallOk Try.prog 138 [Ak .cell a0,Ak .cell a1] 0 [] 1 (Agx a0 a1) 0 (Agw a0 a1):=by
 have h:=Bdy a0 a1 (fun _ h=>by cases h)
 unfold Ws at h
 rw[A7i] at h
 exact h
def Wt:List A→Nat→Objs→Option Bb
 | [y0,y1],nx,o=>match AQ .cell y0,AQ .cell y1 with
  |some (a0,p0),some (a1,p1)=>some (1,(Agx a0 a1).pk (AF nx),nx+0,AE nx (Agw a0 a1)++o,p0++(p1++(ZO a0 a1)))
  |_,_=>none
 |_,_,_=>none
theorem A1u:Ft Try.prog 138 Wt:=fun args nx o k x nx' o' ps h=>by
 unfold Wt at h
 split at h<;>first|(cases h;done)|skip
 split at h<;>first|(cases h;done)|skip
 rename_i a0 p0 a1 p1 e0 e1
 cases h
 refine⟨fun hp=>?_,_,rfl⟩
 have q0:=fun p hm=>hp p (List.mem_append.2 (.inl hm))
 have r0:=fun p hm=>hp p (List.mem_append.2 (.inr hm))
 have q1:=fun p hm=>r0 p (List.mem_append.2 (.inl hm))
 have r1:=fun p hm=>r0 p (List.mem_append.2 (.inr hm))
 refine Ah (Ag (A7h a0 a1 r1) (Nat.le_refl _) (Ac (Af _ _) (Ac (Af _ _) Ao)) nx o) fun F N R vs hl=>?_
 obtain⟨v0,w0,rfl,h0,hl⟩:=hl.inv
 obtain⟨v1,w1,rfl,h1,hl⟩:=hl.inv
 exact HL.cons (Am e0 q0 h0) (HL.cons (Am e1 q1 h1) (hl))
noncomputable def B0p:=A7 138 Wt B0o
theorem Bl3:Dd Try.prog B0p:=Av A1u Bl2
def Ac8 (a0:TStamp) (a1:TStamp):Bool:=bif a0.1 !=a1.1 then decide (a0.1 <a1.1) else decide (a0.2 <a1.2)
def Ada (a0:TStamp) (a1:TStamp):A:=.v (.bool (Ac8 a0 a1))
def Ac9 (_a0:TStamp) (_a1:TStamp):Objs:=[]
def Apg (_a0:TStamp) (_a1:TStamp):List Prop:=[]
theorem Be3 (a0:TStamp) (a1:TStamp):EQ (AA B0p L0) 9 173 [Ak .stamp a0,Ak .stamp a1] 0 []=some (1,Ada a0 a1,0,Ac9 a0 a1,[]):=by kernel_rfl
theorem Bi8 (a0:TStamp) (a1:TStamp) (_hp:∀p∈Apg a0 a1,p):CallOk Try.prog 173 [Ak .stamp a0,Ak .stamp a1] 0 [] 1 (Ada a0 a1) 0 (Ac9 a0 a1):=by
 exact AI (Aw Bl3 AH) (Be3 a0 a1) Ab
def Adb:List A→Nat→Objs→Option Bb
 | [y0,y1],nx,o=>match AQ .stamp y0,AQ .stamp y1 with
  |some (a0,p0),some (a1,p1)=>some (1,(Ada a0 a1).pk (AF nx),nx+0,AE nx (Ac9 a0 a1)++o,p0++(p1++(Apg a0 a1)))
  |_,_=>none
 |_,_,_=>none
theorem A8z:Ft Try.prog 173 Adb:=fun args nx o k x nx' o' ps h=>by
 unfold Adb at h
 split at h<;>first|(cases h;done)|skip
 split at h<;>first|(cases h;done)|skip
 rename_i a0 p0 a1 p1 e0 e1
 cases h
 refine⟨fun hp=>?_,_,rfl⟩
 have q0:=fun p hm=>hp p (List.mem_append.2 (.inl hm))
 have r0:=fun p hm=>hp p (List.mem_append.2 (.inr hm))
 have q1:=fun p hm=>r0 p (List.mem_append.2 (.inl hm))
 have r1:=fun p hm=>r0 p (List.mem_append.2 (.inr hm))
 refine Ah (Ag (Bi8 a0 a1 r1) (Nat.le_refl _) (Ac (Af _ _) (Ac (Af _ _) Ao)) nx o) fun F N R vs hl=>?_
 obtain⟨v0,w0,rfl,h0,hl⟩:=hl.inv
 obtain⟨v1,w1,rfl,h1,hl⟩:=hl.inv
 exact HL.cons (Am e0 q0 h0) (HL.cons (Am e1 q1 h1) (hl))
noncomputable def B0q:=A7 173 Adb B0p
theorem Bl4:Dd Try.prog B0q:=Av A8z Bl3
def IS (a0:TCell) (a1:TCell):Bool:=bif !(a0.1.1==a1.1.1&&a0.1.2==a1.1.2) then Ac8 a0.1 a1.1 else bif !a0.3==a1.3 then a1.3 else bif !a0.4.toList==a1.4.toList then Op.bytesLess a0.4.toList a1.4.toList else bif a0.2.1 !=a1.2.1 then decide (a0.2.1 <a1.2.1) else decide (a0.2.2 <a1.2.2)
def Ady (a0:TCell) (a1:TCell):A:=.v (.bool (IS a0 a1))
def Adx (_a0:TCell) (_a1:TCell):Objs:=[]
def Apw (_a0:TCell) (_a1:TCell):List Prop:=[]
theorem Bfj (a0:TCell) (a1:TCell):EQ (AA B0q L0) 9 166 [Ak .cell a0,Ak .cell a1] 0 []=some (1,Ady a0 a1,0,Adx a0 a1,[]):=by kernel_rfl
theorem Bji (a0:TCell) (a1:TCell) (_hp:∀p∈Apw a0 a1,p):CallOk Try.prog 166 [Ak .cell a0,Ak .cell a1] 0 [] 1 (Ady a0 a1) 0 (Adx a0 a1):=by
 exact AI (Aw Bl4 AH) (Bfj a0 a1) Ab
def Adz:List A→Nat→Objs→Option Bb
 | [y0,y1],nx,o=>match AQ .cell y0,AQ .cell y1 with
  |some (a0,p0),some (a1,p1)=>some (1,(Ady a0 a1).pk (AF nx),nx+0,AE nx (Adx a0 a1)++o,p0++(p1++(Apw a0 a1)))
  |_,_=>none
 |_,_,_=>none
theorem A89:Ft Try.prog 166 Adz:=fun args nx o k x nx' o' ps h=>by
 unfold Adz at h
 split at h<;>first|(cases h;done)|skip
 split at h<;>first|(cases h;done)|skip
 rename_i a0 p0 a1 p1 e0 e1
 cases h
 refine⟨fun hp=>?_,_,rfl⟩
 have q0:=fun p hm=>hp p (List.mem_append.2 (.inl hm))
 have r0:=fun p hm=>hp p (List.mem_append.2 (.inr hm))
 have q1:=fun p hm=>r0 p (List.mem_append.2 (.inl hm))
 have r1:=fun p hm=>r0 p (List.mem_append.2 (.inr hm))
 refine Ah (Ag (Bji a0 a1 r1) (Nat.le_refl _) (Ac (Af _ _) (Ac (Af _ _) Ao)) nx o) fun F N R vs hl=>?_
 obtain⟨v0,w0,rfl,h0,hl⟩:=hl.inv
 obtain⟨v1,w1,rfl,h1,hl⟩:=hl.inv
 exact HL.cons (Am e0 q0 h0) (HL.cons (Am e1 q1 h1) (hl))
noncomputable def B0r:=A7 166 Adz B0q
theorem Bl5:Dd Try.prog B0r:=Av A89 Bl4
def Jb (a0:TCell) (a1:TCell):TCell:=TCell.mk (TStamp.mk (bif IS a0 a1 then a1.1.1 else a0.1.1) (bif IS a0 a1 then a1.1.2 else a0.1.2)) (TVec.mk (bif IS a0 a1 then a1.2.1 else a0.2.1) (bif IS a0 a1 then a1.2.2 else a0.2.2)) (bif IS a0 a1 then a1.3 else a0.3) (bif IS a0 a1 then a1.4 else a0.4) (S1 a0.5 a1.5)
def Amh (a0:TCell) (a1:TCell):A:=.v (.agg ⟨[.int .i64 ((Jb a0 a1).stamp.n),.int .i64 ((Jb a0 a1).stamp.site),.int .i64 ((Jb a0 a1).vec.a),.int .i64 ((Jb a0 a1).vec.b),.bool ((Jb a0 a1).gone),.string ((Jb a0 a1).value),.int .i64 ((Jb a0 a1).dead.a),.int .i64 ((Jb a0 a1).dead.b)]⟩)
def A5a (_a0:TCell) (_a1:TCell):Objs:=[]
def Bjm (_a0:TCell) (_a1:TCell):List Prop:=[]
theorem Bjl (a0:TCell) (a1:TCell):EQ (AA B0r L0) 9 135 [Ak .cell a0,Ak .cell a1] 0 []=some (1,Amh a0 a1,0,A5a a0 a1,[]):=by kernel_rfl
theorem Bpd (a0:TCell) (a1:TCell) (_hp:∀p∈Bjm a0 a1,p):CallOk Try.prog 135 [Ak .cell a0,Ak .cell a1] 0 [] 1 (Amh a0 a1) 0 (A5a a0 a1):=by
 exact AI (Aw Bl5 AH) (Bjl a0 a1) Ab
def Ay5 (a0:TCell) (a1:TCell):A:=.v (.agg ⟨[.int .i64 ((Kc a0 a1).stamp.n),.int .i64 ((Kc a0 a1).stamp.site),.int .i64 ((Kc a0 a1).vec.a),.int .i64 ((Kc a0 a1).vec.b),.bool ((Kc a0 a1).gone),.string ((Kc a0 a1).value),.int .i64 ((Kc a0 a1).dead.a),.int .i64 ((Kc a0 a1).dead.b)]⟩)
def Ay4 (_a0:TCell) (_a1:TCell):Objs:=[]
def Apx (_a0:TCell) (_a1:TCell):List Prop:=[]
theorem Be2 (a b:TStamp):Ac8 a b=(decide (a.n <b.n)||a.n==b.n&&decide (a.site <b.site)):=by
 show(bif !(a.n==b.n) then decide (a.n <b.n) else decide (a.site <b.site))=_
 by_cases h:a.n=b.n
 ·rw[beq_iff_eq.2 h,decide_eq_false (p:=a.n <b.n) (by omega)]
  simp
 ·rw[beq_eq_false_iff_ne.2 h]
  simp
theorem Bfi (a b:TCell):IS a b=Jz a b:=by
 unfold IS Jz
 rw[Be2,tlb]
 rfl
theorem Bjk (a b:TCell):Jb a b=Kc a b:=by
 unfold Jb Kc HP
 rw[Bfi]
 cases Jz a b<;>rfl
theorem Bjj (a0:TCell) (a1:TCell) (_hp:∀p∈Apx a0 a1,p):CallOk Try.prog 135 [Ak .cell a0,Ak .cell a1] 0 [] 1 (Ay5 a0 a1) 0 (Ay4 a0 a1):=by
 have h:=Bpd a0 a1 (fun _ h=>by cases h)
 unfold Amh at h
 rw[Bjk] at h
 exact h
def Ami:List A→Nat→Objs→Option Bb
 | [y0,y1],nx,o=>match AQ .cell y0,AQ .cell y1 with
  |some (a0,p0),some (a1,p1)=>some (1,(Ay5 a0 a1).pk (AF nx),nx+0,AE nx (Ay4 a0 a1)++o,p0++(p1++(Apx a0 a1)))
  |_,_=>none
 |_,_,_=>none
theorem Bfk:Ft Try.prog 135 Ami:=fun args nx o k x nx' o' ps h=>by
 unfold Ami at h
 split at h<;>first|(cases h;done)|skip
 split at h<;>first|(cases h;done)|skip
 rename_i a0 p0 a1 p1 e0 e1
 cases h
 refine⟨fun hp=>?_,_,rfl⟩
 have q0:=fun p hm=>hp p (List.mem_append.2 (.inl hm))
 have r0:=fun p hm=>hp p (List.mem_append.2 (.inr hm))
 have q1:=fun p hm=>r0 p (List.mem_append.2 (.inl hm))
 have r1:=fun p hm=>r0 p (List.mem_append.2 (.inr hm))
 refine Ah (Ag (Bjj a0 a1 r1) (Nat.le_refl _) (Ac (Af _ _) (Ac (Af _ _) Ao)) nx o) fun F N R vs hl=>?_
 obtain⟨v0,w0,rfl,h0,hl⟩:=hl.inv
 obtain⟨v1,w1,rfl,h1,hl⟩:=hl.inv
 exact HL.cons (Am e0 q0 h0) (HL.cons (Am e1 q1 h1) (hl))
noncomputable def B0s:=A7 135 Ami B0r
theorem Bl6:Dd Try.prog B0s:=Av Bfk Bl5
def ON (a0:TCell) (a1:TCell):A:=.v (.bool (Jz a0 a1))
def OM (_a0:TCell) (_a1:TCell):Objs:=[]
def UL (_a0:TCell) (_a1:TCell):List Prop:=[]
theorem Arx (a0:TCell) (a1:TCell):EQ (AA B0s L0) 9 137 [Ak .cell a0,Ak .cell a1] 0 []=some (1,ON a0 a1,0,OM a0 a1,[]):=by kernel_rfl
theorem Awg (a0:TCell) (a1:TCell) (_hp:∀p∈UL a0 a1,p):CallOk Try.prog 137 [Ak .cell a0,Ak .cell a1] 0 [] 1 (ON a0 a1) 0 (OM a0 a1):=by
 exact AI (Aw Bl6 AH) (Arx a0 a1) Ab
def OO:List A→Nat→Objs→Option Bb
 | [y0,y1],nx,o=>match AQ .cell y0,AQ .cell y1 with
  |some (a0,p0),some (a1,p1)=>some (1,(ON a0 a1).pk (AF nx),nx+0,AE nx (OM a0 a1)++o,p0++(p1++(UL a0 a1)))
  |_,_=>none
 |_,_,_=>none
theorem Akx:Ft Try.prog 137 OO:=fun args nx o k x nx' o' ps h=>by
 unfold OO at h
 split at h<;>first|(cases h;done)|skip
 split at h<;>first|(cases h;done)|skip
 rename_i a0 p0 a1 p1 e0 e1
 cases h
 refine⟨fun hp=>?_,_,rfl⟩
 have q0:=fun p hm=>hp p (List.mem_append.2 (.inl hm))
 have r0:=fun p hm=>hp p (List.mem_append.2 (.inr hm))
 have q1:=fun p hm=>r0 p (List.mem_append.2 (.inl hm))
 have r1:=fun p hm=>r0 p (List.mem_append.2 (.inr hm))
 refine Ah (Ag (Awg a0 a1 r1) (Nat.le_refl _) (Ac (Af _ _) (Ac (Af _ _) Ao)) nx o) fun F N R vs hl=>?_
 obtain⟨v0,w0,rfl,h0,hl⟩:=hl.inv
 obtain⟨v1,w1,rfl,h1,hl⟩:=hl.inv
 exact HL.cons (Am e0 q0 h0) (HL.cons (Am e1 q1 h1) (hl))
noncomputable def B0t:=A7 137 OO B0s
theorem Bl7:Dd Try.prog B0t:=Av Akx Bl6
noncomputable def B0u:=A7 136 (inl (AA B0t L0) 4 136) B0t
theorem Bl8:Dd Try.prog B0u:=Av (Acd (Aw Bl7 AH) 4 136) Bl7
def BY (a0:TCell) (b0:TCell):Bool:=Jz (TCell.mk (TStamp.mk (0:Int) (0:Int)) (TVec.mk (0:Int) (0:Int)) false (ByteArray.mk #[]) (TVec.mk (0:Int) (0:Int))) ([a0,b0].getD (0:Nat) (Ae TC.cell))
def HM (a0:TCell) (b0:TCell):Bool:=Jz (TCell.mk (TStamp.mk (bif(BY a0 b0) then([a0,b0].getD (0:Nat) (Ae TC.cell)).1.1 else(0:Int)) (bif(BY a0 b0) then([a0,b0].getD (0:Nat) (Ae TC.cell)).1.2 else(0:Int))) (TVec.mk (bif(BY a0 b0) then([a0,b0].getD (0:Nat) (Ae TC.cell)).2.1 else(0:Int)) (bif(BY a0 b0) then([a0,b0].getD (0:Nat) (Ae TC.cell)).2.2 else(0:Int))) (bif(BY a0 b0) then([a0,b0].getD (0:Nat) (Ae TC.cell)).3 else false) (bif(BY a0 b0) then([a0,b0].getD (0:Nat) (Ae TC.cell)).4 else ByteArray.mk #[]) (TVec.mk (bif(BY a0 b0) then([a0,b0].getD (0:Nat) (Ae TC.cell)).5.1 else(0:Int)) (bif(BY a0 b0) then([a0,b0].getD (0:Nat) (Ae TC.cell)).5.2 else(0:Int)))) ([a0,b0].getD (1:Nat) (Ae TC.cell))
def GB (a0:TCell) (b0:TCell):TCell:=TCell.mk (TStamp.mk (bif(HM a0 b0) then([a0,b0].getD (1:Nat) (Ae TC.cell)).1.1 else bif(BY a0 b0) then([a0,b0].getD (0:Nat) (Ae TC.cell)).1.1 else(0:Int)) (bif(HM a0 b0) then([a0,b0].getD (1:Nat) (Ae TC.cell)).1.2 else bif(BY a0 b0) then([a0,b0].getD (0:Nat) (Ae TC.cell)).1.2 else(0:Int))) (TVec.mk (bif(HM a0 b0) then([a0,b0].getD (1:Nat) (Ae TC.cell)).2.1 else bif(BY a0 b0) then([a0,b0].getD (0:Nat) (Ae TC.cell)).2.1 else(0:Int)) (bif(HM a0 b0) then([a0,b0].getD (1:Nat) (Ae TC.cell)).2.2 else bif(BY a0 b0) then([a0,b0].getD (0:Nat) (Ae TC.cell)).2.2 else(0:Int))) (bif(HM a0 b0) then([a0,b0].getD (1:Nat) (Ae TC.cell)).3 else bif(BY a0 b0) then([a0,b0].getD (0:Nat) (Ae TC.cell)).3 else false) (bif(HM a0 b0) then([a0,b0].getD (1:Nat) (Ae TC.cell)).4 else bif(BY a0 b0) then([a0,b0].getD (0:Nat) (Ae TC.cell)).4 else ByteArray.mk #[]) (TVec.mk (max (max (0:Int) ((((List.replicate (2:Nat) (Ae TC.vec)).set (0:Nat) ([a0,b0].getD (0:Nat) (Ae TC.cell)).5).set (1:Nat) ([a0,b0].getD (1:Nat) (Ae TC.cell)).5).getD (0:Nat) (Ae TC.vec)).1) ((((List.replicate (2:Nat) (Ae TC.vec)).set (0:Nat) ([a0,b0].getD (0:Nat) (Ae TC.cell)).5).set (1:Nat) ([a0,b0].getD (1:Nat) (Ae TC.cell)).5).getD (1:Nat) (Ae TC.vec)).1) (max (max (0:Int) ((((List.replicate (2:Nat) (Ae TC.vec)).set (0:Nat) ([a0,b0].getD (0:Nat) (Ae TC.cell)).5).set (1:Nat) ([a0,b0].getD (1:Nat) (Ae TC.cell)).5).getD (0:Nat) (Ae TC.vec)).2) ((((List.replicate (2:Nat) (Ae TC.vec)).set (0:Nat) ([a0,b0].getD (0:Nat) (Ae TC.cell)).5).set (1:Nat) ([a0,b0].getD (1:Nat) (Ae TC.cell)).5).getD (1:Nat) (Ae TC.vec)).2))
def Wp (a0:TCell) (b0:TCell):A:=.v (.agg ⟨[.int .i64 ((GB a0 b0).stamp.n),.int .i64 ((GB a0 b0).stamp.site),.int .i64 ((GB a0 b0).vec.a),.int .i64 ((GB a0 b0).vec.b),.bool ((GB a0 b0).gone),.string ((GB a0 b0).value),.int .i64 ((GB a0 b0).dead.a),.int .i64 ((GB a0 b0).dead.b)]⟩)
def Aoo (_a0:TCell) (_b0:TCell):Objs:=[]
def A7g (_a0:TCell) (_b0:TCell):List Prop:=[]
theorem A7f (a0:TCell) (b0:TCell):EQ (AA B0u L0) 9 75 [.sl .cell [a0,b0]] 0 []=some (1,Wp a0 b0,0,Aoo a0 b0,[((0:Int)≤(0:Int)∧(0:Int) <(↑(2:Nat):Int)),((0:Int)≤(1:Int)∧(1:Int) <(↑(2:Nat):Int)),((0:Int)≤(↑(2:Nat):Int)∧(↑(2:Nat):Int)≤(↑(2:Nat):Int)∧(↑(2:Nat):Int)≤(549755813888:Int)),((0:Int)≤(0:Int)∧(0:Int) <(↑(2:Nat):Int)),((0:Int)≤(0:Int)∧(0:Int) <(↑(2:Nat):Int)),((0:Nat) <(2:Nat)),((0:Int)≤(1:Int)∧(1:Int) <(↑(2:Nat):Int)),((0:Int)≤(1:Int)∧(1:Int) <(↑(2:Nat):Int)),((1:Nat) <(2:Nat)),((0:Int)≤(0:Int)∧(0:Int) <(↑(2:Nat):Int)),((0:Nat) <(2:Nat)),((0:Int)≤(0:Int)∧(0:Int) <(2:Int)),((0:Nat) <(2:Nat)),((0:Int)≤(0:Int)∧(0:Int) <(2:Int)),((0:Nat) <(2:Nat)),((0:Int)≤(0:Int)∧(0:Int) <(2:Int)),((0:Nat) <(2:Nat)),((0:Int)≤(1:Int)∧(1:Int) <(2:Int)),((1:Nat) <(2:Nat)),((0:Int)≤(1:Int)∧(1:Int) <(2:Int)),((1:Nat) <(2:Nat)),((0:Int)≤(1:Int)∧(1:Int) <(2:Int)),((1:Nat) <(2:Nat)),((0:Int)≤(1:Int)∧(1:Int) <(↑(2:Nat):Int)),((1:Nat) <(2:Nat)),((0:Int)≤(0:Int)∧(0:Int) <(2:Int)),((0:Nat) <(2:Nat)),((0:Int)≤(0:Int)∧(0:Int) <(2:Int)),((0:Nat) <(2:Nat)),((0:Int)≤(0:Int)∧(0:Int) <(2:Int)),((0:Nat) <(2:Nat)),((0:Int)≤(1:Int)∧(1:Int) <(2:Int)),((1:Nat) <(2:Nat)),((0:Int)≤(1:Int)∧(1:Int) <(2:Int)),((1:Nat) <(2:Nat)),((0:Int)≤(1:Int)∧(1:Int) <(2:Int)),((1:Nat) <(2:Nat))]):=by kernel_rfl
theorem Bdx (a0:TCell) (b0:TCell) (_hp:∀p∈A7g a0 b0,p):CallOk Try.prog 75 [.sl .cell [a0,b0]] 0 [] 1 (Wp a0 b0) 0 (Aoo a0 b0):=by
 have n0:((0:Int)≤(0:Int)∧(0:Int) <(↑(2:Nat):Int)):=by first|rfl|decide+kernel
 have n1:((0:Int)≤(1:Int)∧(1:Int) <(↑(2:Nat):Int)):=by first|rfl|decide+kernel
 have n2:((0:Int)≤(↑(2:Nat):Int)∧(↑(2:Nat):Int)≤(↑(2:Nat):Int)∧(↑(2:Nat):Int)≤(549755813888:Int)):=by first|rfl|decide+kernel
 have n5:((0:Nat) <(2:Nat)):=by first|rfl|decide+kernel
 have n8:((1:Nat) <(2:Nat)):=by first|rfl|decide+kernel
 have n11:((0:Int)≤(0:Int)∧(0:Int) <(2:Int)):=by first|rfl|decide+kernel
 have n17:((0:Int)≤(1:Int)∧(1:Int) <(2:Int)):=by first|rfl|decide+kernel
 exact AI (Aw Bl8 AH) (A7f a0 b0) (Aa n0 (Aa n1 (Aa n2 (Aa n0 (Aa n0 (Aa n5 (Aa n1 (Aa n1 (Aa n8 (Aa n0 (Aa n5 (Aa n11 (Aa n5 (Aa n11 (Aa n5 (Aa n11 (Aa n5 (Aa n17 (Aa n8 (Aa n17 (Aa n8 (Aa n17 (Aa n8 (Aa n1 (Aa n8 (Aa n11 (Aa n5 (Aa n11 (Aa n5 (Aa n11 (Aa n5 (Aa n17 (Aa n8 (Aa n17 (Aa n8 (Aa n17 (Aa n8 Ab)))))))))))))))))))))))))))))))))))))
def Agv (a0:TCell) (a1:TCell):A:=.v (.agg ⟨[.int .i64 ((Lj a0 a1).stamp.n),.int .i64 ((Lj a0 a1).stamp.site),.int .i64 ((Lj a0 a1).vec.a),.int .i64 ((Lj a0 a1).vec.b),.bool ((Lj a0 a1).gone),.string ((Lj a0 a1).value),.int .i64 ((Lj a0 a1).dead.a),.int .i64 ((Lj a0 a1).dead.b)]⟩)
def Agu (_a0:TCell) (_a1:TCell):Objs:=[]
def ZN (_a0:TCell) (_a1:TCell):List Prop:=[]
theorem A7e (a b:TCell):GB a b=Lj a b:=by
 have h1:BY a b=Jz zeroC a:=rfl
 have h0:HM a b=Jz (HP zeroC a) b:=by
  unfold HM
  rw[h1]
  unfold HP
  cases Jz zeroC a<;>rfl
 unfold GB
 rw[h0,h1]
 have hm:HP (HP zeroC a) b=bif Jz (HP zeroC a) b then b else HP zeroC a:=rfl
 have hz:HP zeroC a=bif Jz zeroC a then a else zeroC:=rfl
 unfold Lj
 rw[hm]
 cases Jz (HP zeroC a) b with
 |true=>rfl
 |false=>
  rw[hz]
  cases Jz zeroC a<;>rfl
theorem A7d (a0:TCell) (b0:TCell) (_hp:∀p∈ZN a0 b0,p):CallOk Try.prog 75 [.sl .cell [a0,b0]] 0 [] 1 (Agv a0 b0) 0 (Agu a0 b0):=by
 have h:=Bdx a0 b0 (fun _ h=>by cases h)
 unfold Wp at h
 rw[A7e] at h
 exact h
def Wq:List A→Nat→Objs→Option Bb
 | [y0],nx,o=>match B0z .cell y0 with
  |some (a0,b0)=>some (1,(Agv a0 b0).pk (AF nx),nx+0,AE nx (Agu a0 b0)++o,ZN a0 b0)
  |_=>none
 |_,_,_=>none
theorem A1t:Ft Try.prog 75 Wq:=fun args nx o k x nx' o' ps h=>by
 unfold Wq at h
 split at h<;>first|(cases h;done)|skip
 split at h<;>first|(cases h;done)|skip
 rename_i a0 b0 e0
 cases h
 refine⟨fun hp=>?_,_,rfl⟩
 refine Ah (Ag (A7d a0 b0 hp) (Nat.le_refl _) (Ac rfl Ao) nx o) fun F N R vs hl=>?_
 obtain⟨v0,w0,rfl,h0,hl⟩:=hl.inv
 exact HL.cons (Bwj e0 h0) (hl)
noncomputable def B16:=A7 75 Wq B0u
theorem Bv7:Dd Try.prog B16:=Av A1t Bl8
noncomputable def Cq:=B16
theorem B17:Dd Try.prog Cq:=Bv7
end Go.Proofs.Yteebobbhhgmeiaa
namespace Go.Proofs.Yteebobbhhgmeiaa
open Go.RowKit
def wrE (l:List TGroup) (r:TRow) (g:Int) (c:TCell):Int:=bif Ap l r !=0 then Ap l r else bif decide (g <0)||decide (g≥(l.length:Int)) then 70 else bif !BA (Acy l g.toNat) c then 80 else 0
def B3k (xs:List TCell) (g:Nat) (c:TCell):List TCell:=xs.set g (Lj (Gj xs g) c)
end Go.Proofs.Yteebobbhhgmeiaa
namespace Go.Proofs.Yteebobbhhgmeiaa
open Go.RowKit
noncomputable def B18:=A7 60 Qa Cq
theorem Bv8:Dd Try.prog B18:=Av ZR B17
noncomputable def B0v:=A7 61 WC B18
theorem Bl9:Dd Try.prog B0v:=Av A1w Bv8
def Gv (a0:List TGroup) (_a1:Int):Bool:=AY a0 !=(0:Int)
def Dg (a0:List TGroup) (a1:Int):Bool:=decide (a1 <(0:Int))||decide (a1≥(↑a0.length:Int))
def CZ (a0:List TGroup) (a1:Int):Int:=bif(Gv a0 a1) then(0:Int) else bif(Dg a0 a1) then(0:Int) else(a0.getD a1.toNat (Ae TC.group)).2
def JE (a0:List TGroup) (a1:Int):Int:=bif(Gv a0 a1) then AY a0 else bif(Dg a0 a1) then(70:Int) else(0:Int)
def XA (a0:List TGroup) (a1:Int):A:=.v (.tuple ⟨[.int .i64 (CZ a0 a1),.int .i64 (JE a0 a1)]⟩)
def Xz (_a0:List TGroup) (_a1:Int):Objs:=[]
def Aig (a0:List TGroup) (a1:Int):List Prop:=[((!(Gv a0 a1))=true→(!(Dg a0 a1))=true→(0:Int)≤a1∧a1 <(↑a0.length:Int))]
theorem A8t (a0:List TGroup) (a1:Int):EQ (AA B0v L0) 9 134 [.sl .group a0,Ak .i64 a1] 0 []=some (1,XA a0 a1,0,Xz a0 a1,[((!(Gv a0 a1))=true→(!(Dg a0 a1))=true→(0:Int)≤a1∧a1 <(↑a0.length:Int))]):=by kernel_rfl
theorem Bey (a0:List TGroup) (a1:Int) (hp:∀p∈Aig a0 a1,p):CallOk Try.prog 134 [.sl .group a0,Ak .i64 a1] 0 [] 1 (XA a0 a1) 0 (Xz a0 a1):=by
 have n0:=N0 hp
 exact AI (Aw Bl9 AH) (A8t a0 a1) (Aa n0 Ab)
def XB:List A→Nat→Objs→Option Bb
 | [y0,y1],nx,o=>match Kh .group y0,AQ .i64 y1 with
  |some a0,some (a1,p1)=>some (1,(XA a0 a1).pk (AF nx),nx+0,AE nx (Xz a0 a1)++o,p1++(Aig a0 a1))
  |_,_=>none
 |_,_,_=>none
theorem A2n:Ft Try.prog 134 XB:=fun args nx o k x nx' o' ps h=>by
 unfold XB at h
 split at h<;>first|(cases h;done)|skip
 split at h<;>first|(cases h;done)|skip
 rename_i a0 a1 p1 e0 e1
 cases h
 refine⟨fun hp=>?_,_,rfl⟩
 have q1:=fun p hm=>hp p (List.mem_append.2 (.inl hm))
 have r1:=fun p hm=>hp p (List.mem_append.2 (.inr hm))
 refine Ah (Ag (Bey a0 a1 r1) (Nat.le_refl _) (Ac rfl (Ac (Af _ _) Ao)) nx o) fun F N R vs hl=>?_
 obtain⟨v0,w0,rfl,h0,hl⟩:=hl.inv
 obtain⟨v1,w1,rfl,h1,hl⟩:=hl.inv
 exact HL.cons (BX e0 h0) (HL.cons (Am e1 q1 h1) (hl))
noncomputable def B0w:=A7 134 XB B0v
theorem Bma:Dd Try.prog B0w:=Av A2n Bl9
def H2 (a0:TRow):List TCell:=List.replicate (↑a0.2.length:Int).toNat (Ae TC.cell)
def Ug (a0:TRow):List TCell:=List.take (0:Nat) (H2 a0)++(List.take (H2 a0).length a0.2++List.drop ((0:Nat)+(H2 a0).length.min a0.2.length) (H2 a0))
def Ajn (a0:TRow):A:=.agg [.v (.string a0.1),.sq 0]
def Uh (a0:TRow):Objs:=[(0,some (.arr 55 8 (.ty .cell (Ug a0))))]
def A3k (a0:TRow):List Prop:=[((0:Int)≤(↑a0.2.length:Int)∧(↑a0.2.length:Int)≤(↑a0.2.length:Int)∧(↑a0.2.length:Int)≤(549755813888:Int))]
theorem A3j (a0:TRow):EQ (AA B0w L0) 9 133 [Ak .row a0] 0 []=some (1,Ajn a0,1,Uh a0,[((0:Int)≤(↑a0.2.length:Int)∧(↑a0.2.length:Int)≤(↑a0.2.length:Int)∧(↑a0.2.length:Int)≤(549755813888:Int))]):=by kernel_rfl
theorem A95 (a0:TRow) (hp:∀p∈A3k a0,p):CallOk Try.prog 133 [Ak .row a0] 0 [] 1 (Ajn a0) 1 (Uh a0):=by
 have n0:=N0 hp
 exact AI (Aw Bma AH) (A3j a0) (Aa n0 Ab)
def Abg (a0:TRow):A:=.agg [.v (.string a0.1),.sq 0]
def Abf (a0:TRow):Objs:=[(0,some (.arr 55 8 (.ty .cell a0.2)))]
def Ys (a0:TRow):List Prop:=[Ai a0.2.length]
theorem A3i (a:TRow):Ug a=a.2:=by
 have hk:(H2 a).length=a.2.length:=by
  unfold H2
  simp
 unfold Ug
 rw[hk,List.take_length,List.take_zero,List.nil_append]
 have:List.drop (0+a.2.length.min a.2.length) (H2 a)=[]:=List.drop_eq_nil_of_le (by rw[hk];show a.2.length≤0+min a.2.length a.2.length;omega)
 rw[this,List.append_nil]
theorem A3h (a0:TRow) (hp:∀p∈Ys a0,p):CallOk Try.prog 133 [Ak .row a0] 0 [] 1 (Abg a0) 1 (Abf a0):=by
 have hb:Ai a0.2.length:=hp _ (List.mem_cons_self ..)
 unfold Ai at hb
 have h:=A95 a0 (Aa (by omega) Ab)
 unfold Uh at h
 rw[A3i] at h
 exact h
def Ui:List A→Nat→Objs→Option Bb
 | [y0],nx,o=>match AQ .row y0 with
  |some (a0,p0)=>some (1,(Abg a0).pk (AF nx),nx+1,AE nx (Abf a0)++o,p0++(Ys a0))
  |_=>none
 |_,_,_=>none
theorem A0s:Ft Try.prog 133 Ui:=fun args nx o k x nx' o' ps h=>by
 unfold Ui at h
 split at h<;>first|(cases h;done)|skip
 split at h<;>first|(cases h;done)|skip
 rename_i a0 p0 e0
 cases h
 refine⟨fun hp=>?_,_,rfl⟩
 have q0:=fun p hm=>hp p (List.mem_append.2 (.inl hm))
 have r0:=fun p hm=>hp p (List.mem_append.2 (.inr hm))
 refine Ah (Ag (A3h a0 r0) (Nat.le_refl _) (Ac (Af _ _) Ao) nx o) fun F N R vs hl=>?_
 obtain⟨v0,w0,rfl,h0,hl⟩:=hl.inv
 exact HL.cons (Am e0 q0 h0) (hl)
noncomputable def Brv:=A7 133 Ui B0w
theorem A6d:Dd Try.prog Brv:=Av A0s Bma
abbrev Db:Type:=(List TCell)×Int×Int×ByteArray×(List TCell)
def MH (x:Db):St:=⟨60,9,[(11,.own 7 0),(39,.sl .cell x.1),(40,.v (.int .i64 x.2.1)),(41,.v (.int .i64 x.2.2.1))],[(7,some (.box 71 [.v (.string x.2.2.2.1),.sq 8])),(8,some (.arr 55 8 (.ty .cell x.2.2.2.2)))]⟩
def PC:St→Option Db
 |⟨60,9,[(11,.own 7 0),(39,.sl .cell z0),(40,.v (.int .i64 z1)),(41,.v (.int .i64 z2))],[(7,some (.box 71 [.v (.string z3),.sq 8])),(8,some (.arr 55 8 (.ty .cell z4)))]⟩=>some (z0,z1,z2,z3,z4)
 |_=>none
theorem Ann:∀s x,PC s=some x→s=MH x:=fun s x h=>by
 unfold PC at h
 split at h
 ·cases h;rfl
 ·cases h
def Aa9:Dj:=⟨8,9,[11,39,40,41],[],[(7,7),(8,8)],[7,8],[],[7,8]⟩
def A3c:DB:=⟨[],[(7,7),(6,8)],[11,39,40,41],[7,6]⟩
def Nu (a0:List TCell) (_a1:Int) (a2:Int) (_a3:ByteArray) (a4:List TCell):List TCell:=a4.set a2.toNat (Lj (a4.getD a2.toNat (Ae TC.cell)) (a0.getD a2.toNat (Ae TC.cell)))
def Fl (x:Db):Db:=(x.1,x.2.1,IntKind.i64.wrap (x.2.2.1+(1:Int)),x.2.2.2.1,Nu x.1 x.2.1 x.2.2.1 x.2.2.2.1 x.2.2.2.2)
def Fk (x:Db):Cnd:=some (!!decide (x.2.2.1 <x.2.1))
def Vz (x:Db):List Prop:=[((!!decide (x.2.2.1 <x.2.1))=true→(0:Int)≤x.2.2.1∧x.2.2.1 <(↑x.1.length:Int)),((!!decide (x.2.2.1 <x.2.1))=true→(0:Int)≤x.2.2.1∧x.2.2.1 <(↑x.2.2.2.2.length:Int)),((!!decide (x.2.2.1 <x.2.1))=true→x.2.2.1.toNat <x.2.2.2.2.length),((!!decide (x.2.2.1 <x.2.1))=true→(0:Int)≤x.2.2.1∧x.2.2.1 <(↑x.2.2.2.2.length:Int)),((!!decide (x.2.2.1 <x.2.1))=true→x.2.2.1.toNat <x.2.2.2.2.length)]
def Ix (x:Db):List Prop:=[((!!decide (x.2.2.1 <x.2.1))=true→(0:Int)≤x.2.2.1∧x.2.2.1 <(↑x.1.length:Int)),((!!decide (x.2.2.1 <x.2.1))=true→(0:Int)≤x.2.2.1∧x.2.2.1 <(↑x.2.2.2.2.length:Int))]
def Tl (x:Db):Bo:=[(some 2,some (!decide (x.2.2.1 <x.2.1)),⟨60,9,[],[(7,some (.box 71 [.v (.string x.2.2.2.1),.sq 8])),(8,some (.arr 55 8 (.ty .cell x.2.2.2.2)))]⟩)]
def G5 (x:Db):Nat:=(x.2.1 - x.2.2.1).toNat
def Nv (x:Db):Db:=Bg Fl Fk (G5 x) x
theorem A0k (a0:List TCell) (a1:Int) (a2:Int) (a3:ByteArray) (a4:List TCell):Bz (AA Brv L0) 9 (Aj Try.prog 71 2) Aa9 (MH (a0,a1,a2,a3,a4))=some (Vz (a0,a1,a2,a3,a4),Tl (a0,a1,a2,a3,a4),Fk (a0,a1,a2,a3,a4),MH (Fl (a0,a1,a2,a3,a4))):=by kernel_rfl
theorem A0l (a0:List TCell) (a1:Int) (a2:Int) (a3:ByteArray) (a4:List TCell) (hp:∀p∈Ix (a0,a1,a2,a3,a4),p):∀p∈Vz (a0,a1,a2,a3,a4),p:=by
 have n0:=N0 hp
 have n1:((!!decide (a2 <a1))=true→(0:Int)≤a2∧a2 <(↑a4.length:Int)):=N0 (N1 hp)
 have n2:((!!decide (a2 <a1))=true→a2.toNat <a4.length):=by intro h0;have g:=n1 h0;omega
 exact(Aa n0 (Aa n1 (Aa n2 (Aa n1 (Aa n2 Ab)))))
noncomputable def VA:=H1 (AA Brv L0) (Aj Try.prog 71 2) Aa9 A3c PC G5 Fl Fk Ix Tl
theorem At3:∀s b ps outs,VA s=some (b,ps,outs)→Wf s ⟨ps,outs,none⟩∧Bx (AA C0 L0) b s ps outs:=
 Bm (T:=MH) A6d AH (u:=9) (by kernel_rfl) (by decide) (fun⟨a0,a1,a2,a3,a4⟩=>A0k a0 a1 a2 a3 a4) (fun⟨a0,a1,a2,a3,a4⟩=>A0l a0 a1 a2 a3 a4) Ann (fun _=>AW (n:=60) rfl) fun _ _=>rfl
noncomputable def Aa8:=DP 2 VA L0
theorem At2:Hr Aa8:=A6 At3 AH
def FD (_a0:List TGroup) (a1:TRow) (a2:TRow):Bool:=!a1.1.toList==a2.1.toList
def IH (a0:List TGroup) (a1:TRow) (_a2:TRow):Bool:=Ap a0 a1 !=(0:Int)
def FC (a0:List TGroup) (a1:TRow) (a2:TRow):Bool:=(IH a0 a1 a2)||Ap a0 a2 !=(0:Int)
def Ae0 (a0:List TGroup) (a1:TRow) (a2:TRow):ByteArray:=bif(FC a0 a1 a2) then bif(IH a0 a1 a2) then ByteArray.mk #[] else ByteArray.mk #[] else bif(FD a0 a1 a2) then ByteArray.mk #[] else(Nv (a2.2,(↑a2.2.length:Int),(0:Int),a1.1,a1.2)).snd.snd.snd.fst
def Ae1 (a0:List TGroup) (a1:TRow) (a2:TRow):Int:=bif(FC a0 a1 a2) then bif(IH a0 a1 a2) then Ap a0 a1 else Ap a0 a2 else bif(FD a0 a1 a2) then(100:Int) else(0:Int)
def Ae2 (a0:List TGroup) (a1:TRow) (a2:TRow):List TCell:=bif(FC a0 a1 a2) then[] else bif(FD a0 a1 a2) then[] else(Nv (a2.2,(↑a2.2.length:Int),(0:Int),a1.1,a1.2)).snd.snd.snd.snd
def Ae4 (a0:List TGroup) (a1:TRow) (a2:TRow):A:=.tup [.agg [.v (.string (Ae0 a0 a1 a2)),.sq 0],.v (.int .i64 (Ae1 a0 a1 a2))]
def Ae3 (a0:List TGroup) (a1:TRow) (a2:TRow):Objs:=[(0,some (.arr 55 8 (.ty .cell (Ae2 a0 a1 a2))))]
def Bgh (a0:List TGroup) (a1:TRow) (a2:TRow):List Prop:=[((!(FC a0 a1 a2))=true→(!(FD a0 a1 a2))=true→Ai a1.2.length),((!(FC a0 a1 a2))=true→(!(FD a0 a1 a2))=true→AL Fl Fk Ix (G5 (a2.2,(↑a2.2.length:Int),(0:Int),a1.1,a1.2)) (a2.2,(↑a2.2.length:Int),(0:Int),a1.1,a1.2))]
theorem Bgg (a0:List TGroup) (a1:TRow) (a2:TRow):EQ (AA Brv Aa8) 9 71 [.sl .group a0,Ak .row a1,Ak .row a2] 0 []=some (1,Ae4 a0 a1 a2,1,Ae3 a0 a1 a2,[((0:Int)≤(0:Int)∧(0:Int) <(↑(2:Nat):Int)),((0:Nat) <(2:Nat)),((!(IH a0 a1 a2))=true→(0:Int)≤(1:Int)∧(1:Int) <(↑(2:Nat):Int)),((!(IH a0 a1 a2))=true→(1:Nat) <(2:Nat)),((!(FC a0 a1 a2))=true→(!(FD a0 a1 a2))=true→Ai a1.2.length),((!(FC a0 a1 a2))=true→(!(FD a0 a1 a2))=true→Aj Try.prog (71:FuncId) (2:Nat)=Aj Try.prog (71:FuncId) (2:Nat)),((!(FC a0 a1 a2))=true→(!(FD a0 a1 a2))=true→AL Fl Fk Ix (G5 (a2.2,(↑a2.2.length:Int),(0:Int),a1.1,a1.2)) (a2.2,(↑a2.2.length:Int),(0:Int),a1.1,a1.2))]):=by kernel_rfl
theorem Bkc (a0:List TGroup) (a1:TRow) (a2:TRow) (hp:∀p∈Bgh a0 a1 a2,p):CallOk Try.prog 71 [.sl .group a0,Ak .row a1,Ak .row a2] 0 [] 1 (Ae4 a0 a1 a2) 1 (Ae3 a0 a1 a2):=by
 have n0:((0:Int)≤(0:Int)∧(0:Int) <(↑(2:Nat):Int)):=by first|rfl|decide+kernel
 have n1:((0:Nat) <(2:Nat)):=by first|rfl|decide+kernel
 have n2:((!(IH a0 a1 a2))=true→(0:Int)≤(1:Int)∧(1:Int) <(↑(2:Nat):Int)):=by omega
 have n3:((!(IH a0 a1 a2))=true→(1:Nat) <(2:Nat)):=by omega
 have n4:=N0 hp
 have n5:((!(FC a0 a1 a2))=true→(!(FD a0 a1 a2))=true→Aj Try.prog (71:FuncId) (2:Nat)=Aj Try.prog (71:FuncId) (2:Nat)):=by intros;rfl
 have n6:=N0 (N1 hp)
 exact AI (Aw A6d At2) (Bgg a0 a1 a2) (Aa n0 (Aa n1 (Aa n2 (Aa n3 (Aa n4 (Aa n5 (Aa n6 Ab)))))))
def jnK (l:List TGroup) (a b:TRow):ByteArray:=bif jnE l a b==0 then a.key else⟨#[]⟩
def jnL (l:List TGroup) (a b:TRow):List TCell:=bif jnE l a b==0 then jnN a.cells b.cells b.cells.length else[]
def Aq3 (a0:List TGroup) (a1:TRow) (a2:TRow):A:=.tup [.agg [.v (.string (jnK a0 a1 a2)),.sq 0],.v (.int .i64 (jnE a0 a1 a2))]
def Aq2 (a0:List TGroup) (a1:TRow) (a2:TRow):Objs:=[(0,some (.arr 55 8 (.ty .cell (jnL a0 a1 a2))))]
def Aje (_a0:List TGroup) (_a1:TRow) (_a2:TRow):List Prop:=[]
theorem A3d (key:ByteArray) (us ws:List TCell) (hl:us.length=ws.length) (h4:ws.length≤4):
  AL Fl Fk Ix (G5 (ws,(ws.length:Int),0,key,us)) (ws,(ws.length:Int),0,key,us)∧
  Nv (ws,(ws.length:Int),0,key,us)=(ws,(ws.length:Int),(ws.length:Int),key,jnN us ws ws.length):=by
 obtain⟨h1,k,hk,hx,_,hst,_⟩:=IJ (fun i=>(ws,(ws.length:Int),(i:Int),key,jnN us ws i):Nat→Db) ws.length (fun _=>false) Fl Fk Ix (G5 (ws,(ws.length:Int),0,key,us)) (ws,(ws.length:Int),0,key,us) rfl (by show ws.length≤((ws.length:Int) - 0).toNat;omega)
  (fun i _ _=>by
   show(!!decide ((i:Int) <(ws.length:Int)))=_
   rw[nn,Mp,Bool.not_false,Bool.and_true])
  (fun i hi _=>by
   show(ws,(ws.length:Int),IntKind.i64.wrap ((i:Int)+1),key,Nu ws (ws.length:Int) (i:Int) key (jnN us ws i))=(ws,(ws.length:Int),((i+1:Nat):Int),key,jnN us ws (i+1))
   unfold Nu
   rw[Fp (by omega),Int.toNat_natCast]
   rfl)
  (fun i hi _=>by
   have hin:(!!decide ((i:Int) <(ws.length:Int)))=true→i <ws.length:=fun h=>by rw[nn] at h;have:=of_decide_eq_true h;omega
   have hlen:=Agt us ws i
   exact Aa (fun h=>⟨by show(0:Int)≤(i:Int);omega,by have:=hin h;show(i:Int) <(ws.length:Int);omega⟩) (Aa (fun h=>⟨by show(0:Int)≤(i:Int);omega,by have:=hin h;show(i:Int) <((jnN us ws i).length:Int);omega⟩) Ab))
 have hkn:k=ws.length:=by
  rcases Nat.lt_or_ge k ws.length with h|h
  ·exact absurd (hst h) (by decide)
  ·omega
 subst hkn
 exact⟨h1,hx⟩
theorem Bgf (a0:List TGroup) (a1:TRow) (a2:TRow) (_hp:∀p∈Aje a0 a1 a2,p):CallOk Try.prog 71 [.sl .group a0,Ak .row a1,Ak .row a2] 0 [] 1 (Aq3 a0 a1 a2) 1 (Aq2 a0 a1 a2):=by
 have hgood:(!(FC a0 a1 a2))=true→Ap a0 a1=0∧Ap a0 a2=0:=fun h=>by
  have h':(!((Ap a0 a1 !=0)||(Ap a0 a2 !=0)))=true:=h
  rw[Bool.not_or,Bool.and_eq_true] at h'
  exact⟨by simpa using h'.1,by simpa using h'.2⟩
 have hloop:Ap a0 a1=0→Ap a0 a2=0→_:=fun g1 g2=>A3d a1.1 a1.2 a2.2 (((AS g1).2.1).trans ((AS g2).2.1).symm) (by have:=(Gu (AS g2).1).2;have:=(AS g2).2.1;show a2.cells.length≤4;omega)
 have h:=Bkc a0 a1 a2 (Aa (fun h _=>by
   obtain⟨g1,_⟩:=hgood h
   have:=(Gu (AS g1).1).2
   have:=(AS g1).2.1
   show Ai a1.cells.length
   unfold Ai
   omega) (Aa (fun h _=>(hloop (hgood h).1 (hgood h).2).1) Ab))
 have e:Ae0 a0 a1 a2=jnK a0 a1 a2∧Ae1 a0 a1 a2=jnE a0 a1 a2∧Ae2 a0 a1 a2=jnL a0 a1 a2:=by
  have k0:FC a0 a1 a2=((Ap a0 a1 !=0)||(Ap a0 a2 !=0)):=rfl
  have k1:IH a0 a1 a2=(Ap a0 a1 !=0):=rfl
  have k2:FD a0 a1 a2=!(a1.key==a2.key):=by
   unfold FD
   rw[tlb]
  unfold Ae0 Ae1 Ae2 jnK jnL jnE
  rw[k0,k1,k2]
  cases g1:Ap a0 a1 !=0 with
  |true=>
   have:(Ap a0 a1==0)=false:=by simpa using g1
   rw[Bool.true_or,cond_true,cond_true,cond_true,cond_true,cond_true,this]
   refine⟨?_,?_,?_⟩<;>first|rfl|trivial
  | false=>
   cases g2:Ap a0 a2 !=0 with
   |true=>
    have:(Ap a0 a2==0)=false:=by simpa using g2
    rw[Bool.false_or]
    simp only[cond_true,cond_false,this]
    refine⟨?_,?_,?_⟩<;>first|rfl|trivial
   | false=>
    rw[Bool.false_or]
    simp only[cond_false]
    cases hk:a1.key==a2.key with
    |false=>refine⟨?_,?_,?_⟩<;>first|rfl|trivial
    |true=>
     rw[(hloop (by simpa using g1) (by simpa using g2)).2]
     refine⟨?_,?_,?_⟩<;>first|rfl|trivial
 unfold Ae4 Ae3 at h
 rw[e.1,e.2.1,e.2.2] at h
 exact h
def Ae5:List A→Nat→Objs→Option Bb
 | [y0,y1,y2],nx,o=>match Kh .group y0,AQ .row y1,AQ .row y2 with
  |some a0,some (a1,p1),some (a2,p2)=>some (1,(Aq3 a0 a1 a2).pk (AF nx),nx+1,AE nx (Aq2 a0 a1 a2)++o,p1++(p2++(Aje a0 a1 a2)))
  |_,_,_=>none
 |_,_,_=>none
theorem A9y:Ft Try.prog 71 Ae5:=fun args nx o k x nx' o' ps h=>by
 unfold Ae5 at h
 split at h<;>first|(cases h;done)|skip
 split at h<;>first|(cases h;done)|skip
 rename_i a0 a1 p1 a2 p2 e0 e1 e2
 cases h
 refine⟨fun hp=>?_,_,rfl⟩
 have q1:=fun p hm=>hp p (List.mem_append.2 (.inl hm))
 have r1:=fun p hm=>hp p (List.mem_append.2 (.inr hm))
 have q2:=fun p hm=>r1 p (List.mem_append.2 (.inl hm))
 have r2:=fun p hm=>r1 p (List.mem_append.2 (.inr hm))
 refine Ah (Ag (Bgf a0 a1 a2 r2) (Nat.le_refl _) (Ac rfl (Ac (Af _ _) (Ac (Af _ _) Ao))) nx o) fun F N R vs hl=>?_
 obtain⟨v0,w0,rfl,h0,hl⟩:=hl.inv
 obtain⟨v1,w1,rfl,h1,hl⟩:=hl.inv
 obtain⟨v2,w2,rfl,h2,hl⟩:=hl.inv
 exact HL.cons (BX e0 h0) (HL.cons (Am e1 q1 h1) (HL.cons (Am e2 q2 h2) (hl)))
noncomputable def B0x:=A7 71 Ae5 Brv
theorem Bmb:Dd Try.prog B0x:=Av A9y A6d
def CO (a0:List TGroup) (_a1:TRow) (a2:Int) (_a3:TCell):Bool:=JE a0 a2 !=(0:Int)
def BO (a0:List TGroup) (a1:TRow) (_a2:Int) (_a3:TCell):Bool:=Ap a0 a1 !=(0:Int)
def Ym (a0:List TGroup) (a1:TRow) (a2:Int) (a3:TCell):ByteArray:=bif(BO a0 a1 a2 a3) then ByteArray.mk #[] else bif(CO a0 a1 a2 a3) then ByteArray.mk #[] else bif !AV (CZ a0 a2) a3 then ByteArray.mk #[] else a1.1
def Yn (a0:List TGroup) (a1:TRow) (a2:Int) (a3:TCell):Int:=bif(BO a0 a1 a2 a3) then Ap a0 a1 else bif(CO a0 a1 a2 a3) then JE a0 a2 else bif !AV (CZ a0 a2) a3 then(80:Int) else(0:Int)
def Yo (a0:List TGroup) (a1:TRow) (a2:Int) (a3:TCell):List TCell:=bif(BO a0 a1 a2 a3) then[] else bif(CO a0 a1 a2 a3) then[] else bif !AV (CZ a0 a2) a3 then[] else a1.2.set a2.toNat (Lj (a1.2.getD a2.toNat (Ae TC.cell)) a3)
def Yq (a0:List TGroup) (a1:TRow) (a2:Int) (a3:TCell):A:=.tup [.agg [.v (.string (Ym a0 a1 a2 a3)),.sq 0],.v (.int .i64 (Yn a0 a1 a2 a3))]
def Yp (a0:List TGroup) (a1:TRow) (a2:Int) (a3:TCell):Objs:=[(0,some (.arr 55 8 (.ty .cell (Yo a0 a1 a2 a3))))]
def A94 (a0:List TGroup) (a1:TRow) (a2:Int) (a3:TCell):List Prop:=[((!(BO a0 a1 a2 a3))=true→(!Gv a0 a2)=true→(!Dg a0 a2)=true→(0:Int)≤a2∧a2 <(↑a0.length:Int)),((!(BO a0 a1 a2 a3))=true→(!(CO a0 a1 a2 a3))=true→(!!AV (CZ a0 a2) a3)=true→Ai a1.2.length),((!(BO a0 a1 a2 a3))=true→(!(CO a0 a1 a2 a3))=true→(!!AV (CZ a0 a2) a3)=true→(0:Int)≤a2∧a2 <(↑a1.2.length:Int))]
theorem A93 (a0:List TGroup) (a1:TRow) (a2:Int) (a3:TCell):EQ (AA B0x L0) 9 72 [.sl .group a0,Ak .row a1,Ak .i64 a2,Ak .cell a3] 0 []=some (1,Yq a0 a1 a2 a3,1,Yp a0 a1 a2 a3,[((!(BO a0 a1 a2 a3))=true→(!Gv a0 a2)=true→(!Dg a0 a2)=true→(0:Int)≤a2∧a2 <(↑a0.length:Int)),((!(BO a0 a1 a2 a3))=true→(!(CO a0 a1 a2 a3))=true→(!!AV (CZ a0 a2) a3)=true→Ai a1.2.length),((!(BO a0 a1 a2 a3))=true→(!(CO a0 a1 a2 a3))=true→(!!AV (CZ a0 a2) a3)=true→(0:Int)≤a2∧a2 <(↑a1.2.length:Int)),((!(BO a0 a1 a2 a3))=true→(!(CO a0 a1 a2 a3))=true→(!!AV (CZ a0 a2) a3)=true→a2.toNat <a1.2.length),((!(BO a0 a1 a2 a3))=true→(!(CO a0 a1 a2 a3))=true→(!!AV (CZ a0 a2) a3)=true→(0:Int)≤a2∧a2 <(↑a1.2.length:Int)),((!(BO a0 a1 a2 a3))=true→(!(CO a0 a1 a2 a3))=true→(!!AV (CZ a0 a2) a3)=true→a2.toNat <a1.2.length)]):=by kernel_rfl
theorem Bgo (a0:List TGroup) (a1:TRow) (a2:Int) (a3:TCell) (hp:∀p∈A94 a0 a1 a2 a3,p):CallOk Try.prog 72 [.sl .group a0,Ak .row a1,Ak .i64 a2,Ak .cell a3] 0 [] 1 (Yq a0 a1 a2 a3) 1 (Yp a0 a1 a2 a3):=by
 have n0:=N0 hp
 have n1:=N0 (N1 hp)
 have n2:((!(BO a0 a1 a2 a3))=true→(!(CO a0 a1 a2 a3))=true→(!!AV (CZ a0 a2) a3)=true→(0:Int)≤a2∧a2 <(↑a1.2.length:Int)):=N0 (N1 (N1 hp))
 have n3:((!(BO a0 a1 a2 a3))=true→(!(CO a0 a1 a2 a3))=true→(!!AV (CZ a0 a2) a3)=true→a2.toNat <a1.2.length):=by intro h0 h1 h2;have g:=n2 h0 h1 h2;omega
 exact AI (Aw Bmb AH) (A93 a0 a1 a2 a3) (Aa n0 (Aa n1 (Aa n2 (Aa n3 (Aa n2 (Aa n3 Ab))))))
def wrK (l:List TGroup) (r:TRow) (g:Int) (c:TCell):ByteArray:=bif wrE l r g c==0 then r.key else⟨#[]⟩
def wrL (l:List TGroup) (r:TRow) (g:Int) (c:TCell):List TCell:=bif wrE l r g c==0 then B3k r.cells g.toNat c else[]
def Ajm (a0:List TGroup) (a1:TRow) (a2:Int) (a3:TCell):A:=.tup [.agg [.v (.string (wrK a0 a1 a2 a3)),.sq 0],.v (.int .i64 (wrE a0 a1 a2 a3))]
def Ajl (a0:List TGroup) (a1:TRow) (a2:Int) (a3:TCell):Objs:=[(0,some (.arr 55 8 (.ty .cell (wrL a0 a1 a2 a3))))]
def Abe (_a0:List TGroup) (_a1:TRow) (_a2:Int) (_a3:TCell):List Prop:=[]
theorem A92 (a0:List TGroup) (a1:TRow) (a2:Int) (a3:TCell) (_hp:∀p∈Abe a0 a1 a2 a3,p):CallOk Try.prog 72 [.sl .group a0,Ak .row a1,Ak .i64 a2,Ak .cell a3] 0 [] 1 (Ajm a0 a1 a2 a3) 1 (Ajl a0 a1 a2 a3):=by
 have hgood:(!(BO a0 a1 a2 a3))=true→Ap a0 a1=0:=fun h=>by
  have h':(!(Ap a0 a1 !=0))=true:=h
  simpa using h'
 have h4:Ap a0 a1=0→a1.cells.length=a0.length∧a0.length≤4:=fun g=>⟨(AS g).2.1,(Gu (AS g).1).2⟩
 have hin:(!Dg a0 a2)=true→0≤a2∧a2 <(a0.length:Int):=fun h=>by
  have h':(!(decide (a2 <0)||decide (a2≥(a0.length:Int))))=true:=h
  rw[Bool.not_or,Bool.and_eq_true,Bool.not_eq_true',Bool.not_eq_true'] at h'
  have:=of_decide_eq_false h'.1
  have:=of_decide_eq_false h'.2
  omega
 have k1:Ap a0 a1=0→CO a0 a1 a2 a3=Dg a0 a2:=fun g=>by
  have hp:(AY a0 !=0)=false:=by rw[(AS g).1];rfl
  have e1:JE a0 a2=bif Dg a0 a2 then 70 else 0:=by
   unfold JE Gv
   rw[hp]
   rfl
  unfold CO
  rw[e1]
  cases Dg a0 a2<;>rfl
 have h:=Bgo a0 a1 a2 a3 (Aa (fun _ _ g=>hin g) (Aa (fun g _ _=>by
   obtain⟨q1,q2⟩:=h4 (hgood g)
   show Ai a1.cells.length
   unfold Ai
   omega) (Aa (fun g g1 _=>by
   obtain⟨q1,q2⟩:=h4 (hgood g)
   rw[k1 (hgood g)] at g1
   have:=hin g1
   show(0:Int)≤a2∧a2 <(a1.cells.length:Int)
   omega) Ab)))
 have e:Ym a0 a1 a2 a3=wrK a0 a1 a2 a3∧Yn a0 a1 a2 a3=wrE a0 a1 a2 a3∧Yo a0 a1 a2 a3=wrL a0 a1 a2 a3:=by
  have k0:BO a0 a1 a2 a3=(Ap a0 a1 !=0):=rfl
  unfold Ym Yn Yo wrK wrL wrE
  rw[k0]
  cases g1:Ap a0 a1 !=0 with
  |true=>
   have:(Ap a0 a1==0)=false:=by simpa using g1
   simp only[cond_true,this]
   refine⟨?_,?_,?_⟩<;>first|rfl|trivial
  | false=>
   have g0:Ap a0 a1=0:=by simpa using g1
   have hp:(AY a0 !=0)=false:=by rw[(AS g0).1];rfl
   have e1:JE a0 a2=bif Dg a0 a2 then 70 else 0:=by
    unfold JE Gv
    rw[hp]
    rfl
   have kk:Dg a0 a2=(decide (a2 <0)||decide (a2≥(a0.length:Int))):=rfl
   rw[k1 g0,e1,←kk]
   cases g2:Dg a0 a2 with
   |true=>refine⟨?_,?_,?_⟩<;>first|rfl|trivial
   | false=>
    have e0:CZ a0 a2=Acy a0 a2.toNat:=by
     unfold CZ Gv
     rw[hp,g2]
     rfl
    rw[e0,IK]
    cases BA (Acy a0 a2.toNat) a3<;>refine⟨?_,?_,?_⟩<;>first|rfl|trivial
 unfold Yq Yp at h
 rw[e.1,e.2.1,e.2.2] at h
 exact h
def Yr:List A→Nat→Objs→Option Bb
 | [y0,y1,y2,y3],nx,o=>match Kh .group y0,AQ .row y1,AQ .i64 y2,AQ .cell y3 with
  |some a0,some (a1,p1),some (a2,p2),some (a3,p3)=>some (1,(Ajm a0 a1 a2 a3).pk (AF nx),nx+1,AE nx (Ajl a0 a1 a2 a3)++o,p1++(p2++(p3++(Abe a0 a1 a2 a3))))
  |_,_,_,_=>none
 |_,_,_=>none
theorem A3g:Ft Try.prog 72 Yr:=fun args nx o k x nx' o' ps h=>by
 unfold Yr at h
 split at h<;>first|(cases h;done)|skip
 split at h<;>first|(cases h;done)|skip
 rename_i a0 a1 p1 a2 p2 a3 p3 e0 e1 e2 e3
 cases h
 refine⟨fun hp=>?_,_,rfl⟩
 have q1:=fun p hm=>hp p (List.mem_append.2 (.inl hm))
 have r1:=fun p hm=>hp p (List.mem_append.2 (.inr hm))
 have q2:=fun p hm=>r1 p (List.mem_append.2 (.inl hm))
 have r2:=fun p hm=>r1 p (List.mem_append.2 (.inr hm))
 have q3:=fun p hm=>r2 p (List.mem_append.2 (.inl hm))
 have r3:=fun p hm=>r2 p (List.mem_append.2 (.inr hm))
 refine Ah (Ag (A92 a0 a1 a2 a3 r3) (Nat.le_refl _) (Ac rfl (Ac (Af _ _) (Ac (Af _ _) (Ac (Af _ _) Ao)))) nx o) fun F N R vs hl=>?_
 obtain⟨v0,w0,rfl,h0,hl⟩:=hl.inv
 obtain⟨v1,w1,rfl,h1,hl⟩:=hl.inv
 obtain⟨v2,w2,rfl,h2,hl⟩:=hl.inv
 obtain⟨v3,w3,rfl,h3,hl⟩:=hl.inv
 exact HL.cons (BX e0 h0) (HL.cons (Am e1 q1 h1) (HL.cons (Am e2 q2 h2) (HL.cons (Am e3 q3 h3) (hl))))
noncomputable def B19:=A7 72 Yr B0x
theorem Bv9:Dd Try.prog B19:=Av A3g Bmb
noncomputable def Cs:=B19
theorem Bzd:Dd Try.prog Cs:=Bv9
end Go.Proofs.Yteebobbhhgmeiaa
namespace Go.Proofs.Yteebobbhhgmeiaa
open Go.RowKit
structure Stt (l:List TGroup) (rows:List TRow):Prop where
 rise:Og rows
 good:∀r∈rows,Ap l r=0∧FF r=false
theorem Bn0 {l:List TGroup} {rows:List TRow} (hp:AY l=0):EI l rows=0↔Stt l rows:=by
 constructor
 ·intro h
  have h2:=(Auj.1 h).2
  refine⟨Bx6 h2,fun r hr=>?_⟩
  obtain⟨i,hi,rfl⟩:=List.getElem_of_mem hr
  have:=Bh7.1 (h2 i hi)
  rw[Tj hi] at this
  exact⟨this.1,this.2.1⟩
 ·exact fun h=>A69 hp h.good h.rise
theorem Ajw (l:List TGroup):Stt l []:=⟨List.Pairwise.nil,fun r hr=>by cases hr⟩
theorem Stt.tail {l:List TGroup} {x:TRow} {a:List TRow} (h:Stt l (x::a)):Stt l a:=⟨(List.pairwise_cons.1 h.rise).2,fun r hr=>h.good r (List.mem_cons_of_mem _ hr)⟩
def ML (rows:List TRow) (k:ByteArray):Option TRow:=rows.find? fun r=>r.key==k
theorem CQ (x:TRow) (a:List TRow) (k:ByteArray):ML (x::a) k=if x.key=k then some x else ML a k:=by
 unfold ML
 rw[List.find?_cons]
 by_cases h:x.key=k
 ·rw[if_pos h,beq_iff_eq.2 h]
 ·rw[if_neg h,beq_eq_false_iff_ne.2 h]
theorem Bml {a:List TRow} {k:ByteArray} {r:TRow} (h:ML a k=some r):r.key=k:=by
 have:=List.find?_some h
 exact eq_of_beq this
theorem Bmm {a:List TRow} {k:ByteArray} {r:TRow} (h:ML a k=some r):r∈a:=List.mem_of_find?_eq_some h
theorem Brz {x:TRow} {a:List TRow} (h:Og (x::a)) {k:ByteArray} {r:TRow} (hf:ML a k=some r):IW x.key k=true:=by
 rw[←Bml hf]
 exact(List.pairwise_cons.1 h).1 r (Bmm hf)
theorem Bb8 {x:TRow} {a:List TRow} (h:Og (x::a)):ML a x.key=none:=by
 cases hf:ML a x.key with
 |none=>rfl
 |some r=>exact absurd rfl (TX (Brz h hf))
theorem Boy {a b:ByteArray} (h:IW a b=true):IW b a=false:=by
 cases g:IW b a with
 |false=>rfl
 |true=>exact absurd rfl (TX (KX h g))
theorem PP {x:TRow} {a:List TRow} (h:Og (x::a)) {k:ByteArray} (hk:IW k x.key=true):ML (x::a) k=none:=by
 rw[CQ,if_neg (fun e=>TX hk e.symm)]
 cases hf:ML a k with
 |none=>rfl
 |some r=>
  have:=Boy (Brz h hf)
  rw[hk] at this
  cases this
theorem A0g:∀{a b:List TRow},Og a→Og b→(∀k,ML a k=ML b k)→a=b
 | [],[],_,_,_=>rfl
 |x::a,[],_,_,h=>by
  have:=h x.key
  rw[CQ,if_pos rfl] at this
  cases this
 | [],y::b,_,_,h=>by
  have:=h y.key
  rw[CQ,if_pos rfl] at this
  cases this
 | x ::a,y::b,ha,hb,h=>by
  have hxy:x.key=y.key:=by
   cases h1:IW x.key y.key with
   |true=>
    have:=h x.key
    rw[CQ,if_pos rfl,PP hb h1] at this
    cases this
   | false=>
    cases h2:IW y.key x.key with
    |true=>
     have:=h y.key
     rw[PP ha h2,CQ,if_pos rfl] at this
     cases this
    |false=>
     by_cases e:x.key=y.key
     ·exact e
     ·rw[SN h1 e] at h2;cases h2
  have hx:x=y:=by
   have:=h x.key
   rw[CQ,if_pos rfl,CQ,if_pos hxy.symm] at this
   exact Option.some.inj this
  subst hx
  congr 1
  refine A0g (List.pairwise_cons.1 ha).2 (List.pairwise_cons.1 hb).2 fun k=>?_
  by_cases e:x.key=k
  ·subst e
   rw[Bb8 ha,Bb8 hb]
  ·have:=h k
   rwa[CQ,CQ,if_neg e,if_neg e] at this
def MY:Option TRow→Option TRow→Option TRow
 |some x,some y=>some (jnR x y)
 |some x,none=>some x
 |none,y=>y
theorem Al4 (x:Option TRow):MY x none=x:=by cases x<;>rfl
def mrg:Nat→List TRow→List TRow→List TRow
 |0,_,_=>[]
 |_+1,[],[]=>[]
 |n+1,x::a,[]=>x::mrg n a []
 |n+1,[],y::b=>y::mrg n [] b
 |n+1,x::a,y::b=>bif IW x.key y.key then x::mrg n a (y::b) else bif IW y.key x.key then y::mrg n (x::a) b else jnR x y::mrg n a b
theorem A7m {x y:ByteArray} (h1:IW x y=false) (h2:IW y x=false):x=y:=by
 by_cases e:x=y
 ·exact e
 ·rw[SN h1 e] at h2;cases h2
theorem Ko:∀(n:Nat) {a b:List TRow},Og a→Og b→a.length+b.length≤n→∀k,ML (mrg n a b) k=MY (ML a k) (ML b k)
 |0,a,b,_,_,hn,k=>by
  have h1:a=[]:=List.eq_nil_of_length_eq_zero (by omega)
  have h2:b=[]:=List.eq_nil_of_length_eq_zero (by omega)
  subst h1 h2
  rfl
 |n+1,[],[],_,_,_,k=>rfl
 |n+1,x::a,[],ha,hb,hn,k=>by
  have ih:=Ko n (List.pairwise_cons.1 ha).2 hb (by simp at hn⊢;omega) k
  show ML (x::mrg n a []) k=MY (ML (x::a) k) none
  have e:ML [] k=none:=rfl
  rw[CQ,CQ,ih,e,Al4,Al4]
 |n+1,[],y::b,ha,hb,hn,k=>by
  have ih:=Ko n ha (List.pairwise_cons.1 hb).2 (by simp at hn⊢;omega) k
  show ML (y::mrg n [] b) k=ML (y::b) k
  rw[CQ,CQ,ih]
  rfl
 | n +1,x::a,y::b,ha,hb,hn,k=>by
  simp only[List.length_cons] at hn
  show ML (bif IW x.key y.key then x::mrg n a (y::b) else bif IW y.key x.key then y::mrg n (x::a) b else jnR x y::mrg n a b) k=_
  cases h1:IW x.key y.key with
  | true=>
   have ih:=Ko n (List.pairwise_cons.1 ha).2 hb (by simp;omega) k
   rw[cond_true,CQ,ih,CQ x a]
   by_cases e:x.key=k
   ·rw[if_pos e,if_pos e,←e,PP hb h1]
    rfl
   ·rw[if_neg e,if_neg e]
  | false=>
   cases h2:IW y.key x.key with
   | true=>
    have ih:=Ko n ha (List.pairwise_cons.1 hb).2 (by simp;omega) k
    rw[cond_false,cond_true,CQ,ih,CQ y b]
    by_cases e:y.key=k
    ·rw[if_pos e,if_pos e,←e,PP ha h2]
     rfl
    ·rw[if_neg e,if_neg e]
   | false=>
    have hxy:=A7m h1 h2
    have ih:=Ko n (List.pairwise_cons.1 ha).2 (List.pairwise_cons.1 hb).2 (by omega) k
    rw[cond_false,cond_false,CQ,ih,CQ x a,CQ y b]
    show(if x.key=k then _ else _)=_
    by_cases e:x.key=k
    ·rw[if_pos e,if_pos e,if_pos (hxy▸e)]
     rfl
    ·rw[if_neg e,if_neg e,if_neg (hxy▸e)]
theorem Mq:∀(n:Nat) {a b:List TRow} {r:TRow},r∈mrg n a b→(∃x∈a,r.key=x.key)∨(∃y∈b,r.key=y.key)
 |0,_,_,r,h=>by cases h
 |n+1,[],[],r,h=>by cases h
 | n+1,x::a,[],r,h=>by
  rcases List.mem_cons.1 h with rfl|h
  ·exact .inl ⟨r,List.mem_cons_self ..,rfl⟩
  ·rcases Mq n h with⟨z,hz,e⟩|⟨z,hz,e⟩
   ·exact .inl ⟨z,List.mem_cons_of_mem _ hz,e⟩
   ·exact .inr ⟨z,hz,e⟩
 | n+1,[],y::b,r,h=>by
  rcases List.mem_cons.1 h with rfl|h
  ·exact .inr ⟨r,List.mem_cons_self ..,rfl⟩
  ·rcases Mq n h with⟨z,hz,e⟩|⟨z,hz,e⟩
   ·exact .inl ⟨z,hz,e⟩
   ·exact .inr ⟨z,List.mem_cons_of_mem _ hz,e⟩
 | n +1,x::a,y::b,r,h=>by
  have h':r∈(bif IW x.key y.key then x::mrg n a (y::b) else bif IW y.key x.key then y::mrg n (x::a) b else jnR x y::mrg n a b):=h
  cases h1:IW x.key y.key with
  | true=>
   rw[h1] at h'
   rcases List.mem_cons.1 h' with rfl|h'
   ·exact .inl ⟨r,List.mem_cons_self ..,rfl⟩
   ·rcases Mq n h' with⟨z,hz,e⟩|⟨z,hz,e⟩
    ·exact .inl ⟨z,List.mem_cons_of_mem _ hz,e⟩
    ·exact .inr ⟨z,hz,e⟩
  | false=>
   rw[h1] at h'
   cases h2:IW y.key x.key with
   | true=>
    rw[h2] at h'
    rcases List.mem_cons.1 h' with rfl|h'
    ·exact .inr ⟨r,List.mem_cons_self ..,rfl⟩
    ·rcases Mq n h' with⟨z,hz,e⟩|⟨z,hz,e⟩
     ·exact .inl ⟨z,hz,e⟩
     ·exact .inr ⟨z,List.mem_cons_of_mem _ hz,e⟩
   | false=>
    rw[h2] at h'
    rcases List.mem_cons.1 h' with rfl|h'
    ·exact .inl ⟨x,List.mem_cons_self ..,rfl⟩
    ·rcases Mq n h' with⟨z,hz,e⟩|⟨z,hz,e⟩
     ·exact .inl ⟨z,List.mem_cons_of_mem _ hz,e⟩
     ·exact .inr ⟨z,List.mem_cons_of_mem _ hz,e⟩
theorem MX:∀(n:Nat) {a b:List TRow},Og a→Og b→Og (mrg n a b)
 |0,_,_,_,_=>List.Pairwise.nil
 |n+1,[],[],_,_=>List.Pairwise.nil
 |n+1,x::a,[],ha,hb=>by
  refine List.pairwise_cons.2 ⟨fun r hr=>?_,MX n (List.pairwise_cons.1 ha).2 hb⟩
  rcases Mq n hr with⟨z,hz,e⟩|⟨z,hz,_⟩
  ·rw[e];exact(List.pairwise_cons.1 ha).1 z hz
  ·cases hz
 |n+1,[],y::b,ha,hb=>by
  refine List.pairwise_cons.2 ⟨fun r hr=>?_,MX n ha (List.pairwise_cons.1 hb).2⟩
  rcases Mq n hr with⟨z,hz,_⟩|⟨z,hz,e⟩
  ·cases hz
  ·rw[e];exact(List.pairwise_cons.1 hb).1 z hz
 | n +1,x::a,y::b,ha,hb=>by
  have a1:=List.pairwise_cons.1 ha
  have b1:=List.pairwise_cons.1 hb
  show Og (bif IW x.key y.key then x::mrg n a (y::b) else bif IW y.key x.key then y::mrg n (x::a) b else jnR x y::mrg n a b)
  cases h1:IW x.key y.key with
  | true=>
   refine List.pairwise_cons.2 ⟨fun r hr=>?_,MX n a1.2 hb⟩
   rcases Mq n hr with⟨z,hz,e⟩|⟨z,hz,e⟩
   ·rw[e];exact a1.1 z hz
   ·rw[e]
    rcases List.mem_cons.1 hz with rfl|hz
    ·exact h1
    ·exact KX h1 (b1.1 z hz)
  | false=>
   cases h2:IW y.key x.key with
   | true=>
    refine List.pairwise_cons.2 ⟨fun r hr=>?_,MX n ha b1.2⟩
    rcases Mq n hr with⟨z,hz,e⟩|⟨z,hz,e⟩
    ·rw[e]
     rcases List.mem_cons.1 hz with rfl|hz
     ·exact h2
     ·exact KX h2 (a1.1 z hz)
    ·rw[e];exact b1.1 z hz
   |false=>
    have hxy:=A7m h1 h2
    refine List.pairwise_cons.2 ⟨fun r hr=>?_,MX n a1.2 b1.2⟩
    show IW x.key r.key=true
    rcases Mq n hr with⟨z,hz,e⟩|⟨z,hz,e⟩
    ·rw[e];exact a1.1 z hz
    ·rw[e,hxy];exact b1.1 z hz
theorem Bvk {p:Int} {a:TCell} (h:BA p a=true):Kc zeroC a=a:=by
 rw[A08,Beg h]
 have:M9 zeroC.dead a.dead=a.dead:=by
  have:=(Bou.1 (A4h h))
  show TVec.mk (max 0 a.dead.a) (max 0 a.dead.b)=a.dead
  exact Bau (by show max 0 a.dead.a=a.dead.a;omega) (by show max 0 a.dead.b=a.dead.b;omega)
 rw[this]
 rfl
theorem Bg5 {p:Int} {a b:TCell} (h:BA p a=true) (e:Kc a b=zeroC):a=zeroC:=by
 have h1:Kc a (Kc a b)=Kc a b:=by rw[←A5t,Bg6 h]
 rw[e,Bg4,Bvk h] at h1
 exact h1
theorem Bcb {r:TRow}:FF r=true↔∀i,i <r.cells.length→Gj r.cells i=zeroC:=by
 unfold FF
 rw[List.all_eq_true]
 constructor
 ·intro h i hi
  have e:Gj r.cells i=r.cells[i]:=by unfold Gj;rw[List.getD_eq_getElem?_getD,List.getElem?_eq_getElem hi];rfl
  rw[e]
  exact Aga.1 (h _ (List.getElem_mem hi))
 ·intro h c hc
  obtain⟨i,hi,rfl⟩:=List.getElem_of_mem hc
  have e:Gj r.cells i=r.cells[i]:=by unfold Gj;rw[List.getD_eq_getElem?_getD,List.getElem?_eq_getElem hi];rfl
  rw[←e]
  exact Aga.2 (h i hi)
theorem Btc {l:List TGroup} {a b:TRow} (ha:Ap l a=0) (hb:Ap l b=0) (h:FF a=false):FF (jnR a b)=false:=by
 cases hj:FF (jnR a b) with
 |false=>rfl
 | true=>
  have h1:=Bcb.1 hj
  have hl:=(AS ha).2.1
  have:FF a=true:=Bcb.2 fun i hi=>by
   have h2:=h1 i (by rw[P6 (b:=b) ha];omega)
   rw[TN ha hb (by omega)] at h2
   exact Bg5 (Jw ha (by omega)) h2
  rw[h] at this
  cases this
theorem YY {l:List TGroup}:∀(n:Nat) {a b:List TRow},Stt l a→Stt l b→∀r∈mrg n a b,Ap l r=0∧FF r=false
 |0,_,_,_,_,r,hr=>by cases hr
 |n+1,[],[],_,_,r,hr=>by cases hr
 |n+1,x::a,[],ha,hb,r,hr=>by
  rcases List.mem_cons.1 hr with rfl|hr
  ·exact ha.good r (List.mem_cons_self ..)
  ·exact YY n ha.tail hb r hr
 |n+1,[],y::b,ha,hb,r,hr=>by
  rcases List.mem_cons.1 hr with rfl|hr
  ·exact hb.good r (List.mem_cons_self ..)
  ·exact YY n ha hb.tail r hr
 | n +1,x::a,y::b,ha,hb,r,hr=>by
  have hr':r∈(bif IW x.key y.key then x::mrg n a (y::b) else bif IW y.key x.key then y::mrg n (x::a) b else jnR x y::mrg n a b):=hr
  cases h1:IW x.key y.key with
  |true=>
   rw[h1] at hr'
   rcases List.mem_cons.1 hr' with rfl|hr'
   ·exact ha.good r (List.mem_cons_self ..)
   ·exact YY n ha.tail hb r hr'
  | false=>
   rw[h1] at hr'
   cases h2:IW y.key x.key with
   |true=>
    rw[h2] at hr'
    rcases List.mem_cons.1 hr' with rfl|hr'
    ·exact hb.good r (List.mem_cons_self ..)
    ·exact YY n ha hb.tail r hr'
   | false=>
    rw[h2] at hr'
    rcases List.mem_cons.1 hr' with rfl|hr'
    ·obtain⟨g1,g2⟩:=ha.good x (List.mem_cons_self ..)
     obtain⟨g3,_⟩:=hb.good y (List.mem_cons_self ..)
     exact⟨Wo g1 g3,Btc g1 g3 g2⟩
    ·exact YY n ha.tail hb.tail r hr'
theorem Stt.mrg {l:List TGroup} {a b:List TRow} (n:Nat) (ha:Stt l a) (hb:Stt l b):Stt l (Go.Proofs.Yteebobbhhgmeiaa.mrg n a b):=⟨MX n ha.rise hb.rise,YY n ha hb⟩
theorem Bry {l:List TGroup} {a:List TRow} (h:Stt l a) {k:ByteArray} {r:TRow} (hr:ML a k=some r):Ap l r=0∧FF r=false:=h.good r (Bmm hr)
def OkO (l:List TGroup) (k:ByteArray):Option TRow→Prop
 |none=>True
 |some r=>Ap l r=0∧r.key=k
theorem Ber {l:List TGroup} {k:ByteArray} {x y:Option TRow} (hx:OkO l k x) (hy:OkO l k y):OkO l k (MY x y):=by
 cases x<;>cases y<;>first|trivial|exact hx|exact hy|exact⟨Wo hx.1 hy.1,hx.2⟩
theorem A45 {l:List TGroup} {k:ByteArray} {x y:Option TRow} (hx:OkO l k x) (hy:OkO l k y):MY x y=MY y x:=by
 cases x<;>cases y<;>first|rfl|exact congrArg some (Bw9 hx.1 hy.1 (hx.2.trans hy.2.symm))
theorem T8 {l:List TGroup} {k:ByteArray} {x y z:Option TRow} (hx:OkO l k x) (hy:OkO l k y) (hz:OkO l k z):MY (MY x y) z=MY x (MY y z):=by
 cases x<;>cases y<;>cases z<;>first|rfl|exact congrArg some (Btd hx.1 hy.1 hz.1)
theorem A46 {l:List TGroup} {k:ByteArray} {x:Option TRow} (hx:OkO l k x):MY x x=x:=by
 cases x with
 |none=>rfl
 |some r=>exact congrArg some (Bxa hx.1)
theorem Xp {l:List TGroup} {a:List TRow} (h:Stt l a) (k:ByteArray):OkO l k (ML a k):=by
 cases hr:ML a k with
 |none=>trivial
 |some r=>exact⟨(Bry h hr).1,Bml hr⟩
end Go.Proofs.Yteebobbhhgmeiaa
namespace Go.Proofs.Yteebobbhhgmeiaa
open Go.RowKit
theorem Bnq {X:Type} (mk:Nat→X) (n:Nat) (next:X→X) (goes:X→Cnd) (ps:X→List Prop) (f:Nat) (x:X) (hx:x=mk 0) (hf:n≤f)
  (hg:∀i,i≤n→Bq (goes (mk i))=decide (i <n)) (hn:∀i,i <n→next (mk i)=mk (i+1)) (hp:∀i,i≤n→∀p∈ps (mk i),p):
  AL next goes ps f x∧Bg next goes f x=mk n:=by
 obtain⟨h1,k,hk,hx,_,hst,_⟩:=IJ mk n (fun _=>false) next goes ps f x hx hf (fun i hi _=>by rw[hg i hi,Bool.not_false,Bool.and_true]) (fun i hi _=>hn i hi) (fun i hi _=>hp i hi)
 have hkn:k=n:=by
  rcases Nat.lt_or_ge k n with h|h
  ·exact absurd (hst h) (by decide)
  ·omega
 subst hkn
 exact⟨h1,hx⟩
theorem Bii (n:Nat):((n:Int)==(0:Int))=(n==0):=by
 rw[Bool.eq_iff_iff,beq_iff_eq,beq_iff_eq]
 omega
theorem Ajy {α:Type} (l:List α) (d:α) (i:Nat) (h:i <l.length):l.take (i+1)=l.take i++[l.getD i d]:=by
 rw[List.take_add_one,List.getD_eq_getElem?_getD,List.getElem?_eq_getElem h]
 rfl
def Bnz (r:TRow) (s:List TRow×Bool) (x:TRow):List TRow×Bool:=
 ((bif !s.2&&!IW x.key r.key then s.1++[r] else s.1)++(bif x.key==r.key then[] else[x]),s.2||!IW x.key r.key)
def LR (r:TRow) (l:List TRow) (i:Nat):List TRow×Bool:=(l.take i).foldl (Bnz r) ([],false)
theorem A5g (r:TRow) (l:List TRow) (i:Nat) (h:i <l.length):LR r l (i+1)=Bnz r (LR r l i) (BJ l i):=by
 unfold LR
 rw[Ajy l (Ae TC.row) i h,List.foldl_append]
 rfl
def B2l (r:TRow) (s:List TRow×Bool):List TRow:=bif s.2 then s.1 else s.1++[r]
theorem Bpx (r:TRow) (s:List TRow×Bool) (x:TRow):(Bnz r s x).1.length≤s.1.length+2:=by
 unfold Bnz
 rw[List.length_append]
 cases !s.2&&!IW x.key r.key<;>cases x.key==r.key<;>simp
theorem A0u (r:TRow) (l:List TRow):∀i,i≤l.length→(LR r l i).1.length≤2*i
 |0,_=>Nat.le_refl _
 |i+1,h=>by
  have ih:=A0u r l i (by omega)
  rw[A5g r l i (by omega)]
  have:=Bpx r (LR r l i) (BJ l i)
  omega
theorem Bb9 (key:ByteArray):∀(l:List TRow) (k:Nat),k≤l.length→(∀j,j <k→((BJ l j).key==key)=false)→(k <l.length→((BJ l k).key==key)=true)→ML l key=if k <l.length then some (BJ l k) else none
 | [],k,_,_,_=>(if_neg (Nat.not_lt_zero k)).symm
 |x::a,0,_,_,h=>by
  have h2:(x.key==key)=true:=h (Nat.zero_lt_succ _)
  rw[CQ,if_pos (eq_of_beq h2)]
  exact(if_pos (Nat.zero_lt_succ a.length)).symm
 | x::a,k+1,hk,h0,h=>by
  have h2:(x.key==key)=false:=h0 0 (Nat.zero_lt_succ _)
  rw[CQ,if_neg (by simpa using h2),Bb9 key a k (Nat.le_of_succ_le_succ hk) (fun j hj=>h0 (j+1) (Nat.succ_lt_succ hj)) (fun hk=>h (Nat.succ_lt_succ hk))]
  by_cases hl:k <a.length
  ·rw[if_pos hl]
   exact(if_pos (show k+1 <(x::a).length from Nat.succ_lt_succ hl)).symm
  ·rw[if_neg hl]
   exact(if_neg (show ¬k+1 <(x::a).length from fun h=>hl (Nat.lt_of_succ_lt_succ h))).symm
theorem T4:∀(n:Nat) (a b:List TRow),(mrg n a b).length≤a.length+b.length
 |0,_,_=>Nat.zero_le _
 |_+1,[],[]=>Nat.zero_le _
 |n+1,x::a,[]=>by
  have:=T4 n a []
  show(x::mrg n a []).length≤_
  rw[List.length_cons,List.length_cons]
  omega
 |n+1,[],y::b=>by
  have:=T4 n [] b
  show(y::mrg n [] b).length≤_
  rw[List.length_cons,List.length_cons]
  omega
 | n+1,x::a,y::b=>by
  unfold mrg
  cases IW x.key y.key with
  |true=>
   have:=T4 n a (y::b)
   rw[cond_true,List.length_cons,List.length_cons]
   omega
  | false=>
   cases IW y.key x.key with
   |true=>
    have:=T4 n (x::a) b
    rw[cond_false,cond_true,List.length_cons]
    simp only[List.length_cons] at this⊢
    omega
   |false=>
    have:=T4 n a b
    rw[cond_false,cond_false,List.length_cons,List.length_cons,List.length_cons]
    omega
end Go.Proofs.Yteebobbhhgmeiaa
namespace Go.Proofs.Yteebobbhhgmeiaa
open Go.RowKit
theorem A4c {P:Program} {f:FuncId} {args:List A} {k:Nat} {e:TypeId} {c:TC} {l:List (U c)} (h:CallOk P f args 0 [] k (.sq 0) 1 [(0,some (.arr e (size c) (.ty c l)))]):CallOk P f args 0 [] k (.sl c l) 0 []:=fun F N R vs hh ha=>
 Calls.mono (P:=P) (h F N R vs hh ha) fun e0 R' ⟨y,F',N',e1,e2,e3,e4,e5⟩=>by
  obtain⟨_,rfl⟩:=e4.sq_inv
  have hob:=e2.ob 0 _ rfl
  obtain⟨_,zs,g1,g2⟩:=id hob
  have hn:∀i j,i <1→(fun _=>none:Nat→Option Nat) i=some j→j <0∧N'.b j=N'.b i∧N'.q j=N'.q i:=fun i j _ hj=>by cases hj
  have hw:Ext F' N' 1 R' (fun g=>F' g∨CR (N'.q 0)=some g) N' 1 R':=Ext.wide fun g hg=> .inl hg
  have q1:=(Y5 (F':=fun g=>F' g∨CR (N'.q 0)=some g) (N:=N') (nx:=1) g1 (fun k hk=>(g2 k hk).step hw) (fun g hg=> .inr hg)).1
  have q2:=Hv.pk (N':=N') (nx':=0) (ρ:=fun _=>none) hn q1
  refine⟨N'.q 0,fun g=>F' g∨CR (N'.q 0)=some g,N',e1,⟨fun g hg=>?_,fun i ob hi=>(by cases hi),fun i ob g hi=>(by cases hi),fun i j x y g hi=>(by cases hi)⟩,⟨Nat.le_refl _,fun i hi=>absurd hi (Nat.not_lt_zero _),fun i hi=>absurd hi (Nat.not_lt_zero _),fun g hg=> .inl (e3.f g hg),fun g hg=>?_,fun g ⟨i,ob,hi,_⟩=>(by cases hi),e3.os,e3.tape,e3.output,e3.size,e3.keep⟩,q2,e5⟩
  ·rcases hg with hg|hg
   ·exact e2.flt g hg
   ·exact hob.2.lt hg
  ·rcases hg with hg|hg
   ·exact e3.fnew g hg
   ·rcases e3.foot g ⟨0,_,rfl,hg⟩ with h|h
    ·exact .inr (.inl h)
    ·exact .inr (.inr h)
end Go.Proofs.Yteebobbhhgmeiaa
namespace Go.Proofs.Yteebobbhhgmeiaa
open Go.RowKit
def Xb (a0:TRow):List TCell:=[]++a0.2
def Xd (a0:TRow):A:=.agg [.v (.string a0.1),.sq 0]
def Xc (a0:TRow):Objs:=[(0,some (.arr 55 8 (.ty .cell (Xb a0))))]
def Ah0 (a0:TRow):List Prop:=[(Ai ((0:Nat)+a0.2.length))]
theorem A8g (a0:TRow):EQ (AA Cs L0) 9 170 [Ak .row a0] 0 []=some (1,Xd a0,1,Xc a0,[(Ai ((0:Nat)+a0.2.length))]):=by kernel_rfl
theorem Bel (a0:TRow) (hp:∀p∈Ah0 a0,p):CallOk Try.prog 170 [Ak .row a0] 0 [] 1 (Xd a0) 1 (Xc a0):=by
 have n0:=N0 hp
 exact AI (Aw Bzd AH) (A8g a0) (Aa n0 Ab)
def Xe:List A→Nat→Objs→Option Bb
 | [y0],nx,o=>match AQ .row y0 with
  |some (a0,p0)=>some (1,(Xd a0).pk (AF nx),nx+1,AE nx (Xc a0)++o,p0++(Ah0 a0))
  |_=>none
 |_,_,_=>none
theorem A2c:Ft Try.prog 170 Xe:=fun args nx o k x nx' o' ps h=>by
 unfold Xe at h
 split at h<;>first|(cases h;done)|skip
 split at h<;>first|(cases h;done)|skip
 rename_i a0 p0 e0
 cases h
 refine⟨fun hp=>?_,_,rfl⟩
 have q0:=fun p hm=>hp p (List.mem_append.2 (.inl hm))
 have r0:=fun p hm=>hp p (List.mem_append.2 (.inr hm))
 refine Ah (Ag (Bel a0 r0) (Nat.le_refl _) (Ac (Af _ _) Ao) nx o) fun F N R vs hl=>?_
 obtain⟨v0,w0,rfl,h0,hl⟩:=hl.inv
 exact HL.cons (Am e0 q0 h0) (hl)
noncomputable def Bbm:=A7 170 Xe Cs
theorem Auu:Dd Try.prog Bbm:=Av A2c Bzd
abbrev BQ:Type:=(List TGroup)×(List TRow)×(List TRow)×(List TRow)
def J6 (x:BQ):St:=⟨91,2,[(0,.sl .group x.1),(1,.sl .row x.2.1),(2,.sl .row x.2.2.1),(6,.dq 1)],[(1,some (.deep 71 .row x.2.2.2))]⟩
def Lz:St→Option BQ
 |⟨91,2,[(0,.sl .group z0),(1,.sl .row z1),(2,.sl .row z2),(6,.dq 1)],[(1,some (.deep 71 .row z3))]⟩=>some (z0,z1,z2,z3)
 |_=>none
theorem Zp:∀s x,Lz s=some x→s=J6 x:=fun s x h=>by
 unfold Lz at h
 split at h
 ·cases h;rfl
 ·cases h
def SV:Dj:=⟨1,2,[0,1,2,6],[],[(7,1)],[7],[6],[1]⟩
def Alu:DB:=⟨[.nilD 6 71 .row],[(0,1)],[0,1,2,6],[0]⟩
def AD (_a0:List TGroup) (a1:List TRow) (a2:List TRow) (_a3:List TRow):Bool:=(↑a1.length:Int)==(0:Int)||Op.bytesLess (a2.getD (0:Nat) (Ae TC.row)).1.toList (a1.getD (0:Nat) (Ae TC.row)).1.toList
def Gq (_a0:List TGroup) (_a1:List TRow) (a2:List TRow) (_a3:List TRow):List TRow:=List.take ((↑a2.length:Int).toNat - (1:Nat)) (List.drop (1:Nat) a2)
def Gp (_a0:List TGroup) (a1:List TRow) (_a2:List TRow) (_a3:List TRow):List TRow:=List.take ((↑a1.length:Int).toNat - (1:Nat)) (List.drop (1:Nat) a1)
def An (_a0:List TGroup) (a1:List TRow) (a2:List TRow) (_a3:List TRow):Bool:=(↑a1.length:Int)==(0:Int)&&(↑a2.length:Int)==(0:Int)
def Aq (_a0:List TGroup) (a1:List TRow) (a2:List TRow) (_a3:List TRow):Bool:=(↑a2.length:Int)==(0:Int)||decide ((↑a1.length:Int) >(0:Int))&&Op.bytesLess (a1.getD (0:Nat) (Ae TC.row)).1.toList (a2.getD (0:Nat) (Ae TC.row)).1.toList
def BZ (a0:List TGroup) (a1:List TRow) (a2:List TRow) (a3:List TRow):List TRow:=bif(Aq a0 a1 a2 a3) then(Gp a0 a1 a2 a3) else bif(AD a0 a1 a2 a3) then a1 else(Gp a0 a1 a2 a3)
def B5 (a0:List TGroup) (a1:List TRow) (a2:List TRow) (a3:List TRow):List TRow:=bif(Aq a0 a1 a2 a3) then a2 else bif(AD a0 a1 a2 a3) then(Gq a0 a1 a2 a3) else(Gq a0 a1 a2 a3)
def B8 (a0:List TGroup) (a1:List TRow) (a2:List TRow) (a3:List TRow):List TRow:=bif(Aq a0 a1 a2 a3) then a3++[ZD TC.row TC.cell (TRow.mk (a1.getD (0:Nat) (Ae TC.row)).1 []) (Xb (a1.getD (0:Nat) (Ae TC.row)))] else bif(AD a0 a1 a2 a3) then a3++[ZD TC.row TC.cell (TRow.mk (a2.getD (0:Nat) (Ae TC.row)).1 []) (Xb (a2.getD (0:Nat) (Ae TC.row)))] else a3++[ZD TC.row TC.cell (TRow.mk (jnK a0 (a1.getD (0:Nat) (Ae TC.row)) (a2.getD (0:Nat) (Ae TC.row))) []) (jnL a0 (a1.getD (0:Nat) (Ae TC.row)) (a2.getD (0:Nat) (Ae TC.row)))]
def A1 (x:BQ):BQ:=(x.1,BZ x.1 x.2.1 x.2.2.1 x.2.2.2,B5 x.1 x.2.1 x.2.2.1 x.2.2.2,B8 x.1 x.2.1 x.2.2.1 x.2.2.2)
def AZ (x:BQ):Cnd:=some (!(An x.1 x.2.1 x.2.2.1 x.2.2.2))
def O0 (x:BQ):List Prop:=[((An x.1 x.2.1 x.2.2.1 x.2.2.2)=false→decide ((↑x.2.1.length:Int) >(0:Int))=true→((↑x.2.2.1.length:Int)==(0:Int))=false→(0:Int)≤(0:Int)∧(0:Int) <(↑x.2.1.length:Int)),((An x.1 x.2.1 x.2.2.1 x.2.2.2)=false→decide ((↑x.2.1.length:Int) >(0:Int))=true→((↑x.2.2.1.length:Int)==(0:Int))=false→(0:Int)≤(0:Int)∧(0:Int) <(↑x.2.2.1.length:Int)),((An x.1 x.2.1 x.2.2.1 x.2.2.2)=false→(Aq x.1 x.2.1 x.2.2.1 x.2.2.2)=true→(0:Int)≤(0:Int)∧(0:Int) <(↑x.2.1.length:Int)),((An x.1 x.2.1 x.2.2.1 x.2.2.2)=false→(Aq x.1 x.2.1 x.2.2.1 x.2.2.2)=true→Ai ((0:Nat)+(x.2.1.getD (0:Nat) (Ae TC.row)).2.length)),((An x.1 x.2.1 x.2.2.1 x.2.2.2)=false→(Aq x.1 x.2.1 x.2.2.1 x.2.2.2)=true→Ai (x.2.2.2.length+(1:Nat))),((An x.1 x.2.1 x.2.2.1 x.2.2.2)=false→(Aq x.1 x.2.1 x.2.2.1 x.2.2.2)=true→(0:Int)≤(1:Int)∧(1:Int)≤(↑x.2.1.length:Int)∧(↑x.2.1.length:Int)≤(↑x.2.1.length:Int)),((An x.1 x.2.1 x.2.2.1 x.2.2.2)=false→(Aq x.1 x.2.1 x.2.2.1 x.2.2.2)=false→((↑x.2.1.length:Int)==(0:Int))=false→(0:Int)≤(0:Int)∧(0:Int) <(↑x.2.2.1.length:Int)),((An x.1 x.2.1 x.2.2.1 x.2.2.2)=false→(Aq x.1 x.2.1 x.2.2.1 x.2.2.2)=false→((↑x.2.1.length:Int)==(0:Int))=false→(0:Int)≤(0:Int)∧(0:Int) <(↑x.2.1.length:Int)),((An x.1 x.2.1 x.2.2.1 x.2.2.2)=false→(Aq x.1 x.2.1 x.2.2.1 x.2.2.2)=false→(AD x.1 x.2.1 x.2.2.1 x.2.2.2)=true→(0:Int)≤(0:Int)∧(0:Int) <(↑x.2.2.1.length:Int)),((An x.1 x.2.1 x.2.2.1 x.2.2.2)=false→(Aq x.1 x.2.1 x.2.2.1 x.2.2.2)=false→(AD x.1 x.2.1 x.2.2.1 x.2.2.2)=true→Ai ((0:Nat)+(x.2.2.1.getD (0:Nat) (Ae TC.row)).2.length)),((An x.1 x.2.1 x.2.2.1 x.2.2.2)=false→(Aq x.1 x.2.1 x.2.2.1 x.2.2.2)=false→(AD x.1 x.2.1 x.2.2.1 x.2.2.2)=true→Ai (x.2.2.2.length+(1:Nat))),((An x.1 x.2.1 x.2.2.1 x.2.2.2)=false→(Aq x.1 x.2.1 x.2.2.1 x.2.2.2)=false→(AD x.1 x.2.1 x.2.2.1 x.2.2.2)=true→(0:Int)≤(1:Int)∧(1:Int)≤(↑x.2.2.1.length:Int)∧(↑x.2.2.1.length:Int)≤(↑x.2.2.1.length:Int)),((An x.1 x.2.1 x.2.2.1 x.2.2.2)=false→(Aq x.1 x.2.1 x.2.2.1 x.2.2.2)=false→(AD x.1 x.2.1 x.2.2.1 x.2.2.2)=false→(0:Int)≤(0:Int)∧(0:Int) <(↑x.2.1.length:Int)),((An x.1 x.2.1 x.2.2.1 x.2.2.2)=false→(Aq x.1 x.2.1 x.2.2.1 x.2.2.2)=false→(AD x.1 x.2.1 x.2.2.1 x.2.2.2)=false→(0:Int)≤(0:Int)∧(0:Int) <(↑x.2.2.1.length:Int)),((An x.1 x.2.1 x.2.2.1 x.2.2.2)=false→(Aq x.1 x.2.1 x.2.2.1 x.2.2.2)=false→(AD x.1 x.2.1 x.2.2.1 x.2.2.2)=false→Ai (x.2.2.2.length+(1:Nat))),((An x.1 x.2.1 x.2.2.1 x.2.2.2)=false→(Aq x.1 x.2.1 x.2.2.1 x.2.2.2)=false→(AD x.1 x.2.1 x.2.2.1 x.2.2.2)=false→(0:Int)≤(1:Int)∧(1:Int)≤(↑x.2.1.length:Int)∧(↑x.2.1.length:Int)≤(↑x.2.1.length:Int)),((An x.1 x.2.1 x.2.2.1 x.2.2.2)=false→(Aq x.1 x.2.1 x.2.2.1 x.2.2.2)=false→(AD x.1 x.2.1 x.2.2.1 x.2.2.2)=false→(0:Int)≤(1:Int)∧(1:Int)≤(↑x.2.2.1.length:Int)∧(↑x.2.2.1.length:Int)≤(↑x.2.2.1.length:Int))]
def Er (x:BQ):List Prop:=[((An x.1 x.2.1 x.2.2.1 x.2.2.2)=false→decide ((↑x.2.1.length:Int) >(0:Int))=true→((↑x.2.2.1.length:Int)==(0:Int))=false→(0:Int)≤(0:Int)∧(0:Int) <(↑x.2.1.length:Int)),((An x.1 x.2.1 x.2.2.1 x.2.2.2)=false→decide ((↑x.2.1.length:Int) >(0:Int))=true→((↑x.2.2.1.length:Int)==(0:Int))=false→(0:Int)≤(0:Int)∧(0:Int) <(↑x.2.2.1.length:Int)),((An x.1 x.2.1 x.2.2.1 x.2.2.2)=false→(Aq x.1 x.2.1 x.2.2.1 x.2.2.2)=true→(0:Int)≤(0:Int)∧(0:Int) <(↑x.2.1.length:Int)),((An x.1 x.2.1 x.2.2.1 x.2.2.2)=false→(Aq x.1 x.2.1 x.2.2.1 x.2.2.2)=true→Ai ((0:Nat)+(x.2.1.getD (0:Nat) (Ae TC.row)).2.length)),((An x.1 x.2.1 x.2.2.1 x.2.2.2)=false→(Aq x.1 x.2.1 x.2.2.1 x.2.2.2)=true→Ai (x.2.2.2.length+(1:Nat))),((An x.1 x.2.1 x.2.2.1 x.2.2.2)=false→(Aq x.1 x.2.1 x.2.2.1 x.2.2.2)=true→(0:Int)≤(1:Int)∧(1:Int)≤(↑x.2.1.length:Int)∧(↑x.2.1.length:Int)≤(↑x.2.1.length:Int)),((An x.1 x.2.1 x.2.2.1 x.2.2.2)=false→(Aq x.1 x.2.1 x.2.2.1 x.2.2.2)=false→((↑x.2.1.length:Int)==(0:Int))=false→(0:Int)≤(0:Int)∧(0:Int) <(↑x.2.2.1.length:Int)),((An x.1 x.2.1 x.2.2.1 x.2.2.2)=false→(Aq x.1 x.2.1 x.2.2.1 x.2.2.2)=false→((↑x.2.1.length:Int)==(0:Int))=false→(0:Int)≤(0:Int)∧(0:Int) <(↑x.2.1.length:Int)),((An x.1 x.2.1 x.2.2.1 x.2.2.2)=false→(Aq x.1 x.2.1 x.2.2.1 x.2.2.2)=false→(AD x.1 x.2.1 x.2.2.1 x.2.2.2)=true→(0:Int)≤(0:Int)∧(0:Int) <(↑x.2.2.1.length:Int)),((An x.1 x.2.1 x.2.2.1 x.2.2.2)=false→(Aq x.1 x.2.1 x.2.2.1 x.2.2.2)=false→(AD x.1 x.2.1 x.2.2.1 x.2.2.2)=true→Ai ((0:Nat)+(x.2.2.1.getD (0:Nat) (Ae TC.row)).2.length)),((An x.1 x.2.1 x.2.2.1 x.2.2.2)=false→(Aq x.1 x.2.1 x.2.2.1 x.2.2.2)=false→(AD x.1 x.2.1 x.2.2.1 x.2.2.2)=true→Ai (x.2.2.2.length+(1:Nat))),((An x.1 x.2.1 x.2.2.1 x.2.2.2)=false→(Aq x.1 x.2.1 x.2.2.1 x.2.2.2)=false→(AD x.1 x.2.1 x.2.2.1 x.2.2.2)=true→(0:Int)≤(1:Int)∧(1:Int)≤(↑x.2.2.1.length:Int)∧(↑x.2.2.1.length:Int)≤(↑x.2.2.1.length:Int)),((An x.1 x.2.1 x.2.2.1 x.2.2.2)=false→(Aq x.1 x.2.1 x.2.2.1 x.2.2.2)=false→(AD x.1 x.2.1 x.2.2.1 x.2.2.2)=false→(0:Int)≤(0:Int)∧(0:Int) <(↑x.2.1.length:Int)),((An x.1 x.2.1 x.2.2.1 x.2.2.2)=false→(Aq x.1 x.2.1 x.2.2.1 x.2.2.2)=false→(AD x.1 x.2.1 x.2.2.1 x.2.2.2)=false→(0:Int)≤(0:Int)∧(0:Int) <(↑x.2.2.1.length:Int)),((An x.1 x.2.1 x.2.2.1 x.2.2.2)=false→(Aq x.1 x.2.1 x.2.2.1 x.2.2.2)=false→(AD x.1 x.2.1 x.2.2.1 x.2.2.2)=false→Ai (x.2.2.2.length+(1:Nat))),((An x.1 x.2.1 x.2.2.1 x.2.2.2)=false→(Aq x.1 x.2.1 x.2.2.1 x.2.2.2)=false→(AD x.1 x.2.1 x.2.2.1 x.2.2.2)=false→(0:Int)≤(1:Int)∧(1:Int)≤(↑x.2.1.length:Int)∧(↑x.2.1.length:Int)≤(↑x.2.1.length:Int)),((An x.1 x.2.1 x.2.2.1 x.2.2.2)=false→(Aq x.1 x.2.1 x.2.2.1 x.2.2.2)=false→(AD x.1 x.2.1 x.2.2.1 x.2.2.2)=false→(0:Int)≤(1:Int)∧(1:Int)≤(↑x.2.2.1.length:Int)∧(↑x.2.2.1.length:Int)≤(↑x.2.2.1.length:Int))]
def NG (x:BQ):Bo:=[(some 0,some ((An x.1 x.2.1 x.2.2.1 x.2.2.2)),⟨91,2,[(6,.dq 1)],[(1,some (.deep 71 .row x.2.2.2))]⟩)]
def H4 (x:BQ):Nat:=x.2.1.length+x.2.2.1.length
def Acs (x:BQ):BQ:=Bg A1 AZ (H4 x) x
theorem Ahy (a0:List TGroup) (a1:List TRow) (a2:List TRow) (a3:List TRow):Bz (AA Bbm L0) 9 (Aj Try.prog 143 0) SV (J6 (a0,a1,a2,a3))=some (O0 (a0,a1,a2,a3),NG (a0,a1,a2,a3),AZ (a0,a1,a2,a3),J6 (A1 (a0,a1,a2,a3))):=by kernel_rfl
theorem Ahz (a0:List TGroup) (a1:List TRow) (a2:List TRow) (a3:List TRow) (hp:∀p∈Er (a0,a1,a2,a3),p):∀p∈O0 (a0,a1,a2,a3),p:=by
 have n0:=N0 hp
 have n1:=N0 (N1 hp)
 have n2:=N0 (N1 (N1 hp))
 have n3:=N0 (N1 (N1 (N1 hp)))
 have n4:=N0 (N1 (N1 (N1 (N1 hp))))
 have n5:=N0 (N1 (N1 (N1 (N1 (N1 hp)))))
 have n6:=N0 (N1 (N1 (N1 (N1 (N1 (N1 hp))))))
 have n7:=N0 (N1 (N1 (N1 (N1 (N1 (N1 (N1 hp)))))))
 have n8:=N0 (N1 (N1 (N1 (N1 (N1 (N1 (N1 (N1 hp))))))))
 have n9:=N0 (N1 (N1 (N1 (N1 (N1 (N1 (N1 (N1 (N1 hp)))))))))
 have n10:=N0 (N1 (N1 (N1 (N1 (N1 (N1 (N1 (N1 (N1 (N1 hp))))))))))
 have n11:=N0 (N1 (N1 (N1 (N1 (N1 (N1 (N1 (N1 (N1 (N1 (N1 hp)))))))))))
 have n12:=N0 (N1 (N1 (N1 (N1 (N1 (N1 (N1 (N1 (N1 (N1 (N1 (N1 hp))))))))))))
 have n13:=N0 (N1 (N1 (N1 (N1 (N1 (N1 (N1 (N1 (N1 (N1 (N1 (N1 (N1 hp)))))))))))))
 have n14:=N0 (N1 (N1 (N1 (N1 (N1 (N1 (N1 (N1 (N1 (N1 (N1 (N1 (N1 (N1 hp))))))))))))))
 have n15:=N0 (N1 (N1 (N1 (N1 (N1 (N1 (N1 (N1 (N1 (N1 (N1 (N1 (N1 (N1 (N1 hp)))))))))))))))
 have n16:=N0 (N1 (N1 (N1 (N1 (N1 (N1 (N1 (N1 (N1 (N1 (N1 (N1 (N1 (N1 (N1 (N1 hp))))))))))))))))
 exact(Aa n0 (Aa n1 (Aa n2 (Aa n3 (Aa n4 (Aa n5 (Aa n6 (Aa n7 (Aa n8 (Aa n9 (Aa n10 (Aa n11 (Aa n12 (Aa n13 (Aa n14 (Aa n15 (Aa n16 Ab)))))))))))))))))
noncomputable def O1:=H1 (AA Bbm L0) (Aj Try.prog 143 0) SV Alu Lz H4 A1 AZ Er NG
theorem Acr:∀s b ps outs,O1 s=some (b,ps,outs)→Wf s ⟨ps,outs,none⟩∧Bx (AA C0 L0) b s ps outs:=
 Bm (T:=J6) Auu AH (u:=9) (by kernel_rfl) (by decide) (fun⟨a0,a1,a2,a3⟩=>Ahy a0 a1 a2 a3) (fun⟨a0,a1,a2,a3⟩=>Ahz a0 a1 a2 a3) Zp (fun _=>AW (n:=91) rfl) fun _ _=>rfl
noncomputable def SU:=DP 0 O1 L0
theorem Acq:Hr SU:=A6 Acr AH
def Z6 (a0:List TGroup) (a1:List TRow) (a2:List TRow):List TRow:=(Acs (a0,a1,a2,[])).snd.snd.snd
def Z7 (_a0:List TGroup) (_a1:List TRow) (_a2:List TRow):A:=.dq 0
def Ro (a0:List TGroup) (a1:List TRow) (a2:List TRow):Objs:=[(0,some (.deep 71 .row (Z6 a0 a1 a2)))]
def Axk (a0:List TGroup) (a1:List TRow) (a2:List TRow):List Prop:=[(AL A1 AZ Er (H4 (a0,a1,a2,[])) (a0,a1,a2,[]))]
theorem Axj (a0:List TGroup) (a1:List TRow) (a2:List TRow):EQ (AA Bbm SU) 9 143 [.sl .group a0,Ak .rows a1,Ak .rows a2] 0 []=some (1,Z7 a0 a1 a2,1,Ro a0 a1 a2,[(Aj Try.prog (143:FuncId) (0:Nat)=Aj Try.prog (143:FuncId) (0:Nat)),(AL A1 AZ Er (H4 (a0,a1,a2,[])) (a0,a1,a2,[]))]):=by kernel_rfl
theorem A2b (a0:List TGroup) (a1:List TRow) (a2:List TRow) (hp:∀p∈Axk a0 a1 a2,p):CallOk Try.prog 143 [.sl .group a0,Ak .rows a1,Ak .rows a2] 0 [] 1 (Z7 a0 a1 a2) 1 (Ro a0 a1 a2):=by
 have n1:=N0 hp
 exact AI (Aw Auu Acq) (Axj a0 a1 a2) (Aa rfl (Aa n1 Ab))
def Xa (_a0:List TGroup) (_a1 _a2:List TRow):A:=.dq 0
def W9 (_a0:List TGroup) (a1 a2:List TRow):Objs:=[(0,some (.deep 71 .row (mrg (a1.length+a2.length) a1 a2)))]
def UT (a0:List TGroup) (a1 a2:List TRow):List Prop:=[Stt a0 a1∧Stt a0 a2∧a1.length+a2.length≤400000]
theorem A4y (x:TRow) (a:List TRow):List.take ((((x::a).length:Nat):Int).toNat - (1:Nat)) (List.drop (1:Nat) (x::a))=a:=by
 rw[Int.toNat_natCast]
 simp
theorem gt0 (n:Nat):decide ((n:Int) >(0:Int))=!(n==0):=by
 cases n with
 |zero=>rfl
 |succ n=>
  rw[decide_eq_true (by omega)]
  rfl
theorem Bej (l:List TGroup) (a b out:List TRow):Aq l a b out=((b.length==0)||(!(a.length==0)&&IW (BJ a 0).key (BJ b 0).key)):=by
 unfold Aq
 rw[Bii,gt0]
 rfl
theorem A4x (l:List TGroup) (a b out:List TRow):An l a b out=((a.length==0)&&(b.length==0)):=by
 unfold An
 rw[Bii,Bii]
theorem Btm (l:List TGroup) (a b out:List TRow):AD l a b out=((a.length==0)||IW (BJ b 0).key (BJ a 0).key):=by
 unfold AD
 rw[Bii]
 rfl
theorem Btn {l:List TGroup} {a b out:List TRow} (ha:Stt l a) (hb:Stt l b) (ho:out.length≤500000):∀p∈Er (l,a,b,out),p:=by
 have z:∀{n:Nat},(n==0)=false→0 <n:=fun h=>by
  have:=beq_eq_false_iff_ne.1 h
  omega
 have h1:An l a b out=false→Aq l a b out=true→0 <a.length:=fun h g=>by
  rw[A4x] at h
  rw[Bej] at g
  cases ea:a.length==0 with
  |false=>exact z ea
  |true=>
   rw[ea] at h g
   rw[Bool.true_and] at h
   rw[h] at g
   cases g
 have h2:Aq l a b out=false→0 <b.length:=fun h=>by
  rw[Bej] at h
  exact z (Bool.or_eq_false_iff.1 h).1
 have h3:AD l a b out=false→0 <a.length:=fun h=>by
  rw[Btm] at h
  exact z (Bool.or_eq_false_iff.1 h).1
 have hc:∀{x:List TRow},Stt l x→0 <x.length→Ai (0+(x.getD 0 (Ae TC.row)).2.length):=fun {x} hx h=>by
  have g:=(hx.good _ (getD_in x (Ae TC.row) 0 h)).1
  have g1:=(AS g).2.1
  have g2:=(Gu (AS g).1).2
  have g3:(x.getD 0 (Ae TC.row)).2.length=l.length:=g1
  unfold Ai
  omega
 have ho':Ai (out.length+1):=by unfold Ai;omega
 have one:∀{n:Nat},0 <n→(0:Int)≤(1:Int)∧(1:Int)≤(n:Int)∧(n:Int)≤(n:Int):=fun h=>⟨by omega,by omega,Int.le_refl _⟩
 have nz:∀{n:Nat},0 <n→(0:Int)≤(0:Int)∧(0:Int) <(n:Int):=fun h=>⟨Int.le_refl _,by omega⟩
 have e0:∀{n:Nat},((n:Int)==(0:Int))=false→0 <n:=fun h=>by rw[Bii] at h;exact z h
 have g0:∀{n:Nat},decide ((n:Int) >(0:Int))=true→0 <n:=fun h=>by have:=of_decide_eq_true h;omega
 exact Aa (fun _ h _=>nz (g0 h)) (Aa (fun _ _ h=>nz (e0 h)) (Aa (fun h g=>nz (h1 h g)) (Aa (fun h g=>hc ha (h1 h g)) (Aa (fun _ _=>ho') (Aa (fun h g=>one (h1 h g))
  (Aa (fun _ g _=>nz (h2 g)) (Aa (fun _ _ h=>nz (e0 h)) (Aa (fun _ g _=>nz (h2 g)) (Aa (fun _ g _=>hc hb (h2 g)) (Aa (fun _ _ _=>ho') (Aa (fun _ g _=>one (h2 g))
  (Aa (fun _ _ h=>nz (h3 h)) (Aa (fun _ g _=>nz (h2 g)) (Aa (fun _ _ _=>ho') (Aa (fun _ _ h=>one (h3 h)) (Aa (fun _ g _=>one (h2 g)) Ab))))))))))))))))
theorem Bm9 (l:List TGroup):∀(n:Nat) (a b out:List TRow),Stt l a→Stt l b→a.length+b.length≤n→out.length+n≤500000→
  AL A1 AZ Er n (l,a,b,out)∧(Bg A1 AZ n (l,a,b,out)).2.2.2=out++mrg n a b
 |0,a,b,out,ha,hb,hn,ho=>by
  have h1:a=[]:=List.eq_nil_of_length_eq_zero (by omega)
  have h2:b=[]:=List.eq_nil_of_length_eq_zero (by omega)
  subst h1 h2
  refine⟨⟨Btn ha hb (by omega),?_⟩,(List.append_nil out).symm⟩
  show(!An l [] [] out)=false
  rw[A4x]
  rfl
 | n + 1,a,b,out,ha,hb,hn,ho=>by
  have key:∀(a' b' out':List TRow),An l a b out=false→A1 (l,a,b,out)=(l,a',b',out')→Stt l a'→Stt l b'→a'.length+b'.length≤n→out'.length=out.length+1→out'++mrg n a' b'=out++mrg (n+1) a b→
    AL A1 AZ Er (n+1) (l,a,b,out)∧(Bg A1 AZ (n+1) (l,a,b,out)).2.2.2=out++mrg (n+1) a b:=fun a' b' out' hk e h1 h2 h3 h4 h5=>by
   obtain⟨i1,i2⟩:=Bm9 l n a' b' out' h1 h2 h3 (by omega)
   have hg:Bq (AZ (l,a,b,out))=true:=by
    show(!An l a b out)=true
    rw[hk]
    rfl
   refine⟨⟨Btn ha hb (by omega),fun _=>by rw[e];exact i1⟩,?_⟩
   show(bif Bq (AZ (l,a,b,out)) then Bg A1 AZ n (A1 (l,a,b,out)) else(l,a,b,out)).2.2.2=_
   rw[hg,cond_true,e,i2]
   exact h5
  cases a with
  | nil=>
   cases b with
   | nil=>
    have hg:Bq (AZ (l,[],[],out))=false:=by
     show(!An l [] [] out)=false
     rw[A4x]
     rfl
    refine⟨⟨Btn ha hb (by omega),fun h=>by rw[hg] at h;cases h⟩,?_⟩
    show(bif Bq (AZ (l,[],[],out)) then Bg A1 AZ n (A1 (l,[],[],out)) else(l,[],[],out)).2.2.2=_
    rw[hg,cond_false]
    exact(List.append_nil out).symm
   |cons y b=>
    refine key [] b (out++[y]) (by rw[A4x];rfl) ?_ ha hb.tail (by simp at hn⊢;omega) (by simp) (by rw[List.append_assoc];rfl)
    have k0:Aq l [] (y::b) out=false:=by rw[Bej];rfl
    have k4:AD l [] (y::b) out=true:=by rw[Btm];rfl
    show(l,BZ l [] (y::b) out,B5 l [] (y::b) out,B8 l [] (y::b) out)=_
    unfold BZ B5 B8 Gq
    rw[k0,k4,A4y]
    rfl
  | cons x a=>
   cases b with
   |nil=>
    refine key a [] (out++[x]) (by rw[A4x];rfl) ?_ ha.tail hb (by simp at hn⊢;omega) (by simp) (by rw[List.append_assoc];rfl)
    have k0:Aq l (x::a) [] out=true:=by rw[Bej];rfl
    show(l,BZ l (x::a) [] out,B5 l (x::a) [] out,B8 l (x::a) [] out)=_
    unfold BZ B5 B8 Gp
    rw[k0,A4y]
    rfl
   | cons y b=>
    have kk:An l (x::a) (y::b) out=false:=by rw[A4x];rfl
    have k0:Aq l (x::a) (y::b) out=IW x.key y.key:=by rw[Bej];rfl
    have k4:AD l (x::a) (y::b) out=IW y.key x.key:=by rw[Btm];rfl
    have em:mrg (n+1) (x::a) (y::b)=bif IW x.key y.key then x::mrg n a (y::b) else bif IW y.key x.key then y::mrg n (x::a) b else jnR x y::mrg n a b:=rfl
    have en:A1 (l,x::a,y::b,out)=(l,BZ l (x::a) (y::b) out,B5 l (x::a) (y::b) out,B8 l (x::a) (y::b) out):=rfl
    cases h1:IW x.key y.key with
    |true=>
     refine key a (y::b) (out++[x]) kk ?_ ha.tail hb (by simp at hn⊢;omega) (by simp) (by rw[em,h1,cond_true,List.append_assoc];rfl)
     rw[en]
     unfold BZ B5 B8 Gp
     rw[k0,h1,A4y]
     rfl
    | false=>
     cases h2:IW y.key x.key with
     |true=>
      refine key (x::a) b (out++[y]) kk ?_ ha hb.tail (by simp at hn⊢;omega) (by simp) (by rw[em,h1,h2,cond_false,cond_true,List.append_assoc];rfl)
      rw[en]
      unfold BZ B5 B8 Gq
      rw[k0,k4,h1,h2,A4y]
      rfl
     | false=>
      refine key a b (out++[jnR x y]) kk ?_ ha.tail hb.tail (by simp at hn⊢;omega) (by simp) (by rw[em,h1,h2,cond_false,cond_false,List.append_assoc];rfl)
      have hj:jnE l x y=0:=Bdv.2 ⟨(ha.good x (List.mem_cons_self ..)).1,(hb.good y (List.mem_cons_self ..)).1,A7m h1 h2⟩
      have ej:TRow.mk (jnK l x y) (jnL l x y)=jnR x y:=by
       unfold jnK jnL
       rw[hj]
       rfl
      rw[en]
      unfold BZ B5 B8 Gp Gq
      rw[k0,k4,h1,h2,A4y,A4y,←ej]
      rfl
theorem Axi (a0:List TGroup) (a1 a2:List TRow) (hp:∀p∈UT a0 a1 a2,p):CallOk Try.prog 143 [.sl .group a0,Ak .rows a1,Ak .rows a2] 0 [] 1 (Xa a0 a1 a2) 1 (W9 a0 a1 a2):=by
 obtain⟨h1,h2,h3⟩:=hp _ (List.mem_cons_self ..)
 obtain⟨g1,g2⟩:=Bm9 a0 (a1.length+a2.length) a1 a2 [] h1 h2 (Nat.le_refl _) (by rw[List.length_nil];omega)
 have h:=A2b a0 a1 a2 (Aa g1 Ab)
 have e:Z6 a0 a1 a2=mrg (a1.length+a2.length) a1 a2:=g2
 unfold Ro at h
 rw[e] at h
 exact h
def Rp:List A→Nat→Objs→Option Bb
 | [y0,y1,y2],nx,o=>match Kh .group y0,AQ .rows y1,AQ .rows y2 with
  |some a0,some (a1,p1),some (a2,p2)=>some (1,(Xa a0 a1 a2).pk (AF nx),nx+1,AE nx (W9 a0 a1 a2)++o,p1++(p2++(UT a0 a1 a2)))
  |_,_,_=>none
 |_,_,_=>none
theorem Asi:Ft Try.prog 143 Rp:=fun args nx o k x nx' o' ps h=>by
 unfold Rp at h
 split at h<;>first|(cases h;done)|skip
 split at h<;>first|(cases h;done)|skip
 rename_i a0 a1 p1 a2 p2 e0 e1 e2
 cases h
 refine⟨fun hp=>?_,_,rfl⟩
 have q1:=fun p hm=>hp p (List.mem_append.2 (.inl hm))
 have r1:=fun p hm=>hp p (List.mem_append.2 (.inr hm))
 have q2:=fun p hm=>r1 p (List.mem_append.2 (.inl hm))
 have r2:=fun p hm=>r1 p (List.mem_append.2 (.inr hm))
 refine Ah (Ag (Axi a0 a1 a2 r2) (Nat.le_refl _) (Ac rfl (Ac (Af _ _) (Ac (Af _ _) Ao))) nx o) fun F N R vs hl=>?_
 obtain⟨v0,w0,rfl,h0,hl⟩:=hl.inv
 obtain⟨v1,w1,rfl,h1,hl⟩:=hl.inv
 obtain⟨v2,w2,rfl,h2,hl⟩:=hl.inv
 exact HL.cons (BX e0 h0) (HL.cons (Am e1 q1 h1) (HL.cons (Am e2 q2 h2) (hl)))
noncomputable def Brh:=A7 143 Rp Bbm
theorem Bbn:Dd Try.prog Brh:=Av Asi Auu
def Ho (a0:TRow):List TCell:=[]++a0.2
def Ad5 (a0:TRow):A:=.agg [.v (.string a0.1),.sq 0]
def Ad4 (a0:TRow):Objs:=[(0,some (.arr 55 8 (.ty .cell (Ho a0))))]
def Ap3 (a0:TRow):List Prop:=[(Ai ((0:Nat)+a0.2.length))]
theorem Bfo (a0:TRow):EQ (AA Brh L0) 9 46 [Ak .row a0] 0 []=some (1,Ad5 a0,1,Ad4 a0,[(Ai ((0:Nat)+a0.2.length))]):=by kernel_rfl
theorem Bjq (a0:TRow) (hp:∀p∈Ap3 a0,p):CallOk Try.prog 46 [Ak .row a0] 0 [] 1 (Ad5 a0) 1 (Ad4 a0):=by
 have n0:=N0 hp
 exact AI (Aw Bbn AH) (Bfo a0) (Aa n0 Ab)
def Ad6:List A→Nat→Objs→Option Bb
 | [y0],nx,o=>match AQ .row y0 with
  |some (a0,p0)=>some (1,(Ad5 a0).pk (AF nx),nx+1,AE nx (Ad4 a0)++o,p0++(Ap3 a0))
  |_=>none
 |_,_,_=>none
theorem A9c:Ft Try.prog 46 Ad6:=fun args nx o k x nx' o' ps h=>by
 unfold Ad6 at h
 split at h<;>first|(cases h;done)|skip
 split at h<;>first|(cases h;done)|skip
 rename_i a0 p0 e0
 cases h
 refine⟨fun hp=>?_,_,rfl⟩
 have q0:=fun p hm=>hp p (List.mem_append.2 (.inl hm))
 have r0:=fun p hm=>hp p (List.mem_append.2 (.inr hm))
 refine Ah (Ag (Bjq a0 r0) (Nat.le_refl _) (Ac (Af _ _) Ao) nx o) fun F N R vs hl=>?_
 obtain⟨v0,w0,rfl,h0,hl⟩:=hl.inv
 exact HL.cons (Am e0 q0 h0) (hl)
noncomputable def Bbo:=A7 46 Ad6 Brh
theorem Auv:Dd Try.prog Bbo:=Av A9c Bbn
abbrev C8:Type:=Int×TRow×ByteArray×(List TCell)
def MB (x:C8):St:=⟨56,6,[(5,.own 1 0),(9,.own 4 0),(10,.v (.int .i64 x.1))],[(1,some (.box 71 [.v (.string x.2.1.key),.sl .cell x.2.1.cells])),(4,some (.box 71 [.v (.string x.2.2.1),.sq 5])),(5,some (.arr 55 8 (.ty .cell x.2.2.2)))]⟩
def Po:St→Option C8
 |⟨56,6,[(5,.own 1 0),(9,.own 4 0),(10,.v (.int .i64 z0))],[(1,some (.box 71 [.v (.string z1),.sl .cell z2])),(4,some (.box 71 [.v (.string z3),.sq 5])),(5,some (.arr 55 8 (.ty .cell z4)))]⟩=>some (z0,⟨z1,z2⟩,z3,z4)
 |_=>none
theorem Amr:∀s x,Po s=some x→s=MB x:=fun s x h=>by
 unfold Po at h
 split at h
 ·cases h;rfl
 ·cases h
def Aat:Dj:=⟨5,6,[5,9,10],[],[(1,1),(4,4),(5,5)],[1,4,5],[],[1,4,5]⟩
def A2z:DB:=⟨[],[(1,1),(4,4),(3,5)],[5,9,10],[1,4,3]⟩
def BG (a0:Int) (_a1:TRow) (_a2:ByteArray) (a3:List TCell):Bool:=!!decide (a0 <(↑a3.length:Int))
def Ns (a0:Int) (a1:TRow) (_a2:ByteArray) (a3:List TCell):List TCell:=a3.set a0.toNat (Kc (a3.getD a0.toNat (Ae TC.cell)) (a1.2.getD a0.toNat (Ae TC.cell)))
def Fb (x:C8):C8:=(IntKind.i64.wrap (x.1+(1:Int)),x.2.1,x.2.2.1,Ns x.1 x.2.1 x.2.2.1 x.2.2.2)
def Fa (x:C8):Cnd:=some ((BG x.1 x.2.1 x.2.2.1 x.2.2.2))
def Vh (x:C8):List Prop:=[((BG x.1 x.2.1 x.2.2.1 x.2.2.2)=true→(0:Int)≤x.1∧x.1 <(↑x.2.2.2.length:Int)),((BG x.1 x.2.1 x.2.2.1 x.2.2.2)=true→x.1.toNat <x.2.2.2.length),((BG x.1 x.2.1 x.2.2.1 x.2.2.2)=true→(0:Int)≤x.1∧x.1 <(↑x.2.1.2.length:Int)),((BG x.1 x.2.1 x.2.2.1 x.2.2.2)=true→(0:Int)≤x.1∧x.1 <(↑x.2.2.2.length:Int)),((BG x.1 x.2.1 x.2.2.1 x.2.2.2)=true→x.1.toNat <x.2.2.2.length)]
def Iq (x:C8):List Prop:=[((BG x.1 x.2.1 x.2.2.1 x.2.2.2)=true→(0:Int)≤x.1∧x.1 <(↑x.2.2.2.length:Int)),((BG x.1 x.2.1 x.2.2.1 x.2.2.2)=true→(0:Int)≤x.1∧x.1 <(↑x.2.1.2.length:Int))]
def S9 (x:C8):Bo:=[(some 0,some (!decide (x.1 <(↑x.2.2.2.length:Int))),⟨56,6,[],[(1,some (.box 71 [.v (.string x.2.1.1),.sl .cell x.2.1.2])),(4,some (.box 71 [.v (.string x.2.2.1),.sq 5])),(5,some (.arr 55 8 (.ty .cell x.2.2.2)))]⟩)]
def GU (x:C8):Nat:=((↑x.2.2.2.length:Int) - x.1).toNat
def IZ (x:C8):C8:=Bg Fb Fa (GU x) x
theorem Azk (a0:Int) (a1:TRow) (a2:ByteArray) (a3:List TCell):Bz (AA Bbo L0) 9 (Aj Try.prog 74 0) Aat (MB (a0,a1,a2,a3))=some (Vh (a0,a1,a2,a3),S9 (a0,a1,a2,a3),Fa (a0,a1,a2,a3),MB (Fb (a0,a1,a2,a3))):=by kernel_rfl
theorem Azl (a0:Int) (a1:TRow) (a2:ByteArray) (a3:List TCell) (hp:∀p∈Iq (a0,a1,a2,a3),p):∀p∈Vh (a0,a1,a2,a3),p:=by
 have n0:((BG a0 a1 a2 a3)=true→(0:Int)≤a0∧a0 <(↑a3.length:Int)):=N0 hp
 have n1:((BG a0 a1 a2 a3)=true→a0.toNat <a3.length):=by intro h0;have g:=n0 h0;omega
 have n2:=N0 (N1 hp)
 exact(Aa n0 (Aa n1 (Aa n2 (Aa n0 (Aa n1 Ab)))))
noncomputable def Vi:=H1 (AA Bbo L0) (Aj Try.prog 74 0) Aat A2z Po GU Fb Fa Iq S9
theorem Atc:∀s b ps outs,Vi s=some (b,ps,outs)→Wf s ⟨ps,outs,none⟩∧Bx (AA C0 L0) b s ps outs:=
 Bm (T:=MB) Auv AH (u:=9) (by kernel_rfl) (by decide) (fun⟨a0,a1,a2,a3⟩=>Azk a0 a1 a2 a3) (fun⟨a0,a1,a2,a3⟩=>Azl a0 a1 a2 a3) Amr (fun _=>AW (n:=56) rfl) fun _ _=>rfl
noncomputable def Aas:=DP 0 Vi L0
theorem Atb:Hr Aas:=A6 Atc AH
def D3 (_a0:List TGroup) (a1:TRow) (a2:TRow):Bool:=!a1.1.toList==a2.1.toList
def C2 (a0:List TGroup) (_a1:TRow) (a2:TRow):Bool:=Ap a0 a2 !=(0:Int)
def BV (a0:List TGroup) (a1:TRow) (_a2:TRow):Bool:=Ap a0 a1 !=(0:Int)
def Aea (a0:List TGroup) (a1:TRow) (a2:TRow):ByteArray:=bif(BV a0 a1 a2) then ByteArray.mk #[] else bif(C2 a0 a1 a2) then ByteArray.mk #[] else bif(D3 a0 a1 a2) then ByteArray.mk #[] else(IZ ((0:Int),a2,a1.1,Ho a1)).snd.snd.fst
def Uf (a0:List TGroup) (a1:TRow) (a2:TRow):Int:=bif(BV a0 a1 a2) then Ap a0 a1 else bif(C2 a0 a1 a2) then Ap a0 a2 else bif(D3 a0 a1 a2) then(100:Int) else(0:Int)
def Aeb (a0:List TGroup) (a1:TRow) (a2:TRow):List TCell:=bif(BV a0 a1 a2) then[] else bif(C2 a0 a1 a2) then[] else bif(D3 a0 a1 a2) then[] else(IZ ((0:Int),a2,a1.1,Ho a1)).snd.snd.snd
def Aed (a0:List TGroup) (a1:TRow) (a2:TRow):A:=.tup [.agg [.v (.string (Aea a0 a1 a2)),.sq 0],.v (.int .i64 (Uf a0 a1 a2))]
def Aec (a0:List TGroup) (a1:TRow) (a2:TRow):Objs:=[(0,some (.arr 55 8 (.ty .cell (Aeb a0 a1 a2))))]
def Bfu (a0:List TGroup) (a1:TRow) (a2:TRow):List Prop:=[(∀(g:TGroup),g∈a0→Az g.1.size),((!(BV a0 a1 a2))=true→∀(g:TGroup),g∈a0→Az g.1.size),((!(BV a0 a1 a2))=true→(!(C2 a0 a1 a2))=true→(!(D3 a0 a1 a2))=true→Ai ((0:Nat)+a1.2.length)),((!(BV a0 a1 a2))=true→(!(C2 a0 a1 a2))=true→(!(D3 a0 a1 a2))=true→AL Fb Fa Iq (GU ((0:Int),a2,a1.1,Ho a1)) ((0:Int),a2,a1.1,Ho a1))]
theorem Bft (a0:List TGroup) (a1:TRow) (a2:TRow):EQ (AA Bbo Aas) 9 74 [.sl .group a0,Ak .row a1,Ak .row a2] 0 []=some (1,Aed a0 a1 a2,1,Aec a0 a1 a2,[(∀(g:TGroup),g∈a0→Az g.1.size),((!(BV a0 a1 a2))=true→∀(g:TGroup),g∈a0→Az g.1.size),((!(BV a0 a1 a2))=true→(!(C2 a0 a1 a2))=true→(!(D3 a0 a1 a2))=true→Ai ((0:Nat)+a1.2.length)),((!(BV a0 a1 a2))=true→(!(C2 a0 a1 a2))=true→(!(D3 a0 a1 a2))=true→Aj Try.prog (74:FuncId) (0:Nat)=Aj Try.prog (74:FuncId) (0:Nat)),((!(BV a0 a1 a2))=true→(!(C2 a0 a1 a2))=true→(!(D3 a0 a1 a2))=true→AL Fb Fa Iq (GU ((0:Int),a2,a1.1,Ho a1)) ((0:Int),a2,a1.1,Ho a1))]):=by kernel_rfl
theorem Bjs (a0:List TGroup) (a1:TRow) (a2:TRow) (hp:∀p∈Bfu a0 a1 a2,p):CallOk Try.prog 74 [.sl .group a0,Ak .row a1,Ak .row a2] 0 [] 1 (Aed a0 a1 a2) 1 (Aec a0 a1 a2):=by
 have n0:=N0 hp
 have n1:=N0 (N1 hp)
 have n2:=N0 (N1 (N1 hp))
 have n3:((!(BV a0 a1 a2))=true→(!(C2 a0 a1 a2))=true→(!(D3 a0 a1 a2))=true→Aj Try.prog (74:FuncId) (0:Nat)=Aj Try.prog (74:FuncId) (0:Nat)):=by intros;rfl
 have n4:=N0 (N1 (N1 (N1 hp)))
 exact AI (Aw Auv Atb) (Bft a0 a1 a2) (Aa n0 (Aa n1 (Aa n2 (Aa n3 (Aa n4 Ab)))))
def Aqb (a0:List TGroup) (a1:TRow) (a2:TRow):A:=.tup [.agg [.v (.string (jnK a0 a1 a2)),.sq 0],.v (.int .i64 (jnE a0 a1 a2))]
def Aqa (a0:List TGroup) (a1:TRow) (a2:TRow):Objs:=[(0,some (.arr 55 8 (.ty .cell (jnL a0 a1 a2))))]
def Aiv (a0:List TGroup) (_a1:TRow) (_a2:TRow):List Prop:=[∀g∈a0,Az g.1.size]
theorem Am7 {l:List TGroup} {a b:TRow} (ha:Ap l a=0) (hb:Ap l b=0):
  AL Fb Fa Iq (GU (0,b,a.key,a.cells)) (0,b,a.key,a.cells)∧IZ (0,b,a.key,a.cells)=((a.cells.length:Int),b,a.key,jnN a.cells b.cells a.cells.length):=by
 have h1:=(AS ha).2.1
 have h2:=(AS hb).2.1
 have h4:=(Gu (AS ha).1).2
 have hlen:=fun i=>Agt a.cells b.cells i
 obtain⟨h5,k,hk,hx,_,hst,_⟩:=IJ (fun i=>((i:Int),b,a.key,jnN a.cells b.cells i):Nat→C8) a.cells.length (fun _=>false) Fb Fa Iq (GU (0,b,a.key,a.cells)) (0,b,a.key,a.cells) rfl (by show a.cells.length≤((a.cells.length:Int) - 0).toNat;omega)
  (fun i _ _=>by
   show(!!decide ((i:Int) <((jnN a.cells b.cells i).length:Int)))=_
   rw[nn,hlen,Mp,Bool.not_false,Bool.and_true])
  (fun i hi _=>by
   show(IntKind.i64.wrap ((i:Int)+1),b,a.key,Ns (i:Int) b a.key (jnN a.cells b.cells i))=(((i+1:Nat):Int),b,a.key,jnN a.cells b.cells (i+1))
   unfold Ns
   rw[Fp (by omega),Int.toNat_natCast]
   show(_,_,_,(jnN a.cells b.cells i).set i (Kc (Gj (jnN a.cells b.cells i) i) (Gj b.cells i)))=(_,_,_,(jnN a.cells b.cells i).set i (Lj (Gj (jnN a.cells b.cells i) i) (Gj b.cells i)))
   have e:Gj (jnN a.cells b.cells i) i=Gj a.cells i:=by
    rw[Big a.cells b.cells i hi i,decide_eq_false (Nat.lt_irrefl i)]
    rfl
   rw[e,A4r (Jw ha (by omega:i <l.length))])
  (fun i hi _=>by
   have hin:BG (i:Int) b a.key (jnN a.cells b.cells i)=true→(i:Int) <((jnN a.cells b.cells i).length:Int):=fun h=>by
    unfold BG at h
    rw[nn] at h
    exact of_decide_eq_true h
   refine Aa (fun h=>⟨by show(0:Int)≤(i:Int);omega,hin h⟩) (Aa (fun h=>⟨by show(0:Int)≤(i:Int);omega,?_⟩) Ab)
   have:=hin h
   rw[hlen] at this
   show(i:Int) <(b.cells.length:Int)
   omega)
 have hkn:k=a.cells.length:=by
  rcases Nat.lt_or_ge k a.cells.length with h|h
  ·exact absurd (hst h) (by decide)
  ·omega
 subst hkn
 exact⟨h5,hx⟩
theorem Bx0 (l:List TGroup) (a b:TRow):Uf l a b=jnE l a b∧Aea l a b=jnK l a b∧Aeb l a b=jnL l a b:=by
 have hkey:D3 l a b=!(a.key==b.key):=by
  unfold D3
  rw[tlb]
 have e1:Uf l a b=jnE l a b:=by
  unfold Uf jnE
  rw[hkey]
  rfl
 have split:∀{α:Type} (z:α) (f:α),(bif BV l a b then z else bif C2 l a b then z else bif D3 l a b then z else f)=bif jnE l a b==0 then f else z:=fun z f=>by
  by_cases h:jnE l a b=0
  ·obtain⟨h1,h2,h3⟩:=Bdv.1 h
   have k0:BV l a b=false:=by unfold BV;rw[h1];rfl
   have k1:C2 l a b=false:=by unfold C2;rw[h2];rfl
   rw[k0,k1,hkey,h3,beq_self_eq_true,h]
   rfl
  ·have hne:(jnE l a b==0)=false:=by simpa using h
   rw[hne,cond_false]
   cases h1:BV l a b with
   |true=>rfl
   | false=>
    cases h2:C2 l a b with
    |true=>rfl
    | false=>
     cases h3:D3 l a b with
     |true=>rfl
     |false=>
      rw[hkey] at h3
      refine absurd (Bdv.2 ⟨?_,?_,?_⟩) h
      ·unfold BV at h1;simpa using h1
      ·unfold C2 at h2;simpa using h2
      ·simpa using h3
 refine⟨e1,?_,?_⟩
 ·unfold Aea
  rw[split]
  unfold jnK
  by_cases h:jnE l a b=0
  ·obtain⟨h1,h2,h3⟩:=Bdv.1 h
   rw[h]
   show(IZ (0,b,a.key,a.cells)).snd.snd.fst=a.key
   rw[(Am7 h1 h2).2]
  ·have hne:(jnE l a b==0)=false:=by simpa using h
   rw[hne]
   rfl
 ·unfold Aeb
  rw[split]
  unfold jnL
  by_cases h:jnE l a b=0
  ·obtain⟨h1,h2,h3⟩:=Bdv.1 h
   have hl:a.cells.length=b.cells.length:=(AS h1).2.1.trans (AS h2).2.1.symm
   rw[h]
   show(IZ (0,b,a.key,a.cells)).snd.snd.snd=jnN a.cells b.cells b.cells.length
   rw[(Am7 h1 h2).2,hl]
  ·have hne:(jnE l a b==0)=false:=by simpa using h
   rw[hne]
   rfl
theorem Bfs (a0:List TGroup) (a1:TRow) (a2:TRow) (hp:∀p∈Aiv a0 a1 a2,p):CallOk Try.prog 74 [.sl .group a0,Ak .row a1,Ak .row a2] 0 [] 1 (Aqb a0 a1 a2) 1 (Aqa a0 a1 a2):=by
 have hw:∀g∈a0,Az g.1.size:=hp _ (List.mem_cons_self ..)
 have g1:(!(BV a0 a1 a2))=true→Ap a0 a1=0:=fun h=>by
  have h':(!(Ap a0 a1 !=0))=true:=h
  simpa using h'
 have g2:(!(C2 a0 a1 a2))=true→Ap a0 a2=0:=fun h=>by
  have h':(!(Ap a0 a2 !=0))=true:=h
  simpa using h'
 have h:=Bjs a0 a1 a2 (Aa hw (Aa (fun _=>hw) (Aa (fun h _ _=>by
  have q1:=(AS (g1 h)).2.1
  have q2:=(Gu (AS (g1 h)).1).2
  have q3:a1.2.length=a0.length:=q1
  unfold Ai
  omega) (Aa (fun h h2 _=>(Am7 (g1 h) (g2 h2)).1) Ab))))
 obtain⟨e1,e2,e3⟩:=Bx0 a0 a1 a2
 unfold Aed Aec at h
 rw[e1,e2,e3] at h
 exact h
def Aee:List A→Nat→Objs→Option Bb
 | [y0,y1,y2],nx,o=>match Kh .group y0,AQ .row y1,AQ .row y2 with
  |some a0,some (a1,p1),some (a2,p2)=>some (1,(Aqb a0 a1 a2).pk (AF nx),nx+1,AE nx (Aqa a0 a1 a2)++o,p1++(p2++(Aiv a0 a1 a2)))
  |_,_,_=>none
 |_,_,_=>none
theorem A9h:Ft Try.prog 74 Aee:=fun args nx o k x nx' o' ps h=>by
 unfold Aee at h
 split at h<;>first|(cases h;done)|skip
 split at h<;>first|(cases h;done)|skip
 rename_i a0 a1 p1 a2 p2 e0 e1 e2
 cases h
 refine⟨fun hp=>?_,_,rfl⟩
 have q1:=fun p hm=>hp p (List.mem_append.2 (.inl hm))
 have r1:=fun p hm=>hp p (List.mem_append.2 (.inr hm))
 have q2:=fun p hm=>r1 p (List.mem_append.2 (.inl hm))
 have r2:=fun p hm=>r1 p (List.mem_append.2 (.inr hm))
 refine Ah (Ag (Bfs a0 a1 a2 r2) (Nat.le_refl _) (Ac rfl (Ac (Af _ _) (Ac (Af _ _) Ao))) nx o) fun F N R vs hl=>?_
 obtain⟨v0,w0,rfl,h0,hl⟩:=hl.inv
 obtain⟨v1,w1,rfl,h1,hl⟩:=hl.inv
 obtain⟨v2,w2,rfl,h2,hl⟩:=hl.inv
 exact HL.cons (BX e0 h0) (HL.cons (Am e1 q1 h1) (HL.cons (Am e2 q2 h2) (hl)))
noncomputable def Bbp:=A7 74 Aee Bbo
theorem Auw:Dd Try.prog Bbp:=Av A9h Auv
abbrev DM:Type:=(List TRow)×ByteArray×Int×ByteArray
def NY (x:DM):St:=⟨26,1,[(0,.sl .row x.1),(1,.v (.string x.2.1)),(4,.own 0 0),(6,.v (.int .i64 x.2.2.1))],[(0,some (.box 71 [.v (.string x.2.2.2),.v (.slice none 0 0)]))]⟩
def RF:St→Option DM
 |⟨26,1,[(0,.sl .row z0),(1,.v (.string z1)),(4,.own 0 0),(6,.v (.int .i64 z2))],[(0,some (.box 71 [.v (.string z3),.v (.slice none 0 0)]))]⟩=>some (z0,z1,z2,z3)
 |_=>none
theorem Atp:∀s x,RF s=some x→s=NY x:=fun s x h=>by
 unfold RF at h
 split at h
 ·cases h;rfl
 ·cases h
def Ai5:Dj:=⟨1,1,[0,1,4,6],[],[(0,0)],[0],[5],[0,1]⟩
def A9m:DB:=⟨[],[(0,0)],[0,1,4,6],[0]⟩
def DN (a0:List TRow) (_a1:ByteArray) (a2:Int) (_a3:ByteArray):Bool:=!!decide (a2 <(↑a0.length:Int))
def Gg (a0:List TRow) (a1:ByteArray) (a2:Int) (a3:ByteArray):Bool:=(DN a0 a1 a2 a3)&&(a0.getD a2.toNat (Ae TC.row)).1.toList==a1.toList
def Azy (a0:List TRow) (a1:ByteArray) (a2:Int) (a3:ByteArray):Bool:=(DN a0 a1 a2 a3)&&!(Gg a0 a1 a2 a3)
def KD (a0:List TRow) (_a1:ByteArray) (a2:Int) (_a3:ByteArray):ByteArray:=(a0.getD a2.toNat (Ae TC.row)).1
def KE (a0:List TRow) (_a1:ByteArray) (a2:Int) (_a3:ByteArray):List TCell:=Ho (a0.getD a2.toNat (Ae TC.row))
def HB (x:DM):DM:=(x.1,x.2.1,IntKind.i64.wrap (x.2.2.1+(1:Int)),x.2.2.2)
def HA (x:DM):Cnd:=some (Azy x.1 x.2.1 x.2.2.1 x.2.2.2)
def X4 (x:DM):List Prop:=[((DN x.1 x.2.1 x.2.2.1 x.2.2.2)=true→(0:Int)≤x.2.2.1∧x.2.2.1 <(↑x.1.length:Int)),((DN x.1 x.2.1 x.2.2.1 x.2.2.2)=true→((x.1.getD x.2.2.1.toNat (Ae TC.row)).1.toList==x.2.1.toList)=true→(0:Int)≤x.2.2.1∧x.2.2.1 <(↑x.1.length:Int)),((DN x.1 x.2.1 x.2.2.1 x.2.2.2)=true→((x.1.getD x.2.2.1.toNat (Ae TC.row)).1.toList==x.2.1.toList)=true→Ai ((0:Nat)+(x.1.getD x.2.2.1.toNat (Ae TC.row)).2.length))]
def Ks (x:DM):List Prop:=[((DN x.1 x.2.1 x.2.2.1 x.2.2.2)=true→(0:Int)≤x.2.2.1∧x.2.2.1 <(↑x.1.length:Int)),((DN x.1 x.2.1 x.2.2.1 x.2.2.2)=true→((x.1.getD x.2.2.1.toNat (Ae TC.row)).1.toList==x.2.1.toList)=true→(0:Int)≤x.2.2.1∧x.2.2.1 <(↑x.1.length:Int)),((DN x.1 x.2.1 x.2.2.1 x.2.2.2)=true→((x.1.getD x.2.2.1.toNat (Ae TC.row)).1.toList==x.2.1.toList)=true→Ai ((0:Nat)+(x.1.getD x.2.2.1.toNat (Ae TC.row)).2.length))]
def Vr (x:DM):Bo:=[(some 0,some (!decide (x.2.2.1 <(↑x.1.length:Int))),⟨26,1,[(5,.dead)],[(0,some (.box 71 [.v (.string x.2.2.2),.v (.slice none 0 0)])),(1,none)]⟩),(none,some ((Gg x.1 x.2.1 x.2.2.1 x.2.2.2)),⟨26,2,[(5,.v (.bool (true)))],[(0,some (.box 71 [.v (.string (KD x.1 x.2.1 x.2.2.1 x.2.2.2)),.sq 1])),(1,some (.arr 55 8 (.ty .cell (KE x.1 x.2.1 x.2.2.1 x.2.2.2))))]⟩)]
def I1 (x:DM):Nat:=((↑x.1.length:Int) - x.2.2.1).toNat
def JN (x:DM):DM:=Bg HB HA (I1 x) x
theorem A23 (a0:List TRow) (a1:ByteArray) (a2:Int) (a3:ByteArray):Bz (AA Bbp L0) 9 (Aj Try.prog 148 0) Ai5 (NY (a0,a1,a2,a3))=some (X4 (a0,a1,a2,a3),Vr (a0,a1,a2,a3),HA (a0,a1,a2,a3),NY (HB (a0,a1,a2,a3))):=by kernel_rfl
theorem A24 (a0:List TRow) (a1:ByteArray) (a2:Int) (a3:ByteArray) (hp:∀p∈Ks (a0,a1,a2,a3),p):∀p∈X4 (a0,a1,a2,a3),p:=by
 have n0:=N0 hp
 have n1:=N0 (N1 hp)
 have n2:=N0 (N1 (N1 hp))
 exact(Aa n0 (Aa n1 (Aa n2 Ab)))
noncomputable def X5:=H1 (AA Bbp L0) (Aj Try.prog 148 0) Ai5 A9m RF I1 HB HA Ks Vr
theorem Azz:∀s b ps outs,X5 s=some (b,ps,outs)→Wf s ⟨ps,outs,none⟩∧Bx (AA C0 L0) b s ps outs:=
 Bm (T:=NY) Auw AH (u:=9) (by kernel_rfl) (by decide) (fun⟨a0,a1,a2,a3⟩=>A23 a0 a1 a2 a3) (fun⟨a0,a1,a2,a3⟩=>A24 a0 a1 a2 a3) Atp (fun _=>AW (n:=26) rfl) fun _ _=>rfl
noncomputable def Ai4:=DP 0 X5 L0
theorem Azx:Hr Ai4:=A6 Azz AH
def Py (a0:List TRow) (a1:ByteArray):List TRow:=(JN (a0,a1,(0:Int),ByteArray.mk #[])).fst
def Px (a0:List TRow) (a1:ByteArray):ByteArray:=(JN (a0,a1,(0:Int),ByteArray.mk #[])).snd.fst
def Pw (a0:List TRow) (a1:ByteArray):ByteArray:=(JN (a0,a1,(0:Int),ByteArray.mk #[])).snd.snd.snd
def Pv (a0:List TRow) (a1:ByteArray):Int:=(JN (a0,a1,(0:Int),ByteArray.mk #[])).snd.snd.fst
def Pu (a0:List TRow) (a1:ByteArray):Bool:=Gg (Py a0 a1) (Px a0 a1) (Pv a0 a1) (Pw a0 a1)
def Am8 (a0:List TRow) (a1:ByteArray):ByteArray:=bif(Pu a0 a1) then KD (Py a0 a1) (Px a0 a1) (Pv a0 a1) (Pw a0 a1) else ByteArray.mk #[]
def Am9 (a0:List TRow) (a1:ByteArray):Bool:=bif(Pu a0 a1) then true else false
def Ana (a0:List TRow) (a1:ByteArray):List TCell:=bif(Pu a0 a1) then KE (Py a0 a1) (Px a0 a1) (Pv a0 a1) (Pw a0 a1) else[]
def Anc (a0:List TRow) (a1:ByteArray):A:=.tup [.agg [.v (.string (Am8 a0 a1)),.sq 0],.v (.bool (Am9 a0 a1))]
def Anb (a0:List TRow) (a1:ByteArray):Objs:=[(0,some (.arr 55 8 (.ty .cell (Ana a0 a1))))]
def Az1 (a0:List TRow) (a1:ByteArray):List Prop:=[(AL HB HA Ks (I1 (a0,a1,(0:Int),ByteArray.mk #[])) (a0,a1,(0:Int),ByteArray.mk #[]))]
theorem Bj3 (a0:List TRow) (a1:ByteArray):EQ (AA Bbp Ai4) 9 148 [Ak .rows a0,Ak .str a1] 0 []=some (1,Anc a0 a1,1,Anb a0 a1,[(Aj Try.prog (148:FuncId) (0:Nat)=Aj Try.prog (148:FuncId) (0:Nat)),(AL HB HA Ks (I1 (a0,a1,(0:Int),ByteArray.mk #[])) (a0,a1,(0:Int),ByteArray.mk #[]))]):=by kernel_rfl
theorem Bph (a0:List TRow) (a1:ByteArray) (hp:∀p∈Az1 a0 a1,p):CallOk Try.prog 148 [Ak .rows a0,Ak .str a1] 0 [] 1 (Anc a0 a1) 1 (Anb a0 a1):=by
 have n1:=N0 hp
 exact AI (Aw Auw Azx) (Bj3 a0 a1) (Aa rfl (Aa n1 Ab))
def gtK (rows:List TRow) (key:ByteArray):ByteArray:=match ML rows key with
 |some r=>r.key
 |none=>⟨#[]⟩
def gtC (rows:List TRow) (key:ByteArray):List TCell:=match ML rows key with
 |some r=>r.cells
 |none=>[]
def gtB (rows:List TRow) (key:ByteArray):Bool:=match ML rows key with
 |some _=>true
 |none=>false
def Az2 (a0:List TRow) (a1:ByteArray):A:=.tup [.agg [.v (.string (gtK a0 a1)),.sq 0],.v (.bool (gtB a0 a1))]
def Az0 (a0:List TRow) (a1:ByteArray):Objs:=[(0,some (.arr 55 8 (.ty .cell (gtC a0 a1))))]
def Aql (a0:List TRow) (_a1:ByteArray):List Prop:=[Az a0.length,∀r∈a0,Ai r.cells.length]
theorem Bx1 (rows:List TRow) (key:ByteArray) (hb:Az rows.length) (hc:∀r∈rows,Ai r.cells.length):(∀p∈Az1 rows key,p)∧Am8 rows key=gtK rows key∧Am9 rows key=gtB rows key∧Ana rows key=gtC rows key:=by
 unfold Az at hb
 have hk0:∀i:Nat,Gg rows key (i:Int) ⟨#[]⟩=(decide (i <rows.length)&&((BJ rows i).key==key)):=fun i=>by
  unfold Gg DN
  rw[nn,Mp,tlb,Int.toNat_natCast]
  rfl
 obtain⟨h1,k,hk,hx,hs,hst,_⟩:=IJ (fun i=>((rows,key,(i:Int),⟨#[]⟩):DM)) rows.length (fun i=>(BJ rows i).key==key) HB HA Ks (I1 (rows,key,0,⟨#[]⟩)) (rows,key,0,⟨#[]⟩) rfl (by show rows.length≤((rows.length:Int) - 0).toNat;omega)
  (fun i _ _=>by
   show((!!decide ((i:Int) <(rows.length:Int)))&&!Gg rows key (i:Int) ⟨#[]⟩)=_
   rw[hk0,nn,Mp]
   cases decide (i <rows.length)<;>rfl)
  (fun i hi _=>by
   show(rows,key,IntKind.i64.wrap ((i:Int)+1),(⟨#[]⟩:ByteArray))=(rows,key,((i+1:Nat):Int),⟨#[]⟩)
   rw[Fp (by omega)])
  (fun i hi _=>by
   have hin:(!!decide ((i:Int) <(rows.length:Int)))=true→(i:Int) <(rows.length:Int):=fun h=>by rw[nn] at h;exact of_decide_eq_true h
   refine Aa (fun h=>⟨by show(0:Int)≤(i:Int);omega,hin h⟩) (Aa (fun h _=>⟨by show(0:Int)≤(i:Int);omega,hin h⟩) (Aa (fun h _=>?_) Ab))
   have h2:=hin h
   show Ai (0+(rows.getD ((i:Int)).toNat (Ae TC.row)).2.length)
   rw[Int.toNat_natCast,Nat.zero_add]
   exact hc _ (getD_in rows (Ae TC.row) i (by omega)))
 have hr:JN (rows,key,0,⟨#[]⟩)=(rows,key,(k:Int),⟨#[]⟩):=hx
 have hat:=Bb9 key rows k hk hs hst
 refine⟨Aa h1 Ab,?_⟩
 have e0:Pu rows key=decide (k <rows.length):=by
  unfold Pu Py Px Pv Pw
  rw[hr]
  show Gg rows key (k:Int) ⟨#[]⟩=_
  rw[hk0]
  rcases Nat.lt_or_ge k rows.length with h|h
  ·have h2:((BJ rows k).key==key)=true:=hst h
   rw[decide_eq_true h,h2]
   rfl
  ·rw[decide_eq_false (by omega)]
   rfl
 unfold Am8 Am9 Ana gtK gtB gtC
 rw[e0,hat]
 unfold Py Px Pv Pw
 rw[hr]
 by_cases h:k <rows.length
 ·rw[decide_eq_true h,if_pos h]
  show KD rows key (k:Int) ⟨#[]⟩=_∧true=true∧KE rows key (k:Int) ⟨#[]⟩=_
  unfold KD KE
  rw[Int.toNat_natCast]
  exact⟨rfl,rfl,rfl⟩
 ·rw[decide_eq_false h,if_neg h]
  exact⟨rfl,rfl,rfl⟩
theorem Bj2 (a0:List TRow) (a1:ByteArray) (hp:∀p∈Aql a0 a1,p):CallOk Try.prog 148 [Ak .rows a0,Ak .str a1] 0 [] 1 (Az2 a0 a1) 1 (Az0 a0 a1):=by
 obtain⟨g1,e1,e2,e3⟩:=Bx1 a0 a1 (hp _ (List.mem_cons_self ..)) (hp _ (List.mem_cons_of_mem _ (List.mem_cons_self ..)))
 have h:=Bph a0 a1 g1
 unfold Anc Anb at h
 rw[e1,e2,e3] at h
 exact h
def Ane:List A→Nat→Objs→Option Bb
 | [y0,y1],nx,o=>match AQ .rows y0,AQ .str y1 with
  |some (a0,p0),some (a1,p1)=>some (1,(Az2 a0 a1).pk (AF nx),nx+1,AE nx (Az0 a0 a1)++o,p0++(p1++(Aql a0 a1)))
  |_,_=>none
 |_,_,_=>none
theorem Bf3:Ft Try.prog 148 Ane:=fun args nx o k x nx' o' ps h=>by
 unfold Ane at h
 split at h<;>first|(cases h;done)|skip
 split at h<;>first|(cases h;done)|skip
 rename_i a0 p0 a1 p1 e0 e1
 cases h
 refine⟨fun hp=>?_,_,rfl⟩
 have q0:=fun p hm=>hp p (List.mem_append.2 (.inl hm))
 have r0:=fun p hm=>hp p (List.mem_append.2 (.inr hm))
 have q1:=fun p hm=>r0 p (List.mem_append.2 (.inl hm))
 have r1:=fun p hm=>r0 p (List.mem_append.2 (.inr hm))
 refine Ah (Ag (Bj2 a0 a1 r1) (Nat.le_refl _) (Ac (Af _ _) (Ac (Af _ _) Ao)) nx o) fun F N R vs hl=>?_
 obtain⟨v0,w0,rfl,h0,hl⟩:=hl.inv
 obtain⟨v1,w1,rfl,h1,hl⟩:=hl.inv
 exact HL.cons (Am e0 q0 h0) (HL.cons (Am e1 q1 h1) (hl))
noncomputable def Bbq:=A7 148 Ane Bbp
theorem Aux:Dd Try.prog Bbq:=Av Bf3 Auw
abbrev DO:Type:=(List TRow)×Bool×Int×TRow×(List TRow)
def NZ (x:DO):St:=⟨54,3,[(0,.sl .row x.1),(3,.own 0 0),(5,.sq 2),(6,.v (.bool x.2.1)),(7,.v (.int .i64 x.2.2.1))],[(0,some (.box 71 [.v (.string x.2.2.2.1.key),.sl .cell x.2.2.2.1.cells])),(2,some (.arr 71 2 (.ty .row x.2.2.2.2)))]⟩
def RG:St→Option DO
 |⟨54,3,[(0,.sl .row z0),(3,.own 0 0),(5,.sq 2),(6,.v (.bool z1)),(7,.v (.int .i64 z2))],[(0,some (.box 71 [.v (.string z3),.sl .cell z4])),(2,some (.arr 71 2 (.ty .row z5)))]⟩=>some (z0,z1,z2,⟨z3,z4⟩,z5)
 |_=>none
theorem Atq:∀s x,RG s=some x→s=NZ x:=fun s x h=>by
 unfold RG at h
 split at h
 ·cases h;rfl
 ·cases h
def Ai7:Dj:=⟨2,3,[0,3,5,6,7],[],[(0,0),(9,2)],[0,9],[5,6],[2,0]⟩
def A9n:DB:=⟨[.nil 5 71 .row],[(0,0),(1,2)],[0,3,5,6,7],[0,1]⟩
def BH (a0:List TRow) (_a1:Bool) (a2:Int) (_a3:TRow) (_a4:List TRow):Bool:=!!decide (a2 <(↑a0.length:Int))
def Gh (a0:List TRow) (a1:Bool) (a2:Int) (a3:TRow) (_a4:List TRow):Bool:=!(a0.getD a2.toNat (Ae TC.row)).1.toList==(bif !a1&&!Op.bytesLess (a0.getD a2.toNat (Ae TC.row)).1.toList a3.1.toList then a3.1 else a3.1).toList
def EM (a0:List TRow) (a1:Bool) (a2:Int) (a3:TRow) (a4:List TRow):List TRow:=bif !a1&&!Op.bytesLess (a0.getD a2.toNat (Ae TC.row)).1.toList a3.1.toList then a4++[TRow.mk a3.1 (Ho a3)] else a4
def LI (a0:List TRow) (a1:Bool) (a2:Int) (a3:TRow) (_a4:List TRow):Bool:=bif !a1&&!Op.bytesLess (a0.getD a2.toNat (Ae TC.row)).1.toList a3.1.toList then true else a1
def LJ (a0:List TRow) (a1:Bool) (a2:Int) (a3:TRow) (_a4:List TRow):TRow:=TRow.mk (bif !a1&&!Op.bytesLess (a0.getD a2.toNat (Ae TC.row)).1.toList a3.1.toList then a3.1 else a3.1) (bif !a1&&!Op.bytesLess (a0.getD a2.toNat (Ae TC.row)).1.toList a3.1.toList then a3.2 else a3.2)
def LK (a0:List TRow) (a1:Bool) (a2:Int) (a3:TRow) (a4:List TRow):List TRow:=bif(Gh a0 a1 a2 a3 a4) then(EM a0 a1 a2 a3 a4)++[a0.getD a2.toNat (Ae TC.row)] else(EM a0 a1 a2 a3 a4)
def HE (x:DO):DO:=(x.1,LI x.1 x.2.1 x.2.2.1 x.2.2.2.1 x.2.2.2.2,IntKind.i64.wrap (x.2.2.1+(1:Int)),LJ x.1 x.2.1 x.2.2.1 x.2.2.2.1 x.2.2.2.2,LK x.1 x.2.1 x.2.2.1 x.2.2.2.1 x.2.2.2.2)
def HD (x:DO):Cnd:=some ((BH x.1 x.2.1 x.2.2.1 x.2.2.2.1 x.2.2.2.2))
def X6 (x:DO):List Prop:=[((BH x.1 x.2.1 x.2.2.1 x.2.2.2.1 x.2.2.2.2)=true→(!x.2.1)=true→(0:Int)≤x.2.2.1∧x.2.2.1 <(↑x.1.length:Int)),((BH x.1 x.2.1 x.2.2.1 x.2.2.2.1 x.2.2.2.2)=true→(!x.2.1&&!Op.bytesLess (x.1.getD x.2.2.1.toNat (Ae TC.row)).1.toList x.2.2.2.1.1.toList)=true→Ai ((0:Nat)+x.2.2.2.1.2.length)),((BH x.1 x.2.1 x.2.2.1 x.2.2.2.1 x.2.2.2.2)=true→(!x.2.1&&!Op.bytesLess (x.1.getD x.2.2.1.toNat (Ae TC.row)).1.toList x.2.2.2.1.1.toList)=true→Ai (x.2.2.2.2.length+(1:Nat))),((BH x.1 x.2.1 x.2.2.1 x.2.2.2.1 x.2.2.2.2)=true→(0:Int)≤x.2.2.1∧x.2.2.1 <(↑x.1.length:Int)),((BH x.1 x.2.1 x.2.2.1 x.2.2.2.1 x.2.2.2.2)=true→(Gh x.1 x.2.1 x.2.2.1 x.2.2.2.1 x.2.2.2.2)=true→(0:Int)≤x.2.2.1∧x.2.2.1 <(↑x.1.length:Int)),((BH x.1 x.2.1 x.2.2.1 x.2.2.2.1 x.2.2.2.2)=true→(Gh x.1 x.2.1 x.2.2.1 x.2.2.2.1 x.2.2.2.2)=true→Ai ((EM x.1 x.2.1 x.2.2.1 x.2.2.2.1 x.2.2.2.2).length+(1:Nat)))]
def Kt (x:DO):List Prop:=[((BH x.1 x.2.1 x.2.2.1 x.2.2.2.1 x.2.2.2.2)=true→(!x.2.1)=true→(0:Int)≤x.2.2.1∧x.2.2.1 <(↑x.1.length:Int)),((BH x.1 x.2.1 x.2.2.1 x.2.2.2.1 x.2.2.2.2)=true→(!x.2.1&&!Op.bytesLess (x.1.getD x.2.2.1.toNat (Ae TC.row)).1.toList x.2.2.2.1.1.toList)=true→Ai ((0:Nat)+x.2.2.2.1.2.length)),((BH x.1 x.2.1 x.2.2.1 x.2.2.2.1 x.2.2.2.2)=true→(!x.2.1&&!Op.bytesLess (x.1.getD x.2.2.1.toNat (Ae TC.row)).1.toList x.2.2.2.1.1.toList)=true→Ai (x.2.2.2.2.length+(1:Nat))),((BH x.1 x.2.1 x.2.2.1 x.2.2.2.1 x.2.2.2.2)=true→(0:Int)≤x.2.2.1∧x.2.2.1 <(↑x.1.length:Int)),((BH x.1 x.2.1 x.2.2.1 x.2.2.2.1 x.2.2.2.2)=true→(Gh x.1 x.2.1 x.2.2.1 x.2.2.2.1 x.2.2.2.2)=true→(0:Int)≤x.2.2.1∧x.2.2.1 <(↑x.1.length:Int)),((BH x.1 x.2.1 x.2.2.1 x.2.2.2.1 x.2.2.2.2)=true→(Gh x.1 x.2.1 x.2.2.1 x.2.2.2.1 x.2.2.2.2)=true→Ai ((EM x.1 x.2.1 x.2.2.1 x.2.2.2.1 x.2.2.2.2).length+(1:Nat)))]
def Vs (x:DO):Bo:=[(some 0,some (!decide (x.2.2.1 <(↑x.1.length:Int))),⟨54,3,[(5,.sq 2),(6,.v (.bool x.2.1))],[(2,some (.arr 71 2 (.ty .row x.2.2.2.2))),(0,some (.box 71 [.v (.string x.2.2.2.1.1),.sl .cell x.2.2.2.1.2]))]⟩)]
def I2 (x:DO):Nat:=((↑x.1.length:Int) - x.2.2.1).toNat
def Hp (x:DO):DO:=Bg HE HD (I2 x) x
theorem A25 (a0:List TRow) (a1:Bool) (a2:Int) (a3:TRow) (a4:List TRow):Bz (AA Bbq L0) 9 (Aj Try.prog 178 0) Ai7 (NZ (a0,a1,a2,a3,a4))=some (X6 (a0,a1,a2,a3,a4),Vs (a0,a1,a2,a3,a4),HD (a0,a1,a2,a3,a4),NZ (HE (a0,a1,a2,a3,a4))):=by kernel_rfl
theorem A26 (a0:List TRow) (a1:Bool) (a2:Int) (a3:TRow) (a4:List TRow) (hp:∀p∈Kt (a0,a1,a2,a3,a4),p):∀p∈X6 (a0,a1,a2,a3,a4),p:=by
 have n0:=N0 hp
 have n1:=N0 (N1 hp)
 have n2:=N0 (N1 (N1 hp))
 have n3:=N0 (N1 (N1 (N1 hp)))
 have n4:=N0 (N1 (N1 (N1 (N1 hp))))
 have n5:=N0 (N1 (N1 (N1 (N1 (N1 hp)))))
 exact(Aa n0 (Aa n1 (Aa n2 (Aa n3 (Aa n4 (Aa n5 Ab))))))
noncomputable def X7:=H1 (AA Bbq L0) (Aj Try.prog 178 0) Ai7 A9n RG I2 HE HD Kt Vs
theorem Az4:∀s b ps outs,X7 s=some (b,ps,outs)→Wf s ⟨ps,outs,none⟩∧Bx (AA C0 L0) b s ps outs:=
 Bm (T:=NZ) Aux AH (u:=9) (by kernel_rfl) (by decide) (fun⟨a0,a1,a2,a3,a4⟩=>A25 a0 a1 a2 a3 a4) (fun⟨a0,a1,a2,a3,a4⟩=>A26 a0 a1 a2 a3 a4) Atq (fun _=>AW (n:=54) rfl) fun _ _=>rfl
noncomputable def Ai6:=DP 0 X7 L0
theorem Az3:Hr Ai6:=A6 Az4 AH
def Mk (a0:List TRow) (a1:TRow):Bool:=!(Hp (a0,false,(0:Int),a1,[])).snd.fst
def Mj (a0:List TRow) (a1:TRow):List TRow:=(Hp (a0,false,(0:Int),a1,[])).snd.snd.snd.snd
def Anf (a0:List TRow) (a1:TRow):List TRow:=bif(Mk a0 a1) then(Mj a0 a1)++[TRow.mk (Hp (a0,false,(0:Int),a1,[])).snd.snd.snd.fst.1 (Ho (Hp (a0,false,(0:Int),a1,[])).snd.snd.snd.fst)] else(Mj a0 a1)
def Anh (_a0:List TRow) (_a1:TRow):A:=.sq 0
def Ang (a0:List TRow) (a1:TRow):Objs:=[(0,some (.arr 71 2 (.ty .row (Anf a0 a1))))]
def Az6 (a0:List TRow) (a1:TRow):List Prop:=[(AL HE HD Kt (I2 (a0,false,(0:Int),a1,[])) (a0,false,(0:Int),a1,[])),((Mk a0 a1)=true→Ai ((0:Nat)+(Hp (a0,false,(0:Int),a1,[])).snd.snd.snd.fst.2.length)),((Mk a0 a1)=true→Ai ((Mj a0 a1).length+(1:Nat)))]
theorem Bj5 (a0:List TRow) (a1:TRow):EQ (AA Bbq Ai6) 9 178 [Ak .rows a0,Ak .row a1] 0 []=some (1,Anh a0 a1,1,Ang a0 a1,[(Aj Try.prog (178:FuncId) (0:Nat)=Aj Try.prog (178:FuncId) (0:Nat)),(AL HE HD Kt (I2 (a0,false,(0:Int),a1,[])) (a0,false,(0:Int),a1,[])),((Mk a0 a1)=true→Ai ((0:Nat)+(Hp (a0,false,(0:Int),a1,[])).snd.snd.snd.fst.2.length)),((Mk a0 a1)=true→Ai ((Mj a0 a1).length+(1:Nat)))]):=by kernel_rfl
theorem Bpi (a0:List TRow) (a1:TRow) (hp:∀p∈Az6 a0 a1,p):CallOk Try.prog 178 [Ak .rows a0,Ak .row a1] 0 [] 1 (Anh a0 a1) 1 (Ang a0 a1):=by
 have n1:=N0 hp
 have n2:=N0 (N1 hp)
 have n3:=N0 (N1 (N1 hp))
 exact AI (Aw Aux Az3) (Bj5 a0 a1) (Aa rfl (Aa n1 (Aa n2 (Aa n3 Ab))))
def B1o (l:List TRow) (r:TRow):List TRow:=B2l r (LR r l l.length)
def Az7 (a0:List TRow) (a1:TRow):A:=.sl .row (B1o a0 a1)
def Az5 (_a0:List TRow) (_a1:TRow):Objs:=[]
def Aqm (a0:List TRow) (a1:TRow):List Prop:=[a0.length≤400000∧Ai a1.cells.length]
theorem Bx2 (rows:List TRow) (r:TRow) (hb:rows.length≤400000) (hc:Ai r.cells.length):(∀p∈Az6 rows r,p)∧Anf rows r=B1o rows r:=by
 have hlt:∀i:Nat,Op.bytesLess (rows.getD ((i:Int)).toNat (Ae TC.row)).1.toList r.1.toList=IW (BJ rows i).key r.key:=fun i=>by rw[Int.toNat_natCast];rfl
 have same:∀(c:Bool) (x:ByteArray),(bif c then x else x)=x:=fun c x=>by cases c<;>rfl
 have hcp:Ho r=r.2:=rfl
 have e1:∀(i:Nat) (d:Bool) (o:List TRow),LI rows d (i:Int) r o=(d||!IW (BJ rows i).key r.key):=fun i d o=>by
  unfold LI
  rw[hlt]
  cases d<;>cases IW (BJ rows i).key r.key<;>rfl
 have e3:∀(i:Nat) (d:Bool) (o:List TRow),LJ rows d (i:Int) r o=r:=fun i d o=>by
  unfold LJ
  rw[hlt]
  cases(!d&&!IW (BJ rows i).key r.key)<;>rfl
 have ek0:∀(i:Nat) (d:Bool) (o:List TRow),EM rows d (i:Int) r o=bif !d&&!IW (BJ rows i).key r.key then o++[r] else o:=fun i d o=>by
  unfold EM
  rw[hlt]
  rfl
 have ek1:∀(i:Nat) (d:Bool) (o:List TRow),Gh rows d (i:Int) r o=!((BJ rows i).key==r.key):=fun i d o=>by
  unfold Gh
  rw[same,tlb,Int.toNat_natCast]
  rfl
 have e4:∀(i:Nat) (d:Bool) (o:List TRow),LK rows d (i:Int) r o=(bif !d&&!IW (BJ rows i).key r.key then o++[r] else o)++(bif(BJ rows i).key==r.key then[] else[BJ rows i]):=fun i d o=>by
  unfold LK
  rw[ek0,ek1,Int.toNat_natCast]
  cases(BJ rows i).key==r.key with
  |true=>exact(List.append_nil _).symm
  |false=>rfl
 have k0len:∀(i:Nat) (d:Bool) (o:List TRow),(EM rows d (i:Int) r o).length≤o.length+1:=fun i d o=>by
  rw[ek0]
  cases(!d&&!IW (BJ rows i).key r.key) with
  |true=>rw[cond_true,List.length_append];exact Nat.le_refl _
  |false=>exact Nat.le_succ _
 obtain⟨h1,hx⟩:=Bnq (fun i=>((rows,(LR r rows i).2,(i:Int),r,(LR r rows i).1):DO)) rows.length HE HD Kt (I2 (rows,false,0,r,[])) (rows,false,0,r,[]) rfl (by show rows.length≤((rows.length:Int) - 0).toNat;omega)
  (fun i _=>by
   show(!!decide ((i:Int) <(rows.length:Int)))=_
   rw[nn,Mp])
  (fun i hi=>by
   show(rows,LI rows (LR r rows i).2 (i:Int) r (LR r rows i).1,IntKind.i64.wrap ((i:Int)+1),LJ rows (LR r rows i).2 (i:Int) r (LR r rows i).1,LK rows (LR r rows i).2 (i:Int) r (LR r rows i).1)=(rows,(LR r rows (i+1)).2,((i+1:Nat):Int),r,(LR r rows (i+1)).1)
   rw[Fp (by omega),e1,e3,e4,A5g r rows i hi]
   rfl)
  (fun i hi=>by
   have hin:(!!decide ((i:Int) <(rows.length:Int)))=true→(i:Int) <(rows.length:Int):=fun h=>by rw[nn] at h;exact of_decide_eq_true h
   have hl:=A0u r rows i hi
   refine Aa (fun h _=>⟨by show(0:Int)≤(i:Int);omega,hin h⟩) (Aa (fun _ _=>?_) (Aa (fun _ _=>?_) (Aa (fun h=>⟨by show(0:Int)≤(i:Int);omega,hin h⟩) (Aa (fun h _=>⟨by show(0:Int)≤(i:Int);omega,hin h⟩) (Aa (fun _ _=>?_) Ab)))))
   ·show Ai (0+r.2.length)
    rw[Nat.zero_add]
    exact hc
   ·show Ai ((LR r rows i).1.length+1)
    unfold Ai
    omega
   ·have:=k0len i (LR r rows i).2 (LR r rows i).1
    show Ai ((EM rows (LR r rows i).2 (i:Int) r (LR r rows i).1).length+1)
    unfold Ai
    omega)
 have hr:Hp (rows,false,0,r,[])=(rows,(LR r rows rows.length).2,(rows.length:Int),r,(LR r rows rows.length).1):=hx
 have hl:=A0u r rows rows.length (Nat.le_refl _)
 refine⟨Aa h1 (Aa (fun _=>?_) (Aa (fun _=>?_) Ab)),?_⟩
 ·rw[hr,Nat.zero_add]
  exact hc
 ·unfold Mj
  rw[hr]
  show Ai ((LR r rows rows.length).1.length+1)
  unfold Ai
  omega
 ·unfold Anf Mk Mj B1o B2l
  rw[hr]
  show(bif !(LR r rows rows.length).2 then(LR r rows rows.length).1++[r] else(LR r rows rows.length).1)=_
  cases(LR r rows rows.length).2<;>rfl
theorem Bj4 (a0:List TRow) (a1:TRow) (hp:∀p∈Aqm a0 a1,p):CallOk Try.prog 178 [Ak .rows a0,Ak .row a1] 0 [] 1 (Az7 a0 a1) 0 (Az5 a0 a1):=by
 obtain⟨h1,h2⟩:=hp _ (List.mem_cons_self ..)
 obtain⟨g1,e1⟩:=Bx2 a0 a1 h1 h2
 have h:=Bpi a0 a1 g1
 unfold Anh Ang at h
 rw[e1] at h
 exact A4c (c:=.row) h
def Ani:List A→Nat→Objs→Option Bb
 | [y0,y1],nx,o=>match AQ .rows y0,AQ .row y1 with
  |some (a0,p0),some (a1,p1)=>some (1,(Az7 a0 a1).pk (AF nx),nx+0,AE nx (Az5 a0 a1)++o,p0++(p1++(Aqm a0 a1)))
  |_,_=>none
 |_,_,_=>none
theorem Bf4:Ft Try.prog 178 Ani:=fun args nx o k x nx' o' ps h=>by
 unfold Ani at h
 split at h<;>first|(cases h;done)|skip
 split at h<;>first|(cases h;done)|skip
 rename_i a0 p0 a1 p1 e0 e1
 cases h
 refine⟨fun hp=>?_,_,rfl⟩
 have q0:=fun p hm=>hp p (List.mem_append.2 (.inl hm))
 have r0:=fun p hm=>hp p (List.mem_append.2 (.inr hm))
 have q1:=fun p hm=>r0 p (List.mem_append.2 (.inl hm))
 have r1:=fun p hm=>r0 p (List.mem_append.2 (.inr hm))
 refine Ah (Ag (Bj4 a0 a1 r1) (Nat.le_refl _) (Ac (Af _ _) (Ac (Af _ _) Ao)) nx o) fun F N R vs hl=>?_
 obtain⟨v0,w0,rfl,h0,hl⟩:=hl.inv
 obtain⟨v1,w1,rfl,h1,hl⟩:=hl.inv
 exact HL.cons (Am e0 q0 h0) (HL.cons (Am e1 q1 h1) (hl))
noncomputable def By7:=A7 178 Ani Bbq
theorem Bri:Dd Try.prog By7:=Av Bf4 Aux
noncomputable def Cmg:=By7
theorem B0k:Dd Try.prog Cmg:=Bri
end Go.Proofs.Yteebobbhhgmeiaa
namespace Go.Proofs.Yteebobbhhgmeiaa
open Go.RowKit
def L4 (a0:Int):A:=.v (.bool (a0==(1:Int)||a0==(2:Int)))
def L3 (_a0:Int):Objs:=[]
def P0 (_a0:Int):List Prop:=[]
theorem Agn (a0:Int):EQ (AA Cb L0) 9 96 [Ak .i64 a0] 0 []=some (1,L4 a0,0,L3 a0,[]):=by kernel_rfl
theorem Akt (a0:Int) (_hp:∀p∈P0 a0,p):CallOk Try.prog 96 [Ak .i64 a0] 0 [] 1 (L4 a0) 0 (L3 a0):=by
 exact AI (Aw Ble AH) (Agn a0) Ab
def L5:List A→Nat→Objs→Option Bb
 | [y0],nx,o=>match AQ .i64 y0 with
  |some (a0,p0)=>some (1,(L4 a0).pk (AF nx),nx+0,AE nx (L3 a0)++o,p0++(P0 a0))
  |_=>none
 |_,_,_=>none
theorem Aca:Ft Try.prog 96 L5:=fun args nx o k x nx' o' ps h=>by
 unfold L5 at h
 split at h<;>first|(cases h;done)|skip
 split at h<;>first|(cases h;done)|skip
 rename_i a0 p0 e0
 cases h
 refine⟨fun hp=>?_,_,rfl⟩
 have q0:=fun p hm=>hp p (List.mem_append.2 (.inl hm))
 have r0:=fun p hm=>hp p (List.mem_append.2 (.inr hm))
 refine Ah (Ag (Akt a0 r0) (Nat.le_refl _) (Ac (Af _ _) Ao) nx o) fun F N R vs hl=>?_
 obtain⟨v0,w0,rfl,h0,hl⟩:=hl.inv
 exact HL.cons (Am e0 q0 h0) (hl)
noncomputable def Bqg:=A7 96 L5 Cb
theorem Ba1:Dd Try.prog Bqg:=Av Aca Ble
def Nf (a0:Int):Bool:=!(a0==(1:Int)||a0==(2:Int))
def Ky (a0:Int):Int:=bif(Nf a0) then(0:Int) else(0:Int)
def Jv (a0:Int):TFront:=TFront.mk (bif(Nf a0) then(0:Int) else a0) (Ky a0) (Ky a0) (Ky a0) (Ky a0)
def Av6 (a0:Int):Int:=bif(Nf a0) then(2:Int) else(0:Int)
def OG (a0:Int):A:=.v (.tuple ⟨[.agg ⟨[.int .i64 ((Jv a0).site),.int .i64 ((Jv a0).acked),.int .i64 ((Jv a0).stable),.int .i64 ((Jv a0).wait),.int .i64 ((Jv a0).til)]⟩,.int .i64 (Av6 a0)]⟩)
def OF (_a0:Int):Objs:=[]
def UI (_a0:Int):List Prop:=[]
theorem Aru (a0:Int):EQ (AA Bqg L0) 9 24 [Ak .i64 a0] 0 []=some (1,OG a0,0,OF a0,[]):=by kernel_rfl
theorem Av7 (a0:Int) (_hp:∀p∈UI a0,p):CallOk Try.prog 24 [Ak .i64 a0] 0 [] 1 (OG a0) 0 (OF a0):=by
 exact AI (Aw Ba1 AH) (Aru a0) Ab
def OH:List A→Nat→Objs→Option Bb
 | [y0],nx,o=>match AQ .i64 y0 with
  |some (a0,p0)=>some (1,(OG a0).pk (AF nx),nx+0,AE nx (OF a0)++o,p0++(UI a0))
  |_=>none
 |_,_,_=>none
theorem Akr:Ft Try.prog 24 OH:=fun args nx o k x nx' o' ps h=>by
 unfold OH at h
 split at h<;>first|(cases h;done)|skip
 split at h<;>first|(cases h;done)|skip
 rename_i a0 p0 e0
 cases h
 refine⟨fun hp=>?_,_,rfl⟩
 have q0:=fun p hm=>hp p (List.mem_append.2 (.inl hm))
 have r0:=fun p hm=>hp p (List.mem_append.2 (.inr hm))
 refine Ah (Ag (Av7 a0 r0) (Nat.le_refl _) (Ac (Af _ _) Ao) nx o) fun F N R vs hl=>?_
 obtain⟨v0,w0,rfl,h0,hl⟩:=hl.inv
 exact HL.cons (Am e0 q0 h0) (hl)
noncomputable def Bqh:=A7 24 OH Bqg
theorem Ba2:Dd Try.prog Bqh:=Av Akr Ba1
def Sd (a0:TFront):Bool:=decide (a0.4 <(0:Int))||decide (a0.4 >(1099511627776:Int))
def Sc (a0:TFront):Bool:=decide (a0.3 <(0:Int))||decide (a0.3 >(1099511627776:Int))
def Sb (a0:TFront):Bool:=decide (a0.2 <(0:Int))||decide (a0.2 >(1099511627776:Int))
def IT (a0:TFront):Bool:=bif(Sb a0)||((Sc a0)||((Sd a0)||(decide (a0.5 <(0:Int))||decide (a0.5 >(1099511627776:Int))))) then bif(Sb a0) then false else bif(Sc a0) then false else bif(Sd a0) then false else false else(a0.1==(1:Int)||a0.1==(2:Int))&&decide (max a0.3 a0.4≤a0.2)&&!(a0.5==(0:Int)&&decide (a0.4 >(0:Int)))
def Nc (a0:TFront):A:=.v (.bool (IT a0))
def Nb (_a0:TFront):Objs:=[]
def Se (_a0:TFront):List Prop:=[]
theorem Akn (a0:TFront):EQ (AA Bqh L0) 9 34 [Ak .front a0] 0 []=some (1,Nc a0,0,Nb a0,[]):=by kernel_rfl
theorem Arp (a0:TFront) (_hp:∀p∈Se a0,p):CallOk Try.prog 34 [Ak .front a0] 0 [] 1 (Nc a0) 0 (Nb a0):=by
 exact AI (Aw Ba2 AH) (Akn a0) Ab
def Nd:List A→Nat→Objs→Option Bb
 | [y0],nx,o=>match AQ .front y0 with
  |some (a0,p0)=>some (1,(Nc a0).pk (AF nx),nx+0,AE nx (Nb a0)++o,p0++(Se a0))
  |_=>none
 |_,_,_=>none
theorem Agg:Ft Try.prog 34 Nd:=fun args nx o k x nx' o' ps h=>by
 unfold Nd at h
 split at h<;>first|(cases h;done)|skip
 split at h<;>first|(cases h;done)|skip
 rename_i a0 p0 e0
 cases h
 refine⟨fun hp=>?_,_,rfl⟩
 have q0:=fun p hm=>hp p (List.mem_append.2 (.inl hm))
 have r0:=fun p hm=>hp p (List.mem_append.2 (.inr hm))
 refine Ah (Ag (Arp a0 r0) (Nat.le_refl _) (Ac (Af _ _) Ao) nx o) fun F N R vs hl=>?_
 obtain⟨v0,w0,rfl,h0,hl⟩:=hl.inv
 exact HL.cons (Am e0 q0 h0) (hl)
noncomputable def Bqi:=A7 34 Nd Bqh
theorem Ba3:Dd Try.prog Bqi:=Av Agg Ba2
def De (a0:TFront) (a1:TVec):Int:=bif !IT a0||!Bv a1 then(2:Int) else(0:Int)
def L1 (a0:TFront) (a1:TVec):A:=.v (.int .i64 (De a0 a1))
def LZ (_a0:TFront) (_a1:TVec):Objs:=[]
def PZ (_a0:TFront) (_a1:TVec):List Prop:=[]
theorem Agm (a0:TFront) (a1:TVec):EQ (AA Bqi L0) 9 97 [Ak .front a0,Ak .vec a1] 0 []=some (1,L1 a0 a1,0,LZ a0 a1,[]):=by kernel_rfl
theorem Aks (a0:TFront) (a1:TVec) (_hp:∀p∈PZ a0 a1,p):CallOk Try.prog 97 [Ak .front a0,Ak .vec a1] 0 [] 1 (L1 a0 a1) 0 (LZ a0 a1):=by
 exact AI (Aw Ba3 AH) (Agm a0 a1) Ab
def L2:List A→Nat→Objs→Option Bb
 | [y0,y1],nx,o=>match AQ .front y0,AQ .vec y1 with
  |some (a0,p0),some (a1,p1)=>some (1,(L1 a0 a1).pk (AF nx),nx+0,AE nx (LZ a0 a1)++o,p0++(p1++(PZ a0 a1)))
  |_,_=>none
 |_,_,_=>none
theorem Ab9:Ft Try.prog 97 L2:=fun args nx o k x nx' o' ps h=>by
 unfold L2 at h
 split at h<;>first|(cases h;done)|skip
 split at h<;>first|(cases h;done)|skip
 rename_i a0 p0 a1 p1 e0 e1
 cases h
 refine⟨fun hp=>?_,_,rfl⟩
 have q0:=fun p hm=>hp p (List.mem_append.2 (.inl hm))
 have r0:=fun p hm=>hp p (List.mem_append.2 (.inr hm))
 have q1:=fun p hm=>r0 p (List.mem_append.2 (.inl hm))
 have r1:=fun p hm=>r0 p (List.mem_append.2 (.inr hm))
 refine Ah (Ag (Aks a0 a1 r1) (Nat.le_refl _) (Ac (Af _ _) (Ac (Af _ _) Ao)) nx o) fun F N R vs hl=>?_
 obtain⟨v0,w0,rfl,h0,hl⟩:=hl.inv
 obtain⟨v1,w1,rfl,h1,hl⟩:=hl.inv
 exact HL.cons (Am e0 q0 h0) (HL.cons (Am e1 q1 h1) (hl))
noncomputable def Bqj:=A7 97 L2 Bqi
theorem Ba4:Dd Try.prog Bqj:=Av Ab9 Ba3
theorem B1d {s:Int} (h:s=1∨s=2):0≤IntKind.i64.wrap (2 - s)∧IntKind.i64.wrap (2 - s) <2:=by
 rcases h with rfl|rfl<;>decide
theorem B2v {s:Int} (h:s=1∨s=2):0≤IntKind.i64.wrap (s - 1)∧IntKind.i64.wrap (s - 1) <2:=by
 rcases h with rfl|rfl<;>decide
theorem Oz {f:TFront} {v:TVec} (h:(!(De f v !=0))=true):f.site=1∨f.site=2:=by
 have hg:IT f=true:=by
  unfold De at h
  cases hg:IT f with
  |true=>rfl
  |false=>rw[hg] at h;cases h
 unfold IT at hg
 rw[Bool.cond_eq_ite] at hg
 split at hg
 ·repeat' (first|(cases hg;done)|(rw[Bool.cond_eq_ite] at hg;split at hg))
 ·simp only[Bool.and_eq_true,Bool.or_eq_true,beq_iff_eq] at hg
  exact hg.1.1
theorem B26 {c d:Bool} {s:Int}:(bif c then s else bif d then s else s)=s:=by cases c<;>cases d<;>rfl
def AM (a0:TFront) (_a1:TVec):Int:=IntKind.i64.wrap ((2:Int) - a0.1)
def Au (a0:TFront) (a1:TVec):Int:=bif(AM a0 a1).toNat.beq (0:Nat) then a1.1 else a1.2
def Je (a0:TFront) (a1:TVec):A:=.v (.int .i64 (Au a0 a1))
def Jd (_a0:TFront) (_a1:TVec):Objs:=[]
def Lc (a0:TFront) (a1:TVec):List Prop:=[((0:Int)≤(AM a0 a1)∧(AM a0 a1) <(2:Int))]
theorem TH (a0:TFront) (a1:TVec):EQ (AA Bqj L0) 9 98 [Ak .front a0,Ak .vec a1] 0 []=some (1,Je a0 a1,0,Jd a0 a1,[((0:Int)≤(AM a0 a1)∧(AM a0 a1) <(2:Int)),((AM a0 a1).toNat <(2:Nat))]):=by kernel_rfl
theorem VJ (a0:TFront) (a1:TVec) (hp:∀p∈Lc a0 a1,p):CallOk Try.prog 98 [Ak .front a0,Ak .vec a1] 0 [] 1 (Je a0 a1) 0 (Jd a0 a1):=by
 have n0:=N0 hp
 have n1:((AM a0 a1).toNat <(2:Nat)):=by omega
 exact AI (Aw Ba4 AH) (TH a0 a1) (Aa n0 (Aa n1 Ab))
def Jf:List A→Nat→Objs→Option Bb
 | [y0,y1],nx,o=>match AQ .front y0,AQ .vec y1 with
  |some (a0,p0),some (a1,p1)=>some (1,(Je a0 a1).pk (AF nx),nx+0,AE nx (Jd a0 a1)++o,p0++(p1++(Lc a0 a1)))
  |_,_=>none
 |_,_,_=>none
theorem Sa:Ft Try.prog 98 Jf:=fun args nx o k x nx' o' ps h=>by
 unfold Jf at h
 split at h<;>first|(cases h;done)|skip
 split at h<;>first|(cases h;done)|skip
 rename_i a0 p0 a1 p1 e0 e1
 cases h
 refine⟨fun hp=>?_,_,rfl⟩
 have q0:=fun p hm=>hp p (List.mem_append.2 (.inl hm))
 have r0:=fun p hm=>hp p (List.mem_append.2 (.inr hm))
 have q1:=fun p hm=>r0 p (List.mem_append.2 (.inl hm))
 have r1:=fun p hm=>r0 p (List.mem_append.2 (.inr hm))
 refine Ah (Ag (VJ a0 a1 r1) (Nat.le_refl _) (Ac (Af _ _) (Ac (Af _ _) Ao)) nx o) fun F N R vs hl=>?_
 obtain⟨v0,w0,rfl,h0,hl⟩:=hl.inv
 obtain⟨v1,w1,rfl,h1,hl⟩:=hl.inv
 exact HL.cons (Am e0 q0 h0) (HL.cons (Am e1 q1 h1) (hl))
noncomputable def Bqk:=A7 98 Jf Bqj
theorem Ba5:Dd Try.prog Bqk:=Av Sa Ba4
def Dk (a0:TFront) (a1:TVec):Bool:=decide (a0.5 >(0:Int))&&decide (Au a0 a1≥a0.5)
def AO (a0:TFront) (a1:TVec):TFront:=TFront.mk (bif(Dk a0 a1) then a0.1 else a0.1) (bif(Dk a0 a1) then a0.2 else a0.2) (bif(Dk a0 a1) then max a0.3 a0.4 else a0.3) (bif(Dk a0 a1) then(0:Int) else a0.4) (bif(Dk a0 a1) then(0:Int) else a0.5)
def HY (a0:TFront) (a1:TVec):A:=.v (.agg ⟨[.int .i64 ((AO a0 a1).site),.int .i64 ((AO a0 a1).acked),.int .i64 ((AO a0 a1).stable),.int .i64 ((AO a0 a1).wait),.int .i64 ((AO a0 a1).til)]⟩)
def HX (_a0:TFront) (_a1:TVec):Objs:=[]
def Kf (a0:TFront) (a1:TVec):List Prop:=[(decide (a0.5 >(0:Int))=true→(0:Int)≤AM a0 a1∧AM a0 a1 <(2:Int))]
theorem PM (a0:TFront) (a1:TVec):EQ (AA Bqk L0) 9 99 [Ak .front a0,Ak .vec a1] 0 []=some (1,HY a0 a1,0,HX a0 a1,[(decide (a0.5 >(0:Int))=true→(0:Int)≤AM a0 a1∧AM a0 a1 <(2:Int))]):=by kernel_rfl
theorem Q4 (a0:TFront) (a1:TVec) (hp:∀p∈Kf a0 a1,p):CallOk Try.prog 99 [Ak .front a0,Ak .vec a1] 0 [] 1 (HY a0 a1) 0 (HX a0 a1):=by
 have n0:=N0 hp
 exact AI (Aw Ba5 AH) (PM a0 a1) (Aa n0 Ab)
def HZ:List A→Nat→Objs→Option Bb
 | [y0,y1],nx,o=>match AQ .front y0,AQ .vec y1 with
  |some (a0,p0),some (a1,p1)=>some (1,(HY a0 a1).pk (AF nx),nx+0,AE nx (HX a0 a1)++o,p0++(p1++(Kf a0 a1)))
  |_,_=>none
 |_,_,_=>none
theorem OB:Ft Try.prog 99 HZ:=fun args nx o k x nx' o' ps h=>by
 unfold HZ at h
 split at h<;>first|(cases h;done)|skip
 split at h<;>first|(cases h;done)|skip
 rename_i a0 p0 a1 p1 e0 e1
 cases h
 refine⟨fun hp=>?_,_,rfl⟩
 have q0:=fun p hm=>hp p (List.mem_append.2 (.inl hm))
 have r0:=fun p hm=>hp p (List.mem_append.2 (.inr hm))
 have q1:=fun p hm=>r0 p (List.mem_append.2 (.inl hm))
 have r1:=fun p hm=>r0 p (List.mem_append.2 (.inr hm))
 refine Ah (Ag (Q4 a0 a1 r1) (Nat.le_refl _) (Ac (Af _ _) (Ac (Af _ _) Ao)) nx o) fun F N R vs hl=>?_
 obtain⟨v0,w0,rfl,h0,hl⟩:=hl.inv
 obtain⟨v1,w1,rfl,h1,hl⟩:=hl.inv
 exact HL.cons (Am e0 q0 h0) (HL.cons (Am e1 q1 h1) (hl))
noncomputable def Bql:=A7 99 HZ Bqk
theorem Ba6:Dd Try.prog Bql:=Av OB Ba5
def Ji (a0:TFront) (a1:TVec) (a2:Int) (_a3:Int):Int:=AM (TFront.mk a0.1 (max a0.2 a2) a0.3 a0.4 a0.5) a1
def A8 (a0:TFront) (a1:TVec) (_a2:Int) (_a3:Int):Bool:=De a0 a1 !=(0:Int)
def CH (a0:TFront) (_a1:TVec) (_a2:Int) (_a3:Int):Int:=IntKind.i64.wrap (a0.1 - (1:Int))
def BS (a0:TFront) (a1:TVec) (a2:Int) (a3:Int):Bool:=decide (a2 <(0:Int))||decide (a2 >bif(CH a0 a1 a2 a3).toNat.beq (0:Nat) then a1.1 else a1.2)||decide (a3 <(0:Int))||decide (a3 >(1099511627776:Int))
def Jh (a0:TFront) (a1:TVec) (a2:Int) (a3:Int):Int:=AM (TFront.mk (bif decide (Au (TFront.mk a0.1 (max a0.2 a2) a0.3 a0.4 a0.5) a1≥a3) then a0.1 else bif a0.5==(0:Int)&&decide (a2 >a0.3) then a0.1 else a0.1) (bif decide (Au (TFront.mk a0.1 (max a0.2 a2) a0.3 a0.4 a0.5) a1≥a3) then max a0.2 a2 else bif a0.5==(0:Int)&&decide (a2 >a0.3) then max a0.2 a2 else max a0.2 a2) (bif decide (Au (TFront.mk a0.1 (max a0.2 a2) a0.3 a0.4 a0.5) a1≥a3) then max a0.3 a2 else bif a0.5==(0:Int)&&decide (a2 >a0.3) then a0.3 else a0.3) (bif decide (Au (TFront.mk a0.1 (max a0.2 a2) a0.3 a0.4 a0.5) a1≥a3) then a0.4 else bif a0.5==(0:Int)&&decide (a2 >a0.3) then a2 else a0.4) (bif decide (Au (TFront.mk a0.1 (max a0.2 a2) a0.3 a0.4 a0.5) a1≥a3) then a0.5 else bif a0.5==(0:Int)&&decide (a2 >a0.3) then a3 else a0.5)) a1
def H9 (a0:TFront) (a1:TVec) (a2:Int) (a3:Int):TFront:=TFront.mk (bif(A8 a0 a1 a2 a3) then(0:Int) else bif(BS a0 a1 a2 a3) then(0:Int) else(AO (TFront.mk (bif decide (Au (TFront.mk a0.1 (max a0.2 a2) a0.3 a0.4 a0.5) a1≥a3) then a0.1 else bif a0.5==(0:Int)&&decide (a2 >a0.3) then a0.1 else a0.1) (bif decide (Au (TFront.mk a0.1 (max a0.2 a2) a0.3 a0.4 a0.5) a1≥a3) then max a0.2 a2 else bif a0.5==(0:Int)&&decide (a2 >a0.3) then max a0.2 a2 else max a0.2 a2) (bif decide (Au (TFront.mk a0.1 (max a0.2 a2) a0.3 a0.4 a0.5) a1≥a3) then max a0.3 a2 else bif a0.5==(0:Int)&&decide (a2 >a0.3) then a0.3 else a0.3) (bif decide (Au (TFront.mk a0.1 (max a0.2 a2) a0.3 a0.4 a0.5) a1≥a3) then a0.4 else bif a0.5==(0:Int)&&decide (a2 >a0.3) then a2 else a0.4) (bif decide (Au (TFront.mk a0.1 (max a0.2 a2) a0.3 a0.4 a0.5) a1≥a3) then a0.5 else bif a0.5==(0:Int)&&decide (a2 >a0.3) then a3 else a0.5)) a1).1) (bif(A8 a0 a1 a2 a3) then(0:Int) else bif(BS a0 a1 a2 a3) then(0:Int) else(AO (TFront.mk (bif decide (Au (TFront.mk a0.1 (max a0.2 a2) a0.3 a0.4 a0.5) a1≥a3) then a0.1 else bif a0.5==(0:Int)&&decide (a2 >a0.3) then a0.1 else a0.1) (bif decide (Au (TFront.mk a0.1 (max a0.2 a2) a0.3 a0.4 a0.5) a1≥a3) then max a0.2 a2 else bif a0.5==(0:Int)&&decide (a2 >a0.3) then max a0.2 a2 else max a0.2 a2) (bif decide (Au (TFront.mk a0.1 (max a0.2 a2) a0.3 a0.4 a0.5) a1≥a3) then max a0.3 a2 else bif a0.5==(0:Int)&&decide (a2 >a0.3) then a0.3 else a0.3) (bif decide (Au (TFront.mk a0.1 (max a0.2 a2) a0.3 a0.4 a0.5) a1≥a3) then a0.4 else bif a0.5==(0:Int)&&decide (a2 >a0.3) then a2 else a0.4) (bif decide (Au (TFront.mk a0.1 (max a0.2 a2) a0.3 a0.4 a0.5) a1≥a3) then a0.5 else bif a0.5==(0:Int)&&decide (a2 >a0.3) then a3 else a0.5)) a1).2) (bif(A8 a0 a1 a2 a3) then(0:Int) else bif(BS a0 a1 a2 a3) then(0:Int) else(AO (TFront.mk (bif decide (Au (TFront.mk a0.1 (max a0.2 a2) a0.3 a0.4 a0.5) a1≥a3) then a0.1 else bif a0.5==(0:Int)&&decide (a2 >a0.3) then a0.1 else a0.1) (bif decide (Au (TFront.mk a0.1 (max a0.2 a2) a0.3 a0.4 a0.5) a1≥a3) then max a0.2 a2 else bif a0.5==(0:Int)&&decide (a2 >a0.3) then max a0.2 a2 else max a0.2 a2) (bif decide (Au (TFront.mk a0.1 (max a0.2 a2) a0.3 a0.4 a0.5) a1≥a3) then max a0.3 a2 else bif a0.5==(0:Int)&&decide (a2 >a0.3) then a0.3 else a0.3) (bif decide (Au (TFront.mk a0.1 (max a0.2 a2) a0.3 a0.4 a0.5) a1≥a3) then a0.4 else bif a0.5==(0:Int)&&decide (a2 >a0.3) then a2 else a0.4) (bif decide (Au (TFront.mk a0.1 (max a0.2 a2) a0.3 a0.4 a0.5) a1≥a3) then a0.5 else bif a0.5==(0:Int)&&decide (a2 >a0.3) then a3 else a0.5)) a1).3) (bif(A8 a0 a1 a2 a3) then(0:Int) else bif(BS a0 a1 a2 a3) then(0:Int) else(AO (TFront.mk (bif decide (Au (TFront.mk a0.1 (max a0.2 a2) a0.3 a0.4 a0.5) a1≥a3) then a0.1 else bif a0.5==(0:Int)&&decide (a2 >a0.3) then a0.1 else a0.1) (bif decide (Au (TFront.mk a0.1 (max a0.2 a2) a0.3 a0.4 a0.5) a1≥a3) then max a0.2 a2 else bif a0.5==(0:Int)&&decide (a2 >a0.3) then max a0.2 a2 else max a0.2 a2) (bif decide (Au (TFront.mk a0.1 (max a0.2 a2) a0.3 a0.4 a0.5) a1≥a3) then max a0.3 a2 else bif a0.5==(0:Int)&&decide (a2 >a0.3) then a0.3 else a0.3) (bif decide (Au (TFront.mk a0.1 (max a0.2 a2) a0.3 a0.4 a0.5) a1≥a3) then a0.4 else bif a0.5==(0:Int)&&decide (a2 >a0.3) then a2 else a0.4) (bif decide (Au (TFront.mk a0.1 (max a0.2 a2) a0.3 a0.4 a0.5) a1≥a3) then a0.5 else bif a0.5==(0:Int)&&decide (a2 >a0.3) then a3 else a0.5)) a1).4) (bif(A8 a0 a1 a2 a3) then(0:Int) else bif(BS a0 a1 a2 a3) then(0:Int) else(AO (TFront.mk (bif decide (Au (TFront.mk a0.1 (max a0.2 a2) a0.3 a0.4 a0.5) a1≥a3) then a0.1 else bif a0.5==(0:Int)&&decide (a2 >a0.3) then a0.1 else a0.1) (bif decide (Au (TFront.mk a0.1 (max a0.2 a2) a0.3 a0.4 a0.5) a1≥a3) then max a0.2 a2 else bif a0.5==(0:Int)&&decide (a2 >a0.3) then max a0.2 a2 else max a0.2 a2) (bif decide (Au (TFront.mk a0.1 (max a0.2 a2) a0.3 a0.4 a0.5) a1≥a3) then max a0.3 a2 else bif a0.5==(0:Int)&&decide (a2 >a0.3) then a0.3 else a0.3) (bif decide (Au (TFront.mk a0.1 (max a0.2 a2) a0.3 a0.4 a0.5) a1≥a3) then a0.4 else bif a0.5==(0:Int)&&decide (a2 >a0.3) then a2 else a0.4) (bif decide (Au (TFront.mk a0.1 (max a0.2 a2) a0.3 a0.4 a0.5) a1≥a3) then a0.5 else bif a0.5==(0:Int)&&decide (a2 >a0.3) then a3 else a0.5)) a1).5)
def Ako (a0:TFront) (a1:TVec) (a2:Int) (a3:Int):Int:=bif(A8 a0 a1 a2 a3) then De a0 a1 else bif(BS a0 a1 a2 a3) then(2:Int) else(0:Int)
def LX (a0:TFront) (a1:TVec) (a2:Int) (a3:Int):A:=.v (.tuple ⟨[.agg ⟨[.int .i64 ((H9 a0 a1 a2 a3).site),.int .i64 ((H9 a0 a1 a2 a3).acked),.int .i64 ((H9 a0 a1 a2 a3).stable),.int .i64 ((H9 a0 a1 a2 a3).wait),.int .i64 ((H9 a0 a1 a2 a3).til)]⟩,.int .i64 (Ako a0 a1 a2 a3)]⟩)
def LW (_a0:TFront) (_a1:TVec) (_a2:Int) (_a3:Int):Objs:=[]
def PX (a0:TFront) (a1:TVec) (a2:Int) (a3:Int):List Prop:=[((!(A8 a0 a1 a2 a3))=true→decide (a2 <(0:Int))=false→(0:Int)≤(CH a0 a1 a2 a3)∧(CH a0 a1 a2 a3) <(2:Int)),((!(A8 a0 a1 a2 a3))=true→(!(BS a0 a1 a2 a3))=true→(0:Int)≤(Ji a0 a1 a2 a3)∧(Ji a0 a1 a2 a3) <(2:Int)),((!(A8 a0 a1 a2 a3))=true→(!(BS a0 a1 a2 a3))=true→decide ((bif decide (Au (TFront.mk a0.1 (max a0.2 a2) a0.3 a0.4 a0.5) a1≥a3) then a0.5 else bif a0.5==(0:Int)&&decide (a2 >a0.3) then a3 else a0.5) >(0:Int))=true→(0:Int)≤(Jh a0 a1 a2 a3)∧(Jh a0 a1 a2 a3) <(2:Int))]
theorem Agh (a0:TFront) (a1:TVec) (a2:Int) (a3:Int):EQ (AA Bql L0) 9 26 [Ak .front a0,Ak .vec a1,Ak .i64 a2,Ak .i64 a3] 0 []=some (1,LX a0 a1 a2 a3,0,LW a0 a1 a2 a3,[((!(A8 a0 a1 a2 a3))=true→decide (a2 <(0:Int))=false→(0:Int)≤(CH a0 a1 a2 a3)∧(CH a0 a1 a2 a3) <(2:Int)),((!(A8 a0 a1 a2 a3))=true→decide (a2 <(0:Int))=false→(CH a0 a1 a2 a3).toNat <(2:Nat)),((!(A8 a0 a1 a2 a3))=true→(!(BS a0 a1 a2 a3))=true→(0:Int)≤(Ji a0 a1 a2 a3)∧(Ji a0 a1 a2 a3) <(2:Int)),((!(A8 a0 a1 a2 a3))=true→(!(BS a0 a1 a2 a3))=true→decide ((bif decide (Au (TFront.mk a0.1 (max a0.2 a2) a0.3 a0.4 a0.5) a1≥a3) then a0.5 else bif a0.5==(0:Int)&&decide (a2 >a0.3) then a3 else a0.5) >(0:Int))=true→(0:Int)≤(Jh a0 a1 a2 a3)∧(Jh a0 a1 a2 a3) <(2:Int))]):=by kernel_rfl
theorem Akp (a0:TFront) (a1:TVec) (a2:Int) (a3:Int) (hp:∀p∈PX a0 a1 a2 a3,p):CallOk Try.prog 26 [Ak .front a0,Ak .vec a1,Ak .i64 a2,Ak .i64 a3] 0 [] 1 (LX a0 a1 a2 a3) 0 (LW a0 a1 a2 a3):=by
 have n0:((!(A8 a0 a1 a2 a3))=true→decide (a2 <(0:Int))=false→(0:Int)≤(CH a0 a1 a2 a3)∧(CH a0 a1 a2 a3) <(2:Int)):=N0 hp
 have n1:((!(A8 a0 a1 a2 a3))=true→decide (a2 <(0:Int))=false→(CH a0 a1 a2 a3).toNat <(2:Nat)):=by intro h0 h1;have g:=n0 h0 h1;omega
 have n2:=N0 (N1 hp)
 have n3:=N0 (N1 (N1 hp))
 exact AI (Aw Ba6 AH) (Agh a0 a1 a2 a3) (Aa n0 (Aa n1 (Aa n2 (Aa n3 Ab))))
theorem Ab5 (a0:TFront) (a1:TVec) (a2:Int) (a3:Int):∀p∈PX a0 a1 a2 a3,p:=by
 refine Aa (fun h _=>B2v (Oz (f:=a0) (v:=a1) h)) (Aa (fun h _=>B1d (Oz (f:=a0) (v:=a1) h)) (Aa (fun h _ _=>?_) Ab))
 show 0≤IntKind.i64.wrap (2 - (bif _ then a0.1 else bif _ then a0.1 else a0.1))∧IntKind.i64.wrap (2 - (bif _ then a0.1 else bif _ then a0.1 else a0.1)) <2
 rw[B26]
 exact B1d (Oz (f:=a0) (v:=a1) h)
def LY:List A→Nat→Objs→Option Bb
 | [y0,y1,y2,y3],nx,o=>match AQ .front y0,AQ .vec y1,AQ .i64 y2,AQ .i64 y3 with
  |some (a0,p0),some (a1,p1),some (a2,p2),some (a3,p3)=>some (1,(LX a0 a1 a2 a3).pk (AF nx),nx+0,AE nx (LW a0 a1 a2 a3)++o,p0++(p1++(p2++(p3++(([]:List Prop))))))
  |_,_,_,_=>none
 |_,_,_=>none
theorem Ab6:Ft Try.prog 26 LY:=fun args nx o k x nx' o' ps h=>by
 unfold LY at h
 split at h<;>first|(cases h;done)|skip
 split at h<;>first|(cases h;done)|skip
 rename_i a0 p0 a1 p1 a2 p2 a3 p3 e0 e1 e2 e3
 cases h
 refine⟨fun hp=>?_,_,rfl⟩
 have q0:=fun p hm=>hp p (List.mem_append.2 (.inl hm))
 have r0:=fun p hm=>hp p (List.mem_append.2 (.inr hm))
 have q1:=fun p hm=>r0 p (List.mem_append.2 (.inl hm))
 have r1:=fun p hm=>r0 p (List.mem_append.2 (.inr hm))
 have q2:=fun p hm=>r1 p (List.mem_append.2 (.inl hm))
 have r2:=fun p hm=>r1 p (List.mem_append.2 (.inr hm))
 have q3:=fun p hm=>r2 p (List.mem_append.2 (.inl hm))
 refine Ah (Ag (Akp a0 a1 a2 a3 (Ab5 a0 a1 a2 a3)) (Nat.le_refl _) (Ac (Af _ _) (Ac (Af _ _) (Ac (Af _ _) (Ac (Af _ _) Ao)))) nx o) fun F N R vs hl=>?_
 obtain⟨v0,w0,rfl,h0,hl⟩:=hl.inv
 obtain⟨v1,w1,rfl,h1,hl⟩:=hl.inv
 obtain⟨v2,w2,rfl,h2,hl⟩:=hl.inv
 obtain⟨v3,w3,rfl,h3,hl⟩:=hl.inv
 exact HL.cons (Am e0 q0 h0) (HL.cons (Am e1 q1 h1) (HL.cons (Am e2 q2 h2) (HL.cons (Am e3 q3 h3) (hl))))
noncomputable def Bqm:=A7 26 LY Bql
theorem Ba7:Dd Try.prog Bqm:=Av Ab6 Ba6
def CT (a0:TFront) (a1:TVec):Bool:=De a0 a1 !=(0:Int)
def HJ (a0:TFront) (a1:TVec):TFront:=TFront.mk (bif(CT a0 a1) then(0:Int) else(AO a0 a1).1) (bif(CT a0 a1) then(0:Int) else(AO a0 a1).2) (bif(CT a0 a1) then(0:Int) else(AO a0 a1).3) (bif(CT a0 a1) then(0:Int) else(AO a0 a1).4) (bif(CT a0 a1) then(0:Int) else(AO a0 a1).5)
def Agi (a0:TFront) (a1:TVec):Int:=bif(CT a0 a1) then De a0 a1 else(0:Int)
def Le (a0:TFront) (a1:TVec):A:=.v (.tuple ⟨[.agg ⟨[.int .i64 ((HJ a0 a1).site),.int .i64 ((HJ a0 a1).acked),.int .i64 ((HJ a0 a1).stable),.int .i64 ((HJ a0 a1).wait),.int .i64 ((HJ a0 a1).til)]⟩,.int .i64 (Agi a0 a1)]⟩)
def Ld (_a0:TFront) (_a1:TVec):Objs:=[]
def OI (a0:TFront) (a1:TVec):List Prop:=[((!(CT a0 a1))=true→decide (a0.5 >(0:Int))=true→(0:Int)≤AM a0 a1∧AM a0 a1 <(2:Int))]
theorem Ab7 (a0:TFront) (a1:TVec):EQ (AA Bqm L0) 9 27 [Ak .front a0,Ak .vec a1] 0 []=some (1,Le a0 a1,0,Ld a0 a1,[((!(CT a0 a1))=true→decide (a0.5 >(0:Int))=true→(0:Int)≤AM a0 a1∧AM a0 a1 <(2:Int))]):=by kernel_rfl
theorem Agj (a0:TFront) (a1:TVec) (hp:∀p∈OI a0 a1,p):CallOk Try.prog 27 [Ak .front a0,Ak .vec a1] 0 [] 1 (Le a0 a1) 0 (Ld a0 a1):=by
 have n0:=N0 hp
 exact AI (Aw Ba7 AH) (Ab7 a0 a1) (Aa n0 Ab)
theorem Zf (a0:TFront) (a1:TVec):∀p∈OI a0 a1,p:=
 Aa (fun h _=>B1d (Oz (f:=a0) (v:=a1) h)) Ab
def Lf:List A→Nat→Objs→Option Bb
 | [y0,y1],nx,o=>match AQ .front y0,AQ .vec y1 with
  |some (a0,p0),some (a1,p1)=>some (1,(Le a0 a1).pk (AF nx),nx+0,AE nx (Ld a0 a1)++o,p0++(p1++(([]:List Prop))))
  |_,_=>none
 |_,_,_=>none
theorem Zg:Ft Try.prog 27 Lf:=fun args nx o k x nx' o' ps h=>by
 unfold Lf at h
 split at h<;>first|(cases h;done)|skip
 split at h<;>first|(cases h;done)|skip
 rename_i a0 p0 a1 p1 e0 e1
 cases h
 refine⟨fun hp=>?_,_,rfl⟩
 have q0:=fun p hm=>hp p (List.mem_append.2 (.inl hm))
 have r0:=fun p hm=>hp p (List.mem_append.2 (.inr hm))
 have q1:=fun p hm=>r0 p (List.mem_append.2 (.inl hm))
 refine Ah (Ag (Agj a0 a1 (Zf a0 a1)) (Nat.le_refl _) (Ac (Af _ _) (Ac (Af _ _) Ao)) nx o) fun F N R vs hl=>?_
 obtain⟨v0,w0,rfl,h0,hl⟩:=hl.inv
 obtain⟨v1,w1,rfl,h1,hl⟩:=hl.inv
 exact HL.cons (Am e0 q0 h0) (HL.cons (Am e1 q1 h1) (hl))
noncomputable def Bqn:=A7 27 Lf Bqm
theorem Ba8:Dd Try.prog Bqn:=Av Zg Ba7
def CU (a0:TFront) (a1:TVec):Bool:=De a0 a1 !=(0:Int)
def BL (a0:TFront) (_a1:TVec):Int:=IntKind.i64.wrap (a0.1 - (1:Int))
def PY (a0:TFront) (a1:TVec):TVec:=TVec.mk (bif(CU a0 a1) then(0:Int) else bif(BL a0 a1).toNat.beq (0:Nat) then a0.3 else a1.1) (bif(CU a0 a1) then(0:Int) else bif(BL a0 a1).toNat.beq (1:Nat) then a0.3 else a1.2)
def Agk (a0:TFront) (a1:TVec):Int:=bif(CU a0 a1) then De a0 a1 else(0:Int)
def Lh (a0:TFront) (a1:TVec):A:=.v (.tuple ⟨[.agg ⟨[.int .i64 ((PY a0 a1).a),.int .i64 ((PY a0 a1).b)]⟩,.int .i64 (Agk a0 a1)]⟩)
def Lg (_a0:TFront) (_a1:TVec):Objs:=[]
def OJ (a0:TFront) (a1:TVec):List Prop:=[((!(CU a0 a1))=true→(0:Int)≤(BL a0 a1)∧(BL a0 a1) <(2:Int))]
theorem Ab8 (a0:TFront) (a1:TVec):EQ (AA Bqn L0) 9 31 [Ak .front a0,Ak .vec a1] 0 []=some (1,Lh a0 a1,0,Lg a0 a1,[((!(CU a0 a1))=true→(0:Int)≤(BL a0 a1)∧(BL a0 a1) <(2:Int)),((!(CU a0 a1))=true→(BL a0 a1).toNat <(2:Nat))]):=by kernel_rfl
theorem Agl (a0:TFront) (a1:TVec) (hp:∀p∈OJ a0 a1,p):CallOk Try.prog 31 [Ak .front a0,Ak .vec a1] 0 [] 1 (Lh a0 a1) 0 (Lg a0 a1):=by
 have n0:((!(CU a0 a1))=true→(0:Int)≤(BL a0 a1)∧(BL a0 a1) <(2:Int)):=N0 hp
 have n1:((!(CU a0 a1))=true→(BL a0 a1).toNat <(2:Nat)):=by intro h0;have g:=n0 h0;omega
 exact AI (Aw Ba8 AH) (Ab8 a0 a1) (Aa n0 (Aa n1 Ab))
theorem Zh (a0:TFront) (a1:TVec):∀p∈OJ a0 a1,p:=
 Aa (fun h=>B2v (Oz (f:=a0) (v:=a1) h)) Ab
def Li:List A→Nat→Objs→Option Bb
 | [y0,y1],nx,o=>match AQ .front y0,AQ .vec y1 with
  |some (a0,p0),some (a1,p1)=>some (1,(Lh a0 a1).pk (AF nx),nx+0,AE nx (Lg a0 a1)++o,p0++(p1++(([]:List Prop))))
  |_,_=>none
 |_,_,_=>none
theorem Zi:Ft Try.prog 31 Li:=fun args nx o k x nx' o' ps h=>by
 unfold Li at h
 split at h<;>first|(cases h;done)|skip
 split at h<;>first|(cases h;done)|skip
 rename_i a0 p0 a1 p1 e0 e1
 cases h
 refine⟨fun hp=>?_,_,rfl⟩
 have q0:=fun p hm=>hp p (List.mem_append.2 (.inl hm))
 have r0:=fun p hm=>hp p (List.mem_append.2 (.inr hm))
 have q1:=fun p hm=>r0 p (List.mem_append.2 (.inl hm))
 refine Ah (Ag (Agl a0 a1 (Zh a0 a1)) (Nat.le_refl _) (Ac (Af _ _) (Ac (Af _ _) Ao)) nx o) fun F N R vs hl=>?_
 obtain⟨v0,w0,rfl,h0,hl⟩:=hl.inv
 obtain⟨v1,w1,rfl,h1,hl⟩:=hl.inv
 exact HL.cons (Am e0 q0 h0) (HL.cons (Am e1 q1 h1) (hl))
noncomputable def Byx:=A7 31 Li Bqn
theorem Bqo:Dd Try.prog Byx:=Av Zi Ba8
def WM:A:=.v (.bool (true))
def WL:Objs:=[]
def Ahi:List Prop:=[]
theorem A71:EQ (AA Byx L0) 1040 25 [] 0 []=some (1,WM,0,WL,[]):=by kernel_rfl
theorem Bd5 (_hp:∀p∈Ahi,p):CallOk Try.prog 25 [] 0 [] 1 (WM) 0 (WL):=by
 exact AI (Aw Bqo AH) (A71) Ab
def WN:List A→Nat→Objs→Option Bb
 | [],nx,o=>some (1,(WM).pk (AF nx),nx+0,AE nx (WL)++o,Ahi)
 |_,_,_=>none
theorem A12:Ft Try.prog 25 WN:=fun args nx o k x nx' o' ps h=>by
 unfold WN at h
 split at h<;>first|(cases h;done)|skip
 cases h
 refine⟨fun hp=>?_,_,rfl⟩
 refine Ah (Ag (Bd5 hp) (Nat.le_refl _) Ao nx o) fun F N R vs hl=>?_
 exact hl
end Go.Proofs.Yteebobbhhgmeiaa
