/- made by a program (rowgen.py): FrontierSweeps: for every input the law returns true, and each argument reads behind the call as it read before. -/
import Derived.Test.YteebobbhhgmeiaaKFse

namespace Go.Proofs.Yteebobbhhgmeiaa
open Go.RowKit
def A8w (l:List Ab) (r:TRow):List UInt8:=Asf r.key++(l.zip r.cells).flatMap (fun x=>Awr x.1.policy x.2)
def A8x (l:List Ab) (r:TRow):List UInt8:=bif AF l r==0 then A8w l r else[]
def Ju (_a0:List UInt8) (a1:List Ab) (a2:TRow):Bool:=AF a1 a2 !=(0:Int)
def Ap3 (a0:List UInt8) (_a1:List Ab) (_a2:TRow):List UInt8:=[]++a0
def Ap4 (_a0:List UInt8) (_a1:List Ab) (_a2:TRow):A:=.sq 0
def UW (a0:List UInt8) (a1:List Ab) (a2:TRow):Objs:=[(0,some (.arr 5 1 (.ty .u8 (Ap3 a0 a1 a2))))]
def A1f (a0:List UInt8) (a1:List Ab) (a2:TRow):List Prop:=[((Ju a0 a1 a2)=true→Aj ((0:Nat)+a0.length)),((!(Ju a0 a1 a2))=true→Aj (a0.length+(8:Nat)+a2.1.size)),((!(Ju a0 a1 a2))=true→Vq (4:Nat))]
set_option maxRecDepth 100000 in
theorem A1e (a0:List UInt8) (a1:List Ab) (a2:TRow):Hx (Ay Cl L0) 9 79 [Aq .bytes a0,.sl .group a1,Aq .row a2] 0 []=some (1,Ap4 a0 a1 a2,1,UW a0 a1 a2,[((Ju a0 a1 a2)=true→Aj ((0:Nat)+a0.length)),((!(Ju a0 a1 a2))=true→Aj (a0.length+(8:Nat)+a2.1.size)),((!(Ju a0 a1 a2))=true→Vq (4:Nat))]):=by kernel_rfl
set_option maxRecDepth 100000 in
theorem A5f (a0:List UInt8) (a1:List Ab) (a2:TRow) (hp:∀p∈A1f a0 a1 a2,p):CallOk Try.prog 79 [Aq .bytes a0,.sl .group a1,Aq .row a2] 0 [] 1 (Ap4 a0 a1 a2) 1 (UW a0 a1 a2):=by
 have n0:=N0 hp
 have n1:=N0 (N1 hp)
 have n2:=N0 (N1 (N1 hp))
 exact AJ (Aw A6y AM) (A1e a0 a1 a2) (Aa n0 (Aa n1 (Aa n2 Ad)))
def Amg (_a0:List UInt8) (_a1:List Ab) (_a2:TRow):A:=.sq 0
def Lb (a0:List UInt8) (a1:List Ab) (a2:TRow):Objs:=[(0,some (.arr 5 1 (.ty .u8 (a0++A8x a1 a2))))]
def Afh (a0:List UInt8) (_a1:List Ab) (_a2:TRow):List Prop:=[Aj (a0.length+1024)]
section
variable {F:Nat→Prop} {N:Nm} {nx:Nat} {R:World}
theorem Ao4:∀{l:List UInt8} {zs:List Value},zs.length=l.length→(∀k,k <l.length→HL F N nx R [.v (Bo (l.getD k 0))] ((zs.drop (k*1)).take 1))→zs=l.map Bo
 | [],[],_,_=>rfl
 | [],_::_,h,_=>by cases h
 |_::_,[],h,_=>by cases h
 | x::l,z::zs,h,g=>by
  have h0:=g 0 (Nat.succ_pos _)
  obtain⟨v,vs,e1,e2,e3⟩:=h0.inv
  have hz:z=Bo x:=by
   have e1':[z]=v::vs:=e1
   injection e1' with e1' _
   rw[e1']
   exact e2.v_inv
  rw[List.map_cons,←hz,Ao4 (l:=l) (zs:=zs) (by simpa using h) fun k hk=>by
   have:=g (k+1) (Nat.succ_lt_succ hk)
   simpa[Nat.mul_one] using this]
theorem A5g {l:List UInt8} {k:Nat} (hk:k <l.length):HL F N nx R [.v (Bo (l.getD k 0))] (((l.map Bo).drop (k*1)).take 1):=by
 rw[Nat.mul_one,List.drop_eq_getElem_cons (by simpa using hk),List.take_succ_cons,List.take_zero,List.getElem_map,List.getD_eq_getElem?_getD,List.getElem?_eq_getElem hk]
 exact HL.cons (.v _) HL.nil
theorem OwnB.sl {base:Nat} {y:Value} {bs:List UInt8} (h:OwnB base R y bs) (N:Nm):(∀g,Dd y=some g→g <R.heap.size)∧Hv (fun g=>Dd y=some g) N 0 R (.sl .u8 bs) y:=by
 refine⟨fun g hg=>h.1.lt hg,?_⟩
 obtain⟨hl,h2⟩:=h.1
 rcases h2 with⟨a,e1,e2⟩|⟨g,cap,cur,e1,e2,e3,_,e5,e6⟩
 ·obtain rfl:bs=[]:=List.eq_nil_of_length_eq_zero e2
  rw[e1]
  exact Hv.sl_nil rfl
 ·rw[e1]
  refine Hv.of_sl e3 fun hn=>⟨⟨g,0,none⟩,rfl,?_,fun i d hd j x hx=>?_⟩
  ·obtain⟨m,hm⟩:∃m,bs.length=m+1:=⟨bs.length - 1,by omega⟩
   rw[hm]
   rfl
  ·cases j with
   |succ j=>cases hx
   |zero=>
    have hi:=(List.getElem?_eq_some_iff.1 hd).1
    have hz:(bs.map Bo)[i]?=some (Bo d):=by rw[List.getElem?_map,hd];rfl
    rw[←e6,List.getElem?_take_of_lt (by omega)] at hz
    obtain rfl:A.v (Bo d)=x:=Option.some.inj hx
    refine⟨Bo d,?_,.v _⟩
    rw[DK,EQ,FF e2]
    show cur[0+(i*1+0)]?=_
    rw[Nat.zero_add,Nat.add_zero,Nat.mul_one]
    simpa using hz
end
theorem CallOk.bytes {P:Program} {f:FuncId} {args:List A} {bs:List UInt8} (h:CallOk P f args 0 [] 1 (.sq 0) 1 [(0,some (.arr 5 1 (.ty .u8 bs)))]) {F:Nat→Prop} {N:Nm} {R:World} {vs:List Value} (hF:∀g,F g→g <R.heap.size) (hv:HL F N 0 R args vs):
  Calls P f vs.toArray R fun e R'=>∃y,e=.returned y∧Below R.heap.size R R'∧OwnB R.heap.size R' y bs:=by
 refine(h F N R vs (HRel.bare hF) hv).mono fun e R' ⟨y,F',N',e1,h2,h3,h4,h5⟩=>⟨y,e1,h5 (Nat.le_refl _),?_⟩
 obtain rfl:y=N'.q 0:=by cases h4;rfl
 obtain⟨_,zs,g1,g2⟩:=h2.ob 0 _ rfl
 have e:zs=bs.map Bo:=Ao4 (F:=F') (N:=N') (nx:=1) (R:=R') (by rw[g1.1];exact Nat.mul_one _) g2
 rw[e] at g1
 refine⟨g1,fun g hg=>?_⟩
 rcases h3.foot g ⟨0,_,rfl,hg⟩ with⟨i,ob,hl,_⟩|h
 ·cases hl
 ·exact h
theorem OwnB.made {P:Program} {f:FuncId} {F:Nat→Prop} {N:Nm} {R:World} {vs:List Value} {bs:List UInt8} (hR:HRel F N 0 [] R)
  (h:Calls P f vs.toArray R fun e R'=>∃y,e=.returned y∧Below R.heap.size R R'∧OwnB R.heap.size R' y bs):
  Calls P f vs.toArray R fun e R'=>∃y F' N',e=.returned y∧HRel F' N' 1 [(0,some (.arr 5 1 (.ty .u8 bs)))] R'∧Step F N 0 [] R F' N' 1 [(0,some (.arr 5 1 (.ty .u8 bs)))] R'∧Hv F' N' 1 R' (.sq 0) y∧(1≤1→Below R.heap.size R R'):=by
 refine h.mono fun e R' ⟨y,e1,hb,h2,h3⟩=>⟨y,F,N.setQ 0 y,e1,?_,?_,?_,fun _=>hb⟩
 ·have hq:(N.setQ 0 y).q 0=y:=by show JP N.q 0 y 0=y;exact CJ _ _ _
  have one:∀i ob,As i [(0,some (Ob.arr 5 1 (.ty .u8 bs)))]=some ob→i=0∧ob=.arr 5 1 (.ty .u8 bs):=fun i ob hl=>by
   cases i with
   |zero=>cases hl;exact⟨rfl,rfl⟩
   |succ i=>cases hl
  refine⟨fun g hg=>Nat.lt_of_lt_of_le (hR.flt g hg) hb.size,fun i ob hl=>?_,fun i ob g hl hg hF=>?_,fun i j x z g hl hl' _ _=>(one i x hl).1.trans (one j z hl').1.symm⟩
  ·obtain⟨rfl,rfl⟩:=one i ob hl
   exact⟨Nat.succ_pos _,bs.map Bo,by rw[hq];exact h2,fun k hk=>A5g hk⟩
  ·obtain⟨rfl,rfl⟩:=one i ob hl
   have hg':Dd ((N.setQ 0 y).q 0)=some g:=hg
   rw[hq] at hg'
   have:=hR.flt g hF
   have:=h3 g hg'
   omega
 ·refine⟨Nat.zero_le _,fun i hi=>absurd hi (Nat.not_lt_zero _),fun i hi=>absurd hi (Nat.not_lt_zero _),fun _ h=>h,fun _ h=> .inl h,fun g ⟨i,ob,hl,hg⟩=> .inr ?_,hb.os,hb.tape,hb.output,hb.size,fun g hg _=>hb.block g hg⟩
  cases i with
  |succ i=>cases hl
  |zero=>
   cases hl
   have hg':Dd ((N.setQ 0 y).q 0)=some g:=hg
   rw[show(N.setQ 0 y).q 0=y by show JP N.q 0 y 0=y;exact CJ _ _ _] at hg'
   exact h3 g hg'
 ·have hq:(N.setQ 0 y).q 0=y:=by show JP N.q 0 y 0=y;exact CJ _ _ _
  have:=Hv.sq (F:=F) (N:=N.setQ 0 y) (nx:=1) (R:=R') (i:=0) (Nat.succ_pos _)
  rw[hq] at this
  exact this
theorem Bbz (p:Int) (c:TCell):(Awr p c).length≤128:=by
 unfold Awr A67
 cases hg:EZ p c with
 |false=>exact Nat.zero_le _
 | true=>
  have n8:=TN (ML c)
  have s8:=A8y c.stamp
  have v16:=Asg c.vec
  have d16:=Asg c.dead
  have t8:=A0b c.value
  cases hw:DL c with
  |false=>cases JM c.dead<;>simp only[cond_true,cond_false,List.length_append,List.length_nil]<;>omega
  |true=>
   have:=((Ape.1 hg).st hw).2.2.2.1
   cases JM c.dead<;>cases c.gone<;>simp only[cond_true,cond_false,List.length_append,List.length_nil]<;>omega
theorem A1d (a0:List UInt8) (a1:List Ab) (a2:TRow) (hp:∀p∈Afh a0 a1 a2,p):CallOk Try.prog 79 [Aq .bytes a0,.sl .group a1,Aq .row a2] 0 [] 1 (Amg a0 a1 a2) 1 (Lb a0 a1 a2):=by
 have hb:Aj (a0.length+1024):=hp _ (List.mem_cons_self ..)
 unfold Aj at hb
 cases hg:AF a1 a2==0 with
 | false=>
  have hk:Ju a0 a1 a2=true:=by
   show(AF a1 a2 !=0)=true
   simpa using hg
  have h:=A5f a0 a1 a2 (Aa (fun _=>by unfold Aj;omega) (Aa (fun h=>by rw[hk] at h;cases h) (Aa (fun h=>by rw[hk] at h;cases h) Ad)))
  have e:UW a0 a1 a2=Lb a0 a1 a2:=by
   unfold UW Lb Ap3 A8x
   rw[hg,cond_false,List.append_nil,List.nil_append]
  rw[e] at h
  exact h
 | true=>
  have h0:AF a1 a2=0:=by simpa using hg
  obtain⟨h1,hlen,_,h32,_⟩:=JA h0
  obtain⟨hl1,hl4⟩:=J4 h1
  intro F N R vs hR hv
  obtain⟨v,vs,rfl,hv0,hv⟩:=hv.inv
  obtain⟨v0,vs,rfl,k0,hv⟩:=hv.inv
  obtain⟨v1,vs,rfl,k1,hv⟩:=hv.inv
  rw[hv.inv0]
  have hv0':=hv0
  obtain⟨ab,ncap,rfl,_⟩:=Hv.sl_inv (c:=.u8) (l:=a0) hv0
  obtain⟨us,rfl,k2⟩:=Hv.agg_inv (xs:=[.v (.string a2.key),.sl .cell a2.cells]) k1
  obtain⟨u0,us,rfl,m0,k2⟩:=k2.inv
  obtain⟨u1,us,rfl,m1,k2⟩:=k2.inv
  obtain rfl:=k2.inv0
  obtain rfl:=m0.v_inv
  obtain⟨aa,cap0,rfl,g0⟩:=Bc9 hR.flt k0
  obtain⟨ac,cap1,rfl,g1⟩:=Bc7 hR.flt m1
  have ho:Lb a0 a1 a2=[(0,some (.arr 5 1 (.ty .u8 ((a0++Asf a2.key)++(a1.zip a2.cells).flatMap (fun x=>Awr x.1.policy x.2)))))]:=by
   unfold Lb A8x A8w
   rw[hg,cond_true,List.append_assoc]
  rw[ho]
  refine OwnB.made hR (A1h R aa ac a1 a2.cells a2.key cap0 cap1 a0.length ncap ab (a0++Asf a2.key) Awr 128 Bbz ?_ hl1 hl4 (by rw[hlen];exact Lu _) ?_ ?_ g0 g1)
  ·intro W hW
   have h:Calls Try.prog 65 #[.slice aa a1.length cap0,.agg #[.string a2.key,.slice ac a2.cells.length cap1]] W fun e W'=>e=.returned (.int .i64 (AF a1 a2))∧Below W.heap.size W W':=(Afc a1 a2 (fun _ h=>by cases h)).plain (F:=F) (N:=N) (R:=W) (vs:=[.slice aa a1.length cap0,.agg #[.string a2.key,.slice ac a2.cells.length cap1]]) (fun g hg=>Nat.lt_of_lt_of_le (hR.flt g hg) hW.size) (HL.cons (k0.step (hR.grow hW).2) (HL.cons (k1.step (hR.grow hW).2) HL.nil))
   rw[h0] at h
   exact h
  ·intro W hW
   exact(Tw a0 a2.key (Aa (by unfold Aj;omega) Ad)).bytes (F:=F) (N:=N) (R:=W) (vs:=[_,.string a2.key]) (fun g hg=>Nat.lt_of_lt_of_le (hR.flt g hg) hW.size) (HL.cons (hv0'.step (hR.grow hW).2) (HL.cons (.v _) HL.nil))
  ·intro W v bs q c base ho hl
   obtain⟨f1,f2⟩:=ho.sl N
   have h8:=A0b a2.key
   rw[List.length_append] at hl
   exact(Ade bs q c (Aa (by unfold Aj;omega) Ad)).bytes (F:=fun g=>Dd v=some g) (N:=N) (R:=W) (vs:=[v,.int .i64 q,cV c]) f1 (HL.cons f2 (HL.cons (.v _) (HL.cons (.v _) HL.nil)))
def Acr:List A→Nat→Objs→Option BP
 | [y0,y1,y2],nx,o=>match A3 .bytes y0,QX .group y1,A3 .row y2 with
  |some (a0,p0),some a1,some (a2,p2)=>some (1,(Amg a0 a1 a2).pk (AH nx),nx+1,AG nx (Lb a0 a1 a2)++o,p0++(p2++(Afh a0 a1 a2)))
  |_,_,_=>none
 |_,_,_=>none
theorem Axz:HO Try.prog 79 Acr:=fun args nx o k x nx' o' ps h=>by
 unfold Acr at h
 split at h<;>first|(cases h;done)|skip
 split at h<;>first|(cases h;done)|skip
 rename_i a0 p0 a1 a2 p2 e0 e1 e2
 cases h
 refine⟨fun hp=>?_,_,rfl⟩
 have q0:=fun p hm=>hp p (List.mem_append.2 (.inl hm))
 have r0:=fun p hm=>hp p (List.mem_append.2 (.inr hm))
 have q2:=fun p hm=>r0 p (List.mem_append.2 (.inl hm))
 have r2:=fun p hm=>r0 p (List.mem_append.2 (.inr hm))
 refine Ao (Ai (A1d a0 a1 a2 r2) (Nat.le_refl _) (Af (Ag _ _) (Af rfl (Af (Ag _ _) Au))) nx o) fun F N R vs hl=>?_
 obtain⟨v0,w0,rfl,h0,hl⟩:=hl.inv
 obtain⟨v1,w1,rfl,h1,hl⟩:=hl.inv
 obtain⟨v2,w2,rfl,h2,hl⟩:=hl.inv
 exact HL.cons (Ar e0 q0 h0) (HL.cons (GD e1 h1) (HL.cons (Ar e2 q2 h2) (hl)))
noncomputable def Bfa:=B5 79 Acr Cl
theorem Bak:Gg Try.prog Bfa:=Ax Axz A6y
def Az (a0:Int) (a1:Int) (a2:Int):Int:=bif decide (a0 >a2)||decide (a1 >a2)||decide (a0 >IntKind.i64.wrap (a2 - a1)) then IntKind.i64.wrap (a2+(1:Int)) else IntKind.i64.wrap (a0+a1)
def Abh (a0:Int) (a1:Int) (a2:Int):A:=.v (.int .i64 (Az a0 a1 a2))
def Abg (_a0:Int) (_a1:Int) (_a2:Int):Objs:=[]
def Ak0 (_a0:Int) (_a1:Int) (_a2:Int):List Prop:=[]
set_option maxRecDepth 100000 in
theorem A0d (a0:Int) (a1:Int) (a2:Int):Hx (Ay Bfa L0) 9 111 [Aq .i64 a0,Aq .i64 a1,Aq .i64 a2] 0 []=some (1,Abh a0 a1 a2,0,Abg a0 a1 a2,[]):=by kernel_rfl
set_option maxRecDepth 100000 in
theorem A47 (a0:Int) (a1:Int) (a2:Int) (_hp:∀p∈Ak0 a0 a1 a2,p):CallOk Try.prog 111 [Aq .i64 a0,Aq .i64 a1,Aq .i64 a2] 0 [] 1 (Abh a0 a1 a2) 0 (Abg a0 a1 a2):=by
 exact AJ (Aw Bak AM) (A0d a0 a1 a2) Ad
def Abi:List A→Nat→Objs→Option BP
 | [y0,y1,y2],nx,o=>match A3 .i64 y0,A3 .i64 y1,A3 .i64 y2 with
  |some (a0,p0),some (a1,p1),some (a2,p2)=>some (1,(Abh a0 a1 a2).pk (AH nx),nx+0,AG nx (Abg a0 a1 a2)++o,p0++(p1++(p2++(Ak0 a0 a1 a2))))
  |_,_,_=>none
 |_,_,_=>none
theorem Awu:HO Try.prog 111 Abi:=fun args nx o k x nx' o' ps h=>by
 unfold Abi at h
 split at h<;>first|(cases h;done)|skip
 split at h<;>first|(cases h;done)|skip
 rename_i a0 p0 a1 p1 a2 p2 e0 e1 e2
 cases h
 refine⟨fun hp=>?_,_,rfl⟩
 have q0:=fun p hm=>hp p (List.mem_append.2 (.inl hm))
 have r0:=fun p hm=>hp p (List.mem_append.2 (.inr hm))
 have q1:=fun p hm=>r0 p (List.mem_append.2 (.inl hm))
 have r1:=fun p hm=>r0 p (List.mem_append.2 (.inr hm))
 have q2:=fun p hm=>r1 p (List.mem_append.2 (.inl hm))
 have r2:=fun p hm=>r1 p (List.mem_append.2 (.inr hm))
 refine Ao (Ai (A47 a0 a1 a2 r2) (Nat.le_refl _) (Af (Ag _ _) (Af (Ag _ _) (Af (Ag _ _) Au))) nx o) fun F N R vs hl=>?_
 obtain⟨v0,w0,rfl,h0,hl⟩:=hl.inv
 obtain⟨v1,w1,rfl,h1,hl⟩:=hl.inv
 obtain⟨v2,w2,rfl,h2,hl⟩:=hl.inv
 exact HL.cons (Ar e0 q0 h0) (HL.cons (Ar e1 q1 h1) (HL.cons (Ar e2 q2 h2) (hl)))
theorem Bd6 {n k m:Int} (hn:0≤n) (hk:0≤k∧k≤9223372036854775807) (hm:0≤m∧m≤1099511627776):(Az n k m≤m→n+k≤m)∧0≤Az n k m∧(n+k≤m→Az n k m=n+k):=by
 unfold Az
 rw[i64_in (n:=m - k) (by omega),i64_in (n:=m+1) (by omega)]
 by_cases h:n+k≤m
 ·have e:(decide (n >m)||decide (k >m)||decide (n >m - k))=false:=by
   rw[decide_eq_false (by omega),decide_eq_false (by omega),decide_eq_false (by omega)];rfl
  rw[e,cond_false,i64_in (by omega)]
  exact⟨fun _=>h,by omega,fun _=>rfl⟩
 ·have e:(decide (n >m)||decide (k >m)||decide (n >m - k))=true:=by
   rw[decide_eq_true (p:=n >m - k) (by omega),Bool.or_true]
  rw[e,cond_true]
  exact⟨fun h'=>by omega,by omega,fun h'=>absurd h' h⟩
theorem Aqf {k:Nat} (h:AC k):(0:Int)≤(k:Int)∧(k:Int)≤9223372036854775807:=by unfold AC at h;omega
def XR (m:Nat) (r:TRow):Prop:=r.key.size≤m∧r.cells.length≤m∧∀c∈r.cells,c.value.size≤m
def Am4 (r:TRow):Prop:=AC r.key.size∧AC r.cells.length∧∀c∈r.cells,AC c.value.size
theorem getD_in {α:Type} (l:List α) (d:α) (i:Nat) (h:i <l.length):l.getD i d∈l:=by
 rw[List.getD_eq_getElem?_getD,List.getElem?_eq_getElem h]
 exact List.getElem_mem h
end Go.Proofs.Yteebobbhhgmeiaa
namespace Go.Proofs.Yteebobbhhgmeiaa
open Go.RowKit
def KR (a0:Int):A:=.v (.bool (a0==(1:Int)||a0==(2:Int)))
def KQ (_a0:Int):Objs:=[]
def N6 (_a0:Int):List Prop:=[]
set_option maxRecDepth 100000 in
theorem YC (a0:Int):Hx (Ay Cb L0) 9 96 [Aq .i64 a0] 0 []=some (1,KR a0,0,KQ a0,[]):=by kernel_rfl
set_option maxRecDepth 100000 in
theorem Aah (a0:Int) (_hp:∀p∈N6 a0,p):CallOk Try.prog 96 [Aq .i64 a0] 0 [] 1 (KR a0) 0 (KQ a0):=by
 exact AJ (Aw A18 AM) (YC a0) Ad
def KS:List A→Nat→Objs→Option BP
 | [y0],nx,o=>match A3 .i64 y0 with
  |some (a0,p0)=>some (1,(KR a0).pk (AH nx),nx+0,AG nx (KQ a0)++o,p0++(N6 a0))
  |_=>none
 |_,_,_=>none
theorem Wz:HO Try.prog 96 KS:=fun args nx o k x nx' o' ps h=>by
 unfold KS at h
 split at h<;>first|(cases h;done)|skip
 split at h<;>first|(cases h;done)|skip
 rename_i a0 p0 e0
 cases h
 refine⟨fun hp=>?_,_,rfl⟩
 have q0:=fun p hm=>hp p (List.mem_append.2 (.inl hm))
 have r0:=fun p hm=>hp p (List.mem_append.2 (.inr hm))
 refine Ao (Ai (Aah a0 r0) (Nat.le_refl _) (Af (Ag _ _) Au) nx o) fun F N R vs hl=>?_
 obtain⟨v0,w0,rfl,h0,hl⟩:=hl.inv
 exact HL.cons (Ar e0 q0 h0) (hl)
noncomputable def A54:=B5 96 KS Cb
theorem At5:Gg Try.prog A54:=Ax Wz A18
def LS (a0:Int):Bool:=!(a0==(1:Int)||a0==(2:Int))
def Jf (a0:Int):Int:=bif(LS a0) then(0:Int) else(0:Int)
def H9 (a0:Int):TFront:=TFront.mk (bif(LS a0) then(0:Int) else a0) (Jf a0) (Jf a0) (Jf a0) (Jf a0)
def Ai6 (a0:Int):Int:=bif(LS a0) then(2:Int) else(0:Int)
def MR (a0:Int):A:=.v (.tuple ⟨[.agg ⟨[.int .i64 ((H9 a0).site),.int .i64 ((H9 a0).acked),.int .i64 ((H9 a0).stable),.int .i64 ((H9 a0).wait),.int .i64 ((H9 a0).til)]⟩,.int .i64 (Ai6 a0)]⟩)
def MQ (_a0:Int):Objs:=[]
def RI (_a0:Int):List Prop:=[]
set_option maxRecDepth 100000 in
theorem Af2 (a0:Int):Hx (Ay A54 L0) 9 24 [Aq .i64 a0] 0 []=some (1,MR a0,0,MQ a0,[]):=by kernel_rfl
set_option maxRecDepth 100000 in
theorem Ai7 (a0:Int) (_hp:∀p∈RI a0,p):CallOk Try.prog 24 [Aq .i64 a0] 0 [] 1 (MR a0) 0 (MQ a0):=by
 exact AJ (Aw At5 AM) (Af2 a0) Ad
def MS:List A→Nat→Objs→Option BP
 | [y0],nx,o=>match A3 .i64 y0 with
  |some (a0,p0)=>some (1,(MR a0).pk (AH nx),nx+0,AG nx (MQ a0)++o,p0++(RI a0))
  |_=>none
 |_,_,_=>none
theorem Aae:HO Try.prog 24 MS:=fun args nx o k x nx' o' ps h=>by
 unfold MS at h
 split at h<;>first|(cases h;done)|skip
 split at h<;>first|(cases h;done)|skip
 rename_i a0 p0 e0
 cases h
 refine⟨fun hp=>?_,_,rfl⟩
 have q0:=fun p hm=>hp p (List.mem_append.2 (.inl hm))
 have r0:=fun p hm=>hp p (List.mem_append.2 (.inr hm))
 refine Ao (Ai (Ai7 a0 r0) (Nat.le_refl _) (Af (Ag _ _) Au) nx o) fun F N R vs hl=>?_
 obtain⟨v0,w0,rfl,h0,hl⟩:=hl.inv
 exact HL.cons (Ar e0 q0 h0) (hl)
noncomputable def A55:=B5 24 MS A54
theorem At6:Gg Try.prog A55:=Ax Aae At5
def PO (a0:TFront):Bool:=decide (a0.4 <(0:Int))||decide (a0.4 >(1099511627776:Int))
def PN (a0:TFront):Bool:=decide (a0.3 <(0:Int))||decide (a0.3 >(1099511627776:Int))
def PM (a0:TFront):Bool:=decide (a0.2 <(0:Int))||decide (a0.2 >(1099511627776:Int))
def HB (a0:TFront):Bool:=bif(PM a0)||((PN a0)||((PO a0)||(decide (a0.5 <(0:Int))||decide (a0.5 >(1099511627776:Int))))) then bif(PM a0) then false else bif(PN a0) then false else bif(PO a0) then false else false else(a0.1==(1:Int)||a0.1==(2:Int))&&decide (max a0.3 a0.4≤a0.2)&&!(a0.5==(0:Int)&&decide (a0.4 >(0:Int)))
def LQ (a0:TFront):A:=.v (.bool (HB a0))
def LP (_a0:TFront):Objs:=[]
def PP (_a0:TFront):List Prop:=[]
set_option maxRecDepth 100000 in
theorem Aaa (a0:TFront):Hx (Ay A55 L0) 9 34 [Aq .front a0] 0 []=some (1,LQ a0,0,LP a0,[]):=by kernel_rfl
set_option maxRecDepth 100000 in
theorem Afx (a0:TFront) (_hp:∀p∈PP a0,p):CallOk Try.prog 34 [Aq .front a0] 0 [] 1 (LQ a0) 0 (LP a0):=by
 exact AJ (Aw At6 AM) (Aaa a0) Ad
def LR:List A→Nat→Objs→Option BP
 | [y0],nx,o=>match A3 .front y0 with
  |some (a0,p0)=>some (1,(LQ a0).pk (AH nx),nx+0,AG nx (LP a0)++o,p0++(PP a0))
  |_=>none
 |_,_,_=>none
theorem Ys:HO Try.prog 34 LR:=fun args nx o k x nx' o' ps h=>by
 unfold LR at h
 split at h<;>first|(cases h;done)|skip
 split at h<;>first|(cases h;done)|skip
 rename_i a0 p0 e0
 cases h
 refine⟨fun hp=>?_,_,rfl⟩
 have q0:=fun p hm=>hp p (List.mem_append.2 (.inl hm))
 have r0:=fun p hm=>hp p (List.mem_append.2 (.inr hm))
 refine Ao (Ai (Afx a0 r0) (Nat.le_refl _) (Af (Ag _ _) Au) nx o) fun F N R vs hl=>?_
 obtain⟨v0,w0,rfl,h0,hl⟩:=hl.inv
 exact HL.cons (Ar e0 q0 h0) (hl)
noncomputable def A56:=B5 34 LR A55
theorem At7:Gg Try.prog A56:=Ax Ys At6
def C3 (a0:TFront) (a1:TVec):Int:=bif !HB a0||!Bk a1 then(2:Int) else(0:Int)
def KO (a0:TFront) (a1:TVec):A:=.v (.int .i64 (C3 a0 a1))
def KN (_a0:TFront) (_a1:TVec):Objs:=[]
def N5 (_a0:TFront) (_a1:TVec):List Prop:=[]
set_option maxRecDepth 100000 in
theorem YB (a0:TFront) (a1:TVec):Hx (Ay A56 L0) 9 97 [Aq .front a0,Aq .vec a1] 0 []=some (1,KO a0 a1,0,KN a0 a1,[]):=by kernel_rfl
set_option maxRecDepth 100000 in
theorem Aag (a0:TFront) (a1:TVec) (_hp:∀p∈N5 a0 a1,p):CallOk Try.prog 97 [Aq .front a0,Aq .vec a1] 0 [] 1 (KO a0 a1) 0 (KN a0 a1):=by
 exact AJ (Aw At7 AM) (YB a0 a1) Ad
def KP:List A→Nat→Objs→Option BP
 | [y0,y1],nx,o=>match A3 .front y0,A3 .vec y1 with
  |some (a0,p0),some (a1,p1)=>some (1,(KO a0 a1).pk (AH nx),nx+0,AG nx (KN a0 a1)++o,p0++(p1++(N5 a0 a1)))
  |_,_=>none
 |_,_,_=>none
theorem Wy:HO Try.prog 97 KP:=fun args nx o k x nx' o' ps h=>by
 unfold KP at h
 split at h<;>first|(cases h;done)|skip
 split at h<;>first|(cases h;done)|skip
 rename_i a0 p0 a1 p1 e0 e1
 cases h
 refine⟨fun hp=>?_,_,rfl⟩
 have q0:=fun p hm=>hp p (List.mem_append.2 (.inl hm))
 have r0:=fun p hm=>hp p (List.mem_append.2 (.inr hm))
 have q1:=fun p hm=>r0 p (List.mem_append.2 (.inl hm))
 have r1:=fun p hm=>r0 p (List.mem_append.2 (.inr hm))
 refine Ao (Ai (Aag a0 a1 r1) (Nat.le_refl _) (Af (Ag _ _) (Af (Ag _ _) Au)) nx o) fun F N R vs hl=>?_
 obtain⟨v0,w0,rfl,h0,hl⟩:=hl.inv
 obtain⟨v1,w1,rfl,h1,hl⟩:=hl.inv
 exact HL.cons (Ar e0 q0 h0) (HL.cons (Ar e1 q1 h1) (hl))
noncomputable def A57:=B5 97 KP A56
theorem At8:Gg Try.prog A57:=Ax Wy At7
theorem Bem {s:Int} (h:s=1∨s=2):0≤IntKind.i64.wrap (2 - s)∧IntKind.i64.wrap (2 - s) <2:=by
 rcases h with rfl|rfl<;>decide
theorem Bfy {s:Int} (h:s=1∨s=2):0≤IntKind.i64.wrap (s - 1)∧IntKind.i64.wrap (s - 1) <2:=by
 rcases h with rfl|rfl<;>decide
theorem MK {f:TFront} {v:TVec} (h:(!(C3 f v !=0))=true):f.site=1∨f.site=2:=by
 have hg:HB f=true:=by
  unfold C3 at h
  cases hg:HB f with
  |true=>rfl
  |false=>rw[hg] at h;cases h
 unfold HB at hg
 rw[Bool.cond_eq_ite] at hg
 split at hg
 ·repeat' (first|(cases hg;done)|(rw[Bool.cond_eq_ite] at hg;split at hg))
 ·simp only[Bool.and_eq_true,Bool.or_eq_true,beq_iff_eq] at hg
  exact hg.1.1
theorem Bf8 {c d:Bool} {s:Int}:(bif c then s else bif d then s else s)=s:=by cases c<;>cases d<;>rfl
def AA (a0:TFront) (_a1:TVec):Int:=IntKind.i64.wrap ((2:Int) - a0.1)
def Ap (a0:TFront) (a1:TVec):Int:=bif(AA a0 a1).toNat.beq (0:Nat) then a1.1 else a1.2
def HQ (a0:TFront) (a1:TVec):A:=.v (.int .i64 (Ap a0 a1))
def HP (_a0:TFront) (_a1:TVec):Objs:=[]
def JV (a0:TFront) (a1:TVec):List Prop:=[((0:Int)≤(AA a0 a1)∧(AA a0 a1) <(2:Int))]
set_option maxRecDepth 100000 in
theorem Q6 (a0:TFront) (a1:TVec):Hx (Ay A57 L0) 9 98 [Aq .front a0,Aq .vec a1] 0 []=some (1,HQ a0 a1,0,HP a0 a1,[((0:Int)≤(AA a0 a1)∧(AA a0 a1) <(2:Int)),((AA a0 a1).toNat <(2:Nat))]):=by kernel_rfl
set_option maxRecDepth 100000 in
theorem Sw (a0:TFront) (a1:TVec) (hp:∀p∈JV a0 a1,p):CallOk Try.prog 98 [Aq .front a0,Aq .vec a1] 0 [] 1 (HQ a0 a1) 0 (HP a0 a1):=by
 have n0:=N0 hp
 have n1:((AA a0 a1).toNat <(2:Nat)):=by omega
 exact AJ (Aw At8 AM) (Q6 a0 a1) (Aa n0 (Aa n1 Ad))
def HR:List A→Nat→Objs→Option BP
 | [y0,y1],nx,o=>match A3 .front y0,A3 .vec y1 with
  |some (a0,p0),some (a1,p1)=>some (1,(HQ a0 a1).pk (AH nx),nx+0,AG nx (HP a0 a1)++o,p0++(p1++(JV a0 a1)))
  |_,_=>none
 |_,_,_=>none
theorem PL:HO Try.prog 98 HR:=fun args nx o k x nx' o' ps h=>by
 unfold HR at h
 split at h<;>first|(cases h;done)|skip
 split at h<;>first|(cases h;done)|skip
 rename_i a0 p0 a1 p1 e0 e1
 cases h
 refine⟨fun hp=>?_,_,rfl⟩
 have q0:=fun p hm=>hp p (List.mem_append.2 (.inl hm))
 have r0:=fun p hm=>hp p (List.mem_append.2 (.inr hm))
 have q1:=fun p hm=>r0 p (List.mem_append.2 (.inl hm))
 have r1:=fun p hm=>r0 p (List.mem_append.2 (.inr hm))
 refine Ao (Ai (Sw a0 a1 r1) (Nat.le_refl _) (Af (Ag _ _) (Af (Ag _ _) Au)) nx o) fun F N R vs hl=>?_
 obtain⟨v0,w0,rfl,h0,hl⟩:=hl.inv
 obtain⟨v1,w1,rfl,h1,hl⟩:=hl.inv
 exact HL.cons (Ar e0 q0 h0) (HL.cons (Ar e1 q1 h1) (hl))
noncomputable def A58:=B5 98 HR A57
theorem At9:Gg Try.prog A58:=Ax PL At8
def C6 (a0:TFront) (a1:TVec):Bool:=decide (a0.5 >(0:Int))&&decide (Ap a0 a1≥a0.5)
def AB (a0:TFront) (a1:TVec):TFront:=TFront.mk (bif(C6 a0 a1) then a0.1 else a0.1) (bif(C6 a0 a1) then a0.2 else a0.2) (bif(C6 a0 a1) then max a0.3 a0.4 else a0.3) (bif(C6 a0 a1) then(0:Int) else a0.4) (bif(C6 a0 a1) then(0:Int) else a0.5)
def GP (a0:TFront) (a1:TVec):A:=.v (.agg ⟨[.int .i64 ((AB a0 a1).site),.int .i64 ((AB a0 a1).acked),.int .i64 ((AB a0 a1).stable),.int .i64 ((AB a0 a1).wait),.int .i64 ((AB a0 a1).til)]⟩)
def GO (_a0:TFront) (_a1:TVec):Objs:=[]
def IN (a0:TFront) (a1:TVec):List Prop:=[(decide (a0.5 >(0:Int))=true→(0:Int)≤AA a0 a1∧AA a0 a1 <(2:Int))]
set_option maxRecDepth 100000 in
theorem NJ (a0:TFront) (a1:TVec):Hx (Ay A58 L0) 9 99 [Aq .front a0,Aq .vec a1] 0 []=some (1,GP a0 a1,0,GO a0 a1,[(decide (a0.5 >(0:Int))=true→(0:Int)≤AA a0 a1∧AA a0 a1 <(2:Int))]):=by kernel_rfl
set_option maxRecDepth 100000 in
theorem OQ (a0:TFront) (a1:TVec) (hp:∀p∈IN a0 a1,p):CallOk Try.prog 99 [Aq .front a0,Aq .vec a1] 0 [] 1 (GP a0 a1) 0 (GO a0 a1):=by
 have n0:=N0 hp
 exact AJ (Aw At9 AM) (NJ a0 a1) (Aa n0 Ad)
def GQ:List A→Nat→Objs→Option BP
 | [y0,y1],nx,o=>match A3 .front y0,A3 .vec y1 with
  |some (a0,p0),some (a1,p1)=>some (1,(GP a0 a1).pk (AH nx),nx+0,AG nx (GO a0 a1)++o,p0++(p1++(IN a0 a1)))
  |_,_=>none
 |_,_,_=>none
theorem MM:HO Try.prog 99 GQ:=fun args nx o k x nx' o' ps h=>by
 unfold GQ at h
 split at h<;>first|(cases h;done)|skip
 split at h<;>first|(cases h;done)|skip
 rename_i a0 p0 a1 p1 e0 e1
 cases h
 refine⟨fun hp=>?_,_,rfl⟩
 have q0:=fun p hm=>hp p (List.mem_append.2 (.inl hm))
 have r0:=fun p hm=>hp p (List.mem_append.2 (.inr hm))
 have q1:=fun p hm=>r0 p (List.mem_append.2 (.inl hm))
 have r1:=fun p hm=>r0 p (List.mem_append.2 (.inr hm))
 refine Ao (Ai (OQ a0 a1 r1) (Nat.le_refl _) (Af (Ag _ _) (Af (Ag _ _) Au)) nx o) fun F N R vs hl=>?_
 obtain⟨v0,w0,rfl,h0,hl⟩:=hl.inv
 obtain⟨v1,w1,rfl,h1,hl⟩:=hl.inv
 exact HL.cons (Ar e0 q0 h0) (HL.cons (Ar e1 q1 h1) (hl))
noncomputable def A59:=B5 99 GQ A58
theorem Aua:Gg Try.prog A59:=Ax MM At9
def H2 (a0:TFront) (a1:TVec) (a2:Int) (_a3:Int):Int:=AA (TFront.mk a0.1 (max a0.2 a2) a0.3 a0.4 a0.5) a1
def AY (a0:TFront) (a1:TVec) (_a2:Int) (_a3:Int):Bool:=C3 a0 a1 !=(0:Int)
def CG (a0:TFront) (_a1:TVec) (_a2:Int) (_a3:Int):Int:=IntKind.i64.wrap (a0.1 - (1:Int))
def BW (a0:TFront) (a1:TVec) (a2:Int) (a3:Int):Bool:=decide (a2 <(0:Int))||decide (a2 >bif(CG a0 a1 a2 a3).toNat.beq (0:Nat) then a1.1 else a1.2)||decide (a3 <(0:Int))||decide (a3 >(1099511627776:Int))
def H1 (a0:TFront) (a1:TVec) (a2:Int) (a3:Int):Int:=AA (TFront.mk (bif decide (Ap (TFront.mk a0.1 (max a0.2 a2) a0.3 a0.4 a0.5) a1≥a3) then a0.1 else bif a0.5==(0:Int)&&decide (a2 >a0.3) then a0.1 else a0.1) (bif decide (Ap (TFront.mk a0.1 (max a0.2 a2) a0.3 a0.4 a0.5) a1≥a3) then max a0.2 a2 else bif a0.5==(0:Int)&&decide (a2 >a0.3) then max a0.2 a2 else max a0.2 a2) (bif decide (Ap (TFront.mk a0.1 (max a0.2 a2) a0.3 a0.4 a0.5) a1≥a3) then max a0.3 a2 else bif a0.5==(0:Int)&&decide (a2 >a0.3) then a0.3 else a0.3) (bif decide (Ap (TFront.mk a0.1 (max a0.2 a2) a0.3 a0.4 a0.5) a1≥a3) then a0.4 else bif a0.5==(0:Int)&&decide (a2 >a0.3) then a2 else a0.4) (bif decide (Ap (TFront.mk a0.1 (max a0.2 a2) a0.3 a0.4 a0.5) a1≥a3) then a0.5 else bif a0.5==(0:Int)&&decide (a2 >a0.3) then a3 else a0.5)) a1
def G4 (a0:TFront) (a1:TVec) (a2:Int) (a3:Int):TFront:=TFront.mk (bif(AY a0 a1 a2 a3) then(0:Int) else bif(BW a0 a1 a2 a3) then(0:Int) else(AB (TFront.mk (bif decide (Ap (TFront.mk a0.1 (max a0.2 a2) a0.3 a0.4 a0.5) a1≥a3) then a0.1 else bif a0.5==(0:Int)&&decide (a2 >a0.3) then a0.1 else a0.1) (bif decide (Ap (TFront.mk a0.1 (max a0.2 a2) a0.3 a0.4 a0.5) a1≥a3) then max a0.2 a2 else bif a0.5==(0:Int)&&decide (a2 >a0.3) then max a0.2 a2 else max a0.2 a2) (bif decide (Ap (TFront.mk a0.1 (max a0.2 a2) a0.3 a0.4 a0.5) a1≥a3) then max a0.3 a2 else bif a0.5==(0:Int)&&decide (a2 >a0.3) then a0.3 else a0.3) (bif decide (Ap (TFront.mk a0.1 (max a0.2 a2) a0.3 a0.4 a0.5) a1≥a3) then a0.4 else bif a0.5==(0:Int)&&decide (a2 >a0.3) then a2 else a0.4) (bif decide (Ap (TFront.mk a0.1 (max a0.2 a2) a0.3 a0.4 a0.5) a1≥a3) then a0.5 else bif a0.5==(0:Int)&&decide (a2 >a0.3) then a3 else a0.5)) a1).1) (bif(AY a0 a1 a2 a3) then(0:Int) else bif(BW a0 a1 a2 a3) then(0:Int) else(AB (TFront.mk (bif decide (Ap (TFront.mk a0.1 (max a0.2 a2) a0.3 a0.4 a0.5) a1≥a3) then a0.1 else bif a0.5==(0:Int)&&decide (a2 >a0.3) then a0.1 else a0.1) (bif decide (Ap (TFront.mk a0.1 (max a0.2 a2) a0.3 a0.4 a0.5) a1≥a3) then max a0.2 a2 else bif a0.5==(0:Int)&&decide (a2 >a0.3) then max a0.2 a2 else max a0.2 a2) (bif decide (Ap (TFront.mk a0.1 (max a0.2 a2) a0.3 a0.4 a0.5) a1≥a3) then max a0.3 a2 else bif a0.5==(0:Int)&&decide (a2 >a0.3) then a0.3 else a0.3) (bif decide (Ap (TFront.mk a0.1 (max a0.2 a2) a0.3 a0.4 a0.5) a1≥a3) then a0.4 else bif a0.5==(0:Int)&&decide (a2 >a0.3) then a2 else a0.4) (bif decide (Ap (TFront.mk a0.1 (max a0.2 a2) a0.3 a0.4 a0.5) a1≥a3) then a0.5 else bif a0.5==(0:Int)&&decide (a2 >a0.3) then a3 else a0.5)) a1).2) (bif(AY a0 a1 a2 a3) then(0:Int) else bif(BW a0 a1 a2 a3) then(0:Int) else(AB (TFront.mk (bif decide (Ap (TFront.mk a0.1 (max a0.2 a2) a0.3 a0.4 a0.5) a1≥a3) then a0.1 else bif a0.5==(0:Int)&&decide (a2 >a0.3) then a0.1 else a0.1) (bif decide (Ap (TFront.mk a0.1 (max a0.2 a2) a0.3 a0.4 a0.5) a1≥a3) then max a0.2 a2 else bif a0.5==(0:Int)&&decide (a2 >a0.3) then max a0.2 a2 else max a0.2 a2) (bif decide (Ap (TFront.mk a0.1 (max a0.2 a2) a0.3 a0.4 a0.5) a1≥a3) then max a0.3 a2 else bif a0.5==(0:Int)&&decide (a2 >a0.3) then a0.3 else a0.3) (bif decide (Ap (TFront.mk a0.1 (max a0.2 a2) a0.3 a0.4 a0.5) a1≥a3) then a0.4 else bif a0.5==(0:Int)&&decide (a2 >a0.3) then a2 else a0.4) (bif decide (Ap (TFront.mk a0.1 (max a0.2 a2) a0.3 a0.4 a0.5) a1≥a3) then a0.5 else bif a0.5==(0:Int)&&decide (a2 >a0.3) then a3 else a0.5)) a1).3) (bif(AY a0 a1 a2 a3) then(0:Int) else bif(BW a0 a1 a2 a3) then(0:Int) else(AB (TFront.mk (bif decide (Ap (TFront.mk a0.1 (max a0.2 a2) a0.3 a0.4 a0.5) a1≥a3) then a0.1 else bif a0.5==(0:Int)&&decide (a2 >a0.3) then a0.1 else a0.1) (bif decide (Ap (TFront.mk a0.1 (max a0.2 a2) a0.3 a0.4 a0.5) a1≥a3) then max a0.2 a2 else bif a0.5==(0:Int)&&decide (a2 >a0.3) then max a0.2 a2 else max a0.2 a2) (bif decide (Ap (TFront.mk a0.1 (max a0.2 a2) a0.3 a0.4 a0.5) a1≥a3) then max a0.3 a2 else bif a0.5==(0:Int)&&decide (a2 >a0.3) then a0.3 else a0.3) (bif decide (Ap (TFront.mk a0.1 (max a0.2 a2) a0.3 a0.4 a0.5) a1≥a3) then a0.4 else bif a0.5==(0:Int)&&decide (a2 >a0.3) then a2 else a0.4) (bif decide (Ap (TFront.mk a0.1 (max a0.2 a2) a0.3 a0.4 a0.5) a1≥a3) then a0.5 else bif a0.5==(0:Int)&&decide (a2 >a0.3) then a3 else a0.5)) a1).4) (bif(AY a0 a1 a2 a3) then(0:Int) else bif(BW a0 a1 a2 a3) then(0:Int) else(AB (TFront.mk (bif decide (Ap (TFront.mk a0.1 (max a0.2 a2) a0.3 a0.4 a0.5) a1≥a3) then a0.1 else bif a0.5==(0:Int)&&decide (a2 >a0.3) then a0.1 else a0.1) (bif decide (Ap (TFront.mk a0.1 (max a0.2 a2) a0.3 a0.4 a0.5) a1≥a3) then max a0.2 a2 else bif a0.5==(0:Int)&&decide (a2 >a0.3) then max a0.2 a2 else max a0.2 a2) (bif decide (Ap (TFront.mk a0.1 (max a0.2 a2) a0.3 a0.4 a0.5) a1≥a3) then max a0.3 a2 else bif a0.5==(0:Int)&&decide (a2 >a0.3) then a0.3 else a0.3) (bif decide (Ap (TFront.mk a0.1 (max a0.2 a2) a0.3 a0.4 a0.5) a1≥a3) then a0.4 else bif a0.5==(0:Int)&&decide (a2 >a0.3) then a2 else a0.4) (bif decide (Ap (TFront.mk a0.1 (max a0.2 a2) a0.3 a0.4 a0.5) a1≥a3) then a0.5 else bif a0.5==(0:Int)&&decide (a2 >a0.3) then a3 else a0.5)) a1).5)
def Aab (a0:TFront) (a1:TVec) (a2:Int) (a3:Int):Int:=bif(AY a0 a1 a2 a3) then C3 a0 a1 else bif(BW a0 a1 a2 a3) then(2:Int) else(0:Int)
def KG (a0:TFront) (a1:TVec) (a2:Int) (a3:Int):A:=.v (.tuple ⟨[.agg ⟨[.int .i64 ((G4 a0 a1 a2 a3).site),.int .i64 ((G4 a0 a1 a2 a3).acked),.int .i64 ((G4 a0 a1 a2 a3).stable),.int .i64 ((G4 a0 a1 a2 a3).wait),.int .i64 ((G4 a0 a1 a2 a3).til)]⟩,.int .i64 (Aab a0 a1 a2 a3)]⟩)
def KF (_a0:TFront) (_a1:TVec) (_a2:Int) (_a3:Int):Objs:=[]
def NY (a0:TFront) (a1:TVec) (a2:Int) (a3:Int):List Prop:=[((!(AY a0 a1 a2 a3))=true→decide (a2 <(0:Int))=false→(0:Int)≤(CG a0 a1 a2 a3)∧(CG a0 a1 a2 a3) <(2:Int)),((!(AY a0 a1 a2 a3))=true→(!(BW a0 a1 a2 a3))=true→(0:Int)≤(H2 a0 a1 a2 a3)∧(H2 a0 a1 a2 a3) <(2:Int)),((!(AY a0 a1 a2 a3))=true→(!(BW a0 a1 a2 a3))=true→decide ((bif decide (Ap (TFront.mk a0.1 (max a0.2 a2) a0.3 a0.4 a0.5) a1≥a3) then a0.5 else bif a0.5==(0:Int)&&decide (a2 >a0.3) then a3 else a0.5) >(0:Int))=true→(0:Int)≤(H1 a0 a1 a2 a3)∧(H1 a0 a1 a2 a3) <(2:Int))]
set_option maxRecDepth 100000 in
theorem Yt (a0:TFront) (a1:TVec) (a2:Int) (a3:Int):Hx (Ay A59 L0) 9 26 [Aq .front a0,Aq .vec a1,Aq .i64 a2,Aq .i64 a3] 0 []=some (1,KG a0 a1 a2 a3,0,KF a0 a1 a2 a3,[((!(AY a0 a1 a2 a3))=true→decide (a2 <(0:Int))=false→(0:Int)≤(CG a0 a1 a2 a3)∧(CG a0 a1 a2 a3) <(2:Int)),((!(AY a0 a1 a2 a3))=true→decide (a2 <(0:Int))=false→(CG a0 a1 a2 a3).toNat <(2:Nat)),((!(AY a0 a1 a2 a3))=true→(!(BW a0 a1 a2 a3))=true→(0:Int)≤(H2 a0 a1 a2 a3)∧(H2 a0 a1 a2 a3) <(2:Int)),((!(AY a0 a1 a2 a3))=true→(!(BW a0 a1 a2 a3))=true→decide ((bif decide (Ap (TFront.mk a0.1 (max a0.2 a2) a0.3 a0.4 a0.5) a1≥a3) then a0.5 else bif a0.5==(0:Int)&&decide (a2 >a0.3) then a3 else a0.5) >(0:Int))=true→(0:Int)≤(H1 a0 a1 a2 a3)∧(H1 a0 a1 a2 a3) <(2:Int))]):=by kernel_rfl
set_option maxRecDepth 100000 in
theorem Aac (a0:TFront) (a1:TVec) (a2:Int) (a3:Int) (hp:∀p∈NY a0 a1 a2 a3,p):CallOk Try.prog 26 [Aq .front a0,Aq .vec a1,Aq .i64 a2,Aq .i64 a3] 0 [] 1 (KG a0 a1 a2 a3) 0 (KF a0 a1 a2 a3):=by
 have n0:((!(AY a0 a1 a2 a3))=true→decide (a2 <(0:Int))=false→(0:Int)≤(CG a0 a1 a2 a3)∧(CG a0 a1 a2 a3) <(2:Int)):=N0 hp
 have n1:((!(AY a0 a1 a2 a3))=true→decide (a2 <(0:Int))=false→(CG a0 a1 a2 a3).toNat <(2:Nat)):=by intro h0 h1;have g:=n0 h0 h1;omega
 have n2:=N0 (N1 hp)
 have n3:=N0 (N1 (N1 hp))
 exact AJ (Aw Aua AM) (Yt a0 a1 a2 a3) (Aa n0 (Aa n1 (Aa n2 (Aa n3 Ad))))
theorem Wt (a0:TFront) (a1:TVec) (a2:Int) (a3:Int):∀p∈NY a0 a1 a2 a3,p:=by
 refine Aa (fun h _=>Bfy (MK (f:=a0) (v:=a1) h)) (Aa (fun h _=>Bem (MK (f:=a0) (v:=a1) h)) (Aa (fun h _ _=>?_) Ad))
 show 0≤IntKind.i64.wrap (2 - (bif _ then a0.1 else bif _ then a0.1 else a0.1))∧IntKind.i64.wrap (2 - (bif _ then a0.1 else bif _ then a0.1 else a0.1)) <2
 rw[Bf8]
 exact Bem (MK (f:=a0) (v:=a1) h)
def KH:List A→Nat→Objs→Option BP
 | [y0,y1,y2,y3],nx,o=>match A3 .front y0,A3 .vec y1,A3 .i64 y2,A3 .i64 y3 with
  |some (a0,p0),some (a1,p1),some (a2,p2),some (a3,p3)=>some (1,(KG a0 a1 a2 a3).pk (AH nx),nx+0,AG nx (KF a0 a1 a2 a3)++o,p0++(p1++(p2++(p3++(([]:List Prop))))))
  |_,_,_,_=>none
 |_,_,_=>none
theorem Wu:HO Try.prog 26 KH:=fun args nx o k x nx' o' ps h=>by
 unfold KH at h
 split at h<;>first|(cases h;done)|skip
 split at h<;>first|(cases h;done)|skip
 rename_i a0 p0 a1 p1 a2 p2 a3 p3 e0 e1 e2 e3
 cases h
 refine⟨fun hp=>?_,_,rfl⟩
 have q0:=fun p hm=>hp p (List.mem_append.2 (.inl hm))
 have r0:=fun p hm=>hp p (List.mem_append.2 (.inr hm))
 have q1:=fun p hm=>r0 p (List.mem_append.2 (.inl hm))
 have r1:=fun p hm=>r0 p (List.mem_append.2 (.inr hm))
 have q2:=fun p hm=>r1 p (List.mem_append.2 (.inl hm))
 have r2:=fun p hm=>r1 p (List.mem_append.2 (.inr hm))
 have q3:=fun p hm=>r2 p (List.mem_append.2 (.inl hm))
 refine Ao (Ai (Aac a0 a1 a2 a3 (Wt a0 a1 a2 a3)) (Nat.le_refl _) (Af (Ag _ _) (Af (Ag _ _) (Af (Ag _ _) (Af (Ag _ _) Au)))) nx o) fun F N R vs hl=>?_
 obtain⟨v0,w0,rfl,h0,hl⟩:=hl.inv
 obtain⟨v1,w1,rfl,h1,hl⟩:=hl.inv
 obtain⟨v2,w2,rfl,h2,hl⟩:=hl.inv
 obtain⟨v3,w3,rfl,h3,hl⟩:=hl.inv
 exact HL.cons (Ar e0 q0 h0) (HL.cons (Ar e1 q1 h1) (HL.cons (Ar e2 q2 h2) (HL.cons (Ar e3 q3 h3) (hl))))
noncomputable def A6a:=B5 26 KH A59
theorem Aub:Gg Try.prog A6a:=Ax Wu Aua
def CL (a0:TFront) (a1:TVec):Bool:=C3 a0 a1 !=(0:Int)
def GF (a0:TFront) (a1:TVec):TFront:=TFront.mk (bif(CL a0 a1) then(0:Int) else(AB a0 a1).1) (bif(CL a0 a1) then(0:Int) else(AB a0 a1).2) (bif(CL a0 a1) then(0:Int) else(AB a0 a1).3) (bif(CL a0 a1) then(0:Int) else(AB a0 a1).4) (bif(CL a0 a1) then(0:Int) else(AB a0 a1).5)
def Yu (a0:TFront) (a1:TVec):Int:=bif(CL a0 a1) then C3 a0 a1 else(0:Int)
def JX (a0:TFront) (a1:TVec):A:=.v (.tuple ⟨[.agg ⟨[.int .i64 ((GF a0 a1).site),.int .i64 ((GF a0 a1).acked),.int .i64 ((GF a0 a1).stable),.int .i64 ((GF a0 a1).wait),.int .i64 ((GF a0 a1).til)]⟩,.int .i64 (Yu a0 a1)]⟩)
def JW (_a0:TFront) (_a1:TVec):Objs:=[]
def MT (a0:TFront) (a1:TVec):List Prop:=[((!(CL a0 a1))=true→decide (a0.5 >(0:Int))=true→(0:Int)≤AA a0 a1∧AA a0 a1 <(2:Int))]
set_option maxRecDepth 100000 in
theorem Wv (a0:TFront) (a1:TVec):Hx (Ay A6a L0) 9 27 [Aq .front a0,Aq .vec a1] 0 []=some (1,JX a0 a1,0,JW a0 a1,[((!(CL a0 a1))=true→decide (a0.5 >(0:Int))=true→(0:Int)≤AA a0 a1∧AA a0 a1 <(2:Int))]):=by kernel_rfl
set_option maxRecDepth 100000 in
theorem Yv (a0:TFront) (a1:TVec) (hp:∀p∈MT a0 a1,p):CallOk Try.prog 27 [Aq .front a0,Aq .vec a1] 0 [] 1 (JX a0 a1) 0 (JW a0 a1):=by
 have n0:=N0 hp
 exact AJ (Aw Aub AM) (Wv a0 a1) (Aa n0 Ad)
theorem U4 (a0:TFront) (a1:TVec):∀p∈MT a0 a1,p:=
 Aa (fun h _=>Bem (MK (f:=a0) (v:=a1) h)) Ad
def JY:List A→Nat→Objs→Option BP
 | [y0,y1],nx,o=>match A3 .front y0,A3 .vec y1 with
  |some (a0,p0),some (a1,p1)=>some (1,(JX a0 a1).pk (AH nx),nx+0,AG nx (JW a0 a1)++o,p0++(p1++(([]:List Prop))))
  |_,_=>none
 |_,_,_=>none
theorem U5:HO Try.prog 27 JY:=fun args nx o k x nx' o' ps h=>by
 unfold JY at h
 split at h<;>first|(cases h;done)|skip
 split at h<;>first|(cases h;done)|skip
 rename_i a0 p0 a1 p1 e0 e1
 cases h
 refine⟨fun hp=>?_,_,rfl⟩
 have q0:=fun p hm=>hp p (List.mem_append.2 (.inl hm))
 have r0:=fun p hm=>hp p (List.mem_append.2 (.inr hm))
 have q1:=fun p hm=>r0 p (List.mem_append.2 (.inl hm))
 refine Ao (Ai (Yv a0 a1 (U4 a0 a1)) (Nat.le_refl _) (Af (Ag _ _) (Af (Ag _ _) Au)) nx o) fun F N R vs hl=>?_
 obtain⟨v0,w0,rfl,h0,hl⟩:=hl.inv
 obtain⟨v1,w1,rfl,h1,hl⟩:=hl.inv
 exact HL.cons (Ar e0 q0 h0) (HL.cons (Ar e1 q1 h1) (hl))
noncomputable def A6b:=B5 27 JY A6a
theorem Auc:Gg Try.prog A6b:=Ax U5 Aub
def CM (a0:TFront) (a1:TVec):Bool:=C3 a0 a1 !=(0:Int)
def BI (a0:TFront) (_a1:TVec):Int:=IntKind.i64.wrap (a0.1 - (1:Int))
def NZ (a0:TFront) (a1:TVec):TVec:=TVec.mk (bif(CM a0 a1) then(0:Int) else bif(BI a0 a1).toNat.beq (0:Nat) then a0.3 else a1.1) (bif(CM a0 a1) then(0:Int) else bif(BI a0 a1).toNat.beq (1:Nat) then a0.3 else a1.2)
def Yw (a0:TFront) (a1:TVec):Int:=bif(CM a0 a1) then C3 a0 a1 else(0:Int)
def J0 (a0:TFront) (a1:TVec):A:=.v (.tuple ⟨[.agg ⟨[.int .i64 ((NZ a0 a1).a),.int .i64 ((NZ a0 a1).b)]⟩,.int .i64 (Yw a0 a1)]⟩)
def JZ (_a0:TFront) (_a1:TVec):Objs:=[]
def MU (a0:TFront) (a1:TVec):List Prop:=[((!(CM a0 a1))=true→(0:Int)≤(BI a0 a1)∧(BI a0 a1) <(2:Int))]
set_option maxRecDepth 100000 in
theorem Ww (a0:TFront) (a1:TVec):Hx (Ay A6b L0) 9 31 [Aq .front a0,Aq .vec a1] 0 []=some (1,J0 a0 a1,0,JZ a0 a1,[((!(CM a0 a1))=true→(0:Int)≤(BI a0 a1)∧(BI a0 a1) <(2:Int)),((!(CM a0 a1))=true→(BI a0 a1).toNat <(2:Nat))]):=by kernel_rfl
set_option maxRecDepth 100000 in
theorem Yx (a0:TFront) (a1:TVec) (hp:∀p∈MU a0 a1,p):CallOk Try.prog 31 [Aq .front a0,Aq .vec a1] 0 [] 1 (J0 a0 a1) 0 (JZ a0 a1):=by
 have n0:((!(CM a0 a1))=true→(0:Int)≤(BI a0 a1)∧(BI a0 a1) <(2:Int)):=N0 hp
 have n1:((!(CM a0 a1))=true→(BI a0 a1).toNat <(2:Nat)):=by intro h0;have g:=n0 h0;omega
 exact AJ (Aw Auc AM) (Ww a0 a1) (Aa n0 (Aa n1 Ad))
theorem U6 (a0:TFront) (a1:TVec):∀p∈MU a0 a1,p:=
 Aa (fun h=>Bfy (MK (f:=a0) (v:=a1) h)) Ad
def J1:List A→Nat→Objs→Option BP
 | [y0,y1],nx,o=>match A3 .front y0,A3 .vec y1 with
  |some (a0,p0),some (a1,p1)=>some (1,(J0 a0 a1).pk (AH nx),nx+0,AG nx (JZ a0 a1)++o,p0++(p1++(([]:List Prop))))
  |_,_=>none
 |_,_,_=>none
theorem U7:HO Try.prog 31 J1:=fun args nx o k x nx' o' ps h=>by
 unfold J1 at h
 split at h<;>first|(cases h;done)|skip
 split at h<;>first|(cases h;done)|skip
 rename_i a0 p0 a1 p1 e0 e1
 cases h
 refine⟨fun hp=>?_,_,rfl⟩
 have q0:=fun p hm=>hp p (List.mem_append.2 (.inl hm))
 have r0:=fun p hm=>hp p (List.mem_append.2 (.inr hm))
 have q1:=fun p hm=>r0 p (List.mem_append.2 (.inl hm))
 refine Ao (Ai (Yx a0 a1 (U6 a0 a1)) (Nat.le_refl _) (Af (Ag _ _) (Af (Ag _ _) Au)) nx o) fun F N R vs hl=>?_
 obtain⟨v0,w0,rfl,h0,hl⟩:=hl.inv
 obtain⟨v1,w1,rfl,h1,hl⟩:=hl.inv
 exact HL.cons (Ar e0 q0 h0) (HL.cons (Ar e1 q1 h1) (hl))
noncomputable def Bcv:=B5 31 J1 A6b
theorem A6c:Gg Try.prog Bcv:=Ax U7 Auc
def Ti:A:=.v (.bool (true))
def Th:Objs:=[]
def YQ:List Prop:=[]
set_option maxRecDepth 100000 in
theorem Aru:Hx (Ay Bcv L0) 1040 25 [] 0 []=some (1,Ti,0,Th,[]):=by kernel_rfl
set_option maxRecDepth 100000 in
theorem Av7 (_hp:∀p∈YQ,p):CallOk Try.prog 25 [] 0 [] 1 (Ti) 0 (Th):=by
 exact AJ (Aw A6c AM) (Aru) Ad
def Tj:List A→Nat→Objs→Option BP
 | [],nx,o=>some (1,(Ti).pk (AH nx),nx+0,AG nx (Th)++o,YQ)
 |_,_,_=>none
theorem Ani:HO Try.prog 25 Tj:=fun args nx o k x nx' o' ps h=>by
 unfold Tj at h
 split at h<;>first|(cases h;done)|skip
 cases h
 refine⟨fun hp=>?_,_,rfl⟩
 refine Ao (Ai (Av7 hp) (Nat.le_refl _) Au nx o) fun F N R vs hl=>?_
 exact hl
end Go.Proofs.Yteebobbhhgmeiaa
namespace Go.Proofs.Yteebobbhhgmeiaa
open Go.RowKit
def ltS (a b:ByteArray):Bool:=Op.bytesLess a.toList b.toList
theorem X8:∀x:List UInt8,Op.bytesLess x x=false
 | []=>rfl
 |a::x=>by
  unfold Op.bytesLess
  rw[X8 x]
  simp
theorem Ac6:∀{x y z:List UInt8},Op.bytesLess x y=true→Op.bytesLess y z=true→Op.bytesLess x z=true
 |x,[],_,h,_=>by cases x<;>cases h
 |_,_::_,[],_,h=>by cases h
 | [],_::_,_::_,_,_=>rfl
 |a::x,b::y,c::z,h,g=>by
  unfold Op.bytesLess at*
  simp only[Bool.or_eq_true,decide_eq_true_eq,Bool.and_eq_true,beq_iff_eq] at*
  rcases h with h|⟨rfl,h⟩<;>rcases g with g|⟨rfl,g⟩
  ·exact .inl (UInt8.lt_trans h g)
  ·exact .inl h
  ·exact .inl g
  ·exact .inr ⟨rfl,Ac6 h g⟩
theorem Ac5:∀{x y:List UInt8},Op.bytesLess x y=false→x≠y→Op.bytesLess y x=true
 | [],[],_,h=>absurd rfl h
 | [],_::_,h,_=>by cases h
 |_::_,[],_,_=>rfl
 | a::x,b::y,h,g=>by
  unfold Op.bytesLess at*
  simp only[Bool.or_eq_true,Bool.or_eq_false_iff,decide_eq_true_eq,decide_eq_false_iff_not,Bool.and_eq_true,beq_iff_eq] at*
  obtain⟨h1,h2⟩:=h
  by_cases e:a=b
  ·subst e
   refine .inr ⟨rfl,Ac5 (by simpa using h2) fun e=>g (by rw[e])⟩
  ·left
   have h1':¬a.toNat <b.toNat:=h1
   have h3:a.toNat≠b.toNat:=fun h=>e (UInt8.toNat_inj.1 h)
   show b.toNat <a.toNat
   omega
theorem Apn {a b c:ByteArray} (h:ltS a b=true) (g:ltS b c=true):ltS a c=true:=Ac6 h g
theorem A8d {a b:ByteArray} (h:ltS a b=true):a≠b:=by
 rintro rfl
 unfold ltS at h
 rw[X8] at h
 cases h
theorem Apm {a b:ByteArray} (h:ltS a b=false) (g:a≠b):ltS b a=true:=by
 refine Ac5 h fun e=>g ?_
 have:(a.toList==b.toList)=true:=beq_iff_eq.2 e
 rw[tlb] at this
 exact eq_of_beq this
def Bgn (l:List Ab) (i:Nat):Int:=(l.getD i (Ae TC.group)).policy
def SK (cs:List TCell) (i:Nat):TCell:=cs.getD i (Ae TC.cell)
def DQ (rows:List TRow) (i:Nat):TRow:=rows.getD i (Ae TC.row)
def Oi (rows:List TRow):Nat→ByteArray
 |0=>⟨#[]⟩
 |i+1=>(DQ rows i).key
def leS (a b:ByteArray):Bool:=ltS a b||a==b
def SS (l:List Ab) (rows:List TRow) (i:Nat):Int:=bif AF l (DQ rows i) !=0 then AF l (DQ rows i) else bif JQ (DQ rows i)||leS (DQ rows i).key (Oi rows i) then 100 else 0
def FK (l:List Ab) (rows:List TRow):Nat→Int
 |0=>0
 |i+1=>bif FK l rows i !=0 then FK l rows i else SS l rows i
def H4 (l:List Ab) (rows:List TRow):Int:=bif CI l !=0 then CI l else FK l rows rows.length
theorem YD (l:List Ab) (rows:List TRow):∀n,FK l rows n=0↔∀i,i <n→SS l rows i=0
 |0=>⟨fun _ i h=>absurd h (Nat.not_lt_zero _),fun _=>rfl⟩
 | n +1=>by
  have ih:=YD l rows n
  unfold FK
  cases h:FK l rows n !=0 with
  |true=>
   rw[cond_true]
   have h':FK l rows n≠0:=by simpa using h
   exact⟨fun e=>absurd e h',fun e=>absurd (ih.2 fun i hi=>e i (by omega)) h'⟩
  | false=>
   rw[cond_false]
   have h':FK l rows n=0:=by simpa using h
   constructor
   ·intro e i hi
    rcases Nat.lt_or_ge i n with g|g
    ·exact ih.1 h' i g
    ·obtain rfl:i=n:=by omega
     exact e
   ·intro e
    exact e n (Nat.lt_succ_self n)
theorem S4 {l:List Ab} {rows:List TRow} {k:Nat} (h:FK l rows k≠0):∀n,k≤n→FK l rows n=FK l rows k
 |0,hn=>by
  obtain rfl:k=0:=by omega
  rfl
 | n+1,hn=>by
  rcases Nat.lt_or_ge n k with g|g
  ·obtain rfl:k=n+1:=by omega
   rfl
  ·have ih:=S4 h n g
   have hb:(FK l rows k !=0)=true:=by simpa using h
   show(bif FK l rows n !=0 then FK l rows n else _)=_
   rw[ih,hb,cond_true]
theorem A3c {l:List Ab} {rows:List TRow}:H4 l rows=0↔CI l=0∧∀i,i <rows.length→SS l rows i=0:=by
 unfold H4
 cases h:CI l !=0 with
 |true=>
  rw[cond_true]
  have h':CI l≠0:=by simpa using h
  exact⟨fun e=>absurd e h',fun e=>absurd e.1 h'⟩
 |false=>
  rw[cond_false,YD]
  have h':CI l=0:=by simpa using h
  exact⟨fun e=>⟨h',e⟩,fun e=>e.2⟩
theorem A7o {l:List Ab} {rows:List TRow} {i:Nat}:SS l rows i=0↔AF l (DQ rows i)=0∧JQ (DQ rows i)=false∧leS (DQ rows i).key (Oi rows i)=false:=by
 unfold SS
 cases h:AF l (DQ rows i) !=0 with
 |true=>
  rw[cond_true]
  have h':AF l (DQ rows i)≠0:=by simpa using h
  exact⟨fun e=>absurd e h',fun e=>absurd e.1 h'⟩
 |false=>
  rw[cond_false]
  have h':AF l (DQ rows i)=0:=by simpa using h
  cases JQ (DQ rows i)<;>cases leS (DQ rows i).key (Oi rows i)<;>simp[h']
def Bgf (rows:List TRow):Prop:=rows.Pairwise fun a b=>ltS a.key b.key=true
theorem A85 {rows:List TRow} {i:Nat} (h:i <rows.length):DQ rows i=rows[i]:=by
 unfold DQ
 rw[List.getD_eq_getElem?_getD,List.getElem?_eq_getElem h]
 rfl
def C8 (p:Int) (st:TVec) (c:TCell):Bool:=!Wq c Dq&&(EZ p c&&(Ana st (LT c)&&!NC p c))
def mN (l:List Ab) (st:TVec) (cs:List TCell) (i:Nat):Bool:=C8 (Bgn l i) st (SK cs i)
def Sr (l:List Ab) (st:TVec) (cs:List TCell):Nat→List TCell
 |0=>cs
 |i+1=>bif mN l st cs i then(Sr l st cs i).set i Dq else Sr l st cs i
def JN (l:List Ab) (st:TVec) (cs:List TCell):Nat→Nat
 |0=>0
 |i+1=>bif mN l st cs i then JN l st cs i+1 else JN l st cs i
def O3 (l:List Ab) (st:TVec) (cs:List TCell) (v:TVec):Nat→TVec
 |0=>v
 |i+1=>bif mN l st cs i then Aym (O3 l st cs v i) (LT (SK cs i)) else O3 l st cs v i
def A9b (l:List Ab) (st:TVec) (r:TRow):Bool:=!(JN l st r.cells l.length==0)
def swR (l:List Ab) (st:TVec) (r:TRow):TRow:=⟨r.key,Sr l st r.cells l.length⟩
def LZ (l:List Ab) (st:TVec) (rows:List TRow):Nat→List TRow
 |0=>[]
 |k+1=>bif A9b l st (DQ rows k) then LZ l st rows k++[swR l st (DQ rows k)] else LZ l st rows k
def JO (l:List Ab) (st:TVec) (rows:List TRow):Nat→TVec
 |0=>⟨0,0⟩
 |k+1=>O3 l st (DQ rows k).cells (JO l st rows k) l.length
def HA (l:List Ab) (rows:List TRow) (st:TVec):Int:=bif H4 l rows !=0 then H4 l rows else bif GY st then 0 else 2
def Ma (l:List Ab) (rows:List TRow) (st:TVec):List TRow:=bif HA l rows st==0 then LZ l st rows rows.length else[]
def L9 (l:List Ab) (rows:List TRow) (st:TVec):TVec:=bif HA l rows st==0 then JO l st rows rows.length else⟨0,0⟩
theorem ZN (l:List Ab) (st:TVec) (cs:List TCell):∀i,(Sr l st cs i).length=cs.length
 |0=>rfl
 |i+1=>by
  have ih:=ZN l st cs i
  unfold Sr
  cases mN l st cs i with
  |true=>rw[cond_true,List.length_set,ih]
  |false=>exact ih
theorem A1k (l:List Ab) (st:TVec) (cs:List TCell) (j:Nat) (hj:j <cs.length):∀i,SK (Sr l st cs i) j=bif decide (j <i)&&mN l st cs j then Dq else SK cs j
 |0=>rfl
 | i+1=>by
  have ih:=A1k l st cs j hj i
  unfold Sr
  cases hm:mN l st cs i with
  | true=>
   rw[cond_true]
   unfold SK at ih⊢
   rw[List.getD_eq_getElem?_getD,List.getElem?_set,ZN]
   by_cases e:i=j
   ·subst e
    rw[if_pos rfl,if_pos hj,hm,decide_eq_true (by omega)]
    rfl
   ·rw[if_neg e,←List.getD_eq_getElem?_getD,ih]
    congr 2
    exact decide_eq_decide.2 (by omega)
  | false=>
   rw[cond_false,ih]
   by_cases e:i=j
   ·subst e
    rw[hm,Bool.and_false,Bool.and_false]
   ·congr 2
    exact decide_eq_decide.2 (by omega)
theorem A7a (l:List Ab) (st:TVec) (cs:List TCell):∀i,JN l st cs i≤i
 |0=>Nat.le_refl _
 |i+1=>by
  have:=A7a l st cs i
  unfold JN
  cases mN l st cs i with
  |true=>rw[cond_true];omega
  |false=>rw[cond_false];omega
theorem Aks (l:List Ab) (st:TVec) (rows:List TRow):∀k,k≤rows.length→LZ l st rows k=((rows.take k).filter (A9b l st)).map (swR l st)
 |0,_=>by simp[LZ]
 |k+1,hk=>by
  have ih:=Aks l st rows k (by omega)
  have hr:DQ rows k=rows[k]:=A85 (by omega)
  unfold LZ
  rw[List.take_add_one,List.getElem?_eq_getElem (by omega),List.filter_append,List.map_append,←ih,hr]
  cases hs:A9b l st rows[k] with
  |true=>simp[hs]
  |false=>simp[hs]
theorem Asb (l:List Ab) (st:TVec) (rows:List TRow) (k:Nat) (hk:k≤rows.length):(LZ l st rows k).length≤k:=by
 rw[Aks l st rows k hk,List.length_map]
 refine Nat.le_trans (List.length_filter_le _ _) ?_
 rw[List.length_take]
 omega
end Go.Proofs.Yteebobbhhgmeiaa
namespace Go.Proofs.Yteebobbhhgmeiaa
open Go.RowKit
theorem Aul {X:Type} (mk:Nat→Int→X) (len:Nat) (step:Nat→Int→Int) (P:Nat→Prop) (m c:Int) (s:Bool) (next:X→X) (goes:X→Cnd) (ps:X→List Prop)
  (hs:∀i n,i <len→0≤n→0≤step i n∧(step i n≤m→n+c≤step i n∧P i)) (hc:0≤c)
  (hg:∀i n,i≤len→By (goes (mk i n))=(decide (i <len)&&(s||decide (n≤m)))) (hn:∀i n,i <len→0≤n→next (mk i n)=mk (i+1) (step i n))
  (hp:∀i n,i≤len→0≤n→∀p∈ps (mk i n),p):
  ∀(f i:Nat) (n:Int),i≤len→len≤i+f→0≤n→
  AE next goes ps f (mk i n)∧∃k n',BA next goes f (mk i n)=mk k n'∧0≤n'∧(n'≤m→n+c*((len:Int) - (i:Int))≤n'∧∀j,i≤j→j <len→P j)
 |0,i,n,hi,hf,h0=>by
  obtain rfl:i=len:=by omega
  have hb:=hg i n (Nat.le_refl _)
  rw[decide_eq_false (Nat.lt_irrefl _),Bool.false_and] at hb
  exact⟨⟨hp i n hi h0,hb⟩,i,n,rfl,h0,fun _=>⟨by rw[Int.sub_self,Int.mul_zero];omega,fun j h1 h2=>by omega⟩⟩
 | f+1,i,n,hi,hf,h0=>by
  have hb:=hg i n hi
  cases hv:By (goes (mk i n)) with
  | false=>
   have e:BA next goes (f+1) (mk i n)=mk i n:=by
    show(bif By (goes (mk i n)) then _ else mk i n)=_
    rw[hv];rfl
   rw[e]
   refine⟨⟨hp i n hi h0,fun h=>by rw[hv] at h;cases h⟩,i,n,rfl,h0,fun hm=>?_⟩
   rw[hv] at hb
   rw[decide_eq_true hm,Bool.or_true,Bool.and_true] at hb
   have:¬i <len:=of_decide_eq_false hb.symm
   obtain rfl:i=len:=by omega
   exact⟨by rw[Int.sub_self,Int.mul_zero];omega,fun j h1 h2=>by omega⟩
  | true=>
   rw[hv] at hb
   have hi':i <len:=by
    cases h:decide (i <len) with
    |true=>exact of_decide_eq_true h
    |false=>rw[h] at hb;cases hb
   obtain⟨s1,s2⟩:=hs i n hi' h0
   have e:BA next goes (f+1) (mk i n)=BA next goes f (mk (i+1) (step i n)):=by
    show(bif By (goes (mk i n)) then BA next goes f (next (mk i n)) else mk i n)=_
    rw[hv,hn i n hi' h0];rfl
   obtain⟨g1,k,n',g2,g3,g4⟩:=Aul mk len step P m c s next goes ps hs hc hg hn hp f (i+1) (step i n) hi' (by omega) s1
   rw[e]
   refine⟨⟨hp i n hi h0,fun _=>by rw[hn i n hi' h0];exact g1⟩,k,n',g2,g3,fun hm=>?_⟩
   obtain⟨a1,a2⟩:=g4 hm
   have hpos:0≤c*((len:Int) - ((i+1:Nat):Int)):=Int.mul_nonneg hc (by omega)
   obtain⟨b1,b2⟩:=s2 (by omega)
   have hd:c*((len:Int) - (i:Int))=c*((len:Int) - ((i+1:Nat):Int))+c:=by
    rw[show((len:Int) - (i:Int))=((len:Int) - ((i+1:Nat):Int))+1 by omega,Int.mul_add,Int.mul_one]
   refine⟨by rw[hd];omega,fun j h1 h2=>?_⟩
   by_cases e:j=i
   ·subst e;exact b2
   ·exact a2 j (by omega) h2
theorem SI {X:Type} (mk:Nat→Int→X) (len:Nat) (step:Nat→Int→Int) (P:Nat→Prop) (m c:Int) (s:Bool) (next:X→X) (goes:X→Cnd) (ps:X→List Prop) (f:Nat) (x:X) (n0:Int) (hx:x=mk 0 n0) (hf:len≤f) (h0:0≤n0)
  (hs:∀i n,i <len→0≤n→0≤step i n∧(step i n≤m→n+c≤step i n∧P i)) (hc:0≤c)
  (hg:∀i n,i≤len→By (goes (mk i n))=(decide (i <len)&&(s||decide (n≤m)))) (hn:∀i n,i <len→0≤n→next (mk i n)=mk (i+1) (step i n))
  (hp:∀i n,i≤len→0≤n→∀p∈ps (mk i n),p):
  AE next goes ps f x∧∃k n',BA next goes f x=mk k n'∧0≤n'∧(n'≤m→n0+c*(len:Int)≤n'∧∀j,j <len→P j):=by
 subst hx
 obtain⟨h1,k,n',h2,h3,h4⟩:=Aul mk len step P m c s next goes ps hs hc hg hn hp f 0 n0 (Nat.zero_le _) (by omega) h0
 refine⟨h1,k,n',h2,h3,fun h=>?_⟩
 obtain⟨h5,h6⟩:=h4 h
 rw[show((len:Int) - ((0:Nat):Int))=(len:Int) by omega] at h5
 exact⟨h5,fun j hj=>h6 j (Nat.zero_le _) hj⟩
theorem PG {α:Type} {l:List α} {d:α} {P:α→Prop} (h:∀j,j <l.length→P (l.getD j d)):∀x∈l,P x:=fun x hx=>by
 obtain⟨j,hj,rfl⟩:=List.mem_iff_getElem.1 hx
 have:=h j hj
 rw[List.getD_eq_getElem?_getD,List.getElem?_eq_getElem hj] at this
 exact this
end Go.Proofs.Yteebobbhhgmeiaa
namespace Go.Proofs.Yteebobbhhgmeiaa
open Go.RowKit
noncomputable def Bfb:=B5 111 Abi Cl
theorem Bal:Gg Try.prog Bfb:=Ax Awu A6y
noncomputable def ZR:=B5 25 Tj Bfb
theorem QW:Gg Try.prog ZR:=Ax Ani Bal
abbrev Cm:Type:=(List BB)×Int×Int×Int
def J8 (x:Cm):St:=⟨122,0,[(1,.sl .change x.1),(7,.v (.int .i64 x.2.1)),(8,.v (.int .i64 x.2.2.1)),(9,.v (.int .i64 x.2.2.2))],[]⟩
def LV:St→Option Cm
 |⟨122,0,[(1,.sl .change z0),(7,.v (.int .i64 z1)),(8,.v (.int .i64 z2)),(9,.v (.int .i64 z3))],[]⟩=>some (z0,z1,z2,z3)
 |_=>none
theorem YJ:∀s x,LV s=some x→s=J8 x:=fun s x h=>by
 unfold LV at h
 split at h
 ·cases h;rfl
 ·cases h
def Ta:DS:=⟨0,0,[1,7,8,9],[],[],[],[7],[]⟩
def Ajh:Eh:=⟨[],[],[1,7,8,9],[]⟩
def Bn (a0:List BB) (a1:Int) (a2:Int) (a3:Int):Bool:=!!(decide (a3 <(↑(a0.getD a2.toNat (Ae TC.change)).5.length:Int))&&decide (a1≤(6000:Int)))
def KT (a0:List BB) (a1:Int) (a2:Int) (a3:Int):Int:=Az (Az (Az a1 (10:Int) (6000:Int)) (↑((a0.getD a2.toNat (Ae TC.change)).5.getD a3.toNat (Ae TC.write)).1.size:Int) (6000:Int)) (↑((a0.getD a2.toNat (Ae TC.change)).5.getD a3.toNat (Ae TC.write)).4.size:Int) (6000:Int)
def YI (a0:List BB) (a1:Int) (a2:Int) (a3:Int):Bool:=!(decide (a3 <(↑(a0.getD a2.toNat (Ae TC.change)).5.length:Int))&&decide (a1≤(6000:Int)))
def DW (x:Cm):Cm:=(x.1,KT x.1 x.2.1 x.2.2.1 x.2.2.2,x.2.2.1,IntKind.i64.wrap (x.2.2.2+(1:Int)))
def DV (x:Cm):Cnd:=some ((Bn x.1 x.2.1 x.2.2.1 x.2.2.2))
def P0 (x:Cm):List Prop:=[((0:Int)≤x.2.2.1∧x.2.2.1 <(↑x.1.length:Int)),((Bn x.1 x.2.1 x.2.2.1 x.2.2.2)=true→(0:Int)≤x.2.2.1∧x.2.2.1 <(↑x.1.length:Int)),((Bn x.1 x.2.1 x.2.2.1 x.2.2.2)=true→(0:Int)≤x.2.2.2∧x.2.2.2 <(↑(x.1.getD x.2.2.1.toNat (Ae TC.change)).5.length:Int)),((Bn x.1 x.2.1 x.2.2.1 x.2.2.2)=true→(0:Int)≤x.2.2.1∧x.2.2.1 <(↑x.1.length:Int)),((Bn x.1 x.2.1 x.2.2.1 x.2.2.2)=true→(0:Int)≤x.2.2.2∧x.2.2.2 <(↑(x.1.getD x.2.2.1.toNat (Ae TC.change)).5.length:Int))]
def Gx (x:Cm):List Prop:=[((0:Int)≤x.2.2.1∧x.2.2.1 <(↑x.1.length:Int)),((Bn x.1 x.2.1 x.2.2.1 x.2.2.2)=true→(0:Int)≤x.2.2.1∧x.2.2.1 <(↑x.1.length:Int)),((Bn x.1 x.2.1 x.2.2.1 x.2.2.2)=true→(0:Int)≤x.2.2.2∧x.2.2.2 <(↑(x.1.getD x.2.2.1.toNat (Ae TC.change)).5.length:Int))]
def Od (x:Cm):Bw:=[(some 2,some (YI x.1 x.2.1 x.2.2.1 x.2.2.2),⟨122,0,[(7,.v (.int .i64 x.2.1))],[]⟩)]
def E1 (x:Cm):Nat:=((↑(x.1.getD x.2.2.1.toNat (Ae TC.change)).5.length:Int) - x.2.2.2).toNat
def FV (x:Cm):Cm:=BA DW DV (E1 x) x
set_option maxRecDepth 100000 in
theorem Af7 (a0:List BB) (a1:Int) (a2:Int) (a3:Int):Ce (Ay ZR L0) 9 (Ah Try.prog 45 2) Ta (J8 (a0,a1,a2,a3))=some (P0 (a0,a1,a2,a3),Od (a0,a1,a2,a3),DV (a0,a1,a2,a3),J8 (DW (a0,a1,a2,a3))):=by kernel_rfl
set_option maxRecDepth 100000 in
theorem Af8 (a0:List BB) (a1:Int) (a2:Int) (a3:Int) (hp:∀p∈Gx (a0,a1,a2,a3),p):∀p∈P0 (a0,a1,a2,a3),p:=by
 have n0:=N0 hp
 have n1:((Bn a0 a1 a2 a3)=true→(0:Int)≤a2∧a2 <(↑a0.length:Int)):=N0 (N1 hp)
 have n2:((Bn a0 a1 a2 a3)=true→(0:Int)≤a3∧a3 <(↑(a0.getD a2.toNat (Ae TC.change)).5.length:Int)):=N0 (N1 (N1 hp))
 exact(Aa n0 (Aa n1 (Aa n2 (Aa n1 (Aa n2 Ad)))))
noncomputable def P3:=HZ (Ay ZR L0) (Ah Try.prog 45 2) Ta Ajh LV E1 DW DV Gx Od
theorem Aap:∀s b ps outs,P3 s=some (b,ps,outs)→Wf s ⟨ps,outs,none⟩∧BY (Ay C0 L0) b s ps outs:=
 BL (T:=J8) QW AM (u:=9) (by kernel_rfl) (by decide) (fun⟨a0,a1,a2,a3⟩=>Af7 a0 a1 a2 a3) (fun⟨a0,a1,a2,a3⟩=>Af8 a0 a1 a2 a3) YJ (fun _=>AV (n:=122) rfl) fun _ _=>rfl
noncomputable def J7:=EO 2 P3 L0
theorem PZ:Ht J7:=Bf Aap AM
abbrev Cg:Type:=(List BB)×Int×Int
def J6 (x:Cg):St:=⟨122,0,[(1,.sl .change x.1),(7,.v (.int .i64 x.2.1)),(8,.v (.int .i64 x.2.2))],[]⟩
def LU:St→Option Cg
 |⟨122,0,[(1,.sl .change z0),(7,.v (.int .i64 z1)),(8,.v (.int .i64 z2))],[]⟩=>some (z0,z1,z2)
 |_=>none
theorem YH:∀s x,LU s=some x→s=J6 x:=fun s x h=>by
 unfold LU at h
 split at h
 ·cases h;rfl
 ·cases h
def S9:DS:=⟨0,0,[1,7,8],[],[],[],[7],[]⟩
def Ajg:Eh:=⟨[],[],[1,7,8],[]⟩
def De (a0:List BB) (a1:Int) (a2:Int):Bool:=!!(decide (a2 <(↑a0.length:Int))&&decide (a1≤(6000:Int)))
def ID (a0:List BB) (a1:Int) (a2:Int):Int:=(FV (a0,Az a1 (10:Int) (6000:Int),a2,(0:Int))).snd.fst
def Aan (a0:List BB) (a1:Int) (a2:Int):Bool:=!(decide (a2 <(↑a0.length:Int))&&decide (a1≤(6000:Int)))
def DU (x:Cg):Cg:=(x.1,ID x.1 x.2.1 x.2.2,IntKind.i64.wrap (x.2.2+(1:Int)))
def DT (x:Cg):Cnd:=some ((De x.1 x.2.1 x.2.2))
def PX (x:Cg):List Prop:=[((De x.1 x.2.1 x.2.2)=true→Ah Try.prog (45:FuncId) (2:Nat)=Ah Try.prog (45:FuncId) (2:Nat)),((De x.1 x.2.1 x.2.2)=true→AE DW DV Gx (E1 (x.1,Az x.2.1 (10:Int) (6000:Int),x.2.2,(0:Int))) (x.1,Az x.2.1 (10:Int) (6000:Int),x.2.2,(0:Int)))]
def Gw (x:Cg):List Prop:=[((De x.1 x.2.1 x.2.2)=true→AE DW DV Gx (E1 (x.1,Az x.2.1 (10:Int) (6000:Int),x.2.2,(0:Int))) (x.1,Az x.2.1 (10:Int) (6000:Int),x.2.2,(0:Int)))]
def Oa (x:Cg):Bw:=[(some 0,some (Aan x.1 x.2.1 x.2.2),⟨122,0,[(7,.v (.int .i64 x.2.1))],[]⟩)]
def E0 (x:Cg):Nat:=((↑x.1.length:Int) - x.2.2).toNat
def C4 (x:Cg):Cg:=BA DU DT (E0 x) x
set_option maxRecDepth 100000 in
theorem Af5 (a0:List BB) (a1:Int) (a2:Int):Ce (Ay ZR J7) 9 (Ah Try.prog 45 0) S9 (J6 (a0,a1,a2))=some (PX (a0,a1,a2),Oa (a0,a1,a2),DT (a0,a1,a2),J6 (DU (a0,a1,a2))):=by kernel_rfl
set_option maxRecDepth 100000 in
theorem Af6 (a0:List BB) (a1:Int) (a2:Int) (hp:∀p∈Gw (a0,a1,a2),p):∀p∈PX (a0,a1,a2),p:=by
 have n0:((De a0 a1 a2)=true→Ah Try.prog (45:FuncId) (2:Nat)=Ah Try.prog (45:FuncId) (2:Nat)):=by intros;rfl
 have n1:=N0 hp
 exact(Aa n0 (Aa n1 Ad))
noncomputable def PY:=HZ (Ay ZR J7) (Ah Try.prog 45 0) S9 Ajg LU E0 DU DT Gw Oa
theorem Aao:∀s b ps outs,PY s=some (b,ps,outs)→Wf s ⟨ps,outs,none⟩∧BY (Ay C0 L0) b s ps outs:=
 BL (T:=J6) QW PZ (u:=9) (by kernel_rfl) (by decide) (fun⟨a0,a1,a2⟩=>Af5 a0 a1 a2) (fun⟨a0,a1,a2⟩=>Af6 a0 a1 a2) YH (fun _=>AV (n:=122) rfl) fun _ _=>rfl
noncomputable def J5:=EO 0 PY J7
theorem PW:Ht J5:=Bf Aao PZ
abbrev Cr:Type:=Int×(List TRow)×Int×Int
def Kd (x:Cr):St:=⟨122,0,[(7,.v (.int .i64 x.1)),(11,.sl .row x.2.1),(12,.v (.int .i64 x.2.2.1)),(13,.v (.int .i64 x.2.2.2))],[]⟩
def LY:St→Option Cr
 |⟨122,0,[(7,.v (.int .i64 z0)),(11,.sl .row z1),(12,.v (.int .i64 z2)),(13,.v (.int .i64 z3))],[]⟩=>some (z0,z1,z2,z3)
 |_=>none
theorem YM:∀s x,LY s=some x→s=Kd x:=fun s x h=>by
 unfold LY at h
 split at h
 ·cases h;rfl
 ·cases h
def Te:DS:=⟨0,0,[7,11,12,13],[],[],[],[7],[]⟩
def Ajk:Eh:=⟨[],[],[7,11,12,13],[]⟩
def Dh (a0:Int) (a1:List TRow) (a2:Int) (a3:Int):Bool:=!!(decide (a3 <(↑(a1.getD a2.toNat (Ae TC.row)).2.length:Int))&&decide (a0≤(6000:Int)))
def KV (a0:Int) (a1:List TRow) (a2:Int) (a3:Int):Int:=Az (Az a0 (10:Int) (6000:Int)) (↑((a1.getD a2.toNat (Ae TC.row)).2.getD a3.toNat (Ae TC.cell)).4.size:Int) (6000:Int)
def Aau (a0:Int) (a1:List TRow) (a2:Int) (a3:Int):Bool:=!(decide (a3 <(↑(a1.getD a2.toNat (Ae TC.row)).2.length:Int))&&decide (a0≤(6000:Int)))
def Dj (x:Cr):Cr:=(KV x.1 x.2.1 x.2.2.1 x.2.2.2,x.2.1,x.2.2.1,IntKind.i64.wrap (x.2.2.2+(1:Int)))
def Di (x:Cr):Cnd:=some ((Dh x.1 x.2.1 x.2.2.1 x.2.2.2))
def Qa (x:Cr):List Prop:=[((0:Int)≤x.2.2.1∧x.2.2.1 <(↑x.2.1.length:Int)),((Dh x.1 x.2.1 x.2.2.1 x.2.2.2)=true→(0:Int)≤x.2.2.1∧x.2.2.1 <(↑x.2.1.length:Int)),((Dh x.1 x.2.1 x.2.2.1 x.2.2.2)=true→(0:Int)≤x.2.2.2∧x.2.2.2 <(↑(x.2.1.getD x.2.2.1.toNat (Ae TC.row)).2.length:Int))]
def Fs (x:Cr):List Prop:=[((0:Int)≤x.2.2.1∧x.2.2.1 <(↑x.2.1.length:Int)),((Dh x.1 x.2.1 x.2.2.1 x.2.2.2)=true→(0:Int)≤x.2.2.1∧x.2.2.1 <(↑x.2.1.length:Int)),((Dh x.1 x.2.1 x.2.2.1 x.2.2.2)=true→(0:Int)≤x.2.2.2∧x.2.2.2 <(↑(x.2.1.getD x.2.2.1.toNat (Ae TC.row)).2.length:Int))]
def Oh (x:Cr):Bw:=[(some 8,some (Aau x.1 x.2.1 x.2.2.1 x.2.2.2),⟨122,0,[(7,.v (.int .i64 x.1))],[]⟩)]
def D0 (x:Cr):Nat:=((↑(x.2.1.getD x.2.2.1.toNat (Ae TC.row)).2.length:Int) - x.2.2.2).toNat
def FX (x:Cr):Cr:=BA Dj Di (D0 x) x
set_option maxRecDepth 100000 in
theorem Agd (a0:Int) (a1:List TRow) (a2:Int) (a3:Int):Ce (Ay ZR J5) 9 (Ah Try.prog 45 8) Te (Kd (a0,a1,a2,a3))=some (Qa (a0,a1,a2,a3),Oh (a0,a1,a2,a3),Di (a0,a1,a2,a3),Kd (Dj (a0,a1,a2,a3))):=by kernel_rfl
set_option maxRecDepth 100000 in
theorem Age (a0:Int) (a1:List TRow) (a2:Int) (a3:Int) (hp:∀p∈Fs (a0,a1,a2,a3),p):∀p∈Qa (a0,a1,a2,a3),p:=by
 have n0:=N0 hp
 have n1:=N0 (N1 hp)
 have n2:=N0 (N1 (N1 hp))
 exact(Aa n0 (Aa n1 (Aa n2 Ad)))
noncomputable def Qb:=HZ (Ay ZR J5) (Ah Try.prog 45 8) Te Ajk LY D0 Dj Di Fs Oh
theorem Aav:∀s b ps outs,Qb s=some (b,ps,outs)→Wf s ⟨ps,outs,none⟩∧BY (Ay C0 L0) b s ps outs:=
 BL (T:=Kd) QW PW (u:=9) (by kernel_rfl) (by decide) (fun⟨a0,a1,a2,a3⟩=>Agd a0 a1 a2 a3) (fun⟨a0,a1,a2,a3⟩=>Age a0 a1 a2 a3) YM (fun _=>AV (n:=122) rfl) fun _ _=>rfl
noncomputable def Kc:=EO 8 Qb J5
theorem P9:Ht Kc:=Bf Aav PW
abbrev Cq:Type:=Int×(List TRow)×Int
def Kb (x:Cq):St:=⟨122,0,[(7,.v (.int .i64 x.1)),(11,.sl .row x.2.1),(12,.v (.int .i64 x.2.2))],[]⟩
def LX:St→Option Cq
 |⟨122,0,[(7,.v (.int .i64 z0)),(11,.sl .row z1),(12,.v (.int .i64 z2))],[]⟩=>some (z0,z1,z2)
 |_=>none
theorem YL:∀s x,LX s=some x→s=Kb x:=fun s x h=>by
 unfold LX at h
 split at h
 ·cases h;rfl
 ·cases h
def Td:DS:=⟨0,0,[7,11,12],[],[],[],[7],[]⟩
def Ajj:Eh:=⟨[],[],[7,11,12],[]⟩
def BX (a0:Int) (a1:List TRow) (a2:Int):Bool:=!!(decide (a2 <(↑a1.length:Int))&&decide (a0≤(6000:Int)))
def IF (a0:Int) (a1:List TRow) (a2:Int):Int:=(FX (Az (Az a0 (10:Int) (6000:Int)) (↑(a1.getD a2.toNat (Ae TC.row)).1.size:Int) (6000:Int),a1,a2,(0:Int))).fst
def Aas (a0:Int) (a1:List TRow) (a2:Int):Bool:=!(decide (a2 <(↑a1.length:Int))&&decide (a0≤(6000:Int)))
def Dg (x:Cq):Cq:=(IF x.1 x.2.1 x.2.2,x.2.1,IntKind.i64.wrap (x.2.2+(1:Int)))
def Df (x:Cq):Cnd:=some ((BX x.1 x.2.1 x.2.2))
def P7 (x:Cq):List Prop:=[((BX x.1 x.2.1 x.2.2)=true→(0:Int)≤x.2.2∧x.2.2 <(↑x.2.1.length:Int)),((BX x.1 x.2.1 x.2.2)=true→Ah Try.prog (45:FuncId) (8:Nat)=Ah Try.prog (45:FuncId) (8:Nat)),((BX x.1 x.2.1 x.2.2)=true→AE Dj Di Fs (D0 (Az (Az x.1 (10:Int) (6000:Int)) (↑(x.2.1.getD x.2.2.toNat (Ae TC.row)).1.size:Int) (6000:Int),x.2.1,x.2.2,(0:Int))) (Az (Az x.1 (10:Int) (6000:Int)) (↑(x.2.1.getD x.2.2.toNat (Ae TC.row)).1.size:Int) (6000:Int),x.2.1,x.2.2,(0:Int)))]
def Fr (x:Cq):List Prop:=[((BX x.1 x.2.1 x.2.2)=true→(0:Int)≤x.2.2∧x.2.2 <(↑x.2.1.length:Int)),((BX x.1 x.2.1 x.2.2)=true→AE Dj Di Fs (D0 (Az (Az x.1 (10:Int) (6000:Int)) (↑(x.2.1.getD x.2.2.toNat (Ae TC.row)).1.size:Int) (6000:Int),x.2.1,x.2.2,(0:Int))) (Az (Az x.1 (10:Int) (6000:Int)) (↑(x.2.1.getD x.2.2.toNat (Ae TC.row)).1.size:Int) (6000:Int),x.2.1,x.2.2,(0:Int)))]
def Og (x:Cq):Bw:=[(some 6,some (Aas x.1 x.2.1 x.2.2),⟨122,0,[(7,.v (.int .i64 x.1))],[]⟩)]
def DZ (x:Cq):Nat:=((↑x.2.1.length:Int) - x.2.2).toNat
def FW (x:Cq):Cq:=BA Dg Df (DZ x) x
set_option maxRecDepth 100000 in
theorem Agb (a0:Int) (a1:List TRow) (a2:Int):Ce (Ay ZR Kc) 9 (Ah Try.prog 45 6) Td (Kb (a0,a1,a2))=some (P7 (a0,a1,a2),Og (a0,a1,a2),Df (a0,a1,a2),Kb (Dg (a0,a1,a2))):=by kernel_rfl
set_option maxRecDepth 100000 in
theorem Agc (a0:Int) (a1:List TRow) (a2:Int) (hp:∀p∈Fr (a0,a1,a2),p):∀p∈P7 (a0,a1,a2),p:=by
 have n0:=N0 hp
 have n1:((BX a0 a1 a2)=true→Ah Try.prog (45:FuncId) (8:Nat)=Ah Try.prog (45:FuncId) (8:Nat)):=by intros;rfl
 have n2:=N0 (N1 hp)
 exact(Aa n0 (Aa n1 (Aa n2 Ad)))
noncomputable def P8:=HZ (Ay ZR Kc) (Ah Try.prog 45 6) Td Ajj LX DZ Dg Df Fr Og
theorem Aat:∀s b ps outs,P8 s=some (b,ps,outs)→Wf s ⟨ps,outs,none⟩∧BY (Ay C0 L0) b s ps outs:=
 BL (T:=Kb) QW P9 (u:=9) (by kernel_rfl) (by decide) (fun⟨a0,a1,a2⟩=>Agb a0 a1 a2) (fun⟨a0,a1,a2⟩=>Agc a0 a1 a2) YL (fun _=>AV (n:=122) rfl) fun _ _=>rfl
noncomputable def Ka:=EO 6 P8 Kc
theorem P6:Ht Ka:=Bf Aat P9
abbrev Cp:Type:=Int×(List (List TRow))×Int×Int
def J9 (x:Cp):St:=⟨122,0,[(7,.v (.int .i64 x.1)),(67,.sl .rows x.2.1),(68,.v (.int .i64 x.2.2.1)),(69,.v (.int .i64 x.2.2.2))],[]⟩
def LW:St→Option Cp
 |⟨122,0,[(7,.v (.int .i64 z0)),(67,.sl .rows z1),(68,.v (.int .i64 z2)),(69,.v (.int .i64 z3))],[]⟩=>some (z0,z1,z2,z3)
 |_=>none
theorem YK:∀s x,LW s=some x→s=J9 x:=fun s x h=>by
 unfold LW at h
 split at h
 ·cases h;rfl
 ·cases h
def Tc:DS:=⟨0,0,[7,67,68,69],[],[],[],[7],[]⟩
def Aji:Eh:=⟨[],[],[7,67,68,69],[]⟩
def IE (a0:Int) (a1:List (List TRow)) (_a2:Int) (a3:Int):Int:=(FW (a0,a1.getD a3.toNat (Ae TC.rows),(0:Int))).fst
def DY (x:Cp):Cp:=(IE x.1 x.2.1 x.2.2.1 x.2.2.2,x.2.1,x.2.2.1,IntKind.i64.wrap (x.2.2.2+(1:Int)))
def DX (x:Cp):Cnd:=some (!!decide (x.2.2.2 <x.2.2.1))
def P4 (x:Cp):List Prop:=[((!!decide (x.2.2.2 <x.2.2.1))=true→(0:Int)≤x.2.2.2∧x.2.2.2 <(↑x.2.1.length:Int)),((!!decide (x.2.2.2 <x.2.2.1))=true→Ah Try.prog (45:FuncId) (6:Nat)=Ah Try.prog (45:FuncId) (6:Nat)),((!!decide (x.2.2.2 <x.2.2.1))=true→AE Dg Df Fr (DZ (x.1,x.2.1.getD x.2.2.2.toNat (Ae TC.rows),(0:Int))) (x.1,x.2.1.getD x.2.2.2.toNat (Ae TC.rows),(0:Int)))]
def Gy (x:Cp):List Prop:=[((!!decide (x.2.2.2 <x.2.2.1))=true→(0:Int)≤x.2.2.2∧x.2.2.2 <(↑x.2.1.length:Int)),((!!decide (x.2.2.2 <x.2.2.1))=true→AE Dg Df Fr (DZ (x.1,x.2.1.getD x.2.2.2.toNat (Ae TC.rows),(0:Int))) (x.1,x.2.1.getD x.2.2.2.toNat (Ae TC.rows),(0:Int)))]
def Oe (x:Cp):Bw:=[(some 4,some (!decide (x.2.2.2 <x.2.2.1)),⟨122,0,[(7,.v (.int .i64 x.1))],[]⟩)]
def E2 (x:Cp):Nat:=(x.2.2.1 - x.2.2.2).toNat
def KU (x:Cp):Cp:=BA DY DX (E2 x) x
set_option maxRecDepth 100000 in
theorem Af9 (a0:Int) (a1:List (List TRow)) (a2:Int) (a3:Int):Ce (Ay ZR Ka) 9 (Ah Try.prog 45 4) Tc (J9 (a0,a1,a2,a3))=some (P4 (a0,a1,a2,a3),Oe (a0,a1,a2,a3),DX (a0,a1,a2,a3),J9 (DY (a0,a1,a2,a3))):=by kernel_rfl
set_option maxRecDepth 100000 in
theorem Aga (a0:Int) (a1:List (List TRow)) (a2:Int) (a3:Int) (hp:∀p∈Gy (a0,a1,a2,a3),p):∀p∈P4 (a0,a1,a2,a3),p:=by
 have n0:=N0 hp
 have n1:((!!decide (a3 <a2))=true→Ah Try.prog (45:FuncId) (6:Nat)=Ah Try.prog (45:FuncId) (6:Nat)):=by intros;rfl
 have n2:=N0 (N1 hp)
 exact(Aa n0 (Aa n1 (Aa n2 Ad)))
noncomputable def P5:=HZ (Ay ZR Ka) (Ah Try.prog 45 4) Tc Aji LW E2 DY DX Gy Oe
theorem Aar:∀s b ps outs,P5 s=some (b,ps,outs)→Wf s ⟨ps,outs,none⟩∧BY (Ay C0 L0) b s ps outs:=
 BL (T:=J9) QW P6 (u:=9) (by kernel_rfl) (by decide) (fun⟨a0,a1,a2,a3⟩=>Af9 a0 a1 a2 a3) (fun⟨a0,a1,a2,a3⟩=>Aga a0 a1 a2 a3) YK (fun _=>AV (n:=122) rfl) fun _ _=>rfl
noncomputable def Tb:=EO 4 P5 Ka
theorem Aaq:Ht Tb:=Bf Aar P6
def N9 (a0:List Ab) (a1:List BB) (a2:List (List TRow)):Bool:=decide ((KU ((C4 (a1,Az (0:Int) (↑a0.length:Int) (6000:Int),(0:Int))).snd.fst,a2,(↑a2.length:Int),(0:Int))).fst≤(6000:Int))
def Ado (a0:List Ab) (a1:List BB) (a2:List (List TRow)):A:=.v (.bool (N9 a0 a1 a2))
def Adn (_a0:List Ab) (_a1:List BB) (_a2:List (List TRow)):Objs:=[]
def YO (a0:List Ab) (a1:List BB) (a2:List (List TRow)):List Prop:=[(AE DU DT Gw (E0 (a1,Az (0:Int) (↑a0.length:Int) (6000:Int),(0:Int))) (a1,Az (0:Int) (↑a0.length:Int) (6000:Int),(0:Int))),(AE DY DX Gy (E2 ((C4 (a1,Az (0:Int) (↑a0.length:Int) (6000:Int),(0:Int))).snd.fst,a2,(↑a2.length:Int),(0:Int))) ((C4 (a1,Az (0:Int) (↑a0.length:Int) (6000:Int),(0:Int))).snd.fst,a2,(↑a2.length:Int),(0:Int)))]
set_option maxRecDepth 100000 in
theorem Art (a0:List Ab) (a1:List BB) (a2:List (List TRow)):Hx (Ay ZR Tb) 9 45 [.sl .group a0,.sl .change a1,.sl .rows a2] 0 []=some (1,Ado a0 a1 a2,0,Adn a0 a1 a2,[(Ah Try.prog (45:FuncId) (0:Nat)=Ah Try.prog (45:FuncId) (0:Nat)),(AE DU DT Gw (E0 (a1,Az (0:Int) (↑a0.length:Int) (6000:Int),(0:Int))) (a1,Az (0:Int) (↑a0.length:Int) (6000:Int),(0:Int))),(Ah Try.prog (45:FuncId) (4:Nat)=Ah Try.prog (45:FuncId) (4:Nat)),(AE DY DX Gy (E2 ((C4 (a1,Az (0:Int) (↑a0.length:Int) (6000:Int),(0:Int))).snd.fst,a2,(↑a2.length:Int),(0:Int))) ((C4 (a1,Az (0:Int) (↑a0.length:Int) (6000:Int),(0:Int))).snd.fst,a2,(↑a2.length:Int),(0:Int)))]):=by kernel_rfl
set_option maxRecDepth 100000 in
theorem Av6 (a0:List Ab) (a1:List BB) (a2:List (List TRow)) (hp:∀p∈YO a0 a1 a2,p):CallOk Try.prog 45 [.sl .group a0,.sl .change a1,.sl .rows a2] 0 [] 1 (Ado a0 a1 a2) 0 (Adn a0 a1 a2):=by
 have n1:=N0 hp
 have n3:=N0 (N1 hp)
 exact AJ (Aw QW Aaq) (Art a0 a1 a2) (Aa rfl (Aa n1 (Aa rfl (Aa n3 Ad))))
def YP (a0:List Ab) (a1:List BB) (a2:List (List TRow)):A:=.v (.bool (N9 a0 a1 a2))
def YN (_a0:List Ab) (_a1:List BB) (_a2:List (List TRow)):Objs:=[]
def X2 (c:BB):Prop:=AC c.writes.length∧∀w∈c.writes,AC w.key.size∧AC w.value.size
def ZK (c:BB):Prop:=c.writes.length≤6000∧∀w∈c.writes,w.key.size≤6000∧w.value.size≤6000
def Vv (a0:List Ab) (a1:List BB) (a2:List (List TRow)):List Prop:=[AC a0.length∧(AC a1.length∧∀c∈a1,X2 c)∧AC a2.length∧∀x∈a2,AC x.length∧∀r∈x,Am4 r]
theorem Afv {n k:Int} (hn:0≤n) (hk:0≤k∧k≤9223372036854775807):0≤Az n k 6000∧(Az n k 6000≤6000→n+k≤Az n k 6000∧n+k≤6000):=by
 obtain⟨h1,h2,h3⟩:=Bd6 (n:=n) (k:=k) (m:=6000) hn hk (by omega)
 exact⟨h2,fun h=>⟨by rw[h3 (h1 h)];omega,h1 h⟩⟩
theorem Anj (rows:List TRow) (i:Nat) (hi:i <rows.length) (n0:Int) (h0:0≤n0) (hl:AC (rows.getD i (Ae TC.row)).cells.length) (hw:∀c∈(rows.getD i (Ae TC.row)).cells,AC c.value.size):
  AE Dj Di Fs (D0 (n0,rows,(i:Int),0)) (n0,rows,(i:Int),0)∧
  0≤(FX (n0,rows,(i:Int),0)).fst∧((FX (n0,rows,(i:Int),0)).fst≤6000→n0+10*((rows.getD i (Ae TC.row)).cells.length:Int)≤(FX (n0,rows,(i:Int),0)).fst∧∀c∈(rows.getD i (Ae TC.row)).cells,c.value.size≤6000):=by
 generalize hcs:(rows.getD i (Ae TC.row)).cells=cs at*
 have hcs2:(rows.getD i (Ae TC.row)).2=cs:=hcs
 have hgo:∀(k:Nat) (n:Int),Dh n rows (i:Int) (k:Int)=(decide (k <cs.length)&&(false||decide (n≤6000))):=fun k n=>by
  unfold Dh
  rw[Int.toNat_natCast,hcs2,nn,PE,Bool.false_or]
 unfold AC at hl
 obtain⟨h1,k,n',hx,h2,h3⟩:=SI (fun k n=>((n,rows,(i:Int),(k:Int)):Cr)) cs.length (fun k n=>Az (Az n 10 6000) ((cs.getD k (Ae TC.cell)).4.size:Int) 6000) (fun k=>(cs.getD k (Ae TC.cell)).value.size≤6000) 6000 10 false Dj Di Fs (D0 (n0,rows,(i:Int),0)) (n0,rows,(i:Int),0) n0 rfl
  (by show cs.length≤(((rows.getD ((i:Int)).toNat (Ae TC.row)).2.length:Int) - 0).toNat;rw[Int.toNat_natCast,hcs2];omega) h0
  (fun k n hk hn=>by
   obtain⟨a1,a2⟩:=Afv (k:=10) hn (by omega)
   obtain⟨b1,b2⟩:=Afv a1 (Aqf (hw _ (getD_in cs (Ae TC.cell) k hk)))
   refine⟨b1,fun h=>?_⟩
   obtain⟨c1,c2⟩:=b2 h
   obtain⟨d1,d2⟩:=a2 (by omega)
   exact⟨by omega,by show(cs.getD k (Ae TC.cell)).4.size≤6000;omega⟩)
  (by omega)
  (fun k n _=>hgo k n)
  (fun k n hk _=>by
   show(KV n rows (i:Int) (k:Int),rows,(i:Int),IntKind.i64.wrap ((k:Int)+1))=(_,rows,(i:Int),((k+1:Nat):Int))
   rw[FS (by omega)]
   unfold KV
   rw[Int.toNat_natCast,Int.toNat_natCast,hcs2])
  (fun k n _ _=>Aa (by show(0:Int)≤(i:Int)∧(i:Int) <(rows.length:Int);omega) (Aa (fun _=>by show(0:Int)≤(i:Int)∧(i:Int) <(rows.length:Int);omega) (Aa (fun h=>by
   have h':Dh n rows (i:Int) (k:Int)=true:=h
   rw[hgo,Bool.and_eq_true] at h'
   have:=of_decide_eq_true h'.1
   show(0:Int)≤(k:Int)∧(k:Int) <((rows.getD ((i:Int)).toNat (Ae TC.row)).2.length:Int)
   rw[Int.toNat_natCast,hcs2]
   omega) Ad)))
 have hr:FX (n0,rows,(i:Int),0)=(n',rows,(i:Int),(k:Int)):=hx
 rw[hr]
 exact⟨h1,h2,fun h=>⟨(h3 h).1,PG (h3 h).2⟩⟩
theorem Arv (rows:List TRow) (n0:Int) (h0:0≤n0) (hl:AC rows.length) (hw:∀r∈rows,Am4 r):
  AE Dg Df Fr (DZ (n0,rows,0)) (n0,rows,0)∧
  0≤(FW (n0,rows,0)).fst∧((FW (n0,rows,0)).fst≤6000→n0+10*(rows.length:Int)≤(FW (n0,rows,0)).fst∧∀r∈rows,XR 6000 r):=by
 have hgo:∀(k:Nat) (n:Int),BX n rows (k:Int)=(decide (k <rows.length)&&(false||decide (n≤6000))):=fun k n=>by
  unfold BX
  rw[nn,PE,Bool.false_or]
 unfold AC at hl
 have hin:∀(i:Nat) (n:Int),i <rows.length→0≤n→_:=fun i n hi hn=>
  Anj rows i hi (Az (Az n 10 6000) ((rows.getD i (Ae TC.row)).1.size:Int) 6000) (Afv (Afv hn (by omega)).1 (Aqf (hw _ (getD_in rows (Ae TC.row) i hi)).1)).1 (hw _ (getD_in rows (Ae TC.row) i hi)).2.1 (hw _ (getD_in rows (Ae TC.row) i hi)).2.2
 obtain⟨h1,k,n',hx,h2,h3⟩:=SI (fun k n=>((n,rows,(k:Int)):Cq)) rows.length (fun k n=>IF n rows (k:Int)) (fun k=>XR 6000 (rows.getD k (Ae TC.row))) 6000 10 false Dg Df Fr (DZ (n0,rows,0)) (n0,rows,0) n0 rfl
  (by show rows.length≤((rows.length:Int) - 0).toNat;omega) h0
  (fun k n hk hn=>by
   obtain⟨_,g2,g3⟩:=hin k n hk hn
   obtain⟨a1,a2⟩:=Afv (k:=10) hn (by omega)
   obtain⟨b1,b2⟩:=Afv a1 (Aqf (hw _ (getD_in rows (Ae TC.row) k hk)).1)
   unfold IF
   rw[Int.toNat_natCast]
   refine⟨g2,fun h=>?_⟩
   obtain⟨c1,c2⟩:=g3 h
   have h':(FX (Az (Az n 10 6000) ((rows.getD k (Ae TC.row)).1.size:Int) 6000,rows,(k:Int),0)).fst≤6000:=h
   obtain⟨d1,d2⟩:=b2 (by omega)
   obtain⟨e1,e2⟩:=a2 (by omega)
   exact⟨by omega,by show(rows.getD k (Ae TC.row)).1.size≤6000;omega,by omega,c2⟩)
  (by omega)
  (fun k n _=>hgo k n)
  (fun k n hk _=>by
   show(IF n rows (k:Int),rows,IntKind.i64.wrap ((k:Int)+1))=(_,rows,((k+1:Nat):Int))
   rw[FS (by omega)])
  (fun k n hk hn=>by
   have hlt:BX n rows (k:Int)=true→k <rows.length:=fun h=>by
    rw[hgo,Bool.and_eq_true] at h
    exact of_decide_eq_true h.1
   refine Aa (fun h=>?_) (Aa (fun h=>?_) Ad)
   ·have:=hlt h
    show(0:Int)≤(k:Int)∧(k:Int) <(rows.length:Int)
    omega
   ·have:=(hin k n (hlt h) hn).1
    have e:((k:Int)).toNat=k:=Int.toNat_natCast k
    show AE Dj Di Fs (D0 (Az (Az n 10 6000) ((rows.getD ((k:Int)).toNat (Ae TC.row)).1.size:Int) 6000,rows,(k:Int),0)) (Az (Az n 10 6000) ((rows.getD ((k:Int)).toNat (Ae TC.row)).1.size:Int) 6000,rows,(k:Int),0)
    rw[e]
    exact this)
 have hr:FW (n0,rows,0)=(n',rows,(k:Int)):=hx
 rw[hr]
 exact⟨h1,h2,fun h=>⟨(h3 h).1,PG (h3 h).2⟩⟩
theorem Awb (xs:List (List TRow)) (n0:Int) (h0:0≤n0) (hl:AC xs.length) (hw:∀x∈xs,AC x.length∧∀r∈x,Am4 r):
  AE DY DX Gy (E2 (n0,xs,(xs.length:Int),0)) (n0,xs,(xs.length:Int),0)∧
  ((KU (n0,xs,(xs.length:Int),0)).fst≤6000→n0≤6000∧∀x∈xs,x.length≤6000∧∀r∈x,XR 6000 r):=by
 unfold AC at hl
 have hin:∀(i:Nat) (n:Int),i <xs.length→0≤n→_:=fun i n hi hn=>
  Arv (xs.getD i (Ae TC.rows)) n hn (hw _ (getD_in xs (Ae TC.rows) i hi)).1 (hw _ (getD_in xs (Ae TC.rows) i hi)).2
 obtain⟨h1,k,n',hx,h2,h3⟩:=SI (fun k n=>((n,xs,(xs.length:Int),(k:Int)):Cp)) xs.length (fun k n=>IE n xs (xs.length:Int) (k:Int)) (fun k=>(xs.getD k (Ae TC.rows)).length≤6000∧∀r∈xs.getD k (Ae TC.rows),XR 6000 r) 6000 0 true DY DX Gy (E2 (n0,xs,(xs.length:Int),0)) (n0,xs,(xs.length:Int),0) n0 rfl
  (by show xs.length≤((xs.length:Int) - 0).toNat;omega) h0
  (fun k n hk hn=>by
   obtain⟨_,g2,g3⟩:=hin k n hk hn
   unfold IE
   rw[Int.toNat_natCast]
   refine⟨g2,fun h=>?_⟩
   obtain⟨c1,c2⟩:=g3 h
   have h':(FW (n,xs.getD k (Ae TC.rows),0)).fst≤6000:=h
   exact⟨by omega,by omega,c2⟩)
  (Int.le_refl _)
  (fun k n _=>by
   show(!!decide ((k:Int) <(xs.length:Int)))=_
   rw[nn,PE,Bool.true_or,Bool.and_true])
  (fun k n hk _=>by
   show(IE n xs (xs.length:Int) (k:Int),xs,(xs.length:Int),IntKind.i64.wrap ((k:Int)+1))=(_,xs,(xs.length:Int),((k+1:Nat):Int))
   rw[FS (by omega)])
  (fun k n hk hn=>by
   have hlt:(!!decide ((k:Int) <(xs.length:Int)))=true→k <xs.length:=fun h=>by
    rw[nn] at h
    have:=of_decide_eq_true h
    omega
   refine Aa (fun h=>?_) (Aa (fun h=>?_) Ad)
   ·have:=hlt h
    show(0:Int)≤(k:Int)∧(k:Int) <(xs.length:Int)
    omega
   ·have:=(hin k n (hlt h) hn).1
    have e:((k:Int)).toNat=k:=Int.toNat_natCast k
    show AE Dg Df Fr (DZ (n,xs.getD ((k:Int)).toNat (Ae TC.rows),0)) (n,xs.getD ((k:Int)).toNat (Ae TC.rows),0)
    rw[e]
    exact this)
 have hr:KU (n0,xs,(xs.length:Int),0)=(n',xs,(xs.length:Int),(k:Int)):=hx
 rw[hr]
 exact⟨h1,fun h=>⟨by have h':n'≤6000:=h;have:=(h3 h).1;omega,PG (h3 h).2⟩⟩
theorem Ajn (cs:List BB) (i:Nat) (hi:i <cs.length) (n0:Int) (h0:0≤n0) (hw:X2 (cs.getD i (Ae TC.change))):
  AE DW DV Gx (E1 (cs,n0,(i:Int),0)) (cs,n0,(i:Int),0)∧
  0≤(FV (cs,n0,(i:Int),0)).snd.fst∧((FV (cs,n0,(i:Int),0)).snd.fst≤6000→n0≤(FV (cs,n0,(i:Int),0)).snd.fst∧ZK (cs.getD i (Ae TC.change))):=by
 obtain⟨hl,hw⟩:=hw
 unfold ZK
 generalize hcs:(cs.getD i (Ae TC.change)).writes=ws at*
 have hcs2:(cs.getD i (Ae TC.change)).5=ws:=hcs
 have hgo:∀(k:Nat) (n:Int),Bn cs n (i:Int) (k:Int)=(decide (k <ws.length)&&(false||decide (n≤6000))):=fun k n=>by
  unfold Bn
  rw[Int.toNat_natCast,hcs2,nn,PE,Bool.false_or]
 unfold AC at hl
 obtain⟨h1,k,n',hx,h2,h3⟩:=SI (fun k n=>((cs,n,(i:Int),(k:Int)):Cm)) ws.length (fun k n=>Az (Az (Az n 10 6000) ((ws.getD k (Ae TC.write)).1.size:Int) 6000) ((ws.getD k (Ae TC.write)).4.size:Int) 6000) (fun k=>(ws.getD k (Ae TC.write)).key.size≤6000∧(ws.getD k (Ae TC.write)).value.size≤6000) 6000 10 false DW DV Gx (E1 (cs,n0,(i:Int),0)) (cs,n0,(i:Int),0) n0 rfl
  (by show ws.length≤(((cs.getD ((i:Int)).toNat (Ae TC.change)).5.length:Int) - 0).toNat;rw[Int.toNat_natCast,hcs2];omega) h0
  (fun k n hk hn=>by
   obtain⟨w1,w2⟩:=hw _ (getD_in ws (Ae TC.write) k hk)
   obtain⟨a1,a2⟩:=Afv (k:=10) hn (by omega)
   obtain⟨b1,b2⟩:=Afv a1 (Aqf w1)
   obtain⟨f1,f2⟩:=Afv b1 (Aqf w2)
   refine⟨f1,fun h=>?_⟩
   obtain⟨g1,g2⟩:=f2 h
   obtain⟨c1,c2⟩:=b2 (by omega)
   obtain⟨d1,d2⟩:=a2 (by omega)
   exact⟨by omega,by omega,by omega⟩)
  (by omega)
  (fun k n _=>hgo k n)
  (fun k n hk _=>by
   show(cs,KT cs n (i:Int) (k:Int),(i:Int),IntKind.i64.wrap ((k:Int)+1))=(cs,_,(i:Int),((k+1:Nat):Int))
   rw[FS (by omega)]
   unfold KT
   rw[Int.toNat_natCast,Int.toNat_natCast,hcs2])
  (fun k n _ _=>Aa (by show(0:Int)≤(i:Int)∧(i:Int) <(cs.length:Int);omega) (Aa (fun _=>by show(0:Int)≤(i:Int)∧(i:Int) <(cs.length:Int);omega) (Aa (fun h=>by
   have h':Bn cs n (i:Int) (k:Int)=true:=h
   rw[hgo,Bool.and_eq_true] at h'
   have:=of_decide_eq_true h'.1
   show(0:Int)≤(k:Int)∧(k:Int) <((cs.getD ((i:Int)).toNat (Ae TC.change)).5.length:Int)
   rw[Int.toNat_natCast,hcs2]
   omega) Ad)))
 have hr:FV (cs,n0,(i:Int),0)=(cs,n',(i:Int),(k:Int)):=hx
 rw[hr]
 refine⟨h1,h2,fun h=>?_⟩
 have h':n'≤6000:=h
 obtain⟨q1,q2⟩:=h3 h
 refine⟨by show n0≤n';omega,by omega,?_⟩
 exact PG (P:=fun w:SH=>w.key.size≤6000∧w.value.size≤6000) q2
theorem Agf (cs:List BB) (n0:Int) (h0:0≤n0) (hl:AC cs.length) (hw:∀c∈cs,X2 c):
  AE DU DT Gw (E0 (cs,n0,0)) (cs,n0,0)∧
  0≤(C4 (cs,n0,0)).snd.fst∧((C4 (cs,n0,0)).snd.fst≤6000→n0+10*(cs.length:Int)≤(C4 (cs,n0,0)).snd.fst∧∀c∈cs,ZK c):=by
 have hgo:∀(k:Nat) (n:Int),De cs n (k:Int)=(decide (k <cs.length)&&(false||decide (n≤6000))):=fun k n=>by
  unfold De
  rw[nn,PE,Bool.false_or]
 unfold AC at hl
 have hin:∀(i:Nat) (n:Int),i <cs.length→0≤n→_:=fun i n hi hn=>
  Ajn cs i hi (Az n 10 6000) (Afv hn (by omega)).1 (hw _ (getD_in cs (Ae TC.change) i hi))
 obtain⟨h1,k,n',hx,h2,h3⟩:=SI (fun k n=>((cs,n,(k:Int)):Cg)) cs.length (fun k n=>ID cs n (k:Int)) (fun k=>ZK (cs.getD k (Ae TC.change))) 6000 10 false DU DT Gw (E0 (cs,n0,0)) (cs,n0,0) n0 rfl
  (by show cs.length≤((cs.length:Int) - 0).toNat;omega) h0
  (fun k n hk hn=>by
   obtain⟨_,g2,g3⟩:=hin k n hk hn
   obtain⟨a1,a2⟩:=Afv (k:=10) hn (by omega)
   unfold ID
   refine⟨g2,fun h=>?_⟩
   obtain⟨c1,c2⟩:=g3 h
   have h':(FV (cs,Az n 10 6000,(k:Int),0)).snd.fst≤6000:=h
   obtain⟨e1,e2⟩:=a2 (by omega)
   exact⟨by omega,c2⟩)
  (by omega)
  (fun k n _=>hgo k n)
  (fun k n hk _=>by
   show(cs,ID cs n (k:Int),IntKind.i64.wrap ((k:Int)+1))=(cs,_,((k+1:Nat):Int))
   rw[FS (by omega)])
  (fun k n hk hn=>Aa (fun h=>by
    have h':De cs n (k:Int)=true:=h
    rw[hgo,Bool.and_eq_true] at h'
    exact(hin k n (of_decide_eq_true h'.1) hn).1) Ad)
 have hr:C4 (cs,n0,0)=(cs,n',(k:Int)):=hx
 rw[hr]
 exact⟨h1,h2,fun h=>⟨(h3 h).1,PG (h3 h).2⟩⟩
theorem Ajm (l:List Ab) (cs:List BB) (xs:List (List TRow)) (hl:AC l.length) (hc:AC cs.length∧∀c∈cs,X2 c) (hr:AC xs.length) (hw:∀x∈xs,AC x.length∧∀r∈x,Am4 r):(∀p∈YO l cs xs,p)∧
  (N9 l cs xs=true→l.length≤6000∧(cs.length≤6000∧∀c∈cs,ZK c)∧∀x∈xs,x.length≤6000∧∀r∈x,XR 6000 r):=by
 obtain⟨a1,a2⟩:=Afv (n:=0) (k:=(l.length:Int)) (Int.le_refl _) (Aqf hl)
 obtain⟨b1,b2,b3⟩:=Agf cs _ a1 hc.1 hc.2
 obtain⟨c1,c2⟩:=Awb xs _ b2 hr hw
 refine⟨Aa b1 (Aa c1 Ad),fun h=>?_⟩
 have h':=of_decide_eq_true h
 obtain⟨d1,d2⟩:=c2 h'
 obtain⟨e1,e2⟩:=b3 d1
 have:=a2 (by omega)
 exact⟨by omega,⟨by omega,e2⟩,d2⟩
theorem Ars (a0:List Ab) (a1:List BB) (a2:List (List TRow)) (hp:∀p∈Vv a0 a1 a2,p):CallOk Try.prog 45 [.sl .group a0,.sl .change a1,.sl .rows a2] 0 [] 1 (YP a0 a1 a2) 0 (YN a0 a1 a2):=by
 obtain⟨h1,h2,h3,h4⟩:=hp _ (List.mem_cons_self ..)
 exact Av6 a0 a1 a2 (Ajm a0 a1 a2 h1 h2 h3 h4).1
def Tf:List A→Nat→Objs→Option BP
 | [y0,y1,y2],nx,o=>match QX .group y0,QX .change y1,QX .rows y2 with
  |some a0,some a1,some a2=>some (1,(YP a0 a1 a2).pk (AH nx),nx+0,AG nx (YN a0 a1 a2)++o,Vv a0 a1 a2)
  |_,_,_=>none
 |_,_,_=>none
theorem Anh:HO Try.prog 45 Tf:=fun args nx o k x nx' o' ps h=>by
 unfold Tf at h
 split at h<;>first|(cases h;done)|skip
 split at h<;>first|(cases h;done)|skip
 rename_i a0 a1 a2 e0 e1 e2
 cases h
 refine⟨fun hp=>?_,_,rfl⟩
 refine Ao (Ai (Ars a0 a1 a2 hp) (Nat.le_refl _) (Af rfl (Af rfl (Af rfl Au))) nx o) fun F N R vs hl=>?_
 obtain⟨v0,w0,rfl,h0,hl⟩:=hl.inv
 obtain⟨v1,w1,rfl,h1,hl⟩:=hl.inv
 obtain⟨v2,w2,rfl,h2,hl⟩:=hl.inv
 exact HL.cons (GD e0 h0) (HL.cons (GD e1 h1) (HL.cons (GD e2 h2) (hl)))
noncomputable def A6z:=B5 45 Tf ZR
theorem Aq0:Gg Try.prog A6z:=Ax Anh QW
abbrev BO:Type:=(List Ab)×ByteArray×(List TRow)×Int×Int
def Jg (x:BO):St:=⟨38,0,[(0,.sl .group x.1),(6,.v (.string x.2.1)),(15,.sl .row x.2.2.1),(16,.v (.int .i64 x.2.2.2.1)),(17,.v (.int .i64 x.2.2.2.2))],[]⟩
def KX:St→Option BO
 |⟨38,0,[(0,.sl .group z0),(6,.v (.string z1)),(15,.sl .row z2),(16,.v (.int .i64 z3)),(17,.v (.int .i64 z4))],[]⟩=>some (z0,z1,z2,z3,z4)
 |_=>none
theorem WF:∀s x,KX s=some x→s=Jg x:=fun s x h=>by
 unfold KX at h
 split at h
 ·cases h;rfl
 ·cases h
def RM:DS:=⟨0,0,[0,6,15,16,17],[],[],[],[4],[]⟩
def Agg:Eh:=⟨[],[],[0,6,15,16,17],[]⟩
def Ek (a0:List Ab) (_a1:ByteArray) (a2:List TRow) (_a3:Int) (a4:Int):Bool:=AF a0 (a2.getD a4.toNat (Ae TC.row)) !=(0:Int)
def Dv (a0:List Ab) (a1:ByteArray) (a2:List TRow) (a3:Int) (a4:Int):Bool:=!!decide (a4 <a3)&&((Ek a0 a1 a2 a3 a4)||(JQ (a2.getD a4.toNat (Ae TC.row))||(Op.bytesLess (a2.getD a4.toNat (Ae TC.row)).1.toList a1.toList||(a2.getD a4.toNat (Ae TC.row)).1.toList==a1.toList)))
def YV (_a0:List Ab) (_a1:ByteArray) (a2:List TRow) (_a3:Int) (a4:Int):ByteArray:=(a2.getD a4.toNat (Ae TC.row)).1
def YW (a0:List Ab) (a1:ByteArray) (a2:List TRow) (a3:Int) (a4:Int):Bool:=!!decide (a4 <a3)&&!(Dv a0 a1 a2 a3 a4)
def Gj (a0:List Ab) (a1:ByteArray) (a2:List TRow) (a3:Int) (a4:Int):Int:=bif(Ek a0 a1 a2 a3 a4) then AF a0 (a2.getD a4.toNat (Ae TC.row)) else(100:Int)
def Em (x:BO):BO:=(x.1,YV x.1 x.2.1 x.2.2.1 x.2.2.2.1 x.2.2.2.2,x.2.2.1,x.2.2.2.1,IntKind.i64.wrap (x.2.2.2.2+(1:Int)))
def El (x:BO):Cnd:=some (YW x.1 x.2.1 x.2.2.1 x.2.2.2.1 x.2.2.2.2)
def Ol (x:BO):List Prop:=[((!!decide (x.2.2.2.2 <x.2.2.2.1))=true→(0:Int)≤x.2.2.2.2∧x.2.2.2.2 <(↑x.2.2.1.length:Int)),((!!decide (x.2.2.2.2 <x.2.2.2.1))=true→(!(Ek x.1 x.2.1 x.2.2.1 x.2.2.2.1 x.2.2.2.2))=true→Aj (x.2.2.1.getD x.2.2.2.2.toNat (Ae TC.row)).2.length)]
def G5 (x:BO):List Prop:=[((!!decide (x.2.2.2.2 <x.2.2.2.1))=true→(0:Int)≤x.2.2.2.2∧x.2.2.2.2 <(↑x.2.2.1.length:Int)),((!!decide (x.2.2.2.2 <x.2.2.2.1))=true→(!(Ek x.1 x.2.1 x.2.2.1 x.2.2.2.1 x.2.2.2.2))=true→Aj (x.2.2.1.getD x.2.2.2.2.toNat (Ae TC.row)).2.length)]
def M5 (x:BO):Bw:=[(some 0,some (!decide (x.2.2.2.2 <x.2.2.2.1)),⟨38,0,[(4,.dead)],[]⟩),(none,some ((Dv x.1 x.2.1 x.2.2.1 x.2.2.2.1 x.2.2.2.2)),⟨38,1,[(4,.v (.int .i64 (Gj x.1 x.2.1 x.2.2.1 x.2.2.2.1 x.2.2.2.2)))],[]⟩)]
def Gk (x:BO):Nat:=(x.2.2.2.1 - x.2.2.2.2).toNat
def Fc (x:BO):BO:=BA Em El (Gk x) x
set_option maxRecDepth 100000 in
theorem Aa1 (a0:List Ab) (a1:ByteArray) (a2:List TRow) (a3:Int) (a4:Int):Ce (Ay A6z L0) 9 (Ah Try.prog 84 0) RM (Jg (a0,a1,a2,a3,a4))=some (Ol (a0,a1,a2,a3,a4),M5 (a0,a1,a2,a3,a4),El (a0,a1,a2,a3,a4),Jg (Em (a0,a1,a2,a3,a4))):=by kernel_rfl
set_option maxRecDepth 100000 in
theorem Aa2 (a0:List Ab) (a1:ByteArray) (a2:List TRow) (a3:Int) (a4:Int) (hp:∀p∈G5 (a0,a1,a2,a3,a4),p):∀p∈Ol (a0,a1,a2,a3,a4),p:=by
 have n0:=N0 hp
 have n1:=N0 (N1 hp)
 exact(Aa n0 (Aa n1 Ad))
noncomputable def Om:=HZ (Ay A6z L0) (Ah Try.prog 84 0) RM Agg KX Gk Em El G5 M5
theorem YX:∀s b ps outs,Om s=some (b,ps,outs)→Wf s ⟨ps,outs,none⟩∧BY (Ay C0 L0) b s ps outs:=
 BL (T:=Jg) Aq0 AM (u:=9) (by kernel_rfl) (by decide) (fun⟨a0,a1,a2,a3,a4⟩=>Aa1 a0 a1 a2 a3 a4) (fun⟨a0,a1,a2,a3,a4⟩=>Aa2 a0 a1 a2 a3 a4) WF (fun _=>AV (n:=38) rfl) fun _ _=>rfl
noncomputable def RL:=EO 0 Om L0
theorem YU:Ht RL:=Bf YX AM
def I9 (a0:List Ab) (_a1:List TRow):Bool:=CI a0 !=(0:Int)
def O9 (a0:List Ab) (a1:List TRow):List Ab:=(Fc (a0,ByteArray.mk #[],a1,(↑a1.length:Int),(0:Int))).fst
def O8 (a0:List Ab) (a1:List TRow):ByteArray:=(Fc (a0,ByteArray.mk #[],a1,(↑a1.length:Int),(0:Int))).snd.fst
def O7 (a0:List Ab) (a1:List TRow):List TRow:=(Fc (a0,ByteArray.mk #[],a1,(↑a1.length:Int),(0:Int))).snd.snd.fst
def O6 (a0:List Ab) (a1:List TRow):Int:=(Fc (a0,ByteArray.mk #[],a1,(↑a1.length:Int),(0:Int))).snd.snd.snd.snd
def O5 (a0:List Ab) (a1:List TRow):Int:=(Fc (a0,ByteArray.mk #[],a1,(↑a1.length:Int),(0:Int))).snd.snd.snd.fst
def Rh (a0:List Ab) (a1:List TRow):Int:=bif(I9 a0 a1) then CI a0 else bif Dv (O9 a0 a1) (O8 a0 a1) (O7 a0 a1) (O5 a0 a1) (O6 a0 a1) then Gj (O9 a0 a1) (O8 a0 a1) (O7 a0 a1) (O5 a0 a1) (O6 a0 a1) else(0:Int)
def Ri (a0:List Ab) (a1:List TRow):A:=.v (.int .i64 (Rh a0 a1))
def YY (_a0:List Ab) (_a1:List TRow):Objs:=[]
def VA (a0:List Ab) (a1:List TRow):List Prop:=[((!(I9 a0 a1))=true→AE Em El G5 (Gk (a0,ByteArray.mk #[],a1,(↑a1.length:Int),(0:Int))) (a0,ByteArray.mk #[],a1,(↑a1.length:Int),(0:Int)))]
set_option maxRecDepth 100000 in
theorem Ann (a0:List Ab) (a1:List TRow):Hx (Ay A6z RL) 9 84 [.sl .group a0,Aq .rows a1] 0 []=some (1,Ri a0 a1,0,YY a0 a1,[((!(I9 a0 a1))=true→Ah Try.prog (84:FuncId) (0:Nat)=Ah Try.prog (84:FuncId) (0:Nat)),((!(I9 a0 a1))=true→AE Em El G5 (Gk (a0,ByteArray.mk #[],a1,(↑a1.length:Int),(0:Int))) (a0,ByteArray.mk #[],a1,(↑a1.length:Int),(0:Int)))]):=by kernel_rfl
set_option maxRecDepth 100000 in
theorem Ar5 (a0:List Ab) (a1:List TRow) (hp:∀p∈VA a0 a1,p):CallOk Try.prog 84 [.sl .group a0,Aq .rows a1] 0 [] 1 (Ri a0 a1) 0 (YY a0 a1):=by
 have n0:((!(I9 a0 a1))=true→Ah Try.prog (84:FuncId) (0:Nat)=Ah Try.prog (84:FuncId) (0:Nat)):=by intros;rfl
 have n1:=N0 hp
 exact AJ (Aw Aq0 YU) (Ann a0 a1) (Aa n0 (Aa n1 Ad))
def VB (a0:List Ab) (a1:List TRow):A:=.v (.int .i64 (H4 a0 a1))
def Vz (_a0:List Ab) (_a1:List TRow):Objs:=[]
def Tr (_a0:List Ab) (a1:List TRow):List Prop:=[AC a1.length]
theorem Ah9 (l:List Ab) (rows:List TRow) (i:Nat):(SS l rows i !=0)=(AF l (DQ rows i) !=0||(JQ (DQ rows i)||leS (DQ rows i).key (Oi rows i))):=by
 unfold SS
 cases h:AF l (DQ rows i) !=0 with
 |true=>rw[cond_true,h,Bool.true_or]
 |false=>cases JQ (DQ rows i)||leS (DQ rows i).key (Oi rows i)<;>rfl
theorem Vy (l:List Ab) (rows:List TRow) (hb:AC rows.length):(∀p∈VA l rows,p)∧Rh l rows=H4 l rows:=by
 unfold AC at hb
 have hf:∀i:Nat,Dv l (Oi rows i) rows (rows.length:Int) (i:Int)=(decide (i <rows.length)&&SS l rows i !=0):=fun i=>by
  rw[Ah9]
  unfold Dv Ek leS ltS
  rw[nn,PE,Int.toNat_natCast,tlb]
  rfl
 obtain⟨h1,k,hk,hx,hs,hst,_⟩:=JJ (fun i=>((l,Oi rows i,rows,(rows.length:Int),(i:Int)):BO)) rows.length (fun i=>SS l rows i !=0) Em El G5 (Gk (l,ByteArray.mk #[],rows,(rows.length:Int),0)) (l,ByteArray.mk #[],rows,(rows.length:Int),0) rfl (by show rows.length≤((rows.length:Int) - 0).toNat;omega)
  (fun i _ _=>by
   show((!!decide ((i:Int) <(rows.length:Int)))&&!Dv l (Oi rows i) rows (rows.length:Int) (i:Int))=_
   rw[hf,nn,PE]
   cases decide (i <rows.length)<;>rfl)
  (fun i hi _=>by
   show(l,(rows.getD ((i:Int)).toNat (Ae TC.row)).1,rows,(rows.length:Int),IntKind.i64.wrap ((i:Int)+1))=(l,Oi rows (i+1),rows,(rows.length:Int),((i+1:Nat):Int))
   rw[FS (by omega),Int.toNat_natCast]
   rfl)
  (fun i hi _=>by
   have hin:(!!decide ((i:Int) <(rows.length:Int)))=true→(i:Int) <(rows.length:Int):=fun h=>by rw[nn] at h;exact of_decide_eq_true h
   refine Aa (fun h=>⟨by show(0:Int)≤(i:Int);omega,hin h⟩) (Aa (fun _ h2=>?_) Ad)
   have h3:AF l (rows.getD ((i:Int)).toNat (Ae TC.row))=0:=by
    have h4:(!(AF l (rows.getD ((i:Int)).toNat (Ae TC.row)) !=0))=true:=h2
    simpa using h4
   obtain⟨g1,g2,_⟩:=JA h3
   have:=(J4 g1).2
   show Aj (rows.getD ((i:Int)).toNat (Ae TC.row)).cells.length
   unfold Aj
   omega)
 have hr:Fc (l,ByteArray.mk #[],rows,(rows.length:Int),0)=(l,Oi rows k,rows,(rows.length:Int),(k:Int)):=hx
 refine⟨Aa (fun _=>h1) Ad,?_⟩
 unfold Rh H4
 show(bif CI l !=0 then CI l else _)=_
 congr 1
 unfold O9 O8 O7 O6 O5
 rw[hr]
 show(bif Dv l (Oi rows k) rows (rows.length:Int) (k:Int) then Gj l (Oi rows k) rows (rows.length:Int) (k:Int) else 0)=_
 rw[hf]
 have h0:FK l rows k=0:=(YD l rows k).2 fun i hi=>by simpa using hs i hi
 rcases Nat.lt_or_ge k rows.length with h|h
 ·have he:=hst h
  rw[decide_eq_true h,he]
  have e1:FK l rows (k+1)=SS l rows k:=by
   show(bif FK l rows k !=0 then FK l rows k else SS l rows k)=_
   rw[h0];rfl
  have hne:FK l rows (k+1)≠0:=by rw[e1];simpa using he
  rw[S4 hne rows.length h,e1]
  show Gj l (Oi rows k) rows (rows.length:Int) (k:Int)=_
  unfold Gj Ek
  rw[Int.toNat_natCast]
  rw[Ah9] at he
  unfold SS
  show(bif AF l (DQ rows k) !=0 then AF l (DQ rows k) else 100)=_
  cases hg:AF l (DQ rows k) !=0 with
  |true=>rfl
  |false=>
   rw[hg,Bool.false_or] at he
   rw[he]
   rfl
 ·obtain rfl:k=rows.length:=by omega
  rw[decide_eq_false (Nat.lt_irrefl _),h0]
  rfl
theorem Anm (a0:List Ab) (a1:List TRow) (hp:∀p∈Tr a0 a1,p):CallOk Try.prog 84 [.sl .group a0,Aq .rows a1] 0 [] 1 (VB a0 a1) 0 (Vz a0 a1):=by
 have hb:AC a1.length:=hp _ (List.mem_cons_self ..)
 have h:=Ar5 a0 a1 (Vy a0 a1 hb).1
 unfold Ri at h
 rw[(Vy a0 a1 hb).2] at h
 exact h
def Rj:List A→Nat→Objs→Option BP
 | [y0,y1],nx,o=>match QX .group y0,A3 .rows y1 with
  |some a0,some (a1,p1)=>some (1,(VB a0 a1).pk (AH nx),nx+0,AG nx (Vz a0 a1)++o,p1++(Tr a0 a1))
  |_,_=>none
 |_,_,_=>none
theorem Ajz:HO Try.prog 84 Rj:=fun args nx o k x nx' o' ps h=>by
 unfold Rj at h
 split at h<;>first|(cases h;done)|skip
 split at h<;>first|(cases h;done)|skip
 rename_i a0 a1 p1 e0 e1
 cases h
 refine⟨fun hp=>?_,_,rfl⟩
 have q1:=fun p hm=>hp p (List.mem_append.2 (.inl hm))
 have r1:=fun p hm=>hp p (List.mem_append.2 (.inr hm))
 refine Ao (Ai (Anm a0 a1 r1) (Nat.le_refl _) (Af rfl (Af (Ag _ _) Au)) nx o) fun F N R vs hl=>?_
 obtain⟨v0,w0,rfl,h0,hl⟩:=hl.inv
 obtain⟨v1,w1,rfl,h1,hl⟩:=hl.inv
 exact HL.cons (GD e0 h0) (HL.cons (Ar e1 q1 h1) (hl))
noncomputable def Bd5:=B5 84 Rj A6z
theorem A2r:Gg Try.prog Bd5:=Ax Ajz Aq0
def MN (a0:Int) (a1:TVec) (a2:TCell):Bool:=bif a2.1.1==(0:Int)&&a2.1.2==(0:Int)&&(a2.2.1==(0:Int)&&a2.2.2==(0:Int)&&(a2.3==false&&(a2.4.toList==(ByteArray.mk #[]).toList&&(a2.5.1==(0:Int)&&a2.5.2==(0:Int)))))||!Bx a0 a2||!IM a1 (Hu a2) then false else !FQ a0 a2
def MO (a0:Int) (a1:TVec) (a2:TCell):A:=.v (.bool (MN a0 a1 a2))
def SV (_a0:Int) (_a1:TVec) (_a2:TCell):Objs:=[]
def Af1 (_a0:Int) (_a1:TVec) (_a2:TCell):List Prop:=[]
set_option maxRecDepth 100000 in
theorem Af0 (a0:Int) (a1:TVec) (a2:TCell):Hx (Ay Bd5 L0) 9 50 [Aq .i64 a0,Aq .vec a1,Aq .cell a2] 0 []=some (1,MO a0 a1 a2,0,SV a0 a1 a2,[]):=by kernel_rfl
set_option maxRecDepth 100000 in
theorem Ai5 (a0:Int) (a1:TVec) (a2:TCell) (_hp:∀p∈Af1 a0 a1 a2,p):CallOk Try.prog 50 [Aq .i64 a0,Aq .vec a1,Aq .cell a2] 0 [] 1 (MO a0 a1 a2) 0 (SV a0 a1 a2):=by
 exact AJ (Aw A2r AM) (Af0 a0 a1 a2) Ad
def RH (a0:Int) (a1:TVec) (a2:TCell):A:=.v (.bool (C8 a0 a1 a2))
def RG (_a0:Int) (_a1:TVec) (_a2:TCell):Objs:=[]
def PQ (_a0:Int) (_a1:TVec) (_a2:TCell):List Prop:=[]
theorem Bcs (c:TCell):(c.1.1==(0:Int)&&c.1.2==(0:Int)&&(c.2.1==(0:Int)&&c.2.2==(0:Int)&&(c.3==false&&(c.4.toList==(ByteArray.mk #[]).toList&&(c.5.1==(0:Int)&&c.5.2==(0:Int))))))=Wq c Dq:=by
 rw[tlb]
 unfold Wq Dq
 simp only[Bool.and_assoc]
theorem A4l (a b:TVec):IM a b=Ana a b:=by
 have hm:∀x y:Int,(min x y==y)=decide (y≤x):=fun x y=>by
  rw[Bool.eq_iff_iff,beq_iff_eq,decide_eq_true_eq];omega
 unfold IM Ana
 have h1:((Iz a b).1==b.1)=decide (b.a≤a.a):=hm _ _
 have h2:((Iz a b).2==b.2)=decide (b.b≤a.b):=hm _ _
 rw[h1,h2]
theorem Afz (p:Int) (st:TVec) (c:TCell):MN p st c=C8 p st c:=by
 unfold MN C8
 rw[Bcs,IB,A4l,(Yg p c).2]
 show(bif Wq c Dq||!EZ p c||!Ana st (LT c) then false else !NC p c)=_
 cases Wq c Dq<;>cases EZ p c<;>cases Ana st (LT c)<;>rfl
theorem Afy (a0:Int) (a1:TVec) (a2:TCell) (_hp:∀p∈PQ a0 a1 a2,p):CallOk Try.prog 50 [Aq .i64 a0,Aq .vec a1,Aq .cell a2] 0 [] 1 (RH a0 a1 a2) 0 (RG a0 a1 a2):=by
 have h:=Ai5 a0 a1 a2 (fun _ h=>by cases h)
 unfold MO at h
 rw[Afz] at h
 exact h
def MP:List A→Nat→Objs→Option BP
 | [y0,y1,y2],nx,o=>match A3 .i64 y0,A3 .vec y1,A3 .cell y2 with
  |some (a0,p0),some (a1,p1),some (a2,p2)=>some (1,(RH a0 a1 a2).pk (AH nx),nx+0,AG nx (RG a0 a1 a2)++o,p0++(p1++(p2++(PQ a0 a1 a2))))
  |_,_,_=>none
 |_,_,_=>none
theorem Aad:HO Try.prog 50 MP:=fun args nx o k x nx' o' ps h=>by
 unfold MP at h
 split at h<;>first|(cases h;done)|skip
 split at h<;>first|(cases h;done)|skip
 rename_i a0 p0 a1 p1 a2 p2 e0 e1 e2
 cases h
 refine⟨fun hp=>?_,_,rfl⟩
 have q0:=fun p hm=>hp p (List.mem_append.2 (.inl hm))
 have r0:=fun p hm=>hp p (List.mem_append.2 (.inr hm))
 have q1:=fun p hm=>r0 p (List.mem_append.2 (.inl hm))
 have r1:=fun p hm=>r0 p (List.mem_append.2 (.inr hm))
 have q2:=fun p hm=>r1 p (List.mem_append.2 (.inl hm))
 have r2:=fun p hm=>r1 p (List.mem_append.2 (.inr hm))
 refine Ao (Ai (Afy a0 a1 a2 r2) (Nat.le_refl _) (Af (Ag _ _) (Af (Ag _ _) (Af (Ag _ _) Au))) nx o) fun F N R vs hl=>?_
 obtain⟨v0,w0,rfl,h0,hl⟩:=hl.inv
 obtain⟨v1,w1,rfl,h1,hl⟩:=hl.inv
 obtain⟨v2,w2,rfl,h2,hl⟩:=hl.inv
 exact HL.cons (Ar e0 q0 h0) (HL.cons (Ar e1 q1 h1) (HL.cons (Ar e2 q2 h2) (hl)))
noncomputable def Bfc:=B5 50 MP Bd5
theorem Bam:Gg Try.prog Bfc:=Ax Aad A2r
noncomputable def Cn:=Bfc
theorem A2s:Gg Try.prog Cn:=Bam
end Go.Proofs.Yteebobbhhgmeiaa
namespace Go.Proofs.Yteebobbhhgmeiaa
open Go.RowKit
abbrev Ba:Type:=Int×(List Ab)×Int×Int×TVec×TVec×(List TCell)
def G1 (x:Ba):St:=⟨79,8,[(5,.own 0 0),(7,.own 1 0),(12,.sq 7),(13,.v (.int .i64 x.1)),(37,.sl .group x.2.1),(38,.v (.int .i64 x.2.2.1)),(39,.v (.int .i64 x.2.2.2.1))],[(0,some (.box 31 [.v (.int .i64 x.2.2.2.2.1.a),.v (.int .i64 x.2.2.2.2.1.b)])),(1,some (.box 31 [.v (.int .i64 x.2.2.2.2.2.1.a),.v (.int .i64 x.2.2.2.2.2.1.b)])),(7,some (.arr 55 8 (.ty .cell x.2.2.2.2.2.2)))]⟩
def Ib:St→Option Ba
 |⟨79,8,[(5,.own 0 0),(7,.own 1 0),(12,.sq 7),(13,.v (.int .i64 z0)),(37,.sl .group z1),(38,.v (.int .i64 z2)),(39,.v (.int .i64 z3))],[(0,some (.box 31 [.v (.int .i64 z4),.v (.int .i64 z5)])),(1,some (.box 31 [.v (.int .i64 z6),.v (.int .i64 z7)])),(7,some (.arr 55 8 (.ty .cell z8)))]⟩=>some (z0,z1,z2,z3,⟨z4,z5⟩,⟨z6,z7⟩,z8)
 |_=>none
theorem Q8:∀s x,Ib s=some x→s=G1 x:=fun s x h=>by
 unfold Ib at h
 split at h
 ·cases h;rfl
 ·cases h
def Me:DS:=⟨7,8,[5,7,12,13,37,38,39],[],[(0,0),(1,1),(7,7)],[0,1,7],[12,13],[7,0,1]⟩
def U9:Eh:=⟨[],[(0,0),(1,1),(6,7)],[5,7,12,13,37,38,39],[0,1,6]⟩
def HW (a0:Int) (a1:List Ab) (_a2:Int) (a3:Int) (a4:TVec) (_a5:TVec) (a6:List TCell):Int:=bif C8 (a1.getD a3.toNat (Ae TC.group)).2 a4 (a6.getD a3.toNat (Ae TC.cell)) then IntKind.i64.wrap (a0+(1:Int)) else a0
def HX (_a0:Int) (a1:List Ab) (_a2:Int) (a3:Int) (a4:TVec) (a5:TVec) (a6:List TCell):TVec:=TVec.mk (bif C8 (a1.getD a3.toNat (Ae TC.group)).2 a4 (a6.getD a3.toNat (Ae TC.cell)) then max (max (0:Int) a5.1) (Hu (a6.getD a3.toNat (Ae TC.cell))).1 else a5.1) (bif C8 (a1.getD a3.toNat (Ae TC.group)).2 a4 (a6.getD a3.toNat (Ae TC.cell)) then max (max (0:Int) a5.2) (Hu (a6.getD a3.toNat (Ae TC.cell))).2 else a5.2)
def HY (_a0:Int) (a1:List Ab) (_a2:Int) (a3:Int) (a4:TVec) (_a5:TVec) (a6:List TCell):List TCell:=bif C8 (a1.getD a3.toNat (Ae TC.group)).2 a4 (a6.getD a3.toNat (Ae TC.cell)) then a6.set a3.toNat (TCell.mk (TStamp.mk (0:Int) (0:Int)) (TVec.mk (0:Int) (0:Int)) false (ByteArray.mk #[]) (TVec.mk (0:Int) (0:Int))) else a6
def BF (x:Ba):Ba:=(HW x.1 x.2.1 x.2.2.1 x.2.2.2.1 x.2.2.2.2.1 x.2.2.2.2.2.1 x.2.2.2.2.2.2,x.2.1,x.2.2.1,IntKind.i64.wrap (x.2.2.2.1+(1:Int)),x.2.2.2.2.1,HX x.1 x.2.1 x.2.2.1 x.2.2.2.1 x.2.2.2.2.1 x.2.2.2.2.2.1 x.2.2.2.2.2.2,HY x.1 x.2.1 x.2.2.1 x.2.2.2.1 x.2.2.2.2.1 x.2.2.2.2.2.1 x.2.2.2.2.2.2)
def BE (x:Ba):Cnd:=some (!!decide (x.2.2.2.1 <x.2.2.1))
def Kz (x:Ba):List Prop:=[((!!decide (x.2.2.2.1 <x.2.2.1))=true→(0:Int)≤x.2.2.2.1∧x.2.2.2.1 <(↑x.2.1.length:Int)),((!!decide (x.2.2.2.1 <x.2.2.1))=true→(0:Int)≤x.2.2.2.1∧x.2.2.2.1 <(↑x.2.2.2.2.2.2.length:Int)),((!!decide (x.2.2.2.1 <x.2.2.1))=true→x.2.2.2.1.toNat <x.2.2.2.2.2.2.length),((!!decide (x.2.2.2.1 <x.2.2.1))=true→C8 (x.2.1.getD x.2.2.2.1.toNat (Ae TC.group)).2 x.2.2.2.2.1 (x.2.2.2.2.2.2.getD x.2.2.2.1.toNat (Ae TC.cell))=true→(0:Int)≤x.2.2.2.1∧x.2.2.2.1 <(↑x.2.2.2.2.2.2.length:Int)),((!!decide (x.2.2.2.1 <x.2.2.1))=true→C8 (x.2.1.getD x.2.2.2.1.toNat (Ae TC.group)).2 x.2.2.2.2.1 (x.2.2.2.2.2.2.getD x.2.2.2.1.toNat (Ae TC.cell))=true→x.2.2.2.1.toNat <x.2.2.2.2.2.2.length),((!!decide (x.2.2.2.1 <x.2.2.1))=true→C8 (x.2.1.getD x.2.2.2.1.toNat (Ae TC.group)).2 x.2.2.2.2.1 (x.2.2.2.2.2.2.getD x.2.2.2.1.toNat (Ae TC.cell))=true→(0:Int)≤(0:Int)∧(0:Int) <(↑(2:Nat):Int)),((!!decide (x.2.2.2.1 <x.2.2.1))=true→C8 (x.2.1.getD x.2.2.2.1.toNat (Ae TC.group)).2 x.2.2.2.2.1 (x.2.2.2.2.2.2.getD x.2.2.2.1.toNat (Ae TC.cell))=true→(0:Nat) <(2:Nat)),((!!decide (x.2.2.2.1 <x.2.2.1))=true→C8 (x.2.1.getD x.2.2.2.1.toNat (Ae TC.group)).2 x.2.2.2.2.1 (x.2.2.2.2.2.2.getD x.2.2.2.1.toNat (Ae TC.cell))=true→(0:Int)≤(0:Int)∧(0:Int) <(2:Int)),((!!decide (x.2.2.2.1 <x.2.2.1))=true→C8 (x.2.1.getD x.2.2.2.1.toNat (Ae TC.group)).2 x.2.2.2.2.1 (x.2.2.2.2.2.2.getD x.2.2.2.1.toNat (Ae TC.cell))=true→(0:Nat) <(2:Nat)),((!!decide (x.2.2.2.1 <x.2.2.1))=true→C8 (x.2.1.getD x.2.2.2.1.toNat (Ae TC.group)).2 x.2.2.2.2.1 (x.2.2.2.2.2.2.getD x.2.2.2.1.toNat (Ae TC.cell))=true→(0:Int)≤(0:Int)∧(0:Int) <(2:Int)),((!!decide (x.2.2.2.1 <x.2.2.1))=true→C8 (x.2.1.getD x.2.2.2.1.toNat (Ae TC.group)).2 x.2.2.2.2.1 (x.2.2.2.2.2.2.getD x.2.2.2.1.toNat (Ae TC.cell))=true→(0:Nat) <(2:Nat)),((!!decide (x.2.2.2.1 <x.2.2.1))=true→C8 (x.2.1.getD x.2.2.2.1.toNat (Ae TC.group)).2 x.2.2.2.2.1 (x.2.2.2.2.2.2.getD x.2.2.2.1.toNat (Ae TC.cell))=true→(0:Int)≤(0:Int)∧(0:Int) <(2:Int)),((!!decide (x.2.2.2.1 <x.2.2.1))=true→C8 (x.2.1.getD x.2.2.2.1.toNat (Ae TC.group)).2 x.2.2.2.2.1 (x.2.2.2.2.2.2.getD x.2.2.2.1.toNat (Ae TC.cell))=true→(0:Nat) <(2:Nat)),((!!decide (x.2.2.2.1 <x.2.2.1))=true→C8 (x.2.1.getD x.2.2.2.1.toNat (Ae TC.group)).2 x.2.2.2.2.1 (x.2.2.2.2.2.2.getD x.2.2.2.1.toNat (Ae TC.cell))=true→(0:Int)≤(1:Int)∧(1:Int) <(2:Int)),((!!decide (x.2.2.2.1 <x.2.2.1))=true→C8 (x.2.1.getD x.2.2.2.1.toNat (Ae TC.group)).2 x.2.2.2.2.1 (x.2.2.2.2.2.2.getD x.2.2.2.1.toNat (Ae TC.cell))=true→(1:Nat) <(2:Nat)),((!!decide (x.2.2.2.1 <x.2.2.1))=true→C8 (x.2.1.getD x.2.2.2.1.toNat (Ae TC.group)).2 x.2.2.2.2.1 (x.2.2.2.2.2.2.getD x.2.2.2.1.toNat (Ae TC.cell))=true→(0:Int)≤(1:Int)∧(1:Int) <(2:Int)),((!!decide (x.2.2.2.1 <x.2.2.1))=true→C8 (x.2.1.getD x.2.2.2.1.toNat (Ae TC.group)).2 x.2.2.2.2.1 (x.2.2.2.2.2.2.getD x.2.2.2.1.toNat (Ae TC.cell))=true→(1:Nat) <(2:Nat)),((!!decide (x.2.2.2.1 <x.2.2.1))=true→C8 (x.2.1.getD x.2.2.2.1.toNat (Ae TC.group)).2 x.2.2.2.2.1 (x.2.2.2.2.2.2.getD x.2.2.2.1.toNat (Ae TC.cell))=true→(0:Int)≤(1:Int)∧(1:Int) <(2:Int)),((!!decide (x.2.2.2.1 <x.2.2.1))=true→C8 (x.2.1.getD x.2.2.2.1.toNat (Ae TC.group)).2 x.2.2.2.2.1 (x.2.2.2.2.2.2.getD x.2.2.2.1.toNat (Ae TC.cell))=true→(1:Nat) <(2:Nat)),((!!decide (x.2.2.2.1 <x.2.2.1))=true→C8 (x.2.1.getD x.2.2.2.1.toNat (Ae TC.group)).2 x.2.2.2.2.1 (x.2.2.2.2.2.2.getD x.2.2.2.1.toNat (Ae TC.cell))=true→(0:Int)≤(1:Int)∧(1:Int) <(↑(2:Nat):Int)),((!!decide (x.2.2.2.1 <x.2.2.1))=true→C8 (x.2.1.getD x.2.2.2.1.toNat (Ae TC.group)).2 x.2.2.2.2.1 (x.2.2.2.2.2.2.getD x.2.2.2.1.toNat (Ae TC.cell))=true→(1:Nat) <(2:Nat)),((!!decide (x.2.2.2.1 <x.2.2.1))=true→C8 (x.2.1.getD x.2.2.2.1.toNat (Ae TC.group)).2 x.2.2.2.2.1 (x.2.2.2.2.2.2.getD x.2.2.2.1.toNat (Ae TC.cell))=true→(0:Int)≤(0:Int)∧(0:Int) <(2:Int)),((!!decide (x.2.2.2.1 <x.2.2.1))=true→C8 (x.2.1.getD x.2.2.2.1.toNat (Ae TC.group)).2 x.2.2.2.2.1 (x.2.2.2.2.2.2.getD x.2.2.2.1.toNat (Ae TC.cell))=true→(0:Nat) <(2:Nat)),((!!decide (x.2.2.2.1 <x.2.2.1))=true→C8 (x.2.1.getD x.2.2.2.1.toNat (Ae TC.group)).2 x.2.2.2.2.1 (x.2.2.2.2.2.2.getD x.2.2.2.1.toNat (Ae TC.cell))=true→(0:Int)≤(0:Int)∧(0:Int) <(2:Int)),((!!decide (x.2.2.2.1 <x.2.2.1))=true→C8 (x.2.1.getD x.2.2.2.1.toNat (Ae TC.group)).2 x.2.2.2.2.1 (x.2.2.2.2.2.2.getD x.2.2.2.1.toNat (Ae TC.cell))=true→(0:Nat) <(2:Nat)),((!!decide (x.2.2.2.1 <x.2.2.1))=true→C8 (x.2.1.getD x.2.2.2.1.toNat (Ae TC.group)).2 x.2.2.2.2.1 (x.2.2.2.2.2.2.getD x.2.2.2.1.toNat (Ae TC.cell))=true→(0:Int)≤(0:Int)∧(0:Int) <(2:Int)),((!!decide (x.2.2.2.1 <x.2.2.1))=true→C8 (x.2.1.getD x.2.2.2.1.toNat (Ae TC.group)).2 x.2.2.2.2.1 (x.2.2.2.2.2.2.getD x.2.2.2.1.toNat (Ae TC.cell))=true→(0:Nat) <(2:Nat)),((!!decide (x.2.2.2.1 <x.2.2.1))=true→C8 (x.2.1.getD x.2.2.2.1.toNat (Ae TC.group)).2 x.2.2.2.2.1 (x.2.2.2.2.2.2.getD x.2.2.2.1.toNat (Ae TC.cell))=true→(0:Int)≤(1:Int)∧(1:Int) <(2:Int)),((!!decide (x.2.2.2.1 <x.2.2.1))=true→C8 (x.2.1.getD x.2.2.2.1.toNat (Ae TC.group)).2 x.2.2.2.2.1 (x.2.2.2.2.2.2.getD x.2.2.2.1.toNat (Ae TC.cell))=true→(1:Nat) <(2:Nat)),((!!decide (x.2.2.2.1 <x.2.2.1))=true→C8 (x.2.1.getD x.2.2.2.1.toNat (Ae TC.group)).2 x.2.2.2.2.1 (x.2.2.2.2.2.2.getD x.2.2.2.1.toNat (Ae TC.cell))=true→(0:Int)≤(1:Int)∧(1:Int) <(2:Int)),((!!decide (x.2.2.2.1 <x.2.2.1))=true→C8 (x.2.1.getD x.2.2.2.1.toNat (Ae TC.group)).2 x.2.2.2.2.1 (x.2.2.2.2.2.2.getD x.2.2.2.1.toNat (Ae TC.cell))=true→(1:Nat) <(2:Nat)),((!!decide (x.2.2.2.1 <x.2.2.1))=true→C8 (x.2.1.getD x.2.2.2.1.toNat (Ae TC.group)).2 x.2.2.2.2.1 (x.2.2.2.2.2.2.getD x.2.2.2.1.toNat (Ae TC.cell))=true→(0:Int)≤(1:Int)∧(1:Int) <(2:Int)),((!!decide (x.2.2.2.1 <x.2.2.1))=true→C8 (x.2.1.getD x.2.2.2.1.toNat (Ae TC.group)).2 x.2.2.2.2.1 (x.2.2.2.2.2.2.getD x.2.2.2.1.toNat (Ae TC.cell))=true→(1:Nat) <(2:Nat)),((!!decide (x.2.2.2.1 <x.2.2.1))=true→C8 (x.2.1.getD x.2.2.2.1.toNat (Ae TC.group)).2 x.2.2.2.2.1 (x.2.2.2.2.2.2.getD x.2.2.2.1.toNat (Ae TC.cell))=true→(0:Int)≤x.2.2.2.1∧x.2.2.2.1 <(↑x.2.2.2.2.2.2.length:Int)),((!!decide (x.2.2.2.1 <x.2.2.1))=true→C8 (x.2.1.getD x.2.2.2.1.toNat (Ae TC.group)).2 x.2.2.2.2.1 (x.2.2.2.2.2.2.getD x.2.2.2.1.toNat (Ae TC.cell))=true→x.2.2.2.1.toNat <x.2.2.2.2.2.2.length)]
def CN (x:Ba):List Prop:=[((!!decide (x.2.2.2.1 <x.2.2.1))=true→(0:Int)≤x.2.2.2.1∧x.2.2.2.1 <(↑x.2.1.length:Int)),((!!decide (x.2.2.2.1 <x.2.2.1))=true→(0:Int)≤x.2.2.2.1∧x.2.2.2.1 <(↑x.2.2.2.2.2.2.length:Int)),((!!decide (x.2.2.2.1 <x.2.2.1))=true→C8 (x.2.1.getD x.2.2.2.1.toNat (Ae TC.group)).2 x.2.2.2.2.1 (x.2.2.2.2.2.2.getD x.2.2.2.1.toNat (Ae TC.cell))=true→(0:Int)≤x.2.2.2.1∧x.2.2.2.1 <(↑x.2.2.2.2.2.2.length:Int))]
def J3 (x:Ba):Bw:=[(some 2,some (!decide (x.2.2.2.1 <x.2.2.1)),⟨79,8,[(12,.sq 7),(13,.v (.int .i64 x.1))],[(7,some (.arr 55 8 (.ty .cell x.2.2.2.2.2.2))),(0,some (.box 31 [.v (.int .i64 x.2.2.2.2.1.1),.v (.int .i64 x.2.2.2.2.1.2)])),(1,some (.box 31 [.v (.int .i64 x.2.2.2.2.2.1.1),.v (.int .i64 x.2.2.2.2.2.1.2)]))]⟩)]
def Cc (x:Ba):Nat:=(x.2.2.1 - x.2.2.2.1).toNat
def AX (x:Ba):Ba:=BA BF BE (Cc x) x
set_option maxRecDepth 100000 in
theorem SY (a0:Int) (a1:List Ab) (a2:Int) (a3:Int) (a4:TVec) (a5:TVec) (a6:List TCell):Ce (Ay Cn L0) 9 (Ah Try.prog 47 2) Me (G1 (a0,a1,a2,a3,a4,a5,a6))=some (Kz (a0,a1,a2,a3,a4,a5,a6),J3 (a0,a1,a2,a3,a4,a5,a6),BE (a0,a1,a2,a3,a4,a5,a6),G1 (BF (a0,a1,a2,a3,a4,a5,a6))):=by kernel_rfl
set_option maxRecDepth 100000 in
theorem SZ (a0:Int) (a1:List Ab) (a2:Int) (a3:Int) (a4:TVec) (a5:TVec) (a6:List TCell) (hp:∀p∈CN (a0,a1,a2,a3,a4,a5,a6),p):∀p∈Kz (a0,a1,a2,a3,a4,a5,a6),p:=by
 have n0:=N0 hp
 have n1:((!!decide (a3 <a2))=true→(0:Int)≤a3∧a3 <(↑a6.length:Int)):=N0 (N1 hp)
 have n2:((!!decide (a3 <a2))=true→a3.toNat <a6.length):=by intro h0;have g:=n1 h0;omega
 have n3:((!!decide (a3 <a2))=true→C8 (a1.getD a3.toNat (Ae TC.group)).2 a4 (a6.getD a3.toNat (Ae TC.cell))=true→(0:Int)≤a3∧a3 <(↑a6.length:Int)):=N0 (N1 (N1 hp))
 have n4:((!!decide (a3 <a2))=true→C8 (a1.getD a3.toNat (Ae TC.group)).2 a4 (a6.getD a3.toNat (Ae TC.cell))=true→a3.toNat <a6.length):=by intro h0 h1;have g:=n3 h0 h1;omega
 have n5:((!!decide (a3 <a2))=true→C8 (a1.getD a3.toNat (Ae TC.group)).2 a4 (a6.getD a3.toNat (Ae TC.cell))=true→(0:Int)≤(0:Int)∧(0:Int) <(↑(2:Nat):Int)):=by omega
 have n6:((!!decide (a3 <a2))=true→C8 (a1.getD a3.toNat (Ae TC.group)).2 a4 (a6.getD a3.toNat (Ae TC.cell))=true→(0:Nat) <(2:Nat)):=by omega
 have n7:((!!decide (a3 <a2))=true→C8 (a1.getD a3.toNat (Ae TC.group)).2 a4 (a6.getD a3.toNat (Ae TC.cell))=true→(0:Int)≤(0:Int)∧(0:Int) <(2:Int)):=by omega
 have n13:((!!decide (a3 <a2))=true→C8 (a1.getD a3.toNat (Ae TC.group)).2 a4 (a6.getD a3.toNat (Ae TC.cell))=true→(0:Int)≤(1:Int)∧(1:Int) <(2:Int)):=by omega
 have n14:((!!decide (a3 <a2))=true→C8 (a1.getD a3.toNat (Ae TC.group)).2 a4 (a6.getD a3.toNat (Ae TC.cell))=true→(1:Nat) <(2:Nat)):=by omega
 have n19:((!!decide (a3 <a2))=true→C8 (a1.getD a3.toNat (Ae TC.group)).2 a4 (a6.getD a3.toNat (Ae TC.cell))=true→(0:Int)≤(1:Int)∧(1:Int) <(↑(2:Nat):Int)):=by omega
 exact(Aa n0 (Aa n1 (Aa n2 (Aa n3 (Aa n4 (Aa n5 (Aa n6 (Aa n7 (Aa n6 (Aa n7 (Aa n6 (Aa n7 (Aa n6 (Aa n13 (Aa n14 (Aa n13 (Aa n14 (Aa n13 (Aa n14 (Aa n19 (Aa n14 (Aa n7 (Aa n6 (Aa n7 (Aa n6 (Aa n7 (Aa n6 (Aa n13 (Aa n14 (Aa n13 (Aa n14 (Aa n13 (Aa n14 (Aa n3 (Aa n4 Ad)))))))))))))))))))))))))))))))))))
noncomputable def KA:=HZ (Ay Cn L0) (Ah Try.prog 47 2) Me U9 Ib Cc BF BE CN J3
theorem SA:∀s b ps outs,KA s=some (b,ps,outs)→Wf s ⟨ps,outs,none⟩∧BY (Ay C0 L0) b s ps outs:=
 BL (T:=G1) A2s AM (u:=9) (by kernel_rfl) (by decide) (fun⟨a0,a1,a2,a3,a4,a5,a6⟩=>SY a0 a1 a2 a3 a4 a5 a6) (fun⟨a0,a1,a2,a3,a4,a5,a6⟩=>SZ a0 a1 a2 a3 a4 a5 a6) Q8 (fun _=>AV (n:=79) rfl) fun _ _=>rfl
noncomputable def G0:=EO 2 KA L0
theorem Ky:Ht G0:=Bf SA AM
abbrev A9:Type:=(List Ab)×(List TRow)×Int×Int×TVec×TVec×(List TRow)
def GZ (x:A9):St:=⟨79,4,[(0,.sl .group x.1),(5,.own 0 0),(6,.dq 3),(7,.own 1 0),(27,.sl .row x.2.1),(28,.v (.int .i64 x.2.2.1)),(29,.v (.int .i64 x.2.2.2.1))],[(0,some (.box 31 [.v (.int .i64 x.2.2.2.2.1.a),.v (.int .i64 x.2.2.2.2.1.b)])),(1,some (.box 31 [.v (.int .i64 x.2.2.2.2.2.1.a),.v (.int .i64 x.2.2.2.2.2.1.b)])),(3,some (.deep 71 .row x.2.2.2.2.2.2))]⟩
def Ia:St→Option A9
 |⟨79,4,[(0,.sl .group z0),(5,.own 0 0),(6,.dq 3),(7,.own 1 0),(27,.sl .row z1),(28,.v (.int .i64 z2)),(29,.v (.int .i64 z3))],[(0,some (.box 31 [.v (.int .i64 z4),.v (.int .i64 z5)])),(1,some (.box 31 [.v (.int .i64 z6),.v (.int .i64 z7)])),(3,some (.deep 71 .row z8))]⟩=>some (z0,z1,z2,z3,⟨z4,z5⟩,⟨z6,z7⟩,z8)
 |_=>none
theorem Q7:∀s x,Ia s=some x→s=GZ x:=fun s x h=>by
 unfold Ia at h
 split at h
 ·cases h;rfl
 ·cases h
def Md:DS:=⟨3,4,[0,5,6,7,27,28,29],[],[(0,0),(1,1),(10,3)],[0,1,10],[6],[3,0,1]⟩
def U8:Eh:=⟨[.nilD 6 71 .row],[(0,0),(1,1),(2,3)],[0,5,6,7,27,28,29],[0,1,2]⟩
def BD (a0:List Ab) (a1:List TRow) (_a2:Int) (a3:Int) (a4:TVec) (a5:TVec) (_a6:List TRow):Bool:=(AX ((0:Int),a0,(↑a0.length:Int),(0:Int),a4,a5,[]++(a1.getD a3.toNat (Ae TC.row)).2)).fst==(0:Int)
def HT (a0:List Ab) (a1:List TRow) (a2:Int) (a3:Int) (a4:TVec) (a5:TVec) (a6:List TRow):TVec:=TVec.mk (bif(BD a0 a1 a2 a3 a4 a5 a6) then(AX ((0:Int),a0,(↑a0.length:Int),(0:Int),a4,a5,[]++(a1.getD a3.toNat (Ae TC.row)).2)).snd.snd.snd.snd.fst.1 else(AX ((0:Int),a0,(↑a0.length:Int),(0:Int),a4,a5,[]++(a1.getD a3.toNat (Ae TC.row)).2)).snd.snd.snd.snd.fst.1) (bif(BD a0 a1 a2 a3 a4 a5 a6) then(AX ((0:Int),a0,(↑a0.length:Int),(0:Int),a4,a5,[]++(a1.getD a3.toNat (Ae TC.row)).2)).snd.snd.snd.snd.fst.2 else(AX ((0:Int),a0,(↑a0.length:Int),(0:Int),a4,a5,[]++(a1.getD a3.toNat (Ae TC.row)).2)).snd.snd.snd.snd.fst.2)
def HU (a0:List Ab) (a1:List TRow) (a2:Int) (a3:Int) (a4:TVec) (a5:TVec) (a6:List TRow):TVec:=TVec.mk (bif(BD a0 a1 a2 a3 a4 a5 a6) then(AX ((0:Int),a0,(↑a0.length:Int),(0:Int),a4,a5,[]++(a1.getD a3.toNat (Ae TC.row)).2)).snd.snd.snd.snd.snd.fst.1 else(AX ((0:Int),a0,(↑a0.length:Int),(0:Int),a4,a5,[]++(a1.getD a3.toNat (Ae TC.row)).2)).snd.snd.snd.snd.snd.fst.1) (bif(BD a0 a1 a2 a3 a4 a5 a6) then(AX ((0:Int),a0,(↑a0.length:Int),(0:Int),a4,a5,[]++(a1.getD a3.toNat (Ae TC.row)).2)).snd.snd.snd.snd.snd.fst.2 else(AX ((0:Int),a0,(↑a0.length:Int),(0:Int),a4,a5,[]++(a1.getD a3.toNat (Ae TC.row)).2)).snd.snd.snd.snd.snd.fst.2)
def HV (a0:List Ab) (a1:List TRow) (a2:Int) (a3:Int) (a4:TVec) (a5:TVec) (a6:List TRow):List TRow:=bif(BD a0 a1 a2 a3 a4 a5 a6) then a6 else a6++[Vn TC.row TC.cell (TRow.mk (a1.getD a3.toNat (Ae TC.row)).1 []) (AX ((0:Int),a0,(↑a0.length:Int),(0:Int),a4,a5,[]++(a1.getD a3.toNat (Ae TC.row)).2)).snd.snd.snd.snd.snd.snd]
def B9 (x:A9):A9:=(x.1,x.2.1,x.2.2.1,IntKind.i64.wrap (x.2.2.2.1+(1:Int)),HT x.1 x.2.1 x.2.2.1 x.2.2.2.1 x.2.2.2.2.1 x.2.2.2.2.2.1 x.2.2.2.2.2.2,HU x.1 x.2.1 x.2.2.1 x.2.2.2.1 x.2.2.2.2.1 x.2.2.2.2.2.1 x.2.2.2.2.2.2,HV x.1 x.2.1 x.2.2.1 x.2.2.2.1 x.2.2.2.2.1 x.2.2.2.2.2.1 x.2.2.2.2.2.2)
def B8 (x:A9):Cnd:=some (!!decide (x.2.2.2.1 <x.2.2.1))
def Kw (x:A9):List Prop:=[((!!decide (x.2.2.2.1 <x.2.2.1))=true→(0:Int)≤x.2.2.2.1∧x.2.2.2.1 <(↑x.2.1.length:Int)),((!!decide (x.2.2.2.1 <x.2.2.1))=true→Aj ((0:Nat)+(x.2.1.getD x.2.2.2.1.toNat (Ae TC.row)).2.length)),((!!decide (x.2.2.2.1 <x.2.2.1))=true→Ah Try.prog (47:FuncId) (2:Nat)=Ah Try.prog (47:FuncId) (2:Nat)),((!!decide (x.2.2.2.1 <x.2.2.1))=true→AE BF BE CN (Cc ((0:Int),x.1,(↑x.1.length:Int),(0:Int),x.2.2.2.2.1,x.2.2.2.2.2.1,[]++(x.2.1.getD x.2.2.2.1.toNat (Ae TC.row)).2)) ((0:Int),x.1,(↑x.1.length:Int),(0:Int),x.2.2.2.2.1,x.2.2.2.2.2.1,[]++(x.2.1.getD x.2.2.2.1.toNat (Ae TC.row)).2)),((!!decide (x.2.2.2.1 <x.2.2.1))=true→(!(BD x.1 x.2.1 x.2.2.1 x.2.2.2.1 x.2.2.2.2.1 x.2.2.2.2.2.1 x.2.2.2.2.2.2))=true→Aj (x.2.2.2.2.2.2.length+(1:Nat)))]
def DA (x:A9):List Prop:=[((!!decide (x.2.2.2.1 <x.2.2.1))=true→(0:Int)≤x.2.2.2.1∧x.2.2.2.1 <(↑x.2.1.length:Int)),((!!decide (x.2.2.2.1 <x.2.2.1))=true→Aj ((0:Nat)+(x.2.1.getD x.2.2.2.1.toNat (Ae TC.row)).2.length)),((!!decide (x.2.2.2.1 <x.2.2.1))=true→AE BF BE CN (Cc ((0:Int),x.1,(↑x.1.length:Int),(0:Int),x.2.2.2.2.1,x.2.2.2.2.2.1,[]++(x.2.1.getD x.2.2.2.1.toNat (Ae TC.row)).2)) ((0:Int),x.1,(↑x.1.length:Int),(0:Int),x.2.2.2.2.1,x.2.2.2.2.2.1,[]++(x.2.1.getD x.2.2.2.1.toNat (Ae TC.row)).2)),((!!decide (x.2.2.2.1 <x.2.2.1))=true→(!(BD x.1 x.2.1 x.2.2.1 x.2.2.2.1 x.2.2.2.2.1 x.2.2.2.2.2.1 x.2.2.2.2.2.2))=true→Aj (x.2.2.2.2.2.2.length+(1:Nat)))]
def J2 (x:A9):Bw:=[(some 0,some (!decide (x.2.2.2.1 <x.2.2.1)),⟨79,4,[(6,.dq 3)],[(3,some (.deep 71 .row x.2.2.2.2.2.2)),(0,some (.box 31 [.v (.int .i64 x.2.2.2.2.1.1),.v (.int .i64 x.2.2.2.2.1.2)])),(1,some (.box 31 [.v (.int .i64 x.2.2.2.2.2.1.1),.v (.int .i64 x.2.2.2.2.2.1.2)]))]⟩)]
def C2 (x:A9):Nat:=(x.2.2.1 - x.2.2.2.1).toNat
def Gs (x:A9):A9:=BA B9 B8 (C2 x) x
set_option maxRecDepth 100000 in
theorem SW (a0:List Ab) (a1:List TRow) (a2:Int) (a3:Int) (a4:TVec) (a5:TVec) (a6:List TRow):Ce (Ay Cn G0) 9 (Ah Try.prog 47 0) Md (GZ (a0,a1,a2,a3,a4,a5,a6))=some (Kw (a0,a1,a2,a3,a4,a5,a6),J2 (a0,a1,a2,a3,a4,a5,a6),B8 (a0,a1,a2,a3,a4,a5,a6),GZ (B9 (a0,a1,a2,a3,a4,a5,a6))):=by kernel_rfl
set_option maxRecDepth 100000 in
theorem SX (a0:List Ab) (a1:List TRow) (a2:Int) (a3:Int) (a4:TVec) (a5:TVec) (a6:List TRow) (hp:∀p∈DA (a0,a1,a2,a3,a4,a5,a6),p):∀p∈Kw (a0,a1,a2,a3,a4,a5,a6),p:=by
 have n0:=N0 hp
 have n1:=N0 (N1 hp)
 have n2:((!!decide (a3 <a2))=true→Ah Try.prog (47:FuncId) (2:Nat)=Ah Try.prog (47:FuncId) (2:Nat)):=by intros;rfl
 have n3:=N0 (N1 (N1 hp))
 have n4:=N0 (N1 (N1 (N1 hp)))
 exact(Aa n0 (Aa n1 (Aa n2 (Aa n3 (Aa n4 Ad)))))
noncomputable def Kx:=HZ (Ay Cn G0) (Ah Try.prog 47 0) Md U8 Ia C2 B9 B8 DA J2
theorem Sz:∀s b ps outs,Kx s=some (b,ps,outs)→Wf s ⟨ps,outs,none⟩∧BY (Ay C0 L0) b s ps outs:=
 BL (T:=GZ) A2s Ky (u:=9) (by kernel_rfl) (by decide) (fun⟨a0,a1,a2,a3,a4,a5,a6⟩=>SW a0 a1 a2 a3 a4 a5 a6) (fun⟨a0,a1,a2,a3,a4,a5,a6⟩=>SX a0 a1 a2 a3 a4 a5 a6) Q7 (fun _=>AV (n:=79) rfl) fun _ _=>rfl
noncomputable def Mc:=EO 0 Kx G0
theorem Sy:Ht Mc:=Bf Sz Ky
def CH (a0:List Ab) (a1:List TRow) (_a2:TVec):Bool:=H4 a0 a1 !=(0:Int)
def IC (a0:List Ab) (a1:List TRow) (a2:TVec):TVec:=TVec.mk (bif(CH a0 a1 a2) then(0:Int) else bif !Bk a2 then(0:Int) else(Gs (a0,a1,(↑a1.length:Int),(0:Int),a2,TVec.mk (0:Int) (0:Int),[])).snd.snd.snd.snd.snd.fst.1) (bif(CH a0 a1 a2) then(0:Int) else bif !Bk a2 then(0:Int) else(Gs (a0,a1,(↑a1.length:Int),(0:Int),a2,TVec.mk (0:Int) (0:Int),[])).snd.snd.snd.snd.snd.fst.2)
def KI (a0:List Ab) (a1:List TRow) (a2:TVec):Int:=bif(CH a0 a1 a2) then H4 a0 a1 else bif !Bk a2 then(2:Int) else(0:Int)
def KJ (a0:List Ab) (a1:List TRow) (a2:TVec):List TRow:=bif(CH a0 a1 a2) then[] else bif !Bk a2 then[] else(Gs (a0,a1,(↑a1.length:Int),(0:Int),a2,TVec.mk (0:Int) (0:Int),[])).snd.snd.snd.snd.snd.snd
def KL (a0:List Ab) (a1:List TRow) (a2:TVec):A:=.tup [.dq 0,.v (.agg ⟨[.int .i64 ((IC a0 a1 a2).a),.int .i64 ((IC a0 a1 a2).b)]⟩),.v (.int .i64 (KI a0 a1 a2))]
def KK (a0:List Ab) (a1:List TRow) (a2:TVec):Objs:=[(0,some (.deep 71 .row (KJ a0 a1 a2)))]
def YA (a0:List Ab) (a1:List TRow) (a2:TVec):List Prop:=[(AC a1.length),((!(CH a0 a1 a2))=true→(!!Bk a2)=true→AE B9 B8 DA (C2 (a0,a1,(↑a1.length:Int),(0:Int),a2,TVec.mk (0:Int) (0:Int),[])) (a0,a1,(↑a1.length:Int),(0:Int),a2,TVec.mk (0:Int) (0:Int),[]))]
set_option maxRecDepth 100000 in
theorem Yz (a0:List Ab) (a1:List TRow) (a2:TVec):Hx (Ay Cn Mc) 9 47 [.sl .group a0,Aq .rows a1,Aq .vec a2] 0 []=some (1,KL a0 a1 a2,1,KK a0 a1 a2,[(AC a1.length),((!(CH a0 a1 a2))=true→(!!Bk a2)=true→Ah Try.prog (47:FuncId) (0:Nat)=Ah Try.prog (47:FuncId) (0:Nat)),((!(CH a0 a1 a2))=true→(!!Bk a2)=true→AE B9 B8 DA (C2 (a0,a1,(↑a1.length:Int),(0:Int),a2,TVec.mk (0:Int) (0:Int),[])) (a0,a1,(↑a1.length:Int),(0:Int),a2,TVec.mk (0:Int) (0:Int),[]))]):=by kernel_rfl
set_option maxRecDepth 100000 in
theorem Aaf (a0:List Ab) (a1:List TRow) (a2:TVec) (hp:∀p∈YA a0 a1 a2,p):CallOk Try.prog 47 [.sl .group a0,Aq .rows a1,Aq .vec a2] 0 [] 1 (KL a0 a1 a2) 1 (KK a0 a1 a2):=by
 have n0:=N0 hp
 have n1:((!(CH a0 a1 a2))=true→(!!Bk a2)=true→Ah Try.prog (47:FuncId) (0:Nat)=Ah Try.prog (47:FuncId) (0:Nat)):=by intros;rfl
 have n2:=N0 (N1 hp)
 exact AJ (Aw A2s Sy) (Yz a0 a1 a2) (Aa n0 (Aa n1 (Aa n2 Ad)))
def N4 (a0:List Ab) (a1:List TRow) (a2:TVec):A:=.tup [.dq 0,.v (.agg ⟨[.int .i64 (L9 a0 a1 a2).a,.int .i64 (L9 a0 a1 a2).b]⟩),.v (.int .i64 (HA a0 a1 a2))]
def N3 (a0:List Ab) (a1:List TRow) (a2:TVec):Objs:=[(0,some (.deep 71 .row (Ma a0 a1 a2)))]
def MV (_a0:List Ab) (a1:List TRow) (_a2:TVec):List Prop:=[Aj (a1.length+1)]
theorem Ayg (l:List Ab) (st low:TVec) (cs:List TCell) (hl:cs.length=l.length) (h4:l.length≤4):
  AE BF BE CN (Cc (0,l,(l.length:Int),0,st,low,cs)) (0,l,(l.length:Int),0,st,low,cs)∧
  AX (0,l,(l.length:Int),0,st,low,cs)=((JN l st cs l.length:Int),l,(l.length:Int),(l.length:Int),st,O3 l st cs low l.length,Sr l st cs l.length):=by
 have hat:∀i,i <l.length→C8 (l.getD ((i:Int)).toNat (Ae TC.group)).2 st ((Sr l st cs i).getD ((i:Int)).toNat (Ae TC.cell))=mN l st cs i∧(Sr l st cs i).getD ((i:Int)).toNat (Ae TC.cell)=SK cs i:=fun i hi=>by
  have h1:=A1k l st cs i (by omega) i
  rw[decide_eq_false (Nat.lt_irrefl _),Bool.false_and,cond_false] at h1
  have h2:(Sr l st cs i).getD ((i:Int)).toNat (Ae TC.cell)=SK cs i:=by rw[Int.toNat_natCast];exact h1
  rw[h2,Int.toNat_natCast]
  exact⟨rfl,rfl⟩
 obtain⟨h1,k,hk,hx,_,hst,_⟩:=JJ (fun i=>(((JN l st cs i:Nat):Int),l,(l.length:Int),(i:Int),st,O3 l st cs low i,Sr l st cs i):Nat→Ba) l.length (fun _=>false) BF BE CN (Cc (0,l,(l.length:Int),0,st,low,cs)) (0,l,(l.length:Int),0,st,low,cs) rfl (by show l.length≤((l.length:Int) - 0).toNat;omega)
  (fun i _ _=>by
   show(!!decide ((i:Int) <(l.length:Int)))=_
   rw[nn,PE,Bool.not_false,Bool.and_true])
  (fun i hi _=>by
   obtain⟨q1,q2⟩:=hat i hi
   have hc:=A7a l st cs i
   show(HW (JN l st cs i:Int) l (l.length:Int) (i:Int) st (O3 l st cs low i) (Sr l st cs i),l,(l.length:Int),IntKind.i64.wrap ((i:Int)+1),st,HX (JN l st cs i:Int) l (l.length:Int) (i:Int) st (O3 l st cs low i) (Sr l st cs i),HY (JN l st cs i:Int) l (l.length:Int) (i:Int) st (O3 l st cs low i) (Sr l st cs i))=(((JN l st cs (i+1):Nat):Int),l,(l.length:Int),((i+1:Nat):Int),st,O3 l st cs low (i+1),Sr l st cs (i+1))
   rw[FS (by omega)]
   unfold HW HX HY
   rw[q1,q2,FS (by omega),Int.toNat_natCast]
   show _=(((bif mN l st cs i then JN l st cs i+1 else JN l st cs i:Nat):Int),l,(l.length:Int),((i+1:Nat):Int),st,(bif mN l st cs i then Aym (O3 l st cs low i) (LT (SK cs i)) else O3 l st cs low i),(bif mN l st cs i then(Sr l st cs i).set i Dq else Sr l st cs i))
   cases mN l st cs i<;>rfl)
  (fun i hi _=>by
   have hin:(!!decide ((i:Int) <(l.length:Int)))=true→(i:Int) <(l.length:Int):=fun h=>by rw[nn] at h;exact of_decide_eq_true h
   have hlen:=ZN l st cs i
   exact Aa (fun h=>⟨by show(0:Int)≤(i:Int);omega,hin h⟩) (Aa (fun h=>⟨by show(0:Int)≤(i:Int);omega,by have:=hin h;show(i:Int) <((Sr l st cs i).length:Int);omega⟩) (Aa (fun h _=>⟨by show(0:Int)≤(i:Int);omega,by have:=hin h;show(i:Int) <((Sr l st cs i).length:Int);omega⟩) Ad)))
 have hkn:k=l.length:=by
  rcases Nat.lt_or_ge k l.length with h|h
  ·exact absurd (hst h) (by decide)
  ·omega
 subst hkn
 exact⟨h1,hx⟩
theorem Ayh (l:List Ab) (st:TVec) (rows:List TRow) (h0:H4 l rows=0) (hb:Aj (rows.length+1)):
  AE B9 B8 DA (C2 (l,rows,(rows.length:Int),0,st,⟨0,0⟩,[])) (l,rows,(rows.length:Int),0,st,⟨0,0⟩,[])∧
  Gs (l,rows,(rows.length:Int),0,st,⟨0,0⟩,[])=(l,rows,(rows.length:Int),(rows.length:Int),st,JO l st rows rows.length,LZ l st rows rows.length):=by
 unfold Aj at hb
 obtain⟨hp,hg⟩:=A3c.1 h0
 have h4:=(J4 hp).2
 have hlen:∀i,i <rows.length→(DQ rows i).cells.length=l.length:=fun i hi=>(JA (A7o.1 (hg i hi)).1).2.1
 obtain⟨h1,k,hk,hx,_,hst,_⟩:=JJ (fun i=>(l,rows,(rows.length:Int),(i:Int),st,JO l st rows i,LZ l st rows i):Nat→A9) rows.length (fun _=>false) B9 B8 DA (C2 (l,rows,(rows.length:Int),0,st,⟨0,0⟩,[])) (l,rows,(rows.length:Int),0,st,⟨0,0⟩,[]) rfl (by show rows.length≤((rows.length:Int) - 0).toNat;omega)
  (fun i _ _=>by
   show(!!decide ((i:Int) <(rows.length:Int)))=_
   rw[nn,PE,Bool.not_false,Bool.and_true])
  (fun i hi _=>by
   have q:=(Ayg l st (JO l st rows i) (DQ rows i).cells (hlen i hi) h4).2
   have q':AX ((0:Int),l,(l.length:Int),(0:Int),st,JO l st rows i,[]++(rows.getD ((i:Int)).toNat (Ae TC.row)).2)=((JN l st (DQ rows i).cells l.length:Int),l,(l.length:Int),(l.length:Int),st,O3 l st (DQ rows i).cells (JO l st rows i) l.length,Sr l st (DQ rows i).cells l.length):=by rw[Int.toNat_natCast];exact q
   show(l,rows,(rows.length:Int),IntKind.i64.wrap ((i:Int)+1),HT l rows (rows.length:Int) (i:Int) st (JO l st rows i) (LZ l st rows i),HU l rows (rows.length:Int) (i:Int) st (JO l st rows i) (LZ l st rows i),HV l rows (rows.length:Int) (i:Int) st (JO l st rows i) (LZ l st rows i))=(l,rows,(rows.length:Int),((i+1:Nat):Int),st,JO l st rows (i+1),LZ l st rows (i+1))
   rw[FS (by omega)]
   unfold HT HU HV BD
   rw[q',Int.toNat_natCast]
   show(l,rows,(rows.length:Int),((i+1:Nat):Int),TVec.mk (bif(JN l st (DQ rows i).cells l.length:Int)==0 then st.1 else st.1) (bif(JN l st (DQ rows i).cells l.length:Int)==0 then st.2 else st.2),TVec.mk (bif(JN l st (DQ rows i).cells l.length:Int)==0 then(JO l st rows (i+1)).1 else(JO l st rows (i+1)).1) (bif(JN l st (DQ rows i).cells l.length:Int)==0 then(JO l st rows (i+1)).2 else(JO l st rows (i+1)).2),(bif(JN l st (DQ rows i).cells l.length:Int)==0 then LZ l st rows i else LZ l st rows i++[swR l st (DQ rows i)]))=(l,rows,(rows.length:Int),((i+1:Nat):Int),st,JO l st rows (i+1),(bif !(JN l st (DQ rows i).cells l.length==0) then LZ l st rows i++[swR l st (DQ rows i)] else LZ l st rows i))
   rw[Ac4]
   cases JN l st (DQ rows i).cells l.length==0<;>rfl)
  (fun i hi _=>by
   have hin:(!!decide ((i:Int) <(rows.length:Int)))=true→i <rows.length:=fun h=>by rw[nn] at h;have:=of_decide_eq_true h;omega
   refine Aa (fun h=>⟨by show(0:Int)≤(i:Int);omega,by have:=hin h;show(i:Int) <(rows.length:Int);omega⟩) (Aa (fun h=>?_) (Aa (fun h=>?_) (Aa (fun h _=>?_) Ad)))
   ·have h9:=hlen i (hin h)
    have h8:(rows.getD ((i:Int)).toNat (Ae TC.row)).2.length=l.length:=by rw[Int.toNat_natCast];exact h9
    show Aj (0+(rows.getD ((i:Int)).toNat (Ae TC.row)).2.length)
    unfold Aj
    omega
   ·have q:=(Ayg l st (JO l st rows i) (DQ rows i).cells (hlen i (hin h)) h4).1
    have e:((i:Int)).toNat=i:=Int.toNat_natCast i
    show AE BF BE CN (Cc ((0:Int),l,(l.length:Int),(0:Int),st,JO l st rows i,[]++(rows.getD ((i:Int)).toNat (Ae TC.row)).2)) ((0:Int),l,(l.length:Int),(0:Int),st,JO l st rows i,[]++(rows.getD ((i:Int)).toNat (Ae TC.row)).2)
    rw[e]
    exact q
   ·have:=Asb l st rows i (by have:=hin h;omega)
    have:=hin h
    show Aj ((LZ l st rows i).length+1)
    unfold Aj
    omega)
 have hkn:k=rows.length:=by
  rcases Nat.lt_or_ge k rows.length with h|h
  ·exact absurd (hst h) (by decide)
  ·omega
 subst hkn
 exact⟨h1,hx⟩
theorem Yy (a0:List Ab) (a1:List TRow) (a2:TVec) (hp:∀p∈MV a0 a1 a2,p):CallOk Try.prog 47 [.sl .group a0,Aq .rows a1,Aq .vec a2] 0 [] 1 (N4 a0 a1 a2) 1 (N3 a0 a1 a2):=by
 have hb:Aj (a1.length+1):=hp _ (List.mem_cons_self ..)
 have hb':=hb
 unfold Aj at hb'
 have h:=Aaf a0 a1 a2 (Aa (by unfold AC;omega) (Aa (fun h1 _=>by
  have h2:(!(H4 a0 a1 !=0))=true:=h1
  exact(Ayh a0 a2 a1 (by simpa using h2) hb).1) Ad))
 have e:IC a0 a1 a2=L9 a0 a1 a2∧KI a0 a1 a2=HA a0 a1 a2∧KJ a0 a1 a2=Ma a0 a1 a2:=by
  unfold IC KI KJ CH L9 Ma
  rw[LO]
  cases hg:H4 a0 a1 !=0 with
  |true=>
   have he:HA a0 a1 a2=H4 a0 a1:=by unfold HA;rw[hg];rfl
   have hz:(HA a0 a1 a2==0)=false:=by rw[he];simpa using hg
   rw[hz,he]
   exact⟨rfl,rfl,rfl⟩
  |false=>
   have h0:H4 a0 a1=0:=by simpa using hg
   have he:HA a0 a1 a2=bif GY a2 then 0 else 2:=by unfold HA;rw[hg];rfl
   rw[he,(Ayh a0 a2 a1 h0 hb).2]
   cases GY a2<;>exact⟨rfl,rfl,rfl⟩
 unfold KL KK at h
 rw[e.1,e.2.1,e.2.2] at h
 exact h
def KM:List A→Nat→Objs→Option BP
 | [y0,y1,y2],nx,o=>match QX .group y0,A3 .rows y1,A3 .vec y2 with
  |some a0,some (a1,p1),some (a2,p2)=>some (1,(N4 a0 a1 a2).pk (AH nx),nx+1,AG nx (N3 a0 a1 a2)++o,p1++(p2++(MV a0 a1 a2)))
  |_,_,_=>none
 |_,_,_=>none
theorem Wx:HO Try.prog 47 KM:=fun args nx o k x nx' o' ps h=>by
 unfold KM at h
 split at h<;>first|(cases h;done)|skip
 split at h<;>first|(cases h;done)|skip
 rename_i a0 a1 p1 a2 p2 e0 e1 e2
 cases h
 refine⟨fun hp=>?_,_,rfl⟩
 have q1:=fun p hm=>hp p (List.mem_append.2 (.inl hm))
 have r1:=fun p hm=>hp p (List.mem_append.2 (.inr hm))
 have q2:=fun p hm=>r1 p (List.mem_append.2 (.inl hm))
 have r2:=fun p hm=>r1 p (List.mem_append.2 (.inr hm))
 refine Ao (Ai (Yy a0 a1 a2 r2) (Nat.le_refl _) (Af rfl (Af (Ag _ _) (Af (Ag _ _) Au))) nx o) fun F N R vs hl=>?_
 obtain⟨v0,w0,rfl,h0,hl⟩:=hl.inv
 obtain⟨v1,w1,rfl,h1,hl⟩:=hl.inv
 obtain⟨v2,w2,rfl,h2,hl⟩:=hl.inv
 exact HL.cons (GD e0 h0) (HL.cons (Ar e1 q1 h1) (HL.cons (Ar e2 q2 h2) (hl)))
noncomputable def Bfd:=B5 47 KM Cn
theorem Ban:Gg Try.prog Bfd:=Ax Wx A2s
noncomputable def Co:=Bfd
theorem A60:Gg Try.prog Co:=Ban
end Go.Proofs.Yteebobbhhgmeiaa
namespace Go.Proofs.Yteebobbhhgmeiaa
open Go.RowKit
def Lex (r e s:Prop):Prop:=r∨(e∧s)
theorem Qj {r1 r2 r3 e1 e2 e3 s1 s2 s3:Prop} (hr:r1→r2→r3) (hre:r1→e2→r3) (her:e1→r2→r3) (hee:e1→e2→e3) (hs:s1→s2→s3):Lex r1 e1 s1→Lex r2 e2 s2→Lex r3 e3 s3
 | .inl a,.inl b=> .inl (hr a b)
 | .inl a,.inr b=> .inl (hre a b.1)
 | .inr a,.inl b=> .inl (her a.1 b)
 | .inr a,.inr b=> .inr ⟨hee a.1 b.1,hs a.2 b.2⟩
theorem Qi {r1 r2 e1 e2 s1 s2 t e:Prop} (h:r1∨e∨r2) (h1:e→e1) (h2:e→e2) (hs:s1∨t∨s2):Lex r1 e1 s1∨(e∧t)∨Lex r2 e2 s2:=by
 rcases h with h|h|h
 ·exact .inl (.inl h)
 ·rcases hs with g|g|g
  ·exact .inl (.inr ⟨h1 h,g⟩)
  ·exact .inr (.inl ⟨h,g⟩)
  ·exact .inr (.inr (.inr ⟨h2 h,g⟩))
 ·exact .inr (.inr (.inl h))
def SG (a b:TCell):Prop:=
 Lex (a.stamp.n <b.stamp.n) (a.stamp.n=b.stamp.n) (Lex (a.stamp.site <b.stamp.site) (a.stamp.site=b.stamp.site) (Lex (a.gone=false∧b.gone=true) (a.gone=b.gone) (Lex (ltS a.value b.value=true) (a.value=b.value) (Lex (a.vec.a <b.vec.a) (a.vec.a=b.vec.a) (a.vec.b <b.vec.b)))))
theorem Ajl {a b c:TCell}:SG a b→SG b c→SG a c:=
 Qj (by omega) (by omega) (by omega) (by omega) (Qj (by omega) (by omega) (by omega) (by omega)
  (Qj (fun h g=>by rw[h.2] at g;exact absurd g.1 (by decide)) (fun h g=>⟨h.1,g▸h.2⟩) (fun h g=>⟨h▸g.1,g.2⟩) (fun h g=>h.trans g)
   (Qj Apn (fun h g=>g▸h) (fun h g=>h▸g) (fun h g=>h.trans g) (Qj (by omega) (by omega) (by omega) (by omega) (by omega)))))
def Bdc (a b:TCell):Prop:=a.stamp.n=b.stamp.n∧a.stamp.site=b.stamp.site∧a.gone=b.gone∧a.value=b.value∧a.vec.a=b.vec.a∧a.vec.b=b.vec.b
theorem Azs (a b:TCell):SG a b∨Bdc a b∨SG b a:=by
 refine Qi (by omega) id Eq.symm (Qi (by omega) id Eq.symm (Qi ?_ id Eq.symm (Qi ?_ id Eq.symm (Qi (by omega) id Eq.symm (by omega)))))
 ·cases a.gone<;>cases b.gone<;>simp
 ·by_cases h:a.value=b.value
  ·exact .inr (.inl h)
  ·cases h1:ltS a.value b.value with
   |true=>exact .inl rfl
   |false=>exact .inr (.inr (Apm h1 h))
def A3j (a b:TCell):Bool:=
 bif !(a.stamp.n==b.stamp.n&&a.stamp.site==b.stamp.site) then decide (a.stamp.n <b.stamp.n)||(a.stamp.n==b.stamp.n&&decide (a.stamp.site <b.stamp.site))
 else bif a.gone !=b.gone then b.gone
 else bif !(a.value==b.value) then ltS a.value b.value
 else bif a.vec.a !=b.vec.a then decide (a.vec.a <b.vec.a)
 else decide (a.vec.b <b.vec.b)
theorem Apj {a b:TCell}:A3j a b=true↔SG a b:=by
 unfold A3j SG Lex
 by_cases h1:a.stamp.n=b.stamp.n
 ·by_cases h2:a.stamp.site=b.stamp.site
  ·have e:(a.stamp.n==b.stamp.n&&a.stamp.site==b.stamp.site)=true:=by rw[h1,h2];simp
   rw[e,Bool.not_true,cond_false]
   simp only[h1,h2,false_or,true_and,Int.lt_irrefl]
   by_cases h3:a.gone=b.gone
   ·have e3:(a.gone !=b.gone)=false:=by rw[h3];simp
    have n3:¬(a.gone=false∧b.gone=true):=by rw[h3];rintro⟨x,y⟩;rw[x] at y;cases y
    rw[e3,cond_false]
    have n3':¬(b.gone=false∧b.gone=true):=by rintro⟨x,y⟩;rw[x] at y;cases y
    simp only[h3,n3',false_or,true_and]
    by_cases h4:a.value=b.value
    ·have e4:(a.value==b.value)=true:=beq_iff_eq.2 h4
     rw[e4,Bool.not_true,cond_false]
     simp only[h4,true_and]
     have n4':¬ltS b.value b.value=true:=fun h=>A8d h rfl
     simp only[n4',Bool.false_eq_true,false_or]
     by_cases h5:a.vec.a=b.vec.a
     ·have e5:(a.vec.a !=b.vec.a)=false:=by rw[h5];simp
      rw[e5,cond_false,decide_eq_true_eq]
      omega
     ·have e5:(a.vec.a !=b.vec.a)=true:=by simpa using h5
      rw[e5,cond_true,decide_eq_true_eq]
      omega
    ·have e4:(a.value==b.value)=false:=beq_eq_false_iff_ne.2 h4
     rw[e4,Bool.not_false,cond_true]
     simp only[h4,false_and,or_false]
   ·have e3:(a.gone !=b.gone)=true:=by simpa using h3
    rw[e3,cond_true]
    simp only[h3,false_and,or_false]
    revert h3
    cases a.gone<;>cases b.gone<;>simp
  ·have e:(a.stamp.n==b.stamp.n&&a.stamp.site==b.stamp.site)=false:=by rw[beq_eq_false_iff_ne.2 h2,Bool.and_false]
   rw[e,Bool.not_false,cond_true]
   simp[h1,h2]
 ·have e:(a.stamp.n==b.stamp.n&&a.stamp.site==b.stamp.site)=false:=by rw[beq_eq_false_iff_ne.2 h1,Bool.false_and]
  rw[e,Bool.not_false,cond_true]
  simp[h1]
def Azu (a b:TCell):TCell:=bif A3j a b then b else a
def Bab (a:TCell):TCell:=⟨a.stamp,a.vec,a.gone,a.value,⟨0,0⟩⟩
theorem Bcq {a b:TCell} (h:Bdc a b):Bab a=Bab b:=by
 obtain⟨⟨an,asi⟩,⟨ava,avb⟩,ag,av,ad⟩:=a
 obtain⟨⟨bn,bsi⟩,⟨bva,bvb⟩,bg,bv,bd⟩:=b
 obtain⟨h1,h2,h3,h4,h5,h6⟩:=h
 simp only at h1 h2 h3 h4 h5 h6
 subst h1 h2 h3 h4 h5 h6
 rfl
theorem Av9 {a b:TCell}:SG a (Bab b)↔SG a b:=Iff.rfl
theorem UO (a b:TCell):(SG a b∧Azu a b=b)∨(¬SG a b∧Azu a b=a):=by
 unfold Azu
 cases h:A3j a b with
 |true=>exact .inl ⟨Apj.1 h,rfl⟩
 |false=>exact .inr ⟨fun g=>(by rw[Apj.2 g] at h;cases h),rfl⟩
theorem max_assoc (a b c:TCell):Bab (Azu (Azu a b) c)=Bab (Azu a (Azu b c)):=by
 rcases UO a b with⟨h,e⟩|⟨h,e⟩<;>rcases UO b c with⟨g,f⟩|⟨g,f⟩
 ·rw[e,f]
  rcases UO a c with⟨_,q⟩|⟨r,_⟩
  ·rw[q]
  ·exact absurd (Ajl h g) r
 ·rw[e,f,e]
 ·rw[e,f]
 ·rw[e,f,e]
  rcases UO a c with⟨r,q⟩|⟨_,q⟩
  ·rcases Azs b c with t|t|t
   ·exact absurd t g
   ·have:=Bcq t
    rw[←Av9 (b:=c),←this] at r
    exact absurd (Av9.1 r) h
   ·exact absurd (Ajl r t) h
  ·rw[q]
end Go.Proofs.Yteebobbhhgmeiaa
namespace Go.Proofs.Yteebobbhhgmeiaa
open Go.RowKit
structure Stt (l:List Ab) (rows:List TRow):Prop where
 rise:Bgf rows
 good:∀r∈rows,AF l r=0∧JQ r=false
theorem Stt.tail {l:List Ab} {x:TRow} {a:List TRow} (h:Stt l (x::a)):Stt l a:=⟨(List.pairwise_cons.1 h.rise).2,fun r hr=>h.good r (List.mem_cons_of_mem _ hr)⟩
end Go.Proofs.Yteebobbhhgmeiaa
namespace Go.Proofs.Yteebobbhhgmeiaa
open Go.RowKit
abbrev CZ:Type:=(List Ab)×(List TRow)×Int
def Lo (x:CZ):St:=⟨50,0,[(0,.sl .group x.1),(1,.sl .row x.2.1),(6,.v (.int .i64 x.2.2))],[]⟩
def Nw:St→Option CZ
 |⟨50,0,[(0,.sl .group z0),(1,.sl .row z1),(6,.v (.int .i64 z2))],[]⟩=>some (z0,z1,z2)
 |_=>none
theorem Acd:∀s x,Nw s=some x→s=Lo x:=fun s x h=>by
 unfold Nw at h
 split at h
 ·cases h;rfl
 ·cases h
def VZ:DS:=⟨0,0,[0,1,6],[],[],[],[4,5],[]⟩
def Aob:Eh:=⟨[],[],[0,1,6],[]⟩
def Ga (_a0:List Ab) (_a1:List TRow) (a2:Int):Int:=IntKind.i64.wrap (a2 - (1:Int))
def BC (a0:List Ab) (a1:List TRow) (a2:Int):Bool:=AF a0 (a1.getD a2.toNat (Ae TC.row)) !=(0:Int)
def A8 (_a0:List Ab) (a1:List TRow) (a2:Int):Bool:=!!decide (a2 <(↑a1.length:Int))
def DI (a0:List Ab) (a1:List TRow) (a2:Int):Bool:=(A8 a0 a1 a2)&&((BC a0 a1 a2)||(JQ (a1.getD a2.toNat (Ae TC.row))||decide (a2 >(0:Int))&&!Op.bytesLess (a1.getD (Ga a0 a1 a2).toNat (Ae TC.row)).1.toList (a1.getD a2.toNat (Ae TC.row)).1.toList))
def Ahl (a0:List Ab) (a1:List TRow) (a2:Int):Bool:=(A8 a0 a1 a2)&&!(DI a0 a1 a2)
def Hh (a0:List Ab) (a1:List TRow) (a2:Int):Int:=bif(BC a0 a1 a2) then AF a0 (a1.getD a2.toNat (Ae TC.row)) else(100:Int)
def Acc (a0:List Ab) (a1:List TRow) (a2:Int):Int:=AF a0 (a1.getD a2.toNat (Ae TC.row))
def Gc (x:CZ):CZ:=(x.1,x.2.1,IntKind.i64.wrap (x.2.2+(1:Int)))
def Gb (x:CZ):Cnd:=some (Ahl x.1 x.2.1 x.2.2)
def Sj (x:CZ):List Prop:=[((A8 x.1 x.2.1 x.2.2)=true→(0:Int)≤x.2.2∧x.2.2 <(↑x.2.1.length:Int)),((A8 x.1 x.2.1 x.2.2)=true→∀(g:Ab),g∈x.1→AC g.1.size),((A8 x.1 x.2.1 x.2.2)=true→(!(BC x.1 x.2.1 x.2.2))=true→(0:Int)≤x.2.2∧x.2.2 <(↑x.2.1.length:Int)),((A8 x.1 x.2.1 x.2.2)=true→(!(BC x.1 x.2.1 x.2.2))=true→Aj (x.2.1.getD x.2.2.toNat (Ae TC.row)).2.length),((A8 x.1 x.2.1 x.2.2)=true→(!(BC x.1 x.2.1 x.2.2))=true→decide (x.2.2 >(0:Int))=true→JQ (x.2.1.getD x.2.2.toNat (Ae TC.row))=false→(0:Int)≤(Ga x.1 x.2.1 x.2.2)∧(Ga x.1 x.2.1 x.2.2) <(↑x.2.1.length:Int)),((A8 x.1 x.2.1 x.2.2)=true→(!(BC x.1 x.2.1 x.2.2))=true→decide (x.2.2 >(0:Int))=true→JQ (x.2.1.getD x.2.2.toNat (Ae TC.row))=false→(0:Int)≤x.2.2∧x.2.2 <(↑x.2.1.length:Int))]
def Iw (x:CZ):List Prop:=[((A8 x.1 x.2.1 x.2.2)=true→(0:Int)≤x.2.2∧x.2.2 <(↑x.2.1.length:Int)),((A8 x.1 x.2.1 x.2.2)=true→∀(g:Ab),g∈x.1→AC g.1.size),((A8 x.1 x.2.1 x.2.2)=true→(!(BC x.1 x.2.1 x.2.2))=true→(0:Int)≤x.2.2∧x.2.2 <(↑x.2.1.length:Int)),((A8 x.1 x.2.1 x.2.2)=true→(!(BC x.1 x.2.1 x.2.2))=true→Aj (x.2.1.getD x.2.2.toNat (Ae TC.row)).2.length),((A8 x.1 x.2.1 x.2.2)=true→(!(BC x.1 x.2.1 x.2.2))=true→decide (x.2.2 >(0:Int))=true→JQ (x.2.1.getD x.2.2.toNat (Ae TC.row))=false→(0:Int)≤(Ga x.1 x.2.1 x.2.2)∧(Ga x.1 x.2.1 x.2.2) <(↑x.2.1.length:Int)),((A8 x.1 x.2.1 x.2.2)=true→(!(BC x.1 x.2.1 x.2.2))=true→decide (x.2.2 >(0:Int))=true→JQ (x.2.1.getD x.2.2.toNat (Ae TC.row))=false→(0:Int)≤x.2.2∧x.2.2 <(↑x.2.1.length:Int))]
def QF (x:CZ):Bw:=[(some 0,some (!decide (x.2.2 <(↑x.2.1.length:Int))),⟨50,0,[(4,.dead),(5,.dead)],[]⟩),(none,some ((DI x.1 x.2.1 x.2.2)),⟨50,0,[(4,.v (.int .i64 (Hh x.1 x.2.1 x.2.2))),(5,.v (.int .i64 (Acc x.1 x.2.1 x.2.2)))],[]⟩)]
def Hi (x:CZ):Nat:=((↑x.2.1.length:Int) - x.2.2).toNat
def Ji (x:CZ):CZ:=BA Gc Gb (Hi x) x
set_option maxRecDepth 100000 in
theorem Al2 (a0:List Ab) (a1:List TRow) (a2:Int):Ce (Ay Co L0) 9 (Ah Try.prog 93 0) VZ (Lo (a0,a1,a2))=some (Sj (a0,a1,a2),QF (a0,a1,a2),Gb (a0,a1,a2),Lo (Gc (a0,a1,a2))):=by kernel_rfl
set_option maxRecDepth 100000 in
theorem Al3 (a0:List Ab) (a1:List TRow) (a2:Int) (hp:∀p∈Iw (a0,a1,a2),p):∀p∈Sj (a0,a1,a2),p:=by
 have n0:=N0 hp
 have n1:=N0 (N1 hp)
 have n2:=N0 (N1 (N1 hp))
 have n3:=N0 (N1 (N1 (N1 hp)))
 have n4:=N0 (N1 (N1 (N1 (N1 hp))))
 have n5:=N0 (N1 (N1 (N1 (N1 (N1 hp)))))
 exact(Aa n0 (Aa n1 (Aa n2 (Aa n3 (Aa n4 (Aa n5 Ad))))))
noncomputable def Sk:=HZ (Ay Co L0) (Ah Try.prog 93 0) VZ Aob Nw Hi Gc Gb Iw QF
theorem Ahm:∀s b ps outs,Sk s=some (b,ps,outs)→Wf s ⟨ps,outs,none⟩∧BY (Ay C0 L0) b s ps outs:=
 BL (T:=Lo) A60 AM (u:=9) (by kernel_rfl) (by decide) (fun⟨a0,a1,a2⟩=>Al2 a0 a1 a2) (fun⟨a0,a1,a2⟩=>Al3 a0 a1 a2) Acd (fun _=>AV (n:=50) rfl) fun _ _=>rfl
noncomputable def VY:=EO 0 Sk L0
theorem Ahk:Ht VY:=Bf Ahm AM
def LL (a0:List Ab) (_a1:List TRow):Bool:=CI a0 !=(0:Int)
def Ue (a0:List Ab) (a1:List TRow):List Ab:=(Ji (a0,a1,(0:Int))).fst
def Ud (a0:List Ab) (a1:List TRow):Int:=(Ji (a0,a1,(0:Int))).snd.snd
def Uc (a0:List Ab) (a1:List TRow):List TRow:=(Ji (a0,a1,(0:Int))).snd.fst
def XE (a0:List Ab) (a1:List TRow):Int:=bif(LL a0 a1) then CI a0 else bif DI (Ue a0 a1) (Uc a0 a1) (Ud a0 a1) then Hh (Ue a0 a1) (Uc a0 a1) (Ud a0 a1) else(0:Int)
def XF (a0:List Ab) (a1:List TRow):A:=.v (.int .i64 (XE a0 a1))
def Al4 (_a0:List Ab) (_a1:List TRow):Objs:=[]
def Ae5 (a0:List Ab) (a1:List TRow):List Prop:=[(∀(g:Ab),g∈a0→AC g.1.size),((!(LL a0 a1))=true→AE Gc Gb Iw (Hi (a0,a1,(0:Int))) (a0,a1,(0:Int)))]
set_option maxRecDepth 100000 in
theorem Axq (a0:List Ab) (a1:List TRow):Hx (Ay Co VY) 9 93 [.sl .group a0,Aq .rows a1] 0 []=some (1,XF a0 a1,0,Al4 a0 a1,[(∀(g:Ab),g∈a0→AC g.1.size),((!(LL a0 a1))=true→Ah Try.prog (93:FuncId) (0:Nat)=Ah Try.prog (93:FuncId) (0:Nat)),((!(LL a0 a1))=true→AE Gc Gb Iw (Hi (a0,a1,(0:Int))) (a0,a1,(0:Int)))]):=by kernel_rfl
set_option maxRecDepth 100000 in
theorem A01 (a0:List Ab) (a1:List TRow) (hp:∀p∈Ae5 a0 a1,p):CallOk Try.prog 93 [.sl .group a0,Aq .rows a1] 0 [] 1 (XF a0 a1) 0 (Al4 a0 a1):=by
 have n0:=N0 hp
 have n1:((!(LL a0 a1))=true→Ah Try.prog (93:FuncId) (0:Nat)=Ah Try.prog (93:FuncId) (0:Nat)):=by intros;rfl
 have n2:=N0 (N1 hp)
 exact AJ (Aw A60 Ahk) (Axq a0 a1) (Aa n0 (Aa n1 (Aa n2 Ad)))
def Ae6 (a0:List Ab) (a1:List TRow):A:=.v (.int .i64 (H4 a0 a1))
def Ae4 (_a0:List Ab) (_a1:List TRow):Objs:=[]
def Zt (a0:List Ab) (a1:List TRow):List Prop:=[AC a1.length,∀g∈a0,AC g.1.size]
theorem Bbk (a b:ByteArray):leS a b=!ltS b a:=by
 unfold leS
 cases h:ltS a b with
 |true=>
  cases g:ltS b a with
  |true=>exact absurd rfl (A8d (Apn h g))
  |false=>rfl
 | false=>
  rw[Bool.false_or]
  cases g:a==b with
  |true=>
   obtain rfl:=eq_of_beq g
   rw[h]
   rfl
  |false=>
   rw[Apm h (by simpa using g)]
   rfl
theorem Bbj {a:ByteArray} (h:a.size≠0):leS a ⟨#[]⟩=false:=by
 unfold leS
 rw[Bool.or_eq_false_iff]
 constructor
 ·show Op.bytesLess a.toList (ByteArray.mk #[]).toList=false
  rw[show(ByteArray.mk #[]).toList=[] by decide+kernel]
  cases a.toList<;>rfl
 ·refine beq_eq_false_iff_ne.2 fun e=>h ?_
  rw[e]
  rfl
theorem A3y (l:List Ab) (rows:List TRow) (i:Nat) (hi:i≤9223372036854775807):DI l rows (i:Int)=(decide (i <rows.length)&&SS l rows i !=0):=by
 have e:DI l rows (i:Int)=(decide (i <rows.length)&&(AF l (DQ rows i) !=0||(JQ (DQ rows i)||decide ((i:Int) >0)&&!ltS (DQ rows (IntKind.i64.wrap ((i:Int) - 1)).toNat).key (DQ rows i).key))):=by
  unfold DI A8 BC Ga
  rw[nn,PE,Int.toNat_natCast]
  rfl
 rw[e,Ah9]
 cases h:AF l (DQ rows i) !=0 with
 |true=>rfl
 | false=>
  have h0:AF l (DQ rows i)=0:=by simpa using h
  rw[Bool.false_or,Bool.false_or]
  cases i with
  |zero=>
   have h1:leS (DQ rows 0).key (Oi rows 0)=false:=Bbj (JA h0).2.2.1
   rw[h1]
   rfl
  |succ j=>
   have h1:(IntKind.i64.wrap (((j+1:Nat):Int) - 1)).toNat=j:=by rw[i64_in (by omega)];omega
   have h2:decide (((j+1:Nat):Int) >0)=true:=decide_eq_true (by omega)
   rw[h1,h2,Bbk,Bool.true_and]
   rfl
theorem Ae3 (l:List Ab) (rows:List TRow) (hb:AC rows.length) (hw:∀g∈l,AC g.1.size):(∀p∈Ae5 l rows,p)∧XE l rows=H4 l rows:=by
 unfold AC at hb
 obtain⟨h1,k,hk,hx,hs,hst,_⟩:=JJ (fun i=>((l,rows,(i:Int)):CZ)) rows.length (fun i=>SS l rows i !=0) Gc Gb Iw (Hi (l,rows,0)) (l,rows,0) rfl (by show rows.length≤((rows.length:Int) - 0).toNat;omega)
  (fun i hi _=>by
   show((!!decide ((i:Int) <(rows.length:Int)))&&!DI l rows (i:Int))=_
   rw[A3y l rows i (by omega),nn,PE]
   cases decide (i <rows.length)<;>rfl)
  (fun i hi _=>by
   show(l,rows,IntKind.i64.wrap ((i:Int)+1))=(l,rows,((i+1:Nat):Int))
   rw[FS (by omega)])
  (fun i hi _=>by
   have hin:(!!decide ((i:Int) <(rows.length:Int)))=true→(i:Int) <(rows.length:Int):=fun h=>by rw[nn] at h;exact of_decide_eq_true h
   refine Aa (fun h=>⟨by show(0:Int)≤(i:Int);omega,hin h⟩) (Aa (fun _=>hw) (Aa (fun h _=>⟨by show(0:Int)≤(i:Int);omega,hin h⟩) (Aa (fun _ h2=>?_) (Aa (fun h _ h3 _=>?_) (Aa (fun h _ _ _=>⟨by show(0:Int)≤(i:Int);omega,hin h⟩) Ad)))))
   ·have h3:AF l (rows.getD ((i:Int)).toNat (Ae TC.row))=0:=by
     have h4:(!(AF l (rows.getD ((i:Int)).toNat (Ae TC.row)) !=0))=true:=h2
     simpa using h4
    obtain⟨g1,g2,_⟩:=JA h3
    have:=(J4 g1).2
    show Aj (rows.getD ((i:Int)).toNat (Ae TC.row)).cells.length
    unfold Aj
    omega
   ·have h4:(i:Int) >0:=of_decide_eq_true h3
    have h5:=hin h
    show(0:Int)≤IntKind.i64.wrap ((i:Int) - 1)∧IntKind.i64.wrap ((i:Int) - 1) <(rows.length:Int)
    rw[i64_in (by omega)]
    omega)
 have hr:Ji (l,rows,0)=(l,rows,(k:Int)):=hx
 refine⟨Aa hw (Aa (fun _=>h1) Ad),?_⟩
 unfold XE H4
 show(bif CI l !=0 then CI l else _)=_
 congr 1
 unfold Ue Ud Uc
 rw[hr]
 show(bif DI l rows (k:Int) then Hh l rows (k:Int) else 0)=_
 have hk9:k≤9223372036854775807:=Nat.le_trans hk (by omega)
 rw[A3y l rows k hk9]
 have h0:FK l rows k=0:=(YD l rows k).2 fun i hi=>by simpa using hs i hi
 rcases Nat.lt_or_ge k rows.length with h|h
 ·have he:=hst h
  rw[decide_eq_true h,he]
  have e1:FK l rows (k+1)=SS l rows k:=by
   show(bif FK l rows k !=0 then FK l rows k else SS l rows k)=_
   rw[h0];rfl
  have hne:FK l rows (k+1)≠0:=by rw[e1];simpa using he
  rw[S4 hne rows.length h,e1]
  show Hh l rows (k:Int)=_
  unfold Hh BC
  rw[Int.toNat_natCast]
  rw[Ah9] at he
  unfold SS
  show(bif AF l (DQ rows k) !=0 then AF l (DQ rows k) else 100)=_
  cases hg:AF l (DQ rows k) !=0 with
  |true=>rfl
  |false=>
   rw[hg,Bool.false_or] at he
   rw[he]
   rfl
 ·obtain rfl:k=rows.length:=by omega
  rw[decide_eq_false (Nat.lt_irrefl _),h0]
  rfl
theorem Axp (a0:List Ab) (a1:List TRow) (hp:∀p∈Zt a0 a1,p):CallOk Try.prog 93 [.sl .group a0,Aq .rows a1] 0 [] 1 (Ae6 a0 a1) 0 (Ae4 a0 a1):=by
 have hb:AC a1.length:=hp _ (List.mem_cons_self ..)
 have hw:∀g∈a0,AC g.1.size:=hp _ (List.mem_cons_of_mem _ (List.mem_cons_self ..))
 have h:=A01 a0 a1 (Ae3 a0 a1 hb hw).1
 unfold XF at h
 rw[(Ae3 a0 a1 hb hw).2] at h
 exact h
def XG:List A→Nat→Objs→Option BP
 | [y0,y1],nx,o=>match QX .group y0,A3 .rows y1 with
  |some a0,some (a1,p1)=>some (1,(Ae6 a0 a1).pk (AH nx),nx+0,AG nx (Ae4 a0 a1)++o,p1++(Zt a0 a1))
  |_,_=>none
 |_,_,_=>none
theorem As4:HO Try.prog 93 XG:=fun args nx o k x nx' o' ps h=>by
 unfold XG at h
 split at h<;>first|(cases h;done)|skip
 split at h<;>first|(cases h;done)|skip
 rename_i a0 a1 p1 e0 e1
 cases h
 refine⟨fun hp=>?_,_,rfl⟩
 have q1:=fun p hm=>hp p (List.mem_append.2 (.inl hm))
 have r1:=fun p hm=>hp p (List.mem_append.2 (.inr hm))
 refine Ao (Ai (Axp a0 a1 r1) (Nat.le_refl _) (Af rfl (Af (Ag _ _) Au)) nx o) fun F N R vs hl=>?_
 obtain⟨v0,w0,rfl,h0,hl⟩:=hl.inv
 obtain⟨v1,w1,rfl,h1,hl⟩:=hl.inv
 exact HL.cons (GD e0 h0) (HL.cons (Ar e1 q1 h1) (hl))
noncomputable def A61:=B5 93 XG Co
theorem Aui:Gg Try.prog A61:=Ax As4 A60
def Ace (a0:Int) (a1:TVec) (a2:TCell):Bool:=K2 a0 a2&&!GX a0 a2&&!Wq a2 (TCell.mk (TStamp.mk (0:Int) (0:Int)) (TVec.mk (0:Int) (0:Int)) false (ByteArray.mk #[]) (TVec.mk (0:Int) (0:Int)))&&Ms a1 (JI a2)
def Acf (a0:Int) (a1:TVec) (a2:TCell):A:=.v (.bool (Ace a0 a1 a2))
def Ap1 (_a0:Int) (_a1:TVec) (_a2:TCell):Objs:=[]
def A05 (_a0:Int) (_a1:TVec) (_a2:TCell):List Prop:=[]
set_option maxRecDepth 100000 in
theorem A04 (a0:Int) (a1:TVec) (a2:TCell):Hx (Ay A61 L0) 9 51 [Aq .i64 a0,Aq .vec a1,Aq .cell a2] 0 []=some (1,Acf a0 a1 a2,0,Ap1 a0 a1 a2,[]):=by kernel_rfl
set_option maxRecDepth 100000 in
theorem A5c (a0:Int) (a1:TVec) (a2:TCell) (_hp:∀p∈A05 a0 a1 a2,p):CallOk Try.prog 51 [Aq .i64 a0,Aq .vec a1,Aq .cell a2] 0 [] 1 (Acf a0 a1 a2) 0 (Ap1 a0 a1 a2):=by
 exact AJ (Aw Aui AM) (A04 a0 a1 a2) Ad
def Al6 (a0:Int) (a1:TVec) (a2:TCell):A:=.v (.bool (C8 a0 a1 a2))
def Al5 (_a0:Int) (_a1:TVec) (_a2:TCell):Objs:=[]
def Ae7 (_a0:Int) (_a1:TVec) (_a2:TCell):List Prop:=[]
theorem A03 (p:Int) (st:TVec) (c:TCell):Ace p st c=C8 p st c:=by
 unfold Ace C8
 rw[TS,(Aef p c).2]
 show(EZ p c&&!NC p c&&!Wq c Dq&&Ana st (LT c))=_
 cases Wq c Dq<;>cases EZ p c<;>cases Ana st (LT c)<;>cases NC p c<;>rfl
theorem A02 (a0:Int) (a1:TVec) (a2:TCell) (_hp:∀p∈Ae7 a0 a1 a2,p):CallOk Try.prog 51 [Aq .i64 a0,Aq .vec a1,Aq .cell a2] 0 [] 1 (Al6 a0 a1 a2) 0 (Al5 a0 a1 a2):=by
 have h:=A5c a0 a1 a2 (fun _ h=>by cases h)
 unfold Acf at h
 rw[A03] at h
 exact h
def Acg:List A→Nat→Objs→Option BP
 | [y0,y1,y2],nx,o=>match A3 .i64 y0,A3 .vec y1,A3 .cell y2 with
  |some (a0,p0),some (a1,p1),some (a2,p2)=>some (1,(Al6 a0 a1 a2).pk (AH nx),nx+0,AG nx (Al5 a0 a1 a2)++o,p0++(p1++(p2++(Ae7 a0 a1 a2))))
  |_,_,_=>none
 |_,_,_=>none
theorem Axr:HO Try.prog 51 Acg:=fun args nx o k x nx' o' ps h=>by
 unfold Acg at h
 split at h<;>first|(cases h;done)|skip
 split at h<;>first|(cases h;done)|skip
 rename_i a0 p0 a1 p1 a2 p2 e0 e1 e2
 cases h
 refine⟨fun hp=>?_,_,rfl⟩
 have q0:=fun p hm=>hp p (List.mem_append.2 (.inl hm))
 have r0:=fun p hm=>hp p (List.mem_append.2 (.inr hm))
 have q1:=fun p hm=>r0 p (List.mem_append.2 (.inl hm))
 have r1:=fun p hm=>r0 p (List.mem_append.2 (.inr hm))
 have q2:=fun p hm=>r1 p (List.mem_append.2 (.inl hm))
 have r2:=fun p hm=>r1 p (List.mem_append.2 (.inr hm))
 refine Ao (Ai (A02 a0 a1 a2 r2) (Nat.le_refl _) (Af (Ag _ _) (Af (Ag _ _) (Af (Ag _ _) Au))) nx o) fun F N R vs hl=>?_
 obtain⟨v0,w0,rfl,h0,hl⟩:=hl.inv
 obtain⟨v1,w1,rfl,h1,hl⟩:=hl.inv
 obtain⟨v2,w2,rfl,h2,hl⟩:=hl.inv
 exact HL.cons (Ar e0 q0 h0) (HL.cons (Ar e1 q1 h1) (HL.cons (Ar e2 q2 h2) (hl)))
noncomputable def A62:=B5 51 Acg A61
theorem Auj:Gg Try.prog A62:=Ax Axr Aui
def Dw (a0:TRow):List TCell:=[]++a0.2
def Xn (a0:TRow):A:=.agg [.v (.string a0.1),.sq 0]
def Xm (a0:TRow):Objs:=[(0,some (.arr 55 8 (.ty .cell (Dw a0))))]
def Aen (a0:TRow):List Prop:=[(Aj ((0:Nat)+a0.2.length))]
set_option maxRecDepth 100000 in
theorem Axd (a0:TRow):Hx (Ay A62 L0) 9 46 [Aq .row a0] 0 []=some (1,Xn a0,1,Xm a0,[(Aj ((0:Nat)+a0.2.length))]):=by kernel_rfl
set_option maxRecDepth 100000 in
theorem A0q (a0:TRow) (hp:∀p∈Aen a0,p):CallOk Try.prog 46 [Aq .row a0] 0 [] 1 (Xn a0) 1 (Xm a0):=by
 have n0:=N0 hp
 exact AJ (Aw Auj AM) (Axd a0) (Aa n0 Ad)
def Xo:List A→Nat→Objs→Option BP
 | [y0],nx,o=>match A3 .row y0 with
  |some (a0,p0)=>some (1,(Xn a0).pk (AH nx),nx+1,AG nx (Xm a0)++o,p0++(Aen a0))
  |_=>none
 |_,_,_=>none
theorem Asv:HO Try.prog 46 Xo:=fun args nx o k x nx' o' ps h=>by
 unfold Xo at h
 split at h<;>first|(cases h;done)|skip
 split at h<;>first|(cases h;done)|skip
 rename_i a0 p0 e0
 cases h
 refine⟨fun hp=>?_,_,rfl⟩
 have q0:=fun p hm=>hp p (List.mem_append.2 (.inl hm))
 have r0:=fun p hm=>hp p (List.mem_append.2 (.inr hm))
 refine Ao (Ai (A0q a0 r0) (Nat.le_refl _) (Af (Ag _ _) Au) nx o) fun F N R vs hl=>?_
 obtain⟨v0,w0,rfl,h0,hl⟩:=hl.inv
 exact HL.cons (Ar e0 q0 h0) (hl)
noncomputable def Aih:=B5 46 Xo A62
theorem X4:Gg Try.prog Aih:=Ax Asv Auj
abbrev Cv:Type:=(List Ab)×Bool×Int×TVec×TVec×ByteArray×(List TCell)
def Kp (x:Cv):St:=⟨76,8,[(0,.sl .group x.1),(5,.own 0 0),(11,.own 2 0),(13,.own 6 0),(14,.v (.bool x.2.1)),(15,.v (.int .i64 x.2.2.1))],[(0,some (.box 31 [.v (.int .i64 x.2.2.2.1.a),.v (.int .i64 x.2.2.2.1.b)])),(2,some (.box 31 [.v (.int .i64 x.2.2.2.2.1.a),.v (.int .i64 x.2.2.2.2.1.b)])),(6,some (.box 71 [.v (.string x.2.2.2.2.2.1),.sq 7])),(7,some (.arr 55 8 (.ty .cell x.2.2.2.2.2.2)))]⟩
def L7:St→Option Cv
 |⟨76,8,[(0,.sl .group z0),(5,.own 0 0),(11,.own 2 0),(13,.own 6 0),(14,.v (.bool z1)),(15,.v (.int .i64 z2))],[(0,some (.box 31 [.v (.int .i64 z3),.v (.int .i64 z4)])),(2,some (.box 31 [.v (.int .i64 z5),.v (.int .i64 z6)])),(6,some (.box 71 [.v (.string z7),.sq 7])),(7,some (.arr 55 8 (.ty .cell z8)))]⟩=>some (z0,z1,z2,⟨z3,z4⟩,⟨z5,z6⟩,z7,z8)
 |_=>none
theorem Zv:∀s x,L7 s=some x→s=Kp x:=fun s x h=>by
 unfold L7 at h
 split at h
 ·cases h;rfl
 ·cases h
def Uj:DS:=⟨7,8,[0,5,11,13,14,15],[],[(0,0),(2,2),(6,6),(7,7)],[0,2,6,7],[13,14],[6,7,0,2]⟩
def Al8:Eh:=⟨[],[(0,0),(2,2),(6,6),(5,7)],[0,5,11,13,14,15],[0,2,6,5]⟩
def A1 (a0:List Ab) (_a1:Bool) (a2:Int) (_a3:TVec) (_a4:TVec) (_a5:ByteArray) (_a6:List TCell):Bool:=!!decide (a2 <(↑a0.length:Int))
def K7 (a0:List Ab) (a1:Bool) (a2:Int) (a3:TVec) (_a4:TVec) (_a5:ByteArray) (a6:List TCell):Bool:=bif C8 (a0.getD a2.toNat (Ae TC.group)).2 a3 (a6.getD a2.toNat (Ae TC.cell)) then true else a1
def K8 (a0:List Ab) (_a1:Bool) (a2:Int) (a3:TVec) (a4:TVec) (_a5:ByteArray) (a6:List TCell):TVec:=TVec.mk (bif C8 (a0.getD a2.toNat (Ae TC.group)).2 a3 (a6.getD a2.toNat (Ae TC.cell)) then(MB a4 (JI (a6.getD a2.toNat (Ae TC.cell)))).1 else a4.1) (bif C8 (a0.getD a2.toNat (Ae TC.group)).2 a3 (a6.getD a2.toNat (Ae TC.cell)) then(MB a4 (JI (a6.getD a2.toNat (Ae TC.cell)))).2 else a4.2)
def K9 (a0:List Ab) (_a1:Bool) (a2:Int) (a3:TVec) (_a4:TVec) (_a5:ByteArray) (a6:List TCell):List TCell:=bif C8 (a0.getD a2.toNat (Ae TC.group)).2 a3 (a6.getD a2.toNat (Ae TC.cell)) then a6.set a2.toNat (TCell.mk (TStamp.mk (0:Int) (0:Int)) (TVec.mk (0:Int) (0:Int)) false (ByteArray.mk #[]) (TVec.mk (0:Int) (0:Int))) else a6
def Dl (x:Cv):Cv:=(x.1,K7 x.1 x.2.1 x.2.2.1 x.2.2.2.1 x.2.2.2.2.1 x.2.2.2.2.2.1 x.2.2.2.2.2.2,IntKind.i64.wrap (x.2.2.1+(1:Int)),x.2.2.2.1,K8 x.1 x.2.1 x.2.2.1 x.2.2.2.1 x.2.2.2.2.1 x.2.2.2.2.2.1 x.2.2.2.2.2.2,x.2.2.2.2.2.1,K9 x.1 x.2.1 x.2.2.1 x.2.2.2.1 x.2.2.2.2.1 x.2.2.2.2.2.1 x.2.2.2.2.2.2)
def Dk (x:Cv):Cnd:=some ((A1 x.1 x.2.1 x.2.2.1 x.2.2.2.1 x.2.2.2.2.1 x.2.2.2.2.2.1 x.2.2.2.2.2.2))
def QJ (x:Cv):List Prop:=[((A1 x.1 x.2.1 x.2.2.1 x.2.2.2.1 x.2.2.2.2.1 x.2.2.2.2.2.1 x.2.2.2.2.2.2)=true→(0:Int)≤x.2.2.1∧x.2.2.1 <(↑x.1.length:Int)),((A1 x.1 x.2.1 x.2.2.1 x.2.2.2.1 x.2.2.2.2.1 x.2.2.2.2.2.1 x.2.2.2.2.2.2)=true→(0:Int)≤x.2.2.1∧x.2.2.1 <(↑x.2.2.2.2.2.2.length:Int)),((A1 x.1 x.2.1 x.2.2.1 x.2.2.2.1 x.2.2.2.2.1 x.2.2.2.2.2.1 x.2.2.2.2.2.2)=true→x.2.2.1.toNat <x.2.2.2.2.2.2.length),((A1 x.1 x.2.1 x.2.2.1 x.2.2.2.1 x.2.2.2.2.1 x.2.2.2.2.2.1 x.2.2.2.2.2.2)=true→C8 (x.1.getD x.2.2.1.toNat (Ae TC.group)).2 x.2.2.2.1 (x.2.2.2.2.2.2.getD x.2.2.1.toNat (Ae TC.cell))=true→(0:Int)≤x.2.2.1∧x.2.2.1 <(↑x.2.2.2.2.2.2.length:Int)),((A1 x.1 x.2.1 x.2.2.1 x.2.2.2.1 x.2.2.2.2.1 x.2.2.2.2.2.1 x.2.2.2.2.2.2)=true→C8 (x.1.getD x.2.2.1.toNat (Ae TC.group)).2 x.2.2.2.1 (x.2.2.2.2.2.2.getD x.2.2.1.toNat (Ae TC.cell))=true→x.2.2.1.toNat <x.2.2.2.2.2.2.length),((A1 x.1 x.2.1 x.2.2.1 x.2.2.2.1 x.2.2.2.2.1 x.2.2.2.2.2.1 x.2.2.2.2.2.2)=true→C8 (x.1.getD x.2.2.1.toNat (Ae TC.group)).2 x.2.2.2.1 (x.2.2.2.2.2.2.getD x.2.2.1.toNat (Ae TC.cell))=true→(0:Int)≤x.2.2.1∧x.2.2.1 <(↑x.2.2.2.2.2.2.length:Int)),((A1 x.1 x.2.1 x.2.2.1 x.2.2.2.1 x.2.2.2.2.1 x.2.2.2.2.2.1 x.2.2.2.2.2.2)=true→C8 (x.1.getD x.2.2.1.toNat (Ae TC.group)).2 x.2.2.2.1 (x.2.2.2.2.2.2.getD x.2.2.1.toNat (Ae TC.cell))=true→x.2.2.1.toNat <x.2.2.2.2.2.2.length)]
def FE (x:Cv):List Prop:=[((A1 x.1 x.2.1 x.2.2.1 x.2.2.2.1 x.2.2.2.2.1 x.2.2.2.2.2.1 x.2.2.2.2.2.2)=true→(0:Int)≤x.2.2.1∧x.2.2.1 <(↑x.1.length:Int)),((A1 x.1 x.2.1 x.2.2.1 x.2.2.2.1 x.2.2.2.2.1 x.2.2.2.2.2.1 x.2.2.2.2.2.2)=true→(0:Int)≤x.2.2.1∧x.2.2.1 <(↑x.2.2.2.2.2.2.length:Int)),((A1 x.1 x.2.1 x.2.2.1 x.2.2.2.1 x.2.2.2.2.1 x.2.2.2.2.2.1 x.2.2.2.2.2.2)=true→C8 (x.1.getD x.2.2.1.toNat (Ae TC.group)).2 x.2.2.2.1 (x.2.2.2.2.2.2.getD x.2.2.1.toNat (Ae TC.cell))=true→(0:Int)≤x.2.2.1∧x.2.2.1 <(↑x.2.2.2.2.2.2.length:Int))]
def OE (x:Cv):Bw:=[(some 2,some (!decide (x.2.2.1 <(↑x.1.length:Int))),⟨76,8,[(13,.own 6 0),(14,.v (.bool x.2.1))],[(6,some (.box 71 [.v (.string x.2.2.2.2.2.1),.sq 7])),(7,some (.arr 55 8 (.ty .cell x.2.2.2.2.2.2))),(0,some (.box 31 [.v (.int .i64 x.2.2.2.1.1),.v (.int .i64 x.2.2.2.1.2)])),(2,some (.box 31 [.v (.int .i64 x.2.2.2.2.1.1),.v (.int .i64 x.2.2.2.2.1.2)]))]⟩)]
def D6 (x:Cv):Nat:=((↑x.1.length:Int) - x.2.2.1).toNat
def EJ (x:Cv):Cv:=BA Dl Dk (D6 x) x
set_option maxRecDepth 100000 in
theorem Ahp (a0:List Ab) (a1:Bool) (a2:Int) (a3:TVec) (a4:TVec) (a5:ByteArray) (a6:List TCell):Ce (Ay Aih L0) 9 (Ah Try.prog 48 2) Uj (Kp (a0,a1,a2,a3,a4,a5,a6))=some (QJ (a0,a1,a2,a3,a4,a5,a6),OE (a0,a1,a2,a3,a4,a5,a6),Dk (a0,a1,a2,a3,a4,a5,a6),Kp (Dl (a0,a1,a2,a3,a4,a5,a6))):=by kernel_rfl
set_option maxRecDepth 100000 in
theorem Ahq (a0:List Ab) (a1:Bool) (a2:Int) (a3:TVec) (a4:TVec) (a5:ByteArray) (a6:List TCell) (hp:∀p∈FE (a0,a1,a2,a3,a4,a5,a6),p):∀p∈QJ (a0,a1,a2,a3,a4,a5,a6),p:=by
 have n0:=N0 hp
 have n1:((A1 a0 a1 a2 a3 a4 a5 a6)=true→(0:Int)≤a2∧a2 <(↑a6.length:Int)):=N0 (N1 hp)
 have n2:((A1 a0 a1 a2 a3 a4 a5 a6)=true→a2.toNat <a6.length):=by intro h0;have g:=n1 h0;omega
 have n3:((A1 a0 a1 a2 a3 a4 a5 a6)=true→C8 (a0.getD a2.toNat (Ae TC.group)).2 a3 (a6.getD a2.toNat (Ae TC.cell))=true→(0:Int)≤a2∧a2 <(↑a6.length:Int)):=N0 (N1 (N1 hp))
 have n4:((A1 a0 a1 a2 a3 a4 a5 a6)=true→C8 (a0.getD a2.toNat (Ae TC.group)).2 a3 (a6.getD a2.toNat (Ae TC.cell))=true→a2.toNat <a6.length):=by intro h0 h1;have g:=n3 h0 h1;omega
 exact(Aa n0 (Aa n1 (Aa n2 (Aa n3 (Aa n4 (Aa n3 (Aa n4 Ad)))))))
noncomputable def QK:=HZ (Ay Aih L0) (Ah Try.prog 48 2) Uj Al8 L7 D6 Dl Dk FE OE
theorem Acj:∀s b ps outs,QK s=some (b,ps,outs)→Wf s ⟨ps,outs,none⟩∧BY (Ay C0 L0) b s ps outs:=
 BL (T:=Kp) X4 AM (u:=9) (by kernel_rfl) (by decide) (fun⟨a0,a1,a2,a3,a4,a5,a6⟩=>Ahp a0 a1 a2 a3 a4 a5 a6) (fun⟨a0,a1,a2,a3,a4,a5,a6⟩=>Ahq a0 a1 a2 a3 a4 a5 a6) Zv (fun _=>AV (n:=76) rfl) fun _ _=>rfl
noncomputable def Ko:=EO 2 QK L0
theorem QI:Ht Ko:=Bf Acj AM
abbrev Cu:Type:=(List Ab)×(List TRow)×Int×TVec×TVec×(List TRow)
def Kn (x:Cu):St:=⟨76,5,[(0,.sl .group x.1),(1,.sl .row x.2.1),(5,.own 0 0),(10,.dq 4),(11,.own 2 0),(12,.v (.int .i64 x.2.2.1))],[(0,some (.box 31 [.v (.int .i64 x.2.2.2.1.a),.v (.int .i64 x.2.2.2.1.b)])),(2,some (.box 31 [.v (.int .i64 x.2.2.2.2.1.a),.v (.int .i64 x.2.2.2.2.1.b)])),(4,some (.deep 71 .row x.2.2.2.2.2))]⟩
def L6:St→Option Cu
 |⟨76,5,[(0,.sl .group z0),(1,.sl .row z1),(5,.own 0 0),(10,.dq 4),(11,.own 2 0),(12,.v (.int .i64 z2))],[(0,some (.box 31 [.v (.int .i64 z3),.v (.int .i64 z4)])),(2,some (.box 31 [.v (.int .i64 z5),.v (.int .i64 z6)])),(4,some (.deep 71 .row z7))]⟩=>some (z0,z1,z2,⟨z3,z4⟩,⟨z5,z6⟩,z7)
 |_=>none
theorem Zu:∀s x,L6 s=some x→s=Kn x:=fun s x h=>by
 unfold L6 at h
 split at h
 ·cases h;rfl
 ·cases h
def Ui:DS:=⟨4,5,[0,1,5,10,11,12],[],[(0,0),(2,2),(10,4)],[0,2,10],[10],[4,0,2]⟩
def Al7:Eh:=⟨[.nilD 10 71 .row],[(0,0),(2,2),(3,4)],[0,1,5,10,11,12],[0,2,3]⟩
def BH (_a0:List Ab) (a1:List TRow) (a2:Int) (_a3:TVec) (_a4:TVec) (_a5:List TRow):Bool:=!!decide (a2 <(↑a1.length:Int))
def H7 (a0:List Ab) (a1:List TRow) (a2:Int) (a3:TVec) (a4:TVec) (_a5:List TRow):Bool:=(EJ (a0,false,(0:Int),a3,a4,(a1.getD a2.toNat (Ae TC.row)).1,Dw (a1.getD a2.toNat (Ae TC.row)))).snd.fst
def K4 (a0:List Ab) (a1:List TRow) (a2:Int) (a3:TVec) (a4:TVec) (_a5:List TRow):TVec:=(EJ (a0,false,(0:Int),a3,a4,(a1.getD a2.toNat (Ae TC.row)).1,Dw (a1.getD a2.toNat (Ae TC.row)))).snd.snd.snd.fst
def K5 (a0:List Ab) (a1:List TRow) (a2:Int) (a3:TVec) (a4:TVec) (_a5:List TRow):TVec:=(EJ (a0,false,(0:Int),a3,a4,(a1.getD a2.toNat (Ae TC.row)).1,Dw (a1.getD a2.toNat (Ae TC.row)))).snd.snd.snd.snd.fst
def K6 (a0:List Ab) (a1:List TRow) (a2:Int) (a3:TVec) (a4:TVec) (a5:List TRow):List TRow:=bif(H7 a0 a1 a2 a3 a4 a5) then a5++[Vn TC.row TC.cell (TRow.mk (EJ (a0,false,(0:Int),a3,a4,(a1.getD a2.toNat (Ae TC.row)).1,Dw (a1.getD a2.toNat (Ae TC.row)))).snd.snd.snd.snd.snd.fst []) (EJ (a0,false,(0:Int),a3,a4,(a1.getD a2.toNat (Ae TC.row)).1,Dw (a1.getD a2.toNat (Ae TC.row)))).snd.snd.snd.snd.snd.snd] else a5
def D5 (x:Cu):Cu:=(x.1,x.2.1,IntKind.i64.wrap (x.2.2.1+(1:Int)),K4 x.1 x.2.1 x.2.2.1 x.2.2.2.1 x.2.2.2.2.1 x.2.2.2.2.2,K5 x.1 x.2.1 x.2.2.1 x.2.2.2.1 x.2.2.2.2.1 x.2.2.2.2.2,K6 x.1 x.2.1 x.2.2.1 x.2.2.2.1 x.2.2.2.2.1 x.2.2.2.2.2)
def D4 (x:Cu):Cnd:=some ((BH x.1 x.2.1 x.2.2.1 x.2.2.2.1 x.2.2.2.2.1 x.2.2.2.2.2))
def QG (x:Cu):List Prop:=[((BH x.1 x.2.1 x.2.2.1 x.2.2.2.1 x.2.2.2.2.1 x.2.2.2.2.2)=true→(0:Int)≤x.2.2.1∧x.2.2.1 <(↑x.2.1.length:Int)),((BH x.1 x.2.1 x.2.2.1 x.2.2.2.1 x.2.2.2.2.1 x.2.2.2.2.2)=true→Aj ((0:Nat)+(x.2.1.getD x.2.2.1.toNat (Ae TC.row)).2.length)),((BH x.1 x.2.1 x.2.2.1 x.2.2.2.1 x.2.2.2.2.1 x.2.2.2.2.2)=true→Ah Try.prog (48:FuncId) (2:Nat)=Ah Try.prog (48:FuncId) (2:Nat)),((BH x.1 x.2.1 x.2.2.1 x.2.2.2.1 x.2.2.2.2.1 x.2.2.2.2.2)=true→AE Dl Dk FE (D6 (x.1,false,(0:Int),x.2.2.2.1,x.2.2.2.2.1,(x.2.1.getD x.2.2.1.toNat (Ae TC.row)).1,Dw (x.2.1.getD x.2.2.1.toNat (Ae TC.row)))) (x.1,false,(0:Int),x.2.2.2.1,x.2.2.2.2.1,(x.2.1.getD x.2.2.1.toNat (Ae TC.row)).1,Dw (x.2.1.getD x.2.2.1.toNat (Ae TC.row)))),((BH x.1 x.2.1 x.2.2.1 x.2.2.2.1 x.2.2.2.2.1 x.2.2.2.2.2)=true→(H7 x.1 x.2.1 x.2.2.1 x.2.2.2.1 x.2.2.2.2.1 x.2.2.2.2.2)=true→Aj (x.2.2.2.2.2.length+(1:Nat)))]
def GC (x:Cu):List Prop:=[((BH x.1 x.2.1 x.2.2.1 x.2.2.2.1 x.2.2.2.2.1 x.2.2.2.2.2)=true→(0:Int)≤x.2.2.1∧x.2.2.1 <(↑x.2.1.length:Int)),((BH x.1 x.2.1 x.2.2.1 x.2.2.2.1 x.2.2.2.2.1 x.2.2.2.2.2)=true→Aj ((0:Nat)+(x.2.1.getD x.2.2.1.toNat (Ae TC.row)).2.length)),((BH x.1 x.2.1 x.2.2.1 x.2.2.2.1 x.2.2.2.2.1 x.2.2.2.2.2)=true→AE Dl Dk FE (D6 (x.1,false,(0:Int),x.2.2.2.1,x.2.2.2.2.1,(x.2.1.getD x.2.2.1.toNat (Ae TC.row)).1,Dw (x.2.1.getD x.2.2.1.toNat (Ae TC.row)))) (x.1,false,(0:Int),x.2.2.2.1,x.2.2.2.2.1,(x.2.1.getD x.2.2.1.toNat (Ae TC.row)).1,Dw (x.2.1.getD x.2.2.1.toNat (Ae TC.row)))),((BH x.1 x.2.1 x.2.2.1 x.2.2.2.1 x.2.2.2.2.1 x.2.2.2.2.2)=true→(H7 x.1 x.2.1 x.2.2.1 x.2.2.2.1 x.2.2.2.2.1 x.2.2.2.2.2)=true→Aj (x.2.2.2.2.2.length+(1:Nat)))]
def OD (x:Cu):Bw:=[(some 0,some (!decide (x.2.2.1 <(↑x.2.1.length:Int))),⟨76,5,[(10,.dq 4)],[(4,some (.deep 71 .row x.2.2.2.2.2)),(0,some (.box 31 [.v (.int .i64 x.2.2.2.1.1),.v (.int .i64 x.2.2.2.1.2)])),(2,some (.box 31 [.v (.int .i64 x.2.2.2.2.1.1),.v (.int .i64 x.2.2.2.2.1.2)]))]⟩)]
def Fj (x:Cu):Nat:=((↑x.2.1.length:Int) - x.2.2.1).toNat
def IJ (x:Cu):Cu:=BA D5 D4 (Fj x) x
set_option maxRecDepth 100000 in
theorem Ahn (a0:List Ab) (a1:List TRow) (a2:Int) (a3:TVec) (a4:TVec) (a5:List TRow):Ce (Ay Aih Ko) 9 (Ah Try.prog 48 0) Ui (Kn (a0,a1,a2,a3,a4,a5))=some (QG (a0,a1,a2,a3,a4,a5),OD (a0,a1,a2,a3,a4,a5),D4 (a0,a1,a2,a3,a4,a5),Kn (D5 (a0,a1,a2,a3,a4,a5))):=by kernel_rfl
set_option maxRecDepth 100000 in
theorem Aho (a0:List Ab) (a1:List TRow) (a2:Int) (a3:TVec) (a4:TVec) (a5:List TRow) (hp:∀p∈GC (a0,a1,a2,a3,a4,a5),p):∀p∈QG (a0,a1,a2,a3,a4,a5),p:=by
 have n0:=N0 hp
 have n1:=N0 (N1 hp)
 have n2:((BH a0 a1 a2 a3 a4 a5)=true→Ah Try.prog (48:FuncId) (2:Nat)=Ah Try.prog (48:FuncId) (2:Nat)):=by intros;rfl
 have n3:=N0 (N1 (N1 hp))
 have n4:=N0 (N1 (N1 (N1 hp)))
 exact(Aa n0 (Aa n1 (Aa n2 (Aa n3 (Aa n4 Ad)))))
noncomputable def QH:=HZ (Ay Aih Ko) (Ah Try.prog 48 0) Ui Al7 L6 Fj D5 D4 GC OD
theorem Aci:∀s b ps outs,QH s=some (b,ps,outs)→Wf s ⟨ps,outs,none⟩∧BY (Ay C0 L0) b s ps outs:=
 BL (T:=Kn) X4 QI (u:=9) (by kernel_rfl) (by decide) (fun⟨a0,a1,a2,a3,a4,a5⟩=>Ahn a0 a1 a2 a3 a4 a5) (fun⟨a0,a1,a2,a3,a4,a5⟩=>Aho a0 a1 a2 a3 a4 a5) Zu (fun _=>AV (n:=76) rfl) fun _ _=>rfl
noncomputable def Uh:=EO 0 QH Ko
theorem Ach:Ht Uh:=Bf Aci QI
def FL (a0:List Ab) (a1:List TRow) (_a2:TVec):Bool:=H4 a0 a1 !=(0:Int)
def OC (a0:List Ab) (a1:List TRow) (a2:TVec):TVec:=TVec.mk (bif(FL a0 a1 a2) then(0:Int) else bif !Ep a2 then(0:Int) else(IJ (a0,a1,(0:Int),a2,TVec.mk (0:Int) (0:Int),[])).snd.snd.snd.snd.fst.1) (bif(FL a0 a1 a2) then(0:Int) else bif !Ep a2 then(0:Int) else(IJ (a0,a1,(0:Int),a2,TVec.mk (0:Int) (0:Int),[])).snd.snd.snd.snd.fst.2)
def Uf (a0:List Ab) (a1:List TRow) (a2:TVec):Int:=bif(FL a0 a1 a2) then H4 a0 a1 else bif !Ep a2 then(2:Int) else(0:Int)
def Ug (a0:List Ab) (a1:List TRow) (a2:TVec):List TRow:=bif(FL a0 a1 a2) then[] else bif !Ep a2 then[] else(IJ (a0,a1,(0:Int),a2,TVec.mk (0:Int) (0:Int),[])).snd.snd.snd.snd.snd
def Ul (a0:List Ab) (a1:List TRow) (a2:TVec):A:=.tup [.dq 0,.v (.agg ⟨[.int .i64 ((OC a0 a1 a2).a),.int .i64 ((OC a0 a1 a2).b)]⟩),.v (.int .i64 (Uf a0 a1 a2))]
def Uk (a0:List Ab) (a1:List TRow) (a2:TVec):Objs:=[(0,some (.deep 71 .row (Ug a0 a1 a2)))]
def As7 (a0:List Ab) (a1:List TRow) (a2:TVec):List Prop:=[(AC a1.length),(∀(g:Ab),g∈a0→AC g.1.size),((!(FL a0 a1 a2))=true→(!!Ep a2)=true→AE D5 D4 GC (Fj (a0,a1,(0:Int),a2,TVec.mk (0:Int) (0:Int),[])) (a0,a1,(0:Int),a2,TVec.mk (0:Int) (0:Int),[]))]
set_option maxRecDepth 100000 in
theorem As6 (a0:List Ab) (a1:List TRow) (a2:TVec):Hx (Ay Aih Uh) 9 48 [.sl .group a0,Aq .rows a1,Aq .vec a2] 0 []=some (1,Ul a0 a1 a2,1,Uk a0 a1 a2,[(AC a1.length),(∀(g:Ab),g∈a0→AC g.1.size),((!(FL a0 a1 a2))=true→(!!Ep a2)=true→Ah Try.prog (48:FuncId) (0:Nat)=Ah Try.prog (48:FuncId) (0:Nat)),((!(FL a0 a1 a2))=true→(!!Ep a2)=true→AE D5 D4 GC (Fj (a0,a1,(0:Int),a2,TVec.mk (0:Int) (0:Int),[])) (a0,a1,(0:Int),a2,TVec.mk (0:Int) (0:Int),[]))]):=by kernel_rfl
set_option maxRecDepth 100000 in
theorem Axs (a0:List Ab) (a1:List TRow) (a2:TVec) (hp:∀p∈As7 a0 a1 a2,p):CallOk Try.prog 48 [.sl .group a0,Aq .rows a1,Aq .vec a2] 0 [] 1 (Ul a0 a1 a2) 1 (Uk a0 a1 a2):=by
 have n0:=N0 hp
 have n1:=N0 (N1 hp)
 have n2:((!(FL a0 a1 a2))=true→(!!Ep a2)=true→Ah Try.prog (48:FuncId) (0:Nat)=Ah Try.prog (48:FuncId) (0:Nat)):=by intros;rfl
 have n3:=N0 (N1 (N1 hp))
 exact AJ (Aw X4 Ach) (As6 a0 a1 a2) (Aa n0 (Aa n1 (Aa n2 (Aa n3 Ad))))
def Zx (a0:List Ab) (a1:List TRow) (a2:TVec):A:=.tup [.dq 0,.v (.agg ⟨[.int .i64 (L9 a0 a1 a2).a,.int .i64 (L9 a0 a1 a2).b]⟩),.v (.int .i64 (HA a0 a1 a2))]
def Zw (a0:List Ab) (a1:List TRow) (a2:TVec):Objs:=[(0,some (.deep 71 .row (Ma a0 a1 a2)))]
def V0 (a0:List Ab) (a1:List TRow) (_a2:TVec):List Prop:=[Aj (a1.length+1),∀g∈a0,AC g.1.size]
theorem A1j (l:List Ab) (st low:TVec) (key:ByteArray) (cs:List TCell) (hl:cs.length=l.length) (h4:l.length≤4):
  AE Dl Dk FE (D6 (l,false,0,st,low,key,cs)) (l,false,0,st,low,key,cs)∧
  EJ (l,false,0,st,low,key,cs)=(l,!(JN l st cs l.length==0),(l.length:Int),st,O3 l st cs low l.length,key,Sr l st cs l.length):=by
 have hat:∀i,i <l.length→C8 (l.getD ((i:Int)).toNat (Ae TC.group)).2 st ((Sr l st cs i).getD ((i:Int)).toNat (Ae TC.cell))=mN l st cs i∧(Sr l st cs i).getD ((i:Int)).toNat (Ae TC.cell)=SK cs i:=fun i hi=>by
  have h1:=A1k l st cs i (by omega) i
  rw[decide_eq_false (Nat.lt_irrefl _),Bool.false_and,cond_false] at h1
  have h2:(Sr l st cs i).getD ((i:Int)).toNat (Ae TC.cell)=SK cs i:=by rw[Int.toNat_natCast];exact h1
  rw[h2,Int.toNat_natCast]
  exact⟨rfl,rfl⟩
 obtain⟨h1,k,hk,hx,_,hst,_⟩:=JJ (fun i=>((l,!(JN l st cs i==0),(i:Int),st,O3 l st cs low i,key,Sr l st cs i):Cv)) l.length (fun _=>false) Dl Dk FE (D6 (l,false,0,st,low,key,cs)) (l,false,0,st,low,key,cs) rfl (by show l.length≤((l.length:Int) - 0).toNat;omega)
  (fun i _ _=>by
   show(!!decide ((i:Int) <(l.length:Int)))=_
   rw[nn,PE,Bool.not_false,Bool.and_true])
  (fun i hi _=>by
   obtain⟨q1,q2⟩:=hat i hi
   show(l,K7 l (!(JN l st cs i==0)) (i:Int) st (O3 l st cs low i) key (Sr l st cs i),IntKind.i64.wrap ((i:Int)+1),st,K8 l (!(JN l st cs i==0)) (i:Int) st (O3 l st cs low i) key (Sr l st cs i),key,K9 l (!(JN l st cs i==0)) (i:Int) st (O3 l st cs low i) key (Sr l st cs i))=(l,!(JN l st cs (i+1)==0),((i+1:Nat):Int),st,O3 l st cs low (i+1),key,Sr l st cs (i+1))
   rw[FS (by omega)]
   unfold K7 K8 K9
   rw[q1,q2,Int.toNat_natCast]
   show _=(l,!((bif mN l st cs i then JN l st cs i+1 else JN l st cs i)==0),((i+1:Nat):Int),st,(bif mN l st cs i then Aym (O3 l st cs low i) (LT (SK cs i)) else O3 l st cs low i),key,(bif mN l st cs i then(Sr l st cs i).set i Dq else Sr l st cs i))
   cases mN l st cs i<;>rfl)
  (fun i hi _=>by
   have hin:(!!decide ((i:Int) <(l.length:Int)))=true→(i:Int) <(l.length:Int):=fun h=>by rw[nn] at h;exact of_decide_eq_true h
   have hlen:=ZN l st cs i
   exact Aa (fun h=>⟨by show(0:Int)≤(i:Int);omega,hin h⟩) (Aa (fun h=>⟨by show(0:Int)≤(i:Int);omega,by have:=hin h;show(i:Int) <((Sr l st cs i).length:Int);omega⟩) (Aa (fun h _=>⟨by show(0:Int)≤(i:Int);omega,by have:=hin h;show(i:Int) <((Sr l st cs i).length:Int);omega⟩) Ad)))
 have hkn:k=l.length:=by
  rcases Nat.lt_or_ge k l.length with h|h
  ·exact absurd (hst h) (by decide)
  ·omega
 subst hkn
 exact⟨h1,hx⟩
theorem Amw (l:List Ab) (st:TVec) (rows:List TRow) (h0:H4 l rows=0) (hb:Aj (rows.length+1)):
  AE D5 D4 GC (Fj (l,rows,0,st,⟨0,0⟩,[])) (l,rows,0,st,⟨0,0⟩,[])∧
  IJ (l,rows,0,st,⟨0,0⟩,[])=(l,rows,(rows.length:Int),st,JO l st rows rows.length,LZ l st rows rows.length):=by
 unfold Aj at hb
 obtain⟨hp,hg⟩:=A3c.1 h0
 have h4:=(J4 hp).2
 have hlen:∀i,i <rows.length→(DQ rows i).cells.length=l.length:=fun i hi=>(JA (A7o.1 (hg i hi)).1).2.1
 have hin0:∀i:Nat,i <rows.length→_:=fun i hi=>A1j l st (JO l st rows i) (DQ rows i).key (DQ rows i).cells (hlen i hi) h4
 obtain⟨h1,k,hk,hx,_,hst,_⟩:=JJ (fun i=>((l,rows,(i:Int),st,JO l st rows i,LZ l st rows i):Cu)) rows.length (fun _=>false) D5 D4 GC (Fj (l,rows,0,st,⟨0,0⟩,[])) (l,rows,0,st,⟨0,0⟩,[]) rfl (by show rows.length≤((rows.length:Int) - 0).toNat;omega)
  (fun i _ _=>by
   show(!!decide ((i:Int) <(rows.length:Int)))=_
   rw[nn,PE,Bool.not_false,Bool.and_true])
  (fun i hi _=>by
   have q':EJ (l,false,(0:Int),st,JO l st rows i,(rows.getD ((i:Int)).toNat (Ae TC.row)).1,Dw (rows.getD ((i:Int)).toNat (Ae TC.row)))=(l,!(JN l st (DQ rows i).cells l.length==0),(l.length:Int),st,O3 l st (DQ rows i).cells (JO l st rows i) l.length,(DQ rows i).key,Sr l st (DQ rows i).cells l.length):=by rw[Int.toNat_natCast];exact(hin0 i hi).2
   show(l,rows,IntKind.i64.wrap ((i:Int)+1),K4 l rows (i:Int) st (JO l st rows i) (LZ l st rows i),K5 l rows (i:Int) st (JO l st rows i) (LZ l st rows i),K6 l rows (i:Int) st (JO l st rows i) (LZ l st rows i))=(l,rows,((i+1:Nat):Int),st,JO l st rows (i+1),LZ l st rows (i+1))
   rw[FS (by omega)]
   unfold K4 K5 K6 H7
   rw[q']
   rfl)
  (fun i hi _=>by
   have hin:(!!decide ((i:Int) <(rows.length:Int)))=true→i <rows.length:=fun h=>by rw[nn] at h;have:=of_decide_eq_true h;omega
   refine Aa (fun h=>⟨by show(0:Int)≤(i:Int);omega,by have:=hin h;show(i:Int) <(rows.length:Int);omega⟩) (Aa (fun h=>?_) (Aa (fun h=>?_) (Aa (fun h _=>?_) Ad)))
   ·have h9:=hlen i (hin h)
    have h8:(rows.getD ((i:Int)).toNat (Ae TC.row)).2.length=l.length:=by rw[Int.toNat_natCast];exact h9
    show Aj (0+(rows.getD ((i:Int)).toNat (Ae TC.row)).2.length)
    unfold Aj
    omega
   ·have q:=(hin0 i (hin h)).1
    have e:((i:Int)).toNat=i:=Int.toNat_natCast i
    show AE Dl Dk FE (D6 (l,false,(0:Int),st,JO l st rows i,(rows.getD ((i:Int)).toNat (Ae TC.row)).1,Dw (rows.getD ((i:Int)).toNat (Ae TC.row)))) (l,false,(0:Int),st,JO l st rows i,(rows.getD ((i:Int)).toNat (Ae TC.row)).1,Dw (rows.getD ((i:Int)).toNat (Ae TC.row)))
    rw[e]
    exact q
   ·have:=Asb l st rows i (by have:=hin h;omega)
    have:=hin h
    show Aj ((LZ l st rows i).length+1)
    unfold Aj
    omega)
 have hkn:k=rows.length:=by
  rcases Nat.lt_or_ge k rows.length with h|h
  ·exact absurd (hst h) (by decide)
  ·omega
 subst hkn
 exact⟨h1,hx⟩
theorem As5 (a0:List Ab) (a1:List TRow) (a2:TVec) (hp:∀p∈V0 a0 a1 a2,p):CallOk Try.prog 48 [.sl .group a0,Aq .rows a1,Aq .vec a2] 0 [] 1 (Zx a0 a1 a2) 1 (Zw a0 a1 a2):=by
 have hb:Aj (a1.length+1):=hp _ (List.mem_cons_self ..)
 have hw:∀g∈a0,AC g.1.size:=hp _ (List.mem_cons_of_mem _ (List.mem_cons_self ..))
 have hb':=hb
 unfold Aj at hb'
 have h:=Axs a0 a1 a2 (Aa (by unfold AC;omega) (Aa hw (Aa (fun h1 _=>by
  have h2:(!(H4 a0 a1 !=0))=true:=h1
  exact(Amw a0 a2 a1 (by simpa using h2) hb).1) Ad)))
 have e:OC a0 a1 a2=L9 a0 a1 a2∧Uf a0 a1 a2=HA a0 a1 a2∧Ug a0 a1 a2=Ma a0 a1 a2:=by
  unfold OC Uf Ug FL L9 Ma
  rw[TP]
  cases hg:H4 a0 a1 !=0 with
  |true=>
   have he:HA a0 a1 a2=H4 a0 a1:=by unfold HA;rw[hg];rfl
   have hz:(HA a0 a1 a2==0)=false:=by rw[he];simpa using hg
   rw[hz,he]
   exact⟨rfl,rfl,rfl⟩
  |false=>
   have h0:H4 a0 a1=0:=by simpa using hg
   have he:HA a0 a1 a2=bif GY a2 then 0 else 2:=by unfold HA;rw[hg];rfl
   rw[he,(Amw a0 a2 a1 h0 hb).2]
   cases GY a2<;>exact⟨rfl,rfl,rfl⟩
 unfold Ul Uk at h
 rw[e.1,e.2.1,e.2.2] at h
 exact h
def Um:List A→Nat→Objs→Option BP
 | [y0,y1,y2],nx,o=>match QX .group y0,A3 .rows y1,A3 .vec y2 with
  |some a0,some (a1,p1),some (a2,p2)=>some (1,(Zx a0 a1 a2).pk (AH nx),nx+1,AG nx (Zw a0 a1 a2)++o,p1++(p2++(V0 a0 a1 a2)))
  |_,_,_=>none
 |_,_,_=>none
theorem Aoc:HO Try.prog 48 Um:=fun args nx o k x nx' o' ps h=>by
 unfold Um at h
 split at h<;>first|(cases h;done)|skip
 split at h<;>first|(cases h;done)|skip
 rename_i a0 a1 p1 a2 p2 e0 e1 e2
 cases h
 refine⟨fun hp=>?_,_,rfl⟩
 have q1:=fun p hm=>hp p (List.mem_append.2 (.inl hm))
 have r1:=fun p hm=>hp p (List.mem_append.2 (.inr hm))
 have q2:=fun p hm=>r1 p (List.mem_append.2 (.inl hm))
 have r2:=fun p hm=>r1 p (List.mem_append.2 (.inr hm))
 refine Ao (Ai (As5 a0 a1 a2 r2) (Nat.le_refl _) (Af rfl (Af (Ag _ _) (Af (Ag _ _) Au))) nx o) fun F N R vs hl=>?_
 obtain⟨v0,w0,rfl,h0,hl⟩:=hl.inv
 obtain⟨v1,w1,rfl,h1,hl⟩:=hl.inv
 obtain⟨v2,w2,rfl,h2,hl⟩:=hl.inv
 exact HL.cons (GD e0 h0) (HL.cons (Ar e1 q1 h1) (HL.cons (Ar e2 q2 h2) (hl)))
noncomputable def Bc3:=B5 48 Um Aih
theorem A63:Gg Try.prog Bc3:=Ax Aoc X4
noncomputable def Csw:=Bc3
theorem Ayq:Gg Try.prog Csw:=A63
end Go.Proofs.Yteebobbhhgmeiaa
namespace Go.Proofs.Yteebobbhhgmeiaa
open Go.RowKit
abbrev C5:Type:=(List TRow)×(List TRow)×Int
def Mt (x:C5):St:=⟨27,0,[(0,.sl .row x.1),(1,.sl .row x.2.1),(5,.v (.int .i64 x.2.2))],[]⟩
def Po:St→Option C5
 |⟨27,0,[(0,.sl .row z0),(1,.sl .row z1),(5,.v (.int .i64 z2))],[]⟩=>some (z0,z1,z2)
 |_=>none
theorem Agy:∀s x,Po s=some x→s=Mt x:=fun s x h=>by
 unfold Po at h
 split at h
 ·cases h;rfl
 ·cases h
def Ze:DS:=⟨0,0,[0,1,5],[],[],[],[4],[]⟩
def Ast:Eh:=⟨[],[],[0,1,5],[]⟩
def Dt (a0:List TRow) (_a1:List TRow) (a2:Int):Bool:=!!decide (a2 <(↑a0.length:Int))
def Ds (a0:List TRow) (a1:List TRow) (a2:Int):Bool:=(Dt a0 a1 a2)&&!Anb (a0.getD a2.toNat (Ae TC.row)) (a1.getD a2.toNat (Ae TC.row))
def Alf (a0:List TRow) (a1:List TRow) (a2:Int):Bool:=(Dt a0 a1 a2)&&!(Ds a0 a1 a2)
def FC (x:C5):C5:=(x.1,x.2.1,IntKind.i64.wrap (x.2.2+(1:Int)))
def FA (x:C5):Cnd:=some (Alf x.1 x.2.1 x.2.2)
def TY (x:C5):List Prop:=[((Dt x.1 x.2.1 x.2.2)=true→(0:Int)≤x.2.2∧x.2.2 <(↑x.1.length:Int)),((Dt x.1 x.2.1 x.2.2)=true→(0:Int)≤x.2.2∧x.2.2 <(↑x.2.1.length:Int)),((Dt x.1 x.2.1 x.2.2)=true→Aj (x.1.getD x.2.2.toNat (Ae TC.row)).2.length)]
def HN (x:C5):List Prop:=[((Dt x.1 x.2.1 x.2.2)=true→(0:Int)≤x.2.2∧x.2.2 <(↑x.1.length:Int)),((Dt x.1 x.2.1 x.2.2)=true→(0:Int)≤x.2.2∧x.2.2 <(↑x.2.1.length:Int)),((Dt x.1 x.2.1 x.2.2)=true→Aj (x.1.getD x.2.2.toNat (Ae TC.row)).2.length)]
def R6 (x:C5):Bw:=[(some 0,some (!decide (x.2.2 <(↑x.1.length:Int))),⟨27,0,[(4,.dead)],[]⟩),(none,some ((Ds x.1 x.2.1 x.2.2)),⟨27,0,[(4,.v (.bool (false)))],[]⟩)]
def GB (x:C5):Nat:=((↑x.1.length:Int) - x.2.2).toNat
def EW (x:C5):C5:=BA FC FA (GB x) x
set_option maxRecDepth 100000 in
theorem An3 (a0:List TRow) (a1:List TRow) (a2:Int):Ce (Ay Csw L0) 9 (Ah Try.prog 49 0) Ze (Mt (a0,a1,a2))=some (TY (a0,a1,a2),R6 (a0,a1,a2),FA (a0,a1,a2),Mt (FC (a0,a1,a2))):=by kernel_rfl
set_option maxRecDepth 100000 in
theorem An4 (a0:List TRow) (a1:List TRow) (a2:Int) (hp:∀p∈HN (a0,a1,a2),p):∀p∈TY (a0,a1,a2),p:=by
 have n0:=N0 hp
 have n1:=N0 (N1 hp)
 have n2:=N0 (N1 (N1 hp))
 exact(Aa n0 (Aa n1 (Aa n2 Ad)))
noncomputable def TZ:=HZ (Ay Csw L0) (Ah Try.prog 49 0) Ze Ast Po GB FC FA HN R6
theorem Alg:∀s b ps outs,TZ s=some (b,ps,outs)→Wf s ⟨ps,outs,none⟩∧BY (Ay C0 L0) b s ps outs:=
 BL (T:=Mt) Ayq AM (u:=9) (by kernel_rfl) (by decide) (fun⟨a0,a1,a2⟩=>An3 a0 a1 a2) (fun⟨a0,a1,a2⟩=>An4 a0 a1 a2) Agy (fun _=>AV (n:=27) rfl) fun _ _=>rfl
noncomputable def Zd:=EO 0 TZ L0
theorem Ale:Ht Zd:=Bf Alg AM
def Xi (a0:List TRow) (a1:List TRow):C5:=EW (a0,a1,(0:Int))
def Ip (a0:List TRow) (a1:List TRow):Bool:=(↑a0.length:Int) !=(↑a1.length:Int)
def Abp (a0:List TRow) (a1:List TRow):Bool:=bif(Ip a0 a1) then false else bif Ds (Xi a0 a1).fst (Xi a0 a1).snd.fst (Xi a0 a1).snd.snd then false else true
def Abq (a0:List TRow) (a1:List TRow):A:=.v (.bool (Abp a0 a1))
def Apz (_a0:List TRow) (_a1:List TRow):Objs:=[]
def Ali (a0:List TRow) (a1:List TRow):List Prop:=[((!(Ip a0 a1))=true→AE FC FA HN (GB (a0,a1,(0:Int))) (a0,a1,(0:Int)))]
set_option maxRecDepth 100000 in
theorem A0o (a0:List TRow) (a1:List TRow):Hx (Ay Csw Zd) 9 49 [Aq .rows a0,Aq .rows a1] 0 []=some (1,Abq a0 a1,0,Apz a0 a1,[((!(Ip a0 a1))=true→Ah Try.prog (49:FuncId) (0:Nat)=Ah Try.prog (49:FuncId) (0:Nat)),((!(Ip a0 a1))=true→AE FC FA HN (GB (a0,a1,(0:Int))) (a0,a1,(0:Int)))]):=by kernel_rfl
set_option maxRecDepth 100000 in
theorem A49 (a0:List TRow) (a1:List TRow) (hp:∀p∈Ali a0 a1,p):CallOk Try.prog 49 [Aq .rows a0,Aq .rows a1] 0 [] 1 (Abq a0 a1) 0 (Apz a0 a1):=by
 have n0:((!(Ip a0 a1))=true→Ah Try.prog (49:FuncId) (0:Nat)=Ah Try.prog (49:FuncId) (0:Nat)):=by intros;rfl
 have n1:=N0 hp
 exact AJ (Aw Ayq Ale) (A0o a0 a1) (Aa n0 (Aa n1 Ad))
def Azi (a b:List TRow):Bool:=a.length==b.length&&Sv a.length fun i=>Anb (a.getD i (Ae TC.row)) (b.getD i (Ae TC.row))
def Alj (a0:List TRow) (a1:List TRow):A:=.v (.bool (Azi a0 a1))
def Alh (_a0:List TRow) (_a1:List TRow):Objs:=[]
def Aei (a0:List TRow) (_a1:List TRow):List Prop:=[AC a0.length,∀r∈a0,Aj r.cells.length]
theorem Ald (a b:List TRow) (hl:AC a.length) (hb:∀r∈a,Aj r.cells.length):(∀p∈Ali a b,p)∧Abp a b=Azi a b:=by
 unfold AC at hl
 have hk0:Ip a b=(a.length !=b.length):=by
  show((a.length:Int) !=(b.length:Int))=_
  rw[Bool.eq_iff_iff,bne_iff_ne,bne_iff_ne];omega
 have main:Ip a b=false→AE FC FA HN (GB (a,b,0)) (a,b,0)∧Ds (EW (a,b,0)).1 (EW (a,b,0)).2.1 (EW (a,b,0)).2.2=!Sv a.length fun i=>Anb (a.getD i (Ae TC.row)) (b.getD i (Ae TC.row)):=fun h0=>by
  rw[hk0] at h0
  have hlen:a.length=b.length:=by simpa using h0
  have hf:∀i:Nat,Ds a b (i:Int)=(decide (i <a.length)&&!Anb (a.getD i (Ae TC.row)) (b.getD i (Ae TC.row))):=fun i=>by
   unfold Ds Dt
   rw[nn,PE,Int.toNat_natCast]
  obtain⟨h1,k,hk,hx,_,_,hb'⟩:=JJ (fun i=>((a,b,(i:Int)):C5)) a.length (fun i=>!Anb (a.getD i (Ae TC.row)) (b.getD i (Ae TC.row))) FC FA HN (GB (a,b,0)) (a,b,0) rfl (by show a.length≤((a.length:Int) - 0).toNat;omega)
   (fun i _ _=>by
    show((!!decide ((i:Int) <(a.length:Int)))&&!Ds a b (i:Int))=_
    rw[hf,nn,PE]
    cases decide (i <a.length)<;>rfl)
   (fun i hi _=>by
    show(a,b,IntKind.i64.wrap ((i:Int)+1))=(a,b,((i+1:Nat):Int))
    rw[FS (by omega)])
   (fun i hi _=>by
    have hin:(!!decide ((i:Int) <(a.length:Int)))=true→(i:Int) <(a.length:Int):=fun h=>by rw[nn] at h;exact of_decide_eq_true h
    refine Aa (fun h=>⟨by show(0:Int)≤(i:Int);omega,hin h⟩) (Aa (fun h=>⟨by show(0:Int)≤(i:Int);omega,by have:=hin h;show(i:Int) <(b.length:Int);omega⟩) (Aa (fun h=>?_) Ad))
    have h5:=hin h
    have e:((i:Int)).toNat=i:=Int.toNat_natCast i
    show Aj (a.getD ((i:Int)).toNat (Ae TC.row)).2.length
    rw[e]
    exact hb _ (getD_in a (Ae TC.row) i (by omega)))
  refine⟨h1,?_⟩
  have hr:EW (a,b,0)=(a,b,(k:Int)):=hx
  rw[hr]
  show Ds a b (k:Int)=_
  rw[hf,hb']
  congr 1
  exact Jl fun i _=>Bool.not_not _
 refine⟨Aa (fun h=>(main (by simpa using h)).1) Ad,?_⟩
 unfold Abp Azi
 cases h0:Ip a b with
 |true=>
  rw[hk0] at h0
  have e:(a.length==b.length)=false:=by simpa using h0
  rw[e]
  rfl
 |false=>
  have h1:=h0
  rw[hk0] at h1
  have e:(a.length==b.length)=true:=by simpa using h1
  rw[cond_false,e,Bool.true_and]
  have m:=(main h0).2
  show(!Ds (EW (a,b,0)).1 (EW (a,b,0)).2.1 (EW (a,b,0)).2.2)=_
  rw[m,Bool.not_not]
theorem A0n (a0:List TRow) (a1:List TRow) (hp:∀p∈Aei a0 a1,p):CallOk Try.prog 49 [Aq .rows a0,Aq .rows a1] 0 [] 1 (Alj a0 a1) 0 (Alh a0 a1):=by
 have hb:AC a0.length:=hp _ (List.mem_cons_self ..)
 have hc:∀r∈a0,Aj r.cells.length:=hp _ (List.mem_cons_of_mem _ (List.mem_cons_self ..))
 have h:=A49 a0 a1 (Ald a0 a1 hb hc).1
 unfold Abq at h
 rw[(Ald a0 a1 hb hc).2] at h
 exact h
theorem Apb (a:List TRow):Azi a a=true:=by
 unfold Azi
 rw[beq_self_eq_true,Bool.true_and,Lt]
 exact fun i _=>A7l.2 rfl
def Abr:List A→Nat→Objs→Option BP
 | [y0,y1],nx,o=>match A3 .rows y0,A3 .rows y1 with
  |some (a0,p0),some (a1,p1)=>some (1,(Alj a0 a1).pk (AH nx),nx+0,AG nx (Alh a0 a1)++o,p0++(p1++(Aei a0 a1)))
  |_,_=>none
 |_,_,_=>none
theorem Axa:HO Try.prog 49 Abr:=fun args nx o k x nx' o' ps h=>by
 unfold Abr at h
 split at h<;>first|(cases h;done)|skip
 split at h<;>first|(cases h;done)|skip
 rename_i a0 p0 a1 p1 e0 e1
 cases h
 refine⟨fun hp=>?_,_,rfl⟩
 have q0:=fun p hm=>hp p (List.mem_append.2 (.inl hm))
 have r0:=fun p hm=>hp p (List.mem_append.2 (.inr hm))
 have q1:=fun p hm=>r0 p (List.mem_append.2 (.inl hm))
 have r1:=fun p hm=>r0 p (List.mem_append.2 (.inr hm))
 refine Ao (Ai (A0n a0 a1 r1) (Nat.le_refl _) (Af (Ag _ _) (Af (Ag _ _) Au)) nx o) fun F N R vs hl=>?_
 obtain⟨v0,w0,rfl,h0,hl⟩:=hl.inv
 obtain⟨v1,w1,rfl,h1,hl⟩:=hl.inv
 exact HL.cons (Ar e0 q0 h0) (HL.cons (Ar e1 q1 h1) (hl))
noncomputable def RD:=B5 49 Abr Csw
theorem PF:Gg Try.prog RD:=Ax Axa Ayq
abbrev AQ:Type:=(List TRow)×Int×Int×(List TRow)
def E4 (x:AQ):St:=⟨141,4,[(7,.dq 3),(29,.sl .row x.1),(30,.v (.int .i64 x.2.1)),(31,.v (.int .i64 x.2.2.1))],[(3,some (.deep 71 .row x.2.2.2))]⟩
def GR:St→Option AQ
 |⟨141,4,[(7,.dq 3),(29,.sl .row z0),(30,.v (.int .i64 z1)),(31,.v (.int .i64 z2))],[(3,some (.deep 71 .row z3))]⟩=>some (z0,z1,z2,z3)
 |_=>none
theorem MY:∀s x,GR s=some x→s=E4 x:=fun s x h=>by
 unfold GR at h
 split at h
 ·cases h;rfl
 ·cases h
def JB:DS:=⟨3,4,[7,29,30,31],[],[(7,3)],[7],[7],[3]⟩
def Qc:Eh:=⟨[.nilD 7 71 .row],[(2,3)],[7,29,30,31],[2]⟩
def NL (a0:List TRow) (_a1:Int) (a2:Int) (a3:List TRow):List TRow:=a3++[Vn TC.row TC.cell (TRow.mk (a0.getD a2.toNat (Ae TC.row)).1 []) (Dw (a0.getD a2.toNat (Ae TC.row)))]
def Br (x:AQ):AQ:=(x.1,x.2.1,IntKind.i64.wrap (x.2.2.1+(1:Int)),NL x.1 x.2.1 x.2.2.1 x.2.2.2)
def Bq (x:AQ):Cnd:=some (!!decide (x.2.2.1 <x.2.1))
def IQ (x:AQ):List Prop:=[((!!decide (x.2.2.1 <x.2.1))=true→(0:Int)≤x.2.2.1∧x.2.2.1 <(↑x.1.length:Int)),((!!decide (x.2.2.1 <x.2.1))=true→Aj ((0:Nat)+(x.1.getD x.2.2.1.toNat (Ae TC.row)).2.length)),((!!decide (x.2.2.1 <x.2.1))=true→Aj (x.2.2.2.length+(1:Nat)))]
def Cy (x:AQ):List Prop:=[((!!decide (x.2.2.1 <x.2.1))=true→(0:Int)≤x.2.2.1∧x.2.2.1 <(↑x.1.length:Int)),((!!decide (x.2.2.1 <x.2.1))=true→Aj ((0:Nat)+(x.1.getD x.2.2.1.toNat (Ae TC.row)).2.length)),((!!decide (x.2.2.1 <x.2.1))=true→Aj (x.2.2.2.length+(1:Nat)))]
def Ie (x:AQ):Bw:=[(some 0,some (!decide (x.2.2.1 <x.2.1)),⟨141,4,[(7,.dq 3)],[(3,some (.deep 71 .row x.2.2.2))]⟩)]
def BQ (x:AQ):Nat:=(x.2.1 - x.2.2.1).toNat
def Gt (x:AQ):AQ:=BA Br Bq (BQ x) x
set_option maxRecDepth 100000 in
theorem OS (a0:List TRow) (a1:Int) (a2:Int) (a3:List TRow):Ce (Ay RD L0) 9 (Ah Try.prog 8 0) JB (E4 (a0,a1,a2,a3))=some (IQ (a0,a1,a2,a3),Ie (a0,a1,a2,a3),Bq (a0,a1,a2,a3),E4 (Br (a0,a1,a2,a3))):=by kernel_rfl
set_option maxRecDepth 100000 in
theorem OT (a0:List TRow) (a1:Int) (a2:Int) (a3:List TRow) (hp:∀p∈Cy (a0,a1,a2,a3),p):∀p∈IQ (a0,a1,a2,a3),p:=by
 have n0:=N0 hp
 have n1:=N0 (N1 hp)
 have n2:=N0 (N1 (N1 hp))
 exact(Aa n0 (Aa n1 (Aa n2 Ad)))
noncomputable def IR:=HZ (Ay RD L0) (Ah Try.prog 8 0) JB Qc GR BQ Br Bq Cy Ie
theorem NM:∀s b ps outs,IR s=some (b,ps,outs)→Wf s ⟨ps,outs,none⟩∧BY (Ay C0 L0) b s ps outs:=
 BL (T:=E4) PF AM (u:=9) (by kernel_rfl) (by decide) (fun⟨a0,a1,a2,a3⟩=>OS a0 a1 a2 a3) (fun⟨a0,a1,a2,a3⟩=>OT a0 a1 a2 a3) MY (fun _=>AV (n:=141) rfl) fun _ _=>rfl
noncomputable def E3:=EO 0 IR L0
theorem IP:Ht E3:=Bf NM AM
abbrev AU:Type:=Int×Int×Int×(List TRow)
def E8 (x:AU):St:=⟨141,10,[(10,.dq 9),(16,.v (.int .i64 x.1)),(81,.v (.int .i64 x.2.1)),(82,.v (.int .i64 x.2.2.1))],[(9,some (.deep 71 .row x.2.2.2))]⟩
def GT:St→Option AU
 |⟨141,10,[(10,.dq 9),(16,.v (.int .i64 z0)),(81,.v (.int .i64 z1)),(82,.v (.int .i64 z2))],[(9,some (.deep 71 .row z3))]⟩=>some (z0,z1,z2,z3)
 |_=>none
theorem M0:∀s x,GT s=some x→s=E8 x:=fun s x h=>by
 unfold GT at h
 split at h
 ·cases h;rfl
 ·cases h
def JD:DS:=⟨9,10,[10,16,81,82],[],[(9,9)],[9],[10],[9]⟩
def Qe:Eh:=⟨[],[(8,9)],[10,16,81,82],[8]⟩
def A4 (a0:Int) (_a1:Int) (a2:Int) (a3:List TRow):List TRow:=a3.set a0.toNat (Vn TC.row TC.cell (a3.getD a0.toNat (Ae TC.row)) ((a3.getD a0.toNat (Ae TC.row)).2.set a2.toNat (TCell.mk ((a3.getD a0.toNat (Ae TC.row)).2.getD a2.toNat (Ae TC.cell)).1 ((a3.getD a0.toNat (Ae TC.row)).2.getD a2.toNat (Ae TC.cell)).2 ((a3.getD a0.toNat (Ae TC.row)).2.getD a2.toNat (Ae TC.cell)).3 (((a3.getD a0.toNat (Ae TC.row)).2.getD a2.toNat (Ae TC.cell)).4++ByteArray.mk #[(63:UInt8)]) ((a3.getD a0.toNat (Ae TC.row)).2.getD a2.toNat (Ae TC.cell)).5)))
def Bc (x:AU):AU:=(x.1,x.2.1,IntKind.i64.wrap (x.2.2.1+(1:Int)),A4 x.1 x.2.1 x.2.2.1 x.2.2.2)
def Bb (x:AU):Cnd:=some (!!decide (x.2.2.1 <x.2.1))
def IW (x:AU):List Prop:=[((!!decide (x.2.2.1 <x.2.1))=true→(0:Int)≤x.1∧x.1 <(↑x.2.2.2.length:Int)),((!!decide (x.2.2.1 <x.2.1))=true→x.1.toNat <x.2.2.2.length),((!!decide (x.2.2.1 <x.2.1))=true→x.1.toNat <x.2.2.2.length∧(0:Int)≤x.2.2.1∧x.2.2.1 <(↑(x.2.2.2.getD x.1.toNat (Ae TC.row)).2.length:Int)),((!!decide (x.2.2.1 <x.2.1))=true→x.1.toNat <x.2.2.2.length∧x.2.2.1.toNat <(x.2.2.2.getD x.1.toNat (Ae TC.row)).2.length),((!!decide (x.2.2.1 <x.2.1))=true→((x.2.2.2.getD x.1.toNat (Ae TC.row)).2.getD x.2.2.1.toNat (Ae TC.cell)).4.size+(1:Nat)≤(9223372036854775807:Nat)),((!!decide (x.2.2.1 <x.2.1))=true→x.1.toNat <x.2.2.2.length∧(0:Int)≤x.2.2.1∧x.2.2.1 <(↑(x.2.2.2.getD x.1.toNat (Ae TC.row)).2.length:Int)),((!!decide (x.2.2.1 <x.2.1))=true→x.1.toNat <x.2.2.2.length),((!!decide (x.2.2.1 <x.2.1))=true→x.2.2.1.toNat <(x.2.2.2.getD x.1.toNat (Ae TC.row)).2.length)]
def BJ (x:AU):List Prop:=[((!!decide (x.2.2.1 <x.2.1))=true→(0:Int)≤x.1∧x.1 <(↑x.2.2.2.length:Int)),((!!decide (x.2.2.1 <x.2.1))=true→x.1.toNat <x.2.2.2.length∧(0:Int)≤x.2.2.1∧x.2.2.1 <(↑(x.2.2.2.getD x.1.toNat (Ae TC.row)).2.length:Int)),((!!decide (x.2.2.1 <x.2.1))=true→((x.2.2.2.getD x.1.toNat (Ae TC.row)).2.getD x.2.2.1.toNat (Ae TC.cell)).4.size+(1:Nat)≤(9223372036854775807:Nat)),((!!decide (x.2.2.1 <x.2.1))=true→x.2.2.1.toNat <(x.2.2.2.getD x.1.toNat (Ae TC.row)).2.length)]
def Ih (x:AU):Bw:=[(some 4,some (!decide (x.2.2.1 <x.2.1)),⟨141,10,[(10,.dq 9)],[(9,some (.deep 71 .row x.2.2.2))]⟩)]
def Bs (x:AU):Nat:=(x.2.1 - x.2.2.1).toNat
def Gu (x:AU):AU:=BA Bc Bb (Bs x) x
set_option maxRecDepth 100000 in
theorem OW (a0:Int) (a1:Int) (a2:Int) (a3:List TRow):Ce (Ay RD E3) 9 (Ah Try.prog 8 4) JD (E8 (a0,a1,a2,a3))=some (IW (a0,a1,a2,a3),Ih (a0,a1,a2,a3),Bb (a0,a1,a2,a3),E8 (Bc (a0,a1,a2,a3))):=by kernel_rfl
set_option maxRecDepth 100000 in
theorem OX (a0:Int) (a1:Int) (a2:Int) (a3:List TRow) (hp:∀p∈BJ (a0,a1,a2,a3),p):∀p∈IW (a0,a1,a2,a3),p:=by
 have n0:((!!decide (a2 <a1))=true→(0:Int)≤a0∧a0 <(↑a3.length:Int)):=N0 hp
 have n1:((!!decide (a2 <a1))=true→a0.toNat <a3.length):=by intro h0;have g:=n0 h0;omega
 have n2:((!!decide (a2 <a1))=true→a0.toNat <a3.length∧(0:Int)≤a2∧a2 <(↑(a3.getD a0.toNat (Ae TC.row)).2.length:Int)):=N0 (N1 hp)
 have n3:((!!decide (a2 <a1))=true→a0.toNat <a3.length∧a2.toNat <(a3.getD a0.toNat (Ae TC.row)).2.length):=by intro h0;have g:=n2 h0;omega
 have n4:=N0 (N1 (N1 hp))
 have n7:=N0 (N1 (N1 (N1 hp)))
 exact(Aa n0 (Aa n1 (Aa n2 (Aa n3 (Aa n4 (Aa n2 (Aa n1 (Aa n7 Ad))))))))
noncomputable def IX:=HZ (Ay RD E3) (Ah Try.prog 8 4) JD Qe GT Bs Bc Bb BJ Ih
theorem NO:∀s b ps outs,IX s=some (b,ps,outs)→Wf s ⟨ps,outs,none⟩∧BY (Ay C0 L0) b s ps outs:=
 BL (T:=E8) PF IP (u:=9) (by kernel_rfl) (by decide) (fun⟨a0,a1,a2,a3⟩=>OW a0 a1 a2 a3) (fun⟨a0,a1,a2,a3⟩=>OX a0 a1 a2 a3) M0 (fun _=>AV (n:=141) rfl) fun _ _=>rfl
noncomputable def E7:=EO 4 IX E3
theorem IV:Ht E7:=Bf NO IP
abbrev Bg:Type:=Int×Int×(List TRow)
def E6 (x:Bg):St:=⟨141,9,[(10,.dq 8),(72,.v (.int .i64 x.1)),(73,.v (.int .i64 x.2.1))],[(8,some (.deep 71 .row x.2.2))]⟩
def GS:St→Option Bg
 |⟨141,9,[(10,.dq 8),(72,.v (.int .i64 z0)),(73,.v (.int .i64 z1))],[(8,some (.deep 71 .row z2))]⟩=>some (z0,z1,z2)
 |_=>none
theorem MZ:∀s x,GS s=some x→s=E6 x:=fun s x h=>by
 unfold GS at h
 split at h
 ·cases h;rfl
 ·cases h
def JC:DS:=⟨8,9,[10,72,73],[],[(9,8)],[9],[],[8]⟩
def Qd:Eh:=⟨[],[(4,8)],[10,72,73],[4]⟩
def C7 (_a0:Int) (a1:Int) (a2:List TRow):List TRow:=(Gu (a1,(↑(a2.getD a1.toNat (Ae TC.row)).2.length:Int),(0:Int),a2)).snd.snd.snd
def BS (x:Bg):Bg:=(x.1,IntKind.i64.wrap (x.2.1+(1:Int)),C7 x.1 x.2.1 x.2.2)
def BR (x:Bg):Cnd:=some (!!decide (x.2.1 <x.1))
def IT (x:Bg):List Prop:=[((!!decide (x.2.1 <x.1))=true→(0:Int)≤x.2.1∧x.2.1 <(↑x.2.2.length:Int)),((!!decide (x.2.1 <x.1))=true→x.2.1.toNat <x.2.2.length),((!!decide (x.2.1 <x.1))=true→x.2.1.toNat <x.2.2.length),((!!decide (x.2.1 <x.1))=true→Ah Try.prog (8:FuncId) (4:Nat)=Ah Try.prog (8:FuncId) (4:Nat)),((!!decide (x.2.1 <x.1))=true→AE Bc Bb BJ (Bs (x.2.1,(↑(x.2.2.getD x.2.1.toNat (Ae TC.row)).2.length:Int),(0:Int),x.2.2)) (x.2.1,(↑(x.2.2.getD x.2.1.toNat (Ae TC.row)).2.length:Int),(0:Int),x.2.2))]
def Cz (x:Bg):List Prop:=[((!!decide (x.2.1 <x.1))=true→(0:Int)≤x.2.1∧x.2.1 <(↑x.2.2.length:Int)),((!!decide (x.2.1 <x.1))=true→AE Bc Bb BJ (Bs (x.2.1,(↑(x.2.2.getD x.2.1.toNat (Ae TC.row)).2.length:Int),(0:Int),x.2.2)) (x.2.1,(↑(x.2.2.getD x.2.1.toNat (Ae TC.row)).2.length:Int),(0:Int),x.2.2))]
def Ig (x:Bg):Bw:=[(some 2,some (!decide (x.2.1 <x.1)),⟨141,9,[],[(8,some (.deep 71 .row x.2.2))]⟩)]
def CO (x:Bg):Nat:=(x.1 - x.2.1).toNat
set_option maxRecDepth 100000 in
theorem OU (a0:Int) (a1:Int) (a2:List TRow):Ce (Ay RD E7) 9 (Ah Try.prog 8 2) JC (E6 (a0,a1,a2))=some (IT (a0,a1,a2),Ig (a0,a1,a2),BR (a0,a1,a2),E6 (BS (a0,a1,a2))):=by kernel_rfl
set_option maxRecDepth 100000 in
theorem OV (a0:Int) (a1:Int) (a2:List TRow) (hp:∀p∈Cz (a0,a1,a2),p):∀p∈IT (a0,a1,a2),p:=by
 have n0:((!!decide (a1 <a0))=true→(0:Int)≤a1∧a1 <(↑a2.length:Int)):=N0 hp
 have n1:((!!decide (a1 <a0))=true→a1.toNat <a2.length):=by intro h0;have g:=n0 h0;omega
 have n3:((!!decide (a1 <a0))=true→Ah Try.prog (8:FuncId) (4:Nat)=Ah Try.prog (8:FuncId) (4:Nat)):=by intros;rfl
 have n4:=N0 (N1 hp)
 exact(Aa n0 (Aa n1 (Aa n1 (Aa n3 (Aa n4 Ad)))))
noncomputable def IU:=HZ (Ay RD E7) (Ah Try.prog 8 2) JC Qd GS CO BS BR Cz Ig
theorem NN:∀s b ps outs,IU s=some (b,ps,outs)→Wf s ⟨ps,outs,none⟩∧BY (Ay C0 L0) b s ps outs:=
 BL (T:=E6) PF IV (u:=9) (by kernel_rfl) (by decide) (fun⟨a0,a1,a2⟩=>OU a0 a1 a2) (fun⟨a0,a1,a2⟩=>OV a0 a1 a2) MZ (fun _=>AV (n:=141) rfl) fun _ _=>rfl
noncomputable def E5:=EO 2 IU E7
theorem IS:Ht E5:=Bf NN IV
abbrev AR:Type:=(List Ab)×(List TCell)×Int×Int×TVec
def Fb (x:AR):St:=⟨141,10,[(0,.sl .group x.1),(5,.own 0 0),(110,.sl .cell x.2.1),(111,.v (.int .i64 x.2.2.1)),(112,.v (.int .i64 x.2.2.2.1))],[(0,some (.box 31 [.v (.int .i64 x.2.2.2.2.a),.v (.int .i64 x.2.2.2.2.b)]))]⟩
def GV:St→Option AR
 |⟨141,10,[(0,.sl .group z0),(5,.own 0 0),(110,.sl .cell z1),(111,.v (.int .i64 z2)),(112,.v (.int .i64 z3))],[(0,some (.box 31 [.v (.int .i64 z4),.v (.int .i64 z5)]))]⟩=>some (z0,z1,z2,z3,⟨z4,z5⟩)
 |_=>none
theorem M4:∀s x,GV s=some x→s=Fb x:=fun s x h=>by
 unfold GV at h
 split at h
 ·cases h;rfl
 ·cases h
def JG:DS:=⟨10,10,[0,5,110,111,112],[],[(0,0)],[0],[6],[0]⟩
def Qg:Eh:=⟨[],[(0,0)],[0,5,110,111,112],[0]⟩
def CQ (a0:List Ab) (a1:List TCell) (a2:Int) (a3:Int) (a4:TVec):Bool:=!!decide (a3 <a2)&&!C8 (bif decide (a3 <(↑a0.length:Int)) then(a0.getD a3.toNat (Ae TC.group)).2 else IntKind.i64.wrap ((1:Int)+a3.tmod (3:Int))) a4 (a1.getD a3.toNat (Ae TC.cell))==C8 (bif decide (a3 <(↑a0.length:Int)) then(a0.getD a3.toNat (Ae TC.group)).2 else IntKind.i64.wrap ((1:Int)+a3.tmod (3:Int))) a4 (a1.getD a3.toNat (Ae TC.cell))
def NS (a0:List Ab) (a1:List TCell) (a2:Int) (a3:Int) (a4:TVec):Bool:=!!decide (a3 <a2)&&!(CQ a0 a1 a2 a3 a4)
def Gh (a0:List Ab) (a1:List TCell) (a2:Int) (a3:Int) (a4:TVec):Bool:=(CQ a0 a1 a2 a3 a4)
def Be (x:AR):AR:=(x.1,x.2.1,x.2.2.1,IntKind.i64.wrap (x.2.2.2.1+(1:Int)),x.2.2.2.2)
def Bd (x:AR):Cnd:=some (NS x.1 x.2.1 x.2.2.1 x.2.2.2.1 x.2.2.2.2)
def I2 (x:AR):List Prop:=[((!!decide (x.2.2.2.1 <x.2.2.1))=true→(0:Int)≤x.2.2.2.1∧x.2.2.2.1 <(↑x.2.1.length:Int)),((!!decide (x.2.2.2.1 <x.2.2.1))=true→decide (x.2.2.2.1 <(↑x.1.length:Int))=true→(0:Int)≤x.2.2.2.1∧x.2.2.2.1 <(↑x.1.length:Int))]
def BK (x:AR):List Prop:=[((!!decide (x.2.2.2.1 <x.2.2.1))=true→(0:Int)≤x.2.2.2.1∧x.2.2.2.1 <(↑x.2.1.length:Int)),((!!decide (x.2.2.2.1 <x.2.2.1))=true→decide (x.2.2.2.1 <(↑x.1.length:Int))=true→(0:Int)≤x.2.2.2.1∧x.2.2.2.1 <(↑x.1.length:Int))]
def Ij (x:AR):Bw:=[(some 8,some (!decide (x.2.2.2.1 <x.2.2.1)),⟨141,10,[(6,.dead)],[(0,some (.box 31 [.v (.int .i64 x.2.2.2.2.1),.v (.int .i64 x.2.2.2.2.2)]))]⟩),(none,some (Gh x.1 x.2.1 x.2.2.1 x.2.2.2.1 x.2.2.2.2),⟨141,11,[(6,.v (.bool (false)))],[(0,some (.box 31 [.v (.int .i64 x.2.2.2.2.1),.v (.int .i64 x.2.2.2.2.2)]))]⟩)]
def Bv (x:AR):Nat:=(x.2.2.1 - x.2.2.2.1).toNat
def A5 (x:AR):AR:=BA Be Bd (Bv x) x
set_option maxRecDepth 100000 in
theorem O0 (a0:List Ab) (a1:List TCell) (a2:Int) (a3:Int) (a4:TVec):Ce (Ay RD E5) 9 (Ah Try.prog 8 8) JG (Fb (a0,a1,a2,a3,a4))=some (I2 (a0,a1,a2,a3,a4),Ij (a0,a1,a2,a3,a4),Bd (a0,a1,a2,a3,a4),Fb (Be (a0,a1,a2,a3,a4))):=by kernel_rfl
set_option maxRecDepth 100000 in
theorem O1 (a0:List Ab) (a1:List TCell) (a2:Int) (a3:Int) (a4:TVec) (hp:∀p∈BK (a0,a1,a2,a3,a4),p):∀p∈I2 (a0,a1,a2,a3,a4),p:=by
 have n0:=N0 hp
 have n1:=N0 (N1 hp)
 exact(Aa n0 (Aa n1 Ad))
noncomputable def I3:=HZ (Ay RD E5) (Ah Try.prog 8 8) JG Qg GV Bv Be Bd BK Ij
theorem NT:∀s b ps outs,I3 s=some (b,ps,outs)→Wf s ⟨ps,outs,none⟩∧BY (Ay C0 L0) b s ps outs:=
 BL (T:=Fb) PF IS (u:=9) (by kernel_rfl) (by decide) (fun⟨a0,a1,a2,a3,a4⟩=>O0 a0 a1 a2 a3 a4) (fun⟨a0,a1,a2,a3,a4⟩=>O1 a0 a1 a2 a3 a4) M4 (fun _=>AV (n:=141) rfl) fun _ _=>rfl
noncomputable def Fa:=EO 8 I3 E5
theorem I1:Ht Fa:=Bf NT IS
abbrev AO:Type:=(List Ab)×(List TRow)×Int×Int×TVec
def E9 (x:AO):St:=⟨141,9,[(0,.sl .group x.1),(5,.own 0 0),(103,.sl .row x.2.1),(104,.v (.int .i64 x.2.2.1)),(105,.v (.int .i64 x.2.2.2.1))],[(0,some (.box 31 [.v (.int .i64 x.2.2.2.2.a),.v (.int .i64 x.2.2.2.2.b)]))]⟩
def GU:St→Option AO
 |⟨141,9,[(0,.sl .group z0),(5,.own 0 0),(103,.sl .row z1),(104,.v (.int .i64 z2)),(105,.v (.int .i64 z3))],[(0,some (.box 31 [.v (.int .i64 z4),.v (.int .i64 z5)]))]⟩=>some (z0,z1,z2,z3,⟨z4,z5⟩)
 |_=>none
theorem M3:∀s x,GU s=some x→s=E9 x:=fun s x h=>by
 unfold GU at h
 split at h
 ·cases h;rfl
 ·cases h
def JF:DS:=⟨9,9,[0,5,103,104,105],[],[(0,0)],[0],[6],[0]⟩
def Qf:Eh:=⟨[],[(0,0)],[0,5,103,104,105],[0]⟩
def BT (a0:List Ab) (a1:List TRow) (a2:Int) (a3:Int) (a4:TVec):Bool:=!!decide (a3 <a2)&&Gh (A5 (a0,(a1.getD a3.toNat (Ae TC.row)).2,(↑(a1.getD a3.toNat (Ae TC.row)).2.length:Int),(0:Int),a4)).fst (A5 (a0,(a1.getD a3.toNat (Ae TC.row)).2,(↑(a1.getD a3.toNat (Ae TC.row)).2.length:Int),(0:Int),a4)).snd.fst (A5 (a0,(a1.getD a3.toNat (Ae TC.row)).2,(↑(a1.getD a3.toNat (Ae TC.row)).2.length:Int),(0:Int),a4)).snd.snd.fst (A5 (a0,(a1.getD a3.toNat (Ae TC.row)).2,(↑(a1.getD a3.toNat (Ae TC.row)).2.length:Int),(0:Int),a4)).snd.snd.snd.fst (A5 (a0,(a1.getD a3.toNat (Ae TC.row)).2,(↑(a1.getD a3.toNat (Ae TC.row)).2.length:Int),(0:Int),a4)).snd.snd.snd.snd
def Eg (a0:List Ab) (a1:List TRow) (_a2:Int) (a3:Int) (a4:TVec):TVec:=(A5 (a0,(a1.getD a3.toNat (Ae TC.row)).2,(↑(a1.getD a3.toNat (Ae TC.row)).2.length:Int),(0:Int),a4)).snd.snd.snd.snd
def NQ (a0:List Ab) (a1:List TRow) (a2:Int) (a3:Int) (a4:TVec):Bool:=!!decide (a3 <a2)&&!(BT a0 a1 a2 a3 a4)
def CP (a0:List Ab) (a1:List TRow) (a2:Int) (a3:Int) (a4:TVec):Bool:=(BT a0 a1 a2 a3 a4)
def M1 (a0:List Ab) (a1:List TRow) (_a2:Int) (a3:Int) (a4:TVec):Int:=(A5 (a0,(a1.getD a3.toNat (Ae TC.row)).2,(↑(a1.getD a3.toNat (Ae TC.row)).2.length:Int),(0:Int),a4)).snd.snd.snd.snd.1
def M2 (a0:List Ab) (a1:List TRow) (_a2:Int) (a3:Int) (a4:TVec):Int:=(A5 (a0,(a1.getD a3.toNat (Ae TC.row)).2,(↑(a1.getD a3.toNat (Ae TC.row)).2.length:Int),(0:Int),a4)).snd.snd.snd.snd.2
def Bu (x:AO):AO:=(x.1,x.2.1,x.2.2.1,IntKind.i64.wrap (x.2.2.2.1+(1:Int)),Eg x.1 x.2.1 x.2.2.1 x.2.2.2.1 x.2.2.2.2)
def Bt (x:AO):Cnd:=some (NQ x.1 x.2.1 x.2.2.1 x.2.2.2.1 x.2.2.2.2)
def IY (x:AO):List Prop:=[((!!decide (x.2.2.2.1 <x.2.2.1))=true→(0:Int)≤x.2.2.2.1∧x.2.2.2.1 <(↑x.2.1.length:Int)),((!!decide (x.2.2.2.1 <x.2.2.1))=true→Ah Try.prog (8:FuncId) (8:Nat)=Ah Try.prog (8:FuncId) (8:Nat)),((!!decide (x.2.2.2.1 <x.2.2.1))=true→AE Be Bd BK (Bv (x.1,(x.2.1.getD x.2.2.2.1.toNat (Ae TC.row)).2,(↑(x.2.1.getD x.2.2.2.1.toNat (Ae TC.row)).2.length:Int),(0:Int),x.2.2.2.2)) (x.1,(x.2.1.getD x.2.2.2.1.toNat (Ae TC.row)).2,(↑(x.2.1.getD x.2.2.2.1.toNat (Ae TC.row)).2.length:Int),(0:Int),x.2.2.2.2))]
def CA (x:AO):List Prop:=[((!!decide (x.2.2.2.1 <x.2.2.1))=true→(0:Int)≤x.2.2.2.1∧x.2.2.2.1 <(↑x.2.1.length:Int)),((!!decide (x.2.2.2.1 <x.2.2.1))=true→AE Be Bd BK (Bv (x.1,(x.2.1.getD x.2.2.2.1.toNat (Ae TC.row)).2,(↑(x.2.1.getD x.2.2.2.1.toNat (Ae TC.row)).2.length:Int),(0:Int),x.2.2.2.2)) (x.1,(x.2.1.getD x.2.2.2.1.toNat (Ae TC.row)).2,(↑(x.2.1.getD x.2.2.2.1.toNat (Ae TC.row)).2.length:Int),(0:Int),x.2.2.2.2))]
def Ii (x:AO):Bw:=[(some 6,some (!decide (x.2.2.2.1 <x.2.2.1)),⟨141,9,[(6,.dead)],[(0,some (.box 31 [.v (.int .i64 x.2.2.2.2.1),.v (.int .i64 x.2.2.2.2.2)]))]⟩),(none,some (CP x.1 x.2.1 x.2.2.1 x.2.2.2.1 x.2.2.2.2),⟨141,11,[(6,.v (.bool (false)))],[(0,some (.box 31 [.v (.int .i64 (M1 x.1 x.2.1 x.2.2.1 x.2.2.2.1 x.2.2.2.2)),.v (.int .i64 (M2 x.1 x.2.1 x.2.2.1 x.2.2.2.1 x.2.2.2.2))]))]⟩)]
def BU (x:AO):Nat:=(x.2.2.1 - x.2.2.2.1).toNat
def I0 (x:AO):AO:=BA Bu Bt (BU x) x
set_option maxRecDepth 100000 in
theorem OY (a0:List Ab) (a1:List TRow) (a2:Int) (a3:Int) (a4:TVec):Ce (Ay RD Fa) 9 (Ah Try.prog 8 6) JF (E9 (a0,a1,a2,a3,a4))=some (IY (a0,a1,a2,a3,a4),Ii (a0,a1,a2,a3,a4),Bt (a0,a1,a2,a3,a4),E9 (Bu (a0,a1,a2,a3,a4))):=by kernel_rfl
set_option maxRecDepth 100000 in
theorem OZ (a0:List Ab) (a1:List TRow) (a2:Int) (a3:Int) (a4:TVec) (hp:∀p∈CA (a0,a1,a2,a3,a4),p):∀p∈IY (a0,a1,a2,a3,a4),p:=by
 have n0:=N0 hp
 have n1:((!!decide (a3 <a2))=true→Ah Try.prog (8:FuncId) (8:Nat)=Ah Try.prog (8:FuncId) (8:Nat)):=by intros;rfl
 have n2:=N0 (N1 hp)
 exact(Aa n0 (Aa n1 (Aa n2 Ad)))
noncomputable def IZ:=HZ (Ay RD Fa) (Ah Try.prog 8 6) JF Qf GU BU Bu Bt CA Ii
theorem NR:∀s b ps outs,IZ s=some (b,ps,outs)→Wf s ⟨ps,outs,none⟩∧BY (Ay C0 L0) b s ps outs:=
 BL (T:=E9) PF I1 (u:=9) (by kernel_rfl) (by decide) (fun⟨a0,a1,a2,a3,a4⟩=>OY a0 a1 a2 a3 a4) (fun⟨a0,a1,a2,a3,a4⟩=>OZ a0 a1 a2 a3 a4) M3 (fun _=>AV (n:=141) rfl) fun _ _=>rfl
noncomputable def JE:=EO 6 IZ Fa
theorem NP:Ht JE:=Bf NR I1
def Ak (a0:List Ab) (a1:List TRow) (_a2:TVec):Bool:=!N9 a0 [] [a1]
def Dm (a0:List Ab) (a1:List TRow) (a2:TVec):AO:=I0 (a0,a1,(↑a1.length:Int),(0:Int),a2)
def AS (_a0:List Ab) (a1:List TRow) (_a2:TVec):List TRow:=(Gt (a1,(↑a1.length:Int),(0:Int),[])).snd.snd.snd
def AL (a0:List Ab) (a1:List TRow) (a2:TVec):List TRow:=Ma a0 (AS a0 a1 a2) a2
def CF (a0:List Ab) (a1:List TRow) (a2:TVec):Bool:=!Azi (AS a0 a1 a2) a1
def AK (a0:List Ab) (a1:List TRow) (a2:TVec):Bool:=!Azi (AL a0 a1 a2) (Ma a0 a1 a2)||!((L9 a0 (AS a0 a1 a2) a2).1==(L9 a0 a1 a2).1&&(L9 a0 (AS a0 a1 a2) a2).2==(L9 a0 a1 a2).2)||HA a0 (AS a0 a1 a2) a2 !=HA a0 a1 a2
def GH (a0:List Ab) (a1:List TRow) (a2:TVec):Bool:=bif(Ak a0 a1 a2) then true else bif(AK a0 a1 a2) then false else bif(CF a0 a1 a2) then false else bif CP (Dm a0 a1 a2).fst (Dm a0 a1 a2).snd.fst (Dm a0 a1 a2).snd.snd.fst (Dm a0 a1 a2).snd.snd.snd.fst (Dm a0 a1 a2).snd.snd.snd.snd then false else true
def Ik (a0:List Ab) (a1:List TRow) (a2:TVec):A:=.v (.bool (GH a0 a1 a2))
def LC (_a0:List Ab) (_a1:List TRow) (_a2:TVec):Objs:=[]
def KC (a0:List Ab) (a1:List TRow) (a2:TVec):List Prop:=[(AC a0.length∧(AC (0:Nat)∧∀(c:BB),c∈[]→X2 c)∧AC (1:Nat)∧∀(x:List TRow),x∈[a1]→AC x.length∧∀(r:TRow),r∈x→Am4 r),((!(Ak a0 a1 a2))=true→AE Br Bq Cy (BQ (a1,(↑a1.length:Int),(0:Int),[])) (a1,(↑a1.length:Int),(0:Int),[])),((!(Ak a0 a1 a2))=true→Aj ((AS a0 a1 a2).length+(1:Nat))),((!(Ak a0 a1 a2))=true→Aj (a1.length+(1:Nat))),((!(Ak a0 a1 a2))=true→∀(g:Ab),g∈a0→AC g.1.size),((!(Ak a0 a1 a2))=true→AC (AL a0 a1 a2).length),((!(Ak a0 a1 a2))=true→∀(r:TRow),r∈(AL a0 a1 a2)→Aj r.2.length),((!(Ak a0 a1 a2))=true→(!(AK a0 a1 a2))=true→AE BS BR Cz (CO ((↑(AL a0 a1 a2).length:Int),(0:Int),(AL a0 a1 a2))) ((↑(AL a0 a1 a2).length:Int),(0:Int),(AL a0 a1 a2))),((!(Ak a0 a1 a2))=true→(!(AK a0 a1 a2))=true→AC (AS a0 a1 a2).length),((!(Ak a0 a1 a2))=true→(!(AK a0 a1 a2))=true→∀(r:TRow),r∈(AS a0 a1 a2)→Aj r.2.length),((!(Ak a0 a1 a2))=true→(!(AK a0 a1 a2))=true→(!(CF a0 a1 a2))=true→AE Bu Bt CA (BU (a0,a1,(↑a1.length:Int),(0:Int),a2)) (a0,a1,(↑a1.length:Int),(0:Int),a2))]
set_option maxRecDepth 100000 in
theorem SC (a0:List Ab) (a1:List TRow) (a2:TVec):Hx (Ay RD JE) 9 8 [.sl .group a0,Aq .rows a1,Aq .vec a2] 0 []=some (1,Ik a0 a1 a2,0,LC a0 a1 a2,[(AC a0.length∧(AC (0:Nat)∧∀(c:BB),c∈[]→X2 c)∧AC (1:Nat)∧∀(x:List TRow),x∈[a1]→AC x.length∧∀(r:TRow),r∈x→Am4 r),((!(Ak a0 a1 a2))=true→Ah Try.prog (8:FuncId) (0:Nat)=Ah Try.prog (8:FuncId) (0:Nat)),((!(Ak a0 a1 a2))=true→AE Br Bq Cy (BQ (a1,(↑a1.length:Int),(0:Int),[])) (a1,(↑a1.length:Int),(0:Int),[])),((!(Ak a0 a1 a2))=true→Aj ((AS a0 a1 a2).length+(1:Nat))),((!(Ak a0 a1 a2))=true→Aj (a1.length+(1:Nat))),((!(Ak a0 a1 a2))=true→∀(g:Ab),g∈a0→AC g.1.size),((!(Ak a0 a1 a2))=true→AC (AL a0 a1 a2).length),((!(Ak a0 a1 a2))=true→∀(r:TRow),r∈(AL a0 a1 a2)→Aj r.2.length),((!(Ak a0 a1 a2))=true→(!(AK a0 a1 a2))=true→Ah Try.prog (8:FuncId) (2:Nat)=Ah Try.prog (8:FuncId) (2:Nat)),((!(Ak a0 a1 a2))=true→(!(AK a0 a1 a2))=true→AE BS BR Cz (CO ((↑(AL a0 a1 a2).length:Int),(0:Int),(AL a0 a1 a2))) ((↑(AL a0 a1 a2).length:Int),(0:Int),(AL a0 a1 a2))),((!(Ak a0 a1 a2))=true→(!(AK a0 a1 a2))=true→AC (AS a0 a1 a2).length),((!(Ak a0 a1 a2))=true→(!(AK a0 a1 a2))=true→∀(r:TRow),r∈(AS a0 a1 a2)→Aj r.2.length),((!(Ak a0 a1 a2))=true→(!(AK a0 a1 a2))=true→(!(CF a0 a1 a2))=true→Ah Try.prog (8:FuncId) (6:Nat)=Ah Try.prog (8:FuncId) (6:Nat)),((!(Ak a0 a1 a2))=true→(!(AK a0 a1 a2))=true→(!(CF a0 a1 a2))=true→AE Bu Bt CA (BU (a0,a1,(↑a1.length:Int),(0:Int),a2)) (a0,a1,(↑a1.length:Int),(0:Int),a2))]):=by kernel_rfl
set_option maxRecDepth 100000 in
theorem Tg (a0:List Ab) (a1:List TRow) (a2:TVec) (hp:∀p∈KC a0 a1 a2,p):CallOk Try.prog 8 [.sl .group a0,Aq .rows a1,Aq .vec a2] 0 [] 1 (Ik a0 a1 a2) 0 (LC a0 a1 a2):=by
 have n0:=N0 hp
 have n1:((!(Ak a0 a1 a2))=true→Ah Try.prog (8:FuncId) (0:Nat)=Ah Try.prog (8:FuncId) (0:Nat)):=by intros;rfl
 have n2:=N0 (N1 hp)
 have n3:=N0 (N1 (N1 hp))
 have n4:=N0 (N1 (N1 (N1 hp)))
 have n5:=N0 (N1 (N1 (N1 (N1 hp))))
 have n6:=N0 (N1 (N1 (N1 (N1 (N1 hp)))))
 have n7:=N0 (N1 (N1 (N1 (N1 (N1 (N1 hp))))))
 have n8:((!(Ak a0 a1 a2))=true→(!(AK a0 a1 a2))=true→Ah Try.prog (8:FuncId) (2:Nat)=Ah Try.prog (8:FuncId) (2:Nat)):=by intros;rfl
 have n9:=N0 (N1 (N1 (N1 (N1 (N1 (N1 (N1 hp)))))))
 have n10:=N0 (N1 (N1 (N1 (N1 (N1 (N1 (N1 (N1 hp))))))))
 have n11:=N0 (N1 (N1 (N1 (N1 (N1 (N1 (N1 (N1 (N1 hp)))))))))
 have n12:((!(Ak a0 a1 a2))=true→(!(AK a0 a1 a2))=true→(!(CF a0 a1 a2))=true→Ah Try.prog (8:FuncId) (6:Nat)=Ah Try.prog (8:FuncId) (6:Nat)):=by intros;rfl
 have n13:=N0 (N1 (N1 (N1 (N1 (N1 (N1 (N1 (N1 (N1 (N1 hp))))))))))
 exact AJ (Aw PF NP) (SC a0 a1 a2) (Aa n0 (Aa n1 (Aa n2 (Aa n3 (Aa n4 (Aa n5 (Aa n6 (Aa n7 (Aa n8 (Aa n9 (Aa n10 (Aa n11 (Aa n12 (Aa n13 Ad))))))))))))))
end Go.Proofs.Yteebobbhhgmeiaa
