/- made by a program (rowgen.py): WireBack: for every input the law returns true, and each argument reads behind the call as it read before. -/
import Derived.Test.YtifkbgkbajncjaaDoorKWbc

set_option maxRecDepth 100000
noncomputable section
namespace Go.Proofs.YtifkbgkbajncjaaDoor
open Go.RowKit
inductive Dir where
 |frz (i:Nat)
 |nil (u:Nat) (t:TypeId) (c:TC)
 |nilB (b j:Nat) (t:TypeId) (c:TC)
 |ty (i:Nat) (c:TC)
 |nilF (u:Nat) (c:TC)
 |nilFB (b j:Nat) (c:TC)
 |seg (i:Nat) (p:List (Option (TC×Nat)))
def A2k (c:TC):List A→Option (List (U c)×List Prop)
 | []=>some ([],[])
 |x::r=>match dec c [x],A2k c r with
  |some (d,ps),some (l,qs)=>some (d::l,ps++qs)
  |_,_=>none
theorem Adg {F:Nat→Prop} {N:Nm} {nx:Nat} {R:World} {c:TC} (h1:c.one=true):∀{cs:List A} {vs:List Value} {l:List (U c)} {ps:List Prop},HL F N nx R cs vs→A2k c cs=some (l,ps)→(∀p∈ps,p)→l.length=cs.length∧vs=l.map (sv c)
 | [],vs,l,ps,h,he,_=>by
  cases he
  exact⟨rfl,h.inv0⟩
 |x::r,vs,l,ps,h,he,hp=>by
  obtain⟨y,ys,rfl,g1,g2⟩:=h.inv
  unfold A2k at he
  split at he<;>try (cases he;done)
  rename_i d qs l' pf hd hl
  cases he
  obtain⟨k1,k2⟩:=Adg h1 g2 hl fun p hm=>hp p (List.mem_append.2 (.inr hm))
  have h5:=Yy hd (fun p hm=>hp p (List.mem_append.2 (.inl hm))) _ (HL.cons g1 HL.nil)
  rw[YM h1] at h5
  obtain⟨v',vs',w1,w2,_⟩:=h5.inv
  cases w1
  refine⟨by rw[List.length_cons,List.length_cons,k1],?_⟩
  rw[List.map_cons,←w2.v_inv,k2]
def Aht:List (Option (TC×Nat))→List A→Option (List A×List Prop)
 | [],[]=>some ([],[])
 |none::p,.v x::r=>bif x.oneCell' then(match Aht p r with
  |some (l,ps)=>some (.v x::l,ps)
  |none=>none) else none
 |none::p,.sl c l::r=>match Aht p r with
  |some (xs,ps)=>some (.sl c l::xs,ps)
  |none=>none
 |none::p,.nl::r=>match Aht p r with
  |some (xs,ps)=>some (.nl::xs,ps)
  |none=>none
 |some (c,n)::p,cs=>bif c.one&&Nat.ble n cs.length then(bif Nat.blt 64 n&&Vd c (cs.take n) then(match Aht p (cs.drop n) with
  |some (r,qs)=>some (.av c n (List.replicate n (Ao c))::r,qs)
  |none=>none) else(match A2k c (cs.take n),Aht p (cs.drop n) with
  |some (l,ps),some (r,qs)=>some (.av c n l::r,ps++qs)
  |_,_=>none)) else none
 |_,_=>none
theorem TQ {F:Nat→Prop} {N:Nm} {nx:Nat} {R:World}:∀{p:List (Option (TC×Nat))} {cs:List A} {vs:List Value} {xs:List A} {ps:List Prop},HL F N nx R cs vs→Aht p cs=some (xs,ps)→(∀p∈ps,p)→HW F N nx R xs vs
 | [],cs,vs,xs,ps,h,he,_=>by
  cases cs with
  |nil=>cases he;exact h.inv0
  |cons x r=>cases he
 | none::p,cs,vs,xs,ps,h,he,hp=>by
  cases cs with
  |nil=>cases he
  | cons x r=>
   obtain⟨y,ys,rfl,g1,g2⟩:=h.inv
   cases x<;>try (cases he;done)
   ·rename_i x
    unfold Aht at he
    cases ho:x.oneCell' with
    |false=>rw[ho] at he;cases he
    |true=>
     rw[ho,cond_true] at he
     split at he<;>try (cases he;done)
     rename_i l qs hl
     cases he
     have e:=g1.v_inv
     subst e
     exact⟨y,ys,by rw[Hc ho];rfl,g1,fun _=>ho,TQ g2 hl hp⟩
   ·unfold Aht at he
    split at he<;>try (cases he;done)
    rename_i l qs hl
    cases he
    obtain⟨a,cap,e,_⟩:=g1.sl_inv
    have ho:y.oneCell'=true:=by rw[e];rfl
    exact⟨y,ys,by rw[Hc ho];rfl,g1,fun _=>ho,TQ g2 hl hp⟩
   ·unfold Aht at he
    split at he<;>try (cases he;done)
    rename_i l qs hl
    cases he
    obtain⟨a,e⟩:=g1.nl_inv
    have ho:y.oneCell'=true:=by rw[e];rfl
    exact⟨y,ys,by rw[Hc ho];rfl,g1,fun _=>ho,TQ g2 hl hp⟩
 | some (c,n)::p,cs,vs,xs,ps,h,he,hp=>by
  unfold Aht at he
  cases hb:(c.one&&Nat.ble n cs.length) with
  |false=>rw[hb] at he;cases he
  |true=>
   rw[hb,cond_true] at he
   rw[Bool.and_eq_true] at hb
   have hn:=Nat.le_of_ble_eq_true hb.2
   cases hz:(Nat.blt 64 n&&Vd c (cs.take n)) with
   |true=>
   rw[hz,cond_true] at he
   rw[Bool.and_eq_true] at hz
   replace hz:=hz.2
   split at he<;>try (cases he;done)
   rename_i r qs hl
   cases he
   have q2:=Aii (h.take n) hz
   rw[List.length_take,Nat.min_eq_left hn] at q2
   exact⟨.agg ((List.replicate n (Ao c)).map (sv c)).toArray,vs.drop n,by rw[show(Value.agg ((List.replicate n (Ao c)).map (sv c)).toArray).cells.toList=(List.replicate n (Ao c)).map (sv c) by simp[Value.cells],←q2,List.take_append_drop],.av hb.1 (by rw[List.length_replicate]),fun e=>(by cases e),TQ (h.drop n) hl hp⟩
   |false=>
   rw[hz,cond_false] at he
   split at he<;>try (cases he;done)
   rename_i l qs r pf hd hl
   cases he
   obtain⟨q1,q2⟩:=Adg hb.1 (h.take n) hd fun p hm=>hp p (List.mem_append.2 (.inl hm))
   have q3:=TQ (h.drop n) hl fun p hm=>hp p (List.mem_append.2 (.inr hm))
   rw[List.length_take,Nat.min_eq_left hn] at q1
   exact⟨.agg (l.map (sv c)).toArray,vs.drop n,by rw[show(Value.agg (l.map (sv c)).toArray).cells.toList=l.map (sv c) by simp[Value.cells],←q2,List.take_append_drop],.av hb.1 q1,fun e=>(by cases e),q3⟩
def Bf9 (c:TC) (n:Nat):A→Option (List (U c)×List Prop)
 | .av c' n' l=>match TC.same c' c with
  |some h=>bif Nat.beq n' n then some (MX h.down l,[]) else none
  |none=>none
 | .v (.agg xs)=>bif c.one then(match A2k c (toL xs.toList) with
  |some (l,ps)=>bif Nat.beq xs.size n then some (l,ps) else none
  |none=>none) else none
 | .agg xs=>bif c.one then(match A2k c xs with
  |some (l,ps)=>bif Nat.beq xs.length n then some (l,ps) else none
  |none=>none) else none
 |_=>none
theorem Bau {F:Nat→Prop} {N:Nm} {nx:Nat} {R:World} {c:TC} {n:Nat} {x:A} {l:List (U c)} {ps:List Prop} {v:Value} (he:Bf9 c n x=some (l,ps)) (hp:∀p∈ps,p) (h:Hv F N nx R x v):Hv F N nx R (.av c n l) v:=by
 unfold Bf9 at he
 split at he<;>try (cases he;done)
 ·split at he<;>try (cases he;done)
  rename_i c' n' l' _ h1 _
  obtain⟨h1⟩:=h1
  subst h1
  cases hb:Nat.beq n' n with
  |false=>rw[hb] at he;cases he
  |true=>
   rw[hb] at he
   obtain rfl:=Nat.eq_of_beq_eq_true hb
   cases he
   exact h
 ·rename_i xs
  cases h1:c.one with
  |false=>rw[h1] at he;cases he
  | true=>
   rw[h1,cond_true] at he
   split at he<;>try (cases he;done)
   rename_i l' f8 hd
   cases hb:Nat.beq xs.size n with
   |false=>rw[hb] at he;cases he
   |true=>
    rw[hb] at he
    cases he
    obtain⟨g1,g2⟩:=Adg h1 (HL.toL (F:=F) (N:=N) (nx:=nx) (R:=R) xs.toList) hd hp
    have hv:=h.v_inv
    subst hv
    have e:(Value.agg xs)=.agg (l.map (sv c)).toArray:=by rw[←g2]
    rw[e]
    refine .av h1 ?_
    rw[g1,←Nat.eq_of_beq_eq_true hb,←HL.length (HL.toL (F:=F) (N:=N) (nx:=nx) (R:=R) xs.toList)]
    simp
 ·rename_i xs
  cases h1:c.one with
  |false=>rw[h1] at he;cases he
  | true=>
   rw[h1,cond_true] at he
   split at he<;>try (cases he;done)
   rename_i l' f8 hd
   cases hb:Nat.beq xs.length n with
   |false=>rw[hb] at he;cases he
   |true=>
    rw[hb] at he
    cases he
    obtain⟨vs,rfl,h2⟩:=h.agg_inv
    obtain⟨g1,g2⟩:=Adg h1 h2 hd hp
    rw[g2]
    exact .av h1 (g1.trans (Nat.eq_of_beq_eq_true hb))
def Sb:A→Bool
 | .v x=>DI x
 | .nl=>true
 |_=>false
def Anl:A→Bool
 | .v x=>DI x
 |_=>false
def WB (E:Env) (s:St):Dir→Option (St×List Prop)
 | .frz i=>TA E i s
 | .nil u t c=>match C4 u s.t with
  |some x=>bif Sb x then some (⟨s.n,s.nx+1,(u,.sq s.nx)::s.t,(s.nx,some (.arr t (size c) (.ty c [])))::s.o⟩,[]) else none
  |none=>none
 | .nilB b j t c=>match Aq b s.o with
  |some (.box e cs)=>match cs[j]? with
   |some x=>bif Anl x then(bif Nat.blt b s.nx then some (⟨s.n,s.nx+1,s.t,(b,some (.box e (cs.set j (.sq s.nx))))::(s.nx,some (.arr t (size c) (.ty c [])))::s.o⟩,[]) else none) else none
   |none=>none
  |_=>none
 | .nilF u c=>match C4 u s.t with
  |some x=>bif Sb x then some (⟨s.n,s.nx,(u,.sl c [])::s.t,s.o⟩,[]) else none
  |none=>none
 | .nilFB b j c=>match Aq b s.o with
  |some (.box e cs)=>match cs[j]? with
   |some x=>bif Sb x then some (⟨s.n,s.nx,s.t,(b,some (.box e (cs.set j (.sl c []))))::s.o⟩,[]) else none
   |none=>none
  |_=>none
 | .ty i c=>match Aq i s.o with
  |some (.arr e sz els)=>match W6 c els with
   |some (l,ps)=>some (⟨s.n,s.nx,s.t,(i,some (.arr e sz (.ty c l)))::s.o⟩,ps)
   |none=>none
  |_=>none
 | .seg i p=>match Aq i s.o with
  |some (.box e cs)=>match Aht p cs with
   |some (xs,ps)=>some (⟨s.n,s.nx,s.t,(i,some (.rcd e xs))::s.o⟩,ps)
   |none=>none
  |_=>none
def adj (E:Env):List Dir→St→Option (St×List Prop)
 | [],s=>some (s,[])
 | d::r,s=>match WB E s d with
  |some (s',ps)=>match adj E r s' with
   |some (tf,qs)=>some (tf,ps++qs)
   |none=>none
  |none=>none
section
variable {E:Env} {Z:Eo} {F:Nat→Prop} {N:Nm} {s:St} {a:Act} {R:World}
theorem Rel.word (h:Rel Z F N s a R) {u:Nat} {x:A} (hx:Hv F N s.nx R x (Bo a u)):Rel Z F N ⟨s.n,s.nx,(u,x)::s.t,s.o⟩ a R:=
 ⟨h.defers,h.size,fun v z hv=>by
  have dv:(bif Nat.beq u v then some x else C4 v s.t)=some z:=hv
  cases hb:Nat.beq u v with
  |true=>
   rw[hb] at dv
   obtain rfl:=Nat.eq_of_beq_eq_true hb
   cases dv
   exact(Af hx.isPlain).2 hx
  |false=>rw[hb] at dv;exact h.slots v z dv,h.hp,h.st,h.tm⟩
theorem Xl {x:A} (h:Sb x=true):x.plain=true:=by cases x<;>first|rfl|cases h
theorem YX {x:A} {y:Value} {nx:Nat} (h:Sb x=true) (hx:Hv F N nx R x y):∃b,y=.slice b 0 0:=by
 cases x<;>try (cases h;done)
 ·rw[hx.v_inv,FI h];exact⟨none,rfl⟩
 ·exact hx.nl_inv
theorem Awx {x:A} {y:Value} {nx:Nat} (h:Anl x=true) (hx:Hv F N nx R x y):y=.slice none 0 0:=by
 cases x<;>try (cases h;done)
 rw[hx.v_inv,FI h]
theorem HL.set {nx:Nat} {xs:List A} {vs:List Value} {j:Nat} {y:A} (h:HL F N nx R xs vs) (hy:∀v,vs[j]?=some v→Hv F N nx R y v):HL F N nx R (xs.set j y) vs:=by
 refine HL.of (by rw[List.length_set];exact h.length) fun i x v hx hv=>?_
 by_cases jf:j=i
 ·subst jf
  have ae:j <xs.length:=by have:=(List.getElem?_eq_some_iff.1 hx).1;rwa[List.length_set] at this
  rw[List.getElem?_set_self ae] at hx
  cases hx
  exact hy v hv
 ·rw[List.getElem?_set_ne jf] at hx
  obtain⟨w,h1,h2⟩:=h.get hx
  rw[hv] at h1
  cases h1
  exact h2
theorem Bi.nilRowB {nx:Nat} {o:AJ} (h:Bi F N nx o R) (b:Option Addr) {m:Nat} (t:TypeId) (sz:Nat) {els:EC} (he:els.n=0) (hm:nx≤m):
  Bi F (N.setQ m (.slice b 0 0)) (m+1) ((m,some (.arr t sz els))::o) R∧Step F N nx o R F (N.setQ m (.slice b 0 0)) (m+1) ((m,some (.arr t sz els))::o) R:=
 h.nilG _ hm (fun cj=>⟨[],by rw[cj];exact⟨by rw[he];simp,.inl ⟨b,rfl,he⟩⟩,fun j hj=>absurd hj (by omega)⟩) fun cj g hg=>by
  have af:FA ((N.setQ m (.slice b 0 0)).q m)=some g:=hg
  rw[cj] at af
  cases b<;>cases af
theorem Bar (h:At Z a R s) {d:Dir} {s':St} {ps:List Prop} (he:WB E s d=some (s',ps)) (hp:∀p∈ps,p):At Z a R s':=by
 obtain⟨F,N,h⟩:=h
 cases d with
 |frz i=>
  obtain⟨F',h'⟩:=Aky h he hp
  exact⟨F',N,h'⟩
 | nil u t c=>
  unfold WB at he
  simp only at he
  split at he<;>try (cases he;done)
  rename_i x hx
  cases hn:Sb x with
  |false=>rw[hn] at he;cases he
  |true=>
   rw[hn] at he
   cases he
   obtain⟨b,hv⟩:=YX hn ((Af (Xl hn)).1 (h.slots u x hx))
   obtain⟨q1,q2⟩:=h.hp.nilRowB b t (size c) (els:=.ty c []) rfl (Nat.le_refl _)
   have h2:=h.heap q2 q1
   refine⟨_,_,h2.word (u:=u) ?_⟩
   rw[hv]
   have:=Hv.sq (F:=F) (N:=N.setQ s.nx (.slice b 0 0)) (nx:=s.nx+1) (R:=R) (Nat.lt_succ_self s.nx)
   have e:(N.setQ s.nx (.slice b 0 0)).q s.nx=.slice b 0 0:=Cq N.q s.nx _
   rw[e] at this
   exact this
 | nilB b j t c=>
  unfold WB at he
  simp only at he
  split at he<;>try (cases he;done)
  rename_i e cs hl
  split at he<;>try (cases he;done)
  rename_i x hx
  cases hn:Anl x with
  |false=>rw[hn] at he;cases he
  | true=>
   rw[hn] at he
   cases hb:Nat.blt b s.nx with
   |false=>rw[hb] at he;cases he
   | true=>
    rw[hb] at he
    cases he
    have hbn:b <s.nx:=Nat.le_of_ble_eq_true hb
    obtain⟨q1,q2⟩:=h.hp.nilRow t (size c) (els:=.ty c []) rfl (Nat.le_refl _)
    have e0:(N.setQ s.nx (.slice none 0 0)).q s.nx=.slice none 0 0:=Cq N.q s.nx _
    obtain⟨r1,r2⟩:=q1.less (o':=(b,some (.box e (cs.set j (.sq s.nx))))::(s.nx,some (.arr t (size c) (.ty c [])))::s.o) fun i ob hi=>by
     rw[AI] at hi
     by_cases fe:i=b
     ·rw[if_pos fe] at hi
      cases hi
      subst fe
      refine⟨.box e cs,by rw[AI,if_neg (by omega)];exact hl,fun⟨vs,k1,k2⟩=>⟨vs,k1.set fun v hv=>?_,k2⟩,fun g=>Iff.rfl⟩
      obtain⟨w,k3,k4⟩:=k1.get hx
      rw[hv] at k3
      cases k3
      rw[Awx hn k4]
      have:=Hv.sq (F:=F) (N:=N.setQ s.nx (.slice none 0 0)) (nx:=s.nx+1) (R:=R) (Nat.lt_succ_self s.nx)
      rw[e0] at this
      exact this
     ·rw[if_neg fe] at hi
      exact⟨ob,hi,id,fun g=>Iff.rfl⟩
    exact⟨_,_,h.heap (q2.trans r2) r1⟩
 | nilF u c=>
  unfold WB at he
  simp only at he
  split at he<;>try (cases he;done)
  rename_i x hx
  cases hn:Sb x with
  |false=>rw[hn] at he;cases he
  |true=>
   rw[hn] at he
   cases he
   obtain⟨b,hv⟩:=YX hn ((Af (Xl hn)).1 (h.slots u x hx))
   exact⟨_,_,h.word (u:=u) (Hv.sl_nil hv)⟩
 | nilFB b j c=>
  unfold WB at he
  simp only at he
  split at he<;>try (cases he;done)
  rename_i e cs hl
  split at he<;>try (cases he;done)
  rename_i x hx
  cases hn:Sb x with
  |false=>rw[hn] at he;cases he
  | true=>
   rw[hn] at he
   cases he
   obtain⟨r1,r2⟩:=h.hp.less (o':=(b,some (.box e (cs.set j (.sl c []))))::s.o) fun i ob hi=>by
    rw[AI] at hi
    by_cases fe:i=b
    ·rw[if_pos fe] at hi
     cases hi
     subst fe
     refine⟨.box e cs,hl,fun⟨vs,k1,k2⟩=>⟨vs,k1.set fun v hv=>?_,k2⟩,fun g=>Iff.rfl⟩
     obtain⟨w,k3,k4⟩:=k1.get hx
     rw[hv] at k3
     cases k3
     obtain⟨b,hb⟩:=YX hn k4
     exact Hv.sl_nil hb
    ·rw[if_neg fe] at hi
     exact⟨ob,hi,id,fun g=>Iff.rfl⟩
   exact⟨_,_,h.heap r2 r1⟩
 | seg i p=>
  unfold WB at he
  simp only at he
  split at he<;>try (cases he;done)
  rename_i e cs hl
  split at he<;>try (cases he;done)
  rename_i xs qs hd
  cases he
  obtain⟨r1,r2⟩:=h.hp.less (o':=(i,some (.rcd e xs))::s.o) fun k ob hi=>by
   rw[AI] at hi
   by_cases fe:k=i
   ·rw[if_pos fe] at hi
    cases hi
    subst fe
    exact⟨.box e cs,hl,fun⟨vs,k1,k2⟩=>⟨vs,TQ k1 hd hp,k2⟩,fun g=>Iff.rfl⟩
   ·rw[if_neg fe] at hi
    exact⟨ob,hi,id,fun g=>Iff.rfl⟩
  exact⟨_,_,h.heap r2 r1⟩
 | ty i c=>
  unfold WB at he
  simp only at he
  split at he<;>try (cases he;done)
  rename_i e sz els hl
  split at he<;>try (cases he;done)
  rename_i l qs o5
  cases he
  obtain⟨r1,r2⟩:=h.hp.less (o':=(i,some (.arr e sz (.ty c l)))::s.o) fun k ob hi=>by
   rw[AI] at hi
   by_cases fe:k=i
   ·rw[if_pos fe] at hi
    cases hi
    subst fe
    refine⟨.arr e sz els,hl,fun⟨zs,k1,k2⟩=>?_,fun g=>Iff.rfl⟩
    obtain⟨e1,_⟩:=Pe (F:=F) (N:=N) (nx:=s.nx) (R:=R) o5 hp
    have hr:=CZ.ty (els:=els) ⟨k1.1,k2⟩ o5 hp
    have hn:(EC.ty c l).n=els.n:=e1
    exact⟨zs,by rw[hn];exact k1,hr.2⟩
   ·rw[if_neg fe] at hi
    exact⟨ob,hi,id,fun g=>Iff.rfl⟩
  exact⟨_,_,h.heap r2 r1⟩
theorem Avc:∀{D:List Dir} {s s':St} {ps:List Prop},At Z a R s→adj E D s=some (s',ps)→(∀p∈ps,p)→At Z a R s'
 | [],s,s',ps,h,he,_=>by cases he;exact h
 |d::r,s,s',ps,h,he,hp=>by
  unfold adj at he
  split at he<;>try (cases he;done)
  rename_i s1 dg h1
  split at he<;>try (cases he;done)
  rename_i s2 ez h2
  cases he
  exact Avc (Bar h h1 fun p hm=>hp p (List.mem_append.2 (.inl hm))) h2 fun p hm=>hp p (List.mem_append.2 (.inr hm))
theorem Ay9:∀{D:List Dir} {s s':St} {ps:List Prop},adj E D s=some (s',ps)→Sub s s'
 | [],s,s',ps,he=>by cases he;exact Sub.refl _
 | d::r,s,s',ps,he=>by
  unfold adj at he
  split at he<;>try (cases he;done)
  rename_i s1 dg h1
  split at he<;>try (cases he;done)
  rename_i s2 ez h2
  cases he
  refine Sub.trans ?_ (Ay9 h2)
  cases d with
  |frz i=>exact⟨(VS h1).1,(VS h1).2⟩
  |nil u t c=>
   unfold WB at h1
   simp only at h1
   split at h1<;>try (cases h1;done)
   replace h1:=Cv h1
   cases h1
   exact⟨rfl,[_],rfl⟩
  |nilB b j t c=>
   unfold WB at h1
   simp only at h1
   split at h1<;>try (cases h1;done)
   split at h1<;>try (cases h1;done)
   replace h1:=Cv (Cv h1)
   cases h1
   exact⟨rfl,[_,_],rfl⟩
  |nilF u c=>
   unfold WB at h1
   simp only at h1
   split at h1<;>try (cases h1;done)
   replace h1:=Cv h1
   cases h1
   exact⟨rfl,[],rfl⟩
  |nilFB b j c=>
   unfold WB at h1
   simp only at h1
   split at h1<;>try (cases h1;done)
   split at h1<;>try (cases h1;done)
   replace h1:=Cv h1
   cases h1
   exact⟨rfl,[_],rfl⟩
  |seg i p=>
   unfold WB at h1
   simp only at h1
   split at h1<;>try (cases h1;done)
   split at h1<;>try (cases h1;done)
   cases h1
   exact⟨rfl,[_],rfl⟩
  |ty i c=>
   unfold WB at h1
   simp only at h1
   split at h1<;>try (cases h1;done)
   split at h1<;>try (cases h1;done)
   cases h1
   exact⟨rfl,[_],rfl⟩
end
def okL (nb nx1:Nat):Hl→Bool
 | []=>true
 |(k,j)::r=>Nat.blt j nx1&&((bif Nat.blt j nb then Nat.beq k j else true)&&(isNone (fwd r k)&&(isNone (bck r j)&&okL nb nx1 r)))
theorem Ani {nb nx1:Nat}:∀{L:Hl} {i j:Nat},okL nb nx1 L=true→fwd L i=some j→bck L j=some i∧j <nx1∧(j <nb→i=j)
 | [],i,j,_,h=>by cases h
 | (k,m)::r,i,j,h0,h=>by
  unfold okL at h0
  simp only[Bool.and_eq_true] at h0
  obtain⟨a1,a2,a3,a4,a5⟩:=h0
  unfold fwd at h
  cases hb:Nat.beq k i with
  | true=>
   rw[hb] at h
   cases h
   obtain rfl:=Nat.eq_of_beq_eq_true hb
   refine⟨?_,Nat.le_of_ble_eq_true a1,fun ae=>?_⟩
   ·unfold bck
    rw[KU]
    rfl
   ·rw[show Nat.blt m nb=true from Nat.ble_eq_true_of_le ae] at a2
    exact Nat.eq_of_beq_eq_true a2
  | false=>
   rw[hb] at h
   obtain⟨h1,h2⟩:=Ani a5 h
   refine⟨?_,h2⟩
   unfold bck
   cases hm:Nat.beq m j with
   |true=>
    obtain rfl:=Nat.eq_of_beq_eq_true hm
    rw[VW.1 a4] at h1
    cases h1
   |false=>exact h1
def Acd (nb:Nat) (L:Hl) (j:Nat):Nat:=bif Nat.blt j nb then j else match bck L j with
 |some k=>k
 |none=>0
def nm3 (N:Nm) (nb:Nat) (L:Hl):Nm:=⟨fun j=>N.b (Acd nb L j),fun j=>N.q (Acd nb L j)⟩
theorem A7f {nb nx1:Nat} {L:Hl} (h0:okL nb nx1 L=true) {i j:Nat} (h:fwd L i=some j):Acd nb L j=i:=by
 obtain⟨h1,_,h3⟩:=Ani h0 h
 unfold Acd
 cases hb:Nat.blt j nb with
 |true=>exact(h3 (Nat.le_of_ble_eq_true hb)).symm
 |false=>rw[h1];rfl
theorem Qy {nb:Nat} {L:Hl} {j:Nat} (h:j <nb):Acd nb L j=j:=by
 unfold Acd
 rw[show Nat.blt j nb=true from Nat.ble_eq_true_of_le h]
 rfl
theorem pk3 {N:Nm} {nb n nx1:Nat} {L:Hl} (h0:okL nb nx1 L=true):Pk (fwd L) N n (nm3 N nb L) nx1:=fun i j _ hj=>by
 have h1:=A7f h0 hj
 exact⟨(Ani h0 hj).2.1,by show N.b (Acd nb L j)=_;rw[h1],by show N.q (Acd nb L j)=_;rw[h1]⟩
def getD (u:Nat) (t:EO):A:=match C4 u t with
 |some x=>x
 |none=> .dead
def A08 (L:Hl) (t:EO):List Nat→EO
 | []=>[]
 |u::r=>(u,(getD u t).pk (fwd L))::A08 L t r
def SC (L:Hl) (o:AJ):List Nat→AJ
 | []=>[]
 | i::r=>match fwd L i with
  |some j=>(j,match Aq i o with
   |some ob=>some (ob.pk (fwd L))
   |none=>none)::SC L o r
  |none=>SC L o r
def A07 (nx1:Nat) (L:Hl) (us os:List Nat) (s:St):St:=⟨s.n,nx1,A08 L s.t us,SC L s.o os⟩
section
variable {Z:Eo} {F:Nat→Prop} {N N':Nm} {nx nx':Nat} {s:St} {a:Act} {R:World} {tm:Nat→Value} {ρ:Nat→Option Nat}
theorem HS.pk (st:Pk ρ N nx N' nx'):∀{x:A} {y:Value},HS F N nx R tm x y→HS F N' nx' R tm (x.pk ρ) y
 | .opt u b x,y,h=>by
  unfold A.pk
  simp only[HS] at h⊢
  exact⟨fun hb=>HS.pk st (h.1 hb),h.2⟩
 | .v _,_,h=>(Af (by unfold A.pk;rfl)).2 (((Af rfl).1 h).pk st)
 | .sl _ _,_,h=>(Af (by unfold A.pk;rfl)).2 (((Af rfl).1 h).pk st)
 | .ref _,_,h=>(Af (by unfold A.pk;rfl)).2 (((Af rfl).1 h).pk st)
 | .nl,_,h=>(Af (by unfold A.pk;rfl)).2 (((Af rfl).1 h).pk st)
 | .it _ _,_,h=>(Af (by unfold A.pk;rfl)).2 (((Af rfl).1 h).pk st)
 | .fn _ _ _,_,h=>(Af (by unfold A.pk;rfl)).2 (((Af rfl).1 h).pk st)
 | .agg _,_,h=>(Af (by unfold A.pk;rfl)).2 (((Af rfl).1 h).pk st)
 | .tup _,_,h=>(Af (by unfold A.pk;rfl)).2 (((Af rfl).1 h).pk st)
 | .dead,_,h=>(Af (by unfold A.pk;rfl)).2 (((Af rfl).1 h).pk st)
 | .own _ _,_,h=>(Af (((Af rfl).1 h).pk st).isPlain).2 (((Af rfl).1 h).pk st)
 | .ownx _ _ _ _,_,h=>(Af (((Af rfl).1 h).pk st).isPlain).2 (((Af rfl).1 h).pk st)
 | .sq _,_,h=>(Af (((Af rfl).1 h).pk st).isPlain).2 (((Af rfl).1 h).pk st)
 | .dq _,_,h=>(Af (((Af rfl).1 h).pk st).isPlain).2 (((Af rfl).1 h).pk st)
 | .iv _ _,_,h=>(Af (((Af rfl).1 h).pk st).isPlain).2 (((Af rfl).1 h).pk st)
 | .de _ _ _ _,_,h=>(Af (((Af rfl).1 h).pk st).isPlain).2 (((Af rfl).1 h).pk st)
 | .ie _ _ _ _ _,_,h=>(Af (((Af rfl).1 h).pk st).isPlain).2 (((Af rfl).1 h).pk st)
 | .vw _ _ _ _ _,_,h=>(Af (((Af rfl).1 h).pk st).isPlain).2 (((Af rfl).1 h).pk st)
 | .el _ _ _ _,_,h=>(Af (((Af rfl).1 h).pk st).isPlain).2 (((Af rfl).1 h).pk st)
 | .mp _,_,h=>(Af (((Af rfl).1 h).pk st).isPlain).2 (((Af rfl).1 h).pk st)
 | .av _ _ _,_,h=>(Af (by unfold A.pk;rfl)).2 (((Af rfl).1 h).pk st)
 | .rv _,_,h=>(Af (by unfold A.pk;rfl)).2 (((Af rfl).1 h).pk st)
 | .vr _ _ _ _,_,h=>(Af (((Af rfl).1 h).pk st).isPlain).2 (((Af rfl).1 h).pk st)
 | .vd _ _ _ _,_,h=>(Af (((Af rfl).1 h).pk st).isPlain).2 (((Af rfl).1 h).pk st)
 | .yl _,_,h=>(Af (((Af rfl).1 h).pk st).isPlain).2 (((Af rfl).1 h).pk st)
theorem Af5 {L:Hl} {t:EO} {u:Nat} {x:A}:∀{us:List Nat},C4 u (A08 L t us)=some x→x=(getD u t).pk (fwd L)
 | [],h=>by cases h
 |v::r,h=>by
  have h':(bif Nat.beq v u then some ((getD v t).pk (fwd L)) else C4 u (A08 L t r))=some x:=h
  cases hb:Nat.beq v u with
  |true=>rw[hb] at h';obtain rfl:=Nat.eq_of_beq_eq_true hb;cases h';rfl
  |false=>rw[hb] at h';exact Af5 h'
theorem NS {L:Hl} {o:AJ} {j:Nat} {ak:Ob}:∀{os:List Nat},Aq j (SC L o os)=some ak→∃i ob,i∈os∧fwd L i=some j∧Aq i o=some ob∧ak=ob.pk (fwd L)
 | [],h=>by cases h
 | i::r,h=>by
  unfold SC at h
  cases hf:fwd L i with
  |none=>
   rw[hf] at h
   obtain⟨i',ob,h1,h2⟩:=NS h
   exact⟨i',ob,List.mem_cons_of_mem _ h1,h2⟩
  | some m=>
   rw[hf] at h
   have h':(bif Nat.beq m j then(match Aq i o with|some ob=>some (ob.pk (fwd L))|none=>none) else Aq j (SC L o r))=some ak:=h
   cases hb:Nat.beq m j with
   |true=>
    rw[hb] at h'
    obtain rfl:=Nat.eq_of_beq_eq_true hb
    simp only[cond_true] at h'
    split at h'<;>first|(cases h';done)|skip
    rename_i ob fh
    cases h'
    exact⟨i,ob,List.mem_cons_self ..,hf,fh,rfl⟩
   |false=>
    rw[hb] at h'
    obtain⟨i',ob,h1,h2⟩:=NS h'
    exact⟨i',ob,List.mem_cons_of_mem _ h1,h2⟩
theorem Az9 (h:Rel Z F N s a R) (u:Nat):HS F N s.nx R (Bo a) (getD u s.t) (Bo a u):=by
 unfold getD
 split
 ·rename_i x hx;exact h.slots u x hx
 ·exact(Af rfl).2 (.dead _)
theorem Rel.pick (h:Rel Z F N s a R) {nb nx1:Nat} {L:Hl} (h0:okL nb nx1 L=true) (hz:Z.nx≤nb) (j4:Z.nx≤nx1) (us os:List Nat):Rel Z F (nm3 N nb L) (A07 nx1 L us os s) a R∧∀g,EN (nm3 N nb L) (A07 nx1 L us os s).o g→EN N s.o g:=by
 obtain⟨q1,q2⟩:=h.hp.pk (o':=SC L s.o os) (pk3 (N:=N) (n:=s.nx) h0) fun j ak hj=>by
  obtain⟨i,ob,_,h1,h2⟩:=NS hj
  exact⟨i,ob,h1,h2⟩
 refine⟨⟨h.defers,h.size,fun u x hu=>?_,q1,⟨j4,fun i hi=>?_,fun i hi=>?_,h.st.f,h.st.fnew,fun g hg=>h.st.foot g (q2 g hg),h.st.os,h.st.tape,h.st.output,h.st.size,h.st.keep⟩,h.tm⟩,q2⟩
 ·rw[Af5 hu]
  exact(Az9 h u).pk (pk3 h0)
 ·show N.b (Acd nb L i)=_
  rw[Qy (by omega)]
  exact h.st.b i hi
 ·show N.q (Acd nb L i)=_
  rw[Qy (by omega)]
  exact h.st.q i hi
end
def A04 (t:EO):List Nat→EO
 | []=>[]
 |u::r=>(u,getD u t)::A04 t r
def Aay (o:AJ):List Nat→AJ
 | []=>[]
 |i::r=>(i,Aq i o)::Aay o r
def Ag4 (us os:List Nat) (s:St):St:=⟨s.n,s.nx,A04 s.t us,Aay s.o os⟩
def K2 (us os:List Nat):BG→BG
 | []=>[]
 |(t,c,s)::r=>(t,c,Ag4 us os s)::K2 us os r
structure E2 where
 nb:Nat
 nx1:Nat
 us:List Nat
 dirs:List Dir
 ren:Hl
 os:List Nat
 usO:List Nat
 osO:List Nat
def Ahj (E:Env) (u:Nat) (b:Code) (S:E2) (s:St):Option (List Prop×BG×DB×St):=
 let r:=MR E u 0 b false s
 match r.nrm with
 |some s1=>match adj E S.dirs s1 with
  |some (s2,qs)=>some (r.ps++Pm (A2g (Jv r.outs)) qs,K2 S.usO S.osO r.outs,Jv r.outs,A07 S.nx1 S.ren S.us S.os s2)
  |none=>none
 |none=>none
section
variable {X:Type} (next:X→X) (goes:X→DB)
def Bj:Nat→X→X
 |0,x=>x
 |n+1,x=>bif Br (goes x) then Bj n (next x) else x
def A3 (ps:X→List Prop):Nat→X→Prop
 |0,x=>(∀p∈ps x,p)∧Br (goes x)=false
 |n+1,x=>(∀p∈ps x,p)∧(Br (goes x)=true→A3 ps n (next x))
end
section
variable {Z:Eo} {F:Nat→Prop} {N:Nm} {s:St} {a:Act} {R:World}
theorem Af4 {t:EO} {u:Nat} {x:A}:∀{us:List Nat},C4 u (A04 t us)=some x→x=getD u t
 | [],h=>by cases h
 |v::r,h=>by
  have h':(bif Nat.beq v u then some (getD v t) else C4 u (A04 t r))=some x:=h
  cases hb:Nat.beq v u with
  |true=>rw[hb] at h';obtain rfl:=Nat.eq_of_beq_eq_true hb;cases h';rfl
  |false=>rw[hb] at h';exact Af4 h'
theorem KZ {o:AJ} {i:Nat} {ob:Ob}:∀{os:List Nat},Aq i (Aay o os)=some ob→Aq i o=some ob∧i∈os
 | [],h=>by cases h
 |k::r,h=>by
  have h':(bif Nat.beq k i then Aq k o else Aq i (Aay o r))=some ob:=h
  cases hb:Nat.beq k i with
  |true=>rw[hb] at h';obtain rfl:=Nat.eq_of_beq_eq_true hb;exact⟨h',List.mem_cons_self ..⟩
  |false=>rw[hb] at h';exact⟨(KZ h').1,List.mem_cons_of_mem _ (KZ h').2⟩
theorem Rel.part (h:Rel Z F N s a R) (us os:List Nat):Rel Z F N (Ag4 us os s) a R:=by
 have ho:∀i ob,Aq i (Aay s.o os)=some ob→Aq i s.o=some ob:=fun i ob hi=>(KZ hi).1
 refine⟨h.defers,h.size,fun u x hu=>?_,h.hp.weak ho,h.st.trans (Step.weak ho),h.tm⟩
 rw[Af4 hu]
 exact Az9 h u
theorem Pl {us os:List Nat} {t:Tag}:∀{o:BG},AZ t (K2 us os o)=match AZ t o with|some (c,s)=>some (c,Ag4 us os s)|none=>none
 | []=>rfl
 |(k,c,s)::r=>by
  show(bif E1 k t then some (c,Ag4 us os s) else AZ t (K2 us os r))=match(bif E1 k t then some (c,s) else AZ t r) with|some (c,s)=>some (c,Ag4 us os s)|none=>none
  cases E1 k t with
  |true=>rfl
  |false=>exact Pl
theorem Marks.less {n:Nat} {F:Nat→Prop} {N N':Nm} {o o':AJ} {R:World} {ms:List Deferred} (h:Marks n F N o R ms) (hf:∀g,EN N' o' g→EN N o g):Marks n F N' o' R ms:=
 ⟨h.1,fun d hd=>let⟨D,e,h1,h2,h3,h4⟩:=h.2 d hd;⟨D,e,h1,h2,fun hg=>h3 (hf D hg),h4⟩⟩
theorem LN.lift {Z:Eo} {a:Act} {R:World} {s s':St} (h:LN Z a R s) (hf:∀Z',At Z' a R s→At Z' a R s'):LN Z a R s':=by
 obtain⟨ms,F,N,h,hm⟩:=h
 obtain⟨F1,N1,h1⟩:=hf _ ⟨F,N,h.start []⟩
 exact⟨ms,F1,N1,h.over h1 (fun u hu=>by cases hu),hm.step h1.st⟩
theorem Bcd {E:Env} (ok:Kh E) {u:Nat} {b:Code} {S:E2} {X:Type} {T:X→St} {next:X→X} {goes:X→DB} {psA ps:X→List Prop} {outs:X→BG} (hS:okL S.nb S.nx1 S.ren=true) (ia:S.nb≤S.nx1) (hr:∀x,Ahj E u b S (T x)=some (psA x,outs x,goes x,T (next x))) (hA:∀x,(∀p∈ps x,p)→∀p∈psA x,p) {Z:Eo} (hz:Z.nx≤S.nb) (hW:∀u,Ma u (MQ b)=true→Z.W u) {Q:Exit→Act→World→Prop}:∀(n:Nat) (x:X) (a:Act) (R:World),LN Z a R (T x)→A3 next goes ps n x→
   (∀e y a' R',Oc ⟨[],outs (Bj next goes n x),none⟩ e y→LN Z a' R' y→Q e a' R')→TO E.ir E.P b Q (n+1) a R:=by
 intro n
 induction n with
 | zero=>
  intro x a R h hn hk
  obtain⟨h1,h2⟩:=hn
  have hx:=hr x
  unfold Ahj at hx
  simp only at hx
  split at hx<;>try (cases hx;done)
  rename_i s1 i9
  split at hx<;>try (cases hx;done)
  rename_i s2 qs mv
  injection hx with hx
  injection hx with e1 hx
  injection hx with e2 hx
  injection hx with e3 e4
  replace h1:=hA x h1
  rw[←e1] at h1
  refine G1 ok 0 b false Z (T x) a R _ h hW (Ki h1).1 fun e y a' R' ho hy=>?_
  have hwf:=Er ok (u:=u) 0 b false (T x)
  rcases ho with⟨t,cc,rfl,g1,g2,g3⟩|⟨rfl,g1,g2⟩
  ·have:Oc ⟨[],outs x,none⟩ (Tag.ex t) (Ag4 S.usO S.osO y):=by
    rw[←e2]
    refine .inl ⟨t,cc,rfl,by show AZ t (K2 _ _ _)=_;rw[Pl,g1],g2,fun t' c' s' ao hg=>?_⟩
    have af:AZ t' (K2 S.usO S.osO (MR E u 0 b false (T x)).outs)=some (c',s'):=hg
    rw[Pl] at af
    cases h5:AZ t' (MR E u 0 b false (T x)).outs with
    |none=>rw[h5] at af;cases af
    |some z=>obtain⟨c1,z⟩:=z;rw[h5] at af;cases af;exact g3 t' _ z ao h5
   have:=hk _ _ a' R' this (hy.lift fun Z' ⟨F,N,h⟩=>⟨F,N,h.part _ _⟩)
   cases t<;>exact this
  ·exfalso
   have:=MV hwf.once g2
   rw[e3,h2] at this
   cases this
 | succ n ih=>
  intro x a R h hn hk
  obtain⟨h1,h2⟩:=hn
  have hx:=hr x
  unfold Ahj at hx
  simp only at hx
  split at hx<;>try (cases hx;done)
  rename_i s1 i9
  split at hx<;>try (cases hx;done)
  rename_i s2 qs mv
  injection hx with hx
  injection hx with e1 hx
  injection hx with e2 hx
  injection hx with e3 e4
  replace h1:=hA x h1
  rw[←e1] at h1
  refine G1 ok 0 b false Z (T x) a R _ h hW (Ki h1).1 fun e y a' R' ho hy=>?_
  have hwf:=Er ok (u:=u) 0 b false (T x)
  rcases ho with⟨t,cc,rfl,g1,g2,g3⟩|⟨rfl,g1,g2⟩
  ·have hc:Br (goes x)=false:=by rw[←e3];exact Ze g1 g2
   have hi:Bj next goes (n+1) x=x:=by unfold Bj;rw[hc];rfl
   rw[hi] at hk
   have:Oc ⟨[],outs x,none⟩ (Tag.ex t) (Ag4 S.usO S.osO y):=by
    rw[←e2]
    refine .inl ⟨t,cc,rfl,by show AZ t (K2 _ _ _)=_;rw[Pl,g1],g2,fun t' c' s' ao hg=>?_⟩
    have af:AZ t' (K2 S.usO S.osO (MR E u 0 b false (T x)).outs)=some (c',s'):=hg
    rw[Pl] at af
    cases h5:AZ t' (MR E u 0 b false (T x)).outs with
    |none=>rw[h5] at af;cases af
    |some z=>obtain⟨c1,z⟩:=z;rw[h5] at af;cases af;exact g3 t' _ z ao h5
   have:=hk _ _ a' R' this (hy.lift fun Z' ⟨F,N,h⟩=>⟨F,N,h.part _ _⟩)
   cases t<;>exact this
  ·have hc:Br (goes x)=true:=by rw[←e3];exact MV hwf.once g2
   have hi:Bj next goes (n+1) x=Bj next goes n (next x):=by
    show(bif Br (goes x) then _ else _)=_
    rw[hc];rfl
   rw[hi] at hk
   rw[i9] at g1
   obtain rfl:=Option.some.inj g1
   have hq:∀p∈qs,p:=JU (Ki h1).2 (Amo (by rw[e3];exact hc))
   obtain⟨ms,F,N,h3,hm⟩:=hy.lift fun Z' h=>Avc h mv hq
   obtain⟨h4,h5⟩:=h3.pick hS hz (Nat.le_trans hz ia) S.us S.os
   have kl:=hm.less h5
   rw[e4] at h4 kl
   exact ih (next x) a' R' ⟨ms,F,_,h4,kl⟩ (h2 hc) hk
end
def JS (l:Nat):Code→Option Code
 | .seq a b=>match JS l a with
  |some c=>some c
  |none=>JS l b
 | .cond _ a b=>match JS l a with
  |some c=>some c
  |none=>JS l b
 | .block id b=>match Nat.beq id l,b with
  |true,.loop c=>some c
  |_,_=>JS l b
 | .loop b=>JS l b
 | .scope b=>JS l b
 | .rangeFunc _ _ _ b=>JS l b
 |_=>none
def AQ (P:Program) (f:FuncId) (l:Nat):Code:=match P.funcs[f]? with
 | some fn=>match fn.body with
  |some c=>match JS l c with
   |some b=>b
   |none=> .skip
  |none=> .skip
 |none=> .skip
def A48 (l0:Nat) (g:St→Option (Code×List Prop×BG)) (L:Ry):Ry:=fun l s=>bif Nat.beq l l0 then(bif Nat.ble rfK l then none else g s) else L l s
def A5a (l0:Nat) (g:St→Option (Code×List Prop×BG)) (L:Ry):Ry:=fun l s=>bif Nat.beq l (rfK+l0) then g s else L l s
def WZ:List Nat→EO
 | []=>[]
 |u::r=>(u,.dead)::WZ r
def Agc:List Nat→AJ
 | []=>[]
 |i::r=>(i,none)::Agc r
def RR (W os:List Nat) (sA st:St):St:=⟨sA.n,st.nx,st.t++(WZ W++Se W sA.t),st.o++(Agc os++sA.o)⟩
def KW (W os:List Nat) (sA:St):BG→BG
 | []=>[]
 |(t,c,s)::r=>(t,c,RR W os sA s)::KW W os sA r
structure Fz where
 dirs:List Dir
 ren:Hl
 us:List Nat
 os:List Nat
def Jg (E:Env) (b:Code) (S:E2) (En:Fz) {X:Type} (mf:St→Option X) (fuel:X→Nat) (next:X→X) (goes:X→DB) (ps:X→List Prop) (outs:X→BG) (s:St):Option (Code×List Prop×BG):=
 match adj E En.dirs s with
 |some (sA,qs)=>bif Nat.beq sA.nx S.nb then(bif okL S.nb S.nx1 En.ren then(match mf (A07 S.nx1 En.ren En.us En.os sA) with
  |some x=>some (b,qs++[A3 next goes ps (fuel x) x],KW (MQ b) En.os sA (outs (Bj next goes (fuel x) x)))
  |none=>none) else none) else none
 |none=>none
section
theorem A0f {u:Nat}:∀{W:List Nat},Ma u W=true→C4 u (WZ W)=some .dead
 | [],h=>by cases h
 | k::r,h=>by
  show(bif Nat.beq k u then some A.dead else C4 u (WZ r))=_
  cases hb:Nat.beq k u with
  |true=>rfl
  |false=>
   have h':(bif Nat.beq k u then true else Ma u r)=true:=h
   rw[hb] at h'
   exact A0f h'
theorem Af3 {u:Nat} {x:A}:∀{W:List Nat},C4 u (WZ W)=some x→x=.dead
 | [],h=>by cases h
 |k::r,h=>by
  have h':(bif Nat.beq k u then some A.dead else C4 u (WZ r))=some x:=h
  cases hb:Nat.beq k u with
  |true=>rw[hb] at h';cases h';rfl
  |false=>rw[hb] at h';exact Af3 h'
theorem Sk {i:Nat}:∀{os:List Nat},Aq i (Agc os)=none
 | []=>rfl
 |k::r=>by
  show(bif Nat.beq k i then none else Aq i (Agc r))=none
  cases Nat.beq k i with
  |true=>rfl
  |false=>exact Sk
theorem Aan {i:Nat}:∀{os:List Nat},i∈os→i∈Jc (Agc os)
 | [],h=>by cases h
 |k::r,h=>by
  rcases List.mem_cons.1 h with rfl|h
  ·exact List.mem_cons_self ..
  ·exact List.mem_cons_of_mem _ (Aan h)
theorem Pi {W os:List Nat} {sA:St} {t:Tag}:∀{o:BG},AZ t (KW W os sA o)=match AZ t o with|some (c,s)=>some (c,RR W os sA s)|none=>none
 | []=>rfl
 |(k,c,s)::r=>by
  show(bif E1 k t then some (c,RR W os sA s) else AZ t (KW W os sA r))=match(bif E1 k t then some (c,s) else AZ t r) with|some (c,s)=>some (c,RR W os sA s)|none=>none
  cases E1 k t with
  |true=>rfl
  |false=>exact Pi
theorem Ale {W os:List Nat} {sA:St}:∀{o:BG},LO o→LO (KW W os sA o)
 | [],_=>trivial
 |(k,c,s)::r,⟨h1,h2⟩=>⟨by rw[Pi,h1],Ale h2⟩
theorem Ba4 {Z:Eo} {F F':Nat→Prop} {N N':Nm} {sA st:St} {a a':Act} {R R':World} {nb nx1:Nat} {L:Hl} {os W:List Nat} (h:Rel Z F N sA a R) (hn:st.n=sA.n) (hW:∀u,Ma u W=true→Z.W u) (ia:sA.nx=nb) (hL:okL nb nx1 L=true) (h':Rel ⟨F,nm3 N nb L,nb,SC L sA.o os,R,Bo a,fun u=>Ma u W=true,a.defers⟩ F' N' st a' R'):Rel Z F' N' (RR W os sA st) a' R'∧Step F N sA.nx sA.o R F' N' (RR W os sA st).nx (RR W os sA st).o R'∧∀g,EN N' (RR W os sA st).o g→EN N' st.o g∨g <R.heap.size:=by
 subst ia
 let o1:=Aay sA.o os
 have ho1:∀i ob,Aq i o1=some ob→Aq i sA.o=some ob:=fun i ob hi=>(KZ hi).1
 have au:∀g,EN (nm3 N sA.nx L) (SC L sA.o os) g→EN N o1 g:=fun g ⟨j,ak,hj,hg⟩=>by
  obtain⟨i,ob,hi,h1,h2,rfl⟩:=NS hj
  have ae:=(h.hp.ob i ob h2).1
  refine⟨i,ob,?_,(Xb (pk3 (N:=N) (n:=sA.nx) hL) ae h1).1 hg⟩
  have:∀{l:List Nat},i∈l→Aq i (Aay sA.o l)=Aq i sA.o:=fun {l}=>by
   induction l with
   |nil=>intro hm;cases hm
   | cons k r ih=>
    intro hm
    show(bif Nat.beq k i then Aq k sA.o else Aq i (Aay sA.o r))=_
    cases hb:Nat.beq k i with
    |true=>rw[Nat.eq_of_beq_eq_true hb];rfl
    |false=>
     rcases List.mem_cons.1 hm with rfl|hm
     ·simp at hb
     ·exact ih hm
  rw[this hi]
  exact h2
 have zu:Step F N sA.nx o1 R F' N' st.nx st.o R':=⟨h'.st.le,fun i hi=>by
   have:=h'.st.b i hi
   rw[this]
   show N.b (Acd sA.nx L i)=_
   rw[Qy hi],fun i hi=>by
   have:=h'.st.q i hi
   rw[this]
   show N.q (Acd sA.nx L i)=_
   rw[Qy hi],h'.st.f,fun g hg=>by
   rcases h'.st.fnew g hg with h1|h1|h1
   ·exact .inl h1
   ·exact .inr (.inl (au g h1))
   ·exact .inr (.inr h1),fun g hg=>by
   rcases h'.st.foot g hg with h1|h1
   ·exact .inl (au g h1)
   ·exact .inr h1,h'.st.os,h'.st.tape,h'.st.output,h'.st.size,fun g hg hn=>h'.st.keep g hg fun hf=>hn (au g hf)⟩
 obtain⟨q1,q2⟩:=h.hp.frame (o':=st.o++(Agc os++sA.o)) ho1 zu h'.hp fun i ob hi=>by
  rcases H6 hi with⟨_,h1⟩|⟨_,h1⟩
  ·exact .inl h1
  ·rcases H6 h1 with⟨_,h2⟩|⟨h2,h3⟩
   ·rw[Sk] at h2;cases h2
   ·refine .inr ⟨h3,?_⟩
    cases h4:Aq i o1 with
    |none=>rfl
    |some pe=>exact absurd (Aan (KZ h4).2) h2
 have o4:∀u,Ma u W=false→Bo a' u=Bo a u:=fun u hu=>h'.tm u fun hh=>by
  have lv:Ma u W=true:=hh
  rw[hu] at lv;cases lv
 refine⟨⟨h'.defers.trans h.defers,h'.size.trans hn,fun u x hu=>?_,q1,h.st.trans q2,fun u hu=>?_⟩,q2,fun g ⟨i,ob,hi,hg⟩=>?_⟩
 rotate_left 2
 ·rcases H6 hi with⟨_,h1⟩|⟨_,h1⟩
  ·exact .inl ⟨i,ob,h1,hg⟩
  ·rcases H6 h1 with⟨_,h2⟩|⟨h2,h3⟩
   ·rw[Sk] at h2;cases h2
   ·obtain⟨k1,k2⟩:=h.hp.ob i ob h3
    exact .inr (k2.lt ((DE (q2.ext h.hp) k1).1 hg))
 ·have f6:C4 u (st.t++(WZ W++Se W sA.t))=some x:=hu
  rw[NT] at f6
  cases h1:C4 u st.t with
  |some y=>rw[h1] at f6;cases f6;exact h'.slots u x h1
  | none=>
   rw[h1] at f6
   have hu2:C4 u (WZ W++Se W sA.t)=some x:=f6
   rw[NT] at hu2
   cases h2:C4 u (WZ W) with
   |some y=>rw[h2] at hu2;cases hu2;rw[Af3 h2];exact(Af rfl).2 (.dead _)
   | none=>
    rw[h2] at hu2
    have zh:C4 u (Se W sA.t)=some x:=hu2
    have hw:Ma u W=false:=by
     cases hw:Ma u W with
     |false=>rfl
     |true=>rw[A0f hw] at h2;cases h2
    rcases QA zh with rfl|⟨k1,k2⟩
    ·exact(Af rfl).2 (.dead _)
    ·rw[o4 u hw]
     exact HS.congrW o4 k2 ((h.slots u x k1).step (q2.ext h.hp))
 ·rw[h'.tm u fun hw=>hu (hW u hw)]
  exact h.tm u hu
theorem Bda {E:Env} (ok:Kh E) {u:Nat} {b:Code} {S:E2} {En:Fz} {X:Type} {T:X→St} {mf:St→Option X} {fuel:X→Nat} {next:X→X} {goes:X→DB} {psA ps:X→List Prop} {outs:X→BG} (hS:okL S.nb S.nx1 S.ren=true) (ia:S.nb≤S.nx1) (hr:∀x,Ahj E u b S (T x)=some (psA x,outs x,goes x,T (next x))) (hA:∀x,(∀p∈ps x,p)→∀p∈psA x,p) (hu:∀s x,mf s=some x→s=T x) (hw:∀x,LO (outs x)∧∀t c y,AZ t (outs x)=some (c,y)→y.n=(T x).n) (q8:∀x y,(T x).n=(T y).n) {s:St} {b0:Code} {qs:List Prop} {os:BG} (he:Jg E b S En mf fuel next goes ps outs s=some (b0,qs,os)):
  Wf s ⟨qs,os,none⟩∧Adw E b0 s qs os:=by
 unfold Jg at he
 split at he<;>try (cases he;done)
 rename_i sA dg uh
 cases jj:Nat.beq sA.nx S.nb with
 |false=>rw[jj] at he;cases he
 | true=>
  cases lz:okL S.nb S.nx1 En.ren with
  |false=>rw[jj,lz] at he;cases he
  | true=>
   rw[jj,lz] at he
   simp only[cond_true] at he
   split at he<;>try (cases he;done)
   rename_i x hx
   cases he
   have hnx:=Nat.eq_of_beq_eq_true jj
   have hT:=hu _ _ hx
   have hsub:=Ay9 uh
   have y7:∀y,(T y).n=sA.n:=fun y=>by rw[q8 y x,←hT];rfl
   refine⟨⟨fun t c y hy=>?_,fun y hy=>(by cases hy),Ale (hw _).1⟩,?_⟩
   ·have hy':AZ t (KW (MQ b) En.os sA (outs (Bj next goes (fuel x) x)))=some (c,y):=hy
    rw[Pi] at hy'
    split at hy'<;>first|(cases hy';done)|skip
    cases hy'
    obtain⟨d,hd⟩:=hsub.seq
    exact⟨hsub.n,by show ∃d,_++(Agc En.os++sA.o)=d++s.o;rw[hd];exact⟨_,by rw[←List.append_assoc,←List.append_assoc]⟩⟩
   ·intro Z a R Q h hW hp hk
    have dn:∀p∈dg,p:=fun p hm=>hp p (List.mem_append.2 (.inl hm))
    have oq:A3 next goes ps (fuel x) x:=hp _ (List.mem_append.2 (.inr (List.mem_singleton.2 rfl)))
    obtain⟨ms,F1,N1,h1,u7⟩:=h.lift fun Z' h=>Avc h uh dn
    obtain⟨hpick,_⟩:=(h1.start (MQ b)).pick (L:=En.ren) lz (by show sA.nx≤S.nb;omega) (by show sA.nx≤S.nx1;omega) En.us En.os
    have hrel:Rel ⟨F1,nm3 N1 S.nb En.ren,S.nb,SC En.ren sA.o En.os,R,Bo a,fun u=>Ma u (MQ b)=true,a.defers⟩ F1 (nm3 N1 S.nb En.ren) (T x) a R:=by
     rw[←hT]
     exact⟨hpick.defers,hpick.size,hpick.slots,hpick.hp,⟨ia,fun _ _=>rfl,fun _ _=>rfl,fun _ h=>h,fun _ h=> .inl h,fun _ h=> .inl h,rfl,rfl,rfl,Nat.le_refl _,fun _ _ _=>rfl⟩,fun _ _=>rfl⟩
    refine Rx (fuel x+1) (Bcd ok (u:=u) (b:=b) hS ia hr hA (Nat.le_refl _) (fun u hu=>hu) (fuel x) x a R (LN.of hrel) oq fun e y a' R' ho ⟨td,F2,N2,hy,og⟩=>?_)
    rcases ho with⟨t,c,rfl,g1,g2,g3⟩|⟨rfl,g1,g2⟩
    ·have ua:AZ t (outs (Bj next goes (fuel x) x))=some (c,y):=g1
     have y4:y.n=sA.n:=by rw[(hw _).2 t c y ua,y7]
     obtain⟨q1,q2,q3⟩:=Ba4 h1 y4 hW hnx lz (hy.defs (Z':=⟨F1,nm3 N1 S.nb En.ren,S.nb,SC En.ren sA.o En.os,R,Bo a,fun u=>Ma u (MQ b)=true,a.defers⟩) rfl)
     have y1:Marks R.heap.size F2 N2 (RR (MQ b) En.os sA y).o R' td:=⟨og.1,fun d hd=>by
      obtain⟨D,e,k1,k2,k3,k4⟩:=og.2 d hd
      refine⟨D,e,k1,k2,fun hg=>?_,k4⟩
      rcases q3 D hg with hg|hg
      ·exact k3 hg
      ·have k1':R.heap.size≤D:=k1
       omega⟩
     have ow:LN (IM F1 N1 sA a R (MQ b)) a' R' (RR (MQ b) En.os sA y):=⟨td,F2,N2,⟨hy.defers,q1.size,q1.slots,q1.hp,q2,fun u hu=>hy.tm u hu⟩,y1⟩
     refine hk _ (RR (MQ b) En.os sA y) a' R' (.inl ⟨t,c,rfl,by show AZ t (KW _ _ _ _)=_;rw[Pi,ua],g2,fun t' c' s' ao hg=>?_⟩) (LN.over h1 u7 hW ow)
     have af:AZ t' (KW (MQ b) En.os sA (outs (Bj next goes (fuel x) x)))=some (c',s'):=hg
     rw[Pi] at af
     split at af<;>first|(cases af;done)|skip
     rename_i c1 z hz
     cases af
     exact g3 t' _ z ao hz
    ·cases g1
end
def zc:TC→List Value
 | .u8=>[.int .u8 0]
 | .i64=>[.int .i64 0]
 | .u32=>[.int .u32 0]
 | .bool=>[.bool false]
 | .str=>[.string ByteArray.empty]
 | .bytes=>[.slice none 0 0]
 | .ints=>[.slice none 0 0]
 | .cells=>[.slice none 0 0]
 | .rows=>[.slice none 0 0]
 | .digest=>List.replicate 32 (.int .u8 0)
 |c=>(enc c (Ao c)).map fun x=>match x with
  | .v y=>y
  |_=> .slice none 0 0
theorem Blo (c:TC) (F:Nat→Prop) (N:Nm) (nx:Nat) (R:World):HL F N nx R (enc c (Ao c)) (zc c):=by
 cases c<;>(repeat' (first|exact HL.nil|exact Hv.v _|exact Hv.sl_nil rfl|apply HL.cons))
def Hn (P:Program) (t:TypeId):Option (Nat×Option (List Value)):=(P.info? t).map fun i=>(i.size,i.zero.map fun z=>z.cells.toList)
theorem A9t {P:Program} {t:TypeId} {c:TC} (h:Hn P t=some (size c,some (zc c))) (h0:0 <size c):∃i,P.info? t=some i∧i.size=size c∧0 <size c∧∃z,i.zero=some z∧∀(F:Nat→Prop) (N:Nm) (nx:Nat) (R:World),HL F N nx R (enc c (Ao c)) z.cells.toList:=by
 unfold Hn at h
 cases hi:P.info? t with
 |none=>rw[hi] at h;cases h
 | some i=>
  rw[hi] at h
  have h':some (i.size,i.zero.map fun z=>z.cells.toList)=some (size c,some (zc c)):=h
  injection h' with h'
  injection h' with h1 h2
  cases hz:i.zero with
  |none=>rw[hz] at h2;cases h2
  |some z=>
   rw[hz] at h2
   injection h2 with h2
   have h3:z.cells.toList=zc c:=h2
   exact⟨i,rfl,h1,h0,z,hz,fun F N nx R=>by rw[h3];exact Blo c F N nx R⟩
theorem A83 (c:TC):0 <size c:=by cases c<;>decide
def Auw (t:TypeId):Option TC:=bif Nat.beq t 2 then some .i64 else bif Nat.beq t 3 then some .i64 else bif Nat.beq t 4 then some .bool else bif Nat.beq t 5 then some .u8 else bif Nat.beq t 9 then some .str else bif Nat.beq t 24 then some .stamp else bif Nat.beq t 25 then some .vec else bif Nat.beq t 26 then some .vec else bif Nat.beq t 29 then some .change else bif Nat.beq t 30 then some .ints else bif Nat.beq t 32 then some .rows else bif Nat.beq t 34 then some .msg else bif Nat.beq t 35 then some .bytes else bif Nat.beq t 38 then some .i64 else bif Nat.beq t 45 then some .u32 else bif Nat.beq t 56 then some .digest else bif Nat.beq t 58 then some .cells else bif Nat.beq t 60 then some .row else bif Nat.beq t 85 then some .write else bif Nat.beq t 87 then some .cell else bif Nat.beq t 89 then some .group else bif Nat.beq t 125 then some .place else none
theorem Bdn:Hn Tryd.prog 2=some (size .i64,some (zc .i64)):=by kernel_rfl
theorem Bdo:Hn Tryd.prog 3=some (size .i64,some (zc .i64)):=by kernel_rfl
theorem Bdp:Hn Tryd.prog 4=some (size .bool,some (zc .bool)):=by kernel_rfl
theorem Bdq:Hn Tryd.prog 5=some (size .u8,some (zc .u8)):=by kernel_rfl
theorem Bdr:Hn Tryd.prog 9=some (size .str,some (zc .str)):=by kernel_rfl
theorem A9d:Hn Tryd.prog 24=some (size .stamp,some (zc .stamp)):=by kernel_rfl
theorem A9e:Hn Tryd.prog 25=some (size .vec,some (zc .vec)):=by kernel_rfl
theorem A9f:Hn Tryd.prog 26=some (size .vec,some (zc .vec)):=by kernel_rfl
theorem A9g:Hn Tryd.prog 29=some (size .change,some (zc .change)):=by kernel_rfl
theorem A9h:Hn Tryd.prog 30=some (size .ints,some (zc .ints)):=by kernel_rfl
theorem A9i:Hn Tryd.prog 32=some (size .rows,some (zc .rows)):=by kernel_rfl
theorem A9j:Hn Tryd.prog 34=some (size .msg,some (zc .msg)):=by kernel_rfl
theorem A9k:Hn Tryd.prog 35=some (size .bytes,some (zc .bytes)):=by kernel_rfl
theorem A9l:Hn Tryd.prog 38=some (size .i64,some (zc .i64)):=by kernel_rfl
theorem A9m:Hn Tryd.prog 45=some (size .u32,some (zc .u32)):=by kernel_rfl
theorem A9n:Hn Tryd.prog 56=some (size .digest,some (zc .digest)):=by kernel_rfl
theorem A9o:Hn Tryd.prog 58=some (size .cells,some (zc .cells)):=by kernel_rfl
theorem A9p:Hn Tryd.prog 60=some (size .row,some (zc .row)):=by kernel_rfl
theorem A9q:Hn Tryd.prog 85=some (size .write,some (zc .write)):=by kernel_rfl
theorem A9r:Hn Tryd.prog 87=some (size .cell,some (zc .cell)):=by kernel_rfl
theorem A9s:Hn Tryd.prog 89=some (size .group,some (zc .group)):=by kernel_rfl
theorem A4e:Hn Tryd.prog 125=some (size .place,some (zc .place)):=by kernel_rfl
theorem Gh {P:Program} {t k:TypeId} {c c0:TC} {r:Option TC} (h:(bif Nat.beq t k then some c0 else r)=some c) (hk:Hn P k=some (size c0,some (zc c0))):Hn P t=some (size c,some (zc c))∨r=some c:=by
 cases hb:Nat.beq t k with
 |true=>rw[hb] at h;cases h;rw[Nat.eq_of_beq_eq_true hb];exact .inl hk
 |false=>rw[hb] at h;exact .inr h
theorem Ah4:Bly Tryd.prog Auw:=fun t c h=>by
 refine A9t ?_ (A83 c)
 unfold Auw at h
 rcases Gh h Bdn with h|h
 ·exact h
 rcases Gh h Bdo with h|h
 ·exact h
 rcases Gh h Bdp with h|h
 ·exact h
 rcases Gh h Bdq with h|h
 ·exact h
 rcases Gh h Bdr with h|h
 ·exact h
 rcases Gh h A9d with h|h
 ·exact h
 rcases Gh h A9e with h|h
 ·exact h
 rcases Gh h A9f with h|h
 ·exact h
 rcases Gh h A9g with h|h
 ·exact h
 rcases Gh h A9h with h|h
 ·exact h
 rcases Gh h A9i with h|h
 ·exact h
 rcases Gh h A9j with h|h
 ·exact h
 rcases Gh h A9k with h|h
 ·exact h
 rcases Gh h A9l with h|h
 ·exact h
 rcases Gh h A9m with h|h
 ·exact h
 rcases Gh h A9n with h|h
 ·exact h
 rcases Gh h A9o with h|h
 ·exact h
 rcases Gh h A9p with h|h
 ·exact h
 rcases Gh h A9q with h|h
 ·exact h
 rcases Gh h A9r with h|h
 ·exact h
 rcases Gh h A9s with h|h
 ·exact h
 rcases Gh h A4e with h|h
 ·exact h
 cases h
theorem eqi (d:Nat) (a b:Int) (w:World):(Op.equalIn (d+1) 3 (.int .i64 a) (.int .i64 b)).run Tryd.prog w=.ok (a==b) w:=run_equalIn_int w d 3 .i64 .i64 a b Tryd.underlying3
theorem eqb (d:Nat) (a b:Bool) (w:World):(Op.equalIn (d+1) 4 (.bool a) (.bool b)).run Tryd.prog w=.ok (a==b) w:=run_equalIn_bool' w d 4 a b Tryd.underlying4
theorem eqs (d:Nat) (a b:ByteArray) (w:World):(Op.equalIn (d+1) 9 (.string a) (.string b)).run Tryd.prog w=.ok (a.toList==b.toList) w:=run_equalIn_string w d 9 a b Tryd.underlying9
@[go_sem] theorem eqVec (d:Nat) (a b x y:Int) (w:World):(Op.equalIn (d+2) 26 (.agg #[.int .i64 a,.int .i64 b]) (.agg #[.int .i64 x,.int .i64 y])).run Tryd.prog w=.ok (a==x&&b==y) w:=by
 have p0:∀a b w,(part 3 #[.int .i64 a,.int .i64 b] 0).run Tryd.prog w=Result.ok (.int .i64 a) w:=fun a b w=>by kernel_rfl
 have p1:∀a b w,(part 3 #[.int .i64 a,.int .i64 b] 1).run Tryd.prog w=Result.ok (.int .i64 b) w:=fun a b w=>by kernel_rfl
 unfold Op.equalIn
 cases h:a==x
 ·simp[Sem.run_bind,run_underlying Tryd.underlying26,List.range',p0,eqi,h]
 ·cases h':b==y<;>simp[Sem.run_bind,run_underlying Tryd.underlying26,List.range',p0,p1,eqi,h,h']
@[go_sem] theorem eqInt2 (d:Nat) (a b x y:Int) (w:World):(Op.equalIn (d+2) 25 (.agg #[.int .i64 a,.int .i64 b]) (.agg #[.int .i64 x,.int .i64 y])).run Tryd.prog w=.ok (a==x&&b==y) w:=by
 have p0:∀a b w,(part 3 #[.int .i64 a,.int .i64 b] 0).run Tryd.prog w=Result.ok (.int .i64 a) w:=fun a b w=>by kernel_rfl
 have p1:∀a b w,(part 3 #[.int .i64 a,.int .i64 b] 1).run Tryd.prog w=Result.ok (.int .i64 b) w:=fun a b w=>by kernel_rfl
 unfold Op.equalIn
 cases h:a==x
 ·simp[Sem.run_bind,run_underlying Tryd.underlying25,List.range',p0,eqi,h]
 ·cases h':b==y<;>simp[Sem.run_bind,run_underlying Tryd.underlying25,List.range',p0,p1,eqi,h,h']
@[go_sem] theorem eqStamp (d:Nat) (a b x y:Int) (w:World):(Op.equalIn (d+2) 24 (.agg #[.int .i64 a,.int .i64 b]) (.agg #[.int .i64 x,.int .i64 y])).run Tryd.prog w=.ok (a==x&&b==y) w:=by
 rw[run_equalIn_struct w (d+1) 24 _ _ (by kernel_rfl) (by kernel_rfl)]
 have p0:∀a b w,(part 3 #[.int .i64 a,.int .i64 b] 0).run Tryd.prog w=Result.ok (.int .i64 a) w:=fun a b w=>by kernel_rfl
 have p1:∀a b w,(part 3 #[.int .i64 a,.int .i64 b] 1).run Tryd.prog w=Result.ok (.int .i64 b) w:=fun a b w=>by kernel_rfl
 cases h:a==x
 ·simp[Program.fieldsOf,Tryd.underlying24,Op.eqFields,Sem.run_bind,p0,eqi,h]
 ·cases h':b==y<;>simp[Program.fieldsOf,Tryd.underlying24,Op.eqFields,Sem.run_bind,p0,p1,eqi,h,h']
@[go_sem] theorem eqCell (d:Nat) (a0 a1 a2 a3 a6 a7 b0 b1 b2 b3 b6 b7:Int) (a4 b4:Bool) (a5 b5:ByteArray) (w:World):(Op.equalIn (d+3) 87 (.agg #[.int .i64 a0,.int .i64 a1,.int .i64 a2,.int .i64 a3,.bool a4,.string a5,.int .i64 a6,.int .i64 a7]) (.agg #[.int .i64 b0,.int .i64 b1,.int .i64 b2,.int .i64 b3,.bool b4,.string b5,.int .i64 b6,.int .i64 b7])).run Tryd.prog w=.ok ((a0==b0&&a1==b1)&&((a2==b2&&a3==b3)&&((a4==b4)&&((a5.toList==b5.toList)&&(a6==b6&&a7==b7))))) w:=by
 rw[run_equalIn_struct w (d+2) 87 _ _ (by kernel_rfl) (by kernel_rfl)]
 have p0:∀(a0 a1 a2 a3 a6 a7:Int) (a4:Bool) (a5:ByteArray) (w:World),(part 24 #[.int .i64 a0,.int .i64 a1,.int .i64 a2,.int .i64 a3,.bool a4,.string a5,.int .i64 a6,.int .i64 a7] 0).run Tryd.prog w=Result.ok (.agg #[.int .i64 a0,.int .i64 a1]) w:=fun _ _ _ _ _ _ _ _ _=>by kernel_rfl
 have p1:∀(a0 a1 a2 a3 a6 a7:Int) (a4:Bool) (a5:ByteArray) (w:World),(part 26 #[.int .i64 a0,.int .i64 a1,.int .i64 a2,.int .i64 a3,.bool a4,.string a5,.int .i64 a6,.int .i64 a7] 2).run Tryd.prog w=Result.ok (.agg #[.int .i64 a2,.int .i64 a3]) w:=fun _ _ _ _ _ _ _ _ _=>by kernel_rfl
 have p2:∀(a0 a1 a2 a3 a6 a7:Int) (a4:Bool) (a5:ByteArray) (w:World),(part 4 #[.int .i64 a0,.int .i64 a1,.int .i64 a2,.int .i64 a3,.bool a4,.string a5,.int .i64 a6,.int .i64 a7] 4).run Tryd.prog w=Result.ok (.bool a4) w:=fun _ _ _ _ _ _ _ _ _=>by kernel_rfl
 have p3:∀(a0 a1 a2 a3 a6 a7:Int) (a4:Bool) (a5:ByteArray) (w:World),(part 9 #[.int .i64 a0,.int .i64 a1,.int .i64 a2,.int .i64 a3,.bool a4,.string a5,.int .i64 a6,.int .i64 a7] 5).run Tryd.prog w=Result.ok (.string a5) w:=fun _ _ _ _ _ _ _ _ _=>by kernel_rfl
 have p4:∀(a0 a1 a2 a3 a6 a7:Int) (a4:Bool) (a5:ByteArray) (w:World),(part 26 #[.int .i64 a0,.int .i64 a1,.int .i64 a2,.int .i64 a3,.bool a4,.string a5,.int .i64 a6,.int .i64 a7] 6).run Tryd.prog w=Result.ok (.agg #[.int .i64 a6,.int .i64 a7]) w:=fun _ _ _ _ _ _ _ _ _=>by kernel_rfl
 cases h0:(a0==b0&&a1==b1)
 ·simp only[Program.fieldsOf,Tryd.underlying87,Op.eqFields,Sem.run_bind,Sem.run_ite,Sem.run_pure,Result.andThen_ok,p0,eqStamp,h0];simp
 ·cases h1:(a2==b2&&a3==b3)
  ·simp only[Program.fieldsOf,Tryd.underlying87,Op.eqFields,Sem.run_bind,Sem.run_ite,Sem.run_pure,Result.andThen_ok,p0,p1,eqStamp,eqVec,h0,h1];simp
  ·cases h2:(a4==b4)
   ·simp only[Program.fieldsOf,Tryd.underlying87,Op.eqFields,Sem.run_bind,Sem.run_ite,Sem.run_pure,Result.andThen_ok,p0,p1,p2,eqStamp,eqVec,eqb,h0,h1,h2];simp
   ·cases h3:(a5.toList==b5.toList)
    ·simp only[Program.fieldsOf,Tryd.underlying87,Op.eqFields,Sem.run_bind,Sem.run_ite,Sem.run_pure,Result.andThen_ok,p0,p1,p2,p3,eqStamp,eqVec,eqb,eqs,h0,h1,h2,h3];simp
    ·cases h4:(a6==b6&&a7==b7)
     ·simp only[Program.fieldsOf,Tryd.underlying87,Op.eqFields,Sem.run_bind,Sem.run_ite,Sem.run_pure,Result.andThen_ok,p0,p1,p2,p3,p4,eqStamp,eqVec,eqb,eqs,h0,h1,h2,h3,h4];simp
     ·simp only[Program.fieldsOf,Tryd.underlying87,Op.eqFields,Sem.run_bind,Sem.run_ite,Sem.run_pure,Result.andThen_ok,p0,p1,p2,p3,p4,eqStamp,eqVec,eqb,eqs,h0,h1,h2,h3,h4];simp
theorem Ase:Tryd.prog.eqGuardType Tryd.prog.depth 26=false:=by kernel_rfl
@[go_sem] theorem grdVec (op:BinOp) (x y:Operand) (xs ys:Array Value) (w:World):(eqGuard op 26 x y (.agg xs) (.agg ys)).run Tryd.prog w=.ok () w:=run_eqGuard_agg w op 26 x y xs ys Ase
theorem A25:Tryd.prog.eqGuardType Tryd.prog.depth 25=false:=by kernel_rfl
@[go_sem] theorem grdInt2 (op:BinOp) (x y:Operand) (xs ys:Array Value) (w:World):(eqGuard op 25 x y (.agg xs) (.agg ys)).run Tryd.prog w=.ok () w:=run_eqGuard_agg w op 25 x y xs ys A25
theorem Ae8:Tryd.prog.eqGuardType Tryd.prog.depth 24=false:=by kernel_rfl
@[go_sem] theorem grdStamp (op:BinOp) (x y:Operand) (xs ys:Array Value) (w:World):(eqGuard op 24 x y (.agg xs) (.agg ys)).run Tryd.prog w=.ok () w:=run_eqGuard_agg w op 24 x y xs ys Ae8
theorem Ak0:Tryd.prog.eqGuardType Tryd.prog.depth 87=false:=by kernel_rfl
@[go_sem] theorem grdCell (op:BinOp) (x y:Operand) (xs ys:Array Value) (w:World):(eqGuard op 87 x y (.agg xs) (.agg ys)).run Tryd.prog w=.ok () w:=run_eqGuard_agg w op 87 x y xs ys Ak0
def Arv:List Value→List Value→Option Bool
 | [],[]=>some true
 | .int .u8 a::xs,.int .u8 b::ys=>match Arv xs ys with
  |some r=>some (a==b&&r)
  |none=>none
 |_,_=>none
theorem Asd:Tryd.prog.eqGuardType Tryd.prog.depth 56=false:=by kernel_rfl
theorem A4f:Tryd.prog.underlying 56=some (.array 32 5):=by kernel_rfl
theorem Ba0:Tryd.prog.cellsOf 5=1:=by kernel_rfl
theorem Bl3 (d:Nat) (a b:Int) (w:World):(Op.equalIn (d+1) 5 (.int .u8 a) (.int .u8 b)).run Tryd.prog w=.ok (a==b) w:=run_equalIn_int w d 5 .u8 .u8 a b (by kernel_rfl)
theorem A8c (w:World) {cs:Array Value} {i:Nat} {v:Value} (h:cs.toList[i]?=some v):(part 5 cs (i*1)).run Tryd.prog w=.ok v w:=by
 have hu:Tryd.prog.underlying 5=some (.int .u8):=by kernel_rfl
 have hc:cs[i]?=some v:=by simpa using h
 simp[part,isAgg,run_underlying hu,hc]
theorem Aev (d:Nat) (cs ds:Array Value) (w:World):∀(xs ys:List Value) (k:Nat) (r:Bool),cs.toList.drop k=xs→ds.toList.drop k=ys→Arv xs ys=some r→(Op.eqItems (d+1) 5 1 cs ds (List.range' k xs.length)).run Tryd.prog w=.ok r w
 | [],ys,k,r,_,_,h=>by
  cases ys with
  |nil=>unfold Arv at h;cases h;simp[Op.eqItems]
  |cons _ _=>unfold Arv at h;cases h
 | x::xs,ys,k,r,h1,h2,h=>by
  unfold Arv at h
  split at h<;>try (cases h;done)
  ·rename_i e;cases e
  rename_i a bq b t6 e
  cases e
  cases h3:Arv xs t6 with
  |none=>rw[h3] at h;cases h
  | some q=>
   rw[h3] at h
   cases h
   have hx:cs.toList[k]?=some (.int .u8 a):=by
    have:(cs.toList.drop k)[0]?=some (.int .u8 a):=by rw[h1];rfl
    rw[List.getElem?_drop] at this;simpa using this
   have hy:ds.toList[k]?=some (.int .u8 b):=by
    have:(ds.toList.drop k)[0]?=some (.int .u8 b):=by rw[h2];rfl
    rw[List.getElem?_drop] at this;simpa using this
   have n1:cs.toList.drop (k+1)=xs:=by rw[←List.drop_drop,h1];rfl
   have n2:ds.toList.drop (k+1)=t6:=by rw[←List.drop_drop,h2];rfl
   have ih:=Aev d cs ds w xs t6 (k+1) q n1 n2 h3
   rw[List.length_cons,List.range'_succ]
   simp only[Op.eqItems,Sem.run_bind,A8c w hx,A8c w hy,Result.andThen_ok,Bl3]
   cases hab:a==b
   ·simp
   ·simpa using ih
theorem A6k (d:Nat) (xs ys:List Value) (r:Bool) (hn:Nat.beq xs.length 32=true) (h:Arv xs ys=some r) (w:World):(Op.equalIn (d+2) 56 (.agg xs.toArray) (.agg ys.toArray)).run Tryd.prog w=.ok r w:=by
 have hs:(Tryd.prog.info? 5).isSome=true:=by kernel_rfl
 obtain⟨i,hi⟩:=Option.isSome_iff_exists.1 hs
 rw[run_equalIn_array w (d+1) xs.toArray ys.toArray A4f hi,Ba0,List.range_eq_range',←Nat.eq_of_beq_eq_true hn]
 exact Aev d xs.toArray ys.toArray w xs ys 0 r (by simp) (by simp) h
instance (n:Nat):Decidable (Wz n):=.isFalse id
theorem A96:Tryd.prog.follows .mixedOrders=true:=by kernel_rfl
def Bbr:List Value→List Value→Option Bool
 | [.int .i64 a,.int .i64 b],[.int .i64 x,.int .i64 y]=>some (a==x&&b==y)
 |_,_=>none
def Bj3:List Value→List Value→Option Bool
 | [.int .i64 a0,.int .i64 a1,.int .i64 a2,.int .i64 a3,.bool a4,.string a5,.int .i64 a6,.int .i64 a7],[.int .i64 b0,.int .i64 b1,.int .i64 b2,.int .i64 b3,.bool b4,.string b5,.int .i64 b6,.int .i64 b7]=>
  some ((a0==b0&&a1==b1)&&((a2==b2&&a3==b3)&&((a4==b4)&&((a5.toList==b5.toList)&&(a6==b6&&a7==b7)))))
 |_,_=>none
def Bg7 (t:TypeId) (xs ys:List Value):Option Bool:=bif Nat.beq t 56 then(bif Nat.beq xs.length 32 then Arv xs ys else none) else none
theorem Bbp:A46 Tryd.prog Bg7:=fun t xs ys b h=>by
 unfold Bg7 at h
 cases h5:Nat.beq t 56 with
 | true=>
  rw[h5] at h
  rw[Nat.eq_of_beq_eq_true h5]
  refine⟨Asd,fun R=>?_⟩
  cases h6:Nat.beq xs.length 32 with
  |true=>
   rw[h6] at h
   exact A6k 9998 xs ys b h6 h R
  |false=>
   rw[h6] at h
   cases h
 |false=>
  rw[h5] at h
  cases h
abbrev A6o:=Bg7
theorem A2u:A46 Tryd.prog A6o:=Bbp
abbrev Bj4:=A6o
theorem Bbq:A46 Tryd.prog Bj4:=A2u
theorem Awu:Tryd.prog.eqGuardType Tryd.prog.depth 85=false:=by kernel_rfl
theorem Bbt (d:Nat) (a x e z:ByteArray) (b y:Int) (c u:Bool) (w:World):(Op.equalIn (d+2) 85 (.agg #[.string a,.int .i64 b,.bool c,.string e]) (.agg #[.string x,.int .i64 y,.bool u,.string z])).run Tryd.prog w=.ok (a.toList==x.toList&&(b==y&&(c==u&&e.toList==z.toList))) w:=by
 rw[run_equalIn_struct w (d+1) 85 _ _ (by kernel_rfl) (by kernel_rfl)]
 have p0:∀a b c e w,(part 9 #[.string a,.int .i64 b,.bool c,.string e] 0).run Tryd.prog w=Result.ok (.string a) w:=fun a b c e w=>by kernel_rfl
 have p1:∀a b c e w,(part 3 #[.string a,.int .i64 b,.bool c,.string e] 1).run Tryd.prog w=Result.ok (.int .i64 b) w:=fun a b c e w=>by kernel_rfl
 have p2:∀a b c e w,(part 4 #[.string a,.int .i64 b,.bool c,.string e] 2).run Tryd.prog w=Result.ok (.bool c) w:=fun a b c e w=>by kernel_rfl
 have p3:∀a b c e w,(part 9 #[.string a,.int .i64 b,.bool c,.string e] 3).run Tryd.prog w=Result.ok (.string e) w:=fun a b c e w=>by kernel_rfl
 cases h0:a.toList==x.toList
 ·simp[Program.fieldsOf,Tryd.underlying85,Op.eqFields,Sem.run_bind,p0,eqs,h0]
 ·cases h1:b==y
  ·simp[Program.fieldsOf,Tryd.underlying85,Op.eqFields,Sem.run_bind,p0,p1,eqi,eqs,h0,h1]
  ·cases h2:c==u
   ·simp[Program.fieldsOf,Tryd.underlying85,Op.eqFields,Sem.run_bind,p0,p1,p2,eqi,eqs,eqb,h0,h1,h2]
   ·cases h3:e.toList==z.toList<;>simp[Program.fieldsOf,Tryd.underlying85,Op.eqFields,Sem.run_bind,p0,p1,p2,p3,eqi,eqs,eqb,h0,h1,h2,h3]
def Bj5:List Value→List Value→Option Bool
 | [.string a,.int .i64 b,.bool c,.string e],[.string x,.int .i64 y,.bool u,.string z]=>some (a.toList==x.toList&&(b==y&&(c==u&&e.toList==z.toList)))
 |_,_=>none
def Bg9 (t:TypeId) (xs ys:List Value):Option Bool:=bif Nat.beq t 85 then Bj5 xs ys else Bj4 t xs ys
theorem Bbs:A46 Tryd.prog Bg9:=fun t xs ys b h=>by
 unfold Bg9 at h
 cases h4:Nat.beq t 85 with
 |true=>
  rw[h4] at h
  rw[Nat.eq_of_beq_eq_true h4]
  refine⟨Awu,fun R=>?_⟩
  unfold Bj5 at h
  simp only[cond_true] at h
  split at h<;>try (cases h;done)
  cases h
  exact Bbt 9998 _ _ _ _ _ _ _ _ R
 |false=>
  rw[h4] at h
  exact Bbq t xs ys b h
def Arx (t:TypeId) (xs ys:List Value):Option Bool:=
 bif Nat.beq t 26 then Bbr xs ys else bif Nat.beq t 24 then Bbr xs ys else bif Nat.beq t 87 then Bj3 xs ys else Bg9 t xs ys
theorem Aex:A46 Tryd.prog Arx:=fun t xs ys b h=>by
 unfold Arx at h
 cases h1:Nat.beq t 26 with
 |true=>
  rw[h1] at h
  rw[Nat.eq_of_beq_eq_true h1]
  refine⟨Ase,fun R=>?_⟩
  unfold Bbr at h
  simp only[cond_true] at h
  split at h<;>try (cases h;done)
  cases h
  exact eqVec 9998 _ _ _ _ R
 |false=>
 cases h2:Nat.beq t 24 with
 |true=>
  rw[h1,h2] at h
  rw[Nat.eq_of_beq_eq_true h2]
  refine⟨Ae8,fun R=>?_⟩
  unfold Bbr at h
  simp only[cond_true,cond_false] at h
  split at h<;>try (cases h;done)
  cases h
  exact eqStamp 9998 _ _ _ _ R
 |false=>
 cases h3:Nat.beq t 87 with
 |true=>
  rw[h1,h2,h3] at h
  rw[Nat.eq_of_beq_eq_true h3]
  refine⟨Ak0,fun R=>?_⟩
  unfold Bj3 at h
  simp only[cond_true,cond_false] at h
  split at h<;>try (cases h;done)
  cases h
  exact eqCell 9997 _ _ _ _ _ _ _ _ _ _ _ _ _ _ _ _ R
 |false=>
  rw[h1,h2,h3] at h
  exact Bbs t xs ys b h
def CP (C:Tab) (L:Ry):Env:=⟨Tryd.prog,Arx,C,false,Auw,false,L⟩
def Bl2 (C:Tab):Env:=⟨Tryd.prog,Arx,C,true,Auw,false,L0⟩
theorem Bbl {C:Tab} {L:Ry} (hC:COk Bb C) (hL:∀l s b ps outs,L l s=some (b,ps,outs)→Ay6 (CP C L) l b s ps outs):Kh (CP C L) where
 suf f args nx o k x nx' o' ps h:=(hC f args nx o k x nx' o' ps h).2
 wide:=A96
 eq:=Aex
 C f args nx o k x nx' o' ps h hl hp:=((hC f args nx o k x nx' o' ps h).1 hp).1 hl
 Y f i xs nx o k x nx' o' ps h hl hp:=((hC f (.yl i::xs) nx o k x nx' o' ps h).1 hp).2 hl i xs rfl
 tc:=Ah4
 loops:=hL
theorem Qj {C:Tab} (hC:COk Bb C):Kh (Bl2 C) where
 suf f args nx o k x nx' o' ps h:=(hC f args nx o k x nx' o' ps h).2
 wide:=A96
 eq:=Aex
 C f args nx o k x nx' o' ps h hl hp:=((hC f args nx o k x nx' o' ps h).1 hp).1 hl
 Y f i xs nx o k x nx' o' ps h hl hp:=((hC f (.yl i::xs) nx o k x nx' o' ps h).1 hp).2 hl i xs rfl
 tc:=Ah4
 loops _ _ _ _ _ h:=by cases h
def Adx (L:Ry):Prop:=∀l s b ps outs,L l s=some (b,ps,outs)→Ay6 (CP C0 L0) l b s ps outs
theorem A9:Adx L0:=fun _ _ _ _ _ h=>by cases h
theorem A49 {l0:Nat} {g:St→Option (Code×List Prop×BG)} {L:Ry} (hg:∀s b ps outs,g s=some (b,ps,outs)→Wf s ⟨ps,outs,none⟩∧Adw (CP C0 L0) b s ps outs) (hL:Adx L):Adx (A48 l0 g L):=fun l s b ps outs h=>by
 unfold A48 at h
 cases hb:Nat.beq l l0 with
 |true=>
  rw[hb,cond_true] at h
  cases hr:Nat.ble rfK l with
  |true=>rw[hr] at h;cases h
  |false=>rw[hr] at h;exact⟨fun _=>hg s b ps outs h,fun e=>by rw[hr] at e;cases e⟩
 |false=>rw[hb] at h;exact hL l s b ps outs h
def WA (l0:Nat) {g:St→Option (Code×List Prop×BG)} (hg:∀s b ps outs,g s=some (b,ps,outs)→Wf s ⟨ps,outs,none⟩∧Adw (CP C0 L0) b s ps outs) (L:{L:Ry // Adx L}):{L:Ry // Adx L}:=⟨A48 l0 g L.1,A49 hg L.2⟩
theorem A5b {l0:Nat} {g:St→Option (Code×List Prop×BG)} {L:Ry} (hg:∀s b ps outs,g s=some (b,ps,outs)→Bak (CP C0 L0) b s ps outs) (hL:Adx L):Adx (A5a l0 g L):=fun l s b ps outs h=>by
 unfold A5a at h
 cases hb:Nat.beq l (rfK+l0) with
 |true=>
  rw[hb] at h
  obtain rfl:=Nat.eq_of_beq_eq_true hb
  have hle:Nat.ble rfK (rfK+l0)=true:=by rw[Nat.ble_eq];exact Nat.le_add_right _ _
  exact⟨fun e=>(by rw[hle] at e;cases e),fun _=>hg s b ps outs h⟩
 |false=>rw[hb] at h;exact hL l s b ps outs h
def aRf (l0:Nat) {g:St→Option (Code×List Prop×BG)} (hg:∀s b ps outs,g s=some (b,ps,outs)→Bak (CP C0 L0) b s ps outs) (L:{L:Ry // Adx L}):{L:Ry // Adx L}:=⟨A5a l0 g L.1,A5b hg L.2⟩
theorem AU {C:Tab} {L:Ry} (hC:COk Bb C) (hL:Adx L):Kh (CP C L):=Bbl hC hL
theorem CR {C:Tab} {L:Ry} (hC:COk Bb C) (hL:Adx L) {u:Nat} {b:Code} {S:E2} {En:Fz} {X:Type} {T:X→St} {mf:St→Option X} {fuel:X→Nat} {next:X→X} {goes:X→DB} {psA ps:X→List Prop} {outs:X→BG} (hS:okL S.nb S.nx1 S.ren=true) (ia:S.nb≤S.nx1) (hr:∀x,Ahj (CP C L) u b S (T x)=some (psA x,outs x,goes x,T (next x))) (hA:∀x,(∀p∈ps x,p)→∀p∈psA x,p) (hu:∀s x,mf s=some x→s=T x) (hw:∀x,LO (outs x)∧∀t c y,AZ t (outs x)=some (c,y)→y.n=(T x).n) (q8:∀x y,(T x).n=(T y).n):∀s b0 qs os,Jg (CP C L) b S En mf fuel next goes ps outs s=some (b0,qs,os)→Wf s ⟨qs,os,none⟩∧Adw (CP C0 L0) b0 s qs os:=
 fun _ _ _ _ he=>Bda (AU hC hL) hS ia hr hA hu hw q8 he
def Axi (n:Nat):BG→Bool
 | []=>true
 |(t,_,s)::r=>Nat.beq s.n n&&((match AZ t r with|some _=>false|none=>true)&&Axi n r)
theorem Bm {n:Nat}:∀{o:BG},Axi n o=true→LO o∧∀t c y,AZ t o=some (c,y)→y.n=n
 | [],_=>⟨trivial,fun t c y h=>by cases h⟩
 | (k,d,s)::r,h=>by
  unfold Axi at h
  simp only[Bool.and_eq_true] at h
  obtain⟨h1,h2,h3⟩:=h
  obtain⟨g1,g2⟩:=Bm h3
  refine⟨⟨?_,g1⟩,fun t c y hy=>?_⟩
  ·cases hg:AZ k r with
   |none=>rfl
   |some x=>rw[hg] at h2;cases h2
  ·have hy':(bif E1 k t then some (d,s) else AZ t r)=some (c,y):=hy
   cases hb:E1 k t with
   |true=>rw[hb] at hy';cases hy';exact Nat.eq_of_beq_eq_true h1
   |false=>rw[hb] at hy';exact g2 t c y hy'
theorem Tm (x:Int):0≤IntKind.u8.wrap x∧IntKind.u8.wrap x <256:=by
 simp only[IntKind.wrap,IntKind.bits,IntKind.signed]
 have h1:=Int.emod_nonneg x (show(256:Int)≠0 by decide)
 have h2:=Int.emod_lt_of_pos x (show(0:Int) <256 by decide)
 exact⟨h1,h2⟩
theorem Beh (x:Int):0≤IntKind.u64.wrap x:=by
 simp only[IntKind.wrap,IntKind.bits,IntKind.signed]
 exact Int.emod_nonneg x (by decide)
def Bjr (c:TC) (x:A):Option (U c×List Prop):=match Vk x with
 |some cs=>dec c cs
 |none=>none
def Bga (c:TC):A→Option (List (U c))
 | .sl c' l=>match TC.same c' c with
  |some h=>some (MX h.down l)
  |none=>none
 | .nl=>some []
 | .v x=>bif DI x then some [] else none
 |_=>none
section
variable {F:Nat→Prop} {N:Nm} {nx:Nat} {R:World}
theorem Bav {c:TC} {x:A} {l:List (U c)} {v:Value} (he:Bga c x=some l) (h:Hv F N nx R x v):Hv F N nx R (.sl c l) v:=by
 unfold Bga at he
 split at he<;>try (cases he;done)
 ·split at he<;>try (cases he;done)
  rename_i h1 _
  obtain⟨h1⟩:=h1
  subst h1
  cases he
  exact h
 ·cases he
  obtain⟨a,e⟩:=h.nl_inv
  exact Hv.sl_nil e
 ·rename_i x
  cases hb:DI x with
  |false=>rw[hb] at he;cases he
  |true=>
   rw[hb] at he
   cases he
   exact Hv.sl_nil (by rw[h.v_inv,FI hb])
theorem Awv {c:TC} {d:U c} {vs:List Value} (h:HL F N nx R (enc c d) vs) (ha:c.isAgg=true):Hv F N nx R (AX c d) (.agg vs.toArray):=by
 unfold AX
 rw[ha]
 exact PY h
theorem A7a {c:TC} {d:U c} {vs:List Value} {v:Value} (h:HL F N nx R (enc c d) vs) (ha:c.isAgg=false) (hv:vs[0]?=some v):Hv F N nx R (AX c d) v:=by
 unfold AX
 rw[ha]
 show Hv F N nx R (match enc c d with|x::_=>x| []=> .dead) v
 generalize enc c d=l at h
 cases l with
 |nil=>exact .dead _
 |cons x r=>
  obtain⟨w,ws,rfl,h1,_⟩:=h.inv
  cases hv
  exact h1
def Q4 (c:TC):A→Bool
 | .v (.agg _)=>c.isAgg
 | .agg _=>c.isAgg
 | .v (.tuple _)=>false
 | .v x=>!c.isAgg&&x.oneCell'
 | .opt _ _ _=>false
 | .tup _=>false
 | .dead=>false
 | .it _ _=>false
 | .sq _=>false
 | .dq _=>false
 | .iv _ _=>false
 | .de _ _ _ _=>false
 | .ie _ _ _ _ _=>false
 | .av _ _ _=>false
 | .rv _=>false
 | .vr _ _ _ _=>false
 | .vd _ _ _ _=>false
 | .yl _=>false
 |_=>!c.isAgg
def Bgb (c:TC) (x:A):Option (U c×List Prop):=bif Q4 c x then Bjr c x else none
theorem Baw {c:TC} {x:A} {d:U c} {ps:List Prop} {v:Value} (he:Bgb c x=some (d,ps)) (hp:∀p∈ps,p) (h:Hv F N nx R x v):Hv F N nx R (AX c d) v:=by
 unfold Bgb at he
 cases hf:Q4 c x with
 |false=>rw[hf] at he;cases he
 | true=>
  rw[hf] at he
  simp only[cond_true] at he
  unfold Bjr at he
  split at he<;>try (cases he;done)
  rename_i cs ca
  have hd:=Yy (F:=F) (N:=N) (nx:=nx) (R:=R) he hp
  have single:∀{y:A},Hv F N nx R y v→cs=[y]→c.isAgg=false→Hv F N nx R (AX c d) v:=fun {y} hy e hc=>by
   subst e
   exact A7a (hd [v] (HL.cons hy HL.nil)) hc rfl
  cases x<;>try (cases hf;done)
  ·rename_i y
   have hv:=h.v_inv
   subst hv
   cases ca
   have hl:HL F N nx R (toL v.cells.toList) v.cells.toList:=HL.toL _
   cases v with
   |agg xs=>
    have br:HL F N nx R (toL xs.toList) xs.toList:=hl
    have:=Awv (hd _ br) hf
    simpa using this
   |tuple xs=>cases hf
   |_=>
    simp only[Q4,Bool.and_eq_true,Bool.not_eq_true'] at hf
    exact A7a (hd _ hl) hf.1 rfl
  ·cases ca
   exact single h rfl (by simpa[Q4] using hf)
  ·cases ca
   exact single h rfl (by simpa[Q4] using hf)
  ·cases ca
   exact single h rfl (by simpa[Q4] using hf)
  ·cases ca
   exact single h rfl (by simpa[Q4] using hf)
  ·cases ca
   exact single h rfl (by simpa[Q4] using hf)
  ·cases ca
   exact single h rfl (by simpa[Q4] using hf)
  ·cases ca
   exact single h rfl (by simpa[Q4] using hf)
  ·cases ca
   exact single h rfl (by simpa[Q4] using hf)
  ·cases ca
   exact single h rfl (by simpa[Q4] using hf)
  ·cases ca
   obtain⟨vs,rfl,h2⟩:=h.agg_inv
   exact Awv (hd _ h2) hf
end
theorem Ph:freeL []=true:=by unfold freeL;rfl
theorem Js {x:A} {r:List A} (h:x.free=true) (k:freeL r=true):freeL (x::r)=true:=by unfold freeL;rw[h,k];rfl
theorem Al1 (c:TC) (d:U c):(AX c d).free=true:=by
 have yj:∀l:List A,(∀x∈l,x.free=true)→freeL l=true:=fun l=>by
  induction l with
  |nil=>intro _;unfold freeL;rfl
  |cons x r ih=>intro h;unfold freeL;rw[h x (List.mem_cons_self ..),ih fun y hy=>h y (List.mem_cons_of_mem _ hy)];rfl
 have h:=Aru c d
 unfold AX
 cases c.isAgg with
 |true=>
  show(OZ (enc c d)).free=true
  unfold OZ
  split
  ·unfold A.free;rfl
  ·unfold A.free;exact yj _ h
 |false=>
  show A.free (match enc c d with|x::_=>x| []=> .dead)=true
  have hl:=VR c d
  have hs:0 <size c:=by cases c<;>decide
  generalize enc c d=l at h hl
  cases l with
  |nil=>rw[←hl] at hs;cases hs
  |cons x r=>exact h x (List.mem_cons_self ..)
theorem Aq2 {P:Program} {f:FuncId} {args ck:List A} {nx k nx':Nat} {o o':AJ} {x:A} (h:Ax P f ck nx o k x nx' o') (ha:∀(F:Nat→Prop) (N:Nm) (R:World) (vs:List Value),HL F N nx R args vs→HL F N nx R ck vs):Ax P f args nx o k x nx' o':=
 fun F N R vs hh hl=>h F N R vs hh (ha F N R vs hl)
inductive Kd where
 |l (c:TC)
 |t (c:TC)
 |a (c:TC) (n:Nat)
def Fn (X:Type):List Kd→Type
 | []=>X
 | .l c::r=>List (U c)→Fn X r
 | .t c::r=>U c→Fn X r
 | .a c _::r=>List (U c)→Fn X r
abbrev FnP:=Fn (List Prop)
def Blz (ps:List Prop):Prop:=∀p∈ps,p
def Bao (q:List Prop):Option Adv→Option Adv
 |some (k,x,nx,o,p)=>some (k,x,nx,o,q++p)
 |none=>none
def Aud (m nx:Nat) (ob:AJ):(ks:List Kd)→Fn A ks→Fn AJ ks→FnP ks→List A→Option Adv
 | [],r,o,ps,[]=>some (1,A.pk (S3 nx) r,nx+m,Wk nx o++ob,ps)
 | .l c::ks,r,o,ps,y::ys=>match Bga c y with
  |some a=>Aud m nx ob ks (r a) (o a) (ps a) ys
  |none=>none
 | .t c::ks,r,o,ps,y::ys=>match Bgb c y with
  |some (a,q)=>Bao q (Aud m nx ob ks (r a) (o a) (ps a) ys)
  |none=>none
 | .a c n::ks,r,o,ps,y::ys=>match Bf9 c n y with
  |some (a,q)=>Bao q (Aud m nx ob ks (r a) (o a) (ps a) ys)
  |none=>none
 |_,_,_,_,_=>none
def Et (ks:List Kd) (m:Nat) (r:Fn A ks) (o:Fn AJ ks) (ps:FnP ks):HU:=fun args nx ob=>Aud m nx ob ks r o ps args
def OkG (P:Program) (f:FuncId) (m:Nat):(ks:List Kd)→List A→Fn A ks→Fn AJ ks→FnP ks→Prop
 | [],pre,r,o,ps=>Blz ps→Ax P f pre 0 [] 1 r m o
 | .l c::ks,pre,r,o,ps=>∀a,OkG P f m ks (pre++[.sl c a]) (r a) (o a) (ps a)
 | .t c::ks,pre,r,o,ps=>∀a,OkG P f m ks (pre++[AX c a]) (r a) (o a) (ps a)
 | .a c n::ks,pre,r,o,ps=>∀a,OkG P f m ks (pre++[.av c n a]) (r a) (o a) (ps a)
theorem Tz:∀{a b:List A},freeL a=true→freeL b=true→freeL (a++b)=true
 | [],_,_,h=>h
 |x::a,b,h,g=>by
  unfold freeL at h
  rw[Bool.and_eq_true] at h
  exact Js h.1 (Tz h.2 g)
theorem Bc9 {P:Program} {f:FuncId} {m nx:Nat} {ob:AJ}:∀(ks:List Kd) (pre ys:List A) (r:Fn A ks) (o:Fn AJ ks) (ps:FnP ks),freeL pre=true→OkG P f m ks pre r o ps→∀{k x nx' o' qs},Aud m nx ob ks r o ps ys=some (k,x,nx',o',qs)→
  (∃d,o'=d++ob)∧∃zs,freeL zs=true∧((∀p∈qs,p)→(∀(F:Nat→Prop) (N:Nm) (R:World) (vs:List Value),HL F N nx R ys vs→HL F N nx R zs vs)∧Ax P f (pre++zs) nx ob k x nx' o'):=by
 intro ks
 induction ks with
 | nil=>
  intro pre ys r o ps hf dz k x nx' o' qs he
  cases ys with
  |cons y ys=>cases he
  |nil=>
   cases he
   exact⟨⟨_,rfl⟩,[],Ph,fun hp=>⟨fun _ _ _ _ h=>h,by rw[List.append_nil];exact WJ (dz hp) (Nat.le_refl _) hf nx ob⟩⟩
 | cons kd ks ih=>
  intro pre ys r o ps hf dz k x nx' o' qs he
  cases ys with
  |nil=>cases kd<;>cases he
  | cons y ys=>
   cases kd with
   |l c=>
    unfold Aud at he
    split at he<;>try (cases he;done)
    rename_i a ha
    obtain⟨h1,zs,h2,h3⟩:=ih (pre++[.sl c a]) ys (r a) (o a) (ps a) (Tz hf (Js (by unfold A.free;rfl) Ph)) (dz a) he
    refine⟨h1,.sl c a::zs,Js (by unfold A.free;rfl) h2,fun hp=>⟨fun F N R vs hl=>?_,by have:=(h3 hp).2;rwa[List.append_assoc] at this⟩⟩
    obtain⟨v,w,rfl,q1,q2⟩:=hl.inv
    exact HL.cons (Bav ha q1) ((h3 hp).1 F N R w q2)
   |t c=>
    unfold Aud at he
    split at he<;>try (cases he;done)
    rename_i a q ha
    unfold Bao at he
    split at he<;>try (cases he;done)
    rename_i k1 x1 nx1 o1 p1 rm
    cases he
    obtain⟨h1,zs,h2,h3⟩:=ih (pre++[AX c a]) ys (r a) (o a) (ps a) (Tz hf (Js (Al1 _ _) Ph)) (dz a) rm
    refine⟨h1,AX c a::zs,Js (Al1 _ _) h2,fun hp=>?_⟩
    have dn:=fun p hm=>hp p (List.mem_append.2 (.inl hm))
    have d9:=h3 fun p hm=>hp p (List.mem_append.2 (.inr hm))
    refine⟨fun F N R vs hl=>?_,by have:=d9.2;rwa[List.append_assoc] at this⟩
    obtain⟨v,w,rfl,q1,q2⟩:=hl.inv
    exact HL.cons (Baw ha dn q1) (d9.1 F N R w q2)
   |a c n=>
    unfold Aud at he
    split at he<;>try (cases he;done)
    rename_i a q ha
    unfold Bao at he
    split at he<;>try (cases he;done)
    rename_i k1 x1 nx1 o1 p1 rm
    cases he
    obtain⟨h1,zs,h2,h3⟩:=ih (pre++[.av c n a]) ys (r a) (o a) (ps a) (Tz hf (Js (by unfold A.free;rfl) Ph)) (dz a) rm
    refine⟨h1,.av c n a::zs,Js (by unfold A.free;rfl) h2,fun hp=>?_⟩
    have dn:=fun p hm=>hp p (List.mem_append.2 (.inl hm))
    have d9:=h3 fun p hm=>hp p (List.mem_append.2 (.inr hm))
    refine⟨fun F N R vs hl=>?_,by have:=d9.2;rwa[List.append_assoc] at this⟩
    obtain⟨v,w,rfl,q1,q2⟩:=hl.inv
    exact HL.cons (Bau ha dn q1) (d9.1 F N R w q2)
theorem A8 {P:Program} {f:FuncId} {ks:List Kd} {m:Nat} {r:Fn A ks} {o:Fn AJ ks} {ps:FnP ks} (h:OkG P f m ks [] r o ps):IE P f (Et ks m r o ps):=fun args nx ob k x nx' o' qs he=>by
 obtain⟨h1,zs,_,h3⟩:=Bc9 ks [] args r o ps Ph h he
 exact⟨fun hp=>Aq2 (h3 hp).2 (h3 hp).1,h1⟩
theorem HW.free {F:Nat→Prop} {N N':Nm} {nx nx':Nat} {R:World}:∀{xs:List A} {us:List Value},freeL xs=true→HW F N nx R xs us→HW F N' nx' R xs us
 | [],_,_,h=>h
 |x::r,_,hf,⟨v,t,h1,h2,h3,h4⟩=>by unfold freeL at hf;rw[Bool.and_eq_true] at hf;exact⟨v,t,h1,h2.free hf.1,h3,HW.free hf.2 h4⟩
def K6 (k:IntKind) (n:Int):Prop:=(Lit.int k n).wf=true
def WfS (x:Ba):Prop:=K6 .i64 x.n∧K6 .i64 x.site
def WfV (x:Bu):Prop:=K6 .i64 x.a∧K6 .i64 x.b
def Avb (x:AG):Prop:=WfS x.stamp∧WfV x.vec∧True∧x.value.size≤maxLen∧WfV x.dead
def Ay7 (x:AW):Prop:=x.key.size≤maxLen∧(x.cells.length≤maxLen∧∀y∈x.cells,Avb y)
def Ay8 (x:AY):Prop:=x.key.size≤maxLen∧K6 .i64 x.group∧True∧x.value.size≤maxLen
def Aqp (x:Ar):Prop:=K6 .i64 x.site∧K6 .i64 x.seq∧WfS x.stamp∧WfV x.vec∧(x.writes.length≤maxLen∧∀y∈x.writes,Ay8 y)
def Wfd:(c:TC)→U c→Prop
 | .i64,n=>K6 .i64 n
 | .u32,n=>K6 .u32 n
 | .str,s=>s.size≤maxLen
 | .vec,x=>WfV x
 | .stamp,x=>WfS x
 | .cell,x=>Avb x
 | .group,x=>x.name.size≤maxLen∧K6 .i64 x.policy
 | .write,x=>Ay8 x
 | .row,x=>Ay7 x
 | .change,x=>Aqp x
 | .place,x=>x.key.size≤maxLen∧K6 .i64 x.group
 | .bytes,l=>l.length≤maxLen∧∀y∈l,True
 | .ints,l=>l.length≤maxLen∧∀y∈l,K6 .i64 y
 | .cells,l=>l.length≤maxLen∧∀y∈l,Avb y
 | .rows,l=>l.length≤maxLen∧∀y∈l,Ay7 y
 | .digest,x=>x.length=32
 | .msg,x=>K6 .i64 x.kind∧K6 .i64 x.site∧Aqp x.change∧K6 .i64 x.ack∧K6 .i64 x.own∧(x.path.length≤maxLen∧∀y∈x.path,K6 .i64 y)∧(x.sums.length≤maxLen∧∀y∈x.sums,y.length=32)∧(x.rows.length≤maxLen∧∀y∈x.rows,Ay7 y)∧WfV x.know∧True
 |_,_=>True
def FB (w:World) (F:Nat→Prop):Prop:=∀b,b <w.heap.size→F b
def Bjn (P:Program) (c:TC) (t:TypeId) {H:Type} (en:TypeId×Value→H) (w:World) (base:Nat) (spare:Nat→Bool) (held:Bool):Prop:=
 ∀(m:Nat) (cs:List Value) (y:DataW H×List MemPlace),DataW.trod en P w base spare held m t cs=some y→∃x:U c,Wfd c x∧∀(F:Nat→Prop) (N:Nm) (nx:Nat),FB w F→HL F N nx w (enc c x) cs
def Opn (P:Program) (c:TC) (t:TypeId):Prop:=∀{H:Type} (en:TypeId×Value→H) (w:World) (base:Nat) (spare:Nat→Bool) (held:Bool),Bjn P c t en w base spare held
def Um (P:Program) (c:TC) (t:TypeId):Prop:=∀{H:Type} (en:TypeId×Value→H) (w:World) (base:Nat) (spare:Nat→Bool) (held:Bool) (m:Nat) (cs:List Value) (y:DataW H×List MemPlace),
 DataW.trod en P w base spare held m t cs=some y→∃l:List (U c),(l.length≤maxLen∧∀x∈l,Wfd c x)∧∀(F:Nat→Prop) (N:Nm) (nx:Nat),FB w F→HL F N nx w [.sl c l] cs
section
variable {P:Program} {t:TypeId}
theorem Bcq (hu:P.underlying t=some (.int .i64)):Opn P .i64 t:=fun en w base spare held m cs y h=>by
 obtain⟨n,rfl,_,hw⟩:=DataW.trod_int hu h
 exact⟨n,hw,fun F N nx _=>HL.cons (Hv.v _) HL.nil⟩
theorem Bhx (hu:P.underlying t=some (.int .u8)):Opn P .u8 t:=fun en w base spare held m cs y h=>by
 obtain⟨n,rfl,_,hw⟩:=DataW.trod_int hu h
 refine⟨UInt8.ofNat n.toNat,trivial,fun F N nx _=>?_⟩
 have hn:0≤n∧n <256:=by
  simp[Lit.wf,IntKind.min,IntKind.max,IntKind.signed,IntKind.bits] at hw
  omega
 have e:Bt (UInt8.ofNat n.toNat)=.int .u8 n:=by
  unfold Bt
  have:((UInt8.ofNat n.toNat).toNat:Int)=n:=by
   rw[UInt8.toNat_ofNat']
   omega
  rw[this]
 exact HL.cons (by rw[e];exact Hv.v _) HL.nil
theorem A79 (hu:P.underlying t=some .bool):Opn P .bool t:=fun en w base spare held m cs y h=>by
 obtain⟨n,rfl,_⟩:=DataW.trod_bool hu h
 exact⟨n,trivial,fun F N nx _=>HL.cons (Hv.v _) HL.nil⟩
theorem Bcr (hu:P.underlying t=some .string):Opn P .str t:=fun en w base spare held m cs y h=>by
 obtain⟨n,rfl,_,hw⟩:=DataW.trod_string hu h
 exact⟨n,hw,fun F N nx _=>HL.cons (Hv.v _) HL.nil⟩
theorem A0p {α:Type} {Q:Nat→α→Prop}:∀(n:Nat),(∀i,i <n→∃x,Q i x)→∃l:List α,l.length=n∧∀(i:Nat) (x:α),l[i]?=some x→Q i x
 |0,_=>⟨[],rfl,fun i x h=>by cases h⟩
 | n+1,h=>by
  obtain⟨l,h1,h2⟩:=A0p n fun i hi=>h i (by omega)
  obtain⟨x,hx⟩:=h n (by omega)
  refine⟨l++[x],by simp[h1],fun i y hy=>?_⟩
  rcases Nat.lt_trichotomy i n with hi|rfl|hi
  ·rw[List.getElem?_append_left (by omega)] at hy
   exact h2 i y hy
  ·rw[List.getElem?_append_right (by omega)] at hy
   simp[h1] at hy
   subst hy
   exact hx
  ·rw[List.getElem?_eq_none (by simp;omega)] at hy
   cases hy
theorem Yq {w:World} {base:Nat} {a:Addr} {n:Nat} {cs:List Value} (h:w.cells? base a n=some cs):base≤a.block∧cs.length=n∧∀(j:Nat) (v:Value),cs[j]?=some v→w.cell? (a.add j)=some v:=by
 unfold World.cells? at h
 split at h
 ·rename_i hb
  refine⟨hb,by simpa using mapM_some_length h,fun j v hv=>?_⟩
  have hl:cs.length=n:=by simpa using mapM_some_length h
  have hj:j <n:=by
   have:=(List.getElem?_eq_some_iff.1 hv).1
   omega
  have:=mapM_some_get h j j (by simp[hj])
  rw[this,hv]
 ·cases h
theorem Mk {c:TC} {e:TypeId} (hu:P.underlying t=some (.slice e)) (hs:P.cellsOf e=size c) (he:Opn P c e):Um P c t:=fun en w base spare held m cs y h=>by
 rcases DataW.trod_slice hu h with⟨rfl,_⟩|⟨a,len,cap,elems,rest,n,_,rfl,_,hb,qe,nj,hel,hg,_⟩
 ·exact⟨[],⟨Nat.zero_le _,fun x hx=>by cases hx⟩,fun F N nx _=>HL.cons (Hv.sl_nil (a:=none) rfl) HL.nil⟩
 ·have each:∀i,i <len→∃x:U c,Wfd c x∧∃zs,w.cells? base (a.add (i*size c)) (size c)=some zs∧∀(F:Nat→Prop) (N:Nm) (nx:Nat),FB w F→HL F N nx w (enc c x) zs:=fun i hi=>by
   have:=hg i hi
   rw[hs] at this
   have h2:elems[i]?≠none:=by
    intro h0
    rw[List.getElem?_eq_none_iff] at h0
    omega
   obtain⟨z,hz⟩:=Option.ne_none_iff_exists'.1 h2
   rw[hz] at this
   obtain⟨zs,h3,h4⟩:=Option.bind_eq_some_iff.1 this
   obtain⟨x,h5,h6⟩:=he en w base spare held n zs z h4
   exact⟨x,h5,zs,h3,h6⟩
  obtain⟨l,h1,h2⟩:=A0p len each
  refine⟨l,⟨by omega,fun x hx=>?_⟩,fun F N nx hF=>HL.cons ?_ HL.nil⟩
  ·obtain⟨i,hi⟩:=List.getElem?_of_mem hx
   exact(h2 i x hi).1
  ·subst h1
   refine Hv.sl a qe (fun hp=>⟨rfl,?_⟩) (fun i d j x hd hx=>?_) (fun i d j x y hd hx hy=>?_)
   ·obtain⟨_,zs,h3,h4⟩:=h2 0 l[0] (by rw[List.getElem?_eq_getElem hp])
    obtain⟨_,h5,h6⟩:=Yq h3
    have bc:0 <zs.length:=by rw[h5];cases c<;>decide
    have:=h6 0 zs[0] (by rw[List.getElem?_eq_getElem bc])
    have:=World.block_lt_of_cell? w _ this
    rw[G4,G4] at this
    exact hF _ this
   ·obtain⟨_,zs,h3,h4⟩:=h2 i d hd
    obtain⟨v,h5,h6⟩:=(h4 F N nx hF).get hx
    refine⟨v,?_⟩
    rw[←DM]
    exact(Yq h3).2.2 j v h5
   ·obtain⟨_,zs,h3,h4⟩:=h2 i d hd
    obtain⟨v,h5,h6⟩:=(h4 F N nx hF).get hx
    have:=(Yq h3).2.2 j v h5
    rw[DM,hy] at this
    cases this
    exact h6
end
section
variable {H:Type} {en:TypeId×Value→H} {P:Program} {w:World} {base:Nat} {spare:Nat→Bool} {held:Bool} {F:Nat→Prop} {N:Nm} {nx:Nat}
theorem K9 {fs:Array Field} {cs:List Value} {m i:Nat} {xs:List (DataW H×List MemPlace)} {f:Field} {t:TypeId} {o k:Nat} {c:TC} (ho:Opn P c t) (hf:fs[i]?=some f) (ht:f.type=t) (sg:f.offset=o) (hk:P.cellsOf t=k) (hi:i <xs.length) (g:∀(i:Nat) (f:Field),fs[i]?=some f→DataW.trod en P w base spare held m f.type ((cs.drop f.offset).take (P.cellsOf f.type))=xs[i]?):∃x:U c,Wfd c x∧∀(F:Nat→Prop) (N:Nm) (nx:Nat),FB w F→HL F N nx w (enc c x) ((cs.drop o).take k):=by
 subst ht sg hk
 have:=g i f hf
 rw[List.getElem?_eq_getElem hi] at this
 exact ho en w base spare held m _ _ this
theorem A6y {fs:Array Field} {cs:List Value} {m i:Nat} {xs:List (DataW H×List MemPlace)} {f:Field} {t:TypeId} {o k:Nat} {c:TC} (ho:Um P c t) (hf:fs[i]?=some f) (ht:f.type=t) (sg:f.offset=o) (hk:P.cellsOf t=k) (hi:i <xs.length) (g:∀(i:Nat) (f:Field),fs[i]?=some f→DataW.trod en P w base spare held m f.type ((cs.drop f.offset).take (P.cellsOf f.type))=xs[i]?):∃l:List (U c),(l.length≤maxLen∧∀x∈l,Wfd c x)∧∀(F:Nat→Prop) (N:Nm) (nx:Nat),FB w F→HL F N nx w [.sl c l] ((cs.drop o).take k):=by
 subst ht sg hk
 have:=g i f hf
 rw[List.getElem?_eq_getElem hi] at this
 exact ho en w base spare held m _ _ this
theorem IF {cs:List Value} {m i n:Nat} {xs:List (DataW H×List MemPlace)} {t:TypeId} {k:Nat} {c:TC} (ho:Opn P c t) (hk:P.cellsOf t=k) (hx:i <xs.length) (hn:i <n) (g:∀(i:Nat),i <n→DataW.trod en P w base spare held m t ((cs.drop (i*P.cellsOf t)).take (P.cellsOf t))=xs[i]?):∃x:U c,Wfd c x∧∀(F:Nat→Prop) (N:Nm) (nx:Nat),FB w F→HL F N nx w (enc c x) ((cs.drop (i*k)).take k):=by
 subst hk
 have:=g i hn
 rw[List.getElem?_eq_getElem hx] at this
 exact ho en w base spare held m _ _ this
theorem Jk {o k:Nat} {cs:List Value} {l r:List A} (h:HL F N nx w l ((cs.drop o).take k)) (h':HL F N nx w r (cs.drop (o+k))):HL F N nx w (l++r) (cs.drop o):=by
 have e:cs.drop o=(cs.drop o).take k++cs.drop (o+k):=by
  rw[←List.drop_drop,List.take_append_drop]
 rw[e]
 exact h.append h'
theorem HLe {o:Nat} {cs:List Value} (_h:cs.length=o):HL F N nx w [] (cs.drop o):=by
 rw[List.drop_eq_nil_of_le (by omega)]
 exact HL.nil
end
theorem Af8 {X:Type} {next:X→X} {goes:X→DB} {ps:X→List Prop} (I:X→Prop) (m:X→Nat) (h:∀x,I x→(∀p∈ps x,p)∧(Br (goes x)=true→I (next x)∧m (next x) <m x)):
  ∀(n:Nat) (x:X),I x→m x≤n→A3 next goes ps n x∧I (Bj next goes n x)∧Br (goes (Bj next goes n x))=false
 | 0,x,hi,hm=>by
  obtain⟨h1,h2⟩:=h x hi
  have hg:Br (goes x)=false:=by
   cases hc:Br (goes x) with
   |false=>rfl
   |true=>have:=(h2 hc).2;omega
  exact⟨⟨h1,hg⟩,hi,hg⟩
 | n+1,x,hi,hm=>by
  obtain⟨h1,h2⟩:=h x hi
  cases hc:Br (goes x) with
  | false=>
   have e:Bj next goes (n+1) x=x:=by
    show(bif Br (goes x) then _ else x)=x
    rw[hc];rfl
   rw[e]
   exact⟨⟨h1,fun hh=>by rw[hc] at hh;cases hh⟩,hi,hc⟩
  | true=>
   have e:Bj next goes (n+1) x=Bj next goes n (next x):=by
    show(bif Br (goes x) then _ else x)=_
    rw[hc];rfl
   obtain⟨h3,h4⟩:=h2 hc
   obtain⟨g1,g2,g3⟩:=Af8 I m h n (next x) h3 (by omega)
   rw[e]
   exact⟨⟨h1,fun _=>g1⟩,g2,g3⟩
theorem i64_in {n:Int} (h:-9223372036854775808≤n∧n≤9223372036854775807):IntKind.i64.wrap n=n:=IntWalk.i64_in n h
def IZ (n:Int):Nat:=if n <0∨n >4611686018427387903 then 0 else if n≥1073741824 then 8 else if n≥16384 then 4 else if n≥64 then 2 else 1
def be:Nat→Nat→Ak
 |0,_=>[]
 |k+1,N=>UInt8.ofNat (N / 256^k)::be k N
def A9a (k:Nat):Nat:=if k=2 then 1 else if k=4 then 2 else if k=8 then 3 else 0
def AE (n:Int):Ak:=be (IZ n) (n.toNat+A9a (IZ n)*(64*256^(IZ n - 1)))
def val (acc:Nat) (l:Ak):Nat:=l.foldl (fun a y=>a*256+y.toNat) acc
def Am:Ak→Int×Int×Int
 | []=>(0,0,10)
 |x::r=>if r.length+1 <2^(x.toNat / 64) then(0,0,10) else if IZ (val (x.toNat % 64) (r.take (2^(x.toNat / 64) - 1))) <2^(x.toNat / 64) then(0,0,11) else((val (x.toNat % 64) (r.take (2^(x.toNat / 64) - 1)):Int),((2^(x.toNat / 64):Nat):Int),0)
theorem TB (x:UInt8) (r:Ak):Am (x::r)=if r.length+1 <2^(x.toNat / 64) then(0,0,10) else if IZ (val (x.toNat % 64) (r.take (2^(x.toNat / 64) - 1))) <2^(x.toNat / 64) then(0,0,11) else((val (x.toNat % 64) (r.take (2^(x.toNat / 64) - 1)):Int),((2^(x.toNat / 64):Nat):Int),0):=rfl
theorem JC:∀(k N:Nat),(be k N).length=k
 |0,_=>rfl
 |k+1,N=>by unfold be;rw[List.length_cons,JC]
theorem PP (acc:Nat) (x:UInt8) (r:Ak):val acc (x::r)=val (acc*256+x.toNat) r:=rfl
theorem QQ:∀(l:Ak) (acc:Nat),val acc l=acc*256^l.length+val 0 l
 | [],acc=>by show acc=acc*256^0+0;omega
 |x::r,acc=>by
  rw[PP,PP,QQ r,QQ r (0*256+x.toNat),List.length_cons,Nat.pow_succ,Nat.zero_mul,Nat.zero_add,Nat.add_mul,Nat.mul_assoc,Nat.mul_comm 256]
  omega
theorem Apo:∀(l:Ak),val 0 l <256^l.length
 | []=>by show 0 <256^0;decide
 |x::r=>by
  rw[PP,QQ,List.length_cons,Nat.pow_succ,Nat.zero_mul,Nat.zero_add]
  have h1:=Apo r
  have h2:x.toNat+1≤256:=x.toNat_lt
  have:=Nat.mul_le_mul_right (256^r.length) h2
  rw[Nat.add_mul,Nat.one_mul] at this
  rw[Nat.mul_comm (256^r.length)]
  omega
theorem Avh:∀(k N a:Nat),be k (N+a*256^k)=be k N
 |0,_,_=>rfl
 |k+1,N,a=>by
  unfold be
  have h:N+a*256^(k+1)=N+a*256*256^k:=by rw[Nat.pow_succ,Nat.mul_assoc,Nat.mul_comm (256^k)]
  rw[h,Avh k N (a*256),Nat.add_mul_div_right _ _ (Nat.pow_pos (by decide))]
  congr 1
  apply UInt8.toNat_inj.1
  rw[UInt8.toNat_ofNat',UInt8.toNat_ofNat']
  omega
theorem A5h:∀(l:Ak),be l.length (val 0 l)=l
 | []=>rfl
 | x::r=>by
  rw[List.length_cons]
  have e:val 0 (x::r)=val 0 r+x.toNat*256^r.length:=by
   rw[PP,QQ,Nat.zero_mul,Nat.zero_add,Nat.add_comm]
  unfold be
  rw[e,Avh,A5h r,Nat.add_mul_div_right _ _ (Nat.pow_pos (by decide)),Nat.div_eq_of_lt (Apo r),Nat.zero_add]
  congr 1
  exact UInt8.ofNat_toNat
theorem A90:∀(k N acc:Nat),val acc (be k N)=acc*256^k+N % 256^k
 |0,N,acc=>by show acc=acc*256^0+N % 256^0;omega
 |k+1,N,acc=>by
  unfold be
  have h8:(UInt8.ofNat (N / 256^k)).toNat=N / 256^k % 256:=by rw[UInt8.toNat_ofNat']
  have hm:=Nat.mod_pow_succ (x:=N) (b:=256) (k:=k)
  rw[PP,A90 k,h8,hm,Nat.pow_succ,Nat.add_mul,Nat.mul_assoc,Nat.mul_comm 256 (256^k),Nat.mul_comm (256^k) (N / 256^k % 256)]
  omega
def szs (k:Nat):Prop:=k=1∨k=2∨k=4∨k=8
theorem Auv {n:Int} (_h0:0≤n) (_h1:n≤4611686018427387903):szs (IZ n)∧n.toNat <64*256^(IZ n - 1):=by
 unfold IZ szs
 rw[if_neg (by omega)]
 split
 ·exact⟨by decide,by show n.toNat <64*256^7;omega⟩
 ·split
  ·exact⟨by decide,by show n.toNat <64*256^3;omega⟩
  ·split
   ·exact⟨by decide,by show n.toNat <64*256^1;omega⟩
   ·exact⟨by decide,by show n.toNat <64*256^0;omega⟩
theorem Blh {n k:Nat} (hk:szs k) (h:n <64*256^(k - 1)):IZ n≤k∧1≤IZ n∧n≤4611686018427387903:=by
 unfold IZ
 rcases hk with rfl|rfl|rfl|rfl
 ·have h':n <64:=h
  rw[if_neg (by omega),if_neg (by omega),if_neg (by omega),if_neg (by omega)];omega
 ·have h':n <64*256:=h
  rw[if_neg (by omega),if_neg (by omega),if_neg (by omega)]
  split<;>omega
 ·have h':n <64*256^3:=h
  have xb:n <1073741824:=by omega
  rw[if_neg (by omega),if_neg (by omega)]
  split
  ·omega
  ·split<;>omega
 ·have h':n <64*256^7:=h
  have xb:n <4611686018427387904:=by omega
  rw[if_neg (by omega)]
  split
  ·omega
  ·split
   ·omega
   ·split<;>omega
theorem Bif {k:Nat} (hk:szs k):A9a k≤3∧2^A9a k=k:=by
 rcases hk with rfl|rfl|rfl|rfl<;>decide
theorem A9b {t:Nat} (h:t≤3):szs (2^t)∧A9a (2^t)=t:=by
 match t,h with
 |0,_=>exact⟨by unfold szs;decide,rfl⟩
 |1,_=>exact⟨by unfold szs;decide,rfl⟩
 |2,_=>exact⟨by unfold szs;decide,rfl⟩
 |3,_=>exact⟨by unfold szs;decide,rfl⟩
 |n+4,h=>omega
theorem H8 (n:Int):(AE n).length=IZ n:=JC _ _
theorem A0a {n:Int} (h0:0≤n) (h1:n≤4611686018427387903) (r:Ak):Am (AE n++r)=(n,(IZ n:Int),0):=by
 obtain⟨hk,hn⟩:=Auv h0 h1
 unfold AE
 generalize iu:IZ n=k at*
 obtain⟨m,rfl⟩:∃m,k=m+1:=⟨k - 1,by unfold szs at hk;omega⟩
 obtain⟨t1,t2⟩:=Bif hk
 generalize A9a (m+1)=t at*
 rw[Nat.add_sub_cancel] at hn⊢
 have hp:0 <256^m:=Nat.pow_pos (by decide)
 have e1:(n.toNat+t*(64*256^m)) / 256^m=n.toNat / 256^m+t*64:=by rw[←Nat.mul_assoc,Nat.add_mul_div_right _ _ hp]
 have e2:n.toNat / 256^m <64:=by rw[Nat.div_lt_iff_lt_mul hp];exact hn
 have e3:(n.toNat+t*(64*256^m)) % 256^m=n.toNat % 256^m:=by rw[←Nat.mul_assoc,Nat.add_mul_mod_self_right]
 unfold be
 rw[e1]
 have aux:∀q:Nat,q <64→(UInt8.ofNat (q+t*64)).toNat=q+t*64∧(q+t*64) / 64=t∧(q+t*64) % 64=q:=fun q hq=>by
  rw[UInt8.toNat_ofNat']
  omega
 obtain⟨hx,ht,hm⟩:=aux _ e2
 show Am (UInt8.ofNat (n.toNat / 256^m+t*64)::(be m (n.toNat+t*(64*256^m))++r))=_
 rw[TB,hx,ht,hm,t2,Nat.add_sub_cancel]
 have hl:(be m (n.toNat+t*(64*256^m))++r).take m=be m (n.toNat+t*(64*256^m)):=by
  rw[List.take_append_of_le_length (by rw[JC];exact Nat.le_refl _),List.take_of_length_le (by rw[JC];exact Nat.le_refl _)]
 rw[hl,A90,e3]
 have hv:n.toNat / 256^m*256^m+n.toNat % 256^m=n.toNat:=by rw[Nat.mul_comm];exact Nat.div_add_mod _ _
 rw[hv,if_neg (by rw[List.length_append,JC];omega)]
 have y8:(n.toNat:Int)=n:=Int.toNat_of_nonneg h0
 rw[y8,iu,if_neg (by omega)]
theorem Bc1 {b:Ak} {n k:Int} (h:Am b=(n,k,0)):0≤n∧n≤4611686018427387903∧k=(IZ n:Int)∧IZ n≤b.length∧b.take (IZ n)=AE n:=by
 cases b with
 |nil=>cases h
 | cons x r=>
  rw[TB] at h
  split at h
  ·cases h
  ·rename_i hlen
   split at h
   ·cases h
   ·rename_i bc
    have hxl:x.toNat <256:=x.toNat_lt
    obtain⟨k1,k2⟩:=A9b (t:=x.toNat / 64) (by omega)
    generalize hK:2^(x.toNat / 64)=K at*
    obtain⟨m,rfl⟩:∃m,K=m+1:=⟨K - 1,by unfold szs at k1;omega⟩
    rw[Nat.add_sub_cancel] at*
    have sn:(r.take m).length=m:=by rw[List.length_take];omega
    have hv:=QQ (r.take m) (x.toNat % 64)
    have ae:=Apo (r.take m)
    rw[sn] at hv ae
    generalize hN:val (x.toNat % 64) (r.take m)=M at*
    have hM:M <64*256^m:=by
     have:x.toNat % 64+1≤64:=by omega
     have:=Nat.mul_le_mul_right (256^m) this
     rw[Nat.add_mul,Nat.one_mul] at this
     omega
    obtain⟨s1,s2,s3⟩:=Blh k1 (by rw[Nat.add_sub_cancel];exact hM)
    have hs:IZ (M:Int)=m+1:=by omega
    injection h with h1 h
    injection h with h2 h3
    subst h1
    refine⟨by omega,by omega,by rw[hs,←h2],by rw[hs,List.length_cons];omega,?_⟩
    rw[hs]
    unfold AE
    rw[hs,k2,Nat.add_sub_cancel,Int.toNat_natCast]
    have e:M+x.toNat / 64*(64*256^m)=val 0 (x::r.take m):=by
     rw[PP,Nat.zero_mul,Nat.zero_add,QQ,sn,hv,←Nat.mul_assoc]
     have hx:=Nat.div_add_mod x.toNat 64
     have:x.toNat*256^m=(x.toNat / 64*64+x.toNat % 64)*256^m:=by congr 1;omega
     rw[this,Nat.add_mul]
     omega
    rw[e]
    have hb:=A5h (x::r.take m)
    rw[List.length_cons,sn] at hb
    rw[hb]
    rfl
theorem A5g:∀(k N i:Nat),i <k→(be k N)[i]?=some (UInt8.ofNat (N / 256^(k - 1 - i)))
 |0,_,_,h=>by omega
 |k+1,N,0,_=>by unfold be;rfl
 |k+1,N,i+1,h=>by
  unfold be
  rw[List.getElem?_cons_succ,A5g k N i (by omega)]
  have:k - 1 - i=k+1 - 1 - (i+1):=by omega
  rw[this]
theorem Bay {k N i:Nat} (h:i <k):(be k N).take (i+1)=(be k N).take i++[UInt8.ofNat (N / 256^(k - 1 - i))]:=by
 rw[List.take_add_one,A5g k N i h]
 rfl
theorem Bcx (j:Nat):(2:Int)^(8*j)=((256^j:Nat):Int):=by
 rw[Int.pow_mul]
 norm_cast
theorem A8q {n:Int} {k i:Nat} (hn:0≤n) (_hk:k≤8) (_hi:i <k):
  UInt8.ofNat (IntKind.u8.wrap (n.fdiv ((2:Int)^min (IntKind.u64.wrap (IntKind.i64.wrap ((8:Int)*IntKind.i64.wrap (IntKind.i64.wrap ((k:Int) - (1:Int)) - (i:Int))))).toNat (64:Nat)))).toNat=UInt8.ofNat (n.toNat / 256^(k - 1 - i)):=by
 have e1:IntKind.u64.wrap (IntKind.i64.wrap ((8:Int)*IntKind.i64.wrap (IntKind.i64.wrap ((k:Int) - (1:Int)) - (i:Int))))=((8*(k - 1 - i):Nat):Int):=by
  rw[i64_in (n:=(k:Int) - 1) (by omega),i64_in (n:=(k:Int) - 1 - (i:Int)) (by omega),i64_in (by omega),IntWalk.u64_in _ (by omega)]
  omega
 rw[e1,Int.toNat_natCast,Nat.min_eq_left (by omega),Bcx]
 have e2:n=(n.toNat:Int):=(Int.toNat_of_nonneg hn).symm
 have e3:n.fdiv ((256^(k - 1 - i):Nat):Int)=((n.toNat / 256^(k - 1 - i):Nat):Int):=by
  rw[Int.fdiv_eq_ediv_of_nonneg _ (Int.natCast_nonneg _)]
  conv=>lhs;rw[e2]
  exact(Int.natCast_ediv _ _).symm
 rw[e3]
 generalize n.toNat / 256^(k - 1 - i)=q
 have e4:IntKind.u8.wrap (q:Int)=((q % 256:Nat):Int):=by
  rw[IntKind.wrap_u8]
  omega
 rw[e4,Int.toNat_natCast]
 apply UInt8.toNat_inj.1
 rw[UInt8.toNat_ofNat',UInt8.toNat_ofNat']
 omega
theorem Bhy:∀(t:Fin 4) (q:Fin 64),(BitVec.ofInt 8 (q.val:Int) ||| BitVec.ofInt 8 ((64*t.val:Nat):Int)).toNat=q.val+t.val*64:=by decide+kernel
theorem Bcs {q t:Nat} (hq:q <64) (ht:t <4):UInt8.ofNat (IntKind.u8.wrap ((BitVec.ofInt 8 (((UInt8.ofNat q).toNat:Nat):Int) ||| BitVec.ofInt 8 ((64*t:Nat):Int)).toNat:Int)).toNat=UInt8.ofNat (q+t*64):=by
 have h1:(UInt8.ofNat q).toNat=q:=by rw[UInt8.toNat_ofNat'];omega
 rw[h1,Bhy ⟨t,ht⟩ ⟨q,hq⟩,IntWalk.u8_in _ (by show 0≤((q+t*64:Nat):Int)∧((q+t*64:Nat):Int)≤255;omega),Int.toNat_natCast]
theorem Apd {m N t:Nat} (b:Ak) (hN:N <64*256^m) (ht:t <4) (d:UInt8):
  (b++be (m+1) N).set b.length (UInt8.ofNat (IntKind.u8.wrap ((BitVec.ofInt 8 ((((b++be (m+1) N).getD b.length d).toNat:Nat):Int) ||| BitVec.ofInt 8 ((64*t:Nat):Int)).toNat:Int)).toNat)=b++be (m+1) (N+t*(64*256^m)):=by
 have hp:0 <256^m:=Nat.pow_pos (by decide)
 have e2:N / 256^m <64:=by rw[Nat.div_lt_iff_lt_mul hp];exact hN
 have e0:be (m+1) N=UInt8.ofNat (N / 256^m)::be m N:=rfl
 have e1:be (m+1) (N+t*(64*256^m))=UInt8.ofNat (N / 256^m+t*64)::be m N:=by
  show UInt8.ofNat ((N+t*(64*256^m)) / 256^m)::be m (N+t*(64*256^m))=_
  rw[←Nat.mul_assoc,Avh,Nat.add_mul_div_right _ _ hp]
 have hg:(b++be (m+1) N).getD b.length d=UInt8.ofNat (N / 256^m):=by
  rw[e0,List.getD_eq_getElem?_getD,List.getElem?_append_right (Nat.le_refl _),Nat.sub_self]
  rfl
 rw[hg,Bcs e2 ht,e0,e1,List.set_append_right _ _ (Nat.le_refl _),Nat.sub_self]
 rfl
theorem Bct {a:Nat} (ha:a <64*256^6) {y:UInt8}:IntKind.i64.wrap ((BitVec.ofInt 64 (IntKind.i64.wrap ((a:Int)*256)) ||| BitVec.ofInt 64 (IntKind.i64.wrap ((y.toNat:Nat):Int))).toNat:Int)=((a*256+y.toNat:Nat):Int):=by
 have hy:y.toNat <256:=y.toNat_lt
 have h6:64*256^6=18014398509481984:=by decide
 rw[h6] at ha
 rw[i64_in (n:=(a:Int)*256) (by omega),i64_in (n:=((y.toNat:Nat):Int)) (by omega)]
 have e1:(a:Int)*256=((a*256:Nat):Int):=by omega
 have e2:(BitVec.ofInt 64 ((a*256:Nat):Int) ||| BitVec.ofInt 64 ((y.toNat:Nat):Int)).toNat=a*256+y.toNat:=by
  rw[BitVec.toNat_or,BitVec.toNat_ofInt,BitVec.toNat_ofInt]
  have m1:(((a*256:Nat):Int) % ((2^64:Nat):Int)).toNat=2^8*a:=by omega
  have m2:(((y.toNat:Nat):Int) % ((2^64:Nat):Int)).toNat=y.toNat:=by omega
  rw[m1,m2,←Nat.two_pow_add_eq_or_of_lt hy]
  omega
 rw[e1,e2,i64_in (by omega)]
theorem A91 (a:Nat) (L:Ak) (i:Nat) (h:i <L.length) {d:UInt8}:((val a (L.take i)*256+(L.getD i d).toNat:Nat):Int)=(val a (L.take (i+1)):Int):=by
 have e:L.take (i+1)=L.take i++[L.getD i d]:=by
  rw[List.take_add_one,List.getD_eq_getElem?_getD,List.getElem?_eq_getElem h]
  rfl
 rw[e]
 unfold val
 rw[List.foldl_append]
 rfl
theorem Bkk (x:UInt8):IntKind.i64.wrap ((1:Int)*(2:Int)^min ((((x.toNat:Nat):Int)).fdiv (64:Int)).toNat (64:Nat))=((2^(x.toNat / 64):Nat):Int):=by
 have hx:x.toNat <256:=x.toNat_lt
 have e:((((x.toNat:Nat):Int)).fdiv (64:Int)).toNat=x.toNat / 64:=by
  rw[Int.fdiv_eq_ediv_of_nonneg _ (by decide)]
  omega
 rw[e,Nat.min_eq_left (by omega)]
 have:x.toNat / 64≤3:=by omega
 generalize x.toNat / 64=t at*
 match t,this with
 |0,_=>rfl
 |1,_=>rfl
 |2,_=>rfl
 |3,_=>rfl
 |n+4,h=>omega
theorem A70:∀q:Fin 256,(BitVec.ofInt 8 (q.val:Int) &&& BitVec.ofInt 8 63).toNat=q.val % 64:=by decide+kernel
theorem Bb1 (x:UInt8):IntKind.i64.wrap (IntKind.u8.wrap ((BitVec.ofInt 8 ((x.toNat:Nat):Int) &&& BitVec.ofInt 8 63).toNat:Int))=((x.toNat % 64:Nat):Int):=by
 have hx:x.toNat <256:=x.toNat_lt
 rw[A70 ⟨x.toNat,hx⟩,IntWalk.u8_in _ (by show 0≤((x.toNat % 64:Nat):Int)∧((x.toNat % 64:Nat):Int)≤255;omega),i64_in (by show -9223372036854775808≤((x.toNat % 64:Nat):Int)∧((x.toNat % 64:Nat):Int)≤9223372036854775807;omega)]
theorem Alp {X:Type} (mk:Nat→X) (n:Nat) (stop:Nat→Bool) (next:X→X) (goes:X→DB) (ps:X→List Prop) (hg:∀i,i≤n→(∀j,j <i→stop j=false)→Br (goes (mk i))=(decide (i <n)&&!stop i)) (hn:∀i,i <n→(∀j,j <i+1→stop j=false)→next (mk i)=mk (i+1)) (hp:∀i,i≤n→(∀j,j <i→stop j=false)→∀p∈ps (mk i),p):
  ∀(f i:Nat),i≤n→n≤i+f→(∀j,j <i→stop j=false)→
  A3 next goes ps f (mk i)∧∃k,k≤n∧Bj next goes f (mk i)=mk k∧(∀j,j <k→stop j=false)∧(k <n→stop k=true)
 |0,i,hi,hf,hs=>by
  have hc:=hg i hi hs
  have:i=n:=by omega
  rw[decide_eq_false (by omega),Bool.false_and] at hc
  exact⟨⟨hp i hi hs,hc⟩,i,hi,rfl,hs,fun h=>by omega⟩
 | f +1,i,hi,hf,hs=>by
  have hc:=hg i hi hs
  cases hb:Br (goes (mk i)) with
  | false=>
   have e:Bj next goes (f+1) (mk i)=mk i:=by
    show(bif Br (goes (mk i)) then _ else mk i)=mk i
    rw[hb];rfl
   rw[e]
   refine⟨⟨hp i hi hs,fun h=>by rw[hb] at h;cases h⟩,i,hi,rfl,hs,fun h=>?_⟩
   rw[hb,decide_eq_true h,Bool.true_and] at hc
   cases hst:stop i with
   |true=>rfl
   |false=>rw[hst] at hc;cases hc
  | true=>
   rw[hb] at hc
   have h1:i <n:=by
    cases hd:decide (i <n) with
    |true=>exact of_decide_eq_true hd
    |false=>rw[hd] at hc;cases hc
   have h2:stop i=false:=by
    cases hst:stop i with
    |false=>rfl
    |true=>rw[hst,Bool.and_comm] at hc;cases hc
   have jx:∀j,j <i+1→stop j=false:=fun j hj=>by
    by_cases h:j <i
    ·exact hs j h
    ·obtain rfl:j=i:=by omega
     exact h2
   have e:Bj next goes (f+1) (mk i)=Bj next goes f (mk (i+1)):=by
    show(bif Br (goes (mk i)) then Bj next goes f (next (mk i)) else mk i)=_
    rw[hb,hn i h1 jx];rfl
   obtain⟨g1,g2⟩:=Alp mk n stop next goes ps hg hn hp f (i+1) h1 (by omega) jx
   rw[e]
   exact⟨⟨hp i hi hs,fun _=>by rw[hn i h1 jx];exact g1⟩,g2⟩
theorem Bdc {X:Type} (mk:Nat→X) (n:Nat) (stop:Nat→Bool) (next:X→X) (goes:X→DB) (ps:X→List Prop) (f:Nat) (x:X) (hx:x=mk 0) (_hf:n≤f) (hg:∀i,i≤n→(∀j,j <i→stop j=false)→Br (goes (mk i))=(decide (i <n)&&!stop i)) (hn:∀i,i <n→(∀j,j <i+1→stop j=false)→next (mk i)=mk (i+1)) (hp:∀i,i≤n→(∀j,j <i→stop j=false)→∀p∈ps (mk i),p):
  A3 next goes ps f x∧∃k,k≤n∧Bj next goes f x=mk k∧(∀j,j <k→stop j=false)∧(k <n→stop k=true):=by
 subst hx
 exact Alp mk n stop next goes ps hg hn hp f 0 (Nat.zero_le _) (by omega) fun j h=>absurd h (Nat.not_lt_zero _)
theorem JK {i:Nat} (_h:i <9223372036854775807):IntKind.i64.wrap ((i:Int)+1)=((i+1:Nat):Int):=by rw[i64_in (by omega)];omega
theorem Ux {i n:Nat}:decide ((i:Int) <(n:Int))=decide (i <n):=by
 by_cases h:i <n
 ·rw[decide_eq_true h,decide_eq_true (by omega)]
 ·rw[decide_eq_false h,decide_eq_false (by omega)]
theorem nn (b:Bool):(!!b)=b:=Bool.not_not b
theorem A5d {α:Type} (l:List α) (d:α) (p:α→Bool) (k:Nat) (_hk:k≤l.length) (h1:∀j,j <k→p (l.getD j d)=true) (h2:k <l.length→p (l.getD k d)=false):l.all p=decide (¬k <l.length):=by
 by_cases h:k <l.length
 ·rw[decide_eq_false (by omega)]
  have:=h2 h
  rw[List.getD_eq_getElem?_getD,List.getElem?_eq_getElem h,Option.getD_some] at this
  cases ha:l.all p with
  |false=>rfl
  |true=>rw[List.all_eq_true.1 ha _ (List.getElem_mem h)] at this;cases this
 ·rw[decide_eq_true (by omega)]
  refine List.all_eq_true.2 fun x hx=>?_
  obtain⟨i,hi,rfl⟩:=List.mem_iff_getElem.1 hx
  have:=h1 i (by omega)
  rw[List.getD_eq_getElem?_getD,List.getElem?_eq_getElem hi,Option.getD_some] at this
  exact this
def AT (n:Nat):Prop:=n≤9223372036854775807
def JL (n:Nat) (p:Nat→Bool):Bool:=(List.range n).all p
theorem Fp {n:Nat} {p:Nat→Bool}:JL n p=true↔∀i,i <n→p i=true:=by
 unfold JL
 rw[List.all_eq_true]
 exact⟨fun h i hi=>h i (List.mem_range.2 hi),fun h i hi=>h i (List.mem_range.1 hi)⟩
theorem LR {n:Nat} {p q:Nat→Bool} (h:∀i,i <n→p i=q i):JL n p=JL n q:=by
 rw[Bool.eq_iff_iff,Fp,Fp]
 exact⟨fun g i hi=>(h i hi)▸g i hi,fun g i hi=>(h i hi).symm▸g i hi⟩
theorem Abm {X:Type} (mk:Nat→X) (n:Nat) (bad:Nat→Bool) (next:X→X) (goes:X→DB) (ps:X→List Prop) (f:Nat) (x:X) (hx:x=mk 0) (hf:n≤f) (hg:∀i,i≤n→(∀j,j <i→bad j=false)→Br (goes (mk i))=(decide (i <n)&&!bad i)) (hn:∀i,i <n→(∀j,j <i+1→bad j=false)→next (mk i)=mk (i+1)) (hp:∀i,i≤n→(∀j,j <i→bad j=false)→∀p∈ps (mk i),p):
  A3 next goes ps f x∧∃k,k≤n∧Bj next goes f x=mk k∧(∀j,j <k→bad j=false)∧(k <n→bad k=true)∧(decide (k <n)&&bad k)=!JL n (fun i=>!bad i):=by
 obtain⟨h1,k,hk,h2,h3,h4⟩:=Bdc mk n bad next goes ps f x hx hf hg hn hp
 refine⟨h1,k,hk,h2,h3,h4,?_⟩
 by_cases h:k <n
 ·rw[decide_eq_true h,h4 h]
  cases ha:JL n (fun i=>!bad i) with
  |false=>rfl
  |true=>have:=Fp.1 ha k h;rw[h4 h] at this;cases this
 ·rw[decide_eq_false h,Fp.2 (fun i hi=>by rw[h3 i (by omega)];rfl)]
  rfl
theorem Bey {α:Type} (l:List α) (d:α) (p:α→Bool):l.all p=JL l.length (fun i=>p (l.getD i d)):=by
 rw[Bool.eq_iff_iff,List.all_eq_true,Fp]
 constructor
 ·intro h i hi
  rw[List.getD_eq_getElem?_getD,List.getElem?_eq_getElem hi,Option.getD_some]
  exact h _ (List.getElem_mem hi)
 ·intro h x hx
  obtain⟨i,hi,rfl⟩:=List.mem_iff_getElem.1 hx
  have:=h i hi
  rw[List.getD_eq_getElem?_getD,List.getElem?_eq_getElem hi,Option.getD_some] at this
  exact this
theorem Blp {α β:Type} (l:List α) (r:List β) (d:α) (e:β) (p:α→β→Bool) (h:r.length=l.length):(l.zip r).all (fun x=>p x.1 x.2)=JL l.length (fun i=>p (l.getD i d) (r.getD i e)):=by
 rw[Bey (l.zip r) (d,e),List.length_zip,h,Nat.min_self]
 refine LR fun i hi=>?_
 rw[List.getD_eq_getElem?_getD,List.getD_eq_getElem?_getD,List.getD_eq_getElem?_getD,List.getElem?_eq_getElem (by rw[List.length_zip];omega),List.getElem?_eq_getElem hi,List.getElem?_eq_getElem (by omega),List.getElem_zip]
 rfl
theorem Bl0 (n:Nat):(n==0)=!decide (1≤n):=by cases n<;>simp
theorem Be0 (n:Nat):((n:Int)==0)=(n==0):=by cases n<;>simp;omega
theorem dgt (n k:Nat):decide ((n:Int) >(k:Int))=decide (k <n):=decide_eq_decide.2 (by omega)
instance:LawfulBEq ByteArray where
 rfl:=fun {a}=>by cases a with|mk a=>exact beq_self_eq_true a
 eq_of_beq:=fun {a b} h=>by
  cases a with|mk a=>cases b with|mk b=>exact congrArg ByteArray.mk (eq_of_beq (α:=Array UInt8) h)
theorem Ae0:∀(m:List (ByteArray×Int)) (b:ByteArray) (v:Int) (x:ByteArray),Jb (Ue m b v) x=if x=b then v else Jb m x
 | [],b,v,x=>by
  by_cases h:x=b
  ·subst h;simp[Ue,Jb]
  ·simp[Ue,Jb,h,show(x==b)=false from beq_eq_false_iff_ne.2 h]
 | (a,n)::r,b,v,x=>by
  unfold Ue
  by_cases h:b=a
  ·subst h
   rw[show(b==b)=true from beq_self_eq_true b,cond_true]
   by_cases hx:x=b
   ·subst hx;simp[Jb]
   ·simp[Jb,hx,show(x==b)=false from beq_eq_false_iff_ne.2 hx]
  ·rw[show(b==a)=false from beq_eq_false_iff_ne.2 h,cond_false]
   by_cases hx:x=a
   ·subst hx
    rw[if_neg (fun e=>h e.symm)]
    simp[Jb]
   ·simp only[Jb,show(x==a)=false from beq_eq_false_iff_ne.2 hx,cond_false]
    exact Ae0 r b v x
def Aga (b:UInt8):Bool:=decide (97≤b.toNat)&&decide (b.toNat≤122)
def PD (s:ByteArray):Bool:=s.data.toList.all Aga&&(decide (1≤s.size)&&decide (s.size≤12))
def Zn (p:Int):Bool:=p==1||p==2
def VU:List ByteArray→List Ae→Int
 |_,[]=>0
 |seen,g::r=>bif !(PD g.name&&Zn g.policy) then 2 else bif seen.any (fun s=>s==g.name) then 70 else VU (seen++[g.name]) r
def A1 (l:List Ae):Int:=bif l.length==0 then 2 else bif decide (4 <l.length) then 3 else VU [] l
theorem PN (s:ByteArray):s.data.toList.length=s.size:=by show s.data.toList.length=s.data.size;exact Array.length_toList
theorem A64 (s:ByteArray) (i:Nat) (h:i <s.size):s.data.toList.getD i 0=s[i]'h:=by
 rw[List.getD_eq_getElem?_getD,List.getElem?_eq_getElem (by rw[PN];exact h)]
 rfl
theorem Aui (s:ByteArray) (i:Nat) (h:i <s.size):(decide (((Utf8.decode s i).1:Int) <97)||decide (((Utf8.decode s i).1:Int) >122))=!Aga (s.data.toList.getD i 0)∧(Aga (s.data.toList.getD i 0)=true→(Utf8.decode s i).2=1):=by
 rw[A64 s i h]
 by_cases hb:(s[i]'h).toNat <128
 ·rw[decode_ascii s i h hb]
  refine⟨?_,fun _=>rfl⟩
  unfold Aga
  rw[Bool.not_and,←decide_not,←decide_not]
  congr 1<;>exact decide_eq_decide.2 (by omega)
 ·have h2:=(decode_high s i h (by omega)).1
  have hl:Aga (s[i]'h)=false:=by unfold Aga;rw[decide_eq_false (p:=(s[i]'h).toNat≤122) (by omega),Bool.and_false]
  rw[hl]
  refine⟨?_,fun h=>by cases h⟩
  rw[decide_eq_true (p:=((Utf8.decode s i).1:Int) >122) (by omega),Bool.or_true]
  rfl
theorem Qu {l:List Ae} (h:A1 l=0):1≤l.length∧l.length≤4:=by
 unfold A1 at h
 cases h1:l.length==0 with
 |true=>rw[h1] at h;cases h
 | false=>
  rw[h1] at h
  cases h2:decide (4 <l.length) with
  |true=>rw[h2] at h;cases h
  |false=>
   have:=of_decide_eq_false h2
   have h3:l.length≠0:=by simpa using h1
   omega
theorem A23 (l:List Ae) (k:Nat) (seen:List ByteArray):(∀j,j <k→j <l.length→(PD (l.getD j (Ao TC.group)).name&&Zn (l.getD j (Ao TC.group)).policy)=true∧(seen++(l.take j).map (·.name)).any (fun s=>s==(l.getD j (Ao TC.group)).name)=false)→
  VU seen l=VU (seen++(l.take k).map (·.name)) (l.drop k):=by
 induction l generalizing k seen with
 |nil=>intro _;simp[VU]
 | cons g r ih=>
  intro h
  cases k with
  |zero=>simp
  | succ k=>
   obtain⟨h1,h2⟩:=h 0 (Nat.succ_pos _) (Nat.succ_pos _)
   have bx:(PD g.name&&Zn g.policy)=true:=h1
   have e9:seen.any (fun s=>s==g.name)=false:=by simpa using h2
   rw[VU,bx,e9,Bool.not_true,cond_false,cond_false]
   rw[ih k (seen++[g.name]) (fun j hj hl=>by
    have:=h (j+1) (by omega) (by simpa using hl)
    simpa[List.append_assoc] using this)]
   simp[List.append_assoc]
def Rc (l:List Ae):Nat→List (ByteArray×Int)
 |0=>[]
 |i+1=>Ue (Rc l i) (l.getD i (Ao TC.group)).1 (IntKind.i64.wrap (Jb (Rc l i) (l.getD i (Ao TC.group)).1+1))
def Abo (l:List Ae) (i:Nat):Bool:=!(PD (l.getD i (Ao TC.group)).1&&Zn (l.getD i (Ao TC.group)).2)||((l.take i).map (·.name)).any (fun s=>s==(l.getD i (Ao TC.group)).1)
theorem Ayi (l:List Ae) (i:Nat) (h:i <l.length):(l.take (i+1)).map (·.name)=(l.take i).map (·.name)++[(l.getD i (Ao TC.group)).1]:=by
 rw[List.take_add_one,List.getD_eq_getElem?_getD,List.getElem?_eq_getElem h,List.map_append]
 rfl
theorem Aez (l:List Ae):∀(i:Nat),i≤l.length→(∀j,j <i→Abo l j=false)→∀x,Jb (Rc l i) x=bif((l.take i).map (·.name)).any (fun s=>s==x) then 1 else 0
 |0,_,_,x=>by simp[Rc,Jb]
 | i+1,hi,hs,x=>by
  have ih:=Aez l i (by omega) (fun j hj=>hs j (by omega))
  have h:=hs i (Nat.lt_succ_self i)
  unfold Abo at h
  have h2:=(Bool.or_eq_false_iff.1 h).2
  unfold Rc
  rw[Ae0,ih,h2,Ayi l i (by omega),List.any_append,ih]
  by_cases hx:x=(l.getD i (Ao TC.group)).1
  ·subst hx
   rw[if_pos rfl]
   simp
   decide
  ·rw[if_neg hx]
   have:([(l.getD i (Ao TC.group)).1].any fun s=>s==x)=false:=by
    simp only[List.any_cons,List.any_nil,Bool.or_false]
    exact beq_eq_false_iff_ne.2 fun e=>hx e.symm
   rw[this,Bool.or_false]
def Bfo:BitVec 32:=79764919#32
def crS (r:BitVec 32):BitVec 32:=(r <<< 1)^^^(bif r.getLsbD 31 then Bfo else 0#32)
def cr8 (r:BitVec 32):BitVec 32:=crS (crS (crS (crS (crS (crS (crS (crS r)))))))
def hiB (x:UInt8):BitVec 32:=BitVec.ofNat 32 x.toNat <<< 24
def byB (r:BitVec 32) (x:UInt8):BitVec 32:=cr8 (r^^^hiB x)
def crB (r:BitVec 32) (l:Ak):BitVec 32:=l.foldl byB r
def OI (l:Ak):BitVec 32:= ~~~ (crB (BitVec.allOnes 32) l)
def A89 (s:BitVec 32):Ak:=[UInt8.ofNat (s.toNat / 2^24),UInt8.ofNat (s.toNat / 2^16),UInt8.ofNat (s.toNat / 2^8),UInt8.ofNat s.toNat]
def Ae1 (l:Ak):Ak:=l++A89 (OI l)
def Mu (b:Ak):Bool:=decide (4≤b.length)&&(b==Ae1 (b.take (b.length - 4)))
theorem Ba6 (r:BitVec 32) (a b:Ak):crB r (a++b)=crB (crB r a) b:=List.foldl_append
theorem Ba7 (r:BitVec 32) (l:Ak) (x:UInt8):crB r (l++[x])=byB (crB r l) x:=by rw[Ba6];rfl
theorem Aut (s:BitVec 32):(A89 s).length=4:=rfl
theorem A6w (l:Ak):(Ae1 l).length=l.length+4:=by unfold Ae1;rw[List.length_append,Aut]
abbrev wB (x:BitVec 32):Int:=(x.toNat:Int)
theorem Blk (x:BitVec 32):0≤wB x∧wB x <4294967296:=by have:=x.isLt;unfold wB;omega
theorem Ayk {n:Int} (h:0≤n∧n <4294967296):IntKind.u32.wrap n=n:=by
 show n % 2^32=n
 exact Int.emod_eq_of_lt h.1 (by omega)
theorem Atf (x:BitVec 32):BitVec.ofInt 32 (wB x)=x:=by
 apply BitVec.eq_of_toNat_eq
 unfold wB
 simp
theorem Ay1 (x:BitVec 32):IntKind.u32.wrap (x.toNat:Int)=wB x:=Ayk (Blk x)
theorem Ble (x:BitVec 32):IntKind.u32.wrap (wB x*2)=wB (x <<< 1):=by
 show(wB x*2) % 2^32=wB (x <<< 1)
 unfold wB
 rw[BitVec.toNat_shiftLeft,Nat.shiftLeft_eq]
 omega
theorem Bli (x:BitVec 32):(wB x).fdiv 2147483648=bif x.getLsbD 31 then 1 else 0:=by
 have hl:=x.isLt
 have e:(wB x).fdiv 2147483648=((x.toNat / 2^31:Nat):Int):=by
  unfold wB
  rw[Int.fdiv_eq_ediv_of_nonneg _ (by omega)]
  omega
 rw[e,BitVec.getLsbD,Nat.testBit_eq_decide_div_mod_eq]
 by_cases h:x.toNat <2^31
 ·rw[decide_eq_false (by omega),cond_false];omega
 ·rw[decide_eq_true (by omega),cond_true];omega
theorem Bhz (b:Bool):IntKind.u32.wrap ((bif b then 1 else 0)*79764919)=wB (bif b then Bfo else 0#32):=by cases b<;>decide
theorem Bl4 (x:UInt8):IntKind.u32.wrap (IntKind.u32.wrap (x.toNat:Int)*16777216)=wB (hiB x):=by
 have hx:x.toNat <256:=x.toNat_lt
 unfold hiB wB
 rw[Ayk (n:=(x.toNat:Int)) (by omega),Ayk (by omega),BitVec.toNat_shiftLeft,Nat.shiftLeft_eq,BitVec.toNat_ofNat]
 omega
theorem Bku (x:BitVec 32):IntKind.u32.wrap (((BitVec.ofInt 32 4294967295^^^x).toNat:Nat):Int)=wB (~~~ x):=by
 rw[Ay1,show BitVec.ofInt 32 4294967295=BitVec.allOnes 32 by decide,BitVec.allOnes_xor]
theorem Amd (x:BitVec 32) (k:Nat):UInt8.ofNat (IntKind.u8.wrap ((wB x).fdiv ((2^k:Nat):Int))).toNat=UInt8.ofNat (x.toNat / 2^k):=by
 have hp:0 <2^k:=Nat.two_pow_pos k
 have e:(wB x).fdiv ((2^k:Nat):Int)=((x.toNat / 2^k:Nat):Int):=by
  unfold wB
  rw[Int.fdiv_eq_ediv_of_nonneg _ (Int.natCast_nonneg _)]
  exact(Int.natCast_ediv _ _).symm
 rw[e]
 apply UInt8.toNat_inj.1
 rw[UInt8.toNat_ofNat',UInt8.toNat_ofNat']
 show(((x.toNat / 2^k:Nat):Int) % 2^8).toNat % 2^8=_
 omega
theorem A36 {X:Type} (mk:Nat→X) (n:Nat) (next:X→X) (goes:X→DB) (ps:X→List Prop) (f:Nat) (x:X) (hx:x=mk 0) (hf:n≤f) (hg:∀i,i≤n→Br (goes (mk i))=decide (i <n)) (hn:∀i,i <n→next (mk i)=mk (i+1)) (hp:∀i,i≤n→∀p∈ps (mk i),p):A3 next goes ps f x∧Bj next goes f x=mk n:=by
 obtain⟨h1,k,hk,h2,_,h4⟩:=Bdc mk n (fun _=>false) next goes ps f x hx hf (fun i hi _=>by rw[hg i hi,Bool.not_false,Bool.and_true]) (fun i hi _=>hn i hi) (fun i hi _=>hp i hi)
 rcases Nat.lt_or_ge k n with h|h
 ·exact absurd (h4 h) (by decide)
 ·obtain rfl:k=n:=by omega
  exact⟨h1,h2⟩
theorem A5r (r:BitVec 32) (l:Ak) (i:Nat) (h:i <l.length):crB r (l.take (i+1))=byB (crB r (l.take i)) (l.getD i 0):=by
 rw[List.take_add_one,List.getElem?_eq_getElem h,List.getD_eq_getElem?_getD,List.getElem?_eq_getElem h]
 exact Ba7 _ _ _
abbrev Cz:Type:=Int×Int
def Aeo (x:Cz):St:=⟨29,0,[(0,.v (.int .u32 x.1)),(18,iV (x.2))],[]⟩
def Q3:St→Option Cz
 |⟨29,0,[(0,.v (.int .u32 z0)),(18,.v (.int .i64 z1))],[]⟩=>some (z0,z1)
 |_=>none
def Aen:E2:=⟨0,0,[0,18],[],[],[],[0],[]⟩
def Aem:Fz:=⟨[],[],[0,18],[]⟩
def M5 (a1:Int):Bool:=!decide (a1 <8)
def II (a0:Int):Int:=IntKind.u32.wrap (↑(BitVec.ofInt 32 (IntKind.u32.wrap (a0*2))^^^BitVec.ofInt 32 (IntKind.u32.wrap (a0.fdiv 2147483648*79764919))).toNat:Int)
def E5 (x:Cz):Cz:=(II x.1,IntKind.i64.wrap (x.2+1))
def E4 (x:Cz):DB:=some (!(M5 x.2))
def Pb (_x:Cz):List Prop:=[]
abbrev HH:Cz→List Prop:=Pb
def WV (x:Cz):BG:=[(some 2,some ((M5 x.2)),⟨29,0,[(0,.v (.int .u32 x.1))],[]⟩)]
def E3 (x:Cz):Nat:=(8 - x.2).toNat
def Kl (x:Cz):Cz:=Bj E5 E4 (E3 x) x
def Yv:=Jg (CP C0 L0) (AQ Bb 73 2) Aen Aem Q3 E3 E5 E4 HH WV
def LZ:=WA 2 (g:=Yv) (CR (T:=Aeo) (psA:=Pb) Aj8 A9 (u:=9) (by kernel_rfl) (by decide) (fun⟨a0,a1⟩=>by kernel_rfl) (fun _ h=>h) (fun s x h=>by unfold Q3 at h;split at h<;>first|(cases h;rfl)|cases h) (fun _=>Bm (n:=29) rfl) fun _ _=>rfl) ⟨L0,A9⟩
abbrev Cy:Type:=Int×Ak×Int×Int
def Ael (x:Cy):St:=⟨29,0,[(0,.v (.int .u32 x.1)),(7,.sl .u8 x.2.1),(8,iV (x.2.2.1)),(9,iV (x.2.2.2))],[]⟩
def Q2:St→Option Cy
 |⟨29,0,[(0,.v (.int .u32 z0)),(7,.sl .u8 z1),(8,.v (.int .i64 z2)),(9,.v (.int .i64 z3))],[]⟩=>some (z0,z1,z2,z3)
 |_=>none
def Aek:E2:=⟨0,0,[0,7,8,9],[],[],[],[0],[]⟩
def Aej:Fz:=⟨[],[],[0,7,8,9],[]⟩
def Kk (a0:Int) (a1:Ak) (a3:Int):Int:=(Kl (IntKind.u32.wrap (↑(BitVec.ofInt 32 a0^^^BitVec.ofInt 32 (IntKind.u32.wrap (IntKind.u32.wrap (↑(UInt8.toNat (a1.getD a3.toNat (Ao TC.u8))):Int)*16777216))).toNat:Int),0)).1
def Df:Cy→Cy
  |(a0,a1,a2,a3)=>(Kk a0 a1 a3,a1,a2,IntKind.i64.wrap (a3+1))
def De (x:Cy):DB:=some (!!decide (x.2.2.2 <x.2.2.1))
def O9:Cy→List Prop
  |(a0,a1,a2,a3)=>[((!!decide (a3 <a2))=true→0≤a3∧a3 <(a1.length:Int)),((!!decide (a3 <a2))=true→AQ Bb (73:FuncId) 2=AQ Bb (73:FuncId) 2),((!!decide (a3 <a2))=true→A3 E5 E4 HH (E3 (IntKind.u32.wrap (↑(BitVec.ofInt 32 a0^^^BitVec.ofInt 32 (IntKind.u32.wrap (IntKind.u32.wrap (↑(UInt8.toNat (a1.getD a3.toNat (Ao TC.u8))):Int)*16777216))).toNat:Int),0)) (IntKind.u32.wrap (↑(BitVec.ofInt 32 a0^^^BitVec.ofInt 32 (IntKind.u32.wrap (IntKind.u32.wrap (↑(UInt8.toNat (a1.getD a3.toNat (Ao TC.u8))):Int)*16777216))).toNat:Int),0))]
def Ej:Cy→List Prop
  |(a0,a1,a2,a3)=>[((!!decide (a3 <a2))=true→0≤a3∧a3 <(a1.length:Int)),((!!decide (a3 <a2))=true→A3 E5 E4 HH (E3 (IntKind.u32.wrap (↑(BitVec.ofInt 32 a0^^^BitVec.ofInt 32 (IntKind.u32.wrap (IntKind.u32.wrap (↑(UInt8.toNat (a1.getD a3.toNat (Ao TC.u8))):Int)*16777216))).toNat:Int),0)) (IntKind.u32.wrap (↑(BitVec.ofInt 32 a0^^^BitVec.ofInt 32 (IntKind.u32.wrap (IntKind.u32.wrap (↑(UInt8.toNat (a1.getD a3.toNat (Ao TC.u8))):Int)*16777216))).toNat:Int),0))]
def WU (x:Cy):BG:=[(some 0,some (!decide (x.2.2.2 <x.2.2.1)),⟨29,0,[(0,.v (.int .u32 x.1))],[]⟩)]
def Dd (x:Cy):Nat:=(x.2.2.1 - x.2.2.2).toNat
def Pa (x:Cy):Cy:=Bj Df De (Dd x) x
theorem Acb (a0:Int) (a1:Ak) (a2 a3:Int) (hp:∀p∈Ej (a0,a1,a2,a3),p):∀p∈O9 (a0,a1,a2,a3),p:=
  (nT hp fun hp=>Aa (by intros;rfl) (nT hp fun _=>An))
def Yu:=Jg (CP C0 LZ.1) (AQ Bb 73 0) Aek Aej Q2 Dd Df De Ej WU
def RU:=WA 0 (g:=Yu) (CR (T:=Ael) (psA:=O9) Aj8 LZ.2 (u:=9) (by kernel_rfl) (by decide) (fun⟨a0,a1,a2,a3⟩=>by kernel_rfl) (fun⟨a0,a1,a2,a3⟩=>Acb a0 a1 a2 a3) (fun s x h=>by unfold Q2 at h;split at h<;>first|(cases h;rfl)|cases h) (fun _=>Bm (n:=29) rfl) fun _ _=>rfl) LZ
def M4 (a0:Int) (a1:Ak):Int:=(Pa (a0,a1,(a1.length:Int),0)).1
def RV (a0:Int) (a1:Ak):A:=.v (.int .u32 (M4 a0 a1))
def WW (a0:Int) (a1:Ak):List Prop:=[(A3 Df De Ej (Dd (a0,a1,(a1.length:Int),0)) (a0,a1,(a1.length:Int),0))]
theorem Amw (a0:Int) (a1:Ak):Tx (CP C0 RU.1) 9 73 [AX .u32 a0,AX .bytes a1] 0 []=some (1,RV a0 a1,0,[],[(AQ Bb (73:FuncId) 0=AQ Bb (73:FuncId) 0),(A3 Df De Ej (Dd (a0,a1,(a1.length:Int),0)) (a0,a1,(a1.length:Int),0))]):=by kernel_rfl
theorem Ark (a0:Int) (a1:Ak) (hp:∀p∈WW a0 a1,p):Ax Bb 73 [AX .u32 a0,AX .bytes a1] 0 [] 1 (RV a0 a1) 0 []:=
  Bh (AU Aj8 RU.2) (Amw a0 a1) (Aa rfl (nT hp fun _=>An))
theorem Aiu:IE Bb 73 (Et [.t .u32,.t .bytes] 0 RV (fun _ _=>[]) WW):=A8 Ark
def Bel:=Gi Aiu ⟨C0,Aj8⟩
def H2 (a0:Int):Int:=IntKind.u32.wrap (↑(BitVec.ofInt 32 4294967295^^^BitVec.ofInt 32 a0).toNat:Int)
def P7 (a0:Int) (a1:Ak):Int:=IntKind.u32.wrap (↑(BitVec.ofInt 32 4294967295^^^BitVec.ofInt 32 (M4 (H2 a0) a1)).toNat:Int)
def Awa (a0:Int) (a1:Ak):A:=.v (.int .u32 (P7 a0 a1))
def Arh (a0:Int) (a1:Ak):List Prop:=[(A3 Df De Ej (Dd ((H2 a0),a1,(a1.length:Int),0)) ((H2 a0),a1,(a1.length:Int),0))]
theorem Ams:IE Bb 71 (Et [.t .u32,.t .bytes] 0 Awa (fun _ _=>[]) Arh):=A8 fun a0 a1 hp=>Bh (u:=9) (AU Bel.2 A9) (by kernel_rfl) hp
def Bem:=Gi Ams Bel
def Akp (a0:Ak):A:=.v (.int .u32 (P7 0 a0))
def Awc (a0:Ak):List Prop:=[(A3 Df De Ej (Dd (H2 0,a0,(a0.length:Int),0)) (H2 0,a0,(a0.length:Int),0))]
theorem A2j (a0:Ak) (hp:∀p∈Awc a0,p):Ax Bb 65 [AX .bytes a0] 0 [] 1 (Akp a0) 0 []:=Bh (u:=9) (AU Bem.2 A9) (by kernel_rfl) hp
def Vu (a0:Ak):A:=.v (.int .u32 (wB (OI a0)))
def Aaj (a0:Ak):List Prop:=[AT a0.length]
theorem Bie (x:BitVec 32):II (wB x)=wB (crS x):=by
 unfold II crS
 rw[Ble,Bli,Bhz,Atf,Atf,Ay1]
def Ba8 (x:BitVec 32):Nat→BitVec 32
 |0=>x
 |n+1=>crS (Ba8 x n)
theorem Be1 (x:BitVec 32):A3 E5 E4 HH (E3 (wB x,0)) (wB x,0)∧(Kl (wB x,0)).1=wB (cr8 x):=by
 obtain⟨h1,h2⟩:=A36 (fun i=>((wB (Ba8 x i),(i:Int)):Cz)) 8 E5 E4 HH (E3 (wB x,0)) (wB x,0) rfl (by show 8≤((8:Int) - 0).toNat;decide)
  (fun i _=>by
   show(!!decide ((i:Int) <8))=_
   rw[nn]
   exact Ux (n:=8))
  (fun i hi=>by
   show(II (wB (Ba8 x i)),IntKind.i64.wrap ((i:Int)+1))=_
   rw[Bie,JK (by omega)]
   rfl) (fun i _ p hp=>by cases hp)
 have h3:Kl (wB x,0)=(wB (Ba8 x 8),8):=h2
 exact⟨h1,by rw[h3];rfl⟩
theorem Amv (r:BitVec 32) (b:Ak) (hb:AT b.length):A3 Df De Ej (Dd (wB r,b,(b.length:Int),0)) (wB r,b,(b.length:Int),0)∧M4 (wB r) b=wB (crB r b):=by
 unfold AT at hb
 have e0:∀i,IntKind.u32.wrap (((BitVec.ofInt 32 (wB (crB r (b.take i)))^^^BitVec.ofInt 32 (IntKind.u32.wrap (IntKind.u32.wrap (↑(UInt8.toNat (b.getD ((i:Int)).toNat (Ao TC.u8))):Int)*16777216))).toNat:Nat):Int)=wB (crB r (b.take i)^^^hiB (b.getD i 0)):=fun i=>by rw[Bl4,Atf,Atf,Ay1,Int.toNat_natCast];rfl
 obtain⟨h1,h2⟩:=A36 (fun i=>((wB (crB r (b.take i)),b,(b.length:Int),(i:Int)):Cy)) b.length Df De Ej (Dd (wB r,b,(b.length:Int),0)) (wB r,b,(b.length:Int),0) rfl (by show _≤((b.length:Int) - 0).toNat;omega)
  (fun i _=>by
   show(!!decide ((i:Int) <(b.length:Int)))=_
   rw[nn,Ux])
  (fun i hi=>by
   show(Kk (wB (crB r (b.take i))) b (i:Int),b,(b.length:Int),IntKind.i64.wrap ((i:Int)+1))=(wB (crB r (b.take (i+1))),b,(b.length:Int),((i+1:Nat):Int))
   rw[A5r _ _ _ hi,JK (by omega)]
   unfold Kk
   rw[e0,(Be1 _).2]
   rfl) (fun i _=>Aa (fun h=>by
    have h':(!!decide ((i:Int) <(b.length:Int)))=true:=h
    rw[nn] at h'
    have:=of_decide_eq_true h'
    show(0:Int)≤(i:Int)∧(i:Int) <(b.length:Int)
    omega) (Aa (fun _=>by
    have:=(Be1 (crB r (b.take i)^^^hiB (b.getD i 0))).1
    rw[←e0 i] at this
    exact this) An))
 refine⟨h1,?_⟩
 have h3:Pa (wB r,b,(b.length:Int),0)=(wB (crB r (b.take b.length)),b,(b.length:Int),(b.length:Int)):=h2
 unfold M4
 rw[h3,List.take_length]
theorem Awb (a0:Ak) (hp:∀p∈Aaj a0,p):Ax Bb 65 [AX .bytes a0] 0 [] 1 (Vu a0) 0 []:=by
 obtain⟨h1,h2⟩:=Amv (BitVec.allOnes 32) a0 (hp _ (List.mem_cons_self ..))
 have h:=A2j a0 (Aa h1 An)
 have e:Akp a0=Vu a0:=by
  show A.v (.int .u32 (P7 0 a0))=.v (.int .u32 (wB (OI a0)))
  unfold P7 OI
  rw[show H2 0=wB (BitVec.allOnes 32) from by unfold H2;decide,h2,Atf,Bku]
 rw[e] at h
 exact h
theorem Arj:IE Bb 65 (Et [.t .bytes] 0 Vu (fun _=>[]) Aaj):=A8 Awb
def A40:=Gi Arj Bem
def Vt (a0:Ak):Ak:=[]++a0
def Akn (a0:Ak):Ak:=(Vt a0)++[UInt8.ofNat (IntKind.u8.wrap ((wB (OI a0)).fdiv 16777216)).toNat,UInt8.ofNat (IntKind.u8.wrap ((wB (OI a0)).fdiv 65536)).toNat,UInt8.ofNat (IntKind.u8.wrap ((wB (OI a0)).fdiv 256)).toNat,UInt8.ofNat (IntKind.u8.wrap (wB (OI a0))).toNat]
def Ako (_a0:Ak):A:=.sq 0
def Ts (a0:Ak):AJ:=[(0,some (.arr 5 1 (.ty .u8 (Akn a0))))]
def Av9 (a0:Ak):List Prop:=[(AT a0.length),(Ai (0+a0.length)),(Ai ((Vt a0).length+4))]
theorem Av8 (a0:Ak):Tx (CP A40.1 L0) 9 43 [AX .bytes a0] 0 []=some (1,Ako a0,1,Ts a0,[(AT a0.length),(Ai (0+a0.length)),(Ai ((Vt a0).length+4)),(0≤IntKind.u8.wrap ((wB (OI a0)).fdiv 16777216)∧IntKind.u8.wrap ((wB (OI a0)).fdiv 16777216) <256),(0≤IntKind.u8.wrap ((wB (OI a0)).fdiv 65536)∧IntKind.u8.wrap ((wB (OI a0)).fdiv 65536) <256),(0≤IntKind.u8.wrap ((wB (OI a0)).fdiv 256)∧IntKind.u8.wrap ((wB (OI a0)).fdiv 256) <256),(0≤IntKind.u8.wrap (wB (OI a0))∧IntKind.u8.wrap (wB (OI a0)) <256)]):=by kernel_rfl
theorem A2i (a0:Ak) (hp:∀p∈Av9 a0,p):Ax Bb 43 [AX .bytes a0] 0 [] 1 (Ako a0) 1 (Ts a0):=
  Bh (AU A40.2 A9) (Av8 a0) (nT hp fun hp=>nT hp fun hp=>nT hp fun _=>Aa (by intros;exact Tm _) (Aa (by intros;exact Tm _) (Aa (by intros;exact Tm _) (Aa (by intros;exact Tm _) An))))
def Aei (_a0:Ak):A:=.sq 0
def P6 (a0:Ak):AJ:=[(0,some (.arr 5 1 (.ty .u8 (Ae1 a0))))]
def Aah (a0:Ak):List Prop:=[Ai (a0.length+4)]
theorem Akx (s:BitVec 32):[UInt8.ofNat (IntKind.u8.wrap ((wB s).fdiv 16777216)).toNat,UInt8.ofNat (IntKind.u8.wrap ((wB s).fdiv 65536)).toNat,UInt8.ofNat (IntKind.u8.wrap ((wB s).fdiv 256)).toNat,UInt8.ofNat (IntKind.u8.wrap (wB s)).toNat]=A89 s:=by
 have e0:UInt8.ofNat (IntKind.u8.wrap (wB s)).toNat=UInt8.ofNat s.toNat:=by
  have h:=Amd s 0
  rw[show((2^0:Nat):Int)=1 from rfl,Int.fdiv_one,show 2^0=1 from rfl,Nat.div_one] at h
  exact h
 have h1:=Amd s 24
 have h2:=Amd s 16
 have h3:=Amd s 8
 rw[show((2^24:Nat):Int)=16777216 from rfl] at h1
 rw[show((2^16:Nat):Int)=65536 from rfl] at h2
 rw[show((2^8:Nat):Int)=256 from rfl] at h3
 rw[e0,h1,h2,h3]
 rfl
theorem Av7 (l:Ak):Akn l=Ae1 l:=congrArg (l++·) (Akx (OI l))
theorem Av6 (a0:Ak) (hp:∀p∈Aah a0,p):Ax Bb 43 [AX .bytes a0] 0 [] 1 (Aei a0) 1 (P6 a0):=by
 have hb:=hp _ (List.mem_cons_self ..)
 unfold Ai at hb
 have h:=A2i a0 (Aa (by unfold AT;omega) (Aa (by unfold Ai;omega) (Aa (by show Ai (a0.length+4);unfold Ai;omega) An)))
 have e:Ts a0=P6 a0:=by unfold Ts P6;rw[Av7]
 rw[e] at h
 exact h
theorem RS:IE Bb 43 (Et [.t .bytes] 1 Aei P6 Aah):=A8 Av6
def Bjb:=Gi RS A40
def C1 (a0:Ak):Int:=IntKind.i64.wrap ((a0.length:Int) - 4)
def IH (a0:Ak):Int:=IntKind.i64.wrap ((C1 a0)+2)
def Hq (a0:Ak):Int:=IntKind.i64.wrap ((C1 a0)+1)
def IG (a0:Ak):Int:=IntKind.i64.wrap ((C1 a0)+3)
def Hp (a0:Ak):Int:=wB (OI (List.take ((C1 a0).toNat - 0) (List.drop 0 a0)))
def EH (a0:Ak):Bool:=decide ((C1 a0) <0)
def Lq (a0:Ak):Bool:=(↑(UInt8.toNat (a0.getD (C1 a0).toNat (Ao TC.u8))):Int)==IntKind.u8.wrap ((Hp a0).fdiv 16777216)
def P8 (a0:Ak):Bool:=(Lq a0)&&(↑(UInt8.toNat (a0.getD (Hq a0).toNat (Ao TC.u8))):Int)==IntKind.u8.wrap ((Hp a0).fdiv 65536)&&(↑(UInt8.toNat (a0.getD (IH a0).toNat (Ao TC.u8))):Int)==IntKind.u8.wrap ((Hp a0).fdiv 256)
def RT (a0:Ak):Bool:=bif(EH a0) then false else(P8 a0)&&(↑(UInt8.toNat (a0.getD (IG a0).toNat (Ao TC.u8))):Int)==IntKind.u8.wrap (Hp a0)
def Aai (a0:Ak):A:=.v (.bool (RT a0))
def WS (a0:Ak):List Prop:=[((!(EH a0))=true→(0:Int)≤0∧0≤(C1 a0)∧(C1 a0)≤(a0.length:Int)),((!(EH a0))=true→AT (List.take ((C1 a0).toNat - 0) (List.drop 0 a0)).length),((!(EH a0))=true→0≤(C1 a0)∧(C1 a0) <(a0.length:Int)),((!(EH a0))=true→(Lq a0)=true→0≤(Hq a0)∧(Hq a0) <(a0.length:Int)),((!(EH a0))=true→((Lq a0)&&(↑(UInt8.toNat (a0.getD (Hq a0).toNat (Ao TC.u8))):Int)==IntKind.u8.wrap ((Hp a0).fdiv 65536))=true→0≤(IH a0)∧(IH a0) <(a0.length:Int)),((!(EH a0))=true→(P8 a0)=true→0≤(IG a0)∧(IG a0) <(a0.length:Int))]
theorem Ari (a0:Ak) (hp:∀p∈WS a0,p):Ax Bb 46 [AX .bytes a0] 0 [] 1 (Aai a0) 0 []:=Bh (u:=9) (AU Bjb.2 A9) (by kernel_rfl) hp
def WT (a0:Ak):A:=.v (.bool (Mu a0))
def Uv (a0:Ak):List Prop:=[Ai a0.length]
theorem Adf (x:UInt8) (v:Int):((x.toNat:Int)==IntKind.u8.wrap v)=(x==UInt8.ofNat (IntKind.u8.wrap v).toNat):=by
 have h0:0≤IntKind.u8.wrap v∧IntKind.u8.wrap v <256:=by show 0≤v % 2^8∧v % 2^8 <256;omega
 generalize IntKind.u8.wrap v=w at*
 have hx:x.toNat <256:=x.toNat_lt
 rw[Bool.eq_iff_iff,beq_iff_eq,beq_iff_eq]
 constructor
 ·intro h
  rw[←h,Int.toNat_natCast,UInt8.ofNat_toNat]
 ·intro h
  rw[h,UInt8.toNat_ofNat']
  omega
theorem Bbz (b:Ak) (n:Nat) (_hn:b.length=n+4) (w x y z:UInt8):(b.getD n 0==w&&b.getD (n+1) 0==x&&b.getD (n+2) 0==y&&b.getD (n+3) 0==z)=(b==b.take n++[w,x,y,z]):=by
 have e:b=b.take n++[b.getD n 0,b.getD (n+1) 0,b.getD (n+2) 0,b.getD (n+3) 0]:=by
  refine List.ext_getElem (by simp;omega) fun i h1 h2=>?_
  by_cases hi:i <n
  ·rw[List.getElem_append_left (by simp;omega),List.getElem_take]
  ·rw[List.getElem_append_right (by simp;omega)]
   have g:∀j,(hj:j <b.length)→b.getD j 0=b[j]:=fun j hj=>by rw[List.getD_eq_getElem?_getD,List.getElem?_eq_getElem hj,Option.getD_some]
   have hl:(b.take n).length=n:=by simp;omega
   rcases(show i=n∨i=n+1∨i=n+2∨i=n+3 by omega) with rfl|rfl|rfl|rfl
   ·simp only[hl,Nat.sub_self,List.getElem_cons_zero];exact(g _ h1).symm
   ·simp only[hl,Nat.add_sub_cancel_left,List.getElem_cons_succ,List.getElem_cons_zero];exact(g _ h1).symm
   ·simp only[hl,Nat.add_sub_cancel_left,List.getElem_cons_succ,List.getElem_cons_zero];exact(g _ h1).symm
   ·simp only[hl,Nat.add_sub_cancel_left,List.getElem_cons_succ,List.getElem_cons_zero];exact(g _ h1).symm
 generalize b.getD n 0=p at*
 generalize b.getD (n+1) 0=q at*
 generalize b.getD (n+2) 0=r at*
 generalize b.getD (n+3) 0=s at*
 rw[Bool.eq_iff_iff]
 simp only[Bool.and_eq_true,beq_iff_eq]
 constructor
 ·rintro⟨⟨⟨rfl,rfl⟩,rfl⟩,rfl⟩
  exact e
 ·intro h
  have:=List.append_cancel_left (e.symm.trans h)
  simp only[List.cons.injEq] at this
  exact⟨⟨⟨this.1,this.2.1⟩,this.2.2.1⟩,this.2.2.2.1⟩
theorem Amu (b:Ak) (hb:Ai b.length):(∀p∈WS b,p)∧RT b=Mu b:=by
 unfold Ai at hb
 have k7:C1 b=(b.length:Int) - 4:=i64_in (by omega)
 have k2:EH b=decide ((b.length:Int) - 4 <0):=by unfold EH;rw[k7]
 have k5:Hq b=(b.length:Int) - 4+1:=by unfold Hq;rw[k7];exact i64_in (by omega)
 have k6:IH b=(b.length:Int) - 4+2:=by unfold IH;rw[k7];exact i64_in (by omega)
 have k4:IG b=(b.length:Int) - 4+3:=by unfold IG;rw[k7];exact i64_in (by omega)
 have ar:(!(EH b))=true→4≤b.length:=fun h=>by
  rw[k2,Bool.not_eq_true',decide_eq_false_iff_not] at h
  omega
 refine⟨Aa (fun h=>by rw[k7];have:=ar h;omega) (Aa (fun _=>?_) (Aa (fun h=>by rw[k7];have:=ar h;omega) (Aa (fun h _=>by rw[k5];have:=ar h;omega) (Aa (fun h _=>by rw[k6];have:=ar h;omega) (Aa (fun h _=>by rw[k4];have:=ar h;omega) An))))),?_⟩
 ·unfold AT
  rw[List.length_take,List.length_drop]
  omega
 ·unfold RT Mu
  by_cases h:4≤b.length
  ·obtain⟨n,hn⟩:∃n,b.length=n+4:=⟨b.length - 4,by omega⟩
   have h7:(C1 b).toNat=n:=by rw[k7];omega
   have h5:(Hq b).toNat=n+1:=by rw[k5];omega
   have h6:(IH b).toNat=n+2:=by rw[k6];omega
   have h4:(IG b).toNat=n+3:=by rw[k4];omega
   have h3:Hp b=wB (OI (b.take n)):=by unfold Hp;rw[h7];rfl
   rw[k2,decide_eq_false (by omega),cond_false,decide_eq_true h,Bool.true_and,show b.length - 4=n by omega]
   unfold P8 Lq
   rw[h7,h5,h6,h4,h3,Adf,Adf,Adf,Adf]
   unfold Ae1
   rw[←Akx]
   exact Bbz b n hn _ _ _ _
  ·rw[k2,decide_eq_true (by omega),cond_true,decide_eq_false h,Bool.false_and]
theorem Amt (a0:Ak) (hp:∀p∈Uv a0,p):Ax Bb 46 [AX .bytes a0] 0 [] 1 (WT a0) 0 []:=by
 obtain⟨h1,h2⟩:=Amu a0 (hp _ (List.mem_cons_self ..))
 have h:=Ari a0 h1
 unfold Aai at h
 rw[h2] at h
 exact h
theorem Uw:IE Bb 46 (Et [.t .bytes] 0 WT (fun _=>[]) Uv):=A8 Amt
def NW (a0:Int):Bool:=!(decide (a0 <0)||decide (a0 >4611686018427387903))&&(!decide (a0≥1073741824)&&decide (a0≥16384))
def NV (a0:Int):Bool:=!(decide (a0 <0)||decide (a0 >4611686018427387903))&&(!decide (a0≥1073741824)&&(!decide (a0≥16384)&&decide (a0≥64)))
def Sy (a0:Int):Bool:=!(decide (a0 <0)||decide (a0 >4611686018427387903))&&(!(!(decide (a0 <0)||decide (a0 >4611686018427387903))&&decide (a0≥1073741824))&&(!(NW a0)&&!(NV a0)))
def Bk (a0:Int):Int:=bif !(!(decide (a0 <0)||decide (a0 >4611686018427387903))&&decide (a0≥1073741824))&&(!(NW a0)&&(!(NV a0)&&!(Sy a0))) then 0 else IntKind.i64.wrap ((bif(Sy a0) then 0 else IntKind.i64.wrap ((bif(NV a0) then 0 else IntKind.i64.wrap ((bif(NW a0) then 0 else 4)+2))+1))+1)
def Axh (a0:Int):A:=iV ((Bk a0))
def Ate (_a0:Int):List Prop:=[]
theorem Aoa:IE Bb 37 (Et [.t .i64] 0 Axh (fun _=>[]) Ate):=A8 fun a0 hp=>Bh (u:=9) (AU Aj8 A9) (by kernel_rfl) hp
def A4p:=Gi Aoa ⟨C0,Aj8⟩
abbrev DX:Type:=Int×Int×Int×Int×Ak
def An9 (x:DX):St:=⟨59,2,[(1,iV (x.1)),(5,.sq 1),(6,iV (x.2.1)),(16,iV (x.2.2.1)),(17,iV (x.2.2.2.1))],[(1,some (.arr 5 1 (.ty .u8 x.2.2.2.2)))]⟩
def UO:St→Option DX
 |⟨59,2,[(1,.v (.int .i64 z0)),(5,.sq 1),(6,.v (.int .i64 z1)),(16,.v (.int .i64 z2)),(17,.v (.int .i64 z3))],[(1,some (.arr 5 1 (.ty .u8 z4)))]⟩=>some (z0,z1,z2,z3,z4)
 |_=>none
def An8:E2:=⟨1,2,[1,5,6,16,17],[],[(3,1)],[3],[5],[1]⟩
def An7:Fz:=⟨[],[(0,1)],[1,5,6,16,17],[0]⟩
def La (a0 a1 a3:Int):Int:=IntKind.u8.wrap (a0.fdiv (2^min (IntKind.u64.wrap (IntKind.i64.wrap (8*IntKind.i64.wrap (IntKind.i64.wrap (a1 - 1) - a3)))).toNat 64))
def Agv (a0 a1 a3:Int) (a4:Ak):Ak:=a4++[UInt8.ofNat (La a0 a1 a3).toNat]
def Gv:DX→DX
  |(a0,a1,a2,a3,a4)=>(a0,a1,a2,IntKind.i64.wrap (a3+1),Agv a0 a1 a3 a4)
def Gu (x:DX):DB:=some (!!decide (x.2.2.2.1 <x.2.2.1))
def Sw:DX→List Prop
  |(a0,a1,a2,a3,a4)=>[((!!decide (a3 <a2))=true→0≤IntKind.u64.wrap (IntKind.i64.wrap (8*IntKind.i64.wrap (IntKind.i64.wrap (a1 - 1) - a3)))),((!!decide (a3 <a2))=true→Ai (a4.length+1)),((!!decide (a3 <a2))=true→0≤(La a0 a1 a3)∧(La a0 a1 a3) <256)]
def HQ (x:DX):List Prop:=[((!!decide (x.2.2.2.1 <x.2.2.1))=true→Ai (x.2.2.2.2.length+1))]
def Acq (x:DX):BG:=[(some 0,some (!decide (x.2.2.2.1 <x.2.2.1)),⟨59,2,[(5,.sq 1)],[(1,some (.arr 5 1 (.ty .u8 x.2.2.2.2)))]⟩)]
def Gt (x:DX):Nat:=(x.2.2.1 - x.2.2.2.1).toNat
def Mi (x:DX):DX:=Bj Gv Gu (Gt x) x
theorem Aje (a0 a1 a2 a3:Int) (a4:Ak) (hp:∀p∈HQ (a0,a1,a2,a3,a4),p):∀p∈Sw (a0,a1,a2,a3,a4),p:=
  (Aa (by intros;exact Beh _) (nT hp fun _=>Aa (by intros;exact Tm _) An))
def Agw:=Jg (CP A4p.1 L0) (AQ Bb 14 0) An8 An7 UO Gt Gv Gu HQ Acq
def XE:=WA 0 (g:=Agw) (CR (T:=An9) (psA:=Sw) A4p.2 A9 (u:=9) (by kernel_rfl) (by decide) (fun⟨a0,a1,a2,a3,a4⟩=>by kernel_rfl) (fun⟨a0,a1,a2,a3,a4⟩=>Aje a0 a1 a2 a3 a4) (fun s x h=>by unfold UO at h;split at h<;>first|(cases h;rfl)|cases h) (fun _=>Bm (n:=59) rfl) fun _ _=>rfl) ⟨L0,A9⟩
def F7 (a1:Int):Bool:=Bk a1==8
def Cp (a1:Int):Bool:=Bk a1==4
def Bg (a1:Int):Bool:=Bk a1==2
def AV (a0:Ak):Int:=(↑([]++a0).length:Int)
def Bd (a0:Ak) (a1:Int):Ak:=(Mi (a1,Bk a1,Bk a1,0,[]++a0)).2.2.2.2
def Kv (a0:Ak) (a1:Int):Int:=IntKind.u8.wrap (↑(BitVec.ofInt 8 (↑(UInt8.toNat ((Bd a0 a1).getD (AV a0).toNat (Ao TC.u8))):Int) ||| BitVec.ofInt 8 192).toNat:Int)
def Ku (a0:Ak) (a1:Int):Int:=IntKind.u8.wrap (↑(BitVec.ofInt 8 (↑(UInt8.toNat ((Bd a0 a1).getD (AV a0).toNat (Ao TC.u8))):Int) ||| BitVec.ofInt 8 128).toNat:Int)
def Kt (a0:Ak) (a1:Int):Int:=IntKind.u8.wrap (↑(BitVec.ofInt 8 (↑(UInt8.toNat ((Bd a0 a1).getD (AV a0).toNat (Ao TC.u8))):Int) ||| BitVec.ofInt 8 64).toNat:Int)
def Zi (a0:Ak) (a1:Int):Ak:=bif(Bg a1) then(Bd a0 a1).set (AV a0).toNat (UInt8.ofNat (Kt a0 a1).toNat) else bif(Cp a1) then(Bd a0 a1).set (AV a0).toNat (UInt8.ofNat (Ku a0 a1).toNat) else bif(F7 a1) then(Bd a0 a1).set (AV a0).toNat (UInt8.ofNat (Kv a0 a1).toNat) else(Bd a0 a1)
def Ald (_a0:Ak) (_a1:Int):A:=.sq 0
def TK (a0:Ak) (a1:Int):AJ:=[(0,some (.arr 5 1 (.ty .u8 (Zi a0 a1))))]
def Agx (a0:Ak) (a1:Int):List Prop:=[(Ai (0+a0.length)),(A3 Gv Gu HQ (Gt (a1,Bk a1,Bk a1,0,[]++a0)) (a1,Bk a1,Bk a1,0,[]++a0)),((Bg a1)=true→0≤(AV a0)∧(AV a0) <(↑(Bd a0 a1).length:Int)),((Bg a1)=false→(Cp a1)=true→0≤(AV a0)∧(AV a0) <(↑(Bd a0 a1).length:Int)),((Bg a1)=false→(Cp a1)=false→(F7 a1)=true→0≤(AV a0)∧(AV a0) <(↑(Bd a0 a1).length:Int))]
theorem Axg (a0:Ak) (a1:Int):Tx (CP A4p.1 XE.1) 9 14 [AX .bytes a0,AX .i64 a1] 0 []=some (1,Ald a0 a1,1,TK a0 a1,[(Ai (0+a0.length)),(AQ Bb (14:FuncId) 0=AQ Bb (14:FuncId) 0),(A3 Gv Gu HQ (Gt (a1,Bk a1,Bk a1,0,[]++a0)) (a1,Bk a1,Bk a1,0,[]++a0)),((Bg a1)=true→0≤(AV a0)∧(AV a0) <(↑(Bd a0 a1).length:Int)),((Bg a1)=true→(AV a0).toNat <(Bd a0 a1).length),((Bg a1)=true→0≤(AV a0)∧(AV a0) <(↑(Bd a0 a1).length:Int)),((Bg a1)=true→(AV a0).toNat <(Bd a0 a1).length),((Bg a1)=true→0≤(Kt a0 a1)∧(Kt a0 a1) <256),((Bg a1)=false→(Cp a1)=true→0≤(AV a0)∧(AV a0) <(↑(Bd a0 a1).length:Int)),((Bg a1)=false→(Cp a1)=true→(AV a0).toNat <(Bd a0 a1).length),((Bg a1)=false→(Cp a1)=true→0≤(AV a0)∧(AV a0) <(↑(Bd a0 a1).length:Int)),((Bg a1)=false→(Cp a1)=true→(AV a0).toNat <(Bd a0 a1).length),((Bg a1)=false→(Cp a1)=true→0≤(Ku a0 a1)∧(Ku a0 a1) <256),((Bg a1)=false→(Cp a1)=false→(F7 a1)=true→0≤(AV a0)∧(AV a0) <(↑(Bd a0 a1).length:Int)),((Bg a1)=false→(Cp a1)=false→(F7 a1)=true→(AV a0).toNat <(Bd a0 a1).length),((Bg a1)=false→(Cp a1)=false→(F7 a1)=true→0≤(AV a0)∧(AV a0) <(↑(Bd a0 a1).length:Int)),((Bg a1)=false→(Cp a1)=false→(F7 a1)=true→(AV a0).toNat <(Bd a0 a1).length),((Bg a1)=false→(Cp a1)=false→(F7 a1)=true→0≤(Kv a0 a1)∧(Kv a0 a1) <256)]):=by kernel_rfl
theorem A3h (a0:Ak) (a1:Int) (hp:∀p∈Agx a0 a1,p):Ax Bb 14 [AX .bytes a0,AX .i64 a1] 0 [] 1 (Ald a0 a1) 1 (TK a0 a1):=by
 have n0:=N0 hp
 have n2:=N0 (N1 hp)
 have n3:((Bg a1)=true→(0:Int)≤(AV a0)∧(AV a0) <(↑(Bd a0 a1).length:Int)):=N0 (N1 (N1 hp))
 have n4:((Bg a1)=true→(AV a0).toNat <(Bd a0 a1).length):=by intro h0;have g:=n3 h0;omega
 have n7:((Bg a1)=true→(0:Int)≤(Kt a0 a1)∧(Kt a0 a1) <(256:Int)):=by intros;exact Tm _
 have n8:((Bg a1)=false→(Cp a1)=true→(0:Int)≤(AV a0)∧(AV a0) <(↑(Bd a0 a1).length:Int)):=N0 (N1 (N1 (N1 hp)))
 have n9:((Bg a1)=false→(Cp a1)=true→(AV a0).toNat <(Bd a0 a1).length):=by intro h0 h1;have g:=n8 h0 h1;omega
 have te:((Bg a1)=false→(Cp a1)=true→(0:Int)≤(Ku a0 a1)∧(Ku a0 a1) <(256:Int)):=by intros;exact Tm _
 have pd:((Bg a1)=false→(Cp a1)=false→(F7 a1)=true→(0:Int)≤(AV a0)∧(AV a0) <(↑(Bd a0 a1).length:Int)):=N0 (N1 (N1 (N1 (N1 hp))))
 have vi:((Bg a1)=false→(Cp a1)=false→(F7 a1)=true→(AV a0).toNat <(Bd a0 a1).length):=by intro h0 h1 h2;have g:=pd h0 h1 h2;omega
 have zn:((Bg a1)=false→(Cp a1)=false→(F7 a1)=true→(0:Int)≤(Kv a0 a1)∧(Kv a0 a1) <(256:Int)):=by intros;exact Tm _
 exact Bh (AU A4p.2 XE.2) (Axg a0 a1) (Aa n0 (Aa rfl (Aa n2 (Aa n3 (Aa n4 (Aa n3 (Aa n4 (Aa n7 (Aa n8 (Aa n9 (Aa n8 (Aa n9 (Aa te (Aa pd (Aa vi (Aa pd (Aa vi (Aa zn An))))))))))))))))))
def Agy (_a0:Ak) (_a1:Int):A:=.sq 0
def QE (a0:Ak) (a1:Int):AJ:=[(0,some (.arr 5 1 (.ty .u8 (a0++AE a1))))]
def Aav (a0:Ak) (_a1:Int):List Prop:=[Ai (a0.length+8)]
theorem Ape (n:Int):Bk n=(IZ n:Int):=by
 unfold Bk Sy NV NW IZ
 by_cases h0:n <0∨n >4611686018427387903
 ·have e:(decide (n <0)||decide (n >4611686018427387903))=true:=by simpa using h0
  rw[e,if_pos h0];rfl
 ·have e:(decide (n <0)||decide (n >4611686018427387903))=false:=by
   rw[Bool.eq_false_iff]
   intro hh
   exact h0 (by simpa using hh)
  rw[e,if_neg h0]
  by_cases h1:n≥1073741824
  ·rw[if_pos h1,decide_eq_true h1];rfl
  ·rw[if_neg h1,decide_eq_false h1]
   by_cases h2:n≥16384
   ·rw[if_pos h2,decide_eq_true h2];rfl
   ·rw[if_neg h2,decide_eq_false h2]
    by_cases h3:n≥64
    ·rw[if_pos h3,decide_eq_true h3];rfl
    ·rw[if_neg h3,decide_eq_false h3];rfl
theorem X6 (n:Int):IZ n=0∨(0≤n∧n≤4611686018427387903∧szs (IZ n)):=by
 by_cases h:n <0∨n >4611686018427387903
 ·left;unfold IZ;rw[if_pos h]
 ·right;exact⟨by omega,by omega,(Auv (by omega) (by omega)).1⟩
theorem A8r (b:Ak) (n:Int) (_hb:Ai (b.length+8)):
  A3 Gv Gu HQ (Gt (n,Bk n,Bk n,0,[]++b)) (n,Bk n,Bk n,0,[]++b)∧
  (Mi (n,Bk n,Bk n,0,[]++b)).2.2.2.2=b++be (IZ n) n.toNat:=by
 have yx:IZ n≤8:=by
  rcases X6 n with h|⟨_,_,h⟩
  ·omega
  ·unfold szs at h;omega
 rw[Ape]
 obtain⟨h1,⟨i,hi,h2⟩,h3⟩:=Af8 (next:=Gv) (goes:=Gu) (ps:=HQ)
  (fun x=>∃i:Nat,i≤IZ n∧x=(n,(IZ n:Int),(IZ n:Int),(i:Int),b++(be (IZ n) n.toNat).take i)) Gt (by
   rintro x ⟨i,hi,rfl⟩
   refine⟨Aa (fun hp=>?_) An,fun hg=>?_⟩
   ·have h':(!!decide ((i:Int) <(IZ n:Int)))=true:=hp
    have ae:i <IZ n:=by simpa using h'
    show Ai ((b++(be (IZ n) n.toNat).take i).length+1)
    unfold Ai at*
    rw[List.length_append,List.length_take,JC]
    omega
   ·have h':(!!decide ((i:Int) <(IZ n:Int)))=true:=hg
    have ae:i <IZ n:=by simpa using h'
    have hw:IntKind.i64.wrap ((i:Int)+1)=((i+1:Nat):Int):=by rw[i64_in (by omega)];rfl
    have ji:0≤n:=by rcases X6 n with h|⟨h,_⟩<;>omega
    refine⟨⟨i+1,ae,?_⟩,?_⟩
    ·show(n,(IZ n:Int),(IZ n:Int),IntKind.i64.wrap ((i:Int)+1),(b++(be (IZ n) n.toNat).take i)++[UInt8.ofNat (IntKind.u8.wrap (n.fdiv ((2:Int)^min (IntKind.u64.wrap (IntKind.i64.wrap ((8:Int)*IntKind.i64.wrap (IntKind.i64.wrap ((IZ n:Int) - (1:Int)) - (i:Int))))).toNat (64:Nat)))).toNat])=_
     rw[hw,A8q ji yx ae,List.append_assoc,←Bay ae]
    ·show((IZ n:Int) - IntKind.i64.wrap ((i:Int)+1)).toNat <((IZ n:Int) - (i:Int)).toNat
     rw[hw]
     omega) _ (n,(IZ n:Int),(IZ n:Int),0,[]++b) ⟨0,Nat.zero_le _,by simp⟩ (Nat.le_refl _)
 refine⟨h1,?_⟩
 have h4:Mi (n,(IZ n:Int),(IZ n:Int),0,[]++b)=_:=h2
 rw[h2] at h3
 have gu:(!!decide ((i:Int) <(IZ n:Int)))=false:=h3
 have hn:¬((i:Int) <(IZ n:Int)):=by simpa using gu
 obtain rfl:i=IZ n:=by omega
 rw[h4,List.take_of_length_le (by rw[JC];exact Nat.le_refl _)]
theorem Axf (b:Ak) (n:Int) (hb:Ai (b.length+8)):(∀p∈Agx b n,p)∧Zi b n=b++AE n:=by
 obtain⟨h1,h2⟩:=A8r b n hb
 have h3:Bd b n=b++be (IZ n) n.toNat:=h2
 have h4:(AV b).toNat=b.length:=rfl
 have hS:=Ape n
 have hlen:(b++be (IZ n) n.toNat).length=b.length+IZ n:=by rw[List.length_append,JC]
 have cd:IZ n≠0→(0:Int)≤AV b∧AV b <((Bd b n).length:Int):=fun h0=>by
  rw[h3,hlen]
  show(0:Int)≤(b.length:Int)∧(b.length:Int) <((b.length+IZ n:Nat):Int)
  omega
 have tg:∀c:Int,c≠0→(Bk n==c)=true→IZ n≠0:=fun c hc h h0=>by
  rw[hS,h0] at h
  have h':(0:Int)=c:=by simpa using h
  exact hc h'.symm
 refine⟨Aa (by unfold Ai at*;omega) (Aa h1 (Aa (fun h=>cd (tg 2 (by decide) h)) (Aa (fun _ h=>cd (tg 4 (by decide) h)) (Aa (fun _ _ h=>cd (tg 8 (by decide) h)) An)))),?_⟩
 unfold Zi
 rw[h3,h4]
 have k7:Bg n=((IZ n:Int)==2):=by show(Bk n==2)=_;rw[hS]
 have k6:Cp n=((IZ n:Int)==4):=by show(Bk n==4)=_;rw[hS]
 have k5:F7 n=((IZ n:Int)==8):=by show(Bk n==8)=_;rw[hS]
 have b1:Kt b n=IntKind.u8.wrap ((BitVec.ofInt 8 ((((b++be (IZ n) n.toNat).getD b.length (Ao TC.u8)).toNat:Nat):Int) ||| BitVec.ofInt 8 ((64*1:Nat):Int)).toNat:Int):=by rw[←h3,←h4];rfl
 have b0:Ku b n=IntKind.u8.wrap ((BitVec.ofInt 8 ((((b++be (IZ n) n.toNat).getD b.length (Ao TC.u8)).toNat:Nat):Int) ||| BitVec.ofInt 8 ((64*2:Nat):Int)).toNat:Int):=by rw[←h3,←h4];rfl
 have b2:Kv b n=IntKind.u8.wrap ((BitVec.ofInt 8 ((((b++be (IZ n) n.toNat).getD b.length (Ao TC.u8)).toNat:Nat):Int) ||| BitVec.ofInt 8 ((64*3:Nat):Int)).toNat:Int):=by rw[←h3,←h4];rfl
 rw[k7,k6,k5,b1,b0,b2]
 unfold AE
 rcases X6 n with hz|⟨g1,g2,g3⟩
 ·rw[hz];rfl
 ·have hN:=(Auv g1 g2).2
  generalize hk:IZ n=k at*
  rcases g3 with rfl|rfl|rfl|rfl
  ·show b++be 1 n.toNat=b++be 1 (n.toNat+0*(64*256^0))
   rw[Nat.zero_mul,Nat.add_zero]
  ·exact Apd (m:=1) (t:=1) b hN (by decide) _
  ·exact Apd (m:=3) (t:=2) b hN (by decide) _
  ·exact Apd (m:=7) (t:=3) b hN (by decide) _
theorem Axe (a0:Ak) (a1:Int) (hp:∀p∈Aav a0 a1,p):Ax Bb 14 [AX .bytes a0,AX .i64 a1] 0 [] 1 (Agy a0 a1) 1 (QE a0 a1):=by
 obtain⟨h1,h2⟩:=Axf a0 a1 (hp _ (List.mem_cons_self ..))
 have h:=A3h a0 a1 h1
 have ho:TK a0 a1=QE a0 a1:=by unfold TK QE;rw[h2]
 rw[ho] at h
 exact h
theorem Atd:IE Bb 14 (Et [.t .bytes,.t .i64] 1 Agy QE Aav):=A8 Axe
def A4q:=Gi Atd A4p
abbrev DW:Type:=Int×Ak×Int×Int
def An6 (x:DW):St:=⟨46,0,[(6,iV (x.1)),(28,.sl .u8 x.2.1),(29,iV (x.2.2.1)),(30,iV (x.2.2.2))],[]⟩
def UM:St→Option DW
 |⟨46,0,[(6,.v (.int .i64 z0)),(28,.sl .u8 z1),(29,.v (.int .i64 z2)),(30,.v (.int .i64 z3))],[]⟩=>some (z0,z1,z2,z3)
 |_=>none
def An5:E2:=⟨0,0,[6,28,29,30],[],[],[],[6],[]⟩
def An4:Fz:=⟨[],[],[6,28,29,30],[]⟩
def Agr (a0:Int) (a1:Ak) (a3:Int):Int:=IntKind.i64.wrap (↑(BitVec.ofInt 64 (IntKind.i64.wrap (a0*256)) ||| BitVec.ofInt 64 (IntKind.i64.wrap (↑(UInt8.toNat (a1.getD a3.toNat (Ao TC.u8))):Int))).toNat:Int)
def Gs:DW→DW
  |(a0,a1,a2,a3)=>(Agr a0 a1 a3,a1,a2,IntKind.i64.wrap (a3+1))
def Gr (x:DW):DB:=some (!!decide (x.2.2.2 <x.2.2.1))
def Ss:DW→List Prop
  |(_,a1,a2,a3)=>[((!!decide (a3 <a2))=true→0≤a3∧a3 <(a1.length:Int))]
abbrev Jd:DW→List Prop:=Ss
def Aco (x:DW):BG:=[(some 0,some (!decide (x.2.2.2 <x.2.2.1)),⟨46,0,[(6,iV (x.1))],[]⟩)]
def Gq (x:DW):Nat:=(x.2.2.1 - x.2.2.2).toNat
def JZ (x:DW):DW:=Bj Gs Gr (Gq x) x
def Ags:=Jg (CP A4q.1 L0) (AQ Bb 45 0) An5 An4 UM Gq Gs Gr Jd Aco
def XD:=WA 0 (g:=Ags) (CR (T:=An6) (psA:=Ss) A4q.2 A9 (u:=9) (by kernel_rfl) (by decide) (fun⟨a0,a1,a2,a3⟩=>by kernel_rfl) (fun _ h=>h) (fun s x h=>by unfold UM at h;split at h<;>first|(cases h;rfl)|cases h) (fun _=>Bm (n:=46) rfl) fun _ _=>rfl) ⟨L0,A9⟩
def GW (a0:Ak):Int:=(↑(UInt8.toNat (a0.getD 0 (Ao TC.u8))):Int)
def Da (a0:Ak):Bool:=(a0.length:Int)==0
def F6 (a0:Ak):Int:=IntKind.i64.wrap (1*2^min ((GW a0).fdiv 64).toNat 64)
def Ez (a0:Ak):Ak:=List.take ((F6 a0).toNat - 1) (List.drop 1 a0)
def F5 (a0:Ak):Bool:=decide ((a0.length:Int) <(F6 a0))
def Mh (a0:Ak):Bool:=decide (Bk (JZ (IntKind.i64.wrap (IntKind.u8.wrap (↑(BitVec.ofInt 8 (GW a0) &&& BitVec.ofInt 8 63).toNat:Int)),(Ez a0),(↑(Ez a0).length:Int),0)).1 <(F6 a0))
def Zf (a0:Ak):Int:=bif(Da a0) then 0 else bif(F5 a0) then 0 else bif(Mh a0) then 0 else(JZ (IntKind.i64.wrap (IntKind.u8.wrap (↑(BitVec.ofInt 8 (GW a0) &&& BitVec.ofInt 8 63).toNat:Int)),(Ez a0),(↑(Ez a0).length:Int),0)).1
def Zg (a0:Ak):Int:=bif(Da a0) then 0 else bif(F5 a0) then 0 else bif(Mh a0) then 0 else(F6 a0)
def Zh (a0:Ak):Int:=bif(Da a0) then 10 else bif(F5 a0) then 10 else bif(Mh a0) then 11 else 0
def TJ (a0:Ak):A:=.v (.tuple ⟨[.int .i64 (Zf a0),.int .i64 (Zg a0),.int .i64 (Zh a0)]⟩)
def Agt (a0:Ak):List Prop:=[((!(Da a0))=true→(0:Int)≤0∧0 <(a0.length:Int)),((!(Da a0))=true→0≤(GW a0).fdiv 64),((!(Da a0))=true→(!(F5 a0))=true→(0:Int)≤0∧0 <(a0.length:Int)),((!(Da a0))=true→(!(F5 a0))=true→(0:Int)≤1∧1≤(F6 a0)∧(F6 a0)≤(a0.length:Int)),((!(Da a0))=true→(!(F5 a0))=true→A3 Gs Gr Jd (Gq (IntKind.i64.wrap (IntKind.u8.wrap (↑(BitVec.ofInt 8 (GW a0) &&& BitVec.ofInt 8 63).toNat:Int)),(Ez a0),(↑(Ez a0).length:Int),0)) (IntKind.i64.wrap (IntKind.u8.wrap (↑(BitVec.ofInt 8 (GW a0) &&& BitVec.ofInt 8 63).toNat:Int)),(Ez a0),(↑(Ez a0).length:Int),0))]
theorem Axd (a0:Ak):Tx (CP A4q.1 XD.1) 9 45 [AX .bytes a0] 0 []=some (1,TJ a0,0,[],[((!(Da a0))=true→(0:Int)≤0∧0 <(a0.length:Int)),((!(Da a0))=true→0≤(GW a0).fdiv 64),((!(Da a0))=true→(!(F5 a0))=true→(0:Int)≤0∧0 <(a0.length:Int)),((!(Da a0))=true→(!(F5 a0))=true→(0:Int)≤1∧1≤(F6 a0)∧(F6 a0)≤(a0.length:Int)),((!(Da a0))=true→(!(F5 a0))=true→AQ Bb (45:FuncId) 0=AQ Bb (45:FuncId) 0),((!(Da a0))=true→(!(F5 a0))=true→A3 Gs Gr Jd (Gq (IntKind.i64.wrap (IntKind.u8.wrap (↑(BitVec.ofInt 8 (GW a0) &&& BitVec.ofInt 8 63).toNat:Int)),(Ez a0),(↑(Ez a0).length:Int),0)) (IntKind.i64.wrap (IntKind.u8.wrap (↑(BitVec.ofInt 8 (GW a0) &&& BitVec.ofInt 8 63).toNat:Int)),(Ez a0),(↑(Ez a0).length:Int),0))]):=by kernel_rfl
theorem A3g (a0:Ak) (hp:∀p∈Agt a0,p):Ax Bb 45 [AX .bytes a0] 0 [] 1 (TJ a0) 0 []:=
  Bh (AU A4q.2 XD.2) (Axd a0) (nT hp fun hp=>nT hp fun hp=>nT hp fun hp=>nT hp fun hp=>Aa (by intros;rfl) (nT hp fun _=>An))
def QD (a0:Ak):A:=.v (.tuple ⟨[.int .i64 (Am a0).1,.int .i64 (Am a0).2.1,.int .i64 (Am a0).2.2]⟩)
def Aau (_a0:Ak):List Prop:=[]
theorem A65 (L:Ak) (_h7:L.length≤7) (a:Nat) (_ha:a <64):
  A3 Gs Gr Jd (Gq ((a:Int),L,(L.length:Int),0)) ((a:Int),L,(L.length:Int),0)∧
  (JZ ((a:Int),L,(L.length:Int),0)).1=(val a L:Int):=by
 obtain⟨h1,⟨i,hi,h2⟩,h3⟩:=Af8 (next:=Gs) (goes:=Gr) (ps:=Jd)
  (fun x=>∃i:Nat,i≤L.length∧x=((val a (L.take i):Int),L,(L.length:Int),(i:Int))) Gq (by
   rintro x ⟨i,hi,rfl⟩
   refine⟨Aa (fun hp=>?_) An,fun hg=>?_⟩
   ·have h':(!!decide ((i:Int) <(L.length:Int)))=true:=hp
    have ae:(i:Int) <(L.length:Int):=by simpa using h'
    show(0:Int)≤(i:Int)∧(i:Int) <(L.length:Int)
    exact⟨by omega,ae⟩
   ·have h':(!!decide ((i:Int) <(L.length:Int)))=true:=hg
    have ae:i <L.length:=by simpa using h'
    have hw:IntKind.i64.wrap ((i:Int)+1)=((i+1:Nat):Int):=by rw[i64_in (by omega)];rfl
    have hb:val a (L.take i) <64*256^6:=by
     have hv:=QQ (L.take i) a
     have hl:=Apo (L.take i)
     have e:(L.take i).length=i:=by rw[List.length_take];omega
     rw[e] at hv hl
     have hm:256^i≤256^6:=Nat.pow_le_pow_right (by decide) (by omega)
     have hq:=Nat.mul_le_mul_right (256^i) (show a+1≤64 by omega)
     rw[Nat.add_mul,Nat.one_mul] at hq
     have lz:=Nat.mul_le_mul_left 64 hm
     omega
    refine⟨⟨i+1,ae,?_⟩,?_⟩
    ·show(IntKind.i64.wrap ((BitVec.ofInt 64 (IntKind.i64.wrap ((val a (L.take i):Int)*256)) ||| BitVec.ofInt 64 (IntKind.i64.wrap (((L.getD (i:Int).toNat (Ao TC.u8)).toNat:Nat):Int))).toNat:Int),L,(L.length:Int),IntKind.i64.wrap ((i:Int)+1))=_
     rw[hw,Bct hb,Int.toNat_natCast,A91 _ _ _ ae]
    ·show((L.length:Int) - IntKind.i64.wrap ((i:Int)+1)).toNat <((L.length:Int) - (i:Int)).toNat
     rw[hw]
     omega) _ ((a:Int),L,(L.length:Int),0) ⟨0,Nat.zero_le _,rfl⟩ (Nat.le_refl _)
 refine⟨h1,?_⟩
 have h4:JZ ((a:Int),L,(L.length:Int),0)=_:=h2
 rw[h2] at h3
 have gu:(!!decide ((i:Int) <(L.length:Int)))=false:=h3
 have hn:¬((i:Int) <(L.length:Int)):=by simpa using gu
 obtain rfl:i=L.length:=by omega
 rw[h4,List.take_length]
theorem Axc (b:Ak):(∀p∈Agt b,p)∧Zf b=(Am b).1∧Zg b=(Am b).2.1∧Zh b=(Am b).2.2:=by
 cases b with
 |nil=>
  have no:(!(Da []))=true→False:=by intro h;cases h
  exact⟨Aa (fun h=>(no h).elim) (Aa (fun h=>(no h).elim) (Aa (fun h=>(no h).elim) (Aa (fun h=>(no h).elim) (Aa (fun h=>(no h).elim) An)))),rfl,rfl,rfl⟩
 | cons x r=>
  have hx:x.toNat <256:=x.toNat_lt
  have k4:Da (x::r)=false:=by
   show(((r.length+1:Nat):Int)==0)=false
   rw[Bool.eq_false_iff]
   intro h
   have:((r.length+1:Nat):Int)=0:=by simpa using h
   omega
  have k3:F6 (x::r)=((2^(x.toNat / 64):Nat):Int):=Bkk x
  have t3:x.toNat / 64≤3:=by omega
  have hK:=(A9b t3).1
  have k2:Ez (x::r)=r.take (2^(x.toNat / 64) - 1):=by
   show List.take ((F6 (x::r)).toNat - 1) r=_
   rw[k3,Int.toNat_natCast]
  have k1:F5 (x::r)=decide (r.length+1 <2^(x.toNat / 64)):=by
   show decide (((r.length+1:Nat):Int) <F6 (x::r))=_
   rw[k3]
   exact decide_eq_decide.2 Int.ofNat_lt
  have k6:IntKind.i64.wrap (IntKind.u8.wrap ((BitVec.ofInt 8 (GW (x::r)) &&& BitVec.ofInt 8 63).toNat:Int))=((x.toNat % 64:Nat):Int):=Bb1 x
  generalize hKK:2^(x.toNat / 64)=K at*
  have hlen:(r.take (K - 1)).length≤7:=by rw[List.length_take];unfold szs at hK;omega
  obtain⟨n1,n2⟩:=A65 (r.take (K - 1)) hlen (x.toNat % 64) (by omega)
  have k0:Mh (x::r)=decide (IZ (val (x.toNat % 64) (r.take (K - 1))) <K):=by
   unfold Mh
   rw[k6,k2,n2,Ape,k3]
   exact decide_eq_decide.2 Int.ofNat_lt
  refine⟨Aa (fun _=>?_) (Aa (fun _=>?_) (Aa (fun _ _=>(by show(0:Int)≤0∧(0:Int) <((r.length+1:Nat):Int);omega)) (Aa (fun _ h=>?_) (Aa (fun _ _=>?_) An)))),?_⟩
  ·show(0:Int)≤0∧(0:Int) <((r.length+1:Nat):Int)
   omega
  ·show(0:Int)≤((x.toNat:Nat):Int).fdiv 64
   rw[Int.fdiv_eq_ediv_of_nonneg _ (by decide)]
   omega
  ·rw[k1] at h
   have h':¬(r.length+1 <K):=by simpa using h
   rw[k3]
   show(0:Int)≤1∧(1:Int)≤(K:Int)∧(K:Int)≤((r.length+1:Nat):Int)
   unfold szs at hK
   omega
  ·rw[k6,k2]
   exact n1
  ·unfold Zf Zg Zh
   rw[k4,k1,k0,k6,k2,n2,k3,TB,hKK]
   by_cases c1:r.length+1 <K
   ·rw[if_pos c1,decide_eq_true c1];exact⟨rfl,rfl,rfl⟩
   ·rw[if_neg c1,decide_eq_false c1]
    by_cases c2:IZ (val (x.toNat % 64) (r.take (K - 1))) <K
    ·rw[if_pos c2,decide_eq_true c2];exact⟨rfl,rfl,rfl⟩
    ·rw[if_neg c2,decide_eq_false c2];exact⟨rfl,rfl,rfl⟩
theorem Axb (a0:Ak) (_hp:∀p∈Aau a0,p):Ax Bb 45 [AX .bytes a0] 0 [] 1 (QD a0) 0 []:=by
 obtain⟨h1,h2,h3,h4⟩:=Axc a0
 have h:=A3g a0 h1
 have hr:TJ a0=QD a0:=by unfold TJ QD;rw[h2,h3,h4]
 rw[hr] at h
 exact h
theorem Atc:IE Bb 45 (Et [.t .bytes] 0 QD (fun _=>[]) Aau):=A8 Axb
def Blq:=Gi Atc A4q
abbrev Ca:=Blq
def MA (a0:Int):Bool:=!a0==1
def KP (a0:Int):Bool:=bif !((MA a0)&&!((MA a0)&&a0==2)) then true else false
def Ajy (a0:Int):A:=.v (.bool (KP a0))
def Ah0 (_a0:Int):List Prop:=[]
theorem Adb:IE Bb 70 (Et [.t .i64] 0 Ajy (fun _=>[]) Ah0):=A8 fun a0 hp=>Bh (u:=9) (AU Ca.2 A9) (by kernel_rfl) hp
def Bim:=Gi Adb Ca
def C7 (a0:Ba):Bool:=bif a0.1==0&&a0.2==0 then true else decide (a0.1 >0)&&decide (a0.1≤281474976710656)&&KP a0.2
def Apj (a0:Ba):A:=.v (.bool (C7 a0))
def Ajw (_a0:Ba):List Prop:=[]
theorem Ahy:IE Bb 56 (Et [.t .stamp] 0 Apj (fun _=>[]) Ajw):=A8 fun a0 hp=>Bh (u:=9) (AU Bim.2 A9) (by kernel_rfl) hp
def Bin:=Gi Ahy Bim
def Jj (a0:Int):Int:=min (max a0 0) 1099511627776
def Aj1 (a0 _a1:Int):A:=iV ((Jj a0))
def Ah6 (_a0 _a1:Int):List Prop:=[]
theorem Adc:IE Bb 60 (Et [.t .i64,.t .i64] 0 Aj1 (fun _ _=>[]) Ah6):=A8 fun a0 a1 hp=>Bh (u:=9) (AU Bin.2 A9) (by kernel_rfl) hp
def Bio:=Gi Adc Bin
def Bfx:=Gi (JV (AU Bio.2 A9) 4 59) Bio
def Cx (a0:Bu):Bool:=Jj a0.1==a0.1&&Jj a0.2==a0.2
def Wn (a0:Bu):A:=.v (.bool (Cx a0))
def Abt (_a0:Bu):List Prop:=[]
theorem Auy (a0:Bu):Tx (CP Bfx.1 L0) 9 35 [AX .vec a0] 0 []=some (1,Wn a0,0,[],[((0:Int)≤0∧(0:Int) <2),((0:Nat) <2),((0:Int)≤0∧(0:Int) <2),((0:Nat) <2),((0:Int)≤0∧(0:Int) <2),((0:Nat) <2),((0:Int)≤1∧(1:Int) <2),((1:Nat) <2),((0:Int)≤1∧(1:Int) <2),((1:Nat) <2),((0:Int)≤1∧(1:Int) <2),((1:Nat) <2)]):=by kernel_rfl
theorem Ayp (a0:Bu) (_hp:∀p∈Abt a0,p):Ax Bb 35 [AX .vec a0] 0 [] 1 (Wn a0) 0 []:=
  Bh (AU Bfx.2 A9) (Auy a0) (Aa (by first|rfl|decide+kernel) (Aa (by first|rfl|decide+kernel) (Aa (by first|rfl|decide+kernel) (Aa (by first|rfl|decide+kernel) (Aa (by first|rfl|decide+kernel) (Aa (by first|rfl|decide+kernel) (Aa (by first|rfl|decide+kernel) (Aa (by first|rfl|decide+kernel) (Aa (by first|rfl|decide+kernel) (Aa (by first|rfl|decide+kernel) (Aa (by first|rfl|decide+kernel) (Aa (by first|rfl|decide+kernel) An))))))))))))
theorem App:IE Bb 35 (Et [.t .vec] 0 Wn (fun _=>[]) Abt):=A8 Ayp
def Blr:=Gi App Bfx
abbrev Cb:=Blr
def HJ (s:Ba):Bool:=bif s.n==0&&s.site==0 then true else decide (1≤s.n)&&decide (s.n≤281474976710656)&&(s.site==1||s.site==2)
def EP (v:Bu):Bool:=decide (0≤v.a)&&decide (v.a≤1099511627776)&&(decide (0≤v.b)&&decide (v.b≤1099511627776))
def GR (v:Bu):Bool:=v.a==0&&v.b==0
def WR (s:Ba):Int:=bif s.n==0 then 0 else 2*s.n+s.site - 1
def Arm (n:Int):Ba:=if n=0 then⟨0,0⟩ else⟨n / 2,1+n % 2⟩
def Mr (s:Ba):Ak:=bif HJ s then AE (WR s) else[]
def GY (v:Bu):Ak:=bif EP v then AE v.a++AE v.b else[]
def Hm (t:ByteArray):Ak:=AE (t.size:Int)++t.data.toList
def AM (b:Ak):Ba×Int×Int:=if(Am b).2.2≠0 then(⟨0,0⟩,0,(Am b).2.2) else if HJ (Arm (Am b).1)=true then(Arm (Am b).1,(Am b).2.1,0) else(⟨0,0⟩,0,11)
def Ah (b:Ak):Bu×Int×Int:=if(Am b).2.2≠0 then(⟨0,0⟩,0,(Am b).2.2) else
 if(Am (b.drop (Am b).2.1.toNat)).2.2≠0 then(⟨0,0⟩,0,(Am (b.drop (Am b).2.1.toNat)).2.2) else
 if EP ⟨(Am b).1,(Am (b.drop (Am b).2.1.toNat)).1⟩=true then(⟨(Am b).1,(Am (b.drop (Am b).2.1.toNat)).1⟩,(Am b).2.1+(Am (b.drop (Am b).2.1.toNat)).2.1,0) else(⟨0,0⟩,0,11)
def CA (b:Ak) (m:Int):ByteArray×Int×Int:=if(Am b).2.2≠0 then(ByteArray.empty,0,(Am b).2.2) else if(Am b).1 >m then(ByteArray.empty,0,3) else
 if(b.length:Int) - (Am b).2.1 <(Am b).1 then(ByteArray.empty,0,10) else(⟨((b.drop (Am b).2.1.toNat).take (Am b).1.toNat).toArray⟩,(Am b).2.1+(Am b).1,0)
structure Rd {α:Type} (get:Ak→α×Int×Int) (good:α→Prop) (put:α→Ak):Prop where
 back:∀x r,good x→get (put x++r)=(x,((put x).length:Int),0)
 front:∀b x k,get b=(x,k,0)→good x∧k=((put x).length:Int)∧∃r,b=put x++r
theorem Ayj {b p:Ak} (h:b.take p.length=p):∃r,b=p++r:=⟨b.drop p.length,by
 conv=>lhs;rw[←List.take_append_drop p.length b,h]⟩
def Wy (n:Int):Prop:=0≤n∧n≤4611686018427387903
theorem rdN:Rd Am Wy AE where
 back:=fun x r h=>by rw[A0a h.1 h.2 r,H8]
 front:=fun b x k h=>by
  obtain⟨h1,h2,h3,_,h5⟩:=Bc1 h
  exact⟨⟨h1,h2⟩,by rw[h3,H8],Ayj (by rw[H8];exact h5)⟩
theorem Qs {b:Ak} (h:(Am b).2.2=0):∃r,Wy (Am b).1∧(Am b).2.1=((AE (Am b).1).length:Int)∧b=AE (Am b).1++r:=by
 obtain⟨h1,h2,r,h3⟩:=rdN.front b (Am b).1 (Am b).2.1 (by rw[←h])
 exact⟨r,h1,h2,h3⟩
theorem A63 (b:Ak):(Am b).2.2≠0→(Am b).1=0∧(Am b).2.1=0:=fun h=>by
 cases b with
 |nil=>exact⟨rfl,rfl⟩
 | cons x r=>
  rw[TB] at h⊢
  split
  ·exact⟨rfl,rfl⟩
  ·split
   ·exact⟨rfl,rfl⟩
   ·rename_i h1 h2
    rw[if_neg h1,if_neg h2] at h
    exact absurd rfl h
theorem Dg (b:Ak):0≤(Am b).2.1∧(Am b).2.1≤(b.length:Int)∧(Am b).2.1≤8∧0≤(Am b).1∧(Am b).1≤4611686018427387903:=by
 by_cases h:(Am b).2.2=0
 ·obtain⟨r,⟨h1,bx⟩,h2,h3⟩:=Qs h
  have hl:=congrArg List.length h3
  rw[List.length_append] at hl
  have h8:(AE (Am b).1).length≤8:=by
   rw[H8]
   have:=(Auv h1 bx).1
   unfold szs at this
   omega
  exact⟨by omega,by omega,by omega,h1,bx⟩
 ·obtain⟨h1,h2⟩:=A63 b h
  rw[h1,h2]
  omega
theorem Pd {p r:Ak} {k:Int} (h:k=(p.length:Int)):(p++r).drop k.toNat=r:=by
 subst h
 rw[Int.toNat_natCast,List.drop_left]
theorem YV {s:Ba}:HJ s=true↔(s.n=0∧s.site=0)∨(1≤s.n∧s.n≤281474976710656∧(s.site=1∨s.site=2)):=by
 unfold HJ
 rw[Bool.cond_eq_ite]
 split
 ·rename_i h
  simp only[Bool.and_eq_true,beq_iff_eq] at h
  exact⟨fun _=> .inl h,fun _=>rfl⟩
 ·rename_i h
  simp only[Bool.and_eq_true,beq_iff_eq] at h
  simp only[Bool.and_eq_true,Bool.or_eq_true,beq_iff_eq,decide_eq_true_eq]
  constructor
  ·intro h';exact .inr ⟨h'.1.1,h'.1.2,h'.2⟩
  ·rintro(h'|⟨h1,h2,h3⟩)
   ·exact absurd h' h
   ·exact⟨⟨h1,h2⟩,h3⟩
theorem A24 {v:Bu}:EP v=true↔0≤v.a∧v.a≤1099511627776∧0≤v.b∧v.b≤1099511627776:=by
 unfold EP
 simp only[Bool.and_eq_true,decide_eq_true_eq]
 omega
theorem ZK {s t:Ba} (_h1:s.n=t.n) (_h2:s.site=t.site):s=t:=by cases s;cases t;simp_all
theorem Apq {s t:Bu} (_h1:s.a=t.a) (_h2:s.b=t.b):s=t:=by cases s;cases t;simp_all
theorem A5q {s:Ba} (h:HJ s=true):Wy (WR s)∧Arm (WR s)=s:=by
 have h':=YV.1 h
 unfold WR Arm
 by_cases h0:s.n=0
 ·have e:(s.n==0)=true:=by simpa using h0
  rw[e,cond_true,if_pos rfl]
  exact⟨by unfold Wy;omega,ZK (by simp only;omega) (by simp only;omega)⟩
 ·have e:(s.n==0)=false:=by simpa using h0
  rw[e,cond_false,if_neg (by omega)]
  exact⟨by unfold Wy;omega,ZK (by simp only;omega) (by simp only;omega)⟩
theorem Bbc {n:Int} (hn:Wy n) (h:HJ (Arm n)=true):WR (Arm n)=n:=by
 have h':=YV.1 h
 unfold Wy at hn
 unfold WR
 unfold Arm at h'⊢
 by_cases h0:n=0
 ·rw[if_pos h0]
  subst h0
  rfl
 ·rw[if_neg h0] at h'⊢
  simp only at h'⊢
  have hz:n / 2≠0:=by omega
  have e:(n / 2==0)=false:=by simpa using hz
  rw[e,cond_false]
  omega
theorem Aoj {s:Ba} (h:HJ s=true):Mr s=AE (WR s):=by unfold Mr;rw[h];rfl
theorem Aok {v:Bu} (h:EP v=true):GY v=AE v.a++AE v.b:=by unfold GY;rw[h];rfl
theorem rdS:Rd AM (fun s=>HJ s=true) Mr where
 back:=fun s r h=>by
  obtain⟨h1,h2⟩:=A5q h
  have hg:=rdN.back (WR s) r h1
  rw[Aoj h]
  unfold AM
  rw[hg]
  simp only[ne_eq,not_true_eq_false,if_false]
  rw[h2,if_pos h]
 front:=fun b s k h=>by
  unfold AM at h
  by_cases he:(Am b).2.2=0
  ·rw[if_neg (by simpa using he)] at h
   obtain⟨r,h1,h2,h3⟩:=Qs he
   split at h
   ·rename_i hg
    injection h with e1 e2
    injection e2 with e2 e3
    have hd:=Bbc h1 hg
    rw[e1] at hd hg
    refine⟨hg,?_,r,?_⟩
    ·rw[Aoj hg,hd,←e2];exact h2
    ·rw[Aoj hg,hd];exact h3
   ·injection h with e1 e2
    injection e2 with e2 e3
    cases e3
  ·rw[if_pos (by simpa using he)] at h
   injection h with e1 e2
   injection e2 with e2 e3
   exact absurd e3 he
theorem rdV:Rd Ah (fun v=>EP v=true) GY where
 back:=fun v r h=>by
  obtain⟨h1,h2,h3,h4⟩:=A24.1 h
  have hg:=rdN.back v.a (AE v.b++r) (by unfold Wy;omega)
  have mn:=rdN.back v.b r (by unfold Wy;omega)
  rw[Aok h,List.append_assoc]
  unfold Ah
  rw[hg]
  simp only[not_true_eq_false,if_false,ne_eq]
  rw[Pd rfl,mn]
  simp only[not_true_eq_false,if_false]
  rw[if_pos h,List.length_append]
  rfl
 front:=fun b v k h=>by
  unfold Ah at h
  by_cases he:(Am b).2.2=0
  ·rw [if_neg (by simpa using he)] at h
   obtain⟨r,h1,h2,h3⟩:=Qs he
   have rl:b.drop (Am b).2.1.toNat=r:=by
    generalize Am b=g at*
    subst h3
    exact Pd h2
   rw[rl] at h
   by_cases gd:(Am r).2.2=0
   ·rw[if_neg (by simpa using gd)] at h
    obtain⟨r2,k1,k2,k3⟩:=Qs gd
    split at h
    ·rename_i hg
     injection h with e1 e2
     injection e2 with e2 e3
     subst e1
     refine⟨hg,?_,r2,?_⟩
     ·rw[Aok hg,←e2,h2,k2,List.length_append]
      exact(Int.natCast_add _ _).symm
     ·rw[Aok hg,List.append_assoc]
      exact h3.trans (congrArg (AE (Am b).1++·) k3)
    ·injection h with e1 e2
     injection e2 with e2 e3
     cases e3
   ·rw[if_pos (by simpa using gd)] at h
    injection h with e1 e2
    injection e2 with e2 e3
    exact absurd e3 gd
  ·rw[if_pos (by simpa using he)] at h
   injection h with e1 e2
   injection e2 with e2 e3
   exact absurd e3 he
theorem rdT {m:Int} (_hm:m≤4611686018427387903):Rd (fun b=>CA b m) (fun t=>(t.size:Int)≤m) Hm where
 back:=fun t r h=>by
  have hg:=rdN.back (t.size:Int) (t.data.toList++r) (by unfold Wy;omega)
  unfold Hm
  rw[List.append_assoc]
  show CA _ m=_
  unfold CA
  rw[hg]
  simp only[ne_eq,not_true_eq_false,if_false]
  rw[if_neg (by omega),Pd rfl]
  have hs:t.data.toList.length=t.size:=Array.length_toList
  rw[if_neg (by rw[List.length_append,List.length_append,hs];omega),Int.toNat_natCast]
  have ht:(t.data.toList++r).take t.size=t.data.toList:=by rw[←hs];exact List.take_left
  rw[ht,List.length_append,hs]
  congr 1
 front:=fun b t k h=>by
  have h':CA b m=(t,k,0):=h
  unfold CA at h'
  by_cases he:(Am b).2.2=0
  ·rw [if_neg (by simpa using he)] at h'
   obtain⟨r,⟨h1,bx⟩,h2,h3⟩:=Qs he
   have rl:b.drop (Am b).2.1.toNat=r:=by
    generalize Am b=g at*
    subst h3
    exact Pd h2
   have hlen:=congrArg List.length h3
   rw[List.length_append] at hlen
   rw[rl] at h'
   by_cases og:(Am b).1 >m
   ·rw[if_pos og] at h';injection h' with e1 e2;injection e2 with e2 e3;cases e3
   ·rw[if_neg og] at h'
    by_cases hc:(b.length:Int) - (Am b).2.1 <(Am b).1
    ·rw[if_pos hc] at h';injection h' with e1 e2;injection e2 with e2 e3;cases e3
    ·rw[if_neg hc] at h'
     injection h' with e1 e2
     injection e2 with e2 e3
     have hn:((Am b).1.toNat:Int)=(Am b).1:=Int.toNat_of_nonneg h1
     have hr:(Am b).1.toNat≤r.length:=by omega
     have bc:(t.size:Int)=(Am b).1:=by
      rw[←e1]
      show((List.toArray (List.take (Am b).1.toNat r)).size:Int)=_
      rw[List.size_toArray,List.length_take,Nat.min_eq_left hr]
      exact hn
     have hd:t.data.toList=r.take (Am b).1.toNat:=by rw[←e1]
     refine⟨by omega,?_,r.drop (Am b).1.toNat,?_⟩
     ·unfold Hm
      rw[List.length_append,bc,hd,List.length_take,Nat.min_eq_left hr,←e2,h2]
      omega
     ·unfold Hm
      rw[bc,hd,List.append_assoc,List.take_append_drop]
      exact h3
  ·rw[if_pos (by simpa using he)] at h'
   injection h' with e1 e2
   injection e2 with e2 e3
   exact absurd e3 he
theorem Aqu (n i:Nat):n &&& 2^i=n / 2^i % 2*2^i:=by
 rw[←Nat.toNat_testBit]
 apply Nat.eq_of_testBit_eq
 intro j
 rw[Nat.testBit_and,Nat.testBit_two_pow]
 cases hb:n.testBit i with
 |true=>
  by_cases jf:i=j
  ·subst jf;simp[hb]
  ·simp[jf]
 |false=>
  by_cases jf:i=j
  ·subst jf;simp[hb]
  ·simp[jf]
theorem Aza {n:Int} (h:Wy n) (k:Nat) (m:Int) (hm:m=((2^k:Nat):Int)) (hk:k <60):(BitVec.ofInt 64 n &&& BitVec.ofInt 64 m).toNat=n.toNat / 2^k % 2*2^k:=by
 obtain⟨h0,h1⟩:=h
 have hp:2^k <2^60:=Nat.pow_lt_pow_right (by decide) hk
 have vu:(2:Nat)^60=1152921504606846976:=by decide
 rw[BitVec.toNat_and,BitVec.toNat_ofInt,BitVec.toNat_ofInt]
 have m1:(n % ((2^64:Nat):Int)).toNat=n.toNat:=by omega
 have m2:(m % ((2^64:Nat):Int)).toNat=2^k:=by
  subst hm
  generalize 2^k=q at*
  omega
 rw[m1,m2,Aqu]
theorem WE {n:Int} (h:Wy n) (k:Nat) (m:Int) (hm:m=((2^k:Nat):Int)) (hk:k <60):decide (IntKind.i64.wrap ((BitVec.ofInt 64 n &&& BitVec.ofInt 64 m).toNat:Int) >0)=(n.toNat / 2^k % 2==1):=by
 rw[Aza h k m hm hk]
 have hp:2^k <2^60:=Nat.pow_lt_pow_right (by decide) hk
 have qh:0 <2^k:=Nat.pow_pos (by decide)
 have vu:(2:Nat)^60=1152921504606846976:=by decide
 generalize n.toNat / 2^k=x
 generalize 2^k=q at*
 rcases Nat.mod_two_eq_zero_or_one x with e|e
 ·rw[e,Nat.zero_mul]
  rfl
 ·rw[e,Nat.one_mul,i64_in (by omega)]
  have:(q:Int) >0:=by omega
  rw[decide_eq_true this]
  rfl
theorem Baz {n:Int} (h:Wy n):IntKind.i64.wrap (IntKind.i64.wrap ((BitVec.ofInt 64 n &&& BitVec.ofInt 64 1).toNat:Int)+1)=1+n % 2:=by
 have e:=Aza h 0 1 rfl (by decide)
 rw[e]
 obtain⟨h0,h1⟩:=h
 have e2:n.toNat / 2^0 % 2*2^0=n.toNat % 2:=by rw[Nat.pow_zero,Nat.div_one,Nat.mul_one]
 rw[e2,i64_in (n:=((n.toNat % 2:Nat):Int)) (by omega),i64_in (by omega)]
 omega
theorem Ana {x y:ByteArray}:(x.toList==y.toList)=true↔x=y:=by
 rw[beq_iff_eq,ByteArray.toList_eq,ByteArray.toList_eq]
 constructor
 ·intro h
  cases x;cases y
  simpa using h
 ·rintro rfl;rfl
theorem A0z {x:ByteArray}:(x.toList==(ByteArray.mk #[]).toList)=true↔x.size=0:=by
 rw[Ana]
 constructor
 ·rintro rfl;rfl
 ·intro h
  cases x with|mk d=>
  have:d.size=0:=h
  rw[Array.eq_empty_of_size_eq_zero this]
theorem Agm (x:ByteArray):(x.toList==(ByteArray.mk #[]).toList)=(x.size==0):=by
 rw[Bool.eq_iff_iff,A0z,beq_iff_eq]
theorem Bfv {x:ByteArray} (h:x.size=0):x=ByteArray.mk #[]:=Ana.1 (A0z.2 h)
def D3 (c:AG):Bool:=!(c.stamp.n==0&&c.stamp.site==0&&(c.vec.a==0&&c.vec.b==0)&&(!c.gone&&c.value.size==0))
def HI (p:Int) (c:AG):Bool:=
 bif p==1&&!GR c.dead||(p==2&&(c.gone||!EP c.dead)||!(p==1||p==2)) then false else
 bif !D3 c then true else HJ c.stamp&&decide (0 <c.stamp.n)&&EP c.vec&&decide ((c.value.size:Int)≤64)&&!(c.gone&&!(c.value.size==0))
def G7 (c:AG):Int:=(bif D3 c then 1 else 0)+(bif c.gone then 2 else 0)+(bif GR c.dead then 0 else 4)
def O2 (c:AG):Ak:=(bif D3 c then Mr c.stamp++GY c.vec++(bif c.gone then[] else Hm c.value) else[])++(bif GR c.dead then[] else GY c.dead)
def Kf (p:Int) (c:AG):Ak:=bif HI p c then AE (G7 c)++O2 c else[]
def Tn:AG:=⟨⟨0,0⟩,⟨0,0⟩,false,ByteArray.mk #[],⟨0,0⟩⟩
theorem Al4 {v:Bu}:GR v=true↔v=⟨0,0⟩:=by
 unfold GR
 simp only[Bool.and_eq_true,beq_iff_eq]
 constructor
 ·intro h;exact Apq h.1 h.2
 ·rintro rfl;exact⟨rfl,rfl⟩
theorem Ata {c:AG} (h:D3 c=false):c.stamp=⟨0,0⟩∧c.vec=⟨0,0⟩∧c.gone=false∧c.value=ByteArray.mk #[]:=by
 unfold D3 at h
 simp only[Bool.not_eq_false',Bool.and_eq_true,beq_iff_eq,Bool.not_eq_true'] at h
 obtain⟨⟨⟨h1,h2⟩,h3,h4⟩,h5,h6⟩:=h
 exact⟨ZK h1 h2,Apq h3 h4,h5,Bfv h6⟩
structure Bjm (p:Int) (c:AG):Prop where
 pol:p=1∨p=2
 dead:EP c.dead=true
 last:p=1→GR c.dead=true
 del:p=2→c.gone=false
 st:D3 c=true→HJ c.stamp=true∧0 <c.stamp.n∧EP c.vec=true∧(c.value.size:Int)≤64∧(c.gone=true→c.value.size=0)
theorem YU {p:Int} {c:AG}:HI p c=true↔Bjm p c:=by
 unfold HI
 rw[Bool.cond_eq_ite]
 split
 ·rename_i h
  refine⟨fun h=>(by cases h),fun g=>?_⟩
  exfalso
  simp only[Bool.or_eq_true,Bool.and_eq_true,beq_iff_eq,Bool.not_eq_true'] at h
  rcases h with⟨h1,h2⟩|⟨h1,h2⟩|h1
  ·rw[g.last h1] at h2;cases h2
  ·rcases h2 with h2|h2
   ·rw[g.del h1] at h2;cases h2
   ·rw[g.dead] at h2;cases h2
  ·rcases g.pol with h|h
   ·rw[h] at h1;cases h1
   ·rw[h] at h1;cases h1
 ·rename_i h
  have hh:=Bool.eq_false_iff.2 h
  simp only[Bool.or_eq_false_iff] at hh
  obtain⟨h1,h2,h3⟩:=hh
  have hp:p=1∨p=2:=by
   have:(p==1||p==2)=true:=by
    cases hq:(p==1||p==2) with
    |true=>rfl
    |false=>rw[hq] at h3;cases h3
   simpa using this
  have base:EP c.dead=true∧(p=1→GR c.dead=true)∧(p=2→c.gone=false):=by
   rcases hp with rfl|rfl
   ·have hz:GR c.dead=true:=by
     cases hz:GR c.dead with
     |true=>rfl
     |false=>rw[hz] at h1;cases h1
    refine⟨by rw[Al4.1 hz];rfl,fun _=>hz,fun h=>by cases h⟩
   ·have:c.gone=false∧EP c.dead=true:=by
     cases hg:c.gone with
     |true=>rw[hg] at h2;cases h2
     |false=>
      cases hv:EP c.dead with
      |true=>exact⟨rfl,rfl⟩
      |false=>rw[hg,hv] at h2;cases h2
    exact⟨this.2,fun h=>(by cases h),fun _=>this.1⟩
  cases hw:D3 c with
  |false=>exact⟨fun _=>⟨hp,base.1,base.2.1,base.2.2,fun h=>by rw[hw] at h;cases h⟩,fun _=>rfl⟩
  | true=>
   rw[Bool.not_true,cond_false]
   simp only[Bool.and_eq_true,decide_eq_true_eq,Bool.not_eq_true',Bool.and_eq_false_iff,Bool.not_eq_false',beq_iff_eq]
   constructor
   ·rintro⟨⟨⟨⟨g1,g2⟩,g3⟩,g4⟩,g5⟩
    refine⟨hp,base.1,base.2.1,base.2.2,fun _=>⟨g1,g2,g3,g4,fun hg=>?_⟩⟩
    rcases g5 with g5|g5
    ·rw[g5] at hg;cases hg
    ·exact g5
   ·intro g
    obtain⟨g1,g2,g3,g4,g5⟩:=g.st hw
    refine⟨⟨⟨⟨g1,g2⟩,g3⟩,g4⟩,?_⟩
    cases hg:c.gone with
    |false=>exact .inl rfl
    |true=>exact .inr (g5 hg)
theorem A1f {p:Int} {c:AG} (h:HI p c=true):Kf p c=AE (G7 c)++O2 c:=by unfold Kf;rw[h];rfl
theorem Ae2 (c:AG):Wy (G7 c)∧G7 c≤7∧((G7 c).toNat / 2^0 % 2==1)=D3 c∧((G7 c).toNat / 2^1 % 2==1)=c.gone∧((G7 c).toNat / 2^2 % 2==1)=!GR c.dead:=by
 unfold G7 Wy
 cases D3 c<;>cases c.gone<;>cases GR c.dead<;>decide
theorem A6x {n:Int} {c:AG} (h0:0≤n) (_h7:n≤7) (h1:(n.toNat / 2^0 % 2==1)=D3 c) (h2:(n.toNat / 2^1 % 2==1)=c.gone) (h3:(n.toNat / 2^2 % 2==1)=!GR c.dead):n=G7 c:=by
 unfold G7
 rw[←h1,←h2]
 have gu:GR c.dead=!(n.toNat / 2^2 % 2==1):=by rw[h3,Bool.not_not]
 rw[gu]
 obtain⟨m,rfl⟩:∃m:Nat,n=(m:Int):=⟨n.toNat,(Int.toNat_of_nonneg h0).symm⟩
 rw[Int.toNat_natCast]
 have:m≤7:=by omega
 match m,this with
 |0,_=>rfl
 |1,_=>rfl
 |2,_=>rfl
 |3,_=>rfl
 |4,_=>rfl
 |5,_=>rfl
 |6,_=>rfl
 |7,_=>rfl
 |m+8,h=>omega
def DN (n:Int) (k:Nat):Bool:=n.toNat / 2^k % 2==1
def LM (b:Ak):Bool×AG×Int:=
 bif(Am b).2.2==0&&DN (Am b).1 0 then
  (bif !DN (Am b).1 1 then
   ((Am b).2.2==0&&(AM (b.drop (Am b).2.1.toNat)).2.2==0&&(Ah (b.drop ((Am b).2.1+(AM (b.drop (Am b).2.1.toNat)).2.1).toNat)).2.2==0&&(CA (b.drop ((Am b).2.1+(AM (b.drop (Am b).2.1.toNat)).2.1+(Ah (b.drop ((Am b).2.1+(AM (b.drop (Am b).2.1.toNat)).2.1).toNat)).2.1).toNat) 64).2.2==0,
    ⟨(AM (b.drop (Am b).2.1.toNat)).1,(Ah (b.drop ((Am b).2.1+(AM (b.drop (Am b).2.1.toNat)).2.1).toNat)).1,DN (Am b).1 1,(CA (b.drop ((Am b).2.1+(AM (b.drop (Am b).2.1.toNat)).2.1+(Ah (b.drop ((Am b).2.1+(AM (b.drop (Am b).2.1.toNat)).2.1).toNat)).2.1).toNat) 64).1,⟨0,0⟩⟩,
    (Am b).2.1+(AM (b.drop (Am b).2.1.toNat)).2.1+(Ah (b.drop ((Am b).2.1+(AM (b.drop (Am b).2.1.toNat)).2.1).toNat)).2.1+(CA (b.drop ((Am b).2.1+(AM (b.drop (Am b).2.1.toNat)).2.1+(Ah (b.drop ((Am b).2.1+(AM (b.drop (Am b).2.1.toNat)).2.1).toNat)).2.1).toNat) 64).2.1)
  else
   ((Am b).2.2==0&&(AM (b.drop (Am b).2.1.toNat)).2.2==0&&(Ah (b.drop ((Am b).2.1+(AM (b.drop (Am b).2.1.toNat)).2.1).toNat)).2.2==0,
    ⟨(AM (b.drop (Am b).2.1.toNat)).1,(Ah (b.drop ((Am b).2.1+(AM (b.drop (Am b).2.1.toNat)).2.1).toNat)).1,DN (Am b).1 1,ByteArray.mk #[],⟨0,0⟩⟩,
    (Am b).2.1+(AM (b.drop (Am b).2.1.toNat)).2.1+(Ah (b.drop ((Am b).2.1+(AM (b.drop (Am b).2.1.toNat)).2.1).toNat)).2.1))
 else((Am b).2.2==0,Tn,(Am b).2.1)
def stB (b:Ak):Bool×AG×Int:=
 bif(LM b).1&&DN (Am b).1 2 then((LM b).1&&(Ah (b.drop (LM b).2.2.toNat)).2.2==0,{(LM b).2.1 with dead:=(Ah (b.drop (LM b).2.2.toNat)).1},(LM b).2.2+(Ah (b.drop (LM b).2.2.toNat)).2.1)
 else LM b
def We (n:Int) (c:AG):Bool:=decide (n≤7)&&DN n 0==D3 c&&DN n 1==c.gone&&DN n 2==!GR c.dead
def Lv (b:Ak) (p:Int):AG×Int×Int:=
 bif !(stB b).1||!We (Am b).1 (stB b).2.1||!HI p (stB b).2.1 then(Tn,0,80) else((stB b).2.1,(stB b).2.2,0)
theorem W5 {b r p:Ak} {k j:Int} (h:b.drop k.toNat=p++r) (_hk:0≤k) (_hj:j=(p.length:Int)):b.drop (k+j).toNat=r:=by
 have e:(k+j).toNat=k.toNat+p.length:=by omega
 rw[e,←List.drop_drop,h,List.drop_left]
theorem TM {α:Type} {get:Ak→α×Int×Int} {good:α→Prop} {put:α→Ak} (R:Rd get good put) {b:Ak} {k:Int} (hk:0≤k) (h:(get (b.drop k.toNat)).2.2=0):
  good (get (b.drop k.toNat)).1∧(get (b.drop k.toNat)).2.1=((put (get (b.drop k.toNat)).1).length:Int)∧∃r,b.drop k.toNat=put (get (b.drop k.toNat)).1++r∧b.drop (k+(get (b.drop k.toNat)).2.1).toNat=r:=by
 obtain⟨h1,h2,r,h3⟩:=R.front (b.drop k.toNat) (get (b.drop k.toNat)).1 (get (b.drop k.toNat)).2.1 (by rw[←h])
 exact⟨h1,h2,r,h3,W5 h3 hk h2⟩
theorem Bib {b:Ak} (h:(LM b).1=true):Wy (Am b).1∧0≤(LM b).2.2∧
  (LM b).2.2=((AE (Am b).1++(bif DN (Am b).1 0 then Mr (LM b).2.1.stamp++GY (LM b).2.1.vec++(bif DN (Am b).1 1 then[] else Hm (LM b).2.1.value) else[])).length:Int)∧
  b=AE (Am b).1++(bif DN (Am b).1 0 then Mr (LM b).2.1.stamp++GY (LM b).2.1.vec++(bif DN (Am b).1 1 then[] else Hm (LM b).2.1.value) else[])++b.drop (LM b).2.2.toNat∧
  (LM b).2.1.dead=⟨0,0⟩:=by
 have he:(Am b).2.2=0:=by
  unfold LM at h
  rw[Bool.cond_eq_ite] at h
  split at h
  ·rename_i h1
   simp only[Bool.and_eq_true,beq_iff_eq] at h1
   exact h1.1
  ·simpa using h
 obtain⟨r0,h1,h2,h3⟩:=Qs he
 have bu:0≤(Am b).2.1:=by rw[h2];omega
 have fc:b.drop (Am b).2.1.toNat=r0:=by
  generalize Am b=g at*
  subst h3
  exact Pd h2
 have e0:((Am b).2.2==(0:Int))=true:=by rw[he];rfl
 unfold LM at h⊢
 rw[e0] at h⊢
 cases b0:DN (Am b).1 0 with
 |false=>
  simp only[Bool.and_false,cond_false,List.append_nil]
  refine⟨h1,bu,h2,?_,rfl⟩
  rw[fc]
  exact h3
 | true=>
  rw[b0] at h
  cases b1:DN (Am b).1 1 with
  | true=>
   rw[b1] at h
   simp only[Bool.and_true,cond_true,Bool.not_true,cond_false,Bool.true_and,Bool.and_eq_true,beq_iff_eq,List.append_nil] at h⊢
   obtain⟨s1,s2,r1,s3,s4⟩:=TM rdS bu h.1
   have fg:0≤(Am b).2.1+(AM (b.drop (Am b).2.1.toNat)).2.1:=by omega
   obtain⟨v1,v2,r2,v3,v4⟩:=TM rdV fg h.2
   refine⟨h1,by omega,?_,?_,trivial⟩
   ·rw[List.length_append,List.length_append];omega
   ·rw[v4]
    rw[s4] at v3
    rw[fc] at s3
    conv=>lhs;rw[h3,s3,v3]
    rw[s4,fc]
    simp only[List.append_assoc]
  | false=>
   rw[b1] at h
   simp only[Bool.and_true,cond_true,Bool.not_false,cond_false,Bool.true_and,Bool.and_eq_true,beq_iff_eq] at h⊢
   obtain⟨s1,s2,r1,s3,s4⟩:=TM rdS bu h.1.1
   have fg:0≤(Am b).2.1+(AM (b.drop (Am b).2.1.toNat)).2.1:=by omega
   obtain⟨v1,v2,r2,v3,v4⟩:=TM rdV fg h.1.2
   have ep:0≤(Am b).2.1+(AM (b.drop (Am b).2.1.toNat)).2.1+(Ah (b.drop ((Am b).2.1+(AM (b.drop (Am b).2.1.toNat)).2.1).toNat)).2.1:=by omega
   obtain⟨t1,t2,r3,t3,t4⟩:=TM (rdT (m:=64) (by decide)) ep h.2
   refine⟨h1,by omega,?_,?_,trivial⟩
   ·rw[List.length_append,List.length_append,List.length_append];omega
   ·rw[t4]
    rw[v4] at t3
    rw[s4] at v3
    rw[fc] at s3
    conv=>lhs;rw[h3,s3,v3,t3]
    rw[v4,s4,fc]
    simp only[List.append_assoc]
theorem Ae5 {b:Ak} {p:Int} {c:AG} {k:Int} (h:Lv b p=(c,k,0)):HI p c=true∧k=((Kf p c).length:Int)∧∃r,b=Kf p c++r:=by
 unfold Lv at h
 rw[Bool.cond_eq_ite] at h
 split at h
 ·injection h with e1 e2;injection e2 with e2 e3;cases e3
 ·rename_i hc
  have hc:=Bool.eq_false_iff.2 hc
  simp only[Bool.or_eq_false_iff,Bool.not_eq_false'] at hc
  obtain⟨⟨hB,hR⟩,hG⟩:=hc
  injection h with e1 e2
  injection e2 with e2 e3
  rw[e1] at hR hG
  refine⟨hG,?_⟩
  rw[A1f hG]
  unfold We at hR
  simp only[Bool.and_eq_true,beq_iff_eq,decide_eq_true_eq] at hR
  obtain⟨⟨⟨r7,r0⟩,r1⟩,r2⟩:=hR
  have hA:(LM b).1=true:=by
   unfold stB at hB
   rw[Bool.cond_eq_ite] at hB
   split at hB
   ·simp only[Bool.and_eq_true] at hB;exact hB.1
   ·exact hB
  obtain⟨a1,a2,a3,a4,a5⟩:=Bib hA
  have hn:=A6x a1.1 r7 r0 r1 r2
  unfold stB at e1 e2 hB
  rw[hA] at e1 e2 hB
  unfold O2
  rw[←hn,←r0,←r1]
  have hz:GR c.dead=!DN (Am b).1 2:=by rw[r2,Bool.not_not]
  rw[hz]
  cases b2:DN (Am b).1 2 with
  | true=>
   rw[b2] at e1 e2 hB
   simp only[Bool.and_true,cond_true,Bool.true_and,beq_iff_eq] at e1 e2 hB
   obtain⟨v1,v2,r,v3,v4⟩:=TM rdV a2 hB
   subst e1
   simp only[Bool.not_true,cond_false]
   refine⟨?_,r,?_⟩
   ·rw[←e2,v2,a3,←List.append_assoc,List.length_append (bs:=GY _)]
    exact(Int.natCast_add _ _).symm
   ·rw[←List.append_assoc,List.append_assoc _ _ r,←v3]
    exact a4
  |false=>
   rw[b2] at e1 e2 hB
   simp only[Bool.and_false,cond_false] at e1 e2 hB
   subst e1
   simp only[Bool.not_false,cond_true,List.append_nil]
   exact⟨by rw[←e2];exact a3,_,a4⟩
theorem A21 {p:Int} {c:AG} (h:HI p c=true) (r:Ak):Lv (Kf p c++r) p=(c,((Kf p c).length:Int),0):=by
 have g:=YU.1 h
 obtain⟨f1,f2,f3,f4,f5⟩:=Ae2 c
 rw[A1f h]
 generalize hb:AE (G7 c)++O2 c++r=b
 have hN:Am b=(G7 c,((AE (G7 c)).length:Int),0):=by rw[←hb,List.append_assoc];exact rdN.back _ _ f1
 have fc:b.drop (Am b).2.1.toNat=O2 c++r:=by
  rw[hN,←hb,List.append_assoc]
  exact Pd rfl
 have e0:((Am b).2.2==(0:Int))=true:=by rw[hN];rfl
 have q0:DN (Am b).1 0=D3 c:=by rw[hN];exact f3
 have q1:DN (Am b).1 1=c.gone:=by rw[hN];exact f4
 have q2:DN (Am b).1 2=!GR c.dead:=by rw[hN];exact f5
 have bu:(Am b).2.1=((AE (G7 c)).length:Int):=by rw[hN]
 have hA:LM b=(true,{c with dead:=⟨0,0⟩},((AE (G7 c)++(bif D3 c then Mr c.stamp++GY c.vec++(bif c.gone then[] else Hm c.value) else[])).length:Int))∧
   b.drop (LM b).2.2.toNat=(bif GR c.dead then[] else GY c.dead)++r:=by
  unfold LM
  rw[e0,q0,q1]
  cases hw:D3 c with
  | false=>
   simp only[Bool.and_false,cond_false,List.append_nil]
   obtain⟨w1,w2,w3,w4⟩:=Ata hw
   refine⟨?_,?_⟩
   ·unfold Tn
    rw[w1,w2,w3,w4,bu]
   ·rw[fc]
    unfold O2
    rw[hw]
    rfl
  | true=>
   obtain⟨g1,g2,g3,g4,g5⟩:=g.st hw
   have ij:O2 c=Mr c.stamp++(GY c.vec++((bif c.gone then[] else Hm c.value)++(bif GR c.dead then[] else GY c.dead))):=by
    unfold O2
    rw[hw]
    simp only[cond_true,List.append_assoc]
   rw[ij,List.append_assoc,List.append_assoc] at fc
   have hS:AM (b.drop (Am b).2.1.toNat)=(c.stamp,((Mr c.stamp).length:Int),0):=by rw[fc];exact rdS.back _ _ g1
   have qh:0≤(Am b).2.1:=by omega
   have lk:b.drop ((Am b).2.1+(AM (b.drop (Am b).2.1.toNat)).2.1).toNat=GY c.vec++((bif c.gone then[] else Hm c.value)++(bif GR c.dead then[] else GY c.dead)++r):=W5 fc qh (by rw[hS])
   have hV:Ah (b.drop ((Am b).2.1+(AM (b.drop (Am b).2.1.toNat)).2.1).toNat)=(c.vec,((GY c.vec).length:Int),0):=by rw[lk];exact rdV.back _ _ g3
   have dn:0≤(Am b).2.1+(AM (b.drop (Am b).2.1.toNat)).2.1:=by rw[hS];show 0≤(Am b).2.1+((Mr c.stamp).length:Int);omega
   have jn:b.drop ((Am b).2.1+(AM (b.drop (Am b).2.1.toNat)).2.1+(Ah (b.drop ((Am b).2.1+(AM (b.drop (Am b).2.1.toNat)).2.1).toNat)).2.1).toNat=(bif c.gone then[] else Hm c.value)++(bif GR c.dead then[] else GY c.dead)++r:=W5 lk dn (by rw[hV])
   cases hg:c.gone with
   |true=>
    rw[hg] at jn
    simp only[Bool.and_true,cond_true,Bool.not_true,cond_false,List.append_nil]
    rw[jn,hV,hS,bu]
    refine⟨?_,rfl⟩
    have hv:c.value=ByteArray.mk #[]:=Bfv (g5 hg)
    rw[List.length_append,List.length_append,←hv,←hg]
    simp only[beq_self_eq_true,Bool.and_true,Prod.mk.injEq,true_and]
    omega
   |false=>
    rw[hg] at jn
    simp only[Bool.and_true,cond_true,Bool.not_false,cond_false]
    have ik:=jn
    simp only[cond_false,List.append_assoc] at ik
    have hT:=(rdT (m:=64) (by decide)).back c.value ((bif GR c.dead then[] else GY c.dead)++r) g4
    have d9:0≤(Am b).2.1+(AM (b.drop (Am b).2.1.toNat)).2.1+(Ah (b.drop ((Am b).2.1+(AM (b.drop (Am b).2.1.toNat)).2.1).toNat)).2.1:=by rw[hV];show 0≤(Am b).2.1+(AM (b.drop (Am b).2.1.toNat)).2.1+((GY c.vec).length:Int);omega
    have uk:CA (b.drop ((Am b).2.1+(AM (b.drop (Am b).2.1.toNat)).2.1+(Ah (b.drop ((Am b).2.1+(AM (b.drop (Am b).2.1.toNat)).2.1).toNat)).2.1).toNat) 64=(c.value,((Hm c.value).length:Int),0):=by rw[ik];exact hT
    have xx:=W5 ik d9 (j:=(CA (b.drop ((Am b).2.1+(AM (b.drop (Am b).2.1.toNat)).2.1+(Ah (b.drop ((Am b).2.1+(AM (b.drop (Am b).2.1.toNat)).2.1).toNat)).2.1).toNat) 64).2.1) (by rw[uk])
    rw[xx]
    refine⟨?_,rfl⟩
    rw[uk,hV,hS,bu,List.length_append,List.length_append,List.length_append,←hg]
    simp only[beq_self_eq_true,Bool.and_true,Prod.mk.injEq,true_and]
    omega
 obtain⟨uf,ug⟩:=hA
 have hB:stB b=(true,c,((AE (G7 c)++O2 c).length:Int)):=by
  unfold stB
  rw[q2]
  cases hz:GR c.dead with
  |true=>
   rw[uf]
   simp only[Bool.not_true,Bool.and_false,cond_false]
   unfold O2
   rw[hz,←Al4.1 hz]
   simp only[cond_true,List.append_nil]
  |false=>
   rw[hz] at ug
   have hV:Ah (b.drop (LM b).2.2.toNat)=(c.dead,((GY c.dead).length:Int),0):=by rw[ug];exact rdV.back _ _ g.dead
   rw[hV,uf]
   simp only[Bool.not_false,Bool.and_true,cond_true,beq_self_eq_true]
   unfold O2
   rw[hz]
   simp only[cond_false,←List.append_assoc]
   rw[List.length_append (bs:=GY c.dead)]
   simp only[Prod.mk.injEq,true_and]
   exact(Int.natCast_add _ _).symm
 unfold Lv
 have hr:We (Am b).1 c=true:=by
  unfold We
  rw[q0,q1,q2]
  have:decide ((Am b).1≤7)=true:=decide_eq_true (by rw[hN];exact f2)
  rw[this]
  simp
 rw[hB]
 simp only[hr,h]
 rfl
end Go.Proofs.YtifkbgkbajncjaaDoor

