/- made by a program (rowgen.py): WireDecodes: for every input the law returns true, and each argument reads behind the call as it read before. -/
import Derived.Test.YtifkbgkbajncjaaGreatDoorKWdc

set_option maxRecDepth 100000
noncomputable section
namespace Go.Proofs.YtifkbgkbajncjaaGreatDoor
open Go.RowKit
inductive Dir where
 |frz (i:Nat)
 |nil (u:Nat) (t:TypeId) (c:TC)
 |nilB (b j:Nat) (t:TypeId) (c:TC)
 |ty (i:Nat) (c:TC)
 |nilF (u:Nat) (c:TC)
 |nilFB (b j:Nat) (c:TC)
 |seg (i:Nat) (p:List (Option (TC×Nat)))
def Bl4 (c:TC):List A→Option (List (U c)×List Prop)
 | []=>some ([],[])
 |x::r=>match dec c [x],Bl4 c r with
  |some (d,ps),some (l,qs)=>some (d::l,ps++qs)
  |_,_=>none
theorem Arb {F:Nat→Prop} {N:Nm} {nx:Nat} {R:World} {c:TC} (h1:c.one=true):∀{cs:List A} {vs:List Value} {l:List (U c)} {ps:List Prop},HL F N nx R cs vs→Bl4 c cs=some (l,ps)→(∀p∈ps,p)→l.length=cs.length∧vs=l.map (sv c)
 | [],vs,l,ps,h,he,_=>by
  cases he
  exact⟨rfl,h.inv0⟩
 |x::r,vs,l,ps,h,he,hp=>by
  obtain⟨y,ys,rfl,g1,g2⟩:=h.inv
  unfold Bl4 at he
  split at he<;>try (cases he;done)
  rename_i d qs l' pg hd hl
  cases he
  obtain⟨k1,k2⟩:=Arb h1 g2 hl fun p hm=>hp p (List.mem_append.2 (.inr hm))
  have h5:=Aiu hd (fun p hm=>hp p (List.mem_append.2 (.inl hm))) _ (HL.cons g1 HL.nil)
  rw[Ai8 h1] at h5
  obtain⟨v',vs',w1,w2,_⟩:=h5.inv
  cases w1
  refine⟨by rw[List.length_cons,List.length_cons,k1],?_⟩
  rw[List.map_cons,←w2.v_inv,k2]
def Av9:List (Option (TC×Nat))→List A→Option (List A×List Prop)
 | [],[]=>some ([],[])
 |none::p,.v x::r=>bif x.oneCell' then(match Av9 p r with
  |some (l,ps)=>some (.v x::l,ps)
  |none=>none) else none
 |none::p,.sl c l::r=>match Av9 p r with
  |some (xs,ps)=>some (.sl c l::xs,ps)
  |none=>none
 |none::p,.nl::r=>match Av9 p r with
  |some (xs,ps)=>some (.nl::xs,ps)
  |none=>none
 |some (c,n)::p,cs=>bif c.one&&Nat.ble n cs.length then(bif Nat.blt 64 n&&Acd c (cs.take n) then(match Av9 p (cs.drop n) with
  |some (r,qs)=>some (.av c n (List.replicate n (Av c))::r,qs)
  |none=>none) else(match Bl4 c (cs.take n),Av9 p (cs.drop n) with
  |some (l,ps),some (r,qs)=>some (.av c n l::r,ps++qs)
  |_,_=>none)) else none
 |_,_=>none
theorem ZX {F:Nat→Prop} {N:Nm} {nx:Nat} {R:World}:∀{p:List (Option (TC×Nat))} {cs:List A} {vs:List Value} {xs:List A} {ps:List Prop},HL F N nx R cs vs→Av9 p cs=some (xs,ps)→(∀p∈ps,p)→HW F N nx R xs vs
 | [],cs,vs,xs,ps,h,he,_=>by
  cases cs with
  |nil=>cases he;exact h.inv0
  |cons x r=>cases he
 | none::p,cs,vs,xs,ps,h,he,hp=>by
  cases cs with
  |nil=>cases he
  | cons x r=>
   obtain⟨y,ys,rfl,g1,g2⟩:=h.inv
   cases x<;>try (cases he;done)
   ·rename_i x
    unfold Av9 at he
    cases ho:x.oneCell' with
    |false=>rw[ho] at he;cases he
    |true=>
     rw[ho,cond_true] at he
     split at he<;>try (cases he;done)
     rename_i l qs hl
     cases he
     have e:=g1.v_inv
     subst e
     exact⟨y,ys,by rw[IZ ho];rfl,g1,fun _=>ho,ZX g2 hl hp⟩
   ·unfold Av9 at he
    split at he<;>try (cases he;done)
    rename_i l qs hl
    cases he
    obtain⟨a,cap,e,_⟩:=g1.sl_inv
    have ho:y.oneCell'=true:=by rw[e];rfl
    exact⟨y,ys,by rw[IZ ho];rfl,g1,fun _=>ho,ZX g2 hl hp⟩
   ·unfold Av9 at he
    split at he<;>try (cases he;done)
    rename_i l qs hl
    cases he
    obtain⟨a,e⟩:=g1.nl_inv
    have ho:y.oneCell'=true:=by rw[e];rfl
    exact⟨y,ys,by rw[IZ ho];rfl,g1,fun _=>ho,ZX g2 hl hp⟩
 | some (c,n)::p,cs,vs,xs,ps,h,he,hp=>by
  unfold Av9 at he
  cases hb:(c.one&&Nat.ble n cs.length) with
  |false=>rw[hb] at he;cases he
  |true=>
   rw[hb,cond_true] at he
   rw[Bool.and_eq_true] at hb
   have hn:=Nat.le_of_ble_eq_true hb.2
   cases hz:(Nat.blt 64 n&&Acd c (cs.take n)) with
   |true=>
   rw[hz,cond_true] at he
   rw[Bool.and_eq_true] at hz
   replace hz:=hz.2
   split at he<;>try (cases he;done)
   rename_i r qs hl
   cases he
   have q2:=Awv (h.take n) hz
   rw[List.length_take,Nat.min_eq_left hn] at q2
   exact⟨.agg ((List.replicate n (Av c)).map (sv c)).toArray,vs.drop n,by rw[show(Value.agg ((List.replicate n (Av c)).map (sv c)).toArray).cells.toList=(List.replicate n (Av c)).map (sv c) by simp[Value.cells],←q2,List.take_append_drop],.av hb.1 (by rw[List.length_replicate]),fun e=>(by cases e),ZX (h.drop n) hl hp⟩
   |false=>
   rw[hz,cond_false] at he
   split at he<;>try (cases he;done)
   rename_i l qs r pg hd hl
   cases he
   obtain⟨q1,q2⟩:=Arb hb.1 (h.take n) hd fun p hm=>hp p (List.mem_append.2 (.inl hm))
   have q3:=ZX (h.drop n) hl fun p hm=>hp p (List.mem_append.2 (.inr hm))
   rw[List.length_take,Nat.min_eq_left hn] at q1
   exact⟨.agg (l.map (sv c)).toArray,vs.drop n,by rw[show(Value.agg (l.map (sv c)).toArray).cells.toList=l.map (sv c) by simp[Value.cells],←q2,List.take_append_drop],.av hb.1 q1,fun e=>(by cases e),q3⟩
def B0r (c:TC) (n:Nat):A→Option (List (U c)×List Prop)
 | .av c' n' l=>match TC.same c' c with
  |some h=>bif Nat.beq n' n then some (RQ h.down l,[]) else none
  |none=>none
 | .v (.agg xs)=>bif c.one then(match Bl4 c (toL xs.toList) with
  |some (l,ps)=>bif Nat.beq xs.size n then some (l,ps) else none
  |none=>none) else none
 | .agg xs=>bif c.one then(match Bl4 c xs with
  |some (l,ps)=>bif Nat.beq xs.length n then some (l,ps) else none
  |none=>none) else none
 |_=>none
theorem Bu1 {F:Nat→Prop} {N:Nm} {nx:Nat} {R:World} {c:TC} {n:Nat} {x:A} {l:List (U c)} {ps:List Prop} {v:Value} (he:B0r c n x=some (l,ps)) (hp:∀p∈ps,p) (h:Hv F N nx R x v):Hv F N nx R (.av c n l) v:=by
 unfold B0r at he
 split at he<;>try (cases he;done)
 ·split at he<;>try (cases he;done)
  rename_i c' n' l' _ h1 _
  obtain⟨h1⟩:=h1
  subst h1
  cases hb:Nat.beq n' n with
  |false=>rw[hb] at he;cases he
  |true=>
   rw[hb] at he
   obtain rfl:=Nat.eq_of_beq_eq_true hb
   cases he
   exact h
 ·rename_i xs
  cases h1:c.one with
  |false=>rw[h1] at he;cases he
  | true=>
   rw[h1,cond_true] at he
   split at he<;>try (cases he;done)
   rename_i l' gz hd
   cases hb:Nat.beq xs.size n with
   |false=>rw[hb] at he;cases he
   |true=>
    rw[hb] at he
    cases he
    obtain⟨g1,g2⟩:=Arb h1 (HL.toL (F:=F) (N:=N) (nx:=nx) (R:=R) xs.toList) hd hp
    have hv:=h.v_inv
    subst hv
    have e:(Value.agg xs)=.agg (l.map (sv c)).toArray:=by rw[←g2]
    rw[e]
    refine .av h1 ?_
    rw[g1,←Nat.eq_of_beq_eq_true hb,←HL.length (HL.toL (F:=F) (N:=N) (nx:=nx) (R:=R) xs.toList)]
    simp
 ·rename_i xs
  cases h1:c.one with
  |false=>rw[h1] at he;cases he
  | true=>
   rw[h1,cond_true] at he
   split at he<;>try (cases he;done)
   rename_i l' gz hd
   cases hb:Nat.beq xs.length n with
   |false=>rw[hb] at he;cases he
   |true=>
    rw[hb] at he
    cases he
    obtain⟨vs,rfl,h2⟩:=h.agg_inv
    obtain⟨g1,g2⟩:=Arb h1 h2 hd hp
    rw[g2]
    exact .av h1 (g1.trans (Nat.eq_of_beq_eq_true hb))
def XC:A→Bool
 | .v x=>E5 x
 | .nl=>true
 |_=>false
def A26:A→Bool
 | .v x=>E5 x
 |_=>false
def Afn (E:Env) (s:St):Dir→Option (St×List Prop)
 | .frz i=>ZB E i s
 | .nil u t c=>match DV u s.t with
  |some x=>bif XC x then some (⟨s.n,s.nx+1,(u,.sq s.nx)::s.t,(s.nx,some (.arr t (size c) (.ty c [])))::s.o⟩,[]) else none
  |none=>none
 | .nilB b j t c=>match Ai b s.o with
  |some (.box e cs)=>match cs[j]? with
   |some x=>bif A26 x then(bif Nat.blt b s.nx then some (⟨s.n,s.nx+1,s.t,(b,some (.box e (cs.set j (.sq s.nx))))::(s.nx,some (.arr t (size c) (.ty c [])))::s.o⟩,[]) else none) else none
   |none=>none
  |_=>none
 | .nilF u c=>match DV u s.t with
  |some x=>bif XC x then some (⟨s.n,s.nx,(u,.sl c [])::s.t,s.o⟩,[]) else none
  |none=>none
 | .nilFB b j c=>match Ai b s.o with
  |some (.box e cs)=>match cs[j]? with
   |some x=>bif XC x then some (⟨s.n,s.nx,s.t,(b,some (.box e (cs.set j (.sl c []))))::s.o⟩,[]) else none
   |none=>none
  |_=>none
 | .ty i c=>match Ai i s.o with
  |some (.arr e sz els)=>match Af6 c els with
   |some (l,ps)=>some (⟨s.n,s.nx,s.t,(i,some (.arr e sz (.ty c l)))::s.o⟩,ps)
   |none=>none
  |_=>none
 | .seg i p=>match Ai i s.o with
  |some (.box e cs)=>match Av9 p cs with
   |some (xs,ps)=>some (⟨s.n,s.nx,s.t,(i,some (.rcd e xs))::s.o⟩,ps)
   |none=>none
  |_=>none
def adj (E:Env):List Dir→St→Option (St×List Prop)
 | [],s=>some (s,[])
 | d::r,s=>match Afn E s d with
  |some (s',ps)=>match adj E r s' with
   |some (tf,qs)=>some (tf,ps++qs)
   |none=>none
  |none=>none
section
variable {E:Env} {Z:FG} {F:Nat→Prop} {N:Nm} {s:St} {a:Act} {R:World}
theorem Rel.word (h:Rel Z F N s a R) {u:Nat} {x:A} (hx:Hv F N s.nx R x (BH a u)):Rel Z F N ⟨s.n,s.nx,(u,x)::s.t,s.o⟩ a R:=
 ⟨h.defers,h.size,fun v z hv=>by
  have ed:(bif Nat.beq u v then some x else DV v s.t)=some z:=hv
  cases hb:Nat.beq u v with
  |true=>
   rw[hb] at ed
   obtain rfl:=Nat.eq_of_beq_eq_true hb
   cases ed
   exact(Ac hx.isPlain).2 hx
  |false=>rw[hb] at ed;exact h.slots v z ed,h.hp,h.st,h.tm⟩
theorem Agh {x:A} (h:XC x=true):x.plain=true:=by cases x<;>first|rfl|cases h
theorem Ajk {x:A} {y:Value} {nx:Nat} (h:XC x=true) (hx:Hv F N nx R x y):∃b,y=.slice b 0 0:=by
 cases x<;>try (cases h;done)
 ·rw[hx.v_inv,G9 h];exact⟨none,rfl⟩
 ·exact hx.nl_inv
theorem Bd9 {x:A} {y:Value} {nx:Nat} (h:A26 x=true) (hx:Hv F N nx R x y):y=.slice none 0 0:=by
 cases x<;>try (cases h;done)
 rw[hx.v_inv,G9 h]
theorem HL.set {nx:Nat} {xs:List A} {vs:List Value} {j:Nat} {y:A} (h:HL F N nx R xs vs) (hy:∀v,vs[j]?=some v→Hv F N nx R y v):HL F N nx R (xs.set j y) vs:=by
 refine HL.of (by rw[List.length_set];exact h.length) fun i x v hx hv=>?_
 by_cases jm:j=i
 ·subst jm
  have ae:j <xs.length:=by have:=(List.getElem?_eq_some_iff.1 hx).1;rwa[List.length_set] at this
  rw[List.getElem?_set_self ae] at hx
  cases hx
  exact hy v hv
 ·rw[List.getElem?_set_ne jm] at hx
  obtain⟨w,h1,h2⟩:=h.get hx
  rw[hv] at h1
  cases h1
  exact h2
theorem Bp.nilRowB {nx:Nat} {o:AE} (h:Bp F N nx o R) (b:Option Addr) {m:Nat} (t:TypeId) (sz:Nat) {els:FY} (he:els.n=0) (hm:nx≤m):
  Bp F (N.setQ m (.slice b 0 0)) (m+1) ((m,some (.arr t sz els))::o) R∧Step F N nx o R F (N.setQ m (.slice b 0 0)) (m+1) ((m,some (.arr t sz els))::o) R:=
 h.nilG _ hm (fun cg=>⟨[],by rw[cg];exact⟨by rw[he];simp,.inl ⟨b,rfl,he⟩⟩,fun j hj=>absurd hj (by omega)⟩) fun cg g hg=>by
  have ah:Hz ((N.setQ m (.slice b 0 0)).q m)=some g:=hg
  rw[cg] at ah
  cases b<;>cases ah
theorem Buy (h:At Z a R s) {d:Dir} {s':St} {ps:List Prop} (he:Afn E s d=some (s',ps)) (hp:∀p∈ps,p):At Z a R s':=by
 obtain⟨F,N,h⟩:=h
 cases d with
 |frz i=>
  obtain⟨F',h'⟩:=Az5 h he hp
  exact⟨F',N,h'⟩
 | nil u t c=>
  unfold Afn at he
  simp only at he
  split at he<;>try (cases he;done)
  rename_i x hx
  cases hn:XC x with
  |false=>rw[hn] at he;cases he
  |true=>
   rw[hn] at he
   cases he
   obtain⟨b,hv⟩:=Ajk hn ((Ac (Agh hn)).1 (h.slots u x hx))
   obtain⟨q1,q2⟩:=h.hp.nilRowB b t (size c) (els:=.ty c []) rfl (Nat.le_refl _)
   have h2:=h.heap q2 q1
   refine⟨_,_,h2.word (u:=u) ?_⟩
   rw[hv]
   have:=Hv.sq (F:=F) (N:=N.setQ s.nx (.slice b 0 0)) (nx:=s.nx+1) (R:=R) (Nat.lt_succ_self s.nx)
   have e:(N.setQ s.nx (.slice b 0 0)).q s.nx=.slice b 0 0:=C2 N.q s.nx _
   rw[e] at this
   exact this
 | nilB b j t c=>
  unfold Afn at he
  simp only at he
  split at he<;>try (cases he;done)
  rename_i e cs hl
  split at he<;>try (cases he;done)
  rename_i x hx
  cases hn:A26 x with
  |false=>rw[hn] at he;cases he
  | true=>
   rw[hn] at he
   cases hb:Nat.blt b s.nx with
   |false=>rw[hb] at he;cases he
   | true=>
    rw[hb] at he
    cases he
    have hbn:b <s.nx:=Nat.le_of_ble_eq_true hb
    obtain⟨q1,q2⟩:=h.hp.nilRow t (size c) (els:=.ty c []) rfl (Nat.le_refl _)
    have e0:(N.setQ s.nx (.slice none 0 0)).q s.nx=.slice none 0 0:=C2 N.q s.nx _
    obtain⟨r1,r2⟩:=q1.less (o':=(b,some (.box e (cs.set j (.sq s.nx))))::(s.nx,some (.arr t (size c) (.ty c [])))::s.o) fun i ob hi=>by
     rw[AG] at hi
     by_cases ga:i=b
     ·rw[if_pos ga] at hi
      cases hi
      subst ga
      refine⟨.box e cs,by rw[AG,if_neg (by omega)];exact hl,fun⟨vs,k1,k2⟩=>⟨vs,k1.set fun v hv=>?_,k2⟩,fun g=>Iff.rfl⟩
      obtain⟨w,k3,k4⟩:=k1.get hx
      rw[hv] at k3
      cases k3
      rw[Bd9 hn k4]
      have:=Hv.sq (F:=F) (N:=N.setQ s.nx (.slice none 0 0)) (nx:=s.nx+1) (R:=R) (Nat.lt_succ_self s.nx)
      rw[e0] at this
      exact this
     ·rw[if_neg ga] at hi
      exact⟨ob,hi,id,fun g=>Iff.rfl⟩
    exact⟨_,_,h.heap (q2.trans r2) r1⟩
 | nilF u c=>
  unfold Afn at he
  simp only at he
  split at he<;>try (cases he;done)
  rename_i x hx
  cases hn:XC x with
  |false=>rw[hn] at he;cases he
  |true=>
   rw[hn] at he
   cases he
   obtain⟨b,hv⟩:=Ajk hn ((Ac (Agh hn)).1 (h.slots u x hx))
   exact⟨_,_,h.word (u:=u) (Hv.sl_nil hv)⟩
 | nilFB b j c=>
  unfold Afn at he
  simp only at he
  split at he<;>try (cases he;done)
  rename_i e cs hl
  split at he<;>try (cases he;done)
  rename_i x hx
  cases hn:XC x with
  |false=>rw[hn] at he;cases he
  | true=>
   rw[hn] at he
   cases he
   obtain⟨r1,r2⟩:=h.hp.less (o':=(b,some (.box e (cs.set j (.sl c []))))::s.o) fun i ob hi=>by
    rw[AG] at hi
    by_cases ga:i=b
    ·rw[if_pos ga] at hi
     cases hi
     subst ga
     refine⟨.box e cs,hl,fun⟨vs,k1,k2⟩=>⟨vs,k1.set fun v hv=>?_,k2⟩,fun g=>Iff.rfl⟩
     obtain⟨w,k3,k4⟩:=k1.get hx
     rw[hv] at k3
     cases k3
     obtain⟨b,hb⟩:=Ajk hn k4
     exact Hv.sl_nil hb
    ·rw[if_neg ga] at hi
     exact⟨ob,hi,id,fun g=>Iff.rfl⟩
   exact⟨_,_,h.heap r2 r1⟩
 | seg i p=>
  unfold Afn at he
  simp only at he
  split at he<;>try (cases he;done)
  rename_i e cs hl
  split at he<;>try (cases he;done)
  rename_i xs qs hd
  cases he
  obtain⟨r1,r2⟩:=h.hp.less (o':=(i,some (.rcd e xs))::s.o) fun k ob hi=>by
   rw[AG] at hi
   by_cases ga:k=i
   ·rw[if_pos ga] at hi
    cases hi
    subst ga
    exact⟨.box e cs,hl,fun⟨vs,k1,k2⟩=>⟨vs,ZX k1 hd hp,k2⟩,fun g=>Iff.rfl⟩
   ·rw[if_neg ga] at hi
    exact⟨ob,hi,id,fun g=>Iff.rfl⟩
  exact⟨_,_,h.heap r2 r1⟩
 | ty i c=>
  unfold Afn at he
  simp only at he
  split at he<;>try (cases he;done)
  rename_i e sz els hl
  split at he<;>try (cases he;done)
  rename_i l qs pb
  cases he
  obtain⟨r1,r2⟩:=h.hp.less (o':=(i,some (.arr e sz (.ty c l)))::s.o) fun k ob hi=>by
   rw[AG] at hi
   by_cases ga:k=i
   ·rw[if_pos ga] at hi
    cases hi
    subst ga
    refine⟨.arr e sz els,hl,fun⟨zs,k1,k2⟩=>?_,fun g=>Iff.rfl⟩
    obtain⟨e1,_⟩:=Uj (F:=F) (N:=N) (nx:=s.nx) (R:=R) pb hp
    have hr:=DT.ty (els:=els) ⟨k1.1,k2⟩ pb hp
    have hn:(FY.ty c l).n=els.n:=e1
    exact⟨zs,by rw[hn];exact k1,hr.2⟩
   ·rw[if_neg ga] at hi
    exact⟨ob,hi,id,fun g=>Iff.rfl⟩
  exact⟨_,_,h.heap r2 r1⟩
theorem Bcr:∀{D:List Dir} {s s':St} {ps:List Prop},At Z a R s→adj E D s=some (s',ps)→(∀p∈ps,p)→At Z a R s'
 | [],s,s',ps,h,he,_=>by cases he;exact h
 |d::r,s,s',ps,h,he,hp=>by
  unfold adj at he
  split at he<;>try (cases he;done)
  rename_i s1 du h1
  split at he<;>try (cases he;done)
  rename_i s2 f7 h2
  cases he
  exact Bcr (Buy h h1 fun p hm=>hp p (List.mem_append.2 (.inl hm))) h2 fun p hm=>hp p (List.mem_append.2 (.inr hm))
theorem Bh6:∀{D:List Dir} {s s':St} {ps:List Prop},adj E D s=some (s',ps)→Sub s s'
 | [],s,s',ps,he=>by cases he;exact Sub.refl _
 | d::r,s,s',ps,he=>by
  unfold adj at he
  split at he<;>try (cases he;done)
  rename_i s1 du h1
  split at he<;>try (cases he;done)
  rename_i s2 f7 h2
  cases he
  refine Sub.trans ?_ (Bh6 h2)
  cases d with
  |frz i=>exact⟨(Adh h1).1,(Adh h1).2⟩
  |nil u t c=>
   unfold Afn at h1
   simp only at h1
   split at h1<;>try (cases h1;done)
   replace h1:=C6 h1
   cases h1
   exact⟨rfl,[_],rfl⟩
  |nilB b j t c=>
   unfold Afn at h1
   simp only at h1
   split at h1<;>try (cases h1;done)
   split at h1<;>try (cases h1;done)
   replace h1:=C6 (C6 h1)
   cases h1
   exact⟨rfl,[_,_],rfl⟩
  |nilF u c=>
   unfold Afn at h1
   simp only at h1
   split at h1<;>try (cases h1;done)
   replace h1:=C6 h1
   cases h1
   exact⟨rfl,[],rfl⟩
  |nilFB b j c=>
   unfold Afn at h1
   simp only at h1
   split at h1<;>try (cases h1;done)
   split at h1<;>try (cases h1;done)
   replace h1:=C6 h1
   cases h1
   exact⟨rfl,[_],rfl⟩
  |seg i p=>
   unfold Afn at h1
   simp only at h1
   split at h1<;>try (cases h1;done)
   split at h1<;>try (cases h1;done)
   cases h1
   exact⟨rfl,[_],rfl⟩
  |ty i c=>
   unfold Afn at h1
   simp only at h1
   split at h1<;>try (cases h1;done)
   split at h1<;>try (cases h1;done)
   cases h1
   exact⟨rfl,[_],rfl⟩
end
def okL (nb nx1:Nat):Jy→Bool
 | []=>true
 |(k,j)::r=>Nat.blt j nx1&&((bif Nat.blt j nb then Nat.beq k j else true)&&(isNone (fwd r k)&&(isNone (bck r j)&&okL nb nx1 r)))
theorem A22 {nb nx1:Nat}:∀{L:Jy} {i j:Nat},okL nb nx1 L=true→fwd L i=some j→bck L j=some i∧j <nx1∧(j <nb→i=j)
 | [],i,j,_,h=>by cases h
 | (k,m)::r,i,j,h0,h=>by
  unfold okL at h0
  simp only[Bool.and_eq_true] at h0
  obtain⟨a1,a2,a3,a4,a5⟩:=h0
  unfold fwd at h
  cases hb:Nat.beq k i with
  | true=>
   rw[hb] at h
   cases h
   obtain rfl:=Nat.eq_of_beq_eq_true hb
   refine⟨?_,Nat.le_of_ble_eq_true a1,fun ae=>?_⟩
   ·unfold bck
    rw[QD]
    rfl
   ·rw[show Nat.blt m nb=true from Nat.ble_eq_true_of_le ae] at a2
    exact Nat.eq_of_beq_eq_true a2
  | false=>
   rw[hb] at h
   obtain⟨h1,h2⟩:=A22 a5 h
   refine⟨?_,h2⟩
   unfold bck
   cases hm:Nat.beq m j with
   |true=>
    obtain rfl:=Nat.eq_of_beq_eq_true hm
    rw[Adl.1 a4] at h1
    cases h1
   |false=>exact h1
def Apm (nb:Nat) (L:Jy) (j:Nat):Nat:=bif Nat.blt j nb then j else match bck L j with
 |some k=>k
 |none=>0
def nm3 (N:Nm) (nb:Nat) (L:Jy):Nm:=⟨fun j=>N.b (Apm nb L j),fun j=>N.q (Apm nb L j)⟩
theorem Brh {nb nx1:Nat} {L:Jy} (h0:okL nb nx1 L=true) {i j:Nat} (h:fwd L i=some j):Apm nb L j=i:=by
 obtain⟨h1,_,h3⟩:=A22 h0 h
 unfold Apm
 cases hb:Nat.blt j nb with
 |true=>exact(h3 (Nat.le_of_ble_eq_true hb)).symm
 |false=>rw[h1];rfl
theorem Vz {nb:Nat} {L:Jy} {j:Nat} (h:j <nb):Apm nb L j=j:=by
 unfold Apm
 rw[show Nat.blt j nb=true from Nat.ble_eq_true_of_le h]
 rfl
theorem pk3 {N:Nm} {nb n nx1:Nat} {L:Jy} (h0:okL nb nx1 L=true):Pk (fwd L) N n (nm3 N nb L) nx1:=fun i j _ hj=>by
 have h1:=Brh h0 hj
 exact⟨(A22 h0 hj).2.1,by show N.b (Apm nb L j)=_;rw[h1],by show N.q (Apm nb L j)=_;rw[h1]⟩
def getD (u:Nat) (t:Gc):A:=match DV u t with
 |some x=>x
 |none=> .dead
def Bj8 (L:Jy) (t:Gc):List Nat→Gc
 | []=>[]
 |u::r=>(u,(getD u t).pk (fwd L))::Bj8 L t r
def XX (L:Jy) (o:AE):List Nat→AE
 | []=>[]
 | i::r=>match fwd L i with
  |some j=>(j,match Ai i o with
   |some ob=>some (ob.pk (fwd L))
   |none=>none)::XX L o r
  |none=>XX L o r
def Bj7 (nx1:Nat) (L:Jy) (us os:List Nat) (s:St):St:=⟨s.n,nx1,Bj8 L s.t us,XX L s.o os⟩
section
variable {Z:FG} {F:Nat→Prop} {N N':Nm} {nx nx':Nat} {s:St} {a:Act} {R:World} {tm:Nat→Value} {ρ:Nat→Option Nat}
theorem HS.pk (st:Pk ρ N nx N' nx'):∀{x:A} {y:Value},HS F N nx R tm x y→HS F N' nx' R tm (x.pk ρ) y
 | .opt u b x,y,h=>by
  unfold A.pk
  simp only[HS] at h⊢
  exact⟨fun hb=>HS.pk st (h.1 hb),h.2⟩
 | .v _,_,h=>(Ac (by unfold A.pk;rfl)).2 (((Ac rfl).1 h).pk st)
 | .sl _ _,_,h=>(Ac (by unfold A.pk;rfl)).2 (((Ac rfl).1 h).pk st)
 | .ref _,_,h=>(Ac (by unfold A.pk;rfl)).2 (((Ac rfl).1 h).pk st)
 | .nl,_,h=>(Ac (by unfold A.pk;rfl)).2 (((Ac rfl).1 h).pk st)
 | .it _ _,_,h=>(Ac (by unfold A.pk;rfl)).2 (((Ac rfl).1 h).pk st)
 | .fn _ _ _,_,h=>(Ac (by unfold A.pk;rfl)).2 (((Ac rfl).1 h).pk st)
 | .agg _,_,h=>(Ac (by unfold A.pk;rfl)).2 (((Ac rfl).1 h).pk st)
 | .tup _,_,h=>(Ac (by unfold A.pk;rfl)).2 (((Ac rfl).1 h).pk st)
 | .dead,_,h=>(Ac (by unfold A.pk;rfl)).2 (((Ac rfl).1 h).pk st)
 | .own _ _,_,h=>(Ac (((Ac rfl).1 h).pk st).isPlain).2 (((Ac rfl).1 h).pk st)
 | .ownx _ _ _ _,_,h=>(Ac (((Ac rfl).1 h).pk st).isPlain).2 (((Ac rfl).1 h).pk st)
 | .sq _,_,h=>(Ac (((Ac rfl).1 h).pk st).isPlain).2 (((Ac rfl).1 h).pk st)
 | .dq _,_,h=>(Ac (((Ac rfl).1 h).pk st).isPlain).2 (((Ac rfl).1 h).pk st)
 | .iv _ _,_,h=>(Ac (((Ac rfl).1 h).pk st).isPlain).2 (((Ac rfl).1 h).pk st)
 | .de _ _ _ _,_,h=>(Ac (((Ac rfl).1 h).pk st).isPlain).2 (((Ac rfl).1 h).pk st)
 | .ie _ _ _ _ _,_,h=>(Ac (((Ac rfl).1 h).pk st).isPlain).2 (((Ac rfl).1 h).pk st)
 | .vw _ _ _ _ _,_,h=>(Ac (((Ac rfl).1 h).pk st).isPlain).2 (((Ac rfl).1 h).pk st)
 | .el _ _ _ _,_,h=>(Ac (((Ac rfl).1 h).pk st).isPlain).2 (((Ac rfl).1 h).pk st)
 | .mp _,_,h=>(Ac (((Ac rfl).1 h).pk st).isPlain).2 (((Ac rfl).1 h).pk st)
 | .av _ _ _,_,h=>(Ac (by unfold A.pk;rfl)).2 (((Ac rfl).1 h).pk st)
 | .rv _,_,h=>(Ac (by unfold A.pk;rfl)).2 (((Ac rfl).1 h).pk st)
 | .vr _ _ _ _,_,h=>(Ac (((Ac rfl).1 h).pk st).isPlain).2 (((Ac rfl).1 h).pk st)
 | .vd _ _ _ _,_,h=>(Ac (((Ac rfl).1 h).pk st).isPlain).2 (((Ac rfl).1 h).pk st)
 | .yl _,_,h=>(Ac (((Ac rfl).1 h).pk st).isPlain).2 (((Ac rfl).1 h).pk st)
theorem Ath {L:Jy} {t:Gc} {u:Nat} {x:A}:∀{us:List Nat},DV u (Bj8 L t us)=some x→x=(getD u t).pk (fwd L)
 | [],h=>by cases h
 |v::r,h=>by
  have h':(bif Nat.beq v u then some ((getD v t).pk (fwd L)) else DV u (Bj8 L t r))=some x:=h
  cases hb:Nat.beq v u with
  |true=>rw[hb] at h';obtain rfl:=Nat.eq_of_beq_eq_true hb;cases h';rfl
  |false=>rw[hb] at h';exact Ath h'
theorem SN {L:Jy} {o:AE} {j:Nat} {aj:Ob}:∀{os:List Nat},Ai j (XX L o os)=some aj→∃i ob,i∈os∧fwd L i=some j∧Ai i o=some ob∧aj=ob.pk (fwd L)
 | [],h=>by cases h
 | i::r,h=>by
  unfold XX at h
  cases hf:fwd L i with
  |none=>
   rw[hf] at h
   obtain⟨i',ob,h1,h2⟩:=SN h
   exact⟨i',ob,List.mem_cons_of_mem _ h1,h2⟩
  | some m=>
   rw[hf] at h
   have h':(bif Nat.beq m j then(match Ai i o with|some ob=>some (ob.pk (fwd L))|none=>none) else Ai j (XX L o r))=some aj:=h
   cases hb:Nat.beq m j with
   |true=>
    rw[hb] at h'
    obtain rfl:=Nat.eq_of_beq_eq_true hb
    simp only[cond_true] at h'
    split at h'<;>first|(cases h';done)|skip
    rename_i ob gb
    cases h'
    exact⟨i,ob,List.mem_cons_self ..,hf,gb,rfl⟩
   |false=>
    rw[hb] at h'
    obtain⟨i',ob,h1,h2⟩:=SN h'
    exact⟨i',ob,List.mem_cons_of_mem _ h1,h2⟩
theorem Bi5 (h:Rel Z F N s a R) (u:Nat):HS F N s.nx R (BH a) (getD u s.t) (BH a u):=by
 unfold getD
 split
 ·rename_i x hx;exact h.slots u x hx
 ·exact(Ac rfl).2 (.dead _)
theorem Rel.pick (h:Rel Z F N s a R) {nb nx1:Nat} {L:Jy} (h0:okL nb nx1 L=true) (hz:Z.nx≤nb) (yr:Z.nx≤nx1) (us os:List Nat):Rel Z F (nm3 N nb L) (Bj7 nx1 L us os s) a R∧∀g,Gb (nm3 N nb L) (Bj7 nx1 L us os s).o g→Gb N s.o g:=by
 obtain⟨q1,q2⟩:=h.hp.pk (o':=XX L s.o os) (pk3 (N:=N) (n:=s.nx) h0) fun j aj hj=>by
  obtain⟨i,ob,_,h1,h2⟩:=SN hj
  exact⟨i,ob,h1,h2⟩
 refine⟨⟨h.defers,h.size,fun u x hu=>?_,q1,⟨yr,fun i hi=>?_,fun i hi=>?_,h.st.f,h.st.fnew,fun g hg=>h.st.foot g (q2 g hg),h.st.os,h.st.tape,h.st.output,h.st.size,h.st.keep⟩,h.tm⟩,q2⟩
 ·rw[Ath hu]
  exact(Bi5 h u).pk (pk3 h0)
 ·show N.b (Apm nb L i)=_
  rw[Vz (by omega)]
  exact h.st.b i hi
 ·show N.q (Apm nb L i)=_
  rw[Vz (by omega)]
  exact h.st.q i hi
end
def Bj5 (t:Gc):List Nat→Gc
 | []=>[]
 |u::r=>(u,getD u t)::Bj5 t r
def Ams (o:AE):List Nat→AE
 | []=>[]
 |i::r=>(i,Ai i o)::Ams o r
def Aug (us os:List Nat) (s:St):St:=⟨s.n,s.nx,Bj5 s.t us,Ams s.o os⟩
def Pr (us os:List Nat):BD→BD
 | []=>[]
 |(t,c,s)::r=>(t,c,Aug us os s)::Pr us os r
structure Em where
 nb:Nat
 nx1:Nat
 us:List Nat
 dirs:List Dir
 ren:Jy
 os:List Nat
 usO:List Nat
 osO:List Nat
def Avz (E:Env) (u:Nat) (b:Code) (S:Em) (s:St):Option (List Prop×BD×El×St):=
 let r:=RJ E u 0 b false s
 match r.nrm with
 |some s1=>match adj E S.dirs s1 with
  |some (s2,qs)=>some (r.ps++Us (Bl0 (M2 r.outs)) qs,Pr S.usO S.osO r.outs,M2 r.outs,Bj7 S.nx1 S.ren S.us S.os s2)
  |none=>none
 |none=>none
section
variable {X:Type} (next:X→X) (goes:X→El)
def Bh:Nat→X→X
 |0,x=>x
 |n+1,x=>bif BJ (goes x) then Bh n (next x) else x
def A8 (ps:X→List Prop):Nat→X→Prop
 |0,x=>(∀p∈ps x,p)∧BJ (goes x)=false
 |n+1,x=>(∀p∈ps x,p)∧(BJ (goes x)=true→A8 ps n (next x))
end
section
variable {Z:FG} {F:Nat→Prop} {N:Nm} {s:St} {a:Act} {R:World}
theorem Atg {t:Gc} {u:Nat} {x:A}:∀{us:List Nat},DV u (Bj5 t us)=some x→x=getD u t
 | [],h=>by cases h
 |v::r,h=>by
  have h':(bif Nat.beq v u then some (getD v t) else DV u (Bj5 t r))=some x:=h
  cases hb:Nat.beq v u with
  |true=>rw[hb] at h';obtain rfl:=Nat.eq_of_beq_eq_true hb;cases h';rfl
  |false=>rw[hb] at h';exact Atg h'
theorem Pq {o:AE} {i:Nat} {ob:Ob}:∀{os:List Nat},Ai i (Ams o os)=some ob→Ai i o=some ob∧i∈os
 | [],h=>by cases h
 |k::r,h=>by
  have h':(bif Nat.beq k i then Ai k o else Ai i (Ams o r))=some ob:=h
  cases hb:Nat.beq k i with
  |true=>rw[hb] at h';obtain rfl:=Nat.eq_of_beq_eq_true hb;exact⟨h',List.mem_cons_self ..⟩
  |false=>rw[hb] at h';exact⟨(Pq h').1,List.mem_cons_of_mem _ (Pq h').2⟩
theorem Rel.part (h:Rel Z F N s a R) (us os:List Nat):Rel Z F N (Aug us os s) a R:=by
 have ho:∀i ob,Ai i (Ams s.o os)=some ob→Ai i s.o=some ob:=fun i ob hi=>(Pq hi).1
 refine⟨h.defers,h.size,fun u x hu=>?_,h.hp.weak ho,h.st.trans (Step.weak ho),h.tm⟩
 rw[Atg hu]
 exact Bi5 h u
theorem Ur {us os:List Nat} {t:Tag}:∀{o:BD},A7 t (Pr us os o)=match A7 t o with|some (c,s)=>some (c,Aug us os s)|none=>none
 | []=>rfl
 |(k,c,s)::r=>by
  show(bif Gn k t then some (c,Aug us os s) else A7 t (Pr us os r))=match(bif Gn k t then some (c,s) else A7 t r) with|some (c,s)=>some (c,Aug us os s)|none=>none
  cases Gn k t with
  |true=>rfl
  |false=>exact Ur
theorem Marks.less {n:Nat} {F:Nat→Prop} {N N':Nm} {o o':AE} {R:World} {ms:List Deferred} (h:Marks n F N o R ms) (hf:∀g,Gb N' o' g→Gb N o g):Marks n F N' o' R ms:=
 ⟨h.1,fun d hd=>let⟨D,e,h1,h2,h3,h4⟩:=h.2 d hd;⟨D,e,h1,h2,fun hg=>h3 (hf D hg),h4⟩⟩
theorem Qy.lift {Z:FG} {a:Act} {R:World} {s s':St} (h:Qy Z a R s) (hf:∀Z',At Z' a R s→At Z' a R s'):Qy Z a R s':=by
 obtain⟨ms,F,N,h,hm⟩:=h
 obtain⟨F1,N1,h1⟩:=hf _ ⟨F,N,h.start []⟩
 exact⟨ms,F1,N1,h.over h1 (fun u hu=>by cases hu),hm.step h1.st⟩
theorem Bwh {E:Env} (ok:Ou E) {u:Nat} {b:Code} {S:Em} {X:Type} {T:X→St} {next:X→X} {goes:X→El} {psA ps:X→List Prop} {outs:X→BD} (hS:okL S.nb S.nx1 S.ren=true) (iz:S.nb≤S.nx1) (hr:∀x,Avz E u b S (T x)=some (psA x,outs x,goes x,T (next x))) (hA:∀x,(∀p∈ps x,p)→∀p∈psA x,p) {Z:FG} (hz:Z.nx≤S.nb) (hW:∀u,QS u (RI b)=true→Z.W u) {Q:Exit→Act→World→Prop}:∀(n:Nat) (x:X) (a:Act) (R:World),Qy Z a R (T x)→A8 next goes ps n x→
   (∀e y a' R',Oc ⟨[],outs (Bh next goes n x),none⟩ e y→Qy Z a' R' y→Q e a' R')→ZV E.ir E.P b Q (n+1) a R:=by
 intro n
 induction n with
 | zero=>
  intro x a R h hn hk
  obtain⟨h1,h2⟩:=hn
  have hx:=hr x
  unfold Avz at hx
  simp only at hx
  split at hx<;>try (cases hx;done)
  rename_i s1 lf
  split at hx<;>try (cases hx;done)
  rename_i s2 qs qe
  injection hx with hx
  injection hx with e1 hx
  injection hx with e2 hx
  injection hx with e3 e4
  replace h1:=hA x h1
  rw[←e1] at h1
  refine IM ok 0 b false Z (T x) a R _ h hW (Ov h1).1 fun e y a' R' ho hy=>?_
  have hwf:=FJ ok (u:=u) 0 b false (T x)
  rcases ho with⟨t,cc,rfl,g1,g2,g3⟩|⟨rfl,g1,g2⟩
  ·have:Oc ⟨[],outs x,none⟩ (Tag.ex t) (Aug S.usO S.osO y):=by
    rw[←e2]
    refine .inl ⟨t,cc,rfl,by show A7 t (Pr _ _ _)=_;rw[Ur,g1],g2,fun t' c' s' ao hg=>?_⟩
    have ah:A7 t' (Pr S.usO S.osO (RJ E u 0 b false (T x)).outs)=some (c',s'):=hg
    rw[Ur] at ah
    cases h5:A7 t' (RJ E u 0 b false (T x)).outs with
    |none=>rw[h5] at ah;cases ah
    |some z=>obtain⟨c1,z⟩:=z;rw[h5] at ah;cases ah;exact g3 t' _ z ao h5
   have:=hk _ _ a' R' this (hy.lift fun Z' ⟨F,N,h⟩=>⟨F,N,h.part _ _⟩)
   cases t<;>exact this
  ·exfalso
   have:=RN hwf.once g2
   rw[e3,h2] at this
   cases this
 | succ n ih=>
  intro x a R h hn hk
  obtain⟨h1,h2⟩:=hn
  have hx:=hr x
  unfold Avz at hx
  simp only at hx
  split at hx<;>try (cases hx;done)
  rename_i s1 lf
  split at hx<;>try (cases hx;done)
  rename_i s2 qs qe
  injection hx with hx
  injection hx with e1 hx
  injection hx with e2 hx
  injection hx with e3 e4
  replace h1:=hA x h1
  rw[←e1] at h1
  refine IM ok 0 b false Z (T x) a R _ h hW (Ov h1).1 fun e y a' R' ho hy=>?_
  have hwf:=FJ ok (u:=u) 0 b false (T x)
  rcases ho with⟨t,cc,rfl,g1,g2,g3⟩|⟨rfl,g1,g2⟩
  ·have hc:BJ (goes x)=false:=by rw[←e3];exact Ajt g1 g2
   have hi:Bh next goes (n+1) x=x:=by unfold Bh;rw[hc];rfl
   rw[hi] at hk
   have:Oc ⟨[],outs x,none⟩ (Tag.ex t) (Aug S.usO S.osO y):=by
    rw[←e2]
    refine .inl ⟨t,cc,rfl,by show A7 t (Pr _ _ _)=_;rw[Ur,g1],g2,fun t' c' s' ao hg=>?_⟩
    have ah:A7 t' (Pr S.usO S.osO (RJ E u 0 b false (T x)).outs)=some (c',s'):=hg
    rw[Ur] at ah
    cases h5:A7 t' (RJ E u 0 b false (T x)).outs with
    |none=>rw[h5] at ah;cases ah
    |some z=>obtain⟨c1,z⟩:=z;rw[h5] at ah;cases ah;exact g3 t' _ z ao h5
   have:=hk _ _ a' R' this (hy.lift fun Z' ⟨F,N,h⟩=>⟨F,N,h.part _ _⟩)
   cases t<;>exact this
  ·have hc:BJ (goes x)=true:=by rw[←e3];exact RN hwf.once g2
   have hi:Bh next goes (n+1) x=Bh next goes n (next x):=by
    show(bif BJ (goes x) then _ else _)=_
    rw[hc];rfl
   rw[hi] at hk
   rw[lf] at g1
   obtain rfl:=Option.some.inj g1
   have hq:∀p∈qs,p:=NK (Ov h1).2 (A2b (by rw[e3];exact hc))
   obtain⟨ms,F,N,h3,hm⟩:=hy.lift fun Z' h=>Bcr h qe hq
   obtain⟨h4,h5⟩:=h3.pick hS hz (Nat.le_trans hz iz) S.us S.os
   have ky:=hm.less h5
   rw[e4] at h4 ky
   exact ih (next x) a' R' ⟨ms,F,_,h4,ky⟩ (h2 hc) hk
end
def NH (l:Nat):Code→Option Code
 | .seq a b=>match NH l a with
  |some c=>some c
  |none=>NH l b
 | .cond _ a b=>match NH l a with
  |some c=>some c
  |none=>NH l b
 | .block id b=>match Nat.beq id l,b with
  |true,.loop c=>some c
  |_,_=>NH l b
 | .loop b=>NH l b
 | .scope b=>NH l b
 | .rangeFunc _ _ _ b=>NH l b
 |_=>none
def Aw (P:Program) (f:FuncId) (l:Nat):Code:=match P.funcs[f]? with
 | some fn=>match fn.body with
  |some c=>match NH l c with
   |some b=>b
   |none=> .skip
  |none=> .skip
 |none=> .skip
def Bpc (l0:Nat) (g:St→Option (Code×List Prop×BD)) (L:WX):WX:=fun l s=>bif Nat.beq l l0 then(bif Nat.ble rfK l then none else g s) else L l s
def Bpe (l0:Nat) (g:St→Option (Code×List Prop×BD)) (L:WX):WX:=fun l s=>bif Nat.beq l (rfK+l0) then g s else L l s
def Af4:List Nat→Gc
 | []=>[]
 |u::r=>(u,.dead)::Af4 r
def Atm:List Nat→AE
 | []=>[]
 |i::r=>(i,none)::Atm r
def Xk (W os:List Nat) (sA st:St):St:=⟨sA.n,st.nx,st.t++(Af4 W++XF W sA.t),st.o++(Atm os++sA.o)⟩
def Pm (W os:List Nat) (sA:St):BD→BD
 | []=>[]
 |(t,c,s)::r=>(t,c,Xk W os sA s)::Pm W os sA r
structure EQ where
 dirs:List Dir
 ren:Jy
 us:List Nat
 os:List Nat
def Jt (E:Env) (b:Code) (S:Em) (En:EQ) {X:Type} (mz:St→Option X) (fuel:X→Nat) (next:X→X) (goes:X→El) (ps:X→List Prop) (outs:X→BD) (s:St):Option (Code×List Prop×BD):=
 match adj E En.dirs s with
 |some (sA,qs)=>bif Nat.beq sA.nx S.nb then(bif okL S.nb S.nx1 En.ren then(match mz (Bj7 S.nx1 En.ren En.us En.os sA) with
  |some x=>some (b,qs++[A8 next goes ps (fuel x) x],Pm (RI b) En.os sA (outs (Bh next goes (fuel x) x)))
  |none=>none) else none) else none
 |none=>none
section
theorem Bje {u:Nat}:∀{W:List Nat},QS u W=true→DV u (Af4 W)=some .dead
 | [],h=>by cases h
 | k::r,h=>by
  show(bif Nat.beq k u then some A.dead else DV u (Af4 r))=_
  cases hb:Nat.beq k u with
  |true=>rfl
  |false=>
   have h':(bif Nat.beq k u then true else QS u r)=true:=h
   rw[hb] at h'
   exact Bje h'
theorem Atf {u:Nat} {x:A}:∀{W:List Nat},DV u (Af4 W)=some x→x=.dead
 | [],h=>by cases h
 |k::r,h=>by
  have h':(bif Nat.beq k u then some A.dead else DV u (Af4 r))=some x:=h
  cases hb:Nat.beq k u with
  |true=>rw[hb] at h';cases h';rfl
  |false=>rw[hb] at h';exact Atf h'
theorem XI {i:Nat}:∀{os:List Nat},Ai i (Atm os)=none
 | []=>rfl
 |k::r=>by
  show(bif Nat.beq k i then none else Ai i (Atm r))=none
  cases Nat.beq k i with
  |true=>rfl
  |false=>exact XI
theorem Ami {i:Nat}:∀{os:List Nat},i∈os→i∈MG (Atm os)
 | [],h=>by cases h
 |k::r,h=>by
  rcases List.mem_cons.1 h with rfl|h
  ·exact List.mem_cons_self ..
  ·exact List.mem_cons_of_mem _ (Ami h)
theorem Up {W os:List Nat} {sA:St} {t:Tag}:∀{o:BD},A7 t (Pm W os sA o)=match A7 t o with|some (c,s)=>some (c,Xk W os sA s)|none=>none
 | []=>rfl
 |(k,c,s)::r=>by
  show(bif Gn k t then some (c,Xk W os sA s) else A7 t (Pm W os sA r))=match(bif Gn k t then some (c,s) else A7 t r) with|some (c,s)=>some (c,Xk W os sA s)|none=>none
  cases Gn k t with
  |true=>rfl
  |false=>exact Up
theorem A0s {W os:List Nat} {sA:St}:∀{o:BD},Qz o→Qz (Pm W os sA o)
 | [],_=>trivial
 |(k,c,s)::r,⟨h1,h2⟩=>⟨by rw[Up,h1],A0s h2⟩
theorem Bu9 {Z:FG} {F F':Nat→Prop} {N N':Nm} {sA st:St} {a a':Act} {R R':World} {nb nx1:Nat} {L:Jy} {os W:List Nat} (h:Rel Z F N sA a R) (hn:st.n=sA.n) (hW:∀u,QS u W=true→Z.W u) (iz:sA.nx=nb) (hL:okL nb nx1 L=true) (h':Rel ⟨F,nm3 N nb L,nb,XX L sA.o os,R,BH a,fun u=>QS u W=true,a.defers⟩ F' N' st a' R'):Rel Z F' N' (Xk W os sA st) a' R'∧Step F N sA.nx sA.o R F' N' (Xk W os sA st).nx (Xk W os sA st).o R'∧∀g,Gb N' (Xk W os sA st).o g→Gb N' st.o g∨g <R.heap.size:=by
 subst iz
 let o1:=Ams sA.o os
 have ho1:∀i ob,Ai i o1=some ob→Ai i sA.o=some ob:=fun i ob hi=>(Pq hi).1
 have aw:∀g,Gb (nm3 N sA.nx L) (XX L sA.o os) g→Gb N o1 g:=fun g ⟨j,aj,hj,hg⟩=>by
  obtain⟨i,ob,hi,h1,h2,rfl⟩:=SN hj
  have ae:=(h.hp.ob i ob h2).1
  refine⟨i,ob,?_,(Agc (pk3 (N:=N) (n:=sA.nx) hL) ae h1).1 hg⟩
  have:∀{l:List Nat},i∈l→Ai i (Ams sA.o l)=Ai i sA.o:=fun {l}=>by
   induction l with
   |nil=>intro hm;cases hm
   | cons k r ih=>
    intro hm
    show(bif Nat.beq k i then Ai k sA.o else Ai i (Ams sA.o r))=_
    cases hb:Nat.beq k i with
    |true=>rw[Nat.eq_of_beq_eq_true hb];rfl
    |false=>
     rcases List.mem_cons.1 hm with rfl|hm
     ·simp at hb
     ·exact ih hm
  rw[this hi]
  exact h2
 have zd:Step F N sA.nx o1 R F' N' st.nx st.o R':=⟨h'.st.le,fun i hi=>by
   have:=h'.st.b i hi
   rw[this]
   show N.b (Apm sA.nx L i)=_
   rw[Vz hi],fun i hi=>by
   have:=h'.st.q i hi
   rw[this]
   show N.q (Apm sA.nx L i)=_
   rw[Vz hi],h'.st.f,fun g hg=>by
   rcases h'.st.fnew g hg with h1|h1|h1
   ·exact .inl h1
   ·exact .inr (.inl (aw g h1))
   ·exact .inr (.inr h1),fun g hg=>by
   rcases h'.st.foot g hg with h1|h1
   ·exact .inl (aw g h1)
   ·exact .inr h1,h'.st.os,h'.st.tape,h'.st.output,h'.st.size,fun g hg hn=>h'.st.keep g hg fun hf=>hn (aw g hf)⟩
 obtain⟨q1,q2⟩:=h.hp.frame (o':=st.o++(Atm os++sA.o)) ho1 zd h'.hp fun i ob hi=>by
  rcases Ld hi with⟨_,h1⟩|⟨_,h1⟩
  ·exact .inl h1
  ·rcases Ld h1 with⟨_,h2⟩|⟨h2,h3⟩
   ·rw[XI] at h2;cases h2
   ·refine .inr ⟨h3,?_⟩
    cases h4:Ai i o1 with
    |none=>rfl
    |some pf=>exact absurd (Ami (Pq h4).2) h2
 have o9:∀u,QS u W=false→BH a' u=BH a u:=fun u hu=>h'.tm u fun hh=>by
  have mc:QS u W=true:=hh
  rw[hu] at mc;cases mc
 refine⟨⟨h'.defers.trans h.defers,h'.size.trans hn,fun u x hu=>?_,q1,h.st.trans q2,fun u hu=>?_⟩,q2,fun g ⟨i,ob,hi,hg⟩=>?_⟩
 rotate_left 2
 ·rcases Ld hi with⟨_,h1⟩|⟨_,h1⟩
  ·exact .inl ⟨i,ob,h1,hg⟩
  ·rcases Ld h1 with⟨_,h2⟩|⟨h2,h3⟩
   ·rw[XI] at h2;cases h2
   ·obtain⟨k1,k2⟩:=h.hp.ob i ob h3
    exact .inr (k2.lt ((ER (q2.ext h.hp) k1).1 hg))
 ·have gu:DV u (st.t++(Af4 W++XF W sA.t))=some x:=hu
  rw[SO] at gu
  cases h1:DV u st.t with
  |some y=>rw[h1] at gu;cases gu;exact h'.slots u x h1
  | none=>
   rw[h1] at gu
   have hu2:DV u (Af4 W++XF W sA.t)=some x:=gu
   rw[SO] at hu2
   cases h2:DV u (Af4 W) with
   |some y=>rw[h2] at hu2;cases hu2;rw[Atf h2];exact(Ac rfl).2 (.dead _)
   | none=>
    rw[h2] at hu2
    have yo:DV u (XF W sA.t)=some x:=hu2
    have hw:QS u W=false:=by
     cases hw:QS u W with
     |false=>rfl
     |true=>rw[Bje hw] at h2;cases h2
    rcases VA yo with rfl|⟨k1,k2⟩
    ·exact(Ac rfl).2 (.dead _)
    ·rw[o9 u hw]
     exact HS.congrW o9 k2 ((h.slots u x k1).step (q2.ext h.hp))
 ·rw[h'.tm u fun hw=>hu (hW u hw)]
  exact h.tm u hu
theorem Bxh {E:Env} (ok:Ou E) {u:Nat} {b:Code} {S:Em} {En:EQ} {X:Type} {T:X→St} {mz:St→Option X} {fuel:X→Nat} {next:X→X} {goes:X→El} {psA ps:X→List Prop} {outs:X→BD} (hS:okL S.nb S.nx1 S.ren=true) (iz:S.nb≤S.nx1) (hr:∀x,Avz E u b S (T x)=some (psA x,outs x,goes x,T (next x))) (hA:∀x,(∀p∈ps x,p)→∀p∈psA x,p) (hu:∀s x,mz s=some x→s=T x) (hw:∀x,Qz (outs x)∧∀t c y,A7 t (outs x)=some (c,y)→y.n=(T x).n) (q9:∀x y,(T x).n=(T y).n) {s:St} {b0:Code} {qs:List Prop} {os:BD} (he:Jt E b S En mz fuel next goes ps outs s=some (b0,qs,os)):
  Wf s ⟨qs,os,none⟩∧Art E b0 s qs os:=by
 unfold Jt at he
 split at he<;>try (cases he;done)
 rename_i sA du ud
 cases jo:Nat.beq sA.nx S.nb with
 |false=>rw[jo] at he;cases he
 | true=>
  cases ka:okL S.nb S.nx1 En.ren with
  |false=>rw[jo,ka] at he;cases he
  | true=>
   rw[jo,ka] at he
   simp only[cond_true] at he
   split at he<;>try (cases he;done)
   rename_i x hx
   cases he
   have hnx:=Nat.eq_of_beq_eq_true jo
   have hT:=hu _ _ hx
   have hsub:=Bh6 ud
   have yf:∀y,(T y).n=sA.n:=fun y=>by rw[q9 y x,←hT];rfl
   refine⟨⟨fun t c y hy=>?_,fun y hy=>(by cases hy),A0s (hw _).1⟩,?_⟩
   ·have fv:A7 t (Pm (RI b) En.os sA (outs (Bh next goes (fuel x) x)))=some (c,y):=hy
    rw[Up] at fv
    split at fv<;>first|(cases fv;done)|skip
    cases fv
    obtain⟨d,hd⟩:=hsub.seq
    exact⟨hsub.n,by show ∃d,_++(Atm En.os++sA.o)=d++s.o;rw[hd];exact⟨_,by rw[←List.append_assoc,←List.append_assoc]⟩⟩
   ·intro Z a R Q h hW hp hk
    have d7:∀p∈du,p:=fun p hm=>hp p (List.mem_append.2 (.inl hm))
    have fh:A8 next goes ps (fuel x) x:=hp _ (List.mem_append.2 (.inr (List.mem_singleton.2 rfl)))
    obtain⟨ms,F1,N1,h1,se⟩:=h.lift fun Z' h=>Bcr h ud d7
    obtain⟨hpick,_⟩:=(h1.start (RI b)).pick (L:=En.ren) ka (by show sA.nx≤S.nb;omega) (by show sA.nx≤S.nx1;omega) En.us En.os
    have hrel:Rel ⟨F1,nm3 N1 S.nb En.ren,S.nb,XX En.ren sA.o En.os,R,BH a,fun u=>QS u (RI b)=true,a.defers⟩ F1 (nm3 N1 S.nb En.ren) (T x) a R:=by
     rw[←hT]
     exact⟨hpick.defers,hpick.size,hpick.slots,hpick.hp,⟨iz,fun _ _=>rfl,fun _ _=>rfl,fun _ h=>h,fun _ h=> .inl h,fun _ h=> .inl h,rfl,rfl,rfl,Nat.le_refl _,fun _ _ _=>rfl⟩,fun _ _=>rfl⟩
    refine WW (fuel x+1) (Bwh ok (u:=u) (b:=b) hS iz hr hA (Nat.le_refl _) (fun u hu=>hu) (fuel x) x a R (Qy.of hrel) fh fun e y a' R' ho ⟨td,F2,N2,hy,ox⟩=>?_)
    rcases ho with⟨t,c,rfl,g1,g2,g3⟩|⟨rfl,g1,g2⟩
    ·have kg:A7 t (outs (Bh next goes (fuel x) x))=some (c,y):=g1
     have yc:y.n=sA.n:=by rw[(hw _).2 t c y kg,yf]
     obtain⟨q1,q2,q3⟩:=Bu9 h1 yc hW hnx ka (hy.defs (Z':=⟨F1,nm3 N1 S.nb En.ren,S.nb,XX En.ren sA.o En.os,R,BH a,fun u=>QS u (RI b)=true,a.defers⟩) rfl)
     have xz:Marks R.heap.size F2 N2 (Xk (RI b) En.os sA y).o R' td:=⟨ox.1,fun d hd=>by
      obtain⟨D,e,k1,k2,k3,k4⟩:=ox.2 d hd
      refine⟨D,e,k1,k2,fun hg=>?_,k4⟩
      rcases q3 D hg with hg|hg
      ·exact k3 hg
      ·have k1':R.heap.size≤D:=k1
       omega⟩
     have o5:Qy (LQ F1 N1 sA a R (RI b)) a' R' (Xk (RI b) En.os sA y):=⟨td,F2,N2,⟨hy.defers,q1.size,q1.slots,q1.hp,q2,fun u hu=>hy.tm u hu⟩,xz⟩
     refine hk _ (Xk (RI b) En.os sA y) a' R' (.inl ⟨t,c,rfl,by show A7 t (Pm _ _ _ _)=_;rw[Up,kg],g2,fun t' c' s' ao hg=>?_⟩) (Qy.over h1 se hW o5)
     have ah:A7 t' (Pm (RI b) En.os sA (outs (Bh next goes (fuel x) x)))=some (c',s'):=hg
     rw[Up] at ah
     split at ah<;>first|(cases ah;done)|skip
     rename_i c1 z hz
     cases ah
     exact g3 t' _ z ao hz
    ·cases g1
end
def zc:TC→List Value
 | .u8=>[.int .u8 0]
 | .i64=>[.int .i64 0]
 | .u32=>[.int .u32 0]
 | .bool=>[.bool false]
 | .str=>[.string ByteArray.empty]
 | .bytes=>[.slice none 0 0]
 | .ints=>[.slice none 0 0]
 | .cells=>[.slice none 0 0]
 | .rows=>[.slice none 0 0]
 | .digest=>List.replicate 32 (.int .u8 0)
 |c=>(enc c (Av c)).map fun x=>match x with
  | .v y=>y
  |_=> .slice none 0 0
theorem B6u (c:TC) (F:Nat→Prop) (N:Nm) (nx:Nat) (R:World):HL F N nx R (enc c (Av c)) (zc c):=by
 cases c<;>(repeat' (first|exact HL.nil|exact Hv.v _|exact Hv.sl_nil rfl|apply HL.cons))
def JK (P:Program) (t:TypeId):Option (Nat×Option (List Value)):=(P.info? t).map fun i=>(i.size,i.zero.map fun z=>z.cells.toList)
theorem Bt2 {P:Program} {t:TypeId} {c:TC} (h:JK P t=some (size c,some (zc c))) (h0:0 <size c):∃i,P.info? t=some i∧i.size=size c∧0 <size c∧∃z,i.zero=some z∧∀(F:Nat→Prop) (N:Nm) (nx:Nat) (R:World),HL F N nx R (enc c (Av c)) z.cells.toList:=by
 unfold JK at h
 cases hi:P.info? t with
 |none=>rw[hi] at h;cases h
 | some i=>
  rw[hi] at h
  have h':some (i.size,i.zero.map fun z=>z.cells.toList)=some (size c,some (zc c)):=h
  injection h' with h'
  injection h' with h1 h2
  cases hz:i.zero with
  |none=>rw[hz] at h2;cases h2
  |some z=>
   rw[hz] at h2
   injection h2 with h2
   have h3:z.cells.toList=zc c:=h2
   exact⟨i,rfl,h1,h0,z,hz,fun F N nx R=>by rw[h3];exact B6u c F N nx R⟩
theorem Btk (c:TC):0 <size c:=by cases c<;>decide
def Bca (t:TypeId):Option TC:=bif Nat.beq t 2 then some .i64 else bif Nat.beq t 3 then some .i64 else bif Nat.beq t 4 then some .bool else bif Nat.beq t 5 then some .u8 else bif Nat.beq t 9 then some .str else bif Nat.beq t 24 then some .stamp else bif Nat.beq t 25 then some .vec else bif Nat.beq t 26 then some .vec else bif Nat.beq t 29 then some .change else bif Nat.beq t 30 then some .ints else bif Nat.beq t 32 then some .rows else bif Nat.beq t 34 then some .msg else bif Nat.beq t 37 then some .bytes else bif Nat.beq t 38 then some .i64 else bif Nat.beq t 58 then some .digest else bif Nat.beq t 60 then some .cells else bif Nat.beq t 62 then some .row else bif Nat.beq t 102 then some .write else bif Nat.beq t 104 then some .cell else bif Nat.beq t 106 then some .group else bif Nat.beq t 120 then some .place else bif Nat.beq t 159 then some .u32 else none
theorem Bxt:JK Tryz.prog 2=some (size .i64,some (zc .i64)):=by kernel_rfl
theorem Bxu:JK Tryz.prog 3=some (size .i64,some (zc .i64)):=by kernel_rfl
theorem Bxv:JK Tryz.prog 4=some (size .bool,some (zc .bool)):=by kernel_rfl
theorem Bxw:JK Tryz.prog 5=some (size .u8,some (zc .u8)):=by kernel_rfl
theorem Bxx:JK Tryz.prog 9=some (size .str,some (zc .str)):=by kernel_rfl
theorem Btq:JK Tryz.prog 24=some (size .stamp,some (zc .stamp)):=by kernel_rfl
theorem Btr:JK Tryz.prog 25=some (size .vec,some (zc .vec)):=by kernel_rfl
theorem Bts:JK Tryz.prog 26=some (size .vec,some (zc .vec)):=by kernel_rfl
theorem Btt:JK Tryz.prog 29=some (size .change,some (zc .change)):=by kernel_rfl
theorem Btu:JK Tryz.prog 30=some (size .ints,some (zc .ints)):=by kernel_rfl
theorem Btv:JK Tryz.prog 32=some (size .rows,some (zc .rows)):=by kernel_rfl
theorem Btw:JK Tryz.prog 34=some (size .msg,some (zc .msg)):=by kernel_rfl
theorem Btx:JK Tryz.prog 37=some (size .bytes,some (zc .bytes)):=by kernel_rfl
theorem Bty:JK Tryz.prog 38=some (size .i64,some (zc .i64)):=by kernel_rfl
theorem Btz:JK Tryz.prog 58=some (size .digest,some (zc .digest)):=by kernel_rfl
theorem Bt0:JK Tryz.prog 60=some (size .cells,some (zc .cells)):=by kernel_rfl
theorem Bt1:JK Tryz.prog 62=some (size .row,some (zc .row)):=by kernel_rfl
theorem Bn4:JK Tryz.prog 102=some (size .write,some (zc .write)):=by kernel_rfl
theorem Bn5:JK Tryz.prog 104=some (size .cell,some (zc .cell)):=by kernel_rfl
theorem Bn6:JK Tryz.prog 106=some (size .group,some (zc .group)):=by kernel_rfl
theorem Bn7:JK Tryz.prog 120=some (size .place,some (zc .place)):=by kernel_rfl
theorem Bn8:JK Tryz.prog 159=some (size .u32,some (zc .u32)):=by kernel_rfl
theorem HB {P:Program} {t k:TypeId} {c c0:TC} {r:Option TC} (h:(bif Nat.beq t k then some c0 else r)=some c) (hk:JK P k=some (size c0,some (zc c0))):JK P t=some (size c,some (zc c))∨r=some c:=by
 cases hb:Nat.beq t k with
 |true=>rw[hb] at h;cases h;rw[Nat.eq_of_beq_eq_true hb];exact .inl hk
 |false=>rw[hb] at h;exact .inr h
theorem Awj:B7f Tryz.prog Bca:=fun t c h=>by
 refine Bt2 ?_ (Btk c)
 unfold Bca at h
 rcases HB h Bxt with h|h
 ·exact h
 rcases HB h Bxu with h|h
 ·exact h
 rcases HB h Bxv with h|h
 ·exact h
 rcases HB h Bxw with h|h
 ·exact h
 rcases HB h Bxx with h|h
 ·exact h
 rcases HB h Btq with h|h
 ·exact h
 rcases HB h Btr with h|h
 ·exact h
 rcases HB h Bts with h|h
 ·exact h
 rcases HB h Btt with h|h
 ·exact h
 rcases HB h Btu with h|h
 ·exact h
 rcases HB h Btv with h|h
 ·exact h
 rcases HB h Btw with h|h
 ·exact h
 rcases HB h Btx with h|h
 ·exact h
 rcases HB h Bty with h|h
 ·exact h
 rcases HB h Btz with h|h
 ·exact h
 rcases HB h Bt0 with h|h
 ·exact h
 rcases HB h Bt1 with h|h
 ·exact h
 rcases HB h Bn4 with h|h
 ·exact h
 rcases HB h Bn5 with h|h
 ·exact h
 rcases HB h Bn6 with h|h
 ·exact h
 rcases HB h Bn7 with h|h
 ·exact h
 rcases HB h Bn8 with h|h
 ·exact h
 cases h
theorem eqi (d:Nat) (a b:Int) (w:World):(Op.equalIn (d+1) 3 (.int .i64 a) (.int .i64 b)).run Tryz.prog w=.ok (a==b) w:=run_equalIn_int w d 3 .i64 .i64 a b Tryz.underlying3
theorem eqb (d:Nat) (a b:Bool) (w:World):(Op.equalIn (d+1) 4 (.bool a) (.bool b)).run Tryz.prog w=.ok (a==b) w:=run_equalIn_bool' w d 4 a b Tryz.underlying4
theorem eqs (d:Nat) (a b:ByteArray) (w:World):(Op.equalIn (d+1) 9 (.string a) (.string b)).run Tryz.prog w=.ok (a.toList==b.toList) w:=run_equalIn_string w d 9 a b Tryz.underlying9
@[go_sem] theorem eqVec (d:Nat) (a b x y:Int) (w:World):(Op.equalIn (d+2) 26 (.agg #[.int .i64 a,.int .i64 b]) (.agg #[.int .i64 x,.int .i64 y])).run Tryz.prog w=.ok (a==x&&b==y) w:=by
 have p0:∀a b w,(part 3 #[.int .i64 a,.int .i64 b] 0).run Tryz.prog w=Result.ok (.int .i64 a) w:=fun a b w=>by kernel_rfl
 have p1:∀a b w,(part 3 #[.int .i64 a,.int .i64 b] 1).run Tryz.prog w=Result.ok (.int .i64 b) w:=fun a b w=>by kernel_rfl
 unfold Op.equalIn
 cases h:a==x
 ·simp[Sem.run_bind,run_underlying Tryz.underlying26,List.range',p0,eqi,h]
 ·cases h':b==y<;>simp[Sem.run_bind,run_underlying Tryz.underlying26,List.range',p0,p1,eqi,h,h']
@[go_sem] theorem eqInt2 (d:Nat) (a b x y:Int) (w:World):(Op.equalIn (d+2) 25 (.agg #[.int .i64 a,.int .i64 b]) (.agg #[.int .i64 x,.int .i64 y])).run Tryz.prog w=.ok (a==x&&b==y) w:=by
 have p0:∀a b w,(part 3 #[.int .i64 a,.int .i64 b] 0).run Tryz.prog w=Result.ok (.int .i64 a) w:=fun a b w=>by kernel_rfl
 have p1:∀a b w,(part 3 #[.int .i64 a,.int .i64 b] 1).run Tryz.prog w=Result.ok (.int .i64 b) w:=fun a b w=>by kernel_rfl
 unfold Op.equalIn
 cases h:a==x
 ·simp[Sem.run_bind,run_underlying Tryz.underlying25,List.range',p0,eqi,h]
 ·cases h':b==y<;>simp[Sem.run_bind,run_underlying Tryz.underlying25,List.range',p0,p1,eqi,h,h']
@[go_sem] theorem eqStamp (d:Nat) (a b x y:Int) (w:World):(Op.equalIn (d+2) 24 (.agg #[.int .i64 a,.int .i64 b]) (.agg #[.int .i64 x,.int .i64 y])).run Tryz.prog w=.ok (a==x&&b==y) w:=by
 rw[run_equalIn_struct w (d+1) 24 _ _ (by kernel_rfl) (by kernel_rfl)]
 have p0:∀a b w,(part 3 #[.int .i64 a,.int .i64 b] 0).run Tryz.prog w=Result.ok (.int .i64 a) w:=fun a b w=>by kernel_rfl
 have p1:∀a b w,(part 3 #[.int .i64 a,.int .i64 b] 1).run Tryz.prog w=Result.ok (.int .i64 b) w:=fun a b w=>by kernel_rfl
 cases h:a==x
 ·simp[Program.fieldsOf,Tryz.underlying24,Op.eqFields,Sem.run_bind,p0,eqi,h]
 ·cases h':b==y<;>simp[Program.fieldsOf,Tryz.underlying24,Op.eqFields,Sem.run_bind,p0,p1,eqi,h,h']
@[go_sem] theorem eqCell (d:Nat) (a0 a1 a2 a3 a6 a7 b0 b1 b2 b3 b6 b7:Int) (a4 b4:Bool) (a5 b5:ByteArray) (w:World):(Op.equalIn (d+3) 104 (.agg #[.int .i64 a0,.int .i64 a1,.int .i64 a2,.int .i64 a3,.bool a4,.string a5,.int .i64 a6,.int .i64 a7]) (.agg #[.int .i64 b0,.int .i64 b1,.int .i64 b2,.int .i64 b3,.bool b4,.string b5,.int .i64 b6,.int .i64 b7])).run Tryz.prog w=.ok ((a0==b0&&a1==b1)&&((a2==b2&&a3==b3)&&((a4==b4)&&((a5.toList==b5.toList)&&(a6==b6&&a7==b7))))) w:=by
 rw[run_equalIn_struct w (d+2) 104 _ _ (by kernel_rfl) (by kernel_rfl)]
 have p0:∀(a0 a1 a2 a3 a6 a7:Int) (a4:Bool) (a5:ByteArray) (w:World),(part 24 #[.int .i64 a0,.int .i64 a1,.int .i64 a2,.int .i64 a3,.bool a4,.string a5,.int .i64 a6,.int .i64 a7] 0).run Tryz.prog w=Result.ok (.agg #[.int .i64 a0,.int .i64 a1]) w:=fun _ _ _ _ _ _ _ _ _=>by kernel_rfl
 have p1:∀(a0 a1 a2 a3 a6 a7:Int) (a4:Bool) (a5:ByteArray) (w:World),(part 26 #[.int .i64 a0,.int .i64 a1,.int .i64 a2,.int .i64 a3,.bool a4,.string a5,.int .i64 a6,.int .i64 a7] 2).run Tryz.prog w=Result.ok (.agg #[.int .i64 a2,.int .i64 a3]) w:=fun _ _ _ _ _ _ _ _ _=>by kernel_rfl
 have p2:∀(a0 a1 a2 a3 a6 a7:Int) (a4:Bool) (a5:ByteArray) (w:World),(part 4 #[.int .i64 a0,.int .i64 a1,.int .i64 a2,.int .i64 a3,.bool a4,.string a5,.int .i64 a6,.int .i64 a7] 4).run Tryz.prog w=Result.ok (.bool a4) w:=fun _ _ _ _ _ _ _ _ _=>by kernel_rfl
 have p3:∀(a0 a1 a2 a3 a6 a7:Int) (a4:Bool) (a5:ByteArray) (w:World),(part 9 #[.int .i64 a0,.int .i64 a1,.int .i64 a2,.int .i64 a3,.bool a4,.string a5,.int .i64 a6,.int .i64 a7] 5).run Tryz.prog w=Result.ok (.string a5) w:=fun _ _ _ _ _ _ _ _ _=>by kernel_rfl
 have p4:∀(a0 a1 a2 a3 a6 a7:Int) (a4:Bool) (a5:ByteArray) (w:World),(part 26 #[.int .i64 a0,.int .i64 a1,.int .i64 a2,.int .i64 a3,.bool a4,.string a5,.int .i64 a6,.int .i64 a7] 6).run Tryz.prog w=Result.ok (.agg #[.int .i64 a6,.int .i64 a7]) w:=fun _ _ _ _ _ _ _ _ _=>by kernel_rfl
 cases h0:(a0==b0&&a1==b1)
 ·simp only[Program.fieldsOf,Tryz.underlying104,Op.eqFields,Sem.run_bind,Sem.run_ite,Sem.run_pure,Result.andThen_ok,p0,eqStamp,h0];simp
 ·cases h1:(a2==b2&&a3==b3)
  ·simp only[Program.fieldsOf,Tryz.underlying104,Op.eqFields,Sem.run_bind,Sem.run_ite,Sem.run_pure,Result.andThen_ok,p0,p1,eqStamp,eqVec,h0,h1];simp
  ·cases h2:(a4==b4)
   ·simp only[Program.fieldsOf,Tryz.underlying104,Op.eqFields,Sem.run_bind,Sem.run_ite,Sem.run_pure,Result.andThen_ok,p0,p1,p2,eqStamp,eqVec,eqb,h0,h1,h2];simp
   ·cases h3:(a5.toList==b5.toList)
    ·simp only[Program.fieldsOf,Tryz.underlying104,Op.eqFields,Sem.run_bind,Sem.run_ite,Sem.run_pure,Result.andThen_ok,p0,p1,p2,p3,eqStamp,eqVec,eqb,eqs,h0,h1,h2,h3];simp
    ·cases h4:(a6==b6&&a7==b7)
     ·simp only[Program.fieldsOf,Tryz.underlying104,Op.eqFields,Sem.run_bind,Sem.run_ite,Sem.run_pure,Result.andThen_ok,p0,p1,p2,p3,p4,eqStamp,eqVec,eqb,eqs,h0,h1,h2,h3,h4];simp
     ·simp only[Program.fieldsOf,Tryz.underlying104,Op.eqFields,Sem.run_bind,Sem.run_ite,Sem.run_pure,Result.andThen_ok,p0,p1,p2,p3,p4,eqStamp,eqVec,eqb,eqs,h0,h1,h2,h3,h4];simp
theorem A8s:Tryz.prog.eqGuardType Tryz.prog.depth 26=false:=by kernel_rfl
@[go_sem] theorem grdVec (op:BinOp) (x y:Operand) (xs ys:Array Value) (w:World):(eqGuard op 26 x y (.agg xs) (.agg ys)).run Tryz.prog w=.ok () w:=run_eqGuard_agg w op 26 x y xs ys A8s
theorem Bmn:Tryz.prog.eqGuardType Tryz.prog.depth 25=false:=by kernel_rfl
@[go_sem] theorem grdInt2 (op:BinOp) (x y:Operand) (xs ys:Array Value) (w:World):(eqGuard op 25 x y (.agg xs) (.agg ys)).run Tryz.prog w=.ok () w:=run_eqGuard_agg w op 25 x y xs ys Bmn
theorem As2:Tryz.prog.eqGuardType Tryz.prog.depth 24=false:=by kernel_rfl
@[go_sem] theorem grdStamp (op:BinOp) (x y:Operand) (xs ys:Array Value) (w:World):(eqGuard op 24 x y (.agg xs) (.agg ys)).run Tryz.prog w=.ok () w:=run_eqGuard_agg w op 24 x y xs ys As2
theorem A0a:Tryz.prog.eqGuardType Tryz.prog.depth 104=false:=by kernel_rfl
@[go_sem] theorem grdCell (op:BinOp) (x y:Operand) (xs ys:Array Value) (w:World):(eqGuard op 104 x y (.agg xs) (.agg ys)).run Tryz.prog w=.ok () w:=run_eqGuard_agg w op 104 x y xs ys A0a
def A79:List Value→List Value→Option Bool
 | [],[]=>some true
 | .int .u8 a::xs,.int .u8 b::ys=>match A79 xs ys with
  |some r=>some (a==b&&r)
  |none=>none
 |_,_=>none
theorem A8r:Tryz.prog.eqGuardType Tryz.prog.depth 58=false:=by kernel_rfl
theorem Bn9:Tryz.prog.underlying 58=some (.array 32 5):=by kernel_rfl
theorem Bu5:Tryz.prog.cellsOf 5=1:=by kernel_rfl
theorem B7k (d:Nat) (a b:Int) (w:World):(Op.equalIn (d+1) 5 (.int .u8 a) (.int .u8 b)).run Tryz.prog w=.ok (a==b) w:=run_equalIn_int w d 5 .u8 .u8 a b (by kernel_rfl)
theorem Bsf (w:World) {cs:Array Value} {i:Nat} {v:Value} (h:cs.toList[i]?=some v):(part 5 cs (i*1)).run Tryz.prog w=.ok v w:=by
 have hu:Tryz.prog.underlying 5=some (.int .u8):=by kernel_rfl
 have hc:cs[i]?=some v:=by simpa using h
 simp[part,isAgg,run_underlying hu,hc]
theorem Ass (d:Nat) (cs ds:Array Value) (w:World):∀(xs ys:List Value) (k:Nat) (r:Bool),cs.toList.drop k=xs→ds.toList.drop k=ys→A79 xs ys=some r→(Op.eqItems (d+1) 5 1 cs ds (List.range' k xs.length)).run Tryz.prog w=.ok r w
 | [],ys,k,r,_,_,h=>by
  cases ys with
  |nil=>unfold A79 at h;cases h;simp[Op.eqItems]
  |cons _ _=>unfold A79 at h;cases h
 | x::xs,ys,k,r,h1,h2,h=>by
  unfold A79 at h
  split at h<;>try (cases h;done)
  ·rename_i e;cases e
  rename_i a bl b tr e
  cases e
  cases h3:A79 xs tr with
  |none=>rw[h3] at h;cases h
  | some q=>
   rw[h3] at h
   cases h
   have hx:cs.toList[k]?=some (.int .u8 a):=by
    have:(cs.toList.drop k)[0]?=some (.int .u8 a):=by rw[h1];rfl
    rw[List.getElem?_drop] at this;simpa using this
   have hy:ds.toList[k]?=some (.int .u8 b):=by
    have:(ds.toList.drop k)[0]?=some (.int .u8 b):=by rw[h2];rfl
    rw[List.getElem?_drop] at this;simpa using this
   have n1:cs.toList.drop (k+1)=xs:=by rw[←List.drop_drop,h1];rfl
   have n2:ds.toList.drop (k+1)=tr:=by rw[←List.drop_drop,h2];rfl
   have ih:=Ass d cs ds w xs tr (k+1) q n1 n2 h3
   rw[List.length_cons,List.range'_succ]
   simp only[Op.eqItems,Sem.run_bind,Bsf w hx,Bsf w hy,Result.andThen_ok,B7k]
   cases hab:a==b
   ·simp
   ·simpa using ih
theorem Bqm (d:Nat) (xs ys:List Value) (r:Bool) (hn:Nat.beq xs.length 32=true) (h:A79 xs ys=some r) (w:World):(Op.equalIn (d+2) 58 (.agg xs.toArray) (.agg ys.toArray)).run Tryz.prog w=.ok r w:=by
 have hs:(Tryz.prog.info? 5).isSome=true:=by kernel_rfl
 obtain⟨i,hi⟩:=Option.isSome_iff_exists.1 hs
 rw[run_equalIn_array w (d+1) xs.toArray ys.toArray Bn9 hi,Bu5,List.range_eq_range',←Nat.eq_of_beq_eq_true hn]
 exact Ass d xs.toArray ys.toArray w xs ys 0 r (by simp) (by simp) h
instance (n:Nat):Decidable (Al4 n):=.isFalse id
theorem Bue:Tryz.prog.follows .mixedOrders=true:=by kernel_rfl
def Bvx:List Value→List Value→Option Bool
 | [.int .i64 a,.int .i64 b],[.int .i64 x,.int .i64 y]=>some (a==x&&b==y)
 |_,_=>none
def B5h:List Value→List Value→Option Bool
 | [.int .i64 a0,.int .i64 a1,.int .i64 a2,.int .i64 a3,.bool a4,.string a5,.int .i64 a6,.int .i64 a7],[.int .i64 b0,.int .i64 b1,.int .i64 b2,.int .i64 b3,.bool b4,.string b5,.int .i64 b6,.int .i64 b7]=>
  some ((a0==b0&&a1==b1)&&((a2==b2&&a3==b3)&&((a4==b4)&&((a5.toList==b5.toList)&&(a6==b6&&a7==b7)))))
 |_,_=>none
def B1p (t:TypeId) (xs ys:List Value):Option Bool:=bif Nat.beq t 58 then(bif Nat.beq xs.length 32 then A79 xs ys else none) else none
theorem Bvv:Bo8 Tryz.prog B1p:=fun t xs ys b h=>by
 unfold B1p at h
 cases h5:Nat.beq t 58 with
 | true=>
  rw[h5] at h
  rw[Nat.eq_of_beq_eq_true h5]
  refine⟨A8r,fun R=>?_⟩
  cases h6:Nat.beq xs.length 32 with
  |true=>
   rw[h6] at h
   exact Bqm 9998 xs ys b h6 h R
  |false=>
   rw[h6] at h
   cases h
 |false=>
  rw[h5] at h
  cases h
abbrev Bqp:=B1p
theorem Bmf:Bo8 Tryz.prog Bqp:=Bvv
abbrev B5i:=Bqp
theorem Bvw:Bo8 Tryz.prog B5i:=Bmf
theorem Bd7:Tryz.prog.eqGuardType Tryz.prog.depth 102=false:=by kernel_rfl
theorem Bvz (d:Nat) (a x e z:ByteArray) (b y:Int) (c u:Bool) (w:World):(Op.equalIn (d+2) 102 (.agg #[.string a,.int .i64 b,.bool c,.string e]) (.agg #[.string x,.int .i64 y,.bool u,.string z])).run Tryz.prog w=.ok (a.toList==x.toList&&(b==y&&(c==u&&e.toList==z.toList))) w:=by
 rw[run_equalIn_struct w (d+1) 102 _ _ (by kernel_rfl) (by kernel_rfl)]
 have p0:∀a b c e w,(part 9 #[.string a,.int .i64 b,.bool c,.string e] 0).run Tryz.prog w=Result.ok (.string a) w:=fun a b c e w=>by kernel_rfl
 have p1:∀a b c e w,(part 3 #[.string a,.int .i64 b,.bool c,.string e] 1).run Tryz.prog w=Result.ok (.int .i64 b) w:=fun a b c e w=>by kernel_rfl
 have p2:∀a b c e w,(part 4 #[.string a,.int .i64 b,.bool c,.string e] 2).run Tryz.prog w=Result.ok (.bool c) w:=fun a b c e w=>by kernel_rfl
 have p3:∀a b c e w,(part 9 #[.string a,.int .i64 b,.bool c,.string e] 3).run Tryz.prog w=Result.ok (.string e) w:=fun a b c e w=>by kernel_rfl
 cases h0:a.toList==x.toList
 ·simp[Program.fieldsOf,Tryz.underlying102,Op.eqFields,Sem.run_bind,p0,eqs,h0]
 ·cases h1:b==y
  ·simp[Program.fieldsOf,Tryz.underlying102,Op.eqFields,Sem.run_bind,p0,p1,eqi,eqs,h0,h1]
  ·cases h2:c==u
   ·simp[Program.fieldsOf,Tryz.underlying102,Op.eqFields,Sem.run_bind,p0,p1,p2,eqi,eqs,eqb,h0,h1,h2]
   ·cases h3:e.toList==z.toList<;>simp[Program.fieldsOf,Tryz.underlying102,Op.eqFields,Sem.run_bind,p0,p1,p2,p3,eqi,eqs,eqb,h0,h1,h2,h3]
def B5j:List Value→List Value→Option Bool
 | [.string a,.int .i64 b,.bool c,.string e],[.string x,.int .i64 y,.bool u,.string z]=>some (a.toList==x.toList&&(b==y&&(c==u&&e.toList==z.toList)))
 |_,_=>none
def B1r (t:TypeId) (xs ys:List Value):Option Bool:=bif Nat.beq t 102 then B5j xs ys else B5i t xs ys
theorem Bvy:Bo8 Tryz.prog B1r:=fun t xs ys b h=>by
 unfold B1r at h
 cases h4:Nat.beq t 102 with
 |true=>
  rw[h4] at h
  rw[Nat.eq_of_beq_eq_true h4]
  refine⟨Bd7,fun R=>?_⟩
  unfold B5j at h
  simp only[cond_true] at h
  split at h<;>try (cases h;done)
  cases h
  exact Bvz 9998 _ _ _ _ _ _ _ _ R
 |false=>
  rw[h4] at h
  exact Bvw t xs ys b h
def A8c (t:TypeId) (xs ys:List Value):Option Bool:=
 bif Nat.beq t 26 then Bvx xs ys else bif Nat.beq t 24 then Bvx xs ys else bif Nat.beq t 104 then B5h xs ys else B1r t xs ys
theorem Asv:Bo8 Tryz.prog A8c:=fun t xs ys b h=>by
 unfold A8c at h
 cases h1:Nat.beq t 26 with
 |true=>
  rw[h1] at h
  rw[Nat.eq_of_beq_eq_true h1]
  refine⟨A8s,fun R=>?_⟩
  unfold Bvx at h
  simp only[cond_true] at h
  split at h<;>try (cases h;done)
  cases h
  exact eqVec 9998 _ _ _ _ R
 |false=>
 cases h2:Nat.beq t 24 with
 |true=>
  rw[h1,h2] at h
  rw[Nat.eq_of_beq_eq_true h2]
  refine⟨As2,fun R=>?_⟩
  unfold Bvx at h
  simp only[cond_true,cond_false] at h
  split at h<;>try (cases h;done)
  cases h
  exact eqStamp 9998 _ _ _ _ R
 |false=>
 cases h3:Nat.beq t 104 with
 |true=>
  rw[h1,h2,h3] at h
  rw[Nat.eq_of_beq_eq_true h3]
  refine⟨A0a,fun R=>?_⟩
  unfold B5h at h
  simp only[cond_true,cond_false] at h
  split at h<;>try (cases h;done)
  cases h
  exact eqCell 9997 _ _ _ _ _ _ _ _ _ _ _ _ _ _ _ _ R
 |false=>
  rw[h1,h2,h3] at h
  exact Bvy t xs ys b h
def Co (C:Tab) (L:WX):Env:=⟨Tryz.prog,A8c,C,false,Bca,false,L⟩
def B7j (C:Tab):Env:=⟨Tryz.prog,A8c,C,true,Bca,false,L0⟩
theorem Bvr {C:Tab} {L:WX} (hC:COk AP C) (hL:∀l s b ps outs,L l s=some (b,ps,outs)→Bh3 (Co C L) l b s ps outs):Ou (Co C L) where
 suf f args nx o k x nx' o' ps h:=(hC f args nx o k x nx' o' ps h).2
 wide:=Bue
 eq:=Asv
 C f args nx o k x nx' o' ps h hl hp:=((hC f args nx o k x nx' o' ps h).1 hp).1 hl
 Y f i xs nx o k x nx' o' ps h hl hp:=((hC f (.yl i::xs) nx o k x nx' o' ps h).1 hp).2 hl i xs rfl
 tc:=Awj
 loops:=hL
theorem Vn {C:Tab} (hC:COk AP C):Ou (B7j C) where
 suf f args nx o k x nx' o' ps h:=(hC f args nx o k x nx' o' ps h).2
 wide:=Bue
 eq:=Asv
 C f args nx o k x nx' o' ps h hl hp:=((hC f args nx o k x nx' o' ps h).1 hp).1 hl
 Y f i xs nx o k x nx' o' ps h hl hp:=((hC f (.yl i::xs) nx o k x nx' o' ps h).1 hp).2 hl i xs rfl
 tc:=Awj
 loops _ _ _ _ _ h:=by cases h
def Aru (L:WX):Prop:=∀l s b ps outs,L l s=some (b,ps,outs)→Bh3 (Co C0 L0) l b s ps outs
theorem AF:Aru L0:=fun _ _ _ _ _ h=>by cases h
theorem Bpd {l0:Nat} {g:St→Option (Code×List Prop×BD)} {L:WX} (hg:∀s b ps outs,g s=some (b,ps,outs)→Wf s ⟨ps,outs,none⟩∧Art (Co C0 L0) b s ps outs) (hL:Aru L):Aru (Bpc l0 g L):=fun l s b ps outs h=>by
 unfold Bpc at h
 cases hb:Nat.beq l l0 with
 |true=>
  rw[hb,cond_true] at h
  cases hr:Nat.ble rfK l with
  |true=>rw[hr] at h;cases h
  |false=>rw[hr] at h;exact⟨fun _=>hg s b ps outs h,fun e=>by rw[hr] at e;cases e⟩
 |false=>rw[hb] at h;exact hL l s b ps outs h
def V8 (l0:Nat) {g:St→Option (Code×List Prop×BD)} (hg:∀s b ps outs,g s=some (b,ps,outs)→Wf s ⟨ps,outs,none⟩∧Art (Co C0 L0) b s ps outs) (L:{L:WX // Aru L}):{L:WX // Aru L}:=⟨Bpc l0 g L.1,Bpd hg L.2⟩
theorem Bpf {l0:Nat} {g:St→Option (Code×List Prop×BD)} {L:WX} (hg:∀s b ps outs,g s=some (b,ps,outs)→Bur (Co C0 L0) b s ps outs) (hL:Aru L):Aru (Bpe l0 g L):=fun l s b ps outs h=>by
 unfold Bpe at h
 cases hb:Nat.beq l (rfK+l0) with
 |true=>
  rw[hb] at h
  obtain rfl:=Nat.eq_of_beq_eq_true hb
  have hle:Nat.ble rfK (rfK+l0)=true:=by rw[Nat.ble_eq];exact Nat.le_add_right _ _
  exact⟨fun e=>(by rw[hle] at e;cases e),fun _=>hg s b ps outs h⟩
 |false=>rw[hb] at h;exact hL l s b ps outs h
def aRf (l0:Nat) {g:St→Option (Code×List Prop×BD)} (hg:∀s b ps outs,g s=some (b,ps,outs)→Bur (Co C0 L0) b s ps outs) (L:{L:WX // Aru L}):{L:WX // Aru L}:=⟨Bpe l0 g L.1,Bpf hg L.2⟩
theorem Au {C:Tab} {L:WX} (hC:COk AP C) (hL:Aru L):Ou (Co C L):=Bvr hC hL
theorem BX {C:Tab} {L:WX} (hC:COk AP C) (hL:Aru L) {u:Nat} {b:Code} {S:Em} {En:EQ} {X:Type} {T:X→St} {mz:St→Option X} {fuel:X→Nat} {next:X→X} {goes:X→El} {psA ps:X→List Prop} {outs:X→BD} (hS:okL S.nb S.nx1 S.ren=true) (iz:S.nb≤S.nx1) (hr:∀x,Avz (Co C L) u b S (T x)=some (psA x,outs x,goes x,T (next x))) (hA:∀x,(∀p∈ps x,p)→∀p∈psA x,p) (hu:∀s x,mz s=some x→s=T x) (hw:∀x,Qz (outs x)∧∀t c y,A7 t (outs x)=some (c,y)→y.n=(T x).n) (q9:∀x y,(T x).n=(T y).n):∀s b0 qs os,Jt (Co C L) b S En mz fuel next goes ps outs s=some (b0,qs,os)→Wf s ⟨qs,os,none⟩∧Art (Co C0 L0) b0 s qs os:=
 fun _ _ _ _ he=>Bxh (Au hC hL) hS iz hr hA hu hw q9 he
def Bet (n:Nat):BD→Bool
 | []=>true
 |(t,_,s)::r=>Nat.beq s.n n&&((match A7 t r with|some _=>false|none=>true)&&Bet n r)
theorem A9 {n:Nat}:∀{o:BD},Bet n o=true→Qz o∧∀t c y,A7 t o=some (c,y)→y.n=n
 | [],_=>⟨trivial,fun t c y h=>by cases h⟩
 | (k,d,s)::r,h=>by
  unfold Bet at h
  simp only[Bool.and_eq_true] at h
  obtain⟨h1,h2,h3⟩:=h
  obtain⟨g1,g2⟩:=A9 h3
  refine⟨⟨?_,g1⟩,fun t c y hy=>?_⟩
  ·cases hg:A7 k r with
   |none=>rfl
   |some x=>rw[hg] at h2;cases h2
  ·have fv:(bif Gn k t then some (d,s) else A7 t r)=some (c,y):=hy
   cases hb:Gn k t with
   |true=>rw[hb] at fv;cases fv;exact Nat.eq_of_beq_eq_true h1
   |false=>rw[hb] at fv;exact g2 t c y fv
theorem PV (x:Int):0≤IntKind.u8.wrap x∧IntKind.u8.wrap x <256:=by
 simp only[IntKind.wrap,IntKind.bits,IntKind.signed]
 have h1:=Int.emod_nonneg x (show(256:Int)≠0 by decide)
 have h2:=Int.emod_lt_of_pos x (show(0:Int) <256 by decide)
 exact⟨h1,h2⟩
theorem Blk (x:Int):0≤IntKind.u64.wrap x:=by
 simp only[IntKind.wrap,IntKind.bits,IntKind.signed]
 exact Int.emod_nonneg x (by decide)
def B43 (c:TC) (x:A):Option (U c×List Prop):=match Aci x with
 |some cs=>dec c cs
 |none=>none
def B0s (c:TC):A→Option (List (U c))
 | .sl c' l=>match TC.same c' c with
  |some h=>some (RQ h.down l)
  |none=>none
 | .nl=>some []
 | .v x=>bif E5 x then some [] else none
 |_=>none
section
variable {F:Nat→Prop} {N:Nm} {nx:Nat} {R:World}
theorem Bu2 {c:TC} {x:A} {l:List (U c)} {v:Value} (he:B0s c x=some l) (h:Hv F N nx R x v):Hv F N nx R (.sl c l) v:=by
 unfold B0s at he
 split at he<;>try (cases he;done)
 ·split at he<;>try (cases he;done)
  rename_i h1 _
  obtain⟨h1⟩:=h1
  subst h1
  cases he
  exact h
 ·cases he
  obtain⟨a,e⟩:=h.nl_inv
  exact Hv.sl_nil e
 ·rename_i x
  cases hb:E5 x with
  |false=>rw[hb] at he;cases he
  |true=>
   rw[hb] at he
   cases he
   exact Hv.sl_nil (by rw[h.v_inv,G9 hb])
theorem Brb {c:TC} {d:U c} {vs:List Value} (h:HL F N nx R (enc c d) vs) (ha:c.isAgg=true):Hv F N nx R (AA c d) (.agg vs.toArray):=by
 unfold AA
 rw[ha]
 exact U4 h
theorem Brc {c:TC} {d:U c} {vs:List Value} {v:Value} (h:HL F N nx R (enc c d) vs) (ha:c.isAgg=false) (hv:vs[0]?=some v):Hv F N nx R (AA c d) v:=by
 unfold AA
 rw[ha]
 show Hv F N nx R (match enc c d with|x::_=>x| []=> .dead) v
 generalize enc c d=l at h
 cases l with
 |nil=>exact .dead _
 |cons x r=>
  obtain⟨w,ws,rfl,h1,_⟩:=h.inv
  cases hv
  exact h1
def Wg (c:TC):A→Bool
 | .v (.agg _)=>c.isAgg
 | .agg _=>c.isAgg
 | .v (.tuple _)=>false
 | .v x=>!c.isAgg&&x.oneCell'
 | .opt _ _ _=>false
 | .tup _=>false
 | .dead=>false
 | .it _ _=>false
 | .sq _=>false
 | .dq _=>false
 | .iv _ _=>false
 | .de _ _ _ _=>false
 | .ie _ _ _ _ _=>false
 | .av _ _ _=>false
 | .rv _=>false
 | .vr _ _ _ _=>false
 | .vd _ _ _ _=>false
 | .yl _=>false
 |_=>!c.isAgg
def B0t (c:TC) (x:A):Option (U c×List Prop):=bif Wg c x then B43 c x else none
theorem Bu3 {c:TC} {x:A} {d:U c} {ps:List Prop} {v:Value} (he:B0t c x=some (d,ps)) (hp:∀p∈ps,p) (h:Hv F N nx R x v):Hv F N nx R (AA c d) v:=by
 unfold B0t at he
 cases hf:Wg c x with
 |false=>rw[hf] at he;cases he
 | true=>
  rw[hf] at he
  simp only[cond_true] at he
  unfold B43 at he
  split at he<;>try (cases he;done)
  rename_i cs cn
  have hd:=Aiu (F:=F) (N:=N) (nx:=nx) (R:=R) he hp
  have single:∀{y:A},Hv F N nx R y v→cs=[y]→c.isAgg=false→Hv F N nx R (AA c d) v:=fun {y} hy e hc=>by
   subst e
   exact Brc (hd [v] (HL.cons hy HL.nil)) hc rfl
  cases x<;>try (cases hf;done)
  ·rename_i y
   have hv:=h.v_inv
   subst hv
   cases cn
   have hl:HL F N nx R (toL v.cells.toList) v.cells.toList:=HL.toL _
   cases v with
   |agg xs=>
    have bm:HL F N nx R (toL xs.toList) xs.toList:=hl
    have:=Brb (hd _ bm) hf
    simpa using this
   |tuple xs=>cases hf
   |_=>
    simp only[Wg,Bool.and_eq_true,Bool.not_eq_true'] at hf
    exact Brc (hd _ hl) hf.1 rfl
  ·cases cn
   exact single h rfl (by simpa[Wg] using hf)
  ·cases cn
   exact single h rfl (by simpa[Wg] using hf)
  ·cases cn
   exact single h rfl (by simpa[Wg] using hf)
  ·cases cn
   exact single h rfl (by simpa[Wg] using hf)
  ·cases cn
   exact single h rfl (by simpa[Wg] using hf)
  ·cases cn
   exact single h rfl (by simpa[Wg] using hf)
  ·cases cn
   exact single h rfl (by simpa[Wg] using hf)
  ·cases cn
   exact single h rfl (by simpa[Wg] using hf)
  ·cases cn
   exact single h rfl (by simpa[Wg] using hf)
  ·cases cn
   obtain⟨vs,rfl,h2⟩:=h.agg_inv
   exact Brb (hd _ h2) hf
end
theorem Um:freeL []=true:=by unfold freeL;rfl
theorem MY {x:A} {r:List A} (h:x.free=true) (k:freeL r=true):freeL (x::r)=true:=by unfold freeL;rw[h,k];rfl
theorem A1p (c:TC) (d:U c):(AA c d).free=true:=by
 have xn:∀l:List A,(∀x∈l,x.free=true)→freeL l=true:=fun l=>by
  induction l with
  |nil=>intro _;unfold freeL;rfl
  |cons x r ih=>intro h;unfold freeL;rw[h x (List.mem_cons_self ..),ih fun y hy=>h y (List.mem_cons_of_mem _ hy)];rfl
 have h:=A78 c d
 unfold AA
 cases c.isAgg with
 |true=>
  show(T7 (enc c d)).free=true
  unfold T7
  split
  ·unfold A.free;rfl
  ·unfold A.free;exact xn _ h
 |false=>
  show A.free (match enc c d with|x::_=>x| []=> .dead)=true
  have hl:=Adg c d
  have hs:0 <size c:=by cases c<;>decide
  generalize enc c d=l at h hl
  cases l with
  |nil=>rw[←hl] at hs;cases hs
  |cons x r=>exact h x (List.mem_cons_self ..)
theorem A7i {P:Program} {f:FuncId} {args cj:List A} {nx k nx':Nat} {o o':AE} {x:A} (h:An P f cj nx o k x nx' o') (ha:∀(F:Nat→Prop) (N:Nm) (R:World) (vs:List Value),HL F N nx R args vs→HL F N nx R cj vs):An P f args nx o k x nx' o':=
 fun F N R vs hh hl=>h F N R vs hh (ha F N R vs hl)
inductive Kd where
 |l (c:TC)
 |t (c:TC)
 |a (c:TC) (n:Nat)
def Fn (X:Type):List Kd→Type
 | []=>X
 | .l c::r=>List (U c)→Fn X r
 | .t c::r=>U c→Fn X r
 | .a c _::r=>List (U c)→Fn X r
abbrev FnP:=Fn (List Prop)
def B7g (ps:List Prop):Prop:=∀p∈ps,p
def Buv (q:List Prop):Option Arr→Option Arr
 |some (k,x,nx,o,p)=>some (k,x,nx,o,q++p)
 |none=>none
def Bbu (m nx:Nat) (ob:AE):(ks:List Kd)→Fn A ks→Fn AE ks→FnP ks→List A→Option Arr
 | [],r,o,ps,[]=>some (1,A.pk (Y8 nx) r,nx+m,Afc nx o++ob,ps)
 | .l c::ks,r,o,ps,y::ys=>match B0s c y with
  |some a=>Bbu m nx ob ks (r a) (o a) (ps a) ys
  |none=>none
 | .t c::ks,r,o,ps,y::ys=>match B0t c y with
  |some (a,q)=>Buv q (Bbu m nx ob ks (r a) (o a) (ps a) ys)
  |none=>none
 | .a c n::ks,r,o,ps,y::ys=>match B0r c n y with
  |some (a,q)=>Buv q (Bbu m nx ob ks (r a) (o a) (ps a) ys)
  |none=>none
 |_,_,_,_,_=>none
def Cy (ks:List Kd) (m:Nat) (r:Fn A ks) (o:Fn AE ks) (ps:FnP ks):KD:=fun args nx ob=>Bbu m nx ob ks r o ps args
def OkG (P:Program) (f:FuncId) (m:Nat):(ks:List Kd)→List A→Fn A ks→Fn AE ks→FnP ks→Prop
 | [],pre,r,o,ps=>B7g ps→An P f pre 0 [] 1 r m o
 | .l c::ks,pre,r,o,ps=>∀a,OkG P f m ks (pre++[.sl c a]) (r a) (o a) (ps a)
 | .t c::ks,pre,r,o,ps=>∀a,OkG P f m ks (pre++[AA c a]) (r a) (o a) (ps a)
 | .a c n::ks,pre,r,o,ps=>∀a,OkG P f m ks (pre++[.av c n a]) (r a) (o a) (ps a)
theorem ZA:∀{a b:List A},freeL a=true→freeL b=true→freeL (a++b)=true
 | [],_,_,h=>h
 |x::a,b,h,g=>by
  unfold freeL at h
  rw[Bool.and_eq_true] at h
  exact MY h.1 (ZA h.2 g)
theorem Bxg {P:Program} {f:FuncId} {m nx:Nat} {ob:AE}:∀(ks:List Kd) (pre ys:List A) (r:Fn A ks) (o:Fn AE ks) (ps:FnP ks),freeL pre=true→OkG P f m ks pre r o ps→∀{k x nx' o' qs},Bbu m nx ob ks r o ps ys=some (k,x,nx',o',qs)→
  (∃d,o'=d++ob)∧∃zs,freeL zs=true∧((∀p∈qs,p)→(∀(F:Nat→Prop) (N:Nm) (R:World) (vs:List Value),HL F N nx R ys vs→HL F N nx R zs vs)∧An P f (pre++zs) nx ob k x nx' o'):=by
 intro ks
 induction ks with
 | nil=>
  intro pre ys r o ps hf fx k x nx' o' qs he
  cases ys with
  |cons y ys=>cases he
  |nil=>
   cases he
   exact⟨⟨_,rfl⟩,[],Um,fun hp=>⟨fun _ _ _ _ h=>h,by rw[List.append_nil];exact Afr (fx hp) (Nat.le_refl _) hf nx ob⟩⟩
 | cons kd ks ih=>
  intro pre ys r o ps hf fx k x nx' o' qs he
  cases ys with
  |nil=>cases kd<;>cases he
  | cons y ys=>
   cases kd with
   |l c=>
    unfold Bbu at he
    split at he<;>try (cases he;done)
    rename_i a ha
    obtain⟨h1,zs,h2,h3⟩:=ih (pre++[.sl c a]) ys (r a) (o a) (ps a) (ZA hf (MY (by unfold A.free;rfl) Um)) (fx a) he
    refine⟨h1,.sl c a::zs,MY (by unfold A.free;rfl) h2,fun hp=>⟨fun F N R vs hl=>?_,by have:=(h3 hp).2;rwa[List.append_assoc] at this⟩⟩
    obtain⟨v,w,rfl,q1,q2⟩:=hl.inv
    exact HL.cons (Bu2 ha q1) ((h3 hp).1 F N R w q2)
   |t c=>
    unfold Bbu at he
    split at he<;>try (cases he;done)
    rename_i a q ha
    unfold Buv at he
    split at he<;>try (cases he;done)
    rename_i k1 x1 nx1 o1 p1 rl
    cases he
    obtain⟨h1,zs,h2,h3⟩:=ih (pre++[AA c a]) ys (r a) (o a) (ps a) (ZA hf (MY (A1p _ _) Um)) (fx a) rl
    refine⟨h1,AA c a::zs,MY (A1p _ _) h2,fun hp=>?_⟩
    have d7:=fun p hm=>hp p (List.mem_append.2 (.inl hm))
    have fi:=h3 fun p hm=>hp p (List.mem_append.2 (.inr hm))
    refine⟨fun F N R vs hl=>?_,by have:=fi.2;rwa[List.append_assoc] at this⟩
    obtain⟨v,w,rfl,q1,q2⟩:=hl.inv
    exact HL.cons (Bu3 ha d7 q1) (fi.1 F N R w q2)
   |a c n=>
    unfold Bbu at he
    split at he<;>try (cases he;done)
    rename_i a q ha
    unfold Buv at he
    split at he<;>try (cases he;done)
    rename_i k1 x1 nx1 o1 p1 rl
    cases he
    obtain⟨h1,zs,h2,h3⟩:=ih (pre++[.av c n a]) ys (r a) (o a) (ps a) (ZA hf (MY (by unfold A.free;rfl) Um)) (fx a) rl
    refine⟨h1,.av c n a::zs,MY (by unfold A.free;rfl) h2,fun hp=>?_⟩
    have d7:=fun p hm=>hp p (List.mem_append.2 (.inl hm))
    have fi:=h3 fun p hm=>hp p (List.mem_append.2 (.inr hm))
    refine⟨fun F N R vs hl=>?_,by have:=fi.2;rwa[List.append_assoc] at this⟩
    obtain⟨v,w,rfl,q1,q2⟩:=hl.inv
    exact HL.cons (Bu1 ha d7 q1) (fi.1 F N R w q2)
theorem Az {P:Program} {f:FuncId} {ks:List Kd} {m:Nat} {r:Fn A ks} {o:Fn AE ks} {ps:FnP ks} (h:OkG P f m ks [] r o ps):Gw P f (Cy ks m r o ps):=fun args nx ob k x nx' o' qs he=>by
 obtain⟨h1,zs,_,h3⟩:=Bxg ks [] args r o ps Um h he
 exact⟨fun hp=>A7i (h3 hp).2 (h3 hp).1,h1⟩
theorem HW.free {F:Nat→Prop} {N N':Nm} {nx nx':Nat} {R:World}:∀{xs:List A} {us:List Value},freeL xs=true→HW F N nx R xs us→HW F N' nx' R xs us
 | [],_,_,h=>h
 |x::r,_,hf,⟨v,t,h1,h2,h3,h4⟩=>by unfold freeL at hf;rw[Bool.and_eq_true] at hf;exact⟨v,t,h1,h2.free hf.1,h3,HW.free hf.2 h4⟩
def PD (k:IntKind) (n:Int):Prop:=(Lit.int k n).wf=true
def WfS (x:A1):Prop:=PD .i64 x.n∧PD .i64 x.site
def WfV (x:BE):Prop:=PD .i64 x.a∧PD .i64 x.b
def Bcq (x:Ax):Prop:=WfS x.stamp∧WfV x.vec∧True∧x.value.size≤maxLen∧WfV x.dead
def Bpa (x:AR):Prop:=x.key.size≤maxLen∧(x.cells.length≤maxLen∧∀y∈x.cells,Bcq y)
def Bh5 (x:AU):Prop:=x.key.size≤maxLen∧PD .i64 x.group∧True∧x.value.size≤maxLen
def A62 (x:Ao):Prop:=PD .i64 x.site∧PD .i64 x.seq∧WfS x.stamp∧WfV x.vec∧(x.writes.length≤maxLen∧∀y∈x.writes,Bh5 y)
def Wfd:(c:TC)→U c→Prop
 | .i64,n=>PD .i64 n
 | .u32,n=>PD .u32 n
 | .str,s=>s.size≤maxLen
 | .vec,x=>WfV x
 | .stamp,x=>WfS x
 | .cell,x=>Bcq x
 | .group,x=>x.name.size≤maxLen∧PD .i64 x.policy
 | .write,x=>Bh5 x
 | .row,x=>Bpa x
 | .change,x=>A62 x
 | .place,x=>x.key.size≤maxLen∧PD .i64 x.group
 | .bytes,l=>l.length≤maxLen∧∀y∈l,True
 | .ints,l=>l.length≤maxLen∧∀y∈l,PD .i64 y
 | .cells,l=>l.length≤maxLen∧∀y∈l,Bcq y
 | .rows,l=>l.length≤maxLen∧∀y∈l,Bpa y
 | .digest,x=>x.length=32
 | .msg,x=>PD .i64 x.kind∧PD .i64 x.site∧A62 x.change∧PD .i64 x.ack∧PD .i64 x.own∧(x.path.length≤maxLen∧∀y∈x.path,PD .i64 y)∧(x.sums.length≤maxLen∧∀y∈x.sums,y.length=32)∧(x.rows.length≤maxLen∧∀y∈x.rows,Bpa y)∧WfV x.know∧True
 |_,_=>True
def FB (w:World) (F:Nat→Prop):Prop:=∀b,b <w.heap.size→F b
def B4z (P:Program) (c:TC) (t:TypeId) {H:Type} (en:TypeId×Value→H) (w:World) (base:Nat) (spare:Nat→Bool) (held:Bool):Prop:=
 ∀(m:Nat) (cs:List Value) (y:DataW H×List MemPlace),DataW.trod en P w base spare held m t cs=some y→∃x:U c,Wfd c x∧∀(F:Nat→Prop) (N:Nm) (nx:Nat),FB w F→HL F N nx w (enc c x) cs
def Opn (P:Program) (c:TC) (t:TypeId):Prop:=∀{H:Type} (en:TypeId×Value→H) (w:World) (base:Nat) (spare:Nat→Bool) (held:Bool),B4z P c t en w base spare held
def Bh4 (P:Program) (c:TC) (t:TypeId):Prop:=∀{H:Type} (en:TypeId×Value→H) (w:World) (base:Nat) (spare:Nat→Bool) (held:Bool) (m:Nat) (cs:List Value) (y:DataW H×List MemPlace),
 DataW.trod en P w base spare held m t cs=some y→∃l:List (U c),(l.length≤maxLen∧∀x∈l,Wfd c x)∧∀(F:Nat→Prop) (N:Nm) (nx:Nat),FB w F→HL F N nx w [.sl c l] cs
section
variable {P:Program} {t:TypeId}
theorem Bws (hu:P.underlying t=some (.int .i64)):Opn P .i64 t:=fun en w base spare held m cs y h=>by
 obtain⟨n,rfl,_,hw⟩:=DataW.trod_int hu h
 exact⟨n,hw,fun F N nx _=>HL.cons (Hv.v _) HL.nil⟩
theorem B2e (hu:P.underlying t=some (.int .u8)):Opn P .u8 t:=fun en w base spare held m cs y h=>by
 obtain⟨n,rfl,_,hw⟩:=DataW.trod_int hu h
 refine⟨UInt8.ofNat n.toNat,trivial,fun F N nx _=>?_⟩
 have hn:0≤n∧n <256:=by
  simp[Lit.wf,IntKind.min,IntKind.max,IntKind.signed,IntKind.bits] at hw
  omega
 have e:BN (UInt8.ofNat n.toNat)=.int .u8 n:=by
  unfold BN
  have:((UInt8.ofNat n.toNat).toNat:Int)=n:=by
   rw[UInt8.toNat_ofNat']
   omega
  rw[this]
 exact HL.cons (by rw[e];exact Hv.v _) HL.nil
theorem Bwt (hu:P.underlying t=some .string):Opn P .str t:=fun en w base spare held m cs y h=>by
 obtain⟨n,rfl,_,hw⟩:=DataW.trod_string hu h
 exact⟨n,hw,fun F N nx _=>HL.cons (Hv.v _) HL.nil⟩
theorem Bjo {α:Type} {Q:Nat→α→Prop}:∀(n:Nat),(∀i,i <n→∃x,Q i x)→∃l:List α,l.length=n∧∀(i:Nat) (x:α),l[i]?=some x→Q i x
 |0,_=>⟨[],rfl,fun i x h=>by cases h⟩
 | n+1,h=>by
  obtain⟨l,h1,h2⟩:=Bjo n fun i hi=>h i (by omega)
  obtain⟨x,hx⟩:=h n (by omega)
  refine⟨l++[x],by simp[h1],fun i y hy=>?_⟩
  rcases Nat.lt_trichotomy i n with hi|rfl|hi
  ·rw[List.getElem?_append_left (by omega)] at hy
   exact h2 i y hy
  ·rw[List.getElem?_append_right (by omega)] at hy
   simp[h1] at hy
   subst hy
   exact hx
  ·rw[List.getElem?_eq_none (by simp;omega)] at hy
   cases hy
theorem Aim {w:World} {base:Nat} {a:Addr} {n:Nat} {cs:List Value} (h:w.cells? base a n=some cs):base≤a.block∧cs.length=n∧∀(j:Nat) (v:Value),cs[j]?=some v→w.cell? (a.add j)=some v:=by
 unfold World.cells? at h
 split at h
 ·rename_i hb
  refine⟨hb,by simpa using mapM_some_length h,fun j v hv=>?_⟩
  have hl:cs.length=n:=by simpa using mapM_some_length h
  have hj:j <n:=by
   have:=(List.getElem?_eq_some_iff.1 hv).1
   omega
  have:=mapM_some_get h j j (by simp[hj])
  rw[this,hv]
 ·cases h
theorem A9p {c:TC} {e:TypeId} (hu:P.underlying t=some (.slice e)) (hs:P.cellsOf e=size c) (he:Opn P c e):Bh4 P c t:=fun en w base spare held m cs y h=>by
 rcases DataW.trod_slice hu h with⟨rfl,_⟩|⟨a,len,cap,elems,rest,n,_,rfl,_,hb,qa,oa,hel,hg,_⟩
 ·exact⟨[],⟨Nat.zero_le _,fun x hx=>by cases hx⟩,fun F N nx _=>HL.cons (Hv.sl_nil (a:=none) rfl) HL.nil⟩
 ·have each:∀i,i <len→∃x:U c,Wfd c x∧∃zs,w.cells? base (a.add (i*size c)) (size c)=some zs∧∀(F:Nat→Prop) (N:Nm) (nx:Nat),FB w F→HL F N nx w (enc c x) zs:=fun i hi=>by
   have:=hg i hi
   rw[hs] at this
   have h2:elems[i]?≠none:=by
    intro h0
    rw[List.getElem?_eq_none_iff] at h0
    omega
   obtain⟨z,hz⟩:=Option.ne_none_iff_exists'.1 h2
   rw[hz] at this
   obtain⟨zs,h3,h4⟩:=Option.bind_eq_some_iff.1 this
   obtain⟨x,h5,h6⟩:=he en w base spare held n zs z h4
   exact⟨x,h5,zs,h3,h6⟩
  obtain⟨l,h1,h2⟩:=Bjo len each
  refine⟨l,⟨by omega,fun x hx=>?_⟩,fun F N nx hF=>HL.cons ?_ HL.nil⟩
  ·obtain⟨i,hi⟩:=List.getElem?_of_mem hx
   exact(h2 i x hi).1
  ·subst h1
   refine Hv.sl a qa (fun hp=>⟨rfl,?_⟩) (fun i d j x hd hx=>?_) (fun i d j x y hd hx hy=>?_)
   ·obtain⟨_,zs,h3,h4⟩:=h2 0 l[0] (by rw[List.getElem?_eq_getElem hp])
    obtain⟨_,h5,h6⟩:=Aim h3
    have bc:0 <zs.length:=by rw[h5];cases c<;>decide
    have:=h6 0 zs[0] (by rw[List.getElem?_eq_getElem bc])
    have:=World.block_lt_of_cell? w _ this
    rw[IQ,IQ] at this
    exact hF _ this
   ·obtain⟨_,zs,h3,h4⟩:=h2 i d hd
    obtain⟨v,h5,h6⟩:=(h4 F N nx hF).get hx
    refine⟨v,?_⟩
    rw[←Fa]
    exact(Aim h3).2.2 j v h5
   ·obtain⟨_,zs,h3,h4⟩:=h2 i d hd
    obtain⟨v,h5,h6⟩:=(h4 F N nx hF).get hx
    have:=(Aim h3).2.2 j v h5
    rw[Fa,hy] at this
    cases this
    exact h6
end
section
variable {H:Type} {en:TypeId×Value→H} {P:Program} {w:World} {base:Nat} {spare:Nat→Bool} {held:Bool} {F:Nat→Prop} {N:Nm} {nx:Nat}
theorem B5k {fs:Array Field} {cs:List Value} {m i:Nat} {xs:List (DataW H×List MemPlace)} {f:Field} {t:TypeId} {o k:Nat} {c:TC} (ho:Opn P c t) (hf:fs[i]?=some f) (ht:f.type=t) (yi:f.offset=o) (hk:P.cellsOf t=k) (hi:i <xs.length) (g:∀(i:Nat) (f:Field),fs[i]?=some f→DataW.trod en P w base spare held m f.type ((cs.drop f.offset).take (P.cellsOf f.type))=xs[i]?):∃x:U c,Wfd c x∧∀(F:Nat→Prop) (N:Nm) (nx:Nat),FB w F→HL F N nx w (enc c x) ((cs.drop o).take k):=by
 subst ht yi hk
 have:=g i f hf
 rw[List.getElem?_eq_getElem hi] at this
 exact ho en w base spare held m _ _ this
theorem HLd {o k:Nat} {cs:List Value} {l r:List A} (h:HL F N nx w l ((cs.drop o).take k)) (h':HL F N nx w r (cs.drop (o+k))):HL F N nx w (l++r) (cs.drop o):=by
 have e:cs.drop o=(cs.drop o).take k++cs.drop (o+k):=by
  rw[←List.drop_drop,List.take_append_drop]
 rw[e]
 exact h.append h'
theorem HLe {o:Nat} {cs:List Value} (_h:cs.length=o):HL F N nx w [] (cs.drop o):=by
 rw[List.drop_eq_nil_of_le (by omega)]
 exact HL.nil
end
theorem QW {X:Type} {next:X→X} {goes:X→El} {ps:X→List Prop} (I:X→Prop) (m:X→Nat) (h:∀x,I x→(∀p∈ps x,p)∧(BJ (goes x)=true→I (next x)∧m (next x) <m x)):
  ∀(n:Nat) (x:X),I x→m x≤n→A8 next goes ps n x∧I (Bh next goes n x)∧BJ (goes (Bh next goes n x))=false
 | 0,x,hi,hm=>by
  obtain⟨h1,h2⟩:=h x hi
  have hg:BJ (goes x)=false:=by
   cases hc:BJ (goes x) with
   |false=>rfl
   |true=>have:=(h2 hc).2;omega
  exact⟨⟨h1,hg⟩,hi,hg⟩
 | n+1,x,hi,hm=>by
  obtain⟨h1,h2⟩:=h x hi
  cases hc:BJ (goes x) with
  | false=>
   have e:Bh next goes (n+1) x=x:=by
    show(bif BJ (goes x) then _ else x)=x
    rw[hc];rfl
   rw[e]
   exact⟨⟨h1,fun hh=>by rw[hc] at hh;cases hh⟩,hi,hc⟩
  | true=>
   have e:Bh next goes (n+1) x=Bh next goes n (next x):=by
    show(bif BJ (goes x) then _ else x)=_
    rw[hc];rfl
   obtain⟨h3,h4⟩:=h2 hc
   obtain⟨g1,g2,g3⟩:=QW I m h n (next x) h3 (by omega)
   rw[e]
   exact⟨⟨h1,fun _=>g1⟩,g2,g3⟩
theorem i64_in {n:Int} (h:-9223372036854775808≤n∧n≤9223372036854775807):IntKind.i64.wrap n=n:=IntWalk.i64_in n h
def E3 (n:Int):Nat:=if n <0∨n >4611686018427387903 then 0 else if n≥1073741824 then 8 else if n≥16384 then 4 else if n≥64 then 2 else 1
def be:Nat→Nat→Ae
 |0,_=>[]
 |k+1,N=>UInt8.ofNat (N / 256^k)::be k N
def Ah5 (k:Nat):Nat:=if k=2 then 1 else if k=4 then 2 else if k=8 then 3 else 0
def FO (n:Int):Ae:=be (E3 n) (n.toNat+Ah5 (E3 n)*(64*256^(E3 n - 1)))
def val (acc:Nat) (l:Ae):Nat:=l.foldl (fun a y=>a*256+y.toNat) acc
def Ad:Ae→Int×Int×Int
 | []=>(0,0,10)
 |x::r=>if r.length+1 <2^(x.toNat / 64) then(0,0,10) else if E3 (val (x.toNat % 64) (r.take (2^(x.toNat / 64) - 1))) <2^(x.toNat / 64) then(0,0,11) else((val (x.toNat % 64) (r.take (2^(x.toNat / 64) - 1)):Int),((2^(x.toNat / 64):Nat):Int),0)
theorem Uo (x:UInt8) (r:Ae):Ad (x::r)=if r.length+1 <2^(x.toNat / 64) then(0,0,10) else if E3 (val (x.toNat % 64) (r.take (2^(x.toNat / 64) - 1))) <2^(x.toNat / 64) then(0,0,11) else((val (x.toNat % 64) (r.take (2^(x.toNat / 64) - 1)):Int),((2^(x.toNat / 64):Nat):Int),0):=rfl
theorem Nh:∀(k N:Nat),(be k N).length=k
 |0,_=>rfl
 |k+1,N=>by unfold be;rw[List.length_cons,Nh]
theorem UV (acc:Nat) (x:UInt8) (r:Ae):val acc (x::r)=val (acc*256+x.toNat) r:=rfl
theorem Qk:∀(l:Ae) (acc:Nat),val acc l=acc*256^l.length+val 0 l
 | [],acc=>by show acc=acc*256^0+0;omega
 |x::r,acc=>by
  rw[UV,UV,Qk r,Qk r (0*256+x.toNat),List.length_cons,Nat.pow_succ,Nat.zero_mul,Nat.zero_add,Nat.add_mul,Nat.mul_assoc,Nat.mul_comm 256]
  omega
theorem Alv:∀(l:Ae),val 0 l <256^l.length
 | []=>by show 0 <256^0;decide
 |x::r=>by
  rw[UV,Qk,List.length_cons,Nat.pow_succ,Nat.zero_mul,Nat.zero_add]
  have h1:=Alv r
  have h2:x.toNat+1≤256:=x.toNat_lt
  have:=Nat.mul_le_mul_right (256^r.length) h2
  rw[Nat.add_mul,Nat.one_mul] at this
  rw[Nat.mul_comm (256^r.length)]
  omega
theorem Bcw:∀(k N a:Nat),be k (N+a*256^k)=be k N
 |0,_,_=>rfl
 |k+1,N,a=>by
  unfold be
  have h:N+a*256^(k+1)=N+a*256*256^k:=by rw[Nat.pow_succ,Nat.mul_assoc,Nat.mul_comm (256^k)]
  rw[h,Bcw k N (a*256),Nat.add_mul_div_right _ _ (Nat.pow_pos (by decide))]
  congr 1
  apply UInt8.toNat_inj.1
  rw[UInt8.toNat_ofNat',UInt8.toNat_ofNat']
  omega
theorem Bpm:∀(l:Ae),be l.length (val 0 l)=l
 | []=>rfl
 | x::r=>by
  rw[List.length_cons]
  have e:val 0 (x::r)=val 0 r+x.toNat*256^r.length:=by
   rw[UV,Qk,Nat.zero_mul,Nat.zero_add,Nat.add_comm]
  unfold be
  rw[e,Bcw,Bpm r,Nat.add_mul_div_right _ _ (Nat.pow_pos (by decide)),Nat.div_eq_of_lt (Alv r),Nat.zero_add]
  congr 1
  exact UInt8.ofNat_toNat
theorem Bt9:∀(k N acc:Nat),val acc (be k N)=acc*256^k+N % 256^k
 |0,N,acc=>by show acc=acc*256^0+N % 256^0;omega
 |k+1,N,acc=>by
  unfold be
  have h8:(UInt8.ofNat (N / 256^k)).toNat=N / 256^k % 256:=by rw[UInt8.toNat_ofNat']
  have hm:=Nat.mod_pow_succ (x:=N) (b:=256) (k:=k)
  rw[UV,Bt9 k,h8,hm,Nat.pow_succ,Nat.add_mul,Nat.mul_assoc,Nat.mul_comm 256 (256^k),Nat.mul_comm (256^k) (N / 256^k % 256)]
  omega
def szs (k:Nat):Prop:=k=1∨k=2∨k=4∨k=8
theorem Bb9 {n:Int} (_h0:0≤n) (_h1:n≤4611686018427387903):szs (E3 n)∧n.toNat <64*256^(E3 n - 1):=by
 unfold E3 szs
 rw[if_neg (by omega)]
 split
 ·exact⟨by decide,by show n.toNat <64*256^7;omega⟩
 ·split
  ·exact⟨by decide,by show n.toNat <64*256^3;omega⟩
  ·split
   ·exact⟨by decide,by show n.toNat <64*256^1;omega⟩
   ·exact⟨by decide,by show n.toNat <64*256^0;omega⟩
theorem Bzu {n k:Nat} (hk:szs k) (h:n <64*256^(k - 1)):E3 n≤k∧1≤E3 n∧n≤4611686018427387903:=by
 unfold E3
 rcases hk with rfl|rfl|rfl|rfl
 ·have h':n <64:=h
  rw[if_neg (by omega),if_neg (by omega),if_neg (by omega),if_neg (by omega)];omega
 ·have h':n <64*256:=h
  rw[if_neg (by omega),if_neg (by omega),if_neg (by omega)]
  split<;>omega
 ·have h':n <64*256^3:=h
  have wi:n <1073741824:=by omega
  rw[if_neg (by omega),if_neg (by omega)]
  split
  ·omega
  ·split<;>omega
 ·have h':n <64*256^7:=h
  have wi:n <4611686018427387904:=by omega
  rw[if_neg (by omega)]
  split
  ·omega
  ·split
   ·omega
   ·split<;>omega
theorem B24 {k:Nat} (hk:szs k):Ah5 k≤3∧2^Ah5 k=k:=by
 rcases hk with rfl|rfl|rfl|rfl<;>decide
theorem Bhh {t:Nat} (h:t≤3):szs (2^t)∧Ah5 (2^t)=t:=by
 match t,h with
 |0,_=>exact⟨by unfold szs;decide,rfl⟩
 |1,_=>exact⟨by unfold szs;decide,rfl⟩
 |2,_=>exact⟨by unfold szs;decide,rfl⟩
 |3,_=>exact⟨by unfold szs;decide,rfl⟩
 |n+4,h=>omega
theorem Nj (n:Int):(FO n).length=E3 n:=Nh _ _
theorem Bv5 {n:Int} (h0:0≤n) (h1:n≤4611686018427387903) (r:Ae):Ad (FO n++r)=(n,(E3 n:Int),0):=by
 obtain⟨hk,hn⟩:=Bb9 h0 h1
 unfold FO
 generalize fe:E3 n=k at*
 obtain⟨m,rfl⟩:∃m,k=m+1:=⟨k - 1,by unfold szs at hk;omega⟩
 obtain⟨t1,t2⟩:=B24 hk
 generalize Ah5 (m+1)=t at*
 rw[Nat.add_sub_cancel] at hn⊢
 have hp:0 <256^m:=Nat.pow_pos (by decide)
 have e1:(n.toNat+t*(64*256^m)) / 256^m=n.toNat / 256^m+t*64:=by rw[←Nat.mul_assoc,Nat.add_mul_div_right _ _ hp]
 have e2:n.toNat / 256^m <64:=by rw[Nat.div_lt_iff_lt_mul hp];exact hn
 have e3:(n.toNat+t*(64*256^m)) % 256^m=n.toNat % 256^m:=by rw[←Nat.mul_assoc,Nat.add_mul_mod_self_right]
 unfold be
 rw[e1]
 have aux:∀q:Nat,q <64→(UInt8.ofNat (q+t*64)).toNat=q+t*64∧(q+t*64) / 64=t∧(q+t*64) % 64=q:=fun q hq=>by
  rw[UInt8.toNat_ofNat']
  omega
 obtain⟨hx,ht,hm⟩:=aux _ e2
 show Ad (UInt8.ofNat (n.toNat / 256^m+t*64)::(be m (n.toNat+t*(64*256^m))++r))=_
 rw[Uo,hx,ht,hm,t2,Nat.add_sub_cancel]
 have hl:(be m (n.toNat+t*(64*256^m))++r).take m=be m (n.toNat+t*(64*256^m)):=by
  rw[List.take_append_of_le_length (by rw[Nh];exact Nat.le_refl _),List.take_of_length_le (by rw[Nh];exact Nat.le_refl _)]
 rw[hl,Bt9,e3]
 have hv:n.toNat / 256^m*256^m+n.toNat % 256^m=n.toNat:=by rw[Nat.mul_comm];exact Nat.div_add_mod _ _
 rw[hv,if_neg (by rw[List.length_append,Nh];omega)]
 have yg:(n.toNat:Int)=n:=Int.toNat_of_nonneg h0
 rw[yg,fe,if_neg (by omega)]
theorem Bw2 {b:Ae} {n k:Int} (h:Ad b=(n,k,0)):0≤n∧n≤4611686018427387903∧k=(E3 n:Int)∧E3 n≤b.length∧b.take (E3 n)=FO n:=by
 cases b with
 |nil=>cases h
 | cons x r=>
  rw[Uo] at h
  split at h
  ·cases h
  ·rename_i hlen
   split at h
   ·cases h
   ·rename_i bc
    have hxl:x.toNat <256:=x.toNat_lt
    obtain⟨k1,k2⟩:=Bhh (t:=x.toNat / 64) (by omega)
    generalize hK:2^(x.toNat / 64)=K at*
    obtain⟨m,rfl⟩:∃m,K=m+1:=⟨K - 1,by unfold szs at k1;omega⟩
    rw[Nat.add_sub_cancel] at*
    have sr:(r.take m).length=m:=by rw[List.length_take];omega
    have hv:=Qk (r.take m) (x.toNat % 64)
    have ae:=Alv (r.take m)
    rw[sr] at hv ae
    generalize hN:val (x.toNat % 64) (r.take m)=M at*
    have hM:M <64*256^m:=by
     have:x.toNat % 64+1≤64:=by omega
     have:=Nat.mul_le_mul_right (256^m) this
     rw[Nat.add_mul,Nat.one_mul] at this
     omega
    obtain⟨s1,s2,s3⟩:=Bzu k1 (by rw[Nat.add_sub_cancel];exact hM)
    have hs:E3 (M:Int)=m+1:=by omega
    injection h with h1 h
    injection h with h2 h3
    subst h1
    refine⟨by omega,by omega,by rw[hs,←h2],by rw[hs,List.length_cons];omega,?_⟩
    rw[hs]
    unfold FO
    rw[hs,k2,Nat.add_sub_cancel,Int.toNat_natCast]
    have e:M+x.toNat / 64*(64*256^m)=val 0 (x::r.take m):=by
     rw[UV,Nat.zero_mul,Nat.zero_add,Qk,sr,hv,←Nat.mul_assoc]
     have hx:=Nat.div_add_mod x.toNat 64
     have:x.toNat*256^m=(x.toNat / 64*64+x.toNat % 64)*256^m:=by congr 1;omega
     rw[this,Nat.add_mul]
     omega
    rw[e]
    have hb:=Bpm (x::r.take m)
    rw[List.length_cons,sr] at hb
    rw[hb]
    rfl
theorem Bpl:∀(k N i:Nat),i <k→(be k N)[i]?=some (UInt8.ofNat (N / 256^(k - 1 - i)))
 |0,_,_,h=>by omega
 |k+1,N,0,_=>by unfold be;rfl
 |k+1,N,i+1,h=>by
  unfold be
  rw[List.getElem?_cons_succ,Bpl k N i (by omega)]
  have:k - 1 - i=k+1 - 1 - (i+1):=by omega
  rw[this]
theorem Bh8 {k N i:Nat} (h:i <k):(be k N).take (i+1)=(be k N).take i++[UInt8.ofNat (N / 256^(k - 1 - i))]:=by
 rw[List.take_add_one,Bpl k N i h]
 rfl
theorem Bkc (j:Nat):(2:Int)^(8*j)=((256^j:Nat):Int):=by
 rw[Int.pow_mul]
 norm_cast
theorem Bst {n:Int} {k i:Nat} (hn:0≤n) (_hk:k≤8) (_hi:i <k):
  UInt8.ofNat (IntKind.u8.wrap (n.fdiv ((2:Int)^min (IntKind.u64.wrap (IntKind.i64.wrap ((8:Int)*IntKind.i64.wrap (IntKind.i64.wrap ((k:Int) - (1:Int)) - (i:Int))))).toNat (64:Nat)))).toNat=UInt8.ofNat (n.toNat / 256^(k - 1 - i)):=by
 have e1:IntKind.u64.wrap (IntKind.i64.wrap ((8:Int)*IntKind.i64.wrap (IntKind.i64.wrap ((k:Int) - (1:Int)) - (i:Int))))=((8*(k - 1 - i):Nat):Int):=by
  rw[i64_in (n:=(k:Int) - 1) (by omega),i64_in (n:=(k:Int) - 1 - (i:Int)) (by omega),i64_in (by omega),IntWalk.u64_in _ (by omega)]
  omega
 rw[e1,Int.toNat_natCast,Nat.min_eq_left (by omega),Bkc]
 have e2:n=(n.toNat:Int):=(Int.toNat_of_nonneg hn).symm
 have e3:n.fdiv ((256^(k - 1 - i):Nat):Int)=((n.toNat / 256^(k - 1 - i):Nat):Int):=by
  rw[Int.fdiv_eq_ediv_of_nonneg _ (Int.natCast_nonneg _)]
  conv=>lhs;rw[e2]
  exact(Int.natCast_ediv _ _).symm
 rw[e3]
 generalize n.toNat / 256^(k - 1 - i)=q
 have e4:IntKind.u8.wrap (q:Int)=((q % 256:Nat):Int):=by
  rw[IntKind.wrap_u8]
  omega
 rw[e4,Int.toNat_natCast]
 apply UInt8.toNat_inj.1
 rw[UInt8.toNat_ofNat',UInt8.toNat_ofNat']
 omega
theorem B2f:∀(t:Fin 4) (q:Fin 64),(BitVec.ofInt 8 (q.val:Int) ||| BitVec.ofInt 8 ((64*t.val:Nat):Int)).toNat=q.val+t.val*64:=by decide+kernel
theorem Bwu {q t:Nat} (hq:q <64) (ht:t <4):UInt8.ofNat (IntKind.u8.wrap ((BitVec.ofInt 8 (((UInt8.ofNat q).toNat:Nat):Int) ||| BitVec.ofInt 8 ((64*t:Nat):Int)).toNat:Int)).toNat=UInt8.ofNat (q+t*64):=by
 have h1:(UInt8.ofNat q).toNat=q:=by rw[UInt8.toNat_ofNat'];omega
 rw[h1,B2f ⟨t,ht⟩ ⟨q,hq⟩,IntWalk.u8_in _ (by show 0≤((q+t*64:Nat):Int)∧((q+t*64:Nat):Int)≤255;omega),Int.toNat_natCast]
theorem A5t {m N t:Nat} (b:Ae) (hN:N <64*256^m) (ht:t <4) (d:UInt8):
  (b++be (m+1) N).set b.length (UInt8.ofNat (IntKind.u8.wrap ((BitVec.ofInt 8 ((((b++be (m+1) N).getD b.length d).toNat:Nat):Int) ||| BitVec.ofInt 8 ((64*t:Nat):Int)).toNat:Int)).toNat)=b++be (m+1) (N+t*(64*256^m)):=by
 have hp:0 <256^m:=Nat.pow_pos (by decide)
 have e2:N / 256^m <64:=by rw[Nat.div_lt_iff_lt_mul hp];exact hN
 have e0:be (m+1) N=UInt8.ofNat (N / 256^m)::be m N:=rfl
 have e1:be (m+1) (N+t*(64*256^m))=UInt8.ofNat (N / 256^m+t*64)::be m N:=by
  show UInt8.ofNat ((N+t*(64*256^m)) / 256^m)::be m (N+t*(64*256^m))=_
  rw[←Nat.mul_assoc,Bcw,Nat.add_mul_div_right _ _ hp]
 have hg:(b++be (m+1) N).getD b.length d=UInt8.ofNat (N / 256^m):=by
  rw[e0,List.getD_eq_getElem?_getD,List.getElem?_append_right (Nat.le_refl _),Nat.sub_self]
  rfl
 rw[hg,Bwu e2 ht,e0,e1,List.set_append_right _ _ (Nat.le_refl _),Nat.sub_self]
 rfl
theorem Bwv {a:Nat} (ha:a <64*256^6) {y:UInt8}:IntKind.i64.wrap ((BitVec.ofInt 64 (IntKind.i64.wrap ((a:Int)*256)) ||| BitVec.ofInt 64 (IntKind.i64.wrap ((y.toNat:Nat):Int))).toNat:Int)=((a*256+y.toNat:Nat):Int):=by
 have hy:y.toNat <256:=y.toNat_lt
 have h6:64*256^6=18014398509481984:=by decide
 rw[h6] at ha
 rw[i64_in (n:=(a:Int)*256) (by omega),i64_in (n:=((y.toNat:Nat):Int)) (by omega)]
 have e1:(a:Int)*256=((a*256:Nat):Int):=by omega
 have e2:(BitVec.ofInt 64 ((a*256:Nat):Int) ||| BitVec.ofInt 64 ((y.toNat:Nat):Int)).toNat=a*256+y.toNat:=by
  rw[BitVec.toNat_or,BitVec.toNat_ofInt,BitVec.toNat_ofInt]
  have m1:(((a*256:Nat):Int) % ((2^64:Nat):Int)).toNat=2^8*a:=by omega
  have m2:(((y.toNat:Nat):Int) % ((2^64:Nat):Int)).toNat=y.toNat:=by omega
  rw[m1,m2,←Nat.two_pow_add_eq_or_of_lt hy]
  omega
 rw[e1,e2,i64_in (by omega)]
theorem Bcc (a:Nat) (L:Ae) (i:Nat) (h:i <L.length) {d:UInt8}:((val a (L.take i)*256+(L.getD i d).toNat:Nat):Int)=(val a (L.take (i+1)):Int):=by
 have e:L.take (i+1)=L.take i++[L.getD i d]:=by
  rw[List.take_add_one,List.getD_eq_getElem?_getD,List.getElem?_eq_getElem h]
  rfl
 rw[e]
 unfold val
 rw[List.foldl_append]
 rfl
theorem B5z (x:UInt8):IntKind.i64.wrap ((1:Int)*(2:Int)^min ((((x.toNat:Nat):Int)).fdiv (64:Int)).toNat (64:Nat))=((2^(x.toNat / 64):Nat):Int):=by
 have hx:x.toNat <256:=x.toNat_lt
 have e:((((x.toNat:Nat):Int)).fdiv (64:Int)).toNat=x.toNat / 64:=by
  rw[Int.fdiv_eq_ediv_of_nonneg _ (by decide)]
  omega
 rw[e,Nat.min_eq_left (by omega)]
 have:x.toNat / 64≤3:=by omega
 generalize x.toNat / 64=t at*
 match t,this with
 |0,_=>rfl
 |1,_=>rfl
 |2,_=>rfl
 |3,_=>rfl
 |n+4,h=>omega
theorem Br2:∀q:Fin 256,(BitVec.ofInt 8 (q.val:Int) &&& BitVec.ofInt 8 63).toNat=q.val % 64:=by decide+kernel
theorem Bv4 (x:UInt8):IntKind.i64.wrap (IntKind.u8.wrap ((BitVec.ofInt 8 ((x.toNat:Nat):Int) &&& BitVec.ofInt 8 63).toNat:Int))=((x.toNat % 64:Nat):Int):=by
 have hx:x.toNat <256:=x.toNat_lt
 rw[Br2 ⟨x.toNat,hx⟩,IntWalk.u8_in _ (by show 0≤((x.toNat % 64:Nat):Int)∧((x.toNat % 64:Nat):Int)≤255;omega),i64_in (by show -9223372036854775808≤((x.toNat % 64:Nat):Int)∧((x.toNat % 64:Nat):Int)≤9223372036854775807;omega)]
theorem A1e {X:Type} (mk:Nat→X) (n:Nat) (stop:Nat→Bool) (next:X→X) (goes:X→El) (ps:X→List Prop) (hg:∀i,i≤n→(∀j,j <i→stop j=false)→BJ (goes (mk i))=(decide (i <n)&&!stop i)) (hn:∀i,i <n→(∀j,j <i+1→stop j=false)→next (mk i)=mk (i+1)) (hp:∀i,i≤n→(∀j,j <i→stop j=false)→∀p∈ps (mk i),p):
  ∀(f i:Nat),i≤n→n≤i+f→(∀j,j <i→stop j=false)→
  A8 next goes ps f (mk i)∧∃k,k≤n∧Bh next goes f (mk i)=mk k∧(∀j,j <k→stop j=false)∧(k <n→stop k=true)
 |0,i,hi,hf,hs=>by
  have hc:=hg i hi hs
  have:i=n:=by omega
  rw[decide_eq_false (by omega),Bool.false_and] at hc
  exact⟨⟨hp i hi hs,hc⟩,i,hi,rfl,hs,fun h=>by omega⟩
 | f +1,i,hi,hf,hs=>by
  have hc:=hg i hi hs
  cases hb:BJ (goes (mk i)) with
  | false=>
   have e:Bh next goes (f+1) (mk i)=mk i:=by
    show(bif BJ (goes (mk i)) then _ else mk i)=mk i
    rw[hb];rfl
   rw[e]
   refine⟨⟨hp i hi hs,fun h=>by rw[hb] at h;cases h⟩,i,hi,rfl,hs,fun h=>?_⟩
   rw[hb,decide_eq_true h,Bool.true_and] at hc
   cases hst:stop i with
   |true=>rfl
   |false=>rw[hst] at hc;cases hc
  | true=>
   rw[hb] at hc
   have h1:i <n:=by
    cases hd:decide (i <n) with
    |true=>exact of_decide_eq_true hd
    |false=>rw[hd] at hc;cases hc
   have h2:stop i=false:=by
    cases hst:stop i with
    |false=>rfl
    |true=>rw[hst,Bool.and_comm] at hc;cases hc
   have kb:∀j,j <i+1→stop j=false:=fun j hj=>by
    by_cases h:j <i
    ·exact hs j h
    ·obtain rfl:j=i:=by omega
     exact h2
   have e:Bh next goes (f+1) (mk i)=Bh next goes f (mk (i+1)):=by
    show(bif BJ (goes (mk i)) then Bh next goes f (next (mk i)) else mk i)=_
    rw[hb,hn i h1 kb];rfl
   obtain⟨g1,g2⟩:=A1e mk n stop next goes ps hg hn hp f (i+1) h1 (by omega) kb
   rw[e]
   exact⟨⟨hp i hi hs,fun _=>by rw[hn i h1 kb];exact g1⟩,g2⟩
theorem Bg7 {X:Type} (mk:Nat→X) (n:Nat) (stop:Nat→Bool) (next:X→X) (goes:X→El) (ps:X→List Prop) (f:Nat) (x:X) (hx:x=mk 0) (_hf:n≤f) (hg:∀i,i≤n→(∀j,j <i→stop j=false)→BJ (goes (mk i))=(decide (i <n)&&!stop i)) (hn:∀i,i <n→(∀j,j <i+1→stop j=false)→next (mk i)=mk (i+1)) (hp:∀i,i≤n→(∀j,j <i→stop j=false)→∀p∈ps (mk i),p):
  A8 next goes ps f x∧∃k,k≤n∧Bh next goes f x=mk k∧(∀j,j <k→stop j=false)∧(k <n→stop k=true):=by
 subst hx
 exact A1e mk n stop next goes ps hg hn hp f 0 (Nat.zero_le _) (by omega) fun j h=>absurd h (Nat.not_lt_zero _)
theorem MO {i:Nat} (_h:i <9223372036854775807):IntKind.i64.wrap ((i:Int)+1)=((i+1:Nat):Int):=by rw[i64_in (by omega)];omega
theorem T4 {i n:Nat}:decide ((i:Int) <(n:Int))=decide (i <n):=by
 by_cases h:i <n
 ·rw[decide_eq_true h,decide_eq_true (by omega)]
 ·rw[decide_eq_false h,decide_eq_false (by omega)]
theorem nn (b:Bool):(!!b)=b:=Bool.not_not b
theorem A65 {α:Type} (l:List α) (d:α) (p:α→Bool) (k:Nat) (_hk:k≤l.length) (h1:∀j,j <k→p (l.getD j d)=true) (h2:k <l.length→p (l.getD k d)=false):l.all p=decide (¬k <l.length):=by
 by_cases h:k <l.length
 ·rw[decide_eq_false (by omega)]
  have:=h2 h
  rw[List.getD_eq_getElem?_getD,List.getElem?_eq_getElem h,Option.getD_some] at this
  cases ha:l.all p with
  |false=>rfl
  |true=>rw[List.all_eq_true.1 ha _ (List.getElem_mem h)] at this;cases this
 ·rw[decide_eq_true (by omega)]
  refine List.all_eq_true.2 fun x hx=>?_
  obtain⟨i,hi,rfl⟩:=List.mem_iff_getElem.1 hx
  have:=h1 i (by omega)
  rw[List.getD_eq_getElem?_getD,List.getElem?_eq_getElem hi,Option.getD_some] at this
  exact this
def AJ (n:Nat):Prop:=n≤9223372036854775807
def Kz (n:Nat) (p:Nat→Bool):Bool:=(List.range n).all p
theorem Hj {n:Nat} {p:Nat→Bool}:Kz n p=true↔∀i,i <n→p i=true:=by
 unfold Kz
 rw[List.all_eq_true]
 exact⟨fun h i hi=>h i (List.mem_range.2 hi),fun h i hi=>h i (List.mem_range.1 hi)⟩
theorem MT {n:Nat} {p q:Nat→Bool} (h:∀i,i <n→p i=q i):Kz n p=Kz n q:=by
 rw[Bool.eq_iff_iff,Hj,Hj]
 exact⟨fun g i hi=>(h i hi)▸g i hi,fun g i hi=>(h i hi).symm▸g i hi⟩
theorem Tg {X:Type} (mk:Nat→X) (n:Nat) (bad:Nat→Bool) (next:X→X) (goes:X→El) (ps:X→List Prop) (f:Nat) (x:X) (hx:x=mk 0) (hf:n≤f) (hg:∀i,i≤n→(∀j,j <i→bad j=false)→BJ (goes (mk i))=(decide (i <n)&&!bad i)) (hn:∀i,i <n→(∀j,j <i+1→bad j=false)→next (mk i)=mk (i+1)) (hp:∀i,i≤n→(∀j,j <i→bad j=false)→∀p∈ps (mk i),p):
  A8 next goes ps f x∧∃k,k≤n∧Bh next goes f x=mk k∧(∀j,j <k→bad j=false)∧(k <n→bad k=true)∧(decide (k <n)&&bad k)=!Kz n (fun i=>!bad i):=by
 obtain⟨h1,k,hk,h2,h3,h4⟩:=Bg7 mk n bad next goes ps f x hx hf hg hn hp
 refine⟨h1,k,hk,h2,h3,h4,?_⟩
 by_cases h:k <n
 ·rw[decide_eq_true h,h4 h]
  cases ha:Kz n (fun i=>!bad i) with
  |false=>rfl
  |true=>have:=Hj.1 ha k h;rw[h4 h] at this;cases this
 ·rw[decide_eq_false h,Hj.2 (fun i hi=>by rw[h3 i (by omega)];rfl)]
  rfl
theorem Bpj {α:Type} (l:List α) (d:α) (p:α→Bool):l.all p=Kz l.length (fun i=>p (l.getD i d)):=by
 rw[Bool.eq_iff_iff,List.all_eq_true,Hj]
 constructor
 ·intro h i hi
  rw[List.getD_eq_getElem?_getD,List.getElem?_eq_getElem hi,Option.getD_some]
  exact h _ (List.getElem_mem hi)
 ·intro h x hx
  obtain⟨i,hi,rfl⟩:=List.mem_iff_getElem.1 hx
  have:=h i hi
  rw[List.getD_eq_getElem?_getD,List.getElem?_eq_getElem hi,Option.getD_some] at this
  exact this
theorem Bzw {α β:Type} (l:List α) (r:List β) (d:α) (e:β) (p:α→β→Bool) (h:r.length=l.length):(l.zip r).all (fun x=>p x.1 x.2)=Kz l.length (fun i=>p (l.getD i d) (r.getD i e)):=by
 rw[Bpj (l.zip r) (d,e),List.length_zip,h,Nat.min_self]
 refine MT fun i hi=>?_
 rw[List.getD_eq_getElem?_getD,List.getD_eq_getElem?_getD,List.getD_eq_getElem?_getD,List.getElem?_eq_getElem (by rw[List.length_zip];omega),List.getElem?_eq_getElem hi,List.getElem?_eq_getElem (by omega),List.getElem_zip]
 rfl
theorem B7h (n:Nat):(n==0)=!decide (1≤n):=by cases n<;>simp
theorem A7b (n:Nat):((n:Int)==0)=(n==0):=by cases n<;>simp;omega
theorem dgt (n k:Nat):decide ((n:Int) >(k:Int))=decide (k <n):=decide_eq_decide.2 (by omega)
instance:LawfulBEq ByteArray where
 rfl:=fun {a}=>by cases a with|mk a=>exact beq_self_eq_true a
 eq_of_beq:=fun {a b} h=>by
  cases a with|mk a=>cases b with|mk b=>exact congrArg ByteArray.mk (eq_of_beq (α:=Array UInt8) h)
theorem Asy:∀(m:List (ByteArray×Int)) (b:ByteArray) (v:Int) (x:ByteArray),MF (Aak m b v) x=if x=b then v else MF m x
 | [],b,v,x=>by
  by_cases h:x=b
  ·subst h;simp[Aak,MF]
  ·simp[Aak,MF,h,show(x==b)=false from beq_eq_false_iff_ne.2 h]
 | (a,n)::r,b,v,x=>by
  unfold Aak
  by_cases h:b=a
  ·subst h
   rw[show(b==b)=true from beq_self_eq_true b,cond_true]
   by_cases hx:x=b
   ·subst hx;simp[MF]
   ·simp[MF,hx,show(x==b)=false from beq_eq_false_iff_ne.2 hx]
  ·rw[show(b==a)=false from beq_eq_false_iff_ne.2 h,cond_false]
   by_cases hx:x=a
   ·subst hx
    rw[if_neg (fun e=>h e.symm)]
    simp[MF]
   ·simp only[MF,show(x==a)=false from beq_eq_false_iff_ne.2 hx,cond_false]
    exact Asy r b v x
def XK (b:UInt8):Bool:=decide (97≤b.toNat)&&decide (b.toNat≤122)
def Mu (s:ByteArray):Bool:=s.data.toList.all XK&&(decide (1≤s.size)&&decide (s.size≤12))
def Z9 (p:Int):Bool:=p==1||p==2
def XA:List ByteArray→List Ab→Int
 |_,[]=>0
 |seen,g::r=>bif !(Mu g.name&&Z9 g.policy) then 2 else bif seen.any (fun s=>s==g.name) then 70 else XA (seen++[g.name]) r
def AI (l:List Ab):Int:=bif l.length==0 then 2 else bif decide (4 <l.length) then 3 else XA [] l
theorem Nx (s:ByteArray):s.data.toList.length=s.size:=by show s.data.toList.length=s.data.size;exact Array.length_toList
theorem Bq5 (s:ByteArray) (i:Nat) (h:i <s.size):s.data.toList.getD i 0=s[i]'h:=by
 rw[List.getD_eq_getElem?_getD,List.getElem?_eq_getElem (by rw[Nx];exact h)]
 rfl
theorem Bbz (s:ByteArray) (i:Nat) (h:i <s.size):(decide (((Utf8.decode s i).1:Int) <97)||decide (((Utf8.decode s i).1:Int) >122))=!XK (s.data.toList.getD i 0)∧(XK (s.data.toList.getD i 0)=true→(Utf8.decode s i).2=1):=by
 rw[Bq5 s i h]
 by_cases hb:(s[i]'h).toNat <128
 ·rw[decode_ascii s i h hb]
  refine⟨?_,fun _=>rfl⟩
  unfold XK
  rw[Bool.not_and,←decide_not,←decide_not]
  congr 1<;>exact decide_eq_decide.2 (by omega)
 ·have h2:=(decode_high s i h (by omega)).1
  have hl:XK (s[i]'h)=false:=by unfold XK;rw[decide_eq_false (p:=(s[i]'h).toNat≤122) (by omega),Bool.and_false]
  rw[hl]
  refine⟨?_,fun h=>by cases h⟩
  rw[decide_eq_true (p:=((Utf8.decode s i).1:Int) >122) (by omega),Bool.or_true]
  rfl
theorem SI {l:List Ab} (h:AI l=0):1≤l.length∧l.length≤4:=by
 unfold AI at h
 cases h1:l.length==0 with
 |true=>rw[h1] at h;cases h
 | false=>
  rw[h1] at h
  cases h2:decide (4 <l.length) with
  |true=>rw[h2] at h;cases h
  |false=>
   have:=of_decide_eq_false h2
   have h3:l.length≠0:=by simpa using h1
   omega
theorem Az8 (l:List Ab) (k:Nat) (seen:List ByteArray):(∀j,j <k→j <l.length→(Mu (l.getD j (Av TC.group)).name&&Z9 (l.getD j (Av TC.group)).policy)=true∧(seen++(l.take j).map (·.name)).any (fun s=>s==(l.getD j (Av TC.group)).name)=false)→
  XA seen l=XA (seen++(l.take k).map (·.name)) (l.drop k):=by
 induction l generalizing k seen with
 |nil=>intro _;simp[XA]
 | cons g r ih=>
  intro h
  cases k with
  |zero=>simp
  | succ k=>
   obtain⟨h1,h2⟩:=h 0 (Nat.succ_pos _) (Nat.succ_pos _)
   have bt:(Mu g.name&&Z9 g.policy)=true:=h1
   have et:seen.any (fun s=>s==g.name)=false:=by simpa using h2
   rw[XA,bt,et,Bool.not_true,cond_false,cond_false]
   rw[ih k (seen++[g.name]) (fun j hj hl=>by
    have:=h (j+1) (by omega) (by simpa using hl)
    simpa[List.append_assoc] using this)]
   simp[List.append_assoc]
def Wj (l:List Ab):Nat→List (ByteArray×Int)
 |0=>[]
 |i+1=>Aak (Wj l i) (l.getD i (Av TC.group)).1 (IntKind.i64.wrap (MF (Wj l i) (l.getD i (Av TC.group)).1+1))
def WQ (l:List Ab) (i:Nat):Bool:=!(Mu (l.getD i (Av TC.group)).1&&Z9 (l.getD i (Av TC.group)).2)||((l.take i).map (·.name)).any (fun s=>s==(l.getD i (Av TC.group)).1)
theorem Bhi (l:List Ab) (i:Nat) (h:i <l.length):(l.take (i+1)).map (·.name)=(l.take i).map (·.name)++[(l.getD i (Av TC.group)).1]:=by
 rw[List.take_add_one,List.getD_eq_getElem?_getD,List.getElem?_eq_getElem h,List.map_append]
 rfl
theorem Asx (l:List Ab):∀(i:Nat),i≤l.length→(∀j,j <i→WQ l j=false)→∀x,MF (Wj l i) x=bif((l.take i).map (·.name)).any (fun s=>s==x) then 1 else 0
 |0,_,_,x=>by simp[Wj,MF]
 | i+1,hi,hs,x=>by
  have ih:=Asx l i (by omega) (fun j hj=>hs j (by omega))
  have h:=hs i (Nat.lt_succ_self i)
  unfold WQ at h
  have h2:=(Bool.or_eq_false_iff.1 h).2
  unfold Wj
  rw[Asy,ih,h2,Bhi l i (by omega),List.any_append,ih]
  by_cases hx:x=(l.getD i (Av TC.group)).1
  ·subst hx
   rw[if_pos rfl]
   simp
   decide
  ·rw[if_neg hx]
   have:([(l.getD i (Av TC.group)).1].any fun s=>s==x)=false:=by
    simp only[List.any_cons,List.any_nil,Bool.or_false]
    exact beq_eq_false_iff_ne.2 fun e=>hx e.symm
   rw[this,Bool.or_false]
def Bkb:BitVec 32:=79764919#32
def crS (r:BitVec 32):BitVec 32:=(r <<< 1)^^^(bif r.getLsbD 31 then Bkb else 0#32)
def crT (r:BitVec 32) (b:Bool):BitVec 32:=(r <<< 1)^^^(bif r.getLsbD 31^^b then Bkb else 0#32)
def cr8 (r:BitVec 32):BitVec 32:=crS (crS (crS (crS (crS (crS (crS (crS r)))))))
def hiB (x:UInt8):BitVec 32:=BitVec.ofNat 32 x.toNat <<< 24
def byB (r:BitVec 32) (x:UInt8):BitVec 32:=cr8 (r^^^hiB x)
def crB (r:BitVec 32) (l:Ae):BitVec 32:=l.foldl byB r
def LK (l:Ae):BitVec 32:= ~~~ (crB (BitVec.allOnes 32) l)
def B6p (s:BitVec 32):Ae:=[UInt8.ofNat (s.toNat / 2^24),UInt8.ofNat (s.toNat / 2^16),UInt8.ofNat (s.toNat / 2^8),UInt8.ofNat s.toNat]
def Bd3 (l:Ae):Ae:=l++B6p (LK l)
def PT (b:Ae):Bool:=decide (4≤b.length)&&(b==Bd3 (b.take (b.length - 4)))
theorem Xl (r y:BitVec 32):crS (r^^^y)=crT r (y.getLsbD 31)^^^(y <<< 1):=by
 unfold crS crT
 rw[BitVec.getLsbD_xor]
 apply BitVec.eq_of_getLsbD_eq
 intro i hi
 simp only[BitVec.getLsbD_xor,BitVec.getLsbD_shiftLeft,decide_eq_true hi]
 cases r.getLsbD 31<;>cases y.getLsbD 31<;>cases decide (i <1)<;>cases r.getLsbD (i - 1)<;>cases y.getLsbD (i - 1)<;>simp
def Bdj (r:BitVec 32) (x:UInt8):BitVec 32:=crT (crT (crT (crT (crT (crT (crT (crT r (x.toNat.testBit 7)) (x.toNat.testBit 6)) (x.toNat.testBit 5)) (x.toNat.testBit 4)) (x.toNat.testBit 3)) (x.toNat.testBit 2)) (x.toNat.testBit 1)) (x.toNat.testBit 0)
theorem XB (x:UInt8) (j k:Nat) (hk:j≤7∧k=7 - j):((hiB x) <<< j).getLsbD 31=x.toNat.testBit k:=by
 obtain⟨h1,rfl⟩:=hk
 unfold hiB
 rw[BitVec.getLsbD_shiftLeft,BitVec.getLsbD_shiftLeft,BitVec.getLsbD_ofNat]
 have e1:decide (31 <32)=true:=by decide
 have e2:decide (31 <j)=false:=decide_eq_false (by omega)
 have e3:decide (31 - j <32)=true:=decide_eq_true (by omega)
 have e4:decide (31 - j <24)=false:=decide_eq_false (by omega)
 have e5:decide (31 - j - 24 <32)=true:=decide_eq_true (by omega)
 rw[e1,e2,e3,e4,e5,show 31 - j - 24=7 - j by omega]
 simp
theorem B1z (x:UInt8):(hiB x) <<< 8=0#32:=by
 unfold hiB
 apply BitVec.eq_of_getLsbD_eq
 intro i hi
 rw[BitVec.getLsbD_shiftLeft,BitVec.getLsbD_shiftLeft,BitVec.getLsbD_ofNat]
 rw[show((0#32).getLsbD i)=false from by simp]
 by_cases h:i <8
 ·rw[decide_eq_true h];simp
 ·have:decide (i - 8 <24)=true:=decide_eq_true (by omega)
  rw[this];simp
theorem Bpp (r:BitVec 32) (x:UInt8):byB r x=Bdj r x:=by
 have s1:∀(y:BitVec 32) (a:Nat),y <<< a <<< 1=y <<< (a+1):=fun y a=>(BitVec.shiftLeft_add y a 1).symm
 unfold byB cr8 Bdj
 rw[Xl,Xl,s1,Xl,s1,Xl,s1,Xl,s1,Xl,s1,Xl,s1,Xl,s1,B1z]
 have h0:=XB x 0 7 (by omega)
 rw[BitVec.shiftLeft_zero] at h0
 rw[h0,XB x 1 6 (by omega),XB x 2 5 (by omega),XB x 3 4 (by omega),XB x 4 3 (by omega),XB x 5 2 (by omega),XB x 6 1 (by omega),XB x 7 0 (by omega),BitVec.xor_zero]
theorem Bvb (r:BitVec 32) (a b:Ae):crB r (a++b)=crB (crB r a) b:=List.foldl_append
theorem Bvc (r:BitVec 32) (l:Ae) (x:UInt8):crB r (l++[x])=byB (crB r l) x:=by rw[Bvb];rfl
theorem Att (l:Ae):(ByteArray.mk l.toArray).toList=l:=by rw[ByteArray.toList_eq]
abbrev wB (x:BitVec 32):Int:=(x.toNat:Int)
theorem B6q (x:BitVec 32):0≤wB x∧wB x <4294967296:=by have:=x.isLt;unfold wB;omega
theorem A50 {n:Int} (h:0≤n∧n <4294967296):IntKind.u32.wrap n=n:=by
 show n % 2^32=n
 exact Int.emod_eq_of_lt h.1 (by omega)
theorem Aua (x:BitVec 32):BitVec.ofInt 32 (wB x)=x:=by
 apply BitVec.eq_of_toNat_eq
 unfold wB
 simp
theorem Awu (x:BitVec 32):IntKind.u32.wrap (x.toNat:Int)=wB x:=A50 (B6q x)
theorem Bzr (x:BitVec 32):IntKind.u32.wrap (wB x*2)=wB (x <<< 1):=by
 show(wB x*2) % 2^32=wB (x <<< 1)
 unfold wB
 rw[BitVec.toNat_shiftLeft,Nat.shiftLeft_eq]
 omega
theorem Bzv (x:BitVec 32):(wB x).fdiv 2147483648=bif x.getLsbD 31 then 1 else 0:=by
 have hl:=x.isLt
 have e:(wB x).fdiv 2147483648=((x.toNat / 2^31:Nat):Int):=by
  unfold wB
  rw[Int.fdiv_eq_ediv_of_nonneg _ (by omega)]
  omega
 rw[e,BitVec.getLsbD,Nat.testBit_eq_decide_div_mod_eq]
 by_cases h:x.toNat <2^31
 ·rw[decide_eq_false (by omega),cond_false];omega
 ·rw[decide_eq_true (by omega),cond_true];omega
theorem B2g (b:Bool):IntKind.u32.wrap ((bif b then 1 else 0)*79764919)=wB (bif b then Bkb else 0#32):=by cases b<;>decide
theorem B7l (x:UInt8):IntKind.u32.wrap (IntKind.u32.wrap (x.toNat:Int)*16777216)=wB (hiB x):=by
 have hx:x.toNat <256:=x.toNat_lt
 unfold hiB wB
 rw[A50 (n:=(x.toNat:Int)) (by omega),A50 (by omega),BitVec.toNat_shiftLeft,Nat.shiftLeft_eq,BitVec.toNat_ofNat]
 omega
theorem Al6 (x:UInt8) (k:Nat) {d:Int} (hk:d=((2^k:Nat):Int)):IntKind.u32.wrap (((BitVec.ofInt 32 ((IntKind.u32.wrap (x.toNat:Int)).fdiv d) &&& BitVec.ofInt 32 1).toNat:Nat):Int)=bif x.toNat.testBit k then 1 else 0:=by
 subst hk
 have hx:x.toNat <256:=x.toNat_lt
 have hp:0 <2^k:=Nat.two_pow_pos k
 have hw:IntKind.u32.wrap (x.toNat:Int)=(x.toNat:Int):=A50 (by omega)
 have e:(IntKind.u32.wrap (x.toNat:Int)).fdiv ((2^k:Nat):Int)=((x.toNat / 2^k:Nat):Int):=by
  rw[hw,Int.fdiv_eq_ediv_of_nonneg _ (Int.natCast_nonneg _)]
  exact(Int.natCast_ediv _ _).symm
 have hd:x.toNat / 2^k <256:=Nat.lt_of_le_of_lt (Nat.div_le_self _ _) hx
 rw[e,Awu,Nat.testBit_eq_decide_div_mod_eq]
 unfold wB
 have h1:(BitVec.ofInt 32 1).toNat=1:=by decide
 rw[BitVec.toNat_and,h1,Nat.and_one_is_mod,BitVec.toNat_ofInt]
 have h2:∀m:Nat,m <256→((m:Int) % ((2^32:Nat):Int)).toNat=m:=fun m hm=>by omega
 rw[h2 _ hd]
 by_cases h:x.toNat / 2^k % 2=1
 ·rw[decide_eq_true h,cond_true];omega
 ·rw[decide_eq_false h,cond_false];omega
theorem Bzi (x:BitVec 32):IntKind.u32.wrap (((BitVec.ofInt 32 4294967295^^^x).toNat:Nat):Int)=wB (~~~ x):=by
 rw[Awu,show BitVec.ofInt 32 4294967295=BitVec.allOnes 32 by decide,BitVec.allOnes_xor]
theorem A12 (x:BitVec 32) (k:Nat):UInt8.ofNat (IntKind.u8.wrap ((wB x).fdiv ((2^k:Nat):Int))).toNat=UInt8.ofNat (x.toNat / 2^k):=by
 have hp:0 <2^k:=Nat.two_pow_pos k
 have e:(wB x).fdiv ((2^k:Nat):Int)=((x.toNat / 2^k:Nat):Int):=by
  unfold wB
  rw[Int.fdiv_eq_ediv_of_nonneg _ (Int.natCast_nonneg _)]
  exact(Int.natCast_ediv _ _).symm
 rw[e]
 apply UInt8.toNat_inj.1
 rw[UInt8.toNat_ofNat',UInt8.toNat_ofNat']
 show(((x.toNat / 2^k:Nat):Int) % 2^8).toNat % 2^8=_
 omega
theorem B2v {X:Type} (mk:Nat→X) (n:Nat) (next:X→X) (goes:X→El) (ps:X→List Prop) (f:Nat) (x:X) (hx:x=mk 0) (hf:n≤f) (hg:∀i,i≤n→BJ (goes (mk i))=decide (i <n)) (hn:∀i,i <n→next (mk i)=mk (i+1)) (hp:∀i,i≤n→∀p∈ps (mk i),p):A8 next goes ps f x∧Bh next goes f x=mk n:=by
 obtain⟨h1,k,hk,h2,_,h4⟩:=Bg7 mk n (fun _=>false) next goes ps f x hx hf (fun i hi _=>by rw[hg i hi,Bool.not_false,Bool.and_true]) (fun i hi _=>hn i hi) (fun i hi _=>hp i hi)
 rcases Nat.lt_or_ge k n with h|h
 ·exact absurd (h4 h) (by decide)
 ·obtain rfl:k=n:=by omega
  exact⟨h1,h2⟩
theorem A7u (r:BitVec 32) (l:Ae) (i:Nat) (h:i <l.length):crB r (l.take (i+1))=byB (crB r (l.take i)) (l.getD i 0):=by
 rw[List.take_add_one,List.getElem?_eq_getElem h,List.getD_eq_getElem?_getD,List.getElem?_eq_getElem h]
 exact Bvc _ _ _
def Ad3 (a0:Int):Int:=IntKind.u32.wrap (a0*2)
def I5 (a0 a1:Int):Int:=bif a0.fdiv 2147483648 !=a1 then IntKind.u32.wrap (↑(BitVec.ofInt 32 (Ad3 a0)^^^BitVec.ofInt 32 79764919).toNat:Int) else(Ad3 a0)
def Bnc (a0 a1:Int):A:=.v (.int .u32 (I5 a0 a1))
def Bfb (_a0 _a1:Int):List Prop:=[]
theorem A96:Gw AP 124 (Cy [.t .u32,.t .u32] 0 Bnc (fun _ _=>[]) Bfb):=Az fun a0 a1 hp=>AN (u:=9) (Au Bhz AF) (by kernel_rfl) hp
def Ars:=DM A96 ⟨C0,Bhz⟩
abbrev C9:Type:=Int×Int
def Asi (x:C9):St:=⟨29,0,[(0,.v (.int .u32 x.1)),(18,iV (x.2))],[]⟩
def We:St→Option C9
 |⟨29,0,[(0,.v (.int .u32 z0)),(18,.v (.int .i64 z1))],[]⟩=>some (z0,z1)
 |_=>none
def Ash:Em:=⟨0,0,[0,18],[],[],[],[0],[]⟩
def Asg:EQ:=⟨[],[],[0,18],[]⟩
def RX (a1:Int):Bool:=!decide (a1 <8)
def LP (a0:Int):Int:=IntKind.u32.wrap (↑(BitVec.ofInt 32 (IntKind.u32.wrap (a0*2))^^^BitVec.ofInt 32 (IntKind.u32.wrap (a0.fdiv 2147483648*79764919))).toNat:Int)
def Gr (x:C9):C9:=(LP x.1,IntKind.i64.wrap (x.2+1))
def Gq (x:C9):El:=some (!(RX x.2))
def Ug (_x:C9):List Prop:=[]
abbrev J8:C9→List Prop:=Ug
def Af0 (x:C9):BD:=[(some 2,some ((RX x.2)),⟨29,0,[(0,.v (.int .u32 x.1))],[]⟩)]
def Gp (x:C9):Nat:=(8 - x.2).toNat
def Ox (x:C9):C9:=Bh Gr Gq (Gp x) x
def Air:=Jt (Co Ars.1 L0) (Aw AP 123 2) Ash Asg We Gp Gr Gq J8 Af0
def QO:=V8 2 (g:=Air) (BX (T:=Asi) (psA:=Ug) Ars.2 AF (u:=9) (by kernel_rfl) (by decide) (fun⟨a0,a1⟩=>by kernel_rfl) (fun _ h=>h) (fun s x h=>by unfold We at h;split at h<;>first|(cases h;rfl)|cases h) (fun _=>A9 (n:=29) rfl) fun _ _=>rfl) ⟨L0,AF⟩
abbrev C8:Type:=Int×Ae×Int×Int
def Asf (x:C8):St:=⟨29,0,[(0,.v (.int .u32 x.1)),(7,.sl .u8 x.2.1),(8,iV (x.2.2.1)),(9,iV (x.2.2.2))],[]⟩
def Wd:St→Option C8
 |⟨29,0,[(0,.v (.int .u32 z0)),(7,.sl .u8 z1),(8,.v (.int .i64 z2)),(9,.v (.int .i64 z3))],[]⟩=>some (z0,z1,z2,z3)
 |_=>none
def Ase:Em:=⟨0,0,[0,7,8,9],[],[],[],[0],[]⟩
def Asd:EQ:=⟨[],[],[0,7,8,9],[]⟩
def HD (a0:Int) (a1:Ae) (a3:Int):=BitVec.ofInt 32 a0^^^BitVec.ofInt 32 (IntKind.u32.wrap (IntKind.u32.wrap (↑(UInt8.toNat (a1.getD a3.toNat (Av TC.u8))):Int)*16777216))
def Ow (a0:Int) (a1:Ae) (a3:Int):Int:=(Ox (IntKind.u32.wrap (↑(HD a0 a1 a3).toNat:Int),0)).1
def Eg:C8→C8
  |(a0,a1,a2,a3)=>(Ow a0 a1 a3,a1,a2,IntKind.i64.wrap (a3+1))
def Ef (x:C8):El:=some (!!decide (x.2.2.2 <x.2.2.1))
def Ue:C8→List Prop
  |(a0,a1,a2,a3)=>[((!!decide (a3 <a2))=true→0≤a3∧a3 <(a1.length:Int)),((!!decide (a3 <a2))=true→Aw AP (123:FuncId) 2=Aw AP (123:FuncId) 2),((!!decide (a3 <a2))=true→A8 Gr Gq J8 (Gp (IntKind.u32.wrap (↑(HD a0 a1 a3).toNat:Int),0)) (IntKind.u32.wrap (↑(HD a0 a1 a3).toNat:Int),0))]
def Fy:C8→List Prop
  |(a0,a1,a2,a3)=>[((!!decide (a3 <a2))=true→0≤a3∧a3 <(a1.length:Int)),((!!decide (a3 <a2))=true→A8 Gr Gq J8 (Gp (IntKind.u32.wrap (↑(HD a0 a1 a3).toNat:Int),0)) (IntKind.u32.wrap (↑(HD a0 a1 a3).toNat:Int),0))]
def Afz (x:C8):BD:=[(some 0,some (!decide (x.2.2.2 <x.2.2.1)),⟨29,0,[(0,.v (.int .u32 x.1))],[]⟩)]
def Ee (x:C8):Nat:=(x.2.2.1 - x.2.2.2).toNat
def Uf (x:C8):C8:=Bh Eg Ef (Ee x) x
theorem Apl (a0:Int) (a1:Ae) (a2 a3:Int) (hp:∀p∈Fy (a0,a1,a2,a3),p):∀p∈Ue (a0,a1,a2,a3),p:=
  (nT hp fun hp=>Aa (by intros;rfl) (nT hp fun _=>Ag))
def Aiq:=Jt (Co Ars.1 QO.1) (Aw AP 123 0) Ase Asd Wd Ee Eg Ef Fy Afz
def Xo:=V8 0 (g:=Aiq) (BX (T:=Asf) (psA:=Ue) Ars.2 QO.2 (u:=9) (by kernel_rfl) (by decide) (fun⟨a0,a1,a2,a3⟩=>by kernel_rfl) (fun⟨a0,a1,a2,a3⟩=>Apl a0 a1 a2 a3) (fun s x h=>by unfold Wd at h;split at h<;>first|(cases h;rfl)|cases h) (fun _=>A9 (n:=29) rfl) fun _ _=>rfl) QO
def RW (a0:Int) (a1:Ae):Int:=(Uf (a0,a1,(a1.length:Int),0)).1
def Xp (a0:Int) (a1:Ae):A:=.v (.int .u32 (RW a0 a1))
def Af1 (a0:Int) (a1:Ae):List Prop:=[(A8 Eg Ef Fy (Ee (a0,a1,(a1.length:Int),0)) (a0,a1,(a1.length:Int),0))]
theorem A2j (a0:Int) (a1:Ae):RL (Co Ars.1 Xo.1) 9 123 [AA .u32 a0,AA .bytes a1] 0 []=some (1,Xp a0 a1,0,[],[(Aw AP (123:FuncId) 0=Aw AP (123:FuncId) 0),(A8 Eg Ef Fy (Ee (a0,a1,(a1.length:Int),0)) (a0,a1,(a1.length:Int),0))]):=by kernel_rfl
theorem A7y (a0:Int) (a1:Ae) (hp:∀p∈Af1 a0 a1,p):An AP 123 [AA .u32 a0,AA .bytes a1] 0 [] 1 (Xp a0 a1) 0 []:=
  AN (Au Ars.2 Xo.2) (A2j a0 a1) (Aa rfl (nT hp fun _=>Ag))
theorem Aw1:Gw AP 123 (Cy [.t .u32,.t .bytes] 0 Xp (fun _ _=>[]) Af1):=Az A7y
def A6s:=DM Aw1 Ars
abbrev Db:Type:=Int×Ae×Int
def Au3 (x:Db):St:=⟨29,0,[(0,.v (.int .u32 x.1)),(1,.sl .u8 x.2.1),(5,iV (x.2.2))],[]⟩
def Wv:St→Option Db
 |⟨29,0,[(0,.v (.int .u32 z0)),(1,.sl .u8 z1),(5,.v (.int .i64 z2))],[]⟩=>some (z0,z1,z2)
 |_=>none
def Au2:Em:=⟨0,0,[0,1,5],[],[],[],[0],[]⟩
def Au1:EQ:=⟨[],[],[0,1,5],[]⟩
def DE (a1:Ae) (a2:Int):Int:=IntKind.u32.wrap (↑(UInt8.toNat (a1.getD a2.toNat (Av TC.u8))):Int)
def A4 (a1:Ae) (a2:Int):Bool:=!!decide (a2 <(a1.length:Int))
def LU (a0:Int) (a1:Ae) (a2:Int):Int:=I5 (I5 (I5 (I5 (I5 (I5 (I5 (I5 a0 (IntKind.u32.wrap (↑(BitVec.ofInt 32 ((DE a1 a2).fdiv 128) &&& BitVec.ofInt 32 1).toNat:Int))) (IntKind.u32.wrap (↑(BitVec.ofInt 32 ((DE a1 a2).fdiv 64) &&& BitVec.ofInt 32 1).toNat:Int))) (IntKind.u32.wrap (↑(BitVec.ofInt 32 ((DE a1 a2).fdiv 32) &&& BitVec.ofInt 32 1).toNat:Int))) (IntKind.u32.wrap (↑(BitVec.ofInt 32 ((DE a1 a2).fdiv 16) &&& BitVec.ofInt 32 1).toNat:Int))) (IntKind.u32.wrap (↑(BitVec.ofInt 32 ((DE a1 a2).fdiv 8) &&& BitVec.ofInt 32 1).toNat:Int))) (IntKind.u32.wrap (↑(BitVec.ofInt 32 ((DE a1 a2).fdiv 4) &&& BitVec.ofInt 32 1).toNat:Int))) (IntKind.u32.wrap (↑(BitVec.ofInt 32 ((DE a1 a2).fdiv 2) &&& BitVec.ofInt 32 1).toNat:Int))) (IntKind.u32.wrap (↑(BitVec.ofInt 32 ((DE a1 a2).fdiv 1) &&& BitVec.ofInt 32 1).toNat:Int))
def Fk (x:Db):Db:=(LU x.1 x.2.1 x.2.2,x.2.1,IntKind.i64.wrap (x.2.2+1))
def Fj (x:Db):El:=some ((A4 x.2.1 x.2.2))
def EA (a1:Ae) (a2:Int):=(A4 a1 a2)=true→0≤a2∧a2 <(a1.length:Int)
def UH:Db→List Prop
  |(_,a1,a2)=>[(EA a1 a2),((A4 a1 a2)=true→(0:Int)≤7),(EA a1 a2),((A4 a1 a2)=true→(0:Int)≤6),(EA a1 a2),((A4 a1 a2)=true→(0:Int)≤5),(EA a1 a2),((A4 a1 a2)=true→(0:Int)≤4),(EA a1 a2),((A4 a1 a2)=true→(0:Int)≤3),(EA a1 a2),((A4 a1 a2)=true→(0:Int)≤2),(EA a1 a2),((A4 a1 a2)=true→(0:Int)≤1),(EA a1 a2),((A4 a1 a2)=true→(0:Int)≤0)]
def Gz:Db→List Prop
  |(_,a1,a2)=>[(EA a1 a2)]
def Ag2 (x:Db):BD:=[(some 0,some (!decide (x.2.2 <(x.2.1.length:Int))),⟨29,0,[(0,.v (.int .u32 x.1))],[]⟩)]
def Fi (x:Db):Nat:=((x.2.1.length:Int) - x.2.2).toNat
def UI (x:Db):Db:=Bh Fk Fj (Fi x) x
theorem Ap1 (a0:Int) (a1:Ae) (a2:Int) (hp:∀p∈Gz (a0,a1,a2),p):∀p∈UH (a0,a1,a2),p:=by
 have n0:((A4 a1 a2)=true→(0:Int)≤a2∧a2 <(a1.length:Int)):=N0 hp
 have n1:((A4 a1 a2)=true→(0:Int)≤(7:Int)):=by omega
 have n3:((A4 a1 a2)=true→(0:Int)≤(6:Int)):=by omega
 have n5:((A4 a1 a2)=true→(0:Int)≤(5:Int)):=by omega
 have n7:((A4 a1 a2)=true→(0:Int)≤(4:Int)):=by omega
 have n9:((A4 a1 a2)=true→(0:Int)≤(3:Int)):=by omega
 have y1:((A4 a1 a2)=true→(0:Int)≤(2:Int)):=by omega
 have my:((A4 a1 a2)=true→(0:Int)≤(1:Int)):=by omega
 have y2:((A4 a1 a2)=true→(0:Int)≤(0:Int)):=by omega
 exact(Aa n0 (Aa n1 (Aa n0 (Aa n3 (Aa n0 (Aa n5 (Aa n0 (Aa n7 (Aa n0 (Aa n9 (Aa n0 (Aa y1 (Aa n0 (Aa my (Aa n0 (Aa y2 Ag))))))))))))))))
def Akb:=Jt (Co A6s.1 L0) (Aw AP 117 0) Au2 Au1 Wv Fi Fk Fj Gz Ag2
def Yi:=V8 0 (g:=Akb) (BX (T:=Au3) (psA:=UH) A6s.2 AF (u:=9) (by kernel_rfl) (by decide) (fun⟨a0,a1,a2⟩=>by kernel_rfl) (fun⟨a0,a1,a2⟩=>Ap1 a0 a1 a2) (fun s x h=>by unfold Wv at h;split at h<;>first|(cases h;rfl)|cases h) (fun _=>A9 (n:=29) rfl) fun _ _=>rfl) ⟨L0,AF⟩
def SY (a0:Int) (a1:Ae):Int:=(UI (a0,a1,0)).1
def Yj (a0:Int) (a1:Ae):A:=.v (.int .u32 (SY a0 a1))
def Ag3 (a0:Int) (a1:Ae):List Prop:=[(A8 Fk Fj Gz (Fi (a0,a1,0)) (a0,a1,0))]
theorem A4k (a0:Int) (a1:Ae):RL (Co A6s.1 Yi.1) 9 117 [AA .u32 a0,AA .bytes a1] 0 []=some (1,Yj a0 a1,0,[],[(Aw AP (117:FuncId) 0=Aw AP (117:FuncId) 0),(A8 Fk Fj Gz (Fi (a0,a1,0)) (a0,a1,0))]):=by kernel_rfl
theorem A97 (a0:Int) (a1:Ae) (hp:∀p∈Ag3 a0 a1,p):An AP 117 [AA .u32 a0,AA .bytes a1] 0 [] 1 (Yj a0 a1) 0 []:=
  AN (Au A6s.2 Yi.2) (A4k a0 a1) (Aa rfl (nT hp fun _=>Ag))
theorem Axp:Gw AP 117 (Cy [.t .u32,.t .bytes] 0 Yj (fun _ _=>[]) Ag3):=Az A97
def Byl:=DM Axp A6s
def La (a0:Int):Int:=IntKind.u32.wrap (↑(BitVec.ofInt 32 4294967295^^^BitVec.ofInt 32 a0).toNat:Int)
def Va (a0:Int) (a1:Ae):Int:=IntKind.u32.wrap (↑(BitVec.ofInt 32 4294967295^^^BitVec.ofInt 32 (RW (La a0) a1)).toNat:Int)
def Bdo (a0:Int) (a1:Ae):A:=.v (.int .u32 (Va a0 a1))
def A7v (a0:Int) (a1:Ae):List Prop:=[(A8 Eg Ef Fy (Ee ((La a0),a1,(a1.length:Int),0)) ((La a0),a1,(a1.length:Int),0))]
theorem A2f:Gw AP 113 (Cy [.t .u32,.t .bytes] 0 Bdo (fun _ _=>[]) A7v):=Az fun a0 a1 hp=>AN (u:=9) (Au Byl.2 AF) (by kernel_rfl) hp
def Bym:=DM A2f Byl
def Azv (a0:Ae):A:=.v (.int .u32 (Va 0 a0))
def Bdq (a0:Ae):List Prop:=[(A8 Eg Ef Fy (Ee (La 0,a0,(a0.length:Int),0)) (La 0,a0,(a0.length:Int),0))]
theorem Bl3 (a0:Ae) (hp:∀p∈Bdq a0,p):An AP 97 [AA .bytes a0] 0 [] 1 (Azv a0) 0 []:=AN (u:=9) (Au Bym.2 AF) (by kernel_rfl) hp
def Acr (a0:Ae):A:=.v (.int .u32 (wB (LK a0)))
def Amg (a0:Ae):List Prop:=[AJ a0.length]
theorem B23 (x:BitVec 32):LP (wB x)=wB (crS x):=by
 unfold LP crS
 rw[Bzr,Bzv,B2g,Aua,Aua,Awu]
def Bvd (x:BitVec 32):Nat→BitVec 32
 |0=>x
 |n+1=>crS (Bvd x n)
theorem Byy (x:BitVec 32):A8 Gr Gq J8 (Gp (wB x,0)) (wB x,0)∧(Ox (wB x,0)).1=wB (cr8 x):=by
 obtain⟨h1,h2⟩:=B2v (fun i=>((wB (Bvd x i),(i:Int)):C9)) 8 Gr Gq J8 (Gp (wB x,0)) (wB x,0) rfl (by show 8≤((8:Int) - 0).toNat;decide)
  (fun i _=>by
   show(!!decide ((i:Int) <8))=_
   rw[nn]
   exact T4 (n:=8))
  (fun i hi=>by
   show(LP (wB (Bvd x i)),IntKind.i64.wrap ((i:Int)+1))=_
   rw[B23,MO (by omega)]
   rfl) (fun i _ p hp=>by cases hp)
 have h3:Ox (wB x,0)=(wB (Bvd x 8),8):=h2
 exact⟨h1,by rw[h3];rfl⟩
theorem A2i (r:BitVec 32) (b:Ae) (hb:AJ b.length):A8 Eg Ef Fy (Ee (wB r,b,(b.length:Int),0)) (wB r,b,(b.length:Int),0)∧RW (wB r) b=wB (crB r b):=by
 unfold AJ at hb
 have e0:∀i,IntKind.u32.wrap (((BitVec.ofInt 32 (wB (crB r (b.take i)))^^^BitVec.ofInt 32 (IntKind.u32.wrap (IntKind.u32.wrap (↑(UInt8.toNat (b.getD ((i:Int)).toNat (Av TC.u8))):Int)*16777216))).toNat:Nat):Int)=wB (crB r (b.take i)^^^hiB (b.getD i 0)):=fun i=>by rw[B7l,Aua,Aua,Awu,Int.toNat_natCast];rfl
 obtain⟨h1,h2⟩:=B2v (fun i=>((wB (crB r (b.take i)),b,(b.length:Int),(i:Int)):C8)) b.length Eg Ef Fy (Ee (wB r,b,(b.length:Int),0)) (wB r,b,(b.length:Int),0) rfl (by show _≤((b.length:Int) - 0).toNat;omega)
  (fun i _=>by
   show(!!decide ((i:Int) <(b.length:Int)))=_
   rw[nn,T4])
  (fun i hi=>by
   show(Ow (wB (crB r (b.take i))) b (i:Int),b,(b.length:Int),IntKind.i64.wrap ((i:Int)+1))=(wB (crB r (b.take (i+1))),b,(b.length:Int),((i+1:Nat):Int))
   rw[A7u _ _ _ hi,MO (by omega)]
   unfold Ow HD
   rw[e0,(Byy _).2]
   rfl) (fun i _=>Aa (fun h=>by
    have h':(!!decide ((i:Int) <(b.length:Int)))=true:=h
    rw[nn] at h'
    have:=of_decide_eq_true h'
    show(0:Int)≤(i:Int)∧(i:Int) <(b.length:Int)
    omega) (Aa (fun _=>by
    have:=(Byy (crB r (b.take i)^^^hiB (b.getD i 0))).1
    rw[←e0 i] at this
    exact this) Ag))
 refine⟨h1,?_⟩
 have h3:Uf (wB r,b,(b.length:Int),0)=(wB (crB r (b.take b.length)),b,(b.length:Int),(b.length:Int)):=h2
 unfold RW
 rw[h3,List.take_length]
theorem Bdp (a0:Ae) (hp:∀p∈Amg a0,p):An AP 97 [AA .bytes a0] 0 [] 1 (Acr a0) 0 []:=by
 obtain⟨h1,h2⟩:=A2i (BitVec.allOnes 32) a0 (hp _ (List.mem_cons_self ..))
 have h:=Bl3 a0 (Aa h1 Ag)
 have e:Azv a0=Acr a0:=by
  show A.v (.int .u32 (Va 0 a0))=.v (.int .u32 (wB (LK a0)))
  unfold Va LK
  rw[show La 0=wB (BitVec.allOnes 32) from by unfold La;decide,h2,Aua,Bzi]
 rw[e] at h
 exact h
theorem A7x:Gw AP 97 (Cy [.t .bytes] 0 Acr (fun _=>[]) Amg):=Az Bdp
def Byn:=DM A7x Bym
def Aka (a0:Ae):Int:=IntKind.u32.wrap (↑(BitVec.ofInt 32 4294967295^^^BitVec.ofInt 32 (SY 4294967295 a0)).toNat:Int)
def A03 (a0:Ae):A:=.v (.int .u32 (Aka a0))
def Bfa (a0:Ae):List Prop:=[(A8 Fk Fj Gz (Fi (4294967295,a0,0)) (4294967295,a0,0))]
theorem Bnb (a0:Ae) (hp:∀p∈Bfa a0,p):An AP 102 [AA .bytes a0] 0 [] 1 (A03 a0) 0 []:=AN (u:=9) (Au Byn.2 AF) (by kernel_rfl) hp
def Ad2 (a0:Ae):A:=.v (.int .u32 (wB (LK a0)))
def Am4 (a0:Ae):List Prop:=[AJ a0.length]
theorem A7h (x:BitVec 32) (b:Bool):I5 (wB x) (bif b then 1 else 0)=wB (crT x b):=by
 unfold I5 Ad3 crT
 rw[Bzr,Bzv,Aua,show BitVec.ofInt 32 79764919=Bkb by decide,Awu]
 cases x.getLsbD 31<;>cases b
 ·show wB (x <<< 1)=wB ((x <<< 1)^^^0#32);rw[BitVec.xor_zero]
 ·rfl
 ·rfl
 ·show wB (x <<< 1)=wB ((x <<< 1)^^^0#32);rw[BitVec.xor_zero]
theorem B0w (x:BitVec 32) (y:UInt8) (l:Ae) (i:Nat) (h:l.getD i 0=y):LU (wB x) l (i:Int)=wB (byB x y):=by
 rw[Bpp]
 unfold LU DE Bdj
 rw[Int.toNat_natCast,show l.getD i (Av TC.u8)=y from h]
 rw[Al6 y 7 (d:=128) rfl,Al6 y 6 (d:=64) rfl,Al6 y 5 (d:=32) rfl,Al6 y 4 (d:=16) rfl,Al6 y 3 (d:=8) rfl,Al6 y 2 (d:=4) rfl,Al6 y 1 (d:=2) rfl,Al6 y 0 (d:=1) rfl]
 rw[A7h,A7h,A7h,A7h,A7h,A7h,A7h,A7h]
theorem A4j (r:BitVec 32) (b:Ae) (hb:AJ b.length):A8 Fk Fj Gz (Fi (wB r,b,0)) (wB r,b,0)∧SY (wB r) b=wB (crB r b):=by
 unfold AJ at hb
 obtain⟨h1,h2⟩:=B2v (fun i=>((wB (crB r (b.take i)),b,(i:Int)):Db)) b.length Fk Fj Gz (Fi (wB r,b,0)) (wB r,b,0) rfl (by show _≤((b.length:Int) - 0).toNat;omega)
  (fun i _=>by
   show(!!decide ((i:Int) <(b.length:Int)))=_
   rw[nn,T4])
  (fun i hi=>by
   show(LU (wB (crB r (b.take i))) b (i:Int),b,IntKind.i64.wrap ((i:Int)+1))=(wB (crB r (b.take (i+1))),b,((i+1:Nat):Int))
   rw[A7u _ _ _ hi,MO (by omega),B0w _ _ _ _ rfl]) (fun i _=>Aa (fun h=>by
    have h':(!!decide ((i:Int) <(b.length:Int)))=true:=h
    rw[nn] at h'
    have:=of_decide_eq_true h'
    show(0:Int)≤(i:Int)∧(i:Int) <(b.length:Int)
    omega) Ag)
 refine⟨h1,?_⟩
 have h3:UI (wB r,b,0)=(wB (crB r (b.take b.length)),b,(b.length:Int)):=h2
 unfold SY
 rw[h3,List.take_length]
theorem Be9 (a0:Ae) (hp:∀p∈Am4 a0,p):An AP 102 [AA .bytes a0] 0 [] 1 (Ad2 a0) 0 []:=by
 obtain⟨h1,h2⟩:=A4j (BitVec.allOnes 32) a0 (hp _ (List.mem_cons_self ..))
 have h:=Bnb a0 (Aa h1 Ag)
 have e:A03 a0=Ad2 a0:=by
  show A.v (.int .u32 (Aka a0))=.v (.int .u32 (wB (LK a0)))
  unfold Aka LK
  rw[show wB (BitVec.allOnes 32)=4294967295 by decide] at h2
  rw[h2,Aua,Bzi]
 rw[e] at h
 exact h
theorem A95:Gw AP 102 (Cy [.t .bytes] 0 Ad2 (fun _=>[]) Am4):=Az Be9
def Bow:=DM A95 Byn
def Acq (a0:Ae):Ae:=[]++a0
def Azt (a0:Ae):Ae:=(Acq a0)++[UInt8.ofNat (IntKind.u8.wrap ((wB (LK a0)).fdiv 16777216)).toNat,UInt8.ofNat (IntKind.u8.wrap ((wB (LK a0)).fdiv 65536)).toNat,UInt8.ofNat (IntKind.u8.wrap ((wB (LK a0)).fdiv 256)).toNat,UInt8.ofNat (IntKind.u8.wrap (wB (LK a0))).toNat]
def Azu (_a0:Ae):A:=.sq 0
def Zs (a0:Ae):AE:=[(0,some (.arr 5 1 (.ty .u8 (Azt a0))))]
def Bdn (a0:Ae):List Prop:=[(AJ a0.length),(Af (0+a0.length)),(Af ((Acq a0).length+4))]
theorem Bdm (a0:Ae):RL (Co Bow.1 L0) 9 57 [AA .bytes a0] 0 []=some (1,Azu a0,1,Zs a0,[(AJ a0.length),(Af (0+a0.length)),(Af ((Acq a0).length+4)),(0≤IntKind.u8.wrap ((wB (LK a0)).fdiv 16777216)∧IntKind.u8.wrap ((wB (LK a0)).fdiv 16777216) <256),(0≤IntKind.u8.wrap ((wB (LK a0)).fdiv 65536)∧IntKind.u8.wrap ((wB (LK a0)).fdiv 65536) <256),(0≤IntKind.u8.wrap ((wB (LK a0)).fdiv 256)∧IntKind.u8.wrap ((wB (LK a0)).fdiv 256) <256),(0≤IntKind.u8.wrap (wB (LK a0))∧IntKind.u8.wrap (wB (LK a0)) <256)]):=by kernel_rfl
theorem Bl2 (a0:Ae) (hp:∀p∈Bdn a0,p):An AP 57 [AA .bytes a0] 0 [] 1 (Azu a0) 1 (Zs a0):=
  AN (Au Bow.2 AF) (Bdm a0) (nT hp fun hp=>nT hp fun hp=>nT hp fun _=>Aa (by intros;exact PV _) (Aa (by intros;exact PV _) (Aa (by intros;exact PV _) (Aa (by intros;exact PV _) Ag))))
def Asc (_a0:Ae):A:=.sq 0
def U9 (a0:Ae):AE:=[(0,some (.arr 5 1 (.ty .u8 (Bd3 a0))))]
def Ame (a0:Ae):List Prop:=[Af (a0.length+4)]
theorem Ajg (s:BitVec 32):[UInt8.ofNat (IntKind.u8.wrap ((wB s).fdiv 16777216)).toNat,UInt8.ofNat (IntKind.u8.wrap ((wB s).fdiv 65536)).toNat,UInt8.ofNat (IntKind.u8.wrap ((wB s).fdiv 256)).toNat,UInt8.ofNat (IntKind.u8.wrap (wB s)).toNat]=B6p s:=by
 have e0:UInt8.ofNat (IntKind.u8.wrap (wB s)).toNat=UInt8.ofNat s.toNat:=by
  have h:=A12 s 0
  rw[show((2^0:Nat):Int)=1 from rfl,Int.fdiv_one,show 2^0=1 from rfl,Nat.div_one] at h
  exact h
 have h1:=A12 s 24
 have h2:=A12 s 16
 have h3:=A12 s 8
 rw[show((2^24:Nat):Int)=16777216 from rfl] at h1
 rw[show((2^16:Nat):Int)=65536 from rfl] at h2
 rw[show((2^8:Nat):Int)=256 from rfl] at h3
 rw[e0,h1,h2,h3]
 rfl
theorem Bdl (l:Ae):Azt l=Bd3 l:=congrArg (l++·) (Ajg (LK l))
theorem Bdk (a0:Ae) (hp:∀p∈Ame a0,p):An AP 57 [AA .bytes a0] 0 [] 1 (Asc a0) 1 (U9 a0):=by
 have hb:=hp _ (List.mem_cons_self ..)
 unfold Af at hb
 have h:=Bl2 a0 (Aa (by unfold AJ;omega) (Aa (by unfold Af;omega) (Aa (by show Af (a0.length+4);unfold Af;omega) Ag)))
 have e:Zs a0=U9 a0:=by unfold Zs U9;rw[Bdl]
 rw[e] at h
 exact h
theorem Xm:Gw AP 57 (Cy [.t .bytes] 1 Asc U9 Ame):=Az Bdk
def Box:=DM Xm Bow
def Ad1 (a0:Ae):Ae:=[]++a0
def A01 (a0:Ae):Ae:=(Ad1 a0)++[UInt8.ofNat (IntKind.u8.wrap ((wB (LK a0)).fdiv 16777216)).toNat,UInt8.ofNat (IntKind.u8.wrap ((wB (LK a0)).fdiv 65536)).toNat,UInt8.ofNat (IntKind.u8.wrap ((wB (LK a0)).fdiv 256)).toNat,UInt8.ofNat (IntKind.u8.wrap (wB (LK a0))).toNat]
def A02 (_a0:Ae):A:=.sq 0
def ZN (a0:Ae):AE:=[(0,some (.arr 5 1 (.ty .u8 (A01 a0))))]
def Be8 (a0:Ae):List Prop:=[(AJ a0.length),(Af (0+a0.length)),(Af ((Ad1 a0).length+4))]
theorem Be7 (a0:Ae):RL (Co Box.1 L0) 9 63 [AA .bytes a0] 0 []=some (1,A02 a0,1,ZN a0,[(AJ a0.length),(Af (0+a0.length)),(Af ((Ad1 a0).length+4)),(0≤IntKind.u8.wrap ((wB (LK a0)).fdiv 16777216)∧IntKind.u8.wrap ((wB (LK a0)).fdiv 16777216) <256),(0≤IntKind.u8.wrap ((wB (LK a0)).fdiv 65536)∧IntKind.u8.wrap ((wB (LK a0)).fdiv 65536) <256),(0≤IntKind.u8.wrap ((wB (LK a0)).fdiv 256)∧IntKind.u8.wrap ((wB (LK a0)).fdiv 256) <256),(0≤IntKind.u8.wrap (wB (LK a0))∧IntKind.u8.wrap (wB (LK a0)) <256)]):=by kernel_rfl
theorem Bna (a0:Ae) (hp:∀p∈Be8 a0,p):An AP 63 [AA .bytes a0] 0 [] 1 (A02 a0) 1 (ZN a0):=
  AN (Au Box.2 AF) (Be7 a0) (nT hp fun hp=>nT hp fun hp=>nT hp fun _=>Aa (by intros;exact PV _) (Aa (by intros;exact PV _) (Aa (by intros;exact PV _) (Aa (by intros;exact PV _) Ag))))
def Au0 (_a0:Ae):A:=.sq 0
def VN (a0:Ae):AE:=[(0,some (.arr 5 1 (.ty .u8 (Bd3 a0))))]
def Am1 (a0:Ae):List Prop:=[Af (a0.length+4)]
theorem Be6 (l:Ae):A01 l=Bd3 l:=congrArg (l++·) (Ajg (LK l))
theorem Be5 (a0:Ae) (hp:∀p∈Am1 a0,p):An AP 63 [AA .bytes a0] 0 [] 1 (Au0 a0) 1 (VN a0):=by
 have hb:=hp _ (List.mem_cons_self ..)
 unfold Af at hb
 have h:=Bna a0 (Aa (by unfold AJ;omega) (Aa (by unfold Af;omega) (Aa (by show Af (a0.length+4);unfold Af;omega) Ag)))
 have e:ZN a0=VN a0:=by unfold ZN VN;rw[Be6]
 rw[e] at h
 exact h
theorem Am2:Gw AP 63 (Cy [.t .bytes] 1 Au0 VN Am1):=Az Be5
def Byo:=DM Am2 Box
def DU (a0:Ae):Int:=IntKind.i64.wrap ((a0.length:Int) - 4)
def LO (a0:Ae):Int:=IntKind.i64.wrap ((DU a0)+2)
def JO (a0:Ae):Int:=IntKind.i64.wrap ((DU a0)+1)
def LN (a0:Ae):Int:=IntKind.i64.wrap ((DU a0)+3)
def JN (a0:Ae):Int:=wB (LK (List.take ((DU a0).toNat - 0) (List.drop 0 a0)))
def F5 (a0:Ae):Bool:=decide ((DU a0) <0)
def P9 (a0:Ae):Bool:=(↑(UInt8.toNat (a0.getD (DU a0).toNat (Av TC.u8))):Int)==IntKind.u8.wrap ((JN a0).fdiv 16777216)
def Vb (a0:Ae):Bool:=(P9 a0)&&(↑(UInt8.toNat (a0.getD (JO a0).toNat (Av TC.u8))):Int)==IntKind.u8.wrap ((JN a0).fdiv 65536)&&(↑(UInt8.toNat (a0.getD (LO a0).toNat (Av TC.u8))):Int)==IntKind.u8.wrap ((JN a0).fdiv 256)
def Xn (a0:Ae):Bool:=bif(F5 a0) then false else(Vb a0)&&(↑(UInt8.toNat (a0.getD (LN a0).toNat (Av TC.u8))):Int)==IntKind.u8.wrap (JN a0)
def Amf (a0:Ae):A:=.v (.bool (Xn a0))
def Afx (a0:Ae):List Prop:=[((!(F5 a0))=true→(0:Int)≤0∧0≤(DU a0)∧(DU a0)≤(a0.length:Int)),((!(F5 a0))=true→AJ (List.take ((DU a0).toNat - 0) (List.drop 0 a0)).length),((!(F5 a0))=true→0≤(DU a0)∧(DU a0) <(a0.length:Int)),((!(F5 a0))=true→(P9 a0)=true→0≤(JO a0)∧(JO a0) <(a0.length:Int)),((!(F5 a0))=true→((P9 a0)&&(↑(UInt8.toNat (a0.getD (JO a0).toNat (Av TC.u8))):Int)==IntKind.u8.wrap ((JN a0).fdiv 65536))=true→0≤(LO a0)∧(LO a0) <(a0.length:Int)),((!(F5 a0))=true→(Vb a0)=true→0≤(LN a0)∧(LN a0) <(a0.length:Int))]
theorem A7w (a0:Ae) (hp:∀p∈Afx a0,p):An AP 78 [AA .bytes a0] 0 [] 1 (Amf a0) 0 []:=AN (u:=9) (Au Byo.2 AF) (by kernel_rfl) hp
def Afy (a0:Ae):A:=.v (.bool (PT a0))
def Aau (a0:Ae):List Prop:=[Af a0.length]
theorem Ara (x:UInt8) (v:Int):((x.toNat:Int)==IntKind.u8.wrap v)=(x==UInt8.ofNat (IntKind.u8.wrap v).toNat):=by
 have h0:0≤IntKind.u8.wrap v∧IntKind.u8.wrap v <256:=by show 0≤v % 2^8∧v % 2^8 <256;omega
 generalize IntKind.u8.wrap v=w at*
 have hx:x.toNat <256:=x.toNat_lt
 rw[Bool.eq_iff_iff,beq_iff_eq,beq_iff_eq]
 constructor
 ·intro h
  rw[←h,Int.toNat_natCast,UInt8.ofNat_toNat]
 ·intro h
  rw[h,UInt8.toNat_ofNat']
  omega
theorem Bv2 (b:Ae) (n:Nat) (_hn:b.length=n+4) (w x y z:UInt8):(b.getD n 0==w&&b.getD (n+1) 0==x&&b.getD (n+2) 0==y&&b.getD (n+3) 0==z)=(b==b.take n++[w,x,y,z]):=by
 have e:b=b.take n++[b.getD n 0,b.getD (n+1) 0,b.getD (n+2) 0,b.getD (n+3) 0]:=by
  refine List.ext_getElem (by simp;omega) fun i h1 h2=>?_
  by_cases hi:i <n
  ·rw[List.getElem_append_left (by simp;omega),List.getElem_take]
  ·rw[List.getElem_append_right (by simp;omega)]
   have g:∀j,(hj:j <b.length)→b.getD j 0=b[j]:=fun j hj=>by rw[List.getD_eq_getElem?_getD,List.getElem?_eq_getElem hj,Option.getD_some]
   have hl:(b.take n).length=n:=by simp;omega
   rcases(show i=n∨i=n+1∨i=n+2∨i=n+3 by omega) with rfl|rfl|rfl|rfl
   ·simp only[hl,Nat.sub_self,List.getElem_cons_zero];exact(g _ h1).symm
   ·simp only[hl,Nat.add_sub_cancel_left,List.getElem_cons_succ,List.getElem_cons_zero];exact(g _ h1).symm
   ·simp only[hl,Nat.add_sub_cancel_left,List.getElem_cons_succ,List.getElem_cons_zero];exact(g _ h1).symm
   ·simp only[hl,Nat.add_sub_cancel_left,List.getElem_cons_succ,List.getElem_cons_zero];exact(g _ h1).symm
 generalize b.getD n 0=p at*
 generalize b.getD (n+1) 0=q at*
 generalize b.getD (n+2) 0=r at*
 generalize b.getD (n+3) 0=s at*
 rw[Bool.eq_iff_iff]
 simp only[Bool.and_eq_true,beq_iff_eq]
 constructor
 ·rintro⟨⟨⟨rfl,rfl⟩,rfl⟩,rfl⟩
  exact e
 ·intro h
  have:=List.append_cancel_left (e.symm.trans h)
  simp only[List.cons.injEq] at this
  exact⟨⟨⟨this.1,this.2.1⟩,this.2.2.1⟩,this.2.2.2.1⟩
theorem A2h (b:Ae) (hb:Af b.length):(∀p∈Afx b,p)∧Xn b=PT b:=by
 unfold Af at hb
 have k7:DU b=(b.length:Int) - 4:=i64_in (by omega)
 have k2:F5 b=decide ((b.length:Int) - 4 <0):=by unfold F5;rw[k7]
 have k5:JO b=(b.length:Int) - 4+1:=by unfold JO;rw[k7];exact i64_in (by omega)
 have k6:LO b=(b.length:Int) - 4+2:=by unfold LO;rw[k7];exact i64_in (by omega)
 have k4:LN b=(b.length:Int) - 4+3:=by unfold LN;rw[k7];exact i64_in (by omega)
 have au:(!(F5 b))=true→4≤b.length:=fun h=>by
  rw[k2,Bool.not_eq_true',decide_eq_false_iff_not] at h
  omega
 refine⟨Aa (fun h=>by rw[k7];have:=au h;omega) (Aa (fun _=>?_) (Aa (fun h=>by rw[k7];have:=au h;omega) (Aa (fun h _=>by rw[k5];have:=au h;omega) (Aa (fun h _=>by rw[k6];have:=au h;omega) (Aa (fun h _=>by rw[k4];have:=au h;omega) Ag))))),?_⟩
 ·unfold AJ
  rw[List.length_take,List.length_drop]
  omega
 ·unfold Xn PT
  by_cases h:4≤b.length
  ·obtain⟨n,hn⟩:∃n,b.length=n+4:=⟨b.length - 4,by omega⟩
   have h7:(DU b).toNat=n:=by rw[k7];omega
   have h5:(JO b).toNat=n+1:=by rw[k5];omega
   have h6:(LO b).toNat=n+2:=by rw[k6];omega
   have h4:(LN b).toNat=n+3:=by rw[k4];omega
   have h3:JN b=wB (LK (b.take n)):=by unfold JN;rw[h7];rfl
   rw[k2,decide_eq_false (by omega),cond_false,decide_eq_true h,Bool.true_and,show b.length - 4=n by omega]
   unfold Vb P9
   rw[h7,h5,h6,h4,h3,Ara,Ara,Ara,Ara]
   unfold Bd3
   rw[←Ajg]
   exact Bv2 b n hn _ _ _ _
  ·rw[k2,decide_eq_true (by omega),cond_true,decide_eq_false h,Bool.false_and]
theorem A2g (a0:Ae) (hp:∀p∈Aau a0,p):An AP 78 [AA .bytes a0] 0 [] 1 (Afy a0) 0 []:=by
 obtain⟨h1,h2⟩:=A2h a0 (hp _ (List.mem_cons_self ..))
 have h:=A7w a0 h1
 unfold Amf at h
 rw[h2] at h
 exact h
theorem Tn:Gw AP 78 (Cy [.t .bytes] 0 Afy (fun _=>[]) Aau):=Az A2g
def B4b:=DM Tn Byo
def NT (a0:Ae):Int:=IntKind.i64.wrap ((a0.length:Int) - 4)
def LT (a0:Ae):Ae:=List.take ((NT a0).toNat - 0) (List.drop 0 a0)
def LS (a0:Ae):Bool:=decide ((NT a0) <0)
def Yh (a0:Ae):Bool:=bif(LS a0) then false else(ByteArray.mk (Bd3 (LT a0)).toArray).toList==(ByteArray.mk a0.toArray).toList
def Am3 (a0:Ae):A:=.v (.bool (Yh a0))
def Ag0 (a0:Ae):List Prop:=[((!(LS a0))=true→(0:Int)≤0∧0≤(NT a0)∧(NT a0)≤(a0.length:Int)),((!(LS a0))=true→Af ((LT a0).length+4))]
theorem A94 (a0:Ae) (hp:∀p∈Ag0 a0,p):An AP 87 [AA .bytes a0] 0 [] 1 (Am3 a0) 0 []:=AN (u:=9) (Au B4b.2 AF) (by kernel_rfl) hp
def Ag1 (a0:Ae):A:=.v (.bool (PT a0))
def Abg (a0:Ae):List Prop:=[Af a0.length]
theorem A4i (b:Ae) (hb:Af b.length):(∀p∈Ag0 b,p)∧Yh b=PT b:=by
 unfold Af at hb
 have k2:NT b=(b.length:Int) - 4:=i64_in (by omega)
 have k0:LS b=decide ((b.length:Int) - 4 <0):=by unfold LS;rw[k2]
 have k1:LT b=b.take (b.length - 4):=by
  unfold LT
  rw[k2,show((b.length:Int) - 4).toNat=b.length - 4 by omega]
  rfl
 have au:(!(LS b))=true→4≤b.length:=fun h=>by
  rw[k0,Bool.not_eq_true',decide_eq_false_iff_not] at h
  omega
 have hl:(LT b).length=b.length - 4:=by rw[k1,List.length_take];omega
 refine⟨Aa (fun h=>by rw[k2];have:=au h;omega) (Aa (fun h=>?_) Ag),?_⟩
 ·have:=au h
  show Af ((LT b).length+4)
  unfold Af
  omega
 ·unfold Yh PT
  by_cases h:4≤b.length
  ·rw[k0,decide_eq_false (by omega),cond_false,decide_eq_true h,Bool.true_and,k1,Att,Att,BEq.comm]
  ·rw[k0,decide_eq_true (by omega),cond_true,decide_eq_false h,Bool.false_and]
theorem A4h (a0:Ae) (hp:∀p∈Abg a0,p):An AP 87 [AA .bytes a0] 0 [] 1 (Ag1 a0) 0 []:=by
 obtain⟨h1,h2⟩:=A4i a0 (hp _ (List.mem_cons_self ..))
 have h:=A94 a0 h1
 unfold Am3 at h
 rw[h2] at h
 exact h
theorem Axo:Gw AP 87 (Cy [.t .bytes] 0 Ag1 (fun _=>[]) Abg):=Az A4h
def SS (a0:Int):Bool:=!(decide (a0 <0)||decide (a0 >4611686018427387903))&&(!decide (a0≥1073741824)&&decide (a0≥16384))
def SR (a0:Int):Bool:=!(decide (a0 <0)||decide (a0 >4611686018427387903))&&(!decide (a0≥1073741824)&&(!decide (a0≥16384)&&decide (a0≥64)))
def XS (a0:Int):Bool:=!(decide (a0 <0)||decide (a0 >4611686018427387903))&&(!(!(decide (a0 <0)||decide (a0 >4611686018427387903))&&decide (a0≥1073741824))&&(!(SS a0)&&!(SR a0)))
def B8 (a0:Int):Int:=bif !(!(decide (a0 <0)||decide (a0 >4611686018427387903))&&decide (a0≥1073741824))&&(!(SS a0)&&(!(SR a0)&&!(XS a0))) then 0 else IntKind.i64.wrap ((bif(XS a0) then 0 else IntKind.i64.wrap ((bif(SR a0) then 0 else IntKind.i64.wrap ((bif(SS a0) then 0 else 4)+2))+1))+1)
def Bes (a0:Int):A:=iV ((B8 a0))
def A9m (_a0:Int):List Prop:=[]
theorem A3u:Gw AP 51 (Cy [.t .i64] 0 Bes (fun _=>[]) A9m):=Az fun a0 hp=>AN (u:=9) (Au Bhz AF) (by kernel_rfl) hp
def Bog:=DM A3u ⟨C0,Bhz⟩
abbrev Fe:Type:=Int×Int×Int×Int×Ae
def A3t (x:Fe):St:=⟨59,2,[(1,iV (x.1)),(5,.sq 1),(6,iV (x.2.1)),(16,iV (x.2.2.1)),(17,iV (x.2.2.2.1))],[(1,some (.arr 5 1 (.ty .u8 x.2.2.2.2)))]⟩
def Aa9:St→Option Fe
 |⟨59,2,[(1,.v (.int .i64 z0)),(5,.sq 1),(6,.v (.int .i64 z1)),(16,.v (.int .i64 z2)),(17,.v (.int .i64 z3))],[(1,some (.arr 5 1 (.ty .u8 z4)))]⟩=>some (z0,z1,z2,z3,z4)
 |_=>none
def A3s:Em:=⟨1,2,[1,5,6,16,17],[],[(3,1)],[3],[5],[1]⟩
def A3r:EQ:=⟨[],[(0,1)],[1,5,6,16,17],[0]⟩
def PH (a0 a1 a3:Int):Int:=IntKind.u8.wrap (a0.fdiv (2^min (IntKind.u64.wrap (IntKind.i64.wrap (8*IntKind.i64.wrap (IntKind.i64.wrap (a1 - 1) - a3)))).toNat 64))
def At4 (a0 a1 a3:Int) (a4:Ae):Ae:=a4++[UInt8.ofNat (PH a0 a1 a3).toNat]
def Kb:Fe→Fe
  |(a0,a1,a2,a3,a4)=>(a0,a1,a2,IntKind.i64.wrap (a3+1),At4 a0 a1 a3 a4)
def Ka (x:Fe):El:=some (!!decide (x.2.2.2.1 <x.2.2.1))
def XR:Fe→List Prop
  |(a0,a1,a2,a3,a4)=>[((!!decide (a3 <a2))=true→0≤IntKind.u64.wrap (IntKind.i64.wrap (8*IntKind.i64.wrap (IntKind.i64.wrap (a1 - 1) - a3)))),((!!decide (a3 <a2))=true→Af (a4.length+1)),((!!decide (a3 <a2))=true→0≤(PH a0 a1 a3)∧(PH a0 a1 a3) <256)]
def MI (x:Fe):List Prop:=[((!!decide (x.2.2.2.1 <x.2.2.1))=true→Af (x.2.2.2.2.length+1))]
def Apt (x:Fe):BD:=[(some 0,some (!decide (x.2.2.2.1 <x.2.2.1)),⟨59,2,[(5,.sq 1)],[(1,some (.arr 5 1 (.ty .u8 x.2.2.2.2)))]⟩)]
def J9 (x:Fe):Nat:=(x.2.2.1 - x.2.2.2.1).toNat
def QY (x:Fe):Fe:=Bh Kb Ka (J9 x) x
theorem Axf (a0 a1 a2 a3:Int) (a4:Ae) (hp:∀p∈MI (a0,a1,a2,a3,a4),p):∀p∈XR (a0,a1,a2,a3,a4),p:=
  (Aa (by intros;exact Blk _) (nT hp fun _=>Aa (by intros;exact PV _) Ag))
def At5:=Jt (Co Bog.1 L0) (Aw AP 18 0) A3s A3r Aa9 J9 Kb Ka MI Apt
def Agq:=V8 0 (g:=At5) (BX (T:=A3t) (psA:=XR) Bog.2 AF (u:=9) (by kernel_rfl) (by decide) (fun⟨a0,a1,a2,a3,a4⟩=>by kernel_rfl) (fun⟨a0,a1,a2,a3,a4⟩=>Axf a0 a1 a2 a3 a4) (fun s x h=>by unfold Aa9 at h;split at h<;>first|(cases h;rfl)|cases h) (fun _=>A9 (n:=59) rfl) fun _ _=>rfl) ⟨L0,AF⟩
def Lf (a1:Int):Bool:=B8 a1==8
def EM (a1:Int):Bool:=B8 a1==4
def Ct (a1:Int):Bool:=B8 a1==2
def Bs (a0:Ae):Int:=(↑([]++a0).length:Int)
def CF (a0:Ae) (a1:Int):Ae:=(QY (a1,B8 a1,B8 a1,0,[]++a0)).2.2.2.2
def Adu (a0:Ae) (a1:Int):=UInt8.toNat ((CF a0 a1).getD (Bs a0).toNat (Av TC.u8))
def OG (a0:Ae) (a1:Int):Int:=IntKind.u8.wrap (↑(BitVec.ofInt 8 (↑(Adu a0 a1):Int) ||| BitVec.ofInt 8 192).toNat:Int)
def OF (a0:Ae) (a1:Int):Int:=IntKind.u8.wrap (↑(BitVec.ofInt 8 (↑(Adu a0 a1):Int) ||| BitVec.ofInt 8 128).toNat:Int)
def OE (a0:Ae) (a1:Int):Int:=IntKind.u8.wrap (↑(BitVec.ofInt 8 (↑(Adu a0 a1):Int) ||| BitVec.ofInt 8 64).toNat:Int)
def Ajx (a0:Ae) (a1:Int):Ae:=bif(Ct a1) then(CF a0 a1).set (Bs a0).toNat (UInt8.ofNat (OE a0 a1).toNat) else bif(EM a1) then(CF a0 a1).set (Bs a0).toNat (UInt8.ofNat (OF a0 a1).toNat) else bif(Lf a1) then(CF a0 a1).set (Bs a0).toNat (UInt8.ofNat (OG a0 a1).toNat) else(CF a0 a1)
def A0r (_a0:Ae) (_a1:Int):A:=.sq 0
def ZK (a0:Ae) (a1:Int):AE:=[(0,some (.arr 5 1 (.ty .u8 (Ajx a0 a1))))]
def Adr (a0:Ae) (a1:Int):=(Ct a1)=false→(EM a1)=false→(Lf a1)=true→0≤(Bs a0)∧(Bs a0) <(↑(CF a0 a1).length:Int)
def Ads (a0:Ae) (a1:Int):=(Ct a1)=false→(EM a1)=true→0≤(Bs a0)∧(Bs a0) <(↑(CF a0 a1).length:Int)
def Adt (a0:Ae) (a1:Int):=(Ct a1)=true→0≤(Bs a0)∧(Bs a0) <(↑(CF a0 a1).length:Int)
def At7 (a0:Ae) (a1:Int):=A8 Kb Ka MI (J9 (a1,B8 a1,B8 a1,0,[]++a0)) (a1,B8 a1,B8 a1,0,[]++a0)
def At6 (a0:Ae) (a1:Int):List Prop:=[(Af (0+a0.length)),(At7 a0 a1),(Adt a0 a1),(Ads a0 a1),(Adr a0 a1)]
def At8 (a0:Ae) (a1:Int):=(Ct a1)=false→(EM a1)=false→(Lf a1)=true→(Bs a0).toNat <(CF a0 a1).length
theorem Ber (a0:Ae) (a1:Int):RL (Co Bog.1 Agq.1) 9 18 [AA .bytes a0,AA .i64 a1] 0 []=some (1,A0r a0 a1,1,ZK a0 a1,[(Af (0+a0.length)),(Aw AP (18:FuncId) 0=Aw AP (18:FuncId) 0),(At7 a0 a1),(Adt a0 a1),((Ct a1)=true→(Bs a0).toNat <(CF a0 a1).length),(Adt a0 a1),((Ct a1)=true→(Bs a0).toNat <(CF a0 a1).length),((Ct a1)=true→0≤(OE a0 a1)∧(OE a0 a1) <256),(Ads a0 a1),((Ct a1)=false→(EM a1)=true→(Bs a0).toNat <(CF a0 a1).length),(Ads a0 a1),((Ct a1)=false→(EM a1)=true→(Bs a0).toNat <(CF a0 a1).length),((Ct a1)=false→(EM a1)=true→0≤(OF a0 a1)∧(OF a0 a1) <256),(Adr a0 a1),(At8 a0 a1),(Adr a0 a1),(At8 a0 a1),((Ct a1)=false→(EM a1)=false→(Lf a1)=true→0≤(OG a0 a1)∧(OG a0 a1) <256)]):=by kernel_rfl
theorem Bmw (a0:Ae) (a1:Int) (hp:∀p∈At6 a0 a1,p):An AP 18 [AA .bytes a0,AA .i64 a1] 0 [] 1 (A0r a0 a1) 1 (ZK a0 a1):=by
 have n0:=N0 hp
 have n2:=N0 (N1 hp)
 have n3:((Ct a1)=true→(0:Int)≤(Bs a0)∧(Bs a0) <(↑(CF a0 a1).length:Int)):=N0 (N1 (N1 hp))
 have n4:((Ct a1)=true→(Bs a0).toNat <(CF a0 a1).length):=by intro h0;have g:=n3 h0;omega
 have n7:((Ct a1)=true→(0:Int)≤(OE a0 a1)∧(OE a0 a1) <(256:Int)):=by intros;exact PV _
 have n8:((Ct a1)=false→(EM a1)=true→(0:Int)≤(Bs a0)∧(Bs a0) <(↑(CF a0 a1).length:Int)):=N0 (N1 (N1 (N1 hp)))
 have n9:((Ct a1)=false→(EM a1)=true→(Bs a0).toNat <(CF a0 a1).length):=by intro h0 h1;have g:=n8 h0 h1;omega
 have te:((Ct a1)=false→(EM a1)=true→(0:Int)≤(OF a0 a1)∧(OF a0 a1) <(256:Int)):=by intros;exact PV _
 have my:((Ct a1)=false→(EM a1)=false→(Lf a1)=true→(0:Int)≤(Bs a0)∧(Bs a0) <(↑(CF a0 a1).length:Int)):=N0 (N1 (N1 (N1 (N1 hp))))
 have vk:((Ct a1)=false→(EM a1)=false→(Lf a1)=true→(Bs a0).toNat <(CF a0 a1).length):=by intro h0 h1 h2;have g:=my h0 h1 h2;omega
 have y3:((Ct a1)=false→(EM a1)=false→(Lf a1)=true→(0:Int)≤(OG a0 a1)∧(OG a0 a1) <(256:Int)):=by intros;exact PV _
 exact AN (Au Bog.2 Agq.2) (Ber a0 a1) (Aa n0 (Aa rfl (Aa n2 (Aa n3 (Aa n4 (Aa n3 (Aa n4 (Aa n7 (Aa n8 (Aa n9 (Aa n8 (Aa n9 (Aa te (Aa my (Aa vk (Aa my (Aa vk (Aa y3 Ag))))))))))))))))))
def At9 (_a0:Ae) (_a1:Int):A:=.sq 0
def VF (a0:Ae) (a1:Int):AE:=[(0,some (.arr 5 1 (.ty .u8 (a0++FO a1))))]
def Amq (a0:Ae) (_a1:Int):List Prop:=[Af (a0.length+8)]
theorem A5u (n:Int):B8 n=(E3 n:Int):=by
 unfold B8 XS SR SS E3
 by_cases h0:n <0∨n >4611686018427387903
 ·have e:(decide (n <0)||decide (n >4611686018427387903))=true:=by simpa using h0
  rw[e,if_pos h0];rfl
 ·have e:(decide (n <0)||decide (n >4611686018427387903))=false:=by
   rw[Bool.eq_false_iff]
   intro hh
   exact h0 (by simpa using hh)
  rw[e,if_neg h0]
  by_cases h1:n≥1073741824
  ·rw[if_pos h1,decide_eq_true h1];rfl
  ·rw[if_neg h1,decide_eq_false h1]
   by_cases h2:n≥16384
   ·rw[if_pos h2,decide_eq_true h2];rfl
   ·rw[if_neg h2,decide_eq_false h2]
    by_cases h3:n≥64
    ·rw[if_pos h3,decide_eq_true h3];rfl
    ·rw[if_neg h3,decide_eq_false h3];rfl
theorem UT (n:Int):E3 n=0∨(0≤n∧n≤4611686018427387903∧szs (E3 n)):=by
 by_cases h:n <0∨n >4611686018427387903
 ·left;unfold E3;rw[if_pos h]
 ·right;exact⟨by omega,by omega,(Bb9 (by omega) (by omega)).1⟩
theorem Bsu (b:Ae) (n:Int) (_hb:Af (b.length+8)):
  A8 Kb Ka MI (J9 (n,B8 n,B8 n,0,[]++b)) (n,B8 n,B8 n,0,[]++b)∧
  (QY (n,B8 n,B8 n,0,[]++b)).2.2.2.2=b++be (E3 n) n.toNat:=by
 have uy:E3 n≤8:=by
  rcases UT n with h|⟨_,_,h⟩
  ·omega
  ·unfold szs at h;omega
 rw[A5u]
 obtain⟨h1,⟨i,hi,h2⟩,h3⟩:=QW (next:=Kb) (goes:=Ka) (ps:=MI)
  (fun x=>∃i:Nat,i≤E3 n∧x=(n,(E3 n:Int),(E3 n:Int),(i:Int),b++(be (E3 n) n.toNat).take i)) J9 (by
   rintro x ⟨i,hi,rfl⟩
   refine⟨Aa (fun hp=>?_) Ag,fun hg=>?_⟩
   ·have h':(!!decide ((i:Int) <(E3 n:Int)))=true:=hp
    have ae:i <E3 n:=by simpa using h'
    show Af ((b++(be (E3 n) n.toNat).take i).length+1)
    unfold Af at*
    rw[List.length_append,List.length_take,Nh]
    omega
   ·have h':(!!decide ((i:Int) <(E3 n:Int)))=true:=hg
    have ae:i <E3 n:=by simpa using h'
    have hw:IntKind.i64.wrap ((i:Int)+1)=((i+1:Nat):Int):=by rw[i64_in (by omega)];rfl
    have eg:0≤n:=by rcases UT n with h|⟨h,_⟩<;>omega
    refine⟨⟨i+1,ae,?_⟩,?_⟩
    ·show(n,(E3 n:Int),(E3 n:Int),IntKind.i64.wrap ((i:Int)+1),(b++(be (E3 n) n.toNat).take i)++[UInt8.ofNat (IntKind.u8.wrap (n.fdiv ((2:Int)^min (IntKind.u64.wrap (IntKind.i64.wrap ((8:Int)*IntKind.i64.wrap (IntKind.i64.wrap ((E3 n:Int) - (1:Int)) - (i:Int))))).toNat (64:Nat)))).toNat])=_
     rw[hw,Bst eg uy ae,List.append_assoc,←Bh8 ae]
    ·show((E3 n:Int) - IntKind.i64.wrap ((i:Int)+1)).toNat <((E3 n:Int) - (i:Int)).toNat
     rw[hw]
     omega) _ (n,(E3 n:Int),(E3 n:Int),0,[]++b) ⟨0,Nat.zero_le _,by simp⟩ (Nat.le_refl _)
 refine⟨h1,?_⟩
 have h4:QY (n,(E3 n:Int),(E3 n:Int),0,[]++b)=_:=h2
 rw[h2] at h3
 have ef:(!!decide ((i:Int) <(E3 n:Int)))=false:=h3
 have hn:¬((i:Int) <(E3 n:Int)):=by simpa using ef
 obtain rfl:i=E3 n:=by omega
 rw[h4,List.take_of_length_le (by rw[Nh];exact Nat.le_refl _)]
theorem Beq (b:Ae) (n:Int) (hb:Af (b.length+8)):(∀p∈At6 b n,p)∧Ajx b n=b++FO n:=by
 obtain⟨h1,h2⟩:=Bsu b n hb
 have h3:CF b n=b++be (E3 n) n.toNat:=h2
 have h4:(Bs b).toNat=b.length:=rfl
 have hS:=A5u n
 have hlen:(b++be (E3 n) n.toNat).length=b.length+E3 n:=by rw[List.length_append,Nh]
 have cf:E3 n≠0→(0:Int)≤Bs b∧Bs b <((CF b n).length:Int):=fun h0=>by
  rw[h3,hlen]
  show(0:Int)≤(b.length:Int)∧(b.length:Int) <((b.length+E3 n:Nat):Int)
  omega
 have th:∀c:Int,c≠0→(B8 n==c)=true→E3 n≠0:=fun c hc h h0=>by
  rw[hS,h0] at h
  have h':(0:Int)=c:=by simpa using h
  exact hc h'.symm
 refine⟨Aa (by unfold Af at*;omega) (Aa h1 (Aa (fun h=>cf (th 2 (by decide) h)) (Aa (fun _ h=>cf (th 4 (by decide) h)) (Aa (fun _ _ h=>cf (th 8 (by decide) h)) Ag)))),?_⟩
 unfold Ajx
 rw[h3,h4]
 have k7:Ct n=((E3 n:Int)==2):=by show(B8 n==2)=_;rw[hS]
 have k6:EM n=((E3 n:Int)==4):=by show(B8 n==4)=_;rw[hS]
 have k5:Lf n=((E3 n:Int)==8):=by show(B8 n==8)=_;rw[hS]
 have b1:OE b n=IntKind.u8.wrap ((BitVec.ofInt 8 ((((b++be (E3 n) n.toNat).getD b.length (Av TC.u8)).toNat:Nat):Int) ||| BitVec.ofInt 8 ((64*1:Nat):Int)).toNat:Int):=by rw[←h3,←h4];rfl
 have b0:OF b n=IntKind.u8.wrap ((BitVec.ofInt 8 ((((b++be (E3 n) n.toNat).getD b.length (Av TC.u8)).toNat:Nat):Int) ||| BitVec.ofInt 8 ((64*2:Nat):Int)).toNat:Int):=by rw[←h3,←h4];rfl
 have b2:OG b n=IntKind.u8.wrap ((BitVec.ofInt 8 ((((b++be (E3 n) n.toNat).getD b.length (Av TC.u8)).toNat:Nat):Int) ||| BitVec.ofInt 8 ((64*3:Nat):Int)).toNat:Int):=by rw[←h3,←h4];rfl
 rw[k7,k6,k5,b1,b0,b2]
 unfold FO
 rcases UT n with hz|⟨g1,g2,g3⟩
 ·rw[hz];rfl
 ·have hN:=(Bb9 g1 g2).2
  generalize hk:E3 n=k at*
  rcases g3 with rfl|rfl|rfl|rfl
  ·show b++be 1 n.toNat=b++be 1 (n.toNat+0*(64*256^0))
   rw[Nat.zero_mul,Nat.add_zero]
  ·exact A5t (m:=1) (t:=1) b hN (by decide) _
  ·exact A5t (m:=3) (t:=2) b hN (by decide) _
  ·exact A5t (m:=7) (t:=3) b hN (by decide) _
theorem Bep (a0:Ae) (a1:Int) (hp:∀p∈Amq a0 a1,p):An AP 18 [AA .bytes a0,AA .i64 a1] 0 [] 1 (At9 a0 a1) 1 (VF a0 a1):=by
 obtain⟨h1,h2⟩:=Beq a0 a1 (hp _ (List.mem_cons_self ..))
 have h:=Bmw a0 a1 h1
 have ho:ZK a0 a1=VF a0 a1:=by unfold ZK VF;rw[h2]
 rw[ho] at h
 exact h
theorem A9l:Gw AP 18 (Cy [.t .bytes,.t .i64] 1 At9 VF Amq):=Az Bep
def Boh:=DM A9l Bog
abbrev Fd:Type:=Int×Ae×Int×Int
def A3q (x:Fd):St:=⟨46,0,[(6,iV (x.1)),(28,.sl .u8 x.2.1),(29,iV (x.2.2.1)),(30,iV (x.2.2.2))],[]⟩
def Aa8:St→Option Fd
 |⟨46,0,[(6,.v (.int .i64 z0)),(28,.sl .u8 z1),(29,.v (.int .i64 z2)),(30,.v (.int .i64 z3))],[]⟩=>some (z0,z1,z2,z3)
 |_=>none
def A3p:Em:=⟨0,0,[6,28,29,30],[],[],[],[6],[]⟩
def A3o:EQ:=⟨[],[],[6,28,29,30],[]⟩
def At1 (a0:Int) (a1:Ae) (a3:Int):Int:=IntKind.i64.wrap (↑(BitVec.ofInt 64 (IntKind.i64.wrap (a0*256)) ||| BitVec.ofInt 64 (IntKind.i64.wrap (↑(UInt8.toNat (a1.getD a3.toNat (Av TC.u8))):Int))).toNat:Int)
def HG:Fd→Fd
  |(a0,a1,a2,a3)=>(At1 a0 a1 a3,a1,a2,IntKind.i64.wrap (a3+1))
def HF (x:Fd):El:=some (!!decide (x.2.2.2 <x.2.2.1))
def XQ:Fd→List Prop
  |(_,a1,a2,a3)=>[((!!decide (a3 <a2))=true→0≤a3∧a3 <(a1.length:Int))]
abbrev MH:Fd→List Prop:=XQ
def Aps (x:Fd):BD:=[(some 0,some (!decide (x.2.2.2 <x.2.2.1)),⟨46,0,[(6,iV (x.1))],[]⟩)]
def HE (x:Fd):Nat:=(x.2.2.1 - x.2.2.2).toNat
def NN (x:Fd):Fd:=Bh HG HF (HE x) x
def At2:=Jt (Co Boh.1 L0) (Aw AP 77 0) A3p A3o Aa8 HE HG HF MH Aps
def Agp:=V8 0 (g:=At2) (BX (T:=A3q) (psA:=XQ) Boh.2 AF (u:=9) (by kernel_rfl) (by decide) (fun⟨a0,a1,a2,a3⟩=>by kernel_rfl) (fun _ h=>h) (fun s x h=>by unfold Aa8 at h;split at h<;>first|(cases h;rfl)|cases h) (fun _=>A9 (n:=46) rfl) fun _ _=>rfl) ⟨L0,AF⟩
def Ip (a0:Ae):Int:=(↑(UInt8.toNat (a0.getD 0 (Av TC.u8))):Int)
def D8 (a0:Ae):Bool:=(a0.length:Int)==0
def Hn (a0:Ae):Int:=IntKind.i64.wrap (1*2^min ((Ip a0).fdiv 64).toNat 64)
def FN (a0:Ae):Ae:=List.take ((Hn a0).toNat - 1) (List.drop 1 a0)
def Hm (a0:Ae):Bool:=decide ((a0.length:Int) <(Hn a0))
def QX (a0:Ae):Bool:=decide (B8 (NN (IntKind.i64.wrap (IntKind.u8.wrap (↑(BitVec.ofInt 8 (Ip a0) &&& BitVec.ofInt 8 63).toNat:Int)),(FN a0),(↑(FN a0).length:Int),0)).1 <(Hn a0))
def Aju (a0:Ae):Int:=bif(D8 a0) then 0 else bif(Hm a0) then 0 else bif(QX a0) then 0 else(NN (IntKind.i64.wrap (IntKind.u8.wrap (↑(BitVec.ofInt 8 (Ip a0) &&& BitVec.ofInt 8 63).toNat:Int)),(FN a0),(↑(FN a0).length:Int),0)).1
def Ajv (a0:Ae):Int:=bif(D8 a0) then 0 else bif(Hm a0) then 0 else bif(QX a0) then 0 else(Hn a0)
def Ajw (a0:Ae):Int:=bif(D8 a0) then 10 else bif(Hm a0) then 10 else bif(QX a0) then 11 else 0
def ZJ (a0:Ae):A:=.v (.tuple ⟨[.int .i64 (Aju a0),.int .i64 (Ajv a0),.int .i64 (Ajw a0)]⟩)
def At3 (a0:Ae):List Prop:=[((!(D8 a0))=true→(0:Int)≤0∧0 <(a0.length:Int)),((!(D8 a0))=true→0≤(Ip a0).fdiv 64),((!(D8 a0))=true→(!(Hm a0))=true→(0:Int)≤0∧0 <(a0.length:Int)),((!(D8 a0))=true→(!(Hm a0))=true→(0:Int)≤1∧1≤(Hn a0)∧(Hn a0)≤(a0.length:Int)),((!(D8 a0))=true→(!(Hm a0))=true→A8 HG HF MH (HE (IntKind.i64.wrap (IntKind.u8.wrap (↑(BitVec.ofInt 8 (Ip a0) &&& BitVec.ofInt 8 63).toNat:Int)),(FN a0),(↑(FN a0).length:Int),0)) (IntKind.i64.wrap (IntKind.u8.wrap (↑(BitVec.ofInt 8 (Ip a0) &&& BitVec.ofInt 8 63).toNat:Int)),(FN a0),(↑(FN a0).length:Int),0))]
theorem Beo (a0:Ae):RL (Co Boh.1 Agp.1) 9 77 [AA .bytes a0] 0 []=some (1,ZJ a0,0,[],[((!(D8 a0))=true→(0:Int)≤0∧0 <(a0.length:Int)),((!(D8 a0))=true→0≤(Ip a0).fdiv 64),((!(D8 a0))=true→(!(Hm a0))=true→(0:Int)≤0∧0 <(a0.length:Int)),((!(D8 a0))=true→(!(Hm a0))=true→(0:Int)≤1∧1≤(Hn a0)∧(Hn a0)≤(a0.length:Int)),((!(D8 a0))=true→(!(Hm a0))=true→Aw AP (77:FuncId) 0=Aw AP (77:FuncId) 0),((!(D8 a0))=true→(!(Hm a0))=true→A8 HG HF MH (HE (IntKind.i64.wrap (IntKind.u8.wrap (↑(BitVec.ofInt 8 (Ip a0) &&& BitVec.ofInt 8 63).toNat:Int)),(FN a0),(↑(FN a0).length:Int),0)) (IntKind.i64.wrap (IntKind.u8.wrap (↑(BitVec.ofInt 8 (Ip a0) &&& BitVec.ofInt 8 63).toNat:Int)),(FN a0),(↑(FN a0).length:Int),0))]):=by kernel_rfl
theorem Bmv (a0:Ae) (hp:∀p∈At3 a0,p):An AP 77 [AA .bytes a0] 0 [] 1 (ZJ a0) 0 []:=
  AN (Au Boh.2 Agp.2) (Beo a0) (nT hp fun hp=>nT hp fun hp=>nT hp fun hp=>nT hp fun hp=>Aa (by intros;rfl) (nT hp fun _=>Ag))
def VE (a0:Ae):A:=.v (.tuple ⟨[.int .i64 (Ad a0).1,.int .i64 (Ad a0).2.1,.int .i64 (Ad a0).2.2]⟩)
def Amp (_a0:Ae):List Prop:=[]
theorem Bq6 (L:Ae) (_h7:L.length≤7) (a:Nat) (_ha:a <64):
  A8 HG HF MH (HE ((a:Int),L,(L.length:Int),0)) ((a:Int),L,(L.length:Int),0)∧
  (NN ((a:Int),L,(L.length:Int),0)).1=(val a L:Int):=by
 obtain⟨h1,⟨i,hi,h2⟩,h3⟩:=QW (next:=HG) (goes:=HF) (ps:=MH)
  (fun x=>∃i:Nat,i≤L.length∧x=((val a (L.take i):Int),L,(L.length:Int),(i:Int))) HE (by
   rintro x ⟨i,hi,rfl⟩
   refine⟨Aa (fun hp=>?_) Ag,fun hg=>?_⟩
   ·have h':(!!decide ((i:Int) <(L.length:Int)))=true:=hp
    have ae:(i:Int) <(L.length:Int):=by simpa using h'
    show(0:Int)≤(i:Int)∧(i:Int) <(L.length:Int)
    exact⟨by omega,ae⟩
   ·have h':(!!decide ((i:Int) <(L.length:Int)))=true:=hg
    have ae:i <L.length:=by simpa using h'
    have hw:IntKind.i64.wrap ((i:Int)+1)=((i+1:Nat):Int):=by rw[i64_in (by omega)];rfl
    have hb:val a (L.take i) <64*256^6:=by
     have hv:=Qk (L.take i) a
     have hl:=Alv (L.take i)
     have e:(L.take i).length=i:=by rw[List.length_take];omega
     rw[e] at hv hl
     have hm:256^i≤256^6:=Nat.pow_le_pow_right (by decide) (by omega)
     have hq:=Nat.mul_le_mul_right (256^i) (show a+1≤64 by omega)
     rw[Nat.add_mul,Nat.one_mul] at hq
     have ka:=Nat.mul_le_mul_left 64 hm
     omega
    refine⟨⟨i+1,ae,?_⟩,?_⟩
    ·show(IntKind.i64.wrap ((BitVec.ofInt 64 (IntKind.i64.wrap ((val a (L.take i):Int)*256)) ||| BitVec.ofInt 64 (IntKind.i64.wrap (((L.getD (i:Int).toNat (Av TC.u8)).toNat:Nat):Int))).toNat:Int),L,(L.length:Int),IntKind.i64.wrap ((i:Int)+1))=_
     rw[hw,Bwv hb,Int.toNat_natCast,Bcc _ _ _ ae]
    ·show((L.length:Int) - IntKind.i64.wrap ((i:Int)+1)).toNat <((L.length:Int) - (i:Int)).toNat
     rw[hw]
     omega) _ ((a:Int),L,(L.length:Int),0) ⟨0,Nat.zero_le _,rfl⟩ (Nat.le_refl _)
 refine⟨h1,?_⟩
 have h4:NN ((a:Int),L,(L.length:Int),0)=_:=h2
 rw[h2] at h3
 have ef:(!!decide ((i:Int) <(L.length:Int)))=false:=h3
 have hn:¬((i:Int) <(L.length:Int)):=by simpa using ef
 obtain rfl:i=L.length:=by omega
 rw[h4,List.take_length]
theorem Ben (b:Ae):(∀p∈At3 b,p)∧Aju b=(Ad b).1∧Ajv b=(Ad b).2.1∧Ajw b=(Ad b).2.2:=by
 cases b with
 |nil=>
  have no:(!(D8 []))=true→False:=by intro h;cases h
  exact⟨Aa (fun h=>(no h).elim) (Aa (fun h=>(no h).elim) (Aa (fun h=>(no h).elim) (Aa (fun h=>(no h).elim) (Aa (fun h=>(no h).elim) Ag)))),rfl,rfl,rfl⟩
 | cons x r=>
  have hx:x.toNat <256:=x.toNat_lt
  have k4:D8 (x::r)=false:=by
   show(((r.length+1:Nat):Int)==0)=false
   rw[Bool.eq_false_iff]
   intro h
   have:((r.length+1:Nat):Int)=0:=by simpa using h
   omega
  have k3:Hn (x::r)=((2^(x.toNat / 64):Nat):Int):=B5z x
  have t3:x.toNat / 64≤3:=by omega
  have hK:=(Bhh t3).1
  have k2:FN (x::r)=r.take (2^(x.toNat / 64) - 1):=by
   show List.take ((Hn (x::r)).toNat - 1) r=_
   rw[k3,Int.toNat_natCast]
  have k1:Hm (x::r)=decide (r.length+1 <2^(x.toNat / 64)):=by
   show decide (((r.length+1:Nat):Int) <Hn (x::r))=_
   rw[k3]
   exact decide_eq_decide.2 Int.ofNat_lt
  have k6:IntKind.i64.wrap (IntKind.u8.wrap ((BitVec.ofInt 8 (Ip (x::r)) &&& BitVec.ofInt 8 63).toNat:Int))=((x.toNat % 64:Nat):Int):=Bv4 x
  generalize hKK:2^(x.toNat / 64)=K at*
  have hlen:(r.take (K - 1)).length≤7:=by rw[List.length_take];unfold szs at hK;omega
  obtain⟨n1,n2⟩:=Bq6 (r.take (K - 1)) hlen (x.toNat % 64) (by omega)
  have k0:QX (x::r)=decide (E3 (val (x.toNat % 64) (r.take (K - 1))) <K):=by
   unfold QX
   rw[k6,k2,n2,A5u,k3]
   exact decide_eq_decide.2 Int.ofNat_lt
  refine⟨Aa (fun _=>?_) (Aa (fun _=>?_) (Aa (fun _ _=>(by show(0:Int)≤0∧(0:Int) <((r.length+1:Nat):Int);omega)) (Aa (fun _ h=>?_) (Aa (fun _ _=>?_) Ag)))),?_⟩
  ·show(0:Int)≤0∧(0:Int) <((r.length+1:Nat):Int)
   omega
  ·show(0:Int)≤((x.toNat:Nat):Int).fdiv 64
   rw[Int.fdiv_eq_ediv_of_nonneg _ (by decide)]
   omega
  ·rw[k1] at h
   have h':¬(r.length+1 <K):=by simpa using h
   rw[k3]
   show(0:Int)≤1∧(1:Int)≤(K:Int)∧(K:Int)≤((r.length+1:Nat):Int)
   unfold szs at hK
   omega
  ·rw[k6,k2]
   exact n1
  ·unfold Aju Ajv Ajw
   rw[k4,k1,k0,k6,k2,n2,k3,Uo,hKK]
   by_cases c1:r.length+1 <K
   ·rw[if_pos c1,decide_eq_true c1];exact⟨rfl,rfl,rfl⟩
   ·rw[if_neg c1,decide_eq_false c1]
    by_cases c2:E3 (val (x.toNat % 64) (r.take (K - 1))) <K
    ·rw[if_pos c2,decide_eq_true c2];exact⟨rfl,rfl,rfl⟩
    ·rw[if_neg c2,decide_eq_false c2];exact⟨rfl,rfl,rfl⟩
theorem Bem (a0:Ae) (_hp:∀p∈Amp a0,p):An AP 77 [AA .bytes a0] 0 [] 1 (VE a0) 0 []:=by
 obtain⟨h1,h2,h3,h4⟩:=Ben a0
 have h:=Bmv a0 h1
 have hr:ZJ a0=VE a0:=by unfold ZJ VE;rw[h2,h3,h4]
 rw[hr] at h
 exact h
theorem A9k:Gw AP 77 (Cy [.t .bytes] 0 VE (fun _=>[]) Amp):=Az Bem
def B6v:=DM A9k Boh
abbrev Ca:=B6v
def Rt (a0:Int):Bool:=!a0==1
def Pg (a0:Int):Bool:=bif !((Rt a0)&&!((Rt a0)&&a0==2)) then true else false
def Ay7 (a0:Int):A:=.v (.bool (Pg a0))
def Awf (_a0:Int):List Prop:=[]
theorem Aq5:Gw AP 103 (Cy [.t .i64] 0 Ay7 (fun _=>[]) Awf):=Az fun a0 hp=>AN (u:=9) (Au Ca.2 AF) (by kernel_rfl) hp
def B3b:=DM Aq5 Ca
def Ga (a0:A1):Bool:=bif a0.1==0&&a0.2==0 then true else decide (a0.1 >0)&&decide (a0.1≤281474976710656)&&Pg a0.2
def A5y (a0:A1):A:=.v (.bool (Ga a0))
def Ay6 (_a0:A1):List Prop:=[]
theorem Awd:Gw AP 65 (Cy [.t .stamp] 0 A5y (fun _=>[]) Ay6):=Az fun a0 hp=>AN (u:=9) (Au B3b.2 AF) (by kernel_rfl) hp
def B3c:=DM Awd B3b
def GA (a0:A1):Bool:=bif a0.1==0&&a0.2==0 then true else decide (a0.1≥1)&&decide (a0.1≤281474976710656)&&(a0.2==1||a0.2==2)
def Bfh (a0:A1):A:=.v (.bool (GA a0))
def Bad (_a0:A1):List Prop:=[]
theorem A4n:Gw AP 72 (Cy [.t .stamp] 0 Bfh (fun _=>[]) Bad):=Az fun a0 hp=>AN (u:=9) (Au B3c.2 AF) (by kernel_rfl) hp
def B3d:=DM A4n B3c
def MN (a0:Int):Int:=min (max a0 0) 1099511627776
def Aza (a0 _a1:Int):A:=iV ((MN a0))
def Awm (_a0 _a1:Int):List Prop:=[]
theorem Aq6:Gw AP 69 (Cy [.t .i64,.t .i64] 0 Aza (fun _ _=>[]) Awm):=Az fun a0 a1 hp=>AN (u:=9) (Au B3d.2 AF) (by kernel_rfl) hp
def B3e:=DM Aq6 B3d
def Bzx:=DM (M0 (Au B3e.2 AF) 4 68) B3e
def FX (a0:BE):Bool:=MN a0.1==a0.1&&MN a0.2==a0.2
def Aff (a0:BE):A:=.v (.bool (FX a0))
def Apa (_a0:BE):List Prop:=[]
theorem Bcd (a0:BE):RL (Co Bzx.1 L0) 9 30 [AA .vec a0] 0 []=some (1,Aff a0,0,[],[((0:Int)≤0∧(0:Int) <2),((0:Nat) <2),((0:Int)≤0∧(0:Int) <2),((0:Nat) <2),((0:Int)≤0∧(0:Int) <2),((0:Nat) <2),((0:Int)≤1∧(1:Int) <2),((1:Nat) <2),((0:Int)≤1∧(1:Int) <2),((1:Nat) <2),((0:Int)≤1∧(1:Int) <2),((1:Nat) <2)]):=by kernel_rfl
theorem Bho (a0:BE) (_hp:∀p∈Apa a0,p):An AP 30 [AA .vec a0] 0 [] 1 (Aff a0) 0 []:=
  AN (Au Bzx.2 AF) (Bcd a0) (Aa (by first|rfl|decide+kernel) (Aa (by first|rfl|decide+kernel) (Aa (by first|rfl|decide+kernel) (Aa (by first|rfl|decide+kernel) (Aa (by first|rfl|decide+kernel) (Aa (by first|rfl|decide+kernel) (Aa (by first|rfl|decide+kernel) (Aa (by first|rfl|decide+kernel) (Aa (by first|rfl|decide+kernel) (Aa (by first|rfl|decide+kernel) (Aa (by first|rfl|decide+kernel) (Aa (by first|rfl|decide+kernel) Ag))))))))))))
theorem A52:Gw AP 30 (Cy [.t .vec] 0 Aff (fun _=>[]) Apa):=Az Bho
def B3f:=DM A52 Bzx
def DI (a0:BE):Bool:=decide (a0.1≥0)&&decide (a0.1≤1099511627776)&&decide (a0.2≥0)&&decide (a0.2≤1099511627776)
def Bfm (a0:BE):A:=.v (.bool (DI a0))
def Baf (_a0:BE):List Prop:=[]
theorem A4o:Gw AP 37 (Cy [.t .vec] 0 Bfm (fun _=>[]) Baf):=Az fun a0 hp=>AN (u:=9) (Au B3f.2 AF) (by kernel_rfl) hp
def B6w:=DM A4o B3f
abbrev Cb:=B6w
def HA (s:A1):Bool:=bif s.n==0&&s.site==0 then true else decide (1≤s.n)&&decide (s.n≤281474976710656)&&(s.site==1||s.site==2)
def FK (v:BE):Bool:=decide (0≤v.a)&&decide (v.a≤1099511627776)&&(decide (0≤v.b)&&decide (v.b≤1099511627776))
def IE (v:BE):Bool:=v.a==0&&v.b==0
def Aas (s:A1):Int:=bif s.n==0 then 0 else 2*s.n+s.site - 1
def Asm (n:Int):A1:=if n=0 then⟨0,0⟩ else⟨n / 2,1+n % 2⟩
def X8 (s:A1):Ae:=bif HA s then FO (Aas s) else[]
def Nz (v:BE):Ae:=bif FK v then FO v.a++FO v.b else[]
def Ot (t:ByteArray):Ae:=FO (t.size:Int)++t.data.toList
def BB (b:Ae):A1×Int×Int:=if(Ad b).2.2≠0 then(⟨0,0⟩,0,(Ad b).2.2) else if HA (Asm (Ad b).1)=true then(Asm (Ad b).1,(Ad b).2.1,0) else(⟨0,0⟩,0,11)
def AB (b:Ae):BE×Int×Int:=if(Ad b).2.2≠0 then(⟨0,0⟩,0,(Ad b).2.2) else
 if(Ad (b.drop (Ad b).2.1.toNat)).2.2≠0 then(⟨0,0⟩,0,(Ad (b.drop (Ad b).2.1.toNat)).2.2) else
 if FK ⟨(Ad b).1,(Ad (b.drop (Ad b).2.1.toNat)).1⟩=true then(⟨(Ad b).1,(Ad (b.drop (Ad b).2.1.toNat)).1⟩,(Ad b).2.1+(Ad (b.drop (Ad b).2.1.toNat)).2.1,0) else(⟨0,0⟩,0,11)
def Bm (b:Ae) (m:Int):ByteArray×Int×Int:=if(Ad b).2.2≠0 then(ByteArray.empty,0,(Ad b).2.2) else if(Ad b).1 >m then(ByteArray.empty,0,3) else
 if(b.length:Int) - (Ad b).2.1 <(Ad b).1 then(ByteArray.empty,0,10) else(⟨((b.drop (Ad b).2.1.toNat).take (Ad b).1.toNat).toArray⟩,(Ad b).2.1+(Ad b).1,0)
structure Rd {α:Type} (get:Ae→α×Int×Int) (good:α→Prop) (put:α→Ae):Prop where
 back:∀x r,good x→get (put x++r)=(x,((put x).length:Int),0)
 front:∀b x k,get b=(x,k,0)→good x∧k=((put x).length:Int)∧∃r,b=put x++r
theorem Bhj {b p:Ae} (h:b.take p.length=p):∃r,b=p++r:=⟨b.drop p.length,by
 conv=>lhs;rw[←List.take_append_drop p.length b,h]⟩
def okN (n:Int):Prop:=0≤n∧n≤4611686018427387903
theorem rdN:Rd Ad okN FO where
 back:=fun x r h=>by rw[Bv5 h.1 h.2 r,Nj]
 front:=fun b x k h=>by
  obtain⟨h1,h2,h3,_,h5⟩:=Bw2 h
  exact⟨⟨h1,h2⟩,by rw[h3,Nj],Bhj (by rw[Nj];exact h5)⟩
theorem ZC {b:Ae} (h:(Ad b).2.2=0):∃r,okN (Ad b).1∧(Ad b).2.1=((FO (Ad b).1).length:Int)∧b=FO (Ad b).1++r:=by
 obtain⟨h1,h2,r,h3⟩:=rdN.front b (Ad b).1 (Ad b).2.1 (by rw[←h])
 exact⟨r,h1,h2,h3⟩
theorem Bq4 (b:Ae):(Ad b).2.2≠0→(Ad b).1=0∧(Ad b).2.1=0:=fun h=>by
 cases b with
 |nil=>exact⟨rfl,rfl⟩
 | cons x r=>
  rw[Uo] at h⊢
  split
  ·exact⟨rfl,rfl⟩
  ·split
   ·exact⟨rfl,rfl⟩
   ·rename_i h1 h2
    rw[if_neg h1,if_neg h2] at h
    exact absurd rfl h
theorem AZ (b:Ae):0≤(Ad b).2.1∧(Ad b).2.1≤(b.length:Int)∧(Ad b).2.1≤8∧0≤(Ad b).1∧(Ad b).1≤4611686018427387903:=by
 by_cases h:(Ad b).2.2=0
 ·obtain⟨r,⟨h1,bt⟩,h2,h3⟩:=ZC h
  have hl:=congrArg List.length h3
  rw[List.length_append] at hl
  have h8:(FO (Ad b).1).length≤8:=by
   rw[Nj]
   have:=(Bb9 h1 bt).1
   unfold szs at this
   omega
  exact⟨by omega,by omega,by omega,h1,bt⟩
 ·obtain⟨h1,h2⟩:=Bq4 b h
  rw[h1,h2]
  omega
theorem Ui {p r:Ae} {k:Int} (h:k=(p.length:Int)):(p++r).drop k.toNat=r:=by
 subst h
 rw[Int.toNat_natCast,List.drop_left]
theorem Aji {s:A1}:HA s=true↔(s.n=0∧s.site=0)∨(1≤s.n∧s.n≤281474976710656∧(s.site=1∨s.site=2)):=by
 unfold HA
 rw[Bool.cond_eq_ite]
 split
 ·rename_i h
  simp only[Bool.and_eq_true,beq_iff_eq] at h
  exact⟨fun _=> .inl h,fun _=>rfl⟩
 ·rename_i h
  simp only[Bool.and_eq_true,beq_iff_eq] at h
  simp only[Bool.and_eq_true,Bool.or_eq_true,beq_iff_eq,decide_eq_true_eq]
  constructor
  ·intro h';exact .inr ⟨h'.1.1,h'.1.2,h'.2⟩
  ·rintro(h'|⟨h1,h2,h3⟩)
   ·exact absurd h' h
   ·exact⟨⟨h1,h2⟩,h3⟩
theorem Bmm {v:BE}:FK v=true↔0≤v.a∧v.a≤1099511627776∧0≤v.b∧v.b≤1099511627776:=by
 unfold FK
 simp only[Bool.and_eq_true,decide_eq_true_eq]
 omega
theorem Als {s t:A1} (_h1:s.n=t.n) (_h2:s.site=t.site):s=t:=by cases s;cases t;simp_all
theorem Blf {s t:BE} (_h1:s.a=t.a) (_h2:s.b=t.b):s=t:=by cases s;cases t;simp_all
theorem Bpy {s:A1} (h:HA s=true):okN (Aas s)∧Asm (Aas s)=s:=by
 have h':=Aji.1 h
 unfold Aas Asm
 by_cases h0:s.n=0
 ·have e:(s.n==0)=true:=by simpa using h0
  rw[e,cond_true,if_pos rfl]
  exact⟨by unfold okN;omega,Als (by simp only;omega) (by simp only;omega)⟩
 ·have e:(s.n==0)=false:=by simpa using h0
  rw[e,cond_false,if_neg (by omega)]
  exact⟨by unfold okN;omega,Als (by simp only;omega) (by simp only;omega)⟩
theorem Bvi {n:Int} (hn:okN n) (h:HA (Asm n)=true):Aas (Asm n)=n:=by
 have h':=Aji.1 h
 unfold okN at hn
 unfold Aas
 unfold Asm at h'⊢
 by_cases h0:n=0
 ·rw[if_pos h0]
  subst h0
  rfl
 ·rw[if_neg h0] at h'⊢
  simp only at h'⊢
  have hz:n / 2≠0:=by omega
  have e:(n / 2==0)=false:=by simpa using hz
  rw[e,cond_false]
  omega
theorem A32 {s:A1} (h:HA s=true):X8 s=FO (Aas s):=by unfold X8;rw[h];rfl
theorem A33 {v:BE} (h:FK v=true):Nz v=FO v.a++FO v.b:=by unfold Nz;rw[h];rfl
theorem rdS:Rd BB (fun s=>HA s=true) X8 where
 back:=fun s r h=>by
  obtain⟨h1,h2⟩:=Bpy h
  have hg:=rdN.back (Aas s) r h1
  rw[A32 h]
  unfold BB
  rw[hg]
  simp only[ne_eq,not_true_eq_false,if_false]
  rw[h2,if_pos h]
 front:=fun b s k h=>by
  unfold BB at h
  by_cases he:(Ad b).2.2=0
  ·rw[if_neg (by simpa using he)] at h
   obtain⟨r,h1,h2,h3⟩:=ZC he
   split at h
   ·rename_i hg
    injection h with e1 e2
    injection e2 with e2 e3
    have hd:=Bvi h1 hg
    rw[e1] at hd hg
    refine⟨hg,?_,r,?_⟩
    ·rw[A32 hg,hd,←e2];exact h2
    ·rw[A32 hg,hd];exact h3
   ·injection h with e1 e2
    injection e2 with e2 e3
    cases e3
  ·rw[if_pos (by simpa using he)] at h
   injection h with e1 e2
   injection e2 with e2 e3
   exact absurd e3 he
theorem rdV:Rd AB (fun v=>FK v=true) Nz where
 back:=fun v r h=>by
  obtain⟨h1,h2,h3,h4⟩:=Bmm.1 h
  have hg:=rdN.back v.a (FO v.b++r) (by unfold okN;omega)
  have pw:=rdN.back v.b r (by unfold okN;omega)
  rw[A33 h,List.append_assoc]
  unfold AB
  rw[hg]
  simp only[not_true_eq_false,if_false,ne_eq]
  rw[Ui rfl,pw]
  simp only[not_true_eq_false,if_false]
  rw[if_pos h,List.length_append]
  rfl
 front:=fun b v k h=>by
  unfold AB at h
  by_cases he:(Ad b).2.2=0
  ·rw [if_neg (by simpa using he)] at h
   obtain⟨r,h1,h2,h3⟩:=ZC he
   have rk:b.drop (Ad b).2.1.toNat=r:=by
    generalize Ad b=g at*
    subst h3
    exact Ui h2
   rw[rk] at h
   by_cases ep:(Ad r).2.2=0
   ·rw[if_neg (by simpa using ep)] at h
    obtain⟨r2,k1,k2,k3⟩:=ZC ep
    split at h
    ·rename_i hg
     injection h with e1 e2
     injection e2 with e2 e3
     subst e1
     refine⟨hg,?_,r2,?_⟩
     ·rw[A33 hg,←e2,h2,k2,List.length_append]
      exact(Int.natCast_add _ _).symm
     ·rw[A33 hg,List.append_assoc]
      exact h3.trans (congrArg (FO (Ad b).1++·) k3)
    ·injection h with e1 e2
     injection e2 with e2 e3
     cases e3
   ·rw[if_pos (by simpa using ep)] at h
    injection h with e1 e2
    injection e2 with e2 e3
    exact absurd e3 ep
  ·rw[if_pos (by simpa using he)] at h
   injection h with e1 e2
   injection e2 with e2 e3
   exact absurd e3 he
theorem rdT {m:Int} (_hm:m≤4611686018427387903):Rd (fun b=>Bm b m) (fun t=>(t.size:Int)≤m) Ot where
 back:=fun t r h=>by
  have hg:=rdN.back (t.size:Int) (t.data.toList++r) (by unfold okN;omega)
  unfold Ot
  rw[List.append_assoc]
  show Bm _ m=_
  unfold Bm
  rw[hg]
  simp only[ne_eq,not_true_eq_false,if_false]
  rw[if_neg (by omega),Ui rfl]
  have hs:t.data.toList.length=t.size:=Array.length_toList
  rw[if_neg (by rw[List.length_append,List.length_append,hs];omega),Int.toNat_natCast]
  have ht:(t.data.toList++r).take t.size=t.data.toList:=by rw[←hs];exact List.take_left
  rw[ht,List.length_append,hs]
  congr 1
 front:=fun b t k h=>by
  have h':Bm b m=(t,k,0):=h
  unfold Bm at h'
  by_cases he:(Ad b).2.2=0
  ·rw [if_neg (by simpa using he)] at h'
   obtain⟨r,⟨h1,bt⟩,h2,h3⟩:=ZC he
   have rk:b.drop (Ad b).2.1.toNat=r:=by
    generalize Ad b=g at*
    subst h3
    exact Ui h2
   have hlen:=congrArg List.length h3
   rw[List.length_append] at hlen
   rw[rk] at h'
   by_cases ox:(Ad b).1 >m
   ·rw[if_pos ox] at h';injection h' with e1 e2;injection e2 with e2 e3;cases e3
   ·rw[if_neg ox] at h'
    by_cases hc:(b.length:Int) - (Ad b).2.1 <(Ad b).1
    ·rw[if_pos hc] at h';injection h' with e1 e2;injection e2 with e2 e3;cases e3
    ·rw[if_neg hc] at h'
     injection h' with e1 e2
     injection e2 with e2 e3
     have hn:((Ad b).1.toNat:Int)=(Ad b).1:=Int.toNat_of_nonneg h1
     have hr:(Ad b).1.toNat≤r.length:=by omega
     have bc:(t.size:Int)=(Ad b).1:=by
      rw[←e1]
      show((List.toArray (List.take (Ad b).1.toNat r)).size:Int)=_
      rw[List.size_toArray,List.length_take,Nat.min_eq_left hr]
      exact hn
     have hd:t.data.toList=r.take (Ad b).1.toNat:=by rw[←e1]
     refine⟨by omega,?_,r.drop (Ad b).1.toNat,?_⟩
     ·unfold Ot
      rw[List.length_append,bc,hd,List.length_take,Nat.min_eq_left hr,←e2,h2]
      omega
     ·unfold Ot
      rw[bc,hd,List.append_assoc,List.take_append_drop]
      exact h3
  ·rw[if_pos (by simpa using he)] at h'
   injection h' with e1 e2
   injection e2 with e2 e3
   exact absurd e3 he
theorem A67 (n i:Nat):n &&& 2^i=n / 2^i % 2*2^i:=by
 rw[←Nat.toNat_testBit]
 apply Nat.eq_of_testBit_eq
 intro j
 rw[Nat.testBit_and,Nat.testBit_two_pow]
 cases hb:n.testBit i with
 |true=>
  by_cases jm:i=j
  ·subst jm;simp[hb]
  ·simp[jm]
 |false=>
  by_cases jm:i=j
  ·subst jm;simp[hb]
  ·simp[jm]
theorem Bh7 {n:Int} (h:okN n) (k:Nat) (m:Int) (hm:m=((2^k:Nat):Int)) (hk:k <60):(BitVec.ofInt 64 n &&& BitVec.ofInt 64 m).toNat=n.toNat / 2^k % 2*2^k:=by
 obtain⟨h0,h1⟩:=h
 have hp:2^k <2^60:=Nat.pow_lt_pow_right (by decide) hk
 have wb:(2:Nat)^60=1152921504606846976:=by decide
 rw[BitVec.toNat_and,BitVec.toNat_ofInt,BitVec.toNat_ofInt]
 have m1:(n % ((2^64:Nat):Int)).toNat=n.toNat:=by omega
 have m2:(m % ((2^64:Nat):Int)).toNat=2^k:=by
  subst hm
  generalize 2^k=q at*
  omega
 rw[m1,m2,A67]
theorem A10 {n:Int} (h:okN n) (k:Nat) (m:Int) (hm:m=((2^k:Nat):Int)) (hk:k <60):decide (IntKind.i64.wrap ((BitVec.ofInt 64 n &&& BitVec.ofInt 64 m).toNat:Int) >0)=(n.toNat / 2^k % 2==1):=by
 rw[Bh7 h k m hm hk]
 have hp:2^k <2^60:=Nat.pow_lt_pow_right (by decide) hk
 have qc:0 <2^k:=Nat.pow_pos (by decide)
 have wb:(2:Nat)^60=1152921504606846976:=by decide
 generalize n.toNat / 2^k=x
 generalize 2^k=q at*
 rcases Nat.mod_two_eq_zero_or_one x with e|e
 ·rw[e,Nat.zero_mul]
  rfl
 ·rw[e,Nat.one_mul,i64_in (by omega)]
  have:(q:Int) >0:=by omega
  rw[decide_eq_true this]
  rfl
theorem Bu4 {n:Int} (h:okN n):IntKind.i64.wrap (IntKind.i64.wrap ((BitVec.ofInt 64 n &&& BitVec.ofInt 64 1).toNat:Int)+1)=1+n % 2:=by
 have e:=Bh7 h 0 1 rfl (by decide)
 rw[e]
 obtain⟨h0,h1⟩:=h
 have e2:n.toNat / 2^0 % 2*2^0=n.toNat % 2:=by rw[Nat.pow_zero,Nat.div_one,Nat.mul_one]
 rw[e2,i64_in (n:=((n.toNat % 2:Nat):Int)) (by omega),i64_in (by omega)]
 omega
end Go.Proofs.YtifkbgkbajncjaaGreatDoor

