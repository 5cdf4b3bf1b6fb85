/- made by a program (rowgen.py): WireBack: for every input the law returns true, and each argument reads behind the call as it read before. -/
import Derived.Test.YtifkbgkbajncjaaDoorKWbb

noncomputable section
namespace Go.Proofs.YtifkbgkbajncjaaDoor
open Go.RowKit
abbrev DB:=Option Bool
def Br:DB→Bool
 |none=>true
 |some b=>b
def Kb:DB→DB→DB
 |none,y=>y
 |some a,none=>some a
 |some a,some b=>some (a&&b)
def orO:DB→DB→DB
 |none,_=>none
 |some _,none=>none
 |some a,some b=>some (a||b)
def Aja:DB→DB
 |none=>some false
 |some a=>some (!a)
def A7j (g:Bool):DB→DB→DB
 |none,none=>none
 |some a,none=>some (!g||a)
 |none,some b=>some (g||b)
 |some a,some b=>some (bif g then a else b)
theorem BI (x y:DB):Br (Kb x y)=(Br x&&Br y):=by cases x<;>cases y<;>simp[Kb,Br]
theorem WY (x y:DB):Br (orO x y)=(Br x||Br y):=by cases x<;>cases y<;>simp[orO,Br]
theorem WX (x:DB):Br (Aja x)=!(Br x):=by cases x<;>rfl
theorem Pc (g:Bool) (x y:DB):Br (A7j g x y)=bif g then Br x else Br y:=by cases x<;>cases y<;>cases g<;>simp[A7j,Br]
def A2g:DB→List Prop
 |none=>[]
 |some b=>[b=true]
theorem Amo {c:DB} (h:Br c=true):∀q∈A2g c,q:=fun q hq=>by
 cases c with
 |none=>cases hq
 |some b=>obtain rfl:=List.mem_singleton.1 hq;exact h
def Akt (ops:List Oper) (j:Nat):Option Tmp:=match ops[j]? with
 |some o=>o.dst
 |none=>none
abbrev DH:=DB×Nat×St×List Prop
def onL:List DH→(St→Prop)→Prop
 | [],_=>False
 |(c,_,s,_)::r,K=>(Br c=true∧K s)∨(Br c=false∧onL r K)
def Lh:List DH→Prop
 | []=>True
 |(c,_,_,ps)::r=>(Br c=true→∀p∈ps,p)∧Lh r
def Es:List DH→Nat
 | []=>0
 |(_,k,_,_)::r=>Nat.max k (Es r)
def QI (s:St) (dst:Option Tmp) (f:OY):Option St:=match dst with
 |some d=>bif Nat.blt d s.n then some (St.put ⟨s.n,f.nx,s.t,f.o⟩ d f.x) else none
 |none=>some ⟨s.n,f.nx,s.t,f.o⟩
def St.lit (s:St) (u:Nat) (b:Bool):St:={s with t:=(u,.v (.bool b))::s.t}
def QJ (E:Env) (s:St) (G:AR) (o:Oper):R2:=bif Af9 o.op then none else Bdy E s G o
def doE (E:Env) (s:St) (G:AR) (o:Oper) (c:DB) (ps:List Prop):Option DH:=match opE E s G o with
 |some f=>match QI s o.dst f with
  |some s'=>some (c,f.k,s',ps++f.ps)
  |none=>none
 |none=>none
def Abn (s:St) (o:Oper):Option St:=match o.dst with
 |some d=>bif Nat.blt d s.n then some (s.put d (.v undef)) else none
 |none=>some s
def Ll (E:Env) (ops:List Oper) (s:St) (o:Oper):Option (List DH):=
 match o.guard with
 |none=>match doE E s [] o none [] with
  |some x=>some [x]
  |none=>none
 | some (j,b)=>match Akt ops j with
  | some u=>match E.lit with
   | true=>match s.raw [] (.tmp u) with
    | some (.bool c)=>match Aim c b with
     |true=>match doE E s (RB s 5 u b) o none [] with
      |some x=>some [x]
      |none=>none
     |false=>match Abn s o with
      |some s'=>some [(none,0,s',[])]
      |none=>none
    |_=>none
   | false=>match QJ E s (RB s 5 u b) o with
    |some (x,ps)=>match o.dst with
     |some d=>bif Nat.blt d s.n then(bif Nat.beq d u then none else some [(none,0,s.put d (.opt u b x),Pm (Qv s (RB s 5 u b) (RB s 5 u b)) ps)]) else none
     |none=>none
    | none=>match s.raw [] (.tmp u) with
     |some (.bool c)=>match doE E (s.lit u b) (RB s 5 u b) o (some (bif b then c else !c)) [],Abn (s.lit u (!b)) o with
      |some x,some s'=>some [x,(none,0,s',[])]
      |_,_=>none
     |_=>none
  |none=>none
section
variable {E:Env} {Z:Eo} {F:Nat→Prop} {N:Nm} {s:St} {a:Act} {R:World}
theorem Ep (tm:Nat→Value):Lm tm []:=fun _ _ h=>by cases h
theorem Hv.isPlain {nx:Nat} {x:A} {v:Value} (h:Hv F N nx R x v):x.plain=true:=by cases h<;>rfl
theorem Wp {ops:List Oper} {o:Oper} {j u:Nat} {b:Bool} (hg:o.guard=some (j,b)) (hu:Akt ops j=some u) (a:Act):Region.wanted o (yielded ops.toArray a.tmps)=true↔Bo a u=.bool b:=by
 unfold Region.wanted yielded Bo
 rw[hg]
 have:(ops.toArray[j]?).bind (·.dst)=some u:=by
  unfold Akt at hu
  rw[List.getElem?_toArray]
  cases ho:ops[j]? with
  |none=>rw[ho] at hu;cases hu
  |some o'=>rw[ho] at hu;exact hu
 simp only[this,Option.bind_some]
 rw[Array.getD_eq_getD_getElem?]
 cases hv:a.tmps[u]? with
 |none=>simp[undef]
 |some v=>
  cases v<;>simp
theorem Ig {o:Oper} (hg:o.guard=none) (y:Nat→Option Bool):Region.wanted o y=true:=by
 unfold Region.wanted
 rw[hg]
theorem Rel.lit (h:Rel Z F N s a R) {u:Nat} {b:Bool} (hu:Bo a u=.bool b):Rel Z F N (s.lit u b) a R:=
 ⟨h.defers,h.size,fun v x hv=>by
  have dv:(bif Nat.beq u v then some (A.v (.bool b)) else C4 v s.t)=some x:=hv
  cases hb:Nat.beq u v with
  |true=>
   rw[hb] at dv
   obtain rfl:=Nat.eq_of_beq_eq_true hb
   cases dv
   rw[hu]
   exact(Af rfl).2 (.v _)
  |false=>rw[hb] at dv;exact h.slots v x dv,h.hp,h.st,h.tm⟩
theorem A1g (h:Rel Z F N s a R) {dst:Option Tmp} {f:OY} {s':St} (he:QI s dst f=some s') (hW:∀d,dst=some d→Z.W d) {v:Value} {R':World} (hk:EK F N s.nx s.o R f v R'):
  ∃F' N',Rel Z F' N' s' (a.put dst v) R':=by
 obtain⟨F',N',h1,h2,h3,_⟩:=hk
 have hr:=h.heap h2 h1
 unfold QI at he
 split at he
 ·rename_i d
  cases hd:Nat.blt d s.n with
  |false=>rw[hd] at he;cases he
  |true=>
   rw[hd] at he
   cases he
   exact⟨F',N',hr.put (Nat.le_of_ble_eq_true hd) (hW d rfl) v ((Af h3.isPlain).2 h3)⟩
 ·cases he
  exact⟨F',N',hr⟩
theorem X3 (h:Rel Z F N s a R) {o:Oper} {s':St} (he:Abn s o=some s') (hW:∀d,o.dst=some d→Z.W d):Rel Z F N s' (a.put o.dst undef) R:=by
 unfold Abn at he
 split at he
 ·rename_i d hd
  cases hb:Nat.blt d s.n with
  |false=>rw[hb] at he;cases he
  |true=>
   rw[hb] at he
   cases he
   rw[hd]
   exact h.put (Nat.le_of_ble_eq_true hb) (hW d hd) undef ((Af rfl).2 (.v _))
 ·rename_i hd
  cases he
  rw[hd]
  exact h
theorem A59 (ok:EnvOk E) (h:Rel Z F N s a R) {G:AR} (hG:Lm (Bo a) G) {o:Oper} {c c':DB} {k:Nat} {s':St} {ps qs:List Prop} (he:doE E s G o c qs=some (c',k,s',ps)) (hp:∀p∈ps,p) (hW:∀d,o.dst=some d→Z.W d):
  c'=c∧Gg E.P (fun v R'=>(k≤1→Below R.heap.size R R')∧∃F' N',Rel Z F' N' s' (a.put o.dst v) R') ((execOp a.eval o).run E.P R):=by
 unfold doE at he
 split at he<;>try (cases he;done)
 rename_i f hf
 split at he<;>try (cases he;done)
 rename_i s1 hs
 cases he
 refine⟨rfl,CW (Bk3 ok h hG hf fun p hm=>hp p (List.mem_append.2 (.inr hm))) fun v R' hk=>⟨?_,A1g h hs hW hk⟩⟩
 obtain⟨_,_,_,_,_,h4⟩:=hk
 exact h4
theorem Akf {c b:Bool} (fb:(bif b then c else !c)=true):c=b:=by cases b<;>cases c<;>first|rfl|cases fb
theorem Ad6 {c b:Bool} (fb:(bif b then c else !c)=false):c=!b:=by cases b<;>cases c<;>first|rfl|cases fb
theorem Ah1 (ok:EnvOk E) (h:Rel Z F N s a R) {ops:List Oper} {o:Oper} {l:List DH} (he:Ll E ops s o=some l) (hp:Lh l) (hW:∀d,o.dst=some d→Z.W d):
  (Region.wanted o (yielded ops.toArray a.tmps)=true∧Gg E.P (fun v R'=>(Es l≤1→Below R.heap.size R R')∧onL l fun s'=>∃F' N',Rel Z F' N' s' (a.put o.dst v) R') ((execOp a.eval o).run E.P R))∨
  (Region.wanted o (yielded ops.toArray a.tmps)=false∧onL l fun s'=>∃F' N',Rel Z F' N' s' (a.put o.dst undef) R):=by
 have one:∀{G:AR} {x:DH},Lm (Bo a) G→doE E s G o none []=some x→l=[x]→Gg E.P (fun v R'=>(Es l≤1→Below R.heap.size R R')∧onL l fun s'=>∃F' N',Rel Z F' N' s' (a.put o.dst v) R') ((execOp a.eval o).run E.P R):=fun {G x} hG hx hl=>by
  obtain⟨c,k,s',ps⟩:=x
  subst hl
  have hc:c=none:=by
   unfold doE at hx
   split at hx<;>try (cases hx;done)
   split at hx<;>try (cases hx;done)
   cases hx;rfl
  subst hc
  obtain⟨_,h2⟩:=A59 ok h hG hx (hp.1 rfl) hW
  exact CW h2 fun v R' ⟨h3,h4⟩=>⟨fun hk=>h3 (Nat.le_trans (Nat.le_max_left ..) hk),.inl ⟨rfl,h4⟩⟩
 unfold Ll at he
 split at he
 ·rename_i hg
  split at he<;>try (cases he;done)
  rename_i x hx
  cases he
  exact .inl ⟨Ig hg _,one (Ep _) hx rfl⟩
 ·rename_i j b hg
  split at he<;>try (cases he;done)
  rename_i u hu
  have wt:=Wp hg hu a
  have wf:Bo a u≠.bool b→Region.wanted o (yielded ops.toArray a.tmps)=false:=fun hn=>by
   cases hw:Region.wanted o (yielded ops.toArray a.tmps) with
   |false=>rfl
   |true=>exact absurd (wt.1 hw) hn
  split at he
  ·split at he<;>try (cases he;done)
   rename_i c hc
   have c6:Bo a u=.bool c:=Dz h (Ep _) hc
   split at he
   ·rename_i hb
    obtain rfl:=Tp hb
    split at he<;>try (cases he;done)
    rename_i x hx
    cases he
    exact .inl ⟨wt.2 c6,one (TE h 5 u c c6) hx rfl⟩
   ·rename_i hb
    split at he<;>try (cases he;done)
    rename_i s' hs
    cases he
    refine .inr ⟨wf fun e=>?_,.inl ⟨rfl,F,N,X3 h hs hW⟩⟩
    rw[c6] at e
    cases e
    cases b<;>cases hb
  ·split at he
   ·rename_i x ps hq
    split at he<;>try (cases he;done)
    rename_i d hd
    cases hb:Nat.blt d s.n with
    |false=>rw[hb] at he;cases he
    | true=>
     cases hdu:Nat.beq d u with
     |true=>rw[hb,hdu] at he;cases he
     | false=>
      rw[hb,hdu] at he
      cases he
      have ao:u≠d:=fun e=>by subst e;simp at hdu
      have j9:=Nat.le_of_ble_eq_true hb
      unfold QJ at hq
      cases hl:Af9 o.op with
      |true=>rw[hl] at hq;cases hq
      | false=>
       rw[hl] at hq
       by_cases hw:Bo a u=.bool b
       ·have hG:=TE h 5 u b hw
        have eu:=JU (hp.1 rfl) (Pp h hG (Ae7 h 5 u b hw))
        obtain⟨v,h1,h2⟩:=Ayl ok h hG hq eu
        refine .inl ⟨wt.2 hw,?_⟩
        have h3:=h2 R (Below.refl _ _)
        have MU:∀R',Below R.heap.size R R'→(Es [((none:DB),0,s.put d (.opt u b x),Pm (Qv s (RB s 5 u b) (RB s 5 u b)) ps)]≤1→Below R.heap.size R R')∧onL [((none:DB),0,s.put d (.opt u b x),Pm (Qv s (RB s 5 u b) (RB s 5 u b)) ps)] fun s'=>∃F' N',Rel Z F' N' s' (a.put o.dst v) R':=fun R' py=>
         ⟨fun _=>py,.inl ⟨rfl,F,N,by
          rw[hd]
          refine((h.put (x:=.opt u b x) j9 (hW d hd) v ?_).grow py)
          simp only[HS]
          exact⟨fun _=>(Af h1.isPlain).2 h1,fun hn=>absurd (by rw[Kz _ ao];exact hw) hn⟩⟩⟩
        generalize (execOp a.eval o).run E.P R=r at*
        cases r with
        |halt x w=>exact h3.elim
        | ok n w=>
         cases n<;>simp only[Oper.quietUpon] at h3<;>simp only[Gg]
         case value y=>
          obtain⟨e1,e2⟩:=h3
          rw[e1,e2]
          exact MU R (Below.refl _ _)
         case skip=>
          obtain⟨e1,e2⟩:=h3
          rw[e1,←e2]
          exact MU R (Below.refl _ _)
         case enter f args=>
          obtain⟨e1,hc⟩:=h3
          rw[e1]
          exact hc.mono fun e bt ⟨he,fp⟩=>⟨v,he,MU _ fp⟩
       ·refine .inr ⟨wf hw,.inl ⟨rfl,F,N,?_⟩⟩
        rw[hd]
        refine h.put (x:=.opt u b x) j9 (hW d hd) undef ?_
        simp only[HS]
        exact⟨fun hn=>absurd (by rw[Kz _ ao] at hn;exact hn) hw,fun _=>trivial⟩
   ·split at he<;>try (cases he;done)
    rename_i c hc
    have c6:Bo a u=.bool c:=Dz h (Ep _) hc
    split at he<;>try (cases he;done)
    rename_i x s' hx hs
    obtain⟨cx,k,sx,ps⟩:=x
    cases he
    cases fb:(bif b then c else !c) with
    | true=>
     have e1:=Akf fb
     subst e1
     have rj:cx=some (bif c then c else !c):=by
      unfold doE at hx
      split at hx<;>try (cases hx;done)
      split at hx<;>try (cases hx;done)
      cases hx;rfl
     have nk:Br cx=true:=by rw[rj];exact fb
     obtain⟨_,h2⟩:=A59 ok (h.lit c6) (TE h 5 u c c6) hx (hp.1 nk) hW
     exact .inl ⟨wt.2 c6,CW h2 fun v R' ⟨h3,h4⟩=>⟨fun hk=>h3 (Nat.le_trans (Nat.le_max_left ..) hk),.inl ⟨nk,h4⟩⟩⟩
    | false=>
     have e1:=Ad6 fb
     have rj:cx=some (bif b then c else !c):=by
      unfold doE at hx
      split at hx<;>try (cases hx;done)
      split at hx<;>try (cases hx;done)
      cases hx;rfl
     have nk:Br cx=false:=by rw[rj];exact fb
     refine .inr ⟨wf fun e=>?_,.inr ⟨nk,.inl ⟨rfl,F,N,X3 (h.lit (by rw[c6,e1])) hs hW⟩⟩⟩
     rw[c6,e1] at e
     cases b<;>cases e
end
def S1 (o:AJ):Nat→A→List Nat
 |0,_=>[]
 | d+1,x=>match x with
  | .sq i=>(match Aq i o with
   |some (.arr _ _ (.lst cs))=>cs.flatMap fun l=>l.flatMap (S1 o d)
   |_=>[])++[i]
  | .vw i _ _ _ _=>(match Aq i o with
   |some (.arr _ _ (.lst cs))=>cs.flatMap fun l=>l.flatMap (S1 o d)
   |_=>[])++[i]
  | .dq i=>[i]
  | .iv i _=>[i]
  | .vr i _ _ _=>[i]
  | .vd i _ _ _=>[i]
  | .yl i=>[i]
  | .agg xs=>xs.flatMap (S1 o d)
  | .tup xs=>xs.flatMap (S1 o d)
  |_=>[]
def opV (s:St) (x:Operand):A:=match s.ev [] x with
 |some z=>z
 | none=>match x with
  | .tmp t=>match s.get t with
   |some (.opt _ _ z)=>z
   |_=> .dead
  |_=> .dead
def A5k (s:St) (o:Oper):List Nat:=match o.op with
 | .call {callee:=.value _,args, .. }=>args.toList.flatMap fun x=>S1 s.o 4 (opV s x)
 | .call {callee:=.builtin .append,args, .. }=>match args.toList with
  | [_,y]=>match opV s y with
   | .sq i=>(S1 s.o 4 (.sq i)).filter fun k=>!Nat.beq k i
   |y'=>S1 s.o 4 y'
  |_=>[]
 | .store _ _ v=>S1 s.o 4 (opV s v)
 | .indexAddr _ x _=>match opV s x with
  | .sq i=>bif A7y s.o i then[i] else[]
  |_=>[]
 |_=>[]
def JT (E:Env):List Nat→St→St×List Prop
 | [],s=>(s,[])
 | i::r,s=>match TA E i s with
  |some (s',ps)=>match JT E r s' with
   |(tf,qs)=>(tf,ps++qs)
  |none=>JT E r s
def Aqr (ps:List Prop):List DH→List DH
 | []=>[]
 |(c,k,s,qs)::r=>(c,k,s,ps++qs)::Aqr ps r
def Adk:List DH→Bool
 | []=>false
 |(none,_,_,_)::_=>true
 |_::r=>Adk r
def A5v (_:AJ) (_:List Nat):Bool:=false
def Bfh (s:St) (o:Oper) (ps:List Prop):List DH→Option (List DH)
 | [(none,k,s1,qs)]=>match o.guard,o.dst with
  |none,some d=>match s1.get d with
   |some (.v x)=>bif Nat.ble k 1&&Nat.blt d s.n then some [(none,k,s.put d (.v x),ps++qs)] else none
   |_=>none
  |_,_=>none
 |_=>none
def Bfg (s:St) (o:Oper):Bool:=match o.op with
 | .call {callee:=.value f, .. }=>(match Amg s [] f with
  |some (g,_,_)=>Nat.beq g 40
  |none=>false)
 |_=>false
def A0k (s:St) (o:Oper) (is:List Nat) (ps:List Prop) (l:List DH):Option (List DH):=bif A5v s.o is||Bfg s o then Bfh s o ps l else none
def U0 (E:Env) (ops:List Oper) (s:St) (o:Oper):Option (List DH):=match Ll E ops s o with
 |some l=>some l
 | none=>match A5k s o with
  | []=>none
  | i::r=>match JT E (i::r) s with
   | (s',ps)=>match Ll E ops s' o with
    |some l=>bif Adk l then(match A0k s o (i::r) ps l with
     |some l'=>some l'
     |none=>some (Aqr ps l)) else none
    |none=>none
theorem Asp {s:St} {o:Oper} {is:List Nat} {ps:List Prop} {l l':List DH} (h:A0k s o is ps l=some l'):∃k s1 qs d x,l=[(none,k,s1,qs)]∧o.guard=none∧o.dst=some d∧s1.get d=some (.v x)∧k≤1∧d <s.n∧l'=[(none,k,s.put d (.v x),ps++qs)]:=by
 unfold A0k at h
 cases hd:A5v s.o is||Bfg s o with
 |false=>rw[hd] at h;cases h
 | true=>
  rw[hd,cond_true] at h
  unfold Bfh at h
  split at h<;>try (cases h;done)
  rename_i k s1 qs
  split at h<;>try (cases h;done)
  rename_i d hg nq
  split at h<;>try (cases h;done)
  rename_i x hx
  cases hb:Nat.ble k 1&&Nat.blt d s.n with
  |false=>rw[hb] at h;cases h
  |true=>
   rw[hb] at h
   cases h
   rw[Bool.and_eq_true] at hb
   exact⟨k,s1,qs,d,x,rfl,hg,nq,hx,Nat.le_of_ble_eq_true hb.1,Nat.le_of_ble_eq_true hb.2,rfl⟩
section
variable {E:Env} {Z:Eo} {F:Nat→Prop} {N:Nm} {s:St} {a:Act} {R:World}
theorem Qq:∀{l:List Nat} {s s':St} {ps:List Prop} {F:Nat→Prop},Rel Z F N s a R→JT E l s=(s',ps)→(∀p∈ps,p)→∃F',Rel Z F' N s' a R
 | [],s,s',ps,F,h,he,_=>by cases he;exact⟨F,h⟩
 | i::r,s,s',ps,F,h,he,hp=>by
  unfold JT at he
  split at he
  ·rename_i s1 dg h1
   generalize h2:JT E r s1=x at he
   obtain⟨s2,qs⟩:=x
   cases he
   obtain⟨F1,g1⟩:=Aky h h1 fun p hm=>hp p (List.mem_append.2 (.inl hm))
   exact Qq g1 h2 fun p hm=>hp p (List.mem_append.2 (.inr hm))
  ·exact Qq h he hp
theorem Ady {K:St→Prop} {ps:List Prop}:∀{l:List DH},onL l K→onL (Aqr ps l) K
 | [],h=>h
 |_::_,h=>h.imp id fun⟨a,b⟩=>⟨a,Ady b⟩
theorem Aka {ps:List Prop}:∀{l:List DH},Es (Aqr ps l)=Es l
 | []=>rfl
 |(c,k,s,qs)::r=>by
  show Nat.max k (Es (Aqr ps r))=Nat.max k (Es r)
  rw[Aka]
theorem Akb {ps:List Prop}:∀{l:List DH},Lh (Aqr ps l)→Lh l
 | [],h=>h
 |(_,_,_,_)::r,⟨h1,h2⟩=>⟨fun hc p hm=>h1 hc p (List.mem_append.2 (.inr hm)),Akb (l:=r) h2⟩
theorem Akc {ps:List Prop}:∀{l:List DH},Adk l=true→Lh (Aqr ps l)→∀p∈ps,p
 | [],h,_=>by cases h
 |(none,k,s,qs)::r,_,⟨h1,_⟩=>fun p hm=>h1 rfl p (List.mem_append.2 (.inl hm))
 |(some _,k,s,qs)::r,h,⟨_,h2⟩=>Akc (l:=r) h h2
theorem A87 (ok:EnvOk E) (h:Rel Z F N s a R) {ops:List Oper} {o:Oper} {l:List DH} (he:U0 E ops s o=some l) (hp:Lh l) (hW:∀d,o.dst=some d→Z.W d):
  (Region.wanted o (yielded ops.toArray a.tmps)=true∧Gg E.P (fun v R'=>(Es l≤1→Below R.heap.size R R')∧onL l fun s'=>∃F' N',Rel Z F' N' s' (a.put o.dst v) R') ((execOp a.eval o).run E.P R))∨
  (Region.wanted o (yielded ops.toArray a.tmps)=false∧onL l fun s'=>∃F' N',Rel Z F' N' s' (a.put o.dst undef) R):=by
 unfold U0 at he
 split at he
 ·rename_i l' hl
  cases he
  exact Ah1 ok h hl hp hW
 ·split at he<;>try (cases he;done)
  rename_i i r hc
  generalize hf:JT E (i::r) s=x at he
  obtain⟨s',ps⟩:=x
  simp only at he
  split at he<;>try (cases he;done)
  rename_i l' hl
  cases hn:Adk l' with
  |false=>rw[hn] at he;cases he
  | true=>
   rw[hn,cond_true] at he
   cases hle:A0k s o (i::r) ps l' with
   | some l2=>
    rw[hle] at he
    cases he
    obtain⟨k,s1,qs,d,x,rfl,hg,nq,hx,hk,j9,rfl⟩:=Asp hle
    obtain⟨F',h'⟩:=Qq h hf fun p hm=>hp.1 rfl p (List.mem_append.2 (.inl hm))
    rcases Ah1 ok h' hl ⟨fun _ p hm=>hp.1 rfl p (List.mem_append.2 (.inr hm)),hp.2⟩ hW with⟨h1,h2⟩|⟨h1,_⟩
    ·refine .inl ⟨h1,CW h2 fun v R' ⟨h3,h4⟩=>?_⟩
     have hB:Below R.heap.size R R':=h3 (Nat.max_le.2 ⟨hk,Nat.zero_le _⟩)
     refine⟨fun _=>hB,.inl ⟨rfl,F,N,?_⟩⟩
     rcases h4 with⟨_,F1,N1,hr⟩|h4
     ·have e:=hr.slots d (.v x) hx
      rw[nq,Abp v (by rw[h.size];exact j9)] at e
      cases(Af rfl).1 e
      rw[nq]
      exact(h.grow hB).put j9 (hW d nq) _ ((Af rfl).2 (.v _))
     ·cases h4.1
    ·rw[Ig hg] at h1
     cases h1
   |none=>
   rw[hle] at he
   cases he
   obtain⟨F',h'⟩:=Qq h hf (Akc hn hp)
   rcases Ah1 ok h' hl (Akb hp) hW with⟨h1,h2⟩|⟨h1,h2⟩
   ·exact .inl ⟨h1,CW h2 fun v R' ⟨h3,h4⟩=>⟨fun hk=>h3 (by rw[Aka] at hk;exact hk),Ady h4⟩⟩
   ·exact .inr ⟨h1,Ady h2⟩
end
def Aol (s:St) (dst:Option Tmp) (x:A) (ps:List Prop):Option (St×List Prop):=match dst with
 |some d=>bif Nat.blt d s.n then some (s.put d x,ps) else none
 |none=>some (s,ps)
def UP (E:Env) (ops:List Oper) (s:St) (o:Oper):Option (St×List Prop):=
 match o.guard with
 |none=>match QJ E s [] o with
  |some (x,ps)=>Aol s o.dst x ps
  |none=>none
 | some (j,b)=>match Akt ops j with
  | some u=>match E.lit with
   | true=>match s.raw [] (.tmp u) with
    | some (.bool c)=>match Aim c b with
     |true=>match QJ E s (RB s 5 u b) o with
      |some (x,ps)=>Aol s o.dst x ps
      |none=>none
     |false=>Aol s o.dst (.v undef) []
    |_=>none
   | false=>match QJ E s (RB s 5 u b) o with
    |some (x,ps)=>match o.dst with
     |some d=>bif Nat.blt d s.n then(bif Nat.beq d u then none else some (s.put d (.opt u b x),Pm (Qv s (RB s 5 u b) (RB s 5 u b)) ps)) else none
     |none=>none
    |none=>none
  |none=>none
def Aqo (P:Program) (ops:List Oper) (o:Oper) (a:Act) (R:World) (v:Value):Prop:=
 (Region.wanted o (yielded ops.toArray a.tmps)=true∧∀w',Below R.heap.size R w'→Oper.quietUpon P (fun bt=>Below w'.heap.size w' bt) w' v ((execOp a.eval o).run P w'))∨
 (Region.wanted o (yielded ops.toArray a.tmps)=false∧v=undef)
section
variable {E:Env} {Z:Eo} {F:Nat→Prop} {N:Nm} {s:St} {a:Act} {R:World}
theorem Aom (h:Rel Z F N s a R) {dst:Option Tmp} {x:A} {ps qs:List Prop} {s':St} (he:Aol s dst x ps=some (s',qs)) (hW:∀d,dst=some d→Z.W d) {v:Value} (hv:Hv F N s.nx R x v):qs=ps∧Rel Z F N s' (a.put dst v) R:=by
 unfold Aol at he
 split at he
 ·rename_i d
  cases hb:Nat.blt d s.n with
  |false=>rw[hb] at he;cases he
  |true=>
   rw[hb] at he
   cases he
   exact⟨rfl,h.put (Nat.le_of_ble_eq_true hb) (hW d rfl) v ((Af hv.isPlain).2 hv)⟩
 ·cases he
  exact⟨rfl,h⟩
theorem Att (ok:EnvOk E) (h:Rel Z F N s a R) {ops:List Oper} {o:Oper} {s':St} {ps:List Prop} (he:UP E ops s o=some (s',ps)) (hp:∀p∈ps,p) (hW:∀d,o.dst=some d→Z.W d):
  ∃v,Rel Z F N s' (a.put o.dst v) R∧Aqo E.P ops o a R v:=by
 have go:∀{G:AR} {x:A} {qs:List Prop},Lm (Bo a) G→QJ E s G o=some (x,qs)→(∀p∈qs,p)→∃v,Hv F N s.nx R x v∧∀R',Below R.heap.size R R'→Oper.quietUpon E.P (fun R''=>Below R'.heap.size R' R'') R' v ((execOp a.eval o).run E.P R'):=fun {G x qs} hG hq ov=>by
  unfold QJ at hq
  cases hl:Af9 o.op with
  |true=>rw[hl] at hq;cases hq
  |false=>rw[hl] at hq;exact Ayl ok h hG hq ov
 unfold UP at he
 split at he
 ·rename_i hg
  split at he<;>try (cases he;done)
  rename_i x qs hq
  have ov:qs=ps:=by
   unfold Aol at he
   split at he
   ·rename_i d _
    cases hb:Nat.blt d s.n with
    |false=>rw[hb] at he;cases he
    |true=>rw[hb] at he;cases he;rfl
   ·cases he;rfl
  subst ov
  obtain⟨v,h1,h2⟩:=go (Ep _) hq hp
  exact⟨v,(Aom h he hW h1).2,.inl ⟨Ig hg _,h2⟩⟩
 ·rename_i j b hg
  split at he<;>try (cases he;done)
  rename_i u hu
  have wt:=Wp hg hu a
  have wf:Bo a u≠.bool b→Region.wanted o (yielded ops.toArray a.tmps)=false:=fun hn=>by
   cases hw:Region.wanted o (yielded ops.toArray a.tmps) with
   |false=>rfl
   |true=>exact absurd (wt.1 hw) hn
  split at he
  ·split at he<;>try (cases he;done)
   rename_i c hc
   have c6:Bo a u=.bool c:=Dz h (Ep _) hc
   split at he
   ·rename_i hb
    have fb:=Tp hb
    rw[fb] at c6
    split at he<;>try (cases he;done)
    rename_i x qs hq
    have ov:qs=ps:=by
     unfold Aol at he
     split at he
     ·rename_i d _
      cases hb:Nat.blt d s.n with
      |false=>rw[hb] at he;cases he
      |true=>rw[hb] at he;cases he;rfl
     ·cases he;rfl
    subst ov
    obtain⟨v,h1,h2⟩:=go (TE h 5 u b c6) hq hp
    exact⟨v,(Aom h he hW h1).2,.inl ⟨wt.2 c6,h2⟩⟩
   ·rename_i hb
    refine⟨undef,(Aom h he hW (.v _)).2,.inr ⟨wf fun e=>?_,rfl⟩⟩
    rw[c6] at e
    cases e
    cases b<;>cases hb
  ·split at he<;>try (cases he;done)
   rename_i x qs hq
   split at he<;>try (cases he;done)
   rename_i d hd
   cases hb:Nat.blt d s.n with
   |false=>rw[hb] at he;cases he
   | true=>
    cases hdu:Nat.beq d u with
    |true=>rw[hb,hdu] at he;cases he
    | false=>
     rw[hb,hdu] at he
     cases he
     have ao:u≠d:=fun e=>by subst e;simp at hdu
     have j9:=Nat.le_of_ble_eq_true hb
     by_cases hw:Bo a u=.bool b
     ·have hG:=TE h 5 u b hw
      obtain⟨v,h1,h2⟩:=go hG hq (JU hp (Pp h hG (Ae7 h 5 u b hw)))
      refine⟨v,?_,.inl ⟨wt.2 hw,h2⟩⟩
      rw[hd]
      refine h.put (x:=.opt u b x) j9 (hW d hd) v ?_
      simp only[HS]
      exact⟨fun _=>(Af h1.isPlain).2 h1,fun hn=>absurd (by rw[Kz _ ao];exact hw) hn⟩
     ·refine⟨undef,?_,.inr ⟨wf hw,rfl⟩⟩
      rw[hd]
      refine h.put (x:=.opt u b x) j9 (hW d hd) undef ?_
      simp only[HS]
      exact⟨fun hn=>absurd (by rw[Kz _ ao] at hn;exact hn) hw,fun _=>trivial⟩
end
abbrev DL:=DB×St
def Ab2:List DH→List DH
 | []=>[]
 |(c,k,s,ps)::r=>(c,Nat.max 1 k,s,ps)::Ab2 r
def Aum (ops:List Oper) (s:St) (o:Oper):Option (St×List Prop):=match o.guard with
 | some (j,b)=>match Akt ops j with
  | some u=>match s.raw [] (.tmp u) with
   |some (.bool c)=>match Abn s o with
    |some s'=>some (s',[c=!b])
    |none=>none
   |some (.tuple _)=>match Abn s o with
    |some s'=>some (s',[])
    |none=>none
   |_=>none
  |none=>none
 |none=>none
def J2 (E:Env) (ops:List Oper) (s:St) (o:Oper):Option (List DH):=match UP E ops s o with
 |some (s',ps)=>some [(none,0,s',ps)]
 | none=>match U0 E ops s o with
  |some (x::r)=>some (Ab2 (x::r))
  |_=>match Aum ops s o with
   |some (s',ps)=>some [(none,0,s',ps)]
   |none=>none
def St.open1 (s:St) (u u2:Nat) (b2:Bool) (y:A):St:={s with t:=(u,y)::(u2,.v (.bool b2))::s.t}
def Aqt (c:DB):List DH→List DH
 | []=>[]
 |(d,k,s,ps)::r=>(Kb c d,k,s,ps)::Aqt c r
def Li (E:Env) (ops:List Oper) (s:St) (o:Oper):Option (List DH):=match J2 E ops s o with
 |some l=>some l
 | none=>match o.guard with
  | some (j,_)=>match Akt ops j with
   | some u=>match s.get u with
    | some (.opt u2 b2 y)=>match s.raw [] (.tmp u2) with
     |some (.bool c)=>match J2 E ops (s.open1 u u2 b2 y) o,J2 E ops (s.open1 u u2 (!b2) (.v undef)) o with
      |some l1,some l2=>some (Aqt (some (bif b2 then c else !c)) l1++l2)
      |_,_=>none
     |_=>none
    |_=>none
   |none=>none
  |none=>none
def Arg (c:DB):List DH→List DL
 | []=>[]
 |(d,_,s,_)::r=>(Kb c d,s)::Arg c r
def A76 (c:DB):List DH→List Prop
 | []=>[]
 |(d,_,_,ps)::r=>Pm (A2g (Kb c d)) ps++A76 c r
def JR (E:Env) (ops:List Oper) (o:Oper):List DL→Option (Nat×List DL×List Prop)
 | []=>some (0,[],[])
 | (c,s)::r=>match Li E ops s o with
  |some l=>match JR E ops o r with
   |some (k,r',qs)=>some (Nat.max (Es l) k,Arg c l++r',A76 c l++qs)
   |none=>none
  |none=>none
def RC:List DL→(St→Prop)→Prop
 | [],_=>False
 |(c,s)::r,K=>(Br c=true∧K s)∨(Br c=false∧RC r K)
theorem Sz {K K':St→Prop} (hk:∀s,K s→K' s):∀{l:List DL},RC l K→RC l K'
 | [],h=>h
 |_::_,h=>h.imp (fun⟨a,b⟩=>⟨a,hk _ b⟩) (fun⟨a,b⟩=>⟨a,Sz hk b⟩)
theorem PE {c:DB} {K:St→Prop} {r':List DL} (hc:Br c=true):∀{l:List DH},onL l K→RC (Arg c l++r') K
 | [],h=>h.elim
 |(d,k,s,ps)::r,h=>by
  rcases h with⟨h1,h2⟩|⟨h1,h2⟩
  ·exact .inl ⟨by rw[BI,hc,h1];rfl,h2⟩
  ·exact .inr ⟨by rw[BI,hc,h1];rfl,PE hc h2⟩
theorem PF {c:DB} {K:St→Prop} {r':List DL} (hc:Br c=false) (h:RC r' K):∀{l:List DH},RC (Arg c l++r') K
 | []=>h
 |(d,k,s,ps)::r=> .inr ⟨by rw[BI,hc];rfl,PF hc h⟩
theorem Agj {c:DB} (hc:Br c=true):∀{l:List DH},(∀p∈A76 c l,p)→Lh l
 | [],_=>trivial
 |(d,k,s,ps)::r,h=>by
  refine⟨fun hd=>JU (fun p hm=>h p (List.mem_append.2 (.inl hm))) (Amo (by rw[BI,hc,hd];rfl)),Agj hc fun p hm=>h p (List.mem_append.2 (.inr hm))⟩
theorem RI {K:St→Prop}:∀{l:List DH},onL l K→onL (Ab2 l) K
 | [],h=>h
 |_::_,h=>h.imp id fun⟨a,b⟩=>⟨a,RI b⟩
theorem Akh:∀{l:List DH},Lh (Ab2 l)→Lh l
 | [],h=>h
 |_::r,⟨h1,h2⟩=>⟨h1,Akh (l:=r) h2⟩
theorem Akg:∀{l:List DH},Es l≤Es (Ab2 l)
 | []=>Nat.le_refl _
 |(c,k,s,ps)::r=>by
  show Nat.max k (Es r)≤Nat.max (Nat.max 1 k) (Es (Ab2 r))
  have:=Akg (l:=r)
  exact Nat.max_le.2 ⟨Nat.le_trans (Nat.le_max_right ..) (Nat.le_max_left ..),Nat.le_trans this (Nat.le_max_right ..)⟩
section
variable {E:Env} {Z:Eo} {F:Nat→Prop} {N:Nm} {s:St} {a:Act} {R:World}
theorem Axm {P:Program} {o:Oper} {v:Value} {K:Value→World→Prop} (h:Oper.quietUpon P (fun bt=>Below R.heap.size R bt) R v ((execOp a.eval o).run P R)) (hk:∀R',Below R.heap.size R R'→K v R'):Gg P K ((execOp a.eval o).run P R):=by
 have hr:=Below.refl R.heap.size R
 generalize (execOp a.eval o).run P R=r at*
 cases r with
 |halt x w=>exact h.elim
 | ok n w=>
  cases n<;>simp only[Oper.quietUpon] at h<;>simp only[Gg]
  case value y=>
   obtain⟨e1,e2⟩:=h
   rw[e1,e2]
   exact hk _ hr
  case skip=>
   obtain⟨e1,e2⟩:=h
   rw[e1,←e2]
   exact hk _ hr
  case enter f args=>
   obtain⟨e1,hc⟩:=h
   rw[e1]
   exact hc.mono fun e bt ⟨he,fp⟩=>⟨v,he,hk _ fp⟩
theorem Aun (h:Rel Z F N s a R) {ops:List Oper} {o:Oper} {s':St} {ps:List Prop} (he:Aum ops s o=some (s',ps)) (hp:∀p∈ps,p) (hW:∀d,o.dst=some d→Z.W d):
  Region.wanted o (yielded ops.toArray a.tmps)=false∧Rel Z F N s' (a.put o.dst undef) R:=by
 unfold Aum at he
 split at he<;>try (cases he;done)
 rename_i j b hg
 split at he<;>try (cases he;done)
 rename_i u hu
 have wt:=Wp hg hu a
 split at he<;>try (cases he;done)
 ·rename_i c hc
  split at he<;>try (cases he;done)
  rename_i s1 hs
  cases he
  have fb:c=!b:=hp _ (List.mem_singleton.2 rfl)
  have c6:Bo a u=.bool c:=Dz h (Ep _) hc
  refine⟨?_,X3 h hs hW⟩
  cases hw:Region.wanted o (yielded ops.toArray a.tmps) with
  |false=>rfl
  |true=>
   have:=wt.1 hw
   rw[c6,fb] at this
   cases b<;>cases this
 ·rename_i xs hc
  split at he<;>try (cases he;done)
  rename_i s1 hs
  cases he
  have c6:Bo a u=.tuple xs:=Dz h (Ep _) hc
  refine⟨?_,X3 h hs hW⟩
  cases hw:Region.wanted o (yielded ops.toArray a.tmps) with
  |false=>rfl
  |true=>
   have:=wt.1 hw
   rw[c6] at this
   cases this
theorem Ag5 (ok:EnvOk E) (h:Rel Z F N s a R) {ops:List Oper} {o:Oper} {l:List DH} (he:J2 E ops s o=some l) (hp:Lh l) (hW:∀d,o.dst=some d→Z.W d):
  (Region.wanted o (yielded ops.toArray a.tmps)=true∧Gg E.P (fun v R'=>(Es l≤1→Below R.heap.size R R')∧onL l fun s'=>∃F' N',Rel Z F' N' s' (a.put o.dst v) R') ((execOp a.eval o).run E.P R))∨
  (Region.wanted o (yielded ops.toArray a.tmps)=false∧onL l fun s'=>∃F' N',Rel Z F' N' s' (a.put o.dst undef) R):=by
 unfold J2 at he
 split at he
 ·rename_i s' ps hq
  cases he
  obtain⟨v,h1,h2⟩:=Att ok h hq (hp.1 rfl) hW
  rcases h2 with⟨h2,h3⟩|⟨h2,rfl⟩
  ·exact .inl ⟨h2,Axm (h3 R (Below.refl _ _)) fun R' hb=>⟨fun _=>hb,.inl ⟨rfl,F,N,h1.grow hb⟩⟩⟩
  ·exact .inr ⟨h2,.inl ⟨rfl,F,N,h1⟩⟩
 ·split at he
  ·rename_i x r hs
   cases he
   rcases A87 ok h hs (Akh hp) hW with⟨h1,h2⟩|⟨h1,h2⟩
   ·exact .inl ⟨h1,CW h2 fun v R' ⟨h3,h4⟩=>⟨fun hk=>h3 (Nat.le_trans Akg hk),RI h4⟩⟩
   ·exact .inr ⟨h1,RI h2⟩
  ·split at he<;>try (cases he;done)
   rename_i s' ps hs
   cases he
   obtain⟨h1,h2⟩:=Aun h hs (hp.1 rfl) hW
   exact .inr ⟨h1,.inl ⟨rfl,F,N,h2⟩⟩
theorem SB (ok:EnvOk E) (h:Rel Z F N s a R) {ops:List Oper} {o:Oper} {l:List DH} (he:J2 E ops s o=some l) (hk:Es l=0) (hp:Lh l) (hW:∀d,o.dst=some d→Z.W d):
  ∃v,(onL l fun s'=>∃F' N',Rel Z F' N' s' (a.put o.dst v) R)∧Aqo E.P ops o a R v:=by
 unfold J2 at he
 split at he
 ·rename_i s' ps hq
  cases he
  obtain⟨v,h1,h2⟩:=Att ok h hq (hp.1 rfl) hW
  exact⟨v,.inl ⟨rfl,F,N,h1⟩,h2⟩
 ·split at he
  ·rename_i x r hs
   cases he
   obtain⟨c,k,s',ps⟩:=x
   have ai:Nat.max (Nat.max 1 k) (Es (Ab2 r))=0:=hk
   exact absurd (Nat.le_trans (Nat.le_trans (Nat.le_max_left 1 k) (Nat.le_max_left (Nat.max 1 k) (Es (Ab2 r)))) (Nat.le_of_eq ai)) (by decide)
  ·split at he<;>try (cases he;done)
   rename_i s' ps hs
   cases he
   obtain⟨h1,h2⟩:=Aun h hs (hp.1 rfl) hW
   exact⟨undef,.inl ⟨rfl,F,N,h2⟩,.inr ⟨h1,rfl⟩⟩
theorem Lw {c:DB} {K:St→Prop} {r:List DH} (hc:Br c=true):∀{l:List DH},onL l K→onL (Aqt c l++r) K
 | [],h=>h.elim
 |(d,k,s,ps)::_,h=>by
  rcases h with⟨h1,h2⟩|⟨h1,h2⟩
  ·exact .inl ⟨by rw[BI,hc,h1];rfl,h2⟩
  ·exact .inr ⟨by rw[BI,hc,h1];rfl,Lw hc h2⟩
theorem KM {c:DB} {K:St→Prop} {r:List DH} (hc:Br c=false) (h:onL r K):∀{l:List DH},onL (Aqt c l++r) K
 | []=>h
 |(d,k,s,ps)::_=> .inr ⟨by rw[BI,hc];rfl,KM hc h⟩
theorem TI {c:DB} {r:List DH}:∀{l:List DH},Lh (Aqt c l++r)→(Br c=true→Lh l)∧Lh r
 | [],h=>⟨fun _=>trivial,h⟩
 |(d,k,s,ps)::_,⟨h1,h2⟩=>⟨fun hc=>⟨fun hd=>h1 (by rw[BI,hc,hd];rfl),(TI h2).1 hc⟩,(TI h2).2⟩
theorem YZ {c:DB} {r:List DH}:∀{l:List DH},Es (Aqt c l++r)=Nat.max (Es l) (Es r)
 | []=>by show Es r=Nat.max 0 (Es r);exact(Nat.max_eq_right (Nat.zero_le _)).symm
 |(d,k,s,ps)::l=>by
  show Nat.max k (Es (Aqt c l++r))=Nat.max (Nat.max k (Es l)) (Es r)
  rw[YZ]
  exact(Nat.max_assoc _ _ _).symm
theorem Ath (h:Rel Z F N s a R) {u u2:Nat} {b2:Bool} {y:A} (hu:HS F N s.nx R (Bo a) y (Bo a u)) (hu2:Bo a u2=.bool b2):Rel Z F N (s.open1 u u2 b2 y) a R:=
 ⟨h.defers,h.size,fun v x hv=>by
  have dv:(bif Nat.beq u v then some y else bif Nat.beq u2 v then some (A.v (.bool b2)) else C4 v s.t)=some x:=hv
  cases hb:Nat.beq u v with
  |true=>
   rw[hb] at dv
   obtain rfl:=Nat.eq_of_beq_eq_true hb
   cases dv
   exact hu
  | false=>
   rw[hb] at dv
   cases hb2:Nat.beq u2 v with
   |true=>
    rw[hb2] at dv
    obtain rfl:=Nat.eq_of_beq_eq_true hb2
    cases dv
    rw[hu2]
    exact(Af rfl).2 (.v _)
   |false=>rw[hb2] at dv;exact h.slots v x dv,h.hp,h.st,h.tm⟩
theorem Ag3 (h:Rel Z F N s a R) {u u2:Nat} {b2 c:Bool} {y:A} (hg:s.get u=some (.opt u2 b2 y)) (hc:s.raw [] (.tmp u2)=some (.bool c)):
  (Br (some (bif b2 then c else !c))=true∧Rel Z F N (s.open1 u u2 b2 y) a R)∨(Br (some (bif b2 then c else !c))=false∧Rel Z F N (s.open1 u u2 (!b2) (.v undef)) a R):=by
 have c6:Bo a u2=.bool c:=Dz h (Ep _) hc
 have hs:=h.slots u _ hg
 simp only[HS] at hs
 cases fb:(bif b2 then c else !c) with
 |true=>
  have e:=Akf fb
  subst e
  exact .inl ⟨rfl,Ath h (hs.1 c6) c6⟩
 |false=>
  have e:=Ad6 fb
  refine .inr ⟨rfl,Ath h ?_ (by rw[c6,e])⟩
  rw[hs.2 (by rw[c6,e];cases b2<;>simp)]
  exact(Af rfl).2 (.v _)
theorem A8d (ok:EnvOk E) (h:Rel Z F N s a R) {ops:List Oper} {o:Oper} {l:List DH} (he:Li E ops s o=some l) (hp:Lh l) (hW:∀d,o.dst=some d→Z.W d):
  (Region.wanted o (yielded ops.toArray a.tmps)=true∧Gg E.P (fun v R'=>(Es l≤1→Below R.heap.size R R')∧onL l fun s'=>∃F' N',Rel Z F' N' s' (a.put o.dst v) R') ((execOp a.eval o).run E.P R))∨
  (Region.wanted o (yielded ops.toArray a.tmps)=false∧onL l fun s'=>∃F' N',Rel Z F' N' s' (a.put o.dst undef) R):=by
 unfold Li at he
 split at he
 ·rename_i l' hl
  cases he
  exact Ag5 ok h hl hp hW
 ·split at he<;>try (cases he;done)
  split at he<;>try (cases he;done)
  split at he<;>try (cases he;done)
  rename_i u2 b2 y hg
  split at he<;>try (cases he;done)
  rename_i c hc
  split at he<;>try (cases he;done)
  rename_i l1 l2 h1 h2
  cases he
  obtain⟨n1,n2⟩:=TI hp
  rw[YZ]
  rcases Ag3 h hg hc with⟨e,hr⟩|⟨e,hr⟩
  ·rcases Ag5 ok hr h1 (n1 e) hW with⟨g1,g2⟩|⟨g1,g2⟩
   ·exact .inl ⟨g1,CW g2 fun v R' ⟨g3,g4⟩=>⟨fun hk=>g3 (Nat.le_trans (Nat.le_max_left ..) hk),Lw e g4⟩⟩
   ·exact .inr ⟨g1,Lw e g2⟩
  ·rcases Ag5 ok hr h2 n2 hW with⟨g1,g2⟩|⟨g1,g2⟩
   ·exact .inl ⟨g1,CW g2 fun v R' ⟨g3,g4⟩=>⟨fun hk=>g3 (Nat.le_trans (Nat.le_max_right ..) hk),KM e g4⟩⟩
   ·exact .inr ⟨g1,KM e g2⟩
theorem Atl (ok:EnvOk E) (h:Rel Z F N s a R) {ops:List Oper} {o:Oper} {l:List DH} (he:Li E ops s o=some l) (hk:Es l=0) (hp:Lh l) (hW:∀d,o.dst=some d→Z.W d):
  ∃v,(onL l fun s'=>∃F' N',Rel Z F' N' s' (a.put o.dst v) R)∧Aqo E.P ops o a R v:=by
 unfold Li at he
 split at he
 ·rename_i l' hl
  cases he
  exact SB ok h hl hk hp hW
 ·split at he<;>try (cases he;done)
  split at he<;>try (cases he;done)
  split at he<;>try (cases he;done)
  rename_i u2 b2 y hg
  split at he<;>try (cases he;done)
  rename_i c hc
  split at he<;>try (cases he;done)
  rename_i l1 l2 h1 h2
  cases he
  obtain⟨n1,n2⟩:=TI hp
  rw[YZ] at hk
  have fg:Es l1=0:=Nat.le_zero.1 (Nat.le_trans (Nat.le_max_left (Es l1) (Es l2)) (Nat.le_of_eq hk))
  have ep:Es l2=0:=Nat.le_zero.1 (Nat.le_trans (Nat.le_max_right (Es l1) (Es l2)) (Nat.le_of_eq hk))
  rcases Ag3 h hg hc with⟨e,hr⟩|⟨e,hr⟩
  ·obtain⟨v,g1,g2⟩:=SB ok hr h1 fg (n1 e) hW
   exact⟨v,Lw e g1,g2⟩
  ·obtain⟨v,g1,g2⟩:=SB ok hr h2 ep n2 hW
   exact⟨v,KM e g1,g2⟩
abbrev At (Z:Eo) (A:Act) (w:World):St→Prop:=fun s=>∃F N,Rel Z F N s A w
theorem Qk (ok:EnvOk E) {ops:List Oper} {o:Oper} (hW:∀d,o.dst=some d→Z.W d):∀{l l':List DL} {qs:List Prop},JR E ops o l=some (0,l',qs)→(∀q∈qs,q)→RC l (At Z a R)→∃v,RC l' (At Z (a.put o.dst v) R)∧Aqo E.P ops o a R v
 | [],l',qs,he,_,h=>h.elim
 | (c,s)::r,l',qs,he,hp,h=>by
  unfold JR at he
  split at he<;>try (cases he;done)
  rename_i l1 h1
  split at he<;>try (cases he;done)
  rename_i k r' pf h2
  injection he with he
  injection he with hk he
  injection he with e1 e2
  subst e1 e2
  have fg:Es l1=0:=Nat.le_zero.1 (Nat.le_trans (Nat.le_max_left (Es l1) k) (Nat.le_of_eq hk))
  have ep:k=0:=Nat.le_zero.1 (Nat.le_trans (Nat.le_max_right (Es l1) k) (Nat.le_of_eq hk))
  rcases h with⟨hc,F,N,hr⟩|⟨hc,h⟩
  ·obtain⟨v,g1,g2⟩:=Atl ok hr h1 fg (Agj hc fun p hm=>hp p (List.mem_append.2 (.inl hm))) hW
   exact⟨v,PE hc g1,g2⟩
  ·subst ep
   obtain⟨v,g1,g2⟩:=Qk ok hW h2 (fun p hm=>hp p (List.mem_append.2 (.inr hm))) h
   exact⟨v,PF hc g1,g2⟩
theorem YP (ok:EnvOk E) {ops:List Oper} {o:Oper} (hW:∀d,o.dst=some d→Z.W d):∀{l l':List DL} {k:Nat} {qs:List Prop},JR E ops o l=some (k,l',qs)→(∀q∈qs,q)→RC l (At Z a R)→
  (Region.wanted o (yielded ops.toArray a.tmps)=true∧Gg E.P (fun v R'=>(k≤1→Below R.heap.size R R')∧RC l' (At Z (a.put o.dst v) R')) ((execOp a.eval o).run E.P R))∨
  (Region.wanted o (yielded ops.toArray a.tmps)=false∧RC l' (At Z (a.put o.dst undef) R))
 | [],l',k,qs,he,_,h=>h.elim
 | (c,s)::r,l',k,qs,he,hp,h=>by
  unfold JR at he
  split at he<;>try (cases he;done)
  rename_i l1 h1
  split at he<;>try (cases he;done)
  rename_i k' r' pf h2
  cases he
  rcases h with⟨hc,F,N,hr⟩|⟨hc,h⟩
  ·rcases A8d ok hr h1 (Agj hc fun p hm=>hp p (List.mem_append.2 (.inl hm))) hW with⟨g1,g2⟩|⟨g1,g2⟩
   ·exact .inl ⟨g1,CW g2 fun v R' ⟨g3,g4⟩=>⟨fun hk=>g3 (Nat.le_trans (Nat.le_max_left ..) hk),PE hc g4⟩⟩
   ·exact .inr ⟨g1,PE hc g2⟩
  ·rcases YP ok hW h2 (fun p hm=>hp p (List.mem_append.2 (.inr hm))) h with⟨g1,g2⟩|⟨g1,g2⟩
   ·exact .inl ⟨g1,CW g2 fun v R' ⟨g3,g4⟩=>⟨fun hk=>g3 (Nat.le_trans (Nat.le_max_right ..) hk),PF hc g4⟩⟩
   ·exact .inr ⟨g1,PF hc g2⟩
end
theorem Cv {α:Type} {b:Bool} {x:Option α} {y:α} (h:(bif b then x else none)=some y):x=some y:=by cases b<;>first|exact h|cases h
theorem Ad3 {α:Type} {b:Bool} {x:Option α} {y:α} (h:(bif b then none else x)=some y):x=some y:=by cases b<;>first|exact h|cases h
theorem A2o (o:AJ) (d:Option Nat):∃e,YJ o d=e++o:=by
 cases d with
 |none=>exact⟨[],rfl⟩
 |some i=>exact⟨[(i,none)],rfl⟩
section
variable {E:Env} {s:St} {G:AR}
theorem Ars (ok:EnvOk E) {o:Oper} {f:OY} (he:A2q E s G o=some f):∃d,f.o=d++s.o:=by
 obtain⟨dst,op,type,pos,after,guard⟩:=o
 unfold A2q at he
 simp only at he
 split at he
 ·unfold Ad1 at he
  repeat' (first|(cases he;done)|(replace he:=Cv he)|split at he)
  all_goals (cases he;exact⟨[_],rfl⟩)
 ·unfold A5i at he
  repeat' (first|(cases he;done)|(replace he:=Cv he)|split at he)
  all_goals (cases he;exact⟨[_],rfl⟩)
 ·unfold Ayc A1o at he
  repeat' (first|(cases he;done)|(replace he:=Cv he)|split at he)
  all_goals (cases he;exact⟨[_],rfl⟩)
 ·unfold O3 at he
  repeat' (first|(cases he;done)|(replace he:=Cv he)|split at he)
  all_goals (generalize Nat.beq _ 0=bb at he;cases bb<;>(cases he;first|exact⟨[],rfl⟩|exact⟨[_],rfl⟩))
 ·unfold Adl at he
  repeat' (first|(cases he;done)|(replace he:=Cv he)|split at he)
  all_goals (cases he;exact⟨[_],rfl⟩)
 ·unfold TS at he
  repeat' (first|(cases he;done)|(replace he:=Cv he)|split at he)
  all_goals (cases he;exact⟨[],rfl⟩)
 ·split at he<;>try (cases he;done)
  unfold Bas at he
  repeat' (first|(cases he;done)|(replace he:=Cv he)|split at he)
  all_goals (cases he;first|exact⟨[_],rfl⟩|exact⟨[_,_,_],rfl⟩|(obtain⟨e,h⟩:=A2o s.o _;exact⟨_::e,by show _::YJ _ _=_;rw[h];rfl⟩))
 ·split at he<;>cases he
 ·unfold Tr at he
  split at he
  ·cases he;exact⟨[],rfl⟩
  split at he
  ·rename_i k x nx' o' ps hr
   cases he
   unfold Z9 at hr
   repeat' (first|(cases hr;done)|(replace hr:=Cv hr)|split at hr)
   exact ok.suf _ _ _ _ _ _ _ _ _ hr
  ·split at he<;>try (cases he;done)
   rename_i k x nx' o' ps hr
   cases he
   unfold Ay2 at hr
   repeat' (first|(cases hr;done)|split at hr)
   exact ok.suf _ _ _ _ _ _ _ _ _ hr
 ·unfold Aow at he
  repeat' (first|(cases he;done)|split at he)
  all_goals (cases he;exact⟨[_],rfl⟩)
 ·unfold A0y at he
  repeat' (first|(cases he;done)|(replace he:=Cv he)|split at he)
  all_goals (cases he;exact⟨[_],rfl⟩)
 ·unfold Anz at he
  replace he:=Cv he
  cases he
  exact⟨[_],rfl⟩
 ·unfold Ans at he
  repeat' (first|(cases he;done)|(replace he:=Cv he)|split at he)
  all_goals (cases he;exact⟨[_],rfl⟩)
 ·cases he
theorem Bcp (ok:EnvOk E) {o:Oper} {f:OY} (he:opE E s G o=some f):∃d,f.o=d++s.o:=by
 unfold opE at he
 cases hl:Af9 o.op with
 |true=>rw[hl] at he;exact Ars ok he
 |false=>
  rw[hl] at he
  simp only[cond_false] at he
  split at he
  ·cases he;exact⟨[],rfl⟩
  ·exact Ars ok he
theorem Sub.put (s:St) (u:Nat) (x:A):Sub s (s.put u x):=⟨rfl,[],rfl⟩
theorem Sub.lit (s:St) (u:Nat) (b:Bool):Sub s (s.lit u b):=⟨rfl,[],rfl⟩
theorem Atr {dst:Option Tmp} {f:OY} {s':St} (he:QI s dst f=some s') (hf:∃d,f.o=d++s.o):Sub s s':=by
 unfold QI at he
 split at he
 ·replace he:=Cv he
  cases he
  exact⟨rfl,hf⟩
 ·cases he
  exact⟨rfl,hf⟩
theorem ZI {o:Oper} {s':St} (he:Abn s o=some s'):Sub s s':=by
 unfold Abn at he
 split at he
 ·replace he:=Cv he
  cases he
  exact Sub.put _ _ _
 ·cases he
  exact Sub.refl _
theorem Am6 (ok:EnvOk E) {o:Oper} {c c':DB} {ps f8:List Prop} {k:Nat} {s':St} (he:doE E s G o c ps=some (c',k,s',f8)):Sub s s':=by
 unfold doE at he
 split at he<;>try (cases he;done)
 rename_i f hf
 split at he<;>try (cases he;done)
 rename_i s1 hs
 cases he
 exact Atr hs (Bcp ok hf)
theorem Ag8 {dst:Option Tmp} {x:A} {ps f8:List Prop} {s':St} (he:Aol s dst x ps=some (s',f8)):Sub s s':=by
 unfold Aol at he
 split at he
 ·replace he:=Cv he
  cases he
  exact Sub.put _ _ _
 ·cases he
  exact Sub.refl _
theorem A3w {ops:List Oper} {o:Oper} {s':St} {ps:List Prop} (he:UP E ops s o=some (s',ps)):Sub s s':=by
 unfold UP at he
 split at he
 ·split at he<;>try (cases he;done)
  exact Ag8 he
 ·split at he<;>try (cases he;done)
  split at he
  ·split at he<;>try (cases he;done)
   split at he
   ·split at he<;>try (cases he;done)
    exact Ag8 he
   ·exact Ag8 he
  ·split at he<;>try (cases he;done)
   split at he<;>try (cases he;done)
   replace he:=Cv he
   replace he:=Ad3 he
   cases he
   exact Sub.put _ _ _
def Wl (s:St):List DH→Prop
 | []=>True
 |(_,_,s',_)::r=>Sub s s'∧Wl s r
theorem Alv (ok:EnvOk E) {ops:List Oper} {o:Oper} {l:List DH} (he:Ll E ops s o=some l):Wl s l:=by
 unfold Ll at he
 split at he
 ·split at he<;>try (cases he;done)
  rename_i x hx
  obtain⟨c,k,s',ps⟩:=x
  cases he
  exact⟨Am6 ok hx,trivial⟩
 ·split at he<;>try (cases he;done)
  split at he
  ·split at he<;>try (cases he;done)
   split at he
   ·split at he<;>try (cases he;done)
    rename_i x hx
    obtain⟨c,k,s',ps⟩:=x
    cases he
    exact⟨Am6 ok hx,trivial⟩
   ·split at he<;>try (cases he;done)
    rename_i s' hs
    cases he
    exact⟨ZI hs,trivial⟩
  ·split at he
   ·split at he<;>try (cases he;done)
    replace he:=Cv he
    replace he:=Ad3 he
    cases he
    exact⟨Sub.put _ _ _,trivial⟩
   ·split at he<;>try (cases he;done)
    split at he<;>try (cases he;done)
    rename_i x s' hx hs
    obtain⟨c,k,s1,ps⟩:=x
    cases he
    exact⟨(Sub.lit _ _ _).trans (Am6 ok hx),(Sub.lit _ _ _).trans (ZI hs),trivial⟩
theorem R5:∀{l:List Nat} {s s':St} {ps:List Prop},JT E l s=(s',ps)→Sub s s'
 | [],s,s',ps,he=>by cases he;exact Sub.refl _
 | i::r,s,s',ps,he=>by
  unfold JT at he
  split at he
  ·rename_i s1 dg h1
   generalize h2:JT E r s1=x at he
   obtain⟨s2,qs⟩:=x
   cases he
   obtain⟨e1,e2⟩:=VS h1
   exact Sub.trans ⟨e1,e2⟩ (R5 h2)
  ·exact R5 he
theorem Wm {s1:St} (h:Sub s s1):∀{l:List DH},Wl s1 l→Wl s l
 | [],_=>trivial
 |_::_,⟨h1,h2⟩=>⟨h.trans h1,Wm h h2⟩
theorem Alw {ps:List Prop}:∀{l:List DH},Wl s l→Wl s (Aqr ps l)
 | [],_=>trivial
 |_::_,⟨h1,h2⟩=>⟨h1,Alw h2⟩
theorem Alx:∀{l:List DH},Wl s l→Wl s (Ab2 l)
 | [],_=>trivial
 |_::_,⟨h1,h2⟩=>⟨h1,Alx h2⟩
theorem A4d (ok:EnvOk E) {ops:List Oper} {o:Oper} {l:List DH} (he:U0 E ops s o=some l):Wl s l:=by
 unfold U0 at he
 split at he
 ·rename_i l' hl
  cases he
  exact Alv ok hl
 ·split at he<;>try (cases he;done)
  rename_i i r hc
  generalize hf:JT E (i::r) s=x at he
  obtain⟨s',ps⟩:=x
  simp only at he
  split at he<;>try (cases he;done)
  rename_i l' hl
  replace he:=Cv he
  split at he
  ·rename_i l2 hle
   cases he
   obtain⟨k,s1,qs,d,x,_,_,_,_,_,_,rfl⟩:=Asp hle
   exact⟨Sub.put _ _ _,trivial⟩
  ·cases he
   exact Alw (Wm (R5 hf) (Alv ok hl))
theorem A4c {ops:List Oper} {o:Oper} {s':St} {ps:List Prop} (he:Aum ops s o=some (s',ps)):Sub s s':=by
 unfold Aum at he
 repeat' (first|(cases he;done)|split at he)
 all_goals (rename_i hs;cases he;exact ZI hs)
theorem Zl (ok:EnvOk E) {ops:List Oper} {o:Oper} {l:List DH} (he:J2 E ops s o=some l):Wl s l:=by
 unfold J2 at he
 split at he
 ·rename_i s' ps hq
  cases he
  exact⟨A3w hq,trivial⟩
 ·split at he
  ·rename_i x r hs
   cases he
   exact Alx (A4d ok hs)
  ·split at he<;>try (cases he;done)
   rename_i s' ps hs
   cases he
   exact⟨A4c hs,trivial⟩
theorem Aus {s1:St} {c:DB} {r:List DH} (h:Sub s s1) (hr:Wl s r):∀{l:List DH},Wl s1 l→Wl s (Aqt c l++r)
 | [],_=>hr
 |_::_,⟨h1,h2⟩=>⟨h.trans h1,Aus h hr h2⟩
theorem Ati (s:St) (u u2:Nat) (b2:Bool) (y:A):Sub s (s.open1 u u2 b2 y):=⟨rfl,[],rfl⟩
theorem A3k (ok:EnvOk E) {ops:List Oper} {o:Oper} {l:List DH} (he:Li E ops s o=some l):Wl s l:=by
 unfold Li at he
 split at he
 ·rename_i l' hl
  cases he
  exact Zl ok hl
 ·repeat' (first|(cases he;done)|split at he)
  rename_i l1 l2 h1 h2
  cases he
  exact Aus (Ati _ _ _ _ _) (Wm (Ati _ _ _ _ _) (Zl ok h2)) (Zl ok h1)
def Ta (s:St):List DL→Prop
 | []=>True
 |(_,s')::r=>Sub s s'∧Ta s r
theorem Aly {s1:St} (h:Sub s s1) {c:DB} {r':List DL} (hr:Ta s r'):∀{l:List DH},Wl s1 l→Ta s (Arg c l++r')
 | [],_=>hr
 |_::_,⟨h1,h2⟩=>⟨h.trans h1,Aly h hr h2⟩
theorem Ql (ok:EnvOk E) {ops:List Oper} {o:Oper}:∀{l l':List DL} {k:Nat} {qs:List Prop},JR E ops o l=some (k,l',qs)→Ta s l→Ta s l'
 | [],l',k,qs,he,_=>by cases he;trivial
 |(c,s1)::r,l',k,qs,he,⟨h1,h2⟩=>by
  unfold JR at he
  split at he<;>try (cases he;done)
  rename_i l1 g1
  split at he<;>try (cases he;done)
  rename_i k' r' pf g2
  cases he
  exact Aly h1 (Ql ok g2 h2) (A3k ok g1)
end
def Sn (W:List Nat) (s0:St):List DL→St
 | []=>s0
 | [(_,s)]=>s
 |(c,s)::r=>Hx (Br c) W s0 s (Sn W s0 r)
theorem VZ (W:List Nat) (s0:St):∀{l:List DL},Ta s0 l→Sub s0 (Sn W s0 l)
 | [],_=>Sub.refl _
 | [(_,_)],⟨h,_⟩=>h
 |(_,_)::_::_,_=>Sub.merge _ _ _ _ _
section
variable {Z:Eo} {F F0:Nat→Prop} {N N0:Nm} {s0 s:St} {a a0:Act} {R R0:World} {W:List Nat}
theorem Rel.over (h0:Rel Z F0 N0 s0 a0 R0) (h:Rel (IM F0 N0 s0 a0 R0 W) F N s a R) (hW:∀u,Ma u W=true→Z.W u):Rel Z F N s a R:=
 ⟨h.defers.trans h0.defers,h.size,h.slots,h.hp,h0.st.trans h.st,fun u hu=>by
  rw[h.tm u fun hw=>hu (hW u hw)]
  exact h0.tm u hu⟩
theorem Ak9 (h0:Rel Z F0 N0 s0 a0 R0):∀{l:List DL},Ta s0 l→RC l (At (IM F0 N0 s0 a0 R0 W) a R)→At (IM F0 N0 s0 a0 R0 W) a R (Sn W s0 l)
 | [],_,h=>h.elim
 | [(c,s)],_,h=>by
  rcases h with⟨_,h⟩|⟨_,h⟩
  ·exact h
  ·exact h.elim
 | (c,s)::p::r,⟨h1,h2⟩,h=>by
  have e2:=VZ W s0 h2
  rcases h with⟨hc,F,N,h⟩|⟨hc,h⟩
  ·obtain⟨N',hr,_⟩:=Rel.merge (g:=Br c) (s1:=s) (s2:=Sn W s0 (p::r)) (h0.start W) (by rw[hc];exact h) (fun _ h=>h) h1 e2
   exact⟨F,N',hr⟩
  ·obtain⟨F,N,h⟩:=Ak9 h0 h2 h
   obtain⟨N',hr,_⟩:=Rel.merge (g:=Br c) (s1:=s) (s2:=Sn W s0 (p::r)) (h0.start W) (by rw[hc];exact h) (fun _ h=>h) h1 e2
   exact⟨F,N',hr⟩
end
def L9:List Oper→List Nat
 | []=>[]
 |o::r=>match o.dst with
  |some d=>d::L9 r
  |none=>L9 r
def Akw (E:Env) (ops:List Oper):List Oper→List DL→Option (List DL×List Prop)
 | [],l=>some (l,[])
 | o::r,l=>match JR E ops o l with
  |some (_,l',ps)=>match Akw E ops r l' with
   |some (ql,qs)=>some (ql,ps++qs)
   |none=>none
  |none=>none
theorem Arr:∀{l:List Oper} {o:Oper} {d:Nat},o∈l→o.dst=some d→Ma d (L9 l)=true
 | [],o,d,h,_=>by cases h
 | x::r,o,d,h,hd=>by
  rcases List.mem_cons.1 h with rfl|h
  ·unfold L9
   rw[hd]
   show(bif Nat.beq d d then true else Ma d (L9 r))=true
   rw[KU];rfl
  ·have:=Arr h hd
   unfold L9
   split
   ·rename_i e _
    show(bif Nat.beq e d then true else Ma d (L9 r))=true
    rw[this];cases Nat.beq e d<;>rfl
   ·exact this
section
variable {E:Env} {Z:Eo} {a:Act} {R:World}
theorem A8a (ok:EnvOk E) {ops:List Oper} {Q:Exit→Act→World→Prop}:∀{l:List Oper} {P P':List DL} {ps:List Prop} {a:Act} {R:World},(∀o∈l,∀d,o.dst=some d→Z.W d)→RC P (At Z a R)→Akw E ops l P=some (P',ps)→(∀p∈ps,p)→
  (∀a' R',RC P' (At Z a' R')→Q .normal a' R')→LI E.P ops.toArray (Q .normal) l a R
 | [],P,P',ps,a,R,_,h,he,_,hk=>by
  cases he
  exact hk a R h
 | o::r,P,P',ps,a,R,hW,h,he,hp,hk=>by
  unfold Akw at he
  split at he<;>try (cases he;done)
  rename_i k P1 dg h1
  split at he<;>try (cases he;done)
  rename_i P2 ez h2
  cases he
  have next:∀a' R',RC P1 (At Z a' R')→LI E.P ops.toArray (Q .normal) r a' R':=fun a' R' h'=>A8a ok (fun o ho=>hW o (List.mem_cons_of_mem _ ho)) h' h2 (fun p hm=>hp p (List.mem_append.2 (.inr hm))) hk
  unfold LI
  rcases YP ok (hW o (List.mem_cons_self ..)) h1 (fun p hm=>hp p (List.mem_append.2 (.inl hm))) h with⟨g1,g2⟩|⟨g1,g2⟩
  ·rw[if_pos g1]
   exact CW g2 fun v R' ⟨_,g3⟩=>next _ _ g3
  ·rw[if_neg (by rw[g1];exact Bool.false_ne_true)]
   exact next _ _ g2
theorem YO {s0:St} (ok:EnvOk E) {ops:List Oper}:∀{l:List Oper} {P P':List DL} {ps:List Prop},Akw E ops l P=some (P',ps)→Ta s0 P→Ta s0 P'
 | [],P,P',ps,he,h=>by cases he;exact h
 |o::r,P,P',ps,he,h=>by
  unfold Akw at he
  split at he<;>try (cases he;done)
  rename_i k P1 dg h1
  split at he<;>try (cases he;done)
  rename_i P2 ez h2
  cases he
  exact YO ok h2 (Ql ok h1 h)
end
def A0e (P:Program):Nat→TypeId→Bool
 |0,_=>true
 |d+1,t=>match P.underlying t with
  |some (.slice _)=>true
  |some (.struct fs)=>fs.toList.any fun f=>A0e P d f.type
  |some (.array _ e)=>A0e P d e
  |some (.tuple es)=>es.toList.any fun e=>A0e P d e
  |_=>false
def Blg (P:Program) (o:Oper):Bool:=match o.op with
 | .alloc _=>true
 | .box _ _=>true
 | .buildSlice _ _ _=>true
 | .makeSlice _ _ _=>true
 | .store _ _ _=>true
 | .range _ _=>true
 | .next _ _=>true
 | .makeMap _ _=>true
 | .mapUpdate _ _ _ _=>true
 | .convert _ dst _=>match P.underlying dst with
  |some (.slice _)=>true
  |_=>false
 | .call {callee:=.builtin .append, .. }=>true
 | .call {callee:=.builtin .copy, .. }=>true
 | .call {callee:=.value _, .. }=>A0e P 4 o.type
 |_=>false
def A5w (done:List Nat) (o:Oper):Bool:=o.after.toList.all fun e=>!Region.binds .any e||done.contains e.on
def A05 (P:Program) (ops:List Oper):List Nat→List Nat→List Nat→List Nat×List Nat
 | [],done,left=>(done,left.reverse)
 |i::r,done,left=>match ops[i]? with
  |some o=>bif A5w done o&&!Blg P o then A05 P ops r (i::done) left else A05 P ops r done (i::left)
  |none=>A05 P ops r done left
def Aer (P:Program) (o:Oper):Bool:=match o.op,o.guard with
 | .alloc e,none=>match(P.info? e).bind (·.zero) with
  |some _=>true
  |none=>false
 |_,_=>false
def Bfe (P:Program) (o:Oper):Bool:=bif Aer P o then true else match o.op,o.guard with
 | .call {callee:=.value (.func _),args, .. },none=>args.toList.isEmpty
 |_,_=>false
def mkB (o:Oper):Bool:=match o.op,o.guard with
 | .buildSlice _ _ _,none=>true
 | .box _ _,none=>true
 |_,_=>false
def mkE (E:Env) (s:St) (o:Oper):Option OY:=match o.op,o.guard with
 | .buildSlice t len parts,none=>bif Nat.beq len 0 then none else O3 E s [] t len parts.toList
 | .box e v,none=>A5i s [] e v
 |_,_=>none
def mkV:Op→Nat→Value
 | .buildSlice _ len _,g=> .slice (some ⟨g,0,none⟩) len len
 |_,g=> .pointer (some ⟨g,0,none⟩)
def Bhl (P:Program) (o:Oper):Bool:=bif Bfe P o then true else mkB o
def YK (E:Env) (o:Oper):Bool:=bif Aer E.P o then true else match o.op,o.guard with
 | .call {callee:=.value f,args, .. },none=>(match JO E f args.toList with
  |some _=>true
  |none=>false)
 |_,_=>false
def Awq (late:Oper→Bool) (sk:Bool) (ops:List Oper) (done:List Nat):List Nat→Option (Nat×List Nat)
 | []=>none
 | i::r=>match ops[i]? with
  |some o=>bif A5w done o&&!(sk&&late o) then some (i,r) else match Awq late sk ops done r with
   |some (m,l)=>some (m,i::l)
   |none=>none
  |none=>none
def A1a (P:Program) (late:Oper→Bool) (ops:List Oper):Nat→List Nat→List Nat→List Nat
 |0,_,done=>done.reverse
 | n+1,todo,done=>match A05 P ops todo done [] with
  | (done',left)=>match Awq late true ops done' left with
   |some (m,rest)=>A1a P late ops n rest (m::done')
   |none=>match Awq late false ops done' left with
    |some (m,rest)=>A1a P late ops n rest (m::done')
    |none=>done'.reverse
def Bk4 (P:Program) (ops:List Oper):List Nat:=A1a P (Bfe P) ops (ops.length+1) (List.range ops.length) []
def Bfn (P:Program) (ops:List Oper):List Nat:=A1a P (Bhl P) ops (ops.length+1) (List.range ops.length) []
def A20 (E:Env):Tab:=fun g xs nx o=>match xs with
 | .own i off::r=>match Aq i o with
  |some ob=>match E.C g (.own i off::r) nx [(i,some ob)] with
   |some (k,x,nx',o1,ps)=>bif Nat.ble k 1 then none else some (i,x,nx',o1++o,ps)
   |none=>none
  |none=>none
 |_=>none
def A6s (E:Env) (o:Oper) (s:St):Option Adv:=match o.op,o.guard with
 | .call {callee:=.value f,args, .. },none=>match JO E f args.toList with
  |some _=>none
  |none=>Z9 {E with C:=A20 E} s [] f args.toList
 |_,_=>none
def Aiw (E:Env) (o:Oper):List DL→Option (Nat×Nat×List DL×List Prop)
 | [(c,s)]=>match A6s E o s with
  |some (i,x,nx',o',ps)=>match QI s o.dst ⟨x,nx',o',2,ps⟩ with
   |some s'=>some (i,2,[(c,s')],Pm (A2g c) ps)
   |none=>none
  |none=>none
 |_=>none
def Ade (E:Env) (fr:Bool) (ops:List Oper) (o:Oper) (l:List DL):Option (Nat×List DL×List Prop):=match fr with
 |true=>match Aiw E o l with
  |some (_,r)=>some r
  |none=>JR E ops o l
 |false=>JR E ops o l
def Bai (Z:Eo) (E:Env) (fr:Bool) (o:Oper) (l:List DL) (a:Act) (R R':World):Prop:=
 fr=true→∀i r,Aiw E o l=some (i,r)→∃c s F N ob,l=[(c,s)]∧Br c=true∧Rel Z F N s a R∧Aq i s.o=some ob∧R.heap.size≤R'.heap.size∧∀g,g <R.heap.size→¬foot N i ob g→R'.heap[g]?=R.heap[g]?
section
variable {E:Env} {Z:Eo} {F:Nat→Prop} {N:Nm} {s:St} {a:Act} {R:World}
theorem Af2 {i:Nat} {b:Ob}:∀{o1 o2:AJ},Aq i (o1++o2)=some b→Aq i o1=some b∨Aq i o2=some b
 | [],_,h=> .inr h
 |(j,y)::r,o2,h=>by
  rw[List.cons_append,AI] at h
  rw[AI]
  by_cases e:i=j
  ·rw[if_pos e] at h⊢;exact .inl h
  ·rw[if_neg e] at h⊢;exact Af2 h
theorem Ak8 {i:Nat} {y:Option Ob}:∀{d o2:AJ} {b:Ob},Aq i (d++[(i,y)]++o2)=some b→Aq i (d++[(i,y)])=some b
 | [],o2,b,h=>by
  rw[List.nil_append,List.singleton_append,AI,if_pos rfl] at h
  rw[List.nil_append,AI,if_pos rfl];exact h
 |(j,z)::r,o2,b,h=>by
  rw[List.cons_append,List.cons_append,AI] at h
  rw[List.cons_append,AI]
  by_cases e:i=j
  ·rw[if_pos e] at h⊢;exact h
  ·rw[if_neg e] at h⊢;exact Ak8 h
theorem Az1 {o:Oper} {l:List DL} {i:Nat} {r:Nat×List DL×List Prop} (he:Aiw E o l=some (i,r)):∃c s f args ts x nx' o' ps s',l=[(c,s)]∧o.op=.call {callee:=.value f,args:=args,argTypes:=ts}∧o.guard=none∧
  Z9 {E with C:=A20 E} s [] f args.toList=some (i,x,nx',o',ps)∧QI s o.dst ⟨x,nx',o',2,ps⟩=some s'∧r=(2,[(c,s')],Pm (A2g c) ps):=by
 unfold Aiw at he
 split at he<;>try (cases he;done)
 rename_i c s
 split at he<;>try (cases he;done)
 rename_i j x nx' o' ps hf
 split at he<;>try (cases he;done)
 rename_i s' hs
 cases he
 unfold A6s at hf
 split at hf<;>try (cases hf;done)
 rename_i f args ts ho hg
 split at hf<;>try (cases hf;done)
 exact⟨c,s,f,args,ts,x,nx',o',ps,s',rfl,ho,hg,hf,hs,rfl⟩
theorem Az3 {g:FuncId} {xs:List A} {nx:Nat} {o:AJ} {i:Nat} {x:A} {nx':Nat} {o':AJ} {ps:List Prop} (he:A20 E g xs nx o=some (i,x,nx',o',ps)):∃off r ob k o1,xs=.own i off::r∧Aq i o=some ob∧E.C g xs nx [(i,some ob)]=some (k,x,nx',o1,ps)∧o'=o1++o:=by
 unfold A20 at he
 split at he<;>try (cases he;done)
 rename_i j off r
 split at he<;>try (cases he;done)
 rename_i ob hl
 split at he<;>try (cases he;done)
 rename_i k x1 nx1 o1 dg hc
 cases hk:Nat.ble k 1 with
 |true=>rw[hk] at he;cases he
 |false=>
  rw[hk] at he
  cases he
  exact⟨off,r,ob,k,o1,rfl,hl,hc,rfl⟩
theorem A6t {s0:St} {o:Oper} {l:List DL} {i k:Nat} {l':List DL} {qs:List Prop} (he:Aiw E o l=some (i,k,l',qs)) (h:Ta s0 l):Ta s0 l':=by
 obtain⟨c,s,f,args,ts,x,nx',o',ps,s',rfl,_,_,h1,h2,h3⟩:=Az1 he
 cases h3
 refine⟨h.1.trans (Atr h2 ?_),trivial⟩
 have:∃g xs,A20 E g xs s.nx s.o=some (i,x,nx',o',ps):=by
  unfold Z9 at h1
  split at h1<;>try (cases h1;done)
  replace h1:=Cv h1
  split at h1<;>try (cases h1;done)
  exact⟨_,_,h1⟩
 obtain⟨g,xs,h4⟩:=this
 obtain⟨_,_,_,_,o1,_,_,_,rfl⟩:=Az3 h4
 exact⟨o1,rfl⟩
theorem A92 (ok:EnvOk E) {s0:St} {fr:Bool} {ops:List Oper} {o:Oper} {l l':List DL} {k:Nat} {qs:List Prop} (he:Ade E fr ops o l=some (k,l',qs)) (h:Ta s0 l):Ta s0 l':=by
 unfold Ade at he
 split at he
 ·split at he
  ·rename_i i r hr
   cases he
   exact A6t hr h
  ·exact Ql ok he h
 ·exact Ql ok he h
theorem Az2 (ok:EnvOk E) {o:Oper} {l:List DL} {i k:Nat} {l':List DL} {qs:List Prop} (hW:∀d,o.dst=some d→Z.W d) (he:Aiw E o l=some (i,k,l',qs)) (hp:∀q∈qs,q) (h:RC l (At Z a R)):
  k=2∧o.guard=none∧Gg E.P (fun v R'=>RC l' (At Z (a.put o.dst v) R')∧∃c s F N ob,l=[(c,s)]∧Br c=true∧Rel Z F N s a R∧Aq i s.o=some ob∧R.heap.size≤R'.heap.size∧∀g,g <R.heap.size→¬foot N i ob g→R'.heap[g]?=R.heap[g]?) ((execOp a.eval o).run E.P R):=by
 obtain⟨c,s,f,args,ts,x,nx',o',ps,s',rfl,ho,hg,h1,h2,h3⟩:=Az1 he
 cases h3
 rcases h with⟨hc,F,N,hr⟩|⟨_,h⟩
 ·refine⟨rfl,hg,?_⟩
  obtain⟨g,xs,vs,g1,xa,g2,g3⟩:=Ad8 (E:={E with C:=A20 E}) hr (Ep _) ho h1
  obtain⟨off,r,ob,k',o1,rfl,g4,g5,rfl⟩:=Az3 g1
  have one:∀{j:Nat} {ak:Ob},Aq j [(i,some ob)]=some ak→j=i∧ak=ob:=fun {j ak} hj=>by
   rw[AI] at hj
   by_cases e:j=i
   ·rw[if_pos e] at hj;cases hj;exact⟨e,rfl⟩
   ·rw[if_neg e] at hj;cases hj
  have hsub:∀j ak,Aq j [(i,some ob)]=some ak→Aq j s.o=some ak:=fun j ak hj=>by obtain⟨rfl,rfl⟩:=one hj;exact g4
  rw[g3 R]
  have eu:∀p∈ps,p:=JU hp (Amo hc)
  obtain⟨d,rfl⟩:=ok.suf _ _ _ _ _ _ _ _ _ g5
  refine(ok.C _ _ _ _ _ _ _ _ _ g5 xa eu F N R vs (hr.hp.weak hsub) g2).mono fun e R' ⟨y,F',N',e1,e2,e3,e4,_⟩=>⟨y,e1,?_,?_⟩
  ·obtain⟨q1,q2⟩:=hr.hp.frame (o':=d++[(i,some ob)]++s.o) hsub e3 e2 fun j ak hj=>by
    by_cases e:j=i
    ·subst e
     exact .inl (Ak8 hj)
    ·rcases Af2 hj with h5|h5
     ·exact .inl h5
     ·exact .inr ⟨h5,by rw[AI,if_neg e];rfl⟩
   obtain⟨F2,N2,q3⟩:=A1g hr h2 hW (v:=y) (R':=R') ⟨F',N',q1,q2,e4,fun hk=>by
    have:(2:Nat)≤1:=hk
    omega⟩
   exact .inl ⟨hc,F2,N2,q3⟩
  ·refine⟨c,s,F,N,ob,rfl,hc,hr,g4,e3.size,fun g hg hn=>e3.keep g hg fun hf=>hn ?_⟩
   obtain⟨j,ak,hj,hy⟩:=hf
   obtain⟨rfl,rfl⟩:=one hj
   exact hy
 ·exact h.elim
theorem Bd0 (ok:EnvOk E) {fr:Bool} {ops:List Oper} {o:Oper} (hW:∀d,o.dst=some d→Z.W d) {l l':List DL} {k:Nat} {qs:List Prop} (he:Ade E fr ops o l=some (k,l',qs)) (hp:∀q∈qs,q) (h:RC l (At Z a R)):
  (Region.wanted o (yielded ops.toArray a.tmps)=true∧Gg E.P (fun v R'=>(k≤1→Below R.heap.size R R')∧RC l' (At Z (a.put o.dst v) R')∧Bai Z E fr o l a R R') ((execOp a.eval o).run E.P R))∨
  (Region.wanted o (yielded ops.toArray a.tmps)=false∧RC l' (At Z (a.put o.dst undef) R)):=by
 have plain:∀(hn:∀i r,fr=true→Aiw E o l=some (i,r)→False),JR E ops o l=some (k,l',qs)→(Region.wanted o (yielded ops.toArray a.tmps)=true∧Gg E.P (fun v R'=>(k≤1→Below R.heap.size R R')∧RC l' (At Z (a.put o.dst v) R')∧Bai Z E fr o l a R R') ((execOp a.eval o).run E.P R))∨
  (Region.wanted o (yielded ops.toArray a.tmps)=false∧RC l' (At Z (a.put o.dst undef) R)):=fun hn he=>by
  rcases YP ok hW he hp h with⟨g1,g2⟩|g
  ·exact .inl ⟨g1,CW g2 fun v R' ⟨g3,g4⟩=>⟨g3,g4,fun h1 i r h2=>(hn i r h1 h2).elim⟩⟩
  ·exact .inr g
 unfold Ade at he
 split at he
 ·split at he
  ·rename_i i r hr
   cases he
   obtain⟨rfl,g1,g2⟩:=Az2 ok hW hr hp h
   refine .inl ⟨Ig g1 _,CW g2 fun v R' ⟨g3,g4⟩=>⟨fun hk=>by omega,g3,fun _ i' r' h2=>?_⟩⟩
   rw[hr] at h2
   cases h2
   exact g4
  ·rename_i hr
   exact plain (fun i r _ h2=>by rw[hr] at h2;cases h2) he
 ·exact plain (fun i r h1=>by cases h1) he
theorem Ayt (ok:EnvOk E) {fr:Bool} {ops:List Oper} {o:Oper} (hW:∀d,o.dst=some d→Z.W d) {l l':List DL} {qs:List Prop} (he:Ade E fr ops o l=some (0,l',qs)) (hp:∀q∈qs,q) (h:RC l (At Z a R)):∃v,RC l' (At Z (a.put o.dst v) R)∧Aqo E.P ops o a R v:=by
 unfold Ade at he
 split at he
 ·split at he
  ·rename_i i r hr
   cases he
   obtain⟨h0,_⟩:=Az2 ok hW hr hp h
   cases h0
  ·exact Qk ok hW he hp h
 ·exact Qk ok hW he hp h
end
def evK (E:Env) (fr:Bool) (ops:List Oper):List Nat→List DL→Option (List Nat×List DL×List Prop)
 | [],l=>some ([],l,[])
 | i::r,l=>match ops[i]? with
  | some o=>match Ade E fr ops o l with
   |some (k,l',ps)=>match evK E fr ops r l' with
    |some (ks,ql,qs)=>some (k::ks,ql,ps++qs)
    |none=>none
   |none=>none
  |none=>none
def stK (E:Env) (fr:Bool) (ops:List Oper):List Nat→List DL→Nat→Option (List DL)
 |_,l,0=>some l
 | [],_,_+1=>none
 | i::r,l,k+1=>match ops[i]? with
  |some o=>match Ade E fr ops o l with
   |some (_,l',_)=>stK E fr ops r l' k
   |none=>none
  |none=>none
theorem Ahw {E:Env} {fr:Bool} {ops:List Oper} {L:List Nat} {l:List DL}:stK E fr ops L l 0=some l:=by cases L<;>rfl
theorem A6q {E:Env} {fr:Bool} {ops:List Oper}:∀{L:List Nat} {l:List DL} {ks:List Nat} {lF:List DL} {qn:List Prop},evK E fr ops L l=some (ks,lF,qn)→
  stK E fr ops L l L.length=some lF∧∀k,k <L.length→∃l1 o l2 ez,ops[L.getD k 0]?=some o∧stK E fr ops L l k=some l1∧Ade E fr ops o l1=some (ks.getD k 0,l2,ez)∧(∀p∈ez,p∈qn)∧stK E fr ops L l (k+1)=some l2
 | [],l,ks,lF,qn,h=>by cases h;exact⟨rfl,fun k hk=>by cases hk⟩
 | i::r,l,ks,lF,qn,h=>by
  unfold evK at h
  split at h<;>try (cases h;done)
  rename_i o ho
  split at h<;>try (cases h;done)
  rename_i kd l' ps hst
  split at h<;>try (cases h;done)
  rename_i ks' ql qs hr
  cases h
  obtain⟨h1,h2⟩:=A6q hr
  have hs:∀k,stK E fr ops (i::r) l (k+1)=stK E fr ops r l' k:=fun k=>by
   show(match ops[i]? with|some o=>(match Ade E fr ops o l with|some (_,l',_)=>stK E fr ops r l' k|none=>none)|none=>none)=_
   rw[ho]
   simp only[hst]
  refine⟨by rw[List.length_cons,hs];exact h1,fun k hk=>?_⟩
  cases k with
  |zero=>exact⟨l,o,l',ps,ho,Ahw,hst,fun p hp=>List.mem_append.2 (.inl hp),by rw[hs,Ahw]⟩
  |succ k=>
   obtain⟨s1,o1,s2,ez,g1,g2,g3,g5,g6⟩:=h2 k (by simpa using hk)
   exact⟨s1,o1,s2,ez,by simpa using g1,by rw[hs];exact g2,by simpa using g3,fun p hp=>List.mem_append.2 (.inr (g5 p hp)),by rw[hs];exact g6⟩
theorem Anc {E:Env} {fr:Bool} {s0:St} (ok:EnvOk E) {ops:List Oper}:∀{L:List Nat} {P P':List DL} {ks:List Nat} {ps:List Prop},evK E fr ops L P=some (ks,P',ps)→Ta s0 P→Ta s0 P'
 | [],P,P',ks,ps,he,h=>by cases he;exact h
 |i::r,P,P',ks,ps,he,h=>by
  unfold evK at he
  split at he<;>try (cases he;done)
  split at he<;>try (cases he;done)
  rename_i k P1 dg h1
  split at he<;>try (cases he;done)
  rename_i ks2 P2 ez h2
  cases he
  exact Anc ok h2 (A92 ok h1 h)
def Arf (E:Env) (o o':Oper) (s:St):Bool:=match o.op,o'.op,o'.guard with
 | .load t x,.store t' x' v',none=>match s.ev [] x,s.ev [] x' with
  |some (.own i _),some (.own i' _)=>bif Nat.beq i i' then false else(match Aq i s.o,Aq i' s.o,Aap E s [] t x,Ayc E s [] t' x' v',cellsOf s [] v' with
   |some (.box _ _),some (.box _ _),some _,some _,some _=>true
   |_,_,_,_,_=>false)
  |_,_=>false
 |_,_,_=>false
def Ard (E:Env) (o o':Oper):List DL→Bool
 | []=>true
 |(_,s)::r=>bif Arf E o o' s then Ard E o o' r else false
def Dw {α:Type} (P:Program) (m:Sem α):Prop:=∀w x w1,m.run P w=.ok x w1→w1=w∧∀w',m.run P w'=.ok x w'
section
variable {P:Program} {α β:Type}
theorem Dw.pure (x:α):Dw P (Pure.pure x:Sem α):=fun w y w1 h=>by
 have h':Result.ok x w=Result.ok y w1:=h
 cases h'
 exact⟨rfl,fun _=>rfl⟩
theorem Dw.bind {m:Sem α} {f:α→Sem β} (h:Dw P m) (k:∀x,Dw P (f x)):Dw P (m >>= f):=fun w y w1 he=>by
 rw[Sem.run_bind] at he
 cases hm:m.run P w with
 |halt e w2=>rw[hm] at he;cases he
 |ok x w2=>
  rw[hm] at he
  obtain⟨rfl,h2⟩:=h w x w2 hm
  obtain⟨rfl,h3⟩:=k x _ _ _ he
  exact⟨rfl,fun w'=>by rw[Sem.run_bind,h2 w'];exact h3 w'⟩
theorem Dw.halt (e:Halt):Dw P (Sem.halt e:Sem α):=fun w x w1 he=>by cases he
theorem Dw.prog {k:Program→Sem α} (h:∀p,Dw P (k p)):Dw P (do let p ←program;k p):=fun w x w1 he=>h P w x w1 he
def QX (P:Program) (m:Sem α):Prop:=∀w x w1,m.run P w≠.ok x w1
theorem QX.blind {m:Sem α} (h:QX P m):Dw P m:=fun w x w1 he=>absurd he (h w x w1)
theorem QX.bind {m:Sem α} {f:α→Sem β} (h:∀x,QX P (f x)):QX P (m >>= f):=fun w y w1 he=>by
 rw[Sem.run_bind] at he
 cases hm:m.run P w with
 |halt e w2=>rw[hm] at he;cases he
 |ok x w2=>rw[hm] at he;exact h x _ _ _ he
theorem Agk (e:Halt):QX P (Sem.halt e:Sem α):=fun w x w1 he=>by cases he
theorem As9 (e:RuntimeError):QX P (runtimePanic e:Sem α):=by
 unfold runtimePanic
 refine QX.bind fun p=>?_
 cases e<;>first|exact Agk _|exact QX.bind fun _=>QX.bind fun _=>Agk _
theorem An3 (k:IntKind) (x y:Int) (c:BoundsCode):QX P (boundsPanic k x y c:Sem α):=by
 unfold boundsPanic
 split<;>exact QX.bind fun s=>As9 _
theorem KV (t:TypeId):Dw P (underlying t):=by
 unfold underlying
 refine Dw.prog fun p=>?_
 split<;>first|exact .pure _|exact .halt _
theorem Ad4 (t:TypeId):Dw P (typeInfo t):=by
 unfold typeInfo
 refine Dw.prog fun p=>?_
 split<;>first|exact .pure _|exact .halt _
theorem PZ (t:TypeId):Dw P (sizeOf t):=by
 unfold sizeOf
 exact(Ad4 t).bind fun _=> .pure _
theorem A19 (v:Value):Dw P (asIntOf v):=by
 unfold asIntOf
 split<;>first|exact .pure _|exact .halt _
theorem Avl (v:Value):Dw P (Instr.sureAddr v):=by
 unfold Instr.sureAddr
 split<;>first|exact .pure _|exact .halt _
theorem Aq0 (t:TypeId) (x i:Value):Dw P (Instr.indexAt t x i):=by
 unfold Instr.indexAt
 refine(A19 i).bind fun ki=>?_
 repeat' (first|exact Dw.pure _|exact Dw.halt _|exact KV _|exact Avl _|exact PZ _|exact(An3 _ _ _ _).blind|(refine Dw.bind ?_ fun _=>?_)|split|dsimp only)
theorem Avm (t:TypeId):Dw P (zeroValue t):=by
 unfold zeroValue
 refine(Ad4 t).bind fun i=>?_
 split<;>first|exact .pure _|exact .halt _
theorem Avk {γ:Type} (f:γ→Sem β) (hf:∀x,Dw P (f x)) (l:Array γ):Dw P (l.mapM f):=by
 rw[Array.mapM_eq_mapM_toList]
 refine Dw.bind ?_ fun _=> .pure _
 induction l.toList with
 |nil=>exact .pure _
 |cons a r ih=>
  rw[List.mapM_cons]
  exact(hf a).bind fun _=>ih.bind fun _=> .pure _
theorem Aqy (t:TypeId) (parts:Array (Nat×Value)):Dw P (Instr.build t parts):=by
 unfold Instr.build
 refine Dw.bind ((Avm t)) fun z=>?_
 refine(KV t).bind fun d=>?_
 split
 ·refine(Avk _ (fun f=>(PZ _).bind fun _=> .pure _) _).bind fun ps=>?_
  split<;>first|exact .pure _|exact .halt _
 ·refine(PZ _).bind fun s=>?_
  split<;>first|exact .pure _|exact .halt _
 ·exact .halt _
theorem A16 (v:Value):Dw P (asAgg v):=by
 unfold asAgg
 split<;>first|exact .pure _|exact .halt _
theorem Aq1 (t:TypeId):Dw P (isAgg t):=by
 unfold isAgg
 refine(KV t).bind fun d=>?_
 repeat' (first|exact Dw.pure _|exact Dw.halt _|split|dsimp only)
theorem Aqz (t:TypeId) (x:Value) (f:Nat):Dw P (Instr.field t x f):=by
 unfold Instr.field part
 refine(KV t).bind fun d=>?_
 repeat' (first|exact Dw.pure _|exact Dw.halt _|exact A16 _|exact Aq1 _|exact PZ _|(refine Dw.bind ?_ fun _=>?_)|split|dsimp only)
def Bjw:BinOp→Bool
 | .eql=>true
 | .neq=>true
 | .lss=>true
 | .leq=>true
 | .gtr=>true
 | .geq=>true
 |_=>false
theorem A18 (t:TypeId) (v:Value) (k:IntKind) (n:Int):Dw P (Op.equal t v (.int k n)):=by
 unfold Op.equal Op.equalIn
 refine(KV t).bind fun d=>?_
 split<;>first|exact .pure _|exact .halt _|contradiction|skip
 all_goals first
  |(split<;>first|exact .pure _|exact .halt _)
  |skip
theorem A17 {op:BinOp} (h:Bjw op=true) (t:TypeId) (x y:Operand) (v:Value) (k:IntKind) (n:Int):Dw P (do eqGuard op t x y v (.int k n);binOp op t v (.int k n)):=by
 refine Dw.bind ?_ fun _=>?_
 ·unfold eqGuard
  cases op<;>cases v<;>first|exact .pure _|(cases h;done)
 ·cases op<;>try (cases h;done)
  all_goals
   cases v<;>first
    |exact .halt _
    |(rename_i k' a;show Dw P (if k'≠k then _ else _);split<;>first|exact .halt _|exact .pure _)
    |exact(A18 _ _ _ _).bind fun _=> .pure _
    |(unfold binOp;first|exact .pure _|exact .halt _|(split<;>first|exact .pure _|exact .halt _)|(rename_i p;cases p<;>first|exact .pure _|exact .halt _))
def Amc:Op→Bool
 | .indexAddr _ _ _=>true
 | .build _ _=>true
 | .field _ _ _=>true
 | .binOp op _ _ (.const (.int _ _)) _=>Bjw op
 |_=>false
theorem Avj {ev:Operand→Value} {o:Oper} (h:Amc o.op=true) (gy:∀v,ev (.const v)=v):∃I:Sem Value,execOp ev o=(do pure (.value (←I)))∧Dw P I:=by
 obtain⟨dst,op,type,pos,after,guard⟩:=o
 simp only at h
 unfold Amc at h
 split at h<;>try (cases h;done)
 ·exact⟨_,rfl,Aq0 _ _ _⟩
 ·exact⟨_,rfl,Aqy _ _⟩
 ·exact⟨_,rfl,Aqz _ _ _⟩
 ·rename_i vj t x k n yt
  refine⟨_,rfl,?_⟩
  rw[gy]
  exact A17 h _ _ _ _ _ _
end
def A0x (ops:List Oper) (order:List Nat) (j:Nat):Bool:=match ops[order.getD j 0]? with
 |some o=>(match o.op with
  | .move _=>true
  | .extract _ _=>true
  |p=>Amc p)
 |none=>false
theorem Ali {P:Program} {ops:List Oper} {order:List Nat} {a:Act} {V:Nat→Value} {w w':World} {j:Nat} (h:A0x ops order j=true) (hp:LP P ops.toArray (fun k=>order.getD k 0) a V w j):LP P ops.toArray (fun k=>order.getD k 0) a V w' j:=fun o2 di=>by
 have ly:ops[order.getD j 0]?=some o2:=by simpa using di
 unfold A0x at h
 rw[ly] at h
 simp only at h
 split at h<;>try (cases h;done)
 ·rename_i x hx
  have hex:∀w1,(execOp (canA ops.toArray (fun k=>order.getD k 0) a V j).eval o2).run P w1=.ok (.value ((canA ops.toArray (fun k=>order.getD k 0) a V j).eval x)) w1:=fun w1=>by
   obtain⟨dst,op,type,pos,after,guard⟩:=o2
   simp only at hx
   subst hx
   rfl
  rcases hp o2 di with⟨p1,p2⟩|⟨p1,p2⟩
  ·refine .inl ⟨p1,fun w1 _=>?_⟩
   have p3:=p2 w (Below.refl _ _)
   rw[hex] at p3⊢
   exact⟨rfl,p3.2⟩
  ·exact .inr ⟨p1,p2⟩
 ·rename_i x ix hx
  have hex:∀w1,(execOp (canA ops.toArray (fun k=>order.getD k 0) a V j).eval o2).run P w1=(do pure (.value (←Instr.extract ((canA ops.toArray (fun k=>order.getD k 0) a V j).eval x) ix)):Sem Next).run P w1:=fun w1=>by
   obtain⟨dst,op,type,pos,after,guard⟩:=o2
   simp only at hx
   subst hx
   rfl
  rcases hp o2 di with⟨p1,p2⟩|⟨p1,p2⟩
  ·refine .inl ⟨p1,fun w1 _=>?_⟩
   have p3:=p2 w (Below.refl _ _)
   rw[hex] at p3⊢
   revert p3
   generalize (canA ops.toArray (fun k=>order.getD k 0) a V j).eval x=v
   intro p3
   cases v<;>try exact(show False from p3).elim
   rename_i vs
   unfold Instr.extract at p3⊢
   cases h:vs[ix]? with
   |none=>simp only[h] at p3;exact(show False from p3).elim
   |some u=>simp only[h] at p3⊢;exact⟨rfl,(show _∧_ from p3).2⟩
  ·exact .inr ⟨p1,p2⟩
 ·have fa:Amc o2.op=true:=h
  rcases hp o2 di with⟨p1,p2⟩|⟨p1,p2⟩
  ·refine .inl ⟨p1,fun w1 _=>?_⟩
   have p3:=p2 w (Below.refl _ _)
   obtain⟨I,hI,hb⟩:=Avj (P:=P) (ev:=(canA ops.toArray (fun k=>order.getD k 0) a V j).eval) fa (fun _=>rfl)
   rw[hI,Sem.run_bind] at p3⊢
   cases hr:I.run P w with
   |halt e w2=>rw[hr] at p3;exact(show False from p3).elim
   |ok x w2=>
    rw[hr] at p3
    rw[(hb w x w2 hr).2 w1]
    exact⟨rfl,(show _∧_ from p3).2⟩
  ·exact .inr ⟨p1,p2⟩
def Arc (E:Env) (fr:Bool) (ops:List Oper) (order:List Nat) (l0:List DL) (j k:Nat):Bool:=match ops[order.getD j 0]?,ops[order.getD k 0]?,stK E fr ops order l0 k with
 | some o,some o',some l=>bif Ard E o o' l then(match o.op with
  | .load _ (.tmp x)=>(List.range (k - j)).all fun m=>match ops[order.getD (j+m) 0]? with
   |some p=>match p.dst with
    |some d=>!(Nat.beq d x)
    |none=>true
   |none=>true
  |_=>false) else false
 |_,_,_=>false
def Bbv (E:Env) (o:Oper) (s:St) (i':Nat):Bool:=match o.op with
 | .load t x=>match s.ev [] x with
  |some (.own i _)=>bif Nat.beq i i' then false else(match Aq i s.o,Aap E s [] t x with
   |some (.box _ _),some _=>true
   |_,_=>false)
  |_=>false
 |_=>false
def Arb (E:Env) (fr:Bool) (ops:List Oper) (order:List Nat) (l0:List DL) (j k:Nat):Bool:=match fr,ops[order.getD j 0]?,ops[order.getD k 0]?,stK E fr ops order l0 k with
 | true,some o,some o',some l=>(match l,Aiw E o' l with
  | [(_,s)],some (i',_)=>bif Bbv E o s i' then(match o.op with
   | .load _ (.tmp x)=>(List.range (k - j)).all fun m=>match ops[order.getD (j+m) 0]? with
    |some p=>match p.dst with
     |some d=>!(Nat.beq d x)
     |none=>true
    |none=>true
   |_=>false) else false
  |_,_=>false)
 |_,_,_,_=>false
def Bhf (o:Oper):Option Nat:=match o.op with
 | .fieldAddr _ (.tmp x) _=>some x
 | .nilCheck (.tmp x)=>some x
 |_=>none
def Awr (E:Env) (o:Oper):List DL→Bool
 | []=>true
 | (_,s)::r=>match o.op with
  | .fieldAddr t x f=>(match Aey E s [] t x f with
   |some _=>Awr E o r
   |none=>false)
  | .nilCheck x=>(match s.ev [] x with
   |some z=>bif Ayg z then Awr E o r else false
   |none=>false)
  |_=>false
def Azi (E:Env) (fr:Bool) (ops:List Oper) (order:List Nat) (l0:List DL) (j k:Nat):Bool:=match fr,ops[order.getD j 0]?,stK E fr ops order l0 k with
 | true,some o,some l=>(match Bhf o with
  | some x=>bif Awr E o l then((List.range (k - j)).all fun m=>match ops[order.getD (j+m) 0]? with
   |some p=>match p.dst with
    |some d=>!(Nat.beq d x)
    |none=>true
   |none=>true) else false
  |none=>false)
 |_,_,_=>false
section
variable {E:Env} {Z:Eo} {F:Nat→Prop} {N:Nm} {s:St} {a:Act} {R:World}
theorem As0 (h:Rel Z F N s a R) {t:TypeId} {x:Operand} {i off:Nat} (hx:s.ev [] x=some (.own i off)) {e0:TypeId} {cs0:List A} (lx:Aq i s.o=some (.box e0 cs0)) {z:A} {ps:List Prop} (he:Aap E s [] t x=some (z,ps)):
  ∃y,∀R',R'.heap[N.b i]?=R.heap[N.b i]?→(Instr.loadAt t (a.eval x)).run E.P R'=.ok y R':=by
 have hx':=(Bs h (Ep _) hx).2.own_inv
 unfold Aap at he
 rw[hx] at he
 simp only at he
 rw[lx] at he
 simp only at he
 have hl:=lx
 split at he<;>try (cases he;done)
 rename_i z' hz
 cases he
 obtain⟨_,vs,g1,g2⟩:=h.hp.ob i _ hl
 obtain⟨y,_,q2⟩:=XW (ad:=⟨N.b i,off,none⟩) hz (g1.drop off)
 refine⟨y,fun R' hb=>?_⟩
 rw[Ie hx'.2]
 refine q2 R' fun j v hj=>?_
 rw[C9,C8 (hb.trans g2)]
 rw[List.getElem?_drop] at hj
 simpa using hj
theorem Bdi (h:Rel Z F N s a R) {t:TypeId} {x v:Operand} {i off:Nat} (hx:s.ev [] x=some (.own i off)) {e0:TypeId} {cs0:List A} (lx:Aq i s.o=some (.box e0 cs0)) {vl:List A} (l9:cellsOf s [] v=some vl) {f:OY} (he:Ayc E s [] t x v=some f):
  ∃R',(Instr.storeAt t (a.eval x) (a.eval v)).run E.P R=.ok () R'∧R'.heap.size=R.heap.size∧∀g,g≠N.b i→R'.heap[g]?=R.heap[g]?:=by
 have hx':=(Bs h (Ep _) hx).2.own_inv
 unfold Ayc at he
 split at he
 rotate_left
 ·rename_i ew
  rw[l9] at ew
  cases ew
 rename_i us ew
 obtain⟨hu,h1⟩:=Aeb h (Ep _) ew
 have hlen:=hu.length
 split at he<;>try (cases he;done)
 rename_i n hn
 cases hb:Nat.beq n us.length with
 |false=>rw[hb] at he;cases he
 | true=>
  rw[hb] at he
  obtain rfl:=Nat.eq_of_beq_eq_true hb
  simp only[cond_true,hx] at he
  rw[←hlen] at hn
  have hl:=lx
  rw[lx] at he
  simp only at he
  generalize e0=e at hl he
  generalize cs0=cs at hl he
  cases hb2:Nat.ble (off+us.length) cs.length with
  |false=>rw[hb2] at he;cases he
  |true=>
   have hle:=Nat.le_of_ble_eq_true hb2
   obtain⟨_,vs,g1,g2⟩:=h.hp.ob i _ hl
   have s7:=g1.length
   exact⟨_,El hx'.2 g2 hn (by omega) h1,by simp[World.setRow],fun g hg=>setRow_other R _ g _ hg⟩
theorem Ba5 (h:Rel Z F N s a R) {o o':Oper} (hc:Arf E o o' s=true):
  ∃t x R' y,o.op=.load t x∧o'.guard=none∧(execOp a.eval o').run E.P R=.ok .skip R'∧(Instr.loadAt t (a.eval x)).run E.P R=.ok y R∧
   ∀w1,Below R'.heap.size R' w1→(Instr.loadAt t (a.eval x)).run E.P w1=.ok y w1:=by
 unfold Arf at hc
 split at hc<;>try (cases hc;done)
 rename_i t x t' x' v' ho ho' hg
 split at hc<;>try (cases hc;done)
 rename_i i off i' ax hx hx'
 cases hb:Nat.beq i i' with
 |true=>rw[hb] at hc;cases hc
 | false=>
  rw[hb] at hc
  simp only[cond_false] at hc
  split at hc<;>try (cases hc;done)
  rename_i e cs e' dj zl f vl lh ng hl hf l9
  obtain⟨z,ps⟩:=zl
  obtain⟨y,g1⟩:=As0 h hx lh hl
  obtain⟨R',g2,g3,g4⟩:=Bdi h hx' ng l9 hf
  have ao:N.b i≠N.b i':=fun e=>by
   have:=h.hp.sep i i' _ _ (N.b i) lh ng rfl e
   subst this
   simp at hb
  obtain⟨_,vs,_,q2⟩:=h.hp.ob i _ lh
  refine⟨t,x,R',y,ho,hg,?_,g1 R rfl,fun w1 hw=>g1 w1 ?_⟩
  ·obtain⟨dst,op,type,pos,after,guard⟩:=o'
   simp only at ho'
   subst ho'
   simp[execOp,g2]
  ·rw[hw.block _ (by rw[g3];exact Fw q2)]
   exact g4 _ ao
theorem Are {o o':Oper}:∀{l:List DL},Ard E o o' l=true→RC l (fun s=>∃F N,Rel Z F N s a R)→∃s F N,Rel Z F N s a R∧Arf E o o' s=true
 | [],_,h=>h.elim
 | (c,s)::r,hc,h=>by
  unfold Ard at hc
  cases hp:Arf E o o' s with
  |false=>rw[hp] at hc;cases hc
  |true=>
   rw[hp] at hc
   rcases h with⟨_,F,N,h⟩|⟨_,h⟩
   ·exact⟨s,F,N,h,hp⟩
   ·exact Are hc h
theorem Ane {o:Oper} {x:Nat} (hx:Bhf o=some x):∀{l:List DL},Awr E o l=true→RC l (At Z a R)→∃y,∀(ev:Operand→Value) (R':World),ev (.tmp x)=a.eval (.tmp x)→(execOp ev o).run E.P R'=.ok (.value y) R'
 | [],_,h=>h.elim
 | (c,s)::r,hc,h=>by
  have mw:=hx
  obtain⟨dst,op,type,pos,after,guard⟩:=o
  unfold Bhf at hx
  split at hx<;>try (cases hx;done)
  ·rename_i t x' f ho
   cases hx
   simp only at ho
   subst ho
   unfold Awr at hc
   simp only at hc
   split at hc
   ·rename_i z hz
    rcases h with⟨_,F,N,h⟩|⟨_,h⟩
    ·obtain⟨_,y,_,hy⟩:=Ar1 h (Ep _) (show Aey E s [] t (.tmp x) f=some (z.1,z.2) from hz)
     refine⟨y,fun ev R' e=>?_⟩
     show(do pure (.value (←Instr.fieldAt t (ev (.tmp x)) f)):Sem Next).run E.P R'=_
     rw[e]
     exact CV (hy R')
    ·exact Ane mw hc h
   ·cases hc
  ·rename_i x' ho
   cases hx
   simp only at ho
   subst ho
   unfold Awr at hc
   simp only at hc
   split at hc
   ·rename_i z hz
    cases hs:Ayg z with
    |false=>rw[hs] at hc;cases hc
    | true=>
     rw[hs] at hc
     rcases h with⟨_,F,N,h⟩|⟨_,h⟩
     ·obtain⟨ad,e1⟩:=Ah3 hs (Bs h (Ep _) hz).2
      refine⟨.pointer (some ad),fun ev R' e=>?_⟩
      rw[e1] at e
      simp only[execOp,e];rfl
     ·exact Ane mw hc h
   ·cases hc
theorem Bhc (h:Rel Z F N s a R) {o:Oper} {i':Nat} (hc:Bbv E o s i'=true) {ob:Ob} (hi:Aq i' s.o=some ob):∃t x y,o.op=.load t x∧(Instr.loadAt t (a.eval x)).run E.P R=.ok y R∧
   ∀R',R.heap.size≤R'.heap.size→(∀g,g <R.heap.size→¬foot N i' ob g→R'.heap[g]?=R.heap[g]?)→∀w1,Below R'.heap.size R' w1→(Instr.loadAt t (a.eval x)).run E.P w1=.ok y w1:=by
 unfold Bbv at hc
 split at hc<;>try (cases hc;done)
 rename_i t x ho
 split at hc<;>try (cases hc;done)
 rename_i i off hx
 cases hb:Nat.beq i i' with
 |true=>rw[hb] at hc;cases hc
 |false=>
  rw[hb] at hc
  simp only[cond_false] at hc
  split at hc<;>try (cases hc;done)
  rename_i e cs zl lh hl
  obtain⟨z,ps⟩:=zl
  obtain⟨y,g1⟩:=As0 h hx lh hl
  obtain⟨_,vs,_,q2⟩:=h.hp.ob i _ lh
  refine⟨t,x,y,ho,g1 R rfl,fun R' hs hk w1 hw=>g1 w1 ?_⟩
  have ae:=Fw q2
  rw[hw.block _ (by omega)]
  refine hk _ ae fun hf=>?_
  have:=h.hp.sep i i' _ _ (N.b i) lh hi rfl hf
  subst this
  simp at hb
end
abbrev R3:=Option (St×List Prop)
def A78 (ops:List Oper) (order:List Nat) (p k:Nat) (o:Oper):Bool:=(List.range (k - p)).all fun i=>match ops[order.getD (p+i) 0]? with
 |some o'=>(match o'.dst with
  |some d=>!((o.looksAt ops.toArray).contains d)
  |none=>true)
 |none=>true
def isS {α:Type}:Option α→Bool
 |some _=>true
 |none=>false
def Bmj (E:Env) (o:Oper) (l:List DL):Bool:=l.all fun cs=>isS (mkE E cs.2 o)
def Bk9 (E:Env) (o:Oper) (l:List DL):Bool:=l.all fun cs=>match mkE E cs.2 o with
 |some f=>isS (QI cs.2 o.dst f)
 |none=>false
def Bcy (E:Env) (fr:Bool) (ops:List Oper) (order:List Nat) (l0:List DL) (k:Nat) (o:Oper):Bool:=
 (match stK E fr ops order l0 k with
 |some l=>Bk9 E o l
 |none=>false)&&(List.range (k+1)).all fun p=>!(A78 ops order p k o)||(match stK E fr ops order l0 p with
 |some l=>Bmj E o l
 |none=>true)
def YL (E:Env) (fr:Bool) (ops:List Oper) (order:List Nat) (l0:List DL) (k:Nat):Bool:=match ops[order.getD k 0]? with
 |some o=>bif YK E o then true else bif mkB o then Bcy E fr ops order l0 k o else false
 |none=>false
def evO (E:Env) (fr:Bool) (ops:List Oper) (order:List Nat) (s:St):R3:=match evK E fr ops order [(none,s)] with
 |some (ks,l,ps)=>bif Amh ops.toArray order ks (YL E fr ops order [(none,s)]) (fun j k=>(A0x ops order j||Arc E fr ops order [(none,s)] j k)||(Arb E fr ops order [(none,s)] j k||Azi E fr ops order [(none,s)] j k))&&Bg5 ops.toArray order (YL E fr ops order [(none,s)]) then some (Sn (L9 ops) s l,ps) else none
 |none=>none
def evR (E:Env) (ops:List Oper) (draw:Bool) (s:St):R3:=match draw with
 | true=>match evO E false ops (Bk4 E.P ops) s with
  |some r=>some r
  | none=>match evO E false ops (Bfn E.P ops) s with
   |some r=>some r
   |none=>match evO E true ops (Bk4 E.P ops) s with
    |some r=>some r
    |none=>evO E true ops (Bfn E.P ops) s
 |false=>match Akw E ops ops [(none,s)] with
  |some (l,ps)=>some (Sn (L9 ops) s l,ps)
  |none=>none
section
variable {E:Env} {Z:Eo} {F:Nat→Prop} {N:Nm} {s:St} {a:Act} {R:World}
theorem Ax2 (ok:EnvOk E) {ops:List Oper} {draw:Bool} {s':St} {ps:List Prop} (he:evR E ops draw s=some (s',ps)):Sub s s':=by
 cases draw with
 |false=>
  unfold evR at he
  simp only at he
  split at he<;>try (cases he;done)
  rename_i l dg h1
  cases he
  exact VZ _ _ (YO ok h1 ⟨Sub.refl _,trivial⟩)
 | true=>
  have one:∀fr order,evO E fr ops order s=some (s',ps)→Sub s s':=fun fr order he=>by
   unfold evO at he
   split at he<;>try (cases he;done)
   rename_i ks l dg h1
   replace he:=Cv he
   cases he
   exact VZ _ _ (Anc ok h1 ⟨Sub.refl _,trivial⟩)
  unfold evR at he
  simp only at he
  repeat' (split at he)
  all_goals first|exact one _ _ he|(rename_i r hr;cases he;exact one _ _ hr)
def A14 (E:Env) (ops:List Oper) (order:List Nat) (k:Nat) (A:Act) (j:Nat) (v:Value) (G:Nat→Prop) (w:World):Prop:=
 (∃g e z,v=.pointer (some ⟨g,0,none⟩)∧(∃op,ops[order.getD j 0]?=some op∧op.op=.alloc e)∧(E.P.info? e).bind (·.zero)=some z∧(∀b,G b↔b=g)∧w.heap[g]?=some (.cells z.cells.toList.toArray e (0,0)))∨
 (∃g x args ts N0,(∃op,ops[order.getD j 0]?=some op∧op.op=.call {callee:=.value (.func g),args:=args,argTypes:=ts})∧JO E (.func g) args.toList=some (g,x)∧Hv G N0 0 w x v)∨
 (∃g C op,ops[order.getD j 0]?=some op∧mkB op=true∧(∀w0,(execOp A.eval op).run E.P w0=.ok (.value (mkV op.op w0.heap.size)) (w0.alloc C))∧v=mkV op.op g∧(∀b,G b↔b=g)∧w.heap[g]?=some C∧A47 ops.toArray (fun k=>order.getD k 0) k j op)
def Rsv (E:Env) (ops:List Oper) (order:List Nat) (B k:Nat) (X:KS) (A:Act) (F:Nat→Prop) (N:Nm) (o:AJ) (w:World):Prop:=
 ∃G:Nat→Nat→Prop,(∀j v,k≤j→X j=some v→A14 E ops order k A j v (G j) w∧∀b,G j b→B≤b∧b <w.heap.size∧¬F b∧¬EN N o b)∧∀i j u v b,k≤i→k≤j→X i=some u→X j=some v→G i b→G j b→i=j
theorem Alo {E:Env} {ops:List Oper} {order:List Nat} {k:Nat} {A:Act} {j:Nat} {v:Value} {G:Nat→Prop} {w w':World} (h:A14 E ops order k A j v G w) (hk:∀b,G b→w'.heap[b]?=w.heap[b]?):A14 E ops order k A j v G w':=by
 rcases h with⟨g,e,z,h1,h2,h3,h4,h5⟩|⟨g,x,args,ts,N0,h1,h2,h3⟩|⟨g,C,op,h1,h2,h3,h4,h5,h6,h7⟩
 ·exact .inl ⟨g,e,z,h1,h2,h3,h4,by rw[hk g ((h4 g).2 rfl)];exact h5⟩
 ·exact .inr (.inl ⟨g,x,args,ts,N0,h1,h2,h3.step ⟨Nat.le_refl _,fun _ _=>rfl,fun _ _=>rfl,fun _ h=>h,hk⟩⟩)
 ·exact .inr (.inr ⟨g,C,op,h1,h2,h3,h4,h5,by rw[hk g ((h5 g).2 rfl)];exact h6,h7⟩)
theorem A0v {op:Oper} (h:mkB op=true):∀cs b,op.op≠.select cs b:=fun cs b e=>by
 unfold mkB at h
 rw[e] at h
 cases h
theorem Auh {E:Env} {ops:List Oper} {order:List Nat} {k:Nat} {A:Act} {j:Nat} {v u:Value} {G:Nat→Prop} {w:World} (h:A14 E ops order k A j v G w) (qc:k <j) {o:Oper} (ho:ops[order.getD k 0]?=some o):A14 E ops order (k+1) (A.put o.dst u) j v G w:=by
 rcases h with h|h|⟨g,C,op,h1,h2,h3,h4,h5,h6,h7⟩
 ·exact .inl h
 ·exact .inr (.inl h)
 ·refine .inr (.inr ⟨g,C,op,h1,h2,fun w0=>?_,h4,h5,h6,fun i q1 q2=>h7 i (by omega) q2⟩)
  rw[Qm (a:=A) (a':=A.put o.dst u) (ops:=ops.toArray) op (A0v h2) fun t ht=>?_]
  ·exact h3 w0
  ·cases hd:o.dst with
   |none=>rfl
   |some d=>
    rw[Fu,if_neg]
    rintro⟨rfl,_⟩
    exact h7 k (Nat.le_refl _) qc o _ (by simpa using ho) hd ht
theorem Ahq {E:Env} {ops:List Oper} {order:List Nat} {B k nx nx':Nat} {X:KS} {A:Act} {F F':Nat→Prop} {N N':Nm} {o o':AJ} {w w':World} (h:Rsv E ops order B k X A F N o w) (st:Step F N nx o w F' N' nx' o' w'):Rsv E ops order B k X A F' N' o' w':=by
 obtain⟨G,h1,h2⟩:=h
 refine⟨G,fun j v hj hx=>?_,h2⟩
 obtain⟨q1,q2⟩:=h1 j v hj hx
 refine⟨Alo q1 fun b hb=>st.keep b (q2 b hb).2.1 (q2 b hb).2.2.2,fun b hb=>?_⟩
 obtain⟨h4,h5,h6,h7⟩:=q2 b hb
 refine⟨h4,Nat.lt_of_lt_of_le h5 st.size,fun hf=>?_,fun hf=>?_⟩
 ·rcases st.fnew b hf with q|q|q
  ·exact h6 q
  ·exact h7 q
  ·omega
 ·rcases st.foot b hf with q|q
  ·exact h7 q
  ·omega
theorem Adt {E:Env} {ops:List Oper} {order:List Nat} {B k:Nat} {X:KS} {A:Act} {F:Nat→Prop} {N:Nm} {o:AJ} {w:World} (h:Rsv E ops order B k X A F N o w) {op:Oper} (ho:ops[order.getD k 0]?=some op) (u:Value):Rsv E ops order B (k+1) X (A.put op.dst u) F N o w:=by
 obtain⟨G,h1,h2⟩:=h
 exact⟨G,fun j v hj hx=>⟨Auh (h1 j v (by omega) hx).1 (by omega) ho,(h1 j v (by omega) hx).2⟩,fun i j u v b hi hj=>h2 i j u v b (by omega) (by omega)⟩
theorem A8z {E:Env} {ops:List Oper} {order:List Nat} {B k:Nat} {X:KS} {A:Act} {F:Nat→Prop} {N:Nm} {o:AJ} {w w':World} (h:Rsv E ops order B k X A F N o w) (hb:Below w.heap.size w w'):Rsv E ops order B k X A F N o w':=
 Ahq h (nx:=0) (nx':=0) (Step.of_below hb)
theorem A9w (h:Rel Z F N s a R) {G:Nat→Prop} {N0:Nm} {x:A} {v:Value} (hG:∀b,G b→Z.R.heap.size≤b∧b <R.heap.size∧¬F b∧¬EN N s.o b) (hx:Hv G N0 0 R x v) (hf:x.free=true):
  Rel Z (fun b=>F b∨G b) N s a R∧Hv (fun b=>F b∨G b) N s.nx R x v:=by
 have hw:Ext F N s.nx R (fun b=>F b∨G b) N s.nx R:=Ext.wide fun g hg=> .inl hg
 have hw2:Ext G N0 0 R (fun b=>F b∨G b) N0 0 R:=Ext.wide fun g hg=> .inr hg
 refine⟨⟨h.defers,h.size,fun u y hu=>(h.slots u y hu).step hw,⟨fun g hg=>?_,fun i ob hi=>⟨(h.hp.ob i ob hi).1,(h.hp.ob i ob hi).2.step hw (h.hp.ob i ob hi).1 fun _ _=>rfl⟩,fun i ob g hi hg nu=>?_,h.hp.sep,h.hp.gl.step hw⟩,?_,h.tm⟩,(hx.step hw2).free hf⟩
 ·rcases hg with hg|hg
  ·exact h.hp.flt g hg
  ·exact(hG g hg).2.1
 ·rcases nu with nu|nu
  ·exact h.hp.ff i ob g hi hg nu
  ·exact(hG g nu).2.2.2 ⟨i,ob,hi,hg⟩
 ·have:=h.st
  refine⟨this.le,this.b,this.q,fun g hg=> .inl (this.f g hg),fun g hg=>?_,this.foot,this.os,this.tape,this.output,this.size,this.keep⟩
  rcases hg with hg|hg
  ·exact this.fnew g hg
  ·exact .inr (.inr (hG g hg).1)
theorem Bdw (h:Rel Z F N s a R) {e:TypeId} {z:Value} {g:Nat} (_hB:Z.R.heap.size≤g) (_hg:g <R.heap.size) (nF:¬F g) (nO:¬EN N s.o g) (hc:R.heap[g]?=some (.cells z.cells.toList.toArray e (0,0))):
  Rel Z F (N.setB s.nx g) ⟨s.n,s.nx+1,s.t,(s.nx,some (.box e (toL z.cells.toList)))::s.o⟩ a R∧Hv F (N.setB s.nx g) (s.nx+1) R (.own s.nx 0) (.pointer (some ⟨g,0,none⟩))∧∀g',EN (N.setB s.nx g) ((s.nx,some (.box e (toL z.cells.toList)))::s.o) g'→g'=g∨EN N s.o g':=by
 have hb:(N.setB s.nx g).b s.nx=g:=Cq _ _ _
 have ao:∀i,i <s.nx→(N.setB s.nx g).b i=N.b i:=fun i hi=>Dv _ _ (by omega)
 have st:Ext F N s.nx R F (N.setB s.nx g) (s.nx+1) R:=⟨Nat.le_succ _,ao,fun _ _=>rfl,fun _ h=>h,fun _ _=>rfl⟩
 have cases:∀{i ob},Aq i ((s.nx,some (Ob.box e (toL z.cells.toList)))::s.o)=some ob→(i=s.nx∧ob=.box e (toL z.cells.toList))∨(i <s.nx∧Aq i s.o=some ob):=fun {i ob} hl=>by
  rw[AI] at hl
  split at hl
  ·exact .inl ⟨‹_›,(Option.some.inj hl).symm⟩
  ·exact .inr ⟨(h.hp.ob i ob hl).1,hl⟩
 have au:∀{i ob g'},i <s.nx→(foot (N.setB s.nx g) i ob g'↔foot N i ob g'):=fun {i ob g'} hi=>DE st hi
 have fo:∀g',EN (N.setB s.nx g) ((s.nx,some (.box e (toL z.cells.toList)))::s.o) g'→g'=g∨EN N s.o g':=fun g' ⟨i,ob,hl,hf⟩=>by
  rcases cases hl with⟨rfl,rfl⟩|⟨hi,hl⟩
  ·exact .inl (by have:g'=(N.setB s.nx g).b s.nx:=hf;rw[this,hb])
  ·exact .inr ⟨i,ob,hl,(au hi).1 hf⟩
 have hp:Bi F (N.setB s.nx g) (s.nx+1) ((s.nx,some (.box e (toL z.cells.toList)))::s.o) R:=by
  refine⟨h.hp.flt,fun i ob hl=>?_,fun i ob g' hl hf=>?_,fun i j x y g' hi hj hx hy=>?_,h.hp.gl⟩
  ·rcases cases hl with⟨rfl,rfl⟩|⟨hi,hl⟩
   ·refine⟨Nat.lt_succ_self _,z.cells.toList,HL.toL _,?_⟩
    rw[hb]
    exact hc
   ·exact⟨by omega,(h.hp.ob i ob hl).2.step st hi fun _ _=>rfl⟩
  ·rcases cases hl with⟨rfl,rfl⟩|⟨hi,hl⟩
   ·have:g'=(N.setB s.nx g).b s.nx:=hf
    rw[this,hb]
    exact nF
   ·exact h.hp.ff i ob g' hl ((au hi).1 hf)
  ·rcases cases hi with⟨rfl,rfl⟩|⟨oa,jq⟩
   ·rcases cases hj with⟨rfl,rfl⟩|⟨ke,kf⟩
    ·rfl
    ·have:g'=(N.setB s.nx g).b s.nx:=hx
     rw[hb] at this
     subst this
     exact absurd ⟨j,y,kf,(au ke).1 hy⟩ nO
   ·rcases cases hj with⟨rfl,rfl⟩|⟨ke,kf⟩
    ·have:g'=(N.setB s.nx g).b s.nx:=hy
     rw[hb] at this
     subst this
     exact absurd ⟨i,x,jq,(au oa).1 hx⟩ nO
    ·exact h.hp.sep i j x y g' jq kf ((au oa).1 hx) ((au ke).1 hy)
 refine⟨⟨h.defers,h.size,fun u x hu=>(h.slots u x hu).step st,hp,?_,h.tm⟩,?_,fo⟩
 ·have:=h.st
  refine⟨Nat.le_trans this.le (Nat.le_succ _),fun i hi=>by rw[ao i (Nat.lt_of_lt_of_le hi this.le)];exact this.b i hi,fun i hi=>this.q i hi,this.f,this.fnew,fun g' hf=>?_,this.os,this.tape,this.output,this.size,this.keep⟩
  rcases fo g' hf with q|q
  ·exact .inr (by omega)
  ·exact this.foot g' q
 ·have:(⟨g,0,none⟩:Addr)=⟨(N.setB s.nx g).b s.nx,0,none⟩:=by rw[hb]
  rw[this]
  exact .own (Nat.lt_succ_self _)
def Nm.both (N:Nm) (i g:Nat) (v:Value):Nm:=⟨HN N.b i g,HN N.q i v⟩
theorem WH {F:Nat→Prop} {N:Nm} {nx g:Nat} {v:Value} {R:World}:Ext F N nx R F (N.both nx g v) (nx+1) R:=
 ⟨Nat.le_succ _,fun i hi=>Dv _ _ (by omega),fun i hi=>Dv _ _ (by omega),fun _ h=>h,fun _ _=>rfl⟩
theorem Big (h:Rel Z F N s a R) {ob:Ob} {g:Nat} {v:Value} (_hB:Z.R.heap.size≤g) (nF:¬F g) (nO:¬EN N s.o g) (fh:To F (N.both s.nx g v) (s.nx+1) R s.nx ob) (qb:∀b,foot (N.both s.nx g v) s.nx ob b→b=g):
  Rel Z F (N.both s.nx g v) ⟨s.n,s.nx+1,s.t,(s.nx,some ob)::s.o⟩ a R∧∀g',EN (N.both s.nx g v) ((s.nx,some ob)::s.o) g'→g'=g∨EN N s.o g':=by
 have st:Ext F N s.nx R F (N.both s.nx g v) (s.nx+1) R:=WH
 have cases:∀{i o1},Aq i ((s.nx,some ob)::s.o)=some o1→(i=s.nx∧o1=ob)∨(i <s.nx∧Aq i s.o=some o1):=fun {i o1} hl=>by
  rw[AI] at hl
  split at hl
  ·exact .inl ⟨‹_›,(Option.some.inj hl).symm⟩
  ·exact .inr ⟨(h.hp.ob i o1 hl).1,hl⟩
 have au:∀{i o1 g'},i <s.nx→(foot (N.both s.nx g v) i o1 g'↔foot N i o1 g'):=fun {i o1 g'} hi=>DE st hi
 have fo:∀g',EN (N.both s.nx g v) ((s.nx,some ob)::s.o) g'→g'=g∨EN N s.o g':=fun g' ⟨i,o1,hl,hf⟩=>by
  rcases cases hl with⟨rfl,rfl⟩|⟨hi,hl⟩
  ·exact .inl (qb g' hf)
  ·exact .inr ⟨i,o1,hl,(au hi).1 hf⟩
 have hp:Bi F (N.both s.nx g v) (s.nx+1) ((s.nx,some ob)::s.o) R:=by
  refine⟨h.hp.flt,fun i o1 hl=>?_,fun i o1 g' hl hf=>?_,fun i j x y g' hi hj hx hy=>?_,h.hp.gl⟩
  ·rcases cases hl with⟨rfl,rfl⟩|⟨hi,hl⟩
   ·exact⟨Nat.lt_succ_self _,fh⟩
   ·exact⟨by omega,(h.hp.ob i o1 hl).2.step st hi fun _ _=>rfl⟩
  ·rcases cases hl with⟨rfl,rfl⟩|⟨hi,hl⟩
   ·rw[qb g' hf]
    exact nF
   ·exact h.hp.ff i o1 g' hl ((au hi).1 hf)
  ·rcases cases hi with⟨rfl,rfl⟩|⟨oa,jq⟩
   ·rcases cases hj with⟨rfl,rfl⟩|⟨ke,kf⟩
    ·rfl
    ·have:=qb g' hx
     subst this
     exact absurd ⟨j,y,kf,(au ke).1 hy⟩ nO
   ·rcases cases hj with⟨rfl,rfl⟩|⟨ke,kf⟩
    ·have:=qb g' hy
     subst this
     exact absurd ⟨i,x,jq,(au oa).1 hx⟩ nO
    ·exact h.hp.sep i j x y g' jq kf ((au oa).1 hx) ((au ke).1 hy)
 refine⟨⟨h.defers,h.size,fun u x hu=>(h.slots u x hu).step st,hp,?_,h.tm⟩,fo⟩
 have:=h.st
 refine⟨Nat.le_trans this.le (Nat.le_succ _),fun i hi=>by rw[st.b i (Nat.lt_of_lt_of_le hi this.le)];exact this.b i hi,fun i hi=>by rw[st.q i (Nat.lt_of_lt_of_le hi this.le)];exact this.q i hi,this.f,this.fnew,fun g' hf=>?_,this.os,this.tape,this.output,this.size,this.keep⟩
 rcases fo g' hf with q|q
 ·exact .inr (by omega)
 ·exact this.foot g' q
theorem Bfk (h:Rel Z F N s a R) {o:Oper} {f:OY} (he:mkE E s o=some f):∃C ob x,f=⟨x,s.nx+1,(s.nx,some ob)::s.o,1,[]⟩∧(∀w,(execOp a.eval o).run E.P w=.ok (.value (mkV o.op w.heap.size)) (w.alloc C))∧
  ∀g,R.heap[g]?=some C→To F (N.both s.nx g (mkV o.op g)) (s.nx+1) R s.nx ob∧Hv F (N.both s.nx g (mkV o.op g)) (s.nx+1) R x (mkV o.op g)∧∀b,foot (N.both s.nx g (mkV o.op g)) s.nx ob b→b=g:=by
 obtain⟨dst,op,type,pos,after,guard⟩:=o
 unfold mkE at he
 simp only at he
 have hb:∀g v,(N.both s.nx g v).b s.nx=g:=fun g v=>Cq _ _ _
 have hq:∀g v,(N.both s.nx g v).q s.nx=v:=fun g v=>Cq _ _ _
 split at he<;>try (cases he;done)
 ·rename_i t len parts
  cases h0:Nat.beq len 0 with
  |true=>rw[h0] at he;cases he
  |false=>
  rw[h0,cond_false] at he
  unfold O3 at he
  split at he<;>try (cases he;done)
  rename_i e hu
  split at he<;>try (cases he;done)
  rename_i i hi
  split at he<;>try (cases he;done)
  rename_i z hz
  split at he<;>try (cases he;done)
  rename_i ps eu
  cases h1:Nat.ble (len*i.size) 16777216 with
  |false=>rw[h1] at he;cases he
  |true=>
  cases h2:Nat.beq z.cells.size i.size with
  |false=>rw[h1,h2] at he;cases he
  |true=>
  cases h3:Nat.ble 1 i.size with
  |false=>rw[h1,h2,h3] at he;cases he
  | true=>
   rw[h1,h2,h3] at he
   simp only[cond_true] at he
   split at he<;>try (cases he;done)
   rename_i cs ca
   cases h4:Mj s.o (.lst (HR i.size len cs)) with
   |false=>rw[h4] at he;cases he
   | true=>
    rw[h4,h0] at he
    cases he
    have g1:=Nat.le_of_ble_eq_true h1
    have g2:=Nat.eq_of_beq_eq_true h2
    have g3:0 <i.size:=Nat.le_of_ble_eq_true h3
    have cr:=Zk (E:=E) h (Ep _) eu
    have my:HL F N s.nx R (A30 (toL z.cells.toList) len) (madeCells z.cells (len*i.size)).toList:=by
     rw[←g2,Ou]
     exact Ao2 (HL.toL _) len
    obtain⟨arr,q1,q2⟩:=RY ca cr my
    have hl:(parts.map fun(i,x)=>(i,a.eval x))=(parts.toList.map fun(i,x)=>(i,a.eval x)).toArray:=by rw[←Array.toList_map,Array.toArray_toList]
    have d7:arr.size=len*i.size:=by rw[YQ q1,size_madeCells]
    have hn:(EC.lst (HR i.size len cs)).n=len:=KF _ _ _
    have jh:len≤maxLen:=by
     have h5:len≤len*i.size:=Nat.le_mul_of_pos_right _ g3
     have jh:maxLen=9223372036854775807:=rfl
     omega
    refine⟨.cells arr e (0,0),.arr e i.size (.lst (HR i.size len cs)),.sq s.nx,rfl,fun w=>?_,fun g hg=>⟨⟨arr.toList,?_,fun k hk=>?_⟩,?_,fun b hf=>?_⟩⟩
    ·have ah:=Abl hu hi hz g1 q1 w
     rw[←hl] at ah
     exact FR ah
    ·rw[hq,hn]
     exact SA (by rw[Array.length_toList,d7]) d7 jh (Nat.le_refl _) (List.take_of_length_le (by rw[Array.length_toList,d7];exact Nat.le_refl _)) hg
    ·rw[hn] at hk
     show HL F _ _ R (HY (HR i.size len cs) k) _
     rw[Vs _ _ _ _ hk]
     exact((q2.step WH).drop _).take _
    ·have:Hv F (N.both s.nx g (mkV (.buildSlice t len parts) g)) (s.nx+1) R (.sq s.nx) ((N.both s.nx g (mkV (.buildSlice t len parts) g)).q s.nx):=.sq (Nat.lt_succ_self _)
     rw[hq] at this
     exact this
    ·have eo:FA ((N.both s.nx g (mkV (.buildSlice t len parts) g)).q s.nx)=some b:=hf
     rw[hq] at eo
     unfold mkV at eo
     cases len with
     |zero=>cases eo
     |succ n=>cases eo;rfl
 ·rename_i e v
  unfold A5i at he
  split at he<;>try (cases he;done)
  rename_i x hx
  split at he
  rotate_left
  ·split at he<;>try (cases he;done)
   rename_i xs hr
   cases he
   have hc:=Aua hr (Bs h (Ep _) hx).2
   refine⟨.cells (a.eval v).cells.toList.toArray e (0,0),.rcd e xs,.own s.nx 0,rfl,fun w=>FR TP,fun g hg=>⟨⟨_,hc.step WH,?_⟩,?_,fun b hf=>?_⟩⟩
   ·rw[hb];exact hg
   ·have:Hv F (N.both s.nx g (.pointer (some ⟨g,0,none⟩))) (s.nx+1) R (.own s.nx 0) (.pointer (some ⟨(N.both s.nx g (.pointer (some ⟨g,0,none⟩))).b s.nx,0,none⟩)):=.own (Nat.lt_succ_self _)
    rw[hb] at this
    exact this
   ·have eo:b=(N.both s.nx g (mkV (.box e v) g)).b s.nx:=hf
    rw[hb] at eo
    exact eo
  rename_i us ew
  cases hs:Lz s.o us with
  |false=>rw[hs] at he;cases he
  | true=>
   rw[hs] at he
   cases he
   have hc:=O5 h.hp ew hs (Bs h (Ep _) hx).2
   refine⟨.cells (a.eval v).cells.toList.toArray e (0,0),.box e us,.own s.nx 0,rfl,fun w=>FR TP,fun g hg=>⟨⟨_,hc.step WH,?_⟩,?_,fun b hf=>?_⟩⟩
   ·rw[hb];exact hg
   ·have:Hv F (N.both s.nx g (.pointer (some ⟨g,0,none⟩))) (s.nx+1) R (.own s.nx 0) (.pointer (some ⟨(N.both s.nx g (.pointer (some ⟨g,0,none⟩))).b s.nx,0,none⟩)):=.own (Nat.lt_succ_self _)
    rw[hb] at this
    exact this
   ·have eo:b=(N.both s.nx g (mkV (.box e v) g)).b s.nx:=hf
    rw[hb] at eo
    exact eo
theorem Bfl {o:Oper} {f:OY} (he:mkE E s o=some f):opE E s [] o=some f∧o.guard=none∧Af9 o.op=true∧mkB o=true:=by
 obtain⟨dst,op,type,pos,after,guard⟩:=o
 unfold mkE at he
 simp only at he
 split at he<;>first|(cases he;done)|exact⟨he,rfl,rfl,rfl⟩|exact⟨Ad3 he,rfl,rfl,rfl⟩
theorem Bci {ops:List Oper} {o:Oper} {f:OY} (he:mkE E s o=some f) (hp:isS (QI s o.dst f)=true):∃s',QI s o.dst f=some s'∧∀{l:List DH},Li E ops s o=some l→∀K:St→Prop,K s'→onL l K:=by
 obtain⟨h1,h2,h3,_⟩:=Bfl he
 cases hs:QI s o.dst f with
 |none=>rw[hs] at hp;cases hp
 | some s'=>
  refine⟨s',rfl,fun {l} hl K hK=>?_⟩
  have e2:UP E ops s o=none:=by
   unfold UP
   rw[h2]
   simp only
   unfold QJ
   rw[h3]
   rfl
  have e3:∃k ps,Ll E ops s o=some [(none,k,s',ps)]:=by
   unfold Ll
   rw[h2]
   simp only
   unfold doE
   rw[h1]
   simp only
   rw[hs]
   exact⟨_,_,rfl⟩
  obtain⟨k,ps,e3⟩:=e3
  have e4:J2 E ops s o=some (Ab2 [(none,k,s',ps)]):=by
   unfold J2
   rw[e2]
   simp only
   unfold U0
   rw[e3]
  unfold Li at hl
  rw[e4] at hl
  cases hl
  exact RI (.inl ⟨rfl,hK⟩)
theorem A02 {l:List DL} {s0:St} {p:St→Bool} (h:RC l (fun x=>x=s0)) (ha:(l.all fun cs=>p cs.2)=true):p s0=true:=by
 induction l with
 |nil=>exact h.elim
 |cons x r ih=>
  obtain⟨c,s⟩:=x
  rw[List.all_cons,Bool.and_eq_true] at ha
  rcases h with⟨_,rfl⟩|⟨_,h⟩
  ·exact ha.1
  ·exact ih h ha.2
theorem Agz {K:St→Prop}:∀{l:List DL},RC l K→∃s0,K s0∧RC l (fun x=>x=s0)
 | [],h=>h.elim
 | (c,s)::r,h=>by
  rcases h with⟨h1,h2⟩|⟨h1,h2⟩
  ·exact⟨s,h2,.inl ⟨h1,rfl⟩⟩
  ·obtain⟨s0,h3,h4⟩:=Agz h2
   exact⟨s0,h3,.inr ⟨h1,h4⟩⟩
theorem NL {ops:List Oper} {o:Oper} {s0:St}:∀{l l':List DL} {k:Nat} {qs:List Prop},JR E ops o l=some (k,l',qs)→RC l (fun x=>x=s0)→∃l1,Li E ops s0 o=some l1∧∀K,onL l1 K→RC l' K
 | [],_,_,_,_,h=>h.elim
 | (c,s)::r,l',k,qs,he,h=>by
  unfold JR at he
  split at he<;>try (cases he;done)
  rename_i l1 h1
  split at he<;>try (cases he;done)
  rename_i k' r' pf h2
  cases he
  rcases h with⟨hc,rfl⟩|⟨hc,h⟩
  ·exact⟨l1,h1,fun K hK=>PE hc hK⟩
  ·obtain⟨l2,h3,h4⟩:=NL h2 h
   exact⟨l2,h3,fun K hK=>PF hc (h4 K hK)⟩
theorem A2p {o:Oper} (h:Aer E.P o=true):∃e z,o.op=.alloc e∧o.guard=none∧(E.P.info? e).bind (·.zero)=some z:=by
 unfold Aer at h
 split at h
 ·rename_i e h1 h2
  split at h
  ·rename_i z hz
   exact⟨e,z,h1,h2,hz⟩
  ·cases h
 ·cases h
theorem Aes {o:Oper} (h:YK E o=true):(∃e z,o.op=.alloc e∧o.guard=none∧(E.P.info? e).bind (·.zero)=some z)∨∃g x args ts,o.op=.call {callee:=.value (.func g),args:=args,argTypes:=ts}∧o.guard=none∧JO E (.func g) args.toList=some (g,x):=by
 unfold YK at h
 cases h0:Aer E.P o with
 |true=>exact .inl (A2p h0)
 |false=>
  rw[h0,cond_false] at h
  split at h<;>try (cases h;done)
  rename_i f args ts h1 h2
  split at h<;>try (cases h;done)
  rename_i y hy
  obtain⟨g,x⟩:=y
  obtain⟨rfl,_⟩:=LY hy
  exact .inr ⟨g,x,args,ts,h1,h2,hy⟩
theorem Ara {ops:List Oper} {o:Oper} {g:FuncId} {x:A} {args:Array Operand} {ts:Array TypeId} (ho:o.op=.call {callee:=.value (.func g),args:=args,argTypes:=ts}) (hg:o.guard=none) (hc:JO E (.func g) args.toList=some (g,x)) {l:List DH} (he:Li E ops s o=some l):
  ∃s',QI s o.dst ⟨x,s.nx,s.o,1,[]⟩=some s'∧∀K:St→Prop,K s'→onL l K:=by
 obtain⟨dst,op,type,pos,after,guard⟩:=o
 simp only at ho hg
 subst ho hg
 have e1:opE E s [] ⟨dst,.call {callee:=.value (.func g),args:=args,argTypes:=ts},type,pos,after,none⟩=some ⟨x,s.nx,s.o,1,[]⟩:=by
  show(match Akk E s [] (.func g) args.toList with
   |some (x,ps)=>some (OY.mk x s.nx s.o 0 ps)
   |none=>Tr E s [] (.func g) args.toList)=_
  unfold Akk Tr
  rw[hc]
 have e2:UP E ops s ⟨dst,.call {callee:=.value (.func g),args:=args,argTypes:=ts},type,pos,after,none⟩=none:=by
  have:QJ E s [] ⟨dst,.call {callee:=.value (.func g),args:=args,argTypes:=ts},type,pos,after,none⟩=none:=by
   show Akk E s [] (.func g) args.toList=_
   unfold Akk
   rw[hc]
  unfold UP
  simp only
  rw[this]
 have nh:A5k s ⟨dst,.call {callee:=.value (.func g),args:=args,argTypes:=ts},type,pos,after,none⟩=[]:=by
  obtain⟨_,ha,_⟩:=LY hc
  unfold A5k
  simp only
  rw[ha]
  rfl
 cases hp:QI s dst ⟨x,s.nx,s.o,1,[]⟩ with
 | none=>
  have e3:Ll E ops s ⟨dst,.call {callee:=.value (.func g),args:=args,argTypes:=ts},type,pos,after,none⟩=none:=by
   unfold Ll doE
   simp only
   rw[e1]
   simp only
   rw[hp]
  have e4:J2 E ops s ⟨dst,.call {callee:=.value (.func g),args:=args,argTypes:=ts},type,pos,after,none⟩=none:=by
   unfold J2
   rw[e2]
   simp only
   unfold U0
   rw[e3,nh]
   rfl
  unfold Li at he
  rw[e4] at he
  cases he
 | some s'=>
  have e3:Ll E ops s ⟨dst,.call {callee:=.value (.func g),args:=args,argTypes:=ts},type,pos,after,none⟩=some [(none,1,s',[])]:=by
   unfold Ll doE
   simp only
   rw[e1]
   simp only
   rw[hp]
   rfl
  have e4:J2 E ops s ⟨dst,.call {callee:=.value (.func g),args:=args,argTypes:=ts},type,pos,after,none⟩=some (Ab2 [(none,1,s',[])]):=by
   unfold J2
   rw[e2]
   simp only
   unfold U0
   rw[e3]
  unfold Li at he
  rw[e4] at he
  cases he
  exact⟨s',rfl,fun K hK=> .inl ⟨rfl,hK⟩⟩
theorem Awk {ops:List Oper} {o:Oper} {e:TypeId} {z:Value} (ho:o.op=.alloc e) (hg:o.guard=none) (hz:(E.P.info? e).bind (·.zero)=some z) {l:List DH} (he:Li E ops s o=some l):
  ∃s',QI s o.dst ⟨.own s.nx 0,s.nx+1,(s.nx,some (.box e (toL z.cells.toList)))::s.o,1,[]⟩=some s'∧∀K:St→Prop,K s'→onL l K:=by
 obtain⟨dst,op,type,pos,after,guard⟩:=o
 simp only at ho hg
 subst ho hg
 have e1:opE E s [] ⟨dst,.alloc e,type,pos,after,none⟩=some ⟨.own s.nx 0,s.nx+1,(s.nx,some (.box e (toL z.cells.toList)))::s.o,1,[]⟩:=by
  show Ad1 E s e=_
  unfold Ad1
  rw[hz]
 have e2:UP E ops s ⟨dst,.alloc e,type,pos,after,none⟩=none:=rfl
 cases hp:QI s dst ⟨.own s.nx 0,s.nx+1,(s.nx,some (.box e (toL z.cells.toList)))::s.o,1,[]⟩ with
 | none=>
  have e3:Ll E ops s ⟨dst,.alloc e,type,pos,after,none⟩=none:=by
   unfold Ll doE
   simp only
   rw[e1]
   simp only
   rw[hp]
  have e4:J2 E ops s ⟨dst,.alloc e,type,pos,after,none⟩=none:=by
   unfold J2
   rw[e2]
   simp only
   unfold U0
   rw[e3]
   rfl
  unfold Li at he
  rw[e4] at he
  cases he
 | some s'=>
  have e3:Ll E ops s ⟨dst,.alloc e,type,pos,after,none⟩=some [(none,1,s',[])]:=by
   unfold Ll doE
   simp only
   rw[e1]
   simp only
   rw[hp]
   rfl
  have e4:J2 E ops s ⟨dst,.alloc e,type,pos,after,none⟩=some (Ab2 [(none,1,s',[])]):=by
   unfold J2
   rw[e2]
   simp only
   unfold U0
   rw[e3]
  unfold Li at he
  rw[e4] at he
  cases he
  exact⟨s',rfl,fun K hK=>RI (.inl ⟨rfl,hK⟩)⟩
theorem A2z {o:Oper} {l:List DL} (h:∀s,A6s E o s=none):Aiw E o l=none:=by
 unfold Aiw
 split
 ·rw[h]
 ·rfl
theorem Wq {fr:Bool} {ops:List Oper} {o:Oper} {l l':List DL} {n:Nat} {qs:List Prop} {q:Prop} (h:YK E o=true∨(mkB o=true∧q)) (he:Ade E fr ops o l=some (n,l',qs)):JR E ops o l=some (n,l',qs):=by
 have hn:∀s,A6s E o s=none:=fun s=>by
  unfold A6s
  split
  ·rename_i f args ts ho hg
   split
   ·rfl
   ·rename_i hc
    exfalso
    rcases h with h|⟨h,_⟩
    ·rcases Aes h with⟨e,z,a1,_⟩|⟨g,x,ck,zv,a1,a2,a3⟩
     ·rw[ho] at a1;cases a1
     ·rw[ho] at a1
      cases a1
      rw[a3] at hc
      cases hc
    ·unfold mkB at h
     rw[ho] at h
     cases h
  ·rfl
 unfold Ade at he
 split at he
 ·rw[A2z hn] at he;exact he
 ·exact he
theorem A3z (ok:EnvOk E) (h:Rel Z F N s a R) {id:Nat} {ops:List Oper} {draw:Bool} (hW:∀u,Ma u (L9 ops)=true→Z.W u) {s':St} {ps:List Prop} (he:evR E ops draw s=some (s',ps)) (hp:∀p∈ps,p) {Q:Exit→Act→World→Prop} (hk:∀F' N' a' R',Rel Z F' N' s' a' R'→Q .normal a' R'):Yl E.ir E.P (Code.region id ops.toArray draw) Q a R:=by
 have pw:RC [((none:DB),s)] (At (IM F N s a R (L9 ops)) a R):=.inl ⟨rfl,F,N,h.start _⟩
 have hsub:Ta s [((none:DB),s)]:=⟨Sub.refl _,trivial⟩
 have bm:∀o∈ops,∀d,o.dst=some d→(IM F N s a R (L9 ops)).W d:=fun o ho d hd=>Arr ho hd
 have MU:∀{l:List DL} {a' R'},Ta s l→RC l (At (IM F N s a R (L9 ops)) a' R')→s'=Sn (L9 ops) s l→Q .normal a' R':=fun {l a' R'} hs ho e=>by
  obtain⟨F',N',hr⟩:=Ak9 h hs ho
  subst e
  exact hk F' N' a' R' (h.over hr hW)
 cases draw with
 |false=>
  unfold evR at he
  simp only at he
  split at he<;>try (cases he;done)
  rename_i l dg h1
  cases he
  exact Aih (A8a ok bm pw h1 hp fun a' R' ho=>MU (YO ok h1 hsub) ho rfl)
 | true =>
  have cg:∃fr order,evO E fr ops order s=some (s',ps):=by
   unfold evR at he
   simp only at he
   repeat' (split at he)
   all_goals first|exact⟨_,_,he⟩|(rename_i r hr;cases he;exact⟨_,_,hr⟩)
  clear he
  obtain⟨fr,order,he⟩:=cg
  unfold evO at he
  split at he<;>try (cases he;done)
  rename_i ks l dg h1
  cases hB':Amh ops.toArray order ks (YL E fr ops order [(none,s)]) (fun j k=>(A0x ops order j||Arc E fr ops order [(none,s)] j k)||(Arb E fr ops order [(none,s)] j k||Azi E fr ops order [(none,s)] j k))&&Bg5 ops.toArray order (YL E fr ops order [(none,s)]) with
  |false=>rw[hB'] at he;cases he
  | true =>
   rw[hB'] at he
   cases he
   obtain⟨hB,qx⟩:=Bool.and_eq_true_iff.1 hB'
   obtain⟨hc,hn,kp⟩:=A2e hB
   obtain⟨hF,jl⟩:=A6q h1
   let Z0:=IM F N s a R (L9 ops)
   have vb:∀{F1 N1 s0 A w F2 N2 s1 A2 w2},Rel Z0 F1 N1 s0 A w→Rel (IM F1 N1 s0 A w (L9 ops)) F2 N2 s1 A2 w2→Rel Z0 F2 N2 s1 A2 w2:=fun h1 h2=>h1.over h2 fun _ hu=>hu
   have da:∀{k o},YL E fr ops order [(none,s)] k=true→ops[order.getD k 0]?=some o→YK E o=true∨(mkB o=true∧Bcy E fr ops order [(none,s)] k o=true):=fun {k o} h1 h2=>by
    unfold YL at h1
    rw[h2] at h1
    simp only at h1
    cases h3:YK E o with
    |true=>exact .inl rfl
    |false=>
     rw[h3,cond_false] at h1
     cases h4:mkB o with
     |true=>rw[h4] at h1;exact .inr ⟨rfl,h1⟩
     |false=>rw[h4] at h1;cases h1
   refine Bac (S:=fun k X A w=>∃l1,stK E fr ops order [((none:DB),s)] k=some l1∧∃s0 F1 N1,Rel Z0 F1 N1 s0 A w∧Rsv E ops order Z0.R.heap.size k X A F1 N1 s0.o w∧RC l1 (fun x=>x=s0)) ok.wide hc ?_ ?_ (fun j k o o' d q1 q2 q3 q4 q5 q6=>Bbn qx j k o o' d q1 q2 q3 q4 q5 q6) ?_ ?_ (fun k X A w w' ⟨l1,g1,s0,F1,N1,g2,g3,g4⟩ hb=>⟨l1,g1,s0,F1,N1,g2.grow hb,A8z g3 hb,g4⟩) ⟨_,Ahw,s,F,N,h.start _,⟨fun _ _=>False,fun j v _ hx=>(by cases hx),fun i j u v b _ _ hx=>(by cases hx)⟩,.inl ⟨rfl,rfl⟩⟩ (fun X A w' ⟨l1,g1,s0,F1,N1,g2,g3,g4⟩=>?_)
   ·intro k X A w ai hM ⟨l0,g1,s0,F1,N1,g2,g3,g4⟩ o ho
    obtain⟨l1,o1,l2,ez,e1,e2,e4,e5,e6⟩:=jl k ai
    have ho':ops[order.getD k 0]?=some o:=by simpa using ho
    have:o1=o:=Option.some.inj (e1.symm.trans ho')
    subst this
    obtain rfl:l1=l0:=Option.some.inj (e2.symm.trans g1)
    have bu:ks.getD k 0=0:=by
     have uj:Nat.blt 0 (ks.getD k 0)=false:=hM
     cases hz:ks.getD k 0 with
     |zero=>rfl
     |succ m=>rw[hz] at uj;cases uj
    rw[bu] at e4
    obtain⟨v,r1,r2⟩:=Ayt (Z:=IM F1 N1 s0 A w (L9 ops)) ok (bm o1 (List.mem_of_getElem? ho')) e4 (fun p hm=>hp p (e5 p hm)) (Sz (fun x hx=>by subst hx;exact⟨F1,N1,g2.start _⟩) g4)
    obtain⟨s1,⟨F2,N2,q1⟩,q2⟩:=Agz r1
    exact⟨v,⟨l2,e6,s1,F2,N2,vb g2 q1,Ahq (Adt g3 ho' v) q1.st,q2⟩,r2⟩
   ·intro k X A w v ai hE hX ⟨l0,g1,s0,F1,N1,g2,g3,g4⟩ o ho
    obtain⟨l1,o1,l2,ez,e1,e2,e4,e5,e6⟩:=jl k ai
    have ho':ops[order.getD k 0]?=some o:=by simpa using ho
    have:o1=o:=Option.some.inj (e1.symm.trans ho')
    subst this
    obtain rfl:l1=l0:=Option.some.inj (e2.symm.trans g1)
    obtain⟨G,gA,gB⟩:=g3
    obtain⟨b0,b5⟩:=gA k v (Nat.le_refl _) hX
    have rest:∀{F2:Nat→Prop} {N2:Nm} {o2:AJ},(∀b,F2 b→F1 b∨G k b)→(∀b,EN N2 o2 b→EN N1 s0.o b∨G k b)→Rsv E ops order Z0.R.heap.size (k+1) X (A.put o1.dst v) F2 N2 o2 w:=fun {F2 N2 o2} q1 q2=>by
     refine⟨G,fun j v' hj hx=>?_,fun i j u v' b hi hj=>gB i j u v' b (by omega) (by omega)⟩
     obtain⟨r1,r2⟩:=gA j v' (by omega) hx
     refine⟨Auh r1 (by omega) ho',fun b hb=>?_⟩
     obtain⟨t1,t2,t3,t4⟩:=r2 b hb
     have ao:¬G k b:=fun hk=>by
      have:=gB k j _ _ b (Nat.le_refl _) (by omega) hX hx hk hb
      omega
     exact⟨t1,t2,fun hf=>(q1 b hf).elim t3 ao,fun hf=>(q2 b hf).elim t4 ao⟩
    rcases da hE ho' with f9|⟨f9,ml⟩
    rcases Aes f9 with⟨e,z,a1,a2,a3⟩|⟨f,x,args,ts,a1,a2,a3⟩
    ·rcases b0 with⟨g,e',z',b1,⟨op,b2,b3⟩,b4,b6,b9⟩|⟨_,_,_,_,_,⟨op,b2,b3⟩,_⟩|⟨_,_,op,b2,b3,_⟩
     ·have:op=o1:=Option.some.inj (b2.symm.trans ho')
      subst this
      rw[a1] at b3
      cases b3
      obtain rfl:z'=z:=Option.some.inj (b4.symm.trans a3)
      obtain⟨l3,c1,c2⟩:=NL (Wq (da hE ho') e4) g4
      obtain⟨s1,c3,c4⟩:=Awk a1 a2 a3 c1
      obtain⟨t1,t2,t3,t4⟩:=b5 g ((b6 g).2 rfl)
      obtain⟨d1,d2,d3⟩:=Bdw g2 t1 t2 t3 t4 b9
      subst b1
      have hrel:Rel Z0 F1 (N1.setB s0.nx g) s1 (A.put op.dst (.pointer (some ⟨g,0,none⟩))) w∧s1.o=(s0.nx,some (.box e (toL z'.cells.toList)))::s0.o:=by
       unfold QI at c3
       split at c3
       ·rename_i d hd
        cases hb:Nat.blt d s0.n with
        |false=>rw[hb] at c3;cases c3
        |true=>
         rw[hb] at c3
         cases c3
         rw[hd]
         exact⟨d1.put (x:=.own s0.nx 0) (Nat.le_of_ble_eq_true hb) (bm op (List.mem_of_getElem? ho') d hd) _ ((Af rfl).2 d2),rfl⟩
       ·rename_i hd
        cases c3
        rw[hd]
        exact⟨d1,rfl⟩
      refine⟨l2,e6,s1,F1,N1.setB s0.nx g,hrel.1,rest (fun b hb=> .inl hb) (fun b hb=>?_),c2 _ (c4 (fun x=>x=s1) rfl)⟩
      rw[hrel.2] at hb
      rcases d3 b hb with q|q
      ·exact .inr ((b6 b).2 q)
      ·exact .inl q
     ·have:op=o1:=Option.some.inj (b2.symm.trans ho')
      subst this
      rw[a1] at b3
      cases b3
     ·have:op=o1:=Option.some.inj (b2.symm.trans ho')
      subst this
      unfold mkB at b3
      rw[a1] at b3
      cases b3
    ·rcases b0 with⟨g,e',z',b1,⟨op,b2,b3⟩,b4,b6,b9⟩|⟨f',x',ck,zv,N0,⟨op,b2,b3⟩,b4,b6⟩|⟨_,_,op,b2,b3,_⟩
     ·have:op=o1:=Option.some.inj (b2.symm.trans ho')
      subst this
      rw[a1] at b3
      cases b3
     ·have:op=o1:=Option.some.inj (b2.symm.trans ho')
      subst this
      rw[a1] at b3
      cases b3
      obtain rfl:x'=x:=congrArg Prod.snd (Option.some.inj (b4.symm.trans a3))
      obtain⟨l3,c1,c2⟩:=NL (Wq (da hE ho') e4) g4
      obtain⟨s1,c3,c4⟩:=Ara a1 a2 a3 c1
      obtain⟨_,_,_,kb,_⟩:=LY a3
      obtain⟨d1,d2⟩:=A9w g2 b5 b6 kb
      have hrel:Rel Z0 (fun b=>F1 b∨G k b) N1 s1 (A.put op.dst v) w∧s1.o=s0.o:=by
       unfold QI at c3
       split at c3
       ·rename_i d hd
        cases hb:Nat.blt d s0.n with
        |false=>rw[hb] at c3;cases c3
        |true=>
         rw[hb] at c3
         cases c3
         rw[hd]
         exact⟨d1.put (x:=x') (Nat.le_of_ble_eq_true hb) (bm op (List.mem_of_getElem? ho') d hd) _ ((Af d2.isPlain).2 d2),rfl⟩
       ·rename_i hd
        cases c3
        rw[hd]
        exact⟨d1,rfl⟩
      refine⟨l2,e6,s1,_,N1,hrel.1,rest (fun b hb=>hb) (fun b hb=>?_),c2 _ (c4 (fun x=>x=s1) rfl)⟩
      rw[hrel.2] at hb
      exact .inl hb
     ·have:op=o1:=Option.some.inj (b2.symm.trans ho')
      subst this
      unfold mkB at b3
      rw[a1] at b3
      cases b3
    ·-- what was made of values
     rcases b0 with⟨g,e',z',b1,⟨op,b2,b3⟩,b4,b6,b9⟩|⟨_,_,_,_,_,⟨op,b2,b3⟩,_⟩|⟨g,C,op,b2,b3,b4,b6,b7,b8,_⟩
     ·have:op=o1:=Option.some.inj (b2.symm.trans ho')
      subst this
      unfold mkB at f9
      rw[b3] at f9
      cases f9
     ·have:op=o1:=Option.some.inj (b2.symm.trans ho')
      subst this
      unfold mkB at f9
      rw[b3] at f9
      cases f9
     ·have:op=o1:=Option.some.inj (b2.symm.trans ho')
      subst this
      unfold Bcy at ml
      rw[g1] at ml
      have cq:Bk9 E op l1=true:=(Bool.and_eq_true_iff.1 ml).1
      have i6:=A02 (p:=fun s=>match mkE E s op with
       |some f=>isS (QI s op.dst f)
       |none=>false) g4 cq
      split at i6<;>first|(cases i6;done)|skip
      rename_i f hf
      obtain⟨s1,c3,c4⟩:=Bci (ops:=ops) hf i6
      obtain⟨l3,c1,c2⟩:=NL (Wq (da hE ho') e4) g4
      obtain⟨C',ob,x,rfl,m2,m3⟩:=Bfk g2 hf
      obtain rfl:C'=C:=by
       have h1:=m2 w
       rw[b4 w] at h1
       injection h1 with _ h1
       have h2:=congrArg World.heap h1
       have h3:w.heap.push C=w.heap.push C':=h2
       exact((Array.push_eq_push.1 h3).1).symm
      obtain⟨t1,t2,t3,t4⟩:=b5 g ((b7 g).2 rfl)
      obtain⟨m4,m5,m6⟩:=m3 g b8
      obtain⟨d1,d3⟩:=Big g2 t1 t3 t4 m4 m6
      subst b6
      have hrel:Rel Z0 F1 (N1.both s0.nx g (mkV op.op g)) s1 (A.put op.dst (mkV op.op g)) w∧s1.o=(s0.nx,some ob)::s0.o:=by
       unfold QI at c3
       split at c3
       ·rename_i d hd
        cases hb:Nat.blt d s0.n with
        |false=>rw[hb] at c3;cases c3
        |true=>
         rw[hb] at c3
         cases c3
         rw[hd]
         exact⟨d1.put (x:=x) (Nat.le_of_ble_eq_true hb) (bm op (List.mem_of_getElem? ho') d hd) _ ((Af m5.isPlain).2 m5),rfl⟩
       ·rename_i hd
        cases c3
        rw[hd]
        exact⟨d1,rfl⟩
      refine⟨l2,e6,s1,F1,_,hrel.1,rest (fun b hb=> .inl hb) (fun b hb=>?_),c2 _ (c4 c1 (fun x=>x=s1) rfl)⟩
      rw[hrel.2] at hb
      rcases d3 b hb with q|q
      ·exact .inr ((b7 b).2 q)
      ·exact .inl q
   ·intro p k X A w hpk ai hE ⟨l0,g1,s0,F1,N1,g2,g3,g4⟩ o ho hnw A' qt
    have ho':ops[order.getD k 0]?=some o:=by simpa using ho
    obtain⟨G,gA,gB⟩:=g3
    -- what is new lies behind all that was
    have more:∀{v:Value} {w':World} {H:Nat→Prop},Below w.heap.size w w'→A14 E ops order p A k v H w'→(∀b,H b→w.heap.size≤b∧b <w'.heap.size)→Rsv E ops order Z0.R.heap.size p (X.set k v) A F1 N1 s0.o w':=fun {v w' H} hb hK hH=>by
     refine⟨fun j b=>if j=k then H b else G j b,fun j v' hj hx=>?_,fun i j u v' b hi hj hx hy zq zr=>?_⟩
     ·by_cases ej:j=k
      ·subst ej
       have hx':some v=some v':=by
        unfold KS.set at hx
        rw[if_pos rfl] at hx
        exact hx
       cases hx'
       refine⟨by simp only[if_true];exact hK,fun b hb2=>?_⟩
       simp only[if_true] at hb2
       obtain⟨r1,r2⟩:=hH b hb2
       refine⟨Nat.le_trans g2.st.size r1,r2,fun hf=>?_,fun⟨i,ob,hl,hf⟩=>?_⟩
       ·have:=g2.hp.flt b hf
        omega
       ·have:=(g2.hp.ob i ob hl).2.lt hf
        omega
      ·unfold KS.set at hx
       rw[if_neg ej] at hx
       obtain⟨q1,q2⟩:=gA j v' hj hx
       simp only[if_neg ej]
       refine⟨Alo q1 fun b hb2=>hb.block b (q2 b hb2).2.1,fun b hb2=>?_⟩
       obtain⟨t1,t2,t3,t4⟩:=q2 b hb2
       exact⟨t1,Nat.lt_of_lt_of_le t2 hb.size,t3,t4⟩
     ·have p1:(if i=k then H b else G i b):=zq
      have p2:(if j=k then H b else G j b):=zr
      have qm:∀{i u},i≠k→p≤i→(X.set k v) i=some u→G i b→b <w.heap.size:=fun {i u} ao hi hx hg=>by
       unfold KS.set at hx
       rw[if_neg ao] at hx
       exact((gA i u hi hx).2 b hg).2.1
      by_cases ei:i=k
      ·by_cases ej:j=k
       ·rw[ei,ej]
       ·rw[if_pos ei] at p1
        rw[if_neg ej] at p2
        have:=(hH b p1).1
        have:=qm ej hj hy p2
        omega
      ·by_cases ej:j=k
       ·rw[if_neg ei] at p1
        rw[if_pos ej] at p2
        have:=(hH b p2).1
        have:=qm ei hi hx p1
        omega
       ·rw[if_neg ei] at p1
        rw[if_neg ej] at p2
        unfold KS.set at hx hy
        rw[if_neg ei] at hx
        rw[if_neg ej] at hy
        exact gB i j u v' b hi hj hx hy p1 p2
    rcases da hE ho' with f9|⟨f9,ml⟩
    rcases Aes f9 with⟨e,z,a1,a2,a3⟩|⟨f,x,args,ts,a1,a2,a3⟩
    ·refine⟨Ig a2 _,?_⟩
     have ah:(execOp A'.eval o).run E.P w=.ok (.value (.pointer (some ⟨w.heap.size,0,none⟩))) (w.alloc (.cells z.cells.toList.toArray e (0,0))):=by
      obtain⟨dst,op,type,pos,after,guard⟩:=o
      simp only at a1
      subst a1
      exact FR (Abk a3)
     rw[ah]
     have hb:Below w.heap.size w (w.alloc (.cells z.cells.toList.toArray e (0,0))):=KT _
     exact⟨hb,l0,g1,s0,F1,N1,g2.grow hb,more (H:=fun b=>b=w.heap.size) hb (.inl ⟨w.heap.size,e,z,rfl,⟨o,ho',a1⟩,a3,fun _=>Iff.rfl,heap_alloc_new w _⟩) (fun b e=>by rw[e];exact⟨Nat.le_refl _,by simp⟩),g4⟩
    ·refine⟨Ig a2 _,?_⟩
     obtain⟨_,ha,cp,kb,k1,fg,hC⟩:=LY a3
     rw[Aeh a1 ha cp A' w]
     refine(ok.C _ _ _ _ _ _ _ _ _ hC (Adj cp) (fun p hm=>by cases hm) (fun _=>False) N1 w [] ⟨fun _ h=>h.elim,fun i ob hi=>(by cases hi),fun i ob g hi=>(by cases hi),fun i j x y g hi=>(by cases hi),fun x hx=>(by rw[Av2 a3] at hx;cases hx)⟩ HL.nil).mono fun e R' ⟨y,F',N',e1,e2,e3,e4,e5⟩=>⟨y,e1,?_⟩
     have hb:=e5 fg
     exact⟨hb,l0,g1,s0,F1,N1,g2.grow hb,more hb (.inr (.inl ⟨f,x,args,ts,N',⟨o,ho',a1⟩,a3,e4⟩)) (fun b hb2=>⟨by
      rcases e3.fnew b hb2 with q|⟨i,ob,hi,_⟩|q
      ·exact q.elim
      ·cases hi
      ·exact q,e2.flt b hb2⟩),g4⟩
    ·have sf:A78 ops order p k o=true:=by
      unfold A78
      refine List.all_eq_true.2 fun i hi=>?_
      have bl:=List.mem_range.1 hi
      cases di:ops[order.getD (p+i) 0]? with
      |none=>rfl
      | some o'=>
       simp only
       cases hd:o'.dst with
       |none=>rfl
       |some d=>
        have:=hnw (p+i) (by omega) (by omega) o' d (by simpa using di) hd
        simp only[Bool.not_eq_true',List.contains_eq_mem]
        simpa using this
     unfold Bcy at ml
     have h7:=List.all_eq_true.1 (Bool.and_eq_true_iff.1 ml).2 p (List.mem_range.2 (by omega))
     rw[sf,g1,Bool.not_true,Bool.false_or] at h7
     have h8:=A02 (p:=fun s=>isS (mkE E s o)) g4 h7
     cases hf:mkE E s0 o with
     |none=>simp only[hf] at h8;cases h8
     |some f=>
      obtain⟨C,ob,x,_,m2,_⟩:=Bfk g2 hf
      obtain⟨_,n2,_,_⟩:=Bfl hf
      refine⟨Ig n2 _,?_⟩
      rw[Qm (a:=A) (a':=A') (ops:=ops.toArray) o (A0v f9) qt,m2 w]
      have hb:Below w.heap.size w (w.alloc C):=KT _
      exact⟨hb,l0,g1,s0,F1,N1,g2.grow hb,more (H:=fun b=>b=w.heap.size) hb (.inr (.inr ⟨w.heap.size,C,o,ho',f9,m2,rfl,fun _=>Iff.rfl,heap_alloc_new w _,hnw⟩)) (fun b e=>by rw[e];exact⟨Nat.le_refl _,by simp⟩),g4⟩
   ·intro k X A w ai hM hE ⟨l0,g1,s0,F1,N1,gr,gx,g4⟩ o ho
    have g2:RC l0 (At Z0 A w):=Sz (fun x hx=>by subst hx;exact⟨F1,N1,gr⟩) g4
    have eg:∀{l2:List DL} {A2 w2},Rsv E ops order Z0.R.heap.size (k+1) X A2 F1 N1 s0.o w→stK E fr ops order [((none:DB),s)] (k+1)=some l2→RC l2 (At (IM F1 N1 s0 A w (L9 ops)) A2 w2)→∃l1,stK E fr ops order [((none:DB),s)] (k+1)=some l1∧∃s0 F1 N1,Rel Z0 F1 N1 s0 A2 w2∧Rsv E ops order Z0.R.heap.size (k+1) X A2 F1 N1 s0.o w2∧RC l1 (fun x=>x=s0):=fun {l2 A2 w2} hx e6 r1=>by
     obtain⟨s1,⟨F2,N2,q1⟩,q2⟩:=Agz r1
     exact⟨l2,e6,s1,F2,N2,vb gr q1,Ahq hx q1.st,q2⟩
    obtain⟨l1,o1,l2,ez,e1,e2,e4,e5,e6⟩:=jl k ai
    have ho':ops[order.getD k 0]?=some o:=by simpa using ho
    have:o1=o:=Option.some.inj (e1.symm.trans ho')
    subst this
    obtain rfl:l1=l0:=Option.some.inj (e2.symm.trans g1)
    rcases Bd0 (Z:=IM F1 N1 s0 A w (L9 ops)) ok (bm o1 (List.mem_of_getElem? ho')) e4 (fun p hm=>hp p (e5 p hm)) (Sz (fun x hx=>by subst hx;exact⟨F1,N1,gr.start _⟩) g4) with⟨r1,r2⟩|⟨r1,r2⟩
    ·have rp:∀{j:Nat} {w':World},j <k→Arb E fr ops order [(none,s)] j k=true→Bai (IM F1 N1 s0 A w (L9 ops)) E fr o1 l1 A w w'→∀V,canA ops.toArray (fun k=>order.getD k 0) a V k=A→LP E.P ops.toArray (fun k=>order.getD k 0) a V w j→LP E.P ops.toArray (fun k=>order.getD k 0) a V w' j:=fun {j w'} hj h8 qf V hV bz=>by
      unfold Arb at h8
      split at h8<;>try (cases h8;done)
      rename_i oj o1' me hoj ho1 hl1
      obtain rfl:o1'=o1:=Option.some.inj (ho1.symm.trans ho')
      obtain rfl:me=l1:=Option.some.inj (hl1.symm.trans g1)
      split at h8<;>try (cases h8;done)
      rename_i c1 s1 i1 zt yh
      cases hcf:Bbv E oj s1 i1 with
      |false=>rw[hcf] at h8;cases h8
      | true=>
       rw[hcf] at h8
       simp only[cond_true] at h8
       obtain⟨c2,s2,F2,N2,ob,e,nk,i7,yy,bc,hkeep⟩:=qf rfl i1 zt yh
       cases e
       obtain⟨t,x,y,d1,d5,d6⟩:=Bhc i7 hcf yy
       rw[d1] at h8
       cases x<;>try (cases h8;done)
       rename_i x
       have d3:(canA ops.toArray (fun k=>order.getD k 0) a V j).eval (.tmp x)=A.eval (.tmp x):=by
        have hkeep:=O4 (ops:=ops.toArray) (ix:=fun k=>order.getD k 0) (a0:=a) (V:=V) (x:=x) (j:=j) (k - j) fun i hi o ho=>by
         have h7:=List.all_eq_true.1 h8 i (List.mem_range.2 hi)
         have di:ops[order.getD (j+i) 0]?=some o:=by simpa using ho
         rw[di] at h7
         intro hd
         simp only[hd] at h7
         simp at h7
        rw[show j+(k - j)=k by omega,hV] at hkeep
        exact hkeep.symm
       intro o2 di
       have ly:ops[order.getD j 0]?=some o2:=by simpa using di
       obtain rfl:oj=o2:=Option.some.inj (hoj.symm.trans ly)
       have hex:∀w1,(execOp (canA ops.toArray (fun k=>order.getD k 0) a V j).eval oj).run E.P w1=(do pure (.value (←Instr.loadAt t (A.eval (.tmp x)))):Sem Next).run E.P w1:=fun w1=>by
        obtain⟨dst,op,type,pos,after,guard⟩:=oj
        simp only at d1
        subst d1
        show(do pure (.value (←Instr.loadAt t (Act.eval (canA ops.toArray (fun k=>order.getD k 0) a V j) (.tmp x)))):Sem Next).run E.P w1=_
        rw[d3]
       rcases bz oj di with⟨p1,p2⟩|⟨p1,p2⟩
       ·refine .inl ⟨p1,fun w1 qj=>?_⟩
        have p3:=p2 w (Below.refl _ _)
        rw[hex,Sem.run_bind,d5] at p3
        rw[hex,Sem.run_bind,d6 w' bc hkeep w1 qj]
        obtain⟨_,p4⟩:=p3
        exact⟨rfl,p4⟩
       ·exact .inr ⟨p1,p2⟩
     have ux:∀{j:Nat} {w':World},j <k→(Arb E fr ops order [(none,s)] j k||Azi E fr ops order [(none,s)] j k)=true→Bai (IM F1 N1 s0 A w (L9 ops)) E fr o1 l1 A w w'→∀V,canA ops.toArray (fun k=>order.getD k 0) a V k=A→LP E.P ops.toArray (fun k=>order.getD k 0) a V w j→LP E.P ops.toArray (fun k=>order.getD k 0) a V w' j:=fun {j w'} hj h8 qf V hV bz=>by
      rcases Bool.or_eq_true_iff.1 h8 with h9|h9
      ·exact rp hj h9 qf V hV bz
      clear h8
      unfold Azi at h9
      split at h9<;>try (cases h9;done)
      rename_i oj me hoj hl1
      obtain rfl:me=l1:=Option.some.inj (hl1.symm.trans g1)
      split at h9<;>try (cases h9;done)
      rename_i x d1
      cases hfp:Awr E oj me with
      |false=>rw[hfp] at h9;cases h9
      | true=>
       rw[hfp] at h9
       simp only[cond_true] at h9
       obtain⟨y,hy⟩:=Ane d1 hfp g2
       have d3:(canA ops.toArray (fun k=>order.getD k 0) a V j).eval (.tmp x)=A.eval (.tmp x):=by
        have hkeep:=O4 (ops:=ops.toArray) (ix:=fun k=>order.getD k 0) (a0:=a) (V:=V) (x:=x) (j:=j) (k - j) fun i hi o ho=>by
         have h7:=List.all_eq_true.1 h9 i (List.mem_range.2 hi)
         have di:ops[order.getD (j+i) 0]?=some o:=by simpa using ho
         rw[di] at h7
         intro hd
         simp only[hd] at h7
         simp at h7
        rw[show j+(k - j)=k by omega,hV] at hkeep
        exact hkeep.symm
       intro o2 di
       have ly:ops[order.getD j 0]?=some o2:=by simpa using di
       obtain rfl:oj=o2:=Option.some.inj (hoj.symm.trans ly)
       have hex:=fun w1=>hy _ w1 d3
       rcases bz oj di with⟨p1,p2⟩|⟨p1,p2⟩
       ·refine .inl ⟨p1,fun w1 qj=>?_⟩
        have p3:=p2 w (Below.refl _ _)
        rw[hex] at p3
        rw[hex]
        obtain⟨_,p4⟩:=p3
        exact⟨rfl,p4⟩
       ·exact .inr ⟨p1,p2⟩
     by_cases hex:1 <ks.getD k 0∧∃j,j <k∧Arc E fr ops order [(none,s)] j k=true
     ·have nj:∀j,j <k→Arc E fr ops order [(none,s)] j k=true→∃o t x w' y,ops[order.getD j 0]?=some o∧o.op=.load t x∧(∀V,canA ops.toArray (fun k=>order.getD k 0) a V k=A→(canA ops.toArray (fun k=>order.getD k 0) a V j).eval x=A.eval x)∧(execOp A.eval o1).run E.P w=.ok .skip w'∧(Instr.loadAt t (A.eval x)).run E.P w=.ok y w∧
        ∀w1,Below w'.heap.size w' w1→(Instr.loadAt t (A.eval x)).run E.P w1=.ok y w1:=fun j hj hc=>by
       unfold Arc at hc
       split at hc<;>try (cases hc;done)
       rename_i oj o1' me hoj ho1 hl1
       obtain rfl:o1'=o1:=Option.some.inj (ho1.symm.trans ho')
       obtain rfl:me=l1:=Option.some.inj (hl1.symm.trans g1)
       cases hcl:Ard E oj o1' me with
       |false=>rw[hcl] at hc;cases hc
       | true=>
        rw[hcl] at hc
        simp only[cond_true] at hc
        obtain⟨s1,F1,N1,kn,dn⟩:=Are hcl g2
        obtain⟨t,x,w',y,c1,c2,c3,c4,c5⟩:=Ba5 kn dn
        refine⟨oj,t,x,w',y,hoj,c1,fun V hV=>?_,c3,c4,c5⟩
        rw[c1] at hc
        cases x<;>try (cases hc;done)
        rename_i x
        have hkeep:=O4 (ops:=ops.toArray) (ix:=fun k=>order.getD k 0) (a0:=a) (V:=V) (x:=x) (j:=j) (k - j) fun i hi o ho=>by
         have h7:=List.all_eq_true.1 hc i (List.mem_range.2 hi)
         have di:ops[order.getD (j+i) 0]?=some o:=by simpa using ho
         rw[di] at h7
         intro hd
         simp only[hd] at h7
         simp at h7
        rw[show j+(k - j)=k by omega,hV] at hkeep
        exact hkeep.symm
      obtain⟨ep,j0,uy,ur⟩:=hex
      obtain⟨_,_,_,w',_,_,_,_,ah,_,_⟩:=nj j0 uy ur
      have vk:=r2
      rw[ah] at vk
      obtain⟨_,q2,qf⟩:=vk
      refine .inl ⟨r1,?_⟩
      rw[ah]
      refine⟨.inr fun j hj=>?_,eg (Adt gx ho' _) e6 q2⟩
      ·rcases kp k ai (Nat.ble_eq_true_of_le ep) j hj with h8|h8
       ·exact .inl h8
       ·rcases Bool.or_eq_true_iff.1 h8 with h8|h8
        rotate_left
        ·exact .inr (ux hj h8 qf)
        rcases Bool.or_eq_true_iff.1 h8 with h8|h8
        ·exact .inr fun V _ bz=>Ali h8 bz
        obtain⟨o,t,x,bt,y,d1,d2,d3,d4,d5,d6⟩:=nj j hj h8
        obtain rfl:bt=w':=by rw[ah] at d4;injection d4 with _ d4;exact d4.symm
        refine .inr fun V hV bz o2 di=>?_
        have ly:ops[order.getD j 0]?=some o2:=by simpa using di
        obtain rfl:o=o2:=Option.some.inj (d1.symm.trans ly)
        have hex:∀w1,(execOp (canA ops.toArray (fun k=>order.getD k 0) a V j).eval o).run E.P w1=(do pure (.value (←Instr.loadAt t (A.eval x))):Sem Next).run E.P w1:=fun w1=>by
         obtain⟨dst,op,type,pos,after,guard⟩:=o
         simp only at d2
         subst d2
         show(do pure (.value (←Instr.loadAt t (Act.eval (canA ops.toArray (fun k=>order.getD k 0) a V j) x))):Sem Next).run E.P w1=_
         rw[d3 V hV]
        rcases bz o di with⟨p1,p2⟩|⟨p1,p2⟩
        ·refine .inl ⟨p1,fun w1 qj=>?_⟩
         have p3:=p2 w (Below.refl _ _)
         rw[hex,Sem.run_bind,d5] at p3
         rw[hex,Sem.run_bind,d6 w1 qj]
         obtain⟨_,p4⟩:=p3
         exact⟨rfl,p4⟩
        ·exact .inr ⟨p1,p2⟩
     ·refine .inl ⟨r1,CW r2 fun v w' ⟨q1,q2,qf⟩=>⟨?_,eg (Adt gx ho' _) e6 q2⟩⟩
      by_cases fg:ks.getD k 0≤1
      ·exact .inl (q1 fg)
      ·refine .inr fun j hj=>?_
       have h9:1 <ks.getD k 0:=by omega
       rcases kp k ai (Nat.ble_eq_true_of_le h9) j hj with h8|h8
       ·exact .inl h8
       ·rcases Bool.or_eq_true_iff.1 h8 with h8|h8
        rotate_left
        ·exact .inr (ux hj h8 qf)
        rcases Bool.or_eq_true_iff.1 h8 with h8|h8
        ·exact .inr fun V _ bz=>Ali h8 bz
        exact absurd ⟨h9,j,hj,h8⟩ hex
    ·exact .inr ⟨r1,eg (Adt gx ho' _) e6 r2⟩
   ·rw[hF] at g1
    obtain rfl:=Option.some.inj g1
    exact MU (Anc ok h1 hsub) (Sz (fun x hx=>by subst hx;exact⟨F1,N1,g2⟩) g4) rfl
end
section
variable {ir:Bool} {P:Program} {Q:Exit→Act→World→Prop} {a:Act} {w:World}
theorem Bab (h:Q .normal a w):Yl ir P .skip Q a w:=fun _ _=>wpIn_skip h
theorem A4m {l:Nat} (h:Q .normal a w):Yl ir P (.label l) Q a w:=fun _ _=>wpIn_label h
theorem Baa {id:Nat} (h:Q (.exit id) a w):Yl ir P (.exit id) Q a w:=fun _ _=>wpIn_exit h
theorem Bec (h:Q .ret a w):Yl ir P .ret Q a w:=fun _ _=>wpIn_ret h
theorem Bds {r:Option Nat} {y:Code} {e:Exit} {a:Act} {w:World} (dd:ir=false→r=none) (h:Exit.then (Yl ir P y Q) Q e a w):Exit.then (y.wpIn (fR r) 0 P Q) Q e a w:=by
 cases e<;>first|exact h|exact h r dd
theorem Bed {x y:Code} (h:Yl ir P x (Exit.then (Yl ir P y Q) Q) a w):Yl ir P (.seq x y) Q a w:=fun r dd=>wpIn_seq (wpIn_mono (h r dd) fun _ _ _=>Bds dd)
theorem Vc {c:Operand} {x y:Code} (hc:a.eval c=.bool true) (h:Yl ir P x Q a w):Yl ir P (.cond c x y) Q a w:=fun r dd=>wpIn_cond_true hc (h r dd)
theorem Tl {c:Operand} {x y:Code} (hc:a.eval c=.bool false) (h:Yl ir P y Q a w):Yl ir P (.cond c x y) Q a w:=fun r dd=>wpIn_cond_false hc (h r dd)
theorem A4l {id:Nat} {c:Code} (h:Yl ir P c (Exit.inBlock id Q) a w):Yl ir P (.block id c) Q a w:=fun r dd=>wpIn_block (h r dd)
def TO (ir:Bool) (P:Program) (c:Code) (Q:Exit→Act→World→Prop):Nat→Act→World→Prop
 |0,_,_=>False
 |m+1,a,w=>Yl ir P c (Exit.then (TO ir P c Q m) Q) a w
theorem Ahk {r:Option Nat} {c:Code} (dd:ir=false→r=none):∀{m:Nat} {a:Act} {w:World},TO ir P c Q m a w→Code.roundsIn (fR r) 0 P c Q m a w
 |0,_,_,h=>h
 |m+1,a,w,h=>wpIn_mono (h r dd) fun e a w q=>by
  cases e<;>first|exact q|exact Ahk dd q
theorem Rx {c:Code} (m:Nat) (h:TO ir P c Q m a w):Yl ir P (.loop c) Q a w:=fun _ dd=>wpIn_loop_rounds m (Ahk dd h)
theorem JI {b:Frame} {k:List Item} {cs:List Frame} {c:Code}:step P (lone (b.atR a (.code (.scope c)::k)) cs w)=.next (lone (b.atR a (.code c::.inScope c::k)) cs w):=
 step_lone_go (by simp[stepG,stepG.exec,Frame.atR])
theorem Ajz {b:Frame} {k:List Item} {cs:List Frame} {c:Code}:step P (lone (b.atR a (.inScope c::k)) cs w)=.next (lone (b.atR a k) cs w):=
 step_lone_go (by simp[stepG,stepG.exec,Frame.atR])
theorem A4n {c:Code} (h:Yl ir P c (Exit.noGoto Q) a w):Yl ir P (.scope c) Q a w:=fun r dd b k cs zf hb hr=>by
 have h0:(lone (b.atR a (.code (.scope c)::k)) cs w).fenced P (fR r):=fenced_calm hb hr rfl
 obtain⟨e,a₁,w₁,hq,ga⟩:=h r dd b (.inScope c::k) cs zf hb hr
 cases e with
 |normal=>exact⟨.normal,a₁,w₁,hq,.head h0 JI (StepsIn.trans ga (.one (fenced_calm hb hr rfl) Ajz))⟩
 |exit id=>
  have hx:exitTo id (.inScope c::k)=exitTo id k:=by simp[exitTo]
  exact⟨.exit id,a₁,w₁,hq,fun k' hk=> .head h0 JI (ga.1 k' (by rw[hx];exact hk)),fun fl hk=>let⟨k₁,h1,h2⟩:=ga.2 fl (by rw[hx];exact hk);⟨k₁,h1,.head h0 JI h2⟩⟩
 |goto l=>exact hq.elim
 |ret=>exact⟨_,a₁,w₁,hq,.of_steps (.one h0 JI) ga⟩
 |panic ch=>exact⟨_,a₁,w₁,hq,.of_steps (.one h0 JI) ga⟩
 |outgrown=>exact⟨_,a₁,w₁,hq,.of_steps (.one h0 JI) ga⟩
end
def Marks (n:Nat) (F:Nat→Prop) (N:Nm) (o:AJ) (R:World) (ms:List Deferred):Prop:=
 ms.Nodup∧∀d∈ms,∃D,d={target:=.collected D,args:=#[]}∧n≤D∧¬F D∧¬EN N o D∧R.heap[D]?=some (.deferred (some []))
theorem Marks.nil {n:Nat} {F:Nat→Prop} {N:Nm} {o:AJ} {R:World}:Marks n F N o R []:=⟨List.nodup_nil,fun d h=>by cases h⟩
theorem Marks.step {n nx nx':Nat} {F F':Nat→Prop} {N N':Nm} {o o':AJ} {R R':World} {ms:List Deferred} (h:Marks n F N o R ms) (st:Step F N nx o R F' N' nx' o' R'):Marks n F' N' o' R' ms:=by
 refine⟨h.1,fun d hd=>?_⟩
 obtain⟨D,e,h1,h2,h3,h4⟩:=h.2 d hd
 have ae:D <R.heap.size:=(Array.getElem?_eq_some_iff.1 h4).1
 refine⟨D,e,h1,fun hf=>?_,fun hf=>?_,(st.keep D ae h3).trans h4⟩
 ·rcases st.fnew D hf with q|q|q
  ·exact h2 q
  ·exact h3 q
  ·omega
 ·rcases st.foot D hf with q|q
  ·exact h3 q
  ·omega
abbrev A11 (Z:Eo) (ms:List Deferred):Eo:={Z with d:=ms++Z.d}
def LN (Z:Eo) (a:Act) (R:World) (s:St):Prop:=∃ms F N,Rel (A11 Z ms) F N s a R∧Marks Z.R.heap.size F N s.o R ms
theorem LN.start {Z:Eo} {F:Nat→Prop} {N:Nm} {s:St} {a:Act} {R:World} (h:Rel Z F N s a R) (W:List Nat):LN (IM F N s a R W) a R s:=⟨[],F,N,h.start W,Marks.nil⟩
theorem LN.of {Z:Eo} {F:Nat→Prop} {N:Nm} {s:St} {a:Act} {R:World} (h:Rel Z F N s a R):LN Z a R s:=⟨[],F,N,h,Marks.nil⟩
theorem Rel.defs {Z Z':Eo} {F:Nat→Prop} {N:Nm} {s:St} {a:Act} {R:World} (h:Rel Z F N s a R) (hz:Z'={Z with d:=Z'.d}):Rel Z' F N s {a with defers:=Z'.d} R:=by
 rw[hz]
 exact⟨rfl,h.size,h.slots,h.hp,h.st,h.tm⟩
theorem LN.over {Z:Eo} {F:Nat→Prop} {N:Nm} {s x:St} {a a':Act} {R R':World} {W:List Nat} {ms:List Deferred} (h0:Rel (A11 Z ms) F N s a R) (hm:Marks Z.R.heap.size F N s.o R ms) (hW:∀u,Ma u W=true→Z.W u) (h:LN (IM F N s a R W) a' R' x):LN Z a' R' x:=by
 obtain⟨vh,F',N',h,kl⟩:=h
 refine⟨vh++ms,F',N',⟨?_,h.size,h.slots,h.hp,h0.st.trans h.st,fun u hu=>?_⟩,?_,fun d hd=>?_⟩
 ·have h1:a'.defers=vh++a.defers:=h.defers
  rw[h1,h0.defers]
  exact(List.append_assoc ..).symm
 ·rw[h.tm u fun hw=>hu (hW u hw)]
  exact h0.tm u hu
 ·refine List.nodup_append.2 ⟨kl.1,hm.1,fun d hd d' gb e=>?_⟩
  subst e
  obtain⟨D,e1,h1,_⟩:=kl.2 d hd
  obtain⟨D',e2,_,_,_,h4⟩:=hm.2 d gb
  rw[e1] at e2
  injection e2 with e3
  injection e3 with e4
  have ae:D' <R.heap.size:=(Array.getElem?_eq_some_iff.1 h4).1
  have bx:R.heap.size≤D:=h1
  omega
 ·rcases List.mem_append.1 hd with hd|hd
  ·obtain⟨D,e,h1,h2⟩:=kl.2 d hd
   exact⟨D,e,Nat.le_trans h0.st.size h1,h2⟩
  ·exact(hm.step h.st).2 d hd
def Wz (_id:Nat):Prop:=False
def MQ:Code→List Nat
 | .region _ ops _=>L9 ops.toList
 | .seq a b=>MQ a++MQ b
 | .cond _ a b=>MQ a++MQ b
 | .block _ b=>MQ b
 | .loop b=>MQ b
 | .scope b=>MQ b
 | .rangeFunc _ ps a b=>ps.toList++MQ a++MQ b
 |_=>[]
theorem VV {u:Nat}:∀{A B:List Nat},Ma u (A++B)=(Ma u A||Ma u B)
 | [],B=>rfl
 |k::r,B=>by
  show(bif Nat.beq k u then true else Ma u (r++B))=((bif Nat.beq k u then true else Ma u r)||Ma u B)
  rw[VV]
  cases Nat.beq k u<;>rfl
abbrev Tag:=Option Nat
abbrev BG:=List (Tag×DB×St)
def E1:Tag→Tag→Bool
 |none,none=>true
 |some i,some j=>Nat.beq i j
 |_,_=>false
theorem QP {x y:Tag} (h:E1 x y=true):x=y:=by
 cases x<;>cases y<;>first|rfl|(cases h;done)|skip
 rw[Nat.eq_of_beq_eq_true h]
theorem PO (x:Tag):E1 x x=true:=by cases x<;>simp[E1]
theorem TT {x y:Tag} (h:x≠y):E1 x y=false:=by
 cases hb:E1 x y with
 |true=>exact absurd (QP hb) h
 |false=>rfl
def AZ (t:Tag):BG→Option (DB×St)
 | []=>none
 |(k,c,s)::r=>bif E1 k t then some (c,s) else AZ t r
def Hy (t:Tag):BG→DB
 | []=>none
 |(k,c,_)::r=>bif E1 k t then Hy t r else Kb (Aja c) (Hy t r)
def Jv:BG→DB
 | []=>none
 |(_,c,_)::r=>Kb (Aja c) (Jv r)
structure Yk where
 ps:List Prop
 outs:BG
 nrm:Option St
def Vb (f:Tag→DB→St→Option (DB×St)→DB×St) (B:BG):BG→BG
 | []=>[]
 |(t,c,s)::r=>(t,f t c s (AZ t B))::Vb f B r
def JG (f:DB→DB) (A:BG):BG→BG
 | []=>[]
 |(t,d,s)::r=>match AZ t A with
  |some _=>JG f A r
  |none=>(t,f d,s)::JG f A r
def A7l (g:Bool) (W:List Nat) (s:St) (_t:Tag) (c:DB) (x:St):Option (DB×St)→DB×St
 |none=>(Kb (some g) c,x)
 |some (d,y)=>(A7j g c d,Hx g W s x y)
def Ak2 (g:Bool) (W:List Nat) (s:St):Option St→Option St→Option St
 |none,none=>none
 |some x,none=>some x
 |none,some y=>some y
 |some x,some y=>some (Hx g W s x y)
def Asj (g:Bool) (W:List Nat) (s:St) (A B:Yk):Yk:=
 ⟨Pm [g=true] A.ps++Pm [g=false] B.ps,Vb (A7l g W s) B.outs A.outs++JG (Kb (some !g)) A.outs B.outs,Ak2 g W s A.nrm B.nrm⟩
def Bde (A:BG) (W:List Nat) (s:St) (t:Tag) (c:DB) (x:St):Option (DB×St)→DB×St
 |none=>(c,x)
 |some (d,y)=>(orO c (Kb (Hy t A) d),Hx (Br c) W s x y)
def Aju (W:List Nat) (s:St) (A B:Yk):Yk:=
 ⟨A.ps++Pm (A2g (Jv A.outs)) B.ps,Vb (Bde A.outs W s) B.outs A.outs++JG (Kb (Jv A.outs)) A.outs B.outs,B.nrm⟩
def Lg (t:Tag):BG→BG
 | []=>[]
 |(k,c,s)::r=>bif E1 k t then Lg t r else(k,c,s)::Lg t r
def Oi (W:List Nat) (s:St) (id:Nat) (A:Yk):Yk:=match AZ (some id) A.outs with
 |none=>A
 |some (c,x)=>⟨A.ps,Lg (some id) A.outs,match A.nrm with
  |none=>some x
  |some y=>some (Hx (Br c) W s x y)⟩
def ZL (id:Nat):Yk:=⟨[Wz id],[],none⟩
def Af7 (W:List Nat) (f:St→Yk):Nat→St→Yk
 |0,_=>ZL 1000000
 |n+1,s=>match(f s).nrm with
  |none=>f s
  |some s1=>Aju W s (f s) (Af7 W f n s1)
abbrev rfK:Nat:=1000000
def A7h:Code→Bool
 | .region _ _ _=>true
 |_=>false
def Bhs (h:Bool) (u:Nat):Bool:=bif h then true else Nat.ble 1000 u
def MR (E:Env) (u:Nat):Nat→Code→Bool→St→Yk
 |_,.skip,_,s=>⟨[],[],some s⟩
 |_,.region id ops draw,_,s=>match evR E ops.toList draw s with
  |some (s',ps)=>⟨ps,[],some s'⟩
  |none=>ZL id
 |_,.seq a b,h,s=>match(MR E u 0 a h s).nrm with
  |none=>MR E u 0 a h s
  |some s1=>Aju (MQ a++MQ b) s (MR E u 0 a h s) (MR E u 0 b (bif A7h a then h else false) s1)
 | _,.cond c x y,h,s=>match s.raw [] c with
  | some (.bool g)=>match Bhs h u with
   |true=>match g with
    |true=>MR E u 0 x false s
    |false=>MR E u 0 y false s
   |false=>Asj g (MQ x++MQ y) s (MR E u 0 x false s) (MR E u 0 y false s)
  |_=>ZL 1000001
 |_,.block id b,_,s=>Oi (MQ b) s id (MR E u id b false s)
 |l,.loop b,_,s=>match(bif Nat.ble rfK l then none else E.L l s) with
  |some (b0,ps,outs)=>⟨(b=b0)::ps,outs,none⟩
  |none=>Af7 (MQ b) (MR E u 0 b true) u s
 |l,.rangeFunc g qs a b,_,s=>match E.L (rfK+l) s with
  |some (b0,ps,[(_,_,s1)])=>⟨(Code.rangeFunc g qs a b=b0)::ps,[],some s1⟩
  |_=>ZL 1000002
 |_,.exit id,_,s=>⟨[],[(some id,none,s)],none⟩
 |_,.ret,_,s=>⟨[],[(none,none,s)],none⟩
 |_,.scope b,_,s=>MR E u 0 b false s
 |_,.label _,_,s=>⟨[],[],some s⟩
 |_,_,_,_=>ZL 1000002
abbrev evC (E:Env) (u:Nat) (c:Code) (s:St):Yk:=MR E u 0 c false s
def Tag.ex:Tag→Exit
 |none=> .ret
 |some i=> .exit i
def Ava (o:BG):Prop:=∀t c s,AZ t o=some (c,s)→Br c=false
def Bag (t:Tag) (o:BG):Prop:=∀t' c s,t'≠t→AZ t' o=some (c,s)→Br c=false
def Oc (r:Yk) (e:Exit) (s:St):Prop:=
 (∃t c,e=Tag.ex t∧AZ t r.outs=some (c,s)∧Br c=true∧Bag t r.outs)∨(e=.normal∧r.nrm=some s∧Ava r.outs)
theorem R9 (t:Tag):∀(A B:BG),AZ t (A++B)=match AZ t A with|some x=>some x|none=>AZ t B
 | [],B=>rfl
 |(k,c,s)::r,B=>by
  show(bif E1 k t then some (c,s) else AZ t (r++B))=match(bif E1 k t then some (c,s) else AZ t r) with|some x=>some x|none=>AZ t B
  cases E1 k t with
  |true=>rfl
  |false=>exact R9 t r B
theorem Qt (f:Tag→DB→St→Option (DB×St)→DB×St) (B:BG) (t:Tag):∀(A:BG),AZ t (Vb f B A)=match AZ t A with|some (c,s)=>some (f t c s (AZ t B))|none=>none
 | []=>rfl
 |(k,c,s)::r=>by
  show(bif E1 k t then some (f k c s (AZ k B)) else AZ t (Vb f B r))=match(bif E1 k t then some (c,s) else AZ t r) with|some (c,s)=>some (f t c s (AZ t B))|none=>none
  cases h:E1 k t with
  |true=>rw[QP h];rfl
  |false=>exact Qt f B t r
theorem VT (f:DB→DB) (A:BG) (t:Tag) (hA:AZ t A=none):∀(B:BG),AZ t (JG f A B)=match AZ t B with|some (d,s)=>some (f d,s)|none=>none
 | []=>rfl
 | (k,d,s)::r=>by
  show AZ t (match AZ k A with|some _=>JG f A r|none=>(k,f d,s)::JG f A r)=match(bif E1 k t then some (d,s) else AZ t r) with|some (d,s)=>some (f d,s)|none=>none
  cases h:E1 k t with
  |true=>
   obtain rfl:=QP h
   rw[hA]
   show(bif E1 k k then some (f d,s) else AZ k (JG f A r))=_
   rw[PO]
   rfl
  | false=>
   have ih:=VT f A t hA r
   cases hk:AZ k A with
   |some x=>exact ih
   |none=>
    show(bif E1 k t then some (f d,s) else AZ t (JG f A r))=_
    rw[h]
    exact ih
theorem Pj (t:Tag) (f:Tag→DB→St→Option (DB×St)→DB×St) (h:DB→DB) (A B:BG):
  AZ t (Vb f B A++JG h A B)=match AZ t A with|some (c,s)=>some (f t c s (AZ t B))|none=>match AZ t B with|some (d,s)=>some (h d,s)|none=>none:=by
 rw[R9,Qt]
 cases hA:AZ t A with
 |some x=>rfl
 |none=>exact VT h A t hA B
theorem Alc:∀{o:BG},(∀e∈o,Br e.2.1=false)→Br (Jv o)=true
 | [],_=>rfl
 |(k,c,s)::r,h=>by
  show Br (Kb (Aja c) (Jv r))=true
  rw[BI,WX,h (k,c,s) (List.mem_cons_self ..),Alc fun e he=>h e (List.mem_cons_of_mem _ he)]
  rfl
def LO:BG→Prop
 | []=>True
 |(k,_,_)::r=>AZ k r=none∧LO r
theorem Agd:∀{o:BG},LO o→∀e∈o,AZ e.1 o=some e.2
 | [],_,e,h=>by cases h
 | (k,c,s)::r,⟨h1,h2⟩,e,h=>by
  rcases List.mem_cons.1 h with rfl|h
  ·show(bif E1 k k then some (c,s) else AZ k r)=_
   rw[PO]
   rfl
  ·have:=Agd h2 e h
   show(bif E1 k e.1 then some (c,s) else AZ e.1 r)=_
   cases hb:E1 k e.1 with
   |true=>
    obtain rfl:=QP hb
    rw[h1] at this
    cases this
   |false=>exact this
theorem MV {o:BG} (ho:LO o) (h:Ava o):Br (Jv o)=true:=Alc fun e he=>h e.1 e.2.1 e.2.2 (Agd ho e he)
theorem Ze:∀{o:BG} {t:Tag} {c:DB} {s:St},AZ t o=some (c,s)→Br c=true→Br (Jv o)=false
 | [],_,_,_,h,_=>by cases h
 | (k,d,x)::r,t,c,s,h,hc=>by
  show Br (Kb (Aja d) (Jv r))=false
  rw[BI,WX]
  have h':(bif E1 k t then some (d,x) else AZ t r)=some (c,s):=h
  cases hb:E1 k t with
  |true=>
   rw[hb] at h'
   obtain⟨rfl,rfl⟩:d=c∧x=s:=by cases h';exact⟨rfl,rfl⟩
   rw[hc]
   rfl
  |false=>
   rw[hb] at h'
   rw[Ze h' hc,Bool.and_false]
theorem Agn:∀{o:BG} {t u:Tag} {c:DB} {s:St},t≠u→AZ t o=some (c,s)→Br c=true→Br (Hy u o)=false
 | [],_,_,_,_,_,h,_=>by cases h
 | (k,d,x)::r,t,u,c,s,hu,h,hc=>by
  have h':(bif E1 k t then some (d,x) else AZ t r)=some (c,s):=h
  show Br (bif E1 k u then Hy u r else Kb (Aja d) (Hy u r))=false
  cases hb:E1 k t with
  |true=>
   rw[hb] at h'
   obtain⟨rfl,rfl⟩:d=c∧x=s:=by cases h';exact⟨rfl,rfl⟩
   obtain rfl:=QP hb
   rw[TT hu]
   show Br (Kb (Aja d) (Hy u r))=false
   rw[BI,WX,hc]
   rfl
  | false=>
   rw[hb] at h'
   have ih:=Agn hu h' hc
   cases E1 k u with
   |true=>exact ih
   |false=>
    show Br (Kb (Aja d) (Hy u r))=false
    rw[BI,ih,Bool.and_false]
theorem Ago:∀{o:BG} {u:Tag},(∀e∈o,Br e.2.1=false)→Br (Hy u o)=true
 | [],_,_=>rfl
 | (k,c,s)::r,u,h=>by
  have ih:=Ago (u:=u) (o:=r) fun e he=>h e (List.mem_cons_of_mem _ he)
  show Br (bif E1 k u then Hy u r else Kb (Aja c) (Hy u r))=true
  cases E1 k u with
  |true=>exact ih
  |false=>
   show Br (Kb (Aja c) (Hy u r))=true
   rw[BI,WX,h (k,c,s) (List.mem_cons_self ..),ih]
   rfl
theorem Aaw:∀{A B:BG},LO A→LO B→(∀t x,AZ t A=some x→AZ t B=none)→LO (A++B)
 | [],B,_,hB,_=>hB
 | (k,c,s)::r,B,⟨h1,h2⟩,hB,h=>by
  refine⟨?_,Aaw h2 hB fun t x hx=>h t x ?_⟩
  ·show AZ k (r++B)=none
   rw[R9,h1]
   exact h k (c,s) (by show(bif E1 k k then some (c,s) else AZ k r)=_;rw[PO];rfl)
  ·show(bif E1 k t then some (c,s) else AZ t r)=some x
   cases hb:E1 k t with
   |true=>
    obtain rfl:=QP hb
    rw[h1] at hx
    cases hx
   |false=>exact hx
theorem Ag2 (f:Tag→DB→St→Option (DB×St)→DB×St) (B:BG):∀{A:BG},LO A→LO (Vb f B A)
 | [],_=>trivial
 |(k,c,s)::r,⟨h1,h2⟩=>⟨by rw[Qt,h1],Ag2 f B h2⟩
theorem Q5 (f:DB→DB) (A:BG) (t:Tag) (hA:AZ t A≠none):∀(B:BG),AZ t (JG f A B)=none
 | []=>rfl
 | (k,d,s)::r=>by
  have ih:=Q5 f A t hA r
  show AZ t (match AZ k A with|some _=>JG f A r|none=>(k,f d,s)::JG f A r)=none
  cases hk:AZ k A with
  |some x=>exact ih
  |none=>
   show(bif E1 k t then some (f d,s) else AZ t (JG f A r))=none
   cases hb:E1 k t with
   |true=>exact absurd (QP hb▸hk) hA
   |false=>exact ih
theorem Ag1 (f:DB→DB) (A:BG):∀{B:BG},LO B→LO (JG f A B)
 | [],_=>trivial
 |(k,d,s)::r,⟨h1,h2⟩=>by
  have ih:=Ag1 f A h2
  show LO (match AZ k A with|some _=>JG f A r|none=>(k,f d,s)::JG f A r)
  cases hk:AZ k A with
  |some x=>exact ih
  |none=>exact⟨by rw[VT f A k hk,h1],ih⟩
theorem Alf (f:Tag→DB→St→Option (DB×St)→DB×St) (h:DB→DB) {A B:BG} (hA:LO A) (hB:LO B):LO (Vb f B A++JG h A B):=
 Aaw (Ag2 f B hA) (Ag1 h A hB) fun t x hx=>by
  refine Q5 h A t (fun hn=>?_) B
  rw[Qt,hn] at hx
  cases hx
theorem Jt (u t:Tag):∀(o:BG),AZ t (Lg u o)=if t=u then none else AZ t o
 | []=>by split<;>rfl
 | (k,c,s)::r=>by
  have ih:=Jt u t r
  show AZ t (bif E1 k u then Lg u r else(k,c,s)::Lg u r)=if t=u then none else(bif E1 k t then some (c,s) else AZ t r)
  by_cases sa:k=u
  ·subst sa
   rw[PO]
   show AZ t (Lg k r)=_
   rw[ih]
   by_cases oz:t=k
   ·rw[if_pos oz,if_pos oz]
   ·rw[if_neg oz,if_neg oz,TT (Ne.symm oz)]
    rfl
  ·rw[TT sa]
   show(bif E1 k t then some (c,s) else AZ t (Lg u r))=_
   rw[ih]
   by_cases sw:t=u
   ·subst sw
    rw[if_pos rfl,if_pos rfl,TT sa]
    rfl
   ·rw[if_neg sw,if_neg sw]
theorem Ag0 (u:Tag):∀{o:BG},LO o→LO (Lg u o)
 | [],_=>trivial
 |(k,c,s)::r,⟨h1,h2⟩=>by
  have ih:=Ag0 u h2
  show LO (bif E1 k u then Lg u r else(k,c,s)::Lg u r)
  cases E1 k u with
  |true=>exact ih
  |false=>exact⟨by rw[Jt,h1];split<;>rfl,ih⟩
structure Wf (s:St) (r:Yk):Prop where
 outs:∀t c x,AZ t r.outs=some (c,x)→Sub s x
 nrm:∀x,r.nrm=some x→Sub s x
 once:LO r.outs
theorem Bd8 {s:St} {g:Bool} {W:List Nat} {A B:Yk} (hA:Wf s A) (hB:Wf s B):Wf s (Asj g W s A B):=by
 refine⟨fun t c x h=>?_,fun x h=>?_,Alf _ _ hA.once hB.once⟩
 ·have h':AZ t (Vb (A7l g W s) B.outs A.outs++JG (Kb (some !g)) A.outs B.outs)=some (c,x):=h
  rw[Pj] at h'
  cases h1:AZ t A.outs with
  | some y=>
   obtain⟨c1,y⟩:=y
   rw[h1] at h'
   cases h2:AZ t B.outs with
   |some z=>
    obtain⟨c2,z⟩:=z
    rw[h2] at h'
    cases h'
    exact Sub.merge _ _ _ _ _
   |none=>
    rw[h2] at h'
    cases h'
    exact hA.outs _ _ _ h1
  | none=>
   rw[h1] at h'
   cases h2:AZ t B.outs with
   |some z=>
    obtain⟨c2,z⟩:=z
    rw[h2] at h'
    cases h'
    exact hB.outs _ _ _ h2
   |none=>
    rw[h2] at h'
    cases h'
 ·have h':Ak2 g W s A.nrm B.nrm=some x:=h
  cases h1:A.nrm with
  |some y=>
   cases h2:B.nrm with
   |some z=>rw[h1,h2] at h';cases h';exact Sub.merge _ _ _ _ _
   |none=>rw[h1,h2] at h';cases h';exact hA.nrm _ h1
  |none=>
   cases h2:B.nrm with
   |some z=>rw[h1,h2] at h';cases h';exact hB.nrm _ h2
   |none=>rw[h1,h2] at h';cases h'
theorem A95 {s s1:St} {W:List Nat} {A B:Yk} (hA:Wf s A) (h1:A.nrm=some s1) (hB:Wf s1 B):Wf s (Aju W s A B):=by
 have hs:=hA.nrm _ h1
 refine⟨fun t c x h=>?_,fun x h=>hs.trans (hB.nrm _ h),Alf _ _ hA.once hB.once⟩
 have h':AZ t (Vb (Bde A.outs W s) B.outs A.outs++JG (Kb (Jv A.outs)) A.outs B.outs)=some (c,x):=h
 rw[Pj] at h'
 cases h1:AZ t A.outs with
 | some y=>
  obtain⟨c1,y⟩:=y
  rw[h1] at h'
  cases h2:AZ t B.outs with
  |some z=>
   obtain⟨c2,z⟩:=z
   rw[h2] at h'
   cases h'
   exact Sub.merge _ _ _ _ _
  |none=>
   rw[h2] at h'
   cases h'
   exact hA.outs _ _ _ h1
 | none=>
  rw[h1] at h'
  cases h2:AZ t B.outs with
  |some z=>
   obtain⟨c2,z⟩:=z
   rw[h2] at h'
   cases h'
   exact hs.trans (hB.outs _ _ _ h2)
  |none=>
   rw[h2] at h'
   cases h'
theorem A93 {s:St} {W:List Nat} {id:Nat} {A:Yk} (hA:Wf s A):Wf s (Oi W s id A):=by
 unfold Oi
 cases h1:AZ (some id) A.outs with
 |none=>exact hA
 | some y=>
  obtain⟨c,y⟩:=y
  refine⟨fun t c' x h=>?_,fun x h=>?_,Ag0 _ hA.once⟩
  ·have h':AZ t (Lg (some id) A.outs)=some (c',x):=h
   rw[Jt] at h'
   split at h'
   ·cases h'
   ·exact hA.outs _ _ _ h'
  ·have h':(match A.nrm with|none=>some y|some z=>some (Hx (Br c) W s y z))=some x:=h
   cases h2:A.nrm with
   |none=>rw[h2] at h';cases h';exact hA.outs _ _ _ h1
   |some z=>rw[h2] at h';cases h';exact Sub.merge _ _ _ _ _
theorem PQ (s:St) (id:Nat):Wf s (ZL id):=⟨fun _ _ _ h=>(by cases h),fun _ h=>(by cases h),trivial⟩
theorem Apw {W:List Nat} {f:St→Yk} (hf:∀s,Wf s (f s)):∀(n:Nat) (s:St),Wf s (Af7 W f n s)
 |0,s=>PQ s _
 |n+1,s=>by
  unfold Af7
  cases h:(f s).nrm with
  |none=>exact hf s
  |some s1=>exact A95 (hf s) h (Apw hf n s1)
theorem A94 (s:St) (t:Tag):Wf s ⟨[],[(t,none,s)],none⟩:=
  ⟨fun t' c x h=>(by
    have h':(bif E1 t t' then some (none,s) else none)=some (c,x):=h
    cases hb:E1 t t' with
    |true=>rw[hb] at h';cases h';exact Sub.refl s
    |false=>rw[hb] at h';cases h'),
   fun x h=>(by cases h),rfl,trivial⟩
def Adw (E:Env) (b:Code) (s:St) (ps:List Prop) (outs:BG):Prop:=∀(Z:Eo) (a:Act) (R:World) (Q:Exit→Act→World→Prop),LN Z a R s→(∀u,Ma u (MQ b)=true→Z.W u)→(∀p∈ps,p)→
 (∀e x a' R',Oc ⟨ps,outs,none⟩ e x→LN Z a' R' x→Q e a' R')→Yl E.ir E.P (Code.loop b) Q a R
def Bak (E:Env) (c:Code) (s:St) (ps:List Prop) (outs:BG):Prop:=∀t d s1,outs=[(t,d,s1)]→Sub s s1∧∀(Z:Eo) (a:Act) (R:World) (Q:Exit→Act→World→Prop),LN Z a R s→(∀u,Ma u (MQ c)=true→Z.W u)→(∀p∈ps,p)→
 (∀a' R',LN Z a' R' s1→Q .normal a' R')→Yl E.ir E.P c Q a R
def Ay6 (E:Env) (l:Nat) (b:Code) (s:St) (ps:List Prop) (outs:BG):Prop:=(Nat.ble rfK l=false→Wf s ⟨ps,outs,none⟩∧Adw E b s ps outs)∧(Nat.ble rfK l=true→Bak E b s ps outs)
structure Kh (E:Env):Prop extends EnvOk E where
 loops:∀l s b ps outs,E.L l s=some (b,ps,outs)→Ay6 E l b s ps outs
theorem Er {E:Env} (ok:Kh E) {u:Nat}:∀(l:Nat) (c:Code) (h:Bool) (s:St),Wf s (MR E u l c h s)
 |_,.skip,_,s=>⟨fun _ _ _ h=>(by cases h),fun x h=>(by cases h;exact Sub.refl s),trivial⟩
 | _,.region id ops draw,_,s=>by
  unfold MR
  cases h:evR E ops.toList draw s with
  |none=>exact PQ s _
  |some x=>
   obtain⟨s',ps⟩:=x
   exact⟨fun _ _ _ h=>(by cases h),fun x h'=>(by cases h';exact Ax2 ok.toEnvOk h),trivial⟩
 |_,.seq a b,hd,s=>by
  unfold MR
  cases h:(MR E u 0 a hd s).nrm with
  |none=>exact Er ok 0 a hd s
  |some s1=>exact A95 (Er ok 0 a hd s) h (Er ok 0 b _ s1)
 | _,.cond c x y,hd,s=>by
  unfold MR
  split
  ·rename_i g _
   cases Bhs hd u with
   |true=>
    cases g with
    |true=>exact Er ok 0 x _ s
    |false=>exact Er ok 0 y _ s
   |false=>exact Bd8 (Er ok 0 x _ s) (Er ok 0 y _ s)
  ·exact PQ s _
 |_,.block id b,_,s=>A93 (Er ok id b _ s)
 | l,.loop b,_,s=>by
  unfold MR
  split
  ·rename_i b0 ps outs h
   cases hb:Nat.ble rfK l with
   |true=>rw[hb] at h;cases h
   |false=>
    rw[hb,cond_false] at h
    obtain⟨h1,h2,h3⟩:=((ok.loops _ _ _ _ _ h).1 hb).1
    exact⟨h1,h2,h3⟩
  ·exact Apw (fun s=>Er ok 0 b _ s) u s
 |_,.exit id,_,s=>A94 s (some id)
 |_,.ret,_,s=>A94 s none
 | l,.rangeFunc _ _ _ _,_,s=>by
  unfold MR
  split
  ·rename_i b0 ps t d s1 h
   exact⟨fun _ _ _ h=>(by cases h),fun x h'=>(by cases h';exact((ok.loops _ _ _ _ _ h).2 (by rw[Nat.ble_eq];omega) _ _ _ rfl).1),trivial⟩
  ·exact PQ s _
 |_,.scope b,_,s=>Er ok 0 b false s
 |_,.label _,_,s=>⟨fun _ _ _ h=>(by cases h),fun x h=>(by cases h;exact Sub.refl s),trivial⟩
 |_,.goto _,_,s=>PQ s _
 |_,.refuse _,_,s=>PQ s _
theorem Ki {ps qs:List Prop} (h:∀p∈ps++qs,p):(∀p∈ps,p)∧(∀p∈qs,p):=⟨fun p hp=>h p (List.mem_append.2 (.inl hp)),fun p hp=>h p (List.mem_append.2 (.inr hp))⟩
def Baj (M:Eo) (x y:St):Prop:=∀a' R',LN M a' R' x→LN M a' R' y
theorem Ot {Z:Eo} {F:Nat→Prop} {N:Nm} {s:St} {a:Act} {R:World} {W:List Nat} (h0:Rel Z F N s a R) {g:Bool} {x y z:St} (e1:Sub s x) (e2:Sub s y) (hz:z=bif g then x else y):Baj (IM F N s a R W) z (Hx g W s x y):=fun a' R' ⟨ms,F',N',h,hm⟩=>by
 subst hz
 obtain⟨N'',h',hst⟩:=Rel.merge (h0.start W) (h.defs (Z':=IM F N s a R W) rfl) (fun _ h=>h) e1 e2
 exact⟨ms,F',N'',⟨h.defers,h'.size,h'.slots,h'.hp,h'.st,h'.tm⟩,hm.step hst⟩
theorem Bcl {Z:Eo} {F:Nat→Prop} {N:Nm} {a:Act} {R:World} {W:List Nat} {s:St} (h0:Rel Z F N s a R) {g:Bool} {A B:Yk} {e:Exit} {x:St} (hA:Wf s A) (hB:Wf s B) (h:Oc (bif g then A else B) e x):
  ∃y,Oc (Asj g W s A B) e y∧Baj (IM F N s a R W) x y:=by
 have gj:=Pj (f:=A7l g W s) (h:=Kb (some !g)) (A:=A.outs) (B:=B.outs)
 rcases h with⟨t,c,rfl,h1,h2,h3⟩|⟨rfl,h1,h2⟩
 ·cases g with
  | true=>
   have bx:AZ t A.outs=some (c,x):=h1
   cases hb:AZ t B.outs with
   | none=>
    refine⟨x,.inl ⟨t,Kb (some true) c,rfl,?_,?_,fun t' c' s' ao hg=>?_⟩,fun _ _ h=>h⟩
    ·show AZ t (_++_)=_
     rw[gj,bx,hb]
     rfl
    ·rw[BI,h2];rfl
    ·have af:AZ t' (_++_)=some (c',s'):=hg
     rw[gj] at af
     cases ha:AZ t' A.outs with
     |some z=>
      obtain⟨c1,z⟩:=z
      have:=h3 t' c1 z ao ha
      rw[ha] at af
      cases aq:AZ t' B.outs with
      |some w=>obtain⟨d,w⟩:=w;rw[aq] at af;cases af;rw[Pc];exact this
      |none=>rw[aq] at af;cases af;rw[BI,this];rfl
     |none=>
      rw[ha] at af
      cases aq:AZ t' B.outs with
      |some w=>obtain⟨d,w⟩:=w;rw[aq] at af;cases af;rw[BI];rfl
      |none=>rw[aq] at af;cases af
   | some y=>
    obtain⟨d,y⟩:=y
    refine⟨Hx true W s x y,.inl ⟨t,A7j true c d,rfl,?_,?_,fun t' c' s' ao hg=>?_⟩,Ot (g:=true) h0 (hA.outs _ _ _ bx) (hB.outs _ _ _ hb) rfl⟩
    ·show AZ t (_++_)=_
     rw[gj,bx,hb]
     rfl
    ·rw[Pc];exact h2
    ·have af:AZ t' (_++_)=some (c',s'):=hg
     rw[gj] at af
     cases ha:AZ t' A.outs with
     |some z=>
      obtain⟨c1,z⟩:=z
      have:=h3 t' c1 z ao ha
      rw[ha] at af
      cases aq:AZ t' B.outs with
      |some w=>obtain⟨d,w⟩:=w;rw[aq] at af;cases af;rw[Pc];exact this
      |none=>rw[aq] at af;cases af;rw[BI,this];rfl
     |none=>
      rw[ha] at af
      cases aq:AZ t' B.outs with
      |some w=>obtain⟨d,w⟩:=w;rw[aq] at af;cases af;rw[BI];rfl
      |none=>rw[aq] at af;cases af
  | false=>
   have bx:AZ t B.outs=some (c,x):=h1
   have d8:∀t' c' s',t'≠t→AZ t' (Asj false W s A B).outs=some (c',s')→Br c'=false:=fun t' c' s' ao hg=>by
    have af:AZ t' (_++_)=some (c',s'):=hg
    rw[gj] at af
    cases ha:AZ t' A.outs with
    | some z=>
     obtain⟨c1,z⟩:=z
     rw[ha] at af
     cases aq:AZ t' B.outs with
     |some w=>
      obtain⟨d,w⟩:=w
      have:=h3 t' d w ao aq
      rw[aq] at af;cases af;rw[Pc];exact this
     |none=>rw[aq] at af;cases af;rw[BI];rfl
    | none=>
     rw[ha] at af
     cases aq:AZ t' B.outs with
     |some w=>
      obtain⟨d,w⟩:=w
      have:=h3 t' d w ao aq
      rw[aq] at af;cases af;rw[BI,this];rfl
     |none=>rw[aq] at af;cases af
   cases ha:AZ t A.outs with
   | none=>
    refine⟨x,.inl ⟨t,Kb (some !false) c,rfl,?_,?_,d8⟩,fun _ _ h=>h⟩
    ·show AZ t (_++_)=_
     rw[gj,ha,bx]
    ·rw[BI,h2];rfl
   | some y=>
    obtain⟨d,y⟩:=y
    refine⟨Hx false W s y x,.inl ⟨t,A7j false d c,rfl,?_,?_,d8⟩,Ot (g:=false) h0 (hA.outs _ _ _ ha) (hB.outs _ _ _ bx) rfl⟩
    ·show AZ t (_++_)=_
     rw[gj,ha,bx]
     rfl
    ·rw[Pc];exact h2
 ·have aj:Ava (Asj g W s A B).outs:=fun t' c' s' hg=>by
   have af:AZ t' (_++_)=some (c',s'):=hg
   rw[gj] at af
   cases ha:AZ t' A.outs with
   | some z=>
    obtain⟨c1,z⟩:=z
    rw[ha] at af
    cases aq:AZ t' B.outs with
    |some w=>
     obtain⟨d,w⟩:=w
     rw[aq] at af;cases af;rw[Pc]
     cases g with
     |true=>exact h2 t' c1 _ ha
     |false=>exact h2 t' d _ aq
    |none=>
     rw[aq] at af;cases af;rw[BI]
     cases g with
     |true=>rw[h2 t' c1 _ ha];rfl
     |false=>rfl
   | none=>
    rw[ha] at af
    cases aq:AZ t' B.outs with
    |some w=>
     obtain⟨d,w⟩:=w
     rw[aq] at af;cases af;rw[BI]
     cases g with
     |true=>rfl
     |false=>rw[h2 t' d _ aq];rfl
    |none=>rw[aq] at af;cases af
  cases g with
  |true=>
   have bx:A.nrm=some x:=h1
   cases hb:B.nrm with
   |none=>exact⟨x,.inr ⟨rfl,by show Ak2 true W s A.nrm B.nrm=_;rw[bx,hb];rfl,aj⟩,fun _ _ h=>h⟩
   |some y=>exact⟨_,.inr ⟨rfl,by show Ak2 true W s A.nrm B.nrm=_;rw[bx,hb];rfl,aj⟩,Ot (g:=true) h0 (hA.nrm _ bx) (hB.nrm _ hb) rfl⟩
  |false=>
   have bx:B.nrm=some x:=h1
   cases ha:A.nrm with
   |none=>exact⟨x,.inr ⟨rfl,by show Ak2 false W s A.nrm B.nrm=_;rw[ha,bx];rfl,aj⟩,fun _ _ h=>h⟩
   |some y=>exact⟨_,.inr ⟨rfl,by show Ak2 false W s A.nrm B.nrm=_;rw[ha,bx];rfl,aj⟩,Ot (g:=false) h0 (hA.nrm _ ha) (hB.nrm _ bx) rfl⟩
theorem Bcm {Z:Eo} {F:Nat→Prop} {N:Nm} {a:Act} {R:World} {W:List Nat} {s s1:St} (h0:Rel Z F N s a R) {A B:Yk} {t:Tag} {c:DB} {x:St} (hA:Wf s A) (hn:A.nrm=some s1) (hB:Wf s1 B) (h1:AZ t A.outs=some (c,x)) (h2:Br c=true) (h3:Bag t A.outs):
  ∃y,Oc (Aju W s A B) (Tag.ex t) y∧Baj (IM F N s a R W) x y:=by
 have gj:=Pj (f:=Bde A.outs W s) (h:=Kb (Jv A.outs)) (A:=A.outs) (B:=B.outs)
 have d8:Bag t (Aju W s A B).outs:=fun t' c' s' ao hg=>by
  have af:AZ t' (_++_)=some (c',s'):=hg
  rw[gj] at af
  cases ha:AZ t' A.outs with
  | some z=>
   obtain⟨c1,z⟩:=z
   have:=h3 t' c1 z ao ha
   rw[ha] at af
   cases aq:AZ t' B.outs with
   |some w=>
    obtain⟨d,w⟩:=w
    rw[aq] at af;cases af
    rw[WY,this,BI,Agn (Ne.symm ao) h1 h2]
    rfl
   |none=>rw[aq] at af;cases af;exact this
  | none=>
   rw[ha] at af
   cases aq:AZ t' B.outs with
   |some w=>
    obtain⟨d,w⟩:=w
    rw[aq] at af;cases af
    rw[BI,Ze h1 h2]
    rfl
   |none=>rw[aq] at af;cases af
 cases hb:AZ t B.outs with
 |none=>
  refine⟨x,.inl ⟨t,c,rfl,?_,h2,d8⟩,fun _ _ h=>h⟩
  show AZ t (_++_)=_
  rw[gj,h1,hb]
  rfl
 | some y=>
  obtain⟨d,y⟩:=y
  refine⟨Hx (Br c) W s x y,.inl ⟨t,orO c (Kb (Hy t A.outs) d),rfl,?_,?_,d8⟩,Ot (g:=Br c) h0 (hA.outs _ _ _ h1) ((hA.nrm _ hn).trans (hB.outs _ _ _ hb)) (by rw[h2];rfl)⟩
  ·show AZ t (_++_)=_
   rw[gj,h1,hb]
   rfl
  ·rw[WY,h2]
   rfl
theorem Bcn {Z:Eo} {F:Nat→Prop} {N:Nm} {a:Act} {R:World} {W:List Nat} {s s1:St} (h0:Rel Z F N s a R) {A B:Yk} {e:Exit} {x:St} (hA:Wf s A) (hn:A.nrm=some s1) (hB:Wf s1 B) (aj:Ava A.outs) (h:Oc B e x):
  ∃y,Oc (Aju W s A B) e y∧Baj (IM F N s a R W) x y:=by
 have gj:=Pj (f:=Bde A.outs W s) (h:=Kb (Jv A.outs)) (A:=A.outs) (B:=B.outs)
 have dh:=MV hA.once aj
 have ia:∀t,Br (Hy t A.outs)=true:=fun t=>Ago fun e he=>aj e.1 e.2.1 e.2.2 (Agd hA.once e he)
 rcases h with⟨t,c,rfl,h1,h2,h3⟩|⟨rfl,h1,h2⟩
 ·have d8:Bag t (Aju W s A B).outs:=fun t' c' s' ao hg=>by
   have af:AZ t' (_++_)=some (c',s'):=hg
   rw[gj] at af
   cases ha:AZ t' A.outs with
   | some z=>
    obtain⟨c1,z⟩:=z
    have:=aj t' c1 z ha
    rw[ha] at af
    cases aq:AZ t' B.outs with
    |some w=>
     obtain⟨d,w⟩:=w
     rw[aq] at af;cases af
     rw[WY,this,BI,h3 t' d _ ao aq,Bool.and_false]
     rfl
    |none=>rw[aq] at af;cases af;exact this
   | none=>
    rw[ha] at af
    cases aq:AZ t' B.outs with
    |some w=>
     obtain⟨d,w⟩:=w
     rw[aq] at af;cases af
     rw[BI,h3 t' d _ ao aq,Bool.and_false]
    |none=>rw[aq] at af;cases af
  cases ha:AZ t A.outs with
  |none=>
   refine⟨x,.inl ⟨t,Kb (Jv A.outs) c,rfl,?_,by rw[BI,dh,h2];rfl,d8⟩,fun _ _ h=>h⟩
   show AZ t (_++_)=_
   rw[gj,ha,h1]
  | some y=>
   obtain⟨d,y⟩:=y
   have hd:=aj t d y ha
   refine⟨Hx (Br d) W s y x,.inl ⟨t,orO d (Kb (Hy t A.outs) c),rfl,?_,?_,d8⟩,Ot (g:=Br d) h0 (hA.outs _ _ _ ha) ((hA.nrm _ hn).trans (hB.outs _ _ _ h1)) (by rw[hd];rfl)⟩
   ·show AZ t (_++_)=_
    rw[gj,ha,h1]
    rfl
   ·rw[WY,BI,ia t,h2,Bool.and_self,Bool.or_true]
 ·refine⟨x,.inr ⟨rfl,h1,fun t' c' s' hg=>?_⟩,fun _ _ h=>h⟩
  have af:AZ t' (_++_)=some (c',s'):=hg
  rw[gj] at af
  cases ha:AZ t' A.outs with
  | some z=>
   obtain⟨c1,z⟩:=z
   have:=aj t' c1 z ha
   rw[ha] at af
   cases aq:AZ t' B.outs with
   |some w=>
    obtain⟨d,w⟩:=w
    rw[aq] at af;cases af
    rw[WY,this,BI,h2 t' d _ aq,Bool.and_false]
    rfl
   |none=>rw[aq] at af;cases af;exact this
  | none=>
   rw[ha] at af
   cases aq:AZ t' B.outs with
   |some w=>
    obtain⟨d,w⟩:=w
    rw[aq] at af;cases af
    rw[BI,h2 t' d _ aq,Bool.and_false]
   |none=>rw[aq] at af;cases af
theorem A38 {W:List Nat} {s:St} {A B:Yk} (hA:Wf s A) (aj:Ava A.outs) (h:∀p∈(Aju W s A B).ps,p):(∀p∈B.ps,p):=by
 have h':=(Ki h).2
 refine JU h' fun q hq=>?_
 have dh:=MV hA.once aj
 cases hc:Jv A.outs with
 |none=>rw[hc] at hq;cases hq
 |some b=>
  rw[hc] at hq dh
  obtain rfl:=List.mem_singleton.1 hq
  exact dh
def Bjl (E:Env) (f:St→Yk) (c:Code):Prop:=∀(Z:Eo) (s:St) (a:Act) (R:World) (Q:Exit→Act→World→Prop),LN Z a R s→(∀u,Ma u (MQ c)=true→Z.W u)→(∀p∈(f s).ps,p)→
 (∀e x a' R',Oc (f s) e x→LN Z a' R' x→Q e a' R')→Yl E.ir E.P c Q a R
theorem Auj {E:Env} {W:List Nat} {f:St→Yk} {c:Code} (hw:∀s,Wf s (f s)) (hf:Bjl E f c) {Z:Eo} {F:Nat→Prop} {N:Nm} {s:St} {a:Act} {R:World} {Q:Exit→Act→World→Prop} {s1:St} {B:Yk} {ms:List Deferred} (h0:Rel (A11 Z ms) F N s a R) (hm:Marks Z.R.heap.size F N s.o R ms) (hW:∀u,Ma u W=true→Z.W u) (hc:∀u,Ma u (MQ c)=true→Ma u W=true) (hn:(f s).nrm=some s1) (hB:Wf s1 B) (hp:∀p∈(Aju W s (f s) B).ps,p) (hk:∀e x a' R',Oc (Aju W s (f s) B) e x→LN Z a' R' x→Q e a' R') {K:Act→World→Prop} (hd:∀(a':Act) (R':World),LN (IM F N s a R W) a' R' s1→(∀p∈B.ps,p)→(∀e x pv R'',Oc B e x→LN (IM F N s a R W) pv R'' x→Q e pv R'')→K a' R'):Yl E.ir E.P c (Exit.then K Q) a R:=by
 refine hf (IM F N s a R W) s a R _ (LN.start h0 W) (fun u hu=>hc u hu) (Ki hp).1 fun e x a' R' ho hr=>?_
 rcases ho with⟨t,cc,rfl,h1,h2,h3⟩|⟨rfl,h1,h2⟩
 ·obtain⟨y,hy,fl⟩:=Bcm h0 (hw s) hn hB h1 h2 h3
  have:=hk _ y a' R' hy (LN.over h0 hm hW (fl _ _ hr))
  cases t<;>exact this
 ·rw[hn] at h1
  obtain rfl:=Option.some.inj h1
  refine hd a' R' hr (A38 (hw s) h2 hp) fun e x pv R'' ho' fl=>?_
  obtain⟨y,hy,sj⟩:=Bcn h0 (hw s) hn hB h2 ho'
  exact hk e y pv R'' hy (LN.over h0 hm hW (sj _ _ fl))
theorem Xj {u:Nat} {A B:List Nat} (h:Ma u A=true):Ma u (A++B)=true:=by rw[VV,h];rfl
theorem YW {u:Nat} {A B:List Nat} (h:Ma u B=true):Ma u (A++B)=true:=by rw[VV,h];cases Ma u A<;>rfl
theorem G1 {E:Env} (ok:Kh E) {u:Nat}:∀(l:Nat) (c:Code) (hd:Bool),Bjl E (MR E u l c hd) c
 |_,.skip,_=>fun Z s a R Q h _ _ hk=>Bab (hk _ s a R (.inr ⟨rfl,rfl,fun _ _ _ h=>by cases h⟩) h)
 | _,.region id ops draw,_=>fun Z s a R Q h hW hp hk=>by
  unfold MR at hp hk
  cases he:evR E ops.toList draw s with
  |none=>rw[he] at hp;exact(hp (Wz id) (List.mem_singleton.2 rfl)).elim
  |some x=>
   obtain⟨s',ps⟩:=x
   rw[he] at hp hk
   obtain⟨ms,F,N,h,hm⟩:=h
   have:=A3z ok.toEnvOk (h.start (L9 ops.toList)) (id:=id) (fun u hu=>hu) he hp (Q:=Q) fun F' N' a' R' hr=>hk _ s' a' R' (.inr ⟨rfl,rfl,fun _ _ _ h=>by cases h⟩) (LN.over h hm hW ⟨[],F',N',hr,Marks.nil⟩)
   rwa[Array.toArray_toList] at this
 | _,.seq c d,hd=>fun Z s a R Q h hW hp hk=>by
  unfold MR at hp hk
  refine Bed ?_
  cases hn:(MR E u 0 c hd s).nrm with
  | none=>
   rw[hn] at hp hk
   refine G1 ok 0 c hd Z s a R _ h (fun u hu=>hW u (Xj hu)) hp fun e x a' R' ho hr=>?_
   have:=hk e x a' R' ho hr
   rcases ho with⟨t,cc,rfl,_,_,_⟩|⟨rfl,h1,_⟩
   ·cases t<;>exact this
   ·rw[hn] at h1
    cases h1
  |some s1=>
   rw[hn] at hp hk
   obtain⟨ms,F,N,h,hm⟩:=h
   exact Auj (fun s=>Er ok 0 c hd s) (G1 ok 0 c hd) h hm hW (fun u hu=>Xj hu) hn (Er ok 0 d _ s1) hp hk fun a' R' hr fj ai=>G1 ok 0 d _ _ s1 a' R' Q hr (fun u hu=>YW hu) fj ai
 | _,.cond c x y,hd=>fun Z s a R Q h hW hp hk=>by
  unfold MR at hp hk
  split at hp
  ·rename_i g hg
   rw[hg] at hk
   simp only at hk
   obtain⟨ms,F,N,h,hm⟩:=h
   have gy:=Dz h (Ep _) hg
   generalize Bhs hd u=lt at hp hk
   cases lt with
   |true=>
    cases g with
    |true=>exact Vc gy (G1 ok 0 x false Z s a R Q ⟨ms,F,N,h,hm⟩ (fun u hu=>hW u (Xj hu)) hp hk)
    |false=>exact Tl gy (G1 ok 0 y false Z s a R Q ⟨ms,F,N,h,hm⟩ (fun u hu=>hW u (YW hu)) hp hk)
   |false=>
   obtain⟨dn,d9⟩:=Ki hp
   have main:∀z:Exit×St,Oc (bif g then MR E u 0 x false s else MR E u 0 y false s) z.1 z.2→∀a' R',LN (IM F N s a R (MQ x++MQ y)) a' R' z.2→Q z.1 a' R':=fun z hz a' R' hr=>by
    obtain⟨w,hw,fl⟩:=Bcl h (Er ok 0 x _ s) (Er ok 0 y _ s) hz
    exact hk z.1 w a' R' hw (LN.over h hm hW (fl _ _ hr))
   cases g with
   |true=>
    exact Vc gy (G1 ok 0 x false (IM F N s a R (MQ x++MQ y)) s a R Q (LN.start h _) (fun u hu=>Xj hu) (JU dn fun q hq=>by obtain rfl:=List.mem_singleton.1 hq;rfl) fun e z a' R' ho hr=>main (e,z) ho a' R' hr)
   |false=>
    exact Tl gy (G1 ok 0 y false (IM F N s a R (MQ x++MQ y)) s a R Q (LN.start h _) (fun u hu=>YW hu) (JU d9 fun q hq=>by obtain rfl:=List.mem_singleton.1 hq;rfl) fun e z a' R' ho hr=>main (e,z) ho a' R' hr)
  ·exact(hp (Wz 1000001) (List.mem_singleton.2 rfl)).elim
 | _, .block id b,_=>fun Z s a R Q h hW hp hk=>by
  refine A4l ?_
  obtain⟨ms,F,N,h,hm⟩:=h
  have hwf:=Er ok (u:=u) id b false s
  have fj:∀p∈(MR E u id b false s).ps,p:=fun p hm=>hp p (by
   show p∈(Oi (MQ b) s id (MR E u id b false s)).ps
   unfold Oi
   cases hg:AZ (some id) (MR E u id b false s).outs with
   |none=>exact hm
   |some y=>exact hm)
  refine G1 ok id b false (IM F N s a R (MQ b)) s a R _ (LN.start h _) (fun u hu=>hu) fj fun e x a' R' ho hr=>?_
  have ai:∀e x a' R',Oc (Oi (MQ b) s id (MR E u id b false s)) e x→LN Z a' R' x→Q e a' R':=hk
  have hz:LN Z a' R' x:=LN.over h hm hW hr
  generalize MR E u id b false s=A at*
  cases hg:AZ (some id) A.outs with
  | none=>
   have fa:Oi (MQ b) s id A=A:=by unfold Oi;rw[hg]
   rw[fa] at ai
   have:=ai e x a' R' ho hz
   rcases ho with⟨t,cc,rfl,h1,_,_⟩|⟨rfl,_,_⟩
   ·cases t with
    |none=>exact this
    |some i=>
     have ao:i≠id:=fun e=>by subst e;rw[hg] at h1;cases h1
     show Exit.inBlock id Q (.exit i) a' R'
     unfold Exit.inBlock
     simp only[ao,if_false]
     exact this
   ·exact this
  | some y=>
   obtain⟨c,y⟩:=y
   have fa:Oi (MQ b) s id A=⟨A.ps,Lg (some id) A.outs,match A.nrm with|none=>some y|some z=>some (Hx (Br c) (MQ b) s y z)⟩:=by unfold Oi;rw[hg]
   rw[fa] at ai
   rcases ho with⟨t,cc,rfl,h1,h2,h3⟩|⟨rfl,h1,h2⟩
   ·by_cases ht:t=some id
    ·subst ht
     rw[hg] at h1
     obtain⟨rfl,rfl⟩:c=cc∧y=x:=by cases h1;exact⟨rfl,rfl⟩
     have aj:Ava (Lg (some id) A.outs):=fun t' c' s' af=>by
      rw[Jt] at af
      split at af
      ·cases af
      ·rename_i ao
       exact h3 t' c' s' ao af
     show Exit.inBlock id Q (.exit id) a' R'
     unfold Exit.inBlock
     simp only[if_true]
     cases hn:A.nrm with
     |none=>
      rw[hn] at ai
      exact ai .normal y a' R' (.inr ⟨rfl,rfl,aj⟩) hz
     |some z=>
      rw[hn] at ai
      have:=Ot (g:=Br c) h (hwf.outs _ _ _ hg) (hwf.nrm _ hn) (by rw[h2];rfl) _ _ hr
      exact ai .normal _ a' R' (.inr ⟨rfl,rfl,aj⟩) (LN.over h hm hW this)
    ·have ho':AZ t (Lg (some id) A.outs)=some (cc,x):=by rw[Jt,if_neg ht];exact h1
     have:=ai (Tag.ex t) x a' R' (.inl ⟨t,cc,rfl,ho',h2,fun t' c' s' ao af=>by
      rw[Jt] at af
      split at af
      ·cases af
      ·exact h3 t' c' s' ao af⟩) hz
     cases t with
     |none=>exact this
     |some i=>
      have ao:i≠id:=fun e=>ht (by rw[e])
      show Exit.inBlock id Q (.exit i) a' R'
      unfold Exit.inBlock
      simp only[ao,if_false]
      exact this
   ·have aj:Ava (Lg (some id) A.outs):=fun t' c' s' af=>by
     rw[Jt] at af
     split at af
     ·cases af
     ·exact h2 t' c' s' af
    rw[h1] at ai
    have:=Ot (g:=Br c) h (hwf.outs _ _ _ hg) (hwf.nrm _ h1) (by rw[h2 _ _ _ hg];rfl) _ _ hr
    exact ai .normal _ a' R' (.inr ⟨rfl,rfl,aj⟩) (LN.over h hm hW this)
 | l, .loop b,_=>fun Z s a R Q h hW hp hk=>by
  unfold MR at hp hk
  cases hL:(bif Nat.ble rfK l then none else E.L l s) with
  | some r=>
   obtain⟨b0,ps,outs⟩:=r
   rw[hL] at hp hk
   have hb:b=b0:=hp _ (List.mem_cons_self ..)
   subst hb
   have ae:Nat.ble rfK l=false:=by
    cases hb:Nat.ble rfK l with
    |true=>rw[hb] at hL;cases hL
    |false=>rfl
   rw[ae,cond_false] at hL
   refine((ok.loops _ _ _ _ _ hL).1 ae).2 Z a R Q h hW (fun p hm=>hp p (List.mem_cons_of_mem _ hm)) fun e x a' R' ho hr=>hk e x a' R' ?_ hr
   rcases ho with⟨t,c,rfl,h1,h2,h3⟩|⟨rfl,h1,h2⟩
   ·exact .inl ⟨t,c,rfl,h1,h2,h3⟩
   ·cases h1
  |none=>
  rw[hL] at hp hk
  have key:∀(n:Nat) (Z:Eo) (s:St) (a:Act) (R:World) (Q:Exit→Act→World→Prop),LN Z a R s→(∀u,Ma u (MQ b)=true→Z.W u)→(∀p∈(Af7 (MQ b) (MR E u 0 b true) n s).ps,p)→(∀e x a' R',Oc (Af7 (MQ b) (MR E u 0 b true) n s) e x→LN Z a' R' x→Q e a' R')→
    TO E.ir E.P b Q n a R:=fun n=>by
   induction n with
   |zero=>intro Z s a R Q h hW hp hk;exact(hp (Wz 1000000) (List.mem_singleton.2 rfl)).elim
   | succ n ih=>
    intro Z s a R Q h hW hp hk
    show Yl E.ir E.P b (Exit.then (TO E.ir E.P b Q n) Q) a R
    unfold Af7 at hp hk
    cases hn:(MR E u 0 b true s).nrm with
    | none=>
     rw[hn] at hp hk
     refine G1 ok 0 b true Z s a R _ h hW hp fun e x a' R' ho hr=>?_
     have:=hk e x a' R' ho hr
     rcases ho with⟨t,cc,rfl,_,_,_⟩|⟨rfl,h1,_⟩
     ·cases t<;>exact this
     ·rw[hn] at h1
      cases h1
    |some s1=>
     rw[hn] at hp hk
     obtain⟨ms,F,N,h,hm⟩:=h
     exact Auj (fun s=>Er ok 0 b true s) (G1 ok 0 b true) h hm hW (fun u hu=>hu) hn (Apw (fun s=>Er ok 0 b true s) n s1) hp hk fun a' R' hr fj ai=>ih _ s1 a' R' Q hr (fun u hu=>hu) fj ai
  exact Rx u (key u Z s a R Q h hW hp hk)
 | _,.exit id,_=>fun Z s a R Q h _ _ hk=>Baa (hk _ s a R (.inl ⟨some id,none,rfl,by show(bif E1 (some id) (some id) then some (none,s) else none)=_;rw[PO];rfl,rfl,fun t' c x ao hg=>by
   have h':(bif E1 (some id) t' then some (none,s) else none)=some (c,x):=hg
   rw[TT (Ne.symm ao)] at h'
   cases h'⟩) h)
 | _,.ret,_=>fun Z s a R Q h _ _ hk=>Bec (hk _ s a R (.inl ⟨none,none,rfl,rfl,rfl,fun t' c x ao hg=>by
   have h':(bif E1 none t' then some (none,s) else none)=some (c,x):=hg
   rw[TT (Ne.symm ao)] at h'
   cases h'⟩) h)
 | l,.rangeFunc g qs c b,_=>fun Z s a R Q h hW hp hk=>by
  unfold MR at hp hk
  split at hp
  ·rename_i b0 ps t d s1 hL
   rw[hL] at hk
   have hb:Code.rangeFunc g qs c b=b0:=hp _ (List.mem_cons_self ..)
   subst hb
   exact((ok.loops _ _ _ _ _ hL).2 (by rw[Nat.ble_eq];omega) _ _ _ rfl).2 Z a R Q h hW (fun p hm=>hp p (List.mem_cons_of_mem _ hm)) fun a' R' hr=>hk .normal s1 a' R' (.inr ⟨rfl,rfl,fun t c x hg=>by cases hg⟩) hr
  ·exact(hp (Wz 1000002) (List.mem_singleton.2 rfl)).elim
 | _,.scope b,_=>fun Z s a R Q h hW hp hk=>A4n (G1 ok 0 b false Z s a R _ h hW hp fun e x a' R' ho hr=>by
   have:=hk e x a' R' ho hr
   rcases ho with⟨t,c,rfl,_⟩|⟨rfl,_⟩
   ·cases t<;>exact this
   ·exact this)
 |_,.label _,_=>fun Z s a R Q h _ _ hk=>A4m (hk .normal s a R (.inr ⟨rfl,rfl,fun t c x hg=>by cases hg⟩) h)
 |_,.goto _,_=>fun Z s a R Q _ _ hp _=>(hp (Wz 1000002) (List.mem_singleton.2 rfl)).elim
 |_,.refuse _,_=>fun Z s a R Q _ _ hp _=>(hp (Wz 1000002) (List.mem_singleton.2 rfl)).elim
mutual
def A.pk (ρ:Nat→Option Nat):A→A
 | .own i off=>match ρ i with
  |some j=> .own j off
  |none=> .dead
 | .ownx i base len k=>match ρ i with
  |some j=> .ownx j base len k
  |none=> .dead
 | .sq i=>match ρ i with
  |some j=> .sq j
  |none=> .dead
 | .vw i size lo n full=>match ρ i with
  |some j=> .vw j size lo n full
  |none=> .dead
 | .el i k size off=>match ρ i with
  |some j=> .el j k size off
  |none=> .dead
 | .mp i=>match ρ i with
  |some j=> .mp j
  |none=> .dead
 | .dq i=>match ρ i with
  |some j=> .dq j
  |none=> .dead
 | .iv i k=>match ρ i with
  |some j=> .iv j k
  |none=> .dead
 | .de i k size off=>match ρ i with
  |some j=> .de j k size off
  |none=> .dead
 | .ie i k m size off=>match ρ i with
  |some j=> .ie j k m size off
  |none=> .dead
 | .fn f first caps=> .fn f (pkL ρ first) (pkL ρ caps)
 | .agg xs=> .agg (pkL ρ xs)
 | .tup xs=> .tup (pkL ρ xs)
 | .ref l=> .ref (pkL ρ l)
 | .opt u b x=> .opt u b (x.pk ρ)
 | .v x=> .v x
 | .sl c l=> .sl c l
 | .nl=> .nl
 | .it q vs=> .it q vs
 | .dead=> .dead
 | .av c n l=> .av c n l
 | .rv xs=> .rv (pkL ρ xs)
 | .vr i base lo m=>match ρ i with
  |some j=> .vr j base lo m
  |none=> .dead
 | .vd i base m cap=>match ρ i with
  |some j=> .vd j base m cap
  |none=> .dead
 | .yl i=>match ρ i with
  |some j=> .yl j
  |none=> .dead
def pkL (ρ:Nat→Option Nat):List A→List A
 | []=>[]
 |x::r=>x.pk ρ::pkL ρ r
end
theorem Lx {ρ:Nat→Option Nat}:∀{l:List A} {j:Nat} {x:A},(pkL ρ l)[j]?=some x→∃y,l[j]?=some y∧x=y.pk ρ
 | [],j,x,h=>by unfold pkL at h;cases j<;>cases h
 |y::r,0,x,h=>by unfold pkL at h;cases h;exact⟨y,rfl,rfl⟩
 |y::r,j+1,x,h=>by unfold pkL at h;exact Lx (l:=r) h
theorem Kw {ρ:Nat→Option Nat}:∀l:List A,(pkL ρ l).length=l.length
 | []=>by unfold pkL;rfl
 |y::r=>by unfold pkL;rw[List.length_cons,List.length_cons,Kw r]
theorem A0h {ρ:Nat→Option Nat} {x:A} (h:Ke (x.pk ρ)=false):Ke x=false:=by
 cases x<;>first|rfl|(unfold A.pk at h;exact h)
theorem Am9 (ρ:Nat→Option Nat) (c:TC) (d:U c):∀x∈enc c d,x.pk ρ=x:=fun x hx=>by
 have:=Pf c d x hx
 cases x<;>first|(unfold A.pk;rfl)|exact this.elim
def Pk (ρ:Nat→Option Nat) (N:Nm) (nx:Nat) (N':Nm) (nx':Nat):Prop:=∀i j,i <nx→ρ i=some j→j <nx'∧N'.b j=N.b i∧N'.q j=N.q i
section
variable {F:Nat→Prop} {N N':Nm} {nx nx':Nat} {R:World} {ρ:Nat→Option Nat}
theorem Hv.pk (st:Pk ρ N nx N' nx') {x:A} {y:Value} (h:Hv F N nx R x y):Hv F N' nx' R (x.pk ρ) y:=by
 induction h with
 |v x=>unfold A.pk;exact .v x
 | @sl c l a cap ad h1 h2 h3 h4 ih=>
  unfold A.pk
  refine .sl ad h1 h2 h3 (fun i d j x y hd hx hy=>?_)
  have:=ih i d j x y hd hx hy
  rwa[Am9 ρ c d x (List.mem_of_getElem? hx)] at this
 | @ref l ad h1 h2 h3 ih=>
  unfold A.pk
  refine .ref ad h1 (fun j x hx=>?_) (fun j x y hx hy=>?_)
  ·obtain⟨z,hz,rfl⟩:=Lx hx;exact h2 j z hz
  ·obtain⟨z,hz,rfl⟩:=Lx hx;exact ih j z y hz hy
 | own h=>
  unfold A.pk
  split
  ·rename_i j hj
   obtain⟨h1,h2,_⟩:=st _ _ h hj
   rw[←h2];exact .own h1
  ·exact .dead _
 | ownx h=>
  unfold A.pk
  split
  ·rename_i j hj
   obtain⟨h1,h2,_⟩:=st _ _ h hj
   rw[←h2];exact .ownx h1
  ·exact .dead _
 | sq h=>
  unfold A.pk
  split
  ·rename_i j hj
   obtain⟨h1,_,h2⟩:=st _ _ h hj
   rw[←h2];exact .sq h1
  ·exact .dead _
 | vw h h1 h2 h3=>
  unfold A.pk
  split
  ·rename_i j hj
   obtain⟨k1,_,k2⟩:=st _ _ h hj
   exact .vw k1 h1 h2 (fun hn=>by rw[k2];exact h3 hn)
  ·exact .dead _
 | el h=>
  unfold A.pk
  split
  ·rename_i j hj
   obtain⟨h1,_,h2⟩:=st _ _ h hj
   rw[←h2];exact .el h1
  ·exact .dead _
 | dq h=>
  unfold A.pk
  split
  ·rename_i j hj
   obtain⟨h1,_,h2⟩:=st _ _ h hj
   rw[←h2];exact .dq h1
  ·exact .dead _
 | iv h=>
  unfold A.pk
  split
  ·rename_i j hj
   obtain⟨h1,_,h2⟩:=st _ _ h hj
   rw[←h2];exact .iv h1
  ·exact .dead _
 | de h=>
  unfold A.pk
  split
  ·rename_i j hj
   obtain⟨h1,_,h2⟩:=st _ _ h hj
   rw[←h2];exact .de h1
  ·exact .dead _
 | ie h=>
  unfold A.pk
  split
  ·rename_i j hj
   obtain⟨h1,_,h2⟩:=st _ _ h hj
   rw[←h2];exact .ie h1
  ·exact .dead _
 | mp h=>
  unfold A.pk
  split
  ·rename_i j hj
   obtain⟨h1,h2,_⟩:=st _ _ h hj
   rw[←h2];exact .mp h1
  ·exact .dead _
 |nl a=>unfold A.pk;exact .nl a
 |it q vs y h=>unfold A.pk;exact .it q vs y h
 |fn vs us h1 _ h3 _ jb jc=>
  unfold A.pk
  exact .fn vs us (by rw[Kw];exact h1) (fun j x v hx hv=>by obtain⟨z,hz,rfl⟩:=Lx hx;exact jb j z v hz hv) (by rw[Kw];exact h3) (fun j x v hx hv=>by obtain⟨z,hz,rfl⟩:=Lx hx;exact jc j z v hz hv)
 |agg vs h1 _ ih=>unfold A.pk;exact .agg vs (by rw[Kw];exact h1) (fun j x v hx hv=>by obtain⟨z,hz,rfl⟩:=Lx hx;exact ih j z v hz hv)
 |tup vs h1 _ ih=>unfold A.pk;exact .tup vs (by rw[Kw];exact h1) (fun j x v hx hv=>by obtain⟨z,hz,rfl⟩:=Lx hx;exact ih j z v hz hv)
 |dead y=>unfold A.pk;exact .dead y
 |av h1 h2=>unfold A.pk;exact .av h1 h2
 |rv vs h1 _ h3 ih=>
  unfold A.pk
  refine .rv vs (by rw[Kw];exact h1) (fun j x v hx hv=>by obtain⟨z,hz,rfl⟩:=Lx hx;exact ih j z v hz hv) (fun j x v hx hv hi=>?_)
  obtain⟨z,hz,rfl⟩:=Lx hx
  exact h3 j z v hz hv (A0h hi)
 | vd h=>
  unfold A.pk
  split
  ·rename_i j hj
   obtain⟨h1,h2,_⟩:=st _ _ h hj
   rw[←h2];exact .vd h1
  ·exact .dead _
 | yl h=>
  unfold A.pk
  split
  ·rename_i j hj
   obtain⟨h1,h2,_⟩:=st _ _ h hj
   rw[←h2];exact .yl h1
  ·exact .dead _
 | vr ad h k1=>
  unfold A.pk
  split
  ·rename_i j hj
   obtain⟨h1,h2,_⟩:=st _ _ h hj
   exact .vr ad h1 fun hm=>by rw[h2];exact k1 hm
  ·exact .dead _
theorem HW.pk (st:Pk ρ N nx N' nx'):∀{xs:List A} {us:List Value},HW F N nx R xs us→HW F N' nx' R (pkL ρ xs) us
 | [],_,h=>by unfold pkL;exact h
 |x::r,_,⟨v,t,h1,h2,h3,h4⟩=>by
  unfold pkL
  exact⟨v,t,h1,h2.pk st,fun hi=>h3 (A0h hi),HW.pk st h4⟩
theorem HL.pk (st:Pk ρ N nx N' nx'):∀{xs:List A} {vs:List Value},HL F N nx R xs vs→HL F N' nx' R (pkL ρ xs) vs
 | [],_,h=>by unfold pkL;exact h
 |x::r,_,⟨v,vs,h1,h2,h3⟩=>by
  unfold pkL
  exact⟨v,vs,h1,h2.pk st,HL.pk st h3⟩
end
def EC.pk (ρ:Nat→Option Nat):EC→EC
 | .lst cs=> .lst (cs.map (pkL ρ))
 | .ty c l=> .ty c l
def Ob.pk (ρ:Nat→Option Nat):Ob→Ob
 | .box e cs=> .box e (pkL ρ cs)
 | .arr e size els=> .arr e size (els.pk ρ)
 | .map k v l=> .map k v l
 | .sit s pos=> .sit s pos
 | .deep e c l=> .deep e c l
 | .rcd e xs=> .rcd e (pkL ρ xs)
 | .abs m c l=> .abs m c l
 | .lp f b us cs k=> .lp f b us (pkL ρ cs) k
theorem Aod (ρ:Nat→Option Nat) (c:TC) (d:U c):pkL ρ (enc c d)=enc c d:=by
 have:∀l:List A,(∀x∈l,x.pk ρ=x)→pkL ρ l=l:=fun l=>by
  induction l with
  |nil=>intro _;unfold pkL;rfl
  |cons x r ih=>intro h;unfold pkL;rw[h x (List.mem_cons_self ..),ih fun y hy=>h y (List.mem_cons_of_mem _ hy)]
 exact this _ (Am9 ρ c d)
theorem Bdx (ρ:Nat→Option Nat) (c:TC) (d:U c):(AX c d).pk ρ=AX c d:=by
 unfold AX
 cases c.isAgg with
 |true=>
  show(OZ (enc c d)).pk ρ=OZ (enc c d)
  unfold OZ
  split
  ·unfold A.pk;rfl
  ·unfold A.pk;rw[Aod]
 |false=>
  have hp:=Am9 ρ c d
  simp only[cond_false]
  generalize enc c d=l at hp⊢
  cases l with
  |nil=>unfold A.pk;rfl
  |cons x r=>exact hp x (List.mem_cons_self ..)
section
variable {F:Nat→Prop} {N N':Nm} {nx nx':Nat} {o o':AJ} {R:World} {ρ:Nat→Option Nat} {i j:Nat} {ob:Ob}
theorem To.pk (st:Pk ρ N nx N' nx') (hi:i <nx) (hj:ρ i=some j) (h:To F N nx R i ob):To F N' nx' R j (ob.pk ρ):=by
 obtain⟨_,sb,sq⟩:=st i j hi hj
 cases ob with
 |box e cs=>
  obtain⟨vs,h1,h2⟩:=h
  exact⟨vs,h1.pk st,by rw[sb];exact h2⟩
 | arr e size els=>
  obtain⟨zs,h1,h2⟩:=h
  cases els with
  |lst cs=>
   have hn:(EC.pk ρ (.lst cs)).n=cs.length:=by simp[EC.pk,EC.n]
   refine⟨zs,by rw[sq,hn];exact h1,fun k hk=>?_⟩
   rw[hn] at hk
   have:=(h2 k hk).pk st
   show HL F N' nx' R (HY (cs.map (pkL ρ)) k) _
   rw[DV,List.getD_eq_getElem?_getD,List.getElem?_map]
   have h3:(EC.lst cs).nth k=cs.getD k []:=DV cs k
   rw[h3,List.getD_eq_getElem?_getD] at this
   have ai:cs[k]?=some cs[k]:=List.getElem?_eq_getElem hk
   rw[ai] at this⊢
   exact this
  |ty c l=>
   refine⟨zs,by rw[sq];exact h1,fun k hk=>?_⟩
   have:=(h2 k hk).pk st
   have e:pkL ρ ((EC.ty c l).nth k)=(EC.ty c l).nth k:=Aod ρ c _
   rw[e] at this
   exact this
 |map k v l=>
  obtain⟨es,cl,h1,h2,h3⟩:=h
  refine⟨es,cl,by rw[sb];exact h1,h2,fun j p e hp he=>⟨(h3 j p e hp he).1,?_⟩⟩
  have:=(h3 j p e hp he).2.pk st
  rwa[Bdx] at this
 |sit s pos=>
  show R.heap[N'.b j]?=_
  rw[sb]
  exact h
 | deep e c l=>
  obtain⟨col,c',zs,h1,h2,h3,h4,h5⟩:=h
  have cz:=(st i j hi hj).1
  refine⟨col,c',zs,h1,by rw[sq];exact h2,fun k d hd=>?_,fun k d hd=>?_,by rw[sq];exact h5⟩
  ·have go:∀(cs:List A) (vs:List Value),(∀x∈cs,x.pk ρ=x)→HL F N nx R (RX i k cs) vs→HL F N' nx' R (RX j k cs) vs:=fun cs=>by
    induction cs with
    |nil=>intro vs _ hh;rw[hh.inv0];exact HL.nil
    | cons x r ih=>
     intro vs hc hh
     have hx:=hc x (List.mem_cons_self ..)
     have hr:=fun y hy=>hc y (List.mem_cons_of_mem _ hy)
     cases x
     case sl c2 l2=>
      obtain⟨w,ws,rfl,w1,w2⟩:=hh.inv
      rw[w1.iv_inv.2,←sq]
      exact HL.cons (.iv cz) (ih ws hr w2)
     all_goals
      obtain⟨w,ws,rfl,w1,w2⟩:=hh.inv
      have w3:=w1.pk st
      rw[hx] at w3
      exact HL.cons w3 (ih ws hr w2)
   exact go _ _ (Am9 ρ c d) (h3 k d hd)
  ·obtain⟨l',e',us,k1,k2,k3⟩:=h4 k d hd
   refine⟨l',e',us,k1,by rw[sq];exact k2,fun m hm=>?_⟩
   have:=(k3 m hm).pk st
   rwa[Aod] at this
 |rcd e xs=>
  obtain⟨us,h1,h2⟩:=h
  exact⟨us,h1.pk st,by rw[sb];exact h2⟩
 |abs m c l=>
  obtain⟨hh,h1,h2⟩:=h
  exact⟨hh,by rw[sq];exact h1,by rw[sq];exact h2⟩
 |lp f b us cs k=>
  obtain⟨vs,h1,h2⟩:=h
  exact⟨vs,h1.pk st,by rw[sb];exact h2⟩
theorem Xb (st:Pk ρ N nx N' nx') (hi:i <nx) (hj:ρ i=some j) {g:Nat}:foot N' j (ob.pk ρ) g↔foot N i ob g:=by
 obtain⟨_,sb,sq⟩:=st i j hi hj
 cases ob<;>simp only[foot,Ob.pk,sb,sq]
theorem Bi.pk (h:Bi F N nx o R) (st:Pk ρ N nx N' nx') (ho:∀j ak,Aq j o'=some ak→∃i ob,ρ i=some j∧Aq i o=some ob∧ak=ob.pk ρ):Bi F N' nx' o' R∧∀g,EN N' o' g→EN N o g:=by
 refine⟨⟨h.flt,fun j ak hj=>?_,fun j ak g hj hg=>?_,fun j k x y g hj hk hx hy=>?_,h.gl⟩,fun g ⟨j,ak,hj,hg⟩=>?_⟩
 ·obtain⟨i,ob,h1,h2,rfl⟩:=ho j ak hj
  obtain⟨h3,h4⟩:=h.ob i ob h2
  exact⟨(st i j h3 h1).1,h4.pk st h3 h1⟩
 ·obtain⟨i,ob,h1,h2,rfl⟩:=ho j ak hj
  exact h.ff i ob g h2 ((Xb st (h.ob i ob h2).1 h1).1 hg)
 ·obtain⟨i,ob,h1,h2,rfl⟩:=ho j x hj
  obtain⟨i',ak,k1,k2,rfl⟩:=ho k y hk
  have:=h.sep i i' ob ak g h2 k2 ((Xb st (h.ob i ob h2).1 h1).1 hx) ((Xb st (h.ob i' ak k2).1 k1).1 hy)
  subst this
  rw[h1] at k1
  exact Option.some.inj k1
 ·obtain⟨i,ob,h1,h2,rfl⟩:=ho j ak hj
  exact⟨i,ob,h2,(Xb st (h.ob i ob h2).1 h1).1 hg⟩
end
abbrev Hl:=List (Nat×Nat)
def fwd:Hl→Nat→Option Nat
 | [],_=>none
 |(k,j)::r,i=>bif Nat.beq k i then some j else fwd r i
def bck:Hl→Nat→Option Nat
 | [],_=>none
 |(k,j)::r,i=>bif Nat.beq j i then some k else bck r i
def SW (nb:Nat) (L:Hl) (i:Nat):Option Nat:=bif Nat.blt i nb then some i else fwd L i
def Ae9 (nb:Nat) (L:Hl) (j:Nat):Nat:=bif Nat.blt j nb then j else match bck L j with
 |some k=>k
 |none=>0
def NX (nb nx':Nat):Hl→Bool
 | []=>true
 |(k,j)::r=>Nat.ble nb k&&(Nat.ble nb j&&(Nat.blt j nx'&&(isNone (fwd r k)&&(isNone (bck r j)&&NX nb nx' r))))
theorem VW {o:Option Nat}:isNone o=true↔o=none:=by cases o<;>simp[isNone]
theorem Az6 {nb nx':Nat}:∀{L:Hl} {i j:Nat},NX nb nx' L=true→fwd L i=some j→bck L j=some i∧nb≤i∧nb≤j∧j <nx'
 | [],i,j,_,h=>by cases h
 | (k,m)::r,i,j,h0,h=>by
  unfold NX at h0
  simp only[Bool.and_eq_true] at h0
  obtain⟨a1,a2,a3,a4,a5,a6⟩:=h0
  unfold fwd at h
  cases hb:Nat.beq k i with
  |true=>
   rw[hb] at h
   cases h
   obtain rfl:=Nat.eq_of_beq_eq_true hb
   refine⟨?_,Nat.le_of_ble_eq_true a1,Nat.le_of_ble_eq_true a2,Nat.le_of_ble_eq_true a3⟩
   unfold bck
   rw[KU]
   rfl
  | false=>
   rw[hb] at h
   obtain⟨h1,h2⟩:=Az6 a6 h
   refine⟨?_,h2⟩
   unfold bck
   cases hm:Nat.beq m j with
   |true=>
    obtain rfl:=Nat.eq_of_beq_eq_true hm
    rw[VW.1 a5] at h1
    cases h1
   |false=>exact h1
def nm2 (N:Nm) (nb:Nat) (L:Hl):Nm:=⟨fun j=>N.b (Ae9 nb L j),fun j=>N.q (Ae9 nb L j)⟩
theorem Bb5 {nb nx':Nat} {L:Hl} (h0:NX nb nx' L=true) {i j:Nat} (h:SW nb L i=some j):Ae9 nb L j=i∧(i <nb∧j=i∨nb≤i∧nb≤j∧j <nx'):=by
 unfold SW at h
 cases hb:Nat.blt i nb with
 |true=>
  rw[hb] at h
  cases h
  refine⟨?_,.inl ⟨Nat.le_of_ble_eq_true hb,rfl⟩⟩
  unfold Ae9
  rw[hb]
  rfl
 | false=>
  rw[hb] at h
  obtain⟨h1,h2,h3,h4⟩:=Az6 h0 h
  refine⟨?_,.inr ⟨h2,h3,h4⟩⟩
  unfold Ae9
  have:Nat.blt j nb=false:=by
   cases hj:Nat.blt j nb with
   |false=>rfl
   |true=>exact absurd (Nat.le_of_ble_eq_true hj) (by omega)
  rw[this,h1]
  rfl
theorem pk2 {N:Nm} {nb n nx':Nat} {L:Hl} (h0:NX nb nx' L=true) (_hnb:nb≤nx'):Pk (SW nb L) N n (nm2 N nb L) nx':=fun i j _ hj=>by
 obtain⟨h1,h2⟩:=Bb5 h0 hj
 refine⟨?_,by show N.b (Ae9 nb L j)=_;rw[h1],by show N.q (Ae9 nb L j)=_;rw[h1]⟩
 rcases h2 with⟨h2,rfl⟩|⟨_,_,h2⟩
 ·omega
 ·exact h2
def Atm (nb:Nat) (L:Hl) (o:AJ):Hl→AJ
 | []=>[]
 |(k,j)::r=>(j,match Aq k o with
  |some ob=>some (ob.pk (SW nb L))
  |none=>none)::Atm nb L o r
def Aa0 (nb:Nat) (L:Hl) (o:AJ):List Nat→AJ
 | []=>[]
 |k::r=>bif Nat.blt k nb then(k,match Aq k o with
  |some ob=>some (ob.pk (SW nb L))
  |none=>none)::Aa0 nb L o r else Aa0 nb L o r
theorem Aaq {nb:Nat} {L:Hl} {o:AJ} {j:Nat} {ak:Ob}:∀{r:Hl},Aq j (Atm nb L o r)=some ak→∃k ob,(k,j)∈r∧Aq k o=some ob∧ak=ob.pk (SW nb L)
 | [],h=>by cases h
 | (k,m)::r,h=>by
  unfold Atm at h
  have h':(bif Nat.beq m j then(match Aq k o with|some ob=>some (ob.pk (SW nb L))|none=>none) else Aq j (Atm nb L o r))=some ak:=h
  cases hb:Nat.beq m j with
  |true=>
   rw[hb] at h'
   obtain rfl:=Nat.eq_of_beq_eq_true hb
   simp only[cond_true] at h'
   split at h'<;>first|(cases h';done)|skip
   rename_i ob fh
   cases h'
   exact⟨k,ob,List.mem_cons_self ..,fh,rfl⟩
  |false=>
   rw[hb] at h'
   obtain⟨k',ob,h1,h2⟩:=Aaq h'
   exact⟨k',ob,List.mem_cons_of_mem _ h1,h2⟩
theorem Sl {nb:Nat} {L:Hl} {o:AJ} {j:Nat} {ak:Ob}:∀{r:List Nat},Aq j (Aa0 nb L o r)=some ak→j <nb∧∃ob,Aq j o=some ob∧ak=ob.pk (SW nb L)
 | [],h=>by cases h
 | k::r,h=>by
  unfold Aa0 at h
  cases hk:Nat.blt k nb with
  |false=>rw[hk] at h;exact Sl h
  | true=>
   rw[hk] at h
   have h':(bif Nat.beq k j then(match Aq k o with|some ob=>some (ob.pk (SW nb L))|none=>none) else Aq j (Aa0 nb L o r))=some ak:=h
   cases hb:Nat.beq k j with
   |true=>
    rw[hb] at h'
    obtain rfl:=Nat.eq_of_beq_eq_true hb
    simp only[cond_true] at h'
    split at h'<;>first|(cases h';done)|skip
    rename_i ob fh
    cases h'
    exact⟨Nat.le_of_ble_eq_true hk,ob,fh,rfl⟩
   |false=>rw[hb] at h';exact Sl h'
theorem Sd {nb:Nat} {L:Hl} {o:AJ} {j:Nat} (hj:j <nb):∀{r:List Nat},j∈r→j∈Jc (Aa0 nb L o r)
 | [],h=>by cases h
 | k::r,h=>by
  unfold Aa0
  rcases List.mem_cons.1 h with rfl|h
  ·rw[show Nat.blt j nb=true from Nat.ble_eq_true_of_le hj]
   exact List.mem_cons_self ..
  ·cases Nat.blt k nb with
   |true=>exact List.mem_cons_of_mem _ (Sd hj h)
   |false=>exact Sd hj h
theorem H6 {i:Nat} {ob:Ob} {A B:AJ} (h:Aq i (A++B)=some ob):(i∈Jc A∧Aq i A=some ob)∨(i∉Jc A∧Aq i B=some ob):=by
 by_cases hk:i∈Jc A
 ·rw[Sj hk] at h;exact .inl ⟨hk,h⟩
 ·rw[H5 hk] at h;exact .inr ⟨hk,h⟩
theorem Bc4 {nb nx':Nat}:∀{L:Hl} {k j:Nat},NX nb nx' L=true→(k,j)∈L→SW nb L k=some j
 | [],k,j,_,h=>by cases h
 | (a,b)::r,k,j,h0,h=>by
  have pw:=h0
  unfold NX at h0
  simp only[Bool.and_eq_true] at h0
  obtain⟨a1,a2,a3,a4,a5,a6⟩:=h0
  have dm:∀{L:Hl} {k j:Nat},NX nb nx' L=true→(k,j)∈L→nb≤k:=fun {L}=>by
   induction L with
   |nil=>intro k j _ h;cases h
   |cons p r ih=>
    intro k j h0 h
    obtain⟨x,y⟩:=p
    unfold NX at h0
    simp only[Bool.and_eq_true] at h0
    rcases List.mem_cons.1 h with e|h
    ·cases e;exact Nat.le_of_ble_eq_true h0.1
    ·exact ih h0.2.2.2.2.2 h
  have hk:Nat.blt k nb=false:=by
   cases hb:Nat.blt k nb with
   |false=>rfl
   |true=>exact absurd (dm pw h) (by have:=Nat.le_of_ble_eq_true hb;omega)
  have ih:∀{L:Hl} {k j:Nat},NX nb nx' L=true→(k,j)∈L→fwd L k=some j:=fun {L}=>by
   induction L with
   |nil=>intro k j _ h;cases h
   | cons p r ih=>
    intro k j h0 h
    obtain⟨x,y⟩:=p
    unfold NX at h0
    simp only[Bool.and_eq_true] at h0
    obtain⟨_,_,_,b4,_,b6⟩:=h0
    unfold fwd
    rcases List.mem_cons.1 h with e|h
    ·cases e;rw[KU];rfl
    ·have h1:=ih b6 h
     cases hb:Nat.beq x k with
     |true=>
      obtain rfl:=Nat.eq_of_beq_eq_true hb
      rw[VW.1 b4] at h1
      cases h1
     |false=>exact h1
  unfold SW
  rw[hk]
  exact ih pw h
section
variable {F:Nat→Prop} {N:Nm} {nx:Nat} {o:AJ} {R:World} {ρ:Nat→Option Nat}
theorem Zm {xs:List A} (h:∀(j:Nat) (x:A),xs[j]?=some x→x.pk ρ=x):pkL ρ xs=xs:=by
 induction xs with
 |nil=>unfold pkL;rfl
 |cons x r ih=>unfold pkL;rw[h 0 x rfl,ih fun j y hy=>h (j+1) y hy]
theorem Hv.pk_id (hρ:∀k,k <nx→ρ k=some k) {x:A} {y:Value} (h:Hv F N nx R x y):x.pk ρ=x:=by
 induction h with
 |v x=>unfold A.pk;rfl
 |sl=>unfold A.pk;rfl
 | @ref l ad h1 h2 h3 ih=>
  unfold A.pk
  rw[Zm fun j x hx=>by obtain⟨y,hy⟩:=h2 j x hx;exact ih j x y hx hy]
 |own h=>unfold A.pk;rw[hρ _ h]
 |ownx h=>unfold A.pk;rw[hρ _ h]
 |sq h=>unfold A.pk;rw[hρ _ h]
 |vw h=>unfold A.pk;rw[hρ _ h]
 |el h=>unfold A.pk;rw[hρ _ h]
 |dq h=>unfold A.pk;rw[hρ _ h]
 |iv h=>unfold A.pk;rw[hρ _ h]
 |de h=>unfold A.pk;rw[hρ _ h]
 |ie h=>unfold A.pk;rw[hρ _ h]
 |mp h=>unfold A.pk;rw[hρ _ h]
 |nl a=>unfold A.pk;rfl
 |it q vs y h=>unfold A.pk;rfl
 | @fn f first caps vs us h1 _ h3 _ jb jc=>
  unfold A.pk
  have e1:pkL ρ first=first:=Zm fun j x hx=>by
   have hj:j <vs.length:=by rw[h1];exact(List.getElem?_eq_some_iff.1 hx).1
   exact jb j x _ hx (List.getElem?_eq_getElem hj)
  have e2:pkL ρ caps=caps:=Zm fun j x hx=>by
   have hj:j <us.length:=by rw[h3];exact(List.getElem?_eq_some_iff.1 hx).1
   exact jc j x _ hx (List.getElem?_eq_getElem hj)
  rw[e1,e2]
 | @agg xs vs h1 _ ih=>
  unfold A.pk
  rw[Zm fun j x hx=>by
   have hj:j <vs.length:=by rw[h1];exact(List.getElem?_eq_some_iff.1 hx).1
   exact ih j x _ hx (List.getElem?_eq_getElem hj)]
 | @tup xs vs h1 _ ih=>
  unfold A.pk
  rw[Zm fun j x hx=>by
   have hj:j <vs.length:=by rw[h1];exact(List.getElem?_eq_some_iff.1 hx).1
   exact ih j x _ hx (List.getElem?_eq_getElem hj)]
 |dead y=>unfold A.pk;rfl
 |av h1 h2=>unfold A.pk;rfl
 | @rv xs vs h1 _ _ ih=>
  unfold A.pk
  rw[Zm fun j x hx=>by
   have hj:j <vs.length:=by rw[h1];exact(List.getElem?_eq_some_iff.1 hx).1
   exact ih j x _ hx (List.getElem?_eq_getElem hj)]
 |vr ad h _=>unfold A.pk;rw[hρ _ h]
 |vd h=>unfold A.pk;rw[hρ _ h]
 |yl h=>unfold A.pk;rw[hρ _ h]
theorem HW.pk_id (hρ:∀k,k <nx→ρ k=some k):∀{xs:List A} {us:List Value},HW F N nx R xs us→pkL ρ xs=xs
 | [],_,_=>by unfold pkL;rfl
 |x::r,_,⟨v,t,_,h2,_,h3⟩=>by unfold pkL;rw[h2.pk_id hρ,HW.pk_id hρ h3]
theorem HL.pk_id (hρ:∀k,k <nx→ρ k=some k):∀{xs:List A} {vs:List Value},HL F N nx R xs vs→pkL ρ xs=xs
 | [],_,_=>by unfold pkL;rfl
 |x::r,_,⟨v,vs,_,h2,h3⟩=>by unfold pkL;rw[h2.pk_id hρ,HL.pk_id hρ h3]
theorem Bi.pk_id (h:Bi F N nx o R) (hρ:∀k,k <nx→ρ k=some k) {i:Nat} {ob:Ob} (hi:Aq i o=some ob):ob.pk ρ=ob:=by
 obtain⟨_,h2⟩:=h.ob i ob hi
 cases ob with
 |box e cs=>
  obtain⟨vs,h1,_⟩:=h2
  show Ob.box e (pkL ρ cs)=_
  rw[h1.pk_id hρ]
 |deep e c l=>rfl
 | arr e size els=>
  cases els with
  |ty c l=>rfl
  | lst cs=>
   obtain⟨zs,_,h3⟩:=h2
   show Ob.arr e size (.lst (cs.map (pkL ρ)))=_
   congr 2
   apply List.ext_getElem?
   intro k
   rw[List.getElem?_map]
   cases hk:cs[k]? with
   |none=>rfl
   | some c=>
    have ai:k <cs.length:=(List.getElem?_eq_some_iff.1 hk).1
    have:=(h3 k ai).pk_id hρ
    have e:(EC.lst cs).nth k=c:=by
     show HY cs k=c
     rw[DV,List.getD_eq_getElem?_getD,hk]
     rfl
    rw[e] at this
    exact congrArg some this
 |map k v l=>rfl
 |sit s pos=>rfl
 |rcd e xs=>
  obtain⟨us,h1,_⟩:=h2
  show Ob.rcd e (pkL ρ xs)=_
  rw[h1.pk_id hρ]
 |abs m c l=>rfl
 |lp f b us cs k=>
  obtain⟨vs,h1,_⟩:=h2
  show Ob.lp f b us (pkL ρ cs) k=_
  rw[h1.pk_id hρ]
end
def Lb (nb:Nat) (L:Hl) (o ob:AJ):AJ:=Atm nb L o L++(Aa0 nb L o (Zd o ob.length)++ob)
theorem A3l {F:Nat→Prop} {N:Nm} {nb n nx':Nat} {o ob d:AJ} {R:World} {L:Hl} (h:Bi F N n o R) (h0:NX nb nx' L=true) (ia:nb≤nx') (hd:o=d++ob) {F0:Nat→Prop} {N0:Nm} {R0:World} (hb:Bi F0 N0 nb ob R0):
  Bi F (nm2 N nb L) nx' (Lb nb L o ob) R∧∀g,EN (nm2 N nb L) (Lb nb L o ob) g→EN N o g:=by
 have small:∀k,k <nb→SW nb L k=some k:=fun k hk=>by unfold SW;rw[show Nat.blt k nb=true from Nat.ble_eq_true_of_le hk];rfl
 refine h.pk (pk2 h0 ia) fun j ak hj=>?_
 unfold Lb at hj
 rcases H6 hj with⟨_,h1⟩|⟨_,h1⟩
 ·obtain⟨k,x,h2,h3,h4⟩:=Aaq h1
  exact⟨k,x,Bc4 h0 h2,h3,h4⟩
 ·rcases H6 h1 with⟨_,h2⟩|⟨h2,h3⟩
  ·obtain⟨h3,x,h4,h5⟩:=Sl h2
   exact⟨j,x,small j h3,h4,h5⟩
  ·have h4:=(hb.ob j ak h3).1
   refine⟨j,ak,small j h4,?_,(hb.pk_id small h3).symm⟩
   subst hd
   rw[VY fun hm=>h2 (Sd h4 hm)]
   exact h3
end Go.Proofs.YtifkbgkbajncjaaDoor
namespace Go.Proofs.YtifkbgkbajncjaaDoor
open Go.RowKit
def Bh5 (E:Env) (s:St):ResultVar→R2
 | .tmp t=>match s.ev [] (.tmp t) with
  |some x=>some (x,[])
  |none=>none
 | .cell a t=>Aap E s [] t (.tmp a)
def A8y (E:Env) (s:St):List ResultVar→Option (List A×List Prop)
 | []=>some ([],[])
 | r::rs=>match Bh5 E s r with
  |some (v,ps)=>match A8y E s rs with
   |some (vs,qs)=>some (v::vs,ps++qs)
   |none=>none
  |none=>none
def Aux:List A→A
 | [x]=>x
 |l=>match Aox l with
  |some vs=> .v (.tuple vs.toArray)
  |none=> .tup l
def A9v:List Value→Value
 | [v]=>v
 |l=> .tuple l.toArray
def Bh4 (tmps:Array Value):ResultVar→Sem Value
 | .tmp t=>pure (tmps.getD t undef)
 | .cell a t=>do loadVar t (←asAddr (tmps.getD a undef))
theorem Ax3 (fn:Func) (tmps:Array Value):results fn tmps=(do let vs ←fn.results.mapM (Bh4 tmps);pure (if h:vs.size=1 then vs[0] else .tuple vs)):=rfl
section
variable {E:Env} {Z:Eo} {F:Nat→Prop} {N:Nm} {s:St} {a:Act} {R:World}
theorem Bdt {nx:Nat} {l:List A} {vs:List Value} (h:HL F N nx R l vs):Hv F N nx R (Aux l) (A9v vs):=by
 match l,h with
 | [],h=>
  rw[h.inv0]
  exact .v _
 | [x],h=>
  obtain⟨v,us,rfl,h2,h3⟩:=h.inv
  rw[h3.inv0]
  exact h2
 | x::y::r,h=>
  obtain⟨v,us,rfl,h2,h3⟩:=h.inv
  obtain⟨w,ws,rfl,h4,h5⟩:=h3.inv
  show Hv F N nx R (match Aox (x::y::r) with|some vs=> .v (.tuple vs.toArray)|none=> .tup (x::y::r)) (.tuple (v::w::ws).toArray)
  split
  ·rename_i us hu
   rw[Aoy hu h]
   exact .v _
  ·exact Hv.of_tup h
theorem Bc8 (h:Rel Z F N s a R) {r:ResultVar} {x:A} {ps:List Prop} (he:Bh5 E s r=some (x,ps)) (hp:∀p∈ps,p):∃v,Hv F N s.nx R x v∧(Bh4 a.tmps r).run E.P R=.ok v R:=by
 cases r with
 |tmp t=>
  unfold Bh5 at he
  simp only at he
  split at he<;>try (cases he;done)
  rename_i z hz
  cases he
  exact⟨_,(Bs h (Ep _) hz).2,rfl⟩
 |cell c t=>
  obtain⟨v,h1,h2⟩:=A0q h (Ep _) he hp
  refine⟨v,h1,?_⟩
  have h3:(Instr.loadAt t (a.tmps.getD c undef)).run E.P R=.ok v R:=h2 R (Below.refl _ _)
  show(do loadVar t (←asAddr (a.tmps.getD c undef)):Sem Value).run E.P R=_
  unfold Instr.loadAt at h3
  generalize a.tmps.getD c undef=p at*
  cases p<;>first|(simp[Instr.sureAddr] at h3;done)|skip
  rename_i ad
  cases ad with
  |none=>simp[Instr.sureAddr] at h3
  |some ad=>simpa[Instr.sureAddr,asAddr] using h3
theorem A1l (h:Rel Z F N s a R):∀{l:List ResultVar} {xs:List A} {ps:List Prop},A8y E s l=some (xs,ps)→(∀p∈ps,p)→∃vs,HL F N s.nx R xs vs∧(l.mapM (Bh4 a.tmps)).run E.P R=.ok vs R
 | [],xs,ps,he,_=>by cases he;exact⟨[],HL.nil,rfl⟩
 |r::rs,xs,ps,he,hp=>by
  unfold A8y at he
  split at he<;>try (cases he;done)
  rename_i x dg h1
  split at he<;>try (cases he;done)
  rename_i xs1 qs h2
  cases he
  obtain⟨v,g1,g2⟩:=Bc8 h h1 fun p hm=>hp p (List.mem_append.2 (.inl hm))
  obtain⟨vs,g3,g4⟩:=A1l h h2 fun p hm=>hp p (List.mem_append.2 (.inr hm))
  refine⟨v::vs,HL.cons g1 g3,?_⟩
  rw[List.mapM_cons]
  simp only[Sem.run_bind,g2,Result.andThen_ok,g4,Sem.run_pure]
theorem Ax4 (h:Rel Z F N s a R) {fn:Func} {xs:List A} {ps:List Prop} (he:A8y E s fn.results.toList=some (xs,ps)) (hp:∀p∈ps,p):∃v,Hv F N s.nx R (Aux xs) v∧(results fn a.tmps).run E.P R=.ok v R:=by
 obtain⟨vs,h1,h2⟩:=A1l h he hp
 refine⟨A9v vs,Bdt h1,?_⟩
 rw[Ax3,Array.mapM_eq_mapM_toList]
 simp only[Sem.run_bind,Sem.run_map,h2,Result.andThen_ok,Sem.run_pure]
 congr 1
 match vs with
 | []=>simp[A9v]
 | [x]=>simp[A9v]
 |x::y::r=>simp[A9v]
end
def PM (nb:Nat) (o:AJ):Nat→A→List Nat
 |0,_=>[]
 | d+1,x=>match x with
  | .sq i| .vw i _ _ _ _| .el i _ _ _| .own i _| .ownx i _ _ _| .mp i| .dq i| .iv i _| .de i _ _ _| .ie i _ _ _ _| .vr i _ _ _| .vd i _ _ _| .yl i=>bif Nat.blt i nb then[] else i::(match Aq i o with
   |some (.box _ cs)=>cs.flatMap (PM nb o d)
   |some (.rcd _ cs)=>cs.flatMap (PM nb o d)
   |some (.arr _ _ (.lst cs))=>cs.flatMap fun l=>l.flatMap (PM nb o d)
   |_=>[])
  | .agg xs=>xs.flatMap (PM nb o d)
  | .rv xs=>xs.flatMap (PM nb o d)
  | .tup xs=>xs.flatMap (PM nb o d)
  | .fn _ xs ys=>xs.flatMap (PM nb o d)++ys.flatMap (PM nb o d)
  |_=>[]
def A8u (nb:Nat) (o:AJ):List Nat→List Nat
 | []=>[]
 |k::r=>(bif Nat.blt k nb then(match Aq k o with
  |some (.box _ cs)=>cs.flatMap (PM nb o 4)
  |some (.rcd _ cs)=>cs.flatMap (PM nb o 4)
  |some (.arr _ _ (.lst cs))=>cs.flatMap fun l=>l.flatMap (PM nb o 4)
  |_=>[]) else[])++A8u nb o r
def A0w:List Nat→Nat→Hl→Hl
 | [],_,L=>L
 |k::r,j,L=>match fwd L k with
  |some _=>A0w r j L
  |none=>A0w r (j+1) (L++[(k,j)])
def Adr:BG→Bool
 | []=>true
 |(none,_,_)::r=>Adr r
 |_=>false
theorem QF:∀{o:BG} {i:Nat},Adr o=true→AZ (some i) o=none
 | [],_,_=>rfl
 |(none,_,_)::r,i,h=>QF (o:=r) h
 |(some _,_,_)::_,_,h=>by cases h
def Bg3 (W:List Nat) (s0:St) (r:Yk):Option St:=bif Adr r.outs then(match AZ none r.outs,r.nrm with
 |some (_,s),none=>some s
 |none,some s=>some s
 |some (c,s),some s'=>some (Hx (Br c) W s0 s s')
 |none,none=>none) else none
def Bhd (k:Nat) (s0 s:St) (x:A) (ps:List Prop) (L:Hl):Option Adv:=
 bif NX s0.nx (s0.nx+L.length) L then some (k,x.pk (SW s0.nx L),s0.nx+L.length,Lb s0.nx L s.o s0.o,ps) else none
def Bhe (E:Env) (fn:Func) (k:Nat) (W:List Nat) (s0:St) (r:Yk):Option Adv:=match Bg3 W s0 r with
 |some s=>match A8y E s fn.results.toList with
  |some (l,ps)=>Bhd k s0 s (Aux l) (r.ps++ps) (A0w (PM s0.nx s.o 6 (Aux l)++A8u s0.nx s.o (Zd s.o s0.o.length)) s0.nx [])
  |none=>none
 |none=>none
def Adu:Nat→List A→EO
 |_,[]=>[]
 |k,x::r=>(k,x)::Adu (k+1) r
def NP (n:Nat) (args:List A) (nx:Nat) (o:AJ):St:=⟨n,nx,Adu 0 args,o⟩
def A7g:AJ→Bool
 | []=>true
 |_=>false
def Tx (E:Env) (u:Nat) (f:FuncId) (args:List A) (nx:Nat) (o:AJ):Option Adv:=match E.P.funcs[f]? with
 |some fn=>match fn.body with
  |some c=>bif Nat.ble args.length fn.ntmps then Bhe E fn (bif A7g o then 1 else 2) (MQ c) (NP fn.ntmps args nx o) (evC E u c (NP fn.ntmps args nx o)) else none
  |none=>none
 |none=>none
theorem Af6 {u:Nat} {x:A}:∀{l:List A} {k:Nat},C4 u (Adu k l)=some x→∃i,u=k+i∧l[i]?=some x
 | [],_,h=>by cases h
 | y::r,k,h=>by
  have h':(bif Nat.beq k u then some y else C4 u (Adu (k+1) r))=some x:=h
  cases hb:Nat.beq k u with
  |true=>
   rw[hb] at h'
   exact⟨0,(Nat.eq_of_beq_eq_true hb).symm,h'⟩
  |false=>
   rw[hb] at h'
   obtain⟨i,h1,h2⟩:=Af6 h'
   exact⟨i+1,by omega,h2⟩
theorem A7e {n nx:Nat} {args:List A} {o:AJ} {vs:List Value} {F:Nat→Prop} {N:Nm} {R:World} (_hl:args.length≤n) (hh:Bi F N nx o R) (ha:HL F N nx R args vs):
  Rel ⟨F,N,nx,o,R,Bo {tmps:=vs.toArray++Array.replicate (n - vs.toArray.size) undef,defers:=[]},fun _=>True,[]⟩ F N (NP n args nx o) {tmps:=vs.toArray++Array.replicate (n - vs.toArray.size) undef,defers:=[]} R:=by
 have hlen:=ha.length
 refine⟨rfl,?_,fun u x hu=>?_,hh,.refl,fun _ _=>rfl⟩
 ·show(vs.toArray++Array.replicate (n - vs.toArray.size) undef).size=n
  simp
  omega
 ·obtain⟨i,h1,h2⟩:=Af6 hu
  obtain rfl:u=i:=by omega
  obtain⟨v,h3,h4⟩:=ha.get h2
  have f6:u <vs.length:=(List.getElem?_eq_some_iff.1 h3).1
  have:Bo {tmps:=vs.toArray++Array.replicate (n - vs.toArray.size) undef,defers:=[]} u=v:=by
   unfold Bo
   simp only[Array.getD_eq_getD_getElem?]
   rw[Array.getElem?_append_left (by simpa using f6),List.getElem?_toArray,h3]
   rfl
  rw[this]
  exact(Af h4.isPlain).2 h4
section
variable {E:Env}
theorem Bbk {Z:Eo} {F:Nat→Prop} {N:Nm} {a0:Act} {R0:World} {W:List Nat} {s0:St} (h0:Rel Z F N s0 a0 R0) {r:Yk} (hw:Wf s0 r) {s:St} (he:Bg3 W s0 r=some s) {e:Exit} {x:St} {a:Act} {R:World} (ho:Oc r e x) (hx:LN (IM F N s0 a0 R0 W) a R x):
  (e=.ret∨e=.normal)∧LN (IM F N s0 a0 R0 W) a R s∧Sub s0 s:=by
 unfold Bg3 at he
 cases hr:Adr r.outs with
 |false=>rw[hr] at he;cases he
 | true=>
  rw[hr] at he
  simp only[cond_true] at he
  split at he<;>try (cases he;done)
  ·rename_i c s' hg hn
   cases he
   rcases ho with⟨t,c',rfl,h1,h2,h3⟩|⟨rfl,h1,h2⟩
   ·cases t with
    |none=>rw[hg] at h1;cases h1;exact⟨.inl rfl,hx,hw.outs _ _ _ hg⟩
    |some i=>rw[QF hr] at h1;cases h1
   ·rw[hn] at h1;cases h1
  ·rename_i hg hn
   cases he
   rcases ho with⟨t,c',rfl,h1,h2,h3⟩|⟨rfl,h1,h2⟩
   ·cases t with
    |none=>rw[hg] at h1;cases h1
    |some i=>rw[QF hr] at h1;cases h1
   ·rw[hn] at h1;cases h1;exact⟨.inr rfl,hx,hw.nrm _ hn⟩
  ·rename_i c s1 s2 hg hn
   cases he
   rcases ho with⟨t,c',rfl,h1,h2,h3⟩|⟨rfl,h1,h2⟩
   ·cases t with
    |none=>
     rw[hg] at h1;cases h1
     exact⟨.inl rfl,Ot (g:=Br c) h0 (hw.outs _ _ _ hg) (hw.nrm _ hn) (by rw[h2];rfl) _ _ hx,Sub.merge _ _ _ _ _⟩
    |some i=>rw[QF hr] at h1;cases h1
   ·rw[hn] at h1
    cases h1
    exact⟨.inr rfl,Ot (g:=Br c) h0 (hw.outs _ _ _ hg) (hw.nrm _ hn) (by rw[h2 _ _ _ hg];rfl) _ _ hx,Sub.merge _ _ _ _ _⟩
def Blf (d:Deferred) (w:World):World:=match d.target with
 | .collected D=>w.putObj D (.deferred none)
 |_=>w
def X2:List Deferred→World→World
 | [],w=>w
 |d::r,w=>X2 r (Blf d w)
theorem Xw {P:Program} {fn:Func} {tmps:Array Value} {K:Ending→World→Prop}:∀(ms:List Deferred) (w:World),ms.Nodup→(∀d∈ms,∃D,d={target:=.collected D,args:=#[]}∧w.heap[D]?=some (.deferred (some [])))→
  LeavesInM Fence.wide 0 P fn tmps K [] .returning (X2 ms w)→LeavesInM Fence.wide 0 P fn tmps K ms .returning w
 | [],_,_,_,h=>h
 |d::r,w,hn,hm,h=>by
  obtain⟨D,rfl,hD⟩:=hm d (List.mem_cons_self ..)
  refine⟨fun e=>(by cases e),.inl ⟨D,w.putObj D (.deferred none),rfl,run_takeDeferred hD,?_⟩⟩
  refine Xw r _ (List.nodup_cons.1 hn).2 (fun d' gb=>?_) h
  obtain⟨D',rfl,xg⟩:=hm d' (List.mem_cons_of_mem _ gb)
  refine⟨D',rfl,?_⟩
  rw[World.putObj_heap_other (fun e=>(List.nodup_cons.1 hn).1 (by rw[←e];exact gb))]
  exact xg
theorem Rel.shut {Z:Eo} {F:Nat→Prop} {N:Nm} {s:St} {a:Act} {R:World} (h:Rel Z F N s a R) {D:Nat} {x:Obj} (h1:Z.R.heap.size≤D) (h2:¬F D) (h3:¬EN N s.o D):Rel Z F N s a (R.putObj D x):=by
 have hk:∀g,g≠D→(R.putObj D x).heap[g]?=R.heap[g]?:=fun g hg=>World.putObj_heap_other hg
 have hx:Ext F N s.nx R F N s.nx (R.putObj D x):=⟨Nat.le_refl _,fun _ _=>rfl,fun _ _=>rfl,fun _ h=>h,fun g hg=>hk g fun e=>h2 (e▸hg)⟩
 refine⟨h.defers,h.size,fun u y hu=>(h.slots u y hu).step hx,⟨fun g hg=>?_,fun i ob hi=>?_,h.hp.ff,h.hp.sep,h.hp.gl.step hx⟩,⟨h.st.le,h.st.b,h.st.q,h.st.f,h.st.fnew,h.st.foot,h.st.os,h.st.tape,h.st.output,?_,fun g hg hn=>?_⟩,h.tm⟩
 ·rw[World.putObj_size];exact h.hp.flt g hg
 ·obtain⟨k1,k2⟩:=h.hp.ob i ob hi
  exact⟨k1,k2.step hx k1 fun g hg=>hk g fun e=>h3 ⟨i,ob,hi,e▸hg⟩⟩
 ·rw[World.putObj_size];exact h.st.size
 ·rw[hk g (by omega)]
  exact h.st.keep g hg hn
theorem Rel.shuts {Z:Eo} {F:Nat→Prop} {N:Nm} {s:St} {a:Act}:∀{ms:List Deferred} {R:World},Rel Z F N s a R→Marks Z.R.heap.size F N s.o R ms→Rel Z F N s a (X2 ms R)
 | [],_,h,_=>h
 |d::r,R,h,hm=>by
  obtain⟨D,rfl,h1,h2,h3,_⟩:=hm.2 d (List.mem_cons_self ..)
  show Rel Z F N s a (X2 r (R.putObj D (.deferred none)))
  refine Rel.shuts (ms:=r) (h.shut h1 h2 h3) ⟨(List.nodup_cons.1 hm.1).2,fun d' gb=>?_⟩
  obtain⟨D',rfl,k1,k2,k3,k4⟩:=hm.2 d' (List.mem_cons_of_mem _ gb)
  refine⟨D',rfl,k1,k2,k3,?_⟩
  rw[World.putObj_heap_other (fun e=>(List.nodup_cons.1 hm.1).1 (by rw[←e];exact gb))]
  exact k4
theorem Bh (ok:Kh E) {u:Nat} {f:FuncId} {args:List A} {nx:Nat} {o:AJ} {k nx':Nat} {x:A} {o':AJ} {ps:List Prop} (he:Tx E u f args nx o=some (k,x,nx',o',ps)) (hp:∀p∈ps,p):
  Ax E.P f args nx o k x nx' o':=by
 unfold Tx at he
 split at he<;>try (cases he;done)
 rename_i fn hf
 split at he<;>try (cases he;done)
 rename_i c hc
 cases hl:Nat.ble args.length fn.ntmps with
 |false=>rw[hl] at he;cases he
 | true=>
  rw[hl] at he
  simp only[cond_true] at he
  have hle:=Nat.le_of_ble_eq_true hl
  generalize bu:(bif A7g o then 1 else 2)=k0 at he
  generalize hr:evC E u c (NP fn.ntmps args nx o)=r at he
  unfold Bhe at he
  split at he<;>try (cases he;done)
  rename_i s hs
  split at he<;>try (cases he;done)
  rename_i l qs sm
  generalize A0w (PM (NP fn.ntmps args nx o).nx s.o 6 (Aux l)++A8u (NP fn.ntmps args nx o).nx s.o (Zd s.o (NP fn.ntmps args nx o).o.length)) (NP fn.ntmps args nx o).nx []=L at he
  unfold Bhd at he
  cases dz:NX (NP fn.ntmps args nx o).nx ((NP fn.ntmps args nx o).nx+L.length) L with
  |false=>rw[dz] at he;cases he
  | true=>
   rw[dz] at he
   cases he
   intro F N R vs hh ha
   ·have h0:=A7e hle hh ha
    have hlen:=ha.length
    refine(callsIn_wide (n:=0)).1 (callsIn_of_wp_marks hf hc trivial ?_ rfl)
    have hwf:=Er ok (u:=u) 0 c false (NP fn.ntmps args nx o)
    have fl:MR E u 0 c false (NP fn.ntmps args nx o)=r:=hr
    rw[fl] at hwf
    have key:=G1 ok (u:=u) 0 c false (IM F N (NP fn.ntmps args nx o) {tmps:=vs.toArray++Array.replicate (fn.ntmps - vs.toArray.size) undef,defers:=[]} R (MQ c)) (NP fn.ntmps args nx o) {tmps:=vs.toArray++Array.replicate (fn.ntmps - vs.toArray.size) undef,defers:=[]} R
     (bodyPostM Fence.wide 0 E.P fn fun e R'=>∃y F' N',e=.returned y∧Bi F' N' (nx+L.length) (Lb nx L s.o o) R'∧Step F N nx o R F' N' (nx+L.length) (Lb nx L s.o o) R'∧Hv F' N' (nx+L.length) R' ((Aux l).pk (SW nx L)) y∧(k≤1→Below R.heap.size R R')) (LN.start h0 _) (fun u hu=>hu) (by rw[fl];exact fun p hm=>hp p (List.mem_append.2 (.inl hm)))
    refine key (fun e z a' R0 ho hz=>?_) none (fun _=>rfl)
    rw[fl] at ho
    obtain⟨h1,⟨ms,F',N',h20,hm⟩,h3⟩:=Bbk h0 hwf hs ho hz
    have h2:=h20.shuts hm
    generalize py:X2 ms R0=R' at h2
    obtain⟨y,g1,g2⟩:=Ax4 h2 sm fun p hm=>hp p (List.mem_append.2 (.inr hm))
    obtain⟨d,hd⟩:=h3.seq
    have gb:s.o=d++o:=hd
    obtain⟨q1,q2⟩:=A3l (nb:=nx) (nx':=nx+L.length) (L:=L) h2.hp dz (Nat.le_add_right _ _) gb hh
    have hst:Step F N nx o R F' N' s.nx s.o R':=h2.st
    have small:∀k,k <nx→Ae9 nx L k=k:=fun k hk=>by unfold Ae9;rw[show Nat.blt k nx=true from Nat.ble_eq_true_of_le hk];rfl
    have l7:Step F N nx o R F' (nm2 N' nx L) (nx+L.length) (Lb nx L s.o o) R':=⟨Nat.le_add_right _ _,fun i hi=>by show N'.b (Ae9 nx L i)=_;rw[small i hi];exact hst.b i hi,fun i hi=>by show N'.q (Ae9 nx L i)=_;rw[small i hi];exact hst.q i hi,hst.f,hst.fnew,fun g hg=>hst.foot g (q2 g hg),hst.os,hst.tape,hst.output,hst.size,hst.keep⟩
    have post:∃v,(results fn a'.tmps).run E.P R'=.ok v R'∧∃y F' N',Ending.returned v=.returned y∧Bi F' N' (nx+L.length) (Lb nx L s.o o) R'∧Step F N nx o R F' N' (nx+L.length) (Lb nx L s.o o) R'∧Hv F' N' (nx+L.length) R' ((Aux l).pk (SW nx L)) y∧(k≤1→Below R.heap.size R R'):=by
     refine⟨y,g2,y,F',nm2 N' nx L,rfl,q1,l7,g1.pk (pk2 dz (Nat.le_add_right _ _)),fun hk=>?_⟩
     cases o with
     |nil=>exact hst.below
     |cons p r=>rw[←bu] at hk;cases hk with|step hk=>cases hk
    have fc:a'.defers=ms++[]:=h20.defers
    have kv:LeavesInM Fence.wide 0 E.P fn a'.tmps (fun e R'=>∃y F' N',e=.returned y∧Bi F' N' (nx+L.length) (Lb nx L s.o o) R'∧Step F N nx o R F' N' (nx+L.length) (Lb nx L s.o o) R'∧Hv F' N' (nx+L.length) R' ((Aux l).pk (SW nx L)) y∧(k≤1→Below R.heap.size R R')) a'.defers .returning R0:=by
     rw[fc,List.append_nil]
     refine Xw ms R0 hm.1 (fun d hd=>let⟨D,e,_,_,_,h⟩:=hm.2 d hd;⟨D,e,h⟩) ?_
     rw[py]
     exact post
    rcases h1 with rfl|rfl
    ·exact kv
    ·exact kv
theorem Bbu {u:Nat} {f:FuncId} {args:List A} {nx:Nat} {o:AJ} {k nx':Nat} {x:A} {o':AJ} {ps:List Prop} (he:Tx E u f args nx o=some (k,x,nx',o',ps)):∃d,o'=d++o:=by
 unfold Tx at he
 split at he<;>try (cases he;done)
 split at he<;>try (cases he;done)
 rename_i c hc
 replace he:=Cv he
 unfold Bhe at he
 split at he<;>try (cases he;done)
 rename_i s hs
 split at he<;>try (cases he;done)
 unfold Bhd at he
 replace he:=Cv he
 cases he
 exact⟨_,by unfold Lb;rw[←List.append_assoc];rfl⟩
end
def IE (P:Program) (f:FuncId) (g:HU):Prop:=
 ∀args nx o k x nx' o' ps,g args nx o=some (k,x,nx',o',ps)→((∀p∈ps,p)→Ax P f args nx o k x nx' o')∧∃d,o'=d++o
def COk (P:Program) (C:Tab):Prop:=∀f args nx o k x nx' o' ps,C f args nx o=some (k,x,nx',o',ps)→((∀p∈ps,p)→(Nat.ble ylK f=false→Ax P f args nx o k x nx' o')∧(Nat.ble ylK f=true→∀i xs,args=.yl i::xs→Ama P i xs nx o k x nx' o'))∧∃d,o'=d++o
def A46 (P:Program) (eq:TypeId→List Value→List Value→Option Bool):Prop:=
 ∀t xs ys b,eq t xs ys=some b→P.eqGuardType P.depth t=false∧∀R,(Op.equalIn 10000 t (.agg xs.toArray) (.agg ys.toArray)).run P R=.ok b R
def Bly (P:Program) (tc:TypeId→Option TC):Prop:=
 ∀t c,tc t=some c→∃i,P.info? t=some i∧i.size=size c∧0 <size c∧∃z,i.zero=some z∧∀(F:Nat→Prop) (N:Nm) (nx:Nat) (R:World),HL F N nx R (enc c (Ao c)) z.cells.toList
abbrev Ry:=Nat→St→Option (Code×List Prop×BG)
def C0:Tab:=fun _ _ _ _=>none
theorem Aj8 {P:Program}:COk P C0:=fun _ _ _ _ _ _ _ _ _ h=>by cases h
def L0:Ry:=fun _ _=>none
def Bf5 (f0:FuncId) (g:HU) (C:Tab):Tab:=fun f args nx o=>bif Nat.beq f f0 then(bif Nat.ble ylK f0 then none else g args nx o) else C f args nx o
theorem Ban {P:Program} {f0:FuncId} {g:HU} {C:Tab} (hg:IE P f0 g) (hC:COk P C):COk P (Bf5 f0 g C):=fun f args nx o k x nx' o' ps h=>by
 unfold Bf5 at h
 cases hb:Nat.beq f f0 with
 | true=>
  rw[hb] at h
  rw[Nat.eq_of_beq_eq_true hb]
  cases hy:Nat.ble ylK f0 with
  |true=>rw[hy] at h;cases h
  |false=>
   rw[hy] at h
   obtain⟨h1,h2⟩:=hg args nx o k x nx' o' ps h
   exact⟨fun hp=>⟨fun _=>h1 hp,fun e=>(by cases e)⟩,h2⟩
 |false=>rw[hb] at h;exact hC f args nx o k x nx' o' ps h
def Gi {f:FuncId} {g:HU} (h:IE Bb f g) (C:{C:Tab // COk Bb C}):{C:Tab // COk Bb C}:=⟨Bf5 f g C.1,Ban h C.2⟩
def YOk (P:Program) (_f _b:Nat) (g:HU):Prop:=
 ∀i xs nx o k x nx' o' ps,g (.yl i::xs) nx o=some (k,x,nx',o',ps)→((∀p∈ps,p)→Ama P i xs nx o k x nx' o')∧∃d,o'=d++o
def Bf6 (f0 b0:Nat) (g:HU) (C:Tab):Tab:=fun f args nx o=>bif Nat.beq f (ylK+(f0*1000+b0)) then(match args with
 | .yl i::xs=>g (.yl i::xs) nx o
 |_=>none) else C f args nx o
theorem Bap {P:Program} {f0 b0:Nat} {g:HU} {C:Tab} (hg:YOk P f0 b0 g) (hC:COk P C):COk P (Bf6 f0 b0 g C):=fun f args nx o k x nx' o' ps h=>by
 unfold Bf6 at h
 cases hb:Nat.beq f (ylK+(f0*1000+b0)) with
 | true=>
  rw[hb] at h
  have hle:Nat.ble ylK f=true:=by
   rw[Nat.eq_of_beq_eq_true hb]
   exact Nat.ble_eq_true_of_le (Nat.le_add_right _ _)
  simp only[cond_true] at h
  split at h<;>try (cases h;done)
  rename_i i xs
  obtain⟨h1,h2⟩:=hg i xs nx o k x nx' o' ps h
  exact⟨fun hp=>⟨fun e=>(by rw[hle] at e;cases e),fun _ j ys he=>by cases he;exact h1 hp⟩,h2⟩
 |false=>rw[hb] at h;exact hC f args nx o k x nx' o' ps h
def aRy {f b:Nat} {g:HU} (h:YOk Bb f b g) (C:{C:Tab // COk Bb C}):{C:Tab // COk Bb C}:=⟨Bf6 f b g C.1,Bap h C.2⟩
theorem N0 {p:Prop} {ps:List Prop} (h:∀q∈p::ps,q):p:=h _ (List.mem_cons_self ..)
theorem N1 {p:Prop} {ps:List Prop} (h:∀q∈p::ps,q):∀q∈ps,q:=fun q hq=>h q (List.mem_cons_of_mem _ hq)
theorem An:∀p∈([]:List Prop),p:=fun _ h=>by cases h
theorem Aa {p:Prop} {ps:List Prop} (h:p) (t:∀q∈ps,q):∀q∈p::ps,q:=fun q hq=>by
 rcases List.mem_cons.1 hq with rfl|hq
 ·exact h
 ·exact t q hq
theorem nT {p:Prop} {ps qs:List Prop} (hp:∀q∈p::qs,q) (f:(∀q∈qs,q)→∀q∈ps,q):∀q∈p::ps,q:=Aa (hp _ (List.mem_cons_self ..)) (f fun q hq=>hp q (List.mem_cons_of_mem _ hq))
theorem WI {P:Program} {f:FuncId} {args:List A} {nx k nx':Nat} {x:A} {o o':AJ} (h:Ax P f args nx [] k x nx' o') (hk:k≤1):Ax P f args nx o 1 x nx' (o'++o):=fun F N R vs hh ha=>by
 refine(h F N R vs (hh.noObj) ha).mono fun e R' ⟨y,F',N',e1,e2,e3,e4,e5⟩=>?_
 obtain⟨g1,g2⟩:=hh.frame (o1:=[]) (o':=o'++o) (fun i ob hi=>by cases hi) e3 e2 fun i ob hi=>by
  rcases H6 hi with⟨_,h1⟩|⟨_,h1⟩
  ·exact .inl h1
  ·exact .inr ⟨h1,rfl⟩
 exact⟨y,F',N',e1,g1,g2,e4,fun _=>e5 hk⟩
def S3 (nx:Nat):Nat→Option Nat:=fun i=>some (nx+i)
def Wk (nx:Nat):AJ→AJ
 | []=>[]
 |(k,some ob)::r=>(nx+k,some (ob.pk (S3 nx)))::Wk nx r
 |(k,none)::r=>(nx+k,none)::Wk nx r
theorem Aar {nx j:Nat} {ak:Ob}:∀{o:AJ},Aq j (Wk nx o)=some ak→∃i ob,j=nx+i∧Aq i o=some ob∧ak=ob.pk (S3 nx)
 | [],h=>by cases h
 | (k,x)::r,h=>by
  have step:∀z,(bif Nat.beq (nx+k) j then z else Aq j (Wk nx r))=some ak→(∀ob,x=some ob→z=some (ob.pk (S3 nx)))→(x=none→z=none)→∃i ob,j=nx+i∧(bif Nat.beq k i then x else Aq i r)=some ob∧ak=ob.pk (S3 nx):=fun z hz h1 h2=>by
   cases hb:Nat.beq (nx+k) j with
   | true=>
    rw[hb] at hz
    obtain rfl:=Nat.eq_of_beq_eq_true hb
    cases x with
    |none=>rw[h2 rfl] at hz;cases hz
    |some ob=>
     rw[h1 ob rfl] at hz
     cases hz
     exact⟨k,ob,rfl,by rw[KU];rfl,rfl⟩
   |false=>
    rw[hb] at hz
    obtain⟨i,ob,rfl,h3,h4⟩:=Aar hz
    refine⟨i,ob,rfl,?_,h4⟩
    rw[Ad2 fun e=>by subst e;simp at hb]
    exact h3
  cases x with
  |some ob=>exact step _ h (fun ak e=>by cases e;rfl) (fun e=>by cases e)
  |none=>exact step _ h (fun ak e=>by cases e) (fun _=>rfl)
theorem WJ {P:Program} {f:FuncId} {args:List A} {k m:Nat} {x:A} {os:AJ} (h:Ax P f args 0 [] k x m os) (hk:k≤1) (hf:freeL args=true) (nx:Nat) (o:AJ):Ax P f args nx o 1 (x.pk (S3 nx)) (nx+m) (Wk nx os++o):=by
 refine WI (k:=1) (fun F N R vs hh ha=>?_) (Nat.le_refl _)
 refine(h F N R vs hh.noObj (ha.free hf)).mono fun e R' ⟨y,F',N',e1,e2,e3,e4,e5⟩=>?_
 let N2:Nm:=⟨fun i=>bif Nat.blt i nx then N.b i else N'.b (i - nx),fun i=>bif Nat.blt i nx then N.q i else N'.q (i - nx)⟩
 have uq:∀i,Nat.blt (nx+i) nx=false:=fun i=>by
  cases hb:Nat.blt (nx+i) nx with
  |false=>rfl
  |true=>exact absurd (Nat.le_of_ble_eq_true hb) (by omega)
 have st:Pk (S3 nx) N' m N2 (nx+m):=fun i j hi hj=>by
  cases hj
  refine⟨by omega,?_,?_⟩
  ·show(bif Nat.blt (nx+i) nx then N.b (nx+i) else N'.b (nx+i - nx))=_
   rw[uq,Nat.add_sub_cancel_left];rfl
  ·show(bif Nat.blt (nx+i) nx then N.q (nx+i) else N'.q (nx+i - nx))=_
   rw[uq,Nat.add_sub_cancel_left];rfl
 obtain⟨g1,g2⟩:=e2.pk (o':=Wk nx os) st fun j ak hj=>by
  obtain⟨i,ob,rfl,h3,h4⟩:=Aar hj
  exact⟨i,ob,rfl,h3,h4⟩
 have ae:∀i,i <nx→Nat.blt i nx=true:=fun i hi=>Nat.ble_eq_true_of_le hi
 refine⟨y,F',N2,e1,g1,⟨Nat.le_add_right _ _,fun i hi=>by show(bif Nat.blt i nx then N.b i else _)=_;rw[ae i hi];rfl,fun i hi=>by show(bif Nat.blt i nx then N.q i else _)=_;rw[ae i hi];rfl,e3.f,fun g hg=>?_,fun g hg=>?_,e3.os,e3.tape,e3.output,e3.size,fun g hg hn=>e3.keep g hg fun⟨i,ob,hi,_⟩=>by cases hi⟩,e4.pk st,fun _=>e5 hk⟩
 ·rcases e3.fnew g hg with h1|⟨i,ob,hi,_⟩|h1
  ·exact .inl h1
  ·cases hi
  ·exact .inr (.inr h1)
 ·rcases e3.foot g (g2 g hg) with⟨i,ob,hi,_⟩|h1
  ·cases hi
  ·exact .inr h1
def inl (E:Env) (u:Nat) (f:FuncId):HU:=fun args nx o=>
 bif freeL args then(match Tx E u f args nx [] with
  |some (k,x,nx',o',ps)=>bif Nat.ble k 1 then some (1,x,nx',o'++o,ps) else none
  |none=>none) else Tx E u f args nx o
theorem JV {E:Env} (ok:Kh E) (u:Nat) (f:FuncId):IE E.P f (inl E u f):=fun args nx o k x nx' o' ps h=>by
 unfold inl at h
 cases hf:freeL args with
 | true=>
  rw[hf] at h
  simp only[cond_true] at h
  split at h<;>try (cases h;done)
  rename_i k1 x1 nx1 o1 dg he
  cases hk:Nat.ble k1 1 with
  |false=>rw[hk] at h;cases h
  |true=>
   rw[hk] at h
   cases h
   exact⟨fun hp=>WI (Bh ok he hp) (Nat.le_of_ble_eq_true hk),_,rfl⟩
 |false=>
  rw[hf] at h
  exact⟨fun hp=>Bh ok h hp,Bbu h⟩
def Aeg:List Nat→AJ→AJ
 |_,[]=>[]
 |seen,(i,x)::r=>bif seen.any (Nat.beq i) then Aeg seen r else(i,x)::Aeg (i::seen) r
theorem RQ:∀(seen:List Nat) (o:AJ) (i:Nat) (ob:Ob),Aq i (Aeg seen o)=some ob→seen.any (Nat.beq i)=false∧Aq i o=some ob
 |_,[],i,ob,h=>by cases h
 | seen,(j,x)::r,i,ob,h=>by
  unfold Aeg at h
  cases hs:seen.any (Nat.beq j) with
  |true=>
   rw[hs,cond_true] at h
   obtain⟨h1,h2⟩:=RQ seen r i ob h
   have hn:i≠j:=fun e=>by rw[e,hs] at h1;cases h1
   exact⟨h1,by rw[AI,if_neg hn];exact h2⟩
  | false=>
   rw[hs,cond_false,AI] at h
   by_cases e:i=j
   ·rw[if_pos e] at h
    exact⟨by rw[e];exact hs,by rw[AI,if_pos e];exact h⟩
   ·rw[if_neg e] at h
    obtain⟨h1,h2⟩:=RQ (j::seen) r i ob h
    rw[List.any_cons,Bool.or_eq_false_iff] at h1
    exact⟨h1.2,by rw[AI,if_neg e];exact h2⟩
theorem A2c {P:Program} {f:FuncId} {args:List A} {nx k nx':Nat} {o o1 o2:AJ} {x:A} (h:Ax P f args nx o k x nx' o1) (hd:∀i ob,Aq i o2=some ob→Aq i o1=some ob):Ax P f args nx o k x nx' o2:=fun F N R vs hh ha=>by
 refine(h F N R vs hh ha).mono fun _ R' ⟨y,F',N',e1,e2,e3,e4,e5⟩=>?_
 obtain⟨q1,q2⟩:=hh.frame (o':=o2) (fun _ _ h=>h) e3 e2 fun i ob hi=> .inl (hd i ob hi)
 exact⟨y,F',N',e1,q1,q2,e4,e5⟩
def Bjv:Option (Nat×A×Nat×AJ×List Prop)→Option (Nat×A×Nat×AJ×List Prop)
 |some (k,x,nx,o,ps)=>some (k,x,nx,Aeg [] o,ps)
 |none=>none
def Ary (E:Env) (u:Nat) (f:FuncId) (args:List A) (nx:Nat) (o:AJ):Option (Nat×A×Nat×AJ×List Prop):=Bjv (Tx E u f args nx o)
theorem Ty {E:Env} (ok:Kh E) {u:Nat} {f:FuncId} {args:List A} {nx:Nat} {o:AJ} {k nx':Nat} {x:A} {o':AJ} {ps:List Prop} (he:Ary E u f args nx o=some (k,x,nx',o',ps)) (hp:∀p∈ps,p):
  Ax E.P f args nx o k x nx' o':=by
 unfold Ary Bjv at he
 split at he
 ·rename_i k1 x1 nx1 o1 dg h1
  cases he
  exact A2c (Bh ok h1 hp) fun i ob h=>(RQ [] o1 i ob h).2
 ·cases he
end Go.Proofs.YtifkbgkbajncjaaDoor

