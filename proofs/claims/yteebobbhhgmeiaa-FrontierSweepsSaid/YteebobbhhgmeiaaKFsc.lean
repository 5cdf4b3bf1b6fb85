/- made by a program (rowgen.py): FrontierSweeps: for every input the law returns true, and each argument reads behind the call as it read before. -/
import Derived.Test.YteebobbhhgmeiaaKFsb

namespace Go.Proofs.Yteebobbhhgmeiaa
open Go.RowKit
abbrev Cnd:=Option Bool
def By:Cnd→Bool
 |none=>true
 |some b=>b
def Kv:Cnd→Cnd→Cnd
 |none,y=>y
 |some a,none=>some a
 |some a,some b=>some (a&&b)
def orO:Cnd→Cnd→Cnd
 |none,_=>none
 |some _,none=>none
 |some a,some b=>some (a||b)
def Anp:Cnd→Cnd
 |none=>some false
 |some a=>some (!a)
def A78 (g:Bool):Cnd→Cnd→Cnd
 |none,none=>none
 |some a,none=>some (!g||a)
 |none,some b=>some (g||b)
 |some a,some b=>some (bif g then a else b)
theorem Bp (x y:Cnd):By (Kv x y)=(By x&&By y):=by cases x<;>cases y<;>simp[Kv,By]
theorem Yj (x y:Cnd):By (orO x y)=(By x||By y):=by cases x<;>cases y<;>simp[orO,By]
theorem Yi (x:Cnd):By (Anp x)=!(By x):=by cases x<;>rfl
theorem PI (g:Bool) (x y:Cnd):By (A78 g x y)=bif g then By x else By y:=by cases x<;>cases y<;>cases g<;>simp[A78,By]
def Bax:Cnd→List Prop
 |none=>[]
 |some b=>[b=true]
theorem A23 {c:Cnd} (h:By c=true):∀q∈Bax c,q:=fun q hq=>by
 cases c with
 |none=>cases hq
 |some b=>obtain rfl:=List.mem_singleton.1 hq;exact h
def Ao9 (ops:List Oper) (j:Nat):Option Tmp:=match ops[j]? with
 |some o=>o.dst
 |none=>none
abbrev DR:=Cnd×Nat×St×List Prop
def onL:List DR→(St→Prop)→Prop
 | [],_=>False
 |(c,_,s,_)::r,K=>(By c=true∧K s)∨(By c=false∧onL r K)
def Mg:List DR→Prop
 | []=>True
 |(c,_,_,ps)::r=>(By c=true→∀p∈ps,p)∧Mg r
def Ei:List DR→Nat
 | []=>0
 |(_,k,_,_)::r=>Nat.max k (Ei r)
def Aws (s:St) (dst:Option Tmp) (f:SF):Option St:=match dst with
 |some d=>bif Nat.blt d s.n then some (St.put ⟨s.n,f.nx,s.t,f.o⟩ d f.x) else none
 |none=>some ⟨s.n,f.nx,s.t,f.o⟩
def St.lit (s:St) (u:Nat) (b:Bool):St:={s with t:=(u,.v (.bool b))::s.t}
def WP (E:Env) (s:St) (G:Guards) (o:Oper):R2:=bif Apl o.op then none else Bcm E s G o
def doE (E:Env) (s:St) (G:Guards) (o:Oper) (c:Cnd) (ps:List Prop):Option DR:=match opE E s G o with
 |some f=>match Aws s o.dst f with
  |some s'=>some (c,f.k,s',ps++f.ps)
  |none=>none
 |none=>none
def Afm (s:St) (o:Oper):Option St:=match o.dst with
 |some d=>bif Nat.blt d s.n then some (s.put d (.v undef)) else none
 |none=>some s
def Wd (E:Env) (ops:List Oper) (s:St) (o:Oper):Option (List DR):=
 match o.guard with
 |none=>match doE E s [] o none [] with
  |some x=>some [x]
  |none=>none
 | some (j,b)=>match Ao9 ops j with
  | some u=>match E.lit with
   | true=>match s.raw [] (.tmp u) with
    | some (.bool c)=>match Am5 c b with
     |true=>match doE E s (SB s 5 u b) o none [] with
      |some x=>some [x]
      |none=>none
     |false=>match Afm s o with
      |some s'=>some [(none,0,s',[])]
      |none=>none
    |_=>none
   | false=>match WP E s (SB s 5 u b) o with
    |some (x,ps)=>match o.dst with
     |some d=>bif Nat.blt d s.n then(bif Nat.beq d u then none else some [(none,0,s.put d (.opt u b x),S3 (Rb s (SB s 5 u b) (SB s 5 u b)) ps)]) else none
     |none=>none
    | none=>match s.raw [] (.tmp u) with
     |some (.bool c)=>match doE E (s.lit u b) (SB s 5 u b) o (some (bif b then c else !c)) [],Afm (s.lit u (!b)) o with
      |some x,some s'=>some [x,(none,0,s',[])]
      |_,_=>none
     |_=>none
  |none=>none
section
variable {E:Env} {Z:Base} {F:Nat→Prop} {N:Nm} {s:St} {a:Act} {R:World}
theorem H3 (tm:Nat→Value):MD tm []:=fun _ _ h=>by cases h
theorem Hv.isPlain {nx:Nat} {x:A} {v:Value} (h:Hv F N nx R x v):x.plain=true:=by cases h<;>rfl
theorem X1 {ops:List Oper} {o:Oper} {j u:Nat} {b:Bool} (hg:o.guard=some (j,b)) (hu:Ao9 ops j=some u) (a:Act):Region.wanted o (yielded ops.toArray a.tmps)=true↔Bl a u=.bool b:=by
 unfold Region.wanted yielded Bl
 rw[hg]
 have:(ops.toArray[j]?).bind (·.dst)=some u:=by
  unfold Ao9 at hu
  rw[List.getElem?_toArray]
  cases ho:ops[j]? with
  |none=>rw[ho] at hu;cases hu
  |some o'=>rw[ho] at hu;exact hu
 simp only[this,Option.bind_some]
 rw[Array.getD_eq_getD_getElem?]
 cases hv:a.tmps[u]? with
 |none=>simp[undef]
 |some v=>
  cases v<;>simp
theorem OM {o:Oper} (hg:o.guard=none) (y:Nat→Option Bool):Region.wanted o y=true:=by
 unfold Region.wanted
 rw[hg]
theorem Rel.lit (h:Rel Z F N s a R) {u:Nat} {b:Bool} (hu:Bl a u=.bool b):Rel Z F N (s.lit u b) a R:=
 ⟨h.defers,h.size,fun v x hv=>by
  have hv':(bif Nat.beq u v then some (A.v (.bool b)) else DN v s.t)=some x:=hv
  cases hb:Nat.beq u v with
  |true=>
   rw[hb] at hv'
   obtain rfl:=Nat.eq_of_beq_eq_true hb
   cases hv'
   rw[hu]
   exact(Ac rfl).2 (.v _)
  |false=>rw[hb] at hv';exact h.slots v x hv',h.hp,h.st,h.tm⟩
theorem Bb0 (h:Rel Z F N s a R) {dst:Option Tmp} {f:SF} {s':St} (he:Aws s dst f=some s') (hW:∀d,dst=some d→Z.W d) {v:Value} {R':World} (hk:EK F N s.nx s.o R f v R'):
  ∃F' N',Rel Z F' N' s' (a.put dst v) R':=by
 obtain⟨F',N',h1,h2,h3,_⟩:=hk
 have hr:=h.heap h2 h1
 unfold Aws at he
 split at he
 ·rename_i d
  cases hd:Nat.blt d s.n with
  |false=>rw[hd] at he;cases he
  |true=>
   rw[hd] at he
   cases he
   exact⟨F',N',hr.put (Nat.le_of_ble_eq_true hd) (hW d rfl) v ((Ac h3.isPlain).2 h3)⟩
 ·cases he
  exact⟨F',N',hr⟩
theorem ZJ (h:Rel Z F N s a R) {o:Oper} {s':St} (he:Afm s o=some s') (hW:∀d,o.dst=some d→Z.W d):Rel Z F N s' (a.put o.dst undef) R:=by
 unfold Afm at he
 split at he
 ·rename_i d hd
  cases hb:Nat.blt d s.n with
  |false=>rw[hb] at he;cases he
  |true=>
   rw[hb] at he
   cases he
   rw[hd]
   exact h.put (Nat.le_of_ble_eq_true hb) (hW d hd) undef ((Ac rfl).2 (.v _))
 ·rename_i hd
  cases he
  rw[hd]
  exact h
theorem A7e (ok:EnvOk E) (h:Rel Z F N s a R) {G:Guards} (hG:MD (Bl a) G) {o:Oper} {c c':Cnd} {k:Nat} {s':St} {ps qs:List Prop} (he:doE E s G o c qs=some (c',k,s',ps)) (hp:∀p∈ps,p) (hW:∀d,o.dst=some d→Z.W d):
  c'=c∧I6 E.P (fun v R'=>(k≤1→Below R.heap.size R R')∧∃F' N',Rel Z F' N' s' (a.put o.dst v) R') ((execOp a.eval o).run E.P R):=by
 unfold doE at he
 split at he<;>first|(cases he;done)|skip
 rename_i f hf
 split at he<;>first|(cases he;done)|skip
 rename_i s1 hs
 cases he
 refine⟨rfl,Dx (Bf5 ok h hG hf fun p hm=>hp p (List.mem_append.2 (.inr hm))) fun v R' hk=>⟨?_,Bb0 h hs hW hk⟩⟩
 obtain⟨_,_,_,_,_,h4⟩:=hk
 exact h4
theorem Ao1 {c b:Bool} (hcb:(bif b then c else !c)=true):c=b:=by cases b<;>cases c<;>first|rfl|cases hcb
theorem Ain {c b:Bool} (hcb:(bif b then c else !c)=false):c=!b:=by cases b<;>cases c<;>first|rfl|cases hcb
theorem Ams (ok:EnvOk E) (h:Rel Z F N s a R) {ops:List Oper} {o:Oper} {l:List DR} (he:Wd E ops s o=some l) (hp:Mg l) (hW:∀d,o.dst=some d→Z.W d):
  (Region.wanted o (yielded ops.toArray a.tmps)=true∧I6 E.P (fun v R'=>(Ei l≤1→Below R.heap.size R R')∧onL l fun s'=>∃F' N',Rel Z F' N' s' (a.put o.dst v) R') ((execOp a.eval o).run E.P R))∨
  (Region.wanted o (yielded ops.toArray a.tmps)=false∧onL l fun s'=>∃F' N',Rel Z F' N' s' (a.put o.dst undef) R):=by
 have one:∀{G:Guards} {x:DR},MD (Bl a) G→doE E s G o none []=some x→l=[x]→I6 E.P (fun v R'=>(Ei l≤1→Below R.heap.size R R')∧onL l fun s'=>∃F' N',Rel Z F' N' s' (a.put o.dst v) R') ((execOp a.eval o).run E.P R):=fun {G x} hG hx hl=>by
  obtain⟨c,k,s',ps⟩:=x
  subst hl
  have hc:c=none:=by
   unfold doE at hx
   split at hx<;>first|(cases hx;done)|skip
   split at hx<;>first|(cases hx;done)|skip
   cases hx;rfl
  subst hc
  obtain⟨_,h2⟩:=A7e ok h hG hx (hp.1 rfl) hW
  exact Dx h2 fun v R' ⟨h3,h4⟩=>⟨fun hk=>h3 (Nat.le_trans (Nat.le_max_left ..) hk),.inl ⟨rfl,h4⟩⟩
 unfold Wd at he
 split at he
 ·rename_i hg
  split at he<;>first|(cases he;done)|skip
  rename_i x hx
  cases he
  exact .inl ⟨OM hg _,one (H3 _) hx rfl⟩
 ·rename_i j b hg
  split at he<;>first|(cases he;done)|skip
  rename_i u hu
  have wt:=X1 hg hu a
  have wf:Bl a u≠.bool b→Region.wanted o (yielded ops.toArray a.tmps)=false:=fun hn=>by
   cases hw:Region.wanted o (yielded ops.toArray a.tmps) with
   |false=>rfl
   |true=>exact absurd (wt.1 hw) hn
  split at he
  ·split at he<;>first|(cases he;done)|skip
   rename_i c hc
   have hcu:Bl a u=.bool c:=DO h (H3 _) hc
   split at he
   ·rename_i hb
    obtain rfl:=UD hb
    split at he<;>first|(cases he;done)|skip
    rename_i x hx
    cases he
    exact .inl ⟨wt.2 hcu,one (UK h 5 u c hcu) hx rfl⟩
   ·rename_i hb
    split at he<;>first|(cases he;done)|skip
    rename_i s' hs
    cases he
    refine .inr ⟨wf fun e=>?_,.inl ⟨rfl,F,N,ZJ h hs hW⟩⟩
    rw[hcu] at e
    cases e
    cases b<;>cases hb
  ·split at he
   ·rename_i x ps hq
    split at he<;>first|(cases he;done)|skip
    rename_i d hd
    cases hb:Nat.blt d s.n with
    |false=>rw[hb] at he;cases he
    | true=>
     cases hdu:Nat.beq d u with
     |true=>rw[hb,hdu] at he;cases he
     | false=>
      rw[hb,hdu] at he
      cases he
      have hne:u≠d:=fun e=>by subst e;simp at hdu
      have hdn:=Nat.le_of_ble_eq_true hb
      unfold WP at hq
      cases hl:Apl o.op with
      |true=>rw[hl] at hq;cases hq
      | false=>
       rw[hl] at hq
       by_cases hw:Bl a u=.bool b
       ·have hG:=UK h 5 u b hw
        have hps:=LB (hp.1 rfl) (PV h hG (Ai9 h 5 u b hw))
        obtain⟨v,h1,h2⟩:=A1p ok h hG hq hps
        refine .inl ⟨wt.2 hw,?_⟩
        have h3:=h2 R (Below.refl _ _)
        have NI:∀R',Below R.heap.size R R'→(Ei [((none:Cnd),0,s.put d (.opt u b x),S3 (Rb s (SB s 5 u b) (SB s 5 u b)) ps)]≤1→Below R.heap.size R R')∧onL [((none:Cnd),0,s.put d (.opt u b x),S3 (Rb s (SB s 5 u b) (SB s 5 u b)) ps)] fun s'=>∃F' N',Rel Z F' N' s' (a.put o.dst v) R':=fun R' hR'=>
         ⟨fun _=>hR',.inl ⟨rfl,F,N,by
          rw[hd]
          refine((h.put (x:=.opt u b x) hdn (hW d hd) v ?_).grow hR')
          simp only[HS]
          exact⟨fun _=>(Ac h1.isPlain).2 h1,fun hn=>absurd (by rw[Lc _ hne];exact hw) hn⟩⟩⟩
        generalize (execOp a.eval o).run E.P R=r at*
        cases r with
        |halt x w=>exact h3.elim
        | ok n w=>
         cases n<;>simp only[Oper.quietUpon] at h3<;>simp only[I6]
         case value y=>
          obtain⟨e1,e2⟩:=h3
          rw[e1,e2]
          exact NI R (Below.refl _ _)
         case skip=>
          obtain⟨e1,e2⟩:=h3
          rw[e1,←e2]
          exact NI R (Below.refl _ _)
         case enter f args=>
          obtain⟨e1,hc⟩:=h3
          rw[e1]
          exact hc.mono fun e w'' ⟨he,hw''⟩=>⟨v,he,NI _ hw''⟩
       ·refine .inr ⟨wf hw,.inl ⟨rfl,F,N,?_⟩⟩
        rw[hd]
        refine h.put (x:=.opt u b x) hdn (hW d hd) undef ?_
        simp only[HS]
        exact⟨fun hn=>absurd (by rw[Lc _ hne] at hn;exact hn) hw,fun _=>trivial⟩
   ·split at he<;>first|(cases he;done)|skip
    rename_i c hc
    have hcu:Bl a u=.bool c:=DO h (H3 _) hc
    split at he<;>first|(cases he;done)|skip
    rename_i x s' hx hs
    obtain⟨cx,k,sx,ps⟩:=x
    cases he
    cases hcb:(bif b then c else !c) with
    | true=>
     have e1:=Ao1 hcb
     subst e1
     have hcx:cx=some (bif c then c else !c):=by
      unfold doE at hx
      split at hx<;>first|(cases hx;done)|skip
      split at hx<;>first|(cases hx;done)|skip
      cases hx;rfl
     have hcv:By cx=true:=by rw[hcx];exact hcb
     obtain⟨_,h2⟩:=A7e ok (h.lit hcu) (UK h 5 u c hcu) hx (hp.1 hcv) hW
     exact .inl ⟨wt.2 hcu,Dx h2 fun v R' ⟨h3,h4⟩=>⟨fun hk=>h3 (Nat.le_trans (Nat.le_max_left ..) hk),.inl ⟨hcv,h4⟩⟩⟩
    | false=>
     have e1:=Ain hcb
     have hcx:cx=some (bif b then c else !c):=by
      unfold doE at hx
      split at hx<;>first|(cases hx;done)|skip
      split at hx<;>first|(cases hx;done)|skip
      cases hx;rfl
     have hcv:By cx=false:=by rw[hcx];exact hcb
     refine .inr ⟨wf fun e=>?_,.inr ⟨hcv,.inl ⟨rfl,F,N,ZJ (h.lit (by rw[hcu,e1])) hs hW⟩⟩⟩
     rw[hcu,e1] at e
     cases b<;>cases e
end
def Us (o:Objs):Nat→A→List Nat
 |0,_=>[]
 | d+1,x=>match x with
  | .sq i=>(match As i o with
   |some (.arr _ _ (.lst cs))=>cs.flatMap fun l=>l.flatMap (Us o d)
   |_=>[])++[i]
  | .vw i _ _ _ _=>(match As i o with
   |some (.arr _ _ (.lst cs))=>cs.flatMap fun l=>l.flatMap (Us o d)
   |_=>[])++[i]
  | .dq i=>[i]
  | .iv i _=>[i]
  | .agg xs=>xs.flatMap (Us o d)
  | .tup xs=>xs.flatMap (Us o d)
  |_=>[]
def opV (s:St) (x:Operand):A:=match s.ev [] x with
 |some z=>z
 | none=>match x with
  | .tmp t=>match s.get t with
   |some (.opt _ _ z)=>z
   |_=> .dead
  |_=> .dead
def Bfm (s:St) (o:Oper):List Nat:=match o.op with
 | .call {callee:=.value _,args, .. }=>args.toList.flatMap fun x=>Us s.o 4 (opV s x)
 | .call {callee:=.builtin .append,args, .. }=>match args.toList with
  | [_,y]=>match opV s y with
   | .sq i=>(Us s.o 4 (.sq i)).filter fun k=>!Nat.beq k i
   |y'=>Us s.o 4 y'
  |_=>[]
 | .store _ _ v=>Us s.o 4 (opV s v)
 |_=>[]
def JU (E:Env):List Nat→St→St×List Prop
 | [],s=>(s,[])
 | i::r,s=>match UI E i s with
  |some (s',ps)=>match JU E r s' with
   |(s'',qs)=>(s'',ps++qs)
  |none=>JU E r s
def Aum (ps:List Prop):List DR→List DR
 | []=>[]
 |(c,k,s,qs)::r=>(c,k,s,ps++qs)::Aum ps r
def Aia:List DR→Bool
 | []=>false
 |(none,_,_,_)::_=>true
 |_::r=>Aia r
def Azd (o:Objs):List Nat→Bool
 | []=>false
 |i::r=>match As i o with
  |some (.deep _ _ _)=>true
  |_=>Azd o r
def Bda (s:St) (o:Oper) (ps:List Prop):List DR→Option (List DR)
 | [(none,k,s1,qs)]=>match o.guard,o.dst with
  |none,some d=>match s1.get d with
   |some (.v x)=>bif Nat.ble k 1&&Nat.blt d s.n then some [(none,k,s.put d (.v x),ps++qs)] else none
   |_=>none
  |_,_=>none
 |_=>none
def A3i (s:St) (o:Oper) (is:List Nat) (ps:List Prop) (l:List DR):Option (List DR):=bif Azd s.o is then Bda s o ps l else none
def Amt (E:Env) (ops:List Oper) (s:St) (o:Oper):Option (List DR):=match Wd E ops s o with
 |some l=>some l
 | none=>match Bfm s o with
  | []=>none
  | i::r=>match JU E (i::r) s with
   | (s',ps)=>match Wd E ops s' o with
    |some l=>bif Aia l then(match A3i s o (i::r) ps l with
     |some l'=>some l'
     |none=>some (Aum ps l)) else none
    |none=>none
theorem Av8 {s:St} {o:Oper} {is:List Nat} {ps:List Prop} {l l':List DR} (h:A3i s o is ps l=some l'):∃k s1 qs d x,l=[(none,k,s1,qs)]∧o.guard=none∧o.dst=some d∧s1.get d=some (.v x)∧k≤1∧d <s.n∧l'=[(none,k,s.put d (.v x),ps++qs)]:=by
 unfold A3i at h
 cases hd:Azd s.o is with
 |false=>rw[hd] at h;cases h
 | true=>
  rw[hd,cond_true] at h
  unfold Bda at h
  split at h<;>first|(cases h;done)|skip
  rename_i k s1 qs
  split at h<;>first|(cases h;done)|skip
  rename_i d hg hds
  split at h<;>first|(cases h;done)|skip
  rename_i x hx
  cases hb:Nat.ble k 1&&Nat.blt d s.n with
  |false=>rw[hb] at h;cases h
  |true=>
   rw[hb] at h
   cases h
   rw[Bool.and_eq_true] at hb
   exact⟨k,s1,qs,d,x,rfl,hg,hds,hx,Nat.le_of_ble_eq_true hb.1,Nat.le_of_ble_eq_true hb.2,rfl⟩
section
variable {E:Env} {Z:Base} {F:Nat→Prop} {N:Nm} {s:St} {a:Act} {R:World}
theorem Q5:∀{l:List Nat} {s s':St} {ps:List Prop} {F:Nat→Prop},Rel Z F N s a R→JU E l s=(s',ps)→(∀p∈ps,p)→∃F',Rel Z F' N s' a R
 | [],s,s',ps,F,h,he,_=>by cases he;exact⟨F,h⟩
 | i::r,s,s',ps,F,h,he,hp=>by
  unfold JU at he
  split at he
  ·rename_i s1 ps1 h1
   generalize h2:JU E r s1=x at he
   obtain⟨s2,qs⟩:=x
   cases he
   obtain⟨F1,g1⟩:=Apd h h1 fun p hm=>hp p (List.mem_append.2 (.inl hm))
   exact Q5 g1 h2 fun p hm=>hp p (List.mem_append.2 (.inr hm))
  ·exact Q5 h he hp
theorem Aii {K:St→Prop} {ps:List Prop}:∀{l:List DR},onL l K→onL (Aum ps l) K
 | [],h=>h
 |_::_,h=>h.imp id fun⟨a,b⟩=>⟨a,Aii b⟩
theorem Aox {ps:List Prop}:∀{l:List DR},Ei (Aum ps l)=Ei l
 | []=>rfl
 |(c,k,s,qs)::r=>by
  show Nat.max k (Ei (Aum ps r))=Nat.max k (Ei r)
  rw[Aox]
theorem Aoy {ps:List Prop}:∀{l:List DR},Mg (Aum ps l)→Mg l
 | [],h=>h
 |(_,_,_,_)::r,⟨h1,h2⟩=>⟨fun hc p hm=>h1 hc p (List.mem_append.2 (.inr hm)),Aoy (l:=r) h2⟩
theorem Aoz {ps:List Prop}:∀{l:List DR},Aia l=true→Mg (Aum ps l)→∀p∈ps,p
 | [],h,_=>by cases h
 |(none,k,s,qs)::r,_,⟨h1,_⟩=>fun p hm=>h1 rfl p (List.mem_append.2 (.inl hm))
 |(some _,k,s,qs)::r,h,⟨_,h2⟩=>Aoz (l:=r) h h2
theorem A9d (ok:EnvOk E) (h:Rel Z F N s a R) {ops:List Oper} {o:Oper} {l:List DR} (he:Amt E ops s o=some l) (hp:Mg l) (hW:∀d,o.dst=some d→Z.W d):
  (Region.wanted o (yielded ops.toArray a.tmps)=true∧I6 E.P (fun v R'=>(Ei l≤1→Below R.heap.size R R')∧onL l fun s'=>∃F' N',Rel Z F' N' s' (a.put o.dst v) R') ((execOp a.eval o).run E.P R))∨
  (Region.wanted o (yielded ops.toArray a.tmps)=false∧onL l fun s'=>∃F' N',Rel Z F' N' s' (a.put o.dst undef) R):=by
 unfold Amt at he
 split at he
 ·rename_i l' hl
  cases he
  exact Ams ok h hl hp hW
 ·split at he<;>first|(cases he;done)|skip
  rename_i i r hc
  generalize hf:JU E (i::r) s=x at he
  obtain⟨s',ps⟩:=x
  simp only at he
  split at he<;>first|(cases he;done)|skip
  rename_i l' hl
  cases hn:Aia l' with
  |false=>rw[hn] at he;cases he
  | true=>
   rw[hn,cond_true] at he
   cases hle:A3i s o (i::r) ps l' with
   | some l2=>
    rw[hle] at he
    cases he
    obtain⟨k,s1,qs,d,x,rfl,hg,hds,hx,hk,hdn,rfl⟩:=Av8 hle
    obtain⟨F',h'⟩:=Q5 h hf fun p hm=>hp.1 rfl p (List.mem_append.2 (.inl hm))
    rcases Ams ok h' hl ⟨fun _ p hm=>hp.1 rfl p (List.mem_append.2 (.inr hm)),hp.2⟩ hW with⟨h1,h2⟩|⟨h1,_⟩
    ·refine .inl ⟨h1,Dx h2 fun v R' ⟨h3,h4⟩=>?_⟩
     have hB:Below R.heap.size R R':=h3 (Nat.max_le.2 ⟨hk,Nat.zero_le _⟩)
     refine⟨fun _=>hB,.inl ⟨rfl,F,N,?_⟩⟩
     rcases h4 with⟨_,F1,N1,hr⟩|h4
     ·have e:=hr.slots d (.v x) hx
      rw[hds,Afp v (by rw[h.size];exact hdn)] at e
      cases(Ac rfl).1 e
      rw[hds]
      exact(h.grow hB).put hdn (hW d hds) _ ((Ac rfl).2 (.v _))
     ·cases h4.1
    ·rw[OM hg] at h1
     cases h1
   |none=>
   rw[hle] at he
   cases he
   obtain⟨F',h'⟩:=Q5 h hf (Aoz hn hp)
   rcases Ams ok h' hl (Aoy hp) hW with⟨h1,h2⟩|⟨h1,h2⟩
   ·exact .inl ⟨h1,Dx h2 fun v R' ⟨h3,h4⟩=>⟨fun hk=>h3 (by rw[Aox] at hk;exact hk),Aii h4⟩⟩
   ·exact .inr ⟨h1,Aii h2⟩
end
def Ash (s:St) (dst:Option Tmp) (x:A) (ps:List Prop):Option (St×List Prop):=match dst with
 |some d=>bif Nat.blt d s.n then some (s.put d x,ps) else none
 |none=>some (s,ps)
def Apx (E:Env) (ops:List Oper) (s:St) (o:Oper):Option (St×List Prop):=
 match o.guard with
 |none=>match WP E s [] o with
  |some (x,ps)=>Ash s o.dst x ps
  |none=>none
 | some (j,b)=>match Ao9 ops j with
  | some u=>match E.lit with
   | true=>match s.raw [] (.tmp u) with
    | some (.bool c)=>match Am5 c b with
     |true=>match WP E s (SB s 5 u b) o with
      |some (x,ps)=>Ash s o.dst x ps
      |none=>none
     |false=>Ash s o.dst (.v undef) []
    |_=>none
   | false=>match WP E s (SB s 5 u b) o with
    |some (x,ps)=>match o.dst with
     |some d=>bif Nat.blt d s.n then(bif Nat.beq d u then none else some (s.put d (.opt u b x),S3 (Rb s (SB s 5 u b) (SB s 5 u b)) ps)) else none
     |none=>none
    |none=>none
  |none=>none
def A2t (P:Program) (ops:List Oper) (o:Oper) (a:Act) (R:World) (v:Value):Prop:=
 (Region.wanted o (yielded ops.toArray a.tmps)=true∧∀w',Below R.heap.size R w'→Oper.quietUpon P (fun w''=>Below w'.heap.size w' w'') w' v ((execOp a.eval o).run P w'))∨
 (Region.wanted o (yielded ops.toArray a.tmps)=false∧v=undef)
section
variable {E:Env} {Z:Base} {F:Nat→Prop} {N:Nm} {s:St} {a:Act} {R:World}
theorem Asi (h:Rel Z F N s a R) {dst:Option Tmp} {x:A} {ps qs:List Prop} {s':St} (he:Ash s dst x ps=some (s',qs)) (hW:∀d,dst=some d→Z.W d) {v:Value} (hv:Hv F N s.nx R x v):qs=ps∧Rel Z F N s' (a.put dst v) R:=by
 unfold Ash at he
 split at he
 ·rename_i d
  cases hb:Nat.blt d s.n with
  |false=>rw[hb] at he;cases he
  |true=>
   rw[hb] at he
   cases he
   exact⟨rfl,h.put (Nat.le_of_ble_eq_true hb) (hW d rfl) v ((Ac hv.isPlain).2 hv)⟩
 ·cases he
  exact⟨rfl,h⟩
theorem Awt (ok:EnvOk E) (h:Rel Z F N s a R) {ops:List Oper} {o:Oper} {s':St} {ps:List Prop} (he:Apx E ops s o=some (s',ps)) (hp:∀p∈ps,p) (hW:∀d,o.dst=some d→Z.W d):
  ∃v,Rel Z F N s' (a.put o.dst v) R∧A2t E.P ops o a R v:=by
 have go:∀{G:Guards} {x:A} {qs:List Prop},MD (Bl a) G→WP E s G o=some (x,qs)→(∀p∈qs,p)→∃v,Hv F N s.nx R x v∧∀R',Below R.heap.size R R'→Oper.quietUpon E.P (fun R''=>Below R'.heap.size R' R'') R' v ((execOp a.eval o).run E.P R'):=fun {G x qs} hG hq hqs=>by
  unfold WP at hq
  cases hl:Apl o.op with
  |true=>rw[hl] at hq;cases hq
  |false=>rw[hl] at hq;exact A1p ok h hG hq hqs
 unfold Apx at he
 split at he
 ·rename_i hg
  split at he<;>first|(cases he;done)|skip
  rename_i x qs hq
  have hqs:qs=ps:=by
   unfold Ash at he
   split at he
   ·rename_i d _
    cases hb:Nat.blt d s.n with
    |false=>rw[hb] at he;cases he
    |true=>rw[hb] at he;cases he;rfl
   ·cases he;rfl
  subst hqs
  obtain⟨v,h1,h2⟩:=go (H3 _) hq hp
  exact⟨v,(Asi h he hW h1).2,.inl ⟨OM hg _,h2⟩⟩
 ·rename_i j b hg
  split at he<;>first|(cases he;done)|skip
  rename_i u hu
  have wt:=X1 hg hu a
  have wf:Bl a u≠.bool b→Region.wanted o (yielded ops.toArray a.tmps)=false:=fun hn=>by
   cases hw:Region.wanted o (yielded ops.toArray a.tmps) with
   |false=>rfl
   |true=>exact absurd (wt.1 hw) hn
  split at he
  ·split at he<;>first|(cases he;done)|skip
   rename_i c hc
   have hcu:Bl a u=.bool c:=DO h (H3 _) hc
   split at he
   ·rename_i hb
    have hcb:=UD hb
    rw[hcb] at hcu
    split at he<;>first|(cases he;done)|skip
    rename_i x qs hq
    have hqs:qs=ps:=by
     unfold Ash at he
     split at he
     ·rename_i d _
      cases hb:Nat.blt d s.n with
      |false=>rw[hb] at he;cases he
      |true=>rw[hb] at he;cases he;rfl
     ·cases he;rfl
    subst hqs
    obtain⟨v,h1,h2⟩:=go (UK h 5 u b hcu) hq hp
    exact⟨v,(Asi h he hW h1).2,.inl ⟨wt.2 hcu,h2⟩⟩
   ·rename_i hb
    refine⟨undef,(Asi h he hW (.v _)).2,.inr ⟨wf fun e=>?_,rfl⟩⟩
    rw[hcu] at e
    cases e
    cases b<;>cases hb
  ·split at he<;>first|(cases he;done)|skip
   rename_i x qs hq
   split at he<;>first|(cases he;done)|skip
   rename_i d hd
   cases hb:Nat.blt d s.n with
   |false=>rw[hb] at he;cases he
   | true=>
    cases hdu:Nat.beq d u with
    |true=>rw[hb,hdu] at he;cases he
    | false=>
     rw[hb,hdu] at he
     cases he
     have hne:u≠d:=fun e=>by subst e;simp at hdu
     have hdn:=Nat.le_of_ble_eq_true hb
     by_cases hw:Bl a u=.bool b
     ·have hG:=UK h 5 u b hw
      obtain⟨v,h1,h2⟩:=go hG hq (LB hp (PV h hG (Ai9 h 5 u b hw)))
      refine⟨v,?_,.inl ⟨wt.2 hw,h2⟩⟩
      rw[hd]
      refine h.put (x:=.opt u b x) hdn (hW d hd) v ?_
      simp only[HS]
      exact⟨fun _=>(Ac h1.isPlain).2 h1,fun hn=>absurd (by rw[Lc _ hne];exact hw) hn⟩
     ·refine⟨undef,?_,.inr ⟨wf hw,rfl⟩⟩
      rw[hd]
      refine h.put (x:=.opt u b x) hdn (hW d hd) undef ?_
      simp only[HS]
      exact⟨fun hn=>absurd (by rw[Lc _ hne] at hn;exact hn) hw,fun _=>trivial⟩
end
abbrev IA:=Cnd×St
def Am6:List DR→List DR
 | []=>[]
 |(c,k,s,ps)::r=>(c,Nat.max 1 k,s,ps)::Am6 r
def Ax9 (ops:List Oper) (s:St) (o:Oper):Option (St×List Prop):=match o.guard with
 | some (j,b)=>match Ao9 ops j with
  | some u=>match s.raw [] (.tmp u) with
   |some (.bool c)=>match Afm s o with
    |some s'=>some (s',[c=!b])
    |none=>none
   |some (.tuple _)=>match Afm s o with
    |some s'=>some (s',[])
    |none=>none
   |_=>none
  |none=>none
 |none=>none
def Qp (E:Env) (ops:List Oper) (s:St) (o:Oper):Option (List DR):=match Apx E ops s o with
 |some (s',ps)=>some [(none,0,s',ps)]
 | none=>match Amt E ops s o with
  |some (x::r)=>some (Am6 (x::r))
  |_=>match Ax9 ops s o with
   |some (s',ps)=>some [(none,0,s',ps)]
   |none=>none
def St.open1 (s:St) (u u2:Nat) (b2:Bool) (y:A):St:={s with t:=(u,y)::(u2,.v (.bool b2))::s.t}
def Auo (c:Cnd):List DR→List DR
 | []=>[]
 |(d,k,s,ps)::r=>(Kv c d,k,s,ps)::Auo c r
def TE (E:Env) (ops:List Oper) (s:St) (o:Oper):Option (List DR):=match Qp E ops s o with
 |some l=>some l
 | none=>match o.guard with
  | some (j,_)=>match Ao9 ops j with
   | some u=>match s.get u with
    | some (.opt u2 b2 y)=>match s.raw [] (.tmp u2) with
     |some (.bool c)=>match Qp E ops (s.open1 u u2 b2 y) o,Qp E ops (s.open1 u u2 (!b2) (.v undef)) o with
      |some l1,some l2=>some (Auo (some (bif b2 then c else !c)) l1++l2)
      |_,_=>none
     |_=>none
    |_=>none
   |none=>none
  |none=>none
def Avf (c:Cnd):List DR→List IA
 | []=>[]
 |(d,_,s,_)::r=>(Kv c d,s)::Avf c r
def A8i (c:Cnd):List DR→List Prop
 | []=>[]
 |(d,_,_,ps)::r=>S3 (Bax (Kv c d)) ps++A8i c r
def JS (E:Env) (ops:List Oper) (o:Oper):List IA→Option (Nat×List IA×List Prop)
 | []=>some (0,[],[])
 | (c,s)::r=>match TE E ops s o with
  |some l=>match JS E ops o r with
   |some (k,r',qs)=>some (Nat.max (Ei l) k,Avf c l++r',A8i c l++qs)
   |none=>none
  |none=>none
def onP:List IA→(St→Prop)→Prop
 | [],_=>False
 |(c,s)::r,K=>(By c=true∧K s)∨(By c=false∧onP r K)
theorem TB {K K':St→Prop} (hk:∀s,K s→K' s):∀{l:List IA},onP l K→onP l K'
 | [],h=>h
 |_::_,h=>h.imp (fun⟨a,b⟩=>⟨a,hk _ b⟩) (fun⟨a,b⟩=>⟨a,TB hk b⟩)
theorem Qn {c:Cnd} {K:St→Prop} {r':List IA} (hc:By c=true):∀{l:List DR},onL l K→onP (Avf c l++r') K
 | [],h=>h.elim
 |(d,k,s,ps)::r,h=>by
  rcases h with⟨h1,h2⟩|⟨h1,h2⟩
  ·exact .inl ⟨by rw[Bp,hc,h1];rfl,h2⟩
  ·exact .inr ⟨by rw[Bp,hc,h1];rfl,Qn hc h2⟩
theorem Qo {c:Cnd} {K:St→Prop} {r':List IA} (hc:By c=false) (h:onP r' K):∀{l:List DR},onP (Avf c l++r') K
 | []=>h
 |(d,k,s,ps)::r=> .inr ⟨by rw[Bp,hc];rfl,Qo hc h⟩
theorem Aj0 {c:Cnd} (hc:By c=true):∀{l:List DR},(∀p∈A8i c l,p)→Mg l
 | [],_=>trivial
 |(d,k,s,ps)::r,h=>by
  refine⟨fun hd=>LB (fun p hm=>h p (List.mem_append.2 (.inl hm))) (A23 (by rw[Bp,hc,hd];rfl)),Aj0 hc fun p hm=>h p (List.mem_append.2 (.inr hm))⟩
theorem Ya {K:St→Prop}:∀{l:List DR},onL l K→onL (Am6 l) K
 | [],h=>h
 |_::_,h=>h.imp id fun⟨a,b⟩=>⟨a,Ya b⟩
theorem Ao3:∀{l:List DR},Mg (Am6 l)→Mg l
 | [],h=>h
 |_::r,⟨h1,h2⟩=>⟨h1,Ao3 (l:=r) h2⟩
theorem Ao2:∀{l:List DR},Ei l≤Ei (Am6 l)
 | []=>Nat.le_refl _
 |(c,k,s,ps)::r=>by
  show Nat.max k (Ei r)≤Nat.max (Nat.max 1 k) (Ei (Am6 r))
  have:=Ao2 (l:=r)
  exact Nat.max_le.2 ⟨Nat.le_trans (Nat.le_max_right ..) (Nat.le_max_left ..),Nat.le_trans this (Nat.le_max_right ..)⟩
section
variable {E:Env} {Z:Base} {F:Nat→Prop} {N:Nm} {s:St} {a:Act} {R:World}
theorem A0c {P:Program} {o:Oper} {v:Value} {K:Value→World→Prop} (h:Oper.quietUpon P (fun w''=>Below R.heap.size R w'') R v ((execOp a.eval o).run P R)) (hk:∀R',Below R.heap.size R R'→K v R'):I6 P K ((execOp a.eval o).run P R):=by
 have hr:=Below.refl R.heap.size R
 generalize (execOp a.eval o).run P R=r at*
 cases r with
 |halt x w=>exact h.elim
 | ok n w=>
  cases n<;>simp only[Oper.quietUpon] at h<;>simp only[I6]
  case value y=>
   obtain⟨e1,e2⟩:=h
   rw[e1,e2]
   exact hk _ hr
  case skip=>
   obtain⟨e1,e2⟩:=h
   rw[e1,←e2]
   exact hk _ hr
  case enter f args=>
   obtain⟨e1,hc⟩:=h
   rw[e1]
   exact hc.mono fun e w'' ⟨he,hw''⟩=>⟨v,he,hk _ hw''⟩
theorem Aya (h:Rel Z F N s a R) {ops:List Oper} {o:Oper} {s':St} {ps:List Prop} (he:Ax9 ops s o=some (s',ps)) (hp:∀p∈ps,p) (hW:∀d,o.dst=some d→Z.W d):
  Region.wanted o (yielded ops.toArray a.tmps)=false∧Rel Z F N s' (a.put o.dst undef) R:=by
 unfold Ax9 at he
 split at he<;>first|(cases he;done)|skip
 rename_i j b hg
 split at he<;>first|(cases he;done)|skip
 rename_i u hu
 have wt:=X1 hg hu a
 split at he<;>first|(cases he;done)|skip
 ·rename_i c hc
  split at he<;>first|(cases he;done)|skip
  rename_i s1 hs
  cases he
  have hcb:c=!b:=hp _ (List.mem_singleton.2 rfl)
  have hcu:Bl a u=.bool c:=DO h (H3 _) hc
  refine⟨?_,ZJ h hs hW⟩
  cases hw:Region.wanted o (yielded ops.toArray a.tmps) with
  |false=>rfl
  |true=>
   have:=wt.1 hw
   rw[hcu,hcb] at this
   cases b<;>cases this
 ·rename_i xs hc
  split at he<;>first|(cases he;done)|skip
  rename_i s1 hs
  cases he
  have hcu:Bl a u=.tuple xs:=DO h (H3 _) hc
  refine⟨?_,ZJ h hs hW⟩
  cases hw:Region.wanted o (yielded ops.toArray a.tmps) with
  |false=>rfl
  |true=>
   have:=wt.1 hw
   rw[hcu] at this
   cases this
theorem Akv (ok:EnvOk E) (h:Rel Z F N s a R) {ops:List Oper} {o:Oper} {l:List DR} (he:Qp E ops s o=some l) (hp:Mg l) (hW:∀d,o.dst=some d→Z.W d):
  (Region.wanted o (yielded ops.toArray a.tmps)=true∧I6 E.P (fun v R'=>(Ei l≤1→Below R.heap.size R R')∧onL l fun s'=>∃F' N',Rel Z F' N' s' (a.put o.dst v) R') ((execOp a.eval o).run E.P R))∨
  (Region.wanted o (yielded ops.toArray a.tmps)=false∧onL l fun s'=>∃F' N',Rel Z F' N' s' (a.put o.dst undef) R):=by
 unfold Qp at he
 split at he
 ·rename_i s' ps hq
  cases he
  obtain⟨v,h1,h2⟩:=Awt ok h hq (hp.1 rfl) hW
  rcases h2 with⟨h2,h3⟩|⟨h2,rfl⟩
  ·exact .inl ⟨h2,A0c (h3 R (Below.refl _ _)) fun R' hb=>⟨fun _=>hb,.inl ⟨rfl,F,N,h1.grow hb⟩⟩⟩
  ·exact .inr ⟨h2,.inl ⟨rfl,F,N,h1⟩⟩
 ·split at he
  ·rename_i x r hs
   cases he
   rcases A9d ok h hs (Ao3 hp) hW with⟨h1,h2⟩|⟨h1,h2⟩
   ·exact .inl ⟨h1,Dx h2 fun v R' ⟨h3,h4⟩=>⟨fun hk=>h3 (Nat.le_trans Ao2 hk),Ya h4⟩⟩
   ·exact .inr ⟨h1,Ya h2⟩
  ·split at he<;>first|(cases he;done)|skip
   rename_i s' ps hs
   cases he
   obtain⟨h1,h2⟩:=Aya h hs (hp.1 rfl) hW
   exact .inr ⟨h1,.inl ⟨rfl,F,N,h2⟩⟩
theorem TF (ok:EnvOk E) (h:Rel Z F N s a R) {ops:List Oper} {o:Oper} {l:List DR} (he:Qp E ops s o=some l) (hk:Ei l=0) (hp:Mg l) (hW:∀d,o.dst=some d→Z.W d):
  ∃v,(onL l fun s'=>∃F' N',Rel Z F' N' s' (a.put o.dst v) R)∧A2t E.P ops o a R v:=by
 unfold Qp at he
 split at he
 ·rename_i s' ps hq
  cases he
  obtain⟨v,h1,h2⟩:=Awt ok h hq (hp.1 rfl) hW
  exact⟨v,.inl ⟨rfl,F,N,h1⟩,h2⟩
 ·split at he
  ·rename_i x r hs
   cases he
   obtain⟨c,k,s',ps⟩:=x
   have hk':Nat.max (Nat.max 1 k) (Ei (Am6 r))=0:=hk
   exact absurd (Nat.le_trans (Nat.le_trans (Nat.le_max_left 1 k) (Nat.le_max_left (Nat.max 1 k) (Ei (Am6 r)))) (Nat.le_of_eq hk')) (by decide)
  ·split at he<;>first|(cases he;done)|skip
   rename_i s' ps hs
   cases he
   obtain⟨h1,h2⟩:=Aya h hs (hp.1 rfl) hW
   exact⟨undef,.inl ⟨rfl,F,N,h2⟩,.inr ⟨h1,rfl⟩⟩
theorem Mq {c:Cnd} {K:St→Prop} {r:List DR} (hc:By c=true):∀{l:List DR},onL l K→onL (Auo c l++r) K
 | [],h=>h.elim
 |(d,k,s,ps)::_,h=>by
  rcases h with⟨h1,h2⟩|⟨h1,h2⟩
  ·exact .inl ⟨by rw[Bp,hc,h1];rfl,h2⟩
  ·exact .inr ⟨by rw[Bp,hc,h1];rfl,Mq hc h2⟩
theorem Lf {c:Cnd} {K:St→Prop} {r:List DR} (hc:By c=false) (h:onL r K):∀{l:List DR},onL (Auo c l++r) K
 | []=>h
 |(d,k,s,ps)::_=> .inr ⟨by rw[Bp,hc];rfl,Lf hc h⟩
theorem UR {c:Cnd} {r:List DR}:∀{l:List DR},Mg (Auo c l++r)→(By c=true→Mg l)∧Mg r
 | [],h=>⟨fun _=>trivial,h⟩
 |(d,k,s,ps)::_,⟨h1,h2⟩=>⟨fun hc=>⟨fun hd=>h1 (by rw[Bp,hc,hd];rfl),(UR h2).1 hc⟩,(UR h2).2⟩
theorem Aam {c:Cnd} {r:List DR}:∀{l:List DR},Ei (Auo c l++r)=Nat.max (Ei l) (Ei r)
 | []=>by show Ei r=Nat.max 0 (Ei r);exact(Nat.max_eq_right (Nat.zero_le _)).symm
 |(d,k,s,ps)::l=>by
  show Nat.max k (Ei (Auo c l++r))=Nat.max (Nat.max k (Ei l)) (Ei r)
  rw[Aam]
  exact(Nat.max_assoc _ _ _).symm
theorem Awl (h:Rel Z F N s a R) {u u2:Nat} {b2:Bool} {y:A} (hu:HS F N s.nx R (Bl a) y (Bl a u)) (hu2:Bl a u2=.bool b2):Rel Z F N (s.open1 u u2 b2 y) a R:=
 ⟨h.defers,h.size,fun v x hv=>by
  have hv':(bif Nat.beq u v then some y else bif Nat.beq u2 v then some (A.v (.bool b2)) else DN v s.t)=some x:=hv
  cases hb:Nat.beq u v with
  |true=>
   rw[hb] at hv'
   obtain rfl:=Nat.eq_of_beq_eq_true hb
   cases hv'
   exact hu
  | false=>
   rw[hb] at hv'
   cases hb2:Nat.beq u2 v with
   |true=>
    rw[hb2] at hv'
    obtain rfl:=Nat.eq_of_beq_eq_true hb2
    cases hv'
    rw[hu2]
    exact(Ac rfl).2 (.v _)
   |false=>rw[hb2] at hv';exact h.slots v x hv',h.hp,h.st,h.tm⟩
theorem Akq (h:Rel Z F N s a R) {u u2:Nat} {b2 c:Bool} {y:A} (hg:s.get u=some (.opt u2 b2 y)) (hc:s.raw [] (.tmp u2)=some (.bool c)):
  (By (some (bif b2 then c else !c))=true∧Rel Z F N (s.open1 u u2 b2 y) a R)∨(By (some (bif b2 then c else !c))=false∧Rel Z F N (s.open1 u u2 (!b2) (.v undef)) a R):=by
 have hcu:Bl a u2=.bool c:=DO h (H3 _) hc
 have hs:=h.slots u _ hg
 simp only[HS] at hs
 cases hcb:(bif b2 then c else !c) with
 |true=>
  have e:=Ao1 hcb
  subst e
  exact .inl ⟨rfl,Awl h (hs.1 hcu) hcu⟩
 |false=>
  have e:=Ain hcb
  refine .inr ⟨rfl,Awl h ?_ (by rw[hcu,e])⟩
  rw[hs.2 (by rw[hcu,e];cases b2<;>simp)]
  exact(Ac rfl).2 (.v _)
theorem A8n (ok:EnvOk E) (h:Rel Z F N s a R) {ops:List Oper} {o:Oper} {l:List DR} (he:TE E ops s o=some l) (hp:Mg l) (hW:∀d,o.dst=some d→Z.W d):
  (Region.wanted o (yielded ops.toArray a.tmps)=true∧I6 E.P (fun v R'=>(Ei l≤1→Below R.heap.size R R')∧onL l fun s'=>∃F' N',Rel Z F' N' s' (a.put o.dst v) R') ((execOp a.eval o).run E.P R))∨
  (Region.wanted o (yielded ops.toArray a.tmps)=false∧onL l fun s'=>∃F' N',Rel Z F' N' s' (a.put o.dst undef) R):=by
 unfold TE at he
 split at he
 ·rename_i l' hl
  cases he
  exact Akv ok h hl hp hW
 ·split at he<;>first|(cases he;done)|skip
  split at he<;>first|(cases he;done)|skip
  split at he<;>first|(cases he;done)|skip
  rename_i u2 b2 y hg
  split at he<;>first|(cases he;done)|skip
  rename_i c hc
  split at he<;>first|(cases he;done)|skip
  rename_i l1 l2 h1 h2
  cases he
  obtain⟨n1,n2⟩:=UR hp
  rw[Aam]
  rcases Akq h hg hc with⟨e,hr⟩|⟨e,hr⟩
  ·rcases Akv ok hr h1 (n1 e) hW with⟨g1,g2⟩|⟨g1,g2⟩
   ·exact .inl ⟨g1,Dx g2 fun v R' ⟨g3,g4⟩=>⟨fun hk=>g3 (Nat.le_trans (Nat.le_max_left ..) hk),Mq e g4⟩⟩
   ·exact .inr ⟨g1,Mq e g2⟩
  ·rcases Akv ok hr h2 n2 hW with⟨g1,g2⟩|⟨g1,g2⟩
   ·exact .inl ⟨g1,Dx g2 fun v R' ⟨g3,g4⟩=>⟨fun hk=>g3 (Nat.le_trans (Nat.le_max_right ..) hk),Lf e g4⟩⟩
   ·exact .inr ⟨g1,Lf e g2⟩
theorem Awp (ok:EnvOk E) (h:Rel Z F N s a R) {ops:List Oper} {o:Oper} {l:List DR} (he:TE E ops s o=some l) (hk:Ei l=0) (hp:Mg l) (hW:∀d,o.dst=some d→Z.W d):
  ∃v,(onL l fun s'=>∃F' N',Rel Z F' N' s' (a.put o.dst v) R)∧A2t E.P ops o a R v:=by
 unfold TE at he
 split at he
 ·rename_i l' hl
  cases he
  exact TF ok h hl hk hp hW
 ·split at he<;>first|(cases he;done)|skip
  split at he<;>first|(cases he;done)|skip
  split at he<;>first|(cases he;done)|skip
  rename_i u2 b2 y hg
  split at he<;>first|(cases he;done)|skip
  rename_i c hc
  split at he<;>first|(cases he;done)|skip
  rename_i l1 l2 h1 h2
  cases he
  obtain⟨n1,n2⟩:=UR hp
  rw[Aam] at hk
  have hk1:Ei l1=0:=Nat.le_zero.1 (Nat.le_trans (Nat.le_max_left (Ei l1) (Ei l2)) (Nat.le_of_eq hk))
  have hk2:Ei l2=0:=Nat.le_zero.1 (Nat.le_trans (Nat.le_max_right (Ei l1) (Ei l2)) (Nat.le_of_eq hk))
  rcases Akq h hg hc with⟨e,hr⟩|⟨e,hr⟩
  ·obtain⟨v,g1,g2⟩:=TF ok hr h1 hk1 (n1 e) hW
   exact⟨v,Mq e g1,g2⟩
  ·obtain⟨v,g1,g2⟩:=TF ok hr h2 hk2 n2 hW
   exact⟨v,Lf e g1,g2⟩
abbrev At (Z:Base) (A:Act) (w:World):St→Prop:=fun s=>∃F N,Rel Z F N s A w
theorem Yp (ok:EnvOk E) {ops:List Oper} {o:Oper} (hW:∀d,o.dst=some d→Z.W d):∀{l l':List IA} {qs:List Prop},JS E ops o l=some (0,l',qs)→(∀q∈qs,q)→onP l (At Z a R)→∃v,onP l' (At Z (a.put o.dst v) R)∧A2t E.P ops o a R v
 | [],l',qs,he,_,h=>h.elim
 | (c,s)::r,l',qs,he,hp,h=>by
  unfold JS at he
  split at he<;>first|(cases he;done)|skip
  rename_i l1 h1
  split at he<;>first|(cases he;done)|skip
  rename_i k r' qs' h2
  injection he with he
  injection he with hk he
  injection he with e1 e2
  subst e1 e2
  have hk1:Ei l1=0:=Nat.le_zero.1 (Nat.le_trans (Nat.le_max_left (Ei l1) k) (Nat.le_of_eq hk))
  have hk2:k=0:=Nat.le_zero.1 (Nat.le_trans (Nat.le_max_right (Ei l1) k) (Nat.le_of_eq hk))
  rcases h with⟨hc,F,N,hr⟩|⟨hc,h⟩
  ·obtain⟨v,g1,g2⟩:=Awp ok hr h1 hk1 (Aj0 hc fun p hm=>hp p (List.mem_append.2 (.inl hm))) hW
   exact⟨v,Qn hc g1,g2⟩
  ·subst hk2
   obtain⟨v,g1,g2⟩:=Yp ok hW h2 (fun p hm=>hp p (List.mem_append.2 (.inr hm))) h
   exact⟨v,Qo hc g1,g2⟩
theorem Z6 (ok:EnvOk E) {ops:List Oper} {o:Oper} (hW:∀d,o.dst=some d→Z.W d):∀{l l':List IA} {k:Nat} {qs:List Prop},JS E ops o l=some (k,l',qs)→(∀q∈qs,q)→onP l (At Z a R)→
  (Region.wanted o (yielded ops.toArray a.tmps)=true∧I6 E.P (fun v R'=>(k≤1→Below R.heap.size R R')∧onP l' (At Z (a.put o.dst v) R')) ((execOp a.eval o).run E.P R))∨
  (Region.wanted o (yielded ops.toArray a.tmps)=false∧onP l' (At Z (a.put o.dst undef) R))
 | [],l',k,qs,he,_,h=>h.elim
 | (c,s)::r,l',k,qs,he,hp,h=>by
  unfold JS at he
  split at he<;>first|(cases he;done)|skip
  rename_i l1 h1
  split at he<;>first|(cases he;done)|skip
  rename_i k' r' qs' h2
  cases he
  rcases h with⟨hc,F,N,hr⟩|⟨hc,h⟩
  ·rcases A8n ok hr h1 (Aj0 hc fun p hm=>hp p (List.mem_append.2 (.inl hm))) hW with⟨g1,g2⟩|⟨g1,g2⟩
   ·exact .inl ⟨g1,Dx g2 fun v R' ⟨g3,g4⟩=>⟨fun hk=>g3 (Nat.le_trans (Nat.le_max_left ..) hk),Qn hc g4⟩⟩
   ·exact .inr ⟨g1,Qn hc g2⟩
  ·rcases Z6 ok hW h2 (fun p hm=>hp p (List.mem_append.2 (.inr hm))) h with⟨g1,g2⟩|⟨g1,g2⟩
   ·exact .inl ⟨g1,Dx g2 fun v R' ⟨g3,g4⟩=>⟨fun hk=>g3 (Nat.le_trans (Nat.le_max_right ..) hk),Qo hc g4⟩⟩
   ·exact .inr ⟨g1,Qo hc g2⟩
end
end Go.Proofs.Yteebobbhhgmeiaa
namespace Go.Proofs.Yteebobbhhgmeiaa
open Go.RowKit
theorem BM {α:Type} {b:Bool} {x:Option α} {y:α} (h:(bif b then x else none)=some y):x=some y:=by cases b<;>first|exact h|cases h
theorem Aut {α:Type} {b:Bool} {x:Option α} {y:α} (h:(bif b then none else x)=some y):x=some y:=by cases b<;>first|exact h|cases h
theorem A4n (o:Objs) (d:Option Nat):∃e,Z3 o d=e++o:=by
 cases d with
 |none=>exact⟨[],rfl⟩
 |some i=>exact⟨[(i,none)],rfl⟩
section
variable {E:Env} {s:St} {G:Guards}
theorem Avj (ok:EnvOk E) {o:Oper} {f:SF} (he:A4o E s G o=some f):∃d,f.o=d++s.o:=by
 obtain⟨dst,op,type,pos,after,guard⟩:=o
 unfold A4o at he
 simp only at he
 split at he
 ·unfold Aik at he
  repeat' (first|(cases he;done)|(replace he:=BM he)|split at he)
  all_goals (cases he;exact⟨[_],rfl⟩)
 ·unfold Bd8 at he
  repeat' (first|(cases he;done)|(replace he:=BM he)|split at he)
  all_goals (cases he;exact⟨[_],rfl⟩)
 ·unfold Ax8 at he
  repeat' (first|(cases he;done)|(replace he:=BM he)|split at he)
  all_goals (cases he;exact⟨[_],rfl⟩)
 ·unfold X9 at he
  repeat' (first|(cases he;done)|(replace he:=BM he)|split at he)
  all_goals (cases he;exact⟨[_],rfl⟩)
 ·unfold Aib at he
  repeat' (first|(cases he;done)|(replace he:=BM he)|split at he)
  all_goals (cases he;exact⟨[_],rfl⟩)
 ·unfold UX at he
  repeat' (first|(cases he;done)|(replace he:=BM he)|split at he)
  all_goals (cases he;exact⟨[],rfl⟩)
 ·split at he<;>first|(cases he;done)|skip
  unfold Bat at he
  repeat' (first|(cases he;done)|(replace he:=BM he)|split at he)
  all_goals (cases he;first|exact⟨[_],rfl⟩|exact⟨[_,_,_],rfl⟩|(obtain⟨e,h⟩:=A4n s.o _;exact⟨_::e,by show _::Z3 _ _=_;rw[h];rfl⟩))
 ·split at he<;>first|(cases he;done)|skip
  unfold A26 at he
  repeat' (first|(cases he;done)|(replace he:=BM he)|split at he)
  all_goals (cases he;exact⟨[_],rfl⟩)
 ·unfold Ah8 at he
  split at he<;>first|(cases he;done)|skip
  rename_i k x nx' o' ps hr
  cases he
  unfold Au0 at hr
  repeat' (first|(cases hr;done)|(replace hr:=BM hr)|split at hr)
  exact ok.suf _ _ _ _ _ _ _ _ _ hr
 ·unfold As8 at he
  repeat' (first|(cases he;done)|split at he)
  all_goals (cases he;exact⟨[_],rfl⟩)
 ·unfold A3s at he
  repeat' (first|(cases he;done)|(replace he:=BM he)|split at he)
  all_goals (cases he;exact⟨[_],rfl⟩)
 ·unfold Ar4 at he
  replace he:=BM he
  cases he
  exact⟨[_],rfl⟩
 ·unfold Arx at he
  repeat' (first|(cases he;done)|(replace he:=BM he)|split at he)
  all_goals (cases he;exact⟨[_],rfl⟩)
 ·cases he
theorem Bbt (ok:EnvOk E) {o:Oper} {f:SF} (he:opE E s G o=some f):∃d,f.o=d++s.o:=by
 unfold opE at he
 cases hl:Apl o.op with
 |true=>rw[hl] at he;exact Avj ok he
 |false=>
  rw[hl] at he
  simp only[cond_false] at he
  split at he
  ·cases he;exact⟨[],rfl⟩
  ·exact Avj ok he
theorem Sub.put (s:St) (u:Nat) (x:A):Sub s (s.put u x):=⟨rfl,[],rfl⟩
theorem Sub.lit (s:St) (u:Nat) (b:Bool):Sub s (s.lit u b):=⟨rfl,[],rfl⟩
theorem A8v {dst:Option Tmp} {f:SF} {s':St} (he:Aws s dst f=some s') (hf:∃d,f.o=d++s.o):Sub s s':=by
 unfold Aws at he
 split at he
 ·replace he:=BM he
  cases he
  exact⟨rfl,hf⟩
 ·cases he
  exact⟨rfl,hf⟩
theorem Acu {o:Oper} {s':St} (he:Afm s o=some s'):Sub s s':=by
 unfold Afm at he
 split at he
 ·replace he:=BM he
  cases he
  exact Sub.put _ _ _
 ·cases he
  exact Sub.refl _
theorem Arh (ok:EnvOk E) {o:Oper} {c c':Cnd} {ps ps':List Prop} {k:Nat} {s':St} (he:doE E s G o c ps=some (c',k,s',ps')):Sub s s':=by
 unfold doE at he
 split at he<;>first|(cases he;done)|skip
 rename_i f hf
 split at he<;>first|(cases he;done)|skip
 rename_i s1 hs
 cases he
 exact A8v hs (Bbt ok hf)
theorem Akz {dst:Option Tmp} {x:A} {ps ps':List Prop} {s':St} (he:Ash s dst x ps=some (s',ps')):Sub s s':=by
 unfold Ash at he
 split at he
 ·replace he:=BM he
  cases he
  exact Sub.put _ _ _
 ·cases he
  exact Sub.refl _
theorem A46 {ops:List Oper} {o:Oper} {s':St} {ps:List Prop} (he:Apx E ops s o=some (s',ps)):Sub s s':=by
 unfold Apx at he
 split at he
 ·split at he<;>first|(cases he;done)|skip
  exact Akz he
 ·split at he<;>first|(cases he;done)|skip
  split at he
  ·split at he<;>first|(cases he;done)|skip
   split at he
   ·split at he<;>first|(cases he;done)|skip
    exact Akz he
   ·exact Akz he
  ·split at he<;>first|(cases he;done)|skip
   split at he<;>first|(cases he;done)|skip
   replace he:=BM he
   replace he:=Aut he
   cases he
   exact Sub.put _ _ _
def XS (s:St):List DR→Prop
 | []=>True
 |(_,_,s',_)::r=>Sub s s'∧XS s r
theorem Aqa (ok:EnvOk E) {ops:List Oper} {o:Oper} {l:List DR} (he:Wd E ops s o=some l):XS s l:=by
 unfold Wd at he
 split at he
 ·split at he<;>first|(cases he;done)|skip
  rename_i x hx
  obtain⟨c,k,s',ps⟩:=x
  cases he
  exact⟨Arh ok hx,trivial⟩
 ·split at he<;>first|(cases he;done)|skip
  split at he
  ·split at he<;>first|(cases he;done)|skip
   split at he
   ·split at he<;>first|(cases he;done)|skip
    rename_i x hx
    obtain⟨c,k,s',ps⟩:=x
    cases he
    exact⟨Arh ok hx,trivial⟩
   ·split at he<;>first|(cases he;done)|skip
    rename_i s' hs
    cases he
    exact⟨Acu hs,trivial⟩
  ·split at he
   ·split at he<;>first|(cases he;done)|skip
    replace he:=BM he
    replace he:=Aut he
    cases he
    exact⟨Sub.put _ _ _,trivial⟩
   ·split at he<;>first|(cases he;done)|skip
    split at he<;>first|(cases he;done)|skip
    rename_i x s' hx hs
    obtain⟨c,k,s1,ps⟩:=x
    cases he
    exact⟨(Sub.lit _ _ _).trans (Arh ok hx),(Sub.lit _ _ _).trans (Acu hs),trivial⟩
theorem SU:∀{l:List Nat} {s s':St} {ps:List Prop},JU E l s=(s',ps)→Sub s s'
 | [],s,s',ps,he=>by cases he;exact Sub.refl _
 | i::r,s,s',ps,he=>by
  unfold JU at he
  split at he
  ·rename_i s1 ps1 h1
   generalize h2:JU E r s1=x at he
   obtain⟨s2,qs⟩:=x
   cases he
   obtain⟨e1,e2⟩:=Ws h1
   exact Sub.trans ⟨e1,e2⟩ (SU h2)
  ·exact SU he
theorem XT {s1:St} (h:Sub s s1):∀{l:List DR},XS s1 l→XS s l
 | [],_=>trivial
 |_::_,⟨h1,h2⟩=>⟨h.trans h1,XT h h2⟩
theorem Aqb {ps:List Prop}:∀{l:List DR},XS s l→XS s (Aum ps l)
 | [],_=>trivial
 |_::_,⟨h1,h2⟩=>⟨h1,Aqb h2⟩
theorem Aqc:∀{l:List DR},XS s l→XS s (Am6 l)
 | [],_=>trivial
 |_::_,⟨h1,h2⟩=>⟨h1,Aqc h2⟩
theorem A5o (ok:EnvOk E) {ops:List Oper} {o:Oper} {l:List DR} (he:Amt E ops s o=some l):XS s l:=by
 unfold Amt at he
 split at he
 ·rename_i l' hl
  cases he
  exact Aqa ok hl
 ·split at he<;>first|(cases he;done)|skip
  rename_i i r hc
  generalize hf:JU E (i::r) s=x at he
  obtain⟨s',ps⟩:=x
  simp only at he
  split at he<;>first|(cases he;done)|skip
  rename_i l' hl
  replace he:=BM he
  split at he
  ·rename_i l2 hle
   cases he
   obtain⟨k,s1,qs,d,x,_,_,_,_,_,_,rfl⟩:=Av8 hle
   exact⟨Sub.put _ _ _,trivial⟩
  ·cases he
   exact Aqb (XT (SU hf) (Aqa ok hl))
theorem A5n {ops:List Oper} {o:Oper} {s':St} {ps:List Prop} (he:Ax9 ops s o=some (s',ps)):Sub s s':=by
 unfold Ax9 at he
 repeat' (first|(cases he;done)|split at he)
 all_goals (rename_i hs;cases he;exact Acu hs)
theorem Abd (ok:EnvOk E) {ops:List Oper} {o:Oper} {l:List DR} (he:Qp E ops s o=some l):XS s l:=by
 unfold Qp at he
 split at he
 ·rename_i s' ps hq
  cases he
  exact⟨A46 hq,trivial⟩
 ·split at he
  ·rename_i x r hs
   cases he
   exact Aqc (A5o ok hs)
  ·split at he<;>first|(cases he;done)|skip
   rename_i s' ps hs
   cases he
   exact⟨A5n hs,trivial⟩
theorem Aye {s1:St} {c:Cnd} {r:List DR} (h:Sub s s1) (hr:XS s r):∀{l:List DR},XS s1 l→XS s (Auo c l++r)
 | [],_=>hr
 |_::_,⟨h1,h2⟩=>⟨h.trans h1,Aye h hr h2⟩
theorem Awm (s:St) (u u2:Nat) (b2:Bool) (y:A):Sub s (s.open1 u u2 b2 y):=⟨rfl,[],rfl⟩
theorem A41 (ok:EnvOk E) {ops:List Oper} {o:Oper} {l:List DR} (he:TE E ops s o=some l):XS s l:=by
 unfold TE at he
 split at he
 ·rename_i l' hl
  cases he
  exact Abd ok hl
 ·repeat' (first|(cases he;done)|split at he)
  rename_i l1 l2 h1 h2
  cases he
  exact Aye (Awm _ _ _ _ _) (XT (Awm _ _ _ _ _) (Abd ok h2)) (Abd ok h1)
def Acx (s:St):List IA→Prop
 | []=>True
 |(_,s')::r=>Sub s s'∧Acx s r
theorem Aqd {s1:St} (h:Sub s s1) {c:Cnd} {r':List IA} (hr:Acx s r'):∀{l:List DR},XS s1 l→Acx s (Avf c l++r')
 | [],_=>hr
 |_::_,⟨h1,h2⟩=>⟨h.trans h1,Aqd h hr h2⟩
theorem Wr (ok:EnvOk E) {ops:List Oper} {o:Oper}:∀{l l':List IA} {k:Nat} {qs:List Prop},JS E ops o l=some (k,l',qs)→Acx s l→Acx s l'
 | [],l',k,qs,he,_=>by cases he;trivial
 |(c,s1)::r,l',k,qs,he,⟨h1,h2⟩=>by
  unfold JS at he
  split at he<;>first|(cases he;done)|skip
  rename_i l1 g1
  split at he<;>first|(cases he;done)|skip
  rename_i k' r' qs' g2
  cases he
  exact Aqd h1 (Wr ok g2 h2) (A41 ok g1)
end
def Tq (W:List Nat) (s0:St):List IA→St
 | []=>s0
 | [(_,s)]=>s
 |(c,s)::r=>Im (By c) W s0 s (Tq W s0 r)
theorem WE (W:List Nat) (s0:St):∀{l:List IA},Acx s0 l→Sub s0 (Tq W s0 l)
 | [],_=>Sub.refl _
 | [(_,_)],⟨h,_⟩=>h
 |(_,_)::_::_,_=>Sub.merge _ _ _ _ _
section
variable {Z:Base} {F F0:Nat→Prop} {N N0:Nm} {s0 s:St} {a a0:Act} {R R0:World} {W:List Nat}
theorem Rel.over (h0:Rel Z F0 N0 s0 a0 R0) (h:Rel (Ke F0 N0 s0 a0 R0 W) F N s a R) (hW:∀u,NK u W=true→Z.W u):Rel Z F N s a R:=
 ⟨h.defers,h.size,h.slots,h.hp,h0.st.trans h.st,fun u hu=>by
  rw[h.tm u fun hw=>hu (hW u hw)]
  exact h0.tm u hu⟩
theorem Apo (h0:Rel Z F0 N0 s0 a0 R0):∀{l:List IA},Acx s0 l→onP l (At (Ke F0 N0 s0 a0 R0 W) a R)→At (Ke F0 N0 s0 a0 R0 W) a R (Tq W s0 l)
 | [],_,h=>h.elim
 | [(c,s)],_,h=>by
  rcases h with⟨_,h⟩|⟨_,h⟩
  ·exact h
  ·exact h.elim
 | (c,s)::p::r,⟨h1,h2⟩,h=>by
  have e2:=WE W s0 h2
  rcases h with⟨hc,F,N,h⟩|⟨hc,h⟩
  ·obtain⟨N',hr⟩:=Rel.merge (g:=By c) (s1:=s) (s2:=Tq W s0 (p::r)) (h0.start W) (by rw[hc];exact h) (fun _ h=>h) h1 e2
   exact⟨F,N',hr⟩
  ·obtain⟨F,N,h⟩:=Apo h0 h2 h
   obtain⟨N',hr⟩:=Rel.merge (g:=By c) (s1:=s) (s2:=Tq W s0 (p::r)) (h0.start W) (by rw[hc];exact h) (fun _ h=>h) h1 e2
   exact⟨F,N',hr⟩
end
def PJ:List Oper→List Nat
 | []=>[]
 |o::r=>match o.dst with
  |some d=>d::PJ r
  |none=>PJ r
def Apc (E:Env) (ops:List Oper):List Oper→List IA→Option (List IA×List Prop)
 | [],l=>some (l,[])
 | o::r,l=>match JS E ops o l with
  |some (_,l',ps)=>match Apc E ops r l' with
   |some (l'',qs)=>some (l'',ps++qs)
   |none=>none
  |none=>none
theorem Avh:∀{l:List Oper} {o:Oper} {d:Nat},o∈l→o.dst=some d→NK d (PJ l)=true
 | [],o,d,h,_=>by cases h
 | x::r,o,d,h,hd=>by
  rcases List.mem_cons.1 h with rfl|h
  ·unfold PJ
   rw[hd]
   show(bif Nat.beq d d then true else NK d (PJ r))=true
   rw[Lu];rfl
  ·have:=Avh h hd
   unfold PJ
   split
   ·rename_i e _
    show(bif Nat.beq e d then true else NK d (PJ r))=true
    rw[this];cases Nat.beq e d<;>rfl
   ·exact this
section
variable {E:Env} {Z:Base} {a:Act} {R:World}
theorem A8l (ok:EnvOk E) {ops:List Oper} {Q:Exit→Act→World→Prop}:∀{l:List Oper} {P P':List IA} {ps:List Prop} {a:Act} {R:World},(∀o∈l,∀d,o.dst=some d→Z.W d)→onP P (At Z a R)→Apc E ops l P=some (P',ps)→(∀p∈ps,p)→
  (∀a' R',onP P' (At Z a' R')→Q .normal a' R')→wpList E.P ops.toArray Q l a R
 | [],P,P',ps,a,R,_,h,he,_,hk=>by
  cases he
  exact hk a R h
 | o::r,P,P',ps,a,R,hW,h,he,hp,hk=>by
  unfold Apc at he
  split at he<;>first|(cases he;done)|skip
  rename_i k P1 ps1 h1
  split at he<;>first|(cases he;done)|skip
  rename_i P2 ps2 h2
  cases he
  have next:∀a' R',onP P1 (At Z a' R')→wpList E.P ops.toArray Q r a' R':=fun a' R' h'=>A8l ok (fun o ho=>hW o (List.mem_cons_of_mem _ ho)) h' h2 (fun p hm=>hp p (List.mem_append.2 (.inr hm))) hk
  unfold wpList
  rcases Z6 ok (hW o (List.mem_cons_self ..)) h1 (fun p hm=>hp p (List.mem_append.2 (.inl hm))) h with⟨g1,g2⟩|⟨g1,g2⟩
  ·rw[if_pos g1]
   left
   exact ZQ (Dx g2 fun v R' ⟨_,g3⟩=>next _ _ g3)
  ·rw[if_neg (by rw[g1];exact Bool.false_ne_true)]
   exact next _ _ g2
theorem Z5 {s0:St} (ok:EnvOk E) {ops:List Oper}:∀{l:List Oper} {P P':List IA} {ps:List Prop},Apc E ops l P=some (P',ps)→Acx s0 P→Acx s0 P'
 | [],P,P',ps,he,h=>by cases he;exact h
 |o::r,P,P',ps,he,h=>by
  unfold Apc at he
  split at he<;>first|(cases he;done)|skip
  rename_i k P1 ps1 h1
  split at he<;>first|(cases he;done)|skip
  rename_i P2 ps2 h2
  cases he
  exact Z5 ok h2 (Wr ok h1 h)
end
def A3e (P:Program):Nat→TypeId→Bool
 |0,_=>true
 |d+1,t=>match P.underlying t with
  |some (.slice _)=>true
  |some (.struct fs)=>fs.toList.any fun f=>A3e P d f.type
  |some (.array _ e)=>A3e P d e
  |some (.tuple es)=>es.toList.any fun e=>A3e P d e
  |_=>false
def Bf9 (P:Program) (o:Oper):Bool:=match o.op with
 | .alloc _=>true
 | .box _ _=>true
 | .buildSlice _ _ _=>true
 | .makeSlice _ _ _=>true
 | .store _ _ _=>true
 | .range _ _=>true
 | .next _ _=>true
 | .makeMap _ _=>true
 | .mapUpdate _ _ _ _=>true
 | .convert _ dst _=>match P.underlying dst with
  |some (.slice _)=>true
  |_=>false
 | .call {callee:=.builtin .append, .. }=>true
 | .call {callee:=.builtin .copy, .. }=>true
 | .call {callee:=.value _, .. }=>A3e P 4 o.type
 |_=>false
def A7c (done:List Nat) (o:Oper):Bool:=o.after.toList.all fun e=>!Region.binds .any e||done.contains e.on
def A3v (P:Program) (ops:List Oper):List Nat→List Nat→List Nat→List Nat×List Nat
 | [],done,left=>(done,left.reverse)
 |i::r,done,left=>match ops[i]? with
  |some o=>bif A7c done o&&!Bf9 P o then A3v P ops r (i::done) left else A3v P ops r done (i::left)
  |none=>A3v P ops r done left
def Aix (P:Program) (o:Oper):Bool:=match o.op,o.guard with
 | .alloc e,none=>match(P.info? e).bind (·.zero) with
  |some _=>true
  |none=>false
 |_,_=>false
def Ari (P:Program) (ops:List Oper) (order:List Nat) (k:Nat):Bool:=match ops[order.getD k 0]? with
 |some o=>Aix P o
 |none=>false
def Azk (P:Program) (sk:Bool) (ops:List Oper) (done:List Nat):List Nat→Option (Nat×List Nat)
 | []=>none
 | i::r=>match ops[i]? with
  |some o=>bif A7c done o&&!(sk&&Aix P o) then some (i,r) else match Azk P sk ops done r with
   |some (m,l)=>some (m,i::l)
   |none=>none
  |none=>none
def A8t (P:Program) (ops:List Oper):Nat→List Nat→List Nat→List Nat
 |0,_,done=>done.reverse
 | n+1,todo,done=>match A3v P ops todo done [] with
  | (done',left)=>match Azk P true ops done' left with
   |some (m,rest)=>A8t P ops n rest (m::done')
   |none=>match Azk P false ops done' left with
    |some (m,rest)=>A8t P ops n rest (m::done')
    |none=>done'.reverse
def A43 (P:Program) (ops:List Oper):List Nat:=A8t P ops (ops.length+1) (List.range ops.length) []
def evK (E:Env) (ops:List Oper):List Nat→List IA→Option (List Nat×List IA×List Prop)
 | [],l=>some ([],l,[])
 | i::r,l=>match ops[i]? with
  | some o=>match JS E ops o l with
   |some (k,l',ps)=>match evK E ops r l' with
    |some (ks,l'',qs)=>some (k::ks,l'',ps++qs)
    |none=>none
   |none=>none
  |none=>none
def stK (E:Env) (ops:List Oper):List Nat→List IA→Nat→Option (List IA)
 |_,l,0=>some l
 | [],_,_+1=>none
 | i::r,l,k+1=>match ops[i]? with
  |some o=>match JS E ops o l with
   |some (_,l',_)=>stK E ops r l' k
   |none=>none
  |none=>none
theorem Amo {E:Env} {ops:List Oper} {L:List Nat} {l:List IA}:stK E ops L l 0=some l:=by cases L<;>rfl
theorem A7p {E:Env} {ops:List Oper}:∀{L:List Nat} {l:List IA} {ks:List Nat} {lF:List IA} {psF:List Prop},evK E ops L l=some (ks,lF,psF)→
  stK E ops L l L.length=some lF∧∀k,k <L.length→∃l1 o l2 ps2,ops[L.getD k 0]?=some o∧stK E ops L l k=some l1∧JS E ops o l1=some (ks.getD k 0,l2,ps2)∧(∀p∈ps2,p∈psF)∧stK E ops L l (k+1)=some l2
 | [],l,ks,lF,psF,h=>by cases h;exact⟨rfl,fun k hk=>by cases hk⟩
 | i::r,l,ks,lF,psF,h=>by
  unfold evK at h
  split at h<;>first|(cases h;done)|skip
  rename_i o ho
  split at h<;>first|(cases h;done)|skip
  rename_i kd l' ps hst
  split at h<;>first|(cases h;done)|skip
  rename_i ks' l'' qs hr
  cases h
  obtain⟨h1,h2⟩:=A7p hr
  have hs:∀k,stK E ops (i::r) l (k+1)=stK E ops r l' k:=fun k=>by
   show(match ops[i]? with|some o=>(match JS E ops o l with|some (_,l',_)=>stK E ops r l' k|none=>none)|none=>none)=_
   rw[ho]
   simp only[hst]
  refine⟨by rw[List.length_cons,hs];exact h1,fun k hk=>?_⟩
  cases k with
  |zero=>exact⟨l,o,l',ps,ho,Amo,hst,fun p hp=>List.mem_append.2 (.inl hp),by rw[hs,Amo]⟩
  |succ k=>
   obtain⟨s1,o1,s2,ps2,g1,g2,g3,g5,g6⟩:=h2 k (by simpa using hk)
   exact⟨s1,o1,s2,ps2,by simpa using g1,by rw[hs];exact g2,by simpa using g3,fun p hp=>List.mem_append.2 (.inr (g5 p hp)),by rw[hs];exact g6⟩
theorem Arm {E:Env} {s0:St} (ok:EnvOk E) {ops:List Oper}:∀{L:List Nat} {P P':List IA} {ks:List Nat} {ps:List Prop},evK E ops L P=some (ks,P',ps)→Acx s0 P→Acx s0 P'
 | [],P,P',ks,ps,he,h=>by cases he;exact h
 |i::r,P,P',ks,ps,he,h=>by
  unfold evK at he
  split at he<;>first|(cases he;done)|skip
  split at he<;>first|(cases he;done)|skip
  rename_i k P1 ps1 h1
  split at he<;>first|(cases he;done)|skip
  rename_i ks2 P2 ps2 h2
  cases he
  exact Arm ok h2 (Wr ok h1 h)
def Ave (E:Env) (o o':Oper) (s:St):Bool:=match o.op,o'.op,o'.guard with
 | .load t x,.store t' x' v',none=>match s.ev [] x,s.ev [] x' with
  |some (.own i _),some (.own i' _)=>bif Nat.beq i i' then false else(match YS E s [] t x,Ax8 E s [] t' x' v' with
   |some _,some _=>true
   |_,_=>false)
  |_,_=>false
 |_,_,_=>false
def Avc (E:Env) (o o':Oper):List IA→Bool
 | []=>true
 |(_,s)::r=>bif Ave E o o' s then Avc E o o' r else false
def Blind {α:Type} (P:Program) (m:Sem α):Prop:=∀w x w1,m.run P w=.ok x w1→w1=w∧∀w',m.run P w'=.ok x w'
section
variable {P:Program} {α β:Type}
theorem Blind.pure (x:α):Blind P (Pure.pure x:Sem α):=fun w y w1 h=>by
 have h':Result.ok x w=Result.ok y w1:=h
 cases h'
 exact⟨rfl,fun _=>rfl⟩
theorem Blind.bind {m:Sem α} {f:α→Sem β} (h:Blind P m) (k:∀x,Blind P (f x)):Blind P (m >>= f):=fun w y w1 he=>by
 rw[Sem.run_bind] at he
 cases hm:m.run P w with
 |halt e w2=>rw[hm] at he;cases he
 |ok x w2=>
  rw[hm] at he
  obtain⟨rfl,h2⟩:=h w x w2 hm
  obtain⟨rfl,h3⟩:=k x _ _ _ he
  exact⟨rfl,fun w'=>by rw[Sem.run_bind,h2 w'];exact h3 w'⟩
theorem Blind.halt (e:Halt):Blind P (Sem.halt e:Sem α):=fun w x w1 he=>by cases he
theorem Blind.prog {k:Program→Sem α} (h:∀p,Blind P (k p)):Blind P (do let p ←program;k p):=fun w x w1 he=>h P w x w1 he
def Never (P:Program) (m:Sem α):Prop:=∀w x w1,m.run P w≠.ok x w1
theorem Never.blind {m:Sem α} (h:Never P m):Blind P m:=fun w x w1 he=>absurd he (h w x w1)
theorem Never.bind {m:Sem α} {f:α→Sem β} (h:∀x,Never P (f x)):Never P (m >>= f):=fun w y w1 he=>by
 rw[Sem.run_bind] at he
 cases hm:m.run P w with
 |halt e w2=>rw[hm] at he;cases he
 |ok x w2=>rw[hm] at he;exact h x _ _ _ he
theorem Aj1 (e:Halt):Never P (Sem.halt e:Sem α):=fun w x w1 he=>by cases he
theorem Awh (e:RuntimeError):Never P (runtimePanic e:Sem α):=by
 unfold runtimePanic
 refine Never.bind fun p=>?_
 cases e<;>first|exact Aj1 _|exact Never.bind fun _=>Never.bind fun _=>Aj1 _
theorem Ar7 (k:IntKind) (x y:Int) (c:BoundsCode):Never P (boundsPanic k x y c:Sem α):=by
 unfold boundsPanic
 split<;>exact Never.bind fun s=>Awh _
theorem NV (t:TypeId):Blind P (underlying t):=by
 unfold underlying
 refine Blind.prog fun p=>?_
 split<;>first|exact .pure _|exact .halt _
theorem Aim (t:TypeId):Blind P (typeInfo t):=by
 unfold typeInfo
 refine Blind.prog fun p=>?_
 split<;>first|exact .pure _|exact .halt _
theorem QY (t:TypeId):Blind P (sizeOf t):=by
 unfold sizeOf
 exact(Aim t).bind fun _=> .pure _
theorem A4e (v:Value):Blind P (asIntOf v):=by
 unfold asIntOf
 split<;>first|exact .pure _|exact .halt _
theorem Ay1 (v:Value):Blind P (Instr.sureAddr v):=by
 unfold Instr.sureAddr
 split<;>first|exact .pure _|exact .halt _
theorem Auw (t:TypeId) (x i:Value):Blind P (Instr.indexAt t x i):=by
 unfold Instr.indexAt
 refine(A4e i).bind fun ki=>?_
 repeat' (first|exact Blind.pure _|exact Blind.halt _|exact NV _|exact Ay1 _|exact QY _|exact(Ar7 _ _ _ _).blind|(refine Blind.bind ?_ fun _=>?_)|split|dsimp only)
theorem Ay2 (t:TypeId):Blind P (zeroValue t):=by
 unfold zeroValue
 refine(Aim t).bind fun i=>?_
 split<;>first|exact .pure _|exact .halt _
theorem Ay0 {γ:Type} (f:γ→Sem β) (hf:∀x,Blind P (f x)) (l:Array γ):Blind P (l.mapM f):=by
 rw[Array.mapM_eq_mapM_toList]
 refine Blind.bind ?_ fun _=> .pure _
 induction l.toList with
 |nil=>exact .pure _
 |cons a r ih=>
  rw[List.mapM_cons]
  exact(hf a).bind fun _=>ih.bind fun _=> .pure _
theorem Auu (t:TypeId) (parts:Array (Nat×Value)):Blind P (Instr.build t parts):=by
 unfold Instr.build
 refine Blind.bind ((Ay2 t)) fun z=>?_
 refine(NV t).bind fun d=>?_
 split
 ·refine(Ay0 _ (fun f=>(QY _).bind fun _=> .pure _) _).bind fun ps=>?_
  split<;>first|exact .pure _|exact .halt _
 ·refine(QY _).bind fun s=>?_
  split<;>first|exact .pure _|exact .halt _
 ·exact .halt _
theorem A4d (v:Value):Blind P (asAgg v):=by
 unfold asAgg
 split<;>first|exact .pure _|exact .halt _
theorem Aux (t:TypeId):Blind P (isAgg t):=by
 unfold isAgg
 refine(NV t).bind fun d=>?_
 repeat' (first|exact Blind.pure _|exact Blind.halt _|split|dsimp only)
theorem Auv (t:TypeId) (x:Value) (f:Nat):Blind P (Instr.field t x f):=by
 unfold Instr.field part
 refine(NV t).bind fun d=>?_
 repeat' (first|exact Blind.pure _|exact Blind.halt _|exact A4d _|exact Aux _|exact QY _|(refine Blind.bind ?_ fun _=>?_)|split|dsimp only)
def Aq7:Op→Bool
 | .indexAddr _ _ _=>true
 | .build _ _=>true
 | .field _ _ _=>true
 |_=>false
theorem Ayz {ev:Operand→Value} {o:Oper} (h:Aq7 o.op=true):∃I:Sem Value,execOp ev o=(do pure (.value (←I)))∧Blind P I:=by
 obtain⟨dst,op,type,pos,after,guard⟩:=o
 simp only at h
 unfold Aq7 at h
 split at h<;>first|(cases h;done)|skip
 ·exact⟨_,rfl,Auw _ _ _⟩
 ·exact⟨_,rfl,Auu _ _⟩
 ·exact⟨_,rfl,Auv _ _ _⟩
end
def A3r (ops:List Oper) (order:List Nat) (j:Nat):Bool:=match ops[order.getD j 0]? with
 |some o=>(match o.op with
  | .move _=>true
  | .extract _ _=>true
  |p=>Aq7 p)
 |none=>false
theorem Apw {P:Program} {ops:List Oper} {order:List Nat} {a:Act} {V:Nat→Value} {w w':World} {j:Nat} (h:A3r ops order j=true) (hp:Pend P ops.toArray (fun k=>order.getD k 0) a V w j):Pend P ops.toArray (fun k=>order.getD k 0) a V w' j:=fun o2 ho2=>by
 have ho3:ops[order.getD j 0]?=some o2:=by simpa using ho2
 unfold A3r at h
 rw[ho3] at h
 simp only at h
 split at h<;>first|(cases h;done)|skip
 ·rename_i x hx
  have hex:∀w1,(execOp (Du ops.toArray (fun k=>order.getD k 0) a V j).eval o2).run P w1=.ok (.value ((Du ops.toArray (fun k=>order.getD k 0) a V j).eval x)) w1:=fun w1=>by
   obtain⟨dst,op,type,pos,after,guard⟩:=o2
   simp only at hx
   subst hx
   rfl
  rcases hp o2 ho2 with⟨p1,p2⟩|⟨p1,p2⟩
  ·refine .inl ⟨p1,fun w1 _=>?_⟩
   have p3:=p2 w (Below.refl _ _)
   rw[hex] at p3⊢
   exact⟨rfl,p3.2⟩
  ·exact .inr ⟨p1,p2⟩
 ·rename_i x ix hx
  have hex:∀w1,(execOp (Du ops.toArray (fun k=>order.getD k 0) a V j).eval o2).run P w1=(do pure (.value (←Instr.extract ((Du ops.toArray (fun k=>order.getD k 0) a V j).eval x) ix)):Sem Next).run P w1:=fun w1=>by
   obtain⟨dst,op,type,pos,after,guard⟩:=o2
   simp only at hx
   subst hx
   rfl
  rcases hp o2 ho2 with⟨p1,p2⟩|⟨p1,p2⟩
  ·refine .inl ⟨p1,fun w1 _=>?_⟩
   have p3:=p2 w (Below.refl _ _)
   rw[hex] at p3⊢
   revert p3
   generalize (Du ops.toArray (fun k=>order.getD k 0) a V j).eval x=v
   intro p3
   cases v<;>try exact(show False from p3).elim
   rename_i vs
   unfold Instr.extract at p3⊢
   cases h:vs[ix]? with
   |none=>simp only[h] at p3;exact(show False from p3).elim
   |some u=>simp only[h] at p3⊢;exact⟨rfl,(show _∧_ from p3).2⟩
  ·exact .inr ⟨p1,p2⟩
 ·have hbl:Aq7 o2.op=true:=h
  rcases hp o2 ho2 with⟨p1,p2⟩|⟨p1,p2⟩
  ·refine .inl ⟨p1,fun w1 _=>?_⟩
   have p3:=p2 w (Below.refl _ _)
   obtain⟨I,hI,hb⟩:=Ayz (P:=P) (ev:=(Du ops.toArray (fun k=>order.getD k 0) a V j).eval) hbl
   rw[hI,Sem.run_bind] at p3⊢
   cases hr:I.run P w with
   |halt e w2=>rw[hr] at p3;exact(show False from p3).elim
   |ok x w2=>
    rw[hr] at p3
    rw[(hb w x w2 hr).2 w1]
    exact⟨rfl,(show _∧_ from p3).2⟩
  ·exact .inr ⟨p1,p2⟩
def Avb (E:Env) (ops:List Oper) (order:List Nat) (l0:List IA) (j k:Nat):Bool:=match ops[order.getD j 0]?,ops[order.getD k 0]?,stK E ops order l0 k with
 | some o,some o',some l=>bif Avc E o o' l then(match o.op with
  | .load _ (.tmp x)=>(List.range (k - j)).all fun m=>match ops[order.getD (j+m) 0]? with
   |some p=>match p.dst with
    |some d=>!(Nat.beq d x)
    |none=>true
   |none=>true
  |_=>false) else false
 |_,_,_=>false
section
variable {E:Env} {Z:Base} {F:Nat→Prop} {N:Nm} {s:St} {a:Act} {R:World}
theorem A8a (h:Rel Z F N s a R) {t:TypeId} {x:Operand} {i off:Nat} (hx:s.ev [] x=some (.own i off)) {z:A} {ps:List Prop} (he:YS E s [] t x=some (z,ps)):
  ∃y,∀R',R'.heap[N.b i]?=R.heap[N.b i]?→(Instr.loadAt t (a.eval x)).run E.P R'=.ok y R':=by
 have hx':=(Bz h (H3 _) hx).2.own_inv
 unfold YS at he
 rw[hx] at he
 simp only at he
 split at he<;>first|(cases he;done)|skip
 rename_i e cs hl
 split at he<;>first|(cases he;done)|skip
 rename_i z' hz
 cases he
 obtain⟨_,vs,g1,g2⟩:=h.hp.ob i _ hl
 obtain⟨y,_,q2⟩:=QL (ad:=⟨N.b i,off,none⟩) hz (g1.drop off)
 refine⟨y,fun R' hb=>?_⟩
 rw[Jv hx'.2]
 refine q2 R' fun j v hj=>?_
 rw[EQ,FF (hb.trans g2)]
 rw[List.getElem?_drop] at hj
 simpa using hj
theorem Bb9 (h:Rel Z F N s a R) {t:TypeId} {x v:Operand} {i off:Nat} (hx:s.ev [] x=some (.own i off)) {f:SF} (he:Ax8 E s [] t x v=some f):
  ∃R',(Instr.storeAt t (a.eval x) (a.eval v)).run E.P R=.ok () R'∧R'.heap.size=R.heap.size∧∀g,g≠N.b i→R'.heap[g]?=R.heap[g]?:=by
 have hx':=(Bz h (H3 _) hx).2.own_inv
 unfold Ax8 at he
 split at he<;>first|(cases he;done)|skip
 rename_i us hus
 obtain⟨hu,h1⟩:=Aiu h (H3 _) hus
 have hlen:=hu.length
 split at he<;>first|(cases he;done)|skip
 rename_i n hn
 cases hb:Nat.beq n us.length with
 |false=>rw[hb] at he;cases he
 | true=>
  rw[hb] at he
  obtain rfl:=Nat.eq_of_beq_eq_true hb
  simp only[cond_true,hx] at he
  rw[←hlen] at hn
  split at he<;>first|(cases he;done)|skip
  rename_i e cs hl
  cases hb2:Nat.ble (off+us.length) cs.length with
  |false=>rw[hb2] at he;cases he
  |true=>
   have hle:=Nat.le_of_ble_eq_true hb2
   obtain⟨_,vs,g1,g2⟩:=h.hp.ob i _ hl
   have hvl:=g1.length
   exact⟨_,LN hx'.2 g2 hn (by omega) h1,by simp[World.setRow],fun g hg=>setRow_other R _ g _ hg⟩
theorem Baz (h:Rel Z F N s a R) {o o':Oper} (hc:Ave E o o' s=true):
  ∃t x R' y,o.op=.load t x∧o'.guard=none∧(execOp a.eval o').run E.P R=.ok .skip R'∧(Instr.loadAt t (a.eval x)).run E.P R=.ok y R∧
   ∀w1,Below R'.heap.size R' w1→(Instr.loadAt t (a.eval x)).run E.P w1=.ok y w1:=by
 unfold Ave at hc
 split at hc<;>first|(cases hc;done)|skip
 rename_i t x t' x' v' ho ho' hg
 split at hc<;>first|(cases hc;done)|skip
 rename_i i off i' off' hx hx'
 cases hb:Nat.beq i i' with
 |true=>rw[hb] at hc;cases hc
 | false=>
  rw[hb] at hc
  simp only[cond_false] at hc
  split at hc<;>first|(cases hc;done)|skip
  rename_i zl f hl hf
  obtain⟨z,ps⟩:=zl
  obtain⟨y,g1⟩:=A8a h hx hl
  obtain⟨R',g2,g3,g4⟩:=Bb9 h hx' hf
  have box:∀{i off:Nat} {x:Operand},s.ev [] x=some (.own i off)→∀{t z ps},YS E s [] t x=some (z,ps)→∃e cs,As i s.o=some (.box e cs):=fun {i off x} hx {t z ps} he=>by
   unfold YS at he
   rw[hx] at he
   simp only at he
   split at he<;>first|(cases he;done)|skip
   exact⟨_,_,by assumption⟩
  obtain⟨e,cs,hbx⟩:=box hx hl
  have hbx':∃e cs,As i' s.o=some (.box e cs):=by
   unfold Ax8 at hf
   split at hf<;>first|(cases hf;done)|skip
   split at hf<;>first|(cases hf;done)|skip
   replace hf:=BM hf
   simp only[hx'] at hf
   split at hf<;>first|(cases hf;done)|skip
   exact⟨_,_,by assumption⟩
  obtain⟨e',cs',hbx'⟩:=hbx'
  have hne:N.b i≠N.b i':=fun e=>by
   have:=h.hp.sep i i' _ _ (N.b i) hbx hbx' rfl e
   subst this
   simp at hb
  obtain⟨_,vs,_,q2⟩:=h.hp.ob i _ hbx
  refine⟨t,x,R',y,ho,hg,?_,g1 R rfl,fun w1 hw=>g1 w1 ?_⟩
  ·obtain⟨dst,op,type,pos,after,guard⟩:=o'
   simp only at ho'
   subst ho'
   simp[execOp,g2]
  ·rw[hw.block _ (by rw[g3];exact G3 q2)]
   exact g4 _ hne
theorem Avd {o o':Oper}:∀{l:List IA},Avc E o o' l=true→onP l (fun s=>∃F N,Rel Z F N s a R)→∃s F N,Rel Z F N s a R∧Ave E o o' s=true
 | [],_,h=>h.elim
 | (c,s)::r,hc,h=>by
  unfold Avc at hc
  cases hp:Ave E o o' s with
  |false=>rw[hp] at hc;cases hc
  |true=>
   rw[hp] at hc
   rcases h with⟨_,F,N,h⟩|⟨_,h⟩
   ·exact⟨s,F,N,h,hp⟩
   ·exact Avd hc h
theorem Ao5 {ops:Array Oper} {ix:Nat→Nat} {a0:Act} {V:Nat→Value} {x:Tmp} {j:Nat}:∀m,(∀i,i <m→∀o,ops[ix (j+i)]?=some o→o.dst≠some x)→(Du ops ix a0 V (j+m)).tmps.getD x undef=(Du ops ix a0 V j).tmps.getD x undef
 |0,_=>rfl
 | m+1,h=>by
  rw[←Ao5 m fun i hi=>h i (by omega)]
  show((Du ops ix a0 V (j+m)).put ((ops[ix (j+m)]?).bind (·.dst)) (V (j+m))).tmps.getD x undef=_
  cases ho:ops[ix (j+m)]? with
  |none=>rfl
  | some o=>
   have hd:=h m (by omega) o ho
   cases hdd:o.dst with
   |none=>simp[Act.put,hdd]
   |some d=>
    simp only[Option.bind_some,hdd]
    rw[Gr,if_neg]
    rintro⟨rfl,_⟩
    exact hd hdd
end
abbrev R3:=Option (St×List Prop)
def evR (E:Env) (ops:List Oper) (draw:Bool) (s:St):R3:=match draw with
 |true=>match evK E ops (A43 E.P ops) [(none,s)] with
  |some (ks,l,ps)=>bif Aq9 ops.toArray (A43 E.P ops) ks (Ari E.P ops (A43 E.P ops)) (fun j k=>A3r ops (A43 E.P ops) j||Avb E ops (A43 E.P ops) [(none,s)] j k) then some (Tq (PJ ops) s l,ps) else none
  |none=>none
 |false=>match Apc E ops ops [(none,s)] with
  |some (l,ps)=>some (Tq (PJ ops) s l,ps)
  |none=>none
section
variable {E:Env} {Z:Base} {F:Nat→Prop} {N:Nm} {s:St} {a:Act} {R:World}
theorem A06 (ok:EnvOk E) {ops:List Oper} {draw:Bool} {s':St} {ps:List Prop} (he:evR E ops draw s=some (s',ps)):Sub s s':=by
 cases draw with
 |false=>
  unfold evR at he
  simp only at he
  split at he<;>first|(cases he;done)|skip
  rename_i l ps1 h1
  cases he
  exact WE _ _ (Z5 ok h1 ⟨Sub.refl _,trivial⟩)
 |true=>
  unfold evR at he
  simp only at he
  split at he<;>first|(cases he;done)|skip
  rename_i ks l ps1 h1
  replace he:=BM he
  cases he
  exact WE _ _ (Arm ok h1 ⟨Sub.refl _,trivial⟩)
def Rsv (P:Program) (ops:List Oper) (order:List Nat) (B k:Nat) (X:Aside) (F:Nat→Prop) (N:Nm) (o:Objs) (w:World):Prop:=
 (∀j v,k≤j→X j=some v→∃g e z,v=.pointer (some ⟨g,0,none⟩)∧(∃op,ops[order.getD j 0]?=some op∧op.op=.alloc e)∧(P.info? e).bind (·.zero)=some z∧B≤g∧g <w.heap.size∧¬F g∧¬Foot N o g∧w.heap[g]?=some (.cells z.cells.toList.toArray e (0,0)))∧
 ∀i j v,k≤i→k≤j→X i=some v→X j=some v→i=j
theorem Amj {P:Program} {ops:List Oper} {order:List Nat} {B k k' nx nx':Nat} {X:Aside} {F F':Nat→Prop} {N N':Nm} {o o':Objs} {w w':World} (h:Rsv P ops order B k X F N o w) (hk:k≤k') (st:Step F N nx o w F' N' nx' o' w'):Rsv P ops order B k' X F' N' o' w':=by
 refine⟨fun j v hj hx=>?_,fun i j v hi hj=>h.2 i j v (by omega) (by omega)⟩
 obtain⟨g,e,z,h1,h2,h3,h4,h5,h6,h7,h8⟩:=h.1 j v (by omega) hx
 refine⟨g,e,z,h1,h2,h3,h4,Nat.lt_of_lt_of_le h5 st.size,fun hf=>?_,fun hf=>?_,by rw[st.keep g h5 h7];exact h8⟩
 ·rcases st.fnew g hf with q|q|q
  ·exact h6 q
  ·exact h7 q
  ·omega
 ·rcases st.foot g hf with q|q
  ·exact h7 q
  ·omega
theorem Ax3 {P:Program} {ops:List Oper} {order:List Nat} {B k:Nat} {X:Aside} {F:Nat→Prop} {N:Nm} {o:Objs} {w w':World} (h:Rsv P ops order B k X F N o w) (hb:Below w.heap.size w w'):Rsv P ops order B k X F N o w':=
 Amj h (Nat.le_refl _) (nx:=0) (nx':=0) (Step.of_below hb)
theorem Bck (h:Rel Z F N s a R) {e:TypeId} {z:Value} {g:Nat} (hB:Z.R.heap.size≤g) (hg:g <R.heap.size) (nF:¬F g) (nO:¬Foot N s.o g) (hc:R.heap[g]?=some (.cells z.cells.toList.toArray e (0,0))):
  Rel Z F (N.setB s.nx g) ⟨s.n,s.nx+1,s.t,(s.nx,some (.box e (toL z.cells.toList)))::s.o⟩ a R∧Hv F (N.setB s.nx g) (s.nx+1) R (.own s.nx 0) (.pointer (some ⟨g,0,none⟩))∧∀g',Foot (N.setB s.nx g) ((s.nx,some (.box e (toL z.cells.toList)))::s.o) g'→g'=g∨Foot N s.o g':=by
 have hb:(N.setB s.nx g).b s.nx=g:=CJ _ _ _
 have hne:∀i,i <s.nx→(N.setB s.nx g).b i=N.b i:=fun i hi=>Fo _ _ (by omega)
 have st:Ext F N s.nx R F (N.setB s.nx g) (s.nx+1) R:=⟨Nat.le_succ _,hne,fun _ _=>rfl,fun _ h=>h,fun _ _=>rfl⟩
 have cases:∀{i ob},As i ((s.nx,some (Ob.box e (toL z.cells.toList)))::s.o)=some ob→(i=s.nx∧ob=.box e (toL z.cells.toList))∨(i <s.nx∧As i s.o=some ob):=fun {i ob} hl=>by
  rw[Bi] at hl
  split at hl
  ·exact .inl ⟨‹_›,(Option.some.inj hl).symm⟩
  ·exact .inr ⟨(h.hp.ob i ob hl).1,hl⟩
 have hfoot:∀{i ob g'},i <s.nx→(foot (N.setB s.nx g) i ob g'↔foot N i ob g'):=fun {i ob g'} hi=>EY st hi
 have fo:∀g',Foot (N.setB s.nx g) ((s.nx,some (.box e (toL z.cells.toList)))::s.o) g'→g'=g∨Foot N s.o g':=fun g' ⟨i,ob,hl,hf⟩=>by
  rcases cases hl with⟨rfl,rfl⟩|⟨hi,hl⟩
  ·exact .inl (by have:g'=(N.setB s.nx g).b s.nx:=hf;rw[this,hb])
  ·exact .inr ⟨i,ob,hl,(hfoot hi).1 hf⟩
 have hp:HRel F (N.setB s.nx g) (s.nx+1) ((s.nx,some (.box e (toL z.cells.toList)))::s.o) R:=by
  refine⟨h.hp.flt,fun i ob hl=>?_,fun i ob g' hl hf=>?_,fun i j x y g' hi hj hx hy=>?_⟩
  ·rcases cases hl with⟨rfl,rfl⟩|⟨hi,hl⟩
   ·refine⟨Nat.lt_succ_self _,z.cells.toList,HL.toL _,?_⟩
    rw[hb]
    exact hc
   ·exact⟨by omega,(h.hp.ob i ob hl).2.step st hi fun _ _=>rfl⟩
  ·rcases cases hl with⟨rfl,rfl⟩|⟨hi,hl⟩
   ·have:g'=(N.setB s.nx g).b s.nx:=hf
    rw[this,hb]
    exact nF
   ·exact h.hp.ff i ob g' hl ((hfoot hi).1 hf)
  ·rcases cases hi with⟨rfl,rfl⟩|⟨hi1,hi2⟩
   ·rcases cases hj with⟨rfl,rfl⟩|⟨hj1,hj2⟩
    ·rfl
    ·have:g'=(N.setB s.nx g).b s.nx:=hx
     rw[hb] at this
     subst this
     exact absurd ⟨j,y,hj2,(hfoot hj1).1 hy⟩ nO
   ·rcases cases hj with⟨rfl,rfl⟩|⟨hj1,hj2⟩
    ·have:g'=(N.setB s.nx g).b s.nx:=hy
     rw[hb] at this
     subst this
     exact absurd ⟨i,x,hi2,(hfoot hi1).1 hx⟩ nO
    ·exact h.hp.sep i j x y g' hi2 hj2 ((hfoot hi1).1 hx) ((hfoot hj1).1 hy)
 refine⟨⟨h.defers,h.size,fun u x hu=>(h.slots u x hu).step st,hp,?_,h.tm⟩,?_,fo⟩
 ·have:=h.st
  refine⟨Nat.le_trans this.le (Nat.le_succ _),fun i hi=>by rw[hne i (Nat.lt_of_lt_of_le hi this.le)];exact this.b i hi,fun i hi=>this.q i hi,this.f,this.fnew,fun g' hf=>?_,this.os,this.tape,this.output,this.size,this.keep⟩
  rcases fo g' hf with q|q
  ·exact .inr (by omega)
  ·exact this.foot g' q
 ·have:(⟨g,0,none⟩:Addr)=⟨(N.setB s.nx g).b s.nx,0,none⟩:=by rw[hb]
  rw[this]
  exact .own (Nat.lt_succ_self _)
theorem Akl {K:St→Prop}:∀{l:List IA},onP l K→∃s0,K s0∧onP l (fun x=>x=s0)
 | [],h=>h.elim
 | (c,s)::r,h=>by
  rcases h with⟨h1,h2⟩|⟨h1,h2⟩
  ·exact⟨s,h2,.inl ⟨h1,rfl⟩⟩
  ·obtain⟨s0,h3,h4⟩:=Akl h2
   exact⟨s0,h3,.inr ⟨h1,h4⟩⟩
theorem Adg {ops:List Oper} {o:Oper} {s0:St}:∀{l l':List IA} {k:Nat} {qs:List Prop},JS E ops o l=some (k,l',qs)→onP l (fun x=>x=s0)→∃l1,TE E ops s0 o=some l1∧∀K,onL l1 K→onP l' K
 | [],_,_,_,_,h=>h.elim
 | (c,s)::r,l',k,qs,he,h=>by
  unfold JS at he
  split at he<;>first|(cases he;done)|skip
  rename_i l1 h1
  split at he<;>first|(cases he;done)|skip
  rename_i k' r' qs' h2
  cases he
  rcases h with⟨hc,rfl⟩|⟨hc,h⟩
  ·exact⟨l1,h1,fun K hK=>Qn hc hK⟩
  ·obtain⟨l2,h3,h4⟩:=Adg h2 h
   exact⟨l2,h3,fun K hK=>Qo hc (h4 K hK)⟩
theorem Avi {o:Oper} (h:Aix E.P o=true):∃e z,o.op=.alloc e∧o.guard=none∧(E.P.info? e).bind (·.zero)=some z:=by
 unfold Aix at h
 split at h
 ·rename_i e h1 h2
  split at h
  ·rename_i z hz
   exact⟨e,z,h1,h2,hz⟩
  ·cases h
 ·cases h
theorem Aze {ops:List Oper} {o:Oper} {e:TypeId} {z:Value} (ho:o.op=.alloc e) (hg:o.guard=none) (hz:(E.P.info? e).bind (·.zero)=some z) {l:List DR} (he:TE E ops s o=some l):
  ∃s',Aws s o.dst ⟨.own s.nx 0,s.nx+1,(s.nx,some (.box e (toL z.cells.toList)))::s.o,1,[]⟩=some s'∧∀K:St→Prop,K s'→onL l K:=by
 obtain⟨dst,op,type,pos,after,guard⟩:=o
 simp only at ho hg
 subst ho hg
 have e1:opE E s [] ⟨dst,.alloc e,type,pos,after,none⟩=some ⟨.own s.nx 0,s.nx+1,(s.nx,some (.box e (toL z.cells.toList)))::s.o,1,[]⟩:=by
  show Aik E s e=_
  unfold Aik
  rw[hz]
 have e2:Apx E ops s ⟨dst,.alloc e,type,pos,after,none⟩=none:=rfl
 cases hp:Aws s dst ⟨.own s.nx 0,s.nx+1,(s.nx,some (.box e (toL z.cells.toList)))::s.o,1,[]⟩ with
 | none=>
  have e3:Wd E ops s ⟨dst,.alloc e,type,pos,after,none⟩=none:=by
   unfold Wd doE
   simp only
   rw[e1]
   simp only
   rw[hp]
  have e4:Qp E ops s ⟨dst,.alloc e,type,pos,after,none⟩=none:=by
   unfold Qp
   rw[e2]
   simp only
   unfold Amt
   rw[e3]
   rfl
  unfold TE at he
  rw[e4] at he
  cases he
 | some s'=>
  have e3:Wd E ops s ⟨dst,.alloc e,type,pos,after,none⟩=some [(none,1,s',[])]:=by
   unfold Wd doE
   simp only
   rw[e1]
   simp only
   rw[hp]
   rfl
  have e4:Qp E ops s ⟨dst,.alloc e,type,pos,after,none⟩=some (Am6 [(none,1,s',[])]):=by
   unfold Qp
   rw[e2]
   simp only
   unfold Amt
   rw[e3]
  unfold TE at he
  rw[e4] at he
  cases he
  exact⟨s',rfl,fun K hK=>Ya (.inl ⟨rfl,hK⟩)⟩
theorem A5d (ok:EnvOk E) (h:Rel Z F N s a R) {id:Nat} {ops:List Oper} {draw:Bool} (hW:∀u,NK u (PJ ops)=true→Z.W u) {s':St} {ps:List Prop} (he:evR E ops draw s=some (s',ps)) (hp:∀p∈ps,p) {Q:Exit→Act→World→Prop}
  (hk:∀F' N' a' R',Rel Z F' N' s' a' R'→Q .normal a' R'):(Code.region id ops.toArray draw).wp E.P Q a R:=by
 have h00:onP [((none:Cnd),s)] (At (Ke F N s a R (PJ ops)) a R):=.inl ⟨rfl,F,N,h.start _⟩
 have hsub:Acx s [((none:Cnd),s)]:=⟨Sub.refl _,trivial⟩
 have hdst:∀o∈ops,∀d,o.dst=some d→(Ke F N s a R (PJ ops)).W d:=fun o ho d hd=>Avh ho hd
 have NI:∀{l:List IA} {a' R'},Acx s l→onP l (At (Ke F N s a R (PJ ops)) a' R')→s'=Tq (PJ ops) s l→Q .normal a' R':=fun {l a' R'} hs ho e=>by
  obtain⟨F',N',hr⟩:=Apo h hs ho
  subst e
  exact hk F' N' a' R' (h.over hr hW)
 cases draw with
 |false=>
  unfold evR at he
  simp only at he
  split at he<;>first|(cases he;done)|skip
  rename_i l ps1 h1
  cases he
  exact wp_region_lit (A8l ok hdst h00 h1 hp fun a' R' ho=>NI (Z5 ok h1 hsub) ho rfl)
 | true =>
  unfold evR at he
  simp only at he
  generalize A43 E.P ops=order at he
  split at he<;>first|(cases he;done)|skip
  rename_i ks l ps1 h1
  cases hB:Aq9 ops.toArray order ks (Ari E.P ops order) (fun j k=>A3r ops order j||Avb E ops order [(none,s)] j k) with
  |false=>rw[hB] at he;cases he
  | true =>
   rw[hB] at he
   cases he
   obtain⟨hc,hn,hsink⟩:=A4h hB
   obtain⟨hF,hat⟩:=A7p h1
   let Z0:=Ke F N s a R (PJ ops)
   have hov:∀{F1 N1 s0 A w F2 N2 s1 A2 w2},Rel Z0 F1 N1 s0 A w→Rel (Ke F1 N1 s0 A w (PJ ops)) F2 N2 s1 A2 w2→Rel Z0 F2 N2 s1 A2 w2:=fun h1 h2=>h1.over h2 fun _ hu=>hu
   have hearly:∀{k o},Ari E.P ops order k=true→ops[order.getD k 0]?=some o→Aix E.P o=true:=fun {k o} h1 h2=>by
    unfold Ari at h1
    rw[h2] at h1
    exact h1
   refine A99 (S:=fun k X A w=>∃l1,stK E ops order [((none:Cnd),s)] k=some l1∧∃s0 F1 N1,Rel Z0 F1 N1 s0 A w∧Rsv E.P ops order Z0.R.heap.size k X F1 N1 s0.o w∧onP l1 (fun x=>x=s0)) ok.wide hc ?_ ?_ ?_ ?_ (fun k X A w w' ⟨l1,g1,s0,F1,N1,g2,g3,g4⟩ hb=>⟨l1,g1,s0,F1,N1,g2.grow hb,Ax3 g3 hb,g4⟩) ⟨_,Amo,s,F,N,h.start _,⟨fun j v _ hx=>(by cases hx),fun i j v _ _ hx=>(by cases hx)⟩,.inl ⟨rfl,rfl⟩⟩ (fun X A w' ⟨l1,g1,s0,F1,N1,g2,g3,g4⟩=>?_)
   ·intro k X A w hk' hM ⟨l0,g1,s0,F1,N1,g2,g3,g4⟩ o ho
    obtain⟨l1,o1,l2,ps2,e1,e2,e4,e5,e6⟩:=hat k hk'
    have ho':ops[order.getD k 0]?=some o:=by simpa using ho
    have:o1=o:=Option.some.inj (e1.symm.trans ho')
    subst this
    obtain rfl:l1=l0:=Option.some.inj (e2.symm.trans g1)
    have hk0:ks.getD k 0=0:=by
     have hM':Nat.blt 0 (ks.getD k 0)=false:=hM
     cases hz:ks.getD k 0 with
     |zero=>rfl
     |succ m=>rw[hz] at hM';cases hM'
    rw[hk0] at e4
    obtain⟨v,r1,r2⟩:=Yp (Z:=Ke F1 N1 s0 A w (PJ ops)) ok (hdst o1 (List.mem_of_getElem? ho')) e4 (fun p hm=>hp p (e5 p hm)) (TB (fun x hx=>by subst hx;exact⟨F1,N1,g2.start _⟩) g4)
    obtain⟨s1,⟨F2,N2,q1⟩,q2⟩:=Akl r1
    exact⟨v,⟨l2,e6,s1,F2,N2,hov g2 q1,Amj g3 (Nat.le_succ _) q1.st,q2⟩,r2⟩
   ·intro k X A w v hk' hE hX ⟨l0,g1,s0,F1,N1,g2,g3,g4⟩ o ho
    obtain⟨l1,o1,l2,ps2,e1,e2,e4,e5,e6⟩:=hat k hk'
    have ho':ops[order.getD k 0]?=some o:=by simpa using ho
    have:o1=o:=Option.some.inj (e1.symm.trans ho')
    subst this
    obtain rfl:l1=l0:=Option.some.inj (e2.symm.trans g1)
    obtain⟨e,z,a1,a2,a3⟩:=Avi (hearly hE ho')
    obtain⟨g,e',z',b1,⟨op,b2,b3⟩,b4,b5,b6,b7,b8,b9⟩:=g3.1 k v (Nat.le_refl _) hX
    have:op=o1:=Option.some.inj (b2.symm.trans ho')
    subst this
    rw[a1] at b3
    cases b3
    obtain rfl:z'=z:=Option.some.inj (b4.symm.trans a3)
    obtain⟨l3,c1,c2⟩:=Adg e4 g4
    obtain⟨s1,c3,c4⟩:=Aze a1 a2 a3 c1
    obtain⟨d1,d2,d3⟩:=Bck g2 b5 b6 b7 b8 b9
    subst b1
    have hputE:=c3
    have hrel:Rel Z0 F1 (N1.setB s0.nx g) s1 (A.put op.dst (.pointer (some ⟨g,0,none⟩))) w∧s1.o=(s0.nx,some (.box e (toL z'.cells.toList)))::s0.o:=by
     unfold Aws at c3
     split at c3
     ·rename_i d hd
      cases hb:Nat.blt d s0.n with
      |false=>rw[hb] at c3;cases c3
      |true=>
       rw[hb] at c3
       cases c3
       rw[hd]
       exact⟨d1.put (x:=.own s0.nx 0) (Nat.le_of_ble_eq_true hb) (hdst op (List.mem_of_getElem? ho') d hd) _ ((Ac rfl).2 d2),rfl⟩
     ·rename_i hd
      cases c3
      rw[hd]
      exact⟨d1,rfl⟩
    refine⟨l2,e6,s1,F1,N1.setB s0.nx g,hrel.1,⟨fun j v' hj hx=>?_,fun i j v' hi hj=>g3.2 i j v' (by omega) (by omega)⟩,c2 _ (c4 (fun x=>x=s1) rfl)⟩
    obtain⟨g',e2,z2,f1,f2,f3,f4,f5,f6,f7,f8⟩:=g3.1 j v' (by omega) hx
    refine⟨g',e2,z2,f1,f2,f3,f4,f5,f6,fun hf=>?_,f8⟩
    rw[hrel.2] at hf
    rcases d3 g' hf with q|q
    ·subst q
     subst f1
     have:=g3.2 k j _ (Nat.le_refl _) (by omega) hX hx
     omega
    ·exact f7 q
   ·intro p k X A w hpk hk' hE ⟨l0,g1,s0,F1,N1,g2,g3,g4⟩ o ho A'
    have ho':ops[order.getD k 0]?=some o:=by simpa using ho
    obtain⟨e,z,a1,a2,a3⟩:=Avi (hearly hE ho')
    refine⟨OM a2 _,?_⟩
    have hrun:(execOp A'.eval o).run E.P w=.ok (.value (.pointer (some ⟨w.heap.size,0,none⟩))) (w.alloc (.cells z.cells.toList.toArray e (0,0))):=by
     obtain⟨dst,op,type,pos,after,guard⟩:=o
     simp only at a1
     subst a1
     exact IL (Afk a3)
    rw[hrun]
    have hb:Below w.heap.size w (w.alloc (.cells z.cells.toList.toArray e (0,0))):=Ac3 _
    have hgr:=Ax3 g3 hb
    refine⟨hb,l0,g1,s0,F1,N1,g2.grow hb,⟨fun j v' hj hx=>?_,fun i j v' hi hj hx hy=>?_⟩,g4⟩
    ·by_cases ej:j=k
     ·subst ej
      have hx':some (Value.pointer (some ⟨w.heap.size,0,none⟩))=some v':=by
       unfold Aside.set at hx
       rw[if_pos rfl] at hx
       exact hx
      cases hx'
      refine⟨w.heap.size,e,z,rfl,⟨o,ho',a1⟩,a3,g2.st.size,by simp,fun hf=>Nat.lt_irrefl _ (g2.hp.flt _ hf),fun⟨i,ob,hl,hf⟩=>Nat.lt_irrefl _ ((g2.hp.ob i ob hl).2.lt hf),heap_alloc_new w _⟩
     ·unfold Aside.set at hx
      rw[if_neg ej] at hx
      exact hgr.1 j v' hj hx
    ·have hold:∀j,p≤j→j≠k→(X.set k (.pointer (some ⟨w.heap.size,0,none⟩))) j=some v'→X j=some v':=fun j _ hne h1=>by
      unfold Aside.set at h1
      rw[if_neg hne] at h1
      exact h1
     have hnew:(X.set k (.pointer (some ⟨w.heap.size,0,none⟩))) k=some v'→v'=.pointer (some ⟨w.heap.size,0,none⟩):=fun h1=>by
      unfold Aside.set at h1
      rw[if_pos rfl] at h1
      exact(Option.some.inj h1).symm
     have hno:∀j,p≤j→X j=some (.pointer (some ⟨w.heap.size,0,none⟩))→False:=fun j hj h1=>by
      obtain⟨g,_,_,q1,_,_,_,q2,_⟩:=g3.1 j _ hj h1
      cases q1
      omega
     by_cases ei:i=k
     ·by_cases ej:j=k
      ·rw[ei,ej]
      ·subst ei
       rw[hnew hx] at hy
       exact(hno j hj (by unfold Aside.set at hy;rw[if_neg ej] at hy;exact hy)).elim
     ·by_cases ej:j=k
      ·subst ej
       rw[hnew hy] at hx
       exact(hno i hi (by unfold Aside.set at hx;rw[if_neg ei] at hx;exact hx)).elim
      ·exact g3.2 i j v' hi hj (hold i hi ei hx) (hold j hj ej hy)
   ·intro k X A w hk' hM hE ⟨l0,g1,s0,F1,N1,gr,gx,g4⟩ o ho
    have g2:onP l0 (At Z0 A w):=TB (fun x hx=>by subst hx;exact⟨F1,N1,gr⟩) g4
    have hstep:∀{l2:List IA} {A2 w2},stK E ops order [((none:Cnd),s)] (k+1)=some l2→onP l2 (At (Ke F1 N1 s0 A w (PJ ops)) A2 w2)→∃l1,stK E ops order [((none:Cnd),s)] (k+1)=some l1∧∃s0 F1 N1,Rel Z0 F1 N1 s0 A2 w2∧Rsv E.P ops order Z0.R.heap.size (k+1) X F1 N1 s0.o w2∧onP l1 (fun x=>x=s0):=fun {l2 A2 w2} e6 r1=>by
     obtain⟨s1,⟨F2,N2,q1⟩,q2⟩:=Akl r1
     exact⟨l2,e6,s1,F2,N2,hov gr q1,Amj gx (Nat.le_succ _) q1.st,q2⟩
    obtain⟨l1,o1,l2,ps2,e1,e2,e4,e5,e6⟩:=hat k hk'
    have ho':ops[order.getD k 0]?=some o:=by simpa using ho
    have:o1=o:=Option.some.inj (e1.symm.trans ho')
    subst this
    obtain rfl:l1=l0:=Option.some.inj (e2.symm.trans g1)
    rcases Z6 (Z:=Ke F1 N1 s0 A w (PJ ops)) ok (hdst o1 (List.mem_of_getElem? ho')) e4 (fun p hm=>hp p (e5 p hm)) (TB (fun x hx=>by subst hx;exact⟨F1,N1,gr.start _⟩) g4) with⟨r1,r2⟩|⟨r1,r2⟩
    ·by_cases hex:1 <ks.getD k 0∧∃j,j <k∧Avb E ops order [(none,s)] j k=true
     ·have hcm:∀j,j <k→Avb E ops order [(none,s)] j k=true→∃o t x w' y,ops[order.getD j 0]?=some o∧o.op=.load t x∧(∀V,Du ops.toArray (fun k=>order.getD k 0) a V k=A→(Du ops.toArray (fun k=>order.getD k 0) a V j).eval x=A.eval x)∧(execOp A.eval o1).run E.P w=.ok .skip w'∧(Instr.loadAt t (A.eval x)).run E.P w=.ok y w∧
        ∀w1,Below w'.heap.size w' w1→(Instr.loadAt t (A.eval x)).run E.P w1=.ok y w1:=fun j hj hc=>by
       unfold Avb at hc
       split at hc<;>first|(cases hc;done)|skip
       rename_i oj o1' l1' hoj ho1 hl1
       obtain rfl:o1'=o1:=Option.some.inj (ho1.symm.trans ho')
       obtain rfl:l1'=l1:=Option.some.inj (hl1.symm.trans g1)
       cases hcl:Avc E oj o1' l1' with
       |false=>rw[hcl] at hc;cases hc
       | true=>
        rw[hcl] at hc
        simp only[cond_true] at hc
        obtain⟨s1,F1,N1,hr1,hp1⟩:=Avd hcl g2
        obtain⟨t,x,w',y,c1,c2,c3,c4,c5⟩:=Baz hr1 hp1
        refine⟨oj,t,x,w',y,hoj,c1,fun V hV=>?_,c3,c4,c5⟩
        rw[c1] at hc
        cases x<;>first|(cases hc;done)|skip
        rename_i x
        have hkeep:=Ao5 (ops:=ops.toArray) (ix:=fun k=>order.getD k 0) (a0:=a) (V:=V) (x:=x) (j:=j) (k - j) fun i hi o ho=>by
         have h7:=List.all_eq_true.1 hc i (List.mem_range.2 hi)
         have ho2:ops[order.getD (j+i) 0]?=some o:=by simpa using ho
         rw[ho2] at h7
         intro hd
         simp only[hd] at h7
         simp at h7
        rw[show j+(k - j)=k by omega,hV] at hkeep
        exact hkeep.symm
      obtain⟨hk2,j0,hj0,hc0⟩:=hex
      obtain⟨_,_,_,w',_,_,_,_,hrun,_,_⟩:=hcm j0 hj0 hc0
      have r2':=r2
      rw[hrun] at r2'
      obtain⟨_,q2⟩:=r2'
      refine .inl ⟨r1,?_⟩
      rw[hrun]
      refine⟨.inr fun j hj=>?_,hstep e6 q2⟩
      ·rcases hsink k hk' (Nat.ble_eq_true_of_le hk2) j hj with h8|h8
       ·exact .inl h8
       ·rcases Bool.or_eq_true_iff.1 h8 with h8|h8
        ·exact .inr fun V _ hpend=>Apw h8 hpend
        obtain⟨o,t,x,w'',y,d1,d2,d3,d4,d5,d6⟩:=hcm j hj h8
        obtain rfl:w''=w':=by rw[hrun] at d4;injection d4 with _ d4;exact d4.symm
        refine .inr fun V hV hpend o2 ho2=>?_
        have ho3:ops[order.getD j 0]?=some o2:=by simpa using ho2
        obtain rfl:o=o2:=Option.some.inj (d1.symm.trans ho3)
        have hex:∀w1,(execOp (Du ops.toArray (fun k=>order.getD k 0) a V j).eval o).run E.P w1=(do pure (.value (←Instr.loadAt t (A.eval x))):Sem Next).run E.P w1:=fun w1=>by
         obtain⟨dst,op,type,pos,after,guard⟩:=o
         simp only at d2
         subst d2
         show(do pure (.value (←Instr.loadAt t (Act.eval (Du ops.toArray (fun k=>order.getD k 0) a V j) x))):Sem Next).run E.P w1=_
         rw[d3 V hV]
        rcases hpend o ho2 with⟨p1,p2⟩|⟨p1,p2⟩
        ·refine .inl ⟨p1,fun w1 hw1=>?_⟩
         have p3:=p2 w (Below.refl _ _)
         rw[hex,Sem.run_bind,d5] at p3
         rw[hex,Sem.run_bind,d6 w1 hw1]
         obtain⟨_,p4⟩:=p3
         exact⟨rfl,p4⟩
        ·exact .inr ⟨p1,p2⟩
     ·refine .inl ⟨r1,Dx r2 fun v w' ⟨q1,q2⟩=>⟨?_,hstep e6 q2⟩⟩
      by_cases hk1:ks.getD k 0≤1
      ·exact .inl (q1 hk1)
      ·refine .inr fun j hj=>?_
       have h9:1 <ks.getD k 0:=by omega
       rcases hsink k hk' (Nat.ble_eq_true_of_le h9) j hj with h8|h8
       ·exact .inl h8
       ·rcases Bool.or_eq_true_iff.1 h8 with h8|h8
        ·exact .inr fun V _ hpend=>Apw h8 hpend
        exact absurd ⟨h9,j,hj,h8⟩ hex
    ·exact .inr ⟨r1,hstep e6 r2⟩
   ·rw[hF] at g1
    obtain rfl:=Option.some.inj g1
    exact NI (Arm ok h1 hsub) (TB (fun x hx=>by subst hx;exact⟨F1,N1,g2⟩) g4) rfl
end
end Go.Proofs.Yteebobbhhgmeiaa
namespace Go.Proofs.Yteebobbhhgmeiaa
open Go.RowKit
def Vq (_id:Nat):Prop:=False
def QV:Code→List Nat
 | .region _ ops _=>PJ ops.toList
 | .seq a b=>QV a++QV b
 | .cond _ a b=>QV a++QV b
 | .block _ b=>QV b
 | .loop b=>QV b
 | .scope b=>QV b
 |_=>[]
theorem WB {u:Nat}:∀{A B:List Nat},NK u (A++B)=(NK u A||NK u B)
 | [],B=>rfl
 |k::r,B=>by
  show(bif Nat.beq k u then true else NK u (r++B))=((bif Nat.beq k u then true else NK u r)||NK u B)
  rw[WB]
  cases Nat.beq k u<;>rfl
abbrev Tag:=Option Nat
abbrev Bw:=List (Tag×Cnd×St)
def EX:Tag→Tag→Bool
 |none,none=>true
 |some i,some j=>Nat.beq i j
 |_,_=>false
theorem Rv {x y:Tag} (h:EX x y=true):x=y:=by
 cases x<;>cases y<;>first|rfl|(cases h;done)|skip
 rw[Nat.eq_of_beq_eq_true h]
theorem QR (x:Tag):EX x x=true:=by cases x<;>simp[EX]
theorem UY {x y:Tag} (h:x≠y):EX x y=false:=by
 cases hb:EX x y with
 |true=>exact absurd (Rv hb) h
 |false=>rfl
def AP (t:Tag):Bw→Option (Cnd×St)
 | []=>none
 |(k,c,s)::r=>bif EX k t then some (c,s) else AP t r
def Hy (t:Tag):Bw→Cnd
 | []=>none
 |(k,c,_)::r=>bif EX k t then Hy t r else Kv (Anp c) (Hy t r)
def Jr:Bw→Cnd
 | []=>none
 |(_,c,_)::r=>Kv (Anp c) (Jr r)
structure ZS where
 ps:List Prop
 outs:Bw
 nrm:Option St
def Wh (f:Tag→Cnd→St→Option (Cnd×St)→Cnd×St) (B:Bw):Bw→Bw
 | []=>[]
 |(t,c,s)::r=>(t,f t c s (AP t B))::Wh f B r
def JH (f:Cnd→Cnd) (A:Bw):Bw→Bw
 | []=>[]
 |(t,d,s)::r=>match AP t A with
  |some _=>JH f A r
  |none=>(t,f d,s)::JH f A r
def A79 (g:Bool) (W:List Nat) (s:St) (_t:Tag) (c:Cnd) (x:St):Option (Cnd×St)→Cnd×St
 |none=>(Kv (some g) c,x)
 |some (d,y)=>(A78 g c d,Im g W s x y)
def Api (g:Bool) (W:List Nat) (s:St):Option St→Option St→Option St
 |none,none=>none
 |some x,none=>some x
 |none,some y=>some y
 |some x,some y=>some (Im g W s x y)
def Av4 (g:Bool) (W:List Nat) (s:St) (A B:ZS):ZS:=
 ⟨S3 [g=true] A.ps++S3 [g=false] B.ps,Wh (A79 g W s) B.outs A.outs++JH (Kv (some !g)) A.outs B.outs,Api g W s A.nrm B.nrm⟩
def Bb7 (A:Bw) (W:List Nat) (s:St) (t:Tag) (c:Cnd) (x:St):Option (Cnd×St)→Cnd×St
 |none=>(c,x)
 |some (d,y)=>(orO c (Kv (Hy t A) d),Im (By c) W s x y)
def Aok (W:List Nat) (s:St) (A B:ZS):ZS:=
 ⟨A.ps++S3 (Bax (Jr A.outs)) B.ps,Wh (Bb7 A.outs W s) B.outs A.outs++JH (Kv (Jr A.outs)) A.outs B.outs,B.nrm⟩
def Mb (t:Tag):Bw→Bw
 | []=>[]
 |(k,c,s)::r=>bif EX k t then Mb t r else(k,c,s)::Mb t r
def ON (W:List Nat) (s:St) (id:Nat) (A:ZS):ZS:=match AP (some id) A.outs with
 |none=>A
 |some (c,x)=>⟨A.ps,Mb (some id) A.outs,match A.nrm with
  |none=>some x
  |some y=>some (Im (By c) W s x y)⟩
def Amv (id:Nat):ZS:=⟨[Vq id],[],none⟩
def Ajs (W:List Nat) (f:St→ZS):Nat→St→ZS
 |0,_=>Amv 1000000
 |n+1,s=>match(f s).nrm with
  |none=>f s
  |some s1=>Aok W s (f s) (Ajs W f n s1)
def A76:Code→Bool
 | .region _ _ _=>true
 |_=>false
def Beo (h:Bool) (u:Nat):Bool:=bif h then true else Nat.ble 1000 u
def QU (E:Env) (u:Nat):Nat→Code→Bool→St→ZS
 |_,.skip,_,s=>⟨[],[],some s⟩
 |_,.region id ops draw,_,s=>match evR E ops.toList draw s with
  |some (s',ps)=>⟨ps,[],some s'⟩
  |none=>Amv id
 |_,.seq a b,h,s=>match(QU E u 0 a h s).nrm with
  |none=>QU E u 0 a h s
  |some s1=>Aok (QV a++QV b) s (QU E u 0 a h s) (QU E u 0 b (bif A76 a then h else false) s1)
 | _,.cond c x y,h,s=>match s.raw [] c with
  | some (.bool g)=>match Beo h u with
   |true=>match g with
    |true=>QU E u 0 x false s
    |false=>QU E u 0 y false s
   |false=>Av4 g (QV x++QV y) s (QU E u 0 x false s) (QU E u 0 y false s)
  |_=>Amv 1000001
 |_,.block id b,_,s=>ON (QV b) s id (QU E u id b false s)
 |l,.loop b,_,s=>match E.L l s with
  |some (b0,ps,outs)=>⟨(b=b0)::ps,outs,none⟩
  |none=>Ajs (QV b) (QU E u 0 b true) u s
 |_,.exit id,_,s=>⟨[],[(some id,none,s)],none⟩
 |_,.ret,_,s=>⟨[],[(none,none,s)],none⟩
 |_,.scope b,_,s=>QU E u 0 b false s
 |_,.label _,_,s=>⟨[],[],some s⟩
 |_,_,_,_=>Amv 1000002
abbrev evC (E:Env) (u:Nat) (c:Code) (s:St):ZS:=QU E u 0 c false s
def Tag.ex:Tag→Exit
 |none=> .ret
 |some i=> .exit i
def Ayo (o:Bw):Prop:=∀t c s,AP t o=some (c,s)→By c=false
def Bad (t:Tag) (o:Bw):Prop:=∀t' c s,t'≠t→AP t' o=some (c,s)→By c=false
def Oc (r:ZS) (e:Exit) (s:St):Prop:=
 (∃t c,e=Tag.ex t∧AP t r.outs=some (c,s)∧By c=true∧Bad t r.outs)∨(e=.normal∧r.nrm=some s∧Ayo r.outs)
theorem S1 (t:Tag):∀(A B:Bw),AP t (A++B)=match AP t A with|some x=>some x|none=>AP t B
 | [],B=>rfl
 |(k,c,s)::r,B=>by
  show(bif EX k t then some (c,s) else AP t (r++B))=match(bif EX k t then some (c,s) else AP t r) with|some x=>some x|none=>AP t B
  cases EX k t with
  |true=>rfl
  |false=>exact S1 t r B
theorem Ra (f:Tag→Cnd→St→Option (Cnd×St)→Cnd×St) (B:Bw) (t:Tag):∀(A:Bw),AP t (Wh f B A)=match AP t A with|some (c,s)=>some (f t c s (AP t B))|none=>none
 | []=>rfl
 |(k,c,s)::r=>by
  show(bif EX k t then some (f k c s (AP k B)) else AP t (Wh f B r))=match(bif EX k t then some (c,s) else AP t r) with|some (c,s)=>some (f t c s (AP t B))|none=>none
  cases h:EX k t with
  |true=>rw[Rv h];rfl
  |false=>exact Ra f B t r
theorem WA (f:Cnd→Cnd) (A:Bw) (t:Tag) (hA:AP t A=none):∀(B:Bw),AP t (JH f A B)=match AP t B with|some (d,s)=>some (f d,s)|none=>none
 | []=>rfl
 | (k,d,s)::r=>by
  show AP t (match AP k A with|some _=>JH f A r|none=>(k,f d,s)::JH f A r)=match(bif EX k t then some (d,s) else AP t r) with|some (d,s)=>some (f d,s)|none=>none
  cases h:EX k t with
  |true=>
   obtain rfl:=Rv h
   rw[hA]
   show(bif EX k k then some (f d,s) else AP k (JH f A r))=_
   rw[QR]
   rfl
  | false=>
   have ih:=WA f A t hA r
   cases hk:AP k A with
   |some x=>exact ih
   |none=>
    show(bif EX k t then some (f d,s) else AP t (JH f A r))=_
    rw[h]
    exact ih
theorem PS (t:Tag) (f:Tag→Cnd→St→Option (Cnd×St)→Cnd×St) (h:Cnd→Cnd) (A B:Bw):
  AP t (Wh f B A++JH h A B)=match AP t A with|some (c,s)=>some (f t c s (AP t B))|none=>match AP t B with|some (d,s)=>some (h d,s)|none=>none:=by
 rw[S1,Ra]
 cases hA:AP t A with
 |some x=>rfl
 |none=>exact WA h A t hA B
theorem Apr:∀{o:Bw},(∀e∈o,By e.2.1=false)→By (Jr o)=true
 | [],_=>rfl
 |(k,c,s)::r,h=>by
  show By (Kv (Anp c) (Jr r))=true
  rw[Bp,Yi,h (k,c,s) (List.mem_cons_self ..),Apr fun e he=>h e (List.mem_cons_of_mem _ he)]
  rfl
def ME:Bw→Prop
 | []=>True
 |(k,_,_)::r=>AP k r=none∧ME r
theorem Aju:∀{o:Bw},ME o→∀e∈o,AP e.1 o=some e.2
 | [],_,e,h=>by cases h
 | (k,c,s)::r,⟨h1,h2⟩,e,h=>by
  rcases List.mem_cons.1 h with rfl|h
  ·show(bif EX k k then some (c,s) else AP k r)=_
   rw[QR]
   rfl
  ·have:=Aju h2 e h
   show(bif EX k e.1 then some (c,s) else AP e.1 r)=_
   cases hb:EX k e.1 with
   |true=>
    obtain rfl:=Rv hb
    rw[h1] at this
    cases this
   |false=>exact this
theorem NU {o:Bw} (ho:ME o) (h:Ayo o):By (Jr o)=true:=Apr fun e he=>h e.1 e.2.1 e.2.2 (Aju ho e he)
theorem Aa5:∀{o:Bw} {t:Tag} {c:Cnd} {s:St},AP t o=some (c,s)→By c=true→By (Jr o)=false
 | [],_,_,_,h,_=>by cases h
 | (k,d,x)::r,t,c,s,h,hc=>by
  show By (Kv (Anp d) (Jr r))=false
  rw[Bp,Yi]
  have h':(bif EX k t then some (d,x) else AP t r)=some (c,s):=h
  cases hb:EX k t with
  |true=>
   rw[hb] at h'
   obtain⟨rfl,rfl⟩:d=c∧x=s:=by cases h';exact⟨rfl,rfl⟩
   rw[hc]
   rfl
  |false=>
   rw[hb] at h'
   rw[Aa5 h' hc,Bool.and_false]
theorem Aj4:∀{o:Bw} {t u:Tag} {c:Cnd} {s:St},t≠u→AP t o=some (c,s)→By c=true→By (Hy u o)=false
 | [],_,_,_,_,_,h,_=>by cases h
 | (k,d,x)::r,t,u,c,s,hu,h,hc=>by
  have h':(bif EX k t then some (d,x) else AP t r)=some (c,s):=h
  show By (bif EX k u then Hy u r else Kv (Anp d) (Hy u r))=false
  cases hb:EX k t with
  |true=>
   rw[hb] at h'
   obtain⟨rfl,rfl⟩:d=c∧x=s:=by cases h';exact⟨rfl,rfl⟩
   obtain rfl:=Rv hb
   rw[UY hu]
   show By (Kv (Anp d) (Hy u r))=false
   rw[Bp,Yi,hc]
   rfl
  | false=>
   rw[hb] at h'
   have ih:=Aj4 hu h' hc
   cases EX k u with
   |true=>exact ih
   |false=>
    show By (Kv (Anp d) (Hy u r))=false
    rw[Bp,ih,Bool.and_false]
theorem Aj5:∀{o:Bw} {u:Tag},(∀e∈o,By e.2.1=false)→By (Hy u o)=true
 | [],_,_=>rfl
 | (k,c,s)::r,u,h=>by
  have ih:=Aj5 (u:=u) (o:=r) fun e he=>h e (List.mem_cons_of_mem _ he)
  show By (bif EX k u then Hy u r else Kv (Anp c) (Hy u r))=true
  cases EX k u with
  |true=>exact ih
  |false=>
   show By (Kv (Anp c) (Hy u r))=true
   rw[Bp,Yi,h (k,c,s) (List.mem_cons_self ..),ih]
   rfl
theorem Adx:∀{A B:Bw},ME A→ME B→(∀t x,AP t A=some x→AP t B=none)→ME (A++B)
 | [],B,_,hB,_=>hB
 | (k,c,s)::r,B,⟨h1,h2⟩,hB,h=>by
  refine⟨?_,Adx h2 hB fun t x hx=>h t x ?_⟩
  ·show AP k (r++B)=none
   rw[S1,h1]
   exact h k (c,s) (by show(bif EX k k then some (c,s) else AP k r)=_;rw[QR];rfl)
  ·show(bif EX k t then some (c,s) else AP t r)=some x
   cases hb:EX k t with
   |true=>
    obtain rfl:=Rv hb
    rw[h1] at hx
    cases hx
   |false=>exact hx
theorem Ako (f:Tag→Cnd→St→Option (Cnd×St)→Cnd×St) (B:Bw):∀{A:Bw},ME A→ME (Wh f B A)
 | [],_=>trivial
 |(k,c,s)::r,⟨h1,h2⟩=>⟨by rw[Ra,h1],Ako f B h2⟩
theorem RK (f:Cnd→Cnd) (A:Bw) (t:Tag) (hA:AP t A≠none):∀(B:Bw),AP t (JH f A B)=none
 | []=>rfl
 | (k,d,s)::r=>by
  have ih:=RK f A t hA r
  show AP t (match AP k A with|some _=>JH f A r|none=>(k,f d,s)::JH f A r)=none
  cases hk:AP k A with
  |some x=>exact ih
  |none=>
   show(bif EX k t then some (f d,s) else AP t (JH f A r))=none
   cases hb:EX k t with
   |true=>exact absurd (Rv hb▸hk) hA
   |false=>exact ih
theorem Akn (f:Cnd→Cnd) (A:Bw):∀{B:Bw},ME B→ME (JH f A B)
 | [],_=>trivial
 |(k,d,s)::r,⟨h1,h2⟩=>by
  have ih:=Akn f A h2
  show ME (match AP k A with|some _=>JH f A r|none=>(k,f d,s)::JH f A r)
  cases hk:AP k A with
  |some x=>exact ih
  |none=>exact⟨by rw[WA f A k hk,h1],ih⟩
theorem Apv (f:Tag→Cnd→St→Option (Cnd×St)→Cnd×St) (h:Cnd→Cnd) {A B:Bw} (hA:ME A) (hB:ME B):ME (Wh f B A++JH h A B):=
 Adx (Ako f B hA) (Akn h A hB) fun t x hx=>by
  refine RK h A t (fun hn=>?_) B
  rw[Ra,hn] at hx
  cases hx
theorem Jp (u t:Tag):∀(o:Bw),AP t (Mb u o)=if t=u then none else AP t o
 | []=>by split<;>rfl
 | (k,c,s)::r=>by
  have ih:=Jp u t r
  show AP t (bif EX k u then Mb u r else(k,c,s)::Mb u r)=if t=u then none else(bif EX k t then some (c,s) else AP t r)
  by_cases hku:k=u
  ·subst hku
   rw[QR]
   show AP t (Mb k r)=_
   rw[ih]
   by_cases htk:t=k
   ·rw[if_pos htk,if_pos htk]
   ·rw[if_neg htk,if_neg htk,UY (Ne.symm htk)]
    rfl
  ·rw[UY hku]
   show(bif EX k t then some (c,s) else AP t (Mb u r))=_
   rw[ih]
   by_cases htu:t=u
   ·subst htu
    rw[if_pos rfl,if_pos rfl,UY hku]
    rfl
   ·rw[if_neg htu,if_neg htu]
theorem Akm (u:Tag):∀{o:Bw},ME o→ME (Mb u o)
 | [],_=>trivial
 |(k,c,s)::r,⟨h1,h2⟩=>by
  have ih:=Akm u h2
  show ME (bif EX k u then Mb u r else(k,c,s)::Mb u r)
  cases EX k u with
  |true=>exact ih
  |false=>exact⟨by rw[Jp,h1];split<;>rfl,ih⟩
structure Wf (s:St) (r:ZS):Prop where
 outs:∀t c x,AP t r.outs=some (c,x)→Sub s x
 nrm:∀x,r.nrm=some x→Sub s x
 once:ME r.outs
theorem Bco {s:St} {g:Bool} {W:List Nat} {A B:ZS} (hA:Wf s A) (hB:Wf s B):Wf s (Av4 g W s A B):=by
 refine⟨fun t c x h=>?_,fun x h=>?_,Apv _ _ hA.once hB.once⟩
 ·have h':AP t (Wh (A79 g W s) B.outs A.outs++JH (Kv (some !g)) A.outs B.outs)=some (c,x):=h
  rw[PS] at h'
  cases h1:AP t A.outs with
  | some y=>
   obtain⟨c1,y⟩:=y
   rw[h1] at h'
   cases h2:AP t B.outs with
   |some z=>
    obtain⟨c2,z⟩:=z
    rw[h2] at h'
    cases h'
    exact Sub.merge _ _ _ _ _
   |none=>
    rw[h2] at h'
    cases h'
    exact hA.outs _ _ _ h1
  | none=>
   rw[h1] at h'
   cases h2:AP t B.outs with
   |some z=>
    obtain⟨c2,z⟩:=z
    rw[h2] at h'
    cases h'
    exact hB.outs _ _ _ h2
   |none=>
    rw[h2] at h'
    cases h'
 ·have h':Api g W s A.nrm B.nrm=some x:=h
  cases h1:A.nrm with
  |some y=>
   cases h2:B.nrm with
   |some z=>rw[h1,h2] at h';cases h';exact Sub.merge _ _ _ _ _
   |none=>rw[h1,h2] at h';cases h';exact hA.nrm _ h1
  |none=>
   cases h2:B.nrm with
   |some z=>rw[h1,h2] at h';cases h';exact hB.nrm _ h2
   |none=>rw[h1,h2] at h';cases h'
theorem A98 {s s1:St} {W:List Nat} {A B:ZS} (hA:Wf s A) (h1:A.nrm=some s1) (hB:Wf s1 B):Wf s (Aok W s A B):=by
 have hs:=hA.nrm _ h1
 refine⟨fun t c x h=>?_,fun x h=>hs.trans (hB.nrm _ h),Apv _ _ hA.once hB.once⟩
 have h':AP t (Wh (Bb7 A.outs W s) B.outs A.outs++JH (Kv (Jr A.outs)) A.outs B.outs)=some (c,x):=h
 rw[PS] at h'
 cases h1:AP t A.outs with
 | some y=>
  obtain⟨c1,y⟩:=y
  rw[h1] at h'
  cases h2:AP t B.outs with
  |some z=>
   obtain⟨c2,z⟩:=z
   rw[h2] at h'
   cases h'
   exact Sub.merge _ _ _ _ _
  |none=>
   rw[h2] at h'
   cases h'
   exact hA.outs _ _ _ h1
 | none=>
  rw[h1] at h'
  cases h2:AP t B.outs with
  |some z=>
   obtain⟨c2,z⟩:=z
   rw[h2] at h'
   cases h'
   exact hs.trans (hB.outs _ _ _ h2)
  |none=>
   rw[h2] at h'
   cases h'
theorem A96 {s:St} {W:List Nat} {id:Nat} {A:ZS} (hA:Wf s A):Wf s (ON W s id A):=by
 unfold ON
 cases h1:AP (some id) A.outs with
 |none=>exact hA
 | some y=>
  obtain⟨c,y⟩:=y
  refine⟨fun t c' x h=>?_,fun x h=>?_,Akm _ hA.once⟩
  ·have h':AP t (Mb (some id) A.outs)=some (c',x):=h
   rw[Jp] at h'
   split at h'
   ·cases h'
   ·exact hA.outs _ _ _ h'
  ·have h':(match A.nrm with|none=>some y|some z=>some (Im (By c) W s y z))=some x:=h
   cases h2:A.nrm with
   |none=>rw[h2] at h';cases h';exact hA.outs _ _ _ h1
   |some z=>rw[h2] at h';cases h';exact Sub.merge _ _ _ _ _
theorem QT (s:St) (id:Nat):Wf s (Amv id):=⟨fun _ _ _ h=>(by cases h),fun _ h=>(by cases h),trivial⟩
theorem At3 {W:List Nat} {f:St→ZS} (hf:∀s,Wf s (f s)):∀(n:Nat) (s:St),Wf s (Ajs W f n s)
 |0,s=>QT s _
 |n+1,s=>by
  unfold Ajs
  cases h:(f s).nrm with
  |none=>exact hf s
  |some s1=>exact A98 (hf s) h (At3 hf n s1)
theorem A97 (s:St) (t:Tag):Wf s ⟨[],[(t,none,s)],none⟩:=
  ⟨fun t' c x h=>(by
    have h':(bif EX t t' then some (none,s) else none)=some (c,x):=h
    cases hb:EX t t' with
    |true=>rw[hb] at h';cases h';exact Sub.refl s
    |false=>rw[hb] at h';cases h'),
   fun x h=>(by cases h),rfl,trivial⟩
def BY (E:Env) (b:Code) (s:St) (ps:List Prop) (outs:Bw):Prop:=∀(Z:Base) (F:Nat→Prop) (N:Nm) (a:Act) (R:World) (Q:Exit→Act→World→Prop),Rel Z F N s a R→(∀u,NK u (QV b)=true→Z.W u)→(∀p∈ps,p)→
 (∀e x F' N' a' R',Oc ⟨ps,outs,none⟩ e x→Rel Z F' N' x a' R'→Q e a' R')→(Code.loop b).wp E.P Q a R
structure SE (E:Env):Prop extends EnvOk E where
 loops:∀l s b ps outs,E.L l s=some (b,ps,outs)→Wf s ⟨ps,outs,none⟩∧BY E b s ps outs
theorem Fp {E:Env} (ok:SE E) {u:Nat}:∀(l:Nat) (c:Code) (h:Bool) (s:St),Wf s (QU E u l c h s)
 |_,.skip,_,s=>⟨fun _ _ _ h=>(by cases h),fun x h=>(by cases h;exact Sub.refl s),trivial⟩
 | _,.region id ops draw,_,s=>by
  unfold QU
  cases h:evR E ops.toList draw s with
  |none=>exact QT s _
  |some x=>
   obtain⟨s',ps⟩:=x
   exact⟨fun _ _ _ h=>(by cases h),fun x h'=>(by cases h';exact A06 ok.toEnvOk h),trivial⟩
 |_,.seq a b,hd,s=>by
  unfold QU
  cases h:(QU E u 0 a hd s).nrm with
  |none=>exact Fp ok 0 a hd s
  |some s1=>exact A98 (Fp ok 0 a hd s) h (Fp ok 0 b _ s1)
 | _,.cond c x y,hd,s=>by
  unfold QU
  split
  ·rename_i g _
   cases Beo hd u with
   |true=>
    cases g with
    |true=>exact Fp ok 0 x _ s
    |false=>exact Fp ok 0 y _ s
   |false=>exact Bco (Fp ok 0 x _ s) (Fp ok 0 y _ s)
  ·exact QT s _
 |_,.block id b,_,s=>A96 (Fp ok id b _ s)
 | l,.loop b,_,s=>by
  unfold QU
  split
  ·rename_i b0 ps outs h
   obtain⟨h1,h2,h3⟩:=(ok.loops _ _ _ _ _ h).1
   exact⟨h1,h2,h3⟩
  ·exact At3 (fun s=>Fp ok 0 b _ s) u s
 |_,.exit id,_,s=>A97 s (some id)
 |_,.ret,_,s=>A97 s none
 |_,.rangeFunc _ _ _ _,_,s=>QT s _
 |_,.scope b,_,s=>Fp ok 0 b false s
 |_,.label _,_,s=>⟨fun _ _ _ h=>(by cases h),fun x h=>(by cases h;exact Sub.refl s),trivial⟩
 |_,.goto _,_,s=>QT s _
 |_,.refuse _,_,s=>QT s _
theorem KD {ps qs:List Prop} (h:∀p∈ps++qs,p):(∀p∈ps,p)∧(∀p∈qs,p):=⟨fun p hp=>h p (List.mem_append.2 (.inl hp)),fun p hp=>h p (List.mem_append.2 (.inr hp))⟩
def Bao (M:Base) (x y:St):Prop:=∀a' R',At M a' R' x→At M a' R' y
theorem O2 {Z:Base} {F:Nat→Prop} {N:Nm} {s:St} {a:Act} {R:World} {W:List Nat} (h0:Rel Z F N s a R) {g:Bool} {x y z:St} (e1:Sub s x) (e2:Sub s y) (hz:z=bif g then x else y):Bao (Ke F N s a R W) z (Im g W s x y):=fun a' R' ⟨F',N',h⟩=>by
 subst hz
 obtain⟨N'',h'⟩:=Rel.merge (h0.start W) h (fun _ h=>h) e1 e2
 exact⟨F',N'',h'⟩
theorem Bbq {Z:Base} {F:Nat→Prop} {N:Nm} {a:Act} {R:World} {W:List Nat} {s:St} (h0:Rel Z F N s a R) {g:Bool} {A B:ZS} {e:Exit} {x:St} (hA:Wf s A) (hB:Wf s B) (h:Oc (bif g then A else B) e x):
  ∃y,Oc (Av4 g W s A B) e y∧Bao (Ke F N s a R W) x y:=by
 have gj:=PS (f:=A79 g W s) (h:=Kv (some !g)) (A:=A.outs) (B:=B.outs)
 rcases h with⟨t,c,rfl,h1,h2,h3⟩|⟨rfl,h1,h2⟩
 ·cases g with
  | true=>
   have h1':AP t A.outs=some (c,x):=h1
   cases hb:AP t B.outs with
   | none=>
    refine⟨x,.inl ⟨t,Kv (some true) c,rfl,?_,?_,fun t' c' s' hne hg=>?_⟩,fun _ _ h=>h⟩
    ·show AP t (_++_)=_
     rw[gj,h1',hb]
     rfl
    ·rw[Bp,h2];rfl
    ·have hg':AP t' (_++_)=some (c',s'):=hg
     rw[gj] at hg'
     cases ha:AP t' A.outs with
     |some z=>
      obtain⟨c1,z⟩:=z
      have:=h3 t' c1 z hne ha
      rw[ha] at hg'
      cases hb':AP t' B.outs with
      |some w=>obtain⟨d,w⟩:=w;rw[hb'] at hg';cases hg';rw[PI];exact this
      |none=>rw[hb'] at hg';cases hg';rw[Bp,this];rfl
     |none=>
      rw[ha] at hg'
      cases hb':AP t' B.outs with
      |some w=>obtain⟨d,w⟩:=w;rw[hb'] at hg';cases hg';rw[Bp];rfl
      |none=>rw[hb'] at hg';cases hg'
   | some y=>
    obtain⟨d,y⟩:=y
    refine⟨Im true W s x y,.inl ⟨t,A78 true c d,rfl,?_,?_,fun t' c' s' hne hg=>?_⟩,O2 (g:=true) h0 (hA.outs _ _ _ h1') (hB.outs _ _ _ hb) rfl⟩
    ·show AP t (_++_)=_
     rw[gj,h1',hb]
     rfl
    ·rw[PI];exact h2
    ·have hg':AP t' (_++_)=some (c',s'):=hg
     rw[gj] at hg'
     cases ha:AP t' A.outs with
     |some z=>
      obtain⟨c1,z⟩:=z
      have:=h3 t' c1 z hne ha
      rw[ha] at hg'
      cases hb':AP t' B.outs with
      |some w=>obtain⟨d,w⟩:=w;rw[hb'] at hg';cases hg';rw[PI];exact this
      |none=>rw[hb'] at hg';cases hg';rw[Bp,this];rfl
     |none=>
      rw[ha] at hg'
      cases hb':AP t' B.outs with
      |some w=>obtain⟨d,w⟩:=w;rw[hb'] at hg';cases hg';rw[Bp];rfl
      |none=>rw[hb'] at hg';cases hg'
  | false=>
   have h1':AP t B.outs=some (c,x):=h1
   have hbut:∀t' c' s',t'≠t→AP t' (Av4 false W s A B).outs=some (c',s')→By c'=false:=fun t' c' s' hne hg=>by
    have hg':AP t' (_++_)=some (c',s'):=hg
    rw[gj] at hg'
    cases ha:AP t' A.outs with
    | some z=>
     obtain⟨c1,z⟩:=z
     rw[ha] at hg'
     cases hb':AP t' B.outs with
     |some w=>
      obtain⟨d,w⟩:=w
      have:=h3 t' d w hne hb'
      rw[hb'] at hg';cases hg';rw[PI];exact this
     |none=>rw[hb'] at hg';cases hg';rw[Bp];rfl
    | none=>
     rw[ha] at hg'
     cases hb':AP t' B.outs with
     |some w=>
      obtain⟨d,w⟩:=w
      have:=h3 t' d w hne hb'
      rw[hb'] at hg';cases hg';rw[Bp,this];rfl
     |none=>rw[hb'] at hg';cases hg'
   cases ha:AP t A.outs with
   | none=>
    refine⟨x,.inl ⟨t,Kv (some !false) c,rfl,?_,?_,hbut⟩,fun _ _ h=>h⟩
    ·show AP t (_++_)=_
     rw[gj,ha,h1']
    ·rw[Bp,h2];rfl
   | some y=>
    obtain⟨d,y⟩:=y
    refine⟨Im false W s y x,.inl ⟨t,A78 false d c,rfl,?_,?_,hbut⟩,O2 (g:=false) h0 (hA.outs _ _ _ ha) (hB.outs _ _ _ h1') rfl⟩
    ·show AP t (_++_)=_
     rw[gj,ha,h1']
     rfl
    ·rw[PI];exact h2
 ·have hall:Ayo (Av4 g W s A B).outs:=fun t' c' s' hg=>by
   have hg':AP t' (_++_)=some (c',s'):=hg
   rw[gj] at hg'
   cases ha:AP t' A.outs with
   | some z=>
    obtain⟨c1,z⟩:=z
    rw[ha] at hg'
    cases hb':AP t' B.outs with
    |some w=>
     obtain⟨d,w⟩:=w
     rw[hb'] at hg';cases hg';rw[PI]
     cases g with
     |true=>exact h2 t' c1 _ ha
     |false=>exact h2 t' d _ hb'
    |none=>
     rw[hb'] at hg';cases hg';rw[Bp]
     cases g with
     |true=>rw[h2 t' c1 _ ha];rfl
     |false=>rfl
   | none=>
    rw[ha] at hg'
    cases hb':AP t' B.outs with
    |some w=>
     obtain⟨d,w⟩:=w
     rw[hb'] at hg';cases hg';rw[Bp]
     cases g with
     |true=>rfl
     |false=>rw[h2 t' d _ hb'];rfl
    |none=>rw[hb'] at hg';cases hg'
  cases g with
  |true=>
   have h1':A.nrm=some x:=h1
   cases hb:B.nrm with
   |none=>exact⟨x,.inr ⟨rfl,by show Api true W s A.nrm B.nrm=_;rw[h1',hb];rfl,hall⟩,fun _ _ h=>h⟩
   |some y=>exact⟨_,.inr ⟨rfl,by show Api true W s A.nrm B.nrm=_;rw[h1',hb];rfl,hall⟩,O2 (g:=true) h0 (hA.nrm _ h1') (hB.nrm _ hb) rfl⟩
  |false=>
   have h1':B.nrm=some x:=h1
   cases ha:A.nrm with
   |none=>exact⟨x,.inr ⟨rfl,by show Api false W s A.nrm B.nrm=_;rw[ha,h1'];rfl,hall⟩,fun _ _ h=>h⟩
   |some y=>exact⟨_,.inr ⟨rfl,by show Api false W s A.nrm B.nrm=_;rw[ha,h1'];rfl,hall⟩,O2 (g:=false) h0 (hA.nrm _ ha) (hB.nrm _ h1') rfl⟩
theorem Bbr {Z:Base} {F:Nat→Prop} {N:Nm} {a:Act} {R:World} {W:List Nat} {s s1:St} (h0:Rel Z F N s a R) {A B:ZS} {t:Tag} {c:Cnd} {x:St} (hA:Wf s A) (hn:A.nrm=some s1) (hB:Wf s1 B) (h1:AP t A.outs=some (c,x)) (h2:By c=true) (h3:Bad t A.outs):
  ∃y,Oc (Aok W s A B) (Tag.ex t) y∧Bao (Ke F N s a R W) x y:=by
 have gj:=PS (f:=Bb7 A.outs W s) (h:=Kv (Jr A.outs)) (A:=A.outs) (B:=B.outs)
 have hbut:Bad t (Aok W s A B).outs:=fun t' c' s' hne hg=>by
  have hg':AP t' (_++_)=some (c',s'):=hg
  rw[gj] at hg'
  cases ha:AP t' A.outs with
  | some z=>
   obtain⟨c1,z⟩:=z
   have:=h3 t' c1 z hne ha
   rw[ha] at hg'
   cases hb':AP t' B.outs with
   |some w=>
    obtain⟨d,w⟩:=w
    rw[hb'] at hg';cases hg'
    rw[Yj,this,Bp,Aj4 (Ne.symm hne) h1 h2]
    rfl
   |none=>rw[hb'] at hg';cases hg';exact this
  | none=>
   rw[ha] at hg'
   cases hb':AP t' B.outs with
   |some w=>
    obtain⟨d,w⟩:=w
    rw[hb'] at hg';cases hg'
    rw[Bp,Aa5 h1 h2]
    rfl
   |none=>rw[hb'] at hg';cases hg'
 cases hb:AP t B.outs with
 |none=>
  refine⟨x,.inl ⟨t,c,rfl,?_,h2,hbut⟩,fun _ _ h=>h⟩
  show AP t (_++_)=_
  rw[gj,h1,hb]
  rfl
 | some y=>
  obtain⟨d,y⟩:=y
  refine⟨Im (By c) W s x y,.inl ⟨t,orO c (Kv (Hy t A.outs) d),rfl,?_,?_,hbut⟩,O2 (g:=By c) h0 (hA.outs _ _ _ h1) ((hA.nrm _ hn).trans (hB.outs _ _ _ hb)) (by rw[h2];rfl)⟩
  ·show AP t (_++_)=_
   rw[gj,h1,hb]
   rfl
  ·rw[Yj,h2]
   rfl
theorem Bbs {Z:Base} {F:Nat→Prop} {N:Nm} {a:Act} {R:World} {W:List Nat} {s s1:St} (h0:Rel Z F N s a R) {A B:ZS} {e:Exit} {x:St} (hA:Wf s A) (hn:A.nrm=some s1) (hB:Wf s1 B) (hall:Ayo A.outs) (h:Oc B e x):
  ∃y,Oc (Aok W s A B) e y∧Bao (Ke F N s a R W) x y:=by
 have gj:=PS (f:=Bb7 A.outs W s) (h:=Kv (Jr A.outs)) (A:=A.outs) (B:=B.outs)
 have hno:=NU hA.once hall
 have hnb:∀t,By (Hy t A.outs)=true:=fun t=>Aj5 fun e he=>hall e.1 e.2.1 e.2.2 (Aju hA.once e he)
 rcases h with⟨t,c,rfl,h1,h2,h3⟩|⟨rfl,h1,h2⟩
 ·have hbut:Bad t (Aok W s A B).outs:=fun t' c' s' hne hg=>by
   have hg':AP t' (_++_)=some (c',s'):=hg
   rw[gj] at hg'
   cases ha:AP t' A.outs with
   | some z=>
    obtain⟨c1,z⟩:=z
    have:=hall t' c1 z ha
    rw[ha] at hg'
    cases hb':AP t' B.outs with
    |some w=>
     obtain⟨d,w⟩:=w
     rw[hb'] at hg';cases hg'
     rw[Yj,this,Bp,h3 t' d _ hne hb',Bool.and_false]
     rfl
    |none=>rw[hb'] at hg';cases hg';exact this
   | none=>
    rw[ha] at hg'
    cases hb':AP t' B.outs with
    |some w=>
     obtain⟨d,w⟩:=w
     rw[hb'] at hg';cases hg'
     rw[Bp,h3 t' d _ hne hb',Bool.and_false]
    |none=>rw[hb'] at hg';cases hg'
  cases ha:AP t A.outs with
  |none=>
   refine⟨x,.inl ⟨t,Kv (Jr A.outs) c,rfl,?_,by rw[Bp,hno,h2];rfl,hbut⟩,fun _ _ h=>h⟩
   show AP t (_++_)=_
   rw[gj,ha,h1]
  | some y=>
   obtain⟨d,y⟩:=y
   have hd:=hall t d y ha
   refine⟨Im (By d) W s y x,.inl ⟨t,orO d (Kv (Hy t A.outs) c),rfl,?_,?_,hbut⟩,O2 (g:=By d) h0 (hA.outs _ _ _ ha) ((hA.nrm _ hn).trans (hB.outs _ _ _ h1)) (by rw[hd];rfl)⟩
   ·show AP t (_++_)=_
    rw[gj,ha,h1]
    rfl
   ·rw[Yj,Bp,hnb t,h2,Bool.and_self,Bool.or_true]
 ·refine⟨x,.inr ⟨rfl,h1,fun t' c' s' hg=>?_⟩,fun _ _ h=>h⟩
  have hg':AP t' (_++_)=some (c',s'):=hg
  rw[gj] at hg'
  cases ha:AP t' A.outs with
  | some z=>
   obtain⟨c1,z⟩:=z
   have:=hall t' c1 z ha
   rw[ha] at hg'
   cases hb':AP t' B.outs with
   |some w=>
    obtain⟨d,w⟩:=w
    rw[hb'] at hg';cases hg'
    rw[Yj,this,Bp,h2 t' d _ hb',Bool.and_false]
    rfl
   |none=>rw[hb'] at hg';cases hg';exact this
  | none=>
   rw[ha] at hg'
   cases hb':AP t' B.outs with
   |some w=>
    obtain⟨d,w⟩:=w
    rw[hb'] at hg';cases hg'
    rw[Bp,h2 t' d _ hb',Bool.and_false]
   |none=>rw[hb'] at hg';cases hg'
theorem A5j {W:List Nat} {s:St} {A B:ZS} (hA:Wf s A) (hall:Ayo A.outs) (h:∀p∈(Aok W s A B).ps,p):(∀p∈B.ps,p):=by
 have h':=(KD h).2
 refine LB h' fun q hq=>?_
 have hno:=NU hA.once hall
 cases hc:Jr A.outs with
 |none=>rw[hc] at hq;cases hq
 |some b=>
  rw[hc] at hq hno
  obtain rfl:=List.mem_singleton.1 hq
  exact hno
def Bfe (E:Env) (f:St→ZS) (c:Code):Prop:=∀(Z:Base) (s:St) (a:Act) (R:World) (Q:Exit→Act→World→Prop),At Z a R s→(∀u,NK u (QV c)=true→Z.W u)→(∀p∈(f s).ps,p)→
 (∀e x a' R',Oc (f s) e x→At Z a' R' x→Q e a' R')→c.wp E.P Q a R
theorem At.over {Z:Base} {F:Nat→Prop} {N:Nm} {s x:St} {a a':Act} {R R':World} {W:List Nat} (h0:Rel Z F N s a R) (hW:∀u,NK u W=true→Z.W u) (h:At (Ke F N s a R W) a' R' x):At Z a' R' x:=by
 obtain⟨F',N',h⟩:=h
 exact⟨F',N',h0.over h hW⟩
theorem Ax7 {E:Env} {W:List Nat} {f:St→ZS} {c:Code} (hw:∀s,Wf s (f s)) (hf:Bfe E f c) {Z:Base} {F:Nat→Prop} {N:Nm} {s:St} {a:Act} {R:World} {Q:Exit→Act→World→Prop} {s1:St} {B:ZS} (h0:Rel Z F N s a R) (hW:∀u,NK u W=true→Z.W u) (hc:∀u,NK u (QV c)=true→NK u W=true) (hn:(f s).nrm=some s1) (hB:Wf s1 B)
  (hp:∀p∈(Aok W s (f s) B).ps,p) (hk:∀e x a' R',Oc (Aok W s (f s) B) e x→At Z a' R' x→Q e a' R')
  {K:Act→World→Prop} (hd:∀(a':Act) (R':World),At (Ke F N s a R W) a' R' s1→(∀p∈B.ps,p)→(∀e x a'' R'',Oc B e x→At (Ke F N s a R W) a'' R'' x→Q e a'' R'')→K a' R'):c.wp E.P (Exit.then K Q) a R:=by
 refine hf (Ke F N s a R W) s a R _ ⟨F,N,h0.start W⟩ (fun u hu=>hc u hu) (KD hp).1 fun e x a' R' ho hr=>?_
 rcases ho with⟨t,cc,rfl,h1,h2,h3⟩|⟨rfl,h1,h2⟩
 ·obtain⟨y,hy,hr'⟩:=Bbr h0 (hw s) hn hB h1 h2 h3
  have:=hk _ y a' R' hy (At.over h0 hW (hr' _ _ hr))
  cases t<;>exact this
 ·rw[hn] at h1
  obtain rfl:=Option.some.inj h1
  refine hd a' R' hr (A5j (hw s) h2 hp) fun e x a'' R'' ho' hr'=>?_
  obtain⟨y,hy,hr''⟩:=Bbs h0 (hw s) hn hB h2 ho'
  exact hk e y a'' R'' hy (At.over h0 hW (hr'' _ _ hr'))
theorem YE {u:Nat} {A B:List Nat} (h:NK u A=true):NK u (A++B)=true:=by rw[WB,h];rfl
theorem Aai {u:Nat} {A B:List Nat} (h:NK u B=true):NK u (A++B)=true:=by rw[WB,h];cases NK u A<;>rfl
theorem H0 {E:Env} (ok:SE E) {u:Nat}:∀(l:Nat) (c:Code) (hd:Bool),Bfe E (QU E u l c hd) c
 |_,.skip,_=>fun Z s a R Q h _ _ hk=>wp_skip (hk _ s a R (.inr ⟨rfl,rfl,fun _ _ _ h=>by cases h⟩) h)
 | _,.region id ops draw,_=>fun Z s a R Q h hW hp hk=>by
  unfold QU at hp hk
  cases he:evR E ops.toList draw s with
  |none=>rw[he] at hp;exact(hp (Vq id) (List.mem_singleton.2 rfl)).elim
  |some x=>
   obtain⟨s',ps⟩:=x
   rw[he] at hp hk
   obtain⟨F,N,h⟩:=h
   have:=A5d ok.toEnvOk h (id:=id) hW he hp (Q:=Q) fun F' N' a' R' hr=>hk _ s' a' R' (.inr ⟨rfl,rfl,fun _ _ _ h=>by cases h⟩) ⟨F',N',hr⟩
   rwa[Array.toArray_toList] at this
 | _,.seq c d,hd=>fun Z s a R Q h hW hp hk=>by
  unfold QU at hp hk
  refine wp_seq ?_
  cases hn:(QU E u 0 c hd s).nrm with
  | none=>
   rw[hn] at hp hk
   refine H0 ok 0 c hd Z s a R _ h (fun u hu=>hW u (YE hu)) hp fun e x a' R' ho hr=>?_
   have:=hk e x a' R' ho hr
   rcases ho with⟨t,cc,rfl,_,_,_⟩|⟨rfl,h1,_⟩
   ·cases t<;>exact this
   ·rw[hn] at h1
    cases h1
  |some s1=>
   rw[hn] at hp hk
   obtain⟨F,N,h⟩:=h
   exact Ax7 (fun s=>Fp ok 0 c hd s) (H0 ok 0 c hd) h hW (fun u hu=>YE hu) hn (Fp ok 0 d _ s1) hp hk fun a' R' hr hp' hk'=>H0 ok 0 d _ _ s1 a' R' Q hr (fun u hu=>Aai hu) hp' hk'
 | _,.cond c x y,hd=>fun Z s a R Q h hW hp hk=>by
  unfold QU at hp hk
  split at hp
  ·rename_i g hg
   rw[hg] at hk
   simp only at hk
   obtain⟨F,N,h⟩:=h
   have hev:=DO h (H3 _) hg
   generalize Beo hd u=lt at hp hk
   cases lt with
   |true=>
    cases g with
    |true=>exact wp_cond_true hev (H0 ok 0 x false Z s a R Q ⟨F,N,h⟩ (fun u hu=>hW u (YE hu)) hp hk)
    |false=>exact wp_cond_false hev (H0 ok 0 y false Z s a R Q ⟨F,N,h⟩ (fun u hu=>hW u (Aai hu)) hp hk)
   |false=>
   obtain⟨hp1,hp2⟩:=KD hp
   have main:∀z:Exit×St,Oc (bif g then QU E u 0 x false s else QU E u 0 y false s) z.1 z.2→∀a' R',At (Ke F N s a R (QV x++QV y)) a' R' z.2→Q z.1 a' R':=fun z hz a' R' hr=>by
    obtain⟨w,hw,hr'⟩:=Bbq h (Fp ok 0 x _ s) (Fp ok 0 y _ s) hz
    exact hk z.1 w a' R' hw (At.over h hW (hr' _ _ hr))
   cases g with
   |true=>
    exact wp_cond_true hev (H0 ok 0 x false (Ke F N s a R (QV x++QV y)) s a R Q ⟨F,N,h.start _⟩ (fun u hu=>YE hu) (LB hp1 fun q hq=>by obtain rfl:=List.mem_singleton.1 hq;rfl) fun e z a' R' ho hr=>main (e,z) ho a' R' hr)
   |false=>
    exact wp_cond_false hev (H0 ok 0 y false (Ke F N s a R (QV x++QV y)) s a R Q ⟨F,N,h.start _⟩ (fun u hu=>Aai hu) (LB hp2 fun q hq=>by obtain rfl:=List.mem_singleton.1 hq;rfl) fun e z a' R' ho hr=>main (e,z) ho a' R' hr)
  ·exact(hp (Vq 1000001) (List.mem_singleton.2 rfl)).elim
 | _, .block id b,_=>fun Z s a R Q h hW hp hk=>by
  refine wp_block ?_
  obtain⟨F,N,h⟩:=h
  have hwf:=Fp ok (u:=u) id b false s
  have hp':∀p∈(QU E u id b false s).ps,p:=fun p hm=>hp p (by
   show p∈(ON (QV b) s id (QU E u id b false s)).ps
   unfold ON
   cases hg:AP (some id) (QU E u id b false s).outs with
   |none=>exact hm
   |some y=>exact hm)
  refine H0 ok id b false (Ke F N s a R (QV b)) s a R _ ⟨F,N,h.start _⟩ (fun u hu=>hu) hp' fun e x a' R' ho hr=>?_
  have hk':∀e x a' R',Oc (ON (QV b) s id (QU E u id b false s)) e x→At Z a' R' x→Q e a' R':=hk
  have hz:At Z a' R' x:=At.over h hW hr
  generalize QU E u id b false s=A at*
  cases hg:AP (some id) A.outs with
  | none=>
   have hbl:ON (QV b) s id A=A:=by unfold ON;rw[hg]
   rw[hbl] at hk'
   have:=hk' e x a' R' ho hz
   rcases ho with⟨t,cc,rfl,h1,_,_⟩|⟨rfl,_,_⟩
   ·cases t with
    |none=>exact this
    |some i=>
     have hne:i≠id:=fun e=>by subst e;rw[hg] at h1;cases h1
     show Exit.inBlock id Q (.exit i) a' R'
     unfold Exit.inBlock
     simp only[hne,if_false]
     exact this
   ·exact this
  | some y=>
   obtain⟨c,y⟩:=y
   have hbl:ON (QV b) s id A=⟨A.ps,Mb (some id) A.outs,match A.nrm with|none=>some y|some z=>some (Im (By c) (QV b) s y z)⟩:=by unfold ON;rw[hg]
   rw[hbl] at hk'
   rcases ho with⟨t,cc,rfl,h1,h2,h3⟩|⟨rfl,h1,h2⟩
   ·by_cases ht:t=some id
    ·subst ht
     rw[hg] at h1
     obtain⟨rfl,rfl⟩:c=cc∧y=x:=by cases h1;exact⟨rfl,rfl⟩
     have hall:Ayo (Mb (some id) A.outs):=fun t' c' s' hg'=>by
      rw[Jp] at hg'
      split at hg'
      ·cases hg'
      ·rename_i hne
       exact h3 t' c' s' hne hg'
     show Exit.inBlock id Q (.exit id) a' R'
     unfold Exit.inBlock
     simp only[if_true]
     cases hn:A.nrm with
     |none=>
      rw[hn] at hk'
      exact hk' .normal y a' R' (.inr ⟨rfl,rfl,hall⟩) hz
     |some z=>
      rw[hn] at hk'
      have:=O2 (g:=By c) h (hwf.outs _ _ _ hg) (hwf.nrm _ hn) (by rw[h2];rfl) _ _ hr
      exact hk' .normal _ a' R' (.inr ⟨rfl,rfl,hall⟩) (At.over h hW this)
    ·have ho':AP t (Mb (some id) A.outs)=some (cc,x):=by rw[Jp,if_neg ht];exact h1
     have:=hk' (Tag.ex t) x a' R' (.inl ⟨t,cc,rfl,ho',h2,fun t' c' s' hne hg'=>by
      rw[Jp] at hg'
      split at hg'
      ·cases hg'
      ·exact h3 t' c' s' hne hg'⟩) hz
     cases t with
     |none=>exact this
     |some i=>
      have hne:i≠id:=fun e=>ht (by rw[e])
      show Exit.inBlock id Q (.exit i) a' R'
      unfold Exit.inBlock
      simp only[hne,if_false]
      exact this
   ·have hall:Ayo (Mb (some id) A.outs):=fun t' c' s' hg'=>by
     rw[Jp] at hg'
     split at hg'
     ·cases hg'
     ·exact h2 t' c' s' hg'
    rw[h1] at hk'
    have:=O2 (g:=By c) h (hwf.outs _ _ _ hg) (hwf.nrm _ h1) (by rw[h2 _ _ _ hg];rfl) _ _ hr
    exact hk' .normal _ a' R' (.inr ⟨rfl,rfl,hall⟩) (At.over h hW this)
 | l, .loop b,_=>fun Z s a R Q h hW hp hk=>by
  unfold QU at hp hk
  cases hL:E.L l s with
  |some r=>
   obtain⟨b0,ps,outs⟩:=r
   rw[hL] at hp hk
   have hb:b=b0:=hp _ (List.mem_cons_self ..)
   subst hb
   obtain⟨F,N,h⟩:=h
   refine(ok.loops _ _ _ _ _ hL).2 Z F N a R Q h hW (fun p hm=>hp p (List.mem_cons_of_mem _ hm)) fun e x F' N' a' R' ho hr=>hk e x a' R' ?_ ⟨F',N',hr⟩
   rcases ho with⟨t,c,rfl,h1,h2,h3⟩|⟨rfl,h1,h2⟩
   ·exact .inl ⟨t,c,rfl,h1,h2,h3⟩
   ·cases h1
  |none=>
  rw[hL] at hp hk
  have key:∀(n:Nat) (Z:Base) (s:St) (a:Act) (R:World) (Q:Exit→Act→World→Prop),At Z a R s→(∀u,NK u (QV b)=true→Z.W u)→(∀p∈(Ajs (QV b) (QU E u 0 b true) n s).ps,p)→(∀e x a' R',Oc (Ajs (QV b) (QU E u 0 b true) n s) e x→At Z a' R' x→Q e a' R')→
    Code.rounds E.P b Q n a R:=fun n=>by
   induction n with
   |zero=>intro Z s a R Q h hW hp hk;exact(hp (Vq 1000000) (List.mem_singleton.2 rfl)).elim
   | succ n ih=>
    intro Z s a R Q h hW hp hk
    rw[rounds_succ]
    unfold Ajs at hp hk
    cases hn:(QU E u 0 b true s).nrm with
    | none=>
     rw[hn] at hp hk
     refine H0 ok 0 b true Z s a R _ h hW hp fun e x a' R' ho hr=>?_
     have:=hk e x a' R' ho hr
     rcases ho with⟨t,cc,rfl,_,_,_⟩|⟨rfl,h1,_⟩
     ·cases t<;>exact this
     ·rw[hn] at h1
      cases h1
    |some s1=>
     rw[hn] at hp hk
     obtain⟨F,N,h⟩:=h
     exact Ax7 (fun s=>Fp ok 0 b true s) (H0 ok 0 b true) h hW (fun u hu=>hu) hn (At3 (fun s=>Fp ok 0 b true s) n s1) hp hk fun a' R' hr hp' hk'=>ih _ s1 a' R' Q hr (fun u hu=>hu) hp' hk'
  exact wp_loop_rounds u (key u Z s a R Q h hW hp hk)
 | _,.exit id,_=>fun Z s a R Q h _ _ hk=>wp_exit (hk _ s a R (.inl ⟨some id,none,rfl,by show(bif EX (some id) (some id) then some (none,s) else none)=_;rw[QR];rfl,rfl,fun t' c x hne hg=>by
   have h':(bif EX (some id) t' then some (none,s) else none)=some (c,x):=hg
   rw[UY (Ne.symm hne)] at h'
   cases h'⟩) h)
 | _,.ret,_=>fun Z s a R Q h _ _ hk=>wp_ret (hk _ s a R (.inl ⟨none,none,rfl,rfl,rfl,fun t' c x hne hg=>by
   have h':(bif EX none t' then some (none,s) else none)=some (c,x):=hg
   rw[UY (Ne.symm hne)] at h'
   cases h'⟩) h)
 |_,.rangeFunc _ _ _ _,_=>fun Z s a R Q _ _ hp _=>(hp (Vq 1000002) (List.mem_singleton.2 rfl)).elim
 | _,.scope b,_=>fun Z s a R Q h hW hp hk=>wp_scope_straight (H0 ok 0 b false Z s a R _ h hW hp fun e x a' R' ho hr=>by
   have:=hk e x a' R' ho hr
   rcases ho with⟨t,c,rfl,_⟩|⟨rfl,_⟩
   ·cases t<;>exact this
   ·exact this)
 |_,.label _,_=>fun Z s a R Q h _ _ hk=>wp_label (hk .normal s a R (.inr ⟨rfl,rfl,fun t c x hg=>by cases hg⟩) h)
 |_,.goto _,_=>fun Z s a R Q _ _ hp _=>(hp (Vq 1000002) (List.mem_singleton.2 rfl)).elim
 |_,.refuse _,_=>fun Z s a R Q _ _ hp _=>(hp (Vq 1000002) (List.mem_singleton.2 rfl)).elim
end Go.Proofs.Yteebobbhhgmeiaa
namespace Go.Proofs.Yteebobbhhgmeiaa
open Go.RowKit
mutual
def A.pk (ρ:Nat→Option Nat):A→A
 | .own i off=>match ρ i with
  |some j=> .own j off
  |none=> .dead
 | .ownx i base len k=>match ρ i with
  |some j=> .ownx j base len k
  |none=> .dead
 | .sq i=>match ρ i with
  |some j=> .sq j
  |none=> .dead
 | .vw i size lo n full=>match ρ i with
  |some j=> .vw j size lo n full
  |none=> .dead
 | .el i k size off=>match ρ i with
  |some j=> .el j k size off
  |none=> .dead
 | .mp i=>match ρ i with
  |some j=> .mp j
  |none=> .dead
 | .dq i=>match ρ i with
  |some j=> .dq j
  |none=> .dead
 | .iv i k=>match ρ i with
  |some j=> .iv j k
  |none=> .dead
 | .de i k size off=>match ρ i with
  |some j=> .de j k size off
  |none=> .dead
 | .ie i k m size off=>match ρ i with
  |some j=> .ie j k m size off
  |none=> .dead
 | .fn f first caps=> .fn f (pkL ρ first) (pkL ρ caps)
 | .agg xs=> .agg (pkL ρ xs)
 | .tup xs=> .tup (pkL ρ xs)
 | .ref l=> .ref (pkL ρ l)
 | .opt u b x=> .opt u b (x.pk ρ)
 | .v x=> .v x
 | .sl c l=> .sl c l
 | .nl=> .nl
 | .it q vs=> .it q vs
 | .dead=> .dead
def pkL (ρ:Nat→Option Nat):List A→List A
 | []=>[]
 |x::r=>x.pk ρ::pkL ρ r
end
theorem Ro {ρ:Nat→Option Nat}:∀{l:List A} {j:Nat} {x:A},(pkL ρ l)[j]?=some x→∃y,l[j]?=some y∧x=y.pk ρ
 | [],j,x,h=>by unfold pkL at h;cases j<;>cases h
 |y::r,0,x,h=>by unfold pkL at h;cases h;exact⟨y,rfl,rfl⟩
 |y::r,j+1,x,h=>by unfold pkL at h;exact Ro (l:=r) h
theorem M8 {ρ:Nat→Option Nat}:∀l:List A,(pkL ρ l).length=l.length
 | []=>by unfold pkL;rfl
 |y::r=>by unfold pkL;rw[List.length_cons,List.length_cons,M8 r]
theorem Ark (ρ:Nat→Option Nat) (c:TC) (d:U c):∀x∈enc c d,x.pk ρ=x:=fun x hx=>by
 have:=PK c d x hx
 cases x<;>first|(unfold A.pk;rfl)|exact this.elim
def Pk (ρ:Nat→Option Nat) (N:Nm) (nx:Nat) (N':Nm) (nx':Nat):Prop:=∀i j,i <nx→ρ i=some j→j <nx'∧N'.b j=N.b i∧N'.q j=N.q i
section
variable {F:Nat→Prop} {N N':Nm} {nx nx':Nat} {R:World} {ρ:Nat→Option Nat}
theorem Hv.pk (st:Pk ρ N nx N' nx') {x:A} {y:Value} (h:Hv F N nx R x y):Hv F N' nx' R (x.pk ρ) y:=by
 induction h with
 |v x=>unfold A.pk;exact .v x
 | @sl c l a cap ad h1 h2 h3 h4 ih=>
  unfold A.pk
  refine .sl ad h1 h2 h3 (fun i d j x y hd hx hy=>?_)
  have:=ih i d j x y hd hx hy
  rwa[Ark ρ c d x (List.mem_of_getElem? hx)] at this
 | @ref l ad h1 h2 h3 ih=>
  unfold A.pk
  refine .ref ad h1 (fun j x hx=>?_) (fun j x y hx hy=>?_)
  ·obtain⟨z,hz,rfl⟩:=Ro hx;exact h2 j z hz
  ·obtain⟨z,hz,rfl⟩:=Ro hx;exact ih j z y hz hy
 | own h=>
  unfold A.pk
  split
  ·rename_i j hj
   obtain⟨h1,h2,_⟩:=st _ _ h hj
   rw[←h2];exact .own h1
  ·exact .dead _
 | ownx h=>
  unfold A.pk
  split
  ·rename_i j hj
   obtain⟨h1,h2,_⟩:=st _ _ h hj
   rw[←h2];exact .ownx h1
  ·exact .dead _
 | sq h=>
  unfold A.pk
  split
  ·rename_i j hj
   obtain⟨h1,_,h2⟩:=st _ _ h hj
   rw[←h2];exact .sq h1
  ·exact .dead _
 | vw h h1 h2 h3=>
  unfold A.pk
  split
  ·rename_i j hj
   obtain⟨k1,_,k2⟩:=st _ _ h hj
   exact .vw k1 h1 h2 (fun hn=>by rw[k2];exact h3 hn)
  ·exact .dead _
 | el h=>
  unfold A.pk
  split
  ·rename_i j hj
   obtain⟨h1,_,h2⟩:=st _ _ h hj
   rw[←h2];exact .el h1
  ·exact .dead _
 | dq h=>
  unfold A.pk
  split
  ·rename_i j hj
   obtain⟨h1,_,h2⟩:=st _ _ h hj
   rw[←h2];exact .dq h1
  ·exact .dead _
 | iv h=>
  unfold A.pk
  split
  ·rename_i j hj
   obtain⟨h1,_,h2⟩:=st _ _ h hj
   rw[←h2];exact .iv h1
  ·exact .dead _
 | de h=>
  unfold A.pk
  split
  ·rename_i j hj
   obtain⟨h1,_,h2⟩:=st _ _ h hj
   rw[←h2];exact .de h1
  ·exact .dead _
 | ie h=>
  unfold A.pk
  split
  ·rename_i j hj
   obtain⟨h1,_,h2⟩:=st _ _ h hj
   rw[←h2];exact .ie h1
  ·exact .dead _
 | mp h=>
  unfold A.pk
  split
  ·rename_i j hj
   obtain⟨h1,h2,_⟩:=st _ _ h hj
   rw[←h2];exact .mp h1
  ·exact .dead _
 |nl a=>unfold A.pk;exact .nl a
 |it q vs y h=>unfold A.pk;exact .it q vs y h
 |fn vs us h1 _ h3 _ ih2 ih4=>
  unfold A.pk
  exact .fn vs us (by rw[M8];exact h1) (fun j x v hx hv=>by obtain⟨z,hz,rfl⟩:=Ro hx;exact ih2 j z v hz hv) (by rw[M8];exact h3) (fun j x v hx hv=>by obtain⟨z,hz,rfl⟩:=Ro hx;exact ih4 j z v hz hv)
 |agg vs h1 _ ih=>unfold A.pk;exact .agg vs (by rw[M8];exact h1) (fun j x v hx hv=>by obtain⟨z,hz,rfl⟩:=Ro hx;exact ih j z v hz hv)
 |tup vs h1 _ ih=>unfold A.pk;exact .tup vs (by rw[M8];exact h1) (fun j x v hx hv=>by obtain⟨z,hz,rfl⟩:=Ro hx;exact ih j z v hz hv)
 |dead y=>unfold A.pk;exact .dead y
theorem HL.pk (st:Pk ρ N nx N' nx'):∀{xs:List A} {vs:List Value},HL F N nx R xs vs→HL F N' nx' R (pkL ρ xs) vs
 | [],_,h=>by unfold pkL;exact h
 |x::r,_,⟨v,vs,h1,h2,h3⟩=>by
  unfold pkL
  exact⟨v,vs,h1,h2.pk st,HL.pk st h3⟩
end
def Els.pk (ρ:Nat→Option Nat):Els→Els
 | .lst cs=> .lst (cs.map (pkL ρ))
 | .ty c l=> .ty c l
def Ob.pk (ρ:Nat→Option Nat):Ob→Ob
 | .box e cs=> .box e (pkL ρ cs)
 | .arr e size els=> .arr e size (els.pk ρ)
 | .map k v l=> .map k v l
 | .sit s pos=> .sit s pos
 | .deep e c l=> .deep e c l
theorem Ase (ρ:Nat→Option Nat) (c:TC) (d:U c):pkL ρ (enc c d)=enc c d:=by
 have:∀l:List A,(∀x∈l,x.pk ρ=x)→pkL ρ l=l:=fun l=>by
  induction l with
  |nil=>intro _;unfold pkL;rfl
  |cons x r ih=>intro h;unfold pkL;rw[h x (List.mem_cons_self ..),ih fun y hy=>h y (List.mem_cons_of_mem _ hy)]
 exact this _ (Ark ρ c d)
theorem Bcl (ρ:Nat→Option Nat) (c:TC) (d:U c):(Aq c d).pk ρ=Aq c d:=by
 unfold Aq
 cases c.isAgg with
 |true=>
  show(SJ (enc c d)).pk ρ=SJ (enc c d)
  unfold SJ
  split
  ·unfold A.pk;rfl
  ·unfold A.pk;rw[Ase]
 |false=>
  have hp:=Ark ρ c d
  simp only[cond_false]
  generalize enc c d=l at hp⊢
  cases l with
  |nil=>unfold A.pk;rfl
  |cons x r=>exact hp x (List.mem_cons_self ..)
section
variable {F:Nat→Prop} {N N':Nm} {nx nx':Nat} {o o':Objs} {R:World} {ρ:Nat→Option Nat} {i j:Nat} {ob:Ob}
theorem ObR.pk (st:Pk ρ N nx N' nx') (hi:i <nx) (hj:ρ i=some j) (h:ObR F N nx R i ob):ObR F N' nx' R j (ob.pk ρ):=by
 obtain⟨_,sb,sq⟩:=st i j hi hj
 cases ob with
 |box e cs=>
  obtain⟨vs,h1,h2⟩:=h
  exact⟨vs,h1.pk st,by rw[sb];exact h2⟩
 | arr e size els=>
  obtain⟨zs,h1,h2⟩:=h
  cases els with
  |lst cs=>
   have hn:(Els.pk ρ (.lst cs)).n=cs.length:=by simp[Els.pk,Els.n]
   refine⟨zs,by rw[sq,hn];exact h1,fun k hk=>?_⟩
   rw[hn] at hk
   have:=(h2 k hk).pk st
   show HL F N' nx' R (IG (cs.map (pkL ρ)) k) _
   rw[Ej,List.getD_eq_getElem?_getD,List.getElem?_map]
   have h3:(Els.lst cs).nth k=cs.getD k []:=Ej cs k
   rw[h3,List.getD_eq_getElem?_getD] at this
   have hk':cs[k]?=some cs[k]:=List.getElem?_eq_getElem hk
   rw[hk'] at this⊢
   exact this
  |ty c l=>
   refine⟨zs,by rw[sq];exact h1,fun k hk=>?_⟩
   have:=(h2 k hk).pk st
   have e:pkL ρ ((Els.ty c l).nth k)=(Els.ty c l).nth k:=Ase ρ c _
   rw[e] at this
   exact this
 |map k v l=>
  obtain⟨es,cl,h1,h2,h3⟩:=h
  refine⟨es,cl,by rw[sb];exact h1,h2,fun j p e hp he=>⟨(h3 j p e hp he).1,?_⟩⟩
  have:=(h3 j p e hp he).2.pk st
  rwa[Bcl] at this
 |sit s pos=>
  show R.heap[N'.b j]?=_
  rw[sb]
  exact h
 | deep e c l=>
  obtain⟨col,c',zs,h1,h2,h3,h4,h5⟩:=h
  have hj':=(st i j hi hj).1
  refine⟨col,c',zs,h1,by rw[sq];exact h2,fun k d hd=>?_,fun k d hd=>?_,by rw[sq];exact h5⟩
  ·have go:∀(cs:List A) (vs:List Value),(∀x∈cs,x.pk ρ=x)→HL F N nx R (Mn i k cs) vs→HL F N' nx' R (Mn j k cs) vs:=fun cs=>by
    induction cs with
    |nil=>intro vs _ hh;rw[hh.inv0];exact HL.nil
    | cons x r ih=>
     intro vs hc hh
     have hx:=hc x (List.mem_cons_self ..)
     have hr:=fun y hy=>hc y (List.mem_cons_of_mem _ hy)
     cases x
     case sl c2 l2=>
      obtain⟨w,ws,rfl,w1,w2⟩:=hh.inv
      rw[w1.iv_inv.2,←sq]
      exact HL.cons (.iv hj') (ih ws hr w2)
     all_goals
      obtain⟨w,ws,rfl,w1,w2⟩:=hh.inv
      have w3:=w1.pk st
      rw[hx] at w3
      exact HL.cons w3 (ih ws hr w2)
   exact go _ _ (Ark ρ c d) (h3 k d hd)
  ·obtain⟨l',e',us,k1,k2,k3⟩:=h4 k d hd
   refine⟨l',e',us,k1,by rw[sq];exact k2,fun m hm=>?_⟩
   have:=(k3 m hm).pk st
   rwa[Ase] at this
theorem Yr (st:Pk ρ N nx N' nx') (hi:i <nx) (hj:ρ i=some j) {g:Nat}:foot N' j (ob.pk ρ) g↔foot N i ob g:=by
 obtain⟨_,sb,sq⟩:=st i j hi hj
 cases ob<;>simp only[foot,Ob.pk,sb,sq]
theorem HRel.pk (h:HRel F N nx o R) (st:Pk ρ N nx N' nx') (ho:∀j ob',As j o'=some ob'→∃i ob,ρ i=some j∧As i o=some ob∧ob'=ob.pk ρ):HRel F N' nx' o' R∧∀g,Foot N' o' g→Foot N o g:=by
 refine⟨⟨h.flt,fun j ob' hj=>?_,fun j ob' g hj hg=>?_,fun j k x y g hj hk hx hy=>?_⟩,fun g ⟨j,ob',hj,hg⟩=>?_⟩
 ·obtain⟨i,ob,h1,h2,rfl⟩:=ho j ob' hj
  obtain⟨h3,h4⟩:=h.ob i ob h2
  exact⟨(st i j h3 h1).1,h4.pk st h3 h1⟩
 ·obtain⟨i,ob,h1,h2,rfl⟩:=ho j ob' hj
  exact h.ff i ob g h2 ((Yr st (h.ob i ob h2).1 h1).1 hg)
 ·obtain⟨i,ob,h1,h2,rfl⟩:=ho j x hj
  obtain⟨i',ob',k1,k2,rfl⟩:=ho k y hk
  have:=h.sep i i' ob ob' g h2 k2 ((Yr st (h.ob i ob h2).1 h1).1 hx) ((Yr st (h.ob i' ob' k2).1 k1).1 hy)
  subst this
  rw[h1] at k1
  exact Option.some.inj k1
 ·obtain⟨i,ob,h1,h2,rfl⟩:=ho j ob' hj
  exact⟨i,ob,h2,(Yr st (h.ob i ob h2).1 h1).1 hg⟩
end
abbrev Hl:=List (Nat×Nat)
def fwd:Hl→Nat→Option Nat
 | [],_=>none
 |(k,j)::r,i=>bif Nat.beq k i then some j else fwd r i
def bck:Hl→Nat→Option Nat
 | [],_=>none
 |(k,j)::r,i=>bif Nat.beq j i then some k else bck r i
def Vm (nb:Nat) (L:Hl) (i:Nat):Option Nat:=bif Nat.blt i nb then some i else fwd L i
def Ajb (nb:Nat) (L:Hl) (j:Nat):Nat:=bif Nat.blt j nb then j else match bck L j with
 |some k=>k
 |none=>0
def Oq (nb nx':Nat):Hl→Bool
 | []=>true
 |(k,j)::r=>Nat.ble nb k&&(Nat.ble nb j&&(Nat.blt j nx'&&(isNone (fwd r k)&&(isNone (bck r j)&&Oq nb nx' r))))
theorem WC {o:Option Nat}:isNone o=true↔o=none:=by cases o<;>simp[isNone]
theorem A28 {nb nx':Nat}:∀{L:Hl} {i j:Nat},Oq nb nx' L=true→fwd L i=some j→bck L j=some i∧nb≤i∧nb≤j∧j <nx'
 | [],i,j,_,h=>by cases h
 | (k,m)::r,i,j,h0,h=>by
  unfold Oq at h0
  simp only[Bool.and_eq_true] at h0
  obtain⟨a1,a2,a3,a4,a5,a6⟩:=h0
  unfold fwd at h
  cases hb:Nat.beq k i with
  |true=>
   rw[hb] at h
   cases h
   obtain rfl:=Nat.eq_of_beq_eq_true hb
   refine⟨?_,Nat.le_of_ble_eq_true a1,Nat.le_of_ble_eq_true a2,Nat.le_of_ble_eq_true a3⟩
   unfold bck
   rw[Lu]
   rfl
  | false=>
   rw[hb] at h
   obtain⟨h1,h2⟩:=A28 a6 h
   refine⟨?_,h2⟩
   unfold bck
   cases hm:Nat.beq m j with
   |true=>
    obtain rfl:=Nat.eq_of_beq_eq_true hm
    rw[WC.1 a5] at h1
    cases h1
   |false=>exact h1
def nm2 (N:Nm) (nb:Nat) (L:Hl):Nm:=⟨fun j=>N.b (Ajb nb L j),fun j=>N.q (Ajb nb L j)⟩
theorem Bbg {nb nx':Nat} {L:Hl} (h0:Oq nb nx' L=true) {i j:Nat} (h:Vm nb L i=some j):Ajb nb L j=i∧(i <nb∧j=i∨nb≤i∧nb≤j∧j <nx'):=by
 unfold Vm at h
 cases hb:Nat.blt i nb with
 |true=>
  rw[hb] at h
  cases h
  refine⟨?_,.inl ⟨Nat.le_of_ble_eq_true hb,rfl⟩⟩
  unfold Ajb
  rw[hb]
  rfl
 | false=>
  rw[hb] at h
  obtain⟨h1,h2,h3,h4⟩:=A28 h0 h
  refine⟨?_,.inr ⟨h2,h3,h4⟩⟩
  unfold Ajb
  have:Nat.blt j nb=false:=by
   cases hj:Nat.blt j nb with
   |false=>rfl
   |true=>exact absurd (Nat.le_of_ble_eq_true hj) (by omega)
  rw[this,h1]
  rfl
theorem pk2 {N:Nm} {nb n nx':Nat} {L:Hl} (h0:Oq nb nx' L=true) (hnb:nb≤nx'):Pk (Vm nb L) N n (nm2 N nb L) nx':=fun i j _ hj=>by
 obtain⟨h1,h2⟩:=Bbg h0 hj
 refine⟨?_,by show N.b (Ajb nb L j)=_;rw[h1],by show N.q (Ajb nb L j)=_;rw[h1]⟩
 rcases h2 with⟨h2,rfl⟩|⟨_,_,h2⟩
 ·omega
 ·exact h2
def Awq (nb:Nat) (L:Hl) (o:Objs):Hl→Objs
 | []=>[]
 |(k,j)::r=>(j,match As k o with
  |some ob=>some (ob.pk (Vm nb L))
  |none=>none)::Awq nb L o r
def Ad0 (nb:Nat) (L:Hl) (o:Objs):List Nat→Objs
 | []=>[]
 |k::r=>bif Nat.blt k nb then(k,match As k o with
  |some ob=>some (ob.pk (Vm nb L))
  |none=>none)::Ad0 nb L o r else Ad0 nb L o r
theorem Adq {nb:Nat} {L:Hl} {o:Objs} {j:Nat} {ob':Ob}:∀{r:Hl},As j (Awq nb L o r)=some ob'→∃k ob,(k,j)∈r∧As k o=some ob∧ob'=ob.pk (Vm nb L)
 | [],h=>by cases h
 | (k,m)::r,h=>by
  unfold Awq at h
  have h':(bif Nat.beq m j then(match As k o with|some ob=>some (ob.pk (Vm nb L))|none=>none) else As j (Awq nb L o r))=some ob':=h
  cases hb:Nat.beq m j with
  |true=>
   rw[hb] at h'
   obtain rfl:=Nat.eq_of_beq_eq_true hb
   simp only[cond_true] at h'
   split at h'<;>first|(cases h';done)|skip
   rename_i ob hob
   cases h'
   exact⟨k,ob,List.mem_cons_self ..,hob,rfl⟩
  |false=>
   rw[hb] at h'
   obtain⟨k',ob,h1,h2⟩:=Adq h'
   exact⟨k',ob,List.mem_cons_of_mem _ h1,h2⟩
theorem Tm {nb:Nat} {L:Hl} {o:Objs} {j:Nat} {ob':Ob}:∀{r:List Nat},As j (Ad0 nb L o r)=some ob'→j <nb∧∃ob,As j o=some ob∧ob'=ob.pk (Vm nb L)
 | [],h=>by cases h
 | k::r,h=>by
  unfold Ad0 at h
  cases hk:Nat.blt k nb with
  |false=>rw[hk] at h;exact Tm h
  | true=>
   rw[hk] at h
   have h':(bif Nat.beq k j then(match As k o with|some ob=>some (ob.pk (Vm nb L))|none=>none) else As j (Ad0 nb L o r))=some ob':=h
   cases hb:Nat.beq k j with
   |true=>
    rw[hb] at h'
    obtain rfl:=Nat.eq_of_beq_eq_true hb
    simp only[cond_true] at h'
    split at h'<;>first|(cases h';done)|skip
    rename_i ob hob
    cases h'
    exact⟨Nat.le_of_ble_eq_true hk,ob,hob,rfl⟩
   |false=>rw[hb] at h';exact Tm h'
theorem S7 {nb:Nat} {L:Hl} {o:Objs} {j:Nat} (hj:j <nb):∀{r:List Nat},j∈r→j∈I8 (Ad0 nb L o r)
 | [],h=>by cases h
 | k::r,h=>by
  unfold Ad0
  rcases List.mem_cons.1 h with rfl|h
  ·rw[show Nat.blt j nb=true from Nat.ble_eq_true_of_le hj]
   exact List.mem_cons_self ..
  ·cases Nat.blt k nb with
   |true=>exact List.mem_cons_of_mem _ (S7 hj h)
   |false=>exact S7 hj h
theorem LE {i:Nat} {ob:Ob} {A B:Objs} (h:As i (A++B)=some ob):(i∈I8 A∧As i A=some ob)∨(i∉I8 A∧As i B=some ob):=by
 by_cases hk:i∈I8 A
 ·rw[Tl hk] at h;exact .inl ⟨hk,h⟩
 ·rw[Il hk] at h;exact .inr ⟨hk,h⟩
theorem Bb3 {nb nx':Nat}:∀{L:Hl} {k j:Nat},Oq nb nx' L=true→(k,j)∈L→Vm nb L k=some j
 | [],k,j,_,h=>by cases h
 | (a,b)::r,k,j,h0,h=>by
  have h00:=h0
  unfold Oq at h0
  simp only[Bool.and_eq_true] at h0
  obtain⟨a1,a2,a3,a4,a5,a6⟩:=h0
  have hge:∀{L:Hl} {k j:Nat},Oq nb nx' L=true→(k,j)∈L→nb≤k:=fun {L}=>by
   induction L with
   |nil=>intro k j _ h;cases h
   |cons p r ih=>
    intro k j h0 h
    obtain⟨x,y⟩:=p
    unfold Oq at h0
    simp only[Bool.and_eq_true] at h0
    rcases List.mem_cons.1 h with e|h
    ·cases e;exact Nat.le_of_ble_eq_true h0.1
    ·exact ih h0.2.2.2.2.2 h
  have hk:Nat.blt k nb=false:=by
   cases hb:Nat.blt k nb with
   |false=>rfl
   |true=>exact absurd (hge h00 h) (by have:=Nat.le_of_ble_eq_true hb;omega)
  have ih:∀{L:Hl} {k j:Nat},Oq nb nx' L=true→(k,j)∈L→fwd L k=some j:=fun {L}=>by
   induction L with
   |nil=>intro k j _ h;cases h
   | cons p r ih=>
    intro k j h0 h
    obtain⟨x,y⟩:=p
    unfold Oq at h0
    simp only[Bool.and_eq_true] at h0
    obtain⟨_,_,_,b4,_,b6⟩:=h0
    unfold fwd
    rcases List.mem_cons.1 h with e|h
    ·cases e;rw[Lu];rfl
    ·have h1:=ih b6 h
     cases hb:Nat.beq x k with
     |true=>
      obtain rfl:=Nat.eq_of_beq_eq_true hb
      rw[WC.1 b4] at h1
      cases h1
     |false=>exact h1
  unfold Vm
  rw[hk]
  exact ih h00 h
section
variable {F:Nat→Prop} {N:Nm} {nx:Nat} {o:Objs} {R:World} {ρ:Nat→Option Nat}
theorem Akw {xs:List A} (h:∀(j:Nat) (x:A),xs[j]?=some x→x.pk ρ=x):pkL ρ xs=xs:=by
 induction xs with
 |nil=>unfold pkL;rfl
 |cons x r ih=>unfold pkL;rw[h 0 x rfl,ih fun j y hy=>h (j+1) y hy]
theorem Hv.pk_id (hρ:∀k,k <nx→ρ k=some k) {x:A} {y:Value} (h:Hv F N nx R x y):x.pk ρ=x:=by
 induction h with
 |v x=>unfold A.pk;rfl
 |sl=>unfold A.pk;rfl
 | @ref l ad h1 h2 h3 ih=>
  unfold A.pk
  rw[Akw fun j x hx=>by obtain⟨y,hy⟩:=h2 j x hx;exact ih j x y hx hy]
 |own h=>unfold A.pk;rw[hρ _ h]
 |ownx h=>unfold A.pk;rw[hρ _ h]
 |sq h=>unfold A.pk;rw[hρ _ h]
 |vw h=>unfold A.pk;rw[hρ _ h]
 |el h=>unfold A.pk;rw[hρ _ h]
 |dq h=>unfold A.pk;rw[hρ _ h]
 |iv h=>unfold A.pk;rw[hρ _ h]
 |de h=>unfold A.pk;rw[hρ _ h]
 |ie h=>unfold A.pk;rw[hρ _ h]
 |mp h=>unfold A.pk;rw[hρ _ h]
 |nl a=>unfold A.pk;rfl
 |it q vs y h=>unfold A.pk;rfl
 | @fn f first caps vs us h1 _ h3 _ ih2 ih4=>
  unfold A.pk
  have e1:pkL ρ first=first:=Akw fun j x hx=>by
   have hj:j <vs.length:=by rw[h1];exact(List.getElem?_eq_some_iff.1 hx).1
   exact ih2 j x _ hx (List.getElem?_eq_getElem hj)
  have e2:pkL ρ caps=caps:=Akw fun j x hx=>by
   have hj:j <us.length:=by rw[h3];exact(List.getElem?_eq_some_iff.1 hx).1
   exact ih4 j x _ hx (List.getElem?_eq_getElem hj)
  rw[e1,e2]
 | @agg xs vs h1 _ ih=>
  unfold A.pk
  rw[Akw fun j x hx=>by
   have hj:j <vs.length:=by rw[h1];exact(List.getElem?_eq_some_iff.1 hx).1
   exact ih j x _ hx (List.getElem?_eq_getElem hj)]
 | @tup xs vs h1 _ ih=>
  unfold A.pk
  rw[Akw fun j x hx=>by
   have hj:j <vs.length:=by rw[h1];exact(List.getElem?_eq_some_iff.1 hx).1
   exact ih j x _ hx (List.getElem?_eq_getElem hj)]
 |dead y=>unfold A.pk;rfl
theorem HL.pk_id (hρ:∀k,k <nx→ρ k=some k):∀{xs:List A} {vs:List Value},HL F N nx R xs vs→pkL ρ xs=xs
 | [],_,_=>by unfold pkL;rfl
 |x::r,_,⟨v,vs,_,h2,h3⟩=>by unfold pkL;rw[h2.pk_id hρ,HL.pk_id hρ h3]
theorem HRel.pk_id (h:HRel F N nx o R) (hρ:∀k,k <nx→ρ k=some k) {i:Nat} {ob:Ob} (hi:As i o=some ob):ob.pk ρ=ob:=by
 obtain⟨_,h2⟩:=h.ob i ob hi
 cases ob with
 |box e cs=>
  obtain⟨vs,h1,_⟩:=h2
  show Ob.box e (pkL ρ cs)=_
  rw[h1.pk_id hρ]
 |deep e c l=>rfl
 | arr e size els=>
  cases els with
  |ty c l=>rfl
  | lst cs=>
   obtain⟨zs,_,h3⟩:=h2
   show Ob.arr e size (.lst (cs.map (pkL ρ)))=_
   congr 2
   apply List.ext_getElem?
   intro k
   rw[List.getElem?_map]
   cases hk:cs[k]? with
   |none=>rfl
   | some c=>
    have hk':k <cs.length:=(List.getElem?_eq_some_iff.1 hk).1
    have:=(h3 k hk').pk_id hρ
    have e:(Els.lst cs).nth k=c:=by
     show IG cs k=c
     rw[Ej,List.getD_eq_getElem?_getD,hk]
     rfl
    rw[e] at this
    exact congrArg some this
 |map k v l=>rfl
 |sit s pos=>rfl
end
def Ph (nb:Nat) (L:Hl) (o ob:Objs):Objs:=Awq nb L o L++(Ad0 nb L o (Aj3 o ob.length)++ob)
theorem A42 {F:Nat→Prop} {N:Nm} {nb n nx':Nat} {o ob d:Objs} {R:World} {L:Hl} (h:HRel F N n o R) (h0:Oq nb nx' L=true) (hnb:nb≤nx') (hd:o=d++ob) {F0:Nat→Prop} {N0:Nm} {R0:World} (hb:HRel F0 N0 nb ob R0):
  HRel F (nm2 N nb L) nx' (Ph nb L o ob) R∧∀g,Foot (nm2 N nb L) (Ph nb L o ob) g→Foot N o g:=by
 have small:∀k,k <nb→Vm nb L k=some k:=fun k hk=>by unfold Vm;rw[show Nat.blt k nb=true from Nat.ble_eq_true_of_le hk];rfl
 refine h.pk (pk2 h0 hnb) fun j ob' hj=>?_
 unfold Ph at hj
 rcases LE hj with⟨_,h1⟩|⟨_,h1⟩
 ·obtain⟨k,x,h2,h3,h4⟩:=Adq h1
  exact⟨k,x,Bb3 h0 h2,h3,h4⟩
 ·rcases LE h1 with⟨_,h2⟩|⟨h2,h3⟩
  ·obtain⟨h3,x,h4,h5⟩:=Tm h2
   exact⟨j,x,small j h3,h4,h5⟩
  ·have h4:=(hb.ob j ob' h3).1
   refine⟨j,ob',small j h4,?_,(hb.pk_id small h3).symm⟩
   subst hd
   rw[WD fun hm=>h2 (S7 h4 hm)]
   exact h3
end Go.Proofs.Yteebobbhhgmeiaa
namespace Go.Proofs.Yteebobbhhgmeiaa
open Go.RowKit
def Beu (E:Env) (s:St):ResultVar→R2
 | .tmp t=>match s.ev [] (.tmp t) with
  |some x=>some (x,[])
  |none=>none
 | .cell a t=>YS E s [] t (.tmp a)
def A84 (E:Env) (s:St):List ResultVar→Option (List A×List Prop)
 | []=>some ([],[])
 | r::rs=>match Beu E s r with
  |some (v,ps)=>match A84 E s rs with
   |some (vs,qs)=>some (v::vs,ps++qs)
   |none=>none
  |none=>none
def A1o:List A→A
 | [x]=>x
 |l=>match As9 l with
  |some vs=> .v (.tuple vs.toArray)
  |none=> .tup l
def A90:List Value→Value
 | [v]=>v
 |l=> .tuple l.toArray
def Bet (tmps:Array Value):ResultVar→Sem Value
 | .tmp t=>pure (tmps.getD t undef)
 | .cell a t=>do loadVar t (←asAddr (tmps.getD a undef))
theorem A07 (fn:Func) (tmps:Array Value):results fn tmps=(do let vs ←fn.results.mapM (Bet tmps);pure (if h:vs.size=1 then vs[0] else .tuple vs)):=rfl
section
variable {E:Env} {Z:Base} {F:Nat→Prop} {N:Nm} {s:St} {a:Act} {R:World}
theorem Bci {nx:Nat} {l:List A} {vs:List Value} (h:HL F N nx R l vs):Hv F N nx R (A1o l) (A90 vs):=by
 match l,h with
 | [],h=>
  rw[h.inv0]
  exact .v _
 | [x],h=>
  obtain⟨v,us,rfl,h2,h3⟩:=h.inv
  rw[h3.inv0]
  exact h2
 | x::y::r,h=>
  obtain⟨v,us,rfl,h2,h3⟩:=h.inv
  obtain⟨w,ws,rfl,h4,h5⟩:=h3.inv
  show Hv F N nx R (match As9 (x::y::r) with|some vs=> .v (.tuple vs.toArray)|none=> .tup (x::y::r)) (.tuple (v::w::ws).toArray)
  split
  ·rename_i us hu
   rw[Ata hu h]
   exact .v _
  ·exact Hv.of_tup h
theorem Bb4 (h:Rel Z F N s a R) {r:ResultVar} {x:A} {ps:List Prop} (he:Beu E s r=some (x,ps)) (hp:∀p∈ps,p):∃v,Hv F N s.nx R x v∧(Bet a.tmps r).run E.P R=.ok v R:=by
 cases r with
 |tmp t=>
  unfold Beu at he
  simp only at he
  split at he<;>first|(cases he;done)|skip
  rename_i z hz
  cases he
  exact⟨_,(Bz h (H3 _) hz).2,rfl⟩
 |cell c t=>
  obtain⟨v,h1,h2⟩:=A3l h (H3 _) he hp
  refine⟨v,h1,?_⟩
  have h3:(Instr.loadAt t (a.tmps.getD c undef)).run E.P R=.ok v R:=h2 R (Below.refl _ _)
  show(do loadVar t (←asAddr (a.tmps.getD c undef)):Sem Value).run E.P R=_
  unfold Instr.loadAt at h3
  generalize a.tmps.getD c undef=p at*
  cases p<;>first|(simp[Instr.sureAddr] at h3;done)|skip
  rename_i ad
  cases ad with
  |none=>simp[Instr.sureAddr] at h3
  |some ad=>simpa[Instr.sureAddr,asAddr] using h3
theorem A31 (h:Rel Z F N s a R):∀{l:List ResultVar} {xs:List A} {ps:List Prop},A84 E s l=some (xs,ps)→(∀p∈ps,p)→∃vs,HL F N s.nx R xs vs∧(l.mapM (Bet a.tmps)).run E.P R=.ok vs R
 | [],xs,ps,he,_=>by cases he;exact⟨[],HL.nil,rfl⟩
 |r::rs,xs,ps,he,hp=>by
  unfold A84 at he
  split at he<;>first|(cases he;done)|skip
  rename_i x ps1 h1
  split at he<;>first|(cases he;done)|skip
  rename_i xs1 qs h2
  cases he
  obtain⟨v,g1,g2⟩:=Bb4 h h1 fun p hm=>hp p (List.mem_append.2 (.inl hm))
  obtain⟨vs,g3,g4⟩:=A31 h h2 fun p hm=>hp p (List.mem_append.2 (.inr hm))
  refine⟨v::vs,HL.cons g1 g3,?_⟩
  rw[List.mapM_cons]
  simp only[Sem.run_bind,g2,Result.andThen_ok,g4,Sem.run_pure]
theorem A08 (h:Rel Z F N s a R) {fn:Func} {xs:List A} {ps:List Prop} (he:A84 E s fn.results.toList=some (xs,ps)) (hp:∀p∈ps,p):∃v,Hv F N s.nx R (A1o xs) v∧(results fn a.tmps).run E.P R=.ok v R:=by
 obtain⟨vs,h1,h2⟩:=A31 h he hp
 refine⟨A90 vs,Bci h1,?_⟩
 rw[A07,Array.mapM_eq_mapM_toList]
 simp only[Sem.run_bind,Sem.run_map,h2,Result.andThen_ok,Sem.run_pure]
 congr 1
 match vs with
 | []=>simp[A90]
 | [x]=>simp[A90]
 |x::y::r=>simp[A90]
end
def V3 (nb:Nat) (o:Objs):Nat→A→List Nat
 |0,_=>[]
 | d+1,x=>match x with
  | .sq i| .vw i _ _ _ _| .el i _ _ _| .own i _| .ownx i _ _ _| .mp i| .dq i| .iv i _| .de i _ _ _| .ie i _ _ _ _=>bif Nat.blt i nb then[] else i::(match As i o with
   |some (.box _ cs)=>cs.flatMap (V3 nb o d)
   |some (.arr _ _ (.lst cs))=>cs.flatMap fun l=>l.flatMap (V3 nb o d)
   |_=>[])
  | .agg xs=>xs.flatMap (V3 nb o d)
  | .tup xs=>xs.flatMap (V3 nb o d)
  | .fn _ xs ys=>xs.flatMap (V3 nb o d)++ys.flatMap (V3 nb o d)
  |_=>[]
def A82 (nb:Nat) (o:Objs):List Nat→List Nat
 | []=>[]
 |k::r=>(bif Nat.blt k nb then(match As k o with
  |some (.box _ cs)=>cs.flatMap (V3 nb o 4)
  |some (.arr _ _ (.lst cs))=>cs.flatMap fun l=>l.flatMap (V3 nb o 4)
  |_=>[]) else[])++A82 nb o r
def A3p:List Nat→Nat→Hl→Hl
 | [],_,L=>L
 |k::r,j,L=>match fwd L k with
  |some _=>A3p r j L
  |none=>A3p r (j+1) (L++[(k,j)])
def Aie:Bw→Bool
 | []=>true
 |(none,_,_)::r=>Aie r
 |_=>false
theorem Rm:∀{o:Bw} {i:Nat},Aie o=true→AP (some i) o=none
 | [],_,_=>rfl
 |(none,_,_)::r,i,h=>Rm (o:=r) h
 |(some _,_,_)::_,_,h=>by cases h
def Bee (W:List Nat) (s0:St) (r:ZS):Option St:=bif Aie r.outs then(match AP none r.outs,r.nrm with
 |some (_,s),none=>some s
 |none,some s=>some s
 |some (c,s),some s'=>some (Im (By c) W s0 s s')
 |none,none=>none) else none
def Bei (k:Nat) (s0 s:St) (x:A) (ps:List Prop) (L:Hl):Option BP:=
 bif Oq s0.nx (s0.nx+L.length) L then some (k,x.pk (Vm s0.nx L),s0.nx+L.length,Ph s0.nx L s.o s0.o,ps) else none
def Bej (E:Env) (fn:Func) (k:Nat) (W:List Nat) (s0:St) (r:ZS):Option BP:=match Bee W s0 r with
 |some s=>match A84 E s fn.results.toList with
  |some (l,ps)=>Bei k s0 s (A1o l) (r.ps++ps) (A3p (V3 s0.nx s.o 6 (A1o l)++A82 s0.nx s.o (Aj3 s.o s0.o.length)) s0.nx [])
  |none=>none
 |none=>none
def Aig:Nat→List A→G2
 |_,[]=>[]
 |k,x::r=>(k,x)::Aig (k+1) r
def N8 (n:Nat) (args:List A) (nx:Nat) (o:Objs):St:=⟨n,nx,Aig 0 args,o⟩
def A75:Objs→Bool
 | []=>true
 |_=>false
def Hx (E:Env) (u:Nat) (f:FuncId) (args:List A) (nx:Nat) (o:Objs):Option BP:=match E.P.funcs[f]? with
 |some fn=>match fn.body with
  |some c=>bif Nat.ble args.length fn.ntmps then Bej E fn (bif A75 o then 1 else 2) (QV c) (N8 fn.ntmps args nx o) (evC E u c (N8 fn.ntmps args nx o)) else none
  |none=>none
 |none=>none
theorem Ajr {u:Nat} {x:A}:∀{l:List A} {k:Nat},DN u (Aig k l)=some x→∃i,u=k+i∧l[i]?=some x
 | [],_,h=>by cases h
 | y::r,k,h=>by
  have h':(bif Nat.beq k u then some y else DN u (Aig (k+1) r))=some x:=h
  cases hb:Nat.beq k u with
  |true=>
   rw[hb] at h'
   exact⟨0,(Nat.eq_of_beq_eq_true hb).symm,h'⟩
  |false=>
   rw[hb] at h'
   obtain⟨i,h1,h2⟩:=Ajr h'
   exact⟨i+1,by omega,h2⟩
theorem A73 {n nx:Nat} {args:List A} {o:Objs} {vs:List Value} {F:Nat→Prop} {N:Nm} {R:World} (hl:args.length≤n) (hh:HRel F N nx o R) (ha:HL F N nx R args vs):
  Rel ⟨F,N,nx,o,R,Bl {tmps:=vs.toArray++Array.replicate (n - vs.toArray.size) undef,defers:=[]},fun _=>True⟩ F N (N8 n args nx o) {tmps:=vs.toArray++Array.replicate (n - vs.toArray.size) undef,defers:=[]} R:=by
 have hlen:=ha.length
 refine⟨rfl,?_,fun u x hu=>?_,hh,.refl,fun _ _=>rfl⟩
 ·show(vs.toArray++Array.replicate (n - vs.toArray.size) undef).size=n
  simp
  omega
 ·obtain⟨i,h1,h2⟩:=Ajr hu
  obtain rfl:u=i:=by omega
  obtain⟨v,h3,h4⟩:=ha.get h2
  have hu':u <vs.length:=(List.getElem?_eq_some_iff.1 h3).1
  have:Bl {tmps:=vs.toArray++Array.replicate (n - vs.toArray.size) undef,defers:=[]} u=v:=by
   unfold Bl
   simp only[Array.getD_eq_getD_getElem?]
   rw[Array.getElem?_append_left (by simpa using hu'),List.getElem?_toArray,h3]
   rfl
  rw[this]
  exact(Ac h4.isPlain).2 h4
section
variable {E:Env}
theorem Ba7 {Z:Base} {F:Nat→Prop} {N:Nm} {a0:Act} {R0:World} {W:List Nat} {s0:St} (h0:Rel Z F N s0 a0 R0) {r:ZS} (hw:Wf s0 r) {s:St} (he:Bee W s0 r=some s) {e:Exit} {x:St} {a:Act} {R:World} (ho:Oc r e x) (hx:At (Ke F N s0 a0 R0 W) a R x):
  (e=.ret∨e=.normal)∧At (Ke F N s0 a0 R0 W) a R s∧Sub s0 s:=by
 unfold Bee at he
 cases hr:Aie r.outs with
 |false=>rw[hr] at he;cases he
 | true=>
  rw[hr] at he
  simp only[cond_true] at he
  split at he<;>first|(cases he;done)|skip
  ·rename_i c s' hg hn
   cases he
   rcases ho with⟨t,c',rfl,h1,h2,h3⟩|⟨rfl,h1,h2⟩
   ·cases t with
    |none=>rw[hg] at h1;cases h1;exact⟨.inl rfl,hx,hw.outs _ _ _ hg⟩
    |some i=>rw[Rm hr] at h1;cases h1
   ·rw[hn] at h1;cases h1
  ·rename_i hg hn
   cases he
   rcases ho with⟨t,c',rfl,h1,h2,h3⟩|⟨rfl,h1,h2⟩
   ·cases t with
    |none=>rw[hg] at h1;cases h1
    |some i=>rw[Rm hr] at h1;cases h1
   ·rw[hn] at h1;cases h1;exact⟨.inr rfl,hx,hw.nrm _ hn⟩
  ·rename_i c s1 s2 hg hn
   cases he
   rcases ho with⟨t,c',rfl,h1,h2,h3⟩|⟨rfl,h1,h2⟩
   ·cases t with
    |none=>
     rw[hg] at h1;cases h1
     exact⟨.inl rfl,O2 (g:=By c) h0 (hw.outs _ _ _ hg) (hw.nrm _ hn) (by rw[h2];rfl) _ _ hx,Sub.merge _ _ _ _ _⟩
    |some i=>rw[Rm hr] at h1;cases h1
   ·rw[hn] at h1
    cases h1
    exact⟨.inr rfl,O2 (g:=By c) h0 (hw.outs _ _ _ hg) (hw.nrm _ hn) (by rw[h2 _ _ _ hg];rfl) _ _ hx,Sub.merge _ _ _ _ _⟩
theorem AJ (ok:SE E) {u:Nat} {f:FuncId} {args:List A} {nx:Nat} {o:Objs} {k nx':Nat} {x:A} {o':Objs} {ps:List Prop} (he:Hx E u f args nx o=some (k,x,nx',o',ps)) (hp:∀p∈ps,p):
  CallOk E.P f args nx o k x nx' o':=by
 unfold Hx at he
 split at he<;>first|(cases he;done)|skip
 rename_i fn hf
 split at he<;>first|(cases he;done)|skip
 rename_i c hc
 cases hl:Nat.ble args.length fn.ntmps with
 |false=>rw[hl] at he;cases he
 | true=>
  rw[hl] at he
  simp only[cond_true] at he
  have hle:=Nat.le_of_ble_eq_true hl
  generalize hk0:(bif A75 o then 1 else 2)=k0 at he
  generalize hr:evC E u c (N8 fn.ntmps args nx o)=r at he
  unfold Bej at he
  split at he<;>first|(cases he;done)|skip
  rename_i s hs
  split at he<;>first|(cases he;done)|skip
  rename_i l qs hres
  generalize A3p (V3 (N8 fn.ntmps args nx o).nx s.o 6 (A1o l)++A82 (N8 fn.ntmps args nx o).nx s.o (Aj3 s.o (N8 fn.ntmps args nx o).o.length)) (N8 fn.ntmps args nx o).nx []=L at he
  unfold Bei at he
  cases hok:Oq (N8 fn.ntmps args nx o).nx ((N8 fn.ntmps args nx o).nx+L.length) L with
  |false=>rw[hok] at he;cases he
  | true=>
   rw[hok] at he
   cases he
   intro F N R vs hh ha
   ·have h0:=A73 hle hh ha
    have hlen:=ha.length
    refine calls_of_wp hf hc ?_
    have hwf:=Fp ok (u:=u) 0 c false (N8 fn.ntmps args nx o)
    have hr':QU E u 0 c false (N8 fn.ntmps args nx o)=r:=hr
    rw[hr'] at hwf
    have key:=H0 ok (u:=u) 0 c false (Ke F N (N8 fn.ntmps args nx o) {tmps:=vs.toArray++Array.replicate (fn.ntmps - vs.toArray.size) undef,defers:=[]} R (QV c)) (N8 fn.ntmps args nx o) {tmps:=vs.toArray++Array.replicate (fn.ntmps - vs.toArray.size) undef,defers:=[]} R
     (bodyPost E.P fn fun e R'=>∃y F' N',e=.returned y∧HRel F' N' (nx+L.length) (Ph nx L s.o o) R'∧Step F N nx o R F' N' (nx+L.length) (Ph nx L s.o o) R'∧Hv F' N' (nx+L.length) R' ((A1o l).pk (Vm nx L)) y∧(k≤1→Below R.heap.size R R')) ⟨F,N,h0.start _⟩ (fun u hu=>hu) (by rw[hr'];exact fun p hm=>hp p (List.mem_append.2 (.inl hm)))
    refine key fun e z a' R' ho hz=>?_
    rw[hr'] at ho
    obtain⟨h1,⟨F',N',h2⟩,h3⟩:=Ba7 h0 hwf hs ho hz
    obtain⟨y,g1,g2⟩:=A08 h2 hres fun p hm=>hp p (List.mem_append.2 (.inr hm))
    obtain⟨d,hd⟩:=h3.seq
    have hd':s.o=d++o:=hd
    obtain⟨q1,q2⟩:=A42 (nb:=nx) (nx':=nx+L.length) (L:=L) h2.hp hok (Nat.le_add_right _ _) hd' hh
    have hst:Step F N nx o R F' N' s.nx s.o R':=h2.st
    have small:∀k,k <nx→Ajb nx L k=k:=fun k hk=>by unfold Ajb;rw[show Nat.blt k nx=true from Nat.ble_eq_true_of_le hk];rfl
    have hst2:Step F N nx o R F' (nm2 N' nx L) (nx+L.length) (Ph nx L s.o o) R':=⟨Nat.le_add_right _ _,fun i hi=>by show N'.b (Ajb nx L i)=_;rw[small i hi];exact hst.b i hi,fun i hi=>by show N'.q (Ajb nx L i)=_;rw[small i hi];exact hst.q i hi,hst.f,hst.fnew,fun g hg=>hst.foot g (q2 g hg),hst.os,hst.tape,hst.output,hst.size,hst.keep⟩
    have post:a'.defers=[]∧∃v,(results fn a'.tmps).run E.P R'=.ok v R'∧∃y F' N',Ending.returned v=.returned y∧HRel F' N' (nx+L.length) (Ph nx L s.o o) R'∧Step F N nx o R F' N' (nx+L.length) (Ph nx L s.o o) R'∧Hv F' N' (nx+L.length) R' ((A1o l).pk (Vm nx L)) y∧(k≤1→Below R.heap.size R R'):=by
     refine⟨h2.defers,y,g2,y,F',nm2 N' nx L,rfl,q1,hst2,g1.pk (pk2 hok (Nat.le_add_right _ _)),fun hk=>?_⟩
     cases o with
     |nil=>exact hst.below
     |cons p r=>rw[←hk0] at hk;cases hk with|step hk=>cases hk
    rcases h1 with rfl|rfl
    ·exact post
    ·exact post
theorem Bbb {u:Nat} {f:FuncId} {args:List A} {nx:Nat} {o:Objs} {k nx':Nat} {x:A} {o':Objs} {ps:List Prop} (he:Hx E u f args nx o=some (k,x,nx',o',ps)):∃d,o'=d++o:=by
 unfold Hx at he
 split at he<;>first|(cases he;done)|skip
 split at he<;>first|(cases he;done)|skip
 rename_i c hc
 replace he:=BM he
 unfold Bej at he
 split at he<;>first|(cases he;done)|skip
 rename_i s hs
 split at he<;>first|(cases he;done)|skip
 unfold Bei at he
 replace he:=BM he
 cases he
 exact⟨_,by unfold Ph;rw[←List.append_assoc];rfl⟩
end
def HO (P:Program) (f:FuncId) (g:List A→Nat→Objs→Option BP):Prop:=
 ∀args nx o k x nx' o' ps,g args nx o=some (k,x,nx',o',ps)→((∀p∈ps,p)→CallOk P f args nx o k x nx' o')∧∃d,o'=d++o
def Gg (P:Program) (C:Tab):Prop:=∀f args nx o k x nx' o' ps,C f args nx o=some (k,x,nx',o',ps)→((∀p∈ps,p)→CallOk P f args nx o k x nx' o')∧∃d,o'=d++o
def Bge (P:Program) (eq:TypeId→List Value→List Value→Option Bool):Prop:=
 ∀t xs ys b,eq t xs ys=some b→P.eqGuardType P.depth t=false∧∀R,(Op.equalIn 10000 t (.agg xs.toArray) (.agg ys.toArray)).run P R=.ok b R
def Bgg (P:Program) (tc:TypeId→Option TC):Prop:=
 ∀t c,tc t=some c→∃i,P.info? t=some i∧i.size=size c∧0 <size c∧∃z,i.zero=some z∧∀(F:Nat→Prop) (N:Nm) (nx:Nat) (R:World),HL F N nx R (enc c (Ae c)) z.cells.toList
abbrev Aq1:=Nat→St→Option (Code×List Prop×Bw)
def C0:Tab:=fun _ _ _ _=>none
theorem Bct {P:Program}:Gg P C0:=fun _ _ _ _ _ _ _ _ _ h=>by cases h
def L0:Aq1:=fun _ _=>none
def B5 (f0:FuncId) (g:List A→Nat→Objs→Option BP) (C:Tab):Tab:=fun f args nx o=>bif Nat.beq f f0 then g args nx o else C f args nx o
theorem Ax {P:Program} {f0:FuncId} {g:List A→Nat→Objs→Option BP} {C:Tab} (hg:HO P f0 g) (hC:Gg P C):Gg P (B5 f0 g C):=fun f args nx o k x nx' o' ps h=>by
 unfold B5 at h
 cases hb:Nat.beq f f0 with
 |true=>
  rw[hb] at h
  rw[Nat.eq_of_beq_eq_true hb]
  exact hg args nx o k x nx' o' ps h
 |false=>rw[hb] at h;exact hC f args nx o k x nx' o' ps h
theorem N0 {p:Prop} {ps:List Prop} (h:∀q∈p::ps,q):p:=h _ (List.mem_cons_self ..)
theorem N1 {p:Prop} {ps:List Prop} (h:∀q∈p::ps,q):∀q∈ps,q:=fun q hq=>h q (List.mem_cons_of_mem _ hq)
theorem Ad:∀p∈([]:List Prop),p:=fun _ h=>by cases h
theorem Aa {p:Prop} {ps:List Prop} (h:p) (t:∀q∈ps,q):∀q∈p::ps,q:=fun q hq=>by
 rcases List.mem_cons.1 hq with rfl|hq
 ·exact h
 ·exact t q hq
mutual
def A.free:A→Bool
 | .v _=>true
 | .sl _ _=>true
 | .nl=>true
 | .agg xs=>freeL xs
 | .tup xs=>freeL xs
 | .fn _ xs ys=>freeL xs&&freeL ys
 | .ref xs=>freeL xs
 |_=>false
def freeL:List A→Bool
 | []=>true
 |x::r=>x.free&&freeL r
end
theorem MA:∀{l:List A} {j:Nat} {x:A},freeL l=true→l[j]?=some x→x.free=true
 | [],j,x,_,h=>by cases j<;>cases h
 |y::r,0,x,hf,h=>by cases h;unfold freeL at hf;rw[Bool.and_eq_true] at hf;exact hf.1
 |y::r,j+1,x,hf,h=>by unfold freeL at hf;rw[Bool.and_eq_true] at hf;exact MA (l:=r) hf.2 h
theorem Avl (c:TC) (d:U c):∀x∈enc c d,x.free=true:=fun x hx=>by
 have:=PK c d x hx
 cases x<;>first|(unfold A.free;rfl)|exact this.elim
section
variable {F:Nat→Prop} {N N':Nm} {nx nx':Nat} {R:World}
theorem Hv.free {x:A} {y:Value} (h:Hv F N nx R x y):x.free=true→Hv F N' nx' R x y:=by
 induction h with
 |v x=>intro _;exact .v x
 | @sl c l a cap ad h1 h2 h3 h4 ih=>intro _;exact .sl ad h1 h2 h3 fun i d j x y hd hx hy=>ih i d j x y hd hx hy (Avl c d x (List.mem_of_getElem? hx))
 | @ref l ad h1 h2 h3 ih=>intro hf;unfold A.free at hf;exact .ref ad h1 h2 fun j x y hx hy=>ih j x y hx hy (MA hf hx)
 |own h=>intro hf;unfold A.free at hf;cases hf
 |ownx h=>intro hf;unfold A.free at hf;cases hf
 |sq h=>intro hf;unfold A.free at hf;cases hf
 |dq h=>intro hf;unfold A.free at hf;cases hf
 |iv h=>intro hf;unfold A.free at hf;cases hf
 |de h=>intro hf;unfold A.free at hf;cases hf
 |ie h=>intro hf;unfold A.free at hf;cases hf
 |vw h=>intro hf;unfold A.free at hf;cases hf
 |el h=>intro hf;unfold A.free at hf;cases hf
 |mp h=>intro hf;unfold A.free at hf;cases hf
 |nl a=>intro _;exact .nl a
 |it q vs y h=>intro hf;unfold A.free at hf;cases hf
 |fn vs us h1 _ h3 _ ih2 ih4=>intro hf;unfold A.free at hf;rw[Bool.and_eq_true] at hf;exact .fn vs us h1 (fun j x v hx hv=>ih2 j x v hx hv (MA hf.1 hx)) h3 fun j x v hx hv=>ih4 j x v hx hv (MA hf.2 hx)
 |agg vs h1 _ ih=>intro hf;unfold A.free at hf;exact .agg vs h1 fun j x v hx hv=>ih j x v hx hv (MA hf hx)
 |tup vs h1 _ ih=>intro hf;unfold A.free at hf;exact .tup vs h1 fun j x v hx hv=>ih j x v hx hv (MA hf hx)
 |dead y=>intro hf;unfold A.free at hf;cases hf
theorem HL.free:∀{xs:List A} {vs:List Value},freeL xs=true→HL F N nx R xs vs→HL F N' nx' R xs vs
 | [],_,_,h=>h
 |x::r,_,hf,⟨v,vs,h1,h2,h3⟩=>by unfold freeL at hf;rw[Bool.and_eq_true] at hf;exact⟨v,vs,h1,h2.free hf.1,HL.free hf.2 h3⟩
theorem HRel.none {o:Objs} (h:HRel F N nx o R):HRel F N' nx' [] R:=⟨h.flt,(fun i ob hi=>by cases hi),(fun i ob g hi=>by cases hi),fun i j x y g hi=>by cases hi⟩
end
theorem Yb {P:Program} {f:FuncId} {args:List A} {nx k nx':Nat} {x:A} {o o':Objs} (h:CallOk P f args nx [] k x nx' o') (hk:k≤1):CallOk P f args nx o 1 x nx' (o'++o):=fun F N R vs hh ha=>by
 refine(h F N R vs (hh.none) ha).mono fun e R' ⟨y,F',N',e1,e2,e3,e4,e5⟩=>?_
 obtain⟨g1,g2⟩:=hh.frame (o1:=[]) (o':=o'++o) (fun i ob hi=>by cases hi) e3 e2 fun i ob hi=>by
  rcases LE hi with⟨_,h1⟩|⟨_,h1⟩
  ·exact .inl h1
  ·exact .inr ⟨h1,rfl⟩
 exact⟨y,F',N',e1,g1,g2,e4,fun _=>e5 hk⟩
def AH (nx:Nat):Nat→Option Nat:=fun i=>some (nx+i)
def AG (nx:Nat):Objs→Objs
 | []=>[]
 |(k,some ob)::r=>(nx+k,some (ob.pk (AH nx)))::AG nx r
 |(k,none)::r=>(nx+k,none)::AG nx r
theorem Adr {nx j:Nat} {ob':Ob}:∀{o:Objs},As j (AG nx o)=some ob'→∃i ob,j=nx+i∧As i o=some ob∧ob'=ob.pk (AH nx)
 | [],h=>by cases h
 | (k,x)::r,h=>by
  have step:∀z,(bif Nat.beq (nx+k) j then z else As j (AG nx r))=some ob'→(∀ob,x=some ob→z=some (ob.pk (AH nx)))→(x=none→z=none)→∃i ob,j=nx+i∧(bif Nat.beq k i then x else As i r)=some ob∧ob'=ob.pk (AH nx):=fun z hz h1 h2=>by
   cases hb:Nat.beq (nx+k) j with
   | true=>
    rw[hb] at hz
    obtain rfl:=Nat.eq_of_beq_eq_true hb
    cases x with
    |none=>rw[h2 rfl] at hz;cases hz
    |some ob=>
     rw[h1 ob rfl] at hz
     cases hz
     exact⟨k,ob,rfl,by rw[Lu];rfl,rfl⟩
   |false=>
    rw[hb] at hz
    obtain⟨i,ob,rfl,h3,h4⟩:=Adr hz
    refine⟨i,ob,rfl,?_,h4⟩
    rw[Ail fun e=>by subst e;simp at hb]
    exact h3
  cases x with
  |some ob=>exact step _ h (fun ob' e=>by cases e;rfl) (fun e=>by cases e)
  |none=>exact step _ h (fun ob' e=>by cases e) (fun _=>rfl)
theorem Ai {P:Program} {f:FuncId} {args:List A} {k m:Nat} {x:A} {os:Objs} (h:CallOk P f args 0 [] k x m os) (hk:k≤1) (hf:freeL args=true) (nx:Nat) (o:Objs):CallOk P f args nx o 1 (x.pk (AH nx)) (nx+m) (AG nx os++o):=by
 refine Yb (k:=1) (fun F N R vs hh ha=>?_) (Nat.le_refl _)
 refine(h F N R vs hh.none (ha.free hf)).mono fun e R' ⟨y,F',N',e1,e2,e3,e4,e5⟩=>?_
 let N2:Nm:=⟨fun i=>bif Nat.blt i nx then N.b i else N'.b (i - nx),fun i=>bif Nat.blt i nx then N.q i else N'.q (i - nx)⟩
 have hbt:∀i,Nat.blt (nx+i) nx=false:=fun i=>by
  cases hb:Nat.blt (nx+i) nx with
  |false=>rfl
  |true=>exact absurd (Nat.le_of_ble_eq_true hb) (by omega)
 have st:Pk (AH nx) N' m N2 (nx+m):=fun i j hi hj=>by
  cases hj
  refine⟨by omega,?_,?_⟩
  ·show(bif Nat.blt (nx+i) nx then N.b (nx+i) else N'.b (nx+i - nx))=_
   rw[hbt,Nat.add_sub_cancel_left];rfl
  ·show(bif Nat.blt (nx+i) nx then N.q (nx+i) else N'.q (nx+i - nx))=_
   rw[hbt,Nat.add_sub_cancel_left];rfl
 obtain⟨g1,g2⟩:=e2.pk (o':=AG nx os) st fun j ob' hj=>by
  obtain⟨i,ob,rfl,h3,h4⟩:=Adr hj
  exact⟨i,ob,rfl,h3,h4⟩
 have hlt:∀i,i <nx→Nat.blt i nx=true:=fun i hi=>Nat.ble_eq_true_of_le hi
 refine⟨y,F',N2,e1,g1,⟨Nat.le_add_right _ _,fun i hi=>by show(bif Nat.blt i nx then N.b i else _)=_;rw[hlt i hi];rfl,fun i hi=>by show(bif Nat.blt i nx then N.q i else _)=_;rw[hlt i hi];rfl,e3.f,fun g hg=>?_,fun g hg=>?_,e3.os,e3.tape,e3.output,e3.size,fun g hg hn=>e3.keep g hg fun⟨i,ob,hi,_⟩=>by cases hi⟩,e4.pk st,fun _=>e5 hk⟩
 ·rcases e3.fnew g hg with h1|⟨i,ob,hi,_⟩|h1
  ·exact .inl h1
  ·cases hi
  ·exact .inr (.inr h1)
 ·rcases e3.foot g (g2 g hg) with⟨i,ob,hi,_⟩|h1
  ·cases hi
  ·exact .inr h1
def inl (E:Env) (u:Nat) (f:FuncId):List A→Nat→Objs→Option BP:=fun args nx o=>
 bif freeL args then(match Hx E u f args nx [] with
  |some (k,x,nx',o',ps)=>bif Nat.ble k 1 then some (1,x,nx',o'++o,ps) else none
  |none=>none) else Hx E u f args nx o
theorem Arp {E:Env} (ok:SE E) (u:Nat) (f:FuncId):HO E.P f (inl E u f):=fun args nx o k x nx' o' ps h=>by
 unfold inl at h
 cases hf:freeL args with
 | true=>
  rw[hf] at h
  simp only[cond_true] at h
  split at h<;>first|(cases h;done)|skip
  rename_i k1 x1 nx1 o1 ps1 he
  cases hk:Nat.ble k1 1 with
  |false=>rw[hk] at h;cases h
  |true=>
   rw[hk] at h
   cases h
   exact⟨fun hp=>Yb (AJ ok he hp) (Nat.le_of_ble_eq_true hk),_,rfl⟩
 |false=>
  rw[hf] at h
  exact⟨fun hp=>AJ ok h hp,Bbb h⟩
end Go.Proofs.Yteebobbhhgmeiaa
namespace Go.Proofs.Yteebobbhhgmeiaa
open Go.RowKit
inductive Dir where
 |frz (i:Nat)
 |nil (u:Nat) (t:TypeId) (c:TC)
 |nilB (b j:Nat) (t:TypeId) (c:TC)
 |ty (i:Nat) (c:TC)
 |nilF (u:Nat) (c:TC)
 |nilFB (b j:Nat) (c:TC)
 |nilD (u:Nat) (t:TypeId) (c:TC)
def S5:A→Bool
 | .v x=>DM x
 | .nl=>true
 |_=>false
def UN:A→Bool
 | .v x=>DM x
 |_=>false
def X5 (E:Env) (s:St):Dir→Option (St×List Prop)
 | .frz i=>UI E i s
 | .nil u t c=>match DN u s.t with
  |some x=>bif S5 x then some (⟨s.n,s.nx+1,(u,.sq s.nx)::s.t,(s.nx,some (.arr t (size c) (.ty c [])))::s.o⟩,[]) else none
  |none=>none
 | .nilB b j t c=>match As b s.o with
  |some (.box e cs)=>match cs[j]? with
   |some x=>bif UN x then(bif Nat.blt b s.nx then some (⟨s.n,s.nx+1,s.t,(b,some (.box e (cs.set j (.sq s.nx))))::(s.nx,some (.arr t (size c) (.ty c [])))::s.o⟩,[]) else none) else none
   |none=>none
  |_=>none
 | .nilF u c=>match DN u s.t with
  |some x=>bif S5 x then some (⟨s.n,s.nx,(u,.sl c [])::s.t,s.o⟩,[]) else none
  |none=>none
 | .nilFB b j c=>match As b s.o with
  |some (.box e cs)=>match cs[j]? with
   |some x=>bif S5 x then some (⟨s.n,s.nx,s.t,(b,some (.box e (cs.set j (.sl c []))))::s.o⟩,[]) else none
   |none=>none
  |_=>none
 | .ty i c=>match As i s.o with
  |some (.arr e sz els)=>match SR c els with
   |some (l,ps)=>some (⟨s.n,s.nx,s.t,(i,some (.arr e sz (.ty c l)))::s.o⟩,ps)
   |none=>none
  |_=>none
 | .nilD u t c=>match DN u s.t,Vt c with
  |some x,some _=>bif UN x then some (⟨s.n,s.nx+1,(u,.dq s.nx)::s.t,(s.nx,some (.deep t c []))::s.o⟩,[]) else none
  |_,_=>none
def adj (E:Env):List Dir→St→Option (St×List Prop)
 | [],s=>some (s,[])
 | d::r,s=>match X5 E s d with
  |some (s',ps)=>match adj E r s' with
   |some (s'',qs)=>some (s'',ps++qs)
   |none=>none
  |none=>none
section
variable {E:Env} {Z:Base} {F:Nat→Prop} {N:Nm} {s:St} {a:Act} {R:World}
theorem Rel.word (h:Rel Z F N s a R) {u:Nat} {x:A} (hx:Hv F N s.nx R x (Bl a u)):Rel Z F N ⟨s.n,s.nx,(u,x)::s.t,s.o⟩ a R:=
 ⟨h.defers,h.size,fun v z hv=>by
  have hv':(bif Nat.beq u v then some x else DN v s.t)=some z:=hv
  cases hb:Nat.beq u v with
  |true=>
   rw[hb] at hv'
   obtain rfl:=Nat.eq_of_beq_eq_true hb
   cases hv'
   exact(Ac hx.isPlain).2 hx
  |false=>rw[hb] at hv';exact h.slots v z hv',h.hp,h.st,h.tm⟩
theorem YG {x:A} (h:S5 x=true):x.plain=true:=by cases x<;>first|rfl|cases h
theorem Aaj {x:A} {y:Value} {nx:Nat} (h:S5 x=true) (hx:Hv F N nx R x y):∃b,y=.slice b 0 0:=by
 cases x<;>first|(cases h;done)|skip
 ·rw[hx.v_inv,FU h];exact⟨none,rfl⟩
 ·exact hx.nl_inv
theorem Ajc {x:A} {y:Value} {nx:Nat} (h:UN x=true) (hx:Hv F N nx R x y):y=.slice none 0 0:=by
 cases x<;>first|(cases h;done)|skip
 rw[hx.v_inv,FU h]
theorem Ang {x:A} (h:UN x=true):x.plain=true:=by cases x<;>first|rfl|cases h
theorem HL.set {nx:Nat} {xs:List A} {vs:List Value} {j:Nat} {y:A} (h:HL F N nx R xs vs) (hy:∀v,vs[j]?=some v→Hv F N nx R y v):HL F N nx R (xs.set j y) vs:=by
 refine HL.of (by rw[List.length_set];exact h.length) fun i x v hx hv=>?_
 by_cases hij:j=i
 ·subst hij
  have hlt:j <xs.length:=by have:=(List.getElem?_eq_some_iff.1 hx).1;rwa[List.length_set] at this
  rw[List.getElem?_set_self hlt] at hx
  cases hx
  exact hy v hv
 ·rw[List.getElem?_set_ne hij] at hx
  obtain⟨w,h1,h2⟩:=h.get hx
  rw[hv] at h1
  cases h1
  exact h2
theorem HRel.nilRowB {nx:Nat} {o:Objs} (h:HRel F N nx o R) (b:Option Addr) {m:Nat} (t:TypeId) (sz:Nat) {els:Els} (he:els.n=0) (hm:nx≤m):
  HRel F (N.setQ m (.slice b 0 0)) (m+1) ((m,some (.arr t sz els))::o) R∧Step F N nx o R F (N.setQ m (.slice b 0 0)) (m+1) ((m,some (.arr t sz els))::o) R:=
 h.nilG _ hm (fun hqm=>⟨[],by rw[hqm];exact⟨by rw[he];simp,.inl ⟨b,rfl,he⟩⟩,fun j hj=>absurd hj (by omega)⟩) fun hqm g hg=>by
  have hg':Dd ((N.setQ m (.slice b 0 0)).q m)=some g:=hg
  rw[hqm] at hg'
  cases b<;>cases hg'
theorem Bas (h:At Z a R s) {d:Dir} {s':St} {ps:List Prop} (he:X5 E s d=some (s',ps)) (hp:∀p∈ps,p):At Z a R s':=by
 obtain⟨F,N,h⟩:=h
 cases d with
 |frz i=>
  obtain⟨F',h'⟩:=Apd h he hp
  exact⟨F',N,h'⟩
 | nil u t c=>
  unfold X5 at he
  simp only at he
  split at he<;>first|(cases he;done)|skip
  rename_i x hx
  cases hn:S5 x with
  |false=>rw[hn] at he;cases he
  |true=>
   rw[hn] at he
   cases he
   obtain⟨b,hv⟩:=Aaj hn ((Ac (YG hn)).1 (h.slots u x hx))
   obtain⟨q1,q2⟩:=h.hp.nilRowB b t (size c) (els:=.ty c []) rfl (Nat.le_refl _)
   have h2:=h.heap q2 q1
   refine⟨_,_,h2.word (u:=u) ?_⟩
   rw[hv]
   have:=Hv.sq (F:=F) (N:=N.setQ s.nx (.slice b 0 0)) (nx:=s.nx+1) (R:=R) (Nat.lt_succ_self s.nx)
   have e:(N.setQ s.nx (.slice b 0 0)).q s.nx=.slice b 0 0:=CJ N.q s.nx _
   rw[e] at this
   exact this
 | nilD u t c=>
  unfold X5 at he
  simp only at he
  split at he<;>first|(cases he;done)|skip
  rename_i x cc hx hc
  cases hn:UN x with
  |false=>rw[hn] at he;cases he
  |true=>
   rw[hn] at he
   cases he
   have hv:=Ajc hn ((Ac (Ang hn)).1 (h.slots u x hx))
   obtain⟨q1,q2⟩:=h.hp.nilD t hc (Nat.le_refl _)
   have h2:=h.heap q2 q1
   refine⟨_,_,h2.word (u:=u) ?_⟩
   rw[hv]
   have:=Hv.dq (F:=F) (N:=N.setQ s.nx (A4x true)) (nx:=s.nx+1) (R:=R) (Nat.lt_succ_self s.nx)
   have e:(N.setQ s.nx (A4x true)).q s.nx=A4x true:=CJ N.q s.nx _
   rw[e] at this
   exact this
 | nilB b j t c=>
  unfold X5 at he
  simp only at he
  split at he<;>first|(cases he;done)|skip
  rename_i e cs hl
  split at he<;>first|(cases he;done)|skip
  rename_i x hx
  cases hn:UN x with
  |false=>rw[hn] at he;cases he
  | true=>
   rw[hn] at he
   cases hb:Nat.blt b s.nx with
   |false=>rw[hb] at he;cases he
   | true=>
    rw[hb] at he
    cases he
    have hbn:b <s.nx:=Nat.le_of_ble_eq_true hb
    obtain⟨q1,q2⟩:=h.hp.nilRow t (size c) (els:=.ty c []) rfl (Nat.le_refl _)
    have e0:(N.setQ s.nx (.slice none 0 0)).q s.nx=.slice none 0 0:=CJ N.q s.nx _
    obtain⟨r1,r2⟩:=q1.less (o':=(b,some (.box e (cs.set j (.sq s.nx))))::(s.nx,some (.arr t (size c) (.ty c [])))::s.o) fun i ob hi=>by
     rw[Bi] at hi
     by_cases hib:i=b
     ·rw[if_pos hib] at hi
      cases hi
      subst hib
      refine⟨.box e cs,by rw[Bi,if_neg (by omega)];exact hl,fun⟨vs,k1,k2⟩=>⟨vs,k1.set fun v hv=>?_,k2⟩,fun g=>Iff.rfl⟩
      obtain⟨w,k3,k4⟩:=k1.get hx
      rw[hv] at k3
      cases k3
      rw[Ajc hn k4]
      have:=Hv.sq (F:=F) (N:=N.setQ s.nx (.slice none 0 0)) (nx:=s.nx+1) (R:=R) (Nat.lt_succ_self s.nx)
      rw[e0] at this
      exact this
     ·rw[if_neg hib] at hi
      exact⟨ob,hi,id,fun g=>Iff.rfl⟩
    exact⟨_,_,h.heap (q2.trans r2) r1⟩
 | nilF u c=>
  unfold X5 at he
  simp only at he
  split at he<;>first|(cases he;done)|skip
  rename_i x hx
  cases hn:S5 x with
  |false=>rw[hn] at he;cases he
  |true=>
   rw[hn] at he
   cases he
   obtain⟨b,hv⟩:=Aaj hn ((Ac (YG hn)).1 (h.slots u x hx))
   exact⟨_,_,h.word (u:=u) (Hv.sl_nil hv)⟩
 | nilFB b j c=>
  unfold X5 at he
  simp only at he
  split at he<;>first|(cases he;done)|skip
  rename_i e cs hl
  split at he<;>first|(cases he;done)|skip
  rename_i x hx
  cases hn:S5 x with
  |false=>rw[hn] at he;cases he
  | true=>
   rw[hn] at he
   cases he
   obtain⟨r1,r2⟩:=h.hp.less (o':=(b,some (.box e (cs.set j (.sl c []))))::s.o) fun i ob hi=>by
    rw[Bi] at hi
    by_cases hib:i=b
    ·rw[if_pos hib] at hi
     cases hi
     subst hib
     refine⟨.box e cs,hl,fun⟨vs,k1,k2⟩=>⟨vs,k1.set fun v hv=>?_,k2⟩,fun g=>Iff.rfl⟩
     obtain⟨w,k3,k4⟩:=k1.get hx
     rw[hv] at k3
     cases k3
     obtain⟨b,hb⟩:=Aaj hn k4
     exact Hv.sl_nil hb
    ·rw[if_neg hib] at hi
     exact⟨ob,hi,id,fun g=>Iff.rfl⟩
   exact⟨_,_,h.heap r2 r1⟩
 | ty i c=>
  unfold X5 at he
  simp only at he
  split at he<;>first|(cases he;done)|skip
  rename_i e sz els hl
  split at he<;>first|(cases he;done)|skip
  rename_i l qs hty
  cases he
  obtain⟨r1,r2⟩:=h.hp.less (o':=(i,some (.arr e sz (.ty c l)))::s.o) fun k ob hi=>by
   rw[Bi] at hi
   by_cases hib:k=i
   ·rw[if_pos hib] at hi
    cases hi
    subst hib
    refine⟨.arr e sz els,hl,fun⟨zs,k1,k2⟩=>?_,fun g=>Iff.rfl⟩
    obtain⟨e1,_⟩:=Ly (F:=F) (N:=N) (nx:=s.nx) (R:=R) hty hp
    have hr:=RowHL.ty (els:=els) ⟨k1.1,k2⟩ hty hp
    have hn:(Els.ty c l).n=els.n:=e1
    exact⟨zs,by rw[hn];exact k1,hr.2⟩
   ·rw[if_neg hib] at hi
    exact⟨ob,hi,id,fun g=>Iff.rfl⟩
  exact⟨_,_,h.heap r2 r1⟩
theorem Ayt:∀{D:List Dir} {s s':St} {ps:List Prop},At Z a R s→adj E D s=some (s',ps)→(∀p∈ps,p)→At Z a R s'
 | [],s,s',ps,h,he,_=>by cases he;exact h
 |d::r,s,s',ps,h,he,hp=>by
  unfold adj at he
  split at he<;>first|(cases he;done)|skip
  rename_i s1 ps1 h1
  split at he<;>first|(cases he;done)|skip
  rename_i s2 ps2 h2
  cases he
  exact Ayt (Bas h h1 fun p hm=>hp p (List.mem_append.2 (.inl hm))) h2 fun p hm=>hp p (List.mem_append.2 (.inr hm))
theorem A2z:∀{D:List Dir} {s s':St} {ps:List Prop},adj E D s=some (s',ps)→Sub s s'
 | [],s,s',ps,he=>by cases he;exact Sub.refl _
 | d::r,s,s',ps,he=>by
  unfold adj at he
  split at he<;>first|(cases he;done)|skip
  rename_i s1 ps1 h1
  split at he<;>first|(cases he;done)|skip
  rename_i s2 ps2 h2
  cases he
  refine Sub.trans ?_ (A2z h2)
  cases d with
  |frz i=>exact⟨(Ws h1).1,(Ws h1).2⟩
  |nil u t c=>
   unfold X5 at h1
   simp only at h1
   split at h1<;>first|(cases h1;done)|skip
   replace h1:=BM h1
   cases h1
   exact⟨rfl,[_],rfl⟩
  |nilD u t c=>
   unfold X5 at h1
   simp only at h1
   split at h1<;>first|(cases h1;done)|skip
   replace h1:=BM h1
   cases h1
   exact⟨rfl,[_],rfl⟩
  |nilB b j t c=>
   unfold X5 at h1
   simp only at h1
   split at h1<;>first|(cases h1;done)|skip
   split at h1<;>first|(cases h1;done)|skip
   replace h1:=BM (BM h1)
   cases h1
   exact⟨rfl,[_,_],rfl⟩
  |nilF u c=>
   unfold X5 at h1
   simp only at h1
   split at h1<;>first|(cases h1;done)|skip
   replace h1:=BM h1
   cases h1
   exact⟨rfl,[],rfl⟩
  |nilFB b j c=>
   unfold X5 at h1
   simp only at h1
   split at h1<;>first|(cases h1;done)|skip
   split at h1<;>first|(cases h1;done)|skip
   replace h1:=BM h1
   cases h1
   exact⟨rfl,[_],rfl⟩
  |ty i c=>
   unfold X5 at h1
   simp only at h1
   split at h1<;>first|(cases h1;done)|skip
   split at h1<;>first|(cases h1;done)|skip
   cases h1
   exact⟨rfl,[_],rfl⟩
end
def okL (nb nx1:Nat):Hl→Bool
 | []=>true
 |(k,j)::r=>Nat.blt j nx1&&((bif Nat.blt j nb then Nat.beq k j else true)&&(isNone (fwd r k)&&(isNone (bck r j)&&okL nb nx1 r)))
theorem Aro {nb nx1:Nat}:∀{L:Hl} {i j:Nat},okL nb nx1 L=true→fwd L i=some j→bck L j=some i∧j <nx1∧(j <nb→i=j)
 | [],i,j,_,h=>by cases h
 | (k,m)::r,i,j,h0,h=>by
  unfold okL at h0
  simp only[Bool.and_eq_true] at h0
  obtain⟨a1,a2,a3,a4,a5⟩:=h0
  unfold fwd at h
  cases hb:Nat.beq k i with
  | true=>
   rw[hb] at h
   cases h
   obtain rfl:=Nat.eq_of_beq_eq_true hb
   refine⟨?_,Nat.le_of_ble_eq_true a1,fun hlt=>?_⟩
   ·unfold bck
    rw[Lu]
    rfl
   ·rw[show Nat.blt m nb=true from Nat.ble_eq_true_of_le hlt] at a2
    exact Nat.eq_of_beq_eq_true a2
  | false=>
   rw[hb] at h
   obtain⟨h1,h2⟩:=Aro a5 h
   refine⟨?_,h2⟩
   unfold bck
   cases hm:Nat.beq m j with
   |true=>
    obtain rfl:=Nat.eq_of_beq_eq_true hm
    rw[WC.1 a4] at h1
    cases h1
   |false=>exact h1
def Af4 (nb:Nat) (L:Hl) (j:Nat):Nat:=bif Nat.blt j nb then j else match bck L j with
 |some k=>k
 |none=>0
def nm3 (N:Nm) (nb:Nat) (L:Hl):Nm:=⟨fun j=>N.b (Af4 nb L j),fun j=>N.q (Af4 nb L j)⟩
theorem A74 {nb nx1:Nat} {L:Hl} (h0:okL nb nx1 L=true) {i j:Nat} (h:fwd L i=some j):Af4 nb L j=i:=by
 obtain⟨h1,_,h3⟩:=Aro h0 h
 unfold Af4
 cases hb:Nat.blt j nb with
 |true=>exact(h3 (Nat.le_of_ble_eq_true hb)).symm
 |false=>rw[h1];rfl
theorem Re {nb:Nat} {L:Hl} {j:Nat} (h:j <nb):Af4 nb L j=j:=by
 unfold Af4
 rw[show Nat.blt j nb=true from Nat.ble_eq_true_of_le h]
 rfl
theorem pk3 {N:Nm} {nb n nx1:Nat} {L:Hl} (h0:okL nb nx1 L=true):Pk (fwd L) N n (nm3 N nb L) nx1:=fun i j _ hj=>by
 have h1:=A74 h0 hj
 exact⟨(Aro h0 hj).2.1,by show N.b (Af4 nb L j)=_;rw[h1],by show N.q (Af4 nb L j)=_;rw[h1]⟩
def getD (u:Nat) (t:G2):A:=match DN u t with
 |some x=>x
 |none=> .dead
def A3w (L:Hl) (t:G2):List Nat→G2
 | []=>[]
 |u::r=>(u,(getD u t).pk (fwd L))::A3w L t r
def VF (L:Hl) (o:Objs):List Nat→Objs
 | []=>[]
 | i::r=>match fwd L i with
  |some j=>(j,match As i o with
   |some ob=>some (ob.pk (fwd L))
   |none=>none)::VF L o r
  |none=>VF L o r
def A8s (nx1:Nat) (L:Hl) (us os:List Nat) (s:St):St:=⟨s.n,nx1,A3w L s.t us,VF L s.o os⟩
section
variable {Z:Base} {F:Nat→Prop} {N N':Nm} {nx nx':Nat} {s:St} {a:Act} {R:World} {tm:Nat→Value} {ρ:Nat→Option Nat}
theorem HS.pk (st:Pk ρ N nx N' nx'):∀{x:A} {y:Value},HS F N nx R tm x y→HS F N' nx' R tm (x.pk ρ) y
 | .opt u b x,y,h=>by
  unfold A.pk
  simp only[HS] at h⊢
  exact⟨fun hb=>HS.pk st (h.1 hb),h.2⟩
 | .v _,_,h=>(Ac (by unfold A.pk;rfl)).2 (((Ac rfl).1 h).pk st)
 | .sl _ _,_,h=>(Ac (by unfold A.pk;rfl)).2 (((Ac rfl).1 h).pk st)
 | .ref _,_,h=>(Ac (by unfold A.pk;rfl)).2 (((Ac rfl).1 h).pk st)
 | .nl,_,h=>(Ac (by unfold A.pk;rfl)).2 (((Ac rfl).1 h).pk st)
 | .it _ _,_,h=>(Ac (by unfold A.pk;rfl)).2 (((Ac rfl).1 h).pk st)
 | .fn _ _ _,_,h=>(Ac (by unfold A.pk;rfl)).2 (((Ac rfl).1 h).pk st)
 | .agg _,_,h=>(Ac (by unfold A.pk;rfl)).2 (((Ac rfl).1 h).pk st)
 | .tup _,_,h=>(Ac (by unfold A.pk;rfl)).2 (((Ac rfl).1 h).pk st)
 | .dead,_,h=>(Ac (by unfold A.pk;rfl)).2 (((Ac rfl).1 h).pk st)
 | .own _ _,_,h=>(Ac (((Ac rfl).1 h).pk st).isPlain).2 (((Ac rfl).1 h).pk st)
 | .ownx _ _ _ _,_,h=>(Ac (((Ac rfl).1 h).pk st).isPlain).2 (((Ac rfl).1 h).pk st)
 | .sq _,_,h=>(Ac (((Ac rfl).1 h).pk st).isPlain).2 (((Ac rfl).1 h).pk st)
 | .dq _,_,h=>(Ac (((Ac rfl).1 h).pk st).isPlain).2 (((Ac rfl).1 h).pk st)
 | .iv _ _,_,h=>(Ac (((Ac rfl).1 h).pk st).isPlain).2 (((Ac rfl).1 h).pk st)
 | .de _ _ _ _,_,h=>(Ac (((Ac rfl).1 h).pk st).isPlain).2 (((Ac rfl).1 h).pk st)
 | .ie _ _ _ _ _,_,h=>(Ac (((Ac rfl).1 h).pk st).isPlain).2 (((Ac rfl).1 h).pk st)
 | .vw _ _ _ _ _,_,h=>(Ac (((Ac rfl).1 h).pk st).isPlain).2 (((Ac rfl).1 h).pk st)
 | .el _ _ _ _,_,h=>(Ac (((Ac rfl).1 h).pk st).isPlain).2 (((Ac rfl).1 h).pk st)
 | .mp _,_,h=>(Ac (((Ac rfl).1 h).pk st).isPlain).2 (((Ac rfl).1 h).pk st)
theorem Ajq {L:Hl} {t:G2} {u:Nat} {x:A}:∀{us:List Nat},DN u (A3w L t us)=some x→x=(getD u t).pk (fwd L)
 | [],h=>by cases h
 |v::r,h=>by
  have h':(bif Nat.beq v u then some ((getD v t).pk (fwd L)) else DN u (A3w L t r))=some x:=h
  cases hb:Nat.beq v u with
  |true=>rw[hb] at h';obtain rfl:=Nat.eq_of_beq_eq_true hb;cases h';rfl
  |false=>rw[hb] at h';exact Ajq h'
theorem Oj {L:Hl} {o:Objs} {j:Nat} {ob':Ob}:∀{os:List Nat},As j (VF L o os)=some ob'→∃i ob,i∈os∧fwd L i=some j∧As i o=some ob∧ob'=ob.pk (fwd L)
 | [],h=>by cases h
 | i::r,h=>by
  unfold VF at h
  cases hf:fwd L i with
  |none=>
   rw[hf] at h
   obtain⟨i',ob,h1,h2⟩:=Oj h
   exact⟨i',ob,List.mem_cons_of_mem _ h1,h2⟩
  | some m=>
   rw[hf] at h
   have h':(bif Nat.beq m j then(match As i o with|some ob=>some (ob.pk (fwd L))|none=>none) else As j (VF L o r))=some ob':=h
   cases hb:Nat.beq m j with
   |true=>
    rw[hb] at h'
    obtain rfl:=Nat.eq_of_beq_eq_true hb
    simp only[cond_true] at h'
    split at h'<;>first|(cases h';done)|skip
    rename_i ob hob
    cases h'
    exact⟨i,ob,List.mem_cons_self ..,hf,hob,rfl⟩
   |false=>
    rw[hb] at h'
    obtain⟨i',ob,h1,h2⟩:=Oj h'
    exact⟨i',ob,List.mem_cons_of_mem _ h1,h2⟩
theorem A29 (h:Rel Z F N s a R) (u:Nat):HS F N s.nx R (Bl a) (getD u s.t) (Bl a u):=by
 unfold getD
 split
 ·rename_i x hx;exact h.slots u x hx
 ·exact(Ac rfl).2 (.dead _)
theorem Rel.pick (h:Rel Z F N s a R) {nb nx1:Nat} {L:Hl} (h0:okL nb nx1 L=true) (hz:Z.nx≤nb) (hz1:Z.nx≤nx1) (us os:List Nat):Rel Z F (nm3 N nb L) (A8s nx1 L us os s) a R:=by
 obtain⟨q1,q2⟩:=h.hp.pk (o':=VF L s.o os) (pk3 (N:=N) (n:=s.nx) h0) fun j ob' hj=>by
  obtain⟨i,ob,_,h1,h2⟩:=Oj hj
  exact⟨i,ob,h1,h2⟩
 refine⟨h.defers,h.size,fun u x hu=>?_,q1,⟨hz1,fun i hi=>?_,fun i hi=>?_,h.st.f,h.st.fnew,fun g hg=>h.st.foot g (q2 g hg),h.st.os,h.st.tape,h.st.output,h.st.size,h.st.keep⟩,h.tm⟩
 ·rw[Ajq hu]
  exact(A29 h u).pk (pk3 h0)
 ·show N.b (Af4 nb L i)=_
  rw[Re (by omega)]
  exact h.st.b i hi
 ·show N.q (Af4 nb L i)=_
  rw[Re (by omega)]
  exact h.st.q i hi
end
def A3u (t:G2):List Nat→G2
 | []=>[]
 |u::r=>(u,getD u t)::A3u t r
def Ady (o:Objs):List Nat→Objs
 | []=>[]
 |i::r=>(i,As i o)::Ady o r
def Akt (us os:List Nat) (s:St):St:=⟨s.n,s.nx,A3u s.t us,Ady s.o os⟩
def LF (us os:List Nat):Bw→Bw
 | []=>[]
 |(t,c,s)::r=>(t,c,Akt us os s)::LF us os r
structure DS where
 nb:Nat
 nx1:Nat
 us:List Nat
 dirs:List Dir
 ren:Hl
 os:List Nat
 usO:List Nat
 osO:List Nat
def Ce (E:Env) (u:Nat) (b:Code) (S:DS) (s:St):Option (List Prop×Bw×Cnd×St):=
 let r:=QU E u 0 b false s
 match r.nrm with
 |some s1=>match adj E S.dirs s1 with
  |some (s2,qs)=>some (r.ps++S3 (Bax (Jr r.outs)) qs,LF S.usO S.osO r.outs,Jr r.outs,A8s S.nx1 S.ren S.us S.os s2)
  |none=>none
 |none=>none
section
variable {X:Type} (next:X→X) (goes:X→Cnd)
def BA:Nat→X→X
 |0,x=>x
 |n+1,x=>bif By (goes x) then BA n (next x) else x
def AE (ps:X→List Prop):Nat→X→Prop
 |0,x=>(∀p∈ps x,p)∧By (goes x)=false
 |n+1,x=>(∀p∈ps x,p)∧(By (goes x)=true→AE ps n (next x))
end
section
variable {Z:Base} {F:Nat→Prop} {N:Nm} {s:St} {a:Act} {R:World}
theorem Ajp {t:G2} {u:Nat} {x:A}:∀{us:List Nat},DN u (A3u t us)=some x→x=getD u t
 | [],h=>by cases h
 |v::r,h=>by
  have h':(bif Nat.beq v u then some (getD v t) else DN u (A3u t r))=some x:=h
  cases hb:Nat.beq v u with
  |true=>rw[hb] at h';obtain rfl:=Nat.eq_of_beq_eq_true hb;cases h';rfl
  |false=>rw[hb] at h';exact Ajp h'
theorem LD {o:Objs} {i:Nat} {ob:Ob}:∀{os:List Nat},As i (Ady o os)=some ob→As i o=some ob∧i∈os
 | [],h=>by cases h
 |k::r,h=>by
  have h':(bif Nat.beq k i then As k o else As i (Ady o r))=some ob:=h
  cases hb:Nat.beq k i with
  |true=>rw[hb] at h';obtain rfl:=Nat.eq_of_beq_eq_true hb;exact⟨h',List.mem_cons_self ..⟩
  |false=>rw[hb] at h';exact⟨(LD h').1,List.mem_cons_of_mem _ (LD h').2⟩
theorem Rel.part (h:Rel Z F N s a R) (us os:List Nat):Rel Z F N (Akt us os s) a R:=by
 have ho:∀i ob,As i (Ady s.o os)=some ob→As i s.o=some ob:=fun i ob hi=>(LD hi).1
 refine⟨h.defers,h.size,fun u x hu=>?_,h.hp.weak ho,h.st.trans (Step.weak ho),h.tm⟩
 rw[Ajp hu]
 exact A29 h u
theorem PT {us os:List Nat} {t:Tag}:∀{o:Bw},AP t (LF us os o)=match AP t o with|some (c,s)=>some (c,Akt us os s)|none=>none
 | []=>rfl
 |(k,c,s)::r=>by
  show(bif EX k t then some (c,Akt us os s) else AP t (LF us os r))=match(bif EX k t then some (c,s) else AP t r) with|some (c,s)=>some (c,Akt us os s)|none=>none
  cases EX k t with
  |true=>rfl
  |false=>exact PT
theorem Bbm {E:Env} (ok:SE E) {u:Nat} {b:Code} {S:DS} {X:Type} {T:X→St} {next:X→X} {goes:X→Cnd} {psA ps:X→List Prop} {outs:X→Bw} (hS:okL S.nb S.nx1 S.ren=true) (hnb:S.nb≤S.nx1)
  (hr:∀x,Ce E u b S (T x)=some (psA x,outs x,goes x,T (next x))) (hA:∀x,(∀p∈ps x,p)→∀p∈psA x,p) {Z:Base} (hz:Z.nx≤S.nb) (hW:∀u,NK u (QV b)=true→Z.W u) {Q:Exit→Act→World→Prop}:∀(n:Nat) (x:X) (a:Act) (R:World),At Z a R (T x)→AE next goes ps n x→
   (∀e y a' R',Oc ⟨[],outs (BA next goes n x),none⟩ e y→At Z a' R' y→Q e a' R')→Code.rounds E.P b Q (n+1) a R:=by
 intro n
 induction n with
 | zero=>
  intro x a R h hn hk
  obtain⟨h1,h2⟩:=hn
  rw[rounds_succ]
  have hx:=hr x
  unfold Ce at hx
  simp only at hx
  split at hx<;>first|(cases hx;done)|skip
  rename_i s1 hs1
  split at hx<;>first|(cases hx;done)|skip
  rename_i s2 qs hs2
  injection hx with hx
  injection hx with e1 hx
  injection hx with e2 hx
  injection hx with e3 e4
  replace h1:=hA x h1
  rw[←e1] at h1
  refine H0 ok 0 b false Z (T x) a R _ h hW (KD h1).1 fun e y a' R' ho hy=>?_
  have hwf:=Fp ok (u:=u) 0 b false (T x)
  rcases ho with⟨t,cc,rfl,g1,g2,g3⟩|⟨rfl,g1,g2⟩
  ·obtain⟨F,N,hy⟩:=hy
   have:Oc ⟨[],outs x,none⟩ (Tag.ex t) (Akt S.usO S.osO y):=by
    rw[←e2]
    refine .inl ⟨t,cc,rfl,by show AP t (LF _ _ _)=_;rw[PT,g1],g2,fun t' c' s' hne hg=>?_⟩
    have hg':AP t' (LF S.usO S.osO (QU E u 0 b false (T x)).outs)=some (c',s'):=hg
    rw[PT] at hg'
    cases h5:AP t' (QU E u 0 b false (T x)).outs with
    |none=>rw[h5] at hg';cases hg'
    |some z=>obtain⟨c1,z⟩:=z;rw[h5] at hg';cases hg';exact g3 t' _ z hne h5
   have:=hk _ _ a' R' this ⟨F,N,hy.part _ _⟩
   cases t<;>exact this
  ·exfalso
   have:=NU hwf.once g2
   rw[e3,h2] at this
   cases this
 | succ n ih=>
  intro x a R h hn hk
  obtain⟨h1,h2⟩:=hn
  rw[rounds_succ]
  have hx:=hr x
  unfold Ce at hx
  simp only at hx
  split at hx<;>first|(cases hx;done)|skip
  rename_i s1 hs1
  split at hx<;>first|(cases hx;done)|skip
  rename_i s2 qs hs2
  injection hx with hx
  injection hx with e1 hx
  injection hx with e2 hx
  injection hx with e3 e4
  replace h1:=hA x h1
  rw[←e1] at h1
  refine H0 ok 0 b false Z (T x) a R _ h hW (KD h1).1 fun e y a' R' ho hy=>?_
  have hwf:=Fp ok (u:=u) 0 b false (T x)
  rcases ho with⟨t,cc,rfl,g1,g2,g3⟩|⟨rfl,g1,g2⟩
  ·obtain⟨F,N,hy⟩:=hy
   have hc:By (goes x)=false:=by rw[←e3];exact Aa5 g1 g2
   have hi:BA next goes (n+1) x=x:=by unfold BA;rw[hc];rfl
   rw[hi] at hk
   have:Oc ⟨[],outs x,none⟩ (Tag.ex t) (Akt S.usO S.osO y):=by
    rw[←e2]
    refine .inl ⟨t,cc,rfl,by show AP t (LF _ _ _)=_;rw[PT,g1],g2,fun t' c' s' hne hg=>?_⟩
    have hg':AP t' (LF S.usO S.osO (QU E u 0 b false (T x)).outs)=some (c',s'):=hg
    rw[PT] at hg'
    cases h5:AP t' (QU E u 0 b false (T x)).outs with
    |none=>rw[h5] at hg';cases hg'
    |some z=>obtain⟨c1,z⟩:=z;rw[h5] at hg';cases hg';exact g3 t' _ z hne h5
   have:=hk _ _ a' R' this ⟨F,N,hy.part _ _⟩
   cases t<;>exact this
  ·have hc:By (goes x)=true:=by rw[←e3];exact NU hwf.once g2
   have hi:BA next goes (n+1) x=BA next goes n (next x):=by
    show(bif By (goes x) then _ else _)=_
    rw[hc];rfl
   rw[hi] at hk
   rw[hs1] at g1
   obtain rfl:=Option.some.inj g1
   have hq:∀p∈qs,p:=LB (KD h1).2 (A23 (by rw[e3];exact hc))
   obtain⟨F,N,h3⟩:=Ayt hy hs2 hq
   have h4:=h3.pick hS hz (Nat.le_trans hz hnb) S.us S.os
   rw[e4] at h4
   exact ih (next x) a' R' ⟨F,_,h4⟩ (h2 hc) hk
end
def JT (l:Nat):Code→Option Code
 | .seq a b=>match JT l a with
  |some c=>some c
  |none=>JT l b
 | .cond _ a b=>match JT l a with
  |some c=>some c
  |none=>JT l b
 | .block id b=>match Nat.beq id l,b with
  |true,.loop c=>some c
  |_,_=>JT l b
 | .loop b=>JT l b
 | .scope b=>JT l b
 | .rangeFunc _ _ _ b=>JT l b
 |_=>none
def Ah (P:Program) (f:FuncId) (l:Nat):Code:=match P.funcs[f]? with
 | some fn=>match fn.body with
  |some c=>match JT l c with
   |some b=>b
   |none=> .skip
  |none=> .skip
 |none=> .skip
def EO (l0:Nat) (g:St→Option (Code×List Prop×Bw)) (L:Aq1):Aq1:=fun l s=>bif Nat.beq l l0 then g s else L l s
def Yk:List Nat→G2
 | []=>[]
 |u::r=>(u,.dead)::Yk r
def Ajt:List Nat→Objs
 | []=>[]
 |i::r=>(i,none)::Ajt r
def Ao8 (W os:List Nat) (sA st:St):St:=⟨sA.n,st.nx,st.t++(Yk W++S8 W sA.t),st.o++(Ajt os++sA.o)⟩
def Lx (W os:List Nat) (sA:St):Bw→Bw
 | []=>[]
 |(t,c,s)::r=>(t,c,Ao8 W os sA s)::Lx W os sA r
structure Eh where
 dirs:List Dir
 ren:Hl
 us:List Nat
 os:List Nat
def HZ (E:Env) (b:Code) (S:DS) (En:Eh) {X:Type} (unT:St→Option X) (fuel:X→Nat) (next:X→X) (goes:X→Cnd) (ps:X→List Prop) (outs:X→Bw) (s:St):Option (Code×List Prop×Bw):=
 match adj E En.dirs s with
 |some (sA,qs)=>bif Nat.beq sA.nx S.nb then(bif okL S.nb S.nx1 En.ren then(match unT (A8s S.nx1 En.ren En.us En.os sA) with
  |some x=>some (b,qs++[AE next goes ps (fuel x) x],Lx (QV b) En.os sA (outs (BA next goes (fuel x) x)))
  |none=>none) else none) else none
 |none=>none
section
theorem A3f {u:Nat}:∀{W:List Nat},NK u W=true→DN u (Yk W)=some .dead
 | [],h=>by cases h
 | k::r,h=>by
  show(bif Nat.beq k u then some A.dead else DN u (Yk r))=_
  cases hb:Nat.beq k u with
  |true=>rfl
  |false=>
   have h':(bif Nat.beq k u then true else NK u r)=true:=h
   rw[hb] at h'
   exact A3f h'
theorem Ajo {u:Nat} {x:A}:∀{W:List Nat},DN u (Yk W)=some x→x=.dead
 | [],h=>by cases h
 |k::r,h=>by
  have h':(bif Nat.beq k u then some A.dead else DN u (Yk r))=some x:=h
  cases hb:Nat.beq k u with
  |true=>rw[hb] at h';cases h';rfl
  |false=>rw[hb] at h';exact Ajo h'
theorem Adp {i:Nat}:∀{os:List Nat},As i (Ajt os)=none
 | []=>rfl
 |k::r=>by
  show(bif Nat.beq k i then none else As i (Ajt r))=none
  cases Nat.beq k i with
  |true=>rfl
  |false=>exact Adp
theorem Adl {i:Nat}:∀{os:List Nat},i∈os→i∈I8 (Ajt os)
 | [],h=>by cases h
 |k::r,h=>by
  rcases List.mem_cons.1 h with rfl|h
  ·exact List.mem_cons_self ..
  ·exact List.mem_cons_of_mem _ (Adl h)
theorem PR {W os:List Nat} {sA:St} {t:Tag}:∀{o:Bw},AP t (Lx W os sA o)=match AP t o with|some (c,s)=>some (c,Ao8 W os sA s)|none=>none
 | []=>rfl
 |(k,c,s)::r=>by
  show(bif EX k t then some (c,Ao8 W os sA s) else AP t (Lx W os sA r))=match(bif EX k t then some (c,s) else AP t r) with|some (c,s)=>some (c,Ao8 W os sA s)|none=>none
  cases EX k t with
  |true=>rfl
  |false=>exact PR
theorem Apu {W os:List Nat} {sA:St}:∀{o:Bw},ME o→ME (Lx W os sA o)
 | [],_=>trivial
 |(k,c,s)::r,⟨h1,h2⟩=>⟨by rw[PR,h1],Apu h2⟩
theorem Bay {Z:Base} {F F':Nat→Prop} {N N':Nm} {sA st:St} {a a':Act} {R R':World} {nb nx1:Nat} {L:Hl} {os W:List Nat} (h:Rel Z F N sA a R) (hn:st.n=sA.n) (hW:∀u,NK u W=true→Z.W u) (hnb:sA.nx=nb) (hL:okL nb nx1 L=true)
  (h':Rel ⟨F,nm3 N nb L,nb,VF L sA.o os,R,Bl a,fun u=>NK u W=true⟩ F' N' st a' R'):Rel Z F' N' (Ao8 W os sA st) a' R':=by
 subst hnb
 let o1:=Ady sA.o os
 have ho1:∀i ob,As i o1=some ob→As i sA.o=some ob:=fun i ob hi=>(LD hi).1
 have hfoot:∀g,Foot (nm3 N sA.nx L) (VF L sA.o os) g→Foot N o1 g:=fun g ⟨j,ob',hj,hg⟩=>by
  obtain⟨i,ob,hi,h1,h2,rfl⟩:=Oj hj
  have hlt:=(h.hp.ob i ob h2).1
  refine⟨i,ob,?_,(Yr (pk3 (N:=N) (n:=sA.nx) hL) hlt h1).1 hg⟩
  have:∀{l:List Nat},i∈l→As i (Ady sA.o l)=As i sA.o:=fun {l}=>by
   induction l with
   |nil=>intro hm;cases hm
   | cons k r ih=>
    intro hm
    show(bif Nat.beq k i then As k sA.o else As i (Ady sA.o r))=_
    cases hb:Nat.beq k i with
    |true=>rw[Nat.eq_of_beq_eq_true hb];rfl
    |false=>
     rcases List.mem_cons.1 hm with rfl|hm
     ·simp at hb
     ·exact ih hm
  rw[this hi]
  exact h2
 have st1:Step F N sA.nx o1 R F' N' st.nx st.o R':=⟨h'.st.le,fun i hi=>by
   have:=h'.st.b i hi
   rw[this]
   show N.b (Af4 sA.nx L i)=_
   rw[Re hi],fun i hi=>by
   have:=h'.st.q i hi
   rw[this]
   show N.q (Af4 sA.nx L i)=_
   rw[Re hi],h'.st.f,fun g hg=>by
   rcases h'.st.fnew g hg with h1|h1|h1
   ·exact .inl h1
   ·exact .inr (.inl (hfoot g h1))
   ·exact .inr (.inr h1),fun g hg=>by
   rcases h'.st.foot g hg with h1|h1
   ·exact .inl (hfoot g h1)
   ·exact .inr h1,h'.st.os,h'.st.tape,h'.st.output,h'.st.size,fun g hg hn=>h'.st.keep g hg fun hf=>hn (hfoot g hf)⟩
 obtain⟨q1,q2⟩:=h.hp.frame (o':=st.o++(Ajt os++sA.o)) ho1 st1 h'.hp fun i ob hi=>by
  rcases LE hi with⟨_,h1⟩|⟨_,h1⟩
  ·exact .inl h1
  ·rcases LE h1 with⟨_,h2⟩|⟨h2,h3⟩
   ·rw[Adp] at h2;cases h2
   ·refine .inr ⟨h3,?_⟩
    cases h4:As i o1 with
    |none=>rfl
    |some ob2=>exact absurd (Adl (LD h4).2) h2
 have htm:∀u,NK u W=false→Bl a' u=Bl a u:=fun u hu=>h'.tm u fun hh=>by
  have hh':NK u W=true:=hh
  rw[hu] at hh';cases hh'
 refine⟨h'.defers,h'.size.trans hn,fun u x hu=>?_,q1,h.st.trans q2,fun u hu=>?_⟩
 ·have hu':DN u (st.t++(Yk W++S8 W sA.t))=some x:=hu
  rw[Ok] at hu'
  cases h1:DN u st.t with
  |some y=>rw[h1] at hu';cases hu';exact h'.slots u x h1
  | none=>
   rw[h1] at hu'
   have hu2:DN u (Yk W++S8 W sA.t)=some x:=hu'
   rw[Ok] at hu2
   cases h2:DN u (Yk W) with
   |some y=>rw[h2] at hu2;cases hu2;rw[Ajo h2];exact(Ac rfl).2 (.dead _)
   | none=>
    rw[h2] at hu2
    have hu3:DN u (S8 W sA.t)=some x:=hu2
    have hw:NK u W=false:=by
     cases hw:NK u W with
     |false=>rfl
     |true=>rw[A3f hw] at h2;cases h2
    rcases Rf hu3 with rfl|⟨k1,k2⟩
    ·exact(Ac rfl).2 (.dead _)
    ·rw[htm u hw]
     exact HS.congrW htm k2 ((h.slots u x k1).step (q2.ext h.hp))
 ·rw[h'.tm u fun hw=>hu (hW u hw)]
  exact h.tm u hu
theorem Bb5 {E:Env} (ok:SE E) {u:Nat} {b:Code} {S:DS} {En:Eh} {X:Type} {T:X→St} {unT:St→Option X} {fuel:X→Nat} {next:X→X} {goes:X→Cnd} {psA ps:X→List Prop} {outs:X→Bw} (hS:okL S.nb S.nx1 S.ren=true) (hnb:S.nb≤S.nx1)
  (hr:∀x,Ce E u b S (T x)=some (psA x,outs x,goes x,T (next x))) (hA:∀x,(∀p∈ps x,p)→∀p∈psA x,p) (hu:∀s x,unT s=some x→s=T x)
  (hw:∀x,ME (outs x)∧∀t c y,AP t (outs x)=some (c,y)→y.n=(T x).n) (hTn:∀x y,(T x).n=(T y).n) {s:St} {b0:Code} {qs:List Prop} {os:Bw} (he:HZ E b S En unT fuel next goes ps outs s=some (b0,qs,os)):
  Wf s ⟨qs,os,none⟩∧BY E b0 s qs os:=by
 unfold HZ at he
 split at he<;>first|(cases he;done)|skip
 rename_i sA ps1 hAd
 cases hq1:Nat.beq sA.nx S.nb with
 |false=>rw[hq1] at he;cases he
 | true=>
  cases hq2:okL S.nb S.nx1 En.ren with
  |false=>rw[hq1,hq2] at he;cases he
  | true=>
   rw[hq1,hq2] at he
   simp only[cond_true] at he
   split at he<;>first|(cases he;done)|skip
   rename_i x hx
   cases he
   have hnx:=Nat.eq_of_beq_eq_true hq1
   have hT:=hu _ _ hx
   have hsub:=A2z hAd
   have hnT:∀y,(T y).n=sA.n:=fun y=>by rw[hTn y x,←hT];rfl
   refine⟨⟨fun t c y hy=>?_,fun y hy=>(by cases hy),Apu (hw _).1⟩,?_⟩
   ·have hy':AP t (Lx (QV b) En.os sA (outs (BA next goes (fuel x) x)))=some (c,y):=hy
    rw[PR] at hy'
    split at hy'<;>first|(cases hy';done)|skip
    cases hy'
    obtain⟨d,hd⟩:=hsub.seq
    exact⟨hsub.n,by show ∃d,_++(Ajt En.os++sA.o)=d++s.o;rw[hd];exact⟨_,by rw[←List.append_assoc,←List.append_assoc]⟩⟩
   ·intro Z F N a R Q h hW hp hk
    have hp1:∀p∈ps1,p:=fun p hm=>hp p (List.mem_append.2 (.inl hm))
    have hneed:AE next goes ps (fuel x) x:=hp _ (List.mem_append.2 (.inr (List.mem_singleton.2 rfl)))
    obtain⟨F1,N1,h1⟩:=Ayt ⟨F,N,h⟩ hAd hp1
    have hpick:=(h1.start (QV b)).pick (L:=En.ren) hq2 (by show sA.nx≤S.nb;omega) (by show sA.nx≤S.nx1;omega) En.us En.os
    have hrel:Rel ⟨F1,nm3 N1 S.nb En.ren,S.nb,VF En.ren sA.o En.os,R,Bl a,fun u=>NK u (QV b)=true⟩ F1 (nm3 N1 S.nb En.ren) (T x) a R:=by
     rw[←hT]
     exact⟨hpick.defers,hpick.size,hpick.slots,hpick.hp,⟨hnb,fun _ _=>rfl,fun _ _=>rfl,fun _ h=>h,fun _ h=> .inl h,fun _ h=> .inl h,rfl,rfl,rfl,Nat.le_refl _,fun _ _ _=>rfl⟩,fun _ _=>rfl⟩
    refine wp_loop_rounds (fuel x+1) (Bbm ok (u:=u) (b:=b) hS hnb hr hA (Nat.le_refl _) (fun u hu=>hu) (fuel x) x a R ⟨F1,_,hrel⟩ hneed fun e y a' R' ho ⟨F2,N2,hy⟩=>?_)
    rcases ho with⟨t,c,rfl,g1,g2,g3⟩|⟨rfl,g1,g2⟩
    ·have g1':AP t (outs (BA next goes (fuel x) x))=some (c,y):=g1
     refine hk _ (Ao8 (QV b) En.os sA y) F2 N2 a' R' (.inl ⟨t,c,rfl,by show AP t (Lx _ _ _ _)=_;rw[PR,g1'],g2,fun t' c' s' hne hg=>?_⟩) (Bay h1 (by rw[(hw _).2 t c y g1',hnT]) hW hnx hq2 hy)
     have hg':AP t' (Lx (QV b) En.os sA (outs (BA next goes (fuel x) x)))=some (c',s'):=hg
     rw[PR] at hg'
     split at hg'<;>first|(cases hg';done)|skip
     rename_i c1 z hz
     cases hg'
     exact g3 t' _ z hne hz
    ·cases g1
end
end Go.Proofs.Yteebobbhhgmeiaa
namespace Go.Proofs.Yteebobbhhgmeiaa
open Go.RowKit
def zc:TC→List Value
 | .u8=>[.int .u8 0]
 | .i64=>[.int .i64 0]
 | .u32=>[.int .u32 0]
 | .bool=>[.bool false]
 | .str=>[.string ByteArray.empty]
 | .bytes=>[.slice none 0 0]
 | .ints=>[.slice none 0 0]
 | .cells=>[.slice none 0 0]
 | .rows=>[.slice none 0 0]
 | .digest=>List.replicate 32 (.int .u8 0)
 |c=>(enc c (Ae c)).map fun x=>match x with
  | .v y=>y
  |_=> .slice none 0 0
theorem Bgc (c:TC) (F:Nat→Prop) (N:Nm) (nx:Nat) (R:World):HL F N nx R (enc c (Ae c)) (zc c):=by
 cases c<;>(repeat' (first|exact HL.nil|exact Hv.v _|exact Hv.sl_nil rfl|apply HL.cons))
def FR (P:Program) (t:TypeId):Option (Nat×Option (List Value)):=(P.info? t).map fun i=>(i.size,i.zero.map fun z=>z.cells.toList)
theorem A9x {P:Program} {t:TypeId} {c:TC} (h:FR P t=some (size c,some (zc c))) (h0:0 <size c):∃i,P.info? t=some i∧i.size=size c∧0 <size c∧∃z,i.zero=some z∧∀(F:Nat→Prop) (N:Nm) (nx:Nat) (R:World),HL F N nx R (enc c (Ae c)) z.cells.toList:=by
 unfold FR at h
 cases hi:P.info? t with
 |none=>rw[hi] at h;cases h
 | some i=>
  rw[hi] at h
  have h':some (i.size,i.zero.map fun z=>z.cells.toList)=some (size c,some (zc c)):=h
  injection h' with h'
  injection h' with h1 h2
  cases hz:i.zero with
  |none=>rw[hz] at h2;cases h2
  |some z=>
   rw[hz] at h2
   injection h2 with h2
   have h3:z.cells.toList=zc c:=h2
   exact⟨i,rfl,h1,h0,z,hz,fun F N nx R=>by rw[h3];exact Bgc c F N nx R⟩
theorem A89 (c:TC):0 <size c:=by cases c<;>decide
def A9y (t:TypeId):Option TC:=bif Nat.beq t 2 then some .i64 else bif Nat.beq t 3 then some .i64 else bif Nat.beq t 4 then some .bool else bif Nat.beq t 5 then some .u8 else bif Nat.beq t 9 then some .str else bif Nat.beq t 25 then some .front else bif Nat.beq t 26 then some .i64 else bif Nat.beq t 30 then some .vec else bif Nat.beq t 31 then some .vec else bif Nat.beq t 33 then some .told else bif Nat.beq t 37 then some .front else bif Nat.beq t 51 then some .stamp else bif Nat.beq t 53 then some .ask else bif Nat.beq t 55 then some .cell else bif Nat.beq t 67 then some .rows else bif Nat.beq t 69 then some .cells else bif Nat.beq t 71 then some .row else bif Nat.beq t 79 then some .group else bif Nat.beq t 84 then some .bytes else bif Nat.beq t 94 then some .view else bif Nat.beq t 108 then some .three else bif Nat.beq t 112 then some .two else bif Nat.beq t 133 then some .ints else bif Nat.beq t 136 then some .change else bif Nat.beq t 139 then some .write else bif Nat.beq t 142 then some .field else bif Nat.beq t 226 then some .place else bif Nat.beq t 239 then some .u32 else none
theorem Bcd:FR Try.prog 2=some (size .i64,some (zc .i64)):=by kernel_rfl
theorem Bce:FR Try.prog 3=some (size .i64,some (zc .i64)):=by kernel_rfl
theorem Bcf:FR Try.prog 4=some (size .bool,some (zc .bool)):=by kernel_rfl
theorem Bcg:FR Try.prog 5=some (size .u8,some (zc .u8)):=by kernel_rfl
theorem Bch:FR Try.prog 9=some (size .str,some (zc .str)):=by kernel_rfl
theorem A9i:FR Try.prog 25=some (size .front,some (zc .front)):=by kernel_rfl
theorem A9j:FR Try.prog 26=some (size .i64,some (zc .i64)):=by kernel_rfl
theorem A9k:FR Try.prog 30=some (size .vec,some (zc .vec)):=by kernel_rfl
theorem A9l:FR Try.prog 31=some (size .vec,some (zc .vec)):=by kernel_rfl
theorem A9m:FR Try.prog 33=some (size .told,some (zc .told)):=by kernel_rfl
theorem A9n:FR Try.prog 37=some (size .front,some (zc .front)):=by kernel_rfl
theorem A9o:FR Try.prog 51=some (size .stamp,some (zc .stamp)):=by kernel_rfl
theorem A9p:FR Try.prog 53=some (size .ask,some (zc .ask)):=by kernel_rfl
theorem A9q:FR Try.prog 55=some (size .cell,some (zc .cell)):=by kernel_rfl
theorem A9r:FR Try.prog 67=some (size .rows,some (zc .rows)):=by kernel_rfl
theorem A9s:FR Try.prog 69=some (size .cells,some (zc .cells)):=by kernel_rfl
theorem A9t:FR Try.prog 71=some (size .row,some (zc .row)):=by kernel_rfl
theorem A9u:FR Try.prog 79=some (size .group,some (zc .group)):=by kernel_rfl
theorem A9v:FR Try.prog 84=some (size .bytes,some (zc .bytes)):=by kernel_rfl
theorem A9w:FR Try.prog 94=some (size .view,some (zc .view)):=by kernel_rfl
theorem A5q:FR Try.prog 108=some (size .three,some (zc .three)):=by kernel_rfl
theorem A5r:FR Try.prog 112=some (size .two,some (zc .two)):=by kernel_rfl
theorem A5s:FR Try.prog 133=some (size .ints,some (zc .ints)):=by kernel_rfl
theorem A5t:FR Try.prog 136=some (size .change,some (zc .change)):=by kernel_rfl
theorem A5u:FR Try.prog 139=some (size .write,some (zc .write)):=by kernel_rfl
theorem A5v:FR Try.prog 142=some (size .field,some (zc .field)):=by kernel_rfl
theorem A5w:FR Try.prog 226=some (size .place,some (zc .place)):=by kernel_rfl
theorem A5x:FR Try.prog 239=some (size .u32,some (zc .u32)):=by kernel_rfl
theorem Ef {P:Program} {t k:TypeId} {c c0:TC} {r:Option TC} (h:(bif Nat.beq t k then some c0 else r)=some c) (hk:FR P k=some (size c0,some (zc c0))):FR P t=some (size c,some (zc c))∨r=some c:=by
 cases hb:Nat.beq t k with
 |true=>rw[hb] at h;cases h;rw[Nat.eq_of_beq_eq_true hb];exact .inl hk
 |false=>rw[hb] at h;exact .inr h
theorem A9z:Bgg Try.prog A9y:=fun t c h=>by
 refine A9x ?_ (A89 c)
 unfold A9y at h
 rcases Ef h Bcd with h|h
 ·exact h
 rcases Ef h Bce with h|h
 ·exact h
 rcases Ef h Bcf with h|h
 ·exact h
 rcases Ef h Bcg with h|h
 ·exact h
 rcases Ef h Bch with h|h
 ·exact h
 rcases Ef h A9i with h|h
 ·exact h
 rcases Ef h A9j with h|h
 ·exact h
 rcases Ef h A9k with h|h
 ·exact h
 rcases Ef h A9l with h|h
 ·exact h
 rcases Ef h A9m with h|h
 ·exact h
 rcases Ef h A9n with h|h
 ·exact h
 rcases Ef h A9o with h|h
 ·exact h
 rcases Ef h A9p with h|h
 ·exact h
 rcases Ef h A9q with h|h
 ·exact h
 rcases Ef h A9r with h|h
 ·exact h
 rcases Ef h A9s with h|h
 ·exact h
 rcases Ef h A9t with h|h
 ·exact h
 rcases Ef h A9u with h|h
 ·exact h
 rcases Ef h A9v with h|h
 ·exact h
 rcases Ef h A9w with h|h
 ·exact h
 rcases Ef h A5q with h|h
 ·exact h
 rcases Ef h A5r with h|h
 ·exact h
 rcases Ef h A5s with h|h
 ·exact h
 rcases Ef h A5t with h|h
 ·exact h
 rcases Ef h A5u with h|h
 ·exact h
 rcases Ef h A5v with h|h
 ·exact h
 rcases Ef h A5w with h|h
 ·exact h
 rcases Ef h A5x with h|h
 ·exact h
 cases h
end Go.Proofs.Yteebobbhhgmeiaa
