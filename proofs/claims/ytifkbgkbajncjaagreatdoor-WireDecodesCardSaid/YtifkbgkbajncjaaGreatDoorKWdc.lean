/- made by a program (rowgen.py): WireDecodes: for every input the law returns true, and each argument reads behind the call as it read before. -/
import Derived.Test.YtifkbgkbajncjaaGreatDoorKWdb

noncomputable section
namespace Go.Proofs.YtifkbgkbajncjaaGreatDoor
open Go.RowKit
abbrev El:=Option Bool
def BJ:El→Bool
 |none=>true
 |some b=>b
def Om:El→El→El
 |none,y=>y
 |some a,none=>some a
 |some a,some b=>some (a&&b)
def orO:El→El→El
 |none,_=>none
 |some _,none=>none
 |some a,some b=>some (a||b)
def Axd:El→El
 |none=>some false
 |some a=>some (!a)
def Brl (g:Bool):El→El→El
 |none,none=>none
 |some a,none=>some (!g||a)
 |none,some b=>some (g||b)
 |some a,some b=>some (bif g then a else b)
theorem BZ (x y:El):BJ (Om x y)=(BJ x&&BJ y):=by cases x<;>cases y<;>simp[Om,BJ]
theorem Af3 (x y:El):BJ (orO x y)=(BJ x||BJ y):=by cases x<;>cases y<;>simp[orO,BJ]
theorem Af2 (x:El):BJ (Axd x)=!(BJ x):=by cases x<;>rfl
theorem Uh (g:Bool) (x y:El):BJ (Brl g x y)=bif g then BJ x else BJ y:=by cases x<;>cases y<;>cases g<;>simp[Brl,BJ]
def Bl0:El→List Prop
 |none=>[]
 |some b=>[b=true]
theorem A2b {c:El} (h:BJ c=true):∀q∈Bl0 c,q:=fun q hq=>by
 cases c with
 |none=>cases hq
 |some b=>obtain rfl:=List.mem_singleton.1 hq;exact h
def Azz (ops:List Oper) (j:Nat):Option Tmp:=match ops[j]? with
 |some o=>o.dst
 |none=>none
abbrev E4:=El×Nat×St×List Prop
def onL:List E4→(St→Prop)→Prop
 | [],_=>False
 |(c,_,s,_)::r,K=>(BJ c=true∧K s)∨(BJ c=false∧onL r K)
def PY:List E4→Prop
 | []=>True
 |(c,_,_,ps)::r=>(BJ c=true→∀p∈ps,p)∧PY r
def FM:List E4→Nat
 | []=>0
 |(_,k,_,_)::r=>Nat.max k (FM r)
def VH (s:St) (dst:Option Tmp) (f:T6):Option St:=match dst with
 |some d=>bif Nat.blt d s.n then some (St.put ⟨s.n,f.nx,s.t,f.o⟩ d f.x) else none
 |none=>some ⟨s.n,f.nx,s.t,f.o⟩
def St.lit (s:St) (u:Nat) (b:Bool):St:={s with t:=(u,.v (.bool b))::s.t}
def VI (E:Env) (s:St) (G:AQ) (o:Oper):R2:=bif Atk o.op then none else Bx3 E s G o
def doE (E:Env) (s:St) (G:AQ) (o:Oper) (c:El) (ps:List Prop):Option E4:=match opE E s G o with
 |some f=>match VH s o.dst f with
  |some s'=>some (c,f.k,s',ps++f.ps)
  |none=>none
 |none=>none
def Ao5 (s:St) (o:Oper):Option St:=match o.dst with
 |some d=>bif Nat.blt d s.n then some (s.put d (.v undef)) else none
 |none=>some s
def P5 (E:Env) (ops:List Oper) (s:St) (o:Oper):Option (List E4):=
 match o.guard with
 |none=>match doE E s [] o none [] with
  |some x=>some [x]
  |none=>none
 | some (j,b)=>match Azz ops j with
  | some u=>match E.lit with
   | true=>match s.raw [] (.tmp u) with
    | some (.bool c)=>match Aww c b with
     |true=>match doE E s (W0 s 5 u b) o none [] with
      |some x=>some [x]
      |none=>none
     |false=>match Ao5 s o with
      |some s'=>some [(none,0,s',[])]
      |none=>none
    |_=>none
   | false=>match VI E s (W0 s 5 u b) o with
    |some (x,ps)=>match o.dst with
     |some d=>bif Nat.blt d s.n then(bif Nat.beq d u then none else some [(none,0,s.put d (.opt u b x),Us (Vw s (W0 s 5 u b) (W0 s 5 u b)) ps)]) else none
     |none=>none
    | none=>match s.raw [] (.tmp u) with
     |some (.bool c)=>match doE E (s.lit u b) (W0 s 5 u b) o (some (bif b then c else !c)) [],Ao5 (s.lit u (!b)) o with
      |some x,some s'=>some [x,(none,0,s',[])]
      |_,_=>none
     |_=>none
  |none=>none
section
variable {E:Env} {Z:FG} {F:Nat→Prop} {N:Nm} {s:St} {a:Act} {R:World}
theorem FI (tm:Nat→Value):P6 tm []:=fun _ _ h=>by cases h
theorem Hv.isPlain {nx:Nat} {x:A} {v:Value} (h:Hv F N nx R x v):x.plain=true:=by cases h<;>rfl
theorem Afh {ops:List Oper} {o:Oper} {j u:Nat} {b:Bool} (hg:o.guard=some (j,b)) (hu:Azz ops j=some u) (a:Act):Region.wanted o (yielded ops.toArray a.tmps)=true↔BH a u=.bool b:=by
 unfold Region.wanted yielded BH
 rw[hg]
 have:(ops.toArray[j]?).bind (·.dst)=some u:=by
  unfold Azz at hu
  rw[List.getElem?_toArray]
  cases ho:ops[j]? with
  |none=>rw[ho] at hu;cases hu
  |some o'=>rw[ho] at hu;exact hu
 simp only[this,Option.bind_some]
 rw[Array.getD_eq_getD_getElem?]
 cases hv:a.tmps[u]? with
 |none=>simp[undef]
 |some v=>
  cases v<;>simp
theorem LL {o:Oper} (hg:o.guard=none) (y:Nat→Option Bool):Region.wanted o y=true:=by
 unfold Region.wanted
 rw[hg]
theorem Rel.lit (h:Rel Z F N s a R) {u:Nat} {b:Bool} (hu:BH a u=.bool b):Rel Z F N (s.lit u b) a R:=
 ⟨h.defers,h.size,fun v x hv=>by
  have ed:(bif Nat.beq u v then some (A.v (.bool b)) else DV v s.t)=some x:=hv
  cases hb:Nat.beq u v with
  |true=>
   rw[hb] at ed
   obtain rfl:=Nat.eq_of_beq_eq_true hb
   cases ed
   rw[hu]
   exact(Ac rfl).2 (.v _)
  |false=>rw[hb] at ed;exact h.slots v x ed,h.hp,h.st,h.tm⟩
theorem Bkj (h:Rel Z F N s a R) {dst:Option Tmp} {f:T6} {s':St} (he:VH s dst f=some s') (hW:∀d,dst=some d→Z.W d) {v:Value} {R':World} (hk:EK F N s.nx s.o R f v R'):
  ∃F' N',Rel Z F' N' s' (a.put dst v) R':=by
 obtain⟨F',N',h1,h2,h3,_⟩:=hk
 have hr:=h.heap h2 h1
 unfold VH at he
 split at he
 ·rename_i d
  cases hd:Nat.blt d s.n with
  |false=>rw[hd] at he;cases he
  |true=>
   rw[hd] at he
   cases he
   exact⟨F',N',hr.put (Nat.le_of_ble_eq_true hd) (hW d rfl) v ((Ac h3.isPlain).2 h3)⟩
 ·cases he
  exact⟨F',N',hr⟩
theorem Ah4 (h:Rel Z F N s a R) {o:Oper} {s':St} (he:Ao5 s o=some s') (hW:∀d,o.dst=some d→Z.W d):Rel Z F N s' (a.put o.dst undef) R:=by
 unfold Ao5 at he
 split at he
 ·rename_i d hd
  cases hb:Nat.blt d s.n with
  |false=>rw[hb] at he;cases he
  |true=>
   rw[hb] at he
   cases he
   rw[hd]
   exact h.put (Nat.le_of_ble_eq_true hb) (hW d hd) undef ((Ac rfl).2 (.v _))
 ·rename_i hd
  cases he
  rw[hd]
  exact h
theorem Bqf (ok:EnvOk E) (h:Rel Z F N s a R) {G:AQ} (hG:P6 (BH a) G) {o:Oper} {c c':El} {k:Nat} {s':St} {ps qs:List Prop} (he:doE E s G o c qs=some (c',k,s',ps)) (hp:∀p∈ps,p) (hW:∀d,o.dst=some d→Z.W d):
  c'=c∧Hy E.P (fun v R'=>(k≤1→Below R.heap.size R R')∧∃F' N',Rel Z F' N' s' (a.put o.dst v) R') ((execOp a.eval o).run E.P R):=by
 unfold doE at he
 split at he<;>try (cases he;done)
 rename_i f hf
 split at he<;>try (cases he;done)
 rename_i s1 hs
 cases he
 refine⟨rfl,DL (B6b ok h hG hf fun p hm=>hp p (List.mem_append.2 (.inr hm))) fun v R' hk=>⟨?_,Bkj h hs hW hk⟩⟩
 obtain⟨_,_,_,_,_,h4⟩:=hk
 exact h4
theorem Azl {c b:Bool} (f8:(bif b then c else !c)=true):c=b:=by cases b<;>cases c<;>first|rfl|cases f8
theorem Ar2 {c b:Bool} (f8:(bif b then c else !c)=false):c=!b:=by cases b<;>cases c<;>first|rfl|cases f8
theorem Awg (ok:EnvOk E) (h:Rel Z F N s a R) {ops:List Oper} {o:Oper} {l:List E4} (he:P5 E ops s o=some l) (hp:PY l) (hW:∀d,o.dst=some d→Z.W d):
  (Region.wanted o (yielded ops.toArray a.tmps)=true∧Hy E.P (fun v R'=>(FM l≤1→Below R.heap.size R R')∧onL l fun s'=>∃F' N',Rel Z F' N' s' (a.put o.dst v) R') ((execOp a.eval o).run E.P R))∨
  (Region.wanted o (yielded ops.toArray a.tmps)=false∧onL l fun s'=>∃F' N',Rel Z F' N' s' (a.put o.dst undef) R):=by
 have one:∀{G:AQ} {x:E4},P6 (BH a) G→doE E s G o none []=some x→l=[x]→Hy E.P (fun v R'=>(FM l≤1→Below R.heap.size R R')∧onL l fun s'=>∃F' N',Rel Z F' N' s' (a.put o.dst v) R') ((execOp a.eval o).run E.P R):=fun {G x} hG hx hl=>by
  obtain⟨c,k,s',ps⟩:=x
  subst hl
  have hc:c=none:=by
   unfold doE at hx
   split at hx<;>try (cases hx;done)
   split at hx<;>try (cases hx;done)
   cases hx;rfl
  subst hc
  obtain⟨_,h2⟩:=Bqf ok h hG hx (hp.1 rfl) hW
  exact DL h2 fun v R' ⟨h3,h4⟩=>⟨fun hk=>h3 (Nat.le_trans (Nat.le_max_left ..) hk),.inl ⟨rfl,h4⟩⟩
 unfold P5 at he
 split at he
 ·rename_i hg
  split at he<;>try (cases he;done)
  rename_i x hx
  cases he
  exact .inl ⟨LL hg _,one (FI _) hx rfl⟩
 ·rename_i j b hg
  split at he<;>try (cases he;done)
  rename_i u hu
  have wt:=Afh hg hu a
  have wf:BH a u≠.bool b→Region.wanted o (yielded ops.toArray a.tmps)=false:=fun hn=>by
   cases hw:Region.wanted o (yielded ops.toArray a.tmps) with
   |false=>rfl
   |true=>exact absurd (wt.1 hw) hn
  split at he
  ·split at he<;>try (cases he;done)
   rename_i c hc
   have dg:BH a u=.bool c:=EP h (FI _) hc
   split at he
   ·rename_i hb
    obtain rfl:=Zq hb
    split at he<;>try (cases he;done)
    rename_i x hx
    cases he
    exact .inl ⟨wt.2 dg,one (ZE h 5 u c dg) hx rfl⟩
   ·rename_i hb
    split at he<;>try (cases he;done)
    rename_i s' hs
    cases he
    refine .inr ⟨wf fun e=>?_,.inl ⟨rfl,F,N,Ah4 h hs hW⟩⟩
    rw[dg] at e
    cases e
    cases b<;>cases hb
  ·split at he
   ·rename_i x ps hq
    split at he<;>try (cases he;done)
    rename_i d hd
    cases hb:Nat.blt d s.n with
    |false=>rw[hb] at he;cases he
    | true=>
     cases hdu:Nat.beq d u with
     |true=>rw[hb,hdu] at he;cases he
     | false=>
      rw[hb,hdu] at he
      cases he
      have ao:u≠d:=fun e=>by subst e;simp at hdu
      have kl:=Nat.le_of_ble_eq_true hb
      unfold VI at hq
      cases hl:Atk o.op with
      |true=>rw[hl] at hq;cases hq
      | false=>
       rw[hl] at hq
       by_cases hw:BH a u=.bool b
       ·have hG:=ZE h 5 u b hw
        have cu:=NK (hp.1 rfl) (Uu h hG (As1 h 5 u b hw))
        obtain⟨v,h1,h2⟩:=Bhk ok h hG hq cu
        refine .inl ⟨wt.2 hw,?_⟩
        have h3:=h2 R (Below.refl _ _)
        have RM:∀R',Below R.heap.size R R'→(FM [((none:El),0,s.put d (.opt u b x),Us (Vw s (W0 s 5 u b) (W0 s 5 u b)) ps)]≤1→Below R.heap.size R R')∧onL [((none:El),0,s.put d (.opt u b x),Us (Vw s (W0 s 5 u b) (W0 s 5 u b)) ps)] fun s'=>∃F' N',Rel Z F' N' s' (a.put o.dst v) R':=fun R' pq=>
         ⟨fun _=>pq,.inl ⟨rfl,F,N,by
          rw[hd]
          refine((h.put (x:=.opt u b x) kl (hW d hd) v ?_).grow pq)
          simp only[HS]
          exact⟨fun _=>(Ac h1.isPlain).2 h1,fun hn=>absurd (by rw[O2 _ ao];exact hw) hn⟩⟩⟩
        generalize (execOp a.eval o).run E.P R=r at*
        cases r with
        |halt x w=>exact h3.elim
        | ok n w=>
         cases n<;>simp only[Oper.quietUpon] at h3<;>simp only[Hy]
         case value y=>
          obtain⟨e1,e2⟩:=h3
          rw[e1,e2]
          exact RM R (Below.refl _ _)
         case skip=>
          obtain⟨e1,e2⟩:=h3
          rw[e1,←e2]
          exact RM R (Below.refl _ _)
         case enter f args=>
          obtain⟨e1,hc⟩:=h3
          rw[e1]
          exact hc.mono fun e bp ⟨he,gk⟩=>⟨v,he,RM _ gk⟩
       ·refine .inr ⟨wf hw,.inl ⟨rfl,F,N,?_⟩⟩
        rw[hd]
        refine h.put (x:=.opt u b x) kl (hW d hd) undef ?_
        simp only[HS]
        exact⟨fun hn=>absurd (by rw[O2 _ ao] at hn;exact hn) hw,fun _=>trivial⟩
   ·split at he<;>try (cases he;done)
    rename_i c hc
    have dg:BH a u=.bool c:=EP h (FI _) hc
    split at he<;>try (cases he;done)
    rename_i x s' hx hs
    obtain⟨cx,k,sx,ps⟩:=x
    cases he
    cases f8:(bif b then c else !c) with
    | true=>
     have e1:=Azl f8
     subst e1
     have ri:cx=some (bif c then c else !c):=by
      unfold doE at hx
      split at hx<;>try (cases hx;done)
      split at hx<;>try (cases hx;done)
      cases hx;rfl
     have oc:BJ cx=true:=by rw[ri];exact f8
     obtain⟨_,h2⟩:=Bqf ok (h.lit dg) (ZE h 5 u c dg) hx (hp.1 oc) hW
     exact .inl ⟨wt.2 dg,DL h2 fun v R' ⟨h3,h4⟩=>⟨fun hk=>h3 (Nat.le_trans (Nat.le_max_left ..) hk),.inl ⟨oc,h4⟩⟩⟩
    | false=>
     have e1:=Ar2 f8
     have ri:cx=some (bif b then c else !c):=by
      unfold doE at hx
      split at hx<;>try (cases hx;done)
      split at hx<;>try (cases hx;done)
      cases hx;rfl
     have oc:BJ cx=false:=by rw[ri];exact f8
     refine .inr ⟨wf fun e=>?_,.inr ⟨oc,.inl ⟨rfl,F,N,Ah4 (h.lit (by rw[dg,e1])) hs hW⟩⟩⟩
     rw[dg,e1] at e
     cases b<;>cases e
end
def Y5 (o:AE):Nat→A→List Nat
 |0,_=>[]
 | d+1,x=>match x with
  | .sq i=>(match Ai i o with
   |some (.arr _ _ (.lst cs))=>cs.flatMap fun l=>l.flatMap (Y5 o d)
   |_=>[])++[i]
  | .vw i _ _ _ _=>(match Ai i o with
   |some (.arr _ _ (.lst cs))=>cs.flatMap fun l=>l.flatMap (Y5 o d)
   |_=>[])++[i]
  | .dq i=>[i]
  | .iv i _=>[i]
  | .vr i _ _ _=>[i]
  | .vd i _ _ _=>[i]
  | .yl i=>[i]
  | .agg xs=>xs.flatMap (Y5 o d)
  | .tup xs=>xs.flatMap (Y5 o d)
  |_=>[]
def opV (s:St) (x:Operand):A:=match s.ev [] x with
 |some z=>z
 | none=>match x with
  | .tmp t=>match s.get t with
   |some (.opt _ _ z)=>z
   |_=> .dead
  |_=> .dead
def Bpr (s:St) (o:Oper):List Nat:=match o.op with
 | .call {callee:=.value _,args, .. }=>args.toList.flatMap fun x=>Y5 s.o 4 (opV s x)
 | .call {callee:=.builtin .append,args, .. }=>match args.toList with
  | [_,y]=>match opV s y with
   | .sq i=>(Y5 s.o 4 (.sq i)).filter fun k=>!Nat.beq k i
   |y'=>Y5 s.o 4 y'
  |_=>[]
 | .store _ _ v=>Y5 s.o 4 (opV s v)
 | .indexAddr _ x _=>match opV s x with
  | .sq i=>bif Br0 s.o i then[i] else[]
  |_=>[]
 |_=>[]
def NI (E:Env):List Nat→St→St×List Prop
 | [],s=>(s,[])
 | i::r,s=>match ZB E i s with
  |some (s',ps)=>match NI E r s' with
   |(tf,qs)=>(tf,ps++qs)
  |none=>NI E r s
def A63 (ps:List Prop):List E4→List E4
 | []=>[]
 |(c,k,s,qs)::r=>(c,k,s,ps++qs)::A63 ps r
def Arg:List E4→Bool
 | []=>false
 |(none,_,_,_)::_=>true
 |_::r=>Arg r
def Bp1 (_:AE) (_:List Nat):Bool:=false
def Bzb (s:St) (o:Oper) (ps:List Prop):List E4→Option (List E4)
 | [(none,k,s1,qs)]=>match o.guard,o.dst with
  |none,some d=>match s1.get d with
   |some (.v x)=>bif Nat.ble k 1&&Nat.blt d s.n then some [(none,k,s.put d (.v x),ps++qs)] else none
   |_=>none
  |_,_=>none
 |_=>none
def Bza (s:St) (o:Oper):Bool:=match o.op with
 | .call {callee:=.value f, .. }=>(match A15 s [] f with
  |some (g,_,_)=>Nat.beq g 54
  |none=>false)
 |_=>false
def Bjj (s:St) (o:Oper) (is:List Nat) (ps:List Prop) (l:List E4):Option (List E4):=bif Bp1 s.o is||Bza s o then Bzb s o ps l else none
def Ab1 (E:Env) (ops:List Oper) (s:St) (o:Oper):Option (List E4):=match P5 E ops s o with
 |some l=>some l
 | none=>match Bpr s o with
  | []=>none
  | i::r=>match NI E (i::r) s with
   | (s',ps)=>match P5 E ops s' o with
    |some l=>bif Arg l then(match Bjj s o (i::r) ps l with
     |some l'=>some l'
     |none=>some (A63 ps l)) else none
    |none=>none
theorem A8z {s:St} {o:Oper} {is:List Nat} {ps:List Prop} {l l':List E4} (h:Bjj s o is ps l=some l'):∃k s1 qs d x,l=[(none,k,s1,qs)]∧o.guard=none∧o.dst=some d∧s1.get d=some (.v x)∧k≤1∧d <s.n∧l'=[(none,k,s.put d (.v x),ps++qs)]:=by
 unfold Bjj at h
 cases hd:Bp1 s.o is||Bza s o with
 |false=>rw[hd] at h;cases h
 | true=>
  rw[hd,cond_true] at h
  unfold Bzb at h
  split at h<;>try (cases h;done)
  rename_i k s1 qs
  split at h<;>try (cases h;done)
  rename_i d hg og
  split at h<;>try (cases h;done)
  rename_i x hx
  cases hb:Nat.ble k 1&&Nat.blt d s.n with
  |false=>rw[hb] at h;cases h
  |true=>
   rw[hb] at h
   cases h
   rw[Bool.and_eq_true] at hb
   exact⟨k,s1,qs,d,x,rfl,hg,og,hx,Nat.le_of_ble_eq_true hb.1,Nat.le_of_ble_eq_true hb.2,rfl⟩
section
variable {E:Env} {Z:FG} {F:Nat→Prop} {N:Nm} {s:St} {a:Act} {R:World}
theorem Vu:∀{l:List Nat} {s s':St} {ps:List Prop} {F:Nat→Prop},Rel Z F N s a R→NI E l s=(s',ps)→(∀p∈ps,p)→∃F',Rel Z F' N s' a R
 | [],s,s',ps,F,h,he,_=>by cases he;exact⟨F,h⟩
 | i::r,s,s',ps,F,h,he,hp=>by
  unfold NI at he
  split at he
  ·rename_i s1 du h1
   generalize h2:NI E r s1=x at he
   obtain⟨s2,qs⟩:=x
   cases he
   obtain⟨F1,g1⟩:=Az5 h h1 fun p hm=>hp p (List.mem_append.2 (.inl hm))
   exact Vu g1 h2 fun p hm=>hp p (List.mem_append.2 (.inr hm))
  ·exact Vu h he hp
theorem Arv {K:St→Prop} {ps:List Prop}:∀{l:List E4},onL l K→onL (A63 ps l) K
 | [],h=>h
 |_::_,h=>h.imp id fun⟨a,b⟩=>⟨a,Arv b⟩
theorem Azg {ps:List Prop}:∀{l:List E4},FM (A63 ps l)=FM l
 | []=>rfl
 |(c,k,s,qs)::r=>by
  show Nat.max k (FM (A63 ps r))=Nat.max k (FM r)
  rw[Azg]
theorem Azh {ps:List Prop}:∀{l:List E4},PY (A63 ps l)→PY l
 | [],h=>h
 |(_,_,_,_)::r,⟨h1,h2⟩=>⟨fun hc p hm=>h1 hc p (List.mem_append.2 (.inr hm)),Azh (l:=r) h2⟩
theorem Azi {ps:List Prop}:∀{l:List E4},Arg l=true→PY (A63 ps l)→∀p∈ps,p
 | [],h,_=>by cases h
 |(none,k,s,qs)::r,_,⟨h1,_⟩=>fun p hm=>h1 rfl p (List.mem_append.2 (.inl hm))
 |(some _,k,s,qs)::r,h,⟨_,h2⟩=>Azi (l:=r) h h2
theorem Bto (ok:EnvOk E) (h:Rel Z F N s a R) {ops:List Oper} {o:Oper} {l:List E4} (he:Ab1 E ops s o=some l) (hp:PY l) (hW:∀d,o.dst=some d→Z.W d):
  (Region.wanted o (yielded ops.toArray a.tmps)=true∧Hy E.P (fun v R'=>(FM l≤1→Below R.heap.size R R')∧onL l fun s'=>∃F' N',Rel Z F' N' s' (a.put o.dst v) R') ((execOp a.eval o).run E.P R))∨
  (Region.wanted o (yielded ops.toArray a.tmps)=false∧onL l fun s'=>∃F' N',Rel Z F' N' s' (a.put o.dst undef) R):=by
 unfold Ab1 at he
 split at he
 ·rename_i l' hl
  cases he
  exact Awg ok h hl hp hW
 ·split at he<;>try (cases he;done)
  rename_i i r hc
  generalize hf:NI E (i::r) s=x at he
  obtain⟨s',ps⟩:=x
  simp only at he
  split at he<;>try (cases he;done)
  rename_i l' hl
  cases hn:Arg l' with
  |false=>rw[hn] at he;cases he
  | true=>
   rw[hn,cond_true] at he
   cases hle:Bjj s o (i::r) ps l' with
   | some l2=>
    rw[hle] at he
    cases he
    obtain⟨k,s1,qs,d,x,rfl,hg,og,hx,hk,kl,rfl⟩:=A8z hle
    obtain⟨F',h'⟩:=Vu h hf fun p hm=>hp.1 rfl p (List.mem_append.2 (.inl hm))
    rcases Awg ok h' hl ⟨fun _ p hm=>hp.1 rfl p (List.mem_append.2 (.inr hm)),hp.2⟩ hW with⟨h1,h2⟩|⟨h1,_⟩
    ·refine .inl ⟨h1,DL h2 fun v R' ⟨h3,h4⟩=>?_⟩
     have hB:Below R.heap.size R R':=h3 (Nat.max_le.2 ⟨hk,Nat.zero_le _⟩)
     refine⟨fun _=>hB,.inl ⟨rfl,F,N,?_⟩⟩
     rcases h4 with⟨_,F1,N1,hr⟩|h4
     ·have e:=hr.slots d (.v x) hx
      rw[og,Ao6 v (by rw[h.size];exact kl)] at e
      cases(Ac rfl).1 e
      rw[og]
      exact(h.grow hB).put kl (hW d og) _ ((Ac rfl).2 (.v _))
     ·cases h4.1
    ·rw[LL hg] at h1
     cases h1
   |none=>
   rw[hle] at he
   cases he
   obtain⟨F',h'⟩:=Vu h hf (Azi hn hp)
   rcases Awg ok h' hl (Azh hp) hW with⟨h1,h2⟩|⟨h1,h2⟩
   ·exact .inl ⟨h1,DL h2 fun v R' ⟨h3,h4⟩=>⟨fun hk=>h3 (by rw[Azg] at hk;exact hk),Arv h4⟩⟩
   ·exact .inr ⟨h1,Arv h2⟩
end
def A34 (s:St) (dst:Option Tmp) (x:A) (ps:List Prop):Option (St×List Prop):=match dst with
 |some d=>bif Nat.blt d s.n then some (s.put d x,ps) else none
 |none=>some (s,ps)
def Aba (E:Env) (ops:List Oper) (s:St) (o:Oper):Option (St×List Prop):=
 match o.guard with
 |none=>match VI E s [] o with
  |some (x,ps)=>A34 s o.dst x ps
  |none=>none
 | some (j,b)=>match Azz ops j with
  | some u=>match E.lit with
   | true=>match s.raw [] (.tmp u) with
    | some (.bool c)=>match Aww c b with
     |true=>match VI E s (W0 s 5 u b) o with
      |some (x,ps)=>A34 s o.dst x ps
      |none=>none
     |false=>A34 s o.dst (.v undef) []
    |_=>none
   | false=>match VI E s (W0 s 5 u b) o with
    |some (x,ps)=>match o.dst with
     |some d=>bif Nat.blt d s.n then(bif Nat.beq d u then none else some (s.put d (.opt u b x),Us (Vw s (W0 s 5 u b) (W0 s 5 u b)) ps)) else none
     |none=>none
    |none=>none
  |none=>none
def A61 (P:Program) (ops:List Oper) (o:Oper) (a:Act) (R:World) (v:Value):Prop:=
 (Region.wanted o (yielded ops.toArray a.tmps)=true∧∀w',Below R.heap.size R w'→Oper.quietUpon P (fun bp=>Below w'.heap.size w' bp) w' v ((execOp a.eval o).run P w'))∨
 (Region.wanted o (yielded ops.toArray a.tmps)=false∧v=undef)
section
variable {E:Env} {Z:FG} {F:Nat→Prop} {N:Nm} {s:St} {a:Act} {R:World}
theorem A35 (h:Rel Z F N s a R) {dst:Option Tmp} {x:A} {ps qs:List Prop} {s':St} (he:A34 s dst x ps=some (s',qs)) (hW:∀d,dst=some d→Z.W d) {v:Value} (hv:Hv F N s.nx R x v):qs=ps∧Rel Z F N s' (a.put dst v) R:=by
 unfold A34 at he
 split at he
 ·rename_i d
  cases hb:Nat.blt d s.n with
  |false=>rw[hb] at he;cases he
  |true=>
   rw[hb] at he
   cases he
   exact⟨rfl,h.put (Nat.le_of_ble_eq_true hb) (hW d rfl) v ((Ac hv.isPlain).2 hv)⟩
 ·cases he
  exact⟨rfl,h⟩
theorem A9y (ok:EnvOk E) (h:Rel Z F N s a R) {ops:List Oper} {o:Oper} {s':St} {ps:List Prop} (he:Aba E ops s o=some (s',ps)) (hp:∀p∈ps,p) (hW:∀d,o.dst=some d→Z.W d):
  ∃v,Rel Z F N s' (a.put o.dst v) R∧A61 E.P ops o a R v:=by
 have go:∀{G:AQ} {x:A} {qs:List Prop},P6 (BH a) G→VI E s G o=some (x,qs)→(∀p∈qs,p)→∃v,Hv F N s.nx R x v∧∀R',Below R.heap.size R R'→Oper.quietUpon E.P (fun R''=>Below R'.heap.size R' R'') R' v ((execOp a.eval o).run E.P R'):=fun {G x qs} hG hq o4=>by
  unfold VI at hq
  cases hl:Atk o.op with
  |true=>rw[hl] at hq;cases hq
  |false=>rw[hl] at hq;exact Bhk ok h hG hq o4
 unfold Aba at he
 split at he
 ·rename_i hg
  split at he<;>try (cases he;done)
  rename_i x qs hq
  have o4:qs=ps:=by
   unfold A34 at he
   split at he
   ·rename_i d _
    cases hb:Nat.blt d s.n with
    |false=>rw[hb] at he;cases he
    |true=>rw[hb] at he;cases he;rfl
   ·cases he;rfl
  subst o4
  obtain⟨v,h1,h2⟩:=go (FI _) hq hp
  exact⟨v,(A35 h he hW h1).2,.inl ⟨LL hg _,h2⟩⟩
 ·rename_i j b hg
  split at he<;>try (cases he;done)
  rename_i u hu
  have wt:=Afh hg hu a
  have wf:BH a u≠.bool b→Region.wanted o (yielded ops.toArray a.tmps)=false:=fun hn=>by
   cases hw:Region.wanted o (yielded ops.toArray a.tmps) with
   |false=>rfl
   |true=>exact absurd (wt.1 hw) hn
  split at he
  ·split at he<;>try (cases he;done)
   rename_i c hc
   have dg:BH a u=.bool c:=EP h (FI _) hc
   split at he
   ·rename_i hb
    have f8:=Zq hb
    rw[f8] at dg
    split at he<;>try (cases he;done)
    rename_i x qs hq
    have o4:qs=ps:=by
     unfold A34 at he
     split at he
     ·rename_i d _
      cases hb:Nat.blt d s.n with
      |false=>rw[hb] at he;cases he
      |true=>rw[hb] at he;cases he;rfl
     ·cases he;rfl
    subst o4
    obtain⟨v,h1,h2⟩:=go (ZE h 5 u b dg) hq hp
    exact⟨v,(A35 h he hW h1).2,.inl ⟨wt.2 dg,h2⟩⟩
   ·rename_i hb
    refine⟨undef,(A35 h he hW (.v _)).2,.inr ⟨wf fun e=>?_,rfl⟩⟩
    rw[dg] at e
    cases e
    cases b<;>cases hb
  ·split at he<;>try (cases he;done)
   rename_i x qs hq
   split at he<;>try (cases he;done)
   rename_i d hd
   cases hb:Nat.blt d s.n with
   |false=>rw[hb] at he;cases he
   | true=>
    cases hdu:Nat.beq d u with
    |true=>rw[hb,hdu] at he;cases he
    | false=>
     rw[hb,hdu] at he
     cases he
     have ao:u≠d:=fun e=>by subst e;simp at hdu
     have kl:=Nat.le_of_ble_eq_true hb
     by_cases hw:BH a u=.bool b
     ·have hG:=ZE h 5 u b hw
      obtain⟨v,h1,h2⟩:=go hG hq (NK hp (Uu h hG (As1 h 5 u b hw)))
      refine⟨v,?_,.inl ⟨wt.2 hw,h2⟩⟩
      rw[hd]
      refine h.put (x:=.opt u b x) kl (hW d hd) v ?_
      simp only[HS]
      exact⟨fun _=>(Ac h1.isPlain).2 h1,fun hn=>absurd (by rw[O2 _ ao];exact hw) hn⟩
     ·refine⟨undef,?_,.inr ⟨wf hw,rfl⟩⟩
      rw[hd]
      refine h.put (x:=.opt u b x) kl (hW d hd) undef ?_
      simp only[HS]
      exact⟨fun hn=>absurd (by rw[O2 _ ao] at hn;exact hn) hw,fun _=>trivial⟩
end
abbrev E9:=El×St
def Apg:List E4→List E4
 | []=>[]
 |(c,k,s,ps)::r=>(c,Nat.max 1 k,s,ps)::Apg r
def Bb4 (ops:List Oper) (s:St) (o:Oper):Option (St×List Prop):=match o.guard with
 | some (j,b)=>match Azz ops j with
  | some u=>match s.raw [] (.tmp u) with
   |some (.bool c)=>match Ao5 s o with
    |some s'=>some (s',[c=!b])
    |none=>none
   |some (.tuple _)=>match Ao5 s o with
    |some s'=>some (s',[])
    |none=>none
   |_=>none
  |none=>none
 |none=>none
def NO (E:Env) (ops:List Oper) (s:St) (o:Oper):Option (List E4):=match Aba E ops s o with
 |some (s',ps)=>some [(none,0,s',ps)]
 | none=>match Ab1 E ops s o with
  |some (x::r)=>some (Apg (x::r))
  |_=>match Bb4 ops s o with
   |some (s',ps)=>some [(none,0,s',ps)]
   |none=>none
def St.open1 (s:St) (u u2:Nat) (b2:Bool) (y:A):St:={s with t:=(u,y)::(u2,.v (.bool b2))::s.t}
def A66 (c:El):List E4→List E4
 | []=>[]
 |(d,k,s,ps)::r=>(Om c d,k,s,ps)::A66 c r
def P0 (E:Env) (ops:List Oper) (s:St) (o:Oper):Option (List E4):=match NO E ops s o with
 |some l=>some l
 | none=>match o.guard with
  | some (j,_)=>match Azz ops j with
   | some u=>match s.get u with
    | some (.opt u2 b2 y)=>match s.raw [] (.tmp u2) with
     |some (.bool c)=>match NO E ops (s.open1 u u2 b2 y) o,NO E ops (s.open1 u u2 (!b2) (.v undef)) o with
      |some l1,some l2=>some (A66 (some (bif b2 then c else !c)) l1++l2)
      |_,_=>none
     |_=>none
    |_=>none
   |none=>none
  |none=>none
def A7t (c:El):List E4→List E9
 | []=>[]
 |(d,_,s,_)::r=>(Om c d,s)::A7t c r
def Br9 (c:El):List E4→List Prop
 | []=>[]
 |(d,_,_,ps)::r=>Us (Bl0 (Om c d)) ps++Br9 c r
def NG (E:Env) (ops:List Oper) (o:Oper):List E9→Option (Nat×List E9×List Prop)
 | []=>some (0,[],[])
 | (c,s)::r=>match P0 E ops s o with
  |some l=>match NG E ops o r with
   |some (k,r',qs)=>some (Nat.max (FM l) k,A7t c l++r',Br9 c l++qs)
   |none=>none
  |none=>none
def W5:List E9→(St→Prop)→Prop
 | [],_=>False
 |(c,s)::r,K=>(BJ c=true∧K s)∨(BJ c=false∧W5 r K)
theorem XT {K K':St→Prop} (hk:∀s,K s→K' s):∀{l:List E9},W5 l K→W5 l K'
 | [],h=>h
 |_::_,h=>h.imp (fun⟨a,b⟩=>⟨a,hk _ b⟩) (fun⟨a,b⟩=>⟨a,XT hk b⟩)
theorem UD {c:El} {K:St→Prop} {r':List E9} (hc:BJ c=true):∀{l:List E4},onL l K→W5 (A7t c l++r') K
 | [],h=>h.elim
 |(d,k,s,ps)::r,h=>by
  rcases h with⟨h1,h2⟩|⟨h1,h2⟩
  ·exact .inl ⟨by rw[BZ,hc,h1];rfl,h2⟩
  ·exact .inr ⟨by rw[BZ,hc,h1];rfl,UD hc h2⟩
theorem UE {c:El} {K:St→Prop} {r':List E9} (hc:BJ c=false) (h:W5 r' K):∀{l:List E4},W5 (A7t c l++r') K
 | []=>h
 |(d,k,s,ps)::r=> .inr ⟨by rw[BZ,hc];rfl,UE hc h⟩
theorem Atu {c:El} (hc:BJ c=true):∀{l:List E4},(∀p∈Br9 c l,p)→PY l
 | [],_=>trivial
 |(d,k,s,ps)::r,h=>by
  refine⟨fun hd=>NK (fun p hm=>h p (List.mem_append.2 (.inl hm))) (A2b (by rw[BZ,hc,hd];rfl)),Atu hc fun p hm=>h p (List.mem_append.2 (.inr hm))⟩
theorem Xa {K:St→Prop}:∀{l:List E4},onL l K→onL (Apg l) K
 | [],h=>h
 |_::_,h=>h.imp id fun⟨a,b⟩=>⟨a,Xa b⟩
theorem Azn:∀{l:List E4},PY (Apg l)→PY l
 | [],h=>h
 |_::r,⟨h1,h2⟩=>⟨h1,Azn (l:=r) h2⟩
theorem Azm:∀{l:List E4},FM l≤FM (Apg l)
 | []=>Nat.le_refl _
 |(c,k,s,ps)::r=>by
  show Nat.max k (FM r)≤Nat.max (Nat.max 1 k) (FM (Apg r))
  have:=Azm (l:=r)
  exact Nat.max_le.2 ⟨Nat.le_trans (Nat.le_max_right ..) (Nat.le_max_left ..),Nat.le_trans this (Nat.le_max_right ..)⟩
section
variable {E:Env} {Z:FG} {F:Nat→Prop} {N:Nm} {s:St} {a:Act} {R:World}
theorem Bew {P:Program} {o:Oper} {v:Value} {K:Value→World→Prop} (h:Oper.quietUpon P (fun bp=>Below R.heap.size R bp) R v ((execOp a.eval o).run P R)) (hk:∀R',Below R.heap.size R R'→K v R'):Hy P K ((execOp a.eval o).run P R):=by
 have hr:=Below.refl R.heap.size R
 generalize (execOp a.eval o).run P R=r at*
 cases r with
 |halt x w=>exact h.elim
 | ok n w=>
  cases n<;>simp only[Oper.quietUpon] at h<;>simp only[Hy]
  case value y=>
   obtain⟨e1,e2⟩:=h
   rw[e1,e2]
   exact hk _ hr
  case skip=>
   obtain⟨e1,e2⟩:=h
   rw[e1,←e2]
   exact hk _ hr
  case enter f args=>
   obtain⟨e1,hc⟩:=h
   rw[e1]
   exact hc.mono fun e bp ⟨he,gk⟩=>⟨v,he,hk _ gk⟩
theorem Bb5 (h:Rel Z F N s a R) {ops:List Oper} {o:Oper} {s':St} {ps:List Prop} (he:Bb4 ops s o=some (s',ps)) (hp:∀p∈ps,p) (hW:∀d,o.dst=some d→Z.W d):
  Region.wanted o (yielded ops.toArray a.tmps)=false∧Rel Z F N s' (a.put o.dst undef) R:=by
 unfold Bb4 at he
 split at he<;>try (cases he;done)
 rename_i j b hg
 split at he<;>try (cases he;done)
 rename_i u hu
 have wt:=Afh hg hu a
 split at he<;>try (cases he;done)
 ·rename_i c hc
  split at he<;>try (cases he;done)
  rename_i s1 hs
  cases he
  have f8:c=!b:=hp _ (List.mem_singleton.2 rfl)
  have dg:BH a u=.bool c:=EP h (FI _) hc
  refine⟨?_,Ah4 h hs hW⟩
  cases hw:Region.wanted o (yielded ops.toArray a.tmps) with
  |false=>rfl
  |true=>
   have:=wt.1 hw
   rw[dg,f8] at this
   cases b<;>cases this
 ·rename_i xs hc
  split at he<;>try (cases he;done)
  rename_i s1 hs
  cases he
  have dg:BH a u=.tuple xs:=EP h (FI _) hc
  refine⟨?_,Ah4 h hs hW⟩
  cases hw:Region.wanted o (yielded ops.toArray a.tmps) with
  |false=>rfl
  |true=>
   have:=wt.1 hw
   rw[dg] at this
   cases this
theorem Auh (ok:EnvOk E) (h:Rel Z F N s a R) {ops:List Oper} {o:Oper} {l:List E4} (he:NO E ops s o=some l) (hp:PY l) (hW:∀d,o.dst=some d→Z.W d):
  (Region.wanted o (yielded ops.toArray a.tmps)=true∧Hy E.P (fun v R'=>(FM l≤1→Below R.heap.size R R')∧onL l fun s'=>∃F' N',Rel Z F' N' s' (a.put o.dst v) R') ((execOp a.eval o).run E.P R))∨
  (Region.wanted o (yielded ops.toArray a.tmps)=false∧onL l fun s'=>∃F' N',Rel Z F' N' s' (a.put o.dst undef) R):=by
 unfold NO at he
 split at he
 ·rename_i s' ps hq
  cases he
  obtain⟨v,h1,h2⟩:=A9y ok h hq (hp.1 rfl) hW
  rcases h2 with⟨h2,h3⟩|⟨h2,rfl⟩
  ·exact .inl ⟨h2,Bew (h3 R (Below.refl _ _)) fun R' hb=>⟨fun _=>hb,.inl ⟨rfl,F,N,h1.grow hb⟩⟩⟩
  ·exact .inr ⟨h2,.inl ⟨rfl,F,N,h1⟩⟩
 ·split at he
  ·rename_i x r hs
   cases he
   rcases Bto ok h hs (Azn hp) hW with⟨h1,h2⟩|⟨h1,h2⟩
   ·exact .inl ⟨h1,DL h2 fun v R' ⟨h3,h4⟩=>⟨fun hk=>h3 (Nat.le_trans Azm hk),Xa h4⟩⟩
   ·exact .inr ⟨h1,Xa h2⟩
  ·split at he<;>try (cases he;done)
   rename_i s' ps hs
   cases he
   obtain⟨h1,h2⟩:=Bb5 h hs (hp.1 rfl) hW
   exact .inr ⟨h1,.inl ⟨rfl,F,N,h2⟩⟩
theorem XW (ok:EnvOk E) (h:Rel Z F N s a R) {ops:List Oper} {o:Oper} {l:List E4} (he:NO E ops s o=some l) (hk:FM l=0) (hp:PY l) (hW:∀d,o.dst=some d→Z.W d):
  ∃v,(onL l fun s'=>∃F' N',Rel Z F' N' s' (a.put o.dst v) R)∧A61 E.P ops o a R v:=by
 unfold NO at he
 split at he
 ·rename_i s' ps hq
  cases he
  obtain⟨v,h1,h2⟩:=A9y ok h hq (hp.1 rfl) hW
  exact⟨v,.inl ⟨rfl,F,N,h1⟩,h2⟩
 ·split at he
  ·rename_i x r hs
   cases he
   obtain⟨c,k,s',ps⟩:=x
   have ak:Nat.max (Nat.max 1 k) (FM (Apg r))=0:=hk
   exact absurd (Nat.le_trans (Nat.le_trans (Nat.le_max_left 1 k) (Nat.le_max_left (Nat.max 1 k) (FM (Apg r)))) (Nat.le_of_eq ak)) (by decide)
  ·split at he<;>try (cases he;done)
   rename_i s' ps hs
   cases he
   obtain⟨h1,h2⟩:=Bb5 h hs (hp.1 rfl) hW
   exact⟨undef,.inl ⟨rfl,F,N,h2⟩,.inr ⟨h1,rfl⟩⟩
theorem Qc {c:El} {K:St→Prop} {r:List E4} (hc:BJ c=true):∀{l:List E4},onL l K→onL (A66 c l++r) K
 | [],h=>h.elim
 |(d,k,s,ps)::_,h=>by
  rcases h with⟨h1,h2⟩|⟨h1,h2⟩
  ·exact .inl ⟨by rw[BZ,hc,h1];rfl,h2⟩
  ·exact .inr ⟨by rw[BZ,hc,h1];rfl,Qc hc h2⟩
theorem Pa {c:El} {K:St→Prop} {r:List E4} (hc:BJ c=false) (h:onL r K):∀{l:List E4},onL (A66 c l++r) K
 | []=>h
 |(d,k,s,ps)::_=> .inr ⟨by rw[BZ,hc];rfl,Pa hc h⟩
theorem ZI {c:El} {r:List E4}:∀{l:List E4},PY (A66 c l++r)→(BJ c=true→PY l)∧PY r
 | [],h=>⟨fun _=>trivial,h⟩
 |(d,k,s,ps)::_,⟨h1,h2⟩=>⟨fun hc=>⟨fun hd=>h1 (by rw[BZ,hc,hd];rfl),(ZI h2).1 hc⟩,(ZI h2).2⟩
theorem Ajm {c:El} {r:List E4}:∀{l:List E4},FM (A66 c l++r)=Nat.max (FM l) (FM r)
 | []=>by show FM r=Nat.max 0 (FM r);exact(Nat.max_eq_right (Nat.zero_le _)).symm
 |(d,k,s,ps)::l=>by
  show Nat.max k (FM (A66 c l++r))=Nat.max (Nat.max k (FM l)) (FM r)
  rw[Ajm]
  exact(Nat.max_assoc _ _ _).symm
theorem A9n (h:Rel Z F N s a R) {u u2:Nat} {b2:Bool} {y:A} (hu:HS F N s.nx R (BH a) y (BH a u)) (hu2:BH a u2=.bool b2):Rel Z F N (s.open1 u u2 b2 y) a R:=
 ⟨h.defers,h.size,fun v x hv=>by
  have ed:(bif Nat.beq u v then some y else bif Nat.beq u2 v then some (A.v (.bool b2)) else DV v s.t)=some x:=hv
  cases hb:Nat.beq u v with
  |true=>
   rw[hb] at ed
   obtain rfl:=Nat.eq_of_beq_eq_true hb
   cases ed
   exact hu
  | false=>
   rw[hb] at ed
   cases az:Nat.beq u2 v with
   |true=>
    rw[az] at ed
    obtain rfl:=Nat.eq_of_beq_eq_true az
    cases ed
    rw[hu2]
    exact(Ac rfl).2 (.v _)
   |false=>rw[az] at ed;exact h.slots v x ed,h.hp,h.st,h.tm⟩
theorem Auf (h:Rel Z F N s a R) {u u2:Nat} {b2 c:Bool} {y:A} (hg:s.get u=some (.opt u2 b2 y)) (hc:s.raw [] (.tmp u2)=some (.bool c)):
  (BJ (some (bif b2 then c else !c))=true∧Rel Z F N (s.open1 u u2 b2 y) a R)∨(BJ (some (bif b2 then c else !c))=false∧Rel Z F N (s.open1 u u2 (!b2) (.v undef)) a R):=by
 have dg:BH a u2=.bool c:=EP h (FI _) hc
 have hs:=h.slots u _ hg
 simp only[HS] at hs
 cases f8:(bif b2 then c else !c) with
 |true=>
  have e:=Azl f8
  subst e
  exact .inl ⟨rfl,A9n h (hs.1 dg) dg⟩
 |false=>
  have e:=Ar2 f8
  refine .inr ⟨rfl,A9n h ?_ (by rw[dg,e])⟩
  rw[hs.2 (by rw[dg,e];cases b2<;>simp)]
  exact(Ac rfl).2 (.v _)
theorem Bsh (ok:EnvOk E) (h:Rel Z F N s a R) {ops:List Oper} {o:Oper} {l:List E4} (he:P0 E ops s o=some l) (hp:PY l) (hW:∀d,o.dst=some d→Z.W d):
  (Region.wanted o (yielded ops.toArray a.tmps)=true∧Hy E.P (fun v R'=>(FM l≤1→Below R.heap.size R R')∧onL l fun s'=>∃F' N',Rel Z F' N' s' (a.put o.dst v) R') ((execOp a.eval o).run E.P R))∨
  (Region.wanted o (yielded ops.toArray a.tmps)=false∧onL l fun s'=>∃F' N',Rel Z F' N' s' (a.put o.dst undef) R):=by
 unfold P0 at he
 split at he
 ·rename_i l' hl
  cases he
  exact Auh ok h hl hp hW
 ·split at he<;>try (cases he;done)
  split at he<;>try (cases he;done)
  split at he<;>try (cases he;done)
  rename_i u2 b2 y hg
  split at he<;>try (cases he;done)
  rename_i c hc
  split at he<;>try (cases he;done)
  rename_i l1 l2 h1 h2
  cases he
  obtain⟨n1,n2⟩:=ZI hp
  rw[Ajm]
  rcases Auf h hg hc with⟨e,hr⟩|⟨e,hr⟩
  ·rcases Auh ok hr h1 (n1 e) hW with⟨g1,g2⟩|⟨g1,g2⟩
   ·exact .inl ⟨g1,DL g2 fun v R' ⟨g3,g4⟩=>⟨fun hk=>g3 (Nat.le_trans (Nat.le_max_left ..) hk),Qc e g4⟩⟩
   ·exact .inr ⟨g1,Qc e g2⟩
  ·rcases Auh ok hr h2 n2 hW with⟨g1,g2⟩|⟨g1,g2⟩
   ·exact .inl ⟨g1,DL g2 fun v R' ⟨g3,g4⟩=>⟨fun hk=>g3 (Nat.le_trans (Nat.le_max_right ..) hk),Pa e g4⟩⟩
   ·exact .inr ⟨g1,Pa e g2⟩
theorem A9s (ok:EnvOk E) (h:Rel Z F N s a R) {ops:List Oper} {o:Oper} {l:List E4} (he:P0 E ops s o=some l) (hk:FM l=0) (hp:PY l) (hW:∀d,o.dst=some d→Z.W d):
  ∃v,(onL l fun s'=>∃F' N',Rel Z F' N' s' (a.put o.dst v) R)∧A61 E.P ops o a R v:=by
 unfold P0 at he
 split at he
 ·rename_i l' hl
  cases he
  exact XW ok h hl hk hp hW
 ·split at he<;>try (cases he;done)
  split at he<;>try (cases he;done)
  split at he<;>try (cases he;done)
  rename_i u2 b2 y hg
  split at he<;>try (cases he;done)
  rename_i c hc
  split at he<;>try (cases he;done)
  rename_i l1 l2 h1 h2
  cases he
  obtain⟨n1,n2⟩:=ZI hp
  rw[Ajm] at hk
  have dj:FM l1=0:=Nat.le_zero.1 (Nat.le_trans (Nat.le_max_left (FM l1) (FM l2)) (Nat.le_of_eq hk))
  have cy:FM l2=0:=Nat.le_zero.1 (Nat.le_trans (Nat.le_max_right (FM l1) (FM l2)) (Nat.le_of_eq hk))
  rcases Auf h hg hc with⟨e,hr⟩|⟨e,hr⟩
  ·obtain⟨v,g1,g2⟩:=XW ok hr h1 dj (n1 e) hW
   exact⟨v,Qc e g1,g2⟩
  ·obtain⟨v,g1,g2⟩:=XW ok hr h2 cy n2 hW
   exact⟨v,Pa e g1,g2⟩
abbrev At (Z:FG) (A:Act) (w:World):St→Prop:=fun s=>∃F N,Rel Z F N s A w
theorem Vo (ok:EnvOk E) {ops:List Oper} {o:Oper} (hW:∀d,o.dst=some d→Z.W d):∀{l l':List E9} {qs:List Prop},NG E ops o l=some (0,l',qs)→(∀q∈qs,q)→W5 l (At Z a R)→∃v,W5 l' (At Z (a.put o.dst v) R)∧A61 E.P ops o a R v
 | [],l',qs,he,_,h=>h.elim
 | (c,s)::r,l',qs,he,hp,h=>by
  unfold NG at he
  split at he<;>try (cases he;done)
  rename_i l1 h1
  split at he<;>try (cases he;done)
  rename_i k r' pg h2
  injection he with he
  injection he with hk he
  injection he with e1 e2
  subst e1 e2
  have dj:FM l1=0:=Nat.le_zero.1 (Nat.le_trans (Nat.le_max_left (FM l1) k) (Nat.le_of_eq hk))
  have cy:k=0:=Nat.le_zero.1 (Nat.le_trans (Nat.le_max_right (FM l1) k) (Nat.le_of_eq hk))
  rcases h with⟨hc,F,N,hr⟩|⟨hc,h⟩
  ·obtain⟨v,g1,g2⟩:=A9s ok hr h1 dj (Atu hc fun p hm=>hp p (List.mem_append.2 (.inl hm))) hW
   exact⟨v,UD hc g1,g2⟩
  ·subst cy
   obtain⟨v,g1,g2⟩:=Vo ok hW h2 (fun p hm=>hp p (List.mem_append.2 (.inr hm))) h
   exact⟨v,UE hc g1,g2⟩
theorem Ajb (ok:EnvOk E) {ops:List Oper} {o:Oper} (hW:∀d,o.dst=some d→Z.W d):∀{l l':List E9} {k:Nat} {qs:List Prop},NG E ops o l=some (k,l',qs)→(∀q∈qs,q)→W5 l (At Z a R)→
  (Region.wanted o (yielded ops.toArray a.tmps)=true∧Hy E.P (fun v R'=>(k≤1→Below R.heap.size R R')∧W5 l' (At Z (a.put o.dst v) R')) ((execOp a.eval o).run E.P R))∨
  (Region.wanted o (yielded ops.toArray a.tmps)=false∧W5 l' (At Z (a.put o.dst undef) R))
 | [],l',k,qs,he,_,h=>h.elim
 | (c,s)::r,l',k,qs,he,hp,h=>by
  unfold NG at he
  split at he<;>try (cases he;done)
  rename_i l1 h1
  split at he<;>try (cases he;done)
  rename_i k' r' pg h2
  cases he
  rcases h with⟨hc,F,N,hr⟩|⟨hc,h⟩
  ·rcases Bsh ok hr h1 (Atu hc fun p hm=>hp p (List.mem_append.2 (.inl hm))) hW with⟨g1,g2⟩|⟨g1,g2⟩
   ·exact .inl ⟨g1,DL g2 fun v R' ⟨g3,g4⟩=>⟨fun hk=>g3 (Nat.le_trans (Nat.le_max_left ..) hk),UD hc g4⟩⟩
   ·exact .inr ⟨g1,UD hc g2⟩
  ·rcases Ajb ok hW h2 (fun p hm=>hp p (List.mem_append.2 (.inr hm))) h with⟨g1,g2⟩|⟨g1,g2⟩
   ·exact .inl ⟨g1,DL g2 fun v R' ⟨g3,g4⟩=>⟨fun hk=>g3 (Nat.le_trans (Nat.le_max_right ..) hk),UE hc g4⟩⟩
   ·exact .inr ⟨g1,UE hc g2⟩
end
theorem C6 {α:Type} {b:Bool} {x:Option α} {y:α} (h:(bif b then x else none)=some y):x=some y:=by cases b<;>first|exact h|cases h
theorem Arz {α:Type} {b:Bool} {x:Option α} {y:α} (h:(bif b then none else x)=some y):x=some y:=by cases b<;>first|exact h|cases h
theorem Bma (o:AE) (d:Option Nat):∃e,Ai5 o d=e++o:=by
 cases d with
 |none=>exact⟨[],rfl⟩
 |some i=>exact⟨[(i,none)],rfl⟩
section
variable {E:Env} {s:St} {G:AQ}
theorem A76 (ok:EnvOk E) {o:Oper} {f:T6} (he:Bmc E s G o=some f):∃d,f.o=d++s.o:=by
 obtain⟨dst,op,type,pos,after,guard⟩:=o
 unfold Bmc at he
 simp only at he
 split at he
 ·unfold Arx at he
  repeat' (first|(cases he;done)|(replace he:=C6 he)|split at he)
  all_goals (cases he;exact⟨[_],rfl⟩)
 ·unfold Bpn at he
  repeat' (first|(cases he;done)|(replace he:=C6 he)|split at he)
  all_goals (cases he;exact⟨[_],rfl⟩)
 ·unfold Bg9 Bk9 at he
  repeat' (first|(cases he;done)|(replace he:=C6 he)|split at he)
  all_goals (cases he;exact⟨[_],rfl⟩)
 ·unfold T9 at he
  repeat' (first|(cases he;done)|(replace he:=C6 he)|split at he)
  all_goals (generalize Nat.beq _ 0=bb at he;cases bb<;>(cases he;first|exact⟨[],rfl⟩|exact⟨[_],rfl⟩))
 ·unfold Arh at he
  repeat' (first|(cases he;done)|(replace he:=C6 he)|split at he)
  all_goals (cases he;exact⟨[_],rfl⟩)
 ·unfold Z1 at he
  repeat' (first|(cases he;done)|(replace he:=C6 he)|split at he)
  all_goals (cases he;exact⟨[],rfl⟩)
 ·split at he<;>try (cases he;done)
  unfold Buz at he
  repeat' (first|(cases he;done)|(replace he:=C6 he)|split at he)
  all_goals (cases he;first|exact⟨[_],rfl⟩|exact⟨[_,_,_],rfl⟩|(obtain⟨e,h⟩:=Bma s.o _;exact⟨_::e,by show _::Ai5 _ _=_;rw[h];rfl⟩))
 ·split at he<;>cases he
 ·unfold Zr at he
  split at he
  ·cases he;exact⟨[],rfl⟩
  split at he
  ·rename_i k x nx' o' ps hr
   cases he
   unfold Al9 at hr
   repeat' (first|(cases hr;done)|(replace hr:=C6 hr)|split at hr)
   exact ok.suf _ _ _ _ _ _ _ _ _ hr
  ·split at he<;>try (cases he;done)
   rename_i k x nx' o' ps hr
   cases he
   unfold Bhx at hr
   repeat' (first|(cases hr;done)|split at hr)
   exact ok.suf _ _ _ _ _ _ _ _ _ hr
 ·unfold A5c at he
  repeat' (first|(cases he;done)|split at he)
  all_goals (cases he;exact⟨[_],rfl⟩)
 ·unfold Bjy at he
  repeat' (first|(cases he;done)|(replace he:=C6 he)|split at he)
  all_goals (cases he;exact⟨[_],rfl⟩)
 ·unfold A3j at he
  replace he:=C6 he
  cases he
  exact⟨[_],rfl⟩
 ·unfold A3c at he
  repeat' (first|(cases he;done)|(replace he:=C6 he)|split at he)
  all_goals (cases he;exact⟨[_],rfl⟩)
 ·cases he
theorem Bwr (ok:EnvOk E) {o:Oper} {f:T6} (he:opE E s G o=some f):∃d,f.o=d++s.o:=by
 unfold opE at he
 cases hl:Atk o.op with
 |true=>rw[hl] at he;exact A76 ok he
 |false=>
  rw[hl] at he
  simp only[cond_false] at he
  split at he
  ·cases he;exact⟨[],rfl⟩
  ·exact A76 ok he
theorem Sub.put (s:St) (u:Nat) (x:A):Sub s (s.put u x):=⟨rfl,[],rfl⟩
theorem Sub.lit (s:St) (u:Nat) (b:Bool):Sub s (s.lit u b):=⟨rfl,[],rfl⟩
theorem A9w {dst:Option Tmp} {f:T6} {s':St} (he:VH s dst f=some s') (hf:∃d,f.o=d++s.o):Sub s s':=by
 unfold VH at he
 split at he
 ·replace he:=C6 he
  cases he
  exact⟨rfl,hf⟩
 ·cases he
  exact⟨rfl,hf⟩
theorem Alp {o:Oper} {s':St} (he:Ao5 s o=some s'):Sub s s':=by
 unfold Ao5 at he
 split at he
 ·replace he:=C6 he
  cases he
  exact Sub.put _ _ _
 ·cases he
  exact Sub.refl _
theorem A2t (ok:EnvOk E) {o:Oper} {c c':El} {ps gz:List Prop} {k:Nat} {s':St} (he:doE E s G o c ps=some (c',k,s',gz)):Sub s s':=by
 unfold doE at he
 split at he<;>try (cases he;done)
 rename_i f hf
 split at he<;>try (cases he;done)
 rename_i s1 hs
 cases he
 exact A9w hs (Bwr ok hf)
theorem Aul {dst:Option Tmp} {x:A} {ps gz:List Prop} {s':St} (he:A34 s dst x ps=some (s',gz)):Sub s s':=by
 unfold A34 at he
 split at he
 ·replace he:=C6 he
  cases he
  exact Sub.put _ _ _
 ·cases he
  exact Sub.refl _
theorem Bm6 {ops:List Oper} {o:Oper} {s':St} {ps:List Prop} (he:Aba E ops s o=some (s',ps)):Sub s s':=by
 unfold Aba at he
 split at he
 ·split at he<;>try (cases he;done)
  exact Aul he
 ·split at he<;>try (cases he;done)
  split at he
  ·split at he<;>try (cases he;done)
   split at he
   ·split at he<;>try (cases he;done)
    exact Aul he
   ·exact Aul he
  ·split at he<;>try (cases he;done)
   split at he<;>try (cases he;done)
   replace he:=C6 he
   replace he:=Arz he
   cases he
   exact Sub.put _ _ _
def Afd (s:St):List E4→Prop
 | []=>True
 |(_,_,s',_)::r=>Sub s s'∧Afd s r
theorem A1k (ok:EnvOk E) {ops:List Oper} {o:Oper} {l:List E4} (he:P5 E ops s o=some l):Afd s l:=by
 unfold P5 at he
 split at he
 ·split at he<;>try (cases he;done)
  rename_i x hx
  obtain⟨c,k,s',ps⟩:=x
  cases he
  exact⟨A2t ok hx,trivial⟩
 ·split at he<;>try (cases he;done)
  split at he
  ·split at he<;>try (cases he;done)
   split at he
   ·split at he<;>try (cases he;done)
    rename_i x hx
    obtain⟨c,k,s',ps⟩:=x
    cases he
    exact⟨A2t ok hx,trivial⟩
   ·split at he<;>try (cases he;done)
    rename_i s' hs
    cases he
    exact⟨Alp hs,trivial⟩
  ·split at he
   ·split at he<;>try (cases he;done)
    replace he:=C6 he
    replace he:=Arz he
    cases he
    exact⟨Sub.put _ _ _,trivial⟩
   ·split at he<;>try (cases he;done)
    split at he<;>try (cases he;done)
    rename_i x s' hx hs
    obtain⟨c,k,s1,ps⟩:=x
    cases he
    exact⟨(Sub.lit _ _ _).trans (A2t ok hx),(Sub.lit _ _ _).trans (Alp hs),trivial⟩
theorem Xv:∀{l:List Nat} {s s':St} {ps:List Prop},NI E l s=(s',ps)→Sub s s'
 | [],s,s',ps,he=>by cases he;exact Sub.refl _
 | i::r,s,s',ps,he=>by
  unfold NI at he
  split at he
  ·rename_i s1 du h1
   generalize h2:NI E r s1=x at he
   obtain⟨s2,qs⟩:=x
   cases he
   obtain⟨e1,e2⟩:=Adh h1
   exact Sub.trans ⟨e1,e2⟩ (Xv h2)
  ·exact Xv he
theorem Afe {s1:St} (h:Sub s s1):∀{l:List E4},Afd s1 l→Afd s l
 | [],_=>trivial
 |_::_,⟨h1,h2⟩=>⟨h.trans h1,Afe h h2⟩
theorem A1l {ps:List Prop}:∀{l:List E4},Afd s l→Afd s (A63 ps l)
 | [],_=>trivial
 |_::_,⟨h1,h2⟩=>⟨h1,A1l h2⟩
theorem A1m:∀{l:List E4},Afd s l→Afd s (Apg l)
 | [],_=>trivial
 |_::_,⟨h1,h2⟩=>⟨h1,A1m h2⟩
theorem Bn3 (ok:EnvOk E) {ops:List Oper} {o:Oper} {l:List E4} (he:Ab1 E ops s o=some l):Afd s l:=by
 unfold Ab1 at he
 split at he
 ·rename_i l' hl
  cases he
  exact A1k ok hl
 ·split at he<;>try (cases he;done)
  rename_i i r hc
  generalize hf:NI E (i::r) s=x at he
  obtain⟨s',ps⟩:=x
  simp only at he
  split at he<;>try (cases he;done)
  rename_i l' hl
  replace he:=C6 he
  split at he
  ·rename_i l2 hle
   cases he
   obtain⟨k,s1,qs,d,x,_,_,_,_,_,_,rfl⟩:=A8z hle
   exact⟨Sub.put _ _ _,trivial⟩
  ·cases he
   exact A1l (Afe (Xv hf) (A1k ok hl))
theorem Bn2 {ops:List Oper} {o:Oper} {s':St} {ps:List Prop} (he:Bb4 ops s o=some (s',ps)):Sub s s':=by
 unfold Bb4 at he
 repeat' (first|(cases he;done)|split at he)
 all_goals (rename_i hs;cases he;exact Alp hs)
theorem Ajz (ok:EnvOk E) {ops:List Oper} {o:Oper} {l:List E4} (he:NO E ops s o=some l):Afd s l:=by
 unfold NO at he
 split at he
 ·rename_i s' ps hq
  cases he
  exact⟨Bm6 hq,trivial⟩
 ·split at he
  ·rename_i x r hs
   cases he
   exact A1m (Bn3 ok hs)
  ·split at he<;>try (cases he;done)
   rename_i s' ps hs
   cases he
   exact⟨Bn2 hs,trivial⟩
theorem Bb8 {s1:St} {c:El} {r:List E4} (h:Sub s s1) (hr:Afd s r):∀{l:List E4},Afd s1 l→Afd s (A66 c l++r)
 | [],_=>hr
 |_::_,⟨h1,h2⟩=>⟨h.trans h1,Bb8 h hr h2⟩
theorem A9o (s:St) (u u2:Nat) (b2:Bool) (y:A):Sub s (s.open1 u u2 b2 y):=⟨rfl,[],rfl⟩
theorem Bmy (ok:EnvOk E) {ops:List Oper} {o:Oper} {l:List E4} (he:P0 E ops s o=some l):Afd s l:=by
 unfold P0 at he
 split at he
 ·rename_i l' hl
  cases he
  exact Ajz ok hl
 ·repeat' (first|(cases he;done)|split at he)
  rename_i l1 l2 h1 h2
  cases he
  exact Bb8 (A9o _ _ _ _ _) (Afe (A9o _ _ _ _ _) (Ajz ok h2)) (Ajz ok h1)
def Zc (s:St):List E9→Prop
 | []=>True
 |(_,s')::r=>Sub s s'∧Zc s r
theorem A1n {s1:St} (h:Sub s s1) {c:El} {r':List E9} (hr:Zc s r'):∀{l:List E4},Afd s1 l→Zc s (A7t c l++r')
 | [],_=>hr
 |_::_,⟨h1,h2⟩=>⟨h.trans h1,A1n h hr h2⟩
theorem Vp (ok:EnvOk E) {ops:List Oper} {o:Oper}:∀{l l':List E9} {k:Nat} {qs:List Prop},NG E ops o l=some (k,l',qs)→Zc s l→Zc s l'
 | [],l',k,qs,he,_=>by cases he;trivial
 |(c,s1)::r,l',k,qs,he,⟨h1,h2⟩=>by
  unfold NG at he
  split at he<;>try (cases he;done)
  rename_i l1 g1
  split at he<;>try (cases he;done)
  rename_i k' r' pg g2
  cases he
  exact A1n h1 (Vp ok g2 h2) (Bmy ok g1)
end
def XM (W:List Nat) (s0:St):List E9→St
 | []=>s0
 | [(_,s)]=>s
 |(c,s)::r=>JS (BJ c) W s0 s (XM W s0 r)
theorem Adp (W:List Nat) (s0:St):∀{l:List E9},Zc s0 l→Sub s0 (XM W s0 l)
 | [],_=>Sub.refl _
 | [(_,_)],⟨h,_⟩=>h
 |(_,_)::_::_,_=>Sub.merge _ _ _ _ _
section
variable {Z:FG} {F F0:Nat→Prop} {N N0:Nm} {s0 s:St} {a a0:Act} {R R0:World} {W:List Nat}
theorem Rel.over (h0:Rel Z F0 N0 s0 a0 R0) (h:Rel (LQ F0 N0 s0 a0 R0 W) F N s a R) (hW:∀u,QS u W=true→Z.W u):Rel Z F N s a R:=
 ⟨h.defers.trans h0.defers,h.size,h.slots,h.hp,h0.st.trans h.st,fun u hu=>by
  rw[h.tm u fun hw=>hu (hW u hw)]
  exact h0.tm u hu⟩
theorem A0n (h0:Rel Z F0 N0 s0 a0 R0):∀{l:List E9},Zc s0 l→W5 l (At (LQ F0 N0 s0 a0 R0 W) a R)→At (LQ F0 N0 s0 a0 R0 W) a R (XM W s0 l)
 | [],_,h=>h.elim
 | [(c,s)],_,h=>by
  rcases h with⟨_,h⟩|⟨_,h⟩
  ·exact h
  ·exact h.elim
 | (c,s)::p::r,⟨h1,h2⟩,h=>by
  have e2:=Adp W s0 h2
  rcases h with⟨hc,F,N,h⟩|⟨hc,h⟩
  ·obtain⟨N',hr,_⟩:=Rel.merge (g:=BJ c) (s1:=s) (s2:=XM W s0 (p::r)) (h0.start W) (by rw[hc];exact h) (fun _ h=>h) h1 e2
   exact⟨F,N',hr⟩
  ·obtain⟨F,N,h⟩:=A0n h0 h2 h
   obtain⟨N',hr,_⟩:=Rel.merge (g:=BJ c) (s1:=s) (s2:=XM W s0 (p::r)) (h0.start W) (by rw[hc];exact h) (fun _ h=>h) h1 e2
   exact⟨F,N',hr⟩
end
def QQ:List Oper→List Nat
 | []=>[]
 |o::r=>match o.dst with
  |some d=>d::QQ r
  |none=>QQ r
def Az4 (E:Env) (ops:List Oper):List Oper→List E9→Option (List E9×List Prop)
 | [],l=>some (l,[])
 | o::r,l=>match NG E ops o l with
  |some (_,l',ps)=>match Az4 E ops r l' with
   |some (qj,qs)=>some (qj,ps++qs)
   |none=>none
  |none=>none
theorem A75:∀{l:List Oper} {o:Oper} {d:Nat},o∈l→o.dst=some d→QS d (QQ l)=true
 | [],o,d,h,_=>by cases h
 | x::r,o,d,h,hd=>by
  rcases List.mem_cons.1 h with rfl|h
  ·unfold QQ
   rw[hd]
   show(bif Nat.beq d d then true else QS d (QQ r))=true
   rw[QD];rfl
  ·have:=A75 h hd
   unfold QQ
   split
   ·rename_i e _
    show(bif Nat.beq e d then true else QS d (QQ r))=true
    rw[this];cases Nat.beq e d<;>rfl
   ·exact this
section
variable {E:Env} {Z:FG} {a:Act} {R:World}
theorem Bse (ok:EnvOk E) {ops:List Oper} {Q:Exit→Act→World→Prop}:∀{l:List Oper} {P P':List E9} {ps:List Prop} {a:Act} {R:World},(∀o∈l,∀d,o.dst=some d→Z.W d)→W5 P (At Z a R)→Az4 E ops l P=some (P',ps)→(∀p∈ps,p)→
  (∀a' R',W5 P' (At Z a' R')→Q .normal a' R')→Qq E.P ops.toArray (Q .normal) l a R
 | [],P,P',ps,a,R,_,h,he,_,hk=>by
  cases he
  exact hk a R h
 | o::r,P,P',ps,a,R,hW,h,he,hp,hk=>by
  unfold Az4 at he
  split at he<;>try (cases he;done)
  rename_i k P1 du h1
  split at he<;>try (cases he;done)
  rename_i P2 f7 h2
  cases he
  have next:∀a' R',W5 P1 (At Z a' R')→Qq E.P ops.toArray (Q .normal) r a' R':=fun a' R' h'=>Bse ok (fun o ho=>hW o (List.mem_cons_of_mem _ ho)) h' h2 (fun p hm=>hp p (List.mem_append.2 (.inr hm))) hk
  unfold Qq
  rcases Ajb ok (hW o (List.mem_cons_self ..)) h1 (fun p hm=>hp p (List.mem_append.2 (.inl hm))) h with⟨g1,g2⟩|⟨g1,g2⟩
  ·rw[if_pos g1]
   exact DL g2 fun v R' ⟨_,g3⟩=>next _ _ g3
  ·rw[if_neg (by rw[g1];exact Bool.false_ne_true)]
   exact next _ _ g2
theorem Aja {s0:St} (ok:EnvOk E) {ops:List Oper}:∀{l:List Oper} {P P':List E9} {ps:List Prop},Az4 E ops l P=some (P',ps)→Zc s0 P→Zc s0 P'
 | [],P,P',ps,he,h=>by cases he;exact h
 |o::r,P,P',ps,he,h=>by
  unfold Az4 at he
  split at he<;>try (cases he;done)
  rename_i k P1 du h1
  split at he<;>try (cases he;done)
  rename_i P2 f7 h2
  cases he
  exact Aja ok h2 (Vp ok h1 h)
end
def Bjb (P:Program):Nat→TypeId→Bool
 |0,_=>true
 |d+1,t=>match P.underlying t with
  |some (.slice _)=>true
  |some (.struct fs)=>fs.toList.any fun f=>Bjb P d f.type
  |some (.array _ e)=>Bjb P d e
  |some (.tuple es)=>es.toList.any fun e=>Bjb P d e
  |_=>false
def B6o (P:Program) (o:Oper):Bool:=match o.op with
 | .alloc _=>true
 | .box _ _=>true
 | .buildSlice _ _ _=>true
 | .makeSlice _ _ _=>true
 | .store _ _ _=>true
 | .range _ _=>true
 | .next _ _=>true
 | .makeMap _ _=>true
 | .mapUpdate _ _ _ _=>true
 | .convert _ dst _=>match P.underlying dst with
  |some (.slice _)=>true
  |_=>false
 | .call {callee:=.builtin .append, .. }=>true
 | .call {callee:=.builtin .copy, .. }=>true
 | .call {callee:=.value _, .. }=>Bjb P 4 o.type
 |_=>false
def Bp2 (done:List Nat) (o:Oper):Bool:=o.after.toList.all fun e=>!Region.binds .any e||done.contains e.on
def Bj6 (P:Program) (ops:List Oper):List Nat→List Nat→List Nat→List Nat×List Nat
 | [],done,left=>(done,left.reverse)
 |i::r,done,left=>match ops[i]? with
  |some o=>bif Bp2 done o&&!B6o P o then Bj6 P ops r (i::done) left else Bj6 P ops r done (i::left)
  |none=>Bj6 P ops r done left
def Asn (P:Program) (o:Oper):Bool:=match o.op,o.guard with
 | .alloc e,none=>match(P.info? e).bind (·.zero) with
  |some _=>true
  |none=>false
 |_,_=>false
def By9 (P:Program) (o:Oper):Bool:=bif Asn P o then true else match o.op,o.guard with
 | .call {callee:=.value (.func _),args, .. },none=>args.toList.isEmpty
 |_,_=>false
def mkB (o:Oper):Bool:=match o.op,o.guard with
 | .buildSlice _ _ _,none=>true
 | .box _ _,none=>true
 |_,_=>false
def mkE (E:Env) (s:St) (o:Oper):Option T6:=match o.op,o.guard with
 | .buildSlice t len parts,none=>bif Nat.beq len 0 then none else T9 E s [] t len parts.toList
 | .box e v,none=>Bpn s [] e v
 |_,_=>none
def mkV:Op→Nat→Value
 | .buildSlice _ len _,g=> .slice (some ⟨g,0,none⟩) len len
 |_,g=> .pointer (some ⟨g,0,none⟩)
def B12 (P:Program) (o:Oper):Bool:=bif By9 P o then true else mkB o
def Ai6 (E:Env) (o:Oper):Bool:=bif Asn E.P o then true else match o.op,o.guard with
 | .call {callee:=.value f,args, .. },none=>(match ND E f args.toList with
  |some _=>true
  |none=>false)
 |_,_=>false
def Bd2 (late:Oper→Bool) (sk:Bool) (ops:List Oper) (done:List Nat):List Nat→Option (Nat×List Nat)
 | []=>none
 | i::r=>match ops[i]? with
  |some o=>bif Bp2 done o&&!(sk&&late o) then some (i,r) else match Bd2 late sk ops done r with
   |some (m,l)=>some (m,i::l)
   |none=>none
  |none=>none
def Bka (P:Program) (late:Oper→Bool) (ops:List Oper):Nat→List Nat→List Nat→List Nat
 |0,_,done=>done.reverse
 | n+1,todo,done=>match Bj6 P ops todo done [] with
  | (done',left)=>match Bd2 late true ops done' left with
   |some (m,rest)=>Bka P late ops n rest (m::done')
   |none=>match Bd2 late false ops done' left with
    |some (m,rest)=>Bka P late ops n rest (m::done')
    |none=>done'.reverse
def B6c (P:Program) (ops:List Oper):List Nat:=Bka P (By9 P) ops (ops.length+1) (List.range ops.length) []
def Bzk (P:Program) (ops:List Oper):List Nat:=Bka P (B12 P) ops (ops.length+1) (List.range ops.length) []
def Bmk (E:Env):Tab:=fun g xs nx o=>match xs with
 | .own i off::r=>match Ai i o with
  |some ob=>match E.C g (.own i off::r) nx [(i,some ob)] with
   |some (k,x,nx',o1,ps)=>bif Nat.ble k 1 then none else some (i,x,nx',o1++o,ps)
   |none=>none
  |none=>none
 |_=>none
def Bqt (E:Env) (o:Oper) (s:St):Option Arr:=match o.op,o.guard with
 | .call {callee:=.value f,args, .. },none=>match ND E f args.toList with
  |some _=>none
  |none=>Al9 {E with C:=Bmk E} s [] f args.toList
 |_,_=>none
def Aw3 (E:Env) (o:Oper):List E9→Option (Nat×Nat×List E9×List Prop)
 | [(c,s)]=>match Bqt E o s with
  |some (i,x,nx',o',ps)=>match VH s o.dst ⟨x,nx',o',2,ps⟩ with
   |some s'=>some (i,2,[(c,s')],Us (Bl0 c) ps)
   |none=>none
  |none=>none
 |_=>none
def Aq7 (E:Env) (fr:Bool) (ops:List Oper) (o:Oper) (l:List E9):Option (Nat×List E9×List Prop):=match fr with
 |true=>match Aw3 E o l with
  |some (_,r)=>some r
  |none=>NG E ops o l
 |false=>NG E ops o l
def Bup (Z:FG) (E:Env) (fr:Bool) (o:Oper) (l:List E9) (a:Act) (R R':World):Prop:=
 fr=true→∀i r,Aw3 E o l=some (i,r)→∃c s F N ob,l=[(c,s)]∧BJ c=true∧Rel Z F N s a R∧Ai i s.o=some ob∧R.heap.size≤R'.heap.size∧∀g,g <R.heap.size→¬foot N i ob g→R'.heap[g]?=R.heap[g]?
section
variable {E:Env} {Z:FG} {F:Nat→Prop} {N:Nm} {s:St} {a:Act} {R:World}
theorem Ate {i:Nat} {b:Ob}:∀{o1 o2:AE},Ai i (o1++o2)=some b→Ai i o1=some b∨Ai i o2=some b
 | [],_,h=> .inr h
 |(j,y)::r,o2,h=>by
  rw[List.cons_append,AG] at h
  rw[AG]
  by_cases e:i=j
  ·rw[if_pos e] at h⊢;exact .inl h
  ·rw[if_neg e] at h⊢;exact Ate h
theorem A0k {i:Nat} {y:Option Ob}:∀{d o2:AE} {b:Ob},Ai i (d++[(i,y)]++o2)=some b→Ai i (d++[(i,y)])=some b
 | [],o2,b,h=>by
  rw[List.nil_append,List.singleton_append,AG,if_pos rfl] at h
  rw[List.nil_append,AG,if_pos rfl];exact h
 |(j,z)::r,o2,b,h=>by
  rw[List.cons_append,List.cons_append,AG] at h
  rw[List.cons_append,AG]
  by_cases e:i=j
  ·rw[if_pos e] at h⊢;exact h
  ·rw[if_neg e] at h⊢;exact A0k h
theorem Bix {o:Oper} {l:List E9} {i:Nat} {r:Nat×List E9×List Prop} (he:Aw3 E o l=some (i,r)):∃c s f args ts x nx' o' ps s',l=[(c,s)]∧o.op=.call {callee:=.value f,args:=args,argTypes:=ts}∧o.guard=none∧
  Al9 {E with C:=Bmk E} s [] f args.toList=some (i,x,nx',o',ps)∧VH s o.dst ⟨x,nx',o',2,ps⟩=some s'∧r=(2,[(c,s')],Us (Bl0 c) ps):=by
 unfold Aw3 at he
 split at he<;>try (cases he;done)
 rename_i c s
 split at he<;>try (cases he;done)
 rename_i j x nx' o' ps hf
 split at he<;>try (cases he;done)
 rename_i s' hs
 cases he
 unfold Bqt at hf
 split at hf<;>try (cases hf;done)
 rename_i f args ts ho hg
 split at hf<;>try (cases hf;done)
 exact⟨c,s,f,args,ts,x,nx',o',ps,s',rfl,ho,hg,hf,hs,rfl⟩
theorem Biz {g:FuncId} {xs:List A} {nx:Nat} {o:AE} {i:Nat} {x:A} {nx':Nat} {o':AE} {ps:List Prop} (he:Bmk E g xs nx o=some (i,x,nx',o',ps)):∃off r ob k o1,xs=.own i off::r∧Ai i o=some ob∧E.C g xs nx [(i,some ob)]=some (k,x,nx',o1,ps)∧o'=o1++o:=by
 unfold Bmk at he
 split at he<;>try (cases he;done)
 rename_i j off r
 split at he<;>try (cases he;done)
 rename_i ob hl
 split at he<;>try (cases he;done)
 rename_i k x1 nx1 o1 du hc
 cases hk:Nat.ble k 1 with
 |true=>rw[hk] at he;cases he
 |false=>
  rw[hk] at he
  cases he
  exact⟨off,r,ob,k,o1,rfl,hl,hc,rfl⟩
theorem Bqu {s0:St} {o:Oper} {l:List E9} {i k:Nat} {l':List E9} {qs:List Prop} (he:Aw3 E o l=some (i,k,l',qs)) (h:Zc s0 l):Zc s0 l':=by
 obtain⟨c,s,f,args,ts,x,nx',o',ps,s',rfl,_,_,h1,h2,h3⟩:=Bix he
 cases h3
 refine⟨h.1.trans (A9w h2 ?_),trivial⟩
 have:∃g xs,Bmk E g xs s.nx s.o=some (i,x,nx',o',ps):=by
  unfold Al9 at h1
  split at h1<;>try (cases h1;done)
  replace h1:=C6 h1
  split at h1<;>try (cases h1;done)
  exact⟨_,_,h1⟩
 obtain⟨g,xs,h4⟩:=this
 obtain⟨_,_,_,_,o1,_,_,_,rfl⟩:=Biz h4
 exact⟨o1,rfl⟩
theorem Bua (ok:EnvOk E) {s0:St} {fr:Bool} {ops:List Oper} {o:Oper} {l l':List E9} {k:Nat} {qs:List Prop} (he:Aq7 E fr ops o l=some (k,l',qs)) (h:Zc s0 l):Zc s0 l':=by
 unfold Aq7 at he
 split at he
 ·split at he
  ·rename_i i r hr
   cases he
   exact Bqu hr h
  ·exact Vp ok he h
 ·exact Vp ok he h
theorem Biy (ok:EnvOk E) {o:Oper} {l:List E9} {i k:Nat} {l':List E9} {qs:List Prop} (hW:∀d,o.dst=some d→Z.W d) (he:Aw3 E o l=some (i,k,l',qs)) (hp:∀q∈qs,q) (h:W5 l (At Z a R)):
  k=2∧o.guard=none∧Hy E.P (fun v R'=>W5 l' (At Z (a.put o.dst v) R')∧∃c s F N ob,l=[(c,s)]∧BJ c=true∧Rel Z F N s a R∧Ai i s.o=some ob∧R.heap.size≤R'.heap.size∧∀g,g <R.heap.size→¬foot N i ob g→R'.heap[g]?=R.heap[g]?) ((execOp a.eval o).run E.P R):=by
 obtain⟨c,s,f,args,ts,x,nx',o',ps,s',rfl,ho,hg,h1,h2,h3⟩:=Bix he
 cases h3
 rcases h with⟨hc,F,N,hr⟩|⟨_,h⟩
 ·refine⟨rfl,hg,?_⟩
  obtain⟨g,xs,vs,g1,wh,g2,g3⟩:=Ar4 (E:={E with C:=Bmk E}) hr (FI _) ho h1
  obtain⟨off,r,ob,k',o1,rfl,g4,g5,rfl⟩:=Biz g1
  have one:∀{j:Nat} {aj:Ob},Ai j [(i,some ob)]=some aj→j=i∧aj=ob:=fun {j aj} hj=>by
   rw[AG] at hj
   by_cases e:j=i
   ·rw[if_pos e] at hj;cases hj;exact⟨e,rfl⟩
   ·rw[if_neg e] at hj;cases hj
  have hsub:∀j aj,Ai j [(i,some ob)]=some aj→Ai j s.o=some aj:=fun j aj hj=>by obtain⟨rfl,rfl⟩:=one hj;exact g4
  rw[g3 R]
  have cu:∀p∈ps,p:=NK hp (A2b hc)
  obtain⟨d,rfl⟩:=ok.suf _ _ _ _ _ _ _ _ _ g5
  refine(ok.C _ _ _ _ _ _ _ _ _ g5 wh cu F N R vs (hr.hp.weak hsub) g2).mono fun e R' ⟨y,F',N',e1,e2,e3,e4,_⟩=>⟨y,e1,?_,?_⟩
  ·obtain⟨q1,q2⟩:=hr.hp.frame (o':=d++[(i,some ob)]++s.o) hsub e3 e2 fun j aj hj=>by
    by_cases e:j=i
    ·subst e
     exact .inl (A0k hj)
    ·rcases Ate hj with h5|h5
     ·exact .inl h5
     ·exact .inr ⟨h5,by rw[AG,if_neg e];rfl⟩
   obtain⟨F2,N2,q3⟩:=Bkj hr h2 hW (v:=y) (R':=R') ⟨F',N',q1,q2,e4,fun hk=>by
    have:(2:Nat)≤1:=hk
    omega⟩
   exact .inl ⟨hc,F2,N2,q3⟩
  ·refine⟨c,s,F,N,ob,rfl,hc,hr,g4,e3.size,fun g hg hn=>e3.keep g hg fun hf=>hn ?_⟩
   obtain⟨j,aj,hj,hy⟩:=hf
   obtain⟨rfl,rfl⟩:=one hj
   exact hy
 ·exact h.elim
theorem Bx5 (ok:EnvOk E) {fr:Bool} {ops:List Oper} {o:Oper} (hW:∀d,o.dst=some d→Z.W d) {l l':List E9} {k:Nat} {qs:List Prop} (he:Aq7 E fr ops o l=some (k,l',qs)) (hp:∀q∈qs,q) (h:W5 l (At Z a R)):
  (Region.wanted o (yielded ops.toArray a.tmps)=true∧Hy E.P (fun v R'=>(k≤1→Below R.heap.size R R')∧W5 l' (At Z (a.put o.dst v) R')∧Bup Z E fr o l a R R') ((execOp a.eval o).run E.P R))∨
  (Region.wanted o (yielded ops.toArray a.tmps)=false∧W5 l' (At Z (a.put o.dst undef) R)):=by
 have plain:∀(hn:∀i r,fr=true→Aw3 E o l=some (i,r)→False),NG E ops o l=some (k,l',qs)→(Region.wanted o (yielded ops.toArray a.tmps)=true∧Hy E.P (fun v R'=>(k≤1→Below R.heap.size R R')∧W5 l' (At Z (a.put o.dst v) R')∧Bup Z E fr o l a R R') ((execOp a.eval o).run E.P R))∨
  (Region.wanted o (yielded ops.toArray a.tmps)=false∧W5 l' (At Z (a.put o.dst undef) R)):=fun hn he=>by
  rcases Ajb ok hW he hp h with⟨g1,g2⟩|g
  ·exact .inl ⟨g1,DL g2 fun v R' ⟨g3,g4⟩=>⟨g3,g4,fun h1 i r h2=>(hn i r h1 h2).elim⟩⟩
  ·exact .inr g
 unfold Aq7 at he
 split at he
 ·split at he
  ·rename_i i r hr
   cases he
   obtain⟨rfl,g1,g2⟩:=Biy ok hW hr hp h
   refine .inl ⟨LL g1 _,DL g2 fun v R' ⟨g3,g4⟩=>⟨fun hk=>by omega,g3,fun _ i' r' h2=>?_⟩⟩
   rw[hr] at h2
   cases h2
   exact g4
  ·rename_i hr
   exact plain (fun i r _ h2=>by rw[hr] at h2;cases h2) he
 ·exact plain (fun i r h1=>by cases h1) he
theorem Bhp (ok:EnvOk E) {fr:Bool} {ops:List Oper} {o:Oper} (hW:∀d,o.dst=some d→Z.W d) {l l':List E9} {qs:List Prop} (he:Aq7 E fr ops o l=some (0,l',qs)) (hp:∀q∈qs,q) (h:W5 l (At Z a R)):∃v,W5 l' (At Z (a.put o.dst v) R)∧A61 E.P ops o a R v:=by
 unfold Aq7 at he
 split at he
 ·split at he
  ·rename_i i r hr
   cases he
   obtain⟨h0,_⟩:=Biy ok hW hr hp h
   cases h0
  ·exact Vo ok hW he hp h
 ·exact Vo ok hW he hp h
end
def evK (E:Env) (fr:Bool) (ops:List Oper):List Nat→List E9→Option (List Nat×List E9×List Prop)
 | [],l=>some ([],l,[])
 | i::r,l=>match ops[i]? with
  | some o=>match Aq7 E fr ops o l with
   |some (k,l',ps)=>match evK E fr ops r l' with
    |some (ks,qj,qs)=>some (k::ks,qj,ps++qs)
    |none=>none
   |none=>none
  |none=>none
def stK (E:Env) (fr:Bool) (ops:List Oper):List Nat→List E9→Nat→Option (List E9)
 |_,l,0=>some l
 | [],_,_+1=>none
 | i::r,l,k+1=>match ops[i]? with
  |some o=>match Aq7 E fr ops o l with
   |some (_,l',_)=>stK E fr ops r l' k
   |none=>none
  |none=>none
theorem Awb {E:Env} {fr:Bool} {ops:List Oper} {L:List Nat} {l:List E9}:stK E fr ops L l 0=some l:=by cases L<;>rfl
theorem Bqr {E:Env} {fr:Bool} {ops:List Oper}:∀{L:List Nat} {l:List E9} {ks:List Nat} {lF:List E9} {ql:List Prop},evK E fr ops L l=some (ks,lF,ql)→
  stK E fr ops L l L.length=some lF∧∀k,k <L.length→∃l1 o l2 f7,ops[L.getD k 0]?=some o∧stK E fr ops L l k=some l1∧Aq7 E fr ops o l1=some (ks.getD k 0,l2,f7)∧(∀p∈f7,p∈ql)∧stK E fr ops L l (k+1)=some l2
 | [],l,ks,lF,ql,h=>by cases h;exact⟨rfl,fun k hk=>by cases hk⟩
 | i::r,l,ks,lF,ql,h=>by
  unfold evK at h
  split at h<;>try (cases h;done)
  rename_i o ho
  split at h<;>try (cases h;done)
  rename_i kd l' ps hst
  split at h<;>try (cases h;done)
  rename_i ks' qj qs hr
  cases h
  obtain⟨h1,h2⟩:=Bqr hr
  have hs:∀k,stK E fr ops (i::r) l (k+1)=stK E fr ops r l' k:=fun k=>by
   show(match ops[i]? with|some o=>(match Aq7 E fr ops o l with|some (_,l',_)=>stK E fr ops r l' k|none=>none)|none=>none)=_
   rw[ho]
   simp only[hst]
  refine⟨by rw[List.length_cons,hs];exact h1,fun k hk=>?_⟩
  cases k with
  |zero=>exact⟨l,o,l',ps,ho,Awb,hst,fun p hp=>List.mem_append.2 (.inl hp),by rw[hs,Awb]⟩
  |succ k=>
   obtain⟨s1,o1,s2,f7,g1,g2,g3,g5,g6⟩:=h2 k (by simpa using hk)
   exact⟨s1,o1,s2,f7,by simpa using g1,by rw[hs];exact g2,by simpa using g3,fun p hp=>List.mem_append.2 (.inr (g5 p hp)),by rw[hs];exact g6⟩
theorem A2z {E:Env} {fr:Bool} {s0:St} (ok:EnvOk E) {ops:List Oper}:∀{L:List Nat} {P P':List E9} {ks:List Nat} {ps:List Prop},evK E fr ops L P=some (ks,P',ps)→Zc s0 P→Zc s0 P'
 | [],P,P',ks,ps,he,h=>by cases he;exact h
 |i::r,P,P',ks,ps,he,h=>by
  unfold evK at he
  split at he<;>try (cases he;done)
  split at he<;>try (cases he;done)
  rename_i k P1 du h1
  split at he<;>try (cases he;done)
  rename_i ks2 P2 f7 h2
  cases he
  exact A2z ok h2 (Bua ok h1 h)
def A7s (E:Env) (o o':Oper) (s:St):Bool:=match o.op,o'.op,o'.guard with
 | .load t x,.store t' x' v',none=>match s.ev [] x,s.ev [] x' with
  |some (.own i _),some (.own i' _)=>bif Nat.beq i i' then false else(match Ai i s.o,Ai i' s.o,Amk E s [] t x,Bg9 E s [] t' x' v',cellsOf s [] v' with
   |some (.box _ _),some (.box _ _),some _,some _,some _=>true
   |_,_,_,_,_=>false)
  |_,_=>false
 |_,_,_=>false
def A7q (E:Env) (o o':Oper):List E9→Bool
 | []=>true
 |(_,s)::r=>bif A7s E o o' s then A7q E o o' r else false
def EH {α:Type} (P:Program) (m:Sem α):Prop:=∀w x w1,m.run P w=.ok x w1→w1=w∧∀w',m.run P w'=.ok x w'
section
variable {P:Program} {α β:Type}
theorem EH.pure (x:α):EH P (Pure.pure x:Sem α):=fun w y w1 h=>by
 have h':Result.ok x w=Result.ok y w1:=h
 cases h'
 exact⟨rfl,fun _=>rfl⟩
theorem EH.bind {m:Sem α} {f:α→Sem β} (h:EH P m) (k:∀x,EH P (f x)):EH P (m >>= f):=fun w y w1 he=>by
 rw[Sem.run_bind] at he
 cases hm:m.run P w with
 |halt e w2=>rw[hm] at he;cases he
 |ok x w2=>
  rw[hm] at he
  obtain⟨rfl,h2⟩:=h w x w2 hm
  obtain⟨rfl,h3⟩:=k x _ _ _ he
  exact⟨rfl,fun w'=>by rw[Sem.run_bind,h2 w'];exact h3 w'⟩
theorem EH.halt (e:Halt):EH P (Sem.halt e:Sem α):=fun w x w1 he=>by cases he
theorem EH.prog {k:Program→Sem α} (h:∀p,EH P (k p)):EH P (do let p ←program;k p):=fun w x w1 he=>h P w x w1 he
def V7 (P:Program) (m:Sem α):Prop:=∀w x w1,m.run P w≠.ok x w1
theorem V7.blind {m:Sem α} (h:V7 P m):EH P m:=fun w x w1 he=>absurd he (h w x w1)
theorem V7.bind {m:Sem α} {f:α→Sem β} (h:∀x,V7 P (f x)):V7 P (m >>= f):=fun w y w1 he=>by
 rw[Sem.run_bind] at he
 cases hm:m.run P w with
 |halt e w2=>rw[hm] at he;cases he
 |ok x w2=>rw[hm] at he;exact h x _ _ _ he
theorem Atv (e:Halt):V7 P (Sem.halt e:Sem α):=fun w x w1 he=>by cases he
theorem A9i (e:RuntimeError):V7 P (runtimePanic e:Sem α):=by
 unfold runtimePanic
 refine V7.bind fun p=>?_
 cases e<;>first|exact Atv _|exact V7.bind fun _=>V7.bind fun _=>Atv _
theorem A3n (k:IntKind) (x y:Int) (c:BoundsCode):V7 P (boundsPanic k x y c:Sem α):=by
 unfold boundsPanic
 split<;>exact V7.bind fun s=>A9i _
theorem Pl (t:TypeId):EH P (underlying t):=by
 unfold underlying
 refine EH.prog fun p=>?_
 split<;>first|exact .pure _|exact .halt _
theorem Ar0 (t:TypeId):EH P (typeInfo t):=by
 unfold typeInfo
 refine EH.prog fun p=>?_
 split<;>first|exact .pure _|exact .halt _
theorem U6 (t:TypeId):EH P (sizeOf t):=by
 unfold sizeOf
 exact(Ar0 t).bind fun _=> .pure _
theorem Blt (v:Value):EH P (asIntOf v):=by
 unfold asIntOf
 split<;>first|exact .pure _|exact .halt _
theorem Bc0 (v:Value):EH P (Instr.sureAddr v):=by
 unfold Instr.sureAddr
 split<;>first|exact .pure _|exact .halt _
theorem A7e (t:TypeId) (x i:Value):EH P (Instr.indexAt t x i):=by
 unfold Instr.indexAt
 refine(Blt i).bind fun ki=>?_
 repeat' (first|exact EH.pure _|exact EH.halt _|exact Pl _|exact Bc0 _|exact U6 _|exact(A3n _ _ _ _).blind|(refine EH.bind ?_ fun _=>?_)|split|dsimp only)
theorem Bc1 (t:TypeId):EH P (zeroValue t):=by
 unfold zeroValue
 refine(Ar0 t).bind fun i=>?_
 split<;>first|exact .pure _|exact .halt _
theorem Bcz {γ:Type} (f:γ→Sem β) (hf:∀x,EH P (f x)) (l:Array γ):EH P (l.mapM f):=by
 rw[Array.mapM_eq_mapM_toList]
 refine EH.bind ?_ fun _=> .pure _
 induction l.toList with
 |nil=>exact .pure _
 |cons a r ih=>
  rw[List.mapM_cons]
  exact(hf a).bind fun _=>ih.bind fun _=> .pure _
theorem A7c (t:TypeId) (parts:Array (Nat×Value)):EH P (Instr.build t parts):=by
 unfold Instr.build
 refine EH.bind ((Bc1 t)) fun z=>?_
 refine(Pl t).bind fun d=>?_
 split
 ·refine(Bcz _ (fun f=>(U6 _).bind fun _=> .pure _) _).bind fun ps=>?_
  split<;>first|exact .pure _|exact .halt _
 ·refine(U6 _).bind fun s=>?_
  split<;>first|exact .pure _|exact .halt _
 ·exact .halt _
theorem Blq (v:Value):EH P (asAgg v):=by
 unfold asAgg
 split<;>first|exact .pure _|exact .halt _
theorem A7f (t:TypeId):EH P (isAgg t):=by
 unfold isAgg
 refine(Pl t).bind fun d=>?_
 repeat' (first|exact EH.pure _|exact EH.halt _|split|dsimp only)
theorem A7d (t:TypeId) (x:Value) (f:Nat):EH P (Instr.field t x f):=by
 unfold Instr.field part
 refine(Pl t).bind fun d=>?_
 repeat' (first|exact EH.pure _|exact EH.halt _|exact Blq _|exact A7f _|exact U6 _|(refine EH.bind ?_ fun _=>?_)|split|dsimp only)
def B49:BinOp→Bool
 | .eql=>true
 | .neq=>true
 | .lss=>true
 | .leq=>true
 | .gtr=>true
 | .geq=>true
 |_=>false
theorem Bls (t:TypeId) (v:Value) (k:IntKind) (n:Int):EH P (Op.equal t v (.int k n)):=by
 unfold Op.equal Op.equalIn
 refine(Pl t).bind fun d=>?_
 split<;>first|exact .pure _|exact .halt _|contradiction|skip
 all_goals first
  |(split<;>first|exact .pure _|exact .halt _)
  |skip
theorem Blr {op:BinOp} (h:B49 op=true) (t:TypeId) (x y:Operand) (v:Value) (k:IntKind) (n:Int):EH P (do eqGuard op t x y v (.int k n);binOp op t v (.int k n)):=by
 refine EH.bind ?_ fun _=>?_
 ·unfold eqGuard
  cases op<;>cases v<;>first|exact .pure _|(cases h;done)
 ·cases op<;>try (cases h;done)
  all_goals
   cases v<;>first
    |exact .halt _
    |(rename_i k' a;show EH P (if k'≠k then _ else _);split<;>first|exact .halt _|exact .pure _)
    |exact(Bls _ _ _ _).bind fun _=> .pure _
    |(unfold binOp;first|exact .pure _|exact .halt _|(split<;>first|exact .pure _|exact .halt _)|(rename_i p;cases p<;>first|exact .pure _|exact .halt _))
def A11:Op→Bool
 | .indexAddr _ _ _=>true
 | .build _ _=>true
 | .field _ _ _=>true
 | .binOp op _ _ (.const (.int _ _)) _=>B49 op
 |_=>false
theorem Bcy {ev:Operand→Value} {o:Oper} (h:A11 o.op=true) (iw:∀v,ev (.const v)=v):∃I:Sem Value,execOp ev o=(do pure (.value (←I)))∧EH P I:=by
 obtain⟨dst,op,type,pos,after,guard⟩:=o
 simp only at h
 unfold A11 at h
 split at h<;>try (cases h;done)
 ·exact⟨_,rfl,A7e _ _ _⟩
 ·exact⟨_,rfl,A7c _ _⟩
 ·exact⟨_,rfl,A7d _ _ _⟩
 ·rename_i vl t x k n yt
  refine⟨_,rfl,?_⟩
  rw[iw]
  exact Blr h _ _ _ _ _ _
end
def Bjx (ops:List Oper) (order:List Nat) (j:Nat):Bool:=match ops[order.getD j 0]? with
 |some o=>(match o.op with
  | .move _=>true
  | .extract _ _=>true
  |p=>A11 p)
 |none=>false
theorem A0w {P:Program} {ops:List Oper} {order:List Nat} {a:Act} {V:Nat→Value} {w w':World} {j:Nat} (h:Bjx ops order j=true) (hp:QA P ops.toArray (fun k=>order.getD k 0) a V w j):QA P ops.toArray (fun k=>order.getD k 0) a V w' j:=fun o2 dw=>by
 have mh:ops[order.getD j 0]?=some o2:=by simpa using dw
 unfold Bjx at h
 rw[mh] at h
 simp only at h
 split at h<;>try (cases h;done)
 ·rename_i x hx
  have hex:∀w1,(execOp (canA ops.toArray (fun k=>order.getD k 0) a V j).eval o2).run P w1=.ok (.value ((canA ops.toArray (fun k=>order.getD k 0) a V j).eval x)) w1:=fun w1=>by
   obtain⟨dst,op,type,pos,after,guard⟩:=o2
   simp only at hx
   subst hx
   rfl
  rcases hp o2 dw with⟨p1,p2⟩|⟨p1,p2⟩
  ·refine .inl ⟨p1,fun w1 _=>?_⟩
   have p3:=p2 w (Below.refl _ _)
   rw[hex] at p3⊢
   exact⟨rfl,p3.2⟩
  ·exact .inr ⟨p1,p2⟩
 ·rename_i x ix hx
  have hex:∀w1,(execOp (canA ops.toArray (fun k=>order.getD k 0) a V j).eval o2).run P w1=(do pure (.value (←Instr.extract ((canA ops.toArray (fun k=>order.getD k 0) a V j).eval x) ix)):Sem Next).run P w1:=fun w1=>by
   obtain⟨dst,op,type,pos,after,guard⟩:=o2
   simp only at hx
   subst hx
   rfl
  rcases hp o2 dw with⟨p1,p2⟩|⟨p1,p2⟩
  ·refine .inl ⟨p1,fun w1 _=>?_⟩
   have p3:=p2 w (Below.refl _ _)
   rw[hex] at p3⊢
   revert p3
   generalize (canA ops.toArray (fun k=>order.getD k 0) a V j).eval x=v
   intro p3
   cases v<;>try exact(show False from p3).elim
   rename_i vs
   unfold Instr.extract at p3⊢
   cases h:vs[ix]? with
   |none=>simp only[h] at p3;exact(show False from p3).elim
   |some u=>simp only[h] at p3⊢;exact⟨rfl,(show _∧_ from p3).2⟩
  ·exact .inr ⟨p1,p2⟩
 ·have kj:A11 o2.op=true:=h
  rcases hp o2 dw with⟨p1,p2⟩|⟨p1,p2⟩
  ·refine .inl ⟨p1,fun w1 _=>?_⟩
   have p3:=p2 w (Below.refl _ _)
   obtain⟨I,hI,hb⟩:=Bcy (P:=P) (ev:=(canA ops.toArray (fun k=>order.getD k 0) a V j).eval) kj (fun _=>rfl)
   rw[hI,Sem.run_bind] at p3⊢
   cases hr:I.run P w with
   |halt e w2=>rw[hr] at p3;exact(show False from p3).elim
   |ok x w2=>
    rw[hr] at p3
    rw[(hb w x w2 hr).2 w1]
    exact⟨rfl,(show _∧_ from p3).2⟩
  ·exact .inr ⟨p1,p2⟩
def A7p (E:Env) (fr:Bool) (ops:List Oper) (order:List Nat) (l0:List E9) (j k:Nat):Bool:=match ops[order.getD j 0]?,ops[order.getD k 0]?,stK E fr ops order l0 k with
 | some o,some o',some l=>bif A7q E o o' l then(match o.op with
  | .load _ (.tmp x)=>(List.range (k - j)).all fun m=>match ops[order.getD (j+m) 0]? with
   |some p=>match p.dst with
    |some d=>!(Nat.beq d x)
    |none=>true
   |none=>true
  |_=>false) else false
 |_,_,_=>false
def Bv1 (E:Env) (o:Oper) (s:St) (i':Nat):Bool:=match o.op with
 | .load t x=>match s.ev [] x with
  |some (.own i _)=>bif Nat.beq i i' then false else(match Ai i s.o,Amk E s [] t x with
   |some (.box _ _),some _=>true
   |_,_=>false)
  |_=>false
 |_=>false
def A7o (E:Env) (fr:Bool) (ops:List Oper) (order:List Nat) (l0:List E9) (j k:Nat):Bool:=match fr,ops[order.getD j 0]?,ops[order.getD k 0]?,stK E fr ops order l0 k with
 | true,some o,some o',some l=>(match l,Aw3 E o' l with
  | [(_,s)],some (i',_)=>bif Bv1 E o s i' then(match o.op with
   | .load _ (.tmp x)=>(List.range (k - j)).all fun m=>match ops[order.getD (j+m) 0]? with
    |some p=>match p.dst with
     |some d=>!(Nat.beq d x)
     |none=>true
    |none=>true
   |_=>false) else false
  |_,_=>false)
 |_,_,_,_=>false
def B1w (o:Oper):Option Nat:=match o.op with
 | .fieldAddr _ (.tmp x) _=>some x
 | .nilCheck (.tmp x)=>some x
 |_=>none
def Bd4 (E:Env) (o:Oper):List E9→Bool
 | []=>true
 | (_,s)::r=>match o.op with
  | .fieldAddr t x f=>(match Asw E s [] t x f with
   |some _=>Bd4 E o r
   |none=>false)
  | .nilCheck x=>(match s.ev [] x with
   |some z=>bif Bhf z then Bd4 E o r else false
   |none=>false)
  |_=>false
def Bif (E:Env) (fr:Bool) (ops:List Oper) (order:List Nat) (l0:List E9) (j k:Nat):Bool:=match fr,ops[order.getD j 0]?,stK E fr ops order l0 k with
 | true,some o,some l=>(match B1w o with
  | some x=>bif Bd4 E o l then((List.range (k - j)).all fun m=>match ops[order.getD (j+m) 0]? with
   |some p=>match p.dst with
    |some d=>!(Nat.beq d x)
    |none=>true
   |none=>true) else false
  |none=>false)
 |_,_,_=>false
section
variable {E:Env} {Z:FG} {F:Nat→Prop} {N:Nm} {s:St} {a:Act} {R:World}
theorem A89 (h:Rel Z F N s a R) {t:TypeId} {x:Operand} {i off:Nat} (hx:s.ev [] x=some (.own i off)) {e0:TypeId} {cs0:List A} (mf:Ai i s.o=some (.box e0 cs0)) {z:A} {ps:List Prop} (he:Amk E s [] t x=some (z,ps)):
  ∃y,∀R',R'.heap[N.b i]?=R.heap[N.b i]?→(Instr.loadAt t (a.eval x)).run E.P R'=.ok y R':=by
 have hx':=(BL h (FI _) hx).2.own_inv
 unfold Amk at he
 rw[hx] at he
 simp only at he
 rw[mf] at he
 simp only at he
 have hl:=mf
 split at he<;>try (cases he;done)
 rename_i z' hz
 cases he
 obtain⟨_,vs,g1,g2⟩:=h.hp.ob i _ hl
 obtain⟨y,_,q2⟩:=Ahx (ad:=⟨N.b i,off,none⟩) hz (g1.drop off)
 refine⟨y,fun R' hb=>?_⟩
 rw[LJ hx'.2]
 refine q2 R' fun j v hj=>?_
 rw[D7,D6 (hb.trans g2)]
 rw[List.getElem?_drop] at hj
 simpa using hj
theorem Bxn (h:Rel Z F N s a R) {t:TypeId} {x v:Operand} {i off:Nat} (hx:s.ev [] x=some (.own i off)) {e0:TypeId} {cs0:List A} (mf:Ai i s.o=some (.box e0 cs0)) {vx:List A} (mq:cellsOf s [] v=some vx) {f:T6} (he:Bg9 E s [] t x v=some f):
  ∃R',(Instr.storeAt t (a.eval x) (a.eval v)).run E.P R=.ok () R'∧R'.heap.size=R.heap.size∧∀g,g≠N.b i→R'.heap[g]?=R.heap[g]?:=by
 have hx':=(BL h (FI _) hx).2.own_inv
 unfold Bg9 at he
 split at he
 rotate_left
 ·rename_i fy
  rw[mq] at fy
  cases fy
 rename_i us fy
 obtain⟨hu,h1⟩:=Ar7 h (FI _) fy
 have hlen:=hu.length
 split at he<;>try (cases he;done)
 rename_i n hn
 cases hb:Nat.beq n us.length with
 |false=>rw[hb] at he;cases he
 | true=>
  rw[hb] at he
  obtain rfl:=Nat.eq_of_beq_eq_true hb
  simp only[cond_true,hx] at he
  rw[←hlen] at hn
  have hl:=mf
  rw[mf] at he
  simp only at he
  generalize e0=e at hl he
  generalize cs0=cs at hl he
  cases az:Nat.ble (off+us.length) cs.length with
  |false=>rw[az] at he;cases he
  |true=>
   have hle:=Nat.le_of_ble_eq_true az
   obtain⟨_,vs,g1,g2⟩:=h.hp.ob i _ hl
   have lh:=g1.length
   exact⟨_,FD hx'.2 g2 hn (by omega) h1,by simp[World.setRow],fun g hg=>setRow_other R _ g _ hg⟩
theorem Bva (h:Rel Z F N s a R) {o o':Oper} (hc:A7s E o o' s=true):
  ∃t x R' y,o.op=.load t x∧o'.guard=none∧(execOp a.eval o').run E.P R=.ok .skip R'∧(Instr.loadAt t (a.eval x)).run E.P R=.ok y R∧
   ∀w1,Below R'.heap.size R' w1→(Instr.loadAt t (a.eval x)).run E.P w1=.ok y w1:=by
 unfold A7s at hc
 split at hc<;>try (cases hc;done)
 rename_i t x t' x' v' ho ho' hg
 split at hc<;>try (cases hc;done)
 rename_i i off i' br hx hx'
 cases hb:Nat.beq i i' with
 |true=>rw[hb] at hc;cases hc
 | false=>
  rw[hb] at hc
  simp only[cond_false] at hc
  split at hc<;>try (cases hc;done)
  rename_i e cs e' dx zl f vx lz nw hl hf mq
  obtain⟨z,ps⟩:=zl
  obtain⟨y,g1⟩:=A89 h hx lz hl
  obtain⟨R',g2,g3,g4⟩:=Bxn h hx' nw mq hf
  have ao:N.b i≠N.b i':=fun e=>by
   have:=h.hp.sep i i' _ _ (N.b i) lz nw rfl e
   subst this
   simp at hb
  obtain⟨_,vs,_,q2⟩:=h.hp.ob i _ lz
  refine⟨t,x,R',y,ho,hg,?_,g1 R rfl,fun w1 hw=>g1 w1 ?_⟩
  ·obtain⟨dst,op,type,pos,after,guard⟩:=o'
   simp only at ho'
   subst ho'
   simp[execOp,g2]
  ·rw[hw.block _ (by rw[g3];exact KA q2)]
   exact g4 _ ao
theorem A7r {o o':Oper}:∀{l:List E9},A7q E o o' l=true→W5 l (fun s=>∃F N,Rel Z F N s a R)→∃s F N,Rel Z F N s a R∧A7s E o o' s=true
 | [],_,h=>h.elim
 | (c,s)::r,hc,h=>by
  unfold A7q at hc
  cases hp:A7s E o o' s with
  |false=>rw[hp] at hc;cases hc
  |true=>
   rw[hp] at hc
   rcases h with⟨_,F,N,h⟩|⟨_,h⟩
   ·exact⟨s,F,N,h,hp⟩
   ·exact A7r hc h
theorem A20 {o:Oper} {x:Nat} (hx:B1w o=some x):∀{l:List E9},Bd4 E o l=true→W5 l (At Z a R)→∃y,∀(ev:Operand→Value) (R':World),ev (.tmp x)=a.eval (.tmp x)→(execOp ev o).run E.P R'=.ok (.value y) R'
 | [],_,h=>h.elim
 | (c,s)::r,hc,h=>by
  have nk:=hx
  obtain⟨dst,op,type,pos,after,guard⟩:=o
  unfold B1w at hx
  split at hx<;>try (cases hx;done)
  ·rename_i t x' f ho
   cases hx
   simp only at ho
   subst ho
   unfold Bd4 at hc
   simp only at hc
   split at hc
   ·rename_i z hz
    rcases h with⟨_,F,N,h⟩|⟨_,h⟩
    ·obtain⟨_,y,_,hy⟩:=A8g h (FI _) (show Asw E s [] t (.tmp x) f=some (z.1,z.2) from hz)
     refine⟨y,fun ev R' e=>?_⟩
     show(do pure (.value (←Instr.fieldAt t (ev (.tmp x)) f)):Sem Next).run E.P R'=_
     rw[e]
     exact DK (hy R')
    ·exact A20 nk hc h
   ·cases hc
  ·rename_i x' ho
   cases hx
   simp only at ho
   subst ho
   unfold Bd4 at hc
   simp only at hc
   split at hc
   ·rename_i z hz
    cases hs:Bhf z with
    |false=>rw[hs] at hc;cases hc
    | true=>
     rw[hs] at hc
     rcases h with⟨_,F,N,h⟩|⟨_,h⟩
     ·obtain⟨ad,e1⟩:=Awi hs (BL h (FI _) hz).2
      refine⟨.pointer (some ad),fun ev R' e=>?_⟩
      rw[e1] at e
      simp only[execOp,e];rfl
     ·exact A20 nk hc h
   ·cases hc
theorem B1t (h:Rel Z F N s a R) {o:Oper} {i':Nat} (hc:Bv1 E o s i'=true) {ob:Ob} (hi:Ai i' s.o=some ob):∃t x y,o.op=.load t x∧(Instr.loadAt t (a.eval x)).run E.P R=.ok y R∧
   ∀R',R.heap.size≤R'.heap.size→(∀g,g <R.heap.size→¬foot N i' ob g→R'.heap[g]?=R.heap[g]?)→∀w1,Below R'.heap.size R' w1→(Instr.loadAt t (a.eval x)).run E.P w1=.ok y w1:=by
 unfold Bv1 at hc
 split at hc<;>try (cases hc;done)
 rename_i t x ho
 split at hc<;>try (cases hc;done)
 rename_i i off hx
 cases hb:Nat.beq i i' with
 |true=>rw[hb] at hc;cases hc
 |false=>
  rw[hb] at hc
  simp only[cond_false] at hc
  split at hc<;>try (cases hc;done)
  rename_i e cs zl lz hl
  obtain⟨z,ps⟩:=zl
  obtain⟨y,g1⟩:=A89 h hx lz hl
  obtain⟨_,vs,_,q2⟩:=h.hp.ob i _ lz
  refine⟨t,x,y,ho,g1 R rfl,fun R' hs hk w1 hw=>g1 w1 ?_⟩
  have ae:=KA q2
  rw[hw.block _ (by omega)]
  refine hk _ ae fun hf=>?_
  have:=h.hp.sep i i' _ _ (N.b i) lz hi rfl hf
  subst this
  simp at hb
end
abbrev R3:=Option (St×List Prop)
def Bsb (ops:List Oper) (order:List Nat) (p k:Nat) (o:Oper):Bool:=(List.range (k - p)).all fun i=>match ops[order.getD (p+i) 0]? with
 |some o'=>(match o'.dst with
  |some d=>!((o.looksAt ops.toArray).contains d)
  |none=>true)
 |none=>true
def isS {α:Type}:Option α→Bool
 |some _=>true
 |none=>false
def B7s (E:Env) (o:Oper) (l:List E9):Bool:=l.all fun cs=>isS (mkE E cs.2 o)
def B6i (E:Env) (o:Oper) (l:List E9):Bool:=l.all fun cs=>match mkE E cs.2 o with
 |some f=>isS (VH cs.2 o.dst f)
 |none=>false
def Bwy (E:Env) (fr:Bool) (ops:List Oper) (order:List Nat) (l0:List E9) (k:Nat) (o:Oper):Bool:=
 (match stK E fr ops order l0 k with
 |some l=>B6i E o l
 |none=>false)&&(List.range (k+1)).all fun p=>!(Bsb ops order p k o)||(match stK E fr ops order l0 p with
 |some l=>B7s E o l
 |none=>true)
def Ai7 (E:Env) (fr:Bool) (ops:List Oper) (order:List Nat) (l0:List E9) (k:Nat):Bool:=match ops[order.getD k 0]? with
 |some o=>bif Ai6 E o then true else bif mkB o then Bwy E fr ops order l0 k o else false
 |none=>false
def evO (E:Env) (fr:Bool) (ops:List Oper) (order:List Nat) (s:St):R3:=match evK E fr ops order [(none,s)] with
 |some (ks,l,ps)=>bif A16 ops.toArray order ks (Ai7 E fr ops order [(none,s)]) (fun j k=>(Bjx ops order j||A7p E fr ops order [(none,s)] j k)||(A7o E fr ops order [(none,s)] j k||Bif E fr ops order [(none,s)] j k))&&B1n ops.toArray order (Ai7 E fr ops order [(none,s)]) then some (XM (QQ ops) s l,ps) else none
 |none=>none
def evR (E:Env) (ops:List Oper) (draw:Bool) (s:St):R3:=match draw with
 | true=>match evO E false ops (B6c E.P ops) s with
  |some r=>some r
  | none=>match evO E false ops (Bzk E.P ops) s with
   |some r=>some r
   |none=>match evO E true ops (B6c E.P ops) s with
    |some r=>some r
    |none=>evO E true ops (Bzk E.P ops) s
 |false=>match Az4 E ops ops [(none,s)] with
  |some (l,ps)=>some (XM (QQ ops) s l,ps)
  |none=>none
section
variable {E:Env} {Z:FG} {F:Nat→Prop} {N:Nm} {s:St} {a:Act} {R:World}
theorem Bgx (ok:EnvOk E) {ops:List Oper} {draw:Bool} {s':St} {ps:List Prop} (he:evR E ops draw s=some (s',ps)):Sub s s':=by
 cases draw with
 |false=>
  unfold evR at he
  simp only at he
  split at he<;>try (cases he;done)
  rename_i l du h1
  cases he
  exact Adp _ _ (Aja ok h1 ⟨Sub.refl _,trivial⟩)
 | true=>
  have one:∀fr order,evO E fr ops order s=some (s',ps)→Sub s s':=fun fr order he=>by
   unfold evO at he
   split at he<;>try (cases he;done)
   rename_i ks l du h1
   replace he:=C6 he
   cases he
   exact Adp _ _ (A2z ok h1 ⟨Sub.refl _,trivial⟩)
  unfold evR at he
  simp only at he
  repeat' (split at he)
  all_goals first|exact one _ _ he|(rename_i r hr;cases he;exact one _ _ hr)
def Blm (E:Env) (ops:List Oper) (order:List Nat) (k:Nat) (A:Act) (j:Nat) (v:Value) (G:Nat→Prop) (w:World):Prop:=
 (∃g e z,v=.pointer (some ⟨g,0,none⟩)∧(∃op,ops[order.getD j 0]?=some op∧op.op=.alloc e)∧(E.P.info? e).bind (·.zero)=some z∧(∀b,G b↔b=g)∧w.heap[g]?=some (.cells z.cells.toList.toArray e (0,0)))∨
 (∃g x args ts N0,(∃op,ops[order.getD j 0]?=some op∧op.op=.call {callee:=.value (.func g),args:=args,argTypes:=ts})∧ND E (.func g) args.toList=some (g,x)∧Hv G N0 0 w x v)∨
 (∃g C op,ops[order.getD j 0]?=some op∧mkB op=true∧(∀w0,(execOp A.eval op).run E.P w0=.ok (.value (mkV op.op w0.heap.size)) (w0.alloc C))∧v=mkV op.op g∧(∀b,G b↔b=g)∧w.heap[g]?=some C∧Bo9 ops.toArray (fun k=>order.getD k 0) k j op)
def Rsv (E:Env) (ops:List Oper) (order:List Nat) (B k:Nat) (X:Pi) (A:Act) (F:Nat→Prop) (N:Nm) (o:AE) (w:World):Prop:=
 ∃G:Nat→Nat→Prop,(∀j v,k≤j→X j=some v→Blm E ops order k A j v (G j) w∧∀b,G j b→B≤b∧b <w.heap.size∧¬F b∧¬Gb N o b)∧∀i j u v b,k≤i→k≤j→X i=some u→X j=some v→G i b→G j b→i=j
theorem A1d {E:Env} {ops:List Oper} {order:List Nat} {k:Nat} {A:Act} {j:Nat} {v:Value} {G:Nat→Prop} {w w':World} (h:Blm E ops order k A j v G w) (hk:∀b,G b→w'.heap[b]?=w.heap[b]?):Blm E ops order k A j v G w':=by
 rcases h with⟨g,e,z,h1,h2,h3,h4,h5⟩|⟨g,x,args,ts,N0,h1,h2,h3⟩|⟨g,C,op,h1,h2,h3,h4,h5,h6,h7⟩
 ·exact .inl ⟨g,e,z,h1,h2,h3,h4,by rw[hk g ((h4 g).2 rfl)];exact h5⟩
 ·exact .inr (.inl ⟨g,x,args,ts,N0,h1,h2,h3.step ⟨Nat.le_refl _,fun _ _=>rfl,fun _ _=>rfl,fun _ h=>h,hk⟩⟩)
 ·exact .inr (.inr ⟨g,C,op,h1,h2,h3,h4,h5,by rw[hk g ((h5 g).2 rfl)];exact h6,h7⟩)
theorem Bjv {op:Oper} (h:mkB op=true):∀cs b,op.op≠.select cs b:=fun cs b e=>by
 unfold mkB at h
 rw[e] at h
 cases h
theorem Bby {E:Env} {ops:List Oper} {order:List Nat} {k:Nat} {A:Act} {j:Nat} {v u:Value} {G:Nat→Prop} {w:World} (h:Blm E ops order k A j v G w) (py:k <j) {o:Oper} (ho:ops[order.getD k 0]?=some o):Blm E ops order (k+1) (A.put o.dst u) j v G w:=by
 rcases h with h|h|⟨g,C,op,h1,h2,h3,h4,h5,h6,h7⟩
 ·exact .inl h
 ·exact .inr (.inl h)
 ·refine .inr (.inr ⟨g,C,op,h1,h2,fun w0=>?_,h4,h5,h6,fun i q1 q2=>h7 i (by omega) q2⟩)
  rw[Vq (a:=A) (a':=A.put o.dst u) (ops:=ops.toArray) op (Bjv h2) fun t ht=>?_]
  ·exact h3 w0
  ·cases hd:o.dst with
   |none=>rfl
   |some d=>
    rw[GJ,if_neg]
    rintro⟨rfl,_⟩
    exact h7 k (Nat.le_refl _) py o _ (by simpa using ho) hd ht
theorem Av6 {E:Env} {ops:List Oper} {order:List Nat} {B k nx nx':Nat} {X:Pi} {A:Act} {F F':Nat→Prop} {N N':Nm} {o o':AE} {w w':World} (h:Rsv E ops order B k X A F N o w) (st:Step F N nx o w F' N' nx' o' w'):Rsv E ops order B k X A F' N' o' w':=by
 obtain⟨G,h1,h2⟩:=h
 refine⟨G,fun j v hj hx=>?_,h2⟩
 obtain⟨q1,q2⟩:=h1 j v hj hx
 refine⟨A1d q1 fun b hb=>st.keep b (q2 b hb).2.1 (q2 b hb).2.2.2,fun b hb=>?_⟩
 obtain⟨h4,h5,h6,h7⟩:=q2 b hb
 refine⟨h4,Nat.lt_of_lt_of_le h5 st.size,fun hf=>?_,fun hf=>?_⟩
 ·rcases st.fnew b hf with q|q|q
  ·exact h6 q
  ·exact h7 q
  ·omega
 ·rcases st.foot b hf with q|q
  ·exact h7 q
  ·omega
theorem Arp {E:Env} {ops:List Oper} {order:List Nat} {B k:Nat} {X:Pi} {A:Act} {F:Nat→Prop} {N:Nm} {o:AE} {w:World} (h:Rsv E ops order B k X A F N o w) {op:Oper} (ho:ops[order.getD k 0]?=some op) (u:Value):Rsv E ops order B (k+1) X (A.put op.dst u) F N o w:=by
 obtain⟨G,h1,h2⟩:=h
 exact⟨G,fun j v hj hx=>⟨Bby (h1 j v (by omega) hx).1 (by omega) ho,(h1 j v (by omega) hx).2⟩,fun i j u v b hi hj=>h2 i j u v b (by omega) (by omega)⟩
theorem Btf {E:Env} {ops:List Oper} {order:List Nat} {B k:Nat} {X:Pi} {A:Act} {F:Nat→Prop} {N:Nm} {o:AE} {w w':World} (h:Rsv E ops order B k X A F N o w) (hb:Below w.heap.size w w'):Rsv E ops order B k X A F N o w':=
 Av6 h (nx:=0) (nx':=0) (Step.of_below hb)
theorem Bt5 (h:Rel Z F N s a R) {G:Nat→Prop} {N0:Nm} {x:A} {v:Value} (hG:∀b,G b→Z.R.heap.size≤b∧b <R.heap.size∧¬F b∧¬Gb N s.o b) (hx:Hv G N0 0 R x v) (hf:x.free=true):
  Rel Z (fun b=>F b∨G b) N s a R∧Hv (fun b=>F b∨G b) N s.nx R x v:=by
 have hw:Ext F N s.nx R (fun b=>F b∨G b) N s.nx R:=Ext.wide fun g hg=> .inl hg
 have hw2:Ext G N0 0 R (fun b=>F b∨G b) N0 0 R:=Ext.wide fun g hg=> .inr hg
 refine⟨⟨h.defers,h.size,fun u y hu=>(h.slots u y hu).step hw,⟨fun g hg=>?_,fun i ob hi=>⟨(h.hp.ob i ob hi).1,(h.hp.ob i ob hi).2.step hw (h.hp.ob i ob hi).1 fun _ _=>rfl⟩,fun i ob g hi hg oq=>?_,h.hp.sep,h.hp.gl.step hw⟩,?_,h.tm⟩,(hx.step hw2).free hf⟩
 ·rcases hg with hg|hg
  ·exact h.hp.flt g hg
  ·exact(hG g hg).2.1
 ·rcases oq with oq|oq
  ·exact h.hp.ff i ob g hi hg oq
  ·exact(hG g oq).2.2.2 ⟨i,ob,hi,hg⟩
 ·have:=h.st
  refine⟨this.le,this.b,this.q,fun g hg=> .inl (this.f g hg),fun g hg=>?_,this.foot,this.os,this.tape,this.output,this.size,this.keep⟩
  rcases hg with hg|hg
  ·exact this.fnew g hg
  ·exact .inr (.inr (hG g hg).1)
theorem Bx1 (h:Rel Z F N s a R) {e:TypeId} {z:Value} {g:Nat} (_hB:Z.R.heap.size≤g) (_hg:g <R.heap.size) (nF:¬F g) (nO:¬Gb N s.o g) (hc:R.heap[g]?=some (.cells z.cells.toList.toArray e (0,0))):
  Rel Z F (N.setB s.nx g) ⟨s.n,s.nx+1,s.t,(s.nx,some (.box e (toL z.cells.toList)))::s.o⟩ a R∧Hv F (N.setB s.nx g) (s.nx+1) R (.own s.nx 0) (.pointer (some ⟨g,0,none⟩))∧∀g',Gb (N.setB s.nx g) ((s.nx,some (.box e (toL z.cells.toList)))::s.o) g'→g'=g∨Gb N s.o g':=by
 have hb:(N.setB s.nx g).b s.nx=g:=C2 _ _ _
 have ao:∀i,i <s.nx→(N.setB s.nx g).b i=N.b i:=fun i hi=>EF _ _ (by omega)
 have st:Ext F N s.nx R F (N.setB s.nx g) (s.nx+1) R:=⟨Nat.le_succ _,ao,fun _ _=>rfl,fun _ h=>h,fun _ _=>rfl⟩
 have cases:∀{i ob},Ai i ((s.nx,some (Ob.box e (toL z.cells.toList)))::s.o)=some ob→(i=s.nx∧ob=.box e (toL z.cells.toList))∨(i <s.nx∧Ai i s.o=some ob):=fun {i ob} hl=>by
  rw[AG] at hl
  split at hl
  ·exact .inl ⟨‹_›,(Option.some.inj hl).symm⟩
  ·exact .inr ⟨(h.hp.ob i ob hl).1,hl⟩
 have aw:∀{i ob g'},i <s.nx→(foot (N.setB s.nx g) i ob g'↔foot N i ob g'):=fun {i ob g'} hi=>ER st hi
 have fo:∀g',Gb (N.setB s.nx g) ((s.nx,some (.box e (toL z.cells.toList)))::s.o) g'→g'=g∨Gb N s.o g':=fun g' ⟨i,ob,hl,hf⟩=>by
  rcases cases hl with⟨rfl,rfl⟩|⟨hi,hl⟩
  ·exact .inl (by have:g'=(N.setB s.nx g).b s.nx:=hf;rw[this,hb])
  ·exact .inr ⟨i,ob,hl,(aw hi).1 hf⟩
 have hp:Bp F (N.setB s.nx g) (s.nx+1) ((s.nx,some (.box e (toL z.cells.toList)))::s.o) R:=by
  refine⟨h.hp.flt,fun i ob hl=>?_,fun i ob g' hl hf=>?_,fun i j x y g' hi hj hx hy=>?_,h.hp.gl⟩
  ·rcases cases hl with⟨rfl,rfl⟩|⟨hi,hl⟩
   ·refine⟨Nat.lt_succ_self _,z.cells.toList,HL.toL _,?_⟩
    rw[hb]
    exact hc
   ·exact⟨by omega,(h.hp.ob i ob hl).2.step st hi fun _ _=>rfl⟩
  ·rcases cases hl with⟨rfl,rfl⟩|⟨hi,hl⟩
   ·have:g'=(N.setB s.nx g).b s.nx:=hf
    rw[this,hb]
    exact nF
   ·exact h.hp.ff i ob g' hl ((aw hi).1 hf)
  ·rcases cases hi with⟨rfl,rfl⟩|⟨jx,jy⟩
   ·rcases cases hj with⟨rfl,rfl⟩|⟨jz,j4⟩
    ·rfl
    ·have:g'=(N.setB s.nx g).b s.nx:=hx
     rw[hb] at this
     subst this
     exact absurd ⟨j,y,j4,(aw jz).1 hy⟩ nO
   ·rcases cases hj with⟨rfl,rfl⟩|⟨jz,j4⟩
    ·have:g'=(N.setB s.nx g).b s.nx:=hy
     rw[hb] at this
     subst this
     exact absurd ⟨i,x,jy,(aw jx).1 hx⟩ nO
    ·exact h.hp.sep i j x y g' jy j4 ((aw jx).1 hx) ((aw jz).1 hy)
 refine⟨⟨h.defers,h.size,fun u x hu=>(h.slots u x hu).step st,hp,?_,h.tm⟩,?_,fo⟩
 ·have:=h.st
  refine⟨Nat.le_trans this.le (Nat.le_succ _),fun i hi=>by rw[ao i (Nat.lt_of_lt_of_le hi this.le)];exact this.b i hi,fun i hi=>this.q i hi,this.f,this.fnew,fun g' hf=>?_,this.os,this.tape,this.output,this.size,this.keep⟩
  rcases fo g' hf with q|q
  ·exact .inr (by omega)
  ·exact this.foot g' q
 ·have:(⟨g,0,none⟩:Addr)=⟨(N.setB s.nx g).b s.nx,0,none⟩:=by rw[hb]
  rw[this]
  exact .own (Nat.lt_succ_self _)
def Nm.both (N:Nm) (i g:Nat) (v:Value):Nm:=⟨Kq N.b i g,Kq N.q i v⟩
theorem Afp {F:Nat→Prop} {N:Nm} {nx g:Nat} {v:Value} {R:World}:Ext F N nx R F (N.both nx g v) (nx+1) R:=
 ⟨Nat.le_succ _,fun i hi=>EF _ _ (by omega),fun i hi=>EF _ _ (by omega),fun _ h=>h,fun _ _=>rfl⟩
theorem B25 (h:Rel Z F N s a R) {ob:Ob} {g:Nat} {v:Value} (_hB:Z.R.heap.size≤g) (nF:¬F g) (nO:¬Gb N s.o g) (gb:Zo F (N.both s.nx g v) (s.nx+1) R s.nx ob) (pv:∀b,foot (N.both s.nx g v) s.nx ob b→b=g):
  Rel Z F (N.both s.nx g v) ⟨s.n,s.nx+1,s.t,(s.nx,some ob)::s.o⟩ a R∧∀g',Gb (N.both s.nx g v) ((s.nx,some ob)::s.o) g'→g'=g∨Gb N s.o g':=by
 have st:Ext F N s.nx R F (N.both s.nx g v) (s.nx+1) R:=Afp
 have cases:∀{i o1},Ai i ((s.nx,some ob)::s.o)=some o1→(i=s.nx∧o1=ob)∨(i <s.nx∧Ai i s.o=some o1):=fun {i o1} hl=>by
  rw[AG] at hl
  split at hl
  ·exact .inl ⟨‹_›,(Option.some.inj hl).symm⟩
  ·exact .inr ⟨(h.hp.ob i o1 hl).1,hl⟩
 have aw:∀{i o1 g'},i <s.nx→(foot (N.both s.nx g v) i o1 g'↔foot N i o1 g'):=fun {i o1 g'} hi=>ER st hi
 have fo:∀g',Gb (N.both s.nx g v) ((s.nx,some ob)::s.o) g'→g'=g∨Gb N s.o g':=fun g' ⟨i,o1,hl,hf⟩=>by
  rcases cases hl with⟨rfl,rfl⟩|⟨hi,hl⟩
  ·exact .inl (pv g' hf)
  ·exact .inr ⟨i,o1,hl,(aw hi).1 hf⟩
 have hp:Bp F (N.both s.nx g v) (s.nx+1) ((s.nx,some ob)::s.o) R:=by
  refine⟨h.hp.flt,fun i o1 hl=>?_,fun i o1 g' hl hf=>?_,fun i j x y g' hi hj hx hy=>?_,h.hp.gl⟩
  ·rcases cases hl with⟨rfl,rfl⟩|⟨hi,hl⟩
   ·exact⟨Nat.lt_succ_self _,gb⟩
   ·exact⟨by omega,(h.hp.ob i o1 hl).2.step st hi fun _ _=>rfl⟩
  ·rcases cases hl with⟨rfl,rfl⟩|⟨hi,hl⟩
   ·rw[pv g' hf]
    exact nF
   ·exact h.hp.ff i o1 g' hl ((aw hi).1 hf)
  ·rcases cases hi with⟨rfl,rfl⟩|⟨jx,jy⟩
   ·rcases cases hj with⟨rfl,rfl⟩|⟨jz,j4⟩
    ·rfl
    ·have:=pv g' hx
     subst this
     exact absurd ⟨j,y,j4,(aw jz).1 hy⟩ nO
   ·rcases cases hj with⟨rfl,rfl⟩|⟨jz,j4⟩
    ·have:=pv g' hy
     subst this
     exact absurd ⟨i,x,jy,(aw jx).1 hx⟩ nO
    ·exact h.hp.sep i j x y g' jy j4 ((aw jx).1 hx) ((aw jz).1 hy)
 refine⟨⟨h.defers,h.size,fun u x hu=>(h.slots u x hu).step st,hp,?_,h.tm⟩,fo⟩
 have:=h.st
 refine⟨Nat.le_trans this.le (Nat.le_succ _),fun i hi=>by rw[st.b i (Nat.lt_of_lt_of_le hi this.le)];exact this.b i hi,fun i hi=>by rw[st.q i (Nat.lt_of_lt_of_le hi this.le)];exact this.q i hi,this.f,this.fnew,fun g' hf=>?_,this.os,this.tape,this.output,this.size,this.keep⟩
 rcases fo g' hf with q|q
 ·exact .inr (by omega)
 ·exact this.foot g' q
theorem Bzg (h:Rel Z F N s a R) {o:Oper} {f:T6} (he:mkE E s o=some f):∃C ob x,f=⟨x,s.nx+1,(s.nx,some ob)::s.o,1,[]⟩∧(∀w,(execOp a.eval o).run E.P w=.ok (.value (mkV o.op w.heap.size)) (w.alloc C))∧
  ∀g,R.heap[g]?=some C→Zo F (N.both s.nx g (mkV o.op g)) (s.nx+1) R s.nx ob∧Hv F (N.both s.nx g (mkV o.op g)) (s.nx+1) R x (mkV o.op g)∧∀b,foot (N.both s.nx g (mkV o.op g)) s.nx ob b→b=g:=by
 obtain⟨dst,op,type,pos,after,guard⟩:=o
 unfold mkE at he
 simp only at he
 have hb:∀g v,(N.both s.nx g v).b s.nx=g:=fun g v=>C2 _ _ _
 have hq:∀g v,(N.both s.nx g v).q s.nx=v:=fun g v=>C2 _ _ _
 split at he<;>try (cases he;done)
 ·rename_i t len parts
  cases h0:Nat.beq len 0 with
  |true=>rw[h0] at he;cases he
  |false=>
  rw[h0,cond_false] at he
  unfold T9 at he
  split at he<;>try (cases he;done)
  rename_i e hu
  split at he<;>try (cases he;done)
  rename_i i hi
  split at he<;>try (cases he;done)
  rename_i z hz
  split at he<;>try (cases he;done)
  rename_i ps cu
  cases h1:Nat.ble (len*i.size) 16777216 with
  |false=>rw[h1] at he;cases he
  |true=>
  cases h2:Nat.beq z.cells.size i.size with
  |false=>rw[h1,h2] at he;cases he
  |true=>
  cases h3:Nat.ble 1 i.size with
  |false=>rw[h1,h2,h3] at he;cases he
  | true=>
   rw[h1,h2,h3] at he
   simp only[cond_true] at he
   split at he<;>try (cases he;done)
   rename_i cs cn
   cases h4:QZ s.o (.lst (KC i.size len cs)) with
   |false=>rw[h4] at he;cases he
   | true=>
    rw[h4,h0] at he
    cases he
    have g1:=Nat.le_of_ble_eq_true h1
    have g2:=Nat.eq_of_beq_eq_true h2
    have g3:0 <i.size:=Nat.le_of_ble_eq_true h3
    have cz:=Ajy (E:=E) h (FI _) cu
    have nm:HL F N s.nx R (Bnt (toL z.cells.toList) len) (madeCells z.cells (len*i.size)).toList:=by
     rw[←g2,Tu]
     exact A5i (HL.toL _) len
    obtain⟨arr,q1,q2⟩:=Xs cn cz nm
    have hl:(parts.map fun(i,x)=>(i,a.eval x))=(parts.toList.map fun(i,x)=>(i,a.eval x)).toArray:=by rw[←Array.toList_map,Array.toArray_toList]
    have fa:arr.size=len*i.size:=by rw[Ajc q1,size_madeCells]
    have hn:(FY.lst (KC i.size len cs)).n=len:=O5 _ _ _
    have jn:len≤maxLen:=by
     have h5:len≤len*i.size:=Nat.le_mul_of_pos_right _ g3
     have jn:maxLen=9223372036854775807:=rfl
     omega
    refine⟨.cells arr e (0,0),.arr e i.size (.lst (KC i.size len cs)),.sq s.nx,rfl,fun w=>?_,fun g hg=>⟨⟨arr.toList,?_,fun k hk=>?_⟩,?_,fun b hf=>?_⟩⟩
    ·have af:=Ao4 hu hi hz g1 q1 w
     rw[←hl] at af
     exact Hi af
    ·rw[hq,hn]
     exact XV (by rw[Array.length_toList,fa]) fa jn (Nat.le_refl _) (List.take_of_length_le (by rw[Array.length_toList,fa];exact Nat.le_refl _)) hg
    ·rw[hn] at hk
     show HL F _ _ R (K7 (KC i.size len cs) k) _
     rw[Acp _ _ _ _ hk]
     exact((q2.step Afp).drop _).take _
    ·have:Hv F (N.both s.nx g (mkV (.buildSlice t len parts) g)) (s.nx+1) R (.sq s.nx) ((N.both s.nx g (mkV (.buildSlice t len parts) g)).q s.nx):=.sq (Nat.lt_succ_self _)
     rw[hq] at this
     exact this
    ·have fw:Hz ((N.both s.nx g (mkV (.buildSlice t len parts) g)).q s.nx)=some b:=hf
     rw[hq] at fw
     unfold mkV at fw
     cases len with
     |zero=>cases fw
     |succ n=>cases fw;rfl
 ·rename_i e v
  unfold Bpn at he
  split at he<;>try (cases he;done)
  rename_i x hx
  split at he
  rotate_left
  ·split at he<;>try (cases he;done)
   rename_i xs hr
   cases he
   have hc:=Bbp hr (BL h (FI _) hx).2
   refine⟨.cells (a.eval v).cells.toList.toArray e (0,0),.rcd e xs,.own s.nx 0,rfl,fun w=>Hi ZW,fun g hg=>⟨⟨_,hc.step Afp,?_⟩,?_,fun b hf=>?_⟩⟩
   ·rw[hb];exact hg
   ·have:Hv F (N.both s.nx g (.pointer (some ⟨g,0,none⟩))) (s.nx+1) R (.own s.nx 0) (.pointer (some ⟨(N.both s.nx g (.pointer (some ⟨g,0,none⟩))).b s.nx,0,none⟩)):=.own (Nat.lt_succ_self _)
    rw[hb] at this
    exact this
   ·have fw:b=(N.both s.nx g (mkV (.box e v) g)).b s.nx:=hf
    rw[hb] at fw
    exact fw
  rename_i us fy
  cases hs:Qi s.o us with
  |false=>rw[hs] at he;cases he
  | true=>
   rw[hs] at he
   cases he
   have hc:=Ub h.hp fy hs (BL h (FI _) hx).2
   refine⟨.cells (a.eval v).cells.toList.toArray e (0,0),.box e us,.own s.nx 0,rfl,fun w=>Hi ZW,fun g hg=>⟨⟨_,hc.step Afp,?_⟩,?_,fun b hf=>?_⟩⟩
   ·rw[hb];exact hg
   ·have:Hv F (N.both s.nx g (.pointer (some ⟨g,0,none⟩))) (s.nx+1) R (.own s.nx 0) (.pointer (some ⟨(N.both s.nx g (.pointer (some ⟨g,0,none⟩))).b s.nx,0,none⟩)):=.own (Nat.lt_succ_self _)
    rw[hb] at this
    exact this
   ·have fw:b=(N.both s.nx g (mkV (.box e v) g)).b s.nx:=hf
    rw[hb] at fw
    exact fw
theorem Bzh {o:Oper} {f:T6} (he:mkE E s o=some f):opE E s [] o=some f∧o.guard=none∧Atk o.op=true∧mkB o=true:=by
 obtain⟨dst,op,type,pos,after,guard⟩:=o
 unfold mkE at he
 simp only at he
 split at he<;>first|(cases he;done)|exact⟨he,rfl,rfl,rfl⟩|exact⟨Arz he,rfl,rfl,rfl⟩
theorem Bwl {ops:List Oper} {o:Oper} {f:T6} (he:mkE E s o=some f) (hp:isS (VH s o.dst f)=true):∃s',VH s o.dst f=some s'∧∀{l:List E4},P0 E ops s o=some l→∀K:St→Prop,K s'→onL l K:=by
 obtain⟨h1,h2,h3,_⟩:=Bzh he
 cases hs:VH s o.dst f with
 |none=>rw[hs] at hp;cases hp
 | some s'=>
  refine⟨s',rfl,fun {l} hl K hK=>?_⟩
  have e2:Aba E ops s o=none:=by
   unfold Aba
   rw[h2]
   simp only
   unfold VI
   rw[h3]
   rfl
  have e3:∃k ps,P5 E ops s o=some [(none,k,s',ps)]:=by
   unfold P5
   rw[h2]
   simp only
   unfold doE
   rw[h1]
   simp only
   rw[hs]
   exact⟨_,_,rfl⟩
  obtain⟨k,ps,e3⟩:=e3
  have e4:NO E ops s o=some (Apg [(none,k,s',ps)]):=by
   unfold NO
   rw[e2]
   simp only
   unfold Ab1
   rw[e3]
  unfold P0 at hl
  rw[e4] at hl
  cases hl
  exact Xa (.inl ⟨rfl,hK⟩)
theorem Bj2 {l:List E9} {s0:St} {p:St→Bool} (h:W5 l (fun x=>x=s0)) (ha:(l.all fun cs=>p cs.2)=true):p s0=true:=by
 induction l with
 |nil=>exact h.elim
 |cons x r ih=>
  obtain⟨c,s⟩:=x
  rw[List.all_cons,Bool.and_eq_true] at ha
  rcases h with⟨_,rfl⟩|⟨_,h⟩
  ·exact ha.1
  ·exact ih h ha.2
theorem Aub {K:St→Prop}:∀{l:List E9},W5 l K→∃s0,K s0∧W5 l (fun x=>x=s0)
 | [],h=>h.elim
 | (c,s)::r,h=>by
  rcases h with⟨h1,h2⟩|⟨h1,h2⟩
  ·exact⟨s,h2,.inl ⟨h1,rfl⟩⟩
  ·obtain⟨s0,h3,h4⟩:=Aub h2
   exact⟨s0,h3,.inr ⟨h1,h4⟩⟩
theorem SH {ops:List Oper} {o:Oper} {s0:St}:∀{l l':List E9} {k:Nat} {qs:List Prop},NG E ops o l=some (k,l',qs)→W5 l (fun x=>x=s0)→∃l1,P0 E ops s0 o=some l1∧∀K,onL l1 K→W5 l' K
 | [],_,_,_,_,h=>h.elim
 | (c,s)::r,l',k,qs,he,h=>by
  unfold NG at he
  split at he<;>try (cases he;done)
  rename_i l1 h1
  split at he<;>try (cases he;done)
  rename_i k' r' pg h2
  cases he
  rcases h with⟨hc,rfl⟩|⟨hc,h⟩
  ·exact⟨l1,h1,fun K hK=>UD hc hK⟩
  ·obtain⟨l2,h3,h4⟩:=SH h2 h
   exact⟨l2,h3,fun K hK=>UE hc (h4 K hK)⟩
theorem Bmb {o:Oper} (h:Asn E.P o=true):∃e z,o.op=.alloc e∧o.guard=none∧(E.P.info? e).bind (·.zero)=some z:=by
 unfold Asn at h
 split at h
 ·rename_i e h1 h2
  split at h
  ·rename_i z hz
   exact⟨e,z,h1,h2,hz⟩
  ·cases h
 ·cases h
theorem Aso {o:Oper} (h:Ai6 E o=true):(∃e z,o.op=.alloc e∧o.guard=none∧(E.P.info? e).bind (·.zero)=some z)∨∃g x args ts,o.op=.call {callee:=.value (.func g),args:=args,argTypes:=ts}∧o.guard=none∧ND E (.func g) args.toList=some (g,x):=by
 unfold Ai6 at h
 cases h0:Asn E.P o with
 |true=>exact .inl (Bmb h0)
 |false=>
  rw[h0,cond_false] at h
  split at h<;>try (cases h;done)
  rename_i f args ts h1 h2
  split at h<;>try (cases h;done)
  rename_i y hy
  obtain⟨g,x⟩:=y
  obtain⟨rfl,_⟩:=QN hy
  exact .inr ⟨g,x,args,ts,h1,h2,hy⟩
theorem A7n {ops:List Oper} {o:Oper} {g:FuncId} {x:A} {args:Array Operand} {ts:Array TypeId} (ho:o.op=.call {callee:=.value (.func g),args:=args,argTypes:=ts}) (hg:o.guard=none) (hc:ND E (.func g) args.toList=some (g,x)) {l:List E4} (he:P0 E ops s o=some l):
  ∃s',VH s o.dst ⟨x,s.nx,s.o,1,[]⟩=some s'∧∀K:St→Prop,K s'→onL l K:=by
 obtain⟨dst,op,type,pos,after,guard⟩:=o
 simp only at ho hg
 subst ho hg
 have e1:opE E s [] ⟨dst,.call {callee:=.value (.func g),args:=args,argTypes:=ts},type,pos,after,none⟩=some ⟨x,s.nx,s.o,1,[]⟩:=by
  show(match Azq E s [] (.func g) args.toList with
   |some (x,ps)=>some (T6.mk x s.nx s.o 0 ps)
   |none=>Zr E s [] (.func g) args.toList)=_
  unfold Azq Zr
  rw[hc]
 have e2:Aba E ops s ⟨dst,.call {callee:=.value (.func g),args:=args,argTypes:=ts},type,pos,after,none⟩=none:=by
  have:VI E s [] ⟨dst,.call {callee:=.value (.func g),args:=args,argTypes:=ts},type,pos,after,none⟩=none:=by
   show Azq E s [] (.func g) args.toList=_
   unfold Azq
   rw[hc]
  unfold Aba
  simp only
  rw[this]
 have ny:Bpr s ⟨dst,.call {callee:=.value (.func g),args:=args,argTypes:=ts},type,pos,after,none⟩=[]:=by
  obtain⟨_,ha,_⟩:=QN hc
  unfold Bpr
  simp only
  rw[ha]
  rfl
 cases hp:VH s dst ⟨x,s.nx,s.o,1,[]⟩ with
 | none=>
  have e3:P5 E ops s ⟨dst,.call {callee:=.value (.func g),args:=args,argTypes:=ts},type,pos,after,none⟩=none:=by
   unfold P5 doE
   simp only
   rw[e1]
   simp only
   rw[hp]
  have e4:NO E ops s ⟨dst,.call {callee:=.value (.func g),args:=args,argTypes:=ts},type,pos,after,none⟩=none:=by
   unfold NO
   rw[e2]
   simp only
   unfold Ab1
   rw[e3,ny]
   rfl
  unfold P0 at he
  rw[e4] at he
  cases he
 | some s'=>
  have e3:P5 E ops s ⟨dst,.call {callee:=.value (.func g),args:=args,argTypes:=ts},type,pos,after,none⟩=some [(none,1,s',[])]:=by
   unfold P5 doE
   simp only
   rw[e1]
   simp only
   rw[hp]
   rfl
  have e4:NO E ops s ⟨dst,.call {callee:=.value (.func g),args:=args,argTypes:=ts},type,pos,after,none⟩=some (Apg [(none,1,s',[])]):=by
   unfold NO
   rw[e2]
   simp only
   unfold Ab1
   rw[e3]
  unfold P0 at he
  rw[e4] at he
  cases he
  exact⟨s',rfl,fun K hK=> .inl ⟨rfl,hK⟩⟩
theorem Bdx {ops:List Oper} {o:Oper} {e:TypeId} {z:Value} (ho:o.op=.alloc e) (hg:o.guard=none) (hz:(E.P.info? e).bind (·.zero)=some z) {l:List E4} (he:P0 E ops s o=some l):
  ∃s',VH s o.dst ⟨.own s.nx 0,s.nx+1,(s.nx,some (.box e (toL z.cells.toList)))::s.o,1,[]⟩=some s'∧∀K:St→Prop,K s'→onL l K:=by
 obtain⟨dst,op,type,pos,after,guard⟩:=o
 simp only at ho hg
 subst ho hg
 have e1:opE E s [] ⟨dst,.alloc e,type,pos,after,none⟩=some ⟨.own s.nx 0,s.nx+1,(s.nx,some (.box e (toL z.cells.toList)))::s.o,1,[]⟩:=by
  show Arx E s e=_
  unfold Arx
  rw[hz]
 have e2:Aba E ops s ⟨dst,.alloc e,type,pos,after,none⟩=none:=rfl
 cases hp:VH s dst ⟨.own s.nx 0,s.nx+1,(s.nx,some (.box e (toL z.cells.toList)))::s.o,1,[]⟩ with
 | none=>
  have e3:P5 E ops s ⟨dst,.alloc e,type,pos,after,none⟩=none:=by
   unfold P5 doE
   simp only
   rw[e1]
   simp only
   rw[hp]
  have e4:NO E ops s ⟨dst,.alloc e,type,pos,after,none⟩=none:=by
   unfold NO
   rw[e2]
   simp only
   unfold Ab1
   rw[e3]
   rfl
  unfold P0 at he
  rw[e4] at he
  cases he
 | some s'=>
  have e3:P5 E ops s ⟨dst,.alloc e,type,pos,after,none⟩=some [(none,1,s',[])]:=by
   unfold P5 doE
   simp only
   rw[e1]
   simp only
   rw[hp]
   rfl
  have e4:NO E ops s ⟨dst,.alloc e,type,pos,after,none⟩=some (Apg [(none,1,s',[])]):=by
   unfold NO
   rw[e2]
   simp only
   unfold Ab1
   rw[e3]
  unfold P0 at he
  rw[e4] at he
  cases he
  exact⟨s',rfl,fun K hK=>Xa (.inl ⟨rfl,hK⟩)⟩
theorem Bmj {o:Oper} {l:List E9} (h:∀s,Bqt E o s=none):Aw3 E o l=none:=by
 unfold Aw3
 split
 ·rw[h]
 ·rfl
theorem Afi {fr:Bool} {ops:List Oper} {o:Oper} {l l':List E9} {n:Nat} {qs:List Prop} {q:Prop} (h:Ai6 E o=true∨(mkB o=true∧q)) (he:Aq7 E fr ops o l=some (n,l',qs)):NG E ops o l=some (n,l',qs):=by
 have hn:∀s,Bqt E o s=none:=fun s=>by
  unfold Bqt
  split
  ·rename_i f args ts ho hg
   split
   ·rfl
   ·rename_i hc
    exfalso
    rcases h with h|⟨h,_⟩
    ·rcases Aso h with⟨e,z,a1,_⟩|⟨g,x,cj,ze,a1,a2,a3⟩
     ·rw[ho] at a1;cases a1
     ·rw[ho] at a1
      cases a1
      rw[a3] at hc
      cases hc
    ·unfold mkB at h
     rw[ho] at h
     cases h
  ·rfl
 unfold Aq7 at he
 split at he
 ·rw[Bmj hn] at he;exact he
 ·exact he
theorem Bns (ok:EnvOk E) (h:Rel Z F N s a R) {id:Nat} {ops:List Oper} {draw:Bool} (hW:∀u,QS u (QQ ops)=true→Z.W u) {s':St} {ps:List Prop} (he:evR E ops draw s=some (s',ps)) (hp:∀p∈ps,p) {Q:Exit→Act→World→Prop} (hk:∀F' N' a' R',Rel Z F' N' s' a' R'→Q .normal a' R'):WPR E.ir E.P (Code.region id ops.toArray draw) Q a R:=by
 have pn:W5 [((none:El),s)] (At (LQ F N s a R (QQ ops)) a R):=.inl ⟨rfl,F,N,h.start _⟩
 have hsub:Zc s [((none:El),s)]:=⟨Sub.refl _,trivial⟩
 have bh:∀o∈ops,∀d,o.dst=some d→(LQ F N s a R (QQ ops)).W d:=fun o ho d hd=>A75 ho hd
 have RM:∀{l:List E9} {a' R'},Zc s l→W5 l (At (LQ F N s a R (QQ ops)) a' R')→s'=XM (QQ ops) s l→Q .normal a' R':=fun {l a' R'} hs ho e=>by
  obtain⟨F',N',hr⟩:=A0n h hs ho
  subst e
  exact hk F' N' a' R' (h.over hr hW)
 cases draw with
 |false=>
  unfold evR at he
  simp only at he
  split at he<;>try (cases he;done)
  rename_i l du h1
  cases he
  exact Awt (Bse ok bh pn h1 hp fun a' R' ho=>RM (Aja ok h1 hsub) ho rfl)
 | true =>
  have cd:∃fr order,evO E fr ops order s=some (s',ps):=by
   unfold evR at he
   simp only at he
   repeat' (split at he)
   all_goals first|exact⟨_,_,he⟩|(rename_i r hr;cases he;exact⟨_,_,hr⟩)
  clear he
  obtain⟨fr,order,he⟩:=cd
  unfold evO at he
  split at he<;>try (cases he;done)
  rename_i ks l du h1
  cases hB':A16 ops.toArray order ks (Ai7 E fr ops order [(none,s)]) (fun j k=>(Bjx ops order j||A7p E fr ops order [(none,s)] j k)||(A7o E fr ops order [(none,s)] j k||Bif E fr ops order [(none,s)] j k))&&B1n ops.toArray order (Ai7 E fr ops order [(none,s)]) with
  |false=>rw[hB'] at he;cases he
  | true =>
   rw[hB'] at he
   cases he
   obtain⟨hB,qx⟩:=Bool.and_eq_true_iff.1 hB'
   obtain⟨hc,hn,lg⟩:=Bly hB
   obtain⟨hF,jt⟩:=Bqr h1
   let Z0:=LQ F N s a R (QQ ops)
   have u9:∀{F1 N1 s0 A w F2 N2 s1 A2 w2},Rel Z0 F1 N1 s0 A w→Rel (LQ F1 N1 s0 A w (QQ ops)) F2 N2 s1 A2 w2→Rel Z0 F2 N2 s1 A2 w2:=fun h1 h2=>h1.over h2 fun _ hu=>hu
   have dh:∀{k o},Ai7 E fr ops order [(none,s)] k=true→ops[order.getD k 0]?=some o→Ai6 E o=true∨(mkB o=true∧Bwy E fr ops order [(none,s)] k o=true):=fun {k o} h1 h2=>by
    unfold Ai7 at h1
    rw[h2] at h1
    simp only at h1
    cases h3:Ai6 E o with
    |true=>exact .inl rfl
    |false=>
     rw[h3,cond_false] at h1
     cases h4:mkB o with
     |true=>rw[h4] at h1;exact .inr ⟨rfl,h1⟩
     |false=>rw[h4] at h1;cases h1
   refine Buk (S:=fun k X A w=>∃l1,stK E fr ops order [((none:El),s)] k=some l1∧∃s0 F1 N1,Rel Z0 F1 N1 s0 A w∧Rsv E ops order Z0.R.heap.size k X A F1 N1 s0.o w∧W5 l1 (fun x=>x=s0)) ok.wide hc ?_ ?_ (fun j k o o' d q1 q2 q3 q4 q5 q6=>Bvt qx j k o o' d q1 q2 q3 q4 q5 q6) ?_ ?_ (fun k X A w w' ⟨l1,g1,s0,F1,N1,g2,g3,g4⟩ hb=>⟨l1,g1,s0,F1,N1,g2.grow hb,Btf g3 hb,g4⟩) ⟨_,Awb,s,F,N,h.start _,⟨fun _ _=>False,fun j v _ hx=>(by cases hx),fun i j u v b _ _ hx=>(by cases hx)⟩,.inl ⟨rfl,rfl⟩⟩ (fun X A w' ⟨l1,g1,s0,F1,N1,g2,g3,g4⟩=>?_)
   ·intro k X A w ak hM ⟨l0,g1,s0,F1,N1,g2,g3,g4⟩ o ho
    obtain⟨l1,o1,l2,f7,e1,e2,e4,e5,e6⟩:=jt k ak
    have ho':ops[order.getD k 0]?=some o:=by simpa using ho
    have:o1=o:=Option.some.inj (e1.symm.trans ho')
    subst this
    obtain rfl:l1=l0:=Option.some.inj (e2.symm.trans g1)
    have ar:ks.getD k 0=0:=by
     have uf:Nat.blt 0 (ks.getD k 0)=false:=hM
     cases hz:ks.getD k 0 with
     |zero=>rfl
     |succ m=>rw[hz] at uf;cases uf
    rw[ar] at e4
    obtain⟨v,r1,r2⟩:=Bhp (Z:=LQ F1 N1 s0 A w (QQ ops)) ok (bh o1 (List.mem_of_getElem? ho')) e4 (fun p hm=>hp p (e5 p hm)) (XT (fun x hx=>by subst hx;exact⟨F1,N1,g2.start _⟩) g4)
    obtain⟨s1,⟨F2,N2,q1⟩,q2⟩:=Aub r1
    exact⟨v,⟨l2,e6,s1,F2,N2,u9 g2 q1,Av6 (Arp g3 ho' v) q1.st,q2⟩,r2⟩
   ·intro k X A w v ak hE hX ⟨l0,g1,s0,F1,N1,g2,g3,g4⟩ o ho
    obtain⟨l1,o1,l2,f7,e1,e2,e4,e5,e6⟩:=jt k ak
    have ho':ops[order.getD k 0]?=some o:=by simpa using ho
    have:o1=o:=Option.some.inj (e1.symm.trans ho')
    subst this
    obtain rfl:l1=l0:=Option.some.inj (e2.symm.trans g1)
    obtain⟨G,gA,gB⟩:=g3
    obtain⟨b0,b5⟩:=gA k v (Nat.le_refl _) hX
    have rest:∀{F2:Nat→Prop} {N2:Nm} {o2:AE},(∀b,F2 b→F1 b∨G k b)→(∀b,Gb N2 o2 b→Gb N1 s0.o b∨G k b)→Rsv E ops order Z0.R.heap.size (k+1) X (A.put o1.dst v) F2 N2 o2 w:=fun {F2 N2 o2} q1 q2=>by
     refine⟨G,fun j v' hj hx=>?_,fun i j u v' b hi hj=>gB i j u v' b (by omega) (by omega)⟩
     obtain⟨r1,r2⟩:=gA j v' (by omega) hx
     refine⟨Bby r1 (by omega) ho',fun b hb=>?_⟩
     obtain⟨t1,t2,t3,t4⟩:=r2 b hb
     have ao:¬G k b:=fun hk=>by
      have:=gB k j _ _ b (Nat.le_refl _) (by omega) hX hx hk hb
      omega
     exact⟨t1,t2,fun hf=>(q1 b hf).elim t3 ao,fun hf=>(q2 b hf).elim t4 ao⟩
    rcases dh hE ho' with ia|⟨ia,nd⟩
    rcases Aso ia with⟨e,z,a1,a2,a3⟩|⟨f,x,args,ts,a1,a2,a3⟩
    ·rcases b0 with⟨g,e',z',b1,⟨op,b2,b3⟩,b4,b6,b9⟩|⟨_,_,_,_,_,⟨op,b2,b3⟩,_⟩|⟨_,_,op,b2,b3,_⟩
     ·have:op=o1:=Option.some.inj (b2.symm.trans ho')
      subst this
      rw[a1] at b3
      cases b3
      obtain rfl:z'=z:=Option.some.inj (b4.symm.trans a3)
      obtain⟨l3,c1,c2⟩:=SH (Afi (dh hE ho') e4) g4
      obtain⟨s1,c3,c4⟩:=Bdx a1 a2 a3 c1
      obtain⟨t1,t2,t3,t4⟩:=b5 g ((b6 g).2 rfl)
      obtain⟨d1,d2,d3⟩:=Bx1 g2 t1 t2 t3 t4 b9
      subst b1
      have hrel:Rel Z0 F1 (N1.setB s0.nx g) s1 (A.put op.dst (.pointer (some ⟨g,0,none⟩))) w∧s1.o=(s0.nx,some (.box e (toL z'.cells.toList)))::s0.o:=by
       unfold VH at c3
       split at c3
       ·rename_i d hd
        cases hb:Nat.blt d s0.n with
        |false=>rw[hb] at c3;cases c3
        |true=>
         rw[hb] at c3
         cases c3
         rw[hd]
         exact⟨d1.put (x:=.own s0.nx 0) (Nat.le_of_ble_eq_true hb) (bh op (List.mem_of_getElem? ho') d hd) _ ((Ac rfl).2 d2),rfl⟩
       ·rename_i hd
        cases c3
        rw[hd]
        exact⟨d1,rfl⟩
      refine⟨l2,e6,s1,F1,N1.setB s0.nx g,hrel.1,rest (fun b hb=> .inl hb) (fun b hb=>?_),c2 _ (c4 (fun x=>x=s1) rfl)⟩
      rw[hrel.2] at hb
      rcases d3 b hb with q|q
      ·exact .inr ((b6 b).2 q)
      ·exact .inl q
     ·have:op=o1:=Option.some.inj (b2.symm.trans ho')
      subst this
      rw[a1] at b3
      cases b3
     ·have:op=o1:=Option.some.inj (b2.symm.trans ho')
      subst this
      unfold mkB at b3
      rw[a1] at b3
      cases b3
    ·rcases b0 with⟨g,e',z',b1,⟨op,b2,b3⟩,b4,b6,b9⟩|⟨f',x',cj,ze,N0,⟨op,b2,b3⟩,b4,b6⟩|⟨_,_,op,b2,b3,_⟩
     ·have:op=o1:=Option.some.inj (b2.symm.trans ho')
      subst this
      rw[a1] at b3
      cases b3
     ·have:op=o1:=Option.some.inj (b2.symm.trans ho')
      subst this
      rw[a1] at b3
      cases b3
      obtain rfl:x'=x:=congrArg Prod.snd (Option.some.inj (b4.symm.trans a3))
      obtain⟨l3,c1,c2⟩:=SH (Afi (dh hE ho') e4) g4
      obtain⟨s1,c3,c4⟩:=A7n a1 a2 a3 c1
      obtain⟨_,_,_,kn,_⟩:=QN a3
      obtain⟨d1,d2⟩:=Bt5 g2 b5 b6 kn
      have hrel:Rel Z0 (fun b=>F1 b∨G k b) N1 s1 (A.put op.dst v) w∧s1.o=s0.o:=by
       unfold VH at c3
       split at c3
       ·rename_i d hd
        cases hb:Nat.blt d s0.n with
        |false=>rw[hb] at c3;cases c3
        |true=>
         rw[hb] at c3
         cases c3
         rw[hd]
         exact⟨d1.put (x:=x') (Nat.le_of_ble_eq_true hb) (bh op (List.mem_of_getElem? ho') d hd) _ ((Ac d2.isPlain).2 d2),rfl⟩
       ·rename_i hd
        cases c3
        rw[hd]
        exact⟨d1,rfl⟩
      refine⟨l2,e6,s1,_,N1,hrel.1,rest (fun b hb=>hb) (fun b hb=>?_),c2 _ (c4 (fun x=>x=s1) rfl)⟩
      rw[hrel.2] at hb
      exact .inl hb
     ·have:op=o1:=Option.some.inj (b2.symm.trans ho')
      subst this
      unfold mkB at b3
      rw[a1] at b3
      cases b3
    ·-- what was made of values
     rcases b0 with⟨g,e',z',b1,⟨op,b2,b3⟩,b4,b6,b9⟩|⟨_,_,_,_,_,⟨op,b2,b3⟩,_⟩|⟨g,C,op,b2,b3,b4,b6,b7,b8,_⟩
     ·have:op=o1:=Option.some.inj (b2.symm.trans ho')
      subst this
      unfold mkB at ia
      rw[b3] at ia
      cases ia
     ·have:op=o1:=Option.some.inj (b2.symm.trans ho')
      subst this
      unfold mkB at ia
      rw[b3] at ia
      cases ia
     ·have:op=o1:=Option.some.inj (b2.symm.trans ho')
      subst this
      unfold Bwy at nd
      rw[g1] at nd
      have ca:B6i E op l1=true:=(Bool.and_eq_true_iff.1 nd).1
      have je:=Bj2 (p:=fun s=>match mkE E s op with
       |some f=>isS (VH s op.dst f)
       |none=>false) g4 ca
      split at je<;>first|(cases je;done)|skip
      rename_i f hf
      obtain⟨s1,c3,c4⟩:=Bwl (ops:=ops) hf je
      obtain⟨l3,c1,c2⟩:=SH (Afi (dh hE ho') e4) g4
      obtain⟨C',ob,x,rfl,m2,m3⟩:=Bzg g2 hf
      obtain rfl:C'=C:=by
       have h1:=m2 w
       rw[b4 w] at h1
       injection h1 with _ h1
       have h2:=congrArg World.heap h1
       have h3:w.heap.push C=w.heap.push C':=h2
       exact((Array.push_eq_push.1 h3).1).symm
      obtain⟨t1,t2,t3,t4⟩:=b5 g ((b7 g).2 rfl)
      obtain⟨m4,m5,m6⟩:=m3 g b8
      obtain⟨d1,d3⟩:=B25 g2 t1 t3 t4 m4 m6
      subst b6
      have hrel:Rel Z0 F1 (N1.both s0.nx g (mkV op.op g)) s1 (A.put op.dst (mkV op.op g)) w∧s1.o=(s0.nx,some ob)::s0.o:=by
       unfold VH at c3
       split at c3
       ·rename_i d hd
        cases hb:Nat.blt d s0.n with
        |false=>rw[hb] at c3;cases c3
        |true=>
         rw[hb] at c3
         cases c3
         rw[hd]
         exact⟨d1.put (x:=x) (Nat.le_of_ble_eq_true hb) (bh op (List.mem_of_getElem? ho') d hd) _ ((Ac m5.isPlain).2 m5),rfl⟩
       ·rename_i hd
        cases c3
        rw[hd]
        exact⟨d1,rfl⟩
      refine⟨l2,e6,s1,F1,_,hrel.1,rest (fun b hb=> .inl hb) (fun b hb=>?_),c2 _ (c4 c1 (fun x=>x=s1) rfl)⟩
      rw[hrel.2] at hb
      rcases d3 b hb with q|q
      ·exact .inr ((b7 b).2 q)
      ·exact .inl q
   ·intro p k X A w hpk ak hE ⟨l0,g1,s0,F1,N1,g2,g3,g4⟩ o ho hnw A' qt
    have ho':ops[order.getD k 0]?=some o:=by simpa using ho
    obtain⟨G,gA,gB⟩:=g3
    -- what is new lies behind all that was
    have more:∀{v:Value} {w':World} {H:Nat→Prop},Below w.heap.size w w'→Blm E ops order p A k v H w'→(∀b,H b→w.heap.size≤b∧b <w'.heap.size)→Rsv E ops order Z0.R.heap.size p (X.set k v) A F1 N1 s0.o w':=fun {v w' H} hb hK hH=>by
     refine⟨fun j b=>if j=k then H b else G j b,fun j v' hj hx=>?_,fun i j u v' b hi hj hx hy y6 y7=>?_⟩
     ·by_cases ej:j=k
      ·subst ej
       have hx':some v=some v':=by
        unfold Pi.set at hx
        rw[if_pos rfl] at hx
        exact hx
       cases hx'
       refine⟨by simp only[if_true];exact hK,fun b az=>?_⟩
       simp only[if_true] at az
       obtain⟨r1,r2⟩:=hH b az
       refine⟨Nat.le_trans g2.st.size r1,r2,fun hf=>?_,fun⟨i,ob,hl,hf⟩=>?_⟩
       ·have:=g2.hp.flt b hf
        omega
       ·have:=(g2.hp.ob i ob hl).2.lt hf
        omega
      ·unfold Pi.set at hx
       rw[if_neg ej] at hx
       obtain⟨q1,q2⟩:=gA j v' hj hx
       simp only[if_neg ej]
       refine⟨A1d q1 fun b az=>hb.block b (q2 b az).2.1,fun b az=>?_⟩
       obtain⟨t1,t2,t3,t4⟩:=q2 b az
       exact⟨t1,Nat.lt_of_lt_of_le t2 hb.size,t3,t4⟩
     ·have p1:(if i=k then H b else G i b):=y6
      have p2:(if j=k then H b else G j b):=y7
      have qk:∀{i u},i≠k→p≤i→(X.set k v) i=some u→G i b→b <w.heap.size:=fun {i u} ao hi hx hg=>by
       unfold Pi.set at hx
       rw[if_neg ao] at hx
       exact((gA i u hi hx).2 b hg).2.1
      by_cases ei:i=k
      ·by_cases ej:j=k
       ·rw[ei,ej]
       ·rw[if_pos ei] at p1
        rw[if_neg ej] at p2
        have:=(hH b p1).1
        have:=qk ej hj hy p2
        omega
      ·by_cases ej:j=k
       ·rw[if_neg ei] at p1
        rw[if_pos ej] at p2
        have:=(hH b p2).1
        have:=qk ei hi hx p1
        omega
       ·rw[if_neg ei] at p1
        rw[if_neg ej] at p2
        unfold Pi.set at hx hy
        rw[if_neg ei] at hx
        rw[if_neg ej] at hy
        exact gB i j u v' b hi hj hx hy p1 p2
    rcases dh hE ho' with ia|⟨ia,nd⟩
    rcases Aso ia with⟨e,z,a1,a2,a3⟩|⟨f,x,args,ts,a1,a2,a3⟩
    ·refine⟨LL a2 _,?_⟩
     have af:(execOp A'.eval o).run E.P w=.ok (.value (.pointer (some ⟨w.heap.size,0,none⟩))) (w.alloc (.cells z.cells.toList.toArray e (0,0))):=by
      obtain⟨dst,op,type,pos,after,guard⟩:=o
      simp only at a1
      subst a1
      exact Hi (Ao3 a3)
     rw[af]
     have hb:Below w.heap.size w (w.alloc (.cells z.cells.toList.toArray e (0,0))):=Pj _
     exact⟨hb,l0,g1,s0,F1,N1,g2.grow hb,more (H:=fun b=>b=w.heap.size) hb (.inl ⟨w.heap.size,e,z,rfl,⟨o,ho',a1⟩,a3,fun _=>Iff.rfl,heap_alloc_new w _⟩) (fun b e=>by rw[e];exact⟨Nat.le_refl _,by simp⟩),g4⟩
    ·refine⟨LL a2 _,?_⟩
     obtain⟨_,ha,bz,kn,k1,dj,hC⟩:=QN a3
     rw[Asb a1 ha bz A' w]
     refine(ok.C _ _ _ _ _ _ _ _ _ hC (Arf bz) (fun p hm=>by cases hm) (fun _=>False) N1 w [] ⟨fun _ h=>h.elim,fun i ob hi=>(by cases hi),fun i ob g hi=>(by cases hi),fun i j x y g hi=>(by cases hi),fun x hx=>(by rw[Bdf a3] at hx;cases hx)⟩ HL.nil).mono fun e R' ⟨y,F',N',e1,e2,e3,e4,e5⟩=>⟨y,e1,?_⟩
     have hb:=e5 dj
     exact⟨hb,l0,g1,s0,F1,N1,g2.grow hb,more hb (.inr (.inl ⟨f,x,args,ts,N',⟨o,ho',a1⟩,a3,e4⟩)) (fun b az=>⟨by
      rcases e3.fnew b az with q|⟨i,ob,hi,_⟩|q
      ·exact q.elim
      ·cases hi
      ·exact q,e2.flt b az⟩),g4⟩
    ·have sj:Bsb ops order p k o=true:=by
      unfold Bsb
      refine List.all_eq_true.2 fun i hi=>?_
      have bq:=List.mem_range.1 hi
      cases dw:ops[order.getD (p+i) 0]? with
      |none=>rfl
      | some o'=>
       simp only
       cases hd:o'.dst with
       |none=>rfl
       |some d=>
        have:=hnw (p+i) (by omega) (by omega) o' d (by simpa using dw) hd
        simp only[Bool.not_eq_true',List.contains_eq_mem]
        simpa using this
     unfold Bwy at nd
     have h7:=List.all_eq_true.1 (Bool.and_eq_true_iff.1 nd).2 p (List.mem_range.2 (by omega))
     rw[sj,g1,Bool.not_true,Bool.false_or] at h7
     have h8:=Bj2 (p:=fun s=>isS (mkE E s o)) g4 h7
     cases hf:mkE E s0 o with
     |none=>simp only[hf] at h8;cases h8
     |some f=>
      obtain⟨C,ob,x,_,m2,_⟩:=Bzg g2 hf
      obtain⟨_,n2,_,_⟩:=Bzh hf
      refine⟨LL n2 _,?_⟩
      rw[Vq (a:=A) (a':=A') (ops:=ops.toArray) o (Bjv ia) qt,m2 w]
      have hb:Below w.heap.size w (w.alloc C):=Pj _
      exact⟨hb,l0,g1,s0,F1,N1,g2.grow hb,more (H:=fun b=>b=w.heap.size) hb (.inr (.inr ⟨w.heap.size,C,o,ho',ia,m2,rfl,fun _=>Iff.rfl,heap_alloc_new w _,hnw⟩)) (fun b e=>by rw[e];exact⟨Nat.le_refl _,by simp⟩),g4⟩
   ·intro k X A w ak hM hE ⟨l0,g1,s0,F1,N1,gr,gx,g4⟩ o ho
    have g2:W5 l0 (At Z0 A w):=XT (fun x hx=>by subst hx;exact⟨F1,N1,gr⟩) g4
    have fp:∀{l2:List E9} {A2 w2},Rsv E ops order Z0.R.heap.size (k+1) X A2 F1 N1 s0.o w→stK E fr ops order [((none:El),s)] (k+1)=some l2→W5 l2 (At (LQ F1 N1 s0 A w (QQ ops)) A2 w2)→∃l1,stK E fr ops order [((none:El),s)] (k+1)=some l1∧∃s0 F1 N1,Rel Z0 F1 N1 s0 A2 w2∧Rsv E ops order Z0.R.heap.size (k+1) X A2 F1 N1 s0.o w2∧W5 l1 (fun x=>x=s0):=fun {l2 A2 w2} hx e6 r1=>by
     obtain⟨s1,⟨F2,N2,q1⟩,q2⟩:=Aub r1
     exact⟨l2,e6,s1,F2,N2,u9 gr q1,Av6 hx q1.st,q2⟩
    obtain⟨l1,o1,l2,f7,e1,e2,e4,e5,e6⟩:=jt k ak
    have ho':ops[order.getD k 0]?=some o:=by simpa using ho
    have:o1=o:=Option.some.inj (e1.symm.trans ho')
    subst this
    obtain rfl:l1=l0:=Option.some.inj (e2.symm.trans g1)
    rcases Bx5 (Z:=LQ F1 N1 s0 A w (QQ ops)) ok (bh o1 (List.mem_of_getElem? ho')) e4 (fun p hm=>hp p (e5 p hm)) (XT (fun x hx=>by subst hx;exact⟨F1,N1,gr.start _⟩) g4) with⟨r1,r2⟩|⟨r1,r2⟩
    ·have rn:∀{j:Nat} {w':World},j <k→A7o E fr ops order [(none,s)] j k=true→Bup (LQ F1 N1 s0 A w (QQ ops)) E fr o1 l1 A w w'→∀V,canA ops.toArray (fun k=>order.getD k 0) a V k=A→QA E.P ops.toArray (fun k=>order.getD k 0) a V w j→QA E.P ops.toArray (fun k=>order.getD k 0) a V w' j:=fun {j w'} hj h8 qf V hV bw=>by
      unfold A7o at h8
      split at h8<;>try (cases h8;done)
      rename_i oj o1' mw hoj ho1 hl1
      obtain rfl:o1'=o1:=Option.some.inj (ho1.symm.trans ho')
      obtain rfl:mw=l1:=Option.some.inj (hl1.symm.trans g1)
      split at h8<;>try (cases h8;done)
      rename_i c1 s1 i1 y8 xl
      cases hcf:Bv1 E oj s1 i1 with
      |false=>rw[hcf] at h8;cases h8
      | true=>
       rw[hcf] at h8
       simp only[cond_true] at h8
       obtain⟨c2,s2,F2,N2,ob,e,oc,mi,xy,bc,hkeep⟩:=qf rfl i1 y8 xl
       cases e
       obtain⟨t,x,y,d1,d5,d6⟩:=B1t mi hcf xy
       rw[d1] at h8
       cases x<;>try (cases h8;done)
       rename_i x
       have d3:(canA ops.toArray (fun k=>order.getD k 0) a V j).eval (.tmp x)=A.eval (.tmp x):=by
        have hkeep:=Ua (ops:=ops.toArray) (ix:=fun k=>order.getD k 0) (a0:=a) (V:=V) (x:=x) (j:=j) (k - j) fun i hi o ho=>by
         have h7:=List.all_eq_true.1 h8 i (List.mem_range.2 hi)
         have dw:ops[order.getD (j+i) 0]?=some o:=by simpa using ho
         rw[dw] at h7
         intro hd
         simp only[hd] at h7
         simp at h7
        rw[show j+(k - j)=k by omega,hV] at hkeep
        exact hkeep.symm
       intro o2 dw
       have mh:ops[order.getD j 0]?=some o2:=by simpa using dw
       obtain rfl:oj=o2:=Option.some.inj (hoj.symm.trans mh)
       have hex:∀w1,(execOp (canA ops.toArray (fun k=>order.getD k 0) a V j).eval oj).run E.P w1=(do pure (.value (←Instr.loadAt t (A.eval (.tmp x)))):Sem Next).run E.P w1:=fun w1=>by
        obtain⟨dst,op,type,pos,after,guard⟩:=oj
        simp only at d1
        subst d1
        show(do pure (.value (←Instr.loadAt t (Act.eval (canA ops.toArray (fun k=>order.getD k 0) a V j) (.tmp x)))):Sem Next).run E.P w1=_
        rw[d3]
       rcases bw oj dw with⟨p1,p2⟩|⟨p1,p2⟩
       ·refine .inl ⟨p1,fun w1 qi=>?_⟩
        have p3:=p2 w (Below.refl _ _)
        rw[hex,Sem.run_bind,d5] at p3
        rw[hex,Sem.run_bind,d6 w' bc hkeep w1 qi]
        obtain⟨_,p4⟩:=p3
        exact⟨rfl,p4⟩
       ·exact .inr ⟨p1,p2⟩
     have uu:∀{j:Nat} {w':World},j <k→(A7o E fr ops order [(none,s)] j k||Bif E fr ops order [(none,s)] j k)=true→Bup (LQ F1 N1 s0 A w (QQ ops)) E fr o1 l1 A w w'→∀V,canA ops.toArray (fun k=>order.getD k 0) a V k=A→QA E.P ops.toArray (fun k=>order.getD k 0) a V w j→QA E.P ops.toArray (fun k=>order.getD k 0) a V w' j:=fun {j w'} hj h8 qf V hV bw=>by
      rcases Bool.or_eq_true_iff.1 h8 with h9|h9
      ·exact rn hj h9 qf V hV bw
      clear h8
      unfold Bif at h9
      split at h9<;>try (cases h9;done)
      rename_i oj mw hoj hl1
      obtain rfl:mw=l1:=Option.some.inj (hl1.symm.trans g1)
      split at h9<;>try (cases h9;done)
      rename_i x d1
      cases hfp:Bd4 E oj mw with
      |false=>rw[hfp] at h9;cases h9
      | true=>
       rw[hfp] at h9
       simp only[cond_true] at h9
       obtain⟨y,hy⟩:=A20 d1 hfp g2
       have d3:(canA ops.toArray (fun k=>order.getD k 0) a V j).eval (.tmp x)=A.eval (.tmp x):=by
        have hkeep:=Ua (ops:=ops.toArray) (ix:=fun k=>order.getD k 0) (a0:=a) (V:=V) (x:=x) (j:=j) (k - j) fun i hi o ho=>by
         have h7:=List.all_eq_true.1 h9 i (List.mem_range.2 hi)
         have dw:ops[order.getD (j+i) 0]?=some o:=by simpa using ho
         rw[dw] at h7
         intro hd
         simp only[hd] at h7
         simp at h7
        rw[show j+(k - j)=k by omega,hV] at hkeep
        exact hkeep.symm
       intro o2 dw
       have mh:ops[order.getD j 0]?=some o2:=by simpa using dw
       obtain rfl:oj=o2:=Option.some.inj (hoj.symm.trans mh)
       have hex:=fun w1=>hy _ w1 d3
       rcases bw oj dw with⟨p1,p2⟩|⟨p1,p2⟩
       ·refine .inl ⟨p1,fun w1 qi=>?_⟩
        have p3:=p2 w (Below.refl _ _)
        rw[hex] at p3
        rw[hex]
        obtain⟨_,p4⟩:=p3
        exact⟨rfl,p4⟩
       ·exact .inr ⟨p1,p2⟩
     by_cases hex:1 <ks.getD k 0∧∃j,j <k∧A7p E fr ops order [(none,s)] j k=true
     ·have oa:∀j,j <k→A7p E fr ops order [(none,s)] j k=true→∃o t x w' y,ops[order.getD j 0]?=some o∧o.op=.load t x∧(∀V,canA ops.toArray (fun k=>order.getD k 0) a V k=A→(canA ops.toArray (fun k=>order.getD k 0) a V j).eval x=A.eval x)∧(execOp A.eval o1).run E.P w=.ok .skip w'∧(Instr.loadAt t (A.eval x)).run E.P w=.ok y w∧
        ∀w1,Below w'.heap.size w' w1→(Instr.loadAt t (A.eval x)).run E.P w1=.ok y w1:=fun j hj hc=>by
       unfold A7p at hc
       split at hc<;>try (cases hc;done)
       rename_i oj o1' mw hoj ho1 hl1
       obtain rfl:o1'=o1:=Option.some.inj (ho1.symm.trans ho')
       obtain rfl:mw=l1:=Option.some.inj (hl1.symm.trans g1)
       cases hcl:A7q E oj o1' mw with
       |false=>rw[hcl] at hc;cases hc
       | true=>
        rw[hcl] at hc
        simp only[cond_true] at hc
        obtain⟨s1,F1,N1,qd,d7⟩:=A7r hcl g2
        obtain⟨t,x,w',y,c1,c2,c3,c4,c5⟩:=Bva qd d7
        refine⟨oj,t,x,w',y,hoj,c1,fun V hV=>?_,c3,c4,c5⟩
        rw[c1] at hc
        cases x<;>try (cases hc;done)
        rename_i x
        have hkeep:=Ua (ops:=ops.toArray) (ix:=fun k=>order.getD k 0) (a0:=a) (V:=V) (x:=x) (j:=j) (k - j) fun i hi o ho=>by
         have h7:=List.all_eq_true.1 hc i (List.mem_range.2 hi)
         have dw:ops[order.getD (j+i) 0]?=some o:=by simpa using ho
         rw[dw] at h7
         intro hd
         simp only[hd] at h7
         simp at h7
        rw[show j+(k - j)=k by omega,hV] at hkeep
        exact hkeep.symm
      obtain⟨cy,j0,r8,uk⟩:=hex
      obtain⟨_,_,_,w',_,_,_,_,af,_,_⟩:=oa j0 r8 uk
      have vm:=r2
      rw[af] at vm
      obtain⟨_,q2,qf⟩:=vm
      refine .inl ⟨r1,?_⟩
      rw[af]
      refine⟨.inr fun j hj=>?_,fp (Arp gx ho' _) e6 q2⟩
      ·rcases lg k ak (Nat.ble_eq_true_of_le cy) j hj with h8|h8
       ·exact .inl h8
       ·rcases Bool.or_eq_true_iff.1 h8 with h8|h8
        rotate_left
        ·exact .inr (uu hj h8 qf)
        rcases Bool.or_eq_true_iff.1 h8 with h8|h8
        ·exact .inr fun V _ bw=>A0w h8 bw
        obtain⟨o,t,x,bp,y,d1,d2,d3,d4,d5,d6⟩:=oa j hj h8
        obtain rfl:bp=w':=by rw[af] at d4;injection d4 with _ d4;exact d4.symm
        refine .inr fun V hV bw o2 dw=>?_
        have mh:ops[order.getD j 0]?=some o2:=by simpa using dw
        obtain rfl:o=o2:=Option.some.inj (d1.symm.trans mh)
        have hex:∀w1,(execOp (canA ops.toArray (fun k=>order.getD k 0) a V j).eval o).run E.P w1=(do pure (.value (←Instr.loadAt t (A.eval x))):Sem Next).run E.P w1:=fun w1=>by
         obtain⟨dst,op,type,pos,after,guard⟩:=o
         simp only at d2
         subst d2
         show(do pure (.value (←Instr.loadAt t (Act.eval (canA ops.toArray (fun k=>order.getD k 0) a V j) x))):Sem Next).run E.P w1=_
         rw[d3 V hV]
        rcases bw o dw with⟨p1,p2⟩|⟨p1,p2⟩
        ·refine .inl ⟨p1,fun w1 qi=>?_⟩
         have p3:=p2 w (Below.refl _ _)
         rw[hex,Sem.run_bind,d5] at p3
         rw[hex,Sem.run_bind,d6 w1 qi]
         obtain⟨_,p4⟩:=p3
         exact⟨rfl,p4⟩
        ·exact .inr ⟨p1,p2⟩
     ·refine .inl ⟨r1,DL r2 fun v w' ⟨q1,q2,qf⟩=>⟨?_,fp (Arp gx ho' _) e6 q2⟩⟩
      by_cases dj:ks.getD k 0≤1
      ·exact .inl (q1 dj)
      ·refine .inr fun j hj=>?_
       have h9:1 <ks.getD k 0:=by omega
       rcases lg k ak (Nat.ble_eq_true_of_le h9) j hj with h8|h8
       ·exact .inl h8
       ·rcases Bool.or_eq_true_iff.1 h8 with h8|h8
        rotate_left
        ·exact .inr (uu hj h8 qf)
        rcases Bool.or_eq_true_iff.1 h8 with h8|h8
        ·exact .inr fun V _ bw=>A0w h8 bw
        exact absurd ⟨h9,j,hj,h8⟩ hex
    ·exact .inr ⟨r1,fp (Arp gx ho' _) e6 r2⟩
   ·rw[hF] at g1
    obtain rfl:=Option.some.inj g1
    exact RM (A2z ok h1 hsub) (XT (fun x hx=>by subst hx;exact⟨F1,N1,g2⟩) g4) rfl
end
section
variable {ir:Bool} {P:Program} {Q:Exit→Act→World→Prop} {a:Act} {w:World}
theorem Buj (h:Q .normal a w):WPR ir P .skip Q a w:=fun _ _=>wpIn_skip h
theorem Bod {l:Nat} (h:Q .normal a w):WPR ir P (.label l) Q a w:=fun _ _=>wpIn_label h
theorem Bui {id:Nat} (h:Q (.exit id) a w):WPR ir P (.exit id) Q a w:=fun _ _=>wpIn_exit h
theorem Byb (h:Q .ret a w):WPR ir P .ret Q a w:=fun _ _=>wpIn_ret h
theorem Bxy {r:Option Nat} {y:Code} {e:Exit} {a:Act} {w:World} (dt:ir=false→r=none) (h:Exit.then (WPR ir P y Q) Q e a w):Exit.then (y.wpIn (fR r) 0 P Q) Q e a w:=by
 cases e<;>first|exact h|exact h r dt
theorem Byc {x y:Code} (h:WPR ir P x (Exit.then (WPR ir P y Q) Q) a w):WPR ir P (.seq x y) Q a w:=fun r dt=>wpIn_seq (wpIn_mono (h r dt) fun _ _ _=>Bxy dt)
theorem Acc {c:Operand} {x y:Code} (hc:a.eval c=.bool true) (h:WPR ir P x Q a w):WPR ir P (.cond c x y) Q a w:=fun r dt=>wpIn_cond_true hc (h r dt)
theorem Zn {c:Operand} {x y:Code} (hc:a.eval c=.bool false) (h:WPR ir P y Q a w):WPR ir P (.cond c x y) Q a w:=fun r dt=>wpIn_cond_false hc (h r dt)
theorem Boc {id:Nat} {c:Code} (h:WPR ir P c (Exit.inBlock id Q) a w):WPR ir P (.block id c) Q a w:=fun r dt=>wpIn_block (h r dt)
def ZV (ir:Bool) (P:Program) (c:Code) (Q:Exit→Act→World→Prop):Nat→Act→World→Prop
 |0,_,_=>False
 |m+1,a,w=>WPR ir P c (Exit.then (ZV ir P c Q m) Q) a w
theorem Av0 {r:Option Nat} {c:Code} (dt:ir=false→r=none):∀{m:Nat} {a:Act} {w:World},ZV ir P c Q m a w→Code.roundsIn (fR r) 0 P c Q m a w
 |0,_,_,h=>h
 |m+1,a,w,h=>wpIn_mono (h r dt) fun e a w q=>by
  cases e<;>first|exact q|exact Av0 dt q
theorem WW {c:Code} (m:Nat) (h:ZV ir P c Q m a w):WPR ir P (.loop c) Q a w:=fun _ dt=>wpIn_loop_rounds m (Av0 dt h)
theorem Ny {b:Frame} {k:List Item} {cs:List Frame} {c:Code}:step P (lone (b.atR a (.code (.scope c)::k)) cs w)=.next (lone (b.atR a (.code c::.inScope c::k)) cs w):=
 step_lone_go (by simp[stepG,stepG.exec,Frame.atR])
theorem Ay8 {b:Frame} {k:List Item} {cs:List Frame} {c:Code}:step P (lone (b.atR a (.inScope c::k)) cs w)=.next (lone (b.atR a k) cs w):=
 step_lone_go (by simp[stepG,stepG.exec,Frame.atR])
theorem Boe {c:Code} (h:WPR ir P c (Exit.noGoto Q) a w):WPR ir P (.scope c) Q a w:=fun r dt b k cs jq hb hr=>by
 have h0:(lone (b.atR a (.code (.scope c)::k)) cs w).fenced P (fR r):=fenced_calm hb hr rfl
 obtain⟨e,a₁,w₁,hq,ib⟩:=h r dt b (.inScope c::k) cs jq hb hr
 cases e with
 |normal=>exact⟨.normal,a₁,w₁,hq,.head h0 Ny (StepsIn.trans ib (.one (fenced_calm hb hr rfl) Ay8))⟩
 |exit id=>
  have hx:exitTo id (.inScope c::k)=exitTo id k:=by simp[exitTo]
  exact⟨.exit id,a₁,w₁,hq,fun k' hk=> .head h0 Ny (ib.1 k' (by rw[hx];exact hk)),fun gi hk=>let⟨k₁,h1,h2⟩:=ib.2 gi (by rw[hx];exact hk);⟨k₁,h1,.head h0 Ny h2⟩⟩
 |goto l=>exact hq.elim
 |ret=>exact⟨_,a₁,w₁,hq,.of_steps (.one h0 Ny) ib⟩
 |panic ch=>exact⟨_,a₁,w₁,hq,.of_steps (.one h0 Ny) ib⟩
 |outgrown=>exact⟨_,a₁,w₁,hq,.of_steps (.one h0 Ny) ib⟩
end
def Marks (n:Nat) (F:Nat→Prop) (N:Nm) (o:AE) (R:World) (ms:List Deferred):Prop:=
 ms.Nodup∧∀d∈ms,∃D,d={target:=.collected D,args:=#[]}∧n≤D∧¬F D∧¬Gb N o D∧R.heap[D]?=some (.deferred (some []))
theorem Marks.nil {n:Nat} {F:Nat→Prop} {N:Nm} {o:AE} {R:World}:Marks n F N o R []:=⟨List.nodup_nil,fun d h=>by cases h⟩
theorem Marks.step {n nx nx':Nat} {F F':Nat→Prop} {N N':Nm} {o o':AE} {R R':World} {ms:List Deferred} (h:Marks n F N o R ms) (st:Step F N nx o R F' N' nx' o' R'):Marks n F' N' o' R' ms:=by
 refine⟨h.1,fun d hd=>?_⟩
 obtain⟨D,e,h1,h2,h3,h4⟩:=h.2 d hd
 have ae:D <R.heap.size:=(Array.getElem?_eq_some_iff.1 h4).1
 refine⟨D,e,h1,fun hf=>?_,fun hf=>?_,(st.keep D ae h3).trans h4⟩
 ·rcases st.fnew D hf with q|q|q
  ·exact h2 q
  ·exact h3 q
  ·omega
 ·rcases st.foot D hf with q|q
  ·exact h3 q
  ·omega
abbrev Blj (Z:FG) (ms:List Deferred):FG:={Z with d:=ms++Z.d}
def Qy (Z:FG) (a:Act) (R:World) (s:St):Prop:=∃ms F N,Rel (Blj Z ms) F N s a R∧Marks Z.R.heap.size F N s.o R ms
theorem Qy.start {Z:FG} {F:Nat→Prop} {N:Nm} {s:St} {a:Act} {R:World} (h:Rel Z F N s a R) (W:List Nat):Qy (LQ F N s a R W) a R s:=⟨[],F,N,h.start W,Marks.nil⟩
theorem Qy.of {Z:FG} {F:Nat→Prop} {N:Nm} {s:St} {a:Act} {R:World} (h:Rel Z F N s a R):Qy Z a R s:=⟨[],F,N,h,Marks.nil⟩
theorem Rel.defs {Z Z':FG} {F:Nat→Prop} {N:Nm} {s:St} {a:Act} {R:World} (h:Rel Z F N s a R) (hz:Z'={Z with d:=Z'.d}):Rel Z' F N s {a with defers:=Z'.d} R:=by
 rw[hz]
 exact⟨rfl,h.size,h.slots,h.hp,h.st,h.tm⟩
theorem Qy.over {Z:FG} {F:Nat→Prop} {N:Nm} {s x:St} {a a':Act} {R R':World} {W:List Nat} {ms:List Deferred} (h0:Rel (Blj Z ms) F N s a R) (hm:Marks Z.R.heap.size F N s.o R ms) (hW:∀u,QS u W=true→Z.W u) (h:Qy (LQ F N s a R W) a' R' x):Qy Z a' R' x:=by
 obtain⟨vj,F',N',h,ky⟩:=h
 refine⟨vj++ms,F',N',⟨?_,h.size,h.slots,h.hp,h0.st.trans h.st,fun u hu=>?_⟩,?_,fun d hd=>?_⟩
 ·have h1:a'.defers=vj++a.defers:=h.defers
  rw[h1,h0.defers]
  exact(List.append_assoc ..).symm
 ·rw[h.tm u fun hw=>hu (hW u hw)]
  exact h0.tm u hu
 ·refine List.nodup_append.2 ⟨ky.1,hm.1,fun d hd d' ic e=>?_⟩
  subst e
  obtain⟨D,e1,h1,_⟩:=ky.2 d hd
  obtain⟨D',e2,_,_,_,h4⟩:=hm.2 d ic
  rw[e1] at e2
  injection e2 with e3
  injection e3 with e4
  have ae:D' <R.heap.size:=(Array.getElem?_eq_some_iff.1 h4).1
  have bt:R.heap.size≤D:=h1
  omega
 ·rcases List.mem_append.1 hd with hd|hd
  ·obtain⟨D,e,h1,h2⟩:=ky.2 d hd
   exact⟨D,e,Nat.le_trans h0.st.size h1,h2⟩
  ·exact(hm.step h.st).2 d hd
def Al4 (_id:Nat):Prop:=False
def RI:Code→List Nat
 | .region _ ops _=>QQ ops.toList
 | .seq a b=>RI a++RI b
 | .cond _ a b=>RI a++RI b
 | .block _ b=>RI b
 | .loop b=>RI b
 | .scope b=>RI b
 | .rangeFunc _ ps a b=>ps.toList++RI a++RI b
 |_=>[]
theorem Adk {u:Nat}:∀{A B:List Nat},QS u (A++B)=(QS u A||QS u B)
 | [],B=>rfl
 |k::r,B=>by
  show(bif Nat.beq k u then true else QS u (r++B))=((bif Nat.beq k u then true else QS u r)||QS u B)
  rw[Adk]
  cases Nat.beq k u<;>rfl
abbrev Tag:=Option Nat
abbrev BD:=List (Tag×El×St)
def Gn:Tag→Tag→Bool
 |none,none=>true
 |some i,some j=>Nat.beq i j
 |_,_=>false
theorem V3 {x y:Tag} (h:Gn x y=true):x=y:=by
 cases x<;>cases y<;>first|rfl|(cases h;done)|skip
 rw[Nat.eq_of_beq_eq_true h]
theorem UU (x:Tag):Gn x x=true:=by cases x<;>simp[Gn]
theorem Z2 {x y:Tag} (h:x≠y):Gn x y=false:=by
 cases hb:Gn x y with
 |true=>exact absurd (V3 hb) h
 |false=>rfl
def A7 (t:Tag):BD→Option (El×St)
 | []=>none
 |(k,c,s)::r=>bif Gn k t then some (c,s) else A7 t r
def JW (t:Tag):BD→El
 | []=>none
 |(k,c,_)::r=>bif Gn k t then JW t r else Om (Axd c) (JW t r)
def M2:BD→El
 | []=>none
 |(_,c,_)::r=>Om (Axd c) (M2 r)
structure Res where
 ps:List Prop
 outs:BD
 nrm:Option St
def Acb (f:Tag→El→St→Option (El×St)→El×St) (B:BD):BD→BD
 | []=>[]
 |(t,c,s)::r=>(t,f t c s (A7 t B))::Acb f B r
def Ni (f:El→El) (A:BD):BD→BD
 | []=>[]
 |(t,d,s)::r=>match A7 t A with
  |some _=>Ni f A r
  |none=>(t,f d,s)::Ni f A r
def Brn (g:Bool) (W:List Nat) (s:St) (_t:Tag) (c:El) (x:St):Option (El×St)→El×St
 |none=>(Om (some g) c,x)
 |some (d,y)=>(Brl g c d,JS g W s x y)
def A0c (g:Bool) (W:List Nat) (s:St):Option St→Option St→Option St
 |none,none=>none
 |some x,none=>some x
 |none,some y=>some y
 |some x,some y=>some (JS g W s x y)
def A8w (g:Bool) (W:List Nat) (s:St) (A B:Res):Res:=
 ⟨Us [g=true] A.ps++Us [g=false] B.ps,Acb (Brn g W s) B.outs A.outs++Ni (Om (some !g)) A.outs B.outs,A0c g W s A.nrm B.nrm⟩
def Bxk (A:BD) (W:List Nat) (s:St) (t:Tag) (c:El) (x:St):Option (El×St)→El×St
 |none=>(c,x)
 |some (d,y)=>(orO c (Om (JW t A) d),JS (BJ c) W s x y)
def Ay4 (W:List Nat) (s:St) (A B:Res):Res:=
 ⟨A.ps++Us (Bl0 (M2 A.outs)) B.ps,Acb (Bxk A.outs W s) B.outs A.outs++Ni (Om (M2 A.outs)) A.outs B.outs,B.nrm⟩
def PX (t:Tag):BD→BD
 | []=>[]
 |(k,c,s)::r=>bif Gn k t then PX t r else(k,c,s)::PX t r
def Ti (W:List Nat) (s:St) (id:Nat) (A:Res):Res:=match A7 (some id) A.outs with
 |none=>A
 |some (c,x)=>⟨A.ps,PX (some id) A.outs,match A.nrm with
  |none=>some x
  |some y=>some (JS (BJ c) W s x y)⟩
def Alt (id:Nat):Res:=⟨[Al4 id],[],none⟩
def Atj (W:List Nat) (f:St→Res):Nat→St→Res
 |0,_=>Alt 1000000
 |n+1,s=>match(f s).nrm with
  |none=>f s
  |some s1=>Ay4 W s (f s) (Atj W f n s1)
abbrev rfK:Nat:=1000000
def Brj:Code→Bool
 | .region _ _ _=>true
 |_=>false
def B19 (h:Bool) (u:Nat):Bool:=bif h then true else Nat.ble 1000 u
def RJ (E:Env) (u:Nat):Nat→Code→Bool→St→Res
 |_,.skip,_,s=>⟨[],[],some s⟩
 |_,.region id ops draw,_,s=>match evR E ops.toList draw s with
  |some (s',ps)=>⟨ps,[],some s'⟩
  |none=>Alt id
 |_,.seq a b,h,s=>match(RJ E u 0 a h s).nrm with
  |none=>RJ E u 0 a h s
  |some s1=>Ay4 (RI a++RI b) s (RJ E u 0 a h s) (RJ E u 0 b (bif Brj a then h else false) s1)
 | _,.cond c x y,h,s=>match s.raw [] c with
  | some (.bool g)=>match B19 h u with
   |true=>match g with
    |true=>RJ E u 0 x false s
    |false=>RJ E u 0 y false s
   |false=>A8w g (RI x++RI y) s (RJ E u 0 x false s) (RJ E u 0 y false s)
  |_=>Alt 1000001
 |_,.block id b,_,s=>Ti (RI b) s id (RJ E u id b false s)
 |l,.loop b,_,s=>match(bif Nat.ble rfK l then none else E.L l s) with
  |some (b0,ps,outs)=>⟨(b=b0)::ps,outs,none⟩
  |none=>Atj (RI b) (RJ E u 0 b true) u s
 |l,.rangeFunc g qs a b,_,s=>match E.L (rfK+l) s with
  |some (b0,ps,[(_,_,s1)])=>⟨(Code.rangeFunc g qs a b=b0)::ps,[],some s1⟩
  |_=>Alt 1000002
 |_,.exit id,_,s=>⟨[],[(some id,none,s)],none⟩
 |_,.ret,_,s=>⟨[],[(none,none,s)],none⟩
 |_,.scope b,_,s=>RJ E u 0 b false s
 |_,.label _,_,s=>⟨[],[],some s⟩
 |_,_,_,_=>Alt 1000002
abbrev evC (E:Env) (u:Nat) (c:Code) (s:St):Res:=RJ E u 0 c false s
def Tag.ex:Tag→Exit
 |none=> .ret
 |some i=> .exit i
def Bcn (o:BD):Prop:=∀t c s,A7 t o=some (c,s)→BJ c=false
def Buo (t:Tag) (o:BD):Prop:=∀t' c s,t'≠t→A7 t' o=some (c,s)→BJ c=false
def Oc (r:Res) (e:Exit) (s:St):Prop:=
 (∃t c,e=Tag.ex t∧A7 t r.outs=some (c,s)∧BJ c=true∧Buo t r.outs)∨(e=.normal∧r.nrm=some s∧Bcn r.outs)
theorem Xx (t:Tag):∀(A B:BD),A7 t (A++B)=match A7 t A with|some x=>some x|none=>A7 t B
 | [],B=>rfl
 |(k,c,s)::r,B=>by
  show(bif Gn k t then some (c,s) else A7 t (r++B))=match(bif Gn k t then some (c,s) else A7 t r) with|some x=>some x|none=>A7 t B
  cases Gn k t with
  |true=>rfl
  |false=>exact Xx t r B
theorem Vv (f:Tag→El→St→Option (El×St)→El×St) (B:BD) (t:Tag):∀(A:BD),A7 t (Acb f B A)=match A7 t A with|some (c,s)=>some (f t c s (A7 t B))|none=>none
 | []=>rfl
 |(k,c,s)::r=>by
  show(bif Gn k t then some (f k c s (A7 k B)) else A7 t (Acb f B r))=match(bif Gn k t then some (c,s) else A7 t r) with|some (c,s)=>some (f t c s (A7 t B))|none=>none
  cases h:Gn k t with
  |true=>rw[V3 h];rfl
  |false=>exact Vv f B t r
theorem Adj (f:El→El) (A:BD) (t:Tag) (hA:A7 t A=none):∀(B:BD),A7 t (Ni f A B)=match A7 t B with|some (d,s)=>some (f d,s)|none=>none
 | []=>rfl
 | (k,d,s)::r=>by
  show A7 t (match A7 k A with|some _=>Ni f A r|none=>(k,f d,s)::Ni f A r)=match(bif Gn k t then some (d,s) else A7 t r) with|some (d,s)=>some (f d,s)|none=>none
  cases h:Gn k t with
  |true=>
   obtain rfl:=V3 h
   rw[hA]
   show(bif Gn k k then some (f d,s) else A7 k (Ni f A r))=_
   rw[UU]
   rfl
  | false=>
   have ih:=Adj f A t hA r
   cases hk:A7 k A with
   |some x=>exact ih
   |none=>
    show(bif Gn k t then some (f d,s) else A7 t (Ni f A r))=_
    rw[h]
    exact ih
theorem Uq (t:Tag) (f:Tag→El→St→Option (El×St)→El×St) (h:El→El) (A B:BD):
  A7 t (Acb f B A++Ni h A B)=match A7 t A with|some (c,s)=>some (f t c s (A7 t B))|none=>match A7 t B with|some (d,s)=>some (h d,s)|none=>none:=by
 rw[Xx,Vv]
 cases hA:A7 t A with
 |some x=>rfl
 |none=>exact Adj h A t hA B
theorem A0q:∀{o:BD},(∀e∈o,BJ e.2.1=false)→BJ (M2 o)=true
 | [],_=>rfl
 |(k,c,s)::r,h=>by
  show BJ (Om (Axd c) (M2 r))=true
  rw[BZ,Af2,h (k,c,s) (List.mem_cons_self ..),A0q fun e he=>h e (List.mem_cons_of_mem _ he)]
  rfl
def Qz:BD→Prop
 | []=>True
 |(k,_,_)::r=>A7 k r=none∧Qz r
theorem Atn:∀{o:BD},Qz o→∀e∈o,A7 e.1 o=some e.2
 | [],_,e,h=>by cases h
 | (k,c,s)::r,⟨h1,h2⟩,e,h=>by
  rcases List.mem_cons.1 h with rfl|h
  ·show(bif Gn k k then some (c,s) else A7 k r)=_
   rw[UU]
   rfl
  ·have:=Atn h2 e h
   show(bif Gn k e.1 then some (c,s) else A7 e.1 r)=_
   cases hb:Gn k e.1 with
   |true=>
    obtain rfl:=V3 hb
    rw[h1] at this
    cases this
   |false=>exact this
theorem RN {o:BD} (ho:Qz o) (h:Bcn o):BJ (M2 o)=true:=A0q fun e he=>h e.1 e.2.1 e.2.2 (Atn ho e he)
theorem Ajt:∀{o:BD} {t:Tag} {c:El} {s:St},A7 t o=some (c,s)→BJ c=true→BJ (M2 o)=false
 | [],_,_,_,h,_=>by cases h
 | (k,d,x)::r,t,c,s,h,hc=>by
  show BJ (Om (Axd d) (M2 r))=false
  rw[BZ,Af2]
  have h':(bif Gn k t then some (d,x) else A7 t r)=some (c,s):=h
  cases hb:Gn k t with
  |true=>
   rw[hb] at h'
   obtain⟨rfl,rfl⟩:d=c∧x=s:=by cases h';exact⟨rfl,rfl⟩
   rw[hc]
   rfl
  |false=>
   rw[hb] at h'
   rw[Ajt h' hc,Bool.and_false]
theorem Atx:∀{o:BD} {t u:Tag} {c:El} {s:St},t≠u→A7 t o=some (c,s)→BJ c=true→BJ (JW u o)=false
 | [],_,_,_,_,_,h,_=>by cases h
 | (k,d,x)::r,t,u,c,s,hu,h,hc=>by
  have h':(bif Gn k t then some (d,x) else A7 t r)=some (c,s):=h
  show BJ (bif Gn k u then JW u r else Om (Axd d) (JW u r))=false
  cases hb:Gn k t with
  |true=>
   rw[hb] at h'
   obtain⟨rfl,rfl⟩:d=c∧x=s:=by cases h';exact⟨rfl,rfl⟩
   obtain rfl:=V3 hb
   rw[Z2 hu]
   show BJ (Om (Axd d) (JW u r))=false
   rw[BZ,Af2,hc]
   rfl
  | false=>
   rw[hb] at h'
   have ih:=Atx hu h' hc
   cases Gn k u with
   |true=>exact ih
   |false=>
    show BJ (Om (Axd d) (JW u r))=false
    rw[BZ,ih,Bool.and_false]
theorem Aty:∀{o:BD} {u:Tag},(∀e∈o,BJ e.2.1=false)→BJ (JW u o)=true
 | [],_,_=>rfl
 | (k,c,s)::r,u,h=>by
  have ih:=Aty (u:=u) (o:=r) fun e he=>h e (List.mem_cons_of_mem _ he)
  show BJ (bif Gn k u then JW u r else Om (Axd c) (JW u r))=true
  cases Gn k u with
  |true=>exact ih
  |false=>
   show BJ (Om (Axd c) (JW u r))=true
   rw[BZ,Af2,h (k,c,s) (List.mem_cons_self ..),ih]
   rfl
theorem Amr:∀{A B:BD},Qz A→Qz B→(∀t x,A7 t A=some x→A7 t B=none)→Qz (A++B)
 | [],B,_,hB,_=>hB
 | (k,c,s)::r,B,⟨h1,h2⟩,hB,h=>by
  refine⟨?_,Amr h2 hB fun t x hx=>h t x ?_⟩
  ·show A7 k (r++B)=none
   rw[Xx,h1]
   exact h k (c,s) (by show(bif Gn k k then some (c,s) else A7 k r)=_;rw[UU];rfl)
  ·show(bif Gn k t then some (c,s) else A7 t r)=some x
   cases hb:Gn k t with
   |true=>
    obtain rfl:=V3 hb
    rw[h1] at hx
    cases hx
   |false=>exact hx
theorem Aue (f:Tag→El→St→Option (El×St)→El×St) (B:BD):∀{A:BD},Qz A→Qz (Acb f B A)
 | [],_=>trivial
 |(k,c,s)::r,⟨h1,h2⟩=>⟨by rw[Vv,h1],Aue f B h2⟩
theorem Wh (f:El→El) (A:BD) (t:Tag) (hA:A7 t A≠none):∀(B:BD),A7 t (Ni f A B)=none
 | []=>rfl
 | (k,d,s)::r=>by
  have ih:=Wh f A t hA r
  show A7 t (match A7 k A with|some _=>Ni f A r|none=>(k,f d,s)::Ni f A r)=none
  cases hk:A7 k A with
  |some x=>exact ih
  |none=>
   show(bif Gn k t then some (f d,s) else A7 t (Ni f A r))=none
   cases hb:Gn k t with
   |true=>exact absurd (V3 hb▸hk) hA
   |false=>exact ih
theorem Aud (f:El→El) (A:BD):∀{B:BD},Qz B→Qz (Ni f A B)
 | [],_=>trivial
 |(k,d,s)::r,⟨h1,h2⟩=>by
  have ih:=Aud f A h2
  show Qz (match A7 k A with|some _=>Ni f A r|none=>(k,f d,s)::Ni f A r)
  cases hk:A7 k A with
  |some x=>exact ih
  |none=>exact⟨by rw[Adj f A k hk,h1],ih⟩
theorem A0t (f:Tag→El→St→Option (El×St)→El×St) (h:El→El) {A B:BD} (hA:Qz A) (hB:Qz B):Qz (Acb f B A++Ni h A B):=
 Amr (Aue f B hA) (Aud h A hB) fun t x hx=>by
  refine Wh h A t (fun hn=>?_) B
  rw[Vv,hn] at hx
  cases hx
theorem MZ (u t:Tag):∀(o:BD),A7 t (PX u o)=if t=u then none else A7 t o
 | []=>by split<;>rfl
 | (k,c,s)::r=>by
  have ih:=MZ u t r
  show A7 t (bif Gn k u then PX u r else(k,c,s)::PX u r)=if t=u then none else(bif Gn k t then some (c,s) else A7 t r)
  by_cases sc:k=u
  ·subst sc
   rw[UU]
   show A7 t (PX k r)=_
   rw[ih]
   by_cases o8:t=k
   ·rw[if_pos o8,if_pos o8]
   ·rw[if_neg o8,if_neg o8,Z2 (Ne.symm o8)]
    rfl
  ·rw[Z2 sc]
   show(bif Gn k t then some (c,s) else A7 t (PX u r))=_
   rw[ih]
   by_cases s6:t=u
   ·subst s6
    rw[if_pos rfl,if_pos rfl,Z2 sc]
    rfl
   ·rw[if_neg s6,if_neg s6]
theorem Auc (u:Tag):∀{o:BD},Qz o→Qz (PX u o)
 | [],_=>trivial
 |(k,c,s)::r,⟨h1,h2⟩=>by
  have ih:=Auc u h2
  show Qz (bif Gn k u then PX u r else(k,c,s)::PX u r)
  cases Gn k u with
  |true=>exact ih
  |false=>exact⟨by rw[MZ,h1];split<;>rfl,ih⟩
structure Wf (s:St) (r:Res):Prop where
 outs:∀t c x,A7 t r.outs=some (c,x)→Sub s x
 nrm:∀x,r.nrm=some x→Sub s x
 once:Qz r.outs
theorem Bx7 {s:St} {g:Bool} {W:List Nat} {A B:Res} (hA:Wf s A) (hB:Wf s B):Wf s (A8w g W s A B):=by
 refine⟨fun t c x h=>?_,fun x h=>?_,A0t _ _ hA.once hB.once⟩
 ·have h':A7 t (Acb (Brn g W s) B.outs A.outs++Ni (Om (some !g)) A.outs B.outs)=some (c,x):=h
  rw[Uq] at h'
  cases h1:A7 t A.outs with
  | some y=>
   obtain⟨c1,y⟩:=y
   rw[h1] at h'
   cases h2:A7 t B.outs with
   |some z=>
    obtain⟨c2,z⟩:=z
    rw[h2] at h'
    cases h'
    exact Sub.merge _ _ _ _ _
   |none=>
    rw[h2] at h'
    cases h'
    exact hA.outs _ _ _ h1
  | none=>
   rw[h1] at h'
   cases h2:A7 t B.outs with
   |some z=>
    obtain⟨c2,z⟩:=z
    rw[h2] at h'
    cases h'
    exact hB.outs _ _ _ h2
   |none=>
    rw[h2] at h'
    cases h'
 ·have h':A0c g W s A.nrm B.nrm=some x:=h
  cases h1:A.nrm with
  |some y=>
   cases h2:B.nrm with
   |some z=>rw[h1,h2] at h';cases h';exact Sub.merge _ _ _ _ _
   |none=>rw[h1,h2] at h';cases h';exact hA.nrm _ h1
  |none=>
   cases h2:B.nrm with
   |some z=>rw[h1,h2] at h';cases h';exact hB.nrm _ h2
   |none=>rw[h1,h2] at h';cases h'
theorem Bud {s s1:St} {W:List Nat} {A B:Res} (hA:Wf s A) (h1:A.nrm=some s1) (hB:Wf s1 B):Wf s (Ay4 W s A B):=by
 have hs:=hA.nrm _ h1
 refine⟨fun t c x h=>?_,fun x h=>hs.trans (hB.nrm _ h),A0t _ _ hA.once hB.once⟩
 have h':A7 t (Acb (Bxk A.outs W s) B.outs A.outs++Ni (Om (M2 A.outs)) A.outs B.outs)=some (c,x):=h
 rw[Uq] at h'
 cases h1:A7 t A.outs with
 | some y=>
  obtain⟨c1,y⟩:=y
  rw[h1] at h'
  cases h2:A7 t B.outs with
  |some z=>
   obtain⟨c2,z⟩:=z
   rw[h2] at h'
   cases h'
   exact Sub.merge _ _ _ _ _
  |none=>
   rw[h2] at h'
   cases h'
   exact hA.outs _ _ _ h1
 | none=>
  rw[h1] at h'
  cases h2:A7 t B.outs with
  |some z=>
   obtain⟨c2,z⟩:=z
   rw[h2] at h'
   cases h'
   exact hs.trans (hB.outs _ _ _ h2)
  |none=>
   rw[h2] at h'
   cases h'
theorem Bub {s:St} {W:List Nat} {id:Nat} {A:Res} (hA:Wf s A):Wf s (Ti W s id A):=by
 unfold Ti
 cases h1:A7 (some id) A.outs with
 |none=>exact hA
 | some y=>
  obtain⟨c,y⟩:=y
  refine⟨fun t c' x h=>?_,fun x h=>?_,Auc _ hA.once⟩
  ·have h':A7 t (PX (some id) A.outs)=some (c',x):=h
   rw[MZ] at h'
   split at h'
   ·cases h'
   ·exact hA.outs _ _ _ h'
  ·have h':(match A.nrm with|none=>some y|some z=>some (JS (BJ c) W s y z))=some x:=h
   cases h2:A.nrm with
   |none=>rw[h2] at h';cases h';exact hA.outs _ _ _ h1
   |some z=>rw[h2] at h';cases h';exact Sub.merge _ _ _ _ _
theorem UW (s:St) (id:Nat):Wf s (Alt id):=⟨fun _ _ _ h=>(by cases h),fun _ h=>(by cases h),trivial⟩
theorem A56 {W:List Nat} {f:St→Res} (hf:∀s,Wf s (f s)):∀(n:Nat) (s:St),Wf s (Atj W f n s)
 |0,s=>UW s _
 |n+1,s=>by
  unfold Atj
  cases h:(f s).nrm with
  |none=>exact hf s
  |some s1=>exact Bud (hf s) h (A56 hf n s1)
theorem Buc (s:St) (t:Tag):Wf s ⟨[],[(t,none,s)],none⟩:=
  ⟨fun t' c x h=>(by
    have h':(bif Gn t t' then some (none,s) else none)=some (c,x):=h
    cases hb:Gn t t' with
    |true=>rw[hb] at h';cases h';exact Sub.refl s
    |false=>rw[hb] at h';cases h'),
   fun x h=>(by cases h),rfl,trivial⟩
def Art (E:Env) (b:Code) (s:St) (ps:List Prop) (outs:BD):Prop:=∀(Z:FG) (a:Act) (R:World) (Q:Exit→Act→World→Prop),Qy Z a R s→(∀u,QS u (RI b)=true→Z.W u)→(∀p∈ps,p)→
 (∀e x a' R',Oc ⟨ps,outs,none⟩ e x→Qy Z a' R' x→Q e a' R')→WPR E.ir E.P (Code.loop b) Q a R
def Bur (E:Env) (c:Code) (s:St) (ps:List Prop) (outs:BD):Prop:=∀t d s1,outs=[(t,d,s1)]→Sub s s1∧∀(Z:FG) (a:Act) (R:World) (Q:Exit→Act→World→Prop),Qy Z a R s→(∀u,QS u (RI c)=true→Z.W u)→(∀p∈ps,p)→
 (∀a' R',Qy Z a' R' s1→Q .normal a' R')→WPR E.ir E.P c Q a R
def Bh3 (E:Env) (l:Nat) (b:Code) (s:St) (ps:List Prop) (outs:BD):Prop:=(Nat.ble rfK l=false→Wf s ⟨ps,outs,none⟩∧Art E b s ps outs)∧(Nat.ble rfK l=true→Bur E b s ps outs)
structure Ou (E:Env):Prop extends EnvOk E where
 loops:∀l s b ps outs,E.L l s=some (b,ps,outs)→Bh3 E l b s ps outs
theorem FJ {E:Env} (ok:Ou E) {u:Nat}:∀(l:Nat) (c:Code) (h:Bool) (s:St),Wf s (RJ E u l c h s)
 |_,.skip,_,s=>⟨fun _ _ _ h=>(by cases h),fun x h=>(by cases h;exact Sub.refl s),trivial⟩
 | _,.region id ops draw,_,s=>by
  unfold RJ
  cases h:evR E ops.toList draw s with
  |none=>exact UW s _
  |some x=>
   obtain⟨s',ps⟩:=x
   exact⟨fun _ _ _ h=>(by cases h),fun x h'=>(by cases h';exact Bgx ok.toEnvOk h),trivial⟩
 |_,.seq a b,hd,s=>by
  unfold RJ
  cases h:(RJ E u 0 a hd s).nrm with
  |none=>exact FJ ok 0 a hd s
  |some s1=>exact Bud (FJ ok 0 a hd s) h (FJ ok 0 b _ s1)
 | _,.cond c x y,hd,s=>by
  unfold RJ
  split
  ·rename_i g _
   cases B19 hd u with
   |true=>
    cases g with
    |true=>exact FJ ok 0 x _ s
    |false=>exact FJ ok 0 y _ s
   |false=>exact Bx7 (FJ ok 0 x _ s) (FJ ok 0 y _ s)
  ·exact UW s _
 |_,.block id b,_,s=>Bub (FJ ok id b _ s)
 | l,.loop b,_,s=>by
  unfold RJ
  split
  ·rename_i b0 ps outs h
   cases hb:Nat.ble rfK l with
   |true=>rw[hb] at h;cases h
   |false=>
    rw[hb,cond_false] at h
    obtain⟨h1,h2,h3⟩:=((ok.loops _ _ _ _ _ h).1 hb).1
    exact⟨h1,h2,h3⟩
  ·exact A56 (fun s=>FJ ok 0 b _ s) u s
 |_,.exit id,_,s=>Buc s (some id)
 |_,.ret,_,s=>Buc s none
 | l,.rangeFunc _ _ _ _,_,s=>by
  unfold RJ
  split
  ·rename_i b0 ps t d s1 h
   exact⟨fun _ _ _ h=>(by cases h),fun x h'=>(by cases h';exact((ok.loops _ _ _ _ _ h).2 (by rw[Nat.ble_eq];omega) _ _ _ rfl).1),trivial⟩
  ·exact UW s _
 |_,.scope b,_,s=>FJ ok 0 b false s
 |_,.label _,_,s=>⟨fun _ _ _ h=>(by cases h),fun x h=>(by cases h;exact Sub.refl s),trivial⟩
 |_,.goto _,_,s=>UW s _
 |_,.refuse _,_,s=>UW s _
theorem Ov {ps qs:List Prop} (h:∀p∈ps++qs,p):(∀p∈ps,p)∧(∀p∈qs,p):=⟨fun p hp=>h p (List.mem_append.2 (.inl hp)),fun p hp=>h p (List.mem_append.2 (.inr hp))⟩
def Buq (M:FG) (x y:St):Prop:=∀a' R',Qy M a' R' x→Qy M a' R' y
theorem Tt {Z:FG} {F:Nat→Prop} {N:Nm} {s:St} {a:Act} {R:World} {W:List Nat} (h0:Rel Z F N s a R) {g:Bool} {x y z:St} (e1:Sub s x) (e2:Sub s y) (hz:z=bif g then x else y):Buq (LQ F N s a R W) z (JS g W s x y):=fun a' R' ⟨ms,F',N',h,hm⟩=>by
 subst hz
 obtain⟨N'',h',hst⟩:=Rel.merge (h0.start W) (h.defs (Z':=LQ F N s a R W) rfl) (fun _ h=>h) e1 e2
 exact⟨ms,F',N'',⟨h.defers,h'.size,h'.slots,h'.hp,h'.st,h'.tm⟩,hm.step hst⟩
theorem Bwo {Z:FG} {F:Nat→Prop} {N:Nm} {a:Act} {R:World} {W:List Nat} {s:St} (h0:Rel Z F N s a R) {g:Bool} {A B:Res} {e:Exit} {x:St} (hA:Wf s A) (hB:Wf s B) (h:Oc (bif g then A else B) e x):
  ∃y,Oc (A8w g W s A B) e y∧Buq (LQ F N s a R W) x y:=by
 have gj:=Uq (f:=Brn g W s) (h:=Om (some !g)) (A:=A.outs) (B:=B.outs)
 rcases h with⟨t,c,rfl,h1,h2,h3⟩|⟨rfl,h1,h2⟩
 ·cases g with
  | true=>
   have bt:A7 t A.outs=some (c,x):=h1
   cases hb:A7 t B.outs with
   | none=>
    refine⟨x,.inl ⟨t,Om (some true) c,rfl,?_,?_,fun t' c' s' ao hg=>?_⟩,fun _ _ h=>h⟩
    ·show A7 t (_++_)=_
     rw[gj,bt,hb]
     rfl
    ·rw[BZ,h2];rfl
    ·have ah:A7 t' (_++_)=some (c',s'):=hg
     rw[gj] at ah
     cases ha:A7 t' A.outs with
     |some z=>
      obtain⟨c1,z⟩:=z
      have:=h3 t' c1 z ao ha
      rw[ha] at ah
      cases aq:A7 t' B.outs with
      |some w=>obtain⟨d,w⟩:=w;rw[aq] at ah;cases ah;rw[Uh];exact this
      |none=>rw[aq] at ah;cases ah;rw[BZ,this];rfl
     |none=>
      rw[ha] at ah
      cases aq:A7 t' B.outs with
      |some w=>obtain⟨d,w⟩:=w;rw[aq] at ah;cases ah;rw[BZ];rfl
      |none=>rw[aq] at ah;cases ah
   | some y=>
    obtain⟨d,y⟩:=y
    refine⟨JS true W s x y,.inl ⟨t,Brl true c d,rfl,?_,?_,fun t' c' s' ao hg=>?_⟩,Tt (g:=true) h0 (hA.outs _ _ _ bt) (hB.outs _ _ _ hb) rfl⟩
    ·show A7 t (_++_)=_
     rw[gj,bt,hb]
     rfl
    ·rw[Uh];exact h2
    ·have ah:A7 t' (_++_)=some (c',s'):=hg
     rw[gj] at ah
     cases ha:A7 t' A.outs with
     |some z=>
      obtain⟨c1,z⟩:=z
      have:=h3 t' c1 z ao ha
      rw[ha] at ah
      cases aq:A7 t' B.outs with
      |some w=>obtain⟨d,w⟩:=w;rw[aq] at ah;cases ah;rw[Uh];exact this
      |none=>rw[aq] at ah;cases ah;rw[BZ,this];rfl
     |none=>
      rw[ha] at ah
      cases aq:A7 t' B.outs with
      |some w=>obtain⟨d,w⟩:=w;rw[aq] at ah;cases ah;rw[BZ];rfl
      |none=>rw[aq] at ah;cases ah
  | false=>
   have bt:A7 t B.outs=some (c,x):=h1
   have fb:∀t' c' s',t'≠t→A7 t' (A8w false W s A B).outs=some (c',s')→BJ c'=false:=fun t' c' s' ao hg=>by
    have ah:A7 t' (_++_)=some (c',s'):=hg
    rw[gj] at ah
    cases ha:A7 t' A.outs with
    | some z=>
     obtain⟨c1,z⟩:=z
     rw[ha] at ah
     cases aq:A7 t' B.outs with
     |some w=>
      obtain⟨d,w⟩:=w
      have:=h3 t' d w ao aq
      rw[aq] at ah;cases ah;rw[Uh];exact this
     |none=>rw[aq] at ah;cases ah;rw[BZ];rfl
    | none=>
     rw[ha] at ah
     cases aq:A7 t' B.outs with
     |some w=>
      obtain⟨d,w⟩:=w
      have:=h3 t' d w ao aq
      rw[aq] at ah;cases ah;rw[BZ,this];rfl
     |none=>rw[aq] at ah;cases ah
   cases ha:A7 t A.outs with
   | none=>
    refine⟨x,.inl ⟨t,Om (some !false) c,rfl,?_,?_,fb⟩,fun _ _ h=>h⟩
    ·show A7 t (_++_)=_
     rw[gj,ha,bt]
    ·rw[BZ,h2];rfl
   | some y=>
    obtain⟨d,y⟩:=y
    refine⟨JS false W s y x,.inl ⟨t,Brl false d c,rfl,?_,?_,fb⟩,Tt (g:=false) h0 (hA.outs _ _ _ ha) (hB.outs _ _ _ bt) rfl⟩
    ·show A7 t (_++_)=_
     rw[gj,ha,bt]
     rfl
    ·rw[Uh];exact h2
 ·have ai:Bcn (A8w g W s A B).outs:=fun t' c' s' hg=>by
   have ah:A7 t' (_++_)=some (c',s'):=hg
   rw[gj] at ah
   cases ha:A7 t' A.outs with
   | some z=>
    obtain⟨c1,z⟩:=z
    rw[ha] at ah
    cases aq:A7 t' B.outs with
    |some w=>
     obtain⟨d,w⟩:=w
     rw[aq] at ah;cases ah;rw[Uh]
     cases g with
     |true=>exact h2 t' c1 _ ha
     |false=>exact h2 t' d _ aq
    |none=>
     rw[aq] at ah;cases ah;rw[BZ]
     cases g with
     |true=>rw[h2 t' c1 _ ha];rfl
     |false=>rfl
   | none=>
    rw[ha] at ah
    cases aq:A7 t' B.outs with
    |some w=>
     obtain⟨d,w⟩:=w
     rw[aq] at ah;cases ah;rw[BZ]
     cases g with
     |true=>rfl
     |false=>rw[h2 t' d _ aq];rfl
    |none=>rw[aq] at ah;cases ah
  cases g with
  |true=>
   have bt:A.nrm=some x:=h1
   cases hb:B.nrm with
   |none=>exact⟨x,.inr ⟨rfl,by show A0c true W s A.nrm B.nrm=_;rw[bt,hb];rfl,ai⟩,fun _ _ h=>h⟩
   |some y=>exact⟨_,.inr ⟨rfl,by show A0c true W s A.nrm B.nrm=_;rw[bt,hb];rfl,ai⟩,Tt (g:=true) h0 (hA.nrm _ bt) (hB.nrm _ hb) rfl⟩
  |false=>
   have bt:B.nrm=some x:=h1
   cases ha:A.nrm with
   |none=>exact⟨x,.inr ⟨rfl,by show A0c false W s A.nrm B.nrm=_;rw[ha,bt];rfl,ai⟩,fun _ _ h=>h⟩
   |some y=>exact⟨_,.inr ⟨rfl,by show A0c false W s A.nrm B.nrm=_;rw[ha,bt];rfl,ai⟩,Tt (g:=false) h0 (hA.nrm _ ha) (hB.nrm _ bt) rfl⟩
theorem Bwp {Z:FG} {F:Nat→Prop} {N:Nm} {a:Act} {R:World} {W:List Nat} {s s1:St} (h0:Rel Z F N s a R) {A B:Res} {t:Tag} {c:El} {x:St} (hA:Wf s A) (hn:A.nrm=some s1) (hB:Wf s1 B) (h1:A7 t A.outs=some (c,x)) (h2:BJ c=true) (h3:Buo t A.outs):
  ∃y,Oc (Ay4 W s A B) (Tag.ex t) y∧Buq (LQ F N s a R W) x y:=by
 have gj:=Uq (f:=Bxk A.outs W s) (h:=Om (M2 A.outs)) (A:=A.outs) (B:=B.outs)
 have fb:Buo t (Ay4 W s A B).outs:=fun t' c' s' ao hg=>by
  have ah:A7 t' (_++_)=some (c',s'):=hg
  rw[gj] at ah
  cases ha:A7 t' A.outs with
  | some z=>
   obtain⟨c1,z⟩:=z
   have:=h3 t' c1 z ao ha
   rw[ha] at ah
   cases aq:A7 t' B.outs with
   |some w=>
    obtain⟨d,w⟩:=w
    rw[aq] at ah;cases ah
    rw[Af3,this,BZ,Atx (Ne.symm ao) h1 h2]
    rfl
   |none=>rw[aq] at ah;cases ah;exact this
  | none=>
   rw[ha] at ah
   cases aq:A7 t' B.outs with
   |some w=>
    obtain⟨d,w⟩:=w
    rw[aq] at ah;cases ah
    rw[BZ,Ajt h1 h2]
    rfl
   |none=>rw[aq] at ah;cases ah
 cases hb:A7 t B.outs with
 |none=>
  refine⟨x,.inl ⟨t,c,rfl,?_,h2,fb⟩,fun _ _ h=>h⟩
  show A7 t (_++_)=_
  rw[gj,h1,hb]
  rfl
 | some y=>
  obtain⟨d,y⟩:=y
  refine⟨JS (BJ c) W s x y,.inl ⟨t,orO c (Om (JW t A.outs) d),rfl,?_,?_,fb⟩,Tt (g:=BJ c) h0 (hA.outs _ _ _ h1) ((hA.nrm _ hn).trans (hB.outs _ _ _ hb)) (by rw[h2];rfl)⟩
  ·show A7 t (_++_)=_
   rw[gj,h1,hb]
   rfl
  ·rw[Af3,h2]
   rfl
theorem Bwq {Z:FG} {F:Nat→Prop} {N:Nm} {a:Act} {R:World} {W:List Nat} {s s1:St} (h0:Rel Z F N s a R) {A B:Res} {e:Exit} {x:St} (hA:Wf s A) (hn:A.nrm=some s1) (hB:Wf s1 B) (ai:Bcn A.outs) (h:Oc B e x):
  ∃y,Oc (Ay4 W s A B) e y∧Buq (LQ F N s a R W) x y:=by
 have gj:=Uq (f:=Bxk A.outs W s) (h:=Om (M2 A.outs)) (A:=A.outs) (B:=B.outs)
 have dc:=RN hA.once ai
 have iz:∀t,BJ (JW t A.outs)=true:=fun t=>Aty fun e he=>ai e.1 e.2.1 e.2.2 (Atn hA.once e he)
 rcases h with⟨t,c,rfl,h1,h2,h3⟩|⟨rfl,h1,h2⟩
 ·have fb:Buo t (Ay4 W s A B).outs:=fun t' c' s' ao hg=>by
   have ah:A7 t' (_++_)=some (c',s'):=hg
   rw[gj] at ah
   cases ha:A7 t' A.outs with
   | some z=>
    obtain⟨c1,z⟩:=z
    have:=ai t' c1 z ha
    rw[ha] at ah
    cases aq:A7 t' B.outs with
    |some w=>
     obtain⟨d,w⟩:=w
     rw[aq] at ah;cases ah
     rw[Af3,this,BZ,h3 t' d _ ao aq,Bool.and_false]
     rfl
    |none=>rw[aq] at ah;cases ah;exact this
   | none=>
    rw[ha] at ah
    cases aq:A7 t' B.outs with
    |some w=>
     obtain⟨d,w⟩:=w
     rw[aq] at ah;cases ah
     rw[BZ,h3 t' d _ ao aq,Bool.and_false]
    |none=>rw[aq] at ah;cases ah
  cases ha:A7 t A.outs with
  |none=>
   refine⟨x,.inl ⟨t,Om (M2 A.outs) c,rfl,?_,by rw[BZ,dc,h2];rfl,fb⟩,fun _ _ h=>h⟩
   show A7 t (_++_)=_
   rw[gj,ha,h1]
  | some y=>
   obtain⟨d,y⟩:=y
   have hd:=ai t d y ha
   refine⟨JS (BJ d) W s y x,.inl ⟨t,orO d (Om (JW t A.outs) c),rfl,?_,?_,fb⟩,Tt (g:=BJ d) h0 (hA.outs _ _ _ ha) ((hA.nrm _ hn).trans (hB.outs _ _ _ h1)) (by rw[hd];rfl)⟩
   ·show A7 t (_++_)=_
    rw[gj,ha,h1]
    rfl
   ·rw[Af3,BZ,iz t,h2,Bool.and_self,Bool.or_true]
 ·refine⟨x,.inr ⟨rfl,h1,fun t' c' s' hg=>?_⟩,fun _ _ h=>h⟩
  have ah:A7 t' (_++_)=some (c',s'):=hg
  rw[gj] at ah
  cases ha:A7 t' A.outs with
  | some z=>
   obtain⟨c1,z⟩:=z
   have:=ai t' c1 z ha
   rw[ha] at ah
   cases aq:A7 t' B.outs with
   |some w=>
    obtain⟨d,w⟩:=w
    rw[aq] at ah;cases ah
    rw[Af3,this,BZ,h2 t' d _ aq,Bool.and_false]
    rfl
   |none=>rw[aq] at ah;cases ah;exact this
  | none=>
   rw[ha] at ah
   cases aq:A7 t' B.outs with
   |some w=>
    obtain⟨d,w⟩:=w
    rw[aq] at ah;cases ah
    rw[BZ,h2 t' d _ aq,Bool.and_false]
   |none=>rw[aq] at ah;cases ah
theorem Bny {W:List Nat} {s:St} {A B:Res} (hA:Wf s A) (ai:Bcn A.outs) (h:∀p∈(Ay4 W s A B).ps,p):(∀p∈B.ps,p):=by
 have h':=(Ov h).2
 refine NK h' fun q hq=>?_
 have dc:=RN hA.once ai
 cases hc:M2 A.outs with
 |none=>rw[hc] at hq;cases hq
 |some b=>
  rw[hc] at hq dc
  obtain rfl:=List.mem_singleton.1 hq
  exact dc
def B4x (E:Env) (f:St→Res) (c:Code):Prop:=∀(Z:FG) (s:St) (a:Act) (R:World) (Q:Exit→Act→World→Prop),Qy Z a R s→(∀u,QS u (RI c)=true→Z.W u)→(∀p∈(f s).ps,p)→
 (∀e x a' R',Oc (f s) e x→Qy Z a' R' x→Q e a' R')→WPR E.ir E.P c Q a R
theorem Bb0 {E:Env} {W:List Nat} {f:St→Res} {c:Code} (hw:∀s,Wf s (f s)) (hf:B4x E f c) {Z:FG} {F:Nat→Prop} {N:Nm} {s:St} {a:Act} {R:World} {Q:Exit→Act→World→Prop} {s1:St} {B:Res} {ms:List Deferred} (h0:Rel (Blj Z ms) F N s a R) (hm:Marks Z.R.heap.size F N s.o R ms) (hW:∀u,QS u W=true→Z.W u) (hc:∀u,QS u (RI c)=true→QS u W=true) (hn:(f s).nrm=some s1) (hB:Wf s1 B) (hp:∀p∈(Ay4 W s (f s) B).ps,p) (hk:∀e x a' R',Oc (Ay4 W s (f s) B) e x→Qy Z a' R' x→Q e a' R') {K:Act→World→Prop} (hd:∀(a':Act) (R':World),Qy (LQ F N s a R W) a' R' s1→(∀p∈B.ps,p)→(∀e x pj R'',Oc B e x→Qy (LQ F N s a R W) pj R'' x→Q e pj R'')→K a' R'):WPR E.ir E.P c (Exit.then K Q) a R:=by
 refine hf (LQ F N s a R W) s a R _ (Qy.start h0 W) (fun u hu=>hc u hu) (Ov hp).1 fun e x a' R' ho hr=>?_
 rcases ho with⟨t,cc,rfl,h1,h2,h3⟩|⟨rfl,h1,h2⟩
 ·obtain⟨y,hy,gi⟩:=Bwp h0 (hw s) hn hB h1 h2 h3
  have:=hk _ y a' R' hy (Qy.over h0 hm hW (gi _ _ hr))
  cases t<;>exact this
 ·rw[hn] at h1
  obtain rfl:=Option.some.inj h1
  refine hd a' R' hr (Bny (hw s) h2 hp) fun e x pj R'' ho' gi=>?_
  obtain⟨y,hy,sn⟩:=Bwq h0 (hw s) hn hB h2 ho'
  exact hk e y pj R'' hy (Qy.over h0 hm hW (sn _ _ gi))
theorem Agf {u:Nat} {A B:List Nat} (h:QS u A=true):QS u (A++B)=true:=by rw[Adk,h];rfl
theorem Ajj {u:Nat} {A B:List Nat} (h:QS u B=true):QS u (A++B)=true:=by rw[Adk,h];cases QS u A<;>rfl
theorem IM {E:Env} (ok:Ou E) {u:Nat}:∀(l:Nat) (c:Code) (hd:Bool),B4x E (RJ E u l c hd) c
 |_,.skip,_=>fun Z s a R Q h _ _ hk=>Buj (hk _ s a R (.inr ⟨rfl,rfl,fun _ _ _ h=>by cases h⟩) h)
 | _,.region id ops draw,_=>fun Z s a R Q h hW hp hk=>by
  unfold RJ at hp hk
  cases he:evR E ops.toList draw s with
  |none=>rw[he] at hp;exact(hp (Al4 id) (List.mem_singleton.2 rfl)).elim
  |some x=>
   obtain⟨s',ps⟩:=x
   rw[he] at hp hk
   obtain⟨ms,F,N,h,hm⟩:=h
   have:=Bns ok.toEnvOk (h.start (QQ ops.toList)) (id:=id) (fun u hu=>hu) he hp (Q:=Q) fun F' N' a' R' hr=>hk _ s' a' R' (.inr ⟨rfl,rfl,fun _ _ _ h=>by cases h⟩) (Qy.over h hm hW ⟨[],F',N',hr,Marks.nil⟩)
   rwa[Array.toArray_toList] at this
 | _,.seq c d,hd=>fun Z s a R Q h hW hp hk=>by
  unfold RJ at hp hk
  refine Byc ?_
  cases hn:(RJ E u 0 c hd s).nrm with
  | none=>
   rw[hn] at hp hk
   refine IM ok 0 c hd Z s a R _ h (fun u hu=>hW u (Agf hu)) hp fun e x a' R' ho hr=>?_
   have:=hk e x a' R' ho hr
   rcases ho with⟨t,cc,rfl,_,_,_⟩|⟨rfl,h1,_⟩
   ·cases t<;>exact this
   ·rw[hn] at h1
    cases h1
  |some s1=>
   rw[hn] at hp hk
   obtain⟨ms,F,N,h,hm⟩:=h
   exact Bb0 (fun s=>FJ ok 0 c hd s) (IM ok 0 c hd) h hm hW (fun u hu=>Agf hu) hn (FJ ok 0 d _ s1) hp hk fun a' R' hr gh ak=>IM ok 0 d _ _ s1 a' R' Q hr (fun u hu=>Ajj hu) gh ak
 | _,.cond c x y,hd=>fun Z s a R Q h hW hp hk=>by
  unfold RJ at hp hk
  split at hp
  ·rename_i g hg
   rw[hg] at hk
   simp only at hk
   obtain⟨ms,F,N,h,hm⟩:=h
   have iw:=EP h (FI _) hg
   generalize B19 hd u=lt at hp hk
   cases lt with
   |true=>
    cases g with
    |true=>exact Acc iw (IM ok 0 x false Z s a R Q ⟨ms,F,N,h,hm⟩ (fun u hu=>hW u (Agf hu)) hp hk)
    |false=>exact Zn iw (IM ok 0 y false Z s a R Q ⟨ms,F,N,h,hm⟩ (fun u hu=>hW u (Ajj hu)) hp hk)
   |false=>
   obtain⟨d7,fi⟩:=Ov hp
   have main:∀z:Exit×St,Oc (bif g then RJ E u 0 x false s else RJ E u 0 y false s) z.1 z.2→∀a' R',Qy (LQ F N s a R (RI x++RI y)) a' R' z.2→Q z.1 a' R':=fun z hz a' R' hr=>by
    obtain⟨w,hw,gi⟩:=Bwo h (FJ ok 0 x _ s) (FJ ok 0 y _ s) hz
    exact hk z.1 w a' R' hw (Qy.over h hm hW (gi _ _ hr))
   cases g with
   |true=>
    exact Acc iw (IM ok 0 x false (LQ F N s a R (RI x++RI y)) s a R Q (Qy.start h _) (fun u hu=>Agf hu) (NK d7 fun q hq=>by obtain rfl:=List.mem_singleton.1 hq;rfl) fun e z a' R' ho hr=>main (e,z) ho a' R' hr)
   |false=>
    exact Zn iw (IM ok 0 y false (LQ F N s a R (RI x++RI y)) s a R Q (Qy.start h _) (fun u hu=>Ajj hu) (NK fi fun q hq=>by obtain rfl:=List.mem_singleton.1 hq;rfl) fun e z a' R' ho hr=>main (e,z) ho a' R' hr)
  ·exact(hp (Al4 1000001) (List.mem_singleton.2 rfl)).elim
 | _, .block id b,_=>fun Z s a R Q h hW hp hk=>by
  refine Boc ?_
  obtain⟨ms,F,N,h,hm⟩:=h
  have hwf:=FJ ok (u:=u) id b false s
  have gh:∀p∈(RJ E u id b false s).ps,p:=fun p hm=>hp p (by
   show p∈(Ti (RI b) s id (RJ E u id b false s)).ps
   unfold Ti
   cases hg:A7 (some id) (RJ E u id b false s).outs with
   |none=>exact hm
   |some y=>exact hm)
  refine IM ok id b false (LQ F N s a R (RI b)) s a R _ (Qy.start h _) (fun u hu=>hu) gh fun e x a' R' ho hr=>?_
  have ak:∀e x a' R',Oc (Ti (RI b) s id (RJ E u id b false s)) e x→Qy Z a' R' x→Q e a' R':=hk
  have hz:Qy Z a' R' x:=Qy.over h hm hW hr
  generalize RJ E u id b false s=A at*
  cases hg:A7 (some id) A.outs with
  | none=>
   have kj:Ti (RI b) s id A=A:=by unfold Ti;rw[hg]
   rw[kj] at ak
   have:=ak e x a' R' ho hz
   rcases ho with⟨t,cc,rfl,h1,_,_⟩|⟨rfl,_,_⟩
   ·cases t with
    |none=>exact this
    |some i=>
     have ao:i≠id:=fun e=>by subst e;rw[hg] at h1;cases h1
     show Exit.inBlock id Q (.exit i) a' R'
     unfold Exit.inBlock
     simp only[ao,if_false]
     exact this
   ·exact this
  | some y=>
   obtain⟨c,y⟩:=y
   have kj:Ti (RI b) s id A=⟨A.ps,PX (some id) A.outs,match A.nrm with|none=>some y|some z=>some (JS (BJ c) (RI b) s y z)⟩:=by unfold Ti;rw[hg]
   rw[kj] at ak
   rcases ho with⟨t,cc,rfl,h1,h2,h3⟩|⟨rfl,h1,h2⟩
   ·by_cases ht:t=some id
    ·subst ht
     rw[hg] at h1
     obtain⟨rfl,rfl⟩:c=cc∧y=x:=by cases h1;exact⟨rfl,rfl⟩
     have ai:Bcn (PX (some id) A.outs):=fun t' c' s' ah=>by
      rw[MZ] at ah
      split at ah
      ·cases ah
      ·rename_i ao
       exact h3 t' c' s' ao ah
     show Exit.inBlock id Q (.exit id) a' R'
     unfold Exit.inBlock
     simp only[if_true]
     cases hn:A.nrm with
     |none=>
      rw[hn] at ak
      exact ak .normal y a' R' (.inr ⟨rfl,rfl,ai⟩) hz
     |some z=>
      rw[hn] at ak
      have:=Tt (g:=BJ c) h (hwf.outs _ _ _ hg) (hwf.nrm _ hn) (by rw[h2];rfl) _ _ hr
      exact ak .normal _ a' R' (.inr ⟨rfl,rfl,ai⟩) (Qy.over h hm hW this)
    ·have ho':A7 t (PX (some id) A.outs)=some (cc,x):=by rw[MZ,if_neg ht];exact h1
     have:=ak (Tag.ex t) x a' R' (.inl ⟨t,cc,rfl,ho',h2,fun t' c' s' ao ah=>by
      rw[MZ] at ah
      split at ah
      ·cases ah
      ·exact h3 t' c' s' ao ah⟩) hz
     cases t with
     |none=>exact this
     |some i=>
      have ao:i≠id:=fun e=>ht (by rw[e])
      show Exit.inBlock id Q (.exit i) a' R'
      unfold Exit.inBlock
      simp only[ao,if_false]
      exact this
   ·have ai:Bcn (PX (some id) A.outs):=fun t' c' s' ah=>by
     rw[MZ] at ah
     split at ah
     ·cases ah
     ·exact h2 t' c' s' ah
    rw[h1] at ak
    have:=Tt (g:=BJ c) h (hwf.outs _ _ _ hg) (hwf.nrm _ h1) (by rw[h2 _ _ _ hg];rfl) _ _ hr
    exact ak .normal _ a' R' (.inr ⟨rfl,rfl,ai⟩) (Qy.over h hm hW this)
 | l, .loop b,_=>fun Z s a R Q h hW hp hk=>by
  unfold RJ at hp hk
  cases hL:(bif Nat.ble rfK l then none else E.L l s) with
  | some r=>
   obtain⟨b0,ps,outs⟩:=r
   rw[hL] at hp hk
   have hb:b=b0:=hp _ (List.mem_cons_self ..)
   subst hb
   have ae:Nat.ble rfK l=false:=by
    cases hb:Nat.ble rfK l with
    |true=>rw[hb] at hL;cases hL
    |false=>rfl
   rw[ae,cond_false] at hL
   refine((ok.loops _ _ _ _ _ hL).1 ae).2 Z a R Q h hW (fun p hm=>hp p (List.mem_cons_of_mem _ hm)) fun e x a' R' ho hr=>hk e x a' R' ?_ hr
   rcases ho with⟨t,c,rfl,h1,h2,h3⟩|⟨rfl,h1,h2⟩
   ·exact .inl ⟨t,c,rfl,h1,h2,h3⟩
   ·cases h1
  |none=>
  rw[hL] at hp hk
  have key:∀(n:Nat) (Z:FG) (s:St) (a:Act) (R:World) (Q:Exit→Act→World→Prop),Qy Z a R s→(∀u,QS u (RI b)=true→Z.W u)→(∀p∈(Atj (RI b) (RJ E u 0 b true) n s).ps,p)→(∀e x a' R',Oc (Atj (RI b) (RJ E u 0 b true) n s) e x→Qy Z a' R' x→Q e a' R')→
    ZV E.ir E.P b Q n a R:=fun n=>by
   induction n with
   |zero=>intro Z s a R Q h hW hp hk;exact(hp (Al4 1000000) (List.mem_singleton.2 rfl)).elim
   | succ n ih=>
    intro Z s a R Q h hW hp hk
    show WPR E.ir E.P b (Exit.then (ZV E.ir E.P b Q n) Q) a R
    unfold Atj at hp hk
    cases hn:(RJ E u 0 b true s).nrm with
    | none=>
     rw[hn] at hp hk
     refine IM ok 0 b true Z s a R _ h hW hp fun e x a' R' ho hr=>?_
     have:=hk e x a' R' ho hr
     rcases ho with⟨t,cc,rfl,_,_,_⟩|⟨rfl,h1,_⟩
     ·cases t<;>exact this
     ·rw[hn] at h1
      cases h1
    |some s1=>
     rw[hn] at hp hk
     obtain⟨ms,F,N,h,hm⟩:=h
     exact Bb0 (fun s=>FJ ok 0 b true s) (IM ok 0 b true) h hm hW (fun u hu=>hu) hn (A56 (fun s=>FJ ok 0 b true s) n s1) hp hk fun a' R' hr gh ak=>ih _ s1 a' R' Q hr (fun u hu=>hu) gh ak
  exact WW u (key u Z s a R Q h hW hp hk)
 | _,.exit id,_=>fun Z s a R Q h _ _ hk=>Bui (hk _ s a R (.inl ⟨some id,none,rfl,by show(bif Gn (some id) (some id) then some (none,s) else none)=_;rw[UU];rfl,rfl,fun t' c x ao hg=>by
   have h':(bif Gn (some id) t' then some (none,s) else none)=some (c,x):=hg
   rw[Z2 (Ne.symm ao)] at h'
   cases h'⟩) h)
 | _,.ret,_=>fun Z s a R Q h _ _ hk=>Byb (hk _ s a R (.inl ⟨none,none,rfl,rfl,rfl,fun t' c x ao hg=>by
   have h':(bif Gn none t' then some (none,s) else none)=some (c,x):=hg
   rw[Z2 (Ne.symm ao)] at h'
   cases h'⟩) h)
 | l,.rangeFunc g qs c b,_=>fun Z s a R Q h hW hp hk=>by
  unfold RJ at hp hk
  split at hp
  ·rename_i b0 ps t d s1 hL
   rw[hL] at hk
   have hb:Code.rangeFunc g qs c b=b0:=hp _ (List.mem_cons_self ..)
   subst hb
   exact((ok.loops _ _ _ _ _ hL).2 (by rw[Nat.ble_eq];omega) _ _ _ rfl).2 Z a R Q h hW (fun p hm=>hp p (List.mem_cons_of_mem _ hm)) fun a' R' hr=>hk .normal s1 a' R' (.inr ⟨rfl,rfl,fun t c x hg=>by cases hg⟩) hr
  ·exact(hp (Al4 1000002) (List.mem_singleton.2 rfl)).elim
 | _,.scope b,_=>fun Z s a R Q h hW hp hk=>Boe (IM ok 0 b false Z s a R _ h hW hp fun e x a' R' ho hr=>by
   have:=hk e x a' R' ho hr
   rcases ho with⟨t,c,rfl,_⟩|⟨rfl,_⟩
   ·cases t<;>exact this
   ·exact this)
 |_,.label _,_=>fun Z s a R Q h _ _ hk=>Bod (hk .normal s a R (.inr ⟨rfl,rfl,fun t c x hg=>by cases hg⟩) h)
 |_,.goto _,_=>fun Z s a R Q _ _ hp _=>(hp (Al4 1000002) (List.mem_singleton.2 rfl)).elim
 |_,.refuse _,_=>fun Z s a R Q _ _ hp _=>(hp (Al4 1000002) (List.mem_singleton.2 rfl)).elim
mutual
def A.pk (ρ:Nat→Option Nat):A→A
 | .own i off=>match ρ i with
  |some j=> .own j off
  |none=> .dead
 | .ownx i base len k=>match ρ i with
  |some j=> .ownx j base len k
  |none=> .dead
 | .sq i=>match ρ i with
  |some j=> .sq j
  |none=> .dead
 | .vw i size lo n full=>match ρ i with
  |some j=> .vw j size lo n full
  |none=> .dead
 | .el i k size off=>match ρ i with
  |some j=> .el j k size off
  |none=> .dead
 | .mp i=>match ρ i with
  |some j=> .mp j
  |none=> .dead
 | .dq i=>match ρ i with
  |some j=> .dq j
  |none=> .dead
 | .iv i k=>match ρ i with
  |some j=> .iv j k
  |none=> .dead
 | .de i k size off=>match ρ i with
  |some j=> .de j k size off
  |none=> .dead
 | .ie i k m size off=>match ρ i with
  |some j=> .ie j k m size off
  |none=> .dead
 | .fn f first caps=> .fn f (pkL ρ first) (pkL ρ caps)
 | .agg xs=> .agg (pkL ρ xs)
 | .tup xs=> .tup (pkL ρ xs)
 | .ref l=> .ref (pkL ρ l)
 | .opt u b x=> .opt u b (x.pk ρ)
 | .v x=> .v x
 | .sl c l=> .sl c l
 | .nl=> .nl
 | .it q vs=> .it q vs
 | .dead=> .dead
 | .av c n l=> .av c n l
 | .rv xs=> .rv (pkL ρ xs)
 | .vr i base lo m=>match ρ i with
  |some j=> .vr j base lo m
  |none=> .dead
 | .vd i base m cap=>match ρ i with
  |some j=> .vd j base m cap
  |none=> .dead
 | .yl i=>match ρ i with
  |some j=> .yl j
  |none=> .dead
def pkL (ρ:Nat→Option Nat):List A→List A
 | []=>[]
 |x::r=>x.pk ρ::pkL ρ r
end
theorem Qd {ρ:Nat→Option Nat}:∀{l:List A} {j:Nat} {x:A},(pkL ρ l)[j]?=some x→∃y,l[j]?=some y∧x=y.pk ρ
 | [],j,x,h=>by unfold pkL at h;cases j<;>cases h
 |y::r,0,x,h=>by unfold pkL at h;cases h;exact⟨y,rfl,rfl⟩
 |y::r,j+1,x,h=>by unfold pkL at h;exact Qd (l:=r) h
theorem OH {ρ:Nat→Option Nat}:∀l:List A,(pkL ρ l).length=l.length
 | []=>by unfold pkL;rfl
 |y::r=>by unfold pkL;rw[List.length_cons,List.length_cons,OH r]
theorem Bjg {ρ:Nat→Option Nat} {x:A} (h:Oq (x.pk ρ)=false):Oq x=false:=by
 cases x<;>first|rfl|(unfold A.pk at h;exact h)
theorem A2x (ρ:Nat→Option Nat) (c:TC) (d:U c):∀x∈enc c d,x.pk ρ=x:=fun x hx=>by
 have:=Uk c d x hx
 cases x<;>first|(unfold A.pk;rfl)|exact this.elim
def Pk (ρ:Nat→Option Nat) (N:Nm) (nx:Nat) (N':Nm) (nx':Nat):Prop:=∀i j,i <nx→ρ i=some j→j <nx'∧N'.b j=N.b i∧N'.q j=N.q i
section
variable {F:Nat→Prop} {N N':Nm} {nx nx':Nat} {R:World} {ρ:Nat→Option Nat}
theorem Hv.pk (st:Pk ρ N nx N' nx') {x:A} {y:Value} (h:Hv F N nx R x y):Hv F N' nx' R (x.pk ρ) y:=by
 induction h with
 |v x=>unfold A.pk;exact .v x
 | @sl c l a cap ad h1 h2 h3 h4 ih=>
  unfold A.pk
  refine .sl ad h1 h2 h3 (fun i d j x y hd hx hy=>?_)
  have:=ih i d j x y hd hx hy
  rwa[A2x ρ c d x (List.mem_of_getElem? hx)] at this
 | @ref l ad h1 h2 h3 ih=>
  unfold A.pk
  refine .ref ad h1 (fun j x hx=>?_) (fun j x y hx hy=>?_)
  ·obtain⟨z,hz,rfl⟩:=Qd hx;exact h2 j z hz
  ·obtain⟨z,hz,rfl⟩:=Qd hx;exact ih j z y hz hy
 | own h=>
  unfold A.pk
  split
  ·rename_i j hj
   obtain⟨h1,h2,_⟩:=st _ _ h hj
   rw[←h2];exact .own h1
  ·exact .dead _
 | ownx h=>
  unfold A.pk
  split
  ·rename_i j hj
   obtain⟨h1,h2,_⟩:=st _ _ h hj
   rw[←h2];exact .ownx h1
  ·exact .dead _
 | sq h=>
  unfold A.pk
  split
  ·rename_i j hj
   obtain⟨h1,_,h2⟩:=st _ _ h hj
   rw[←h2];exact .sq h1
  ·exact .dead _
 | vw h h1 h2 h3=>
  unfold A.pk
  split
  ·rename_i j hj
   obtain⟨k1,_,k2⟩:=st _ _ h hj
   exact .vw k1 h1 h2 (fun hn=>by rw[k2];exact h3 hn)
  ·exact .dead _
 | el h=>
  unfold A.pk
  split
  ·rename_i j hj
   obtain⟨h1,_,h2⟩:=st _ _ h hj
   rw[←h2];exact .el h1
  ·exact .dead _
 | dq h=>
  unfold A.pk
  split
  ·rename_i j hj
   obtain⟨h1,_,h2⟩:=st _ _ h hj
   rw[←h2];exact .dq h1
  ·exact .dead _
 | iv h=>
  unfold A.pk
  split
  ·rename_i j hj
   obtain⟨h1,_,h2⟩:=st _ _ h hj
   rw[←h2];exact .iv h1
  ·exact .dead _
 | de h=>
  unfold A.pk
  split
  ·rename_i j hj
   obtain⟨h1,_,h2⟩:=st _ _ h hj
   rw[←h2];exact .de h1
  ·exact .dead _
 | ie h=>
  unfold A.pk
  split
  ·rename_i j hj
   obtain⟨h1,_,h2⟩:=st _ _ h hj
   rw[←h2];exact .ie h1
  ·exact .dead _
 | mp h=>
  unfold A.pk
  split
  ·rename_i j hj
   obtain⟨h1,h2,_⟩:=st _ _ h hj
   rw[←h2];exact .mp h1
  ·exact .dead _
 |nl a=>unfold A.pk;exact .nl a
 |it q vs y h=>unfold A.pk;exact .it q vs y h
 |fn vs us h1 _ h3 _ jh ji=>
  unfold A.pk
  exact .fn vs us (by rw[OH];exact h1) (fun j x v hx hv=>by obtain⟨z,hz,rfl⟩:=Qd hx;exact jh j z v hz hv) (by rw[OH];exact h3) (fun j x v hx hv=>by obtain⟨z,hz,rfl⟩:=Qd hx;exact ji j z v hz hv)
 |agg vs h1 _ ih=>unfold A.pk;exact .agg vs (by rw[OH];exact h1) (fun j x v hx hv=>by obtain⟨z,hz,rfl⟩:=Qd hx;exact ih j z v hz hv)
 |tup vs h1 _ ih=>unfold A.pk;exact .tup vs (by rw[OH];exact h1) (fun j x v hx hv=>by obtain⟨z,hz,rfl⟩:=Qd hx;exact ih j z v hz hv)
 |dead y=>unfold A.pk;exact .dead y
 |av h1 h2=>unfold A.pk;exact .av h1 h2
 |rv vs h1 _ h3 ih=>
  unfold A.pk
  refine .rv vs (by rw[OH];exact h1) (fun j x v hx hv=>by obtain⟨z,hz,rfl⟩:=Qd hx;exact ih j z v hz hv) (fun j x v hx hv hi=>?_)
  obtain⟨z,hz,rfl⟩:=Qd hx
  exact h3 j z v hz hv (Bjg hi)
 | vd h=>
  unfold A.pk
  split
  ·rename_i j hj
   obtain⟨h1,h2,_⟩:=st _ _ h hj
   rw[←h2];exact .vd h1
  ·exact .dead _
 | yl h=>
  unfold A.pk
  split
  ·rename_i j hj
   obtain⟨h1,h2,_⟩:=st _ _ h hj
   rw[←h2];exact .yl h1
  ·exact .dead _
 | vr ad h k1=>
  unfold A.pk
  split
  ·rename_i j hj
   obtain⟨h1,h2,_⟩:=st _ _ h hj
   exact .vr ad h1 fun hm=>by rw[h2];exact k1 hm
  ·exact .dead _
theorem HW.pk (st:Pk ρ N nx N' nx'):∀{xs:List A} {us:List Value},HW F N nx R xs us→HW F N' nx' R (pkL ρ xs) us
 | [],_,h=>by unfold pkL;exact h
 |x::r,_,⟨v,t,h1,h2,h3,h4⟩=>by
  unfold pkL
  exact⟨v,t,h1,h2.pk st,fun hi=>h3 (Bjg hi),HW.pk st h4⟩
theorem HL.pk (st:Pk ρ N nx N' nx'):∀{xs:List A} {vs:List Value},HL F N nx R xs vs→HL F N' nx' R (pkL ρ xs) vs
 | [],_,h=>by unfold pkL;exact h
 |x::r,_,⟨v,vs,h1,h2,h3⟩=>by
  unfold pkL
  exact⟨v,vs,h1,h2.pk st,HL.pk st h3⟩
end
def FY.pk (ρ:Nat→Option Nat):FY→FY
 | .lst cs=> .lst (cs.map (pkL ρ))
 | .ty c l=> .ty c l
def Ob.pk (ρ:Nat→Option Nat):Ob→Ob
 | .box e cs=> .box e (pkL ρ cs)
 | .arr e size els=> .arr e size (els.pk ρ)
 | .map k v l=> .map k v l
 | .sit s pos=> .sit s pos
 | .deep e c l=> .deep e c l
 | .rcd e xs=> .rcd e (pkL ρ xs)
 | .abs m c l=> .abs m c l
 | .lp f b us cs k=> .lp f b us (pkL ρ cs) k
theorem A3x (ρ:Nat→Option Nat) (c:TC) (d:U c):pkL ρ (enc c d)=enc c d:=by
 have:∀l:List A,(∀x∈l,x.pk ρ=x)→pkL ρ l=l:=fun l=>by
  induction l with
  |nil=>intro _;unfold pkL;rfl
  |cons x r ih=>intro h;unfold pkL;rw[h x (List.mem_cons_self ..),ih fun y hy=>h y (List.mem_cons_of_mem _ hy)]
 exact this _ (A2x ρ c d)
theorem Bx2 (ρ:Nat→Option Nat) (c:TC) (d:U c):(AA c d).pk ρ=AA c d:=by
 unfold AA
 cases c.isAgg with
 |true=>
  show(T7 (enc c d)).pk ρ=T7 (enc c d)
  unfold T7
  split
  ·unfold A.pk;rfl
  ·unfold A.pk;rw[A3x]
 |false=>
  have hp:=A2x ρ c d
  simp only[cond_false]
  generalize enc c d=l at hp⊢
  cases l with
  |nil=>unfold A.pk;rfl
  |cons x r=>exact hp x (List.mem_cons_self ..)
section
variable {F:Nat→Prop} {N N':Nm} {nx nx':Nat} {o o':AE} {R:World} {ρ:Nat→Option Nat} {i j:Nat} {ob:Ob}
theorem Zo.pk (st:Pk ρ N nx N' nx') (hi:i <nx) (hj:ρ i=some j) (h:Zo F N nx R i ob):Zo F N' nx' R j (ob.pk ρ):=by
 obtain⟨_,sb,sq⟩:=st i j hi hj
 cases ob with
 |box e cs=>
  obtain⟨vs,h1,h2⟩:=h
  exact⟨vs,h1.pk st,by rw[sb];exact h2⟩
 | arr e size els=>
  obtain⟨zs,h1,h2⟩:=h
  cases els with
  |lst cs=>
   have hn:(FY.pk ρ (.lst cs)).n=cs.length:=by simp[FY.pk,FY.n]
   refine⟨zs,by rw[sq,hn];exact h1,fun k hk=>?_⟩
   rw[hn] at hk
   have:=(h2 k hk).pk st
   show HL F N' nx' R (K7 (cs.map (pkL ρ)) k) _
   rw[Fc,List.getD_eq_getElem?_getD,List.getElem?_map]
   have h3:(FY.lst cs).nth k=cs.getD k []:=Fc cs k
   rw[h3,List.getD_eq_getElem?_getD] at this
   have ak:cs[k]?=some cs[k]:=List.getElem?_eq_getElem hk
   rw[ak] at this⊢
   exact this
  |ty c l=>
   refine⟨zs,by rw[sq];exact h1,fun k hk=>?_⟩
   have:=(h2 k hk).pk st
   have e:pkL ρ ((FY.ty c l).nth k)=(FY.ty c l).nth k:=A3x ρ c _
   rw[e] at this
   exact this
 |map k v l=>
  obtain⟨es,cl,h1,h2,h3⟩:=h
  refine⟨es,cl,by rw[sb];exact h1,h2,fun j p e hp he=>⟨(h3 j p e hp he).1,?_⟩⟩
  have:=(h3 j p e hp he).2.pk st
  rwa[Bx2] at this
 |sit s pos=>
  show R.heap[N'.b j]?=_
  rw[sb]
  exact h
 | deep e c l=>
  obtain⟨col,c',zs,h1,h2,h3,h4,h5⟩:=h
  have df:=(st i j hi hj).1
  refine⟨col,c',zs,h1,by rw[sq];exact h2,fun k d hd=>?_,fun k d hd=>?_,by rw[sq];exact h5⟩
  ·have go:∀(cs:List A) (vs:List Value),(∀x∈cs,x.pk ρ=x)→HL F N nx R (Xr i k cs) vs→HL F N' nx' R (Xr j k cs) vs:=fun cs=>by
    induction cs with
    |nil=>intro vs _ hh;rw[hh.inv0];exact HL.nil
    | cons x r ih=>
     intro vs hc hh
     have hx:=hc x (List.mem_cons_self ..)
     have hr:=fun y hy=>hc y (List.mem_cons_of_mem _ hy)
     cases x
     case sl c2 l2=>
      obtain⟨w,ws,rfl,w1,w2⟩:=hh.inv
      rw[w1.iv_inv.2,←sq]
      exact HL.cons (.iv df) (ih ws hr w2)
     all_goals
      obtain⟨w,ws,rfl,w1,w2⟩:=hh.inv
      have w3:=w1.pk st
      rw[hx] at w3
      exact HL.cons w3 (ih ws hr w2)
   exact go _ _ (A2x ρ c d) (h3 k d hd)
  ·obtain⟨l',e',us,k1,k2,k3⟩:=h4 k d hd
   refine⟨l',e',us,k1,by rw[sq];exact k2,fun m hm=>?_⟩
   have:=(k3 m hm).pk st
   rwa[A3x] at this
 |rcd e xs=>
  obtain⟨us,h1,h2⟩:=h
  exact⟨us,h1.pk st,by rw[sb];exact h2⟩
 |abs m c l=>
  obtain⟨hh,h1,h2⟩:=h
  exact⟨hh,by rw[sq];exact h1,by rw[sq];exact h2⟩
 |lp f b us cs k=>
  obtain⟨vs,h1,h2⟩:=h
  exact⟨vs,h1.pk st,by rw[sb];exact h2⟩
theorem Agc (st:Pk ρ N nx N' nx') (hi:i <nx) (hj:ρ i=some j) {g:Nat}:foot N' j (ob.pk ρ) g↔foot N i ob g:=by
 obtain⟨_,sb,sq⟩:=st i j hi hj
 cases ob<;>simp only[foot,Ob.pk,sb,sq]
theorem Bp.pk (h:Bp F N nx o R) (st:Pk ρ N nx N' nx') (ho:∀j aj,Ai j o'=some aj→∃i ob,ρ i=some j∧Ai i o=some ob∧aj=ob.pk ρ):Bp F N' nx' o' R∧∀g,Gb N' o' g→Gb N o g:=by
 refine⟨⟨h.flt,fun j aj hj=>?_,fun j aj g hj hg=>?_,fun j k x y g hj hk hx hy=>?_,h.gl⟩,fun g ⟨j,aj,hj,hg⟩=>?_⟩
 ·obtain⟨i,ob,h1,h2,rfl⟩:=ho j aj hj
  obtain⟨h3,h4⟩:=h.ob i ob h2
  exact⟨(st i j h3 h1).1,h4.pk st h3 h1⟩
 ·obtain⟨i,ob,h1,h2,rfl⟩:=ho j aj hj
  exact h.ff i ob g h2 ((Agc st (h.ob i ob h2).1 h1).1 hg)
 ·obtain⟨i,ob,h1,h2,rfl⟩:=ho j x hj
  obtain⟨i',aj,k1,k2,rfl⟩:=ho k y hk
  have:=h.sep i i' ob aj g h2 k2 ((Agc st (h.ob i ob h2).1 h1).1 hx) ((Agc st (h.ob i' aj k2).1 k1).1 hy)
  subst this
  rw[h1] at k1
  exact Option.some.inj k1
 ·obtain⟨i,ob,h1,h2,rfl⟩:=ho j aj hj
  exact⟨i,ob,h2,(Agc st (h.ob i ob h2).1 h1).1 hg⟩
end
abbrev Jy:=List (Nat×Nat)
def fwd:Jy→Nat→Option Nat
 | [],_=>none
 |(k,j)::r,i=>bif Nat.beq k i then some j else fwd r i
def bck:Jy→Nat→Option Nat
 | [],_=>none
 |(k,j)::r,i=>bif Nat.beq j i then some k else bck r i
def Y0 (nb:Nat) (L:Jy) (i:Nat):Option Nat:=bif Nat.blt i nb then some i else fwd L i
def As3 (nb:Nat) (L:Jy) (j:Nat):Nat:=bif Nat.blt j nb then j else match bck L j with
 |some k=>k
 |none=>0
def ST (nb nx':Nat):Jy→Bool
 | []=>true
 |(k,j)::r=>Nat.ble nb k&&(Nat.ble nb j&&(Nat.blt j nx'&&(isNone (fwd r k)&&(isNone (bck r j)&&ST nb nx' r))))
theorem Adl {o:Option Nat}:isNone o=true↔o=none:=by cases o<;>simp[isNone]
theorem Bi2 {nb nx':Nat}:∀{L:Jy} {i j:Nat},ST nb nx' L=true→fwd L i=some j→bck L j=some i∧nb≤i∧nb≤j∧j <nx'
 | [],i,j,_,h=>by cases h
 | (k,m)::r,i,j,h0,h=>by
  unfold ST at h0
  simp only[Bool.and_eq_true] at h0
  obtain⟨a1,a2,a3,a4,a5,a6⟩:=h0
  unfold fwd at h
  cases hb:Nat.beq k i with
  |true=>
   rw[hb] at h
   cases h
   obtain rfl:=Nat.eq_of_beq_eq_true hb
   refine⟨?_,Nat.le_of_ble_eq_true a1,Nat.le_of_ble_eq_true a2,Nat.le_of_ble_eq_true a3⟩
   unfold bck
   rw[QD]
   rfl
  | false=>
   rw[hb] at h
   obtain⟨h1,h2⟩:=Bi2 a6 h
   refine⟨?_,h2⟩
   unfold bck
   cases hm:Nat.beq m j with
   |true=>
    obtain rfl:=Nat.eq_of_beq_eq_true hm
    rw[Adl.1 a5] at h1
    cases h1
   |false=>exact h1
def nm2 (N:Nm) (nb:Nat) (L:Jy):Nm:=⟨fun j=>N.b (As3 nb L j),fun j=>N.q (As3 nb L j)⟩
theorem Bv7 {nb nx':Nat} {L:Jy} (h0:ST nb nx' L=true) {i j:Nat} (h:Y0 nb L i=some j):As3 nb L j=i∧(i <nb∧j=i∨nb≤i∧nb≤j∧j <nx'):=by
 unfold Y0 at h
 cases hb:Nat.blt i nb with
 |true=>
  rw[hb] at h
  cases h
  refine⟨?_,.inl ⟨Nat.le_of_ble_eq_true hb,rfl⟩⟩
  unfold As3
  rw[hb]
  rfl
 | false=>
  rw[hb] at h
  obtain⟨h1,h2,h3,h4⟩:=Bi2 h0 h
  refine⟨?_,.inr ⟨h2,h3,h4⟩⟩
  unfold As3
  have:Nat.blt j nb=false:=by
   cases hj:Nat.blt j nb with
   |false=>rfl
   |true=>exact absurd (Nat.le_of_ble_eq_true hj) (by omega)
  rw[this,h1]
  rfl
theorem pk2 {N:Nm} {nb n nx':Nat} {L:Jy} (h0:ST nb nx' L=true) (_hnb:nb≤nx'):Pk (Y0 nb L) N n (nm2 N nb L) nx':=fun i j _ hj=>by
 obtain⟨h1,h2⟩:=Bv7 h0 hj
 refine⟨?_,by show N.b (As3 nb L j)=_;rw[h1],by show N.q (As3 nb L j)=_;rw[h1]⟩
 rcases h2 with⟨h2,rfl⟩|⟨_,_,h2⟩
 ·omega
 ·exact h2
def A9t (nb:Nat) (L:Jy) (o:AE):Jy→AE
 | []=>[]
 |(k,j)::r=>(j,match Ai k o with
  |some ob=>some (ob.pk (Y0 nb L))
  |none=>none)::A9t nb L o r
def Amt (nb:Nat) (L:Jy) (o:AE):List Nat→AE
 | []=>[]
 |k::r=>bif Nat.blt k nb then(k,match Ai k o with
  |some ob=>some (ob.pk (Y0 nb L))
  |none=>none)::Amt nb L o r else Amt nb L o r
theorem Aml {nb:Nat} {L:Jy} {o:AE} {j:Nat} {aj:Ob}:∀{r:Jy},Ai j (A9t nb L o r)=some aj→∃k ob,(k,j)∈r∧Ai k o=some ob∧aj=ob.pk (Y0 nb L)
 | [],h=>by cases h
 | (k,m)::r,h=>by
  unfold A9t at h
  have h':(bif Nat.beq m j then(match Ai k o with|some ob=>some (ob.pk (Y0 nb L))|none=>none) else Ai j (A9t nb L o r))=some aj:=h
  cases hb:Nat.beq m j with
  |true=>
   rw[hb] at h'
   obtain rfl:=Nat.eq_of_beq_eq_true hb
   simp only[cond_true] at h'
   split at h'<;>first|(cases h';done)|skip
   rename_i ob gb
   cases h'
   exact⟨k,ob,List.mem_cons_self ..,gb,rfl⟩
  |false=>
   rw[hb] at h'
   obtain⟨k',ob,h1,h2⟩:=Aml h'
   exact⟨k',ob,List.mem_cons_of_mem _ h1,h2⟩
theorem XJ {nb:Nat} {L:Jy} {o:AE} {j:Nat} {aj:Ob}:∀{r:List Nat},Ai j (Amt nb L o r)=some aj→j <nb∧∃ob,Ai j o=some ob∧aj=ob.pk (Y0 nb L)
 | [],h=>by cases h
 | k::r,h=>by
  unfold Amt at h
  cases hk:Nat.blt k nb with
  |false=>rw[hk] at h;exact XJ h
  | true=>
   rw[hk] at h
   have h':(bif Nat.beq k j then(match Ai k o with|some ob=>some (ob.pk (Y0 nb L))|none=>none) else Ai j (Amt nb L o r))=some aj:=h
   cases hb:Nat.beq k j with
   |true=>
    rw[hb] at h'
    obtain rfl:=Nat.eq_of_beq_eq_true hb
    simp only[cond_true] at h'
    split at h'<;>first|(cases h';done)|skip
    rename_i ob gb
    cases h'
    exact⟨Nat.le_of_ble_eq_true hk,ob,gb,rfl⟩
   |false=>rw[hb] at h';exact XJ h'
theorem XE {nb:Nat} {L:Jy} {o:AE} {j:Nat} (hj:j <nb):∀{r:List Nat},j∈r→j∈MG (Amt nb L o r)
 | [],h=>by cases h
 | k::r,h=>by
  unfold Amt
  rcases List.mem_cons.1 h with rfl|h
  ·rw[show Nat.blt j nb=true from Nat.ble_eq_true_of_le hj]
   exact List.mem_cons_self ..
  ·cases Nat.blt k nb with
   |true=>exact List.mem_cons_of_mem _ (XE hj h)
   |false=>exact XE hj h
theorem Ld {i:Nat} {ob:Ob} {A B:AE} (h:Ai i (A++B)=some ob):(i∈MG A∧Ai i A=some ob)∨(i∉MG A∧Ai i B=some ob):=by
 by_cases hk:i∈MG A
 ·rw[XH hk] at h;exact .inl ⟨hk,h⟩
 ·rw[Lc hk] at h;exact .inr ⟨hk,h⟩
theorem Bw8 {nb nx':Nat}:∀{L:Jy} {k j:Nat},ST nb nx' L=true→(k,j)∈L→Y0 nb L k=some j
 | [],k,j,_,h=>by cases h
 | (a,b)::r,k,j,h0,h=>by
  have pn:=h0
  unfold ST at h0
  simp only[Bool.and_eq_true] at h0
  obtain⟨a1,a2,a3,a4,a5,a6⟩:=h0
  have dz:∀{L:Jy} {k j:Nat},ST nb nx' L=true→(k,j)∈L→nb≤k:=fun {L}=>by
   induction L with
   |nil=>intro k j _ h;cases h
   |cons p r ih=>
    intro k j h0 h
    obtain⟨x,y⟩:=p
    unfold ST at h0
    simp only[Bool.and_eq_true] at h0
    rcases List.mem_cons.1 h with e|h
    ·cases e;exact Nat.le_of_ble_eq_true h0.1
    ·exact ih h0.2.2.2.2.2 h
  have hk:Nat.blt k nb=false:=by
   cases hb:Nat.blt k nb with
   |false=>rfl
   |true=>exact absurd (dz pn h) (by have:=Nat.le_of_ble_eq_true hb;omega)
  have ih:∀{L:Jy} {k j:Nat},ST nb nx' L=true→(k,j)∈L→fwd L k=some j:=fun {L}=>by
   induction L with
   |nil=>intro k j _ h;cases h
   | cons p r ih=>
    intro k j h0 h
    obtain⟨x,y⟩:=p
    unfold ST at h0
    simp only[Bool.and_eq_true] at h0
    obtain⟨_,_,_,b4,_,b6⟩:=h0
    unfold fwd
    rcases List.mem_cons.1 h with e|h
    ·cases e;rw[QD];rfl
    ·have h1:=ih b6 h
     cases hb:Nat.beq x k with
     |true=>
      obtain rfl:=Nat.eq_of_beq_eq_true hb
      rw[Adl.1 b4] at h1
      cases h1
     |false=>exact h1
  unfold Y0
  rw[hk]
  exact ih pn h
section
variable {F:Nat→Prop} {N:Nm} {nx:Nat} {o:AE} {R:World} {ρ:Nat→Option Nat}
theorem Aj0 {xs:List A} (h:∀(j:Nat) (x:A),xs[j]?=some x→x.pk ρ=x):pkL ρ xs=xs:=by
 induction xs with
 |nil=>unfold pkL;rfl
 |cons x r ih=>unfold pkL;rw[h 0 x rfl,ih fun j y hy=>h (j+1) y hy]
theorem Hv.pk_id (hρ:∀k,k <nx→ρ k=some k) {x:A} {y:Value} (h:Hv F N nx R x y):x.pk ρ=x:=by
 induction h with
 |v x=>unfold A.pk;rfl
 |sl=>unfold A.pk;rfl
 | @ref l ad h1 h2 h3 ih=>
  unfold A.pk
  rw[Aj0 fun j x hx=>by obtain⟨y,hy⟩:=h2 j x hx;exact ih j x y hx hy]
 |own h=>unfold A.pk;rw[hρ _ h]
 |ownx h=>unfold A.pk;rw[hρ _ h]
 |sq h=>unfold A.pk;rw[hρ _ h]
 |vw h=>unfold A.pk;rw[hρ _ h]
 |el h=>unfold A.pk;rw[hρ _ h]
 |dq h=>unfold A.pk;rw[hρ _ h]
 |iv h=>unfold A.pk;rw[hρ _ h]
 |de h=>unfold A.pk;rw[hρ _ h]
 |ie h=>unfold A.pk;rw[hρ _ h]
 |mp h=>unfold A.pk;rw[hρ _ h]
 |nl a=>unfold A.pk;rfl
 |it q vs y h=>unfold A.pk;rfl
 | @fn f first caps vs us h1 _ h3 _ jh ji=>
  unfold A.pk
  have e1:pkL ρ first=first:=Aj0 fun j x hx=>by
   have hj:j <vs.length:=by rw[h1];exact(List.getElem?_eq_some_iff.1 hx).1
   exact jh j x _ hx (List.getElem?_eq_getElem hj)
  have e2:pkL ρ caps=caps:=Aj0 fun j x hx=>by
   have hj:j <us.length:=by rw[h3];exact(List.getElem?_eq_some_iff.1 hx).1
   exact ji j x _ hx (List.getElem?_eq_getElem hj)
  rw[e1,e2]
 | @agg xs vs h1 _ ih=>
  unfold A.pk
  rw[Aj0 fun j x hx=>by
   have hj:j <vs.length:=by rw[h1];exact(List.getElem?_eq_some_iff.1 hx).1
   exact ih j x _ hx (List.getElem?_eq_getElem hj)]
 | @tup xs vs h1 _ ih=>
  unfold A.pk
  rw[Aj0 fun j x hx=>by
   have hj:j <vs.length:=by rw[h1];exact(List.getElem?_eq_some_iff.1 hx).1
   exact ih j x _ hx (List.getElem?_eq_getElem hj)]
 |dead y=>unfold A.pk;rfl
 |av h1 h2=>unfold A.pk;rfl
 | @rv xs vs h1 _ _ ih=>
  unfold A.pk
  rw[Aj0 fun j x hx=>by
   have hj:j <vs.length:=by rw[h1];exact(List.getElem?_eq_some_iff.1 hx).1
   exact ih j x _ hx (List.getElem?_eq_getElem hj)]
 |vr ad h _=>unfold A.pk;rw[hρ _ h]
 |vd h=>unfold A.pk;rw[hρ _ h]
 |yl h=>unfold A.pk;rw[hρ _ h]
theorem HW.pk_id (hρ:∀k,k <nx→ρ k=some k):∀{xs:List A} {us:List Value},HW F N nx R xs us→pkL ρ xs=xs
 | [],_,_=>by unfold pkL;rfl
 |x::r,_,⟨v,t,_,h2,_,h3⟩=>by unfold pkL;rw[h2.pk_id hρ,HW.pk_id hρ h3]
theorem HL.pk_id (hρ:∀k,k <nx→ρ k=some k):∀{xs:List A} {vs:List Value},HL F N nx R xs vs→pkL ρ xs=xs
 | [],_,_=>by unfold pkL;rfl
 |x::r,_,⟨v,vs,_,h2,h3⟩=>by unfold pkL;rw[h2.pk_id hρ,HL.pk_id hρ h3]
theorem Bp.pk_id (h:Bp F N nx o R) (hρ:∀k,k <nx→ρ k=some k) {i:Nat} {ob:Ob} (hi:Ai i o=some ob):ob.pk ρ=ob:=by
 obtain⟨_,h2⟩:=h.ob i ob hi
 cases ob with
 |box e cs=>
  obtain⟨vs,h1,_⟩:=h2
  show Ob.box e (pkL ρ cs)=_
  rw[h1.pk_id hρ]
 |deep e c l=>rfl
 | arr e size els=>
  cases els with
  |ty c l=>rfl
  | lst cs=>
   obtain⟨zs,_,h3⟩:=h2
   show Ob.arr e size (.lst (cs.map (pkL ρ)))=_
   congr 2
   apply List.ext_getElem?
   intro k
   rw[List.getElem?_map]
   cases hk:cs[k]? with
   |none=>rfl
   | some c=>
    have ak:k <cs.length:=(List.getElem?_eq_some_iff.1 hk).1
    have:=(h3 k ak).pk_id hρ
    have e:(FY.lst cs).nth k=c:=by
     show K7 cs k=c
     rw[Fc,List.getD_eq_getElem?_getD,hk]
     rfl
    rw[e] at this
    exact congrArg some this
 |map k v l=>rfl
 |sit s pos=>rfl
 |rcd e xs=>
  obtain⟨us,h1,_⟩:=h2
  show Ob.rcd e (pkL ρ xs)=_
  rw[h1.pk_id hρ]
 |abs m c l=>rfl
 |lp f b us cs k=>
  obtain⟨vs,h1,_⟩:=h2
  show Ob.lp f b us (pkL ρ cs) k=_
  rw[h1.pk_id hρ]
end
def PI (nb:Nat) (L:Jy) (o ob:AE):AE:=A9t nb L o L++(Amt nb L o (Ajs o ob.length)++ob)
theorem Bmz {F:Nat→Prop} {N:Nm} {nb n nx':Nat} {o ob d:AE} {R:World} {L:Jy} (h:Bp F N n o R) (h0:ST nb nx' L=true) (iz:nb≤nx') (hd:o=d++ob) {F0:Nat→Prop} {N0:Nm} {R0:World} (hb:Bp F0 N0 nb ob R0):
  Bp F (nm2 N nb L) nx' (PI nb L o ob) R∧∀g,Gb (nm2 N nb L) (PI nb L o ob) g→Gb N o g:=by
 have small:∀k,k <nb→Y0 nb L k=some k:=fun k hk=>by unfold Y0;rw[show Nat.blt k nb=true from Nat.ble_eq_true_of_le hk];rfl
 refine h.pk (pk2 h0 iz) fun j aj hj=>?_
 unfold PI at hj
 rcases Ld hj with⟨_,h1⟩|⟨_,h1⟩
 ·obtain⟨k,x,h2,h3,h4⟩:=Aml h1
  exact⟨k,x,Bw8 h0 h2,h3,h4⟩
 ·rcases Ld h1 with⟨_,h2⟩|⟨h2,h3⟩
  ·obtain⟨h3,x,h4,h5⟩:=XJ h2
   exact⟨j,x,small j h3,h4,h5⟩
  ·have h4:=(hb.ob j aj h3).1
   refine⟨j,aj,small j h4,?_,(hb.pk_id small h3).symm⟩
   subst hd
   rw[Ado fun hm=>h2 (XE h4 hm)]
   exact h3
end Go.Proofs.YtifkbgkbajncjaaGreatDoor
namespace Go.Proofs.YtifkbgkbajncjaaGreatDoor
open Go.RowKit
def B2p (E:Env) (s:St):ResultVar→R2
 | .tmp t=>match s.ev [] (.tmp t) with
  |some x=>some (x,[])
  |none=>none
 | .cell a t=>Amk E s [] t (.tmp a)
def Bs4 (E:Env) (s:St):List ResultVar→Option (List A×List Prop)
 | []=>some ([],[])
 | r::rs=>match B2p E s r with
  |some (v,ps)=>match Bs4 E s rs with
   |some (vs,qs)=>some (v::vs,ps++qs)
   |none=>none
  |none=>none
def Bcb:List A→A
 | [x]=>x
 |l=>match A5d l with
  |some vs=> .v (.tuple vs.toArray)
  |none=> .tup l
def Bt4:List Value→Value
 | [v]=>v
 |l=> .tuple l.toArray
def B2o (tmps:Array Value):ResultVar→Sem Value
 | .tmp t=>pure (tmps.getD t undef)
 | .cell a t=>do loadVar t (←asAddr (tmps.getD a undef))
theorem Bgy (fn:Func) (tmps:Array Value):results fn tmps=(do let vs ←fn.results.mapM (B2o tmps);pure (if h:vs.size=1 then vs[0] else .tuple vs)):=rfl
section
variable {E:Env} {Z:FG} {F:Nat→Prop} {N:Nm} {s:St} {a:Act} {R:World}
theorem Bxz {nx:Nat} {l:List A} {vs:List Value} (h:HL F N nx R l vs):Hv F N nx R (Bcb l) (Bt4 vs):=by
 match l,h with
 | [],h=>
  rw[h.inv0]
  exact .v _
 | [x],h=>
  obtain⟨v,us,rfl,h2,h3⟩:=h.inv
  rw[h3.inv0]
  exact h2
 | x::y::r,h=>
  obtain⟨v,us,rfl,h2,h3⟩:=h.inv
  obtain⟨w,ws,rfl,h4,h5⟩:=h3.inv
  show Hv F N nx R (match A5d (x::y::r) with|some vs=> .v (.tuple vs.toArray)|none=> .tup (x::y::r)) (.tuple (v::w::ws).toArray)
  split
  ·rename_i us hu
   rw[A5e hu h]
   exact .v _
  ·exact Hv.of_tup h
theorem Bxc (h:Rel Z F N s a R) {r:ResultVar} {x:A} {ps:List Prop} (he:B2p E s r=some (x,ps)) (hp:∀p∈ps,p):∃v,Hv F N s.nx R x v∧(B2o a.tmps r).run E.P R=.ok v R:=by
 cases r with
 |tmp t=>
  unfold B2p at he
  simp only at he
  split at he<;>try (cases he;done)
  rename_i z hz
  cases he
  exact⟨_,(BL h (FI _) hz).2,rfl⟩
 |cell c t=>
  obtain⟨v,h1,h2⟩:=Bjp h (FI _) he hp
  refine⟨v,h1,?_⟩
  have h3:(Instr.loadAt t (a.tmps.getD c undef)).run E.P R=.ok v R:=h2 R (Below.refl _ _)
  show(do loadVar t (←asAddr (a.tmps.getD c undef)):Sem Value).run E.P R=_
  unfold Instr.loadAt at h3
  generalize a.tmps.getD c undef=p at*
  cases p<;>first|(simp[Instr.sureAddr] at h3;done)|skip
  rename_i ad
  cases ad with
  |none=>simp[Instr.sureAddr] at h3
  |some ad=>simpa[Instr.sureAddr,asAddr] using h3
theorem Bkw (h:Rel Z F N s a R):∀{l:List ResultVar} {xs:List A} {ps:List Prop},Bs4 E s l=some (xs,ps)→(∀p∈ps,p)→∃vs,HL F N s.nx R xs vs∧(l.mapM (B2o a.tmps)).run E.P R=.ok vs R
 | [],xs,ps,he,_=>by cases he;exact⟨[],HL.nil,rfl⟩
 |r::rs,xs,ps,he,hp=>by
  unfold Bs4 at he
  split at he<;>try (cases he;done)
  rename_i x du h1
  split at he<;>try (cases he;done)
  rename_i xs1 qs h2
  cases he
  obtain⟨v,g1,g2⟩:=Bxc h h1 fun p hm=>hp p (List.mem_append.2 (.inl hm))
  obtain⟨vs,g3,g4⟩:=Bkw h h2 fun p hm=>hp p (List.mem_append.2 (.inr hm))
  refine⟨v::vs,HL.cons g1 g3,?_⟩
  rw[List.mapM_cons]
  simp only[Sem.run_bind,g2,Result.andThen_ok,g4,Sem.run_pure]
theorem Bgz (h:Rel Z F N s a R) {fn:Func} {xs:List A} {ps:List Prop} (he:Bs4 E s fn.results.toList=some (xs,ps)) (hp:∀p∈ps,p):∃v,Hv F N s.nx R (Bcb xs) v∧(results fn a.tmps).run E.P R=.ok v R:=by
 obtain⟨vs,h1,h2⟩:=Bkw h he hp
 refine⟨Bt4 vs,Bxz h1,?_⟩
 rw[Bgy,Array.mapM_eq_mapM_toList]
 simp only[Sem.run_bind,Sem.run_map,h2,Result.andThen_ok,Sem.run_pure]
 congr 1
 match vs with
 | []=>simp[Bt4]
 | [x]=>simp[Bt4]
 |x::y::r=>simp[Bt4]
end
def US (nb:Nat) (o:AE):Nat→A→List Nat
 |0,_=>[]
 | d+1,x=>match x with
  | .sq i| .vw i _ _ _ _| .el i _ _ _| .own i _| .ownx i _ _ _| .mp i| .dq i| .iv i _| .de i _ _ _| .ie i _ _ _ _| .vr i _ _ _| .vd i _ _ _| .yl i=>bif Nat.blt i nb then[] else i::(match Ai i o with
   |some (.box _ cs)=>cs.flatMap (US nb o d)
   |some (.rcd _ cs)=>cs.flatMap (US nb o d)
   |some (.arr _ _ (.lst cs))=>cs.flatMap fun l=>l.flatMap (US nb o d)
   |_=>[])
  | .agg xs=>xs.flatMap (US nb o d)
  | .rv xs=>xs.flatMap (US nb o d)
  | .tup xs=>xs.flatMap (US nb o d)
  | .fn _ xs ys=>xs.flatMap (US nb o d)++ys.flatMap (US nb o d)
  |_=>[]
def Bs0 (nb:Nat) (o:AE):List Nat→List Nat
 | []=>[]
 |k::r=>(bif Nat.blt k nb then(match Ai k o with
  |some (.box _ cs)=>cs.flatMap (US nb o 4)
  |some (.rcd _ cs)=>cs.flatMap (US nb o 4)
  |some (.arr _ _ (.lst cs))=>cs.flatMap fun l=>l.flatMap (US nb o 4)
  |_=>[]) else[])++Bs0 nb o r
def Bjw:List Nat→Nat→Jy→Jy
 | [],_,L=>L
 |k::r,j,L=>match fwd L k with
  |some _=>Bjw r j L
  |none=>Bjw r (j+1) (L++[(k,j)])
def Arn:BD→Bool
 | []=>true
 |(none,_,_)::r=>Arn r
 |_=>false
theorem VG:∀{o:BD} {i:Nat},Arn o=true→A7 (some i) o=none
 | [],_,_=>rfl
 |(none,_,_)::r,i,h=>VG (o:=r) h
 |(some _,_,_)::_,_,h=>by cases h
def B1l (W:List Nat) (s0:St) (r:Res):Option St:=bif Arn r.outs then(match A7 none r.outs,r.nrm with
 |some (_,s),none=>some s
 |none,some s=>some s
 |some (c,s),some s'=>some (JS (BJ c) W s0 s s')
 |none,none=>none) else none
def B1u (k:Nat) (s0 s:St) (x:A) (ps:List Prop) (L:Jy):Option Arr:=
 bif ST s0.nx (s0.nx+L.length) L then some (k,x.pk (Y0 s0.nx L),s0.nx+L.length,PI s0.nx L s.o s0.o,ps) else none
def B1v (E:Env) (fn:Func) (k:Nat) (W:List Nat) (s0:St) (r:Res):Option Arr:=match B1l W s0 r with
 |some s=>match Bs4 E s fn.results.toList with
  |some (l,ps)=>B1u k s0 s (Bcb l) (r.ps++ps) (Bjw (US s0.nx s.o 6 (Bcb l)++Bs0 s0.nx s.o (Ajs s.o s0.o.length)) s0.nx [])
  |none=>none
 |none=>none
def Arq:Nat→List A→Gc
 |_,[]=>[]
 |k,x::r=>(k,x)::Arq (k+1) r
def SK (n:Nat) (args:List A) (nx:Nat) (o:AE):St:=⟨n,nx,Arq 0 args,o⟩
def Bri:AE→Bool
 | []=>true
 |_=>false
def RL (E:Env) (u:Nat) (f:FuncId) (args:List A) (nx:Nat) (o:AE):Option Arr:=match E.P.funcs[f]? with
 |some fn=>match fn.body with
  |some c=>bif Nat.ble args.length fn.ntmps then B1v E fn (bif Bri o then 1 else 2) (RI c) (SK fn.ntmps args nx o) (evC E u c (SK fn.ntmps args nx o)) else none
  |none=>none
 |none=>none
theorem Ati {u:Nat} {x:A}:∀{l:List A} {k:Nat},DV u (Arq k l)=some x→∃i,u=k+i∧l[i]?=some x
 | [],_,h=>by cases h
 | y::r,k,h=>by
  have h':(bif Nat.beq k u then some y else DV u (Arq (k+1) r))=some x:=h
  cases hb:Nat.beq k u with
  |true=>
   rw[hb] at h'
   exact⟨0,(Nat.eq_of_beq_eq_true hb).symm,h'⟩
  |false=>
   rw[hb] at h'
   obtain⟨i,h1,h2⟩:=Ati h'
   exact⟨i+1,by omega,h2⟩
theorem Brg {n nx:Nat} {args:List A} {o:AE} {vs:List Value} {F:Nat→Prop} {N:Nm} {R:World} (_hl:args.length≤n) (hh:Bp F N nx o R) (ha:HL F N nx R args vs):
  Rel ⟨F,N,nx,o,R,BH {tmps:=vs.toArray++Array.replicate (n - vs.toArray.size) undef,defers:=[]},fun _=>True,[]⟩ F N (SK n args nx o) {tmps:=vs.toArray++Array.replicate (n - vs.toArray.size) undef,defers:=[]} R:=by
 have hlen:=ha.length
 refine⟨rfl,?_,fun u x hu=>?_,hh,.refl,fun _ _=>rfl⟩
 ·show(vs.toArray++Array.replicate (n - vs.toArray.size) undef).size=n
  simp
  omega
 ·obtain⟨i,h1,h2⟩:=Ati hu
  obtain rfl:u=i:=by omega
  obtain⟨v,h3,h4⟩:=ha.get h2
  have gu:u <vs.length:=(List.getElem?_eq_some_iff.1 h3).1
  have:BH {tmps:=vs.toArray++Array.replicate (n - vs.toArray.size) undef,defers:=[]} u=v:=by
   unfold BH
   simp only[Array.getD_eq_getD_getElem?]
   rw[Array.getElem?_append_left (by simpa using gu),List.getElem?_toArray,h3]
   rfl
  rw[this]
  exact(Ac h4.isPlain).2 h4
section
variable {E:Env}
theorem Bvq {Z:FG} {F:Nat→Prop} {N:Nm} {a0:Act} {R0:World} {W:List Nat} {s0:St} (h0:Rel Z F N s0 a0 R0) {r:Res} (hw:Wf s0 r) {s:St} (he:B1l W s0 r=some s) {e:Exit} {x:St} {a:Act} {R:World} (ho:Oc r e x) (hx:Qy (LQ F N s0 a0 R0 W) a R x):
  (e=.ret∨e=.normal)∧Qy (LQ F N s0 a0 R0 W) a R s∧Sub s0 s:=by
 unfold B1l at he
 cases hr:Arn r.outs with
 |false=>rw[hr] at he;cases he
 | true=>
  rw[hr] at he
  simp only[cond_true] at he
  split at he<;>try (cases he;done)
  ·rename_i c s' hg hn
   cases he
   rcases ho with⟨t,c',rfl,h1,h2,h3⟩|⟨rfl,h1,h2⟩
   ·cases t with
    |none=>rw[hg] at h1;cases h1;exact⟨.inl rfl,hx,hw.outs _ _ _ hg⟩
    |some i=>rw[VG hr] at h1;cases h1
   ·rw[hn] at h1;cases h1
  ·rename_i hg hn
   cases he
   rcases ho with⟨t,c',rfl,h1,h2,h3⟩|⟨rfl,h1,h2⟩
   ·cases t with
    |none=>rw[hg] at h1;cases h1
    |some i=>rw[VG hr] at h1;cases h1
   ·rw[hn] at h1;cases h1;exact⟨.inr rfl,hx,hw.nrm _ hn⟩
  ·rename_i c s1 s2 hg hn
   cases he
   rcases ho with⟨t,c',rfl,h1,h2,h3⟩|⟨rfl,h1,h2⟩
   ·cases t with
    |none=>
     rw[hg] at h1;cases h1
     exact⟨.inl rfl,Tt (g:=BJ c) h0 (hw.outs _ _ _ hg) (hw.nrm _ hn) (by rw[h2];rfl) _ _ hx,Sub.merge _ _ _ _ _⟩
    |some i=>rw[VG hr] at h1;cases h1
   ·rw[hn] at h1
    cases h1
    exact⟨.inr rfl,Tt (g:=BJ c) h0 (hw.outs _ _ _ hg) (hw.nrm _ hn) (by rw[h2 _ _ _ hg];rfl) _ _ hx,Sub.merge _ _ _ _ _⟩
def B6m (d:Deferred) (w:World):World:=match d.target with
 | .collected D=>w.putObj D (.deferred none)
 |_=>w
def Ah3:List Deferred→World→World
 | [],w=>w
 |d::r,w=>Ah3 r (B6m d w)
theorem Agj {P:Program} {fn:Func} {tmps:Array Value} {K:Ending→World→Prop}:∀(ms:List Deferred) (w:World),ms.Nodup→(∀d∈ms,∃D,d={target:=.collected D,args:=#[]}∧w.heap[D]?=some (.deferred (some [])))→
  LeavesInM Fence.wide 0 P fn tmps K [] .returning (Ah3 ms w)→LeavesInM Fence.wide 0 P fn tmps K ms .returning w
 | [],_,_,_,h=>h
 |d::r,w,hn,hm,h=>by
  obtain⟨D,rfl,hD⟩:=hm d (List.mem_cons_self ..)
  refine⟨fun e=>(by cases e),.inl ⟨D,w.putObj D (.deferred none),rfl,run_takeDeferred hD,?_⟩⟩
  refine Agj r _ (List.nodup_cons.1 hn).2 (fun d' ic=>?_) h
  obtain⟨D',rfl,wq⟩:=hm d' (List.mem_cons_of_mem _ ic)
  refine⟨D',rfl,?_⟩
  rw[World.putObj_heap_other (fun e=>(List.nodup_cons.1 hn).1 (by rw[←e];exact ic))]
  exact wq
theorem Rel.shut {Z:FG} {F:Nat→Prop} {N:Nm} {s:St} {a:Act} {R:World} (h:Rel Z F N s a R) {D:Nat} {x:Obj} (h1:Z.R.heap.size≤D) (h2:¬F D) (h3:¬Gb N s.o D):Rel Z F N s a (R.putObj D x):=by
 have hk:∀g,g≠D→(R.putObj D x).heap[g]?=R.heap[g]?:=fun g hg=>World.putObj_heap_other hg
 have hx:Ext F N s.nx R F N s.nx (R.putObj D x):=⟨Nat.le_refl _,fun _ _=>rfl,fun _ _=>rfl,fun _ h=>h,fun g hg=>hk g fun e=>h2 (e▸hg)⟩
 refine⟨h.defers,h.size,fun u y hu=>(h.slots u y hu).step hx,⟨fun g hg=>?_,fun i ob hi=>?_,h.hp.ff,h.hp.sep,h.hp.gl.step hx⟩,⟨h.st.le,h.st.b,h.st.q,h.st.f,h.st.fnew,h.st.foot,h.st.os,h.st.tape,h.st.output,?_,fun g hg hn=>?_⟩,h.tm⟩
 ·rw[World.putObj_size];exact h.hp.flt g hg
 ·obtain⟨k1,k2⟩:=h.hp.ob i ob hi
  exact⟨k1,k2.step hx k1 fun g hg=>hk g fun e=>h3 ⟨i,ob,hi,e▸hg⟩⟩
 ·rw[World.putObj_size];exact h.st.size
 ·rw[hk g (by omega)]
  exact h.st.keep g hg hn
theorem Rel.shuts {Z:FG} {F:Nat→Prop} {N:Nm} {s:St} {a:Act}:∀{ms:List Deferred} {R:World},Rel Z F N s a R→Marks Z.R.heap.size F N s.o R ms→Rel Z F N s a (Ah3 ms R)
 | [],_,h,_=>h
 |d::r,R,h,hm=>by
  obtain⟨D,rfl,h1,h2,h3,_⟩:=hm.2 d (List.mem_cons_self ..)
  show Rel Z F N s a (Ah3 r (R.putObj D (.deferred none)))
  refine Rel.shuts (ms:=r) (h.shut h1 h2 h3) ⟨(List.nodup_cons.1 hm.1).2,fun d' ic=>?_⟩
  obtain⟨D',rfl,k1,k2,k3,k4⟩:=hm.2 d' (List.mem_cons_of_mem _ ic)
  refine⟨D',rfl,k1,k2,k3,?_⟩
  rw[World.putObj_heap_other (fun e=>(List.nodup_cons.1 hm.1).1 (by rw[←e];exact ic))]
  exact k4
theorem AN (ok:Ou E) {u:Nat} {f:FuncId} {args:List A} {nx:Nat} {o:AE} {k nx':Nat} {x:A} {o':AE} {ps:List Prop} (he:RL E u f args nx o=some (k,x,nx',o',ps)) (hp:∀p∈ps,p):
  An E.P f args nx o k x nx' o':=by
 unfold RL at he
 split at he<;>try (cases he;done)
 rename_i fn hf
 split at he<;>try (cases he;done)
 rename_i c hc
 cases hl:Nat.ble args.length fn.ntmps with
 |false=>rw[hl] at he;cases he
 | true=>
  rw[hl] at he
  simp only[cond_true] at he
  have hle:=Nat.le_of_ble_eq_true hl
  generalize ar:(bif Bri o then 1 else 2)=k0 at he
  generalize hr:evC E u c (SK fn.ntmps args nx o)=r at he
  unfold B1v at he
  split at he<;>try (cases he;done)
  rename_i s hs
  split at he<;>try (cases he;done)
  rename_i l qs so
  generalize Bjw (US (SK fn.ntmps args nx o).nx s.o 6 (Bcb l)++Bs0 (SK fn.ntmps args nx o).nx s.o (Ajs s.o (SK fn.ntmps args nx o).o.length)) (SK fn.ntmps args nx o).nx []=L at he
  unfold B1u at he
  cases fx:ST (SK fn.ntmps args nx o).nx ((SK fn.ntmps args nx o).nx+L.length) L with
  |false=>rw[fx] at he;cases he
  | true=>
   rw[fx] at he
   cases he
   intro F N R vs hh ha
   ·have h0:=Brg hle hh ha
    have hlen:=ha.length
    refine(callsIn_wide (n:=0)).1 (callsIn_of_wp_marks hf hc trivial ?_ rfl)
    have hwf:=FJ ok (u:=u) 0 c false (SK fn.ntmps args nx o)
    have gi:RJ E u 0 c false (SK fn.ntmps args nx o)=r:=hr
    rw[gi] at hwf
    have key:=IM ok (u:=u) 0 c false (LQ F N (SK fn.ntmps args nx o) {tmps:=vs.toArray++Array.replicate (fn.ntmps - vs.toArray.size) undef,defers:=[]} R (RI c)) (SK fn.ntmps args nx o) {tmps:=vs.toArray++Array.replicate (fn.ntmps - vs.toArray.size) undef,defers:=[]} R
     (bodyPostM Fence.wide 0 E.P fn fun e R'=>∃y F' N',e=.returned y∧Bp F' N' (nx+L.length) (PI nx L s.o o) R'∧Step F N nx o R F' N' (nx+L.length) (PI nx L s.o o) R'∧Hv F' N' (nx+L.length) R' ((Bcb l).pk (Y0 nx L)) y∧(k≤1→Below R.heap.size R R')) (Qy.start h0 _) (fun u hu=>hu) (by rw[gi];exact fun p hm=>hp p (List.mem_append.2 (.inl hm)))
    refine key (fun e z a' R0 ho hz=>?_) none (fun _=>rfl)
    rw[gi] at ho
    obtain⟨h1,⟨ms,F',N',h20,hm⟩,h3⟩:=Bvq h0 hwf hs ho hz
    have h2:=h20.shuts hm
    generalize pq:Ah3 ms R0=R' at h2
    obtain⟨y,g1,g2⟩:=Bgz h2 so fun p hm=>hp p (List.mem_append.2 (.inr hm))
    obtain⟨d,hd⟩:=h3.seq
    have ic:s.o=d++o:=hd
    obtain⟨q1,q2⟩:=Bmz (nb:=nx) (nx':=nx+L.length) (L:=L) h2.hp fx (Nat.le_add_right _ _) ic hh
    have hst:Step F N nx o R F' N' s.nx s.o R':=h2.st
    have small:∀k,k <nx→As3 nx L k=k:=fun k hk=>by unfold As3;rw[show Nat.blt k nx=true from Nat.ble_eq_true_of_le hk];rfl
    have jf:Step F N nx o R F' (nm2 N' nx L) (nx+L.length) (PI nx L s.o o) R':=⟨Nat.le_add_right _ _,fun i hi=>by show N'.b (As3 nx L i)=_;rw[small i hi];exact hst.b i hi,fun i hi=>by show N'.q (As3 nx L i)=_;rw[small i hi];exact hst.q i hi,hst.f,hst.fnew,fun g hg=>hst.foot g (q2 g hg),hst.os,hst.tape,hst.output,hst.size,hst.keep⟩
    have post:∃v,(results fn a'.tmps).run E.P R'=.ok v R'∧∃y F' N',Ending.returned v=.returned y∧Bp F' N' (nx+L.length) (PI nx L s.o o) R'∧Step F N nx o R F' N' (nx+L.length) (PI nx L s.o o) R'∧Hv F' N' (nx+L.length) R' ((Bcb l).pk (Y0 nx L)) y∧(k≤1→Below R.heap.size R R'):=by
     refine⟨y,g2,y,F',nm2 N' nx L,rfl,q1,jf,g1.pk (pk2 fx (Nat.le_add_right _ _)),fun hk=>?_⟩
     cases o with
     |nil=>exact hst.below
     |cons p r=>rw[←ar] at hk;cases hk with|step hk=>cases hk
    have f9:a'.defers=ms++[]:=h20.defers
    have ll:LeavesInM Fence.wide 0 E.P fn a'.tmps (fun e R'=>∃y F' N',e=.returned y∧Bp F' N' (nx+L.length) (PI nx L s.o o) R'∧Step F N nx o R F' N' (nx+L.length) (PI nx L s.o o) R'∧Hv F' N' (nx+L.length) R' ((Bcb l).pk (Y0 nx L)) y∧(k≤1→Below R.heap.size R R')) a'.defers .returning R0:=by
     rw[f9,List.append_nil]
     refine Agj ms R0 hm.1 (fun d hd=>let⟨D,e,_,_,_,h⟩:=hm.2 d hd;⟨D,e,h⟩) ?_
     rw[pq]
     exact post
    rcases h1 with rfl|rfl
    ·exact ll
    ·exact ll
theorem Bv0 {u:Nat} {f:FuncId} {args:List A} {nx:Nat} {o:AE} {k nx':Nat} {x:A} {o':AE} {ps:List Prop} (he:RL E u f args nx o=some (k,x,nx',o',ps)):∃d,o'=d++o:=by
 unfold RL at he
 split at he<;>try (cases he;done)
 split at he<;>try (cases he;done)
 rename_i c hc
 replace he:=C6 he
 unfold B1v at he
 split at he<;>try (cases he;done)
 rename_i s hs
 split at he<;>try (cases he;done)
 unfold B1u at he
 replace he:=C6 he
 cases he
 exact⟨_,by unfold PI;rw[←List.append_assoc];rfl⟩
end
def Gw (P:Program) (f:FuncId) (g:KD):Prop:=
 ∀args nx o k x nx' o' ps,g args nx o=some (k,x,nx',o',ps)→((∀p∈ps,p)→An P f args nx o k x nx' o')∧∃d,o'=d++o
def COk (P:Program) (C:Tab):Prop:=∀f args nx o k x nx' o' ps,C f args nx o=some (k,x,nx',o',ps)→((∀p∈ps,p)→(Nat.ble ylK f=false→An P f args nx o k x nx' o')∧(Nat.ble ylK f=true→∀i xs,args=.yl i::xs→A1y P i xs nx o k x nx' o'))∧∃d,o'=d++o
def Bo8 (P:Program) (eq:TypeId→List Value→List Value→Option Bool):Prop:=
 ∀t xs ys b,eq t xs ys=some b→P.eqGuardType P.depth t=false∧∀R,(Op.equalIn 10000 t (.agg xs.toArray) (.agg ys.toArray)).run P R=.ok b R
def B7f (P:Program) (tc:TypeId→Option TC):Prop:=
 ∀t c,tc t=some c→∃i,P.info? t=some i∧i.size=size c∧0 <size c∧∃z,i.zero=some z∧∀(F:Nat→Prop) (N:Nm) (nx:Nat) (R:World),HL F N nx R (enc c (Av c)) z.cells.toList
abbrev WX:=Nat→St→Option (Code×List Prop×BD)
def C0:Tab:=fun _ _ _ _=>none
theorem Bhz {P:Program}:COk P C0:=fun _ _ _ _ _ _ _ _ _ h=>by cases h
def L0:WX:=fun _ _=>none
def B0o (f0:FuncId) (g:KD) (C:Tab):Tab:=fun f args nx o=>bif Nat.beq f f0 then(bif Nat.ble ylK f0 then none else g args nx o) else C f args nx o
theorem Buu {P:Program} {f0:FuncId} {g:KD} {C:Tab} (hg:Gw P f0 g) (hC:COk P C):COk P (B0o f0 g C):=fun f args nx o k x nx' o' ps h=>by
 unfold B0o at h
 cases hb:Nat.beq f f0 with
 | true=>
  rw[hb] at h
  rw[Nat.eq_of_beq_eq_true hb]
  cases hy:Nat.ble ylK f0 with
  |true=>rw[hy] at h;cases h
  |false=>
   rw[hy] at h
   obtain⟨h1,h2⟩:=hg args nx o k x nx' o' ps h
   exact⟨fun hp=>⟨fun _=>h1 hp,fun e=>(by cases e)⟩,h2⟩
 |false=>rw[hb] at h;exact hC f args nx o k x nx' o' ps h
def DM {f:FuncId} {g:KD} (h:Gw AP f g) (C:{C:Tab // COk AP C}):{C:Tab // COk AP C}:=⟨B0o f g C.1,Buu h C.2⟩
def YOk (P:Program) (_f _b:Nat) (g:KD):Prop:=
 ∀i xs nx o k x nx' o' ps,g (.yl i::xs) nx o=some (k,x,nx',o',ps)→((∀p∈ps,p)→A1y P i xs nx o k x nx' o')∧∃d,o'=d++o
def B0p (f0 b0:Nat) (g:KD) (C:Tab):Tab:=fun f args nx o=>bif Nat.beq f (ylK+(f0*1000+b0)) then(match args with
 | .yl i::xs=>g (.yl i::xs) nx o
 |_=>none) else C f args nx o
theorem Buw {P:Program} {f0 b0:Nat} {g:KD} {C:Tab} (hg:YOk P f0 b0 g) (hC:COk P C):COk P (B0p f0 b0 g C):=fun f args nx o k x nx' o' ps h=>by
 unfold B0p at h
 cases hb:Nat.beq f (ylK+(f0*1000+b0)) with
 | true=>
  rw[hb] at h
  have hle:Nat.ble ylK f=true:=by
   rw[Nat.eq_of_beq_eq_true hb]
   exact Nat.ble_eq_true_of_le (Nat.le_add_right _ _)
  simp only[cond_true] at h
  split at h<;>try (cases h;done)
  rename_i i xs
  obtain⟨h1,h2⟩:=hg i xs nx o k x nx' o' ps h
  exact⟨fun hp=>⟨fun e=>(by rw[hle] at e;cases e),fun _ j ys he=>by cases he;exact h1 hp⟩,h2⟩
 |false=>rw[hb] at h;exact hC f args nx o k x nx' o' ps h
def aRy {f b:Nat} {g:KD} (h:YOk AP f b g) (C:{C:Tab // COk AP C}):{C:Tab // COk AP C}:=⟨B0p f b g C.1,Buw h C.2⟩
theorem N0 {p:Prop} {ps:List Prop} (h:∀q∈p::ps,q):p:=h _ (List.mem_cons_self ..)
theorem N1 {p:Prop} {ps:List Prop} (h:∀q∈p::ps,q):∀q∈ps,q:=fun q hq=>h q (List.mem_cons_of_mem _ hq)
theorem Ag:∀p∈([]:List Prop),p:=fun _ h=>by cases h
theorem Aa {p:Prop} {ps:List Prop} (h:p) (t:∀q∈ps,q):∀q∈p::ps,q:=fun q hq=>by
 rcases List.mem_cons.1 hq with rfl|hq
 ·exact h
 ·exact t q hq
theorem nT {p:Prop} {ps qs:List Prop} (hp:∀q∈p::qs,q) (f:(∀q∈qs,q)→∀q∈ps,q):∀q∈p::ps,q:=Aa (hp _ (List.mem_cons_self ..)) (f fun q hq=>hp q (List.mem_cons_of_mem _ hq))
theorem Afq {P:Program} {f:FuncId} {args:List A} {nx k nx':Nat} {x:A} {o o':AE} (h:An P f args nx [] k x nx' o') (hk:k≤1):An P f args nx o 1 x nx' (o'++o):=fun F N R vs hh ha=>by
 refine(h F N R vs (hh.noObj) ha).mono fun e R' ⟨y,F',N',e1,e2,e3,e4,e5⟩=>?_
 obtain⟨g1,g2⟩:=hh.frame (o1:=[]) (o':=o'++o) (fun i ob hi=>by cases hi) e3 e2 fun i ob hi=>by
  rcases Ld hi with⟨_,h1⟩|⟨_,h1⟩
  ·exact .inl h1
  ·exact .inr ⟨h1,rfl⟩
 exact⟨y,F',N',e1,g1,g2,e4,fun _=>e5 hk⟩
def Y8 (nx:Nat):Nat→Option Nat:=fun i=>some (nx+i)
def Afc (nx:Nat):AE→AE
 | []=>[]
 |(k,some ob)::r=>(nx+k,some (ob.pk (Y8 nx)))::Afc nx r
 |(k,none)::r=>(nx+k,none)::Afc nx r
theorem Amm {nx j:Nat} {aj:Ob}:∀{o:AE},Ai j (Afc nx o)=some aj→∃i ob,j=nx+i∧Ai i o=some ob∧aj=ob.pk (Y8 nx)
 | [],h=>by cases h
 | (k,x)::r,h=>by
  have step:∀z,(bif Nat.beq (nx+k) j then z else Ai j (Afc nx r))=some aj→(∀ob,x=some ob→z=some (ob.pk (Y8 nx)))→(x=none→z=none)→∃i ob,j=nx+i∧(bif Nat.beq k i then x else Ai i r)=some ob∧aj=ob.pk (Y8 nx):=fun z hz h1 h2=>by
   cases hb:Nat.beq (nx+k) j with
   | true=>
    rw[hb] at hz
    obtain rfl:=Nat.eq_of_beq_eq_true hb
    cases x with
    |none=>rw[h2 rfl] at hz;cases hz
    |some ob=>
     rw[h1 ob rfl] at hz
     cases hz
     exact⟨k,ob,rfl,by rw[QD];rfl,rfl⟩
   |false=>
    rw[hb] at hz
    obtain⟨i,ob,rfl,h3,h4⟩:=Amm hz
    refine⟨i,ob,rfl,?_,h4⟩
    rw[Ary fun e=>by subst e;simp at hb]
    exact h3
  cases x with
  |some ob=>exact step _ h (fun aj e=>by cases e;rfl) (fun e=>by cases e)
  |none=>exact step _ h (fun aj e=>by cases e) (fun _=>rfl)
theorem Afr {P:Program} {f:FuncId} {args:List A} {k m:Nat} {x:A} {os:AE} (h:An P f args 0 [] k x m os) (hk:k≤1) (hf:freeL args=true) (nx:Nat) (o:AE):An P f args nx o 1 (x.pk (Y8 nx)) (nx+m) (Afc nx os++o):=by
 refine Afq (k:=1) (fun F N R vs hh ha=>?_) (Nat.le_refl _)
 refine(h F N R vs hh.noObj (ha.free hf)).mono fun e R' ⟨y,F',N',e1,e2,e3,e4,e5⟩=>?_
 let N2:Nm:=⟨fun i=>bif Nat.blt i nx then N.b i else N'.b (i - nx),fun i=>bif Nat.blt i nx then N.q i else N'.q (i - nx)⟩
 have uj:∀i,Nat.blt (nx+i) nx=false:=fun i=>by
  cases hb:Nat.blt (nx+i) nx with
  |false=>rfl
  |true=>exact absurd (Nat.le_of_ble_eq_true hb) (by omega)
 have st:Pk (Y8 nx) N' m N2 (nx+m):=fun i j hi hj=>by
  cases hj
  refine⟨by omega,?_,?_⟩
  ·show(bif Nat.blt (nx+i) nx then N.b (nx+i) else N'.b (nx+i - nx))=_
   rw[uj,Nat.add_sub_cancel_left];rfl
  ·show(bif Nat.blt (nx+i) nx then N.q (nx+i) else N'.q (nx+i - nx))=_
   rw[uj,Nat.add_sub_cancel_left];rfl
 obtain⟨g1,g2⟩:=e2.pk (o':=Afc nx os) st fun j aj hj=>by
  obtain⟨i,ob,rfl,h3,h4⟩:=Amm hj
  exact⟨i,ob,rfl,h3,h4⟩
 have ae:∀i,i <nx→Nat.blt i nx=true:=fun i hi=>Nat.ble_eq_true_of_le hi
 refine⟨y,F',N2,e1,g1,⟨Nat.le_add_right _ _,fun i hi=>by show(bif Nat.blt i nx then N.b i else _)=_;rw[ae i hi];rfl,fun i hi=>by show(bif Nat.blt i nx then N.q i else _)=_;rw[ae i hi];rfl,e3.f,fun g hg=>?_,fun g hg=>?_,e3.os,e3.tape,e3.output,e3.size,fun g hg hn=>e3.keep g hg fun⟨i,ob,hi,_⟩=>by cases hi⟩,e4.pk st,fun _=>e5 hk⟩
 ·rcases e3.fnew g hg with h1|⟨i,ob,hi,_⟩|h1
  ·exact .inl h1
  ·cases hi
  ·exact .inr (.inr h1)
 ·rcases e3.foot g (g2 g hg) with⟨i,ob,hi,_⟩|h1
  ·cases hi
  ·exact .inr h1
def inl (E:Env) (u:Nat) (f:FuncId):KD:=fun args nx o=>
 bif freeL args then(match RL E u f args nx [] with
  |some (k,x,nx',o',ps)=>bif Nat.ble k 1 then some (1,x,nx',o'++o,ps) else none
  |none=>none) else RL E u f args nx o
theorem M0 {E:Env} (ok:Ou E) (u:Nat) (f:FuncId):Gw E.P f (inl E u f):=fun args nx o k x nx' o' ps h=>by
 unfold inl at h
 cases hf:freeL args with
 | true=>
  rw[hf] at h
  simp only[cond_true] at h
  split at h<;>try (cases h;done)
  rename_i k1 x1 nx1 o1 du he
  cases hk:Nat.ble k1 1 with
  |false=>rw[hk] at h;cases h
  |true=>
   rw[hk] at h
   cases h
   exact⟨fun hp=>Afq (AN ok he hp) (Nat.le_of_ble_eq_true hk),_,rfl⟩
 |false=>
  rw[hf] at h
  exact⟨fun hp=>AN ok h hp,Bv0 h⟩
def Asa:List Nat→AE→AE
 |_,[]=>[]
 |seen,(i,x)::r=>bif seen.any (Nat.beq i) then Asa seen r else(i,x)::Asa (i::seen) r
theorem Xj:∀(seen:List Nat) (o:AE) (i:Nat) (ob:Ob),Ai i (Asa seen o)=some ob→seen.any (Nat.beq i)=false∧Ai i o=some ob
 |_,[],i,ob,h=>by cases h
 | seen,(j,x)::r,i,ob,h=>by
  unfold Asa at h
  cases hs:seen.any (Nat.beq j) with
  |true=>
   rw[hs,cond_true] at h
   obtain⟨h1,h2⟩:=Xj seen r i ob h
   have hn:i≠j:=fun e=>by rw[e,hs] at h1;cases h1
   exact⟨h1,by rw[AG,if_neg hn];exact h2⟩
  | false=>
   rw[hs,cond_false,AG] at h
   by_cases e:i=j
   ·rw[if_pos e] at h
    exact⟨by rw[e];exact hs,by rw[AG,if_pos e];exact h⟩
   ·rw[if_neg e] at h
    obtain⟨h1,h2⟩:=Xj (j::seen) r i ob h
    rw[List.any_cons,Bool.or_eq_false_iff] at h1
    exact⟨h1.2,by rw[AG,if_neg e];exact h2⟩
theorem Blw {P:Program} {f:FuncId} {args:List A} {nx k nx':Nat} {o o1 o2:AE} {x:A} (h:An P f args nx o k x nx' o1) (hd:∀i ob,Ai i o2=some ob→Ai i o1=some ob):An P f args nx o k x nx' o2:=fun F N R vs hh ha=>by
 refine(h F N R vs hh ha).mono fun _ R' ⟨y,F',N',e1,e2,e3,e4,e5⟩=>?_
 obtain⟨q1,q2⟩:=hh.frame (o':=o2) (fun _ _ h=>h) e3 e2 fun i ob hi=> .inl (hd i ob hi)
 exact⟨y,F',N',e1,q1,q2,e4,e5⟩
def B48:Option (Nat×A×Nat×AE×List Prop)→Option (Nat×A×Nat×AE×List Prop)
 |some (k,x,nx,o,ps)=>some (k,x,nx,Asa [] o,ps)
 |none=>none
def A8d (E:Env) (u:Nat) (f:FuncId) (args:List A) (nx:Nat) (o:AE):Option (Nat×A×Nat×AE×List Prop):=B48 (RL E u f args nx o)
theorem Zy {E:Env} (ok:Ou E) {u:Nat} {f:FuncId} {args:List A} {nx:Nat} {o:AE} {k nx':Nat} {x:A} {o':AE} {ps:List Prop} (he:A8d E u f args nx o=some (k,x,nx',o',ps)) (hp:∀p∈ps,p):
  An E.P f args nx o k x nx' o':=by
 unfold A8d B48 at he
 split at he
 ·rename_i k1 x1 nx1 o1 du h1
  cases he
  exact Blw (AN ok h1 hp) fun i ob h=>(Xj [] o1 i ob h).2
 ·cases he
end Go.Proofs.YtifkbgkbajncjaaGreatDoor

