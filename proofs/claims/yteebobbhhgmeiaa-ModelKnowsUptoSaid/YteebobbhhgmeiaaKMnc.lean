/- made by a program (rowgen.py): ModelKnows: for every input the law returns true, and each argument reads behind the call as it read before. -/
import Derived.Test.YteebobbhhgmeiaaKMnb

namespace Go.Proofs.Yteebobbhhgmeiaa
open Go.RowKit
abbrev Cnd:=Option Bool
def Bm:Cnd→Bool
 |none=>true
 |some b=>b
def LV:Cnd→Cnd→Cnd
 |none,y=>y
 |some a,none=>some a
 |some a,some b=>some (a&&b)
def orO:Cnd→Cnd→Cnd
 |none,_=>none
 |some _,none=>none
 |some a,some b=>some (a||b)
def A1v:Cnd→Cnd
 |none=>some false
 |some a=>some (!a)
def Bsl (g:Bool):Cnd→Cnd→Cnd
 |none,none=>none
 |some a,none=>some (!g||a)
 |none,some b=>some (g||b)
 |some a,some b=>some (bif g then a else b)
theorem Bq (x y:Cnd):Bm (LV x y)=(Bm x&&Bm y):=by cases x<;>cases y<;>simp[LV,Bm]
theorem Afg (x y:Cnd):Bm (orO x y)=(Bm x||Bm y):=by cases x<;>cases y<;>simp[orO,Bm]
theorem Aff (x:Cnd):Bm (A1v x)=!(Bm x):=by cases x<;>rfl
theorem Si (g:Bool) (x y:Cnd):Bm (Bsl g x y)=bif g then Bm x else Bm y:=by cases x<;>cases y<;>cases g<;>simp[Bsl,Bm]
def Bv4:Cnd→List Prop
 |none=>[]
 |some b=>[b=true]
theorem Blz {c:Cnd} (h:Bm c=true):∀q∈Bv4 c,q:=fun q hq=>by
 cases c with
 |none=>cases hq
 |some b=>obtain rfl:=List.mem_singleton.1 hq;exact h
def A3w (ops:List Oper) (j:Nat):Option Tmp:=match ops[j]? with
 |some o=>o.dst
 |none=>none
abbrev D4:=Cnd×Nat×St×List Prop
def onL:List D4→(St→Prop)→Prop
 | [],_=>False
 |(c,_,s,_)::r,K=>(Bm c=true∧K s)∨(Bm c=false∧onL r K)
def Oe:List D4→Prop
 | []=>True
 |(c,_,_,ps)::r=>(Bm c=true→∀p∈ps,p)∧Oe r
def EI:List D4→Nat
 | []=>0
 |(_,k,_,_)::r=>Nat.max k (EI r)
def XH (s:St) (dst:Option Tmp) (f:Eff):Option St:=match dst with
 |some d=>bif Nat.blt d s.n then some (St.put ⟨s.n,f.nx,s.t,f.o⟩ d f.x) else none
 |none=>some ⟨s.n,f.nx,s.t,f.o⟩
def St.lit (s:St) (u:Nat) (b:Bool):St:={s with t:=(u,.v (.bool b))::s.t}
def Up (E:Env) (s:St) (G:Guards) (o:Oper):R2:=bif Av7 o.op then none else Bx7 E s G o
def doE (E:Env) (s:St) (G:Guards) (o:Oper) (c:Cnd) (ps:List Prop):Option D4:=match opE E s G o with
 |some f=>match XH s o.dst f with
  |some s'=>some (c,f.k,s',ps++f.ps)
  |none=>none
 |none=>none
def Aqf (s:St) (o:Oper):Option St:=match o.dst with
 |some d=>bif Nat.blt d s.n then some (s.put d (.v undef)) else none
 |none=>some s
def Ol (E:Env) (ops:List Oper) (s:St) (o:Oper):Option (List D4):=
 match o.guard with
 |none=>match doE E s [] o none [] with
  |some x=>some [x]
  |none=>none
 | some (j,b)=>match A3w ops j with
  | some u=>match E.lit with
   | true=>match s.raw [] (.tmp u) with
    | some (.bool c)=>match A0z c b with
     |true=>match doE E s (VH s 5 u b) o none [] with
      |some x=>some [x]
      |none=>none
     |false=>match Aqf s o with
      |some s'=>some [(none,0,s',[])]
      |none=>none
    |_=>none
   | false=>match Up E s (VH s 5 u b) o with
    |some (x,ps)=>match o.dst with
     |some d=>bif Nat.blt d s.n then(bif Nat.beq d u then none else some [(none,0,s.put d (.opt u b x),Wm (TX s (VH s 5 u b) (VH s 5 u b)) ps)]) else none
     |none=>none
    | none=>match s.raw [] (.tmp u) with
     |some (.bool c)=>match doE E (s.lit u b) (VH s 5 u b) o (some (bif b then c else !c)) [],Aqf (s.lit u (!b)) o with
      |some x,some s'=>some [x,(none,0,s',[])]
      |_,_=>none
     |_=>none
  |none=>none
section
variable {E:Env} {Z:Base} {F:Nat→Prop} {N:Nm} {s:St} {a:Act} {R:World}
theorem HN (tm:Nat→Value):OJ tm []:=fun _ _ h=>by cases h
theorem Hv.isPlain {nx:Nat} {x:A} {v:Value} (h:Hv F N nx R x v):x.plain=true:=by cases h<;>rfl
theorem Aev {ops:List Oper} {o:Oper} {j u:Nat} {b:Bool} (hg:o.guard=some (j,b)) (hu:A3w ops j=some u) (a:Act):Region.wanted o (yielded ops.toArray a.tmps)=true↔Bl a u=.bool b:=by
 unfold Region.wanted yielded Bl
 rw[hg]
 have:(ops.toArray[j]?).bind (·.dst)=some u:=by
  unfold A3w at hu
  rw[List.getElem?_toArray]
  cases ho:ops[j]? with
  |none=>rw[ho] at hu;cases hu
  |some o'=>rw[ho] at hu;exact hu
 simp only[this,Option.bind_some]
 rw[Array.getD_eq_getD_getElem?]
 cases hv:a.tmps[u]? with
 |none=>simp[undef]
 |some v=>
  cases v<;>simp
theorem K5 {o:Oper} (hg:o.guard=none) (y:Nat→Option Bool):Region.wanted o y=true:=by
 unfold Region.wanted
 rw[hg]
theorem Rel.lit (h:Rel Z F N s a R) {u:Nat} {b:Bool} (hu:Bl a u=.bool b):Rel Z F N (s.lit u b) a R:=
 ⟨h.defers,h.size,fun v x hv=>by
  have hv':(bif Nat.beq u v then some (A.v (.bool b)) else D6 v s.t)=some x:=hv
  cases hb:Nat.beq u v with
  |true=>
   rw[hb] at hv'
   obtain rfl:=Nat.eq_of_beq_eq_true hb
   cases hv'
   rw[hu]
   exact(Ab rfl).2 (.v _)
  |false=>rw[hb] at hv';exact h.slots v x hv',h.hp,h.st,h.tm⟩
theorem Bxc (h:Rel Z F N s a R) {dst:Option Tmp} {f:Eff} {s':St} (he:XH s dst f=some s') (hW:∀d,dst=some d→Z.W d) {v:Value} {R':World} (hk:EK F N s.nx s.o R f v R'):
  ∃F' N',Rel Z F' N' s' (a.put dst v) R':=by
 obtain⟨F',N',h1,h2,h3,_⟩:=hk
 have hr:=h.heap h2 h1
 unfold XH at he
 split at he
 ·rename_i d
  cases hd:Nat.blt d s.n with
  |false=>rw[hd] at he;cases he
  |true=>
   rw[hd] at he
   cases he
   exact⟨F',N',hr.put (Nat.le_of_ble_eq_true hd) (hW d rfl) v ((Ab h3.isPlain).2 h3)⟩
 ·cases he
  exact⟨F',N',hr⟩
theorem Aix (h:Rel Z F N s a R) {o:Oper} {s':St} (he:Aqf s o=some s') (hW:∀d,o.dst=some d→Z.W d):Rel Z F N s' (a.put o.dst undef) R:=by
 unfold Aqf at he
 split at he
 ·rename_i d hd
  cases hb:Nat.blt d s.n with
  |false=>rw[hb] at he;cases he
  |true=>
   rw[hb] at he
   cases he
   rw[hd]
   exact h.put (Nat.le_of_ble_eq_true hb) (hW d hd) undef ((Ab rfl).2 (.v _))
 ·rename_i hd
  cases he
  rw[hd]
  exact h
theorem Brs (ok:EnvOk E) (h:Rel Z F N s a R) {G:Guards} (hG:OJ (Bl a) G) {o:Oper} {c c':Cnd} {k:Nat} {s':St} {ps qs:List Prop} (he:doE E s G o c qs=some (c',k,s',ps)) (hp:∀p∈ps,p) (hW:∀d,o.dst=some d→Z.W d):
  c'=c∧Ke E.P (fun v R'=>(k≤1→Below R.heap.size R R')∧∃F' N',Rel Z F' N' s' (a.put o.dst v) R') ((execOp a.eval o).run E.P R):=by
 unfold doE at he
 split at he<;>first|(cases he;done)|skip
 rename_i f hf
 split at he<;>first|(cases he;done)|skip
 rename_i s1 hs
 cases he
 refine⟨rfl,DN (B2y ok h hG hf fun p hm=>hp p (List.mem_append.2 (.inr hm))) fun v R' hk=>⟨?_,Bxc h hs hW hk⟩⟩
 obtain⟨_,_,_,_,_,h4⟩:=hk
 exact h4
theorem A3l {c b:Bool} (hcb:(bif b then c else !c)=true):c=b:=by cases b<;>cases c<;>first|rfl|cases hcb
theorem Auf {c b:Bool} (hcb:(bif b then c else !c)=false):c=!b:=by cases b<;>cases c<;>first|rfl|cases hcb
theorem A0k (ok:EnvOk E) (h:Rel Z F N s a R) {ops:List Oper} {o:Oper} {l:List D4} (he:Ol E ops s o=some l) (hp:Oe l) (hW:∀d,o.dst=some d→Z.W d):
  (Region.wanted o (yielded ops.toArray a.tmps)=true∧Ke E.P (fun v R'=>(EI l≤1→Below R.heap.size R R')∧onL l fun s'=>∃F' N',Rel Z F' N' s' (a.put o.dst v) R') ((execOp a.eval o).run E.P R))∨
  (Region.wanted o (yielded ops.toArray a.tmps)=false∧onL l fun s'=>∃F' N',Rel Z F' N' s' (a.put o.dst undef) R):=by
 have one:∀{G:Guards} {x:D4},OJ (Bl a) G→doE E s G o none []=some x→l=[x]→Ke E.P (fun v R'=>(EI l≤1→Below R.heap.size R R')∧onL l fun s'=>∃F' N',Rel Z F' N' s' (a.put o.dst v) R') ((execOp a.eval o).run E.P R):=fun {G x} hG hx hl=>by
  obtain⟨c,k,s',ps⟩:=x
  subst hl
  have hc:c=none:=by
   unfold doE at hx
   split at hx<;>first|(cases hx;done)|skip
   split at hx<;>first|(cases hx;done)|skip
   cases hx;rfl
  subst hc
  obtain⟨_,h2⟩:=Brs ok h hG hx (hp.1 rfl) hW
  exact DN h2 fun v R' ⟨h3,h4⟩=>⟨fun hk=>h3 (Nat.le_trans (Nat.le_max_left ..) hk),.inl ⟨rfl,h4⟩⟩
 unfold Ol at he
 split at he
 ·rename_i hg
  split at he<;>first|(cases he;done)|skip
  rename_i x hx
  cases he
  exact .inl ⟨K5 hg _,one (HN _) hx rfl⟩
 ·rename_i j b hg
  split at he<;>first|(cases he;done)|skip
  rename_i u hu
  have wt:=Aev hg hu a
  have wf:Bl a u≠.bool b→Region.wanted o (yielded ops.toArray a.tmps)=false:=fun hn=>by
   cases hw:Region.wanted o (yielded ops.toArray a.tmps) with
   |false=>rfl
   |true=>exact absurd (wt.1 hw) hn
  split at he
  ·split at he<;>first|(cases he;done)|skip
   rename_i c hc
   have hcu:Bl a u=.bool c:=D7 h (HN _) hc
   split at he
   ·rename_i hb
    obtain rfl:=YB hb
    split at he<;>first|(cases he;done)|skip
    rename_i x hx
    cases he
    exact .inl ⟨wt.2 hcu,one (YN h 5 u c hcu) hx rfl⟩
   ·rename_i hb
    split at he<;>first|(cases he;done)|skip
    rename_i s' hs
    cases he
    refine .inr ⟨wf fun e=>?_,.inl ⟨rfl,F,N,Aix h hs hW⟩⟩
    rw[hcu] at e
    cases e
    cases b<;>cases hb
  ·split at he
   ·rename_i x ps hq
    split at he<;>first|(cases he;done)|skip
    rename_i d hd
    cases hb:Nat.blt d s.n with
    |false=>rw[hb] at he;cases he
    | true=>
     cases hdu:Nat.beq d u with
     |true=>rw[hb,hdu] at he;cases he
     | false=>
      rw[hb,hdu] at he
      cases he
      have hne:u≠d:=fun e=>by subst e;simp at hdu
      have hdn:=Nat.le_of_ble_eq_true hb
      unfold Up at hq
      cases hl:Av7 o.op with
      |true=>rw[hl] at hq;cases hq
      | false=>
       rw[hl] at hq
       by_cases hw:Bl a u=.bool b
       ·have hG:=YN h 5 u b hw
        have hps:=Na (hp.1 rfl) (SA h hG (Avd h 5 u b hw))
        obtain⟨v,h1,h2⟩:=Bj3 ok h hG hq hps
        refine .inl ⟨wt.2 hw,?_⟩
        have h3:=h2 R (Below.refl _ _)
        have O0:∀R',Below R.heap.size R R'→(EI [((none:Cnd),0,s.put d (.opt u b x),Wm (TX s (VH s 5 u b) (VH s 5 u b)) ps)]≤1→Below R.heap.size R R')∧onL [((none:Cnd),0,s.put d (.opt u b x),Wm (TX s (VH s 5 u b) (VH s 5 u b)) ps)] fun s'=>∃F' N',Rel Z F' N' s' (a.put o.dst v) R':=fun R' hR'=>
         ⟨fun _=>hR',.inl ⟨rfl,F,N,by
          rw[hd]
          refine((h.put (x:=.opt u b x) hdn (hW d hd) v ?_).grow hR')
          simp only[HS]
          exact⟨fun _=>(Ab h1.isPlain).2 h1,fun hn=>absurd (by rw[MI _ hne];exact hw) hn⟩⟩⟩
        generalize (execOp a.eval o).run E.P R=r at*
        cases r with
        |halt x w=>exact h3.elim
        | ok n w=>
         cases n<;>simp only[Oper.quietUpon] at h3<;>simp only[Ke]
         case value y=>
          obtain⟨e1,e2⟩:=h3
          rw[e1,e2]
          exact O0 R (Below.refl _ _)
         case skip=>
          obtain⟨e1,e2⟩:=h3
          rw[e1,←e2]
          exact O0 R (Below.refl _ _)
         case enter f args=>
          obtain⟨e1,hc⟩:=h3
          rw[e1]
          exact hc.mono fun e w'' ⟨he,hw''⟩=>⟨v,he,O0 _ hw''⟩
       ·refine .inr ⟨wf hw,.inl ⟨rfl,F,N,?_⟩⟩
        rw[hd]
        refine h.put (x:=.opt u b x) hdn (hW d hd) undef ?_
        simp only[HS]
        exact⟨fun hn=>absurd (by rw[MI _ hne] at hn;exact hn) hw,fun _=>trivial⟩
   ·split at he<;>first|(cases he;done)|skip
    rename_i c hc
    have hcu:Bl a u=.bool c:=D7 h (HN _) hc
    split at he<;>first|(cases he;done)|skip
    rename_i x s' hx hs
    obtain⟨cx,k,sx,ps⟩:=x
    cases he
    cases hcb:(bif b then c else !c) with
    | true=>
     have e1:=A3l hcb
     subst e1
     have hcx:cx=some (bif c then c else !c):=by
      unfold doE at hx
      split at hx<;>first|(cases hx;done)|skip
      split at hx<;>first|(cases hx;done)|skip
      cases hx;rfl
     have hcv:Bm cx=true:=by rw[hcx];exact hcb
     obtain⟨_,h2⟩:=Brs ok (h.lit hcu) (YN h 5 u c hcu) hx (hp.1 hcv) hW
     exact .inl ⟨wt.2 hcu,DN h2 fun v R' ⟨h3,h4⟩=>⟨fun hk=>h3 (Nat.le_trans (Nat.le_max_left ..) hk),.inl ⟨hcv,h4⟩⟩⟩
    | false=>
     have e1:=Auf hcb
     have hcx:cx=some (bif b then c else !c):=by
      unfold doE at hx
      split at hx<;>first|(cases hx;done)|skip
      split at hx<;>first|(cases hx;done)|skip
      cases hx;rfl
     have hcv:Bm cx=false:=by rw[hcx];exact hcb
     refine .inr ⟨wf fun e=>?_,.inr ⟨hcv,.inl ⟨rfl,F,N,Aix (h.lit (by rw[hcu,e1])) hs hW⟩⟩⟩
     rw[hcu,e1] at e
     cases b<;>cases e
end
def Yq (o:Objs):Nat→A→List Nat
 |0,_=>[]
 | d+1,x=>match x with
  | .sq i=>(match Ao i o with
   |some (.arr _ _ (.lst cs))=>cs.flatMap fun l=>l.flatMap (Yq o d)
   |_=>[])++[i]
  | .vw i _ _ _ _=>(match Ao i o with
   |some (.arr _ _ (.lst cs))=>cs.flatMap fun l=>l.flatMap (Yq o d)
   |_=>[])++[i]
  | .dq i=>[i]
  | .iv i _=>[i]
  | .agg xs=>xs.flatMap (Yq o d)
  | .tup xs=>xs.flatMap (Yq o d)
  |_=>[]
def opV (s:St) (x:Operand):A:=match s.ev [] x with
 |some z=>z
 | none=>match x with
  | .tmp t=>match s.get t with
   |some (.opt _ _ z)=>z
   |_=> .dead
  |_=> .dead
def Brj (s:St) (o:Oper):List Nat:=match o.op with
 | .call {callee:=.value _,args, .. }=>args.toList.flatMap fun x=>Yq s.o 4 (opV s x)
 | .call {callee:=.builtin .append,args, .. }=>match args.toList with
  | [_,y]=>match opV s y with
   | .sq i=>(Yq s.o 4 (.sq i)).filter fun k=>!Nat.beq k i
   |y'=>Yq s.o 4 y'
  |_=>[]
 | .store _ _ v=>Yq s.o 4 (opV s v)
 |_=>[]
def Lc (E:Env):List Nat→St→St×List Prop
 | [],s=>(s,[])
 | i::r,s=>match YK E i s with
  |some (s',ps)=>match Lc E r s' with
   |(s'',qs)=>(s'',ps++qs)
  |none=>Lc E r s
def Bbf (ps:List Prop):List D4→List D4
 | []=>[]
 |(c,k,s,qs)::r=>(c,k,s,ps++qs)::Bbf ps r
def Atj:List D4→Bool
 | []=>false
 |(none,_,_,_)::_=>true
 |_::r=>Atj r
def Bhh (o:Objs):List Nat→Bool
 | []=>false
 |i::r=>match Ao i o with
  |some (.deep _ _ _)=>true
  |_=>Bhh o r
def By5 (s:St) (o:Oper) (ps:List Prop):List D4→Option (List D4)
 | [(none,k,s1,qs)]=>match o.guard,o.dst with
  |none,some d=>match s1.get d with
   |some (.v x)=>bif Nat.ble k 1&&Nat.blt d s.n then some [(none,k,s.put d (.v x),ps++qs)] else none
   |_=>none
  |_,_=>none
 |_=>none
def By4 (s:St) (o:Oper):Bool:=match o.op with
 | .call {callee:=.value f, .. }=>(match A6a s [] f with
  |some (g,_,_)=>Nat.beq g 65
  |none=>false)
 |_=>false
def Bmd (s:St) (o:Oper) (is:List Nat) (ps:List Prop) (l:List D4):Option (List D4):=bif Bhh s.o is||By4 s o then By5 s o ps l else none
def Abl (E:Env) (ops:List Oper) (s:St) (o:Oper):Option (List D4):=match Ol E ops s o with
 |some l=>some l
 | none=>match Brj s o with
  | []=>none
  | i::r=>match Lc E (i::r) s with
   | (s',ps)=>match Ol E ops s' o with
    |some l=>bif Atj l then(match Bmd s o (i::r) ps l with
     |some l'=>some l'
     |none=>some (Bbf ps l)) else none
    |none=>none
theorem Bdj {s:St} {o:Oper} {is:List Nat} {ps:List Prop} {l l':List D4} (h:Bmd s o is ps l=some l'):∃k s1 qs d x,l=[(none,k,s1,qs)]∧o.guard=none∧o.dst=some d∧s1.get d=some (.v x)∧k≤1∧d <s.n∧l'=[(none,k,s.put d (.v x),ps++qs)]:=by
 unfold Bmd at h
 cases hd:Bhh s.o is||By4 s o with
 |false=>rw[hd] at h;cases h
 | true=>
  rw[hd,cond_true] at h
  unfold By5 at h
  split at h<;>first|(cases h;done)|skip
  rename_i k s1 qs
  split at h<;>first|(cases h;done)|skip
  rename_i d hg hds
  split at h<;>first|(cases h;done)|skip
  rename_i x hx
  cases hb:Nat.ble k 1&&Nat.blt d s.n with
  |false=>rw[hb] at h;cases h
  |true=>
   rw[hb] at h
   cases h
   rw[Bool.and_eq_true] at hb
   exact⟨k,s1,qs,d,x,rfl,hg,hds,hx,Nat.le_of_ble_eq_true hb.1,Nat.le_of_ble_eq_true hb.2,rfl⟩
section
variable {E:Env} {Z:Base} {F:Nat→Prop} {N:Nm} {s:St} {a:Act} {R:World}
theorem TT:∀{l:List Nat} {s s':St} {ps:List Prop} {F:Nat→Prop},Rel Z F N s a R→Lc E l s=(s',ps)→(∀p∈ps,p)→∃F',Rel Z F' N s' a R
 | [],s,s',ps,F,h,he,_=>by cases he;exact⟨F,h⟩
 | i::r,s,s',ps,F,h,he,hp=>by
  unfold Lc at he
  split at he
  ·rename_i s1 ps1 h1
   generalize h2:Lc E r s1=x at he
   obtain⟨s2,qs⟩:=x
   cases he
   obtain⟨F1,g1⟩:=A3z h h1 fun p hm=>hp p (List.mem_append.2 (.inl hm))
   exact TT g1 h2 fun p hm=>hp p (List.mem_append.2 (.inr hm))
  ·exact TT h he hp
theorem At3 {K:St→Prop} {ps:List Prop}:∀{l:List D4},onL l K→onL (Bbf ps l) K
 | [],h=>h
 |_::_,h=>h.imp id fun⟨a,b⟩=>⟨a,At3 b⟩
theorem A3g {ps:List Prop}:∀{l:List D4},EI (Bbf ps l)=EI l
 | []=>rfl
 |(c,k,s,qs)::r=>by
  show Nat.max k (EI (Bbf ps r))=Nat.max k (EI r)
  rw[A3g]
theorem A3h {ps:List Prop}:∀{l:List D4},Oe (Bbf ps l)→Oe l
 | [],h=>h
 |(_,_,_,_)::r,⟨h1,h2⟩=>⟨fun hc p hm=>h1 hc p (List.mem_append.2 (.inr hm)),A3h (l:=r) h2⟩
theorem A3i {ps:List Prop}:∀{l:List D4},Atj l=true→Oe (Bbf ps l)→∀p∈ps,p
 | [],h,_=>by cases h
 |(none,k,s,qs)::r,_,⟨h1,_⟩=>fun p hm=>h1 rfl p (List.mem_append.2 (.inl hm))
 |(some _,k,s,qs)::r,h,⟨_,h2⟩=>A3i (l:=r) h h2
theorem Bt5 (ok:EnvOk E) (h:Rel Z F N s a R) {ops:List Oper} {o:Oper} {l:List D4} (he:Abl E ops s o=some l) (hp:Oe l) (hW:∀d,o.dst=some d→Z.W d):
  (Region.wanted o (yielded ops.toArray a.tmps)=true∧Ke E.P (fun v R'=>(EI l≤1→Below R.heap.size R R')∧onL l fun s'=>∃F' N',Rel Z F' N' s' (a.put o.dst v) R') ((execOp a.eval o).run E.P R))∨
  (Region.wanted o (yielded ops.toArray a.tmps)=false∧onL l fun s'=>∃F' N',Rel Z F' N' s' (a.put o.dst undef) R):=by
 unfold Abl at he
 split at he
 ·rename_i l' hl
  cases he
  exact A0k ok h hl hp hW
 ·split at he<;>first|(cases he;done)|skip
  rename_i i r hc
  generalize hf:Lc E (i::r) s=x at he
  obtain⟨s',ps⟩:=x
  simp only at he
  split at he<;>first|(cases he;done)|skip
  rename_i l' hl
  cases hn:Atj l' with
  |false=>rw[hn] at he;cases he
  | true=>
   rw[hn,cond_true] at he
   cases hle:Bmd s o (i::r) ps l' with
   | some l2=>
    rw[hle] at he
    cases he
    obtain⟨k,s1,qs,d,x,rfl,hg,hds,hx,hk,hdn,rfl⟩:=Bdj hle
    obtain⟨F',h'⟩:=TT h hf fun p hm=>hp.1 rfl p (List.mem_append.2 (.inl hm))
    rcases A0k ok h' hl ⟨fun _ p hm=>hp.1 rfl p (List.mem_append.2 (.inr hm)),hp.2⟩ hW with⟨h1,h2⟩|⟨h1,_⟩
    ·refine .inl ⟨h1,DN h2 fun v R' ⟨h3,h4⟩=>?_⟩
     have hB:Below R.heap.size R R':=h3 (Nat.max_le.2 ⟨hk,Nat.zero_le _⟩)
     refine⟨fun _=>hB,.inl ⟨rfl,F,N,?_⟩⟩
     rcases h4 with⟨_,F1,N1,hr⟩|h4
     ·have e:=hr.slots d (.v x) hx
      rw[hds,Aqk v (by rw[h.size];exact hdn)] at e
      cases(Ab rfl).1 e
      rw[hds]
      exact(h.grow hB).put hdn (hW d hds) _ ((Ab rfl).2 (.v _))
     ·cases h4.1
    ·rw[K5 hg] at h1
     cases h1
   |none=>
   rw[hle] at he
   cases he
   obtain⟨F',h'⟩:=TT h hf (A3i hn hp)
   rcases A0k ok h' hl (A3h hp) hW with⟨h1,h2⟩|⟨h1,h2⟩
   ·exact .inl ⟨h1,DN h2 fun v R' ⟨h3,h4⟩=>⟨fun hk=>h3 (by rw[A3g] at hk;exact hk),At3 h4⟩⟩
   ·exact .inr ⟨h1,At3 h2⟩
end
def A8g (s:St) (dst:Option Tmp) (x:A) (ps:List Prop):Option (St×List Prop):=match dst with
 |some d=>bif Nat.blt d s.n then some (s.put d x,ps) else none
 |none=>some (s,ps)
def Aah (E:Env) (ops:List Oper) (s:St) (o:Oper):Option (St×List Prop):=
 match o.guard with
 |none=>match Up E s [] o with
  |some (x,ps)=>A8g s o.dst x ps
  |none=>none
 | some (j,b)=>match A3w ops j with
  | some u=>match E.lit with
   | true=>match s.raw [] (.tmp u) with
    | some (.bool c)=>match A0z c b with
     |true=>match Up E s (VH s 5 u b) o with
      |some (x,ps)=>A8g s o.dst x ps
      |none=>none
     |false=>A8g s o.dst (.v undef) []
    |_=>none
   | false=>match Up E s (VH s 5 u b) o with
    |some (x,ps)=>match o.dst with
     |some d=>bif Nat.blt d s.n then(bif Nat.beq d u then none else some (s.put d (.opt u b x),Wm (TX s (VH s 5 u b) (VH s 5 u b)) ps)) else none
     |none=>none
    |none=>none
  |none=>none
def Bll (P:Program) (ops:List Oper) (o:Oper) (a:Act) (R:World) (v:Value):Prop:=
 (Region.wanted o (yielded ops.toArray a.tmps)=true∧∀w',Below R.heap.size R w'→Oper.quietUpon P (fun w''=>Below w'.heap.size w' w'') w' v ((execOp a.eval o).run P w'))∨
 (Region.wanted o (yielded ops.toArray a.tmps)=false∧v=undef)
section
variable {E:Env} {Z:Base} {F:Nat→Prop} {N:Nm} {s:St} {a:Act} {R:World}
theorem A8h (h:Rel Z F N s a R) {dst:Option Tmp} {x:A} {ps qs:List Prop} {s':St} (he:A8g s dst x ps=some (s',qs)) (hW:∀d,dst=some d→Z.W d) {v:Value} (hv:Hv F N s.nx R x v):qs=ps∧Rel Z F N s' (a.put dst v) R:=by
 unfold A8g at he
 split at he
 ·rename_i d
  cases hb:Nat.blt d s.n with
  |false=>rw[hb] at he;cases he
  |true=>
   rw[hb] at he
   cases he
   exact⟨rfl,h.put (Nat.le_of_ble_eq_true hb) (hW d rfl) v ((Ab hv.isPlain).2 hv)⟩
 ·cases he
  exact⟨rfl,h⟩
theorem Bec (ok:EnvOk E) (h:Rel Z F N s a R) {ops:List Oper} {o:Oper} {s':St} {ps:List Prop} (he:Aah E ops s o=some (s',ps)) (hp:∀p∈ps,p) (hW:∀d,o.dst=some d→Z.W d):
  ∃v,Rel Z F N s' (a.put o.dst v) R∧Bll E.P ops o a R v:=by
 have go:∀{G:Guards} {x:A} {qs:List Prop},OJ (Bl a) G→Up E s G o=some (x,qs)→(∀p∈qs,p)→∃v,Hv F N s.nx R x v∧∀R',Below R.heap.size R R'→Oper.quietUpon E.P (fun R''=>Below R'.heap.size R' R'') R' v ((execOp a.eval o).run E.P R'):=fun {G x qs} hG hq hqs=>by
  unfold Up at hq
  cases hl:Av7 o.op with
  |true=>rw[hl] at hq;cases hq
  |false=>rw[hl] at hq;exact Bj3 ok h hG hq hqs
 unfold Aah at he
 split at he
 ·rename_i hg
  split at he<;>first|(cases he;done)|skip
  rename_i x qs hq
  have hqs:qs=ps:=by
   unfold A8g at he
   split at he
   ·rename_i d _
    cases hb:Nat.blt d s.n with
    |false=>rw[hb] at he;cases he
    |true=>rw[hb] at he;cases he;rfl
   ·cases he;rfl
  subst hqs
  obtain⟨v,h1,h2⟩:=go (HN _) hq hp
  exact⟨v,(A8h h he hW h1).2,.inl ⟨K5 hg _,h2⟩⟩
 ·rename_i j b hg
  split at he<;>first|(cases he;done)|skip
  rename_i u hu
  have wt:=Aev hg hu a
  have wf:Bl a u≠.bool b→Region.wanted o (yielded ops.toArray a.tmps)=false:=fun hn=>by
   cases hw:Region.wanted o (yielded ops.toArray a.tmps) with
   |false=>rfl
   |true=>exact absurd (wt.1 hw) hn
  split at he
  ·split at he<;>first|(cases he;done)|skip
   rename_i c hc
   have hcu:Bl a u=.bool c:=D7 h (HN _) hc
   split at he
   ·rename_i hb
    have hcb:=YB hb
    rw[hcb] at hcu
    split at he<;>first|(cases he;done)|skip
    rename_i x qs hq
    have hqs:qs=ps:=by
     unfold A8g at he
     split at he
     ·rename_i d _
      cases hb:Nat.blt d s.n with
      |false=>rw[hb] at he;cases he
      |true=>rw[hb] at he;cases he;rfl
     ·cases he;rfl
    subst hqs
    obtain⟨v,h1,h2⟩:=go (YN h 5 u b hcu) hq hp
    exact⟨v,(A8h h he hW h1).2,.inl ⟨wt.2 hcu,h2⟩⟩
   ·rename_i hb
    refine⟨undef,(A8h h he hW (.v _)).2,.inr ⟨wf fun e=>?_,rfl⟩⟩
    rw[hcu] at e
    cases e
    cases b<;>cases hb
  ·split at he<;>first|(cases he;done)|skip
   rename_i x qs hq
   split at he<;>first|(cases he;done)|skip
   rename_i d hd
   cases hb:Nat.blt d s.n with
   |false=>rw[hb] at he;cases he
   | true=>
    cases hdu:Nat.beq d u with
    |true=>rw[hb,hdu] at he;cases he
    | false=>
     rw[hb,hdu] at he
     cases he
     have hne:u≠d:=fun e=>by subst e;simp at hdu
     have hdn:=Nat.le_of_ble_eq_true hb
     by_cases hw:Bl a u=.bool b
     ·have hG:=YN h 5 u b hw
      obtain⟨v,h1,h2⟩:=go hG hq (Na hp (SA h hG (Avd h 5 u b hw)))
      refine⟨v,?_,.inl ⟨wt.2 hw,h2⟩⟩
      rw[hd]
      refine h.put (x:=.opt u b x) hdn (hW d hd) v ?_
      simp only[HS]
      exact⟨fun _=>(Ab h1.isPlain).2 h1,fun hn=>absurd (by rw[MI _ hne];exact hw) hn⟩
     ·refine⟨undef,?_,.inr ⟨wf hw,rfl⟩⟩
      rw[hd]
      refine h.put (x:=.opt u b x) hdn (hW d hd) undef ?_
      simp only[HS]
      exact⟨fun hn=>absurd (by rw[MI _ hne] at hn;exact hn) hw,fun _=>trivial⟩
end
abbrev IA:=Cnd×St
def Aqs:List D4→List D4
 | []=>[]
 |(c,k,s,ps)::r=>(c,Nat.max 1 k,s,ps)::Aqs r
def Bf6 (ops:List Oper) (s:St) (o:Oper):Option (St×List Prop):=match o.guard with
 | some (j,b)=>match A3w ops j with
  | some u=>match s.raw [] (.tmp u) with
   |some (.bool c)=>match Aqf s o with
    |some s'=>some (s',[c=!b])
    |none=>none
   |some (.tuple _)=>match Aqf s o with
    |some s'=>some (s',[])
    |none=>none
   |_=>none
  |none=>none
 |none=>none
def LK (E:Env) (ops:List Oper) (s:St) (o:Oper):Option (List D4):=match Aah E ops s o with
 |some (s',ps)=>some [(none,0,s',ps)]
 | none=>match Abl E ops s o with
  |some (x::r)=>some (Aqs (x::r))
  |_=>match Bf6 ops s o with
   |some (s',ps)=>some [(none,0,s',ps)]
   |none=>none
def St.open1 (s:St) (u u2:Nat) (b2:Bool) (y:A):St:={s with t:=(u,y)::(u2,.v (.bool b2))::s.t}
def Bbj (c:Cnd):List D4→List D4
 | []=>[]
 |(d,k,s,ps)::r=>(LV c d,k,s,ps)::Bbj c r
def Og (E:Env) (ops:List Oper) (s:St) (o:Oper):Option (List D4):=match LK E ops s o with
 |some l=>some l
 | none=>match o.guard with
  | some (j,_)=>match A3w ops j with
   | some u=>match s.get u with
    | some (.opt u2 b2 y)=>match s.raw [] (.tmp u2) with
     |some (.bool c)=>match LK E ops (s.open1 u u2 b2 y) o,LK E ops (s.open1 u u2 (!b2) (.v undef)) o with
      |some l1,some l2=>some (Bbj (some (bif b2 then c else !c)) l1++l2)
      |_,_=>none
     |_=>none
    |_=>none
   |none=>none
  |none=>none
def Bci (c:Cnd):List D4→List IA
 | []=>[]
 |(d,_,s,_)::r=>(LV c d,s)::Bci c r
def Bs2 (c:Cnd):List D4→List Prop
 | []=>[]
 |(d,_,_,ps)::r=>Wm (Bv4 (LV c d)) ps++Bs2 c r
def La (E:Env) (ops:List Oper) (o:Oper):List IA→Option (Nat×List IA×List Prop)
 | []=>some (0,[],[])
 | (c,s)::r=>match Og E ops s o with
  |some l=>match La E ops o r with
   |some (k,r',qs)=>some (Nat.max (EI l) k,Bci c l++r',Bs2 c l++qs)
   |none=>none
  |none=>none
def onP:List IA→(St→Prop)→Prop
 | [],_=>False
 |(c,s)::r,K=>(Bm c=true∧K s)∨(Bm c=false∧onP r K)
theorem Xs {K K':St→Prop} (hk:∀s,K s→K' s):∀{l:List IA},onP l K→onP l K'
 | [],h=>h
 |_::_,h=>h.imp (fun⟨a,b⟩=>⟨a,hk _ b⟩) (fun⟨a,b⟩=>⟨a,Xs hk b⟩)
theorem S7 {c:Cnd} {K:St→Prop} {r':List IA} (hc:Bm c=true):∀{l:List D4},onL l K→onP (Bci c l++r') K
 | [],h=>h.elim
 |(d,k,s,ps)::r,h=>by
  rcases h with⟨h1,h2⟩|⟨h1,h2⟩
  ·exact .inl ⟨by rw[Bq,hc,h1];rfl,h2⟩
  ·exact .inr ⟨by rw[Bq,hc,h1];rfl,S7 hc h2⟩
theorem S8 {c:Cnd} {K:St→Prop} {r':List IA} (hc:Bm c=false) (h:onP r' K):∀{l:List D4},onP (Bci c l++r') K
 | []=>h
 |(d,k,s,ps)::r=> .inr ⟨by rw[Bq,hc];rfl,S8 hc h⟩
theorem Awp {c:Cnd} (hc:Bm c=true):∀{l:List D4},(∀p∈Bs2 c l,p)→Oe l
 | [],_=>trivial
 |(d,k,s,ps)::r,h=>by
  refine⟨fun hd=>Na (fun p hm=>h p (List.mem_append.2 (.inl hm))) (Blz (by rw[Bq,hc,hd];rfl)),Awp hc fun p hm=>h p (List.mem_append.2 (.inr hm))⟩
theorem VU {K:St→Prop}:∀{l:List D4},onL l K→onL (Aqs l) K
 | [],h=>h
 |_::_,h=>h.imp id fun⟨a,b⟩=>⟨a,VU b⟩
theorem A3n:∀{l:List D4},Oe (Aqs l)→Oe l
 | [],h=>h
 |_::r,⟨h1,h2⟩=>⟨h1,A3n (l:=r) h2⟩
theorem A3m:∀{l:List D4},EI l≤EI (Aqs l)
 | []=>Nat.le_refl _
 |(c,k,s,ps)::r=>by
  show Nat.max k (EI r)≤Nat.max (Nat.max 1 k) (EI (Aqs r))
  have:=A3m (l:=r)
  exact Nat.max_le.2 ⟨Nat.le_trans (Nat.le_max_right ..) (Nat.le_max_left ..),Nat.le_trans this (Nat.le_max_right ..)⟩
section
variable {E:Env} {Z:Base} {F:Nat→Prop} {N:Nm} {s:St} {a:Act} {R:World}
theorem Bin {P:Program} {o:Oper} {v:Value} {K:Value→World→Prop} (h:Oper.quietUpon P (fun w''=>Below R.heap.size R w'') R v ((execOp a.eval o).run P R)) (hk:∀R',Below R.heap.size R R'→K v R'):Ke P K ((execOp a.eval o).run P R):=by
 have hr:=Below.refl R.heap.size R
 generalize (execOp a.eval o).run P R=r at*
 cases r with
 |halt x w=>exact h.elim
 | ok n w=>
  cases n<;>simp only[Oper.quietUpon] at h<;>simp only[Ke]
  case value y=>
   obtain⟨e1,e2⟩:=h
   rw[e1,e2]
   exact hk _ hr
  case skip=>
   obtain⟨e1,e2⟩:=h
   rw[e1,←e2]
   exact hk _ hr
  case enter f args=>
   obtain⟨e1,hc⟩:=h
   rw[e1]
   exact hc.mono fun e w'' ⟨he,hw''⟩=>⟨v,he,hk _ hw''⟩
theorem Bf7 (h:Rel Z F N s a R) {ops:List Oper} {o:Oper} {s':St} {ps:List Prop} (he:Bf6 ops s o=some (s',ps)) (hp:∀p∈ps,p) (hW:∀d,o.dst=some d→Z.W d):
  Region.wanted o (yielded ops.toArray a.tmps)=false∧Rel Z F N s' (a.put o.dst undef) R:=by
 unfold Bf6 at he
 split at he<;>first|(cases he;done)|skip
 rename_i j b hg
 split at he<;>first|(cases he;done)|skip
 rename_i u hu
 have wt:=Aev hg hu a
 split at he<;>first|(cases he;done)|skip
 ·rename_i c hc
  split at he<;>first|(cases he;done)|skip
  rename_i s1 hs
  cases he
  have hcb:c=!b:=hp _ (List.mem_singleton.2 rfl)
  have hcu:Bl a u=.bool c:=D7 h (HN _) hc
  refine⟨?_,Aix h hs hW⟩
  cases hw:Region.wanted o (yielded ops.toArray a.tmps) with
  |false=>rfl
  |true=>
   have:=wt.1 hw
   rw[hcu,hcb] at this
   cases b<;>cases this
 ·rename_i xs hc
  split at he<;>first|(cases he;done)|skip
  rename_i s1 hs
  cases he
  have hcu:Bl a u=.tuple xs:=D7 h (HN _) hc
  refine⟨?_,Aix h hs hW⟩
  cases hw:Region.wanted o (yielded ops.toArray a.tmps) with
  |false=>rfl
  |true=>
   have:=wt.1 hw
   rw[hcu] at this
   cases this
theorem Axk (ok:EnvOk E) (h:Rel Z F N s a R) {ops:List Oper} {o:Oper} {l:List D4} (he:LK E ops s o=some l) (hp:Oe l) (hW:∀d,o.dst=some d→Z.W d):
  (Region.wanted o (yielded ops.toArray a.tmps)=true∧Ke E.P (fun v R'=>(EI l≤1→Below R.heap.size R R')∧onL l fun s'=>∃F' N',Rel Z F' N' s' (a.put o.dst v) R') ((execOp a.eval o).run E.P R))∨
  (Region.wanted o (yielded ops.toArray a.tmps)=false∧onL l fun s'=>∃F' N',Rel Z F' N' s' (a.put o.dst undef) R):=by
 unfold LK at he
 split at he
 ·rename_i s' ps hq
  cases he
  obtain⟨v,h1,h2⟩:=Bec ok h hq (hp.1 rfl) hW
  rcases h2 with⟨h2,h3⟩|⟨h2,rfl⟩
  ·exact .inl ⟨h2,Bin (h3 R (Below.refl _ _)) fun R' hb=>⟨fun _=>hb,.inl ⟨rfl,F,N,h1.grow hb⟩⟩⟩
  ·exact .inr ⟨h2,.inl ⟨rfl,F,N,h1⟩⟩
 ·split at he
  ·rename_i x r hs
   cases he
   rcases Bt5 ok h hs (A3n hp) hW with⟨h1,h2⟩|⟨h1,h2⟩
   ·exact .inl ⟨h1,DN h2 fun v R' ⟨h3,h4⟩=>⟨fun hk=>h3 (Nat.le_trans A3m hk),VU h4⟩⟩
   ·exact .inr ⟨h1,VU h2⟩
  ·split at he<;>first|(cases he;done)|skip
   rename_i s' ps hs
   cases he
   obtain⟨h1,h2⟩:=Bf7 h hs (hp.1 rfl) hW
   exact .inr ⟨h1,.inl ⟨rfl,F,N,h2⟩⟩
theorem Xw (ok:EnvOk E) (h:Rel Z F N s a R) {ops:List Oper} {o:Oper} {l:List D4} (he:LK E ops s o=some l) (hk:EI l=0) (hp:Oe l) (hW:∀d,o.dst=some d→Z.W d):
  ∃v,(onL l fun s'=>∃F' N',Rel Z F' N' s' (a.put o.dst v) R)∧Bll E.P ops o a R v:=by
 unfold LK at he
 split at he
 ·rename_i s' ps hq
  cases he
  obtain⟨v,h1,h2⟩:=Bec ok h hq (hp.1 rfl) hW
  exact⟨v,.inl ⟨rfl,F,N,h1⟩,h2⟩
 ·split at he
  ·rename_i x r hs
   cases he
   obtain⟨c,k,s',ps⟩:=x
   have hk':Nat.max (Nat.max 1 k) (EI (Aqs r))=0:=hk
   exact absurd (Nat.le_trans (Nat.le_trans (Nat.le_max_left 1 k) (Nat.le_max_left (Nat.max 1 k) (EI (Aqs r)))) (Nat.le_of_eq hk')) (by decide)
  ·split at he<;>first|(cases he;done)|skip
   rename_i s' ps hs
   cases he
   obtain⟨h1,h2⟩:=Bf7 h hs (hp.1 rfl) hW
   exact⟨undef,.inl ⟨rfl,F,N,h2⟩,.inr ⟨h1,rfl⟩⟩
theorem Ow {c:Cnd} {K:St→Prop} {r:List D4} (hc:Bm c=true):∀{l:List D4},onL l K→onL (Bbj c l++r) K
 | [],h=>h.elim
 |(d,k,s,ps)::_,h=>by
  rcases h with⟨h1,h2⟩|⟨h1,h2⟩
  ·exact .inl ⟨by rw[Bq,hc,h1];rfl,h2⟩
  ·exact .inr ⟨by rw[Bq,hc,h1];rfl,Ow hc h2⟩
theorem MO {c:Cnd} {K:St→Prop} {r:List D4} (hc:Bm c=false) (h:onL r K):∀{l:List D4},onL (Bbj c l++r) K
 | []=>h
 |(d,k,s,ps)::_=> .inr ⟨by rw[Bq,hc];rfl,MO hc h⟩
theorem YW {c:Cnd} {r:List D4}:∀{l:List D4},Oe (Bbj c l++r)→(Bm c=true→Oe l)∧Oe r
 | [],h=>⟨fun _=>trivial,h⟩
 |(d,k,s,ps)::_,⟨h1,h2⟩=>⟨fun hc=>⟨fun hd=>h1 (by rw[Bq,hc,hd];rfl),(YW h2).1 hc⟩,(YW h2).2⟩
theorem Akb {c:Cnd} {r:List D4}:∀{l:List D4},EI (Bbj c l++r)=Nat.max (EI l) (EI r)
 | []=>by show EI r=Nat.max 0 (EI r);exact(Nat.max_eq_right (Nat.zero_le _)).symm
 |(d,k,s,ps)::l=>by
  show Nat.max k (EI (Bbj c l++r))=Nat.max (Nat.max k (EI l)) (EI r)
  rw[Akb]
  exact(Nat.max_assoc _ _ _).symm
theorem Bd4 (h:Rel Z F N s a R) {u u2:Nat} {b2:Bool} {y:A} (hu:HS F N s.nx R (Bl a) y (Bl a u)) (hu2:Bl a u2=.bool b2):Rel Z F N (s.open1 u u2 b2 y) a R:=
 ⟨h.defers,h.size,fun v x hv=>by
  have hv':(bif Nat.beq u v then some y else bif Nat.beq u2 v then some (A.v (.bool b2)) else D6 v s.t)=some x:=hv
  cases hb:Nat.beq u v with
  |true=>
   rw[hb] at hv'
   obtain rfl:=Nat.eq_of_beq_eq_true hb
   cases hv'
   exact hu
  | false=>
   rw[hb] at hv'
   cases hb2:Nat.beq u2 v with
   |true=>
    rw[hb2] at hv'
    obtain rfl:=Nat.eq_of_beq_eq_true hb2
    cases hv'
    rw[hu2]
    exact(Ab rfl).2 (.v _)
   |false=>rw[hb2] at hv';exact h.slots v x hv',h.hp,h.st,h.tm⟩
theorem Axf (h:Rel Z F N s a R) {u u2:Nat} {b2 c:Bool} {y:A} (hg:s.get u=some (.opt u2 b2 y)) (hc:s.raw [] (.tmp u2)=some (.bool c)):
  (Bm (some (bif b2 then c else !c))=true∧Rel Z F N (s.open1 u u2 b2 y) a R)∨(Bm (some (bif b2 then c else !c))=false∧Rel Z F N (s.open1 u u2 (!b2) (.v undef)) a R):=by
 have hcu:Bl a u2=.bool c:=D7 h (HN _) hc
 have hs:=h.slots u _ hg
 simp only[HS] at hs
 cases hcb:(bif b2 then c else !c) with
 |true=>
  have e:=A3l hcb
  subst e
  exact .inl ⟨rfl,Bd4 h (hs.1 hcu) hcu⟩
 |false=>
  have e:=Auf hcb
  refine .inr ⟨rfl,Bd4 h ?_ (by rw[hcu,e])⟩
  rw[hs.2 (by rw[hcu,e];cases b2<;>simp)]
  exact(Ab rfl).2 (.v _)
theorem Bte (ok:EnvOk E) (h:Rel Z F N s a R) {ops:List Oper} {o:Oper} {l:List D4} (he:Og E ops s o=some l) (hp:Oe l) (hW:∀d,o.dst=some d→Z.W d):
  (Region.wanted o (yielded ops.toArray a.tmps)=true∧Ke E.P (fun v R'=>(EI l≤1→Below R.heap.size R R')∧onL l fun s'=>∃F' N',Rel Z F' N' s' (a.put o.dst v) R') ((execOp a.eval o).run E.P R))∨
  (Region.wanted o (yielded ops.toArray a.tmps)=false∧onL l fun s'=>∃F' N',Rel Z F' N' s' (a.put o.dst undef) R):=by
 unfold Og at he
 split at he
 ·rename_i l' hl
  cases he
  exact Axk ok h hl hp hW
 ·split at he<;>first|(cases he;done)|skip
  split at he<;>first|(cases he;done)|skip
  split at he<;>first|(cases he;done)|skip
  rename_i u2 b2 y hg
  split at he<;>first|(cases he;done)|skip
  rename_i c hc
  split at he<;>first|(cases he;done)|skip
  rename_i l1 l2 h1 h2
  cases he
  obtain⟨n1,n2⟩:=YW hp
  rw[Akb]
  rcases Axf h hg hc with⟨e,hr⟩|⟨e,hr⟩
  ·rcases Axk ok hr h1 (n1 e) hW with⟨g1,g2⟩|⟨g1,g2⟩
   ·exact .inl ⟨g1,DN g2 fun v R' ⟨g3,g4⟩=>⟨fun hk=>g3 (Nat.le_trans (Nat.le_max_left ..) hk),Ow e g4⟩⟩
   ·exact .inr ⟨g1,Ow e g2⟩
  ·rcases Axk ok hr h2 n2 hW with⟨g1,g2⟩|⟨g1,g2⟩
   ·exact .inl ⟨g1,DN g2 fun v R' ⟨g3,g4⟩=>⟨fun hk=>g3 (Nat.le_trans (Nat.le_max_right ..) hk),MO e g4⟩⟩
   ·exact .inr ⟨g1,MO e g2⟩
theorem Bd8 (ok:EnvOk E) (h:Rel Z F N s a R) {ops:List Oper} {o:Oper} {l:List D4} (he:Og E ops s o=some l) (hk:EI l=0) (hp:Oe l) (hW:∀d,o.dst=some d→Z.W d):
  ∃v,(onL l fun s'=>∃F' N',Rel Z F' N' s' (a.put o.dst v) R)∧Bll E.P ops o a R v:=by
 unfold Og at he
 split at he
 ·rename_i l' hl
  cases he
  exact Xw ok h hl hk hp hW
 ·split at he<;>first|(cases he;done)|skip
  split at he<;>first|(cases he;done)|skip
  split at he<;>first|(cases he;done)|skip
  rename_i u2 b2 y hg
  split at he<;>first|(cases he;done)|skip
  rename_i c hc
  split at he<;>first|(cases he;done)|skip
  rename_i l1 l2 h1 h2
  cases he
  obtain⟨n1,n2⟩:=YW hp
  rw[Akb] at hk
  have hk1:EI l1=0:=Nat.le_zero.1 (Nat.le_trans (Nat.le_max_left (EI l1) (EI l2)) (Nat.le_of_eq hk))
  have hk2:EI l2=0:=Nat.le_zero.1 (Nat.le_trans (Nat.le_max_right (EI l1) (EI l2)) (Nat.le_of_eq hk))
  rcases Axf h hg hc with⟨e,hr⟩|⟨e,hr⟩
  ·obtain⟨v,g1,g2⟩:=Xw ok hr h1 hk1 (n1 e) hW
   exact⟨v,Ow e g1,g2⟩
  ·obtain⟨v,g1,g2⟩:=Xw ok hr h2 hk2 n2 hW
   exact⟨v,MO e g1,g2⟩
abbrev At (Z:Base) (A:Act) (w:World):St→Prop:=fun s=>∃F N,Rel Z F N s A w
theorem Afo (ok:EnvOk E) {ops:List Oper} {o:Oper} (hW:∀d,o.dst=some d→Z.W d):∀{l l':List IA} {qs:List Prop},La E ops o l=some (0,l',qs)→(∀q∈qs,q)→onP l (At Z a R)→∃v,onP l' (At Z (a.put o.dst v) R)∧Bll E.P ops o a R v
 | [],l',qs,he,_,h=>h.elim
 | (c,s)::r,l',qs,he,hp,h=>by
  unfold La at he
  split at he<;>first|(cases he;done)|skip
  rename_i l1 h1
  split at he<;>first|(cases he;done)|skip
  rename_i k r' qs' h2
  injection he with he
  injection he with hk he
  injection he with e1 e2
  subst e1 e2
  have hk1:EI l1=0:=Nat.le_zero.1 (Nat.le_trans (Nat.le_max_left (EI l1) k) (Nat.le_of_eq hk))
  have hk2:k=0:=Nat.le_zero.1 (Nat.le_trans (Nat.le_max_right (EI l1) k) (Nat.le_of_eq hk))
  rcases h with⟨hc,F,N,hr⟩|⟨hc,h⟩
  ·obtain⟨v,g1,g2⟩:=Bd8 ok hr h1 hk1 (Awp hc fun p hm=>hp p (List.mem_append.2 (.inl hm))) hW
   exact⟨v,S7 hc g1,g2⟩
  ·subst hk2
   obtain⟨v,g1,g2⟩:=Afo ok hW h2 (fun p hm=>hp p (List.mem_append.2 (.inr hm))) h
   exact⟨v,S8 hc g1,g2⟩
theorem Ajt (ok:EnvOk E) {ops:List Oper} {o:Oper} (hW:∀d,o.dst=some d→Z.W d):∀{l l':List IA} {k:Nat} {qs:List Prop},La E ops o l=some (k,l',qs)→(∀q∈qs,q)→onP l (At Z a R)→
  (Region.wanted o (yielded ops.toArray a.tmps)=true∧Ke E.P (fun v R'=>(k≤1→Below R.heap.size R R')∧onP l' (At Z (a.put o.dst v) R')) ((execOp a.eval o).run E.P R))∨
  (Region.wanted o (yielded ops.toArray a.tmps)=false∧onP l' (At Z (a.put o.dst undef) R))
 | [],l',k,qs,he,_,h=>h.elim
 | (c,s)::r,l',k,qs,he,hp,h=>by
  unfold La at he
  split at he<;>first|(cases he;done)|skip
  rename_i l1 h1
  split at he<;>first|(cases he;done)|skip
  rename_i k' r' qs' h2
  cases he
  rcases h with⟨hc,F,N,hr⟩|⟨hc,h⟩
  ·rcases Bte ok hr h1 (Awp hc fun p hm=>hp p (List.mem_append.2 (.inl hm))) hW with⟨g1,g2⟩|⟨g1,g2⟩
   ·exact .inl ⟨g1,DN g2 fun v R' ⟨g3,g4⟩=>⟨fun hk=>g3 (Nat.le_trans (Nat.le_max_left ..) hk),S7 hc g4⟩⟩
   ·exact .inr ⟨g1,S7 hc g2⟩
  ·rcases Ajt ok hW h2 (fun p hm=>hp p (List.mem_append.2 (.inr hm))) h with⟨g1,g2⟩|⟨g1,g2⟩
   ·exact .inl ⟨g1,DN g2 fun v R' ⟨g3,g4⟩=>⟨fun hk=>g3 (Nat.le_trans (Nat.le_max_right ..) hk),S8 hc g4⟩⟩
   ·exact .inr ⟨g1,S8 hc g2⟩
end
end Go.Proofs.Yteebobbhhgmeiaa
namespace Go.Proofs.Yteebobbhhgmeiaa
open Go.RowKit
theorem BH {α:Type} {b:Bool} {x:Option α} {y:α} (h:(bif b then x else none)=some y):x=some y:=by cases b<;>first|exact h|cases h
theorem Auc {α:Type} {b:Bool} {x:Option α} {y:α} (h:(bif b then none else x)=some y):x=some y:=by cases b<;>first|exact h|cases h
theorem Bnz (o:Objs) (d:Option Nat):∃e,Ajo o d=e++o:=by
 cases d with
 |none=>exact⟨[],rfl⟩
 |some i=>exact⟨[(i,none)],rfl⟩
section
variable {E:Env} {s:St} {G:Guards}
theorem Bcm (ok:EnvOk E) {o:Oper} {f:Eff} (he:Bn1 E s G o=some f):∃d,f.o=d++s.o:=by
 obtain⟨dst,op,type,pos,after,guard⟩:=o
 unfold Bn1 at he
 simp only at he
 split at he
 ·unfold At6 at he
  repeat' (first|(cases he;done)|(replace he:=BH he)|split at he)
  all_goals (cases he;exact⟨[_],rfl⟩)
 ·unfold Brg at he
  repeat' (first|(cases he;done)|(replace he:=BH he)|split at he)
  all_goals (cases he;exact⟨[_],rfl⟩)
 ·unfold Bf5 at he
  repeat' (first|(cases he;done)|(replace he:=BH he)|split at he)
  all_goals (cases he;exact⟨[_],rfl⟩)
 ·unfold Sb at he
  repeat' (first|(cases he;done)|(replace he:=BH he)|split at he)
  all_goals (generalize Nat.beq _ 0=bb at he;cases bb<;>(cases he;first|exact⟨[],rfl⟩|exact⟨[_],rfl⟩))
 ·unfold Atk at he
  repeat' (first|(cases he;done)|(replace he:=BH he)|split at he)
  all_goals (cases he;exact⟨[_],rfl⟩)
 ·unfold Y2 at he
  repeat' (first|(cases he;done)|(replace he:=BH he)|split at he)
  all_goals (cases he;exact⟨[],rfl⟩)
 ·split at he<;>first|(cases he;done)|skip
  unfold Bvt at he
  repeat' (first|(cases he;done)|(replace he:=BH he)|split at he)
  all_goals (cases he;first|exact⟨[_],rfl⟩|exact⟨[_,_,_],rfl⟩|(obtain⟨e,h⟩:=Bnz s.o _;exact⟨_::e,by show _::Ajo _ _=_;rw[h];rfl⟩))
 ·split at he<;>first|(cases he;done)|skip
  unfold Bl2 at he
  repeat' (first|(cases he;done)|(replace he:=BH he)|split at he)
  all_goals (cases he;exact⟨[_],rfl⟩)
 ·unfold YD at he
  split at he
  ·cases he;exact⟨[],rfl⟩
  split at he<;>first|(cases he;done)|skip
  rename_i k x nx' o' ps hr
  cases he
  unfold Bbz at hr
  repeat' (first|(cases hr;done)|(replace hr:=BH hr)|split at hr)
  exact ok.suf _ _ _ _ _ _ _ _ _ hr
 ·unfold A9a at he
  repeat' (first|(cases he;done)|split at he)
  all_goals (cases he;exact⟨[_],rfl⟩)
 ·unfold Bmo at he
  repeat' (first|(cases he;done)|(replace he:=BH he)|split at he)
  all_goals (cases he;exact⟨[_],rfl⟩)
 ·unfold A7w at he
  replace he:=BH he
  cases he
  exact⟨[_],rfl⟩
 ·unfold A7p at he
  repeat' (first|(cases he;done)|(replace he:=BH he)|split at he)
  all_goals (cases he;exact⟨[_],rfl⟩)
 ·cases he
theorem Bw4 (ok:EnvOk E) {o:Oper} {f:Eff} (he:opE E s G o=some f):∃d,f.o=d++s.o:=by
 unfold opE at he
 cases hl:Av7 o.op with
 |true=>rw[hl] at he;exact Bcm ok he
 |false=>
  rw[hl] at he
  simp only[cond_false] at he
  split at he
  ·cases he;exact⟨[],rfl⟩
  ·exact Bcm ok he
theorem Sub.put (s:St) (u:Nat) (x:A):Sub s (s.put u x):=⟨rfl,[],rfl⟩
theorem Sub.lit (s:St) (u:Nat) (b:Bool):Sub s (s.lit u b):=⟨rfl,[],rfl⟩
theorem Btl {dst:Option Tmp} {f:Eff} {s':St} (he:XH s dst f=some s') (hf:∃d,f.o=d++s.o):Sub s s':=by
 unfold XH at he
 split at he
 ·replace he:=BH he
  cases he
  exact⟨rfl,hf⟩
 ·cases he
  exact⟨rfl,hf⟩
theorem Amu {o:Oper} {s':St} (he:Aqf s o=some s'):Sub s s':=by
 unfold Aqf at he
 split at he
 ·replace he:=BH he
  cases he
  exact Sub.put _ _ _
 ·cases he
  exact Sub.refl _
theorem A6p (ok:EnvOk E) {o:Oper} {c c':Cnd} {ps ps':List Prop} {k:Nat} {s':St} (he:doE E s G o c ps=some (c',k,s',ps')):Sub s s':=by
 unfold doE at he
 split at he<;>first|(cases he;done)|skip
 rename_i f hf
 split at he<;>first|(cases he;done)|skip
 rename_i s1 hs
 cases he
 exact Btl hs (Bw4 ok hf)
theorem Axp {dst:Option Tmp} {x:A} {ps ps':List Prop} {s':St} (he:A8g s dst x ps=some (s',ps')):Sub s s':=by
 unfold A8g at he
 split at he
 ·replace he:=BH he
  cases he
  exact Sub.put _ _ _
 ·cases he
  exact Sub.refl _
theorem Bom {ops:List Oper} {o:Oper} {s':St} {ps:List Prop} (he:Aah E ops s o=some (s',ps)):Sub s s':=by
 unfold Aah at he
 split at he
 ·split at he<;>first|(cases he;done)|skip
  exact Axp he
 ·split at he<;>first|(cases he;done)|skip
  split at he
  ·split at he<;>first|(cases he;done)|skip
   split at he
   ·split at he<;>first|(cases he;done)|skip
    exact Axp he
   ·exact Axp he
  ·split at he<;>first|(cases he;done)|skip
   split at he<;>first|(cases he;done)|skip
   replace he:=BH he
   replace he:=Auc he
   cases he
   exact Sub.put _ _ _
def Aeo (s:St):List D4→Prop
 | []=>True
 |(_,_,s',_)::r=>Sub s s'∧Aeo s r
theorem A49 (ok:EnvOk E) {ops:List Oper} {o:Oper} {l:List D4} (he:Ol E ops s o=some l):Aeo s l:=by
 unfold Ol at he
 split at he
 ·split at he<;>first|(cases he;done)|skip
  rename_i x hx
  obtain⟨c,k,s',ps⟩:=x
  cases he
  exact⟨A6p ok hx,trivial⟩
 ·split at he<;>first|(cases he;done)|skip
  split at he
  ·split at he<;>first|(cases he;done)|skip
   split at he
   ·split at he<;>first|(cases he;done)|skip
    rename_i x hx
    obtain⟨c,k,s',ps⟩:=x
    cases he
    exact⟨A6p ok hx,trivial⟩
   ·split at he<;>first|(cases he;done)|skip
    rename_i s' hs
    cases he
    exact⟨Amu hs,trivial⟩
  ·split at he
   ·split at he<;>first|(cases he;done)|skip
    replace he:=BH he
    replace he:=Auc he
    cases he
    exact⟨Sub.put _ _ _,trivial⟩
   ·split at he<;>first|(cases he;done)|skip
    split at he<;>first|(cases he;done)|skip
    rename_i x s' hx hs
    obtain⟨c,k,s1,ps⟩:=x
    cases he
    exact⟨(Sub.lit _ _ _).trans (A6p ok hx),(Sub.lit _ _ _).trans (Amu hs),trivial⟩
theorem We:∀{l:List Nat} {s s':St} {ps:List Prop},Lc E l s=(s',ps)→Sub s s'
 | [],s,s',ps,he=>by cases he;exact Sub.refl _
 | i::r,s,s',ps,he=>by
  unfold Lc at he
  split at he
  ·rename_i s1 ps1 h1
   generalize h2:Lc E r s1=x at he
   obtain⟨s2,qs⟩:=x
   cases he
   obtain⟨e1,e2⟩:=Ab7 h1
   exact Sub.trans ⟨e1,e2⟩ (We h2)
  ·exact We he
theorem Aep {s1:St} (h:Sub s s1):∀{l:List D4},Aeo s1 l→Aeo s l
 | [],_=>trivial
 |_::_,⟨h1,h2⟩=>⟨h.trans h1,Aep h h2⟩
theorem A5a {ps:List Prop}:∀{l:List D4},Aeo s l→Aeo s (Bbf ps l)
 | [],_=>trivial
 |_::_,⟨h1,h2⟩=>⟨h1,A5a h2⟩
theorem A5b:∀{l:List D4},Aeo s l→Aeo s (Aqs l)
 | [],_=>trivial
 |_::_,⟨h1,h2⟩=>⟨h1,A5b h2⟩
theorem Bo9 (ok:EnvOk E) {ops:List Oper} {o:Oper} {l:List D4} (he:Abl E ops s o=some l):Aeo s l:=by
 unfold Abl at he
 split at he
 ·rename_i l' hl
  cases he
  exact A49 ok hl
 ·split at he<;>first|(cases he;done)|skip
  rename_i i r hc
  generalize hf:Lc E (i::r) s=x at he
  obtain⟨s',ps⟩:=x
  simp only at he
  split at he<;>first|(cases he;done)|skip
  rename_i l' hl
  replace he:=BH he
  split at he
  ·rename_i l2 hle
   cases he
   obtain⟨k,s1,qs,d,x,_,_,_,_,_,_,rfl⟩:=Bdj hle
   exact⟨Sub.put _ _ _,trivial⟩
  ·cases he
   exact A5a (Aep (We hf) (A49 ok hl))
theorem Bo8 {ops:List Oper} {o:Oper} {s':St} {ps:List Prop} (he:Bf6 ops s o=some (s',ps)):Sub s s':=by
 unfold Bf6 at he
 repeat' (first|(cases he;done)|split at he)
 all_goals (rename_i hs;cases he;exact Amu hs)
theorem Ald (ok:EnvOk E) {ops:List Oper} {o:Oper} {l:List D4} (he:LK E ops s o=some l):Aeo s l:=by
 unfold LK at he
 split at he
 ·rename_i s' ps hq
  cases he
  exact⟨Bom hq,trivial⟩
 ·split at he
  ·rename_i x r hs
   cases he
   exact A5b (Bo9 ok hs)
  ·split at he<;>first|(cases he;done)|skip
   rename_i s' ps hs
   cases he
   exact⟨Bo8 hs,trivial⟩
theorem Bge {s1:St} {c:Cnd} {r:List D4} (h:Sub s s1) (hr:Aeo s r):∀{l:List D4},Aeo s1 l→Aeo s (Bbj c l++r)
 | [],_=>hr
 |_::_,⟨h1,h2⟩=>⟨h.trans h1,Bge h hr h2⟩
theorem Bd5 (s:St) (u u2:Nat) (b2:Bool) (y:A):Sub s (s.open1 u u2 b2 y):=⟨rfl,[],rfl⟩
theorem Boi (ok:EnvOk E) {ops:List Oper} {o:Oper} {l:List D4} (he:Og E ops s o=some l):Aeo s l:=by
 unfold Og at he
 split at he
 ·rename_i l' hl
  cases he
  exact Ald ok hl
 ·repeat' (first|(cases he;done)|split at he)
  rename_i l1 l2 h1 h2
  cases he
  exact Bge (Bd5 _ _ _ _ _) (Aep (Bd5 _ _ _ _ _) (Ald ok h2)) (Ald ok h1)
def Amw (s:St):List IA→Prop
 | []=>True
 |(_,s')::r=>Sub s s'∧Amw s r
theorem A5c {s1:St} (h:Sub s s1) {c:Cnd} {r':List IA} (hr:Amw s r'):∀{l:List D4},Aeo s1 l→Amw s (Bci c l++r')
 | [],_=>hr
 |_::_,⟨h1,h2⟩=>⟨h.trans h1,A5c h hr h2⟩
theorem Ab6 (ok:EnvOk E) {ops:List Oper} {o:Oper}:∀{l l':List IA} {k:Nat} {qs:List Prop},La E ops o l=some (k,l',qs)→Amw s l→Amw s l'
 | [],l',k,qs,he,_=>by cases he;trivial
 |(c,s1)::r,l',k,qs,he,⟨h1,h2⟩=>by
  unfold La at he
  split at he<;>first|(cases he;done)|skip
  rename_i l1 g1
  split at he<;>first|(cases he;done)|skip
  rename_i k' r' qs' g2
  cases he
  exact A5c h1 (Ab6 ok g2 h2) (Boi ok g1)
end
def WZ (W:List Nat) (s0:St):List IA→St
 | []=>s0
 | [(_,s)]=>s
 |(c,s)::r=>Jy (Bm c) W s0 s (WZ W s0 r)
theorem Acm (W:List Nat) (s0:St):∀{l:List IA},Amw s0 l→Sub s0 (WZ W s0 l)
 | [],_=>Sub.refl _
 | [(_,_)],⟨h,_⟩=>h
 |(_,_)::_::_,_=>Sub.merge _ _ _ _ _
section
variable {Z:Base} {F F0:Nat→Prop} {N N0:Nm} {s0 s:St} {a a0:Act} {R R0:World} {W:List Nat}
theorem Rel.over (h0:Rel Z F0 N0 s0 a0 R0) (h:Rel (LA F0 N0 s0 a0 R0 W) F N s a R) (hW:∀u,Qc u W=true→Z.W u):Rel Z F N s a R:=
 ⟨h.defers,h.size,h.slots,h.hp,h0.st.trans h.st,fun u hu=>by
  rw[h.tm u fun hw=>hu (hW u hw)]
  exact h0.tm u hu⟩
theorem A4a (h0:Rel Z F0 N0 s0 a0 R0):∀{l:List IA},Amw s0 l→onP l (At (LA F0 N0 s0 a0 R0 W) a R)→At (LA F0 N0 s0 a0 R0 W) a R (WZ W s0 l)
 | [],_,h=>h.elim
 | [(c,s)],_,h=>by
  rcases h with⟨_,h⟩|⟨_,h⟩
  ·exact h
  ·exact h.elim
 | (c,s)::p::r,⟨h1,h2⟩,h=>by
  have e2:=Acm W s0 h2
  rcases h with⟨hc,F,N,h⟩|⟨hc,h⟩
  ·obtain⟨N',hr⟩:=Rel.merge (g:=Bm c) (s1:=s) (s2:=WZ W s0 (p::r)) (h0.start W) (by rw[hc];exact h) (fun _ h=>h) h1 e2
   exact⟨F,N',hr⟩
  ·obtain⟨F,N,h⟩:=A4a h0 h2 h
   obtain⟨N',hr⟩:=Rel.merge (g:=Bm c) (s1:=s) (s2:=WZ W s0 (p::r)) (h0.start W) (by rw[hc];exact h) (fun _ h=>h) h1 e2
   exact⟨F,N',hr⟩
end
def Sj:List Oper→List Nat
 | []=>[]
 |o::r=>match o.dst with
  |some d=>d::Sj r
  |none=>Sj r
def A3y (E:Env) (ops:List Oper):List Oper→List IA→Option (List IA×List Prop)
 | [],l=>some (l,[])
 | o::r,l=>match La E ops o l with
  |some (_,l',ps)=>match A3y E ops r l' with
   |some (l'',qs)=>some (l'',ps++qs)
   |none=>none
  |none=>none
theorem Bck:∀{l:List Oper} {o:Oper} {d:Nat},o∈l→o.dst=some d→Qc d (Sj l)=true
 | [],o,d,h,_=>by cases h
 | x::r,o,d,h,hd=>by
  rcases List.mem_cons.1 h with rfl|h
  ·unfold Sj
   rw[hd]
   show(bif Nat.beq d d then true else Qc d (Sj r))=true
   rw[M5];rfl
  ·have:=Bck h hd
   unfold Sj
   split
   ·rename_i e _
    show(bif Nat.beq e d then true else Qc d (Sj r))=true
    rw[this];cases Nat.beq e d<;>rfl
   ·exact this
section
variable {E:Env} {Z:Base} {a:Act} {R:World}
theorem Btc (ok:EnvOk E) {ops:List Oper} {Q:Exit→Act→World→Prop}:∀{l:List Oper} {P P':List IA} {ps:List Prop} {a:Act} {R:World},(∀o∈l,∀d,o.dst=some d→Z.W d)→onP P (At Z a R)→A3y E ops l P=some (P',ps)→(∀p∈ps,p)→
  (∀a' R',onP P' (At Z a' R')→Q .normal a' R')→wpList E.P ops.toArray Q l a R
 | [],P,P',ps,a,R,_,h,he,_,hk=>by
  cases he
  exact hk a R h
 | o::r,P,P',ps,a,R,hW,h,he,hp,hk=>by
  unfold A3y at he
  split at he<;>first|(cases he;done)|skip
  rename_i k P1 ps1 h1
  split at he<;>first|(cases he;done)|skip
  rename_i P2 ps2 h2
  cases he
  have next:∀a' R',onP P1 (At Z a' R')→wpList E.P ops.toArray Q r a' R':=fun a' R' h'=>Btc ok (fun o ho=>hW o (List.mem_cons_of_mem _ ho)) h' h2 (fun p hm=>hp p (List.mem_append.2 (.inr hm))) hk
  unfold wpList
  rcases Ajt ok (hW o (List.mem_cons_self ..)) h1 (fun p hm=>hp p (List.mem_append.2 (.inl hm))) h with⟨g1,g2⟩|⟨g1,g2⟩
  ·rw[if_pos g1]
   left
   exact Aja (DN g2 fun v R' ⟨_,g3⟩=>next _ _ g3)
  ·rw[if_neg (by rw[g1];exact Bool.false_ne_true)]
   exact next _ _ g2
theorem Ajs {s0:St} (ok:EnvOk E) {ops:List Oper}:∀{l:List Oper} {P P':List IA} {ps:List Prop},A3y E ops l P=some (P',ps)→Amw s0 P→Amw s0 P'
 | [],P,P',ps,he,h=>by cases he;exact h
 |o::r,P,P',ps,he,h=>by
  unfold A3y at he
  split at he<;>first|(cases he;done)|skip
  rename_i k P1 ps1 h1
  split at he<;>first|(cases he;done)|skip
  rename_i P2 ps2 h2
  cases he
  exact Ajs ok h2 (Ab6 ok h1 h)
end
def Bl7 (P:Program):Nat→TypeId→Bool
 |0,_=>true
 |d+1,t=>match P.underlying t with
  |some (.slice _)=>true
  |some (.struct fs)=>fs.toList.any fun f=>Bl7 P d f.type
  |some (.array _ e)=>Bl7 P d e
  |some (.tuple es)=>es.toList.any fun e=>Bl7 P d e
  |_=>false
def B25 (P:Program) (o:Oper):Bool:=match o.op with
 | .alloc _=>true
 | .box _ _=>true
 | .buildSlice _ _ _=>true
 | .makeSlice _ _ _=>true
 | .store _ _ _=>true
 | .range _ _=>true
 | .next _ _=>true
 | .makeMap _ _=>true
 | .mapUpdate _ _ _ _=>true
 | .convert _ dst _=>match P.underlying dst with
  |some (.slice _)=>true
  |_=>false
 | .call {callee:=.builtin .append, .. }=>true
 | .call {callee:=.builtin .copy, .. }=>true
 | .call {callee:=.value _, .. }=>Bl7 P 4 o.type
 |_=>false
def Brq (done:List Nat) (o:Oper):Bool:=o.after.toList.all fun e=>!Region.binds .any e||done.contains e.on
def Bmu (P:Program) (ops:List Oper):List Nat→List Nat→List Nat→List Nat×List Nat
 | [],done,left=>(done,left.reverse)
 |i::r,done,left=>match ops[i]? with
  |some o=>bif Brq done o&&!B25 P o then Bmu P ops r (i::done) left else Bmu P ops r done (i::left)
  |none=>Bmu P ops r done left
def Auy (P:Program) (o:Oper):Bool:=match o.op,o.guard with
 | .alloc e,none=>match(P.info? e).bind (·.zero) with
  |some _=>true
  |none=>false
 |_,_=>false
def By3 (P:Program) (o:Oper):Bool:=bif Auy P o then true else match o.op,o.guard with
 | .call {callee:=.value (.func _),args, .. },none=>args.toList.isEmpty
 |_,_=>false
def mkB (o:Oper):Bool:=match o.op,o.guard with
 | .buildSlice _ _ _,none=>true
 | .box _ _,none=>true
 |_,_=>false
def mkE (E:Env) (s:St) (o:Oper):Option Eff:=match o.op,o.guard with
 | .buildSlice t len parts,none=>bif Nat.beq len 0 then none else Sb E s [] t len parts.toList
 | .box e v,none=>Brg s [] e v
 |_,_=>none
def mkV:Op→Nat→Value
 | .buildSlice _ len _,g=> .slice (some ⟨g,0,none⟩) len len
 |_,g=> .pointer (some ⟨g,0,none⟩)
def B05 (P:Program) (o:Oper):Bool:=bif By3 P o then true else mkB o
def Aux (E:Env) (o:Oper):Bool:=bif Auy E.P o then true else match o.op,o.guard with
 | .call {callee:=.value f,args, .. },none=>(match Qm E f args.toList with
  |some _=>true
  |none=>false)
 |_,_=>false
def Bho (late:Oper→Bool) (sk:Bool) (ops:List Oper) (done:List Nat):List Nat→Option (Nat×List Nat)
 | []=>none
 | i::r=>match ops[i]? with
  |some o=>bif Brq done o&&!(sk&&late o) then some (i,r) else match Bho late sk ops done r with
   |some (m,l)=>some (m,i::l)
   |none=>none
  |none=>none
def Bmx (P:Program) (late:Oper→Bool) (ops:List Oper):Nat→List Nat→List Nat→List Nat
 |0,_,done=>done.reverse
 | n+1,todo,done=>match Bmu P ops todo done [] with
  | (done',left)=>match Bho late true ops done' left with
   |some (m,rest)=>Bmx P late ops n rest (m::done')
   |none=>match Bho late false ops done' left with
    |some (m,rest)=>Bmx P late ops n rest (m::done')
    |none=>done'.reverse
def B3h (P:Program) (ops:List Oper):List Nat:=Bmx P (By3 P) ops (ops.length+1) (List.range ops.length) []
def B2z (P:Program) (ops:List Oper):List Nat:=Bmx P (B05 P) ops (ops.length+1) (List.range ops.length) []
def evK (E:Env) (ops:List Oper):List Nat→List IA→Option (List Nat×List IA×List Prop)
 | [],l=>some ([],l,[])
 | i::r,l=>match ops[i]? with
  | some o=>match La E ops o l with
   |some (k,l',ps)=>match evK E ops r l' with
    |some (ks,l'',qs)=>some (k::ks,l'',ps++qs)
    |none=>none
   |none=>none
  |none=>none
def stK (E:Env) (ops:List Oper):List Nat→List IA→Nat→Option (List IA)
 |_,l,0=>some l
 | [],_,_+1=>none
 | i::r,l,k+1=>match ops[i]? with
  |some o=>match La E ops o l with
   |some (_,l',_)=>stK E ops r l' k
   |none=>none
  |none=>none
theorem A0f {E:Env} {ops:List Oper} {L:List Nat} {l:List IA}:stK E ops L l 0=some l:=by cases L<;>rfl
theorem Br2 {E:Env} {ops:List Oper}:∀{L:List Nat} {l:List IA} {ks:List Nat} {lF:List IA} {psF:List Prop},evK E ops L l=some (ks,lF,psF)→
  stK E ops L l L.length=some lF∧∀k,k <L.length→∃l1 o l2 ps2,ops[L.getD k 0]?=some o∧stK E ops L l k=some l1∧La E ops o l1=some (ks.getD k 0,l2,ps2)∧(∀p∈ps2,p∈psF)∧stK E ops L l (k+1)=some l2
 | [],l,ks,lF,psF,h=>by cases h;exact⟨rfl,fun k hk=>by cases hk⟩
 | i::r,l,ks,lF,psF,h=>by
  unfold evK at h
  split at h<;>first|(cases h;done)|skip
  rename_i o ho
  split at h<;>first|(cases h;done)|skip
  rename_i kd l' ps hst
  split at h<;>first|(cases h;done)|skip
  rename_i ks' l'' qs hr
  cases h
  obtain⟨h1,h2⟩:=Br2 hr
  have hs:∀k,stK E ops (i::r) l (k+1)=stK E ops r l' k:=fun k=>by
   show(match ops[i]? with|some o=>(match La E ops o l with|some (_,l',_)=>stK E ops r l' k|none=>none)|none=>none)=_
   rw[ho]
   simp only[hst]
  refine⟨by rw[List.length_cons,hs];exact h1,fun k hk=>?_⟩
  cases k with
  |zero=>exact⟨l,o,l',ps,ho,A0f,hst,fun p hp=>List.mem_append.2 (.inl hp),by rw[hs,A0f]⟩
  |succ k=>
   obtain⟨s1,o1,s2,ps2,g1,g2,g3,g5,g6⟩:=h2 k (by simpa using hk)
   exact⟨s1,o1,s2,ps2,by simpa using g1,by rw[hs];exact g2,by simpa using g3,fun p hp=>List.mem_append.2 (.inr (g5 p hp)),by rw[hs];exact g6⟩
theorem A6t {E:Env} {s0:St} (ok:EnvOk E) {ops:List Oper}:∀{L:List Nat} {P P':List IA} {ks:List Nat} {ps:List Prop},evK E ops L P=some (ks,P',ps)→Amw s0 P→Amw s0 P'
 | [],P,P',ks,ps,he,h=>by cases he;exact h
 |i::r,P,P',ks,ps,he,h=>by
  unfold evK at he
  split at he<;>first|(cases he;done)|skip
  split at he<;>first|(cases he;done)|skip
  rename_i k P1 ps1 h1
  split at he<;>first|(cases he;done)|skip
  rename_i ks2 P2 ps2 h2
  cases he
  exact A6t ok h2 (Ab6 ok h1 h)
def Bch (E:Env) (o o':Oper) (s:St):Bool:=match o.op,o'.op,o'.guard with
 | .load t x,.store t' x' v',none=>match s.ev [] x,s.ev [] x' with
  |some (.own i _),some (.own i' _)=>bif Nat.beq i i' then false else(match Agx E s [] t x,Bf5 E s [] t' x' v' with
   |some _,some _=>true
   |_,_=>false)
  |_,_=>false
 |_,_,_=>false
def Bcf (E:Env) (o o':Oper):List IA→Bool
 | []=>true
 |(_,s)::r=>bif Bch E o o' s then Bcf E o o' r else false
def Blind {α:Type} (P:Program) (m:Sem α):Prop:=∀w x w1,m.run P w=.ok x w1→w1=w∧∀w',m.run P w'=.ok x w'
section
variable {P:Program} {α β:Type}
theorem Blind.pure (x:α):Blind P (Pure.pure x:Sem α):=fun w y w1 h=>by
 have h':Result.ok x w=Result.ok y w1:=h
 cases h'
 exact⟨rfl,fun _=>rfl⟩
theorem Blind.bind {m:Sem α} {f:α→Sem β} (h:Blind P m) (k:∀x,Blind P (f x)):Blind P (m >>= f):=fun w y w1 he=>by
 rw[Sem.run_bind] at he
 cases hm:m.run P w with
 |halt e w2=>rw[hm] at he;cases he
 |ok x w2=>
  rw[hm] at he
  obtain⟨rfl,h2⟩:=h w x w2 hm
  obtain⟨rfl,h3⟩:=k x _ _ _ he
  exact⟨rfl,fun w'=>by rw[Sem.run_bind,h2 w'];exact h3 w'⟩
theorem Blind.halt (e:Halt):Blind P (Sem.halt e:Sem α):=fun w x w1 he=>by cases he
theorem Blind.prog {k:Program→Sem α} (h:∀p,Blind P (k p)):Blind P (do let p ←program;k p):=fun w x w1 he=>h P w x w1 he
def Never (P:Program) (m:Sem α):Prop:=∀w x w1,m.run P w≠.ok x w1
theorem Never.blind {m:Sem α} (h:Never P m):Blind P m:=fun w x w1 he=>absurd he (h w x w1)
theorem Never.bind {m:Sem α} {f:α→Sem β} (h:∀x,Never P (f x)):Never P (m >>= f):=fun w y w1 he=>by
 rw[Sem.run_bind] at he
 cases hm:m.run P w with
 |halt e w2=>rw[hm] at he;cases he
 |ok x w2=>rw[hm] at he;exact h x _ _ _ he
theorem Awq (e:Halt):Never P (Sem.halt e:Sem α):=fun w x w1 he=>by cases he
theorem Bdz (e:RuntimeError):Never P (runtimePanic e:Sem α):=by
 unfold runtimePanic
 refine Never.bind fun p=>?_
 cases e<;>first|exact Awq _|exact Never.bind fun _=>Never.bind fun _=>Awq _
theorem A74 (k:IntKind) (x y:Int) (c:BoundsCode):Never P (boundsPanic k x y c:Sem α):=by
 unfold boundsPanic
 split<;>exact Never.bind fun s=>Bdz _
theorem Qh (t:TypeId):Blind P (underlying t):=by
 unfold underlying
 refine Blind.prog fun p=>?_
 split<;>first|exact .pure _|exact .halt _
theorem Aud (t:TypeId):Blind P (typeInfo t):=by
 unfold typeInfo
 refine Blind.prog fun p=>?_
 split<;>first|exact .pure _|exact .halt _
theorem TH (t:TypeId):Blind P (sizeOf t):=by
 unfold sizeOf
 exact(Aud t).bind fun _=> .pure _
theorem Bno (v:Value):Blind P (asIntOf v):=by
 unfold asIntOf
 split<;>first|exact .pure _|exact .halt _
theorem Bg4 (v:Value):Blind P (Instr.sureAddr v):=by
 unfold Instr.sureAddr
 split<;>first|exact .pure _|exact .halt _
theorem Bbv (t:TypeId) (x i:Value):Blind P (Instr.indexAt t x i):=by
 unfold Instr.indexAt
 refine(Bno i).bind fun ki=>?_
 repeat' (first|exact Blind.pure _|exact Blind.halt _|exact Qh _|exact Bg4 _|exact TH _|exact(A74 _ _ _ _).blind|(refine Blind.bind ?_ fun _=>?_)|split|dsimp only)
theorem Bg5 (t:TypeId):Blind P (zeroValue t):=by
 unfold zeroValue
 refine(Aud t).bind fun i=>?_
 split<;>first|exact .pure _|exact .halt _
theorem Bg3 {γ:Type} (f:γ→Sem β) (hf:∀x,Blind P (f x)) (l:Array γ):Blind P (l.mapM f):=by
 rw[Array.mapM_eq_mapM_toList]
 refine Blind.bind ?_ fun _=> .pure _
 induction l.toList with
 |nil=>exact .pure _
 |cons a r ih=>
  rw[List.mapM_cons]
  exact(hf a).bind fun _=>ih.bind fun _=> .pure _
theorem Bbt (t:TypeId) (parts:Array (Nat×Value)):Blind P (Instr.build t parts):=by
 unfold Instr.build
 refine Blind.bind ((Bg5 t)) fun z=>?_
 refine(Qh t).bind fun d=>?_
 split
 ·refine(Bg3 _ (fun f=>(TH _).bind fun _=> .pure _) _).bind fun ps=>?_
  split<;>first|exact .pure _|exact .halt _
 ·refine(TH _).bind fun s=>?_
  split<;>first|exact .pure _|exact .halt _
 ·exact .halt _
theorem Bnn (v:Value):Blind P (asAgg v):=by
 unfold asAgg
 split<;>first|exact .pure _|exact .halt _
theorem Bbw (t:TypeId):Blind P (isAgg t):=by
 unfold isAgg
 refine(Qh t).bind fun d=>?_
 repeat' (first|exact Blind.pure _|exact Blind.halt _|split|dsimp only)
theorem Bbu (t:TypeId) (x:Value) (f:Nat):Blind P (Instr.field t x f):=by
 unfold Instr.field part
 refine(Qh t).bind fun d=>?_
 repeat' (first|exact Blind.pure _|exact Blind.halt _|exact Bnn _|exact Bbw _|exact TH _|(refine Blind.bind ?_ fun _=>?_)|split|dsimp only)
def A58:Op→Bool
 | .indexAddr _ _ _=>true
 | .build _ _=>true
 | .field _ _ _=>true
 |_=>false
theorem Bg2 {ev:Operand→Value} {o:Oper} (h:A58 o.op=true):∃I:Sem Value,execOp ev o=(do pure (.value (←I)))∧Blind P I:=by
 obtain⟨dst,op,type,pos,after,guard⟩:=o
 simp only at h
 unfold A58 at h
 split at h<;>first|(cases h;done)|skip
 ·exact⟨_,rfl,Bbv _ _ _⟩
 ·exact⟨_,rfl,Bbt _ _⟩
 ·exact⟨_,rfl,Bbu _ _ _⟩
end
def Bmn (ops:List Oper) (order:List Nat) (j:Nat):Bool:=match ops[order.getD j 0]? with
 |some o=>(match o.op with
  | .move _=>true
  | .extract _ _=>true
  |p=>A58 p)
 |none=>false
theorem A4m {P:Program} {ops:List Oper} {order:List Nat} {a:Act} {V:Nat→Value} {w w':World} {j:Nat} (h:Bmn ops order j=true) (hp:Pend P ops.toArray (fun k=>order.getD k 0) a V w j):Pend P ops.toArray (fun k=>order.getD k 0) a V w' j:=fun o2 ho2=>by
 have ho3:ops[order.getD j 0]?=some o2:=by simpa using ho2
 unfold Bmn at h
 rw[ho3] at h
 simp only at h
 split at h<;>first|(cases h;done)|skip
 ·rename_i x hx
  have hex:∀w1,(execOp (canA ops.toArray (fun k=>order.getD k 0) a V j).eval o2).run P w1=.ok (.value ((canA ops.toArray (fun k=>order.getD k 0) a V j).eval x)) w1:=fun w1=>by
   obtain⟨dst,op,type,pos,after,guard⟩:=o2
   simp only at hx
   subst hx
   rfl
  rcases hp o2 ho2 with⟨p1,p2⟩|⟨p1,p2⟩
  ·refine .inl ⟨p1,fun w1 _=>?_⟩
   have p3:=p2 w (Below.refl _ _)
   rw[hex] at p3⊢
   exact⟨rfl,p3.2⟩
  ·exact .inr ⟨p1,p2⟩
 ·rename_i x ix hx
  have hex:∀w1,(execOp (canA ops.toArray (fun k=>order.getD k 0) a V j).eval o2).run P w1=(do pure (.value (←Instr.extract ((canA ops.toArray (fun k=>order.getD k 0) a V j).eval x) ix)):Sem Next).run P w1:=fun w1=>by
   obtain⟨dst,op,type,pos,after,guard⟩:=o2
   simp only at hx
   subst hx
   rfl
  rcases hp o2 ho2 with⟨p1,p2⟩|⟨p1,p2⟩
  ·refine .inl ⟨p1,fun w1 _=>?_⟩
   have p3:=p2 w (Below.refl _ _)
   rw[hex] at p3⊢
   revert p3
   generalize (canA ops.toArray (fun k=>order.getD k 0) a V j).eval x=v
   intro p3
   cases v<;>try exact(show False from p3).elim
   rename_i vs
   unfold Instr.extract at p3⊢
   cases h:vs[ix]? with
   |none=>simp only[h] at p3;exact(show False from p3).elim
   |some u=>simp only[h] at p3⊢;exact⟨rfl,(show _∧_ from p3).2⟩
  ·exact .inr ⟨p1,p2⟩
 ·have hbl:A58 o2.op=true:=h
  rcases hp o2 ho2 with⟨p1,p2⟩|⟨p1,p2⟩
  ·refine .inl ⟨p1,fun w1 _=>?_⟩
   have p3:=p2 w (Below.refl _ _)
   obtain⟨I,hI,hb⟩:=Bg2 (P:=P) (ev:=(canA ops.toArray (fun k=>order.getD k 0) a V j).eval) hbl
   rw[hI,Sem.run_bind] at p3⊢
   cases hr:I.run P w with
   |halt e w2=>rw[hr] at p3;exact(show False from p3).elim
   |ok x w2=>
    rw[hr] at p3
    rw[(hb w x w2 hr).2 w1]
    exact⟨rfl,(show _∧_ from p3).2⟩
  ·exact .inr ⟨p1,p2⟩
def Bce (E:Env) (ops:List Oper) (order:List Nat) (l0:List IA) (j k:Nat):Bool:=match ops[order.getD j 0]?,ops[order.getD k 0]?,stK E ops order l0 k with
 | some o,some o',some l=>bif Bcf E o o' l then(match o.op with
  | .load _ (.tmp x)=>(List.range (k - j)).all fun m=>match ops[order.getD (j+m) 0]? with
   |some p=>match p.dst with
    |some d=>!(Nat.beq d x)
    |none=>true
   |none=>true
  |_=>false) else false
 |_,_,_=>false
section
variable {E:Env} {Z:Base} {F:Nat→Prop} {N:Nm} {s:St} {a:Act} {R:World}
theorem Bsr (h:Rel Z F N s a R) {t:TypeId} {x:Operand} {i off:Nat} (hx:s.ev [] x=some (.own i off)) {z:A} {ps:List Prop} (he:Agx E s [] t x=some (z,ps)):
  ∃y,∀R',R'.heap[N.b i]?=R.heap[N.b i]?→(Instr.loadAt t (a.eval x)).run E.P R'=.ok y R':=by
 have hx':=(Br h (HN _) hx).2.own_inv
 unfold Agx at he
 rw[hx] at he
 simp only at he
 split at he<;>first|(cases he;done)|skip
 rename_i e cs hl
 split at he<;>first|(cases he;done)|skip
 rename_i z' hz
 cases he
 obtain⟨_,vs,g1,g2⟩:=h.hp.ob i _ hl
 obtain⟨y,_,q2⟩:=Tq (ad:=⟨N.b i,off,none⟩) hz (g1.drop off)
 refine⟨y,fun R' hb=>?_⟩
 rw[KR hx'.2]
 refine q2 R' fun j v hj=>?_
 rw[Fj,F4 (hb.trans g2)]
 rw[List.getElem?_drop] at hj
 simpa using hj
theorem Bxs (h:Rel Z F N s a R) {t:TypeId} {x v:Operand} {i off:Nat} (hx:s.ev [] x=some (.own i off)) {f:Eff} (he:Bf5 E s [] t x v=some f):
  ∃R',(Instr.storeAt t (a.eval x) (a.eval v)).run E.P R=.ok () R'∧R'.heap.size=R.heap.size∧∀g,g≠N.b i→R'.heap[g]?=R.heap[g]?:=by
 have hx':=(Br h (HN _) hx).2.own_inv
 unfold Bf5 at he
 split at he<;>first|(cases he;done)|skip
 rename_i us hus
 obtain⟨hu,h1⟩:=Auo h (HN _) hus
 have hlen:=hu.length
 split at he<;>first|(cases he;done)|skip
 rename_i n hn
 cases hb:Nat.beq n us.length with
 |false=>rw[hb] at he;cases he
 | true=>
  rw[hb] at he
  obtain rfl:=Nat.eq_of_beq_eq_true hb
  simp only[cond_true,hx] at he
  rw[←hlen] at hn
  split at he<;>first|(cases he;done)|skip
  rename_i e cs hl
  cases hb2:Nat.ble (off+us.length) cs.length with
  |false=>rw[hb2] at he;cases he
  |true=>
   have hle:=Nat.le_of_ble_eq_true hb2
   obtain⟨_,vs,g1,g2⟩:=h.hp.ob i _ hl
   have hvl:=g1.length
   exact⟨_,Nn hx'.2 g2 hn (by omega) h1,by simp[World.setRow],fun g hg=>setRow_other R _ g _ hg⟩
theorem Bv6 (h:Rel Z F N s a R) {o o':Oper} (hc:Bch E o o' s=true):
  ∃t x R' y,o.op=.load t x∧o'.guard=none∧(execOp a.eval o').run E.P R=.ok .skip R'∧(Instr.loadAt t (a.eval x)).run E.P R=.ok y R∧
   ∀w1,Below R'.heap.size R' w1→(Instr.loadAt t (a.eval x)).run E.P w1=.ok y w1:=by
 unfold Bch at hc
 split at hc<;>first|(cases hc;done)|skip
 rename_i t x t' x' v' ho ho' hg
 split at hc<;>first|(cases hc;done)|skip
 rename_i i off i' off' hx hx'
 cases hb:Nat.beq i i' with
 |true=>rw[hb] at hc;cases hc
 | false=>
  rw[hb] at hc
  simp only[cond_false] at hc
  split at hc<;>first|(cases hc;done)|skip
  rename_i zl f hl hf
  obtain⟨z,ps⟩:=zl
  obtain⟨y,g1⟩:=Bsr h hx hl
  obtain⟨R',g2,g3,g4⟩:=Bxs h hx' hf
  have box:∀{i off:Nat} {x:Operand},s.ev [] x=some (.own i off)→∀{t z ps},Agx E s [] t x=some (z,ps)→∃e cs,Ao i s.o=some (.box e cs):=fun {i off x} hx {t z ps} he=>by
   unfold Agx at he
   rw[hx] at he
   simp only at he
   split at he<;>first|(cases he;done)|skip
   exact⟨_,_,by assumption⟩
  obtain⟨e,cs,hbx⟩:=box hx hl
  have hbx':∃e cs,Ao i' s.o=some (.box e cs):=by
   unfold Bf5 at hf
   split at hf<;>first|(cases hf;done)|skip
   split at hf<;>first|(cases hf;done)|skip
   replace hf:=BH hf
   simp only[hx'] at hf
   split at hf<;>first|(cases hf;done)|skip
   exact⟨_,_,by assumption⟩
  obtain⟨e',cs',hbx'⟩:=hbx'
  have hne:N.b i≠N.b i':=fun e=>by
   have:=h.hp.sep i i' _ _ (N.b i) hbx hbx' rfl e
   subst this
   simp at hb
  obtain⟨_,vs,_,q2⟩:=h.hp.ob i _ hbx
  refine⟨t,x,R',y,ho,hg,?_,g1 R rfl,fun w1 hw=>g1 w1 ?_⟩
  ·obtain⟨dst,op,type,pos,after,guard⟩:=o'
   simp only at ho'
   subst ho'
   simp[execOp,g2]
  ·rw[hw.block _ (by rw[g3];exact HW q2)]
   exact g4 _ hne
theorem Bcg {o o':Oper}:∀{l:List IA},Bcf E o o' l=true→onP l (fun s=>∃F N,Rel Z F N s a R)→∃s F N,Rel Z F N s a R∧Bch E o o' s=true
 | [],_,h=>h.elim
 | (c,s)::r,hc,h=>by
  unfold Bcf at hc
  cases hp:Bch E o o' s with
  |false=>rw[hp] at hc;cases hc
  |true=>
   rw[hp] at hc
   rcases h with⟨_,F,N,h⟩|⟨_,h⟩
   ·exact⟨s,F,N,h,hp⟩
   ·exact Bcg hc h
end
abbrev R3:=Option (St×List Prop)
def Bs5 (ops:List Oper) (order:List Nat) (p k:Nat) (o:Oper):Bool:=(List.range (k - p)).all fun i=>match ops[order.getD (p+i) 0]? with
 |some o'=>(match o'.dst with
  |some d=>!((o.looksAt ops.toArray).contains d)
  |none=>true)
 |none=>true
def isS {α:Type}:Option α→Bool
 |some _=>true
 |none=>false
def B3i (E:Env) (o:Oper) (l:List IA):Bool:=l.all fun cs=>isS (mkE E cs.2 o)
def B21 (E:Env) (o:Oper) (l:List IA):Bool:=l.all fun cs=>match mkE E cs.2 o with
 |some f=>isS (XH cs.2 o.dst f)
 |none=>false
def Bxa (E:Env) (ops:List Oper) (order:List Nat) (l0:List IA) (k:Nat) (o:Oper):Bool:=
 (match stK E ops order l0 k with
 |some l=>B21 E o l
 |none=>false)&&(List.range (k+1)).all fun p=>!(Bs5 ops order p k o)||(match stK E ops order l0 p with
 |some l=>B3i E o l
 |none=>true)
def Ajp (E:Env) (ops:List Oper) (order:List Nat) (l0:List IA) (k:Nat):Bool:=match ops[order.getD k 0]? with
 |some o=>bif Aux E o then true else bif mkB o then Bxa E ops order l0 k o else false
 |none=>false
def evO (E:Env) (ops:List Oper) (order:List Nat) (s:St):R3:=match evK E ops order [(none,s)] with
 |some (ks,l,ps)=>bif A6b ops.toArray order ks (Ajp E ops order [(none,s)]) (fun j k=>Bmn ops order j||Bce E ops order [(none,s)] j k)&&B0v ops.toArray order (Ajp E ops order [(none,s)]) then some (WZ (Sj ops) s l,ps) else none
 |none=>none
def evR (E:Env) (ops:List Oper) (draw:Bool) (s:St):R3:=match draw with
 |true=>match evO E ops (B3h E.P ops) s with
  |some r=>some r
  |none=>evO E ops (B2z E.P ops) s
 |false=>match A3y E ops ops [(none,s)] with
  |some (l,ps)=>some (WZ (Sj ops) s l,ps)
  |none=>none
section
variable {E:Env} {Z:Base} {F:Nat→Prop} {N:Nm} {s:St} {a:Act} {R:World}
theorem Bjl (ok:EnvOk E) {ops:List Oper} {draw:Bool} {s':St} {ps:List Prop} (he:evR E ops draw s=some (s',ps)):Sub s s':=by
 cases draw with
 |false=>
  unfold evR at he
  simp only at he
  split at he<;>first|(cases he;done)|skip
  rename_i l ps1 h1
  cases he
  exact Acm _ _ (Ajs ok h1 ⟨Sub.refl _,trivial⟩)
 | true=>
  have one:∀order,evO E ops order s=some (s',ps)→Sub s s':=fun order he=>by
   unfold evO at he
   split at he<;>first|(cases he;done)|skip
   rename_i ks l ps1 h1
   replace he:=BH he
   cases he
   exact Acm _ _ (A6t ok h1 ⟨Sub.refl _,trivial⟩)
  unfold evR at he
  simp only at he
  split at he
  ·rename_i r hr
   cases he
   exact one _ hr
  ·exact one _ he
def Bng (E:Env) (ops:List Oper) (order:List Nat) (k:Nat) (A:Act) (j:Nat) (v:Value) (G:Nat→Prop) (w:World):Prop:=
 (∃g e z,v=.pointer (some ⟨g,0,none⟩)∧(∃op,ops[order.getD j 0]?=some op∧op.op=.alloc e)∧(E.P.info? e).bind (·.zero)=some z∧(∀b,G b↔b=g)∧w.heap[g]?=some (.cells z.cells.toList.toArray e (0,0)))∨
 (∃g x args ts N0,(∃op,ops[order.getD j 0]?=some op∧op.op=.call {callee:=.value (.func g),args:=args,argTypes:=ts})∧Qm E (.func g) args.toList=some (g,x)∧Hv G N0 0 w x v)∨
 (∃g C op,ops[order.getD j 0]?=some op∧mkB op=true∧(∀w0,(execOp A.eval op).run E.P w0=.ok (.value (mkV op.op w0.heap.size)) (w0.alloc C))∧v=mkV op.op g∧(∀b,G b↔b=g)∧w.heap[g]?=some C∧NoWr ops.toArray (fun k=>order.getD k 0) k j op)
def Rsv (E:Env) (ops:List Oper) (order:List Nat) (B k:Nat) (X:Aside) (A:Act) (F:Nat→Prop) (N:Nm) (o:Objs) (w:World):Prop:=
 ∃G:Nat→Nat→Prop,(∀j v,k≤j→X j=some v→Bng E ops order k A j v (G j) w∧∀b,G j b→B≤b∧b <w.heap.size∧¬F b∧¬Foot N o b)∧∀i j u v b,k≤i→k≤j→X i=some u→X j=some v→G i b→G j b→i=j
theorem A40 {E:Env} {ops:List Oper} {order:List Nat} {k:Nat} {A:Act} {j:Nat} {v:Value} {G:Nat→Prop} {w w':World} (h:Bng E ops order k A j v G w) (hk:∀b,G b→w'.heap[b]?=w.heap[b]?):Bng E ops order k A j v G w':=by
 rcases h with⟨g,e,z,h1,h2,h3,h4,h5⟩|⟨g,x,args,ts,N0,h1,h2,h3⟩|⟨g,C,op,h1,h2,h3,h4,h5,h6,h7⟩
 ·exact .inl ⟨g,e,z,h1,h2,h3,h4,by rw[hk g ((h4 g).2 rfl)];exact h5⟩
 ·exact .inr (.inl ⟨g,x,args,ts,N0,h1,h2,h3.step ⟨Nat.le_refl _,fun _ _=>rfl,fun _ _=>rfl,fun _ h=>h,hk⟩⟩)
 ·exact .inr (.inr ⟨g,C,op,h1,h2,h3,h4,h5,by rw[hk g ((h5 g).2 rfl)];exact h6,h7⟩)
theorem Bmk {op:Oper} (h:mkB op=true):∀cs b,op.op≠.select cs b:=fun cs b e=>by
 unfold mkB at h
 rw[e] at h
 cases h
theorem Bf0 {E:Env} {ops:List Oper} {order:List Nat} {k:Nat} {A:Act} {j:Nat} {v u:Value} {G:Nat→Prop} {w:World} (h:Bng E ops order k A j v G w) (hkj:k <j) {o:Oper} (ho:ops[order.getD k 0]?=some o):Bng E ops order (k+1) (A.put o.dst u) j v G w:=by
 rcases h with h|h|⟨g,C,op,h1,h2,h3,h4,h5,h6,h7⟩
 ·exact .inl h
 ·exact .inr (.inl h)
 ·refine .inr (.inr ⟨g,C,op,h1,h2,fun w0=>?_,h4,h5,h6,fun i q1 q2=>h7 i (by omega) q2⟩)
  rw[TS (a:=A) (a':=A.put o.dst u) (ops:=ops.toArray) op (Bmk h2) fun t ht=>?_]
  ·exact h3 w0
  ·cases hd:o.dst with
   |none=>rfl
   |some d=>
    rw[Gb,if_neg]
    rintro⟨rfl,_⟩
    exact h7 k (Nat.le_refl _) hkj o _ (by simpa using ho) hd ht
theorem Az8 {E:Env} {ops:List Oper} {order:List Nat} {B k nx nx':Nat} {X:Aside} {A:Act} {F F':Nat→Prop} {N N':Nm} {o o':Objs} {w w':World} (h:Rsv E ops order B k X A F N o w) (st:Step F N nx o w F' N' nx' o' w'):Rsv E ops order B k X A F' N' o' w':=by
 obtain⟨G,h1,h2⟩:=h
 refine⟨G,fun j v hj hx=>?_,h2⟩
 obtain⟨q1,q2⟩:=h1 j v hj hx
 refine⟨A40 q1 fun b hb=>st.keep b (q2 b hb).2.1 (q2 b hb).2.2.2,fun b hb=>?_⟩
 obtain⟨h4,h5,h6,h7⟩:=q2 b hb
 refine⟨h4,Nat.lt_of_lt_of_le h5 st.size,fun hf=>?_,fun hf=>?_⟩
 ·rcases st.fnew b hf with q|q|q
  ·exact h6 q
  ·exact h7 q
  ·omega
 ·rcases st.foot b hf with q|q
  ·exact h7 q
  ·omega
theorem Atq {E:Env} {ops:List Oper} {order:List Nat} {B k:Nat} {X:Aside} {A:Act} {F:Nat→Prop} {N:Nm} {o:Objs} {w:World} (h:Rsv E ops order B k X A F N o w) {op:Oper} (ho:ops[order.getD k 0]?=some op) (u:Value):Rsv E ops order B (k+1) X (A.put op.dst u) F N o w:=by
 obtain⟨G,h1,h2⟩:=h
 exact⟨G,fun j v hj hx=>⟨Bf0 (h1 j v (by omega) hx).1 (by omega) ho,(h1 j v (by omega) hx).2⟩,fun i j u v b hi hj=>h2 i j u v b (by omega) (by omega)⟩
theorem Btw {E:Env} {ops:List Oper} {order:List Nat} {B k:Nat} {X:Aside} {A:Act} {F:Nat→Prop} {N:Nm} {o:Objs} {w w':World} (h:Rsv E ops order B k X A F N o w) (hb:Below w.heap.size w w'):Rsv E ops order B k X A F N o w':=
 Az8 h (nx:=0) (nx':=0) (Step.of_below hb)
theorem Bux (h:Rel Z F N s a R) {G:Nat→Prop} {N0:Nm} {x:A} {v:Value} (hG:∀b,G b→Z.R.heap.size≤b∧b <R.heap.size∧¬F b∧¬Foot N s.o b) (hx:Hv G N0 0 R x v) (hf:x.free=true):
  Rel Z (fun b=>F b∨G b) N s a R∧Hv (fun b=>F b∨G b) N s.nx R x v:=by
 have hw:Ext F N s.nx R (fun b=>F b∨G b) N s.nx R:=Ext.wide fun g hg=> .inl hg
 have hw2:Ext G N0 0 R (fun b=>F b∨G b) N0 0 R:=Ext.wide fun g hg=> .inr hg
 refine⟨⟨h.defers,h.size,fun u y hu=>(h.slots u y hu).step hw,⟨fun g hg=>?_,fun i ob hi=>⟨(h.hp.ob i ob hi).1,(h.hp.ob i ob hi).2.step hw (h.hp.ob i ob hi).1 fun _ _=>rfl⟩,fun i ob g hi hg hfg=>?_,h.hp.sep⟩,?_,h.tm⟩,(hx.step hw2).free hf⟩
 ·rcases hg with hg|hg
  ·exact h.hp.flt g hg
  ·exact(hG g hg).2.1
 ·rcases hfg with hfg|hfg
  ·exact h.hp.ff i ob g hi hg hfg
  ·exact(hG g hfg).2.2.2 ⟨i,ob,hi,hg⟩
 ·have:=h.st
  refine⟨this.le,this.b,this.q,fun g hg=> .inl (this.f g hg),fun g hg=>?_,this.foot,this.os,this.tape,this.output,this.size,this.keep⟩
  rcases hg with hg|hg
  ·exact this.fnew g hg
  ·exact .inr (.inr (hG g hg).1)
theorem Bx5 (h:Rel Z F N s a R) {e:TypeId} {z:Value} {g:Nat} (hB:Z.R.heap.size≤g) (hg:g <R.heap.size) (nF:¬F g) (nO:¬Foot N s.o g) (hc:R.heap[g]?=some (.cells z.cells.toList.toArray e (0,0))):
  Rel Z F (N.setB s.nx g) ⟨s.n,s.nx+1,s.t,(s.nx,some (.box e (toL z.cells.toList)))::s.o⟩ a R∧Hv F (N.setB s.nx g) (s.nx+1) R (.own s.nx 0) (.pointer (some ⟨g,0,none⟩))∧∀g',Foot (N.setB s.nx g) ((s.nx,some (.box e (toL z.cells.toList)))::s.o) g'→g'=g∨Foot N s.o g':=by
 have hb:(N.setB s.nx g).b s.nx=g:=BU _ _ _
 have hne:∀i,i <s.nx→(N.setB s.nx g).b i=N.b i:=fun i hi=>EH _ _ (by omega)
 have st:Ext F N s.nx R F (N.setB s.nx g) (s.nx+1) R:=⟨Nat.le_succ _,hne,fun _ _=>rfl,fun _ h=>h,fun _ _=>rfl⟩
 have cases:∀{i ob},Ao i ((s.nx,some (Ob.box e (toL z.cells.toList)))::s.o)=some ob→(i=s.nx∧ob=.box e (toL z.cells.toList))∨(i <s.nx∧Ao i s.o=some ob):=fun {i ob} hl=>by
  rw[Bd] at hl
  split at hl
  ·exact .inl ⟨‹_›,(Option.some.inj hl).symm⟩
  ·exact .inr ⟨(h.hp.ob i ob hl).1,hl⟩
 have hfoot:∀{i ob g'},i <s.nx→(foot (N.setB s.nx g) i ob g'↔foot N i ob g'):=fun {i ob g'} hi=>EM st hi
 have fo:∀g',Foot (N.setB s.nx g) ((s.nx,some (.box e (toL z.cells.toList)))::s.o) g'→g'=g∨Foot N s.o g':=fun g' ⟨i,ob,hl,hf⟩=>by
  rcases cases hl with⟨rfl,rfl⟩|⟨hi,hl⟩
  ·exact .inl (by have:g'=(N.setB s.nx g).b s.nx:=hf;rw[this,hb])
  ·exact .inr ⟨i,ob,hl,(hfoot hi).1 hf⟩
 have hp:HRel F (N.setB s.nx g) (s.nx+1) ((s.nx,some (.box e (toL z.cells.toList)))::s.o) R:=by
  refine⟨h.hp.flt,fun i ob hl=>?_,fun i ob g' hl hf=>?_,fun i j x y g' hi hj hx hy=>?_⟩
  ·rcases cases hl with⟨rfl,rfl⟩|⟨hi,hl⟩
   ·refine⟨Nat.lt_succ_self _,z.cells.toList,HL.toL _,?_⟩
    rw[hb]
    exact hc
   ·exact⟨by omega,(h.hp.ob i ob hl).2.step st hi fun _ _=>rfl⟩
  ·rcases cases hl with⟨rfl,rfl⟩|⟨hi,hl⟩
   ·have:g'=(N.setB s.nx g).b s.nx:=hf
    rw[this,hb]
    exact nF
   ·exact h.hp.ff i ob g' hl ((hfoot hi).1 hf)
  ·rcases cases hi with⟨rfl,rfl⟩|⟨hi1,hi2⟩
   ·rcases cases hj with⟨rfl,rfl⟩|⟨hj1,hj2⟩
    ·rfl
    ·have:g'=(N.setB s.nx g).b s.nx:=hx
     rw[hb] at this
     subst this
     exact absurd ⟨j,y,hj2,(hfoot hj1).1 hy⟩ nO
   ·rcases cases hj with⟨rfl,rfl⟩|⟨hj1,hj2⟩
    ·have:g'=(N.setB s.nx g).b s.nx:=hy
     rw[hb] at this
     subst this
     exact absurd ⟨i,x,hi2,(hfoot hi1).1 hx⟩ nO
    ·exact h.hp.sep i j x y g' hi2 hj2 ((hfoot hi1).1 hx) ((hfoot hj1).1 hy)
 refine⟨⟨h.defers,h.size,fun u x hu=>(h.slots u x hu).step st,hp,?_,h.tm⟩,?_,fo⟩
 ·have:=h.st
  refine⟨Nat.le_trans this.le (Nat.le_succ _),fun i hi=>by rw[hne i (Nat.lt_of_lt_of_le hi this.le)];exact this.b i hi,fun i hi=>this.q i hi,this.f,this.fnew,fun g' hf=>?_,this.os,this.tape,this.output,this.size,this.keep⟩
  rcases fo g' hf with q|q
  ·exact .inr (by omega)
  ·exact this.foot g' q
 ·have:(⟨g,0,none⟩:Addr)=⟨(N.setB s.nx g).b s.nx,0,none⟩:=by rw[hb]
  rw[this]
  exact .own (Nat.lt_succ_self _)
def Nm.both (N:Nm) (i g:Nat) (v:Value):Nm:=⟨Ko N.b i g,Ko N.q i v⟩
theorem Aug {F:Nat→Prop} {N:Nm} {nx g:Nat} {v:Value} {R:World}:Ext F N nx R F (N.both nx g v) (nx+1) R:=
 ⟨Nat.le_succ _,fun i hi=>EH _ _ (by omega),fun i hi=>EH _ _ (by omega),fun _ h=>h,fun _ _=>rfl⟩
theorem B1n (h:Rel Z F N s a R) {ob:Ob} {g:Nat} {v:Value} (hB:Z.R.heap.size≤g) (nF:¬F g) (nO:¬Foot N s.o g) (hob:ObR F (N.both s.nx g v) (s.nx+1) R s.nx ob) (hft:∀b,foot (N.both s.nx g v) s.nx ob b→b=g):
  Rel Z F (N.both s.nx g v) ⟨s.n,s.nx+1,s.t,(s.nx,some ob)::s.o⟩ a R∧∀g',Foot (N.both s.nx g v) ((s.nx,some ob)::s.o) g'→g'=g∨Foot N s.o g':=by
 have st:Ext F N s.nx R F (N.both s.nx g v) (s.nx+1) R:=Aug
 have cases:∀{i o1},Ao i ((s.nx,some ob)::s.o)=some o1→(i=s.nx∧o1=ob)∨(i <s.nx∧Ao i s.o=some o1):=fun {i o1} hl=>by
  rw[Bd] at hl
  split at hl
  ·exact .inl ⟨‹_›,(Option.some.inj hl).symm⟩
  ·exact .inr ⟨(h.hp.ob i o1 hl).1,hl⟩
 have hfoot:∀{i o1 g'},i <s.nx→(foot (N.both s.nx g v) i o1 g'↔foot N i o1 g'):=fun {i o1 g'} hi=>EM st hi
 have fo:∀g',Foot (N.both s.nx g v) ((s.nx,some ob)::s.o) g'→g'=g∨Foot N s.o g':=fun g' ⟨i,o1,hl,hf⟩=>by
  rcases cases hl with⟨rfl,rfl⟩|⟨hi,hl⟩
  ·exact .inl (hft g' hf)
  ·exact .inr ⟨i,o1,hl,(hfoot hi).1 hf⟩
 have hp:HRel F (N.both s.nx g v) (s.nx+1) ((s.nx,some ob)::s.o) R:=by
  refine⟨h.hp.flt,fun i o1 hl=>?_,fun i o1 g' hl hf=>?_,fun i j x y g' hi hj hx hy=>?_⟩
  ·rcases cases hl with⟨rfl,rfl⟩|⟨hi,hl⟩
   ·exact⟨Nat.lt_succ_self _,hob⟩
   ·exact⟨by omega,(h.hp.ob i o1 hl).2.step st hi fun _ _=>rfl⟩
  ·rcases cases hl with⟨rfl,rfl⟩|⟨hi,hl⟩
   ·rw[hft g' hf]
    exact nF
   ·exact h.hp.ff i o1 g' hl ((hfoot hi).1 hf)
  ·rcases cases hi with⟨rfl,rfl⟩|⟨hi1,hi2⟩
   ·rcases cases hj with⟨rfl,rfl⟩|⟨hj1,hj2⟩
    ·rfl
    ·have:=hft g' hx
     subst this
     exact absurd ⟨j,y,hj2,(hfoot hj1).1 hy⟩ nO
   ·rcases cases hj with⟨rfl,rfl⟩|⟨hj1,hj2⟩
    ·have:=hft g' hy
     subst this
     exact absurd ⟨i,x,hi2,(hfoot hi1).1 hx⟩ nO
    ·exact h.hp.sep i j x y g' hi2 hj2 ((hfoot hi1).1 hx) ((hfoot hj1).1 hy)
 refine⟨⟨h.defers,h.size,fun u x hu=>(h.slots u x hu).step st,hp,?_,h.tm⟩,fo⟩
 have:=h.st
 refine⟨Nat.le_trans this.le (Nat.le_succ _),fun i hi=>by rw[st.b i (Nat.lt_of_lt_of_le hi this.le)];exact this.b i hi,fun i hi=>by rw[st.q i (Nat.lt_of_lt_of_le hi this.le)];exact this.q i hi,this.f,this.fnew,fun g' hf=>?_,this.os,this.tape,this.output,this.size,this.keep⟩
 rcases fo g' hf with q|q
 ·exact .inr (by omega)
 ·exact this.foot g' q
theorem By6 (h:Rel Z F N s a R) {o:Oper} {f:Eff} (he:mkE E s o=some f):∃C ob x,f=⟨x,s.nx+1,(s.nx,some ob)::s.o,1,[]⟩∧(∀w,(execOp a.eval o).run E.P w=.ok (.value (mkV o.op w.heap.size)) (w.alloc C))∧
  ∀g,R.heap[g]?=some C→ObR F (N.both s.nx g (mkV o.op g)) (s.nx+1) R s.nx ob∧Hv F (N.both s.nx g (mkV o.op g)) (s.nx+1) R x (mkV o.op g)∧∀b,foot (N.both s.nx g (mkV o.op g)) s.nx ob b→b=g:=by
 obtain⟨dst,op,type,pos,after,guard⟩:=o
 unfold mkE at he
 simp only at he
 have hb:∀g v,(N.both s.nx g v).b s.nx=g:=fun g v=>BU _ _ _
 have hq:∀g v,(N.both s.nx g v).q s.nx=v:=fun g v=>BU _ _ _
 split at he<;>first|(cases he;done)|skip
 ·rename_i t len parts
  cases h0:Nat.beq len 0 with
  |true=>rw[h0] at he;cases he
  |false=>
  rw[h0,cond_false] at he
  unfold Sb at he
  split at he<;>first|(cases he;done)|skip
  rename_i e hu
  split at he<;>first|(cases he;done)|skip
  rename_i i hi
  split at he<;>first|(cases he;done)|skip
  rename_i z hz
  split at he<;>first|(cases he;done)|skip
  rename_i ps hps
  cases h1:Nat.ble (len*i.size) 16777216 with
  |false=>rw[h1] at he;cases he
  |true=>
  cases h2:Nat.beq z.cells.size i.size with
  |false=>rw[h1,h2] at he;cases he
  |true=>
  cases h3:Nat.ble 1 i.size with
  |false=>rw[h1,h2,h3] at he;cases he
  | true=>
   rw[h1,h2,h3] at he
   simp only[cond_true] at he
   split at he<;>first|(cases he;done)|skip
   rename_i cs hcs
   cases h4:Uk s.o (.lst (I4 i.size len cs)) with
   |false=>rw[h4] at he;cases he
   | true=>
    rw[h4,h0] at he
    cases he
    have g1:=Nat.le_of_ble_eq_true h1
    have g2:=Nat.eq_of_beq_eq_true h2
    have g3:0 <i.size:=Nat.le_of_ble_eq_true h3
    have hparts:=YZ h (HN _) hps
    have hz0:HL F N s.nx R (Bow (toL z.cells.toList) len) (madeCells z.cells (len*i.size)).toList:=by
     rw[←g2,Rq]
     exact A9d (HL.toL _) len
    obtain⟨arr,q1,q2⟩:=Wd hcs hparts hz0
    have hl:(parts.map fun(i,x)=>(i,a.eval x))=(parts.toList.map fun(i,x)=>(i,a.eval x)).toArray:=by rw[←Array.toList_map,Array.toArray_toList]
    have hasz:arr.size=len*i.size:=by rw[Aju q1,size_madeCells]
    have hn:(Els.lst (I4 i.size len cs)).n=len:=MK _ _ _
    have hmx:len≤maxLen:=by
     have h5:len≤len*i.size:=Nat.le_mul_of_pos_right _ g3
     have hmx:maxLen=9223372036854775807:=rfl
     omega
    refine⟨.cells arr e (0,0),.arr e i.size (.lst (I4 i.size len cs)),.sq s.nx,rfl,fun w=>?_,fun g hg=>⟨⟨arr.toList,?_,fun k hk=>?_⟩,?_,fun b hf=>?_⟩⟩
    ·have hrun:=Aqd hu hi hz g1 q1 w
     rw[←hl] at hrun
     exact Ip hrun
    ·rw[hq,hn]
     exact Xv (by rw[Array.length_toList,hasz]) hasz hmx (Nat.le_refl _) (List.take_of_length_le (by rw[Array.length_toList,hasz];exact Nat.le_refl _)) hg
    ·rw[hn] at hk
     show HL F _ _ R (Jz (I4 i.size len cs) k) _
     rw[Ab3 _ _ _ _ hk]
     exact((q2.step Aug).drop _).take _
    ·have:Hv F (N.both s.nx g (mkV (.buildSlice t len parts) g)) (s.nx+1) R (.sq s.nx) ((N.both s.nx g (mkV (.buildSlice t len parts) g)).q s.nx):=.sq (Nat.lt_succ_self _)
     rw[hq] at this
     exact this
    ·have hf':CR ((N.both s.nx g (mkV (.buildSlice t len parts) g)).q s.nx)=some b:=hf
     rw[hq] at hf'
     unfold mkV at hf'
     cases len with
     |zero=>cases hf'
     |succ n=>cases hf';rfl
 ·rename_i e v
  unfold Brg at he
  split at he<;>first|(cases he;done)|skip
  rename_i x hx
  split at he<;>first|(cases he;done)|skip
  rename_i us hus
  cases hs:UB s.o us with
  |false=>rw[hs] at he;cases he
  | true=>
   rw[hs] at he
   cases he
   have hc:=YE h.hp hus hs (Br h (HN _) hx).2
   refine⟨.cells (a.eval v).cells.toList.toArray e (0,0),.box e us,.own s.nx 0,rfl,fun w=>Ip A42,fun g hg=>⟨⟨_,hc.step Aug,?_⟩,?_,fun b hf=>?_⟩⟩
   ·rw[hb];exact hg
   ·have:Hv F (N.both s.nx g (.pointer (some ⟨g,0,none⟩))) (s.nx+1) R (.own s.nx 0) (.pointer (some ⟨(N.both s.nx g (.pointer (some ⟨g,0,none⟩))).b s.nx,0,none⟩)):=.own (Nat.lt_succ_self _)
    rw[hb] at this
    exact this
   ·have hf':b=(N.both s.nx g (mkV (.box e v) g)).b s.nx:=hf
    rw[hb] at hf'
    exact hf'
theorem By7 {o:Oper} {f:Eff} (he:mkE E s o=some f):opE E s [] o=some f∧o.guard=none∧Av7 o.op=true∧mkB o=true:=by
 obtain⟨dst,op,type,pos,after,guard⟩:=o
 unfold mkE at he
 simp only at he
 split at he<;>first|(cases he;done)|exact⟨he,rfl,rfl,rfl⟩|exact⟨Auc he,rfl,rfl,rfl⟩
theorem Bwu {ops:List Oper} {o:Oper} {f:Eff} (he:mkE E s o=some f) (hp:isS (XH s o.dst f)=true):∃s',XH s o.dst f=some s'∧∀{l:List D4},Og E ops s o=some l→∀K:St→Prop,K s'→onL l K:=by
 obtain⟨h1,h2,h3,_⟩:=By7 he
 cases hs:XH s o.dst f with
 |none=>rw[hs] at hp;cases hp
 | some s'=>
  refine⟨s',rfl,fun {l} hl K hK=>?_⟩
  have e2:Aah E ops s o=none:=by
   unfold Aah
   rw[h2]
   simp only
   unfold Up
   rw[h3]
   rfl
  have e3:∃k ps,Ol E ops s o=some [(none,k,s',ps)]:=by
   unfold Ol
   rw[h2]
   simp only
   unfold doE
   rw[h1]
   simp only
   rw[hs]
   exact⟨_,_,rfl⟩
  obtain⟨k,ps,e3⟩:=e3
  have e4:LK E ops s o=some (Aqs [(none,k,s',ps)]):=by
   unfold LK
   rw[e2]
   simp only
   unfold Abl
   rw[e3]
  unfold Og at hl
  rw[e4] at hl
  cases hl
  exact VU (.inl ⟨rfl,hK⟩)
theorem Bms {l:List IA} {s0:St} {p:St→Bool} (h:onP l (fun x=>x=s0)) (ha:(l.all fun cs=>p cs.2)=true):p s0=true:=by
 induction l with
 |nil=>exact h.elim
 |cons x r ih=>
  obtain⟨c,s⟩:=x
  rw[List.all_cons,Bool.and_eq_true] at ha
  rcases h with⟨_,rfl⟩|⟨_,h⟩
  ·exact ha.1
  ·exact ih h ha.2
theorem Axa {K:St→Prop}:∀{l:List IA},onP l K→∃s0,K s0∧onP l (fun x=>x=s0)
 | [],h=>h.elim
 | (c,s)::r,h=>by
  rcases h with⟨h1,h2⟩|⟨h1,h2⟩
  ·exact⟨s,h2,.inl ⟨h1,rfl⟩⟩
  ·obtain⟨s0,h3,h4⟩:=Axa h2
   exact⟨s0,h3,.inr ⟨h1,h4⟩⟩
theorem Qn {ops:List Oper} {o:Oper} {s0:St}:∀{l l':List IA} {k:Nat} {qs:List Prop},La E ops o l=some (k,l',qs)→onP l (fun x=>x=s0)→∃l1,Og E ops s0 o=some l1∧∀K,onL l1 K→onP l' K
 | [],_,_,_,_,h=>h.elim
 | (c,s)::r,l',k,qs,he,h=>by
  unfold La at he
  split at he<;>first|(cases he;done)|skip
  rename_i l1 h1
  split at he<;>first|(cases he;done)|skip
  rename_i k' r' qs' h2
  cases he
  rcases h with⟨hc,rfl⟩|⟨hc,h⟩
  ·exact⟨l1,h1,fun K hK=>S7 hc hK⟩
  ·obtain⟨l2,h3,h4⟩:=Qn h2 h
   exact⟨l2,h3,fun K hK=>S8 hc (h4 K hK)⟩
theorem Bn0 {o:Oper} (h:Auy E.P o=true):∃e z,o.op=.alloc e∧o.guard=none∧(E.P.info? e).bind (·.zero)=some z:=by
 unfold Auy at h
 split at h
 ·rename_i e h1 h2
  split at h
  ·rename_i z hz
   exact⟨e,z,h1,h2,hz⟩
  ·cases h
 ·cases h
theorem Bcl {o:Oper} (h:Aux E o=true):(∃e z,o.op=.alloc e∧o.guard=none∧(E.P.info? e).bind (·.zero)=some z)∨∃g x args ts,o.op=.call {callee:=.value (.func g),args:=args,argTypes:=ts}∧o.guard=none∧Qm E (.func g) args.toList=some (g,x):=by
 unfold Aux at h
 cases h0:Auy E.P o with
 |true=>exact .inl (Bn0 h0)
 |false=>
  rw[h0,cond_false] at h
  split at h<;>first|(cases h;done)|skip
  rename_i f args ts h1 h2
  split at h<;>first|(cases h;done)|skip
  rename_i y hy
  obtain⟨g,x⟩:=y
  obtain⟨rfl,_⟩:=OY hy
  exact .inr ⟨g,x,args,ts,h1,h2,hy⟩
theorem Bcd {ops:List Oper} {o:Oper} {g:FuncId} {x:A} {args:Array Operand} {ts:Array TypeId} (ho:o.op=.call {callee:=.value (.func g),args:=args,argTypes:=ts}) (hg:o.guard=none) (hc:Qm E (.func g) args.toList=some (g,x)) {l:List D4} (he:Og E ops s o=some l):
  ∃s',XH s o.dst ⟨x,s.nx,s.o,1,[]⟩=some s'∧∀K:St→Prop,K s'→onL l K:=by
 obtain⟨dst,op,type,pos,after,guard⟩:=o
 simp only at ho hg
 subst ho hg
 have e1:opE E s [] ⟨dst,.call {callee:=.value (.func g),args:=args,argTypes:=ts},type,pos,after,none⟩=some ⟨x,s.nx,s.o,1,[]⟩:=by
  show(match A3p E s [] (.func g) args.toList with
   |some (x,ps)=>some (Eff.mk x s.nx s.o 0 ps)
   |none=>YD E s [] (.func g) args.toList)=_
  unfold A3p YD
  rw[hc]
 have e2:Aah E ops s ⟨dst,.call {callee:=.value (.func g),args:=args,argTypes:=ts},type,pos,after,none⟩=none:=by
  have:Up E s [] ⟨dst,.call {callee:=.value (.func g),args:=args,argTypes:=ts},type,pos,after,none⟩=none:=by
   show A3p E s [] (.func g) args.toList=_
   unfold A3p
   rw[hc]
  unfold Aah
  simp only
  rw[this]
 have hcand:Brj s ⟨dst,.call {callee:=.value (.func g),args:=args,argTypes:=ts},type,pos,after,none⟩=[]:=by
  obtain⟨_,ha,_⟩:=OY hc
  unfold Brj
  simp only
  rw[ha]
  rfl
 cases hp:XH s dst ⟨x,s.nx,s.o,1,[]⟩ with
 | none=>
  have e3:Ol E ops s ⟨dst,.call {callee:=.value (.func g),args:=args,argTypes:=ts},type,pos,after,none⟩=none:=by
   unfold Ol doE
   simp only
   rw[e1]
   simp only
   rw[hp]
  have e4:LK E ops s ⟨dst,.call {callee:=.value (.func g),args:=args,argTypes:=ts},type,pos,after,none⟩=none:=by
   unfold LK
   rw[e2]
   simp only
   unfold Abl
   rw[e3,hcand]
   rfl
  unfold Og at he
  rw[e4] at he
  cases he
 | some s'=>
  have e3:Ol E ops s ⟨dst,.call {callee:=.value (.func g),args:=args,argTypes:=ts},type,pos,after,none⟩=some [(none,1,s',[])]:=by
   unfold Ol doE
   simp only
   rw[e1]
   simp only
   rw[hp]
   rfl
  have e4:LK E ops s ⟨dst,.call {callee:=.value (.func g),args:=args,argTypes:=ts},type,pos,after,none⟩=some (Aqs [(none,1,s',[])]):=by
   unfold LK
   rw[e2]
   simp only
   unfold Abl
   rw[e3]
  unfold Og at he
  rw[e4] at he
  cases he
  exact⟨s',rfl,fun K hK=> .inl ⟨rfl,hK⟩⟩
theorem Bhi {ops:List Oper} {o:Oper} {e:TypeId} {z:Value} (ho:o.op=.alloc e) (hg:o.guard=none) (hz:(E.P.info? e).bind (·.zero)=some z) {l:List D4} (he:Og E ops s o=some l):
  ∃s',XH s o.dst ⟨.own s.nx 0,s.nx+1,(s.nx,some (.box e (toL z.cells.toList)))::s.o,1,[]⟩=some s'∧∀K:St→Prop,K s'→onL l K:=by
 obtain⟨dst,op,type,pos,after,guard⟩:=o
 simp only at ho hg
 subst ho hg
 have e1:opE E s [] ⟨dst,.alloc e,type,pos,after,none⟩=some ⟨.own s.nx 0,s.nx+1,(s.nx,some (.box e (toL z.cells.toList)))::s.o,1,[]⟩:=by
  show At6 E s e=_
  unfold At6
  rw[hz]
 have e2:Aah E ops s ⟨dst,.alloc e,type,pos,after,none⟩=none:=rfl
 cases hp:XH s dst ⟨.own s.nx 0,s.nx+1,(s.nx,some (.box e (toL z.cells.toList)))::s.o,1,[]⟩ with
 | none=>
  have e3:Ol E ops s ⟨dst,.alloc e,type,pos,after,none⟩=none:=by
   unfold Ol doE
   simp only
   rw[e1]
   simp only
   rw[hp]
  have e4:LK E ops s ⟨dst,.alloc e,type,pos,after,none⟩=none:=by
   unfold LK
   rw[e2]
   simp only
   unfold Abl
   rw[e3]
   rfl
  unfold Og at he
  rw[e4] at he
  cases he
 | some s'=>
  have e3:Ol E ops s ⟨dst,.alloc e,type,pos,after,none⟩=some [(none,1,s',[])]:=by
   unfold Ol doE
   simp only
   rw[e1]
   simp only
   rw[hp]
   rfl
  have e4:LK E ops s ⟨dst,.alloc e,type,pos,after,none⟩=some (Aqs [(none,1,s',[])]):=by
   unfold LK
   rw[e2]
   simp only
   unfold Abl
   rw[e3]
  unfold Og at he
  rw[e4] at he
  cases he
  exact⟨s',rfl,fun K hK=>VU (.inl ⟨rfl,hK⟩)⟩
theorem Bov (ok:EnvOk E) (h:Rel Z F N s a R) {id:Nat} {ops:List Oper} {draw:Bool} (hW:∀u,Qc u (Sj ops)=true→Z.W u) {s':St} {ps:List Prop} (he:evR E ops draw s=some (s',ps)) (hp:∀p∈ps,p) {Q:Exit→Act→World→Prop}
  (hk:∀F' N' a' R',Rel Z F' N' s' a' R'→Q .normal a' R'):(Code.region id ops.toArray draw).wp E.P Q a R:=by
 have h00:onP [((none:Cnd),s)] (At (LA F N s a R (Sj ops)) a R):=.inl ⟨rfl,F,N,h.start _⟩
 have hsub:Amw s [((none:Cnd),s)]:=⟨Sub.refl _,trivial⟩
 have hdst:∀o∈ops,∀d,o.dst=some d→(LA F N s a R (Sj ops)).W d:=fun o ho d hd=>Bck ho hd
 have O0:∀{l:List IA} {a' R'},Amw s l→onP l (At (LA F N s a R (Sj ops)) a' R')→s'=WZ (Sj ops) s l→Q .normal a' R':=fun {l a' R'} hs ho e=>by
  obtain⟨F',N',hr⟩:=A4a h hs ho
  subst e
  exact hk F' N' a' R' (h.over hr hW)
 cases draw with
 |false=>
  unfold evR at he
  simp only at he
  split at he<;>first|(cases he;done)|skip
  rename_i l ps1 h1
  cases he
  exact wp_region_lit (Btc ok hdst h00 h1 hp fun a' R' ho=>O0 (Ajs ok h1 hsub) ho rfl)
 | true =>
  have he':∃order,evO E ops order s=some (s',ps):=by
   unfold evR at he
   simp only at he
   split at he
   ·rename_i r hr
    cases he
    exact⟨_,hr⟩
   ·exact⟨_,he⟩
  clear he
  obtain⟨order,he⟩:=he'
  unfold evO at he
  split at he<;>first|(cases he;done)|skip
  rename_i ks l ps1 h1
  cases hB':A6b ops.toArray order ks (Ajp E ops order [(none,s)]) (fun j k=>Bmn ops order j||Bce E ops order [(none,s)] j k)&&B0v ops.toArray order (Ajp E ops order [(none,s)]) with
  |false=>rw[hB'] at he;cases he
  | true =>
   rw[hB'] at he
   cases he
   obtain⟨hB,hEop⟩:=Bool.and_eq_true_iff.1 hB'
   obtain⟨hc,hn,hsink⟩:=Bns hB
   obtain⟨hF,hat⟩:=Br2 h1
   let Z0:=LA F N s a R (Sj ops)
   have hov:∀{F1 N1 s0 A w F2 N2 s1 A2 w2},Rel Z0 F1 N1 s0 A w→Rel (LA F1 N1 s0 A w (Sj ops)) F2 N2 s1 A2 w2→Rel Z0 F2 N2 s1 A2 w2:=fun h1 h2=>h1.over h2 fun _ hu=>hu
   have hearly:∀{k o},Ajp E ops order [(none,s)] k=true→ops[order.getD k 0]?=some o→Aux E o=true∨(mkB o=true∧Bxa E ops order [(none,s)] k o=true):=fun {k o} h1 h2=>by
    unfold Ajp at h1
    rw[h2] at h1
    simp only at h1
    cases h3:Aux E o with
    |true=>exact .inl rfl
    |false=>
     rw[h3,cond_false] at h1
     cases h4:mkB o with
     |true=>rw[h4] at h1;exact .inr ⟨rfl,h1⟩
     |false=>rw[h4] at h1;cases h1
   refine Bu6 (S:=fun k X A w=>∃l1,stK E ops order [((none:Cnd),s)] k=some l1∧∃s0 F1 N1,Rel Z0 F1 N1 s0 A w∧Rsv E ops order Z0.R.heap.size k X A F1 N1 s0.o w∧onP l1 (fun x=>x=s0)) ok.wide hc ?_ ?_ (fun j k o o' d q1 q2 q3 q4 q5 q6=>Bwf hEop j k o o' d q1 q2 q3 q4 q5 q6) ?_ ?_ (fun k X A w w' ⟨l1,g1,s0,F1,N1,g2,g3,g4⟩ hb=>⟨l1,g1,s0,F1,N1,g2.grow hb,Btw g3 hb,g4⟩) ⟨_,A0f,s,F,N,h.start _,⟨fun _ _=>False,fun j v _ hx=>(by cases hx),fun i j u v b _ _ hx=>(by cases hx)⟩,.inl ⟨rfl,rfl⟩⟩ (fun X A w' ⟨l1,g1,s0,F1,N1,g2,g3,g4⟩=>?_)
   ·intro k X A w hk' hM ⟨l0,g1,s0,F1,N1,g2,g3,g4⟩ o ho
    obtain⟨l1,o1,l2,ps2,e1,e2,e4,e5,e6⟩:=hat k hk'
    have ho':ops[order.getD k 0]?=some o:=by simpa using ho
    have:o1=o:=Option.some.inj (e1.symm.trans ho')
    subst this
    obtain rfl:l1=l0:=Option.some.inj (e2.symm.trans g1)
    have hk0:ks.getD k 0=0:=by
     have hM':Nat.blt 0 (ks.getD k 0)=false:=hM
     cases hz:ks.getD k 0 with
     |zero=>rfl
     |succ m=>rw[hz] at hM';cases hM'
    rw[hk0] at e4
    obtain⟨v,r1,r2⟩:=Afo (Z:=LA F1 N1 s0 A w (Sj ops)) ok (hdst o1 (List.mem_of_getElem? ho')) e4 (fun p hm=>hp p (e5 p hm)) (Xs (fun x hx=>by subst hx;exact⟨F1,N1,g2.start _⟩) g4)
    obtain⟨s1,⟨F2,N2,q1⟩,q2⟩:=Axa r1
    exact⟨v,⟨l2,e6,s1,F2,N2,hov g2 q1,Az8 (Atq g3 ho' v) q1.st,q2⟩,r2⟩
   ·intro k X A w v hk' hE hX ⟨l0,g1,s0,F1,N1,g2,g3,g4⟩ o ho
    obtain⟨l1,o1,l2,ps2,e1,e2,e4,e5,e6⟩:=hat k hk'
    have ho':ops[order.getD k 0]?=some o:=by simpa using ho
    have:o1=o:=Option.some.inj (e1.symm.trans ho')
    subst this
    obtain rfl:l1=l0:=Option.some.inj (e2.symm.trans g1)
    obtain⟨G,gA,gB⟩:=g3
    obtain⟨b0,b5⟩:=gA k v (Nat.le_refl _) hX
    have rest:∀{F2:Nat→Prop} {N2:Nm} {o2:Objs},(∀b,F2 b→F1 b∨G k b)→(∀b,Foot N2 o2 b→Foot N1 s0.o b∨G k b)→Rsv E ops order Z0.R.heap.size (k+1) X (A.put o1.dst v) F2 N2 o2 w:=fun {F2 N2 o2} q1 q2=>by
     refine⟨G,fun j v' hj hx=>?_,fun i j u v' b hi hj=>gB i j u v' b (by omega) (by omega)⟩
     obtain⟨r1,r2⟩:=gA j v' (by omega) hx
     refine⟨Bf0 r1 (by omega) ho',fun b hb=>?_⟩
     obtain⟨t1,t2,t3,t4⟩:=r2 b hb
     have hne:¬G k b:=fun hk=>by
      have:=gB k j _ _ b (Nat.le_refl _) (by omega) hX hx hk hb
      omega
     exact⟨t1,t2,fun hf=>(q1 b hf).elim t3 hne,fun hf=>(q2 b hf).elim t4 hne⟩
    rcases hearly hE ho' with hE1|⟨hE1,hE2⟩
    rcases Bcl hE1 with⟨e,z,a1,a2,a3⟩|⟨f,x,args,ts,a1,a2,a3⟩
    ·rcases b0 with⟨g,e',z',b1,⟨op,b2,b3⟩,b4,b6,b9⟩|⟨_,_,_,_,_,⟨op,b2,b3⟩,_⟩|⟨_,_,op,b2,b3,_⟩
     ·have:op=o1:=Option.some.inj (b2.symm.trans ho')
      subst this
      rw[a1] at b3
      cases b3
      obtain rfl:z'=z:=Option.some.inj (b4.symm.trans a3)
      obtain⟨l3,c1,c2⟩:=Qn e4 g4
      obtain⟨s1,c3,c4⟩:=Bhi a1 a2 a3 c1
      obtain⟨t1,t2,t3,t4⟩:=b5 g ((b6 g).2 rfl)
      obtain⟨d1,d2,d3⟩:=Bx5 g2 t1 t2 t3 t4 b9
      subst b1
      have hrel:Rel Z0 F1 (N1.setB s0.nx g) s1 (A.put op.dst (.pointer (some ⟨g,0,none⟩))) w∧s1.o=(s0.nx,some (.box e (toL z'.cells.toList)))::s0.o:=by
       unfold XH at c3
       split at c3
       ·rename_i d hd
        cases hb:Nat.blt d s0.n with
        |false=>rw[hb] at c3;cases c3
        |true=>
         rw[hb] at c3
         cases c3
         rw[hd]
         exact⟨d1.put (x:=.own s0.nx 0) (Nat.le_of_ble_eq_true hb) (hdst op (List.mem_of_getElem? ho') d hd) _ ((Ab rfl).2 d2),rfl⟩
       ·rename_i hd
        cases c3
        rw[hd]
        exact⟨d1,rfl⟩
      refine⟨l2,e6,s1,F1,N1.setB s0.nx g,hrel.1,rest (fun b hb=> .inl hb) (fun b hb=>?_),c2 _ (c4 (fun x=>x=s1) rfl)⟩
      rw[hrel.2] at hb
      rcases d3 b hb with q|q
      ·exact .inr ((b6 b).2 q)
      ·exact .inl q
     ·have:op=o1:=Option.some.inj (b2.symm.trans ho')
      subst this
      rw[a1] at b3
      cases b3
     ·have:op=o1:=Option.some.inj (b2.symm.trans ho')
      subst this
      unfold mkB at b3
      rw[a1] at b3
      cases b3
    ·rcases b0 with⟨g,e',z',b1,⟨op,b2,b3⟩,b4,b6,b9⟩|⟨f',x',args',ts',N0,⟨op,b2,b3⟩,b4,b6⟩|⟨_,_,op,b2,b3,_⟩
     ·have:op=o1:=Option.some.inj (b2.symm.trans ho')
      subst this
      rw[a1] at b3
      cases b3
     ·have:op=o1:=Option.some.inj (b2.symm.trans ho')
      subst this
      rw[a1] at b3
      cases b3
      obtain rfl:x'=x:=congrArg Prod.snd (Option.some.inj (b4.symm.trans a3))
      obtain⟨l3,c1,c2⟩:=Qn e4 g4
      obtain⟨s1,c3,c4⟩:=Bcd a1 a2 a3 c1
      obtain⟨_,_,_,hfree,_⟩:=OY a3
      obtain⟨d1,d2⟩:=Bux g2 b5 b6 hfree
      have hrel:Rel Z0 (fun b=>F1 b∨G k b) N1 s1 (A.put op.dst v) w∧s1.o=s0.o:=by
       unfold XH at c3
       split at c3
       ·rename_i d hd
        cases hb:Nat.blt d s0.n with
        |false=>rw[hb] at c3;cases c3
        |true=>
         rw[hb] at c3
         cases c3
         rw[hd]
         exact⟨d1.put (x:=x') (Nat.le_of_ble_eq_true hb) (hdst op (List.mem_of_getElem? ho') d hd) _ ((Ab d2.isPlain).2 d2),rfl⟩
       ·rename_i hd
        cases c3
        rw[hd]
        exact⟨d1,rfl⟩
      refine⟨l2,e6,s1,_,N1,hrel.1,rest (fun b hb=>hb) (fun b hb=>?_),c2 _ (c4 (fun x=>x=s1) rfl)⟩
      rw[hrel.2] at hb
      exact .inl hb
     ·have:op=o1:=Option.some.inj (b2.symm.trans ho')
      subst this
      unfold mkB at b3
      rw[a1] at b3
      cases b3
    ·-- what was made of values
     rcases b0 with⟨g,e',z',b1,⟨op,b2,b3⟩,b4,b6,b9⟩|⟨_,_,_,_,_,⟨op,b2,b3⟩,_⟩|⟨g,C,op,b2,b3,b4,b6,b7,b8,_⟩
     ·have:op=o1:=Option.some.inj (b2.symm.trans ho')
      subst this
      unfold mkB at hE1
      rw[b3] at hE1
      cases hE1
     ·have:op=o1:=Option.some.inj (b2.symm.trans ho')
      subst this
      unfold mkB at hE1
      rw[b3] at hE1
      cases hE1
     ·have:op=o1:=Option.some.inj (b2.symm.trans ho')
      subst this
      unfold Bxa at hE2
      rw[g1] at hE2
      have hput:B21 E op l1=true:=(Bool.and_eq_true_iff.1 hE2).1
      have hput':=Bms (p:=fun s=>match mkE E s op with
       |some f=>isS (XH s op.dst f)
       |none=>false) g4 hput
      split at hput'<;>first|(cases hput';done)|skip
      rename_i f hf
      obtain⟨s1,c3,c4⟩:=Bwu (ops:=ops) hf hput'
      obtain⟨l3,c1,c2⟩:=Qn e4 g4
      obtain⟨C',ob,x,rfl,m2,m3⟩:=By6 g2 hf
      obtain rfl:C'=C:=by
       have h1:=m2 w
       rw[b4 w] at h1
       injection h1 with _ h1
       have h2:=congrArg World.heap h1
       have h3:w.heap.push C=w.heap.push C':=h2
       exact((Array.push_eq_push.1 h3).1).symm
      obtain⟨t1,t2,t3,t4⟩:=b5 g ((b7 g).2 rfl)
      obtain⟨m4,m5,m6⟩:=m3 g b8
      obtain⟨d1,d3⟩:=B1n g2 t1 t3 t4 m4 m6
      subst b6
      have hrel:Rel Z0 F1 (N1.both s0.nx g (mkV op.op g)) s1 (A.put op.dst (mkV op.op g)) w∧s1.o=(s0.nx,some ob)::s0.o:=by
       unfold XH at c3
       split at c3
       ·rename_i d hd
        cases hb:Nat.blt d s0.n with
        |false=>rw[hb] at c3;cases c3
        |true=>
         rw[hb] at c3
         cases c3
         rw[hd]
         exact⟨d1.put (x:=x) (Nat.le_of_ble_eq_true hb) (hdst op (List.mem_of_getElem? ho') d hd) _ ((Ab m5.isPlain).2 m5),rfl⟩
       ·rename_i hd
        cases c3
        rw[hd]
        exact⟨d1,rfl⟩
      refine⟨l2,e6,s1,F1,_,hrel.1,rest (fun b hb=> .inl hb) (fun b hb=>?_),c2 _ (c4 c1 (fun x=>x=s1) rfl)⟩
      rw[hrel.2] at hb
      rcases d3 b hb with q|q
      ·exact .inr ((b7 b).2 q)
      ·exact .inl q
   ·intro p k X A w hpk hk' hE ⟨l0,g1,s0,F1,N1,g2,g3,g4⟩ o ho hnw A' hA'
    have ho':ops[order.getD k 0]?=some o:=by simpa using ho
    obtain⟨G,gA,gB⟩:=g3
    -- what is new lies behind all that was
    have more:∀{v:Value} {w':World} {H:Nat→Prop},Below w.heap.size w w'→Bng E ops order p A k v H w'→(∀b,H b→w.heap.size≤b∧b <w'.heap.size)→Rsv E ops order Z0.R.heap.size p (X.set k v) A F1 N1 s0.o w':=fun {v w' H} hb hK hH=>by
     refine⟨fun j b=>if j=k then H b else G j b,fun j v' hj hx=>?_,fun i j u v' b hi hj hx hy p1' p2'=>?_⟩
     ·by_cases ej:j=k
      ·subst ej
       have hx':some v=some v':=by
        unfold Aside.set at hx
        rw[if_pos rfl] at hx
        exact hx
       cases hx'
       refine⟨by simp only[if_true];exact hK,fun b hb2=>?_⟩
       simp only[if_true] at hb2
       obtain⟨r1,r2⟩:=hH b hb2
       refine⟨Nat.le_trans g2.st.size r1,r2,fun hf=>?_,fun⟨i,ob,hl,hf⟩=>?_⟩
       ·have:=g2.hp.flt b hf
        omega
       ·have:=(g2.hp.ob i ob hl).2.lt hf
        omega
      ·unfold Aside.set at hx
       rw[if_neg ej] at hx
       obtain⟨q1,q2⟩:=gA j v' hj hx
       simp only[if_neg ej]
       refine⟨A40 q1 fun b hb2=>hb.block b (q2 b hb2).2.1,fun b hb2=>?_⟩
       obtain⟨t1,t2,t3,t4⟩:=q2 b hb2
       exact⟨t1,Nat.lt_of_lt_of_le t2 hb.size,t3,t4⟩
     ·have p1:(if i=k then H b else G i b):=p1'
      have p2:(if j=k then H b else G j b):=p2'
      have old:∀{i u},i≠k→p≤i→(X.set k v) i=some u→G i b→b <w.heap.size:=fun {i u} hne hi hx hg=>by
       unfold Aside.set at hx
       rw[if_neg hne] at hx
       exact((gA i u hi hx).2 b hg).2.1
      by_cases ei:i=k
      ·by_cases ej:j=k
       ·rw[ei,ej]
       ·rw[if_pos ei] at p1
        rw[if_neg ej] at p2
        have:=(hH b p1).1
        have:=old ej hj hy p2
        omega
      ·by_cases ej:j=k
       ·rw[if_neg ei] at p1
        rw[if_pos ej] at p2
        have:=(hH b p2).1
        have:=old ei hi hx p1
        omega
       ·rw[if_neg ei] at p1
        rw[if_neg ej] at p2
        unfold Aside.set at hx hy
        rw[if_neg ei] at hx
        rw[if_neg ej] at hy
        exact gB i j u v' b hi hj hx hy p1 p2
    rcases hearly hE ho' with hE1|⟨hE1,hE2⟩
    rcases Bcl hE1 with⟨e,z,a1,a2,a3⟩|⟨f,x,args,ts,a1,a2,a3⟩
    ·refine⟨K5 a2 _,?_⟩
     have hrun:(execOp A'.eval o).run E.P w=.ok (.value (.pointer (some ⟨w.heap.size,0,none⟩))) (w.alloc (.cells z.cells.toList.toArray e (0,0))):=by
      obtain⟨dst,op,type,pos,after,guard⟩:=o
      simp only at a1
      subst a1
      exact Ip (Aqc a3)
     rw[hrun]
     have hb:Below w.heap.size w (w.alloc (.cells z.cells.toList.toArray e (0,0))):=Qg _
     exact⟨hb,l0,g1,s0,F1,N1,g2.grow hb,more (H:=fun b=>b=w.heap.size) hb (.inl ⟨w.heap.size,e,z,rfl,⟨o,ho',a1⟩,a3,fun _=>Iff.rfl,heap_alloc_new w _⟩) (fun b e=>by rw[e];exact⟨Nat.le_refl _,by simp⟩),g4⟩
    ·refine⟨K5 a2 _,?_⟩
     obtain⟨_,ha,hgo,hfree,k1,hk1,hC⟩:=OY a3
     rw[Auw a1 ha hgo A' w]
     refine(ok.C _ _ _ _ _ _ _ _ _ hC (fun p hm=>by cases hm) (fun _=>False) N1 w [] ⟨fun _ h=>h.elim,fun i ob hi=>(by cases hi),fun i ob g hi=>(by cases hi),fun i j x y g hi=>(by cases hi)⟩ HL.nil).mono fun e R' ⟨y,F',N',e1,e2,e3,e4,e5⟩=>⟨y,e1,?_⟩
     have hb:=e5 hk1
     exact⟨hb,l0,g1,s0,F1,N1,g2.grow hb,more hb (.inr (.inl ⟨f,x,args,ts,N',⟨o,ho',a1⟩,a3,e4⟩)) (fun b hb2=>⟨by
      rcases e3.fnew b hb2 with q|⟨i,ob,hi,_⟩|q
      ·exact q.elim
      ·cases hi
      ·exact q,e2.flt b hb2⟩),g4⟩
    ·have hnwb:Bs5 ops order p k o=true:=by
      unfold Bs5
      refine List.all_eq_true.2 fun i hi=>?_
      have hi':=List.mem_range.1 hi
      cases ho2:ops[order.getD (p+i) 0]? with
      |none=>rfl
      | some o'=>
       simp only
       cases hd:o'.dst with
       |none=>rfl
       |some d=>
        have:=hnw (p+i) (by omega) (by omega) o' d (by simpa using ho2) hd
        simp only[Bool.not_eq_true',List.contains_eq_mem]
        simpa using this
     unfold Bxa at hE2
     have h7:=List.all_eq_true.1 (Bool.and_eq_true_iff.1 hE2).2 p (List.mem_range.2 (by omega))
     rw[hnwb,g1,Bool.not_true,Bool.false_or] at h7
     have h8:=Bms (p:=fun s=>isS (mkE E s o)) g4 h7
     cases hf:mkE E s0 o with
     |none=>simp only[hf] at h8;cases h8
     |some f=>
      obtain⟨C,ob,x,_,m2,_⟩:=By6 g2 hf
      obtain⟨_,n2,_,_⟩:=By7 hf
      refine⟨K5 n2 _,?_⟩
      rw[TS (a:=A) (a':=A') (ops:=ops.toArray) o (Bmk hE1) hA',m2 w]
      have hb:Below w.heap.size w (w.alloc C):=Qg _
      exact⟨hb,l0,g1,s0,F1,N1,g2.grow hb,more (H:=fun b=>b=w.heap.size) hb (.inr (.inr ⟨w.heap.size,C,o,ho',hE1,m2,rfl,fun _=>Iff.rfl,heap_alloc_new w _,hnw⟩)) (fun b e=>by rw[e];exact⟨Nat.le_refl _,by simp⟩),g4⟩
   ·intro k X A w hk' hM hE ⟨l0,g1,s0,F1,N1,gr,gx,g4⟩ o ho
    have g2:onP l0 (At Z0 A w):=Xs (fun x hx=>by subst hx;exact⟨F1,N1,gr⟩) g4
    have hstep:∀{l2:List IA} {A2 w2},Rsv E ops order Z0.R.heap.size (k+1) X A2 F1 N1 s0.o w→stK E ops order [((none:Cnd),s)] (k+1)=some l2→onP l2 (At (LA F1 N1 s0 A w (Sj ops)) A2 w2)→∃l1,stK E ops order [((none:Cnd),s)] (k+1)=some l1∧∃s0 F1 N1,Rel Z0 F1 N1 s0 A2 w2∧Rsv E ops order Z0.R.heap.size (k+1) X A2 F1 N1 s0.o w2∧onP l1 (fun x=>x=s0):=fun {l2 A2 w2} hx e6 r1=>by
     obtain⟨s1,⟨F2,N2,q1⟩,q2⟩:=Axa r1
     exact⟨l2,e6,s1,F2,N2,hov gr q1,Az8 hx q1.st,q2⟩
    obtain⟨l1,o1,l2,ps2,e1,e2,e4,e5,e6⟩:=hat k hk'
    have ho':ops[order.getD k 0]?=some o:=by simpa using ho
    have:o1=o:=Option.some.inj (e1.symm.trans ho')
    subst this
    obtain rfl:l1=l0:=Option.some.inj (e2.symm.trans g1)
    rcases Ajt (Z:=LA F1 N1 s0 A w (Sj ops)) ok (hdst o1 (List.mem_of_getElem? ho')) e4 (fun p hm=>hp p (e5 p hm)) (Xs (fun x hx=>by subst hx;exact⟨F1,N1,gr.start _⟩) g4) with⟨r1,r2⟩|⟨r1,r2⟩
    ·by_cases hex:1 <ks.getD k 0∧∃j,j <k∧Bce E ops order [(none,s)] j k=true
     ·have hcm:∀j,j <k→Bce E ops order [(none,s)] j k=true→∃o t x w' y,ops[order.getD j 0]?=some o∧o.op=.load t x∧(∀V,canA ops.toArray (fun k=>order.getD k 0) a V k=A→(canA ops.toArray (fun k=>order.getD k 0) a V j).eval x=A.eval x)∧(execOp A.eval o1).run E.P w=.ok .skip w'∧(Instr.loadAt t (A.eval x)).run E.P w=.ok y w∧
        ∀w1,Below w'.heap.size w' w1→(Instr.loadAt t (A.eval x)).run E.P w1=.ok y w1:=fun j hj hc=>by
       unfold Bce at hc
       split at hc<;>first|(cases hc;done)|skip
       rename_i oj o1' l1' hoj ho1 hl1
       obtain rfl:o1'=o1:=Option.some.inj (ho1.symm.trans ho')
       obtain rfl:l1'=l1:=Option.some.inj (hl1.symm.trans g1)
       cases hcl:Bcf E oj o1' l1' with
       |false=>rw[hcl] at hc;cases hc
       | true=>
        rw[hcl] at hc
        simp only[cond_true] at hc
        obtain⟨s1,F1,N1,hr1,hp1⟩:=Bcg hcl g2
        obtain⟨t,x,w',y,c1,c2,c3,c4,c5⟩:=Bv6 hr1 hp1
        refine⟨oj,t,x,w',y,hoj,c1,fun V hV=>?_,c3,c4,c5⟩
        rw[c1] at hc
        cases x<;>first|(cases hc;done)|skip
        rename_i x
        have hkeep:=Ajf (ops:=ops.toArray) (ix:=fun k=>order.getD k 0) (a0:=a) (V:=V) (x:=x) (j:=j) (k - j) fun i hi o ho=>by
         have h7:=List.all_eq_true.1 hc i (List.mem_range.2 hi)
         have ho2:ops[order.getD (j+i) 0]?=some o:=by simpa using ho
         rw[ho2] at h7
         intro hd
         simp only[hd] at h7
         simp at h7
        rw[show j+(k - j)=k by omega,hV] at hkeep
        exact hkeep.symm
      obtain⟨hk2,j0,hj0,hc0⟩:=hex
      obtain⟨_,_,_,w',_,_,_,_,hrun,_,_⟩:=hcm j0 hj0 hc0
      have r2':=r2
      rw[hrun] at r2'
      obtain⟨_,q2⟩:=r2'
      refine .inl ⟨r1,?_⟩
      rw[hrun]
      refine⟨.inr fun j hj=>?_,hstep (Atq gx ho' _) e6 q2⟩
      ·rcases hsink k hk' (Nat.ble_eq_true_of_le hk2) j hj with h8|h8
       ·exact .inl h8
       ·rcases Bool.or_eq_true_iff.1 h8 with h8|h8
        ·exact .inr fun V _ hpend=>A4m h8 hpend
        obtain⟨o,t,x,w'',y,d1,d2,d3,d4,d5,d6⟩:=hcm j hj h8
        obtain rfl:w''=w':=by rw[hrun] at d4;injection d4 with _ d4;exact d4.symm
        refine .inr fun V hV hpend o2 ho2=>?_
        have ho3:ops[order.getD j 0]?=some o2:=by simpa using ho2
        obtain rfl:o=o2:=Option.some.inj (d1.symm.trans ho3)
        have hex:∀w1,(execOp (canA ops.toArray (fun k=>order.getD k 0) a V j).eval o).run E.P w1=(do pure (.value (←Instr.loadAt t (A.eval x))):Sem Next).run E.P w1:=fun w1=>by
         obtain⟨dst,op,type,pos,after,guard⟩:=o
         simp only at d2
         subst d2
         show(do pure (.value (←Instr.loadAt t (Act.eval (canA ops.toArray (fun k=>order.getD k 0) a V j) x))):Sem Next).run E.P w1=_
         rw[d3 V hV]
        rcases hpend o ho2 with⟨p1,p2⟩|⟨p1,p2⟩
        ·refine .inl ⟨p1,fun w1 hw1=>?_⟩
         have p3:=p2 w (Below.refl _ _)
         rw[hex,Sem.run_bind,d5] at p3
         rw[hex,Sem.run_bind,d6 w1 hw1]
         obtain⟨_,p4⟩:=p3
         exact⟨rfl,p4⟩
        ·exact .inr ⟨p1,p2⟩
     ·refine .inl ⟨r1,DN r2 fun v w' ⟨q1,q2⟩=>⟨?_,hstep (Atq gx ho' _) e6 q2⟩⟩
      by_cases hk1:ks.getD k 0≤1
      ·exact .inl (q1 hk1)
      ·refine .inr fun j hj=>?_
       have h9:1 <ks.getD k 0:=by omega
       rcases hsink k hk' (Nat.ble_eq_true_of_le h9) j hj with h8|h8
       ·exact .inl h8
       ·rcases Bool.or_eq_true_iff.1 h8 with h8|h8
        ·exact .inr fun V _ hpend=>A4m h8 hpend
        exact absurd ⟨h9,j,hj,h8⟩ hex
    ·exact .inr ⟨r1,hstep (Atq gx ho' _) e6 r2⟩
   ·rw[hF] at g1
    obtain rfl:=Option.some.inj g1
    exact O0 (A6t ok h1 hsub) (Xs (fun x hx=>by subst hx;exact⟨F1,N1,g2⟩) g4) rfl
end
end Go.Proofs.Yteebobbhhgmeiaa
namespace Go.Proofs.Yteebobbhhgmeiaa
open Go.RowKit
def Aey (_id:Nat):Prop:=False
def TF:Code→List Nat
 | .region _ ops _=>Sj ops.toList
 | .seq a b=>TF a++TF b
 | .cond _ a b=>TF a++TF b
 | .block _ b=>TF b
 | .loop b=>TF b
 | .scope b=>TF b
 |_=>[]
theorem Acf {u:Nat}:∀{A B:List Nat},Qc u (A++B)=(Qc u A||Qc u B)
 | [],B=>rfl
 |k::r,B=>by
  show(bif Nat.beq k u then true else Qc u (r++B))=((bif Nat.beq k u then true else Qc u r)||Qc u B)
  rw[Acf]
  cases Nat.beq k u<;>rfl
abbrev Tag:=Option Nat
abbrev Bj:=List (Tag×Cnd×St)
def Fs:Tag→Tag→Bool
 |none,none=>true
 |some i,some j=>Nat.beq i j
 |_,_=>false
theorem UH {x y:Tag} (h:Fs x y=true):x=y:=by
 cases x<;>cases y<;>first|rfl|(cases h;done)|skip
 rw[Nat.eq_of_beq_eq_true h]
theorem Ty (x:Tag):Fs x x=true:=by cases x<;>simp[Fs]
theorem Y3 {x y:Tag} (h:x≠y):Fs x y=false:=by
 cases hb:Fs x y with
 |true=>exact absurd (UH hb) h
 |false=>rfl
def AL (t:Tag):Bj→Option (Cnd×St)
 | []=>none
 |(k,c,s)::r=>bif Fs k t then some (c,s) else AL t r
def IG (t:Tag):Bj→Cnd
 | []=>none
 |(k,c,_)::r=>bif Fs k t then IG t r else LV (A1v c) (IG t r)
def KL:Bj→Cnd
 | []=>none
 |(_,c,_)::r=>LV (A1v c) (KL r)
structure Res where
 ps:List Prop
 outs:Bj
 nrm:Option St
def Abr (f:Tag→Cnd→St→Option (Cnd×St)→Cnd×St) (B:Bj):Bj→Bj
 | []=>[]
 |(t,c,s)::r=>(t,f t c s (AL t B))::Abr f B r
def KZ (f:Cnd→Cnd) (A:Bj):Bj→Bj
 | []=>[]
 |(t,d,s)::r=>match AL t A with
  |some _=>KZ f A r
  |none=>(t,f d,s)::KZ f A r
def Bso (g:Bool) (W:List Nat) (s:St) (_t:Tag) (c:Cnd) (x:St):Option (Cnd×St)→Cnd×St
 |none=>(LV (some g) c,x)
 |some (d,y)=>(Bsl g c d,Jy g W s x y)
def A34 (g:Bool) (W:List Nat) (s:St):Option St→Option St→Option St
 |none,none=>none
 |some x,none=>some x
 |none,some y=>some y
 |some x,some y=>some (Jy g W s x y)
def Bc8 (g:Bool) (W:List Nat) (s:St) (A B:Res):Res:=
 ⟨Wm [g=true] A.ps++Wm [g=false] B.ps,Abr (Bso g W s) B.outs A.outs++KZ (LV (some !g)) A.outs B.outs,A34 g W s A.nrm B.nrm⟩
def Bxq (A:Bj) (W:List Nat) (s:St) (t:Tag) (c:Cnd) (x:St):Option (Cnd×St)→Cnd×St
 |none=>(c,x)
 |some (d,y)=>(orO c (LV (IG t A) d),Jy (Bm c) W s x y)
def A22 (W:List Nat) (s:St) (A B:Res):Res:=
 ⟨A.ps++Wm (Bv4 (KL A.outs)) B.ps,Abr (Bxq A.outs W s) B.outs A.outs++KZ (LV (KL A.outs)) A.outs B.outs,B.nrm⟩
def N4 (t:Tag):Bj→Bj
 | []=>[]
 |(k,c,s)::r=>bif Fs k t then N4 t r else(k,c,s)::N4 t r
def Q9 (W:List Nat) (s:St) (id:Nat) (A:Res):Res:=match AL (some id) A.outs with
 |none=>A
 |some (c,x)=>⟨A.ps,N4 (some id) A.outs,match A.nrm with
  |none=>some x
  |some y=>some (Jy (Bm c) W s x y)⟩
def A0m (id:Nat):Res:=⟨[Aey id],[],none⟩
def Av5 (W:List Nat) (f:St→Res):Nat→St→Res
 |0,_=>A0m 1000000
 |n+1,s=>match(f s).nrm with
  |none=>f s
  |some s1=>A22 W s (f s) (Av5 W f n s1)
def Bsj:Code→Bool
 | .region _ _ _=>true
 |_=>false
def B06 (h:Bool) (u:Nat):Bool:=bif h then true else Nat.ble 1000 u
def TE (E:Env) (u:Nat):Nat→Code→Bool→St→Res
 |_,.skip,_,s=>⟨[],[],some s⟩
 |_,.region id ops draw,_,s=>match evR E ops.toList draw s with
  |some (s',ps)=>⟨ps,[],some s'⟩
  |none=>A0m id
 |_,.seq a b,h,s=>match(TE E u 0 a h s).nrm with
  |none=>TE E u 0 a h s
  |some s1=>A22 (TF a++TF b) s (TE E u 0 a h s) (TE E u 0 b (bif Bsj a then h else false) s1)
 | _,.cond c x y,h,s=>match s.raw [] c with
  | some (.bool g)=>match B06 h u with
   |true=>match g with
    |true=>TE E u 0 x false s
    |false=>TE E u 0 y false s
   |false=>Bc8 g (TF x++TF y) s (TE E u 0 x false s) (TE E u 0 y false s)
  |_=>A0m 1000001
 |_,.block id b,_,s=>Q9 (TF b) s id (TE E u id b false s)
 |l,.loop b,_,s=>match E.L l s with
  |some (b0,ps,outs)=>⟨(b=b0)::ps,outs,none⟩
  |none=>Av5 (TF b) (TE E u 0 b true) u s
 |_,.exit id,_,s=>⟨[],[(some id,none,s)],none⟩
 |_,.ret,_,s=>⟨[],[(none,none,s)],none⟩
 |_,.scope b,_,s=>TE E u 0 b false s
 |_,.label _,_,s=>⟨[],[],some s⟩
 |_,_,_,_=>A0m 1000002
abbrev evC (E:Env) (u:Nat) (c:Code) (s:St):Res:=TE E u 0 c false s
def Tag.ex:Tag→Exit
 |none=> .ret
 |some i=> .exit i
def Bgn (o:Bj):Prop:=∀t c s,AL t o=some (c,s)→Bm c=false
def Bu9 (t:Tag) (o:Bj):Prop:=∀t' c s,t'≠t→AL t' o=some (c,s)→Bm c=false
def Oc (r:Res) (e:Exit) (s:St):Prop:=
 (∃t c,e=Tag.ex t∧AL t r.outs=some (c,s)∧Bm c=true∧Bu9 t r.outs)∨(e=.normal∧r.nrm=some s∧Bgn r.outs)
theorem Wk (t:Tag):∀(A B:Bj),AL t (A++B)=match AL t A with|some x=>some x|none=>AL t B
 | [],B=>rfl
 |(k,c,s)::r,B=>by
  show(bif Fs k t then some (c,s) else AL t (r++B))=match(bif Fs k t then some (c,s) else AL t r) with|some x=>some x|none=>AL t B
  cases Fs k t with
  |true=>rfl
  |false=>exact Wk t r B
theorem TW (f:Tag→Cnd→St→Option (Cnd×St)→Cnd×St) (B:Bj) (t:Tag):∀(A:Bj),AL t (Abr f B A)=match AL t A with|some (c,s)=>some (f t c s (AL t B))|none=>none
 | []=>rfl
 |(k,c,s)::r=>by
  show(bif Fs k t then some (f k c s (AL k B)) else AL t (Abr f B r))=match(bif Fs k t then some (c,s) else AL t r) with|some (c,s)=>some (f t c s (AL t B))|none=>none
  cases h:Fs k t with
  |true=>rw[UH h];rfl
  |false=>exact TW f B t r
theorem Ace (f:Cnd→Cnd) (A:Bj) (t:Tag) (hA:AL t A=none):∀(B:Bj),AL t (KZ f A B)=match AL t B with|some (d,s)=>some (f d,s)|none=>none
 | []=>rfl
 | (k,d,s)::r=>by
  show AL t (match AL k A with|some _=>KZ f A r|none=>(k,f d,s)::KZ f A r)=match(bif Fs k t then some (d,s) else AL t r) with|some (d,s)=>some (f d,s)|none=>none
  cases h:Fs k t with
  |true=>
   obtain rfl:=UH h
   rw[hA]
   show(bif Fs k k then some (f d,s) else AL k (KZ f A r))=_
   rw[Ty]
   rfl
  | false=>
   have ih:=Ace f A t hA r
   cases hk:AL k A with
   |some x=>exact ih
   |none=>
    show(bif Fs k t then some (f d,s) else AL t (KZ f A r))=_
    rw[h]
    exact ih
theorem Sw (t:Tag) (f:Tag→Cnd→St→Option (Cnd×St)→Cnd×St) (h:Cnd→Cnd) (A B:Bj):
  AL t (Abr f B A++KZ h A B)=match AL t A with|some (c,s)=>some (f t c s (AL t B))|none=>match AL t B with|some (d,s)=>some (h d,s)|none=>none:=by
 rw[Wk,TW]
 cases hA:AL t A with
 |some x=>rfl
 |none=>exact Ace h A t hA B
theorem A4f:∀{o:Bj},(∀e∈o,Bm e.2.1=false)→Bm (KL o)=true
 | [],_=>rfl
 |(k,c,s)::r,h=>by
  show Bm (LV (A1v c) (KL r))=true
  rw[Bq,Aff,h (k,c,s) (List.mem_cons_self ..),A4f fun e he=>h e (List.mem_cons_of_mem _ he)]
  rfl
def OK:Bj→Prop
 | []=>True
 |(k,_,_)::r=>AL k r=none∧OK r
theorem Awb:∀{o:Bj},OK o→∀e∈o,AL e.1 o=some e.2
 | [],_,e,h=>by cases h
 | (k,c,s)::r,⟨h1,h2⟩,e,h=>by
  rcases List.mem_cons.1 h with rfl|h
  ·show(bif Fs k k then some (c,s) else AL k r)=_
   rw[Ty]
   rfl
  ·have:=Awb h2 e h
   show(bif Fs k e.1 then some (c,s) else AL e.1 r)=_
   cases hb:Fs k e.1 with
   |true=>
    obtain rfl:=UH hb
    rw[h1] at this
    cases this
   |false=>exact this
theorem Qd {o:Bj} (ho:OK o) (h:Bgn o):Bm (KL o)=true:=A4f fun e he=>h e.1 e.2.1 e.2.2 (Awb ho e he)
theorem Ak7:∀{o:Bj} {t:Tag} {c:Cnd} {s:St},AL t o=some (c,s)→Bm c=true→Bm (KL o)=false
 | [],_,_,_,h,_=>by cases h
 | (k,d,x)::r,t,c,s,h,hc=>by
  show Bm (LV (A1v d) (KL r))=false
  rw[Bq,Aff]
  have h':(bif Fs k t then some (d,x) else AL t r)=some (c,s):=h
  cases hb:Fs k t with
  |true=>
   rw[hb] at h'
   obtain⟨rfl,rfl⟩:d=c∧x=s:=by cases h';exact⟨rfl,rfl⟩
   rw[hc]
   rfl
  |false=>
   rw[hb] at h'
   rw[Ak7 h' hc,Bool.and_false]
theorem Awt:∀{o:Bj} {t u:Tag} {c:Cnd} {s:St},t≠u→AL t o=some (c,s)→Bm c=true→Bm (IG u o)=false
 | [],_,_,_,_,_,h,_=>by cases h
 | (k,d,x)::r,t,u,c,s,hu,h,hc=>by
  have h':(bif Fs k t then some (d,x) else AL t r)=some (c,s):=h
  show Bm (bif Fs k u then IG u r else LV (A1v d) (IG u r))=false
  cases hb:Fs k t with
  |true=>
   rw[hb] at h'
   obtain⟨rfl,rfl⟩:d=c∧x=s:=by cases h';exact⟨rfl,rfl⟩
   obtain rfl:=UH hb
   rw[Y3 hu]
   show Bm (LV (A1v d) (IG u r))=false
   rw[Bq,Aff,hc]
   rfl
  | false=>
   rw[hb] at h'
   have ih:=Awt hu h' hc
   cases Fs k u with
   |true=>exact ih
   |false=>
    show Bm (LV (A1v d) (IG u r))=false
    rw[Bq,ih,Bool.and_false]
theorem Awu:∀{o:Bj} {u:Tag},(∀e∈o,Bm e.2.1=false)→Bm (IG u o)=true
 | [],_,_=>rfl
 | (k,c,s)::r,u,h=>by
  have ih:=Awu (u:=u) (o:=r) fun e he=>h e (List.mem_cons_of_mem _ he)
  show Bm (bif Fs k u then IG u r else LV (A1v c) (IG u r))=true
  cases Fs k u with
  |true=>exact ih
  |false=>
   show Bm (LV (A1v c) (IG u r))=true
   rw[Bq,Aff,h (k,c,s) (List.mem_cons_self ..),ih]
   rfl
theorem Aoe:∀{A B:Bj},OK A→OK B→(∀t x,AL t A=some x→AL t B=none)→OK (A++B)
 | [],B,_,hB,_=>hB
 | (k,c,s)::r,B,⟨h1,h2⟩,hB,h=>by
  refine⟨?_,Aoe h2 hB fun t x hx=>h t x ?_⟩
  ·show AL k (r++B)=none
   rw[Wk,h1]
   exact h k (c,s) (by show(bif Fs k k then some (c,s) else AL k r)=_;rw[Ty];rfl)
  ·show(bif Fs k t then some (c,s) else AL t r)=some x
   cases hb:Fs k t with
   |true=>
    obtain rfl:=UH hb
    rw[h1] at hx
    cases hx
   |false=>exact hx
theorem Axd (f:Tag→Cnd→St→Option (Cnd×St)→Cnd×St) (B:Bj):∀{A:Bj},OK A→OK (Abr f B A)
 | [],_=>trivial
 |(k,c,s)::r,⟨h1,h2⟩=>⟨by rw[TW,h1],Axd f B h2⟩
theorem UZ (f:Cnd→Cnd) (A:Bj) (t:Tag) (hA:AL t A≠none):∀(B:Bj),AL t (KZ f A B)=none
 | []=>rfl
 | (k,d,s)::r=>by
  have ih:=UZ f A t hA r
  show AL t (match AL k A with|some _=>KZ f A r|none=>(k,f d,s)::KZ f A r)=none
  cases hk:AL k A with
  |some x=>exact ih
  |none=>
   show(bif Fs k t then some (f d,s) else AL t (KZ f A r))=none
   cases hb:Fs k t with
   |true=>exact absurd (UH hb▸hk) hA
   |false=>exact ih
theorem Axc (f:Cnd→Cnd) (A:Bj):∀{B:Bj},OK B→OK (KZ f A B)
 | [],_=>trivial
 |(k,d,s)::r,⟨h1,h2⟩=>by
  have ih:=Axc f A h2
  show OK (match AL k A with|some _=>KZ f A r|none=>(k,f d,s)::KZ f A r)
  cases hk:AL k A with
  |some x=>exact ih
  |none=>exact⟨by rw[Ace f A k hk,h1],ih⟩
theorem A4l (f:Tag→Cnd→St→Option (Cnd×St)→Cnd×St) (h:Cnd→Cnd) {A B:Bj} (hA:OK A) (hB:OK B):OK (Abr f B A++KZ h A B):=
 Aoe (Axd f B hA) (Axc h A hB) fun t x hx=>by
  refine UZ h A t (fun hn=>?_) B
  rw[TW,hn] at hx
  cases hx
theorem KF (u t:Tag):∀(o:Bj),AL t (N4 u o)=if t=u then none else AL t o
 | []=>by split<;>rfl
 | (k,c,s)::r=>by
  have ih:=KF u t r
  show AL t (bif Fs k u then N4 u r else(k,c,s)::N4 u r)=if t=u then none else(bif Fs k t then some (c,s) else AL t r)
  by_cases hku:k=u
  ·subst hku
   rw[Ty]
   show AL t (N4 k r)=_
   rw[ih]
   by_cases htk:t=k
   ·rw[if_pos htk,if_pos htk]
   ·rw[if_neg htk,if_neg htk,Y3 (Ne.symm htk)]
    rfl
  ·rw[Y3 hku]
   show(bif Fs k t then some (c,s) else AL t (N4 u r))=_
   rw[ih]
   by_cases htu:t=u
   ·subst htu
    rw[if_pos rfl,if_pos rfl,Y3 hku]
    rfl
   ·rw[if_neg htu,if_neg htu]
theorem Axb (u:Tag):∀{o:Bj},OK o→OK (N4 u o)
 | [],_=>trivial
 |(k,c,s)::r,⟨h1,h2⟩=>by
  have ih:=Axb u h2
  show OK (bif Fs k u then N4 u r else(k,c,s)::N4 u r)
  cases Fs k u with
  |true=>exact ih
  |false=>exact⟨by rw[KF,h1];split<;>rfl,ih⟩
structure Wf (s:St) (r:Res):Prop where
 outs:∀t c x,AL t r.outs=some (c,x)→Sub s x
 nrm:∀x,r.nrm=some x→Sub s x
 once:OK r.outs
theorem Bx8 {s:St} {g:Bool} {W:List Nat} {A B:Res} (hA:Wf s A) (hB:Wf s B):Wf s (Bc8 g W s A B):=by
 refine⟨fun t c x h=>?_,fun x h=>?_,A4l _ _ hA.once hB.once⟩
 ·have h':AL t (Abr (Bso g W s) B.outs A.outs++KZ (LV (some !g)) A.outs B.outs)=some (c,x):=h
  rw[Sw] at h'
  cases h1:AL t A.outs with
  | some y=>
   obtain⟨c1,y⟩:=y
   rw[h1] at h'
   cases h2:AL t B.outs with
   |some z=>
    obtain⟨c2,z⟩:=z
    rw[h2] at h'
    cases h'
    exact Sub.merge _ _ _ _ _
   |none=>
    rw[h2] at h'
    cases h'
    exact hA.outs _ _ _ h1
  | none=>
   rw[h1] at h'
   cases h2:AL t B.outs with
   |some z=>
    obtain⟨c2,z⟩:=z
    rw[h2] at h'
    cases h'
    exact hB.outs _ _ _ h2
   |none=>
    rw[h2] at h'
    cases h'
 ·have h':A34 g W s A.nrm B.nrm=some x:=h
  cases h1:A.nrm with
  |some y=>
   cases h2:B.nrm with
   |some z=>rw[h1,h2] at h';cases h';exact Sub.merge _ _ _ _ _
   |none=>rw[h1,h2] at h';cases h';exact hA.nrm _ h1
  |none=>
   cases h2:B.nrm with
   |some z=>rw[h1,h2] at h';cases h';exact hB.nrm _ h2
   |none=>rw[h1,h2] at h';cases h'
theorem Bu5 {s s1:St} {W:List Nat} {A B:Res} (hA:Wf s A) (h1:A.nrm=some s1) (hB:Wf s1 B):Wf s (A22 W s A B):=by
 have hs:=hA.nrm _ h1
 refine⟨fun t c x h=>?_,fun x h=>hs.trans (hB.nrm _ h),A4l _ _ hA.once hB.once⟩
 have h':AL t (Abr (Bxq A.outs W s) B.outs A.outs++KZ (LV (KL A.outs)) A.outs B.outs)=some (c,x):=h
 rw[Sw] at h'
 cases h1:AL t A.outs with
 | some y=>
  obtain⟨c1,y⟩:=y
  rw[h1] at h'
  cases h2:AL t B.outs with
  |some z=>
   obtain⟨c2,z⟩:=z
   rw[h2] at h'
   cases h'
   exact Sub.merge _ _ _ _ _
  |none=>
   rw[h2] at h'
   cases h'
   exact hA.outs _ _ _ h1
 | none=>
  rw[h1] at h'
  cases h2:AL t B.outs with
  |some z=>
   obtain⟨c2,z⟩:=z
   rw[h2] at h'
   cases h'
   exact hs.trans (hB.outs _ _ _ h2)
  |none=>
   rw[h2] at h'
   cases h'
theorem Bu3 {s:St} {W:List Nat} {id:Nat} {A:Res} (hA:Wf s A):Wf s (Q9 W s id A):=by
 unfold Q9
 cases h1:AL (some id) A.outs with
 |none=>exact hA
 | some y=>
  obtain⟨c,y⟩:=y
  refine⟨fun t c' x h=>?_,fun x h=>?_,Axb _ hA.once⟩
  ·have h':AL t (N4 (some id) A.outs)=some (c',x):=h
   rw[KF] at h'
   split at h'
   ·cases h'
   ·exact hA.outs _ _ _ h'
  ·have h':(match A.nrm with|none=>some y|some z=>some (Jy (Bm c) W s y z))=some x:=h
   cases h2:A.nrm with
   |none=>rw[h2] at h';cases h';exact hA.outs _ _ _ h1
   |some z=>rw[h2] at h';cases h';exact Sub.merge _ _ _ _ _
theorem TB (s:St) (id:Nat):Wf s (A0m id):=⟨fun _ _ _ h=>(by cases h),fun _ h=>(by cases h),trivial⟩
theorem Bad {W:List Nat} {f:St→Res} (hf:∀s,Wf s (f s)):∀(n:Nat) (s:St),Wf s (Av5 W f n s)
 |0,s=>TB s _
 |n+1,s=>by
  unfold Av5
  cases h:(f s).nrm with
  |none=>exact hf s
  |some s1=>exact Bu5 (hf s) h (Bad hf n s1)
theorem Bu4 (s:St) (t:Tag):Wf s ⟨[],[(t,none,s)],none⟩:=
  ⟨fun t' c x h=>(by
    have h':(bif Fs t t' then some (none,s) else none)=some (c,x):=h
    cases hb:Fs t t' with
    |true=>rw[hb] at h';cases h';exact Sub.refl s
    |false=>rw[hb] at h';cases h'),
   fun x h=>(by cases h),rfl,trivial⟩
def Bt (E:Env) (b:Code) (s:St) (ps:List Prop) (outs:Bj):Prop:=∀(Z:Base) (F:Nat→Prop) (N:Nm) (a:Act) (R:World) (Q:Exit→Act→World→Prop),Rel Z F N s a R→(∀u,Qc u (TF b)=true→Z.W u)→(∀p∈ps,p)→
 (∀e x F' N' a' R',Oc ⟨ps,outs,none⟩ e x→Rel Z F' N' x a' R'→Q e a' R')→(Code.loop b).wp E.P Q a R
structure VQ (E:Env):Prop extends EnvOk E where
 loops:∀l s b ps outs,E.L l s=some (b,ps,outs)→Wf s ⟨ps,outs,none⟩∧Bt E b s ps outs
theorem FM {E:Env} (ok:VQ E) {u:Nat}:∀(l:Nat) (c:Code) (h:Bool) (s:St),Wf s (TE E u l c h s)
 |_,.skip,_,s=>⟨fun _ _ _ h=>(by cases h),fun x h=>(by cases h;exact Sub.refl s),trivial⟩
 | _,.region id ops draw,_,s=>by
  unfold TE
  cases h:evR E ops.toList draw s with
  |none=>exact TB s _
  |some x=>
   obtain⟨s',ps⟩:=x
   exact⟨fun _ _ _ h=>(by cases h),fun x h'=>(by cases h';exact Bjl ok.toEnvOk h),trivial⟩
 |_,.seq a b,hd,s=>by
  unfold TE
  cases h:(TE E u 0 a hd s).nrm with
  |none=>exact FM ok 0 a hd s
  |some s1=>exact Bu5 (FM ok 0 a hd s) h (FM ok 0 b _ s1)
 | _,.cond c x y,hd,s=>by
  unfold TE
  split
  ·rename_i g _
   cases B06 hd u with
   |true=>
    cases g with
    |true=>exact FM ok 0 x _ s
    |false=>exact FM ok 0 y _ s
   |false=>exact Bx8 (FM ok 0 x _ s) (FM ok 0 y _ s)
  ·exact TB s _
 |_,.block id b,_,s=>Bu3 (FM ok id b _ s)
 | l,.loop b,_,s=>by
  unfold TE
  split
  ·rename_i b0 ps outs h
   obtain⟨h1,h2,h3⟩:=(ok.loops _ _ _ _ _ h).1
   exact⟨h1,h2,h3⟩
  ·exact Bad (fun s=>FM ok 0 b _ s) u s
 |_,.exit id,_,s=>Bu4 s (some id)
 |_,.ret,_,s=>Bu4 s none
 |_,.rangeFunc _ _ _ _,_,s=>TB s _
 |_,.scope b,_,s=>FM ok 0 b false s
 |_,.label _,_,s=>⟨fun _ _ _ h=>(by cases h),fun x h=>(by cases h;exact Sub.refl s),trivial⟩
 |_,.goto _,_,s=>TB s _
 |_,.refuse _,_,s=>TB s _
theorem L9 {ps qs:List Prop} (h:∀p∈ps++qs,p):(∀p∈ps,p)∧(∀p∈qs,p):=⟨fun p hp=>h p (List.mem_append.2 (.inl hp)),fun p hp=>h p (List.mem_append.2 (.inr hp))⟩
def Bvm (M:Base) (x y:St):Prop:=∀a' R',At M a' R' x→At M a' R' y
theorem Rp {Z:Base} {F:Nat→Prop} {N:Nm} {s:St} {a:Act} {R:World} {W:List Nat} (h0:Rel Z F N s a R) {g:Bool} {x y z:St} (e1:Sub s x) (e2:Sub s y) (hz:z=bif g then x else y):Bvm (LA F N s a R W) z (Jy g W s x y):=fun a' R' ⟨F',N',h⟩=>by
 subst hz
 obtain⟨N'',h'⟩:=Rel.merge (h0.start W) h (fun _ h=>h) e1 e2
 exact⟨F',N'',h'⟩
theorem Bwz {Z:Base} {F:Nat→Prop} {N:Nm} {a:Act} {R:World} {W:List Nat} {s:St} (h0:Rel Z F N s a R) {g:Bool} {A B:Res} {e:Exit} {x:St} (hA:Wf s A) (hB:Wf s B) (h:Oc (bif g then A else B) e x):
  ∃y,Oc (Bc8 g W s A B) e y∧Bvm (LA F N s a R W) x y:=by
 have gj:=Sw (f:=Bso g W s) (h:=LV (some !g)) (A:=A.outs) (B:=B.outs)
 rcases h with⟨t,c,rfl,h1,h2,h3⟩|⟨rfl,h1,h2⟩
 ·cases g with
  | true=>
   have h1':AL t A.outs=some (c,x):=h1
   cases hb:AL t B.outs with
   | none=>
    refine⟨x,.inl ⟨t,LV (some true) c,rfl,?_,?_,fun t' c' s' hne hg=>?_⟩,fun _ _ h=>h⟩
    ·show AL t (_++_)=_
     rw[gj,h1',hb]
     rfl
    ·rw[Bq,h2];rfl
    ·have hg':AL t' (_++_)=some (c',s'):=hg
     rw[gj] at hg'
     cases ha:AL t' A.outs with
     |some z=>
      obtain⟨c1,z⟩:=z
      have:=h3 t' c1 z hne ha
      rw[ha] at hg'
      cases hb':AL t' B.outs with
      |some w=>obtain⟨d,w⟩:=w;rw[hb'] at hg';cases hg';rw[Si];exact this
      |none=>rw[hb'] at hg';cases hg';rw[Bq,this];rfl
     |none=>
      rw[ha] at hg'
      cases hb':AL t' B.outs with
      |some w=>obtain⟨d,w⟩:=w;rw[hb'] at hg';cases hg';rw[Bq];rfl
      |none=>rw[hb'] at hg';cases hg'
   | some y=>
    obtain⟨d,y⟩:=y
    refine⟨Jy true W s x y,.inl ⟨t,Bsl true c d,rfl,?_,?_,fun t' c' s' hne hg=>?_⟩,Rp (g:=true) h0 (hA.outs _ _ _ h1') (hB.outs _ _ _ hb) rfl⟩
    ·show AL t (_++_)=_
     rw[gj,h1',hb]
     rfl
    ·rw[Si];exact h2
    ·have hg':AL t' (_++_)=some (c',s'):=hg
     rw[gj] at hg'
     cases ha:AL t' A.outs with
     |some z=>
      obtain⟨c1,z⟩:=z
      have:=h3 t' c1 z hne ha
      rw[ha] at hg'
      cases hb':AL t' B.outs with
      |some w=>obtain⟨d,w⟩:=w;rw[hb'] at hg';cases hg';rw[Si];exact this
      |none=>rw[hb'] at hg';cases hg';rw[Bq,this];rfl
     |none=>
      rw[ha] at hg'
      cases hb':AL t' B.outs with
      |some w=>obtain⟨d,w⟩:=w;rw[hb'] at hg';cases hg';rw[Bq];rfl
      |none=>rw[hb'] at hg';cases hg'
  | false=>
   have h1':AL t B.outs=some (c,x):=h1
   have hbut:∀t' c' s',t'≠t→AL t' (Bc8 false W s A B).outs=some (c',s')→Bm c'=false:=fun t' c' s' hne hg=>by
    have hg':AL t' (_++_)=some (c',s'):=hg
    rw[gj] at hg'
    cases ha:AL t' A.outs with
    | some z=>
     obtain⟨c1,z⟩:=z
     rw[ha] at hg'
     cases hb':AL t' B.outs with
     |some w=>
      obtain⟨d,w⟩:=w
      have:=h3 t' d w hne hb'
      rw[hb'] at hg';cases hg';rw[Si];exact this
     |none=>rw[hb'] at hg';cases hg';rw[Bq];rfl
    | none=>
     rw[ha] at hg'
     cases hb':AL t' B.outs with
     |some w=>
      obtain⟨d,w⟩:=w
      have:=h3 t' d w hne hb'
      rw[hb'] at hg';cases hg';rw[Bq,this];rfl
     |none=>rw[hb'] at hg';cases hg'
   cases ha:AL t A.outs with
   | none=>
    refine⟨x,.inl ⟨t,LV (some !false) c,rfl,?_,?_,hbut⟩,fun _ _ h=>h⟩
    ·show AL t (_++_)=_
     rw[gj,ha,h1']
    ·rw[Bq,h2];rfl
   | some y=>
    obtain⟨d,y⟩:=y
    refine⟨Jy false W s y x,.inl ⟨t,Bsl false d c,rfl,?_,?_,hbut⟩,Rp (g:=false) h0 (hA.outs _ _ _ ha) (hB.outs _ _ _ h1') rfl⟩
    ·show AL t (_++_)=_
     rw[gj,ha,h1']
     rfl
    ·rw[Si];exact h2
 ·have hall:Bgn (Bc8 g W s A B).outs:=fun t' c' s' hg=>by
   have hg':AL t' (_++_)=some (c',s'):=hg
   rw[gj] at hg'
   cases ha:AL t' A.outs with
   | some z=>
    obtain⟨c1,z⟩:=z
    rw[ha] at hg'
    cases hb':AL t' B.outs with
    |some w=>
     obtain⟨d,w⟩:=w
     rw[hb'] at hg';cases hg';rw[Si]
     cases g with
     |true=>exact h2 t' c1 _ ha
     |false=>exact h2 t' d _ hb'
    |none=>
     rw[hb'] at hg';cases hg';rw[Bq]
     cases g with
     |true=>rw[h2 t' c1 _ ha];rfl
     |false=>rfl
   | none=>
    rw[ha] at hg'
    cases hb':AL t' B.outs with
    |some w=>
     obtain⟨d,w⟩:=w
     rw[hb'] at hg';cases hg';rw[Bq]
     cases g with
     |true=>rfl
     |false=>rw[h2 t' d _ hb'];rfl
    |none=>rw[hb'] at hg';cases hg'
  cases g with
  |true=>
   have h1':A.nrm=some x:=h1
   cases hb:B.nrm with
   |none=>exact⟨x,.inr ⟨rfl,by show A34 true W s A.nrm B.nrm=_;rw[h1',hb];rfl,hall⟩,fun _ _ h=>h⟩
   |some y=>exact⟨_,.inr ⟨rfl,by show A34 true W s A.nrm B.nrm=_;rw[h1',hb];rfl,hall⟩,Rp (g:=true) h0 (hA.nrm _ h1') (hB.nrm _ hb) rfl⟩
  |false=>
   have h1':B.nrm=some x:=h1
   cases ha:A.nrm with
   |none=>exact⟨x,.inr ⟨rfl,by show A34 false W s A.nrm B.nrm=_;rw[ha,h1'];rfl,hall⟩,fun _ _ h=>h⟩
   |some y=>exact⟨_,.inr ⟨rfl,by show A34 false W s A.nrm B.nrm=_;rw[ha,h1'];rfl,hall⟩,Rp (g:=false) h0 (hA.nrm _ ha) (hB.nrm _ h1') rfl⟩
theorem Bw0 {Z:Base} {F:Nat→Prop} {N:Nm} {a:Act} {R:World} {W:List Nat} {s s1:St} (h0:Rel Z F N s a R) {A B:Res} {t:Tag} {c:Cnd} {x:St} (hA:Wf s A) (hn:A.nrm=some s1) (hB:Wf s1 B) (h1:AL t A.outs=some (c,x)) (h2:Bm c=true) (h3:Bu9 t A.outs):
  ∃y,Oc (A22 W s A B) (Tag.ex t) y∧Bvm (LA F N s a R W) x y:=by
 have gj:=Sw (f:=Bxq A.outs W s) (h:=LV (KL A.outs)) (A:=A.outs) (B:=B.outs)
 have hbut:Bu9 t (A22 W s A B).outs:=fun t' c' s' hne hg=>by
  have hg':AL t' (_++_)=some (c',s'):=hg
  rw[gj] at hg'
  cases ha:AL t' A.outs with
  | some z=>
   obtain⟨c1,z⟩:=z
   have:=h3 t' c1 z hne ha
   rw[ha] at hg'
   cases hb':AL t' B.outs with
   |some w=>
    obtain⟨d,w⟩:=w
    rw[hb'] at hg';cases hg'
    rw[Afg,this,Bq,Awt (Ne.symm hne) h1 h2]
    rfl
   |none=>rw[hb'] at hg';cases hg';exact this
  | none=>
   rw[ha] at hg'
   cases hb':AL t' B.outs with
   |some w=>
    obtain⟨d,w⟩:=w
    rw[hb'] at hg';cases hg'
    rw[Bq,Ak7 h1 h2]
    rfl
   |none=>rw[hb'] at hg';cases hg'
 cases hb:AL t B.outs with
 |none=>
  refine⟨x,.inl ⟨t,c,rfl,?_,h2,hbut⟩,fun _ _ h=>h⟩
  show AL t (_++_)=_
  rw[gj,h1,hb]
  rfl
 | some y=>
  obtain⟨d,y⟩:=y
  refine⟨Jy (Bm c) W s x y,.inl ⟨t,orO c (LV (IG t A.outs) d),rfl,?_,?_,hbut⟩,Rp (g:=Bm c) h0 (hA.outs _ _ _ h1) ((hA.nrm _ hn).trans (hB.outs _ _ _ hb)) (by rw[h2];rfl)⟩
  ·show AL t (_++_)=_
   rw[gj,h1,hb]
   rfl
  ·rw[Afg,h2]
   rfl
theorem Bw1 {Z:Base} {F:Nat→Prop} {N:Nm} {a:Act} {R:World} {W:List Nat} {s s1:St} (h0:Rel Z F N s a R) {A B:Res} {e:Exit} {x:St} (hA:Wf s A) (hn:A.nrm=some s1) (hB:Wf s1 B) (hall:Bgn A.outs) (h:Oc B e x):
  ∃y,Oc (A22 W s A B) e y∧Bvm (LA F N s a R W) x y:=by
 have gj:=Sw (f:=Bxq A.outs W s) (h:=LV (KL A.outs)) (A:=A.outs) (B:=B.outs)
 have hno:=Qd hA.once hall
 have hnb:∀t,Bm (IG t A.outs)=true:=fun t=>Awu fun e he=>hall e.1 e.2.1 e.2.2 (Awb hA.once e he)
 rcases h with⟨t,c,rfl,h1,h2,h3⟩|⟨rfl,h1,h2⟩
 ·have hbut:Bu9 t (A22 W s A B).outs:=fun t' c' s' hne hg=>by
   have hg':AL t' (_++_)=some (c',s'):=hg
   rw[gj] at hg'
   cases ha:AL t' A.outs with
   | some z=>
    obtain⟨c1,z⟩:=z
    have:=hall t' c1 z ha
    rw[ha] at hg'
    cases hb':AL t' B.outs with
    |some w=>
     obtain⟨d,w⟩:=w
     rw[hb'] at hg';cases hg'
     rw[Afg,this,Bq,h3 t' d _ hne hb',Bool.and_false]
     rfl
    |none=>rw[hb'] at hg';cases hg';exact this
   | none=>
    rw[ha] at hg'
    cases hb':AL t' B.outs with
    |some w=>
     obtain⟨d,w⟩:=w
     rw[hb'] at hg';cases hg'
     rw[Bq,h3 t' d _ hne hb',Bool.and_false]
    |none=>rw[hb'] at hg';cases hg'
  cases ha:AL t A.outs with
  |none=>
   refine⟨x,.inl ⟨t,LV (KL A.outs) c,rfl,?_,by rw[Bq,hno,h2];rfl,hbut⟩,fun _ _ h=>h⟩
   show AL t (_++_)=_
   rw[gj,ha,h1]
  | some y=>
   obtain⟨d,y⟩:=y
   have hd:=hall t d y ha
   refine⟨Jy (Bm d) W s y x,.inl ⟨t,orO d (LV (IG t A.outs) c),rfl,?_,?_,hbut⟩,Rp (g:=Bm d) h0 (hA.outs _ _ _ ha) ((hA.nrm _ hn).trans (hB.outs _ _ _ h1)) (by rw[hd];rfl)⟩
   ·show AL t (_++_)=_
    rw[gj,ha,h1]
    rfl
   ·rw[Afg,Bq,hnb t,h2,Bool.and_self,Bool.or_true]
 ·refine⟨x,.inr ⟨rfl,h1,fun t' c' s' hg=>?_⟩,fun _ _ h=>h⟩
  have hg':AL t' (_++_)=some (c',s'):=hg
  rw[gj] at hg'
  cases ha:AL t' A.outs with
  | some z=>
   obtain⟨c1,z⟩:=z
   have:=hall t' c1 z ha
   rw[ha] at hg'
   cases hb':AL t' B.outs with
   |some w=>
    obtain⟨d,w⟩:=w
    rw[hb'] at hg';cases hg'
    rw[Afg,this,Bq,h2 t' d _ hb',Bool.and_false]
    rfl
   |none=>rw[hb'] at hg';cases hg';exact this
  | none=>
   rw[ha] at hg'
   cases hb':AL t' B.outs with
   |some w=>
    obtain⟨d,w⟩:=w
    rw[hb'] at hg';cases hg'
    rw[Bq,h2 t' d _ hb',Bool.and_false]
   |none=>rw[hb'] at hg';cases hg'
theorem Bo4 {W:List Nat} {s:St} {A B:Res} (hA:Wf s A) (hall:Bgn A.outs) (h:∀p∈(A22 W s A B).ps,p):(∀p∈B.ps,p):=by
 have h':=(L9 h).2
 refine Na h' fun q hq=>?_
 have hno:=Qd hA.once hall
 cases hc:KL A.outs with
 |none=>rw[hc] at hq;cases hq
 |some b=>
  rw[hc] at hq hno
  obtain rfl:=List.mem_singleton.1 hq
  exact hno
def B14 (E:Env) (f:St→Res) (c:Code):Prop:=∀(Z:Base) (s:St) (a:Act) (R:World) (Q:Exit→Act→World→Prop),At Z a R s→(∀u,Qc u (TF c)=true→Z.W u)→(∀p∈(f s).ps,p)→
 (∀e x a' R',Oc (f s) e x→At Z a' R' x→Q e a' R')→c.wp E.P Q a R
theorem At.over {Z:Base} {F:Nat→Prop} {N:Nm} {s x:St} {a a':Act} {R R':World} {W:List Nat} (h0:Rel Z F N s a R) (hW:∀u,Qc u W=true→Z.W u) (h:At (LA F N s a R W) a' R' x):At Z a' R' x:=by
 obtain⟨F',N',h⟩:=h
 exact⟨F',N',h0.over h hW⟩
theorem Bf4 {E:Env} {W:List Nat} {f:St→Res} {c:Code} (hw:∀s,Wf s (f s)) (hf:B14 E f c) {Z:Base} {F:Nat→Prop} {N:Nm} {s:St} {a:Act} {R:World} {Q:Exit→Act→World→Prop} {s1:St} {B:Res} (h0:Rel Z F N s a R) (hW:∀u,Qc u W=true→Z.W u) (hc:∀u,Qc u (TF c)=true→Qc u W=true) (hn:(f s).nrm=some s1) (hB:Wf s1 B)
  (hp:∀p∈(A22 W s (f s) B).ps,p) (hk:∀e x a' R',Oc (A22 W s (f s) B) e x→At Z a' R' x→Q e a' R')
  {K:Act→World→Prop} (hd:∀(a':Act) (R':World),At (LA F N s a R W) a' R' s1→(∀p∈B.ps,p)→(∀e x a'' R'',Oc B e x→At (LA F N s a R W) a'' R'' x→Q e a'' R'')→K a' R'):c.wp E.P (Exit.then K Q) a R:=by
 refine hf (LA F N s a R W) s a R _ ⟨F,N,h0.start W⟩ (fun u hu=>hc u hu) (L9 hp).1 fun e x a' R' ho hr=>?_
 rcases ho with⟨t,cc,rfl,h1,h2,h3⟩|⟨rfl,h1,h2⟩
 ·obtain⟨y,hy,hr'⟩:=Bw0 h0 (hw s) hn hB h1 h2 h3
  have:=hk _ y a' R' hy (At.over h0 hW (hr' _ _ hr))
  cases t<;>exact this
 ·rw[hn] at h1
  obtain rfl:=Option.some.inj h1
  refine hd a' R' hr (Bo4 (hw s) h2 hp) fun e x a'' R'' ho' hr'=>?_
  obtain⟨y,hy,hr''⟩:=Bw1 h0 (hw s) hn hB h2 ho'
  exact hk e y a'' R'' hy (At.over h0 hW (hr'' _ _ hr'))
theorem Afz {u:Nat} {A B:List Nat} (h:Qc u A=true):Qc u (A++B)=true:=by rw[Acf,h];rfl
theorem Aj7 {u:Nat} {A B:List Nat} (h:Qc u B=true):Qc u (A++B)=true:=by rw[Acf,h];cases Qc u A<;>rfl
theorem Ja {E:Env} (ok:VQ E) {u:Nat}:∀(l:Nat) (c:Code) (hd:Bool),B14 E (TE E u l c hd) c
 |_,.skip,_=>fun Z s a R Q h _ _ hk=>wp_skip (hk _ s a R (.inr ⟨rfl,rfl,fun _ _ _ h=>by cases h⟩) h)
 | _,.region id ops draw,_=>fun Z s a R Q h hW hp hk=>by
  unfold TE at hp hk
  cases he:evR E ops.toList draw s with
  |none=>rw[he] at hp;exact(hp (Aey id) (List.mem_singleton.2 rfl)).elim
  |some x=>
   obtain⟨s',ps⟩:=x
   rw[he] at hp hk
   obtain⟨F,N,h⟩:=h
   have:=Bov ok.toEnvOk h (id:=id) hW he hp (Q:=Q) fun F' N' a' R' hr=>hk _ s' a' R' (.inr ⟨rfl,rfl,fun _ _ _ h=>by cases h⟩) ⟨F',N',hr⟩
   rwa[Array.toArray_toList] at this
 | _,.seq c d,hd=>fun Z s a R Q h hW hp hk=>by
  unfold TE at hp hk
  refine wp_seq ?_
  cases hn:(TE E u 0 c hd s).nrm with
  | none=>
   rw[hn] at hp hk
   refine Ja ok 0 c hd Z s a R _ h (fun u hu=>hW u (Afz hu)) hp fun e x a' R' ho hr=>?_
   have:=hk e x a' R' ho hr
   rcases ho with⟨t,cc,rfl,_,_,_⟩|⟨rfl,h1,_⟩
   ·cases t<;>exact this
   ·rw[hn] at h1
    cases h1
  |some s1=>
   rw[hn] at hp hk
   obtain⟨F,N,h⟩:=h
   exact Bf4 (fun s=>FM ok 0 c hd s) (Ja ok 0 c hd) h hW (fun u hu=>Afz hu) hn (FM ok 0 d _ s1) hp hk fun a' R' hr hp' hk'=>Ja ok 0 d _ _ s1 a' R' Q hr (fun u hu=>Aj7 hu) hp' hk'
 | _,.cond c x y,hd=>fun Z s a R Q h hW hp hk=>by
  unfold TE at hp hk
  split at hp
  ·rename_i g hg
   rw[hg] at hk
   simp only at hk
   obtain⟨F,N,h⟩:=h
   have hev:=D7 h (HN _) hg
   generalize B06 hd u=lt at hp hk
   cases lt with
   |true=>
    cases g with
    |true=>exact wp_cond_true hev (Ja ok 0 x false Z s a R Q ⟨F,N,h⟩ (fun u hu=>hW u (Afz hu)) hp hk)
    |false=>exact wp_cond_false hev (Ja ok 0 y false Z s a R Q ⟨F,N,h⟩ (fun u hu=>hW u (Aj7 hu)) hp hk)
   |false=>
   obtain⟨hp1,hp2⟩:=L9 hp
   have main:∀z:Exit×St,Oc (bif g then TE E u 0 x false s else TE E u 0 y false s) z.1 z.2→∀a' R',At (LA F N s a R (TF x++TF y)) a' R' z.2→Q z.1 a' R':=fun z hz a' R' hr=>by
    obtain⟨w,hw,hr'⟩:=Bwz h (FM ok 0 x _ s) (FM ok 0 y _ s) hz
    exact hk z.1 w a' R' hw (At.over h hW (hr' _ _ hr))
   cases g with
   |true=>
    exact wp_cond_true hev (Ja ok 0 x false (LA F N s a R (TF x++TF y)) s a R Q ⟨F,N,h.start _⟩ (fun u hu=>Afz hu) (Na hp1 fun q hq=>by obtain rfl:=List.mem_singleton.1 hq;rfl) fun e z a' R' ho hr=>main (e,z) ho a' R' hr)
   |false=>
    exact wp_cond_false hev (Ja ok 0 y false (LA F N s a R (TF x++TF y)) s a R Q ⟨F,N,h.start _⟩ (fun u hu=>Aj7 hu) (Na hp2 fun q hq=>by obtain rfl:=List.mem_singleton.1 hq;rfl) fun e z a' R' ho hr=>main (e,z) ho a' R' hr)
  ·exact(hp (Aey 1000001) (List.mem_singleton.2 rfl)).elim
 | _, .block id b,_=>fun Z s a R Q h hW hp hk=>by
  refine wp_block ?_
  obtain⟨F,N,h⟩:=h
  have hwf:=FM ok (u:=u) id b false s
  have hp':∀p∈(TE E u id b false s).ps,p:=fun p hm=>hp p (by
   show p∈(Q9 (TF b) s id (TE E u id b false s)).ps
   unfold Q9
   cases hg:AL (some id) (TE E u id b false s).outs with
   |none=>exact hm
   |some y=>exact hm)
  refine Ja ok id b false (LA F N s a R (TF b)) s a R _ ⟨F,N,h.start _⟩ (fun u hu=>hu) hp' fun e x a' R' ho hr=>?_
  have hk':∀e x a' R',Oc (Q9 (TF b) s id (TE E u id b false s)) e x→At Z a' R' x→Q e a' R':=hk
  have hz:At Z a' R' x:=At.over h hW hr
  generalize TE E u id b false s=A at*
  cases hg:AL (some id) A.outs with
  | none=>
   have hbl:Q9 (TF b) s id A=A:=by unfold Q9;rw[hg]
   rw[hbl] at hk'
   have:=hk' e x a' R' ho hz
   rcases ho with⟨t,cc,rfl,h1,_,_⟩|⟨rfl,_,_⟩
   ·cases t with
    |none=>exact this
    |some i=>
     have hne:i≠id:=fun e=>by subst e;rw[hg] at h1;cases h1
     show Exit.inBlock id Q (.exit i) a' R'
     unfold Exit.inBlock
     simp only[hne,if_false]
     exact this
   ·exact this
  | some y=>
   obtain⟨c,y⟩:=y
   have hbl:Q9 (TF b) s id A=⟨A.ps,N4 (some id) A.outs,match A.nrm with|none=>some y|some z=>some (Jy (Bm c) (TF b) s y z)⟩:=by unfold Q9;rw[hg]
   rw[hbl] at hk'
   rcases ho with⟨t,cc,rfl,h1,h2,h3⟩|⟨rfl,h1,h2⟩
   ·by_cases ht:t=some id
    ·subst ht
     rw[hg] at h1
     obtain⟨rfl,rfl⟩:c=cc∧y=x:=by cases h1;exact⟨rfl,rfl⟩
     have hall:Bgn (N4 (some id) A.outs):=fun t' c' s' hg'=>by
      rw[KF] at hg'
      split at hg'
      ·cases hg'
      ·rename_i hne
       exact h3 t' c' s' hne hg'
     show Exit.inBlock id Q (.exit id) a' R'
     unfold Exit.inBlock
     simp only[if_true]
     cases hn:A.nrm with
     |none=>
      rw[hn] at hk'
      exact hk' .normal y a' R' (.inr ⟨rfl,rfl,hall⟩) hz
     |some z=>
      rw[hn] at hk'
      have:=Rp (g:=Bm c) h (hwf.outs _ _ _ hg) (hwf.nrm _ hn) (by rw[h2];rfl) _ _ hr
      exact hk' .normal _ a' R' (.inr ⟨rfl,rfl,hall⟩) (At.over h hW this)
    ·have ho':AL t (N4 (some id) A.outs)=some (cc,x):=by rw[KF,if_neg ht];exact h1
     have:=hk' (Tag.ex t) x a' R' (.inl ⟨t,cc,rfl,ho',h2,fun t' c' s' hne hg'=>by
      rw[KF] at hg'
      split at hg'
      ·cases hg'
      ·exact h3 t' c' s' hne hg'⟩) hz
     cases t with
     |none=>exact this
     |some i=>
      have hne:i≠id:=fun e=>ht (by rw[e])
      show Exit.inBlock id Q (.exit i) a' R'
      unfold Exit.inBlock
      simp only[hne,if_false]
      exact this
   ·have hall:Bgn (N4 (some id) A.outs):=fun t' c' s' hg'=>by
     rw[KF] at hg'
     split at hg'
     ·cases hg'
     ·exact h2 t' c' s' hg'
    rw[h1] at hk'
    have:=Rp (g:=Bm c) h (hwf.outs _ _ _ hg) (hwf.nrm _ h1) (by rw[h2 _ _ _ hg];rfl) _ _ hr
    exact hk' .normal _ a' R' (.inr ⟨rfl,rfl,hall⟩) (At.over h hW this)
 | l, .loop b,_=>fun Z s a R Q h hW hp hk=>by
  unfold TE at hp hk
  cases hL:E.L l s with
  |some r=>
   obtain⟨b0,ps,outs⟩:=r
   rw[hL] at hp hk
   have hb:b=b0:=hp _ (List.mem_cons_self ..)
   subst hb
   obtain⟨F,N,h⟩:=h
   refine(ok.loops _ _ _ _ _ hL).2 Z F N a R Q h hW (fun p hm=>hp p (List.mem_cons_of_mem _ hm)) fun e x F' N' a' R' ho hr=>hk e x a' R' ?_ ⟨F',N',hr⟩
   rcases ho with⟨t,c,rfl,h1,h2,h3⟩|⟨rfl,h1,h2⟩
   ·exact .inl ⟨t,c,rfl,h1,h2,h3⟩
   ·cases h1
  |none=>
  rw[hL] at hp hk
  have key:∀(n:Nat) (Z:Base) (s:St) (a:Act) (R:World) (Q:Exit→Act→World→Prop),At Z a R s→(∀u,Qc u (TF b)=true→Z.W u)→(∀p∈(Av5 (TF b) (TE E u 0 b true) n s).ps,p)→(∀e x a' R',Oc (Av5 (TF b) (TE E u 0 b true) n s) e x→At Z a' R' x→Q e a' R')→
    Code.rounds E.P b Q n a R:=fun n=>by
   induction n with
   |zero=>intro Z s a R Q h hW hp hk;exact(hp (Aey 1000000) (List.mem_singleton.2 rfl)).elim
   | succ n ih=>
    intro Z s a R Q h hW hp hk
    rw[rounds_succ]
    unfold Av5 at hp hk
    cases hn:(TE E u 0 b true s).nrm with
    | none=>
     rw[hn] at hp hk
     refine Ja ok 0 b true Z s a R _ h hW hp fun e x a' R' ho hr=>?_
     have:=hk e x a' R' ho hr
     rcases ho with⟨t,cc,rfl,_,_,_⟩|⟨rfl,h1,_⟩
     ·cases t<;>exact this
     ·rw[hn] at h1
      cases h1
    |some s1=>
     rw[hn] at hp hk
     obtain⟨F,N,h⟩:=h
     exact Bf4 (fun s=>FM ok 0 b true s) (Ja ok 0 b true) h hW (fun u hu=>hu) hn (Bad (fun s=>FM ok 0 b true s) n s1) hp hk fun a' R' hr hp' hk'=>ih _ s1 a' R' Q hr (fun u hu=>hu) hp' hk'
  exact wp_loop_rounds u (key u Z s a R Q h hW hp hk)
 | _,.exit id,_=>fun Z s a R Q h _ _ hk=>wp_exit (hk _ s a R (.inl ⟨some id,none,rfl,by show(bif Fs (some id) (some id) then some (none,s) else none)=_;rw[Ty];rfl,rfl,fun t' c x hne hg=>by
   have h':(bif Fs (some id) t' then some (none,s) else none)=some (c,x):=hg
   rw[Y3 (Ne.symm hne)] at h'
   cases h'⟩) h)
 | _,.ret,_=>fun Z s a R Q h _ _ hk=>wp_ret (hk _ s a R (.inl ⟨none,none,rfl,rfl,rfl,fun t' c x hne hg=>by
   have h':(bif Fs none t' then some (none,s) else none)=some (c,x):=hg
   rw[Y3 (Ne.symm hne)] at h'
   cases h'⟩) h)
 |_,.rangeFunc _ _ _ _,_=>fun Z s a R Q _ _ hp _=>(hp (Aey 1000002) (List.mem_singleton.2 rfl)).elim
 | _,.scope b,_=>fun Z s a R Q h hW hp hk=>wp_scope_straight (Ja ok 0 b false Z s a R _ h hW hp fun e x a' R' ho hr=>by
   have:=hk e x a' R' ho hr
   rcases ho with⟨t,c,rfl,_⟩|⟨rfl,_⟩
   ·cases t<;>exact this
   ·exact this)
 |_,.label _,_=>fun Z s a R Q h _ _ hk=>wp_label (hk .normal s a R (.inr ⟨rfl,rfl,fun t c x hg=>by cases hg⟩) h)
 |_,.goto _,_=>fun Z s a R Q _ _ hp _=>(hp (Aey 1000002) (List.mem_singleton.2 rfl)).elim
 |_,.refuse _,_=>fun Z s a R Q _ _ hp _=>(hp (Aey 1000002) (List.mem_singleton.2 rfl)).elim
end Go.Proofs.Yteebobbhhgmeiaa
namespace Go.Proofs.Yteebobbhhgmeiaa
open Go.RowKit
mutual
def A.pk (ρ:Nat→Option Nat):A→A
 | .own i off=>match ρ i with
  |some j=> .own j off
  |none=> .dead
 | .ownx i base len k=>match ρ i with
  |some j=> .ownx j base len k
  |none=> .dead
 | .sq i=>match ρ i with
  |some j=> .sq j
  |none=> .dead
 | .vw i size lo n full=>match ρ i with
  |some j=> .vw j size lo n full
  |none=> .dead
 | .el i k size off=>match ρ i with
  |some j=> .el j k size off
  |none=> .dead
 | .mp i=>match ρ i with
  |some j=> .mp j
  |none=> .dead
 | .dq i=>match ρ i with
  |some j=> .dq j
  |none=> .dead
 | .iv i k=>match ρ i with
  |some j=> .iv j k
  |none=> .dead
 | .de i k size off=>match ρ i with
  |some j=> .de j k size off
  |none=> .dead
 | .ie i k m size off=>match ρ i with
  |some j=> .ie j k m size off
  |none=> .dead
 | .fn f first caps=> .fn f (pkL ρ first) (pkL ρ caps)
 | .agg xs=> .agg (pkL ρ xs)
 | .tup xs=> .tup (pkL ρ xs)
 | .ref l=> .ref (pkL ρ l)
 | .opt u b x=> .opt u b (x.pk ρ)
 | .v x=> .v x
 | .sl c l=> .sl c l
 | .nl=> .nl
 | .it q vs=> .it q vs
 | .dead=> .dead
def pkL (ρ:Nat→Option Nat):List A→List A
 | []=>[]
 |x::r=>x.pk ρ::pkL ρ r
end
theorem Un {ρ:Nat→Option Nat}:∀{l:List A} {j:Nat} {x:A},(pkL ρ l)[j]?=some x→∃y,l[j]?=some y∧x=y.pk ρ
 | [],j,x,h=>by unfold pkL at h;cases j<;>cases h
 |y::r,0,x,h=>by unfold pkL at h;cases h;exact⟨y,rfl,rfl⟩
 |y::r,j+1,x,h=>by unfold pkL at h;exact Un (l:=r) h
theorem Pr {ρ:Nat→Option Nat}:∀l:List A,(pkL ρ l).length=l.length
 | []=>by unfold pkL;rfl
 |y::r=>by unfold pkL;rw[List.length_cons,List.length_cons,Pr r]
theorem A6r (ρ:Nat→Option Nat) (c:TC) (d:U c):∀x∈enc c d,x.pk ρ=x:=fun x hx=>by
 have:=Sk c d x hx
 cases x<;>first|(unfold A.pk;rfl)|exact this.elim
def Pk (ρ:Nat→Option Nat) (N:Nm) (nx:Nat) (N':Nm) (nx':Nat):Prop:=∀i j,i <nx→ρ i=some j→j <nx'∧N'.b j=N.b i∧N'.q j=N.q i
section
variable {F:Nat→Prop} {N N':Nm} {nx nx':Nat} {R:World} {ρ:Nat→Option Nat}
theorem Hv.pk (st:Pk ρ N nx N' nx') {x:A} {y:Value} (h:Hv F N nx R x y):Hv F N' nx' R (x.pk ρ) y:=by
 induction h with
 |v x=>unfold A.pk;exact .v x
 | @sl c l a cap ad h1 h2 h3 h4 ih=>
  unfold A.pk
  refine .sl ad h1 h2 h3 (fun i d j x y hd hx hy=>?_)
  have:=ih i d j x y hd hx hy
  rwa[A6r ρ c d x (List.mem_of_getElem? hx)] at this
 | @ref l ad h1 h2 h3 ih=>
  unfold A.pk
  refine .ref ad h1 (fun j x hx=>?_) (fun j x y hx hy=>?_)
  ·obtain⟨z,hz,rfl⟩:=Un hx;exact h2 j z hz
  ·obtain⟨z,hz,rfl⟩:=Un hx;exact ih j z y hz hy
 | own h=>
  unfold A.pk
  split
  ·rename_i j hj
   obtain⟨h1,h2,_⟩:=st _ _ h hj
   rw[←h2];exact .own h1
  ·exact .dead _
 | ownx h=>
  unfold A.pk
  split
  ·rename_i j hj
   obtain⟨h1,h2,_⟩:=st _ _ h hj
   rw[←h2];exact .ownx h1
  ·exact .dead _
 | sq h=>
  unfold A.pk
  split
  ·rename_i j hj
   obtain⟨h1,_,h2⟩:=st _ _ h hj
   rw[←h2];exact .sq h1
  ·exact .dead _
 | vw h h1 h2 h3=>
  unfold A.pk
  split
  ·rename_i j hj
   obtain⟨k1,_,k2⟩:=st _ _ h hj
   exact .vw k1 h1 h2 (fun hn=>by rw[k2];exact h3 hn)
  ·exact .dead _
 | el h=>
  unfold A.pk
  split
  ·rename_i j hj
   obtain⟨h1,_,h2⟩:=st _ _ h hj
   rw[←h2];exact .el h1
  ·exact .dead _
 | dq h=>
  unfold A.pk
  split
  ·rename_i j hj
   obtain⟨h1,_,h2⟩:=st _ _ h hj
   rw[←h2];exact .dq h1
  ·exact .dead _
 | iv h=>
  unfold A.pk
  split
  ·rename_i j hj
   obtain⟨h1,_,h2⟩:=st _ _ h hj
   rw[←h2];exact .iv h1
  ·exact .dead _
 | de h=>
  unfold A.pk
  split
  ·rename_i j hj
   obtain⟨h1,_,h2⟩:=st _ _ h hj
   rw[←h2];exact .de h1
  ·exact .dead _
 | ie h=>
  unfold A.pk
  split
  ·rename_i j hj
   obtain⟨h1,_,h2⟩:=st _ _ h hj
   rw[←h2];exact .ie h1
  ·exact .dead _
 | mp h=>
  unfold A.pk
  split
  ·rename_i j hj
   obtain⟨h1,h2,_⟩:=st _ _ h hj
   rw[←h2];exact .mp h1
  ·exact .dead _
 |nl a=>unfold A.pk;exact .nl a
 |it q vs y h=>unfold A.pk;exact .it q vs y h
 |fn vs us h1 _ h3 _ ih2 ih4=>
  unfold A.pk
  exact .fn vs us (by rw[Pr];exact h1) (fun j x v hx hv=>by obtain⟨z,hz,rfl⟩:=Un hx;exact ih2 j z v hz hv) (by rw[Pr];exact h3) (fun j x v hx hv=>by obtain⟨z,hz,rfl⟩:=Un hx;exact ih4 j z v hz hv)
 |agg vs h1 _ ih=>unfold A.pk;exact .agg vs (by rw[Pr];exact h1) (fun j x v hx hv=>by obtain⟨z,hz,rfl⟩:=Un hx;exact ih j z v hz hv)
 |tup vs h1 _ ih=>unfold A.pk;exact .tup vs (by rw[Pr];exact h1) (fun j x v hx hv=>by obtain⟨z,hz,rfl⟩:=Un hx;exact ih j z v hz hv)
 |dead y=>unfold A.pk;exact .dead y
theorem HL.pk (st:Pk ρ N nx N' nx'):∀{xs:List A} {vs:List Value},HL F N nx R xs vs→HL F N' nx' R (pkL ρ xs) vs
 | [],_,h=>by unfold pkL;exact h
 |x::r,_,⟨v,vs,h1,h2,h3⟩=>by
  unfold pkL
  exact⟨v,vs,h1,h2.pk st,HL.pk st h3⟩
end
def Els.pk (ρ:Nat→Option Nat):Els→Els
 | .lst cs=> .lst (cs.map (pkL ρ))
 | .ty c l=> .ty c l
def Ob.pk (ρ:Nat→Option Nat):Ob→Ob
 | .box e cs=> .box e (pkL ρ cs)
 | .arr e size els=> .arr e size (els.pk ρ)
 | .map k v l=> .map k v l
 | .sit s pos=> .sit s pos
 | .deep e c l=> .deep e c l
theorem A8c (ρ:Nat→Option Nat) (c:TC) (d:U c):pkL ρ (enc c d)=enc c d:=by
 have:∀l:List A,(∀x∈l,x.pk ρ=x)→pkL ρ l=l:=fun l=>by
  induction l with
  |nil=>intro _;unfold pkL;rfl
  |cons x r ih=>intro h;unfold pkL;rw[h x (List.mem_cons_self ..),ih fun y hy=>h y (List.mem_cons_of_mem _ hy)]
 exact this _ (A6r ρ c d)
theorem Bx6 (ρ:Nat→Option Nat) (c:TC) (d:U c):(Af c d).pk ρ=Af c d:=by
 unfold Af
 cases c.isAgg with
 |true=>
  show(VS (enc c d)).pk ρ=VS (enc c d)
  unfold VS
  split
  ·unfold A.pk;rfl
  ·unfold A.pk;rw[A8c]
 |false=>
  have hp:=A6r ρ c d
  simp only[cond_false]
  generalize enc c d=l at hp⊢
  cases l with
  |nil=>unfold A.pk;rfl
  |cons x r=>exact hp x (List.mem_cons_self ..)
section
variable {F:Nat→Prop} {N N':Nm} {nx nx':Nat} {o o':Objs} {R:World} {ρ:Nat→Option Nat} {i j:Nat} {ob:Ob}
theorem ObR.pk (st:Pk ρ N nx N' nx') (hi:i <nx) (hj:ρ i=some j) (h:ObR F N nx R i ob):ObR F N' nx' R j (ob.pk ρ):=by
 obtain⟨_,sb,sq⟩:=st i j hi hj
 cases ob with
 |box e cs=>
  obtain⟨vs,h1,h2⟩:=h
  exact⟨vs,h1.pk st,by rw[sb];exact h2⟩
 | arr e size els=>
  obtain⟨zs,h1,h2⟩:=h
  cases els with
  |lst cs=>
   have hn:(Els.pk ρ (.lst cs)).n=cs.length:=by simp[Els.pk,Els.n]
   refine⟨zs,by rw[sq,hn];exact h1,fun k hk=>?_⟩
   rw[hn] at hk
   have:=(h2 k hk).pk st
   show HL F N' nx' R (Jz (cs.map (pkL ρ)) k) _
   rw[EJ,List.getD_eq_getElem?_getD,List.getElem?_map]
   have h3:(Els.lst cs).nth k=cs.getD k []:=EJ cs k
   rw[h3,List.getD_eq_getElem?_getD] at this
   have hk':cs[k]?=some cs[k]:=List.getElem?_eq_getElem hk
   rw[hk'] at this⊢
   exact this
  |ty c l=>
   refine⟨zs,by rw[sq];exact h1,fun k hk=>?_⟩
   have:=(h2 k hk).pk st
   have e:pkL ρ ((Els.ty c l).nth k)=(Els.ty c l).nth k:=A8c ρ c _
   rw[e] at this
   exact this
 |map k v l=>
  obtain⟨es,cl,h1,h2,h3⟩:=h
  refine⟨es,cl,by rw[sb];exact h1,h2,fun j p e hp he=>⟨(h3 j p e hp he).1,?_⟩⟩
  have:=(h3 j p e hp he).2.pk st
  rwa[Bx6] at this
 |sit s pos=>
  show R.heap[N'.b j]?=_
  rw[sb]
  exact h
 | deep e c l=>
  obtain⟨col,c',zs,h1,h2,h3,h4,h5⟩:=h
  have hj':=(st i j hi hj).1
  refine⟨col,c',zs,h1,by rw[sq];exact h2,fun k d hd=>?_,fun k d hd=>?_,by rw[sq];exact h5⟩
  ·have go:∀(cs:List A) (vs:List Value),(∀x∈cs,x.pk ρ=x)→HL F N nx R (Nq i k cs) vs→HL F N' nx' R (Nq j k cs) vs:=fun cs=>by
    induction cs with
    |nil=>intro vs _ hh;rw[hh.inv0];exact HL.nil
    | cons x r ih=>
     intro vs hc hh
     have hx:=hc x (List.mem_cons_self ..)
     have hr:=fun y hy=>hc y (List.mem_cons_of_mem _ hy)
     cases x
     case sl c2 l2=>
      obtain⟨w,ws,rfl,w1,w2⟩:=hh.inv
      rw[w1.iv_inv.2,←sq]
      exact HL.cons (.iv hj') (ih ws hr w2)
     all_goals
      obtain⟨w,ws,rfl,w1,w2⟩:=hh.inv
      have w3:=w1.pk st
      rw[hx] at w3
      exact HL.cons w3 (ih ws hr w2)
   exact go _ _ (A6r ρ c d) (h3 k d hd)
  ·obtain⟨l',e',us,k1,k2,k3⟩:=h4 k d hd
   refine⟨l',e',us,k1,by rw[sq];exact k2,fun m hm=>?_⟩
   have:=(k3 m hm).pk st
   rwa[A8c] at this
theorem Afp (st:Pk ρ N nx N' nx') (hi:i <nx) (hj:ρ i=some j) {g:Nat}:foot N' j (ob.pk ρ) g↔foot N i ob g:=by
 obtain⟨_,sb,sq⟩:=st i j hi hj
 cases ob<;>simp only[foot,Ob.pk,sb,sq]
theorem HRel.pk (h:HRel F N nx o R) (st:Pk ρ N nx N' nx') (ho:∀j ob',Ao j o'=some ob'→∃i ob,ρ i=some j∧Ao i o=some ob∧ob'=ob.pk ρ):HRel F N' nx' o' R∧∀g,Foot N' o' g→Foot N o g:=by
 refine⟨⟨h.flt,fun j ob' hj=>?_,fun j ob' g hj hg=>?_,fun j k x y g hj hk hx hy=>?_⟩,fun g ⟨j,ob',hj,hg⟩=>?_⟩
 ·obtain⟨i,ob,h1,h2,rfl⟩:=ho j ob' hj
  obtain⟨h3,h4⟩:=h.ob i ob h2
  exact⟨(st i j h3 h1).1,h4.pk st h3 h1⟩
 ·obtain⟨i,ob,h1,h2,rfl⟩:=ho j ob' hj
  exact h.ff i ob g h2 ((Afp st (h.ob i ob h2).1 h1).1 hg)
 ·obtain⟨i,ob,h1,h2,rfl⟩:=ho j x hj
  obtain⟨i',ob',k1,k2,rfl⟩:=ho k y hk
  have:=h.sep i i' ob ob' g h2 k2 ((Afp st (h.ob i ob h2).1 h1).1 hx) ((Afp st (h.ob i' ob' k2).1 k1).1 hy)
  subst this
  rw[h1] at k1
  exact Option.some.inj k1
 ·obtain⟨i,ob,h1,h2,rfl⟩:=ho j ob' hj
  exact⟨i,ob,h2,(Afp st (h.ob i ob h2).1 h1).1 hg⟩
end
abbrev Iq:=List (Nat×Nat)
def fwd:Iq→Nat→Option Nat
 | [],_=>none
 |(k,j)::r,i=>bif Nat.beq k i then some j else fwd r i
def bck:Iq→Nat→Option Nat
 | [],_=>none
 |(k,j)::r,i=>bif Nat.beq j i then some k else bck r i
def Zw (nb:Nat) (L:Iq) (i:Nat):Option Nat:=bif Nat.blt i nb then some i else fwd L i
def Avh (nb:Nat) (L:Iq) (j:Nat):Nat:=bif Nat.blt j nb then j else match bck L j with
 |some k=>k
 |none=>0
def QN (nb nx':Nat):Iq→Bool
 | []=>true
 |(k,j)::r=>Nat.ble nb k&&(Nat.ble nb j&&(Nat.blt j nx'&&(isNone (fwd r k)&&(isNone (bck r j)&&QN nb nx' r))))
theorem Ach {o:Option Nat}:isNone o=true↔o=none:=by cases o<;>simp[isNone]
theorem Bl4 {nb nx':Nat}:∀{L:Iq} {i j:Nat},QN nb nx' L=true→fwd L i=some j→bck L j=some i∧nb≤i∧nb≤j∧j <nx'
 | [],i,j,_,h=>by cases h
 | (k,m)::r,i,j,h0,h=>by
  unfold QN at h0
  simp only[Bool.and_eq_true] at h0
  obtain⟨a1,a2,a3,a4,a5,a6⟩:=h0
  unfold fwd at h
  cases hb:Nat.beq k i with
  |true=>
   rw[hb] at h
   cases h
   obtain rfl:=Nat.eq_of_beq_eq_true hb
   refine⟨?_,Nat.le_of_ble_eq_true a1,Nat.le_of_ble_eq_true a2,Nat.le_of_ble_eq_true a3⟩
   unfold bck
   rw[M5]
   rfl
  | false=>
   rw[hb] at h
   obtain⟨h1,h2⟩:=Bl4 a6 h
   refine⟨?_,h2⟩
   unfold bck
   cases hm:Nat.beq m j with
   |true=>
    obtain rfl:=Nat.eq_of_beq_eq_true hm
    rw[Ach.1 a5] at h1
    cases h1
   |false=>exact h1
def nm2 (N:Nm) (nb:Nat) (L:Iq):Nm:=⟨fun j=>N.b (Avh nb L j),fun j=>N.q (Avh nb L j)⟩
theorem Bwn {nb nx':Nat} {L:Iq} (h0:QN nb nx' L=true) {i j:Nat} (h:Zw nb L i=some j):Avh nb L j=i∧(i <nb∧j=i∨nb≤i∧nb≤j∧j <nx'):=by
 unfold Zw at h
 cases hb:Nat.blt i nb with
 |true=>
  rw[hb] at h
  cases h
  refine⟨?_,.inl ⟨Nat.le_of_ble_eq_true hb,rfl⟩⟩
  unfold Avh
  rw[hb]
  rfl
 | false=>
  rw[hb] at h
  obtain⟨h1,h2,h3,h4⟩:=Bl4 h0 h
  refine⟨?_,.inr ⟨h2,h3,h4⟩⟩
  unfold Avh
  have:Nat.blt j nb=false:=by
   cases hj:Nat.blt j nb with
   |false=>rfl
   |true=>exact absurd (Nat.le_of_ble_eq_true hj) (by omega)
  rw[this,h1]
  rfl
theorem pk2 {N:Nm} {nb n nx':Nat} {L:Iq} (h0:QN nb nx' L=true) (hnb:nb≤nx'):Pk (Zw nb L) N n (nm2 N nb L) nx':=fun i j _ hj=>by
 obtain⟨h1,h2⟩:=Bwn h0 hj
 refine⟨?_,by show N.b (Avh nb L j)=_;rw[h1],by show N.q (Avh nb L j)=_;rw[h1]⟩
 rcases h2 with⟨h2,rfl⟩|⟨_,_,h2⟩
 ·omega
 ·exact h2
def Bd9 (nb:Nat) (L:Iq) (o:Objs):Iq→Objs
 | []=>[]
 |(k,j)::r=>(j,match Ao k o with
  |some ob=>some (ob.pk (Zw nb L))
  |none=>none)::Bd9 nb L o r
def Aoj (nb:Nat) (L:Iq) (o:Objs):List Nat→Objs
 | []=>[]
 |k::r=>bif Nat.blt k nb then(k,match Ao k o with
  |some ob=>some (ob.pk (Zw nb L))
  |none=>none)::Aoj nb L o r else Aoj nb L o r
theorem An4 {nb:Nat} {L:Iq} {o:Objs} {j:Nat} {ob':Ob}:∀{r:Iq},Ao j (Bd9 nb L o r)=some ob'→∃k ob,(k,j)∈r∧Ao k o=some ob∧ob'=ob.pk (Zw nb L)
 | [],h=>by cases h
 | (k,m)::r,h=>by
  unfold Bd9 at h
  have h':(bif Nat.beq m j then(match Ao k o with|some ob=>some (ob.pk (Zw nb L))|none=>none) else Ao j (Bd9 nb L o r))=some ob':=h
  cases hb:Nat.beq m j with
  |true=>
   rw[hb] at h'
   obtain rfl:=Nat.eq_of_beq_eq_true hb
   simp only[cond_true] at h'
   split at h'<;>first|(cases h';done)|skip
   rename_i ob hob
   cases h'
   exact⟨k,ob,List.mem_cons_self ..,hob,rfl⟩
  |false=>
   rw[hb] at h'
   obtain⟨k',ob,h1,h2⟩:=An4 h'
   exact⟨k',ob,List.mem_cons_of_mem _ h1,h2⟩
theorem WW {nb:Nat} {L:Iq} {o:Objs} {j:Nat} {ob':Ob}:∀{r:List Nat},Ao j (Aoj nb L o r)=some ob'→j <nb∧∃ob,Ao j o=some ob∧ob'=ob.pk (Zw nb L)
 | [],h=>by cases h
 | k::r,h=>by
  unfold Aoj at h
  cases hk:Nat.blt k nb with
  |false=>rw[hk] at h;exact WW h
  | true=>
   rw[hk] at h
   have h':(bif Nat.beq k j then(match Ao k o with|some ob=>some (ob.pk (Zw nb L))|none=>none) else Ao j (Aoj nb L o r))=some ob':=h
   cases hb:Nat.beq k j with
   |true=>
    rw[hb] at h'
    obtain rfl:=Nat.eq_of_beq_eq_true hb
    simp only[cond_true] at h'
    split at h'<;>first|(cases h';done)|skip
    rename_i ob hob
    cases h'
    exact⟨Nat.le_of_ble_eq_true hk,ob,hob,rfl⟩
   |false=>rw[hb] at h';exact WW h'
theorem Ww {nb:Nat} {L:Iq} {o:Objs} {j:Nat} (hj:j <nb):∀{r:List Nat},j∈r→j∈Kh (Aoj nb L o r)
 | [],h=>by cases h
 | k::r,h=>by
  unfold Aoj
  rcases List.mem_cons.1 h with rfl|h
  ·rw[show Nat.blt j nb=true from Nat.ble_eq_true_of_le hj]
   exact List.mem_cons_self ..
  ·cases Nat.blt k nb with
   |true=>exact List.mem_cons_of_mem _ (Ww hj h)
   |false=>exact Ww hj h
theorem Nd {i:Nat} {ob:Ob} {A B:Objs} (h:Ao i (A++B)=some ob):(i∈Kh A∧Ao i A=some ob)∨(i∉Kh A∧Ao i B=some ob):=by
 by_cases hk:i∈Kh A
 ·rw[WV hk] at h;exact .inl ⟨hk,h⟩
 ·rw[Jw hk] at h;exact .inr ⟨hk,h⟩
theorem Bxi {nb nx':Nat}:∀{L:Iq} {k j:Nat},QN nb nx' L=true→(k,j)∈L→Zw nb L k=some j
 | [],k,j,_,h=>by cases h
 | (a,b)::r,k,j,h0,h=>by
  have h00:=h0
  unfold QN at h0
  simp only[Bool.and_eq_true] at h0
  obtain⟨a1,a2,a3,a4,a5,a6⟩:=h0
  have hge:∀{L:Iq} {k j:Nat},QN nb nx' L=true→(k,j)∈L→nb≤k:=fun {L}=>by
   induction L with
   |nil=>intro k j _ h;cases h
   |cons p r ih=>
    intro k j h0 h
    obtain⟨x,y⟩:=p
    unfold QN at h0
    simp only[Bool.and_eq_true] at h0
    rcases List.mem_cons.1 h with e|h
    ·cases e;exact Nat.le_of_ble_eq_true h0.1
    ·exact ih h0.2.2.2.2.2 h
  have hk:Nat.blt k nb=false:=by
   cases hb:Nat.blt k nb with
   |false=>rfl
   |true=>exact absurd (hge h00 h) (by have:=Nat.le_of_ble_eq_true hb;omega)
  have ih:∀{L:Iq} {k j:Nat},QN nb nx' L=true→(k,j)∈L→fwd L k=some j:=fun {L}=>by
   induction L with
   |nil=>intro k j _ h;cases h
   | cons p r ih=>
    intro k j h0 h
    obtain⟨x,y⟩:=p
    unfold QN at h0
    simp only[Bool.and_eq_true] at h0
    obtain⟨_,_,_,b4,_,b6⟩:=h0
    unfold fwd
    rcases List.mem_cons.1 h with e|h
    ·cases e;rw[M5];rfl
    ·have h1:=ih b6 h
     cases hb:Nat.beq x k with
     |true=>
      obtain rfl:=Nat.eq_of_beq_eq_true hb
      rw[Ach.1 b4] at h1
      cases h1
     |false=>exact h1
  unfold Zw
  rw[hk]
  exact ih h00 h
section
variable {F:Nat→Prop} {N:Nm} {nx:Nat} {o:Objs} {R:World} {ρ:Nat→Option Nat}
theorem Axl {xs:List A} (h:∀(j:Nat) (x:A),xs[j]?=some x→x.pk ρ=x):pkL ρ xs=xs:=by
 induction xs with
 |nil=>unfold pkL;rfl
 |cons x r ih=>unfold pkL;rw[h 0 x rfl,ih fun j y hy=>h (j+1) y hy]
theorem Hv.pk_id (hρ:∀k,k <nx→ρ k=some k) {x:A} {y:Value} (h:Hv F N nx R x y):x.pk ρ=x:=by
 induction h with
 |v x=>unfold A.pk;rfl
 |sl=>unfold A.pk;rfl
 | @ref l ad h1 h2 h3 ih=>
  unfold A.pk
  rw[Axl fun j x hx=>by obtain⟨y,hy⟩:=h2 j x hx;exact ih j x y hx hy]
 |own h=>unfold A.pk;rw[hρ _ h]
 |ownx h=>unfold A.pk;rw[hρ _ h]
 |sq h=>unfold A.pk;rw[hρ _ h]
 |vw h=>unfold A.pk;rw[hρ _ h]
 |el h=>unfold A.pk;rw[hρ _ h]
 |dq h=>unfold A.pk;rw[hρ _ h]
 |iv h=>unfold A.pk;rw[hρ _ h]
 |de h=>unfold A.pk;rw[hρ _ h]
 |ie h=>unfold A.pk;rw[hρ _ h]
 |mp h=>unfold A.pk;rw[hρ _ h]
 |nl a=>unfold A.pk;rfl
 |it q vs y h=>unfold A.pk;rfl
 | @fn f first caps vs us h1 _ h3 _ ih2 ih4=>
  unfold A.pk
  have e1:pkL ρ first=first:=Axl fun j x hx=>by
   have hj:j <vs.length:=by rw[h1];exact(List.getElem?_eq_some_iff.1 hx).1
   exact ih2 j x _ hx (List.getElem?_eq_getElem hj)
  have e2:pkL ρ caps=caps:=Axl fun j x hx=>by
   have hj:j <us.length:=by rw[h3];exact(List.getElem?_eq_some_iff.1 hx).1
   exact ih4 j x _ hx (List.getElem?_eq_getElem hj)
  rw[e1,e2]
 | @agg xs vs h1 _ ih=>
  unfold A.pk
  rw[Axl fun j x hx=>by
   have hj:j <vs.length:=by rw[h1];exact(List.getElem?_eq_some_iff.1 hx).1
   exact ih j x _ hx (List.getElem?_eq_getElem hj)]
 | @tup xs vs h1 _ ih=>
  unfold A.pk
  rw[Axl fun j x hx=>by
   have hj:j <vs.length:=by rw[h1];exact(List.getElem?_eq_some_iff.1 hx).1
   exact ih j x _ hx (List.getElem?_eq_getElem hj)]
 |dead y=>unfold A.pk;rfl
theorem HL.pk_id (hρ:∀k,k <nx→ρ k=some k):∀{xs:List A} {vs:List Value},HL F N nx R xs vs→pkL ρ xs=xs
 | [],_,_=>by unfold pkL;rfl
 |x::r,_,⟨v,vs,_,h2,h3⟩=>by unfold pkL;rw[h2.pk_id hρ,HL.pk_id hρ h3]
theorem HRel.pk_id (h:HRel F N nx o R) (hρ:∀k,k <nx→ρ k=some k) {i:Nat} {ob:Ob} (hi:Ao i o=some ob):ob.pk ρ=ob:=by
 obtain⟨_,h2⟩:=h.ob i ob hi
 cases ob with
 |box e cs=>
  obtain⟨vs,h1,_⟩:=h2
  show Ob.box e (pkL ρ cs)=_
  rw[h1.pk_id hρ]
 |deep e c l=>rfl
 | arr e size els=>
  cases els with
  |ty c l=>rfl
  | lst cs=>
   obtain⟨zs,_,h3⟩:=h2
   show Ob.arr e size (.lst (cs.map (pkL ρ)))=_
   congr 2
   apply List.ext_getElem?
   intro k
   rw[List.getElem?_map]
   cases hk:cs[k]? with
   |none=>rfl
   | some c=>
    have hk':k <cs.length:=(List.getElem?_eq_some_iff.1 hk).1
    have:=(h3 k hk').pk_id hρ
    have e:(Els.lst cs).nth k=c:=by
     show Jz cs k=c
     rw[EJ,List.getD_eq_getElem?_getD,hk]
     rfl
    rw[e] at this
    exact congrArg some this
 |map k v l=>rfl
 |sit s pos=>rfl
end
def RM (nb:Nat) (L:Iq) (o ob:Objs):Objs:=Bd9 nb L o L++(Aoj nb L o (Aws o ob.length)++ob)
theorem Boj {F:Nat→Prop} {N:Nm} {nb n nx':Nat} {o ob d:Objs} {R:World} {L:Iq} (h:HRel F N n o R) (h0:QN nb nx' L=true) (hnb:nb≤nx') (hd:o=d++ob) {F0:Nat→Prop} {N0:Nm} {R0:World} (hb:HRel F0 N0 nb ob R0):
  HRel F (nm2 N nb L) nx' (RM nb L o ob) R∧∀g,Foot (nm2 N nb L) (RM nb L o ob) g→Foot N o g:=by
 have small:∀k,k <nb→Zw nb L k=some k:=fun k hk=>by unfold Zw;rw[show Nat.blt k nb=true from Nat.ble_eq_true_of_le hk];rfl
 refine h.pk (pk2 h0 hnb) fun j ob' hj=>?_
 unfold RM at hj
 rcases Nd hj with⟨_,h1⟩|⟨_,h1⟩
 ·obtain⟨k,x,h2,h3,h4⟩:=An4 h1
  exact⟨k,x,Bxi h0 h2,h3,h4⟩
 ·rcases Nd h1 with⟨_,h2⟩|⟨h2,h3⟩
  ·obtain⟨h3,x,h4,h5⟩:=WW h2
   exact⟨j,x,small j h3,h4,h5⟩
  ·have h4:=(hb.ob j ob' h3).1
   refine⟨j,ob',small j h4,?_,(hb.pk_id small h3).symm⟩
   subst hd
   rw[Acl fun hm=>h2 (Ww h4 hm)]
   exact h3
end Go.Proofs.Yteebobbhhgmeiaa
namespace Go.Proofs.Yteebobbhhgmeiaa
open Go.RowKit
def B1f (E:Env) (s:St):ResultVar→R2
 | .tmp t=>match s.ev [] (.tmp t) with
  |some x=>some (x,[])
  |none=>none
 | .cell a t=>Agx E s [] t (.tmp a)
def Btv (E:Env) (s:St):List ResultVar→Option (List A×List Prop)
 | []=>some ([],[])
 | r::rs=>match B1f E s r with
  |some (v,ps)=>match Btv E s rs with
   |some (vs,qs)=>some (v::vs,ps++qs)
   |none=>none
  |none=>none
def Bj2:List A→A
 | [x]=>x
 |l=>match A9b l with
  |some vs=> .v (.tuple vs.toArray)
  |none=> .tup l
def Bus:List Value→Value
 | [v]=>v
 |l=> .tuple l.toArray
def B1e (tmps:Array Value):ResultVar→Sem Value
 | .tmp t=>pure (tmps.getD t undef)
 | .cell a t=>do loadVar t (←asAddr (tmps.getD a undef))
theorem Bjm (fn:Func) (tmps:Array Value):results fn tmps=(do let vs ←fn.results.mapM (B1e tmps);pure (if h:vs.size=1 then vs[0] else .tuple vs)):=rfl
section
variable {E:Env} {Z:Base} {F:Nat→Prop} {N:Nm} {s:St} {a:Act} {R:World}
theorem Bx3 {nx:Nat} {l:List A} {vs:List Value} (h:HL F N nx R l vs):Hv F N nx R (Bj2 l) (Bus vs):=by
 match l,h with
 | [],h=>
  rw[h.inv0]
  exact .v _
 | [x],h=>
  obtain⟨v,us,rfl,h2,h3⟩:=h.inv
  rw[h3.inv0]
  exact h2
 | x::y::r,h=>
  obtain⟨v,us,rfl,h2,h3⟩:=h.inv
  obtain⟨w,ws,rfl,h4,h5⟩:=h3.inv
  show Hv F N nx R (match A9b (x::y::r) with|some vs=> .v (.tuple vs.toArray)|none=> .tup (x::y::r)) (.tuple (v::w::ws).toArray)
  split
  ·rename_i us hu
   rw[A9c hu h]
   exact .v _
  ·exact Hv.of_tup h
theorem Bxj (h:Rel Z F N s a R) {r:ResultVar} {x:A} {ps:List Prop} (he:B1f E s r=some (x,ps)) (hp:∀p∈ps,p):∃v,Hv F N s.nx R x v∧(B1e a.tmps r).run E.P R=.ok v R:=by
 cases r with
 |tmp t=>
  unfold B1f at he
  simp only at he
  split at he<;>first|(cases he;done)|skip
  rename_i z hz
  cases he
  exact⟨_,(Br h (HN _) hz).2,rfl⟩
 |cell c t=>
  obtain⟨v,h1,h2⟩:=Bmf h (HN _) he hp
  refine⟨v,h1,?_⟩
  have h3:(Instr.loadAt t (a.tmps.getD c undef)).run E.P R=.ok v R:=h2 R (Below.refl _ _)
  show(do loadVar t (←asAddr (a.tmps.getD c undef)):Sem Value).run E.P R=_
  unfold Instr.loadAt at h3
  generalize a.tmps.getD c undef=p at*
  cases p<;>first|(simp[Instr.sureAddr] at h3;done)|skip
  rename_i ad
  cases ad with
  |none=>simp[Instr.sureAddr] at h3
  |some ad=>simpa[Instr.sureAddr,asAddr] using h3
theorem Bm1 (h:Rel Z F N s a R):∀{l:List ResultVar} {xs:List A} {ps:List Prop},Btv E s l=some (xs,ps)→(∀p∈ps,p)→∃vs,HL F N s.nx R xs vs∧(l.mapM (B1e a.tmps)).run E.P R=.ok vs R
 | [],xs,ps,he,_=>by cases he;exact⟨[],HL.nil,rfl⟩
 |r::rs,xs,ps,he,hp=>by
  unfold Btv at he
  split at he<;>first|(cases he;done)|skip
  rename_i x ps1 h1
  split at he<;>first|(cases he;done)|skip
  rename_i xs1 qs h2
  cases he
  obtain⟨v,g1,g2⟩:=Bxj h h1 fun p hm=>hp p (List.mem_append.2 (.inl hm))
  obtain⟨vs,g3,g4⟩:=Bm1 h h2 fun p hm=>hp p (List.mem_append.2 (.inr hm))
  refine⟨v::vs,HL.cons g1 g3,?_⟩
  rw[List.mapM_cons]
  simp only[Sem.run_bind,g2,Result.andThen_ok,g4,Sem.run_pure]
theorem Bjn (h:Rel Z F N s a R) {fn:Func} {xs:List A} {ps:List Prop} (he:Btv E s fn.results.toList=some (xs,ps)) (hp:∀p∈ps,p):∃v,Hv F N s.nx R (Bj2 xs) v∧(results fn a.tmps).run E.P R=.ok v R:=by
 obtain⟨vs,h1,h2⟩:=Bm1 h he hp
 refine⟨Bus vs,Bx3 h1,?_⟩
 rw[Bjm,Array.mapM_eq_mapM_toList]
 simp only[Sem.run_bind,Sem.run_map,h2,Result.andThen_ok,Sem.run_pure]
 congr 1
 match vs with
 | []=>simp[Bus]
 | [x]=>simp[Bus]
 |x::y::r=>simp[Bus]
end
def Aa4 (nb:Nat) (o:Objs):Nat→A→List Nat
 |0,_=>[]
 | d+1,x=>match x with
  | .sq i| .vw i _ _ _ _| .el i _ _ _| .own i _| .ownx i _ _ _| .mp i| .dq i| .iv i _| .de i _ _ _| .ie i _ _ _ _=>bif Nat.blt i nb then[] else i::(match Ao i o with
   |some (.box _ cs)=>cs.flatMap (Aa4 nb o d)
   |some (.arr _ _ (.lst cs))=>cs.flatMap fun l=>l.flatMap (Aa4 nb o d)
   |_=>[])
  | .agg xs=>xs.flatMap (Aa4 nb o d)
  | .tup xs=>xs.flatMap (Aa4 nb o d)
  | .fn _ xs ys=>xs.flatMap (Aa4 nb o d)++ys.flatMap (Aa4 nb o d)
  |_=>[]
def Btu (nb:Nat) (o:Objs):List Nat→List Nat
 | []=>[]
 |k::r=>(bif Nat.blt k nb then(match Ao k o with
  |some (.box _ cs)=>cs.flatMap (Aa4 nb o 4)
  |some (.arr _ _ (.lst cs))=>cs.flatMap fun l=>l.flatMap (Aa4 nb o 4)
  |_=>[]) else[])++Btu nb o r
def Bml:List Nat→Nat→Iq→Iq
 | [],_,L=>L
 |k::r,j,L=>match fwd L k with
  |some _=>Bml r j L
  |none=>Bml r (j+1) (L++[(k,j)])
def Ato:Bj→Bool
 | []=>true
 |(none,_,_)::r=>Ato r
 |_=>false
theorem Ul:∀{o:Bj} {i:Nat},Ato o=true→AL (some i) o=none
 | [],_,_=>rfl
 |(none,_,_)::r,i,h=>Ul (o:=r) h
 |(some _,_,_)::_,_,h=>by cases h
def B0u (W:List Nat) (s0:St) (r:Res):Option St:=bif Ato r.outs then(match AL none r.outs,r.nrm with
 |some (_,s),none=>some s
 |none,some s=>some s
 |some (c,s),some s'=>some (Jy (Bm c) W s0 s s')
 |none,none=>none) else none
def B0y (k:Nat) (s0 s:St) (x:A) (ps:List Prop) (L:Iq):Option A3:=
 bif QN s0.nx (s0.nx+L.length) L then some (k,x.pk (Zw s0.nx L),s0.nx+L.length,RM s0.nx L s.o s0.o,ps) else none
def B0z (E:Env) (fn:Func) (k:Nat) (W:List Nat) (s0:St) (r:Res):Option A3:=match B0u W s0 r with
 |some s=>match Btv E s fn.results.toList with
  |some (l,ps)=>B0y k s0 s (Bj2 l) (r.ps++ps) (Bml (Aa4 s0.nx s.o 6 (Bj2 l)++Btu s0.nx s.o (Aws s.o s0.o.length)) s0.nx [])
  |none=>none
 |none=>none
def Atr:Nat→List A→HV
 |_,[]=>[]
 |k,x::r=>(k,x)::Atr (k+1) r
def Qv (n:Nat) (args:List A) (nx:Nat) (o:Objs):St:=⟨n,nx,Atr 0 args,o⟩
def Bsi:Objs→Bool
 | []=>true
 |_=>false
def Ff (E:Env) (u:Nat) (f:FuncId) (args:List A) (nx:Nat) (o:Objs):Option A3:=match E.P.funcs[f]? with
 |some fn=>match fn.body with
  |some c=>bif Nat.ble args.length fn.ntmps then B0z E fn (bif Bsi o then 1 else 2) (TF c) (Qv fn.ntmps args nx o) (evC E u c (Qv fn.ntmps args nx o)) else none
  |none=>none
 |none=>none
theorem Av4 {u:Nat} {x:A}:∀{l:List A} {k:Nat},D6 u (Atr k l)=some x→∃i,u=k+i∧l[i]?=some x
 | [],_,h=>by cases h
 | y::r,k,h=>by
  have h':(bif Nat.beq k u then some y else D6 u (Atr (k+1) r))=some x:=h
  cases hb:Nat.beq k u with
  |true=>
   rw[hb] at h'
   exact⟨0,(Nat.eq_of_beq_eq_true hb).symm,h'⟩
  |false=>
   rw[hb] at h'
   obtain⟨i,h1,h2⟩:=Av4 h'
   exact⟨i+1,by omega,h2⟩
theorem Bsg {n nx:Nat} {args:List A} {o:Objs} {vs:List Value} {F:Nat→Prop} {N:Nm} {R:World} (hl:args.length≤n) (hh:HRel F N nx o R) (ha:HL F N nx R args vs):
  Rel ⟨F,N,nx,o,R,Bl {tmps:=vs.toArray++Array.replicate (n - vs.toArray.size) undef,defers:=[]},fun _=>True⟩ F N (Qv n args nx o) {tmps:=vs.toArray++Array.replicate (n - vs.toArray.size) undef,defers:=[]} R:=by
 have hlen:=ha.length
 refine⟨rfl,?_,fun u x hu=>?_,hh,.refl,fun _ _=>rfl⟩
 ·show(vs.toArray++Array.replicate (n - vs.toArray.size) undef).size=n
  simp
  omega
 ·obtain⟨i,h1,h2⟩:=Av4 hu
  obtain rfl:u=i:=by omega
  obtain⟨v,h3,h4⟩:=ha.get h2
  have hu':u <vs.length:=(List.getElem?_eq_some_iff.1 h3).1
  have:Bl {tmps:=vs.toArray++Array.replicate (n - vs.toArray.size) undef,defers:=[]} u=v:=by
   unfold Bl
   simp only[Array.getD_eq_getD_getElem?]
   rw[Array.getElem?_append_left (by simpa using hu'),List.getElem?_toArray,h3]
   rfl
  rw[this]
  exact(Ab h4.isPlain).2 h4
section
variable {E:Env}
theorem Bwd {Z:Base} {F:Nat→Prop} {N:Nm} {a0:Act} {R0:World} {W:List Nat} {s0:St} (h0:Rel Z F N s0 a0 R0) {r:Res} (hw:Wf s0 r) {s:St} (he:B0u W s0 r=some s) {e:Exit} {x:St} {a:Act} {R:World} (ho:Oc r e x) (hx:At (LA F N s0 a0 R0 W) a R x):
  (e=.ret∨e=.normal)∧At (LA F N s0 a0 R0 W) a R s∧Sub s0 s:=by
 unfold B0u at he
 cases hr:Ato r.outs with
 |false=>rw[hr] at he;cases he
 | true=>
  rw[hr] at he
  simp only[cond_true] at he
  split at he<;>first|(cases he;done)|skip
  ·rename_i c s' hg hn
   cases he
   rcases ho with⟨t,c',rfl,h1,h2,h3⟩|⟨rfl,h1,h2⟩
   ·cases t with
    |none=>rw[hg] at h1;cases h1;exact⟨.inl rfl,hx,hw.outs _ _ _ hg⟩
    |some i=>rw[Ul hr] at h1;cases h1
   ·rw[hn] at h1;cases h1
  ·rename_i hg hn
   cases he
   rcases ho with⟨t,c',rfl,h1,h2,h3⟩|⟨rfl,h1,h2⟩
   ·cases t with
    |none=>rw[hg] at h1;cases h1
    |some i=>rw[Ul hr] at h1;cases h1
   ·rw[hn] at h1;cases h1;exact⟨.inr rfl,hx,hw.nrm _ hn⟩
  ·rename_i c s1 s2 hg hn
   cases he
   rcases ho with⟨t,c',rfl,h1,h2,h3⟩|⟨rfl,h1,h2⟩
   ·cases t with
    |none=>
     rw[hg] at h1;cases h1
     exact⟨.inl rfl,Rp (g:=Bm c) h0 (hw.outs _ _ _ hg) (hw.nrm _ hn) (by rw[h2];rfl) _ _ hx,Sub.merge _ _ _ _ _⟩
    |some i=>rw[Ul hr] at h1;cases h1
   ·rw[hn] at h1
    cases h1
    exact⟨.inr rfl,Rp (g:=Bm c) h0 (hw.outs _ _ _ hg) (hw.nrm _ hn) (by rw[h2 _ _ _ hg];rfl) _ _ hx,Sub.merge _ _ _ _ _⟩
theorem Az (ok:VQ E) {u:Nat} {f:FuncId} {args:List A} {nx:Nat} {o:Objs} {k nx':Nat} {x:A} {o':Objs} {ps:List Prop} (he:Ff E u f args nx o=some (k,x,nx',o',ps)) (hp:∀p∈ps,p):
  CallOk E.P f args nx o k x nx' o':=by
 unfold Ff at he
 split at he<;>first|(cases he;done)|skip
 rename_i fn hf
 split at he<;>first|(cases he;done)|skip
 rename_i c hc
 cases hl:Nat.ble args.length fn.ntmps with
 |false=>rw[hl] at he;cases he
 | true=>
  rw[hl] at he
  simp only[cond_true] at he
  have hle:=Nat.le_of_ble_eq_true hl
  generalize hk0:(bif Bsi o then 1 else 2)=k0 at he
  generalize hr:evC E u c (Qv fn.ntmps args nx o)=r at he
  unfold B0z at he
  split at he<;>first|(cases he;done)|skip
  rename_i s hs
  split at he<;>first|(cases he;done)|skip
  rename_i l qs hres
  generalize Bml (Aa4 (Qv fn.ntmps args nx o).nx s.o 6 (Bj2 l)++Btu (Qv fn.ntmps args nx o).nx s.o (Aws s.o (Qv fn.ntmps args nx o).o.length)) (Qv fn.ntmps args nx o).nx []=L at he
  unfold B0y at he
  cases hok:QN (Qv fn.ntmps args nx o).nx ((Qv fn.ntmps args nx o).nx+L.length) L with
  |false=>rw[hok] at he;cases he
  | true=>
   rw[hok] at he
   cases he
   intro F N R vs hh ha
   ·have h0:=Bsg hle hh ha
    have hlen:=ha.length
    refine calls_of_wp hf hc ?_
    have hwf:=FM ok (u:=u) 0 c false (Qv fn.ntmps args nx o)
    have hr':TE E u 0 c false (Qv fn.ntmps args nx o)=r:=hr
    rw[hr'] at hwf
    have key:=Ja ok (u:=u) 0 c false (LA F N (Qv fn.ntmps args nx o) {tmps:=vs.toArray++Array.replicate (fn.ntmps - vs.toArray.size) undef,defers:=[]} R (TF c)) (Qv fn.ntmps args nx o) {tmps:=vs.toArray++Array.replicate (fn.ntmps - vs.toArray.size) undef,defers:=[]} R
     (bodyPost E.P fn fun e R'=>∃y F' N',e=.returned y∧HRel F' N' (nx+L.length) (RM nx L s.o o) R'∧Step F N nx o R F' N' (nx+L.length) (RM nx L s.o o) R'∧Hv F' N' (nx+L.length) R' ((Bj2 l).pk (Zw nx L)) y∧(k≤1→Below R.heap.size R R')) ⟨F,N,h0.start _⟩ (fun u hu=>hu) (by rw[hr'];exact fun p hm=>hp p (List.mem_append.2 (.inl hm)))
    refine key fun e z a' R' ho hz=>?_
    rw[hr'] at ho
    obtain⟨h1,⟨F',N',h2⟩,h3⟩:=Bwd h0 hwf hs ho hz
    obtain⟨y,g1,g2⟩:=Bjn h2 hres fun p hm=>hp p (List.mem_append.2 (.inr hm))
    obtain⟨d,hd⟩:=h3.seq
    have hd':s.o=d++o:=hd
    obtain⟨q1,q2⟩:=Boj (nb:=nx) (nx':=nx+L.length) (L:=L) h2.hp hok (Nat.le_add_right _ _) hd' hh
    have hst:Step F N nx o R F' N' s.nx s.o R':=h2.st
    have small:∀k,k <nx→Avh nx L k=k:=fun k hk=>by unfold Avh;rw[show Nat.blt k nx=true from Nat.ble_eq_true_of_le hk];rfl
    have hst2:Step F N nx o R F' (nm2 N' nx L) (nx+L.length) (RM nx L s.o o) R':=⟨Nat.le_add_right _ _,fun i hi=>by show N'.b (Avh nx L i)=_;rw[small i hi];exact hst.b i hi,fun i hi=>by show N'.q (Avh nx L i)=_;rw[small i hi];exact hst.q i hi,hst.f,hst.fnew,fun g hg=>hst.foot g (q2 g hg),hst.os,hst.tape,hst.output,hst.size,hst.keep⟩
    have post:a'.defers=[]∧∃v,(results fn a'.tmps).run E.P R'=.ok v R'∧∃y F' N',Ending.returned v=.returned y∧HRel F' N' (nx+L.length) (RM nx L s.o o) R'∧Step F N nx o R F' N' (nx+L.length) (RM nx L s.o o) R'∧Hv F' N' (nx+L.length) R' ((Bj2 l).pk (Zw nx L)) y∧(k≤1→Below R.heap.size R R'):=by
     refine⟨h2.defers,y,g2,y,F',nm2 N' nx L,rfl,q1,hst2,g1.pk (pk2 hok (Nat.le_add_right _ _)),fun hk=>?_⟩
     cases o with
     |nil=>exact hst.below
     |cons p r=>rw[←hk0] at hk;cases hk with|step hk=>cases hk
    rcases h1 with rfl|rfl
    ·exact post
    ·exact post
theorem Bwi {u:Nat} {f:FuncId} {args:List A} {nx:Nat} {o:Objs} {k nx':Nat} {x:A} {o':Objs} {ps:List Prop} (he:Ff E u f args nx o=some (k,x,nx',o',ps)):∃d,o'=d++o:=by
 unfold Ff at he
 split at he<;>first|(cases he;done)|skip
 split at he<;>first|(cases he;done)|skip
 rename_i c hc
 replace he:=BH he
 unfold B0z at he
 split at he<;>first|(cases he;done)|skip
 rename_i s hs
 split at he<;>first|(cases he;done)|skip
 unfold B0y at he
 replace he:=BH he
 cases he
 exact⟨_,by unfold RM;rw[←List.append_assoc];rfl⟩
end
def Fi (P:Program) (f:FuncId) (g:List A→Nat→Objs→Option A3):Prop:=
 ∀args nx o k x nx' o' ps,g args nx o=some (k,x,nx',o',ps)→((∀p∈ps,p)→CallOk P f args nx o k x nx' o')∧∃d,o'=d++o
def Dd (P:Program) (C:Tab):Prop:=∀f args nx o k x nx' o' ps,C f args nx o=some (k,x,nx',o',ps)→((∀p∈ps,p)→CallOk P f args nx o k x nx' o')∧∃d,o'=d++o
def B29 (P:Program) (eq:TypeId→List Value→List Value→Option Bool):Prop:=
 ∀t xs ys b,eq t xs ys=some b→P.eqGuardType P.depth t=false∧∀R,(Op.equalIn 10000 t (.agg xs.toArray) (.agg ys.toArray)).run P R=.ok b R
def B3a (P:Program) (tc:TypeId→Option TC):Prop:=
 ∀t c,tc t=some c→∃i,P.info? t=some i∧i.size=size c∧0 <size c∧∃z,i.zero=some z∧∀(F:Nat→Prop) (N:Nm) (nx:Nat) (R:World),HL F N nx R (enc c (Ac c)) z.cells.toList
abbrev A52:=Nat→St→Option (Code×List Prop×Bj)
def C0:Tab:=fun _ _ _ _=>none
theorem Byd {P:Program}:Dd P C0:=fun _ _ _ _ _ _ _ _ _ h=>by cases h
def L0:A52:=fun _ _=>none
def A4 (f0:FuncId) (g:List A→Nat→Objs→Option A3) (C:Tab):Tab:=fun f args nx o=>bif Nat.beq f f0 then g args nx o else C f args nx o
theorem Am {P:Program} {f0:FuncId} {g:List A→Nat→Objs→Option A3} {C:Tab} (hg:Fi P f0 g) (hC:Dd P C):Dd P (A4 f0 g C):=fun f args nx o k x nx' o' ps h=>by
 unfold A4 at h
 cases hb:Nat.beq f f0 with
 |true=>
  rw[hb] at h
  rw[Nat.eq_of_beq_eq_true hb]
  exact hg args nx o k x nx' o' ps h
 |false=>rw[hb] at h;exact hC f args nx o k x nx' o' ps h
theorem N0 {p:Prop} {ps:List Prop} (h:∀q∈p::ps,q):p:=h _ (List.mem_cons_self ..)
theorem N1 {p:Prop} {ps:List Prop} (h:∀q∈p::ps,q):∀q∈ps,q:=fun q hq=>h q (List.mem_cons_of_mem _ hq)
theorem Ad:∀p∈([]:List Prop),p:=fun _ h=>by cases h
theorem Aa {p:Prop} {ps:List Prop} (h:p) (t:∀q∈ps,q):∀q∈p::ps,q:=fun q hq=>by
 rcases List.mem_cons.1 hq with rfl|hq
 ·exact h
 ·exact t q hq
theorem Ae2 {P:Program} {f:FuncId} {args:List A} {nx k nx':Nat} {x:A} {o o':Objs} (h:CallOk P f args nx [] k x nx' o') (hk:k≤1):CallOk P f args nx o 1 x nx' (o'++o):=fun F N R vs hh ha=>by
 refine(h F N R vs (hh.noObj) ha).mono fun e R' ⟨y,F',N',e1,e2,e3,e4,e5⟩=>?_
 obtain⟨g1,g2⟩:=hh.frame (o1:=[]) (o':=o'++o) (fun i ob hi=>by cases hi) e3 e2 fun i ob hi=>by
  rcases Nd hi with⟨_,h1⟩|⟨_,h1⟩
  ·exact .inl h1
  ·exact .inr ⟨h1,rfl⟩
 exact⟨y,F',N',e1,g1,g2,e4,fun _=>e5 hk⟩
def Ys (nx:Nat):Nat→Option Nat:=fun i=>some (nx+i)
def Yr (nx:Nat):Objs→Objs
 | []=>[]
 |(k,some ob)::r=>(nx+k,some (ob.pk (Ys nx)))::Yr nx r
 |(k,none)::r=>(nx+k,none)::Yr nx r
theorem An5 {nx j:Nat} {ob':Ob}:∀{o:Objs},Ao j (Yr nx o)=some ob'→∃i ob,j=nx+i∧Ao i o=some ob∧ob'=ob.pk (Ys nx)
 | [],h=>by cases h
 | (k,x)::r,h=>by
  have step:∀z,(bif Nat.beq (nx+k) j then z else Ao j (Yr nx r))=some ob'→(∀ob,x=some ob→z=some (ob.pk (Ys nx)))→(x=none→z=none)→∃i ob,j=nx+i∧(bif Nat.beq k i then x else Ao i r)=some ob∧ob'=ob.pk (Ys nx):=fun z hz h1 h2=>by
   cases hb:Nat.beq (nx+k) j with
   | true=>
    rw[hb] at hz
    obtain rfl:=Nat.eq_of_beq_eq_true hb
    cases x with
    |none=>rw[h2 rfl] at hz;cases hz
    |some ob=>
     rw[h1 ob rfl] at hz
     cases hz
     exact⟨k,ob,rfl,by rw[M5];rfl,rfl⟩
   |false=>
    rw[hb] at hz
    obtain⟨i,ob,rfl,h3,h4⟩:=An5 hz
    refine⟨i,ob,rfl,?_,h4⟩
    rw[Aub fun e=>by subst e;simp at hb]
    exact h3
  cases x with
  |some ob=>exact step _ h (fun ob' e=>by cases e;rfl) (fun e=>by cases e)
  |none=>exact step _ h (fun ob' e=>by cases e) (fun _=>rfl)
theorem Ae3 {P:Program} {f:FuncId} {args:List A} {k m:Nat} {x:A} {os:Objs} (h:CallOk P f args 0 [] k x m os) (hk:k≤1) (hf:freeL args=true) (nx:Nat) (o:Objs):CallOk P f args nx o 1 (x.pk (Ys nx)) (nx+m) (Yr nx os++o):=by
 refine Ae2 (k:=1) (fun F N R vs hh ha=>?_) (Nat.le_refl _)
 refine(h F N R vs hh.noObj (ha.free hf)).mono fun e R' ⟨y,F',N',e1,e2,e3,e4,e5⟩=>?_
 let N2:Nm:=⟨fun i=>bif Nat.blt i nx then N.b i else N'.b (i - nx),fun i=>bif Nat.blt i nx then N.q i else N'.q (i - nx)⟩
 have hbt:∀i,Nat.blt (nx+i) nx=false:=fun i=>by
  cases hb:Nat.blt (nx+i) nx with
  |false=>rfl
  |true=>exact absurd (Nat.le_of_ble_eq_true hb) (by omega)
 have st:Pk (Ys nx) N' m N2 (nx+m):=fun i j hi hj=>by
  cases hj
  refine⟨by omega,?_,?_⟩
  ·show(bif Nat.blt (nx+i) nx then N.b (nx+i) else N'.b (nx+i - nx))=_
   rw[hbt,Nat.add_sub_cancel_left];rfl
  ·show(bif Nat.blt (nx+i) nx then N.q (nx+i) else N'.q (nx+i - nx))=_
   rw[hbt,Nat.add_sub_cancel_left];rfl
 obtain⟨g1,g2⟩:=e2.pk (o':=Yr nx os) st fun j ob' hj=>by
  obtain⟨i,ob,rfl,h3,h4⟩:=An5 hj
  exact⟨i,ob,rfl,h3,h4⟩
 have hlt:∀i,i <nx→Nat.blt i nx=true:=fun i hi=>Nat.ble_eq_true_of_le hi
 refine⟨y,F',N2,e1,g1,⟨Nat.le_add_right _ _,fun i hi=>by show(bif Nat.blt i nx then N.b i else _)=_;rw[hlt i hi];rfl,fun i hi=>by show(bif Nat.blt i nx then N.q i else _)=_;rw[hlt i hi];rfl,e3.f,fun g hg=>?_,fun g hg=>?_,e3.os,e3.tape,e3.output,e3.size,fun g hg hn=>e3.keep g hg fun⟨i,ob,hi,_⟩=>by cases hi⟩,e4.pk st,fun _=>e5 hk⟩
 ·rcases e3.fnew g hg with h1|⟨i,ob,hi,_⟩|h1
  ·exact .inl h1
  ·cases hi
  ·exact .inr (.inr h1)
 ·rcases e3.foot g (g2 g hg) with⟨i,ob,hi,_⟩|h1
  ·cases hi
  ·exact .inr h1
def inl (E:Env) (u:Nat) (f:FuncId):List A→Nat→Objs→Option A3:=fun args nx o=>
 bif freeL args then(match Ff E u f args nx [] with
  |some (k,x,nx',o',ps)=>bif Nat.ble k 1 then some (1,x,nx',o'++o,ps) else none
  |none=>none) else Ff E u f args nx o
theorem Acg {E:Env} (ok:VQ E) (u:Nat) (f:FuncId):Fi E.P f (inl E u f):=fun args nx o k x nx' o' ps h=>by
 unfold inl at h
 cases hf:freeL args with
 | true=>
  rw[hf] at h
  simp only[cond_true] at h
  split at h<;>first|(cases h;done)|skip
  rename_i k1 x1 nx1 o1 ps1 he
  cases hk:Nat.ble k1 1 with
  |false=>rw[hk] at h;cases h
  |true=>
   rw[hk] at h
   cases h
   exact⟨fun hp=>Ae2 (Az ok he hp) (Nat.le_of_ble_eq_true hk),_,rfl⟩
 |false=>
  rw[hf] at h
  exact⟨fun hp=>Az ok h hp,Bwi h⟩
end Go.Proofs.Yteebobbhhgmeiaa
namespace Go.Proofs.Yteebobbhhgmeiaa
open Go.RowKit
inductive Dir where
 |frz (i:Nat)
 |nil (u:Nat) (t:TypeId) (c:TC)
 |nilB (b j:Nat) (t:TypeId) (c:TC)
 |ty (i:Nat) (c:TC)
 |nilF (u:Nat) (c:TC)
 |nilFB (b j:Nat) (c:TC)
 |nilD (u:Nat) (t:TypeId) (c:TC)
def Wo:A→Bool
 | .v x=>D5 x
 | .nl=>true
 |_=>false
def YQ:A→Bool
 | .v x=>D5 x
 |_=>false
def Aez (E:Env) (s:St):Dir→Option (St×List Prop)
 | .frz i=>YK E i s
 | .nil u t c=>match D6 u s.t with
  |some x=>bif Wo x then some (⟨s.n,s.nx+1,(u,.sq s.nx)::s.t,(s.nx,some (.arr t (size c) (.ty c [])))::s.o⟩,[]) else none
  |none=>none
 | .nilB b j t c=>match Ao b s.o with
  |some (.box e cs)=>match cs[j]? with
   |some x=>bif YQ x then(bif Nat.blt b s.nx then some (⟨s.n,s.nx+1,s.t,(b,some (.box e (cs.set j (.sq s.nx))))::(s.nx,some (.arr t (size c) (.ty c [])))::s.o⟩,[]) else none) else none
   |none=>none
  |_=>none
 | .nilF u c=>match D6 u s.t with
  |some x=>bif Wo x then some (⟨s.n,s.nx,(u,.sl c [])::s.t,s.o⟩,[]) else none
  |none=>none
 | .nilFB b j c=>match Ao b s.o with
  |some (.box e cs)=>match cs[j]? with
   |some x=>bif Wo x then some (⟨s.n,s.nx,s.t,(b,some (.box e (cs.set j (.sl c []))))::s.o⟩,[]) else none
   |none=>none
  |_=>none
 | .ty i c=>match Ao i s.o with
  |some (.arr e sz els)=>match US c els with
   |some (l,ps)=>some (⟨s.n,s.nx,s.t,(i,some (.arr e sz (.ty c l)))::s.o⟩,ps)
   |none=>none
  |_=>none
 | .nilD u t c=>match D6 u s.t,ZG c with
  |some x,some _=>bif YQ x then some (⟨s.n,s.nx+1,(u,.dq s.nx)::s.t,(s.nx,some (.deep t c []))::s.o⟩,[]) else none
  |_,_=>none
def adj (E:Env):List Dir→St→Option (St×List Prop)
 | [],s=>some (s,[])
 | d::r,s=>match Aez E s d with
  |some (s',ps)=>match adj E r s' with
   |some (s'',qs)=>some (s'',ps++qs)
   |none=>none
  |none=>none
section
variable {E:Env} {Z:Base} {F:Nat→Prop} {N:Nm} {s:St} {a:Act} {R:World}
theorem Rel.word (h:Rel Z F N s a R) {u:Nat} {x:A} (hx:Hv F N s.nx R x (Bl a u)):Rel Z F N ⟨s.n,s.nx,(u,x)::s.t,s.o⟩ a R:=
 ⟨h.defers,h.size,fun v z hv=>by
  have hv':(bif Nat.beq u v then some x else D6 v s.t)=some z:=hv
  cases hb:Nat.beq u v with
  |true=>
   rw[hb] at hv'
   obtain rfl:=Nat.eq_of_beq_eq_true hb
   cases hv'
   exact(Ab hx.isPlain).2 hx
  |false=>rw[hb] at hv';exact h.slots v z hv',h.hp,h.st,h.tm⟩
theorem Af1 {x:A} (h:Wo x=true):x.plain=true:=by cases x<;>first|rfl|cases h
theorem Aj8 {x:A} {y:Value} {nx:Nat} (h:Wo x=true) (hx:Hv F N nx R x y):∃b,y=.slice b 0 0:=by
 cases x<;>first|(cases h;done)|skip
 ·rw[hx.v_inv,Gr h];exact⟨none,rfl⟩
 ·exact hx.nl_inv
theorem Avi {x:A} {y:Value} {nx:Nat} (h:YQ x=true) (hx:Hv F N nx R x y):y=.slice none 0 0:=by
 cases x<;>first|(cases h;done)|skip
 rw[hx.v_inv,Gr h]
theorem A09 {x:A} (h:YQ x=true):x.plain=true:=by cases x<;>first|rfl|cases h
theorem HL.set {nx:Nat} {xs:List A} {vs:List Value} {j:Nat} {y:A} (h:HL F N nx R xs vs) (hy:∀v,vs[j]?=some v→Hv F N nx R y v):HL F N nx R (xs.set j y) vs:=by
 refine HL.of (by rw[List.length_set];exact h.length) fun i x v hx hv=>?_
 by_cases hij:j=i
 ·subst hij
  have hlt:j <xs.length:=by have:=(List.getElem?_eq_some_iff.1 hx).1;rwa[List.length_set] at this
  rw[List.getElem?_set_self hlt] at hx
  cases hx
  exact hy v hv
 ·rw[List.getElem?_set_ne hij] at hx
  obtain⟨w,h1,h2⟩:=h.get hx
  rw[hv] at h1
  cases h1
  exact h2
theorem HRel.nilRowB {nx:Nat} {o:Objs} (h:HRel F N nx o R) (b:Option Addr) {m:Nat} (t:TypeId) (sz:Nat) {els:Els} (he:els.n=0) (hm:nx≤m):
  HRel F (N.setQ m (.slice b 0 0)) (m+1) ((m,some (.arr t sz els))::o) R∧Step F N nx o R F (N.setQ m (.slice b 0 0)) (m+1) ((m,some (.arr t sz els))::o) R:=
 h.nilG _ hm (fun hqm=>⟨[],by rw[hqm];exact⟨by rw[he];simp,.inl ⟨b,rfl,he⟩⟩,fun j hj=>absurd hj (by omega)⟩) fun hqm g hg=>by
  have hg':CR ((N.setQ m (.slice b 0 0)).q m)=some g:=hg
  rw[hqm] at hg'
  cases b<;>cases hg'
theorem Bvs (h:At Z a R s) {d:Dir} {s':St} {ps:List Prop} (he:Aez E s d=some (s',ps)) (hp:∀p∈ps,p):At Z a R s':=by
 obtain⟨F,N,h⟩:=h
 cases d with
 |frz i=>
  obtain⟨F',h'⟩:=A3z h he hp
  exact⟨F',N,h'⟩
 | nil u t c=>
  unfold Aez at he
  simp only at he
  split at he<;>first|(cases he;done)|skip
  rename_i x hx
  cases hn:Wo x with
  |false=>rw[hn] at he;cases he
  |true=>
   rw[hn] at he
   cases he
   obtain⟨b,hv⟩:=Aj8 hn ((Ab (Af1 hn)).1 (h.slots u x hx))
   obtain⟨q1,q2⟩:=h.hp.nilRowB b t (size c) (els:=.ty c []) rfl (Nat.le_refl _)
   have h2:=h.heap q2 q1
   refine⟨_,_,h2.word (u:=u) ?_⟩
   rw[hv]
   have:=Hv.sq (F:=F) (N:=N.setQ s.nx (.slice b 0 0)) (nx:=s.nx+1) (R:=R) (Nat.lt_succ_self s.nx)
   have e:(N.setQ s.nx (.slice b 0 0)).q s.nx=.slice b 0 0:=BU N.q s.nx _
   rw[e] at this
   exact this
 | nilD u t c=>
  unfold Aez at he
  simp only at he
  split at he<;>first|(cases he;done)|skip
  rename_i x cc hx hc
  cases hn:YQ x with
  |false=>rw[hn] at he;cases he
  |true=>
   rw[hn] at he
   cases he
   have hv:=Avi hn ((Ab (A09 hn)).1 (h.slots u x hx))
   obtain⟨q1,q2⟩:=h.hp.nilD t hc (Nat.le_refl _)
   have h2:=h.heap q2 q1
   refine⟨_,_,h2.word (u:=u) ?_⟩
   rw[hv]
   have:=Hv.dq (F:=F) (N:=N.setQ s.nx (Boe true)) (nx:=s.nx+1) (R:=R) (Nat.lt_succ_self s.nx)
   have e:(N.setQ s.nx (Boe true)).q s.nx=Boe true:=BU N.q s.nx _
   rw[e] at this
   exact this
 | nilB b j t c=>
  unfold Aez at he
  simp only at he
  split at he<;>first|(cases he;done)|skip
  rename_i e cs hl
  split at he<;>first|(cases he;done)|skip
  rename_i x hx
  cases hn:YQ x with
  |false=>rw[hn] at he;cases he
  | true=>
   rw[hn] at he
   cases hb:Nat.blt b s.nx with
   |false=>rw[hb] at he;cases he
   | true=>
    rw[hb] at he
    cases he
    have hbn:b <s.nx:=Nat.le_of_ble_eq_true hb
    obtain⟨q1,q2⟩:=h.hp.nilRow t (size c) (els:=.ty c []) rfl (Nat.le_refl _)
    have e0:(N.setQ s.nx (.slice none 0 0)).q s.nx=.slice none 0 0:=BU N.q s.nx _
    obtain⟨r1,r2⟩:=q1.less (o':=(b,some (.box e (cs.set j (.sq s.nx))))::(s.nx,some (.arr t (size c) (.ty c [])))::s.o) fun i ob hi=>by
     rw[Bd] at hi
     by_cases hib:i=b
     ·rw[if_pos hib] at hi
      cases hi
      subst hib
      refine⟨.box e cs,by rw[Bd,if_neg (by omega)];exact hl,fun⟨vs,k1,k2⟩=>⟨vs,k1.set fun v hv=>?_,k2⟩,fun g=>Iff.rfl⟩
      obtain⟨w,k3,k4⟩:=k1.get hx
      rw[hv] at k3
      cases k3
      rw[Avi hn k4]
      have:=Hv.sq (F:=F) (N:=N.setQ s.nx (.slice none 0 0)) (nx:=s.nx+1) (R:=R) (Nat.lt_succ_self s.nx)
      rw[e0] at this
      exact this
     ·rw[if_neg hib] at hi
      exact⟨ob,hi,id,fun g=>Iff.rfl⟩
    exact⟨_,_,h.heap (q2.trans r2) r1⟩
 | nilF u c=>
  unfold Aez at he
  simp only at he
  split at he<;>first|(cases he;done)|skip
  rename_i x hx
  cases hn:Wo x with
  |false=>rw[hn] at he;cases he
  |true=>
   rw[hn] at he
   cases he
   obtain⟨b,hv⟩:=Aj8 hn ((Ab (Af1 hn)).1 (h.slots u x hx))
   exact⟨_,_,h.word (u:=u) (Hv.sl_nil hv)⟩
 | nilFB b j c=>
  unfold Aez at he
  simp only at he
  split at he<;>first|(cases he;done)|skip
  rename_i e cs hl
  split at he<;>first|(cases he;done)|skip
  rename_i x hx
  cases hn:Wo x with
  |false=>rw[hn] at he;cases he
  | true=>
   rw[hn] at he
   cases he
   obtain⟨r1,r2⟩:=h.hp.less (o':=(b,some (.box e (cs.set j (.sl c []))))::s.o) fun i ob hi=>by
    rw[Bd] at hi
    by_cases hib:i=b
    ·rw[if_pos hib] at hi
     cases hi
     subst hib
     refine⟨.box e cs,hl,fun⟨vs,k1,k2⟩=>⟨vs,k1.set fun v hv=>?_,k2⟩,fun g=>Iff.rfl⟩
     obtain⟨w,k3,k4⟩:=k1.get hx
     rw[hv] at k3
     cases k3
     obtain⟨b,hb⟩:=Aj8 hn k4
     exact Hv.sl_nil hb
    ·rw[if_neg hib] at hi
     exact⟨ob,hi,id,fun g=>Iff.rfl⟩
   exact⟨_,_,h.heap r2 r1⟩
 | ty i c=>
  unfold Aez at he
  simp only at he
  split at he<;>first|(cases he;done)|skip
  rename_i e sz els hl
  split at he<;>first|(cases he;done)|skip
  rename_i l qs hty
  cases he
  obtain⟨r1,r2⟩:=h.hp.less (o':=(i,some (.arr e sz (.ty c l)))::s.o) fun k ob hi=>by
   rw[Bd] at hi
   by_cases hib:k=i
   ·rw[if_pos hib] at hi
    cases hi
    subst hib
    refine⟨.arr e sz els,hl,fun⟨zs,k1,k2⟩=>?_,fun g=>Iff.rfl⟩
    obtain⟨e1,_⟩:=K9 (F:=F) (N:=N) (nx:=s.nx) (R:=R) hty hp
    have hr:=RowHL.ty (els:=els) ⟨k1.1,k2⟩ hty hp
    have hn:(Els.ty c l).n=els.n:=e1
    exact⟨zs,by rw[hn];exact k1,hr.2⟩
   ·rw[if_neg hib] at hi
    exact⟨ob,hi,id,fun g=>Iff.rfl⟩
  exact⟨_,_,h.heap r2 r1⟩
theorem Bgt:∀{D:List Dir} {s s':St} {ps:List Prop},At Z a R s→adj E D s=some (s',ps)→(∀p∈ps,p)→At Z a R s'
 | [],s,s',ps,h,he,_=>by cases he;exact h
 |d::r,s,s',ps,h,he,hp=>by
  unfold adj at he
  split at he<;>first|(cases he;done)|skip
  rename_i s1 ps1 h1
  split at he<;>first|(cases he;done)|skip
  rename_i s2 ps2 h2
  cases he
  exact Bgt (Bvs h h1 fun p hm=>hp p (List.mem_append.2 (.inl hm))) h2 fun p hm=>hp p (List.mem_append.2 (.inr hm))
theorem Bls:∀{D:List Dir} {s s':St} {ps:List Prop},adj E D s=some (s',ps)→Sub s s'
 | [],s,s',ps,he=>by cases he;exact Sub.refl _
 | d::r,s,s',ps,he=>by
  unfold adj at he
  split at he<;>first|(cases he;done)|skip
  rename_i s1 ps1 h1
  split at he<;>first|(cases he;done)|skip
  rename_i s2 ps2 h2
  cases he
  refine Sub.trans ?_ (Bls h2)
  cases d with
  |frz i=>exact⟨(Ab7 h1).1,(Ab7 h1).2⟩
  |nil u t c=>
   unfold Aez at h1
   simp only at h1
   split at h1<;>first|(cases h1;done)|skip
   replace h1:=BH h1
   cases h1
   exact⟨rfl,[_],rfl⟩
  |nilD u t c=>
   unfold Aez at h1
   simp only at h1
   split at h1<;>first|(cases h1;done)|skip
   replace h1:=BH h1
   cases h1
   exact⟨rfl,[_],rfl⟩
  |nilB b j t c=>
   unfold Aez at h1
   simp only at h1
   split at h1<;>first|(cases h1;done)|skip
   split at h1<;>first|(cases h1;done)|skip
   replace h1:=BH (BH h1)
   cases h1
   exact⟨rfl,[_,_],rfl⟩
  |nilF u c=>
   unfold Aez at h1
   simp only at h1
   split at h1<;>first|(cases h1;done)|skip
   replace h1:=BH h1
   cases h1
   exact⟨rfl,[],rfl⟩
  |nilFB b j c=>
   unfold Aez at h1
   simp only at h1
   split at h1<;>first|(cases h1;done)|skip
   split at h1<;>first|(cases h1;done)|skip
   replace h1:=BH h1
   cases h1
   exact⟨rfl,[_],rfl⟩
  |ty i c=>
   unfold Aez at h1
   simp only at h1
   split at h1<;>first|(cases h1;done)|skip
   split at h1<;>first|(cases h1;done)|skip
   cases h1
   exact⟨rfl,[_],rfl⟩
end
def okL (nb nx1:Nat):Iq→Bool
 | []=>true
 |(k,j)::r=>Nat.blt j nx1&&((bif Nat.blt j nb then Nat.beq k j else true)&&(isNone (fwd r k)&&(isNone (bck r j)&&okL nb nx1 r)))
theorem A6u {nb nx1:Nat}:∀{L:Iq} {i j:Nat},okL nb nx1 L=true→fwd L i=some j→bck L j=some i∧j <nx1∧(j <nb→i=j)
 | [],i,j,_,h=>by cases h
 | (k,m)::r,i,j,h0,h=>by
  unfold okL at h0
  simp only[Bool.and_eq_true] at h0
  obtain⟨a1,a2,a3,a4,a5⟩:=h0
  unfold fwd at h
  cases hb:Nat.beq k i with
  | true=>
   rw[hb] at h
   cases h
   obtain rfl:=Nat.eq_of_beq_eq_true hb
   refine⟨?_,Nat.le_of_ble_eq_true a1,fun hlt=>?_⟩
   ·unfold bck
    rw[M5]
    rfl
   ·rw[show Nat.blt m nb=true from Nat.ble_eq_true_of_le hlt] at a2
    exact Nat.eq_of_beq_eq_true a2
  | false=>
   rw[hb] at h
   obtain⟨h1,h2⟩:=A6u a5 h
   refine⟨?_,h2⟩
   unfold bck
   cases hm:Nat.beq m j with
   |true=>
    obtain rfl:=Nat.eq_of_beq_eq_true hm
    rw[Ach.1 a4] at h1
    cases h1
   |false=>exact h1
def Aq3 (nb:Nat) (L:Iq) (j:Nat):Nat:=bif Nat.blt j nb then j else match bck L j with
 |some k=>k
 |none=>0
def nm3 (N:Nm) (nb:Nat) (L:Iq):Nm:=⟨fun j=>N.b (Aq3 nb L j),fun j=>N.q (Aq3 nb L j)⟩
theorem Bsh {nb nx1:Nat} {L:Iq} (h0:okL nb nx1 L=true) {i j:Nat} (h:fwd L i=some j):Aq3 nb L j=i:=by
 obtain⟨h1,_,h3⟩:=A6u h0 h
 unfold Aq3
 cases hb:Nat.blt j nb with
 |true=>exact(h3 (Nat.le_of_ble_eq_true hb)).symm
 |false=>rw[h1];rfl
theorem TZ {nb:Nat} {L:Iq} {j:Nat} (h:j <nb):Aq3 nb L j=j:=by
 unfold Aq3
 rw[show Nat.blt j nb=true from Nat.ble_eq_true_of_le h]
 rfl
theorem pk3 {N:Nm} {nb n nx1:Nat} {L:Iq} (h0:okL nb nx1 L=true):Pk (fwd L) N n (nm3 N nb L) nx1:=fun i j _ hj=>by
 have h1:=Bsh h0 hj
 exact⟨(A6u h0 hj).2.1,by show N.b (Aq3 nb L j)=_;rw[h1],by show N.q (Aq3 nb L j)=_;rw[h1]⟩
def getD (u:Nat) (t:HV):A:=match D6 u t with
 |some x=>x
 |none=> .dead
def Bmv (L:Iq) (t:HV):List Nat→HV
 | []=>[]
 |u::r=>(u,(getD u t).pk (fwd L))::Bmv L t r
def Aae (L:Iq) (o:Objs):List Nat→Objs
 | []=>[]
 | i::r=>match fwd L i with
  |some j=>(j,match Ao i o with
   |some ob=>some (ob.pk (fwd L))
   |none=>none)::Aae L o r
  |none=>Aae L o r
def Btj (nx1:Nat) (L:Iq) (us os:List Nat) (s:St):St:=⟨s.n,nx1,Bmv L s.t us,Aae L s.o os⟩
section
variable {Z:Base} {F:Nat→Prop} {N N':Nm} {nx nx':Nat} {s:St} {a:Act} {R:World} {tm:Nat→Value} {ρ:Nat→Option Nat}
theorem HS.pk (st:Pk ρ N nx N' nx'):∀{x:A} {y:Value},HS F N nx R tm x y→HS F N' nx' R tm (x.pk ρ) y
 | .opt u b x,y,h=>by
  unfold A.pk
  simp only[HS] at h⊢
  exact⟨fun hb=>HS.pk st (h.1 hb),h.2⟩
 | .v _,_,h=>(Ab (by unfold A.pk;rfl)).2 (((Ab rfl).1 h).pk st)
 | .sl _ _,_,h=>(Ab (by unfold A.pk;rfl)).2 (((Ab rfl).1 h).pk st)
 | .ref _,_,h=>(Ab (by unfold A.pk;rfl)).2 (((Ab rfl).1 h).pk st)
 | .nl,_,h=>(Ab (by unfold A.pk;rfl)).2 (((Ab rfl).1 h).pk st)
 | .it _ _,_,h=>(Ab (by unfold A.pk;rfl)).2 (((Ab rfl).1 h).pk st)
 | .fn _ _ _,_,h=>(Ab (by unfold A.pk;rfl)).2 (((Ab rfl).1 h).pk st)
 | .agg _,_,h=>(Ab (by unfold A.pk;rfl)).2 (((Ab rfl).1 h).pk st)
 | .tup _,_,h=>(Ab (by unfold A.pk;rfl)).2 (((Ab rfl).1 h).pk st)
 | .dead,_,h=>(Ab (by unfold A.pk;rfl)).2 (((Ab rfl).1 h).pk st)
 | .own _ _,_,h=>(Ab (((Ab rfl).1 h).pk st).isPlain).2 (((Ab rfl).1 h).pk st)
 | .ownx _ _ _ _,_,h=>(Ab (((Ab rfl).1 h).pk st).isPlain).2 (((Ab rfl).1 h).pk st)
 | .sq _,_,h=>(Ab (((Ab rfl).1 h).pk st).isPlain).2 (((Ab rfl).1 h).pk st)
 | .dq _,_,h=>(Ab (((Ab rfl).1 h).pk st).isPlain).2 (((Ab rfl).1 h).pk st)
 | .iv _ _,_,h=>(Ab (((Ab rfl).1 h).pk st).isPlain).2 (((Ab rfl).1 h).pk st)
 | .de _ _ _ _,_,h=>(Ab (((Ab rfl).1 h).pk st).isPlain).2 (((Ab rfl).1 h).pk st)
 | .ie _ _ _ _ _,_,h=>(Ab (((Ab rfl).1 h).pk st).isPlain).2 (((Ab rfl).1 h).pk st)
 | .vw _ _ _ _ _,_,h=>(Ab (((Ab rfl).1 h).pk st).isPlain).2 (((Ab rfl).1 h).pk st)
 | .el _ _ _ _,_,h=>(Ab (((Ab rfl).1 h).pk st).isPlain).2 (((Ab rfl).1 h).pk st)
 | .mp _,_,h=>(Ab (((Ab rfl).1 h).pk st).isPlain).2 (((Ab rfl).1 h).pk st)
theorem Av3 {L:Iq} {t:HV} {u:Nat} {x:A}:∀{us:List Nat},D6 u (Bmv L t us)=some x→x=(getD u t).pk (fwd L)
 | [],h=>by cases h
 |v::r,h=>by
  have h':(bif Nat.beq v u then some ((getD v t).pk (fwd L)) else D6 u (Bmv L t r))=some x:=h
  cases hb:Nat.beq v u with
  |true=>rw[hb] at h';obtain rfl:=Nat.eq_of_beq_eq_true hb;cases h';rfl
  |false=>rw[hb] at h';exact Av3 h'
theorem QG {L:Iq} {o:Objs} {j:Nat} {ob':Ob}:∀{os:List Nat},Ao j (Aae L o os)=some ob'→∃i ob,i∈os∧fwd L i=some j∧Ao i o=some ob∧ob'=ob.pk (fwd L)
 | [],h=>by cases h
 | i::r,h=>by
  unfold Aae at h
  cases hf:fwd L i with
  |none=>
   rw[hf] at h
   obtain⟨i',ob,h1,h2⟩:=QG h
   exact⟨i',ob,List.mem_cons_of_mem _ h1,h2⟩
  | some m=>
   rw[hf] at h
   have h':(bif Nat.beq m j then(match Ao i o with|some ob=>some (ob.pk (fwd L))|none=>none) else Ao j (Aae L o r))=some ob':=h
   cases hb:Nat.beq m j with
   |true=>
    rw[hb] at h'
    obtain rfl:=Nat.eq_of_beq_eq_true hb
    simp only[cond_true] at h'
    split at h'<;>first|(cases h';done)|skip
    rename_i ob hob
    cases h'
    exact⟨i,ob,List.mem_cons_self ..,hf,hob,rfl⟩
   |false=>
    rw[hb] at h'
    obtain⟨i',ob,h1,h2⟩:=QG h'
    exact⟨i',ob,List.mem_cons_of_mem _ h1,h2⟩
theorem Bl5 (h:Rel Z F N s a R) (u:Nat):HS F N s.nx R (Bl a) (getD u s.t) (Bl a u):=by
 unfold getD
 split
 ·rename_i x hx;exact h.slots u x hx
 ·exact(Ab rfl).2 (.dead _)
theorem Rel.pick (h:Rel Z F N s a R) {nb nx1:Nat} {L:Iq} (h0:okL nb nx1 L=true) (hz:Z.nx≤nb) (hz1:Z.nx≤nx1) (us os:List Nat):Rel Z F (nm3 N nb L) (Btj nx1 L us os s) a R:=by
 obtain⟨q1,q2⟩:=h.hp.pk (o':=Aae L s.o os) (pk3 (N:=N) (n:=s.nx) h0) fun j ob' hj=>by
  obtain⟨i,ob,_,h1,h2⟩:=QG hj
  exact⟨i,ob,h1,h2⟩
 refine⟨h.defers,h.size,fun u x hu=>?_,q1,⟨hz1,fun i hi=>?_,fun i hi=>?_,h.st.f,h.st.fnew,fun g hg=>h.st.foot g (q2 g hg),h.st.os,h.st.tape,h.st.output,h.st.size,h.st.keep⟩,h.tm⟩
 ·rw[Av3 hu]
  exact(Bl5 h u).pk (pk3 h0)
 ·show N.b (Aq3 nb L i)=_
  rw[TZ (by omega)]
  exact h.st.b i hi
 ·show N.q (Aq3 nb L i)=_
  rw[TZ (by omega)]
  exact h.st.q i hi
end
def Bmt (t:HV):List Nat→HV
 | []=>[]
 |u::r=>(u,getD u t)::Bmt t r
def Aof (o:Objs):List Nat→Objs
 | []=>[]
 |i::r=>(i,Ao i o)::Aof o r
def Axi (us os:List Nat) (s:St):St:=⟨s.n,s.nx,Bmt s.t us,Aof s.o os⟩
def Ng (us os:List Nat):Bj→Bj
 | []=>[]
 |(t,c,s)::r=>(t,c,Axi us os s)::Ng us os r
structure De where
 nb:Nat
 nx1:Nat
 us:List Nat
 dirs:List Dir
 ren:Iq
 os:List Nat
 usO:List Nat
 osO:List Nat
def Bw (E:Env) (u:Nat) (b:Code) (S:De) (s:St):Option (List Prop×Bj×Cnd×St):=
 let r:=TE E u 0 b false s
 match r.nrm with
 |some s1=>match adj E S.dirs s1 with
  |some (s2,qs)=>some (r.ps++Wm (Bv4 (KL r.outs)) qs,Ng S.usO S.osO r.outs,KL r.outs,Btj S.nx1 S.ren S.us S.os s2)
  |none=>none
 |none=>none
section
variable {X:Type} (next:X→X) (goes:X→Cnd)
def A9:Nat→X→X
 |0,x=>x
 |n+1,x=>bif Bm (goes x) then A9 n (next x) else x
def AD (ps:X→List Prop):Nat→X→Prop
 |0,x=>(∀p∈ps x,p)∧Bm (goes x)=false
 |n+1,x=>(∀p∈ps x,p)∧(Bm (goes x)=true→AD ps n (next x))
end
section
variable {Z:Base} {F:Nat→Prop} {N:Nm} {s:St} {a:Act} {R:World}
theorem Av2 {t:HV} {u:Nat} {x:A}:∀{us:List Nat},D6 u (Bmt t us)=some x→x=getD u t
 | [],h=>by cases h
 |v::r,h=>by
  have h':(bif Nat.beq v u then some (getD v t) else D6 u (Bmt t r))=some x:=h
  cases hb:Nat.beq v u with
  |true=>rw[hb] at h';obtain rfl:=Nat.eq_of_beq_eq_true hb;cases h';rfl
  |false=>rw[hb] at h';exact Av2 h'
theorem Nc {o:Objs} {i:Nat} {ob:Ob}:∀{os:List Nat},Ao i (Aof o os)=some ob→Ao i o=some ob∧i∈os
 | [],h=>by cases h
 |k::r,h=>by
  have h':(bif Nat.beq k i then Ao k o else Ao i (Aof o r))=some ob:=h
  cases hb:Nat.beq k i with
  |true=>rw[hb] at h';obtain rfl:=Nat.eq_of_beq_eq_true hb;exact⟨h',List.mem_cons_self ..⟩
  |false=>rw[hb] at h';exact⟨(Nc h').1,List.mem_cons_of_mem _ (Nc h').2⟩
theorem Rel.part (h:Rel Z F N s a R) (us os:List Nat):Rel Z F N (Axi us os s) a R:=by
 have ho:∀i ob,Ao i (Aof s.o os)=some ob→Ao i s.o=some ob:=fun i ob hi=>(Nc hi).1
 refine⟨h.defers,h.size,fun u x hu=>?_,h.hp.weak ho,h.st.trans (Step.weak ho),h.tm⟩
 rw[Av2 hu]
 exact Bl5 h u
theorem Sy {us os:List Nat} {t:Tag}:∀{o:Bj},AL t (Ng us os o)=match AL t o with|some (c,s)=>some (c,Axi us os s)|none=>none
 | []=>rfl
 |(k,c,s)::r=>by
  show(bif Fs k t then some (c,Axi us os s) else AL t (Ng us os r))=match(bif Fs k t then some (c,s) else AL t r) with|some (c,s)=>some (c,Axi us os s)|none=>none
  cases Fs k t with
  |true=>rfl
  |false=>exact Sy
theorem Bws {E:Env} (ok:VQ E) {u:Nat} {b:Code} {S:De} {X:Type} {T:X→St} {next:X→X} {goes:X→Cnd} {psA ps:X→List Prop} {outs:X→Bj} (hS:okL S.nb S.nx1 S.ren=true) (hnb:S.nb≤S.nx1)
  (hr:∀x,Bw E u b S (T x)=some (psA x,outs x,goes x,T (next x))) (hA:∀x,(∀p∈ps x,p)→∀p∈psA x,p) {Z:Base} (hz:Z.nx≤S.nb) (hW:∀u,Qc u (TF b)=true→Z.W u) {Q:Exit→Act→World→Prop}:∀(n:Nat) (x:X) (a:Act) (R:World),At Z a R (T x)→AD next goes ps n x→
   (∀e y a' R',Oc ⟨[],outs (A9 next goes n x),none⟩ e y→At Z a' R' y→Q e a' R')→Code.rounds E.P b Q (n+1) a R:=by
 intro n
 induction n with
 | zero=>
  intro x a R h hn hk
  obtain⟨h1,h2⟩:=hn
  rw[rounds_succ]
  have hx:=hr x
  unfold Bw at hx
  simp only at hx
  split at hx<;>first|(cases hx;done)|skip
  rename_i s1 hs1
  split at hx<;>first|(cases hx;done)|skip
  rename_i s2 qs hs2
  injection hx with hx
  injection hx with e1 hx
  injection hx with e2 hx
  injection hx with e3 e4
  replace h1:=hA x h1
  rw[←e1] at h1
  refine Ja ok 0 b false Z (T x) a R _ h hW (L9 h1).1 fun e y a' R' ho hy=>?_
  have hwf:=FM ok (u:=u) 0 b false (T x)
  rcases ho with⟨t,cc,rfl,g1,g2,g3⟩|⟨rfl,g1,g2⟩
  ·obtain⟨F,N,hy⟩:=hy
   have:Oc ⟨[],outs x,none⟩ (Tag.ex t) (Axi S.usO S.osO y):=by
    rw[←e2]
    refine .inl ⟨t,cc,rfl,by show AL t (Ng _ _ _)=_;rw[Sy,g1],g2,fun t' c' s' hne hg=>?_⟩
    have hg':AL t' (Ng S.usO S.osO (TE E u 0 b false (T x)).outs)=some (c',s'):=hg
    rw[Sy] at hg'
    cases h5:AL t' (TE E u 0 b false (T x)).outs with
    |none=>rw[h5] at hg';cases hg'
    |some z=>obtain⟨c1,z⟩:=z;rw[h5] at hg';cases hg';exact g3 t' _ z hne h5
   have:=hk _ _ a' R' this ⟨F,N,hy.part _ _⟩
   cases t<;>exact this
  ·exfalso
   have:=Qd hwf.once g2
   rw[e3,h2] at this
   cases this
 | succ n ih=>
  intro x a R h hn hk
  obtain⟨h1,h2⟩:=hn
  rw[rounds_succ]
  have hx:=hr x
  unfold Bw at hx
  simp only at hx
  split at hx<;>first|(cases hx;done)|skip
  rename_i s1 hs1
  split at hx<;>first|(cases hx;done)|skip
  rename_i s2 qs hs2
  injection hx with hx
  injection hx with e1 hx
  injection hx with e2 hx
  injection hx with e3 e4
  replace h1:=hA x h1
  rw[←e1] at h1
  refine Ja ok 0 b false Z (T x) a R _ h hW (L9 h1).1 fun e y a' R' ho hy=>?_
  have hwf:=FM ok (u:=u) 0 b false (T x)
  rcases ho with⟨t,cc,rfl,g1,g2,g3⟩|⟨rfl,g1,g2⟩
  ·obtain⟨F,N,hy⟩:=hy
   have hc:Bm (goes x)=false:=by rw[←e3];exact Ak7 g1 g2
   have hi:A9 next goes (n+1) x=x:=by unfold A9;rw[hc];rfl
   rw[hi] at hk
   have:Oc ⟨[],outs x,none⟩ (Tag.ex t) (Axi S.usO S.osO y):=by
    rw[←e2]
    refine .inl ⟨t,cc,rfl,by show AL t (Ng _ _ _)=_;rw[Sy,g1],g2,fun t' c' s' hne hg=>?_⟩
    have hg':AL t' (Ng S.usO S.osO (TE E u 0 b false (T x)).outs)=some (c',s'):=hg
    rw[Sy] at hg'
    cases h5:AL t' (TE E u 0 b false (T x)).outs with
    |none=>rw[h5] at hg';cases hg'
    |some z=>obtain⟨c1,z⟩:=z;rw[h5] at hg';cases hg';exact g3 t' _ z hne h5
   have:=hk _ _ a' R' this ⟨F,N,hy.part _ _⟩
   cases t<;>exact this
  ·have hc:Bm (goes x)=true:=by rw[←e3];exact Qd hwf.once g2
   have hi:A9 next goes (n+1) x=A9 next goes n (next x):=by
    show(bif Bm (goes x) then _ else _)=_
    rw[hc];rfl
   rw[hi] at hk
   rw[hs1] at g1
   obtain rfl:=Option.some.inj g1
   have hq:∀p∈qs,p:=Na (L9 h1).2 (Blz (by rw[e3];exact hc))
   obtain⟨F,N,h3⟩:=Bgt hy hs2 hq
   have h4:=h3.pick hS hz (Nat.le_trans hz hnb) S.us S.os
   rw[e4] at h4
   exact ih (next x) a' R' ⟨F,_,h4⟩ (h2 hc) hk
end
def Lb (l:Nat):Code→Option Code
 | .seq a b=>match Lb l a with
  |some c=>some c
  |none=>Lb l b
 | .cond _ a b=>match Lb l a with
  |some c=>some c
  |none=>Lb l b
 | .block id b=>match Nat.beq id l,b with
  |true,.loop c=>some c
  |_,_=>Lb l b
 | .loop b=>Lb l b
 | .scope b=>Lb l b
 | .rangeFunc _ _ _ b=>Lb l b
 |_=>none
def Ae (P:Program) (f:FuncId) (l:Nat):Code:=match P.funcs[f]? with
 | some fn=>match fn.body with
  |some c=>match Lb l c with
   |some b=>b
   |none=> .skip
  |none=> .skip
 |none=> .skip
def DI (l0:Nat) (g:St→Option (Code×List Prop×Bj)) (L:A52):A52:=fun l s=>bif Nat.beq l l0 then g s else L l s
def Afh:List Nat→HV
 | []=>[]
 |u::r=>(u,.dead)::Afh r
def Awa:List Nat→Objs
 | []=>[]
 |i::r=>(i,none)::Awa r
def A3u (W os:List Nat) (sA st:St):St:=⟨sA.n,st.nx,st.t++(Afh W++Wx W sA.t),st.o++(Awa os++sA.o)⟩
def M8 (W os:List Nat) (sA:St):Bj→Bj
 | []=>[]
 |(t,c,s)::r=>(t,c,A3u W os sA s)::M8 W os sA r
structure Dy where
 dirs:List Dir
 ren:Iq
 us:List Nat
 os:List Nat
def HG (E:Env) (b:Code) (S:De) (En:Dy) {X:Type} (unT:St→Option X) (fuel:X→Nat) (next:X→X) (goes:X→Cnd) (ps:X→List Prop) (outs:X→Bj) (s:St):Option (Code×List Prop×Bj):=
 match adj E En.dirs s with
 |some (sA,qs)=>bif Nat.beq sA.nx S.nb then(bif okL S.nb S.nx1 En.ren then(match unT (Btj S.nx1 En.ren En.us En.os sA) with
  |some x=>some (b,qs++[AD next goes ps (fuel x) x],M8 (TF b) En.os sA (outs (A9 next goes (fuel x) x)))
  |none=>none) else none) else none
 |none=>none
section
theorem Bl9 {u:Nat}:∀{W:List Nat},Qc u W=true→D6 u (Afh W)=some .dead
 | [],h=>by cases h
 | k::r,h=>by
  show(bif Nat.beq k u then some A.dead else D6 u (Afh r))=_
  cases hb:Nat.beq k u with
  |true=>rfl
  |false=>
   have h':(bif Nat.beq k u then true else Qc u r)=true:=h
   rw[hb] at h'
   exact Bl9 h'
theorem Av1 {u:Nat} {x:A}:∀{W:List Nat},D6 u (Afh W)=some x→x=.dead
 | [],h=>by cases h
 |k::r,h=>by
  have h':(bif Nat.beq k u then some A.dead else D6 u (Afh r))=some x:=h
  cases hb:Nat.beq k u with
  |true=>rw[hb] at h';cases h';rfl
  |false=>rw[hb] at h';exact Av1 h'
theorem An3 {i:Nat}:∀{os:List Nat},Ao i (Awa os)=none
 | []=>rfl
 |k::r=>by
  show(bif Nat.beq k i then none else Ao i (Awa r))=none
  cases Nat.beq k i with
  |true=>rfl
  |false=>exact An3
theorem Ans {i:Nat}:∀{os:List Nat},i∈os→i∈Kh (Awa os)
 | [],h=>by cases h
 |k::r,h=>by
  rcases List.mem_cons.1 h with rfl|h
  ·exact List.mem_cons_self ..
  ·exact List.mem_cons_of_mem _ (Ans h)
theorem Sv {W os:List Nat} {sA:St} {t:Tag}:∀{o:Bj},AL t (M8 W os sA o)=match AL t o with|some (c,s)=>some (c,A3u W os sA s)|none=>none
 | []=>rfl
 |(k,c,s)::r=>by
  show(bif Fs k t then some (c,A3u W os sA s) else AL t (M8 W os sA r))=match(bif Fs k t then some (c,s) else AL t r) with|some (c,s)=>some (c,A3u W os sA s)|none=>none
  cases Fs k t with
  |true=>rfl
  |false=>exact Sv
theorem A4k {W os:List Nat} {sA:St}:∀{o:Bj},OK o→OK (M8 W os sA o)
 | [],_=>trivial
 |(k,c,s)::r,⟨h1,h2⟩=>⟨by rw[Sv,h1],A4k h2⟩
theorem Bv5 {Z:Base} {F F':Nat→Prop} {N N':Nm} {sA st:St} {a a':Act} {R R':World} {nb nx1:Nat} {L:Iq} {os W:List Nat} (h:Rel Z F N sA a R) (hn:st.n=sA.n) (hW:∀u,Qc u W=true→Z.W u) (hnb:sA.nx=nb) (hL:okL nb nx1 L=true)
  (h':Rel ⟨F,nm3 N nb L,nb,Aae L sA.o os,R,Bl a,fun u=>Qc u W=true⟩ F' N' st a' R'):Rel Z F' N' (A3u W os sA st) a' R':=by
 subst hnb
 let o1:=Aof sA.o os
 have ho1:∀i ob,Ao i o1=some ob→Ao i sA.o=some ob:=fun i ob hi=>(Nc hi).1
 have hfoot:∀g,Foot (nm3 N sA.nx L) (Aae L sA.o os) g→Foot N o1 g:=fun g ⟨j,ob',hj,hg⟩=>by
  obtain⟨i,ob,hi,h1,h2,rfl⟩:=QG hj
  have hlt:=(h.hp.ob i ob h2).1
  refine⟨i,ob,?_,(Afp (pk3 (N:=N) (n:=sA.nx) hL) hlt h1).1 hg⟩
  have:∀{l:List Nat},i∈l→Ao i (Aof sA.o l)=Ao i sA.o:=fun {l}=>by
   induction l with
   |nil=>intro hm;cases hm
   | cons k r ih=>
    intro hm
    show(bif Nat.beq k i then Ao k sA.o else Ao i (Aof sA.o r))=_
    cases hb:Nat.beq k i with
    |true=>rw[Nat.eq_of_beq_eq_true hb];rfl
    |false=>
     rcases List.mem_cons.1 hm with rfl|hm
     ·simp at hb
     ·exact ih hm
  rw[this hi]
  exact h2
 have st1:Step F N sA.nx o1 R F' N' st.nx st.o R':=⟨h'.st.le,fun i hi=>by
   have:=h'.st.b i hi
   rw[this]
   show N.b (Aq3 sA.nx L i)=_
   rw[TZ hi],fun i hi=>by
   have:=h'.st.q i hi
   rw[this]
   show N.q (Aq3 sA.nx L i)=_
   rw[TZ hi],h'.st.f,fun g hg=>by
   rcases h'.st.fnew g hg with h1|h1|h1
   ·exact .inl h1
   ·exact .inr (.inl (hfoot g h1))
   ·exact .inr (.inr h1),fun g hg=>by
   rcases h'.st.foot g hg with h1|h1
   ·exact .inl (hfoot g h1)
   ·exact .inr h1,h'.st.os,h'.st.tape,h'.st.output,h'.st.size,fun g hg hn=>h'.st.keep g hg fun hf=>hn (hfoot g hf)⟩
 obtain⟨q1,q2⟩:=h.hp.frame (o':=st.o++(Awa os++sA.o)) ho1 st1 h'.hp fun i ob hi=>by
  rcases Nd hi with⟨_,h1⟩|⟨_,h1⟩
  ·exact .inl h1
  ·rcases Nd h1 with⟨_,h2⟩|⟨h2,h3⟩
   ·rw[An3] at h2;cases h2
   ·refine .inr ⟨h3,?_⟩
    cases h4:Ao i o1 with
    |none=>rfl
    |some ob2=>exact absurd (Ans (Nc h4).2) h2
 have htm:∀u,Qc u W=false→Bl a' u=Bl a u:=fun u hu=>h'.tm u fun hh=>by
  have hh':Qc u W=true:=hh
  rw[hu] at hh';cases hh'
 refine⟨h'.defers,h'.size.trans hn,fun u x hu=>?_,q1,h.st.trans q2,fun u hu=>?_⟩
 ·have hu':D6 u (st.t++(Afh W++Wx W sA.t))=some x:=hu
  rw[QH] at hu'
  cases h1:D6 u st.t with
  |some y=>rw[h1] at hu';cases hu';exact h'.slots u x h1
  | none=>
   rw[h1] at hu'
   have hu2:D6 u (Afh W++Wx W sA.t)=some x:=hu'
   rw[QH] at hu2
   cases h2:D6 u (Afh W) with
   |some y=>rw[h2] at hu2;cases hu2;rw[Av1 h2];exact(Ab rfl).2 (.dead _)
   | none=>
    rw[h2] at hu2
    have hu3:D6 u (Wx W sA.t)=some x:=hu2
    have hw:Qc u W=false:=by
     cases hw:Qc u W with
     |false=>rfl
     |true=>rw[Bl9 hw] at h2;cases h2
    rcases T9 hu3 with rfl|⟨k1,k2⟩
    ·exact(Ab rfl).2 (.dead _)
    ·rw[htm u hw]
     exact HS.congrW htm k2 ((h.slots u x k1).step (q2.ext h.hp))
 ·rw[h'.tm u fun hw=>hu (hW u hw)]
  exact h.tm u hu
theorem Bxm {E:Env} (ok:VQ E) {u:Nat} {b:Code} {S:De} {En:Dy} {X:Type} {T:X→St} {unT:St→Option X} {fuel:X→Nat} {next:X→X} {goes:X→Cnd} {psA ps:X→List Prop} {outs:X→Bj} (hS:okL S.nb S.nx1 S.ren=true) (hnb:S.nb≤S.nx1)
  (hr:∀x,Bw E u b S (T x)=some (psA x,outs x,goes x,T (next x))) (hA:∀x,(∀p∈ps x,p)→∀p∈psA x,p) (hu:∀s x,unT s=some x→s=T x)
  (hw:∀x,OK (outs x)∧∀t c y,AL t (outs x)=some (c,y)→y.n=(T x).n) (hTn:∀x y,(T x).n=(T y).n) {s:St} {b0:Code} {qs:List Prop} {os:Bj} (he:HG E b S En unT fuel next goes ps outs s=some (b0,qs,os)):
  Wf s ⟨qs,os,none⟩∧Bt E b0 s qs os:=by
 unfold HG at he
 split at he<;>first|(cases he;done)|skip
 rename_i sA ps1 hAd
 cases hq1:Nat.beq sA.nx S.nb with
 |false=>rw[hq1] at he;cases he
 | true=>
  cases hq2:okL S.nb S.nx1 En.ren with
  |false=>rw[hq1,hq2] at he;cases he
  | true=>
   rw[hq1,hq2] at he
   simp only[cond_true] at he
   split at he<;>first|(cases he;done)|skip
   rename_i x hx
   cases he
   have hnx:=Nat.eq_of_beq_eq_true hq1
   have hT:=hu _ _ hx
   have hsub:=Bls hAd
   have hnT:∀y,(T y).n=sA.n:=fun y=>by rw[hTn y x,←hT];rfl
   refine⟨⟨fun t c y hy=>?_,fun y hy=>(by cases hy),A4k (hw _).1⟩,?_⟩
   ·have hy':AL t (M8 (TF b) En.os sA (outs (A9 next goes (fuel x) x)))=some (c,y):=hy
    rw[Sv] at hy'
    split at hy'<;>first|(cases hy';done)|skip
    cases hy'
    obtain⟨d,hd⟩:=hsub.seq
    exact⟨hsub.n,by show ∃d,_++(Awa En.os++sA.o)=d++s.o;rw[hd];exact⟨_,by rw[←List.append_assoc,←List.append_assoc]⟩⟩
   ·intro Z F N a R Q h hW hp hk
    have hp1:∀p∈ps1,p:=fun p hm=>hp p (List.mem_append.2 (.inl hm))
    have hneed:AD next goes ps (fuel x) x:=hp _ (List.mem_append.2 (.inr (List.mem_singleton.2 rfl)))
    obtain⟨F1,N1,h1⟩:=Bgt ⟨F,N,h⟩ hAd hp1
    have hpick:=(h1.start (TF b)).pick (L:=En.ren) hq2 (by show sA.nx≤S.nb;omega) (by show sA.nx≤S.nx1;omega) En.us En.os
    have hrel:Rel ⟨F1,nm3 N1 S.nb En.ren,S.nb,Aae En.ren sA.o En.os,R,Bl a,fun u=>Qc u (TF b)=true⟩ F1 (nm3 N1 S.nb En.ren) (T x) a R:=by
     rw[←hT]
     exact⟨hpick.defers,hpick.size,hpick.slots,hpick.hp,⟨hnb,fun _ _=>rfl,fun _ _=>rfl,fun _ h=>h,fun _ h=> .inl h,fun _ h=> .inl h,rfl,rfl,rfl,Nat.le_refl _,fun _ _ _=>rfl⟩,fun _ _=>rfl⟩
    refine wp_loop_rounds (fuel x+1) (Bws ok (u:=u) (b:=b) hS hnb hr hA (Nat.le_refl _) (fun u hu=>hu) (fuel x) x a R ⟨F1,_,hrel⟩ hneed fun e y a' R' ho ⟨F2,N2,hy⟩=>?_)
    rcases ho with⟨t,c,rfl,g1,g2,g3⟩|⟨rfl,g1,g2⟩
    ·have g1':AL t (outs (A9 next goes (fuel x) x))=some (c,y):=g1
     refine hk _ (A3u (TF b) En.os sA y) F2 N2 a' R' (.inl ⟨t,c,rfl,by show AL t (M8 _ _ _ _)=_;rw[Sv,g1'],g2,fun t' c' s' hne hg=>?_⟩) (Bv5 h1 (by rw[(hw _).2 t c y g1',hnT]) hW hnx hq2 hy)
     have hg':AL t' (M8 (TF b) En.os sA (outs (A9 next goes (fuel x) x)))=some (c',s'):=hg
     rw[Sv] at hg'
     split at hg'<;>first|(cases hg';done)|skip
     rename_i c1 z hz
     cases hg'
     exact g3 t' _ z hne hz
    ·cases g1
end
end Go.Proofs.Yteebobbhhgmeiaa
