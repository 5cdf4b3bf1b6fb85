/- made by a program (rowgen.py): WireTurned: for every input the law returns true, and each argument reads behind the call as it read before. -/
import Derived.Test.YtifkbgkbajncjaaDoorKWtc

namespace Go.Proofs.YtifkbgkbajncjaaDoor
open Go.RowKit
def T6 (_id:Nat):Prop:=False
def MW:Code→List Nat
 | .region _ ops _=>Na ops.toList
 | .seq a b=>MW a++MW b
 | .cond _ a b=>MW a++MW b
 | .block _ b=>MW b
 | .loop b=>MW b
 | .scope b=>MW b
 | .rangeFunc _ ps a b=>ps.toList++MW a++MW b
 |_=>[]
theorem Tp {u:Nat}:∀{A B:List Nat},LF u (A++B)=(LF u A||LF u B)
 | [],B=>rfl
 |k::r,B=>by
  show(bif Nat.beq k u then true else LF u (r++B))=((bif Nat.beq k u then true else LF u r)||LF u B)
  rw[Tp]
  cases Nat.beq k u<;>rfl
abbrev Tag:=Option Nat
abbrev Bh:=List (Tag×Cnd×St)
def Et:Tag→Tag→Bool
 |none,none=>true
 |some i,some j=>Nat.beq i j
 |_,_=>false
theorem OX {x y:Tag} (h:Et x y=true):x=y:=by
 cases x<;>cases y<;>first|rfl|(cases h;done)|skip
 rw[Nat.eq_of_beq_eq_true h]
theorem NW (x:Tag):Et x x=true:=by cases x<;>simp[Et]
theorem RN {x y:Tag} (h:x≠y):Et x y=false:=by
 cases hb:Et x y with
 |true=>exact absurd (OX hb) h
 |false=>rfl
def AF (t:Tag):Bh→Option (Cnd×St)
 | []=>none
 |(k,c,s)::r=>bif Et k t then some (c,s) else AF t r
def GB (t:Tag):Bh→Cnd
 | []=>none
 |(k,c,_)::r=>bif Et k t then GB t r else IU (Ae8 c) (GB t r)
def H2:Bh→Cnd
 | []=>none
 |(_,c,_)::r=>IU (Ae8 c) (H2 r)
structure V0 where
 ps:List Prop
 outs:Bh
 nrm:Option St
def S3 (f:Tag→Cnd→St→Option (Cnd×St)→Cnd×St) (B:Bh):Bh→Bh
 | []=>[]
 |(t,c,s)::r=>(t,f t c s (AF t B))::S3 f B r
def Ig (f:Cnd→Cnd) (A:Bh):Bh→Bh
 | []=>[]
 |(t,d,s)::r=>match AF t A with
  |some _=>Ig f A r
  |none=>(t,f d,s)::Ig f A r
def Az4 (g:Bool) (W:List Nat) (s:St) (_t:Tag) (c:Cnd) (x:St):Option (Cnd×St)→Cnd×St
 |none=>(IU (some g) c,x)
 |some (d,y)=>(Az3 g c d,G6 g W s x y)
def Ag6 (g:Bool) (W:List Nat) (s:St):Option St→Option St→Option St
 |none,none=>none
 |some x,none=>some x
 |none,some y=>some y
 |some x,some y=>some (G6 g W s x y)
def Anz (g:Bool) (W:List Nat) (s:St) (A B:V0):V0:=
 ⟨P8 [g=true] A.ps++P8 [g=false] B.ps,S3 (Az4 g W s) B.outs A.outs++Ig (IU (some !g)) A.outs B.outs,Ag6 g W s A.nrm B.nrm⟩
def A41 (A:Bh) (W:List Nat) (s:St) (t:Tag) (c:Cnd) (x:St):Option (Cnd×St)→Cnd×St
 |none=>(c,x)
 |some (d,y)=>(orO c (IU (GB t A) d),G6 (A9 c) W s x y)
def Afq (W:List Nat) (s:St) (A B:V0):V0:=
 ⟨A.ps++P8 (A26 (H2 A.outs)) B.ps,S3 (A41 A.outs W s) B.outs A.outs++Ig (IU (H2 A.outs)) A.outs B.outs,B.nrm⟩
def Kl (t:Tag):Bh→Bh
 | []=>[]
 |(k,c,s)::r=>bif Et k t then Kl t r else(k,c,s)::Kl t r
def Mm (W:List Nat) (s:St) (id:Nat) (A:V0):V0:=match AF (some id) A.outs with
 |none=>A
 |some (c,x)=>⟨A.ps,Kl (some id) A.outs,match A.nrm with
  |none=>some x
  |some y=>some (G6 (A9 c) W s x y)⟩
def Xi (id:Nat):V0:=⟨[T6 id],[],none⟩
def Abp (W:List Nat) (f:St→V0):Nat→St→V0
 |0,_=>Xi 1000000
 |n+1,s=>match(f s).nrm with
  |none=>f s
  |some s1=>Afq W s (f s) (Abp W f n s1)
abbrev rfK:Nat:=1000000
def Az1:Code→Bool
 | .region _ _ _=>true
 |_=>false
def A74 (h:Bool) (u:Nat):Bool:=bif h then true else Nat.ble 1000 u
def MY (E:Env) (u:Nat):Nat→Code→Bool→St→V0
 |_,.skip,_,s=>⟨[],[],some s⟩
 |_,.region id ops draw,_,s=>match evR E ops.toList draw s with
  |some (s',ps)=>⟨ps,[],some s'⟩
  |none=>Xi id
 |_,.seq a b,h,s=>match(MY E u 0 a h s).nrm with
  |none=>MY E u 0 a h s
  |some s1=>Afq (MW a++MW b) s (MY E u 0 a h s) (MY E u 0 b (bif Az1 a then h else false) s1)
 | _,.cond c x y,h,s=>match s.raw [] c with
  | some (.bool g)=>match A74 h u with
   |true=>match g with
    |true=>MY E u 0 x false s
    |false=>MY E u 0 y false s
   |false=>Anz g (MW x++MW y) s (MY E u 0 x false s) (MY E u 0 y false s)
  |_=>Xi 1000001
 |_,.block id b,_,s=>Mm (MW b) s id (MY E u id b false s)
 |l,.loop b,_,s=>match(bif Nat.ble rfK l then none else E.L l s) with
  |some (b0,ps,outs)=>⟨(b=b0)::ps,outs,none⟩
  |none=>Abp (MW b) (MY E u 0 b true) u s
 |l,.rangeFunc g qs a b,_,s=>match E.L (rfK+l) s with
  |some (b0,ps,[(_,_,s1)])=>⟨(Code.rangeFunc g qs a b=b0)::ps,[],some s1⟩
  |_=>Xi 1000002
 |_,.exit id,_,s=>⟨[],[(some id,none,s)],none⟩
 |_,.ret,_,s=>⟨[],[(none,none,s)],none⟩
 |_,.scope b,_,s=>MY E u 0 b false s
 |_,.label _,_,s=>⟨[],[],some s⟩
 |_,_,_,_=>Xi 1000002
abbrev evC (E:Env) (u:Nat) (c:Code) (s:St):V0:=MY E u 0 c false s
def Tag.ex:Tag→Exit
 |none=> .ret
 |some i=> .exit i
def Apw (o:Bh):Prop:=∀t c s,AF t o=some (c,s)→A9 c=false
def A2f (t:Tag) (o:Bh):Prop:=∀t' c s,t'≠t→AF t' o=some (c,s)→A9 c=false
def Oc (r:V0) (e:Exit) (s:St):Prop:=
 (∃t c,e=Tag.ex t∧AF t r.outs=some (c,s)∧A9 c=true∧A2f t r.outs)∨(e=.normal∧r.nrm=some s∧Apw r.outs)
theorem P7 (t:Tag):∀(A B:Bh),AF t (A++B)=match AF t A with|some x=>some x|none=>AF t B
 | [],B=>rfl
 |(k,c,s)::r,B=>by
  show(bif Et k t then some (c,s) else AF t (r++B))=match(bif Et k t then some (c,s) else AF t r) with|some x=>some x|none=>AF t B
  cases Et k t with
  |true=>rfl
  |false=>exact P7 t r B
theorem OB (f:Tag→Cnd→St→Option (Cnd×St)→Cnd×St) (B:Bh) (t:Tag):∀(A:Bh),AF t (S3 f B A)=match AF t A with|some (c,s)=>some (f t c s (AF t B))|none=>none
 | []=>rfl
 |(k,c,s)::r=>by
  show(bif Et k t then some (f k c s (AF k B)) else AF t (S3 f B r))=match(bif Et k t then some (c,s) else AF t r) with|some (c,s)=>some (f t c s (AF t B))|none=>none
  cases h:Et k t with
  |true=>rw[OX h];rfl
  |false=>exact OB f B t r
theorem Tn (f:Cnd→Cnd) (A:Bh) (t:Tag) (hA:AF t A=none):∀(B:Bh),AF t (Ig f A B)=match AF t B with|some (d,s)=>some (f d,s)|none=>none
 | []=>rfl
 | (k,d,s)::r=>by
  show AF t (match AF k A with|some _=>Ig f A r|none=>(k,f d,s)::Ig f A r)=match(bif Et k t then some (d,s) else AF t r) with|some (d,s)=>some (f d,s)|none=>none
  cases h:Et k t with
  |true=>
   obtain rfl:=OX h
   rw[hA]
   show(bif Et k k then some (f d,s) else AF k (Ig f A r))=_
   rw[NW]
   rfl
  | false=>
   have ih:=Tn f A t hA r
   cases hk:AF k A with
   |some x=>exact ih
   |none=>
    show(bif Et k t then some (f d,s) else AF t (Ig f A r))=_
    rw[h]
    exact ih
theorem Ng (t:Tag) (f:Tag→Cnd→St→Option (Cnd×St)→Cnd×St) (h:Cnd→Cnd) (A B:Bh):
  AF t (S3 f B A++Ig h A B)=match AF t A with|some (c,s)=>some (f t c s (AF t B))|none=>match AF t B with|some (d,s)=>some (h d,s)|none=>none:=by
 rw[P7,OB]
 cases hA:AF t A with
 |some x=>rfl
 |none=>exact Tn h A t hA B
theorem Ahc:∀{o:Bh},(∀e∈o,A9 e.2.1=false)→A9 (H2 o)=true
 | [],_=>rfl
 |(k,c,s)::r,h=>by
  show A9 (IU (Ae8 c) (H2 r))=true
  rw[A8,Ur,h (k,c,s) (List.mem_cons_self ..),Ahc fun e he=>h e (List.mem_cons_of_mem _ he)]
  rfl
def KX:Bh→Prop
 | []=>True
 |(k,_,_)::r=>AF k r=none∧KX r
theorem Abu:∀{o:Bh},KX o→∀e∈o,AF e.1 o=some e.2
 | [],_,e,h=>by cases h
 | (k,c,s)::r,⟨h1,h2⟩,e,h=>by
  rcases List.mem_cons.1 h with rfl|h
  ·show(bif Et k k then some (c,s) else AF k r)=_
   rw[NW]
   rfl
  ·have:=Abu h2 e h
   show(bif Et k e.1 then some (c,s) else AF e.1 r)=_
   cases hb:Et k e.1 with
   |true=>
    obtain rfl:=OX hb
    rw[h1] at this
    cases this
   |false=>exact this
theorem LH {o:Bh} (ho:KX o) (h:Apw o):A9 (H2 o)=true:=Ahc fun e he=>h e.1 e.2.1 e.2.2 (Abu ho e he)
theorem WQ:∀{o:Bh} {t:Tag} {c:Cnd} {s:St},AF t o=some (c,s)→A9 c=true→A9 (H2 o)=false
 | [],_,_,_,h,_=>by cases h
 | (k,d,x)::r,t,c,s,h,hc=>by
  show A9 (IU (Ae8 d) (H2 r))=false
  rw[A8,Ur]
  have h':(bif Et k t then some (d,x) else AF t r)=some (c,s):=h
  cases hb:Et k t with
  |true=>
   rw[hb] at h'
   obtain⟨rfl,rfl⟩:d=c∧x=s:=by cases h';exact⟨rfl,rfl⟩
   rw[hc]
   rfl
  |false=>
   rw[hb] at h'
   rw[WQ h' hc,Bool.and_false]
theorem Ab4:∀{o:Bh} {t u:Tag} {c:Cnd} {s:St},t≠u→AF t o=some (c,s)→A9 c=true→A9 (GB u o)=false
 | [],_,_,_,_,_,h,_=>by cases h
 | (k,d,x)::r,t,u,c,s,hu,h,hc=>by
  have h':(bif Et k t then some (d,x) else AF t r)=some (c,s):=h
  show A9 (bif Et k u then GB u r else IU (Ae8 d) (GB u r))=false
  cases hb:Et k t with
  |true=>
   rw[hb] at h'
   obtain⟨rfl,rfl⟩:d=c∧x=s:=by cases h';exact⟨rfl,rfl⟩
   obtain rfl:=OX hb
   rw[RN hu]
   show A9 (IU (Ae8 d) (GB u r))=false
   rw[A8,Ur,hc]
   rfl
  | false=>
   rw[hb] at h'
   have ih:=Ab4 hu h' hc
   cases Et k u with
   |true=>exact ih
   |false=>
    show A9 (IU (Ae8 d) (GB u r))=false
    rw[A8,ih,Bool.and_false]
theorem Ab5:∀{o:Bh} {u:Tag},(∀e∈o,A9 e.2.1=false)→A9 (GB u o)=true
 | [],_,_=>rfl
 | (k,c,s)::r,u,h=>by
  have ih:=Ab5 (u:=u) (o:=r) fun e he=>h e (List.mem_cons_of_mem _ he)
  show A9 (bif Et k u then GB u r else IU (Ae8 c) (GB u r))=true
  cases Et k u with
  |true=>exact ih
  |false=>
   show A9 (IU (Ae8 c) (GB u r))=true
   rw[A8,Ur,h (k,c,s) (List.mem_cons_self ..),ih]
   rfl
theorem X1:∀{A B:Bh},KX A→KX B→(∀t x,AF t A=some x→AF t B=none)→KX (A++B)
 | [],B,_,hB,_=>hB
 | (k,c,s)::r,B,⟨h1,h2⟩,hB,h=>by
  refine⟨?_,X1 h2 hB fun t x hx=>h t x ?_⟩
  ·show AF k (r++B)=none
   rw[P7,h1]
   exact h k (c,s) (by show(bif Et k k then some (c,s) else AF k r)=_;rw[NW];rfl)
  ·show(bif Et k t then some (c,s) else AF t r)=some x
   cases hb:Et k t with
   |true=>
    obtain rfl:=OX hb
    rw[h1] at hx
    cases hx
   |false=>exact hx
theorem Acl (f:Tag→Cnd→St→Option (Cnd×St)→Cnd×St) (B:Bh):∀{A:Bh},KX A→KX (S3 f B A)
 | [],_=>trivial
 |(k,c,s)::r,⟨h1,h2⟩=>⟨by rw[OB,h1],Acl f B h2⟩
theorem O8 (f:Cnd→Cnd) (A:Bh) (t:Tag) (hA:AF t A≠none):∀(B:Bh),AF t (Ig f A B)=none
 | []=>rfl
 | (k,d,s)::r=>by
  have ih:=O8 f A t hA r
  show AF t (match AF k A with|some _=>Ig f A r|none=>(k,f d,s)::Ig f A r)=none
  cases hk:AF k A with
  |some x=>exact ih
  |none=>
   show(bif Et k t then some (f d,s) else AF t (Ig f A r))=none
   cases hb:Et k t with
   |true=>exact absurd (OX hb▸hk) hA
   |false=>exact ih
theorem Ack (f:Cnd→Cnd) (A:Bh):∀{B:Bh},KX B→KX (Ig f A B)
 | [],_=>trivial
 |(k,d,s)::r,⟨h1,h2⟩=>by
  have ih:=Ack f A h2
  show KX (match AF k A with|some _=>Ig f A r|none=>(k,f d,s)::Ig f A r)
  cases hk:AF k A with
  |some x=>exact ih
  |none=>exact⟨by rw[Tn f A k hk,h1],ih⟩
theorem Ahi (f:Tag→Cnd→St→Option (Cnd×St)→Cnd×St) (h:Cnd→Cnd) {A B:Bh} (hA:KX A) (hB:KX B):KX (S3 f B A++Ig h A B):=
 X1 (Acl f B hA) (Ack h A hB) fun t x hx=>by
  refine O8 h A t (fun hn=>?_) B
  rw[OB,hn] at hx
  cases hx
theorem H0 (u t:Tag):∀(o:Bh),AF t (Kl u o)=if t=u then none else AF t o
 | []=>by split<;>rfl
 | (k,c,s)::r=>by
  have ih:=H0 u t r
  show AF t (bif Et k u then Kl u r else(k,c,s)::Kl u r)=if t=u then none else(bif Et k t then some (c,s) else AF t r)
  by_cases hku:k=u
  ·subst hku
   rw[NW]
   show AF t (Kl k r)=_
   rw[ih]
   by_cases htk:t=k
   ·rw[if_pos htk,if_pos htk]
   ·rw[if_neg htk,if_neg htk,RN (Ne.symm htk)]
    rfl
  ·rw[RN hku]
   show(bif Et k t then some (c,s) else AF t (Kl u r))=_
   rw[ih]
   by_cases htu:t=u
   ·subst htu
    rw[if_pos rfl,if_pos rfl,RN hku]
    rfl
   ·rw[if_neg htu,if_neg htu]
theorem Acj (u:Tag):∀{o:Bh},KX o→KX (Kl u o)
 | [],_=>trivial
 |(k,c,s)::r,⟨h1,h2⟩=>by
  have ih:=Acj u h2
  show KX (bif Et k u then Kl u r else(k,c,s)::Kl u r)
  cases Et k u with
  |true=>exact ih
  |false=>exact⟨by rw[H0,h1];split<;>rfl,ih⟩
structure Wf (s:St) (r:V0):Prop where
 outs:∀t c x,AF t r.outs=some (c,x)→Sub s x
 nrm:∀x,r.nrm=some x→Sub s x
 once:KX r.outs
theorem A5r {s:St} {g:Bool} {W:List Nat} {A B:V0} (hA:Wf s A) (hB:Wf s B):Wf s (Anz g W s A B):=by
 refine⟨fun t c x h=>?_,fun x h=>?_,Ahi _ _ hA.once hB.once⟩
 ·have h':AF t (S3 (Az4 g W s) B.outs A.outs++Ig (IU (some !g)) A.outs B.outs)=some (c,x):=h
  rw[Ng] at h'
  cases h1:AF t A.outs with
  | some y=>
   obtain⟨c1,y⟩:=y
   rw[h1] at h'
   cases h2:AF t B.outs with
   |some z=>
    obtain⟨c2,z⟩:=z
    rw[h2] at h'
    cases h'
    exact Sub.merge _ _ _ _ _
   |none=>
    rw[h2] at h'
    cases h'
    exact hA.outs _ _ _ h1
  | none=>
   rw[h1] at h'
   cases h2:AF t B.outs with
   |some z=>
    obtain⟨c2,z⟩:=z
    rw[h2] at h'
    cases h'
    exact hB.outs _ _ _ h2
   |none=>
    rw[h2] at h'
    cases h'
 ·have h':Ag6 g W s A.nrm B.nrm=some x:=h
  cases h1:A.nrm with
  |some y=>
   cases h2:B.nrm with
   |some z=>rw[h1,h2] at h';cases h';exact Sub.merge _ _ _ _ _
   |none=>rw[h1,h2] at h';cases h';exact hA.nrm _ h1
  |none=>
   cases h2:B.nrm with
   |some z=>rw[h1,h2] at h';cases h';exact hB.nrm _ h2
   |none=>rw[h1,h2] at h';cases h'
theorem A19 {s s1:St} {W:List Nat} {A B:V0} (hA:Wf s A) (h1:A.nrm=some s1) (hB:Wf s1 B):Wf s (Afq W s A B):=by
 have hs:=hA.nrm _ h1
 refine⟨fun t c x h=>?_,fun x h=>hs.trans (hB.nrm _ h),Ahi _ _ hA.once hB.once⟩
 have h':AF t (S3 (A41 A.outs W s) B.outs A.outs++Ig (IU (H2 A.outs)) A.outs B.outs)=some (c,x):=h
 rw[Ng] at h'
 cases h1:AF t A.outs with
 | some y=>
  obtain⟨c1,y⟩:=y
  rw[h1] at h'
  cases h2:AF t B.outs with
  |some z=>
   obtain⟨c2,z⟩:=z
   rw[h2] at h'
   cases h'
   exact Sub.merge _ _ _ _ _
  |none=>
   rw[h2] at h'
   cases h'
   exact hA.outs _ _ _ h1
 | none=>
  rw[h1] at h'
  cases h2:AF t B.outs with
  |some z=>
   obtain⟨c2,z⟩:=z
   rw[h2] at h'
   cases h'
   exact hs.trans (hB.outs _ _ _ h2)
  |none=>
   rw[h2] at h'
   cases h'
theorem A17 {s:St} {W:List Nat} {id:Nat} {A:V0} (hA:Wf s A):Wf s (Mm W s id A):=by
 unfold Mm
 cases h1:AF (some id) A.outs with
 |none=>exact hA
 | some y=>
  obtain⟨c,y⟩:=y
  refine⟨fun t c' x h=>?_,fun x h=>?_,Acj _ hA.once⟩
  ·have h':AF t (Kl (some id) A.outs)=some (c',x):=h
   rw[H0] at h'
   split at h'
   ·cases h'
   ·exact hA.outs _ _ _ h'
  ·have h':(match A.nrm with|none=>some y|some z=>some (G6 (A9 c) W s y z))=some x:=h
   cases h2:A.nrm with
   |none=>rw[h2] at h';cases h';exact hA.outs _ _ _ h1
   |some z=>rw[h2] at h';cases h';exact Sub.merge _ _ _ _ _
theorem NY (s:St) (id:Nat):Wf s (Xi id):=⟨fun _ _ _ h=>(by cases h),fun _ h=>(by cases h),trivial⟩
theorem Ak8 {W:List Nat} {f:St→V0} (hf:∀s,Wf s (f s)):∀(n:Nat) (s:St),Wf s (Abp W f n s)
 |0,s=>NY s _
 |n+1,s=>by
  unfold Abp
  cases h:(f s).nrm with
  |none=>exact hf s
  |some s1=>exact A19 (hf s) h (Ak8 hf n s1)
theorem A18 (s:St) (t:Tag):Wf s ⟨[],[(t,none,s)],none⟩:=
  ⟨fun t' c x h=>(by
    have h':(bif Et t t' then some (none,s) else none)=some (c,x):=h
    cases hb:Et t t' with
    |true=>rw[hb] at h';cases h';exact Sub.refl s
    |false=>rw[hb] at h';cases h'),
   fun x h=>(by cases h),rfl,trivial⟩
def DE (E:Env) (b:Code) (s:St) (ps:List Prop) (outs:Bh):Prop:=∀(Z:Base) (F:Nat→Prop) (N:Nm) (a:Act) (R:World) (Q:Exit→Act→World→Prop),Rel Z F N s a R→(∀u,LF u (MW b)=true→Z.W u)→(∀p∈ps,p)→
 (∀e x F' N' a' R',Oc ⟨ps,outs,none⟩ e x→Rel Z F' N' x a' R'→Q e a' R')→(Code.loop b).wp E.P Q a R
def Bap (E:Env) (c:Code) (s:St) (ps:List Prop) (outs:Bh):Prop:=∀t d s1,outs=[(t,d,s1)]→Sub s s1∧∀(Z:Base) (F:Nat→Prop) (N:Nm) (a:Act) (R:World) (Q:Exit→Act→World→Prop),Rel Z F N s a R→(∀u,LF u (MW c)=true→Z.W u)→(∀p∈ps,p)→
 (∀F' N' a' R',Rel Z F' N' s1 a' R'→Q .normal a' R')→c.wp E.P Q a R
def Ayi (E:Env) (l:Nat) (b:Code) (s:St) (ps:List Prop) (outs:Bh):Prop:=(Nat.ble rfK l=false→Wf s ⟨ps,outs,none⟩∧DE E b s ps outs)∧(Nat.ble rfK l=true→Bap E b s ps outs)
structure N8 (E:Env):Prop extends EnvOk E where
 loops:∀l s b ps outs,E.L l s=some (b,ps,outs)→Ayi E l b s ps outs
theorem EF {E:Env} (ok:N8 E) {u:Nat}:∀(l:Nat) (c:Code) (h:Bool) (s:St),Wf s (MY E u l c h s)
 |_,.skip,_,s=>⟨fun _ _ _ h=>(by cases h),fun x h=>(by cases h;exact Sub.refl s),trivial⟩
 | _,.region id ops draw,_,s=>by
  unfold MY
  cases h:evR E ops.toList draw s with
  |none=>exact NY s _
  |some x=>
   obtain⟨s',ps⟩:=x
   exact⟨fun _ _ _ h=>(by cases h),fun x h'=>(by cases h';exact Asf ok.toEnvOk h),trivial⟩
 |_,.seq a b,hd,s=>by
  unfold MY
  cases h:(MY E u 0 a hd s).nrm with
  |none=>exact EF ok 0 a hd s
  |some s1=>exact A19 (EF ok 0 a hd s) h (EF ok 0 b _ s1)
 | _,.cond c x y,hd,s=>by
  unfold MY
  split
  ·rename_i g _
   cases A74 hd u with
   |true=>
    cases g with
    |true=>exact EF ok 0 x _ s
    |false=>exact EF ok 0 y _ s
   |false=>exact A5r (EF ok 0 x _ s) (EF ok 0 y _ s)
  ·exact NY s _
 |_,.block id b,_,s=>A17 (EF ok id b _ s)
 | l,.loop b,_,s=>by
  unfold MY
  split
  ·rename_i b0 ps outs h
   cases hb:Nat.ble rfK l with
   |true=>rw[hb] at h;cases h
   |false=>
    rw[hb,cond_false] at h
    obtain⟨h1,h2,h3⟩:=((ok.loops _ _ _ _ _ h).1 hb).1
    exact⟨h1,h2,h3⟩
  ·exact Ak8 (fun s=>EF ok 0 b _ s) u s
 |_,.exit id,_,s=>A18 s (some id)
 |_,.ret,_,s=>A18 s none
 | l,.rangeFunc _ _ _ _,_,s=>by
  unfold MY
  split
  ·rename_i b0 ps t d s1 h
   exact⟨fun _ _ _ h=>(by cases h),fun x h'=>(by cases h';exact((ok.loops _ _ _ _ _ h).2 (by rw[Nat.ble_eq];omega) _ _ _ rfl).1),trivial⟩
  ·exact NY s _
 |_,.scope b,_,s=>EF ok 0 b false s
 |_,.label _,_,s=>⟨fun _ _ _ h=>(by cases h),fun x h=>(by cases h;exact Sub.refl s),trivial⟩
 |_,.goto _,_,s=>NY s _
 |_,.refuse _,_,s=>NY s _
theorem I0 {ps qs:List Prop} (h:∀p∈ps++qs,p):(∀p∈ps,p)∧(∀p∈qs,p):=⟨fun p hp=>h p (List.mem_append.2 (.inl hp)),fun p hp=>h p (List.mem_append.2 (.inr hp))⟩
def A2r (M:Base) (x y:St):Prop:=∀a' R',At M a' R' x→At M a' R' y
theorem Ms {Z:Base} {F:Nat→Prop} {N:Nm} {s:St} {a:Act} {R:World} {W:List Nat} (h0:Rel Z F N s a R) {g:Bool} {x y z:St} (e1:Sub s x) (e2:Sub s y) (hz:z=bif g then x else y):A2r (ID F N s a R W) z (G6 g W s x y):=fun a' R' ⟨F',N',h⟩=>by
 subst hz
 obtain⟨N'',h'⟩:=Rel.merge (h0.start W) h (fun _ h=>h) e1 e2
 exact⟨F',N'',h'⟩
theorem A4g {Z:Base} {F:Nat→Prop} {N:Nm} {a:Act} {R:World} {W:List Nat} {s:St} (h0:Rel Z F N s a R) {g:Bool} {A B:V0} {e:Exit} {x:St} (hA:Wf s A) (hB:Wf s B) (h:Oc (bif g then A else B) e x):
  ∃y,Oc (Anz g W s A B) e y∧A2r (ID F N s a R W) x y:=by
 have gj:=Ng (f:=Az4 g W s) (h:=IU (some !g)) (A:=A.outs) (B:=B.outs)
 rcases h with⟨t,c,rfl,h1,h2,h3⟩|⟨rfl,h1,h2⟩
 ·cases g with
  | true=>
   have h1':AF t A.outs=some (c,x):=h1
   cases hb:AF t B.outs with
   | none=>
    refine⟨x,.inl ⟨t,IU (some true) c,rfl,?_,?_,fun t' c' s' hne hg=>?_⟩,fun _ _ h=>h⟩
    ·show AF t (_++_)=_
     rw[gj,h1',hb]
     rfl
    ·rw[A8,h2];rfl
    ·have hg':AF t' (_++_)=some (c',s'):=hg
     rw[gj] at hg'
     cases ha:AF t' A.outs with
     |some z=>
      obtain⟨c1,z⟩:=z
      have:=h3 t' c1 z hne ha
      rw[ha] at hg'
      cases hb':AF t' B.outs with
      |some w=>obtain⟨d,w⟩:=w;rw[hb'] at hg';cases hg';rw[M9];exact this
      |none=>rw[hb'] at hg';cases hg';rw[A8,this];rfl
     |none=>
      rw[ha] at hg'
      cases hb':AF t' B.outs with
      |some w=>obtain⟨d,w⟩:=w;rw[hb'] at hg';cases hg';rw[A8];rfl
      |none=>rw[hb'] at hg';cases hg'
   | some y=>
    obtain⟨d,y⟩:=y
    refine⟨G6 true W s x y,.inl ⟨t,Az3 true c d,rfl,?_,?_,fun t' c' s' hne hg=>?_⟩,Ms (g:=true) h0 (hA.outs _ _ _ h1') (hB.outs _ _ _ hb) rfl⟩
    ·show AF t (_++_)=_
     rw[gj,h1',hb]
     rfl
    ·rw[M9];exact h2
    ·have hg':AF t' (_++_)=some (c',s'):=hg
     rw[gj] at hg'
     cases ha:AF t' A.outs with
     |some z=>
      obtain⟨c1,z⟩:=z
      have:=h3 t' c1 z hne ha
      rw[ha] at hg'
      cases hb':AF t' B.outs with
      |some w=>obtain⟨d,w⟩:=w;rw[hb'] at hg';cases hg';rw[M9];exact this
      |none=>rw[hb'] at hg';cases hg';rw[A8,this];rfl
     |none=>
      rw[ha] at hg'
      cases hb':AF t' B.outs with
      |some w=>obtain⟨d,w⟩:=w;rw[hb'] at hg';cases hg';rw[A8];rfl
      |none=>rw[hb'] at hg';cases hg'
  | false=>
   have h1':AF t B.outs=some (c,x):=h1
   have hbut:∀t' c' s',t'≠t→AF t' (Anz false W s A B).outs=some (c',s')→A9 c'=false:=fun t' c' s' hne hg=>by
    have hg':AF t' (_++_)=some (c',s'):=hg
    rw[gj] at hg'
    cases ha:AF t' A.outs with
    | some z=>
     obtain⟨c1,z⟩:=z
     rw[ha] at hg'
     cases hb':AF t' B.outs with
     |some w=>
      obtain⟨d,w⟩:=w
      have:=h3 t' d w hne hb'
      rw[hb'] at hg';cases hg';rw[M9];exact this
     |none=>rw[hb'] at hg';cases hg';rw[A8];rfl
    | none=>
     rw[ha] at hg'
     cases hb':AF t' B.outs with
     |some w=>
      obtain⟨d,w⟩:=w
      have:=h3 t' d w hne hb'
      rw[hb'] at hg';cases hg';rw[A8,this];rfl
     |none=>rw[hb'] at hg';cases hg'
   cases ha:AF t A.outs with
   | none=>
    refine⟨x,.inl ⟨t,IU (some !false) c,rfl,?_,?_,hbut⟩,fun _ _ h=>h⟩
    ·show AF t (_++_)=_
     rw[gj,ha,h1']
    ·rw[A8,h2];rfl
   | some y=>
    obtain⟨d,y⟩:=y
    refine⟨G6 false W s y x,.inl ⟨t,Az3 false d c,rfl,?_,?_,hbut⟩,Ms (g:=false) h0 (hA.outs _ _ _ ha) (hB.outs _ _ _ h1') rfl⟩
    ·show AF t (_++_)=_
     rw[gj,ha,h1']
     rfl
    ·rw[M9];exact h2
 ·have hall:Apw (Anz g W s A B).outs:=fun t' c' s' hg=>by
   have hg':AF t' (_++_)=some (c',s'):=hg
   rw[gj] at hg'
   cases ha:AF t' A.outs with
   | some z=>
    obtain⟨c1,z⟩:=z
    rw[ha] at hg'
    cases hb':AF t' B.outs with
    |some w=>
     obtain⟨d,w⟩:=w
     rw[hb'] at hg';cases hg';rw[M9]
     cases g with
     |true=>exact h2 t' c1 _ ha
     |false=>exact h2 t' d _ hb'
    |none=>
     rw[hb'] at hg';cases hg';rw[A8]
     cases g with
     |true=>rw[h2 t' c1 _ ha];rfl
     |false=>rfl
   | none=>
    rw[ha] at hg'
    cases hb':AF t' B.outs with
    |some w=>
     obtain⟨d,w⟩:=w
     rw[hb'] at hg';cases hg';rw[A8]
     cases g with
     |true=>rfl
     |false=>rw[h2 t' d _ hb'];rfl
    |none=>rw[hb'] at hg';cases hg'
  cases g with
  |true=>
   have h1':A.nrm=some x:=h1
   cases hb:B.nrm with
   |none=>exact⟨x,.inr ⟨rfl,by show Ag6 true W s A.nrm B.nrm=_;rw[h1',hb];rfl,hall⟩,fun _ _ h=>h⟩
   |some y=>exact⟨_,.inr ⟨rfl,by show Ag6 true W s A.nrm B.nrm=_;rw[h1',hb];rfl,hall⟩,Ms (g:=true) h0 (hA.nrm _ h1') (hB.nrm _ hb) rfl⟩
  |false=>
   have h1':B.nrm=some x:=h1
   cases ha:A.nrm with
   |none=>exact⟨x,.inr ⟨rfl,by show Ag6 false W s A.nrm B.nrm=_;rw[ha,h1'];rfl,hall⟩,fun _ _ h=>h⟩
   |some y=>exact⟨_,.inr ⟨rfl,by show Ag6 false W s A.nrm B.nrm=_;rw[ha,h1'];rfl,hall⟩,Ms (g:=false) h0 (hA.nrm _ ha) (hB.nrm _ h1') rfl⟩
theorem A4h {Z:Base} {F:Nat→Prop} {N:Nm} {a:Act} {R:World} {W:List Nat} {s s1:St} (h0:Rel Z F N s a R) {A B:V0} {t:Tag} {c:Cnd} {x:St} (hA:Wf s A) (hn:A.nrm=some s1) (hB:Wf s1 B) (h1:AF t A.outs=some (c,x)) (h2:A9 c=true) (h3:A2f t A.outs):
  ∃y,Oc (Afq W s A B) (Tag.ex t) y∧A2r (ID F N s a R W) x y:=by
 have gj:=Ng (f:=A41 A.outs W s) (h:=IU (H2 A.outs)) (A:=A.outs) (B:=B.outs)
 have hbut:A2f t (Afq W s A B).outs:=fun t' c' s' hne hg=>by
  have hg':AF t' (_++_)=some (c',s'):=hg
  rw[gj] at hg'
  cases ha:AF t' A.outs with
  | some z=>
   obtain⟨c1,z⟩:=z
   have:=h3 t' c1 z hne ha
   rw[ha] at hg'
   cases hb':AF t' B.outs with
   |some w=>
    obtain⟨d,w⟩:=w
    rw[hb'] at hg';cases hg'
    rw[Us,this,A8,Ab4 (Ne.symm hne) h1 h2]
    rfl
   |none=>rw[hb'] at hg';cases hg';exact this
  | none=>
   rw[ha] at hg'
   cases hb':AF t' B.outs with
   |some w=>
    obtain⟨d,w⟩:=w
    rw[hb'] at hg';cases hg'
    rw[A8,WQ h1 h2]
    rfl
   |none=>rw[hb'] at hg';cases hg'
 cases hb:AF t B.outs with
 |none=>
  refine⟨x,.inl ⟨t,c,rfl,?_,h2,hbut⟩,fun _ _ h=>h⟩
  show AF t (_++_)=_
  rw[gj,h1,hb]
  rfl
 | some y=>
  obtain⟨d,y⟩:=y
  refine⟨G6 (A9 c) W s x y,.inl ⟨t,orO c (IU (GB t A.outs) d),rfl,?_,?_,hbut⟩,Ms (g:=A9 c) h0 (hA.outs _ _ _ h1) ((hA.nrm _ hn).trans (hB.outs _ _ _ hb)) (by rw[h2];rfl)⟩
  ·show AF t (_++_)=_
   rw[gj,h1,hb]
   rfl
  ·rw[Us,h2]
   rfl
theorem A4i {Z:Base} {F:Nat→Prop} {N:Nm} {a:Act} {R:World} {W:List Nat} {s s1:St} (h0:Rel Z F N s a R) {A B:V0} {e:Exit} {x:St} (hA:Wf s A) (hn:A.nrm=some s1) (hB:Wf s1 B) (hall:Apw A.outs) (h:Oc B e x):
  ∃y,Oc (Afq W s A B) e y∧A2r (ID F N s a R W) x y:=by
 have gj:=Ng (f:=A41 A.outs W s) (h:=IU (H2 A.outs)) (A:=A.outs) (B:=B.outs)
 have hno:=LH hA.once hall
 have hnb:∀t,A9 (GB t A.outs)=true:=fun t=>Ab5 fun e he=>hall e.1 e.2.1 e.2.2 (Abu hA.once e he)
 rcases h with⟨t,c,rfl,h1,h2,h3⟩|⟨rfl,h1,h2⟩
 ·have hbut:A2f t (Afq W s A B).outs:=fun t' c' s' hne hg=>by
   have hg':AF t' (_++_)=some (c',s'):=hg
   rw[gj] at hg'
   cases ha:AF t' A.outs with
   | some z=>
    obtain⟨c1,z⟩:=z
    have:=hall t' c1 z ha
    rw[ha] at hg'
    cases hb':AF t' B.outs with
    |some w=>
     obtain⟨d,w⟩:=w
     rw[hb'] at hg';cases hg'
     rw[Us,this,A8,h3 t' d _ hne hb',Bool.and_false]
     rfl
    |none=>rw[hb'] at hg';cases hg';exact this
   | none=>
    rw[ha] at hg'
    cases hb':AF t' B.outs with
    |some w=>
     obtain⟨d,w⟩:=w
     rw[hb'] at hg';cases hg'
     rw[A8,h3 t' d _ hne hb',Bool.and_false]
    |none=>rw[hb'] at hg';cases hg'
  cases ha:AF t A.outs with
  |none=>
   refine⟨x,.inl ⟨t,IU (H2 A.outs) c,rfl,?_,by rw[A8,hno,h2];rfl,hbut⟩,fun _ _ h=>h⟩
   show AF t (_++_)=_
   rw[gj,ha,h1]
  | some y=>
   obtain⟨d,y⟩:=y
   have hd:=hall t d y ha
   refine⟨G6 (A9 d) W s y x,.inl ⟨t,orO d (IU (GB t A.outs) c),rfl,?_,?_,hbut⟩,Ms (g:=A9 d) h0 (hA.outs _ _ _ ha) ((hA.nrm _ hn).trans (hB.outs _ _ _ h1)) (by rw[hd];rfl)⟩
   ·show AF t (_++_)=_
    rw[gj,ha,h1]
    rfl
   ·rw[Us,A8,hnb t,h2,Bool.and_self,Bool.or_true]
 ·refine⟨x,.inr ⟨rfl,h1,fun t' c' s' hg=>?_⟩,fun _ _ h=>h⟩
  have hg':AF t' (_++_)=some (c',s'):=hg
  rw[gj] at hg'
  cases ha:AF t' A.outs with
  | some z=>
   obtain⟨c1,z⟩:=z
   have:=hall t' c1 z ha
   rw[ha] at hg'
   cases hb':AF t' B.outs with
   |some w=>
    obtain⟨d,w⟩:=w
    rw[hb'] at hg';cases hg'
    rw[Us,this,A8,h2 t' d _ hb',Bool.and_false]
    rfl
   |none=>rw[hb'] at hg';cases hg';exact this
  | none=>
   rw[ha] at hg'
   cases hb':AF t' B.outs with
   |some w=>
    obtain⟨d,w⟩:=w
    rw[hb'] at hg';cases hg'
    rw[A8,h2 t' d _ hb',Bool.and_false]
   |none=>rw[hb'] at hg';cases hg'
theorem Aw7 {W:List Nat} {s:St} {A B:V0} (hA:Wf s A) (hall:Apw A.outs) (h:∀p∈(Afq W s A B).ps,p):(∀p∈B.ps,p):=by
 have h':=(I0 h).2
 refine JL h' fun q hq=>?_
 have hno:=LH hA.once hall
 cases hc:H2 A.outs with
 |none=>rw[hc] at hq;cases hq
 |some b=>
  rw[hc] at hq hno
  obtain rfl:=List.mem_singleton.1 hq
  exact hno
def A86 (E:Env) (f:St→V0) (c:Code):Prop:=∀(Z:Base) (s:St) (a:Act) (R:World) (Q:Exit→Act→World→Prop),At Z a R s→(∀u,LF u (MW c)=true→Z.W u)→(∀p∈(f s).ps,p)→
 (∀e x a' R',Oc (f s) e x→At Z a' R' x→Q e a' R')→c.wp E.P Q a R
theorem At.over {Z:Base} {F:Nat→Prop} {N:Nm} {s x:St} {a a':Act} {R R':World} {W:List Nat} (h0:Rel Z F N s a R) (hW:∀u,LF u W=true→Z.W u) (h:At (ID F N s a R W) a' R' x):At Z a' R' x:=by
 obtain⟨F',N',h⟩:=h
 exact⟨F',N',h0.over h hW⟩
theorem Apg {E:Env} {W:List Nat} {f:St→V0} {c:Code} (hw:∀s,Wf s (f s)) (hf:A86 E f c) {Z:Base} {F:Nat→Prop} {N:Nm} {s:St} {a:Act} {R:World} {Q:Exit→Act→World→Prop} {s1:St} {B:V0} (h0:Rel Z F N s a R) (hW:∀u,LF u W=true→Z.W u) (hc:∀u,LF u (MW c)=true→LF u W=true) (hn:(f s).nrm=some s1) (hB:Wf s1 B)
  (hp:∀p∈(Afq W s (f s) B).ps,p) (hk:∀e x a' R',Oc (Afq W s (f s) B) e x→At Z a' R' x→Q e a' R')
  {K:Act→World→Prop} (hd:∀(a':Act) (R':World),At (ID F N s a R W) a' R' s1→(∀p∈B.ps,p)→(∀e x a'' R'',Oc B e x→At (ID F N s a R W) a'' R'' x→Q e a'' R'')→K a' R'):c.wp E.P (Exit.then K Q) a R:=by
 refine hf (ID F N s a R W) s a R _ ⟨F,N,h0.start W⟩ (fun u hu=>hc u hu) (I0 hp).1 fun e x a' R' ho hr=>?_
 rcases ho with⟨t,cc,rfl,h1,h2,h3⟩|⟨rfl,h1,h2⟩
 ·obtain⟨y,hy,hr'⟩:=A4h h0 (hw s) hn hB h1 h2 h3
  have:=hk _ y a' R' hy (At.over h0 hW (hr' _ _ hr))
  cases t<;>exact this
 ·rw[hn] at h1
  obtain rfl:=Option.some.inj h1
  refine hd a' R' hr (Aw7 (hw s) h2 hp) fun e x a'' R'' ho' hr'=>?_
  obtain⟨y,hy,hr''⟩:=A4i h0 (hw s) hn hB h2 ho'
  exact hk e y a'' R'' hy (At.over h0 hW (hr'' _ _ hr'))
theorem UH {u:Nat} {A B:List Nat} (h:LF u A=true):LF u (A++B)=true:=by rw[Tp,h];rfl
theorem Wu {u:Nat} {A B:List Nat} (h:LF u B=true):LF u (A++B)=true:=by rw[Tp,h];cases LF u A<;>rfl
theorem GW {E:Env} (ok:N8 E) {u:Nat}:∀(l:Nat) (c:Code) (hd:Bool),A86 E (MY E u l c hd) c
 |_,.skip,_=>fun Z s a R Q h _ _ hk=>wp_skip (hk _ s a R (.inr ⟨rfl,rfl,fun _ _ _ h=>by cases h⟩) h)
 | _,.region id ops draw,_=>fun Z s a R Q h hW hp hk=>by
  unfold MY at hp hk
  cases he:evR E ops.toList draw s with
  |none=>rw[he] at hp;exact(hp (T6 id) (List.mem_singleton.2 rfl)).elim
  |some x=>
   obtain⟨s',ps⟩:=x
   rw[he] at hp hk
   obtain⟨F,N,h⟩:=h
   have:=Aw2 ok.toEnvOk h (id:=id) hW he hp (Q:=Q) fun F' N' a' R' hr=>hk _ s' a' R' (.inr ⟨rfl,rfl,fun _ _ _ h=>by cases h⟩) ⟨F',N',hr⟩
   rwa[Array.toArray_toList] at this
 | _,.seq c d,hd=>fun Z s a R Q h hW hp hk=>by
  unfold MY at hp hk
  refine wp_seq ?_
  cases hn:(MY E u 0 c hd s).nrm with
  | none=>
   rw[hn] at hp hk
   refine GW ok 0 c hd Z s a R _ h (fun u hu=>hW u (UH hu)) hp fun e x a' R' ho hr=>?_
   have:=hk e x a' R' ho hr
   rcases ho with⟨t,cc,rfl,_,_,_⟩|⟨rfl,h1,_⟩
   ·cases t<;>exact this
   ·rw[hn] at h1
    cases h1
  |some s1=>
   rw[hn] at hp hk
   obtain⟨F,N,h⟩:=h
   exact Apg (fun s=>EF ok 0 c hd s) (GW ok 0 c hd) h hW (fun u hu=>UH hu) hn (EF ok 0 d _ s1) hp hk fun a' R' hr hp' hk'=>GW ok 0 d _ _ s1 a' R' Q hr (fun u hu=>Wu hu) hp' hk'
 | _,.cond c x y,hd=>fun Z s a R Q h hW hp hk=>by
  unfold MY at hp hk
  split at hp
  ·rename_i g hg
   rw[hg] at hk
   simp only at hk
   obtain⟨F,N,h⟩:=h
   have hev:=CS h (F7 _) hg
   generalize A74 hd u=lt at hp hk
   cases lt with
   |true=>
    cases g with
    |true=>exact wp_cond_true hev (GW ok 0 x false Z s a R Q ⟨F,N,h⟩ (fun u hu=>hW u (UH hu)) hp hk)
    |false=>exact wp_cond_false hev (GW ok 0 y false Z s a R Q ⟨F,N,h⟩ (fun u hu=>hW u (Wu hu)) hp hk)
   |false=>
   obtain⟨hp1,hp2⟩:=I0 hp
   have main:∀z:Exit×St,Oc (bif g then MY E u 0 x false s else MY E u 0 y false s) z.1 z.2→∀a' R',At (ID F N s a R (MW x++MW y)) a' R' z.2→Q z.1 a' R':=fun z hz a' R' hr=>by
    obtain⟨w,hw,hr'⟩:=A4g h (EF ok 0 x _ s) (EF ok 0 y _ s) hz
    exact hk z.1 w a' R' hw (At.over h hW (hr' _ _ hr))
   cases g with
   |true=>
    exact wp_cond_true hev (GW ok 0 x false (ID F N s a R (MW x++MW y)) s a R Q ⟨F,N,h.start _⟩ (fun u hu=>UH hu) (JL hp1 fun q hq=>by obtain rfl:=List.mem_singleton.1 hq;rfl) fun e z a' R' ho hr=>main (e,z) ho a' R' hr)
   |false=>
    exact wp_cond_false hev (GW ok 0 y false (ID F N s a R (MW x++MW y)) s a R Q ⟨F,N,h.start _⟩ (fun u hu=>Wu hu) (JL hp2 fun q hq=>by obtain rfl:=List.mem_singleton.1 hq;rfl) fun e z a' R' ho hr=>main (e,z) ho a' R' hr)
  ·exact(hp (T6 1000001) (List.mem_singleton.2 rfl)).elim
 | _, .block id b,_=>fun Z s a R Q h hW hp hk=>by
  refine wp_block ?_
  obtain⟨F,N,h⟩:=h
  have hwf:=EF ok (u:=u) id b false s
  have hp':∀p∈(MY E u id b false s).ps,p:=fun p hm=>hp p (by
   show p∈(Mm (MW b) s id (MY E u id b false s)).ps
   unfold Mm
   cases hg:AF (some id) (MY E u id b false s).outs with
   |none=>exact hm
   |some y=>exact hm)
  refine GW ok id b false (ID F N s a R (MW b)) s a R _ ⟨F,N,h.start _⟩ (fun u hu=>hu) hp' fun e x a' R' ho hr=>?_
  have hk':∀e x a' R',Oc (Mm (MW b) s id (MY E u id b false s)) e x→At Z a' R' x→Q e a' R':=hk
  have hz:At Z a' R' x:=At.over h hW hr
  generalize MY E u id b false s=A at*
  cases hg:AF (some id) A.outs with
  | none=>
   have hbl:Mm (MW b) s id A=A:=by unfold Mm;rw[hg]
   rw[hbl] at hk'
   have:=hk' e x a' R' ho hz
   rcases ho with⟨t,cc,rfl,h1,_,_⟩|⟨rfl,_,_⟩
   ·cases t with
    |none=>exact this
    |some i=>
     have hne:i≠id:=fun e=>by subst e;rw[hg] at h1;cases h1
     show Exit.inBlock id Q (.exit i) a' R'
     unfold Exit.inBlock
     simp only[hne,if_false]
     exact this
   ·exact this
  | some y=>
   obtain⟨c,y⟩:=y
   have hbl:Mm (MW b) s id A=⟨A.ps,Kl (some id) A.outs,match A.nrm with|none=>some y|some z=>some (G6 (A9 c) (MW b) s y z)⟩:=by unfold Mm;rw[hg]
   rw[hbl] at hk'
   rcases ho with⟨t,cc,rfl,h1,h2,h3⟩|⟨rfl,h1,h2⟩
   ·by_cases ht:t=some id
    ·subst ht
     rw[hg] at h1
     obtain⟨rfl,rfl⟩:c=cc∧y=x:=by cases h1;exact⟨rfl,rfl⟩
     have hall:Apw (Kl (some id) A.outs):=fun t' c' s' hg'=>by
      rw[H0] at hg'
      split at hg'
      ·cases hg'
      ·rename_i hne
       exact h3 t' c' s' hne hg'
     show Exit.inBlock id Q (.exit id) a' R'
     unfold Exit.inBlock
     simp only[if_true]
     cases hn:A.nrm with
     |none=>
      rw[hn] at hk'
      exact hk' .normal y a' R' (.inr ⟨rfl,rfl,hall⟩) hz
     |some z=>
      rw[hn] at hk'
      have:=Ms (g:=A9 c) h (hwf.outs _ _ _ hg) (hwf.nrm _ hn) (by rw[h2];rfl) _ _ hr
      exact hk' .normal _ a' R' (.inr ⟨rfl,rfl,hall⟩) (At.over h hW this)
    ·have ho':AF t (Kl (some id) A.outs)=some (cc,x):=by rw[H0,if_neg ht];exact h1
     have:=hk' (Tag.ex t) x a' R' (.inl ⟨t,cc,rfl,ho',h2,fun t' c' s' hne hg'=>by
      rw[H0] at hg'
      split at hg'
      ·cases hg'
      ·exact h3 t' c' s' hne hg'⟩) hz
     cases t with
     |none=>exact this
     |some i=>
      have hne:i≠id:=fun e=>ht (by rw[e])
      show Exit.inBlock id Q (.exit i) a' R'
      unfold Exit.inBlock
      simp only[hne,if_false]
      exact this
   ·have hall:Apw (Kl (some id) A.outs):=fun t' c' s' hg'=>by
     rw[H0] at hg'
     split at hg'
     ·cases hg'
     ·exact h2 t' c' s' hg'
    rw[h1] at hk'
    have:=Ms (g:=A9 c) h (hwf.outs _ _ _ hg) (hwf.nrm _ h1) (by rw[h2 _ _ _ hg];rfl) _ _ hr
    exact hk' .normal _ a' R' (.inr ⟨rfl,rfl,hall⟩) (At.over h hW this)
 | l, .loop b,_=>fun Z s a R Q h hW hp hk=>by
  unfold MY at hp hk
  cases hL:(bif Nat.ble rfK l then none else E.L l s) with
  | some r=>
   obtain⟨b0,ps,outs⟩:=r
   rw[hL] at hp hk
   have hb:b=b0:=hp _ (List.mem_cons_self ..)
   subst hb
   obtain⟨F,N,h⟩:=h
   have hlt:Nat.ble rfK l=false:=by
    cases hb:Nat.ble rfK l with
    |true=>rw[hb] at hL;cases hL
    |false=>rfl
   rw[hlt,cond_false] at hL
   refine((ok.loops _ _ _ _ _ hL).1 hlt).2 Z F N a R Q h hW (fun p hm=>hp p (List.mem_cons_of_mem _ hm)) fun e x F' N' a' R' ho hr=>hk e x a' R' ?_ ⟨F',N',hr⟩
   rcases ho with⟨t,c,rfl,h1,h2,h3⟩|⟨rfl,h1,h2⟩
   ·exact .inl ⟨t,c,rfl,h1,h2,h3⟩
   ·cases h1
  |none=>
  rw[hL] at hp hk
  have key:∀(n:Nat) (Z:Base) (s:St) (a:Act) (R:World) (Q:Exit→Act→World→Prop),At Z a R s→(∀u,LF u (MW b)=true→Z.W u)→(∀p∈(Abp (MW b) (MY E u 0 b true) n s).ps,p)→(∀e x a' R',Oc (Abp (MW b) (MY E u 0 b true) n s) e x→At Z a' R' x→Q e a' R')→
    Code.rounds E.P b Q n a R:=fun n=>by
   induction n with
   |zero=>intro Z s a R Q h hW hp hk;exact(hp (T6 1000000) (List.mem_singleton.2 rfl)).elim
   | succ n ih=>
    intro Z s a R Q h hW hp hk
    rw[rounds_succ]
    unfold Abp at hp hk
    cases hn:(MY E u 0 b true s).nrm with
    | none=>
     rw[hn] at hp hk
     refine GW ok 0 b true Z s a R _ h hW hp fun e x a' R' ho hr=>?_
     have:=hk e x a' R' ho hr
     rcases ho with⟨t,cc,rfl,_,_,_⟩|⟨rfl,h1,_⟩
     ·cases t<;>exact this
     ·rw[hn] at h1
      cases h1
    |some s1=>
     rw[hn] at hp hk
     obtain⟨F,N,h⟩:=h
     exact Apg (fun s=>EF ok 0 b true s) (GW ok 0 b true) h hW (fun u hu=>hu) hn (Ak8 (fun s=>EF ok 0 b true s) n s1) hp hk fun a' R' hr hp' hk'=>ih _ s1 a' R' Q hr (fun u hu=>hu) hp' hk'
  exact wp_loop_rounds u (key u Z s a R Q h hW hp hk)
 | _,.exit id,_=>fun Z s a R Q h _ _ hk=>wp_exit (hk _ s a R (.inl ⟨some id,none,rfl,by show(bif Et (some id) (some id) then some (none,s) else none)=_;rw[NW];rfl,rfl,fun t' c x hne hg=>by
   have h':(bif Et (some id) t' then some (none,s) else none)=some (c,x):=hg
   rw[RN (Ne.symm hne)] at h'
   cases h'⟩) h)
 | _,.ret,_=>fun Z s a R Q h _ _ hk=>wp_ret (hk _ s a R (.inl ⟨none,none,rfl,rfl,rfl,fun t' c x hne hg=>by
   have h':(bif Et none t' then some (none,s) else none)=some (c,x):=hg
   rw[RN (Ne.symm hne)] at h'
   cases h'⟩) h)
 | l,.rangeFunc g qs c b,_=>fun Z s a R Q h hW hp hk=>by
  unfold MY at hp hk
  split at hp
  ·rename_i b0 ps t d s1 hL
   rw[hL] at hk
   have hb:Code.rangeFunc g qs c b=b0:=hp _ (List.mem_cons_self ..)
   subst hb
   obtain⟨F,N,h⟩:=h
   exact((ok.loops _ _ _ _ _ hL).2 (by rw[Nat.ble_eq];omega) _ _ _ rfl).2 Z F N a R Q h hW (fun p hm=>hp p (List.mem_cons_of_mem _ hm)) fun F' N' a' R' hr=>hk .normal s1 a' R' (.inr ⟨rfl,rfl,fun t c x hg=>by cases hg⟩) ⟨F',N',hr⟩
  ·exact(hp (T6 1000002) (List.mem_singleton.2 rfl)).elim
 | _,.scope b,_=>fun Z s a R Q h hW hp hk=>wp_scope_straight (GW ok 0 b false Z s a R _ h hW hp fun e x a' R' ho hr=>by
   have:=hk e x a' R' ho hr
   rcases ho with⟨t,c,rfl,_⟩|⟨rfl,_⟩
   ·cases t<;>exact this
   ·exact this)
 |_,.label _,_=>fun Z s a R Q h _ _ hk=>wp_label (hk .normal s a R (.inr ⟨rfl,rfl,fun t c x hg=>by cases hg⟩) h)
 |_,.goto _,_=>fun Z s a R Q _ _ hp _=>(hp (T6 1000002) (List.mem_singleton.2 rfl)).elim
 |_,.refuse _,_=>fun Z s a R Q _ _ hp _=>(hp (T6 1000002) (List.mem_singleton.2 rfl)).elim
end Go.Proofs.YtifkbgkbajncjaaDoor
namespace Go.Proofs.YtifkbgkbajncjaaDoor
open Go.RowKit
mutual
def A.pk (ρ:Nat→Option Nat):A→A
 | .own i off=>match ρ i with
  |some j=> .own j off
  |none=> .dead
 | .ownx i base len k=>match ρ i with
  |some j=> .ownx j base len k
  |none=> .dead
 | .sq i=>match ρ i with
  |some j=> .sq j
  |none=> .dead
 | .vw i size lo n full=>match ρ i with
  |some j=> .vw j size lo n full
  |none=> .dead
 | .el i k size off=>match ρ i with
  |some j=> .el j k size off
  |none=> .dead
 | .mp i=>match ρ i with
  |some j=> .mp j
  |none=> .dead
 | .dq i=>match ρ i with
  |some j=> .dq j
  |none=> .dead
 | .iv i k=>match ρ i with
  |some j=> .iv j k
  |none=> .dead
 | .de i k size off=>match ρ i with
  |some j=> .de j k size off
  |none=> .dead
 | .ie i k m size off=>match ρ i with
  |some j=> .ie j k m size off
  |none=> .dead
 | .fn f first caps=> .fn f (pkL ρ first) (pkL ρ caps)
 | .agg xs=> .agg (pkL ρ xs)
 | .tup xs=> .tup (pkL ρ xs)
 | .ref l=> .ref (pkL ρ l)
 | .opt u b x=> .opt u b (x.pk ρ)
 | .v x=> .v x
 | .sl c l=> .sl c l
 | .nl=> .nl
 | .it q vs=> .it q vs
 | .dead=> .dead
 | .av c n l=> .av c n l
 | .rv xs=> .rv (pkL ρ xs)
 | .vr i base lo m=>match ρ i with
  |some j=> .vr j base lo m
  |none=> .dead
 | .vd i base m cap=>match ρ i with
  |some j=> .vd j base m cap
  |none=> .dead
def pkL (ρ:Nat→Option Nat):List A→List A
 | []=>[]
 |x::r=>x.pk ρ::pkL ρ r
end
theorem KG {ρ:Nat→Option Nat}:∀{l:List A} {j:Nat} {x:A},(pkL ρ l)[j]?=some x→∃y,l[j]?=some y∧x=y.pk ρ
 | [],j,x,h=>by unfold pkL at h;cases j<;>cases h
 |y::r,0,x,h=>by unfold pkL at h;cases h;exact⟨y,rfl,rfl⟩
 |y::r,j+1,x,h=>by unfold pkL at h;exact KG (l:=r) h
theorem Jj {ρ:Nat→Option Nat}:∀l:List A,(pkL ρ l).length=l.length
 | []=>by unfold pkL;rfl
 |y::r=>by unfold pkL;rw[List.length_cons,List.length_cons,Jj r]
theorem Aud {ρ:Nat→Option Nat} {x:A} (h:HH (x.pk ρ)=false):HH x=false:=by
 cases x<;>first|rfl|(unfold A.pk at h;exact h)
theorem Ajb (ρ:Nat→Option Nat) (c:TC) (d:U c):∀x∈enc c d,x.pk ρ=x:=fun x hx=>by
 have:=Nb c d x hx
 cases x<;>first|(unfold A.pk;rfl)|exact this.elim
def Pk (ρ:Nat→Option Nat) (N:Nm) (nx:Nat) (N':Nm) (nx':Nat):Prop:=∀i j,i <nx→ρ i=some j→j <nx'∧N'.b j=N.b i∧N'.q j=N.q i
section
variable {F:Nat→Prop} {N N':Nm} {nx nx':Nat} {R:World} {ρ:Nat→Option Nat}
theorem Hv.pk (st:Pk ρ N nx N' nx') {x:A} {y:Value} (h:Hv F N nx R x y):Hv F N' nx' R (x.pk ρ) y:=by
 induction h with
 |v x=>unfold A.pk;exact .v x
 | @sl c l a cap ad h1 h2 h3 h4 ih=>
  unfold A.pk
  refine .sl ad h1 h2 h3 (fun i d j x y hd hx hy=>?_)
  have:=ih i d j x y hd hx hy
  rwa[Ajb ρ c d x (List.mem_of_getElem? hx)] at this
 | @ref l ad h1 h2 h3 ih=>
  unfold A.pk
  refine .ref ad h1 (fun j x hx=>?_) (fun j x y hx hy=>?_)
  ·obtain⟨z,hz,rfl⟩:=KG hx;exact h2 j z hz
  ·obtain⟨z,hz,rfl⟩:=KG hx;exact ih j z y hz hy
 | own h=>
  unfold A.pk
  split
  ·rename_i j hj
   obtain⟨h1,h2,_⟩:=st _ _ h hj
   rw[←h2];exact .own h1
  ·exact .dead _
 | ownx h=>
  unfold A.pk
  split
  ·rename_i j hj
   obtain⟨h1,h2,_⟩:=st _ _ h hj
   rw[←h2];exact .ownx h1
  ·exact .dead _
 | sq h=>
  unfold A.pk
  split
  ·rename_i j hj
   obtain⟨h1,_,h2⟩:=st _ _ h hj
   rw[←h2];exact .sq h1
  ·exact .dead _
 | vw h h1 h2 h3=>
  unfold A.pk
  split
  ·rename_i j hj
   obtain⟨k1,_,k2⟩:=st _ _ h hj
   exact .vw k1 h1 h2 (fun hn=>by rw[k2];exact h3 hn)
  ·exact .dead _
 | el h=>
  unfold A.pk
  split
  ·rename_i j hj
   obtain⟨h1,_,h2⟩:=st _ _ h hj
   rw[←h2];exact .el h1
  ·exact .dead _
 | dq h=>
  unfold A.pk
  split
  ·rename_i j hj
   obtain⟨h1,_,h2⟩:=st _ _ h hj
   rw[←h2];exact .dq h1
  ·exact .dead _
 | iv h=>
  unfold A.pk
  split
  ·rename_i j hj
   obtain⟨h1,_,h2⟩:=st _ _ h hj
   rw[←h2];exact .iv h1
  ·exact .dead _
 | de h=>
  unfold A.pk
  split
  ·rename_i j hj
   obtain⟨h1,_,h2⟩:=st _ _ h hj
   rw[←h2];exact .de h1
  ·exact .dead _
 | ie h=>
  unfold A.pk
  split
  ·rename_i j hj
   obtain⟨h1,_,h2⟩:=st _ _ h hj
   rw[←h2];exact .ie h1
  ·exact .dead _
 | mp h=>
  unfold A.pk
  split
  ·rename_i j hj
   obtain⟨h1,h2,_⟩:=st _ _ h hj
   rw[←h2];exact .mp h1
  ·exact .dead _
 |nl a=>unfold A.pk;exact .nl a
 |it q vs y h=>unfold A.pk;exact .it q vs y h
 |fn vs us h1 _ h3 _ ih2 ih4=>
  unfold A.pk
  exact .fn vs us (by rw[Jj];exact h1) (fun j x v hx hv=>by obtain⟨z,hz,rfl⟩:=KG hx;exact ih2 j z v hz hv) (by rw[Jj];exact h3) (fun j x v hx hv=>by obtain⟨z,hz,rfl⟩:=KG hx;exact ih4 j z v hz hv)
 |agg vs h1 _ ih=>unfold A.pk;exact .agg vs (by rw[Jj];exact h1) (fun j x v hx hv=>by obtain⟨z,hz,rfl⟩:=KG hx;exact ih j z v hz hv)
 |tup vs h1 _ ih=>unfold A.pk;exact .tup vs (by rw[Jj];exact h1) (fun j x v hx hv=>by obtain⟨z,hz,rfl⟩:=KG hx;exact ih j z v hz hv)
 |dead y=>unfold A.pk;exact .dead y
 |av h1 h2=>unfold A.pk;exact .av h1 h2
 |rv vs h1 _ h3 ih=>
  unfold A.pk
  refine .rv vs (by rw[Jj];exact h1) (fun j x v hx hv=>by obtain⟨z,hz,rfl⟩:=KG hx;exact ih j z v hz hv) (fun j x v hx hv hi=>?_)
  obtain⟨z,hz,rfl⟩:=KG hx
  exact h3 j z v hz hv (Aud hi)
 | vd h=>
  unfold A.pk
  split
  ·rename_i j hj
   obtain⟨h1,h2,_⟩:=st _ _ h hj
   rw[←h2];exact .vd h1
  ·exact .dead _
 | vr ad h k1=>
  unfold A.pk
  split
  ·rename_i j hj
   obtain⟨h1,h2,_⟩:=st _ _ h hj
   exact .vr ad h1 fun hm=>by rw[h2];exact k1 hm
  ·exact .dead _
theorem HW.pk (st:Pk ρ N nx N' nx'):∀{xs:List A} {us:List Value},HW F N nx R xs us→HW F N' nx' R (pkL ρ xs) us
 | [],_,h=>by unfold pkL;exact h
 |x::r,_,⟨v,t,h1,h2,h3,h4⟩=>by
  unfold pkL
  exact⟨v,t,h1,h2.pk st,fun hi=>h3 (Aud hi),HW.pk st h4⟩
theorem HL.pk (st:Pk ρ N nx N' nx'):∀{xs:List A} {vs:List Value},HL F N nx R xs vs→HL F N' nx' R (pkL ρ xs) vs
 | [],_,h=>by unfold pkL;exact h
 |x::r,_,⟨v,vs,h1,h2,h3⟩=>by
  unfold pkL
  exact⟨v,vs,h1,h2.pk st,HL.pk st h3⟩
end
def Els.pk (ρ:Nat→Option Nat):Els→Els
 | .lst cs=> .lst (cs.map (pkL ρ))
 | .ty c l=> .ty c l
def Ob.pk (ρ:Nat→Option Nat):Ob→Ob
 | .box e cs=> .box e (pkL ρ cs)
 | .arr e size els=> .arr e size (els.pk ρ)
 | .map k v l=> .map k v l
 | .sit s pos=> .sit s pos
 | .deep e c l=> .deep e c l
 | .rcd e xs=> .rcd e (pkL ρ xs)
 | .abs m c l=> .abs m c l
theorem Aj7 (ρ:Nat→Option Nat) (c:TC) (d:U c):pkL ρ (enc c d)=enc c d:=by
 have:∀l:List A,(∀x∈l,x.pk ρ=x)→pkL ρ l=l:=fun l=>by
  induction l with
  |nil=>intro _;unfold pkL;rfl
  |cons x r ih=>intro h;unfold pkL;rw[h x (List.mem_cons_self ..),ih fun y hy=>h y (List.mem_cons_of_mem _ hy)]
 exact this _ (Ajb ρ c d)
theorem A5i (ρ:Nat→Option Nat) (c:TC) (d:U c):(Ar c d).pk ρ=Ar c d:=by
 unfold Ar
 cases c.isAgg with
 |true=>
  show(MZ (enc c d)).pk ρ=MZ (enc c d)
  unfold MZ
  split
  ·unfold A.pk;rfl
  ·unfold A.pk;rw[Aj7]
 |false=>
  have hp:=Ajb ρ c d
  simp only[cond_false]
  generalize enc c d=l at hp⊢
  cases l with
  |nil=>unfold A.pk;rfl
  |cons x r=>exact hp x (List.mem_cons_self ..)
section
variable {F:Nat→Prop} {N N':Nm} {nx nx':Nat} {o o':Objs} {R:World} {ρ:Nat→Option Nat} {i j:Nat} {ob:Ob}
theorem ObR.pk (st:Pk ρ N nx N' nx') (hi:i <nx) (hj:ρ i=some j) (h:ObR F N nx R i ob):ObR F N' nx' R j (ob.pk ρ):=by
 obtain⟨_,sb,sq⟩:=st i j hi hj
 cases ob with
 |box e cs=>
  obtain⟨vs,h1,h2⟩:=h
  exact⟨vs,h1.pk st,by rw[sb];exact h2⟩
 | arr e size els=>
  obtain⟨zs,h1,h2⟩:=h
  cases els with
  |lst cs=>
   have hn:(Els.pk ρ (.lst cs)).n=cs.length:=by simp[Els.pk,Els.n]
   refine⟨zs,by rw[sq,hn];exact h1,fun k hk=>?_⟩
   rw[hn] at hk
   have:=(h2 k hk).pk st
   show HL F N' nx' R (GV (cs.map (pkL ρ)) k) _
   rw[CX,List.getD_eq_getElem?_getD,List.getElem?_map]
   have h3:(Els.lst cs).nth k=cs.getD k []:=CX cs k
   rw[h3,List.getD_eq_getElem?_getD] at this
   have hk':cs[k]?=some cs[k]:=List.getElem?_eq_getElem hk
   rw[hk'] at this⊢
   exact this
  |ty c l=>
   refine⟨zs,by rw[sq];exact h1,fun k hk=>?_⟩
   have:=(h2 k hk).pk st
   have e:pkL ρ ((Els.ty c l).nth k)=(Els.ty c l).nth k:=Aj7 ρ c _
   rw[e] at this
   exact this
 |map k v l=>
  obtain⟨es,cl,h1,h2,h3⟩:=h
  refine⟨es,cl,by rw[sb];exact h1,h2,fun j p e hp he=>⟨(h3 j p e hp he).1,?_⟩⟩
  have:=(h3 j p e hp he).2.pk st
  rwa[A5i] at this
 |sit s pos=>
  show R.heap[N'.b j]?=_
  rw[sb]
  exact h
 | deep e c l=>
  obtain⟨col,c',zs,h1,h2,h3,h4,h5⟩:=h
  have hj':=(st i j hi hj).1
  refine⟨col,c',zs,h1,by rw[sq];exact h2,fun k d hd=>?_,fun k d hd=>?_,by rw[sq];exact h5⟩
  ·have go:∀(cs:List A) (vs:List Value),(∀x∈cs,x.pk ρ=x)→HL F N nx R (Kz i k cs) vs→HL F N' nx' R (Kz j k cs) vs:=fun cs=>by
    induction cs with
    |nil=>intro vs _ hh;rw[hh.inv0];exact HL.nil
    | cons x r ih=>
     intro vs hc hh
     have hx:=hc x (List.mem_cons_self ..)
     have hr:=fun y hy=>hc y (List.mem_cons_of_mem _ hy)
     cases x
     case sl c2 l2=>
      obtain⟨w,ws,rfl,w1,w2⟩:=hh.inv
      rw[w1.iv_inv.2,←sq]
      exact HL.cons (.iv hj') (ih ws hr w2)
     all_goals
      obtain⟨w,ws,rfl,w1,w2⟩:=hh.inv
      have w3:=w1.pk st
      rw[hx] at w3
      exact HL.cons w3 (ih ws hr w2)
   exact go _ _ (Ajb ρ c d) (h3 k d hd)
  ·obtain⟨l',e',us,k1,k2,k3⟩:=h4 k d hd
   refine⟨l',e',us,k1,by rw[sq];exact k2,fun m hm=>?_⟩
   have:=(k3 m hm).pk st
   rwa[Aj7] at this
 |rcd e xs=>
  obtain⟨us,h1,h2⟩:=h
  exact⟨us,h1.pk st,by rw[sb];exact h2⟩
 |abs m c l=>
  obtain⟨hh,h1,h2⟩:=h
  exact⟨hh,by rw[sq];exact h1,by rw[sq];exact h2⟩
theorem UC (st:Pk ρ N nx N' nx') (hi:i <nx) (hj:ρ i=some j) {g:Nat}:foot N' j (ob.pk ρ) g↔foot N i ob g:=by
 obtain⟨_,sb,sq⟩:=st i j hi hj
 cases ob<;>simp only[foot,Ob.pk,sb,sq]
theorem HRel.pk (h:HRel F N nx o R) (st:Pk ρ N nx N' nx') (ho:∀j ob',Ak j o'=some ob'→∃i ob,ρ i=some j∧Ak i o=some ob∧ob'=ob.pk ρ):HRel F N' nx' o' R∧∀g,Foot N' o' g→Foot N o g:=by
 refine⟨⟨h.flt,fun j ob' hj=>?_,fun j ob' g hj hg=>?_,fun j k x y g hj hk hx hy=>?_,h.gl⟩,fun g ⟨j,ob',hj,hg⟩=>?_⟩
 ·obtain⟨i,ob,h1,h2,rfl⟩:=ho j ob' hj
  obtain⟨h3,h4⟩:=h.ob i ob h2
  exact⟨(st i j h3 h1).1,h4.pk st h3 h1⟩
 ·obtain⟨i,ob,h1,h2,rfl⟩:=ho j ob' hj
  exact h.ff i ob g h2 ((UC st (h.ob i ob h2).1 h1).1 hg)
 ·obtain⟨i,ob,h1,h2,rfl⟩:=ho j x hj
  obtain⟨i',ob',k1,k2,rfl⟩:=ho k y hk
  have:=h.sep i i' ob ob' g h2 k2 ((UC st (h.ob i ob h2).1 h1).1 hx) ((UC st (h.ob i' ob' k2).1 k1).1 hy)
  subst this
  rw[h1] at k1
  exact Option.some.inj k1
 ·obtain⟨i,ob,h1,h2,rfl⟩:=ho j ob' hj
  exact⟨i,ob,h2,(UC st (h.ob i ob h2).1 h1).1 hg⟩
end
abbrev Gs:=List (Nat×Nat)
def fwd:Gs→Nat→Option Nat
 | [],_=>none
 |(k,j)::r,i=>bif Nat.beq k i then some j else fwd r i
def bck:Gs→Nat→Option Nat
 | [],_=>none
 |(k,j)::r,i=>bif Nat.beq j i then some k else bck r i
def R6 (nb:Nat) (L:Gs) (i:Nat):Option Nat:=bif Nat.blt i nb then some i else fwd L i
def Aa8 (nb:Nat) (L:Gs) (j:Nat):Nat:=bif Nat.blt j nb then j else match bck L j with
 |some k=>k
 |none=>0
def Mb (nb nx':Nat):Gs→Bool
 | []=>true
 |(k,j)::r=>Nat.ble nb k&&(Nat.ble nb j&&(Nat.blt j nx'&&(isNone (fwd r k)&&(isNone (bck r j)&&Mb nb nx' r))))
theorem Tq {o:Option Nat}:isNone o=true↔o=none:=by cases o<;>simp[isNone]
theorem At5 {nb nx':Nat}:∀{L:Gs} {i j:Nat},Mb nb nx' L=true→fwd L i=some j→bck L j=some i∧nb≤i∧nb≤j∧j <nx'
 | [],i,j,_,h=>by cases h
 | (k,m)::r,i,j,h0,h=>by
  unfold Mb at h0
  simp only[Bool.and_eq_true] at h0
  obtain⟨a1,a2,a3,a4,a5,a6⟩:=h0
  unfold fwd at h
  cases hb:Nat.beq k i with
  |true=>
   rw[hb] at h
   cases h
   obtain rfl:=Nat.eq_of_beq_eq_true hb
   refine⟨?_,Nat.le_of_ble_eq_true a1,Nat.le_of_ble_eq_true a2,Nat.le_of_ble_eq_true a3⟩
   unfold bck
   rw[JH]
   rfl
  | false=>
   rw[hb] at h
   obtain⟨h1,h2⟩:=At5 a6 h
   refine⟨?_,h2⟩
   unfold bck
   cases hm:Nat.beq m j with
   |true=>
    obtain rfl:=Nat.eq_of_beq_eq_true hm
    rw[Tq.1 a5] at h1
    cases h1
   |false=>exact h1
def nm2 (N:Nm) (nb:Nat) (L:Gs):Nm:=⟨fun j=>N.b (Aa8 nb L j),fun j=>N.q (Aa8 nb L j)⟩
theorem A33 {nb nx':Nat} {L:Gs} (h0:Mb nb nx' L=true) {i j:Nat} (h:R6 nb L i=some j):Aa8 nb L j=i∧(i <nb∧j=i∨nb≤i∧nb≤j∧j <nx'):=by
 unfold R6 at h
 cases hb:Nat.blt i nb with
 |true=>
  rw[hb] at h
  cases h
  refine⟨?_,.inl ⟨Nat.le_of_ble_eq_true hb,rfl⟩⟩
  unfold Aa8
  rw[hb]
  rfl
 | false=>
  rw[hb] at h
  obtain⟨h1,h2,h3,h4⟩:=At5 h0 h
  refine⟨?_,.inr ⟨h2,h3,h4⟩⟩
  unfold Aa8
  have:Nat.blt j nb=false:=by
   cases hj:Nat.blt j nb with
   |false=>rfl
   |true=>exact absurd (Nat.le_of_ble_eq_true hj) (by omega)
  rw[this,h1]
  rfl
theorem pk2 {N:Nm} {nb n nx':Nat} {L:Gs} (h0:Mb nb nx' L=true) (hnb:nb≤nx'):Pk (R6 nb L) N n (nm2 N nb L) nx':=fun i j _ hj=>by
 obtain⟨h1,h2⟩:=A33 h0 hj
 refine⟨?_,by show N.b (Aa8 nb L j)=_;rw[h1],by show N.q (Aa8 nb L j)=_;rw[h1]⟩
 rcases h2 with⟨h2,rfl⟩|⟨_,_,h2⟩
 ·omega
 ·exact h2
def Aop (nb:Nat) (L:Gs) (o:Objs):Gs→Objs
 | []=>[]
 |(k,j)::r=>(j,match Ak k o with
  |some ob=>some (ob.pk (R6 nb L))
  |none=>none)::Aop nb L o r
def X4 (nb:Nat) (L:Gs) (o:Objs):List Nat→Objs
 | []=>[]
 |k::r=>bif Nat.blt k nb then(k,match Ak k o with
  |some ob=>some (ob.pk (R6 nb L))
  |none=>none)::X4 nb L o r else X4 nb L o r
theorem XU {nb:Nat} {L:Gs} {o:Objs} {j:Nat} {ob':Ob}:∀{r:Gs},Ak j (Aop nb L o r)=some ob'→∃k ob,(k,j)∈r∧Ak k o=some ob∧ob'=ob.pk (R6 nb L)
 | [],h=>by cases h
 | (k,m)::r,h=>by
  unfold Aop at h
  have h':(bif Nat.beq m j then(match Ak k o with|some ob=>some (ob.pk (R6 nb L))|none=>none) else Ak j (Aop nb L o r))=some ob':=h
  cases hb:Nat.beq m j with
  |true=>
   rw[hb] at h'
   obtain rfl:=Nat.eq_of_beq_eq_true hb
   simp only[cond_true] at h'
   split at h'<;>first|(cases h';done)|skip
   rename_i ob hob
   cases h'
   exact⟨k,ob,List.mem_cons_self ..,hob,rfl⟩
  |false=>
   rw[hb] at h'
   obtain⟨k',ob,h1,h2⟩:=XU h'
   exact⟨k',ob,List.mem_cons_of_mem _ h1,h2⟩
theorem Qt {nb:Nat} {L:Gs} {o:Objs} {j:Nat} {ob':Ob}:∀{r:List Nat},Ak j (X4 nb L o r)=some ob'→j <nb∧∃ob,Ak j o=some ob∧ob'=ob.pk (R6 nb L)
 | [],h=>by cases h
 | k::r,h=>by
  unfold X4 at h
  cases hk:Nat.blt k nb with
  |false=>rw[hk] at h;exact Qt h
  | true=>
   rw[hk] at h
   have h':(bif Nat.beq k j then(match Ak k o with|some ob=>some (ob.pk (R6 nb L))|none=>none) else Ak j (X4 nb L o r))=some ob':=h
   cases hb:Nat.beq k j with
   |true=>
    rw[hb] at h'
    obtain rfl:=Nat.eq_of_beq_eq_true hb
    simp only[cond_true] at h'
    split at h'<;>first|(cases h';done)|skip
    rename_i ob hob
    cases h'
    exact⟨Nat.le_of_ble_eq_true hk,ob,hob,rfl⟩
   |false=>rw[hb] at h';exact Qt h'
theorem Qc {nb:Nat} {L:Gs} {o:Objs} {j:Nat} (hj:j <nb):∀{r:List Nat},j∈r→j∈HI (X4 nb L o r)
 | [],h=>by cases h
 | k::r,h=>by
  unfold X4
  rcases List.mem_cons.1 h with rfl|h
  ·rw[show Nat.blt j nb=true from Nat.ble_eq_true_of_le hj]
   exact List.mem_cons_self ..
  ·cases Nat.blt k nb with
   |true=>exact List.mem_cons_of_mem _ (Qc hj h)
   |false=>exact Qc hj h
theorem JN {i:Nat} {ob:Ob} {A B:Objs} (h:Ak i (A++B)=some ob):(i∈HI A∧Ak i A=some ob)∨(i∉HI A∧Ak i B=some ob):=by
 by_cases hk:i∈HI A
 ·rw[Qs hk] at h;exact .inl ⟨hk,h⟩
 ·rw[G5 hk] at h;exact .inr ⟨hk,h⟩
theorem A4v {nb nx':Nat}:∀{L:Gs} {k j:Nat},Mb nb nx' L=true→(k,j)∈L→R6 nb L k=some j
 | [],k,j,_,h=>by cases h
 | (a,b)::r,k,j,h0,h=>by
  have h00:=h0
  unfold Mb at h0
  simp only[Bool.and_eq_true] at h0
  obtain⟨a1,a2,a3,a4,a5,a6⟩:=h0
  have hge:∀{L:Gs} {k j:Nat},Mb nb nx' L=true→(k,j)∈L→nb≤k:=fun {L}=>by
   induction L with
   |nil=>intro k j _ h;cases h
   |cons p r ih=>
    intro k j h0 h
    obtain⟨x,y⟩:=p
    unfold Mb at h0
    simp only[Bool.and_eq_true] at h0
    rcases List.mem_cons.1 h with e|h
    ·cases e;exact Nat.le_of_ble_eq_true h0.1
    ·exact ih h0.2.2.2.2.2 h
  have hk:Nat.blt k nb=false:=by
   cases hb:Nat.blt k nb with
   |false=>rfl
   |true=>exact absurd (hge h00 h) (by have:=Nat.le_of_ble_eq_true hb;omega)
  have ih:∀{L:Gs} {k j:Nat},Mb nb nx' L=true→(k,j)∈L→fwd L k=some j:=fun {L}=>by
   induction L with
   |nil=>intro k j _ h;cases h
   | cons p r ih=>
    intro k j h0 h
    obtain⟨x,y⟩:=p
    unfold Mb at h0
    simp only[Bool.and_eq_true] at h0
    obtain⟨_,_,_,b4,_,b6⟩:=h0
    unfold fwd
    rcases List.mem_cons.1 h with e|h
    ·cases e;rw[JH];rfl
    ·have h1:=ih b6 h
     cases hb:Nat.beq x k with
     |true=>
      obtain rfl:=Nat.eq_of_beq_eq_true hb
      rw[Tq.1 b4] at h1
      cases h1
     |false=>exact h1
  unfold R6
  rw[hk]
  exact ih h00 h
section
variable {F:Nat→Prop} {N:Nm} {nx:Nat} {o:Objs} {R:World} {ρ:Nat→Option Nat}
theorem WX {xs:List A} (h:∀(j:Nat) (x:A),xs[j]?=some x→x.pk ρ=x):pkL ρ xs=xs:=by
 induction xs with
 |nil=>unfold pkL;rfl
 |cons x r ih=>unfold pkL;rw[h 0 x rfl,ih fun j y hy=>h (j+1) y hy]
theorem Hv.pk_id (hρ:∀k,k <nx→ρ k=some k) {x:A} {y:Value} (h:Hv F N nx R x y):x.pk ρ=x:=by
 induction h with
 |v x=>unfold A.pk;rfl
 |sl=>unfold A.pk;rfl
 | @ref l ad h1 h2 h3 ih=>
  unfold A.pk
  rw[WX fun j x hx=>by obtain⟨y,hy⟩:=h2 j x hx;exact ih j x y hx hy]
 |own h=>unfold A.pk;rw[hρ _ h]
 |ownx h=>unfold A.pk;rw[hρ _ h]
 |sq h=>unfold A.pk;rw[hρ _ h]
 |vw h=>unfold A.pk;rw[hρ _ h]
 |el h=>unfold A.pk;rw[hρ _ h]
 |dq h=>unfold A.pk;rw[hρ _ h]
 |iv h=>unfold A.pk;rw[hρ _ h]
 |de h=>unfold A.pk;rw[hρ _ h]
 |ie h=>unfold A.pk;rw[hρ _ h]
 |mp h=>unfold A.pk;rw[hρ _ h]
 |nl a=>unfold A.pk;rfl
 |it q vs y h=>unfold A.pk;rfl
 | @fn f first caps vs us h1 _ h3 _ ih2 ih4=>
  unfold A.pk
  have e1:pkL ρ first=first:=WX fun j x hx=>by
   have hj:j <vs.length:=by rw[h1];exact(List.getElem?_eq_some_iff.1 hx).1
   exact ih2 j x _ hx (List.getElem?_eq_getElem hj)
  have e2:pkL ρ caps=caps:=WX fun j x hx=>by
   have hj:j <us.length:=by rw[h3];exact(List.getElem?_eq_some_iff.1 hx).1
   exact ih4 j x _ hx (List.getElem?_eq_getElem hj)
  rw[e1,e2]
 | @agg xs vs h1 _ ih=>
  unfold A.pk
  rw[WX fun j x hx=>by
   have hj:j <vs.length:=by rw[h1];exact(List.getElem?_eq_some_iff.1 hx).1
   exact ih j x _ hx (List.getElem?_eq_getElem hj)]
 | @tup xs vs h1 _ ih=>
  unfold A.pk
  rw[WX fun j x hx=>by
   have hj:j <vs.length:=by rw[h1];exact(List.getElem?_eq_some_iff.1 hx).1
   exact ih j x _ hx (List.getElem?_eq_getElem hj)]
 |dead y=>unfold A.pk;rfl
 |av h1 h2=>unfold A.pk;rfl
 | @rv xs vs h1 _ _ ih=>
  unfold A.pk
  rw[WX fun j x hx=>by
   have hj:j <vs.length:=by rw[h1];exact(List.getElem?_eq_some_iff.1 hx).1
   exact ih j x _ hx (List.getElem?_eq_getElem hj)]
 |vr ad h _=>unfold A.pk;rw[hρ _ h]
 |vd h=>unfold A.pk;rw[hρ _ h]
theorem HW.pk_id (hρ:∀k,k <nx→ρ k=some k):∀{xs:List A} {us:List Value},HW F N nx R xs us→pkL ρ xs=xs
 | [],_,_=>by unfold pkL;rfl
 |x::r,_,⟨v,t,_,h2,_,h3⟩=>by unfold pkL;rw[h2.pk_id hρ,HW.pk_id hρ h3]
theorem HL.pk_id (hρ:∀k,k <nx→ρ k=some k):∀{xs:List A} {vs:List Value},HL F N nx R xs vs→pkL ρ xs=xs
 | [],_,_=>by unfold pkL;rfl
 |x::r,_,⟨v,vs,_,h2,h3⟩=>by unfold pkL;rw[h2.pk_id hρ,HL.pk_id hρ h3]
theorem HRel.pk_id (h:HRel F N nx o R) (hρ:∀k,k <nx→ρ k=some k) {i:Nat} {ob:Ob} (hi:Ak i o=some ob):ob.pk ρ=ob:=by
 obtain⟨_,h2⟩:=h.ob i ob hi
 cases ob with
 |box e cs=>
  obtain⟨vs,h1,_⟩:=h2
  show Ob.box e (pkL ρ cs)=_
  rw[h1.pk_id hρ]
 |deep e c l=>rfl
 | arr e size els=>
  cases els with
  |ty c l=>rfl
  | lst cs=>
   obtain⟨zs,_,h3⟩:=h2
   show Ob.arr e size (.lst (cs.map (pkL ρ)))=_
   congr 2
   apply List.ext_getElem?
   intro k
   rw[List.getElem?_map]
   cases hk:cs[k]? with
   |none=>rfl
   | some c=>
    have hk':k <cs.length:=(List.getElem?_eq_some_iff.1 hk).1
    have:=(h3 k hk').pk_id hρ
    have e:(Els.lst cs).nth k=c:=by
     show GV cs k=c
     rw[CX,List.getD_eq_getElem?_getD,hk]
     rfl
    rw[e] at this
    exact congrArg some this
 |map k v l=>rfl
 |sit s pos=>rfl
 |rcd e xs=>
  obtain⟨us,h1,_⟩:=h2
  show Ob.rcd e (pkL ρ xs)=_
  rw[h1.pk_id hρ]
 |abs m c l=>rfl
end
def MD (nb:Nat) (L:Gs) (o ob:Objs):Objs:=Aop nb L o L++(X4 nb L o (WP o ob.length)++ob)
theorem Awu {F:Nat→Prop} {N:Nm} {nb n nx':Nat} {o ob d:Objs} {R:World} {L:Gs} (h:HRel F N n o R) (h0:Mb nb nx' L=true) (hnb:nb≤nx') (hd:o=d++ob) {F0:Nat→Prop} {N0:Nm} {R0:World} (hb:HRel F0 N0 nb ob R0):
  HRel F (nm2 N nb L) nx' (MD nb L o ob) R∧∀g,Foot (nm2 N nb L) (MD nb L o ob) g→Foot N o g:=by
 have small:∀k,k <nb→R6 nb L k=some k:=fun k hk=>by unfold R6;rw[show Nat.blt k nb=true from Nat.ble_eq_true_of_le hk];rfl
 refine h.pk (pk2 h0 hnb) fun j ob' hj=>?_
 unfold MD at hj
 rcases JN hj with⟨_,h1⟩|⟨_,h1⟩
 ·obtain⟨k,x,h2,h3,h4⟩:=XU h1
  exact⟨k,x,A4v h0 h2,h3,h4⟩
 ·rcases JN h1 with⟨_,h2⟩|⟨h2,h3⟩
  ·obtain⟨h3,x,h4,h5⟩:=Qt h2
   exact⟨j,x,small j h3,h4,h5⟩
  ·have h4:=(hb.ob j ob' h3).1
   refine⟨j,ob',small j h4,?_,(hb.pk_id small h3).symm⟩
   subst hd
   rw[Tr fun hm=>h2 (Qc h4 hm)]
   exact h3
end Go.Proofs.YtifkbgkbajncjaaDoor
namespace Go.Proofs.YtifkbgkbajncjaaDoor
open Go.RowKit
def A8d (E:Env) (s:St):ResultVar→R2
 | .tmp t=>match s.ev [] (.tmp t) with
  |some x=>some (x,[])
  |none=>none
 | .cell a t=>Abk E s [] t (.tmp a)
def A03 (E:Env) (s:St):List ResultVar→Option (List A×List Prop)
 | []=>some ([],[])
 | r::rs=>match A8d E s r with
  |some (v,ps)=>match A03 E s rs with
   |some (vs,qs)=>some (v::vs,ps++qs)
   |none=>none
  |none=>none
def Asu:List A→A
 | [x]=>x
 |l=>match Akj l with
  |some vs=> .v (.tuple vs.toArray)
  |none=> .tup l
def A1z:List Value→Value
 | [v]=>v
 |l=> .tuple l.toArray
def A8c (tmps:Array Value):ResultVar→Sem Value
 | .tmp t=>pure (tmps.getD t undef)
 | .cell a t=>do loadVar t (←asAddr (tmps.getD a undef))
theorem Asg (fn:Func) (tmps:Array Value):results fn tmps=(do let vs ←fn.results.mapM (A8c tmps);pure (if h:vs.size=1 then vs[0] else .tuple vs)):=rfl
section
variable {E:Env} {Z:Base} {F:Nat→Prop} {N:Nm} {s:St} {a:Act} {R:World}
theorem A5f {nx:Nat} {l:List A} {vs:List Value} (h:HL F N nx R l vs):Hv F N nx R (Asu l) (A1z vs):=by
 match l,h with
 | [],h=>
  rw[h.inv0]
  exact .v _
 | [x],h=>
  obtain⟨v,us,rfl,h2,h3⟩:=h.inv
  rw[h3.inv0]
  exact h2
 | x::y::r,h=>
  obtain⟨v,us,rfl,h2,h3⟩:=h.inv
  obtain⟨w,ws,rfl,h4,h5⟩:=h3.inv
  show Hv F N nx R (match Akj (x::y::r) with|some vs=> .v (.tuple vs.toArray)|none=> .tup (x::y::r)) (.tuple (v::w::ws).toArray)
  split
  ·rename_i us hu
   rw[Akk hu h]
   exact .v _
  ·exact Hv.of_tup h
theorem A4w (h:Rel Z F N s a R) {r:ResultVar} {x:A} {ps:List Prop} (he:A8d E s r=some (x,ps)) (hp:∀p∈ps,p):∃v,Hv F N s.nx R x v∧(A8c a.tmps r).run E.P R=.ok v R:=by
 cases r with
 |tmp t=>
  unfold A8d at he
  simp only at he
  split at he<;>first|(cases he;done)|skip
  rename_i z hz
  cases he
  exact⟨_,(AQ h (F7 _) hz).2,rfl⟩
 |cell c t=>
  obtain⟨v,h1,h2⟩:=Auj h (F7 _) he hp
  refine⟨v,h1,?_⟩
  have h3:(Instr.loadAt t (a.tmps.getD c undef)).run E.P R=.ok v R:=h2 R (Below.refl _ _)
  show(do loadVar t (←asAddr (a.tmps.getD c undef)):Sem Value).run E.P R=_
  unfold Instr.loadAt at h3
  generalize a.tmps.getD c undef=p at*
  cases p<;>first|(simp[Instr.sureAddr] at h3;done)|skip
  rename_i ad
  cases ad with
  |none=>simp[Instr.sureAddr] at h3
  |some ad=>simpa[Instr.sureAddr,asAddr] using h3
theorem Au6 (h:Rel Z F N s a R):∀{l:List ResultVar} {xs:List A} {ps:List Prop},A03 E s l=some (xs,ps)→(∀p∈ps,p)→∃vs,HL F N s.nx R xs vs∧(l.mapM (A8c a.tmps)).run E.P R=.ok vs R
 | [],xs,ps,he,_=>by cases he;exact⟨[],HL.nil,rfl⟩
 |r::rs,xs,ps,he,hp=>by
  unfold A03 at he
  split at he<;>first|(cases he;done)|skip
  rename_i x ps1 h1
  split at he<;>first|(cases he;done)|skip
  rename_i xs1 qs h2
  cases he
  obtain⟨v,g1,g2⟩:=A4w h h1 fun p hm=>hp p (List.mem_append.2 (.inl hm))
  obtain⟨vs,g3,g4⟩:=Au6 h h2 fun p hm=>hp p (List.mem_append.2 (.inr hm))
  refine⟨v::vs,HL.cons g1 g3,?_⟩
  rw[List.mapM_cons]
  simp only[Sem.run_bind,g2,Result.andThen_ok,g4,Sem.run_pure]
theorem Ash (h:Rel Z F N s a R) {fn:Func} {xs:List A} {ps:List Prop} (he:A03 E s fn.results.toList=some (xs,ps)) (hp:∀p∈ps,p):∃v,Hv F N s.nx R (Asu xs) v∧(results fn a.tmps).run E.P R=.ok v R:=by
 obtain⟨vs,h1,h2⟩:=Au6 h he hp
 refine⟨A1z vs,A5f h1,?_⟩
 rw[Asg,Array.mapM_eq_mapM_toList]
 simp only[Sem.run_bind,Sem.run_map,h2,Result.andThen_ok,Sem.run_pure]
 congr 1
 match vs with
 | []=>simp[A1z]
 | [x]=>simp[A1z]
 |x::y::r=>simp[A1z]
end
def NS (nb:Nat) (o:Objs):Nat→A→List Nat
 |0,_=>[]
 | d+1,x=>match x with
  | .sq i| .vw i _ _ _ _| .el i _ _ _| .own i _| .ownx i _ _ _| .mp i| .dq i| .iv i _| .de i _ _ _| .ie i _ _ _ _| .vr i _ _ _| .vd i _ _ _=>bif Nat.blt i nb then[] else i::(match Ak i o with
   |some (.box _ cs)=>cs.flatMap (NS nb o d)
   |some (.rcd _ cs)=>cs.flatMap (NS nb o d)
   |some (.arr _ _ (.lst cs))=>cs.flatMap fun l=>l.flatMap (NS nb o d)
   |_=>[])
  | .agg xs=>xs.flatMap (NS nb o d)
  | .rv xs=>xs.flatMap (NS nb o d)
  | .tup xs=>xs.flatMap (NS nb o d)
  | .fn _ xs ys=>xs.flatMap (NS nb o d)++ys.flatMap (NS nb o d)
  |_=>[]
def A02 (nb:Nat) (o:Objs):List Nat→List Nat
 | []=>[]
 |k::r=>(bif Nat.blt k nb then(match Ak k o with
  |some (.box _ cs)=>cs.flatMap (NS nb o 4)
  |some (.rcd _ cs)=>cs.flatMap (NS nb o 4)
  |some (.arr _ _ (.lst cs))=>cs.flatMap fun l=>l.flatMap (NS nb o 4)
  |_=>[]) else[])++A02 nb o r
def Aup:List Nat→Nat→Gs→Gs
 | [],_,L=>L
 |k::r,j,L=>match fwd L k with
  |some _=>Aup r j L
  |none=>Aup r (j+1) (L++[(k,j)])
def ZV:Bh→Bool
 | []=>true
 |(none,_,_)::r=>ZV r
 |_=>false
theorem ON:∀{o:Bh} {i:Nat},ZV o=true→AF (some i) o=none
 | [],_,_=>rfl
 |(none,_,_)::r,i,h=>ON (o:=r) h
 |(some _,_,_)::_,_,h=>by cases h
def A7p (W:List Nat) (s0:St) (r:V0):Option St:=bif ZV r.outs then(match AF none r.outs,r.nrm with
 |some (_,s),none=>some s
 |none,some s=>some s
 |some (c,s),some s'=>some (G6 (A9 c) W s0 s s')
 |none,none=>none) else none
def A7v (k:Nat) (s0 s:St) (x:A) (ps:List Prop) (L:Gs):Option CJ:=
 bif Mb s0.nx (s0.nx+L.length) L then some (k,x.pk (R6 s0.nx L),s0.nx+L.length,MD s0.nx L s.o s0.o,ps) else none
def A7w (E:Env) (fn:Func) (k:Nat) (W:List Nat) (s0:St) (r:V0):Option CJ:=match A7p W s0 r with
 |some s=>match A03 E s fn.results.toList with
  |some (l,ps)=>A7v k s0 s (Asu l) (r.ps++ps) (Aup (NS s0.nx s.o 6 (Asu l)++A02 s0.nx s.o (WP s.o s0.o.length)) s0.nx [])
  |none=>none
 |none=>none
def ZY:Nat→List A→Fu
 |_,[]=>[]
 |k,x::r=>(k,x)::ZY (k+1) r
def LX (n:Nat) (args:List A) (nx:Nat) (o:Objs):St:=⟨n,nx,ZY 0 args,o⟩
def Az0:Objs→Bool
 | []=>true
 |_=>false
def I6 (E:Env) (u:Nat) (f:FuncId) (args:List A) (nx:Nat) (o:Objs):Option CJ:=match E.P.funcs[f]? with
 |some fn=>match fn.body with
  |some c=>bif Nat.ble args.length fn.ntmps then A7w E fn (bif Az0 o then 1 else 2) (MW c) (LX fn.ntmps args nx o) (evC E u c (LX fn.ntmps args nx o)) else none
  |none=>none
 |none=>none
theorem Abo {u:Nat} {x:A}:∀{l:List A} {k:Nat},B5 u (ZY k l)=some x→∃i,u=k+i∧l[i]?=some x
 | [],_,h=>by cases h
 | y::r,k,h=>by
  have h':(bif Nat.beq k u then some y else B5 u (ZY (k+1) r))=some x:=h
  cases hb:Nat.beq k u with
  |true=>
   rw[hb] at h'
   exact⟨0,(Nat.eq_of_beq_eq_true hb).symm,h'⟩
  |false=>
   rw[hb] at h'
   obtain⟨i,h1,h2⟩:=Abo h'
   exact⟨i+1,by omega,h2⟩
theorem Azy {n nx:Nat} {args:List A} {o:Objs} {vs:List Value} {F:Nat→Prop} {N:Nm} {R:World} (hl:args.length≤n) (hh:HRel F N nx o R) (ha:HL F N nx R args vs):
  Rel ⟨F,N,nx,o,R,A1 {tmps:=vs.toArray++Array.replicate (n - vs.toArray.size) undef,defers:=[]},fun _=>True⟩ F N (LX n args nx o) {tmps:=vs.toArray++Array.replicate (n - vs.toArray.size) undef,defers:=[]} R:=by
 have hlen:=ha.length
 refine⟨rfl,?_,fun u x hu=>?_,hh,.refl,fun _ _=>rfl⟩
 ·show(vs.toArray++Array.replicate (n - vs.toArray.size) undef).size=n
  simp
  omega
 ·obtain⟨i,h1,h2⟩:=Abo hu
  obtain rfl:u=i:=by omega
  obtain⟨v,h3,h4⟩:=ha.get h2
  have hu':u <vs.length:=(List.getElem?_eq_some_iff.1 h3).1
  have:A1 {tmps:=vs.toArray++Array.replicate (n - vs.toArray.size) undef,defers:=[]} u=v:=by
   unfold A1
   simp only[Array.getD_eq_getD_getElem?]
   rw[Array.getElem?_append_left (by simpa using hu'),List.getElem?_toArray,h3]
   rfl
  rw[this]
  exact(Ab h4.isPlain).2 h4
section
variable {E:Env}
theorem A3l {Z:Base} {F:Nat→Prop} {N:Nm} {a0:Act} {R0:World} {W:List Nat} {s0:St} (h0:Rel Z F N s0 a0 R0) {r:V0} (hw:Wf s0 r) {s:St} (he:A7p W s0 r=some s) {e:Exit} {x:St} {a:Act} {R:World} (ho:Oc r e x) (hx:At (ID F N s0 a0 R0 W) a R x):
  (e=.ret∨e=.normal)∧At (ID F N s0 a0 R0 W) a R s∧Sub s0 s:=by
 unfold A7p at he
 cases hr:ZV r.outs with
 |false=>rw[hr] at he;cases he
 | true=>
  rw[hr] at he
  simp only[cond_true] at he
  split at he<;>first|(cases he;done)|skip
  ·rename_i c s' hg hn
   cases he
   rcases ho with⟨t,c',rfl,h1,h2,h3⟩|⟨rfl,h1,h2⟩
   ·cases t with
    |none=>rw[hg] at h1;cases h1;exact⟨.inl rfl,hx,hw.outs _ _ _ hg⟩
    |some i=>rw[ON hr] at h1;cases h1
   ·rw[hn] at h1;cases h1
  ·rename_i hg hn
   cases he
   rcases ho with⟨t,c',rfl,h1,h2,h3⟩|⟨rfl,h1,h2⟩
   ·cases t with
    |none=>rw[hg] at h1;cases h1
    |some i=>rw[ON hr] at h1;cases h1
   ·rw[hn] at h1;cases h1;exact⟨.inr rfl,hx,hw.nrm _ hn⟩
  ·rename_i c s1 s2 hg hn
   cases he
   rcases ho with⟨t,c',rfl,h1,h2,h3⟩|⟨rfl,h1,h2⟩
   ·cases t with
    |none=>
     rw[hg] at h1;cases h1
     exact⟨.inl rfl,Ms (g:=A9 c) h0 (hw.outs _ _ _ hg) (hw.nrm _ hn) (by rw[h2];rfl) _ _ hx,Sub.merge _ _ _ _ _⟩
    |some i=>rw[ON hr] at h1;cases h1
   ·rw[hn] at h1
    cases h1
    exact⟨.inr rfl,Ms (g:=A9 c) h0 (hw.outs _ _ _ hg) (hw.nrm _ hn) (by rw[h2 _ _ _ hg];rfl) _ _ hx,Sub.merge _ _ _ _ _⟩
theorem AW (ok:N8 E) {u:Nat} {f:FuncId} {args:List A} {nx:Nat} {o:Objs} {k nx':Nat} {x:A} {o':Objs} {ps:List Prop} (he:I6 E u f args nx o=some (k,x,nx',o',ps)) (hp:∀p∈ps,p):
  CallOk E.P f args nx o k x nx' o':=by
 unfold I6 at he
 split at he<;>first|(cases he;done)|skip
 rename_i fn hf
 split at he<;>first|(cases he;done)|skip
 rename_i c hc
 cases hl:Nat.ble args.length fn.ntmps with
 |false=>rw[hl] at he;cases he
 | true=>
  rw[hl] at he
  simp only[cond_true] at he
  have hle:=Nat.le_of_ble_eq_true hl
  generalize hk0:(bif Az0 o then 1 else 2)=k0 at he
  generalize hr:evC E u c (LX fn.ntmps args nx o)=r at he
  unfold A7w at he
  split at he<;>first|(cases he;done)|skip
  rename_i s hs
  split at he<;>first|(cases he;done)|skip
  rename_i l qs hres
  generalize Aup (NS (LX fn.ntmps args nx o).nx s.o 6 (Asu l)++A02 (LX fn.ntmps args nx o).nx s.o (WP s.o (LX fn.ntmps args nx o).o.length)) (LX fn.ntmps args nx o).nx []=L at he
  unfold A7v at he
  cases hok:Mb (LX fn.ntmps args nx o).nx ((LX fn.ntmps args nx o).nx+L.length) L with
  |false=>rw[hok] at he;cases he
  | true=>
   rw[hok] at he
   cases he
   intro F N R vs hh ha
   ·have h0:=Azy hle hh ha
    have hlen:=ha.length
    refine calls_of_wp hf hc ?_
    have hwf:=EF ok (u:=u) 0 c false (LX fn.ntmps args nx o)
    have hr':MY E u 0 c false (LX fn.ntmps args nx o)=r:=hr
    rw[hr'] at hwf
    have key:=GW ok (u:=u) 0 c false (ID F N (LX fn.ntmps args nx o) {tmps:=vs.toArray++Array.replicate (fn.ntmps - vs.toArray.size) undef,defers:=[]} R (MW c)) (LX fn.ntmps args nx o) {tmps:=vs.toArray++Array.replicate (fn.ntmps - vs.toArray.size) undef,defers:=[]} R
     (bodyPost E.P fn fun e R'=>∃y F' N',e=.returned y∧HRel F' N' (nx+L.length) (MD nx L s.o o) R'∧Step F N nx o R F' N' (nx+L.length) (MD nx L s.o o) R'∧Hv F' N' (nx+L.length) R' ((Asu l).pk (R6 nx L)) y∧(k≤1→Below R.heap.size R R')) ⟨F,N,h0.start _⟩ (fun u hu=>hu) (by rw[hr'];exact fun p hm=>hp p (List.mem_append.2 (.inl hm)))
    refine key fun e z a' R' ho hz=>?_
    rw[hr'] at ho
    obtain⟨h1,⟨F',N',h2⟩,h3⟩:=A3l h0 hwf hs ho hz
    obtain⟨y,g1,g2⟩:=Ash h2 hres fun p hm=>hp p (List.mem_append.2 (.inr hm))
    obtain⟨d,hd⟩:=h3.seq
    have hd':s.o=d++o:=hd
    obtain⟨q1,q2⟩:=Awu (nb:=nx) (nx':=nx+L.length) (L:=L) h2.hp hok (Nat.le_add_right _ _) hd' hh
    have hst:Step F N nx o R F' N' s.nx s.o R':=h2.st
    have small:∀k,k <nx→Aa8 nx L k=k:=fun k hk=>by unfold Aa8;rw[show Nat.blt k nx=true from Nat.ble_eq_true_of_le hk];rfl
    have hst2:Step F N nx o R F' (nm2 N' nx L) (nx+L.length) (MD nx L s.o o) R':=⟨Nat.le_add_right _ _,fun i hi=>by show N'.b (Aa8 nx L i)=_;rw[small i hi];exact hst.b i hi,fun i hi=>by show N'.q (Aa8 nx L i)=_;rw[small i hi];exact hst.q i hi,hst.f,hst.fnew,fun g hg=>hst.foot g (q2 g hg),hst.os,hst.tape,hst.output,hst.size,hst.keep⟩
    have post:a'.defers=[]∧∃v,(results fn a'.tmps).run E.P R'=.ok v R'∧∃y F' N',Ending.returned v=.returned y∧HRel F' N' (nx+L.length) (MD nx L s.o o) R'∧Step F N nx o R F' N' (nx+L.length) (MD nx L s.o o) R'∧Hv F' N' (nx+L.length) R' ((Asu l).pk (R6 nx L)) y∧(k≤1→Below R.heap.size R R'):=by
     refine⟨h2.defers,y,g2,y,F',nm2 N' nx L,rfl,q1,hst2,g1.pk (pk2 hok (Nat.le_add_right _ _)),fun hk=>?_⟩
     cases o with
     |nil=>exact hst.below
     |cons p r=>rw[←hk0] at hk;cases hk with|step hk=>cases hk
    rcases h1 with rfl|rfl
    ·exact post
    ·exact post
theorem A3t {u:Nat} {f:FuncId} {args:List A} {nx:Nat} {o:Objs} {k nx':Nat} {x:A} {o':Objs} {ps:List Prop} (he:I6 E u f args nx o=some (k,x,nx',o',ps)):∃d,o'=d++o:=by
 unfold I6 at he
 split at he<;>first|(cases he;done)|skip
 split at he<;>first|(cases he;done)|skip
 rename_i c hc
 replace he:=AY he
 unfold A7w at he
 split at he<;>first|(cases he;done)|skip
 rename_i s hs
 split at he<;>first|(cases he;done)|skip
 unfold A7v at he
 replace he:=AY he
 cases he
 exact⟨_,by unfold MD;rw[←List.append_assoc];rfl⟩
end
def IV (P:Program) (f:FuncId) (g:List A→Nat→Objs→Option CJ):Prop:=
 ∀args nx o k x nx' o' ps,g args nx o=some (k,x,nx',o',ps)→((∀p∈ps,p)→CallOk P f args nx o k x nx' o')∧∃d,o'=d++o
def FM (P:Program) (C:Tab):Prop:=∀f args nx o k x nx' o' ps,C f args nx o=some (k,x,nx',o',ps)→((∀p∈ps,p)→CallOk P f args nx o k x nx' o')∧∃d,o'=d++o
def Ayh (P:Program) (eq:TypeId→List Value→List Value→Option Bool):Prop:=
 ∀t xs ys b,eq t xs ys=some b→P.eqGuardType P.depth t=false∧∀R,(Op.equalIn 10000 t (.agg xs.toArray) (.agg ys.toArray)).run P R=.ok b R
def Bar (P:Program) (tc:TypeId→Option TC):Prop:=
 ∀t c,tc t=some c→∃i,P.info? t=some i∧i.size=size c∧0 <size c∧∃z,i.zero=some z∧∀(F:Nat→Prop) (N:Nm) (nx:Nat) (R:World),HL F N nx R (enc c (Aj c)) z.cells.toList
abbrev Aij:=Nat→St→Option (Code×List Prop×Bh)
def C0:Tab:=fun _ _ _ _=>none
theorem Af2 {P:Program}:FM P C0:=fun _ _ _ _ _ _ _ _ _ h=>by cases h
def L0:Aij:=fun _ _=>none
def CA (f0:FuncId) (g:List A→Nat→Objs→Option CJ) (C:Tab):Tab:=fun f args nx o=>bif Nat.beq f f0 then g args nx o else C f args nx o
theorem Az {P:Program} {f0:FuncId} {g:List A→Nat→Objs→Option CJ} {C:Tab} (hg:IV P f0 g) (hC:FM P C):FM P (CA f0 g C):=fun f args nx o k x nx' o' ps h=>by
 unfold CA at h
 cases hb:Nat.beq f f0 with
 |true=>
  rw[hb] at h
  rw[Nat.eq_of_beq_eq_true hb]
  exact hg args nx o k x nx' o' ps h
 |false=>rw[hb] at h;exact hC f args nx o k x nx' o' ps h
theorem N0 {p:Prop} {ps:List Prop} (h:∀q∈p::ps,q):p:=h _ (List.mem_cons_self ..)
theorem N1 {p:Prop} {ps:List Prop} (h:∀q∈p::ps,q):∀q∈ps,q:=fun q hq=>h q (List.mem_cons_of_mem _ hq)
theorem Am:∀p∈([]:List Prop),p:=fun _ h=>by cases h
theorem Aa {p:Prop} {ps:List Prop} (h:p) (t:∀q∈ps,q):∀q∈p::ps,q:=fun q hq=>by
 rcases List.mem_cons.1 hq with rfl|hq
 ·exact h
 ·exact t q hq
theorem Uc {P:Program} {f:FuncId} {args:List A} {nx k nx':Nat} {x:A} {o o':Objs} (h:CallOk P f args nx [] k x nx' o') (hk:k≤1):CallOk P f args nx o 1 x nx' (o'++o):=fun F N R vs hh ha=>by
 refine(h F N R vs (hh.noObj) ha).mono fun e R' ⟨y,F',N',e1,e2,e3,e4,e5⟩=>?_
 obtain⟨g1,g2⟩:=hh.frame (o1:=[]) (o':=o'++o) (fun i ob hi=>by cases hi) e3 e2 fun i ob hi=>by
  rcases JN hi with⟨_,h1⟩|⟨_,h1⟩
  ·exact .inl h1
  ·exact .inr ⟨h1,rfl⟩
 exact⟨y,F',N',e1,g1,g2,e4,fun _=>e5 hk⟩
def TS (nx:Nat):Nat→Option Nat:=fun i=>some (nx+i)
def TR (nx:Nat):Objs→Objs
 | []=>[]
 |(k,some ob)::r=>(nx+k,some (ob.pk (TS nx)))::TR nx r
 |(k,none)::r=>(nx+k,none)::TR nx r
theorem XV {nx j:Nat} {ob':Ob}:∀{o:Objs},Ak j (TR nx o)=some ob'→∃i ob,j=nx+i∧Ak i o=some ob∧ob'=ob.pk (TS nx)
 | [],h=>by cases h
 | (k,x)::r,h=>by
  have step:∀z,(bif Nat.beq (nx+k) j then z else Ak j (TR nx r))=some ob'→(∀ob,x=some ob→z=some (ob.pk (TS nx)))→(x=none→z=none)→∃i ob,j=nx+i∧(bif Nat.beq k i then x else Ak i r)=some ob∧ob'=ob.pk (TS nx):=fun z hz h1 h2=>by
   cases hb:Nat.beq (nx+k) j with
   | true=>
    rw[hb] at hz
    obtain rfl:=Nat.eq_of_beq_eq_true hb
    cases x with
    |none=>rw[h2 rfl] at hz;cases hz
    |some ob=>
     rw[h1 ob rfl] at hz
     cases hz
     exact⟨k,ob,rfl,by rw[JH];rfl,rfl⟩
   |false=>
    rw[hb] at hz
    obtain⟨i,ob,rfl,h3,h4⟩:=XV hz
    refine⟨i,ob,rfl,?_,h4⟩
    rw[Aab fun e=>by subst e;simp at hb]
    exact h3
  cases x with
  |some ob=>exact step _ h (fun ob' e=>by cases e;rfl) (fun e=>by cases e)
  |none=>exact step _ h (fun ob' e=>by cases e) (fun _=>rfl)
theorem Ud {P:Program} {f:FuncId} {args:List A} {k m:Nat} {x:A} {os:Objs} (h:CallOk P f args 0 [] k x m os) (hk:k≤1) (hf:freeL args=true) (nx:Nat) (o:Objs):CallOk P f args nx o 1 (x.pk (TS nx)) (nx+m) (TR nx os++o):=by
 refine Uc (k:=1) (fun F N R vs hh ha=>?_) (Nat.le_refl _)
 refine(h F N R vs hh.noObj (ha.free hf)).mono fun e R' ⟨y,F',N',e1,e2,e3,e4,e5⟩=>?_
 let N2:Nm:=⟨fun i=>bif Nat.blt i nx then N.b i else N'.b (i - nx),fun i=>bif Nat.blt i nx then N.q i else N'.q (i - nx)⟩
 have hbt:∀i,Nat.blt (nx+i) nx=false:=fun i=>by
  cases hb:Nat.blt (nx+i) nx with
  |false=>rfl
  |true=>exact absurd (Nat.le_of_ble_eq_true hb) (by omega)
 have st:Pk (TS nx) N' m N2 (nx+m):=fun i j hi hj=>by
  cases hj
  refine⟨by omega,?_,?_⟩
  ·show(bif Nat.blt (nx+i) nx then N.b (nx+i) else N'.b (nx+i - nx))=_
   rw[hbt,Nat.add_sub_cancel_left];rfl
  ·show(bif Nat.blt (nx+i) nx then N.q (nx+i) else N'.q (nx+i - nx))=_
   rw[hbt,Nat.add_sub_cancel_left];rfl
 obtain⟨g1,g2⟩:=e2.pk (o':=TR nx os) st fun j ob' hj=>by
  obtain⟨i,ob,rfl,h3,h4⟩:=XV hj
  exact⟨i,ob,rfl,h3,h4⟩
 have hlt:∀i,i <nx→Nat.blt i nx=true:=fun i hi=>Nat.ble_eq_true_of_le hi
 refine⟨y,F',N2,e1,g1,⟨Nat.le_add_right _ _,fun i hi=>by show(bif Nat.blt i nx then N.b i else _)=_;rw[hlt i hi];rfl,fun i hi=>by show(bif Nat.blt i nx then N.q i else _)=_;rw[hlt i hi];rfl,e3.f,fun g hg=>?_,fun g hg=>?_,e3.os,e3.tape,e3.output,e3.size,fun g hg hn=>e3.keep g hg fun⟨i,ob,hi,_⟩=>by cases hi⟩,e4.pk st,fun _=>e5 hk⟩
 ·rcases e3.fnew g hg with h1|⟨i,ob,hi,_⟩|h1
  ·exact .inl h1
  ·cases hi
  ·exact .inr (.inr h1)
 ·rcases e3.foot g (g2 g hg) with⟨i,ob,hi,_⟩|h1
  ·cases hi
  ·exact .inr h1
def inl (E:Env) (u:Nat) (f:FuncId):List A→Nat→Objs→Option CJ:=fun args nx o=>
 bif freeL args then(match I6 E u f args nx [] with
  |some (k,x,nx',o',ps)=>bif Nat.ble k 1 then some (1,x,nx',o'++o,ps) else none
  |none=>none) else I6 E u f args nx o
theorem Wv {E:Env} (ok:N8 E) (u:Nat) (f:FuncId):IV E.P f (inl E u f):=fun args nx o k x nx' o' ps h=>by
 unfold inl at h
 cases hf:freeL args with
 | true=>
  rw[hf] at h
  simp only[cond_true] at h
  split at h<;>first|(cases h;done)|skip
  rename_i k1 x1 nx1 o1 ps1 he
  cases hk:Nat.ble k1 1 with
  |false=>rw[hk] at h;cases h
  |true=>
   rw[hk] at h
   cases h
   exact⟨fun hp=>Uc (AW ok he hp) (Nat.le_of_ble_eq_true hk),_,rfl⟩
 |false=>
  rw[hf] at h
  exact⟨fun hp=>AW ok h hp,A3t h⟩
end Go.Proofs.YtifkbgkbajncjaaDoor
namespace Go.Proofs.YtifkbgkbajncjaaDoor
open Go.RowKit
inductive Dir where
 |frz (i:Nat)
 |nil (u:Nat) (t:TypeId) (c:TC)
 |nilB (b j:Nat) (t:TypeId) (c:TC)
 |ty (i:Nat) (c:TC)
 |nilF (u:Nat) (c:TC)
 |nilFB (b j:Nat) (c:TC)
 |nilD (u:Nat) (t:TypeId) (c:TC)
 |seg (i:Nat) (p:List (Option (TC×Nat)))
 |avd (u:Nat) (c:TC) (n:Nat)
 |nilR (b j:Nat) (t:TypeId) (c:TC)
 |nilE (b j:Nat) (t:TypeId) (c:TC)
 |arrP (u:Nat)
def Av4 (c:TC):List A→Option (List (U c)×List Prop)
 | []=>some ([],[])
 |x::r=>match MX c [x],Av4 c r with
  |some (d,ps),some (l,qs)=>some (d::l,ps++qs)
  |_,_=>none
theorem ZL {F:Nat→Prop} {N:Nm} {nx:Nat} {R:World} {c:TC} (h1:c.one=true):∀{cs:List A} {vs:List Value} {l:List (U c)} {ps:List Prop},HL F N nx R cs vs→Av4 c cs=some (l,ps)→(∀p∈ps,p)→l.length=cs.length∧vs=l.map (sv c)
 | [],vs,l,ps,h,he,_=>by
  cases he
  exact⟨rfl,h.inv0⟩
 |x::r,vs,l,ps,h,he,hp=>by
  obtain⟨y,ys,rfl,g1,g2⟩:=h.inv
  unfold Av4 at he
  split at he<;>first|(cases he;done)|skip
  rename_i d qs l' qs' hd hl
  cases he
  obtain⟨k1,k2⟩:=ZL h1 g2 hl fun p hm=>hp p (List.mem_append.2 (.inr hm))
  have h5:=Ti hd (fun p hm=>hp p (List.mem_append.2 (.inl hm))) _ (HL.cons g1 HL.nil)
  rw[Wk h1] at h5
  obtain⟨v',vs',w1,w2,_⟩:=h5.inv
  cases w1
  refine⟨by rw[List.length_cons,List.length_cons,k1],?_⟩
  rw[List.map_cons,←w2.v_inv,k2]
def Adx:List (Option (TC×Nat))→List A→Option (List A×List Prop)
 | [],[]=>some ([],[])
 |none::p,.v x::r=>bif x.oneCell' then(match Adx p r with
  |some (l,ps)=>some (.v x::l,ps)
  |none=>none) else none
 |none::p,.sl c l::r=>match Adx p r with
  |some (xs,ps)=>some (.sl c l::xs,ps)
  |none=>none
 |none::p,.nl::r=>match Adx p r with
  |some (xs,ps)=>some (.nl::xs,ps)
  |none=>none
 |some (c,n)::p,cs=>bif c.one&&Nat.ble n cs.length then(bif Nat.blt 64 n&&S4 c (cs.take n) then(match Adx p (cs.drop n) with
  |some (r,qs)=>some (.av c n (List.replicate n (Aj c))::r,qs)
  |none=>none) else(match Av4 c (cs.take n),Adx p (cs.drop n) with
  |some (l,ps),some (r,qs)=>some (.av c n l::r,ps++qs)
  |_,_=>none)) else none
 |_,_=>none
theorem RL {F:Nat→Prop} {N:Nm} {nx:Nat} {R:World}:∀{p:List (Option (TC×Nat))} {cs:List A} {vs:List Value} {xs:List A} {ps:List Prop},HL F N nx R cs vs→Adx p cs=some (xs,ps)→(∀p∈ps,p)→HW F N nx R xs vs
 | [],cs,vs,xs,ps,h,he,_=>by
  cases cs with
  |nil=>cases he;exact h.inv0
  |cons x r=>cases he
 | none::p,cs,vs,xs,ps,h,he,hp=>by
  cases cs with
  |nil=>cases he
  | cons x r=>
   obtain⟨y,ys,rfl,g1,g2⟩:=h.inv
   cases x<;>first|(cases he;done)|skip
   ·rename_i x
    unfold Adx at he
    cases ho:x.oneCell' with
    |false=>rw[ho] at he;cases he
    |true=>
     rw[ho,cond_true] at he
     split at he<;>first|(cases he;done)|skip
     rename_i l qs hl
     cases he
     have e:=g1.v_inv
     subst e
     exact⟨y,ys,by rw[FY ho];rfl,g1,fun _=>ho,RL g2 hl hp⟩
   ·unfold Adx at he
    split at he<;>first|(cases he;done)|skip
    rename_i l qs hl
    cases he
    obtain⟨a,cap,e,_⟩:=g1.sl_inv
    have ho:y.oneCell'=true:=by rw[e];rfl
    exact⟨y,ys,by rw[FY ho];rfl,g1,fun _=>ho,RL g2 hl hp⟩
   ·unfold Adx at he
    split at he<;>first|(cases he;done)|skip
    rename_i l qs hl
    cases he
    obtain⟨a,e⟩:=g1.nl_inv
    have ho:y.oneCell'=true:=by rw[e];rfl
    exact⟨y,ys,by rw[FY ho];rfl,g1,fun _=>ho,RL g2 hl hp⟩
 | some (c,n)::p,cs,vs,xs,ps,h,he,hp=>by
  unfold Adx at he
  cases hb:(c.one&&Nat.ble n cs.length) with
  |false=>rw[hb] at he;cases he
  |true=>
   rw[hb,cond_true] at he
   rw[Bool.and_eq_true] at hb
   have hn:=Nat.le_of_ble_eq_true hb.2
   cases hz:(Nat.blt 64 n&&S4 c (cs.take n)) with
   |true=>
   rw[hz,cond_true] at he
   rw[Bool.and_eq_true] at hz
   replace hz:=hz.2
   split at he<;>first|(cases he;done)|skip
   rename_i r qs hl
   cases he
   have q2:=Aej (h.take n) hz
   rw[List.length_take,Nat.min_eq_left hn] at q2
   exact⟨.agg ((List.replicate n (Aj c)).map (sv c)).toArray,vs.drop n,by rw[show(Value.agg ((List.replicate n (Aj c)).map (sv c)).toArray).cells.toList=(List.replicate n (Aj c)).map (sv c) by simp[Value.cells],←q2,List.take_append_drop],.av hb.1 (by rw[List.length_replicate]),fun e=>(by cases e),RL (h.drop n) hl hp⟩
   |false=>
   rw[hz,cond_false] at he
   split at he<;>first|(cases he;done)|skip
   rename_i l qs r qs' hd hl
   cases he
   obtain⟨q1,q2⟩:=ZL hb.1 (h.take n) hd fun p hm=>hp p (List.mem_append.2 (.inl hm))
   have q3:=RL (h.drop n) hl fun p hm=>hp p (List.mem_append.2 (.inr hm))
   rw[List.length_take,Nat.min_eq_left hn] at q1
   exact⟨.agg (l.map (sv c)).toArray,vs.drop n,by rw[show(Value.agg (l.map (sv c)).toArray).cells.toList=l.map (sv c) by simp[Value.cells],←q2,List.take_append_drop],.av hb.1 q1,fun e=>(by cases e),q3⟩
def A2z (c:TC) (n:Nat):A→Option (List (U c)×List Prop)
 | .av c' n' l=>match TC.same c' c with
  |some h=>bif Nat.beq n' n then some (IX h.down l,[]) else none
  |none=>none
 | .v (.agg xs)=>bif c.one then(match Av4 c (toL xs.toList) with
  |some (l,ps)=>bif Nat.beq xs.size n then some (l,ps) else none
  |none=>none) else none
 | .agg xs=>bif c.one then(match Av4 c xs with
  |some (l,ps)=>bif Nat.beq xs.length n then some (l,ps) else none
  |none=>none) else none
 |_=>none
theorem Atq {F:Nat→Prop} {N:Nm} {nx:Nat} {R:World} {c:TC} {n:Nat} {x:A} {l:List (U c)} {ps:List Prop} {v:Value} (he:A2z c n x=some (l,ps)) (hp:∀p∈ps,p) (h:Hv F N nx R x v):Hv F N nx R (.av c n l) v:=by
 unfold A2z at he
 split at he<;>first|(cases he;done)|skip
 ·split at he<;>first|(cases he;done)|skip
  rename_i c' n' l' _ h1 _
  obtain⟨h1⟩:=h1
  subst h1
  cases hb:Nat.beq n' n with
  |false=>rw[hb] at he;cases he
  |true=>
   rw[hb] at he
   obtain rfl:=Nat.eq_of_beq_eq_true hb
   cases he
   exact h
 ·rename_i xs
  cases h1:c.one with
  |false=>rw[h1] at he;cases he
  | true=>
   rw[h1,cond_true] at he
   split at he<;>first|(cases he;done)|skip
   rename_i l' ps' hd
   cases hb:Nat.beq xs.size n with
   |false=>rw[hb] at he;cases he
   |true=>
    rw[hb] at he
    cases he
    obtain⟨g1,g2⟩:=ZL h1 (HL.toL (F:=F) (N:=N) (nx:=nx) (R:=R) xs.toList) hd hp
    have hv:=h.v_inv
    subst hv
    have e:(Value.agg xs)=.agg (l.map (sv c)).toArray:=by rw[←g2]
    rw[e]
    refine .av h1 ?_
    rw[g1,←Nat.eq_of_beq_eq_true hb,←HL.length (HL.toL (F:=F) (N:=N) (nx:=nx) (R:=R) xs.toList)]
    simp
 ·rename_i xs
  cases h1:c.one with
  |false=>rw[h1] at he;cases he
  | true=>
   rw[h1,cond_true] at he
   split at he<;>first|(cases he;done)|skip
   rename_i l' ps' hd
   cases hb:Nat.beq xs.length n with
   |false=>rw[hb] at he;cases he
   |true=>
    rw[hb] at he
    cases he
    obtain⟨vs,rfl,h2⟩:=h.agg_inv
    obtain⟨g1,g2⟩:=ZL h1 h2 hd hp
    rw[g2]
    exact .av h1 (g1.trans (Nat.eq_of_beq_eq_true hb))
def Qa:A→Bool
 | .v x=>C7 x
 | .nl=>true
 |_=>false
def Jw:A→Bool
 | .v x=>C7 x
 |_=>false
def Kx (E:Env) (s:St):Dir→Option (St×List Prop)
 | .frz i=>Rx E i s
 | .nil u t c=>match B5 u s.t with
  |some x=>bif Qa x then some (⟨s.n,s.nx+1,(u,.sq s.nx)::s.t,(s.nx,some (.arr t (size c) (.ty c [])))::s.o⟩,[]) else none
  |none=>none
 | .nilB b j t c=>match Ak b s.o with
  |some (.box e cs)=>match cs[j]? with
   |some x=>bif Jw x then(bif Nat.blt b s.nx then some (⟨s.n,s.nx+1,s.t,(b,some (.box e (cs.set j (.sq s.nx))))::(s.nx,some (.arr t (size c) (.ty c [])))::s.o⟩,[]) else none) else none
   |none=>none
  |_=>none
 | .nilF u c=>match B5 u s.t with
  |some x=>bif Qa x then some (⟨s.n,s.nx,(u,.sl c [])::s.t,s.o⟩,[]) else none
  |none=>none
 | .nilFB b j c=>match Ak b s.o with
  |some (.box e cs)=>match cs[j]? with
   |some x=>bif Qa x then some (⟨s.n,s.nx,s.t,(b,some (.box e (cs.set j (.sl c []))))::s.o⟩,[]) else none
   |none=>none
  |_=>none
 | .ty i c=>match Ak i s.o with
  |some (.arr e sz els)=>match PY c els with
   |some (l,ps)=>some (⟨s.n,s.nx,s.t,(i,some (.arr e sz (.ty c l)))::s.o⟩,ps)
   |none=>none
  |_=>none
 | .nilD u t c=>match B5 u s.t,PO c with
  |some x,some _=>bif Jw x then some (⟨s.n,s.nx+1,(u,.dq s.nx)::s.t,(s.nx,some (.deep t c []))::s.o⟩,[]) else none
  |_,_=>none
 | .seg i p=>match Ak i s.o with
  |some (.box e cs)=>match Adx p cs with
   |some (xs,ps)=>some (⟨s.n,s.nx,s.t,(i,some (.rcd e xs))::s.o⟩,ps)
   |none=>none
  |_=>none
 | .avd u c n=>match B5 u s.t with
  |some x=>bif x.plain then(match A2z c n x with
   |some (l,ps)=>some (⟨s.n,s.nx,(u,.av c n l)::s.t,s.o⟩,ps)
   |none=>none) else none
  |none=>none
 | .nilR b j t c=>match Ak b s.o with
  |some (.rcd e xs)=>match xs[j]? with
   |some x=>bif Jw x then(bif Nat.blt b s.nx then some (⟨s.n,s.nx+1,s.t,(b,some (.rcd e (xs.set j (.sq s.nx))))::(s.nx,some (.arr t (size c) (.ty c [])))::s.o⟩,[]) else none) else none
   |none=>none
  |_=>none
 | .nilE b j t c=>match Ak b s.o,PO c with
  |some (.rcd e xs),some _=>match xs[j]? with
   |some x=>bif Jw x then(bif Nat.blt b s.nx then some (⟨s.n,s.nx+1,s.t,(b,some (.rcd e (xs.set j (.dq s.nx))))::(s.nx,some (.deep t c []))::s.o⟩,[]) else none) else none
   |none=>none
  |_,_=>none
 | .arrP u=>match B5 u s.t with
  |some (.own i 0)=>match Ak i s.o with
   |some (.box e cs)=>bif Nat.blt 0 cs.length&&Nat.ble cs.length 1000000 then some (⟨s.n,s.nx+1,(u,.el s.nx 0 1 0)::s.t,(i,none)::(s.nx,some (.arr e 1 (.lst (cs.map fun x=>[x]))))::s.o⟩,[]) else none
   |_=>none
  |_=>none
theorem HW.setItem {F:Nat→Prop} {N:Nm} {nx:Nat} {R:World} {y:A} (hy0:HH y=false):∀{xs:List A} {us:List Value} {j:Nat} {x:A},HW F N nx R xs us→xs[j]?=some x→HH x=false→(∀v,Hv F N nx R x v→Hv F N nx R y v)→HW F N nx R (xs.set j y) us
 | [],_,j,_,_,hx,_,_=>by cases j<;>cases hx
 |z::r,us,0,x,⟨v,t,h1,h2,h3,h4⟩,hx,hx0,hy=>by
  cases hx
  exact⟨v,t,h1,hy v h2,fun _=>h3 hx0,h4⟩
 |z::r,us,j+1,x,⟨v,t,h1,h2,h3,h4⟩,hx,hx0,hy=>⟨v,t,h1,h2,h3,HW.setItem hy0 (j:=j) h4 hx hx0 hy⟩
def adj (E:Env):List Dir→St→Option (St×List Prop)
 | [],s=>some (s,[])
 | d::r,s=>match Kx E s d with
  |some (s',ps)=>match adj E r s' with
   |some (s'',qs)=>some (s'',ps++qs)
   |none=>none
  |none=>none
section
variable {E:Env} {Z:Base} {F:Nat→Prop} {N:Nm} {s:St} {a:Act} {R:World}
theorem Rel.word (h:Rel Z F N s a R) {u:Nat} {x:A} (hx:Hv F N s.nx R x (A1 a u)):Rel Z F N ⟨s.n,s.nx,(u,x)::s.t,s.o⟩ a R:=
 ⟨h.defers,h.size,fun v z hv=>by
  have hv':(bif Nat.beq u v then some x else B5 v s.t)=some z:=hv
  cases hb:Nat.beq u v with
  |true=>
   rw[hb] at hv'
   obtain rfl:=Nat.eq_of_beq_eq_true hb
   cases hv'
   exact(Ab hx.isPlain).2 hx
  |false=>rw[hb] at hv';exact h.slots v z hv',h.hp,h.st,h.tm⟩
theorem UJ {x:A} (h:Qa x=true):x.plain=true:=by cases x<;>first|rfl|cases h
theorem Ww {x:A} {y:Value} {nx:Nat} (h:Qa x=true) (hx:Hv F N nx R x y):∃b,y=.slice b 0 0:=by
 cases x<;>first|(cases h;done)|skip
 ·rw[hx.v_inv,Fi h];exact⟨none,rfl⟩
 ·exact hx.nl_inv
theorem OG {x:A} {y:Value} {nx:Nat} (h:Jw x=true) (hx:Hv F N nx R x y):y=.slice none 0 0:=by
 cases x<;>first|(cases h;done)|skip
 rw[hx.v_inv,Fi h]
theorem Ae1 {x:A} (h:Jw x=true):x.plain=true:=by cases x<;>first|rfl|cases h
theorem HL.set {nx:Nat} {xs:List A} {vs:List Value} {j:Nat} {y:A} (h:HL F N nx R xs vs) (hy:∀v,vs[j]?=some v→Hv F N nx R y v):HL F N nx R (xs.set j y) vs:=by
 refine HL.of (by rw[List.length_set];exact h.length) fun i x v hx hv=>?_
 by_cases hij:j=i
 ·subst hij
  have hlt:j <xs.length:=by have:=(List.getElem?_eq_some_iff.1 hx).1;rwa[List.length_set] at this
  rw[List.getElem?_set_self hlt] at hx
  cases hx
  exact hy v hv
 ·rw[List.getElem?_set_ne hij] at hx
  obtain⟨w,h1,h2⟩:=h.get hx
  rw[hv] at h1
  cases h1
  exact h2
theorem HRel.toRow {nx:Nat} {o:Objs} (h:HRel F N nx o R) {i:Nat} {e:TypeId} {cs:List A} (hi:Ak i o=some (.box e cs)) (h0:0 <cs.length) (hmx:cs.length≤1000000):
  ∃v:Value,(DZ v).add (0*1+0)=⟨N.b i,0,none⟩∧HRel F (N.setQ nx v) (nx+1) ((i,none)::(nx,some (.arr e 1 (.lst (cs.map fun x=>[x]))))::o) R∧Step F N nx o R F (N.setQ nx v) (nx+1) ((i,none)::(nx,some (.arr e 1 (.lst (cs.map fun x=>[x]))))::o) R:=by
 obtain⟨c,hc⟩:∃c,cs.length=c+1:=⟨cs.length - 1,by omega⟩
 obtain⟨hin,vs,g1,g2⟩:=h.ob i _ hi
 have hlen:=g1.length
 let v:Value:=.slice (some ⟨N.b i,0,none⟩) (c+1) (c+1)
 have hq:∀k,k <nx→(N.setQ nx v).q k=N.q k:=fun k hk=>BY N.q _ (by omega)
 have hqm:(N.setQ nx v).q nx=v:=A3 N.q nx _
 have st:Ext F N nx R F (N.setQ nx v) (nx+1) R:=⟨by omega,fun _ _=>rfl,hq,fun _ h=>h,fun _ _=>rfl⟩
 have cases_:∀k ob,Ak k ((i,none)::(nx,some (.arr e 1 (.lst (cs.map fun x=>[x]))))::o)=some ob→(k=nx∧ob=.arr e 1 (.lst (cs.map fun x=>[x])))∨(k≠nx∧k≠i∧Ak k o=some ob):=fun k ob hk=>by
  rw[AE,AE] at hk
  by_cases hki:k=i
  ·rw[if_pos hki] at hk;cases hk
  ·rw[if_neg hki] at hk
   by_cases hkm:k=nx
   ·rw[if_pos hkm] at hk;cases hk;exact .inl ⟨hkm,rfl⟩
   ·rw[if_neg hkm] at hk;exact .inr ⟨hkm,hki,hk⟩
 have fo:∀k ob g,Ak k o=some ob→foot (N.setQ nx v) k ob g→foot N k ob g:=fun k ob g hk hg=>(Dw st (h.ob k ob hk).1).1 hg
 have fn:∀g,foot (N.setQ nx v) nx (.arr e 1 (.lst (cs.map fun x=>[x]))) g→foot N i (.box e cs) g:=fun g hg=>by
  have hg':BO ((N.setQ nx v).q nx)=some g:=hg
  rw[hqm] at hg'
  cases hg'
  rfl
 refine⟨v,by rw[Nat.zero_mul,Nat.add_zero];exact Bv _ _ _,⟨h.flt,fun k ob hk=>?_,fun k ob g hk hg=>?_,fun j k x y g hj hk hx hy=>?_,h.gl⟩,by omega,fun _ _=>rfl,hq,fun _ h=>h,fun _ h=> .inl h,fun g ⟨k,ob,hk,hg⟩=>?_,rfl,rfl,rfl,Nat.le_refl _,fun _ _ _=>rfl⟩
 ·rcases cases_ k ob hk with⟨rfl,rfl⟩|⟨_,_,hk'⟩
  ·refine⟨Nat.lt_succ_self _,vs,⟨?_,.inr ⟨N.b i,c,vs.toArray,?_,g2,?_,?_,?_,?_⟩⟩,fun k hk=>?_⟩
   ·show vs.length=(cs.map fun x=>[x]).length*1
    rw[List.length_map,Nat.mul_one];exact hlen
   ·rw[hqm]
    show v=.slice (some ⟨N.b i,0,none⟩) (cs.map fun x=>[x]).length (c+1)
    rw[List.length_map,hc]
   ·show(cs.map fun x=>[x]).length≤c+1
    rw[List.length_map];omega
   ·have:(1000000:Nat)≤maxLen:=by decide
    omega
   ·show vs.length=(c+1)*1
    omega
   ·show vs.take ((cs.map fun x=>[x]).length*1)=vs
    rw[List.length_map,Nat.mul_one,List.take_of_length_le (by omega)]
   ·have hk:k <(cs.map fun x=>[x]).length:=hk
    rw[List.length_map] at hk
    have e1:Els.nth (.lst (cs.map fun x=>[x])) k=[cs[k]]:=by
     show GV (cs.map fun x=>[x]) k=_
     rw[CX,List.getD_eq_getElem?_getD,List.getElem?_map,List.getElem?_eq_getElem hk]
     rfl
    rw[e1,Nat.mul_one]
    have hkv:k <vs.length:=by omega
    have e2:(vs.drop k).take 1=[vs[k]]:=by
     rw[List.drop_eq_getElem_cons hkv]
     rfl
    rw[e2]
    exact HL.cons ((g1.at.2 k _ _ (List.getElem?_eq_getElem hk) (List.getElem?_eq_getElem hkv)).step st) HL.nil
  ·obtain⟨h1,h2⟩:=h.ob k ob hk'
   exact⟨by omega,h2.step st h1 fun _ _=>rfl⟩
 ·rcases cases_ k ob hk with⟨rfl,rfl⟩|⟨_,_,hk'⟩
  ·exact h.ff i _ g hi (fn g hg)
  ·exact h.ff k ob g hk' (fo k ob g hk' hg)
 ·rcases cases_ j x hj with⟨rfl,rfl⟩|⟨hjm,hji,hj'⟩
  ·rcases cases_ k y hk with⟨rfl,rfl⟩|⟨hkm,hki,hk'⟩
   ·rfl
   ·exact absurd (h.sep i k _ y g hi hk' (fn g hx) (fo k y g hk' hy)) (fun e=>hki e.symm)
  ·rcases cases_ k y hk with⟨rfl,rfl⟩|⟨hkm,hki,hk'⟩
   ·exact absurd (h.sep j i x _ g hj' hi (fo j x g hj' hx) (fn g hy)) hji
   ·exact h.sep j k x y g hj' hk' (fo j x g hj' hx) (fo k y g hk' hy)
 ·rcases cases_ k ob hk with⟨rfl,rfl⟩|⟨_,_,hk'⟩
  ·exact .inl ⟨i,_,hi,fn g hg⟩
  ·exact .inl ⟨k,ob,hk',fo k ob g hk' hg⟩
theorem HRel.nilRowB {nx:Nat} {o:Objs} (h:HRel F N nx o R) (b:Option Addr) {m:Nat} (t:TypeId) (sz:Nat) {els:Els} (he:els.n=0) (hm:nx≤m):
  HRel F (N.setQ m (.slice b 0 0)) (m+1) ((m,some (.arr t sz els))::o) R∧Step F N nx o R F (N.setQ m (.slice b 0 0)) (m+1) ((m,some (.arr t sz els))::o) R:=
 h.nilG _ hm (fun hqm=>⟨[],by rw[hqm];exact⟨by rw[he];simp,.inl ⟨b,rfl,he⟩⟩,fun j hj=>absurd hj (by omega)⟩) fun hqm g hg=>by
  have hg':BO ((N.setQ m (.slice b 0 0)).q m)=some g:=hg
  rw[hqm] at hg'
  cases b<;>cases hg'
theorem A2w (h:At Z a R s) {d:Dir} {s':St} {ps:List Prop} (he:Kx E s d=some (s',ps)) (hp:∀p∈ps,p):At Z a R s':=by
 obtain⟨F,N,h⟩:=h
 cases d with
 |frz i=>
  obtain⟨F',h'⟩:=Ag1 h he hp
  exact⟨F',N,h'⟩
 | nil u t c=>
  unfold Kx at he
  simp only at he
  split at he<;>first|(cases he;done)|skip
  rename_i x hx
  cases hn:Qa x with
  |false=>rw[hn] at he;cases he
  |true=>
   rw[hn] at he
   cases he
   obtain⟨b,hv⟩:=Ww hn ((Ab (UJ hn)).1 (h.slots u x hx))
   obtain⟨q1,q2⟩:=h.hp.nilRowB b t (size c) (els:=.ty c []) rfl (Nat.le_refl _)
   have h2:=h.heap q2 q1
   refine⟨_,_,h2.word (u:=u) ?_⟩
   rw[hv]
   have:=Hv.sq (F:=F) (N:=N.setQ s.nx (.slice b 0 0)) (nx:=s.nx+1) (R:=R) (Nat.lt_succ_self s.nx)
   have e:(N.setQ s.nx (.slice b 0 0)).q s.nx=.slice b 0 0:=A3 N.q s.nx _
   rw[e] at this
   exact this
 | nilD u t c=>
  unfold Kx at he
  simp only at he
  split at he<;>first|(cases he;done)|skip
  rename_i x cc hx hc
  cases hn:Jw x with
  |false=>rw[hn] at he;cases he
  |true=>
   rw[hn] at he
   cases he
   have hv:=OG hn ((Ab (Ae1 hn)).1 (h.slots u x hx))
   obtain⟨q1,q2⟩:=h.hp.nilD t hc (Nat.le_refl _)
   have h2:=h.heap q2 q1
   refine⟨_,_,h2.word (u:=u) ?_⟩
   rw[hv]
   have:=Hv.dq (F:=F) (N:=N.setQ s.nx (Aj1 true)) (nx:=s.nx+1) (R:=R) (Nat.lt_succ_self s.nx)
   have e:(N.setQ s.nx (Aj1 true)).q s.nx=Aj1 true:=A3 N.q s.nx _
   rw[e] at this
   exact this
 | nilB b j t c=>
  unfold Kx at he
  simp only at he
  split at he<;>first|(cases he;done)|skip
  rename_i e cs hl
  split at he<;>first|(cases he;done)|skip
  rename_i x hx
  cases hn:Jw x with
  |false=>rw[hn] at he;cases he
  | true=>
   rw[hn] at he
   cases hb:Nat.blt b s.nx with
   |false=>rw[hb] at he;cases he
   | true=>
    rw[hb] at he
    cases he
    have hbn:b <s.nx:=Nat.le_of_ble_eq_true hb
    obtain⟨q1,q2⟩:=h.hp.nilRow t (size c) (els:=.ty c []) rfl (Nat.le_refl _)
    have e0:(N.setQ s.nx (.slice none 0 0)).q s.nx=.slice none 0 0:=A3 N.q s.nx _
    obtain⟨r1,r2⟩:=q1.less (o':=(b,some (.box e (cs.set j (.sq s.nx))))::(s.nx,some (.arr t (size c) (.ty c [])))::s.o) fun i ob hi=>by
     rw[AE] at hi
     by_cases hib:i=b
     ·rw[if_pos hib] at hi
      cases hi
      subst hib
      refine⟨.box e cs,by rw[AE,if_neg (by omega)];exact hl,fun⟨vs,k1,k2⟩=>⟨vs,k1.set fun v hv=>?_,k2⟩,fun g=>Iff.rfl⟩
      obtain⟨w,k3,k4⟩:=k1.get hx
      rw[hv] at k3
      cases k3
      rw[OG hn k4]
      have:=Hv.sq (F:=F) (N:=N.setQ s.nx (.slice none 0 0)) (nx:=s.nx+1) (R:=R) (Nat.lt_succ_self s.nx)
      rw[e0] at this
      exact this
     ·rw[if_neg hib] at hi
      exact⟨ob,hi,id,fun g=>Iff.rfl⟩
    exact⟨_,_,h.heap (q2.trans r2) r1⟩
 | nilF u c=>
  unfold Kx at he
  simp only at he
  split at he<;>first|(cases he;done)|skip
  rename_i x hx
  cases hn:Qa x with
  |false=>rw[hn] at he;cases he
  |true=>
   rw[hn] at he
   cases he
   obtain⟨b,hv⟩:=Ww hn ((Ab (UJ hn)).1 (h.slots u x hx))
   exact⟨_,_,h.word (u:=u) (Hv.sl_nil hv)⟩
 | nilFB b j c=>
  unfold Kx at he
  simp only at he
  split at he<;>first|(cases he;done)|skip
  rename_i e cs hl
  split at he<;>first|(cases he;done)|skip
  rename_i x hx
  cases hn:Qa x with
  |false=>rw[hn] at he;cases he
  | true=>
   rw[hn] at he
   cases he
   obtain⟨r1,r2⟩:=h.hp.less (o':=(b,some (.box e (cs.set j (.sl c []))))::s.o) fun i ob hi=>by
    rw[AE] at hi
    by_cases hib:i=b
    ·rw[if_pos hib] at hi
     cases hi
     subst hib
     refine⟨.box e cs,hl,fun⟨vs,k1,k2⟩=>⟨vs,k1.set fun v hv=>?_,k2⟩,fun g=>Iff.rfl⟩
     obtain⟨w,k3,k4⟩:=k1.get hx
     rw[hv] at k3
     cases k3
     obtain⟨b,hb⟩:=Ww hn k4
     exact Hv.sl_nil hb
    ·rw[if_neg hib] at hi
     exact⟨ob,hi,id,fun g=>Iff.rfl⟩
   exact⟨_,_,h.heap r2 r1⟩
 | seg i p=>
  unfold Kx at he
  simp only at he
  split at he<;>first|(cases he;done)|skip
  rename_i e cs hl
  split at he<;>first|(cases he;done)|skip
  rename_i xs qs hd
  cases he
  obtain⟨r1,r2⟩:=h.hp.less (o':=(i,some (.rcd e xs))::s.o) fun k ob hi=>by
   rw[AE] at hi
   by_cases hib:k=i
   ·rw[if_pos hib] at hi
    cases hi
    subst hib
    exact⟨.box e cs,hl,fun⟨vs,k1,k2⟩=>⟨vs,RL k1 hd hp,k2⟩,fun g=>Iff.rfl⟩
   ·rw[if_neg hib] at hi
    exact⟨ob,hi,id,fun g=>Iff.rfl⟩
  exact⟨_,_,h.heap r2 r1⟩
 | nilR b j t c=>
  unfold Kx at he
  simp only at he
  split at he<;>first|(cases he;done)|skip
  rename_i e xs hl
  split at he<;>first|(cases he;done)|skip
  rename_i x hx
  cases hn:Jw x with
  |false=>rw[hn] at he;cases he
  | true=>
   rw[hn] at he
   cases hb:Nat.blt b s.nx with
   |false=>rw[hb] at he;cases he
   | true=>
    rw[hb] at he
    cases he
    have hbn:b <s.nx:=Nat.le_of_ble_eq_true hb
    obtain⟨q1,q2⟩:=h.hp.nilRow t (size c) (els:=.ty c []) rfl (Nat.le_refl _)
    have e0:(N.setQ s.nx (.slice none 0 0)).q s.nx=.slice none 0 0:=A3 N.q s.nx _
    have hx0:HH x=false:=by cases x<;>first|rfl|cases hn
    obtain⟨r1,r2⟩:=q1.less (o':=(b,some (.rcd e (xs.set j (.sq s.nx))))::(s.nx,some (.arr t (size c) (.ty c [])))::s.o) fun i ob hi=>by
     rw[AE] at hi
     by_cases hib:i=b
     ·rw[if_pos hib] at hi
      cases hi
      subst hib
      refine⟨.rcd e xs,by rw[AE,if_neg (by omega)];exact hl,fun⟨us,k1,k2⟩=>⟨us,k1.setItem rfl hx hx0 fun v hv=>?_,k2⟩,fun g=>Iff.rfl⟩
      rw[OG hn hv]
      have:=Hv.sq (F:=F) (N:=N.setQ s.nx (.slice none 0 0)) (nx:=s.nx+1) (R:=R) (Nat.lt_succ_self s.nx)
      rw[e0] at this
      exact this
     ·rw[if_neg hib] at hi
      exact⟨ob,hi,id,fun g=>Iff.rfl⟩
    exact⟨_,_,h.heap (q2.trans r2) r1⟩
 | nilE b j t c=>
  unfold Kx at he
  simp only at he
  split at he<;>first|(cases he;done)|skip
  rename_i e xs cc hl hc
  split at he<;>first|(cases he;done)|skip
  rename_i x hx
  cases hn:Jw x with
  |false=>rw[hn] at he;cases he
  | true=>
   rw[hn] at he
   cases hb:Nat.blt b s.nx with
   |false=>rw[hb] at he;cases he
   | true=>
    rw[hb] at he
    cases he
    have hbn:b <s.nx:=Nat.le_of_ble_eq_true hb
    obtain⟨q1,q2⟩:=h.hp.nilD t hc (Nat.le_refl _)
    have e0:(N.setQ s.nx (Aj1 true)).q s.nx=Aj1 true:=A3 N.q s.nx _
    have hx0:HH x=false:=by cases x<;>first|rfl|cases hn
    obtain⟨r1,r2⟩:=q1.less (o':=(b,some (.rcd e (xs.set j (.dq s.nx))))::(s.nx,some (.deep t c []))::s.o) fun i ob hi=>by
     rw[AE] at hi
     by_cases hib:i=b
     ·rw[if_pos hib] at hi
      cases hi
      subst hib
      refine⟨.rcd e xs,by rw[AE,if_neg (by omega)];exact hl,fun⟨us,k1,k2⟩=>⟨us,k1.setItem rfl hx hx0 fun v hv=>?_,k2⟩,fun g=>Iff.rfl⟩
      rw[OG hn hv]
      have:=Hv.dq (F:=F) (N:=N.setQ s.nx (Aj1 true)) (nx:=s.nx+1) (R:=R) (Nat.lt_succ_self s.nx)
      rw[e0] at this
      exact this
     ·rw[if_neg hib] at hi
      exact⟨ob,hi,id,fun g=>Iff.rfl⟩
    exact⟨_,_,h.heap (q2.trans r2) r1⟩
 | arrP u=>
  unfold Kx at he
  simp only at he
  split at he<;>first|(cases he;done)|skip
  rename_i i hx
  split at he<;>first|(cases he;done)|skip
  rename_i e cs hl
  cases hb:(Nat.blt 0 cs.length&&Nat.ble cs.length 1000000) with
  |false=>rw[hb] at he;cases he
  |true=>
   rw[hb] at he
   cases he
   rw[Bool.and_eq_true] at hb
   have hv:=((Ab rfl).1 (h.slots u _ hx):Hv F N s.nx R (.own i 0) (A1 a u)).own_inv
   obtain⟨v,hv0,q1,q2⟩:=h.hp.toRow hl (Nat.le_of_ble_eq_true hb.1) (Nat.le_of_ble_eq_true hb.2)
   have h2:=h.heap q2 q1
   refine⟨_,_,h2.word (u:=u) ?_⟩
   rw[hv.2]
   have:=Hv.el (F:=F) (N:=N.setQ s.nx v) (R:=R) (k:=0) (size:=1) (off:=0) (Nat.lt_succ_self s.nx)
   have e:(N.setQ s.nx v).q s.nx=v:=A3 N.q s.nx _
   rw[e,hv0] at this
   exact this
 | avd u c n=>
  unfold Kx at he
  simp only at he
  split at he<;>first|(cases he;done)|skip
  rename_i x hx
  cases hn:x.plain with
  |false=>rw[hn] at he;cases he
  |true=>
   rw[hn,cond_true] at he
   split at he<;>first|(cases he;done)|skip
   rename_i l qs hd
   cases he
   exact⟨_,_,h.word (u:=u) (Atq hd hp ((Ab hn).1 (h.slots u x hx)))⟩
 | ty i c=>
  unfold Kx at he
  simp only at he
  split at he<;>first|(cases he;done)|skip
  rename_i e sz els hl
  split at he<;>first|(cases he;done)|skip
  rename_i l qs hty
  cases he
  obtain⟨r1,r2⟩:=h.hp.less (o':=(i,some (.arr e sz (.ty c l)))::s.o) fun k ob hi=>by
   rw[AE] at hi
   by_cases hib:k=i
   ·rw[if_pos hib] at hi
    cases hi
    subst hib
    refine⟨.arr e sz els,hl,fun⟨zs,k1,k2⟩=>?_,fun g=>Iff.rfl⟩
    obtain⟨e1,_⟩:=JK (F:=F) (N:=N) (nx:=s.nx) (R:=R) hty hp
    have hr:=RowHL.ty (els:=els) ⟨k1.1,k2⟩ hty hp
    have hn:(Els.ty c l).n=els.n:=e1
    exact⟨zs,by rw[hn];exact k1,hr.2⟩
   ·rw[if_neg hib] at hi
    exact⟨ob,hi,id,fun g=>Iff.rfl⟩
  exact⟨_,_,h.heap r2 r1⟩
theorem Ap6:∀{D:List Dir} {s s':St} {ps:List Prop},At Z a R s→adj E D s=some (s',ps)→(∀p∈ps,p)→At Z a R s'
 | [],s,s',ps,h,he,_=>by cases he;exact h
 |d::r,s,s',ps,h,he,hp=>by
  unfold adj at he
  split at he<;>first|(cases he;done)|skip
  rename_i s1 ps1 h1
  split at he<;>first|(cases he;done)|skip
  rename_i s2 ps2 h2
  cases he
  exact Ap6 (A2w h h1 fun p hm=>hp p (List.mem_append.2 (.inl hm))) h2 fun p hm=>hp p (List.mem_append.2 (.inr hm))
theorem Ato:∀{D:List Dir} {s s':St} {ps:List Prop},adj E D s=some (s',ps)→Sub s s'
 | [],s,s',ps,he=>by cases he;exact Sub.refl _
 | d::r,s,s',ps,he=>by
  unfold adj at he
  split at he<;>first|(cases he;done)|skip
  rename_i s1 ps1 h1
  split at he<;>first|(cases he;done)|skip
  rename_i s2 ps2 h2
  cases he
  refine Sub.trans ?_ (Ato h2)
  cases d with
  |frz i=>exact⟨(Tm h1).1,(Tm h1).2⟩
  |nil u t c=>
   unfold Kx at h1
   simp only at h1
   split at h1<;>first|(cases h1;done)|skip
   replace h1:=AY h1
   cases h1
   exact⟨rfl,[_],rfl⟩
  |nilD u t c=>
   unfold Kx at h1
   simp only at h1
   split at h1<;>first|(cases h1;done)|skip
   replace h1:=AY h1
   cases h1
   exact⟨rfl,[_],rfl⟩
  |nilB b j t c=>
   unfold Kx at h1
   simp only at h1
   split at h1<;>first|(cases h1;done)|skip
   split at h1<;>first|(cases h1;done)|skip
   replace h1:=AY (AY h1)
   cases h1
   exact⟨rfl,[_,_],rfl⟩
  |nilF u c=>
   unfold Kx at h1
   simp only at h1
   split at h1<;>first|(cases h1;done)|skip
   replace h1:=AY h1
   cases h1
   exact⟨rfl,[],rfl⟩
  |nilFB b j c=>
   unfold Kx at h1
   simp only at h1
   split at h1<;>first|(cases h1;done)|skip
   split at h1<;>first|(cases h1;done)|skip
   replace h1:=AY h1
   cases h1
   exact⟨rfl,[_],rfl⟩
  |seg i p=>
   unfold Kx at h1
   simp only at h1
   split at h1<;>first|(cases h1;done)|skip
   split at h1<;>first|(cases h1;done)|skip
   cases h1
   exact⟨rfl,[_],rfl⟩
  |nilR b j t c=>
   unfold Kx at h1
   simp only at h1
   split at h1<;>first|(cases h1;done)|skip
   split at h1<;>first|(cases h1;done)|skip
   replace h1:=AY h1
   replace h1:=AY h1
   cases h1
   exact⟨rfl,[_,_],rfl⟩
  |nilE b j t c=>
   unfold Kx at h1
   simp only at h1
   split at h1<;>first|(cases h1;done)|skip
   split at h1<;>first|(cases h1;done)|skip
   replace h1:=AY h1
   replace h1:=AY h1
   cases h1
   exact⟨rfl,[_,_],rfl⟩
  |arrP u=>
   unfold Kx at h1
   simp only at h1
   split at h1<;>first|(cases h1;done)|skip
   split at h1<;>first|(cases h1;done)|skip
   replace h1:=AY h1
   cases h1
   exact⟨rfl,[_,_],rfl⟩
  |avd u c n=>
   unfold Kx at h1
   simp only at h1
   split at h1<;>first|(cases h1;done)|skip
   replace h1:=AY h1
   split at h1<;>first|(cases h1;done)|skip
   cases h1
   exact⟨rfl,[],rfl⟩
  |ty i c=>
   unfold Kx at h1
   simp only at h1
   split at h1<;>first|(cases h1;done)|skip
   split at h1<;>first|(cases h1;done)|skip
   cases h1
   exact⟨rfl,[_],rfl⟩
end
def okL (nb nx1:Nat):Gs→Bool
 | []=>true
 |(k,j)::r=>Nat.blt j nx1&&((bif Nat.blt j nb then Nat.beq k j else true)&&(isNone (fwd r k)&&(isNone (bck r j)&&okL nb nx1 r)))
theorem Ajh {nb nx1:Nat}:∀{L:Gs} {i j:Nat},okL nb nx1 L=true→fwd L i=some j→bck L j=some i∧j <nx1∧(j <nb→i=j)
 | [],i,j,_,h=>by cases h
 | (k,m)::r,i,j,h0,h=>by
  unfold okL at h0
  simp only[Bool.and_eq_true] at h0
  obtain⟨a1,a2,a3,a4,a5⟩:=h0
  unfold fwd at h
  cases hb:Nat.beq k i with
  | true=>
   rw[hb] at h
   cases h
   obtain rfl:=Nat.eq_of_beq_eq_true hb
   refine⟨?_,Nat.le_of_ble_eq_true a1,fun hlt=>?_⟩
   ·unfold bck
    rw[JH]
    rfl
   ·rw[show Nat.blt m nb=true from Nat.ble_eq_true_of_le hlt] at a2
    exact Nat.eq_of_beq_eq_true a2
  | false=>
   rw[hb] at h
   obtain⟨h1,h2⟩:=Ajh a5 h
   refine⟨?_,h2⟩
   unfold bck
   cases hm:Nat.beq m j with
   |true=>
    obtain rfl:=Nat.eq_of_beq_eq_true hm
    rw[Tq.1 a4] at h1
    cases h1
   |false=>exact h1
def Y4 (nb:Nat) (L:Gs) (j:Nat):Nat:=bif Nat.blt j nb then j else match bck L j with
 |some k=>k
 |none=>0
def nm3 (N:Nm) (nb:Nat) (L:Gs):Nm:=⟨fun j=>N.b (Y4 nb L j),fun j=>N.q (Y4 nb L j)⟩
theorem Azz {nb nx1:Nat} {L:Gs} (h0:okL nb nx1 L=true) {i j:Nat} (h:fwd L i=some j):Y4 nb L j=i:=by
 obtain⟨h1,_,h3⟩:=Ajh h0 h
 unfold Y4
 cases hb:Nat.blt j nb with
 |true=>exact(h3 (Nat.le_of_ble_eq_true hb)).symm
 |false=>rw[h1];rfl
theorem OF {nb:Nat} {L:Gs} {j:Nat} (h:j <nb):Y4 nb L j=j:=by
 unfold Y4
 rw[show Nat.blt j nb=true from Nat.ble_eq_true_of_le h]
 rfl
theorem pk3 {N:Nm} {nb n nx1:Nat} {L:Gs} (h0:okL nb nx1 L=true):Pk (fwd L) N n (nm3 N nb L) nx1:=fun i j _ hj=>by
 have h1:=Azz h0 hj
 exact⟨(Ajh h0 hj).2.1,by show N.b (Y4 nb L j)=_;rw[h1],by show N.q (Y4 nb L j)=_;rw[h1]⟩
def getD (u:Nat) (t:Fu):A:=match B5 u t with
 |some x=>x
 |none=> .dead
def Au0 (L:Gs) (t:Fu):List Nat→Fu
 | []=>[]
 |u::r=>(u,(getD u t).pk (fwd L))::Au0 L t r
def SC (L:Gs) (o:Objs):List Nat→Objs
 | []=>[]
 | i::r=>match fwd L i with
  |some j=>(j,match Ak i o with
   |some ob=>some (ob.pk (fwd L))
   |none=>none)::SC L o r
  |none=>SC L o r
def A0r (nx1:Nat) (L:Gs) (us os:List Nat) (s:St):St:=⟨s.n,nx1,Au0 L s.t us,SC L s.o os⟩
section
variable {Z:Base} {F:Nat→Prop} {N N':Nm} {nx nx':Nat} {s:St} {a:Act} {R:World} {tm:Nat→Value} {ρ:Nat→Option Nat}
theorem HS.pk (st:Pk ρ N nx N' nx'):∀{x:A} {y:Value},HS F N nx R tm x y→HS F N' nx' R tm (x.pk ρ) y
 | .opt u b x,y,h=>by
  unfold A.pk
  simp only[HS] at h⊢
  exact⟨fun hb=>HS.pk st (h.1 hb),h.2⟩
 | .v _,_,h=>(Ab (by unfold A.pk;rfl)).2 (((Ab rfl).1 h).pk st)
 | .sl _ _,_,h=>(Ab (by unfold A.pk;rfl)).2 (((Ab rfl).1 h).pk st)
 | .ref _,_,h=>(Ab (by unfold A.pk;rfl)).2 (((Ab rfl).1 h).pk st)
 | .nl,_,h=>(Ab (by unfold A.pk;rfl)).2 (((Ab rfl).1 h).pk st)
 | .it _ _,_,h=>(Ab (by unfold A.pk;rfl)).2 (((Ab rfl).1 h).pk st)
 | .fn _ _ _,_,h=>(Ab (by unfold A.pk;rfl)).2 (((Ab rfl).1 h).pk st)
 | .agg _,_,h=>(Ab (by unfold A.pk;rfl)).2 (((Ab rfl).1 h).pk st)
 | .tup _,_,h=>(Ab (by unfold A.pk;rfl)).2 (((Ab rfl).1 h).pk st)
 | .dead,_,h=>(Ab (by unfold A.pk;rfl)).2 (((Ab rfl).1 h).pk st)
 | .own _ _,_,h=>(Ab (((Ab rfl).1 h).pk st).isPlain).2 (((Ab rfl).1 h).pk st)
 | .ownx _ _ _ _,_,h=>(Ab (((Ab rfl).1 h).pk st).isPlain).2 (((Ab rfl).1 h).pk st)
 | .sq _,_,h=>(Ab (((Ab rfl).1 h).pk st).isPlain).2 (((Ab rfl).1 h).pk st)
 | .dq _,_,h=>(Ab (((Ab rfl).1 h).pk st).isPlain).2 (((Ab rfl).1 h).pk st)
 | .iv _ _,_,h=>(Ab (((Ab rfl).1 h).pk st).isPlain).2 (((Ab rfl).1 h).pk st)
 | .de _ _ _ _,_,h=>(Ab (((Ab rfl).1 h).pk st).isPlain).2 (((Ab rfl).1 h).pk st)
 | .ie _ _ _ _ _,_,h=>(Ab (((Ab rfl).1 h).pk st).isPlain).2 (((Ab rfl).1 h).pk st)
 | .vw _ _ _ _ _,_,h=>(Ab (((Ab rfl).1 h).pk st).isPlain).2 (((Ab rfl).1 h).pk st)
 | .el _ _ _ _,_,h=>(Ab (((Ab rfl).1 h).pk st).isPlain).2 (((Ab rfl).1 h).pk st)
 | .mp _,_,h=>(Ab (((Ab rfl).1 h).pk st).isPlain).2 (((Ab rfl).1 h).pk st)
 | .av _ _ _,_,h=>(Ab (by unfold A.pk;rfl)).2 (((Ab rfl).1 h).pk st)
 | .rv _,_,h=>(Ab (by unfold A.pk;rfl)).2 (((Ab rfl).1 h).pk st)
 | .vr _ _ _ _,_,h=>(Ab (((Ab rfl).1 h).pk st).isPlain).2 (((Ab rfl).1 h).pk st)
 | .vd _ _ _ _,_,h=>(Ab (((Ab rfl).1 h).pk st).isPlain).2 (((Ab rfl).1 h).pk st)
theorem Abn {L:Gs} {t:Fu} {u:Nat} {x:A}:∀{us:List Nat},B5 u (Au0 L t us)=some x→x=(getD u t).pk (fwd L)
 | [],h=>by cases h
 |v::r,h=>by
  have h':(bif Nat.beq v u then some ((getD v t).pk (fwd L)) else B5 u (Au0 L t r))=some x:=h
  cases hb:Nat.beq v u with
  |true=>rw[hb] at h';obtain rfl:=Nat.eq_of_beq_eq_true hb;cases h';rfl
  |false=>rw[hb] at h';exact Abn h'
theorem L6 {L:Gs} {o:Objs} {j:Nat} {ob':Ob}:∀{os:List Nat},Ak j (SC L o os)=some ob'→∃i ob,i∈os∧fwd L i=some j∧Ak i o=some ob∧ob'=ob.pk (fwd L)
 | [],h=>by cases h
 | i::r,h=>by
  unfold SC at h
  cases hf:fwd L i with
  |none=>
   rw[hf] at h
   obtain⟨i',ob,h1,h2⟩:=L6 h
   exact⟨i',ob,List.mem_cons_of_mem _ h1,h2⟩
  | some m=>
   rw[hf] at h
   have h':(bif Nat.beq m j then(match Ak i o with|some ob=>some (ob.pk (fwd L))|none=>none) else Ak j (SC L o r))=some ob':=h
   cases hb:Nat.beq m j with
   |true=>
    rw[hb] at h'
    obtain rfl:=Nat.eq_of_beq_eq_true hb
    simp only[cond_true] at h'
    split at h'<;>first|(cases h';done)|skip
    rename_i ob hob
    cases h'
    exact⟨i,ob,List.mem_cons_self ..,hf,hob,rfl⟩
   |false=>
    rw[hb] at h'
    obtain⟨i',ob,h1,h2⟩:=L6 h'
    exact⟨i',ob,List.mem_cons_of_mem _ h1,h2⟩
theorem At7 (h:Rel Z F N s a R) (u:Nat):HS F N s.nx R (A1 a) (getD u s.t) (A1 a u):=by
 unfold getD
 split
 ·rename_i x hx;exact h.slots u x hx
 ·exact(Ab rfl).2 (.dead _)
theorem Rel.pick (h:Rel Z F N s a R) {nb nx1:Nat} {L:Gs} (h0:okL nb nx1 L=true) (hz:Z.nx≤nb) (hz1:Z.nx≤nx1) (us os:List Nat):Rel Z F (nm3 N nb L) (A0r nx1 L us os s) a R:=by
 obtain⟨q1,q2⟩:=h.hp.pk (o':=SC L s.o os) (pk3 (N:=N) (n:=s.nx) h0) fun j ob' hj=>by
  obtain⟨i,ob,_,h1,h2⟩:=L6 hj
  exact⟨i,ob,h1,h2⟩
 refine⟨h.defers,h.size,fun u x hu=>?_,q1,⟨hz1,fun i hi=>?_,fun i hi=>?_,h.st.f,h.st.fnew,fun g hg=>h.st.foot g (q2 g hg),h.st.os,h.st.tape,h.st.output,h.st.size,h.st.keep⟩,h.tm⟩
 ·rw[Abn hu]
  exact(At7 h u).pk (pk3 h0)
 ·show N.b (Y4 nb L i)=_
  rw[OF (by omega)]
  exact h.st.b i hi
 ·show N.q (Y4 nb L i)=_
  rw[OF (by omega)]
  exact h.st.q i hi
end
def Aux (t:Fu):List Nat→Fu
 | []=>[]
 |u::r=>(u,getD u t)::Aux t r
def X2 (o:Objs):List Nat→Objs
 | []=>[]
 |i::r=>(i,Ak i o)::X2 o r
def Acn (us os:List Nat) (s:St):St:=⟨s.n,s.nx,Aux s.t us,X2 s.o os⟩
def JO (us os:List Nat):Bh→Bh
 | []=>[]
 |(t,c,s)::r=>(t,c,Acn us os s)::JO us os r
structure F4 where
 nb:Nat
 nx1:Nat
 us:List Nat
 dirs:List Dir
 ren:Gs
 os:List Nat
 usO:List Nat
 osO:List Nat
def Dq (E:Env) (u:Nat) (b:Code) (S:F4) (s:St):Option (List Prop×Bh×Cnd×St):=
 let r:=MY E u 0 b false s
 match r.nrm with
 |some s1=>match adj E S.dirs s1 with
  |some (s2,qs)=>some (r.ps++P8 (A26 (H2 r.outs)) qs,JO S.usO S.osO r.outs,H2 r.outs,A0r S.nx1 S.ren S.us S.os s2)
  |none=>none
 |none=>none
section
variable {X:Type} (next:X→X) (goes:X→Cnd)
def Ba:Nat→X→X
 |0,x=>x
 |n+1,x=>bif A9 (goes x) then Ba n (next x) else x
def AN (ps:X→List Prop):Nat→X→Prop
 |0,x=>(∀p∈ps x,p)∧A9 (goes x)=false
 |n+1,x=>(∀p∈ps x,p)∧(A9 (goes x)=true→AN ps n (next x))
end
section
variable {Z:Base} {F:Nat→Prop} {N:Nm} {s:St} {a:Act} {R:World}
theorem Abm {t:Fu} {u:Nat} {x:A}:∀{us:List Nat},B5 u (Aux t us)=some x→x=getD u t
 | [],h=>by cases h
 |v::r,h=>by
  have h':(bif Nat.beq v u then some (getD v t) else B5 u (Aux t r))=some x:=h
  cases hb:Nat.beq v u with
  |true=>rw[hb] at h';obtain rfl:=Nat.eq_of_beq_eq_true hb;cases h';rfl
  |false=>rw[hb] at h';exact Abm h'
theorem JM {o:Objs} {i:Nat} {ob:Ob}:∀{os:List Nat},Ak i (X2 o os)=some ob→Ak i o=some ob∧i∈os
 | [],h=>by cases h
 |k::r,h=>by
  have h':(bif Nat.beq k i then Ak k o else Ak i (X2 o r))=some ob:=h
  cases hb:Nat.beq k i with
  |true=>rw[hb] at h';obtain rfl:=Nat.eq_of_beq_eq_true hb;exact⟨h',List.mem_cons_self ..⟩
  |false=>rw[hb] at h';exact⟨(JM h').1,List.mem_cons_of_mem _ (JM h').2⟩
theorem Rel.part (h:Rel Z F N s a R) (us os:List Nat):Rel Z F N (Acn us os s) a R:=by
 have ho:∀i ob,Ak i (X2 s.o os)=some ob→Ak i s.o=some ob:=fun i ob hi=>(JM hi).1
 refine⟨h.defers,h.size,fun u x hu=>?_,h.hp.weak ho,h.st.trans (Step.weak ho),h.tm⟩
 rw[Abm hu]
 exact At7 h u
theorem Nh {us os:List Nat} {t:Tag}:∀{o:Bh},AF t (JO us os o)=match AF t o with|some (c,s)=>some (c,Acn us os s)|none=>none
 | []=>rfl
 |(k,c,s)::r=>by
  show(bif Et k t then some (c,Acn us os s) else AF t (JO us os r))=match(bif Et k t then some (c,s) else AF t r) with|some (c,s)=>some (c,Acn us os s)|none=>none
  cases Et k t with
  |true=>rfl
  |false=>exact Nh
theorem A38 {E:Env} (ok:N8 E) {u:Nat} {b:Code} {S:F4} {X:Type} {T:X→St} {next:X→X} {goes:X→Cnd} {psA ps:X→List Prop} {outs:X→Bh} (hS:okL S.nb S.nx1 S.ren=true) (hnb:S.nb≤S.nx1)
  (hr:∀x,Dq E u b S (T x)=some (psA x,outs x,goes x,T (next x))) (hA:∀x,(∀p∈ps x,p)→∀p∈psA x,p) {Z:Base} (hz:Z.nx≤S.nb) (hW:∀u,LF u (MW b)=true→Z.W u) {Q:Exit→Act→World→Prop}:∀(n:Nat) (x:X) (a:Act) (R:World),At Z a R (T x)→AN next goes ps n x→
   (∀e y a' R',Oc ⟨[],outs (Ba next goes n x),none⟩ e y→At Z a' R' y→Q e a' R')→Code.rounds E.P b Q (n+1) a R:=by
 intro n
 induction n with
 | zero=>
  intro x a R h hn hk
  obtain⟨h1,h2⟩:=hn
  rw[rounds_succ]
  have hx:=hr x
  unfold Dq at hx
  simp only at hx
  split at hx<;>first|(cases hx;done)|skip
  rename_i s1 hs1
  split at hx<;>first|(cases hx;done)|skip
  rename_i s2 qs hs2
  injection hx with hx
  injection hx with e1 hx
  injection hx with e2 hx
  injection hx with e3 e4
  replace h1:=hA x h1
  rw[←e1] at h1
  refine GW ok 0 b false Z (T x) a R _ h hW (I0 h1).1 fun e y a' R' ho hy=>?_
  have hwf:=EF ok (u:=u) 0 b false (T x)
  rcases ho with⟨t,cc,rfl,g1,g2,g3⟩|⟨rfl,g1,g2⟩
  ·obtain⟨F,N,hy⟩:=hy
   have:Oc ⟨[],outs x,none⟩ (Tag.ex t) (Acn S.usO S.osO y):=by
    rw[←e2]
    refine .inl ⟨t,cc,rfl,by show AF t (JO _ _ _)=_;rw[Nh,g1],g2,fun t' c' s' hne hg=>?_⟩
    have hg':AF t' (JO S.usO S.osO (MY E u 0 b false (T x)).outs)=some (c',s'):=hg
    rw[Nh] at hg'
    cases h5:AF t' (MY E u 0 b false (T x)).outs with
    |none=>rw[h5] at hg';cases hg'
    |some z=>obtain⟨c1,z⟩:=z;rw[h5] at hg';cases hg';exact g3 t' _ z hne h5
   have:=hk _ _ a' R' this ⟨F,N,hy.part _ _⟩
   cases t<;>exact this
  ·exfalso
   have:=LH hwf.once g2
   rw[e3,h2] at this
   cases this
 | succ n ih=>
  intro x a R h hn hk
  obtain⟨h1,h2⟩:=hn
  rw[rounds_succ]
  have hx:=hr x
  unfold Dq at hx
  simp only at hx
  split at hx<;>first|(cases hx;done)|skip
  rename_i s1 hs1
  split at hx<;>first|(cases hx;done)|skip
  rename_i s2 qs hs2
  injection hx with hx
  injection hx with e1 hx
  injection hx with e2 hx
  injection hx with e3 e4
  replace h1:=hA x h1
  rw[←e1] at h1
  refine GW ok 0 b false Z (T x) a R _ h hW (I0 h1).1 fun e y a' R' ho hy=>?_
  have hwf:=EF ok (u:=u) 0 b false (T x)
  rcases ho with⟨t,cc,rfl,g1,g2,g3⟩|⟨rfl,g1,g2⟩
  ·obtain⟨F,N,hy⟩:=hy
   have hc:A9 (goes x)=false:=by rw[←e3];exact WQ g1 g2
   have hi:Ba next goes (n+1) x=x:=by unfold Ba;rw[hc];rfl
   rw[hi] at hk
   have:Oc ⟨[],outs x,none⟩ (Tag.ex t) (Acn S.usO S.osO y):=by
    rw[←e2]
    refine .inl ⟨t,cc,rfl,by show AF t (JO _ _ _)=_;rw[Nh,g1],g2,fun t' c' s' hne hg=>?_⟩
    have hg':AF t' (JO S.usO S.osO (MY E u 0 b false (T x)).outs)=some (c',s'):=hg
    rw[Nh] at hg'
    cases h5:AF t' (MY E u 0 b false (T x)).outs with
    |none=>rw[h5] at hg';cases hg'
    |some z=>obtain⟨c1,z⟩:=z;rw[h5] at hg';cases hg';exact g3 t' _ z hne h5
   have:=hk _ _ a' R' this ⟨F,N,hy.part _ _⟩
   cases t<;>exact this
  ·have hc:A9 (goes x)=true:=by rw[←e3];exact LH hwf.once g2
   have hi:Ba next goes (n+1) x=Ba next goes n (next x):=by
    show(bif A9 (goes x) then _ else _)=_
    rw[hc];rfl
   rw[hi] at hk
   rw[hs1] at g1
   obtain rfl:=Option.some.inj g1
   have hq:∀p∈qs,p:=JL (I0 h1).2 (Atu (by rw[e3];exact hc))
   obtain⟨F,N,h3⟩:=Ap6 hy hs2 hq
   have h4:=h3.pick hS hz (Nat.le_trans hz hnb) S.us S.os
   rw[e4] at h4
   exact ih (next x) a' R' ⟨F,_,h4⟩ (h2 hc) hk
end
def Is (l:Nat):Code→Option Code
 | .seq a b=>match Is l a with
  |some c=>some c
  |none=>Is l b
 | .cond _ a b=>match Is l a with
  |some c=>some c
  |none=>Is l b
 | .block id b=>match Nat.beq id l,b with
  |true,.loop c=>some c
  |_,_=>Is l b
 | .loop b=>Is l b
 | .scope b=>Is l b
 | .rangeFunc _ _ _ b=>Is l b
 |_=>none
def An (P:Program) (f:FuncId) (l:Nat):Code:=match P.funcs[f]? with
 | some fn=>match fn.body with
  |some c=>match Is l c with
   |some b=>b
   |none=> .skip
  |none=> .skip
 |none=> .skip
def Gt (l0:Nat) (g:St→Option (Code×List Prop×Bh)) (L:Aij):Aij:=fun l s=>bif Nat.beq l l0 then(bif Nat.ble rfK l then none else g s) else L l s
def Ut:List Nat→Fu
 | []=>[]
 |u::r=>(u,.dead)::Ut r
def Abt:List Nat→Objs
 | []=>[]
 |i::r=>(i,none)::Abt r
def Agq (W os:List Nat) (sA st:St):St:=⟨sA.n,st.nx,st.t++(Ut W++Qd W sA.t),st.o++(Abt os++sA.o)⟩
def JJ (W os:List Nat) (sA:St):Bh→Bh
 | []=>[]
 |(t,c,s)::r=>(t,c,Agq W os sA s)::JJ W os sA r
structure Gi where
 dirs:List Dir
 ren:Gs
 us:List Nat
 os:List Nat
def Jl (E:Env) (b:Code) (S:F4) (En:Gi) {X:Type} (unT:St→Option X) (fuel:X→Nat) (next:X→X) (goes:X→Cnd) (ps:X→List Prop) (outs:X→Bh) (s:St):Option (Code×List Prop×Bh):=
 match adj E En.dirs s with
 |some (sA,qs)=>bif Nat.beq sA.nx S.nb then(bif okL S.nb S.nx1 En.ren then(match unT (A0r S.nx1 En.ren En.us En.os sA) with
  |some x=>some (b,qs++[AN next goes ps (fuel x) x],JJ (MW b) En.os sA (outs (Ba next goes (fuel x) x)))
  |none=>none) else none) else none
 |none=>none
section
theorem Aub {u:Nat}:∀{W:List Nat},LF u W=true→B5 u (Ut W)=some .dead
 | [],h=>by cases h
 | k::r,h=>by
  show(bif Nat.beq k u then some A.dead else B5 u (Ut r))=_
  cases hb:Nat.beq k u with
  |true=>rfl
  |false=>
   have h':(bif Nat.beq k u then true else LF u r)=true:=h
   rw[hb] at h'
   exact Aub h'
theorem Abl {u:Nat} {x:A}:∀{W:List Nat},B5 u (Ut W)=some x→x=.dead
 | [],h=>by cases h
 |k::r,h=>by
  have h':(bif Nat.beq k u then some A.dead else B5 u (Ut r))=some x:=h
  cases hb:Nat.beq k u with
  |true=>rw[hb] at h';cases h';rfl
  |false=>rw[hb] at h';exact Abl h'
theorem XT {i:Nat}:∀{os:List Nat},Ak i (Abt os)=none
 | []=>rfl
 |k::r=>by
  show(bif Nat.beq k i then none else Ak i (Abt r))=none
  cases Nat.beq k i with
  |true=>rfl
  |false=>exact XT
theorem XP {i:Nat}:∀{os:List Nat},i∈os→i∈HI (Abt os)
 | [],h=>by cases h
 |k::r,h=>by
  rcases List.mem_cons.1 h with rfl|h
  ·exact List.mem_cons_self ..
  ·exact List.mem_cons_of_mem _ (XP h)
theorem Nf {W os:List Nat} {sA:St} {t:Tag}:∀{o:Bh},AF t (JJ W os sA o)=match AF t o with|some (c,s)=>some (c,Agq W os sA s)|none=>none
 | []=>rfl
 |(k,c,s)::r=>by
  show(bif Et k t then some (c,Agq W os sA s) else AF t (JJ W os sA r))=match(bif Et k t then some (c,s) else AF t r) with|some (c,s)=>some (c,Agq W os sA s)|none=>none
  cases Et k t with
  |true=>rfl
  |false=>exact Nf
theorem Ahh {W os:List Nat} {sA:St}:∀{o:Bh},KX o→KX (JJ W os sA o)
 | [],_=>trivial
 |(k,c,s)::r,⟨h1,h2⟩=>⟨by rw[Nf,h1],Ahh h2⟩
theorem A27 {Z:Base} {F F':Nat→Prop} {N N':Nm} {sA st:St} {a a':Act} {R R':World} {nb nx1:Nat} {L:Gs} {os W:List Nat} (h:Rel Z F N sA a R) (hn:st.n=sA.n) (hW:∀u,LF u W=true→Z.W u) (hnb:sA.nx=nb) (hL:okL nb nx1 L=true)
  (h':Rel ⟨F,nm3 N nb L,nb,SC L sA.o os,R,A1 a,fun u=>LF u W=true⟩ F' N' st a' R'):Rel Z F' N' (Agq W os sA st) a' R':=by
 subst hnb
 let o1:=X2 sA.o os
 have ho1:∀i ob,Ak i o1=some ob→Ak i sA.o=some ob:=fun i ob hi=>(JM hi).1
 have hfoot:∀g,Foot (nm3 N sA.nx L) (SC L sA.o os) g→Foot N o1 g:=fun g ⟨j,ob',hj,hg⟩=>by
  obtain⟨i,ob,hi,h1,h2,rfl⟩:=L6 hj
  have hlt:=(h.hp.ob i ob h2).1
  refine⟨i,ob,?_,(UC (pk3 (N:=N) (n:=sA.nx) hL) hlt h1).1 hg⟩
  have:∀{l:List Nat},i∈l→Ak i (X2 sA.o l)=Ak i sA.o:=fun {l}=>by
   induction l with
   |nil=>intro hm;cases hm
   | cons k r ih=>
    intro hm
    show(bif Nat.beq k i then Ak k sA.o else Ak i (X2 sA.o r))=_
    cases hb:Nat.beq k i with
    |true=>rw[Nat.eq_of_beq_eq_true hb];rfl
    |false=>
     rcases List.mem_cons.1 hm with rfl|hm
     ·simp at hb
     ·exact ih hm
  rw[this hi]
  exact h2
 have st1:Step F N sA.nx o1 R F' N' st.nx st.o R':=⟨h'.st.le,fun i hi=>by
   have:=h'.st.b i hi
   rw[this]
   show N.b (Y4 sA.nx L i)=_
   rw[OF hi],fun i hi=>by
   have:=h'.st.q i hi
   rw[this]
   show N.q (Y4 sA.nx L i)=_
   rw[OF hi],h'.st.f,fun g hg=>by
   rcases h'.st.fnew g hg with h1|h1|h1
   ·exact .inl h1
   ·exact .inr (.inl (hfoot g h1))
   ·exact .inr (.inr h1),fun g hg=>by
   rcases h'.st.foot g hg with h1|h1
   ·exact .inl (hfoot g h1)
   ·exact .inr h1,h'.st.os,h'.st.tape,h'.st.output,h'.st.size,fun g hg hn=>h'.st.keep g hg fun hf=>hn (hfoot g hf)⟩
 obtain⟨q1,q2⟩:=h.hp.frame (o':=st.o++(Abt os++sA.o)) ho1 st1 h'.hp fun i ob hi=>by
  rcases JN hi with⟨_,h1⟩|⟨_,h1⟩
  ·exact .inl h1
  ·rcases JN h1 with⟨_,h2⟩|⟨h2,h3⟩
   ·rw[XT] at h2;cases h2
   ·refine .inr ⟨h3,?_⟩
    cases h4:Ak i o1 with
    |none=>rfl
    |some ob2=>exact absurd (XP (JM h4).2) h2
 have htm:∀u,LF u W=false→A1 a' u=A1 a u:=fun u hu=>h'.tm u fun hh=>by
  have hh':LF u W=true:=hh
  rw[hu] at hh';cases hh'
 refine⟨h'.defers,h'.size.trans hn,fun u x hu=>?_,q1,h.st.trans q2,fun u hu=>?_⟩
 ·have hu':B5 u (st.t++(Ut W++Qd W sA.t))=some x:=hu
  rw[L7] at hu'
  cases h1:B5 u st.t with
  |some y=>rw[h1] at hu';cases hu';exact h'.slots u x h1
  | none=>
   rw[h1] at hu'
   have hu2:B5 u (Ut W++Qd W sA.t)=some x:=hu'
   rw[L7] at hu2
   cases h2:B5 u (Ut W) with
   |some y=>rw[h2] at hu2;cases hu2;rw[Abl h2];exact(Ab rfl).2 (.dead _)
   | none=>
    rw[h2] at hu2
    have hu3:B5 u (Qd W sA.t)=some x:=hu2
    have hw:LF u W=false:=by
     cases hw:LF u W with
     |false=>rfl
     |true=>rw[Aub hw] at h2;cases h2
    rcases OH hu3 with rfl|⟨k1,k2⟩
    ·exact(Ab rfl).2 (.dead _)
    ·rw[htm u hw]
     exact HS.congrW htm k2 ((h.slots u x k1).step (q2.ext h.hp))
 ·rw[h'.tm u fun hw=>hu (hW u hw)]
  exact h.tm u hu
theorem A4y {E:Env} (ok:N8 E) {u:Nat} {b:Code} {S:F4} {En:Gi} {X:Type} {T:X→St} {unT:St→Option X} {fuel:X→Nat} {next:X→X} {goes:X→Cnd} {psA ps:X→List Prop} {outs:X→Bh} (hS:okL S.nb S.nx1 S.ren=true) (hnb:S.nb≤S.nx1)
  (hr:∀x,Dq E u b S (T x)=some (psA x,outs x,goes x,T (next x))) (hA:∀x,(∀p∈ps x,p)→∀p∈psA x,p) (hu:∀s x,unT s=some x→s=T x)
  (hw:∀x,KX (outs x)∧∀t c y,AF t (outs x)=some (c,y)→y.n=(T x).n) (hTn:∀x y,(T x).n=(T y).n) {s:St} {b0:Code} {qs:List Prop} {os:Bh} (he:Jl E b S En unT fuel next goes ps outs s=some (b0,qs,os)):
  Wf s ⟨qs,os,none⟩∧DE E b0 s qs os:=by
 unfold Jl at he
 split at he<;>first|(cases he;done)|skip
 rename_i sA ps1 hAd
 cases hq1:Nat.beq sA.nx S.nb with
 |false=>rw[hq1] at he;cases he
 | true=>
  cases hq2:okL S.nb S.nx1 En.ren with
  |false=>rw[hq1,hq2] at he;cases he
  | true=>
   rw[hq1,hq2] at he
   simp only[cond_true] at he
   split at he<;>first|(cases he;done)|skip
   rename_i x hx
   cases he
   have hnx:=Nat.eq_of_beq_eq_true hq1
   have hT:=hu _ _ hx
   have hsub:=Ato hAd
   have hnT:∀y,(T y).n=sA.n:=fun y=>by rw[hTn y x,←hT];rfl
   refine⟨⟨fun t c y hy=>?_,fun y hy=>(by cases hy),Ahh (hw _).1⟩,?_⟩
   ·have hy':AF t (JJ (MW b) En.os sA (outs (Ba next goes (fuel x) x)))=some (c,y):=hy
    rw[Nf] at hy'
    split at hy'<;>first|(cases hy';done)|skip
    cases hy'
    obtain⟨d,hd⟩:=hsub.seq
    exact⟨hsub.n,by show ∃d,_++(Abt En.os++sA.o)=d++s.o;rw[hd];exact⟨_,by rw[←List.append_assoc,←List.append_assoc]⟩⟩
   ·intro Z F N a R Q h hW hp hk
    have hp1:∀p∈ps1,p:=fun p hm=>hp p (List.mem_append.2 (.inl hm))
    have hneed:AN next goes ps (fuel x) x:=hp _ (List.mem_append.2 (.inr (List.mem_singleton.2 rfl)))
    obtain⟨F1,N1,h1⟩:=Ap6 ⟨F,N,h⟩ hAd hp1
    have hpick:=(h1.start (MW b)).pick (L:=En.ren) hq2 (by show sA.nx≤S.nb;omega) (by show sA.nx≤S.nx1;omega) En.us En.os
    have hrel:Rel ⟨F1,nm3 N1 S.nb En.ren,S.nb,SC En.ren sA.o En.os,R,A1 a,fun u=>LF u (MW b)=true⟩ F1 (nm3 N1 S.nb En.ren) (T x) a R:=by
     rw[←hT]
     exact⟨hpick.defers,hpick.size,hpick.slots,hpick.hp,⟨hnb,fun _ _=>rfl,fun _ _=>rfl,fun _ h=>h,fun _ h=> .inl h,fun _ h=> .inl h,rfl,rfl,rfl,Nat.le_refl _,fun _ _ _=>rfl⟩,fun _ _=>rfl⟩
    refine wp_loop_rounds (fuel x+1) (A38 ok (u:=u) (b:=b) hS hnb hr hA (Nat.le_refl _) (fun u hu=>hu) (fuel x) x a R ⟨F1,_,hrel⟩ hneed fun e y a' R' ho ⟨F2,N2,hy⟩=>?_)
    rcases ho with⟨t,c,rfl,g1,g2,g3⟩|⟨rfl,g1,g2⟩
    ·have g1':AF t (outs (Ba next goes (fuel x) x))=some (c,y):=g1
     refine hk _ (Agq (MW b) En.os sA y) F2 N2 a' R' (.inl ⟨t,c,rfl,by show AF t (JJ _ _ _ _)=_;rw[Nf,g1'],g2,fun t' c' s' hne hg=>?_⟩) (A27 h1 (by rw[(hw _).2 t c y g1',hnT]) hW hnx hq2 hy)
     have hg':AF t' (JJ (MW b) En.os sA (outs (Ba next goes (fuel x) x)))=some (c',s'):=hg
     rw[Nf] at hg'
     split at hg'<;>first|(cases hg';done)|skip
     rename_i c1 z hz
     cases hg'
     exact g3 t' _ z hne hz
    ·cases g1
end
end Go.Proofs.YtifkbgkbajncjaaDoor
namespace Go.Proofs.YtifkbgkbajncjaaDoor
open Go.RowKit
def zc:TC→List Value
 | .u8=>[.int .u8 0]
 | .i64=>[.int .i64 0]
 | .u32=>[.int .u32 0]
 | .bool=>[.bool false]
 | .str=>[.string ByteArray.empty]
 | .bytes=>[.slice none 0 0]
 | .ints=>[.slice none 0 0]
 | .cells=>[.slice none 0 0]
 | .rsl=>[.slice none 0 0]
 | .rows=>[.slice none 0 0]
 | .digest=>List.replicate 32 (.int .u8 0)
 |c=>(enc c (Aj c)).map fun x=>match x with
  | .v y=>y
  |_=> .slice none 0 0
theorem Bao (c:TC) (F:Nat→Prop) (N:Nm) (nx:Nat) (R:World):HL F N nx R (enc c (Aj c)) (zc c):=by
 cases c<;>(repeat' (first|exact HL.nil|exact Hv.v _|exact Hv.sl_nil rfl|apply HL.cons))
def Gv (P:Program) (t:TypeId):Option (Nat×Option (List Value)):=(P.info? t).map fun i=>(i.size,i.zero.map fun z=>z.cells.toList)
theorem A1y {P:Program} {t:TypeId} {c:TC} (h:Gv P t=some (size c,some (zc c))) (h0:0 <size c):∃i,P.info? t=some i∧i.size=size c∧0 <size c∧∃z,i.zero=some z∧∀(F:Nat→Prop) (N:Nm) (nx:Nat) (R:World),HL F N nx R (enc c (Aj c)) z.cells.toList:=by
 unfold Gv at h
 cases hi:P.info? t with
 |none=>rw[hi] at h;cases h
 | some i=>
  rw[hi] at h
  have h':some (i.size,i.zero.map fun z=>z.cells.toList)=some (size c,some (zc c)):=h
  injection h' with h'
  injection h' with h1 h2
  cases hz:i.zero with
  |none=>rw[hz] at h2;cases h2
  |some z=>
   rw[hz] at h2
   injection h2 with h2
   have h3:z.cells.toList=zc c:=h2
   exact⟨i,rfl,h1,h0,z,hz,fun F N nx R=>by rw[h3];exact Bao c F N nx R⟩
theorem A09 (c:TC):0 <size c:=by cases c<;>decide
def Ava (t:TypeId):Option TC:=bif Nat.beq t 2 then some .i64 else bif Nat.beq t 3 then some .i64 else bif Nat.beq t 4 then some .bool else bif Nat.beq t 5 then some .u8 else bif Nat.beq t 9 then some .str else bif Nat.beq t 24 then some .stamp else bif Nat.beq t 25 then some .vec else bif Nat.beq t 26 then some .vec else bif Nat.beq t 29 then some .change else bif Nat.beq t 30 then some .ints else bif Nat.beq t 32 then some .rows else bif Nat.beq t 34 then some .msg else bif Nat.beq t 35 then some .bytes else bif Nat.beq t 38 then some .i64 else bif Nat.beq t 45 then some .u32 else bif Nat.beq t 56 then some .digest else bif Nat.beq t 58 then some .cells else bif Nat.beq t 60 then some .row else bif Nat.beq t 85 then some .write else bif Nat.beq t 87 then some .cell else bif Nat.beq t 89 then some .group else bif Nat.beq t 125 then some .place else none
theorem A5a:Gv Tryd.prog 2=some (size .i64,some (zc .i64)):=by kernel_rfl
theorem A5b:Gv Tryd.prog 3=some (size .i64,some (zc .i64)):=by kernel_rfl
theorem A5c:Gv Tryd.prog 4=some (size .bool,some (zc .bool)):=by kernel_rfl
theorem A5d:Gv Tryd.prog 5=some (size .u8,some (zc .u8)):=by kernel_rfl
theorem A5e:Gv Tryd.prog 9=some (size .str,some (zc .str)):=by kernel_rfl
theorem A1i:Gv Tryd.prog 24=some (size .stamp,some (zc .stamp)):=by kernel_rfl
theorem A1j:Gv Tryd.prog 25=some (size .vec,some (zc .vec)):=by kernel_rfl
theorem A1k:Gv Tryd.prog 26=some (size .vec,some (zc .vec)):=by kernel_rfl
theorem A1l:Gv Tryd.prog 29=some (size .change,some (zc .change)):=by kernel_rfl
theorem A1m:Gv Tryd.prog 30=some (size .ints,some (zc .ints)):=by kernel_rfl
theorem A1n:Gv Tryd.prog 32=some (size .rows,some (zc .rows)):=by kernel_rfl
theorem A1o:Gv Tryd.prog 34=some (size .msg,some (zc .msg)):=by kernel_rfl
theorem A1p:Gv Tryd.prog 35=some (size .bytes,some (zc .bytes)):=by kernel_rfl
theorem A1q:Gv Tryd.prog 38=some (size .i64,some (zc .i64)):=by kernel_rfl
theorem A1r:Gv Tryd.prog 45=some (size .u32,some (zc .u32)):=by kernel_rfl
theorem A1s:Gv Tryd.prog 56=some (size .digest,some (zc .digest)):=by kernel_rfl
theorem A1t:Gv Tryd.prog 58=some (size .cells,some (zc .cells)):=by kernel_rfl
theorem A1u:Gv Tryd.prog 60=some (size .row,some (zc .row)):=by kernel_rfl
theorem A1v:Gv Tryd.prog 85=some (size .write,some (zc .write)):=by kernel_rfl
theorem A1w:Gv Tryd.prog 87=some (size .cell,some (zc .cell)):=by kernel_rfl
theorem A1x:Gv Tryd.prog 89=some (size .group,some (zc .group)):=by kernel_rfl
theorem Axc:Gv Tryd.prog 125=some (size .place,some (zc .place)):=by kernel_rfl
theorem FQ {P:Program} {t k:TypeId} {c c0:TC} {r:Option TC} (h:(bif Nat.beq t k then some c0 else r)=some c) (hk:Gv P k=some (size c0,some (zc c0))):Gv P t=some (size c,some (zc c))∨r=some c:=by
 cases hb:Nat.beq t k with
 |true=>rw[hb] at h;cases h;rw[Nat.eq_of_beq_eq_true hb];exact .inl hk
 |false=>rw[hb] at h;exact .inr h
theorem Apn:Bar Tryd.prog Ava:=fun t c h=>by
 refine A1y ?_ (A09 c)
 unfold Ava at h
 rcases FQ h A5a with h|h
 ·exact h
 rcases FQ h A5b with h|h
 ·exact h
 rcases FQ h A5c with h|h
 ·exact h
 rcases FQ h A5d with h|h
 ·exact h
 rcases FQ h A5e with h|h
 ·exact h
 rcases FQ h A1i with h|h
 ·exact h
 rcases FQ h A1j with h|h
 ·exact h
 rcases FQ h A1k with h|h
 ·exact h
 rcases FQ h A1l with h|h
 ·exact h
 rcases FQ h A1m with h|h
 ·exact h
 rcases FQ h A1n with h|h
 ·exact h
 rcases FQ h A1o with h|h
 ·exact h
 rcases FQ h A1p with h|h
 ·exact h
 rcases FQ h A1q with h|h
 ·exact h
 rcases FQ h A1r with h|h
 ·exact h
 rcases FQ h A1s with h|h
 ·exact h
 rcases FQ h A1t with h|h
 ·exact h
 rcases FQ h A1u with h|h
 ·exact h
 rcases FQ h A1v with h|h
 ·exact h
 rcases FQ h A1w with h|h
 ·exact h
 rcases FQ h A1x with h|h
 ·exact h
 rcases FQ h Axc with h|h
 ·exact h
 cases h
end Go.Proofs.YtifkbgkbajncjaaDoor
namespace Go.Proofs.YtifkbgkbajncjaaDoor
open Go.RowKit
theorem eqi (d:Nat) (a b:Int) (w:World):(Op.equalIn (d+1) 3 (.int .i64 a) (.int .i64 b)).run Tryd.prog w=.ok (a==b) w:=run_equalIn_int w d 3 .i64 .i64 a b Tryd.underlying3
theorem eqb (d:Nat) (a b:Bool) (w:World):(Op.equalIn (d+1) 4 (.bool a) (.bool b)).run Tryd.prog w=.ok (a==b) w:=run_equalIn_bool' w d 4 a b Tryd.underlying4
theorem eqs (d:Nat) (a b:ByteArray) (w:World):(Op.equalIn (d+1) 9 (.string a) (.string b)).run Tryd.prog w=.ok (a.toList==b.toList) w:=run_equalIn_string w d 9 a b Tryd.underlying9
@[go_sem] theorem eqVec (d:Nat) (a b x y:Int) (w:World):(Op.equalIn (d+2) 26 (.agg #[.int .i64 a,.int .i64 b]) (.agg #[.int .i64 x,.int .i64 y])).run Tryd.prog w=.ok (a==x&&b==y) w:=by
 have p0:∀a b w,(part 3 #[.int .i64 a,.int .i64 b] 0).run Tryd.prog w=Result.ok (.int .i64 a) w:=fun a b w=>by kernel_rfl
 have p1:∀a b w,(part 3 #[.int .i64 a,.int .i64 b] 1).run Tryd.prog w=Result.ok (.int .i64 b) w:=fun a b w=>by kernel_rfl
 unfold Op.equalIn
 cases h:a==x
 ·simp[Sem.run_bind,run_underlying Tryd.underlying26,List.range',p0,eqi,h]
 ·cases h':b==y<;>simp[Sem.run_bind,run_underlying Tryd.underlying26,List.range',p0,p1,eqi,h,h']
@[go_sem] theorem eqInt2 (d:Nat) (a b x y:Int) (w:World):(Op.equalIn (d+2) 25 (.agg #[.int .i64 a,.int .i64 b]) (.agg #[.int .i64 x,.int .i64 y])).run Tryd.prog w=.ok (a==x&&b==y) w:=by
 have p0:∀a b w,(part 3 #[.int .i64 a,.int .i64 b] 0).run Tryd.prog w=Result.ok (.int .i64 a) w:=fun a b w=>by kernel_rfl
 have p1:∀a b w,(part 3 #[.int .i64 a,.int .i64 b] 1).run Tryd.prog w=Result.ok (.int .i64 b) w:=fun a b w=>by kernel_rfl
 unfold Op.equalIn
 cases h:a==x
 ·simp[Sem.run_bind,run_underlying Tryd.underlying25,List.range',p0,eqi,h]
 ·cases h':b==y<;>simp[Sem.run_bind,run_underlying Tryd.underlying25,List.range',p0,p1,eqi,h,h']
@[go_sem] theorem eqStamp (d:Nat) (a b x y:Int) (w:World):(Op.equalIn (d+2) 24 (.agg #[.int .i64 a,.int .i64 b]) (.agg #[.int .i64 x,.int .i64 y])).run Tryd.prog w=.ok (a==x&&b==y) w:=by
 rw[run_equalIn_struct w (d+1) 24 _ _ (by kernel_rfl) (by kernel_rfl)]
 have p0:∀a b w,(part 3 #[.int .i64 a,.int .i64 b] 0).run Tryd.prog w=Result.ok (.int .i64 a) w:=fun a b w=>by kernel_rfl
 have p1:∀a b w,(part 3 #[.int .i64 a,.int .i64 b] 1).run Tryd.prog w=Result.ok (.int .i64 b) w:=fun a b w=>by kernel_rfl
 cases h:a==x
 ·simp[Program.fieldsOf,Tryd.underlying24,Op.eqFields,Sem.run_bind,p0,eqi,h]
 ·cases h':b==y<;>simp[Program.fieldsOf,Tryd.underlying24,Op.eqFields,Sem.run_bind,p0,p1,eqi,h,h']
@[go_sem] theorem eqCell (d:Nat) (a0 a1 a2 a3 a6 a7 b0 b1 b2 b3 b6 b7:Int) (a4 b4:Bool) (a5 b5:ByteArray) (w:World):(Op.equalIn (d+3) 87 (.agg #[.int .i64 a0,.int .i64 a1,.int .i64 a2,.int .i64 a3,.bool a4,.string a5,.int .i64 a6,.int .i64 a7]) (.agg #[.int .i64 b0,.int .i64 b1,.int .i64 b2,.int .i64 b3,.bool b4,.string b5,.int .i64 b6,.int .i64 b7])).run Tryd.prog w=.ok ((a0==b0&&a1==b1)&&((a2==b2&&a3==b3)&&((a4==b4)&&((a5.toList==b5.toList)&&(a6==b6&&a7==b7))))) w:=by
 rw[run_equalIn_struct w (d+2) 87 _ _ (by kernel_rfl) (by kernel_rfl)]
 have p0:∀(a0 a1 a2 a3 a6 a7:Int) (a4:Bool) (a5:ByteArray) (w:World),(part 24 #[.int .i64 a0,.int .i64 a1,.int .i64 a2,.int .i64 a3,.bool a4,.string a5,.int .i64 a6,.int .i64 a7] 0).run Tryd.prog w=Result.ok (.agg #[.int .i64 a0,.int .i64 a1]) w:=fun _ _ _ _ _ _ _ _ _=>by kernel_rfl
 have p1:∀(a0 a1 a2 a3 a6 a7:Int) (a4:Bool) (a5:ByteArray) (w:World),(part 26 #[.int .i64 a0,.int .i64 a1,.int .i64 a2,.int .i64 a3,.bool a4,.string a5,.int .i64 a6,.int .i64 a7] 2).run Tryd.prog w=Result.ok (.agg #[.int .i64 a2,.int .i64 a3]) w:=fun _ _ _ _ _ _ _ _ _=>by kernel_rfl
 have p2:∀(a0 a1 a2 a3 a6 a7:Int) (a4:Bool) (a5:ByteArray) (w:World),(part 4 #[.int .i64 a0,.int .i64 a1,.int .i64 a2,.int .i64 a3,.bool a4,.string a5,.int .i64 a6,.int .i64 a7] 4).run Tryd.prog w=Result.ok (.bool a4) w:=fun _ _ _ _ _ _ _ _ _=>by kernel_rfl
 have p3:∀(a0 a1 a2 a3 a6 a7:Int) (a4:Bool) (a5:ByteArray) (w:World),(part 9 #[.int .i64 a0,.int .i64 a1,.int .i64 a2,.int .i64 a3,.bool a4,.string a5,.int .i64 a6,.int .i64 a7] 5).run Tryd.prog w=Result.ok (.string a5) w:=fun _ _ _ _ _ _ _ _ _=>by kernel_rfl
 have p4:∀(a0 a1 a2 a3 a6 a7:Int) (a4:Bool) (a5:ByteArray) (w:World),(part 26 #[.int .i64 a0,.int .i64 a1,.int .i64 a2,.int .i64 a3,.bool a4,.string a5,.int .i64 a6,.int .i64 a7] 6).run Tryd.prog w=Result.ok (.agg #[.int .i64 a6,.int .i64 a7]) w:=fun _ _ _ _ _ _ _ _ _=>by kernel_rfl
 cases h0:(a0==b0&&a1==b1)
 ·simp only[Program.fieldsOf,Tryd.underlying87,Op.eqFields,Sem.run_bind,Sem.run_ite,Sem.run_pure,Result.andThen_ok,p0,eqStamp,h0];simp
 ·cases h1:(a2==b2&&a3==b3)
  ·simp only[Program.fieldsOf,Tryd.underlying87,Op.eqFields,Sem.run_bind,Sem.run_ite,Sem.run_pure,Result.andThen_ok,p0,p1,eqStamp,eqVec,h0,h1];simp
  ·cases h2:(a4==b4)
   ·simp only[Program.fieldsOf,Tryd.underlying87,Op.eqFields,Sem.run_bind,Sem.run_ite,Sem.run_pure,Result.andThen_ok,p0,p1,p2,eqStamp,eqVec,eqb,h0,h1,h2];simp
   ·cases h3:(a5.toList==b5.toList)
    ·simp only[Program.fieldsOf,Tryd.underlying87,Op.eqFields,Sem.run_bind,Sem.run_ite,Sem.run_pure,Result.andThen_ok,p0,p1,p2,p3,eqStamp,eqVec,eqb,eqs,h0,h1,h2,h3];simp
    ·cases h4:(a6==b6&&a7==b7)
     ·simp only[Program.fieldsOf,Tryd.underlying87,Op.eqFields,Sem.run_bind,Sem.run_ite,Sem.run_pure,Result.andThen_ok,p0,p1,p2,p3,p4,eqStamp,eqVec,eqb,eqs,h0,h1,h2,h3,h4];simp
     ·simp only[Program.fieldsOf,Tryd.underlying87,Op.eqFields,Sem.run_bind,Sem.run_ite,Sem.run_pure,Result.andThen_ok,p0,p1,p2,p3,p4,eqStamp,eqVec,eqb,eqs,h0,h1,h2,h3,h4];simp
theorem Ant:Tryd.prog.eqGuardType Tryd.prog.depth 26=false:=by kernel_rfl
@[go_sem] theorem grdVec (op:BinOp) (x y:Operand) (xs ys:Array Value) (w:World):(eqGuard op 26 x y (.agg xs) (.agg ys)).run Tryd.prog w=.ok () w:=run_eqGuard_agg w op 26 x y xs ys Ant
theorem Awg:Tryd.prog.eqGuardType Tryd.prog.depth 25=false:=by kernel_rfl
@[go_sem] theorem grdInt2 (op:BinOp) (x y:Operand) (xs ys:Array Value) (w:World):(eqGuard op 25 x y (.agg xs) (.agg ys)).run Tryd.prog w=.ok () w:=run_eqGuard_agg w op 25 x y xs ys Awg
theorem Aa7:Tryd.prog.eqGuardType Tryd.prog.depth 24=false:=by kernel_rfl
@[go_sem] theorem grdStamp (op:BinOp) (x y:Operand) (xs ys:Array Value) (w:World):(eqGuard op 24 x y (.agg xs) (.agg ys)).run Tryd.prog w=.ok () w:=run_eqGuard_agg w op 24 x y xs ys Aa7
theorem Ag4:Tryd.prog.eqGuardType Tryd.prog.depth 87=false:=by kernel_rfl
@[go_sem] theorem grdCell (op:BinOp) (x y:Operand) (xs ys:Array Value) (w:World):(eqGuard op 87 x y (.agg xs) (.agg ys)).run Tryd.prog w=.ok () w:=run_eqGuard_agg w op 87 x y xs ys Ag4
end Go.Proofs.YtifkbgkbajncjaaDoor
namespace Go.Proofs.YtifkbgkbajncjaaDoor
open Go.RowKit
def Am9:List Value→List Value→Option Bool
 | [],[]=>some true
 | .int .u8 a::xs,.int .u8 b::ys=>match Am9 xs ys with
  |some r=>some (a==b&&r)
  |none=>none
 |_,_=>none
theorem Ans:Tryd.prog.eqGuardType Tryd.prog.depth 56=false:=by kernel_rfl
theorem Axd:Tryd.prog.underlying 56=some (.array 32 5):=by kernel_rfl
theorem A25:Tryd.prog.cellsOf 5=1:=by kernel_rfl
theorem Bau (d:Nat) (a b:Int) (w:World):(Op.equalIn (d+1) 5 (.int .u8 a) (.int .u8 b)).run Tryd.prog w=.ok (a==b) w:=run_equalIn_int w d 5 .u8 .u8 a b (by kernel_rfl)
theorem A0l (w:World) {cs:Array Value} {i:Nat} {v:Value} (h:cs.toList[i]?=some v):(part 5 cs (i*1)).run Tryd.prog w=.ok v w:=by
 have hu:Tryd.prog.underlying 5=some (.int .u8):=by kernel_rfl
 have hc:cs[i]?=some v:=by simpa using h
 simp[part,isAgg,run_underlying hu,hc]
theorem Aay (d:Nat) (cs ds:Array Value) (w:World):∀(xs ys:List Value) (k:Nat) (r:Bool),cs.toList.drop k=xs→ds.toList.drop k=ys→Am9 xs ys=some r→(Op.eqItems (d+1) 5 1 cs ds (List.range' k xs.length)).run Tryd.prog w=.ok r w
 | [],ys,k,r,_,_,h=>by
  cases ys with
  |nil=>unfold Am9 at h;cases h;simp[Op.eqItems]
  |cons _ _=>unfold Am9 at h;cases h
 | x::xs,ys,k,r,h1,h2,h=>by
  unfold Am9 at h
  split at h<;>first|(cases h;done)|skip
  ·rename_i e;cases e
  rename_i a xs' b ys' e
  cases e
  cases h3:Am9 xs ys' with
  |none=>rw[h3] at h;cases h
  | some q=>
   rw[h3] at h
   cases h
   have hx:cs.toList[k]?=some (.int .u8 a):=by
    have:(cs.toList.drop k)[0]?=some (.int .u8 a):=by rw[h1];rfl
    rw[List.getElem?_drop] at this;simpa using this
   have hy:ds.toList[k]?=some (.int .u8 b):=by
    have:(ds.toList.drop k)[0]?=some (.int .u8 b):=by rw[h2];rfl
    rw[List.getElem?_drop] at this;simpa using this
   have n1:cs.toList.drop (k+1)=xs:=by rw[←List.drop_drop,h1];rfl
   have n2:ds.toList.drop (k+1)=ys':=by rw[←List.drop_drop,h2];rfl
   have ih:=Aay d cs ds w xs ys' (k+1) q n1 n2 h3
   rw[List.length_cons,List.range'_succ]
   simp only[Op.eqItems,Sem.run_bind,A0l w hx,A0l w hy,Result.andThen_ok,Bau]
   cases hab:a==b
   ·simp
   ·simpa using ih
theorem Ay9 (d:Nat) (xs ys:List Value) (r:Bool) (hn:Nat.beq xs.length 32=true) (h:Am9 xs ys=some r) (w:World):(Op.equalIn (d+2) 56 (.agg xs.toArray) (.agg ys.toArray)).run Tryd.prog w=.ok r w:=by
 have hs:(Tryd.prog.info? 5).isSome=true:=by kernel_rfl
 obtain⟨i,hi⟩:=Option.isSome_iff_exists.1 hs
 rw[run_equalIn_array w (d+1) xs.toArray ys.toArray Axd hi,A25,List.range_eq_range',←Nat.eq_of_beq_eq_true hn]
 exact Aay d xs.toArray ys.toArray w xs ys 0 r (by simp) (by simp) h
end Go.Proofs.YtifkbgkbajncjaaDoor
namespace Go.Proofs.YtifkbgkbajncjaaDoor
open Go.RowKit
instance (n:Nat):Decidable (T6 n):=.isFalse id
theorem A63:Tryd.prog.follows .mixedOrders=true:=by kernel_rfl
def A3q:List Value→List Value→Option Bool
 | [.int .i64 a,.int .i64 b],[.int .i64 x,.int .i64 y]=>some (a==x&&b==y)
 |_,_=>none
def A9h:List Value→List Value→Option Bool
 | [.int .i64 a0,.int .i64 a1,.int .i64 a2,.int .i64 a3,.bool a4,.string a5,.int .i64 a6,.int .i64 a7],[.int .i64 b0,.int .i64 b1,.int .i64 b2,.int .i64 b3,.bool b4,.string b5,.int .i64 b6,.int .i64 b7]=>
  some ((a0==b0&&a1==b1)&&((a2==b2&&a3==b3)&&((a4==b4)&&((a5.toList==b5.toList)&&(a6==b6&&a7==b7)))))
 |_,_=>none
def A7t (t:TypeId) (xs ys:List Value):Option Bool:=bif Nat.beq t 56 then(bif Nat.beq xs.length 32 then Am9 xs ys else none) else none
theorem A3o:Ayh Tryd.prog A7t:=fun t xs ys b h=>by
 unfold A7t at h
 cases h5:Nat.beq t 56 with
 | true=>
  rw[h5] at h
  rw[Nat.eq_of_beq_eq_true h5]
  refine⟨Ans,fun R=>?_⟩
  cases h6:Nat.beq xs.length 32 with
  |true=>
   rw[h6] at h
   exact Ay9 9998 xs ys b h6 h R
  |false=>
   rw[h6] at h
   cases h
 |false=>
  rw[h5] at h
  cases h
abbrev Azb:=A7t
theorem Awc:Ayh Tryd.prog Azb:=A3o
abbrev A9j:=Azb
theorem A3p:Ayh Tryd.prog A9j:=Awc
theorem Arb:Tryd.prog.eqGuardType Tryd.prog.depth 85=false:=by kernel_rfl
theorem A3s (d:Nat) (a x e z:ByteArray) (b y:Int) (c u:Bool) (w:World):(Op.equalIn (d+2) 85 (.agg #[.string a,.int .i64 b,.bool c,.string e]) (.agg #[.string x,.int .i64 y,.bool u,.string z])).run Tryd.prog w=.ok (a.toList==x.toList&&(b==y&&(c==u&&e.toList==z.toList))) w:=by
 rw[run_equalIn_struct w (d+1) 85 _ _ (by kernel_rfl) (by kernel_rfl)]
 have p0:∀a b c e w,(part 9 #[.string a,.int .i64 b,.bool c,.string e] 0).run Tryd.prog w=Result.ok (.string a) w:=fun a b c e w=>by kernel_rfl
 have p1:∀a b c e w,(part 3 #[.string a,.int .i64 b,.bool c,.string e] 1).run Tryd.prog w=Result.ok (.int .i64 b) w:=fun a b c e w=>by kernel_rfl
 have p2:∀a b c e w,(part 4 #[.string a,.int .i64 b,.bool c,.string e] 2).run Tryd.prog w=Result.ok (.bool c) w:=fun a b c e w=>by kernel_rfl
 have p3:∀a b c e w,(part 9 #[.string a,.int .i64 b,.bool c,.string e] 3).run Tryd.prog w=Result.ok (.string e) w:=fun a b c e w=>by kernel_rfl
 cases h0:a.toList==x.toList
 ·simp[Program.fieldsOf,Tryd.underlying85,Op.eqFields,Sem.run_bind,p0,eqs,h0]
 ·cases h1:b==y
  ·simp[Program.fieldsOf,Tryd.underlying85,Op.eqFields,Sem.run_bind,p0,p1,eqi,eqs,h0,h1]
  ·cases h2:c==u
   ·simp[Program.fieldsOf,Tryd.underlying85,Op.eqFields,Sem.run_bind,p0,p1,p2,eqi,eqs,eqb,h0,h1,h2]
   ·cases h3:e.toList==z.toList<;>simp[Program.fieldsOf,Tryd.underlying85,Op.eqFields,Sem.run_bind,p0,p1,p2,p3,eqi,eqs,eqb,h0,h1,h2,h3]
def A9k:List Value→List Value→Option Bool
 | [.string a,.int .i64 b,.bool c,.string e],[.string x,.int .i64 y,.bool u,.string z]=>some (a.toList==x.toList&&(b==y&&(c==u&&e.toList==z.toList)))
 |_,_=>none
def A7u (t:TypeId) (xs ys:List Value):Option Bool:=bif Nat.beq t 85 then A9k xs ys else A9j t xs ys
theorem A3r:Ayh Tryd.prog A7u:=fun t xs ys b h=>by
 unfold A7u at h
 cases h4:Nat.beq t 85 with
 |true=>
  rw[h4] at h
  rw[Nat.eq_of_beq_eq_true h4]
  refine⟨Arb,fun R=>?_⟩
  unfold A9k at h
  simp only[cond_true] at h
  split at h<;>first|(cases h;done)|skip
  cases h
  exact A3s 9998 _ _ _ _ _ _ _ _ R
 |false=>
  rw[h4] at h
  exact A3p t xs ys b h
def At2 (t:TypeId) (xs ys:List Value):Option Bool:=
 bif Nat.beq t 26 then A3q xs ys else bif Nat.beq t 24 then A3q xs ys else bif Nat.beq t 87 then A9h xs ys else A7u t xs ys
theorem Anc:Ayh Tryd.prog At2:=fun t xs ys b h=>by
 unfold At2 at h
 cases h1:Nat.beq t 26 with
 |true=>
  rw[h1] at h
  rw[Nat.eq_of_beq_eq_true h1]
  refine⟨Ant,fun R=>?_⟩
  unfold A3q at h
  simp only[cond_true] at h
  split at h<;>first|(cases h;done)|skip
  cases h
  exact eqVec 9998 _ _ _ _ R
 |false=>
 cases h2:Nat.beq t 24 with
 |true=>
  rw[h1,h2] at h
  rw[Nat.eq_of_beq_eq_true h2]
  refine⟨Aa7,fun R=>?_⟩
  unfold A3q at h
  simp only[cond_true,cond_false] at h
  split at h<;>first|(cases h;done)|skip
  cases h
  exact eqStamp 9998 _ _ _ _ R
 |false=>
 cases h3:Nat.beq t 87 with
 |true=>
  rw[h1,h2,h3] at h
  rw[Nat.eq_of_beq_eq_true h3]
  refine⟨Ag4,fun R=>?_⟩
  unfold A9h at h
  simp only[cond_true,cond_false] at h
  split at h<;>first|(cases h;done)|skip
  cases h
  exact eqCell 9997 _ _ _ _ _ _ _ _ _ _ _ _ _ _ _ _ R
 |false=>
  rw[h1,h2,h3] at h
  exact A3r t xs ys b h
noncomputable def AI (C:Tab) (L:Aij):Env:=⟨Tryd.prog,At2,C,false,Ava,L⟩
noncomputable def Awb (C:Tab):Env:=⟨Tryd.prog,At2,C,true,Ava,L0⟩
theorem A3m {C:Tab} {L:Aij} (hC:FM Tryd.prog C) (hL:∀l s b ps outs,L l s=some (b,ps,outs)→Ayi (AI C L) l b s ps outs):N8 (AI C L) where
 suf f args nx o k x nx' o' ps h:=(hC f args nx o k x nx' o' ps h).2
 wide:=A63
 eq:=Anc
 C f args nx o k x nx' o' ps h:=(hC f args nx o k x nx' o' ps h).1
 tc:=Apn
 loops:=hL
theorem Uy {C:Tab} (hC:FM Tryd.prog C):N8 (Awb C) where
 suf f args nx o k x nx' o' ps h:=(hC f args nx o k x nx' o' ps h).2
 wide:=A63
 eq:=Anc
 C f args nx o k x nx' o' ps h:=(hC f args nx o k x nx' o' ps h).1
 tc:=Apn
 loops _ _ _ _ _ h:=by cases h
end Go.Proofs.YtifkbgkbajncjaaDoor
namespace Go.Proofs.YtifkbgkbajncjaaDoor
open Go.RowKit
def Ij (L:Aij):Prop:=∀l s b ps outs,L l s=some (b,ps,outs)→Ayi (AI C0 L0) l b s ps outs
theorem AX:Ij L0:=fun _ _ _ _ _ h=>by cases h
theorem BK {l0:Nat} {g:St→Option (Code×List Prop×Bh)} {L:Aij} (hg:∀s b ps outs,g s=some (b,ps,outs)→Wf s ⟨ps,outs,none⟩∧DE (AI C0 L0) b s ps outs) (hL:Ij L):Ij (Gt l0 g L):=fun l s b ps outs h=>by
 unfold Gt at h
 cases hb:Nat.beq l l0 with
 |true=>
  rw[hb,cond_true] at h
  cases hr:Nat.ble rfK l with
  |true=>rw[hr] at h;cases h
  |false=>rw[hr] at h;exact⟨fun _=>hg s b ps outs h,fun e=>by rw[hr] at e;cases e⟩
 |false=>rw[hb] at h;exact hL l s b ps outs h
theorem AJ {C:Tab} {L:Aij} (hC:FM Tryd.prog C) (hL:Ij L):N8 (AI C L):=A3m hC hL
theorem C5 {C:Tab} {L:Aij} (hC:FM Tryd.prog C) (hL:Ij L) {u:Nat} {b:Code} {S:F4} {En:Gi} {X:Type} {T:X→St} {unT:St→Option X} {fuel:X→Nat} {next:X→X} {goes:X→Cnd} {psA ps:X→List Prop} {outs:X→Bh} (hS:okL S.nb S.nx1 S.ren=true) (hnb:S.nb≤S.nx1)
  (hr:∀x,Dq (AI C L) u b S (T x)=some (psA x,outs x,goes x,T (next x))) (hA:∀x,(∀p∈ps x,p)→∀p∈psA x,p) (hu:∀s x,unT s=some x→s=T x)
  (hw:∀x,KX (outs x)∧∀t c y,AF t (outs x)=some (c,y)→y.n=(T x).n) (hTn:∀x y,(T x).n=(T y).n):∀s b0 qs os,Jl (AI C L) b S En unT fuel next goes ps outs s=some (b0,qs,os)→Wf s ⟨qs,os,none⟩∧DE (AI C0 L0) b0 s qs os:=
 fun _ _ _ _ he=>A4y (AJ hC hL) hS hnb hr hA hu hw hTn he
def Arz (n:Nat):Bh→Bool
 | []=>true
 |(t,_,s)::r=>Nat.beq s.n n&&((match AF t r with|some _=>false|none=>true)&&Arz n r)
theorem Bc {n:Nat}:∀{o:Bh},Arz n o=true→KX o∧∀t c y,AF t o=some (c,y)→y.n=n
 | [],_=>⟨trivial,fun t c y h=>by cases h⟩
 | (k,d,s)::r,h=>by
  unfold Arz at h
  simp only[Bool.and_eq_true] at h
  obtain⟨h1,h2,h3⟩:=h
  obtain⟨g1,g2⟩:=Bc h3
  refine⟨⟨?_,g1⟩,fun t c y hy=>?_⟩
  ·cases hg:AF k r with
   |none=>rfl
   |some x=>rw[hg] at h2;cases h2
  ·have hy':(bif Et k t then some (d,s) else AF t r)=some (c,y):=hy
   cases hb:Et k t with
   |true=>rw[hb] at hy';cases hy';exact Nat.eq_of_beq_eq_true h1
   |false=>rw[hb] at hy';exact g2 t c y hy'
theorem Ki (x:Int):0≤IntKind.u8.wrap x∧IntKind.u8.wrap x <256:=by
 simp only[IntKind.wrap,IntKind.bits,IntKind.signed]
 have h1:=Int.emod_nonneg x (show(256:Int)≠0 by decide)
 have h2:=Int.emod_lt_of_pos x (show(0:Int) <256 by decide)
 exact⟨h1,h2⟩
theorem A5w (x:Int):0≤IntKind.u64.wrap x:=by
 simp only[IntKind.wrap,IntKind.bits,IntKind.signed]
 exact Int.emod_nonneg x (by decide)
def A9d (c:TC) (x:A):Option (U c×List Prop):=match V6 x with
 |some cs=>MX c cs
 |none=>none
def A7i (c:TC):A→Option (List (U c))
 | .sl c' l=>match TC.same c' c with
  |some h=>some (IX h.down l)
  |none=>none
 | .nl=>some []
 | .v x=>bif C7 x then some [] else none
 |_=>none
section
variable {F:Nat→Prop} {N:Nm} {nx:Nat} {R:World}
theorem A20 {c:TC} {x:A} {l:List (U c)} {v:Value} (he:A7i c x=some l) (h:Hv F N nx R x v):Hv F N nx R (.sl c l) v:=by
 unfold A7i at he
 split at he<;>first|(cases he;done)|skip
 ·split at he<;>first|(cases he;done)|skip
  rename_i h1 _
  obtain⟨h1⟩:=h1
  subst h1
  cases he
  exact h
 ·cases he
  obtain⟨a,e⟩:=h.nl_inv
  exact Hv.sl_nil e
 ·rename_i x
  cases hb:C7 x with
  |false=>rw[hb] at he;cases he
  |true=>
   rw[hb] at he
   cases he
   exact Hv.sl_nil (by rw[h.v_inv,Fi hb])
theorem Arc {c:TC} {d:U c} {vs:List Value} (h:HL F N nx R (enc c d) vs) (ha:c.isAgg=true):Hv F N nx R (Ar c d) (.agg vs.toArray):=by
 unfold Ar
 rw[ha]
 exact N9 h
theorem Ard {c:TC} {d:U c} {vs:List Value} {v:Value} (h:HL F N nx R (enc c d) vs) (ha:c.isAgg=false) (hv:vs[0]?=some v):Hv F N nx R (Ar c d) v:=by
 unfold Ar
 rw[ha]
 show Hv F N nx R (match enc c d with|x::_=>x| []=> .dead) v
 generalize enc c d=l at h
 cases l with
 |nil=>exact .dead _
 |cons x r=>
  obtain⟨w,ws,rfl,h1,_⟩:=h.inv
  cases hv
  exact h1
def O7 (c:TC):A→Bool
 | .v (.agg _)=>c.isAgg
 | .agg _=>c.isAgg
 | .v (.tuple _)=>false
 | .v x=>!c.isAgg&&x.oneCell'
 | .opt _ _ _=>false
 | .tup _=>false
 | .dead=>false
 | .it _ _=>false
 | .sq _=>false
 | .dq _=>false
 | .iv _ _=>false
 | .de _ _ _ _=>false
 | .ie _ _ _ _ _=>false
 | .av _ _ _=>false
 | .rv _=>false
 | .vr _ _ _ _=>false
 | .vd _ _ _ _=>false
 |_=>!c.isAgg
def A7j (c:TC) (x:A):Option (U c×List Prop):=bif O7 c x then A9d c x else none
theorem A21 {c:TC} {x:A} {d:U c} {ps:List Prop} {v:Value} (he:A7j c x=some (d,ps)) (hp:∀p∈ps,p) (h:Hv F N nx R x v):Hv F N nx R (Ar c d) v:=by
 unfold A7j at he
 cases hf:O7 c x with
 |false=>rw[hf] at he;cases he
 | true=>
  rw[hf] at he
  simp only[cond_true] at he
  unfold A9d at he
  split at he<;>first|(cases he;done)|skip
  rename_i cs hcs
  have hd:=Ti (F:=F) (N:=N) (nx:=nx) (R:=R) he hp
  have single:∀{y:A},Hv F N nx R y v→cs=[y]→c.isAgg=false→Hv F N nx R (Ar c d) v:=fun {y} hy e hc=>by
   subst e
   exact Ard (hd [v] (HL.cons hy HL.nil)) hc rfl
  cases x<;>first|(cases hf;done)|skip
  ·rename_i y
   have hv:=h.v_inv
   subst hv
   cases hcs
   have hl:HL F N nx R (toL v.cells.toList) v.cells.toList:=HL.toL _
   cases v with
   |agg xs=>
    have hl':HL F N nx R (toL xs.toList) xs.toList:=hl
    have:=Arc (hd _ hl') hf
    simpa using this
   |tuple xs=>cases hf
   |_=>
    simp only[O7,Bool.and_eq_true,Bool.not_eq_true'] at hf
    exact Ard (hd _ hl) hf.1 rfl
  ·cases hcs
   exact single h rfl (by simpa[O7] using hf)
  ·cases hcs
   exact single h rfl (by simpa[O7] using hf)
  ·cases hcs
   exact single h rfl (by simpa[O7] using hf)
  ·cases hcs
   exact single h rfl (by simpa[O7] using hf)
  ·cases hcs
   exact single h rfl (by simpa[O7] using hf)
  ·cases hcs
   exact single h rfl (by simpa[O7] using hf)
  ·cases hcs
   exact single h rfl (by simpa[O7] using hf)
  ·cases hcs
   exact single h rfl (by simpa[O7] using hf)
  ·cases hcs
   exact single h rfl (by simpa[O7] using hf)
  ·cases hcs
   obtain⟨vs,rfl,h2⟩:=h.agg_inv
   exact Arc (hd _ h2) hf
end
theorem Nc:freeL []=true:=by unfold freeL;rfl
theorem HZ {x:A} {r:List A} (h:x.free=true) (k:freeL r=true):freeL (x::r)=true:=by unfold freeL;rw[h,k];rfl
theorem Ah7 (c:TC) (d:U c):(Ar c d).free=true:=by
 have hfr:∀l:List A,(∀x∈l,x.free=true)→freeL l=true:=fun l=>by
  induction l with
  |nil=>intro _;unfold freeL;rfl
  |cons x r ih=>intro h;unfold freeL;rw[h x (List.mem_cons_self ..),ih fun y hy=>h y (List.mem_cons_of_mem _ hy)];rfl
 have h:=Am8 c d
 unfold Ar
 cases c.isAgg with
 |true=>
  show(MZ (enc c d)).free=true
  unfold MZ
  split
  ·unfold A.free;rfl
  ·unfold A.free;exact hfr _ h
 |false=>
  show A.free (match enc c d with|x::_=>x| []=> .dead)=true
  have hl:=Tk c d
  have hs:0 <size c:=by cases c<;>decide
  generalize enc c d=l at h hl
  cases l with
  |nil=>rw[←hl] at hs;cases hs
  |cons x r=>exact h x (List.mem_cons_self ..)
theorem Ami {P:Program} {f:FuncId} {args args':List A} {nx k nx':Nat} {o o':Objs} {x:A} (h:CallOk P f args' nx o k x nx' o') (ha:∀(F:Nat→Prop) (N:Nm) (R:World) (vs:List Value),HL F N nx R args vs→HL F N nx R args' vs):CallOk P f args nx o k x nx' o':=
 fun F N R vs hh hl=>h F N R vs hh (ha F N R vs hl)
inductive Kd where
 |l (c:TC)
 |t (c:TC)
 |a (c:TC) (n:Nat)
def Fn (X:Type):List Kd→Type
 | []=>X
 | .l c::r=>List (U c)→Fn X r
 | .t c::r=>U c→Fn X r
 | .a c _::r=>List (U c)→Fn X r
abbrev FnP:=Fn (List Prop)
def Bas (ps:List Prop):Prop:=∀p∈ps,p
def A2u (q:List Prop):Option CJ→Option CJ
 |some (k,x,nx,o,p)=>some (k,x,nx,o,q++p)
 |none=>none
def Apa (m nx:Nat) (ob:Objs):(ks:List Kd)→Fn A ks→Fn Objs ks→FnP ks→List A→Option CJ
 | [],r,o,ps,[]=>some (1,A.pk (TS nx) r,nx+m,TR nx o++ob,ps)
 | .l c::ks,r,o,ps,y::ys=>match A7i c y with
  |some a=>Apa m nx ob ks (r a) (o a) (ps a) ys
  |none=>none
 | .t c::ks,r,o,ps,y::ys=>match A7j c y with
  |some (a,q)=>A2u q (Apa m nx ob ks (r a) (o a) (ps a) ys)
  |none=>none
 | .a c n::ks,r,o,ps,y::ys=>match A2z c n y with
  |some (a,q)=>A2u q (Apa m nx ob ks (r a) (o a) (ps a) ys)
  |none=>none
 |_,_,_,_,_=>none
def Fc (ks:List Kd) (m:Nat) (r:Fn A ks) (o:Fn Objs ks) (ps:FnP ks):List A→Nat→Objs→Option CJ:=fun args nx ob=>Apa m nx ob ks r o ps args
def OkG (P:Program) (f:FuncId) (m:Nat):(ks:List Kd)→List A→Fn A ks→Fn Objs ks→FnP ks→Prop
 | [],pre,r,o,ps=>Bas ps→CallOk P f pre 0 [] 1 r m o
 | .l c::ks,pre,r,o,ps=>∀a,OkG P f m ks (pre++[.sl c a]) (r a) (o a) (ps a)
 | .t c::ks,pre,r,o,ps=>∀a,OkG P f m ks (pre++[Ar c a]) (r a) (o a) (ps a)
 | .a c n::ks,pre,r,o,ps=>∀a,OkG P f m ks (pre++[.av c n a]) (r a) (o a) (ps a)
theorem Rw:∀{a b:List A},freeL a=true→freeL b=true→freeL (a++b)=true
 | [],_,_,h=>h
 |x::a,b,h,g=>by
  unfold freeL at h
  rw[Bool.and_eq_true] at h
  exact HZ h.1 (Rw h.2 g)
theorem A4x {P:Program} {f:FuncId} {m nx:Nat} {ob:Objs}:∀(ks:List Kd) (pre ys:List A) (r:Fn A ks) (o:Fn Objs ks) (ps:FnP ks),freeL pre=true→OkG P f m ks pre r o ps→∀{k x nx' o' qs},Apa m nx ob ks r o ps ys=some (k,x,nx',o',qs)→
  (∃d,o'=d++ob)∧∃zs,freeL zs=true∧((∀p∈qs,p)→(∀(F:Nat→Prop) (N:Nm) (R:World) (vs:List Value),HL F N nx R ys vs→HL F N nx R zs vs)∧CallOk P f (pre++zs) nx ob k x nx' o'):=by
 intro ks
 induction ks with
 | nil=>
  intro pre ys r o ps hf hok k x nx' o' qs he
  cases ys with
  |cons y ys=>cases he
  |nil=>
   cases he
   exact⟨⟨_,rfl⟩,[],Nc,fun hp=>⟨fun _ _ _ _ h=>h,by rw[List.append_nil];exact Ud (hok hp) (Nat.le_refl _) hf nx ob⟩⟩
 | cons kd ks ih=>
  intro pre ys r o ps hf hok k x nx' o' qs he
  cases ys with
  |nil=>cases kd<;>cases he
  | cons y ys=>
   cases kd with
   |l c=>
    unfold Apa at he
    split at he<;>first|(cases he;done)|skip
    rename_i a ha
    obtain⟨h1,zs,h2,h3⟩:=ih (pre++[.sl c a]) ys (r a) (o a) (ps a) (Rw hf (HZ (by unfold A.free;rfl) Nc)) (hok a) he
    refine⟨h1,.sl c a::zs,HZ (by unfold A.free;rfl) h2,fun hp=>⟨fun F N R vs hl=>?_,by have:=(h3 hp).2;rwa[List.append_assoc] at this⟩⟩
    obtain⟨v,w,rfl,q1,q2⟩:=hl.inv
    exact HL.cons (A20 ha q1) ((h3 hp).1 F N R w q2)
   |t c=>
    unfold Apa at he
    split at he<;>first|(cases he;done)|skip
    rename_i a q ha
    unfold A2u at he
    split at he<;>first|(cases he;done)|skip
    rename_i k1 x1 nx1 o1 p1 he1
    cases he
    obtain⟨h1,zs,h2,h3⟩:=ih (pre++[Ar c a]) ys (r a) (o a) (ps a) (Rw hf (HZ (Ah7 _ _) Nc)) (hok a) he1
    refine⟨h1,Ar c a::zs,HZ (Ah7 _ _) h2,fun hp=>?_⟩
    have hp1:=fun p hm=>hp p (List.mem_append.2 (.inl hm))
    have hp2:=h3 fun p hm=>hp p (List.mem_append.2 (.inr hm))
    refine⟨fun F N R vs hl=>?_,by have:=hp2.2;rwa[List.append_assoc] at this⟩
    obtain⟨v,w,rfl,q1,q2⟩:=hl.inv
    exact HL.cons (A21 ha hp1 q1) (hp2.1 F N R w q2)
   |a c n=>
    unfold Apa at he
    split at he<;>first|(cases he;done)|skip
    rename_i a q ha
    unfold A2u at he
    split at he<;>first|(cases he;done)|skip
    rename_i k1 x1 nx1 o1 p1 he1
    cases he
    obtain⟨h1,zs,h2,h3⟩:=ih (pre++[.av c n a]) ys (r a) (o a) (ps a) (Rw hf (HZ (by unfold A.free;rfl) Nc)) (hok a) he1
    refine⟨h1,.av c n a::zs,HZ (by unfold A.free;rfl) h2,fun hp=>?_⟩
    have hp1:=fun p hm=>hp p (List.mem_append.2 (.inl hm))
    have hp2:=h3 fun p hm=>hp p (List.mem_append.2 (.inr hm))
    refine⟨fun F N R vs hl=>?_,by have:=hp2.2;rwa[List.append_assoc] at this⟩
    obtain⟨v,w,rfl,q1,q2⟩:=hl.inv
    exact HL.cons (Atq ha hp1 q1) (hp2.1 F N R w q2)
theorem AM {P:Program} {f:FuncId} {ks:List Kd} {m:Nat} {r:Fn A ks} {o:Fn Objs ks} {ps:FnP ks} (h:OkG P f m ks [] r o ps):IV P f (Fc ks m r o ps):=fun args nx ob k x nx' o' qs he=>by
 obtain⟨h1,zs,_,h3⟩:=A4x ks [] args r o ps Nc h he
 exact⟨fun hp=>Ami (h3 hp).2 (h3 hp).1,h1⟩
theorem HW.free {F:Nat→Prop} {N N':Nm} {nx nx':Nat} {R:World}:∀{xs:List A} {us:List Value},freeL xs=true→HW F N nx R xs us→HW F N' nx' R xs us
 | [],_,_,h=>h
 |x::r,_,hf,⟨v,t,h1,h2,h3,h4⟩=>by unfold freeL at hf;rw[Bool.and_eq_true] at hf;exact⟨v,t,h1,h2.free hf.1,h3,HW.free hf.2 h4⟩
end Go.Proofs.YtifkbgkbajncjaaDoor
namespace Go.Proofs.YtifkbgkbajncjaaDoor
open Go.RowKit
def FJ (k:IntKind) (n:Int):Prop:=(Lit.int k n).wf=true
def WfS (x:TStamp):Prop:=FJ .i64 x.n∧FJ .i64 x.site
def WfV (x:TVec):Prop:=FJ .i64 x.a∧FJ .i64 x.b
def S6 (x:Au):Prop:=WfS x.stamp∧WfV x.vec∧True∧x.value.size≤maxLen∧WfV x.dead
def Agd (x:Aq):Prop:=x.key.size≤maxLen∧(x.cells.length≤maxLen∧∀y∈x.cells,S6 y)
def Atn (x:AA):Prop:=x.key.size≤maxLen∧FJ .i64 x.group∧True∧x.value.size≤maxLen
def Al6 (x:TChange):Prop:=FJ .i64 x.site∧FJ .i64 x.seq∧WfS x.stamp∧WfV x.vec∧(x.writes.length≤maxLen∧∀y∈x.writes,Atn y)
def Atm (x:S5):Prop:=FJ .i64 x.group∧x.value.size≤maxLen
def Wfd:(c:TC)→U c→Prop
 | .i64,n=>FJ .i64 n
 | .u32,n=>FJ .u32 n
 | .str,s=>s.size≤maxLen
 | .vec,x=>WfV x
 | .stamp,x=>WfS x
 | .cell,x=>S6 x
 | .group,x=>x.name.size≤maxLen∧FJ .i64 x.policy
 | .write,x=>Atn x
 | .row,x=>Agd x
 | .change,x=>Al6 x
 | .field,x=>Atm x
 | .view,x=>x.key.size≤maxLen∧(x.fields.length≤maxLen∧∀y∈x.fields,Atm y)
 | .told,x=>FJ .i64 x.ack∧FJ .i64 x.own∧FJ .i64 x.come
 | .act,x=>FJ .i64 x.kind∧Agd x.row∧x.til.size≤maxLen∧FJ .i64 x.n
 | .front,x=>FJ .i64 x.site∧FJ .i64 x.acked∧FJ .i64 x.stable∧FJ .i64 x.wait∧FJ .i64 x.til
 | .ask,x=>WfS x.stamp∧WfV x.vec∧True∧x.value.size≤maxLen
 | .two,x=>Agd x.row∧FJ .i64 x.group∧S6 x.cell
 | .note,x=>x.name.size≤maxLen∧x.text.size≤maxLen
 | .packet,x=>FJ .i64 x.src∧x.bytes.size≤maxLen
 | .place,x=>x.key.size≤maxLen∧FJ .i64 x.group
 | .bytes,l=>l.length≤maxLen∧∀y∈l,True
 | .ints,l=>l.length≤maxLen∧∀y∈l,FJ .i64 y
 | .cells,l=>l.length≤maxLen∧∀y∈l,S6 y
 | .rows,l=>l.length≤maxLen∧∀y∈l,Agd y
 | .ask3,x=>x.key.size≤maxLen∧x.from_.size≤maxLen∧x.til.size≤maxLen∧FJ .i64 x.n
 | .three,x=>(x.a.length≤maxLen∧∀y∈x.a,S6 y)∧(x.b.length≤maxLen∧∀y∈x.b,S6 y)∧(x.c.length≤maxLen∧∀y∈x.c,S6 y)
 | .digest,x=>x.length=32
 | .msg,x=>FJ .i64 x.kind∧FJ .i64 x.site∧Al6 x.change∧FJ .i64 x.ack∧FJ .i64 x.own∧(x.path.length≤maxLen∧∀y∈x.path,FJ .i64 y)∧(x.sums.length≤maxLen∧∀y∈x.sums,y.length=32)∧(x.rows.length≤maxLen∧∀y∈x.rows,Agd y)∧WfV x.know∧True
 |_,_=>True
def FB (w:World) (F:Nat→Prop):Prop:=∀b,b <w.heap.size→F b
def A88 (P:Program) (c:TC) (t:TypeId) {H:Type} (en:TypeId×Value→H) (w:World) (base:Nat) (spare:Nat→Bool) (held:Bool):Prop:=
 ∀(m:Nat) (cs:List Value) (y:DataW H×List MemPlace),DataW.trod en P w base spare held m t cs=some y→∃x:U c,Wfd c x∧∀(F:Nat→Prop) (N:Nm) (nx:Nat),FB w F→HL F N nx w (enc c x) cs
def Xu (P:Program) (c:TC) (t:TypeId):Prop:=∀{H:Type} (en:TypeId×Value→H) (w:World) (base:Nat) (spare:Nat→Bool) (held:Bool),A88 P c t en w base spare held
def T5 (P:Program) (c:TC) (t:TypeId):Prop:=∀{H:Type} (en:TypeId×Value→H) (w:World) (base:Nat) (spare:Nat→Bool) (held:Bool) (m:Nat) (cs:List Value) (y:DataW H×List MemPlace),
 DataW.trod en P w base spare held m t cs=some y→∃l:List (U c),(l.length≤maxLen∧∀x∈l,Wfd c x)∧∀(F:Nat→Prop) (N:Nm) (nx:Nat),FB w F→HL F N nx w [.sl c l] cs
section
variable {P:Program} {t:TypeId}
theorem A4l (hu:P.underlying t=some (.int .i64)):Xu P .i64 t:=fun en w base spare held m cs y h=>by
 obtain⟨n,rfl,_,hw⟩:=DataW.trod_int hu h
 exact⟨n,hw,fun F N nx _=>HL.cons (Hv.v _) HL.nil⟩
theorem A4n (hu:P.underlying t=some (.int .u32)):Xu P .u32 t:=fun en w base spare held m cs y h=>by
 obtain⟨n,rfl,_,hw⟩:=DataW.trod_int hu h
 exact⟨n,hw,fun F N nx _=>HL.cons (Hv.v _) HL.nil⟩
theorem A78 (hu:P.underlying t=some (.int .u8)):Xu P .u8 t:=fun en w base spare held m cs y h=>by
 obtain⟨n,rfl,_,hw⟩:=DataW.trod_int hu h
 refine⟨UInt8.ofNat n.toNat,trivial,fun F N nx _=>?_⟩
 have hn:0≤n∧n <256:=by
  simp[Lit.wf,IntKind.min,IntKind.max,IntKind.signed,IntKind.bits] at hw
  omega
 have e:A4 (UInt8.ofNat n.toNat)=.int .u8 n:=by
  unfold A4
  have:((UInt8.ofNat n.toNat).toNat:Int)=n:=by
   rw[UInt8.toNat_ofNat']
   omega
  rw[this]
 exact HL.cons (by rw[e];exact Hv.v _) HL.nil
theorem A0i (hu:P.underlying t=some .bool):Xu P .bool t:=fun en w base spare held m cs y h=>by
 obtain⟨n,rfl,_⟩:=DataW.trod_bool hu h
 exact⟨n,trivial,fun F N nx _=>HL.cons (Hv.v _) HL.nil⟩
theorem A4m (hu:P.underlying t=some .string):Xu P .str t:=fun en w base spare held m cs y h=>by
 obtain⟨n,rfl,_,hw⟩:=DataW.trod_string hu h
 exact⟨n,hw,fun F N nx _=>HL.cons (Hv.v _) HL.nil⟩
theorem Aui {α:Type} {Q:Nat→α→Prop}:∀(n:Nat),(∀i,i <n→∃x,Q i x)→∃l:List α,l.length=n∧∀(i:Nat) (x:α),l[i]?=some x→Q i x
 |0,_=>⟨[],rfl,fun i x h=>by cases h⟩
 | n+1,h=>by
  obtain⟨l,h1,h2⟩:=Aui n fun i hi=>h i (by omega)
  obtain⟨x,hx⟩:=h n (by omega)
  refine⟨l++[x],by simp[h1],fun i y hy=>?_⟩
  rcases Nat.lt_trichotomy i n with hi|rfl|hi
  ·rw[List.getElem?_append_left (by omega)] at hy
   exact h2 i y hy
  ·rw[List.getElem?_append_right (by omega)] at hy
   simp[h1] at hy
   subst hy
   exact hx
  ·rw[List.getElem?_eq_none (by simp;omega)] at hy
   cases hy
theorem V7 {w:World} {base:Nat} {a:Addr} {n:Nat} {cs:List Value} (h:w.cells? base a n=some cs):base≤a.block∧cs.length=n∧∀(j:Nat) (v:Value),cs[j]?=some v→w.cell? (a.add j)=some v:=by
 unfold World.cells? at h
 split at h
 ·rename_i hb
  refine⟨hb,by simpa using mapM_some_length h,fun j v hv=>?_⟩
  have hl:cs.length=n:=by simpa using mapM_some_length h
  have hj:j <n:=by
   have:=(List.getElem?_eq_some_iff.1 hv).1
   omega
  have:=mapM_some_get h j j (by simp[hj])
  rw[this,hv]
 ·cases h
theorem NJ {c:TC} {e:TypeId} (hu:P.underlying t=some (.slice e)) (hs:P.cellsOf e=size c) (he:Xu P c e):T5 P c t:=fun en w base spare held m cs y h=>by
 rcases DataW.trod_slice hu h with⟨rfl,_⟩|⟨a,len,cap,elems,rest,n,_,rfl,_,hb,hlc,hcm,hel,hg,_⟩
 ·exact⟨[],⟨Nat.zero_le _,fun x hx=>by cases hx⟩,fun F N nx _=>HL.cons (Hv.sl_nil (a:=none) rfl) HL.nil⟩
 ·have each:∀i,i <len→∃x:U c,Wfd c x∧∃zs,w.cells? base (a.add (i*size c)) (size c)=some zs∧∀(F:Nat→Prop) (N:Nm) (nx:Nat),FB w F→HL F N nx w (enc c x) zs:=fun i hi=>by
   have:=hg i hi
   rw[hs] at this
   have h2:elems[i]?≠none:=by
    intro h0
    rw[List.getElem?_eq_none_iff] at h0
    omega
   obtain⟨z,hz⟩:=Option.ne_none_iff_exists'.1 h2
   rw[hz] at this
   obtain⟨zs,h3,h4⟩:=Option.bind_eq_some_iff.1 this
   obtain⟨x,h5,h6⟩:=he en w base spare held n zs z h4
   exact⟨x,h5,zs,h3,h6⟩
  obtain⟨l,h1,h2⟩:=Aui len each
  refine⟨l,⟨by omega,fun x hx=>?_⟩,fun F N nx hF=>HL.cons ?_ HL.nil⟩
  ·obtain⟨i,hi⟩:=List.getElem?_of_mem hx
   exact(h2 i x hi).1
  ·subst h1
   refine Hv.sl a hlc (fun hp=>⟨rfl,?_⟩) (fun i d j x hd hx=>?_) (fun i d j x y hd hx hy=>?_)
   ·obtain⟨_,zs,h3,h4⟩:=h2 0 l[0] (by rw[List.getElem?_eq_getElem hp])
    obtain⟨_,h5,h6⟩:=V7 h3
    have hsz:0 <zs.length:=by rw[h5];cases c<;>decide
    have:=h6 0 zs[0] (by rw[List.getElem?_eq_getElem hsz])
    have:=World.block_lt_of_cell? w _ this
    rw[Gj,Gj] at this
    exact hF _ this
   ·obtain⟨_,zs,h3,h4⟩:=h2 i d hd
    obtain⟨v,h5,h6⟩:=(h4 F N nx hF).get hx
    refine⟨v,?_⟩
    rw[←BU]
    exact(V7 h3).2.2 j v h5
   ·obtain⟨_,zs,h3,h4⟩:=h2 i d hd
    obtain⟨v,h5,h6⟩:=(h4 F N nx hF).get hx
    have:=(V7 h3).2.2 j v h5
    rw[BU,hy] at this
    cases this
    exact h6
end
section
variable {H:Type} {en:TypeId×Value→H} {P:Program} {w:World} {base:Nat} {spare:Nat→Bool} {held:Bool} {F:Nat→Prop} {N:Nm} {nx:Nat}
theorem J4 {fs:Array Field} {cs:List Value} {m i:Nat} {xs:List (DataW H×List MemPlace)} {f:Field} {t:TypeId} {o k:Nat} {c:TC} (ho:Xu P c t) (hf:fs[i]?=some f) (ht:f.type=t) (hof:f.offset=o) (hk:P.cellsOf t=k) (hi:i <xs.length)
  (g:∀(i:Nat) (f:Field),fs[i]?=some f→DataW.trod en P w base spare held m f.type ((cs.drop f.offset).take (P.cellsOf f.type))=xs[i]?):∃x:U c,Wfd c x∧∀(F:Nat→Prop) (N:Nm) (nx:Nat),FB w F→HL F N nx w (enc c x) ((cs.drop o).take k):=by
 subst ht hof hk
 have:=g i f hf
 rw[List.getElem?_eq_getElem hi] at this
 exact ho en w base spare held m _ _ this
theorem Azi {fs:Array Field} {cs:List Value} {m i:Nat} {xs:List (DataW H×List MemPlace)} {f:Field} {t:TypeId} {o k:Nat} {c:TC} (ho:T5 P c t) (hf:fs[i]?=some f) (ht:f.type=t) (hof:f.offset=o) (hk:P.cellsOf t=k) (hi:i <xs.length)
  (g:∀(i:Nat) (f:Field),fs[i]?=some f→DataW.trod en P w base spare held m f.type ((cs.drop f.offset).take (P.cellsOf f.type))=xs[i]?):∃l:List (U c),(l.length≤maxLen∧∀x∈l,Wfd c x)∧∀(F:Nat→Prop) (N:Nm) (nx:Nat),FB w F→HL F N nx w [.sl c l] ((cs.drop o).take k):=by
 subst ht hof hk
 have:=g i f hf
 rw[List.getElem?_eq_getElem hi] at this
 exact ho en w base spare held m _ _ this
theorem Hd {cs:List Value} {m i n:Nat} {xs:List (DataW H×List MemPlace)} {t:TypeId} {k:Nat} {c:TC} (ho:Xu P c t) (hk:P.cellsOf t=k) (hx:i <xs.length) (hn:i <n)
  (g:∀(i:Nat),i <n→DataW.trod en P w base spare held m t ((cs.drop (i*P.cellsOf t)).take (P.cellsOf t))=xs[i]?):∃x:U c,Wfd c x∧∀(F:Nat→Prop) (N:Nm) (nx:Nat),FB w F→HL F N nx w (enc c x) ((cs.drop (i*k)).take k):=by
 subst hk
 have:=g i hn
 rw[List.getElem?_eq_getElem hx] at this
 exact ho en w base spare held m _ _ this
theorem HQ {o k:Nat} {cs:List Value} {l r:List A} (h:HL F N nx w l ((cs.drop o).take k)) (h':HL F N nx w r (cs.drop (o+k))):HL F N nx w (l++r) (cs.drop o):=by
 have e:cs.drop o=(cs.drop o).take k++cs.drop (o+k):=by
  rw[←List.drop_drop,List.take_append_drop]
 rw[e]
 exact h.append h'
theorem HLe {o:Nat} {cs:List Value} (h:cs.length=o):HL F N nx w [] (cs.drop o):=by
 rw[List.drop_eq_nil_of_le (by omega)]
 exact HL.nil
end
end Go.Proofs.YtifkbgkbajncjaaDoor
namespace Go.Proofs.YtifkbgkbajncjaaDoor
open Go.RowKit
theorem Abq {X:Type} {next:X→X} {goes:X→Cnd} {ps:X→List Prop} (I:X→Prop) (m:X→Nat) (h:∀x,I x→(∀p∈ps x,p)∧(A9 (goes x)=true→I (next x)∧m (next x) <m x)):
  ∀(n:Nat) (x:X),I x→m x≤n→AN next goes ps n x∧I (Ba next goes n x)∧A9 (goes (Ba next goes n x))=false
 | 0,x,hi,hm=>by
  obtain⟨h1,h2⟩:=h x hi
  have hg:A9 (goes x)=false:=by
   cases hc:A9 (goes x) with
   |false=>rfl
   |true=>have:=(h2 hc).2;omega
  exact⟨⟨h1,hg⟩,hi,hg⟩
 | n+1,x,hi,hm=>by
  obtain⟨h1,h2⟩:=h x hi
  cases hc:A9 (goes x) with
  | false=>
   have e:Ba next goes (n+1) x=x:=by
    show(bif A9 (goes x) then _ else x)=x
    rw[hc];rfl
   rw[e]
   exact⟨⟨h1,fun hh=>by rw[hc] at hh;cases hh⟩,hi,hc⟩
  | true=>
   have e:Ba next goes (n+1) x=Ba next goes n (next x):=by
    show(bif A9 (goes x) then _ else x)=_
    rw[hc];rfl
   obtain⟨h3,h4⟩:=h2 hc
   obtain⟨g1,g2,g3⟩:=Abq I m h n (next x) h3 (by omega)
   rw[e]
   exact⟨⟨h1,fun _=>g1⟩,g2,g3⟩
theorem i64_in {n:Int} (h:-9223372036854775808≤n∧n≤9223372036854775807):IntKind.i64.wrap n=n:=IntWalk.i64_in n h
theorem Asw (n:Int):0≤IntKind.u64.wrap n∧IntKind.u64.wrap n≤18446744073709551615:=by
 have:=wrap_within .u64 n
 simpa[IntKind.min,IntKind.max,IntKind.signed,IntKind.bits] using this
end Go.Proofs.YtifkbgkbajncjaaDoor
namespace Go.Proofs.YtifkbgkbajncjaaDoor
open Go.RowKit
def Fa (n:Int):Nat:=if n <0∨n >4611686018427387903 then 0 else if n≥1073741824 then 8 else if n≥16384 then 4 else if n≥64 then 2 else 1
def be:Nat→Nat→List UInt8
 |0,_=>[]
 |k+1,N=>UInt8.ofNat (N / 256^k)::be k N
def A1g (k:Nat):Nat:=if k=2 then 1 else if k=4 then 2 else if k=8 then 3 else 0
def Aw (n:Int):List UInt8:=be (Fa n) (n.toNat+A1g (Fa n)*(64*256^(Fa n - 1)))
def val (acc:Nat) (l:List UInt8):Nat:=l.foldl (fun a y=>a*256+y.toNat) acc
def GH:List UInt8→Int×Int×Int
 | []=>(0,0,10)
 |x::r=>if r.length+1 <2^(x.toNat / 64) then(0,0,10) else if Fa (val (x.toNat % 64) (r.take (2^(x.toNat / 64) - 1))) <2^(x.toNat / 64) then(0,0,11) else((val (x.toNat % 64) (r.take (2^(x.toNat / 64) - 1)):Int),((2^(x.toNat / 64):Nat):Int),0)
theorem KU (x:UInt8) (r:List UInt8):GH (x::r)=if r.length+1 <2^(x.toNat / 64) then(0,0,10) else if Fa (val (x.toNat % 64) (r.take (2^(x.toNat / 64) - 1))) <2^(x.toNat / 64) then(0,0,11) else((val (x.toNat % 64) (r.take (2^(x.toNat / 64) - 1)):Int),((2^(x.toNat / 64):Nat):Int),0):=rfl
theorem Ib:∀(k N:Nat),(be k N).length=k
 |0,_=>rfl
 |k+1,N=>by unfold be;rw[List.length_cons,Ib]
theorem NX (acc:Nat) (x:UInt8) (r:List UInt8):val acc (x::r)=val (acc*256+x.toNat) r:=rfl
theorem OY:∀(l:List UInt8) (acc:Nat),val acc l=acc*256^l.length+val 0 l
 | [],acc=>by show acc=acc*256^0+0;omega
 |x::r,acc=>by
  rw[NX,NX,OY r,OY r (0*256+x.toNat),List.length_cons,Nat.pow_succ,Nat.zero_mul,Nat.zero_add,Nat.add_mul,Nat.mul_assoc,Nat.mul_comm 256]
  omega
theorem Ak1:∀(l:List UInt8),val 0 l <256^l.length
 | []=>by show 0 <256^0;decide
 |x::r=>by
  rw[NX,OY,List.length_cons,Nat.pow_succ,Nat.zero_mul,Nat.zero_add]
  have h1:=Ak1 r
  have h2:x.toNat+1≤256:=x.toNat_lt
  have:=Nat.mul_le_mul_right (256^r.length) h2
  rw[Nat.add_mul,Nat.one_mul] at this
  rw[Nat.mul_comm (256^r.length)]
  omega
theorem Aqb:∀(k N a:Nat),be k (N+a*256^k)=be k N
 |0,_,_=>rfl
 |k+1,N,a=>by
  unfold be
  have h:N+a*256^(k+1)=N+a*256*256^k:=by rw[Nat.pow_succ,Nat.mul_assoc,Nat.mul_comm (256^k)]
  rw[h,Aqb k N (a*256),Nat.add_mul_div_right _ _ (Nat.pow_pos (by decide))]
  congr 1
  apply UInt8.toNat_inj.1
  rw[UInt8.toNat_ofNat',UInt8.toNat_ofNat']
  omega
theorem Ayp:∀(l:List UInt8),be l.length (val 0 l)=l
 | []=>rfl
 | x::r=>by
  rw[List.length_cons]
  have e:val 0 (x::r)=val 0 r+x.toNat*256^r.length:=by
   rw[NX,OY,Nat.zero_mul,Nat.zero_add,Nat.add_comm]
  unfold be
  rw[e,Aqb,Ayp r,Nat.add_mul_div_right _ _ (Nat.pow_pos (by decide)),Nat.div_eq_of_lt (Ak1 r),Nat.zero_add]
  congr 1
  exact UInt8.ofNat_toNat
theorem A14:∀(k N acc:Nat),val acc (be k N)=acc*256^k+N % 256^k
 |0,N,acc=>by show acc=acc*256^0+N % 256^0;omega
 |k+1,N,acc=>by
  unfold be
  have h8:(UInt8.ofNat (N / 256^k)).toNat=N / 256^k % 256:=by rw[UInt8.toNat_ofNat']
  have hm:=Nat.mod_pow_succ (x:=N) (b:=256) (k:=k)
  rw[NX,A14 k,h8,hm,Nat.pow_succ,Nat.add_mul,Nat.mul_assoc,Nat.mul_comm 256 (256^k),Nat.mul_comm (256^k) (N / 256^k % 256)]
  omega
def szs (k:Nat):Prop:=k=1∨k=2∨k=4∨k=8
theorem Ah6 {n:Int} (h0:0≤n) (h1:n≤4611686018427387903):szs (Fa n)∧n.toNat <64*256^(Fa n - 1):=by
 unfold Fa szs
 rw[if_neg (by omega)]
 split
 ·exact⟨by decide,by show n.toNat <64*256^7;omega⟩
 ·split
  ·exact⟨by decide,by show n.toNat <64*256^3;omega⟩
  ·split
   ·exact⟨by decide,by show n.toNat <64*256^1;omega⟩
   ·exact⟨by decide,by show n.toNat <64*256^0;omega⟩
theorem Bah {n k:Nat} (hk:szs k) (h:n <64*256^(k - 1)):Fa n≤k∧1≤Fa n∧n≤4611686018427387903:=by
 unfold Fa
 rcases hk with rfl|rfl|rfl|rfl
 ·have h':n <64:=h
  rw[if_neg (by omega),if_neg (by omega),if_neg (by omega),if_neg (by omega)];omega
 ·have h':n <64*256:=h
  rw[if_neg (by omega),if_neg (by omega),if_neg (by omega)]
  split<;>omega
 ·have h':n <64*256^3:=h
  have h'':n <1073741824:=by omega
  rw[if_neg (by omega),if_neg (by omega)]
  split
  ·omega
  ·split<;>omega
 ·have h':n <64*256^7:=h
  have h'':n <4611686018427387904:=by omega
  rw[if_neg (by omega)]
  split
  ·omega
  ·split
   ·omega
   ·split<;>omega
theorem A8j {k:Nat} (hk:szs k):A1g k≤3∧2^A1g k=k:=by
 rcases hk with rfl|rfl|rfl|rfl<;>decide
theorem A1h {t:Nat} (h:t≤3):szs (2^t)∧A1g (2^t)=t:=by
 match t,h with
 |0,_=>exact⟨by unfold szs;decide,rfl⟩
 |1,_=>exact⟨by unfold szs;decide,rfl⟩
 |2,_=>exact⟨by unfold szs;decide,rfl⟩
 |3,_=>exact⟨by unfold szs;decide,rfl⟩
 |n+4,h=>omega
theorem Cy (n:Int):(Aw n).length=Fa n:=Ib _ _
theorem ZM {n:Int} (h0:0≤n) (h1:n≤4611686018427387903) (r:List UInt8):GH (Aw n++r)=(n,(Fa n:Int),0):=by
 obtain⟨hk,hn⟩:=Ah6 h0 h1
 unfold Aw
 generalize hkk:Fa n=k at*
 obtain⟨m,rfl⟩:∃m,k=m+1:=⟨k - 1,by unfold szs at hk;omega⟩
 obtain⟨t1,t2⟩:=A8j hk
 generalize A1g (m+1)=t at*
 rw[Nat.add_sub_cancel] at hn⊢
 have hp:0 <256^m:=Nat.pow_pos (by decide)
 have e1:(n.toNat+t*(64*256^m)) / 256^m=n.toNat / 256^m+t*64:=by rw[←Nat.mul_assoc,Nat.add_mul_div_right _ _ hp]
 have e2:n.toNat / 256^m <64:=by rw[Nat.div_lt_iff_lt_mul hp];exact hn
 have e3:(n.toNat+t*(64*256^m)) % 256^m=n.toNat % 256^m:=by rw[←Nat.mul_assoc,Nat.add_mul_mod_self_right]
 unfold be
 rw[e1]
 have aux:∀q:Nat,q <64→(UInt8.ofNat (q+t*64)).toNat=q+t*64∧(q+t*64) / 64=t∧(q+t*64) % 64=q:=fun q hq=>by
  rw[UInt8.toNat_ofNat']
  omega
 obtain⟨hx,ht,hm⟩:=aux _ e2
 show GH (UInt8.ofNat (n.toNat / 256^m+t*64)::(be m (n.toNat+t*(64*256^m))++r))=_
 rw[KU,hx,ht,hm,t2,Nat.add_sub_cancel]
 have hl:(be m (n.toNat+t*(64*256^m))++r).take m=be m (n.toNat+t*(64*256^m)):=by
  rw[List.take_append_of_le_length (by rw[Ib];exact Nat.le_refl _),List.take_of_length_le (by rw[Ib];exact Nat.le_refl _)]
 rw[hl,A14,e3]
 have hv:n.toNat / 256^m*256^m+n.toNat % 256^m=n.toNat:=by rw[Nat.mul_comm];exact Nat.div_add_mod _ _
 rw[hv,if_neg (by rw[List.length_append,Ib];omega)]
 have hnn:(n.toNat:Int)=n:=Int.toNat_of_nonneg h0
 rw[hnn,hkk,if_neg (by omega)]
theorem A4t {b:List UInt8} {n k:Int} (h:GH b=(n,k,0)):0≤n∧n≤4611686018427387903∧k=(Fa n:Int)∧Fa n≤b.length∧b.take (Fa n)=Aw n:=by
 cases b with
 |nil=>cases h
 | cons x r=>
  rw[KU] at h
  split at h
  ·cases h
  ·rename_i hlen
   split at h
   ·cases h
   ·rename_i hsz
    have hxl:x.toNat <256:=x.toNat_lt
    obtain⟨k1,k2⟩:=A1h (t:=x.toNat / 64) (by omega)
    generalize hK:2^(x.toNat / 64)=K at*
    obtain⟨m,rfl⟩:∃m,K=m+1:=⟨K - 1,by unfold szs at k1;omega⟩
    rw[Nat.add_sub_cancel] at*
    have hrl:(r.take m).length=m:=by rw[List.length_take];omega
    have hv:=OY (r.take m) (x.toNat % 64)
    have hlt:=Ak1 (r.take m)
    rw[hrl] at hv hlt
    generalize hN:val (x.toNat % 64) (r.take m)=M at*
    have hM:M <64*256^m:=by
     have:x.toNat % 64+1≤64:=by omega
     have:=Nat.mul_le_mul_right (256^m) this
     rw[Nat.add_mul,Nat.one_mul] at this
     omega
    obtain⟨s1,s2,s3⟩:=Bah k1 (by rw[Nat.add_sub_cancel];exact hM)
    have hs:Fa (M:Int)=m+1:=by omega
    injection h with h1 h
    injection h with h2 h3
    subst h1
    refine⟨by omega,by omega,by rw[hs,←h2],by rw[hs,List.length_cons];omega,?_⟩
    rw[hs]
    unfold Aw
    rw[hs,k2,Nat.add_sub_cancel,Int.toNat_natCast]
    have e:M+x.toNat / 64*(64*256^m)=val 0 (x::r.take m):=by
     rw[NX,Nat.zero_mul,Nat.zero_add,OY,hrl,hv,←Nat.mul_assoc]
     have hx:=Nat.div_add_mod x.toNat 64
     have:x.toNat*256^m=(x.toNat / 64*64+x.toNat % 64)*256^m:=by congr 1;omega
     rw[this,Nat.add_mul]
     omega
    rw[e]
    have hb:=Ayp (x::r.take m)
    rw[List.length_cons,hrl] at hb
    rw[hb]
    rfl
theorem Ayo:∀(k N i:Nat),i <k→(be k N)[i]?=some (UInt8.ofNat (N / 256^(k - 1 - i)))
 |0,_,_,h=>by omega
 |k+1,N,0,_=>by unfold be;rfl
 |k+1,N,i+1,h=>by
  unfold be
  rw[List.getElem?_cons_succ,Ayo k N i (by omega)]
  have:k - 1 - i=k+1 - 1 - (i+1):=by omega
  rw[this]
theorem A24 {k N i:Nat} (h:i <k):(be k N).take (i+1)=(be k N).take i++[UInt8.ofNat (N / 256^(k - 1 - i))]:=by
 rw[List.take_add_one,Ayo k N i h]
 rfl
theorem A4q (j:Nat):(2:Int)^(8*j)=((256^j:Nat):Int):=by
 rw[Int.pow_mul]
 norm_cast
theorem A0y {n:Int} {k i:Nat} (hn:0≤n) (hk:k≤8) (hi:i <k):
  UInt8.ofNat (IntKind.u8.wrap (n.fdiv ((2:Int)^min (IntKind.u64.wrap (IntKind.i64.wrap ((8:Int)*IntKind.i64.wrap (IntKind.i64.wrap ((k:Int) - (1:Int)) - (i:Int))))).toNat (64:Nat)))).toNat=UInt8.ofNat (n.toNat / 256^(k - 1 - i)):=by
 have e1:IntKind.u64.wrap (IntKind.i64.wrap ((8:Int)*IntKind.i64.wrap (IntKind.i64.wrap ((k:Int) - (1:Int)) - (i:Int))))=((8*(k - 1 - i):Nat):Int):=by
  rw[i64_in (n:=(k:Int) - 1) (by omega),i64_in (n:=(k:Int) - 1 - (i:Int)) (by omega),i64_in (by omega),IntWalk.u64_in _ (by omega)]
  omega
 rw[e1,Int.toNat_natCast,Nat.min_eq_left (by omega),A4q]
 have e2:n=(n.toNat:Int):=(Int.toNat_of_nonneg hn).symm
 have e3:n.fdiv ((256^(k - 1 - i):Nat):Int)=((n.toNat / 256^(k - 1 - i):Nat):Int):=by
  rw[Int.fdiv_eq_ediv_of_nonneg _ (Int.natCast_nonneg _)]
  conv=>lhs;rw[e2]
  exact(Int.natCast_ediv _ _).symm
 rw[e3]
 generalize n.toNat / 256^(k - 1 - i)=q
 have e4:IntKind.u8.wrap (q:Int)=((q % 256:Nat):Int):=by
  rw[IntKind.wrap_u8]
  omega
 rw[e4,Int.toNat_natCast]
 apply UInt8.toNat_inj.1
 rw[UInt8.toNat_ofNat',UInt8.toNat_ofNat']
 omega
theorem A79:∀(t:Fin 4) (q:Fin 64),(BitVec.ofInt 8 (q.val:Int) ||| BitVec.ofInt 8 ((64*t.val:Nat):Int)).toNat=q.val+t.val*64:=by decide+kernel
theorem A4o {q t:Nat} (hq:q <64) (ht:t <4):UInt8.ofNat (IntKind.u8.wrap ((BitVec.ofInt 8 (((UInt8.ofNat q).toNat:Nat):Int) ||| BitVec.ofInt 8 ((64*t:Nat):Int)).toNat:Int)).toNat=UInt8.ofNat (q+t*64):=by
 have h1:(UInt8.ofNat q).toNat=q:=by rw[UInt8.toNat_ofNat'];omega
 rw[h1,A79 ⟨t,ht⟩ ⟨q,hq⟩,IntWalk.u8_in _ (by show 0≤((q+t*64:Nat):Int)∧((q+t*64:Nat):Int)≤255;omega),Int.toNat_natCast]
theorem Aku {m N t:Nat} (b:List UInt8) (hN:N <64*256^m) (ht:t <4) (d:UInt8):
  (b++be (m+1) N).set b.length (UInt8.ofNat (IntKind.u8.wrap ((BitVec.ofInt 8 ((((b++be (m+1) N).getD b.length d).toNat:Nat):Int) ||| BitVec.ofInt 8 ((64*t:Nat):Int)).toNat:Int)).toNat)=b++be (m+1) (N+t*(64*256^m)):=by
 have hp:0 <256^m:=Nat.pow_pos (by decide)
 have e2:N / 256^m <64:=by rw[Nat.div_lt_iff_lt_mul hp];exact hN
 have e0:be (m+1) N=UInt8.ofNat (N / 256^m)::be m N:=rfl
 have e1:be (m+1) (N+t*(64*256^m))=UInt8.ofNat (N / 256^m+t*64)::be m N:=by
  show UInt8.ofNat ((N+t*(64*256^m)) / 256^m)::be m (N+t*(64*256^m))=_
  rw[←Nat.mul_assoc,Aqb,Nat.add_mul_div_right _ _ hp]
 have hg:(b++be (m+1) N).getD b.length d=UInt8.ofNat (N / 256^m):=by
  rw[e0,List.getD_eq_getElem?_getD,List.getElem?_append_right (Nat.le_refl _),Nat.sub_self]
  rfl
 rw[hg,A4o e2 ht,e0,e1,List.set_append_right _ _ (Nat.le_refl _),Nat.sub_self]
 rfl
theorem A4p {a:Nat} (ha:a <64*256^6) {y:UInt8}:IntKind.i64.wrap ((BitVec.ofInt 64 (IntKind.i64.wrap ((a:Int)*256)) ||| BitVec.ofInt 64 (IntKind.i64.wrap ((y.toNat:Nat):Int))).toNat:Int)=((a*256+y.toNat:Nat):Int):=by
 have hy:y.toNat <256:=y.toNat_lt
 have h6:64*256^6=18014398509481984:=by decide
 rw[h6] at ha
 rw[i64_in (n:=(a:Int)*256) (by omega),i64_in (n:=((y.toNat:Nat):Int)) (by omega)]
 have e1:(a:Int)*256=((a*256:Nat):Int):=by omega
 have e2:(BitVec.ofInt 64 ((a*256:Nat):Int) ||| BitVec.ofInt 64 ((y.toNat:Nat):Int)).toNat=a*256+y.toNat:=by
  rw[BitVec.toNat_or,BitVec.toNat_ofInt,BitVec.toNat_ofInt]
  have m1:(((a*256:Nat):Int) % ((2^64:Nat):Int)).toNat=2^8*a:=by omega
  have m2:(((y.toNat:Nat):Int) % ((2^64:Nat):Int)).toNat=y.toNat:=by omega
  rw[m1,m2,←Nat.two_pow_add_eq_or_of_lt hy]
  omega
 rw[e1,e2,i64_in (by omega)]
theorem A15 (a:Nat) (L:List UInt8) (i:Nat) (h:i <L.length) {d:UInt8}:((val a (L.take i)*256+(L.getD i d).toNat:Nat):Int)=(val a (L.take (i+1)):Int):=by
 have e:L.take (i+1)=L.take i++[L.getD i d]:=by
  rw[List.take_add_one,List.getD_eq_getElem?_getD,List.getElem?_eq_getElem h]
  rfl
 rw[e]
 unfold val
 rw[List.foldl_append]
 rfl
theorem A9t (x:UInt8):IntKind.i64.wrap ((1:Int)*(2:Int)^min ((((x.toNat:Nat):Int)).fdiv (64:Int)).toNat (64:Nat))=((2^(x.toNat / 64):Nat):Int):=by
 have hx:x.toNat <256:=x.toNat_lt
 have e:((((x.toNat:Nat):Int)).fdiv (64:Int)).toNat=x.toNat / 64:=by
  rw[Int.fdiv_eq_ediv_of_nonneg _ (by decide)]
  omega
 rw[e,Nat.min_eq_left (by omega)]
 have:x.toNat / 64≤3:=by omega
 generalize x.toNat / 64=t at*
 match t,this with
 |0,_=>rfl
 |1,_=>rfl
 |2,_=>rfl
 |3,_=>rfl
 |n+4,h=>omega
theorem A0a:∀q:Fin 256,(BitVec.ofInt 8 (q.val:Int) &&& BitVec.ofInt 8 63).toNat=q.val % 64:=by decide+kernel
theorem A3z (x:UInt8):IntKind.i64.wrap (IntKind.u8.wrap ((BitVec.ofInt 8 ((x.toNat:Nat):Int) &&& BitVec.ofInt 8 63).toNat:Int))=((x.toNat % 64:Nat):Int):=by
 have hx:x.toNat <256:=x.toNat_lt
 rw[A0a ⟨x.toNat,hx⟩,IntWalk.u8_in _ (by show 0≤((x.toNat % 64:Nat):Int)∧((x.toNat % 64:Nat):Int)≤255;omega),i64_in (by show -9223372036854775808≤((x.toNat % 64:Nat):Int)∧((x.toNat % 64:Nat):Int)≤9223372036854775807;omega)]
end Go.Proofs.YtifkbgkbajncjaaDoor
namespace Go.Proofs.YtifkbgkbajncjaaDoor
open Go.RowKit
theorem Ahv {X:Type} (mk:Nat→X) (n:Nat) (stop:Nat→Bool) (next:X→X) (goes:X→Cnd) (ps:X→List Prop)
  (hg:∀i,i≤n→(∀j,j <i→stop j=false)→A9 (goes (mk i))=(decide (i <n)&&!stop i)) (hn:∀i,i <n→(∀j,j <i+1→stop j=false)→next (mk i)=mk (i+1)) (hp:∀i,i≤n→(∀j,j <i→stop j=false)→∀p∈ps (mk i),p):
  ∀(f i:Nat),i≤n→n≤i+f→(∀j,j <i→stop j=false)→
  AN next goes ps f (mk i)∧∃k,k≤n∧Ba next goes f (mk i)=mk k∧(∀j,j <k→stop j=false)∧(k <n→stop k=true)
 |0,i,hi,hf,hs=>by
  have hc:=hg i hi hs
  have:i=n:=by omega
  rw[decide_eq_false (by omega),Bool.false_and] at hc
  exact⟨⟨hp i hi hs,hc⟩,i,hi,rfl,hs,fun h=>by omega⟩
 | f +1,i,hi,hf,hs=>by
  have hc:=hg i hi hs
  cases hb:A9 (goes (mk i)) with
  | false=>
   have e:Ba next goes (f+1) (mk i)=mk i:=by
    show(bif A9 (goes (mk i)) then _ else mk i)=mk i
    rw[hb];rfl
   rw[e]
   refine⟨⟨hp i hi hs,fun h=>by rw[hb] at h;cases h⟩,i,hi,rfl,hs,fun h=>?_⟩
   rw[hb,decide_eq_true h,Bool.true_and] at hc
   cases hst:stop i with
   |true=>rfl
   |false=>rw[hst] at hc;cases hc
  | true=>
   rw[hb] at hc
   have h1:i <n:=by
    cases hd:decide (i <n) with
    |true=>exact of_decide_eq_true hd
    |false=>rw[hd] at hc;cases hc
   have h2:stop i=false:=by
    cases hst:stop i with
    |false=>rfl
    |true=>rw[hst,Bool.and_comm] at hc;cases hc
   have hs':∀j,j <i+1→stop j=false:=fun j hj=>by
    by_cases h:j <i
    ·exact hs j h
    ·obtain rfl:j=i:=by omega
     exact h2
   have e:Ba next goes (f+1) (mk i)=Ba next goes f (mk (i+1)):=by
    show(bif A9 (goes (mk i)) then Ba next goes f (next (mk i)) else mk i)=_
    rw[hb,hn i h1 hs'];rfl
   obtain⟨g1,g2⟩:=Ahv mk n stop next goes ps hg hn hp f (i+1) h1 (by omega) hs'
   rw[e]
   exact⟨⟨hp i hi hs,fun _=>by rw[hn i h1 hs'];exact g1⟩,g2⟩
theorem A4z {X:Type} (mk:Nat→X) (n:Nat) (stop:Nat→Bool) (next:X→X) (goes:X→Cnd) (ps:X→List Prop) (f:Nat) (x:X) (hx:x=mk 0) (hf:n≤f)
  (hg:∀i,i≤n→(∀j,j <i→stop j=false)→A9 (goes (mk i))=(decide (i <n)&&!stop i)) (hn:∀i,i <n→(∀j,j <i+1→stop j=false)→next (mk i)=mk (i+1)) (hp:∀i,i≤n→(∀j,j <i→stop j=false)→∀p∈ps (mk i),p):
  AN next goes ps f x∧∃k,k≤n∧Ba next goes f x=mk k∧(∀j,j <k→stop j=false)∧(k <n→stop k=true):=by
 subst hx
 exact Ahv mk n stop next goes ps hg hn hp f 0 (Nat.zero_le _) (by omega) fun j h=>absurd h (Nat.not_lt_zero _)
theorem IT {i:Nat} (h:i <9223372036854775807):IntKind.i64.wrap ((i:Int)+1)=((i+1:Nat):Int):=by rw[i64_in (by omega)];omega
theorem Ux {i n:Nat}:decide ((i:Int) <(n:Int))=decide (i <n):=by
 by_cases h:i <n
 ·rw[decide_eq_true h,decide_eq_true (by omega)]
 ·rw[decide_eq_false h,decide_eq_false (by omega)]
theorem nn (b:Bool):(!!b)=b:=Bool.not_not b
theorem Ayl {α:Type} (l:List α) (d:α) (p:α→Bool) (k:Nat) (hk:k≤l.length) (h1:∀j,j <k→p (l.getD j d)=true) (h2:k <l.length→p (l.getD k d)=false):l.all p=decide (¬k <l.length):=by
 by_cases h:k <l.length
 ·rw[decide_eq_false (by omega)]
  have:=h2 h
  rw[List.getD_eq_getElem?_getD,List.getElem?_eq_getElem h,Option.getD_some] at this
  cases ha:l.all p with
  |false=>rfl
  |true=>rw[List.all_eq_true.1 ha _ (List.getElem_mem h)] at this;cases this
 ·rw[decide_eq_true (by omega)]
  refine List.all_eq_true.2 fun x hx=>?_
  obtain⟨i,hi,rfl⟩:=List.mem_iff_getElem.1 hx
  have:=h1 i (by omega)
  rw[List.getD_eq_getElem?_getD,List.getElem?_eq_getElem hi,Option.getD_some] at this
  exact this
def AD (n:Nat):Prop:=n≤9223372036854775807
def Ml (n:Nat) (p:Nat→Bool):Bool:=(List.range n).all p
theorem JG {n:Nat} {p:Nat→Bool}:Ml n p=true↔∀i,i <n→p i=true:=by
 unfold Ml
 rw[List.all_eq_true]
 exact⟨fun h i hi=>h i (List.mem_range.2 hi),fun h i hi=>h i (List.mem_range.1 hi)⟩
theorem Oa {n:Nat} {p q:Nat→Bool} (h:∀i,i <n→p i=q i):Ml n p=Ml n q:=by
 rw[Bool.eq_iff_iff,JG,JG]
 exact⟨fun g i hi=>(h i hi)▸g i hi,fun g i hi=>(h i hi).symm▸g i hi⟩
theorem Adw {X:Type} (mk:Nat→X) (n:Nat) (bad:Nat→Bool) (next:X→X) (goes:X→Cnd) (ps:X→List Prop) (f:Nat) (x:X) (hx:x=mk 0) (hf:n≤f)
  (hg:∀i,i≤n→(∀j,j <i→bad j=false)→A9 (goes (mk i))=(decide (i <n)&&!bad i)) (hn:∀i,i <n→(∀j,j <i+1→bad j=false)→next (mk i)=mk (i+1)) (hp:∀i,i≤n→(∀j,j <i→bad j=false)→∀p∈ps (mk i),p):
  AN next goes ps f x∧∃k,k≤n∧Ba next goes f x=mk k∧(∀j,j <k→bad j=false)∧(k <n→bad k=true)∧(decide (k <n)&&bad k)=!Ml n (fun i=>!bad i):=by
 obtain⟨h1,k,hk,h2,h3,h4⟩:=A4z mk n bad next goes ps f x hx hf hg hn hp
 refine⟨h1,k,hk,h2,h3,h4,?_⟩
 by_cases h:k <n
 ·rw[decide_eq_true h,h4 h]
  cases ha:Ml n (fun i=>!bad i) with
  |false=>rfl
  |true=>have:=JG.1 ha k h;rw[h4 h] at this;cases this
 ·rw[decide_eq_false h,JG.2 (fun i hi=>by rw[h3 i (by omega)];rfl)]
  rfl
theorem A9c {α:Type} (l:List α) (d:α) (p:α→Bool):l.all p=Ml l.length (fun i=>p (l.getD i d)):=by
 rw[Bool.eq_iff_iff,List.all_eq_true,JG]
 constructor
 ·intro h i hi
  rw[List.getD_eq_getElem?_getD,List.getElem?_eq_getElem hi,Option.getD_some]
  exact h _ (List.getElem_mem hi)
 ·intro h x hx
  obtain⟨i,hi,rfl⟩:=List.mem_iff_getElem.1 hx
  have:=h i hi
  rw[List.getD_eq_getElem?_getD,List.getElem?_eq_getElem hi,Option.getD_some] at this
  exact this
theorem Bat (n:Nat):(n==0)=!decide (1≤n):=by cases n<;>simp
theorem A6j (n:Nat):((n:Int)==0)=(n==0):=by cases n<;>simp;omega
theorem dgt (n k:Nat):decide ((n:Int) >(k:Int))=decide (k <n):=decide_eq_decide.2 (by omega)
instance:LawfulBEq ByteArray where
 rfl:=fun {a}=>by cases a with|mk a=>exact beq_self_eq_true a
 eq_of_beq:=fun {a b} h=>by
  cases a with|mk a=>cases b with|mk b=>exact congrArg ByteArray.mk (eq_of_beq (α:=Array UInt8) h)
theorem Aa3:∀(m:List (ByteArray×Int)) (b:ByteArray) (v:Int) (x:ByteArray),HF (R7 m b v) x=if x=b then v else HF m x
 | [],b,v,x=>by
  by_cases h:x=b
  ·subst h;simp[R7,HF]
  ·simp[R7,HF,h,show(x==b)=false from beq_eq_false_iff_ne.2 h]
 | (a,n)::r,b,v,x=>by
  unfold R7
  by_cases h:b=a
  ·subst h
   rw[show(b==b)=true from beq_self_eq_true b,cond_true]
   by_cases hx:x=b
   ·subst hx;simp[HF]
   ·simp[HF,hx,show(x==b)=false from beq_eq_false_iff_ne.2 hx]
  ·rw[show(b==a)=false from beq_eq_false_iff_ne.2 h,cond_false]
   by_cases hx:x=a
   ·subst hx
    rw[if_neg (fun e=>h e.symm)]
    simp[HF]
   ·simp only[HF,show(x==a)=false from beq_eq_false_iff_ne.2 hx,cond_false]
    exact Aa3 r b v x
def Abs (b:UInt8):Bool:=decide (97≤b.toNat)&&decide (b.toNat≤122)
def NG (s:ByteArray):Bool:=s.data.toList.all Abs&&(decide (1≤s.size)&&decide (s.size≤12))
def WY (p:Int):Bool:=p==1||p==2
def To:List ByteArray→List Af→Int
 |_,[]=>0
 |seen,g::r=>bif !(NG g.name&&WY g.policy) then 2 else bif seen.any (fun s=>s==g.name) then 70 else To (seen++[g.name]) r
def B1 (l:List Af):Int:=bif l.length==0 then 2 else bif decide (4 <l.length) then 3 else To [] l
theorem NU (s:ByteArray):s.data.toList.length=s.size:=by show s.data.toList.length=s.data.size;exact Array.length_toList
theorem Azp (s:ByteArray) (i:Nat) (h:i <s.size):s.data.toList.getD i 0=s[i]'h:=by
 rw[List.getD_eq_getElem?_getD,List.getElem?_eq_getElem (by rw[NU];exact h)]
 rfl
theorem Apf (s:ByteArray) (i:Nat) (h:i <s.size):(decide (((Utf8.decode s i).1:Int) <97)||decide (((Utf8.decode s i).1:Int) >122))=!Abs (s.data.toList.getD i 0)∧(Abs (s.data.toList.getD i 0)=true→(Utf8.decode s i).2=1):=by
 rw[Azp s i h]
 by_cases hb:(s[i]'h).toNat <128
 ·rw[decode_ascii s i h hb]
  refine⟨?_,fun _=>rfl⟩
  unfold Abs
  rw[Bool.not_and,←decide_not,←decide_not]
  congr 1<;>exact decide_eq_decide.2 (by omega)
 ·have h2:=(decode_high s i h (by omega)).1
  have hl:Abs (s[i]'h)=false:=by unfold Abs;rw[decide_eq_false (p:=(s[i]'h).toNat≤122) (by omega),Bool.and_false]
  rw[hl]
  refine⟨?_,fun h=>by cases h⟩
  rw[decide_eq_true (p:=((Utf8.decode s i).1:Int) >122) (by omega),Bool.or_true]
  rfl
theorem ZN {l:List Af} (h:B1 l=0):1≤l.length∧l.length≤4:=by
 unfold B1 at h
 cases h1:l.length==0 with
 |true=>rw[h1] at h;cases h
 | false=>
  rw[h1] at h
  cases h2:decide (4 <l.length) with
  |true=>rw[h2] at h;cases h
  |false=>
   have:=of_decide_eq_false h2
   have h3:l.length≠0:=by simpa using h1
   omega
theorem Awe (l:List Af) (k:Nat) (seen:List ByteArray):(∀j,j <k→j <l.length→(NG (l.getD j (Aj TC.group)).name&&WY (l.getD j (Aj TC.group)).policy)=true∧(seen++(l.take j).map (·.name)).any (fun s=>s==(l.getD j (Aj TC.group)).name)=false)→
  To seen l=To (seen++(l.take k).map (·.name)) (l.drop k):=by
 induction l generalizing k seen with
 |nil=>intro _;simp[To]
 | cons g r ih=>
  intro h
  cases k with
  |zero=>simp
  | succ k=>
   obtain⟨h1,h2⟩:=h 0 (Nat.succ_pos _) (Nat.succ_pos _)
   have h1':(NG g.name&&WY g.policy)=true:=h1
   have h2':seen.any (fun s=>s==g.name)=false:=by simpa using h2
   rw[To,h1',h2',Bool.not_true,cond_false,cond_false]
   rw[ih k (seen++[g.name]) (fun j hj hl=>by
    have:=h (j+1) (by omega) (by simpa using hl)
    simpa[List.append_assoc] using this)]
   simp[List.append_assoc]
def NE (l:List Af):Nat→List (ByteArray×Int)
 |0=>[]
 |i+1=>R7 (NE l i) (l.getD i (Aj TC.group)).1 (IntKind.i64.wrap (HF (NE l i) (l.getD i (Aj TC.group)).1+1))
def YD (l:List Af) (i:Nat):Bool:=!(NG (l.getD i (Aj TC.group)).1&&WY (l.getD i (Aj TC.group)).2)||((l.take i).map (·.name)).any (fun s=>s==(l.getD i (Aj TC.group)).1)
theorem Ass (l:List Af) (i:Nat) (h:i <l.length):(l.take (i+1)).map (·.name)=(l.take i).map (·.name)++[(l.getD i (Aj TC.group)).1]:=by
 rw[List.take_add_one,List.getD_eq_getElem?_getD,List.getElem?_eq_getElem h,List.map_append]
 rfl
theorem Aa2 (l:List Af):∀(i:Nat),i≤l.length→(∀j,j <i→YD l j=false)→∀x,HF (NE l i) x=bif((l.take i).map (·.name)).any (fun s=>s==x) then 1 else 0
 |0,_,_,x=>by simp[NE,HF]
 | i+1,hi,hs,x=>by
  have ih:=Aa2 l i (by omega) (fun j hj=>hs j (by omega))
  have h:=hs i (Nat.lt_succ_self i)
  unfold YD at h
  have h2:=(Bool.or_eq_false_iff.1 h).2
  unfold NE
  rw[Aa3,ih,h2,Ass l i (by omega),List.any_append,ih]
  by_cases hx:x=(l.getD i (Aj TC.group)).1
  ·subst hx
   rw[if_pos rfl]
   simp
   decide
  ·rw[if_neg hx]
   have:([(l.getD i (Aj TC.group)).1].any fun s=>s==x)=false:=by
    simp only[List.any_cons,List.any_nil,Bool.or_false]
    exact beq_eq_false_iff_ne.2 fun e=>hx e.symm
   rw[this,Bool.or_false]
end Go.Proofs.YtifkbgkbajncjaaDoor
namespace Go.Proofs.YtifkbgkbajncjaaDoor
open Go.RowKit
def A6y:BitVec 32:=79764919#32
def crS (r:BitVec 32):BitVec 32:=(r <<< 1)^^^(bif r.getLsbD 31 then A6y else 0#32)
def cr8 (r:BitVec 32):BitVec 32:=crS (crS (crS (crS (crS (crS (crS (crS r)))))))
def hiB (x:UInt8):BitVec 32:=BitVec.ofNat 32 x.toNat <<< 24
def byB (r:BitVec 32) (x:UInt8):BitVec 32:=cr8 (r^^^hiB x)
def YY (r:BitVec 32) (l:List UInt8):BitVec 32:=l.foldl byB r
def HO (l:List UInt8):BitVec 32:= ~~~ (YY (BitVec.allOnes 32) l)
def Asq (s:BitVec 32):List UInt8:=[UInt8.ofNat (s.toNat / 2^24),UInt8.ofNat (s.toNat / 2^16),UInt8.ofNat (s.toNat / 2^8),UInt8.ofNat s.toNat]
def Ws (l:List UInt8):List UInt8:=l++Asq (HO l)
def HD (b:List UInt8):Bool:=decide (4≤b.length)&&(b==Ws (b.take (b.length - 4)))
theorem A3e (x y:BitVec 32):crS (x^^^y)=crS x^^^crS y:=by
 unfold crS
 rw[BitVec.getLsbD_xor]
 apply BitVec.eq_of_getLsbD_eq
 intro i hi
 simp only[BitVec.getLsbD_xor,BitVec.getLsbD_shiftLeft,decide_eq_true hi]
 cases x.getLsbD 31<;>cases y.getLsbD 31<;>cases decide (i <1)<;>cases x.getLsbD (i - 1)<;>cases y.getLsbD (i - 1)<;>simp
theorem LO {x:BitVec 32} (h:crS x=0#32):x=0#32:=by
 have h0:x.getLsbD 31=false:=by
  have:(crS x).getLsbD 0=false:=by rw[h];rfl
  unfold crS at this
  rw[BitVec.getLsbD_xor,BitVec.getLsbD_shiftLeft] at this
  cases hx:x.getLsbD 31 with
  |false=>rfl
  |true=>rw[hx,show decide (0 <1)=true from rfl,Bool.not_true,Bool.and_false,Bool.false_and,Bool.false_xor] at this;exact absurd this (by decide)
 unfold crS at h
 rw[h0] at h
 have h':x <<< 1=0#32:=by simpa using h
 apply BitVec.eq_of_getLsbD_eq
 intro i hi
 by_cases hi31:i=31
 ·subst hi31;rw[h0];rfl
 ·have:(x <<< 1).getLsbD (i+1)=false:=by rw[h'];simp
  rw[BitVec.getLsbD_shiftLeft] at this
  have hd:decide (i+1 <32)=true:=decide_eq_true (by omega)
  rw[hd] at this
  simpa using this
theorem LN (x y:BitVec 32):cr8 (x^^^y)=cr8 x^^^cr8 y:=by unfold cr8;simp only[A3e]
theorem A3a {x:BitVec 32} (h:cr8 x=0#32):x=0#32:=LO (LO (LO (LO (LO (LO (LO (LO h)))))))
theorem ZK (r:BitVec 32) (a b:List UInt8):YY r (a++b)=YY (YY r a) b:=List.foldl_append
theorem A3c (r:BitVec 32) (l:List UInt8) (x:UInt8):YY r (l++[x])=byB (YY r l) x:=by rw[ZK];rfl
theorem Ad9 (s:BitVec 32):(Asq s).length=4:=rfl
theorem Azh (l:List UInt8):(Ws l).length=l.length+4:=by unfold Ws;rw[List.length_append,Ad9]
abbrev wB (x:BitVec 32):Int:=(x.toNat:Int)
theorem Bal (x:BitVec 32):0≤wB x∧wB x <4294967296:=by have:=x.isLt;unfold wB;omega
theorem Asv {n:Int} (h:0≤n∧n <4294967296):IntKind.u32.wrap n=n:=by
 show n % 2^32=n
 exact Int.emod_eq_of_lt h.1 (by omega)
theorem Aoj (x:BitVec 32):BitVec.ofInt 32 (wB x)=x:=by
 apply BitVec.eq_of_toNat_eq
 unfold wB
 simp
theorem As4 (x:BitVec 32):IntKind.u32.wrap (x.toNat:Int)=wB x:=Asv (Bal x)
theorem Baf (x:BitVec 32):IntKind.u32.wrap (wB x*2)=wB (x <<< 1):=by
 show(wB x*2) % 2^32=wB (x <<< 1)
 unfold wB
 rw[BitVec.toNat_shiftLeft,Nat.shiftLeft_eq]
 omega
theorem Baj (x:BitVec 32):(wB x).fdiv 2147483648=bif x.getLsbD 31 then 1 else 0:=by
 have hl:=x.isLt
 have e:(wB x).fdiv 2147483648=((x.toNat / 2^31:Nat):Int):=by
  unfold wB
  rw[Int.fdiv_eq_ediv_of_nonneg _ (by omega)]
  omega
 rw[e,BitVec.getLsbD,Nat.testBit_eq_decide_div_mod_eq]
 by_cases h:x.toNat <2^31
 ·rw[decide_eq_false (by omega),cond_false];omega
 ·rw[decide_eq_true (by omega),cond_true];omega
theorem A8b (b:Bool):IntKind.u32.wrap ((bif b then 1 else 0)*79764919)=wB (bif b then A6y else 0#32):=by cases b<;>decide
theorem Bav (x:UInt8):IntKind.u32.wrap (IntKind.u32.wrap (x.toNat:Int)*16777216)=wB (hiB x):=by
 have hx:x.toNat <256:=x.toNat_lt
 unfold hiB wB
 rw[Asv (n:=(x.toNat:Int)) (by omega),Asv (by omega),BitVec.toNat_shiftLeft,Nat.shiftLeft_eq,BitVec.toNat_ofNat]
 omega
theorem A9z (x:BitVec 32):IntKind.u32.wrap (((BitVec.ofInt 32 4294967295^^^x).toNat:Nat):Int)=wB (~~~ x):=by
 rw[As4,show BitVec.ofInt 32 4294967295=BitVec.allOnes 32 by decide,BitVec.allOnes_xor]
theorem PC (x:BitVec 32) (k:Nat):UInt8.ofNat (IntKind.u8.wrap ((wB x).fdiv ((2^k:Nat):Int))).toNat=UInt8.ofNat (x.toNat / 2^k):=by
 have hp:0 <2^k:=Nat.two_pow_pos k
 have e:(wB x).fdiv ((2^k:Nat):Int)=((x.toNat / 2^k:Nat):Int):=by
  unfold wB
  rw[Int.fdiv_eq_ediv_of_nonneg _ (Int.natCast_nonneg _)]
  exact(Int.natCast_ediv _ _).symm
 rw[e]
 apply UInt8.toNat_inj.1
 rw[UInt8.toNat_ofNat',UInt8.toNat_ofNat']
 show(((x.toNat / 2^k:Nat):Int) % 2^8).toNat % 2^8=_
 omega
theorem Aw6 {X:Type} (mk:Nat→X) (n:Nat) (next:X→X) (goes:X→Cnd) (ps:X→List Prop) (f:Nat) (x:X) (hx:x=mk 0) (hf:n≤f)
  (hg:∀i,i≤n→A9 (goes (mk i))=decide (i <n)) (hn:∀i,i <n→next (mk i)=mk (i+1)) (hp:∀i,i≤n→∀p∈ps (mk i),p):AN next goes ps f x∧Ba next goes f x=mk n:=by
 obtain⟨h1,k,hk,h2,_,h4⟩:=A4z mk n (fun _=>false) next goes ps f x hx hf (fun i hi _=>by rw[hg i hi,Bool.not_false,Bool.and_true]) (fun i hi _=>hn i hi) (fun i hi _=>hp i hi)
 rcases Nat.lt_or_ge k n with h|h
 ·exact absurd (h4 h) (by decide)
 ·obtain rfl:k=n:=by omega
  exact⟨h1,h2⟩
theorem Ayv (r:BitVec 32) (l:List UInt8) (i:Nat) (h:i <l.length):YY r (l.take (i+1))=byB (YY r (l.take i)) (l.getD i 0):=by
 rw[List.take_add_one,List.getElem?_eq_getElem h,List.getD_eq_getElem?_getD,List.getElem?_eq_getElem h]
 exact A3c _ _ _
end Go.Proofs.YtifkbgkbajncjaaDoor
