/- made by a program (rowgen.py): WireEncodes: for every input the law returns true, and each argument reads behind the call as it read before. -/
import Derived.Test.YtifkbgkbajncjaaGreatDoorKWec

set_option maxRecDepth 100000
namespace Go.Proofs.YtifkbgkbajncjaaGreatDoor
open Go.RowKit
def Aaa (_id:Nat):Prop:=False
def Qx:Code→List Nat
 | .region _ ops _=>QN ops.toList
 | .seq a b=>Qx a++Qx b
 | .cond _ a b=>Qx a++Qx b
 | .block _ b=>Qx b
 | .loop b=>Qx b
 | .scope b=>Qx b
 | .rangeFunc _ ps a b=>ps.toList++Qx a++Qx b
 |_=>[]
theorem YM {u:Nat}:∀{A B:List Nat},O4 u (A++B)=(O4 u A||O4 u B)
 | [],B=>rfl
 |k::r,B=>by
  show(bif Nat.beq k u then true else O4 u (r++B))=((bif Nat.beq k u then true else O4 u r)||O4 u B)
  rw[YM]
  cases Nat.beq k u<;>rfl
abbrev Tag:=Option Nat
abbrev AR:=List (Tag×Cnd×St)
def Fh:Tag→Tag→Bool
 |none,none=>true
 |some i,some j=>Nat.beq i j
 |_,_=>false
theorem SV {x y:Tag} (h:Fh x y=true):x=y:=by
 cases x<;>cases y<;>first|rfl|(cases h;done)|skip
 rw[Nat.eq_of_beq_eq_true h]
theorem RL (x:Tag):Fh x x=true:=by cases x<;>simp[Fh]
theorem WQ {x y:Tag} (h:x≠y):Fh x y=false:=by
 cases hb:Fh x y with
 |true=>exact absurd (SV hb) h
 |false=>rfl
def AE (t:Tag):AR→Option (Cnd×St)
 | []=>none
 |(k,c,s)::r=>bif Fh k t then some (c,s) else AE t r
def Io (t:Tag):AR→Cnd
 | []=>none
 |(k,c,_)::r=>bif Fh k t then Io t r else La (Avi c) (Io t r)
def J9:AR→Cnd
 | []=>none
 |(_,c,_)::r=>La (Avi c) (J9 r)
structure Res where
 ps:List Prop
 outs:AR
 nrm:Option St
def Ys (f:Tag→Cnd→St→Option (Cnd×St)→Cnd×St) (B:AR):AR→AR
 | []=>[]
 |(t,c,s)::r=>(t,f t c s (AE t B))::Ys f B r
def Ko (f:Cnd→Cnd) (A:AR):AR→AR
 | []=>[]
 |(t,d,s)::r=>match AE t A with
  |some _=>Ko f A r
  |none=>(t,f d,s)::Ko f A r
def Bmk (g:Bool) (W:List Nat) (s:St) (_t:Tag) (c:Cnd) (x:St):Option (Cnd×St)→Cnd×St
 |none=>(La (some g) c,x)
 |some (d,y)=>(Bmj g c d,IZ g W s x y)
def Ayb (g:Bool) (W:List Nat) (s:St):Option St→Option St→Option St
 |none,none=>none
 |some x,none=>some x
 |none,some y=>some y
 |some x,some y=>some (IZ g W s x y)
def A6u (g:Bool) (W:List Nat) (s:St) (A B:Res):Res:=
 ⟨Uu [g=true] A.ps++Uu [g=false] B.ps,Ys (Bmk g W s) B.outs A.outs++Ko (La (some !g)) A.outs B.outs,Ayb g W s A.nrm B.nrm⟩
def Brh (A:AR) (W:List Nat) (s:St) (t:Tag) (c:Cnd) (x:St):Option (Cnd×St)→Cnd×St
 |none=>(c,x)
 |some (d,y)=>(orO c (La (Io t A) d),IZ (A8 c) W s x y)
def Awq (W:List Nat) (s:St) (A B:Res):Res:=
 ⟨A.ps++Uu (Bpv (J9 A.outs)) B.ps,Ys (Brh A.outs W s) B.outs A.outs++Ko (La (J9 A.outs)) A.outs B.outs,B.nrm⟩
def M9 (t:Tag):AR→AR
 | []=>[]
 |(k,c,s)::r=>bif Fh k t then M9 t r else(k,c,s)::M9 t r
def PO (W:List Nat) (s:St) (id:Nat) (A:Res):Res:=match AE (some id) A.outs with
 |none=>A
 |some (c,x)=>⟨A.ps,M9 (some id) A.outs,match A.nrm with
  |none=>some x
  |some y=>some (IZ (A8 c) W s x y)⟩
def Agz (id:Nat):Res:=⟨[Aaa id],[],none⟩
def Aps (W:List Nat) (f:St→Res):Nat→St→Res
 |0,_=>Agz 1000000
 |n+1,s=>match(f s).nrm with
  |none=>f s
  |some s1=>Awq W s (f s) (Aps W f n s1)
abbrev rfK:Nat:=1000000
def Bmh:Code→Bool
 | .region _ _ _=>true
 |_=>false
def Buo (h:Bool) (u:Nat):Bool:=bif h then true else Nat.ble 1000 u
def Qz (E:Env) (u:Nat):Nat→Code→Bool→St→Res
 |_,.skip,_,s=>⟨[],[],some s⟩
 |_,.region id ops draw,_,s=>match evR E ops.toList draw s with
  |some (s',ps)=>⟨ps,[],some s'⟩
  |none=>Agz id
 |_,.seq a b,h,s=>match(Qz E u 0 a h s).nrm with
  |none=>Qz E u 0 a h s
  |some s1=>Awq (Qx a++Qx b) s (Qz E u 0 a h s) (Qz E u 0 b (bif Bmh a then h else false) s1)
 | _,.cond c x y,h,s=>match s.raw [] c with
  | some (.bool g)=>match Buo h u with
   |true=>match g with
    |true=>Qz E u 0 x false s
    |false=>Qz E u 0 y false s
   |false=>A6u g (Qx x++Qx y) s (Qz E u 0 x false s) (Qz E u 0 y false s)
  |_=>Agz 1000001
 |_,.block id b,_,s=>PO (Qx b) s id (Qz E u id b false s)
 |l,.loop b,_,s=>match(bif Nat.ble rfK l then none else E.L l s) with
  |some (b0,ps,outs)=>⟨(b=b0)::ps,outs,none⟩
  |none=>Aps (Qx b) (Qz E u 0 b true) u s
 |l,.rangeFunc g qs a b,_,s=>match E.L (rfK+l) s with
  |some (b0,ps,[(_,_,s1)])=>⟨(Code.rangeFunc g qs a b=b0)::ps,[],some s1⟩
  |_=>Agz 1000002
 |_,.exit id,_,s=>⟨[],[(some id,none,s)],none⟩
 |_,.ret,_,s=>⟨[],[(none,none,s)],none⟩
 |_,.scope b,_,s=>Qz E u 0 b false s
 |_,.label _,_,s=>⟨[],[],some s⟩
 |_,_,_,_=>Agz 1000002
abbrev evC (E:Env) (u:Nat) (c:Code) (s:St):Res:=Qz E u 0 c false s
def Tag.ex:Tag→Exit
 |none=> .ret
 |some i=> .exit i
def A91 (o:AR):Prop:=∀t c s,AE t o=some (c,s)→A8 c=false
def Bor (t:Tag) (o:AR):Prop:=∀t' c s,t'≠t→AE t' o=some (c,s)→A8 c=false
def Oc (r:Res) (e:Exit) (s:St):Prop:=
 (∃t c,e=Tag.ex t∧AE t r.outs=some (c,s)∧A8 c=true∧Bor t r.outs)∨(e=.normal∧r.nrm=some s∧A91 r.outs)
theorem Ut (t:Tag):∀(A B:AR),AE t (A++B)=match AE t A with|some x=>some x|none=>AE t B
 | [],B=>rfl
 |(k,c,s)::r,B=>by
  show(bif Fh k t then some (c,s) else AE t (r++B))=match(bif Fh k t then some (c,s) else AE t r) with|some x=>some x|none=>AE t B
  cases Fh k t with
  |true=>rfl
  |false=>exact Ut t r B
theorem Sf (f:Tag→Cnd→St→Option (Cnd×St)→Cnd×St) (B:AR) (t:Tag):∀(A:AR),AE t (Ys f B A)=match AE t A with|some (c,s)=>some (f t c s (AE t B))|none=>none
 | []=>rfl
 |(k,c,s)::r=>by
  show(bif Fh k t then some (f k c s (AE k B)) else AE t (Ys f B r))=match(bif Fh k t then some (c,s) else AE t r) with|some (c,s)=>some (f t c s (AE t B))|none=>none
  cases h:Fh k t with
  |true=>rw[SV h];rfl
  |false=>exact Sf f B t r
theorem YL (f:Cnd→Cnd) (A:AR) (t:Tag) (hA:AE t A=none):∀(B:AR),AE t (Ko f A B)=match AE t B with|some (d,s)=>some (f d,s)|none=>none
 | []=>rfl
 | (k,d,s)::r=>by
  show AE t (match AE k A with|some _=>Ko f A r|none=>(k,f d,s)::Ko f A r)=match(bif Fh k t then some (d,s) else AE t r) with|some (d,s)=>some (f d,s)|none=>none
  cases h:Fh k t with
  |true=>
   obtain rfl:=SV h
   rw[hA]
   show(bif Fh k k then some (f d,s) else AE k (Ko f A r))=_
   rw[RL]
   rfl
  | false=>
   have ih:=YL f A t hA r
   cases hk:AE k A with
   |some x=>exact ih
   |none=>
    show(bif Fh k t then some (f d,s) else AE t (Ko f A r))=_
    rw[h]
    exact ih
theorem QR (t:Tag) (f:Tag→Cnd→St→Option (Cnd×St)→Cnd×St) (h:Cnd→Cnd) (A B:AR):
  AE t (Ys f B A++Ko h A B)=match AE t A with|some (c,s)=>some (f t c s (AE t B))|none=>match AE t B with|some (d,s)=>some (h d,s)|none=>none:=by
 rw[Ut,Sf]
 cases hA:AE t A with
 |some x=>rfl
 |none=>exact YL h A t hA B
theorem Ayj:∀{o:AR},(∀e∈o,A8 e.2.1=false)→A8 (J9 o)=true
 | [],_=>rfl
 |(k,c,s)::r,h=>by
  show A8 (La (Avi c) (J9 r))=true
  rw[A7,Aau,h (k,c,s) (List.mem_cons_self ..),Ayj fun e he=>h e (List.mem_cons_of_mem _ he)]
  rfl
def NS:AR→Prop
 | []=>True
 |(k,_,_)::r=>AE k r=none∧NS r
theorem Apv:∀{o:AR},NS o→∀e∈o,AE e.1 o=some e.2
 | [],_,e,h=>by cases h
 | (k,c,s)::r,⟨h1,h2⟩,e,h=>by
  rcases List.mem_cons.1 h with rfl|h
  ·show(bif Fh k k then some (c,s) else AE k r)=_
   rw[RL]
   rfl
  ·have:=Apv h2 e h
   show(bif Fh k e.1 then some (c,s) else AE e.1 r)=_
   cases hb:Fh k e.1 with
   |true=>
    obtain rfl:=SV hb
    rw[h1] at this
    cases this
   |false=>exact this
theorem O6 {o:AR} (ho:NS o) (h:A91 o):A8 (J9 o)=true:=Ayj fun e he=>h e.1 e.2.1 e.2.2 (Apv ho e he)
theorem Afi:∀{o:AR} {t:Tag} {c:Cnd} {s:St},AE t o=some (c,s)→A8 c=true→A8 (J9 o)=false
 | [],_,_,_,h,_=>by cases h
 | (k,d,x)::r,t,c,s,h,hc=>by
  show A8 (La (Avi d) (J9 r))=false
  rw[A7,Aau]
  have h':(bif Fh k t then some (d,x) else AE t r)=some (c,s):=h
  cases hb:Fh k t with
  |true=>
   rw[hb] at h'
   obtain⟨rfl,rfl⟩:d=c∧x=s:=by cases h';exact⟨rfl,rfl⟩
   rw[hc]
   rfl
  |false=>
   rw[hb] at h'
   rw[Afi h' hc,Bool.and_false]
theorem Ap4:∀{o:AR} {t u:Tag} {c:Cnd} {s:St},t≠u→AE t o=some (c,s)→A8 c=true→A8 (Io u o)=false
 | [],_,_,_,_,_,h,_=>by cases h
 | (k,d,x)::r,t,u,c,s,hu,h,hc=>by
  have h':(bif Fh k t then some (d,x) else AE t r)=some (c,s):=h
  show A8 (bif Fh k u then Io u r else La (Avi d) (Io u r))=false
  cases hb:Fh k t with
  |true=>
   rw[hb] at h'
   obtain⟨rfl,rfl⟩:d=c∧x=s:=by cases h';exact⟨rfl,rfl⟩
   obtain rfl:=SV hb
   rw[WQ hu]
   show A8 (La (Avi d) (Io u r))=false
   rw[A7,Aau,hc]
   rfl
  | false=>
   rw[hb] at h'
   have ih:=Ap4 hu h' hc
   cases Fh k u with
   |true=>exact ih
   |false=>
    show A8 (La (Avi d) (Io u r))=false
    rw[A7,ih,Bool.and_false]
theorem Ap5:∀{o:AR} {u:Tag},(∀e∈o,A8 e.2.1=false)→A8 (Io u o)=true
 | [],_,_=>rfl
 | (k,c,s)::r,u,h=>by
  have ih:=Ap5 (u:=u) (o:=r) fun e he=>h e (List.mem_cons_of_mem _ he)
  show A8 (bif Fh k u then Io u r else La (Avi c) (Io u r))=true
  cases Fh k u with
  |true=>exact ih
  |false=>
   show A8 (La (Avi c) (Io u r))=true
   rw[A7,Aau,h (k,c,s) (List.mem_cons_self ..),ih]
   rfl
theorem Ah5:∀{A B:AR},NS A→NS B→(∀t x,AE t A=some x→AE t B=none)→NS (A++B)
 | [],B,_,hB,_=>hB
 | (k,c,s)::r,B,⟨h1,h2⟩,hB,h=>by
  refine⟨?_,Ah5 h2 hB fun t x hx=>h t x ?_⟩
  ·show AE k (r++B)=none
   rw[Ut,h1]
   exact h k (c,s) (by show(bif Fh k k then some (c,s) else AE k r)=_;rw[RL];rfl)
  ·show(bif Fh k t then some (c,s) else AE t r)=some x
   cases hb:Fh k t with
   |true=>
    obtain rfl:=SV hb
    rw[h1] at hx
    cases hx
   |false=>exact hx
theorem Aqm (f:Tag→Cnd→St→Option (Cnd×St)→Cnd×St) (B:AR):∀{A:AR},NS A→NS (Ys f B A)
 | [],_=>trivial
 |(k,c,s)::r,⟨h1,h2⟩=>⟨by rw[Sf,h1],Aqm f B h2⟩
theorem S6 (f:Cnd→Cnd) (A:AR) (t:Tag) (hA:AE t A≠none):∀(B:AR),AE t (Ko f A B)=none
 | []=>rfl
 | (k,d,s)::r=>by
  have ih:=S6 f A t hA r
  show AE t (match AE k A with|some _=>Ko f A r|none=>(k,f d,s)::Ko f A r)=none
  cases hk:AE k A with
  |some x=>exact ih
  |none=>
   show(bif Fh k t then some (f d,s) else AE t (Ko f A r))=none
   cases hb:Fh k t with
   |true=>exact absurd (SV hb▸hk) hA
   |false=>exact ih
theorem Aql (f:Cnd→Cnd) (A:AR):∀{B:AR},NS B→NS (Ko f A B)
 | [],_=>trivial
 |(k,d,s)::r,⟨h1,h2⟩=>by
  have ih:=Aql f A h2
  show NS (match AE k A with|some _=>Ko f A r|none=>(k,f d,s)::Ko f A r)
  cases hk:AE k A with
  |some x=>exact ih
  |none=>exact⟨by rw[YL f A k hk,h1],ih⟩
theorem Ayp (f:Tag→Cnd→St→Option (Cnd×St)→Cnd×St) (h:Cnd→Cnd) {A B:AR} (hA:NS A) (hB:NS B):NS (Ys f B A++Ko h A B):=
 Ah5 (Aqm f B hA) (Aql h A hB) fun t x hx=>by
  refine S6 h A t (fun hn=>?_) B
  rw[Sf,hn] at hx
  cases hx
theorem J7 (u t:Tag):∀(o:AR),AE t (M9 u o)=if t=u then none else AE t o
 | []=>by split<;>rfl
 | (k,c,s)::r=>by
  have ih:=J7 u t r
  show AE t (bif Fh k u then M9 u r else(k,c,s)::M9 u r)=if t=u then none else(bif Fh k t then some (c,s) else AE t r)
  by_cases hku:k=u
  ·subst hku
   rw[RL]
   show AE t (M9 k r)=_
   rw[ih]
   by_cases htk:t=k
   ·rw[if_pos htk,if_pos htk]
   ·rw[if_neg htk,if_neg htk,WQ (Ne.symm htk)]
    rfl
  ·rw[WQ hku]
   show(bif Fh k t then some (c,s) else AE t (M9 u r))=_
   rw[ih]
   by_cases htu:t=u
   ·subst htu
    rw[if_pos rfl,if_pos rfl,WQ hku]
    rfl
   ·rw[if_neg htu,if_neg htu]
theorem Aqk (u:Tag):∀{o:AR},NS o→NS (M9 u o)
 | [],_=>trivial
 |(k,c,s)::r,⟨h1,h2⟩=>by
  have ih:=Aqk u h2
  show NS (bif Fh k u then M9 u r else(k,c,s)::M9 u r)
  cases Fh k u with
  |true=>exact ih
  |false=>exact⟨by rw[J7,h1];split<;>rfl,ih⟩
structure Wf (s:St) (r:Res):Prop where
 outs:∀t c x,AE t r.outs=some (c,x)→Sub s x
 nrm:∀x,r.nrm=some x→Sub s x
 once:NS r.outs
theorem Br7 {s:St} {g:Bool} {W:List Nat} {A B:Res} (hA:Wf s A) (hB:Wf s B):Wf s (A6u g W s A B):=by
 refine⟨fun t c x h=>?_,fun x h=>?_,Ayp _ _ hA.once hB.once⟩
 ·have h':AE t (Ys (Bmk g W s) B.outs A.outs++Ko (La (some !g)) A.outs B.outs)=some (c,x):=h
  rw[QR] at h'
  cases h1:AE t A.outs with
  | some y=>
   obtain⟨c1,y⟩:=y
   rw[h1] at h'
   cases h2:AE t B.outs with
   |some z=>
    obtain⟨c2,z⟩:=z
    rw[h2] at h'
    cases h'
    exact Sub.merge _ _ _ _ _
   |none=>
    rw[h2] at h'
    cases h'
    exact hA.outs _ _ _ h1
  | none=>
   rw[h1] at h'
   cases h2:AE t B.outs with
   |some z=>
    obtain⟨c2,z⟩:=z
    rw[h2] at h'
    cases h'
    exact hB.outs _ _ _ h2
   |none=>
    rw[h2] at h'
    cases h'
 ·have h':Ayb g W s A.nrm B.nrm=some x:=h
  cases h1:A.nrm with
  |some y=>
   cases h2:B.nrm with
   |some z=>rw[h1,h2] at h';cases h';exact Sub.merge _ _ _ _ _
   |none=>rw[h1,h2] at h';cases h';exact hA.nrm _ h1
  |none=>
   cases h2:B.nrm with
   |some z=>rw[h1,h2] at h';cases h';exact hB.nrm _ h2
   |none=>rw[h1,h2] at h';cases h'
theorem Bom {s s1:St} {W:List Nat} {A B:Res} (hA:Wf s A) (h1:A.nrm=some s1) (hB:Wf s1 B):Wf s (Awq W s A B):=by
 have hs:=hA.nrm _ h1
 refine⟨fun t c x h=>?_,fun x h=>hs.trans (hB.nrm _ h),Ayp _ _ hA.once hB.once⟩
 have h':AE t (Ys (Brh A.outs W s) B.outs A.outs++Ko (La (J9 A.outs)) A.outs B.outs)=some (c,x):=h
 rw[QR] at h'
 cases h1:AE t A.outs with
 | some y=>
  obtain⟨c1,y⟩:=y
  rw[h1] at h'
  cases h2:AE t B.outs with
  |some z=>
   obtain⟨c2,z⟩:=z
   rw[h2] at h'
   cases h'
   exact Sub.merge _ _ _ _ _
  |none=>
   rw[h2] at h'
   cases h'
   exact hA.outs _ _ _ h1
 | none=>
  rw[h1] at h'
  cases h2:AE t B.outs with
  |some z=>
   obtain⟨c2,z⟩:=z
   rw[h2] at h'
   cases h'
   exact hs.trans (hB.outs _ _ _ h2)
  |none=>
   rw[h2] at h'
   cases h'
theorem Bok {s:St} {W:List Nat} {id:Nat} {A:Res} (hA:Wf s A):Wf s (PO W s id A):=by
 unfold PO
 cases h1:AE (some id) A.outs with
 |none=>exact hA
 | some y=>
  obtain⟨c,y⟩:=y
  refine⟨fun t c' x h=>?_,fun x h=>?_,Aqk _ hA.once⟩
  ·have h':AE t (M9 (some id) A.outs)=some (c',x):=h
   rw[J7] at h'
   split at h'
   ·cases h'
   ·exact hA.outs _ _ _ h'
  ·have h':(match A.nrm with|none=>some y|some z=>some (IZ (A8 c) W s y z))=some x:=h
   cases h2:A.nrm with
   |none=>rw[h2] at h';cases h';exact hA.outs _ _ _ h1
   |some z=>rw[h2] at h';cases h';exact Sub.merge _ _ _ _ _
theorem RM (s:St) (id:Nat):Wf s (Agz id):=⟨fun _ _ _ h=>(by cases h),fun _ h=>(by cases h),trivial⟩
theorem A3u {W:List Nat} {f:St→Res} (hf:∀s,Wf s (f s)):∀(n:Nat) (s:St),Wf s (Aps W f n s)
 |0,s=>RM s _
 |n+1,s=>by
  unfold Aps
  cases h:(f s).nrm with
  |none=>exact hf s
  |some s1=>exact Bom (hf s) h (A3u hf n s1)
theorem Bol (s:St) (t:Tag):Wf s ⟨[],[(t,none,s)],none⟩:=
  ⟨fun t' c x h=>(by
    have h':(bif Fh t t' then some (none,s) else none)=some (c,x):=h
    cases hb:Fh t t' with
    |true=>rw[hb] at h';cases h';exact Sub.refl s
    |false=>rw[hb] at h';cases h'),
   fun x h=>(by cases h),rfl,trivial⟩
def Bg (E:Env) (b:Code) (s:St) (ps:List Prop) (outs:AR):Prop:=∀(Z:Base) (F:Nat→Prop) (N:Nm) (a:Act) (R:World) (Q:Exit→Act→World→Prop),Rel Z F N s a R→(∀u,O4 u (Qx b)=true→Z.W u)→(∀p∈ps,p)→
 (∀e x F' N' a' R',Oc ⟨ps,outs,none⟩ e x→Rel Z F' N' x a' R'→Q e a' R')→(Code.loop b).wp E.P Q a R
def Bxg (E:Env) (c:Code) (s:St) (ps:List Prop) (outs:AR):Prop:=∀t d s1,outs=[(t,d,s1)]→Sub s s1∧∀(Z:Base) (F:Nat→Prop) (N:Nm) (a:Act) (R:World) (Q:Exit→Act→World→Prop),Rel Z F N s a R→(∀u,O4 u (Qx c)=true→Z.W u)→(∀p∈ps,p)→
 (∀F' N' a' R',Rel Z F' N' s1 a' R'→Q .normal a' R')→c.wp E.P Q a R
def Bk2 (E:Env) (l:Nat) (b:Code) (s:St) (ps:List Prop) (outs:AR):Prop:=(Nat.ble rfK l=false→Wf s ⟨ps,outs,none⟩∧Bg E b s ps outs)∧(Nat.ble rfK l=true→Bxg E b s ps outs)
structure RV (E:Env):Prop extends EnvOk E where
 loops:∀l s b ps outs,E.L l s=some (b,ps,outs)→Bk2 E l b s ps outs
theorem Fs {E:Env} (ok:RV E) {u:Nat}:∀(l:Nat) (c:Code) (h:Bool) (s:St),Wf s (Qz E u l c h s)
 |_,.skip,_,s=>⟨fun _ _ _ h=>(by cases h),fun x h=>(by cases h;exact Sub.refl s),trivial⟩
 | _,.region id ops draw,_,s=>by
  unfold Qz
  cases h:evR E ops.toList draw s with
  |none=>exact RM s _
  |some x=>
   obtain⟨s',ps⟩:=x
   exact⟨fun _ _ _ h=>(by cases h),fun x h'=>(by cases h';exact Bd0 ok.toEnvOk h),trivial⟩
 |_,.seq a b,hd,s=>by
  unfold Qz
  cases h:(Qz E u 0 a hd s).nrm with
  |none=>exact Fs ok 0 a hd s
  |some s1=>exact Bom (Fs ok 0 a hd s) h (Fs ok 0 b _ s1)
 | _,.cond c x y,hd,s=>by
  unfold Qz
  split
  ·rename_i g _
   cases Buo hd u with
   |true=>
    cases g with
    |true=>exact Fs ok 0 x _ s
    |false=>exact Fs ok 0 y _ s
   |false=>exact Br7 (Fs ok 0 x _ s) (Fs ok 0 y _ s)
  ·exact RM s _
 |_,.block id b,_,s=>Bok (Fs ok id b _ s)
 | l,.loop b,_,s=>by
  unfold Qz
  split
  ·rename_i b0 ps outs h
   cases hb:Nat.ble rfK l with
   |true=>rw[hb] at h;cases h
   |false=>
    rw[hb,cond_false] at h
    obtain⟨h1,h2,h3⟩:=((ok.loops _ _ _ _ _ h).1 hb).1
    exact⟨h1,h2,h3⟩
  ·exact A3u (fun s=>Fs ok 0 b _ s) u s
 |_,.exit id,_,s=>Bol s (some id)
 |_,.ret,_,s=>Bol s none
 | l,.rangeFunc _ _ _ _,_,s=>by
  unfold Qz
  split
  ·rename_i b0 ps t d s1 h
   exact⟨fun _ _ _ h=>(by cases h),fun x h'=>(by cases h';exact((ok.loops _ _ _ _ _ h).2 (by rw[Nat.ble_eq];omega) _ _ _ rfl).1),trivial⟩
  ·exact RM s _
 |_,.scope b,_,s=>Fs ok 0 b false s
 |_,.label _,_,s=>⟨fun _ _ _ h=>(by cases h),fun x h=>(by cases h;exact Sub.refl s),trivial⟩
 |_,.goto _,_,s=>RM s _
 |_,.refuse _,_,s=>RM s _
theorem Lg {ps qs:List Prop} (h:∀p∈ps++qs,p):(∀p∈ps,p)∧(∀p∈qs,p):=⟨fun p hp=>h p (List.mem_append.2 (.inl hp)),fun p hp=>h p (List.mem_append.2 (.inr hp))⟩
def Bpi (M:Base) (x y:St):Prop:=∀a' R',At M a' R' x→At M a' R' y
theorem PT {Z:Base} {F:Nat→Prop} {N:Nm} {s:St} {a:Act} {R:World} {W:List Nat} (h0:Rel Z F N s a R) {g:Bool} {x y z:St} (e1:Sub s x) (e2:Sub s y) (hz:z=bif g then x else y):Bpi (KP F N s a R W) z (IZ g W s x y):=fun a' R' ⟨F',N',h⟩=>by
 subst hz
 obtain⟨N'',h'⟩:=Rel.merge (h0.start W) h (fun _ h=>h) e1 e2
 exact⟨F',N'',h'⟩
theorem Bq0 {Z:Base} {F:Nat→Prop} {N:Nm} {a:Act} {R:World} {W:List Nat} {s:St} (h0:Rel Z F N s a R) {g:Bool} {A B:Res} {e:Exit} {x:St} (hA:Wf s A) (hB:Wf s B) (h:Oc (bif g then A else B) e x):
  ∃y,Oc (A6u g W s A B) e y∧Bpi (KP F N s a R W) x y:=by
 have gj:=QR (f:=Bmk g W s) (h:=La (some !g)) (A:=A.outs) (B:=B.outs)
 rcases h with⟨t,c,rfl,h1,h2,h3⟩|⟨rfl,h1,h2⟩
 ·cases g with
  | true=>
   have h1':AE t A.outs=some (c,x):=h1
   cases hb:AE t B.outs with
   | none=>
    refine⟨x,.inl ⟨t,La (some true) c,rfl,?_,?_,fun t' c' s' hne hg=>?_⟩,fun _ _ h=>h⟩
    ·show AE t (_++_)=_
     rw[gj,h1',hb]
     rfl
    ·rw[A7,h2];rfl
    ·have hg':AE t' (_++_)=some (c',s'):=hg
     rw[gj] at hg'
     cases ha:AE t' A.outs with
     |some z=>
      obtain⟨c1,z⟩:=z
      have:=h3 t' c1 z hne ha
      rw[ha] at hg'
      cases hb':AE t' B.outs with
      |some w=>obtain⟨d,w⟩:=w;rw[hb'] at hg';cases hg';rw[QM];exact this
      |none=>rw[hb'] at hg';cases hg';rw[A7,this];rfl
     |none=>
      rw[ha] at hg'
      cases hb':AE t' B.outs with
      |some w=>obtain⟨d,w⟩:=w;rw[hb'] at hg';cases hg';rw[A7];rfl
      |none=>rw[hb'] at hg';cases hg'
   | some y=>
    obtain⟨d,y⟩:=y
    refine⟨IZ true W s x y,.inl ⟨t,Bmj true c d,rfl,?_,?_,fun t' c' s' hne hg=>?_⟩,PT (g:=true) h0 (hA.outs _ _ _ h1') (hB.outs _ _ _ hb) rfl⟩
    ·show AE t (_++_)=_
     rw[gj,h1',hb]
     rfl
    ·rw[QM];exact h2
    ·have hg':AE t' (_++_)=some (c',s'):=hg
     rw[gj] at hg'
     cases ha:AE t' A.outs with
     |some z=>
      obtain⟨c1,z⟩:=z
      have:=h3 t' c1 z hne ha
      rw[ha] at hg'
      cases hb':AE t' B.outs with
      |some w=>obtain⟨d,w⟩:=w;rw[hb'] at hg';cases hg';rw[QM];exact this
      |none=>rw[hb'] at hg';cases hg';rw[A7,this];rfl
     |none=>
      rw[ha] at hg'
      cases hb':AE t' B.outs with
      |some w=>obtain⟨d,w⟩:=w;rw[hb'] at hg';cases hg';rw[A7];rfl
      |none=>rw[hb'] at hg';cases hg'
  | false=>
   have h1':AE t B.outs=some (c,x):=h1
   have hbut:∀t' c' s',t'≠t→AE t' (A6u false W s A B).outs=some (c',s')→A8 c'=false:=fun t' c' s' hne hg=>by
    have hg':AE t' (_++_)=some (c',s'):=hg
    rw[gj] at hg'
    cases ha:AE t' A.outs with
    | some z=>
     obtain⟨c1,z⟩:=z
     rw[ha] at hg'
     cases hb':AE t' B.outs with
     |some w=>
      obtain⟨d,w⟩:=w
      have:=h3 t' d w hne hb'
      rw[hb'] at hg';cases hg';rw[QM];exact this
     |none=>rw[hb'] at hg';cases hg';rw[A7];rfl
    | none=>
     rw[ha] at hg'
     cases hb':AE t' B.outs with
     |some w=>
      obtain⟨d,w⟩:=w
      have:=h3 t' d w hne hb'
      rw[hb'] at hg';cases hg';rw[A7,this];rfl
     |none=>rw[hb'] at hg';cases hg'
   cases ha:AE t A.outs with
   | none=>
    refine⟨x,.inl ⟨t,La (some !false) c,rfl,?_,?_,hbut⟩,fun _ _ h=>h⟩
    ·show AE t (_++_)=_
     rw[gj,ha,h1']
    ·rw[A7,h2];rfl
   | some y=>
    obtain⟨d,y⟩:=y
    refine⟨IZ false W s y x,.inl ⟨t,Bmj false d c,rfl,?_,?_,hbut⟩,PT (g:=false) h0 (hA.outs _ _ _ ha) (hB.outs _ _ _ h1') rfl⟩
    ·show AE t (_++_)=_
     rw[gj,ha,h1']
     rfl
    ·rw[QM];exact h2
 ·have hall:A91 (A6u g W s A B).outs:=fun t' c' s' hg=>by
   have hg':AE t' (_++_)=some (c',s'):=hg
   rw[gj] at hg'
   cases ha:AE t' A.outs with
   | some z=>
    obtain⟨c1,z⟩:=z
    rw[ha] at hg'
    cases hb':AE t' B.outs with
    |some w=>
     obtain⟨d,w⟩:=w
     rw[hb'] at hg';cases hg';rw[QM]
     cases g with
     |true=>exact h2 t' c1 _ ha
     |false=>exact h2 t' d _ hb'
    |none=>
     rw[hb'] at hg';cases hg';rw[A7]
     cases g with
     |true=>rw[h2 t' c1 _ ha];rfl
     |false=>rfl
   | none=>
    rw[ha] at hg'
    cases hb':AE t' B.outs with
    |some w=>
     obtain⟨d,w⟩:=w
     rw[hb'] at hg';cases hg';rw[A7]
     cases g with
     |true=>rfl
     |false=>rw[h2 t' d _ hb'];rfl
    |none=>rw[hb'] at hg';cases hg'
  cases g with
  |true=>
   have h1':A.nrm=some x:=h1
   cases hb:B.nrm with
   |none=>exact⟨x,.inr ⟨rfl,by show Ayb true W s A.nrm B.nrm=_;rw[h1',hb];rfl,hall⟩,fun _ _ h=>h⟩
   |some y=>exact⟨_,.inr ⟨rfl,by show Ayb true W s A.nrm B.nrm=_;rw[h1',hb];rfl,hall⟩,PT (g:=true) h0 (hA.nrm _ h1') (hB.nrm _ hb) rfl⟩
  |false=>
   have h1':B.nrm=some x:=h1
   cases ha:A.nrm with
   |none=>exact⟨x,.inr ⟨rfl,by show Ayb false W s A.nrm B.nrm=_;rw[ha,h1'];rfl,hall⟩,fun _ _ h=>h⟩
   |some y=>exact⟨_,.inr ⟨rfl,by show Ayb false W s A.nrm B.nrm=_;rw[ha,h1'];rfl,hall⟩,PT (g:=false) h0 (hA.nrm _ ha) (hB.nrm _ h1') rfl⟩
theorem Bq1 {Z:Base} {F:Nat→Prop} {N:Nm} {a:Act} {R:World} {W:List Nat} {s s1:St} (h0:Rel Z F N s a R) {A B:Res} {t:Tag} {c:Cnd} {x:St} (hA:Wf s A) (hn:A.nrm=some s1) (hB:Wf s1 B) (h1:AE t A.outs=some (c,x)) (h2:A8 c=true) (h3:Bor t A.outs):
  ∃y,Oc (Awq W s A B) (Tag.ex t) y∧Bpi (KP F N s a R W) x y:=by
 have gj:=QR (f:=Brh A.outs W s) (h:=La (J9 A.outs)) (A:=A.outs) (B:=B.outs)
 have hbut:Bor t (Awq W s A B).outs:=fun t' c' s' hne hg=>by
  have hg':AE t' (_++_)=some (c',s'):=hg
  rw[gj] at hg'
  cases ha:AE t' A.outs with
  | some z=>
   obtain⟨c1,z⟩:=z
   have:=h3 t' c1 z hne ha
   rw[ha] at hg'
   cases hb':AE t' B.outs with
   |some w=>
    obtain⟨d,w⟩:=w
    rw[hb'] at hg';cases hg'
    rw[Aav,this,A7,Ap4 (Ne.symm hne) h1 h2]
    rfl
   |none=>rw[hb'] at hg';cases hg';exact this
  | none=>
   rw[ha] at hg'
   cases hb':AE t' B.outs with
   |some w=>
    obtain⟨d,w⟩:=w
    rw[hb'] at hg';cases hg'
    rw[A7,Afi h1 h2]
    rfl
   |none=>rw[hb'] at hg';cases hg'
 cases hb:AE t B.outs with
 |none=>
  refine⟨x,.inl ⟨t,c,rfl,?_,h2,hbut⟩,fun _ _ h=>h⟩
  show AE t (_++_)=_
  rw[gj,h1,hb]
  rfl
 | some y=>
  obtain⟨d,y⟩:=y
  refine⟨IZ (A8 c) W s x y,.inl ⟨t,orO c (La (Io t A.outs) d),rfl,?_,?_,hbut⟩,PT (g:=A8 c) h0 (hA.outs _ _ _ h1) ((hA.nrm _ hn).trans (hB.outs _ _ _ hb)) (by rw[h2];rfl)⟩
  ·show AE t (_++_)=_
   rw[gj,h1,hb]
   rfl
  ·rw[Aav,h2]
   rfl
theorem Bq2 {Z:Base} {F:Nat→Prop} {N:Nm} {a:Act} {R:World} {W:List Nat} {s s1:St} (h0:Rel Z F N s a R) {A B:Res} {e:Exit} {x:St} (hA:Wf s A) (hn:A.nrm=some s1) (hB:Wf s1 B) (hall:A91 A.outs) (h:Oc B e x):
  ∃y,Oc (Awq W s A B) e y∧Bpi (KP F N s a R W) x y:=by
 have gj:=QR (f:=Brh A.outs W s) (h:=La (J9 A.outs)) (A:=A.outs) (B:=B.outs)
 have hno:=O6 hA.once hall
 have hnb:∀t,A8 (Io t A.outs)=true:=fun t=>Ap5 fun e he=>hall e.1 e.2.1 e.2.2 (Apv hA.once e he)
 rcases h with⟨t,c,rfl,h1,h2,h3⟩|⟨rfl,h1,h2⟩
 ·have hbut:Bor t (Awq W s A B).outs:=fun t' c' s' hne hg=>by
   have hg':AE t' (_++_)=some (c',s'):=hg
   rw[gj] at hg'
   cases ha:AE t' A.outs with
   | some z=>
    obtain⟨c1,z⟩:=z
    have:=hall t' c1 z ha
    rw[ha] at hg'
    cases hb':AE t' B.outs with
    |some w=>
     obtain⟨d,w⟩:=w
     rw[hb'] at hg';cases hg'
     rw[Aav,this,A7,h3 t' d _ hne hb',Bool.and_false]
     rfl
    |none=>rw[hb'] at hg';cases hg';exact this
   | none=>
    rw[ha] at hg'
    cases hb':AE t' B.outs with
    |some w=>
     obtain⟨d,w⟩:=w
     rw[hb'] at hg';cases hg'
     rw[A7,h3 t' d _ hne hb',Bool.and_false]
    |none=>rw[hb'] at hg';cases hg'
  cases ha:AE t A.outs with
  |none=>
   refine⟨x,.inl ⟨t,La (J9 A.outs) c,rfl,?_,by rw[A7,hno,h2];rfl,hbut⟩,fun _ _ h=>h⟩
   show AE t (_++_)=_
   rw[gj,ha,h1]
  | some y=>
   obtain⟨d,y⟩:=y
   have hd:=hall t d y ha
   refine⟨IZ (A8 d) W s y x,.inl ⟨t,orO d (La (Io t A.outs) c),rfl,?_,?_,hbut⟩,PT (g:=A8 d) h0 (hA.outs _ _ _ ha) ((hA.nrm _ hn).trans (hB.outs _ _ _ h1)) (by rw[hd];rfl)⟩
   ·show AE t (_++_)=_
    rw[gj,ha,h1]
    rfl
   ·rw[Aav,A7,hnb t,h2,Bool.and_self,Bool.or_true]
 ·refine⟨x,.inr ⟨rfl,h1,fun t' c' s' hg=>?_⟩,fun _ _ h=>h⟩
  have hg':AE t' (_++_)=some (c',s'):=hg
  rw[gj] at hg'
  cases ha:AE t' A.outs with
  | some z=>
   obtain⟨c1,z⟩:=z
   have:=hall t' c1 z ha
   rw[ha] at hg'
   cases hb':AE t' B.outs with
   |some w=>
    obtain⟨d,w⟩:=w
    rw[hb'] at hg';cases hg'
    rw[Aav,this,A7,h2 t' d _ hb',Bool.and_false]
    rfl
   |none=>rw[hb'] at hg';cases hg';exact this
  | none=>
   rw[ha] at hg'
   cases hb':AE t' B.outs with
   |some w=>
    obtain⟨d,w⟩:=w
    rw[hb'] at hg';cases hg'
    rw[A7,h2 t' d _ hb',Bool.and_false]
   |none=>rw[hb'] at hg';cases hg'
theorem Bjf {W:List Nat} {s:St} {A B:Res} (hA:Wf s A) (hall:A91 A.outs) (h:∀p∈(Awq W s A B).ps,p):(∀p∈B.ps,p):=by
 have h':=(Lg h).2
 refine Mf h' fun q hq=>?_
 have hno:=O6 hA.once hall
 cases hc:J9 A.outs with
 |none=>rw[hc] at hq;cases hq
 |some b=>
  rw[hc] at hq hno
  obtain rfl:=List.mem_singleton.1 hq
  exact hno
def Bv3 (E:Env) (f:St→Res) (c:Code):Prop:=∀(Z:Base) (s:St) (a:Act) (R:World) (Q:Exit→Act→World→Prop),At Z a R s→(∀u,O4 u (Qx c)=true→Z.W u)→(∀p∈(f s).ps,p)→
 (∀e x a' R',Oc (f s) e x→At Z a' R' x→Q e a' R')→c.wp E.P Q a R
theorem At.over {Z:Base} {F:Nat→Prop} {N:Nm} {s x:St} {a a':Act} {R R':World} {W:List Nat} (h0:Rel Z F N s a R) (hW:∀u,O4 u W=true→Z.W u) (h:At (KP F N s a R W) a' R' x):At Z a' R' x:=by
 obtain⟨F',N',h⟩:=h
 exact⟨F',N',h0.over h hW⟩
theorem A9l {E:Env} {W:List Nat} {f:St→Res} {c:Code} (hw:∀s,Wf s (f s)) (hf:Bv3 E f c) {Z:Base} {F:Nat→Prop} {N:Nm} {s:St} {a:Act} {R:World} {Q:Exit→Act→World→Prop} {s1:St} {B:Res} (h0:Rel Z F N s a R) (hW:∀u,O4 u W=true→Z.W u) (hc:∀u,O4 u (Qx c)=true→O4 u W=true) (hn:(f s).nrm=some s1) (hB:Wf s1 B)
  (hp:∀p∈(Awq W s (f s) B).ps,p) (hk:∀e x a' R',Oc (Awq W s (f s) B) e x→At Z a' R' x→Q e a' R')
  {K:Act→World→Prop} (hd:∀(a':Act) (R':World),At (KP F N s a R W) a' R' s1→(∀p∈B.ps,p)→(∀e x a'' R'',Oc B e x→At (KP F N s a R W) a'' R'' x→Q e a'' R'')→K a' R'):c.wp E.P (Exit.then K Q) a R:=by
 refine hf (KP F N s a R W) s a R _ ⟨F,N,h0.start W⟩ (fun u hu=>hc u hu) (Lg hp).1 fun e x a' R' ho hr=>?_
 rcases ho with⟨t,cc,rfl,h1,h2,h3⟩|⟨rfl,h1,h2⟩
 ·obtain⟨y,hy,hr'⟩:=Bq1 h0 (hw s) hn hB h1 h2 h3
  have:=hk _ y a' R' hy (At.over h0 hW (hr' _ _ hr))
  cases t<;>exact this
 ·rw[hn] at h1
  obtain rfl:=Option.some.inj h1
  refine hd a' R' hr (Bjf (hw s) h2 hp) fun e x a'' R'' ho' hr'=>?_
  obtain⟨y,hy,hr''⟩:=Bq2 h0 (hw s) hn hB h2 ho'
  exact hk e y a'' R'' hy (At.over h0 hW (hr'' _ _ hr'))
theorem Aa9 {u:Nat} {A B:List Nat} (h:O4 u A=true):O4 u (A++B)=true:=by rw[YM,h];rfl
theorem Aex {u:Nat} {A B:List Nat} (h:O4 u B=true):O4 u (A++B)=true:=by rw[YM,h];cases O4 u A<;>rfl
theorem IP {E:Env} (ok:RV E) {u:Nat}:∀(l:Nat) (c:Code) (hd:Bool),Bv3 E (Qz E u l c hd) c
 |_,.skip,_=>fun Z s a R Q h _ _ hk=>wp_skip (hk _ s a R (.inr ⟨rfl,rfl,fun _ _ _ h=>by cases h⟩) h)
 | _,.region id ops draw,_=>fun Z s a R Q h hW hp hk=>by
  unfold Qz at hp hk
  cases he:evR E ops.toList draw s with
  |none=>rw[he] at hp;exact(hp (Aaa id) (List.mem_singleton.2 rfl)).elim
  |some x=>
   obtain⟨s',ps⟩:=x
   rw[he] at hp hk
   obtain⟨F,N,h⟩:=h
   have:=Bjb ok.toEnvOk h (id:=id) hW he hp (Q:=Q) fun F' N' a' R' hr=>hk _ s' a' R' (.inr ⟨rfl,rfl,fun _ _ _ h=>by cases h⟩) ⟨F',N',hr⟩
   rwa[Array.toArray_toList] at this
 | _,.seq c d,hd=>fun Z s a R Q h hW hp hk=>by
  unfold Qz at hp hk
  refine wp_seq ?_
  cases hn:(Qz E u 0 c hd s).nrm with
  | none=>
   rw[hn] at hp hk
   refine IP ok 0 c hd Z s a R _ h (fun u hu=>hW u (Aa9 hu)) hp fun e x a' R' ho hr=>?_
   have:=hk e x a' R' ho hr
   rcases ho with⟨t,cc,rfl,_,_,_⟩|⟨rfl,h1,_⟩
   ·cases t<;>exact this
   ·rw[hn] at h1
    cases h1
  |some s1=>
   rw[hn] at hp hk
   obtain⟨F,N,h⟩:=h
   exact A9l (fun s=>Fs ok 0 c hd s) (IP ok 0 c hd) h hW (fun u hu=>Aa9 hu) hn (Fs ok 0 d _ s1) hp hk fun a' R' hr hp' hk'=>IP ok 0 d _ _ s1 a' R' Q hr (fun u hu=>Aex hu) hp' hk'
 | _,.cond c x y,hd=>fun Z s a R Q h hW hp hk=>by
  unfold Qz at hp hk
  split at hp
  ·rename_i g hg
   rw[hg] at hk
   simp only at hk
   obtain⟨F,N,h⟩:=h
   have hev:=Dh h (Ht _) hg
   generalize Buo hd u=lt at hp hk
   cases lt with
   |true=>
    cases g with
    |true=>exact wp_cond_true hev (IP ok 0 x false Z s a R Q ⟨F,N,h⟩ (fun u hu=>hW u (Aa9 hu)) hp hk)
    |false=>exact wp_cond_false hev (IP ok 0 y false Z s a R Q ⟨F,N,h⟩ (fun u hu=>hW u (Aex hu)) hp hk)
   |false=>
   obtain⟨hp1,hp2⟩:=Lg hp
   have main:∀z:Exit×St,Oc (bif g then Qz E u 0 x false s else Qz E u 0 y false s) z.1 z.2→∀a' R',At (KP F N s a R (Qx x++Qx y)) a' R' z.2→Q z.1 a' R':=fun z hz a' R' hr=>by
    obtain⟨w,hw,hr'⟩:=Bq0 h (Fs ok 0 x _ s) (Fs ok 0 y _ s) hz
    exact hk z.1 w a' R' hw (At.over h hW (hr' _ _ hr))
   cases g with
   |true=>
    exact wp_cond_true hev (IP ok 0 x false (KP F N s a R (Qx x++Qx y)) s a R Q ⟨F,N,h.start _⟩ (fun u hu=>Aa9 hu) (Mf hp1 fun q hq=>by obtain rfl:=List.mem_singleton.1 hq;rfl) fun e z a' R' ho hr=>main (e,z) ho a' R' hr)
   |false=>
    exact wp_cond_false hev (IP ok 0 y false (KP F N s a R (Qx x++Qx y)) s a R Q ⟨F,N,h.start _⟩ (fun u hu=>Aex hu) (Mf hp2 fun q hq=>by obtain rfl:=List.mem_singleton.1 hq;rfl) fun e z a' R' ho hr=>main (e,z) ho a' R' hr)
  ·exact(hp (Aaa 1000001) (List.mem_singleton.2 rfl)).elim
 | _, .block id b,_=>fun Z s a R Q h hW hp hk=>by
  refine wp_block ?_
  obtain⟨F,N,h⟩:=h
  have hwf:=Fs ok (u:=u) id b false s
  have hp':∀p∈(Qz E u id b false s).ps,p:=fun p hm=>hp p (by
   show p∈(PO (Qx b) s id (Qz E u id b false s)).ps
   unfold PO
   cases hg:AE (some id) (Qz E u id b false s).outs with
   |none=>exact hm
   |some y=>exact hm)
  refine IP ok id b false (KP F N s a R (Qx b)) s a R _ ⟨F,N,h.start _⟩ (fun u hu=>hu) hp' fun e x a' R' ho hr=>?_
  have hk':∀e x a' R',Oc (PO (Qx b) s id (Qz E u id b false s)) e x→At Z a' R' x→Q e a' R':=hk
  have hz:At Z a' R' x:=At.over h hW hr
  generalize Qz E u id b false s=A at*
  cases hg:AE (some id) A.outs with
  | none=>
   have hbl:PO (Qx b) s id A=A:=by unfold PO;rw[hg]
   rw[hbl] at hk'
   have:=hk' e x a' R' ho hz
   rcases ho with⟨t,cc,rfl,h1,_,_⟩|⟨rfl,_,_⟩
   ·cases t with
    |none=>exact this
    |some i=>
     have hne:i≠id:=fun e=>by subst e;rw[hg] at h1;cases h1
     show Exit.inBlock id Q (.exit i) a' R'
     unfold Exit.inBlock
     simp only[hne,if_false]
     exact this
   ·exact this
  | some y=>
   obtain⟨c,y⟩:=y
   have hbl:PO (Qx b) s id A=⟨A.ps,M9 (some id) A.outs,match A.nrm with|none=>some y|some z=>some (IZ (A8 c) (Qx b) s y z)⟩:=by unfold PO;rw[hg]
   rw[hbl] at hk'
   rcases ho with⟨t,cc,rfl,h1,h2,h3⟩|⟨rfl,h1,h2⟩
   ·by_cases ht:t=some id
    ·subst ht
     rw[hg] at h1
     obtain⟨rfl,rfl⟩:c=cc∧y=x:=by cases h1;exact⟨rfl,rfl⟩
     have hall:A91 (M9 (some id) A.outs):=fun t' c' s' hg'=>by
      rw[J7] at hg'
      split at hg'
      ·cases hg'
      ·rename_i hne
       exact h3 t' c' s' hne hg'
     show Exit.inBlock id Q (.exit id) a' R'
     unfold Exit.inBlock
     simp only[if_true]
     cases hn:A.nrm with
     |none=>
      rw[hn] at hk'
      exact hk' .normal y a' R' (.inr ⟨rfl,rfl,hall⟩) hz
     |some z=>
      rw[hn] at hk'
      have:=PT (g:=A8 c) h (hwf.outs _ _ _ hg) (hwf.nrm _ hn) (by rw[h2];rfl) _ _ hr
      exact hk' .normal _ a' R' (.inr ⟨rfl,rfl,hall⟩) (At.over h hW this)
    ·have ho':AE t (M9 (some id) A.outs)=some (cc,x):=by rw[J7,if_neg ht];exact h1
     have:=hk' (Tag.ex t) x a' R' (.inl ⟨t,cc,rfl,ho',h2,fun t' c' s' hne hg'=>by
      rw[J7] at hg'
      split at hg'
      ·cases hg'
      ·exact h3 t' c' s' hne hg'⟩) hz
     cases t with
     |none=>exact this
     |some i=>
      have hne:i≠id:=fun e=>ht (by rw[e])
      show Exit.inBlock id Q (.exit i) a' R'
      unfold Exit.inBlock
      simp only[hne,if_false]
      exact this
   ·have hall:A91 (M9 (some id) A.outs):=fun t' c' s' hg'=>by
     rw[J7] at hg'
     split at hg'
     ·cases hg'
     ·exact h2 t' c' s' hg'
    rw[h1] at hk'
    have:=PT (g:=A8 c) h (hwf.outs _ _ _ hg) (hwf.nrm _ h1) (by rw[h2 _ _ _ hg];rfl) _ _ hr
    exact hk' .normal _ a' R' (.inr ⟨rfl,rfl,hall⟩) (At.over h hW this)
 | l, .loop b,_=>fun Z s a R Q h hW hp hk=>by
  unfold Qz at hp hk
  cases hL:(bif Nat.ble rfK l then none else E.L l s) with
  | some r=>
   obtain⟨b0,ps,outs⟩:=r
   rw[hL] at hp hk
   have hb:b=b0:=hp _ (List.mem_cons_self ..)
   subst hb
   obtain⟨F,N,h⟩:=h
   have hlt:Nat.ble rfK l=false:=by
    cases hb:Nat.ble rfK l with
    |true=>rw[hb] at hL;cases hL
    |false=>rfl
   rw[hlt,cond_false] at hL
   refine((ok.loops _ _ _ _ _ hL).1 hlt).2 Z F N a R Q h hW (fun p hm=>hp p (List.mem_cons_of_mem _ hm)) fun e x F' N' a' R' ho hr=>hk e x a' R' ?_ ⟨F',N',hr⟩
   rcases ho with⟨t,c,rfl,h1,h2,h3⟩|⟨rfl,h1,h2⟩
   ·exact .inl ⟨t,c,rfl,h1,h2,h3⟩
   ·cases h1
  |none=>
  rw[hL] at hp hk
  have key:∀(n:Nat) (Z:Base) (s:St) (a:Act) (R:World) (Q:Exit→Act→World→Prop),At Z a R s→(∀u,O4 u (Qx b)=true→Z.W u)→(∀p∈(Aps (Qx b) (Qz E u 0 b true) n s).ps,p)→(∀e x a' R',Oc (Aps (Qx b) (Qz E u 0 b true) n s) e x→At Z a' R' x→Q e a' R')→
    Code.rounds E.P b Q n a R:=fun n=>by
   induction n with
   |zero=>intro Z s a R Q h hW hp hk;exact(hp (Aaa 1000000) (List.mem_singleton.2 rfl)).elim
   | succ n ih=>
    intro Z s a R Q h hW hp hk
    rw[rounds_succ]
    unfold Aps at hp hk
    cases hn:(Qz E u 0 b true s).nrm with
    | none=>
     rw[hn] at hp hk
     refine IP ok 0 b true Z s a R _ h hW hp fun e x a' R' ho hr=>?_
     have:=hk e x a' R' ho hr
     rcases ho with⟨t,cc,rfl,_,_,_⟩|⟨rfl,h1,_⟩
     ·cases t<;>exact this
     ·rw[hn] at h1
      cases h1
    |some s1=>
     rw[hn] at hp hk
     obtain⟨F,N,h⟩:=h
     exact A9l (fun s=>Fs ok 0 b true s) (IP ok 0 b true) h hW (fun u hu=>hu) hn (A3u (fun s=>Fs ok 0 b true s) n s1) hp hk fun a' R' hr hp' hk'=>ih _ s1 a' R' Q hr (fun u hu=>hu) hp' hk'
  exact wp_loop_rounds u (key u Z s a R Q h hW hp hk)
 | _,.exit id,_=>fun Z s a R Q h _ _ hk=>wp_exit (hk _ s a R (.inl ⟨some id,none,rfl,by show(bif Fh (some id) (some id) then some (none,s) else none)=_;rw[RL];rfl,rfl,fun t' c x hne hg=>by
   have h':(bif Fh (some id) t' then some (none,s) else none)=some (c,x):=hg
   rw[WQ (Ne.symm hne)] at h'
   cases h'⟩) h)
 | _,.ret,_=>fun Z s a R Q h _ _ hk=>wp_ret (hk _ s a R (.inl ⟨none,none,rfl,rfl,rfl,fun t' c x hne hg=>by
   have h':(bif Fh none t' then some (none,s) else none)=some (c,x):=hg
   rw[WQ (Ne.symm hne)] at h'
   cases h'⟩) h)
 | l,.rangeFunc g qs c b,_=>fun Z s a R Q h hW hp hk=>by
  unfold Qz at hp hk
  split at hp
  ·rename_i b0 ps t d s1 hL
   rw[hL] at hk
   have hb:Code.rangeFunc g qs c b=b0:=hp _ (List.mem_cons_self ..)
   subst hb
   obtain⟨F,N,h⟩:=h
   exact((ok.loops _ _ _ _ _ hL).2 (by rw[Nat.ble_eq];omega) _ _ _ rfl).2 Z F N a R Q h hW (fun p hm=>hp p (List.mem_cons_of_mem _ hm)) fun F' N' a' R' hr=>hk .normal s1 a' R' (.inr ⟨rfl,rfl,fun t c x hg=>by cases hg⟩) ⟨F',N',hr⟩
  ·exact(hp (Aaa 1000002) (List.mem_singleton.2 rfl)).elim
 | _,.scope b,_=>fun Z s a R Q h hW hp hk=>wp_scope_straight (IP ok 0 b false Z s a R _ h hW hp fun e x a' R' ho hr=>by
   have:=hk e x a' R' ho hr
   rcases ho with⟨t,c,rfl,_⟩|⟨rfl,_⟩
   ·cases t<;>exact this
   ·exact this)
 |_,.label _,_=>fun Z s a R Q h _ _ hk=>wp_label (hk .normal s a R (.inr ⟨rfl,rfl,fun t c x hg=>by cases hg⟩) h)
 |_,.goto _,_=>fun Z s a R Q _ _ hp _=>(hp (Aaa 1000002) (List.mem_singleton.2 rfl)).elim
 |_,.refuse _,_=>fun Z s a R Q _ _ hp _=>(hp (Aaa 1000002) (List.mem_singleton.2 rfl)).elim
end Go.Proofs.YtifkbgkbajncjaaGreatDoor
namespace Go.Proofs.YtifkbgkbajncjaaGreatDoor
open Go.RowKit
mutual
def A.pk (ρ:Nat→Option Nat):A→A
 | .own i off=>match ρ i with
  |some j=> .own j off
  |none=> .dead
 | .ownx i base len k=>match ρ i with
  |some j=> .ownx j base len k
  |none=> .dead
 | .sq i=>match ρ i with
  |some j=> .sq j
  |none=> .dead
 | .vw i size lo n full=>match ρ i with
  |some j=> .vw j size lo n full
  |none=> .dead
 | .el i k size off=>match ρ i with
  |some j=> .el j k size off
  |none=> .dead
 | .mp i=>match ρ i with
  |some j=> .mp j
  |none=> .dead
 | .dq i=>match ρ i with
  |some j=> .dq j
  |none=> .dead
 | .iv i k=>match ρ i with
  |some j=> .iv j k
  |none=> .dead
 | .de i k size off=>match ρ i with
  |some j=> .de j k size off
  |none=> .dead
 | .ie i k m size off=>match ρ i with
  |some j=> .ie j k m size off
  |none=> .dead
 | .fn f first caps=> .fn f (pkL ρ first) (pkL ρ caps)
 | .agg xs=> .agg (pkL ρ xs)
 | .tup xs=> .tup (pkL ρ xs)
 | .ref l=> .ref (pkL ρ l)
 | .opt u b x=> .opt u b (x.pk ρ)
 | .v x=> .v x
 | .sl c l=> .sl c l
 | .nl=> .nl
 | .it q vs=> .it q vs
 | .dead=> .dead
 | .av c n l=> .av c n l
 | .rv xs=> .rv (pkL ρ xs)
 | .vr i base lo m=>match ρ i with
  |some j=> .vr j base lo m
  |none=> .dead
 | .vd i base m cap=>match ρ i with
  |some j=> .vd j base m cap
  |none=> .dead
def pkL (ρ:Nat→Option Nat):List A→List A
 | []=>[]
 |x::r=>x.pk ρ::pkL ρ r
end
theorem Nw {ρ:Nat→Option Nat}:∀{l:List A} {j:Nat} {x:A},(pkL ρ l)[j]?=some x→∃y,l[j]?=some y∧x=y.pk ρ
 | [],j,x,h=>by unfold pkL at h;cases j<;>cases h
 |y::r,0,x,h=>by unfold pkL at h;cases h;exact⟨y,rfl,rfl⟩
 |y::r,j+1,x,h=>by unfold pkL at h;exact Nw (l:=r) h
theorem Lx {ρ:Nat→Option Nat}:∀l:List A,(pkL ρ l).length=l.length
 | []=>by unfold pkL;rfl
 |y::r=>by unfold pkL;rw[List.length_cons,List.length_cons,Lx r]
theorem Bga {ρ:Nat→Option Nat} {x:A} (h:JN (x.pk ρ)=false):JN x=false:=by
 cases x<;>first|rfl|(unfold A.pk at h;exact h)
theorem A07 (ρ:Nat→Option Nat) (c:TC) (d:U c):∀x∈enc c d,x.pk ρ=x:=fun x hx=>by
 have:=QO c d x hx
 cases x<;>first|(unfold A.pk;rfl)|exact this.elim
def Pk (ρ:Nat→Option Nat) (N:Nm) (nx:Nat) (N':Nm) (nx':Nat):Prop:=∀i j,i <nx→ρ i=some j→j <nx'∧N'.b j=N.b i∧N'.q j=N.q i
section
variable {F:Nat→Prop} {N N':Nm} {nx nx':Nat} {R:World} {ρ:Nat→Option Nat}
theorem Hv.pk (st:Pk ρ N nx N' nx') {x:A} {y:Value} (h:Hv F N nx R x y):Hv F N' nx' R (x.pk ρ) y:=by
 induction h with
 |v x=>unfold A.pk;exact .v x
 | @sl c l a cap ad h1 h2 h3 h4 ih=>
  unfold A.pk
  refine .sl ad h1 h2 h3 (fun i d j x y hd hx hy=>?_)
  have:=ih i d j x y hd hx hy
  rwa[A07 ρ c d x (List.mem_of_getElem? hx)] at this
 | @ref l ad h1 h2 h3 ih=>
  unfold A.pk
  refine .ref ad h1 (fun j x hx=>?_) (fun j x y hx hy=>?_)
  ·obtain⟨z,hz,rfl⟩:=Nw hx;exact h2 j z hz
  ·obtain⟨z,hz,rfl⟩:=Nw hx;exact ih j z y hz hy
 | own h=>
  unfold A.pk
  split
  ·rename_i j hj
   obtain⟨h1,h2,_⟩:=st _ _ h hj
   rw[←h2];exact .own h1
  ·exact .dead _
 | ownx h=>
  unfold A.pk
  split
  ·rename_i j hj
   obtain⟨h1,h2,_⟩:=st _ _ h hj
   rw[←h2];exact .ownx h1
  ·exact .dead _
 | sq h=>
  unfold A.pk
  split
  ·rename_i j hj
   obtain⟨h1,_,h2⟩:=st _ _ h hj
   rw[←h2];exact .sq h1
  ·exact .dead _
 | vw h h1 h2 h3=>
  unfold A.pk
  split
  ·rename_i j hj
   obtain⟨k1,_,k2⟩:=st _ _ h hj
   exact .vw k1 h1 h2 (fun hn=>by rw[k2];exact h3 hn)
  ·exact .dead _
 | el h=>
  unfold A.pk
  split
  ·rename_i j hj
   obtain⟨h1,_,h2⟩:=st _ _ h hj
   rw[←h2];exact .el h1
  ·exact .dead _
 | dq h=>
  unfold A.pk
  split
  ·rename_i j hj
   obtain⟨h1,_,h2⟩:=st _ _ h hj
   rw[←h2];exact .dq h1
  ·exact .dead _
 | iv h=>
  unfold A.pk
  split
  ·rename_i j hj
   obtain⟨h1,_,h2⟩:=st _ _ h hj
   rw[←h2];exact .iv h1
  ·exact .dead _
 | de h=>
  unfold A.pk
  split
  ·rename_i j hj
   obtain⟨h1,_,h2⟩:=st _ _ h hj
   rw[←h2];exact .de h1
  ·exact .dead _
 | ie h=>
  unfold A.pk
  split
  ·rename_i j hj
   obtain⟨h1,_,h2⟩:=st _ _ h hj
   rw[←h2];exact .ie h1
  ·exact .dead _
 | mp h=>
  unfold A.pk
  split
  ·rename_i j hj
   obtain⟨h1,h2,_⟩:=st _ _ h hj
   rw[←h2];exact .mp h1
  ·exact .dead _
 |nl a=>unfold A.pk;exact .nl a
 |it q vs y h=>unfold A.pk;exact .it q vs y h
 |fn vs us h1 _ h3 _ ih2 ih4=>
  unfold A.pk
  exact .fn vs us (by rw[Lx];exact h1) (fun j x v hx hv=>by obtain⟨z,hz,rfl⟩:=Nw hx;exact ih2 j z v hz hv) (by rw[Lx];exact h3) (fun j x v hx hv=>by obtain⟨z,hz,rfl⟩:=Nw hx;exact ih4 j z v hz hv)
 |agg vs h1 _ ih=>unfold A.pk;exact .agg vs (by rw[Lx];exact h1) (fun j x v hx hv=>by obtain⟨z,hz,rfl⟩:=Nw hx;exact ih j z v hz hv)
 |tup vs h1 _ ih=>unfold A.pk;exact .tup vs (by rw[Lx];exact h1) (fun j x v hx hv=>by obtain⟨z,hz,rfl⟩:=Nw hx;exact ih j z v hz hv)
 |dead y=>unfold A.pk;exact .dead y
 |av h1 h2=>unfold A.pk;exact .av h1 h2
 |rv vs h1 _ h3 ih=>
  unfold A.pk
  refine .rv vs (by rw[Lx];exact h1) (fun j x v hx hv=>by obtain⟨z,hz,rfl⟩:=Nw hx;exact ih j z v hz hv) (fun j x v hx hv hi=>?_)
  obtain⟨z,hz,rfl⟩:=Nw hx
  exact h3 j z v hz hv (Bga hi)
 | vd h=>
  unfold A.pk
  split
  ·rename_i j hj
   obtain⟨h1,h2,_⟩:=st _ _ h hj
   rw[←h2];exact .vd h1
  ·exact .dead _
 | vr ad h k1=>
  unfold A.pk
  split
  ·rename_i j hj
   obtain⟨h1,h2,_⟩:=st _ _ h hj
   exact .vr ad h1 fun hm=>by rw[h2];exact k1 hm
  ·exact .dead _
theorem HW.pk (st:Pk ρ N nx N' nx'):∀{xs:List A} {us:List Value},HW F N nx R xs us→HW F N' nx' R (pkL ρ xs) us
 | [],_,h=>by unfold pkL;exact h
 |x::r,_,⟨v,t,h1,h2,h3,h4⟩=>by
  unfold pkL
  exact⟨v,t,h1,h2.pk st,fun hi=>h3 (Bga hi),HW.pk st h4⟩
theorem HL.pk (st:Pk ρ N nx N' nx'):∀{xs:List A} {vs:List Value},HL F N nx R xs vs→HL F N' nx' R (pkL ρ xs) vs
 | [],_,h=>by unfold pkL;exact h
 |x::r,_,⟨v,vs,h1,h2,h3⟩=>by
  unfold pkL
  exact⟨v,vs,h1,h2.pk st,HL.pk st h3⟩
end
def Els.pk (ρ:Nat→Option Nat):Els→Els
 | .lst cs=> .lst (cs.map (pkL ρ))
 | .ty c l=> .ty c l
def Ob.pk (ρ:Nat→Option Nat):Ob→Ob
 | .box e cs=> .box e (pkL ρ cs)
 | .arr e size els=> .arr e size (els.pk ρ)
 | .map k v l=> .map k v l
 | .sit s pos=> .sit s pos
 | .deep e c l=> .deep e c l
 | .rcd e xs=> .rcd e (pkL ρ xs)
 | .abs m c l=> .abs m c l
theorem A14 (ρ:Nat→Option Nat) (c:TC) (d:U c):pkL ρ (enc c d)=enc c d:=by
 have:∀l:List A,(∀x∈l,x.pk ρ=x)→pkL ρ l=l:=fun l=>by
  induction l with
  |nil=>intro _;unfold pkL;rfl
  |cons x r ih=>intro h;unfold pkL;rw[h x (List.mem_cons_self ..),ih fun y hy=>h y (List.mem_cons_of_mem _ hy)]
 exact this _ (A07 ρ c d)
theorem Brx (ρ:Nat→Option Nat) (c:TC) (d:U c):(Ai c d).pk ρ=Ai c d:=by
 unfold Ai
 cases c.isAgg with
 |true=>
  show(QA (enc c d)).pk ρ=QA (enc c d)
  unfold QA
  split
  ·unfold A.pk;rfl
  ·unfold A.pk;rw[A14]
 |false=>
  have hp:=A07 ρ c d
  simp only[cond_false]
  generalize enc c d=l at hp⊢
  cases l with
  |nil=>unfold A.pk;rfl
  |cons x r=>exact hp x (List.mem_cons_self ..)
section
variable {F:Nat→Prop} {N N':Nm} {nx nx':Nat} {o o':Objs} {R:World} {ρ:Nat→Option Nat} {i j:Nat} {ob:Ob}
theorem ObR.pk (st:Pk ρ N nx N' nx') (hi:i <nx) (hj:ρ i=some j) (h:ObR F N nx R i ob):ObR F N' nx' R j (ob.pk ρ):=by
 obtain⟨_,sb,sq⟩:=st i j hi hj
 cases ob with
 |box e cs=>
  obtain⟨vs,h1,h2⟩:=h
  exact⟨vs,h1.pk st,by rw[sb];exact h2⟩
 | arr e size els=>
  obtain⟨zs,h1,h2⟩:=h
  cases els with
  |lst cs=>
   have hn:(Els.pk ρ (.lst cs)).n=cs.length:=by simp[Els.pk,Els.n]
   refine⟨zs,by rw[sq,hn];exact h1,fun k hk=>?_⟩
   rw[hn] at hk
   have:=(h2 k hk).pk st
   show HL F N' nx' R (IN (cs.map (pkL ρ)) k) _
   rw[Dm,List.getD_eq_getElem?_getD,List.getElem?_map]
   have h3:(Els.lst cs).nth k=cs.getD k []:=Dm cs k
   rw[h3,List.getD_eq_getElem?_getD] at this
   have hk':cs[k]?=some cs[k]:=List.getElem?_eq_getElem hk
   rw[hk'] at this⊢
   exact this
  |ty c l=>
   refine⟨zs,by rw[sq];exact h1,fun k hk=>?_⟩
   have:=(h2 k hk).pk st
   have e:pkL ρ ((Els.ty c l).nth k)=(Els.ty c l).nth k:=A14 ρ c _
   rw[e] at this
   exact this
 |map k v l=>
  obtain⟨es,cl,h1,h2,h3⟩:=h
  refine⟨es,cl,by rw[sb];exact h1,h2,fun j p e hp he=>⟨(h3 j p e hp he).1,?_⟩⟩
  have:=(h3 j p e hp he).2.pk st
  rwa[Brx] at this
 |sit s pos=>
  show R.heap[N'.b j]?=_
  rw[sb]
  exact h
 | deep e c l=>
  obtain⟨col,c',zs,h1,h2,h3,h4,h5⟩:=h
  have hj':=(st i j hi hj).1
  refine⟨col,c',zs,h1,by rw[sq];exact h2,fun k d hd=>?_,fun k d hd=>?_,by rw[sq];exact h5⟩
  ·have go:∀(cs:List A) (vs:List Value),(∀x∈cs,x.pk ρ=x)→HL F N nx R (Np i k cs) vs→HL F N' nx' R (Np j k cs) vs:=fun cs=>by
    induction cs with
    |nil=>intro vs _ hh;rw[hh.inv0];exact HL.nil
    | cons x r ih=>
     intro vs hc hh
     have hx:=hc x (List.mem_cons_self ..)
     have hr:=fun y hy=>hc y (List.mem_cons_of_mem _ hy)
     cases x
     case sl c2 l2=>
      obtain⟨w,ws,rfl,w1,w2⟩:=hh.inv
      rw[w1.iv_inv.2,←sq]
      exact HL.cons (.iv hj') (ih ws hr w2)
     all_goals
      obtain⟨w,ws,rfl,w1,w2⟩:=hh.inv
      have w3:=w1.pk st
      rw[hx] at w3
      exact HL.cons w3 (ih ws hr w2)
   exact go _ _ (A07 ρ c d) (h3 k d hd)
  ·obtain⟨l',e',us,k1,k2,k3⟩:=h4 k d hd
   refine⟨l',e',us,k1,by rw[sq];exact k2,fun m hm=>?_⟩
   have:=(k3 m hm).pk st
   rwa[A14] at this
 |rcd e xs=>
  obtain⟨us,h1,h2⟩:=h
  exact⟨us,h1.pk st,by rw[sb];exact h2⟩
 |abs m c l=>
  obtain⟨hh,h1,h2⟩:=h
  exact⟨hh,by rw[sq];exact h1,by rw[sq];exact h2⟩
theorem Aa5 (st:Pk ρ N nx N' nx') (hi:i <nx) (hj:ρ i=some j) {g:Nat}:foot N' j (ob.pk ρ) g↔foot N i ob g:=by
 obtain⟨_,sb,sq⟩:=st i j hi hj
 cases ob<;>simp only[foot,Ob.pk,sb,sq]
theorem HRel.pk (h:HRel F N nx o R) (st:Pk ρ N nx N' nx') (ho:∀j ob',Aj j o'=some ob'→∃i ob,ρ i=some j∧Aj i o=some ob∧ob'=ob.pk ρ):HRel F N' nx' o' R∧∀g,Foot N' o' g→Foot N o g:=by
 refine⟨⟨h.flt,fun j ob' hj=>?_,fun j ob' g hj hg=>?_,fun j k x y g hj hk hx hy=>?_,h.gl⟩,fun g ⟨j,ob',hj,hg⟩=>?_⟩
 ·obtain⟨i,ob,h1,h2,rfl⟩:=ho j ob' hj
  obtain⟨h3,h4⟩:=h.ob i ob h2
  exact⟨(st i j h3 h1).1,h4.pk st h3 h1⟩
 ·obtain⟨i,ob,h1,h2,rfl⟩:=ho j ob' hj
  exact h.ff i ob g h2 ((Aa5 st (h.ob i ob h2).1 h1).1 hg)
 ·obtain⟨i,ob,h1,h2,rfl⟩:=ho j x hj
  obtain⟨i',ob',k1,k2,rfl⟩:=ho k y hk
  have:=h.sep i i' ob ob' g h2 k2 ((Aa5 st (h.ob i ob h2).1 h1).1 hx) ((Aa5 st (h.ob i' ob' k2).1 k1).1 hy)
  subst this
  rw[h1] at k1
  exact Option.some.inj k1
 ·obtain⟨i,ob,h1,h2,rfl⟩:=ho j ob' hj
  exact⟨i,ob,h2,(Aa5 st (h.ob i ob h2).1 h1).1 hg⟩
end
abbrev Ib:=List (Nat×Nat)
def fwd:Ib→Nat→Option Nat
 | [],_=>none
 |(k,j)::r,i=>bif Nat.beq k i then some j else fwd r i
def bck:Ib→Nat→Option Nat
 | [],_=>none
 |(k,j)::r,i=>bif Nat.beq j i then some k else bck r i
def Xc (nb:Nat) (L:Ib) (i:Nat):Option Nat:=bif Nat.blt i nb then some i else fwd L i
def Apb (nb:Nat) (L:Ib) (j:Nat):Nat:=bif Nat.blt j nb then j else match bck L j with
 |some k=>k
 |none=>0
def Py (nb nx':Nat):Ib→Bool
 | []=>true
 |(k,j)::r=>Nat.ble nb k&&(Nat.ble nb j&&(Nat.blt j nx'&&(isNone (fwd r k)&&(isNone (bck r j)&&Py nb nx' r))))
theorem YN {o:Option Nat}:isNone o=true↔o=none:=by cases o<;>simp[isNone]
theorem Bf1 {nb nx':Nat}:∀{L:Ib} {i j:Nat},Py nb nx' L=true→fwd L i=some j→bck L j=some i∧nb≤i∧nb≤j∧j <nx'
 | [],i,j,_,h=>by cases h
 | (k,m)::r,i,j,h0,h=>by
  unfold Py at h0
  simp only[Bool.and_eq_true] at h0
  obtain⟨a1,a2,a3,a4,a5,a6⟩:=h0
  unfold fwd at h
  cases hb:Nat.beq k i with
  |true=>
   rw[hb] at h
   cases h
   obtain rfl:=Nat.eq_of_beq_eq_true hb
   refine⟨?_,Nat.le_of_ble_eq_true a1,Nat.le_of_ble_eq_true a2,Nat.le_of_ble_eq_true a3⟩
   unfold bck
   rw[Ma]
   rfl
  | false=>
   rw[hb] at h
   obtain⟨h1,h2⟩:=Bf1 a6 h
   refine⟨?_,h2⟩
   unfold bck
   cases hm:Nat.beq m j with
   |true=>
    obtain rfl:=Nat.eq_of_beq_eq_true hm
    rw[YN.1 a5] at h1
    cases h1
   |false=>exact h1
def nm2 (N:Nm) (nb:Nat) (L:Ib):Nm:=⟨fun j=>N.b (Apb nb L j),fun j=>N.q (Apb nb L j)⟩
theorem Bqm {nb nx':Nat} {L:Ib} (h0:Py nb nx' L=true) {i j:Nat} (h:Xc nb L i=some j):Apb nb L j=i∧(i <nb∧j=i∨nb≤i∧nb≤j∧j <nx'):=by
 unfold Xc at h
 cases hb:Nat.blt i nb with
 |true=>
  rw[hb] at h
  cases h
  refine⟨?_,.inl ⟨Nat.le_of_ble_eq_true hb,rfl⟩⟩
  unfold Apb
  rw[hb]
  rfl
 | false=>
  rw[hb] at h
  obtain⟨h1,h2,h3,h4⟩:=Bf1 h0 h
  refine⟨?_,.inr ⟨h2,h3,h4⟩⟩
  unfold Apb
  have:Nat.blt j nb=false:=by
   cases hj:Nat.blt j nb with
   |false=>rfl
   |true=>exact absurd (Nat.le_of_ble_eq_true hj) (by omega)
  rw[this,h1]
  rfl
theorem pk2 {N:Nm} {nb n nx':Nat} {L:Ib} (h0:Py nb nx' L=true) (hnb:nb≤nx'):Pk (Xc nb L) N n (nm2 N nb L) nx':=fun i j _ hj=>by
 obtain⟨h1,h2⟩:=Bqm h0 hj
 refine⟨?_,by show N.b (Apb nb L j)=_;rw[h1],by show N.q (Apb nb L j)=_;rw[h1]⟩
 rcases h2 with⟨h2,rfl⟩|⟨_,_,h2⟩
 ·omega
 ·exact h2
def A7i (nb:Nat) (L:Ib) (o:Objs):Ib→Objs
 | []=>[]
 |(k,j)::r=>(j,match Aj k o with
  |some ob=>some (ob.pk (Xc nb L))
  |none=>none)::A7i nb L o r
def Ah8 (nb:Nat) (L:Ib) (o:Objs):List Nat→Objs
 | []=>[]
 |k::r=>bif Nat.blt k nb then(k,match Aj k o with
  |some ob=>some (ob.pk (Xc nb L))
  |none=>none)::Ah8 nb L o r else Ah8 nb L o r
theorem Ahz {nb:Nat} {L:Ib} {o:Objs} {j:Nat} {ob':Ob}:∀{r:Ib},Aj j (A7i nb L o r)=some ob'→∃k ob,(k,j)∈r∧Aj k o=some ob∧ob'=ob.pk (Xc nb L)
 | [],h=>by cases h
 | (k,m)::r,h=>by
  unfold A7i at h
  have h':(bif Nat.beq m j then(match Aj k o with|some ob=>some (ob.pk (Xc nb L))|none=>none) else Aj j (A7i nb L o r))=some ob':=h
  cases hb:Nat.beq m j with
  |true=>
   rw[hb] at h'
   obtain rfl:=Nat.eq_of_beq_eq_true hb
   simp only[cond_true] at h'
   split at h'<;>first|(cases h';done)|skip
   rename_i ob hob
   cases h'
   exact⟨k,ob,List.mem_cons_self ..,hob,rfl⟩
  |false=>
   rw[hb] at h'
   obtain⟨k',ob,h1,h2⟩:=Ahz h'
   exact⟨k',ob,List.mem_cons_of_mem _ h1,h2⟩
theorem UP {nb:Nat} {L:Ib} {o:Objs} {j:Nat} {ob':Ob}:∀{r:List Nat},Aj j (Ah8 nb L o r)=some ob'→j <nb∧∃ob,Aj j o=some ob∧ob'=ob.pk (Xc nb L)
 | [],h=>by cases h
 | k::r,h=>by
  unfold Ah8 at h
  cases hk:Nat.blt k nb with
  |false=>rw[hk] at h;exact UP h
  | true=>
   rw[hk] at h
   have h':(bif Nat.beq k j then(match Aj k o with|some ob=>some (ob.pk (Xc nb L))|none=>none) else Aj j (Ah8 nb L o r))=some ob':=h
   cases hb:Nat.beq k j with
   |true=>
    rw[hb] at h'
    obtain rfl:=Nat.eq_of_beq_eq_true hb
    simp only[cond_true] at h'
    split at h'<;>first|(cases h';done)|skip
    rename_i ob hob
    cases h'
    exact⟨Nat.le_of_ble_eq_true hk,ob,hob,rfl⟩
   |false=>rw[hb] at h';exact UP h'
theorem UA {nb:Nat} {L:Ib} {o:Objs} {j:Nat} (hj:j <nb):∀{r:List Nat},j∈r→j∈JO (Ah8 nb L o r)
 | [],h=>by cases h
 | k::r,h=>by
  unfold Ah8
  rcases List.mem_cons.1 h with rfl|h
  ·rw[show Nat.blt j nb=true from Nat.ble_eq_true_of_le hj]
   exact List.mem_cons_self ..
  ·cases Nat.blt k nb with
   |true=>exact List.mem_cons_of_mem _ (UA hj h)
   |false=>exact UA hj h
theorem Mh {i:Nat} {ob:Ob} {A B:Objs} (h:Aj i (A++B)=some ob):(i∈JO A∧Aj i A=some ob)∨(i∉JO A∧Aj i B=some ob):=by
 by_cases hk:i∈JO A
 ·rw[UO hk] at h;exact .inl ⟨hk,h⟩
 ·rw[IY hk] at h;exact .inr ⟨hk,h⟩
theorem Brc {nb nx':Nat}:∀{L:Ib} {k j:Nat},Py nb nx' L=true→(k,j)∈L→Xc nb L k=some j
 | [],k,j,_,h=>by cases h
 | (a,b)::r,k,j,h0,h=>by
  have h00:=h0
  unfold Py at h0
  simp only[Bool.and_eq_true] at h0
  obtain⟨a1,a2,a3,a4,a5,a6⟩:=h0
  have hge:∀{L:Ib} {k j:Nat},Py nb nx' L=true→(k,j)∈L→nb≤k:=fun {L}=>by
   induction L with
   |nil=>intro k j _ h;cases h
   |cons p r ih=>
    intro k j h0 h
    obtain⟨x,y⟩:=p
    unfold Py at h0
    simp only[Bool.and_eq_true] at h0
    rcases List.mem_cons.1 h with e|h
    ·cases e;exact Nat.le_of_ble_eq_true h0.1
    ·exact ih h0.2.2.2.2.2 h
  have hk:Nat.blt k nb=false:=by
   cases hb:Nat.blt k nb with
   |false=>rfl
   |true=>exact absurd (hge h00 h) (by have:=Nat.le_of_ble_eq_true hb;omega)
  have ih:∀{L:Ib} {k j:Nat},Py nb nx' L=true→(k,j)∈L→fwd L k=some j:=fun {L}=>by
   induction L with
   |nil=>intro k j _ h;cases h
   | cons p r ih=>
    intro k j h0 h
    obtain⟨x,y⟩:=p
    unfold Py at h0
    simp only[Bool.and_eq_true] at h0
    obtain⟨_,_,_,b4,_,b6⟩:=h0
    unfold fwd
    rcases List.mem_cons.1 h with e|h
    ·cases e;rw[Ma];rfl
    ·have h1:=ih b6 h
     cases hb:Nat.beq x k with
     |true=>
      obtain rfl:=Nat.eq_of_beq_eq_true hb
      rw[YN.1 b4] at h1
      cases h1
     |false=>exact h1
  unfold Xc
  rw[hk]
  exact ih h00 h
section
variable {F:Nat→Prop} {N:Nm} {nx:Nat} {o:Objs} {R:World} {ρ:Nat→Option Nat}
theorem Afo {xs:List A} (h:∀(j:Nat) (x:A),xs[j]?=some x→x.pk ρ=x):pkL ρ xs=xs:=by
 induction xs with
 |nil=>unfold pkL;rfl
 |cons x r ih=>unfold pkL;rw[h 0 x rfl,ih fun j y hy=>h (j+1) y hy]
theorem Hv.pk_id (hρ:∀k,k <nx→ρ k=some k) {x:A} {y:Value} (h:Hv F N nx R x y):x.pk ρ=x:=by
 induction h with
 |v x=>unfold A.pk;rfl
 |sl=>unfold A.pk;rfl
 | @ref l ad h1 h2 h3 ih=>
  unfold A.pk
  rw[Afo fun j x hx=>by obtain⟨y,hy⟩:=h2 j x hx;exact ih j x y hx hy]
 |own h=>unfold A.pk;rw[hρ _ h]
 |ownx h=>unfold A.pk;rw[hρ _ h]
 |sq h=>unfold A.pk;rw[hρ _ h]
 |vw h=>unfold A.pk;rw[hρ _ h]
 |el h=>unfold A.pk;rw[hρ _ h]
 |dq h=>unfold A.pk;rw[hρ _ h]
 |iv h=>unfold A.pk;rw[hρ _ h]
 |de h=>unfold A.pk;rw[hρ _ h]
 |ie h=>unfold A.pk;rw[hρ _ h]
 |mp h=>unfold A.pk;rw[hρ _ h]
 |nl a=>unfold A.pk;rfl
 |it q vs y h=>unfold A.pk;rfl
 | @fn f first caps vs us h1 _ h3 _ ih2 ih4=>
  unfold A.pk
  have e1:pkL ρ first=first:=Afo fun j x hx=>by
   have hj:j <vs.length:=by rw[h1];exact(List.getElem?_eq_some_iff.1 hx).1
   exact ih2 j x _ hx (List.getElem?_eq_getElem hj)
  have e2:pkL ρ caps=caps:=Afo fun j x hx=>by
   have hj:j <us.length:=by rw[h3];exact(List.getElem?_eq_some_iff.1 hx).1
   exact ih4 j x _ hx (List.getElem?_eq_getElem hj)
  rw[e1,e2]
 | @agg xs vs h1 _ ih=>
  unfold A.pk
  rw[Afo fun j x hx=>by
   have hj:j <vs.length:=by rw[h1];exact(List.getElem?_eq_some_iff.1 hx).1
   exact ih j x _ hx (List.getElem?_eq_getElem hj)]
 | @tup xs vs h1 _ ih=>
  unfold A.pk
  rw[Afo fun j x hx=>by
   have hj:j <vs.length:=by rw[h1];exact(List.getElem?_eq_some_iff.1 hx).1
   exact ih j x _ hx (List.getElem?_eq_getElem hj)]
 |dead y=>unfold A.pk;rfl
 |av h1 h2=>unfold A.pk;rfl
 | @rv xs vs h1 _ _ ih=>
  unfold A.pk
  rw[Afo fun j x hx=>by
   have hj:j <vs.length:=by rw[h1];exact(List.getElem?_eq_some_iff.1 hx).1
   exact ih j x _ hx (List.getElem?_eq_getElem hj)]
 |vr ad h _=>unfold A.pk;rw[hρ _ h]
 |vd h=>unfold A.pk;rw[hρ _ h]
theorem HW.pk_id (hρ:∀k,k <nx→ρ k=some k):∀{xs:List A} {us:List Value},HW F N nx R xs us→pkL ρ xs=xs
 | [],_,_=>by unfold pkL;rfl
 |x::r,_,⟨v,t,_,h2,_,h3⟩=>by unfold pkL;rw[h2.pk_id hρ,HW.pk_id hρ h3]
theorem HL.pk_id (hρ:∀k,k <nx→ρ k=some k):∀{xs:List A} {vs:List Value},HL F N nx R xs vs→pkL ρ xs=xs
 | [],_,_=>by unfold pkL;rfl
 |x::r,_,⟨v,vs,_,h2,h3⟩=>by unfold pkL;rw[h2.pk_id hρ,HL.pk_id hρ h3]
theorem HRel.pk_id (h:HRel F N nx o R) (hρ:∀k,k <nx→ρ k=some k) {i:Nat} {ob:Ob} (hi:Aj i o=some ob):ob.pk ρ=ob:=by
 obtain⟨_,h2⟩:=h.ob i ob hi
 cases ob with
 |box e cs=>
  obtain⟨vs,h1,_⟩:=h2
  show Ob.box e (pkL ρ cs)=_
  rw[h1.pk_id hρ]
 |deep e c l=>rfl
 | arr e size els=>
  cases els with
  |ty c l=>rfl
  | lst cs=>
   obtain⟨zs,_,h3⟩:=h2
   show Ob.arr e size (.lst (cs.map (pkL ρ)))=_
   congr 2
   apply List.ext_getElem?
   intro k
   rw[List.getElem?_map]
   cases hk:cs[k]? with
   |none=>rfl
   | some c=>
    have hk':k <cs.length:=(List.getElem?_eq_some_iff.1 hk).1
    have:=(h3 k hk').pk_id hρ
    have e:(Els.lst cs).nth k=c:=by
     show IN cs k=c
     rw[Dm,List.getD_eq_getElem?_getD,hk]
     rfl
    rw[e] at this
    exact congrArg some this
 |map k v l=>rfl
 |sit s pos=>rfl
 |rcd e xs=>
  obtain⟨us,h1,_⟩:=h2
  show Ob.rcd e (pkL ρ xs)=_
  rw[h1.pk_id hρ]
 |abs m c l=>rfl
end
def P5 (nb:Nat) (L:Ib) (o ob:Objs):Objs:=A7i nb L o L++(Ah8 nb L o (Afh o ob.length)++ob)
theorem Biq {F:Nat→Prop} {N:Nm} {nb n nx':Nat} {o ob d:Objs} {R:World} {L:Ib} (h:HRel F N n o R) (h0:Py nb nx' L=true) (hnb:nb≤nx') (hd:o=d++ob) {F0:Nat→Prop} {N0:Nm} {R0:World} (hb:HRel F0 N0 nb ob R0):
  HRel F (nm2 N nb L) nx' (P5 nb L o ob) R∧∀g,Foot (nm2 N nb L) (P5 nb L o ob) g→Foot N o g:=by
 have small:∀k,k <nb→Xc nb L k=some k:=fun k hk=>by unfold Xc;rw[show Nat.blt k nb=true from Nat.ble_eq_true_of_le hk];rfl
 refine h.pk (pk2 h0 hnb) fun j ob' hj=>?_
 unfold P5 at hj
 rcases Mh hj with⟨_,h1⟩|⟨_,h1⟩
 ·obtain⟨k,x,h2,h3,h4⟩:=Ahz h1
  exact⟨k,x,Brc h0 h2,h3,h4⟩
 ·rcases Mh h1 with⟨_,h2⟩|⟨h2,h3⟩
  ·obtain⟨h3,x,h4,h5⟩:=UP h2
   exact⟨j,x,small j h3,h4,h5⟩
  ·have h4:=(hb.ob j ob' h3).1
   refine⟨j,ob',small j h4,?_,(hb.pk_id small h3).symm⟩
   subst hd
   rw[YP fun hm=>h2 (UA h4 hm)]
   exact h3
end Go.Proofs.YtifkbgkbajncjaaGreatDoor
namespace Go.Proofs.YtifkbgkbajncjaaGreatDoor
open Go.RowKit
def Buy (E:Env) (s:St):ResultVar→R2
 | .tmp t=>match s.ev [] (.tmp t) with
  |some x=>some (x,[])
  |none=>none
 | .cell a t=>Apn E s [] t (.tmp a)
def Bnm (E:Env) (s:St):List ResultVar→Option (List A×List Prop)
 | []=>some ([],[])
 | r::rs=>match Buy E s r with
  |some (v,ps)=>match Bnm E s rs with
   |some (vs,qs)=>some (v::vs,ps++qs)
   |none=>none
  |none=>none
def Bee:List A→A
 | [x]=>x
 |l=>match A25 l with
  |some vs=> .v (.tuple vs.toArray)
  |none=> .tup l
def Bod:List Value→Value
 | [v]=>v
 |l=> .tuple l.toArray
def Bux (tmps:Array Value):ResultVar→Sem Value
 | .tmp t=>pure (tmps.getD t undef)
 | .cell a t=>do loadVar t (←asAddr (tmps.getD a undef))
theorem Bd1 (fn:Func) (tmps:Array Value):results fn tmps=(do let vs ←fn.results.mapM (Bux tmps);pure (if h:vs.size=1 then vs[0] else .tuple vs)):=rfl
section
variable {E:Env} {Z:Base} {F:Nat→Prop} {N:Nm} {s:St} {a:Act} {R:World}
theorem Bru {nx:Nat} {l:List A} {vs:List Value} (h:HL F N nx R l vs):Hv F N nx R (Bee l) (Bod vs):=by
 match l,h with
 | [],h=>
  rw[h.inv0]
  exact .v _
 | [x],h=>
  obtain⟨v,us,rfl,h2,h3⟩:=h.inv
  rw[h3.inv0]
  exact h2
 | x::y::r,h=>
  obtain⟨v,us,rfl,h2,h3⟩:=h.inv
  obtain⟨w,ws,rfl,h4,h5⟩:=h3.inv
  show Hv F N nx R (match A25 (x::y::r) with|some vs=> .v (.tuple vs.toArray)|none=> .tup (x::y::r)) (.tuple (v::w::ws).toArray)
  split
  ·rename_i us hu
   rw[A26 hu h]
   exact .v _
  ·exact Hv.of_tup h
theorem Brd (h:Rel Z F N s a R) {r:ResultVar} {x:A} {ps:List Prop} (he:Buy E s r=some (x,ps)) (hp:∀p∈ps,p):∃v,Hv F N s.nx R x v∧(Bux a.tmps r).run E.P R=.ok v R:=by
 cases r with
 |tmp t=>
  unfold Buy at he
  simp only at he
  split at he<;>first|(cases he;done)|skip
  rename_i z hz
  cases he
  exact⟨_,(AK h (Ht _) hz).2,rfl⟩
 |cell c t=>
  obtain⟨v,h1,h2⟩:=Bgh h (Ht _) he hp
  refine⟨v,h1,?_⟩
  have h3:(Instr.loadAt t (a.tmps.getD c undef)).run E.P R=.ok v R:=h2 R (Below.refl _ _)
  show(do loadVar t (←asAddr (a.tmps.getD c undef)):Sem Value).run E.P R=_
  unfold Instr.loadAt at h3
  generalize a.tmps.getD c undef=p at*
  cases p<;>first|(simp[Instr.sureAddr] at h3;done)|skip
  rename_i ad
  cases ad with
  |none=>simp[Instr.sureAddr] at h3
  |some ad=>simpa[Instr.sureAddr,asAddr] using h3
theorem Bg6 (h:Rel Z F N s a R):∀{l:List ResultVar} {xs:List A} {ps:List Prop},Bnm E s l=some (xs,ps)→(∀p∈ps,p)→∃vs,HL F N s.nx R xs vs∧(l.mapM (Bux a.tmps)).run E.P R=.ok vs R
 | [],xs,ps,he,_=>by cases he;exact⟨[],HL.nil,rfl⟩
 |r::rs,xs,ps,he,hp=>by
  unfold Bnm at he
  split at he<;>first|(cases he;done)|skip
  rename_i x ps1 h1
  split at he<;>first|(cases he;done)|skip
  rename_i xs1 qs h2
  cases he
  obtain⟨v,g1,g2⟩:=Brd h h1 fun p hm=>hp p (List.mem_append.2 (.inl hm))
  obtain⟨vs,g3,g4⟩:=Bg6 h h2 fun p hm=>hp p (List.mem_append.2 (.inr hm))
  refine⟨v::vs,HL.cons g1 g3,?_⟩
  rw[List.mapM_cons]
  simp only[Sem.run_bind,g2,Result.andThen_ok,g4,Sem.run_pure]
theorem Bd2 (h:Rel Z F N s a R) {fn:Func} {xs:List A} {ps:List Prop} (he:Bnm E s fn.results.toList=some (xs,ps)) (hp:∀p∈ps,p):∃v,Hv F N s.nx R (Bee xs) v∧(results fn a.tmps).run E.P R=.ok v R:=by
 obtain⟨vs,h1,h2⟩:=Bg6 h he hp
 refine⟨Bod vs,Bru h1,?_⟩
 rw[Bd1,Array.mapM_eq_mapM_toList]
 simp only[Sem.run_bind,Sem.run_map,h2,Result.andThen_ok,Sem.run_pure]
 congr 1
 match vs with
 | []=>simp[Bod]
 | [x]=>simp[Bod]
 |x::y::r=>simp[Bod]
end
def RH (nb:Nat) (o:Objs):Nat→A→List Nat
 |0,_=>[]
 | d+1,x=>match x with
  | .sq i| .vw i _ _ _ _| .el i _ _ _| .own i _| .ownx i _ _ _| .mp i| .dq i| .iv i _| .de i _ _ _| .ie i _ _ _ _| .vr i _ _ _| .vd i _ _ _=>bif Nat.blt i nb then[] else i::(match Aj i o with
   |some (.box _ cs)=>cs.flatMap (RH nb o d)
   |some (.rcd _ cs)=>cs.flatMap (RH nb o d)
   |some (.arr _ _ (.lst cs))=>cs.flatMap fun l=>l.flatMap (RH nb o d)
   |_=>[])
  | .agg xs=>xs.flatMap (RH nb o d)
  | .rv xs=>xs.flatMap (RH nb o d)
  | .tup xs=>xs.flatMap (RH nb o d)
  | .fn _ xs ys=>xs.flatMap (RH nb o d)++ys.flatMap (RH nb o d)
  |_=>[]
def Bnl (nb:Nat) (o:Objs):List Nat→List Nat
 | []=>[]
 |k::r=>(bif Nat.blt k nb then(match Aj k o with
  |some (.box _ cs)=>cs.flatMap (RH nb o 4)
  |some (.rcd _ cs)=>cs.flatMap (RH nb o 4)
  |some (.arr _ _ (.lst cs))=>cs.flatMap fun l=>l.flatMap (RH nb o 4)
  |_=>[]) else[])++Bnl nb o r
def Bgn:List Nat→Nat→Ib→Ib
 | [],_,L=>L
 |k::r,j,L=>match fwd L k with
  |some _=>Bgn r j L
  |none=>Bgn r (j+1) (L++[(k,j)])
def Anr:AR→Bool
 | []=>true
 |(none,_,_)::r=>Anr r
 |_=>false
theorem Sv:∀{o:AR} {i:Nat},Anr o=true→AE (some i) o=none
 | [],_,_=>rfl
 |(none,_,_)::r,i,h=>Sv (o:=r) h
 |(some _,_,_)::_,_,h=>by cases h
def Buc (W:List Nat) (s0:St) (r:Res):Option St:=bif Anr r.outs then(match AE none r.outs,r.nrm with
 |some (_,s),none=>some s
 |none,some s=>some s
 |some (c,s),some s'=>some (IZ (A8 c) W s0 s s')
 |none,none=>none) else none
def Buh (k:Nat) (s0 s:St) (x:A) (ps:List Prop) (L:Ib):Option A6:=
 bif Py s0.nx (s0.nx+L.length) L then some (k,x.pk (Xc s0.nx L),s0.nx+L.length,P5 s0.nx L s.o s0.o,ps) else none
def Bui (E:Env) (fn:Func) (k:Nat) (W:List Nat) (s0:St) (r:Res):Option A6:=match Buc W s0 r with
 |some s=>match Bnm E s fn.results.toList with
  |some (l,ps)=>Buh k s0 s (Bee l) (r.ps++ps) (Bgn (RH s0.nx s.o 6 (Bee l)++Bnl s0.nx s.o (Afh s.o s0.o.length)) s0.nx [])
  |none=>none
 |none=>none
def Anu:Nat→List A→GP
 |_,[]=>[]
 |k,x::r=>(k,x)::Anu (k+1) r
def Pl (n:Nat) (args:List A) (nx:Nat) (o:Objs):St:=⟨n,nx,Anu 0 args,o⟩
def Bmg:Objs→Bool
 | []=>true
 |_=>false
def Hz (E:Env) (u:Nat) (f:FuncId) (args:List A) (nx:Nat) (o:Objs):Option A6:=match E.P.funcs[f]? with
 |some fn=>match fn.body with
  |some c=>bif Nat.ble args.length fn.ntmps then Bui E fn (bif Bmg o then 1 else 2) (Qx c) (Pl fn.ntmps args nx o) (evC E u c (Pl fn.ntmps args nx o)) else none
  |none=>none
 |none=>none
theorem Apr {u:Nat} {x:A}:∀{l:List A} {k:Nat},CD u (Anu k l)=some x→∃i,u=k+i∧l[i]?=some x
 | [],_,h=>by cases h
 | y::r,k,h=>by
  have h':(bif Nat.beq k u then some y else CD u (Anu (k+1) r))=some x:=h
  cases hb:Nat.beq k u with
  |true=>
   rw[hb] at h'
   exact⟨0,(Nat.eq_of_beq_eq_true hb).symm,h'⟩
  |false=>
   rw[hb] at h'
   obtain⟨i,h1,h2⟩:=Apr h'
   exact⟨i+1,by omega,h2⟩
theorem Bme {n nx:Nat} {args:List A} {o:Objs} {vs:List Value} {F:Nat→Prop} {N:Nm} {R:World} (hl:args.length≤n) (hh:HRel F N nx o R) (ha:HL F N nx R args vs):
  Rel ⟨F,N,nx,o,R,AW {tmps:=vs.toArray++Array.replicate (n - vs.toArray.size) undef,defers:=[]},fun _=>True⟩ F N (Pl n args nx o) {tmps:=vs.toArray++Array.replicate (n - vs.toArray.size) undef,defers:=[]} R:=by
 have hlen:=ha.length
 refine⟨rfl,?_,fun u x hu=>?_,hh,.refl,fun _ _=>rfl⟩
 ·show(vs.toArray++Array.replicate (n - vs.toArray.size) undef).size=n
  simp
  omega
 ·obtain⟨i,h1,h2⟩:=Apr hu
  obtain rfl:u=i:=by omega
  obtain⟨v,h3,h4⟩:=ha.get h2
  have hu':u <vs.length:=(List.getElem?_eq_some_iff.1 h3).1
  have:AW {tmps:=vs.toArray++Array.replicate (n - vs.toArray.size) undef,defers:=[]} u=v:=by
   unfold AW
   simp only[Array.getD_eq_getD_getElem?]
   rw[Array.getElem?_append_left (by simpa using hu'),List.getElem?_toArray,h3]
   rfl
  rw[this]
  exact(Ac h4.isPlain).2 h4
section
variable {E:Env}
theorem Bp7 {Z:Base} {F:Nat→Prop} {N:Nm} {a0:Act} {R0:World} {W:List Nat} {s0:St} (h0:Rel Z F N s0 a0 R0) {r:Res} (hw:Wf s0 r) {s:St} (he:Buc W s0 r=some s) {e:Exit} {x:St} {a:Act} {R:World} (ho:Oc r e x) (hx:At (KP F N s0 a0 R0 W) a R x):
  (e=.ret∨e=.normal)∧At (KP F N s0 a0 R0 W) a R s∧Sub s0 s:=by
 unfold Buc at he
 cases hr:Anr r.outs with
 |false=>rw[hr] at he;cases he
 | true=>
  rw[hr] at he
  simp only[cond_true] at he
  split at he<;>first|(cases he;done)|skip
  ·rename_i c s' hg hn
   cases he
   rcases ho with⟨t,c',rfl,h1,h2,h3⟩|⟨rfl,h1,h2⟩
   ·cases t with
    |none=>rw[hg] at h1;cases h1;exact⟨.inl rfl,hx,hw.outs _ _ _ hg⟩
    |some i=>rw[Sv hr] at h1;cases h1
   ·rw[hn] at h1;cases h1
  ·rename_i hg hn
   cases he
   rcases ho with⟨t,c',rfl,h1,h2,h3⟩|⟨rfl,h1,h2⟩
   ·cases t with
    |none=>rw[hg] at h1;cases h1
    |some i=>rw[Sv hr] at h1;cases h1
   ·rw[hn] at h1;cases h1;exact⟨.inr rfl,hx,hw.nrm _ hn⟩
  ·rename_i c s1 s2 hg hn
   cases he
   rcases ho with⟨t,c',rfl,h1,h2,h3⟩|⟨rfl,h1,h2⟩
   ·cases t with
    |none=>
     rw[hg] at h1;cases h1
     exact⟨.inl rfl,PT (g:=A8 c) h0 (hw.outs _ _ _ hg) (hw.nrm _ hn) (by rw[h2];rfl) _ _ hx,Sub.merge _ _ _ _ _⟩
    |some i=>rw[Sv hr] at h1;cases h1
   ·rw[hn] at h1
    cases h1
    exact⟨.inr rfl,PT (g:=A8 c) h0 (hw.outs _ _ _ hg) (hw.nrm _ hn) (by rw[h2 _ _ _ hg];rfl) _ _ hx,Sub.merge _ _ _ _ _⟩
theorem AB (ok:RV E) {u:Nat} {f:FuncId} {args:List A} {nx:Nat} {o:Objs} {k nx':Nat} {x:A} {o':Objs} {ps:List Prop} (he:Hz E u f args nx o=some (k,x,nx',o',ps)) (hp:∀p∈ps,p):
  CallOk E.P f args nx o k x nx' o':=by
 unfold Hz at he
 split at he<;>first|(cases he;done)|skip
 rename_i fn hf
 split at he<;>first|(cases he;done)|skip
 rename_i c hc
 cases hl:Nat.ble args.length fn.ntmps with
 |false=>rw[hl] at he;cases he
 | true=>
  rw[hl] at he
  simp only[cond_true] at he
  have hle:=Nat.le_of_ble_eq_true hl
  generalize hk0:(bif Bmg o then 1 else 2)=k0 at he
  generalize hr:evC E u c (Pl fn.ntmps args nx o)=r at he
  unfold Bui at he
  split at he<;>first|(cases he;done)|skip
  rename_i s hs
  split at he<;>first|(cases he;done)|skip
  rename_i l qs hres
  generalize Bgn (RH (Pl fn.ntmps args nx o).nx s.o 6 (Bee l)++Bnl (Pl fn.ntmps args nx o).nx s.o (Afh s.o (Pl fn.ntmps args nx o).o.length)) (Pl fn.ntmps args nx o).nx []=L at he
  unfold Buh at he
  cases hok:Py (Pl fn.ntmps args nx o).nx ((Pl fn.ntmps args nx o).nx+L.length) L with
  |false=>rw[hok] at he;cases he
  | true=>
   rw[hok] at he
   cases he
   intro F N R vs hh ha
   ·have h0:=Bme hle hh ha
    have hlen:=ha.length
    refine calls_of_wp hf hc ?_
    have hwf:=Fs ok (u:=u) 0 c false (Pl fn.ntmps args nx o)
    have hr':Qz E u 0 c false (Pl fn.ntmps args nx o)=r:=hr
    rw[hr'] at hwf
    have key:=IP ok (u:=u) 0 c false (KP F N (Pl fn.ntmps args nx o) {tmps:=vs.toArray++Array.replicate (fn.ntmps - vs.toArray.size) undef,defers:=[]} R (Qx c)) (Pl fn.ntmps args nx o) {tmps:=vs.toArray++Array.replicate (fn.ntmps - vs.toArray.size) undef,defers:=[]} R
     (bodyPost E.P fn fun e R'=>∃y F' N',e=.returned y∧HRel F' N' (nx+L.length) (P5 nx L s.o o) R'∧Step F N nx o R F' N' (nx+L.length) (P5 nx L s.o o) R'∧Hv F' N' (nx+L.length) R' ((Bee l).pk (Xc nx L)) y∧(k≤1→Below R.heap.size R R')) ⟨F,N,h0.start _⟩ (fun u hu=>hu) (by rw[hr'];exact fun p hm=>hp p (List.mem_append.2 (.inl hm)))
    refine key fun e z a' R' ho hz=>?_
    rw[hr'] at ho
    obtain⟨h1,⟨F',N',h2⟩,h3⟩:=Bp7 h0 hwf hs ho hz
    obtain⟨y,g1,g2⟩:=Bd2 h2 hres fun p hm=>hp p (List.mem_append.2 (.inr hm))
    obtain⟨d,hd⟩:=h3.seq
    have hd':s.o=d++o:=hd
    obtain⟨q1,q2⟩:=Biq (nb:=nx) (nx':=nx+L.length) (L:=L) h2.hp hok (Nat.le_add_right _ _) hd' hh
    have hst:Step F N nx o R F' N' s.nx s.o R':=h2.st
    have small:∀k,k <nx→Apb nx L k=k:=fun k hk=>by unfold Apb;rw[show Nat.blt k nx=true from Nat.ble_eq_true_of_le hk];rfl
    have hst2:Step F N nx o R F' (nm2 N' nx L) (nx+L.length) (P5 nx L s.o o) R':=⟨Nat.le_add_right _ _,fun i hi=>by show N'.b (Apb nx L i)=_;rw[small i hi];exact hst.b i hi,fun i hi=>by show N'.q (Apb nx L i)=_;rw[small i hi];exact hst.q i hi,hst.f,hst.fnew,fun g hg=>hst.foot g (q2 g hg),hst.os,hst.tape,hst.output,hst.size,hst.keep⟩
    have post:a'.defers=[]∧∃v,(results fn a'.tmps).run E.P R'=.ok v R'∧∃y F' N',Ending.returned v=.returned y∧HRel F' N' (nx+L.length) (P5 nx L s.o o) R'∧Step F N nx o R F' N' (nx+L.length) (P5 nx L s.o o) R'∧Hv F' N' (nx+L.length) R' ((Bee l).pk (Xc nx L)) y∧(k≤1→Below R.heap.size R R'):=by
     refine⟨h2.defers,y,g2,y,F',nm2 N' nx L,rfl,q1,hst2,g1.pk (pk2 hok (Nat.le_add_right _ _)),fun hk=>?_⟩
     cases o with
     |nil=>exact hst.below
     |cons p r=>rw[←hk0] at hk;cases hk with|step hk=>cases hk
    rcases h1 with rfl|rfl
    ·exact post
    ·exact post
theorem Bqg {u:Nat} {f:FuncId} {args:List A} {nx:Nat} {o:Objs} {k nx':Nat} {x:A} {o':Objs} {ps:List Prop} (he:Hz E u f args nx o=some (k,x,nx',o',ps)):∃d,o'=d++o:=by
 unfold Hz at he
 split at he<;>first|(cases he;done)|skip
 split at he<;>first|(cases he;done)|skip
 rename_i c hc
 replace he:=AU he
 unfold Bui at he
 split at he<;>first|(cases he;done)|skip
 rename_i s hs
 split at he<;>first|(cases he;done)|skip
 unfold Buh at he
 replace he:=AU he
 cases he
 exact⟨_,by unfold P5;rw[←List.append_assoc];rfl⟩
end
def HF (P:Program) (f:FuncId) (g:List A→Nat→Objs→Option A6):Prop:=
 ∀args nx o k x nx' o' ps,g args nx o=some (k,x,nx',o',ps)→((∀p∈ps,p)→CallOk P f args nx o k x nx' o')∧∃d,o'=d++o
def Cr (P:Program) (C:Tab):Prop:=∀f args nx o k x nx' o' ps,C f args nx o=some (k,x,nx',o',ps)→((∀p∈ps,p)→CallOk P f args nx o k x nx' o')∧∃d,o'=d++o
def Bk1 (P:Program) (eq:TypeId→List Value→List Value→Option Bool):Prop:=
 ∀t xs ys b,eq t xs ys=some b→P.eqGuardType P.depth t=false∧∀R,(Op.equalIn 10000 t (.agg xs.toArray) (.agg ys.toArray)).run P R=.ok b R
def Bxi (P:Program) (tc:TypeId→Option TC):Prop:=
 ∀t c,tc t=some c→∃i,P.info? t=some i∧i.size=size c∧0 <size c∧∃z,i.zero=some z∧∀(F:Nat→Prop) (N:Nm) (nx:Nat) (R:World),HL F N nx R (enc c (Ae c)) z.cells.toList
abbrev A0e:=Nat→St→Option (Code×List Prop×AR)
def C0:Tab:=fun _ _ _ _=>none
theorem Bem {P:Program}:Cr P C0:=fun _ _ _ _ _ _ _ _ _ h=>by cases h
def L0:A0e:=fun _ _=>none
def AS (f0:FuncId) (g:List A→Nat→Objs→Option A6) (C:Tab):Tab:=fun f args nx o=>bif Nat.beq f f0 then g args nx o else C f args nx o
theorem An {P:Program} {f0:FuncId} {g:List A→Nat→Objs→Option A6} {C:Tab} (hg:HF P f0 g) (hC:Cr P C):Cr P (AS f0 g C):=fun f args nx o k x nx' o' ps h=>by
 unfold AS at h
 cases hb:Nat.beq f f0 with
 |true=>
  rw[hb] at h
  rw[Nat.eq_of_beq_eq_true hb]
  exact hg args nx o k x nx' o' ps h
 |false=>rw[hb] at h;exact hC f args nx o k x nx' o' ps h
theorem N0 {p:Prop} {ps:List Prop} (h:∀q∈p::ps,q):p:=h _ (List.mem_cons_self ..)
theorem N1 {p:Prop} {ps:List Prop} (h:∀q∈p::ps,q):∀q∈ps,q:=fun q hq=>h q (List.mem_cons_of_mem _ hq)
theorem Af:∀p∈([]:List Prop),p:=fun _ h=>by cases h
theorem Aa {p:Prop} {ps:List Prop} (h:p) (t:∀q∈ps,q):∀q∈p::ps,q:=fun q hq=>by
 rcases List.mem_cons.1 hq with rfl|hq
 ·exact h
 ·exact t q hq
theorem Aag {P:Program} {f:FuncId} {args:List A} {nx k nx':Nat} {x:A} {o o':Objs} (h:CallOk P f args nx [] k x nx' o') (hk:k≤1):CallOk P f args nx o 1 x nx' (o'++o):=fun F N R vs hh ha=>by
 refine(h F N R vs (hh.noObj) ha).mono fun e R' ⟨y,F',N',e1,e2,e3,e4,e5⟩=>?_
 obtain⟨g1,g2⟩:=hh.frame (o1:=[]) (o':=o'++o) (fun i ob hi=>by cases hi) e3 e2 fun i ob hi=>by
  rcases Mh hi with⟨_,h1⟩|⟨_,h1⟩
  ·exact .inl h1
  ·exact .inr ⟨h1,rfl⟩
 exact⟨y,F',N',e1,g1,g2,e4,fun _=>e5 hk⟩
def ZT (nx:Nat):Nat→Option Nat:=fun i=>some (nx+i)
def ZS (nx:Nat):Objs→Objs
 | []=>[]
 |(k,some ob)::r=>(nx+k,some (ob.pk (ZT nx)))::ZS nx r
 |(k,none)::r=>(nx+k,none)::ZS nx r
theorem Ah0 {nx j:Nat} {ob':Ob}:∀{o:Objs},Aj j (ZS nx o)=some ob'→∃i ob,j=nx+i∧Aj i o=some ob∧ob'=ob.pk (ZT nx)
 | [],h=>by cases h
 | (k,x)::r,h=>by
  have step:∀z,(bif Nat.beq (nx+k) j then z else Aj j (ZS nx r))=some ob'→(∀ob,x=some ob→z=some (ob.pk (ZT nx)))→(x=none→z=none)→∃i ob,j=nx+i∧(bif Nat.beq k i then x else Aj i r)=some ob∧ob'=ob.pk (ZT nx):=fun z hz h1 h2=>by
   cases hb:Nat.beq (nx+k) j with
   | true=>
    rw[hb] at hz
    obtain rfl:=Nat.eq_of_beq_eq_true hb
    cases x with
    |none=>rw[h2 rfl] at hz;cases hz
    |some ob=>
     rw[h1 ob rfl] at hz
     cases hz
     exact⟨k,ob,rfl,by rw[Ma];rfl,rfl⟩
   |false=>
    rw[hb] at hz
    obtain⟨i,ob,rfl,h3,h4⟩:=Ah0 hz
    refine⟨i,ob,rfl,?_,h4⟩
    rw[Aoc fun e=>by subst e;simp at hb]
    exact h3
  cases x with
  |some ob=>exact step _ h (fun ob' e=>by cases e;rfl) (fun e=>by cases e)
  |none=>exact step _ h (fun ob' e=>by cases e) (fun _=>rfl)
theorem A0n {P:Program} {f:FuncId} {args:List A} {k m:Nat} {x:A} {os:Objs} (h:CallOk P f args 0 [] k x m os) (hk:k≤1) (hf:freeL args=true) (nx:Nat) (o:Objs):CallOk P f args nx o 1 (x.pk (ZT nx)) (nx+m) (ZS nx os++o):=by
 refine Aag (k:=1) (fun F N R vs hh ha=>?_) (Nat.le_refl _)
 refine(h F N R vs hh.noObj (ha.free hf)).mono fun e R' ⟨y,F',N',e1,e2,e3,e4,e5⟩=>?_
 let N2:Nm:=⟨fun i=>bif Nat.blt i nx then N.b i else N'.b (i - nx),fun i=>bif Nat.blt i nx then N.q i else N'.q (i - nx)⟩
 have hbt:∀i,Nat.blt (nx+i) nx=false:=fun i=>by
  cases hb:Nat.blt (nx+i) nx with
  |false=>rfl
  |true=>exact absurd (Nat.le_of_ble_eq_true hb) (by omega)
 have st:Pk (ZT nx) N' m N2 (nx+m):=fun i j hi hj=>by
  cases hj
  refine⟨by omega,?_,?_⟩
  ·show(bif Nat.blt (nx+i) nx then N.b (nx+i) else N'.b (nx+i - nx))=_
   rw[hbt,Nat.add_sub_cancel_left];rfl
  ·show(bif Nat.blt (nx+i) nx then N.q (nx+i) else N'.q (nx+i - nx))=_
   rw[hbt,Nat.add_sub_cancel_left];rfl
 obtain⟨g1,g2⟩:=e2.pk (o':=ZS nx os) st fun j ob' hj=>by
  obtain⟨i,ob,rfl,h3,h4⟩:=Ah0 hj
  exact⟨i,ob,rfl,h3,h4⟩
 have hlt:∀i,i <nx→Nat.blt i nx=true:=fun i hi=>Nat.ble_eq_true_of_le hi
 refine⟨y,F',N2,e1,g1,⟨Nat.le_add_right _ _,fun i hi=>by show(bif Nat.blt i nx then N.b i else _)=_;rw[hlt i hi];rfl,fun i hi=>by show(bif Nat.blt i nx then N.q i else _)=_;rw[hlt i hi];rfl,e3.f,fun g hg=>?_,fun g hg=>?_,e3.os,e3.tape,e3.output,e3.size,fun g hg hn=>e3.keep g hg fun⟨i,ob,hi,_⟩=>by cases hi⟩,e4.pk st,fun _=>e5 hk⟩
 ·rcases e3.fnew g hg with h1|⟨i,ob,hi,_⟩|h1
  ·exact .inl h1
  ·cases hi
  ·exact .inr (.inr h1)
 ·rcases e3.foot g (g2 g hg) with⟨i,ob,hi,_⟩|h1
  ·cases hi
  ·exact .inr h1
def inl (E:Env) (u:Nat) (f:FuncId):List A→Nat→Objs→Option A6:=fun args nx o=>
 bif freeL args then(match Hz E u f args nx [] with
  |some (k,x,nx',o',ps)=>bif Nat.ble k 1 then some (1,x,nx',o'++o,ps) else none
  |none=>none) else Hz E u f args nx o
theorem Aey {E:Env} (ok:RV E) (u:Nat) (f:FuncId):HF E.P f (inl E u f):=fun args nx o k x nx' o' ps h=>by
 unfold inl at h
 cases hf:freeL args with
 | true=>
  rw[hf] at h
  simp only[cond_true] at h
  split at h<;>first|(cases h;done)|skip
  rename_i k1 x1 nx1 o1 ps1 he
  cases hk:Nat.ble k1 1 with
  |false=>rw[hk] at h;cases h
  |true=>
   rw[hk] at h
   cases h
   exact⟨fun hp=>Aag (AB ok he hp) (Nat.le_of_ble_eq_true hk),_,rfl⟩
 |false=>
  rw[hf] at h
  exact⟨fun hp=>AB ok h hp,Bqg h⟩
end Go.Proofs.YtifkbgkbajncjaaGreatDoor
namespace Go.Proofs.YtifkbgkbajncjaaGreatDoor
open Go.RowKit
inductive Dir where
 |frz (i:Nat)
 |nil (u:Nat) (t:TypeId) (c:TC)
 |nilB (b j:Nat) (t:TypeId) (c:TC)
 |ty (i:Nat) (c:TC)
 |nilF (u:Nat) (c:TC)
 |nilFB (b j:Nat) (c:TC)
 |nilD (u:Nat) (t:TypeId) (c:TC)
 |seg (i:Nat) (p:List (Option (TC×Nat)))
 |avd (u:Nat) (c:TC) (n:Nat)
 |nilR (b j:Nat) (t:TypeId) (c:TC)
 |nilE (b j:Nat) (t:TypeId) (c:TC)
 |arrP (u:Nat)
def Bh3 (c:TC):List A→Option (List (U c)×List Prop)
 | []=>some ([],[])
 |x::r=>match Qy c [x],Bh3 c r with
  |some (d,ps),some (l,qs)=>some (d::l,ps++qs)
  |_,_=>none
theorem Anj {F:Nat→Prop} {N:Nm} {nx:Nat} {R:World} {c:TC} (h1:c.one=true):∀{cs:List A} {vs:List Value} {l:List (U c)} {ps:List Prop},HL F N nx R cs vs→Bh3 c cs=some (l,ps)→(∀p∈ps,p)→l.length=cs.length∧vs=l.map (sv c)
 | [],vs,l,ps,h,he,_=>by
  cases he
  exact⟨rfl,h.inv0⟩
 |x::r,vs,l,ps,h,he,hp=>by
  obtain⟨y,ys,rfl,g1,g2⟩:=h.inv
  unfold Bh3 at he
  split at he<;>first|(cases he;done)|skip
  rename_i d qs l' qs' hd hl
  cases he
  obtain⟨k1,k2⟩:=Anj h1 g2 hl fun p hm=>hp p (List.mem_append.2 (.inr hm))
  have h5:=YG hd (fun p hm=>hp p (List.mem_append.2 (.inl hm))) _ (HL.cons g1 HL.nil)
  rw[Aen h1] at h5
  obtain⟨v',vs',w1,w2,_⟩:=h5.inv
  cases w1
  refine⟨by rw[List.length_cons,List.length_cons,k1],?_⟩
  rw[List.map_cons,←w2.v_inv,k2]
def At3:List (Option (TC×Nat))→List A→Option (List A×List Prop)
 | [],[]=>some ([],[])
 |none::p,.v x::r=>bif x.oneCell' then(match At3 p r with
  |some (l,ps)=>some (.v x::l,ps)
  |none=>none) else none
 |none::p,.sl c l::r=>match At3 p r with
  |some (xs,ps)=>some (.sl c l::xs,ps)
  |none=>none
 |none::p,.nl::r=>match At3 p r with
  |some (xs,ps)=>some (.nl::xs,ps)
  |none=>none
 |some (c,n)::p,cs=>bif c.one&&Nat.ble n cs.length then(bif Nat.blt 64 n&&Yt c (cs.take n) then(match At3 p (cs.drop n) with
  |some (r,qs)=>some (.av c n (List.replicate n (Ae c))::r,qs)
  |none=>none) else(match Bh3 c (cs.take n),At3 p (cs.drop n) with
  |some (l,ps),some (r,qs)=>some (.av c n l::r,ps++qs)
  |_,_=>none)) else none
 |_,_=>none
theorem WO {F:Nat→Prop} {N:Nm} {nx:Nat} {R:World}:∀{p:List (Option (TC×Nat))} {cs:List A} {vs:List Value} {xs:List A} {ps:List Prop},HL F N nx R cs vs→At3 p cs=some (xs,ps)→(∀p∈ps,p)→HW F N nx R xs vs
 | [],cs,vs,xs,ps,h,he,_=>by
  cases cs with
  |nil=>cases he;exact h.inv0
  |cons x r=>cases he
 | none::p,cs,vs,xs,ps,h,he,hp=>by
  cases cs with
  |nil=>cases he
  | cons x r=>
   obtain⟨y,ys,rfl,g1,g2⟩:=h.inv
   cases x<;>first|(cases he;done)|skip
   ·rename_i x
    unfold At3 at he
    cases ho:x.oneCell' with
    |false=>rw[ho] at he;cases he
    |true=>
     rw[ho,cond_true] at he
     split at he<;>first|(cases he;done)|skip
     rename_i l qs hl
     cases he
     have e:=g1.v_inv
     subst e
     exact⟨y,ys,by rw[Hj ho];rfl,g1,fun _=>ho,WO g2 hl hp⟩
   ·unfold At3 at he
    split at he<;>first|(cases he;done)|skip
    rename_i l qs hl
    cases he
    obtain⟨a,cap,e,_⟩:=g1.sl_inv
    have ho:y.oneCell'=true:=by rw[e];rfl
    exact⟨y,ys,by rw[Hj ho];rfl,g1,fun _=>ho,WO g2 hl hp⟩
   ·unfold At3 at he
    split at he<;>first|(cases he;done)|skip
    rename_i l qs hl
    cases he
    obtain⟨a,e⟩:=g1.nl_inv
    have ho:y.oneCell'=true:=by rw[e];rfl
    exact⟨y,ys,by rw[Hj ho];rfl,g1,fun _=>ho,WO g2 hl hp⟩
 | some (c,n)::p,cs,vs,xs,ps,h,he,hp=>by
  unfold At3 at he
  cases hb:(c.one&&Nat.ble n cs.length) with
  |false=>rw[hb] at he;cases he
  |true=>
   rw[hb,cond_true] at he
   rw[Bool.and_eq_true] at hb
   have hn:=Nat.le_of_ble_eq_true hb.2
   cases hz:(Nat.blt 64 n&&Yt c (cs.take n)) with
   |true=>
   rw[hz,cond_true] at he
   rw[Bool.and_eq_true] at hz
   replace hz:=hz.2
   split at he<;>first|(cases he;done)|skip
   rename_i r qs hl
   cases he
   have q2:=Aur (h.take n) hz
   rw[List.length_take,Nat.min_eq_left hn] at q2
   exact⟨.agg ((List.replicate n (Ae c)).map (sv c)).toArray,vs.drop n,by rw[show(Value.agg ((List.replicate n (Ae c)).map (sv c)).toArray).cells.toList=(List.replicate n (Ae c)).map (sv c) by simp[Value.cells],←q2,List.take_append_drop],.av hb.1 (by rw[List.length_replicate]),fun e=>(by cases e),WO (h.drop n) hl hp⟩
   |false=>
   rw[hz,cond_false] at he
   split at he<;>first|(cases he;done)|skip
   rename_i l qs r qs' hd hl
   cases he
   obtain⟨q1,q2⟩:=Anj hb.1 (h.take n) hd fun p hm=>hp p (List.mem_append.2 (.inl hm))
   have q3:=WO (h.drop n) hl fun p hm=>hp p (List.mem_append.2 (.inr hm))
   rw[List.length_take,Nat.min_eq_left hn] at q1
   exact⟨.agg (l.map (sv c)).toArray,vs.drop n,by rw[show(Value.agg (l.map (sv c)).toArray).cells.toList=l.map (sv c) by simp[Value.cells],←q2,List.take_append_drop],.av hb.1 q1,fun e=>(by cases e),q3⟩
def Bpq (c:TC) (n:Nat):A→Option (List (U c)×List Prop)
 | .av c' n' l=>match TC.same c' c with
  |some h=>bif Nat.beq n' n then some (Lb h.down l,[]) else none
  |none=>none
 | .v (.agg xs)=>bif c.one then(match Bh3 c (toL xs.toList) with
  |some (l,ps)=>bif Nat.beq xs.size n then some (l,ps) else none
  |none=>none) else none
 | .agg xs=>bif c.one then(match Bh3 c xs with
  |some (l,ps)=>bif Nat.beq xs.length n then some (l,ps) else none
  |none=>none) else none
 |_=>none
theorem Bfh {F:Nat→Prop} {N:Nm} {nx:Nat} {R:World} {c:TC} {n:Nat} {x:A} {l:List (U c)} {ps:List Prop} {v:Value} (he:Bpq c n x=some (l,ps)) (hp:∀p∈ps,p) (h:Hv F N nx R x v):Hv F N nx R (.av c n l) v:=by
 unfold Bpq at he
 split at he<;>first|(cases he;done)|skip
 ·split at he<;>first|(cases he;done)|skip
  rename_i c' n' l' _ h1 _
  obtain⟨h1⟩:=h1
  subst h1
  cases hb:Nat.beq n' n with
  |false=>rw[hb] at he;cases he
  |true=>
   rw[hb] at he
   obtain rfl:=Nat.eq_of_beq_eq_true hb
   cases he
   exact h
 ·rename_i xs
  cases h1:c.one with
  |false=>rw[h1] at he;cases he
  | true=>
   rw[h1,cond_true] at he
   split at he<;>first|(cases he;done)|skip
   rename_i l' ps' hd
   cases hb:Nat.beq xs.size n with
   |false=>rw[hb] at he;cases he
   |true=>
    rw[hb] at he
    cases he
    obtain⟨g1,g2⟩:=Anj h1 (HL.toL (F:=F) (N:=N) (nx:=nx) (R:=R) xs.toList) hd hp
    have hv:=h.v_inv
    subst hv
    have e:(Value.agg xs)=.agg (l.map (sv c)).toArray:=by rw[←g2]
    rw[e]
    refine .av h1 ?_
    rw[g1,←Nat.eq_of_beq_eq_true hb,←HL.length (HL.toL (F:=F) (N:=N) (nx:=nx) (R:=R) xs.toList)]
    simp
 ·rename_i xs
  cases h1:c.one with
  |false=>rw[h1] at he;cases he
  | true=>
   rw[h1,cond_true] at he
   split at he<;>first|(cases he;done)|skip
   rename_i l' ps' hd
   cases hb:Nat.beq xs.length n with
   |false=>rw[hb] at he;cases he
   |true=>
    rw[hb] at he
    cases he
    obtain⟨vs,rfl,h2⟩:=h.agg_inv
    obtain⟨g1,g2⟩:=Anj h1 h2 hd hp
    rw[g2]
    exact .av h1 (g1.trans (Nat.eq_of_beq_eq_true hb))
def Uy:A→Bool
 | .v x=>DC x
 | .nl=>true
 |_=>false
def LL:A→Bool
 | .v x=>DC x
 |_=>false
def Nn (E:Env) (s:St):Dir→Option (St×List Prop)
 | .frz i=>Wt E i s
 | .nil u t c=>match CD u s.t with
  |some x=>bif Uy x then some (⟨s.n,s.nx+1,(u,.sq s.nx)::s.t,(s.nx,some (.arr t (size c) (.ty c [])))::s.o⟩,[]) else none
  |none=>none
 | .nilB b j t c=>match Aj b s.o with
  |some (.box e cs)=>match cs[j]? with
   |some x=>bif LL x then(bif Nat.blt b s.nx then some (⟨s.n,s.nx+1,s.t,(b,some (.box e (cs.set j (.sq s.nx))))::(s.nx,some (.arr t (size c) (.ty c [])))::s.o⟩,[]) else none) else none
   |none=>none
  |_=>none
 | .nilF u c=>match CD u s.t with
  |some x=>bif Uy x then some (⟨s.n,s.nx,(u,.sl c [])::s.t,s.o⟩,[]) else none
  |none=>none
 | .nilFB b j c=>match Aj b s.o with
  |some (.box e cs)=>match cs[j]? with
   |some x=>bif Uy x then some (⟨s.n,s.nx,s.t,(b,some (.box e (cs.set j (.sl c []))))::s.o⟩,[]) else none
   |none=>none
  |_=>none
 | .ty i c=>match Aj i s.o with
  |some (.arr e sz els)=>match Uo c els with
   |some (l,ps)=>some (⟨s.n,s.nx,s.t,(i,some (.arr e sz (.ty c l)))::s.o⟩,ps)
   |none=>none
  |_=>none
 | .nilD u t c=>match CD u s.t,Ue c with
  |some x,some _=>bif LL x then some (⟨s.n,s.nx+1,(u,.dq s.nx)::s.t,(s.nx,some (.deep t c []))::s.o⟩,[]) else none
  |_,_=>none
 | .seg i p=>match Aj i s.o with
  |some (.box e cs)=>match At3 p cs with
   |some (xs,ps)=>some (⟨s.n,s.nx,s.t,(i,some (.rcd e xs))::s.o⟩,ps)
   |none=>none
  |_=>none
 | .avd u c n=>match CD u s.t with
  |some x=>bif x.plain then(match Bpq c n x with
   |some (l,ps)=>some (⟨s.n,s.nx,(u,.av c n l)::s.t,s.o⟩,ps)
   |none=>none) else none
  |none=>none
 | .nilR b j t c=>match Aj b s.o with
  |some (.rcd e xs)=>match xs[j]? with
   |some x=>bif LL x then(bif Nat.blt b s.nx then some (⟨s.n,s.nx+1,s.t,(b,some (.rcd e (xs.set j (.sq s.nx))))::(s.nx,some (.arr t (size c) (.ty c [])))::s.o⟩,[]) else none) else none
   |none=>none
  |_=>none
 | .nilE b j t c=>match Aj b s.o,Ue c with
  |some (.rcd e xs),some _=>match xs[j]? with
   |some x=>bif LL x then(bif Nat.blt b s.nx then some (⟨s.n,s.nx+1,s.t,(b,some (.rcd e (xs.set j (.dq s.nx))))::(s.nx,some (.deep t c []))::s.o⟩,[]) else none) else none
   |none=>none
  |_,_=>none
 | .arrP u=>match CD u s.t with
  |some (.own i 0)=>match Aj i s.o with
   |some (.box e cs)=>bif Nat.blt 0 cs.length&&Nat.ble cs.length 1000000 then some (⟨s.n,s.nx+1,(u,.el s.nx 0 1 0)::s.t,(i,none)::(s.nx,some (.arr e 1 (.lst (cs.map fun x=>[x]))))::s.o⟩,[]) else none
   |_=>none
  |_=>none
theorem HW.setItem {F:Nat→Prop} {N:Nm} {nx:Nat} {R:World} {y:A} (hy0:JN y=false):∀{xs:List A} {us:List Value} {j:Nat} {x:A},HW F N nx R xs us→xs[j]?=some x→JN x=false→(∀v,Hv F N nx R x v→Hv F N nx R y v)→HW F N nx R (xs.set j y) us
 | [],_,j,_,_,hx,_,_=>by cases j<;>cases hx
 |z::r,us,0,x,⟨v,t,h1,h2,h3,h4⟩,hx,hx0,hy=>by
  cases hx
  exact⟨v,t,h1,hy v h2,fun _=>h3 hx0,h4⟩
 |z::r,us,j+1,x,⟨v,t,h1,h2,h3,h4⟩,hx,hx0,hy=>⟨v,t,h1,h2,h3,HW.setItem hy0 (j:=j) h4 hx hx0 hy⟩
def adj (E:Env):List Dir→St→Option (St×List Prop)
 | [],s=>some (s,[])
 | d::r,s=>match Nn E s d with
  |some (s',ps)=>match adj E r s' with
   |some (s'',qs)=>some (s'',ps++qs)
   |none=>none
  |none=>none
section
variable {E:Env} {Z:Base} {F:Nat→Prop} {N:Nm} {s:St} {a:Act} {R:World}
theorem Rel.word (h:Rel Z F N s a R) {u:Nat} {x:A} (hx:Hv F N s.nx R x (AW a u)):Rel Z F N ⟨s.n,s.nx,(u,x)::s.t,s.o⟩ a R:=
 ⟨h.defers,h.size,fun v z hv=>by
  have hv':(bif Nat.beq u v then some x else CD v s.t)=some z:=hv
  cases hb:Nat.beq u v with
  |true=>
   rw[hb] at hv'
   obtain rfl:=Nat.eq_of_beq_eq_true hb
   cases hv'
   exact(Ac hx.isPlain).2 hx
  |false=>rw[hb] at hv';exact h.slots v z hv',h.hp,h.st,h.tm⟩
theorem Abb {x:A} (h:Uy x=true):x.plain=true:=by cases x<;>first|rfl|cases h
theorem Aez {x:A} {y:Value} {nx:Nat} (h:Uy x=true) (hx:Hv F N nx R x y):∃b,y=.slice b 0 0:=by
 cases x<;>first|(cases h;done)|skip
 ·rw[hx.v_inv,Gn h];exact⟨none,rfl⟩
 ·exact hx.nl_inv
theorem Sm {x:A} {y:Value} {nx:Nat} (h:LL x=true) (hx:Hv F N nx R x y):y=.slice none 0 0:=by
 cases x<;>first|(cases h;done)|skip
 rw[hx.v_inv,Gn h]
theorem Au9 {x:A} (h:LL x=true):x.plain=true:=by cases x<;>first|rfl|cases h
theorem HL.set {nx:Nat} {xs:List A} {vs:List Value} {j:Nat} {y:A} (h:HL F N nx R xs vs) (hy:∀v,vs[j]?=some v→Hv F N nx R y v):HL F N nx R (xs.set j y) vs:=by
 refine HL.of (by rw[List.length_set];exact h.length) fun i x v hx hv=>?_
 by_cases hij:j=i
 ·subst hij
  have hlt:j <xs.length:=by have:=(List.getElem?_eq_some_iff.1 hx).1;rwa[List.length_set] at this
  rw[List.getElem?_set_self hlt] at hx
  cases hx
  exact hy v hv
 ·rw[List.getElem?_set_ne hij] at hx
  obtain⟨w,h1,h2⟩:=h.get hx
  rw[hv] at h1
  cases h1
  exact h2
theorem HRel.toRow {nx:Nat} {o:Objs} (h:HRel F N nx o R) {i:Nat} {e:TypeId} {cs:List A} (hi:Aj i o=some (.box e cs)) (h0:0 <cs.length) (hmx:cs.length≤1000000):
  ∃v:Value,(EO v).add (0*1+0)=⟨N.b i,0,none⟩∧HRel F (N.setQ nx v) (nx+1) ((i,none)::(nx,some (.arr e 1 (.lst (cs.map fun x=>[x]))))::o) R∧Step F N nx o R F (N.setQ nx v) (nx+1) ((i,none)::(nx,some (.arr e 1 (.lst (cs.map fun x=>[x]))))::o) R:=by
 obtain⟨c,hc⟩:∃c,cs.length=c+1:=⟨cs.length - 1,by omega⟩
 obtain⟨hin,vs,g1,g2⟩:=h.ob i _ hi
 have hlen:=g1.length
 let v:Value:=.slice (some ⟨N.b i,0,none⟩) (c+1) (c+1)
 have hq:∀k,k <nx→(N.setQ nx v).q k=N.q k:=fun k hk=>Cy N.q _ (by omega)
 have hqm:(N.setQ nx v).q nx=v:=AX N.q nx _
 have st:Ext F N nx R F (N.setQ nx v) (nx+1) R:=⟨by omega,fun _ _=>rfl,hq,fun _ h=>h,fun _ _=>rfl⟩
 have cases_:∀k ob,Aj k ((i,none)::(nx,some (.arr e 1 (.lst (cs.map fun x=>[x]))))::o)=some ob→(k=nx∧ob=.arr e 1 (.lst (cs.map fun x=>[x])))∨(k≠nx∧k≠i∧Aj k o=some ob):=fun k ob hk=>by
  rw[AC,AC] at hk
  by_cases hki:k=i
  ·rw[if_pos hki] at hk;cases hk
  ·rw[if_neg hki] at hk
   by_cases hkm:k=nx
   ·rw[if_pos hkm] at hk;cases hk;exact .inl ⟨hkm,rfl⟩
   ·rw[if_neg hkm] at hk;exact .inr ⟨hkm,hki,hk⟩
 have fo:∀k ob g,Aj k o=some ob→foot (N.setQ nx v) k ob g→foot N k ob g:=fun k ob g hk hg=>(D0 st (h.ob k ob hk).1).1 hg
 have fn:∀g,foot (N.setQ nx v) nx (.arr e 1 (.lst (cs.map fun x=>[x]))) g→foot N i (.box e cs) g:=fun g hg=>by
  have hg':BY ((N.setQ nx v).q nx)=some g:=hg
  rw[hqm] at hg'
  cases hg'
  rfl
 refine⟨v,by rw[Nat.zero_mul,Nat.add_zero];exact BA _ _ _,⟨h.flt,fun k ob hk=>?_,fun k ob g hk hg=>?_,fun j k x y g hj hk hx hy=>?_,h.gl⟩,by omega,fun _ _=>rfl,hq,fun _ h=>h,fun _ h=> .inl h,fun g ⟨k,ob,hk,hg⟩=>?_,rfl,rfl,rfl,Nat.le_refl _,fun _ _ _=>rfl⟩
 ·rcases cases_ k ob hk with⟨rfl,rfl⟩|⟨_,_,hk'⟩
  ·refine⟨Nat.lt_succ_self _,vs,⟨?_,.inr ⟨N.b i,c,vs.toArray,?_,g2,?_,?_,?_,?_⟩⟩,fun k hk=>?_⟩
   ·show vs.length=(cs.map fun x=>[x]).length*1
    rw[List.length_map,Nat.mul_one];exact hlen
   ·rw[hqm]
    show v=.slice (some ⟨N.b i,0,none⟩) (cs.map fun x=>[x]).length (c+1)
    rw[List.length_map,hc]
   ·show(cs.map fun x=>[x]).length≤c+1
    rw[List.length_map];omega
   ·have:(1000000:Nat)≤maxLen:=by decide
    omega
   ·show vs.length=(c+1)*1
    omega
   ·show vs.take ((cs.map fun x=>[x]).length*1)=vs
    rw[List.length_map,Nat.mul_one,List.take_of_length_le (by omega)]
   ·have hk:k <(cs.map fun x=>[x]).length:=hk
    rw[List.length_map] at hk
    have e1:Els.nth (.lst (cs.map fun x=>[x])) k=[cs[k]]:=by
     show IN (cs.map fun x=>[x]) k=_
     rw[Dm,List.getD_eq_getElem?_getD,List.getElem?_map,List.getElem?_eq_getElem hk]
     rfl
    rw[e1,Nat.mul_one]
    have hkv:k <vs.length:=by omega
    have e2:(vs.drop k).take 1=[vs[k]]:=by
     rw[List.drop_eq_getElem_cons hkv]
     rfl
    rw[e2]
    exact HL.cons ((g1.at.2 k _ _ (List.getElem?_eq_getElem hk) (List.getElem?_eq_getElem hkv)).step st) HL.nil
  ·obtain⟨h1,h2⟩:=h.ob k ob hk'
   exact⟨by omega,h2.step st h1 fun _ _=>rfl⟩
 ·rcases cases_ k ob hk with⟨rfl,rfl⟩|⟨_,_,hk'⟩
  ·exact h.ff i _ g hi (fn g hg)
  ·exact h.ff k ob g hk' (fo k ob g hk' hg)
 ·rcases cases_ j x hj with⟨rfl,rfl⟩|⟨hjm,hji,hj'⟩
  ·rcases cases_ k y hk with⟨rfl,rfl⟩|⟨hkm,hki,hk'⟩
   ·rfl
   ·exact absurd (h.sep i k _ y g hi hk' (fn g hx) (fo k y g hk' hy)) (fun e=>hki e.symm)
  ·rcases cases_ k y hk with⟨rfl,rfl⟩|⟨hkm,hki,hk'⟩
   ·exact absurd (h.sep j i x _ g hj' hi (fo j x g hj' hx) (fn g hy)) hji
   ·exact h.sep j k x y g hj' hk' (fo j x g hj' hx) (fo k y g hk' hy)
 ·rcases cases_ k ob hk with⟨rfl,rfl⟩|⟨_,_,hk'⟩
  ·exact .inl ⟨i,_,hi,fn g hg⟩
  ·exact .inl ⟨k,ob,hk',fo k ob g hk' hg⟩
theorem HRel.nilRowB {nx:Nat} {o:Objs} (h:HRel F N nx o R) (b:Option Addr) {m:Nat} (t:TypeId) (sz:Nat) {els:Els} (he:els.n=0) (hm:nx≤m):
  HRel F (N.setQ m (.slice b 0 0)) (m+1) ((m,some (.arr t sz els))::o) R∧Step F N nx o R F (N.setQ m (.slice b 0 0)) (m+1) ((m,some (.arr t sz els))::o) R:=
 h.nilG _ hm (fun hqm=>⟨[],by rw[hqm];exact⟨by rw[he];simp,.inl ⟨b,rfl,he⟩⟩,fun j hj=>absurd hj (by omega)⟩) fun hqm g hg=>by
  have hg':BY ((N.setQ m (.slice b 0 0)).q m)=some g:=hg
  rw[hqm] at hg'
  cases b<;>cases hg'
theorem Bpn (h:At Z a R s) {d:Dir} {s':St} {ps:List Prop} (he:Nn E s d=some (s',ps)) (hp:∀p∈ps,p):At Z a R s':=by
 obtain⟨F,N,h⟩:=h
 cases d with
 |frz i=>
  obtain⟨F',h'⟩:=Ax5 h he hp
  exact⟨F',N,h'⟩
 | nil u t c=>
  unfold Nn at he
  simp only at he
  split at he<;>first|(cases he;done)|skip
  rename_i x hx
  cases hn:Uy x with
  |false=>rw[hn] at he;cases he
  |true=>
   rw[hn] at he
   cases he
   obtain⟨b,hv⟩:=Aez hn ((Ac (Abb hn)).1 (h.slots u x hx))
   obtain⟨q1,q2⟩:=h.hp.nilRowB b t (size c) (els:=.ty c []) rfl (Nat.le_refl _)
   have h2:=h.heap q2 q1
   refine⟨_,_,h2.word (u:=u) ?_⟩
   rw[hv]
   have:=Hv.sq (F:=F) (N:=N.setQ s.nx (.slice b 0 0)) (nx:=s.nx+1) (R:=R) (Nat.lt_succ_self s.nx)
   have e:(N.setQ s.nx (.slice b 0 0)).q s.nx=.slice b 0 0:=AX N.q s.nx _
   rw[e] at this
   exact this
 | nilD u t c=>
  unfold Nn at he
  simp only at he
  split at he<;>first|(cases he;done)|skip
  rename_i x cc hx hc
  cases hn:LL x with
  |false=>rw[hn] at he;cases he
  |true=>
   rw[hn] at he
   cases he
   have hv:=Sm hn ((Ac (Au9 hn)).1 (h.slots u x hx))
   obtain⟨q1,q2⟩:=h.hp.nilD t hc (Nat.le_refl _)
   have h2:=h.heap q2 q1
   refine⟨_,_,h2.word (u:=u) ?_⟩
   rw[hv]
   have:=Hv.dq (F:=F) (N:=N.setQ s.nx (A1x true)) (nx:=s.nx+1) (R:=R) (Nat.lt_succ_self s.nx)
   have e:(N.setQ s.nx (A1x true)).q s.nx=A1x true:=AX N.q s.nx _
   rw[e] at this
   exact this
 | nilB b j t c=>
  unfold Nn at he
  simp only at he
  split at he<;>first|(cases he;done)|skip
  rename_i e cs hl
  split at he<;>first|(cases he;done)|skip
  rename_i x hx
  cases hn:LL x with
  |false=>rw[hn] at he;cases he
  | true=>
   rw[hn] at he
   cases hb:Nat.blt b s.nx with
   |false=>rw[hb] at he;cases he
   | true=>
    rw[hb] at he
    cases he
    have hbn:b <s.nx:=Nat.le_of_ble_eq_true hb
    obtain⟨q1,q2⟩:=h.hp.nilRow t (size c) (els:=.ty c []) rfl (Nat.le_refl _)
    have e0:(N.setQ s.nx (.slice none 0 0)).q s.nx=.slice none 0 0:=AX N.q s.nx _
    obtain⟨r1,r2⟩:=q1.less (o':=(b,some (.box e (cs.set j (.sq s.nx))))::(s.nx,some (.arr t (size c) (.ty c [])))::s.o) fun i ob hi=>by
     rw[AC] at hi
     by_cases hib:i=b
     ·rw[if_pos hib] at hi
      cases hi
      subst hib
      refine⟨.box e cs,by rw[AC,if_neg (by omega)];exact hl,fun⟨vs,k1,k2⟩=>⟨vs,k1.set fun v hv=>?_,k2⟩,fun g=>Iff.rfl⟩
      obtain⟨w,k3,k4⟩:=k1.get hx
      rw[hv] at k3
      cases k3
      rw[Sm hn k4]
      have:=Hv.sq (F:=F) (N:=N.setQ s.nx (.slice none 0 0)) (nx:=s.nx+1) (R:=R) (Nat.lt_succ_self s.nx)
      rw[e0] at this
      exact this
     ·rw[if_neg hib] at hi
      exact⟨ob,hi,id,fun g=>Iff.rfl⟩
    exact⟨_,_,h.heap (q2.trans r2) r1⟩
 | nilF u c=>
  unfold Nn at he
  simp only at he
  split at he<;>first|(cases he;done)|skip
  rename_i x hx
  cases hn:Uy x with
  |false=>rw[hn] at he;cases he
  |true=>
   rw[hn] at he
   cases he
   obtain⟨b,hv⟩:=Aez hn ((Ac (Abb hn)).1 (h.slots u x hx))
   exact⟨_,_,h.word (u:=u) (Hv.sl_nil hv)⟩
 | nilFB b j c=>
  unfold Nn at he
  simp only at he
  split at he<;>first|(cases he;done)|skip
  rename_i e cs hl
  split at he<;>first|(cases he;done)|skip
  rename_i x hx
  cases hn:Uy x with
  |false=>rw[hn] at he;cases he
  | true=>
   rw[hn] at he
   cases he
   obtain⟨r1,r2⟩:=h.hp.less (o':=(b,some (.box e (cs.set j (.sl c []))))::s.o) fun i ob hi=>by
    rw[AC] at hi
    by_cases hib:i=b
    ·rw[if_pos hib] at hi
     cases hi
     subst hib
     refine⟨.box e cs,hl,fun⟨vs,k1,k2⟩=>⟨vs,k1.set fun v hv=>?_,k2⟩,fun g=>Iff.rfl⟩
     obtain⟨w,k3,k4⟩:=k1.get hx
     rw[hv] at k3
     cases k3
     obtain⟨b,hb⟩:=Aez hn k4
     exact Hv.sl_nil hb
    ·rw[if_neg hib] at hi
     exact⟨ob,hi,id,fun g=>Iff.rfl⟩
   exact⟨_,_,h.heap r2 r1⟩
 | seg i p=>
  unfold Nn at he
  simp only at he
  split at he<;>first|(cases he;done)|skip
  rename_i e cs hl
  split at he<;>first|(cases he;done)|skip
  rename_i xs qs hd
  cases he
  obtain⟨r1,r2⟩:=h.hp.less (o':=(i,some (.rcd e xs))::s.o) fun k ob hi=>by
   rw[AC] at hi
   by_cases hib:k=i
   ·rw[if_pos hib] at hi
    cases hi
    subst hib
    exact⟨.box e cs,hl,fun⟨vs,k1,k2⟩=>⟨vs,WO k1 hd hp,k2⟩,fun g=>Iff.rfl⟩
   ·rw[if_neg hib] at hi
    exact⟨ob,hi,id,fun g=>Iff.rfl⟩
  exact⟨_,_,h.heap r2 r1⟩
 | nilR b j t c=>
  unfold Nn at he
  simp only at he
  split at he<;>first|(cases he;done)|skip
  rename_i e xs hl
  split at he<;>first|(cases he;done)|skip
  rename_i x hx
  cases hn:LL x with
  |false=>rw[hn] at he;cases he
  | true=>
   rw[hn] at he
   cases hb:Nat.blt b s.nx with
   |false=>rw[hb] at he;cases he
   | true=>
    rw[hb] at he
    cases he
    have hbn:b <s.nx:=Nat.le_of_ble_eq_true hb
    obtain⟨q1,q2⟩:=h.hp.nilRow t (size c) (els:=.ty c []) rfl (Nat.le_refl _)
    have e0:(N.setQ s.nx (.slice none 0 0)).q s.nx=.slice none 0 0:=AX N.q s.nx _
    have hx0:JN x=false:=by cases x<;>first|rfl|cases hn
    obtain⟨r1,r2⟩:=q1.less (o':=(b,some (.rcd e (xs.set j (.sq s.nx))))::(s.nx,some (.arr t (size c) (.ty c [])))::s.o) fun i ob hi=>by
     rw[AC] at hi
     by_cases hib:i=b
     ·rw[if_pos hib] at hi
      cases hi
      subst hib
      refine⟨.rcd e xs,by rw[AC,if_neg (by omega)];exact hl,fun⟨us,k1,k2⟩=>⟨us,k1.setItem rfl hx hx0 fun v hv=>?_,k2⟩,fun g=>Iff.rfl⟩
      rw[Sm hn hv]
      have:=Hv.sq (F:=F) (N:=N.setQ s.nx (.slice none 0 0)) (nx:=s.nx+1) (R:=R) (Nat.lt_succ_self s.nx)
      rw[e0] at this
      exact this
     ·rw[if_neg hib] at hi
      exact⟨ob,hi,id,fun g=>Iff.rfl⟩
    exact⟨_,_,h.heap (q2.trans r2) r1⟩
 | nilE b j t c=>
  unfold Nn at he
  simp only at he
  split at he<;>first|(cases he;done)|skip
  rename_i e xs cc hl hc
  split at he<;>first|(cases he;done)|skip
  rename_i x hx
  cases hn:LL x with
  |false=>rw[hn] at he;cases he
  | true=>
   rw[hn] at he
   cases hb:Nat.blt b s.nx with
   |false=>rw[hb] at he;cases he
   | true=>
    rw[hb] at he
    cases he
    have hbn:b <s.nx:=Nat.le_of_ble_eq_true hb
    obtain⟨q1,q2⟩:=h.hp.nilD t hc (Nat.le_refl _)
    have e0:(N.setQ s.nx (A1x true)).q s.nx=A1x true:=AX N.q s.nx _
    have hx0:JN x=false:=by cases x<;>first|rfl|cases hn
    obtain⟨r1,r2⟩:=q1.less (o':=(b,some (.rcd e (xs.set j (.dq s.nx))))::(s.nx,some (.deep t c []))::s.o) fun i ob hi=>by
     rw[AC] at hi
     by_cases hib:i=b
     ·rw[if_pos hib] at hi
      cases hi
      subst hib
      refine⟨.rcd e xs,by rw[AC,if_neg (by omega)];exact hl,fun⟨us,k1,k2⟩=>⟨us,k1.setItem rfl hx hx0 fun v hv=>?_,k2⟩,fun g=>Iff.rfl⟩
      rw[Sm hn hv]
      have:=Hv.dq (F:=F) (N:=N.setQ s.nx (A1x true)) (nx:=s.nx+1) (R:=R) (Nat.lt_succ_self s.nx)
      rw[e0] at this
      exact this
     ·rw[if_neg hib] at hi
      exact⟨ob,hi,id,fun g=>Iff.rfl⟩
    exact⟨_,_,h.heap (q2.trans r2) r1⟩
 | arrP u=>
  unfold Nn at he
  simp only at he
  split at he<;>first|(cases he;done)|skip
  rename_i i hx
  split at he<;>first|(cases he;done)|skip
  rename_i e cs hl
  cases hb:(Nat.blt 0 cs.length&&Nat.ble cs.length 1000000) with
  |false=>rw[hb] at he;cases he
  |true=>
   rw[hb] at he
   cases he
   rw[Bool.and_eq_true] at hb
   have hv:=((Ac rfl).1 (h.slots u _ hx):Hv F N s.nx R (.own i 0) (AW a u)).own_inv
   obtain⟨v,hv0,q1,q2⟩:=h.hp.toRow hl (Nat.le_of_ble_eq_true hb.1) (Nat.le_of_ble_eq_true hb.2)
   have h2:=h.heap q2 q1
   refine⟨_,_,h2.word (u:=u) ?_⟩
   rw[hv.2]
   have:=Hv.el (F:=F) (N:=N.setQ s.nx v) (R:=R) (k:=0) (size:=1) (off:=0) (Nat.lt_succ_self s.nx)
   have e:(N.setQ s.nx v).q s.nx=v:=AX N.q s.nx _
   rw[e,hv0] at this
   exact this
 | avd u c n=>
  unfold Nn at he
  simp only at he
  split at he<;>first|(cases he;done)|skip
  rename_i x hx
  cases hn:x.plain with
  |false=>rw[hn] at he;cases he
  |true=>
   rw[hn,cond_true] at he
   split at he<;>first|(cases he;done)|skip
   rename_i l qs hd
   cases he
   exact⟨_,_,h.word (u:=u) (Bfh hd hp ((Ac hn).1 (h.slots u x hx)))⟩
 | ty i c=>
  unfold Nn at he
  simp only at he
  split at he<;>first|(cases he;done)|skip
  rename_i e sz els hl
  split at he<;>first|(cases he;done)|skip
  rename_i l qs hty
  cases he
  obtain⟨r1,r2⟩:=h.hp.less (o':=(i,some (.arr e sz (.ty c l)))::s.o) fun k ob hi=>by
   rw[AC] at hi
   by_cases hib:k=i
   ·rw[if_pos hib] at hi
    cases hi
    subst hib
    refine⟨.arr e sz els,hl,fun⟨zs,k1,k2⟩=>?_,fun g=>Iff.rfl⟩
    obtain⟨e1,_⟩:=Md (F:=F) (N:=N) (nx:=s.nx) (R:=R) hty hp
    have hr:=RowHL.ty (els:=els) ⟨k1.1,k2⟩ hty hp
    have hn:(Els.ty c l).n=els.n:=e1
    exact⟨zs,by rw[hn];exact k1,hr.2⟩
   ·rw[if_neg hib] at hi
    exact⟨ob,hi,id,fun g=>Iff.rfl⟩
  exact⟨_,_,h.heap r2 r1⟩
theorem Baj:∀{D:List Dir} {s s':St} {ps:List Prop},At Z a R s→adj E D s=some (s',ps)→(∀p∈ps,p)→At Z a R s'
 | [],s,s',ps,h,he,_=>by cases he;exact h
 |d::r,s,s',ps,h,he,hp=>by
  unfold adj at he
  split at he<;>first|(cases he;done)|skip
  rename_i s1 ps1 h1
  split at he<;>first|(cases he;done)|skip
  rename_i s2 ps2 h2
  cases he
  exact Baj (Bpn h h1 fun p hm=>hp p (List.mem_append.2 (.inl hm))) h2 fun p hm=>hp p (List.mem_append.2 (.inr hm))
theorem Bff:∀{D:List Dir} {s s':St} {ps:List Prop},adj E D s=some (s',ps)→Sub s s'
 | [],s,s',ps,he=>by cases he;exact Sub.refl _
 | d::r,s,s',ps,he=>by
  unfold adj at he
  split at he<;>first|(cases he;done)|skip
  rename_i s1 ps1 h1
  split at he<;>first|(cases he;done)|skip
  rename_i s2 ps2 h2
  cases he
  refine Sub.trans ?_ (Bff h2)
  cases d with
  |frz i=>exact⟨(YK h1).1,(YK h1).2⟩
  |nil u t c=>
   unfold Nn at h1
   simp only at h1
   split at h1<;>first|(cases h1;done)|skip
   replace h1:=AU h1
   cases h1
   exact⟨rfl,[_],rfl⟩
  |nilD u t c=>
   unfold Nn at h1
   simp only at h1
   split at h1<;>first|(cases h1;done)|skip
   replace h1:=AU h1
   cases h1
   exact⟨rfl,[_],rfl⟩
  |nilB b j t c=>
   unfold Nn at h1
   simp only at h1
   split at h1<;>first|(cases h1;done)|skip
   split at h1<;>first|(cases h1;done)|skip
   replace h1:=AU (AU h1)
   cases h1
   exact⟨rfl,[_,_],rfl⟩
  |nilF u c=>
   unfold Nn at h1
   simp only at h1
   split at h1<;>first|(cases h1;done)|skip
   replace h1:=AU h1
   cases h1
   exact⟨rfl,[],rfl⟩
  |nilFB b j c=>
   unfold Nn at h1
   simp only at h1
   split at h1<;>first|(cases h1;done)|skip
   split at h1<;>first|(cases h1;done)|skip
   replace h1:=AU h1
   cases h1
   exact⟨rfl,[_],rfl⟩
  |seg i p=>
   unfold Nn at h1
   simp only at h1
   split at h1<;>first|(cases h1;done)|skip
   split at h1<;>first|(cases h1;done)|skip
   cases h1
   exact⟨rfl,[_],rfl⟩
  |nilR b j t c=>
   unfold Nn at h1
   simp only at h1
   split at h1<;>first|(cases h1;done)|skip
   split at h1<;>first|(cases h1;done)|skip
   replace h1:=AU h1
   replace h1:=AU h1
   cases h1
   exact⟨rfl,[_,_],rfl⟩
  |nilE b j t c=>
   unfold Nn at h1
   simp only at h1
   split at h1<;>first|(cases h1;done)|skip
   split at h1<;>first|(cases h1;done)|skip
   replace h1:=AU h1
   replace h1:=AU h1
   cases h1
   exact⟨rfl,[_,_],rfl⟩
  |arrP u=>
   unfold Nn at h1
   simp only at h1
   split at h1<;>first|(cases h1;done)|skip
   split at h1<;>first|(cases h1;done)|skip
   replace h1:=AU h1
   cases h1
   exact⟨rfl,[_,_],rfl⟩
  |avd u c n=>
   unfold Nn at h1
   simp only at h1
   split at h1<;>first|(cases h1;done)|skip
   replace h1:=AU h1
   split at h1<;>first|(cases h1;done)|skip
   cases h1
   exact⟨rfl,[],rfl⟩
  |ty i c=>
   unfold Nn at h1
   simp only at h1
   split at h1<;>first|(cases h1;done)|skip
   split at h1<;>first|(cases h1;done)|skip
   cases h1
   exact⟨rfl,[_],rfl⟩
end
def okL (nb nx1:Nat):Ib→Bool
 | []=>true
 |(k,j)::r=>Nat.blt j nx1&&((bif Nat.blt j nb then Nat.beq k j else true)&&(isNone (fwd r k)&&(isNone (bck r j)&&okL nb nx1 r)))
theorem A1c {nb nx1:Nat}:∀{L:Ib} {i j:Nat},okL nb nx1 L=true→fwd L i=some j→bck L j=some i∧j <nx1∧(j <nb→i=j)
 | [],i,j,_,h=>by cases h
 | (k,m)::r,i,j,h0,h=>by
  unfold okL at h0
  simp only[Bool.and_eq_true] at h0
  obtain⟨a1,a2,a3,a4,a5⟩:=h0
  unfold fwd at h
  cases hb:Nat.beq k i with
  | true=>
   rw[hb] at h
   cases h
   obtain rfl:=Nat.eq_of_beq_eq_true hb
   refine⟨?_,Nat.le_of_ble_eq_true a1,fun hlt=>?_⟩
   ·unfold bck
    rw[Ma]
    rfl
   ·rw[show Nat.blt m nb=true from Nat.ble_eq_true_of_le hlt] at a2
    exact Nat.eq_of_beq_eq_true a2
  | false=>
   rw[hb] at h
   obtain⟨h1,h2⟩:=A1c a5 h
   refine⟨?_,h2⟩
   unfold bck
   cases hm:Nat.beq m j with
   |true=>
    obtain rfl:=Nat.eq_of_beq_eq_true hm
    rw[YN.1 a4] at h1
    cases h1
   |false=>exact h1
def Ak8 (nb:Nat) (L:Ib) (j:Nat):Nat:=bif Nat.blt j nb then j else match bck L j with
 |some k=>k
 |none=>0
def nm3 (N:Nm) (nb:Nat) (L:Ib):Nm:=⟨fun j=>N.b (Ak8 nb L j),fun j=>N.q (Ak8 nb L j)⟩
theorem Bmf {nb nx1:Nat} {L:Ib} (h0:okL nb nx1 L=true) {i j:Nat} (h:fwd L i=some j):Ak8 nb L j=i:=by
 obtain⟨h1,_,h3⟩:=A1c h0 h
 unfold Ak8
 cases hb:Nat.blt j nb with
 |true=>exact(h3 (Nat.le_of_ble_eq_true hb)).symm
 |false=>rw[h1];rfl
theorem Sl {nb:Nat} {L:Ib} {j:Nat} (h:j <nb):Ak8 nb L j=j:=by
 unfold Ak8
 rw[show Nat.blt j nb=true from Nat.ble_eq_true_of_le h]
 rfl
theorem pk3 {N:Nm} {nb n nx1:Nat} {L:Ib} (h0:okL nb nx1 L=true):Pk (fwd L) N n (nm3 N nb L) nx1:=fun i j _ hj=>by
 have h1:=Bmf h0 hj
 exact⟨(A1c h0 hj).2.1,by show N.b (Ak8 nb L j)=_;rw[h1],by show N.q (Ak8 nb L j)=_;rw[h1]⟩
def getD (u:Nat) (t:GP):A:=match CD u t with
 |some x=>x
 |none=> .dead
def Bgw (L:Ib) (t:GP):List Nat→GP
 | []=>[]
 |u::r=>(u,(getD u t).pk (fwd L))::Bgw L t r
def XB (L:Ib) (o:Objs):List Nat→Objs
 | []=>[]
 | i::r=>match fwd L i with
  |some j=>(j,match Aj i o with
   |some ob=>some (ob.pk (fwd L))
   |none=>none)::XB L o r
  |none=>XB L o r
def Bm9 (nx1:Nat) (L:Ib) (us os:List Nat) (s:St):St:=⟨s.n,nx1,Bgw L s.t us,XB L s.o os⟩
section
variable {Z:Base} {F:Nat→Prop} {N N':Nm} {nx nx':Nat} {s:St} {a:Act} {R:World} {tm:Nat→Value} {ρ:Nat→Option Nat}
theorem HS.pk (st:Pk ρ N nx N' nx'):∀{x:A} {y:Value},HS F N nx R tm x y→HS F N' nx' R tm (x.pk ρ) y
 | .opt u b x,y,h=>by
  unfold A.pk
  simp only[HS] at h⊢
  exact⟨fun hb=>HS.pk st (h.1 hb),h.2⟩
 | .v _,_,h=>(Ac (by unfold A.pk;rfl)).2 (((Ac rfl).1 h).pk st)
 | .sl _ _,_,h=>(Ac (by unfold A.pk;rfl)).2 (((Ac rfl).1 h).pk st)
 | .ref _,_,h=>(Ac (by unfold A.pk;rfl)).2 (((Ac rfl).1 h).pk st)
 | .nl,_,h=>(Ac (by unfold A.pk;rfl)).2 (((Ac rfl).1 h).pk st)
 | .it _ _,_,h=>(Ac (by unfold A.pk;rfl)).2 (((Ac rfl).1 h).pk st)
 | .fn _ _ _,_,h=>(Ac (by unfold A.pk;rfl)).2 (((Ac rfl).1 h).pk st)
 | .agg _,_,h=>(Ac (by unfold A.pk;rfl)).2 (((Ac rfl).1 h).pk st)
 | .tup _,_,h=>(Ac (by unfold A.pk;rfl)).2 (((Ac rfl).1 h).pk st)
 | .dead,_,h=>(Ac (by unfold A.pk;rfl)).2 (((Ac rfl).1 h).pk st)
 | .own _ _,_,h=>(Ac (((Ac rfl).1 h).pk st).isPlain).2 (((Ac rfl).1 h).pk st)
 | .ownx _ _ _ _,_,h=>(Ac (((Ac rfl).1 h).pk st).isPlain).2 (((Ac rfl).1 h).pk st)
 | .sq _,_,h=>(Ac (((Ac rfl).1 h).pk st).isPlain).2 (((Ac rfl).1 h).pk st)
 | .dq _,_,h=>(Ac (((Ac rfl).1 h).pk st).isPlain).2 (((Ac rfl).1 h).pk st)
 | .iv _ _,_,h=>(Ac (((Ac rfl).1 h).pk st).isPlain).2 (((Ac rfl).1 h).pk st)
 | .de _ _ _ _,_,h=>(Ac (((Ac rfl).1 h).pk st).isPlain).2 (((Ac rfl).1 h).pk st)
 | .ie _ _ _ _ _,_,h=>(Ac (((Ac rfl).1 h).pk st).isPlain).2 (((Ac rfl).1 h).pk st)
 | .vw _ _ _ _ _,_,h=>(Ac (((Ac rfl).1 h).pk st).isPlain).2 (((Ac rfl).1 h).pk st)
 | .el _ _ _ _,_,h=>(Ac (((Ac rfl).1 h).pk st).isPlain).2 (((Ac rfl).1 h).pk st)
 | .mp _,_,h=>(Ac (((Ac rfl).1 h).pk st).isPlain).2 (((Ac rfl).1 h).pk st)
 | .av _ _ _,_,h=>(Ac (by unfold A.pk;rfl)).2 (((Ac rfl).1 h).pk st)
 | .rv _,_,h=>(Ac (by unfold A.pk;rfl)).2 (((Ac rfl).1 h).pk st)
 | .vr _ _ _ _,_,h=>(Ac (((Ac rfl).1 h).pk st).isPlain).2 (((Ac rfl).1 h).pk st)
 | .vd _ _ _ _,_,h=>(Ac (((Ac rfl).1 h).pk st).isPlain).2 (((Ac rfl).1 h).pk st)
theorem Apq {L:Ib} {t:GP} {u:Nat} {x:A}:∀{us:List Nat},CD u (Bgw L t us)=some x→x=(getD u t).pk (fwd L)
 | [],h=>by cases h
 |v::r,h=>by
  have h':(bif Nat.beq v u then some ((getD v t).pk (fwd L)) else CD u (Bgw L t r))=some x:=h
  cases hb:Nat.beq v u with
  |true=>rw[hb] at h';obtain rfl:=Nat.eq_of_beq_eq_true hb;cases h';rfl
  |false=>rw[hb] at h';exact Apq h'
theorem Pt {L:Ib} {o:Objs} {j:Nat} {ob':Ob}:∀{os:List Nat},Aj j (XB L o os)=some ob'→∃i ob,i∈os∧fwd L i=some j∧Aj i o=some ob∧ob'=ob.pk (fwd L)
 | [],h=>by cases h
 | i::r,h=>by
  unfold XB at h
  cases hf:fwd L i with
  |none=>
   rw[hf] at h
   obtain⟨i',ob,h1,h2⟩:=Pt h
   exact⟨i',ob,List.mem_cons_of_mem _ h1,h2⟩
  | some m=>
   rw[hf] at h
   have h':(bif Nat.beq m j then(match Aj i o with|some ob=>some (ob.pk (fwd L))|none=>none) else Aj j (XB L o r))=some ob':=h
   cases hb:Nat.beq m j with
   |true=>
    rw[hb] at h'
    obtain rfl:=Nat.eq_of_beq_eq_true hb
    simp only[cond_true] at h'
    split at h'<;>first|(cases h';done)|skip
    rename_i ob hob
    cases h'
    exact⟨i,ob,List.mem_cons_self ..,hf,hob,rfl⟩
   |false=>
    rw[hb] at h'
    obtain⟨i',ob,h1,h2⟩:=Pt h'
    exact⟨i',ob,List.mem_cons_of_mem _ h1,h2⟩
theorem Bf3 (h:Rel Z F N s a R) (u:Nat):HS F N s.nx R (AW a) (getD u s.t) (AW a u):=by
 unfold getD
 split
 ·rename_i x hx;exact h.slots u x hx
 ·exact(Ac rfl).2 (.dead _)
theorem Rel.pick (h:Rel Z F N s a R) {nb nx1:Nat} {L:Ib} (h0:okL nb nx1 L=true) (hz:Z.nx≤nb) (hz1:Z.nx≤nx1) (us os:List Nat):Rel Z F (nm3 N nb L) (Bm9 nx1 L us os s) a R:=by
 obtain⟨q1,q2⟩:=h.hp.pk (o':=XB L s.o os) (pk3 (N:=N) (n:=s.nx) h0) fun j ob' hj=>by
  obtain⟨i,ob,_,h1,h2⟩:=Pt hj
  exact⟨i,ob,h1,h2⟩
 refine⟨h.defers,h.size,fun u x hu=>?_,q1,⟨hz1,fun i hi=>?_,fun i hi=>?_,h.st.f,h.st.fnew,fun g hg=>h.st.foot g (q2 g hg),h.st.os,h.st.tape,h.st.output,h.st.size,h.st.keep⟩,h.tm⟩
 ·rw[Apq hu]
  exact(Bf3 h u).pk (pk3 h0)
 ·show N.b (Ak8 nb L i)=_
  rw[Sl (by omega)]
  exact h.st.b i hi
 ·show N.q (Ak8 nb L i)=_
  rw[Sl (by omega)]
  exact h.st.q i hi
end
def Bgu (t:GP):List Nat→GP
 | []=>[]
 |u::r=>(u,getD u t)::Bgu t r
def Ah6 (o:Objs):List Nat→Objs
 | []=>[]
 |i::r=>(i,Aj i o)::Ah6 o r
def Aqo (us os:List Nat) (s:St):St:=⟨s.n,s.nx,Bgu s.t us,Ah6 s.o os⟩
def Mi (us os:List Nat):AR→AR
 | []=>[]
 |(t,c,s)::r=>(t,c,Aqo us os s)::Mi us os r
structure Cz where
 nb:Nat
 nx1:Nat
 us:List Nat
 dirs:List Dir
 ren:Ib
 os:List Nat
 usO:List Nat
 osO:List Nat
def Ba (E:Env) (u:Nat) (b:Code) (S:Cz) (s:St):Option (List Prop×AR×Cnd×St):=
 let r:=Qz E u 0 b false s
 match r.nrm with
 |some s1=>match adj E S.dirs s1 with
  |some (s2,qs)=>some (r.ps++Uu (Bpv (J9 r.outs)) qs,Mi S.usO S.osO r.outs,J9 r.outs,Bm9 S.nx1 S.ren S.us S.os s2)
  |none=>none
 |none=>none
section
variable {X:Type} (next:X→X) (goes:X→Cnd)
def AF:Nat→X→X
 |0,x=>x
 |n+1,x=>bif A8 (goes x) then AF n (next x) else x
def Ax (ps:X→List Prop):Nat→X→Prop
 |0,x=>(∀p∈ps x,p)∧A8 (goes x)=false
 |n+1,x=>(∀p∈ps x,p)∧(A8 (goes x)=true→Ax ps n (next x))
end
section
variable {Z:Base} {F:Nat→Prop} {N:Nm} {s:St} {a:Act} {R:World}
theorem App {t:GP} {u:Nat} {x:A}:∀{us:List Nat},CD u (Bgu t us)=some x→x=getD u t
 | [],h=>by cases h
 |v::r,h=>by
  have h':(bif Nat.beq v u then some (getD v t) else CD u (Bgu t r))=some x:=h
  cases hb:Nat.beq v u with
  |true=>rw[hb] at h';obtain rfl:=Nat.eq_of_beq_eq_true hb;cases h';rfl
  |false=>rw[hb] at h';exact App h'
theorem Mg {o:Objs} {i:Nat} {ob:Ob}:∀{os:List Nat},Aj i (Ah6 o os)=some ob→Aj i o=some ob∧i∈os
 | [],h=>by cases h
 |k::r,h=>by
  have h':(bif Nat.beq k i then Aj k o else Aj i (Ah6 o r))=some ob:=h
  cases hb:Nat.beq k i with
  |true=>rw[hb] at h';obtain rfl:=Nat.eq_of_beq_eq_true hb;exact⟨h',List.mem_cons_self ..⟩
  |false=>rw[hb] at h';exact⟨(Mg h').1,List.mem_cons_of_mem _ (Mg h').2⟩
theorem Rel.part (h:Rel Z F N s a R) (us os:List Nat):Rel Z F N (Aqo us os s) a R:=by
 have ho:∀i ob,Aj i (Ah6 s.o os)=some ob→Aj i s.o=some ob:=fun i ob hi=>(Mg hi).1
 refine⟨h.defers,h.size,fun u x hu=>?_,h.hp.weak ho,h.st.trans (Step.weak ho),h.tm⟩
 rw[App hu]
 exact Bf3 h u
theorem QS {us os:List Nat} {t:Tag}:∀{o:AR},AE t (Mi us os o)=match AE t o with|some (c,s)=>some (c,Aqo us os s)|none=>none
 | []=>rfl
 |(k,c,s)::r=>by
  show(bif Fh k t then some (c,Aqo us os s) else AE t (Mi us os r))=match(bif Fh k t then some (c,s) else AE t r) with|some (c,s)=>some (c,Aqo us os s)|none=>none
  cases Fh k t with
  |true=>rfl
  |false=>exact QS
theorem Bqt {E:Env} (ok:RV E) {u:Nat} {b:Code} {S:Cz} {X:Type} {T:X→St} {next:X→X} {goes:X→Cnd} {psA ps:X→List Prop} {outs:X→AR} (hS:okL S.nb S.nx1 S.ren=true) (hnb:S.nb≤S.nx1)
  (hr:∀x,Ba E u b S (T x)=some (psA x,outs x,goes x,T (next x))) (hA:∀x,(∀p∈ps x,p)→∀p∈psA x,p) {Z:Base} (hz:Z.nx≤S.nb) (hW:∀u,O4 u (Qx b)=true→Z.W u) {Q:Exit→Act→World→Prop}:∀(n:Nat) (x:X) (a:Act) (R:World),At Z a R (T x)→Ax next goes ps n x→
   (∀e y a' R',Oc ⟨[],outs (AF next goes n x),none⟩ e y→At Z a' R' y→Q e a' R')→Code.rounds E.P b Q (n+1) a R:=by
 intro n
 induction n with
 | zero=>
  intro x a R h hn hk
  obtain⟨h1,h2⟩:=hn
  rw[rounds_succ]
  have hx:=hr x
  unfold Ba at hx
  simp only at hx
  split at hx<;>first|(cases hx;done)|skip
  rename_i s1 hs1
  split at hx<;>first|(cases hx;done)|skip
  rename_i s2 qs hs2
  injection hx with hx
  injection hx with e1 hx
  injection hx with e2 hx
  injection hx with e3 e4
  replace h1:=hA x h1
  rw[←e1] at h1
  refine IP ok 0 b false Z (T x) a R _ h hW (Lg h1).1 fun e y a' R' ho hy=>?_
  have hwf:=Fs ok (u:=u) 0 b false (T x)
  rcases ho with⟨t,cc,rfl,g1,g2,g3⟩|⟨rfl,g1,g2⟩
  ·obtain⟨F,N,hy⟩:=hy
   have:Oc ⟨[],outs x,none⟩ (Tag.ex t) (Aqo S.usO S.osO y):=by
    rw[←e2]
    refine .inl ⟨t,cc,rfl,by show AE t (Mi _ _ _)=_;rw[QS,g1],g2,fun t' c' s' hne hg=>?_⟩
    have hg':AE t' (Mi S.usO S.osO (Qz E u 0 b false (T x)).outs)=some (c',s'):=hg
    rw[QS] at hg'
    cases h5:AE t' (Qz E u 0 b false (T x)).outs with
    |none=>rw[h5] at hg';cases hg'
    |some z=>obtain⟨c1,z⟩:=z;rw[h5] at hg';cases hg';exact g3 t' _ z hne h5
   have:=hk _ _ a' R' this ⟨F,N,hy.part _ _⟩
   cases t<;>exact this
  ·exfalso
   have:=O6 hwf.once g2
   rw[e3,h2] at this
   cases this
 | succ n ih=>
  intro x a R h hn hk
  obtain⟨h1,h2⟩:=hn
  rw[rounds_succ]
  have hx:=hr x
  unfold Ba at hx
  simp only at hx
  split at hx<;>first|(cases hx;done)|skip
  rename_i s1 hs1
  split at hx<;>first|(cases hx;done)|skip
  rename_i s2 qs hs2
  injection hx with hx
  injection hx with e1 hx
  injection hx with e2 hx
  injection hx with e3 e4
  replace h1:=hA x h1
  rw[←e1] at h1
  refine IP ok 0 b false Z (T x) a R _ h hW (Lg h1).1 fun e y a' R' ho hy=>?_
  have hwf:=Fs ok (u:=u) 0 b false (T x)
  rcases ho with⟨t,cc,rfl,g1,g2,g3⟩|⟨rfl,g1,g2⟩
  ·obtain⟨F,N,hy⟩:=hy
   have hc:A8 (goes x)=false:=by rw[←e3];exact Afi g1 g2
   have hi:AF next goes (n+1) x=x:=by unfold AF;rw[hc];rfl
   rw[hi] at hk
   have:Oc ⟨[],outs x,none⟩ (Tag.ex t) (Aqo S.usO S.osO y):=by
    rw[←e2]
    refine .inl ⟨t,cc,rfl,by show AE t (Mi _ _ _)=_;rw[QS,g1],g2,fun t' c' s' hne hg=>?_⟩
    have hg':AE t' (Mi S.usO S.osO (Qz E u 0 b false (T x)).outs)=some (c',s'):=hg
    rw[QS] at hg'
    cases h5:AE t' (Qz E u 0 b false (T x)).outs with
    |none=>rw[h5] at hg';cases hg'
    |some z=>obtain⟨c1,z⟩:=z;rw[h5] at hg';cases hg';exact g3 t' _ z hne h5
   have:=hk _ _ a' R' this ⟨F,N,hy.part _ _⟩
   cases t<;>exact this
  ·have hc:A8 (goes x)=true:=by rw[←e3];exact O6 hwf.once g2
   have hi:AF next goes (n+1) x=AF next goes n (next x):=by
    show(bif A8 (goes x) then _ else _)=_
    rw[hc];rfl
   rw[hi] at hk
   rw[hs1] at g1
   obtain rfl:=Option.some.inj g1
   have hq:∀p∈qs,p:=Mf (Lg h1).2 (Bfm (by rw[e3];exact hc))
   obtain⟨F,N,h3⟩:=Baj hy hs2 hq
   have h4:=h3.pick hS hz (Nat.le_trans hz hnb) S.us S.os
   rw[e4] at h4
   exact ih (next x) a' R' ⟨F,_,h4⟩ (h2 hc) hk
end
def KC (l:Nat):Code→Option Code
 | .seq a b=>match KC l a with
  |some c=>some c
  |none=>KC l b
 | .cond _ a b=>match KC l a with
  |some c=>some c
  |none=>KC l b
 | .block id b=>match Nat.beq id l,b with
  |true,.loop c=>some c
  |_,_=>KC l b
 | .loop b=>KC l b
 | .scope b=>KC l b
 | .rangeFunc _ _ _ b=>KC l b
 |_=>none
def Ag (P:Program) (f:FuncId) (l:Nat):Code:=match P.funcs[f]? with
 | some fn=>match fn.body with
  |some c=>match KC l c with
   |some b=>b
   |none=> .skip
  |none=> .skip
 |none=> .skip
def Dd (l0:Nat) (g:St→Option (Code×List Prop×AR)) (L:A0e):A0e:=fun l s=>bif Nat.beq l l0 then(bif Nat.ble rfK l then none else g s) else L l s
def Aaw:List Nat→GP
 | []=>[]
 |u::r=>(u,.dead)::Aaw r
def Apu:List Nat→Objs
 | []=>[]
 |i::r=>(i,none)::Apu r
def Axw (W os:List Nat) (sA st:St):St:=⟨sA.n,st.nx,st.t++(Aaw W++UB W sA.t),st.o++(Apu os++sA.o)⟩
def Mc (W os:List Nat) (sA:St):AR→AR
 | []=>[]
 |(t,c,s)::r=>(t,c,Axw W os sA s)::Mc W os sA r
structure CX where
 dirs:List Dir
 ren:Ib
 us:List Nat
 os:List Nat
def HB (E:Env) (b:Code) (S:Cz) (En:CX) {X:Type} (unT:St→Option X) (fuel:X→Nat) (next:X→X) (goes:X→Cnd) (ps:X→List Prop) (outs:X→AR) (s:St):Option (Code×List Prop×AR):=
 match adj E En.dirs s with
 |some (sA,qs)=>bif Nat.beq sA.nx S.nb then(bif okL S.nb S.nx1 En.ren then(match unT (Bm9 S.nx1 En.ren En.us En.os sA) with
  |some x=>some (b,qs++[Ax next goes ps (fuel x) x],Mc (Qx b) En.os sA (outs (AF next goes (fuel x) x)))
  |none=>none) else none) else none
 |none=>none
section
theorem Bf8 {u:Nat}:∀{W:List Nat},O4 u W=true→CD u (Aaw W)=some .dead
 | [],h=>by cases h
 | k::r,h=>by
  show(bif Nat.beq k u then some A.dead else CD u (Aaw r))=_
  cases hb:Nat.beq k u with
  |true=>rfl
  |false=>
   have h':(bif Nat.beq k u then true else O4 u r)=true:=h
   rw[hb] at h'
   exact Bf8 h'
theorem Apo {u:Nat} {x:A}:∀{W:List Nat},CD u (Aaw W)=some x→x=.dead
 | [],h=>by cases h
 |k::r,h=>by
  have h':(bif Nat.beq k u then some A.dead else CD u (Aaw r))=some x:=h
  cases hb:Nat.beq k u with
  |true=>rw[hb] at h';cases h';rfl
  |false=>rw[hb] at h';exact Apo h'
theorem Ahy {i:Nat}:∀{os:List Nat},Aj i (Apu os)=none
 | []=>rfl
 |k::r=>by
  show(bif Nat.beq k i then none else Aj i (Apu r))=none
  cases Nat.beq k i with
  |true=>rfl
  |false=>exact Ahy
theorem Ahs {i:Nat}:∀{os:List Nat},i∈os→i∈JO (Apu os)
 | [],h=>by cases h
 |k::r,h=>by
  rcases List.mem_cons.1 h with rfl|h
  ·exact List.mem_cons_self ..
  ·exact List.mem_cons_of_mem _ (Ahs h)
theorem QQ {W os:List Nat} {sA:St} {t:Tag}:∀{o:AR},AE t (Mc W os sA o)=match AE t o with|some (c,s)=>some (c,Axw W os sA s)|none=>none
 | []=>rfl
 |(k,c,s)::r=>by
  show(bif Fh k t then some (c,Axw W os sA s) else AE t (Mc W os sA r))=match(bif Fh k t then some (c,s) else AE t r) with|some (c,s)=>some (c,Axw W os sA s)|none=>none
  cases Fh k t with
  |true=>rfl
  |false=>exact QQ
theorem Ayo {W os:List Nat} {sA:St}:∀{o:AR},NS o→NS (Mc W os sA o)
 | [],_=>trivial
 |(k,c,s)::r,⟨h1,h2⟩=>⟨by rw[QQ,h1],Ayo h2⟩
theorem Bpw {Z:Base} {F F':Nat→Prop} {N N':Nm} {sA st:St} {a a':Act} {R R':World} {nb nx1:Nat} {L:Ib} {os W:List Nat} (h:Rel Z F N sA a R) (hn:st.n=sA.n) (hW:∀u,O4 u W=true→Z.W u) (hnb:sA.nx=nb) (hL:okL nb nx1 L=true)
  (h':Rel ⟨F,nm3 N nb L,nb,XB L sA.o os,R,AW a,fun u=>O4 u W=true⟩ F' N' st a' R'):Rel Z F' N' (Axw W os sA st) a' R':=by
 subst hnb
 let o1:=Ah6 sA.o os
 have ho1:∀i ob,Aj i o1=some ob→Aj i sA.o=some ob:=fun i ob hi=>(Mg hi).1
 have hfoot:∀g,Foot (nm3 N sA.nx L) (XB L sA.o os) g→Foot N o1 g:=fun g ⟨j,ob',hj,hg⟩=>by
  obtain⟨i,ob,hi,h1,h2,rfl⟩:=Pt hj
  have hlt:=(h.hp.ob i ob h2).1
  refine⟨i,ob,?_,(Aa5 (pk3 (N:=N) (n:=sA.nx) hL) hlt h1).1 hg⟩
  have:∀{l:List Nat},i∈l→Aj i (Ah6 sA.o l)=Aj i sA.o:=fun {l}=>by
   induction l with
   |nil=>intro hm;cases hm
   | cons k r ih=>
    intro hm
    show(bif Nat.beq k i then Aj k sA.o else Aj i (Ah6 sA.o r))=_
    cases hb:Nat.beq k i with
    |true=>rw[Nat.eq_of_beq_eq_true hb];rfl
    |false=>
     rcases List.mem_cons.1 hm with rfl|hm
     ·simp at hb
     ·exact ih hm
  rw[this hi]
  exact h2
 have st1:Step F N sA.nx o1 R F' N' st.nx st.o R':=⟨h'.st.le,fun i hi=>by
   have:=h'.st.b i hi
   rw[this]
   show N.b (Ak8 sA.nx L i)=_
   rw[Sl hi],fun i hi=>by
   have:=h'.st.q i hi
   rw[this]
   show N.q (Ak8 sA.nx L i)=_
   rw[Sl hi],h'.st.f,fun g hg=>by
   rcases h'.st.fnew g hg with h1|h1|h1
   ·exact .inl h1
   ·exact .inr (.inl (hfoot g h1))
   ·exact .inr (.inr h1),fun g hg=>by
   rcases h'.st.foot g hg with h1|h1
   ·exact .inl (hfoot g h1)
   ·exact .inr h1,h'.st.os,h'.st.tape,h'.st.output,h'.st.size,fun g hg hn=>h'.st.keep g hg fun hf=>hn (hfoot g hf)⟩
 obtain⟨q1,q2⟩:=h.hp.frame (o':=st.o++(Apu os++sA.o)) ho1 st1 h'.hp fun i ob hi=>by
  rcases Mh hi with⟨_,h1⟩|⟨_,h1⟩
  ·exact .inl h1
  ·rcases Mh h1 with⟨_,h2⟩|⟨h2,h3⟩
   ·rw[Ahy] at h2;cases h2
   ·refine .inr ⟨h3,?_⟩
    cases h4:Aj i o1 with
    |none=>rfl
    |some ob2=>exact absurd (Ahs (Mg h4).2) h2
 have htm:∀u,O4 u W=false→AW a' u=AW a u:=fun u hu=>h'.tm u fun hh=>by
  have hh':O4 u W=true:=hh
  rw[hu] at hh';cases hh'
 refine⟨h'.defers,h'.size.trans hn,fun u x hu=>?_,q1,h.st.trans q2,fun u hu=>?_⟩
 ·have hu':CD u (st.t++(Aaw W++UB W sA.t))=some x:=hu
  rw[Pu] at hu'
  cases h1:CD u st.t with
  |some y=>rw[h1] at hu';cases hu';exact h'.slots u x h1
  | none=>
   rw[h1] at hu'
   have hu2:CD u (Aaw W++UB W sA.t)=some x:=hu'
   rw[Pu] at hu2
   cases h2:CD u (Aaw W) with
   |some y=>rw[h2] at hu2;cases hu2;rw[Apo h2];exact(Ac rfl).2 (.dead _)
   | none=>
    rw[h2] at hu2
    have hu3:CD u (UB W sA.t)=some x:=hu2
    have hw:O4 u W=false:=by
     cases hw:O4 u W with
     |false=>rfl
     |true=>rw[Bf8 hw] at h2;cases h2
    rcases Sn hu3 with rfl|⟨k1,k2⟩
    ·exact(Ac rfl).2 (.dead _)
    ·rw[htm u hw]
     exact HS.congrW htm k2 ((h.slots u x k1).step (q2.ext h.hp))
 ·rw[h'.tm u fun hw=>hu (hW u hw)]
  exact h.tm u hu
theorem Brf {E:Env} (ok:RV E) {u:Nat} {b:Code} {S:Cz} {En:CX} {X:Type} {T:X→St} {unT:St→Option X} {fuel:X→Nat} {next:X→X} {goes:X→Cnd} {psA ps:X→List Prop} {outs:X→AR} (hS:okL S.nb S.nx1 S.ren=true) (hnb:S.nb≤S.nx1)
  (hr:∀x,Ba E u b S (T x)=some (psA x,outs x,goes x,T (next x))) (hA:∀x,(∀p∈ps x,p)→∀p∈psA x,p) (hu:∀s x,unT s=some x→s=T x)
  (hw:∀x,NS (outs x)∧∀t c y,AE t (outs x)=some (c,y)→y.n=(T x).n) (hTn:∀x y,(T x).n=(T y).n) {s:St} {b0:Code} {qs:List Prop} {os:AR} (he:HB E b S En unT fuel next goes ps outs s=some (b0,qs,os)):
  Wf s ⟨qs,os,none⟩∧Bg E b0 s qs os:=by
 unfold HB at he
 split at he<;>first|(cases he;done)|skip
 rename_i sA ps1 hAd
 cases hq1:Nat.beq sA.nx S.nb with
 |false=>rw[hq1] at he;cases he
 | true=>
  cases hq2:okL S.nb S.nx1 En.ren with
  |false=>rw[hq1,hq2] at he;cases he
  | true=>
   rw[hq1,hq2] at he
   simp only[cond_true] at he
   split at he<;>first|(cases he;done)|skip
   rename_i x hx
   cases he
   have hnx:=Nat.eq_of_beq_eq_true hq1
   have hT:=hu _ _ hx
   have hsub:=Bff hAd
   have hnT:∀y,(T y).n=sA.n:=fun y=>by rw[hTn y x,←hT];rfl
   refine⟨⟨fun t c y hy=>?_,fun y hy=>(by cases hy),Ayo (hw _).1⟩,?_⟩
   ·have hy':AE t (Mc (Qx b) En.os sA (outs (AF next goes (fuel x) x)))=some (c,y):=hy
    rw[QQ] at hy'
    split at hy'<;>first|(cases hy';done)|skip
    cases hy'
    obtain⟨d,hd⟩:=hsub.seq
    exact⟨hsub.n,by show ∃d,_++(Apu En.os++sA.o)=d++s.o;rw[hd];exact⟨_,by rw[←List.append_assoc,←List.append_assoc]⟩⟩
   ·intro Z F N a R Q h hW hp hk
    have hp1:∀p∈ps1,p:=fun p hm=>hp p (List.mem_append.2 (.inl hm))
    have hneed:Ax next goes ps (fuel x) x:=hp _ (List.mem_append.2 (.inr (List.mem_singleton.2 rfl)))
    obtain⟨F1,N1,h1⟩:=Baj ⟨F,N,h⟩ hAd hp1
    have hpick:=(h1.start (Qx b)).pick (L:=En.ren) hq2 (by show sA.nx≤S.nb;omega) (by show sA.nx≤S.nx1;omega) En.us En.os
    have hrel:Rel ⟨F1,nm3 N1 S.nb En.ren,S.nb,XB En.ren sA.o En.os,R,AW a,fun u=>O4 u (Qx b)=true⟩ F1 (nm3 N1 S.nb En.ren) (T x) a R:=by
     rw[←hT]
     exact⟨hpick.defers,hpick.size,hpick.slots,hpick.hp,⟨hnb,fun _ _=>rfl,fun _ _=>rfl,fun _ h=>h,fun _ h=> .inl h,fun _ h=> .inl h,rfl,rfl,rfl,Nat.le_refl _,fun _ _ _=>rfl⟩,fun _ _=>rfl⟩
    refine wp_loop_rounds (fuel x+1) (Bqt ok (u:=u) (b:=b) hS hnb hr hA (Nat.le_refl _) (fun u hu=>hu) (fuel x) x a R ⟨F1,_,hrel⟩ hneed fun e y a' R' ho ⟨F2,N2,hy⟩=>?_)
    rcases ho with⟨t,c,rfl,g1,g2,g3⟩|⟨rfl,g1,g2⟩
    ·have g1':AE t (outs (AF next goes (fuel x) x))=some (c,y):=g1
     refine hk _ (Axw (Qx b) En.os sA y) F2 N2 a' R' (.inl ⟨t,c,rfl,by show AE t (Mc _ _ _ _)=_;rw[QQ,g1'],g2,fun t' c' s' hne hg=>?_⟩) (Bpw h1 (by rw[(hw _).2 t c y g1',hnT]) hW hnx hq2 hy)
     have hg':AE t' (Mc (Qx b) En.os sA (outs (AF next goes (fuel x) x)))=some (c',s'):=hg
     rw[QQ] at hg'
     split at hg'<;>first|(cases hg';done)|skip
     rename_i c1 z hz
     cases hg'
     exact g3 t' _ z hne hz
    ·cases g1
end
end Go.Proofs.YtifkbgkbajncjaaGreatDoor
namespace Go.Proofs.YtifkbgkbajncjaaGreatDoor
open Go.RowKit
def zc:TC→List Value
 | .u8=>[.int .u8 0]
 | .i64=>[.int .i64 0]
 | .u32=>[.int .u32 0]
 | .bool=>[.bool false]
 | .str=>[.string ByteArray.empty]
 | .bytes=>[.slice none 0 0]
 | .ints=>[.slice none 0 0]
 | .cells=>[.slice none 0 0]
 | .rsl=>[.slice none 0 0]
 | .rows=>[.slice none 0 0]
 | .digest=>List.replicate 32 (.int .u8 0)
 |c=>(enc c (Ae c)).map fun x=>match x with
  | .v y=>y
  |_=> .slice none 0 0
theorem Bxe (c:TC) (F:Nat→Prop) (N:Nm) (nx:Nat) (R:World):HL F N nx R (enc c (Ae c)) (zc c):=by
 cases c<;>(repeat' (first|exact HL.nil|exact Hv.v _|exact Hv.sl_nil rfl|apply HL.cons))
def Ij (P:Program) (t:TypeId):Option (Nat×Option (List Value)):=(P.info? t).map fun i=>(i.size,i.zero.map fun z=>z.cells.toList)
theorem Boc {P:Program} {t:TypeId} {c:TC} (h:Ij P t=some (size c,some (zc c))) (h0:0 <size c):∃i,P.info? t=some i∧i.size=size c∧0 <size c∧∃z,i.zero=some z∧∀(F:Nat→Prop) (N:Nm) (nx:Nat) (R:World),HL F N nx R (enc c (Ae c)) z.cells.toList:=by
 unfold Ij at h
 cases hi:P.info? t with
 |none=>rw[hi] at h;cases h
 | some i=>
  rw[hi] at h
  have h':some (i.size,i.zero.map fun z=>z.cells.toList)=some (size c,some (zc c)):=h
  injection h' with h'
  injection h' with h1 h2
  cases hz:i.zero with
  |none=>rw[hz] at h2;cases h2
  |some z=>
   rw[hz] at h2
   injection h2 with h2
   have h3:z.cells.toList=zc c:=h2
   exact⟨i,rfl,h1,h0,z,hz,fun F N nx R=>by rw[h3];exact Bxe c F N nx R⟩
theorem Bns (c:TC):0 <size c:=by cases c<;>decide
def Bhb (t:TypeId):Option TC:=bif Nat.beq t 2 then some .i64 else bif Nat.beq t 3 then some .i64 else bif Nat.beq t 4 then some .bool else bif Nat.beq t 5 then some .u8 else bif Nat.beq t 9 then some .str else bif Nat.beq t 24 then some .stamp else bif Nat.beq t 25 then some .vec else bif Nat.beq t 26 then some .vec else bif Nat.beq t 29 then some .change else bif Nat.beq t 30 then some .ints else bif Nat.beq t 32 then some .rows else bif Nat.beq t 34 then some .msg else bif Nat.beq t 37 then some .bytes else bif Nat.beq t 38 then some .i64 else bif Nat.beq t 58 then some .digest else bif Nat.beq t 60 then some .cells else bif Nat.beq t 62 then some .row else bif Nat.beq t 102 then some .write else bif Nat.beq t 104 then some .cell else bif Nat.beq t 106 then some .group else bif Nat.beq t 120 then some .place else bif Nat.beq t 159 then some .u32 else none
theorem Brp:Ij Tryz.prog 2=some (size .i64,some (zc .i64)):=by kernel_rfl
theorem Brq:Ij Tryz.prog 3=some (size .i64,some (zc .i64)):=by kernel_rfl
theorem Brr:Ij Tryz.prog 4=some (size .bool,some (zc .bool)):=by kernel_rfl
theorem Brs:Ij Tryz.prog 5=some (size .u8,some (zc .u8)):=by kernel_rfl
theorem Brt:Ij Tryz.prog 9=some (size .str,some (zc .str)):=by kernel_rfl
theorem Bn0:Ij Tryz.prog 24=some (size .stamp,some (zc .stamp)):=by kernel_rfl
theorem Bn1:Ij Tryz.prog 25=some (size .vec,some (zc .vec)):=by kernel_rfl
theorem Bn2:Ij Tryz.prog 26=some (size .vec,some (zc .vec)):=by kernel_rfl
theorem Bn3:Ij Tryz.prog 29=some (size .change,some (zc .change)):=by kernel_rfl
theorem Bn4:Ij Tryz.prog 30=some (size .ints,some (zc .ints)):=by kernel_rfl
theorem Bn5:Ij Tryz.prog 32=some (size .rows,some (zc .rows)):=by kernel_rfl
theorem Bn6:Ij Tryz.prog 34=some (size .msg,some (zc .msg)):=by kernel_rfl
theorem Bn7:Ij Tryz.prog 37=some (size .bytes,some (zc .bytes)):=by kernel_rfl
theorem Bn8:Ij Tryz.prog 38=some (size .i64,some (zc .i64)):=by kernel_rfl
theorem Bn9:Ij Tryz.prog 58=some (size .digest,some (zc .digest)):=by kernel_rfl
theorem Boa:Ij Tryz.prog 60=some (size .cells,some (zc .cells)):=by kernel_rfl
theorem Bob:Ij Tryz.prog 62=some (size .row,some (zc .row)):=by kernel_rfl
theorem Bjk:Ij Tryz.prog 102=some (size .write,some (zc .write)):=by kernel_rfl
theorem Bjl:Ij Tryz.prog 104=some (size .cell,some (zc .cell)):=by kernel_rfl
theorem Bjm:Ij Tryz.prog 106=some (size .group,some (zc .group)):=by kernel_rfl
theorem Bjn:Ij Tryz.prog 120=some (size .place,some (zc .place)):=by kernel_rfl
theorem Bjo:Ij Tryz.prog 159=some (size .u32,some (zc .u32)):=by kernel_rfl
theorem Hb {P:Program} {t k:TypeId} {c c0:TC} {r:Option TC} (h:(bif Nat.beq t k then some c0 else r)=some c) (hk:Ij P k=some (size c0,some (zc c0))):Ij P t=some (size c,some (zc c))∨r=some c:=by
 cases hb:Nat.beq t k with
 |true=>rw[hb] at h;cases h;rw[Nat.eq_of_beq_eq_true hb];exact .inl hk
 |false=>rw[hb] at h;exact .inr h
theorem A9s:Bxi Tryz.prog Bhb:=fun t c h=>by
 refine Boc ?_ (Bns c)
 unfold Bhb at h
 rcases Hb h Brp with h|h
 ·exact h
 rcases Hb h Brq with h|h
 ·exact h
 rcases Hb h Brr with h|h
 ·exact h
 rcases Hb h Brs with h|h
 ·exact h
 rcases Hb h Brt with h|h
 ·exact h
 rcases Hb h Bn0 with h|h
 ·exact h
 rcases Hb h Bn1 with h|h
 ·exact h
 rcases Hb h Bn2 with h|h
 ·exact h
 rcases Hb h Bn3 with h|h
 ·exact h
 rcases Hb h Bn4 with h|h
 ·exact h
 rcases Hb h Bn5 with h|h
 ·exact h
 rcases Hb h Bn6 with h|h
 ·exact h
 rcases Hb h Bn7 with h|h
 ·exact h
 rcases Hb h Bn8 with h|h
 ·exact h
 rcases Hb h Bn9 with h|h
 ·exact h
 rcases Hb h Boa with h|h
 ·exact h
 rcases Hb h Bob with h|h
 ·exact h
 rcases Hb h Bjk with h|h
 ·exact h
 rcases Hb h Bjl with h|h
 ·exact h
 rcases Hb h Bjm with h|h
 ·exact h
 rcases Hb h Bjn with h|h
 ·exact h
 rcases Hb h Bjo with h|h
 ·exact h
 cases h
end Go.Proofs.YtifkbgkbajncjaaGreatDoor
namespace Go.Proofs.YtifkbgkbajncjaaGreatDoor
open Go.RowKit
theorem eqi (d:Nat) (a b:Int) (w:World):(Op.equalIn (d+1) 3 (.int .i64 a) (.int .i64 b)).run Tryz.prog w=.ok (a==b) w:=run_equalIn_int w d 3 .i64 .i64 a b Tryz.underlying3
theorem eqb (d:Nat) (a b:Bool) (w:World):(Op.equalIn (d+1) 4 (.bool a) (.bool b)).run Tryz.prog w=.ok (a==b) w:=run_equalIn_bool' w d 4 a b Tryz.underlying4
theorem eqs (d:Nat) (a b:ByteArray) (w:World):(Op.equalIn (d+1) 9 (.string a) (.string b)).run Tryz.prog w=.ok (a.toList==b.toList) w:=run_equalIn_string w d 9 a b Tryz.underlying9
@[go_sem] theorem eqVec (d:Nat) (a b x y:Int) (w:World):(Op.equalIn (d+2) 26 (.agg #[.int .i64 a,.int .i64 b]) (.agg #[.int .i64 x,.int .i64 y])).run Tryz.prog w=.ok (a==x&&b==y) w:=by
 have p0:∀a b w,(part 3 #[.int .i64 a,.int .i64 b] 0).run Tryz.prog w=Result.ok (.int .i64 a) w:=fun a b w=>by kernel_rfl
 have p1:∀a b w,(part 3 #[.int .i64 a,.int .i64 b] 1).run Tryz.prog w=Result.ok (.int .i64 b) w:=fun a b w=>by kernel_rfl
 unfold Op.equalIn
 cases h:a==x
 ·simp[Sem.run_bind,run_underlying Tryz.underlying26,List.range',p0,eqi,h]
 ·cases h':b==y<;>simp[Sem.run_bind,run_underlying Tryz.underlying26,List.range',p0,p1,eqi,h,h']
@[go_sem] theorem eqInt2 (d:Nat) (a b x y:Int) (w:World):(Op.equalIn (d+2) 25 (.agg #[.int .i64 a,.int .i64 b]) (.agg #[.int .i64 x,.int .i64 y])).run Tryz.prog w=.ok (a==x&&b==y) w:=by
 have p0:∀a b w,(part 3 #[.int .i64 a,.int .i64 b] 0).run Tryz.prog w=Result.ok (.int .i64 a) w:=fun a b w=>by kernel_rfl
 have p1:∀a b w,(part 3 #[.int .i64 a,.int .i64 b] 1).run Tryz.prog w=Result.ok (.int .i64 b) w:=fun a b w=>by kernel_rfl
 unfold Op.equalIn
 cases h:a==x
 ·simp[Sem.run_bind,run_underlying Tryz.underlying25,List.range',p0,eqi,h]
 ·cases h':b==y<;>simp[Sem.run_bind,run_underlying Tryz.underlying25,List.range',p0,p1,eqi,h,h']
@[go_sem] theorem eqStamp (d:Nat) (a b x y:Int) (w:World):(Op.equalIn (d+2) 24 (.agg #[.int .i64 a,.int .i64 b]) (.agg #[.int .i64 x,.int .i64 y])).run Tryz.prog w=.ok (a==x&&b==y) w:=by
 rw[run_equalIn_struct w (d+1) 24 _ _ (by kernel_rfl) (by kernel_rfl)]
 have p0:∀a b w,(part 3 #[.int .i64 a,.int .i64 b] 0).run Tryz.prog w=Result.ok (.int .i64 a) w:=fun a b w=>by kernel_rfl
 have p1:∀a b w,(part 3 #[.int .i64 a,.int .i64 b] 1).run Tryz.prog w=Result.ok (.int .i64 b) w:=fun a b w=>by kernel_rfl
 cases h:a==x
 ·simp[Program.fieldsOf,Tryz.underlying24,Op.eqFields,Sem.run_bind,p0,eqi,h]
 ·cases h':b==y<;>simp[Program.fieldsOf,Tryz.underlying24,Op.eqFields,Sem.run_bind,p0,p1,eqi,h,h']
@[go_sem] theorem eqCell (d:Nat) (a0 a1 a2 a3 a6 a7 b0 b1 b2 b3 b6 b7:Int) (a4 b4:Bool) (a5 b5:ByteArray) (w:World):(Op.equalIn (d+3) 104 (.agg #[.int .i64 a0,.int .i64 a1,.int .i64 a2,.int .i64 a3,.bool a4,.string a5,.int .i64 a6,.int .i64 a7]) (.agg #[.int .i64 b0,.int .i64 b1,.int .i64 b2,.int .i64 b3,.bool b4,.string b5,.int .i64 b6,.int .i64 b7])).run Tryz.prog w=.ok ((a0==b0&&a1==b1)&&((a2==b2&&a3==b3)&&((a4==b4)&&((a5.toList==b5.toList)&&(a6==b6&&a7==b7))))) w:=by
 rw[run_equalIn_struct w (d+2) 104 _ _ (by kernel_rfl) (by kernel_rfl)]
 have p0:∀(a0 a1 a2 a3 a6 a7:Int) (a4:Bool) (a5:ByteArray) (w:World),(part 24 #[.int .i64 a0,.int .i64 a1,.int .i64 a2,.int .i64 a3,.bool a4,.string a5,.int .i64 a6,.int .i64 a7] 0).run Tryz.prog w=Result.ok (.agg #[.int .i64 a0,.int .i64 a1]) w:=fun _ _ _ _ _ _ _ _ _=>by kernel_rfl
 have p1:∀(a0 a1 a2 a3 a6 a7:Int) (a4:Bool) (a5:ByteArray) (w:World),(part 26 #[.int .i64 a0,.int .i64 a1,.int .i64 a2,.int .i64 a3,.bool a4,.string a5,.int .i64 a6,.int .i64 a7] 2).run Tryz.prog w=Result.ok (.agg #[.int .i64 a2,.int .i64 a3]) w:=fun _ _ _ _ _ _ _ _ _=>by kernel_rfl
 have p2:∀(a0 a1 a2 a3 a6 a7:Int) (a4:Bool) (a5:ByteArray) (w:World),(part 4 #[.int .i64 a0,.int .i64 a1,.int .i64 a2,.int .i64 a3,.bool a4,.string a5,.int .i64 a6,.int .i64 a7] 4).run Tryz.prog w=Result.ok (.bool a4) w:=fun _ _ _ _ _ _ _ _ _=>by kernel_rfl
 have p3:∀(a0 a1 a2 a3 a6 a7:Int) (a4:Bool) (a5:ByteArray) (w:World),(part 9 #[.int .i64 a0,.int .i64 a1,.int .i64 a2,.int .i64 a3,.bool a4,.string a5,.int .i64 a6,.int .i64 a7] 5).run Tryz.prog w=Result.ok (.string a5) w:=fun _ _ _ _ _ _ _ _ _=>by kernel_rfl
 have p4:∀(a0 a1 a2 a3 a6 a7:Int) (a4:Bool) (a5:ByteArray) (w:World),(part 26 #[.int .i64 a0,.int .i64 a1,.int .i64 a2,.int .i64 a3,.bool a4,.string a5,.int .i64 a6,.int .i64 a7] 6).run Tryz.prog w=Result.ok (.agg #[.int .i64 a6,.int .i64 a7]) w:=fun _ _ _ _ _ _ _ _ _=>by kernel_rfl
 cases h0:(a0==b0&&a1==b1)
 ·simp only[Program.fieldsOf,Tryz.underlying104,Op.eqFields,Sem.run_bind,Sem.run_ite,Sem.run_pure,Result.andThen_ok,p0,eqStamp,h0];simp
 ·cases h1:(a2==b2&&a3==b3)
  ·simp only[Program.fieldsOf,Tryz.underlying104,Op.eqFields,Sem.run_bind,Sem.run_ite,Sem.run_pure,Result.andThen_ok,p0,p1,eqStamp,eqVec,h0,h1];simp
  ·cases h2:(a4==b4)
   ·simp only[Program.fieldsOf,Tryz.underlying104,Op.eqFields,Sem.run_bind,Sem.run_ite,Sem.run_pure,Result.andThen_ok,p0,p1,p2,eqStamp,eqVec,eqb,h0,h1,h2];simp
   ·cases h3:(a5.toList==b5.toList)
    ·simp only[Program.fieldsOf,Tryz.underlying104,Op.eqFields,Sem.run_bind,Sem.run_ite,Sem.run_pure,Result.andThen_ok,p0,p1,p2,p3,eqStamp,eqVec,eqb,eqs,h0,h1,h2,h3];simp
    ·cases h4:(a6==b6&&a7==b7)
     ·simp only[Program.fieldsOf,Tryz.underlying104,Op.eqFields,Sem.run_bind,Sem.run_ite,Sem.run_pure,Result.andThen_ok,p0,p1,p2,p3,p4,eqStamp,eqVec,eqb,eqs,h0,h1,h2,h3,h4];simp
     ·simp only[Program.fieldsOf,Tryz.underlying104,Op.eqFields,Sem.run_bind,Sem.run_ite,Sem.run_pure,Result.andThen_ok,p0,p1,p2,p3,p4,eqStamp,eqVec,eqb,eqs,h0,h1,h2,h3,h4];simp
theorem A6q:Tryz.prog.eqGuardType Tryz.prog.depth 26=false:=by kernel_rfl
@[go_sem] theorem grdVec (op:BinOp) (x y:Operand) (xs ys:Array Value) (w:World):(eqGuard op 26 x y (.agg xs) (.agg ys)).run Tryz.prog w=.ok () w:=run_eqGuard_agg w op 26 x y xs ys A6q
theorem Bih:Tryz.prog.eqGuardType Tryz.prog.depth 25=false:=by kernel_rfl
@[go_sem] theorem grdInt2 (op:BinOp) (x y:Operand) (xs ys:Array Value) (w:World):(eqGuard op 25 x y (.agg xs) (.agg ys)).run Tryz.prog w=.ok () w:=run_eqGuard_agg w op 25 x y xs ys Bih
theorem Ao9:Tryz.prog.eqGuardType Tryz.prog.depth 24=false:=by kernel_rfl
@[go_sem] theorem grdStamp (op:BinOp) (x y:Operand) (xs ys:Array Value) (w:World):(eqGuard op 24 x y (.agg xs) (.agg ys)).run Tryz.prog w=.ok () w:=run_eqGuard_agg w op 24 x y xs ys Ao9
theorem Ax9:Tryz.prog.eqGuardType Tryz.prog.depth 104=false:=by kernel_rfl
@[go_sem] theorem grdCell (op:BinOp) (x y:Operand) (xs ys:Array Value) (w:World):(eqGuard op 104 x y (.agg xs) (.agg ys)).run Tryz.prog w=.ok () w:=run_eqGuard_agg w op 104 x y xs ys Ax9
end Go.Proofs.YtifkbgkbajncjaaGreatDoor
namespace Go.Proofs.YtifkbgkbajncjaaGreatDoor
open Go.RowKit
def A57:List Value→List Value→Option Bool
 | [],[]=>some true
 | .int .u8 a::xs,.int .u8 b::ys=>match A57 xs ys with
  |some r=>some (a==b&&r)
  |none=>none
 |_,_=>none
theorem A6p:Tryz.prog.eqGuardType Tryz.prog.depth 58=false:=by kernel_rfl
theorem Bjp:Tryz.prog.underlying 58=some (.array 32 5):=by kernel_rfl
theorem Bpu:Tryz.prog.cellsOf 5=1:=by kernel_rfl
theorem Bxm (d:Nat) (a b:Int) (w:World):(Op.equalIn (d+1) 5 (.int .u8 a) (.int .u8 b)).run Tryz.prog w=.ok (a==b) w:=run_equalIn_int w d 5 .u8 .u8 a b (by kernel_rfl)
theorem Bm3 (w:World) {cs:Array Value} {i:Nat} {v:Value} (h:cs.toList[i]?=some v):(part 5 cs (i*1)).run Tryz.prog w=.ok v w:=by
 have hu:Tryz.prog.underlying 5=some (.int .u8):=by kernel_rfl
 have hc:cs[i]?=some v:=by simpa using h
 simp[part,isAgg,run_underlying hu,hc]
theorem Aoz (d:Nat) (cs ds:Array Value) (w:World):∀(xs ys:List Value) (k:Nat) (r:Bool),cs.toList.drop k=xs→ds.toList.drop k=ys→A57 xs ys=some r→(Op.eqItems (d+1) 5 1 cs ds (List.range' k xs.length)).run Tryz.prog w=.ok r w
 | [],ys,k,r,_,_,h=>by
  cases ys with
  |nil=>unfold A57 at h;cases h;simp[Op.eqItems]
  |cons _ _=>unfold A57 at h;cases h
 | x::xs,ys,k,r,h1,h2,h=>by
  unfold A57 at h
  split at h<;>first|(cases h;done)|skip
  ·rename_i e;cases e
  rename_i a xs' b ys' e
  cases e
  cases h3:A57 xs ys' with
  |none=>rw[h3] at h;cases h
  | some q=>
   rw[h3] at h
   cases h
   have hx:cs.toList[k]?=some (.int .u8 a):=by
    have:(cs.toList.drop k)[0]?=some (.int .u8 a):=by rw[h1];rfl
    rw[List.getElem?_drop] at this;simpa using this
   have hy:ds.toList[k]?=some (.int .u8 b):=by
    have:(ds.toList.drop k)[0]?=some (.int .u8 b):=by rw[h2];rfl
    rw[List.getElem?_drop] at this;simpa using this
   have n1:cs.toList.drop (k+1)=xs:=by rw[←List.drop_drop,h1];rfl
   have n2:ds.toList.drop (k+1)=ys':=by rw[←List.drop_drop,h2];rfl
   have ih:=Aoz d cs ds w xs ys' (k+1) q n1 n2 h3
   rw[List.length_cons,List.range'_succ]
   simp only[Op.eqItems,Sem.run_bind,Bm3 w hx,Bm3 w hy,Result.andThen_ok,Bxm]
   cases hab:a==b
   ·simp
   ·simpa using ih
theorem Blp (d:Nat) (xs ys:List Value) (r:Bool) (hn:Nat.beq xs.length 32=true) (h:A57 xs ys=some r) (w:World):(Op.equalIn (d+2) 58 (.agg xs.toArray) (.agg ys.toArray)).run Tryz.prog w=.ok r w:=by
 have hs:(Tryz.prog.info? 5).isSome=true:=by kernel_rfl
 obtain⟨i,hi⟩:=Option.isSome_iff_exists.1 hs
 rw[run_equalIn_array w (d+1) xs.toArray ys.toArray Bjp hi,Bpu,List.range_eq_range',←Nat.eq_of_beq_eq_true hn]
 exact Aoz d xs.toArray ys.toArray w xs ys 0 r (by simp) (by simp) h
end Go.Proofs.YtifkbgkbajncjaaGreatDoor
namespace Go.Proofs.YtifkbgkbajncjaaGreatDoor
open Go.RowKit
instance (n:Nat):Decidable (Aaa n):=.isFalse id
theorem Bth:Tryz.prog.follows .mixedOrders=true:=by kernel_rfl
def Bqd:List Value→List Value→Option Bool
 | [.int .i64 a,.int .i64 b],[.int .i64 x,.int .i64 y]=>some (a==x&&b==y)
 |_,_=>none
def Bwc:List Value→List Value→Option Bool
 | [.int .i64 a0,.int .i64 a1,.int .i64 a2,.int .i64 a3,.bool a4,.string a5,.int .i64 a6,.int .i64 a7],[.int .i64 b0,.int .i64 b1,.int .i64 b2,.int .i64 b3,.bool b4,.string b5,.int .i64 b6,.int .i64 b7]=>
  some ((a0==b0&&a1==b1)&&((a2==b2&&a3==b3)&&((a4==b4)&&((a5.toList==b5.toList)&&(a6==b6&&a7==b7)))))
 |_,_=>none
def Buf (t:TypeId) (xs ys:List Value):Option Bool:=bif Nat.beq t 58 then(bif Nat.beq xs.length 32 then A57 xs ys else none) else none
theorem Bqb:Bk1 Tryz.prog Buf:=fun t xs ys b h=>by
 unfold Buf at h
 cases h5:Nat.beq t 58 with
 | true=>
  rw[h5] at h
  rw[Nat.eq_of_beq_eq_true h5]
  refine⟨A6p,fun R=>?_⟩
  cases h6:Nat.beq xs.length 32 with
  |true=>
   rw[h6] at h
   exact Blp 9998 xs ys b h6 h R
  |false=>
   rw[h6] at h
   cases h
 |false=>
  rw[h5] at h
  cases h
abbrev Blr:=Buf
theorem Bic:Bk1 Tryz.prog Blr:=Bqb
abbrev Bwd:=Blr
theorem Bqc:Bk1 Tryz.prog Bwd:=Bic
theorem Bbo:Tryz.prog.eqGuardType Tryz.prog.depth 102=false:=by kernel_rfl
theorem Bqf (d:Nat) (a x e z:ByteArray) (b y:Int) (c u:Bool) (w:World):(Op.equalIn (d+2) 102 (.agg #[.string a,.int .i64 b,.bool c,.string e]) (.agg #[.string x,.int .i64 y,.bool u,.string z])).run Tryz.prog w=.ok (a.toList==x.toList&&(b==y&&(c==u&&e.toList==z.toList))) w:=by
 rw[run_equalIn_struct w (d+1) 102 _ _ (by kernel_rfl) (by kernel_rfl)]
 have p0:∀a b c e w,(part 9 #[.string a,.int .i64 b,.bool c,.string e] 0).run Tryz.prog w=Result.ok (.string a) w:=fun a b c e w=>by kernel_rfl
 have p1:∀a b c e w,(part 3 #[.string a,.int .i64 b,.bool c,.string e] 1).run Tryz.prog w=Result.ok (.int .i64 b) w:=fun a b c e w=>by kernel_rfl
 have p2:∀a b c e w,(part 4 #[.string a,.int .i64 b,.bool c,.string e] 2).run Tryz.prog w=Result.ok (.bool c) w:=fun a b c e w=>by kernel_rfl
 have p3:∀a b c e w,(part 9 #[.string a,.int .i64 b,.bool c,.string e] 3).run Tryz.prog w=Result.ok (.string e) w:=fun a b c e w=>by kernel_rfl
 cases h0:a.toList==x.toList
 ·simp[Program.fieldsOf,Tryz.underlying102,Op.eqFields,Sem.run_bind,p0,eqs,h0]
 ·cases h1:b==y
  ·simp[Program.fieldsOf,Tryz.underlying102,Op.eqFields,Sem.run_bind,p0,p1,eqi,eqs,h0,h1]
  ·cases h2:c==u
   ·simp[Program.fieldsOf,Tryz.underlying102,Op.eqFields,Sem.run_bind,p0,p1,p2,eqi,eqs,eqb,h0,h1,h2]
   ·cases h3:e.toList==z.toList<;>simp[Program.fieldsOf,Tryz.underlying102,Op.eqFields,Sem.run_bind,p0,p1,p2,p3,eqi,eqs,eqb,h0,h1,h2,h3]
def Bwe:List Value→List Value→Option Bool
 | [.string a,.int .i64 b,.bool c,.string e],[.string x,.int .i64 y,.bool u,.string z]=>some (a.toList==x.toList&&(b==y&&(c==u&&e.toList==z.toList)))
 |_,_=>none
def Bug (t:TypeId) (xs ys:List Value):Option Bool:=bif Nat.beq t 102 then Bwe xs ys else Bwd t xs ys
theorem Bqe:Bk1 Tryz.prog Bug:=fun t xs ys b h=>by
 unfold Bug at h
 cases h4:Nat.beq t 102 with
 |true=>
  rw[h4] at h
  rw[Nat.eq_of_beq_eq_true h4]
  refine⟨Bbo,fun R=>?_⟩
  unfold Bwe at h
  simp only[cond_true] at h
  split at h<;>first|(cases h;done)|skip
  cases h
  exact Bqf 9998 _ _ _ _ _ _ _ _ R
 |false=>
  rw[h4] at h
  exact Bqc t xs ys b h
def Bft (t:TypeId) (xs ys:List Value):Option Bool:=
 bif Nat.beq t 26 then Bqd xs ys else bif Nat.beq t 24 then Bqd xs ys else bif Nat.beq t 104 then Bwc xs ys else Bug t xs ys
theorem A6b:Bk1 Tryz.prog Bft:=fun t xs ys b h=>by
 unfold Bft at h
 cases h1:Nat.beq t 26 with
 |true=>
  rw[h1] at h
  rw[Nat.eq_of_beq_eq_true h1]
  refine⟨A6q,fun R=>?_⟩
  unfold Bqd at h
  simp only[cond_true] at h
  split at h<;>first|(cases h;done)|skip
  cases h
  exact eqVec 9998 _ _ _ _ R
 |false=>
 cases h2:Nat.beq t 24 with
 |true=>
  rw[h1,h2] at h
  rw[Nat.eq_of_beq_eq_true h2]
  refine⟨Ao9,fun R=>?_⟩
  unfold Bqd at h
  simp only[cond_true,cond_false] at h
  split at h<;>first|(cases h;done)|skip
  cases h
  exact eqStamp 9998 _ _ _ _ R
 |false=>
 cases h3:Nat.beq t 104 with
 |true=>
  rw[h1,h2,h3] at h
  rw[Nat.eq_of_beq_eq_true h3]
  refine⟨Ax9,fun R=>?_⟩
  unfold Bwc at h
  simp only[cond_true,cond_false] at h
  split at h<;>first|(cases h;done)|skip
  cases h
  exact eqCell 9997 _ _ _ _ _ _ _ _ _ _ _ _ _ _ _ _ R
 |false=>
  rw[h1,h2,h3] at h
  exact Bqe t xs ys b h
noncomputable def As (C:Tab) (L:A0e):Env:=⟨Tryz.prog,Bft,C,false,Bhb,L⟩
noncomputable def Bia (C:Tab):Env:=⟨Tryz.prog,Bft,C,true,Bhb,L0⟩
theorem Bp8 {C:Tab} {L:A0e} (hC:Cr Tryz.prog C) (hL:∀l s b ps outs,L l s=some (b,ps,outs)→Bk2 (As C L) l b s ps outs):RV (As C L) where
 suf f args nx o k x nx' o' ps h:=(hC f args nx o k x nx' o' ps h).2
 wide:=Bth
 eq:=A6b
 C f args nx o k x nx' o' ps h:=(hC f args nx o k x nx' o' ps h).1
 tc:=A9s
 loops:=hL
theorem Aaz {C:Tab} (hC:Cr Tryz.prog C):RV (Bia C) where
 suf f args nx o k x nx' o' ps h:=(hC f args nx o k x nx' o' ps h).2
 wide:=Bth
 eq:=A6b
 C f args nx o k x nx' o' ps h:=(hC f args nx o k x nx' o' ps h).1
 tc:=A9s
 loops _ _ _ _ _ h:=by cases h
end Go.Proofs.YtifkbgkbajncjaaGreatDoor
namespace Go.Proofs.YtifkbgkbajncjaaGreatDoor
open Go.RowKit
def G9 (L:A0e):Prop:=∀l s b ps outs,L l s=some (b,ps,outs)→Bk2 (As C0 L0) l b s ps outs
theorem AA:G9 L0:=fun _ _ _ _ _ h=>by cases h
theorem AH {l0:Nat} {g:St→Option (Code×List Prop×AR)} {L:A0e} (hg:∀s b ps outs,g s=some (b,ps,outs)→Wf s ⟨ps,outs,none⟩∧Bg (As C0 L0) b s ps outs) (hL:G9 L):G9 (Dd l0 g L):=fun l s b ps outs h=>by
 unfold Dd at h
 cases hb:Nat.beq l l0 with
 |true=>
  rw[hb,cond_true] at h
  cases hr:Nat.ble rfK l with
  |true=>rw[hr] at h;cases h
  |false=>rw[hr] at h;exact⟨fun _=>hg s b ps outs h,fun e=>by rw[hr] at e;cases e⟩
 |false=>rw[hb] at h;exact hL l s b ps outs h
theorem Ar {C:Tab} {L:A0e} (hC:Cr Tryz.prog C) (hL:G9 L):RV (As C L):=Bp8 hC hL
theorem AT {C:Tab} {L:A0e} (hC:Cr Tryz.prog C) (hL:G9 L) {u:Nat} {b:Code} {S:Cz} {En:CX} {X:Type} {T:X→St} {unT:St→Option X} {fuel:X→Nat} {next:X→X} {goes:X→Cnd} {psA ps:X→List Prop} {outs:X→AR} (hS:okL S.nb S.nx1 S.ren=true) (hnb:S.nb≤S.nx1)
  (hr:∀x,Ba (As C L) u b S (T x)=some (psA x,outs x,goes x,T (next x))) (hA:∀x,(∀p∈ps x,p)→∀p∈psA x,p) (hu:∀s x,unT s=some x→s=T x)
  (hw:∀x,NS (outs x)∧∀t c y,AE t (outs x)=some (c,y)→y.n=(T x).n) (hTn:∀x y,(T x).n=(T y).n):∀s b0 qs os,HB (As C L) b S En unT fuel next goes ps outs s=some (b0,qs,os)→Wf s ⟨qs,os,none⟩∧Bg (As C0 L0) b0 s qs os:=
 fun _ _ _ _ he=>Brf (Ar hC hL) hS hnb hr hA hu hw hTn he
def Bb9 (n:Nat):AR→Bool
 | []=>true
 |(t,_,s)::r=>Nat.beq s.n n&&((match AE t r with|some _=>false|none=>true)&&Bb9 n r)
theorem AD {n:Nat}:∀{o:AR},Bb9 n o=true→NS o∧∀t c y,AE t o=some (c,y)→y.n=n
 | [],_=>⟨trivial,fun t c y h=>by cases h⟩
 | (k,d,s)::r,h=>by
  unfold Bb9 at h
  simp only[Bool.and_eq_true] at h
  obtain⟨h1,h2,h3⟩:=h
  obtain⟨g1,g2⟩:=AD h3
  refine⟨⟨?_,g1⟩,fun t c y hy=>?_⟩
  ·cases hg:AE k r with
   |none=>rfl
   |some x=>rw[hg] at h2;cases h2
  ·have hy':(bif Fh k t then some (d,s) else AE t r)=some (c,y):=hy
   cases hb:Fh k t with
   |true=>rw[hb] at hy';cases hy';exact Nat.eq_of_beq_eq_true h1
   |false=>rw[hb] at hy';exact g2 t c y hy'
theorem M6 (x:Int):0≤IntKind.u8.wrap x∧IntKind.u8.wrap x <256:=by
 simp only[IntKind.wrap,IntKind.bits,IntKind.signed]
 have h1:=Int.emod_nonneg x (show(256:Int)≠0 by decide)
 have h2:=Int.emod_lt_of_pos x (show(0:Int) <256 by decide)
 exact⟨h1,h2⟩
theorem Bhm (x:Int):0≤IntKind.u64.wrap x:=by
 simp only[IntKind.wrap,IntKind.bits,IntKind.signed]
 exact Int.emod_nonneg x (by decide)
def Bv9 (c:TC) (x:A):Option (U c×List Prop):=match Aeb x with
 |some cs=>Qy c cs
 |none=>none
def Bt4 (c:TC):A→Option (List (U c))
 | .sl c' l=>match TC.same c' c with
  |some h=>some (Lb h.down l)
  |none=>none
 | .nl=>some []
 | .v x=>bif DC x then some [] else none
 |_=>none
section
variable {F:Nat→Prop} {N:Nm} {nx:Nat} {R:World}
theorem Bpr {c:TC} {x:A} {l:List (U c)} {v:Value} (he:Bt4 c x=some l) (h:Hv F N nx R x v):Hv F N nx R (.sl c l) v:=by
 unfold Bt4 at he
 split at he<;>first|(cases he;done)|skip
 ·split at he<;>first|(cases he;done)|skip
  rename_i h1 _
  obtain⟨h1⟩:=h1
  subst h1
  cases he
  exact h
 ·cases he
  obtain⟨a,e⟩:=h.nl_inv
  exact Hv.sl_nil e
 ·rename_i x
  cases hb:DC x with
  |false=>rw[hb] at he;cases he
  |true=>
   rw[hb] at he
   cases he
   exact Hv.sl_nil (by rw[h.v_inv,Gn hb])
theorem Bbp {c:TC} {d:U c} {vs:List Value} (h:HL F N nx R (enc c d) vs) (ha:c.isAgg=true):Hv F N nx R (Ai c d) (.agg vs.toArray):=by
 unfold Ai
 rw[ha]
 exact RW h
theorem Bma {c:TC} {d:U c} {vs:List Value} {v:Value} (h:HL F N nx R (enc c d) vs) (ha:c.isAgg=false) (hv:vs[0]?=some v):Hv F N nx R (Ai c d) v:=by
 unfold Ai
 rw[ha]
 show Hv F N nx R (match enc c d with|x::_=>x| []=> .dead) v
 generalize enc c d=l at h
 cases l with
 |nil=>exact .dead _
 |cons x r=>
  obtain⟨w,ws,rfl,h1,_⟩:=h.inv
  cases hv
  exact h1
def S5 (c:TC):A→Bool
 | .v (.agg _)=>c.isAgg
 | .agg _=>c.isAgg
 | .v (.tuple _)=>false
 | .v x=>!c.isAgg&&x.oneCell'
 | .opt _ _ _=>false
 | .tup _=>false
 | .dead=>false
 | .it _ _=>false
 | .sq _=>false
 | .dq _=>false
 | .iv _ _=>false
 | .de _ _ _ _=>false
 | .ie _ _ _ _ _=>false
 | .av _ _ _=>false
 | .rv _=>false
 | .vr _ _ _ _=>false
 | .vd _ _ _ _=>false
 |_=>!c.isAgg
def Bt5 (c:TC) (x:A):Option (U c×List Prop):=bif S5 c x then Bv9 c x else none
theorem Bps {c:TC} {x:A} {d:U c} {ps:List Prop} {v:Value} (he:Bt5 c x=some (d,ps)) (hp:∀p∈ps,p) (h:Hv F N nx R x v):Hv F N nx R (Ai c d) v:=by
 unfold Bt5 at he
 cases hf:S5 c x with
 |false=>rw[hf] at he;cases he
 | true=>
  rw[hf] at he
  simp only[cond_true] at he
  unfold Bv9 at he
  split at he<;>first|(cases he;done)|skip
  rename_i cs hcs
  have hd:=YG (F:=F) (N:=N) (nx:=nx) (R:=R) he hp
  have single:∀{y:A},Hv F N nx R y v→cs=[y]→c.isAgg=false→Hv F N nx R (Ai c d) v:=fun {y} hy e hc=>by
   subst e
   exact Bma (hd [v] (HL.cons hy HL.nil)) hc rfl
  cases x<;>first|(cases hf;done)|skip
  ·rename_i y
   have hv:=h.v_inv
   subst hv
   cases hcs
   have hl:HL F N nx R (toL v.cells.toList) v.cells.toList:=HL.toL _
   cases v with
   |agg xs=>
    have hl':HL F N nx R (toL xs.toList) xs.toList:=hl
    have:=Bbp (hd _ hl') hf
    simpa using this
   |tuple xs=>cases hf
   |_=>
    simp only[S5,Bool.and_eq_true,Bool.not_eq_true'] at hf
    exact Bma (hd _ hl) hf.1 rfl
  ·cases hcs
   exact single h rfl (by simpa[S5] using hf)
  ·cases hcs
   exact single h rfl (by simpa[S5] using hf)
  ·cases hcs
   exact single h rfl (by simpa[S5] using hf)
  ·cases hcs
   exact single h rfl (by simpa[S5] using hf)
  ·cases hcs
   exact single h rfl (by simpa[S5] using hf)
  ·cases hcs
   exact single h rfl (by simpa[S5] using hf)
  ·cases hcs
   exact single h rfl (by simpa[S5] using hf)
  ·cases hcs
   exact single h rfl (by simpa[S5] using hf)
  ·cases hcs
   exact single h rfl (by simpa[S5] using hf)
  ·cases hcs
   obtain⟨vs,rfl,h2⟩:=h.agg_inv
   exact Bbp (hd _ h2) hf
end
theorem QP:freeL []=true:=by unfold freeL;rfl
theorem J6 {x:A} {r:List A} (h:x.free=true) (k:freeL r=true):freeL (x::r)=true:=by unfold freeL;rw[h,k];rfl
theorem Azz (c:TC) (d:U c):(Ai c d).free=true:=by
 have hfr:∀l:List A,(∀x∈l,x.free=true)→freeL l=true:=fun l=>by
  induction l with
  |nil=>intro _;unfold freeL;rfl
  |cons x r ih=>intro h;unfold freeL;rw[h x (List.mem_cons_self ..),ih fun y hy=>h y (List.mem_cons_of_mem _ hy)];rfl
 have h:=A55 c d
 unfold Ai
 cases c.isAgg with
 |true=>
  show(QA (enc c d)).free=true
  unfold QA
  split
  ·unfold A.free;rfl
  ·unfold A.free;exact hfr _ h
 |false=>
  show A.free (match enc c d with|x::_=>x| []=> .dead)=true
  have hl:=YI c d
  have hs:0 <size c:=by cases c<;>decide
  generalize enc c d=l at h hl
  cases l with
  |nil=>rw[←hl] at hs;cases hs
  |cons x r=>exact h x (List.mem_cons_self ..)
theorem A5f {P:Program} {f:FuncId} {args args':List A} {nx k nx':Nat} {o o':Objs} {x:A} (h:CallOk P f args' nx o k x nx' o') (ha:∀(F:Nat→Prop) (N:Nm) (R:World) (vs:List Value),HL F N nx R args vs→HL F N nx R args' vs):CallOk P f args nx o k x nx' o':=
 fun F N R vs hh hl=>h F N R vs hh (ha F N R vs hl)
inductive Kd where
 |l (c:TC)
 |t (c:TC)
 |a (c:TC) (n:Nat)
def Fn (X:Type):List Kd→Type
 | []=>X
 | .l c::r=>List (U c)→Fn X r
 | .t c::r=>U c→Fn X r
 | .a c _::r=>List (U c)→Fn X r
abbrev FnP:=Fn (List Prop)
def Bxj (ps:List Prop):Prop:=∀p∈ps,p
def Bpl (q:List Prop):Option A6→Option A6
 |some (k,x,nx,o,p)=>some (k,x,nx,o,q++p)
 |none=>none
def A9e (m nx:Nat) (ob:Objs):(ks:List Kd)→Fn A ks→Fn Objs ks→FnP ks→List A→Option A6
 | [],r,o,ps,[]=>some (1,A.pk (ZT nx) r,nx+m,ZS nx o++ob,ps)
 | .l c::ks,r,o,ps,y::ys=>match Bt4 c y with
  |some a=>A9e m nx ob ks (r a) (o a) (ps a) ys
  |none=>none
 | .t c::ks,r,o,ps,y::ys=>match Bt5 c y with
  |some (a,q)=>Bpl q (A9e m nx ob ks (r a) (o a) (ps a) ys)
  |none=>none
 | .a c n::ks,r,o,ps,y::ys=>match Bpq c n y with
  |some (a,q)=>Bpl q (A9e m nx ob ks (r a) (o a) (ps a) ys)
  |none=>none
 |_,_,_,_,_=>none
def Bt (ks:List Kd) (m:Nat) (r:Fn A ks) (o:Fn Objs ks) (ps:FnP ks):List A→Nat→Objs→Option A6:=fun args nx ob=>A9e m nx ob ks r o ps args
def OkG (P:Program) (f:FuncId) (m:Nat):(ks:List Kd)→List A→Fn A ks→Fn Objs ks→FnP ks→Prop
 | [],pre,r,o,ps=>Bxj ps→CallOk P f pre 0 [] 1 r m o
 | .l c::ks,pre,r,o,ps=>∀a,OkG P f m ks (pre++[.sl c a]) (r a) (o a) (ps a)
 | .t c::ks,pre,r,o,ps=>∀a,OkG P f m ks (pre++[Ai c a]) (r a) (o a) (ps a)
 | .a c n::ks,pre,r,o,ps=>∀a,OkG P f m ks (pre++[.av c n a]) (r a) (o a) (ps a)
theorem Ws:∀{a b:List A},freeL a=true→freeL b=true→freeL (a++b)=true
 | [],_,_,h=>h
 |x::a,b,h,g=>by
  unfold freeL at h
  rw[Bool.and_eq_true] at h
  exact J6 h.1 (Ws h.2 g)
theorem Bre {P:Program} {f:FuncId} {m nx:Nat} {ob:Objs}:∀(ks:List Kd) (pre ys:List A) (r:Fn A ks) (o:Fn Objs ks) (ps:FnP ks),freeL pre=true→OkG P f m ks pre r o ps→∀{k x nx' o' qs},A9e m nx ob ks r o ps ys=some (k,x,nx',o',qs)→
  (∃d,o'=d++ob)∧∃zs,freeL zs=true∧((∀p∈qs,p)→(∀(F:Nat→Prop) (N:Nm) (R:World) (vs:List Value),HL F N nx R ys vs→HL F N nx R zs vs)∧CallOk P f (pre++zs) nx ob k x nx' o'):=by
 intro ks
 induction ks with
 | nil=>
  intro pre ys r o ps hf hok k x nx' o' qs he
  cases ys with
  |cons y ys=>cases he
  |nil=>
   cases he
   exact⟨⟨_,rfl⟩,[],QP,fun hp=>⟨fun _ _ _ _ h=>h,by rw[List.append_nil];exact A0n (hok hp) (Nat.le_refl _) hf nx ob⟩⟩
 | cons kd ks ih=>
  intro pre ys r o ps hf hok k x nx' o' qs he
  cases ys with
  |nil=>cases kd<;>cases he
  | cons y ys=>
   cases kd with
   |l c=>
    unfold A9e at he
    split at he<;>first|(cases he;done)|skip
    rename_i a ha
    obtain⟨h1,zs,h2,h3⟩:=ih (pre++[.sl c a]) ys (r a) (o a) (ps a) (Ws hf (J6 (by unfold A.free;rfl) QP)) (hok a) he
    refine⟨h1,.sl c a::zs,J6 (by unfold A.free;rfl) h2,fun hp=>⟨fun F N R vs hl=>?_,by have:=(h3 hp).2;rwa[List.append_assoc] at this⟩⟩
    obtain⟨v,w,rfl,q1,q2⟩:=hl.inv
    exact HL.cons (Bpr ha q1) ((h3 hp).1 F N R w q2)
   |t c=>
    unfold A9e at he
    split at he<;>first|(cases he;done)|skip
    rename_i a q ha
    unfold Bpl at he
    split at he<;>first|(cases he;done)|skip
    rename_i k1 x1 nx1 o1 p1 he1
    cases he
    obtain⟨h1,zs,h2,h3⟩:=ih (pre++[Ai c a]) ys (r a) (o a) (ps a) (Ws hf (J6 (Azz _ _) QP)) (hok a) he1
    refine⟨h1,Ai c a::zs,J6 (Azz _ _) h2,fun hp=>?_⟩
    have hp1:=fun p hm=>hp p (List.mem_append.2 (.inl hm))
    have hp2:=h3 fun p hm=>hp p (List.mem_append.2 (.inr hm))
    refine⟨fun F N R vs hl=>?_,by have:=hp2.2;rwa[List.append_assoc] at this⟩
    obtain⟨v,w,rfl,q1,q2⟩:=hl.inv
    exact HL.cons (Bps ha hp1 q1) (hp2.1 F N R w q2)
   |a c n=>
    unfold A9e at he
    split at he<;>first|(cases he;done)|skip
    rename_i a q ha
    unfold Bpl at he
    split at he<;>first|(cases he;done)|skip
    rename_i k1 x1 nx1 o1 p1 he1
    cases he
    obtain⟨h1,zs,h2,h3⟩:=ih (pre++[.av c n a]) ys (r a) (o a) (ps a) (Ws hf (J6 (by unfold A.free;rfl) QP)) (hok a) he1
    refine⟨h1,.av c n a::zs,J6 (by unfold A.free;rfl) h2,fun hp=>?_⟩
    have hp1:=fun p hm=>hp p (List.mem_append.2 (.inl hm))
    have hp2:=h3 fun p hm=>hp p (List.mem_append.2 (.inr hm))
    refine⟨fun F N R vs hl=>?_,by have:=hp2.2;rwa[List.append_assoc] at this⟩
    obtain⟨v,w,rfl,q1,q2⟩:=hl.inv
    exact HL.cons (Bfh ha hp1 q1) (hp2.1 F N R w q2)
theorem Av {P:Program} {f:FuncId} {ks:List Kd} {m:Nat} {r:Fn A ks} {o:Fn Objs ks} {ps:FnP ks} (h:OkG P f m ks [] r o ps):HF P f (Bt ks m r o ps):=fun args nx ob k x nx' o' qs he=>by
 obtain⟨h1,zs,_,h3⟩:=Bre ks [] args r o ps QP h he
 exact⟨fun hp=>A5f (h3 hp).2 (h3 hp).1,h1⟩
theorem HW.free {F:Nat→Prop} {N N':Nm} {nx nx':Nat} {R:World}:∀{xs:List A} {us:List Value},freeL xs=true→HW F N nx R xs us→HW F N' nx' R xs us
 | [],_,_,h=>h
 |x::r,_,hf,⟨v,t,h1,h2,h3,h4⟩=>by unfold freeL at hf;rw[Bool.and_eq_true] at hf;exact⟨v,t,h1,h2.free hf.1,h3,HW.free hf.2 h4⟩
end Go.Proofs.YtifkbgkbajncjaaGreatDoor
namespace Go.Proofs.YtifkbgkbajncjaaGreatDoor
open Go.RowKit
def G5 (k:IntKind) (n:Int):Prop:=(Lit.int k n).wf=true
def WfS (x:TStamp):Prop:=G5 .i64 x.n∧G5 .i64 x.site
def WfV (x:TVec):Prop:=G5 .i64 x.a∧G5 .i64 x.b
def Yv (x:TCell):Prop:=WfS x.stamp∧WfV x.vec∧True∧x.value.size≤maxLen∧WfV x.dead
def Axj (x:Ak):Prop:=x.key.size≤maxLen∧(x.cells.length≤maxLen∧∀y∈x.cells,Yv y)
def Bfe (x:Aw):Prop:=x.key.size≤maxLen∧G5 .i64 x.group∧True∧x.value.size≤maxLen
def A41 (x:TChange):Prop:=G5 .i64 x.site∧G5 .i64 x.seq∧WfS x.stamp∧WfV x.vec∧(x.writes.length≤maxLen∧∀y∈x.writes,Bfe y)
def Bfd (x:Yu):Prop:=G5 .i64 x.group∧x.value.size≤maxLen
def Wfd:(c:TC)→U c→Prop
 | .i64,n=>G5 .i64 n
 | .u32,n=>G5 .u32 n
 | .str,s=>s.size≤maxLen
 | .vec,x=>WfV x
 | .stamp,x=>WfS x
 | .cell,x=>Yv x
 | .group,x=>x.name.size≤maxLen∧G5 .i64 x.policy
 | .write,x=>Bfe x
 | .row,x=>Axj x
 | .change,x=>A41 x
 | .field,x=>Bfd x
 | .view,x=>x.key.size≤maxLen∧(x.fields.length≤maxLen∧∀y∈x.fields,Bfd y)
 | .told,x=>G5 .i64 x.ack∧G5 .i64 x.own∧G5 .i64 x.come
 | .act,x=>G5 .i64 x.kind∧Axj x.row∧x.til.size≤maxLen∧G5 .i64 x.n
 | .front,x=>G5 .i64 x.site∧G5 .i64 x.acked∧G5 .i64 x.stable∧G5 .i64 x.wait∧G5 .i64 x.til
 | .ask,x=>WfS x.stamp∧WfV x.vec∧True∧x.value.size≤maxLen
 | .two,x=>Axj x.row∧G5 .i64 x.group∧Yv x.cell
 | .note,x=>x.name.size≤maxLen∧x.text.size≤maxLen
 | .packet,x=>G5 .i64 x.src∧x.bytes.size≤maxLen
 | .place,x=>x.key.size≤maxLen∧G5 .i64 x.group
 | .bytes,l=>l.length≤maxLen∧∀y∈l,True
 | .ints,l=>l.length≤maxLen∧∀y∈l,G5 .i64 y
 | .cells,l=>l.length≤maxLen∧∀y∈l,Yv y
 | .rows,l=>l.length≤maxLen∧∀y∈l,Axj y
 | .ask3,x=>x.key.size≤maxLen∧x.from_.size≤maxLen∧x.til.size≤maxLen∧G5 .i64 x.n
 | .three,x=>(x.a.length≤maxLen∧∀y∈x.a,Yv y)∧(x.b.length≤maxLen∧∀y∈x.b,Yv y)∧(x.c.length≤maxLen∧∀y∈x.c,Yv y)
 | .digest,x=>x.length=32
 | .msg,x=>G5 .i64 x.kind∧G5 .i64 x.site∧A41 x.change∧G5 .i64 x.ack∧G5 .i64 x.own∧(x.path.length≤maxLen∧∀y∈x.path,G5 .i64 y)∧(x.sums.length≤maxLen∧∀y∈x.sums,y.length=32)∧(x.rows.length≤maxLen∧∀y∈x.rows,Axj y)∧WfV x.know∧True
 |_,_=>True
def FB (w:World) (F:Nat→Prop):Prop:=∀b,b <w.heap.size→F b
def Bv5 (P:Program) (c:TC) (t:TypeId) {H:Type} (en:TypeId×Value→H) (w:World) (base:Nat) (spare:Nat→Bool) (held:Bool):Prop:=
 ∀(m:Nat) (cs:List Value) (y:DataW H×List MemPlace),DataW.trod en P w base spare held m t cs=some y→∃x:U c,Wfd c x∧∀(F:Nat→Prop) (N:Nm) (nx:Nat),FB w F→HL F N nx w (enc c x) cs
def Opn (P:Program) (c:TC) (t:TypeId):Prop:=∀{H:Type} (en:TypeId×Value→H) (w:World) (base:Nat) (spare:Nat→Bool) (held:Bool),Bv5 P c t en w base spare held
def Z9 (P:Program) (c:TC) (t:TypeId):Prop:=∀{H:Type} (en:TypeId×Value→H) (w:World) (base:Nat) (spare:Nat→Bool) (held:Bool) (m:Nat) (cs:List Value) (y:DataW H×List MemPlace),
 DataW.trod en P w base spare held m t cs=some y→∃l:List (U c),(l.length≤maxLen∧∀x∈l,Wfd c x)∧∀(F:Nat→Prop) (N:Nm) (nx:Nat),FB w F→HL F N nx w [.sl c l] cs
section
variable {P:Program} {t:TypeId}
theorem Bq5 (hu:P.underlying t=some (.int .i64)):Opn P .i64 t:=fun en w base spare held m cs y h=>by
 obtain⟨n,rfl,_,hw⟩:=DataW.trod_int hu h
 exact⟨n,hw,fun F N nx _=>HL.cons (Hv.v _) HL.nil⟩
theorem Bus (hu:P.underlying t=some (.int .u8)):Opn P .u8 t:=fun en w base spare held m cs y h=>by
 obtain⟨n,rfl,_,hw⟩:=DataW.trod_int hu h
 refine⟨UInt8.ofNat n.toNat,trivial,fun F N nx _=>?_⟩
 have hn:0≤n∧n <256:=by
  simp[Lit.wf,IntKind.min,IntKind.max,IntKind.signed,IntKind.bits] at hw
  omega
 have e:AY (UInt8.ofNat n.toNat)=.int .u8 n:=by
  unfold AY
  have:((UInt8.ofNat n.toNat).toNat:Int)=n:=by
   rw[UInt8.toNat_ofNat']
   omega
  rw[this]
 exact HL.cons (by rw[e];exact Hv.v _) HL.nil
theorem Bm0 (hu:P.underlying t=some .bool):Opn P .bool t:=fun en w base spare held m cs y h=>by
 obtain⟨n,rfl,_⟩:=DataW.trod_bool hu h
 exact⟨n,trivial,fun F N nx _=>HL.cons (Hv.v _) HL.nil⟩
theorem Bq6 (hu:P.underlying t=some .string):Opn P .str t:=fun en w base spare held m cs y h=>by
 obtain⟨n,rfl,_,hw⟩:=DataW.trod_string hu h
 exact⟨n,hw,fun F N nx _=>HL.cons (Hv.v _) HL.nil⟩
theorem Bgg {α:Type} {Q:Nat→α→Prop}:∀(n:Nat),(∀i,i <n→∃x,Q i x)→∃l:List α,l.length=n∧∀(i:Nat) (x:α),l[i]?=some x→Q i x
 |0,_=>⟨[],rfl,fun i x h=>by cases h⟩
 | n+1,h=>by
  obtain⟨l,h1,h2⟩:=Bgg n fun i hi=>h i (by omega)
  obtain⟨x,hx⟩:=h n (by omega)
  refine⟨l++[x],by simp[h1],fun i y hy=>?_⟩
  rcases Nat.lt_trichotomy i n with hi|rfl|hi
  ·rw[List.getElem?_append_left (by omega)] at hy
   exact h2 i y hy
  ·rw[List.getElem?_append_right (by omega)] at hy
   simp[h1] at hy
   subst hy
   exact hx
  ·rw[List.getElem?_eq_none (by simp;omega)] at hy
   cases hy
theorem Aec {w:World} {base:Nat} {a:Addr} {n:Nat} {cs:List Value} (h:w.cells? base a n=some cs):base≤a.block∧cs.length=n∧∀(j:Nat) (v:Value),cs[j]?=some v→w.cell? (a.add j)=some v:=by
 unfold World.cells? at h
 split at h
 ·rename_i hb
  refine⟨hb,by simpa using mapM_some_length h,fun j v hv=>?_⟩
  have hl:cs.length=n:=by simpa using mapM_some_length h
  have hj:j <n:=by
   have:=(List.getElem?_eq_some_iff.1 hv).1
   omega
  have:=mapM_some_get h j j (by simp[hj])
  rw[this,hv]
 ·cases h
theorem Rg {c:TC} {e:TypeId} (hu:P.underlying t=some (.slice e)) (hs:P.cellsOf e=size c) (he:Opn P c e):Z9 P c t:=fun en w base spare held m cs y h=>by
 rcases DataW.trod_slice hu h with⟨rfl,_⟩|⟨a,len,cap,elems,rest,n,_,rfl,_,hb,hlc,hcm,hel,hg,_⟩
 ·exact⟨[],⟨Nat.zero_le _,fun x hx=>by cases hx⟩,fun F N nx _=>HL.cons (Hv.sl_nil (a:=none) rfl) HL.nil⟩
 ·have each:∀i,i <len→∃x:U c,Wfd c x∧∃zs,w.cells? base (a.add (i*size c)) (size c)=some zs∧∀(F:Nat→Prop) (N:Nm) (nx:Nat),FB w F→HL F N nx w (enc c x) zs:=fun i hi=>by
   have:=hg i hi
   rw[hs] at this
   have h2:elems[i]?≠none:=by
    intro h0
    rw[List.getElem?_eq_none_iff] at h0
    omega
   obtain⟨z,hz⟩:=Option.ne_none_iff_exists'.1 h2
   rw[hz] at this
   obtain⟨zs,h3,h4⟩:=Option.bind_eq_some_iff.1 this
   obtain⟨x,h5,h6⟩:=he en w base spare held n zs z h4
   exact⟨x,h5,zs,h3,h6⟩
  obtain⟨l,h1,h2⟩:=Bgg len each
  refine⟨l,⟨by omega,fun x hx=>?_⟩,fun F N nx hF=>HL.cons ?_ HL.nil⟩
  ·obtain⟨i,hi⟩:=List.getElem?_of_mem hx
   exact(h2 i x hi).1
  ·subst h1
   refine Hv.sl a hlc (fun hp=>⟨rfl,?_⟩) (fun i d j x hd hx=>?_) (fun i d j x y hd hx hy=>?_)
   ·obtain⟨_,zs,h3,h4⟩:=h2 0 l[0] (by rw[List.getElem?_eq_getElem hp])
    obtain⟨_,h5,h6⟩:=Aec h3
    have hsz:0 <zs.length:=by rw[h5];cases c<;>decide
    have:=h6 0 zs[0] (by rw[List.getElem?_eq_getElem hsz])
    have:=World.block_lt_of_cell? w _ this
    rw[HI,HI] at this
    exact hF _ this
   ·obtain⟨_,zs,h3,h4⟩:=h2 i d hd
    obtain⟨v,h5,h6⟩:=(h4 F N nx hF).get hx
    refine⟨v,?_⟩
    rw[←Cs]
    exact(Aec h3).2.2 j v h5
   ·obtain⟨_,zs,h3,h4⟩:=h2 i d hd
    obtain⟨v,h5,h6⟩:=(h4 F N nx hF).get hx
    have:=(Aec h3).2.2 j v h5
    rw[Cs,hy] at this
    cases this
    exact h6
end
section
variable {H:Type} {en:TypeId×Value→H} {P:Program} {w:World} {base:Nat} {spare:Nat→Bool} {held:Bool} {F:Nat→Prop} {N:Nm} {nx:Nat}
theorem MC {fs:Array Field} {cs:List Value} {m i:Nat} {xs:List (DataW H×List MemPlace)} {f:Field} {t:TypeId} {o k:Nat} {c:TC} (ho:Opn P c t) (hf:fs[i]?=some f) (ht:f.type=t) (hof:f.offset=o) (hk:P.cellsOf t=k) (hi:i <xs.length)
  (g:∀(i:Nat) (f:Field),fs[i]?=some f→DataW.trod en P w base spare held m f.type ((cs.drop f.offset).take (P.cellsOf f.type))=xs[i]?):∃x:U c,Wfd c x∧∀(F:Nat→Prop) (N:Nm) (nx:Nat),FB w F→HL F N nx w (enc c x) ((cs.drop o).take k):=by
 subst ht hof hk
 have:=g i f hf
 rw[List.getElem?_eq_getElem hi] at this
 exact ho en w base spare held m _ _ this
theorem Blx {fs:Array Field} {cs:List Value} {m i:Nat} {xs:List (DataW H×List MemPlace)} {f:Field} {t:TypeId} {o k:Nat} {c:TC} (ho:Z9 P c t) (hf:fs[i]?=some f) (ht:f.type=t) (hof:f.offset=o) (hk:P.cellsOf t=k) (hi:i <xs.length)
  (g:∀(i:Nat) (f:Field),fs[i]?=some f→DataW.trod en P w base spare held m f.type ((cs.drop f.offset).take (P.cellsOf f.type))=xs[i]?):∃l:List (U c),(l.length≤maxLen∧∀x∈l,Wfd c x)∧∀(F:Nat→Prop) (N:Nm) (nx:Nat),FB w F→HL F N nx w [.sl c l] ((cs.drop o).take k):=by
 subst ht hof hk
 have:=g i f hf
 rw[List.getElem?_eq_getElem hi] at this
 exact ho en w base spare held m _ _ this
theorem Jg {cs:List Value} {m i n:Nat} {xs:List (DataW H×List MemPlace)} {t:TypeId} {k:Nat} {c:TC} (ho:Opn P c t) (hk:P.cellsOf t=k) (hx:i <xs.length) (hn:i <n)
  (g:∀(i:Nat),i <n→DataW.trod en P w base spare held m t ((cs.drop (i*P.cellsOf t)).take (P.cellsOf t))=xs[i]?):∃x:U c,Wfd c x∧∀(F:Nat→Prop) (N:Nm) (nx:Nat),FB w F→HL F N nx w (enc c x) ((cs.drop (i*k)).take k):=by
 subst hk
 have:=g i hn
 rw[List.getElem?_eq_getElem hx] at this
 exact ho en w base spare held m _ _ this
theorem JV {o k:Nat} {cs:List Value} {l r:List A} (h:HL F N nx w l ((cs.drop o).take k)) (h':HL F N nx w r (cs.drop (o+k))):HL F N nx w (l++r) (cs.drop o):=by
 have e:cs.drop o=(cs.drop o).take k++cs.drop (o+k):=by
  rw[←List.drop_drop,List.take_append_drop]
 rw[e]
 exact h.append h'
theorem HLe {o:Nat} {cs:List Value} (h:cs.length=o):HL F N nx w [] (cs.drop o):=by
 rw[List.drop_eq_nil_of_le (by omega)]
 exact HL.nil
end
end Go.Proofs.YtifkbgkbajncjaaGreatDoor
namespace Go.Proofs.YtifkbgkbajncjaaGreatDoor
open Go.RowKit
theorem Abp {X:Type} {next:X→X} {goes:X→Cnd} {ps:X→List Prop} (I:X→Prop) (m:X→Nat) (h:∀x,I x→(∀p∈ps x,p)∧(A8 (goes x)=true→I (next x)∧m (next x) <m x)):
  ∀(n:Nat) (x:X),I x→m x≤n→Ax next goes ps n x∧I (AF next goes n x)∧A8 (goes (AF next goes n x))=false
 | 0,x,hi,hm=>by
  obtain⟨h1,h2⟩:=h x hi
  have hg:A8 (goes x)=false:=by
   cases hc:A8 (goes x) with
   |false=>rfl
   |true=>have:=(h2 hc).2;omega
  exact⟨⟨h1,hg⟩,hi,hg⟩
 | n+1,x,hi,hm=>by
  obtain⟨h1,h2⟩:=h x hi
  cases hc:A8 (goes x) with
  | false=>
   have e:AF next goes (n+1) x=x:=by
    show(bif A8 (goes x) then _ else x)=x
    rw[hc];rfl
   rw[e]
   exact⟨⟨h1,fun hh=>by rw[hc] at hh;cases hh⟩,hi,hc⟩
  | true=>
   have e:AF next goes (n+1) x=AF next goes n (next x):=by
    show(bif A8 (goes x) then _ else x)=_
    rw[hc];rfl
   obtain⟨h3,h4⟩:=h2 hc
   obtain⟨g1,g2,g3⟩:=Abp I m h n (next x) h3 (by omega)
   rw[e]
   exact⟨⟨h1,fun _=>g1⟩,g2,g3⟩
theorem i64_in {n:Int} (h:-9223372036854775808≤n∧n≤9223372036854775807):IntKind.i64.wrap n=n:=IntWalk.i64_in n h
end Go.Proofs.YtifkbgkbajncjaaGreatDoor
namespace Go.Proofs.YtifkbgkbajncjaaGreatDoor
open Go.RowKit
def Ed (n:Int):Nat:=if n <0∨n >4611686018427387903 then 0 else if n≥1073741824 then 8 else if n≥16384 then 4 else if n≥64 then 2 else 1
def be:Nat→Nat→List UInt8
 |0,_=>[]
 |k+1,N=>UInt8.ofNat (N / 256^k)::be k N
def Auf (k:Nat):Nat:=if k=2 then 1 else if k=4 then 2 else if k=8 then 3 else 0
def Ap (n:Int):List UInt8:=be (Ed n) (n.toNat+Auf (Ed n)*(64*256^(Ed n - 1)))
def val (acc:Nat) (l:List UInt8):Nat:=l.foldl (fun a y=>a*256+y.toNat) acc
def Bbm:List UInt8→Int×Int×Int
 | []=>(0,0,10)
 |x::r=>if r.length+1 <2^(x.toNat / 64) then(0,0,10) else if Ed (val (x.toNat % 64) (r.take (2^(x.toNat / 64) - 1))) <2^(x.toNat / 64) then(0,0,11) else((val (x.toNat % 64) (r.take (2^(x.toNat / 64) - 1)):Int),((2^(x.toNat / 64):Nat):Int),0)
theorem Big (x:UInt8) (r:List UInt8):Bbm (x::r)=if r.length+1 <2^(x.toNat / 64) then(0,0,10) else if Ed (val (x.toNat % 64) (r.take (2^(x.toNat / 64) - 1))) <2^(x.toNat / 64) then(0,0,11) else((val (x.toNat % 64) (r.take (2^(x.toNat / 64) - 1)):Int),((2^(x.toNat / 64):Nat):Int),0):=rfl
theorem QD:∀(k N:Nat),(be k N).length=k
 |0,_=>rfl
 |k+1,N=>by unfold be;rw[List.length_cons,QD]
theorem Aug (acc:Nat) (x:UInt8) (r:List UInt8):val acc (x::r)=val (acc*256+x.toNat) r:=rfl
theorem Anv:∀(l:List UInt8) (acc:Nat),val acc l=acc*256^l.length+val 0 l
 | [],acc=>by show acc=acc*256^0+0;omega
 |x::r,acc=>by
  rw[Aug,Aug,Anv r,Anv r (0*256+x.toNat),List.length_cons,Nat.pow_succ,Nat.zero_mul,Nat.zero_add,Nat.add_mul,Nat.mul_assoc,Nat.mul_comm 256]
  omega
theorem Boi:∀(l:List UInt8),val 0 l <256^l.length
 | []=>by show 0 <256^0;decide
 |x::r=>by
  rw[Aug,Anv,List.length_cons,Nat.pow_succ,Nat.zero_mul,Nat.zero_add]
  have h1:=Boi r
  have h2:x.toNat+1≤256:=x.toNat_lt
  have:=Nat.mul_le_mul_right (256^r.length) h2
  rw[Nat.add_mul,Nat.one_mul] at this
  rw[Nat.mul_comm (256^r.length)]
  omega
theorem Bk8:∀(k N a:Nat),be k (N+a*256^k)=be k N
 |0,_,_=>rfl
 |k+1,N,a=>by
  unfold be
  have h:N+a*256^(k+1)=N+a*256*256^k:=by rw[Nat.pow_succ,Nat.mul_assoc,Nat.mul_comm (256^k)]
  rw[h,Bk8 k N (a*256),Nat.add_mul_div_right _ _ (Nat.pow_pos (by decide))]
  congr 1
  apply UInt8.toNat_inj.1
  rw[UInt8.toNat_ofNat',UInt8.toNat_ofNat']
  omega
def szs (k:Nat):Prop:=k=1∨k=2∨k=4∨k=8
theorem Bny {n:Int} (h0:0≤n) (h1:n≤4611686018427387903):szs (Ed n)∧n.toNat <64*256^(Ed n - 1):=by
 unfold Ed szs
 rw[if_neg (by omega)]
 split
 ·exact⟨by decide,by show n.toNat <64*256^7;omega⟩
 ·split
  ·exact⟨by decide,by show n.toNat <64*256^3;omega⟩
  ·split
   ·exact⟨by decide,by show n.toNat <64*256^1;omega⟩
   ·exact⟨by decide,by show n.toNat <64*256^0;omega⟩
theorem Bu4 {t:Nat} (h:t≤3):szs (2^t)∧Auf (2^t)=t:=by
 match t,h with
 |0,_=>exact⟨by unfold szs;decide,rfl⟩
 |1,_=>exact⟨by unfold szs;decide,rfl⟩
 |2,_=>exact⟨by unfold szs;decide,rfl⟩
 |3,_=>exact⟨by unfold szs;decide,rfl⟩
 |n+4,h=>omega
theorem Aia (n:Int):(Ap n).length=Ed n:=QD _ _
theorem Bk9:∀(k N i:Nat),i <k→(be k N)[i]?=some (UInt8.ofNat (N / 256^(k - 1 - i)))
 |0,_,_,h=>by omega
 |k+1,N,0,_=>by unfold be;rfl
 |k+1,N,i+1,h=>by
  unfold be
  rw[List.getElem?_cons_succ,Bk9 k N i (by omega)]
  have:k - 1 - i=k+1 - 1 - (i+1):=by omega
  rw[this]
theorem Bfi {k N i:Nat} (h:i <k):(be k N).take (i+1)=(be k N).take i++[UInt8.ofNat (N / 256^(k - 1 - i))]:=by
 rw[List.take_add_one,Bk9 k N i h]
 rfl
theorem Bg0 (j:Nat):(2:Int)^(8*j)=((256^j:Nat):Int):=by
 rw[Int.pow_mul]
 norm_cast
theorem Bnf {n:Int} {k i:Nat} (hn:0≤n) (hk:k≤8) (hi:i <k):
  UInt8.ofNat (IntKind.u8.wrap (n.fdiv ((2:Int)^min (IntKind.u64.wrap (IntKind.i64.wrap ((8:Int)*IntKind.i64.wrap (IntKind.i64.wrap ((k:Int) - (1:Int)) - (i:Int))))).toNat (64:Nat)))).toNat=UInt8.ofNat (n.toNat / 256^(k - 1 - i)):=by
 have e1:IntKind.u64.wrap (IntKind.i64.wrap ((8:Int)*IntKind.i64.wrap (IntKind.i64.wrap ((k:Int) - (1:Int)) - (i:Int))))=((8*(k - 1 - i):Nat):Int):=by
  rw[i64_in (n:=(k:Int) - 1) (by omega),i64_in (n:=(k:Int) - 1 - (i:Int)) (by omega),i64_in (by omega),IntWalk.u64_in _ (by omega)]
  omega
 rw[e1,Int.toNat_natCast,Nat.min_eq_left (by omega),Bg0]
 have e2:n=(n.toNat:Int):=(Int.toNat_of_nonneg hn).symm
 have e3:n.fdiv ((256^(k - 1 - i):Nat):Int)=((n.toNat / 256^(k - 1 - i):Nat):Int):=by
  rw[Int.fdiv_eq_ediv_of_nonneg _ (Int.natCast_nonneg _)]
  conv=>lhs;rw[e2]
  exact(Int.natCast_ediv _ _).symm
 rw[e3]
 generalize n.toNat / 256^(k - 1 - i)=q
 have e4:IntKind.u8.wrap (q:Int)=((q % 256:Nat):Int):=by
  rw[IntKind.wrap_u8]
  omega
 rw[e4,Int.toNat_natCast]
 apply UInt8.toNat_inj.1
 rw[UInt8.toNat_ofNat',UInt8.toNat_ofNat']
 omega
theorem But:∀(t:Fin 4) (q:Fin 64),(BitVec.ofInt 8 (q.val:Int) ||| BitVec.ofInt 8 ((64*t.val:Nat):Int)).toNat=q.val+t.val*64:=by decide+kernel
theorem Bq7 {q t:Nat} (hq:q <64) (ht:t <4):UInt8.ofNat (IntKind.u8.wrap ((BitVec.ofInt 8 (((UInt8.ofNat q).toNat:Nat):Int) ||| BitVec.ofInt 8 ((64*t:Nat):Int)).toNat:Int)).toNat=UInt8.ofNat (q+t*64):=by
 have h1:(UInt8.ofNat q).toNat=q:=by rw[UInt8.toNat_ofNat'];omega
 rw[h1,But ⟨t,ht⟩ ⟨q,hq⟩,IntWalk.u8_in _ (by show 0≤((q+t*64:Nat):Int)∧((q+t*64:Nat):Int)≤255;omega),Int.toNat_natCast]
theorem A3g {m N t:Nat} (b:List UInt8) (hN:N <64*256^m) (ht:t <4) (d:UInt8):
  (b++be (m+1) N).set b.length (UInt8.ofNat (IntKind.u8.wrap ((BitVec.ofInt 8 ((((b++be (m+1) N).getD b.length d).toNat:Nat):Int) ||| BitVec.ofInt 8 ((64*t:Nat):Int)).toNat:Int)).toNat)=b++be (m+1) (N+t*(64*256^m)):=by
 have hp:0 <256^m:=Nat.pow_pos (by decide)
 have e2:N / 256^m <64:=by rw[Nat.div_lt_iff_lt_mul hp];exact hN
 have e0:be (m+1) N=UInt8.ofNat (N / 256^m)::be m N:=rfl
 have e1:be (m+1) (N+t*(64*256^m))=UInt8.ofNat (N / 256^m+t*64)::be m N:=by
  show UInt8.ofNat ((N+t*(64*256^m)) / 256^m)::be m (N+t*(64*256^m))=_
  rw[←Nat.mul_assoc,Bk8,Nat.add_mul_div_right _ _ hp]
 have hg:(b++be (m+1) N).getD b.length d=UInt8.ofNat (N / 256^m):=by
  rw[e0,List.getD_eq_getElem?_getD,List.getElem?_append_right (Nat.le_refl _),Nat.sub_self]
  rfl
 rw[hg,Bq7 e2 ht,e0,e1,List.set_append_right _ _ (Nat.le_refl _),Nat.sub_self]
 rfl
theorem Bq8 {a:Nat} (ha:a <64*256^6) {y:UInt8}:IntKind.i64.wrap ((BitVec.ofInt 64 (IntKind.i64.wrap ((a:Int)*256)) ||| BitVec.ofInt 64 (IntKind.i64.wrap ((y.toNat:Nat):Int))).toNat:Int)=((a*256+y.toNat:Nat):Int):=by
 have hy:y.toNat <256:=y.toNat_lt
 have h6:64*256^6=18014398509481984:=by decide
 rw[h6] at ha
 rw[i64_in (n:=(a:Int)*256) (by omega),i64_in (n:=((y.toNat:Nat):Int)) (by omega)]
 have e1:(a:Int)*256=((a*256:Nat):Int):=by omega
 have e2:(BitVec.ofInt 64 ((a*256:Nat):Int) ||| BitVec.ofInt 64 ((y.toNat:Nat):Int)).toNat=a*256+y.toNat:=by
  rw[BitVec.toNat_or,BitVec.toNat_ofInt,BitVec.toNat_ofInt]
  have m1:(((a*256:Nat):Int) % ((2^64:Nat):Int)).toNat=2^8*a:=by omega
  have m2:(((y.toNat:Nat):Int) % ((2^64:Nat):Int)).toNat=y.toNat:=by omega
  rw[m1,m2,←Nat.two_pow_add_eq_or_of_lt hy]
  omega
 rw[e1,e2,i64_in (by omega)]
theorem Boj (a:Nat) (L:List UInt8) (i:Nat) (h:i <L.length) {d:UInt8}:((val a (L.take i)*256+(L.getD i d).toNat:Nat):Int)=(val a (L.take (i+1)):Int):=by
 have e:L.take (i+1)=L.take i++[L.getD i d]:=by
  rw[List.take_add_one,List.getD_eq_getElem?_getD,List.getElem?_eq_getElem h]
  rfl
 rw[e]
 unfold val
 rw[List.foldl_append]
 rfl
theorem Bwn (x:UInt8):IntKind.i64.wrap ((1:Int)*(2:Int)^min ((((x.toNat:Nat):Int)).fdiv (64:Int)).toNat (64:Nat))=((2^(x.toNat / 64):Nat):Int):=by
 have hx:x.toNat <256:=x.toNat_lt
 have e:((((x.toNat:Nat):Int)).fdiv (64:Int)).toNat=x.toNat / 64:=by
  rw[Int.fdiv_eq_ediv_of_nonneg _ (by decide)]
  omega
 rw[e,Nat.min_eq_left (by omega)]
 have:x.toNat / 64≤3:=by omega
 generalize x.toNat / 64=t at*
 match t,this with
 |0,_=>rfl
 |1,_=>rfl
 |2,_=>rfl
 |3,_=>rfl
 |n+4,h=>omega
theorem Bmr:∀q:Fin 256,(BitVec.ofInt 8 (q.val:Int) &&& BitVec.ofInt 8 63).toNat=q.val % 64:=by decide+kernel
theorem Bqk (x:UInt8):IntKind.i64.wrap (IntKind.u8.wrap ((BitVec.ofInt 8 ((x.toNat:Nat):Int) &&& BitVec.ofInt 8 63).toNat:Int))=((x.toNat % 64:Nat):Int):=by
 have hx:x.toNat <256:=x.toNat_lt
 rw[Bmr ⟨x.toNat,hx⟩,IntWalk.u8_in _ (by show 0≤((x.toNat % 64:Nat):Int)∧((x.toNat % 64:Nat):Int)≤255;omega),i64_in (by show -9223372036854775808≤((x.toNat % 64:Nat):Int)∧((x.toNat % 64:Nat):Int)≤9223372036854775807;omega)]
end Go.Proofs.YtifkbgkbajncjaaGreatDoor
namespace Go.Proofs.YtifkbgkbajncjaaGreatDoor
open Go.RowKit
theorem Azo {X:Type} (mk:Nat→X) (n:Nat) (stop:Nat→Bool) (next:X→X) (goes:X→Cnd) (ps:X→List Prop)
  (hg:∀i,i≤n→(∀j,j <i→stop j=false)→A8 (goes (mk i))=(decide (i <n)&&!stop i)) (hn:∀i,i <n→(∀j,j <i+1→stop j=false)→next (mk i)=mk (i+1)) (hp:∀i,i≤n→(∀j,j <i→stop j=false)→∀p∈ps (mk i),p):
  ∀(f i:Nat),i≤n→n≤i+f→(∀j,j <i→stop j=false)→
  Ax next goes ps f (mk i)∧∃k,k≤n∧AF next goes f (mk i)=mk k∧(∀j,j <k→stop j=false)∧(k <n→stop k=true)
 |0,i,hi,hf,hs=>by
  have hc:=hg i hi hs
  have:i=n:=by omega
  rw[decide_eq_false (by omega),Bool.false_and] at hc
  exact⟨⟨hp i hi hs,hc⟩,i,hi,rfl,hs,fun h=>by omega⟩
 | f +1,i,hi,hf,hs=>by
  have hc:=hg i hi hs
  cases hb:A8 (goes (mk i)) with
  | false=>
   have e:AF next goes (f+1) (mk i)=mk i:=by
    show(bif A8 (goes (mk i)) then _ else mk i)=mk i
    rw[hb];rfl
   rw[e]
   refine⟨⟨hp i hi hs,fun h=>by rw[hb] at h;cases h⟩,i,hi,rfl,hs,fun h=>?_⟩
   rw[hb,decide_eq_true h,Bool.true_and] at hc
   cases hst:stop i with
   |true=>rfl
   |false=>rw[hst] at hc;cases hc
  | true=>
   rw[hb] at hc
   have h1:i <n:=by
    cases hd:decide (i <n) with
    |true=>exact of_decide_eq_true hd
    |false=>rw[hd] at hc;cases hc
   have h2:stop i=false:=by
    cases hst:stop i with
    |false=>rfl
    |true=>rw[hst,Bool.and_comm] at hc;cases hc
   have hs':∀j,j <i+1→stop j=false:=fun j hj=>by
    by_cases h:j <i
    ·exact hs j h
    ·obtain rfl:j=i:=by omega
     exact h2
   have e:AF next goes (f+1) (mk i)=AF next goes f (mk (i+1)):=by
    show(bif A8 (goes (mk i)) then AF next goes f (next (mk i)) else mk i)=_
    rw[hb,hn i h1 hs'];rfl
   obtain⟨g1,g2⟩:=Azo mk n stop next goes ps hg hn hp f (i+1) h1 (by omega) hs'
   rw[e]
   exact⟨⟨hp i hi hs,fun _=>by rw[hn i h1 hs'];exact g1⟩,g2⟩
theorem Bd8 {X:Type} (mk:Nat→X) (n:Nat) (stop:Nat→Bool) (next:X→X) (goes:X→Cnd) (ps:X→List Prop) (f:Nat) (x:X) (hx:x=mk 0) (hf:n≤f)
  (hg:∀i,i≤n→(∀j,j <i→stop j=false)→A8 (goes (mk i))=(decide (i <n)&&!stop i)) (hn:∀i,i <n→(∀j,j <i+1→stop j=false)→next (mk i)=mk (i+1)) (hp:∀i,i≤n→(∀j,j <i→stop j=false)→∀p∈ps (mk i),p):
  Ax next goes ps f x∧∃k,k≤n∧AF next goes f x=mk k∧(∀j,j <k→stop j=false)∧(k <n→stop k=true):=by
 subst hx
 exact Azo mk n stop next goes ps hg hn hp f 0 (Nat.zero_le _) (by omega) fun j h=>absurd h (Nat.not_lt_zero _)
theorem Fz {i:Nat} (h:i <9223372036854775807):IntKind.i64.wrap ((i:Int)+1)=((i+1:Nat):Int):=by rw[i64_in (by omega)];omega
theorem Mu {i n:Nat}:decide ((i:Int) <(n:Int))=decide (i <n):=by
 by_cases h:i <n
 ·rw[decide_eq_true h,decide_eq_true (by omega)]
 ·rw[decide_eq_false h,decide_eq_false (by omega)]
theorem nn (b:Bool):(!!b)=b:=Bool.not_not b
theorem A44 {α:Type} (l:List α) (d:α) (p:α→Bool) (k:Nat) (hk:k≤l.length) (h1:∀j,j <k→p (l.getD j d)=true) (h2:k <l.length→p (l.getD k d)=false):l.all p=decide (¬k <l.length):=by
 by_cases h:k <l.length
 ·rw[decide_eq_false (by omega)]
  have:=h2 h
  rw[List.getD_eq_getElem?_getD,List.getElem?_eq_getElem h,Option.getD_some] at this
  cases ha:l.all p with
  |false=>rfl
  |true=>rw[List.all_eq_true.1 ha _ (List.getElem_mem h)] at this;cases this
 ·rw[decide_eq_true (by omega)]
  refine List.all_eq_true.2 fun x hx=>?_
  obtain⟨i,hi,rfl⟩:=List.mem_iff_getElem.1 hx
  have:=h1 i (by omega)
  rw[List.getD_eq_getElem?_getD,List.getElem?_eq_getElem hi,Option.getD_some] at this
  exact this
def Am (n:Nat):Prop:=n≤9223372036854775807
def Lf (n:Nat) (p:Nat→Bool):Bool:=(List.range n).all p
theorem JL {n:Nat} {p:Nat→Bool}:Lf n p=true↔∀i,i <n→p i=true:=by
 unfold Lf
 rw[List.all_eq_true]
 exact⟨fun h i hi=>h i (List.mem_range.2 hi),fun h i hi=>h i (List.mem_range.1 hi)⟩
theorem J3 {n:Nat} {p q:Nat→Bool} (h:∀i,i <n→p i=q i):Lf n p=Lf n q:=by
 rw[Bool.eq_iff_iff,JL,JL]
 exact⟨fun g i hi=>(h i hi)▸g i hi,fun g i hi=>(h i hi).symm▸g i hi⟩
theorem RJ {X:Type} (mk:Nat→X) (n:Nat) (bad:Nat→Bool) (next:X→X) (goes:X→Cnd) (ps:X→List Prop) (f:Nat) (x:X) (hx:x=mk 0) (hf:n≤f)
  (hg:∀i,i≤n→(∀j,j <i→bad j=false)→A8 (goes (mk i))=(decide (i <n)&&!bad i)) (hn:∀i,i <n→(∀j,j <i+1→bad j=false)→next (mk i)=mk (i+1)) (hp:∀i,i≤n→(∀j,j <i→bad j=false)→∀p∈ps (mk i),p):
  Ax next goes ps f x∧∃k,k≤n∧AF next goes f x=mk k∧(∀j,j <k→bad j=false)∧(k <n→bad k=true)∧(decide (k <n)&&bad k)=!Lf n (fun i=>!bad i):=by
 obtain⟨h1,k,hk,h2,h3,h4⟩:=Bd8 mk n bad next goes ps f x hx hf hg hn hp
 refine⟨h1,k,hk,h2,h3,h4,?_⟩
 by_cases h:k <n
 ·rw[decide_eq_true h,h4 h]
  cases ha:Lf n (fun i=>!bad i) with
  |false=>rfl
  |true=>have:=JL.1 ha k h;rw[h4 h] at this;cases this
 ·rw[decide_eq_false h,JL.2 (fun i hi=>by rw[h3 i (by omega)];rfl)]
  rfl
theorem Bk5 {α:Type} (l:List α) (d:α) (p:α→Bool):l.all p=Lf l.length (fun i=>p (l.getD i d)):=by
 rw[Bool.eq_iff_iff,List.all_eq_true,JL]
 constructor
 ·intro h i hi
  rw[List.getD_eq_getElem?_getD,List.getElem?_eq_getElem hi,Option.getD_some]
  exact h _ (List.getElem_mem hi)
 ·intro h x hx
  obtain⟨i,hi,rfl⟩:=List.mem_iff_getElem.1 hx
  have:=h i hi
  rw[List.getD_eq_getElem?_getD,List.getElem?_eq_getElem hi,Option.getD_some] at this
  exact this
theorem Bxf {α β:Type} (l:List α) (r:List β) (d:α) (e:β) (p:α→β→Bool) (h:r.length=l.length):(l.zip r).all (fun x=>p x.1 x.2)=Lf l.length (fun i=>p (l.getD i d) (r.getD i e)):=by
 rw[Bk5 (l.zip r) (d,e),List.length_zip,h,Nat.min_self]
 refine J3 fun i hi=>?_
 rw[List.getD_eq_getElem?_getD,List.getD_eq_getElem?_getD,List.getD_eq_getElem?_getD,List.getElem?_eq_getElem (by rw[List.length_zip];omega),List.getElem?_eq_getElem hi,List.getElem?_eq_getElem (by omega),List.getElem_zip]
 rfl
theorem Bxk (n:Nat):(n==0)=!decide (1≤n):=by cases n<;>simp
theorem A49 (n:Nat):((n:Int)==0)=(n==0):=by cases n<;>simp;omega
theorem dgt (n k:Nat):decide ((n:Int) >(k:Int))=decide (k <n):=decide_eq_decide.2 (by omega)
instance:LawfulBEq ByteArray where
 rfl:=fun {a}=>by cases a with|mk a=>exact beq_self_eq_true a
 eq_of_beq:=fun {a b} h=>by
  cases a with|mk a=>cases b with|mk b=>exact congrArg ByteArray.mk (eq_of_beq (α:=Array UInt8) h)
theorem Ao4:∀(m:List (ByteArray×Int)) (b:ByteArray) (v:Int) (x:ByteArray),JM (Xd m b v) x=if x=b then v else JM m x
 | [],b,v,x=>by
  by_cases h:x=b
  ·subst h;simp[Xd,JM]
  ·simp[Xd,JM,h,show(x==b)=false from beq_eq_false_iff_ne.2 h]
 | (a,n)::r,b,v,x=>by
  unfold Xd
  by_cases h:b=a
  ·subst h
   rw[show(b==b)=true from beq_self_eq_true b,cond_true]
   by_cases hx:x=b
   ·subst hx;simp[JM]
   ·simp[JM,hx,show(x==b)=false from beq_eq_false_iff_ne.2 hx]
  ·rw[show(b==a)=false from beq_eq_false_iff_ne.2 h,cond_false]
   by_cases hx:x=a
   ·subst hx
    rw[if_neg (fun e=>h e.symm)]
    simp[JM]
   ·simp only[JM,show(x==a)=false from beq_eq_false_iff_ne.2 hx,cond_false]
    exact Ao4 r b v x
def UQ (b:UInt8):Bool:=decide (97≤b.toNat)&&decide (b.toNat≤122)
def Iy (s:ByteArray):Bool:=s.data.toList.all UQ&&(decide (1≤s.size)&&decide (s.size≤12))
def TX (p:Int):Bool:=p==1||p==2
def Uw:List ByteArray→List Ab→Int
 |_,[]=>0
 |seen,g::r=>bif !(Iy g.name&&TX g.policy) then 2 else bif seen.any (fun s=>s==g.name) then 70 else Uw (seen++[g.name]) r
def Bi (l:List Ab):Int:=bif l.length==0 then 2 else bif decide (4 <l.length) then 3 else Uw [] l
theorem Kq (s:ByteArray):s.data.toList.length=s.size:=by show s.data.toList.length=s.data.size;exact Array.length_toList
theorem Bl3 (s:ByteArray) (i:Nat) (h:i <s.size):s.data.toList.getD i 0=s[i]'h:=by
 rw[List.getD_eq_getElem?_getD,List.getElem?_eq_getElem (by rw[Kq];exact h)]
 rfl
theorem A9j (s:ByteArray) (i:Nat) (h:i <s.size):(decide (((Utf8.decode s i).1:Int) <97)||decide (((Utf8.decode s i).1:Int) >122))=!UQ (s.data.toList.getD i 0)∧(UQ (s.data.toList.getD i 0)=true→(Utf8.decode s i).2=1):=by
 rw[Bl3 s i h]
 by_cases hb:(s[i]'h).toNat <128
 ·rw[decode_ascii s i h hb]
  refine⟨?_,fun _=>rfl⟩
  unfold UQ
  rw[Bool.not_and,←decide_not,←decide_not]
  congr 1<;>exact decide_eq_decide.2 (by omega)
 ·have h2:=(decode_high s i h (by omega)).1
  have hl:UQ (s[i]'h)=false:=by unfold UQ;rw[decide_eq_false (p:=(s[i]'h).toNat≤122) (by omega),Bool.and_false]
  rw[hl]
  refine⟨?_,fun h=>by cases h⟩
  rw[decide_eq_true (p:=((Utf8.decode s i).1:Int) >122) (by omega),Bool.or_true]
  rfl
theorem Sg {l:List Ab} (h:Bi l=0):1≤l.length∧l.length≤4:=by
 unfold Bi at h
 cases h1:l.length==0 with
 |true=>rw[h1] at h;cases h
 | false=>
  rw[h1] at h
  cases h2:decide (4 <l.length) with
  |true=>rw[h2] at h;cases h
  |false=>
   have:=of_decide_eq_false h2
   have h3:l.length≠0:=by simpa using h1
   omega
theorem Ax7 (l:List Ab) (k:Nat) (seen:List ByteArray):(∀j,j <k→j <l.length→(Iy (l.getD j (Ae TC.group)).name&&TX (l.getD j (Ae TC.group)).policy)=true∧(seen++(l.take j).map (·.name)).any (fun s=>s==(l.getD j (Ae TC.group)).name)=false)→
  Uw seen l=Uw (seen++(l.take k).map (·.name)) (l.drop k):=by
 induction l generalizing k seen with
 |nil=>intro _;simp[Uw]
 | cons g r ih=>
  intro h
  cases k with
  |zero=>simp
  | succ k=>
   obtain⟨h1,h2⟩:=h 0 (Nat.succ_pos _) (Nat.succ_pos _)
   have h1':(Iy g.name&&TX g.policy)=true:=h1
   have h2':seen.any (fun s=>s==g.name)=false:=by simpa using h2
   rw[Uw,h1',h2',Bool.not_true,cond_false,cond_false]
   rw[ih k (seen++[g.name]) (fun j hj hl=>by
    have:=h (j+1) (by omega) (by simpa using hl)
    simpa[List.append_assoc] using this)]
   simp[List.append_assoc]
def Rc (l:List Ab):Nat→List (ByteArray×Int)
 |0=>[]
 |i+1=>Xd (Rc l i) (l.getD i (Ae TC.group)).1 (IntKind.i64.wrap (JM (Rc l i) (l.getD i (Ae TC.group)).1+1))
def TS (l:List Ab) (i:Nat):Bool:=!(Iy (l.getD i (Ae TC.group)).1&&TX (l.getD i (Ae TC.group)).2)||((l.take i).map (·.name)).any (fun s=>s==(l.getD i (Ae TC.group)).1)
theorem Bed (l:List Ab) (i:Nat) (h:i <l.length):(l.take (i+1)).map (·.name)=(l.take i).map (·.name)++[(l.getD i (Ae TC.group)).1]:=by
 rw[List.take_add_one,List.getD_eq_getElem?_getD,List.getElem?_eq_getElem h,List.map_append]
 rfl
theorem Ao3 (l:List Ab):∀(i:Nat),i≤l.length→(∀j,j <i→TS l j=false)→∀x,JM (Rc l i) x=bif((l.take i).map (·.name)).any (fun s=>s==x) then 1 else 0
 |0,_,_,x=>by simp[Rc,JM]
 | i+1,hi,hs,x=>by
  have ih:=Ao3 l i (by omega) (fun j hj=>hs j (by omega))
  have h:=hs i (Nat.lt_succ_self i)
  unfold TS at h
  have h2:=(Bool.or_eq_false_iff.1 h).2
  unfold Rc
  rw[Ao4,ih,h2,Bed l i (by omega),List.any_append,ih]
  by_cases hx:x=(l.getD i (Ae TC.group)).1
  ·subst hx
   rw[if_pos rfl]
   simp
   decide
  ·rw[if_neg hx]
   have:([(l.getD i (Ae TC.group)).1].any fun s=>s==x)=false:=by
    simp only[List.any_cons,List.any_nil,Bool.or_false]
    exact beq_eq_false_iff_ne.2 fun e=>hx e.symm
   rw[this,Bool.or_false]
end Go.Proofs.YtifkbgkbajncjaaGreatDoor
namespace Go.Proofs.YtifkbgkbajncjaaGreatDoor
open Go.RowKit
def Bgz:BitVec 32:=79764919#32
def crS (r:BitVec 32):BitVec 32:=(r <<< 1)^^^(bif r.getLsbD 31 then Bgz else 0#32)
def crT (r:BitVec 32) (b:Bool):BitVec 32:=(r <<< 1)^^^(bif r.getLsbD 31^^b then Bgz else 0#32)
def cr8 (r:BitVec 32):BitVec 32:=crS (crS (crS (crS (crS (crS (crS (crS r)))))))
def hiB (x:UInt8):BitVec 32:=BitVec.ofNat 32 x.toNat <<< 24
def byB (r:BitVec 32) (x:UInt8):BitVec 32:=cr8 (r^^^hiB x)
def crB (r:BitVec 32) (l:List UInt8):BitVec 32:=l.foldl byB r
def FX (l:List UInt8):BitVec 32:= ~~~ (crB (BitVec.allOnes 32) l)
def Bxa (s:BitVec 32):List UInt8:=[UInt8.ofNat (s.toNat / 2^24),UInt8.ofNat (s.toNat / 2^16),UInt8.ofNat (s.toNat / 2^8),UInt8.ofNat s.toNat]
def A1a (l:List UInt8):List UInt8:=l++Bxa (FX l)
def Bd3 (b:List UInt8):Bool:=decide (4≤b.length)&&(b==A1a (b.take (b.length - 4)))
theorem Uf (r y:BitVec 32):crS (r^^^y)=crT r (y.getLsbD 31)^^^(y <<< 1):=by
 unfold crS crT
 rw[BitVec.getLsbD_xor]
 apply BitVec.eq_of_getLsbD_eq
 intro i hi
 simp only[BitVec.getLsbD_xor,BitVec.getLsbD_shiftLeft,decide_eq_true hi]
 cases r.getLsbD 31<;>cases y.getLsbD 31<;>cases decide (i <1)<;>cases r.getLsbD (i - 1)<;>cases y.getLsbD (i - 1)<;>simp
def Ba3 (r:BitVec 32) (x:UInt8):BitVec 32:=crT (crT (crT (crT (crT (crT (crT (crT r (x.toNat.testBit 7)) (x.toNat.testBit 6)) (x.toNat.testBit 5)) (x.toNat.testBit 4)) (x.toNat.testBit 3)) (x.toNat.testBit 2)) (x.toNat.testBit 1)) (x.toNat.testBit 0)
theorem Ux (x:UInt8) (j k:Nat) (hk:j≤7∧k=7 - j):((hiB x) <<< j).getLsbD 31=x.toNat.testBit k:=by
 obtain⟨h1,rfl⟩:=hk
 unfold hiB
 rw[BitVec.getLsbD_shiftLeft,BitVec.getLsbD_shiftLeft,BitVec.getLsbD_ofNat]
 have e1:decide (31 <32)=true:=by decide
 have e2:decide (31 <j)=false:=decide_eq_false (by omega)
 have e3:decide (31 - j <32)=true:=decide_eq_true (by omega)
 have e4:decide (31 - j <24)=false:=decide_eq_false (by omega)
 have e5:decide (31 - j - 24 <32)=true:=decide_eq_true (by omega)
 rw[e1,e2,e3,e4,e5,show 31 - j - 24=7 - j by omega]
 simp
theorem Buk (x:UInt8):(hiB x) <<< 8=0#32:=by
 unfold hiB
 apply BitVec.eq_of_getLsbD_eq
 intro i hi
 rw[BitVec.getLsbD_shiftLeft,BitVec.getLsbD_shiftLeft,BitVec.getLsbD_ofNat]
 rw[show((0#32).getLsbD i)=false from by simp]
 by_cases h:i <8
 ·rw[decide_eq_true h];simp
 ·have:decide (i - 8 <24)=true:=decide_eq_true (by omega)
  rw[this];simp
theorem Blc (r:BitVec 32) (x:UInt8):byB r x=Ba3 r x:=by
 have s1:∀(y:BitVec 32) (a:Nat),y <<< a <<< 1=y <<< (a+1):=fun y a=>(BitVec.shiftLeft_add y a 1).symm
 unfold byB cr8 Ba3
 rw[Uf,Uf,s1,Uf,s1,Uf,s1,Uf,s1,Uf,s1,Uf,s1,Uf,s1,Buk]
 have h0:=Ux x 0 7 (by omega)
 rw[BitVec.shiftLeft_zero] at h0
 rw[h0,Ux x 1 6 (by omega),Ux x 2 5 (by omega),Ux x 3 4 (by omega),Ux x 4 3 (by omega),Ux x 5 2 (by omega),Ux x 6 1 (by omega),Ux x 7 0 (by omega),BitVec.xor_zero]
theorem Bpz (r:BitVec 32) (a b:List UInt8):crB r (a++b)=crB (crB r a) b:=List.foldl_append
theorem Bp0 (r:BitVec 32) (l:List UInt8) (x:UInt8):crB r (l++[x])=byB (crB r l) x:=by rw[Bpz];rfl
abbrev wB (x:BitVec 32):Int:=(x.toNat:Int)
theorem Bxb (x:BitVec 32):0≤wB x∧wB x <4294967296:=by have:=x.isLt;unfold wB;omega
theorem A3n {n:Int} (h:0≤n∧n <4294967296):IntKind.u32.wrap n=n:=by
 show n % 2^32=n
 exact Int.emod_eq_of_lt h.1 (by omega)
theorem Aqi (x:BitVec 32):BitVec.ofInt 32 (wB x)=x:=by
 apply BitVec.eq_of_toNat_eq
 unfold wB
 simp
theorem Auq (x:BitVec 32):IntKind.u32.wrap (x.toNat:Int)=wB x:=A3n (Bxb x)
theorem Btd (x:BitVec 32):IntKind.u32.wrap (wB x*2)=wB (x <<< 1):=by
 show(wB x*2) % 2^32=wB (x <<< 1)
 unfold wB
 rw[BitVec.toNat_shiftLeft,Nat.shiftLeft_eq]
 omega
theorem Btf (x:BitVec 32):(wB x).fdiv 2147483648=bif x.getLsbD 31 then 1 else 0:=by
 have hl:=x.isLt
 have e:(wB x).fdiv 2147483648=((x.toNat / 2^31:Nat):Int):=by
  unfold wB
  rw[Int.fdiv_eq_ediv_of_nonneg _ (by omega)]
  omega
 rw[e,BitVec.getLsbD,Nat.testBit_eq_decide_div_mod_eq]
 by_cases h:x.toNat <2^31
 ·rw[decide_eq_false (by omega),cond_false];omega
 ·rw[decide_eq_true (by omega),cond_true];omega
theorem Buv (b:Bool):IntKind.u32.wrap ((bif b then 1 else 0)*79764919)=wB (bif b then Bgz else 0#32):=by cases b<;>decide
theorem Bxn (x:UInt8):IntKind.u32.wrap (IntKind.u32.wrap (x.toNat:Int)*16777216)=wB (hiB x):=by
 have hx:x.toNat <256:=x.toNat_lt
 unfold hiB wB
 rw[A3n (n:=(x.toNat:Int)) (by omega),A3n (by omega),BitVec.toNat_shiftLeft,Nat.shiftLeft_eq,BitVec.toNat_ofNat]
 omega
theorem Aha (x:UInt8) (k:Nat) {d:Int} (hk:d=((2^k:Nat):Int)):IntKind.u32.wrap (((BitVec.ofInt 32 ((IntKind.u32.wrap (x.toNat:Int)).fdiv d) &&& BitVec.ofInt 32 1).toNat:Nat):Int)=bif x.toNat.testBit k then 1 else 0:=by
 subst hk
 have hx:x.toNat <256:=x.toNat_lt
 have hp:0 <2^k:=Nat.two_pow_pos k
 have hw:IntKind.u32.wrap (x.toNat:Int)=(x.toNat:Int):=A3n (by omega)
 have e:(IntKind.u32.wrap (x.toNat:Int)).fdiv ((2^k:Nat):Int)=((x.toNat / 2^k:Nat):Int):=by
  rw[hw,Int.fdiv_eq_ediv_of_nonneg _ (Int.natCast_nonneg _)]
  exact(Int.natCast_ediv _ _).symm
 have hd:x.toNat / 2^k <256:=Nat.lt_of_le_of_lt (Nat.div_le_self _ _) hx
 rw[e,Auq,Nat.testBit_eq_decide_div_mod_eq]
 unfold wB
 have h1:(BitVec.ofInt 32 1).toNat=1:=by decide
 rw[BitVec.toNat_and,h1,Nat.and_one_is_mod,BitVec.toNat_ofInt]
 have h2:∀m:Nat,m <256→((m:Int) % ((2^32:Nat):Int)).toNat=m:=fun m hm=>by omega
 rw[h2 _ hd]
 by_cases h:x.toNat / 2^k % 2=1
 ·rw[decide_eq_true h,cond_true];omega
 ·rw[decide_eq_false h,cond_false];omega
theorem Bs9 (x:BitVec 32):IntKind.u32.wrap (((BitVec.ofInt 32 4294967295^^^x).toNat:Nat):Int)=wB (~~~ x):=by
 rw[Auq,show BitVec.ofInt 32 4294967295=BitVec.allOnes 32 by decide,BitVec.allOnes_xor]
theorem A0l (x:BitVec 32) (k:Nat):UInt8.ofNat (IntKind.u8.wrap ((wB x).fdiv ((2^k:Nat):Int))).toNat=UInt8.ofNat (x.toNat / 2^k):=by
 have hp:0 <2^k:=Nat.two_pow_pos k
 have e:(wB x).fdiv ((2^k:Nat):Int)=((x.toNat / 2^k:Nat):Int):=by
  unfold wB
  rw[Int.fdiv_eq_ediv_of_nonneg _ (Int.natCast_nonneg _)]
  exact(Int.natCast_ediv _ _).symm
 rw[e]
 apply UInt8.toNat_inj.1
 rw[UInt8.toNat_ofNat',UInt8.toNat_ofNat']
 show(((x.toNat / 2^k:Nat):Int) % 2^8).toNat % 2^8=_
 omega
theorem Am8 {X:Type} (mk:Nat→X) (n:Nat) (next:X→X) (goes:X→Cnd) (ps:X→List Prop) (f:Nat) (x:X) (hx:x=mk 0) (hf:n≤f)
  (hg:∀i,i≤n→A8 (goes (mk i))=decide (i <n)) (hn:∀i,i <n→next (mk i)=mk (i+1)) (hp:∀i,i≤n→∀p∈ps (mk i),p):Ax next goes ps f x∧AF next goes f x=mk n:=by
 obtain⟨h1,k,hk,h2,_,h4⟩:=Bd8 mk n (fun _=>false) next goes ps f x hx hf (fun i hi _=>by rw[hg i hi,Bool.not_false,Bool.and_true]) (fun i hi _=>hn i hi) (fun i hi _=>hp i hi)
 rcases Nat.lt_or_ge k n with h|h
 ·exact absurd (h4 h) (by decide)
 ·obtain rfl:k=n:=by omega
  exact⟨h1,h2⟩
theorem A5t (r:BitVec 32) (l:List UInt8) (i:Nat) (h:i <l.length):crB r (l.take (i+1))=byB (crB r (l.take i)) (l.getD i 0):=by
 rw[List.take_add_one,List.getElem?_eq_getElem h,List.getD_eq_getElem?_getD,List.getElem?_eq_getElem h]
 exact Bp0 _ _ _
end Go.Proofs.YtifkbgkbajncjaaGreatDoor
namespace Go.Proofs.YtifkbgkbajncjaaGreatDoor
open Go.RowKit
def Y7 (a0:Int) (_a1:Int):Int:=IntKind.u32.wrap (a0*(2:Int))
def HN (a0:Int) (a1:Int):Int:=bif a0.fdiv (2147483648:Int) !=a1 then IntKind.u32.wrap (↑(BitVec.ofInt (32:Nat) (Y7 a0 a1)^^^BitVec.ofInt (32:Nat) (79764919:Int)).toNat:Int) else(Y7 a0 a1)
def Afz (a0:Int) (a1:Int):A:=.v (.int .u32 (HN a0 a1))
def Afy (_a0:Int) (_a1:Int):Objs:=[]
def Y8 (_a0:Int) (_a1:Int):List Prop:=[]
theorem Bcq (a0:Int) (a1:Int):Hz (As C0 L0) 9 124 [Ai .u32 a0,Ai .u32 a1] 0 []=some (1,Afz a0 a1,0,Afy a0 a1,Y8 a0 a1):=by kernel_rfl
theorem Bi2 (a0:Int) (a1:Int) (hp:∀p∈Y8 a0 a1,p):CallOk Tryz.prog 124 [Ai .u32 a0,Ai .u32 a1] 0 [] 1 (Afz a0 a1) 0 (Afy a0 a1):=AB (Ar Bem AA) (Bcq a0 a1) hp
def Ay0:List A→Nat→Objs→Option A6:=Bt [.t .u32,.t .u32] 0 Afz Afy Y8
theorem A7t:HF Tryz.prog 124 Ay0:=Av (ks:=[.t .u32,.t .u32]) Bi2
noncomputable def Any:=AS 124 Ay0 C0
theorem Z7:Cr Tryz.prog Any:=An A7t Bem
abbrev BC:Type:=Int×Int
def Kz (x:BC):St:=⟨29,0,[(0,.v (.int .u32 x.1)),(18,.v (.int .i64 x.2))],[]⟩
def Mz:St→Option BC
 |⟨29,0,[(0,.v (.int .u32 z0)),(18,.v (.int .i64 z1))],[]⟩=>some (z0,z1)
 |_=>none
theorem Aas:∀s x,Mz s=some x→s=Kz x:=fun s x h=>by
 unfold Mz at h
 split at h
 ·cases h;rfl
 ·cases h
def Ul:Cz:=⟨0,0,[0,18],[],[],[],[0],[]⟩
def Aov:CX:=⟨[],[],[0,18],[]⟩
def Pf (_a0:Int) (a1:Int):Bool:=!decide (a1 <(8:Int))
def Jk (a0:Int) (_a1:Int):Int:=IntKind.u32.wrap (↑(BitVec.ofInt (32:Nat) (IntKind.u32.wrap (a0*(2:Int)))^^^BitVec.ofInt (32:Nat) (IntKind.u32.wrap (a0.fdiv (2147483648:Int)*(79764919:Int)))).toNat:Int)
def DF (x:BC):BC:=(Jk x.1 x.2,IntKind.i64.wrap (x.2+(1:Int)))
def DE (x:BC):Cnd:=some (!(Pf x.1 x.2))
def Lk (_x:BC):List Prop:=[]
abbrev Hd:BC→List Prop:=Lk
def Pg (x:BC):AR:=[(some 2,some ((Pf x.1 x.2)),⟨29,0,[(0,.v (.int .u32 x.1))],[]⟩)]
def Fi (x:BC):Nat:=((8:Int) - x.2).toNat
def Ll (x:BC):BC:=AF DF DE (Fi x) x
theorem Ak6 (a0:Int) (a1:Int):Ba (As Any L0) 9 (Ag Tryz.prog 123 2) Ul (Kz (a0,a1))=some (Lk (a0,a1),Pg (a0,a1),DE (a0,a1),Kz (DF (a0,a1))):=by kernel_rfl
theorem Ak7 (a0:Int) (a1:Int) (hp:∀p∈Hd (a0,a1),p):∀p∈Lk (a0,a1),p:=hp
noncomputable def QL:=HB (As Any L0) (Ag Tryz.prog 123 2) Ul Aov Mz Fi DF DE Hd Pg
theorem Aek:∀s b ps outs,QL s=some (b,ps,outs)→Wf s ⟨ps,outs,none⟩∧Bg (As C0 L0) b s ps outs:=
 AT (T:=Kz) Z7 AA (u:=9) (by kernel_rfl) (by decide) (fun⟨a0,a1⟩=>Ak6 a0 a1) (fun⟨a0,a1⟩=>Ak7 a0 a1) Aas (fun _=>AD (n:=29) rfl) fun _ _=>rfl
noncomputable def Ky:=Dd 2 QL L0
theorem QK:G9 Ky:=AH Aek AA
abbrev BB:Type:=Int×(List UInt8)×Int×Int
def Kx (x:BB):St:=⟨29,0,[(0,.v (.int .u32 x.1)),(7,.sl .u8 x.2.1),(8,.v (.int .i64 x.2.2.1)),(9,.v (.int .i64 x.2.2.2))],[]⟩
def My:St→Option BB
 |⟨29,0,[(0,.v (.int .u32 z0)),(7,.sl .u8 z1),(8,.v (.int .i64 z2)),(9,.v (.int .i64 z3))],[]⟩=>some (z0,z1,z2,z3)
 |_=>none
theorem Aar:∀s x,My s=some x→s=Kx x:=fun s x h=>by
 unfold My at h
 split at h
 ·cases h;rfl
 ·cases h
def Uk:Cz:=⟨0,0,[0,7,8,9],[],[],[],[0],[]⟩
def Aou:CX:=⟨[],[],[0,7,8,9],[]⟩
def Lj (a0:Int) (a1:List UInt8) (_a2:Int) (a3:Int):Int:=(Ll (IntKind.u32.wrap (↑(BitVec.ofInt (32:Nat) a0^^^BitVec.ofInt (32:Nat) (IntKind.u32.wrap (IntKind.u32.wrap (↑(UInt8.toNat (a1.getD a3.toNat (Ae TC.u8))):Int)*(16777216:Int)))).toNat:Int),(0:Int))).fst
def BW (x:BB):BB:=(Lj x.1 x.2.1 x.2.2.1 x.2.2.2,x.2.1,x.2.2.1,IntKind.i64.wrap (x.2.2.2+(1:Int)))
def BV (x:BB):Cnd:=some (!!decide (x.2.2.2 <x.2.2.1))
def QH (x:BB):List Prop:=[((!!decide (x.2.2.2 <x.2.2.1))=true→(0:Int)≤x.2.2.2∧x.2.2.2 <(↑x.2.1.length:Int)),((!!decide (x.2.2.2 <x.2.2.1))=true→Ag Tryz.prog (123:FuncId) (2:Nat)=Ag Tryz.prog (123:FuncId) (2:Nat)),((!!decide (x.2.2.2 <x.2.2.1))=true→Ax DF DE Hd (Fi (IntKind.u32.wrap (↑(BitVec.ofInt (32:Nat) x.1^^^BitVec.ofInt (32:Nat) (IntKind.u32.wrap (IntKind.u32.wrap (↑(UInt8.toNat (x.2.1.getD x.2.2.2.toNat (Ae TC.u8))):Int)*(16777216:Int)))).toNat:Int),(0:Int))) (IntKind.u32.wrap (↑(BitVec.ofInt (32:Nat) x.1^^^BitVec.ofInt (32:Nat) (IntKind.u32.wrap (IntKind.u32.wrap (↑(UInt8.toNat (x.2.1.getD x.2.2.2.toNat (Ae TC.u8))):Int)*(16777216:Int)))).toNat:Int),(0:Int)))]
def D6 (x:BB):List Prop:=[((!!decide (x.2.2.2 <x.2.2.1))=true→(0:Int)≤x.2.2.2∧x.2.2.2 <(↑x.2.1.length:Int)),((!!decide (x.2.2.2 <x.2.2.1))=true→Ax DF DE Hd (Fi (IntKind.u32.wrap (↑(BitVec.ofInt (32:Nat) x.1^^^BitVec.ofInt (32:Nat) (IntKind.u32.wrap (IntKind.u32.wrap (↑(UInt8.toNat (x.2.1.getD x.2.2.2.toNat (Ae TC.u8))):Int)*(16777216:Int)))).toNat:Int),(0:Int))) (IntKind.u32.wrap (↑(BitVec.ofInt (32:Nat) x.1^^^BitVec.ofInt (32:Nat) (IntKind.u32.wrap (IntKind.u32.wrap (↑(UInt8.toNat (x.2.1.getD x.2.2.2.toNat (Ae TC.u8))):Int)*(16777216:Int)))).toNat:Int),(0:Int)))]
def Pe (x:BB):AR:=[(some 0,some (!decide (x.2.2.2 <x.2.2.1)),⟨29,0,[(0,.v (.int .u32 x.1))],[]⟩)]
def CO (x:BB):Nat:=(x.2.2.1 - x.2.2.2).toNat
def QJ (x:BB):BB:=AF BW BV (CO x) x
theorem Ak4 (a0:Int) (a1:List UInt8) (a2:Int) (a3:Int):Ba (As Any Ky) 9 (Ag Tryz.prog 123 0) Uk (Kx (a0,a1,a2,a3))=some (QH (a0,a1,a2,a3),Pe (a0,a1,a2,a3),BV (a0,a1,a2,a3),Kx (BW (a0,a1,a2,a3))):=by kernel_rfl
theorem Ak5 (a0:Int) (a1:List UInt8) (a2:Int) (a3:Int) (hp:∀p∈D6 (a0,a1,a2,a3),p):∀p∈QH (a0,a1,a2,a3),p:=by
 have n0:=N0 hp
 have n1:((!!decide (a3 <a2))=true→Ag Tryz.prog (123:FuncId) (2:Nat)=Ag Tryz.prog (123:FuncId) (2:Nat)):=by intros;rfl
 have n2:=N0 (N1 hp)
 exact(Aa n0 (Aa n1 (Aa n2 Af)))
noncomputable def QI:=HB (As Any Ky) (Ag Tryz.prog 123 0) Uk Aou My CO BW BV D6 Pe
theorem Aej:∀s b ps outs,QI s=some (b,ps,outs)→Wf s ⟨ps,outs,none⟩∧Bg (As C0 L0) b s ps outs:=
 AT (T:=Kx) Z7 QK (u:=9) (by kernel_rfl) (by decide) (fun⟨a0,a1,a2,a3⟩=>Ak4 a0 a1 a2 a3) (fun⟨a0,a1,a2,a3⟩=>Ak5 a0 a1 a2 a3) Aar (fun _=>AD (n:=29) rfl) fun _ _=>rfl
noncomputable def Uj:=Dd 0 QI Ky
theorem Aei:G9 Uj:=AH Aej QK
def Pd (a0:Int) (a1:List UInt8):Int:=(QJ (a0,a1,(↑a1.length:Int),(0:Int))).fst
def Un (a0:Int) (a1:List UInt8):A:=.v (.int .u32 (Pd a0 a1))
def Um (_a0:Int) (_a1:List UInt8):Objs:=[]
def Aat (a0:Int) (a1:List UInt8):List Prop:=[(Ax BW BV D6 (CO (a0,a1,(↑a1.length:Int),(0:Int))) (a0,a1,(↑a1.length:Int),(0:Int)))]
theorem A01 (a0:Int) (a1:List UInt8):Hz (As Any Uj) 9 123 [Ai .u32 a0,Ai .bytes a1] 0 []=some (1,Un a0 a1,0,Um a0 a1,[(Ag Tryz.prog (123:FuncId) (0:Nat)=Ag Tryz.prog (123:FuncId) (0:Nat)),(Ax BW BV D6 (CO (a0,a1,(↑a1.length:Int),(0:Int))) (a0,a1,(↑a1.length:Int),(0:Int)))]):=by kernel_rfl
theorem A5x (a0:Int) (a1:List UInt8) (hp:∀p∈Aat a0 a1,p):CallOk Tryz.prog 123 [Ai .u32 a0,Ai .bytes a1] 0 [] 1 (Un a0 a1) 0 (Um a0 a1):=by
 have n1:=N0 hp
 exact AB (Ar Z7 Aei) (A01 a0 a1) (Aa rfl (Aa n1 Af))
def Ahq:List A→Nat→Objs→Option A6:=Bt [.t .u32,.t .bytes] 0 Un Um Aat
theorem Au1:HF Tryz.prog 123 Ahq:=Av (ks:=[.t .u32,.t .bytes]) A5x
noncomputable def A4i:=AS 123 Ahq Any
theorem Anz:Cr Tryz.prog A4i:=An Au1 Z7
abbrev BJ:Type:=Int×(List UInt8)×Int
def KY (x:BJ):St:=⟨29,0,[(0,.v (.int .u32 x.1)),(1,.sl .u8 x.2.1),(5,.v (.int .i64 x.2.2))],[]⟩
def MK:St→Option BJ
 |⟨29,0,[(0,.v (.int .u32 z0)),(1,.sl .u8 z1),(5,.v (.int .i64 z2))],[]⟩=>some (z0,z1,z2)
 |_=>none
theorem Ab8:∀s x,MK s=some x→s=KY x:=fun s x h=>by
 unfold MK at h
 split at h
 ·cases h;rfl
 ·cases h
def Vp:Cz:=⟨0,0,[0,1,5],[],[],[],[0],[]⟩
def Aq9:CX:=⟨[],[],[0,1,5],[]⟩
def BX (_a0:Int) (a1:List UInt8) (a2:Int):Int:=IntKind.u32.wrap (↑(UInt8.toNat (a1.getD a2.toNat (Ae TC.u8))):Int)
def Au (_a0:Int) (a1:List UInt8) (a2:Int):Bool:=!!decide (a2 <(↑a1.length:Int))
def Jq (a0:Int) (a1:List UInt8) (a2:Int):Int:=HN (HN (HN (HN (HN (HN (HN (HN a0 (IntKind.u32.wrap (↑(BitVec.ofInt (32:Nat) ((BX a0 a1 a2).fdiv (128:Int)) &&& BitVec.ofInt (32:Nat) (1:Int)).toNat:Int))) (IntKind.u32.wrap (↑(BitVec.ofInt (32:Nat) ((BX a0 a1 a2).fdiv (64:Int)) &&& BitVec.ofInt (32:Nat) (1:Int)).toNat:Int))) (IntKind.u32.wrap (↑(BitVec.ofInt (32:Nat) ((BX a0 a1 a2).fdiv (32:Int)) &&& BitVec.ofInt (32:Nat) (1:Int)).toNat:Int))) (IntKind.u32.wrap (↑(BitVec.ofInt (32:Nat) ((BX a0 a1 a2).fdiv (16:Int)) &&& BitVec.ofInt (32:Nat) (1:Int)).toNat:Int))) (IntKind.u32.wrap (↑(BitVec.ofInt (32:Nat) ((BX a0 a1 a2).fdiv (8:Int)) &&& BitVec.ofInt (32:Nat) (1:Int)).toNat:Int))) (IntKind.u32.wrap (↑(BitVec.ofInt (32:Nat) ((BX a0 a1 a2).fdiv (4:Int)) &&& BitVec.ofInt (32:Nat) (1:Int)).toNat:Int))) (IntKind.u32.wrap (↑(BitVec.ofInt (32:Nat) ((BX a0 a1 a2).fdiv (2:Int)) &&& BitVec.ofInt (32:Nat) (1:Int)).toNat:Int))) (IntKind.u32.wrap (↑(BitVec.ofInt (32:Nat) ((BX a0 a1 a2).fdiv (1:Int)) &&& BitVec.ofInt (32:Nat) (1:Int)).toNat:Int))
def CV (x:BJ):BJ:=(Jq x.1 x.2.1 x.2.2,x.2.1,IntKind.i64.wrap (x.2.2+(1:Int)))
def CU (x:BJ):Cnd:=some ((Au x.1 x.2.1 x.2.2))
def Rm (x:BJ):List Prop:=[((Au x.1 x.2.1 x.2.2)=true→(0:Int)≤x.2.2∧x.2.2 <(↑x.2.1.length:Int)),((Au x.1 x.2.1 x.2.2)=true→(0:Int)≤(7:Int)),((Au x.1 x.2.1 x.2.2)=true→(0:Int)≤x.2.2∧x.2.2 <(↑x.2.1.length:Int)),((Au x.1 x.2.1 x.2.2)=true→(0:Int)≤(6:Int)),((Au x.1 x.2.1 x.2.2)=true→(0:Int)≤x.2.2∧x.2.2 <(↑x.2.1.length:Int)),((Au x.1 x.2.1 x.2.2)=true→(0:Int)≤(5:Int)),((Au x.1 x.2.1 x.2.2)=true→(0:Int)≤x.2.2∧x.2.2 <(↑x.2.1.length:Int)),((Au x.1 x.2.1 x.2.2)=true→(0:Int)≤(4:Int)),((Au x.1 x.2.1 x.2.2)=true→(0:Int)≤x.2.2∧x.2.2 <(↑x.2.1.length:Int)),((Au x.1 x.2.1 x.2.2)=true→(0:Int)≤(3:Int)),((Au x.1 x.2.1 x.2.2)=true→(0:Int)≤x.2.2∧x.2.2 <(↑x.2.1.length:Int)),((Au x.1 x.2.1 x.2.2)=true→(0:Int)≤(2:Int)),((Au x.1 x.2.1 x.2.2)=true→(0:Int)≤x.2.2∧x.2.2 <(↑x.2.1.length:Int)),((Au x.1 x.2.1 x.2.2)=true→(0:Int)≤(1:Int)),((Au x.1 x.2.1 x.2.2)=true→(0:Int)≤x.2.2∧x.2.2 <(↑x.2.1.length:Int)),((Au x.1 x.2.1 x.2.2)=true→(0:Int)≤(0:Int))]
def FN (x:BJ):List Prop:=[((Au x.1 x.2.1 x.2.2)=true→(0:Int)≤x.2.2∧x.2.2 <(↑x.2.1.length:Int))]
def PD (x:BJ):AR:=[(some 0,some (!decide (x.2.2 <(↑x.2.1.length:Int))),⟨29,0,[(0,.v (.int .u32 x.1))],[]⟩)]
def DS (x:BJ):Nat:=((↑x.2.1.length:Int) - x.2.2).toNat
def Ro (x:BJ):BJ:=AF CV CU (DS x) x
theorem Alv (a0:Int) (a1:List UInt8) (a2:Int):Ba (As A4i L0) 9 (Ag Tryz.prog 117 0) Vp (KY (a0,a1,a2))=some (Rm (a0,a1,a2),PD (a0,a1,a2),CU (a0,a1,a2),KY (CV (a0,a1,a2))):=by kernel_rfl
theorem Alw (a0:Int) (a1:List UInt8) (a2:Int) (hp:∀p∈FN (a0,a1,a2),p):∀p∈Rm (a0,a1,a2),p:=by
 have n0:((Au a0 a1 a2)=true→(0:Int)≤a2∧a2 <(↑a1.length:Int)):=N0 hp
 have n1:((Au a0 a1 a2)=true→(0:Int)≤(7:Int)):=by omega
 have n3:((Au a0 a1 a2)=true→(0:Int)≤(6:Int)):=by omega
 have n5:((Au a0 a1 a2)=true→(0:Int)≤(5:Int)):=by omega
 have n7:((Au a0 a1 a2)=true→(0:Int)≤(4:Int)):=by omega
 have n9:((Au a0 a1 a2)=true→(0:Int)≤(3:Int)):=by omega
 have n11:((Au a0 a1 a2)=true→(0:Int)≤(2:Int)):=by omega
 have n13:((Au a0 a1 a2)=true→(0:Int)≤(1:Int)):=by omega
 have n15:((Au a0 a1 a2)=true→(0:Int)≤(0:Int)):=by omega
 exact(Aa n0 (Aa n1 (Aa n0 (Aa n3 (Aa n0 (Aa n5 (Aa n0 (Aa n7 (Aa n0 (Aa n9 (Aa n0 (Aa n11 (Aa n0 (Aa n13 (Aa n0 (Aa n15 Af))))))))))))))))
noncomputable def Rn:=HB (As A4i L0) (Ag Tryz.prog 117 0) Vp Aq9 MK DS CV CU FN PD
theorem Af1:∀s b ps outs,Rn s=some (b,ps,outs)→Wf s ⟨ps,outs,none⟩∧Bg (As C0 L0) b s ps outs:=
 AT (T:=KY) Anz AA (u:=9) (by kernel_rfl) (by decide) (fun⟨a0,a1,a2⟩=>Alv a0 a1 a2) (fun⟨a0,a1,a2⟩=>Alw a0 a1 a2) Ab8 (fun _=>AD (n:=29) rfl) fun _ _=>rfl
noncomputable def Vo:=Dd 0 Rn L0
theorem Af0:G9 Vo:=AH Af1 AA
def PC (a0:Int) (a1:List UInt8):Int:=(Ro (a0,a1,(0:Int))).fst
def Vr (a0:Int) (a1:List UInt8):A:=.v (.int .u32 (PC a0 a1))
def Vq (_a0:Int) (_a1:List UInt8):Objs:=[]
def Ab9 (a0:Int) (a1:List UInt8):List Prop:=[(Ax CV CU FN (DS (a0,a1,(0:Int))) (a0,a1,(0:Int)))]
theorem A2b (a0:Int) (a1:List UInt8):Hz (As A4i Vo) 9 117 [Ai .u32 a0,Ai .bytes a1] 0 []=some (1,Vr a0 a1,0,Vq a0 a1,[(Ag Tryz.prog (117:FuncId) (0:Nat)=Ag Tryz.prog (117:FuncId) (0:Nat)),(Ax CV CU FN (DS (a0,a1,(0:Int))) (a0,a1,(0:Int)))]):=by kernel_rfl
theorem A7u (a0:Int) (a1:List UInt8) (hp:∀p∈Ab9 a0 a1,p):CallOk Tryz.prog 117 [Ai .u32 a0,Ai .bytes a1] 0 [] 1 (Vr a0 a1) 0 (Vq a0 a1):=by
 have n1:=N0 hp
 exact AB (Ar Anz Af0) (A2b a0 a1) (Aa rfl (Aa n1 Af))
def Aii:List A→Nat→Objs→Option A6:=Bt [.t .u32,.t .bytes] 0 Vr Vq Ab9
theorem Avt:HF Tryz.prog 117 Aii:=Av (ks:=[.t .u32,.t .bytes]) A7u
noncomputable def Bka:=AS 117 Aii A4i
theorem A4j:Cr Tryz.prog Bka:=An Avt Anz
def IX (a0:Int) (_a1:List UInt8):Int:=IntKind.u32.wrap (↑(BitVec.ofInt (32:Nat) (4294967295:Int)^^^BitVec.ofInt (32:Nat) a0).toNat:Int)
def Sa (a0:Int) (a1:List UInt8):Int:=IntKind.u32.wrap (↑(BitVec.ofInt (32:Nat) (4294967295:Int)^^^BitVec.ofInt (32:Nat) (Pd (IX a0 a1) a1)).toNat:Int)
def YE (a0:Int) (a1:List UInt8):A:=.v (.int .u32 (Sa a0 a1))
def YD (_a0:Int) (_a1:List UInt8):Objs:=[]
def Ug (a0:Int) (a1:List UInt8):List Prop:=[(Ax BW BV D6 (CO ((IX a0 a1),a1,(↑a1.length:Int),(0:Int))) ((IX a0 a1),a1,(↑a1.length:Int),(0:Int)))]
theorem A5u (a0:Int) (a1:List UInt8):Hz (As Bka L0) 9 113 [Ai .u32 a0,Ai .bytes a1] 0 []=some (1,YE a0 a1,0,YD a0 a1,Ug a0 a1):=by kernel_rfl
theorem Ba8 (a0:Int) (a1:List UInt8) (hp:∀p∈Ug a0 a1,p):CallOk Tryz.prog 113 [Ai .u32 a0,Ai .bytes a1] 0 [] 1 (YE a0 a1) 0 (YD a0 a1):=AB (Ar A4j AA) (A5u a0 a1) hp
def Aor:List A→Nat→Objs→Option A6:=Bt [.t .u32,.t .bytes] 0 YE YD Ug
theorem A0w:HF Tryz.prog 113 Aor:=Av (ks:=[.t .u32,.t .bytes]) Ba8
noncomputable def Bkb:=AS 113 Aor Bka
theorem A4k:Cr Tryz.prog Bkb:=An A0w A4j
def Aeh (a0:List UInt8):A:=.v (.int .u32 (Sa (0:Int) a0))
def Axz (_a0:List UInt8):Objs:=[]
def Aot (a0:List UInt8):List Prop:=[(Ax BW BV D6 (CO (IX (0:Int) a0,a0,(↑a0.length:Int),(0:Int))) (IX (0:Int) a0,a0,(↑a0.length:Int),(0:Int)))]
theorem Bba (a0:List UInt8):Hz (As Bkb L0) 9 97 [Ai .bytes a0] 0 []=some (1,Aeh a0,0,Axz a0,Aot a0):=by kernel_rfl
theorem Bh2 (a0:List UInt8) (hp:∀p∈Aot a0,p):CallOk Tryz.prog 97 [Ai .bytes a0] 0 [] 1 (Aeh a0) 0 (Axz a0):=AB (Ar A4k AA) (Bba a0) hp
def YF (a0:List UInt8):A:=.v (.int .u32 (wB (FX a0)))
def Aos (_a0:List UInt8):Objs:=[]
def Ahp (a0:List UInt8):List Prop:=[Am a0.length]
theorem Bu3 (x:BitVec 32):Jk (wB x) 0=wB (crS x):=by
 unfold Jk crS
 rw[Btd,Btf,Buv,Aqi,Aqi,Auq]
def Bp1 (x:BitVec 32):Nat→BitVec 32
 |0=>x
 |n+1=>crS (Bp1 x n)
theorem Bsz (x:BitVec 32):Ax DF DE Hd (Fi (wB x,0)) (wB x,0)∧(Ll (wB x,0)).fst=wB (cr8 x):=by
 obtain⟨h1,h2⟩:=Am8 (fun i=>((wB (Bp1 x i),(i:Int)):BC)) 8 DF DE Hd (Fi (wB x,0)) (wB x,0) rfl (by show 8≤((8:Int) - 0).toNat;decide)
  (fun i _=>by
   show(!!decide ((i:Int) <8))=_
   rw[nn]
   exact Mu (n:=8))
  (fun i hi=>by
   show(Jk (wB (Bp1 x i)) 0,IntKind.i64.wrap ((i:Int)+1))=_
   rw[Bu3,Fz (by omega)]
   rfl) (fun i _ p hp=>by cases hp)
 have h3:Ll (wB x,0)=(wB (Bp1 x 8),8):=h2
 exact⟨h1,by rw[h3];rfl⟩
theorem A00 (r:BitVec 32) (b:List UInt8) (hb:Am b.length):Ax BW BV D6 (CO (wB r,b,(b.length:Int),0)) (wB r,b,(b.length:Int),0)∧Pd (wB r) b=wB (crB r b):=by
 unfold Am at hb
 have e0:∀i,IntKind.u32.wrap (((BitVec.ofInt 32 (wB (crB r (b.take i)))^^^BitVec.ofInt 32 (IntKind.u32.wrap (IntKind.u32.wrap (↑(UInt8.toNat (b.getD ((i:Int)).toNat (Ae TC.u8))):Int)*16777216))).toNat:Nat):Int)=wB (crB r (b.take i)^^^hiB (b.getD i 0)):=fun i=>by rw[Bxn,Aqi,Aqi,Auq,Int.toNat_natCast];rfl
 obtain⟨h1,h2⟩:=Am8 (fun i=>((wB (crB r (b.take i)),b,(b.length:Int),(i:Int)):BB)) b.length BW BV D6 (CO (wB r,b,(b.length:Int),0)) (wB r,b,(b.length:Int),0) rfl (by show _≤((b.length:Int) - 0).toNat;omega)
  (fun i _=>by
   show(!!decide ((i:Int) <(b.length:Int)))=_
   rw[nn,Mu])
  (fun i hi=>by
   show(Lj (wB (crB r (b.take i))) b (b.length:Int) (i:Int),b,(b.length:Int),IntKind.i64.wrap ((i:Int)+1))=(wB (crB r (b.take (i+1))),b,(b.length:Int),((i+1:Nat):Int))
   rw[A5t _ _ _ hi,Fz (by omega)]
   unfold Lj
   rw[e0,(Bsz _).2]
   rfl) (fun i _=>Aa (fun h=>by
    have h':(!!decide ((i:Int) <(b.length:Int)))=true:=h
    rw[nn] at h'
    have:=of_decide_eq_true h'
    show(0:Int)≤(i:Int)∧(i:Int) <(b.length:Int)
    omega) (Aa (fun _=>by
    have:=(Bsz (crB r (b.take i)^^^hiB (b.getD i 0))).1
    rw[←e0 i] at this
    exact this) Af))
 refine⟨h1,?_⟩
 have h3:QJ (wB r,b,(b.length:Int),0)=(wB (crB r (b.take b.length)),b,(b.length:Int),(b.length:Int)):=h2
 unfold Pd
 rw[h3,List.take_length]
theorem Ba9 (a0:List UInt8) (hp:∀p∈Ahp a0,p):CallOk Tryz.prog 97 [Ai .bytes a0] 0 [] 1 (YF a0) 0 (Aos a0):=by
 obtain⟨h1,h2⟩:=A00 (BitVec.allOnes 32) a0 (hp _ (List.mem_cons_self ..))
 have h:=Bh2 a0 (Aa h1 Af)
 have e:Aeh a0=YF a0:=by
  show A.v (.int .u32 (Sa 0 a0))=.v (.int .u32 (wB (FX a0)))
  unfold Sa FX
  rw[show IX 0 a0=wB (BitVec.allOnes 32) from by unfold IX;decide,h2,Aqi,Bs9]
 rw[e] at h
 exact h
def Ax0:List A→Nat→Objs→Option A6:=Bt [.t .bytes] 0 YF Aos Ahp
theorem A5w:HF Tryz.prog 97 Ax0:=Av (ks:=[.t .bytes]) Ba9
noncomputable def Bkc:=AS 97 Ax0 Bkb
theorem A4l:Cr Tryz.prog Bkc:=An A5w A4k
def Afw (a0:List UInt8):Int:=IntKind.u32.wrap (↑(BitVec.ofInt (32:Nat) (4294967295:Int)^^^BitVec.ofInt (32:Nat) (PC (4294967295:Int) a0)).toNat:Int)
def Afx (a0:List UInt8):A:=.v (.int .u32 (Afw a0))
def Ayy (_a0:List UInt8):Objs:=[]
def Aq8 (a0:List UInt8):List Prop:=[(Ax CV CU FN (DS ((4294967295:Int),a0,(0:Int))) ((4294967295:Int),a0,(0:Int)))]
theorem Bcp (a0:List UInt8):Hz (As Bkc L0) 9 102 [Ai .bytes a0] 0 []=some (1,Afx a0,0,Ayy a0,Aq8 a0):=by kernel_rfl
theorem Bi1 (a0:List UInt8) (hp:∀p∈Aq8 a0,p):CallOk Tryz.prog 102 [Ai .bytes a0] 0 [] 1 (Afx a0) 0 (Ayy a0):=AB (Ar A4l AA) (Bcp a0) hp
def Y6 (a0:List UInt8):A:=.v (.int .u32 (wB (FX a0)))
def Aq7 (_a0:List UInt8):Objs:=[]
def Aih (a0:List UInt8):List Prop:=[Am a0.length]
theorem A5e (x:BitVec 32) (b:Bool):HN (wB x) (bif b then 1 else 0)=wB (crT x b):=by
 unfold HN Y7 crT
 rw[Btd,Btf,Aqi,show BitVec.ofInt 32 79764919=Bgz by decide,Auq]
 cases x.getLsbD 31<;>cases b
 ·show wB (x <<< 1)=wB ((x <<< 1)^^^0#32);rw[BitVec.xor_zero]
 ·rfl
 ·rfl
 ·show wB (x <<< 1)=wB ((x <<< 1)^^^0#32);rw[BitVec.xor_zero]
theorem Bt6 (x:BitVec 32) (y:UInt8) (l:List UInt8) (i:Nat) (h:l.getD i 0=y):Jq (wB x) l (i:Int)=wB (byB x y):=by
 rw[Blc]
 unfold Jq BX Ba3
 rw[Int.toNat_natCast,show l.getD i (Ae TC.u8)=y from h]
 rw[Aha y 7 (d:=128) rfl,Aha y 6 (d:=64) rfl,Aha y 5 (d:=32) rfl,Aha y 4 (d:=16) rfl,Aha y 3 (d:=8) rfl,Aha y 2 (d:=4) rfl,Aha y 1 (d:=2) rfl,Aha y 0 (d:=1) rfl]
 rw[A5e,A5e,A5e,A5e,A5e,A5e,A5e,A5e]
theorem A2a (r:BitVec 32) (b:List UInt8) (hb:Am b.length):Ax CV CU FN (DS (wB r,b,0)) (wB r,b,0)∧PC (wB r) b=wB (crB r b):=by
 unfold Am at hb
 obtain⟨h1,h2⟩:=Am8 (fun i=>((wB (crB r (b.take i)),b,(i:Int)):BJ)) b.length CV CU FN (DS (wB r,b,0)) (wB r,b,0) rfl (by show _≤((b.length:Int) - 0).toNat;omega)
  (fun i _=>by
   show(!!decide ((i:Int) <(b.length:Int)))=_
   rw[nn,Mu])
  (fun i hi=>by
   show(Jq (wB (crB r (b.take i))) b (i:Int),b,IntKind.i64.wrap ((i:Int)+1))=(wB (crB r (b.take (i+1))),b,((i+1:Nat):Int))
   rw[A5t _ _ _ hi,Fz (by omega),Bt6 _ _ _ _ rfl]) (fun i _=>Aa (fun h=>by
    have h':(!!decide ((i:Int) <(b.length:Int)))=true:=h
    rw[nn] at h'
    have:=of_decide_eq_true h'
    show(0:Int)≤(i:Int)∧(i:Int) <(b.length:Int)
    omega) Af)
 refine⟨h1,?_⟩
 have h3:Ro (wB r,b,0)=(wB (crB r (b.take b.length)),b,(b.length:Int)):=h2
 unfold PC
 rw[h3,List.take_length]
theorem Bco (a0:List UInt8) (hp:∀p∈Aih a0,p):CallOk Tryz.prog 102 [Ai .bytes a0] 0 [] 1 (Y6 a0) 0 (Aq7 a0):=by
 obtain⟨h1,h2⟩:=A2a (BitVec.allOnes 32) a0 (hp _ (List.mem_cons_self ..))
 have h:=Bi1 a0 (Aa h1 Af)
 have e:Afx a0=Y6 a0:=by
  show A.v (.int .u32 (Afw a0))=.v (.int .u32 (wB (FX a0)))
  unfold Afw FX
  rw[show wB (BitVec.allOnes 32)=4294967295 by decide] at h2
  rw[h2,Aqi,Bs9]
 rw[e] at h
 exact h
def Ayz:List A→Nat→Objs→Option A6:=Bt [.t .bytes] 0 Y6 Aq7 Aih
theorem A7s:HF Tryz.prog 102 Ayz:=Av (ks:=[.t .bytes]) Bco
noncomputable def Bkd:=AS 102 Ayz Bkc
theorem A4m:Cr Tryz.prog Bkd:=An A7s A4l
def YC (a0:List UInt8):List UInt8:=[]++a0
def Axx (a0:List UInt8):List UInt8:=(YC a0)++[UInt8.ofNat (IntKind.u8.wrap ((wB (FX a0)).fdiv (16777216:Int))).toNat,UInt8.ofNat (IntKind.u8.wrap ((wB (FX a0)).fdiv (65536:Int))).toNat,UInt8.ofNat (IntKind.u8.wrap ((wB (FX a0)).fdiv (256:Int))).toNat,UInt8.ofNat (IntKind.u8.wrap (wB (FX a0))).toNat]
def Axy (_a0:List UInt8):A:=.sq 0
def Wm (a0:List UInt8):Objs:=[(0,some (.arr 5 1 (.ty .u8 (Axx a0))))]
def Ba7 (a0:List UInt8):List Prop:=[(Am a0.length),(Ad ((0:Nat)+a0.length)),(Ad ((YC a0).length+(4:Nat)))]
theorem Ba6 (a0:List UInt8):Hz (As Bkd L0) 9 57 [Ai .bytes a0] 0 []=some (1,Axy a0,1,Wm a0,[(Am a0.length),(Ad ((0:Nat)+a0.length)),(Ad ((YC a0).length+(4:Nat))),((0:Int)≤IntKind.u8.wrap ((wB (FX a0)).fdiv (16777216:Int))∧IntKind.u8.wrap ((wB (FX a0)).fdiv (16777216:Int)) <(256:Int)),((0:Int)≤IntKind.u8.wrap ((wB (FX a0)).fdiv (65536:Int))∧IntKind.u8.wrap ((wB (FX a0)).fdiv (65536:Int)) <(256:Int)),((0:Int)≤IntKind.u8.wrap ((wB (FX a0)).fdiv (256:Int))∧IntKind.u8.wrap ((wB (FX a0)).fdiv (256:Int)) <(256:Int)),((0:Int)≤IntKind.u8.wrap (wB (FX a0))∧IntKind.u8.wrap (wB (FX a0)) <(256:Int))]):=by kernel_rfl
theorem Bh1 (a0:List UInt8) (hp:∀p∈Ba7 a0,p):CallOk Tryz.prog 57 [Ai .bytes a0] 0 [] 1 (Axy a0) 1 (Wm a0):=by
 have n0:=N0 hp
 have n1:=N0 (N1 hp)
 have n2:=N0 (N1 (N1 hp))
 have n3:((0:Int)≤IntKind.u8.wrap ((wB (FX a0)).fdiv (16777216:Int))∧IntKind.u8.wrap ((wB (FX a0)).fdiv (16777216:Int)) <(256:Int)):=by intros;exact M6 _
 have n4:((0:Int)≤IntKind.u8.wrap ((wB (FX a0)).fdiv (65536:Int))∧IntKind.u8.wrap ((wB (FX a0)).fdiv (65536:Int)) <(256:Int)):=by intros;exact M6 _
 have n5:((0:Int)≤IntKind.u8.wrap ((wB (FX a0)).fdiv (256:Int))∧IntKind.u8.wrap ((wB (FX a0)).fdiv (256:Int)) <(256:Int)):=by intros;exact M6 _
 have n6:((0:Int)≤IntKind.u8.wrap (wB (FX a0))∧IntKind.u8.wrap (wB (FX a0)) <(256:Int)):=by intros;exact M6 _
 exact AB (Ar A4m AA) (Ba6 a0) (Aa n0 (Aa n1 (Aa n2 (Aa n3 (Aa n4 (Aa n5 (Aa n6 Af)))))))
def Aoq (_a0:List UInt8):A:=.sq 0
def R9 (a0:List UInt8):Objs:=[(0,some (.arr 5 1 (.ty .u8 (A1a a0))))]
def Ahl (a0:List UInt8):List Prop:=[Ad (a0.length+4)]
theorem Aev (s:BitVec 32):[UInt8.ofNat (IntKind.u8.wrap ((wB s).fdiv 16777216)).toNat,UInt8.ofNat (IntKind.u8.wrap ((wB s).fdiv 65536)).toNat,UInt8.ofNat (IntKind.u8.wrap ((wB s).fdiv 256)).toNat,UInt8.ofNat (IntKind.u8.wrap (wB s)).toNat]=Bxa s:=by
 have e0:UInt8.ofNat (IntKind.u8.wrap (wB s)).toNat=UInt8.ofNat s.toNat:=by
  have h:=A0l s 0
  rw[show((2^0:Nat):Int)=1 from rfl,Int.fdiv_one,show 2^0=1 from rfl,Nat.div_one] at h
  exact h
 have h1:=A0l s 24
 have h2:=A0l s 16
 have h3:=A0l s 8
 rw[show((2^24:Nat):Int)=16777216 from rfl] at h1
 rw[show((2^16:Nat):Int)=65536 from rfl] at h2
 rw[show((2^8:Nat):Int)=256 from rfl] at h3
 rw[e0,h1,h2,h3]
 rfl
theorem Ba5 (l:List UInt8):Axx l=A1a l:=congrArg (l++·) (Aev (FX l))
theorem Ba4 (a0:List UInt8) (hp:∀p∈Ahl a0,p):CallOk Tryz.prog 57 [Ai .bytes a0] 0 [] 1 (Aoq a0) 1 (R9 a0):=by
 have hb:=hp _ (List.mem_cons_self ..)
 unfold Ad at hb
 have h:=Bh1 a0 (Aa (by unfold Am;omega) (Aa (by unfold Ad;omega) (Aa (by show Ad (a0.length+4);unfold Ad;omega) Af)))
 have e:Wm a0=R9 a0:=by unfold Wm R9;rw[Ba5]
 rw[e] at h
 exact h
def Aeg:List A→Nat→Objs→Option A6:=Bt [.t .bytes] 1 Aoq R9 Ahl
theorem Ahm:HF Tryz.prog 57 Aeg:=Av (ks:=[.t .bytes]) Ba4
noncomputable def Bke:=AS 57 Aeg Bkd
theorem A4n:Cr Tryz.prog Bke:=An Ahm A4m
def Y5 (a0:List UInt8):List UInt8:=[]++a0
def Ayw (a0:List UInt8):List UInt8:=(Y5 a0)++[UInt8.ofNat (IntKind.u8.wrap ((wB (FX a0)).fdiv (16777216:Int))).toNat,UInt8.ofNat (IntKind.u8.wrap ((wB (FX a0)).fdiv (65536:Int))).toNat,UInt8.ofNat (IntKind.u8.wrap ((wB (FX a0)).fdiv (256:Int))).toNat,UInt8.ofNat (IntKind.u8.wrap (wB (FX a0))).toNat]
def Ayx (_a0:List UInt8):A:=.sq 0
def WE (a0:List UInt8):Objs:=[(0,some (.arr 5 1 (.ty .u8 (Ayw a0))))]
def Bcn (a0:List UInt8):List Prop:=[(Am a0.length),(Ad ((0:Nat)+a0.length)),(Ad ((Y5 a0).length+(4:Nat)))]
theorem Bcm (a0:List UInt8):Hz (As Bke L0) 9 63 [Ai .bytes a0] 0 []=some (1,Ayx a0,1,WE a0,[(Am a0.length),(Ad ((0:Nat)+a0.length)),(Ad ((Y5 a0).length+(4:Nat))),((0:Int)≤IntKind.u8.wrap ((wB (FX a0)).fdiv (16777216:Int))∧IntKind.u8.wrap ((wB (FX a0)).fdiv (16777216:Int)) <(256:Int)),((0:Int)≤IntKind.u8.wrap ((wB (FX a0)).fdiv (65536:Int))∧IntKind.u8.wrap ((wB (FX a0)).fdiv (65536:Int)) <(256:Int)),((0:Int)≤IntKind.u8.wrap ((wB (FX a0)).fdiv (256:Int))∧IntKind.u8.wrap ((wB (FX a0)).fdiv (256:Int)) <(256:Int)),((0:Int)≤IntKind.u8.wrap (wB (FX a0))∧IntKind.u8.wrap (wB (FX a0)) <(256:Int))]):=by kernel_rfl
theorem Bi0 (a0:List UInt8) (hp:∀p∈Bcn a0,p):CallOk Tryz.prog 63 [Ai .bytes a0] 0 [] 1 (Ayx a0) 1 (WE a0):=by
 have n0:=N0 hp
 have n1:=N0 (N1 hp)
 have n2:=N0 (N1 (N1 hp))
 have n3:((0:Int)≤IntKind.u8.wrap ((wB (FX a0)).fdiv (16777216:Int))∧IntKind.u8.wrap ((wB (FX a0)).fdiv (16777216:Int)) <(256:Int)):=by intros;exact M6 _
 have n4:((0:Int)≤IntKind.u8.wrap ((wB (FX a0)).fdiv (65536:Int))∧IntKind.u8.wrap ((wB (FX a0)).fdiv (65536:Int)) <(256:Int)):=by intros;exact M6 _
 have n5:((0:Int)≤IntKind.u8.wrap ((wB (FX a0)).fdiv (256:Int))∧IntKind.u8.wrap ((wB (FX a0)).fdiv (256:Int)) <(256:Int)):=by intros;exact M6 _
 have n6:((0:Int)≤IntKind.u8.wrap (wB (FX a0))∧IntKind.u8.wrap (wB (FX a0)) <(256:Int)):=by intros;exact M6 _
 exact AB (Ar A4n AA) (Bcm a0) (Aa n0 (Aa n1 (Aa n2 (Aa n3 (Aa n4 (Aa n5 (Aa n6 Af)))))))
def Aq6 (_a0:List UInt8):A:=.sq 0
def SA (a0:List UInt8):Objs:=[(0,some (.arr 5 1 (.ty .u8 (A1a a0))))]
def Aif (a0:List UInt8):List Prop:=[Ad (a0.length+4)]
theorem Bcl (l:List UInt8):Ayw l=A1a l:=congrArg (l++·) (Aev (FX l))
theorem Bck (a0:List UInt8) (hp:∀p∈Aif a0,p):CallOk Tryz.prog 63 [Ai .bytes a0] 0 [] 1 (Aq6 a0) 1 (SA a0):=by
 have hb:=hp _ (List.mem_cons_self ..)
 unfold Ad at hb
 have h:=Bi0 a0 (Aa (by unfold Am;omega) (Aa (by unfold Ad;omega) (Aa (by show Ad (a0.length+4);unfold Ad;omega) Af)))
 have e:WE a0=SA a0:=by unfold WE SA;rw[Bcl]
 rw[e] at h
 exact h
def Afv:List A→Nat→Objs→Option A6:=Bt [.t .bytes] 1 Aq6 SA Aif
theorem Aig:HF Tryz.prog 63 Afv:=Av (ks:=[.t .bytes]) Bck
noncomputable def Bsj:=AS 63 Afv Bke
theorem Bkf:Cr Tryz.prog Bsj:=An Aig A4n
def Ct (a0:List UInt8):Int:=IntKind.i64.wrap ((↑a0.length:Int) - (4:Int))
def Jj (a0:List UInt8):Int:=IntKind.i64.wrap ((Ct a0)+(2:Int))
def Im (a0:List UInt8):Int:=IntKind.i64.wrap ((Ct a0)+(1:Int))
def Ji (a0:List UInt8):Int:=IntKind.i64.wrap ((Ct a0)+(3:Int))
def Il (a0:List UInt8):Int:=wB (FX (List.take ((Ct a0).toNat - (0:Nat)) (List.drop (0:Nat) a0)))
def EN (a0:List UInt8):Bool:=decide ((Ct a0) <(0:Int))
def No (a0:List UInt8):Bool:=(↑(UInt8.toNat (a0.getD (Ct a0).toNat (Ae TC.u8))):Int)==IntKind.u8.wrap ((Il a0).fdiv (16777216:Int))
def Sb (a0:List UInt8):Bool:=(No a0)&&(↑(UInt8.toNat (a0.getD (Im a0).toNat (Ae TC.u8))):Int)==IntKind.u8.wrap ((Il a0).fdiv (65536:Int))&&(↑(UInt8.toNat (a0.getD (Jj a0).toNat (Ae TC.u8))):Int)==IntKind.u8.wrap ((Il a0).fdiv (256:Int))
def Uh (a0:List UInt8):Bool:=bif(EN a0) then false else(Sb a0)&&(↑(UInt8.toNat (a0.getD (Ji a0).toNat (Ae TC.u8))):Int)==IntKind.u8.wrap (Il a0)
def Ui (a0:List UInt8):A:=.v (.bool (Uh a0))
def Ahn (_a0:List UInt8):Objs:=[]
def Sc (a0:List UInt8):List Prop:=[((!(EN a0))=true→(0:Int)≤(0:Int)∧(0:Int)≤(Ct a0)∧(Ct a0)≤(↑a0.length:Int)),((!(EN a0))=true→Am (List.take ((Ct a0).toNat - (0:Nat)) (List.drop (0:Nat) a0)).length),((!(EN a0))=true→(0:Int)≤(Ct a0)∧(Ct a0) <(↑a0.length:Int)),((!(EN a0))=true→(No a0)=true→(0:Int)≤(Im a0)∧(Im a0) <(↑a0.length:Int)),((!(EN a0))=true→((No a0)&&(↑(UInt8.toNat (a0.getD (Im a0).toNat (Ae TC.u8))):Int)==IntKind.u8.wrap ((Il a0).fdiv (65536:Int)))=true→(0:Int)≤(Jj a0)∧(Jj a0) <(↑a0.length:Int)),((!(EN a0))=true→(Sb a0)=true→(0:Int)≤(Ji a0)∧(Ji a0) <(↑a0.length:Int))]
theorem A0z (a0:List UInt8):Hz (As Bsj L0) 9 78 [Ai .bytes a0] 0 []=some (1,Ui a0,0,Ahn a0,Sc a0):=by kernel_rfl
theorem A5v (a0:List UInt8) (hp:∀p∈Sc a0,p):CallOk Tryz.prog 78 [Ai .bytes a0] 0 [] 1 (Ui a0) 0 (Ahn a0):=AB (Ar Bkf AA) (A0z a0) hp
def Aaq (a0:List UInt8):A:=.v (.bool (Bd3 a0))
def Aap (_a0:List UInt8):Objs:=[]
def Xm (a0:List UInt8):List Prop:=[Ad a0.length]
theorem Ani (x:UInt8) (v:Int):((x.toNat:Int)==IntKind.u8.wrap v)=(x==UInt8.ofNat (IntKind.u8.wrap v).toNat):=by
 have h0:0≤IntKind.u8.wrap v∧IntKind.u8.wrap v <256:=by show 0≤v % 2^8∧v % 2^8 <256;omega
 generalize IntKind.u8.wrap v=w at*
 have hx:x.toNat <256:=x.toNat_lt
 rw[Bool.eq_iff_iff,beq_iff_eq,beq_iff_eq]
 constructor
 ·intro h
  rw[←h,Int.toNat_natCast,UInt8.ofNat_toNat]
 ·intro h
  rw[h,UInt8.toNat_ofNat']
  omega
theorem Bqj (b:List UInt8) (n:Nat) (hn:b.length=n+4) (w x y z:UInt8):(b.getD n 0==w&&b.getD (n+1) 0==x&&b.getD (n+2) 0==y&&b.getD (n+3) 0==z)=(b==b.take n++[w,x,y,z]):=by
 have e:b=b.take n++[b.getD n 0,b.getD (n+1) 0,b.getD (n+2) 0,b.getD (n+3) 0]:=by
  refine List.ext_getElem (by simp;omega) fun i h1 h2=>?_
  by_cases hi:i <n
  ·rw[List.getElem_append_left (by simp;omega),List.getElem_take]
  ·rw[List.getElem_append_right (by simp;omega)]
   have g:∀j,(hj:j <b.length)→b.getD j 0=b[j]:=fun j hj=>by rw[List.getD_eq_getElem?_getD,List.getElem?_eq_getElem hj,Option.getD_some]
   have hl:(b.take n).length=n:=by simp;omega
   rcases(show i=n∨i=n+1∨i=n+2∨i=n+3 by omega) with rfl|rfl|rfl|rfl
   ·simp only[hl,Nat.sub_self,List.getElem_cons_zero];exact(g _ h1).symm
   ·simp only[hl,Nat.add_sub_cancel_left,List.getElem_cons_succ,List.getElem_cons_zero];exact(g _ h1).symm
   ·simp only[hl,Nat.add_sub_cancel_left,List.getElem_cons_succ,List.getElem_cons_zero];exact(g _ h1).symm
   ·simp only[hl,Nat.add_sub_cancel_left,List.getElem_cons_succ,List.getElem_cons_zero];exact(g _ h1).symm
 generalize b.getD n 0=p at*
 generalize b.getD (n+1) 0=q at*
 generalize b.getD (n+2) 0=r at*
 generalize b.getD (n+3) 0=s at*
 rw[Bool.eq_iff_iff]
 simp only[Bool.and_eq_true,beq_iff_eq]
 constructor
 ·rintro⟨⟨⟨rfl,rfl⟩,rfl⟩,rfl⟩
  exact e
 ·intro h
  have:=List.append_cancel_left (e.symm.trans h)
  simp only[List.cons.injEq] at this
  exact⟨⟨⟨this.1,this.2.1⟩,this.2.2.1⟩,this.2.2.2.1⟩
theorem A0y (b:List UInt8) (hb:Ad b.length):(∀p∈Sc b,p)∧Uh b=Bd3 b:=by
 unfold Ad at hb
 have k7:Ct b=(b.length:Int) - 4:=i64_in (by omega)
 have k2:EN b=decide ((b.length:Int) - 4 <0):=by unfold EN;rw[k7]
 have k5:Im b=(b.length:Int) - 4+1:=by unfold Im;rw[k7];exact i64_in (by omega)
 have k6:Jj b=(b.length:Int) - 4+2:=by unfold Jj;rw[k7];exact i64_in (by omega)
 have k4:Ji b=(b.length:Int) - 4+3:=by unfold Ji;rw[k7];exact i64_in (by omega)
 have hin:(!(EN b))=true→4≤b.length:=fun h=>by
  rw[k2,Bool.not_eq_true',decide_eq_false_iff_not] at h
  omega
 refine⟨Aa (fun h=>by rw[k7];have:=hin h;omega) (Aa (fun _=>?_) (Aa (fun h=>by rw[k7];have:=hin h;omega) (Aa (fun h _=>by rw[k5];have:=hin h;omega) (Aa (fun h _=>by rw[k6];have:=hin h;omega) (Aa (fun h _=>by rw[k4];have:=hin h;omega) Af))))),?_⟩
 ·unfold Am
  rw[List.length_take,List.length_drop]
  omega
 ·unfold Uh Bd3
  by_cases h:4≤b.length
  ·obtain⟨n,hn⟩:∃n,b.length=n+4:=⟨b.length - 4,by omega⟩
   have h7:(Ct b).toNat=n:=by rw[k7];omega
   have h5:(Im b).toNat=n+1:=by rw[k5];omega
   have h6:(Jj b).toNat=n+2:=by rw[k6];omega
   have h4:(Ji b).toNat=n+3:=by rw[k4];omega
   have h3:Il b=wB (FX (b.take n)):=by unfold Il;rw[h7];rfl
   rw[k2,decide_eq_false (by omega),cond_false,decide_eq_true h,Bool.true_and,show b.length - 4=n by omega]
   unfold Sb No
   rw[h7,h5,h6,h4,h3,Ani,Ani,Ani,Ani]
   unfold A1a
   rw[←Aev]
   exact Bqj b n hn _ _ _ _
  ·rw[k2,decide_eq_true (by omega),cond_true,decide_eq_false h,Bool.false_and]
theorem A0x (a0:List UInt8) (hp:∀p∈Xm a0,p):CallOk Tryz.prog 78 [Ai .bytes a0] 0 [] 1 (Aaq a0) 0 (Aap a0):=by
 obtain⟨h1,h2⟩:=A0y a0 (hp _ (List.mem_cons_self ..))
 have h:=A5v a0 h1
 unfold Ui at h
 rw[h2] at h
 exact h
def Aho:List A→Nat→Objs→Option A6:=Bt [.t .bytes] 0 Aaq Aap Xm
theorem Au0:HF Tryz.prog 78 Aho:=Av (ks:=[.t .bytes]) A0x
end Go.Proofs.YtifkbgkbajncjaaGreatDoor
