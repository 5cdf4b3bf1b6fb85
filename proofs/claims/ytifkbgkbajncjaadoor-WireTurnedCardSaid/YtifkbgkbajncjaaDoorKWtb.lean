/- made by a program (rowgen.py): WireTurned: for every input the law returns true, and each argument reads behind the call as it read before. -/
import Derived.Test.YtifkbgkbajncjaaDoorKWta

namespace Go.Proofs.YtifkbgkbajncjaaDoor
open Go.RowKit
def V6:A→Option (List A)
 | .v x=>some (toL x.cells.toList)
 | .agg xs=>some xs
 | .tup _=>none
 | .opt _ _ _=>none
 | .dead=>none
 | .dq _=>none
 | .iv _ _=>none
 | .de _ _ _ _=>none
 | .ie _ _ _ _ _=>none
 | .it _ _=>none
 | .av _ _ _=>none
 | .rv _=>none
 | .vr _ _ _ _=>none
 | .vd _ _ _ _=>none
 |x=>some [x]
def Ii:List A→Bool
 | []=>true
 | .v x::r=>bif x.oneCell' then Ii r else false
 | .agg _::_=>false
 | .tup _::_=>false
 | .opt _ _ _::_=>false
 | .dead::_=>false
 | .it _ _::_=>false
 | .dq _::_=>false
 | .iv _ _::_=>false
 | .de _ _ _ _::_=>false
 | .ie _ _ _ _ _::_=>false
 | .av _ _ _::_=>false
 | .rv _::_=>false
 | .vr _ _ _ _::_=>false
 | .vd _ _ _ _::_=>false
 |_::r=>Ii r
section
variable {F:Nat→Prop} {N:Nm} {nx:Nat} {R:World}
theorem A77 {x:A} {y:Value} (h:Hv F N nx R x y) (hx:V6 x=some [x]∨∃v,x=.v v∧v.oneCell'=true) (ho:Ii [x]=true) (hq:∀i,x=.sq i→∃a n c,N.q i=.slice a n c):y.oneCell'=true:=by
 cases x with
 |v u=>rw[h.v_inv];cases hu:u.oneCell' with
  |true=>rfl
  |false=>simp[Ii,hu] at ho
 |sl c l=>obtain⟨a,c,rfl,_⟩:=h.sl_inv;rfl
 |own i o=>rw[h.own_inv.2];rfl
 |ownx i b l k=>rw[h.ownx_inv.2];rfl
 |sq i=>obtain⟨a,n,c,e⟩:=hq i rfl;rw[h.sq_inv.2,e];rfl
 |vw i s l n f=>obtain⟨_,a,c,rfl,_⟩:=h.vw_inv;rfl
 |el i k s o=>rw[h.el_inv.2];rfl
 |ref l=>obtain⟨ad,rfl,_⟩:=h.ref_inv;rfl
 |mp i=>rw[h.mp_inv.2];rfl
 |nl=>obtain⟨a,rfl⟩:=h.nl_inv;rfl
 |it q vs=>simp[Ii] at ho
 |fn f a b=>obtain⟨vs,us,rfl,_⟩:=h.fn_inv;rfl
 |agg xs=>simp[Ii] at ho
 |tup xs=>simp[Ii] at ho
 |opt u b x=>simp[Ii] at ho
 |dead=>simp[Ii] at ho
 |dq i=>simp[Ii] at ho
 |iv i k=>simp[Ii] at ho
 |de i k sz o=>simp[Ii] at ho
 |ie i k j sz o=>simp[Ii] at ho
 |av c n l=>simp[Ii] at ho
 |rv xs=>simp[Ii] at ho
 |vr i b l m=>simp[Ii] at ho
 |vd i b l m=>simp[Ii] at ho
end
def MM (o:Objs):List A→Bool
 | []=>true
 | .sq i::r=>match Ak i o with
  |some (.arr _ _ _)=>MM o r
  |_=>false
 |_::r=>MM o r
section
variable {F:Nat→Prop} {N:Nm} {nx:Nat} {o:Objs} {R:World}
theorem A1c (h:HRel F N nx o R) {i:Nat} (hi:MM o [.sq i]=true):∃a n c,N.q i=.slice a n c:=by
 unfold MM at hi
 have form:∀{e sz n} {zs:List Value},OwnR R e sz (N.q i) n zs→∃a n c,N.q i=.slice a n c:=fun h1=>by
  obtain⟨a,c,e1,_⟩:=h1.form
  exact⟨a,_,c,e1⟩
 split at hi
 ·rename_i hl
  obtain⟨_,zs,h1,_⟩:=h.ob i _ hl
  exact form h1
 ·cases hi
theorem U7 (h:HRel F N nx o R):∀{xs:List A} {vs:List Value},Ii xs=true→MM o xs=true→HL F N nx R xs vs→∀c∈vs,c.oneCell'=true
 | [],_,_,_,hl,c,hc=>by rw[hl.inv0] at hc;cases hc
 | x::r,_,h1,h2,hl,c,hc=>by
  obtain⟨v,vs,rfl,h3,h4⟩:=hl.inv
  have hx:Ii [x]=true∧Ii r=true:=by
   cases x<;>simp only[Ii] at h1⊢<;>first|(cases h1;done)|(exact⟨trivial,h1⟩)|skip
   rename_i u
   cases hu:u.oneCell' with
   |true=>rw[hu] at h1;exact⟨rfl,h1⟩
   |false=>rw[hu] at h1;cases h1
  have hs:(∀i,x=.sq i→MM o [.sq i]=true)∧MM o r=true:=by
   cases x<;>simp only[MM] at h2⊢<;>first|(exact⟨(fun i e=>by cases e),h2⟩)|skip
   rename_i i
   split at h2
   ·rename_i hl';exact⟨fun j e=>by cases e;simp only[hl'],h2⟩
   ·cases h2
  rcases List.mem_cons.1 hc with rfl|hc
  ·refine A77 h3 ?_ hx.1 fun i e=>A1c h (hs.1 i e)
   cases x<;>first|(exact .inl rfl)|(simp[Ii] at hx;done)|skip
   rename_i u
   refine .inr ⟨u,rfl,?_⟩
   have:=hx.1
   simp only[Ii] at this
   cases hu:u.oneCell' with
   |true=>rfl
   |false=>rw[hu] at this;cases this
  ·exact U7 h hx.2 hs.2 h4 c hc
theorem Rq (h:HRel F N nx o R) {x:A} {us:List A} {y:Value} (hc:V6 x=some us) (hs:MM o us=true) (hx:Hv F N nx R x y):HL F N nx R us y.cells.toList:=by
 have one:y.cells.toList=[y]→us=[x]→HL F N nx R us y.cells.toList:=fun e1 e2=>by rw[e1,e2];exact HL.cons hx HL.nil
 cases x with
 |v u=>cases hc;rw[hx.v_inv];exact HL.toL _
 |agg xs=>cases hc;obtain⟨vs,rfl,h2⟩:=hx.agg_inv;simpa[Value.cells] using h2
 |tup xs=>cases hc
 |opt u b x=>cases hc
 |dead=>cases hc
 |sl c l=>cases hc;refine one ?_ rfl;obtain⟨a,c,rfl,_⟩:=hx.sl_inv;rfl
 |own i o=>cases hc;refine one ?_ rfl;rw[hx.own_inv.2];rfl
 |ownx i b l k=>cases hc;refine one ?_ rfl;rw[hx.ownx_inv.2];rfl
 |sq i=>
  cases hc
  obtain⟨a,n,c,e⟩:=A1c h hs
  refine one ?_ rfl
  rw[hx.sq_inv.2,e]
  rfl
 |vw i s l n f=>cases hc;refine one ?_ rfl;obtain⟨_,a,c,rfl,_⟩:=hx.vw_inv;rfl
 |el i k s o=>cases hc;refine one ?_ rfl;rw[hx.el_inv.2];rfl
 |ref l=>cases hc;refine one ?_ rfl;obtain⟨ad,rfl,_⟩:=hx.ref_inv;rfl
 |mp i=>cases hc;refine one ?_ rfl;rw[hx.mp_inv.2];rfl
 |nl=>cases hc;refine one ?_ rfl;obtain⟨a,rfl⟩:=hx.nl_inv;rfl
 |it q vs=>cases hc
 |dq i=>cases hc
 |iv i k=>cases hc
 |de i k sz o=>cases hc
 |ie i k j sz o=>cases hc
 |av c n l=>cases hc
 |rv xs=>cases hc
 |vr i b l m=>cases hc
 |vd i b l m=>cases hc
 |fn f a b=>cases hc;refine one ?_ rfl;obtain⟨vs,us,rfl,_⟩:=hx.fn_inv;rfl
end
def Aoq (off:Nat) (us cs:List A):List A:=cs.take off++us++cs.drop (off+us.length)
def Ang (place:Nat→Option (Nat×Nat)):List A→List (Nat×List A)→Option (List A)
 |cs,[]=>some cs
 |cs,(i,us)::r=>match place i with
  |some (off,size)=>bif Nat.beq us.length size then(bif Nat.ble (off+size) cs.length then Ang place (Aoq off us cs) r else none) else none
  |none=>none
theorem Ann:∀(l:List Value) (off k:Nat) (cs:Array Value),off+k+l.length≤cs.size→
  ((l.zipIdx k).foldl (fun(cs:Array Value) (p:Value×Nat)=>cs.setIfInBounds (off+p.2) p.1) cs).toList=cs.toList.take (off+k)++l++cs.toList.drop (off+k+l.length)
 | [],off,k,cs,h=>by simp
 | x::r,off,k,cs,h=>by
  rw[List.length_cons] at h
  rw[List.zipIdx_cons,List.foldl_cons,Ann r off (k+1) _ (by simp;omega)]
  have hlt:off+k <cs.toList.length:=by simp;omega
  simp only[Array.toList_setIfInBounds]
  rw[List.take_set,List.drop_set]
  rw[show off+(k+1)=off+k+1 by omega]
  rw[if_pos (by omega)]
  have h1:(cs.toList.take (off+k+1)).set (off+k) x=cs.toList.take (off+k)++[x]:=by
   rw[List.take_succ_eq_append_getElem hlt,List.set_append]
   have:(cs.toList.take (off+k)).length=off+k:=by rw[List.length_take];omega
   rw[if_neg (by omega),this,Nat.sub_self]
   rfl
  rw[h1,List.length_cons]
  rw[show off+k+1+r.length=off+k+(r.length+1) by omega]
  simp
theorem HL.put {F:Nat→Prop} {N:Nm} {nx:Nat} {R:World} {off:Nat} {us cs:List A} {vs ws:List Value} (h1:HL F N nx R us vs) (h2:HL F N nx R cs ws):HL F N nx R (Aoq off us cs) (ws.take off++vs++ws.drop (off+vs.length)):=by
 unfold Aoq
 rw[h1.length]
 exact((h2.take off).append h1).append (h2.drop _)
def Ap5 (F:Nat→Prop) (N:Nm) (nx:Nat) (R:World):List (Nat×List A)→List (Nat×Value)→Prop
 | [],l=>l=[]
 |(i,us)::r,l=>∃v t,l=(i,v)::t∧HL F N nx R us v.cells.toList∧Ap5 F N nx R r t
theorem PZ {F:Nat→Prop} {N:Nm} {nx:Nat} {R:World} {place:Nat→Option (Nat×Nat)}:∀{ps:List (Nat×List A)} {qs:List (Nat×Value)} {cs cs':List A} {arr:Array Value},Ang place cs ps=some cs'→Ap5 F N nx R ps qs→HL F N nx R cs arr.toList→
  ∃arr',Instr.fill place arr qs=some arr'∧HL F N nx R cs' arr'.toList
 | [],_,cs,cs',arr,h,hp,hc=>by
  have hp':_=[]:=hp
  subst hp'
  cases h
  exact⟨arr,rfl,hc⟩
 | (i,us)::r,_,cs,cs',arr,h,hp,hc=>by
  obtain⟨v,t,rfl,h1,h2⟩:=hp
  unfold Ang at h
  split at h<;>first|(cases h;done)|skip
  rename_i off size hpl
  cases hb:Nat.beq us.length size with
  |false=>rw[hb] at h;cases h
  | true=>
   cases hb2:Nat.ble (off+size) cs.length with
   |false=>rw[hb,hb2] at h;cases h
   | true=>
    rw[hb,hb2] at h
    simp only[cond_true] at h
    obtain rfl:=Nat.eq_of_beq_eq_true hb
    have hle:=Nat.le_of_ble_eq_true hb2
    have l1:v.cells.size=us.length:=by have:=h1.length;simpa using this
    have l2:arr.size=cs.length:=by have:=hc.length;simpa using this
    have hput:=HL.put (off:=off) h1 hc
    have hfold:=Ann v.cells.toList off 0 arr (by rw[Array.length_toList];omega)
    have e1:(v.cells.zipIdx.foldl (fun cs (c,j)=>cs.setIfInBounds (off+j) c) arr).toList=arr.toList.take off++v.cells.toList++arr.toList.drop (off+v.cells.toList.length):=by
     rw[←Array.foldl_toList,Array.toList_zipIdx]
     exact hfold
    rw[←e1] at hput
    obtain⟨arr',g1,g2⟩:=PZ h h2 hput
    refine⟨arr',?_,g2⟩
    unfold Instr.fill
    simp only[hpl]
    rw[if_neg (by simp[l1];omega)]
    exact g1
def Aco (s:St) (G:Guards):List (Nat×Operand)→Option (List (Nat×List A))
 | []=>some []
 | (i,o)::r=>match s.ev G o with
  | some x=>match V6 x with
   |some us=>bif MM s.o us then(match Aco s G r with
    |some l=>some ((i,us)::l)
    |none=>none) else none
   |none=>none
  |none=>none
def Au1 (P:Program) (t:TypeId):Option (List A×(Nat→Option (Nat×Nat))):=match P.info? t,P.underlying t with
 |some it,some (.array _ e)=>match it.zero,P.info? e with
  |some z,some ie=>some (toL z.cells.toList,fun i=>some (i*ie.size,ie.size))
  |_,_=>none
 |some it,some (.struct fields)=>match it.zero,fields.toList.mapM (fun f=>(P.info? f.type).map fun i=>(f.offset,i.size)) with
  |some z,some places=>some (toL z.cells.toList,(places.toArray[·]?))
  |_,_=>none
 |_,_=>none
def Aqi (E:Env) (s:St) (G:Guards) (t:TypeId) (parts:List (Nat×Operand)):R2:=match Aco s G parts with
 | some ps=>match Au1 E.P t with
  |some (z,pl)=>match Ang pl z ps with
   |some cs=>some (MZ cs,[])
   |none=>none
  |none=>none
 |none=>none
section
variable {E:Env} {Z:Base} {F:Nat→Prop} {N:Nm} {s:St} {a:Act} {R:World} {G:Guards}
theorem RG (h:Rel Z F N s a R) (hG:KQ (A1 a) G):∀{l:List (Nat×Operand)} {ps:List (Nat×List A)},Aco s G l=some ps→Ap5 F N s.nx R ps (l.map fun(i,x)=>(i,a.eval x))
 | [],ps,he=>by cases he;rfl
 | (i,o)::r,ps,he=>by
  unfold Aco at he
  split at he<;>first|(cases he;done)|skip
  rename_i x hx
  split at he<;>first|(cases he;done)|skip
  rename_i us hus
  cases hs:MM s.o us with
  |false=>rw[hs] at he;cases he
  |true=>
   rw[hs] at he
   simp only[cond_true] at he
   split at he<;>first|(cases he;done)|skip
   rename_i l' hl
   cases he
   exact⟨_,_,rfl,Rq h.hp hus hs (AQ h hG hx).2,RG h hG hl⟩
theorem Ays (h:Rel Z F N s a R) (hG:KQ (A1 a) G) {t:TypeId} {parts:Array (Nat×Operand)} {z:A} {ps:List Prop} (he:Aqi E s G t parts.toList=some (z,ps)):
  ∃y,Hv F N s.nx R z y∧∀R',(Instr.build t (parts.map fun(i,x)=>(i,a.eval x))).run E.P R'=.ok y R':=by
 unfold Aqi at he
 split at he<;>first|(cases he;done)|skip
 rename_i ps' hps
 split at he<;>first|(cases he;done)|skip
 rename_i zz pl hpl
 split at he<;>first|(cases he;done)|skip
 rename_i cs hcs
 cases he
 have hparts:=RG h hG hps
 have hex:∃arr':Array Value,E.P.built t (parts.map fun(i,x)=>(i,a.eval x)).toList=some arr'∧HL F N s.nx R cs arr'.toList:=by
  have hl:(parts.map fun(i,x)=>(i,a.eval x)).toList=parts.toList.map fun(i,x)=>(i,a.eval x):=by simp
  rw[hl]
  unfold Au1 at hpl
  unfold Program.built
  split at hpl
  ·rename_i it _ e hi hu
   rw[hi,hu]
   simp only
   split at hpl<;>first|(cases hpl;done)|skip
   rename_i z0 ie hz hie
   cases hpl
   rw[hz,hie]
   exact PZ hcs hparts (HL.toL _)
  ·rename_i it fields hi hu
   rw[hi,hu]
   simp only
   split at hpl<;>first|(cases hpl;done)|skip
   rename_i z0 places hz hpp
   cases hpl
   rw[hz,hpp]
   exact PZ hcs hparts (HL.toL _)
  ·cases hpl
 obtain⟨arr',h1,h2⟩:=hex
 refine⟨.agg arr',?_,fun R'=>run_build R' t _ _ h1⟩
 have:=N9 h2
 rwa[Array.toArray_toList] at this
end
end Go.Proofs.YtifkbgkbajncjaaDoor
namespace Go.Proofs.YtifkbgkbajncjaaDoor
open Go.RowKit
def Am3 (c:TC):List (List A)→Option (List (U c)×List Prop)
 | []=>some ([],[])
 | x::r=>match MX c x with
  |some (d,ps)=>match Am3 c r with
   |some (l,qs)=>some (d::l,ps++qs)
   |none=>none
  |none=>none
def PY (c:TC):Els→Option (List (U c)×List Prop)
 | .ty c' l=>match TC.same c' c with
  |some h=>some (IX h.down l,[])
  |none=>none
 | .lst cs=>Am3 c cs
def Aio (c:TC) (l:List (U c)):Option (List UInt8):=match TC.same c .u8 with
 |some h=>some (IX h.down l)
 |none=>none
section
variable {F:Nat→Prop} {N:Nm} {nx:Nat} {R:World}
theorem Rt {c:TC}:∀{cs:List (List A)} {l:List (U c)} {ps:List Prop},Am3 c cs=some (l,ps)→(∀p∈ps,p)→l.length=cs.length∧∀k,k <cs.length→HLs F N nx R (GV cs k) (enc c (l.getD k (Aj c)))
 | [],l,ps,h,_=>by cases h;exact⟨rfl,fun k hk=>by cases hk⟩
 |x::r,l,ps,h,hp=>by
  unfold Am3 at h
  split at h<;>first|(cases h;done)|skip
  rename_i d qs hd
  split at h<;>first|(cases h;done)|skip
  rename_i l' rs hl
  cases h
  obtain⟨h1,h2⟩:=Rt hl fun p hm=>hp p (List.mem_append.2 (.inr hm))
  refine⟨by rw[List.length_cons,List.length_cons,h1],fun k hk=>?_⟩
  cases k with
  |zero=>exact Ti hd fun p hm=>hp p (List.mem_append.2 (.inl hm))
  |succ k=>exact h2 k (by simpa using hk)
theorem JK {c:TC} {els:Els} {l:List (U c)} {ps:List Prop} (h:PY c els=some (l,ps)) (hp:∀p∈ps,p):l.length=els.n∧∀k,k <els.n→HLs F N nx R (els.nth k) (enc c (l.getD k (Aj c))):=by
 unfold PY at h
 split at h
 ·split at h<;>first|(cases h;done)|skip
  rename_i hc _
  obtain⟨hc⟩:=hc
  subst hc
  cases h
  exact⟨rfl,fun k _=> .refl _⟩
 ·exact Rt h hp
theorem Ap9 {c:TC} {l:List (U c)} {m:List UInt8} (h:Aio c l=some m):∃e:c=.u8,m=IX e l:=by
 unfold Aio at h
 split at h<;>first|(cases h;done)|skip
 rename_i hc _
 cases h
 exact⟨hc.down,rfl⟩
end
def Anf (s:St) (G:Guards) (x:Operand) (ix:Nat):Option (Option A):=match s.ev G x with
 |some (.tup xs)=>some xs[ix]?
 |_=>none
def A6x (E:Env) (s:St) (G:Guards) (t:TypeId) (x:Operand) (f:Nat):Option (Option A):=match s.ev G x with
 | some (.agg cs)=>match E.P.underlying t with
  |some (.struct fs)=>match fs[f]? with
   |some fd=>some (SN E.P fd.type (cs.drop fd.offset))
   |none=>some none
  |_=>some none
 |_=>none
def A9w (E:Env) (s:St) (G:Guards) (args:List Operand) (ts:Array TypeId):Option A:=
 match args with
 | [x]=>match s.ev G x with
  | some .nl=>match ts[0]? with
   |some t=>match E.P.underlying t with
    |some (.slice _)=>some (.v (.int .i64 0))
    |_=>none
   |none=>none
  | some w=>match Ak3 s.o w with
   | some (n,_)=>match ts[0]? with
    |some t=>match E.P.underlying t with
     |some (.slice _)=>some (.v (.int .i64 n))
     |_=>none
    |none=>none
   |none=>none
  |none=>none
 |_=>none
def A9v (E:Env) (s:St) (G:Guards) (args:List Operand) (ts:Array TypeId):Option R2:=match args with
 | [x]=>match s.ev G x,ts[0]? with
  |some (.dq i),some t=>match Ak i s.o,E.P.underlying t with
   |some (.deep _ _ l),some (.slice _)=>some (some (.v (.int .i64 l.length),[]))
   |_,_=>none
  | some (.iv i k),some t=>match Ak i s.o,E.P.underlying t with
   |some (.deep _ c l),some (.slice _)=>match Ae0 c (l.getD k (Aj c)) with
    |some ⟨_,l'⟩=>some (wth (.v (.int .i64 l'.length)) (ZT E.lit (k <l.length)))
    |none=>none
   |_,_=>none
  |_,_=>none
 |_=>none
def A1f:A→Bool
 | .own _ _=>true
 | .ownx _ _ _ _=>true
 | .el _ _ _ _=>true
 | .de _ _ _ _=>true
 | .ie _ _ _ _ _=>true
 | .ref _=>true
 |_=>false
def A61:A→Bool
 | .fn _ _ _=>true
 |x=>A1f x
def nilE (s:St) (G:Guards) (x:Operand):Option A:=match s.ev G x with
 |some z=>bif A61 z then some z else none
 |none=>none
def Wl (E:Env) (s:St) (G:Guards) (t:TypeId) (x y:Operand):Bool:=match s.ev G x,s.ev G y with
 |some z,some (.v (.pointer none))=>bif A1f z then(match E.P.underlying t with
  |some (.pointer e)=>Nat.beq e (E.P.pointee t)
  |_=>false) else false
 |_,_=>false
def eqE (E:Env) (s:St) (G:Guards) (t:TypeId) (x y:Operand):Option (Option Bool):=
 match s.raw G x,s.raw G y with
 |some (.agg xs),some (.agg ys)=>some (E.eq t xs.toList ys.toList)
 |_,_=>none
def Air (o:Objs):A→Option (List UInt8×List Prop)
 | .sl c l=>match Aio c l with
  |some m=>some (m,[])
  |none=>none
 | .sq i=>match Ak i o with
  |some (.arr _ 1 els)=>PY .u8 els
  |_=>none
 | .vw i sz lo n _=>match Ak i o with
  |some (.arr _ 1 els)=>bif Nat.beq sz 1 then(match PY .u8 els with
   |some (l,ps)=>some ((l.drop lo).take n,(lo+n≤l.length)::ps)
   |none=>none) else none
  |_=>none
 |_=>none
def Aql (E:Env) (s:St) (G:Guards) (src dst:TypeId) (x:Operand):Option R2:=match s.ev G x with
 | some w=>match Air s.o w with
  | some (l,ps)=>match E.P.underlying src,E.P.underlying dst with
   |some (.slice e),some .string=>match E.P.underlying e with
    |some (.int .u8)=>some (some (.v (.string ⟨l.toArray⟩),ps))
    |_=>some none
   |_,_=>some none
  |none=>none
 |none=>none
def ZS (s:St) (G:Guards) (b:Builtin) (args:List Operand):Option Value:=
 match args with
 | [x,y]=>match s.raw G x,s.raw G y with
  |some (.int k a),some (.int _ c)=>match b with
   | .max=>some (.int k (max a c))
   | .min=>some (.int k (min a c))
   |_=>none
  |_,_=>none
 |_=>none
def Aa1 (s:St) (G:Guards):List Operand→Option (List A)
 | []=>some []
 | o::r=>match s.ev G o with
  |some x=>match Aa1 s G r with
   |some xs=>some (x::xs)
   |none=>none
  |none=>none
def A1e (E:Env) (s:St) (G:Guards) (t:TypeId) (x i:Operand):Option R2:=match s.raw G x,s.raw G i with
 |some (.string b),some (.int _ n)=>match E.P.underlying t with
  |some .string=>some (wth (.v (Aqk b.data.toList n.toNat)) (ZT E.lit (0≤n∧n <(b.size:Int))))
  |_=>none
 |_,_=>none
def A6i (E:Env) (s:St) (G:Guards) (t:TypeId) (x i:Operand):Option R2:=match s.ev G x,s.raw G i with
 | some (.av c n l),some (.int _ k)=>match E.P.underlying t with
  |some (.array len e)=>match Zy E.P e,DG E.P e with
   |some false,some 1=>bif Nat.beq len n then some (wth (.v (sv c (l.getD k.toNat (Aj c)))) (ZT E.lit (0≤k∧k <(n:Int)))) else none
   |_,_=>none
  |_=>none
 |_,_=>none
def A6o (s:St) (G:Guards) (fn:Fn) (first captured:List Operand):Option A:=match fn with
 | .func f=>match Aa1 s G first,Aa1 s G captured with
  |some xs,some ys=>some (.fn f xs ys)
  |_,_=>none
 |_=>none
def Aa5 (P:Program) (f:FuncId):Bool:=match P.funcs[f]? with
 |some fn=>fn.body.isSome&&!(fn.name== "runtime.NumGoroutine")
 |none=>false
def Ait (s:St) (G:Guards) (f:Operand):Option (FuncId×List A×List A):=match s.ev G f with
 |some (.fn g first caps)=>some (g,first,caps)
 |some (.v (.func (.func g) first caps))=>some (g,toL first.toList,toL caps.toList)
 |_=>none
def Amk (E:Env) (s:St) (G:Guards) (f:Operand) (args:List Operand):Option CJ:=match Ait s G f with
 |some (g,first,caps)=>bif Aa5 E.P g then(match Aa1 s G args with
  |some xs=>E.C g (first++(xs++caps)) s.nx s.o
  |none=>none) else none
 |none=>none
def ZU:Bool:=match Sn with
 | []=>true
 |_=>false
def Jr (E:Env) (f:Operand) (args:List Operand):Option (FuncId×A):=match f,args with
 | .func g,[]=>match Aa5 E.P g,E.C g [] 0 [] with
  |true,some (k,x,0,[],[])=>bif(Nat.ble k 1&&x.free)&&ZU then some (g,x) else none
  |_,_=>none
 |_,_=>none
def Agn (E:Env) (s:St) (G:Guards) (f:Operand) (args:List Operand):R2:=match Jr E f args with
 |some _=>none
 |none=>match Amk E s G f args with
  |some (k,.v w,_,_,ps)=>bif Nat.ble k 1 then some (.v w,ps) else none
  |_=>none
def V3 (E:Env) (s:St) (G:Guards) (o:Oper) (op:BinOp) (x y:Operand):R2:=bif E.lit||Jv y then JQ E s G o else match s.raw G x,s.raw G y with
 |some (.int k a),some (.int k' b)=>match op with
  | .shl=>some (.v (.int k (k.wrap (a*2^(min b.toNat k.bits)))),[0≤b])
  | .shr=>some (.v (.int k (a.fdiv (2^(min b.toNat k.bits)))),[0≤b])
  | .quo=>bif Aba k k' then some (.v (.int k (k.wrap (a.tdiv b))),[b≠0]) else none
  | .rem=>bif Aba k k' then some (.v (.int k (a.tmod b)),[b≠0]) else none
  |_=>none
 |_,_=>none
def A7k (E:Env) (s:St) (G:Guards) (o:Oper) (t:TypeId) (x y:Operand):R2:=match E.P.underlying t with
 |some .string=>match s.raw G x,s.raw G y with
  |some (.string b),some (.string c)=>some (.v (.string (b++c)),[b.size+c.size≤9223372036854775807])
  |_,_=>none
 |_=>JQ E s G o
def itE (s:St) (G:Guards) (x:Operand) (ix:Nat):Option R2:=match s.ev G x with
 | some (.it q vs)=>match ix with
  |0=>some (some (.v (.bool q),[]))
  |k+1=>match vs[k]? with
   |some v=>some (some (.v v,[q=true]))
   |none=>some none
 |_=>none
def HF:List (ByteArray×Int)→ByteArray→Int
 | [],_=>0
 |(a,n)::r,b=>bif b==a then n else HF r b
def R7:List (ByteArray×Int)→ByteArray→Int→List (ByteArray×Int)
 | [],b,n=>[(b,n)]
 |(a,m)::r,b,n=>bif b==a then(b,n)::r else(a,m)::R7 r b n
def A39 (o:Objs):A→Option (Nat×List (ByteArray×Int))
 | .mp i=>match Ak i o with
  |some (.map .str .i64 l)=>some (i,l)
  |_=>none
 |_=>none
def An0 (E:Env) (t:TypeId):Bool:=match E.P.underlying t with
 |some (.map k v)=>match E.P.underlying k,(E.P.info? v).bind (·.zero) with
  |some .string,some (.int .i64 z)=>decide (z=0)
  |_,_=>false
 |_=>false
def Az9 (E:Env) (s:St) (G:Guards) (t:TypeId) (m k:Operand):R2:=match s.ev G m,s.raw G k with
 |some x,some (.string b)=>match A39 s.o x with
  |some (_,l)=>bif An0 E t then some (.v (.int .i64 (HF l b)),[]) else none
  |none=>none
 |_,_=>none
def A34:A→Bool
 | .v (.tuple _)=>true
 |_=>false
def A0p (s:St) (G:Guards) (c x y:Operand):R2:=match s.raw G c,s.ev (LW true c G) x,s.ev (LW false c G) y with
 |some (.bool q),some x',some y'=>bif A34 y' then some (x',[q=true]) else bif A34 x' then some (y',[q=false]) else match A0n s G c x y with
  |some z=>some (z,[])
  |none=>none
 |_,_,_=>none
def A5j (E:Env) (s:St) (G:Guards) (o:Oper):R2:=
 match o.op with
 | .move x| .assign x=>match s.ev G x with
  |some z=>some (z,[])
  |none=>none
 | .pick c x y=>A0p s G c x y
 | .extract x ix=>match itE s G x ix with
  |some r=>r
  |none=>match Anf s G x ix with
   |some (some z)=>some (z,[])
   |some none=>none
   |none=>JQ E s G o
 | .field t x f=>match A6x E s G t x f with
  |some (some z)=>some (z,[])
  |some none=>none
  |none=>JQ E s G o
 | .fieldAddr t x f=>Aq5 E s G t x f
 | .indexAddr t x i=>Are E s G t x i
 | .load t x=>Abk E s G t x
 | .slice t x lo hi mx=>Asp E s G o t x lo hi mx
 | .build t parts=>Aqi E s G t parts.toList
 | .nilCheck x=>match nilE s G x with
  |some z=>some (z,[])
  |none=>JQ E s G o
 | .index t x i=>match A1e E s G t x i with
  |some r=>r
  |none=>match A6i E s G t x i with
   |some r=>r
   |none=>JQ E s G o
 | .makeFunc fn first captured=>match A6o s G fn first.toList captured.toList with
  |some z=>some (z,[])
  |none=>none
 | .call {callee:=.value f,args, .. }=>Agn E s G f args.toList
 | .call {callee:=.builtin .len,args,argTypes}=>match A9v E s G args.toList argTypes with
  |some r=>r
  |none=>match A9w E s G args.toList argTypes with
   |some z=>some (z,[])
   |none=>JQ E s G o
 | .call {callee:=.builtin .max,args, .. }=>match ZS s G .max args.toList with
  |some z=>some (.v z,[])
  |none=>JQ E s G o
 | .call {callee:=.builtin .min,args, .. }=>match ZS s G .min args.toList with
  |some z=>some (.v z,[])
  |none=>JQ E s G o
 | .convert src dst x=>match Aql E s G src dst x with
  |some r=>r
  |none=>JQ E s G o
 | .binOp .eql t x y _=>bif Wl E s G t x y then some (.v (.bool false),[]) else match eqE E s G t x y with
  |some (some b)=>some (.v (.bool b),[])
  |some none=>none
  |none=>JQ E s G o
 | .binOp .neq t x y _=>bif Wl E s G t x y then some (.v (.bool true),[]) else match eqE E s G t x y with
  |some (some b)=>some (.v (.bool !b),[])
  |some none=>none
  |none=>JQ E s G o
 | .binOp .shl _ x y _=>V3 E s G o .shl x y
 | .binOp .shr _ x y _=>V3 E s G o .shr x y
 | .binOp .quo _ x y _=>V3 E s G o .quo x y
 | .binOp .rem _ x y _=>V3 E s G o .rem x y
 | .binOp .add t x y _=>A7k E s G o t x y
 | .lookup t m k false=>Az9 E s G t m k
 |_=>JQ E s G o
section
variable {E:Env} {Z:Base} {F:Nat→Prop} {N:Nm} {s:St} {a:Act} {R:World} {G:Guards}
theorem Uz (h:Rel Z F N s a R) (hG:KQ (A1 a) G):∀{l:List Operand} {xs:List A},Aa1 s G l=some xs→HL F N s.nx R xs (l.map a.eval)
 | [],xs,he=>by obtain rfl:=Option.some.inj he;exact HL.nil
 | o::r,xs,he=>by
  unfold Aa1 at he
  cases hx:s.ev G o with
  |none=>simp only[hx] at he;cases he
  | some x=>
   cases hr:Aa1 s G r with
   |none=>simp only[hx,hr] at he;cases he
   |some ys=>
    simp only[hx,hr] at he
    obtain rfl:=Option.some.inj he
    exact HL.cons (AQ h hG hx).2 (Uz h hG hr)
theorem Ape {P:Program} {f:FuncId} (hf:Aa5 P f=true) (args:Array Value) (R:World):(callFunc f args).run P R=.ok (.enter f args) R:=by
 unfold Aa5 at hf
 cases hq:P.funcs[f]? with
 |none=>simp only[hq] at hf;cases hf
 |some fn=>
  simp only[hq,Bool.and_eq_true] at hf
  obtain⟨h1,h2⟩:=hf
  have h2':(fn.name== "runtime.NumGoroutine")=false:=by simpa using h2
  have h1':fn.body.isNone=false:=by cases hb:fn.body<;>simp_all
  simp only[callFunc,Sem.run_bind,run_program,Result.andThen_ok,hq,h2',h1']
  rfl
theorem Aml (h:Rel Z F N s a R) (hG:KQ (A1 a) G) {o:Oper} {f:Operand} {args:Array Operand} {ts:Array TypeId} (ho:o.op=.call {callee:=.value f,args,argTypes:=ts}) {r:CJ} (he:Amk E s G f args.toList=some r):
  ∃g xs vs,E.C g xs s.nx s.o=some r∧HL F N s.nx R xs vs∧∀R',(execOp a.eval o).run E.P R'=.ok (.enter g vs.toArray) R':=by
 unfold Amk at he
 split at he<;>first|(cases he;done)|skip
 rename_i g first caps hc
 cases hg:Aa5 E.P g with
 |false=>rw[hg] at he;cases he
 | true=>
  rw[hg] at he
  simp only[cond_true] at he
  split at he<;>first|(cases he;done)|skip
  rename_i xs hxs
  have hal:=Uz h hG hxs
  have hfv:∃vs us,a.eval f=.func (.func g) vs.toArray us.toArray∧HL F N s.nx R first vs∧HL F N s.nx R caps us:=by
   unfold Ait at hc
   split at hc<;>first|(cases hc;done)|skip
   ·rename_i hev
    cases hc
    exact(AQ h hG hev).2.fn_inv
   ·rename_i first' caps' hev
    cases hc
    have:=(AQ h hG hev).2.v_inv
    exact⟨first'.toList,caps'.toList,by simpa using this,HL.toL _,HL.toL _⟩
  obtain⟨vs,us,e1,h1,h2⟩:=hfv
  refine⟨g,_,vs++(args.toList.map a.eval++us),he,h1.append (hal.append h2),fun R'=>?_⟩
  obtain⟨dst,op,type,pos,after,guard⟩:=o
  simp only at ho
  subst ho
  show(do let d ←resolve a.eval _ type;invoke d.target d.args:Sem Next).run E.P R'=_
  have hr:(resolve a.eval {callee:=.value f,args,argTypes:=ts} type)=pure {target:=.fn (.func g) us.toArray,args:=vs.toArray++args.map a.eval}:=by
   simp only[resolve,e1,Deferred.ofValue]
  rw[hr]
  simp only[Sem.run_bind,Sem.run_pure,Result.andThen_ok,invoke]
  have hargs:vs.toArray++args.map a.eval++us.toArray=(vs++(args.toList.map a.eval++us)).toArray:=by
   apply Array.ext'
   simp
  rw[hargs]
  exact Ape hg _ R'
theorem CT {P:Program} {C:World→Prop} {v:Value} {r:Result Next} (h:r=.ok (.value v) R):Oper.quietUpon P C R v r:=by
 rw[h];exact⟨rfl,rfl⟩
theorem CF {α:Type} {P:Program} {m:Sem α} {f:α→Next} {x:α} (h:m.run P R=.ok x R):((do pure (f (←m)):Sem Next)).run P R=.ok (f x) R:=by
 simp[h]
theorem A05 {P:Program} {t:TypeId} {l:List A} {z:A} {cs:Array Value} {off nx:Nat} (he:SN P t l=some z) (hl:HL F N nx R l (cs.toList.drop off)):
  ∃y,Hv F N nx R z y∧∀R',(part t cs off).run P R'=.ok y R':=by
 unfold SN at he
 split at he<;>first|(cases he;done)|skip
 ·rename_i hr
  split at he<;>first|(cases he;done)|skip
  rename_i n hn
  cases hb:Nat.ble n l.length with
  |false=>rw[hb] at he;cases he
  | true=>
   rw[hb] at he
   cases he
   refine⟨_,N9 (hl.take n),fun R'=>?_⟩
   unfold Zy at hr
   unfold DG at hn
   cases hu:P.underlying t with
   |none=>rw[hu] at hr;cases hr
   | some d=>
    rw[hu] at hr
    cases hi:P.info? t with
    |none=>rw[hi] at hn;cases hn
    | some i=>
     rw[hi] at hn
     have hn':i.size=n:=Option.some.inj hn
     have hx:(cs.extract off (off+n))=(List.take n (List.drop off cs.toList)).toArray:=by
      apply Array.ext'
      rw[Array.toList_extract,List.extract_eq_take_drop]
      congr 1
      omega
     cases d<;>first|(simp[part,isAgg,run_underlying hu,sizeOf,typeInfo,hi,hn',hx];done)|(simp at hr;done)
 ·rename_i hr
  split at he<;>first|(cases he;done)|skip
  cases he
  obtain⟨v,us,e,h1,_⟩:=hl.inv
  refine⟨v,h1,fun R'=>?_⟩
  have hc:cs[off]?=some v:=by
   have:(cs.toList.drop off)[0]?=some v:=by rw[e];rfl
   rw[List.getElem?_drop] at this
   simpa using this
  unfold Zy at hr
  cases hu:P.underlying t with
  |none=>rw[hu] at hr;cases hr
  |some d=>
   rw[hu] at hr
   cases d<;>first|(simp[part,isAgg,run_underlying hu,hc];done)|(simp at hr;done)
theorem Aza (ok:EnvOk E) (h:Rel Z F N s a R) (hG:KQ (A1 a) G) {t:TypeId} {x y:Operand} {b:Bool} (he:eqE E s G t x y=some (some b)) (op:BinOp) (hop:op=.eql∨op=.neq) (R':World):
  (do eqGuard op t x y (a.eval x) (a.eval y);binOp op t (a.eval x) (a.eval y):Sem Value).run E.P R'=.ok (.bool (bif(op matches .eql) then b else !b)) R':=by
 unfold eqE at he
 split at he<;>first|(cases he;done)|skip
 rename_i xs ys hx hy
 rw[CS h hG hx,CS h hG hy]
 obtain⟨h1,h2⟩:=ok.eq t xs.toList ys.toList b (Option.some.inj he)
 have h3:=h2 R'
 simp only[Array.toArray_toList] at h3
 have hg:=run_eqGuard_agg R' op t x y xs ys h1
 rcases hop with rfl|rfl
 ·simp[hg,binOp,Op.equal,Op.maxDepth,h3]
 ·simp[hg,binOp,Op.equal,Op.maxDepth,h3]
theorem Apm {nx:Nat} {z:A} {y:Value} (hs:A1f z=true) (h:Hv F N nx R z y):∃ad,y=.pointer (some ad):=by
 cases z<;>first|(cases hs;done)|skip
 ·obtain⟨ad,h1,_⟩:=h.ref_inv;exact⟨_,h1⟩
 ·exact⟨_,h.own_inv.2⟩
 ·exact⟨_,h.ownx_inv.2⟩
 ·exact⟨_,h.el_inv.2⟩
 ·exact⟨_,h.de_inv.2⟩
 ·exact⟨_,h.ie_inv.2⟩
theorem Ana (h:Rel Z F N s a R) (hG:KQ (A1 a) G) {t:TypeId} {x y:Operand} (he:Wl E s G t x y=true) (op:BinOp) (hop:op=.eql∨op=.neq) (R':World):
  (do eqGuard op t x y (a.eval x) (a.eval y);binOp op t (a.eval x) (a.eval y):Sem Value).run E.P R'=.ok (.bool (bif(op matches .eql) then false else true)) R':=by
 unfold Wl at he
 split at he<;>first|(cases he;done)|skip
 rename_i z hx hy
 cases hs:A1f z with
 |false=>rw[hs] at he;cases he
 | true=>
  rw[hs] at he
  simp only[cond_true] at he
  split at he<;>first|(cases he;done)|skip
  rename_i e hu
  have hpe:=Nat.eq_of_beq_eq_true he
  obtain⟨ad,e1⟩:=Apm hs (AQ h hG hx).2
  rw[e1,(AQ h hG hy).2.v_inv]
  rw[hpe] at hu
  rcases hop with rfl|rfl
  ·have:=run_eql_pointer_nil (P:=E.P) R' t (some ad) hu
   simp[eqGuard,this]
  ·have:=run_neq_pointer_nil (P:=E.P) R' t (some ad) hu
   simp[eqGuard,this]
theorem A5g {v:Value} {nx:Nat} {b:UInt8} {vs:List Value} (h:HL F N nx R (enc .u8 b) vs) (hv:vs[0]?=some v):v=A4 b:=by
 obtain⟨u,us,rfl,h1,_⟩:=HL.inv (x:=.v (A4 b)) (r:=[]) h
 cases hv
 exact h1.v_inv
theorem Avv (h:HRel F N s.nx s.o R) {w:A} {l:List UInt8} {ps:List Prop} {y:Value} (hb:Air s.o w=some (l,ps)) (hp:∀p∈ps,p) (hw:Hv F N s.nx R w y):
  ∃a c,y=.slice a l.length c∧l.length≤c∧(0 <l.length→∃ad,a=some ad∧∀j b,l[j]?=some b→R.cell? (ad.add j)=some (A4 b)):=by
 have row:∀{i e els m qs},Ak i s.o=some (.arr e 1 els)→PY .u8 els=some (m,qs)→(∀p∈qs,p)→0 <m.length→∃g c,N.q i=.slice (some ⟨g,0,none⟩) m.length c∧m.length≤c∧DZ (N.q i)=⟨g,0,none⟩∧∀(j:Nat) (b:UInt8),m[j]?=some b→R.cell? ⟨g,j,none⟩=some (A4 b):=fun {i e els m qs} hl ht hq hpos=>by
  obtain⟨_,zs,g1,g2⟩:=h.ob i _ hl
  obtain⟨e1,e2⟩:=JK (F:=F) (N:=N) (nx:=s.nx) (R:=R) ht hq
  obtain⟨g,c,q1,q2,q3,_,q5⟩:=EE g1 (by omega)
  rw[e1]
  refine⟨g,c,q1,q2,q3,fun j b hj=>?_⟩
  have hlt:j <m.length:=(List.getElem?_eq_some_iff.1 hj).1
  have h3:=e2 j (by omega) _ (g2 j (by omega))
  have hget:m.getD j (Aj .u8)=b:=by rw[List.getD_eq_getElem?_getD,hj];rfl
  rw[hget] at h3
  have hlen:=h3.length
  have hz:∃v,((zs.drop (j*1)).take 1)[0]?=some v:=by
   have:0 <((zs.drop (j*1)).take 1).length:=by rw[hlen];exact Nat.zero_lt_one
   exact⟨_,List.getElem?_eq_getElem this⟩
  obtain⟨v,hv⟩:=hz
  have:=A5g h3 hv
  subst this
  have:=q5 _ _ (KW hv)
  rwa[Nat.mul_one,Nat.add_zero] at this
 unfold Air at hb
 split at hb<;>first|(cases hb;done)|skip
 ·rename_i c l'
  split at hb<;>first|(cases hb;done)|skip
  rename_i m hm
  cases hb
  obtain⟨e,rfl⟩:=Ap9 hm
  subst e
  obtain⟨a,cap,h1,h2,h3⟩:=hw.sl_inv
  refine⟨a,cap,h1,h2,fun hn=>?_⟩
  obtain⟨ad,q1,_,q2⟩:=h3 hn
  refine⟨ad,q1,fun j b hj=>?_⟩
  obtain⟨y,r1,r2⟩:=q2 j b hj 0 (.v (A4 b)) rfl
  rw[BU,Nat.add_zero,show size .u8=1 from rfl,Nat.mul_one] at r1
  rw[r1,r2.v_inv]
 ·rename_i i
  split at hb<;>first|(cases hb;done)|skip
  rename_i e els hl
  rw[hw.sq_inv.2]
  by_cases hpos:0 <l.length
  ·obtain⟨g,c,q1,q2,q3,q4⟩:=row hl hb hp hpos
   exact⟨_,c,q1,q2,fun _=>⟨_,rfl,fun j b hj=>by rw[Bv,Nat.zero_add];exact q4 j b hj⟩⟩
  ·obtain⟨_,zs,g1,_⟩:=h.ob i _ hl
   obtain⟨e1,_⟩:=JK (F:=F) (N:=N) (nx:=s.nx) (R:=R) hb hp
   obtain⟨a,c,e2,e3⟩:=g1.form
   exact⟨a,c,by rw[e1];exact e2,by omega,fun hp=>absurd hp hpos⟩
 ·rename_i i sz lo n f
  split at hb<;>first|(cases hb;done)|skip
  rename_i e els hl
  cases hz:Nat.beq sz 1 with
  |false=>rw[hz] at hb;cases hb
  |true=>
   rw[hz] at hb
   obtain rfl:=Nat.eq_of_beq_eq_true hz
   simp only[cond_true] at hb
   split at hb<;>first|(cases hb;done)|skip
   rename_i m qs hm
   cases hb
   have hle:lo+n≤m.length:=hp _ (List.mem_cons_self ..)
   have hlen:((m.drop lo).take n).length=n:=by rw[List.length_take,List.length_drop];omega
   obtain⟨_,aa,c,rfl,q2,_,q4⟩:=hw.vw_inv
   rw[hlen]
   refine⟨aa,c,rfl,q2,fun hpn=>⟨_,q4 hpn,fun j b hj=>?_⟩⟩
   obtain⟨g,c',_,_,r3,r4⟩:=row hl hm (fun p hm=>hp p (List.mem_cons_of_mem _ hm)) (by omega)
   rw[r3,Bv,Bv,Nat.zero_add,Nat.mul_one]
   rw[List.getElem?_take] at hj
   split at hj<;>first|(cases hj;done)|skip
   rw[List.getElem?_drop] at hj
   exact r4 _ _ hj
theorem Ahb (h:Rel Z F N s a R) (hG:KQ (A1 a) G) {b:Builtin} {args:List Operand} {v:Value} (he:ZS s G b args=some v) (hb:b=.max∨b=.min) (ts:Array TypeId) (t:TypeId) (cs:Array Bool) (R':World):
  (builtin b ts t cs (args.map a.eval).toArray).run E.P R'=.ok (.value v) R':=by
 unfold ZS at he
 split at he<;>first|(cases he;done)|skip
 split at he<;>first|(cases he;done)|skip
 rename_i x y _ k i k' c hx hy
 rw[List.map_cons,List.map_cons,List.map_nil,CS h hG hx,CS h hG hy]
 rcases hb with rfl|rfl
 ·cases he
  simp[builtin,my_max]
 ·cases he
  simp[builtin,my_min]
theorem A7l (h:Rel Z F N s a R) (hG:KQ (A1 a) G) {o:Oper} {t yt:TypeId} {x y:Operand} (ho:o.op=.binOp .add t x y yt) {z:A} {ps:List Prop} (he:A7k E s G o t x y=some (z,ps)) (hp:∀p∈ps,p):
  ∃v,Hv F N s.nx R z v∧∀R',(execOp a.eval o).run E.P R'=.ok (.value v) R':=by
 unfold A7k at he
 split at he
 ·rename_i ht
  split at he<;>first|(cases he;done)|skip
  rename_i b c hx hy
  cases he
  obtain⟨dst,op',type,pos,after,guard⟩:=o
  simp only at ho
  subst ho
  have ex:=CS h hG hx
  have ey:=CS h hG hy
  have hb:b.size+c.size≤9223372036854775807:=hp _ (List.mem_singleton.2 rfl)
  refine⟨_,.v _,fun R'=>CF (f:=Next.value) ?_⟩
  rw[ex,ey]
  simp[eqGuard,binOp,Op.stringOp]
  omega
 ·exact Vc h hG he
theorem T7 (h:Rel Z F N s a R) (hG:KQ (A1 a) G) {o:Oper} {op:BinOp} {t yt:TypeId} {x y:Operand} (ho:o.op=.binOp op t x y yt) {z:A} {ps:List Prop} (he:V3 E s G o op x y=some (z,ps)) (hp:∀p∈ps,p):
  ∃v,Hv F N s.nx R z v∧∀R',(execOp a.eval o).run E.P R'=.ok (.value v) R':=by
 unfold V3 at he
 cases hc:(E.lit||Jv y) with
 |true=>rw[hc] at he;exact Vc h hG he
 | false=>
  rw[hc] at he
  simp only[cond_false] at he
  obtain⟨dst,op',type,pos,after,guard⟩:=o
  simp only at ho
  subst ho
  split at he<;>first|(cases he;done)|skip
  rename_i k i k' b hx hy
  have ex:=CS h hG hx
  have ey:=CS h hG hy
  split at he<;>first|(cases he;done)|skip
  ·cases he
   have hb:0≤b:=hp _ (List.mem_singleton.2 rfl)
   refine⟨_,.v _,fun R'=>CF (f:=Next.value) ?_⟩
   rw[ex,ey]
   simp[eqGuard,binOp,Op.shift,show ¬b <0 by omega]
  ·cases he
   have hb:0≤b:=hp _ (List.mem_singleton.2 rfl)
   refine⟨_,.v _,fun R'=>CF (f:=Next.value) ?_⟩
   rw[ex,ey]
   simp[eqGuard,binOp,Op.shift,show ¬b <0 by omega]
  ·cases hk:Aba k k' with
   |false=>rw[hk] at he;cases he
   |true=>
    rw[hk] at he
    cases he
    obtain rfl:=Abb hk
    have hb:b≠0:=hp _ (List.mem_singleton.2 rfl)
    refine⟨_,.v _,fun R'=>CF (f:=Next.value) ?_⟩
    rw[ex,ey]
    simp[eqGuard,binOp,Op.intDiv,hb]
  ·cases hk:Aba k k' with
   |false=>rw[hk] at he;cases he
   |true=>
    rw[hk] at he
    cases he
    obtain rfl:=Abb hk
    have hb:b≠0:=hp _ (List.mem_singleton.2 rfl)
    refine⟨_,.v _,fun R'=>CF (f:=Next.value) ?_⟩
    rw[ex,ey]
    simp[eqGuard,binOp,Op.intDiv,hb]
end
theorem A0q {Z:Base} {F:Nat→Prop} {N:Nm} {s:St} {a:Act} {R:World} {G:Guards} (h:Rel Z F N s a R) (hG:KQ (A1 a) G) {c x y:Operand} {z:A} {ps:List Prop} (he:A0p s G c x y=some (z,ps)) (hp:∀p∈ps,p):
  ∃q,a.eval c=.bool q∧Hv F N s.nx R z (if q then a.eval x else a.eval y):=by
 unfold A0p at he
 split at he<;>first|(cases he;done)|skip
 rename_i q x' y' hc hx hy
 have hq:=CS h hG hc
 cases h1:A34 y' with
 |true=>
  rw[h1] at he
  cases he
  have hq1:q=true:=hp _ (List.mem_singleton.2 rfl)
  subst hq1
  exact⟨true,hq,(AQ h (OD hG hq) hx).2⟩
 | false=>
  rw[h1] at he
  cases h2:A34 x' with
  |true=>
   rw[h2] at he
   cases he
   have hq1:q=false:=hp _ (List.mem_singleton.2 rfl)
   subst hq1
   exact⟨false,hq,(AQ h (OD hG hq) hy).2⟩
  |false=>
   rw[h2] at he
   simp only[cond_false] at he
   split at he<;>first|(cases he;done)|skip
   rename_i z' hz
   cases he
   exact A0o h hG hz
end Go.Proofs.YtifkbgkbajncjaaDoor
namespace Go.Proofs.YtifkbgkbajncjaaDoor
open Go.RowKit Go.MapKept
section
variable {E:Env} {Z:Base} {F:Nat→Prop} {N:Nm} {s:St} {a:Act} {R:World} {G:Guards}
theorem Afn {P:Program} {v:Value} {l:List UInt8} {src dst e:TypeId} (hv:∃a c,v=.slice a l.length c∧l.length≤c∧(0 <l.length→∃ad,a=some ad∧∀j b,l[j]?=some b→R.cell? (ad.add j)=some (A4 b)))
  (hs:P.underlying src=some (.slice e)) (he:P.underlying e=some (.int .u8)) (hd:P.underlying dst=some .string):(convert src dst v).run P R=.ok (.string ⟨l.toArray⟩) R:=by
 obtain⟨A,c,rfl,_,hc⟩:=hv
 rw[run_convert_bytes_string R src dst e A _ c hs he hd]
 by_cases hn:0 <l.length
 ·obtain⟨ad,rfl,h5⟩:=hc hn
  have hl:=run_loadCells_list (P:=P) R ad (l.map A4) (fun j u hj=>by
   rw[List.getElem?_map] at hj
   cases hb:l[j]? with
   |none=>rw[hb] at hj;cases hj
   |some b=>rw[hb] at hj;cases hj;exact h5 j b hb)
  rw[List.length_map] at hl
  have e1:l.map A4=(l.map fun b=>(b.toNat:Int)).map (Value.int .u8):=by rw[List.map_map];rfl
  rw[e1] at hl
  rw[run_bytesToString R ad l.length c _ hl,foldl_push_bytes]
  have e2:(l.map fun b=>(b.toNat:Int)).map (fun n=>UInt8.ofNat n.toNat)=l:=by
   rw[List.map_map]
   exact(List.map_congr_left fun b _=>by show UInt8.ofNat ((b.toNat:Int).toNat)=id b;simp).trans (List.map_id l)
  rw[e2]
  simp
 ·obtain rfl:l=[]:=List.eq_nil_of_length_eq_zero (by omega)
  cases A with
  |none=>rfl
  |some ad=>
   have hl:=run_loadCells_list (P:=P) R ad [] (fun j u hj=>by cases hj)
   rw[show([]:List UInt8).length=0 from rfl,run_bytesToString R ad 0 c [] hl]
   rfl
theorem Avu (h:Rel Z F N s a R) (hG:KQ (A1 a) G) {src dst:TypeId} {x:Operand} {z:A} {ps:List Prop} (he:Aql E s G src dst x=some (some (z,ps))) (hp:∀p∈ps,p):
  ∃y,Hv F N s.nx R z y∧∀R',Below R.heap.size R R'→(convert src dst (a.eval x)).run E.P R'=.ok y R':=by
 unfold Aql at he
 split at he<;>first|(cases he;done)|skip
 rename_i w hx
 split at he<;>first|(cases he;done)|skip
 rename_i l qs hl
 split at he<;>first|(cases he;done)|skip
 rename_i e hs hd
 split at he<;>first|(cases he;done)|skip
 rename_i hu
 cases he
 refine⟨_,Hv.v _,fun R' hb=>?_⟩
 obtain⟨aa,c,q1,q2,q3⟩:=Avv h.hp hl hp (AQ h hG hx).2
 exact Afn ⟨aa,c,q1,q2,fun hp=>by
  obtain⟨ad,r1,r2⟩:=q3 hp
  exact⟨ad,r1,fun j b hj=>KY hb (r2 j b hj)⟩⟩ hs hu hd
theorem Amj (h:HRel F N s.nx s.o R) {P:Program} {g:FuncId} {xs:List A} {vs:List Value} {k nx':Nat} {x:A} {o':Objs} (hc:CallOk P g xs s.nx s.o k x nx' o') (hv:HL F N s.nx R xs vs) {R':World} (hb:Below R.heap.size R R'):
  Calls P g vs.toArray R' fun e R''=>∃y F' N',e=.returned y∧HRel F' N' nx' o' R''∧Step F N s.nx s.o R' F' N' nx' o' R''∧Hv F' N' nx' R'' x y∧(k≤1→Below R'.heap.size R' R''):=by
 obtain⟨h1,h2⟩:=h.grow hb
 exact hc F N R' vs h1 (hv.step h2)
def Aik:List (ByteArray×Int)→List MapEntry→Prop
 | [],es=>es=[]
 |p::l,es=>∃e r,es=e::r∧e.key=.string p.1∧e.val=.int .i64 p.2∧Aik l r
theorem Aul {nx:Nat}:∀{l:List (U .str×U .i64)} {es:List MapEntry},es.length=l.length→(∀(j:Nat) (p:U .str×U .i64) (e:MapEntry),l[j]?=some p→es[j]?=some e→e.key=A72 .str p.1∧Hv F N nx R (Ar .i64 p.2) e.val)→Aik l es
 | [],es,h,_=>List.eq_nil_of_length_eq_zero h
 |p::l,[],h,_=>by cases h
 |p::l,e::r,h,k=>by
  obtain⟨h1,h2⟩:=k 0 p e rfl rfl
  exact⟨e,r,rfl,h1,Hv.v_inv (x:=.int .i64 p.2) h2,Aul (by simpa using h) fun j q f hq hf=>k (j+1) q f hq hf⟩
theorem Aum {nx:Nat}:∀{l:List (ByteArray×Int)} {es:List MapEntry},Aik l es→es.length=l.length∧∀(j:Nat) (p:U .str×U .i64) (e:MapEntry),l[j]?=some p→es[j]?=some e→e.key=A72 .str p.1∧Hv F N nx R (Ar .i64 p.2) e.val
 | [],es,h=>by
  have h':es=[]:=h
  subst h'
  exact⟨rfl,fun j p e hp=>by cases hp⟩
 |p::l,es,⟨e,r,he,h1,h2,h3⟩=>by
  subst he
  obtain⟨g1,g2⟩:=Aum (nx:=nx) h3
  refine⟨by simp[g1],fun j q f hq hf=>?_⟩
  cases j with
  |zero=>cases hq;cases hf;exact⟨h1,by rw[h2];exact Hv.v _⟩
  |succ j=>exact g2 j q f hq hf
theorem WK (b:ByteArray):∀{l:List (ByteArray×Int)} {es:List MapEntry} (j:Nat),Aik l es→
  (Instr.findNow .string (.string b) es j=some none∧HF l b=0∧∀n c,Aik (R7 l b n) (es++[⟨.string b,.int .i64 n,c⟩]))∨
  ∃k e,Instr.findNow .string (.string b) es j=some (some (j+k,.int .i64 (HF l b)))∧es[k]?=some e∧e.key=.string b∧∀n,Aik (R7 l b n) (es.modify k fun e=>{e with key:=.string b,val:=.int .i64 n})
 | [],es,j,h=>by
  have h':es=[]:=h
  subst h'
  exact .inl ⟨rfl,rfl,fun n c=>⟨_,_,rfl,rfl,rfl,rfl⟩⟩
 | p ::l,es,j,⟨e,r,he,h1,h2,h3⟩=>by
  subst he
  have hs:Instr.sameNow .string (.string b) e.key=some (b==p.1):=by rw[h1];rfl
  cases hb:(b==p.1) with
  | true=>
   rw[hb] at hs
   refine .inr ⟨0,e,?_,rfl,?_,fun n=>?_⟩
   ·simp only[Instr.findNow,hs]
    rw[h2]
    show _=some (some (j+0,Value.int .i64 (bif b==p.1 then p.2 else HF l b)))
    rw[hb]
    rfl
   ·rw[h1,(bytes_beq b p.1).1 hb]
   ·show Aik (bif b==p.1 then(b,n)::l else p::R7 l b n) _
    rw[hb]
    exact⟨_,_,rfl,rfl,rfl,h3⟩
  | false=>
   rw[hb] at hs
   have hf:HF (p::l) b=HF l b:=by show(bif b==p.1 then p.2 else HF l b)=_;rw[hb];rfl
   have hu:∀n,R7 (p::l) b n=p::R7 l b n:=fun n=>by show(bif b==p.1 then(b,n)::l else p::R7 l b n)=_;rw[hb];rfl
   rcases WK b (j+1) h3 with⟨g1,g2,g3⟩|⟨k,e',g1,g2,g3,g4⟩
   ·refine .inl ⟨by simp only[Instr.findNow,hs];exact g1,by rw[hf];exact g2,fun n c=>?_⟩
    rw[hu]
    exact⟨e,_,rfl,h1,h2,g3 n c⟩
   ·refine .inr ⟨k+1,e',?_,g2,g3,fun n=>?_⟩
    ·simp only[Instr.findNow,hs]
     rw[g1,hf]
     congr 3
     omega
    ·rw[hu]
     exact⟨e,_,rfl,h1,h2,g4 n⟩
theorem Auk (h:HRel F N s.nx s.o R) {x:A} {y:Value} {i:Nat} {l:List (ByteArray×Int)} (he:A39 s.o x=some (i,l)) (hx:Hv F N s.nx R x y):
  y=.map (some (N.b i))∧Ak i s.o=some (.map .str .i64 l)∧∃es clock,R.heap[N.b i]?=some (.map es.toArray clock)∧Aik l es:=by
 unfold A39 at he
 split at he<;>first|(cases he;done)|skip
 split at he<;>first|(cases he;done)|skip
 rename_i hl
 cases he
 obtain⟨_,es,clock,h1,h2,h3⟩:=h.ob _ _ hl
 exact⟨hx.mp_inv.2,hl,es,clock,h1,Aul h2 h3⟩
theorem Auf {t:TypeId} (h:An0 E t=true):∃k v,E.P.underlying t=some (.map k v)∧E.P.underlying k=some .string∧∀R,(zeroValue v).run E.P R=.ok (.int .i64 0) R:=by
 unfold An0 at h
 split at h<;>first|(cases h;done)|skip
 rename_i k v hu
 split at h<;>first|(cases h;done)|skip
 rename_i z hk hz
 obtain rfl:z=0:=of_decide_eq_true h
 refine⟨k,v,hu,hk,fun R=>?_⟩
 cases hi:E.P.info? v with
 |none=>rw[hi] at hz;cases hz
 |some i=>
  rw[hi] at hz
  have hz':i.zero=some (.int .i64 0):=hz
  simp[zeroValue,typeInfo,hi,hz']
theorem A37 (h:Rel Z F N s a R) (hG:KQ (A1 a) G) {t:TypeId} {m k:Operand} {z:A} {ps:List Prop} (he:Az9 E s G t m k=some (z,ps)):
  ∃v,Hv F N s.nx R z v∧∀R',Below R.heap.size R R'→(Instr.lookup t (a.eval m) (a.eval k) false).run E.P R'=.ok v R':=by
 unfold Az9 at he
 split at he<;>first|(cases he;done)|skip
 rename_i x b hm hk
 split at he<;>first|(cases he;done)|skip
 rename_i i l hi
 cases hq:An0 E t with
 |false=>rw[hq] at he;cases he
 |true=>
  rw[hq] at he
  cases he
  obtain⟨e1,_,es,clock,e2,e3⟩:=Auk h.hp hi (AQ h hG hm).2
  obtain⟨kt,vt,q1,q2,q3⟩:=Auf hq
  have e4:=CS h hG hk
  refine⟨_,Hv.v _,fun R' hb=>?_⟩
  have hb':=CV e2 hb
  have hkk:IsKey .string (.string b):=trivial
  rw[e1,e4]
  rcases WK b 0 e3 with⟨g1,g2,_⟩|⟨j,e,g1,_,_,_⟩
  ·simp[Instr.lookup,run_underlying q1,MapKept.run_getObj_map hb',run_checkKey q2 hkk,run_findKey q2 g1,q3,g2]
  ·simp[Instr.lookup,run_underlying q1,MapKept.run_getObj_map hb',run_checkKey q2 hkk,run_findKey q2 g1]
theorem Asx (ok:EnvOk E) (h:Rel Z F N s a R) (hG:KQ (A1 a) G) {o:Oper} {z:A} {ps:List Prop} (he:A5j E s G o=some (z,ps)) (hp:∀p∈ps,p):
  ∃v,Hv F N s.nx R z v∧∀R',Below R.heap.size R R'→Oper.quietUpon E.P (fun R''=>Below R'.heap.size R' R'') R' v ((execOp a.eval o).run E.P R'):=by
 have pure_:∀{z:A} {ps:List Prop},JQ E s G o=some (z,ps)→∃v,Hv F N s.nx R z v∧∀R',Below R.heap.size R R'→Oper.quietUpon E.P (fun R''=>Below R'.heap.size R' R'') R' v ((execOp a.eval o).run E.P R'):=fun he=>by
  obtain⟨y,h1,h2⟩:=Vc h hG he
  exact⟨y,h1,fun R' _=>CT (h2 R')⟩
 obtain⟨dst,op,type,pos,after,guard⟩:=o
 unfold A5j at he
 simp only at he
 split at he
 ·split at he<;>first|(cases he;done)|skip
  rename_i x _ _ hx
  cases he
  exact⟨_,(AQ h hG hx).2,fun R' _=>CT rfl⟩
 ·split at he<;>first|(cases he;done)|skip
  rename_i x _ _ hx
  cases he
  exact⟨_,(AQ h hG hx).2,fun R' _=>CT rfl⟩
 ·obtain⟨q,h1,h2⟩:=A0q h hG he hp
  refine⟨_,h2,fun R' _=>CT ?_⟩
  simp only[execOp,h1,asBool,Sem.run_bind,Sem.run_pure,Result.andThen_ok]
 ·rename_i x ix
  split at he
  ·rename_i r hr
   subst he
   unfold itE at hr
   split at hr<;>first|(cases hr;done)|skip
   rename_i q vs hx
   have hv:=(AQ h hG hx).2
   generalize ha:a.eval x=y at hv
   cases hv with|it _ _ _ hy=>?_
   split at hr
   ·cases hr
    refine⟨_,Hv.v _,fun R' _=>CT (CF ?_)⟩
    rw[ha,hy]
    cases q<;>simp[Instr.extract]
   ·rename_i k
    split at hr<;>first|(cases hr;done)|skip
    rename_i v hv
    cases hr
    have hq:q=true:=hp _ (List.mem_singleton.2 rfl)
    subst hq
    refine⟨_,Hv.v _,fun R' _=>CT (CF ?_)⟩
    rw[ha,hy]
    simp[Instr.extract,hv]
  split at he
  ·rename_i z' hz
   cases he
   unfold Anf at hz
   split at hz<;>first|(cases hz;done)|skip
   rename_i xs hx
   obtain⟨vs,e1,h2⟩:=(AQ h hG hx).2.tup_inv
   obtain⟨v,h3,h4⟩:=h2.get (Option.some.inj hz)
   refine⟨v,h4,fun R' _=>CT (CF ?_)⟩
   rw[e1]
   simp[Instr.extract,h3]
  ·cases he
  ·exact pure_ he
 ·rename_i t x f
  split at he
  ·rename_i z' hz
   cases he
   unfold A6x at hz
   split at hz<;>first|(cases hz;done)|skip
   rename_i cs hx
   obtain⟨vs,e1,h2⟩:=(AQ h hG hx).2.agg_inv
   split at hz<;>first|(cases hz;done)|skip
   rename_i fs hu
   split at hz<;>first|(cases hz;done)|skip
   rename_i fd hf
   obtain⟨y,h3,h4⟩:=A05 (cs:=vs.toArray) (Option.some.inj hz) (by simpa using h2.drop fd.offset)
   refine⟨y,h3,fun R' _=>CT (CF ?_)⟩
   rw[e1]
   have h5:=h4 R'
   simp only[Instr.field,Sem.run_bind,run_underlying hu,Result.andThen_ok,hf,asAgg,Sem.run_pure]
   exact h5
  ·cases he
  ·exact pure_ he
 ·rename_i t x f
  obtain⟨_,y,h1,h2⟩:=Azg h hG he
  exact⟨y,h1,fun R' _=>CT (CF (h2 R'))⟩
 ·rename_i t x i
  obtain⟨_,y,h1,h2⟩:=Azx h hG he hp
  exact⟨y,h1,fun R' _=>CT (CF (h2 R'))⟩
 ·rename_i t x
  obtain⟨y,h1,h2⟩:=Auj h hG he hp
  exact⟨y,h1,fun R' hb=>CT (CF (h2 R' hb))⟩
 ·rename_i t x lo hi mx
  obtain⟨y,h1,h2⟩:=A1a h hG rfl he hp
  exact⟨y,h1,fun R' _=>CT (h2 R')⟩
 ·rename_i t parts
  obtain⟨y,h1,h2⟩:=Ays h hG he
  exact⟨y,h1,fun R' _=>CT (CF (h2 R'))⟩
 ·rename_i x
  split at he
  ·rename_i z' hz
   cases he
   unfold nilE at hz
   split at hz<;>first|(cases hz;done)|skip
   rename_i w hx
   cases hs:A61 w with
   |false=>rw[hs] at hz;cases hz
   | true=>
    rw[hs] at hz
    obtain rfl:w=z:=Option.some.inj hz
    have hx':=(AQ h hG hx).2
    refine⟨_,hx',fun R' _=>CT ?_⟩
    have hc:(∃ad,a.eval x=.pointer (some ad))∨∃f vs us,a.eval x=.func (.func f) vs us:=by
     cases hsu:A1f w with
     |true=>exact .inl (Apm hsu hx')
     | false=>
      cases w with
      |fn f0 l1 l2=>
       obtain⟨vs,us,e1,_⟩:=hx'.fn_inv
       exact .inr ⟨_,_,_,e1⟩
      |_=>exact absurd (hs.symm.trans hsu) (fun e=>nomatch e)
    rcases hc with⟨ad,e⟩|⟨f,vs,us,e⟩
    ·simp only[execOp,e];rfl
    ·simp only[execOp,e];rfl
  ·exact pure_ he
 ·rename_i t x i
  split at he
  ·rename_i r hr
   subst he
   unfold A1e at hr
   split at hr<;>first|(cases hr;done)|skip
   rename_i b k n hx hi
   split at hr<;>first|(cases hr;done)|skip
   rename_i hu
   obtain⟨rfl,hd⟩:=B4 (Option.some.inj hr)
   obtain⟨h0,h1⟩:=FP hd hp
   refine⟨_,Hv.v _,fun R' _=>CT (CF ?_)⟩
   rw[CS h hG hx,CS h hG hi]
   have hlt:n.toNat <b.size:=by omega
   have hlt':n.toNat <b.data.toList.length:=by rw[Array.length_toList];exact hlt
   have hb:b[n.toNat]?=some b.data.toList[n.toNat]:=by
    rw[getElem?_pos b n.toNat hlt]
    rfl
   have hby:Aqk b.data.toList n.toNat=.int .u8 (b.data.toList[n.toNat]).toNat:=by
    unfold Aqk A4
    rw[List.getD_eq_getElem?_getD,List.getElem?_eq_getElem hlt']
    rfl
   rw[hby]
   simp[Instr.index,asIntOf,run_underlying hu,h0,hb]
  ·split at he
   ·rename_i r hr
    subst he
    unfold A6i at hr
    split at hr<;>first|(cases hr;done)|skip
    rename_i c n l q k hx hi
    split at hr<;>first|(cases hr;done)|skip
    rename_i len e hu
    split at hr<;>first|(cases hr;done)|skip
    rename_i hrow hsz
    cases hb:Nat.beq len n with
    |false=>rw[hb] at hr;cases hr
    | true=>
     rw[hb,cond_true] at hr
     obtain rfl:=Nat.eq_of_beq_eq_true hb
     obtain⟨rfl,hd⟩:=B4 (Option.some.inj hr)
     obtain⟨h0,h1⟩:=FP hd hp
     obtain⟨_,e2,e3⟩:=(AQ h hG hx).2.av_inv
     refine⟨_,Hv.v _,fun R' _=>CT (CF ?_)⟩
     rw[CS h hG hi,e3]
     have hn:k.toNat <l.length:=by omega
     obtain⟨d,hc⟩:∃d,l[k.toNat]?=some d:=⟨_,List.getElem?_eq_getElem hn⟩
     rw[show l.getD k.toNat (Aj c)=d by rw[List.getD_eq_getElem?_getD,hc];rfl]
     unfold Zy at hrow
     unfold DG at hsz
     cases hi2:E.P.info? e with
     |none=>rw[hi2] at hsz;cases hsz
     | some inf=>
      rw[hi2] at hsz
      have hs1:inf.size=1:=Option.some.inj hsz
      cases hu2:E.P.underlying e with
      |none=>rw[hu2] at hrow;cases hrow
      |some d=>
       rw[hu2] at hrow
       cases d<;>first|(simp[Instr.index,asIntOf,part,isAgg,run_underlying hu,run_underlying hu2,sizeOf,typeInfo,hi2,hs1,h0,h1,hc];done)|(simp at hrow;done)
   ·exact pure_ he
 ·rename_i fn first captured
  split at he<;>first|(cases he;done)|skip
  rename_i z' hz
  cases he
  unfold A6o at hz
  split at hz<;>first|(cases hz;done)|skip
  split at hz<;>first|(cases hz;done)|skip
  rename_i f _ _ xs ys hx hy
  cases hz
  refine⟨.func (.func f) (first.map a.eval) (captured.map a.eval),?_,fun R' _=>CT rfl⟩
  have:=Hv.of_fn (f:=f) (Uz h hG hx) (Uz h hG hy)
  rwa[←Array.toList_map,←Array.toList_map,Array.toArray_toList,Array.toArray_toList] at this
 ·rename_i f args ts
  unfold Agn at he
  split at he<;>first|(cases he;done)|skip
  split at he<;>first|(cases he;done)|skip
  rename_i k w nx' o' ps' hr
  cases hk:Nat.ble k 1 with
  |false=>rw[hk] at he;cases he
  |true=>
   rw[hk] at he
   cases he
   obtain⟨g,xs,vs,h1,h2,h3⟩:=Aml h hG (o:={dst,op:=.call {callee:=.value f,args,argTypes:=ts},type,pos,after,guard}) rfl hr
   refine⟨w,Hv.v _,fun R' hb=>?_⟩
   rw[h3 R']
   refine⟨rfl,(Amj h.hp (ok.C g xs s.nx s.o _ _ _ _ _ h1 hp) h2 hb).mono fun e R'' ⟨y,F',N',e1,_,_,e2,e3⟩=>?_⟩
   exact⟨by rw[e1,e2.v_inv],e3 (Nat.le_of_ble_eq_true hk)⟩
 ·rename_i args ts
  have J3:∀x,args.toList=[x]→∀aa n c t e,a.eval x=.slice aa n c→ts[0]?=some t→E.P.underlying t=some (.slice e)→∀R',Below R.heap.size R R'→Oper.quietUpon E.P (fun R''=>Below R'.heap.size R' R'') R' (.int .i64 n) ((execOp a.eval {dst,op:=.call {callee:=.builtin .len,args,argTypes:=ts},type,pos,after,guard}).run E.P R'):=fun x hargs aa n c t e q1 ht hu R' _=>CT (by
   have hx0:args=#[x]:=by rw[←Array.toArray_toList (xs:=args),hargs]
   have ha:args.map a.eval=#[.slice aa n c]:=by
    rw[hx0]
    simp[q1]
   show(do let d ←resolve a.eval _ type;invoke d.target d.args:Sem Next).run E.P R'=_
   simp[resolve,invoke,builtin,Builtin.len_,ha,ht,run_underlying hu,goInt])
  split at he
  ·rename_i r hz
   subst he
   unfold A9v at hz
   split at hz<;>first|(cases hz;done)|skip
   rename_i x hargs
   split at hz<;>first|(cases hz;done)|skip
   ·rename_i i t hx ht
    split at hz<;>first|(cases hz;done)|skip
    rename_i e' c l e hl hu
    cases hz
    obtain⟨_,zs,g2,_⟩:=Uw h.hp hl
    obtain⟨aa,cc,q1,_⟩:=g2.form
    exact⟨_,Hv.v _,J3 x hargs aa _ cc t e ((AQ h hG hx).2.dq_inv.2.trans q1) ht hu⟩
   ·rename_i i k t hx ht
    split at hz<;>first|(cases hz;done)|skip
    rename_i e' c l e hl hu
    split at hz<;>first|(cases hz;done)|skip
    rename_i c' l' hin
    obtain⟨rfl,hd⟩:=B4 (Option.some.inj hz)
    have hk:=FP hd hp
    obtain⟨e2,us,g2,_⟩:=Uv h.hp hl hk hin
    obtain⟨aa,cc,q1,_⟩:=g2.form
    exact⟨_,Hv.v _,J3 x hargs aa _ cc t e ((AQ h hG hx).2.iv_inv.2.trans q1) ht hu⟩
  split at he
  ·rename_i z' hz
   cases he
   unfold A9w at hz
   split at hz<;>first|(cases hz;done)|skip
   rename_i x hargs
   split at hz<;>first|(cases hz;done)|skip
   ·rename_i hx
    split at hz<;>first|(cases hz;done)|skip
    rename_i t ht
    split at hz<;>first|(cases hz;done)|skip
    rename_i e hu
    cases hz
    obtain⟨aa,q1⟩:=(AQ h hG hx).2.nl_inv
    exact⟨_,Hv.v _,J3 x hargs aa 0 0 t e q1 ht hu⟩
   ·rename_i w hnl hx
    split at hz<;>first|(cases hz;done)|skip
    rename_i n f hv
    split at hz<;>first|(cases hz;done)|skip
    rename_i t ht
    split at hz<;>first|(cases hz;done)|skip
    rename_i e hu
    cases hz
    obtain⟨aa,c,q1,_,_⟩:=Ave h.hp hv (AQ h hG hx).2
    exact⟨_,Hv.v _,J3 x hargs aa n c t e q1 ht hu⟩
  ·exact pure_ he
 ·rename_i args ts
  split at he
  ·rename_i v hv
   cases he
   refine⟨v,Hv.v _,fun R' _=>CT ?_⟩
   have:=Ahb (E:=E) h hG hv (.inl rfl) ts type (args.map fun| .const _=>true|_=>false) R'
   have ha:(args.toList.map a.eval).toArray=args.map a.eval:=by rw[←Array.toList_map,Array.toArray_toList]
   rw[ha] at this
   exact this
  ·exact pure_ he
 ·rename_i args ts
  split at he
  ·rename_i v hv
   cases he
   refine⟨v,Hv.v _,fun R' _=>CT ?_⟩
   have:=Ahb (E:=E) h hG hv (.inr rfl) ts type (args.map fun| .const _=>true|_=>false) R'
   have ha:(args.toList.map a.eval).toArray=args.map a.eval:=by rw[←Array.toList_map,Array.toArray_toList]
   rw[ha] at this
   exact this
  ·exact pure_ he
 ·rename_i src dst' x
  split at he
  ·rename_i r hr
   subst he
   obtain⟨y,h1,h2⟩:=Avu h hG hr hp
   exact⟨y,h1,fun R' hb=>CT (CF (h2 R' hb))⟩
  ·exact pure_ he
 ·rename_i t x y yt
  cases hn:Wl E s G t x y with
  |true=>
   rw[hn] at he
   cases he
   exact⟨_,Hv.v _,fun R' _=>CT (CF (Ana h hG hn .eql (.inl rfl) R'))⟩
  | false=>
   rw[hn] at he
   simp only[cond_false] at he
   split at he
   ·rename_i b hb
    cases he
    exact⟨_,Hv.v _,fun R' _=>CT (CF (Aza ok h hG hb .eql (.inl rfl) R'))⟩
   ·cases he
   ·exact pure_ he
 ·rename_i t x y yt
  cases hn:Wl E s G t x y with
  |true=>
   rw[hn] at he
   cases he
   exact⟨_,Hv.v _,fun R' _=>CT (CF (Ana h hG hn .neq (.inr rfl) R'))⟩
  | false=>
   rw[hn] at he
   simp only[cond_false] at he
   split at he
   ·rename_i b hb
    cases he
    exact⟨_,Hv.v _,fun R' _=>CT (CF (Aza ok h hG hb .neq (.inr rfl) R'))⟩
   ·cases he
   ·exact pure_ he
 ·obtain⟨v,h1,h2⟩:=T7 h hG rfl he hp
  exact⟨v,h1,fun R' _=>CT (h2 R')⟩
 ·obtain⟨v,h1,h2⟩:=T7 h hG rfl he hp
  exact⟨v,h1,fun R' _=>CT (h2 R')⟩
 ·obtain⟨v,h1,h2⟩:=T7 h hG rfl he hp
  exact⟨v,h1,fun R' _=>CT (h2 R')⟩
 ·obtain⟨v,h1,h2⟩:=T7 h hG rfl he hp
  exact⟨v,h1,fun R' _=>CT (h2 R')⟩
 ·obtain⟨v,h1,h2⟩:=A7l h hG rfl he hp
  exact⟨v,h1,fun R' _=>CT (h2 R')⟩
 ·obtain⟨v,h1,h2⟩:=A37 h hG he
  exact⟨v,h1,fun R' hb=>CT (CF (h2 R' hb))⟩
 ·exact pure_ he
end
end Go.Proofs.YtifkbgkbajncjaaDoor
namespace Go.Proofs.YtifkbgkbajncjaaDoor
open Go.RowKit
section
variable {P:Program} {w:World}
theorem Akr (t u ty e:TypeId) (i:TypeInfo) (z:Value) {e':TypeId} (ht:P.underlying t=some (.slice e)) (hu:P.underlying u=some (.slice e')∨P.underlying u=some .string) (hi:P.info? e=some i) (hz:i.zero=some z)
  (b:Option Addr) (sLen sCap m:Nat) (x:Value) (olds news:List Value) (hold:(Builtin.firstCells i.size sLen (.slice b sLen sCap)).run P w.drew=.ok olds.toArray w.drew)
  (hlen:(Builtin.lenOf x).run P w=.ok m w) (hnew:(Builtin.firstCells i.size m x).run P w.drew=.ok news.toArray w.drew)
  (hg:sCap <sLen+m) (h63:((sLen+m:Nat):Int)≤9223372036854775807) (hfit:Builtin.nextslicecap (sLen+m) sCap*i.bytes≤281474976710656):
  (Builtin.append_ #[t,u] ty #[.slice b sLen sCap,x]).run P w=
   .ok (.slice (some ⟨w.heap.size,0,none⟩) (sLen+m) (grownCap w (sLen+m) sCap e))
    (w.drew.alloc (.cells (olds.toArray++news.toArray++Builtin.zeroCells z.cells (grownCap w (sLen+m) sCap e - (sLen+m))) e)):=by
 have h48':¬(281474976710656 <Builtin.nextslicecap (sLen+m) sCap*i.bytes):=by omega
 have hn:¬(sLen+m≤sCap):=by omega
 have hh':¬(9223372036854775807 <(sLen:Int)+(m:Int)):=by omega
 rcases hu with hu|hu<;>simp[Builtin.append_,run_underlying ht,run_underlying hu,sizeOf,typeInfo,zeroValue,hi,hz,hlen,hn,hh',h48',Question.forced,hold,hnew,newRow,grownCap]<;>rw[←List.append_toArray,Array.append_assoc]
theorem Akt (t u ty e:TypeId) (i:TypeInfo) {e':TypeId} (ht:P.underlying t=some (.slice e)) (hu:P.underlying u=some (.slice e')∨P.underlying u=some .string) (hi:P.info? e=some i)
  (g sLen sCap m:Nat) (x:Value) (cur:Array Value) (hg:w.heap[g]?=some (.cells cur e (0,0))) (news:List Value)
  (hlen:(Builtin.lenOf x).run P w=.ok m w) (hnew:(Builtin.firstCells i.size m x).run P w=.ok news.toArray w) (h1:∀u∈news,u.oneCell'=true)
  (hroom:sLen+m≤sCap) (hfit:sLen*i.size+news.length≤cur.size):
  (Builtin.append_ #[t,u] ty #[.slice (some ⟨g,0,none⟩) sLen sCap,x]).run P w=
   .ok (.slice (some ⟨g,0,none⟩) (sLen+m) sCap) (w.setRow g (cur.toList.take (sLen*i.size)++news++cur.toList.drop (sLen*i.size+news.length)).toArray):=by
 have hst:=run_storeCells_at (P:=P) g (sLen*i.size) e news 0 cur w hg (by simpa using hfit) h1
 simp only[Nat.add_zero] at hst
 have e0:({block:=g,off:=0}:Addr).add (sLen*i.size)=⟨g,sLen*i.size,none⟩:=by rw[Bv,Nat.zero_add]
 rcases hu with hu|hu<;>simp[Builtin.append_,run_underlying ht,run_underlying hu,sizeOf,typeInfo,hi,hlen,hroom,hnew,storeCells,e0,hst]
theorem Aks (t u ty e:TypeId) (i:TypeInfo) {e':TypeId} (ht:P.underlying t=some (.slice e)) (hu:P.underlying u=some (.slice e')∨P.underlying u=some .string) (hi:P.info? e=some i)
  (b:Option Addr) (x:Value) (hlen:(Builtin.lenOf x).run P w=.ok 0 w) (hnew:(Builtin.firstCells i.size 0 x).run P w=.ok #[] w):
  (Builtin.append_ #[t,u] ty #[.slice b 0 0,x]).run P w=.ok (.slice b 0 0) w:=by
 rcases hu with hu|hu<;>cases b<;>simp[Builtin.append_,run_underlying ht,run_underlying hu,sizeOf,typeInfo,hi,hlen,hnew,storeCells]
end
def RowHL (F:Nat→Prop) (N:Nm) (nx:Nat) (R:World) (els:Els) (size:Nat) (zs:List Value):Prop:=
 zs.length=els.n*size∧∀k,k <els.n→HL F N nx R (els.nth k) ((zs.drop (k*size)).take size)
section
variable {F F':Nat→Prop} {N N':Nm} {nx nx':Nat} {R R':World} {size:Nat}
theorem RowHL.step (st:Ext F N nx R F' N' nx' R') {els:Els} {zs:List Value} (h:RowHL F N nx R els size zs):RowHL F' N' nx' R' els size zs:=⟨h.1,fun k hk=>(h.2 k hk).step st⟩
theorem RowHL.cat {els e1 e2:Els} {zs us:List Value} (h1:RowHL F N nx R e1 size zs) (h2:RowHL F N nx R e2 size us) (hn:els.n=e1.n+e2.n) (ha:∀k,k <e1.n→els.nth k=e1.nth k) (hb:∀k,k <e2.n→els.nth (e1.n+k)=e2.nth k):RowHL F N nx R els size (zs++us):=by
 refine⟨by rw[List.length_append,h1.1,h2.1,hn,Nat.add_mul],fun k hk=>?_⟩
 by_cases hlt:k <e1.n
 ·rw[ha k hlt]
  have hle:k*size+size≤zs.length:=by rw[h1.1,←Nat.succ_mul];exact Nat.mul_le_mul_right _ hlt
  rw[List.drop_append_of_le_length (by omega),List.take_append_of_le_length (by rw[List.length_drop];omega)]
  exact h1.2 k hlt
 ·have hk2:k=e1.n+(k - e1.n):=by omega
  rw[hk2,hb (k - e1.n) (by omega)]
  have:(e1.n+(k - e1.n))*size=zs.length+(k - e1.n)*size:=by rw[Nat.add_mul,h1.1]
  rw[this,List.drop_append]
  rw[List.drop_eq_nil_of_le (by omega),List.nil_append,show zs.length+(k - e1.n)*size - zs.length=(k - e1.n)*size by omega]
  exact h2.2 (k - e1.n) (by omega)
theorem RowHL.ty {c:TC} {els:Els} {l:List (U c)} {ps:List Prop} {zs:List Value} (h:RowHL F N nx R els size zs) (he:PY c els=some (l,ps)) (hp:∀p∈ps,p):RowHL F N nx R (.ty c l) size zs:=by
 obtain⟨h1,h2⟩:=JK (F:=F) (N:=N) (nx:=nx) (R:=R) he hp
 have hn:(Els.ty c l).n=els.n:=h1
 exact⟨by rw[hn];exact h.1,fun k hk=>by rw[hn] at hk;exact h2 k hk _ (h.2 k hk)⟩
theorem RowHL.nil:RowHL F N nx R (.lst []) size []:=⟨by simp[Els.n],fun k hk=>by cases hk⟩
end
def Aiv:Els→Els→Option (Els×List Prop)
 | .lst xs,.lst ys=>some (.lst (xs++ys),[])
 | .ty c l,b=>match PY c b with
  |some (l',ps)=>some (.ty c (l++l'),ps)
  |none=>none
 | .lst xs,.ty c l=>match Am3 c xs with
  |some (l',ps)=>some (.ty c (l'++l),ps)
  |none=>none
def Els.norm (tc:Option TC) (els:Els):Els×List Prop:=match els with
 | .lst cs=>match tc with
  |some c=>match Am3 c cs with
   |some (l,ps)=>(.ty c l,ps)
   |none=>(els,[])
  |none=>(els,[])
 |_=>(els,[])
def Xj (lo n:Nat):Els→Els
 | .lst cs=> .lst ((cs.drop lo).take n)
 | .ty c l=> .ty c ((l.drop lo).take n)
def Lh (o:Objs):Els→Bool
 | .lst cs=>cs.all fun x=>Ii x&&MM o x
 | .ty _ _=>true
section
variable {F F':Nat→Prop} {N N':Nm} {nx nx':Nat} {R R':World} {size:Nat} {o:Objs}
theorem Ajp {xs ys:List (List A)} {k:Nat} (hk:k <xs.length):GV (xs++ys) k=GV xs k:=by
 rw[CX,CX,List.getD_eq_getElem?_getD,List.getD_eq_getElem?_getD,List.getElem?_append_left hk]
theorem Ae4 {xs ys:List (List A)} {k:Nat}:GV (xs++ys) (xs.length+k)=GV ys k:=by
 rw[CX,CX,List.getD_eq_getElem?_getD,List.getD_eq_getElem?_getD,List.getElem?_append_right (by omega)]
 congr 2
 omega
theorem YF {c:TC} {l l':List (U c)} {k:Nat} (hk:k <l.length):(Els.ty c (l++l')).nth k=(Els.ty c l).nth k:=by
 show enc c _=enc c _
 rw[List.getD_eq_getElem?_getD,List.getD_eq_getElem?_getD,List.getElem?_append_left hk]
theorem VC {c:TC} {l l':List (U c)} {k:Nat}:(Els.ty c (l++l')).nth (l.length+k)=(Els.ty c l').nth k:=by
 show enc c _=enc c _
 rw[List.getD_eq_getElem?_getD,List.getD_eq_getElem?_getD,List.getElem?_append_right (by omega)]
 congr 3
 omega
theorem Ago {e1 e2 els:Els} {ps:List Prop} {zs us:List Value} (he:Aiv e1 e2=some (els,ps)) (hp:∀p∈ps,p) (h1:RowHL F N nx R e1 size zs) (h2:RowHL F N nx R e2 size us):els.n=e1.n+e2.n∧RowHL F N nx R els size (zs++us):=by
 unfold Aiv at he
 split at he
 ·rename_i xs ys
  cases he
  have hn:(Els.lst (xs++ys)).n=(Els.lst xs).n+(Els.lst ys).n:=by simp[Els.n]
  exact⟨hn,h1.cat h2 hn (fun k hk=>Ajp hk) fun k _=>Ae4⟩
 ·rename_i c l
  split at he<;>first|(cases he;done)|skip
  rename_i l' qs hl
  cases he
  have h3:=h2.ty hl hp
  have hn:(Els.ty c (l++l')).n=(Els.ty c l).n+(Els.ty c l').n:=by simp[Els.n]
  have he2:(Els.ty c l').n=e2.n:=(JK (F:=F) (N:=N) (nx:=nx) (R:=R) hl hp).1
  exact⟨by rw[hn,he2],h1.cat h3 hn (fun k hk=>YF hk) fun k _=>VC⟩
 ·rename_i xs c l
  split at he<;>first|(cases he;done)|skip
  rename_i l' qs hl
  cases he
  have h3:RowHL F N nx R (.ty c l') size zs:=h1.ty (els:=.lst xs) hl hp
  have hn:(Els.ty c (l'++l)).n=(Els.ty c l').n+(Els.ty c l).n:=by simp[Els.n]
  have he2:(Els.ty c l').n=(Els.lst xs).n:=(Rt (F:=F) (N:=N) (nx:=nx) (R:=R) hl hp).1
  exact⟨by rw[hn,he2],h3.cat h2 hn (fun k hk=>YF hk) fun k _=>VC⟩
theorem Aut {tc:Option TC} {els els':Els} {ps:List Prop} {zs:List Value} (he:els.norm tc=(els',ps)) (hp:∀p∈ps,p) (h:RowHL F N nx R els size zs):els'.n=els.n∧RowHL F N nx R els' size zs:=by
 unfold Els.norm at he
 split at he
 ·split at he
  ·split at he
   ·rename_i l qs hl
    cases he
    exact⟨(Rt (F:=F) (N:=N) (nx:=nx) (R:=R) hl hp).1,h.ty (els:=.lst _) hl hp⟩
   ·cases he;exact⟨rfl,h⟩
  ·cases he;exact⟨rfl,h⟩
 ·cases he;exact⟨rfl,h⟩
theorem Ah4 {lo n:Nat} {els:Els} (h:lo+n≤els.n):(Xj lo n els).n=n:=by
 cases els<;>simp only[Xj,Els.n,List.length_take,List.length_drop] at h⊢<;>omega
theorem A49 {lo n k:Nat} {els:Els} (hk:k <n):(Xj lo n els).nth k=els.nth (lo+k):=by
 cases els with
 |lst cs=>
  show GV _ k=GV _ _
  rw[CX,CX,List.getD_eq_getElem?_getD,List.getD_eq_getElem?_getD,List.getElem?_take,if_pos hk,List.getElem?_drop]
 |ty c l=>
  show enc c _=enc c _
  rw[List.getD_eq_getElem?_getD,List.getD_eq_getElem?_getD,List.getElem?_take,if_pos hk,List.getElem?_drop]
theorem RowHL.sub {lo n:Nat} {els:Els} {zs:List Value} (h:RowHL F N nx R els size zs) (hle:lo+n≤els.n):RowHL F N nx R (Xj lo n els) size ((zs.drop (lo*size)).take (n*size)):=by
 have hz:(lo+n)*size≤zs.length:=by rw[h.1];exact Nat.mul_le_mul_right _ hle
 rw[Nat.add_mul] at hz
 refine⟨by rw[Ah4 hle,List.length_take,List.length_drop];omega,fun k hk=>?_⟩
 rw[Ah4 hle] at hk
 rw[A49 hk]
 have:=h.2 (lo+k) (by omega)
 have hk2:k*size+size≤n*size:=by rw[←Nat.succ_mul];exact Nat.mul_le_mul_right _ hk
 rw[List.drop_take,List.take_take,List.drop_drop,←Nat.add_mul,Nat.min_eq_left (by omega)]
 exact this
theorem A3k (o:Objs) (c:TC) (d:U c):Ii (enc c d)=true∧MM o (enc c d)=true:=by cases c<;>exact⟨rfl,rfl⟩
theorem Ar0 {els:Els} (h:Lh o els=true) {k:Nat} (hk:k <els.n):Ii (els.nth k)=true∧MM o (els.nth k)=true:=by
 cases els with
 | lst cs=>
  have hk':k <cs.length:=hk
  have hm:cs[k]∈cs:=List.getElem_mem hk'
  have:=(List.all_eq_true.1 h) _ hm
  have e:(Els.lst cs).nth k=cs[k]:=by
   show GV cs k=_
   rw[CX,List.getD_eq_getElem?_getD,List.getElem?_eq_getElem hk']
   rfl
  rw[e]
  simpa using this
 |ty c l=>exact A3k o c _
theorem RowHL.one {els:Els} {zs:List Value} (hh:HRel F N nx o R) (h:RowHL F N nx R els size zs) (ho:Lh o els=true) (hs:0 <size):∀u∈zs,u.oneCell'=true:=fun u hu=>by
 obtain⟨m,hm,rfl⟩:=List.getElem_of_mem hu
 have hlt:m / size <els.n:=(Nat.div_lt_iff_lt_mul hs).2 (by rw[←h.1];exact hm)
 obtain⟨h1,h2⟩:=Ar0 ho hlt
 refine U7 hh h1 h2 (h.2 (m / size) hlt) _ ?_
 have e:((zs.drop (m / size*size)).take size)[m % size]?=some zs[m]:=by
  rw[List.getElem?_take,if_pos (Nat.mod_lt _ hs),List.getElem?_drop]
  have:m / size*size+m % size=m:=by rw[Nat.mul_comm];exact Nat.div_add_mod m size
  rw[this]
  exact List.getElem?_eq_getElem hm
 exact List.mem_of_getElem? e
end
structure Al4 (R:World) (v:Value) (size n:Nat) (zs:List Value):Prop where
 len:zs.length=n*size
 val:∃A c,v=.slice A n c∧n≤c
 cells:∀A m c,v=.slice A m c→0 <n→∃ad,A=some ad∧∀j u,zs[j]?=some u→R.cell? (ad.add j)=some u
def A8h (o:Objs) (sz:Nat):A→Option (Els×List Prop)
 | .sq j=>match Ak j o with
  |some (.arr _ size els)=>bif Nat.beq size sz then(bif Lh o els then some (els,[]) else none) else none
  |_=>none
 | .vw j z lo n _=>match Ak j o with
  |some (.arr _ size els)=>bif Nat.beq z sz then(bif Nat.beq size sz then(bif Lh o els then some (Xj lo n els,[lo+n≤els.n]) else none) else none) else none
  |_=>none
 | .sl c l=>bif Nat.beq (size c) sz then some (.ty c l,[]) else none
 | .nl=>some (.lst [],[])
 | .v x=>bif C7 x then some (.lst [],[]) else none
 | .vr i base lo m=>match Ak i o with
  |some (.box _ cs)=>bif Nat.beq sz 1&&Nat.ble (base+lo+m) cs.length then(bif Lh o (.lst (((cs.drop (base+lo)).take m).map fun x=>[x])) then some (.lst (((cs.drop (base+lo)).take m).map fun x=>[x]),[]) else none) else none
  |_=>none
 |_=>none
section
variable {F:Nat→Prop} {N:Nm} {nx:Nat} {R:World} {o:Objs}
theorem Anm {e:TypeId} {size n:Nat} {v:Value} {zs:List Value} (h:OwnR R e size v n zs):Al4 R v size n zs:=by
 obtain⟨a,c,h1,h2⟩:=h.form
 refine⟨h.1,⟨a,c,h1,h2⟩,fun A m c' e hn=>?_⟩
 obtain⟨g,c2,q1,_,_,_,q5⟩:=EE h hn
 rw[q1] at e
 cases e
 exact⟨_,rfl,fun j u hu=>by rw[Bv,Nat.zero_add];exact q5 j u hu⟩
theorem A8g {c:TC} {l:List (U c)} {y:Value} (h:Hv F N nx R (.sl c l) y):∃zs,Al4 R y (size c) l.length zs∧RowHL F N nx R (.ty c l) (size c) zs:=by
 obtain⟨a,cap,rfl,h1,h2⟩:=h.sl_inv
 by_cases hn:0 <l.length
 ·obtain⟨ad,rfl,_,h3⟩:=h2 hn
  have cell:∀m,m <l.length*size c→∃y,R.cell? (ad.add m)=some y:=fun m hm=>by
   have hs:0 <size c:=by
    rcases Nat.eq_zero_or_pos (size c) with h0|h0
    ·rw[h0] at hm;simp at hm
    ·exact h0
   have hlt:m / size c <l.length:=(Nat.div_lt_iff_lt_mul hs).2 hm
   have hj:m % size c <(enc c l[m / size c]).length:=by rw[Tk];exact Nat.mod_lt _ hs
   obtain⟨y,hy,_⟩:=h3 _ _ (List.getElem?_eq_getElem hlt) (m % size c) _ (List.getElem?_eq_getElem hj)
   rw[BU] at hy
   have:m / size c*size c+m % size c=m:=by rw[Nat.mul_comm];exact Nat.div_add_mod m (size c)
   rw[this] at hy
   exact⟨y,hy⟩
  let zs:=(List.range (l.length*size c)).map fun m=>(R.cell? (ad.add m)).getD undef
  have hz:∀m u,zs[m]?=some u→R.cell? (ad.add m)=some u:=fun m u hu=>by
   have hm:m <l.length*size c:=by
    have:=(List.getElem?_eq_some_iff.1 hu).1
    simpa[zs] using this
   obtain⟨y,hy⟩:=cell m hm
   have e:zs[m]?=some ((R.cell? (ad.add m)).getD undef):=by simp[zs,hm]
   rw[e,hy] at hu
   rw[hy]
   exact hu
  have hlen:zs.length=l.length*size c:=by simp[zs]
  refine⟨zs,⟨hlen,⟨_,cap,rfl,h1⟩,fun A m c' e _=>?_⟩,hlen,fun k hk=>?_⟩
  ·cases e
   exact⟨ad,rfl,hz⟩
  ·have hk':k <l.length:=hk
   have hd:l[k]?=some (l.getD k (Aj c)):=by rw[List.getD_eq_getElem?_getD,List.getElem?_eq_getElem hk'];rfl
   have hle:k*size c+size c≤zs.length:=by rw[hlen,←Nat.succ_mul];exact Nat.mul_le_mul_right _ hk'
   have hl2:((zs.drop (k*size c)).take (size c)).length=(enc c (l.getD k (Aj c))).length:=by
    rw[Tk,List.length_take,List.length_drop]
    omega
   refine HL.of hl2 fun j x v hx hv=>?_
   obtain⟨y,hy,hyv⟩:=h3 k _ hd j x hx
   have:=hz _ _ (KW hv)
   rw[BU] at hy
   rw[hy] at this
   cases this
   exact hyv
 ·have h0:l=[]:=List.eq_nil_of_length_eq_zero (by omega)
  subst h0
  exact⟨[],⟨by simp,⟨a,cap,rfl,Nat.zero_le _⟩,fun A m c' e hn=>absurd hn (Nat.lt_irrefl _)⟩,by simp[Els.n],fun k hk=>by cases hk⟩
theorem A48 (hh:HRel F N nx o R) {sz:Nat} {x:A} {y:Value} {els:Els} {ps:List Prop} (he:A8h o sz x=some (els,ps)) (hp:∀p∈ps,p) (hx:Hv F N nx R x y) (hs:0 <sz):
  ∃zs,Al4 R y sz els.n zs∧RowHL F N nx R els sz zs∧∀u∈zs,u.oneCell'=true:=by
 unfold A8h at he
 split at he<;>first|(cases he;done)|skip
 ·rename_i j
  split at he<;>first|(cases he;done)|skip
  rename_i e size els' hl
  cases hb:Nat.beq size sz with
  |false=>rw[hb] at he;cases he
  | true=>
   cases ho:Lh o els' with
   |false=>rw[hb,ho] at he;cases he
   |true=>
    rw[hb,ho] at he
    cases he
    obtain rfl:=Nat.eq_of_beq_eq_true hb
    obtain⟨_,zs,g1,g2⟩:=hh.ob j _ hl
    have hr:RowHL F N nx R els size zs:=⟨g1.1,g2⟩
    rw[hx.sq_inv.2]
    exact⟨zs,Anm g1,hr,hr.one hh ho hs⟩
 ·rename_i j z lo n f
  split at he<;>first|(cases he;done)|skip
  rename_i e size els' hl
  cases hb0:Nat.beq z sz with
  |false=>rw[hb0] at he;cases he
  |true=>
  cases hb:Nat.beq size sz with
  |false=>rw[hb0,hb] at he;cases he
  | true=>
   cases ho:Lh o els' with
   |false=>rw[hb0,hb,ho] at he;cases he
   | true=>
    rw[hb0,hb,ho] at he
    cases he
    obtain rfl:=Nat.eq_of_beq_eq_true hb
    obtain rfl:=Nat.eq_of_beq_eq_true hb0
    have hle:lo+n≤els'.n:=hp _ (List.mem_singleton.2 rfl)
    obtain⟨_,zs,g1,g2⟩:=hh.ob j _ hl
    have hr:RowHL F N nx R els' z zs:=⟨g1.1,g2⟩
    have hr2:=hr.sub hle
    refine⟨_,⟨hr2.1,?_,fun A m c e hn=>?_⟩,hr2,fun u hu=>hr.one hh ho hs u (List.mem_of_mem_drop (List.mem_of_mem_take hu))⟩
    ·obtain⟨_,a,c,e1,e2,_⟩:=hx.vw_inv
     rw[Ah4 hle]
     exact⟨a,c,e1,e2⟩
    ·rw[Ah4 hle] at hn
     obtain⟨_,a,c',e1,e2,_,e4⟩:=hx.vw_inv
     rw[e1] at e
     cases e
     refine⟨_,e4 hn,fun i u hu=>?_⟩
     obtain⟨g,c2,q1,_,q3,_,q5⟩:=EE g1 (by omega)
     rw[q3,Bv,Bv,Nat.zero_add]
     rw[List.getElem?_take] at hu
     split at hu<;>first|(cases hu;done)|skip
     rw[List.getElem?_drop] at hu
     exact q5 _ u hu
 ·rename_i c l
  cases hb:Nat.beq (size c) sz with
  |false=>rw[hb] at he;cases he
  |true=>
   rw[hb] at he
   cases he
   obtain rfl:=Nat.eq_of_beq_eq_true hb
   obtain⟨zs,g1,g2⟩:=A8g hx
   exact⟨zs,g1,g2,g2.one hh rfl hs⟩
 ·cases he
  obtain⟨a,rfl⟩:=hx.nl_inv
  exact⟨[],⟨by simp[Els.n],⟨a,0,rfl,Nat.le_refl _⟩,fun A m c e hn=>absurd hn (Nat.lt_irrefl _)⟩,.nil,fun u hu=>by cases hu⟩
 ·rename_i x
  cases hb:C7 x with
  |false=>rw[hb] at he;cases he
  |true=>
   rw[hb] at he
   cases he
   rw[hx.v_inv,Fi hb]
   exact⟨[],⟨by simp[Els.n],⟨none,0,rfl,Nat.le_refl _⟩,fun A m c e hn=>absurd hn (Nat.lt_irrefl _)⟩,.nil,fun u hu=>by cases hu⟩
 ·rename_i i base lo m
  split at he<;>first|(cases he;done)|skip
  rename_i e cs hl
  cases hb:(Nat.beq sz 1&&Nat.ble (base+lo+m) cs.length) with
  |false=>rw[hb] at he;cases he
  | true=>
   cases ho:Lh o (.lst (((cs.drop (base+lo)).take m).map fun x=>[x])) with
   |false=>rw[hb,ho] at he;cases he
   | true=>
    rw[hb,ho] at he
    cases he
    rw[Bool.and_eq_true] at hb
    obtain rfl:=Nat.eq_of_beq_eq_true hb.1
    have hle:=Nat.le_of_ble_eq_true hb.2
    obtain⟨_,vs,g1,g2⟩:=hh.ob i _ hl
    have hlen:=g1.length
    have hsub:=(g1.drop (base+lo)).take m
    have hget:∀j u,((vs.drop (base+lo)).take m)[j]?=some u→vs[base+lo+j]?=some u:=fun j u hj=>by
     rw[List.getElem?_take] at hj
     split at hj
     ·rw[List.getElem?_drop] at hj;exact hj
     ·cases hj
    have hSl:((cs.drop (base+lo)).take m).length=m:=by rw[List.length_take,List.length_drop];omega
    have hul:((vs.drop (base+lo)).take m).length=m:=by rw[List.length_take,List.length_drop];omega
    generalize (cs.drop (base+lo)).take m=S at*
    generalize (vs.drop (base+lo)).take m=us at*
    have hr:RowHL F N nx R (.lst (S.map fun x=>[x])) 1 us:=by
     refine⟨by show us.length=(S.map fun x=>[x]).length*1;rw[List.length_map];omega,fun k hk=>?_⟩
     have hk:k <(S.map fun x=>[x]).length:=hk
     rw[List.length_map] at hk
     have e1:Els.nth (.lst (S.map fun x=>[x])) k=[S[k]]:=by
      show GV (S.map fun x=>[x]) k=_
      rw[CX,List.getD_eq_getElem?_getD,List.getElem?_map,List.getElem?_eq_getElem hk]
      rfl
     have hkv:k <us.length:=by omega
     have e2:(us.drop (k*1)).take 1=[us[k]]:=by
      rw[Nat.mul_one,List.drop_eq_getElem_cons hkv]
      rfl
     rw[e1,e2]
     exact HL.cons (hsub.at.2 k _ _ (List.getElem?_eq_getElem hk) (List.getElem?_eq_getElem hkv)) HL.nil
    cases hx with
    |vr ad h h1=>
     refine⟨us,⟨hr.1,⟨some ad,m,by show Value.slice (some ad) m m=.slice (some ad) (S.map fun x=>[x]).length m;rw[List.length_map,hSl],by show(S.map fun x=>[x]).length≤m;rw[List.length_map];omega⟩,fun A m' c' e hn=>?_⟩,hr,hr.one hh ho hs⟩
     cases e
     have hn:0 <(S.map fun x=>[x]).length:=hn
     rw[List.length_map] at hn
     refine⟨_,rfl,fun j u hj=>?_⟩
     rw[h1 (by omega),Bv,BZ g2,List.getElem?_toArray]
     exact hget j u hj
end
end Go.Proofs.YtifkbgkbajncjaaDoor
namespace Go.Proofs.YtifkbgkbajncjaaDoor
open Go.RowKit
section canon
def HE (P:Program) (K:Value→World→Prop):Result Next→Prop
 | .ok (.value v) w'=>K v w'
 | .ok .skip w'=>K undef w'
 | .ok (.enter f args) w'=>Calls P f args w' fun e w''=>∃v,e=.returned v∧K v w''
 |_=>False
theorem VX {P:Program} {o:Oper} {a:Act} {w:World} {K:Act→World→Prop} {Q:Exit→Act→World→Prop} (h:HE P (fun v w'=>K (a.put o.dst v) w') ((execOp a.eval o).run P w)):o.wp P a w K Q:=by
 unfold Oper.wp
 generalize (execOp a.eval o).run P w=r at*
 cases r with
 |halt x w=>exact h.elim
 |ok n w=>
  cases n<;>simp only[HE] at h<;>simp only[Oper.upon]
  case value u=>exact h
  case skip=>exact h
  case enter f args=>exact h.mono fun e w'' ⟨v,he,hk⟩=>by subst he;exact hk
theorem CU {P:Program} {K K':Value→World→Prop} {r:Result Next} (h:HE P K r) (hk:∀v w,K v w→K' v w):HE P K' r:=by
 cases r with
 |halt x w=>exact h
 | ok n w=>
  cases n<;>first|exact h|(exact hk _ _ h)|skip
  case enter f args=>
   exact Calls.mono (P:=P) h fun e w'' hh=>by
    obtain⟨v,he,hv⟩:=hh
    exact⟨v,he,hk _ _ hv⟩
theorem A2b {P:Program} {o:Oper} {a:Act} {R:World} {v:Value} {K:Act→World→Prop} {Q:Exit→Act→World→Prop} (h:Oper.quietUpon P (fun R'=>Below R.heap.size R R') R v ((execOp a.eval o).run P R))
  (hk:∀R',Below R.heap.size R R'→K (a.put o.dst v) R'):o.wp P a R K Q:=by
 have hr:Below R.heap.size R R:=Below.refl _ _
 unfold Oper.wp
 generalize (execOp a.eval o).run P R=r at*
 cases r with
 |halt x w=>exact h.elim
 | ok n w=>
  cases n<;>simp only[Oper.quietUpon] at h<;>simp only[Oper.upon]
  case value u=>
   obtain⟨e1,e2⟩:=h
   rw[e1,e2]
   exact hk _ hr
  case skip=>
   obtain⟨e1,e2⟩:=h
   rw[e1,←e2]
   exact hk _ hr
  case enter f args=>
   obtain⟨e1,hc⟩:=h
   rw[e1]
   exact hc.mono fun e w'' ⟨he,hw''⟩=>by subst he;exact hk _ hw''
def Arr (seen:List Nat):List Edge→List Nat
 | []=>[]
 |e::r=>bif Region.binds .any e&&!(seen.any (Nat.beq e.on)) then e.on::Arr seen r else Arr seen r
def Adm (ops:Array Oper):Nat→List Nat→List Nat→List Nat
 |0,_,seen=>seen
 |_+1,[],seen=>seen
 |n+1,i::r,seen=>match ops[i]? with
  |some o=>Adm ops n (Arr seen o.after.toList++r) (Arr seen o.after.toList++seen)
  |none=>Adm ops n r seen
def TX (ops:Array Oper) (i j:Nat):Bool:=Region.waitsFor .any ops i j||(Adm ops (ops.size+2) [i] []).any (Nat.beq j)
theorem Ab2 {seen:List Nat} {k:Nat}:∀{l:List Edge},k∈Arr seen l→∃e∈l,Region.binds .any e=true∧e.on=k
 | [],h=>by cases h
 | e::r,h=>by
  unfold Arr at h
  cases hc:(Region.binds .any e&&!(seen.any (Nat.beq e.on))) with
  | true=>
   rw[hc] at h
   rcases List.mem_cons.1 h with rfl|h
   ·exact⟨e,List.mem_cons_self ..,(Bool.and_eq_true_iff.1 hc).1,rfl⟩
   ·obtain⟨e',h1,h2⟩:=Ab2 h
    exact⟨e',List.mem_cons_of_mem _ h1,h2⟩
  |false=>
   rw[hc] at h
   obtain⟨e',h1,h2⟩:=Ab2 h
   exact⟨e',List.mem_cons_of_mem _ h1,h2⟩
theorem MJ {ops:Array Oper} {m:Nat} {listed:Array Bool} (hi:HeadInv .any ops m listed):∀(n:Nat) (fr seen:List Nat),
  (∀k∈fr,∀o,ops[k]?=some o→∀e∈o.after,Region.binds .any e=true→listed.getD e.on false=true)→(∀k∈seen,listed.getD k false=true)→∀k∈Adm ops n fr seen,listed.getD k false=true
 |0,_,_,_,h2,k,hk=>h2 k hk
 |_+1,[],_,_,h2,k,hk=>h2 k hk
 | n+1,i::r,seen,h1,h2,k,hk=>by
  unfold Adm at hk
  cases ho:ops[i]? with
  |none=>
   rw[ho] at hk
   exact MJ hi n r seen (fun k hk=>h1 k (List.mem_cons_of_mem _ hk)) h2 k hk
  | some o=>
   rw[ho] at hk
   have hnew:∀k∈Arr seen o.after.toList,listed.getD k false=true:=fun k hk=>by
    obtain⟨e,he,hb,rfl⟩:=Ab2 hk
    exact h1 i (List.mem_cons_self ..) o ho e (Array.mem_toList_iff.1 he) hb
   refine MJ hi n _ _ (fun k hk o' ho' e he hb=>?_) (fun k hk=>?_) k hk
   ·rcases List.mem_append.1 hk with hk|hk
    ·exact hi.closed k o' ho' (hnew k hk) e he hb
    ·exact h1 k (List.mem_cons_of_mem _ hk) o' ho' e he hb
   ·rcases List.mem_append.1 hk with hk|hk
    ·exact hnew k hk
    ·exact h2 k hk
theorem SW {ops:Array Oper} {m:Nat} {listed:Array Bool} (hi:HeadInv .any ops m listed) {i j:Nat} {o:Oper} (h:TX ops i j=true) (ho:ops[i]?=some o) (hall:∀e∈o.after,Region.binds .any e=true→listed.getD e.on false=true):listed.getD j false=true:=by
 rcases Bool.or_eq_true_iff.1 h with h1|h1
 ·exact Hp h1 ho hall
 ·obtain⟨k,hk,hb⟩:=List.any_eq_true.1 h1
  rw[Nat.eq_of_beq_eq_true hb]
  refine MJ hi _ [i] [] (fun k hk o' ho'=>?_) (fun k hk=>by cases hk) k hk
  obtain rfl:=List.mem_singleton.1 hk
  obtain rfl:=Option.some.inj (ho.symm.trans ho')
  exact hall
structure Af3 (ops:Array Oper) (n:Nat) (ix:Nat→Nat) (M E:Nat→Bool):Prop where
 back:Amd ops=true
 nosel:Region.noSelect ops=true
 lt:∀k,k <n→ix k <ops.size
 inj:∀j k,j <k→k <n→ix j≠ix k
 sur:∀i,i <ops.size→∃k,k <n∧ix k=i
 dst:∀j k o o' d,j <k→k <n→ops[ix j]?=some o→ops[ix k]?=some o'→o.dst=some d→o'.dst≠some d
 ord:∀j k o o' d,j <k→k <n→ops[ix j]?=some o→ops[ix k]?=some o'→(o.dst=some d∧d∈o'.looksAt ops∨o'.dst=some d∧d∈o.looksAt ops)→Region.waitsFor .any ops (ix k) (ix j)=true
 mop:∀j k,j <k→k <n→M j=true→E k=false→TX ops (ix k) (ix j)=true
 em:∀k,k <n→E k=true→M k=true
variable {P:Program} {ops:Array Oper} {n:Nat} {ix:Nat→Nat} {M E:Nat→Bool} {a0:Act}
def canA (ops:Array Oper) (ix:Nat→Nat) (a0:Act) (V:Nat→Value):Nat→Act
 |0=>a0
 |k+1=>(canA ops ix a0 V k).put ((ops[ix k]?).bind (·.dst)) (V k)
theorem KZ {V V':Nat→Value}:∀{k},(∀j,j <k→V' j=V j)→canA ops ix a0 V' k=canA ops ix a0 V k
 |0,_=>rfl
 |k+1,h=>by
  unfold canA
  rw[KZ fun j hj=>h j (by omega),h k (by omega)]
theorem KT {V:Nat→Value}:∀k,(canA ops ix a0 V k).tmps.size=a0.tmps.size
 |0=>rfl
 |k+1=>by unfold canA;rw[QT,KT k]
theorem Xz {V:Nat→Value}:∀k,(canA ops ix a0 V k).defers=a0.defers
 |0=>rfl
 |k+1=>by unfold canA;rw[Me,Xz k]
theorem V4 {V:Nat→Value} {x:Tmp} {j:Nat}:∀m,(∀i,i <m→∀o,ops[ix (j+i)]?=some o→o.dst≠some x)→(canA ops ix a0 V (j+m)).tmps.getD x undef=(canA ops ix a0 V j).tmps.getD x undef
 |0,_=>rfl
 | m+1,h=>by
  rw[←V4 m fun i hi=>h i (by omega)]
  show((canA ops ix a0 V (j+m)).put ((ops[ix (j+m)]?).bind (·.dst)) (V (j+m))).tmps.getD x undef=_
  cases ho:ops[ix (j+m)]? with
  |none=>rfl
  | some o=>
   have hd:=h m (by omega) o ho
   cases hdd:o.dst with
   |none=>simp[Act.put,hdd]
   |some d=>
    simp only[Option.bind_some,hdd]
    rw[EZ,if_neg]
    rintro⟨rfl,_⟩
    exact hd hdd
def NoWr (ops:Array Oper) (ix:Nat→Nat) (p k:Nat) (o:Oper):Prop:=∀j,p≤j→j <k→∀o' d,ops[ix j]?=some o'→o'.dst=some d→d∉o.looksAt ops
theorem NoWr.canA {V:Nat→Value} {p k:Nat} {o:Oper} (h:NoWr ops ix p k o) (hp:p≤k):∀t∈o.looksAt ops,(canA ops ix a0 V k).tmps.getD t undef=(canA ops ix a0 V p).tmps.getD t undef:=fun t ht=>by
 obtain⟨m,rfl⟩:=Nat.exists_eq_add_of_le hp
 exact V4 m fun i hi o' ho' hd=>h (p+i) (by omega) (by omega) o' t ho' hd ht
theorem Aaf (ok:Af3 ops n ix M E) {V:Nat→Value} {t:Nat}:∀k,k≤n→
  (∀j o,j <k→ops[ix j]?=some o→o.dst=some t→t <a0.tmps.size→(canA ops ix a0 V k).tmps.getD t undef=V j)∧
  ((∀j o,j <k→ops[ix j]?=some o→o.dst≠some t)→(canA ops ix a0 V k).tmps.getD t undef=a0.tmps.getD t undef)
 |0,_=>⟨fun j _ hj=>by omega,fun _=>rfl⟩
 | k +1,hk=>by
  obtain⟨h1,h2⟩:=Aaf ok (V:=V) (t:=t) k (by omega)
  obtain⟨ok',hok'⟩:∃o,ops[ix k]?=some o:=⟨_,Array.getElem?_eq_getElem (ok.lt k (by omega))⟩
  have hstep:canA ops ix a0 V (k+1)=(canA ops ix a0 V k).put ok'.dst (V k):=by
   show(canA ops ix a0 V k).put ((ops[ix k]?).bind (·.dst)) (V k)=_
   rw[hok'];rfl
  rw[hstep]
  refine⟨fun j o hj ho hd hlt=>?_,fun hno=>?_⟩
  ·by_cases hjk:j=k
   ·subst hjk
    have:o=ok':=Option.some.inj (ho.symm.trans hok')
    subst this
    rw[hd,EZ,if_pos ⟨rfl,by rw[KT];exact hlt⟩]
   ·have hne:=ok.dst j k o ok' t (by omega) (by omega) ho hok' hd
    rw[←h1 j o (by omega) ho hd hlt]
    cases hdk:ok'.dst with
    |none=>rfl
    |some d=>
     rw[EZ,if_neg]
     rintro⟨rfl,_⟩
     exact hne hdk
  ·rw[←h2 fun j o hj ho=>hno j o (by omega) ho]
   have hne:=hno k ok' (by omega) hok'
   cases hdk:ok'.dst with
   |none=>rfl
   |some d=>
    rw[EZ,if_neg]
    rintro⟨rfl,_⟩
    exact hne hdk
def Pend (P:Program) (ops:Array Oper) (ix:Nat→Nat) (a0:Act) (V:Nat→Value) (w:World) (k:Nat):Prop:=∀o,ops[ix k]?=some o→
 (Region.wanted o (yielded ops (canA ops ix a0 V k).tmps)=true∧∀w',Below w.heap.size w w'→Oper.quietUpon P (fun w''=>Below w'.heap.size w' w'') w' (V k) ((execOp (canA ops ix a0 V k).eval o).run P w'))∨
 (Region.wanted o (yielded ops (canA ops ix a0 V k).tmps)=false∧V k=undef)
theorem Pend.grow {V:Nat→Value} {w w1:World} {k:Nat} (h:Pend P ops ix a0 V w k) (hb:Below w.heap.size w w1):Pend P ops ix a0 V w1 k:=fun o ho=>by
 rcases h o ho with⟨h1,h2⟩|h1
 ·exact .inl ⟨h1,fun w' hw'=>h2 w' (hb.trans (hw'.mono hb.size))⟩
 ·exact .inr h1
theorem Pend.congr {V V':Nat→Value} {w:World} {k:Nat} (h:Pend P ops ix a0 V w k) (he:∀j,j≤k→V' j=V j):Pend P ops ix a0 V' w k:=by
 unfold Pend
 rw[KZ fun j hj=>he j (by omega),he k (Nat.le_refl _)]
 exact h
abbrev Aside:=Nat→Option Value
def Aside.set (X:Aside) (k:Nat) (v:Value):Aside:=fun j=>if j=k then some v else X j
variable {S:Nat→Aside→Act→World→Prop}
variable (hq:∀k X A w,k <n→M k=false→S k X A w→∀o,ops[ix k]?=some o→∃v,S (k+1) X (A.put o.dst v) w∧
  ((Region.wanted o (yielded ops A.tmps)=true∧∀w',Below w.heap.size w w'→Oper.quietUpon P (fun w''=>Below w'.heap.size w' w'') w' v ((execOp A.eval o).run P w'))∨(Region.wanted o (yielded ops A.tmps)=false∧v=undef)))
 (hu:∀k X A w v,k <n→E k=true→X k=some v→S k X A w→∀o,ops[ix k]?=some o→S (k+1) X (A.put o.dst v) w)
include hq hu
theorem Ue (ok:Af3 ops n ix M E) {w:World} {X:Aside} (L:Nat→Bool):∀(m p:Nat) (V:Nat→Value),n - p=m→p≤n→(∀k,p≤k→k <n→L k=true→E k=true∧X k=some (V k))→S p X (canA ops ix a0 V p) w→
  ∃p' V',p≤p'∧p'≤n∧(∀j,j <p→V' j=V j)∧(∀j,j <n→L j=true→V' j=V j)∧S p' X (canA ops ix a0 V' p') w∧(p'=n∨(p' <n∧M p'=true∧L p'=false))∧∀k,p≤k→k <p'→L k=false→Pend P ops ix a0 V' w k
 |0,p,V,hm,hp,_,hS=>⟨p,V,Nat.le_refl _,hp,fun _ _=>rfl,fun _ _ _=>rfl,hS,.inl (by omega),fun k h1 h2=>by omega⟩
 | m +1,p,V,hm,hp,hL,hS=>by
  have hpn:p <n:=by omega
  obtain⟨o,ho⟩:∃o,ops[ix p]?=some o:=⟨_,Array.getElem?_eq_getElem (ok.lt p hpn)⟩
  cases hl:L p with
  | true=>
   obtain⟨hE,hX⟩:=hL p (Nat.le_refl _) hpn hl
   have hS':=hu p X _ w _ hpn hE hX hS o ho
   have e4:canA ops ix a0 V (p+1)=(canA ops ix a0 V p).put o.dst (V p):=by
    show(canA ops ix a0 V p).put ((ops[ix p]?).bind (·.dst)) (V p)=_
    rw[ho];rfl
   obtain⟨p',V',h1,h2,h3,h3',h4,h5,h6⟩:=Ue ok L m (p+1) V (by omega) (by omega) (fun k hk=>hL k (by omega)) (by rw[e4];exact hS')
   refine⟨p',V',by omega,h2,fun j hj=>h3 j (by omega),h3',h4,h5,fun k hk1 hk2 hk3=>?_⟩
   by_cases hkp:k=p
   ·subst hkp;rw[hl] at hk3;cases hk3
   ·exact h6 k (by omega) hk2 hk3
  |false=>
  cases hM:M p with
  |true=>exact⟨p,V,Nat.le_refl _,hp,fun _ _=>rfl,fun _ _ _=>rfl,hS,.inr ⟨hpn,hM,hl⟩,fun k h1 h2=>by omega⟩
  | false=>
   obtain⟨v,hS',hv⟩:=hq p X _ w hpn hM hS o ho
   let V1:Nat→Value:=fun j=>if j=p then v else V j
   have e1:∀j,j≠p→V1 j=V j:=fun j hj=>if_neg hj
   have e2:V1 p=v:=if_pos rfl
   have e3:canA ops ix a0 V1 p=canA ops ix a0 V p:=KZ fun j hj=>e1 j (by omega)
   have e4:canA ops ix a0 V1 (p+1)=(canA ops ix a0 V p).put o.dst v:=by
    show(canA ops ix a0 V1 p).put ((ops[ix p]?).bind (·.dst)) (V1 p)=_
    rw[e3,e2,ho];rfl
   obtain⟨p',V',h1,h2,h3,h3',h4,h5,h6⟩:=Ue ok L m (p+1) V1 (by omega) (by omega) (fun k hk hkn hkl=>by rw[e1 k (by omega)];exact hL k (by omega) hkn hkl) (by rw[e4];exact hS')
   refine⟨p',V',by omega,h2,fun j hj=>(h3 j (by omega)).trans (e1 j (by omega)),fun j hj hjl=>(h3' j hj hjl).trans (e1 j fun e=>by rw[e,hl] at hjl;cases hjl),h4,h5,fun k hk1 hk2 hk3=>?_⟩
   by_cases hkp:k=p
   ·subst hkp
    have hpd:Pend P ops ix a0 V1 w k:=fun o' ho'=>by
     have:o'=o:=Option.some.inj (ho'.symm.trans ho)
     subst this
     rw[e3,e2]
     exact hv
    exact hpd.congr fun j hj=>h3 j (by omega)
   ·exact h6 k (by omega) hk2 hk3
omit hq hu
structure CInv (P:Program) (ops:Array Oper) (n:Nat) (ix:Nat→Nat) (M E:Nat→Bool) (S:Nat→Aside→Act→World→Prop) (a0:Act) (listed:Array Bool) (a:Act) (w:World) (p:Nat) (V:Nat→Value) (X:Aside):Prop where
 inv:HeadInv .any ops ops.size listed
 le:p≤n
 st:S p X (canA ops ix a0 V p) w
 next:p=n∨(p <n∧M p=true∧listed.getD (ix p) false=false)
 pend:∀k,k <p→listed.getD (ix k) false=false→Pend P ops ix a0 V w k
 rest:∀k,p≤k→k <n→listed.getD (ix k) false=true→E k=true∧X k=some (V k)
 defers:a.defers=a0.defers
 size:a.tmps.size=a0.tmps.size
 s1:∀k o d,k <n→ops[ix k]?=some o→o.dst=some d→d <a0.tmps.size→listed.getD (ix k) false=true→a.tmps.getD d undef=V k
 s2:∀d,(∀k o,k <n→ops[ix k]?=some o→listed.getD (ix k) false=true→o.dst≠some d)→a.tmps.getD d undef=a0.tmps.getD d undef
variable {listed:Array Bool} {a:Act} {w:World} {p:Nat} {V:Nat→Value} {X:Aside}
theorem CInv.slot (ok:Af3 ops n ix M E) (h:CInv P ops n ix M E S a0 listed a w p V X) {k:Nat} {o:Oper} (hk:k <n) (ho:ops[ix k]?=some o) (hun:listed.getD (ix k) false=false)
  (hall:∀e∈o.after,Region.binds .any e=true→listed.getD e.on false=true) {t:Nat} (ht:t∈o.looksAt ops):a.tmps.getD t undef=(canA ops ix a0 V k).tmps.getD t undef:=by
 obtain⟨l1,l2⟩:=Aaf ok (V:=V) (a0:=a0) (t:=t) k (by omega)
 by_cases hw:∃j o',j <n∧ops[ix j]?=some o'∧o'.dst=some t
 ·obtain⟨j,o',hj,ho',hd⟩:=hw
  have huniq:∀j' o'',j' <n→ops[ix j']?=some o''→o''.dst=some t→j'=j:=by
   intro j' o'' hj' ho'' hd''
   rcases Nat.lt_trichotomy j' j with hlt|heq|hgt
   ·exact absurd hd (ok.dst j' j o'' o' t hlt hj ho'' ho' hd'')
   ·exact heq
   ·exact absurd hd'' (ok.dst j j' o' o'' t hgt hj' ho' ho'' hd)
  rcases Nat.lt_or_ge j k with hlt|hge
  ·have hl:=Hp (ok.ord j k o' o t hlt hk ho' ho (.inl ⟨hd,ht⟩)) ho hall
   by_cases hts:t <a0.tmps.size
   ·rw[h.s1 j o' t hj ho' hd hts hl,l1 j o' hlt ho' hd hts]
   ·have e1:a.tmps.getD t undef=undef:=by
     rw[Array.getD_eq_getD_getElem?,Array.getElem?_eq_none (by rw[h.size];exact Nat.le_of_not_lt hts)];rfl
    have e2:(canA ops ix a0 V k).tmps.getD t undef=undef:=by
     rw[Array.getD_eq_getD_getElem?,Array.getElem?_eq_none (by rw[KT];exact Nat.le_of_not_lt hts)];rfl
    rw[e1,e2]
  ·have hjl:listed.getD (ix j) false=false:=by
    by_cases hjk:j=k
    ·subst hjk;exact hun
    ·cases hjl:listed.getD (ix j) false with
     |false=>rfl
     |true=>
      have hwt:=ok.ord k j o o' t (by omega) hj ho ho' (.inr ⟨hd,ht⟩)
      have:=Hp hwt ho' (h.inv.closed (ix j) o' ho' hjl)
      rw[hun] at this
      cases this
   rw[h.s2 t fun j' o'' hj' ho'' hl' hd'=>by
    obtain rfl:=huniq j' o'' hj' ho'' hd'
    rw[hjl] at hl'
    cases hl']
   rw[l2 fun j' o'' hj' ho'' hd'=>by
    have:=huniq j' o'' (by omega) ho'' hd'
    omega]
 ·rw[h.s2 t fun j o' hj ho' _ hd=>hw ⟨j,o',hj,ho',hd⟩]
  rw[l2 fun j o' hj ho' hd=>hw ⟨j,o',by omega,ho',hd⟩]
theorem CInv.put (ok:Af3 ops n ix M E) (h:CInv P ops n ix M E S a0 listed a w p V X) {k:Nat} {o:Oper} (hk:k <n) (ho:ops[ix k]?=some o) (hr:ix k∈Region.ready .any ops listed) {v:Value} {w':World} {p':Nat} {V':Nat→Value} {X':Aside}
  (hle:p'≤n) (hst:S p' X' (canA ops ix a0 V' p') w') (hV:∀j,j <n→j≠k→listed.getD (ix j) false=true→V' j=V j) (hv:V' k=v)
  (hnext:p'=n∨(p' <n∧M p'=true∧p'≠k∧listed.getD (ix p') false=false)) (hpend:∀j,j <p'→j≠k→listed.getD (ix j) false=false→Pend P ops ix a0 V' w' j)
  (hrest:∀j,p'≤j→j <n→j=k∨listed.getD (ix j) false=true→E j=true∧X' j=some (V' j)):
  CInv P ops n ix M E S a0 (listed.setIfInBounds (ix k) true) (a.put o.dst v) w' p' V' X':=by
 have hin:ix k <listed.size:=Lc (mem_ready.1 hr).1
 have hix:∀j,j <n→ix j=ix k→j=k:=fun j hj e=>by
  rcases Nat.lt_trichotomy j k with hlt|heq|hgt
  ·exact absurd e (ok.inj j k hlt hk)
  ·exact heq
  ·exact absurd e.symm (ok.inj k j hgt hj)
 refine⟨h.inv.set hr (ok.lt k hk),hle,hst,?_,?_,fun j h1 h2 hl=>?_,by rw[Me,h.defers],by rw[QT,h.size],?_,?_⟩
 ·rcases hnext with hn|⟨h1,h2,h3,h4⟩
  ·exact .inl hn
  ·exact .inr ⟨h1,h2,by rw[getD_set_ne false (fun e=>h3 (hix p' h1 e.symm))];exact h4⟩
 ·intro j hj hl
  have hjk:j≠k:=fun e=>by
   subst e
   rw[(Fb hin).2 (.inl rfl)] at hl
   cases hl
  refine hpend j hj hjk ?_
  cases hjl:listed.getD (ix j) false with
  |false=>rfl
  |true=>rw[(Fb hin).2 (.inr hjl)] at hl;cases hl
 ·rcases(Fb hin).1 hl with e|e
  ·exact hrest j h1 h2 (.inl (hix j h2 e))
  ·exact hrest j h1 h2 (.inr e)
 ·intro j oj d hj hoj hd hlt hl
  by_cases hjk:j=k
  ·subst hjk
   have:oj=o:=Option.some.inj (hoj.symm.trans ho)
   subst this
   rw[hd,EZ,if_pos ⟨rfl,by rw[h.size];exact hlt⟩,hv]
  ·have hl':=((Fb hin).1 hl).resolve_left fun e=>hjk (hix j hj e)
   have hne:o.dst≠some d:=by
    rcases Nat.lt_or_ge j k with hlt'|hge
    ·exact ok.dst j k oj o d hlt' hk hoj ho hd
    ·intro hdi
     exact ok.dst k j o oj d (by omega) hj ho hoj hdi hd
   have hx:(a.put o.dst v).tmps.getD d undef=a.tmps.getD d undef:=by
    cases hdi:o.dst with
    |none=>rfl
    |some e=>
     rw[EZ,if_neg]
     rintro⟨rfl,_⟩
     exact hne hdi
   rw[hx,h.s1 j oj d hj hoj hd hlt hl',hV j hj hjk hl']
 ·intro d hno
  have hne:o.dst≠some d:=hno k o hk ho ((Fb hin).2 (.inl rfl))
  have hx:(a.put o.dst v).tmps.getD d undef=a.tmps.getD d undef:=by
   cases hdi:o.dst with
   |none=>rfl
   |some e=>
    rw[EZ,if_neg]
    rintro⟨rfl,_⟩
    exact hne hdi
  rw[hx]
  exact h.s2 d fun j oj hj hoj hl=>hno j oj hj hoj ((Fb hin).2 (.inr hl))
theorem A2t {a b:Act} (hd:a.defers=b.defers) (hz:a.tmps.size=b.tmps.size) (ht:∀t,a.tmps.getD t undef=b.tmps.getD t undef):a=b:=by
 have:a.tmps=b.tmps:=by
  apply Array.ext hz
  intro i h1 h2
  have:=ht i
  simp only[Array.getD_eq_getD_getElem?,Array.getElem?_eq_getElem h1,Array.getElem?_eq_getElem h2,Option.getD_some] at this
  exact this
 cases a;cases b
 simp only at this hd
 subst this hd
 rfl
theorem A2a {id:Nat} {a:Act} {w:World} {Q:Exit→Act→World→Prop} (hm:P.follows .mixedOrders=true) (ok:Af3 ops n ix M E)
  (hq:∀k X A w,k <n→M k=false→S k X A w→∀o,ops[ix k]?=some o→∃v,S (k+1) X (A.put o.dst v) w∧
   ((Region.wanted o (yielded ops A.tmps)=true∧∀w',Below w.heap.size w w'→Oper.quietUpon P (fun w''=>Below w'.heap.size w' w'') w' v ((execOp A.eval o).run P w'))∨(Region.wanted o (yielded ops A.tmps)=false∧v=undef)))
  (hu:∀k X A w v,k <n→E k=true→X k=some v→S k X A w→∀o,ops[ix k]?=some o→S (k+1) X (A.put o.dst v) w)
  (heop:∀j k o o' d,j <k→k <n→E j=true→E k=true→ops[ix j]?=some o→ops[ix k]?=some o'→o.dst=some d→d∉o'.looksAt ops)
  (he:∀p k X A w,p≤k→k <n→E k=true→S p X A w→∀o,ops[ix k]?=some o→NoWr ops ix p k o→∀A':Act,(∀t∈o.looksAt ops,A'.tmps.getD t undef=A.tmps.getD t undef)→Region.wanted o (yielded ops A'.tmps)=true∧HE P (fun v w'=>Below w.heap.size w w'∧S p (X.set k v) A w') ((execOp A'.eval o).run P w))
  (hmop:∀k X A w,k <n→M k=true→E k=false→S k X A w→∀o,ops[ix k]?=some o→(Region.wanted o (yielded ops A.tmps)=true∧HE P (fun v w'=>(Below w.heap.size w w'∨∀j,j <k→TX ops (ix k) (ix j)=true∨∀V,canA ops ix a V k=A→Pend P ops ix a V w j→Pend P ops ix a V w' j)∧S (k+1) X (A.put o.dst v) w') ((execOp A.eval o).run P w))∨
   (Region.wanted o (yielded ops A.tmps)=false∧S (k+1) X (A.put o.dst undef) w))
  (hg:∀k X A w w',S k X A w→Below w.heap.size w w'→S k X A w')
  (h0:S 0 (fun _=>none) a w) (hF:∀X A w',S n X A w'→Q .normal A w'):(Code.region id ops true).wp P Q a w:=by
 have hsel:=Region.noSelect_spec ok.nosel
 refine Af1 (Inv:=fun listed a' w'=>∃p V X,CInv P ops n ix M E S a listed a' w' p V X) hm ?_ ?_ ?_
 ·have h0':S 0 (fun _=>none) (canA ops ix a (fun _=>undef) 0) {w with drawn:=w.drawn+1}:=hg _ _ _ _ _ h0 ⟨rfl,rfl,rfl,Nat.le_refl _,fun _ _=>rfl⟩
  obtain⟨p,V,_,h2,_,_,h4,h5,h6⟩:=Ue hq hu ok (fun _=>false) n 0 (fun _=>undef) rfl (Nat.zero_le _) (fun k _ _ hl=>by cases hl) h0'
  refine⟨p,V,_,⟨⟨by simp,fun j oj _ hl=>(by rw[getD_replicate_false] at hl;cases hl),fun t _ ht=>getD_in (by simpa using ht) (getD_replicate_false _ _)⟩,h2,h4,?_,fun k hk _=>h6 k (Nat.zero_le _) hk rfl,fun k _ _ hl=>(by rw[getD_replicate_false] at hl;cases hl),rfl,rfl,?_,fun _ _=>rfl⟩⟩
  ·rcases h5 with h|⟨h,h',_⟩
   ·exact .inl h
   ·exact .inr ⟨h,h',getD_replicate_false _ _⟩
  ·intro k o d _ _ _ _ hl
   rw[getD_replicate_false] at hl
   cases hl
 ·intro listed a' w' i hz hinv hr
  obtain⟨p,V,X,h⟩:=hinv
  obtain⟨hun,o,ho,hall⟩:=mem_ready.1 hr
  have hi:i <ops.size:=(Array.getElem?_eq_some_iff.1 ho).1
  obtain⟨k,hk,rfl⟩:=ok.sur i hi
  have hunk:=getD_both hun
  have hslots:∀t∈o.looksAt ops,a'.tmps.getD t undef=(canA ops ix a V k).tmps.getD t undef:=fun t ht=>h.slot ok hk ho hunk hall ht
  have hex:execOp a'.eval o=execOp (canA ops ix a V k).eval o:=Ot o (fun cs b=>hsel (ix k) o cs b ho) hslots
  have hwn:=Ak4 (ops:=ops) o (by rw[h.size,KT]:a'.tmps.size=(canA ops ix a V k).tmps.size) hslots
  unfold wpOp
  simp only[ho]
  -- what is left when the next one comes up
  have onward:∀v X' w'',(∀j,j <n→X' j=X j∨j=k)→k=p→((∀j,j <k→listed.getD (ix j) false=false→∀V1,canA ops ix a V1 k=canA ops ix a V k→Pend P ops ix a V1 w' j→Pend P ops ix a V1 w'' j))→S (k+1) X' ((canA ops ix a V k).put o.dst v) w''→∃p' V' X',CInv P ops n ix M E S a (listed.setIfInBounds (ix k) true) (a'.put o.dst v) w'' p' V' X':=fun v X' w'' hX' hkp hb hS=>by
   let V1:Nat→Value:=fun j=>if j=k then v else V j
   have e1:∀j,j≠k→V1 j=V j:=fun j hj=>if_neg hj
   have e2:V1 k=v:=if_pos rfl
   have e3:canA ops ix a V1 k=canA ops ix a V k:=KZ fun j hj=>e1 j (by omega)
   have e4:canA ops ix a V1 (k+1)=(canA ops ix a V k).put o.dst v:=by
    show(canA ops ix a V1 k).put ((ops[ix k]?).bind (·.dst)) (V1 k)=_
    rw[e3,e2,ho];rfl
   have hL:∀j,k+1≤j→j <n→listed.getD (ix j) false=true→E j=true∧X' j=some (V1 j):=fun j h1 h2 h3=>by
    obtain⟨q1,q2⟩:=h.rest j (by omega) h2 h3
    rcases hX' j h2 with q|q
    ·exact⟨q1,by rw[q,e1 j (by omega)];exact q2⟩
    ·omega
   obtain⟨p',V',g1,g2,g3,g3',g4,g5,g6⟩:=Ue hq hu ok (fun j=>listed.getD (ix j) false) (n - (k+1)) (k+1) V1 rfl (by omega) hL (by rw[e4];exact hS)
   refine⟨p',V',X',h.put ok hk ho hr g2 g4 (fun j hj hne hl=>(g3' j hj hl).trans (e1 j hne)) ((g3 k (by omega)).trans e2) ?_ (fun j hj hne hl=>?_) (fun j h1 h2 h3=>?_)⟩
   ·rcases g5 with h1|⟨h1,h2,h3⟩
    ·exact .inl h1
    ·exact .inr ⟨h1,h2,by omega,h3⟩
   ·rcases Nat.lt_or_ge j k with hlt|hge
    ·exact(hb j hlt hl V rfl (h.pend j (by omega) hl)).congr fun j' hj'=>(g3 j' (by omega)).trans (e1 j' (by omega))
    ·exact g6 j (by omega) hj hl
   ·rcases h3 with h3|h3
    ·omega
    ·obtain⟨q1,q2⟩:=hL j (by omega) h2 h3
     exact⟨q1,by rw[g3' j h2 h3];exact q2⟩
  rcases Nat.lt_trichotomy k p with hlt|heq|hgt
  ·have hdone:∀w'',Below w'.heap.size w' w''→∃p' V' X',CInv P ops n ix M E S a (listed.setIfInBounds (ix k) true) (a'.put o.dst (V k)) w'' p' V' X':=fun w'' hb=>
    ⟨p,V,X,h.put ok hk ho hr h.le (hg _ _ _ _ _ h.st hb) (fun _ _ _ _=>rfl) rfl (by
     rcases h.next with h1|⟨h1,h2,h3⟩
     ·exact .inl h1
     ·exact .inr ⟨h1,h2,by omega,h3⟩) (fun j hj hne hl=>(h.pend j hj hl).grow hb) fun j h1 h2 h3=>h.rest j h1 h2 (h3.resolve_left (by omega))⟩
   rcases h.pend k hlt hunk o ho with⟨h1,h2⟩|⟨h1,h2⟩
   ·rw[if_pos (hwn.trans h1)]
    left
    refine A2b (v:=V k) ?_ hdone
    rw[hex]
    exact h2 w' (Below.refl _ _)
   ·rw[if_neg (by rw[hwn,h1];exact Bool.false_ne_true)]
    have:=hdone w' (Below.refl _ _)
    rw[h2] at this
    exact this
  ·subst heq
   have hMk:M k=true:=by
    rcases h.next with h1|⟨_,h2,_⟩
    ·omega
    ·exact h2
   cases hEk:E k with
   | false=>
    have main:∀v w'',(Below w'.heap.size w' w''∨∀j,j <k→TX ops (ix k) (ix j)=true∨∀V1,canA ops ix a V1 k=canA ops ix a V k→Pend P ops ix a V1 w' j→Pend P ops ix a V1 w'' j)→S (k+1) X ((canA ops ix a V k).put o.dst v) w''→∃p' V' X',CInv P ops n ix M E S a (listed.setIfInBounds (ix k) true) (a'.put o.dst v) w'' p' V' X':=fun v w'' hb hS=>
     onward v X w'' (fun _ _=> .inl rfl) rfl (fun j hj hl V1 hV1 hpd=>by
      rcases hb with hb|hb
      ·exact hpd.grow hb
      ·rcases hb j hj with hb|hb
       ·have:=SW h.inv hb ho hall
        rw[hl] at this
        cases this
       ·exact hb V1 hV1 hpd) hS
    rcases hmop k X _ w' hk hMk hEk h.st o ho with⟨h1,h2⟩|⟨h1,h2⟩
    ·rw[if_pos (hwn.trans h1)]
     left
     refine VX ?_
     rw[hex]
     exact CU h2 fun v w'' ⟨hb,hS⟩=>main v w'' hb hS
    ·rw[if_neg (by rw[hwn,h1];exact Bool.false_ne_true)]
     exact main undef w' (.inl (Below.refl _ _)) h2
   |true=>
    obtain⟨h1,h2⟩:=he k k X _ w' (Nat.le_refl _) hk hEk h.st o ho (fun j q1 q2=>absurd q2 (by omega)) a' hslots
    rw[if_pos h1]
    left
    refine VX (CU h2 fun v w'' ⟨hb,hS⟩=>onward v (X.set k v) w'' (fun j _=>?_) rfl (fun j _ _ V1 _ hpd=>hpd.grow hb) (hu k (X.set k v) _ w'' v hk hEk (if_pos rfl) hS o ho))
    by_cases e:j=k
    ·exact .inr e
    ·exact .inl (if_neg e)
  ·have hnext:p <n∧M p=true∧listed.getD (ix p) false=false:=by
    rcases h.next with h1|h1
    ·omega
    ·exact h1
   cases hEk:E k with
   |false=>
    exfalso
    have:=SW h.inv (ok.mop p k hgt hk hnext.2.1 hEk) ho hall
    rw[hnext.2.2] at this
    cases this
   | true=>
    have hnw:NoWr ops ix p k o:=fun j q1 q2 o' d ho' hd hm=>by
     have hl:=Hp (ok.ord j k o' o d q2 hk ho' ho (.inl ⟨hd,hm⟩)) ho hall
     exact heop j k o' o d q2 hk (h.rest j q1 (by omega) hl).1 hEk ho' ho hd hm
    obtain⟨h1,h2⟩:=he p k X _ w' (Nat.le_of_lt hgt) hk hEk h.st o ho hnw a' (fun t ht=>(hslots t ht).trans (hnw.canA (Nat.le_of_lt hgt) t ht))
    rw[if_pos h1]
    left
    refine VX (CU h2 fun v w'' ⟨hb,hS⟩=>?_)
    let V1:Nat→Value:=fun j=>if j=k then v else V j
    have e1:∀j,j≠k→V1 j=V j:=fun j hj=>if_neg hj
    have e2:V1 k=v:=if_pos rfl
    have e3:canA ops ix a V1 p=canA ops ix a V p:=KZ fun j hj=>e1 j (by omega)
    refine⟨p,V1,X.set k v,h.put ok hk ho hr h.le (by rw[e3];exact hS) (fun j _ hne _=>e1 j hne) e2 (.inr ⟨hnext.1,hnext.2.1,by omega,hnext.2.2⟩) (fun j hj hne hl=>((h.pend j hj hl).grow hb).congr fun j' hj'=>e1 j' (by omega)) fun j h1 h2 h3=>?_⟩
    by_cases e:j=k
    ·subst e
     exact⟨hEk,by rw[e2];exact if_pos rfl⟩
    ·obtain⟨q1,q2⟩:=h.rest j h1 h2 (h3.resolve_left e)
     exact⟨q1,by rw[e1 j e];exact(if_neg e).trans q2⟩
 ·intro listed a' w' hz hinv hr
  obtain⟨p,V,X,h⟩:=hinv
  have hall:=Ap7 ok.back hz hr
  have hpn:p=n:=by
   rcases h.next with h1|⟨h1,h2,h3⟩
   ·exact h1
   ·rw[hall (ix p) (ok.lt p h1)] at h3;cases h3
  subst hpn
  have:a'=canA ops ix a V p:=A2t (by rw[h.defers,Xz]) (by rw[h.size,KT]) fun t=>by
   obtain⟨l1,l2⟩:=Aaf ok (V:=V) (a0:=a) (t:=t) p (Nat.le_refl _)
   by_cases hw:∃j o',j <p∧ops[ix j]?=some o'∧o'.dst=some t
   ·obtain⟨j,o',hj,ho',hd⟩:=hw
    by_cases hts:t <a.tmps.size
    ·rw[h.s1 j o' t hj ho' hd hts (hall _ (ok.lt j hj)),l1 j o' hj ho' hd hts]
    ·have e1:a'.tmps.getD t undef=undef:=by
      rw[Array.getD_eq_getD_getElem?,Array.getElem?_eq_none (by rw[h.size];exact Nat.le_of_not_lt hts)];rfl
     have e2:(canA ops ix a V p).tmps.getD t undef=undef:=by
      rw[Array.getD_eq_getD_getElem?,Array.getElem?_eq_none (by rw[KT];exact Nat.le_of_not_lt hts)];rfl
     rw[e1,e2]
   ·rw[h.s2 t fun j o' hj ho' _ hd=>hw ⟨j,o',hj,ho',hd⟩,l2 fun j o' hj ho' hd=>hw ⟨j,o',hj,ho',hd⟩]
  rw[this]
  exact hF _ _ _ h.st
end canon
def Aiu (ops:Array Oper) (order:List Nat) (kinds:List Nat) (ea:Nat→Bool) (cm:Nat→Nat→Bool):Bool:=
 Amd ops&&Region.noSelect ops&&Nat.beq order.length ops.size&&(List.range ops.size).all (fun i=>order.contains i)&&order.all (fun i=>Nat.blt i ops.size)&&
 (List.range order.length).all (fun k=>!(ea k)||Nat.blt 0 (kinds.getD k 0))&&
 (List.range order.length).all fun k=>(List.range k).all fun j=>!(Nat.beq (order.getD j 0) (order.getD k 0))&&
  (!Nat.blt 0 (kinds.getD j 0)||(ea k||TX ops (order.getD k 0) (order.getD j 0)))&&(!Nat.blt 1 (kinds.getD k 0)||(TX ops (order.getD k 0) (order.getD j 0)||cm j k))&&
  match ops[order.getD j 0]?,ops[order.getD k 0]? with
  |some o,some o'=>(match o.dst with|some d=>o'.dst !=some d|none=>true)&&(!A06 ops o o'||Region.waitsFor .any ops (order.getD k 0) (order.getD j 0))
  |_,_=>true
def A7q (ops:Array Oper) (order:List Nat) (ea:Nat→Bool):Bool:=(List.range order.length).all fun k=>!(ea k)||(List.range k).all fun j=>!(ea j)||match ops[order.getD j 0]?,ops[order.getD k 0]? with
 |some o,some o'=>(match o.dst with|some d=>!((o'.looksAt ops).contains d)|none=>true)
 |_,_=>true
theorem A3n {ops:Array Oper} {order:List Nat} {ea:Nat→Bool} (h:A7q ops order ea=true):∀j k o o' d,j <k→k <order.length→ea j=true→ea k=true→ops[order.getD j 0]?=some o→ops[order.getD k 0]?=some o'→o.dst=some d→d∉o'.looksAt ops:=fun j k o o' d hjk hk hj he ho ho' hd hm=>by
 have h1:=List.all_eq_true.1 h k (List.mem_range.2 hk)
 rw[he,Bool.not_true,Bool.false_or] at h1
 have h2:=List.all_eq_true.1 h1 j (List.mem_range.2 hjk)
 rw[hj,Bool.not_true,Bool.false_or,ho,ho'] at h2
 simp only[hd] at h2
 have h3:(o'.looksAt ops).contains d=true:=by simpa using hm
 rw[h3] at h2
 cases h2
theorem Avx {ops:Array Oper} {order kinds:List Nat} {ea:Nat→Bool} {cm:Nat→Nat→Bool} (h:Aiu ops order kinds ea cm=true):Af3 ops order.length (fun k=>order.getD k 0) (fun k=>Nat.blt 0 (kinds.getD k 0)) ea∧
  order.length=ops.size∧∀k,k <order.length→Nat.blt 1 (kinds.getD k 0)=true→∀j,j <k→TX ops (order.getD k 0) (order.getD j 0)=true∨cm j k=true:=by
 simp only[Aiu,Bool.and_eq_true] at h
 obtain⟨⟨⟨⟨⟨⟨h1,h2⟩,h3⟩,h4⟩,h5⟩,h55⟩,h6⟩:=h
 have hp:∀j k,j <k→k <order.length→_:=fun j k hjk hk=>List.all_eq_true.1 (List.all_eq_true.1 h6 k (List.mem_range.2 hk)) j (List.mem_range.2 hjk)
 refine⟨⟨h1,h2,fun k hk=>?_,fun j k hjk hk e=>?_,fun i hi=>?_,fun j k o o' d hjk hk ho ho' hd=>?_,fun j k o o' d hjk hk ho ho' hc=>?_,fun j k hjk hk hm he=>?_,fun k hk he=>?_⟩,Nat.eq_of_beq_eq_true h3,fun k hk hs j hjk=>?_⟩
 ·have:=List.all_eq_true.1 h5 (order.getD k 0) (by rw[List.getD_eq_getElem?_getD,List.getElem?_eq_getElem hk];exact List.getElem_mem hk)
  exact Nat.le_of_ble_eq_true this
 ·have:=hp j k hjk hk
  simp only[Bool.and_eq_true] at this
  have h7:=this.1.1.1
  have e':order.getD j 0=order.getD k 0:=e
  rw[e'] at h7
  simp at h7
 ·have:=List.all_eq_true.1 h4 i (List.mem_range.2 hi)
  have hm:i∈order:=by simpa using this
  obtain⟨k,hk,he⟩:=List.getElem_of_mem hm
  exact⟨k,hk,by rw[List.getD_eq_getElem?_getD,List.getElem?_eq_getElem hk];exact he⟩
 ·have:=hp j k hjk hk
  simp only[Bool.and_eq_true,ho,ho'] at this
  have h7:=this.2.1
  simpa[hd] using h7
 ·have:=hp j k hjk hk
  simp only[Bool.and_eq_true,ho,ho'] at this
  have h7:=this.2.2
  have hs:A06 ops o o'=true:=by
   unfold A06
   rcases hc with⟨hd,hm⟩|⟨hd,hm⟩
   ·simp[hd,hm]
   ·simp[hd,hm]
  simpa[hs] using h7
 ·have:=hp j k hjk hk
  simp only[Bool.and_eq_true] at this
  have h7:=this.1.1.2
  have hm':Nat.blt 0 (kinds.getD j 0)=true:=hm
  rw[hm',he] at h7
  exact h7
 ·have h7:=List.all_eq_true.1 h55 k (List.mem_range.2 hk)
  rw[he] at h7
  exact h7
 ·have:=hp j k hjk hk
  simp only[Bool.and_eq_true] at this
  have h7:=this.1.2
  rw[hs] at h7
  simpa using h7
end Go.Proofs.YtifkbgkbajncjaaDoor
namespace Go.Proofs.YtifkbgkbajncjaaDoor
open Go.RowKit
structure Eff where
 x:A
 nx:Nat
 o:Objs
 k:Nat
 ps:List Prop
def EK (F:Nat→Prop) (N:Nm) (nx:Nat) (o:Objs) (R:World) (f:Eff) (v:Value) (R':World):Prop:=
 ∃F' N',HRel F' N' f.nx f.o R'∧Step F N nx o R F' N' f.nx f.o R'∧Hv F' N' f.nx R' f.x v∧(f.k≤1→Below R.heap.size R R')
section
variable {F:Nat→Prop} {N:Nm} {nx:Nat} {o:Objs} {R R':World}
theorem LI (ob:Obj):Below R.heap.size R (R.alloc ob):=(Below.refl _ _).alloc (Nat.le_refl _) _
theorem HL.up {N':Nm} {nx':Nat} {xs:List A} {vs:List Value} (st:Ext F N nx R F N' nx' R') (h:HL F N nx R xs vs):HL F N' nx' R' xs vs:=h.step st
theorem Ai8 (h:HRel F N nx o R) {ob:Ob} {B:Obj} {k:Nat} {ps:List Prop} {x:A} {v:Value} (hfoot:∀N' g,foot N' nx ob g→g=N'.b nx)
  (hob:Ext F N nx R F (N.setB nx R.heap.size) (nx+1) (R.alloc B)→(R.alloc B).heap[(N.setB nx R.heap.size).b nx]?=some B→ObR F (N.setB nx R.heap.size) (nx+1) (R.alloc B) nx ob)
  (hx:Hv F (N.setB nx R.heap.size) (nx+1) (R.alloc B) x v):
  EK F N nx o R ⟨x,nx+1,(nx,some ob)::o,k,ps⟩ v (R.alloc B):=by
 have hb:(R.alloc B).heap[(N.setB nx R.heap.size).b nx]?=some B:=by
  show(R.alloc B).heap[GM N.b nx R.heap.size nx]?=_
  rw[A3]
  exact heap_alloc_new R _
 have hne:∀i,i <nx→(N.setB nx R.heap.size).b i=N.b i:=fun i hi=>BY _ _ (by omega)
 obtain⟨h1,h2⟩:=h.upd (R':=R.alloc B) (N':=N.setB nx R.heap.size) (nx':=nx+1) (o':=(nx,some ob)::o) (i0:=nx) (ob0:=ob) (T:=fun _=>False) rfl rfl rfl (by simp)
  (fun g hg=>hg.elim) (fun g hg _=>Below.heap_alloc R _ g hg) (by omega) hne (fun _ _=>rfl)
  (fun i ob' hi hl=>by rw[AE,if_neg hi] at hl;exact⟨hl,fun _ _ hf=>hf.elim⟩)
  (fun ob' hl=>by rw[AE,if_pos rfl] at hl;exact(Option.some.inj hl).symm) (by omega) (fun st=>hob st hb)
  (fun g hg=> .inl (by rw[hfoot _ g hg];show R.heap.size≤GM N.b nx R.heap.size nx;rw[A3];exact Nat.le_refl _))
 exact⟨F,N.setB nx R.heap.size,h1,h2,hx,fun _=>LI _⟩
theorem Aq3 (h:HRel F N nx o R) {i:Nat} {ob ob':Ob} {B B0:Obj} {ps:List Prop} {x:A} {v:Value} (hl:Ak i o=some ob) (hf:foot N i ob (N.b i)) (hf':∀g,foot N i ob' g→g=N.b i) (hb:R.heap[N.b i]?=some B0)
  (hob:{R with heap:=R.heap.setIfInBounds (N.b i) B}.heap[N.b i]?=some B→ObR F N nx {R with heap:=R.heap.setIfInBounds (N.b i) B} i ob') (hx:Hv F N nx {R with heap:=R.heap.setIfInBounds (N.b i) B} x v):
  EK F N nx o R ⟨x,nx,(i,some ob')::o,2,ps⟩ v {R with heap:=R.heap.setIfInBounds (N.b i) B}:=by
 have hi:=(h.ob i _ hl).1
 have hlt:=Fv hb
 have hset:{R with heap:=R.heap.setIfInBounds (N.b i) B}.heap[N.b i]?=some B:=by simp[hlt]
 obtain⟨h1,h2⟩:=h.upd (R':={R with heap:=R.heap.setIfInBounds (N.b i) B}) (N':=N) (nx':=nx) (o':=(i,some ob')::o) (i0:=i) (ob0:=ob') (T:=fun g=>g=N.b i) rfl rfl rfl (by simp)
  (fun g hg=>⟨i,_,hl,by rw[show g=N.b i from hg];exact hf⟩) (fun g _ hg=>by have hne:¬N.b i=g:=fun e=>hg e.symm;simp[hne]) (Nat.le_refl _) (fun _ _=>rfl) (fun _ _=>rfl)
  (fun j ob2 hj hl'=>by
   rw[AE,if_neg hj] at hl'
   refine⟨hl',fun g hg e=>hj ?_⟩
   have e':g=N.b i:=e
   subst e'
   exact h.sep j i ob2 _ _ hl' hl hg hf)
  (fun ob2 hl'=>by rw[AE,if_pos rfl] at hl';exact(Option.some.inj hl').symm) hi
  (fun _=>hob hset) (fun g hg=> .inr (hf' g hg))
 exact⟨F,N,h1,h2,hx,fun hk=>by cases hk with|step hk=>cases hk⟩
theorem Ay3 (h:HRel F N nx o R) {cs:List A} {vs:List Value} (hc:HL F N nx R cs vs) (e:TypeId) (k:Nat) (ps:List Prop):
  EK F N nx o R ⟨.own nx 0,nx+1,(nx,some (.box e cs))::o,k,ps⟩ (.pointer (some ⟨R.heap.size,0,none⟩)) (R.alloc (.cells vs.toArray e (0,0))):=by
 refine Ai8 h (fun N' g hg=>hg) (fun st hb=>⟨vs,hc.step st,hb⟩) ?_
 have:(⟨R.heap.size,0,none⟩:Addr)=⟨(N.setB nx R.heap.size).b nx,0,none⟩:=by
  show _=(⟨GM N.b nx R.heap.size nx,0,none⟩:Addr)
  rw[A3]
 rw[this]
 exact .own (by omega)
def Wi (o:Objs):Option Nat→Objs
 |none=>o
 |some i=>(i,none)::o
theorem Aoa {d:Option Nat} {i:Nat} {ob:Ob} (h:Ak i (Wi o d)=some ob):Ak i o=some ob∧d≠some i:=by
 cases d with
 |none=>exact⟨h,fun e=>by cases e⟩
 |some j=>
  have h':Ak i ((j,none)::o)=some ob:=h
  rw[AE] at h'
  by_cases e:i=j
  ·rw[if_pos e] at h';cases h'
  ·rw[if_neg e] at h';exact⟨h',fun e'=>e (Option.some.inj e').symm⟩
theorem Aja (h:HRel F N nx o R) {d:Option Nat} {e:TypeId} {size:Nat} {els:Els} {zs:List Value} {v:Value} {k:Nat} {ps:List Prop}
  (hos:R'.os=R.os) (htape:R'.tape=R.tape) (hout:R'.output=R.output) (hsz:R.heap.size≤R'.heap.size)
  (hd:∀i,d=some i→∃e' s' els',Ak i o=some (.arr e' s' els'))
  (keep:∀g,g <R.heap.size→(∀i,d=some i→BO (N.q i)≠some g)→R'.heap[g]?=R.heap[g]?)
  (hown:OwnR R' e size v els.n zs) (hels:RowHL F N nx R els size zs) (hnew:∀g,BO v=some g→R.heap.size≤g∨∃i,d=some i∧BO (N.q i)=some g) (hk:k≤1→d=none):
  EK F N nx o R ⟨.sq nx,nx+1,(nx,some (.arr e size els))::Wi o d,k,ps⟩ v R':=by
 let T:Nat→Prop:=fun g=>∃i,d=some i∧BO (N.q i)=some g
 have hq:(N.setQ nx v).q nx=v:=A3 _ _ _
 have hne:∀i,i <nx→(N.setQ nx v).q i=N.q i:=fun i hi=>BY _ _ (by omega)
 have keep':∀g,g <R.heap.size→¬T g→R'.heap[g]?=R.heap[g]?:=fun g hg ht=>keep g hg fun i hi hb=>ht ⟨i,hi,hb⟩
 obtain⟨h1,h2⟩:=h.upd (R':=R') (N':=N.setQ nx v) (nx':=nx+1) (o':=(nx,some (.arr e size els))::Wi o d) (i0:=nx) (ob0:=.arr e size els) (T:=T) hos htape hout hsz
  (fun g ⟨i,hi,hg⟩=>by obtain⟨e',s',els',hl⟩:=hd i hi;exact⟨i,_,hl,hg⟩) keep' (by omega) (fun _ _=>rfl) hne
  (fun i ob' hi hl=>by
   rw[AE,if_neg hi] at hl
   obtain⟨g1,g2⟩:=Aoa hl
   refine⟨g1,fun g hg ⟨j,hj,hb⟩=>?_⟩
   obtain⟨e',s',els',hl'⟩:=hd j hj
   have:=h.sep i j ob' _ g g1 hl' hg hb
   subst this
   exact g2 hj)
  (fun ob' hl=>by rw[AE,if_pos rfl] at hl;exact(Option.some.inj hl).symm) (by omega)
  (fun st=>⟨zs,by rw[hq];exact hown,(hels.step st).2⟩)
  (fun g hg=>by
   have hg':BO ((N.setQ nx v).q nx)=some g:=hg
   rw[hq] at hg'
   exact hnew g hg')
 refine⟨F,N.setQ nx v,h1,h2,?_,fun hk'=>⟨hos,htape,hout,hsz,fun g hg=>keep' g hg fun⟨i,hi,_⟩=>by rw[hk hk'] at hi;cases hi⟩⟩
 have:=Hv.sq (F:=F) (N:=N.setQ nx v) (nx:=nx+1) (R:=R') (i:=nx) (by omega)
 rwa[hq] at this
theorem Ai9 (h:HRel F N nx o R) {i:Nat} {e:TypeId} {ob:Ob} {xs':List A} {us us':List Value} {ps:List Prop} (hl:Ak i o=some ob) (hf:∀g,g=N.b i→foot N i ob g) (hc':HW F N nx R xs' us') (hb:R.heap[N.b i]?=some (.cells us.toArray e (0,0))) {x:A} {v:Value} (hx:∀R',Ext F N nx R F N nx R'→Hv F N nx R' x v):
  EK F N nx o R ⟨x,nx,(i,some (.rcd e xs'))::o,2,ps⟩ v (R.setRow (N.b i) us'.toArray):=by
 have hi:=(h.ob i _ hl).1
 obtain⟨h1,h2⟩:=h.upd (R':=R.setRow (N.b i) us'.toArray) (N':=N) (nx':=nx) (o':=(i,some (.rcd e xs'))::o) (i0:=i) (ob0:=.rcd e xs') (T:=fun g=>g=N.b i) rfl rfl rfl (by simp)
  (fun g hg=>⟨i,_,hl,hf g hg⟩) (fun g _ hg=>setRow_other R _ g _ (fun e=>hg e)) (Nat.le_refl _) (fun _ _=>rfl) (fun _ _=>rfl)
  (fun j ob' hj hl'=>by
   rw[AE,if_neg hj] at hl'
   refine⟨hl',fun g hg e=>hj ?_⟩
   subst e
   exact h.sep j i ob' _ _ hl' hl hg (hf _ rfl))
  (fun ob' hl'=>by rw[AE,if_pos rfl] at hl';exact(Option.some.inj hl').symm) hi
  (fun st=>⟨us',hc'.step st,setRow_heap R _ _ _ e _ hb⟩) (fun g hg=> .inr hg)
 exact⟨F,N,h1,h2,hx _ (h2.ext h),fun hk=>by cases hk with|step hk=>cases hk⟩
theorem Tj (h:HRel F N nx o R) {i:Nat} {e:TypeId} {xs xs':List A} {us us':List Value} {ps:List Prop} (hl:Ak i o=some (.rcd e xs)) (hc':HW F N nx R xs' us') (hb:R.heap[N.b i]?=some (.cells us.toArray e (0,0))) {x:A} {v:Value} (hx:∀R',Ext F N nx R F N nx R'→Hv F N nx R' x v):
  EK F N nx o R ⟨x,nx,(i,some (.rcd e xs'))::o,2,ps⟩ v (R.setRow (N.b i) us'.toArray):=
 Ai9 h hl (fun _ hg=>hg) hc' hb hx
theorem Aq2 (h:HRel F N nx o R) {i:Nat} {e:TypeId} {cs cs':List A} {vs vs':List Value} {ps:List Prop} (hl:Ak i o=some (.box e cs)) (hc':HL F N nx R cs' vs') (hb:R.heap[N.b i]?=some (.cells vs.toArray e (0,0))):
  EK F N nx o R ⟨.v undef,nx,(i,some (.box e cs'))::o,2,ps⟩ undef (R.setRow (N.b i) vs'.toArray):=by
 have hi:=(h.ob i _ hl).1
 obtain⟨h1,h2⟩:=h.upd (R':=R.setRow (N.b i) vs'.toArray) (N':=N) (nx':=nx) (o':=(i,some (.box e cs'))::o) (i0:=i) (ob0:=.box e cs') (T:=fun g=>g=N.b i) rfl rfl rfl (by simp)
  (fun g hg=>⟨i,_,hl,hg⟩) (fun g _ hg=>setRow_other R _ g _ (fun e=>hg e)) (Nat.le_refl _) (fun _ _=>rfl) (fun _ _=>rfl)
  (fun j ob' hj hl'=>by
   rw[AE,if_neg hj] at hl'
   refine⟨hl',fun g hg e=>hj ?_⟩
   subst e
   exact h.sep j i ob' _ _ hl' hl hg rfl)
  (fun ob' hl'=>by rw[AE,if_pos rfl] at hl';exact(Option.some.inj hl').symm) hi
  (fun st=>⟨vs',hc'.step st,setRow_heap R _ _ _ e _ hb⟩) (fun g hg=> .inr hg)
 exact⟨F,N,h1,h2,.v _,fun hk=>by cases hk with|step hk=>cases hk⟩
theorem Aq1 (h:HRel F N nx o R) {i:Nat} {e:TypeId} {size:Nat} {els els':Els} {zs':List Value} {ps:List Prop} (hl:Ak i o=some (.arr e size els))
  (hos:R'.os=R.os) (htape:R'.tape=R.tape) (hout:R'.output=R.output) (hsz:R.heap.size≤R'.heap.size)
  (keep:∀g,g <R.heap.size→BO (N.q i)≠some g→R'.heap[g]?=R.heap[g]?) (hown:OwnR R' e size (N.q i) els'.n zs') (hels:RowHL F N nx R els' size zs') {v:Value} {x:A} (hx:∀F' N',Hv F' N' nx R' x v):
  EK F N nx o R ⟨x,nx,(i,some (.arr e size els'))::o,2,ps⟩ v R':=by
 have hi:=(h.ob i _ hl).1
 obtain⟨h1,h2⟩:=h.upd (R':=R') (N':=N) (nx':=nx) (o':=(i,some (.arr e size els'))::o) (i0:=i) (ob0:=.arr e size els') (T:=fun g=>BO (N.q i)=some g) hos htape hout hsz
  (fun g hg=>⟨i,_,hl,hg⟩) keep (Nat.le_refl _) (fun _ _=>rfl) (fun _ _=>rfl)
  (fun j ob' hj hl'=>by
   rw[AE,if_neg hj] at hl'
   exact⟨hl',fun g hg e=>hj (h.sep j i ob' _ g hl' hl hg e)⟩)
  (fun ob' hl'=>by rw[AE,if_pos rfl] at hl';exact(Option.some.inj hl').symm) hi
  (fun st=>⟨zs',hown,(hels.step st).2⟩) (fun g hg=> .inr hg)
 exact⟨F,N,h1,h2,hx F N,fun hk=>by cases hk with|step hk=>cases hk⟩
theorem A3h (h:HRel F N nx o R) {i k col:Nat} {e e':TypeId} {c c':TC} {l:List (U c)} {l' l2:List (U c')} {us:List Value} {ps:List Prop} (hl:Ak i o=some (.deep e c l)) (hk:k <l.length) (hc:PO c=some (col,c')) (hi:Ae0 c (l.getD k (Aj c))=some ⟨c',l'⟩)
  (hos:R'.os=R.os) (htape:R'.tape=R.tape) (hout:R'.output=R.output) (hsz:R.heap.size≤R'.heap.size)
  (keep:∀g,g <R.heap.size→BO (J2 (N.q i) (k+1))≠some g→R'.heap[g]?=R.heap[g]?) (hown:OwnR R' e' (size c') (J2 (N.q i) (k+1)) l2.length us) (hels:RowHL F N nx R (.ty c' l2) (size c') us) {v:Value} {x:A} (hx:∀F' N',Hv F' N' nx R' x v):
  EK F N nx o R ⟨x,nx,(i,some (.deep e c (l.set k (Adz c c' (l.getD k (Aj c)) l2))))::o,2,ps⟩ v R':=by
 obtain⟨hin,col',c1,zs,h2,h3,h4,h5,h6⟩:=h.ob i _ hl
 rw[hc] at h2
 cases h2
 obtain⟨h1,h2⟩:=h.upd (R':=R') (N':=N) (nx':=nx) (o':=(i,some (.deep e c (l.set k (Adz c c' (l.getD k (Aj c)) l2))))::o) (i0:=i) (ob0:=.deep e c (l.set k (Adz c c' (l.getD k (Aj c)) l2))) (T:=fun g=>foot N i (.deep e c l) g) hos htape hout hsz
  (fun g hg=>⟨i,_,hl,hg⟩) (fun g hg hn=>keep g hg fun e=>hn ⟨k+1,by omega,e⟩) (Nat.le_refl _) (fun _ _=>rfl) (fun _ _=>rfl)
  (fun j ob' hj hl'=>by
   rw[AE,if_neg hj] at hl'
   exact⟨hl',fun g hg e=>hj (h.sep j i ob' _ g hl' hl hg e)⟩)
  (fun ob' hl'=>by rw[AE,if_pos rfl] at hl';exact(Option.some.inj hl').symm) hin
  (fun st=>by
   have h33:=h3.keep fun g hg=>keep g (h3.lt hg) fun hg'=>(by have:=h6 0 (k+1) g (by omega) (by omega) hg hg';omega)
   refine⟨col,c',zs,hc,(by rw[List.length_set];exact h33),fun k2 d hd=>?_,fun k2 d hd=>?_,(by rw[List.length_set];exact h6)⟩
   ·by_cases hkk:k2=k
    ·subst hkk
     rw[List.getElem?_set_self hk] at hd
     cases hd
     obtain⟨l1,_,_,q1,_⟩:=h5 k2 _ (getD_some hk)
     rw[Vu hc,Aax q1]
     exact(h4 k2 _ (getD_some hk)).step st
    ·rw[List.getElem?_set_ne (fun e=>hkk e.symm)] at hd
     exact(h4 k2 d hd).step st
   ·by_cases hkk:k2=k
    ·subst hkk
     rw[List.getElem?_set_self hk] at hd
     cases hd
     obtain⟨l1,_,_,q1,_⟩:=h5 k2 _ (getD_some hk)
     exact⟨l2,e',us,by rw[Vu hc,List.getElem?_set_self (List.getElem?_eq_some_iff.1 q1).1],hown,fun j hj=>((hels.2 j hj).step st)⟩
    ·rw[List.getElem?_set_ne (fun e=>hkk e.symm)] at hd
     obtain⟨l1,e1,us1,q1,q2,q3⟩:=h5 k2 d hd
     have hk2:=(List.getElem?_eq_some_iff.1 hd).1
     exact⟨l1,e1,us1,q1,q2.keep fun g hg=>keep g (q2.lt hg) fun hg'=>(by have:=h6 (k2+1) (k+1) g (by omega) (by omega) hg hg';omega),fun j hj=>(q3 j hj).step st⟩)
  (fun g ⟨k2,hk2,hg⟩=> .inr ⟨k2,by rw[List.length_set] at hk2;exact hk2,hg⟩)
 exact⟨F,N,h1,h2,hx F N,fun hk=>by cases hk with|step hk=>cases hk⟩
theorem HL.set2:∀{xs:List A} {vs:List Value} {j:Nat} {x:A} {v:Value},HL F N nx R xs vs→Hv F N nx R x v→HL F N nx R (xs.set j x) (vs.set j v)
 | [],_,_,_,_,h,_=>by rw[h.inv0];exact HL.nil
 |y::r,_,0,_,_,h,hx=>by obtain⟨w,ws,rfl,_,h2⟩:=h.inv;exact HL.cons hx h2
 |y::r,_,j+1,_,_,h,hx=>by obtain⟨w,ws,rfl,h1,h2⟩:=h.inv;exact HL.cons h1 (HL.set2 h2 hx)
theorem Agx {i k:Nat}:∀{cs:List A},(∀(p:Nat) (c:TC) (l:List (U c)),cs[p]?≠some (.sl c l))→Kz i k cs=cs
 | [],_=>rfl
 |x::r,h=>by
  have hr:=Agx (i:=i) (k:=k) (cs:=r) fun p c l=>h (p+1) c l
  cases x<;>first|exact absurd rfl (h 0 _ _)|(unfold Kz;rw[hr])
theorem HL.own {i k:Nat} {y:Value} (hi:i <nx) (hy:y=J2 (N.q i) (k+1)):∀{cs:List A} {vs:List Value} {col:Nat},(∀(p:Nat) (c:TC) (l:List (U c)),cs[p]?=some (.sl c l)→p=col)→(∃(c:TC) (l:List (U c)),cs[col]?=some (.sl c l))→HL F N nx R cs vs→HL F N nx R (Kz i k cs) (vs.set col y)
 | [],_,col,_,⟨c,l,h⟩,_=>by cases col<;>cases h
 |x::r,_,0,h1,⟨c,l,h2⟩,h=>by
  obtain⟨w,ws,rfl,_,h4⟩:=h.inv
  cases h2
  have:Kz i k r=r:=Agx fun p c l hp=>by have:=h1 (p+1) c l hp;omega
  show HL F N nx R (.iv i k::Kz i k r) (y::ws)
  rw[this,hy]
  exact HL.cons (.iv hi) h4
 |x::r,_,col+1,h1,⟨c,l,h2⟩,h=>by
  obtain⟨w,ws,rfl,h3,h4⟩:=h.inv
  have ih:=HL.own hi hy (cs:=r) (col:=col) (fun p c l hp=>by have:=h1 (p+1) c l hp;omega) ⟨c,l,h2⟩ h4
  cases x<;>first|(have:=h1 0 _ _ rfl;omega)|(unfold Kz;exact HL.cons h3 ih)
theorem HL.moved {N':Nm} {nx' i i' k:Nat} (st:Ext F N nx R F N' nx' R') (hi':i' <nx') (hf:J2 (N'.q i') (k+1)=J2 (N.q i) (k+1)):∀{cs:List A} {vs:List Value},HL F N nx R (Kz i k cs) vs→HL F N' nx' R' (Kz i' k cs) vs
 | [],_,h=>by rw[h.inv0];exact HL.nil
 | x::r,vs,h=>by
  cases x
  case sl c l=>
   obtain⟨w,ws,rfl,h1,h2⟩:=h.inv
   rw[h1.iv_inv.2,←hf]
   exact HL.cons (.iv hi') (HL.moved st hi' hf h2)
  all_goals
   obtain⟨w,ws,rfl,h1,h2⟩:=h.inv
   exact HL.cons (h1.step st) (HL.moved st hi' hf h2)
theorem Aao {c c':TC} {col:Nat} (h:PO c=some (col,c')) (d:U c) (p:Nat) (c2:TC) (l2:List (U c2)) (hp:(enc c d)[p]?=some (.sl c2 l2)):p=col:=by
 cases c<;>cases h<;>(rcases p with _|_|_|_|_|_|_|_|_|_|_|p)<;>first|rfl|(cases hp;done)
def Ayw (o:Objs) (c:TC) (cs:List A):Option (Nat×U c×List Prop):=match PO c with
 | some (col,c')=>match cs[col]? with
  | some (.sq j)=>match Ak j o with
   | some (.arr _ sz els)=>bif Nat.beq sz (size c') then(match PY c' els with
    |some (l',ps)=>match MX c (cs.set col (.sl c' [])) with
     |some (d0,qs)=>some (j,Adz c c' d0 l',ps++qs)
     |none=>none
    |none=>none) else none
   |_=>none
  |_=>none
 |none=>none
theorem A3g (h:HRel F N nx o R) {i j:Nat} {e:TypeId} {c:TC} {l:List (U c)} {cs:List A} {d:U c} {qs ps:List Prop} {zs us:List Value} {v:Value} (hl:Ak i o=some (.deep e c l)) (hd:Ayw o c cs=some (j,d,qs)) (hqs:∀p∈qs,p) (hu:HL F N nx R cs us) (hus:us.length=size c)
  (hz:OwnR R e (size c) (J2 (N.q i) 0) l.length zs) (hzs:∀k,k <l.length→HL F N nx R (Kz i k (enc c (l.getD k (Aj c)))) ((zs.drop (k*size c)).take (size c)))
  (hos:R'.os=R.os) (htape:R'.tape=R.tape) (hout:R'.output=R.output) (hsz:R.heap.size≤R'.heap.size)
  (keep:∀g,g <R.heap.size→BO (J2 (N.q i) 0)≠some g→R'.heap[g]?=R.heap[g]?) (hown:OwnR R' e (size c) v (l.length+1) (zs++us)) (hnew:∀g,BO v=some g→R.heap.size≤g∨BO (J2 (N.q i) 0)=some g):
  EK F N nx o R ⟨.dq nx,nx+1,(nx,some (.deep e c (l++[d])))::(j,none)::(i,none)::o,2,ps⟩ v R':=by
 obtain⟨hin,col,c',zs0,hcol,_,_,h5,h6⟩:=h.ob i _ hl
 unfold Ayw at hd
 rw[hcol] at hd
 simp only at hd
 split at hd<;>first|(cases hd;done)|skip
 rename_i j' hj'
 split at hd<;>first|(cases hd;done)|skip
 rename_i e1 sz1 els hlj
 cases hb:Nat.beq sz1 (size c') with
 |false=>rw[hb] at hd;cases hd
 |true=>
 rw[hb] at hd
 simp only[cond_true] at hd
 split at hd<;>first|(cases hd;done)|skip
 rename_i l' ps1 hel
 split at hd<;>first|(cases hd;done)|skip
 rename_i d0 qs1 hdec
 cases hd
 obtain rfl:=Nat.eq_of_beq_eq_true hb
 have hp1:∀p∈ps1,p:=fun p hm=>hqs p (List.mem_append.2 (.inl hm))
 have hp2:∀p∈qs1,p:=fun p hm=>hqs p (List.mem_append.2 (.inr hm))
 obtain⟨hjn,ws,w1,w2⟩:=h.ob j _ hlj
 have hrow:RowHL F N nx R (.ty c' l') (size c') ws:=(show RowHL F N nx R els (size c') ws from⟨w1.1,w2⟩).ty hel hp1
 have hln:l'.length=els.n:=(JK (F:=F) (N:=N) (nx:=nx) (R:=R) hel hp1).1
 have hij:i≠j:=fun e=>by subst e;rw[hl] at hlj;cases hlj
 have hsep:∀g,(∃k,k <l.length+1∧BO (J2 (N.q i) k)=some g)→BO (N.q j)=some g→False:=fun g hg hg'=>hij (h.sep i j _ _ g hl hlj hg hg')
 let W:List Value:=v::((List.range l.length).map (fun k=>J2 (N.q i) (k+1))++[N.q j])
 have hq:(N.setQ nx (.agg W.toArray)).q nx=.agg W.toArray:=A3 _ _ _
 have hne:∀m,m <nx→(N.setQ nx (.agg W.toArray)).q m=N.q m:=fun m hm=>BY _ _ (by omega)
 have famW:∀k,J2 ((N.setQ nx (.agg W.toArray)).q nx) k=W.getD k undef:=fun k=>by
  rw[hq]
  show W.toArray.getD k undef=_
  simp
 have f0:J2 ((N.setQ nx (.agg W.toArray)).q nx) 0=v:=by rw[famW];rfl
 have fk:∀k,k <l.length→J2 ((N.setQ nx (.agg W.toArray)).q nx) (k+1)=J2 (N.q i) (k+1):=fun k hk=>by
  rw[famW]
  show((List.range l.length).map (fun k=>J2 (N.q i) (k+1))++[N.q j]).getD k undef=_
  rw[List.getD_eq_getElem?_getD,List.getElem?_append_left (by simpa using hk),List.getElem?_map,List.getElem?_range hk]
  rfl
 have fl:J2 ((N.setQ nx (.agg W.toArray)).q nx) (l.length+1)=N.q j:=by
  rw[famW]
  show((List.range l.length).map (fun k=>J2 (N.q i) (k+1))++[N.q j]).getD l.length undef=_
  rw[List.getD_eq_getElem?_getD,List.getElem?_append_right (by simp)]
  simp
 have hlen:(l++[Adz c c' d0 l']).length=l.length+1:=by simp
 have cls:∀k g,k <l.length+2→BO (J2 ((N.setQ nx (.agg W.toArray)).q nx) k)=some g→(k=0∧(R.heap.size≤g∨BO (J2 (N.q i) 0)=some g))∨(1≤k∧k <l.length+1∧BO (J2 (N.q i) k)=some g)∨(k=l.length+1∧BO (N.q j)=some g):=fun k g hk hg=>by
  cases k with
  |zero=>rw[f0] at hg;exact .inl ⟨rfl,hnew g hg⟩
  | succ k=>
   by_cases hkl:k <l.length
   ·rw[fk k hkl] at hg;exact .inr (.inl ⟨by omega,by omega,hg⟩)
   ·obtain rfl:k=l.length:=by omega
    rw[fl] at hg;exact .inr (.inr ⟨rfl,hg⟩)
 have inlt:∀k g,k <l.length+1→BO (J2 (N.q i) k)=some g→g <R.heap.size:=fun k g hk hg=>(h.ob i _ hl).2.lt (g:=g) ⟨k,hk,hg⟩
 have jlt:∀g,BO (N.q j)=some g→g <R.heap.size:=fun g hg=>w1.lt hg
 have keepI:∀k,1≤k→k <l.length+1→∀g,BO (J2 (N.q i) k)=some g→R'.heap[g]?=R.heap[g]?:=fun k hk1 hk g hg=>keep g (inlt k g hk hg) fun hg'=>(by have:=h6 0 k g (by omega) hk hg' hg;omega)
 obtain ⟨h1,h2⟩:=h.upd (R':=R') (N':=N.setQ nx (.agg W.toArray)) (nx':=nx+1) (o':=(nx,some (.deep e c (l++[Adz c c' d0 l'])))::(j,none)::(i,none)::o) (i0:=nx) (ob0:=.deep e c (l++[Adz c c' d0 l'])) (T:=fun g=>foot N i (.deep e c l) g∨BO (N.q j)=some g) hos htape hout hsz
  (fun g hg=>by
   rcases hg with hg|hg
   ·exact⟨i,_,hl,hg⟩
   ·exact⟨j,_,hlj,hg⟩)
  (fun g hg hn=>keep g hg fun e=>hn (.inl ⟨0,by omega,e⟩)) (by omega) (fun _ _=>rfl) hne
  (fun m ob' hm hl'=>by
   rw[AE,if_neg hm,AE] at hl'
   split at hl'<;>first|(cases hl';done)|skip
   rename_i hmj
   rw[AE] at hl'
   split at hl'<;>first|(cases hl';done)|skip
   rename_i hmi
   refine⟨hl',fun g hg ht=>?_⟩
   rcases ht with ht|ht
   ·exact hmi (h.sep m i ob' _ g hl' hl hg ht)
   ·exact hmj (h.sep m j ob' _ g hl' hlj hg ht))
  (fun ob' hl'=>by rw[AE,if_pos rfl] at hl';exact(Option.some.inj hl').symm) (by omega)
  (fun st=>by
   refine⟨col,c',zs++us,hcol,by rw[f0,hlen];exact hown,fun k d1 hd1=>?_,fun k d1 hd1=>?_,fun k k' g hk hk' hg hg'=>?_⟩
   ·by_cases hkl:k <l.length
    ·rw[List.getElem?_append_left hkl] at hd1
     have e0:l.getD k (Aj c)=d1:=by rw[List.getD_eq_getElem?_getD,hd1];rfl
     have hle:k*size c+size c≤zs.length:=by rw[hz.1,←Nat.succ_mul];exact Nat.mul_le_mul_right _ hkl
     have e2:((zs++us).drop (k*size c)).take (size c)=(zs.drop (k*size c)).take (size c):=by
      rw[List.drop_append_of_le_length (by omega),List.take_append_of_le_length (by rw[List.length_drop];omega)]
     rw[e2]
     have:=hzs k hkl
     rw[e0] at this
     exact this.moved st (by omega) (fk k hkl)
    ·have hkn:k=l.length:=by
      have:=(List.getElem?_eq_some_iff.1 hd1).1
      simp at this
      omega
     subst hkn
     have e1:d1=Adz c c' d0 l':=by
      rw[List.getElem?_append_right (Nat.le_refl _)] at hd1
      simp at hd1
      exact hd1.symm
     subst e1
     have e2:((zs++us).drop (l.length*size c)).take (size c)=us:=by
      rw[←hz.1,List.drop_left,←hus,List.take_length]
     rw[e2]
     obtain⟨l0,hl0⟩:=Agp hcol d0
     rw[Vu hcol,Aax hl0]
     have hnil:HL F N nx R (cs.set col (.sl c' [])) (us.set col (.slice none 0 0)):=hu.set2 (Hv.sl_nil rfl)
     have h7:HL F N nx R (enc c d0) (us.set col (.slice none 0 0)):=Ti hdec hp2 _ hnil
     obtain⟨y,hy1,hy2⟩:=hu.get hj'
     have h8:=HL.own (F:=F) (N:=N.setQ nx (.agg W.toArray)) (nx:=nx+1) (R:=R') (i:=nx) (k:=l.length) (y:=y) (by omega) (by rw[fl];exact hy2.sq_inv.2) (fun p c2 l2 hp=>Aao hcol d0 p c2 l2 hp) ⟨_,_,hl0⟩ (h7.step st)
     rw[List.set_set] at h8
     have e3:us.set col y=us:=by
      apply List.ext_getElem?
      intro p
      rw[List.getElem?_set]
      split
      ·rename_i hpc
       subst hpc
       split
       ·rw[hy1]
       ·rename_i hh
        have:=(List.getElem?_eq_some_iff.1 hy1).1
        omega
      ·rfl
     rw[e3] at h8
     exact h8
   ·by_cases hkl:k <l.length
    ·rw[List.getElem?_append_left hkl] at hd1
     obtain⟨l1,e2,us1,q1,q2,q3⟩:=h5 k d1 hd1
     exact⟨l1,e2,us1,q1,by rw[fk k hkl];exact q2.keep (keepI (k+1) (by omega) (by omega)),fun m hm=>(q3 m hm).step st⟩
    ·have hkn:k=l.length:=by
      have:=(List.getElem?_eq_some_iff.1 hd1).1
      simp at this
      omega
     subst hkn
     have e1:d1=Adz c c' d0 l':=by
      rw[List.getElem?_append_right (Nat.le_refl _)] at hd1
      simp at hd1
      exact hd1.symm
     subst e1
     obtain⟨l0,hl0⟩:=Agp hcol d0
     refine⟨l',e1,ws,by rw[Vu hcol,List.getElem?_set_self (List.getElem?_eq_some_iff.1 hl0).1],?_,fun m hm=>(hrow.2 m hm).step st⟩
     rw[fl,hln]
     exact w1.keep fun g hg=>keep g (jlt g hg) fun hg'=>hsep g ⟨0,by omega,hg'⟩ hg
   ·rw[hlen] at hk hk'
    rcases cls k g (by omega) hg with⟨q1,q2⟩|⟨q1,q2,q3⟩|⟨q1,q2⟩<;>rcases cls k' g (by omega) hg' with⟨r1,r2⟩|⟨r1,r2,r3⟩|⟨r1,r2⟩
    ·omega
    ·rcases q2 with q2|q2
     ·have:=inlt k' g r2 r3;omega
     ·have:=h6 0 k' g (by omega) r2 q2 r3;omega
    ·rcases q2 with q2|q2
     ·have:=jlt g r2;omega
     ·exact(hsep g ⟨0,by omega,q2⟩ r2).elim
    ·rcases r2 with r2|r2
     ·have:=inlt k g q2 q3;omega
     ·have:=h6 0 k g (by omega) q2 r2 q3;omega
    ·exact h6 k k' g q2 r2 q3 r3
    ·exact(hsep g ⟨k,q2,q3⟩ r2).elim
    ·rcases r2 with r2|r2
     ·have:=jlt g q2;omega
     ·exact(hsep g ⟨0,by omega,r2⟩ q2).elim
    ·exact(hsep g ⟨k',r2,r3⟩ q2).elim
    ·omega)
  (fun g ⟨k,hk,hg⟩=>by
   rw[hlen] at hk
   rcases cls k g (by omega) hg with⟨_,q2|q2⟩|⟨q1,q2,q3⟩|⟨_,q2⟩
   ·exact .inl q2
   ·exact .inr (.inl ⟨0,by omega,q2⟩)
   ·exact .inr (.inl ⟨k,q2,q3⟩)
   ·exact .inr (.inr q2))
 refine⟨F,N.setQ nx (.agg W.toArray),h1,h2,?_,fun hk=>by cases hk with|step hk=>cases hk⟩
 have:=Hv.dq (F:=F) (N:=N.setQ nx (.agg W.toArray)) (nx:=nx+1) (R:=R') (i:=nx) (by omega)
 rwa[f0] at this
theorem Av9 (h:HRel F N nx o R) (hb:Below R.heap.size R R') {x:A} {v:Value} {k:Nat} {ps:List Prop} (hlt:R.heap.size <R'.heap.size)
  (hx:Hv (fun g=>F g∨g=R.heap.size) N nx R' x v):EK F N nx o R ⟨x,nx,o,k,ps⟩ v R':=by
 have st:Step F N nx o R (fun g=>F g∨g=R.heap.size) N nx o R':=
  ⟨Nat.le_refl _,fun _ _=>rfl,fun _ _=>rfl,fun _ h=> .inl h,fun g hg=>by
   rcases hg with hg|hg
   ·exact .inl hg
   ·exact .inr (.inr (by omega)),fun _ h=> .inl h,hb.os,hb.tape,hb.output,hb.size,fun g hg _=>hb.block g hg⟩
 have hx2:=st.ext h
 refine⟨_,N,⟨fun g hg=>?_,fun i ob hi=>⟨(h.ob i ob hi).1,(h.ob i ob hi).2.step hx2 (h.ob i ob hi).1 fun g hg=>hb.block g ((h.ob i ob hi).2.lt hg)⟩,fun i ob g hi hg hf=>?_,h.sep,h.gl.step hx2⟩,st,hx,fun _=>hb⟩
 ·rcases hg with hg|hg
  ·exact Nat.lt_of_lt_of_le (h.flt g hg) hb.size
  ·omega
 ·rcases hf with hf|hf
  ·exact h.ff i ob g hi hg hf
  ·have:=(h.ob i ob hi).2.lt hg;omega
end
end Go.Proofs.YtifkbgkbajncjaaDoor
namespace Go.Proofs.YtifkbgkbajncjaaDoor
open Go.RowKit
theorem Awy {zs vs:List Value} {k size off:Nat} (h1:off+vs.length≤size) (h2:k*size+size≤zs.length) (j:Nat):
  ((zs.take (k*size+off)++vs++zs.drop (k*size+off+vs.length)).drop (j*size)).take size=
   if j=k then((zs.drop (k*size)).take size).take off++vs++((zs.drop (k*size)).take size).drop (off+vs.length) else(zs.drop (j*size)).take size:=by
 have get:∀m,(zs.take (k*size+off)++vs++zs.drop (k*size+off+vs.length))[m]?=if m <k*size+off then zs[m]? else if m <k*size+off+vs.length then vs[m - (k*size+off)]? else zs[m]?:=fun m=>by
  rw[List.append_assoc,List.getElem?_append,List.length_take,Nat.min_eq_left (by omega)]
  by_cases c1:m <k*size+off
  ·rw[if_pos c1,if_pos c1,List.getElem?_take,if_pos c1]
  ·rw[if_neg c1,if_neg c1,List.getElem?_append]
   by_cases c2:m <k*size+off+vs.length
   ·rw[if_pos (by omega),if_pos c2]
   ·rw[if_neg (by omega),if_neg c2,List.getElem?_drop]
    congr 1
    omega
 apply List.ext_getElem?
 intro m
 rw[List.getElem?_take,List.getElem?_drop]
 by_cases hm:m <size
 ·rw [if_pos hm,get]
  by_cases hj:j=k
  ·subst hj
   rw[if_pos rfl,List.append_assoc,List.getElem?_append,List.length_take,List.length_take,List.length_drop]
   have hlen:min off (min size (zs.length - j*size))=off:=by omega
   rw[hlen]
   by_cases c1:m <off
   ·rw[if_pos (by omega),if_pos c1,List.getElem?_take,if_pos c1,List.getElem?_take,if_pos hm,List.getElem?_drop]
   ·rw[if_neg (by omega),if_neg c1,List.getElem?_append]
    by_cases c2:m <off+vs.length
    ·rw[if_pos (by omega),if_pos (by omega)]
     congr 1
     omega
    ·rw[if_neg (by omega),if_neg (by omega),List.getElem?_drop,List.getElem?_take,if_pos (by omega),List.getElem?_drop]
     congr 1
     omega
  ·rw[if_neg hj,List.getElem?_take,if_pos hm,List.getElem?_drop]
   rcases Nat.lt_or_gt_of_ne hj with hlt|hgt
   ·have:j*size+size≤k*size:=by rw[←Nat.succ_mul];exact Nat.mul_le_mul_right _ hlt
    rw[if_pos (by omega)]
   ·have:k*size+size≤j*size:=by rw[←Nat.succ_mul];exact Nat.mul_le_mul_right _ hgt
    rw[if_neg (by omega),if_neg (by omega)]
 ·rw[if_neg hm]
  symm
  rw[List.getElem?_eq_none]
  by_cases hj:j=k
  ·rw[if_pos hj]
   simp only[List.length_append,List.length_take,List.length_drop]
   omega
  ·rw[if_neg hj,List.length_take]
   omega
def Ady (k off:Nat) (us:List A):Els→Option (Els×List Prop)
 | .lst cs=>some (.lst (cs.set k (Aoq off us (GV cs k))),[])
 | .ty c l=>match MX c (Aoq off us (enc c (l.getD k (Aj c)))) with
  |some (d,ps)=>some (.ty c (l.set k d),ps)
  |none=>none
section
variable {F:Nat→Prop} {N:Nm} {nx:Nat} {R:World} {size:Nat}
theorem Ahx {k off:Nat} {us:List A} {vs:List Value} {els els':Els} {ps:List Prop} {zs:List Value} (he:Ady k off us els=some (els',ps)) (hp:∀p∈ps,p) (hr:RowHL F N nx R els size zs) (hu:HL F N nx R us vs)
  (hk:k <els.n) (ho:off+vs.length≤size):els'.n=els.n∧RowHL F N nx R els' size (zs.take (k*size+off)++vs++zs.drop (k*size+off+vs.length)):=by
 have hle:k*size+size≤zs.length:=by rw[hr.1,←Nat.succ_mul];exact Nat.mul_le_mul_right _ hk
 have hlen:(zs.take (k*size+off)++vs++zs.drop (k*size+off+vs.length)).length=zs.length:=by
  simp only[List.length_append,List.length_take,List.length_drop]
  omega
 have hput:=HL.put (off:=off) hu (hr.2 k hk)
 have main:els'.n=els.n→(∀j,j <els.n→j≠k→els'.nth j=els.nth j)→HL F N nx R (els'.nth k) (((zs.drop (k*size)).take size).take off++vs++((zs.drop (k*size)).take size).drop (off+vs.length))→
   els'.n=els.n∧RowHL F N nx R els' size (zs.take (k*size+off)++vs++zs.drop (k*size+off+vs.length)):=fun hn hj hkk=>by
  refine⟨hn,by rw[hlen,hr.1,hn],fun j hjn=>?_⟩
  rw[hn] at hjn
  rw[Awy ho hle]
  by_cases e:j=k
  ·subst e
   rw[if_pos rfl]
   exact hkk
  ·rw[if_neg e,hj j hjn e]
   exact hr.2 j hjn
 unfold Ady at he
 split at he
 ·rename_i cs
  cases he
  refine main (by simp[Els.n]) (fun j hj e=>?_) ?_
  ·show GV _ j=GV _ j
   simp only[CX,List.getD_eq_getElem?_getD]
   rw[List.getElem?_set_ne (fun e'=>e e'.symm)]
  ·show HL F N nx R (GV _ k) _
   have hk':k <cs.length:=hk
   rw[CX,List.getD_eq_getElem?_getD,List.getElem?_set_self hk']
   exact hput
 ·rename_i c l
  split at he<;>first|(cases he;done)|skip
  rename_i d qs hd
  cases he
  refine main (by simp[Els.n]) (fun j hj e=>?_) ?_
  ·show enc c _=enc c _
   rw[List.getD_eq_getElem?_getD,List.getD_eq_getElem?_getD,List.getElem?_set_ne (fun e'=>e e'.symm)]
  ·show HL F N nx R (enc c _) _
   have hk':k <l.length:=hk
   rw[List.getD_eq_getElem?_getD,List.getElem?_set_self hk']
   exact Ti hd hp _ hput
end
section
variable {P:Program} {w:World}
theorem Aj5 {e:TypeId} {size n:Nat} {v:Value} {zs:List Value} (h:OwnR w e size v n zs) (hn:0 <n):∃g cap cur,v=.slice (some ⟨g,0,none⟩) n (cap+1)∧w.heap[g]?=some (.cells cur e (0,0))∧n≤cap+1∧cap+1≤maxLen∧cur.size=(cap+1)*size∧cur.toList.take (n*size)=zs:=by
 rcases h.2 with⟨_,_,h0⟩|h2
 ·omega
 ·exact h2
theorem Aj6 {e:TypeId} {size n g cap o:Nat} {cur:Array Value} {zs vs:List Value} (hz:zs.length=n*size) (hg:w.heap[g]?=some (.cells cur e (0,0))) (hn:n≤cap+1) (hm:cap+1≤maxLen) (hs:cur.size=(cap+1)*size) (ht:cur.toList.take (n*size)=zs) (ho:o+vs.length≤n*size):
  OwnR (w.setRow g (cur.toList.take o++vs++cur.toList.drop (o+vs.length)).toArray) e size (.slice (some ⟨g,0,none⟩) n (cap+1)) n (zs.take o++vs++zs.drop (o+vs.length)):=by
 have hle:n*size≤cur.toList.length:=by rw[Array.length_toList,hs];exact Nat.mul_le_mul_right _ hn
 refine⟨?_,.inr ⟨g,cap,_,rfl,setRow_heap w g cur _ e _ hg,hn,hm,?_,?_⟩⟩
 ·simp only[List.length_append,List.length_take,List.length_drop]
  omega
 ·simp only[List.size_toArray,List.length_append,List.length_take,List.length_drop,Array.length_toList]
  rw[Array.length_toList] at hle
  omega
 ·show List.take (n*size) (cur.toList.take o++vs++cur.toList.drop (o+vs.length))=_
  rw[←ht,List.append_assoc,List.append_assoc,List.take_append,List.take_take,List.length_take,Nat.min_eq_left (by omega:o≤cur.toList.length),Nat.min_eq_right (by omega:o≤n*size)]
  rw[List.take_append,List.take_of_length_le (by omega:vs.length≤n*size - o),List.take_take,Nat.min_eq_left (by omega:o≤n*size)]
  congr 2
  rw[List.take_drop,List.drop_take]
  congr 1
  rw[List.drop_take]
  congr 1
  omega
theorem SQ {dT sT ty e:TypeId} {i:TypeInfo} (hu:P.underlying dT=some (.slice e)) (hi:P.info? e=some i) {g o dLen dCap m:Nat} {x:Value} {cur:Array Value} {t:TypeId} {cs:List Value}
  (hlen:(Builtin.lenOf x).run P w=.ok m w) (hnew:(Builtin.firstCells i.size (Nat.min m dLen) x).run P w=.ok cs.toArray w) (hg:w.heap[g]?=some (.cells cur t (0,0)))
  (hfit:o+cs.length≤cur.size) (h1:∀v∈cs,v.oneCell'=true):
  (Builtin.copy_ #[dT,sT] ty #[.slice (some ⟨g,o,none⟩) dLen dCap,x]).run P w=.ok (goInt (Nat.min m dLen)) (w.setRow g (cur.toList.take o++cs++cur.toList.drop (o+cs.length)).toArray):=by
 have hst:=run_storeCells_at (P:=P) g o t cs 0 cur w hg (by simpa using hfit) h1
 simp only[Nat.add_zero] at hst
 have hst':∀A:Array Value,A=cs.toArray→(storeCells ⟨g,o,none⟩ A.toList).run P w=.ok () (w.setRow g (cur.toList.take o++cs++cur.toList.drop (o+cs.length)).toArray):=fun A hA=>by
  subst hA
  simpa[storeCells] using hst
 simp[Builtin.copy_,run_underlying hu,hlen,sizeOf,typeInfo,hi,hnew,hst' _ rfl]
theorem Afo {dT sT ty e:TypeId} {i:TypeInfo} (hu:P.underlying dT=some (.slice e)) (hi:P.info? e=some i) {d:Option Addr} {dLen dCap m:Nat} {x:Value}
  (hlen:(Builtin.lenOf x).run P w=.ok m w) (h0:Nat.min m dLen=0) (hnew:(Builtin.firstCells i.size 0 x).run P w=.ok #[] w):
  (Builtin.copy_ #[dT,sT] ty #[.slice d dLen dCap,x]).run P w=.ok (goInt 0) w:=by
 cases d<;>simp[Builtin.copy_,run_underlying hu,hlen,sizeOf,typeInfo,hi,h0,hnew,storeCells]
theorem Ad2 {y:Value} {size m:Nat} {us:List Value} (h:Al4 w y size m us) {w':World} (hc:∀ad v,w.cell? ad=some v→w'.cell? ad=some v):(Builtin.lenOf y).run P w'=.ok m w'∧∀k,k≤m→(Builtin.firstCells size k y).run P w'=.ok (us.take (k*size)).toArray w':=by
 obtain⟨A,c,rfl,h1⟩:=h.val
 refine⟨rfl,fun k hk=>?_⟩
 have hl:=h.len
 cases A with
 | none=>
  have hm:m=0∨0 <m:=by omega
  rcases hm with hm|hm
  ·subst hm
   have:us=[]:=List.eq_nil_of_length_eq_zero (by simpa using hl)
   subst this
   simp[Builtin.firstCells]
  ·obtain⟨ad,e,_⟩:=h.cells _ _ _ rfl hm
   cases e
 | some ad=>
  have hle:k*size≤us.length:=by rw[hl];exact Nat.mul_le_mul_right _ hk
  have hread:=run_loadCells_list (P:=P) w' ad (us.take (k*size)) (fun j u hj=>by
   have hm:0 <m:=by
    rcases Nat.eq_zero_or_pos m with h0|h0
    ·subst h0
     have:us=[]:=List.eq_nil_of_length_eq_zero (by simpa using hl)
     subst this
     rw[List.take_nil] at hj
     cases j<;>cases hj
    ·exact h0
   obtain⟨ad',e,hcell⟩:=h.cells _ _ _ rfl hm
   cases e
   rw[List.getElem?_take] at hj
   split at hj<;>first|(cases hj;done)|skip
   exact hc _ _ (hcell j u hj))
  rw[List.length_take,Nat.min_eq_left hle] at hread
  simp[Builtin.firstCells,hread]
end
theorem I7:∀{l:List A} {j:Nat} {x:A},freeL l=true→l[j]?=some x→x.free=true
 | [],j,x,_,h=>by cases j<;>cases h
 |y::r,0,x,hf,h=>by cases h;unfold freeL at hf;rw[Bool.and_eq_true] at hf;exact hf.1
 |y::r,j+1,x,hf,h=>by unfold freeL at hf;rw[Bool.and_eq_true] at hf;exact I7 (l:=r) hf.2 h
theorem Am8 (c:TC) (d:U c):∀x∈enc c d,x.free=true:=fun x hx=>by
 have:=Nb c d x hx
 cases x<;>first|(unfold A.free;rfl)|exact this.elim
section
variable {F:Nat→Prop} {N N':Nm} {nx nx':Nat} {R:World}
theorem Hv.free {x:A} {y:Value} (h:Hv F N nx R x y):x.free=true→Hv F N' nx' R x y:=by
 induction h with
 |v x=>intro _;exact .v x
 | @sl c l a cap ad h1 h2 h3 h4 ih=>intro _;exact .sl ad h1 h2 h3 fun i d j x y hd hx hy=>ih i d j x y hd hx hy (Am8 c d x (List.mem_of_getElem? hx))
 | @ref l ad h1 h2 h3 ih=>intro hf;unfold A.free at hf;exact .ref ad h1 h2 fun j x y hx hy=>ih j x y hx hy (I7 hf hx)
 |own h=>intro hf;unfold A.free at hf;cases hf
 |ownx h=>intro hf;unfold A.free at hf;cases hf
 |sq h=>intro hf;unfold A.free at hf;cases hf
 |dq h=>intro hf;unfold A.free at hf;cases hf
 |iv h=>intro hf;unfold A.free at hf;cases hf
 |de h=>intro hf;unfold A.free at hf;cases hf
 |ie h=>intro hf;unfold A.free at hf;cases hf
 |vw h=>intro hf;unfold A.free at hf;cases hf
 |el h=>intro hf;unfold A.free at hf;cases hf
 |mp h=>intro hf;unfold A.free at hf;cases hf
 |nl a=>intro _;exact .nl a
 |it q vs y h=>intro hf;unfold A.free at hf;cases hf
 |fn vs us h1 _ h3 _ ih2 ih4=>intro hf;unfold A.free at hf;rw[Bool.and_eq_true] at hf;exact .fn vs us h1 (fun j x v hx hv=>ih2 j x v hx hv (I7 hf.1 hx)) h3 fun j x v hx hv=>ih4 j x v hx hv (I7 hf.2 hx)
 |agg vs h1 _ ih=>intro hf;unfold A.free at hf;exact .agg vs h1 fun j x v hx hv=>ih j x v hx hv (I7 hf hx)
 |tup vs h1 _ ih=>intro hf;unfold A.free at hf;exact .tup vs h1 fun j x v hx hv=>ih j x v hx hv (I7 hf hx)
 |dead y=>intro hf;unfold A.free at hf;cases hf
 |av h1 h2=>intro _;exact .av h1 h2
 |rv vs h1 _ h3 ih=>intro hf;unfold A.free at hf;exact .rv vs h1 (fun j x v hx hv=>ih j x v hx hv (I7 hf hx)) h3
 |vr ad h h1=>intro hf;unfold A.free at hf;cases hf
 |vd h=>intro hf;unfold A.free at hf;cases hf
theorem HL.free:∀{xs:List A} {vs:List Value},freeL xs=true→HL F N nx R xs vs→HL F N' nx' R xs vs
 | [],_,_,h=>h
 |x::r,_,hf,⟨v,vs,h1,h2,h3⟩=>by unfold freeL at hf;rw[Bool.and_eq_true] at hf;exact⟨v,vs,h1,h2.free hf.1,HL.free hf.2 h3⟩
theorem HRel.noObj {o:Objs} (h:HRel F N nx o R):HRel F N' nx' [] R:=⟨h.flt,(fun i ob hi=>by cases hi),(fun i ob g hi=>by cases hi),(fun i j x y g hi=>by cases hi),h.gl⟩
end
theorem HRel.widen {F F':Nat→Prop} {N N':Nm} {nx:Nat} {o:Objs} {R R':World} (h:HRel F N nx o R) (hp:HRel F' N' 0 [] R') (st:Step F N 0 [] R F' N' 0 [] R'):HRel F' N nx o R'∧Step F N nx o R F' N nx o R':=
 h.frame (o1:=[]) (o1':=[]) (fun i ob hi=>by cases hi) ⟨Nat.le_refl _,fun _ _=>rfl,fun _ _=>rfl,st.f,st.fnew,fun g ⟨i,ob,hi,_⟩=>(by cases hi),st.os,st.tape,st.output,st.size,st.keep⟩ hp.noObj fun i ob hi=> .inr ⟨hi,rfl⟩
end Go.Proofs.YtifkbgkbajncjaaDoor
namespace Go.Proofs.YtifkbgkbajncjaaDoor
open Go.RowKit
theorem A44 {α:Type} {vs L:List α} {base k m:Nat} {y:α} (hk:k <m) (hlen:L.length=m) (hb:base+m≤vs.length) (h:∀j,j <m→vs[base+j]?=L[j]?):
  vs.take (base+k)++[y]++vs.drop (base+k+1)=vs.take base++L.set k y++vs.drop (base+m):=by
 have hL:L=(vs.drop base).take m:=by
  refine List.ext_getElem? fun j=>?_
  rw[List.getElem?_take]
  by_cases hj:j <m
  ·rw[if_pos hj,List.getElem?_drop,h j hj]
  ·rw[if_neg hj,List.getElem?_eq_none (by omega)]
 subst hL
 refine List.ext_getElem? fun j=>?_
 simp only[List.getElem?_append,List.length_append,List.length_take,List.length_drop,List.length_set,List.length_singleton,List.getElem?_take,List.getElem?_drop,List.getElem?_set]
 rcases Nat.lt_or_ge j base with h1|h1
 ·rw[if_pos (by omega),if_pos (by omega),if_pos (by omega),if_pos (by omega),if_pos (by omega),if_pos (by omega)]
 ·rcases Nat.lt_or_ge j (base+m) with h2|h2
  ·rcases Nat.lt_trichotomy j (base+k) with h3|h3|h3
   ·rw[if_pos (by omega),if_pos (by omega),if_pos (by omega),if_pos (by omega),if_neg (by omega),if_neg (by omega),if_pos (by omega)]
    congr 1;omega
   ·subst h3
    rw[if_pos (by omega),if_neg (by omega),if_pos (by omega),if_neg (by omega),if_pos (by omega),if_pos (by omega),show base+k - min (base+k) vs.length=0 by omega]
    rfl
   ·rw[if_neg (by omega),if_pos (by omega),if_neg (by omega),if_neg (by omega),if_pos (by omega)]
    congr 1;omega
  ·rw[if_neg (by omega),if_neg (by omega)]
   congr 1;omega
def GU (size:Nat):Nat→List A→List (List A)
 |0,_=>[]
 |n+1,l=>l.take size::GU size n (l.drop size)
theorem Jq (size:Nat):∀(n:Nat) (l:List A),(GU size n l).length=n
 |0,_=>rfl
 |n+1,l=>by unfold GU;rw[List.length_cons,Jq size n]
theorem Tc (size:Nat):∀(n:Nat) (l:List A) (k:Nat),k <n→GV (GU size n l) k=(l.drop (k*size)).take size
 |0,_,_,h=>by cases h
 |n+1,l,0,_=>by unfold GU;simp[GV]
 |n+1,l,k+1,h=>by
  unfold GU
  show GV (GU size n (l.drop size)) k=_
  rw[Tc size n _ k (by omega),List.drop_drop,Nat.succ_mul,Nat.add_comm]
def Yz (P:Program) (e:TypeId) (sz:Nat):Bool:=match P.info? e with
 |some i=>match i.zero with
  |some z=>Nat.beq i.size sz&&(Nat.beq z.cells.size sz&&(Nat.ble 1 sz&&Nat.ble i.bytes 256))
  |none=>false
 |none=>false
theorem Ad0 {P:Program} {e:TypeId} {sz:Nat} (h:Yz P e sz=true):∃i z,P.info? e=some i∧i.zero=some z∧i.size=sz∧z.cells.size=sz∧0 <sz∧i.bytes≤256:=by
 unfold Yz at h
 split at h<;>first|(cases h;done)|skip
 rename_i i hi
 split at h<;>first|(cases h;done)|skip
 rename_i z hz
 simp only[Bool.and_eq_true] at h
 obtain⟨h1,h2,h3,h4⟩:=h
 exact⟨i,z,hi,hz,Nat.eq_of_beq_eq_true h1,Nat.eq_of_beq_eq_true h2,Nat.le_of_ble_eq_true h3,Nat.le_of_ble_eq_true h4⟩
def cellsOf (s:St) (G:Guards) (v:Operand):Option (List A):=match s.ev G v with
 |some x=>match V6 x with
  |some us=>bif MM s.o us then(bif Ii us then some us else none) else none
  |none=>none
 |none=>none
def Ai (n:Nat):Prop:=n≤549755813888
instance (n:Nat):Decidable (Ai n):=inferInstanceAs (Decidable (n≤549755813888))
def Aaa (E:Env) (s:St) (e:TypeId):Option Eff:=match(E.P.info? e).bind (·.zero) with
 |some z=>some ⟨.own s.nx 0,s.nx+1,(s.nx,some (.box e (toL z.cells.toList)))::s.o,1,[]⟩
 |none=>none
def A6z:A→Option (List A)
 | .av c n l=>some [.av c n l]
 | .rv xs=>some xs
 |_=>none
def Ayr (s:St) (G:Guards) (e:TypeId) (v:Operand):Option Eff:=match s.ev G v with
 | some x=>match V6 x with
  |some us=>bif MM s.o us then some ⟨.own s.nx 0,s.nx+1,(s.nx,some (.box e us))::s.o,1,[]⟩ else none
  |none=>match A6z x with
   |some xs=>some ⟨.own s.nx 0,s.nx+1,(s.nx,some (.rcd e xs))::s.o,1,[]⟩
   |none=>none
 |none=>none
def Bad (c:TC) (n:Nat) (l:List (U c)):(c':TC)→Nat→List (U c')→Option (List (U c')×List Prop):=fun c' m _=>match TC.same c c' with
 |some h=>bif Nat.beq n m then some (IX h.down l,[]) else none
 |none=>none
def Baa (u:A) (len k:Nat):(c:TC)→Nat→List (U c)→Option (List (U c)×List Prop):=fun c n l=>bif Nat.beq n len then(match MX c [u] with
 |some (d,ps)=>some (l.set k d,(k <n)::ps)
 |none=>none) else none
def A0x (c:TC) (m:Nat) (l':List (U c)) (len k:Nat):(c':TC)→Nat→List (U c')→Option (List (U c')×List Prop):=fun c' n l=>match TC.same c c' with
 |some h=>bif Nat.beq n len then some (l.take k++(IX h.down l'++l.drop (k+m)),[k+m≤n]) else none
 |none=>none
theorem A4b {vs M:List Value} {base n:Nat} (hM:(vs.drop base).take n=M) (k m:Nat) (hkm:k+m≤n):vs.take (base+k)=vs.take base++M.take k∧vs.drop (base+k+m)=M.drop (k+m)++vs.drop (base+n):=by
 constructor
 ·rw[←hM,List.take_add,List.take_take,Nat.min_eq_left (by omega)]
 ·rw[←hM,List.drop_take,List.drop_drop]
  have e:vs.drop (base+n)=(vs.drop (base+(k+m))).drop (n - (k+m)):=by rw[List.drop_drop];congr 1;omega
  rw[e,List.take_append_drop,Nat.add_assoc]
def Bab (lo m:Nat) (b:Els):(c:TC)→Nat→List (U c)→Option (List (U c)×List Prop):=fun c n l=>match b with
 | .ty c' l2=>match TC.same c' c with
  |some h=>some (l.take lo++((IX h.down l2).take m++l.drop (lo+Nat.min l2.length m)),[lo+m≤n,0 <m])
  |none=>none
 | .lst _=>none
def ivN (o:Objs):List A→Option (List Prop)
 | []=>some []
 | .iv i k::r=>match Ak i o with
  |some (.deep _ _ l)=>match ivN o r with
   |some ps=>some ((k <l.length)::ps)
   |none=>none
  |_=>none
 |x::r=>bif Ii [x]&&MM o [x] then ivN o r else none
theorem Arf {F:Nat→Prop} {N:Nm} {nx:Nat} {o:Objs} {R:World} (h:HRel F N nx o R):∀{xs:List A} {vs:List Value} {ps:List Prop},ivN o xs=some ps→(∀p∈ps,p)→HL F N nx R xs vs→∀c∈vs,c.oneCell'=true
 | [],_,_,_,_,hl,c,hc=>by rw[hl.inv0] at hc;cases hc
 | x::r,_,ps,hi,hp,hl,c,hc=>by
  obtain⟨v,vs,rfl,h3,h4⟩:=hl.inv
  unfold ivN at hi
  split at hi
  ·rename_i heq;cases heq
  ·rename_i i k r' heq
   cases heq
   split at hi<;>first|(cases hi;done)|skip
   rename_i e c0 l hlk
   split at hi<;>first|(cases hi;done)|skip
   rename_i ps' hps
   cases hi
   rcases List.mem_cons.1 hc with rfl|hc
   ·have hk:k <l.length:=hp _ (List.mem_cons_self ..)
    obtain⟨_,col,c',zs,_,_,_,q4,_⟩:=h.ob i _ hlk
    obtain⟨l',e',us,_,k2,_⟩:=q4 k l[k] (List.getElem?_eq_getElem hk)
    obtain⟨a,cp,e1,_⟩:=k2.form
    rw[h3.iv_inv.2,e1]
    rfl
   ·exact Arf h hps (fun p hm=>hp p (List.mem_cons_of_mem _ hm)) h4 c hc
  ·rename_i x' r' _ heq
   cases heq
   cases hb:(Ii [x]&&MM o [x]) with
   |false=>rw[hb] at hi;cases hi
   |true=>
    rw[hb] at hi
    rw[Bool.and_eq_true] at hb
    rcases List.mem_cons.1 hc with rfl|hc
    ·exact U7 h hb.1 hb.2 (HL.cons h3 HL.nil) _ (List.mem_cons_self ..)
    ·exact Arf h hi hp h4 c hc
def Au9 (E:Env) (s:St) (G:Guards) (t:TypeId) (x v:Operand):Option Eff:=match s.ev G v,s.ev G x with
 | some (.av c n l),some (.own i off)=>match Ak i s.o,DG E.P t with
  |some (.rcd e xs),some m=>bif Nat.beq m n then(match MK (Bad c n l) xs off with
   |some (xs',ps)=>some ⟨.v undef,s.nx,(i,some (.rcd e xs'))::s.o,2,ps⟩
   |none=>none) else none
  |some (.box e cs),some m=>bif Nat.beq off 0&&(Nat.beq m n&&Nat.beq m cs.length) then some ⟨.v undef,s.nx,(i,some (.rcd e [.av c n l]))::s.o,2,[]⟩ else none
  |_,_=>none
 | some (.av c n l),some (.ownx i base len k)=>match Ak i s.o,DG E.P t with
  |some (.rcd e xs),some m=>bif Nat.beq m n then(match MK (A0x c n l len k) xs base with
   |some (xs',ps)=>some ⟨.v undef,s.nx,(i,some (.rcd e xs'))::s.o,2,ps⟩
   |none=>none) else none
  |_,_=>none
 |some (.rv ys),some (.own i 0)=>match Ak i s.o,DG E.P t with
  |some (.rcd e xs),some m=>bif Nat.beq m (VD ys)&&Nat.beq m (VD xs) then some ⟨.v undef,s.nx,(i,some (.rcd e ys))::s.o,2,[]⟩ else none
  |some (.box e cs),some m=>bif Nat.beq m (VD ys)&&Nat.beq m cs.length then some ⟨.v undef,s.nx,(i,some (.rcd e ys))::s.o,2,[]⟩ else none
  |_,_=>none
 |some (.agg us),some (.own i off)=>match Ak i s.o,DG E.P t,ivN s.o us with
  |some (.box e cs),some m,some ps=>bif Nat.beq m us.length&&Nat.ble (off+us.length) cs.length then some ⟨.v undef,s.nx,(i,some (.box e (Aoq off us cs)))::s.o,2,ps⟩ else none
  |_,_,_=>none
 | some (.dq j),some (.own i off)=>match Ak i s.o,DG E.P t,Ak j s.o with
  |some (.rcd e xs),some m,some (.deep _ _ _)=>bif Nat.beq m 1 then(match KI (.dq j) xs off with
   |some (xs',ps)=>some ⟨.v undef,s.nx,(i,some (.rcd e xs'))::s.o,2,ps⟩
   |none=>none) else none
  |_,_,_=>none
 |_,_=>none
def Asn (E:Env) (s:St) (G:Guards) (t:TypeId) (x v:Operand):Option Eff:=
 match cellsOf s G v with
 | some us=>match DG E.P t with
  | some n=>bif Nat.beq n us.length then(match s.ev G x with
   | some (.own i off)=>match Ak i s.o with
    |some (.box e cs)=>bif Nat.ble (off+n) cs.length then some ⟨.v undef,s.nx,(i,some (.box e (Aoq off us cs)))::s.o,2,[]⟩ else none
    |some (.rcd e xs)=>bif Nat.ble off (VD xs) then(match Akl us xs off with
     |some (xs',ps)=>some ⟨.v undef,s.nx,(i,some (.rcd e xs'))::s.o,2,ps⟩
     |none=>none) else none
    |_=>none
   | some (.ownx i base len k)=>match Ak i s.o with
    |some (.box e cs)=>match us with
     | [u]=>bif Nat.ble (base+len) cs.length then some ⟨.v undef,s.nx,(i,some (.box e (Aoq base (Aw8 k u 0 ((cs.drop base).take len)) cs)))::s.o,2,[k <len]⟩ else none
     |_=>none
    | some (.rcd e xs)=>match us with
     | [u]=>match MK (Baa u len k) xs base with
      |some (xs',ps)=>some ⟨.v undef,s.nx,(i,some (.rcd e xs'))::s.o,2,ps⟩
      |none=>none
     |_=>none
    |_=>none
   | some (.el i k sz off)=>match Ak i s.o with
    |some (.arr e size els)=>bif Nat.beq size sz then(bif Nat.ble (off+n) size then(match Ady k off us els with
     |some (els',ps)=>some ⟨.v undef,s.nx,(i,some (.arr e size els'))::s.o,2,(k <els.n)::ps⟩
     |none=>none) else none) else none
    |_=>none
   | some (.ie i k j sz off)=>match Ak i s.o with
    | some (.deep e c l)=>match Ae0 c (l.getD k (Aj c)) with
     |some ⟨c',l'⟩=>bif Nat.beq (size c') sz then(bif Nat.ble (off+n) sz then(match Ady j off us (.ty c' l') with
      |some (.ty c2 l2,ps)=>some ⟨.v undef,s.nx,(i,some (.deep e c (l.set k (Adz c c2 (l.getD k (Aj c)) l2))))::s.o,2,(k <l.length)::(j <l'.length)::ps⟩
      |_=>none) else none) else none
     |none=>none
    |_=>none
   |_=>none) else none
  |none=>none
 |none=>Au9 E s G t x v
def Aw3 (z:List A):Nat→List A
 |0=>[]
 |n+1=>z++Aw3 z n
def M1 (E:Env) (s:St) (G:Guards) (t:TypeId) (len:Nat) (parts:List (Nat×Operand)):Option Eff:=
 match E.P.underlying t with
 | some (.slice e)=>match E.P.info? e with
  | some i=>match i.zero with
   |some z=>match Aco s G parts with
    | some ps=>bif Nat.ble (len*i.size) 16777216 then(bif Nat.beq z.cells.size i.size then(bif Nat.ble 1 i.size then
      (match Ang (fun k=>some (k*i.size,i.size)) (Aw3 (toL z.cells.toList) len) ps with
      |some cs=>bif Lh s.o (.lst (GU i.size len cs)) then(bif Nat.beq len 0 then some ⟨.nl,s.nx,s.o,1,[]⟩ else some ⟨.sq s.nx,s.nx+1,(s.nx,some (.arr e i.size (.lst (GU i.size len cs))))::s.o,1,[]⟩) else none
      |none=>none) else none) else none) else none
    |none=>none
   |none=>none
  |none=>none
 |_=>none
def ZP (E:Env) (s:St) (G:Guards) (t:TypeId) (len cap:Operand):Option Eff:=
 match E.P.underlying t with
 | some (.slice e)=>match E.tc e with
  |some c=>match s.raw G len,s.raw G cap with
   | some (.int _ l),some (.int _ m)=>bif Yz E.P e (size c) then
     some ⟨.sq s.nx,s.nx+1,(s.nx,some (.arr e (size c) (.ty c (List.replicate l.toNat (Aj c)))))::s.o,1,[0≤l∧l≤m∧m≤549755813888]⟩ else none
   |_,_=>none
  |none=>none
 |_=>none
def Ayz (o:Objs) (e:TypeId) (sz:Nat):A→Option (Option Nat×Els)
 | .sq i=>match Ak i o with
  |some (.arr e' size els)=>bif Nat.beq e' e then(bif Nat.beq size sz then some (some i,els) else none) else none
  |_=>none
 | .nl=>some (none,.lst [])
 | .v x=>bif C7 x then some (none,.lst []) else none
 |_=>none
def Az2 (d:Option TypeDesc):Bool:=match d with
 |some .string=>true
 |_=>false
def A70 (d:Option TypeDesc):Bool:=match d with
 |some (.slice _)=>true
 |_=>false
def Auq (E:Env) (s:St) (G:Guards) (u:TypeId) (sz:Nat) (y:Operand):Option (Els×List Prop):=
 bif Az2 (E.P.underlying u) then(match s.raw G y with
  |some (.string b)=>bif Nat.beq sz 1 then some (.ty .u8 b.data.toList,[]) else none
  |_=>none)
 else bif A70 (E.P.underlying u) then(match s.ev G y with
  |some y'=>A8h s.o sz y'
  |none=>none) else none
def A2y (E:Env) (s:St) (G:Guards) (t u:TypeId) (x y:Operand):Option Eff:=
 match E.P.underlying t with
 | some (.slice e)=>match DG E.P e with
  | some sz=>bif Yz E.P e sz then(match Auq E s G u sz y with
   | some (b,ps)=>match s.ev G x with
    | some (.vw i z lo n true)=>match Ak i s.o with
     | some (.arr _ size els)=>bif Nat.beq z sz then(bif Nat.beq size sz then(match Aiv (Xj lo n els) b with
      |some (r,qs)=>match r.norm (E.tc e) with
       |(r',rs)=>some ⟨.sq s.nx,s.nx+1,(s.nx,some (.arr e sz r'))::s.o,1,(lo+n≤els.n∧0 <b.n∧Ai (n+b.n))::(ps++(qs++rs))⟩
      |none=>none) else none) else none
     |_=>none
    | some (.dq i)=>match Ak i s.o,b with
     |some (.deep e' c l),.lst [cs]=>bif Nat.beq e' e then(bif Nat.beq (size c) sz then(match Ayw s.o c cs with
      |some (j,d,qs)=>some ⟨.dq s.nx,s.nx+1,(s.nx,some (.deep e c (l++[d])))::(j,none)::(i,none)::s.o,2,Ai (l.length+1)::(ps++qs)⟩
      |none=>none) else none) else none
     |_,_=>none
    | some x'=>match Ayz s.o e sz x' with
     | some (d,a)=>match Aiv a b with
      |some (r,qs)=>match r.norm (E.tc e) with
       |(r',rs)=>some ⟨.sq s.nx,s.nx+1,(s.nx,some (.arr e sz r'))::Wi s.o d,bif d.isSome then 2 else 1,Ai (a.n+b.n)::(ps++(qs++rs))⟩
      |none=>none
     |none=>none
    |none=>none
   |none=>none) else none
  |none=>none
 |_=>none
def A0c (lo n:Nat) (els b:Els):Option (Els×List Prop):=match els with
 | .ty c l=>match PY c b with
  |some (m,ps)=>some (.ty c (l.take lo++(m.take n++l.drop (lo+Nat.min n m.length))),ps)
  |none=>none
 | .lst _=>none
def Atx (E:Env) (s:St) (G:Guards) (t u:TypeId) (x y:Operand):Option Eff:=
 match E.P.underlying t with
 | some (.slice e)=>match DG E.P e with
  | some sz=>bif Yz E.P e sz then(match Auq E s G u sz y with
   | some (b,ps)=>match s.ev G x with
    | some (.sq i)=>match Ak i s.o with
     |some (.arr e' size els)=>bif Nat.beq size sz then(match A0c 0 els.n els b with
      |some (r,qs)=>some ⟨.v (.int .i64 (Nat.min b.n els.n:Nat)),s.nx,(i,some (.arr e' size r))::s.o,2,ps++qs⟩
      |none=>none) else none
     |_=>none
    | some (.vw i z lo n _)=>match Ak i s.o with
     |some (.arr e' size els)=>bif Nat.beq z sz then(bif Nat.beq size sz then(match A0c lo n els b with
      |some (r,qs)=>some ⟨.v (.int .i64 (Nat.min b.n n:Nat)),s.nx,(i,some (.arr e' size r))::s.o,2,(lo+n≤els.n)::(ps++qs)⟩
      |none=>none) else none) else none
     |_=>none
    | some (.vr i base lo m)=>match Ak i s.o with
     |some (.rcd e' xs)=>bif Nat.beq sz 1 then(match MK (Bab lo m b) xs base with
      |some (xs',qs)=>some ⟨.v (.int .i64 (Nat.min b.n m:Nat)),s.nx,(i,some (.rcd e' xs'))::s.o,2,ps++qs⟩
      |none=>none) else none
     |_=>none
    |_=>none
   |none=>none) else none
  |none=>none
 |_=>none
def RM (E:Env) (s:St) (G:Guards) (src dst:TypeId) (x:Operand):Option Eff:=
 match E.P.underlying src,E.P.underlying dst with
 |some .string,some (.slice e)=>match E.P.underlying e,s.raw G x with
  |some (.int .u8),some (.string b)=>some ⟨.sl .u8 b.data.toList,s.nx,s.o,1,[]⟩
  |_,_=>none
 |_,_=>none
def Rp (E:Env) (s:St) (G:Guards) (f:Operand) (args:List Operand):Option Eff:=match Jr E f args with
 |some (_,x)=>some ⟨x,s.nx,s.o,1,[]⟩
 |none=>match Amk E s G f args with
  |some (k,x,nx',o',ps)=>some ⟨x,nx',o',bif Nat.ble k 1 then 1 else 2,ps⟩
  |none=>none
def Aki (E:Env) (s:St) (G:Guards) (t:TypeId) (x:Operand):Option Eff:=match E.P.underlying t,s.raw G x with
 |some .string,some (.string b)=>some ⟨.own s.nx 0,s.nx+1,(s.nx,some (.sit b 0))::s.o,1,[]⟩
 |_,_=>none
def Aus (s:St) (G:Guards) (it:Operand):Option Eff:=match s.ev G it with
 |some (.own i off)=>bif Nat.beq off 0 then(match Ak i s.o with
  |some (.sit b pos)=>some ⟨.it (decide (pos <b.size)) [.int .i64 (pos:Nat),.int .i32 ((Utf8.decode b pos).1:Nat)],s.nx,(i,some (.sit b (bif decide (pos <b.size) then pos+(Utf8.decode b pos).2 else pos)))::s.o,2,[]⟩
  |_=>none) else none
 |_=>none
def Ajx (E:Env) (s:St) (t:TypeId):Option Eff:=bif An0 E t then some ⟨.mp s.nx,s.nx+1,(s.nx,some (.map .str .i64 []))::s.o,1,[]⟩ else none
def Ajq (E:Env) (s:St) (G:Guards) (t:TypeId) (m k x:Operand):Option Eff:=match s.ev G m,s.raw G k,s.raw G x with
 |some y,some (.string b),some (.int .i64 n)=>match A39 s.o y with
  |some (i,l)=>bif An0 E t then some ⟨.v undef,s.nx,(i,some (.map .str .i64 (R7 l b n)))::s.o,2,[]⟩ else none
  |none=>none
 |_,_,_=>none
def Av8 (E:Env) (s:St) (G:Guards) (o:Oper):Option Eff:=
 match o.op with
 | .alloc e=>Aaa E s e
 | .box e v=>Ayr s G e v
 | .store t x v=>Asn E s G t x v
 | .buildSlice t len parts=>M1 E s G t len parts.toList
 | .makeSlice t len cap=>ZP E s G t len cap
 | .convert src dst x=>RM E s G src dst x
 | .call {callee:=.builtin .append,args,argTypes}=>match args.toList,argTypes.toList with
  | [x,y],[t,u]=>A2y E s G t u x y
  |_,_=>none
 | .call {callee:=.builtin .copy,args,argTypes}=>match args.toList,argTypes.toList with
  | [x,y],[t,u]=>Atx E s G t u x y
  |_,_=>none
 | .call {callee:=.value f,args, .. }=>Rp E s G f args.toList
 | .range t x=>Aki E s G t x
 | .next it true=>Aus s G it
 | .makeMap t none=>Ajx E s t
 | .mapUpdate t m k x=>Ajq E s G t m k x
 |_=>none
def Abr:Op→Bool
 | .alloc _=>true
 | .box _ _=>true
 | .store _ _ _=>true
 | .buildSlice _ _ _=>true
 | .makeSlice _ _ _=>true
 | .call {callee:=.builtin .append, .. }=>true
 | .call {callee:=.builtin .copy, .. }=>true
 | .range _ _=>true
 | .next _ _=>true
 | .makeMap _ _=>true
 | .mapUpdate _ _ _ _=>true
 |_=>false
def opE (E:Env) (s:St) (G:Guards) (o:Oper):Option Eff:=
 bif Abr o.op then Av8 E s G o else match A5j E s G o with
  |some (x,ps)=>some ⟨x,s.nx,s.o,0,ps⟩
  |none=>Av8 E s G o
section
variable {E:Env} {Z:Base} {F:Nat→Prop} {N:Nm} {s:St} {a:Act} {R:World} {G:Guards}
theorem Aaj (h:Rel Z F N s a R) (hG:KQ (A1 a) G) {v:Operand} {us:List A} (he:cellsOf s G v=some us):HL F N s.nx R us (a.eval v).cells.toList∧∀c∈(a.eval v).cells.toList,c.oneCell'=true:=by
 unfold cellsOf at he
 split at he<;>first|(cases he;done)|skip
 rename_i x hx
 split at he<;>first|(cases he;done)|skip
 rename_i us' hc
 cases h1:MM s.o us' with
 |false=>rw[h1] at he;cases he
 | true=>
  cases h2:Ii us' with
  |false=>rw[h1,h2] at he;cases he
  |true=>
   rw[h1,h2] at he
   cases he
   have:=Rq h.hp hc h1 (AQ h hG hx).2
   exact⟨this,U7 h.hp h2 h1 this⟩
theorem A42 (h:Rel Z F N s a R) (hG:KQ (A1 a) G) {t:TypeId} {x v:Operand} {f:Eff} (he:Au9 E s G t x v=some f) (hp:∀p∈f.ps,p):
  ∃R',(Instr.storeAt t (a.eval x) (a.eval v)).run E.P R=.ok () R'∧EK F N s.nx s.o R f undef R':=by
 unfold Au9 at he
 split at he<;>first|(cases he;done)|skip
 ·rename_i c n l i off hv hx
  have hx':=(AQ h hG hx).2.own_inv
  obtain⟨e1,e2,e3⟩:=(AQ h hG hv).2.av_inv
  split at he<;>first|(cases he;done)|skip
  rotate_left
  ·rename_i e cs m hl hm
   cases hb:(Nat.beq off 0&&(Nat.beq m n&&Nat.beq m cs.length)) with
   |false=>rw[hb] at he;cases he
   | true=>
    rw[hb] at he
    cases he
    rw[Bool.and_eq_true,Bool.and_eq_true] at hb
    obtain rfl:=Nat.eq_of_beq_eq_true hb.1
    obtain rfl:=Nat.eq_of_beq_eq_true hb.2.1
    have w2:=Nat.eq_of_beq_eq_true hb.2.2
    obtain⟨_,vs,g1,g2⟩:=h.hp.ob i _ hl
    have ec:(a.eval v).cells.toList=l.map (sv c):=by rw[e3];simp[Value.cells]
    have hlen:(a.eval v).cells.toList.length=m:=by rw[ec,List.length_map,e2]
    have l2:=g1.length
    have hrun:=Cz (P:=E.P) (t:=t) hx'.2 g2 (by rw[hm,hlen]) (by omega) (fun w hw=>by
     rw[ec] at hw
     obtain⟨d,_,rfl⟩:=List.mem_map.1 hw
     exact Ak0 e1 d)
    rw[hlen,ec,List.take_zero,List.nil_append,List.drop_of_length_le (by omega),List.append_nil] at hrun
    have hw:HW F N s.nx R [.av c m l] (l.map (sv c)):=⟨.agg (l.map (sv c)).toArray,[],by simp[Value.cells],.av e1 e2,fun e=>(by cases e),rfl⟩
    exact⟨_,hrun,Ai9 h.hp hl (fun _ hg=>hg) hw g2 fun _ _=> .v _⟩
  rename_i e xs m hl hm
  cases hb:Nat.beq m n with
  |false=>rw[hb] at he;cases he
  | true=>
   rw[hb,cond_true] at he
   obtain rfl:=Nat.eq_of_beq_eq_true hb
   split at he<;>first|(cases he;done)|skip
   rename_i xs' ps hr
   cases he
   obtain⟨_,vs,g1,g2⟩:=h.hp.ob i _ hl
   obtain⟨c',m',l1,l',q1,q2,q3,q4,_,q6⟩:=KV g1 hr
   unfold Bad at q1
   split at q1<;>first|(cases q1;done)|skip
   rename_i hh _
   obtain⟨hh⟩:=hh
   subst hh
   cases hb2:Nat.beq m m' with
   |false=>rw[hb2] at q1;cases q1
   | true=>
    rw[hb2] at q1
    cases q1
    obtain rfl:=Nat.eq_of_beq_eq_true hb2
    have ec:(a.eval v).cells.toList=l.map (sv c):=by rw[e3];simp[Value.cells]
    have hlen:(a.eval v).cells.toList.length=m:=by rw[ec,List.length_map,e2]
    have hrun:=Cz (P:=E.P) (t:=t) hx'.2 g2 (by rw[hm,hlen]) (by omega) (fun w hw=>by
     rw[ec] at hw
     obtain⟨d,_,rfl⟩:=List.mem_map.1 hw
     exact Ak0 q2 d)
    rw[hlen,ec] at hrun
    exact⟨_,hrun,Tj h.hp hl (q6 e2) g2 fun _ _=> .v _⟩
 ·rename_i c n l i base len k hv hx
  have hx':=(AQ h hG hx).2.ownx_inv
  obtain⟨e1,e2,e3⟩:=(AQ h hG hv).2.av_inv
  split at he<;>first|(cases he;done)|skip
  rename_i e xs m hl hm
  cases hb:Nat.beq m n with
  |false=>rw[hb] at he;cases he
  | true=>
   rw[hb,cond_true] at he
   obtain rfl:=Nat.eq_of_beq_eq_true hb
   split at he<;>first|(cases he;done)|skip
   rename_i xs' ps hr
   cases he
   obtain⟨_,vs,g1,g2⟩:=h.hp.ob i _ hl
   obtain⟨c',m',l1,l',q1,q2,q3,q4,q5,q6⟩:=KV g1 hr
   unfold A0x at q1
   split at q1<;>first|(cases q1;done)|skip
   rename_i hh _
   obtain⟨hh⟩:=hh
   subst hh
   cases hb2:Nat.beq m' len with
   |false=>rw[hb2] at q1;cases q1
   | true=>
    rw[hb2] at q1
    cases q1
    obtain rfl:=Nat.eq_of_beq_eq_true hb2
    have hk:k+m≤m':=hp _ (List.mem_cons_self ..)
    have ec:(a.eval v).cells.toList=l.map (sv c):=by rw[e3];simp[Value.cells]
    have hlen:(a.eval v).cells.toList.length=m:=by rw[ec,List.length_map,e2]
    have hrun:=Cz (P:=E.P) (t:=t) hx'.2 g2 (by rw[hm,hlen]) (by omega) (fun w hw=>by
     rw[ec] at hw
     obtain⟨d,_,rfl⟩:=List.mem_map.1 hw
     exact Ak0 q2 d)
    rw[hlen,ec] at hrun
    have hM:(vs.drop base).take m'=l1.map (sv c):=by
     refine List.ext_getElem? fun j=>?_
     rw[List.getElem?_take,List.getElem?_map]
     by_cases hj:j <m'
     ·rw[if_pos hj,List.getElem?_drop,List.getElem?_eq_getElem (by omega:j <l1.length),q5 j _ (List.getElem?_eq_getElem (by omega:j <l1.length))]
      rfl
     ·rw[if_neg hj,List.getElem?_eq_none (by omega)]
      rfl
    obtain⟨w1,w2⟩:=A4b hM k m hk
    have e5:vs.take (base+k)++l.map (sv c)++vs.drop (base+k+m)=vs.take base++(l1.take k++(l++l1.drop (k+m))).map (sv c)++vs.drop (base+m'):=by
     rw[w1,w2,List.map_append,List.map_append,List.map_take,List.map_drop]
     simp[List.append_assoc]
    rw[e5] at hrun
    exact⟨_,hrun,Tj h.hp hl (q6 (by rw[List.length_append,List.length_append,List.length_take,List.length_drop];show min k l1.length+(l.length+(l1.length - (k+m)))=m';omega)) g2 fun _ _=> .v _⟩
 ·rename_i ys i hv hx
  have hx':=(AQ h hG hx).2.own_inv
  obtain⟨us,e1,e2⟩:=(AQ h hG hv).2.rv_inv
  split at he<;>first|(cases he;done)|skip
  rotate_left
  ·rename_i e cs m hl hm
   cases hb:(Nat.beq m (VD ys)&&Nat.beq m cs.length) with
   |false=>rw[hb] at he;cases he
   |true=>
    rw[hb] at he
    cases he
    rw[Bool.and_eq_true] at hb
    have w1:=Nat.eq_of_beq_eq_true hb.1
    have w2:=Nat.eq_of_beq_eq_true hb.2
    obtain⟨_,vs,g1,g2⟩:=h.hp.ob i _ hl
    have ec:(a.eval v).cells.toList=us:=by rw[e1];simp[Value.cells]
    have l1:=e2.len
    have l2:=g1.length
    have hrun:=Cz (P:=E.P) (t:=t) hx'.2 g2 (by rw[hm,ec];congr 1;omega) (by rw[ec];omega) (by rw[ec];exact e2.one)
    rw[ec,List.take_zero,List.nil_append,List.drop_of_length_le (by omega),List.append_nil] at hrun
    exact⟨_,hrun,Ai9 h.hp hl (fun _ hg=>hg) e2 g2 fun _ _=> .v _⟩
  rename_i e xs m hl hm
  cases hb:(Nat.beq m (VD ys)&&Nat.beq m (VD xs)) with
  |false=>rw[hb] at he;cases he
  |true=>
   rw[hb] at he
   cases he
   rw[Bool.and_eq_true] at hb
   have w1:=Nat.eq_of_beq_eq_true hb.1
   have w2:=Nat.eq_of_beq_eq_true hb.2
   obtain⟨_,vs,g1,g2⟩:=h.hp.ob i _ hl
   have ec:(a.eval v).cells.toList=us:=by rw[e1];simp[Value.cells]
   have l1:=e2.len
   have l2:=g1.len
   have hrun:=Cz (P:=E.P) (t:=t) hx'.2 g2 (by rw[hm,ec];congr 1;omega) (by rw[ec];omega) (by rw[ec];exact e2.one)
   rw[ec,List.take_zero,List.nil_append,List.drop_of_length_le (by omega),List.append_nil] at hrun
   exact⟨_,hrun,Tj h.hp hl e2 g2 fun _ _=> .v _⟩
 ·rename_i us i off hv hx
  have hx':=(AQ h hG hx).2.own_inv
  obtain⟨vs0,e1,e2⟩:=(AQ h hG hv).2.agg_inv
  split at he<;>first|(cases he;done)|skip
  rename_i e cs m ps hl hm hi
  cases hb:(Nat.beq m us.length&&Nat.ble (off+us.length) cs.length) with
  |false=>rw[hb] at he;cases he
  |true=>
   rw[hb] at he
   cases he
   rw[Bool.and_eq_true] at hb
   have w1:=Nat.eq_of_beq_eq_true hb.1
   have w2:=Nat.le_of_ble_eq_true hb.2
   obtain⟨_,vs,g1,g2⟩:=h.hp.ob i _ hl
   have ec:(a.eval v).cells.toList=vs0:=by rw[e1];simp[Value.cells]
   have h1:∀c∈(a.eval v).cells.toList,c.oneCell'=true:=by rw[ec];exact Arf h.hp hi hp e2
   have hu:HL F N s.nx R us (a.eval v).cells.toList:=by rw[ec];exact e2
   have hlen:=hu.length
   have hvl:=g1.length
   exact⟨_,Cz hx'.2 g2 (by rw[hm];congr 1;omega) (by omega) h1,Aq2 h.hp hl (HL.put hu g1) g2⟩
 ·rename_i j i off hv hx
  have hx':=(AQ h hG hx).2.own_inv
  have hu:=(AQ h hG hv).2
  split at he<;>first|(cases he;done)|skip
  rename_i e xs m te c l hl hm hj
  cases hb:Nat.beq m 1 with
  |false=>rw[hb] at he;cases he
  | true=>
   rw[hb,cond_true] at he
   split at he<;>first|(cases he;done)|skip
   rename_i xs' ps hs
   cases he
   obtain rfl:=Nat.eq_of_beq_eq_true hb
   obtain⟨_,us,g1,g2⟩:=h.hp.ob i _ hl
   have h1c:(a.eval v).oneCell'=true:=by
    obtain⟨_,_,_,zs,_,w2,_⟩:=h.hp.ob j _ hj
    obtain⟨_,_,e1,_⟩:=w2.form
    rw[hu.dq_inv.2,e1]
    rfl
   obtain⟨q1,q2⟩:=OR hu h1c g1 hs hp
   have ec:(a.eval v).cells.toList=[a.eval v]:=FY h1c
   have hrun:=Cz (P:=E.P) (t:=t) hx'.2 g2 (by rw[hm,ec];rfl) (by rw[ec];exact q1) (fun w hw=>by
    rw[ec] at hw
    rw[List.mem_singleton.1 hw]
    exact h1c)
   rw[ec] at hrun
   have es:us.take off++([a.eval v]++us.drop (off+1))=us.set off (a.eval v):=by rw[List.set_eq_take_append_cons_drop,if_pos q1];rfl
   exact⟨_,hrun,Tj h.hp hl (by rw[←es,←List.append_assoc] at q2;exact q2) g2 fun _ _=> .v _⟩
theorem A8e (h:Rel Z F N s a R) (hG:KQ (A1 a) G) {t:TypeId} {x v:Operand} {f:Eff} (he:Asn E s G t x v=some f) (hp:∀p∈f.ps,p):
  ∃R',(Instr.storeAt t (a.eval x) (a.eval v)).run E.P R=.ok () R'∧EK F N s.nx s.o R f undef R':=by
 unfold Asn at he
 split at he
 rotate_left
 ·exact A42 h hG he hp
 rename_i us hus
 obtain⟨hu,h1⟩:=Aaj h hG hus
 have hlen:=hu.length
 split at he<;>first|(cases he;done)|skip
 rename_i n hn
 cases hb:Nat.beq n us.length with
 |false=>rw[hb] at he;cases he
 | true=>
  rw[hb] at he
  obtain rfl:=Nat.eq_of_beq_eq_true hb
  simp only[cond_true] at he
  rw[←hlen] at hn
  split at he<;>first|(cases he;done)|skip
  ·rename_i i off hx
   have hx':=(AQ h hG hx).2.own_inv
   split at he<;>first|(cases he;done)|skip
   rotate_left
   ·rename_i e xs hl
    cases hb2:Nat.ble off (VD xs) with
    |false=>rw[hb2] at he;cases he
    |true=>
     rw[hb2,cond_true] at he
     split at he<;>first|(cases he;done)|skip
     rename_i xs' ps hr
     cases he
     have hle:=Nat.le_of_ble_eq_true hb2
     obtain⟨_,vs,g1,g2⟩:=h.hp.ob i _ hl
     obtain⟨g3,g4⟩:=Ahq hu h1 g1 hr hp (by rw[g1.len];exact hle)
     exact⟨_,Cz hx'.2 g2 hn g3 h1,Tj h.hp hl g4 g2 fun _ _=> .v _⟩
   rename_i e cs hl
   cases hb2:Nat.ble (off+us.length) cs.length with
   |false=>rw[hb2] at he;cases he
   |true=>
    rw[hb2] at he
    cases he
    have hle:=Nat.le_of_ble_eq_true hb2
    obtain⟨_,vs,g1,g2⟩:=h.hp.ob i _ hl
    have hvl:=g1.length
    refine⟨_,Cz hx'.2 g2 hn (by omega) h1,Aq2 h.hp hl (HL.put hu g1) g2⟩
  ·rename_i i base len k hx
   have hx':=(AQ h hG hx).2.ownx_inv
   split at he<;>first|(cases he;done)|skip
   rotate_left
   ·rename_i e xs hl
    split at he<;>first|(cases he;done)|skip
    rename_i u
    split at he<;>first|(cases he;done)|skip
    rename_i xs' ps hr
    cases he
    obtain⟨_,vs,g1,g2⟩:=h.hp.ob i _ hl
    obtain⟨c,m,l,l',q1,q2,q3,q4,q5,q6⟩:=KV g1 hr
    unfold Baa at q1
    cases hb:Nat.beq m len with
    |false=>rw[hb] at q1;cases q1
    | true=>
     rw[hb,cond_true] at q1
     obtain rfl:=Nat.eq_of_beq_eq_true hb
     split at q1<;>first|(cases q1;done)|skip
     rename_i d qs hd
     cases q1
     have hk:k <m:=hp _ (List.mem_cons_self ..)
     obtain⟨y,ys,hy,hu1,hu2⟩:=hu.inv
     have hys:=hu2.inv0
     subst hys
     have h5:=Ti hd (fun p hm=>hp p (List.mem_cons_of_mem _ hm)) _ (HL.cons hu1 HL.nil)
     rw[Wk q2] at h5
     obtain⟨v',vs',w1,w2,_⟩:=h5.inv
     have hw:y=sv c d:=by
      cases w1
      exact w2.v_inv
     have hrun:=Cz (P:=E.P) hx'.2 g2 hn (by rw[hy];simp;omega) h1
     rw[hy] at hrun
     have e1:vs.take (base+k)++[y]++vs.drop (base+k+[y].length)=vs.take base++(l.set k d).map (sv c)++vs.drop (base+m):=by
      show vs.take (base+k)++[y]++vs.drop (base+k+1)=_
      rw[List.map_set,←hw]
      exact A44 hk (by rw[List.length_map];exact q3) q4 fun j hj=>by
       rw[List.getElem?_map,List.getElem?_eq_getElem (by omega:j <l.length),q5 j _ (List.getElem?_eq_getElem (by omega:j <l.length))]
       rfl
     rw[e1] at hrun
     exact⟨_,hrun,Tj h.hp hl (q6 (by rw[List.length_set];exact q3)) g2 fun _ _=> .v _⟩
   rename_i e cs hl
   split at he<;>first|(cases he;done)|skip
   rename_i u
   cases hb2:Nat.ble (base+len) cs.length with
   |false=>rw[hb2] at he;cases he
   | true=>
    rw[hb2] at he
    cases he
    have hle:=Nat.le_of_ble_eq_true hb2
    have hk:k <len:=hp _ (List.mem_singleton.2 rfl)
    obtain⟨_,vs,g1,g2⟩:=h.hp.ob i _ hl
    have hvl:=g1.length
    obtain⟨y,ys,hy,hu1,hu2⟩:=hu.inv
    have hys:=hu2.inv0
    subst hys
    have hsel:=Au8 hu1 ((g1.drop base).take len) (Nat.zero_le k) (by rw[List.length_take,List.length_drop];omega)
    have hput:=HL.put (off:=base) hsel g1
    rw[Nat.sub_zero] at hput
    have hl2:(((vs.drop base).take len).take k++[y]++((vs.drop base).take len).drop (k+1)).length=len:=by
     simp only[List.length_append,List.length_take,List.length_drop,List.length_cons,List.length_nil]
     omega
    rw[hl2] at hput
    have hrun:=Cz (P:=E.P) hx'.2 g2 hn (by rw[hy];simp;omega) h1
    rw[hy] at hrun
    have e1:vs.take (base+k)++[y]++vs.drop (base+k+[y].length)=vs.take base++(((vs.drop base).take len).take k++[y]++((vs.drop base).take len).drop (k+1))++vs.drop (base+len):=by
     rw[List.take_take,Nat.min_eq_left (by omega),List.drop_take,List.drop_drop]
     have e2:vs.take (base+k)=vs.take base++(vs.drop base).take k:=by rw[List.take_add]
     have e3:vs.drop (base+(k+1))=(vs.drop (base+(k+1))).take (len - (k+1))++vs.drop (base+len):=by
      have:=(List.take_append_drop (len - (k+1)) (vs.drop (base+(k+1)))).symm
      rwa[List.drop_drop,show base+(k+1)+(len - (k+1))=base+len by omega] at this
     rw[e2,show base+k+[y].length=base+(k+1) by simp;omega]
     conv=>lhs;rw[e3]
     simp[List.append_assoc]
    rw[e1] at hrun
    exact⟨_,hrun,Aq2 h.hp hl hput g2⟩
  ·rename_i i k sz off hx
   have hx':=(AQ h hG hx).2.el_inv
   split at he<;>first|(cases he;done)|skip
   rename_i e size els hl
   cases hb2:Nat.beq size sz with
   |false=>rw[hb2] at he;cases he
   |true=>
   cases hb3:Nat.ble (off+us.length) size with
   |false=>rw[hb2,hb3] at he;cases he
   | true=>
    rw[hb2,hb3] at he
    simp only[cond_true] at he
    split at he<;>first|(cases he;done)|skip
    rename_i els' qs hels
    cases he
    obtain rfl:=Nat.eq_of_beq_eq_true hb2
    have hle:=Nat.le_of_ble_eq_true hb3
    have hk:k <els.n:=hp _ (List.mem_cons_self ..)
    obtain⟨_,zs,g1,g2⟩:=h.hp.ob i _ hl
    have hr:RowHL F N s.nx R els size zs:=⟨g1.1,g2⟩
    obtain⟨r1,r2⟩:=Ahx hels (fun p hm=>hp p (List.mem_cons_of_mem _ hm)) hr hu hk (by omega)
    obtain⟨g,cap,cur,q1,q2,q3,q4,q5,q6⟩:=Aj5 g1 (by omega)
    have hkk:k*size+size≤els.n*size:=by rw[←Nat.succ_mul];exact Nat.mul_le_mul_right _ hk
    have hown:=Aj6 (w:=R) (o:=k*size+off) (vs:=(a.eval v).cells.toList) g1.1 q2 q3 q4 q5 q6 (by omega)
    rw[←q1,←r1] at hown
    have hcur:els.n*size≤cur.toList.length:=by rw[Array.length_toList,q5];exact Nat.mul_le_mul_right _ q3
    have hpl:a.eval x=.pointer (some ⟨g,k*size+off,none⟩):=by
     rw[hx'.2]
     show Value.pointer (some ((DZ (N.q i)).add _))=_
     rw[q1]
     show Value.pointer (some ((⟨g,0,none⟩:Addr).add _))=_
     rw[Bv,Nat.zero_add]
    have hrun:=Cz (P:=E.P) (R:=R) (cs:=cur.toList) hpl (by simpa using q2) hn (by omega) h1
    refine⟨_,hrun,Aq1 (R':=R.setRow g (cur.toList.take (k*size+off)++(a.eval v).cells.toList++cur.toList.drop (k*size+off+(a.eval v).cells.toList.length)).toArray) h.hp hl rfl rfl rfl (by simp) (fun g' _ hg'=>setRow_other R _ g' _ (fun e=>?_)) hown r2 fun _ _=> .v _⟩
    subst e
    rw[q1] at hg'
    exact hg' rfl
  ·rename_i i k j sz off hx
   have hx':=(AQ h hG hx).2.ie_inv
   split at he<;>first|(cases he;done)|skip
   rename_i e c l hl
   split at he<;>first|(cases he;done)|skip
   rename_i c' l' hin
   cases hb2:Nat.beq (size c') sz with
   |false=>rw[hb2] at he;cases he
   |true=>
   cases hb3:Nat.ble (off+us.length) sz with
   |false=>rw[hb2,hb3] at he;cases he
   | true=>
    rw[hb2,hb3] at he
    simp only[cond_true] at he
    split at he<;>first|(cases he;done)|skip
    rename_i c2 l2 qs hels
    cases he
    obtain rfl:=Nat.eq_of_beq_eq_true hb2
    have hle:=Nat.le_of_ble_eq_true hb3
    have hk:k <l.length:=hp _ (List.mem_cons_self ..)
    have hj:j <l'.length:=hp _ (List.mem_cons_of_mem _ (List.mem_cons_self ..))
    obtain⟨e',zs,g1,g2⟩:=Uv h.hp hl hk hin
    have hc2:∃l3:List (U c'),(Els.ty c2 l2)=.ty c' l3:=by
     unfold Ady at hels
     split at hels<;>first|(rename_i hh;cases hh;done)|skip
     rename_i hh
     cases hh
     split at hels<;>first|(cases hels;done)|skip
     injection hels with hels
     injection hels with h8 _
     exact⟨_,h8.symm⟩
    obtain⟨l3,h8⟩:=hc2
    cases h8
    have hr:RowHL F N s.nx R (.ty c' l') (size c') zs:=⟨g1.1,g2⟩
    obtain⟨r1,r2⟩:=Ahx hels (fun p hm=>hp p (List.mem_cons_of_mem _ (List.mem_cons_of_mem _ hm))) hr hu hj (by omega)
    have r1':_=l'.length:=r1
    obtain⟨g,cap,cur,q1,q2,q3,q4,q5,q6⟩:=Aj5 g1 (by omega)
    have hkk:j*size c'+size c'≤l'.length*size c':=by rw[←Nat.succ_mul];exact Nat.mul_le_mul_right _ hj
    have hown:=Aj6 (w:=R) (o:=j*size c'+off) (vs:=(a.eval v).cells.toList) g1.1 q2 q3 q4 q5 q6 (by omega)
    rw[←q1,←r1'] at hown
    have hcur:l'.length*size c'≤cur.toList.length:=by rw[show cur.toList.length=cur.size from Array.length_toList,q5];exact Nat.mul_le_mul_right _ q3
    have hpl:a.eval x=.pointer (some ⟨g,j*size c'+off,none⟩):=by
     rw[hx'.2]
     show Value.pointer (some ((DZ (J2 (N.q i) (k+1))).add _))=_
     rw[q1]
     show Value.pointer (some ((⟨g,0,none⟩:Addr).add _))=_
     rw[Bv,Nat.zero_add]
    have hrun:=Cz (P:=E.P) (R:=R) (cs:=cur.toList) hpl (by simpa using q2) hn (by omega) h1
    obtain⟨_,col,c1,_,hcol,_,_,hel,_⟩:=h.hp.ob i _ hl
    have hcc:c1=c':=by
     obtain⟨l4,_,_,w1,_⟩:=hel k _ (getD_some hk)
     unfold Ae0 at hin
     rw[hcol] at hin
     simp only at hin
     rw[w1] at hin
     cases hin
     rfl
    subst hcc
    refine⟨_,hrun,A3h (R':=R.setRow g (cur.toList.take (j*size c1+off)++(a.eval v).cells.toList++cur.toList.drop (j*size c1+off+(a.eval v).cells.toList.length)).toArray) h.hp hl hk hcol hin rfl rfl rfl (by simp) (fun g' _ hg'=>setRow_other R _ g' _ (fun e=>?_)) hown r2 fun _ _=> .v _⟩
    subst e
    rw[q1] at hg'
    exact hg' rfl
theorem Ako {F:Nat→Prop} {N:Nm} {nx:Nat} {R:World} {z:List A} {zs:List Value} (h:HL F N nx R z zs):∀n,HL F N nx R (Aw3 z n) ((List.replicate n zs).flatten)
 |0=>HL.nil
 |n+1=>by
  unfold Aw3
  rw[List.replicate_succ,List.flatten_cons]
  exact h.append (Ako h n)
theorem Mt (z:Array Value):∀n,(madeCells z (n*z.size)).toList=(List.replicate n z.toList).flatten:=fun n=>by
 apply List.ext_getElem?
 intro m
 by_cases hm:m <n*z.size
 ·have hz:0 <z.size:=by
   rcases Nat.eq_zero_or_pos z.size with h0|h0
   ·rw[h0] at hm;simp at hm
   ·exact h0
  have hmod:=Nat.mod_lt m hz
  have e1:(madeCells z (n*z.size)).toList[m]?=some z[m % z.size]:=by
   have:(madeCells z (n*z.size))[m]?=some (z[m % z.size]!):=by simp[madeCells,hm]
   rw[Array.getElem?_toList,this]
   simp[hmod]
  rw[e1]
  have key:∀(k i:Nat),i <k*z.size→((List.replicate k z.toList).flatten)[i]?=some (z[i % z.size]'(Nat.mod_lt _ hz)):=by
   intro k
   induction k with
   |zero=>intro i hi;simp at hi
   | succ k ih=>
    intro i hi
    rw[List.replicate_succ,List.flatten_cons,List.getElem?_append]
    by_cases hlt:i <z.toList.length
    ·rw[if_pos hlt]
     have hlt':i <z.size:=by simpa using hlt
     simp[hlt',Nat.mod_eq_of_lt hlt']
    ·rw[if_neg hlt]
     have hge:z.size≤i:=by simpa using hlt
     rw[Nat.succ_mul] at hi
     rw[show z.toList.length=z.size by simp,ih (i - z.size) (by omega)]
     congr 1
     have:(i - z.size) % z.size=i % z.size:=by
      conv=>rhs;rw[show i=(i - z.size)+z.size by omega,Nat.add_mod_right]
     simp only[this]
  exact(key n m hm).symm
 ·rw[List.getElem?_eq_none (by rw[Array.length_toList,size_madeCells];omega),List.getElem?_eq_none]
  simp only[List.length_flatten,List.map_replicate,Array.length_toList,List.sum_replicate_nat]
  omega
theorem Yy {P:Program} {t e:TypeId} {i:TypeInfo} {z:Value} {len:Nat} {parts:List (Nat×Value)} (hu:P.underlying t=some (.slice e)) (hi:P.info? e=some i) (hz:i.zero=some z) (hs:len*i.size≤16777216)
  {arr:Array Value} (hf:Instr.fill (fun k=>some (k*i.size,i.size)) (madeCells z.cells (len*i.size)) parts=some arr) (R:World):
  (Instr.buildSlice t len parts.toArray).run P R=.ok (.slice (some ⟨R.heap.size,0,none⟩) len len) (R.alloc (.cells arr e (0,0))):=by
 have g1:¬len*i.size >2^24:=by omega
 have hf':Instr.fill (fun k=>some (k*i.size,i.size)) (Array.map (fun k=>z.cells[k % z.cells.size]!) (Array.range (len*i.size))) parts=some arr:=hf
 by_cases g2:len*i.size=0
 ·have hz0:∀f:Nat→Value,Array.map f (Array.range 0)=#[]:=fun f=>Array.eq_empty_of_size_eq_zero (by simp)
  rw[g2,hz0] at hf'
  simp[Instr.buildSlice,run_underlying hu,sizeOf,typeInfo,hi,g2,hz0,hf',newRow]
 ·simp only[Instr.buildSlice,Sem.run_bind,run_underlying hu,Result.andThen_ok,sizeOf,typeInfo,run_program,hi,Sem.run_pure,g1,g2,if_false,zeroValue,hz,hf']
  simp[newRow]
theorem Qy (h:Rel Z F N s a R) (hG:KQ (A1 a) G) {u:TypeId} {sz:Nat} {y:Operand} {b:Els} {ps:List Prop} (he:Auq E s G u sz y=some (b,ps)) (hp:∀p∈ps,p) (hs:0 <sz):
  (∃e',E.P.underlying u=some (.slice e')∨E.P.underlying u=some .string)∧∃us,RowHL F N s.nx R b sz us∧(∀v∈us,v.oneCell'=true)∧
   ∀R',(∀ad v,R.cell? ad=some v→R'.cell? ad=some v)→(Builtin.lenOf (a.eval y)).run E.P R'=.ok b.n R'∧∀k,k≤b.n→(Builtin.firstCells sz k (a.eval y)).run E.P R'=.ok (us.take (k*sz)).toArray R':=by
 unfold Auq at he
 cases h1:Az2 (E.P.underlying u) with
 | true=>
  rw[h1] at he
  simp only[cond_true] at he
  split at he<;>first|(cases he;done)|skip
  rename_i bs hb
  cases hb1:Nat.beq sz 1 with
  |false=>rw[hb1] at he;cases he
  | true=>
   rw[hb1] at he
   cases he
   obtain rfl:=Nat.eq_of_beq_eq_true hb1
   have hu:E.P.underlying u=some .string:=by
    unfold Az2 at h1
    split at h1<;>first|(cases h1;done)|skip
    rename_i hh
    exact hh
   refine⟨⟨0,.inr hu⟩,bs.data.toList.map A4,⟨by simp[Els.n],fun k hk=>?_⟩,fun v hv=>?_,fun R' _=>?_⟩
   ·have hk':k <bs.data.toList.length:=hk
    show HL F N s.nx R (enc .u8 (bs.data.toList.getD k 0)) _
    rw[Nat.mul_one]
    have e1:((bs.data.toList.map A4).drop k).take 1=[A4 (bs.data.toList.getD k 0)]:=by
     rw[List.drop_eq_getElem_cons (by simpa using hk'),List.take_succ_cons,List.take_zero,List.getElem_map,List.getD_eq_getElem?_getD,List.getElem?_eq_getElem hk']
     rfl
    rw[e1]
    exact HL.cons (.v _) HL.nil
   ·obtain⟨b,_,rfl⟩:=List.mem_map.1 hv
    rfl
   ·rw[CS h hG hb]
    refine⟨by simp only[Builtin.lenOf,Sem.run_pure];rfl,fun k hk=>?_⟩
    have hk':k≤bs.data.toList.length:=hk
    simp only[Builtin.firstCells,Sem.run_pure]
    congr 1
    apply Array.ext'
    rw[Nat.mul_one,Array.toList_map]
    have:(bs.extract 0 k).data.toList=bs.data.toList.take k:=by
     rw[ByteArray.data_extract,Array.toList_extract,List.extract_eq_take_drop]
     simp
    rw[this,List.map_take]
    rfl
 | false=>
  rw[h1] at he
  simp only[cond_false] at he
  cases h2:A70 (E.P.underlying u) with
  |false=>rw[h2] at he;cases he
  | true=>
   rw[h2] at he
   simp only[cond_true] at he
   split at he<;>first|(cases he;done)|skip
   rename_i y' hy
   have hu:∃e',E.P.underlying u=some (.slice e'):=by
    unfold A70 at h2
    split at h2<;>first|(cases h2;done)|skip
    rename_i e' hh
    exact⟨e',hh⟩
   obtain⟨e',hu⟩:=hu
   obtain⟨us,g1,g2,g3⟩:=A48 h.hp he hp (AQ h hG hy).2 hs
   exact⟨⟨e',.inl hu⟩,us,g2,g3,fun R' hc=>Ad2 g1 hc⟩
end
end Go.Proofs.YtifkbgkbajncjaaDoor
namespace Go.Proofs.YtifkbgkbajncjaaDoor
open Go.RowKit
section
variable {E:Env} {Z:Base} {F:Nat→Prop} {N:Nm} {s:St} {a:Act} {R:World} {G:Guards}
theorem QI {w:World} {e:TypeId} {sz n cap:Nat} {cur:Array Value} {zs:List Value} (hz:zs.length=n*sz) (hc:cur.size=cap*sz) (hm:cap≤maxLen) (hn:n≤cap) (ht:cur.toList.take (n*sz)=zs) {g:Nat} (hg:w.heap[g]?=some (.cells cur e (0,0))):
  OwnR w e sz (.slice (some ⟨g,0,none⟩) n cap) n zs:=by
 cases cap with
 |zero=>
  have:n=0:=by omega
  subst this
  exact⟨hz,.inl ⟨_,rfl,rfl⟩⟩
 |succ c=>exact⟨hz,.inr ⟨g,c,cur,rfl,hg,hn,hm,hc,ht⟩⟩
theorem Amc {t u ty e e':TypeId} {i:TypeInfo} {z:Value} (ht:E.P.underlying t=some (.slice e)) (hu:E.P.underlying u=some (.slice e')∨E.P.underlying u=some .string) (hi:E.P.info? e=some i) (hz:i.zero=some z) (hzs:z.cells.size=i.size) (hby:i.bytes≤256)
  {b:Option Addr} {n cap m:Nat} {x:Value} {zs us:List Value} (hzl:zs.length=n*i.size) (hul:us.length=m*i.size) (hold:(Builtin.firstCells i.size n (.slice b n cap)).run E.P R.drew=.ok zs.toArray R.drew)
  (hlen:(Builtin.lenOf x).run E.P R=.ok m R) (hnew:(Builtin.firstCells i.size m x).run E.P R.drew=.ok us.toArray R.drew) (hg:cap <n+m) (hbd:Ai (n+m)):
  ∃v' R',(Builtin.append_ #[t,u] ty #[.slice b n cap,x]).run E.P R=.ok v' R'∧OwnR R' e i.size v' (n+m) (zs++us)∧Below R.heap.size R R'∧∀g,BO v'=some g→R.heap.size≤g:=by
 have hbd':n+m≤549755813888:=hbd
 have hb2:(n+m)*i.bytes≤140737488355328:=Nat.le_trans (Nat.mul_le_mul hbd' hby) (by decide)
 have hrun:=Akr (P:=E.P) (w:=R) t u ty e i z ht hu hi hz b n cap m x zs us hold hlen hnew hg (by omega) (growslice_fits hg hb2)
 refine⟨_,_,hrun,?_,((Below.refl _ R).drew).trans ⟨rfl,rfl,rfl,by simp,fun k hk=>Below.heap_alloc R.drew _ k hk⟩,fun g hg=>?_⟩
 ·have hge:=grownCap_ge R (n+m) cap e
  have hmx:maxLen=9223372036854775807:=rfl
  have hcm:grownCap R (n+m) cap e≤maxLen:=grownCap_le_maxLen R (n+m) cap e (by omega)
  refine QI (cur:=zs.toArray++us.toArray++Builtin.zeroCells z.cells (grownCap R (n+m) cap e - (n+m))) ?_ ?_ hcm hge ?_ (heap_alloc_new R.drew _)
  ·rw[List.length_append,hzl,hul,Nat.add_mul]
  ·simp only[Array.size_append,List.size_toArray,size_zeroCells,hzs,hzl,hul,←Nat.add_mul]
   congr 1
   omega
  ·simp only[Array.toList_append]
   have:(n+m)*i.size=(zs++us).length:=by rw[List.length_append,hzl,hul,Nat.add_mul]
   rw[this]
   exact List.take_left
 ·generalize grownCap R (n+m) cap e=c at hg
  cases c with
  |zero=>cases hg
  |succ c=>cases hg;exact Nat.le_refl _
theorem Ru {ad:Addr} {v:Value} (h:R.cell? ad=some v):R.drew.cell? ad=some v:=h
def Axh (E:Env) (R:World) (t u ty e:TypeId) (sz:Nat) (v0 x:Value) (k:Nat) (zs:List Value):Prop:=∃v' R',(Builtin.append_ #[t,u] ty #[v0,x]).run E.P R=.ok v' R'∧OwnR R' e sz v' k zs∧R'.os=R.os∧R'.tape=R.tape∧R'.output=R.output∧R.heap.size≤R'.heap.size∧
   (∀g,g <R.heap.size→BO v0≠some g→R'.heap[g]?=R.heap[g]?)∧∀g,BO v'=some g→R.heap.size≤g∨BO v0=some g
theorem Atp {t u ty e e':TypeId} {i:TypeInfo} {z:Value} (ht:E.P.underlying t=some (.slice e)) (hu:E.P.underlying u=some (.slice e')∨E.P.underlying u=some .string) (hi:E.P.info? e=some i) (hz:i.zero=some z) (hzs:z.cells.size=i.size) (hby:i.bytes≤256)
  {v0:Value} {n m:Nat} {x:Value} {zs us:List Value} (h0:OwnR R e i.size v0 n zs) (hul:us.length=m*i.size) (h1:∀v∈us,v.oneCell'=true)
  (hx:∀R',(∀ad v,R.cell? ad=some v→R'.cell? ad=some v)→(Builtin.lenOf x).run E.P R'=.ok m R'∧∀k,k≤m→(Builtin.firstCells i.size k x).run E.P R'=.ok (us.take (k*i.size)).toArray R') (hbd:Ai (n+m)):
  Axh E R t u ty e i.size v0 x (n+m) (zs++us):=by
 obtain⟨hl1,hf1⟩:=hx R fun _ _ h=>h
 obtain⟨_,hf2⟩:=hx R.drew fun _ _ h=>Ru h
 have hfull:us.take (m*i.size)=us:=by rw[←hul];exact List.take_length
 have hf1':=hf1 m (Nat.le_refl _)
 have hf2':=hf2 m (Nat.le_refl _)
 rw[hfull] at hf1' hf2'
 have grow:∀b cap,v0=.slice b n cap→(Builtin.firstCells i.size n (.slice b n cap)).run E.P R.drew=.ok zs.toArray R.drew→cap <n+m→Axh E R t u ty e i.size v0 x (n+m) (zs++us):=fun b cap e0 hold hlt=>by
  obtain⟨v',R',g1,g2,g3,g4⟩:=Amc (R:=R) (E:=E) (ty:=ty) ht hu hi hz hzs hby h0.1 hul hold hl1 hf2' hlt hbd
  rw[←e0] at g1
  exact⟨v',R',g1,g2,g3.os,g3.tape,g3.output,g3.size,fun g hg _=>g3.block g hg,fun g hg=> .inl (g4 g hg)⟩
 have hrd:=(Ad2 (P:=E.P) (Anm h0) (w':=R.drew) fun _ _ h=>Ru h).2 n (Nat.le_refl _)
 have hzfull:zs.take (n*i.size)=zs:=by rw[←h0.1];exact List.take_length
 rw[hzfull] at hrd
 rcases h0.2 with⟨b,e0,n0⟩|⟨g,cap,cur,e0,q2,q3,q4,q5,q6⟩
 ·subst n0
  by_cases hm:m=0
  ·subst hm
   have hus:us=[]:=List.eq_nil_of_length_eq_zero (by simpa using hul)
   subst hus
   have:=Aks (P:=E.P) (w:=R) t u ty e i ht hu hi b x hl1 (by simpa using hf1 0 (Nat.le_refl _))
   rw[←e0] at this
   exact⟨v0,R,this,by simpa using h0,rfl,rfl,rfl,Nat.le_refl _,fun _ _ _=>rfl,fun g hg=> .inr hg⟩
  ·rw[e0] at hrd
   exact grow b 0 e0 hrd (by omega)
 ·by_cases hroom:n+m≤cap+1
  ·have hfit:n*i.size+us.length≤cur.size:=by rw[hul,q5,←Nat.add_mul];exact Nat.mul_le_mul_right _ hroom
   have hrun:=Akt (P:=E.P) (w:=R) t u ty e i ht hu hi g n (cap+1) m x cur q2 us hl1 hf1' h1 hroom hfit
   rw[←e0] at hrun
   refine⟨_,_,hrun,?_,rfl,rfl,rfl,by simp,fun g' _ hg'=>setRow_other R _ g' _ (fun e=>hg' (by subst e;rw[e0];rfl)),fun g' hg'=> .inr (by rw[e0];exact hg')⟩
   refine QI (by rw[List.length_append,h0.1,hul,Nat.add_mul]) ?_ q4 hroom ?_ (setRow_heap R g cur _ e _ q2)
   ·simp only[List.size_toArray,List.length_append,List.length_take,List.length_drop,Array.length_toList]
    omega
   ·show List.take ((n+m)*i.size) (cur.toList.take (n*i.size)++us++cur.toList.drop (n*i.size+us.length))=_
    rw[q6]
    have:(n+m)*i.size=(zs++us).length:=by rw[List.length_append,h0.1,hul,Nat.add_mul]
    rw[this]
    exact List.take_left
  ·rw[e0] at hrd
   exact grow _ _ e0 hrd (by omega)
theorem A3f (h:HRel F N s.nx s.o R) {e:TypeId} {sz:Nat} {x:A} {v:Value} {d:Option Nat} {els:Els} (he:Ayz s.o e sz x=some (d,els)) (hx:Hv F N s.nx R x v):
  ∃zs,OwnR R e sz v els.n zs∧RowHL F N s.nx R els sz zs∧(∀i,d=some i→(∃e' s' els',Ak i s.o=some (.arr e' s' els'))∧v=N.q i)∧(d=none→BO v=none):=by
 unfold Ayz at he
 split at he<;>first|(cases he;done)|skip
 ·rename_i i
  split at he<;>first|(cases he;done)|skip
  rename_i e' size els' hl
  cases hb:Nat.beq e' e with
  |false=>rw[hb] at he;cases he
  | true=>
   cases hb2:Nat.beq size sz with
   |false=>rw[hb,hb2] at he;cases he
   |true=>
    rw[hb,hb2] at he
    cases he
    obtain rfl:=Nat.eq_of_beq_eq_true hb
    obtain rfl:=Nat.eq_of_beq_eq_true hb2
    obtain⟨_,zs,g1,g2⟩:=h.ob i _ hl
    rw[hx.sq_inv.2]
    exact⟨zs,g1,⟨g1.1,g2⟩,(fun j hj=>by cases hj;exact⟨⟨_,_,_,hl⟩,rfl⟩),fun e=>by cases e⟩
 ·cases he
  obtain⟨b,rfl⟩:=hx.nl_inv
  exact⟨[],⟨by simp[Els.n],.inl ⟨b,rfl,rfl⟩⟩,.nil,(fun j hj=>by cases hj),fun _=>by cases b<;>rfl⟩
 ·rename_i x
  cases hb:C7 x with
  |false=>rw[hb] at he;cases he
  |true=>
   rw[hb] at he
   cases he
   rw[hx.v_inv,Fi hb]
   exact⟨[],⟨by simp[Els.n],.inl ⟨none,rfl,rfl⟩⟩,.nil,(fun j hj=>by cases hj),fun _=>rfl⟩
theorem A7h (h:Rel Z F N s a R) (hG:KQ (A1 a) G) {t u ty:TypeId} {x y:Operand} {f:Eff} (he:A2y E s G t u x y=some f) (hp:∀p∈f.ps,p):
  ∃v R',(Builtin.append_ #[t,u] ty #[a.eval x,a.eval y]).run E.P R=.ok v R'∧EK F N s.nx s.o R f v R':=by
 unfold A2y at he
 split at he<;>first|(cases he;done)|skip
 rename_i e ht
 split at he<;>first|(cases he;done)|skip
 rename_i sz hsz
 cases hsd:Yz E.P e sz with
 |false=>rw[hsd] at he;cases he
 | true=>
  rw[hsd] at he
  simp only[cond_true] at he
  obtain⟨i,z,hi,hz,rfl,hzs,hpos,hby⟩:=Ad0 hsd
  split at he<;>first|(cases he;done)|skip
  rename_i b ps hb
  split at he
  ·rename_i j z' lo n hx
   obtain⟨_,aa,cap,q1,q2,q3,q4⟩:=(AQ h hG hx).2.vw_inv
   split at he<;>first|(cases he;done)|skip
   rename_i e0 size els hl
   cases hb0:Nat.beq z' i.size with
   |false=>rw[hb0] at he;cases he
   |true=>
   cases hb1:Nat.beq size i.size with
   |false=>rw[hb0,hb1] at he;cases he
   | true=>
    rw[hb0,hb1] at he
    simp only[cond_true] at he
    split at he<;>first|(cases he;done)|skip
    rename_i r qs hcat
    cases he
    generalize hnorm:r.norm (E.tc e)=nn at*
    obtain⟨r',rs⟩:=nn
    obtain rfl:=Nat.eq_of_beq_eq_true hb0
    obtain rfl:=Nat.eq_of_beq_eq_true hb1
    obtain⟨hle,hm0,hbd⟩:=hp _ (List.mem_cons_self ..)
    have hp1:∀p∈ps,p:=fun p hm=>hp p (List.mem_cons_of_mem _ (List.mem_append.2 (.inl hm)))
    have hp2:∀p∈qs,p:=fun p hm=>hp p (List.mem_cons_of_mem _ (List.mem_append.2 (.inr (List.mem_append.2 (.inl hm)))))
    have hp3:∀p∈rs,p:=fun p hm=>hp p (List.mem_cons_of_mem _ (List.mem_append.2 (.inr (List.mem_append.2 (.inr hm)))))
    obtain⟨⟨e',hu⟩,us,g1,g2,g3⟩:=Qy h hG hb hp1 hpos
    obtain⟨_,zs,r1,r2⟩:=h.hp.ob j _ hl
    have hr:RowHL F N s.nx R els i.size zs:=⟨r1.1,r2⟩
    have hsub:=hr.sub hle
    obtain⟨c1,c2⟩:=Ago hcat hp2 hsub g1
    obtain⟨d1,d2⟩:=Aut hnorm hp3 c2
    rw[Ah4 hle] at c1
    obtain⟨hl1,_⟩:=g3 R fun _ _ h=>h
    obtain⟨_,hf2⟩:=g3 R.drew fun _ _ h=>Ru h
    have hful:us.take (b.n*i.size)=us:=by rw[←g1.1];exact List.take_length
    have hf2':=hf2 b.n (Nat.le_refl _)
    rw[hful] at hf2'
    have hflat:Al4 R (.slice aa n cap) i.size n ((zs.drop (lo*i.size)).take (n*i.size)):=⟨by rw[hsub.1,Ah4 hle],⟨aa,cap,rfl,q2⟩,fun A m c e hn=>by
     cases e
     refine⟨_,q4 hn,fun k v hv=>?_⟩
     obtain⟨g,c2,p1,_,p3,_,p5⟩:=EE r1 (by omega)
     rw[p3,Bv,Bv,Nat.zero_add]
     rw[List.getElem?_take] at hv
     split at hv<;>first|(cases hv;done)|skip
     rw[List.getElem?_drop] at hv
     exact p5 _ v hv⟩
    have hrd:=(Ad2 (P:=E.P) hflat (w':=R.drew) fun _ _ h=>Ru h).2 n (Nat.le_refl _)
    rw[List.take_take,Nat.min_self] at hrd
    have hcap:cap=n:=q3 rfl
    obtain⟨v',R',k1,k2,k3,k4⟩:=Amc (R:=R) (E:=E) (ty:=ty) ht hu hi hz hzs hby hflat.len g1.1 hrd hl1 hf2' (by omega) hbd
    rw[q1]
    refine⟨v',R',k1,?_⟩
    have hrow:=Aja (k:=1) (ps:=(lo+n≤els.n∧0 <b.n∧Ai (n+b.n))::(ps++(qs++rs))) (d:=none) (e:=e) (els:=r') (v:=v') h.hp k3.os k3.tape k3.output k3.size (fun _ e=>by cases e) (fun g hg _=>k3.block g hg) (by rw[d1,c1];exact k2) d2 (fun g hg=> .inl (k4 g hg)) (fun _=>rfl)
    exact hrow
  ·rename_i j hx
   split at he<;>first|(cases he;done)|skip
   rename_i e1 c l cs hl
   cases hb1:Nat.beq e1 e with
   |false=>rw[hb1] at he;cases he
   |true=>
   cases hb2:Nat.beq (size c) i.size with
   |false=>rw[hb1,hb2] at he;cases he
   | true=>
    rw[hb1,hb2] at he
    simp only[cond_true] at he
    split at he<;>first|(cases he;done)|skip
    rename_i q d qs hd
    cases he
    obtain rfl:=Nat.eq_of_beq_eq_true hb1
    have hsz2:=Nat.eq_of_beq_eq_true hb2
    have hbd:Ai (l.length+1):=hp _ (List.mem_cons_self ..)
    have hp1:∀p∈ps,p:=fun p hm=>hp p (List.mem_cons_of_mem _ (List.mem_append.2 (.inl hm)))
    have hp2:∀p∈qs,p:=fun p hm=>hp p (List.mem_cons_of_mem _ (List.mem_append.2 (.inr hm)))
    obtain⟨⟨e',hu⟩,us,g1,g2,g3⟩:=Qy h hG hb hp1 hpos
    obtain⟨hjn,zs,r1,r2⟩:=Uw h.hp hl
    rw[hsz2] at r1
    have hul:us.length=1*i.size:=g1.1
    obtain⟨v',R',k1,k2,k3,k4,k5,k6,k7,k8⟩:=Atp (E:=E) (ty:=ty) ht hu hi hz hzs hby r1 hul g2 g3 hbd
    rw[(AQ h hG hx).2.dq_inv.2]
    have hus:HL F N s.nx R cs us:=by
     have:=g1.2 0 (Nat.succ_pos 0)
     have e1:(us.drop (0*i.size)).take i.size=us:=by rw[Nat.zero_mul,List.drop_zero];exact List.take_of_length_le (by omega)
     rw[e1] at this
     exact this
    rw[←hsz2] at r1 k2
    exact⟨v',R',k1,A3g h.hp hl hd hp2 hus (by rw[hul,hsz2,Nat.one_mul]) r1 r2 k3 k4 k5 k6 k7 k2 k8⟩
  ·rename_i x' hnv hndq hx
   split at he<;>first|(cases he;done)|skip
   rename_i d els hd
   split at he<;>first|(cases he;done)|skip
   rename_i r qs hcat
   cases he
   generalize hnorm:r.norm (E.tc e)=nn at*
   obtain⟨r',rs⟩:=nn
   have hbd:Ai (els.n+b.n):=hp _ (List.mem_cons_self ..)
   have hp1:∀p∈ps,p:=fun p hm=>hp p (List.mem_cons_of_mem _ (List.mem_append.2 (.inl hm)))
   have hp2:∀p∈qs,p:=fun p hm=>hp p (List.mem_cons_of_mem _ (List.mem_append.2 (.inr (List.mem_append.2 (.inl hm)))))
   have hp3:∀p∈rs,p:=fun p hm=>hp p (List.mem_cons_of_mem _ (List.mem_append.2 (.inr (List.mem_append.2 (.inr hm)))))
   obtain⟨⟨e',hu⟩,us,g1,g2,g3⟩:=Qy h hG hb hp1 hpos
   obtain⟨zs,r1,r2,r3,r4⟩:=A3f h.hp hd (AQ h hG hx).2
   obtain⟨c1,c2⟩:=Ago hcat hp2 r2 g1
   obtain⟨d1,d2⟩:=Aut hnorm hp3 c2
   obtain⟨v',R',k1,k2,k3,k4,k5,k6,k7,k8⟩:=Atp (E:=E) (ty:=ty) ht hu hi hz hzs hby r1 g1.1 g2 g3 hbd
   refine⟨v',R',k1,Aja h.hp k3 k4 k5 k6 (fun j hj=>(r3 j hj).1) (fun g hg hn=>k7 g hg fun e=>?_) (by rw[d1,c1];exact k2) d2 (fun g hg=>?_) (fun hk=>?_)⟩
   ·cases d with
    |none=>rw[r4 rfl] at e;cases e
    |some j=>
     rw[(r3 j rfl).2] at e
     exact hn j rfl e
   ·rcases k8 g hg with h1|h1
    ·exact .inl h1
    ·cases d with
     |none=>rw[r4 rfl] at h1;cases h1
     |some j=>exact .inr ⟨j,rfl,by rw[←(r3 j rfl).2];exact h1⟩
   ·cases d with
    |none=>rfl
    |some j=>cases hk with|step hk=>cases hk
  ·cases he
theorem Wo:∀{ps:List (Nat×Value)} {A0 arr:Array Value} {pl:Nat→Option (Nat×Nat)},Instr.fill pl A0 ps=some arr→arr.size=A0.size
 | [],A0,arr,pl,hf=>by simp only[Instr.fill] at hf;cases hf;rfl
 | (k,v)::r,A0,arr,pl,hf=>by
  unfold Instr.fill at hf
  split at hf<;>first|(cases hf;done)|skip
  split at hf
  ·cases hf
  ·rw[Wo hf]
   have key:∀(l:List (Value×Nat)) (off:Nat) (c:Array Value),(l.foldl (fun(c:Array Value) (p:Value×Nat)=>c.setIfInBounds (off+p.2) p.1) c).size=c.size:=by
    intro l
    induction l with
    |nil=>intro off c;rfl
    |cons p r ih=>intro off c;rw[List.foldl_cons,ih];simp
   rw[←Array.foldl_toList]
   exact key _ _ _
theorem Aqj (h:Rel Z F N s a R) (hG:KQ (A1 a) G) {t:TypeId} {len:Nat} {parts:Array (Nat×Operand)} {f:Eff} (he:M1 E s G t len parts.toList=some f):
  ∃v R',(Instr.buildSlice t len (parts.map fun(i,x)=>(i,a.eval x))).run E.P R=.ok v R'∧EK F N s.nx s.o R f v R':=by
 unfold M1 at he
 split at he<;>first|(cases he;done)|skip
 rename_i e hu
 split at he<;>first|(cases he;done)|skip
 rename_i i hi
 split at he<;>first|(cases he;done)|skip
 rename_i z hz
 split at he<;>first|(cases he;done)|skip
 rename_i ps hps
 cases h1:Nat.ble (len*i.size) 16777216 with
 |false=>rw[h1] at he;cases he
 |true=>
 cases h2:Nat.beq z.cells.size i.size with
 |false=>rw[h1,h2] at he;cases he
 |true=>
 cases h3:Nat.ble 1 i.size with
 |false=>rw[h1,h2,h3] at he;cases he
 | true=>
  rw[h1,h2,h3] at he
  simp only[cond_true] at he
  split at he<;>first|(cases he;done)|skip
  rename_i cs hcs
  cases h4:Lh s.o (.lst (GU i.size len cs)) with
  |false=>rw[h4] at he;cases he
  | true=>
   rw[h4] at he
   simp only[cond_true] at he
   have g1:=Nat.le_of_ble_eq_true h1
   have g2:=Nat.eq_of_beq_eq_true h2
   have g3:0 <i.size:=Nat.le_of_ble_eq_true h3
   have hparts:=RG h hG hps
   have hz0:HL F N s.nx R (Aw3 (toL z.cells.toList) len) (madeCells z.cells (len*i.size)).toList:=by
    rw[←g2,Mt]
    exact Ako (HL.toL _) len
   obtain⟨arr,q1,q2⟩:=PZ hcs hparts hz0
   have hl:(parts.map fun(i,x)=>(i,a.eval x))=(parts.toList.map fun(i,x)=>(i,a.eval x)).toArray:=by rw[←Array.toList_map,Array.toArray_toList]
   have hrun:=Yy hu hi hz g1 q1 R
   rw[←hl] at hrun
   refine⟨_,_,hrun,?_⟩
   cases h5:Nat.beq len 0 with
   |true=>
    rw[h5] at he
    cases he
    obtain rfl:=Nat.eq_of_beq_eq_true h5
    have hb:Below R.heap.size R (R.alloc (.cells arr e (0,0))):=LI _
    exact⟨F,N,(h.hp.grow hb).1,Step.of_below hb,.nl _,fun _=>hb⟩
   |false=>
   rw[h5] at he
   cases he
   have hasz:arr.size=len*i.size:=by rw[Wo q1,size_madeCells]
   have hrow:RowHL F N s.nx R (.lst (GU i.size len cs)) i.size arr.toList:=by
    have hn:(Els.lst (GU i.size len cs)).n=len:=Jq _ _ _
    refine⟨by rw[hn,Array.length_toList,hasz],fun k hk=>?_⟩
    rw[hn] at hk
    show HL F N s.nx R (GV (GU i.size len cs) k) _
    rw[Tc _ _ _ _ hk]
    exact(q2.drop _).take _
   have hn:(Els.lst (GU i.size len cs)).n=len:=Jq _ _ _
   have hmx:len≤maxLen:=by
    have h5:len≤len*i.size:=Nat.le_mul_of_pos_right _ g3
    have hmx:maxLen=9223372036854775807:=rfl
    omega
   refine Aja (d:=none) (v:=.slice (some ⟨R.heap.size,0,none⟩) len len) h.hp rfl rfl rfl (by simp) (fun _ e=>by cases e) (fun g hg _=>Below.heap_alloc R _ g hg) ?_ hrow (fun g hg=> .inl ?_) (fun _=>rfl)
   ·rw[hn]
    exact QI (by rw[Array.length_toList,hasz]) hasz hmx (Nat.le_refl _) (List.take_of_length_le (by rw[Array.length_toList,hasz];exact Nat.le_refl _)) (heap_alloc_new R _)
   ·cases len with
    |zero=>cases hg
    |succ n=>cases hg;exact Nat.le_refl _
theorem Awn (ok:EnvOk E) (h:Rel Z F N s a R) (hG:KQ (A1 a) G) {t:TypeId} {len cap:Operand} {f:Eff} (he:ZP E s G t len cap=some f) (hp:∀p∈f.ps,p):
  ∃v R',(Instr.makeSlice t (a.eval len) (a.eval cap)).run E.P R=.ok v R'∧EK F N s.nx s.o R f v R':=by
 unfold ZP at he
 split at he<;>first|(cases he;done)|skip
 rename_i e hu
 split at he<;>first|(cases he;done)|skip
 rename_i c hc
 split at he<;>first|(cases he;done)|skip
 rename_i k1 l k2 m hl hm
 cases hsd:Yz E.P e (size c) with
 |false=>rw[hsd] at he;cases he
 | true=>
  rw[hsd] at he
  cases he
  obtain⟨i,z,hi,hz,hs1,hzs,hpos,hby⟩:=Ad0 hsd
  obtain⟨i',hi',_,_,z',hz',hzc⟩:=ok.tc e c hc
  rw[hi] at hi'
  cases hi'
  rw[hz] at hz'
  cases hz'
  obtain⟨h0,h1,h2⟩:=hp _ (List.mem_singleton.2 rfl)
  have hbm:(i.bytes:Int)*m≤281474976710656:=by
   have a1:(i.bytes:Int)*m≤256*m:=Int.mul_le_mul_of_nonneg_right (by omega) (by omega)
   omega
  have hrun:=run_make (P:=E.P) R t e i z hu hi hz k1 k2 l m h0 h1 hbm (by omega)
  rw[CS h hG hl,CS h hG hm]
  refine⟨_,_,hrun,?_⟩
  have hn:(Els.ty c (List.replicate l.toNat (Aj c))).n=l.toNat:=by simp[Els.n]
  have hzl:z.cells.toList.length=size c:=by rw[Array.length_toList,hzs]
  have hmade:∀n,(madeCells z.cells (n*i.size)).toList=(List.replicate n z.cells.toList).flatten:=fun n=>by
   rw[hs1,←hzs]
   exact Mt _ _
  have hflen:∀n,((List.replicate n z.cells.toList).flatten).length=n*size c:=fun n=>by
   simp only[List.length_flatten,List.map_replicate,hzl,List.sum_replicate_nat]
  have htake:∀(k n:Nat),k≤n→((List.replicate n z.cells.toList).flatten).take (k*size c)=(List.replicate k z.cells.toList).flatten:=fun k n hkn=>by
   have:List.replicate n z.cells.toList=List.replicate k z.cells.toList++List.replicate (n - k) z.cells.toList:=by rw[List.replicate_append_replicate];congr 1;omega
   rw[this,List.flatten_append]
   have e1:k*size c=((List.replicate k z.cells.toList).flatten).length:=(hflen k).symm
   rw[e1]
   exact List.take_left
  have hdrop:∀(k n:Nat),k≤n→((List.replicate n z.cells.toList).flatten).drop (k*size c)=(List.replicate (n - k) z.cells.toList).flatten:=fun k n hkn=>by
   have:List.replicate n z.cells.toList=List.replicate k z.cells.toList++List.replicate (n - k) z.cells.toList:=by rw[List.replicate_append_replicate];congr 1;omega
   rw[this,List.flatten_append]
   have e1:k*size c=((List.replicate k z.cells.toList).flatten).length:=(hflen k).symm
   rw[e1]
   exact List.drop_left
  have hrow:RowHL F N s.nx R (.ty c (List.replicate l.toNat (Aj c))) (size c) ((List.replicate l.toNat z.cells.toList).flatten):=by
   refine⟨by rw[hn,hflen],fun k hk=>?_⟩
   rw[hn] at hk
   rw[hdrop k _ (by omega),show l.toNat - k=(l.toNat - k - 1)+1 by omega,List.replicate_succ,List.flatten_cons,show size c=z.cells.toList.length from hzl.symm,List.take_left]
   show HL F N s.nx R (enc c _) _
   rw[List.getD_eq_getElem?_getD,List.getElem?_replicate,if_pos hk]
   exact hzc F N s.nx R
  refine Aja (d:=none) (v:=.slice (some ⟨R.heap.size,0,none⟩) l.toNat m.toNat) h.hp rfl rfl rfl (by simp) (fun _ e=>by cases e) (fun g hg _=>Below.heap_alloc R _ g hg) ?_ hrow (fun g hg=> .inl ?_) (fun _=>rfl)
  ·rw[hn]
   have hmx:maxLen=9223372036854775807:=rfl
   refine QI (cur:=madeCells z.cells (m.toNat*i.size)) (hflen _) (by rw[size_madeCells,hs1]) (by omega) (by omega) ?_ (heap_alloc_new R _)
   rw[hmade]
   exact htake _ _ (by omega)
  ·generalize m.toNat=c at hg
   cases c with
   |zero=>cases hg
   |succ n=>cases hg;exact Nat.le_refl _
end
end Go.Proofs.YtifkbgkbajncjaaDoor
